/- Lemmas. No conditions. -/
import Derived.Test.YtpghiabjaglpgaaGreatDoorD1
import Derived.Test.YtpghiabjaglpgaaGreatDoorA7
set_option linter.all false
noncomputable section
namespace Go.AI
structure Gh where
 O:List (Option (Nat×Nat))
 H:DH
 Pv:List Nat
 s:S
def Gh.Imm(g:Gh)(f:Nat):Prop:=f<g.s.next/\f∉g.Pv/\∀(o v:Nat),g.O[o]? = some (some (f,v))->∃ sz cap l,g.H[o]? = some (DB.buf sz false cap l)
def bc(vs:List V):Prop:=vs.all V.one=true
def Lj(cap:Bool)(n:Nat):Option Nat:=bif cap then some n else none
def Uh(g:Gh)(sz o n:Nat)(v:V):Prop:=∃ st cap l,g.H[o]? = some (DB.buf sz st cap l)/\n<=l.length /\
 ((n=0/\(v=.nilslice\/∃ a z sz',v=.slice a z 0 (some 0) sz'))\/(0<n/\∃ f ver ver' cap',g.O[o]? = some (some (f,ver))/\v=.slice ⟨f,ver',0⟩ 0 n cap' sz/\(n=l.length->ver'=ver/\cap'=Lj cap n)))
mutual
def RD(g:Gh):D->V->Prop
 |.bool b,v=>v=.bool b
 |.int k n,v=>v=.int k n
 |.str l,v=>v=.str l/\∀ c∈l,c<256
 |.ptr o c,v=>∃ f ver,g.O[o]? = some (some (f,ver))/\v=.ptr ⟨f,0,c⟩
 |.eptr cs c,v=>∃ a vs,v=.ptr (cM a c)/\g.Imm a.f/\loadCells g.s a cs.length=some vs/\RL g cs vs/\bc vs
 |.bptr o n i c,v=>∃ f ver sz st cap l ver',g.O[o]? = some (some (f,ver))/\g.H[o]? = some (DB.buf sz st cap l)/\n<=l.length/\i<n/\v=.ptr ⟨f,ver',i*sz+c⟩/\(n=l.length->ver'=ver)
 |.nilptr,v=>v=.nilptr
 |.row sz l,v=>(l=[]/\v=.nilslice)\/(l=[]/\∃ a z sz',v=.slice a z 0 (some 0) sz') \/
  ∃ a z cap,v=.slice a z l.length cap sz/\0<sz/\(cap.isSome=true\/z=a.c)/\(∀ c,cap=some c->l.length<=c)/\(l≠[]->g.Imm a.f)/\RR g a sz l
 |.buf sz o n,v=>Uh g sz o n v
 |.nilrow,v=>v=.nilslice\/∃ a z sz,v=.slice a z 0 (some 0) sz
 |.map o,v=>∃ f ver,g.O[o]? = some (some (f,ver))/\v=.map f
 |.nilmap,v=>v=.nilmap
 |.func fn a b,v=>∃ e h,v=.func (.func fn) e h/\RL g a e/\RL g b h
 |.nilFunc,v=>v=.nilFunc
 |.iface t d,v=>∃ v',v=.iface t v'/\RD g d v'
 |.nilIface,v=>v=.nilIface
 |.yld o,v=>∃ f ver,g.O[o]? = some (some (f,ver))/\v=.func (.yield f) [] []
 |.abool,v=>∃ q,v=.bool q
 |.agg cs,v=>∃ vs,v=.agg vs/\RL g cs vs/\bc vs
 |.tuple ds,v=>∃ vs,v=.tuple vs/\RL g ds vs
def RL(g:Gh):List D->List V->Prop
 |[],vs=>vs=[]
 |d::r,vs=>∃ v vs',vs=v::vs'/\RD g d v/\RL g r vs'
def RR(g:Gh)(a:Ad)(sz:Nat):List (List D)->Prop
 |[]=>True
 |cs::r=>(∃ vs,cs.length=sz/\loadCells g.s a sz=some vs/\RL g cs vs/\bc vs)/\RR g (cM a sz) sz r
end
theorem BT(a:Ad)(m n:Nat):cM (cM a m) n=cM a (m+n):=by simp only[cM,ajE]
theorem TY(a:Ad)(m:Nat):(cM a m).f=a.f:=rfl
structure qh(g g':Gh):Prop where
 hl:g.H.length<=g'.H.length
 o1:∀(o f v:Nat),g.O[o]? = some (some (f,v))->∃ v',g'.O[o]? = some (some (f,v'))
 buf:∀(o:Nat) sz st cap l,g.H[o]? = some (DB.buf sz st cap l)->∃ st' cap' l',g'.H[o]? = some (DB.buf sz st' cap' l')/\l.length<=l'.length/\(st=false->st'=false)/\(l.length=l'.length->cap'=cap/\g'.O[o]? = g.O[o]?)
 imm:∀ f,g.Imm f->g'.Imm f
 cells:∀ a n vs,g.Imm a.f->loadCells g.s a n=some vs->loadCells g'.s a n=some vs
 next:g.s.next<=g'.s.next
theorem qh.refl(g:Gh):qh g g:=⟨abD _,fun _ _ v h=>⟨v,h⟩,fun _ _ st cap l h=>⟨st,cap,l,h,abD _,id,fun _=>⟨rfl,rfl⟩⟩,fun _ h=>h,fun _ _ _ _ h=>h,abD _⟩
theorem qh.trans{a b c:Gh}(h:qh a b)(k:qh b c):qh a c:=by
 refine⟨ajd h.hl k.hl,fun o f v ho=>?_,fun o sz st cap l ho=>?_,fun f q=>k.imm f (h.imm f q),fun x n vs hi r=>k.cells x n vs (h.imm _ hi) (h.cells x n vs hi r),ajd h.next k.next⟩
 ·obtain⟨v',d⟩:=h.o1 o f v ho;exact k.o1 o f v' d
 ·obtain⟨st',cap',l',d,s,u,i⟩:=h.buf o sz st cap l ho;obtain⟨st2,cap2,l2,w,y,z,j⟩:=k.buf o sz st' cap' l' d;refine⟨st2,cap2,l2,w,ajd s y,fun e=>z (u e),fun e=>?_⟩;have m:l.length=l'.length:=by omega
  have p:l'.length=l2.length:=by omega
  exact⟨(j p).1.trans (i m).1,(j p).2.trans (i m).2⟩
theorem Uh.mono{g g':Gh}(h:qh g g'){sz o n:Nat}{v:V}(r:Uh g sz o n v):Uh g' sz o n v:=by
 obtain⟨st,cap,l,j,k,a⟩:=r;obtain⟨st',cap',l',m,p,k3,q⟩:=h.buf o sz st cap l j;refine⟨st',cap',l',m,ajd k p,?_⟩;rcases a with a|⟨a,f,ver,ver',c,i,s,u⟩
 ·exact .inl a
 ·obtain⟨w,d⟩:=h.o1 o f ver i;refine .inr ⟨a,f,w,ver',c,d,s,fun e=>?_⟩;obtain⟨y,z⟩:=q (by omega);rw[z,i]at d;cases d;rw[y];exact u (by omega)
mutual
theorem RD.mono{g g':Gh}(h:qh g g'):∀ {d:D} {v:V},RD g d v->RD g' d v
 |.bool _,_,r=>by simpa only[RD]using r
 |.int ..,_,r=>by simpa only[RD]using r
 |.str _,_,r=>by simpa only[RD]using r
 |.ptr o c,v,r=>by simp only[RD]at r ⊢;obtain⟨f,ver,j,k⟩:=r;obtain⟨v',m⟩:=h.o1 o f ver j;exact⟨f,v',m,k⟩
 |.eptr cs c,v,r=>by simp only[RD]at r ⊢;obtain⟨a,vs,j,k,m,q,p⟩:=r;exact⟨a,vs,j,h.imm _ k,h.cells _ _ _ k m,RL.mono h q,p⟩
 |.bptr o n i c,v,r=>by simp only[RD]at r ⊢;obtain⟨f,ver,sz,st,cap,l,ver',j,k,m,q,p,s⟩:=r;obtain⟨st',cap',l',w,k2,k3,A⟩:=h.buf o sz st cap l k;obtain⟨E,u⟩:=h.o1 o f ver j;refine⟨f,E,sz,st',cap',l',ver',u,w,by omega,q,p,fun e=>?_⟩;obtain⟨_,F⟩:=A (by omega);rw[F,j]at u;cases u;exact s (by omega)
 |.nilptr,_,r=>by simpa only[RD]using r
 |.row sz l,v,r=>by
  simp only[RD]at r ⊢;rcases r with r|r|⟨a,z,cap,j,k,m,q,p,s⟩
  ·exact .inl r
  ·exact .inr (.inl r)
  ·refine .inr (.inr ⟨a,z,cap,j,k,m,q,fun e=>h.imm _ (p e),?_⟩);cases hl:l with
   |nil=>simp only[RR]
   |cons x y=>rw[<- hl];exact RR.mono h (p (by rw[hl];simp)) s
 |.buf sz o n,v,r=>by simp only[RD]at r ⊢;exact r.mono h
 |.nilrow,_,r=>by simpa only[RD]using r
 |.map o,v,r=>by simp only[RD]at r ⊢;obtain⟨f,ver,j,k⟩:=r;obtain⟨v',m⟩:=h.o1 o f ver j;exact⟨f,v',m,k⟩
 |.nilmap,_,r=>by simpa only[RD]using r
 |.func fn a b,v,r=>by simp only[RD]at r ⊢;obtain⟨G,H,j,k,m⟩:=r;exact⟨G,H,j,RL.mono h k,RL.mono h m⟩
 |.nilFunc,_,r=>by simpa only[RD]using r
 |.iface t d,v,r=>by simp only[RD]at r ⊢;obtain⟨v',j,k⟩:=r;exact⟨v',j,RD.mono h k⟩
 |.nilIface,_,r=>by simpa only[RD]using r
 |.yld o,v,r=>by simp only[RD]at r ⊢;obtain⟨f,ver,j,k⟩:=r;obtain⟨v',m⟩:=h.o1 o f ver j;exact⟨f,v',m,k⟩
 |.abool,_,r=>by simpa only[RD]using r
 |.agg cs,v,r=>by simp only[RD]at r ⊢;obtain⟨vs,j,k,m⟩:=r;exact⟨vs,j,RL.mono h k,m⟩
 |.tuple ds,v,r=>by simp only[RD]at r ⊢;obtain⟨vs,j,k⟩:=r;exact⟨vs,j,RL.mono h k⟩
theorem RL.mono{g g':Gh}(h:qh g g'):∀ {ds:List D} {vs:List V},RL g ds vs->RL g' ds vs
 |[],_,r=>by simpa only[RL]using r
 |d::l,vs,r=>by simp only[RL]at r ⊢;obtain⟨v,vs',a,c,e⟩:=r;exact⟨v,vs',a,RD.mono h c,RL.mono h e⟩
theorem RR.mono{g g':Gh}(h:qh g g'):∀ {l:List (List D)} {a:Ad} {sz:Nat},g.Imm a.f->RR g a sz l->RR g' a sz l
 |[],_,_,_,_=>by simp only[RR]
 |cs::l,a,sz,hi,r=>by simp only[RR]at r ⊢;obtain⟨⟨vs,c,d,e,i⟩,j⟩:=r;exact⟨⟨vs,c,h.cells _ _ _ hi d,RL.mono h e,i⟩,RR.mono h (by rw[TY];exact hi) j⟩
end
theorem RL.len{g:Gh}:∀ {ds:List D} {vs:List V},RL g ds vs->vs.length=ds.length
 |[],_,r=>by simp only[RL]at r;rw[r];rfl
 |d::l,_,r=>by simp only[RL]at r;obtain⟨v,vs',rfl,_,a⟩:=r;simp only[aeJ,RL.len a]
theorem RL.at{g:Gh}:∀ {ds:List D} {vs:List V} {i:Nat} {d:D},RL g ds vs->ds[i]? = some d->∃ v,vs[i]? = some v/\RD g d v
 |[],_,i,d,r,h=>by simp at h
 |x::l,_,i,d,r,h=>by
  simp only[RL]at r;obtain⟨v,vs',rfl,a,c⟩:=r;cases i with
  |zero=>simp at h;subst h;exact⟨v,rfl,a⟩
  |succ i=>simpa using RL.at c (by simpa using h)
theorem RL.append{g:Gh}:∀ {a:List D} {x:List V} {b:List D} {y:List V},RL g a x->RL g b y->RL g (a++b) (x++y)
 |[],_,b,y,h,k=>by simp only[RL]at h;subst h;exact k
 |d::l,_,b,y,h,k=>by simp only[RL]at h;obtain⟨v,vs',rfl,c,e⟩:=h;simp only[aiL,RL];exact⟨v,vs'++y,rfl,c,RL.append e k⟩
theorem RL.drop{g:Gh}:∀ {a:List D} {x:List V} (n:Nat),RL g a x->RL g (a.drop n) (x.drop n)
 |a,x,0,h=>h
 |[],_,n+1,h=>by simp only[RL]at h;subst h;simp[RL]
 |d::l,_,n+1,h=>by simp only[RL]at h;obtain⟨v,vs',rfl,_,c⟩:=h;simpa using RL.drop n c
theorem RL.take{g:Gh}:∀ {a:List D} {x:List V} (n:Nat),RL g a x->RL g (a.take n) (x.take n)
 |a,x,0,h=>by simp[RL]
 |[],_,n+1,h=>by simp only[RL]at h;subst h;simp[RL]
 |d::l,_,n+1,h=>by simp only[RL]at h;obtain⟨v,vs',rfl,c,e⟩:=h;simp only[ajs,RL];exact⟨v,_,rfl,c,RL.take n e⟩
theorem RL.set{g:Gh}:∀ {a:List D} {x:List V} (i:Nat) {d:D} {v:V},RL g a x->RD g d v->RL g (a.set i d) (x.set i v)
 |[],_,i,d,v,h,k=>by simp only[RL]at h;subst h;simp[RL]
 |y::l,_,0,d,v,h,k=>by simp only[RL]at h;obtain⟨w,vs',rfl,e,c⟩:=h;simp only[List.set_cons_zero,RL];exact⟨v,vs',rfl,k,c⟩
 |y::l,_,i+1,d,v,h,k=>by simp only[RL]at h;obtain⟨w,vs',rfl,e,c⟩:=h;simp only[List.set_cons_succ,RL];exact⟨w,_,rfl,e,RL.set i c k⟩
theorem RR.at{g:Gh}:∀ {l:List (List D)} {a:Ad} {sz i:Nat} {cs:List D},RR g a sz l->l[i]? = some cs->∃ vs,cs.length=sz/\loadCells g.s (cM a (i*sz)) sz=some vs/\RL g cs vs/\bc vs
 |[],_,_,_,_,_,h=>by simp at h
 |x::l,a,sz,i,cs,r,h=>by
  simp only[RR]at r;cases i with
  |zero=>simp at h;subst h;rw[akk];exact r.1
  |succ i =>have:=RR.at r.2 (i:=i) (by simpa using h);rw[BT,show sz+i*sz=(i+1)*sz by rw[akf,Nat.one_mul,Nat.add_comm]]at this;exact this
theorem RR.of{g:Gh}:∀ {l:List (List D)} {a:Ad} {sz:Nat},(∀ i cs,l[i]? = some cs->∃ vs,cs.length=sz/\loadCells g.s (cM a (i*sz)) sz=some vs/\RL g cs vs/\bc vs)->RR g a sz l
 |[],_,_,_=>by simp only[RR]
 |x::l,a,sz,h=>by
  simp only[RR];refine⟨?_,RR.of fun i cs c=>?_⟩
  ·have:=h 0 x rfl;rw[akk]at this;exact this
  ·rw[BT,show sz+i*sz=(i+1)*sz by rw[akf,Nat.one_mul,Nat.add_comm]];exact h (i+1) cs (by simpa using c)
def RS(g:Gh)(LO:List Nat):LD->V->Prop
 |.g d,v=>RD g d v
 |.lp k c,v=>∃ f,LO[k]? = some f/\v=.ptr ⟨f,0,c⟩
 |.u,v=>v=V.undef
theorem RS.mono{g g':Gh}(h:qh g g'){LO:List Nat}{x:LD}{v:V}(r:RS g LO x v):RS g' LO x v:=by
 cases x with
 |g d=>exact RD.mono h r
 |lp k c=>exact r
 |u=>exact r
theorem RS.ext{g:Gh}{LO LO':List Nat}(h:LO <+: LO'){x:LD}{v:V}(r:RS g LO x v):RS g LO' x v:=by
 cases x with
 |g d=>exact r
 |lp k c =>
  obtain⟨f,a,e⟩:=r;obtain⟨m,rfl⟩:=h;refine⟨f,?_,e⟩;rw[aeN]
  ·exact a
  ·rcases aiA k LO.length with q|q
   ·exact q
   ·rw[aeF q]at a;cases a
 |u=>exact r
def CM(g:Gh)(LO:List Nat)(t:T LD)(tv:T V):Prop:=∀ i x,t.get (fu i)=some x->∃ v,tv.get (fu i)=some v/\RS g LO x v
theorem CM.mono{g g':Gh}(h:qh g g'){LO LO':List Nat}(hl:LO <+: LO'){t:T LD}{tv:T V}(r:CM g LO t tv):CM g' LO' t tv:=fun i x a=>by obtain⟨v,c,d⟩:=r i x a;exact⟨v,c,(d.mono h).ext hl⟩
def PvR(g:Gh)(x:Nat×List D)(f:Nat):Prop:=f∈g.Pv/\(x.2=[]\/∃ el vs,g.s.get f=some (.cells el false 1 [⟨0,0,vs⟩])/\RL g x.2 vs/\bc vs)
def LRw(g:Gh)(L:LS)(LO:List Nat):Prop:=∀(k:Nat) x f,L[k]? = some x->LO[k]? = some f->PvR g x f
def LR(g:Gh)(L:LS)(LO:List Nat):Prop:=L.length=LO.length/\LRw g L LO
def rG(g:Gh):List (D×D)->List qi->Prop
 |[],es=>es=[]
 |(k,v)::r,es=>∃ e es',es=e::es'/\RD g k e.key/\RD g v e.val/\e.key.one=true/\rG g r es'
theorem rG.mono{g g':Gh}(h:qh g g'):∀ {l:List (D×D)} {es:List qi},rG g l es->rG g' l es
 |[],_,r=>r
 |(k,v)::l,_,r=>by obtain⟨e,es',a,c,d,i,j⟩:=r;exact⟨e,es',a,RD.mono h c,RD.mono h d,i,rG.mono h j⟩
def nJ(g:Gh)(o:Nat):DB->Prop
 |.dead=>False
 |.opq=>∃ f v,g.O[o]? = some (some (f,v))
 |.coll=>∃ f,g.O[o]? = some (some (f,0))/\g.s.get f=some .deferred
 |.loop rdy fn nt t ps a b=>∃ f tv d,g.O[o]? = some (some (f,0))/\g.s.get f=some (.loop (bif rdy then .ready else .busy) none fn tv ps a b d nt)/\CM g [] t tv
 |.cells _ cs=>∃ f el vs,g.O[o]? = some (some (f,0))/\g.s.get f=some (.cells el false 1 [⟨0,0,vs⟩])/\RL g cs vs/\bc vs
 |.map es=>∃ f ents clock,g.O[o]? = some (some (f,0))/\g.s.get f=some (.map ents clock)/\rG g es ents
 |.buf sz _ _ l=>0<sz/\((l=[]/\g.O[o]? = some none)\/(l≠[]/\∃ f ver el nv vers cells,g.O[o]? = some (some (f,ver))/\g.s.get f=some (.cells el false nv vers) /\
  bV vers ver=some ⟨ver,0,cells⟩/\cells.length=l.length*sz/\(∀ u∈vers,u.v<nv/\u.lo+u.cells.length<=cells.length)/\RR g ⟨f,ver,0⟩ sz l))
class fY where
 I:S->Prop
 bl:List Nat
 stb:∀ s s':S,(∀ f∈bl,s'.get f=s.get f)->I s->I s'
variable[fY]
structure Gl(g:Gh):Prop where
 i:fY.I g.s
 b:∀ f∈fY.bl,f<g.s.next/\f∉g.Pv/\∀(o v:Nat),g.O[o]?≠some (some (f,v))
theorem Gl.to{g g':Gh}(h:Gl g)(k:∀ f,f<g.s.next->f∉g.Pv->(∀(o v:Nat),g.O[o]?≠some (some (f,v)))->g'.s.get f=g.s.get f/\f<g'.s.next/\f∉g'.Pv/\∀(o v:Nat),g'.O[o]?≠some (some (f,v))):Gl g' :=
 ⟨fY.stb _ _ (fun f a=>(k f (h.b f a).1 (h.b f a).2.1 (h.b f a).2.2).1) h.i,fun f a=>(k f (h.b f a).1 (h.b f a).2.1 (h.b f a).2.2).2⟩
structure Ok(g:Gh):Prop where
 len:g.O.length=g.H.length
 wf:WF g.s
 inj:∀(o o' f v v':Nat),g.O[o]? = some (some (f,v))->g.O[o']? = some (some (f,v'))->o=o'
 lt:∀(o f v:Nat),g.O[o]? = some (some (f,v))->f<g.s.next/\f∉g.Pv
 pv:∀ f∈g.Pv,f<g.s.next
 obj:∀(o:Nat) b,g.H[o]? = some b->nJ g o b
 gl:Gl g
structure Mv(b:Nat)(g g':Gh):Prop where
 le:qh g g'
 out:∀ f,f<b->(∀(o v:Nat),g.O[o]?≠some (some (f,v)))->g'.s.get f=g.s.get f
 fresh:∀(o f v:Nat),g'.O[o]? = some (some (f,v))->f<b->∃ v',g.O[o]? = some (some (f,v'))
 stm:∀(o:Nat) s1 c1 f v,g.H[o]? = some (.cells s1 c1)->g.O[o]? = some (some (f,v))->∃ s2 c2,g'.H[o]? = some (.cells s2 c2)/\s1<=s2/\(s1=s2->c2=c1/\g'.s.get f=g.s.get f)
theorem Mv.refl(b:Nat)(g:Gh):Mv b g g:=⟨.refl g,fun _ _ _=>rfl,fun _ _ v h _=>⟨v,h⟩,fun _ s1 c1 _ _ h _=>⟨s1,c1,h,abD _,fun _=>⟨rfl,rfl⟩⟩⟩
theorem Mv.trans{b:Nat}{x y z:Gh}(h:Mv b x y)(k:Mv b y z):Mv b x z:=by
 refine⟨h.le.trans k.le,fun f a d=>?_,fun o f v ho a=>?_,fun o s1 c1 f v c i=>?_⟩
 ·rw[k.out f a fun o v e=>?_,h.out f a d];obtain⟨v',c⟩:=h.fresh o f v e a;exact d o v' c
 ·obtain⟨v',c⟩:=k.fresh o f v ho a;exact h.fresh o f v' c a
 ·obtain⟨s2,c2,j,l,m⟩:=h.stm o s1 c1 f v c i;obtain⟨v',n⟩:=h.le.o1 o f v i;obtain⟨p,c3,q,r,s⟩:=k.stm o s2 c2 f v' j n;refine⟨p,c3,q,ajd l r,fun e=>?_⟩;obtain⟨u,w⟩:=m (by omega);obtain⟨A,E⟩:=s (by omega);exact⟨A.trans u,E.trans w⟩
theorem Mv.down{b c:Nat}{g g':Gh}(h:Mv b g g')(hc:c<=b):Mv c g g':=⟨h.le,fun f a=>h.out f (aiN a hc),fun o f v ho a=>h.fresh o f v ho (aiN a hc),h.stm⟩
structure FI(b:Nat)(P0:List Nat)(g:Gh)(t:T LD)(L:LS)(tv:T V)(LO:List Nat):Prop where
 ok:Ok g
 slots:CM g LO t tv
 own:LR g L LO
 pv:g.Pv=P0++LO
 low:∀ f∈LO,b<=f
 nd:LO.Nodup
 bl:b<=g.s.next
end Go.AI
namespace Go.AI
variable[fY]
theorem dz{s s':S}{a:Ad}(h:s'.get a.f=s.get a.f)(n:Nat):loadCells s' a n=loadCells s a n:=by unfold loadCells;rw[h]
theorem RR.keep{g g':Gh}(h:qh g g'):∀ {l:List (List D)} {a:Ad} {sz:Nat},g'.s.get a.f=g.s.get a.f->RR g a sz l->RR g' a sz l
 |[],_,_,_,_=>by simp only[RR]
 |cs::l,a,sz,hi,r=>by simp only[RR]at r ⊢;obtain⟨⟨vs,c,d,e,i⟩,j⟩:=r;exact⟨⟨vs,c,by rw[dz hi];exact d,RL.mono h e,i⟩,RR.keep h (by rw[TY];exact hi) j⟩
theorem nJ.keep{g g':Gh}(h:qh g g'){o:Nat}{b:DB}(i:g'.O[o]? = g.O[o]?)(k:∀ f v,g.O[o]? = some (some (f,v))->g'.s.get f=g.s.get f)(r:nJ g o b):nJ g' o b:=by
 cases b with
 |dead=>exact r
 |opq=>obtain⟨f,v,a⟩:=r;exact⟨f,v,by rw[i];exact a⟩
 |coll=>obtain⟨f,a,e⟩:=r;exact⟨f,by rw[i];exact a,by rw[k f 0 a];exact e⟩
 |loop _ _ _ _ _ _ _=>obtain⟨f,tv,d,a,e,j⟩:=r;exact⟨f,tv,d,by rw[i];exact a,by rw[k f 0 a];exact e,j.mono h ajF⟩
 |cells st cs =>obtain⟨f,el,vs,a,e,j,m⟩:=r;exact⟨f,el,vs,by rw[i];exact a,by rw[k f 0 a];exact e,j.mono h,m⟩
 |map es =>obtain⟨f,ents,c,a,e,j⟩:=r;exact⟨f,ents,c,by rw[i];exact a,by rw[k f 0 a];exact e,j.mono h⟩
 |buf sz st cap l =>
  obtain⟨h0,a|⟨a,f,ver,el,nv,vers,cells,e,j,m,n,p,q⟩⟩:=r
  ·exact⟨h0,.inl ⟨a.1,by rw[i];exact a.2⟩⟩
  ·exact⟨h0,.inr ⟨a,f,ver,el,nv,vers,cells,by rw[i];exact e,by rw[k f ver e];exact j,m,n,p,q.keep h (k f ver e)⟩⟩
theorem LR.keep{g g':Gh}(h:qh g g'){L:LS}{LO:List Nat}(hp:∀ f∈LO,f∈g'.Pv)(d:∀ f∈LO,g'.s.get f=g.s.get f)(r:LR g L LO):LR g' L LO:=by
 refine⟨r.1,fun k x f e c=>?_⟩;have hm:=aiR c;obtain⟨h1,a⟩:=r.2 k x f e c;refine⟨hp f hm,?_⟩;rcases a with a|⟨el,vs,a,i,j⟩
 ·exact .inl a
 ·exact .inr ⟨el,vs,by rw[d f hm];exact a,i.mono h,j⟩
theorem aV{s:S}{B:eh}{f:Nat}(h:f<s.next):(s.alloc B).get f=s.get f:=by rw[S.get_alloc,aeD (by omega)]
theorem tH{s:S}{B:eh}{f:Nat}(h:f<s.next):f<(s.alloc B).next:=by rw[S.next_alloc];omega
theorem rI{s:S}(a:WF s)(B:eh):WF (s.alloc B):=(Fw.alloc [] a B).wf a
theorem PU{s:S}(c:WF s){f:Nat}{B0:eh}(h0:s.get f=some B0)(B:eh):WF (s.put f B):=fun g C a=>by
 rw[S.get_put]at a;rw[S.next_put];split at a
 ·rename_i e;subst e;exact c _ _ h0
 ·exact c g C a
theorem gT{α:Type}(l:List α)(x:α):(l++[x])[l.length]? = some x:=by simp
theorem fH{α:Type}{l:List α}{i:Nat}{x:α}(m:List α)(h:l[i]? = some x):(l++m)[i]? = some x:=by
 rw[aeN]
 ·exact h
 ·rcases aiA i l.length with q|q
  ·exact q
  ·rw[aeF q]at h;cases h
theorem bG{α:Type}{l:List α}{i:Nat}{x y:α}(h:(l++[y])[i]? = some x):l[i]? = some x\/(i=l.length/\x=y):=by
 rcases Nat.lt_trichotomy i l.length with q|q|q
 ·rw[aeN q]at h;exact .inl h
 ·subst q;rw[gT]at h;cases h;exact .inr ⟨rfl,rfl⟩
 ·rw[aeF (by simp;omega)]at h;cases h
section
variable{b:Nat}{P0:List Nat}{g:Gh}{t:T LD}{L:LS}{tv:T V}{LO:List Nat}
def Gh.blk(g:Gh)(B:eh):Gh:=⟨g.O,g.H,g.Pv,g.s.alloc B⟩
theorem VS(B:eh){f:Nat}(h:g.Imm f):(g.blk B).Imm f:=⟨by show f<(g.s.alloc B).next;rw[S.next_alloc];have:=h.1;omega,h.2.1,h.2.2⟩
theorem KB(B:eh):qh g (g.blk B):=by refine⟨abD _,fun _ _ v h=>⟨v,h⟩,fun _ _ st cap l h=>⟨st,cap,l,h,abD _,id,fun _=>⟨rfl,rfl⟩⟩,fun f h=>VS B h,fun a n vs hi c=>?_,by show _<=(g.s.alloc B).next;rw[S.next_alloc];omega⟩;rw[<- c];exact dz (aV hi.1) n
theorem Ok.blk(h:Ok g)(B:eh):Ok (g.blk B):=by
 refine⟨h.len,rI h.wf B,h.inj,fun o f v ho=>⟨?_,(h.lt o f v ho).2⟩,fun f a=>?_,fun o b hb=>(h.obj o b hb).keep (KB B) rfl fun f v ho=>aV (h.lt o f v ho).1,h.gl.to fun f a hp ho=>⟨aV a,tH a,hp,ho⟩⟩
 ·have:=(h.lt o f v ho).1;show f<(g.s.alloc B).next;rw[S.next_alloc];omega
 ·have:=h.pv f a;show f<(g.s.alloc B).next;rw[S.next_alloc];omega
theorem Kr(h:Ok g)(hb:b<=g.s.next)(B:eh):Mv b g (g.blk B):=⟨KB B,fun f a _=>aV (aiN a hb),fun _ _ v h _=>⟨v,h⟩,fun o s1 c1 f v c d=>⟨s1,c1,c,abD _,fun _=>⟨rfl,aV (h.lt o f v d).1⟩⟩⟩
theorem FI.to(h:FI b P0 g t L tv LO){g':Gh}(a:Ok g')(hm:Mv b g g')(hp:g'.Pv=g.Pv)(c:∀ f∈LO,g'.s.get f=g.s.get f):FI b P0 g' t L tv LO :=
 ⟨a,h.slots.mono hm.le ajF,h.own.keep hm.le (fun f d=>by rw[hp,h.pv];exact aiH _ d) c,by rw[hp];exact h.pv,h.low,h.nd,ajd h.bl hm.le.next⟩
theorem FI.lo_lt(h:FI b P0 g t L tv LO){f:Nat}(a:f∈LO):f<g.s.next:=h.ok.pv f (by rw[h.pv];exact aiH _ a)
theorem FI.lo_out(h:FI b P0 g t L tv LO){f:Nat}(a:f∈LO)(o v:Nat):g.O[o]?≠some (some (f,v)):=fun e=>(h.ok.lt o f v e).2 (by rw[h.pv];exact aiH _ a)
theorem FI.blk(h:FI b P0 g t L tv LO)(B:eh):FI b P0 (g.blk B) t L tv LO:=h.to (h.ok.blk B) (Kr h.ok h.bl B) rfl fun _ a=>aV (h.lo_lt a)
def Gh.obj(g:Gh)(x:DB)(B:eh):Gh:=⟨g.O++[some (g.s.next,0)],g.H++[x],g.Pv,g.s.alloc B⟩
theorem VR(hl:g.O.length=g.H.length)(x:DB)(B:eh){f:Nat}(h:g.Imm f):(g.obj x B).Imm f:=by
 refine⟨by show f<(g.s.alloc B).next;rw[S.next_alloc];have:=h.1;omega,h.2.1,fun o v ho=>?_⟩;rcases bG ho with ho|⟨_,e⟩
 ·obtain⟨sz,cap,l,a⟩:=h.2.2 o v ho;exact⟨sz,cap,l,fH _ a⟩
 ·simp only[abB,ajr]at e;have:=h.1;omega
theorem Af(hl:g.O.length=g.H.length)(x:DB)(B:eh):qh g (g.obj x B):=by
 refine⟨by simp[Gh.obj],fun _ _ v h=>⟨v,fH _ h⟩,fun o _ st cap l h=>⟨st,cap,l,fH _ h,abD _,id,fun _=>⟨rfl,?_⟩⟩,fun f h=>VR hl x B h,fun a n vs hi c=>?_,by show _<=(g.s.alloc B).next;rw[S.next_alloc];omega⟩
 ·have:o<g.H.length:=by
   rcases aiA o g.H.length with q|q
   ·exact q
   ·rw[aeF q]at h;cases h
  show(g.O++_)[o]? = _;rw[aeN (by omega)]
 ·rw[<- c];exact dz (aV hi.1) n
theorem Ok.mkobj(h:Ok g){x:DB}{B:eh}(n:nJ (g.obj x B) g.H.length x):Ok (g.obj x B):=by
 refine⟨by simp[Gh.obj,h.len],rI h.wf B,fun o o' f v v' a d=>?_,fun o f v ho=>?_,fun f i=>?_,fun o c hc=>?_,h.gl.to fun f i hp ho=>⟨aV i,tH i,hp,fun o v k=>?_⟩⟩
 ·rcases bG a with a|⟨m,j⟩<;>rcases bG d with d|⟨e3,p⟩
  ·exact h.inj o o' f v v' a d
  ·cases p;have:=(h.lt o _ v a).1;omega
  ·cases j;have:=(h.lt o' _ v' d).1;omega
  ·omega
 ·rcases bG ho with ho|⟨_,e⟩
  ·exact⟨by have:=(h.lt o f v ho).1;show f<(g.s.alloc B).next;rw[S.next_alloc];omega,(h.lt o f v ho).2⟩
  ·cases e;exact⟨by show g.s.next<(g.s.alloc B).next;rw[S.next_alloc];omega,fun hp=>by have:=h.pv _ hp;omega⟩
 ·have:=h.pv f i;show f<(g.s.alloc B).next;rw[S.next_alloc];omega
 ·rcases bG hc with hc|⟨m,j⟩
  ·have l:o<g.O.length:=by
    rw[h.len];rcases aiA o g.H.length with q|q
    ·exact q
    ·rw[aeF q]at hc;cases hc
   exact(h.obj o c hc).keep (Af h.len x B) (by show(g.O++_)[o]? = _;rw[aeN l]) fun f v ho=>aV (h.lt o f v ho).1
  ·subst m;subst j;exact n
 ·rcases bG k with k|⟨_,e⟩
  ·exact ho o v k
  ·cases e;omega
theorem qV(h:Ok g)(hb:b<=g.s.next)(x:DB)(B:eh):Mv b g (g.obj x B):=by
 refine⟨Af h.len x B,fun f a _=>aV (aiN a hb),fun o f v ho a=>?_,fun o s1 c1 f v c d=>⟨s1,c1,fH _ c,abD _,fun _=>⟨rfl,aV (h.lt o f v d).1⟩⟩⟩;rcases bG ho with ho|⟨_,e⟩
 ·exact⟨v,ho⟩
 ·cases e;omega
theorem FI.mkobj(h:FI b P0 g t L tv LO){x:DB}{B:eh}(a:nJ (g.obj x B) g.H.length x):FI b P0 (g.obj x B) t L tv LO :=
 h.to (h.ok.mkobj a) (qV h.ok h.bl x B) rfl fun _ c=>aV (h.lo_lt c)
theorem oG(h:Ok g)(x:DB)(B:eh):(g.obj x B).O[g.H.length]? = some (some (g.s.next,0)):=by show(g.O++_)[_]? = _;rw[<- h.len];exact gT _ _
theorem su(x:DB)(B:eh):(g.obj x B).s.get g.s.next=some B:=gU _ _
def Gh.prv(g:Gh)(B:eh):Gh:=⟨g.O,g.H,g.Pv++[g.s.next],g.s.alloc B⟩
theorem KA(B:eh):qh g (g.prv B):=by
 refine⟨abD _,fun _ _ v h=>⟨v,h⟩,fun _ _ st cap l h=>⟨st,cap,l,h,abD _,id,fun _=>⟨rfl,rfl⟩⟩,fun f h=>⟨?_,fun hm=>?_,h.2.2⟩,fun a n vs hi c=>?_,by show _<=(g.s.alloc B).next;rw[S.next_alloc];omega⟩
 ·show f<(g.s.alloc B).next;rw[S.next_alloc];have:=h.1;omega
 ·rcases aiq.1 hm with hm|hm
  ·exact h.2.1 hm
  ·simp at hm;have:=h.1;omega
 ·rw[<- c];exact dz (aV hi.1) n
theorem Ok.prv(h:Ok g)(B:eh):Ok (g.prv B):=by
 refine⟨h.len,rI h.wf B,h.inj,fun o f v ho=>⟨?_,fun hm=>?_⟩,fun f a=>?_,fun o b hb=>(h.obj o b hb).keep (KA B) rfl fun f v ho=>aV (h.lt o f v ho).1,h.gl.to fun f a hp ho=>⟨aV a,tH a,fun hm=>?_,ho⟩⟩
 ·have:=(h.lt o f v ho).1;show f<(g.s.alloc B).next;rw[S.next_alloc];omega
 ·rcases aiq.1 hm with hm|hm
  ·exact(h.lt o f v ho).2 hm
  ·simp at hm;have:=(h.lt o f v ho).1;omega
 ·show f<(g.s.alloc B).next;rw[S.next_alloc];rcases aiq.1 a with a|a
  ·have:=h.pv f a;omega
  ·simp at a;omega
 ·rcases aiq.1 hm with hm|hm
  ·exact hp hm
  ·simp at hm;omega
theorem Zz(h:Ok g)(hb:b<=g.s.next)(B:eh):Mv b g (g.prv B):=⟨KA B,fun f a _=>aV (aiN a hb),fun _ _ v h _=>⟨v,h⟩,fun o s1 c1 f v c d=>⟨s1,c1,c,abD _,fun _=>⟨rfl,aV (h.lt o f v d).1⟩⟩⟩
theorem FI.prv(h:FI b P0 g t L tv LO){el:TypeId}{cs:List D}{vs:List V}{st:Nat}(hr:RL g cs vs)(ho:bc vs) :
 FI b P0 (g.prv (.cells el false 1 [⟨0,0,vs⟩])) t (L++[(st,cs)]) tv (LO++[g.s.next]):=by
 have c:=KA (g:=g) (.cells el false 1 [⟨0,0,vs⟩]);have i:∀ f∈LO,f<g.s.next:=fun f a=>h.lo_lt a;refine⟨h.ok.prv _,h.slots.mono c (List.prefix_append _ _),⟨by simp[h.own.1],fun k x f d a=>?_⟩,by show g.Pv++_=_;rw[h.pv,aix],fun f a=>?_,?_,ajd h.bl c.next⟩
 ·rcases bG d with d|⟨l,m⟩
  ·rcases bG a with a|⟨n,_⟩
   ·have hm:=aiR a;obtain⟨p,j⟩:=h.own.2 k x f d a;refine⟨aiT _ p,?_⟩;rcases j with j|⟨el',vs',j,q,r⟩
    ·exact .inl j
    ·exact .inr ⟨el',vs',by show(g.s.alloc _).get f=_;rw[aV (i f hm)];exact j,q.mono c,r⟩
   ·subst n;rw[<- h.own.1,aeF (abD _)]at d;cases d
  ·subst l;subst m;rw[h.own.1,gT]at a;cases a;exact⟨aiH _ (by simp),.inr ⟨el,vs,gU _ _,hr.mono c,ho⟩⟩
 ·rcases aiq.1 a with a|a
  ·exact h.low f a
  ·simp at a;subst a;exact h.bl
 ·rw[List.nodup_append];exact⟨h.nd,by simp,fun x d y hy e=>by simp at hy;subst hy;subst e;have:=i _ d;omega⟩
def Gh.pput(g:Gh)(f:Nat)(B:eh):Gh:=⟨g.O,g.H,g.Pv,g.s.put f B⟩
theorem FD{f:Nat}(c:f∈g.Pv)(B:eh):qh g (g.pput f B):=by refine⟨abD _,fun _ _ v h=>⟨v,h⟩,fun _ _ st cap l h=>⟨st,cap,l,h,abD _,id,fun _=>⟨rfl,rfl⟩⟩,fun f' h=>⟨by show f'<(g.s.put f B).next;rw[S.next_put];exact h.1,h.2.1,h.2.2⟩,fun a n vs hi d=>?_,by show _<=(g.s.put f B).next;rw[S.next_put];exact abD _⟩;rw[<- d];exact dz (by show(g.s.put f B).get _=_;rw[S.get_put,aeD (fun e=>hi.2.1 (by rw[<- e];exact c))]) n
theorem cT{s:S}{f f':Nat}{B:eh}(h:f≠f'):(s.put f B).get f'=s.get f':=by rw[S.get_put,aeD h]
theorem eV{s:S}{f:Nat}{B:eh}:(s.put f B).get f=some B:=by rw[S.get_put,aeM rfl]
theorem Ok.pput(h:Ok g){f:Nat}(a:f∈g.Pv){B0:eh}(h0:g.s.get f=some B0)(B:eh):Ok (g.pput f B):=by refine⟨h.len,PU h.wf h0 B,h.inj,fun o f' v ho=>⟨by show f'<(g.s.put f B).next;rw[S.next_put];exact(h.lt o f' v ho).1,(h.lt o f' v ho).2⟩,fun f' c=>by show f'<(g.s.put f B).next;rw[S.next_put];exact h.pv f' c,fun o b hb=>(h.obj o b hb).keep (FD a B) rfl fun f' v ho=>cT fun e=>(h.lt o f' v ho).2 (by rw[<- e];exact a),h.gl.to fun f' d hp ho=>⟨cT fun e=>hp (by rw[<- e];exact a),by show f'<(g.s.put f B).next;rw[S.next_put];exact d,hp,ho⟩⟩
theorem Vq(h:Ok g){f:Nat}(a:f∈g.Pv)(hb:b<=f)(B:eh):Mv b g (g.pput f B):=⟨FD a B,fun f' hf' _=>cT (by omega),fun _ _ v h _=>⟨v,h⟩,fun o s1 c1 f' v c d=>⟨s1,c1,c,abD _,fun _=>⟨rfl,cT fun e=>(h.lt o f' v d).2 (by rw[<- e];exact a)⟩⟩⟩
theorem uj:∀ {l:List Nat} (_:l.Nodup) {i j x:Nat} (_:l[i]? = some x) (_:l[j]? = some x),i=j
 |[],_,i,_,_,a,_=>by simp at a
 |y::l,h,i,j,x,a,c=>by
  rw[List.nodup_cons]at h;cases i with
  |zero=>cases j with
   |zero=>rfl
   |succ j =>simp only[akc,abB,ajq]at a c;subst a;exact(h.1 (aiR c)).elim
  |succ i=>cases j with
   |zero =>simp only[akc,abB,ajq]at a c;subst c;exact(h.1 (aiR a)).elim
   |succ j =>simp only[ajq]at a c;rw[uj h.2 a c]
theorem FI.pput(h:FI b P0 g t L tv LO){k f st:Nat}{el:TypeId}{cs:List D}{vs0 vs:List V}(hk:LO[k]? = some f)(h0:g.s.get f=some (.cells el false 1 [⟨0,0,vs0⟩]))(hr:RL g cs vs)(ho:bc vs) :
 FI b P0 (g.pput f (.cells el false 1 [⟨0,0,vs⟩])) t (L.set k (st,cs)) tv LO:=by
 have hm:=aiR hk;have hp:f∈g.Pv:=by rw[h.pv];exact aiH _ hm
 have c:=FD hp (.cells el false 1 [⟨0,0,vs⟩]);refine⟨h.ok.pput hp h0 _,h.slots.mono c ajF,⟨by rw[ajz];exact h.own.1,fun l x f' d a=>?_⟩,h.pv,h.low,h.nd,ajd h.bl c.next⟩;have hm':=aiR a;rw[akl]at d;split at d
 ·rename_i e;subst e;rw[hk]at a;cases a;split at d
  ·cases d;exact⟨hp,.inr ⟨el,vs,eV,hr.mono c,ho⟩⟩
  ·cases d
 ·rename_i j;obtain⟨m,i⟩:=h.own.2 l x f' d a;refine⟨m,?_⟩;rcases i with i|⟨el',vs',i,n,p⟩
  ·exact .inl i
  ·exact .inr ⟨el',vs',by show(g.s.put f _).get f'=_;rw[cT (fun e=>j (uj h.nd hk (by rw[e];exact a)))];exact i,n.mono c,p⟩
end
end Go.AI
namespace Go.AI
variable[fY]
theorem eU{α:Type}{l:List α}{i j:Nat}{x y:α}(h:(l.set i x)[j]? = some y):(i=j/\y=x)\/(i≠j/\l[j]? = some y):=by
 rw[akl]at h;split at h
 ·rename_i e;split at h
  ·cases h;exact .inl ⟨e,rfl⟩
  ·cases h
 ·rename_i e;exact .inr ⟨e,h⟩
theorem cg{α:Type}{l:List α}{i:Nat}{x y:α}(h:l[i]? = some y):(l.set i x)[i]? = some x:=by
 rw[akl,aeM rfl,aeM];rcases aiA i l.length with q|q
 ·exact q
 ·rw[aeF q]at h;cases h
theorem ga{α:Type}{l:List α}{i j:Nat}{x:α}(h:i≠j):(l.set i x)[j]? = l[j]?:=by rw[akl,aeD h]
def aeC(ver ver':Nat)(x0 x:DB):Prop:=∀ sz st cap l,x0=.buf sz st cap l->∃ st' cap' l',x=.buf sz st' cap' l'/\l.length<=l'.length/\(st=false->st'=false)/\(l.length=l'.length->cap'=cap/\ver'=ver)
section
variable{b:Nat}{P0:List Nat}{g:Gh}{t:T LD}{L:LS}{tv:T V}{LO:List Nat}{o f ver ver':Nat}{x0 x:DB}{B0 B:eh}
def Gh.oput(g:Gh)(o:Nat)(x:DB)(f ver':Nat)(B:eh):Gh:=⟨g.O.set o (some (f,ver')),g.H.set o x,g.Pv,g.s.put f B⟩
structure xV(g:Gh)(o:Nat)(x:DB)(f ver ver':Nat)(x0:DB)(B0 B:eh):Prop where
 ho:g.O[o]? = some (some (f,ver))
 hx0:g.H[o]? = some x0
 h0:g.s.get f=some B0
 hb:aeC ver ver' x0 x
 hi:∀ a n vs,g.Imm a.f->a.f=f->loadCells g.s a n=some vs->loadCells (g.s.put f B) a n=some vs
 hst:∀ s1 c1,x0=.cells s1 c1->∃ c2,x=.cells (s1+1) c2
theorem mR(h:Ok g)(c:xV g o x f ver ver' x0 B0 B):qh g (g.oput o x f ver' B):=by
 refine⟨by show _<=(g.H.set o x).length;rw[ajz];exact abD _,fun o' f' v d=>?_,fun o' sz st cap l d=>?_,fun f' d=>⟨by show f'<(g.s.put f B).next;rw[S.next_put];exact d.1,d.2.1,fun o' v k=>?_⟩,fun a n vs hi p=>?_,by show _<=(g.s.put f B).next;rw[S.next_put];exact abD _⟩
 ·by_cases e:o=o'
  ·subst e;rw[c.ho]at d;cases d;exact⟨ver',cg c.ho⟩
  ·exact⟨v,by show(g.O.set o _)[o']? = _;rw[ga e];exact d⟩
 ·by_cases e:o=o'
  ·subst e;rw[c.hx0]at d;cases d;obtain⟨st',cap',l',i,q,m,r⟩:=c.hb sz st cap l rfl;refine⟨st',cap',l',by rw[<- i];exact cg c.hx0,q,m,fun e=>?_⟩;obtain⟨u,w⟩:=r e;exact⟨u,by rw[c.ho,w];exact cg c.ho⟩
  ·exact⟨st,cap,l,by show(g.H.set o _)[o']? = _;rw[ga e];exact d,abD _,id,fun _=>⟨rfl,by show(g.O.set o _)[o']? = _;rw[ga e]⟩⟩
 ·rcases eU k with⟨e,y⟩|⟨e,k⟩
  ·subst e;cases y;obtain⟨sz,cap,l,j⟩:=d.2.2 o ver c.ho;rw[c.hx0]at j;cases j;obtain⟨st',cap',l',i,q,m,r⟩:=c.hb sz false cap l rfl;rw[m rfl]at i;exact⟨sz,cap',l',by rw[<- i];exact cg c.hx0⟩
  ·obtain⟨sz,cap,l,j⟩:=d.2.2 o' v k;exact⟨sz,cap,l,by show(g.H.set o _)[o']? = _;rw[ga e];exact j⟩
 ·by_cases e:a.f=f
  ·exact c.hi a n vs hi e p
  ·rw[<- p];exact dz (cT (akX e)) n
theorem Ok.oput(h:Ok g)(c:xV g o x f ver ver' x0 B0 B)(n:nJ (g.oput o x f ver' B) o x):Ok (g.oput o x f ver' B):=by
 refine⟨by simp[Gh.oput,h.len],PU h.wf c.h0 B,fun o1 m f' v v' a i=>?_,fun o' f' v a=>?_,fun f' j=>by show f'<(g.s.put f B).next;rw[S.next_put];exact h.pv f' j,fun o' y hy=>?_,h.gl.to fun f' a hp ho=>⟨cT fun e=>ho o ver (by rw[<- e];exact c.ho),by show f'<(g.s.put f B).next;rw[S.next_put];exact a,hp,fun o' v k=>?_⟩⟩
 rotate_right 1
 ·rcases eU k with⟨e,d⟩|⟨e,k⟩
  ·cases d;exact ho o ver c.ho
  ·exact ho o' v k
 ·rcases eU a with⟨e,d⟩|⟨e,a⟩<;>rcases eU i with⟨l,p⟩|⟨l,i⟩
  ·exact e.symm.trans l
  ·cases d;rw[<- e];exact h.inj o m f ver v' c.ho i
  ·cases p;rw[<- l];exact h.inj o1 o f v ver a c.ho
  ·exact h.inj o1 m f' v v' a i
 ·rcases eU a with⟨e,d⟩|⟨e,a⟩
  ·cases d;exact⟨by show f<(g.s.put f B).next;rw[S.next_put];exact(h.lt o f ver c.ho).1,(h.lt o f ver c.ho).2⟩
  ·exact⟨by show f'<(g.s.put f B).next;rw[S.next_put];exact(h.lt o' f' v a).1,(h.lt o' f' v a).2⟩
 ·rcases eU hy with⟨e,d⟩|⟨e,hy⟩
  ·subst e;subst d;exact n
  ·exact(h.obj o' y hy).keep (mR h c) (by show(g.O.set o _)[o']? = _;rw[ga e]) fun f' v a=>cT fun q=>e (h.inj o o' f ver v c.ho (by rw[q];exact a))
theorem kQ(h:Ok g)(c:xV g o x f ver ver' x0 B0 B):Mv b g (g.oput o x f ver' B):=by
 refine⟨mR h c,fun f' _ d=>cT fun e=>d o ver (by rw[<- e];exact c.ho),fun o' f' v a _=>?_,fun o' s1 c1 f' v a i=>?_⟩;rcases eU a with⟨e,j⟩|⟨e,a⟩
 ·subst e;cases j;exact⟨ver,c.ho⟩
 ·exact⟨v,a⟩
 ·by_cases e:o=o'
  ·subst e;rw[c.hx0]at a;obtain⟨c2,k⟩:=c.hst s1 c1 (aiJ a);exact⟨s1+1,c2,by rw[<- k];exact cg c.hx0,Nat.le_succ _,fun q=>by omega⟩
  ·exact⟨s1,c1,by show(g.H.set o _)[o']? = _;rw[ga e];exact a,abD _,fun _=>⟨rfl,cT fun q=>e (h.inj o o' f ver v c.ho (by rw[q];exact i))⟩⟩
theorem FI.oput(h:FI b P0 g t L tv LO)(c:xV g o x f ver ver' x0 B0 B)(d:nJ (g.oput o x f ver' B) o x):FI b P0 (g.oput o x f ver' B) t L tv LO :=
 h.to (h.ok.oput c d) (kQ h.ok c) rfl fun f' a=>cT fun e=>h.lo_out a o ver (by rw[<- e];exact c.ho)
def Gh.bnew(g:Gh)(o:Nat)(x:DB)(B:eh):Gh:=⟨g.O.set o (some (g.s.next,0)),g.H.set o x,g.Pv,g.s.alloc B⟩
theorem FE(h:Ok g){sz:Nat}{st cap st' cap':Bool}{l:List (List D)}(j:g.O[o]? = some none)(h0:g.H[o]? = some (.buf sz st cap []))(i:x=.buf sz st' cap' l)(k:st=false->st'=false)(hl:l≠[]):qh g (g.bnew o x B):=by
 refine⟨by show _<=(g.H.set o x).length;rw[ajz];exact abD _,fun o' f' v c=>?_,fun o' sz' ib cap1 l1 c=>?_,fun f' c=>⟨by show f'<(g.s.alloc B).next;rw[S.next_alloc];have:=c.1;omega,c.2.1,fun o' v d=>?_⟩,fun a n vs hi i=>?_,by show _<=(g.s.alloc B).next;rw[S.next_alloc];omega⟩
 ·have e:o≠o':=fun e=>by subst e;rw[j]at c;cases c
  exact⟨v,by show(g.O.set o _)[o']? = _;rw[ga e];exact c⟩
 ·by_cases e:o=o'
  ·subst e;rw[h0]at c;cases c;refine⟨st',cap',l,by rw[<- i];exact cg h0,by simp,k,fun e=>?_⟩;exact(hl (aji (by simpa using e.symm))).elim
  ·exact⟨ib,cap1,l1,by show(g.H.set o _)[o']? = _;rw[ga e];exact c,abD _,id,fun _=>⟨rfl,by show(g.O.set o _)[o']? = _;rw[ga e]⟩⟩
 ·rcases eU d with⟨e,m⟩|⟨e,d⟩
  ·simp only[abB,ajr]at m;have:=c.1;omega
  ·obtain⟨sz1,cap1,l1,p⟩:=c.2.2 o' v d;exact⟨sz1,cap1,l1,by show(g.H.set o _)[o']? = _;rw[ga (fun e=>by subst e;rw[j]at d;cases d)];exact p⟩
 ·rw[<- i];exact dz (aV hi.1) n
theorem Ok.bnew(h:Ok g){sz:Nat}{st cap st' cap':Bool}{l:List (List D)}(n:g.O[o]? = some none)(h0:g.H[o]? = some (.buf sz st cap []))(p:x=.buf sz st' cap' l)(q:st=false->st'=false)(hl:l≠[])(hr:nJ (g.bnew o x B) o x):Ok (g.bnew o x B):=by
 refine⟨by simp[Gh.bnew,h.len],rI h.wf B,fun o1 j f' v v' a d=>?_,fun o' f' v a=>?_,fun f' i=>?_,fun o' y hy=>?_,h.gl.to fun f' a hp ho=>⟨aV a,tH a,hp,fun o' v k=>?_⟩⟩
 rotate_right 1
 ·rcases eU k with⟨e,c⟩|⟨e,k⟩
  ·cases c;omega
  ·exact ho o' v k
 ·rcases eU a with⟨e,c⟩|⟨e,a⟩<;>rcases eU d with⟨m,r⟩|⟨m,d⟩
  ·exact e.symm.trans m
  ·cases c;have:=(h.lt j _ v' d).1;omega
  ·cases r;have:=(h.lt o1 _ v a).1;omega
  ·exact h.inj o1 j f' v v' a d
 ·rcases eU a with⟨e,c⟩|⟨e,a⟩
  ·cases c;exact⟨by show g.s.next<(g.s.alloc B).next;rw[S.next_alloc];omega,fun hp=>by have:=h.pv _ hp;omega⟩
  ·exact⟨by have:=(h.lt o' f' v a).1;show f'<(g.s.alloc B).next;rw[S.next_alloc];omega,(h.lt o' f' v a).2⟩
 ·have:=h.pv f' i;show f'<(g.s.alloc B).next;rw[S.next_alloc];omega
 ·rcases eU hy with⟨e,c⟩|⟨e,hy⟩
  ·subst e;subst c;exact hr
  ·exact(h.obj o' y hy).keep (FE h n h0 p q hl) (by show(g.O.set o _)[o']? = _;rw[ga e]) fun f' v a=>aV (h.lt o' f' v a).1
theorem MK(h:Ok g)(hb:b<=g.s.next){sz:Nat}{st cap st' cap':Bool}{l:List (List D)}(d:g.O[o]? = some none)(h0:g.H[o]? = some (.buf sz st cap []))(i:x=.buf sz st' cap' l)(j:st=false->st'=false)(hl:l≠[]):Mv b g (g.bnew o x B):=by
 refine⟨FE h d h0 i j hl,fun f c _=>aV (aiN c hb),fun o' f v ho c=>?_,fun o' s1 c1 f v a k=>?_⟩
 ·rcases eU ho with⟨_,e⟩|⟨_,ho⟩
  ·cases e;omega
  ·exact⟨v,ho⟩
 ·have e:o≠o':=fun e=>by subst e;rw[h0]at a;cases a
  exact⟨s1,c1,by show(g.H.set o _)[o']? = _;rw[ga e];exact a,abD _,fun _=>⟨rfl,aV (h.lt o' f v k).1⟩⟩
theorem FI.bnew(h:FI b P0 g t L tv LO){sz:Nat}{st cap st' cap':Bool}{l:List (List D)}(a:g.O[o]? = some none)(h0:g.H[o]? = some (.buf sz st cap []))(c:x=.buf sz st' cap' l)(d:st=false->st'=false)(hl:l≠[])(hr:nJ (g.bnew o x B) o x):FI b P0 (g.bnew o x B) t L tv LO :=
 h.to (h.ok.bnew a h0 c d hl hr) (MK h.ok h.bl a h0 c d hl) rfl fun _ e=>aV (h.lo_lt e)
def Gh.frz(g:Gh)(o sz:Nat)(cap:Bool)(l:List (List D)):Gh:=⟨g.O,g.H.set o (.buf sz false cap l),g.Pv,g.s⟩
theorem uq{sz:Nat}{st cap:Bool}{l:List (List D)}(h0:g.H[o]? = some (.buf sz st cap l)):qh g (g.frz o sz cap l):=by
 refine⟨by show _<=(g.H.set o _).length;rw[ajz];exact abD _,fun o' f' v c=>⟨v,c⟩,fun o' sz' ib cap1 l1 c=>?_,fun f' c=>⟨c.1,c.2.1,fun o' v d=>?_⟩,fun a n vs hi h=>h,abD _⟩
 ·by_cases e:o=o'
  ·subst e;rw[h0]at c;cases c;exact⟨false,cap,l,cg h0,abD _,fun _=>rfl,fun _=>⟨rfl,rfl⟩⟩
  ·exact⟨ib,cap1,l1,by show(g.H.set o _)[o']? = _;rw[ga e];exact c,abD _,id,fun _=>⟨rfl,rfl⟩⟩
 ·by_cases e:o=o'
  ·subst e;exact⟨sz,cap,l,cg h0⟩
  ·obtain⟨sz1,cap1,l1,i⟩:=c.2.2 o' v d;exact⟨sz1,cap1,l1,by show(g.H.set o _)[o']? = _;rw[ga e];exact i⟩
theorem Ok.frz(h:Ok g){sz:Nat}{st cap:Bool}{l:List (List D)}(h0:g.H[o]? = some (.buf sz st cap l)):Ok (g.frz o sz cap l):=by
 refine⟨by simp[Gh.frz,h.len],h.wf,h.inj,h.lt,h.pv,fun o' y hy=>?_,h.gl.to fun f a hp ho=>⟨rfl,a,hp,ho⟩⟩;rcases eU hy with⟨e,c⟩|⟨e,hy⟩
 ·subst e;subst c;exact(h.obj o _ h0).keep (b:=.buf sz st cap l) (uq h0) rfl (fun _ _ _=>rfl)
 ·exact(h.obj o' y hy).keep (uq h0) rfl fun _ _ _=>rfl
theorem Kq{sz:Nat}{st cap:Bool}{l:List (List D)}(h0:g.H[o]? = some (.buf sz st cap l)):Mv b g (g.frz o sz cap l):=⟨uq h0,fun _ _ _=>rfl,fun _ _ v h _=>⟨v,h⟩,fun o' s1 c1 f v a _=>⟨s1,c1,by show(g.H.set o _)[o']? = _;rw[ga (fun e=>by subst e;rw[h0]at a;cases a)];exact a,abD _,fun _=>⟨rfl,rfl⟩⟩⟩
theorem FI.frz(h:FI b P0 g t L tv LO){sz:Nat}{st cap:Bool}{l:List (List D)}(h0:g.H[o]? = some (.buf sz st cap l)):FI b P0 (g.frz o sz cap l) t L tv LO :=
 h.to (h.ok.frz h0) (Kq h0) rfl fun _ _=>rfl
theorem FL(h:Ok g){sz:Nat}{st cap:Bool}{l:List (List D)}(h0:g.H[o]? = some (.buf sz st cap l)){n:Nat}(e:n=l.length){v:V}(p:Uh g sz o n v):RD (g.frz o sz cap l) (.row sz l) v:=by
 obtain⟨st',cap',l',j,k2,q⟩:=p;rw[h0]at j;cases j;simp only[RD];rcases q with⟨r,d⟩|⟨r,f,ver,ver2,c,d,s,u⟩
 ·have hl:l=[]:=aji (by omega);subst hl;rcases d with rfl|⟨a,z,sz',rfl⟩
  ·exact .inl ⟨rfl,rfl⟩
  ·exact .inr (.inl ⟨rfl,a,z,sz',rfl⟩)
 ·obtain⟨w,y⟩:=u e;subst w y;obtain⟨A,k|⟨k,f',ver',el,nv,vers,cells,m,i3,i4,i5,i6,E⟩⟩:=h.obj o _ h0
  ·rw[k.1]at e;simp at e;omega
  ·rw[d]at m;cases m;subst s e;refine .inr (.inr ⟨⟨f,ver2,0⟩,0,Lj cap l.length,rfl,A,.inr rfl,fun c hc=>?_,fun _=>⟨(h.lt o f ver2 d).1,(h.lt o f ver2 d).2,fun o' v' i=>?_⟩,E.keep (uq h0) rfl⟩)
   ·cases cap with
    |true=>cases hc;exact abD _
    |false=>cases hc
   ·rw[h.inj o' o f v' ver2 i d];exact⟨sz,cap,l,cg h0⟩
def Gh.acc(g:Gh)(sz:Nat)(cap:Bool):Gh:=⟨g.O++[none],g.H++[.buf sz true cap []],g.Pv,g.s⟩
theorem Sc(h:Ok g)(sz:Nat)(cap:Bool):qh g (g.acc sz cap):=by
 refine⟨by simp[Gh.acc],fun _ _ v h=>⟨v,fH _ h⟩,fun o _ st cap l c=>⟨st,cap,l,fH _ c,abD _,id,fun _=>⟨rfl,?_⟩⟩,fun f c=>⟨c.1,c.2.1,fun o v ho=>?_⟩,fun a n vs hi d=>d,abD _⟩
 ·have:o<g.H.length:=by
   rcases aiA o g.H.length with q|q
   ·exact q
   ·rw[aeF q]at c;cases c
  show(g.O++_)[o]? = _;rw[aeN (by rw[h.len];exact this)]
 ·rcases bG ho with ho|⟨_,e⟩
  ·obtain⟨sz,cap,l,i⟩:=c.2.2 o v ho;exact⟨sz,cap,l,fH _ i⟩
  ·cases e
theorem Ok.acc(h:Ok g){sz:Nat}(m:0<sz)(cap:Bool):Ok (g.acc sz cap):=by
 refine⟨by simp[Gh.acc,h.len],h.wf,fun o o' f v v' a i=>?_,fun o f v ho=>?_,h.pv,fun o c hc=>?_,h.gl.to fun f a hp ho=>⟨rfl,a,hp,fun o v k=>?_⟩⟩
 rotate_right 1
 ·rcases bG k with k|⟨_,e⟩
  ·exact ho o v k
  ·cases e
 ·rcases bG a with a|⟨l,d⟩<;>rcases bG i with i|⟨e3,n⟩
  ·exact h.inj o o' f v v' a i
  ·cases n
  ·cases d
  ·cases d
 ·rcases bG ho with ho|⟨_,e⟩
  ·exact h.lt o f v ho
  ·cases e
 ·rcases bG hc with hc|⟨l,d⟩
  ·have j:o<g.O.length:=by
    rw[h.len];rcases aiA o g.H.length with q|q
    ·exact q
    ·rw[aeF q]at hc;cases hc
   exact(h.obj o c hc).keep (Sc h sz cap) (by show(g.O++_)[o]? = _;rw[aeN j]) fun _ _ _=>rfl
  ·subst l;subst d;exact⟨m,.inl ⟨rfl,by show(g.O++_)[_]? = _;rw[<- h.len];exact gT _ _⟩⟩
theorem Ks(h:Ok g)(sz:Nat)(cap:Bool):Mv b g (g.acc sz cap):=by
 refine⟨Sc h sz cap,fun _ _ _=>rfl,fun o f v ho _=>?_,fun o s1 c1 f v a _=>⟨s1,c1,fH _ a,abD _,fun _=>⟨rfl,rfl⟩⟩⟩;rcases bG ho with ho|⟨_,e⟩
 ·exact⟨v,ho⟩
 ·cases e
theorem FI.acc(h:FI b P0 g t L tv LO){sz:Nat}(a:0<sz)(cap:Bool):FI b P0 (g.acc sz cap) t L tv LO:=h.to (h.ok.acc a cap) (Ks h.ok sz cap) rfl fun _ _=>rfl
end
end Go.AI
namespace Go.AI
variable[fY]
variable{g:Gh}{LO:List Nat}{t:T LD}{tv:T V}{P:Program}{out:js}
theorem fh{v:V}{vs:List V}:bc (v::vs)↔v.one=true/\bc vs:=by unfold bc;simp
theorem HE{a b:List V}(h:bc a)(c:∀ v∈b,v∈a):bc b:=aiX.2 fun v d=>aiX.1 h v (c v d)
theorem uh{vs:List V}(h:bc vs)(n:Nat):bc (vs.drop n):=HE h fun _=>akU
theorem ug{vs:List V}(h:bc vs)(n:Nat):bc (vs.take n):=HE h fun _=>ajZ
theorem zG{a b:List V}(h:bc a)(k:bc b):bc (a++b):=by unfold bc at *;rw[List.all_append,h,k];rfl
theorem Lf:∀ {v:V} {d:D},WH v=some d->RD g d v/\v.one=true:=by
 intro v d h;unfold WH at h;split at h
 ·cases h;exact⟨by simp only[RD],rfl⟩
 ·cases h;exact⟨by simp only[RD],rfl⟩
 ·rename_i l;cases hb:l.all (fun c=>Nat.blt c 256)with
  |false=>rw[hb]at h;cases h
  |true =>rw[hb]at h;cases h;refine⟨?_,rfl⟩;simp only[RD];refine⟨trivial,fun c hc=>?_⟩;have:=aiX.1 hb c hc;exact aeb this
 ·cases h;exact⟨by simp only[RD],rfl⟩
 ·cases h;exact⟨by simp only[RD];exact .inl trivial,rfl⟩
 ·cases h;exact⟨by simp only[RD],rfl⟩
 ·rename_i fn a b;split at h
  ·cases hb:(a.isEmpty&&b.isEmpty)with
   |false=>rw[hb]at h;cases h
   |true =>rw[hb]at h;cases h;simp only[abA,List.isEmpty_iff]at hb;obtain⟨rfl,rfl⟩:=hb;exact⟨by simp only[RD];exact⟨[],[],rfl,by simp only[RL],by simp only[RL]⟩,rfl⟩
  ·cases h
 ·cases h;exact⟨by simp only[RD],rfl⟩
 ·cases h;exact⟨by simp only[RD],rfl⟩
 ·cases h
theorem Gn:∀ {vs:List V} {ds:List D},NG vs=some ds->RL g ds vs/\bc vs
 |[],ds,h=>by cases h;exact⟨by simp only[RL],rfl⟩
 |v::r,ds,h=>by
  simp only[NG]at h;split at h
  ·rename_i d a;split at h
   ·rename_i l hl;cases h;obtain⟨c,e⟩:=Lf (g:=g) a;obtain⟨i,j⟩:=Gn hl;exact⟨by simp only[RL];exact⟨v,r,rfl,c,i⟩,fh.2 ⟨e,j⟩⟩
   ·cases h
  ·cases h
theorem Tj{v:V}{d:D}(h:dOf v=some d):RD g d v:=by
 unfold dOf at h;split at h
 ·split at h
  ·rename_i cs l hl;cases h;obtain⟨a,c⟩:=Gn (g:=g) hl;simp only[RD];exact⟨_,rfl,a,c⟩
  ·cases h
 ·exact(Lf h).1
theorem RL.one1{d:D}{v:V}(h:RD g d v):RL g [d] [v]:=by simp only[RL];exact⟨v,[],rfl,h,rfl⟩
theorem tA{v:V}(h:v.one=true):v.cells=[v]:=by cases v<;>first|rfl|cases h
theorem Pf{v:V}{d:D}(h:dOf v=some d):RL g d.cells v.cells/\bc v.cells:=by
 unfold dOf at h;split at h
 ·split at h
  ·rename_i cs l hl;cases h;exact Gn hl
  ·cases h
 ·rename_i hne;obtain⟨a,c⟩:=Lf (g:=g) h;rw[tA c];refine⟨?_,fh.2 ⟨c,rfl⟩⟩;have:d.cells=[d]:=by
   cases d<;>first|rfl|skip
   simp only[RD]at a;obtain⟨vs,rfl,_⟩:=a;cases c
  rw[this];exact RL.one1 a
theorem jO{ty:TypeId}{d:D}(h:qk P ty=some d):∃ z,zero P ty=some z/\RD g d z/\RL g d.cells z.cells/\bc z.cells:=by
 unfold qk at h;split at h
 ·rename_i z a;exact⟨z,a,Tj h,Pf h⟩
 ·cases h
def EA(g:Gh)(LO:List Nat)(t:T LD)(tv:T V)(x:Operand):Prop:=∀ y,jx t x=some y->∃ v,eval tv x=some v/\RS g LO y v
theorem CM.op(h:CM g LO t tv)(x:Operand):EA g LO t tv x:=by
 intro y hy;cases x with
 |tmp i=>exact h i y hy
 |const c =>
  simp only[jx]at hy;split at hy
  ·rename_i v a;split at hy
   ·rename_i d e;cases hy;exact⟨v,a,Tj e⟩
   ·cases hy
  ·cases hy
 |global _=>cases hy
 |func f=>cases hy;exact⟨_,rfl,by show RD _ _ _;simp only[RD];exact⟨[],[],rfl,by simp only[RL],by simp only[RL]⟩⟩
theorem bI{x:Operand}{κ:D->au}(h:gD (jx t x) κ=some out)(hr:EA g LO t tv x):∃ d v,κ d=some out/\jx t x=some (.g d)/\eval tv x=some v/\RD g d v:=by
 unfold gD at h;split at h
 ·rename_i d a;obtain⟨v,c,e⟩:=hr _ a;exact⟨d,v,h,a,c,e⟩
 ·cases h
theorem mS{x:Operand}{κ:LD->au}(h:lD (jx t x) κ=some out)(hr:EA g LO t tv x):∃ d v,κ d=some out/\jx t x=some d/\eval tv x=some v/\RS g LO d v:=by
 unfold lD at h;split at h
 ·rename_i d a;obtain⟨v,c,e⟩:=hr _ a;exact⟨d,v,h,a,c,e⟩
 ·cases h
theorem kg:∀ {l:List Operand} {κ:List D->au},IB t l κ=some out->(∀ x∈l,EA g LO t tv x)->∃ ds vs,κ ds=some out/\ij tv l=some vs/\RL g ds vs
 |[],κ,h,_=>⟨[],[],h,rfl,by simp only[RL]⟩
 |x::r,κ,h,hr=>by simp only[IB]at h;obtain⟨d,v,a,_,c,e⟩:=bI h (hr x aeK);obtain⟨ds,vs,i,j,k⟩:=kg a fun y hy=>hr y (abE _ hy);exact⟨d::ds,v::vs,i,by simp only[ij,c,j],by simp only[RL];exact⟨v,vs,rfl,e,k⟩⟩
theorem eX{b:Bool}{κ:au}(h:boK b κ=some out):b=true/\κ=some out:=by
 cases b with
 |false=>cases h
 |true=>exact⟨rfl,h⟩
theorem aQ{b:Bool}{κ:au}(h:cond b κ none=some out):b=true/\κ=some out:=by
 cases b with
 |false=>cases h
 |true=>exact⟨rfl,h⟩
theorem jL{cs:List D}{c:Nat}{κ:D->au}(h:ah cs c κ=some out):∃ d,cs[c]? = some d/\κ d=some out:=by
 unfold ah at h;split at h
 ·rename_i d a;exact⟨d,a,h⟩
 ·cases h
theorem im:∀ {n:Nat} {cs:List D} {c:Nat} {κ:List D->au},CX n cs c κ=some out->κ ((cs.drop c).take n)=some out/\(n=0\/c+n<=cs.length)
 |0,cs,c,κ,h=>⟨by simp only[CX]at h;simpa using h,.inl rfl⟩
 |n+1,cs,c,κ,h=>by
  simp only[CX]at h;obtain⟨d,a,e⟩:=jL h;have hc:c<cs.length:=by
   rcases aiA c cs.length with q|q
   ·exact q
   ·rw[aeF q]at a;cases a
  obtain⟨i,h4⟩:=im e;refine⟨?_,.inr (by omega)⟩;rw[akF hc,ajs];rw[abF hc]at a;cases a;exact i
theorem mr:∀ {l:List V} {n:Nat},n<=l.length->bv n l=some (l.take n)
 |l,0,_=>rfl
 |[],n+1,h=>by simp at h
 |x::l,n+1,h=>by simp only[bv,mr (l:=l) (n:=n) (by simpa using h),Option.map,ajs]
theorem iF{s:S}{a:Ad}{N:Nat}{vs:List V}(h:loadCells s a N=some vs){c n:Nat}(hc:c+n<=N):loadCells s (cM a c) n=some ((vs.drop c).take n):=by
 have key:∀(u:nW),(bif Nat.ble u.lo a.c then bv N (u.cells.drop (a.c - u.lo))else none)=some vs->(bif Nat.ble u.lo (a.c+c)then bv n (u.cells.drop (a.c+c - u.lo))else none)=some ((vs.drop c).take n):=fun u d=>by
  cases hb:Nat.ble u.lo a.c with
  |false=>rw[hb]at d;cases d
  |true =>rw[hb]at d;have hle:=aeb hb;obtain⟨rfl,e⟩:=dN d;rw[show Nat.ble u.lo (a.c+c)=true from aeI (by omega)];simp only[ge,aiS]at e ⊢;rw[mr (by rw[aiS];omega)];congr 1;rw[List.drop_take,ala,List.take_take,show a.c+c - u.lo=a.c - u.lo+c by omega,Nat.min_eq_left (by omega)]
 unfold loadCells at h ⊢;simp only[cM];split at h
 ·split at h
  ·rename_i u d;exact key u h
  ·cases h
 ·split at h
  ·rename_i u d;exact key u h
  ·cases h
 ·cases h
theorem mO{s:S}{a:Ad}{N:Nat}{vs:List V}(h:loadCells s a N=some vs){c:Nat}{v:V}(hc:vs[c]? = some v):oM s (cM a c)=some v:=by
 have key:∀(u:nW),(bif Nat.ble u.lo a.c then bv N (u.cells.drop (a.c - u.lo))else none)=some vs->(bif Nat.ble u.lo (a.c+c)then u.cells[a.c+c - u.lo]? else none)=some v:=fun u d=>by
  cases hb:Nat.ble u.lo a.c with
  |false=>rw[hb]at d;cases d
  |true =>
   rw[hb]at d;have hle:=aeb hb;obtain⟨rfl,h2⟩:=dN d;rw[show Nat.ble u.lo (a.c+c)=true from aeI (by omega)];simp only[ge];rw[ajW]at hc;split at hc
   ·rw[ajK]at hc;rw[show a.c+c - u.lo=a.c - u.lo+c by omega];exact hc
   ·cases hc
 unfold loadCells at h;unfold oM;simp only[cM];split at h
 ·split at h
  ·rename_i u d;exact key u h
  ·cases h
 ·split at h
  ·rename_i u d;exact key u h
  ·cases h
 ·cases h
theorem Cu{s:S}{a:Ad}{N:Nat}{vs:List V}(h:loadCells s a N=some vs):vs.length=N:=by
 have key:∀(u:nW),(bif Nat.ble u.lo a.c then bv N (u.cells.drop (a.c - u.lo))else none)=some vs->vs.length=N:=fun u d=>by
  cases hb:Nat.ble u.lo a.c with
  |false=>rw[hb]at d;cases d
  |true =>rw[hb]at d;obtain⟨rfl,h2⟩:=dN d;rw[aiu];omega
 unfold loadCells at h;split at h
 ·split at h
  ·rename_i u d;exact key u h
  ·cases h
 ·split at h
  ·rename_i u d;exact key u h
  ·cases h
 ·cases h
theorem mN{s:S}{ty:TypeId}{cs:List D}{c:Nat}{κ:D->au}(h:cR P ty cs c κ=some out){a:Ad}{vs:List V}(hl:loadCells s a cs.length=some vs)(hr:RL g cs vs)(ho:bc vs) :
 ∃ d v,κ d=some out/\loadVar P s ty (cM a c)=some v/\RD g d v:=by
 unfold cR at h;unfold loadVar;split at h
 ·rename_i i;split at h
  ·rename_i n l;obtain⟨e,h⟩:=aQ h;obtain⟨j,k⟩:=im h;have e:=aeb e;refine⟨_,.agg ((vs.drop c).take n),j,?_,?_⟩
   ·rw[i,l];simp only[Option.bind];rw[iF hl (by omega)];rfl
   ·simp only[RD];exact⟨_,rfl,(hr.drop c).take n,ug (uh ho c) n⟩
  ·cases h
 ·rename_i i;obtain⟨d,j,k⟩:=jL h;obtain⟨v,m,p⟩:=hr.at j;exact⟨d,v,k,by rw[i];exact mO hl m,p⟩
 ·cases h
end Go.AI
namespace Go.AI
theorem rP:∀ {p q:List Nat},(∀ z∈p,z<256)->(∀ z∈q,z<256)->lF p q=some (decide (p=q))
 |[],[],_,_=>rfl
 |[],_::_,_,_=>rfl
 |_::_,[],_,_=>rfl
 |x::p,y::q,hp,c=>by
  have ih:=rP (p:=p) (q:=q) (fun z a=>hp z (abE _ a)) (fun z a=>c z (abE _ a));have d:Nat.blt x 256=true:=aeI (hp x (by simp));have hy:Nat.blt y 256=true:=aeI (c y (by simp));simp only[lF];cases hb:Nat.beq x y with
  |true =>have:=abr hb;subst this;simp only[ge,ih,ajV,akh]
  |false =>
   have e:x≠y:=fun h=>by subst h;rw[aiw]at hb;cases hb
   simp only[TD,d,hy,ajc,ge,ajV,e,false_and,aip]
variable[fY]
variable{g:Gh}{LO:List Nat}{t:T LD}{tv:T V}{P:Program}{out:js}
theorem WK{x:LD}{κ:LD->au}(h:WL x κ=some out){v:V}(r:RS g LO x v):κ x=some out/\nf (some v)=some v:=by
 unfold WL CJ at h;split at h
 ·obtain⟨f,c,rfl⟩:=r;exact⟨h,rfl⟩
 ·rename_i d;have r:RD g d v:=r;split at h
  ·simp only[RD]at r;obtain⟨f,ver,c,rfl⟩:=r;exact⟨h,rfl⟩
  ·simp only[RD]at r;obtain⟨a,vs,rfl,_⟩:=r;exact⟨h,rfl⟩
  ·simp only[RD]at r;obtain⟨f,ver,sz,st,cap,l,ver',_,_,_,_,rfl,_⟩:=r;exact⟨h,rfl⟩
  ·simp only[RD]at r;obtain⟨a',b',rfl,_⟩:=r;exact⟨h,rfl⟩
  ·simp only[RD]at r;obtain⟨f,ver,_,rfl⟩:=r;exact⟨h,rfl⟩
  ·cases h
 ·cases h
theorem We{x:LD}{off:Nat}{κ:LD->au}(h:Wf x off κ=some out){v:V}(r:RS g LO x v):∃ e a,κ e=some out/\v=.ptr a/\RS g LO e (.ptr (cM a off)):=by
 unfold Wf ct at h;split at h
 ·obtain⟨f,c,rfl⟩:=r;exact⟨_,_,h,rfl,f,c,rfl⟩
 ·rename_i d;have r:RD g d v:=r;split at h
  ·simp only[RD]at r;obtain⟨f,ver,c,rfl⟩:=r;exact⟨_,_,h,rfl,by show RD _ _ _;simp only[RD];exact⟨f,ver,c,rfl⟩⟩
  ·simp only[RD]at r;obtain⟨a,vs,rfl,c⟩:=r;exact⟨_,_,h,rfl,by show RD _ _ _;simp only[RD];exact⟨a,vs,by rw[BT],c⟩⟩
  ·simp only[RD]at r;obtain⟨f,ver,sz,st,cap,l,ver',c,i,j,k,rfl,m⟩:=r;exact⟨_,_,h,rfl,by show RD _ _ _;simp only[RD];exact⟨f,ver,sz,st,cap,l,ver',c,i,j,k,by simp only[cM,ajE],m⟩⟩
  ·cases h
 ·cases h
theorem OX{ty:TypeId}{x:LD}{f:Nat}{κ:LD->au}(h:AO P ty x f κ=some out){v:V}(r:RS g LO x v):∃ c v',κ c=some out/\iT P ty (some v) f=some v'/\RS g LO c v':=by
 unfold AO at h;split at h
 ·rename_i fs e;split at h
  ·rename_i i j;cases d:iP i P with
   |true=>rw[d]at h;cases h
   |false =>rw[d]at h;obtain⟨c,a,k,rfl,l⟩:=We h r;exact⟨c,_,k,by simp only[iT,e,j,d,TD],l⟩
  ·cases h
 ·cases h
theorem sq{ty:TypeId}{cs:List D}{c:Nat}{κ:D->au}(h:cR P ty cs c κ=some out){vs:List V}(hr:RL g cs vs)(ho:bc vs) :
 ∃ d v,κ d=some out/\vm P ty vs c=some v/\RD g d v:=by
 unfold cR at h;unfold vm;split at h
 ·rename_i a;split at h
  ·rename_i n j;obtain⟨hn0,h⟩:=aQ h;obtain⟨e,i⟩:=im h;refine⟨_,.agg ((vs.drop c).take n),e,by rw[a,j];rfl,?_⟩;simp only[RD];exact⟨_,rfl,(hr.drop c).take n,ug (uh ho c) n⟩
  ·cases h
 ·rename_i a;obtain⟨d,e,i⟩:=jL h;obtain⟨v,k,l⟩:=hr.at e;exact⟨d,v,i,by rw[a];exact k,l⟩
 ·cases h
theorem OW{ty:TypeId}{x:D}{f:Nat}{κ:D->au}(h:AN P ty x f κ=some out){v:V}(r:RD g x v):∃ d v',κ d=some out/\ti P ty (some v) f=some v'/\RD g d v':=by
 unfold AN at h;split at h
 ·rename_i fs a;split at h
  ·rename_i fd c;split at h
   ·simp only[RD]at r;obtain⟨vs,rfl,e,i⟩:=r;obtain⟨d,v',j,k,l⟩:=sq h e i;exact⟨d,v',j,by simp only[ti,a,c];exact k,l⟩
   ·cases h
  ·cases h
 ·cases h
theorem pH{n:Int}{κ:Nat->au}(h:bk n κ=some out):∃ m:Nat,n=(m:Int)/\κ m=some out:=by
 unfold bk at h;split at h
 ·exact⟨_,rfl,h⟩
 ·cases h
theorem UL{sz:Nat}{l:List (List D)}{v:V}(r:RD g (.row sz l) v){i:Nat}{cs:List D}(hi:l[i]? = some cs) :
 ∃ a z cap vs,v=.slice a z l.length cap sz/\i<l.length/\g.Imm a.f/\cs.length=sz/\loadCells g.s (cM a (i*sz)) sz=some vs/\RL g cs vs/\bc vs:=by
 have c:i<l.length:=by
  rcases aiA i l.length with q|q
  ·exact q
  ·rw[aeF q]at hi;cases hi
 simp only[RD]at r;rcases r with⟨rfl,_⟩|⟨rfl,_⟩|⟨a,z,cap,d,_,_,_,h,j⟩
 ·simp at hi
 ·simp at hi
 ·obtain⟨vs,k,m,n,p⟩:=j.at hi;exact⟨a,z,cap,vs,d,c,h (by intro e;rw[e]at hi;simp at hi),k,m,n,p⟩
theorem Lm{m n:Nat}(h:m<n):Nat.blt m n=true:=aeI h
theorem OM{ty:TypeId}{x i:D}{κ:D->au}(h:aD P ty x i κ=some out){v w:V}(r:RD g x v)(ri:RD g i w):∃ d v',κ d=some out/\gA P ty (some v) (et (some w))=some v'/\RD g d v':=by
 unfold aD at h;split at h
 ·rename_i el A;split at h
  ·rename_i sz E;split at h
   ·rename_i k n;simp only[RD]at ri;subst ri;unfold Sm at h;split at h
    ·rename_i s l;obtain⟨hb,j⟩:=aQ h;clear h;obtain rfl:=abr hb;obtain⟨m,rfl,h⟩:=pH j;unfold ba at h;split at h
     ·rename_i cs hc;obtain⟨a,z,cap,vs,rfl,p,q,u,y,F,G⟩:=UL r hc;refine⟨_,.ptr (cM a (m*s)),h,by simp only[et,qu,gA,A,E,aiw,Lm p,ajc,ge],?_⟩;simp only[RD];exact⟨cM a (m*s),vs,rfl,q,by rw[u];exact y,F,G⟩
     ·cases h
    ·rename_i s o n;obtain⟨hb,j⟩:=aQ h;clear h;obtain rfl:=abr hb;obtain⟨m,rfl,h''⟩:=pH j;obtain⟨hb,h⟩:=eX h'';have hm:m<n:=aeb hb;simp only[RD]at r;obtain⟨st,cap,l,H,p,⟨q,_⟩|⟨q,f,ver,ver',c,u,rfl,y⟩⟩:=r
     ·omega
     refine⟨_,.ptr (cM ⟨f,ver',0⟩ (m*s)),h,by simp only[et,qu,gA,A,E,aiw,Lm hm,ajc,ge],?_⟩;simp only[RD];exact⟨f,ver,_,st,cap,l,ver',u,H,p,hm,by simp only[cM,aiv,aiU],fun e=>(y e).1⟩
    ·cases h
   ·cases h
  ·cases h
 ·cases h
theorem OL{ty:TypeId}{x i:D}{κ:D->au}(h:jZ P ty x i κ=some out){v w:V}(r:RD g x v)(ri:RD g i w):∃ d v',κ d=some out/\pP P ty (some v) (et (some w))=some v'/\RD g d v':=by
 unfold jZ at h;split at h
 ·rename_i a;split at h
  ·rename_i l;split at h
   ·rename_i k n;simp only[RD]at r ri;obtain⟨rfl,hb⟩:=r;subst ri;obtain⟨m,rfl,e⟩:=pH h;clear h;have h:eR l m κ=some out:=e;unfold eR at h;split at h
    ·rename_i c hc;refine⟨_,mf c,h,by simp only[et,qu,pP,a,hc],?_⟩;simp only[RD,mf]
    ·cases h
   ·cases h
  ·cases h
 ·rename_i len el a;split at h
  ·rename_i cs;split at h
   ·rename_i sz j;split at h
    ·rename_i k n;simp only[RD]at r ri;obtain⟨vs,rfl,p,q⟩:=r;subst ri;obtain⟨m,rfl,e⟩:=pH h;obtain⟨hl,s⟩:=aQ e;obtain⟨d,v',u,y,z⟩:=sq s p q;exact⟨d,v',u,by simp only[et,qu,pP,a,j,hl,ge];exact y,z⟩
    ·cases h
   ·cases h
  ·cases h
 ·cases h
theorem Lo{ty:TypeId}{x:D}{ok:Bool}{κ:D->au}(h:nD P x ty ok κ=some out){v:V}(r:RD g x v):∃ d v',κ d=some out/\lZ P (some v) ty ok=some v'/\RD g d v':=by
 have fail:∀ {κ:D->au},(bif ok then(match qk P ty with|some z=>κ (.tuple [z,.bool false])|none=>none)else none)=some out->∃ d v',κ d=some out/\fI P ty ok=some v'/\RD g d v':=fun {κ} h=>by
  obtain⟨hk,h⟩:=aQ h;split at h
  ·rename_i z i;obtain⟨zv,c,j,_⟩:=jO (g:=g) i;exact⟨_,.tuple [zv,.bool false],h,by simp only[fI,hk,ge,c],by simp only[RD,RL];exact⟨_,rfl,zv,_,rfl,j,_,_,rfl,rfl,rfl⟩⟩
  ·cases h
 unfold nD at h;split at h
 ·cases h
 ·rename_i td e k;have a:∀ w,lZ P (some w) ty ok=match some w with
   |some .nilIface=>fI P ty ok
   |some (.iface t v)=>bif Nat.beq t ty then some (bif ok then .tuple [v,.bool true] else v)else fI P ty ok
   |_=>none:=fun w=>by unfold lZ;rw[k];cases td<;>first|rfl|exact(e _ rfl).elim
  split at h
  ·simp only[RD]at r;obtain⟨v',rfl,c⟩:=r;rename_i t d;rw[a];simp only;cases hb:Nat.beq t ty with
   |true =>
    rw[hb]at h;refine⟨_,_,h,rfl,?_⟩;cases ok with
    |false=>exact c
    |true=>simp only[ge,RD,RL];exact⟨_,rfl,v',_,rfl,c,_,_,rfl,rfl,rfl⟩
   |false =>rw[hb]at h;exact fail h
  ·simp only[RD]at r;subst r;rw[a];exact fail h
  ·cases h
 ·cases h
theorem Wy{x:D}{i:Nat}{κ:D->au}(h:dU x i κ=some out){v:V}(r:RD g x v):∃ d v',κ d=some out/\pQ (some v) i=some v'/\RD g d v':=by
 unfold dU at h;split at h
 ·simp only[RD]at r;obtain⟨vs,rfl,a⟩:=r;obtain⟨d,c,e⟩:=jL h;obtain⟨v',j,k⟩:=a.at c;exact⟨d,v',e,j,k⟩
 ·cases h
theorem YH{op:UnOp}{x:D}{κ:D->au}(h:eA op x κ=some out){v:V}(r:RD g x v):∃ d v',κ d=some out/\PZ op v=some v'/\RD g d v':=by
 unfold eA at h;split at h
 ·split at h
  ·simp only[RD]at r;subst r;exact⟨_,_,h,rfl,by simp only[RD]⟩
  ·cases h
 ·split at h
  ·simp only[RD]at r;subst r;exact⟨_,_,h,rfl,by simp only[RD]⟩
  ·cases h
 ·cases h
theorem Tp{a dst:TypeId}{x:D}{κ:D->au}(h:qI P a dst x κ=some out){v:V}(r:RD g x v)(s:S):∃ d v',κ d=some out/\iU P s a dst v=some (v',s)/\RD g d v':=by
 unfold qI at h;cases c:P.underlying a with
 |none=>rw[c]at h;cases h
 |some ds =>
 rw[c]at h;simp only[Option.isNone_some,TD]at h;split at h
 ·rename_i k e;split at h
  ·simp only[RD]at r;subst r;exact⟨_,.int k _,h,by simp only[iU,c,e,cJ];rfl,by simp only[RD]⟩
  ·cases h
 ·rename_i e;split at h
  ·simp only[RD]at r;obtain⟨rfl,hb⟩:=r;exact⟨_,.str _,h,by simp only[iU,c,e,CV];rfl,by simp only[RD];exact⟨trivial,hb⟩⟩
  ·cases h
 ·cases h
theorem VQ{op:BinOp}{k:IntKind}{a b:Int}{κ:D->au}(h:ZS op k a b κ=some out):∃ d v',κ d=some out/\DG op k a b=some v'/\RD g d v':=by
 have i:∀ {κ:au},boK (!(b==0)) κ=some out->(b==0)=false/\κ=some out:=fun h=>by obtain⟨hb,h⟩:=eX h;exact⟨by cases j:(b==0)<;>simp[j]at hb ⊢,h⟩
 cases op
 case add=>exact⟨_,_,h,aiK some (cJ _ _),by simp only[RD]⟩
 case sub=>exact⟨_,_,h,aiK some (cJ _ _),by simp only[RD]⟩
 case mul=>exact⟨_,_,h,aiK some (cJ _ _),by simp only[RD]⟩
 case quo=>obtain⟨c,e⟩:=i h;exact⟨_,.int k (k.wrap (a.tdiv b)),e,by simp only[DG,c,TD],by simp only[RD]⟩
 case rem=>obtain⟨c,e⟩:=i h;exact⟨_,.int k (a.tmod b),e,by simp only[DG,c,TD],by simp only[RD]⟩
 all_goals first|(cases h;done)|exact⟨_,_,h,rfl,by simp only[RD]⟩
theorem Uv{op:BinOp}{a b:List Nat}{κ:D->au}(h:YQ op a b κ=some out)(e:∀ c∈a,c<256)(hb:∀ c∈b,c<256):∃ d v',κ d=some out/\yQ op a b=some v'/\RD g d v':=by
 have i:lF a b=some (a==b):=by rw[rP e hb];congr 1;rw[aiz];simp
 cases op
 case add =>
  obtain⟨j,h⟩:=eX h;refine⟨_,.str (a++b),h,by simp only[yQ,j,ge],?_⟩;simp only[RD];refine⟨trivial,fun c hc=>?_⟩;rcases aiq.1 hc with hc|hc
  ·exact e c hc
  ·exact hb c hc
 case eql=>exact⟨_,.bool (a==b),h,by simp only[yQ,i,Option.map],by simp only[RD]⟩
 case neq=>exact⟨_,.bool (!(a==b)),h,by simp only[yQ,i,Option.map],by simp only[RD]⟩
 all_goals first|(cases h;done)|exact⟨_,_,h,rfl,by simp only[RD]⟩
theorem ID{eq:TypeId->D->D->(Bool->au)->au}{eqv:TypeId->V->V->Option Bool}(d:∀ ty x y (κ:Bool->au) (v w:V),eq ty x y κ=some out->RD g x v->RD g y w->∃ q,κ q=some out/\eqv ty v w=some q) :
 ∀ {fs:List Field} {xs ys:List D} {q:Bool} {κ:Bool->au} {vs ws:List V},jI P eq fs xs ys q κ=some out->RL g xs vs->bc vs->RL g ys ws->bc ws->∃ p,κ (q&&p)=some out/\(jS P eqv fs vs ws=some p)
 |[],xs,ys,q,κ,vs,ws,h,_,_,_,_=>⟨true,by rw[aiW];exact h,rfl⟩
 |f::r,xs,ys,q,κ,vs,ws,h,e,i,j,k=>by
  simp only[jI]at h;cases c:(f.name == "_")with
  |true=>rw[c]at h;cases h
  |false =>
   rw[c]at h;simp only[TD]at h;obtain⟨a,va,l,m,n⟩:=sq h e i;obtain⟨b,vb,s,u,z⟩:=sq l j k;obtain⟨p,A,E⟩:=d _ _ _ _ _ _ s n z;obtain⟨F,G,H⟩:=ID d A e i j k;refine⟨p&&F,by rw[<- akP];exact G,?_⟩;simp only[jS,c,TD,m,u,E];cases p with
   |true=>simpa using H
   |false=>rfl
theorem FW(okf:Ad->Bool):∀ {d:Nat} {ty:TypeId} {x y:D} {κ:Bool->au} {v w:V},IC P d ty x y κ=some out->RD g x v->RD g y w->∃ q,κ q=some out/\dq P okf d ty v w=some q
 |0,_,_,_,_,_,_,h,_,_=>by cases h
 |d+1,ty,x,y,κ,v,w,h,e,i=>by
  simp only[IC]at h;unfold dq;split at h
  ·rename_i fs j;split at h
   ·simp only[RD]at e i;obtain⟨vs,rfl,m,n⟩:=e;obtain⟨ws,rfl,r,s⟩:=i;cases k:P.stoodInHeld ty with
    |true=>rw[k]at h;cases h
    |false =>rw[k]at h;simp only[TD]at h;obtain⟨p,u,z⟩:=ID (eqv:=dq P okf d) (fun ty x y κ v w a b c=>FW okf (d:=d) a b c) h m n r s;refine⟨p,by simpa using u,?_⟩;rw[j];simp only[k,TD];exact z
   ·cases h
  ·rename_i j;split at h<;>first|(cases h;done)|skip
   all_goals simp only[RD]at e i
   ·subst e i;exact⟨_,h,by rw[j]⟩
   ·obtain⟨v',rfl,_⟩:=i;subst e;exact⟨_,h,by rw[j]⟩
   ·obtain⟨v',rfl,_⟩:=e;subst i;exact⟨_,h,by rw[j]⟩
  ·rename_i j;split at h
   ·simp only[RD]at e i;subst e i;exact⟨_,h,by rw[j]⟩
   ·cases h
  ·rename_i j;split at h
   ·simp only[RD]at e i;subst e i;obtain⟨hk,h⟩:=aQ h;exact⟨_,h,by rw[j];simp only[hk,ge]⟩
   ·cases h
  ·rename_i j;split at h
   ·simp only[RD]at e i;obtain⟨rfl,A⟩:=e;obtain⟨rfl,hb⟩:=i;refine⟨_,h,?_⟩;rw[j];simp only;rw[rP A hb];congr 1;rw[aiz];simp
   ·cases h
  ·rename_i j;split at h<;>first|(cases h;done)|skip
   all_goals simp only[RD]at e i
   ·subst e i;exact⟨_,h,by rw[j]⟩
   ·obtain⟨f,ver,_,rfl⟩:=i;subst e;exact⟨_,h,by rw[j]⟩
   ·obtain⟨a,vs,rfl,_⟩:=i;subst e;exact⟨_,h,by rw[j]⟩
   ·obtain⟨f,ver,sz,st,cap,l,ver',_,_,_,_,rfl,_⟩:=i;subst e;exact⟨_,h,by rw[j]⟩
   ·obtain⟨f,ver,_,rfl⟩:=e;subst i;exact⟨_,h,by rw[j]⟩
   ·obtain⟨a,vs,rfl,_⟩:=e;subst i;exact⟨_,h,by rw[j]⟩
   ·obtain⟨f,ver,sz,st,cap,l,ver',_,_,_,_,rfl,_⟩:=e;subst i;exact⟨_,h,by rw[j]⟩
  ·rename_i j;split at h<;>first|(cases h;done)|skip
   all_goals simp only[RD]at e i
   ·subst e i;exact⟨_,h,by rw[j]⟩
   ·obtain⟨E,F,rfl,_⟩:=i;subst e;exact⟨_,h,by rw[j]⟩
   ·obtain⟨E,F,rfl,_⟩:=e;subst i;exact⟨_,h,by rw[j]⟩
  ·cases h
def aeO:V->Nat
 |.bool _=>0|.int ..=>1|.str _=>2|.ptr _=>3|.nilptr=>4|.slice ..=>5|.nilslice=>5|.map _=>6|.nilmap=>7|.func ..=>8|.nilFunc=>9|.iface ..=>10|.nilIface=>11|.agg _=>12|.tuple _=>13|.atom _=>14
def Tc:D->Nat
 |.bool _=>0|.int ..=>1|.str _=>2|.ptr ..=>3|.eptr ..=>3|.bptr ..=>3|.nilptr=>4|.row ..=>5|.buf ..=>5|.nilrow=>5|.map _=>6|.nilmap=>7|.func ..=>8|.nilFunc=>9|.iface ..=>10|.nilIface=>11|.agg _=>12|.tuple _=>13|.yld _=>8|.abool=>0
theorem RD.tag{d:D}{v:V}(r:RD g d v):aeO v=Tc d:=by
 cases d<;>simp only[RD]at r
 case bool=>subst r;rfl
 case int=>subst r;rfl
 case str=>obtain⟨rfl,_⟩:=r;rfl
 case ptr=>obtain⟨f,ver,_,rfl⟩:=r;rfl
 case eptr=>obtain⟨a,vs,rfl,_⟩:=r;rfl
 case bptr=>obtain⟨f,ver,sz,st,cap,l,ver',_,_,_,_,rfl,_⟩:=r;rfl
 case nilptr=>subst r;rfl
 case row=>rcases r with⟨_,rfl⟩|⟨_,a,z,sz',rfl⟩|⟨a,z,cap,rfl,_⟩<;>rfl
 case buf=>obtain⟨st,cap,l,_,_,⟨_,rfl|⟨a,z,sz',rfl⟩⟩|⟨_,f,ver,ver',c,_,rfl,_⟩⟩:=r<;>rfl
 case nilrow=>rcases r with rfl|⟨a,z,sz',rfl⟩<;>rfl
 case map=>obtain⟨f,ver,_,rfl⟩:=r;rfl
 case nilmap=>subst r;rfl
 case func=>obtain⟨a',b',rfl,_⟩:=r;rfl
 case nilFunc=>subst r;rfl
 case iface=>obtain⟨v',rfl,_⟩:=r;rfl
 case nilIface=>subst r;rfl
 case agg=>obtain⟨vs,rfl,_⟩:=r;rfl
 case tuple=>obtain⟨vs,rfl,_⟩:=r;rfl
 case yld=>obtain⟨f,ver,_,rfl⟩:=r;rfl
 case abool=>obtain⟨q,rfl⟩:=r;rfl
theorem yc{d:D}{j:IntKind}{n:Int}(r:RD g d (.int j n)):d=.int j n:=by
 have h:=r.tag;cases d<;>first|(cases h;done)|skip
 simp only[RD]at r;cases r;rfl
theorem ya{d:D}{l:List Nat}(r:RD g d (.str l)):d=.str l:=by
 have h:=r.tag;cases d<;>first|(cases h;done)|skip
 simp only[RD]at r;cases r.1;rfl
theorem Ha{d:D}(r:RD g d .nilIface):d=.nilIface:=by have h:=r.tag;cases d<;>first|(cases h;done)|rfl
theorem LM{d:D}{vs:List V}(r:RD g d (.agg vs)):∃ cs,d=.agg cs:=by have h:=r.tag;cases d<;>first|(cases h;done)|exact⟨_,rfl⟩
theorem WX{op:BinOp}{ty:TypeId}{x y:Operand}{a b:D}{κ:D->au}(h:aw P op ty (fF x||fF y) a b κ=some out){v w:V}(c:RD g a v)(i:RD g b w)(s:S):∃ d v',κ d=some out/\gk P s op ty x y (some v) (some w)=some v'/\RD g d v':=by
 have gen:∀ {κ:D->au},fU P op ty x y v w=true->(op=.eql->gc P (bU s) op ty v w=(dq P (bU s) 20 ty v w).map .bool)->(op=.neq->gc P (bU s) op ty v w=(dq P (bU s) 20 ty v w).map fun b=>.bool (!b)) ->
  (op=.eql/\(IC P 20 ty a b fun q=>κ (.bool q))=some out\/op=.neq/\(IC P 20 ty a b fun q=>κ (.bool !q))=some out)->∃ d v',κ d=some out/\gk P s op ty x y (some v) (some w)=some v'/\RD g d v':=fun {κ} l r u h=>by
  rcases h with⟨e,h⟩|⟨e,h⟩
  ·obtain⟨q,z,A⟩:=FW (bU s) h c i;exact⟨_,.bool q,z,by simp only[gk,l,ge,r e,A,Option.map],by simp only[RD]⟩
  ·obtain⟨q,z,A⟩:=FW (bU s) h c i;exact⟨_,.bool !q,z,by simp only[gk,l,ge,u e,A,Option.map],by simp only[RD]⟩
 unfold aw at h;split at h
 ·rename_i j m k n;simp only[RD]at c i;subst c i;cases E:pK op with
  |true=>rw[E]at h;cases h
  |false =>
   rw[E]at h;simp only[TD]at h;obtain⟨hk,h⟩:=aQ h;obtain⟨d,v',r,u,F⟩:=VQ h;refine⟨d,v',r,?_,F⟩;have:fU P op ty x y (.int j m) (.int k n)=true:=by unfold fU;cases oP op<;>rfl
   simp only[gk,this,ge,gc,E,TD,hk,u]
 ·simp only[RD]at c i;obtain⟨rfl,G⟩:=c;obtain⟨rfl,hb⟩:=i;obtain⟨d,v',r,u,F⟩:=Uv h G hb;refine⟨d,v',r,?_,F⟩;have:∀ p q,fU P op ty x y (.str p) (.str q)=true:=fun p q=>by unfold fU;cases oP op<;>rfl
  simp only[gk,this,ge,gc,u]
 ·rename_i n1 n2;obtain⟨l,h⟩:=aQ h;have H:op=.eql/\(IC P 20 ty a b fun q=>κ (.bool q))=some out\/op=.neq/\(IC P 20 ty a b fun q=>κ (.bool !q))=some out:=by
   split at h
   ·exact .inl ⟨rfl,h⟩
   ·exact .inr ⟨rfl,h⟩
   ·cases h
  refine gen ?_ (fun e=>?_) (fun e=>?_) H
  ·unfold SE at l;unfold fU;cases I:oP op with
   |false=>rfl
   |true =>
    rw[I]at l;simp only[ge]at l ⊢;split
    ·obtain rfl:=Ha c;obtain rfl:=Ha i;exact l
    ·obtain⟨_,rfl⟩:=LM c;obtain⟨_,rfl⟩:=LM i;exact l
    ·rfl
  ·subst e;unfold gc;split
   ·obtain rfl:=yc c;obtain rfl:=yc i;exact(n1 _ _ _ _ rfl rfl).elim
   ·obtain rfl:=ya c;obtain rfl:=ya i;exact(n2 _ _ rfl rfl).elim
   ·rfl
  ·subst e;unfold gc;split
   ·obtain rfl:=yc c;obtain rfl:=yc i;exact(n1 _ _ _ _ rfl rfl).elim
   ·obtain rfl:=ya c;obtain rfl:=ya i;exact(n2 _ _ rfl rfl).elim
   ·rfl
end Go.AI
namespace Go.AI
variable[fY]
variable{g:Gh}{LO:List Nat}{t:T LD}{tv:T V}{P:Program}{out:js}
theorem RD.one{d:D}{v:V}(r:RD g d v)(a:Tc d≠12)(c:Tc d≠13):v.one=true:=by have h:=r.tag;cases v<;>first|rfl|(exfalso;first|exact a h.symm|exact c h.symm)
theorem np{n:Nat}{d:D}{κ:List D->au}(h:aj n d κ=some out){v:V}(r:RD g d v):∃ new,κ new=some out/\RL g new v.cells/\bc v.cells/\v.cells.length=n:=by
 unfold aj at h;split at h
 ·simp only[RD]at r;obtain⟨vs,rfl,a,c⟩:=r;obtain⟨hb,h⟩:=aQ h;refine⟨_,h,a,c,?_⟩;rw[<- abr hb];exact a.len
 ·cases h
 ·rename_i n1 n2;obtain⟨hb,h⟩:=aQ h;have a:v.one=true:=r.one (by cases d<;>first|exact(n1 _ rfl).elim|(exact fun e=>by cases e)) (by cases d<;>first|exact(n2 _ rfl).elim|(exact fun e=>by cases e));rw[tA a];exact⟨_,h,RL.one1 r,fh.2 ⟨a,rfl⟩,(abr hb).symm⟩
theorem pG:∀ {cs:List D} {c:Nat} {new cs':List D} {vs ws:List V},mK cs c new=some cs'->RL g cs vs->bc vs->RL g new ws->bc ws->∃ vs',cC vs c ws=some vs'/\RL g cs' vs'/\bc vs'/\cs'.length=cs.length
 |cs,c,[],cs',vs,ws,h,d,e,a,_=>by
  simp only[RL]at a;subst a;have:cs'=cs:=by cases cs<;>cases c<;>(simp only[mK]at h;cases h;rfl)
  subst this;refine⟨vs,?_,d,e,rfl⟩;cases vs<;>cases c<;>rfl
 |x::r,n+1,y::new,cs',vs,ws,h,d,e,a,i=>by
  simp only[mK]at h;split at h
  ·rename_i l hl;cases h;simp only[RL]at d;obtain⟨v,vs',rfl,s,j⟩:=d;obtain⟨vs2,k,m,p,q⟩:=pG hl j (fh.1 e).2 a i;simp only[RL]at a;obtain⟨w,ws',rfl,_,_⟩:=a;exact⟨v::vs2,by simp only[cC,k,Option.map],by simp only[RL];exact⟨v,vs2,rfl,s,m⟩,fh.2 ⟨(fh.1 e).1,p⟩,by simp only[aeJ,q]⟩
  ·cases h
 |x::r,0,y::new,cs',vs,ws,h,d,e,a,i=>by
  simp only[mK]at h;split at h
  ·rename_i l hl;cases h;simp only[RL]at d a;obtain⟨v,vs',rfl,s,j⟩:=d;obtain⟨w,ws',rfl,u,z⟩:=a;obtain⟨vs2,k,m,p,q⟩:=pG hl j (fh.1 e).2 z (fh.1 i).2;exact⟨w::vs2,by simp only[cC,k,Option.map],by simp only[RL];exact⟨w,vs2,rfl,u,m⟩,fh.2 ⟨(fh.1 i).1,p⟩,by simp only[aeJ,q]⟩
  ·cases h
 |[],c,y::new,cs',vs,ws,h,_,_,_,_=>by cases c<;>(simp only[mK]at h;cases h)
theorem zA{cs:List D}{c:Nat}{new:List D}{κ:List D->au}(h:aE cs c new κ=some out){vs ws:List V}(a:RL g cs vs)(d:bc vs)(e:RL g new ws)(i:bc ws):∃ cs' vs',κ cs'=some out/\cC vs c ws=some vs'/\RL g cs' vs'/\bc vs'/\cs'.length=cs.length:=by
 unfold aE at h;split at h
 ·rename_i l hl;obtain⟨vs',j,k⟩:=pG hl a d e i;exact⟨l,vs',h,j,k⟩
 ·cases h
theorem AM(place:Nat->Option (Nat×Nat)):∀ {parts:List (Nat×Operand)} {cs:List D} {κ:List D->au} {vs:List V},DZ place t parts cs κ=some out->(∀ x∈parts,EA g LO t tv x.2)->RL g cs vs->bc vs ->
 ∃ cs' vs' ws,κ cs'=some out/\eI tv parts=some ws/\qD place vs ws=some vs'/\RL g cs' vs'/\bc vs'
 |[],cs,κ,vs,h,_,a,c=>⟨cs,vs,[],h,rfl,rfl,a,c⟩
 |(i,x)::r,cs,κ,vs,h,ho,a,c=>by
  simp only[DZ]at h;obtain⟨d,v,h,_,e,j⟩:=bI h (ho (i,x) aeK);split at h
  ·cases h
  ·rename_i off n hp;obtain⟨k,h⟩:=aQ h;obtain⟨new,h,l,m,p⟩:=np h j;obtain⟨cs1,vs1,h,q,s,u,_⟩:=zA h a c l m;obtain⟨cs2,vs2,ws,w,z,A,E,F⟩:=AM place h (fun y hy=>ho y (abE _ hy)) s u;refine⟨cs2,vs2,(i,v)::ws,w,by simp only[eI,e,z],?_,E,F⟩;simp only[qD,hp,p,aiw,k,ajc,ge,q,Option.bind];exact A
theorem Pr{ty:TypeId}{parts:List (Nat×Operand)}{κ:D->au}(h:BG P t ty parts κ=some out)(ho:∀ x∈parts,EA g LO t tv x.2):∃ d v,κ d=some out/\pR P ty (eI tv parts)=some v/\RD g d v:=by
 unfold BG at h;split at h
 ·rename_i z q;obtain⟨zv,l,_,m,p⟩:=jO (g:=g) q;split at h
  ·rename_i fs a;obtain⟨r,h⟩:=aQ h;obtain⟨cs',vs',ws,c,e,i,j,k⟩:=AM _ h ho m p;exact⟨_,.agg vs',c,by simp only[pR,l,e,a,r,ge,i,Jr],by simp only[RD];exact⟨vs',rfl,j,k⟩⟩
  ·rename_i nn el a;split at h
   ·rename_i n s;obtain⟨cs',vs',ws,c,e,i,j,k⟩:=AM _ h ho m p;exact⟨_,.agg vs',c,by simp only[pR,l,e,a,s,i,Jr],by simp only[RD];exact⟨vs',rfl,j,k⟩⟩
   ·cases h
  ·cases h
 ·cases h
def hQ(H:DH)(g:Gh):Prop:=∀(o:Nat) b,H[o]? = some b->b=.dead\/g.H[o]? = some b
theorem hQ.nil(g:Gh):hQ [] g:=fun o b h=>by simp at h
theorem hQ.refl(g:Gh):hQ g.H g:=fun _ _ h=>.inr h
theorem Fj{H:DH}{o:Nat}{κ:Nat->List D->au}(h:az H o κ=some out)(d:hQ H g)(a:Ok g):∃ st cs f el vs,κ st cs=some out/\H[o]? = some (.cells st cs)/\g.H[o]? = some (.cells st cs)/\g.O[o]? = some (some (f,0))/\g.s.get f=some (.cells el false 1 [⟨0,0,vs⟩])/\RL g cs vs/\bc vs:=by
 unfold az at h;split at h
 ·rename_i st cs hc;have c:g.H[o]? = some (.cells st cs):=(d o _ hc).resolve_left (fun e=>by cases e);obtain⟨f,el,vs,i⟩:=a.obj o _ c;exact⟨st,cs,f,el,vs,h,hc,c,i⟩
 ·cases h
theorem nu{H:DH}{o n:Nat}{κ:Nat->Bool->Bool->List (List D)->au}(h:ew H o n κ=some out)(a:hQ H g):∃ sz st cap l,κ sz st cap l=some out/\H[o]? = some (.buf sz st cap l)/\g.H[o]? = some (.buf sz st cap l)/\n=l.length:=by
 unfold ew at h;split at h
 ·rename_i sz st cap l hc;obtain⟨hb,h⟩:=aQ h;exact⟨sz,st,cap,l,h,hc,(a o _ hc).resolve_left (fun e=>by cases e),abr hb⟩
 ·cases h
theorem KC{s:S}{f el:Nat}{vs:List V}(h:s.get f=some (.cells el false 1 [⟨0,0,vs⟩])):loadCells s ⟨f,0,0⟩ vs.length=some vs:=by rw[ldn h,ajA];exact ei _ _ rfl
theorem VH{ty:TypeId}{d:D}{H:DH}{κ:D->au}(h:cH P ty d H κ=some out)(A:hQ H g)(k:Ok g){v:V}(r:RD g d v):∃ e v',κ e=some out/\jn P g.s ty (some v)=some (.val v' g.s)/\RD g e v':=by
 unfold cH at h;split at h
 ·simp only[RD]at r;obtain⟨a,vs,rfl,w,j,y,m⟩:=r;obtain⟨e,v',p,q,u⟩:=mN h j y m;exact⟨e,v',p,by rw[ki,q];rfl,u⟩
 ·rename_i o c;simp only[RD]at r;obtain⟨f,ver,w,rfl⟩:=r;obtain⟨_,cs,f',el,vs,h,_,_,j,y,m,z⟩:=Fj h A k;rw[w]at j;cases j;obtain⟨e,v',p,q,u⟩:=mN h (a:=⟨f,0,0⟩) (by rw[<- m.len];exact KC y) m z;refine⟨e,v',p,?_,u⟩;rw[ki,show(⟨f,0,c⟩:Ad)=cM ⟨f,0,0⟩ c by simp[cM],q];rfl
 ·rename_i o n i c;simp only[RD]at r;obtain⟨f,ver,sz,st,cap,l,ver',w,j,y,m,rfl,z⟩:=r;obtain⟨sz',st',cap',l',h,_,E,I⟩:=nu h A;rw[j]at E;cases E;unfold ba at h;split at h
  ·rename_i cs hc;obtain⟨_,F|⟨F,f',ver2,el,nv,vers,cells,G,i3,i4,i5,i6,J⟩⟩:=k.obj o _ j
   ·rw[F.1]at hc;simp at hc
   ·rw[w]at G;cases G;rw[z I];obtain⟨vs,K,M,N,O⟩:=J.at hc;obtain⟨e,v',p,q,u⟩:=mN h (a:=cM ⟨f,ver,0⟩ (i*sz)) (by rw[K];exact M) N O;refine⟨e,v',p,?_,u⟩;rw[ki,show(⟨f,ver,i*sz+c⟩:Ad)=cM (cM ⟨f,ver,0⟩ (i*sz)) c by simp[cM],q];rfl
  ·cases h
 ·cases h
theorem HP{ty:TypeId}{x:LD}{L:LS}{H:DH}{κ:D->au}(h:qx P ty x L H κ=some out)(m:hQ H g)(j:Ok g)(hl:LRw g L LO){v:V}(r:RS g LO x v):∃ e v',κ e=some out/\jn P g.s ty (some v)=some (.val v' g.s)/\RD g e v':=by
 cases x with
 |g d=>exact VH h m j r
 |u=>cases h
 |lp k c =>
  simp only[qx]at h;obtain⟨f,p,rfl⟩:=r;split at h
  ·rename_i st cs hc;obtain⟨_,i|⟨el,vs,i,l,w⟩⟩:=hl k _ f hc p
   ·simp only at i;subst i;exfalso;unfold cR at h;split at h
    ·split at h
     ·rename_i n _;obtain⟨y,h⟩:=aQ h;obtain⟨_,q⟩:=im h;have:=aeb y;simp at q;omega
     ·cases h
    ·obtain⟨d,q,_⟩:=jL h;simp at q
    ·cases h
   ·obtain⟨e,v',z,A,E⟩:=mN h (a:=⟨f,0,0⟩) (by rw[<- l.len];exact KC i) l w;refine⟨e,v',z,?_,E⟩;rw[ki,show(⟨f,0,c⟩:Ad)=cM ⟨f,0,0⟩ c by simp[cM],A];rfl
  ·cases h
theorem oK{ty el:TypeId}{d:TypeDesc}(h:yq P ty=some (d,el)):∃ kt,P.underlying ty=some (.map kt el)/\P.underlying kt=some d/\Cw d=true/\eC P kt=true:=by
 unfold yq at h;split at h
 ·rename_i kt el' c;split at h
  ·rename_i e a;cases hk:Cw e with
   |false=>rw[hk]at h;cases h
   |true =>rw[hk]at h;cases h;refine⟨kt,c,a,hk,?_⟩;unfold eC;rw[a];cases d<;>first|(cases hk;done)|rfl
  ·cases h
 ·cases h
theorem pJ{kt:TypeId}{td:TypeDesc}(i:P.underlying kt=some td)(okf:Ad->Bool){a b:D}{v w:V}{q:Bool}(h:Aj a b=some q)(e:re td a=true)(c:RD g a v)(d:RD g b w):dq P okf 20 kt v w=some q:=by
 unfold Aj at h;unfold dq;rw[i];split at h
 ·simp only[RD]at c d;subst c d;revert h;cases hk:dC _ _ with
  |false=>intro h;cases h
  |true =>intro h;simp only[ge]at h;cases td<;>first|(cases e;done)|(simp only[hk,ge];exact h)
 ·simp only[RD]at c d;obtain⟨rfl,j⟩:=c;obtain⟨rfl,hb⟩:=d;cases h;cases td<;>first|(cases e;done)|(simp only;rw[rP j hb];congr 1;rw[aiz];simp)
 ·simp only[RD]at c d;subst c d;cases h;cases td<;>first|(cases e;done)|rfl
 ·cases h
def aeB(g:Gh):Option D->Option V->Prop
 |some d,some v=>RD g d v
 |none,none=>True
 |_,_=>False
theorem rG.find{kt:TypeId}{td:TypeDesc}(a:P.underlying kt=some td)(okf:Ad->Bool){k:D}{kv:V}(c:re td k=true)(rk:RD g k kv):∀ {es:List (D×D)} {ents:List qi} {r:Option D},rG g es ents->HM k es=some r->∃ rv,cD (dq P okf 20 kt) kv ents=some rv/\aeB g r rv
 |[],_,r,h,e=>by simp only[rG]at h;subst h;cases e;exact⟨none,rfl,trivial⟩
 |(x,v)::l,_,r,h,e=>by
  simp only[rG]at h;obtain⟨⟨ke,ve,born⟩,es',rfl,i,j,_,m⟩:=h;simp only[HM]at e;split at e
  ·rename_i d;cases e;exact⟨some ve,by simp only[cD,pJ a okf d c rk i,cD.foundKey],j⟩
  ·rename_i d;obtain⟨rv,n,p⟩:=rG.find a okf c rk m e;exact⟨rv,by simp only[cD,pJ a okf d c rk i,cD.foundKey,n],p⟩
  ·cases e
theorem Bu{H:DH}{o:Nat}{κ:List (D×D)->au}(h:qX H o κ=some out)(d:hQ H g)(a:Ok g):∃ es f ents clock,κ es=some out/\H[o]? = some (.map es)/\g.H[o]? = some (.map es)/\g.O[o]? = some (some (f,0))/\g.s.get f=some (.map ents clock)/\rG g es ents:=by
 unfold qX at h;split at h
 ·rename_i es hc;have c:g.H[o]? = some (.map es):=(d o _ hc).resolve_left (fun e=>by cases e);obtain⟨f,ents,clock,i,j,k⟩:=a.obj o _ c;exact⟨es,f,ents,clock,h,hc,c,i,j,k⟩
 ·cases h
theorem DP{el:TypeId}{ok:Bool}{o:Option D}{κ:D->au}(h:lw P el ok o κ=some out){rv:Option V}(hr:aeB g o rv):∃ d v,κ d=some out/\Ni P el ok (some rv)=some v/\RD g d v:=by
 cases o with
 |some d =>
  cases rv with
  |none=>exact hr.elim
  |some v =>
   refine⟨_,_,h,rfl,?_⟩;cases ok with
   |false=>exact hr
   |true=>simp only[ge,RD,RL];exact⟨_,rfl,v,_,rfl,hr,_,_,rfl,rfl,rfl⟩
 |none =>
  cases rv with
  |some _=>exact hr.elim
  |none =>
   simp only[lw]at h;split at h
   ·rename_i z c;obtain⟨zv,e,a,_⟩:=jO (g:=g) c;refine⟨_,bif ok then .tuple [zv,.bool false] else zv,h,by simp only[Ni,e],?_⟩;cases ok with
    |false=>exact a
    |true=>simp only[ge,RD,RL];exact⟨_,rfl,zv,_,rfl,a,_,_,rfl,rfl,rfl⟩
   ·cases h
theorem RP{ty:TypeId}{m k:D}{ok:Bool}{H:DH}{κ:D->au}(h:nN P ty m k ok H κ=some out)(q:hQ H g)(e:Ok g){mv kv:V}(c:RD g m mv)(u:RD g k kv):∃ d v,κ d=some out/\kh P g.s ty (some mv) (some kv) ok=some v/\RD g d v:=by
 unfold nN at h;split at h
 ·rename_i td el hm;obtain⟨kt,n,hk,_,a⟩:=oK hm;split at h
  ·obtain⟨w,h⟩:=aQ h;simp only[RD]at c;obtain⟨f,ver,y,rfl⟩:=c;obtain⟨es,f',ents,clock,h,_,_,p,z,A⟩:=Bu h q e;rw[y]at p;cases p;unfold vw at h;split at h
   ·rename_i r hr;obtain⟨rv,E,F⟩:=A.find (P:=P) hk (bU g.s) w u hr;obtain⟨d,v,i,j,l⟩:=DP h F;exact⟨d,v,i,by simp only[kh,n,Bm,z,a,ge,E];exact j,l⟩
   ·cases h
  ·simp only[RD]at c;subst c;obtain⟨d,v,i,j,l⟩:=DP (g:=g) h (rv:=none) trivial;exact⟨d,v,i,by simp only[kh,n,Bm,a,ge,cD];exact j,l⟩
  ·cases h
 ·cases h
theorem rG.len:∀ {es:List (D×D)} {ents:List qi},rG g es ents->ents.length=es.length
 |[],_,h=>by simp only[rG]at h;subst h;rfl
 |(x,v)::l,_,h=>by simp only[rG]at h;obtain⟨e,es',rfl,_,_,_,a⟩:=h;simp only[aeJ,rG.len a]
theorem VF{ty:TypeId}{x:D}{H:DH}{κ:D->au}(h:aY P ty x H κ=some out)(k:hQ H g)(i:Ok g){v:V}(r:RD g x v):∃ d v',κ d=some out/\lQ P ty g.s v=some v'/\RD g d v':=by
 unfold aY at h;split at h
 ·rename_i e;split at h
  ·simp only[RD]at r;obtain⟨rfl,_⟩:=r;exact⟨_,.int .i64 _,h,by simp only[lQ,e,cJ];rfl,by simp only[RD]⟩
  ·cases h
 ·rename_i e;split at h
  ·rename_i l;simp only[RD]at r;refine⟨_,.int .i64 (l.length:Nat),h,?_,by simp only[RD]⟩;rcases r with⟨rfl,rfl⟩|⟨rfl,a,z,sz',rfl⟩|⟨a,z,cap,rfl,_⟩
   ·simp only[lQ,e];rfl
   ·simp only[lQ,e,cJ];rfl
   ·simp only[lQ,e,cJ]
  ·rename_i n;simp only[RD]at r;obtain⟨st,cap,l,_,_,⟨rfl,rfl|⟨a,z,sz',rfl⟩⟩|⟨_,f,ver,ver',c,_,rfl,_⟩⟩:=r
   ·exact⟨_,.int .i64 0,h,by simp only[lQ,e],by simp only[RD];rfl⟩
   ·exact⟨_,.int .i64 0,h,by simp only[lQ,e,cJ];rfl,by simp only[RD];rfl⟩
   ·exact⟨_,.int .i64 (n:Nat),h,by simp only[lQ,e,cJ],by simp only[RD]⟩
  ·simp only[RD]at r;refine⟨_,.int .i64 0,h,?_,by simp only[RD]⟩;rcases r with rfl|⟨a,z,sz',rfl⟩
   ·simp only[lQ,e]
   ·simp only[lQ,e,cJ];rfl
  ·cases h
 ·rename_i e;split at h
  ·simp only[RD]at r;obtain⟨f,ver,m,rfl⟩:=r;obtain⟨es,f',ents,clock,h,_,_,j,p,q⟩:=Bu h k i;rw[m]at j;cases j;exact⟨_,.int .i64 (es.length:Nat),h,by simp only[lQ,e,p,q.len],by simp only[RD]⟩
  ·simp only[RD]at r;subst r;exact⟨_,.int .i64 0,h,by simp only[lQ,e],by simp only[RD]⟩
  ·cases h
 ·cases h
theorem Vv{q:Bool}{x y:D}{κ:D->au}(h:Kw q x y κ=some out){v w:V}(a:RD g x v)(c:RD g y w):∃ d v',κ d=some out/\(bif q then OD v w else OC v w)=some v'/\RD g d v':=by
 unfold Kw at h;split at h
 ·split at h
  ·simp only[RD]at a c;subst a c;obtain⟨hk,h⟩:=aQ h;refine⟨_,_,h,?_,by simp only[RD];rfl⟩;cases q with
   |true=>simp only[ge,OD,hk]
   |false=>simp only[TD,OC,hk,ge]
  ·cases h
 ·cases h
theorem zR{q:Bool}:∀ {l:List D} {x:D} {κ:D->au} {ws:List V} {v:V},iN q x l κ=some out->RD g x v->RL g l ws->∃ d v',κ d=some out/\ws.foldlM (fun a b=>bif q then OD a b else OC a b) v=some v'/\RD g d v'
 |[],x,κ,ws,v,h,e,c=>by simp only[RL]at c;subst c;exact⟨x,v,h,rfl,e⟩
 |y::l,x,κ,ws,v,h,e,c=>by simp only[RL]at c;obtain⟨w,ws',rfl,i,j⟩:=c;simp only[iN]at h;obtain⟨d,v1,h,k,m⟩:=Vv h e i;obtain⟨n,v',p,r,s⟩:=zR h m j;exact⟨n,v',p,by rw[List.foldlM_cons,k];exact r,s⟩
end Go.AI
