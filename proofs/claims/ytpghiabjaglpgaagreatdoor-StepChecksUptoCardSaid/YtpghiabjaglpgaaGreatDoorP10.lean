/- Lemmas. No conditions. -/
import Derived.Test.YtpghiabjaglpgaaGreatDoorP9
set_option linter.all false
noncomputable section
namespace Go.Proofs.YtpghiabjaglpgaaGreatDoor
open Go.AI
def El(m:Mc)(mp:List (Nat×af)):∀(l:List Ce) (i:Nat),lB m mp l i=true->∀(j:Nat) (c:Ce),l[j]? = some c->xq m mp (i+j) c=true
 |[],_,_,j,c,h=>by simp at h
 |x::r,i,h,j,c,a=>by
  rw[lB,abA]at h;cases j with
  |zero =>simp only[akc,abB]at a;subst a;exact h.1
  |succ j =>
   simp only[ajq]at a;have:=El m mp r (i+1) h.2 j c a
   rwa [show i+1+j=i+(j+1)by omega]at this
def Nr(m:Mc)(G:Pg)(h:gH m G=true):abv m:=by
 unfold gH at h;simp only[abA]at h;intro i c hc hk;have:=El m G.m m.ce 0 h.2.2.2.1 i c hc;rw[aiv]at this;unfold xq at this;simp only[show(c.k==1)=false by rw[hk];rfl,show(c.k==2)=false by rw[hk];rfl,show(c.k==3)=true by rw[hk];rfl,ge,TD,abA]at this;refine⟨?_,this.2.2.2.1⟩;have hl:c.refs.length=1:=by have:=akj this.2.2.1;omega
 match c.refs,hl with
 |[r],_=>exact⟨r,rfl⟩
mutual
def acP(d f:Int)(b:Nat):∀(e:Ex) (n:Nat) (p:af),∀ y∈nV d f (b:Nat) n p e,0<=y.b
 |.mk k m nm a xs ps,n,p,y,hy=>by
  rw[nV,aff]at hy;rcases hy with rfl|hy
  ·simp only;omega
  ·exact XW d f b xs _ _ _ y hy
def XW(d f:Int)(b:Nat):∀(l:List Ex) (n:Nat) (p:af) (i:Nat),∀ y∈iM d f (b:Nat) n p i l,0<=y.b
 |[],_,_,_,y,hy=>by simp[iM]at hy
 |x::r,n,p,i,y,hy=>by
  rw[iM,aiq]at hy;rcases hy with hy|hy
  ·exact acP d f b x _ _ y hy
  ·exact XW d f b r _ _ _ y hy
end
def acQ{G:Pg}(h:∀ y∈G.ns,0<=y.b)(a:Bo)(f:Int)(e:Ex):∀ y∈(G.addB a f e).ns,0<=y.b:=by
 intro y hy;change y∈G.ns++nV _ _ _ _ _ _ at hy;rcases aiq.1 hy with hy|hy
 ·exact h y hy
 ·exact acP _ _ _ e _ _ y hy
def XY(i:Nat):∀(l:List Fu) (k:Nat) (G:Pg),(∀ y∈G.ns,0<=y.b)->∀ y∈(G.addFs i 3 k l).ns,0<=y.b
 |[],_,_,h=>h
 |f::r,k,G,h=>XY i r (k+1) _ (acQ (G:={ G with cs:=G.cs++[G.bs.length] }) h _ _ _)
def XZ:∀(l:List De) (i:Nat) (G:Pg),(∀ y∈G.ns,0<=y.b)->∀ y∈(G.addDs i l).ns,0<=y.b
 |[],_,_,h=>h
 |d::r,i,G,h=>by
  rw[Pg.addDs];refine XZ r (i+1) _ ?_;unfold Pg.addD;split
  ·exact XY i d.fs 0 G h
  ·split
   ·exact acQ (G:={ G with rs:=G.rs++[G.bs.length] }) h _ _ _
   ·exact h
def acO(l:List De):∀ y∈(cU l).ns,0<=y.b:=XZ l 0 (⟨l,[],[],[],[],[]⟩:Pg) (fun y hy=>by cases hy)
def Vw{α β γ:Type}{f:α->γ}{g:β->γ}{l:List α}{r:List β}(h:l.map f=r.map g){i:Nat}{y:α}(hy:l[i]? = some y):∃ z,r[i]? = some z/\f y=g z:=by
 have:=aiK (fun t=>t[i]?) h;simp only[aiO,hy,ajl]at this;cases q:r[i]? with
 |none=>rw[q]at this;cases this
 |some z =>rw[q]at this;exact⟨z,rfl,by simpa using this⟩
def MF(l:List De)(i:Nat)(hi:i<(cU l).ns.length):∃(y:Nd) (z:Fn) (j:Nat) (x:Bo),(cU l).ns[i]? = some y/\(se l).ns[i]? = some z/\y.b=(j:Nat)/\(cU l).bs[j]? = some x/\x.decl=z.d/\decide (x.run<0)=z.fn:=by
 have hr:=rel l;have hy:(cU l).ns[i]? = some (cU l).ns[i]:=abF hi;have hb:=acO l _ (akg hi);generalize(cU l).ns[i]=y at hy hb;have hm:=hr.b;rw[akN,akN]at hm;obtain⟨z,a,e⟩:=Vw hm hy;simp only[Function.comp_apply,lk]at e;cases q:(cU l).bs[y.b.toNat]? with
 |none=>rw[q]at e;cases e
 |some x =>rw[q]at e;simp only[ajl,abB,fB,zB,ajr]at e;exact⟨y,z,y.b.toNat,x,hy,a,by omega,q,e.1,e.2⟩
def Yq(d:De)(h:dE br d=true):((d.k==3)=false->d.fs=[])/\d.fs.length<=16:=by
 unfold dE at h;by_cases b:d.k=1
 ·have:d.fs=[]:=by simp[b]at h;exact h.2.2.2.2
  exact⟨fun _=>this,by simp[this]⟩
 by_cases c:d.k=2
 ·have:d.fs=[]:=by simp[c]at h;exact h.2.2.2.2
  exact⟨fun _=>this,by simp[this]⟩
 by_cases a:d.k=3
 ·simp[a]at h;exact⟨fun q=>(by rw[a]at q;cases q),h.2.2.2.2.2.1⟩
 by_cases e:d.k=4
 ·have:d.fs=[]:=by simp[e]at h;exact h.2.2.2.2
  exact⟨fun _=>this,by simp[this]⟩
 by_cases f:d.k=5
 ·have:d.fs=[]:=by simp[f]at h;exact h.2.2.2.2
  exact⟨fun _=>this,by simp[this]⟩
 simp[b,c,a,e,f]at h
def Kn:∀ l:List De,l.all (dE br)=true->Uk l<=16*l.length
 |[],_=>by simp[Uk]
 |d::r,h=>by rw[ajb,abA]at h;have:=Kn r h.2;have:=(Yq d h.1).2;rw[Uk,aeJ];omega
def Ur(m:Mc){a:List To}{b:List af}(h:tU m a b=true):a.length=b.length:=by
 by_cases q:a.length=b.length
 ·exact q
 ·rw[rM m q]at h;cases h
def YL(l:List De)(m:Mc)(nm:af)(z:Fn):Bool×Re:=mq nm z.fn z.d m.to (dD l).length l 0 0 0 0 (false,⟨false,0⟩)
def Il(l:List De)(m:Mc)(nm:af):Bool×Re:=match nT m nm (m.en+1).toNat m.en with
 |some r=>(true,r)
 |none=>match(se l).ns[m.ex.toNat]? with
  |some z=>YL l m nm z
  |none=>(false,⟨false,0⟩)
def OS(a:Bool×Re):D:=.tuple [.agg [.bool a.2.c,.i a.2.n],.bool a.1]
structure PK(l:List De)(m:Mc):Prop where
 ho:∀ x∈l,x.ok
 z:cu br l=0
 s:gH m (cU l)=true
 mo:m.mo=1
def PK.mode{l:List De}{m:Mc}(h:PK l m):0<=m.ex/\m.ex<((cU l).ns.length:Int)/\cS m m.en m.ce.length=true:=by have:=h.s;unfold gH vd nL at this;simp only[abA,h.mo,show((1:Int)==1)=true from rfl,ge,ajJ]at this;exact⟨this.2.2.2.2.1.1,this.2.2.2.2.1.2.1,this.2.2.2.2.1.2.2.1⟩
def PK.tops{l:List De}{m:Mc}(h:PK l m):(dD l).length<=m.to.length:=by have:=h.s;unfold gH vd CT at this;simp only[abA]at this;have:=Ur m this.2.2.2.2.2.1.1;rw[yj,aae]at this;omega
def adO{l:List De}{m:Mc}(h:PK l m){H:DH}{n:Nat}(d:gd H n (cU l))(nm:af) :
 am 49 [.ptr (n+5) 0,.agg (bu m),.i m.ex,.i m.en,.str nm] H=ret (OS (Il l m nm)) H:=by
 obtain⟨h0,h1,a⟩:=h.mode;have q:=Nr m _ h.s;obtain⟨_,hl60,_,b⟩:=ku h.z;have hn:=Kn l b;obtain⟨i,hi⟩:=ajB h0;obtain⟨y,z,j,x,hy,r,c,t,u,hr⟩:=MF l i (by omega);have p:=abV m H d (by rw[yj];omega) j x t nm m.to (by rw[yj];omega);rw[yj,u,hr]at p;obtain⟨st,ho⟩:=d.o;have v:ac av 49 200001 [.g (.ptr (n+5) 0),.n m.ex,.n (-1),.g (.str nm),.lp 0 0,.lp 1 0] [(0,bu m),(0,[.bool false,.i 0])] H=ret (OS (YL l m nm z)) H:=by refine aZ (Bf _ _ _ _ _ _ _ _ _) ?_;have f:=(aez.1 hy).1;obtain⟨⟨k,mm,nn,ag,xs,ps⟩,yd,yf,yp,yb,yr⟩:=y;simp only at c;rw[show decide ((-1:Int)>=0)=false from rfl,TD,hi];simp only[ae ho,ao,ax,ZT,il f,boK,ge,oZ,MU,dj d.ns,bm hy,zP,c,aU p,gb,iz,HC];rfl
 have w:=SR m q H (n+5) m.ex nm _ v (m.en+1).toNat m.en (by rcases gz a with e|e<;>omega) a
 refine ev (f49 _ _ _ _ _ _ _) ?_;rw[w,Il,hi,aiZ,r];cases nT m nm (m.en+1).toNat m.en<;>rfl
def adN{l:List De}{m:Mc}(h:PK l m){H:DH}{n:Nat}(k:kC H n (se l))(nm:af) :
 am 50 [.ptr (n+5) 0,.agg (bu m),.i m.en,.str nm,.i m.ex] H=ret (OS (Il l m nm)) H:=by
 obtain⟨h0,h1,b⟩:=h.mode;have o:=Nr m _ h.s;obtain⟨_,hl60,_,a⟩:=ku h.z;have hn:=Kn l a;obtain⟨i,hi⟩:=ajB h0;obtain⟨y,z,j,x,hy,c,hyb,d,hd,hr⟩:=MF l i (by omega);have f:=abU m H k (by rw[ua];omega) i z c nm (by rw[ua];omega) (by rw[ua];exact fun x d=>(Yq x (aiX.1 a x d)).1) (by rw[ua];exact h.tops);rw[ua]at f;have p:ac av 50 200001 [.g (.ptr (n+5) 0),.n (-1),.g (.str nm),.n m.ex,.lp 0 0,.lp 1 0] [(0,bu m),(0,[.bool false,.i 0])] H=ret (OS (YL l m nm z)) H:=by refine aZ (Be _ _ _ _ _ _ _ _ _) ?_;rw[show decide ((-1:Int)>=0)=false from rfl,TD,hi,ai f];simp only[gb,ao,ax,iz,HC];rfl
 have q:=SQ m o H (n+5) m.ex nm _ p (m.en+1).toNat m.en (by rcases gz b with e|e<;>omega) b
 refine ev (f50 _ _ _ _ _ _ _) ?_;rw[q,Il,hi,aiZ,c];cases nT m nm (m.en+1).toNat m.en<;>rfl
def fiV(l:List De)(m:Mc)(nm:af):Re×Int :=
 bif uO l m != 0 then(⟨false,0⟩,uO l m)else bif m.mo != 1 then(⟨false,0⟩,1)else bif (Il l m nm).1 then((Il l m nm).2,0)else(⟨false,0⟩,3)
def ST(a:Re×Int):D:=.tuple [.agg [.bool a.1.c,.i a.1.n],.i a.2]
def Yu{l:List De}{m:Mc}(h:uO l m=0):cu br l=0/\gH m (cU l)=true:=by
 unfold uO at h;by_cases a:cu br l=0
 ·rw[a]at h;simp only[akm,TD]at h;cases q:gH m (cU l)with
  |true=>exact⟨a,rfl⟩
  |false=>rw[q]at h;cases h
 ·rw[show(cu br l != 0)=true by rw[bne,aeA.2 a];rfl,ge]at h;exact(a h).elim
def afI(m:Mc)(mo:tP m)(l:List De)(hl:l.length<2^61)(ho:∀ x∈l,x.ok)(nm:af)(H:DH):am 22 [.agg [.row 14 (l.map bF)],.agg (bu m),.str nm] H=ret (ST (fiV l m nm)) H:=by
 obtain⟨X,h,c⟩:=Tx m mo l hl ho H;refine ev (f22 _ _ _ _ _) ?_;unfold fiV;simp only[ai h,gb,ao,ax,dX,aq];cases hc:uO l m != 0 with
 |true=>exact eB (by simp[ST,D.bel,dF])
 |false =>
  simp only[TD];cases hm:m.mo != 1 with
  |true=>exact eB (by simp[ST,D.bel,dF])
  |false =>
   have a:m.mo=1:=by simpa using hm
   obtain⟨b,d⟩:=Yu (show uO l m=0 by simpa using hc);have e:=adO ⟨ho,b,d,a⟩ (c b) nm;simp only[b,akm,TD];rw[ai e,OS];simp only[gb,ao,ax,iz,HC,aH,aq];cases (Il l m nm).1 with
   |true=>exact eB (by simp[ST,D.bel,dF])
   |false=>exact eB (by simp[ST,D.bel,dF])
def afH(m:Mc)(mo:tP m)(l:List De)(hl:l.length<2^61)(ho:∀ x∈l,x.ok)(hc:∀ H,am 35 [.agg [.row 14 (l.map bF)]] H=ret (.i (cu br l)) H)(nm:af)(H:DH):am 23 [.agg [.row 14 (l.map bF)],.agg (bu m),.str nm] H=ret (ST (fiV l m nm)) H:=by
 have h:=Yt m mo l hl ho hc H;have tr:=fun(d:D) (a:d.bel H.length)=>(by have:=eB (H:=H) (X:=[]) a;rwa [aic]at this:aX H (ret d H)=ret d H);refine ev (f23 _ _ _ _ _) ?_;unfold fiV;simp only[ai h,dX,aq];cases b:uO l m != 0 with
 |true=>exact tr _ (by simp[ST,D.bel,dF])
 |false =>
  simp only[TD];cases hm:m.mo != 1 with
  |true=>exact tr _ (by simp[ST,D.bel,dF])
  |false =>
   have c:m.mo=1:=by simpa using hm
   obtain⟨f,g⟩:=Yu (show uO l m=0 by simpa using b);obtain⟨j,k,n⟩:=sr f;obtain⟨st,e⟩:=acJ l hl ho (fun d a=>(j d a).fl) k n H;have o:=adN ⟨ho,f,g,c⟩ (acj H st (se l)) nm;simp only[TD];rw[aU e,aU o,OS];simp only[gb,ao,ax,iz,HC,aH,aq];cases (Il l m nm).1 with
   |true=>exact eB (by simp[ST,D.bel,dF])
   |false=>exact eB (by simp[ST,D.bel,dF])
def YY(H:DH):am 9 [] H=ret (.bool true) H:=by show eP de (.call 9 [] none) H=_;rw[Lb];rfl
def afC(m:Mc)(mo:tP m)(l:List De)(hl:l.length<2^61)(ho:∀ x∈l,x.ok2)(nm:af)(H:DH) :
 am 7 [.agg [.row 14 (l.map bF)],.agg (bu m),.str nm] H=ret (.bool true) H:=by
 have a:∀ x∈l,x.ok:=fun x f=>(ho x f).ok;have hc:=WM ZR l (by omega) ho;have b:=afI m mo l hl a nm H;have c:=afH m mo l hl a hc nm H;have d:=aen m mo l hl a H;have e:=Yt m mo l hl a hc H;simp only[ST]at b c;refine ev (f7 _ _ _ _ _) ?_;simp only[ai (YY H),ai b,ai c,gb,ao,ax,iz,HC,aU d,aU e,aT,akE,aq,ge,ael,aek,ajc]
end Go.Proofs.YtpghiabjaglpgaaGreatDoor
