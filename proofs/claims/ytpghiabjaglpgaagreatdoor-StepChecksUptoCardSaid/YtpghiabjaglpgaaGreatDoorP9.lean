/- Lemmas. No conditions. -/
import Derived.Test.YtpghiabjaglpgaaGreatDoorP8
set_option linter.all false
noncomputable section
namespace Go.Proofs.YtpghiabjaglpgaaGreatDoor
open Go.AI
def Qj(nm:af)(v:Bool)(e:Nat)(a:Bool×Re):GY nm v [] e a=a:=rfl
def XF(m:Mc)(nm:af)(ex:Nat){H:DH}{n:Nat}{G:Rf}(h:kC H n G)(y:Fn)(hy:G.ns[ex]? = some y)(ni:Nat)(g:G.ds.length<2^60)(j:ni<2^60)
 (v:∀ x∈G.ds,(x.k==3)=false->x.fs=[]):∀(suf pre:List De) (c e q:Nat) (a:Bool×Re),G.ds=pre++suf->e+(dD suf).length<=m.to.length->e<=pre.length->q<=pre.length->c+Uk suf<2^61 ->
 R8 m nm (n+5) ex y.d H 200008 c e (ni+q) pre.length a=ret (.tuple [.agg [.bool (mq nm y.fn y.d m.to ni suf pre.length e q c a).2.c,.i (mq nm y.fn y.d m.to ni suf pre.length e q c a).2.n],.bool (mq nm y.fn y.d m.to ni suf pre.length e q c a).1]) H
 |[],pre,c,e,q,a,hp,_,_,_,_=>by obtain⟨st,h0⟩:=h.o;refine aZ (wX _ _ _ _ _ _ _ _ _ _ _ _ _ _ _ _) ?_;simp only[ae h0,ao,um,aby,aS,aq];rw[er,show G.ds.length=pre.length by rw[hp];simp,abz (aiD _),TD];rfl
 |x::suf,pre,c,e,q,a,hp,b,he1,hq,hc=>by
  obtain⟨st,h0⟩:=h.o;rw[Uk]at hc;have hi:pre.length<G.ds.length:=by rw[hp];simp
  have l:G.ds[pre.length]? = some x:=by rw[hp];simp
  have p:=Gm x;have r:=v x (by rw[hp];simp);have ih:=fun c e q a w z A B=>XF m nm ex h y hy ni g j v suf (pre++[x]) c e q a (by rw[hp];simp) w z A B;simp only[aae,aaQ]at ih;have s:=acn m nm ex y.d H h y hy x (by omega) e (ni+q) pre.length x.fs [] c a rfl (by omega)
  have t:=aco m nm ex y.d H h y hy x (c+x.fs.length) e (ni+q) pre.length (by omega) (by omega) (fun k=>by rw[dD,show(x.k==2)=true by rw[k];rfl,ge,aeJ]at b;omega) (by omega) (GY nm (decide ((pre.length:Int)<y.d)||((pre.length:Int)==y.d&&y.fn)) x.fs c a)
  refine aZ (wX _ _ _ _ _ _ _ _ _ _ _ _ _ _ _ _) ?_;simp only[ae h0,ao,um,aby,aS,aq];rw[er,abC hi,ge];simp only[Sx,bm l,Sf _ p,abf _ p,Zl _ p];refine(s.trans t).trans ?_;rw[mq];rw[dD]at b;cases u:x.k==3 with
  |true =>
   have f:(x.k==2)=false:=by rw[akj u];rfl
   have E:(x.k==4)=false:=by rw[akj u];rfl
   rw[f]at b;rw[f,E];simp only[ge,TD]at b ⊢;exact ih _ e q _ b (by omega) (by omega) (by omega)
  |false =>
   rw[r u]at hc ⊢;rw[Qj,aiC,aiU];simp only[TD];cases f:x.k==2 with
   |true =>rw[f,ge,aeJ]at b;simp only[ge];exact ih c (e+1) q _ (by omega) (by omega) (by omega) (by omega)
   |false =>
    rw[f,TD]at b;simp only[TD];cases x.k==4 with
    |true =>simp only[ge];exact ih c e (q+1) _ b (by omega) (by omega) (by omega)
    |false =>simp only[TD];exact ih c e q _ b (by omega) (by omega) (by omega)
def abU(m:Mc)(H:DH){n:Nat}{G:Rf}(h:kC H n G)(hd:G.ds.length<=9000)(ex:Nat)(y:Fn)(hy:G.ns[ex]? = some y)(nm:af)(hn:Uk G.ds<2^60)(b:∀ x∈G.ds,(x.k==3)=false->x.fs=[])(ht:(dD G.ds).length<=m.to.length) :
 am 101 [.ptr (n+5) 0,.agg (bu m),.str nm,.i ex] H=ret (.tuple [.agg [.bool (mq nm y.fn y.d m.to (dD G.ds).length G.ds 0 0 0 0 (false,⟨false,0⟩)).2.c,.i (mq nm y.fn y.d m.to (dD G.ds).length G.ds 0 0 0 0 (false,⟨false,0⟩)).2.n],.bool (mq nm y.fn y.d m.to (dD G.ds).length G.ds 0 0 0 0 (false,⟨false,0⟩)).1]) H:=by
 have hi:=Yh H h (by omega);have li:=sJ G.ds;have e:kC (Yn H (dD G.ds)) n G:=h.app _;obtain⟨st,h0⟩:=h.o;have a:=(aez.1 hy).1;have hl:=XF m nm ex e y hy (dD G.ds).length (by omega) (by omega) b G.ds [] 0 0 0 (false,⟨false,0⟩) rfl (by omega) (abD _) (abD _) (by omega);refine ev (aia _ _ _ _ _ _) ?_;refine(aiK (aX H) ?_).trans (eB (X:=[.buf 1 true false ((dD G.ds).map fD)]) (by simp[D.bel,dF]));obtain⟨⟨k,mm,nn,ag,xs,ps⟩,yd,yf,yp,yn,ys,yr⟩:=y;simp only[ae h0,ao,ax,VU,il a,boK,ge,oZ,MU,dj h.ns,bm hy,qb,aiv,aiU,ai hi,qZ];exact hl
def lk{β:Type}(f:Bo->β)(bs:List Bo)(c:Nat):Option β:=(bs[c]?).map f
def mP{β:Type}(f:Bo->β)(bs:List Bo)(b:Bo):∀(l:af) (M:List β),l.map (lk f bs)=M.map some->l.map (lk f (bs++[b]))=M.map some
 |[],[],_=>rfl
 |[],_::_,h=>by simp at h
 |_::_,[],h=>by simp at h
 |c::l,v::M,h=>by
  simp only[aeL,ajV]at h;rw[aeL,aeL,mP f bs b l M h.2];have a:=h.1;unfold lk at a ⊢;cases q:bs[c]? with
  |none=>rw[q]at a;cases a
  |some x =>rw[q]at a;rw[aeN (aez.1 q).1,q,a]
def yu{β:Type}(f:Bo->β)(bs:List Bo)(b:Bo):lk f (bs++[b]) bs.length=some (f b):=by unfold lk;rw[ajh (abD _),ajj];rfl
def fB(x:Bo):Int×Bool:=(x.decl,decide (x.run<0))
def fC(x:Bo):af×Nat:=(x.arg,x.first)
def fR(x:Bo):af×Int:=(x.name,x.kind)
def qR(q:af×Nat×Nat×Bool):af×Int:=(q.1,if q.2.2.2 then 5 else 4)
def nE(y:Nd):Ex×Int:=(y.e,y.d)
def zE(z:Fn):Ex×Int:=(z.e,z.d)
def zB(z:Fn):Int×Bool:=(z.d,z.fn)
structure Ob(G:Pg)(R:Rf):Prop where
 ds:G.ds=R.ds
 e:G.ns.map nE=R.ns.map zE
 b:(G.ns.map (·.b.toNat)).map (lk fB G.bs)=(R.ns.map zB).map some
 c:G.cs.map (lk fC G.bs)=R.fs.map some
 r:G.rs.map (lk fR G.bs)=(R.rs.map qR).map some
mutual
def Zd(d f b:Int)(fn:Bool):∀(e:Ex) (n:Nat) (p par:af),(nV d f b n p e).map nE=(ed d f fn p par e).map zE
 |.mk k m nm a xs ps,n,p,par=>by rw[nV,ed,aeL,aeL,XH d f b fn xs (n+1) p 0 k a];rfl
def XH(d f b:Int)(fn:Bool):∀(l:List Ex) (n:Nat) (p:af) (i:Nat) (k:Int) (a:af),(iM d f b n p i l).map nE=(dT d f fn p k a i l).map zE
 |[],_,_,_,_,_=>by simp[iM,dT]
 |x::r,n,p,i,k,a=>by rw[iM,dT,ais,ais,Zd d f b fn x n (p++[i]),XH d f b fn r _ p (i+1) k a]
end
mutual
def Ze(d f:Int)(j:Nat)(fn:Bool)(bs:List Bo)(hb:lk fB bs j=some (d,fn)):∀(e:Ex) (n:Nat) (p par:af),((nV d f (j:Nat) n p e).map (·.b.toNat)).map (lk fB bs)=((ed d f fn p par e).map zB).map some
 |.mk k m nm a xs ps,n,p,par=>by rw[nV,ed,aeL,aeL,aeL,aeL,XN d f j fn bs hb xs (n+1) p 0 k a];simp only[aiZ,hb];rfl
def XN(d f:Int)(j:Nat)(fn:Bool)(bs:List Bo)(hb:lk fB bs j=some (d,fn)):∀(l:List Ex) (n:Nat) (p:af) (i:Nat) (k:Int) (a:af),((iM d f (j:Nat) n p i l).map (·.b.toNat)).map (lk fB bs)=((dT d f fn p k a i l).map zB).map some
 |[],_,_,_,_,_=>by simp[iM,dT]
 |x::r,n,p,i,k,a=>by rw[iM,dT,ais,ais,ais,ais,Ze d f j fn bs hb x n (p++[i]),XN d f j fn bs hb r _ p (i+1) k a]
end
def Ob.len{G:Pg}{R:Rf}(h:Ob G R):G.ns.length=R.ns.length:=by have:=aiK List.length h.e;simpa using this
def XM{G:Pg}{R:Rf}(h:Ob G R)(i k:Nat)(f:Fu):Ob (G.addF i 3 k f) ((R.addH ⟨i,k,f.n,true,f.a,f.b⟩).addB ⟨i,k,f.n,true,f.a,f.b⟩):=by
 have hl:=h.len;refine⟨h.ds,?_,?_,?_,?_⟩
 ·show(G.ns++nV _ _ _ _ _ _).map nE=(R.ns++ed _ _ _ _ _ _).map zE;rw[ais,ais,h.e,Zd _ _ _ true f.b _ [] f.a]
 ·show((G.ns++nV _ _ _ _ _ _).map (·.b.toNat)).map (lk fB (G.bs++[_]))=((R.ns++ed _ _ _ _ _ _).map zB).map some;rw[ais,ais,ais,ais,mP fB G.bs _ _ _ h.b,Ze (i:Nat) (k:Nat) G.bs.length true _ (yu fB G.bs _) f.b _ [] f.a]
 ·show(G.cs++[G.bs.length]).map (lk fC (G.bs++[_]))=(R.fs++[_]).map some;rw[ais,ais,mP fC G.bs _ _ _ h.c,aki,yu,aki,fC];simp only[hl]
 ·show G.rs.map (lk fR (G.bs++[_]))=(R.rs.map qR).map some;exact mP fR G.bs _ _ _ h.r
def XL{G:Pg}{R:Rf}(h:Ob G R)(i:Nat)(d:De)(f:R.ds[i]? = some d)(hk:d.k=4\/d.k=5):Ob (G.addR i d) ((R.addH ⟨i,0,d.n,false,[],d.b⟩).addB ⟨i,0,d.n,false,[],d.b⟩):=by
 have hl:=h.len;have a:decide (((G.rs.length:Nat):Int)<0)=false:=abz (by omega);refine⟨h.ds,?_,?_,?_,?_⟩
 ·show(G.ns++nV _ _ _ _ _ _).map nE=(R.ns++ed _ _ _ _ _ _).map zE;rw[ais,ais,h.e,Zd _ _ _ false d.b _ [] []];rfl
 ·show((G.ns++nV _ _ _ _ _ _).map (·.b.toNat)).map (lk fB (G.bs++[_]))=((R.ns++ed _ _ _ _ _ _).map zB).map some;rw[ais,ais,ais,ais,mP fB G.bs _ _ _ h.b];refine aiK _ ?_;refine Ze (i:Nat) 0 G.bs.length false _ ?_ d.b _ [] [];rw[yu,fB];simp only[a]
 ·show G.cs.map (lk fC (G.bs++[_]))=R.fs.map some;exact mP fC G.bs _ _ _ h.c
 ·show(G.rs++[G.bs.length]).map (lk fR (G.bs++[_]))=((R.rs++[_]).map qR).map some;rw[ais,ais,ais,mP fR G.bs _ _ _ h.r,aki,yu,aki,aki,fR,qR];have:OI R.ds i=(d.k==5):=by rw[OI,f]
  simp only[this];rcases hk with hk|hk<;>rw[hk]<;>rfl
def uS:∀(a b:List Bd) (R:Rf),R.addXs (a++b)=(R.addXs a).addXs b
 |[],_,_=>rfl
 |x::a,b,R=>by rw[aiL,Rf.addXs,Rf.addXs,uS a b]
def pA:∀(a:List Bd) (R:Rf),(R.addXs a).ds=R.ds
 |[],_=>rfl
 |x::a,R=>by rw[Rf.addXs,pA a];unfold Rf.addB Rf.addH;split<;>rfl
def QO(i:Nat):∀(l:List Fu) (k:Nat) (G:Pg) (R:Rf),Ob G R->Ob (G.addFs i 3 k l) (R.addXs (qe i k l))
 |[],_,_,_,h=>h
 |f::r,k,G,R,h=>QO i r (k+1) _ _ (XM h i k f)
def ack{G:Pg}{R:Rf}(h:Ob G R)(i:Nat)(d:De)(c:R.ds[i]? = some d):Ob (G.addD i d) (R.addXs (Cg i d)):=by
 unfold Pg.addD Cg;by_cases b:d.k=3
 ·rw[aeM b,aeM b];exact QO i d.fs 0 G R h
 ·rw[aeD b,aeD b];by_cases a:d.k=4\/d.k=5
  ·rw[aeM a,aeM a];exact XL h i d c a
  ·rw[aeD a,aeD a];exact h
def QP(l:List De):∀(suf pre:List De) (G:Pg) (R:Rf),l=pre++suf->R.ds=l->Ob G R->Ob (G.addDs pre.length suf) (R.addXs (iY pre.length suf))
 |[],_,_,_,_,_,h=>h
 |d::r,pre,G,R,e,a,h=>by
  rw[Pg.addDs,iY,uS];have b:R.ds[pre.length]? = some d:=by rw[a,e];simp
  have:=QP l r (pre++[d]) _ _ (by rw[e];simp) ((pA (Cg pre.length d) R).trans a) (ack h pre.length d b);simpa using this
def rel(l:List De):Ob (cU l) (se l):=by obtain⟨a,b,c,d,e⟩:=QP l l [] (⟨l,[],[],[],[],[]⟩:Pg) (⟨l,[],[],[],[],[]⟩:Rf) rfl rfl ⟨rfl,rfl,rfl,rfl,rfl⟩;exact⟨a,b,c,d,e⟩
def SM(bs:List Bo):∀(l:af) (M:List (List Nat×Nat)),l.map (lk fC bs)=M.map some->OT bs l=M
 |[],[],_=>rfl
 |[],_::_,h=>by simp at h
 |_::_,[],h=>by simp at h
 |c::l,v::M,h=>by
  simp only[aeL,ajV]at h;have ih:=SM bs l M h.2;have a:=h.1;unfold lk at a;rw[OT];cases q:bs[c]? with
  |none=>rw[q]at a;cases a
  |some x =>rw[q]at a;simp only[ajl,abB,fC]at a;simp only[ih,a]
def Ry(bs:List Bo):∀(l:af) (M:List (List Nat×Nat×Nat×Bool)),l.map (lk fR bs)=(M.map qR).map some->xH bs 4 l=Jz false M/\xH bs 5 l=Jz true M
 |[],[],_=>⟨rfl,rfl⟩
 |[],_::_,h=>by simp at h
 |_::_,[],h=>by simp at h
 |c::l,v::M,h=>by
  simp only[aeL,ajV]at h;obtain⟨b,d⟩:=Ry bs l M h.2;have a:=h.1;unfold lk at a;rw[xH,xH,Jz,Jz,b,d];cases q:bs[c]? with
  |none=>rw[q]at a;cases a
  |some x =>rw[q]at a;simp only[ajl,abB,fR,qR,ajr]at a;obtain⟨e,f⟩:=a;simp only[e,f];cases v.2.2.2<;>exact⟨rfl,rfl⟩
def gM(m:List (Nat×af))(v:Nat):af:=(iO m (v:Int)).getD []
def KN(n:Nat)(a:af)(v:Nat):∀ m,gM (gt m n a) v=if v=n then a else gM m v
 |[]=>by
  simp only[gM,gt,iO,neq];by_cases h:v=n
  ·subst h;simp
  ·rw[aeA.2 h,aeD h];rfl
 |(k,b)::r=>by
  have ih:=KN n a v r;simp only[gM]at ih ⊢;rw[gt];by_cases hk:n=k
  ·subst hk;rw[aeM rfl];simp only[iO,neq];by_cases h:v=n
   ·subst h;simp
   ·rw[aeA.2 h,aeD h];rfl
  ·rw[aeD hk];simp only[iO,neq];by_cases h:v=k
   ·subst h;rw[aeD (fun q=>hk q.symm)];simp
   ·rw[aeA.2 h];simp only[TD];exact ih
mutual
def oD(par:af):Ex->List af
 |.mk k _ _ a xs _=>par::ju (if k=5\/k=7 then a else []) xs
def ju(a:af):List Ex->List af
 |[]=>[]
 |x::r=>oD a x++ju [] r
end
mutual
def jW:∀(e:Ex) (p:af),(oD p e).length=hU e
 |.mk k m nm a xs ps,p=>by rw[oD,aeJ,Dk xs,hU];omega
def Dk:∀(l:List Ex) (a:af),(ju a l).length=dZ l
 |[],_=>rfl
 |x::r,a=>by rw[ju,aae,jW x,Dk r,dZ]
end
mutual
def sS(d f:Int)(fn:Bool):∀(e:Ex) (p par:af),(ed d f fn p par e).map (·.par)=oD par e
 |.mk k m nm a xs ps,p,par=>by rw[ed,aeL,oD,DU d f fn xs p k a 0];simp
def DU(d f:Int)(fn:Bool):∀(l:List Ex) (p:af) (k:Int) (a:af) (i:Nat),(dT d f fn p k a i l).map (·.par)=ju (if i=0/\(k=5\/k=7)then a else []) l
 |[],_,_,_,_=>by simp[dT,ju]
 |x::r,p,k,a,i=>by rw[dT,ais,ju,sS d f fn x,DU d f fn r p k a (i+1)];rw[aeD (show ¬(i+1=0/\(k=5\/k=7))by omega)]
end
def KM{l r:List af}{j:Nat}(h:j<l.length):(l++r).getD j []=l.getD j []:=by rw[aja,aja,aeN h]
def OO{l r:List af}{j:Nat}(h:l.length<=j):(l++r).getD j []=r.getD (j - l.length) []:=by rw[aja,aja,ajh h]
def zw(e:Ex)(a:af)(j:Nat):(oD a e).getD j []=if j=0 then a else(oD [] e).getD j []:=by obtain⟨k,m,nm,aa,xs,ps⟩:=e;rw[oD,oD];cases j<;>simp
def Oo(xs:List Ex)(c:xs≠[])(a:af)(j:Nat):(ju a xs).getD j []=if j=0 then a else(ju [] xs).getD j []:=by
 cases xs with
 |nil=>exact(c rfl).elim
 |cons x r =>
  rw[ju,ju];have hl:=jW x a;have b:=jW x [];have hp:=rN x;by_cases hj:j<hU x
  ·rw[KM (by omega),KM (by omega)];exact zw x a j
  ·rw[OO (by omega),OO (by omega),hl,b,aeD (by omega)]
def Aw{l:List af}{j:Nat}(h:l.length<=j):l.getD j []=[]:=by rw[aja,aeF h];rfl
mutual
def JK:∀(e:Ex) (n:Nat) (m:List (Nat×af)),Kd e->(∀ v,n<v->gM m v=[])->∀ v,gM (Qw n e m) v=if v<=n then gM m v else(oD [] e).getD (v - n) []
 |.mk k mm nm a xs ps,n,m,ho,d,v=>by
  rw[Kd]at ho;have ih:=LT xs (n+1) m ho.2 (fun v b=>d v (by omega));rw[Qw,oD];by_cases hk:k=5\/k=7
  ·rw[aeM hk,aeM hk,KN,ih];by_cases b:v<=n
   ·rw[aeD (by omega),aeM (by omega),aeM b]
   ·rw[aeD b,show v - n=(v - (n+1))+1 by omega,List.getD_cons_succ,Oo xs (ho.1 hk) a];by_cases c:v=n+1
    ·rw[aeM c,aeM (by omega)]
    ·rw[aeD c,aeD (by omega),aeD (by omega)]
  ·rw[aeD hk,aeD hk,ih];by_cases b:v<=n
   ·rw[aeM (by omega),aeM b]
   ·rw[aeD (by omega),aeD b,show v - n=(v - (n+1))+1 by omega,List.getD_cons_succ]
def LT:∀(l:List Ex) (n:Nat) (m:List (Nat×af)),Fh l->(∀ v,n<=v->gM m v=[])->∀ v,gM (xD n l m) v=if v<n then gM m v else(ju [] l).getD (v - n) []
 |[],n,m,_,c,v=>by
  rw[xD,ju];by_cases d:v<n
  ·rw[aeM d]
  ·rw[aeD d,c v (by omega)];rfl
 |x::r,n,m,ho,c,v=>by
  rw[Fh]at ho;have b:=JK x n m ho.1 (fun v d=>c v (by omega));have hp:=rN x
  have e:=LT r (n+hU x) (Qw n x m) ho.2 (fun v d=>by rw[b,aeD (by omega)];exact Aw (by rw[jW];omega))
  rw[xD,ju,e];by_cases f:v<n+hU x
  ·rw[aeM f,b];by_cases g:v<n
   ·rw[aeM (by omega),aeM g]
   ·rw[aeD g,KM (by rw[jW];omega)];by_cases h:v<=n
    ·rw[aeM h,c v (by omega)];obtain⟨k,mm,nm,a,xs,ps⟩:=x;rw[oD,show v - n=0 by omega];rfl
    ·rw[aeD h]
  ·rw[aeD f,aeD (by omega),OO (by rw[jW];omega),jW];rw[show v - (n+hU x)=v - n - hU x by omega]
end
def Qs(R:Rf):List af:=R.ns.map (·.par)
structure PI(G:Pg)(R:Rf):Prop where
 rel:Ob G R
 m:∀ v,gM G.m v=if v∈R.fs.map (·.2)then [] else(Qs R).getD v []
 f:∀ x∈R.fs,(Qs R).getD x.2 []=x.1/\x.2<R.ns.length
def PI.fresh{G:Pg}{R:Rf}(h:PI G R)(v:Nat)(a:R.ns.length<=v):gM G.m v=[]:=by
 rw[h.m];split
 ·rfl
 ·exact Aw (by rw[Qs,aby];exact a)
def Rm(e:Ex)(a:af):(oD a e).getD 0 []=a:=by rw[zw,aeM rfl]
def afi{G:Pg}{R:Rf}(h:PI G R)(i k:Nat)(f:Fu)(ho:Kd f.b):PI (G.addF i 3 k f) ((R.addH ⟨i,k,f.n,true,f.a,f.b⟩).addB ⟨i,k,f.n,true,f.a,f.b⟩):=by
 have hl:=h.rel.len;have j:Qs ((R.addH ⟨i,k,f.n,true,f.a,f.b⟩).addB ⟨i,k,f.n,true,f.a,f.b⟩)=Qs R++oD f.a f.b:=by show(R.ns++ed _ _ _ _ _ _).map (·.par)=_;rw[ais,sS];rfl
 have d:(Qs R).length=R.ns.length:=aby ..;have e:((R.addH ⟨i,k,f.n,true,f.a,f.b⟩).addB ⟨i,k,f.n,true,f.a,f.b⟩).ns.length=R.ns.length+hU f.b:=by show(R.ns++ed _ _ _ _ _ _).length=_;rw[aae,iu]
 have hp:=rN f.b;refine⟨XM h.rel i k f,fun v=>?_,fun x c=>?_⟩
 ·show gM (Qw G.ns.length f.b G.m) v=if v∈(R.fs++[(f.a,R.ns.length)]).map (·.2)then [] else _
  rw[JK f.b _ _ ho (fun v g=>h.fresh v (by omega)),j,hl,h.m];simp only[ais,aeL,ajX,aiq,akv];rcases Nat.lt_trichotomy v R.ns.length with g|g|g
  ·rw[aeM (by omega),KM (by omega)];by_cases hm:v∈R.fs.map (·.2)
   ·rw[aeM hm,aeM (.inl hm)]
   ·rw[aeD hm,aeD (by rintro(q|q);exact hm q;omega)]
  ·rw[aeM (by omega),aeM (show v∈R.fs.map (·.2)\/v=R.ns.length from .inr g)];split
   ·rfl
   ·exact Aw (by omega)
  ·have hm:¬ v∈R.fs.map (·.2):=by intro q;obtain⟨x,c,rfl⟩:=ajt.1 q;have:=(h.f x c).2;omega
   rw[aeD (by omega),aeD (by rintro(q|q);exact hm q;omega),OO (by omega),zw f.b f.a,aeD (by omega),d]
 ·rw[j,e];change x∈R.fs++[(f.a,R.ns.length)]at c;rw[aiq,akv]at c;rcases c with c|rfl
  ·have:=h.f x c;rw[KM (by omega)];exact⟨this.1,by omega⟩
  ·refine⟨?_,by simp only;omega⟩;simp only;rw[OO (by omega),d,ajj];exact Rm _ _
def afh{G:Pg}{R:Rf}(h:PI G R)(i:Nat)(d:De)(l:R.ds[i]? = some d)(hk:d.k=4\/d.k=5)(ho:Kd d.b):PI (G.addR i d) ((R.addH ⟨i,0,d.n,false,[],d.b⟩).addB ⟨i,0,d.n,false,[],d.b⟩):=by
 have hl:=h.rel.len;have j:Qs ((R.addH ⟨i,0,d.n,false,[],d.b⟩).addB ⟨i,0,d.n,false,[],d.b⟩)=Qs R++oD [] d.b:=by show(R.ns++ed _ _ _ _ _ _).map (·.par)=_;rw[ais,sS];rfl
 have g:(Qs R).length=R.ns.length:=aby ..;have a:((R.addH ⟨i,0,d.n,false,[],d.b⟩).addB ⟨i,0,d.n,false,[],d.b⟩).ns.length=R.ns.length+hU d.b:=by show(R.ns++ed _ _ _ _ _ _).length=_;rw[aae,iu]
 refine⟨XL h.rel i d l hk,fun v=>?_,fun x e=>?_⟩
 ·show gM (Qw G.ns.length d.b G.m) v=if v∈R.fs.map (·.2)then [] else _
  rw[JK d.b _ _ ho (fun v o=>h.fresh v (by omega)),j,hl];by_cases o:v<R.ns.length
  ·rw[aeM (by omega),KM (by omega),h.m]
  ·have hm:¬ v∈R.fs.map (·.2):=by intro q;obtain⟨x,e,rfl⟩:=ajt.1 q;have:=(h.f x e).2;omega
   rw[aeD hm,OO (by omega),g];by_cases c:v<=R.ns.length
   ·rw[aeM c,h.fresh v (by omega),show v - R.ns.length=0 by omega,Rm]
   ·rw[aeD c]
 ·rw[j,a];change x∈R.fs at e;have:=h.f x e;rw[KM (by omega)];exact⟨this.1,by omega⟩
def XP(i:Nat):∀(l:List Fu) (k:Nat) (G:Pg) (R:Rf),(∀ f∈l,Kd f.b)->PI G R->PI (G.addFs i 3 k l) (R.addXs (qe i k l))
 |[],_,_,_,_,h=>h
 |f::r,k,G,R,ho,h=>XP i r (k+1) _ _ (fun f a=>ho f (abE _ a)) (afi h i k f (ho f aeK))
def afj{G:Pg}{R:Rf}(h:PI G R)(i:Nat)(d:De)(e:R.ds[i]? = some d)(ho:Zp d):PI (G.addD i d) (R.addXs (Cg i d)):=by
 unfold Pg.addD Cg;by_cases c:d.k=3
 ·rw[aeM c,aeM c];exact XP i d.fs 0 G R (ho.fs c) h
 ·rw[aeD c,aeD c];by_cases a:d.k=4\/d.k=5
  ·rw[aeM a,aeM a];exact afh h i d e a (ho.b a)
  ·rw[aeD a,aeD a];exact h
def XQ(l:List De)(ho:∀ d∈l,Zp d):∀(suf pre:List De) (G:Pg) (R:Rf),l=pre++suf->R.ds=l->PI G R->PI (G.addDs pre.length suf) (R.addXs (iY pre.length suf))
 |[],_,_,_,_,_,h=>h
 |d::r,pre,G,R,e,a,h=>by
  rw[Pg.addDs,iY,uS];have b:R.ds[pre.length]? = some d:=by rw[a,e];simp
  have:=XQ l ho r (pre++[d]) _ _ (by rw[e];simp) ((pA (Cg pre.length d) R).trans a) (afj h pre.length d b (ho d (by rw[e];simp)));simpa using this
def Ns(bs:List Bo)(Q:Nat->af)(v:Nat):∀(cs:af) (fs:List (List Nat×Nat)) (m:List (Nat×af)),cs.map (lk fC bs)=fs.map some->(∀ x∈fs,Q x.2=x.1)->gM (FZ bs cs m) v=if v∈fs.map (·.2)then Q v else gM m v
 |[],[],m,_,_=>by rw[FZ,ajX,aeD (by simp)]
 |[],_::_,_,h,_=>by simp at h
 |_::_,[],_,h,_=>by simp at h
 |c::r,x::fs,m,h,d=>by
  simp only[aeL,ajV]at h;have a:=h.1;unfold lk at a;rw[FZ];cases q:bs[c]? with
  |none=>rw[q]at a;cases a
  |some y =>
   rw[q]at a;simp only[ajl,abB,fC]at a;have e:y.arg=x.1:=aiK Prod.fst a;have f:y.first=x.2:=aiK Prod.snd a
   simp only;rw[Ns bs Q v r fs _ h.2 (fun x g=>d x (abE _ g)),KN,e,f,aeL];simp only[aff];by_cases hm:v∈fs.map (·.2)
   ·rw[aeM hm,aeM (.inr hm)]
   ·rw[aeD hm];by_cases b:v=x.2
    ·rw[aeM b,aeM (.inl b),b,d x aeK]
    ·rw[aeD b,aeD (by rintro(q|q);exact b q;exact hm q)]
def YR(l:List De)(ho:∀ d∈l,Zp d)(v:Nat):gM (cU l).m v=(Qs (se l)).getD v []:=by have h:PI (kN l) (se l):=XQ l ho l [] (⟨l,[],[],[],[],[]⟩:Pg) (⟨l,[],[],[],[],[]⟩:Rf) rfl rfl ⟨⟨rfl,rfl,rfl,rfl,rfl⟩,fun v=>by simp[gM,iO,Qs],fun x a=>by cases a⟩;show gM (FZ (kN l).bs (kN l).cs (kN l).m) v=_;rw[Ns _ (fun v=>(Qs (se l)).getD v []) v _ _ _ h.rel.c (fun x a=>(h.f x a).1),h.m];split<;>rfl
def Hv(m:Mc)(r:Re)(i:Nat)(hi:i<=m.ce.length):bK m r i=(bK m r m.ce.length&&!(r.c&&decide (r.n>=(i:Int)))):=by
 unfold bK;cases r.c with
 |false=>rfl
 |true =>
  by_cases h:r.n<(i:Int)
  ·rw[abC h,abC (show r.n<(m.ce.length:Int)by omega),abz (show ¬ r.n>=(i:Int)by omega)];simp
  ·rw[abz h,abC (show r.n>=(i:Int)by omega)];simp
def Es(m:Mc)(i:Nat)(hi:i<=m.ce.length):∀ l:List Re,(l.all fun r=>bK m r i)=((l.all fun r=>bK m r m.ce.length)&&l.all fun r=>!(r.c&&decide (r.n>=(i:Int))))
 |[]=>rfl
 |r::l=>by rw[ajb,ajb,ajb,Es m i hi l,Hv m r i hi];cases bK m r m.ce.length<;>cases (r.c&&decide (r.n>=(i:Int)))<;>cases (l.all fun r=>bK m r m.ce.length)<;>rfl
def Eb(m:Mc)(n:Int)(i:Nat)(hi:i<=m.ce.length):cS m n i=(cS m n m.ce.length&&decide (n<(i:Int))):=by
 unfold cS;by_cases a:n=-1
 ·rw[a,abC (show(-1:Int)<(i:Int)by omega)];rfl
 ·rw[aeA.2 a];by_cases h:n<(i:Int)
  ·rw[abC h,abC (show n<(m.ce.length:Int)by omega)];simp
  ·rw[abz h];simp
def Dw(n:Int)(h:n<0):∀ l,iO l n=none
 |[]=>rfl
 |(k,a)::r=>by rw[iO,show(n==(k:Int))=false from aeA.2 (by omega),TD,Dw n h r]
def QT(m:Mc)(i:Nat)(hi:i<=m.ce.length)(l:List Re):(l.length==1&&Hu m i l)=(l.length==1&&((l.all fun r=>bK m r m.ce.length)&&zr m i l)):=by
 match l with
 |[]=>rfl
 |_::_::_=>rfl
 |[r] =>
  rw[Hu,zr,ajb,aku,aiW];refine aiK _ ?_;cases hc:r.c with
  |false =>rw[show bK m r i=true by rw[bK,hc];rfl,show bK m r m.ce.length=true by rw[bK,hc];rfl];rfl
  |true =>
   rw[aeG];by_cases a:r.n=((i+1:Nat):Int)
   ·have hb:bK m r m.ce.length=(decide (((i+1:Nat):Int)<(m.ce.length:Int))&&(kd m ((i+1:Nat):Int)==1||kd m ((i+1:Nat):Int)==2)):=by rw[bK,hc,a,abC (show((i+1:Nat):Int)>=0 by omega)];rfl
    rw[hb,a,akE,ge,abz (show ¬((i+1:Nat):Int)<(i:Int)by omega)];cases decide (((i+1:Nat):Int)<(m.ce.length:Int))<;>cases kd m ((i+1:Nat):Int)==2<;>cases kd m ((i+1:Nat):Int)==1<;>cases nxt m (i+1)==(i:Int)<;>rfl
   ·rw[aeA.2 a,TD,Hv m r i hi,hc];by_cases b:r.n<(i:Int)
    ·rw[abC b,abz (show ¬ r.n>=(i:Int)by omega)];simp
    ·rw[abz b,abC (show r.n>=(i:Int)by omega)];simp
def Vd(ns:List Fn)(v:Nat):qp ns (v:Int)=(ns.map (·.par)).getD v []:=by rw[qp,aiZ,aja,aiO];cases ns[v]?<;>rfl
def WQ(m:Mc)(mp:List (Nat×af))(ns:List Fn)(hm:∀ v,gM mp v=(ns.map (·.par)).getD v [])(hp:∀ y∈ns,y.par=[]\/br y.par=2)(h0:br []≠2)(i:Nat)(c:Ce)(hi:i<=m.ce.length):xq m mp i c=Em m ns i c:=by
 unfold xq Em;cases k1:c.k==1 with
 |true =>simp only[ge,LL];rw[Es m i hi];cases (c.con==[44]||br c.con==3)<;>cases decide ((c.refs.length:Int)<=16)<;>cases c.n==0<;>cases c.nx==-1<;>cases (c.refs.all fun r=>bK m r m.ce.length)<;>cases (c.refs.all fun r=>!(r.c&&decide (r.n>=(i:Int))))<;>rfl
 |false =>
  simp only[TD];cases k2:c.k==2 with
  |true =>
   simp only[ge];rw[Eb m c.nx i hi];by_cases hr:c.refs=[]
   ·rw[hr];simp only[aku,aeG,aiC];by_cases l:c.n<0
    ·rw[Dw c.n l,abz (show ¬ c.n>=0 by omega)];rfl
    ·obtain⟨v,o⟩:=ajB (show 0<=c.n by omega);rw[abC (show c.n>=0 by omega),aeG,o];have b:=hm v;rw[<- Vd]at b;unfold gM at b;by_cases d:v<ns.length
     ·rw[abC (show((v:Nat):Int)<(ns.length:Int)by omega),aeG];have hy:ns[v]? = some ns[v]:=abF d;have h:qp ns (v:Int)=ns[v].par:=by rw[qp,aiZ,hy]
      have f:=hp _ (akg d);rw[<- h]at f;generalize qp ns (v:Int)=P at *;cases g:iO mp (v:Int)with
      |none =>
       rw[g]at b;simp only[Option.getD_none]at b;subst b;by_cases e:c.con=[]
       ·rw[e];rfl
       ·rw[show(([]:af)==c.con)=false from aeA.2 (fun q=>e q.symm)];simp
      |some a =>
       rw[g]at b;simp only[ajG]at b;subst b;simp only;by_cases e:a=c.con
       ·subst e;rcases f with e|e
        ·rw[e,aeA.2 h0];rfl
        ·have j:c.con≠[]:=by intro q;rw[q]at e;exact h0 e
         rw[e,aeA.2 j];rfl
       ·rw[aeA.2 e];simp
     ·have p:qp ns (v:Int)=[]:=by rw[qp,aiZ,aeF (by omega)]
      rw[abz (show ¬((v:Nat):Int)<(ns.length:Int)by omega)];cases g:iO mp (v:Int)with
      |none=>rfl
      |some a =>
       rw[g,p]at b;simp only[ajG]at b;subst b;simp only;by_cases e:c.con=[]
       ·rw[e,aeA.2 h0];rfl
       ·rw[show(([]:af)==c.con)=false from aeA.2 (fun q=>e q.symm)];simp
   ·have hl:((c.refs.length:Int)==0)=false:=aeA.2 (by have:=List.length_pos_iff.2 hr;omega)
    rw[hl];cases iO mp c.n<;>simp
  |false =>
   simp only[TD];cases k3:c.k==3 with
   |false=>simp
   |true =>
    simp only[ge];have s:=QT m i hi c.refs;have hl:((c.refs.length:Int)==1)=(c.refs.length==1):=by rw[aiz];simp;omega
    rw[hl,Eb m c.nx i hi,show(!decide (c.nx>=(i:Int)))=decide (c.nx<(i:Int))by rw[<- decide_not];exact ajI.2 (by omega)];revert s;cases br c.con==2<;>cases c.n==0<;>cases c.refs.length==1<;>cases cS m c.nx m.ce.length<;>cases decide (c.nx<(i:Int))<;>cases Hu m i c.refs<;>cases zr m i c.refs<;>cases (c.refs.all fun r=>bK m r m.ce.length)<;>simp
def Ct(y:af):Prop:=y=[]\/br y=2
mutual
def My:∀(e:Ex) (p:af),fq br e=true->Ct p->∀ y∈oD p e,Ct y
 |.mk k m n a xs ps,p,h,hp=>by
  simp only[fq,abA]at h;obtain⟨c,_,_,b⟩:=h;have d:Ct (if k=5\/k=7 then a else []):=by
   split
   ·rename_i hk;right;rcases hk with rfl|rfl
    ·simp[jm]at b;exact b.2.1
    ·simp[jm]at b;exact b.2.1
   ·exact .inl rfl
  intro y hy;rw[oD,aff]at hy;rcases hy with rfl|hy
  ·exact hp
  ·exact HA xs _ c d y hy
def HA:∀(l:List Ex) (a:af),gq br l=true->Ct a->∀ y∈ju a l,Ct y
 |[],_,_,_,y,hy=>by cases hy
 |x::r,a,h,b,y,hy=>by
  simp only[gq,abA]at h;rw[ju,aiq]at hy;rcases hy with hy|hy
  ·exact My x a h.1 b y hy
  ·exact HA r [] h.2 (.inl rfl) y hy
end
def WY(x:Bd):Prop:=Ct x.par/\fq br x.e=true
def Js:∀(l:List Bd) (R:Rf),(∀ x∈l,WY x)->(∀ y∈R.ns,Ct y.par)->∀ y∈(R.addXs l).ns,Ct y.par
 |[],_,_,h=>h
 |x::r,R,hl,h=>by
  rw[Rf.addXs];refine Js r _ (fun x b=>hl x (abE _ b)) ?_;have hb:=hl x aeK;have a:((R.addH x).addB x).ns=R.ns++ed (x.i:Nat) (x.j:Nat) x.fn [] x.par x.e:=by have:=(GH R x).2.2.1;simp only[Rf.addB,this]
  rw[a];intro y hy;rcases aiq.1 hy with hy|hy
  ·exact h y hy
  ·refine My x.e x.par hb.2 hb.1 y.par ?_;rw[<- sS (x.i:Nat) (x.j:Nat) x.fn x.e [] x.par];exact ajt.2 ⟨y,hy,rfl⟩
def NS(i:Nat):∀(l:List Fu) (k:Nat),(∀ f∈l,mU br f=true)->∀ x∈qe i k l,WY x
 |[],_,_,x,a=>by cases a
 |f::r,k,h,x,a=>by
  rw[qe,aff]at a;rcases a with rfl|a
  ·have:=h f aeK;simp only[mU,abA,akr]at this;exact⟨.inr this.2.1,this.2.2⟩
  ·exact NS i r (k+1) (fun f b=>h f (abE _ b)) x a
def abl(i:Nat)(d:De)(h:dE br d=true):∀ x∈Cg i d,WY x:=by
 unfold Cg;by_cases c:d.k=3
 ·rw[aeM c];simp[dE,c]at h;obtain⟨_,_,_,_,_,_,e⟩:=h;exact NS i d.fs 0 e
 ·rw[aeD c];by_cases a:d.k=4\/d.k=5
  ·rw[aeM a];intro x b;rw[akv]at b;subst b;rcases a with a|a<;>simp[dE,a]at h<;>exact⟨.inl rfl,h.2.2.2.1⟩
  ·rw[aeD a];intro x b;cases b
def NT:∀(l:List De) (i:Nat),l.all (dE br)=true->∀ x∈iY i l,WY x
 |[],_,_,x,a=>by cases a
 |d::r,i,h,x,a=>by
  rw[ajb,abA]at h;rw[iY,aiq]at a;rcases a with a|a
  ·exact abl i d h.1 x a
  ·exact NT r (i+1) h.2 x a
def OH:br []=0:=eT (.inl rfl)
def Jb(m:Mc)(mp:List (Nat×af))(ns:List Fn)(hm:∀ v,gM mp v=(ns.map (·.par)).getD v [])(hp:∀ y∈ns,Ct y.par):∀(l:List Ce) (i:Nat),i+l.length<=m.ce.length->lB m mp l i=nl m ns l i
 |[],_,_=>rfl
 |c::r,i,h=>by rw[aeJ]at h;rw[lB,nl,WQ m mp ns hm hp (by rw[OH];decide) i c (by omega),Jb m mp ns hm hp r (i+1) (by omega)]
def yj(l:List De):(cU l).ds=l:=by have h:=(rel l).ds;have:(se l).ds=l:=pA (iY 0 l) (⟨l,[],[],[],[],[]⟩:Rf);exact h.trans this
def ua(l:List De):(se l).ds=l:=pA (iY 0 l) (⟨l,[],[],[],[],[]⟩:Rf)
def Qo(m:Mc)(l:List De)(h:cu br l=0):gH m (cU l)=EI m (se l):=by
 have hr:=rel l;have f:=YR l (sr h).1;have hp:∀ y∈(se l).ns,Ct y.par:=Js (iY 0 l) (⟨l,[],[],[],[],[]⟩:Rf) (NT l 0 (ku h).2.2.2) (fun y hy=>by cases hy);have d:(cU l).rs.length=(se l).rs.length:=by have:=aiK List.length hr.r;simpa using this
 have g:(cU l).ns.map (·.e)=(se l).ns.map (·.e):=by have:=aiK (List.map Prod.fst) hr.e;simpa[akN,Function.comp_def,nE,zE]using this
 have i:CT m (cU l)=yN m (se l):=by have hk:=aiK (List.take m.bo.toNat) hr.r;rw[<- ajQ,<- ajQ,<- ajQ]at hk;obtain⟨a,b⟩:=Ry _ _ _ hk;rw[CT,yN,a,b,hr.ds]
 rw[gH,EI,vd,SM _ _ _ hr.c,Jb m _ _ f hp m.ce 0 (by omega),i,g,hr.len,d];cases jI (se l).fs m.ce<;>cases decide (0<=m.st)<;>cases decide (m.st<=200000)<;>cases nl m (se l).ns m.ce 0<;>cases nL m (se l).ns.length (se l).rs.length<;>cases yN m (se l)<;>simp
def RQ{β:Type}(f:Bo->β)(bs:List Bo):∀(l:af) (M:List β),l.map (lk f bs)=M.map some->∀ c∈l,c<bs.length
 |[],_,_,c,hc=>by cases hc
 |_::_,[],h,_,_=>by simp at h
 |c::l,v::M,h,x,a=>by
  simp only[aeL,ajV]at h;rcases aff.1 a with rfl|a
  ·have b:=h.1;unfold lk at b;cases q:bs[x]? with
   |none=>rw[q]at b;cases b
   |some y=>exact(aez.1 q).1
  ·exact RQ f bs l M h.2 x a
def Ey:∀(l:List Bd) (R:Rf),(R.addXs l).fs.length+(R.addXs l).rs.length=R.fs.length+R.rs.length+l.length
 |[],_=>rfl
 |x::r,R=>by rw[Rf.addXs,Ey r,aeJ];unfold Rf.addB Rf.addH;split<;>simp<;>omega
mutual
def Ym(d f:Int)(fn:Bool):∀(e:Ex) (p par:af),e.ok->∀ y∈ed d f fn p par e,y.e.ok
 |.mk k m n a xs ps,p,par,h,y,hy=>by
  rw[ed,aff]at hy;rcases hy with rfl|hy
  ·exact h
  ·rw[Ex.ok]at h;exact SO d f fn xs p k a 0 (by simp_all) y hy
def SO(d f:Int)(fn:Bool):∀(l:List Ex) (p:af) (k:Int) (a:af) (i:Nat),Ex.oks l->∀ y∈dT d f fn p k a i l,y.e.ok
 |[],_,_,_,_,_,y,hy=>by simp[dT]at hy
 |x::r,p,k,a,i,h,y,hy=>by
  rw[Ex.oks]at h;rw[dT,aiq]at hy;rcases hy with hy|hy
  ·exact Ym d f fn x _ _ h.1 y hy
  ·exact SO d f fn r p k a (i+1) h.2 y hy
end
def Ew:∀(l:List Bd) (R:Rf),(∀ x∈l,x.e.ok)->(∀ y∈R.ns,y.e.ok)->∀ y∈(R.addXs l).ns,y.e.ok
 |[],_,_,h=>h
 |x::r,R,hl,h=>by
  rw[Rf.addXs];refine Ew r _ (fun x b=>hl x (abE _ b)) ?_;have a:((R.addH x).addB x).ns=R.ns++ed (x.i:Nat) (x.j:Nat) x.fn [] x.par x.e:=by have:=(GH R x).2.2.1;simp only[Rf.addB,this]
  rw[a];intro y hy;rcases aiq.1 hy with hy|hy
  ·exact h y hy
  ·exact Ym _ _ _ x.e _ _ (hl x aeK) y hy
def Ml(l:List De)(h:cu br l=0):abq (se l):=by have a:=Ey (iY 0 l) (⟨l,[],[],[],[],[]⟩:Rf);have h2:=(sr h).2.2;rw[kx]at a;simp only[aiC,aiU,aiv]at a;have h3:(se l).fs.length+(se l).rs.length=lL l:=a;have h4:=(ku h).2.1;exact⟨by rw[ua];omega,by omega,by omega⟩
def Vb(l:List De)(ho:∀ x∈l,x.ok)(h:cu br l=0):Uc (cU l):=by
 have hr:=rel l;have ro:=Ml l h;have a:(cU l).rs.length=(se l).rs.length:=by have:=aiK List.length hr.r;simpa using this
 have b:(cU l).cs.length=(se l).fs.length:=by have:=aiK List.length hr.c;simpa using this
 refine⟨by rw[hr.ds];exact ro.ds,by rw[a];exact ro.rs,by rw[b];exact ro.fs,RQ _ _ _ _ hr.r,RQ _ _ _ _ hr.c,fun x d=>?_⟩;have hm:nE x∈(se l).ns.map zE:=by rw[<- hr.e];exact ajt.2 ⟨x,d,rfl⟩
 obtain⟨z,f,e⟩:=ajt.1 hm;have g:z.e=x.e:=aiK Prod.fst e;rw[<- g];exact Ew (iY 0 l) (⟨l,[],[],[],[],[]⟩:Rf) (fun x d=>(BN l 0 ho x d).2) (fun y hy=>by cases hy) z f
def uO(l:List De)(m:Mc):Int:=bif cu br l != 0 then cu br l else bif gH m (cU l)then 0 else 70
def adL(H:DH)(st:Nat)(G:Pg):∃ X,Fz (PX H st G []) H.length G=H++X :=
 ⟨(PL H.length st G).set 3 (.buf 1 false false (nC G.rs)),by rw[Fz,PX,aic,aiE _ _ (by omega),show H.length+3 - H.length=3 by omega]⟩
def Tx(m:Mc)(mo:tP m)(l:List De)(hl:l.length<2^61)(ho:∀ x∈l,x.ok)(H:DH):∃ X,am 37 [.agg [.row 14 (l.map bF)],.agg (bu m)] H=ret (.tuple [bif cu br l != 0 then .nilptr else .ptr (H.length+5) 0,.i (uO l m)]) (H++X)/\(cu br l=0->gd (H++X) H.length (cU l)):=by
 obtain⟨st,h⟩:=Zn l hl ho H;unfold uO;by_cases a:cu br l=0
 ·rw[a]at h ⊢;simp only[akm,TD]at h ⊢;obtain⟨H',c,d⟩:=Ux m mo (PX H st (cU l) []) (Zj H st (cU l)) (Vb l ho a);have b:∃ X,H'=H++X/\gd H' H.length (cU l):=by
   rcases d with rfl|rfl
   ·exact⟨PL H.length st (cU l),by rw[PX,aic],Zj H st (cU l)⟩
   ·obtain⟨X,b⟩:=adL H st (cU l);exact⟨X,b,VY (Zj H st (cU l))⟩
  obtain⟨X,rfl,e⟩:=b;refine⟨X,ev (f37 _ _ _ _) ?_,fun _=>e⟩;simp only[ai h,gb,ao,ax,aT,aq,akE,ge,ai c,aH];cases gH m (cU l)<;>rfl
 ·have hb:(cu br l != 0)=true:=by rw[bne,aeA.2 a];rfl
  rw[hb,ge]at h;refine⟨[],ev (f37 _ _ _ _) ?_,fun q=>(a q).elim⟩;rw[hb,aic];simp only[ai h,gb,ao,ax,aT,aq,aeA.2 a,TD,ge]
def aen(m:Mc)(mo:tP m)(l:List De)(hl:l.length<2^61)(ho:∀ x∈l,x.ok)(H:DH):am 24 [.agg [.row 14 (l.map bF)],.agg (bu m)] H=ret (.i (uO l m)) H:=by obtain⟨X,h,_⟩:=Tx m mo l hl ho H;refine ev (f24 _ _ _ _) ?_;simp only[ai h,gb,ao,ax];exact eB (by trivial)
def Yt(m:Mc)(mo:tP m)(l:List De)(hl:l.length<2^61)(ho:∀ x∈l,x.ok)(hc:∀ H,am 35 [.agg [.row 14 (l.map bF)]] H=ret (.i (cu br l)) H)(H:DH):am 25 [.agg [.row 14 (l.map bF)],.agg (bu m)] H=ret (.i (uO l m)) H:=by
 refine ev (f25 _ _ _ _) ?_;unfold uO;rw[ai (hc H),aT,aq];by_cases a:cu br l=0
 ·obtain⟨c,e,f⟩:=sr a;obtain⟨st,h⟩:=acJ l hl ho (fun d g=>(c d g).fl) e f H;have b:=Uw m mo (RX H st (se l)) (acj H st (se l)) (Ml l a);rw[<- Qo m l a]at b;rw[a];simp only[akE,ge,akm,TD,aU h,aU b,aH,aq];cases gH m (cU l)<;>exact eB (by trivial)
 ·have hb:(cu br l != 0)=true:=by rw[bne,aeA.2 a];rfl
  rw[hb,aeA.2 a,TD,ge];have:=eB (H:=H) (X:=[]) (d:=.i (cu br l)) (by trivial)
  rwa [aic]at this
end Go.Proofs.YtpghiabjaglpgaaGreatDoor
