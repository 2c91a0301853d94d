/- Lemmas. No conditions. -/
import Derived.Test.YtjbplagjmopllaaGreatDoorA5
import Derived.Test.YtjbplagjmopllaaGreatDoorCards
import Derived.Test.YtjbplagjmopllaaGreatDoorTie
import Derived.ProofKit
import Derived.Lay
import Derived.Deep.DeepHandedRow
set_option linter.all false
noncomputable section
namespace Go.Proofs.YtjbplagjmopllaaGreatDoor
open Go.AI
theorem ov2c(f g a b:D)(κ:List D->ai):aw [f,g] 0 [a,b] κ=κ [a,b]:=rfl
section
theorem iN{α β:Type}{l:List α}{i:Nat}{x:α}(f:α->β)(h:l[i]? = some x):(l.map f)[i]? = some (f x):=by rw[afd,h];rfl
theorem aeM(a b c:D)(κ:D->ai):br ab 26 [a,b,c] 1 κ=κ (.agg [b,c]):=by kernel_rfl
def Tw(nm:ak)(vis:Bool):List Fu->Nat->Bool×Re->Bool×Re
 |[],_,a=>a
 |f::r,e,a=>Tw nm vis r (e+1) (bif f.n==nm&&vis then(true,⟨true,e⟩)else a)
def atT(tos:List To)(i:Nat)(a:Bool×Re):Bool×Re:=match tos[i]? with
 |some t=>(true,t.r)
 |none=>a
def wW(nm:ak)(fn:Bool)(d:Int)(tos:List To)(ni:Nat):List De->Nat->Nat->Nat->Nat->Bool×Re->Bool×Re
 |[],_,_,_,_,a=>a
 |x::r,l,b,c,e,a =>
  bif x.k==3 then wW nm fn d tos ni r (l+1) b c (e+x.fs.length) (Tw nm (decide ((l:Int)<d)||((l:Int)==d&&fn)) x.fs e a)
  else bif x.k==2 then wW nm fn d tos ni r (l+1) (b+1) c e (bif x.n==nm&&(!fn&&decide ((l:Int)<d))then atT tos b a else a)
  else bif x.k==4 then wW nm fn d tos ni r (l+1) b (c+1) e (bif x.n==nm&&(!fn&&decide ((l:Int)<d))then atT tos (ni+c) a else a)
  else wW nm fn d tos ni r (l+1) b c e a
section
variable(nm:ak)(tw:D)(x:Bo)(H:DH)
variable(ni hh:Nat)(ds:List De)
abbrev S6k(k l b c e:Nat)(a:Bool×Re):ai :=
 ae aB 127 k [.g (.str nm),.g tw,.lp 0 0,.lp 1 0,.lp 2 0,.g (.bool a.1),.n (b:Nat),.n (c:Nat),.n (e:Nat),.g (.buf 1 hh ni),.g (.row 14 (ds.map ed)),.n ds.length,.n l] [(0,[.bool false,.i 0]),(0,lJ x),(0,[.bool a.2.c,.i a.2.n])] H
abbrev S6(l b c e:Nat)(a:Bool×Re):ai:=S6k nm tw x H ni hh ds 200006 l b c e a
abbrev S11(k:Nat)(l b c:Nat)(fs:List Fu)(e i:Nat)(a:Bool×Re):ai :=
 ae aB 127 k [.g (.str nm),.g tw,.lp 0 0,.lp 1 0,.lp 2 0,.g (.bool a.1),.n (b:Nat),.n (c:Nat),.n (e:Nat),.g (.buf 1 hh ni),.n l,.g (.row 14 (ds.map ed)),.n ds.length,.n l,.g (.row 8 (fs.map nL)),.n fs.length,.n i] [(0,[.bool false,.i 0]),(0,lJ x),(0,[.bool a.2.c,.i a.2.n])] H
abbrev S14(l b c:Nat)(fs:List Fu)(e i:Nat)(a:Bool×Re):ai :=
 ae aB 127 14 [.g (.str nm),.g tw,.lp 0 0,.lp 1 0,.lp 2 0,.n (b:Nat),.n (c:Nat),.n (e:Nat),.g (.buf 1 hh ni),.n l,.g (.row 14 (ds.map ed)),.n ds.length,.n l,.g (.row 8 (fs.map nL)),.n fs.length,.n i] [(0,[.bool false,.i 0]),(0,lJ x),(0,[.bool a.2.c,.i a.2.n])] H
theorem s15(l b c:Nat)(fs:List Fu)(e i:Nat)(a:Bool×Re)(d:e<2^62)(hi:i<2^62):S11 nm tw x H ni hh ds 15 l b c fs e i a=S11 nm tw x H ni hh ds 200011 l b c fs (e+1) (i+1) a:=by refine cj (Vx) ?_;rw[aX d,aX hi]
theorem s14(l b c:Nat)(fs:List Fu)(e i:Nat)(a:Bool×Re)(d:e<2^62)(hi:i<2^62):S14 nm tw x H ni hh ds l b c fs e i a=S11 nm tw x H ni hh ds 200011 l b c fs (e+1) (i+1) (true,⟨true,e⟩):=by refine cj (Vy) ?_;exact s15 nm tw x H ni hh ds l b c fs e i (true,⟨true,e⟩) d hi
theorem abE(l b c:Nat)(hl:l<2^61)(fs:List Fu)(t:fs.length<2^61)(vis:Bool)
 (d:vis=((decide (x.run<0)&&decide ((l:Int)<=x.decl))||(decide (x.run>=0)&&decide ((l:Int)<x.decl)))):∀(suf pre:List Fu) (e:Nat) (a:Bool×Re),fs=pre++suf->e+suf.length<2^61 ->
 S11 nm tw x H ni hh ds 200011 l b c fs e pre.length a=S6 nm tw x H ni hh ds (l+1) b c (e+suf.length) (Tw nm vis suf e a)
 |[],pre,e,a,j,_=>by refine cj (wG) ?_;rw[mK,show fs.length=pre.length by rw[j];simp,abl (aiK _),SE,aX (show l<2^62 by omega)];rfl
 |f::suf,pre,e,a,j,hb=>by
  rw[aeg]at hb;have hi:pre.length<fs.length:=by rw[j];simp
  have u:fs[pre.length]? = some f:=by rw[j];simp
  have ih:=λa=>abE l b c hl fs t vis d suf (pre++[f]) (e+1) a (by rw[j];simp) (by omega);simp only[aaY,abc]at ih;have g:=s15 nm tw x H ni hh ds l b c fs e pre.length a (by omega) (by omega);have i:=s14 nm tw x H ni hh ds l b c fs e pre.length a (by omega) (by omega);rw[ih]at g i;refine cj (wG) ?_;rw[mK,abt hi,ge,aeg,show e+(suf.length+1)=e+1+suf.length by omega,Tw];obtain⟨fn,fa,⟨ek,em,en,ea,xs,ps⟩⟩:=f;simp only[Xr,eC u,nL,Xj,ce8,ov8,aj,au,lJ,ff,cE,FZ,cM,ax];simp only[S11,S14,lJ]at g i;rw[g,i,d];cases fn==nm<;>cases decide (x.run<0)<;>cases decide ((l:Int)<=x.decl)<;>cases decide (x.run>=0)<;>cases decide ((l:Int)<x.decl)<;>simp only[ge,SE,afz,aiJ,aeo,aia,Bool.true_or,aka,ajj,Bool.or_false]
theorem s20(l b c e:Nat)(a:Bool×Re)(hb:b<2^62)(hl:l<2^62):S6k nm tw x H ni hh ds 20 l b c e a=S6 nm tw x H ni hh ds (l+1) (b+1) c e a:=by refine cj (Vw) ?_;rw[aX hb,aX hl]
theorem s25(l b c e:Nat)(a:Bool×Re)(hb:c<2^62)(hl:l<2^62):S6k nm tw x H ni hh ds 25 l b c e a=S6 nm tw x H ni hh ds (l+1) b (c+1) e a:=by refine cj (Vv) ?_;rw[aX hb,aX hl]
theorem de7(d:De)(κ:D->ai):af (ed d) 7 κ=κ (.row 8 (d.fs.map nL)):=by obtain⟨k,⟨dn,vs,cs⟩,n,⟨tn,ts⟩,fs,⟨ek,em,en,ea,xs,ps⟩⟩:=d;rfl
def Zf:List De->Nat
 |[]=>0
 |x::r=>x.fs.length+Zf r
theorem abD{tos:List To}(u:bw H 3 (tos.map il) tw)(fn:Bool)(t:fn=decide (x.run<0))(w:ds.length<2^60)(y:ni<2^60):∀(suf pre:List De) (b c e:Nat) (a:Bool×Re),ds=pre++suf->b<=pre.length->c<=pre.length->e+Zf suf<2^61 ->
 S6 nm tw x H ni hh ds pre.length b c e a=ret (.tuple [.agg [.bool (wW nm fn x.decl tos ni suf pre.length b c e a).2.c,.i (wW nm fn x.decl tos ni suf pre.length b c e a).2.n],.bool (wW nm fn x.decl tos ni suf pre.length b c e a).1]) H
 |[],pre,b,c,e,a,h,_,_,_=>by refine cj (wH) ?_;rw[mK,show ds.length=pre.length by rw[h];simp,abl (aiK _),SE];rfl
 |d::suf,pre,b,c,e,a,h,hb,hc,E=>by
  rw[Zf]at E;have hi:pre.length<ds.length:=by rw[h];simp
  have z:ds[pre.length]? = some d:=by rw[h];simp
  have A:=MV d;have ih:=λb c e a F I J=>abD u fn t w y suf (pre++[d]) b c e a (by rw[h];simp) F I J;simp only[aaY,abc]at ih;refine cj (wH) ?_;rw[mK,abt hi,ge,wW];simp only[adz,eC z,Xk _ A,aeJ _ A,aci _ A,de0,ba,ax];cases h3:d.k==3 with
  |true =>
   have K:=abE nm tw x H ni hh ds pre.length b c (by omega) d.fs (by omega) (decide ((pre.length:Int)<x.decl)||((pre.length:Int)==x.decl&&fn)) (by
    rw[t];by_cases q:x.run<0
    .rw[abt q,abl (show ¬ x.run>=0 by omega),aiJ,afz,aeo,Bool.or_false];rw[afw];simp;omega
    .rw[abl q,abt (show x.run>=0 by omega),aia,Bool.or_false,afz,aeo,ajj]) d.fs [] e a rfl (by omega)
   simp only[ge,de7,Rw,abe];refine K.trans ?_;exact ih b c _ _ (by omega) (by omega) (by omega)
  |false =>
   have j:decide (x.run>=0)=!fn:=by rw[t,<- decide_not];exact ajy.2 (by omega)
   simp only[SE];cases h2:d.k==2 with
   |true =>
    have t20:=λa=>(s20 nm tw x H ni hh ds pre.length b c e a (by omega) (by omega)).trans (ih (b+1) c e a (by omega) (by omega) (by omega));simp only[S6k]at t20;have g:=t20 a;simp only[ge,de4,lJ,aj,au,ff,cM,cE,ax,j];simp only[lJ]at t20 g;cases d.n==nm with
    |false=>simp only[SE,aeo];exact g
    |true =>
     cases fn with
     |true=>simp only[ge,SE,aep,aeo,aia];exact g
     |false =>
      cases decide ((pre.length:Int)<x.decl)with
      |false=>simp only[ge,SE,aeH,aia];exact g
      |true =>
       simp only[ge,aeH,aiJ,u.len w40,abe,cE,ax];rw[mK,atT];by_cases f:b<tos.length
       .have v:tos[b]? = some tos[b]:=abg f;rw[abt f,ge,v,ji u w40 Yz (iN il v)];simp only[il,aeM,jn,aw,qN];exact t20 (true,tos[b].r)
       .rw[abl f,SE,aiT (by omega)];exact g
   |false =>
    simp only[SE];cases h4:d.k==4 with
    |true =>
     have t25:=λa=>(s25 nm tw x H ni hh ds pre.length b c e a (by omega) (by omega)).trans (ih b (c+1) e a (by omega) (by omega) (by omega));simp only[S6k]at t25;have g:=t25 a;have B:di ((ni:Int)+(c:Int))=((ni+c:Nat):Int):=by rw[mM (by omega) (by omega)];omega
     simp only[ge,JY,bJ,B,de4,lJ,aj,au,ff,cM,cE,ax,j];simp only[lJ]at t25 g;cases d.n==nm with
     |false=>simp only[SE,aeo];exact g
     |true =>
      cases fn with
      |true=>simp only[ge,SE,aep,aeo,aia];exact g
      |false =>
       cases decide ((pre.length:Int)<x.decl)with
       |false=>simp only[ge,SE,aeH,aia];exact g
       |true =>
        simp only[ge,aeH,aiJ,u.len w40,abe,cE,ax];rw[mK,atT];by_cases f:ni+c<tos.length
        .have v:tos[ni+c]? = some tos[ni+c]:=abg f;rw[abt f,ge,v,ji u w40 Yz (iN il v)];simp only[il,aeM,jn,aw,qN];exact t25 (true,tos[ni+c].r)
        .rw[abl f,SE,aiT (by omega)];exact g
    |false =>simp only[SE,aX (show pre.length<2^62 by omega)];exact ih b c e a (by omega) (by omega) (by omega)
end
theorem Zu(o n i:Nat)(H:DH)(κ:D->ai):bW ab 140 (.bptr o n i 0) H κ=dl H o n λ_ _ _ l=>bZ l i λcs=>br ab 140 cs 0 κ:=by kernel_rfl
theorem Xl(a b c d e f g:D)(κ:D->ai):br ab 140 [a,b,c,d,e,f,g] 0 κ=κ (.agg [a,b,c,d,e,f,g]):=by kernel_rfl
theorem abB(m:Mc)(H:DH){n:Nat}{G:Pg}(h:dF H n G)(hd:G.ds.length<=9000)(i:Nat)(x:Bo)(t:G.bs[i]? = some x)(nm:ak)(tos:List To){tw:D}(u:bw H 3 (tos.map il) tw)(hn:Zf G.ds<2^60) :
 aq 127 [.ptr (n+5) 0,.i i,.str nm,tw] H=ret (.tuple [.agg [.bool (wW nm (decide (x.run<0)) x.decl tos (ii G.ds).length G.ds 0 0 0 0 (false,⟨false,0⟩)).2.c,.i (wW nm (decide (x.run<0)) x.decl tos (ii G.ds).length G.ds 0 0 0 0 (false,⟨false,0⟩)).2.n],.bool (wW nm (decide (x.run<0)) x.decl tos (ii G.ds).length G.ds 0 0 0 0 (false,⟨false,0⟩)).1]) H:=by
 have hi:=Xo H h (by omega);have li:=Fd G.ds;have v:dF (Yn H (ii G.ds)) n G:=h.app _;obtain⟨st,h0⟩:=h.o;obtain⟨st2,w⟩:=v.o;have j:=(abj.1 t).1;have hl:=abD nm tw x (Yn H (ii G.ds)) (ii G.ds).length H.length G.ds (u.keep (ci.app H _)) (decide (x.run<0)) rfl (by omega) (by omega) G.ds [] 0 0 0 (false,⟨false,0⟩) rfl (aaW _) (aaW _) (by omega);refine ev (ahM) ?_;simp only[ac h0,aj,au,Vh,rC j,boK,ge,Zu,hU h.bs,eC t,lJ,Xl];refine(aib (aY H) ?_).trans (Ji (X:=[.buf 1 true false ((ii G.ds).map lW)]) (by simp[D.bel,eL]));simp only[show ∀(a b c d e f g:D) (κ:List D->ai),ah 7 (.agg [a,b,c,d,e,f,g]) κ=κ [a,b,c,d,e,f,g] from λ_ _ _ _ _ _ _ _=>rfl,show ∀(y z A B E F I a b c d e f g:D) (κ:List D->ai),aw [y,z,A,B,E,F,I] 0 [a,b,c,d,e,f,g] κ=κ [a,b,c,d,e,f,g] from λ_ _ _ _ _ _ _ _ _ _ _ _ _ _ _=>rfl,av hi,ac w,aj,Rv,abe];exact hl
end
section
theorem xN(l:List De):(bF l).ds=l:=(rel l).ds.trans (Qb l)
def aba(m:Mc):Prop:=∀(i:Nat) c,m.ce[i]? = some c->c.k=3->(∃ r,c.refs=[r])/\fF m c.nx i=true
def Bl(m:Mc)(nm:ak):Nat->Int->Option Re
 |0,_=>none
 |k+1,v=>bif decide (v<0)then none else match m.ce[v.toNat]? with
  |none=>none
  |some c=>bif c.con==nm then c.refs[0]? else Bl m nm k c.nx
theorem qB{m:Mc}{n b:Int}(h:fF m n b=true):n=-1\/(0<=n/\n<b/\kd m n=3):=by
 unfold fF at h;simp only[ajm,aaV,ajX,ajG]at h;rcases h with h|h
 .exact .inl h
 .exact .inr ⟨h.1,h.2.1,h.2.2⟩
theorem vD(m:Mc)(mp:List (Nat×ak)):∀(l:List Ce) (i:Nat),lU m mp l i=true->∀(j:Nat) (c:Ce),l[j]? = some c->ui m mp (i+j) c=true
 |[],_,_,j,c,h=>by simp at h
 |x::r,i,h,j,c,d=>by
  rw[lU,aaV]at h;cases j with
  |zero =>simp only[ajh,abf]at d;subst d;exact h.1
  |succ j =>
   simp only[aiP]at d;have:=vD m mp r (i+1) h.2 j c d
   rwa [show i+1+j=i+(j+1)by omega]at this
theorem VC(m:Mc)(G:Pg)(h:gq m G=true):aba m:=by
 unfold gq at h;simp only[aaV]at h;intro i c hc hk;have:=vD m G.m m.ce 0 h.2.2.2.1 i c hc;rw[adO]at this;unfold ui at this;simp only[show(c.k==1)=false by rw[hk];rfl,show(c.k==2)=false by rw[hk];rfl,show(c.k==3)=true by rw[hk];rfl,ge,SE,aaV]at this;refine⟨?_,this.2.2.2.1⟩;have hl:c.refs.length=1:=by have:=eq_of_beq this.2.2.1;omega
 match c.refs,hl with
 |[r],_=>exact⟨r,rfl⟩
mutual
theorem acG(d f:Int)(b:Nat):∀(e:Ex) (n:Nat) (p:ak),∀ y∈kL d f (b:Nat) n p e,0<=y.b
 |.mk k m nm a xs ps,n,p,y,hy=>by
  rw[kL,abn]at hy;rcases hy with rfl|hy
  .simp only;omega
  .exact WZ d f b xs _ _ _ y hy
theorem WZ(d f:Int)(b:Nat):∀(l:List Ex) (n:Nat) (p:ak) (i:Nat),∀ y∈fE d f (b:Nat) n p i l,0<=y.b
 |[],_,_,_,y,hy=>by simp[fE]at hy
 |x::r,n,p,i,y,hy=>by
  rw[fE,aeS]at hy;rcases hy with hy|hy
  .exact acG d f b x _ _ y hy
  .exact WZ d f b r _ _ _ y hy
end
theorem acH{G:Pg}(h:∀ y∈G.ns,0<=y.b)(d:Bo)(f:Int)(e:Ex):∀ y∈(G.addB d f e).ns,0<=y.b:=by
 intro y hy;change y∈G.ns++kL _ _ _ _ _ _ at hy;rcases aeS.1 hy with hy|hy
 .exact h y hy
 .exact acG _ _ _ e _ _ y hy
theorem Xc(i:Nat):∀(l:List Fu) (k:Nat) (G:Pg),(∀ y∈G.ns,0<=y.b)->∀ y∈(G.addFs i 3 k l).ns,0<=y.b
 |[],_,_,h=>h
 |f::r,k,G,h=>Xc i r (k+1) _ (acH (G:={ G with cs:=G.cs++[G.bs.length] }) h _ _ _)
theorem Xd:∀(l:List De) (i:Nat) (G:Pg),(∀ y∈G.ns,0<=y.b)->∀ y∈(G.addDs i l).ns,0<=y.b
 |[],_,_,h=>h
 |d::r,i,G,h=>by
  rw[Pg.addDs];refine Xd r (i+1) _ ?_;unfold Pg.addD;split
  .exact Xc i d.fs 0 G h
  .split
   .exact acH (G:={ G with rs:=G.rs++[G.bs.length] }) h _ _ _
   .exact h
theorem acF(l:List De):∀ y∈(bF l).ns,0<=y.b:=Xd l 0 (⟨l,[],[],[],[],[]⟩:Pg) (λy hy=>by cases hy)
theorem UH{α β γ:Type}{f:α->γ}{g:β->γ}{l:List α}{r:List β}(h:l.map f=r.map g){i:Nat}{y:α}(hy:l[i]? = some y):∃ z,r[i]? = some z/\f y=g z:=by
 have:=aib (λt=>t[i]?) h;simp only[afd,hy,aiB]at this;cases q:r[i]? with
 |none=>rw[q]at this;cases this
 |some z =>rw[q]at this;exact⟨z,rfl,by simpa using this⟩
theorem Uv(l:List De)(i:Nat)(hi:i<(bF l).ns.length):∃(y:Nd) (z:Fn) (j:Nat) (x:Bo),(bF l).ns[i]? = some y/\(Tn l).ns[i]? = some z/\y.b=(j:Nat)/\(bF l).bs[j]? = some x/\x.decl=z.d/\decide (x.run<0)=z.fn:=by
 have hr:=rel l;have hy:(bF l).ns[i]? = some (bF l).ns[i]:=abg hi;have hb:=acF l _ (ajx hi);generalize(bF l).ns[i]=y at hy hb;have hm:=hr.b;rw[ako,ako]at hm;obtain⟨z,f,e⟩:=UH hm hy;simp only[Function.comp_apply,lk]at e;cases q:(bF l).bs[y.b.toNat]? with
 |none=>rw[q]at e;cases e
 |some x =>rw[q]at e;simp only[aiB,abf,fB,zB,aiQ]at e;exact⟨y,z,y.b.toNat,x,hy,f,by omega,q,e.1,e.2⟩
theorem Se(m:Mc)(B:aba m)(H:DH){a5 a6 a7 a9:D}{R6:aO}(hr:bw H 5 R6 a6)(hq:fN H R6 m.ce)(n:Nat)(ex:Int)(nm:ak)(X:ai)
 (t:ae aB 84 200001 [.g (.ptr n 0),.n ex,.n (-1),.g (.str nm),.lp 0 0,.lp 1 0] [(0,JV m a5 a6 a7 a9),(0,[.bool false,.i 0])] H=X):∀(k:Nat) (v:Int),v<k->fF m v m.ce.length=true ->
 ae aB 84 200001 [.g (.ptr n 0),.n ex,.n v,.g (.str nm),.lp 0 0,.lp 1 0] [(0,JV m a5 a6 a7 a9),(0,[.bool false,.i 0])] H=match Bl m nm k v with
  |some r=>ret (.tuple [.agg [.bool r.c,.i r.n],.bool true]) H
  |none=>X
 |0,v,hk,u=>by
  rcases qB u with rfl|h
  .rw[t,Bl]
  .omega
 |k+1,v,hk,u=>by
  rcases qB u with rfl|⟨h0,F,E⟩
  .rw[t,Bl];rfl
  .obtain⟨c,hc,w⟩:=yj m h0 F;rw[w]at E;obtain⟨⟨r,d⟩,f⟩:=B v.toNat c hc E;obtain⟨dd,y,j⟩:=hq.2 _ c hc;rw[d]at j;have hlt:c.nx<(v.toNat:Int):=by rcases qB f with h|h<;>omega
   have z:fF m c.nx m.ce.length=true:=by
    revert f;unfold fF;simp only[ajm,aaV,ajX,ajG];rintro(h|h)
    .exact .inl h
    .exact .inr ⟨h.1,by omega,h.2.2⟩
   have ih:=Se m B H hr hq n ex nm X t k c.nx (by omega) z;refine cj (AE) ?_;have A:v=(v.toNat:Int):=by omega
   rw[abt (show v>=0 by omega),ge,Bl,abl (show ¬ v<0 by omega),SE,hc];rw[A]at y ⊢;rw[aio]at y;rw[dO hr Lj Ez y];simp only[Ng,UX,Qw,aj,au,ff,ax];cases hcn:c.con==nm with
   |true =>simp only[ge];refine(dO (i:=0) j rE WI rfl 26 _).trans ?_;simp only[im,KP,jn,ov2c,aj,au,d];rfl
   |false=>simp only[SE];exact ih
theorem aes(d:De)(h:hJ bY d=true):((d.k==3)=false->d.fs=[])/\d.fs.length<=16:=by
 unfold hJ at h;by_cases g:d.k=1
 .have:d.fs=[]:=by simp[g]at h;exact h.2.2.2.2
  exact⟨λ_=>this,by simp[this]⟩
 by_cases i:d.k=2
 .have:d.fs=[]:=by simp[i]at h;exact h.2.2.2.2
  exact⟨λ_=>this,by simp[this]⟩
 by_cases f:d.k=3
 .simp[f]at h;exact⟨λq=>(by rw[f]at q;cases q),h.2.2.2.2.2.1⟩
 by_cases j:d.k=4
 .have:d.fs=[]:=by simp[j]at h;exact h.2.2.2.2
  exact⟨λ_=>this,by simp[this]⟩
 by_cases t:d.k=5
 .have:d.fs=[]:=by simp[t]at h;exact h.2.2.2.2
  exact⟨λ_=>this,by simp[this]⟩
 simp[g,i,f,j,t]at h
theorem QR:∀ l:List De,l.all (hJ bY)=true->Zf l<=16*l.length
 |[],_=>by simp[Zf]
 |d::r,h=>by rw[akc,aaV]at h;have:=QR r h.2;have:=(aes d h.1).2;rw[Zf,aeg];omega
theorem Tx(m:Mc){a:List To}{b:List ak}(h:yB m a b=true):a.length=b.length:=by
 by_cases q:a.length=b.length
 .exact q
 .rw[yA m q]at h;cases h
def abC(l:List De)(m:Mc)(nm:ak)(z:Fn):Bool×Re:=wW nm z.fn z.d m.to (ii l).length l 0 0 0 0 (false,⟨false,0⟩)
def Fj(l:List De)(m:Mc)(nm:ak):Bool×Re:=match Bl m nm (m.en+1).toNat m.en with
 |some r=>(true,r)
 |none=>match(Tn l).ns[m.ex.toNat]? with
  |some z=>abC l m nm z
  |none=>(false,⟨false,0⟩)
def ZJ(a:Bool×Re):D:=.tuple [.agg [.bool a.2.c,.i a.2.n],.bool a.1]
structure Lb(l:List De)(m:Mc):Prop where
 z:cL bY l=0
 e:aba m
 x:0<=m.ex/\m.ex<((bF l).ns.length:Int)
 en:fF m m.en m.ce.length=true
 t:(ii l).length<=m.to.length
theorem ZI{l:List De}{m:Mc}(z:cL bY l=0)(h:gq m (bF l)=true)(mo:m.mo=1):Lb l m:=by have d:=VC m _ h;unfold gq sI oz Gz at h;simp only[aaV,mo,show((1:Int)==1)=true from rfl,ge,ajG]at h;have:=Tx m h.2.2.2.2.2.1.1;rw[xN,aaY]at this;exact⟨z,d,⟨h.2.2.2.2.1.1,h.2.2.2.2.1.2.1⟩,h.2.2.2.2.1.2.2.1,by omega⟩
theorem Lb.sc{l:List De}{m:Mc}(h:Lb l m)(k:Int):Lb l { m with st:=k }:=⟨h.z,h.e,h.x,h.en,h.t⟩
theorem adL{l:List De}{m:Mc}(h:Lb l m){H:DH}{n:Nat}(u:dF H n (bF l))(nm:ak){a5 a6 a7 a9:D}{R6:aO}(v:bw H 5 R6 a6)(w:fN H R6 m.ce)(E:bw H 3 (m.to.map il) a7) :
 aq 84 [.ptr (n+5) 0,.agg (JV m a5 a6 a7 a9),.i m.ex,.i m.en,.str nm] H=ret (ZJ (Fj l m nm)) H:=by
 obtain⟨h0,h1⟩:=h.x;have d:=h.en;have F:=h.e;obtain⟨_,hl60,_,f⟩:=kD h.z;have hn:=QR l f;obtain⟨i,hi⟩:=aiV h0;obtain⟨y,z,j,x,hy,I,t,J,K,hr⟩:=Uv l i (by omega);have B:=abB m H u (by rw[xN];omega) j x J nm m.to E (by rw[xN];omega);rw[xN,K,hr]at B;obtain⟨st,ho⟩:=u.o;have L:ae aB 84 200001 [.g (.ptr (n+5) 0),.n m.ex,.n (-1),.g (.str nm),.lp 0 0,.lp 1 0] [(0,JV m a5 a6 a7 a9),(0,[.bool false,.i 0])] H=ret (ZJ (abC l m nm z)) H:=by refine cj (AE) ?_;have A:=(abj.1 hy).1;obtain⟨⟨k,mm,nn,ag,xs,ps⟩,yd,yf,yp,yb,yr⟩:=y;simp only at t;rw[show decide ((-1:Int)>=0)=false from rfl,SE,hi];simp only[ac ho,aj,au,Zz,rC A,boK,ge,DC,Ry,hU u.ns,eC hy,jw,t,aG B,dB,jn,ov2c];rfl
 have M:=Se m F H v w (n+5) m.ex nm _ L (m.en+1).toNat m.en (by rcases qB d with e|e<;>omega) d
 refine ev (f84) (M.trans ?_);rw[Fj,hi,aio,I];cases Bl m nm (m.en+1).toNat m.en<;>rfl
end
section
mutual
def Ra(ce:List Ce):Pa->Re->List To->Option (List To)
 |.mk k n xs,r,l=>bif k==1 then some l else bif k==2 then some (l++[⟨n,r⟩])else bif !r.c then none else match ce[r.n.toNat]? with
  |none=>none
  |some c=>bif c.k != 1 then none else bif !(c.con==n)then none else bif (c.refs.length:Int) !=(xs.length:Int)then none else JU ce xs c.refs l
def JU(ce:List Ce):List Pa->List Re->List To->Option (List To)
 |[],_,l=>some l
 |p::ps,r::rs,l=>match Ra ce p r l with
  |none=>none
  |some l=>JU ce ps rs l
 |_::_,[],_=>none
end
section
variable{H0:DH}{o n e:Nat}{tl:List D}{m:Mc}{s:Nat}{a5 a6 a7 a9:D}{R6:aO}(hc:H0[o]? = some (.cells s (eW m a5 a6 a7 a9 tl)))(hr:bw H0 5 R6 a6)(hq:fN H0 R6 m.ce)(hk:∀ c∈m.ce,∀ r∈c.refs,ia m.ce.length r)(hl:m.ce.length<=4194304)
include hc hr hq hk hl
def XW(b:Nat)(H H':DH)(l:List To)(d:D)(k:Nat)(q:Option (List To)):Prop:=ci b H H'/\∀ l',q=some l'->qV H' b 3 (l'.map il) d/\l'.length<=l.length+k
mutual
theorem acK:∀(p:Pa) (r:Re) (l:List To) (x:D) (H:DH),ci H0.length H0 H->qV H H0.length 3 (l.map il) x->ia m.ce.length r->p.ok->l.length+nP p<=4194304 ->
 ∃ d H',aq 87 [.ptr o 0,x,.agg (fQ p),.agg [.bool r.c,.i r.n]] H=ret (.tuple [d,.bool (Ra m.ce p r l).isSome]) H'/\XW H0.length H H' l d (nP p) (Ra m.ce p r l)
 |.mk k nm xs,r,l,x,H,kp,B,E,hp,hb=>by
  rw[nP]at hb;simp only[Pa.ok]at hp;rw[Ra];cases t:k==1 with
  |true =>
   refine⟨x,H,ev (f87) ?_,ci.refl _ _,λl' q=>?_⟩
   .rw[t];rfl
   .cases q;exact⟨B,by omega⟩
  |false =>
   cases z:k==2 with
   |true =>
    obtain⟨d,H',A,O,F⟩:=B.put (ok:=aF ab 114) kp.1 (sU (by omega)) (sU (by rw[abe];omega)) [.str nm,.bool r.c,.i r.n];refine⟨d,H',ev (f87) ?_,F,λl' q=>?_⟩
    .rw[t,z,SE,ge,A];rfl
    .cases q;refine⟨by rw[afj];exact O,?_⟩;rw[aaY,abc,nP];omega
   |false =>
    cases I:r.c with
    |false =>refine⟨.nilrow,H,ev (f87) ?_,ci.refl _ _,λl' q=>by cases q⟩;rw[t,z];rfl
    |true =>
     obtain⟨g0,g1⟩:=E I;obtain⟨i,hi⟩:=aiV g0;have u:i<m.ce.length:=by omega
     have f:m.ce[i]? = some m.ce[i]:=abg u;have v:=hk _ (ajx u);generalize m.ce[i]=c at f v;obtain⟨dd,J,K⟩:=hq.2 i c f;have L:H[o]? = some (.cells s (eW m a5 a6 a7 a9 tl)):=by rw[kp.2 o (bu hc)];exact hc
     have j:=hr.keep kp;have y:=K.keep kp;rw[hi,aio,f];simp only[t,z,SE,aep]
     have w:aq 87 [.ptr o 0,x,.agg (fQ (.mk k nm xs)),.agg [.bool true,.i i]] H =
      bif c.k != 1 then ret (.tuple [.nilrow,.bool false]) H else bif !(c.con==nm)then ret (.tuple [.nilrow,.bool false]) H else bif (c.refs.length:Int) !=(xs.length:Int)then ret (.tuple [.nilrow,.bool false]) H else ae aB 87 200010 [.g (.ptr o 0),.g x,.lp 1 0,.g (.row 3 (bQ xs)),.n xs.length,.n 0] [(0,[]),(0,[.bool true,.i i])] H:=by
      refine ev (f87) ?_;simp only[t,z,SE,aep,ac L,eW,aj,au];rw[ji j Lj Ez J,Tr,aj,bE,ax];refine aib (cond (c.k != 1) (ret (.tuple [.nilrow,.bool false]) H)) ?_;rw[ji j Lj Ez J,c9i,au,aj,mH,ax];refine aib (cond (!(c.con==nm)) (ret (.tuple [.nilrow,.bool false]) H)) ?_;rw[ji j Lj Ez J,XO,au,au,au,aj,y.len rE,bE,ax,abe,dz]
     rw[w];cases c.k != 1 with
     |true=>exact⟨.nilrow,H,rfl,ci.refl _ _,λl' q=>by cases q⟩
     |false =>
      cases !(c.con==nm)with
      |true=>exact⟨.nilrow,H,rfl,ci.refl _ _,λl' q=>by cases q⟩
      |false =>
       cases Q:(c.refs.length:Int) !=(xs.length:Int)with
       |true=>exact⟨.nilrow,H,rfl,ci.refl _ _,λl' q=>by cases q⟩
       |false =>
        have M:c.refs.length=xs.length:=by simp at Q;omega
        obtain⟨d,H',A,F,N⟩:=Xg i c f xs hp.1 xs [] c.refs [] l x H rfl rfl rfl M kp B v hp.2 (by omega);rw[show(([]:List Pa).length:Int)=0 from rfl]at A;simp only[SE];exact⟨d,H',A,F,λl' q=>⟨(N l' q).1,by rw[nP];have:=(N l' q).2;omega⟩⟩
theorem Xg(i:Nat)(c:Ce)(u:m.ce[i]? = some c)(xs:List Pa)(F:xs.length<2^62):∀(suf pre:List Pa) (rsuf rpre:List Re) (l:List To) (x:D) (H:DH),xs=pre++suf->c.refs=rpre++rsuf->rpre.length=pre.length->rsuf.length=suf.length->ci H0.length H0 H->qV H H0.length 3 (l.map il) x->(∀ r∈rsuf,ia m.ce.length r)->Pa.oks suf->l.length+zD suf<=4194304 ->
 ∃ d H',ae aB 87 200010 [.g (.ptr o 0),.g x,.lp 1 0,.g (.row 3 (bQ xs)),.n xs.length,.n pre.length] [(0,[]),(0,[.bool true,.i i])] H=ret (.tuple [d,.bool (JU m.ce suf rsuf l).isSome]) H'/\XW H0.length H H' l d (zD suf) (JU m.ce suf rsuf l)
 |[],pre,rsuf,rpre,l,x,H,t,z,A,B,kp,E,_,_,_=>by
  have R:xs.length=pre.length:=by rw[t];simp
  refine⟨x,H,cj (AD) ?_,ci.refl _ _,λl' q=>?_⟩
  .rw[R,Cu,SE,JU];rfl
  .rw[JU]at q;cases q;exact⟨E,by omega⟩
 |p::suf,pre,[],rpre,l,x,H,t,z,A,B,kp,E,_,_,_=>by cases B
 |p::suf,pre,r::rsuf,rpre,l,x,H,t,z,A,B,kp,E,v,hp,hb=>by
  have hi:pre.length<xs.length:=by rw[t];simp
  rw[zD]at hb;obtain⟨dd,U,I⟩:=hq.2 i c u;have J:H[o]? = some (.cells s (eW m a5 a6 a7 a9 tl)):=by rw[kp.2 o (bu hc)];exact hc
  have K:=hr.keep kp;have y:=I.keep kp;have L:(c.refs.map im)[pre.length]? = some (im r):=by rw[z,<- A];exact cT _ _ _ _
  have M:(bQ xs)[pre.length]? = some (fQ p):=by rw[t,iT];exact cT _ _ _ _
  obtain⟨d,H1,O,N,W⟩:=acK p r l x H kp E (v r (by simp)) hp.1 (by omega);have w:∀ f H' (q:Option (List To)),(ae aB 87 200010 [.g (.ptr o 0),.g d,.lp 1 0,.g (.row 3 (bQ xs)),.n xs.length,.n ((pre++[p]).length)] [(0,[]),(0,[.bool true,.i i])] H1=ret (.tuple [f,.bool q.isSome]) H'\/(Ra m.ce p r l=none/\q=none/\f=.nilrow/\H'=H1))->(Ra m.ce p r l=none->q=none/\f=.nilrow/\H'=H1)->ae aB 87 200010 [.g (.ptr o 0),.g x,.lp 1 0,.g (.row 3 (bQ xs)),.n xs.length,.n pre.length] [(0,[]),(0,[.bool true,.i i])] H=ret (.tuple [f,.bool q.isSome]) H':=by
   intro f H' q j X;refine cj (AD) ?_;obtain⟨pk,pn,px⟩:=p;rw[ub hi,ge,bS,aD M];simp only[fQ,ac J,eW,aj,au];rw[ji K Lj Ez U,XO,au,au,au,aj,dO y rE WI L];simp only[im,KP];simp only[fQ]at O;rw[aG O];simp only[dB,aj,au,aP,ax];cases hm:Ra m.ce (.mk pk pn px) r l with
   |none =>obtain⟨rfl,rfl,rfl⟩:=X hm;simp only[ago,aeH,ge]
   |some l1 =>
    rcases j with j|j
    .rw[aaY,abc]at j;simp only[ajz,aep,SE];rw[IV _ (by omega)];exact j
    .rw[hm]at j;cases j.1
  rw[JU];cases hm:Ra m.ce p r l with
  |none =>refine⟨.nilrow,H1,w _ _ none (.inr ⟨hm,rfl,rfl,rfl⟩) (λ_=>⟨rfl,rfl,rfl⟩),N,λl' q=>by cases q⟩
  |some l1 =>obtain⟨Y,b1⟩:=W l1 hm;obtain⟨f,H',ih,Z,Q⟩:=Xg i c u xs F suf (pre++[p]) rsuf (rpre++[r]) l1 d H1 (by rw[t];simp) (by rw[z];simp) (by simp[A]) (by simpa using B) (kp.trans N) Y (λr hr=>v r (abi _ hr)) hp.2 (by omega);refine⟨f,H',w _ _ _ (.inl ih) (λq=>by rw[hm]at q;cases q),N.trans Z,λl' q=>⟨(Q l' q).1,?_⟩⟩;have:=(Q l' q).2;rw[zD];omega
end
end
end
section
variable{b o n e:Nat}{tl:List D}{H H1:DH}{m:Mc}{s:Nat}{a5 a6 a7 a9:D}{R5 R6:aO}
abbrev oo(k:Int):D:=.iface 134 (.agg [.i k])
def Did(b o:Nat)(tl:List D)(H:DH)(w:ai):Except Int Mc->Prop
 |.ok d=>∃ H',w=ret (.tuple []) H'/\SM b o tl H' d/\Mv S3 b o H H'
 |.error k=>∃ H',w=pan (oo k) H'/\Mv S3 b o H H'
theorem Sm.mv(h:Sm b o tl H m s a5 a6 a7 a9 R5 R6)(k:ci H.length H H1):Sm b o tl H1 m s a5 a6 a7 a9 R5 R6:=by have d:Mv (λ_=>False) b o H H1:=k.mv;exact⟨by rw[k.2 o (bu h.c)];exact h.c,h.bo,acd h.bh k.1,h.f.mv d id,h.fr.mv d id,h.k.mv d id,h.ce.mv d id,h.t.mv d id,h.u.mv d id,h.ap,h.nt⟩
theorem SM.keep(h:SM b o tl H m)(k:ci H.length H H1):SM b o tl H1 m:=by obtain⟨s,a5,a6,a7,a9,R5,R6,h⟩:=h;exact⟨_,_,_,_,_,_,_,h.mv k⟩
theorem aii(h:SM b o (ux n e) H m){l:List De}(f:Lb l m)(g:dF H n (bF l))(x:Nd):Did b o (ux n e) H (aq 38 [.ptr o 0,.agg (jw x)] H) (match Fj l m x.e.n with|(true,r)=>.ok (bk r m)|(false,_)=>.error 61):=by
 obtain⟨s,a5,a6,a7,a9,R5,R6,h⟩:=h;have d:=adL f g x.e.n (a5:=a5) (a9:=a9) h.k.is h.ce h.t.is;simp only[JV]at d;have w:aq 38 [.ptr o 0,.agg (jw x)] H=bif !(Fj l m x.e.n).1 then pan (oo 61) H else C aB 83 [.ptr o 0,.agg [.bool (Fj l m x.e.n).2.c,.i (Fj l m x.e.n).2.n]] H λ_ H=>ret (.tuple []) H:=by rw[dP];refine ev (f38) ?_;simp only[ac h.c,eW,aj,au];refine(aG d).trans ?_;simp only[ZJ,dB,aj,au,jn,ov2c,aP,ax]
 rw[w];obtain⟨q,r⟩:=Fj l m x.e.n;cases q with
 |false=>exact⟨H,rfl,Mv.refl⟩
 |true =>obtain⟨H',j,u,k⟩:=qI ⟨_,_,_,_,_,_,_,h⟩ r (S:=S3);exact⟨H',av j,u,k⟩
def OG(ce:List Ce)(r:Re):List Pa->Nat->Option (Nat×List To)
 |[],_=>none
 |p::ps,i=>match Ra ce p r []with
  |some l=>some (i,l)
  |none=>OG ce r ps (i+1)
def bds:List To->Int->Mc->Mc×Int
 |[],en,m=>(m,en)
 |t::r,en,m=>bds r m.ce.length (bd t.nm t.r en m)
def aaP(f:Fm)(y:Nd)(m:Mc):Except Int Mc:=match OG m.ce ⟨m.vc,m.vn⟩ y.e.ps 0 with
 |none=>.error 60
 |some (i,l)=>.ok (et ((mI y).getD (i+1) 0:Nat) (bds l f.en m).2 (bds l f.en m).1)
theorem qK{y:Nd}{i:Nat}(h:i<(mI y).length):(mI y)[i]? = some ((mI y).getD i 0):=by rw[List.getD_eq_getElem?_getD,abg h];rfl
theorem afB{i:Nat}(h:i<2^62):(.i (di ((i:Int)+1)):D)=.i ((i+1:Nat):Int):=by rw[IV i h]
theorem aeR(f:Fm)(y:Nd)(i:Nat)(hi:i+1<(mI y).length)(j:i<2^62)(l:List To)(hl:l.length<2^61):∀(suf pre:List To) (m:Mc) (en:Int) (x:D) (H:DH),l=pre++suf->SM b o tl H m->bw H 3 (l.map il) x->m.ce.length+suf.length<=4194304 ->
 ∃ H',ae aB 52 200008 [.g (.ptr o 0),.lp 1 0,.n i,.n en,.g x,.n l.length,.n pre.length] [(0,[]),(0,jw y)] H=ret (.tuple []) H'/\SM b o tl H' (et ((mI y).getD (i+1) 0:Nat) (bds suf en m).2 (bds suf en m).1)/\Mv S5 b o H H'
 |[],pre,m,en,x,H,d,h,u,hb=>by
  have B:l.length=pre.length:=by rw[d];simp
  obtain⟨H',v,w,k⟩:=nV h ((mI y).getD (i+1) 0:Nat) en (S:=S5);refine⟨H',?_,w,k⟩;rw[dP];refine cj (AM) ?_;rw[B,Cu,SE,afB (by omega)];refine(vK (qK hi) _).trans ?_;exact av v
 |t::suf,pre,m,en,x,H,d,h,u,hb=>by
  rw[aeg]at hb;have z:pre.length<l.length:=by rw[d];simp
  have A:(l.map il)[pre.length]? = some (il t):=by rw[d];exact cT _ _ _ _
  obtain⟨H1,v,w,k⟩:=FY h t.nm t.r en (by omega);obtain⟨H',ih,E,F⟩:=aeR f y i hi j l hl suf (pre++[t]) (bd t.nm t.r en m) m.ce.length x H1 (by rw[d];simp) w (u.mv k (by decide)) (by simp only[bd,pt,aaY,abc];omega);rw[aaY,abc,dP]at ih;refine⟨H',?_,E,k.trans F⟩;rw[dP];refine cj (AM) ?_;rw[ub z,ge,dO u w40 Yz A];simp only[il,aeO,qP,aw,qN,aj,au];rw[av v,IV _ (by omega)];exact ih
theorem XR(f:Fm)(E:D)(y:Nd)(hy:y.e.ok)(Q:zD y.e.ps<=2000)(I:(mI y).length=y.e.ps.length+1)(hk:∀ c∈m.ce,∀ r∈c.refs,ia m.ce.length r)(L:ia m.ce.length ⟨m.vc,m.vn⟩)(hl:m.ce.length<=4190000):∀(suf pre:List Pa) (H:DH),y.e.ps=pre++suf->SM b o tl H m ->
 Did b o tl H (ae aB 52 200002 [.g (.ptr o 0),.lp 0 0,.lp 1 0,.g (.row 3 (bQ y.e.ps)),.n y.e.ps.length,.n pre.length] [(0,[.i f.ex,.i f.en,E]),(0,jw y)] H) (match OG m.ce ⟨m.vc,m.vn⟩ suf pre.length with
  |none=>.error 60
  |some (i,l)=>.ok (et ((mI y).getD (i+1) 0:Nat) (bds l f.en m).2 (bds l f.en m).1))
 |[],pre,H,j,h=>by
  have R:y.e.ps.length=pre.length:=by rw[j];simp
  refine⟨H,?_,Mv.refl⟩;rw[dP];refine cj (AN) ?_;rw[R,Cu,SE]
 |p::suf,pre,H,j,h=>by
  have hi:pre.length<y.e.ps.length:=by rw[j];simp
  have t:y.e.ps.length<2^62/\Pa.oks y.e.ps:=by obtain⟨⟨k,mm,nm,a,xs,ps⟩,_⟩:=y;simp only[Ex.ok]at hy;exact hy.2.2
  have J:p.ok:=by have:=t.2;rw[j]at this;exact(Pa.oks_iff.1 this) p (by simp)
  have hpn:nP p<=2000:=by
   have:∀(l:List Pa) (r:List Pa),nP p<=zD (l++p::r):=by
    intro l r;induction l with
    |nil=>rw[afn,zD];omega
    |cons z l ih=>rw[agp,zD];omega
   have:=this pre suf;rw[<- j]at this;omega
  have u:(bQ y.e.ps)[pre.length]? = some (fQ p):=by rw[j,iT];exact cT _ _ _ _
  obtain⟨s,a5,a6,a7,a9,R5,R6,v⟩:=h;obtain⟨d,H1,M,F,U⟩:=acK v.c v.k.is v.ce hk (by omega) p ⟨m.vc,m.vn⟩ [] .nilrow H (ci.refl _ _) (.inl ⟨rfl,rfl⟩) L J (by rw[aiq];omega);have N:SM b o tl H1 m:=⟨_,_,_,_,_,_,_,v.mv F⟩
  have w:ae aB 52 200002 [.g (.ptr o 0),.lp 0 0,.lp 1 0,.g (.row 3 (bQ y.e.ps)),.n y.e.ps.length,.n pre.length] [(0,[.i f.ex,.i f.en,E]),(0,jw y)] H =
   bif !(Ra m.ce p ⟨m.vc,m.vn⟩ []).isSome then ae aB 52 200002 [.g (.ptr o 0),.lp 0 0,.lp 1 0,.g (.row 3 (bQ y.e.ps)),.n y.e.ps.length,.n ((pre++[p]).length)] [(0,[.i f.ex,.i f.en,E]),(0,jw y)] H1
   else aS ab 29 d H1 λa=>ae aB 52 200008 [.g (.ptr o 0),.lp 1 0,.n pre.length,.n f.en,.g d,.g a,.n 0] [(0,[]),(0,jw y)] H1:=by
   rw[dP];refine cj (AN) ?_;obtain⟨pk,pn,px⟩:=p;simp only[fQ]at M u;rw[ub hi,ge,bS,aD u];simp only[ac v.c,eW,aj,au];rw[aG M];simp only[dB,aj,au,aP,ax];rw[IV _ (by omega),aaY,abc]
  rw[w,OG];cases hm:Ra m.ce p ⟨m.vc,m.vn⟩ []with
  |none =>
   have ih:=XR f E y hy Q I hk L hl suf (pre++[p]) H1 (by rw[j];simp) N;simp only[ago,aeH,ge];rw[aaY,abc]at ih ⊢;generalize OG m.ce ⟨m.vc,m.vn⟩ suf (pre.length+1)=q at ih ⊢;rcases q with _|⟨i,l⟩
   .obtain⟨H',A,B⟩:=ih;exact⟨H',A,F.mv.trans B⟩
   .obtain⟨H',A,K,B⟩:=ih;exact⟨H',A,K,F.mv.trans B⟩
  |some l =>obtain⟨O,W⟩:=U l hm;rw[aiq]at W;simp only[ajz,aep,SE];rw[O.is.len w40,abe];obtain⟨H',A,K,B⟩:=aeR f y pre.length (by omega) (by omega) l (by omega) l [] m f.en d H1 rfl N O.is (by omega);exact⟨H',A,K,F.mv.trans (B.up Yy)⟩
theorem aid(h:SM b o tl H m)(f:Fm)(d:D)(y:Nd)(hy:y.e.ok)(t:zD y.e.ps<=2000)(j:(mI y).length=y.e.ps.length+1)(hk:∀ c∈m.ce,∀ r∈c.refs,ia m.ce.length r)(u:ia m.ce.length ⟨m.vc,m.vn⟩)(hl:m.ce.length<=4190000) :
 Did b o tl H (aq 52 [.ptr o 0,.agg [.i f.ex,.i f.en,d],.agg (jw y)] H) (aaP f y m):=by
 have:=XR f d y hy t j hk u hl y.e.ps [] H rfl h;have w:aq 52 [.ptr o 0,.agg [.i f.ex,.i f.en,d],.agg (jw y)] H=ae aB 52 200002 [.g (.ptr o 0),.lp 0 0,.lp 1 0,.g (.row 3 (bQ y.e.ps)),.n y.e.ps.length,.n (([]:List Pa).length)] [(0,[.i f.ex,.i f.en,d]),(0,jw y)] H:=by rw[dP];refine ev (f52) ?_;rw[dz];rfl
 rw[w];exact this
variable{b o n e:Nat}{tl:List D}{H H1:DH}{m:Mc}{s:Nat}{a5 a6 a7 a9:D}{R5 R6:aO}
def Yi(q:Bool):ak×Int:=(bif q then [84,114,117,101] else [70,97,108,115,101],0)
def NO(s:ak)(a b:Int):ak×Int :=
 bif s==[43] then([],di (a+b))else bif s==[45] then([],di (a - b))else bif s==[42] then([],di (a*b))else
 bif s==[47] then([],bif b != 0 then di (Int.tdiv a b)else 0)else bif s==[37] then([],bif b != 0 then Int.tmod a b else 0)else
 bif s==[60] then Yi (decide (a<b))else bif s==[61] then Yi (a==b)else([],0)
theorem Pz(q:Bool)(H:DH):aq 130 [.bool q] H=ret (.agg [.str (Yi q).1,.i 0,.nilrow]) H:=by refine ev (ahL) ?_;cases q<;>rfl
theorem ack(s:ak)(a b:Int)(H:DH):∃ k,aq 88 [.str s,.i a,.i b] H=ret (.tuple [.agg [.str (NO s a b).1,.i (NO s a b).2,.nilrow],.i k]) H:=by
 have j (v:Int):ae aB 88 20 [.lp 0 0,.n v] [(0,[.str [],.i 0,.nilrow])] H=ret (.tuple [.agg [.str [],.i v,.nilrow],.i 0]) H:=cj (aag) rfl;have nz (q:Bool):(!(b==0))=(b != 0):=rfl;unfold NO;cases d:s==[43]with
 |true=>exact⟨0,ev (Xx) (by rw[d,ge,j];rfl)⟩
 |false =>
 cases f:s==[45]with
 |true=>exact⟨0,ev (Xx) (by rw[d,f,SE,ge,j];rfl)⟩
 |false =>
 cases g:s==[42]with
 |true=>exact⟨0,ev (Xx) (by rw[d,f,g,SE,SE,ge,j];rfl)⟩
 |false =>
 cases t:s==[47]with
 |true =>refine⟨0,ev (Xx) ?_⟩;rw[d,f,g,t,j,j];simp only[SE,ge,nz true];cases b != 0<;>simp only[boK,ge,SE,j]
 |false =>
 cases u:s==[37]with
 |true =>refine⟨0,ev (Xx) ?_⟩;rw[d,f,g,t,u,j,j,j];simp only[SE,ge,nz true];cases b != 0<;>simp only[boK,ge,SE,j]
 |false =>
 cases w:s==[60]with
 |true =>refine⟨0,ev (Xx) ?_⟩;rw[d,f,g,t,u,w];simp only[SE,ge];exact av (Pz _ _)
 |false =>
 cases y:s==[61]with
 |true =>refine⟨0,ev (Xx) ?_⟩;rw[d,f,g,t,u,w,y];simp only[SE,ge];exact av (Pz _ _)
 |false =>refine⟨1,ev (Xx) ?_⟩;rw[d,f,g,t,u,w,y];rfl
theorem bw.c1{sz:Nat}{l:aO}{d:D}(h:bw H sz l d)(κ:List D->ai):ah 1 d κ=κ [d]:=by rcases h with rfl|⟨rfl,rfl⟩|⟨o,st,cp,rfl,_⟩|⟨o,s,rfl,_⟩<;>rfl
theorem c4i(cs:List D)(c:Nat)(κ:D->ai):br ab 4 cs c κ=af cs c κ:=by kernel_rfl
def aaA(c:ak)(rs:List Re)(m:Mc):Mc:=bk ⟨true,m.ce.length⟩ (pt ⟨1,c,0,rs,-1⟩ m)
def Sh(f:Fm)(y:Nd)(m:Mc):Except Int Mc :=
 bif y.e.k==3 then .ok (aaA y.e.n f.dn m)else match f.dn with
  |r::q::_ =>
   bif y.e.k==9 then bif r.c then .error 61 else bif q.c then .error 61 else bif (NO y.e.n r.n q.n).1==[] then .ok (bk ⟨false,(NO y.e.n r.n q.n).2⟩ m)else .ok (aaA (NO y.e.n r.n q.n).1 [] m)
   else bif y.e.k==4 then bif !r.c then .error 61 else match m.ce[r.n.toNat]? with
    |none=>.ok m
    |some c=>bif c.k != 2 then .error 61 else .ok (et c.n m.ce.length (bd c.con q c.nx m))
   else .ok m
  |_=>.ok m
theorem XJ(h:SM b o tl H m)(c:ak)(rs:List Re){x:D}(d:bw H 2 (rs.map im) x)(hl:m.ce.length<4194304)(κ:D->DH->ai) :
 ∃ H',(C aB 85 [.ptr o 0,.agg [.i 1,.str c,.i 0,x,.i (-1)]] H λa H=>C aB 83 [.ptr o 0,a] H κ)=κ (.tuple []) H'/\SM b o tl H' (aaA c rs m)/\Mv S3 b o H H':=by
 obtain⟨H1,f,g,k⟩:=yZ h ⟨1,c,0,rs,-1⟩ d hl;obtain⟨H2,j,t,u⟩:=qI g ⟨true,m.ce.length⟩ (S:=S3);exact⟨H2,(av f).trans (av j),t,(k.up Yy).trans u⟩
theorem aic(h:SM b o tl H m)(f:Fm){F:D}(v:bw H 2 (f.dn.map im) F)(y:Nd)(L:y.e.k=9\/y.e.k=4->f.dn.length=2)(M:∀ r∈f.dn,ia m.ce.length r)(hl:m.ce.length<4194304)(hk:y.e.k=3\/y.e.k=9\/y.e.k=4) :
 Did b o tl H (aq 53 [.ptr o 0,.agg [.i f.ex,.i f.en,F],.agg (jw y)] H) (Sh f y m):=by
 unfold Sh;rw[dP];cases z:y.e.k==3 with
 |true =>rw[ge];obtain⟨H',d,g,k⟩:=XJ h y.e.n f.dn v hl λ_ H=>ret (.tuple []) H;refine⟨H',ev (f53) ?_,g,k⟩;rw[z,ge,v.c1,agc,YP];exact d
 |false =>
  have A:y.e.k=9\/y.e.k=4:=hk.resolve_left λq=>by rw[q]at z;cases z
  obtain⟨fx,fe,dn⟩:=f;have I:=L A;match dn,I with
  |[r,q],_ =>
  have rd0 (c:Nat) (t:TypeId) (κ:D->ai):=ji (i:=0) v rE WI rfl c t κ;have rd1 (c:Nat) (t:TypeId) (κ:D->ai):=ji (i:=1) v rE WI rfl c t κ;have rr0 (t:TypeId) (κ:D->ai):=dO (i:=0) v rE WI rfl t κ;have rr1 (t:TypeId) (κ:D->ai):=dO (i:=1) v rE WI rfl t κ;simp only[Int.natCast_zero,Int.natCast_one,acg,im]at rd0 rd1 rr0 rr1;cases B:y.e.k==9 with
  |true =>
   simp only[ge,SE];obtain⟨k,ho⟩:=ack y.e.n r.n q.n H
   have w:aq 53 [.ptr o 0,.agg [.i fx,.i fe,F],.agg (jw y)] H=bif r.c then pan (oo 61) H else bif q.c then pan (oo 61) H else bif (NO y.e.n r.n q.n).1==[] then C aB 83 [.ptr o 0,.agg [.bool false,.i (NO y.e.n r.n q.n).2]] H λ_ H=>ret (.tuple []) H
    else C aB 85 [.ptr o 0,.agg [.i 1,.str (NO y.e.n r.n q.n).1,.i 0,.nilrow,.i (-1)]] H λa H=>C aB 83 [.ptr o 0,a] H λ_ H=>ret (.tuple []) H:=by
    rw[dP];refine ev (f53) ?_;rw[z,B,SE,ge,rd0,c4i,aj,ax];refine aib (cond r.c (pan (oo 61) H)) ?_;rw[rd1,c4i,aj,ax];refine aib (cond q.c (pan (oo 61) H)) ?_;rw[rd0,Tr,au,aj,rd1,Tr,au,aj];refine(aG ho).trans ?_;simp only[dB,aj,au,qP,aw,qN,ff,ax,mD,Tq]
   rw[<- dP,w];cases r.c with
   |true=>exact⟨H,rfl,Mv.refl⟩
   |false =>
    cases q.c with
    |true=>exact⟨H,rfl,Mv.refl⟩
    |false =>
     simp only[SE];cases (NO y.e.n r.n q.n).1==[]with
     |true =>obtain⟨H',d,g,k⟩:=qI h ⟨false,(NO y.e.n r.n q.n).2⟩ (S:=S3);exact⟨H',av d,g,k⟩
     |false =>obtain⟨H',d,g,k⟩:=XJ h (NO y.e.n r.n q.n).1 [] (x:=.nilrow) (.inr (.inl ⟨rfl,rfl⟩)) hl λ_ H=>ret (.tuple []) H;exact⟨H',d,g,k⟩
  |false =>
   have J:(y.e.k==4)=true:=by
    rcases A with q|q<;>rw[q]at B ⊢
    .cases B
    .rfl
   simp only[ge,SE,J];obtain⟨s,a5,a6,a7,a9,R5,R6,E⟩:=h;cases j:r.c with
   |false =>refine⟨H,ev (f53) ?_,Mv.refl⟩;rw[z,B,J,SE,SE,ge,rr0,KP];simp only[jn,ov2c,aj,aP,ax,j,aeH,ge]
   |true =>
    obtain⟨g0,g1⟩:=M r (by simp) j;obtain⟨i,hi⟩:=aiV g0;have K:i<m.ce.length:=by omega
    have u:m.ce[i]? = some m.ce[i]:=abg K;generalize m.ce[i]=c at u;obtain⟨dd,I,hdd⟩:=E.ce.2 i c u;rw[hi,aio,u];simp only[aep,SE];have w:aq 53 [.ptr o 0,.agg [.i fx,.i fe,F],.agg (jw y)] H=bif c.k != 2 then pan (oo 61) H else aU (aq 51 [.ptr o 0,.str c.con,.agg [.bool q.c,.i q.n],.i c.nx] H) (λb H=>aU (aq 50 [.ptr o 0,.i c.n,b] H) (λ_ H=>ret (.tuple []) H) λ_ _=>none) λ_ _=>none:=by rw[dP];refine ev (f53) ?_;rw[z,B,J,SE,SE,ge,rr0,KP];simp only[jn,ov2c,aj,au,aP,ax,j,aep,SE,ac E.c,eW,hi];rw[ji E.k.is Lj Ez I,Tr,aj,bE,ax];refine aib (cond (c.k != 2) (pan (oo 61) H)) ?_;rw[dO E.k.is Lj Ez I];simp only[Ng,UX,Qw,aj,au];rw[rr1,KP]
    rw[<- dP,w];cases c.k != 2 with
    |true=>exact⟨H,rfl,Mv.refl⟩
    |false =>obtain⟨H1,d,g,k⟩:=FY ⟨_,_,_,_,_,_,_,E⟩ c.con q c.nx hl;obtain⟨H2,N,O,Q⟩:=nV g c.n m.ce.length (S:=S3);exact⟨H2,(aG d).trans (aG N),O,(k.up Yy).trans Q⟩
def Kx(q:Nat)(H H':DH):Prop:=H.length<=H'.length/\∀ i,i<H.length->i≠q->H'[i]? = H[i]?
def nbD:DB->Bool
 |.buf _ _ _ _=>false
 |.tbuf _ _ _=>false
 |_=>true
section
variable{q:Nat}{H H1 H2:DH}
theorem Kx.refl:Kx q H H:=⟨aaW _,λ_ _ _=>rfl⟩
theorem Kx.trans(h:Kx q H H1)(k:Kx q H1 H2):Kx q H H2:=⟨acd h.1 k.1,λi hi hq=>(k.2 i (afs hi h.1) hq).trans (h.2 i hi hq)⟩
theorem Kx.app(X:DH):Kx q H (H++X):=⟨by simp,λi hi _=>abo hi⟩
theorem Kx.set(x:DB):Kx q H (H.set q x):=⟨by simp,λi hi hq=>afA (aks hq)⟩
theorem Kx.of{i:Nat}{x:DB}(k:Kx q H H1)(h:H[i]? = some x)(hq:i≠q):H1[i]? = some x:=by rw[k.2 i (bu h) hq];exact h
theorem bw.kx{sz:Nat}{l:aO}{d:D}(h:bw H sz l d)(k:Kx q H H1){y:DB}(hq:H[q]? = some y)(hy:nbD y=true):bw H1 sz l d:=by
 rcases h with h|h|⟨x,st,cp,e,hb⟩|⟨x,s,e,hb⟩
 .exact .inl h
 .exact .inr (.inl h)
 .exact .inr (.inr (.inl ⟨x,st,cp,e,k.of hb λz=>by subst z;rw[hq]at hb;cases hb;cases hy⟩))
 .exact .inr (.inr (.inr ⟨x,s,e,k.of hb λz=>by subst z;rw[hq]at hb;cases hb;cases hy⟩))
theorem fN.kx{rf:aO}{cs:List Ce}(h:fN H rf cs)(k:Kx q H H1){y:DB}(hq:H[q]? = some y)(hy:nbD y=true):fN H1 rf cs:=⟨h.1,λi f hi=>by obtain⟨dd,e,r⟩:=h.2 i f hi;exact⟨dd,e,r.kx k hq hy⟩⟩
end
def bm(L:List Int):List (D×D):=L.map λi=>(.i i,.bool true)
theorem QZ(n:Int):∀ L:List Int,∃ z,Cf (.i n) (bm L)=some (bif z then some (.bool true)else none)
 |[]=>⟨false,rfl⟩
 |k::r=>by
  obtain⟨z,h⟩:=QZ n r;simp only[bm]at h;simp only[bm,acg,Cf,tH];cases hk:n==k with
  |true=>exact⟨true,rfl⟩
  |false=>exact⟨z,h⟩
theorem QV(n:Int):∀ L:List Int,∃ L',Cd (.i n) (.bool true) (bm L)=some (bm L')
 |[]=>⟨[n],rfl⟩
 |k::r=>by
  obtain⟨L',h⟩:=QV n r;simp only[bm]at h;simp only[bm,acg,Cd,tH,h];cases hk:n==k with
  |true=>exact⟨n::r,rfl⟩
  |false=>exact⟨k::L',rfl⟩
theorem UB{H:DH}{q:Nat}{L:List Int}(h:H[q]? = some (.map (bm L)))(n:Int):∃ L',∀ κ:DH->ai,jp ab 223 (.map q) (.i n) (.bool true) H κ=κ (H.set q (.map (bm L'))):=by
 have e:∀ κ:DH->ai,jp ab 223 (.map q) (.i n) (.bool true) H κ=ig H q λes=>fY (.i n) (.bool true) es λes=>κ (H.set q (.map es)):=by intro κ;kernel_rfl
 obtain⟨L',hl⟩:=QV n L;exact⟨L',λκ=>by rw[e,fT h,fY,hl]⟩
theorem Xh(p c:Nat)(H:DH)(κ:D->ai):bW ab 223 (.ptr p c) H κ=am H p λ_ cs=>af cs c κ:=by kernel_rfl
theorem ags(p c:Nat)(H:DH)(κ:D->ai):bW ab 28 (.ptr p c) H κ=am H p λ_ cs=>af cs c κ:=by kernel_rfl
section
variable{m:Mc}{p q:Nat}{a6:D}{R6:aO}
structure VH(m:Mc)(p q:Nat)(a6:D)(R6:aO)(H:DH):Prop where
 o:∃ s n e,H[p]? = some (.cells s [a6,.map q,.i n,.i e])
 k:bw H 5 R6 a6
 ce:fN H R6 m.ce
theorem VH.kx{H H1:DH}(h:VH m p q a6 R6 H)(k:Kx q H H1){y:DB}(hq:H[q]? = some y)(hy:nbD y=true)(d:p≠q):VH m p q a6 R6 H1:=by obtain⟨⟨s,n,e,ho⟩,f,g⟩:=h;exact⟨⟨s,n,e,k.of ho d⟩,f.kx k hq hy,g.kx k hq hy⟩
theorem VH.app{H:DH}(h:VH m p q a6 R6 H)(X:DH):VH m p q a6 R6 (H++X):=by obtain⟨⟨s,n,e,ho⟩,d,f⟩:=h;have k:Mv (λ_=>False) 0 0 H (H++X):=Mv.app X;exact⟨⟨s,n,e,eV X ho⟩,d.mv k id,f.mv k id⟩
def su(m:Mc):Prop:=∀(i:Nat) (c:Ce),m.ce[i]? = some c->c.k=1->∀ r∈c.refs,dA m r i=true
def Wy(m:Mc)(p q:Nat)(a6:D)(R6:aO)(k:Nat):Prop:=∀(r:Re) (b:Int) (H:DH) (L:List Int),dA m r b=true->b<=m.ce.length->(r.c=true->r.n<k)->VH m p q a6 R6 H->H[q]? = some (.map (bm L)) ->
 ∃ H' L',aq 128 [.ptr p 0,.agg [.bool r.c,.i r.n],.i b] H=ret (.bool true) H'/\H'[q]? = some (.map (bm L'))/\Kx q H H'
theorem jO{m:Mc}{r:Re}{b:Int}(h:dA m r b=true)(hc:r.c=true)(hb:b<=m.ce.length):∃(i:Nat) (c:Ce),r.n=i/\(i:Int)<b/\m.ce[i]? = some c/\(c.k=1\/c.k=2):=by unfold dA at h;simp only[hc,aep,ajj,aaV,ajG,ajm,ajX]at h;obtain⟨h0,h1,d⟩:=h;obtain⟨i,hi⟩:=aiV h0;obtain⟨c,hc,e⟩:=yj m (i:=r.n) (by omega) (by omega);rw[e]at d;rw[hi,aio]at hc;exact⟨i,c,hi,by omega,hc,d⟩
theorem XS(d:p≠q){k:Nat}(hk:Wy m p q a6 R6 k)(i:Nat)(y:i<=k)(A:i<=m.ce.length)(rs:List Re)(hl:rs.length<2^61)(ca cb:Nat)(f:ca≠q)(t:cb≠q)(x:D):∀(suf pre:List Re) (H:DH) (L:List Int),rs=pre++suf->bw H 2 (rs.map im) x->(∀ r∈suf,dA m r i=true)->VH m p q a6 R6 H->H[q]? = some (.map (bm L)) ->
 (∃ s,H[ca]? = some (.cells s [.ptr p 0]))->(∃ s z,H[cb]? = some (.cells s [z,.i i])) ->
 ∃ H' L',ae aB 168 200002 [.g x,.g (.func 170 [] [.ptr ca 0,.ptr cb 0]),.n rs.length,.n pre.length] [] H=ret (.i (-1)) H'/\H'[q]? = some (.map (bm L'))/\Kx q H H'
 |[],pre,H,L,e,B,hr,E,hq,F,I=>by
  have M:rs.length=pre.length:=by rw[e];simp
  refine⟨H,L,cj (tS) ?_,hq,Kx.refl⟩;rw[M,Cu,SE]
 |r::suf,pre,H,L,e,B,hr,E,hq,⟨s1,F⟩,⟨s2,z,I⟩=>by
  have hi:pre.length<rs.length:=by rw[e];simp
  have J:(rs.map im)[pre.length]? = some (im r):=by rw[e];exact cT _ _ _ _
  have N:aQ bV 170=true:=by kernel_rfl
  have u:=hr r (by simp)
  obtain⟨H1,O,Q,R,v⟩:=hk r i H L u (by omega) (λc=>by obtain⟨j,c',e1,M,_⟩:=jO u c (by omega);omega) E hq
  obtain⟨H',L',ih,U,W⟩:=XS d hk i y A rs hl ca cb f t x suf (pre++[r]) H1 O (by rw[e];simp) (B.kx v hq rfl) (λr K=>hr r (abi _ K)) (E.kx v hq rfl d) R ⟨s1,v.of F f⟩ ⟨s2,z,v.of I t⟩;rw[aaY,abc]at ih;refine⟨H',L',cj (tS) ?_,U,v.trans W⟩;rw[ub hi,ge,dO B rE WI J];simp only[im,KP];rw[dX N];have w:aq 170 ([]++([D.agg [.bool r.c,.i r.n]]++[.ptr ca 0,.ptr cb 0])) H=ret (.bool false) H1:=by refine ev (ahr) ?_;simp only[ac F,ac I,aj,au];refine(av Q).trans ?_;rw[aP];rfl
  rw[av w,ax,SE,IV _ (by omega)];exact ih
theorem WE(hR:su m)(hl:∀ c∈m.ce,c.refs.length<2^61)(y:p≠q)(k:Nat)(ihk:∀ j,k=j+1->Wy m p q a6 R6 j):Wy m p q a6 R6 k:=λr b H L hr hb hk hv hq=>by
 have A:=hv.app ([.cells 0 [.ptr p 0]]++[.cells 0 [.bool r.c,.i r.n]]);have d:(H++([DB.cells 0 [.ptr p 0]]++[.cells 0 [.bool r.c,.i r.n]]))[q]? = some (.map (bm L)):=eV _ hq;have hA:(H++([DB.cells 0 [.ptr p 0]]++[.cells 0 [.bool r.c,.i r.n]]))[H.length]? = some (.cells 0 [.ptr p 0]):=by simp
 have hB:(H++([DB.cells 0 [.ptr p 0]]++[.cells 0 [.bool r.c,.i r.n]]))[H.length+1]? = some (.cells 0 [.bool r.c,.i r.n]):=by simp
 have kX:Kx q H (H++([DB.cells 0 [.ptr p 0]]++[.cells 0 [.bool r.c,.i r.n]])):=Kx.app _;have B:(H++[DB.cells 0 [.ptr p 0]]).length=H.length+1:=by simp
 have hql:=bu hq;have wX:H++[DB.cells 0 [.ptr p 0]]++[.cells 0 [.bool r.c,.i r.n]]=H++([DB.cells 0 [.ptr p 0]]++[.cells 0 [.bool r.c,.i r.n]]):=aft ..;generalize hX:H++([DB.cells 0 [.ptr p 0]]++[.cells 0 [.bool r.c,.i r.n]])=X at A d hA hB kX wX;obtain⟨⟨s,n0,e0,ho⟩,E,Q⟩:=A;cases f:r.c with
 |false =>refine⟨X,L,?_,d,kX⟩;rw[<- f];refine ev (ael) ?_;dsimp only;rw[B,wX];simp only[ac hB,aj,aP,ax,f,aeH,ge]
 |true =>
  obtain⟨i,c,hi,R,v,U⟩:=jO hr f hb;have hki:=hk f;obtain⟨z,hz⟩:∃ z,∀ κ:D->ai,ip ab 223 (.map q) (.i (i:Int)) false X κ=κ (.bool z):=by
   obtain⟨z,h⟩:=QZ i L;refine⟨z,λκ=>?_⟩;have e:ip ab 223 (.map q) (.i i) false X κ=ig X q λes=>py (.i i) es λr=>iE ab 4 false r κ:=by kernel_rfl
   have W:iE ab 4 false none κ=κ (.bool false):=by kernel_rfl
   rw[e,fT d,py,h];cases z with
   |false=>exact W
   |true=>rfl
  have w:aq 128 [.ptr p 0,.agg [.bool r.c,.i r.n],.i b] H=bif z then ret (.bool true) X else ae aB 128 3 [.n b,.g (.ptr H.length 0),.g (.ptr (H.length+1) 0)] [] X:=by refine ev (ael) ?_;dsimp only;rw[B,wX];simp only[ac hB,aj,au,aP,ax,f,aep,SE,cM,cE,hi];rw[abt (show(i:Int)>=0 by omega),abt R,ge,ge];simp only[ac hA,aj,mB,oA,Xh,ac ho,adO,au];rw[hz,ax]
  rw[f]at w;rw[w];cases z with
  |true=>exact⟨X,L,rfl,d,kX⟩
  |false =>
   rw[SE];obtain⟨t,hm⟩:=UB d i;have kS:Kx q X (X.set q (.map (bm t))):=Kx.set _;have Y:=(⟨⟨s,n0,e0,ho⟩,E,Q⟩:VH m p q a6 R6 X).kx kS d rfl y;have F:(X.set q (.map (bm t)))[q]? = some (.map (bm t)):=aT _ d;have I:(X.set q (.map (bm t)))[H.length]? = some (.cells 0 [.ptr p 0]):=kS.of hA (by omega);have J:(X.set q (.map (bm t)))[H.length+1]? = some (.cells 0 [.bool r.c,.i r.n]):=kS.of hB (by omega);obtain⟨⟨s2,n2,W,K⟩,hrow2,u⟩:=Y;obtain⟨dd,hd,M⟩:=u.2 i c v;have w3:ae aB 128 3 [.n b,.g (.ptr H.length 0),.g (.ptr (H.length+1) 0)] [] X=bif c.k==2 then ret (.bool true) (X.set q (.map (bm t)))else bif c.k==1 then C aB 118 [dd,.func 170 [] [.ptr H.length 0,.ptr (H.length+1) 0]] (X.set q (.map (bm t))) λa H=>ib .not a λa=>ret a H else ret (.bool false) (X.set q (.map (bm t))):=by refine cj (aam) ?_;simp only[ac hB,aj,au,cE,cM,ax,hi];rw[abl (show ¬(i:Int)<0 by omega),abl (show ¬(i:Int)>=b by omega),SE,SE];simp only[ac hA,aj,mB,oA,Xh,ac ho,adO,au];rw[hm];simp only[ac I,ac J,aj,au,mB,oA,ags,ac K,adO,hi];rw[dO hrow2 Lj Ez hd];simp only[Ng,UX,Qw,aj,au,ba,ax]
   rw[w3];cases Z:c.k==2 with
   |true=>exact⟨_,t,rfl,F,kX.trans kS⟩
   |false =>
    have h1:c.k=1:=U.resolve_right λz=>by rw[z]at Z;cases Z
    rw[h1];obtain⟨j,rfl⟩:∃ j,k=j+1:=⟨k - 1,by omega⟩;obtain⟨H',L',g1,g2,g3⟩:=XS y (ihk j rfl) i (by omega) (by omega) c.refs (hl c (aeE v)) H.length (H.length+1) (by omega) (by omega) dd c.refs [] _ t rfl M (hR i c v h1) ⟨⟨s2,n2,W,K⟩,hrow2,u⟩ F ⟨0,I⟩ ⟨0,.bool r.c,by rw[<- hi];exact J⟩;refine⟨H',L',?_,g2,(kX.trans kS).trans g3⟩;have N:aq 168 [dd,.func 170 [] [.ptr H.length 0,.ptr (H.length+1) 0]] (X.set q (.map (bm t)))=ret (.i (-1)) H':=by refine ev (aej) ?_;rw[M.len rE,abe];exact g1
    have O:aq 118 [dd,.func 170 [] [.ptr H.length 0,.ptr (H.length+1) 0]] (X.set q (.map (bm t)))=ret (.bool false) H':=by refine ev (aem) ?_;rw[av N,cM];rfl
    rw[SE,show((1:Int)==1)=true from rfl,ge,av O,aP];rfl
theorem v210(f:su m)(hl:∀ c∈m.ce,c.refs.length<2^61)(d:p≠q):∀ k:Nat,Wy m p q a6 R6 k
 |0=>WE f hl d 0 λj h=>by cases h
 |k+1=>WE f hl d (k+1) λj h=>by cases h;exact v210 f hl d k
end
def BP(f:Re->Nat->Nat×Except Int Va):List Re->Nat->Nat×Except Int (List Va)
 |[],n=>(n,.ok [])
 |r::rs,n=>match f r n with
  |(n,.error e)=>(n,.error e)
  |(n,.ok v)=>match BP f rs n with
   |(n,.error e)=>(n,.error e)
   |(n,.ok l)=>(n,.ok (v::l))
def vl(ce:List Ce):Nat->Re->Nat->Nat×Except Int Va
 |0,_,n=>(n+1,.error 7)
 |k+1,r,n=>bif decide (n+1>4000)then(n+1,.error 7)else bif !r.c then(n+1,.ok (.mk [] r.n []))else match ce[r.n.toNat]? with
  |none=>(n+1,.error 7)
  |some c=>bif c.k==2 then(n+1,.error 61)else match BP (vl ce k) c.refs (n+1)with
   |(n,.error e)=>(n,.error e)
   |(n,.ok l)=>(n,.ok (.mk c.con 0 l))
def HQ{α:Type}:Except Int α->Int
 |.ok _=>0
 |.error e=>e
section
variable{m:Mc}{p q:Nat}{a6:D}{R6:aO}
theorem qV.kx{H H1:DH}{b sz:Nat}{l:aO}{d:D}(h:qV H b sz l d)(k:Kx p H H1){y:DB}(hq:H[p]? = some y)(hy:nbD y=true):qV H1 b sz l d:=by
 rcases h with h|⟨x,e,f,hb⟩
 .exact .inl h
 .exact .inr ⟨x,e,f,k.of hb λz=>by subst z;rw[hq]at hb;cases hb;cases hy⟩
structure VG(m:Mc)(a6:D)(R6:aO)(H:DH):Prop where
 k:bw H 5 R6 a6
 ce:fN H R6 m.ce
theorem VG.kx{H H1:DH}(h:VG m a6 R6 H)(k:Kx p H H1){y:DB}(hq:H[p]? = some y)(hy:nbD y=true):VG m a6 R6 H1:=⟨h.k.kx k hq hy,h.ce.kx k hq hy⟩
theorem VG.keep{H H1:DH}(h:VG m a6 R6 H)(k:ci H.length H H1):VG m a6 R6 H1:=by have d:Mv (λ_=>False) 0 0 H H1:=k.mv;exact⟨h.k.mv d id,h.ce.mv d id⟩
structure aiy(p q:Nat)(a6:D)(H H':DH)(d:List D)(r:Nat×Except Int Va):Prop where
 o:∃ s,H'[p]? = some (.cells s [a6,.map q,.i r.1,.i (HQ r.2)])
 k:Kx p H H'
 x:∃ c i l,d=xV c i l
 v:∀ v,r.2=.ok v->d=qh v
 e:∀ e,r.2=.error e->e≠0
def Wx(m:Mc)(p q:Nat)(a6:D)(R6:aO)(k:Nat):Prop:=∀(r:Re) (b:Int) (n:Nat) (H:DH),dA m r b=true->b<=m.ce.length->(r.c=true->r.n<k)->n<=4000->VG m a6 R6 H->(∃ s,H[p]? = some (.cells s [a6,.map q,.i n,.i 0])) ->
 ∃ d H',aq 129 [.ptr p 0,.agg [.bool r.c,.i r.n]] H=ret (.agg d) H'/\aiy p q a6 H H' d (vl m.ce (k+1) r n)
theorem acl(a b c d x:D)(κ:List D->ai):aw [a,b,c,d] 3 [x] κ=κ [a,b,c,x]:=rfl
theorem acm(a b c d x:D)(κ:List D->ai):aw [a,b,c,d] 2 [x] κ=κ [a,b,x,d]:=rfl
theorem abu{ce:List Ce}:∀(k:Nat) (r:Re) (n:Nat),n<=4000->∀ v,(vl ce k r n).2=.ok v->(vl ce k r n).1<=4000
 |0,_,_,_,v,h=>by cases h
 |k+1,r,n,i,v,h=>by
  have j:∀(l:List Re) (n:Nat),n<=4000->∀ v,(BP (vl ce k) l n).2=.ok v->(BP (vl ce k) l n).1<=4000:=by
   intro l;induction l with
   |nil=>intro n i v _;exact i
   |cons r l ih =>
    intro n i v h;rw[BP]at h ⊢;have w:=abu (ce:=ce) k r n i;generalize vl ce k r n=z at h w ⊢;obtain⟨n1,_|y⟩:=z
    .cases h
    .simp only at h ⊢;have d:=ih n1 (w y rfl);generalize BP (vl ce k) l n1=A at h d ⊢;obtain⟨n2,_|t⟩:=A
     .cases h
     .exact d t rfl
  rw[vl]at h ⊢;cases u:decide (n+1>4000)with
  |true=>rw[u]at h;cases h
  |false =>
   have:=akd u;rw[u]at h;cases hc:r.c with
   |false=>simp only[SE,aeH,ge];omega
   |true =>
    rw[hc]at h;simp only[aep,SE]at h ⊢;cases f:ce[r.n.toNat]? with
    |none=>rw[f]at h;cases h
    |some c =>
     rw[f]at h;simp only at h ⊢;cases g:c.k==2 with
     |true=>rw[g]at h;cases h
     |false =>
      rw[g]at h;simp only[SE]at h ⊢;have d:=j c.refs (n+1) (by omega);generalize BP (vl ce k) c.refs (n+1)=z at h d ⊢;obtain⟨n2,_|t⟩:=z
      .cases h
      .exact d t rfl
theorem abv(hpq:p≠q){k:Nat}(hk:Wx m p q a6 R6 k)(i:Nat)(hik:i<=k)(hil:i<=m.ce.length)(rs:List Re)(hl:rs.length<=1048576)(con:ak)(x:D):∀(suf pre:List Re) (vs:List Va) (A:D) (B n:Nat) (H:DH) (e:ak) (h:Int) (j:D),rs=pre++suf->vs.length=pre.length->bw H 2 (rs.map im) x->(∀ r∈suf,dA m r i=true)->VG m a6 R6 H->n<=4000 ->
 (∃ s,H[p]? = some (.cells s [a6,.map q,.i n,.i 0]))->qV H B 3 (fu vs) A->B<=H.length->p<B ->
 ∃ d H',ae aB 129 200013 [.g (.ptr p 0),.lp 1 0,.lp 3 0,.g x,.n rs.length,.n pre.length] [(0,[]),(0,[.str e,.i h,j]),(0,[]),(0,[.str con,.i 0,A])] H=ret (.agg d) H'/\B<=H'.length/\(∀ i,i<B->i≠p->H'[i]? = H[i]?)/\H.length<=H'.length /\
  (∃ s,H'[p]? = some (.cells s [a6,.map q,.i (BP (vl m.ce (k+1)) suf n).1,.i (HQ (BP (vl m.ce (k+1)) suf n).2)]))/\(∃ c i l,d=xV c i l)/\(∀ l,(BP (vl m.ce (k+1)) suf n).2=.ok l->d=qh (.mk con 0 (vs++l)))/\(∀ e,(BP (vl m.ce (k+1)) suf n).2=.error e->e≠0)
 |[],pre,vs,A,B,n,H,e,h,j,J,L,hx,hr,hv,hn,⟨s,ho⟩,hA,hb,hp=>by
  have e2:rs.length=pre.length:=by rw[J];simp
  obtain⟨H',hf,kf⟩:=hA.fz hb;refine⟨xV con 0 (fu vs),H',cj (wF) ?_,acd hb kf.1,λi hi _=>kf.2 i hi,kf.1,⟨s,by rw[kf.2 p hp];exact ho⟩,⟨_,_,_,rfl⟩,λl q=>?_,λe q=>by cases q⟩
  .rw[e2,Cu,SE];simp only[aj,au];rw[hf]
  .cases q;rw[afq,qh]
 |r::suf,pre,vs,A,B,n,H,e,h,j,J,L,hx,hr,hv,hn,ho,hA,hb,hp=>by
  have hi:pre.length<rs.length:=by rw[J];simp
  have hat:(rs.map im)[pre.length]? = some (im r):=by rw[J];exact cT _ _ _ _
  have M:=hr r (by simp)
  obtain⟨d,H1,g1,f⟩:=hk r i n H M (by omega) (λc=>by obtain⟨j,c',J,e2,_⟩:=jO M c (by omega);omega) hn hv ho
  obtain⟨s0,I⟩:=ho;have hA1:=hA.kx f.k I rfl;obtain⟨s1,ho1⟩:=f.o;obtain⟨c1,i1,l1,hd⟩:=f.x;have hvl:vs.length<=1048576:=by omega
  obtain⟨d',H2,N,O,kk',hc1,E⟩:=hA1.put' (ok:=aF ab 73) (S:=S33) (acd hb f.k.1) (TX (by omega)) (TX (by rw[gd];omega)) d rfl;have u:H2[p]? = some (.cells s1 [a6,.map q,.i (vl m.ce (k+1) r n).1,.i (HQ (vl m.ce (k+1) r n).2)]):=by rw[E.2 p hp];exact ho1
  have w:ae aB 129 200013 [.g (.ptr p 0),.lp 1 0,.lp 3 0,.g x,.n rs.length,.n pre.length] [(0,[]),(0,[.str e,.i h,j]),(0,[]),(0,[.str con,.i 0,A])] H =
   bif HQ (vl m.ce (k+1) r n).2 != 0 then iW (.fz 3) d' H2 λc H=>ret (.agg [.str con,.i 0,c]) H else ae aB 129 200013 [.g (.ptr p 0),.lp 1 0,.lp 3 0,.g x,.n rs.length,.n ((pre++[r]).length)] [(0,[]),(0,[.str e,.i h,j]),(0,[]),(0,[.str con,.i 0,d'])] H2:=by
   refine cj (wF) ?_;rw[ub hi,ge,dO hx rE WI hat];simp only[im,KP,jn,ov2c,aj,au];refine(aG g1).trans ?_;rw[hd]at N ⊢;simp only[aj,au,qP,N,hc1,Xi,ac u,bE,ax];rw[IV _ (by omega),aaY,abc]
  rw[w,BP];have F:=f.v;have t:=f.e;have Q:=abu (ce:=m.ce) (k+1) r n hn;generalize vl m.ce (k+1) r n=z at F t Q u;obtain⟨n1,_|K⟩:=z
  .rename_i e';have hne:(HQ (α:=Va) (.error e') != 0)=true:=by simp only[HQ,bne_iff_ne];exact t e' rfl
   simp only[hne,ge];obtain⟨H',hf,kf⟩:=O.fz (acd (acd hb f.k.1) E.1);refine⟨xV con 0 (fu vs++[d]),H',hf _,acd (acd (acd hb f.k.1) E.1) kf.1,λi hi y=>?_,acd (acd f.k.1 E.1) kf.1,⟨s1,by rw[kf.2 p hp];exact u⟩,⟨_,_,_,rfl⟩,λl q=>(by cases q),λe q=>(by cases q;exact t _ rfl)⟩;rw[kf.2 i hi,E.2 i hi,f.k.2 i (by omega) y]
  .have hdv:=F K rfl;have hz:(HQ (α:=Va) (.ok K) != 0)=false:=rfl;simp only[hz,SE];have R:=f.k.1;have U:=hv.kx f.k I rfl;have hx1:=hx.kx f.k I rfl;have kk:=kk' p;have W:fu vs++[qh K]=fu (vs++[K]):=by simp[lY]
   obtain⟨d2,H',ih,q1,q2,q3,X,q5,Y,Z⟩:=abv hpq hk i hik hil rs hl con x suf (pre++[r]) (vs++[K]) d' B n1 H2 e h j (by rw[J];simp) (by simp[L]) (hx1.mv kk (by decide)) (λr hr'=>hr r (abi _ hr')) ⟨U.k.mv kk (by decide),U.ce.mv kk (by decide)⟩ (Q K rfl) ⟨s1,u⟩ (by rw[<- W,<- hdv];exact O) (acd (acd hb R) E.1) hp;refine⟨d2,H',ih,q1,λi hi y=>?_,acd (acd R E.1) q3,?_,q5,λl q=>?_,λe q=>?_⟩
   .rw[q2 i hi y,E.2 i hi,f.k.2 i (by omega) y]
   .generalize BP (vl m.ce (k+1)) suf n1=z at X Y Z ⊢;obtain⟨n2,_|l2⟩:=z<;>exact X
   .generalize BP (vl m.ce (k+1)) suf n1=z at X Y Z q;obtain⟨n2,_|l2⟩:=z
    .cases q
    .cases q;rw[Y l2 rfl,aft];rfl
   .generalize BP (vl m.ce (k+1)) suf n1=z at X Y Z q;obtain⟨n2,_|l2⟩:=z
    .cases q;exact Z _ rfl
    .cases q
theorem WD(R:su m)(hl:∀ c∈m.ce,c.refs.length<=1048576)(F:p≠q)(k:Nat)(ihk:∀ j,k=j+1->Wx m p q a6 R6 j):Wx m p q a6 R6 k:=λr b n H hr hb hk hn U ⟨s,ho⟩=>by
 have f:(H.set p (.cells (s+1) [a6,.map q,.i ((n+1:Nat):Int),.i 0]))[p]? = some (.cells (s+1) [a6,.map q,.i ((n+1:Nat):Int),.i 0]):=aT _ ho;have B:Kx p H (H.set p (.cells (s+1) [a6,.map q,.i ((n+1:Nat):Int),.i 0])):=Kx.set _;have E:(H.set p (.cells (s+1) [a6,.map q,.i ((n+1:Nat):Int),.i 0])).length=H.length:=afy ..;have t:=U.kx B ho rfl
 have w:aq 129 [.ptr p 0,.agg [.bool r.c,.i r.n]] H=bif decide (n+1>4000)then ret (.agg (xV [] 0 [])) ((H.set p (.cells (s+1) [a6,.map q,.i ((n+1:Nat):Int),.i 0])).set p (.cells (s+1+1) [a6,.map q,.i ((n+1:Nat):Int),.i 7]))else cond (!r.c) (ret (.agg (xV [] r.n [])) (H.set p (.cells (s+1) [a6,.map q,.i ((n+1:Nat):Int),.i 0])))
  (ay ab 28 a6 (.i r.n) λa=>bW ab 112 a (H.set p (.cells (s+1) [a6,.map q,.i ((n+1:Nat):Int),.i 0])) λa=>ah 5 a λa=>aw [.i 0,.str [],.i 0,.nilrow,.i 0] 0 a λa=>af a 0 λb=>aC ab .eql 3 true b (.i 2) λb=>brD b (ret (.agg (xV [] 0 [])) ((H.set p (.cells (s+1) [a6,.map q,.i ((n+1:Nat):Int),.i 0])).set p (.cells (s+1+1) [a6,.map q,.i ((n+1:Nat):Int),.i 61]))) (af a 1 λb=>ah 1 b λb=>aw [.str [],.i 0,.nilrow] 0 b λb=>ah 3 (.agg b) λb=>aw [.str [],.i 0,.nilrow] 0 b λb=>af a 3 λa=>aS ab 37 a (H.set p (.cells (s+1) [a6,.map q,.i ((n+1:Nat):Int),.i 0])) λc=>ae aB 129 200013 [.g (.ptr p 0),.lp 1 0,.lp 3 0,.g a,.g c,.n 0] [(0,[]),(0,[.str [],.i 0,.nilrow]),(0,[]),(0,b)] (H.set p (.cells (s+1) [a6,.map q,.i ((n+1:Nat):Int),.i 0])))):=by
  refine ev (f129) ?_;simp only[ac ho,aj,au];rw[Iy _ _ (by omega)];simp only[mD,acm,lc ho,aj,au,eT,ax,acl];rw[show decide (((n+1:Nat):Int)>4000)=decide (n+1>4000)by rw[afw];simp;omega]
 rw[w,vl];generalize hH1:H.set p (.cells (s+1) [a6,.map q,.i ((n+1:Nat):Int),.i 0])=H1 at f B E t ⊢;cases W:decide (n+1>4000)with
 |true=>exact⟨_,_,rfl,⟨_,aT _ f⟩,B.trans (Kx.set _),⟨_,_,_,rfl⟩,λv z=>(by cases z),λe z=>(by cases z;decide)⟩
 |false =>
  have hn1:=akd W;cases hc:r.c with
  |false=>exact⟨_,_,rfl,⟨_,f⟩,B,⟨_,_,_,rfl⟩,λv z=>(by cases z;rfl),λe z=>(by cases z)⟩
  |true =>
   obtain⟨i,c,hi,hib,u,I⟩:=jO hr hc hb;have hki:=hk hc;obtain⟨j,rfl⟩:∃ j,k=j+1:=⟨k - 1,by omega⟩;obtain⟨dd,J,A⟩:=t.ce.2 i c u;rw[hi,aio,u,dO t.k Lj Ez J];simp only[Ng,UX,Qw,aj,au,ba,ax,aep,SE,Tq,Qx,qP];cases M:c.k==2 with
   |true=>exact⟨_,_,rfl,⟨_,aT _ f⟩,B.trans (Kx.set _),⟨_,_,_,rfl⟩,λv z=>(by cases z),λe z=>(by cases z;decide)⟩
   |false =>
    have K:c.k=1:=I.resolve_right λz=>by rw[z]at M;cases M
    have L:=hl c (aeE u);obtain⟨d,H',X,g2,Y,Z,N,g6,O,Q⟩:=abv F (ihk j rfl) i (by omega) (by omega) c.refs L c.con dd c.refs [] [] .nilrow H1.length (n+1) H1 [] 0 .nilrow rfl rfl A (R i c u K) t (by omega) ⟨_,f⟩ (.inl ⟨rfl,rfl⟩) (aaW _) (bu f);refine⟨d,H',?_,?_,⟨acd B.1 Z,λx hx hp=>(Y x (by omega) hp).trans (B.2 x hx hp)⟩,g6,λv z=>?_,λe z=>?_⟩
    .simp only[SE,aw,qN];rw[A.len rE,abe];exact X
    .simp only[SE];generalize BP (vl m.ce (j+1)) c.refs (n+1)=z at N;obtain⟨n2,_|l2⟩:=z<;>exact N
    .simp only[SE]at z;generalize BP (vl m.ce (j+1)) c.refs (n+1)=y at O z;obtain⟨n2,_|l2⟩:=y
     .cases z
     .cases z;exact O l2 rfl
    .simp only[SE]at z;generalize BP (vl m.ce (j+1)) c.refs (n+1)=y at Q z;obtain⟨n2,_|l2⟩:=y
     .cases z;exact Q _ rfl
     .cases z
theorem aby(f:su m)(hl:∀ c∈m.ce,c.refs.length<=1048576)(d:p≠q):∀ k:Nat,Wx m p q a6 R6 k
 |0=>WD f hl d 0 λj h=>by cases h
 |k+1=>WD f hl d (k+1) λj h=>by cases h;exact aby f hl d k
end
def Tm(m:Mc)(r:Re):Except Int Va:=(vl m.ce (m.ce.length+1) r 0).2
def Tu:Except Int Va->D
 |.ok v=>.tuple [.agg (qh v),.i 0]
 |.error e=>.tuple [.agg [.str [],.i 0,.nilrow],.i e]
theorem Ye{m:Mc}{a5 a6 a7 a9:D}{R6:aO}{H:DH}(M:su m)(hl:∀ c∈m.ce,c.refs.length<=1048576)(f:bw H 5 R6 a6)(j:fN H R6 m.ce)(r:Re)(hr:dA m r m.ce.length=true) :
 aq 86 [.agg (xM m.mo m.ex m.en m.vc m.vn a5 a6 a7 m.bo a9 m.st),.agg [.bool r.c,.i r.n]] H=ret (Tu (Tm m r)) H/\∀ e,Tm m r=.error e->e≠0:=by
 have hk:r.c=true->r.n<m.ce.length:=λc=>by obtain⟨i,R,U,W,_⟩:=jO hr c (ajd _);omega
 have g:(H++[DB.map []]++[DB.cells 0 [a6,.map H.length,.i 0,.i 0]])[H.length+1]? = some (.cells 0 [a6,.map H.length,.i ((0:Nat):Int),.i 0]):=by simp
 have t:(H++[DB.map []]++[DB.cells 0 [a6,.map H.length,.i 0,.i 0]])[H.length]? = some (.map (bm [])):=by simp[bm]
 have A:ci H.length H (H++[DB.map []]++[DB.cells 0 [a6,.map H.length,.i 0,.i 0]]):=by rw[aft];exact ci.app H _
 have hA:(H++[DB.map []]).length=H.length+1:=by simp
 generalize Y:H++[DB.map []]++[DB.cells 0 [a6,.map H.length,.i 0,.i 0]]=X at g t A;have E:VG m a6 R6 X:=(⟨f,j⟩:VG m a6 R6 H).keep A;obtain⟨H1,L1,Z,g2,y⟩:=v210 (a6:=a6) (R6:=R6) (p:=H.length+1) (q:=H.length) M (λc hc=>by have:=hl c hc;omega) (by omega) m.ce.length r m.ce.length X [] hr (ajd _) hk ⟨⟨0,0,0,g⟩,E.k,E.ce⟩ t;have F:=E.kx y t rfl;obtain⟨d,H2,j1,u⟩:=aby (a6:=a6) (R6:=R6) (p:=H.length+1) (q:=H.length) M hl (by omega) m.ce.length r m.ce.length 0 H1 hr (ajd _) hk (by omega) F ⟨0,y.of g (by omega)⟩;obtain⟨s2,w⟩:=u.o;obtain⟨c2,i2,l2,N⟩:=u.x;have hlt:=bu g
 have kk:ci H.length H H2:=⟨acd A.1 (acd y.1 u.k.1),λx I=>by have h3:=y.1;rw[u.k.2 x (by omega) (by omega),y.2 x (by omega) (by omega),A.2 x I]⟩
 have B:ae aB 86 3 [.lp 0 0,.lp 1 0,.lp 2 0] [(0,xM m.mo m.ex m.en m.vc m.vn a5 a6 a7 m.bo a9 m.st),(0,[.bool r.c,.i r.n]),(0,[.str [],.i 0,.nilrow])] H=ret (Tu (Tm m r)) H2:=by
  refine cj (aed) ?_;dsimp only;rw[f.c1];rw[show(∀(a b:D) (κ:List D->ai),aw [.nilrow,.nilmap,.i 0,.i 0] 0 [a] (λc=>aw c 1 [b] κ)=κ [a,b,.i 0,.i 0])from λ_ _ _=>rfl];rw[show ∀(a b c d:D) (κ:List D->ai),ah 4 (.agg [a,b,c,d]) κ=κ [a,b,c,d] from λ_ _ _ _ _=>rfl,Y,hA];rw[f.ln Lj,j.1,av Z,aP,ax,aep,SE,av j1];rw[N];simp only[qP,aw,qN,ac w,aj,au,bE,ax];have J:(cK H2 [H2])[H.length+1]? = some (.cells s2 [a6,.map H.length,.i (vl m.ce (m.ce.length+1) r 0).1,.i (HQ (vl m.ce (m.ce.length+1) r 0).2)]):=lE w λx I=>by rw[ajB.1 I];exact w
  simp only[ac J,aj,au];have K:=u.v;have O:=u.e;rw[N]at K;simp only[Tm];generalize vl m.ce (m.ce.length+1) r 0=z at K O ⊢;obtain⟨n1,e'|v⟩:=z
  .have L:(HQ (α:=Va) (.error e') != 0)=true:=by simp only[HQ,bne_iff_ne];exact O _ rfl
   simp only[L,ge];rfl
  .have:=K v rfl;simp only[HQ,agk,SE,Tu];rw[<- this]
 refine⟨ev (f86) ?_,u.e⟩
 have Q:aY H (ret (Tu (Tm m r)) H2)=ret (Tu (Tm m r)) H:=yz kk (by
  cases Tm m r with
  |ok v=>simp only[Tu,D.bel,eL,akl];exact Pq _ v
  |error e=>simp[Tu,D.bel,eL])
 cases hc:r.c with
 |false =>rw[hc]at B;simp only[SE];rw[B];exact Q
 |true =>obtain⟨i,R,U,W,_⟩:=jO hr hc (ajd _);rw[hc]at B;rw[ge,abl (by omega),SE,f.len Lj,j.1,cM,ax,abl (by omega),SE,B];exact Q
variable{b o n e:Nat}{tl:List D}{H H1:DH}{m:Mc}{s:Nat}{a5 a6 a7 a9:D}{R5 R6:aO}{G:Pg}
theorem UO(p c:Nat)(H:DH)(κ:D->ai):bW ab 40 (.ptr p c) H κ=am H p λ_ cs=>af cs c κ:=by kernel_rfl
theorem UN(p c:Nat)(H:DH)(κ:D->ai):bW ab 88 (.ptr p c) H κ=am H p λ_ cs=>af cs c κ:=by kernel_rfl
theorem w79:ab.underlying 88=some (.slice 140):=by kernel_rfl
theorem TS:size ab 140=some 7:=by kernel_rfl
theorem dF.rsI(h:dF H n G):bw H 1 (nC G.rs) (.buf 1 (n+3) G.rs.length):=by obtain⟨q,d⟩:=h.rs;exact .inr (.inr (.inl ⟨n+3,q,false,by rw[nC,abe],d⟩))
theorem dF.bsI(h:dF H n G):bw H 7 (G.bs.map lJ) (.buf 7 (n+2) G.bs.length):=.inr (.inr (.inl ⟨n+2,true,false,by rw[abe],h.bs⟩))
def bgM(G:Pg)(m:Mc):Mc:=match G.rs[m.bo.toNat]? with
 |none=>{ m with mo:=3,ex:=0,en:=-1,vc:=false,vn:=0 }
 |some j=>match G.bs[j]? with
  |none=>m
  |some x=>et x.first (-1) m
theorem Nm(h:SM b o (ux n e) H m)(g:dF H n G)(hb:n+5<b)(ok:∀ r∈G.rs,r<G.bs.length){k:Nat}(hk:m.bo=(k:Nat))(hkl:k<=G.rs.length){S:Nat->Prop} :
 ∃ H',aq 74 [.ptr o 0] H=ret (.tuple []) H'/\SM b o (ux n e) H' (bgM G m)/\Mv S b o H H':=by
 obtain⟨st,h0⟩:=g.o;obtain⟨s,a5,a6,a7,a9,R5,R6,h⟩:=h
 have w:aq 74 [.ptr o 0] H=cond ((k:Int)==G.rs.length) (ret (.tuple []) (H.set o (.cells (s+4) (eW { m with mo:=3,ex:=0,en:=-1,vc:=false,vn:=0 } a5 a6 a7 a9 (ux n e)))))
  (ay ab 40 (.buf 1 (n+3) G.rs.length) (.i k) λb=>bW ab 3 b H λb=>ay ab 88 (.buf 7 (n+2) G.bs.length) b λa=>ct a 0 λa=>bW ab 3 a H λa=>aU (aq 50 [.ptr o 0,a,.i (-1)] H) (λ_ H=>ret (.tuple []) H) λ_ _=>none):=by
  refine ev (f74) ?_;simp only[ac h.c,eW,aj,au,mB,oA,UO,UN,ac h0,adO,hk];rw[g.rsI.len Yd,nC,abe,ba,ax];simp only[on0,on1,WT,on3,lc h.c,afu]
 rw[w,bgM,show m.bo.toNat=k by omega];by_cases d:k<G.rs.length
 .have t:G.rs[k]? = some G.rs[k]:=abg d;have f:=ok _ (ajx d);generalize G.rs[k]=j at t f;have u:G.bs[j]? = some G.bs[j]:=abg f;generalize G.bs[j]=x at u;obtain⟨H',v,z,y⟩:=nV ⟨_,_,_,_,_,_,_,h⟩ (x.first:Nat) (-1) (S:=S);rw[t,show((k:Int)==(G.rs.length:Int))=false by rw[aiS];omega];simp only[SE,u];refine⟨H',?_,z,y⟩;rw[dO g.rsI Yd s3 (cs:=[.i (j:Nat)]) (by rw[nC,afd,t];rfl),Tr,aj];rw[ji g.bsI w79 TS (iN lJ u),lJ,Tr,aj];exact aG v
 .rw[aiT (by omega),show((k:Int)==(G.rs.length:Int))=true by rw[ajX];omega,ge];dsimp only;obtain⟨v,y⟩:=h.sc (s+4) { m with mo:=3,ex:=0,en:=-1,vc:=false,vn:=0 } rfl rfl rfl rfl;exact⟨_,rfl,⟨_,_,_,_,_,_,_,v⟩,y.up λ_ q=>q.elim⟩
theorem Sm.top(h:Sm b o tl H m s a5 a6 a7 a9 R5 R6)(t:To)(hl:m.to.length<4194304):∃ d H',(∀ κ:D->DH->ai,bX (aF ab 114) 3 a7 [il t] H κ=κ d H')/\(∀ κ:List D->ai,ah 1 d κ=κ [d])/\H'[o]? = some (.cells s (eW m a5 a6 a7 a9 tl)) /\
 (∀ s' j,j.fr=m.fr->j.ce=m.ce->j.to=m.to++[t]->j.ou=m.ou->Sm b o tl (H'.set o (.cells s' (eW j a5 a6 d a9 tl))) j s' a5 a6 d a9 R5 R6)/\∀ x,Mv S3 b o H (H'.set o x):=by
 have hlt:(m.to.map il).length<4194304:=by rw[abe];exact hl
 obtain⟨d,H1,hp,J,k,hc,_⟩:=h.t.put' (ok:=aF ab 114) (S:=S33) h.bh (sU (by omega)) (sU (by omega)) (il t) rfl;have i:H1[o]? = some (.cells s (eW m a5 a6 a7 a9 tl)):=(k (o+1)).cells h.c (by omega);have F:OX H1 b R5 a5/\Ec a5 d:=by
  rcases h.t with⟨q,q2⟩|⟨y,q,hy,hb⟩
  .rw[q]at hp;have e0:=(hp ret).symm.trans (lL (r:=[]) (sU (by omega):aF ab 114 1=true));rw[show ret (.buf 3 H.length (([]:aO).length+1)) (H++[.buf 3 true false [il t]])=ret (.buf 3 H.length 1) (H++[.buf 3 true false [il t]])from rfl]at e0;have B:d=.buf 3 H.length 1:=by injection e0 with e0;injection e0 with e0 _ _;injection e0
   have E:H1=H++[.buf 3 true false [il t]]:=by injection e0 with e0;injection e0
   subst B E;refine⟨h.f.mv (S:=λ_=>False) (Mv.app (b:=b) (o:=0) _) id,λx z I=>⟨λl hl=>?_,λz2 l hl=>?_⟩⟩
   .cases I;rcases h.f with⟨g,_⟩|⟨g,f2,_,f3⟩|⟨g,f2,f3,_,w⟩
    .rw[g]at hl;cases hl
    .rw[f2]at hl;cases hl;have:=bu f3;omega
    .rw[f3]at hl;cases hl
   .cases I;rcases h.f with⟨g,_⟩|⟨g,f2,_,f3⟩|⟨g,f2,f3,_,w⟩
    .rw[g]at hl;cases hl
    .rw[f2]at hl;cases hl
    .rw[f3]at hl;cases hl;have:=bu w;omega
  .rw[q]at hp;have e0:=(hp ret).symm.trans (kE hb (sU (by omega)) (sU (by omega)));have B:d=.buf 3 y ((m.to.map il).length+1):=by injection e0 with e0;injection e0 with e0 _ _;injection e0
   have E:H1=H.set y (.buf 3 true false (m.to.map il++[il t])):=by injection e0 with e0;injection e0
   have v:=h.ap y _ q;subst B E;refine⟨?_,λx z I=>by cases I;exact v⟩;rcases h.f with F|⟨g,f2,f3,w⟩|⟨g,f2,f3,w,K⟩
   .exact .inl F
   .exact .inr (.inl ⟨g,f2,f3,ao _ (λq=>by subst q;exact v.1 _ f2) w⟩)
   .exact .inr (.inr ⟨g,f2,f3,w,ao _ (λq=>by subst q;exact v.2 _ _ f3) K⟩)
 refine⟨d,H1,hp,hc,i,λs' j B E L M=>?_,λx=>((k o).up s33).trans (Mv.set _ i rfl)⟩;have A:Mv (λ_=>False) b o H1 (H1.set o (.cells s' (eW j a5 a6 d a9 tl))):=Mv.set _ i rfl;have hbh:=h.bh;have:=(k o).1;exact⟨aT _ i,h.bo,by rw[afy];omega,F.1.mv A id,B▸(h.fr.mv (k o) (by decide)).mv A id,(h.k.mv (k o) (by decide)).mv A id,E▸(h.ce.mv (k o) (by decide)).mv A id,by rw[L,afj];exact J.mv A id,M▸(h.u.mv (k o) (by decide)).mv A id,F.2,h.nt⟩
abbrev S4:Nat->Prop:=λz=>z=4
theorem Sm.out(h:Sm b o tl H m s a5 a6 a7 a9 R5 R6)(t:Nv)(hl:m.ou.length<4194304):∃ g H',(∀ κ:D->DH->ai,bX (aF ab 75) 4 a9 [jv t] H κ=κ g H')/\(∀ κ:List D->ai,ah 1 g κ=κ [g])/\H'[o]? = some (.cells s (eW m a5 a6 a7 a9 tl)) /\
 (∀ s' i,i.fr=m.fr->i.ce=m.ce->i.to=m.to->i.ou=m.ou++[t]->Sm b o tl (H'.set o (.cells s' (eW i a5 a6 a7 g tl))) i s' a5 a6 a7 g R5 R6)/\∀ x,Mv S3 b o H (H'.set o x):=by
 have hlt:(m.ou.map jv).length<4194304:=by rw[abe];exact hl
 obtain⟨g,H1,hp,v,k,hc,_⟩:=h.u.put' (ok:=aF ab 75) (S:=S4) h.bh (TW (by omega)) (TW (by omega)) (jv t) rfl;have d:H1[o]? = some (.cells s (eW m a5 a6 a7 a9 tl)):=(k (o+1)).cells h.c (by omega);refine⟨g,H1,hp,hc,d,λs' i w y A B=>?_,λx=>((k o).up λz q=>by simp only[S4,S3]at *;omega).trans (Mv.set _ d rfl)⟩;have j:Mv (λ_=>False) b o H1 (H1.set o (.cells s' (eW i a5 a6 a7 g tl))):=Mv.set _ d rfl;have hbh:=h.bh;have:=(k o).1;exact⟨aT _ d,h.bo,by rw[afy];omega,(h.f.mv (k o) (by decide)).mv j id,w▸(h.fr.mv (k o) (by decide)).mv j id,(h.k.mv (k o) (by decide)).mv j id,y▸(h.ce.mv (k o) (by decide)).mv j id,A▸(h.t.mv (k o) (by decide)).mv j id,by rw[B,afj];exact v.mv j id,h.ap,h.nt⟩
def enM(G:Pg)(m:Mc):Except Int Mc:=match G.rs[m.bo.toNat]? with
 |none=>.ok m
 |some j=>match G.bs[j]? with
  |none=>.ok m
  |some x=>bif x.kind==4 then .ok (bgM G { m with to:=m.to++[⟨x.name,⟨m.vc,m.vn⟩⟩],bo:=m.bo+1 })else match Tm m ⟨m.vc,m.vn⟩with
   |.error e=>.error e
   |.ok v=>.ok (bgM G { m with ou:=m.ou++[⟨x.name,v⟩],bo:=m.bo+1 })
theorem SF(x:Bo)(κ:D->ai):br ab 140 (lJ x) 0 κ=κ (.agg (lJ x)):=by obtain⟨a,bb,c,d,e,f,g⟩:=x;exact Xl _ _ _ _ _ _ _ _
theorem ce7(a b c d e f g:D)(κ:List D->ai):ah 7 (.agg [a,b,c,d,e,f,g]) κ=κ [a,b,c,d,e,f,g]:=rfl
theorem ov7(i j t u v w y a b c d e f g:D)(κ:List D->ai):aw [i,j,t,u,v,w,y] 0 [a,b,c,d,e,f,g] κ=κ [a,b,c,d,e,f,g]:=rfl
theorem LZ(d f g a b c:D)(κ:List D->ai):aw [d,f,g] 0 [a,b,c] κ=κ [a,b,c]:=rfl
theorem abY(i d f g a:D)(κ:List D->ai):aw [i,d,f,g] 0 [a] κ=κ [a,d,f,g]:=rfl
theorem abX(d f g i a b c:D)(κ:List D->ai):aw [d,f,g,i] 1 [a,b,c] κ=κ [d,a,b,c]:=rfl
theorem aip(a b c d:D)(κ:List D->ai):ah 4 (.agg [a,b,c,d]) κ=κ [a,b,c,d]:=rfl
theorem aie(h:SM b o (ux n e) H m)(f:dF H n G)(hb:n+5<b)(ok:∀ r∈G.rs,r<G.bs.length){k:Nat}(hk:m.bo=(k:Nat))(y:k<G.rs.length)(hrs:G.rs.length<2^61)(Q:su m)(I:∀ c∈m.ce,c.refs.length<=1048576)(R:dA m ⟨m.vc,m.vn⟩ m.ce.length=true)(U:m.to.length<4194304)(W:m.ou.length<4194304) :
 Did b o (ux n e) H (aq 49 [.ptr o 0] H) (enM G m):=by
 obtain⟨st,h0⟩:=f.o;obtain⟨s,a5,a6,a7,a9,R5,R6,h⟩:=h;have z:G.rs[k]? = some G.rs[k]:=abg y;have A:=ok _ (ajx y);generalize G.rs[k]=j at z A;have B:G.bs[j]? = some G.bs[j]:=abg A;generalize G.bs[j]=x at B;rw[enM,show m.bo.toNat=k by omega,z];simp only[B];obtain⟨w,X⟩:=Ye (a5:=a5) (a7:=a7) (a9:=a9) Q I h.k.is h.ce ⟨m.vc,m.vn⟩ R;have E:di ((k:Int)+1)=(k:Int)+1:=by rw[IV k (by omega)];omega
 cases g:x.kind==4 with
 |true =>obtain⟨J,H1,hp,hc,d,K,L⟩:=h.top ⟨x.name,⟨m.vc,m.vn⟩⟩ U;have t:=K (s+2) { m with to:=m.to++[⟨x.name,⟨m.vc,m.vn⟩⟩],bo:=m.bo+1 } rfl rfl rfl rfl;have kM:=L (.cells (s+2) (eW { m with to:=m.to++[⟨x.name,⟨m.vc,m.vn⟩⟩],bo:=m.bo+1 } a5 a6 J a9 (ux n e)));obtain⟨H',F,M,N⟩:=Nm (S:=S3) ⟨_,_,_,_,_,_,_,t⟩ (f.mv kM hb h.bo) hb ok (k:=k+1) (by simp only;omega) (by omega);refine⟨H',ev (f49) ?_,M,kM.trans N⟩;simp only[ac h.c,eW,aj,au,mB,oA,UO,UN,ac h0,adO,hk];rw[dO f.rsI Yd s3 (cs:=[.i (j:Nat)]) (by rw[nC,afd,z];rfl),Tr,aj];rw[dO f.bsI w79 TS (iN lJ B),SF,lJ];simp only[ce7,ov7,aj,au,ba,ax,g,ge,Tq,Qx,ach,qP];refine(hp _).trans ?_;simp only[hc,ac d,eW,on7,lc d,aj,au,bJ,hk,E,mD,on8,afu];simp only[eW,hk]at F;exact av F
 |false =>
  cases u:Tm m ⟨m.vc,m.vn⟩with
  |error Y =>
   rw[u]at w;have O:(Y != 0)=true:=by simp only[bne_iff_ne];exact X _ u
   refine⟨H,ev (f49) ?_,Mv.refl⟩;simp only[ac h.c,eW,aj,au,mB,oA,UO,UN,ac h0,adO,hk];rw[dO f.rsI Yd s3 (cs:=[.i (j:Nat)]) (by rw[nC,afd,z];rfl),Tr,aj];rw[dO f.bsI w79 TS (iN lJ B),SF,lJ];simp only[ce7,ov7,aj,au,ba,ax,g,SE];simp only[hk,Tu]at w;refine(aG w).trans ?_;simp only[dB,aj,au,qP,aw,qN,bE,ax,O,ge,mD]
  |ok v =>rw[u]at w;obtain⟨J,H1,hp,hc,d,K,L⟩:=h.out ⟨x.name,v⟩ W;have t:=K (s+2) { m with ou:=m.ou++[⟨x.name,v⟩],bo:=m.bo+1 } rfl rfl rfl rfl;have kM:=L (.cells (s+2) (eW { m with ou:=m.ou++[⟨x.name,v⟩],bo:=m.bo+1 } a5 a6 a7 J (ux n e)));obtain⟨H',F,M,N⟩:=Nm (S:=S3) ⟨_,_,_,_,_,_,_,t⟩ (f.mv kM hb h.bo) hb ok (k:=k+1) (by simp only;omega) (by omega);refine⟨H',ev (f49) ?_,M,kM.trans N⟩;obtain⟨vc,vn,vx⟩:=v;simp only[jv]at hp;simp only[ac h.c,eW,aj,au,mB,oA,UO,UN,ac h0,adO,hk];rw[dO f.rsI Yd s3 (cs:=[.i (j:Nat)]) (by rw[nC,afd,z];rfl),Tr,aj];rw[dO f.bsI w79 TS (iN lJ B),SF,lJ];simp only[ce7,ov7,aj,au,ba,ax,g,SE];simp only[hk,Tu,qh]at w;refine(aG w).trans ?_;simp only[dB,aj,au,qP,LZ,bE,ax,agk,SE,ac h.c,eW,Tq,abY,abX,aip];refine(hp _).trans ?_;simp only[hc,ac d,eW,on9,lc d,aj,au,bJ,hk,E,mD,on8,afu];simp only[eW,hk]at F;exact av F
variable{b o n e:Nat}{tl:List D}{H H1:DH}{m:Mc}{s:Nat}{a5 a6 a7 a9:D}{R5 R6:aO}{G:Pg}
theorem afE(o n h:Nat)(H:DH)(κ:D->DH->ai):Pc ab 27 (.buf 3 o n) none (some (.i (h:Nat))) none H κ=dl H o n λz st cap l=>boK (Nat.beq z 3&&(st&&(!cap&&(Nat.ble h n&&Nat.blt 0 n)))) (κ (.tb 3 o (n+1) h) (H.set o (.tbuf 3 (n+1) (l.take h)))):=by kernel_rfl
theorem afD(o s n h:Nat)(H:DH)(κ:D->DH->ai):Pc ab 27 (.tb 3 o s n) none (some (.i (h:Nat))) none H κ=IX H o s λz l=>boK (Nat.beq z 3&&Nat.ble h n) (κ (.tb 3 o (s+1) h) (H.set o (.tbuf 3 (s+1) (l.take h)))):=by kernel_rfl
theorem OX.cut{R:aO}{x:List D}{d:D}(h:OX H b (R++[x]) d):∃ g H',(∀ κ:D->DH->ai,Pc ab 27 d none (some (.i (R.length:Nat))) none H κ=κ g H')/\OX H' b R g/\(∀ o,Mv S33 b o H H')/\(∀ κ:List D->ai,ah 1 g κ=κ [g])/\∀ a7 l,Ec d a7->qV H b 3 l a7->Ec g a7/\qV H' b 3 l a7:=by
 have j:(R++[x]).take R.length=R:=by simp
 have keep:∀ {y:Nat} {z:DB} {a7:D} {l:aO},(∀ k,a7≠.buf 3 y k)->qV H b 3 l a7->qV (H.set y z) b 3 l a7:=λ{y z a7 l} t f=>by
  rcases f with f|⟨w,f,u,v⟩
  .exact .inl f
  .exact .inr ⟨w,f,u,ao _ (λq=>by subst q;exact t _ f) v⟩
 rcases h with⟨_,h⟩|⟨y,rfl,ho,hb⟩|⟨y,s,rfl,ho,hb⟩
 .simp at h
 .refine⟨.tb 3 y ((R++[x]).length+1) R.length,H.set y (.tbuf 3 ((R++[x]).length+1) R),λκ=>?_,.inr (.inr ⟨y,_,rfl,ho,aT _ hb⟩),λo=>Mv.set _ hb ⟨rfl,ho⟩,λκ=>rfl,λa7 l ap f=>⟨λz k q=>⟨λl h=>(by cases h),λw l h=>?_⟩,keep (λk q=>(ap _ _ q).1 _ rfl) f⟩⟩
  .rw[afE,cD hb,j,abk (show R.length<=(R++[x]).length by simp),xg (show 0<(R++[x]).length by simp)];rfl
  .cases h;exact(ap _ _ q).1 _ rfl
 .refine⟨.tb 3 y (s+1) R.length,H.set y (.tbuf 3 (s+1) R),λκ=>?_,.inr (.inr ⟨y,_,rfl,ho,aT _ hb⟩),λo=>Mv.set _ hb ⟨rfl,ho⟩,λκ=>rfl,λa7 l ap f=>⟨λz k q=>⟨λl h=>(by cases h),λw l h=>?_⟩,keep (λk q=>(ap _ _ q).2 _ _ rfl) f⟩⟩
  .rw[afD,IX,hb];simp only[acD,ge,abk (show R.length<=(R++[x]).length by simp),aiJ,boK,j]
  .cases h;exact(ap _ _ q).2 _ _ rfl
theorem Ej{α:Type}{l:List α}(h:l≠[]):∃ r x,l=r++[x]:=⟨l.dropLast,l.getLast h,(List.dropLast_concat_getLast h).symm⟩
theorem Sm.pop(h:Sm b o tl H m s a5 a6 a7 a9 R5 R6){fs:List Fm}{f:Fm}(B:m.fr=fs++[f]) :
 ∃ R dd j H',R5=R++[[.i f.ex,.i f.en,dd]]/\R.length=fs.length/\bw H 2 (f.dn.map im) dd/\(∀ sz o s k,dd≠.tb sz o s k)/\(∀ κ:D->DH->ai,Pc ab 27 a5 none (some (.i (R.length:Nat))) none H κ=κ j H')/\(∀ κ:List D->ai,ah 1 j κ=κ [j])/\H'[o]? = some (.cells s (eW m a5 a6 a7 a9 tl)) /\
  Sm b o tl (H'.set o (.cells (s+1) (eW { m with fr:=fs } j a6 a7 a9 tl))) { m with fr:=fs } (s+1) j a6 a7 a9 R R6/\Mv S33 b o H (H'.set o (.cells (s+1) (eW { m with fr:=fs } j a6 a7 a9 tl))):=by
 have d:=h.fr.1;rw[B,aaY,abc]at d;obtain⟨R,x,rfl⟩:=Ej (l:=R5) (λq=>by rw[q]at d;simp at d);rw[aaY,abc]at d;have v:R.length=fs.length:=by omega
 obtain⟨dd,J,A⟩:=h.fr.2 fs.length f (by rw[B];simp);have L:x=[.i f.ex,.i f.en,dd]:=by rw[<- v]at J;simpa using J
 subst L;obtain⟨j,H1,hp,M,k,hc,E⟩:=h.f.cut;obtain⟨N,O⟩:=E _ _ h.ap h.t;have z:=k o;have w:H1[o]? = some (.cells s (eW m a5 a6 a7 a9 tl)):=(k (o+1)).cells h.c (by omega);have y:Mv (λ_=>False) b o H1 (H1.set o (.cells (s+1) (eW { m with fr:=fs } j a6 a7 a9 tl))):=Mv.set _ w rfl
 have F:qf H R fs:=⟨v,λi g K=>by have hi:=(abj.1 K).1;obtain⟨Q,U,W⟩:=h.fr.2 i g (by rw[B,abo hi];exact K);exact⟨Q,by rwa [abo (by omega)]at U,W⟩⟩
 refine⟨R,dd,j,H1,rfl,v,A,λsz o s k q=>h.nt [.i f.ex,.i f.en,dd] (by simp) sz o s k (by rw[q];simp),hp,hc,w,⟨aT _ w,h.bo,?_,M.mv y id,(F.mv z (by decide)).mv y id,(h.k.mv z (by decide)).mv y id,(h.ce.mv z (by decide)).mv y id,O.mv y id,(h.u.mv z (by decide)).mv y id,N,λcs I=>h.nt cs (by simp[I])⟩,z.trans (y.up λ_ q=>q.elim)⟩;have:=z.1;have:=h.bh;rw[afy];omega
theorem aaD{l:aO}{x:D}(f:bw H 2 l x)(g:∀ sz o s k,x≠.tb sz o s k)(hl:l.length<=4194304):aq 46 [x] H=ret (bP 2 H.length l) (H++dD 2 l):=by
 have h0:aF ab 26 0=true:=Jy (by omega);have d:bX (aF ab 26) 2 .nilrow [] H (λa H=>ret a H)=ret .nilrow H:=by simp only[bX,aiq,h0,boK,ge]
 refine ev (agD) ?_;rcases f with rfl|⟨rfl,rfl⟩|⟨o,st,cp,rfl,hb⟩|⟨o,s,rfl,_⟩
 .rw[show ∀(κ:D->ai),zC .eql (.row 2 l) κ=iC .eql l κ from λ_=>rfl,show ∀ κ:aO->ai,vw (.row 2 l) H 2 κ=κ l from λ_=>rfl];exact lH 2 l h0 (Jy hl) H
 .rw[show ∀(κ:D->ai),zC .eql .nilrow κ=κ .abool from λ_=>rfl,show ∀ κ:aO->ai,vw .nilrow H 2 κ=κ [] from λ_=>rfl,brD,wT,d,agC rfl,dD,afq];rfl
 .have i:∀ κ:aO->ai,vw (.buf 2 o l.length) H 2 κ=κ l:=λκ=>by rw[show vw (.buf 2 o l.length) H 2 κ=dl H o l.length λ_ _ _ l=>κ l from rfl,cD hb]
  rw[i];cases l with
  |nil=>rw[show ∀(κ:D->ai),zC .eql (.buf 2 o ([]:aO).length) κ=κ .abool from λ_=>rfl,brD,wT,d,agC rfl,dD,afq];rfl
  |cons y r =>rw[show ∀(κ:D->ai),zC .eql (.buf 2 o (y::r).length) κ=κ (.bool false)from λ_=>rfl,ax,SE,lL (Jy hl)];rfl
 .exact absurd rfl (g _ _ _ _)
theorem aeV{rs:List Re}{x:D}(j:bw H 2 (rs.map im) x)(u:∀ sz o s k,x≠.tb sz o s k)(hl:rs.length<4194304)(r:Re) :
 ∃ g H1 d H2,aq 46 [x] H=ret g H1/\(∀ κ:D->DH->ai,bX (aF ab 26) 2 g [[.bool r.c,.i r.n]] H1 κ=κ d H2)/\ci H.length H H1/\ci H.length H H2/\bw H2 2 ((rs++[r]).map im) d/\(∀ sz o s k,d≠.tb sz o s k)/\∀ κ:List D->ai,ah 1 d κ=κ [d]:=by
 have hl':(rs.map im).length<4194304:=by rw[abe];exact hl
 have v:=aaD j u (by omega);have hA:qV (H++dD 2 (rs.map im)) H.length 2 (rs.map im) (bP 2 H.length (rs.map im)):=by
  cases rs with
  |nil=>exact .inl ⟨rfl,rfl⟩
  |cons y t=>exact .inr ⟨H.length,rfl,aaW _,aZ H _⟩
 obtain⟨d,H2,hp,f,k⟩:=hA.put (ok:=aF ab 26) (by simp) (Jy (by omega)) (Jy (by omega)) [.bool r.c,.i r.n];refine⟨_,_,d,H2,v,hp,ci.app _ _,(ci.app _ _).trans k,by rw[afj];exact f.is,λsz o s k q=>?_,f.c1⟩;rcases f with⟨h,_⟩|⟨o,h,_⟩<;>rw[h]at q<;>cases q
variable{b o n e:Nat}{tl:List D}{H H1:DH}{m:Mc}{s:Nat}{a5 a6 a7 a9:D}{R5 R6:aO}{G:Pg}
theorem SM.cell(h:SM b o tl H m){i s:Nat}{c x:List D}{s':Nat}(hi:H[i]? = some (.cells s c))(d:i≠o):SM b o tl (H.set i (.cells s' x)) m:=by obtain⟨s0,a5,a6,a7,a9,R5,R6,h⟩:=h;have k:Mv (λ_=>False) b i H (H.set i (.cells s' x)):=Mv.set _ hi rfl;exact⟨s0,a5,a6,a7,a9,R5,R6,k.cells h.c (aks d),h.bo,by rw[afy];exact h.bh,h.f.mv k id,h.fr.mv k id,h.k.mv k id,h.ce.mv k id,h.t.mv k id,h.u.mv k id,h.ap,h.nt⟩
theorem aik(d:Nat)(X:DH):aB (.call 48 [.ptr d 0] (some .returning)) X=some ⟨.ret (.tuple []),some .returning,X⟩:=ev (aee) rfl
theorem ail(d s:Nat)(z:D)(k:Int){X:DH}(h:X[d]? = some (.cells s [z])):aB (.call 48 [.ptr d 0] (some (.panicking [⟨oo k,false⟩]))) X=some ⟨.ret (.tuple []),some (.panicking [⟨oo k,true⟩]),X.set d (.cells (s+1) [.i k])⟩:=by refine ev (aef) ?_;rw[show ∀ κ:D->ai,jI ab (oo k) 134 true κ=κ (.tuple [.agg [.i k],.bool true])by intro κ;kernel_rfl];simp only[dB,aj,au,ax,ge,show ∀(x:D) (κ:List D->ai),ah 1 (.agg [x]) κ=κ [x] from λ_ _=>rfl,show ∀(x y:D) (κ:List D->ai),aw [x] 0 [y] κ=κ [y] from λ_ _ _=>rfl,mD,ac h]
theorem Sf(d s:Nat)(z:D)(k:Int){X:DH}(h:X[d]? = some (.cells s [z])) :
 (am X d λb c=>aw c 0 [.i k] λc=>iH (aB (.call 48 [.ptr d 0] (some .returning)) (X.set d (.cells (b+1) c))) (λa=>am a d λ_ b=>af b 0 λb=>ret b a) λa H=>some ⟨.pan a,none,H⟩)=ret (.i k) (X.set d (.cells (s+1) [.i k])):=by
 rw[ac h,show ∀(x y:D) (κ:List D->ai),aw [x] 0 [y] κ=κ [y] from λ_ _ _=>rfl,aik,iH];simp only[ac (aT _ h),aj]
theorem adQ(d s:Nat)(z:D)(k:Int){X:DH}(h:X[d]? = some (.cells s [z])) :
 iH (aB (.call 48 [.ptr d 0] (some (.panicking [⟨oo k,false⟩]))) X) (λa=>am a d λ_ b=>af b 0 λb=>ret b a) (λa H=>some ⟨.pan a,none,H⟩)=ret (.i k) (X.set d (.cells (s+1) [.i k])):=by
 rw[ail d s z k h,iH];simp only[EH,ac (aT _ h),aj]
theorem aar{α:Type}(x:α):HQ (.ok x:Except Int α)=0:=rfl
def jL(b o:Nat)(tl:List D)(A:DH)(w:ai)(r:Except Int Mc):Prop:=∃ H',w=ret (.i (HQ r)) H'/\(∀ d,r=.ok d->SM b o tl H' d)/\Mv S3 b o A H'
theorem ER{A X:DH}{d s s':Nat}{z:D}{x:List D}(k:Mv S3 b o A X)(hA:A[d]? = some (.cells s [z]))(h0:d≠o)(hl:H.length=d)(g:Mv S3 b o H A):Mv S3 b o H (X.set d (.cells s' x)):=by have f:Mv S3 b o H X:=g.trans k;refine⟨by rw[afy];exact f.1,λi y hi hc=>?_⟩;rw[afA (by have:=bu hi;omega)];exact f.2 i y hi hc
theorem xZ{A:DH}{w:ai}{r:Except Int Mc}{s:Nat}{z:D}(f:Did b o tl A w r)(hA:A[H.length]? = some (.cells s [z]))(h0:H.length≠o)(g:Mv S3 b o H A) :
 jL b o tl H (aU w (λ_ a=>am a H.length λb c=>aw c 0 [.i 0] λc=>iH (aB (.call 48 [.ptr H.length 0] (some .returning)) (a.set H.length (.cells (b+1) c))) (λa=>am a H.length λ_ b=>af b 0 λb=>ret b a) λa H=>some ⟨.pan a,none,H⟩)
  (λa b=>iH (aB (.call 48 [.ptr H.length 0] (some (.panicking a))) b) (λa=>am a H.length λ_ b=>af b 0 λb=>ret b a) λa H=>some ⟨.pan a,none,H⟩)) r:=by
 cases r with
 |ok m' =>obtain⟨H',rfl,j,k⟩:=f;have d:=k.cells hA h0;exact⟨_,Sf _ _ _ 0 d,λm'' q=>(by cases q;exact j.cell d h0),ER k hA h0 rfl g⟩
 |error t =>obtain⟨H',rfl,k⟩:=f;have d:=k.cells hA h0;exact⟨_,adQ _ _ _ t d,λm'' q=>(by cases q),ER k hA h0 rfl g⟩
theorem MI{A X:DH}{d:Mc}{s:Nat}{z:D}(g:SM b o tl X d)(k:Mv S3 b o A X)(hA:A[H.length]? = some (.cells s [z]))(h0:H.length≠o)(j:Mv S3 b o H A) :
 jL b o tl H (am X H.length λb c=>aw c 0 [.i 0] λc=>iH (aB (.call 48 [.ptr H.length 0] (some .returning)) (X.set H.length (.cells (b+1) c))) (λa=>am a H.length λ_ b=>af b 0 λb=>ret b a) λa H=>some ⟨.pan a,none,H⟩) (.ok d):=by
 have f:=k.cells hA h0;exact⟨_,Sf _ _ _ 0 f,λm'' q=>(by cases q;exact g.cell f h0),ER k hA h0 rfl j⟩
theorem MJ{A:DH}(k:Int){s:Nat}{z:D}(hA:A[H.length]? = some (.cells s [z]))(h0:H.length≠o)(d:Mv S3 b o H A) :
 jL b o tl H (am A H.length λb c=>aw c 0 [.i k] λc=>iH (aB (.call 48 [.ptr H.length 0] (some .returning)) (A.set H.length (.cells (b+1) c))) (λa=>am a H.length λ_ b=>af b 0 λb=>ret b a) λa H=>some ⟨.pan a,none,H⟩) (.error k):=
 ⟨_,Sf _ _ _ k hA,λm'' q=>(by cases q),ER (Mv.refl) hA h0 rfl d⟩
def evF(k:Int):Nat:=if k=1 then 37 else if k=2 then 38 else if k=5 then 39 else if k=7 then 40 else 41
def VB:List (D×D):=[(.i 1,.func 37 [] []),(.i 2,.func 38 [] []),(.i 5,.func 39 [] []),(.i 7,.func 40 [] []),(.i 3,.func 41 [] []),(.i 4,.func 41 [] []),(.i 6,.func 41 [] []),(.i 8,.func 41 [] []),(.i 9,.func 41 [] [])]
def Zx(k:Int):Prop:=k=1\/k=2\/k=3\/k=4\/k=5\/k=6\/k=7\/k=8\/k=9
theorem UR(h:H[e]? = some (.map VB)){k:Int}(hk:Zx k)(κ:D->ai):ip ab 83 (.map e) (.i k) false H κ=κ (.func (evF k) [] []):=by
 have d:ip ab 83 (.map e) (.i k) false H κ=ig H e λes=>py (.i k) es λr=>iE ab 125 false r κ:=by kernel_rfl
 rw[d,fT h];rcases hk with rfl|rfl|rfl|rfl|rfl|rfl|rfl|rfl|rfl<;>rfl
theorem agz(k:Int):aQ bV (evF k)=true:=by
 unfold evF;split
 .kernel_rfl
 split
 .kernel_rfl
 split
 .kernel_rfl
 split
 .kernel_rfl
 .kernel_rfl
def evS(l:List De)(m:Mc)(y:Nd):Except Int Mc :=
 bif y.e.k==1 then .ok (bk ⟨false,y.e.m⟩ m)
 else bif y.e.k==2 then match Fj l m y.e.n with
  |(true,r)=>.ok (bk r m)
  |(false,_)=>.error 61
 else bif y.e.k==5 then .ok (bk ⟨true,m.ce.length⟩ (pt ⟨2,y.e.a,(mI y).getD 0 0,[],m.en⟩ m))
 else bif y.e.k==7 then .ok (et ((mI y).getD 1 0:Nat) m.ce.length (pt ⟨2,y.e.a,(mI y).getD 0 0,[],m.ce.length⟩ (bd y.e.n ⟨true,(m.ce.length+1:Nat)⟩ m.en m)))
 else match mI y with
  |[]=>.ok (bk ⟨true,m.ce.length⟩ (pt ⟨1,y.e.n,0,[],-1⟩ m))
  |a::_=>.ok (et (a:Nat) m.en (pf ⟨m.ex,m.en,[]⟩ m))
theorem tG:∀(l:List Ex) (n:Nat),(xh n l).length=l.length
 |[],_=>rfl
 |x::r,n=>by rw[xh,aeg,aeg,tG r]
theorem VA{e:Ex}(h:fw bY e=true):vp bY e.k e.n e.a e.xs.length e.ps.length=true:=by obtain⟨k,m,n,a,xs,ps⟩:=e;simp only[fw,aaV]at h;exact h.2.2.2
theorem ya{e:Ex}(h:fw bY e=true):Zx e.k/\(e.k=5->e.xs.length=1)/\(e.k=7->e.xs.length=2)/\(e.k=6->e.xs.length=2)/\(e.k=8->e.xs.length=e.ps.length+1)/\(e.k=4\/e.k=9->e.xs.length=2):=by
 have h:=VA h;unfold vp at h;unfold Zx;by_cases d:e.k=1
 .simp[d]
 by_cases f:e.k=2
 .simp[f]
 by_cases g:e.k=3
 .simp[g]
 by_cases i:e.k=4
 .simp[i]at h ⊢;omega
 by_cases j:e.k=5
 .simp[j]at h ⊢;omega
 by_cases t:e.k=6
 .simp[t]at h ⊢;omega
 by_cases u:e.k=7
 .simp[u]at h ⊢;omega
 by_cases v:e.k=8
 .simp[v]at h ⊢;omega
 by_cases w:e.k=9
 .simp[w]at h ⊢;omega
 simp[d,f,g,i,j,t,u,v,w]at h
theorem aer(h:SM b o (ux n e) H m){l:List De}(A:dF H n (bF l))(u:Lb l m)(y:Nd){i:Nat}(hy:(bF l).ns[i]? = some y)(hc:m.ce.length<=1048577)(hfr:m.fr.length<=1048577) :
 Did b o (ux n e) H (aq (evF y.e.k) [.ptr o 0,.agg (jw y)] H) (evS l m y):=by
 obtain⟨B,q2,E⟩:=Mi u.z hy;obtain⟨k0,F,v,_⟩:=ya E;have g:(mI y).length=y.e.xs.length:=by rw[B,tG]
 unfold evS evF;by_cases d:y.e.k=1
 .rw[agC d,show(y.e.k==1)=true by rw[d];rfl,ge];exact aij h y
 by_cases f:y.e.k=2
 .rw[afp d,agC f,show(y.e.k==1)=false by simpa using d,show(y.e.k==2)=true by rw[f];rfl,ge,SE];exact aii h u A y
 by_cases j:y.e.k=5
 .rw[afp d,afp f,agC j,show(y.e.k==1)=false by simpa using d,show(y.e.k==2)=false by simpa using f,show(y.e.k==5)=true by rw[j];rfl];exact aih h y (qK (by rw[g,F j];omega)) (by omega)
 by_cases t:y.e.k=7
 .rw[afp d,afp f,afp j,agC t,show(y.e.k==1)=false by simpa using d,show(y.e.k==2)=false by simpa using f,show(y.e.k==5)=false by simpa using j,show(y.e.k==7)=true by rw[t];rfl];exact aig h y (qK (by rw[g,v t];omega)) (qK (by rw[g,v t];omega)) (by omega)
 rw[afp d,afp f,afp j,afp t,show(y.e.k==1)=false by simpa using d,show(y.e.k==2)=false by simpa using f,show(y.e.k==5)=false by simpa using j,show(y.e.k==7)=false by simpa using t];obtain⟨I,J⟩:=aif h y (by omega) (by omega);simp only[SE];cases w:mI y with
 |nil=>exact I w
 |cons a r=>exact J a (by rw[w];rfl)
end
section
def baS(y:Nd)(f:Fm)(m:Mc):Except Int Mc :=
 bif y.e.k==6 then .ok (et ((mI y).getD 1 0:Nat) m.ce.length (bd y.e.n ⟨m.vc,m.vn⟩ f.en m))
 else bif y.e.k==8 then aaP f y m
 else bif decide (((f.dn.length+1:Nat):Int)<((mI y).length:Int))then .ok (et ((mI y).getD (f.dn.length+1) 0:Nat) f.en (pf ⟨f.ex,f.en,f.dn++[⟨m.vc,m.vn⟩]⟩ m))
 else Sh ⟨f.ex,f.en,f.dn++[⟨m.vc,m.vn⟩]⟩ y m
def mc(l:List De)(m:Mc):Except Int Mc :=
 bif m.mo==3 then .error 3
 else bif m.mo==1 then bif m.st==200000 then .error 4 else match(bF l).ns[m.ex.toNat]? with
  |none=>.error 1
  |some y=>evS l { m with st:=m.st+1 } y
 else match m.fr.reverse with
  |[]=>enM (bF l) m
  |f::r=>match(bF l).ns[f.ex.toNat]? with
   |none=>.error 1
   |some y=>baS y f { m with fr:=r.reverse }
theorem jL.of{b o:Nat}{tl:List D}{A:DH}{w w':ai}{r:Except Int Mc}(h:w=w')(k:jL b o tl A w' r):jL b o tl A w r:=h▸k
theorem Zp(p c:Nat)(H:DH)(κ:D->ai):bW ab 87 (.ptr p c) H κ=am H p λ_ cs=>af cs c κ:=by kernel_rfl
theorem w78:ab.underlying 87=some (.slice 93):=by kernel_rfl
theorem s88:size ab 93=some 11:=by kernel_rfl
theorem aeK(y:Nd)(κ:D->ai):br ab 93 (jw y) 0 κ=κ (.agg (jw y)):=by rw[dP];exact acW _ _ _ _ _ _ _ _ _ _ _ _
theorem aeP(a b c:D)(κ:D->ai):br ab 39 [a,b,c] 0 κ=κ (.agg [a,b,c]):=by kernel_rfl
theorem dF.nsI{H:DH}{n:Nat}{G:Pg}(h:dF H n G):bw H 11 (G.ns.map jw) (.buf 11 (n+1) G.ns.length):=.inr (.inr (.inl ⟨n+1,true,false,by rw[abe],h.ns⟩))
structure Pe(l:List De)(m:Mc):Prop where
 z:cL bY l=0
 s:gq m (bF l)=true
 co:CC m
 mo:IS m
section
variable{l:List De}{m:Mc}(h:Pe l m)
include h
theorem Pe.mode:oz m (bF l).ns.length (bF l).rs.length=true:=by have:=h.s;unfold gq sI at this;simp only[aaV]at this;exact this.2.2.2.2.1
theorem Pe.st0:0<=m.st/\m.st<=200000:=by have:=h.s;unfold gq at this;simp only[aaV,ajG]at this;exact⟨this.2.1,this.2.2.1⟩
theorem Pe.frs:∀ f∈m.fr,nO m ((bF l).ns.map (·.e)) f=true:=by have:=h.s;unfold gq sI at this;simp only[aaV,afx]at this;exact this.2.2.2.2.2.2
theorem Pe.refs:su m:=by have:=h.s;unfold gq at this;simp only[aaV]at this;intro i c hc hk r hr;have:=vD m _ m.ce 0 this.2.2.2.1 i c hc;rw[adO,ui,hk]at this;simp only[akg,ge,aaV,afx]at this;exact this.2.2.2.2 r hr
theorem Pe.back(d:m.mo=2):dA m ⟨m.vc,m.vn⟩ m.ce.length=true/\∃ k:Nat,m.bo=k/\k<(bF l).rs.length:=by have:=h.mode;unfold oz at this;simp only[d,show((2:Int)==1)=false from rfl,show((2:Int)==2)=true from rfl,ge,SE,aaV,ajG]at this;exact⟨this.2.2.1,m.bo.toNat,by omega,by omega⟩
theorem Pe.frame{f:Fm}(z:f∈m.fr):∃(i:Nat) (y:Nd),f.ex=i/\(bF l).ns[i]? = some y/\(∀ r∈f.dn,ia m.ce.length r)/\((y.e.k=6\/y.e.k=8)/\f.dn.length=0\/(y.e.k=3\/y.e.k=9\/y.e.k=4)/\f.dn.length<y.e.xs.length):=by
 have hb:=h.frs f z;obtain⟨_,hr⟩:=tO hb;rw[nO]at hb;cases g:decide (f.ex<0)with
 |true=>rw[g]at hb;cases hb
 |false =>
  have h0:=akd g;rw[g,SE,afd]at hb;cases hy:(bF l).ns[f.ex.toNat]? with
  |none=>rw[hy]at hb;cases hb
  |some y =>
   rw[hy]at hb;simp only[aiB,aaV]at hb;refine⟨f.ex.toNat,y,by omega,hy,hr,?_⟩;have d:=hb.2.2;obtain⟨⟨k,mm,nm,a,xs,ps⟩,_⟩:=y;simp only[Sr]at d;simp only[Ex.k,Ex.xs];by_cases j:k=6
   .simp[j]at d;exact .inl ⟨.inl j,by rw[d];rfl⟩
   by_cases t:k=8
   .simp[t]at d;exact .inl ⟨.inr t,by rw[d];rfl⟩
   by_cases u:k=3
   .simp[u]at d;exact .inr ⟨.inl u,by omega⟩
   by_cases v:k=4
   .simp[v]at d;exact .inr ⟨.inr (.inr v),by omega⟩
   by_cases w:k=9
   .simp[w]at d;exact .inr ⟨.inr (.inl w),by omega⟩
   simp[j,t,u,v,w]at d
theorem Pe.modes:m.mo=1\/m.mo=2\/m.mo=3:=by
 have:=h.mode;unfold oz at this;by_cases d:m.mo=1
 .exact .inl d
 by_cases f:m.mo=2
 .exact .inr (.inl f)
 by_cases g:m.mo=3
 .exact .inr (.inr g)
 simp[d,f,g]at this
end
theorem Wb{H:DH}{x:Nd}{i v:Nat}(h:(mI x)[i]? = some v)(r:List DH)(κ:D->ai):(ay ab 40 (XQ x.ar) (.i i) λa=>Kf ab 3 a H r κ)=κ (.i v):=by
 cases d:x.ar with
 |none=>rw[mI,d]at h;cases h
 |some l =>
  rw[mI,d]at h;have hi:(nC l)[i]? = some [.i (v:Nat)]:=by rw[nC,afd];show Option.map _ l[i]? = _;rw[show l[i]? = some v from h];rfl
  have f:∀(l:aO) (κ:D->ai),ay ab 40 (.row 1 l) (.i i) κ=bZ l i λcs=>κ (.eptr cs 0):=by intros;kernel_rfl
  rw[XQ,f,aD hi];exact(show Kf ab 3 (.eptr [.i (v:Nat)] 0) H r κ=κ (.i v)by kernel_rfl)
variable{b o n e:Nat}{tl:List D}{H:DH}{m:Mc}
theorem Yq(h:SM b o (ux n e) H m){l:List De}(hh:Pe l m)(hP:dF H n (bF l))(ho:∀ x∈l,x.ok)(hE:H[e]? = some (.map VB))(hb:n+5<b):jL b o (ux n e) H (aq 22 [.ptr o 0] H) (mc l m):=by
 have kk0:ci H.length H (H++[.cells 0 [.i 0]]):=ci.app _ _;have M:Mv S3 b o H (H++[.cells 0 [.i 0]]):=kk0.mv;have hA:(H++[DB.cells 0 [.i 0]])[H.length]? = some (.cells 0 [.i 0]):=aZ _ _;have h0:H.length≠o:=by obtain⟨s,a5,a6,a7,a9,R5,R6,h⟩:=h;have:=bu h.c;omega
 have t:=h.keep kk0;have E:=hP.app [.cells 0 [.i 0]];have N:=eV [DB.cells 0 [.i 0]] hE;obtain⟨g1,g2⟩:=hh.st0;have hce:=hh.co.ce;have O:=hh.co.fr;have pg:=LU l ho hh.z;obtain⟨ik,_,_⟩:=GF hh.mo hh.s;have hk:∀ c∈m.ce,∀ r∈c.refs,ia m.ce.length r:=λc hc=>(ik.ces c hc).2.1;refine jL.of (ev (f22) rfl) ?_;dsimp only;generalize hAA:H++[DB.cells 0 [.i 0]]=A at kk0 M hA t E N ⊢;obtain⟨s,a5,a6,a7,a9,R5,R6,t⟩:=t;simp only[ac t.c,eW,aj,au,ba,ax];rcases hh.modes with h1|h2|h3
 .have Q:(m.mo==3)=false:=by rw[h1];rfl
  have m1:(m.mo==1)=true:=by rw[h1];rfl
  rw[mc];simp only[Q,m1,ge,SE];cases hst:m.st==200000 with
  |true=>simp only[ge];exact MJ 4 hA h0 M
  |false =>
   have hst':m.st≠200000:=by simpa using hst
   have u:=(ZI hh.z hh.s h1).sc (m.st+1);obtain⟨i,hi⟩:=aiV u.x.1;have J:i<(bF l).ns.length:=by have:=u.x.2;simp only at hi this;omega
   have hy:(bF l).ns[i]? = some (bF l).ns[i]:=abg J;generalize(bF l).ns[i]=y at hy;simp only at hi;obtain⟨d,B⟩:=t.sc (s+1) { m with st:=m.st+1 } rfl rfl rfl rfl;have g:=E.mv B hb t.bo;obtain⟨st,K⟩:=g.o;have hE1:=B.2 e _ N (by simp[chg]);have j:=B.cells hA h0;have F:=aer ⟨_,_,_,_,_,_,_,d⟩ g u y hy (by simp only;omega) (by simp only;omega);obtain⟨q1,q2,q3⟩:=Mi hh.z hy;obtain⟨k0,_⟩:=ya q3;rw[show m.ex.toNat=i by omega,hy];rw[dP]at F;have hw:di (m.st+1)=m.st+1:=mM (by omega) (by omega);simp only[SE,bJ,hw,mD,agl];have ee:A.set o (.cells (s+1) [.i m.mo,.i m.ex,.i m.en,.bool m.vc,.i m.vn,a5,a6,a7,.i m.bo,a9,.i (m.st+1),.ptr (n+5) 0,.map e])=A.set o (.cells (s+1) (eW { m with st:=m.st+1 } a5 a6 a7 a9 (ux n e))):=rfl;rw[ee];generalize A.set o (.cells (s+1) (eW { m with st:=m.st+1 } a5 a6 a7 a9 (ux n e)))=A1 at *;simp only[ac d.c,eW,aj,au,mB,oA,adO,Zp,ac K,hi];rw[dO g.nsI w78 s88 (iN jw hy),aeK,dP];simp only[aaJ,YS,aj,au];rw[UR hE1 k0,dX (agz _)];simp only[afn,afq];have U:=xZ F j h0 (M.trans (B.up λ_ q=>q.elim));rw[hi]at U;exact U
 .have Q:(m.mo==3)=false:=by rw[h2];rfl
  have m1:(m.mo==1)=false:=by rw[h2];rfl
  obtain⟨hvv,k,hbo,hkl⟩:=hh.back h2;have W:=t.fr.1;rw[mc];simp only[Q,m1,SE];rw[t.f.is.len w38,ba,ax,W];by_cases X:m.fr=[]
  .rw[X];simp only[aiq,List.reverse_nil];exact xZ (aie ⟨_,_,_,_,_,_,_,t⟩ E hb pg.rb hbo hkl (by have:=pg.rs;omega) hh.refs hh.co.refs hvv (by have:=hh.co.to;omega) (by have:=hh.co.ou;omega)) hA h0 M
  .obtain⟨fs,f,u⟩:=Ej X;obtain⟨R,dd,Y,H',rfl,hRl,Z,hntb,hp,hc,hc1,d,B⟩:=t.pop u;obtain⟨i,y,hi,hy,hrin,hkd⟩:=hh.frame (f:=f) (by rw[u];simp);obtain⟨q1,q2,q3⟩:=Mi hh.z hy;obtain⟨k0,k5,k7,k6,k8,k49⟩:=ya q3;have hal:(mI y).length=y.e.xs.length:=by rw[q1,tG]
   have hye:y.e.ok:=pg.ns y (aeE hy);have hdn:=hh.co.dn f (by rw[u];simp);have hfs:fs.length<=1048576:=by rw[u,aaY]at O;omega
   have hw:di (((R++[[D.i f.ex,.i f.en,dd]]).length:Int) - 1)=(R.length:Int):=by rw[aaY,abc];exact Jg (by omega)
   have hat:(R++[[D.i f.ex,.i f.en,dd]])[R.length]? = some [.i f.ex,.i f.en,dd]:=by simp
   rw[show((m.fr.length:Int)==0)=false by rw[u];simp;omega,SE];simp only[t.f.is.len w38,qH,hw];rw[dO t.f.is w38 afN hat];simp only[aeP,qP,LZ];rw[hp];simp only[hc,ac hc1,eW,on5];have ee:H'.set o (.cells (s+1) [.i m.mo,.i m.ex,.i m.en,.bool m.vc,.i m.vn,Y,a6,a7,.i m.bo,a9,.i m.st,.ptr (n+5) 0,.map e])=H'.set o (.cells (s+1) (eW { m with fr:=fs } Y a6 a7 a9 (ux n e))):=rfl;rw[ee];have g:=E.mv B hb t.bo;have j:=B.cells hA h0;have hrow1:=Z.mv B (by decide);generalize H'.set o (.cells (s+1) (eW { m with fr:=fs } Y a6 a7 a9 (ux n e)))=A1 at d B g j hrow1 ⊢;have kk1:Mv S3 b o H A1:=M.trans (B.up s33);obtain⟨st,K⟩:=g.o;have hS1:SM b o (ux n e) A1 { m with fr:=fs }:=⟨_,_,_,_,_,_,_,d⟩;simp only[ac d.c,eW,aj,au,mB,oA,adO,Zp,ac K,hi];rw[dO g.nsI w78 s88 (iN jw hy),aeK,dP];simp only[aaJ,YS,aj,au,ba,ax];rw[u,List.reverse_append,ajN,afL];simp only[List.reverse_reverse,show f.ex.toNat=i by omega,hy,baS];by_cases c6:y.e.k=6
   .have e6:(y.e.k==6)=true:=by rw[c6];rfl
    simp only[e6,ge];obtain⟨X1,b1,b2,b3⟩:=FY hS1 y.e.n ⟨m.vc,m.vn⟩ f.en (by simp only;omega);obtain⟨X2,b4,b5,b6⟩:=nV b2 ((mI y).getD 1 0:Nat) m.ce.length (S:=S3);refine jL.of (aG b1) ?_;refine jL.of (Wb (i:=1) (qK (by rw[hal,k6 c6];omega)) _ _) ?_;refine jL.of (aG b4) ?_;exact MI b5 ((b3.up Yy).trans b6) j h0 kk1
   .have e6:(y.e.k==6)=false:=by simpa using c6
    simp only[e6,SE];by_cases c8:y.e.k=8
    .have e8:(y.e.k==8)=true:=by rw[c8];rfl
     simp only[e8,ge];have F:=aid hS1 f dd y hye q2 (by rw[hal,k8 c8]) hk ik.v (by simp only;omega);rw[dP,hi]at F;exact xZ F j h0 kk1
    .have e8:(y.e.k==8)=false:=by simpa using c8
     simp only[e8,SE];have I:=hkd.resolve_left λq=>by rcases q.1 with q|q<;>contradiction
     obtain⟨d1,X1,d2,X2,j1,j2,j3,j4,j5,j6,j7⟩:=aeV hrow1 hntb (by omega) ⟨m.vc,m.vn⟩;refine jL.of (aG j1) ?_;have hcm:(cK X1 [A1])[o]? = some (.cells (s+1) (eW { m with fr:=fs } Y a6 a7 a9 (ux n e))):=by
      have hx:X1[o]? = some (.cells (s+1) (eW { m with fr:=fs } Y a6 a7 a9 (ux n e))):=by rw[j3.2 o (bu d.c)];exact d.c
      exact lE hx λz hz=>by rw[ajB.1 hz];exact d.c
     simp only[ac hcm,eW,aj,au];refine jL.of (j2 _) ?_;have L:=d.mv j4;have hA2:X2[H.length]? = some (.cells 0 [.i 0]):=by rw[j4.2 _ (bu j)];exact j
     have kk2:Mv S3 b o H X2:=kk1.trans j4.mv;simp only[j7,show ∀(x y z w:D) (κ:List D->ai),aw [x,y,z] 2 [w] κ=κ [x,y,w] from λ_ _ _ _ _=>rfl,aj,au];rw[j5.len rE,abe,Ga,cE,ax,aaY,abc];by_cases J:f.dn.length+1<(mI y).length
     .rw[abt (show((f.dn.length+1:Nat):Int)<((mI y).length:Int)by omega)];simp only[ge];obtain⟨d3,X3,p1,p2,p3,p4,p5⟩:=L.push ⟨f.ex,f.en,f.dn++[⟨m.vc,m.vn⟩]⟩ j5 j6 (by simp only;omega);simp only[ac L.c,eW,aj,au];rw[hi]at p1;refine jL.of (p1 _) ?_;simp only[p2,ac p3,eW,on5,aj,au];have hx4:=(p5.trans (Mv.refl (H:=_)));rw[j5.ln rE,abe,aaY,abc];refine jL.of (vK (qK J) _) ?_;obtain⟨X5,b4,b5,b6⟩:=nV ⟨_,_,_,_,_,_,_,p4⟩ ((mI y).getD (f.dn.length+1) 0:Nat) f.en (S:=S3);refine jL.of (aG b4) ?_;exact MI b5 (p5.trans b6) hA2 h0 kk2
     .rw[abl (show ¬((f.dn.length+1:Nat):Int)<((mI y).length:Int)by omega)];simp only[SE]
      have F:=aic ⟨_,_,_,_,_,_,_,L⟩ ⟨f.ex,f.en,f.dn++[⟨m.vc,m.vn⟩]⟩ j5 y (λq=>by
       simp only[aaY,abc];have:=k49 q.symm;have:=I.2;omega) (λr hr=>by
       rcases aeS.1 hr with hr|hr
       .exact hrin r hr
       .rw[ajB.1 hr];exact ik.v) (by simp only;omega) I.1
      rw[dP]at F;simp only[hi]at F;exact xZ F hA2 h0 kk2
 .have Q:(m.mo==3)=true:=by rw[h3];rfl
  rw[mc];simp only[Q,ge];exact MJ 3 hA h0 M
end
section
abbrev mcz:Mc:=⟨0,0,0,false,0,[],[],[],0,[],0⟩
theorem UI(H:DH)(es:List (D×D))(κ:List (D×D)->ai):ig (H++[.map es]) H.length κ=κ es:=fT (aZ H _)
theorem PQ(H:DH)(x y:DB):(H++[x]).set H.length y=H++[y]:=by rw[afW _ _ (aaW _),aja];rfl
theorem UD{k v:D}{es es':List (D×D)}(h:Cd k v es=some es')(κ:List (D×D)->ai):fY k v es κ=κ es':=by rw[fY,h]
theorem QC(m:Mc)(a5 a6 a7 a9:D)(n:Nat)(H:DH):aq 20 [.ptr (n+5) 0,.agg (JV m a5 a6 a7 a9)] H=ret (.ptr (H.length+1) 0) (H++[.map VB]++[.cells 0 (eW m a5 a6 a7 a9 (ux n H.length))]):=by
 refine ev (f20) ?_;dsimp only
 iterate 9 rw[UI,UD rfl,PQ]
 simp only[aaY,abc];rfl
theorem EB{α:Type}{mk:α->D->List D}{inn:α->List Re}{fs:List α}{os:List Nat}(hl:os.length=fs.length){i:Nat}{f:α}(h:fs[i]? = some f):∃ o,os[i]? = some o/\(dN mk inn fs os)[i]? = some (mk f (cd o (inn f))):=by have hi:=(abj.1 h).1;have ho:os[i]? = some os[i]:=abg (by omega);exact⟨_,ho,by rw[dN,List.getElem?_zipWith,h,ho]⟩
theorem oX{α:Type}{mk:α->D->List D}{inn:α->List Re}{fs:List α}{os:List Nat}(hl:os.length=fs.length):(dN mk inn fs os).length=fs.length:=by rw[dN,List.length_zipWith,hl,Nat.min_self]
theorem Qv{α:Type}{inn:α->List Re}{H:DH}{b:Nat}{fs:List α}{os:List Nat}(h:vP inn H b fs os){i o:Nat}{f:α}(j:fs[i]? = some f)(ho:os[i]? = some o):bw H 2 ((inn f).map im) (cd o (inn f)):=by
 by_cases d:inn f=[]
 .rw[d];exact .inr (.inl ⟨rfl,rfl⟩)
 .obtain⟨_,hb⟩:=h.own i f o j ho d;refine .inr (.inr (.inl ⟨o,true,false,?_,hb⟩));cases g:(inn f).map im with
  |nil=>exact absurd (List.map_eq_nil_iff.1 g) d
  |cons x r=>rw[cd,g];rfl
theorem oa{α:Type}{sz n:Nat}{f:α->List D}{l:List α}(h:l≠[]):bP sz n (l.map f)=.buf sz n l.length:=by
 cases l with
 |nil=>exact absurd rfl h
 |cons x r=>simp[bP]
theorem abH{m:Mc}{H:DH}{p q r s b:Nat}{os oc:List Nat}(h:afl H m p q r s b os oc){tl:List D}(hb:p<=H.length){H':DH}(k:ci H.length H H'){o:Nat}(ho:p<=o)(hc:H'[o]? = some (.cells 0 (eW m (bP 3 p (m.fr.map gj)) (bP 5 q (m.ce.map gE)) (bP 3 r (m.to.map il)) (bP 4 s (m.ou.map jv)) tl))):SM p o tl H' m:=by
 have up:∀ {i:Nat} {x:DB},H[i]? = some x->H'[i]? = some x:=λ{i x} g=>by rw[k.2 i (bu g)];exact g
 have own:=h.own.keep (H':=H') λo x _ g=>up g;have ownc:=h.ownc.keep (H':=H') λo x _ g=>up g;have pq:=h.pq;have qr:=h.qr;have rs:=h.rs;have cdn:∀(o:Nat) (l:List Re) sz o' s' w,cd o l≠.tb sz o' s' w:=λo l sz o' s' w=>by cases l<;>simp[cd,bP]
 refine⟨0,_,_,_,_,dN IZ Fm.dn m.fr os,dN Mm Ce.refs m.ce oc,hc,ho,acd hb k.1,?_,⟨oX own.len,λi f t=>?_⟩,?_,⟨oX ownc.len,λi c t=>?_⟩,?_,?_,λx kk g=>⟨λl hl=>?_,λz l hl=>?_⟩,λcs y=>?_⟩
 .by_cases d:m.fr=[]
  .rw[d];exact .inl ⟨rfl,rfl⟩
  .exact .inr (.inl ⟨p,by rw[oa d,oX own.len],aaW _,up (h.fr d)⟩)
 .obtain⟨o,v,j⟩:=EB (mk:=IZ) (inn:=Fm.dn) own.len t;exact⟨_,j,Qv own t v⟩
 .by_cases d:m.ce=[]
  .rw[d];exact .inl ⟨rfl,rfl⟩
  .exact .inr ⟨q,by rw[oa d,oX ownc.len],pq.1,up (h.ce d)⟩
 .obtain⟨o,v,j⟩:=EB (mk:=Mm) (inn:=Ce.refs) ownc.len t;exact⟨_,j,Qv ownc t v⟩
 .by_cases d:m.to=[]
  .rw[d];exact .inl ⟨rfl,rfl⟩
  .exact .inr ⟨r,by rw[oa d,abe],by omega,up (h.to d)⟩
 .by_cases d:m.ou=[]
  .rw[d];exact .inl ⟨rfl,rfl⟩
  .exact .inr ⟨s,by rw[oa d,abe],by omega,up (h.ou d)⟩
 .by_cases d:m.fr=[]
  .rw[d]at hl;cases hl
  .by_cases hy:m.to=[]
   .rw[hy]at g;cases g
   .rw[oa d]at hl;rw[oa hy]at g;cases hl;cases g;have:=pq.2 d;omega
 .by_cases d:m.fr=[]
  .rw[d]at hl;cases hl
  .rw[oa d]at hl;cases hl
 .obtain⟨i,hi⟩:=ajC y;have u:=(abj.1 hi).1;rw[oX own.len]at u;obtain⟨o,v,j⟩:=EB (mk:=IZ) (inn:=Fm.dn) own.len (abg u);rw[hi]at j;cases j;intro sz o' s' w hm;simp only[IZ,abn,List.not_mem_nil,or_false]at hm;rcases hm with hm|hm|hm
  .cases hm
  .cases hm
  .exact cdn _ _ _ _ _ _ hm.symm
theorem SM.mcIs{b o:Nat}{tl:List D}{H:DH}{m:Mc}(h:SM b o tl H m):∃ s a5 a6 a7 a9,H[o]? = some (.cells s (eW m a5 a6 a7 a9 tl))/\afh H m a5 a6 a7 a9:=by obtain⟨s,a5,a6,a7,a9,R5,R6,h⟩:=h;exact⟨s,a5,a6,a7,a9,h.c,⟨_,h.f.is,h.fr⟩,⟨_,h.k.is,h.ce⟩,h.t.is,h.u.is⟩
theorem agr(p:Nat)(x0 x1 x2 x3 x4 x5 x6 x7 x8 x9 xt xp xe:D)(s:Nat){H:DH}(h:H[p]? = some (.cells s [x0,x1,x2,x3,x4,x5,x6,x7,x8,x9,xt,xp,xe]))(κ:D->ai):bW ab 32 (.ptr p 0) H κ=κ (.agg [x0,x1,x2,x3,x4,x5,x6,x7,x8,x9,xt]):=by
 have e:bW ab 32 (.ptr p 0) H κ=am H p λ_ cs=>br ab 32 cs 0 κ:=by kernel_rfl
 have d:br ab 32 [x0,x1,x2,x3,x4,x5,x6,x7,x8,x9,xt,xp,xe] 0 κ=κ (.agg [x0,x1,x2,x3,x4,x5,x6,x7,x8,x9,xt]):=by kernel_rfl
 rw[e,ac h,d]
theorem Iu(a b c d e f g h i j k:D)(κ:List D->ai):ah 11 (.agg [a,b,c,d,e,f,g,h,i,j,k]) κ=κ [a,b,c,d,e,f,g,h,i,j,k]:=rfl
theorem GX(t u v w y z A B E F zt a b c d e f g h i j k:D)(κ:List D->ai):aw [t,u,v,w,y,z,A,B,E,F,zt] 0 [a,b,c,d,e,f,g,h,i,j,k] κ=κ [a,b,c,d,e,f,g,h,i,j,k]:=rfl
theorem Yr{l:List De}{m:Mc}(hh:Pe l m)(ho:∀ x∈l,x.ok)(H X:DH)(y:aq 19 [.agg [.row 14 (l.map ed)],.agg (fv m)] H=ret (.tuple [.ptr (H.length+5) 0,.i 0]) (H++X))(J:dF (H++X) H.length (bF l)) :
 ∃ H',match mc l m with
  |.ok u=>∃ K L M N,aq 7 [.agg [.row 14 (l.map ed)],.agg (fv m)] H=ret (.tuple [.agg (JV u K L M N),.i 0]) H'/\afh H' u K L M N
  |.error k=>(k≠0->aq 7 [.agg [.row 14 (l.map ed)],.agg (fv m)] H=ret (.tuple [.agg (JV mcz .nilrow .nilrow .nilrow .nilrow),.i k]) H'):=by
 obtain⟨q,r,s,b,os,oc,H1,e39,z,cp⟩:=Sx m hh.co (H++X);have e38:=QC m (bP 3 (H++X).length (m.fr.map gj)) (bP 5 q (m.ce.map gE)) (bP 3 r (m.to.map il)) (bP 4 s (m.ou.map jv)) H.length H1;obtain⟨st,A⟩:=J.o;have t:=bu A;have O:ci H1.length H1 (H1++[.map VB]++[.cells 0 (eW m (bP 3 (H++X).length (m.fr.map gj)) (bP 5 q (m.ce.map gE)) (bP 3 r (m.to.map il)) (bP 4 s (m.ou.map jv)) (ux H.length H1.length))]):=by rw[aft];exact ci.app _ _
 have hc:(H1++[.map VB]++[DB.cells 0 (eW m (bP 3 (H++X).length (m.fr.map gj)) (bP 5 q (m.ce.map gE)) (bP 3 r (m.to.map il)) (bP 4 s (m.ou.map jv)) (ux H.length H1.length))])[H1.length+1]? = some (.cells 0 (eW m (bP 3 (H++X).length (m.fr.map gj)) (bP 5 q (m.ce.map gE)) (bP 3 r (m.to.map il)) (bP 4 s (m.ou.map jv)) (ux H.length H1.length))):=by simp
 have Q:(H1++[.map VB]++[DB.cells 0 (eW m (bP 3 (H++X).length (m.fr.map gj)) (bP 5 q (m.ce.map gE)) (bP 3 r (m.to.map il)) (bP 4 s (m.ou.map jv)) (ux H.length H1.length))])[H1.length]? = some (.map VB):=by simp
 have B:dF (H1++[.map VB]++[DB.cells 0 (eW m (bP 3 (H++X).length (m.fr.map gj)) (bP 5 q (m.ce.map gE)) (bP 3 r (m.to.map il)) (bP 4 s (m.ou.map jv)) (ux H.length H1.length))]) H.length (bF l) :=
  (J.mv (S:=λ_=>False) (b:=(H++X).length) (o:=(H++X).length) z.mv t (aaW _)).mv (S:=λ_=>False) (b:=(H++X).length) (o:=(H++X).length) O.mv t (aaW _)
 have E:SM (H++X).length (H1.length+1) (ux H.length H1.length) _ m:=abH cp z.1 O (acd z.1 (Nat.le_succ _)) hc;obtain⟨v,R,U,g3⟩:=Yq E hh B ho Q t;generalize H1++[.map VB]++[DB.cells 0 (eW m (bP 3 (H++X).length (m.fr.map gj)) (bP 5 q (m.ce.map gE)) (bP 3 r (m.to.map il)) (bP 4 s (m.ou.map jv)) (ux H.length H1.length))]=H2 at *;refine⟨v,?_⟩
 have w:aq 7 [.agg [.row 14 (l.map ed)],.agg (fv m)] H=bif HQ (mc l m) != 0 then ret (.tuple [.agg (JV mcz .nilrow .nilrow .nilrow .nilrow),.i (HQ (mc l m))]) v else
  bW ab 32 (.ptr (H1.length+1) 0) v λa=>ah 11 a λa=>aw [.i 0,.i 0,.i 0,.bool false,.i 0,.nilrow,.nilrow,.nilrow,.i 0,.nilrow,.i 0] 0 a λa=>af a 0 λb=>af a 1 λc=>af a 2 λd=>af a 3 λe=>af a 4 λf=>af a 5 λg=>af a 6 λh=>af a 7 λi=>af a 8 λj=>af a 9 λk=>af a 10 λa=>ret (.tuple [.agg [b,c,d,e,f,g,h,i,j,k,a],.i 0]) v:=by
  refine ev (f7) ?_;rw[av y];simp only[dB,aj,au];rw[bE,ax,agk,SE,av e39,av e38,av R,bE,ax];rfl
 rw[w];cases hst:mc l m with
 |error k =>
  intro hk;have F:(HQ (α:=Mc) (.error k) != 0)=true:=by simp only[HQ,bne_iff_ne];exact hk
  rw[F,ge];rfl
 |ok u =>obtain⟨s',a5,a6,a7,a9,I,hm⟩:=(U u hst).mcIs;refine⟨a5,a6,a7,a9,?_,hm⟩;rw[aar,agk,SE,agr _ _ _ _ _ _ _ _ _ _ _ _ _ _ _ I];simp only[Iu,GX,aj,au];rfl
def rH:Ex->ak->Option Ex
 |e,[]=>some e
 |e,i::p=>match e.xs[i]? with
  |some x=>rH x p
  |none=>none
mutual
theorem YO(d f b:Int):∀(e:Ex) (n:Nat) (p:ak) (y:Nd),y∈kL d f b n p e->y.d=d/\y.f=f/\∃ q,y.p=p++q/\rH e q=some y.e
 |.mk k m nm a xs ps,n,p,y,h=>by
  rw[kL]at h;rcases abn.1 h with rfl|h
  .exact⟨rfl,rfl,[],by simp,rfl⟩
  .obtain⟨g,i,j,q,x,t,u,v⟩:=WM d f b xs (n+1) p 0 y h;refine⟨g,i,j::q,by rw[u,adO],?_⟩;rw[rH];show(match xs[j]? with|some x=>rH x q|none=>none)=_;rw[t];exact v
theorem WM(d f b:Int):∀(l:List Ex) (n:Nat) (p:ak) (i:Nat) (y:Nd),y∈fE d f b n p i l->y.d=d/\y.f=f/\∃ j q x,l[j]? = some x/\y.p=p++(i+j)::q/\rH x q=some y.e
 |[],_,_,_,y,h=>by simp[fE]at h
 |x::r,n,p,i,y,h=>by
  rw[fE]at h;rcases aeS.1 h with h|h
  .obtain⟨g,t,q,u,v⟩:=YO d f b x n (p++[i]) y h;exact⟨g,t,0,q,x,rfl,by rw[u];simp,v⟩
  .obtain⟨g,t,j,q,w,u,v,z⟩:=WM d f b r (n+oK x) p (i+1) y h;exact⟨g,t,j+1,q,w,by simpa using u,by rw[v];congr 2;omega,z⟩
end
theorem WN(i:Nat)(kd:Int):∀(l:List Fu) (k:Nat) (G:Pg) (y:Nd),y∈(G.addFs i kd k l).ns->y∈G.ns\/∃ j u,l[j]? = some u/\y.d=(i:Nat)/\y.f=(k+j:Nat)/\rH u.b y.p=some y.e
 |[],_,_,y,h=>.inl h
 |u::r,k,G,y,h=>by
  rw[Pg.addFs]at h;rcases WN i kd r (k+1) _ y h with h|⟨j,z,g,t,v,w⟩
  .unfold Pg.addF Pg.addB at h;rcases aeS.1 h with h|h
   .exact .inl h
   .obtain⟨g,t,q,v,w⟩:=YO _ _ _ u.b _ [] y h;exact .inr ⟨0,u,rfl,g,by rw[t];simp,by rw[v];exact w⟩
  .exact .inr ⟨j+1,z,by simpa using g,t,by rw[v];congr 1;omega,w⟩
def PlD(d:De)(y:Nd):Prop:=(d.k=3/\∃(j:Nat) (u:Fu),d.fs[j]? = some u/\y.f=j/\rH u.b y.p=some y.e)\/((d.k=4\/d.k=5)/\y.f=0/\rH d.b y.p=some y.e)
theorem WO:∀(l:List De) (i:Nat) (G:Pg) (y:Nd),y∈(G.addDs i l).ns->y∈G.ns\/∃(j:Nat) (d:De),l[j]? = some d/\y.d=(i+j:Nat)/\PlD d y
 |[],_,_,y,h=>.inl h
 |d::r,i,G,y,h=>by
  rw[Pg.addDs]at h;rcases WO r (i+1) _ y h with h|⟨j,w,f,g,t⟩
  .unfold Pg.addD at h;split at h
   .rename_i hk;rcases WN i 3 d.fs 0 G y h with h|⟨j,u,f,g,t,v⟩
    .exact .inl h
    .exact .inr ⟨0,d,rfl,by rw[g];simp,.inl ⟨hk,j,u,f,by rw[t];simp,v⟩⟩
   .split at h
    .rename_i hk;unfold Pg.addR Pg.addB at h;rcases aeS.1 h with h|h
     .exact .inl h
     .obtain⟨f,g,q,t,v⟩:=YO _ _ _ d.b _ [] y h;exact .inr ⟨0,d,rfl,by rw[f];simp,.inr ⟨hk,g,by rw[t];exact v⟩⟩
    .exact .inl h
  .exact .inr ⟨j+1,w,by simpa using f,by rw[g];congr 1;omega,t⟩
theorem abT(l:List De)(y:Nd)(h:y∈(bF l).ns):∃(j:Nat) (d:De),l[j]? = some d/\y.d=j/\PlD d y:=by
 rcases WO l 0 (⟨l,[],[],[],[],[]⟩:Pg) y h with h|⟨j,d,f,g,i⟩
 .simp at h
 .exact⟨j,d,f,by rw[g];simp,i⟩
theorem abF{l:List De}{m g:Mc}(hh:Pe l m)(v:m.mo=2){fs:List Fm}{f:Fm}(w:m.fr=fs++[f])(A:f.dn.length=1){i:Nat}{y:Nd}(hi:f.ex=i)(hy:(bF l).ns[i]? = some y)(j:y.e.k=4)(d:mc l m=.ok g):g.mo=1/\g.fr=fs:=by
 obtain⟨ik,_,_⟩:=GF hh.mo hh.s;obtain⟨B,q2,E⟩:=Mi hh.z hy;obtain⟨_,_,_,_,_,k49⟩:=ya E;have t:(mI y).length=2:=by rw[B,tG,k49 (.inl j)]
 obtain⟨i',y',e1,e2,hr,_⟩:=hh.frame (f:=f) (by rw[w];simp);obtain⟨fx,fe,dn⟩:=f;match dn,A with
 |[r],_ =>
 rw[mc,show(m.mo==3)=false by rw[v];rfl,show(m.mo==1)=false by rw[v];rfl]at d;simp only[SE]at d;rw[w,List.reverse_append,ajN,afL]at d;simp only[show fx.toNat=i by simp only at hi;omega,hy,baS,j,List.reverse_reverse]at d;simp only[show((4:Int)==6)=false from rfl,show((4:Int)==8)=false from rfl,SE,t,abc,show decide (((1+1:Nat):Int)<((2:Nat):Int))=false from rfl,Sh,j,show((4:Int)==3)=false from rfl,afL,show((4:Int)==9)=false from rfl,show((4:Int)==4)=true from rfl,ge]at d;cases hc:r.c with
 |false=>rw[hc]at d;cases d
 |true =>
  rw[hc]at d;obtain⟨g0,g1⟩:=hr r (by simp) hc;have u:r.n.toNat<m.ce.length:=by omega
  rw[abg u]at d;simp only[aep,SE]at d;cases hk:(m.ce[r.n.toNat]).k != 2 with
  |true=>rw[hk]at d;cases d
  |false=>rw[hk]at d;cases d;exact⟨rfl,rfl⟩
theorem f9{R:aM}{a:aO}{b c:Int}{e:aO}{H:DH}:aA R 9 [.agg [.row 14 a],.agg [.i b,.i c,.row 1 e]] H =
 C R 24 [.agg [.row 14 a]] H λd H=>aC ab .neq 34 true d (.i 0) λf=>brD f (ret (.tuple [.agg [.i 0,.i 0,.str [],.str [],.nilrow,.nilrow],d]) H) (cond (decide (b<0)) (ret (.tuple [.agg [.i 0,.i 0,.str [],.str [],.nilrow,.nilrow],.i 3]) H) (cond (decide (b>=(a.length:Int))) (ret (.tuple [.agg [.i 0,.i 0,.str [],.str [],.nilrow,.nilrow],.i 3]) H) (cond (decide (c<0)) (ret (.tuple [.agg [.i 0,.i 0,.str [],.str [],.nilrow,.nilrow],.i 3]) H) (dV b λd=>bZ a d λa=>af a 0 λd=>af a 1 λf=>af a 2 λg=>af a 3 λh=>af a 4 λi=>af a 5 λj=>af a 6 λk=>af a 7 λl=>af a 8 λm=>af a 9 λn=>af a 10 λo=>af a 11 λp=>af a 12 λq=>af a 13 λa=>aC ab .eql 3 true d (.i 3) λr=>brD r (aS ab 102 l H λr=>aC ab .lss 3 false (.i c) r λr=>brD r (ay ab 102 l (.i c) λa=>ct a 2 λa=>bW ab 48 a H λa=>ah 6 a λa=>aw [.i 0,.i 0,.str [],.str [],.nilrow,.nilrow] 0 a λa=>ae R 9 13 [.lp 1 0,.lp 2 0,.lp 4 0] [(0,[]),(0,[.i b,.i c,.row 1 e]),(0,[.i 0,.i 0,.str [],.str [],.nilrow,.nilrow]),(0,[]),(0,a)] H) (ae R 9 11 [.lp 1 0,.lp 2 0,.lp 3 0,.lp 4 0] [(0,[]),(0,[.i b,.i c,.row 1 e]),(0,[.i 0,.i 0,.str [],.str [],.nilrow,.nilrow]),(0,[d,f,g,h,i,j,k,l,m,n,o,p,q,a]),(0,[.i 0,.i 0,.str [],.str [],.nilrow,.nilrow])] H)) (ae R 9 11 [.lp 1 0,.lp 2 0,.lp 3 0,.lp 4 0] [(0,[]),(0,[.i b,.i c,.row 1 e]),(0,[.i 0,.i 0,.str [],.str [],.nilrow,.nilrow]),(0,[d,f,g,h,i,j,k,l,m,n,o,p,q,a]),(0,[.i 0,.i 0,.str [],.str [],.nilrow,.nilrow])] H))))):=by kernel_rfl
theorem aeb{R:aM}{a b:Int}{c:aO}{e h:Int}{j k:ak}{l m:D}{d:List D}{H:DH}:aV R 9 13 [.lp 1 0,.lp 2 0,.lp 4 0] [(0,[]),(0,[.i a,.i b,.row 1 c]),(0,[.i e,.i h,.str j,.str k,l,m]),(0,[]),(0,d)] H =
 ae R 9 200014 [.lp 2 0,.lp 4 0,.g (.row 1 c),.n c.length,.n 0] [(0,[]),(0,[]),(0,[.i e,.i h,.str j,.str k,l,m]),(0,[]),(0,d)] H:=by kernel_rfl
theorem aec{R:aM}{a b:Int}{c:aO}{e g:Int}{h j:ak}{k l m p q r s t u v w x y z A a22:D}{a23 a24:Int}{a25 a26:ak}{a27 a28:D}{H:DH}:aV R 9 11 [.lp 1 0,.lp 2 0,.lp 3 0,.lp 4 0] [(0,[]),(0,[.i a,.i b,.row 1 c]),(0,[.i e,.i g,.str h,.str j,k,l]),(0,[m,p,q,r,s,t,u,v,w,x,y,z,A,a22]),(0,[.i a23,.i a24,.str a25,.str a26,a27,a28])] H =
 aC ab .eql 3 true m (.i 4) λd=>brD d (cond (b==0) (ae R 9 13 [.lp 1 0,.lp 2 0,.lp 4 0] [(0,[]),(0,[.i a,.i b,.row 1 c]),(0,[.i e,.i g,.str h,.str j,k,l]),(0,[]),(0,[w,x,y,z,A,a22])] H) (ret (.tuple [.agg [.i 0,.i 0,.str [],.str [],.nilrow,.nilrow],.i 3]) H)) (aC ab .eql 3 true m (.i 5) λd=>brD d (cond (b==0) (ae R 9 13 [.lp 1 0,.lp 2 0,.lp 4 0] [(0,[]),(0,[.i a,.i b,.row 1 c]),(0,[.i e,.i g,.str h,.str j,k,l]),(0,[]),(0,[w,x,y,z,A,a22])] H) (ret (.tuple [.agg [.i 0,.i 0,.str [],.str [],.nilrow,.nilrow],.i 3]) H)) (ret (.tuple [.agg [.i 0,.i 0,.str [],.str [],.nilrow,.nilrow],.i 3]) H)):=by kernel_rfl
theorem DD{R:aM}{a:aO}{b c e h:Int}{j k:ak}{l m:D}{t:List D}{H:DH}:aV R 9 200014 [.lp 2 0,.lp 4 0,.g (.row 1 a),.n b,.n c] [(0,[]),(0,[]),(0,[.i e,.i h,.str j,.str k,l,m]),(0,[]),(0,t)] H =
 cond (decide (c<b)) (dV c λd=>bZ a d λd=>af d 0 λd=>aC ab .lss 3 true d (.i 0) λf=>brD f (ret (.tuple [.agg [.i 0,.i 0,.str [],.str [],.nilrow,.nilrow],.i 3]) H) (af t 4 λf=>aS ab 45 f H λf=>aC ab .geq 3 false d f λf=>brD f (ret (.tuple [.agg [.i 0,.i 0,.str [],.str [],.nilrow,.nilrow],.i 3]) H) (af t 4 λf=>ay ab 45 f d λd=>bW ab 48 d H λd=>ah 6 d λd=>aw t 0 d λd=>ae R 9 200014 [.lp 2 0,.lp 4 0,.g (.row 1 a),.n b,.n (di (c+1))] [(0,[]),(0,[]),(0,[.i e,.i h,.str j,.str k,l,m]),(0,[]),(0,d)] H))) (af t 0 λa=>af t 1 λb=>af t 2 λc=>af t 3 λd=>af t 4 λf=>af t 5 λg=>C R 25 [.agg [a,b,c,d,f,g]] H λa H=>ah 6 a λa=>aw [.i e,.i h,.str j,.str k,l,m] 0 a λa=>af a 0 λb=>af a 1 λc=>af a 2 λd=>af a 3 λe=>af a 4 λf=>af a 5 λa=>ret (.tuple [.agg [b,c,d,e,f,a],.i 0]) H):=by kernel_rfl
theorem f25{R:aM}{a b:Int}{c e:ak}{h j:aO}{H:DH}:aA R 25 [.agg (xE a b c e h j)] H =
 aU (R (.call 60 [.row 6 h] none) H) (λd H=>aU (R (.call 61 [.row 3 j] none) H) (λf H=>ah 1 d λd=>aw (xE a b c e h j) 4 d λa=>ah 1 f λb=>aw a 5 b λa=>af a 4 λb=>aS ab 45 b H λb=>ae R 25 200003 [.lp 0 0,.lp 1 0,.g b,.n 0] [(0,a),(0,[.i 0,.i 0,.str [],.str [],.nilrow,.nilrow])] H) λ_ _=>none) λ_ _=>none:=by kernel_rfl
theorem AQ{R:aM}{a b:Int}{w0:List D}{c e:Int}{h j:ak}{k l:D}{H:DH}:aV R 25 200003 [.lp 0 0,.lp 1 0,.n a,.n b] [(0,w0),(0,[.i c,.i e,.str h,.str j,k,l])] H =
 cond (decide (b<a)) (af w0 4 λd=>ay ab 45 d (.i b) λd=>bW ab 48 d H λd=>aU (R (.call 25 [d] none) H) (λd H=>af w0 4 λf=>ay ab 45 f (.i b) λf=>ah 6 d λd=>IY f d H λH=>ae R 25 200003 [.lp 0 0,.lp 1 0,.n a,.n (di (b+1))] [(0,w0),(0,[.i c,.i e,.str h,.str j,k,l])] H) λ_ _=>none) (af w0 5 λa=>aS ab 46 a H λa=>ae R 25 200008 [.lp 0 0,.lp 1 0,.g a,.n 0] [(0,w0),(0,[.i c,.i e,.str h,.str j,k,l])] H):=by kernel_rfl
theorem AP{R:aM}{a b:Int}{w0:List D}{c e:Int}{h j:ak}{k l:D}{H:DH}:aV R 25 200008 [.lp 0 0,.lp 1 0,.n a,.n b] [(0,w0),(0,[.i c,.i e,.str h,.str j,k,l])] H =
 cond (decide (b<a)) (af w0 5 λd=>ay ab 46 d (.i b) λd=>bW ab 148 d H λd=>aU (R (.call 62 [d] none) H) (λd H=>af w0 5 λf=>ay ab 46 f (.i b) λf=>ah 3 d λd=>IY f d H λH=>ae R 25 200008 [.lp 0 0,.lp 1 0,.n a,.n (di (b+1))] [(0,w0),(0,[.i c,.i e,.str h,.str j,k,l])] H) λ_ _=>none) (af w0 0 λa=>af w0 1 λb=>af w0 2 λc=>af w0 3 λd=>af w0 4 λe=>af w0 5 λf=>ret (.agg [a,b,c,d,e,f]) H):=by kernel_rfl
theorem f3{R:aM}{a:aO}{j:Mc}{H:DH}:aA R 3 [.agg [.row 14 a],.agg (fv j)] H =
 C R 6 [] H λb H=>C R 7 [.agg [.row 14 a],.agg (fv j)] H λc H=>ei c 0 λd=>ei c 1 λc=>ah 11 d λd=>aw [.i 0,.i 0,.i 0,.bool false,.i 0,.nilrow,.nilrow,.nilrow,.i 0,.nilrow,.i 0] 0 d λd=>aC ab .neq 34 true c (.i 0) λc=>brD c (ret b H) (cond (j.mo != 2) (ret b H) (cond (((j.fr.map gj).length:Int)==0) (ret b H) (dV (di (((j.fr.map gj).length:Int) - 1)) λc=>bZ (j.fr.map gj) c λc=>af c 2 λc=>aS ab 37 c H λc=>aC ab .neq 3 true c (.i 1) λc=>brD c (ret b H) (dV (di (((j.fr.map gj).length:Int) - 1)) λc=>bZ (j.fr.map gj) c λc=>af c 0 λc=>aU (R (.call 8 [.agg [.row 14 a],c] none) H) (λc H=>ei c 0 λe=>ah 3 e λe=>aw [.i 0,.i 0,.nilrow] 0 e λe=>ei c 1 λc=>af e 0 λf=>af e 1 λg=>af e 2 λe=>C R 9 [.agg [.row 14 a],.agg [f,g,e]] H λa H=>ei a 0 λe=>ei a 1 λa=>ah 6 e λe=>aw [.i 0,.i 0,.str [],.str [],.nilrow,.nilrow] 0 e λe=>aC ab .neq 34 true c (.i 0) λc=>brD c (ret (.bool false) H) (aC ab .neq 34 true a (.i 0) λa=>brD a (ret (.bool false) H) (brD b (af e 0 λa=>aC ab .neq 3 true a (.i 4) λa=>brD a (ret (.bool true) H) (af d 0 λa=>aC ab .eql 3 true a (.i 1) λa=>brD a (af d 5 λa=>aS ab 27 a H λa=>aC ab .eql 3 false a (.i (di (((j.fr.map gj).length:Int) - 1))) λa=>ret a H) (ret (.bool false) H))) (ret (.bool false) H)))) λ_ _=>none)))):=by kernel_rfl
theorem f62{R:aM}{a:Int}{b:ak}{c:aO}{H:DH}:aA R 62 [.agg [.i a,.str b,.row 3 c]] H =
 C R 61 [.row 3 c] H λd H=>ah 1 d λd=>aw [.i a,.str b,.row 3 c] 2 d λa=>af a 2 λb=>aS ab 46 b H λb=>ae R 62 200003 [.lp 0 0,.lp 1 0,.g b,.n 0] [(0,a),(0,[.i 0,.str [],.nilrow])] H:=by kernel_rfl
theorem si{R:aM}{a b:Int}{w0:List D}{c:Int}{e:ak}{h:D}{H:DH}:aV R 62 200003 [.lp 0 0,.lp 1 0,.n a,.n b] [(0,w0),(0,[.i c,.str e,h])] H =
 cond (decide (b<a)) (af w0 2 λd=>ay ab 46 d (.i b) λd=>bW ab 148 d H λd=>aU (R (.call 62 [d] none) H) (λd H=>af w0 2 λf=>ay ab 46 f (.i b) λf=>ah 3 d λd=>IY f d H λH=>ae R 62 200003 [.lp 0 0,.lp 1 0,.n a,.n (di (b+1))] [(0,w0),(0,[.i c,.str e,h])] H) λ_ _=>none) (af w0 0 λa=>af w0 1 λb=>af w0 2 λc=>ret (.agg [a,b,c]) H):=by kernel_rfl
theorem f61{R:aM}{d:aO}{H:DH}:aA R 61 [.row 3 d] H =
 iC .eql d λa=>brD a (ret .nilrow H) (bX (aF ab 148) 3 .nilrow d H λa H=>ret a H):=by kernel_rfl
theorem f60{R:aM}{d:aO}{H:DH}:aA R 60 [.row 6 d] H =
 iC .eql d λa=>brD a (ret .nilrow H) (bX (aF ab 48) 6 .nilrow d H λa H=>ret a H):=by kernel_rfl
theorem Ys(o n i c:Nat)(new:List D)(H:DH)(κ:DH->ai):IY (.bptr o n i c) new H κ=dl H o n λsz st cap l=>boK st (bZ l i λcs=>aw cs c new λcs=>κ (H.set o (.buf sz st cap (l.set i cs)))):=rfl
theorem Xq(o n i:Nat)(κ:D->ai):ay ab 46 (.buf 3 o n) (.i i) κ=boK (Nat.blt i n) (κ (.bptr o n i 0)):=by kernel_rfl
theorem adv(o n i:Nat)(κ:D->ai):ay ab 45 (.buf 6 o n) (.i i) κ=boK (Nat.blt i n) (κ (.bptr o n i 0)):=by kernel_rfl
theorem RA(o n i:Nat)(H:DH)(κ:D->ai):bW ab 148 (.bptr o n i 0) H κ=dl H o n λ_ _ _ l=>bZ l i λcs=>br ab 148 cs 0 κ:=by kernel_rfl
theorem acT(o n i:Nat)(H:DH)(κ:D->ai):bW ab 48 (.bptr o n i 0) H κ=dl H o n λ_ _ _ l=>bZ l i λcs=>br ab 48 cs 0 κ:=by kernel_rfl
theorem aeN(a b c:D)(κ:D->ai):br ab 148 [a,b,c] 0 κ=κ (.agg [a,b,c]):=by kernel_rfl
theorem aeL(a b c d e f:D)(κ:D->ai):br ab 48 [a,b,c,d,e,f] 0 κ=κ (.agg [a,b,c,d,e,f]):=by kernel_rfl
theorem WJ{m:Nat}(h:m<=4194304):aF ab 148 m=true:=vX (b:=48) (by kernel_rfl) (by decide) h
theorem abK{m:Nat}(h:m<=4194304):aF ab 48 m=true:=vX (b:=96) (by kernel_rfl) (by decide) h
theorem vG{H:DH}{o n sz:Nat}{st cp:Bool}{l:aO}{κ:Nat->Bool->Bool->aO->ai}(h:H[o]? = some (.buf sz st cp l))(d:l.length=n):dl H o n κ=κ sz st cp l:=by subst d;exact cD h
structure Jd(H:DH)(o sz:Nat)(suf:aO)(i n:Nat):Prop where
 L:∃ L,H[o]? = some (.buf sz true false L)/\L.length=n/\∀ j cs,suf[j]? = some cs->L[i+j]? = some cs
theorem Jd.mv{H H1:DH}{o sz i n:Nat}{suf:aO}(h:Jd H o sz suf i n)(k:ci H.length H H1):Jd H1 o sz suf i n:=by obtain⟨L,d,f,g⟩:=h;exact⟨L,by rw[k.2 o (bu d)];exact d,f,g⟩
theorem Jd.put{H:DH}{o sz i n:Nat}{cs:List D}{suf:aO}(h:Jd H o sz (cs::suf) i n)(new:List D):∃ L,H[o]? = some (.buf sz true false L)/\L.length=n/\L[i]? = some cs/\Jd (H.set o (.buf sz true false (L.set i new))) o sz suf (i+1) n:=by
 obtain⟨L,d,f,g⟩:=h;refine⟨L,d,f,by simpa using g 0 cs rfl,L.set i new,aT _ d,by rw[afy];exact f,λj c t=>?_⟩;rw[afA (by omega)];have:=g (j+1) c (by simpa using t)
 rwa [show i+(j+1)=i+1+j by omega]at this
theorem zX{H:DH}{b o:Nat}(x:DB)(h:b<=o):ci b H (H.set o x):=⟨by simp,λi hi=>afA (by omega)⟩
theorem XL(l:List Pa)(hl:l.length<=4194304)(H:DH):aq 61 [.row 3 (bQ l)] H=ret (bP 3 H.length (bQ l)) (H++dD 3 (bQ l)):=by refine ev (f61) ?_;exact lH 3 (bQ l) (WJ (by omega)) (WJ (by rw[dz];exact hl)) H
theorem aeC(l:List Ex)(hl:l.length<=4194304)(H:DH):aq 60 [.row 6 (cw l)] H=ret (bP 6 H.length (cw l)) (H++dD 6 (cw l)):=by refine ev (f60) ?_;exact lH 6 (cw l) (abK (by omega)) (abK (by rw[fJ];exact hl)) H
theorem EP:∀ l:List Pa,l.length<=zD l
 |[]=>by simp
 |.mk _ _ _::r=>by rw[zD,nP,aeg];have:=EP r;omega
theorem WQ(p:Pa):∃ k n x,fQ p=[.i k,.str n,.row 3 x]:=by obtain⟨k,n,x⟩:=p;exact⟨k,n,bQ x,rfl⟩
mutual
theorem aev:∀(p:Pa) (H:DH),nP p<=2000->∃ a b d H',aq 62 [.agg (fQ p)] H=ret (.agg [a,b,d]) H'/\ci H.length H H'
 |.mk k n xs,H,h=>by
  rw[nP]at h;have hl:=EP xs;have hc:=XL xs (by omega) H;cases xs with
  |nil =>refine⟨.i k,.str n,.nilrow,H,ev (f62) ?_,ci.refl _ _⟩;rw[bQ]at hc ⊢;rw[av hc];simp only[bP,dD,afq,show ∀(κ:List D->ai),ah 1 .nilrow κ=κ [.nilrow] from λ_=>rfl,show ∀(x y z w:D) (κ:List D->ai),aw [x,y,z] 2 [w] κ=κ [x,y,w] from λ_ _ _ _ _=>rfl,au,aj];rw[show ∀(κ:D->ai),aS ab 46 .nilrow H κ=κ (.i 0)by intros;kernel_rfl];exact cj (si) rfl
  |cons t r =>have f:Jd (H++dD 3 (bQ (t::r))) H.length 3 (bQ (t::r)) 0 (t::r).length:=⟨bQ (t::r),by rw[show dD 3 (bQ (t::r))=[.buf 3 true false (bQ (t::r))] from rfl];exact aZ H _,dz _,λj cs g=>by rw[adO];exact g⟩;obtain⟨H',u,v⟩:=XE k n H.length H.length (t::r).length (t::r) 0 _ (aaW _) (adO _) (by have:=h;omega) (by omega) f 0 [] .nilrow;refine⟨.i k,.str n,.buf 3 H.length (t::r).length,H',ev (f62) ?_,(ci.app H _).trans v⟩;rw[av hc,show bP 3 H.length (bQ (t::r))=.buf 3 H.length (t::r).length by rw[<- dz];rfl];simp only[show ∀(x:Nat) (κ:List D->ai),ah 1 (.buf 3 H.length x) κ=κ [.buf 3 H.length x] from λ_ _=>rfl,show ∀(x y z w:D) (κ:List D->ai),aw [x,y,z] 2 [w] κ=κ [x,y,w] from λ_ _ _ _ _=>rfl,au,aj];rw[show ∀(x:Nat) (H1:DH) (κ:D->ai),aS ab 46 (.buf 3 H.length x) H1 κ=κ (.i x)by intros;kernel_rfl];exact u
theorem XE(k:Int)(nm:ak)(b o n:Nat):∀(suf:List Pa) (i:Nat) (H:DH),b<=o->i+suf.length=n->zD suf<=2000->n<=4194304->Jd H o 3 (bQ suf) i n->∀(c:Int) (e:ak) (h:D),
 ∃ H',ae aB 62 200003 [.lp 0 0,.lp 1 0,.n n,.n i] [(0,[.i k,.str nm,.buf 3 o n]),(0,[.i c,.str e,h])] H=ret (.agg [.i k,.str nm,.buf 3 o n]) H'/\ci b H H'
 |[],i,H,hb,hi,_,f,d,c,e,h=>by
  have:i=n:=by simpa using hi
  subst this;refine⟨H,cj (si) ?_,ci.refl _ _⟩;rw[Cu,SE];simp only[au,aj]
 |t::suf,i,H,hb,hi,hp,f,d,c,e,h=>by rw[aeg]at hi;rw[zD]at hp;rw[bQ]at d;obtain⟨E,F,I,H1,g,j⟩:=aev t H (by omega);obtain⟨L0,A,J,K,_⟩:=d.put [];obtain⟨L,M,N,B,O⟩:=(d.mv j).put [E,F,I];obtain⟨tk,tn,tx,te⟩:=WQ t;have hoH:=bu A;obtain⟨H',ih,Q⟩:=XE k nm b o n suf (i+1) _ hb (by omega) (by omega) f O c e h;refine⟨H',cj (si) ?_,((j.le (by omega)).trans (zX _ hb)).trans Q⟩;rw[ub (show i<n by omega),ge];simp only[au,aj,Xq];rw[xg (show i<n by omega)];simp only[boK,ge,RA];rw[vG A J,aD K];rw[te]at g B ⊢;rw[aeN,aG g];simp only[qP];rw[Ys,vG M N];simp only[boK,ge,aD B,show ∀(x y z u v w:D) (κ:List D->ai),aw [x,y,z] 0 [u,v,w] κ=κ [u,v,w] from λ_ _ _ _ _ _ _=>rfl];rw[IV i (by omega)];exact ih
end
end
section
theorem u46:ab.underlying 46=some (.slice 148):=by kernel_rfl
theorem u45:ab.underlying 45=some (.slice 48):=by kernel_rfl
theorem Jd.ne{H:DH}{o o' sz i n:Nat}{suf:aO}{x:DB}(h:Jd H o sz suf i n)(d:o'≠o):Jd (H.set o' x) o sz suf i n:=by obtain⟨L,f,g,j⟩:=h;exact⟨L,by rw[afA d];exact f,g,j⟩
theorem GC:∀ l:List Ex,l.length<=gg l
 |[]=>by simp
 |.mk _ _ _ _ _ _::r=>by rw[gg,oK,aeg];have:=GC r;omega
theorem YI{k m:Int}{nm a:ak}{xs:List Ex}{ps:List Pa}(h:QE (.mk k m nm a xs ps)):xs.length<=2000/\zD ps<=2000:=by obtain⟨d,q2,_⟩:=yX k m nm a xs ps h;obtain⟨_,p,f,h2⟩:=h;have:=Jm _ p f;rw[oK]at this;have h3:=GC xs;have h4:=EQ ps _ d;omega
section
variable(k m:Int)(nm a:ak)(d5 d6:D)(b o6 o3 n:Nat)(ps:List Pa)
theorem abS(f:b<=o3):∀(suf:List Pa) (i:Nat) (H:DH),i+suf.length=ps.length->zD suf<=2000->ps.length<=4194304->(suf≠[]->d6=.buf 3 o3 ps.length/\Jd H o3 3 (bQ suf) i ps.length)->∀(c e:Int) (s1 s2:ak) (g j:D),
 ∃ H',ae aB 25 200008 [.lp 0 0,.lp 1 0,.n ps.length,.n i] [(0,[.i k,.i m,.str nm,.str a,d5,d6]),(0,[.i c,.i e,.str s1,.str s2,g,j])] H=ret (.agg [.i k,.i m,.str nm,.str a,d5,d6]) H'/\ci b H H'
 |[],i,H,hi,_,_,_,c,e,s1,s2,g,j=>by
  have:i=ps.length:=by simpa using hi
  subst this;refine⟨H,cj (AP) ?_,ci.refl _ _⟩;rw[Cu,SE];simp only[au,aj]
 |t::suf,i,H,hi,hp,J,d,c,e,s1,s2,g,j=>by obtain⟨A,K⟩:=d (by simp);clear d;have d:=K;rw[aeg]at hi;rw[zD]at hp;rw[bQ]at d;obtain⟨M,N,O,H1,B,E⟩:=aev t H (by omega);obtain⟨L0,F,Q,R,_⟩:=d.put [];obtain⟨L,U,W,I,X⟩:=(d.mv E).put [M,N,O];obtain⟨tk,tn,tx,te⟩:=WQ t;have hoH:=bu F;obtain⟨H',ih,Y⟩:=abS f suf (i+1) _ (by omega) (by omega) J (λ_=>⟨A,X⟩) c e s1 s2 g j;refine⟨H',cj (AP) ?_,((E.le (by omega)).trans (zX _ f)).trans Y⟩;rw[A]at ih ⊢;rw[ub (show i<ps.length by omega),ge];simp only[au,aj,Xq];rw[xg (show i<ps.length by omega)];simp only[boK,ge,RA];rw[vG F Q,aD R];rw[te]at B I ⊢;rw[aeN,aG B];simp only[qP];rw[Ys,vG U W];simp only[boK,ge,aD I,show ∀(x y z u v w:D) (κ:List D->ai),aw [x,y,z] 0 [u,v,w] κ=κ [u,v,w] from λ_ _ _ _ _ _ _=>rfl];rw[IV i (by omega)];exact ih
end
theorem wM(e:Ex):er e=[.i e.k,.i e.m,.str e.n,.str e.a,.row 6 (cw e.xs),.row 3 (bQ e.ps)]:=by obtain⟨k,m,nn,ag,xs,ps⟩:=e;rfl
mutual
theorem aew:∀(e:Ex) (H:DH),QE e->∃ b c d x y H',aq 25 [.agg (er e)] H=ret (.agg [.i e.k,b,c,d,x,y]) H'/\ci H.length H H'
 |.mk k m nm a xs ps,H,hq=>by
  obtain⟨hx,hp⟩:=YI hq;have hpl:=EP ps;have c1:=aeC xs (by omega) H;have c2:=XL ps (by omega) (H++dD 6 (cw xs));have E:ci H.length H (H++dD 6 (cw xs)++dD 3 (bQ ps)):=by rw[aft];exact ci.app _ _
  have t:H.length<=(H++dD 6 (cw xs)).length:=by simp
  have f:xs≠[]->bP 6 H.length (cw xs)=.buf 6 H.length xs.length/\Jd (H++dD 6 (cw xs)++dD 3 (bQ ps)) H.length 6 (cw xs) 0 xs.length/\(H++dD 6 (cw xs)).length=H.length+1:=λg=>by
   cases xs with
   |nil=>exact absurd rfl g
   |cons x r =>refine⟨by rw[<- fJ];rfl,⟨cw (x::r),?_,fJ _,λj cs A=>by rw[adO];exact A⟩,by simp[cw,dD]⟩;exact eV _ (aZ H _)
  have B:ps≠[]->bP 3 (H++dD 6 (cw xs)).length (bQ ps)=.buf 3 (H++dD 6 (cw xs)).length ps.length/\Jd (H++dD 6 (cw xs)++dD 3 (bQ ps)) (H++dD 6 (cw xs)).length 3 (bQ ps) 0 ps.length:=λg=>by
   cases ps with
   |nil=>exact absurd rfl g
   |cons x r=>exact⟨by rw[<- dz];rfl,⟨bQ (x::r),aZ _ _,dz _,λj cs A=>by rw[adO];exact A⟩⟩
  obtain⟨H',F,I⟩:=XF k m nm a (bP 6 H.length (cw xs)) (bP 3 (H++dD 6 (cw xs)).length (bQ ps)) H.length H.length (H++dD 6 (cw xs)).length xs.length ps (aaW _) t (λH1 κ=>by rw[ug 46 148 u46,dz]) (by omega) hp xs 0 _ (adO _) (yX k m nm a xs ps hq).2.2 (by omega) (λg=>⟨(f g).1,(f g).2.1,by have:=(f g).2.2;omega⟩) B 0 0 [] [] .nilrow .nilrow;refine⟨.i m,.str nm,.str a,bP 6 H.length (cw xs),bP 3 (H++dD 6 (cw xs)).length (bQ ps),H',ev (f25) ?_,E.trans I⟩;rw[aG c1,aG c2,Bk];simp only[show ∀(x y z u v w q:D) (κ:List D->ai),aw [x,y,z,u,v,w] 4 [q] κ=κ [x,y,z,u,q,w] from λ_ _ _ _ _ _ _ _=>rfl];rw[Bk];simp only[show ∀(x y z u v w q:D) (κ:List D->ai),aw [x,y,z,u,v,w] 5 [q] κ=κ [x,y,z,u,v,q] from λ_ _ _ _ _ _ _ _=>rfl,au,aj];rw[ug 45 48 u45,fJ];exact F
theorem XF(k m:Int)(nm a:ak)(d5 d6:D)(b o6 o3 n:Nat)(ps:List Pa)(g:b<=o6)(j:b<=o3)(A:∀(H:DH) (κ:D->ai),aS ab 46 d6 H κ=κ (.i ps.length))(B:ps.length<=4194304)(E:zD ps<=2000):∀(suf:List Ex) (i:Nat) (H:DH),i+suf.length=n->(∀ x∈suf,QE x)->n<=4194304->(suf≠[]->d5=.buf 6 o6 n/\Jd H o6 6 (cw suf) i n/\o6≠o3)->(ps≠[]->d6=.buf 3 o3 ps.length/\Jd H o3 3 (bQ ps) 0 ps.length)->∀(c e:Int) (s1 s2:ak) (d F:D),
 ∃ H',ae aB 25 200003 [.lp 0 0,.lp 1 0,.n n,.n i] [(0,[.i k,.i m,.str nm,.str a,d5,d6]),(0,[.i c,.i e,.str s1,.str s2,d,F])] H=ret (.agg [.i k,.i m,.str nm,.str a,d5,d6]) H'/\ci b H H'
 |[],i,H,hi,_,_,_,J,c,e,s1,s2,d,F=>by
  have:i=n:=by simpa using hi
  subst this;obtain⟨H',K,Y⟩:=abS k m nm a d5 d6 b o3 ps j ps 0 H (adO _) E B J c e s1 s2 d F;refine⟨H',cj (AQ) ?_,Y⟩;rw[Cu,SE];simp only[au,aj];rw[A];exact K
 |t::suf,i,H,hi,hq,Z,f,J,c,e,s1,s2,d,F=>by obtain⟨hd,hG,I⟩:=f (by simp);clear f;subst hd;have f:=hG;rw[aeg]at hi;rw[cw]at f;obtain⟨a2,a3,a4,a5,a6,H1,K,M⟩:=aew t H (hq t (by simp));obtain⟨L0,N,g2,g3,_⟩:=f.put [];obtain⟨L,q1,q2,O,q4⟩:=(f.mv M).put [.i t.k,a2,a3,a4,a5,a6];have hoH:=bu N;obtain⟨H',ih,k2⟩:=XF k m nm a (.buf 6 o6 n) d6 b o6 o3 n ps g j A B E suf (i+1) _ (by omega) (λx hx=>hq x (abi _ hx)) Z (λ_=>⟨rfl,q4,I⟩) (λQ=>⟨(J Q).1,((J Q).2.mv M).ne I⟩) c e s1 s2 d F;refine⟨H',cj (AQ) ?_,((M.le (by omega)).trans (zX _ g)).trans k2⟩;rw[ub (show i<n by omega),ge];simp only[au,aj,adv];rw[xg (show i<n by omega)];simp only[boK,ge,acT];rw[vG N g2,aD g3];rw[wM]at K O ⊢;rw[aeL,aG K];simp only[ce6];rw[Ys,vG q1 q2];simp only[boK,ge,aD O,show ∀(x y z u v w x1 R d U W X:D) (κ:List D->ai),aw [x,y,z,u,v,w] 0 [x1,R,d,U,W,X] κ=κ [x1,R,d,U,W,X] from λ_ _ _ _ _ _ _ _ _ _ _ _ _=>rfl];rw[IV i (by omega)];exact ih
end
end
section
theorem GB{x:Ex}:∀ {l:List Ex},x∈l->oK x<=gg l
 |y::r,h=>by
  rw[gg];rcases abn.1 h with rfl|h
  .omega
  .have:=GB h;omega
theorem Lw:∀(p:ak) (e x:Ex),rH e p=some x->p.length<=oK e
 |[],e,x,_=>by simp
 |i::p,.mk k m nm a xs ps,x,h=>by
  rw[rH]at h;cases d:xs[i]? with
  |none=>simp only[Ex.xs,d]at h;cases h
  |some z =>simp only[Ex.xs,d]at h;have h1:=Lw p z x h;have h2:=GB (aeE d);rw[oK,aeg];omega
theorem abR(l:List Ex){i:Nat}{z:Ex}(h:l[i]? = some z)(H:DH)(κ:D->ai):(ay ab 45 (.row 6 (cw l)) (.i i) λd=>bW ab 48 d H κ)=κ (.agg (er z)):=by rw[dO (show bw H 6 (cw l) (.row 6 (cw l))from .inl rfl) u45 (by kernel_rfl) (show(cw l)[i]? = some (er z)by rw[mt,afd,h];rfl),wM,aeL]
theorem acN(l:aO)(H:DH)(κ:D->ai):aS ab 45 (.row 6 l) H κ=κ (.i l.length):=by kernel_rfl
theorem aeT(path:ak)(hp:path.length<=4000):∀(suf pre:ak) (e x:Ex) (H:DH),path=pre++suf->rH e suf=some x->QE e ->
 ∃ b c d y z H',ae aB 9 200014 [.lp 2 0,.lp 4 0,.g (.row 1 (nC path)),.n path.length,.n pre.length] [(0,[]),(0,[]),(0,[.i 0,.i 0,.str [],.str [],.nilrow,.nilrow]),(0,[]),(0,er e)] H=ret (.tuple [.agg [.i x.k,b,c,d,y,z],.i 0]) H'
 |[],pre,e,x,H,j,f,hq=>by
  rw[rH]at f;cases f;have K:path.length=pre.length:=by rw[j];simp
  obtain⟨b,c,d,y,z,H',J,_⟩:=aew e H hq;refine⟨b,c,d,y,z,H',cj (DD) ?_⟩;rw[wM]at J ⊢;rw[K,Cu,SE];simp only[au,aj];rw[av J];simp only[ce6,show ∀(x y z u v w x1 t A B E F:D) (κ:List D->ai),aw [x,y,z,u,v,w] 0 [x1,t,A,B,E,F] κ=κ [x1,t,A,B,E,F] from λ_ _ _ _ _ _ _ _ _ _ _ _ _=>rfl,au,aj]
 |i::suf,pre,e,x,H,j,f,hq=>by
  obtain⟨k,m,nm,a,xs,ps⟩:=e;have hi:pre.length<path.length:=by rw[j];simp
  rw[rH]at f;cases I:xs[i]? with
  |none=>simp only[Ex.xs,I]at f;cases f
  |some w =>simp only[Ex.xs,I]at f;have L:QE w:=(yX k m nm a xs ps hq).2.2 w (aeE I);have hlt:i<xs.length:=(abj.1 I).1;obtain⟨b,c,d,y,z,H',ih⟩:=aeT path hp suf (pre++[i]) w x H (by rw[j];simp) f L;refine⟨b,c,d,y,z,H',cj (DD) ?_⟩;rw[ub hi,ge,bS,aD (show(nC path)[pre.length]? = some [.i (i:Nat)] by rw[nC,j];simp)];rw[wM];simp only[au,aj,Ex.xs];rw[cE,ax,show decide ((i:Int)<0)=false from abl (by omega),SE,acN,fJ,cM,ax,show decide ((i:Int)>=(xs.length:Int))=false from abl (by omega),SE,abR xs I,wM w];simp only[ce6,show ∀(x y z u v w x1 t A B E F:D) (κ:List D->ai),aw [x,y,z,u,v,w] 0 [x1,t,A,B,E,F] κ=κ [x1,t,A,B,E,F] from λ_ _ _ _ _ _ _ _ _ _ _ _ _=>rfl];rw[IV _ (by omega)];rw[aaY,abc,wM w]at ih;exact ih
theorem aeU(path:ak)(hp:path.length<=4000)(b c:Int)(e x:Ex)(H:DH)(j:rH e path=some x)(hq:QE e):∃ f g d y z H',ae aB 9 13 [.lp 1 0,.lp 2 0,.lp 4 0] [(0,[]),(0,[.i b,.i c,.row 1 (nC path)]),(0,[.i 0,.i 0,.str [],.str [],.nilrow,.nilrow]),(0,[]),(0,er e)] H=ret (.tuple [.agg [.i x.k,f,g,d,y,z],.i 0]) H':=by obtain⟨f,g,d,y,z,H',h⟩:=aeT path hp path [] e x H rfl j hq;refine⟨f,g,d,y,z,H',cj (aeb) ?_⟩;rw[show((nC path).length:Int)=(path.length:Int)by rw[nC,abe]];exact h
theorem aet(d:De):∃ a b c e f g h,ed d=[.i d.k,a,b,c,e,f,g,.row 8 (d.fs.map nL),.i d.b.k,.i d.b.m,.str d.b.n,.str d.b.a,.row 6 (cw d.b.xs),.row 3 (bQ d.b.ps)]/\h=0:=by obtain⟨k,⟨dn,vs,cs⟩,n,⟨tn,ts⟩,fs,⟨ek,em,en,ea,xs,ps⟩⟩:=d;exact⟨_,_,_,_,_,_,0,rfl,rfl⟩
theorem adK(f:Fu):nL f=[.str f.n,.str f.a,.i f.b.k,.i f.b.m,.str f.b.n,.str f.b.a,.row 6 (cw f.b.xs),.row 3 (bQ f.b.ps)]:=by obtain⟨n,a,⟨ek,em,en,ea,xs,ps⟩⟩:=f;rfl
theorem ait(a b c d e f g h:D)(κ:D->ai):br ab 48 [a,b,c,d,e,f,g,h] 2 κ=κ (.agg [c,d,e,f,g,h]):=by kernel_rfl
theorem abz:ab.underlying 102=some (.slice 106):=by kernel_rfl
theorem abG:size ab 106=some 8:=by kernel_rfl
theorem aaL{l:List De}(i:cL bY l=0){d:De}(f:d∈l):∀ e∈eF d,QE e:=by obtain⟨h1,h2,h3,j⟩:=kD i;intro e g;obtain⟨t,u⟩:=Kz f;obtain⟨g3,g4⟩:=ue (q:=1) g;rw[KJ]at t;rw[Hs]at u;exact⟨XB (afx.1 j d f) e g,1,by omega,by omega⟩
theorem LV{e x:Ex}{p:ak}(hq:QE e)(d:rH e p=some x):p.length<=4000:=by have h1:=Lw p e x d;obtain⟨_,q,f,h3⟩:=hq;have:=Jm e q f;omega
theorem at9{l:List De}(hl:l.length<2^61)(ho:∀ x∈l,x.ok)(R:cL bY l=0){y:Nd}(hy:y∈(bF l).ns)(H:DH) :
 ∃ b c d u v H',aq 9 [.agg [.row 14 (l.map ed)],.agg [.i y.d,.i y.f,.row 1 (nC y.p)]] H=ret (.tuple [.agg [.i y.e.k,b,c,d,u,v],.i 0]) H':=by
 obtain⟨j,dd,L,h2,h3⟩:=abT l y hy;have hc:=Na kOk l (by omega) ho H;rw[R]at hc;have hjl:j<l.length:=(abj.1 L).1;have A:=aeE L;have B:=aaL R A;have hdo:=ho dd A;obtain⟨U,b0,c0,e0,f0,g0,_,E,_⟩:=aet dd;have F:(l.map ed)[j]? = some (ed dd):=by rw[afd,L];rfl
 rw[h2];rcases h3 with⟨hk,k,u,M,N,I⟩|⟨hk,N,I⟩
 .have J:QE u.b:=B _ (by simp only[eF,hk];exact aiH.2 ⟨u,aeE M,rfl⟩);have O:k<dd.fs.length:=(abj.1 M).1;obtain⟨b,c,d,w,v,H',g⟩:=aeU y.p (LV J I) j k u.b y.e H I J;refine⟨b,c,d,w,v,H',ev (f9) ?_⟩;rw[av hc,bE,ax,agk,SE,show decide ((j:Int)<0)=false from abl (by omega),SE,show decide ((j:Int)>=((l.map ed).length:Int))=false from abl (by rw[abe];omega),SE,N,show decide ((k:Int)<0)=false from abl (by omega),SE,bS,aD F,E];simp only[au,aj];have t:bw H 8 (dd.fs.map nL) (.row 8 (dd.fs.map nL)):=.inl rfl;rw[hk,ba,ax,show((3:Int)==3)=true from rfl,ge,t.len abz,abe,cE,ax,ub O,ge];rw[ji t abz abG (iN nL M),adK,ait];simp only[ce6,show ∀(x y z u v w x1 W X Y Z w1:D) (κ:List D->ai),aw [x,y,z,u,v,w] 0 [x1,W,X,Y,Z,w1] κ=κ [x1,W,X,Y,Z,w1] from λ_ _ _ _ _ _ _ _ _ _ _ _ _=>rfl];rw[wM]at g;exact g
 .have K:QE dd.b:=B _ (by rcases hk with hk|hk<;>simp[eF,hk]);obtain⟨b,c,d,w,v,H',g⟩:=aeU y.p (LV K I) j 0 dd.b y.e H I K;have Q:∀(m0 m1 m2 m3 m4 m5 m6 m7:D),ae aB 9 11 [.lp 1 0,.lp 2 0,.lp 3 0,.lp 4 0] [(0,[]),(0,[.i j,.i 0,.row 1 (nC y.p)]),(0,[.i 0,.i 0,.str [],.str [],.nilrow,.nilrow]),(0,[.i dd.k,m1,m2,m3,m4,m5,m6,m7,.i dd.b.k,.i dd.b.m,.str dd.b.n,.str dd.b.a,.row 6 (cw dd.b.xs),.row 3 (bQ dd.b.ps)]),(0,[.i 0,.i 0,.str [],.str [],.nilrow,.nilrow])] H=ret (.tuple [.agg [.i y.e.k,b,c,d,w,v],.i 0]) H':=λm0 m1 m2 m3 m4 m5 m6 m7=>by
   refine cj (aec) ?_;rw[wM]at g;rw[ba,ax];rcases hk with hk|hk
   .rw[hk,show((4:Int)==4)=true from rfl,ge,show((0:Int)==0)=true from rfl,ge];exact g
   .rw[hk,show((5:Int)==4)=false from rfl,SE,ba,ax,show((5:Int)==5)=true from rfl,ge,show((0:Int)==0)=true from rfl,ge];exact g
  refine⟨b,c,d,w,v,H',ev (f9) ?_⟩;rw[av hc,bE,ax,agk,SE,show decide ((j:Int)<0)=false from abl (by omega),SE,show decide ((j:Int)>=((l.map ed).length:Int))=false from abl (by rw[abe];omega),SE,N,show decide ((0:Int)<0)=false from rfl,SE,bS,aD F,E];simp only[au,aj];rw[ba,ax,show(dd.k==3)=false by rcases hk with hk|hk<;>rw[hk]<;>rfl,SE];exact Q U U b0 c0 e0 f0 g0 _
theorem f8{R:aM}{a:aO}{d:Int}{H:DH}:aA R 8 [.agg [.row 14 a],.i d] H =
 C R 23 [.agg [.row 14 a]] H λa H=>ei a 0 λb=>ei a 1 λa=>aC ab .neq 34 true a (.i 0) λc=>brD c (ret (.tuple [.agg [.i 0,.i 0,.nilrow],a]) H) (cond (decide (d<0)) (ret (.tuple [.agg [.i 0,.i 0,.nilrow],.i 3]) H) (kC b λa=>ct a 1 λa=>bW ab 87 a H λa=>aS ab 87 a H λa=>aC ab .geq 3 false (.i d) a λa=>brD a (ret (.tuple [.agg [.i 0,.i 0,.nilrow],.i 3]) H) (kC b λa=>ct a 1 λa=>bW ab 87 a H λa=>ay ab 87 a (.i d) λa=>ct a 6 λa=>bW ab 42 a H λa=>ah 3 a λa=>aw [.i 0,.i 0,.nilrow] 0 a λa=>af a 0 λb=>af a 1 λc=>af a 2 λa=>ret (.tuple [.agg [b,c,a],.i 0]) H))):=by kernel_rfl
theorem WB{ce:List Ce}:∀(k:Nat) (r:Re) (n:Nat) (e:Int),(vl ce k r n).2=.error e->e≠0
 |0,_,_,e,h=>by cases h;decide
 |k+1,r,n,e,h=>by
  have i:∀(l:List Re) (n:Nat) (e:Int),(BP (vl ce k) l n).2=.error e->e≠0:=by
   intro l;induction l with
   |nil=>exact λn e h=>by cases h
   |cons r l ih =>
    intro n e h;rw[BP]at h;have d:=WB (ce:=ce) k r n;generalize vl ce k r n=z at h d;obtain⟨n1,_|v1⟩:=z
    .cases h;exact d _ rfl
    .simp only at h;have f:=ih n1;generalize BP (vl ce k) l n1=u at h f;obtain⟨n2,_|v⟩:=u
     .cases h;exact f _ rfl
     .cases h
  rw[vl]at h;cases d:decide (n+1>4000)with
  |true=>rw[d]at h;cases h;decide
  |false =>
   rw[d]at h;cases f:r.c with
   |false=>rw[f]at h;cases h
   |true =>
    rw[f]at h;simp only[aep,SE]at h;cases g:ce[r.n.toNat]? with
    |none=>rw[g]at h;cases h;decide
    |some c =>
     rw[g]at h;simp only at h;cases j:c.k==2 with
     |true=>rw[j]at h;cases h;decide
     |false =>
      rw[j]at h;simp only[SE]at h;have t:=i c.refs (n+1);generalize BP (vl ce k) c.refs (n+1)=z at h t;obtain⟨n2,_|v⟩:=z
      .cases h;exact t _ rfl
      .cases h
def Nz:Except Int Mc->Prop
 |.ok _=>True
 |.error k=>k≠0
theorem acx(l:List De)(m:Mc)(y:Nd):Nz (evS l m y):=by
 unfold evS;cases y.e.k==1 with
 |true=>trivial
 |false =>
  cases y.e.k==2 with
  |true =>
   simp only[ge,SE];obtain⟨q,r⟩:=Fj l m y.e.n;cases q with
   |true=>trivial
   |false=>show(61:Int)≠0;decide
  |false =>
   cases y.e.k==5 with
   |true=>trivial
   |false =>
    cases y.e.k==7 with
    |true=>trivial
    |false =>simp only[SE];cases mI y<;>trivial
theorem acy(G:Pg)(m:Mc):Nz (enM G m):=by
 unfold enM;cases G.rs[m.bo.toNat]? with
 |none=>trivial
 |some j =>
  simp only;cases G.bs[j]? with
  |none=>trivial
  |some x =>
   simp only;cases x.kind==4 with
   |true=>trivial
   |false =>
    simp only[SE];cases d:Tm m ⟨m.vc,m.vn⟩with
    |error e=>exact WB _ _ _ e d
    |ok v=>trivial
theorem acz(y:Nd)(f:Fm)(m:Mc):Nz (baS y f m):=by
 unfold baS;cases y.e.k==6 with
 |true=>trivial
 |false =>
  cases y.e.k==8 with
  |true =>
   simp only[ge,SE,aaP];cases OG m.ce ⟨m.vc,m.vn⟩ y.e.ps 0 with
   |none=>show(60:Int)≠0;decide
   |some q=>trivial
  |false =>
   simp only[SE];cases decide (((f.dn.length+1:Nat):Int)<((mI y).length:Int))with
   |true=>trivial
   |false =>
    simp only[SE,Sh];cases y.e.k==3 with
    |true=>trivial
    |false =>
     simp only[SE];generalize f.dn++[(⟨m.vc,m.vn⟩:Re)]=dn;match dn with
     |[]=>trivial
     |[r]=>trivial
     |r::q::t =>
      simp only;cases y.e.k==9 with
      |true =>
       cases r.c with
       |true=>show(61:Int)≠0;decide
       |false =>
        cases q.c with
        |true=>show(61:Int)≠0;decide
        |false =>simp only[ge,SE];cases (NO y.e.n r.n q.n).1==[]<;>trivial
      |false =>
       cases y.e.k==4 with
       |true =>
        cases r.c with
        |false=>show(61:Int)≠0;decide
        |true =>
         simp only[ge,SE,aep];cases m.ce[r.n.toNat]? with
         |none=>trivial
         |some c =>
          simp only;cases c.k != 2 with
          |true=>show(61:Int)≠0;decide
          |false=>trivial
       |false=>trivial
theorem Ut(l:List De)(m:Mc):Nz (mc l m):=by
 unfold mc;cases m.mo==3 with
 |true=>show(3:Int)≠0;decide
 |false =>
  cases m.mo==1 with
  |true =>
   cases m.st==200000 with
   |true=>show(4:Int)≠0;decide
   |false =>
    simp only[ge,SE];cases (bF l).ns[m.ex.toNat]? with
    |none=>show(1:Int)≠0;decide
    |some y=>exact acx _ _ _
  |false =>
   simp only[SE];cases m.fr.reverse with
   |nil=>exact acy _ _
   |cons f r =>
    simp only;cases (bF l).ns[f.ex.toNat]? with
    |none=>show(1:Int)≠0;decide
    |some y=>exact acz _ _ _
theorem agw(a b c d e f g h i j k:D)(κ:D->ai):br ab 42 [a,b,c,d,e,f,g,h,i,j,k] 6 κ=κ (.agg [g,h,i]):=by kernel_rfl
theorem YN{l:List De}(hl:l.length<2^61)(ho:∀ x∈l,x.ok)(t:cL bY l=0){i:Nat}{y:Nd}(hy:(bF l).ns[i]? = some y)(H:DH) :
 ∃ H',aq 8 [.agg [.row 14 (l.map ed)],.i i] H=ret (.tuple [.agg [.i y.d,.i y.f,.row 1 (nC y.p)],.i 0]) H':=by
 obtain⟨st,h⟩:=QD l hl ho H;rw[t,agk,SE]at h;have g:=Ul H st (bF l);obtain⟨s0,j⟩:=g.o;have hlt:=(abj.1 hy).1;refine⟨PX H st (bF l) [],ev (f8) ?_⟩;rw[av h];simp only[dB,aj,au];rw[bE,ax,agk,SE,show decide ((i:Int)<0)=false from abl (by omega),SE];simp only[mB,oA,Zp,ac j,adO,aj,au];rw[g.nsI.len w78,abe,cM,ax,show decide ((i:Int)>=((bF l).ns.length:Int))=false from abl (by omega),SE];rw[ji g.nsI w78 s88 (iN jw hy),dP,agw];simp only[qP,LZ,aj,au]
theorem agx(m:Mc)(mo:IS m)(ok:CC m)(l:List De)(hl:l.length<2^61)(ho:∀ x∈l,x.ok2)(H:DH) :
 ∃ H',aq 3 [.agg [.row 14 (l.map ed)],.agg (fv m)] H=ret (.bool true) H':=by
 have g:∀ x∈l,x.ok:=λx hx=>(ho x hx).ok;obtain⟨X,J,K⟩:=aaI m mo l hl g H;have bad:∀(k:Int) (H1:DH) (L M N O:D) (Q:Mc),k≠0->aq 7 [.agg [.row 14 (l.map ed)],.agg (fv m)] H=ret (.tuple [.agg (JV Q L M N O),.i k]) H1->aq 3 [.agg [.row 14 (l.map ed)],.agg (fv m)] H=ret (.bool true) H1:=λk H1 L M N O Q hk E=>by refine ev (f3) ?_;rw[av (Ep H),av E];simp only[dB,aj,au,JV,Iu,GX];rw[bE,ax,show(k != 0)=true by simpa using hk,ge]
 by_cases U:Ox l m=0
 .have hk:cL bY l=0/\gq m (bF l)=true:=by grind [Ox]
  obtain⟨hk,hs⟩:=hk;have hh:Pe l m:=⟨hk,hs,ok,mo⟩;rw[hk,U,agk,SE]at J;obtain⟨H1,s1⟩:=Yr hh g H X J (K hk);have W:=Ut l m;cases hst:mc l m with
  |error k =>rw[hst]at s1 W;exact⟨H1,bad k H1 _ _ _ _ mcz W (s1 W)⟩
  |ok Q =>
   rw[hst]at s1;obtain⟨L,M,N,O,E,i1⟩:=s1;have w:∀(R:ai),(cond (m.mo != 2) (ret (.bool true) H1) (cond (((m.fr.map gj).length:Int)==0) (ret (.bool true) H1) R)=ret (.bool true) H1)\/(m.mo=2/\m.fr≠[]):=λR=>by
    by_cases t:m.mo=2
    .by_cases j:m.fr=[]
     .exact .inl (by rw[t,j];rfl)
     .exact .inr ⟨t,j⟩
    .exact .inl (by rw[show(m.mo != 2)=true by simpa using t,ge])
   by_cases hc:m.mo=2/\m.fr≠[]
   .obtain⟨t,Y⟩:=hc;obtain⟨fs,f,j⟩:=Ej Y;have A:(m.fr.map gj).length=fs.length+1:=by rw[j];simp
    have hfs:fs.length<2^61:=by have:=ok.fr;rw[j,aaY]at this;omega
    have B:(m.fr.map gj)[fs.length]? = some (gj f):=by rw[j];simp
    have F:di (((m.fr.map gj).length:Int) - 1)=(fs.length:Int):=by rw[A];exact Jg (by omega)
    have I:bw H1 2 (f.dn.map im) (.row 2 (f.dn.map im)):=.inl rfl;by_cases hd:f.dn.length=1
    .obtain⟨i,y,hi,hy,hrin,hkd⟩:=hh.frame (f:=f) (by rw[j];simp);obtain⟨H2,p1⟩:=YN hl g hk hy H1;obtain⟨b,c,d,u,v,H3,p2⟩:=at9 hl g hk (aeE hy) H2;refine⟨H3,ev (f3) ?_⟩;rw[av (Ep H),av E];simp only[dB,aj,au,JV,Iu,GX];rw[bE,ax,agk,SE,t,show((2:Int) != 2)=false from rfl,SE,F,A,show(((fs.length+1:Nat):Int)==0)=false by rw[aiS];omega,SE,bS,aD B];simp only[gj,aj,au];rw[I.len rE,abe,hd,bE,ax,show(((1:Nat):Int) != 1)=false from rfl,SE,bS,aD B];simp only[gj,aj,au];rw[hi,aG p1];simp only[dB,aj,au,qP,LZ];rw[av p2];simp only[dB,aj,au,ce6,show ∀(x y z u v w x1 y1 z1 u1 v1 w1:D) (κ:List D->ai),aw [x,y,z,u,v,w] 0 [x1,y1,z1,u1,v1,w1] κ=κ [x1,y1,z1,u1,v1,w1] from λ_ _ _ _ _ _ _ _ _ _ _ _ _=>rfl];rw[bE,ax,agk,SE,bE,ax,agk,SE,ax,ge,bE,ax];by_cases Z:y.e.k=4
     .obtain⟨t1,t2⟩:=abF hh t j hd hi hy Z hst;obtain⟨rf,r1,r2,_⟩:=i1.fr;rw[Z,show((4:Int) != 4)=false from rfl,SE,t1,ba,ax,show((1:Int)==1)=true from rfl,ge,r1.ln w38,r2,t2,ba,akg]
     .rw[show(y.e.k != 4)=true by simpa using Z,ge]
    .refine⟨H1,ev (f3) ?_⟩;rw[av (Ep H),av E];simp only[dB,aj,au,JV,Iu,GX];rw[bE,ax,agk,SE,t,show((2:Int) != 2)=false from rfl,SE,F,A,show(((fs.length+1:Nat):Int)==0)=false by rw[aiS];omega,SE,bS,aD B];simp only[gj,aj,au];rw[I.len rE,abe,bE,ax,show((f.dn.length:Int) != 1)=true by simp;omega,ge]
   .refine⟨H1,ev (f3) ?_⟩;rw[av (Ep H),av E];simp only[dB,aj,au,JV,Iu,GX];rw[bE,ax,agk,SE];exact(w _).resolve_right hc
 .have hb:(Ox l m != 0)=true:=by simp[bne,U]
  refine⟨H++X,bad (Ox l m) _ .nilrow .nilrow .nilrow .nilrow mcz U (ev (f7) ?_)⟩;rw[av J];simp only[dB,aj,au];rw[bE,ax,hb,ge];rfl
end
end Go.Proofs.YtjbplagjmopllaaGreatDoor
namespace Go.Proofs.YtjbplagjmopllaaGreatDoor.Rd
open Go.AI Go.Proofs Go.Proofs.YtjbplagjmopllaaGreatDoor Go.ChangeShapes Go.WideShapes Go.ChangeAt Go.RowKit
theorem adG:Go.AI.Good Tryz.prog (lim bV):=Rk (gW rfl rfl) agh (eH rfl rfl)
theorem SJ{W W':World}{ρ':aJ}(h:FR (Ro W.heap.size) W ρ' W'):Below W.heap.size W W' :=
 ⟨h.os,h.tape,h.output,h.size,λk hk=>h.same k hk λf v l e d=>by
  unfold Ro at e;split at e
  .cases e;exact absurd (show(0:Nat)<1 from Nat.zero_lt_one) d
  .cases e⟩
theorem RX{W:World}{o f v:Nat}(h:(Rd.g0 W).O[o]? = some (some (f,v))):False:=by have h:([]:List (Option (Nat×Nat)))[o]? = some (some (f,v)):=h;simp at h
theorem adH{W:World}(h:Ny W)(hs:6<=W.heap.size):Ok (Rd.g0 W):=by
 refine⟨rfl,TM W,λo o' f v v' h=>(RX h).elim,λo f v h=>(RX h).elim,?_,?_,Od h,λf d=>⟨?_,?_,λo v h=>RX h⟩⟩
 .intro f d;have d:f∈([]:List Nat):=d;simp at d
 .intro o b hb;have hb:([]:List DB)[o]? = some b:=hb;simp at hb
 .show f<(cy W).next;unfold cy;rw[mi];have d:f∈[0,1,2,5]:=d;simp only[abn,akh,or_false]at d;omega
 .show f∉([]:List Nat);simp
theorem Oz{f:FuncId}{W:World}{args:List D}{X:DH}{vs:List V}{ys:List Value}(j:Ok (g0 W))(h:eP de (.call f args none) []=ret (.bool true) X)(hr:Go.AI.RL (g0 W) args vs)(t:bg (Ro W.heap.size) vs=some ys) :
 Calls Tryz.prog f ys.toArray W λe w'=>e=.returned (.bool true)/\Below W.heap.size W w':=by
 obtain⟨s',call⟩:=UY h (g:=g0 W) rfl j hr;have u:gu Tryz.prog f vs none (cy W) ⟨.returned (.bool true),none,s'⟩:=adG (.call f _ none) _ _ call;refine(Bn u (Ly W) t).mono λe w' ⟨ρ',z,v,i,_,d⟩=>?_;simp only[den,abf]at i;subst i;exact⟨v,SJ d⟩
theorem MR{ρ:aJ}{l:List V}{c:Array Value}(h:bg ρ l=some c.toList):den ρ (.agg l)=some (.agg c):=by simp only[den,h,Array.toArray_toList]
theorem own:ownKnob Tryz.prog.godebug=none:=by kernel_rfl
theorem Mx:laidOutB Tryz.prog=true:=by kernel_rfl
theorem abP:Tryz.prog.readableRec 24=true:=by kernel_rfl
theorem abJ:24<Tryz.prog.types.size:=agj (by kernel_rfl)
theorem abO:Tryz.prog.readableRec 32=true:=by kernel_rfl
theorem abI:32<Tryz.prog.types.size:=agj (by kernel_rfl)
theorem VR:Tryz.prog.cellsOf 24=1:=by kernel_rfl
theorem VQ:Tryz.prog.cellsOf 32=11:=by kernel_rfl
theorem adl:Kg 8 32=some [.int,.int,.int,.bool,.int,.sl 27,.sl 28,.sl 29,.int,.sl 30,.int]:=by kernel_rfl
end Go.Proofs.YtjbplagjmopllaaGreatDoor.Rd
namespace Go.Proofs.YtjbplagjmopllaaGreatDoor.stepTails
open Go.AI Go.Proofs Go.Proofs.YtjbplagjmopllaaGreatDoor Go.ChangeShapes Go.WideShapes Go.ChangeAt Go.RowKit Go.Proofs.YtjbplagjmopllaaGreatDoor.Rd
theorem Ni{H:Type}{d:DataW H}{l:List (DataW H)}{n:Nat}(h:Rows.uptoBulkAll l<=n)(f:d∈l):Rows.uptoBulk d<=n:=by
 induction l with
 |nil=>cases f
 |cons x r ih =>
  simp only[Rows.uptoBulkAll]at h;rcases abn.1 f with rfl|f
  .omega
  .exact ih (by omega) f
abbrev IE:Array Value:=#[.agg #[.slice none 0 0],.agg #[.int .i64 0,.int .i64 0,.int .i64 0,.bool false,.int .i64 0,.slice none 0 0,.slice none 0 0,.slice none 0 0,.int .i64 0,.slice none 0 0,.int .i64 0]]
noncomputable abbrev w0(os:Os):World:=World.laidAll Tryz.prog os Rows.stepTailsUptoRow.laid
set_option maxRecDepth 100000 in
theorem Tt(os:Os)(H:Type)(enc:TypeId×Value->H):∃(w:World) (tape:Tape) (i:Input),w.os=os/\(w.forCall tape i).Shaped Tryz.prog/\i.vars=[]/\Input.okWide Tryz.prog (w.forCall tape i) .any w.heap.size 3 i /\
 (Rows.OpenSpec.upto Rows.stepTailsSpec).preRow enc Tryz.prog Tryz.f3 Rows.stepTailsUptoRow.domain false Rows.stepTailsUptoRow.laid (w.forCall tape i).memory i.args/\({}:Assume).holds Tryz.prog (lone (Frame.enter Tryz.prog 3 i.args .normal) [] (w.forCall tape i)):=by
 have f:DataW.whole enc Tryz.prog ((w0 os).forCall (λ_ _=>0) ⟨#[],IE,[]⟩).memory Tryz.f3.params.toList Rows.stepTailsSpec.vars false IE.toList 8=some ([.agg [.nil],.agg [.lit (.int .i64 0),.lit (.int .i64 0),.lit (.int .i64 0),.agg [.lit (.bool false),.lit (.int .i64 0)],.nil,.nil,.nil,.lit (.int .i64 0),.nil,.lit (.int .i64 0)]],[],[]):=by kernel_rfl
 have d:Input.okWideB Tryz.prog ((w0 os).forCall (λ_ _=>0) ⟨#[],IE,[]⟩) 3 ⟨#[],IE,[]⟩=true:=by kernel_rfl
 refine⟨w0 os,λ_ _=>0,⟨#[],IE,[]⟩,World.laidAll_os _ _ _,World.shaped_of_ZipB (by kernel_rfl) (by kernel_rfl),(Input.okWide_of_okWideB (base:=0) d).1,(Input.okWide_of_okWideB d).2,?_,?_⟩
 .exact OpenSpec.preRow_of_cond 8 f (by kernel_rfl) (λk hk=>by cases hk;kernel_rfl) (by kernel_rfl) (by rw[MakeChecks.laidMetH_plain _ _ _ (by kernel_rfl)];exact laidMet_laidAll _ (by kernel_rfl) (by kernel_rfl))
 .simp only[Assume.holds];exact⟨by simp,by simp,λh=>by simp at h,by simp,by simp⟩
set_option maxRecDepth 100000 in
theorem lifted(os:Os)(started:os.Started)(H:Type)(enc:TypeId×Value->H)(F:Stop.Interp) :
 ReturnsInHanded {} Tryz.checked os 3 .any ((Rows.OpenSpec.upto Rows.stepTailsSpec).preRow enc Tryz.prog Tryz.f3 Rows.stepTailsUptoRow.domain false Rows.stepTailsUptoRow.laid) (((Rows.OpenSpec.upto Rows.stepTailsSpec).at F).post enc Tryz.prog Tryz.f3 false true false false):=by
 refine returnsInHanded_of_row (C:=Tryz.checked) (s:=Rows.OpenSpec.upto Rows.stepTailsSpec) own started (by kernel_rfl) Tryz.func3 (Tt os H enc) ?_;intro W base args ds gs before hval0 hW _ hcond w hlaid hshaped _;have g:∀(j:Nat) t v,Tryz.f3.params[j]? = some t->args[j]? = some v->Value.okWide Tryz.prog W .any base t v:=hval0;rw[MakeChecks.laidMetH_plain _ _ _ (by kernel_rfl)]at hlaid;have hG:Ny W:=RV hlaid hshaped;have hbulk:Rows.uptoBulkAll (ds++gs)<=1048576:=by simpa[Rows.uptoSmall]using hcond _ rfl
 have y:=hW;obtain⟨p,q,L,hV,rfl,hfz,hnd⟩:=hW;have hA:DataW.TrodAll enc Tryz.prog W 0 (λ_=>true) true Tryz.f3.params.toList args.toList ds p:=L;have A:(DataW.weightsEach Tryz.prog (Tryz.f3.params.toList++[]) (ds++gs)).all (·<=reachBytes)=true:=w;rw[Tryz.params3]at hA g A;obtain⟨v0,vs0,B,ds0,M,q0,hargs,rfl,rfl,h0,N⟩:=trodAll_cons hA;obtain⟨v1,vs1,E,ds1,O,q1,rfl,rfl,rfl,h1,Q⟩:=trodAll_cons N;obtain⟨rfl,rfl,rfl⟩:=trodAll_nil Q;obtain rfl:args=#[v0,v1]:=by cases args;simp_all
 obtain⟨rfl,rfl⟩:=trodVars_none hV;obtain⟨c0,rfl,_⟩:=okWide_struct Tryz.underlying24 (g 0 24 v0 rfl rfl);obtain⟨c1,rfl,_⟩:=okWide_struct Tryz.underlying32 (g 1 32 v1 rfl rfl);obtain⟨n0,g0'⟩:=h0;obtain⟨n1,g1'⟩:=h1;have I:∀(i:Nat) t (d:DataW H),[24,32][i]? = some t->[B,E][i]? = some d->Wt t d:=λi t d R e2 n hn=>by have:=afx.1 A n (jS (i:=i) (by simpa using R) (by simpa using e2) n hn);simpa using this
 obtain⟨x0,b0,a0,N,s0,k0⟩:=YG (W:=W) n0 8 (x:=(B,M)) (aaW _) adm VR g0' (I 0 24 B rfl rfl);obtain⟨x1,b1,a1,Q,s1,k1⟩:=YG (W:=W) n1 8 (x:=(E,O)) (aaW _) adl VQ g1' (I 1 32 E rfl rfl);obtain⟨y0,z0,rfl,t0,s0⟩:=aH s0;cases gr s0;obtain⟨l,rfl,hl,U⟩:=acu t0;have hd0:Rows.uptoBulk B<=1048576:=Ni hbulk (by simp)
 have J:∀ x∈l,x.ok2:=λx hx=>YV (U x hx) (by have:=tz (f:=ed) hx;simp only[fA,Iq]at k0;omega)
 obtain⟨m,rfl,mo⟩:=acr s1;have Y:Rows.uptoBulk E<=1048576:=Ni hbulk (by simp);obtain⟨X,hX⟩:=agx m mo (aex (acd k1 Y)) l hl J [];have hsize:6<=W.heap.size:=by obtain⟨c,e,fz,hh,_⟩:=hG.pow;have:=(ajA.1 hh).1;omega
 have walk:=Oz (f:=3) (ys:=[.agg c0,.agg c1]) (adH hG hsize) hX (vs:=[.agg x0,.agg x1]) (by
  simp only[Go.AI.RL,RD];exact⟨_,_,rfl,⟨_,rfl,N,jo.one a0⟩,_,_,rfl,⟨_,rfl,Q,jo.one a1⟩,rfl⟩) (by
  have e0:=MR (c:=c0) (jo.den a0);have R:=MR (c:=c1) (jo.den a1);simp only[bg];rw[e0,R])
 refine walk.mono λe W' ⟨he,u⟩=>?_;subst he;have K:=y.lt;refine⟨_,rfl,_,_,_,[],M++(O++[]),[],y,trodAll_mk1 (shut_bool Tryz.underlying4 _),?_,rfl,u.frame _,λh=>by cases h⟩;show DataW.TrodAll enc Tryz.prog W' 0 (λb=>decide (b<W.heap.size)) true Tryz.f3.params.toList _ [B,E] _;rw[Tryz.params3];exact⟨M,_,Below.trod Mx abP abJ ⟨n0,g0'⟩ u (λz Z=>K z (by simp[Z])),⟨O,_,Below.trod Mx abO abI ⟨n1,g1'⟩ u (λz Z=>K z (by simp[Z])),rfl,rfl⟩,rfl⟩
