/- Lemmas. No conditions. -/
import Derived.Test.YtpghiabjaglpgaaGreatDoorD3
set_option linter.all false
noncomputable section
namespace Go.AI
variable[fY]
variable{b:Nat}{P0:List Nat}{g:Gh}{LO:List Nat}{t:T LD}{L:LS}{tv:T V}{out:js}{E:dl}{an:jd}
def jb(g:Gh):List iD->List GN->Prop
 |[],c=>c=[]
 |x::r,c=>∃ y a,c=y::a/\RD g x.v y.v/\x.recovered=y.recovered/\jb g r a
def PS(g:Gh):fe->Md->Prop
 |.run,m=>m=.run
 |.returning,m=>m=.returning
 |.panicking c,m=>∃ a,m=.panicking a/\jb g c a
 |.round _,_=>False
def PH(g:Gh):Option fe->Option Md->Prop
 |none,u=>u=none
 |some m,u=>∃ a,u=some a/\PS g m a
def rF(g:Gh):Option fe->Option Md->Option Nat->Prop
 |some (.round o),u,r=>u=none/\∃ l v,r=some l/\g.O[o]? = some (some (l,v))
 |up,u,r=>r=none/\PH g up u
def Oc(up:Option fe):Prop:=∀ o,up≠some (.round o)
theorem rF.nr{g:Gh}{up:Option fe}{u:Option Md}{r:Option Nat}(a:Oc up)(h:rF g up u r):r=none/\PH g up u:=by
 unfold rF at h;split at h
 ·exact(a _ rfl).elim
 ·exact h
theorem rF.mk{g:Gh}{up:Option fe}{u:Option Md}(a:Oc up)(h:PH g up u):rF g up u none:=by
 unfold rF;split
 ·exact(a _ rfl).elim
 ·exact⟨rfl,h⟩
theorem mM{up:Option fe}{r:au}{out:js}(h:notRnd up r=some out):Oc up/\r=some out:=by
 unfold notRnd at h;split at h
 ·cases h
 ·rename_i a;exact⟨fun o e=>a o e,h⟩
def JB(g:Gh):List rD->List eS->Prop
 |[],c=>c=[]
 |.coll o::r,c=>∃ d v e,c=.collected d::e/\g.O[o]? = some (some (d,v))/\JB g r e
 |.call x::r,c=>∃ ca a e,c=.call (.func x.fn) ca a::e/\RL g x.captured ca/\RL g x.args a/\JB g r e
def abw(g:Gh):GP->End->Prop
 |.ret d,e=>∃ v,e=.returned v/\RD g d v
 |.pan c,e=>∃ a,e=.panicked a/\jb g c a
theorem jb.mono{g g':Gh}(h:qh g g'):∀ {c:List iD} {a:List GN},jb g c a->jb g' c a
 |[],_,r=>r
 |x::l,_,r=>by obtain⟨y,a,d,e,i,j⟩:=r;exact⟨y,a,d,e.mono h,i,jb.mono h j⟩
theorem PS.mono{g g':Gh}(h:qh g g'){m:fe}{a:Md}(r:PS g m a):PS g' m a:=by
 cases m with
 |run=>exact r
 |returning=>exact r
 |panicking c=>obtain⟨d,e,i⟩:=r;exact⟨d,e,i.mono h⟩
 |round _=>exact r
theorem PH.mono{g g':Gh}(h:qh g g'){m:Option fe}{a:Option Md}(r:PH g m a):PH g' m a:=by
 cases m with
 |none=>exact r
 |some m=>obtain⟨c,d,e⟩:=r;exact⟨c,d,e.mono h⟩
theorem rF.mono{g g':Gh}(h:qh g g'){m:Option fe}{u:Option Md}{q:Option Nat}(r:rF g m u q):rF g' m u q:=by
 unfold rF at r ⊢;split at r
 ·obtain⟨a,l,v,c,d⟩:=r;obtain⟨v',e⟩:=h.o1 _ l v d;exact⟨a,l,v',c,e⟩
 ·exact⟨r.1,r.2.mono h⟩
theorem JB.mono{g g':Gh}(h:qh g g'):∀ {c:List rD} {e:List eS},JB g c e->JB g' c e
 |[],_,r=>r
 |.coll o::l,_,r=>by obtain⟨d,v,e,i,j,k⟩:=r;obtain⟨v',m⟩:=h.o1 o d v j;exact⟨d,v',e,i,m,JB.mono h k⟩
 |.call x::l,_,r=>by obtain⟨ca,a,e,i,j,k,m⟩:=r;exact⟨ca,a,e,i,j.mono h,k.mono h,JB.mono h m⟩
def jN(b:Nat)(P0:List Nat)(g:Gh)(out:js)(vout:fo):Prop:=∃ g',g'.H=out.H/\g'.s=vout.s/\g'.Pv=P0/\Ok g'/\Mv b g g'/\abw g' out.e vout.e/\PH g' out.up vout.up
structure Ls(E:dL)(rec:qj):Prop where
 c:∀ f args up H out,rec f args up H=some out->∀ g:Gh,g.H=H->Ok g->∀ vs upv,RL g args vs->PH g up upv->∃ vout,lim E (.call f vs upv) g.s=some vout/\jN g.s.next g.Pv g out vout
 r:∀ o args H out,rec 0 args (some (.round o)) H=some out->∀ g:Gh,g.H=H->Ok g->∀ vs l v,RL g args vs->g.O[o]? = some (some (l,v))->∃ vout,lim E (.round l vs) g.s=some vout/\jN g.s.next g.Pv g out vout
def mJ(t:T LD)(d:Option Tmp)(x:LD):T LD:=match d with
 |some i=>T.set (some x) (fu i) t
 |none=>t
theorem dc(t:T LD)(d:Option Tmp)(x:LD)(κ:T LD->au):kM t d x κ=κ (mJ t d x):=by
 cases d with
 |none=>rfl
 |some i=>exact T.setK_eq _ _ _ _
theorem CM.put(h:CM g LO t tv)(d:Option Tmp){x:LD}{v:V}(r:RS g LO x v):CM g LO (mJ t d x) (putD tv d v):=by
 cases d with
 |none=>exact h
 |some i =>
  intro j y hy;simp only[mJ]at hy;rw[T.get_setN]at hy;rw[If];split at hy
  ·rename_i e;cases hy;rw[aeM e];exact⟨v,rfl,r⟩
  ·rename_i e;rw[aeD e];exact h j y hy
theorem FI.put(h:FI b P0 g t L tv LO)(d:Option Tmp){x:LD}{v:V}(r:RS g LO x v):FI b P0 g (mJ t d x) L (putD tv d v) LO:=⟨h.ok,h.slots.put d r,h.own,h.pv,h.low,h.nd,h.bl⟩
theorem RS.u:RS g LO .u V.undef:=rfl
theorem yK{ops:Array Oper}{o:Oper}{kT kF:T LD->au}(e:yL ops t o kT kF=some out)(h:CM g LO t tv) :
 (bT ops tv o=some true/\∃ t',kT t'=some out/\Rf t t' tv)\/(bT ops tv o=some false/\∃ t',kF t'=some out/\Rf t t' tv):=by
 unfold yL at e;unfold bT;split at e
 ·rename_i l;rw[l];exact .inl ⟨rfl,t,e,.refl t tv⟩
 ·rename_i j want l;rw[l];simp only;split at e
  ·rename_i i hi;rw[hi];simp only;split at e
   ·rename_i d m;obtain⟨v,c,k⟩:=h i _ m;have k:RD g d v:=k;split at e
    ·obtain⟨q,rfl,a⟩:=Gy e k;clear e;rw[c];cases q with
     |true=>rw[ge,T.setK_eq]at a;exact .inl ⟨rfl,_,a,zq c⟩
     |false=>rw[TD,T.setK_eq]at a;exact .inr ⟨rfl,_,a,zq c⟩
    ·obtain⟨q,rfl,a⟩:=Gy e k;clear e;rw[c];cases q with
     |true=>rw[ge,T.setK_eq]at a;exact .inr ⟨rfl,_,a,zq c⟩
     |false=>rw[TD,T.setK_eq]at a;exact .inl ⟨rfl,_,a,zq c⟩
   ·rename_i m;obtain⟨v,c,k⟩:=h i _ m;have k:v=V.undef:=k;subst k;rw[c];exact .inr ⟨rfl,t,e,.refl t tv⟩
   ·cases e
  ·cases e
theorem Id(h:FI b P0 g t L tv LO){k:Hk}{d:D}{κ:D->DH->au}(e:fG k d g.H κ=some out){v:V}(r:RD g d v) :
 ∃ m g',κ m g'.H=some out/\g'.s=g.s/\FI b P0 g' t L tv LO/\Mv b g g'/\RD g' m v/\(v.one=true):=by
 unfold fG at e;split at e
 ·rename_i sz;split at e
  ·rename_i s' o n;obtain⟨sz',st,cap,l,p,hc,i,w⟩:=nu e (hQ.refl g);clear e;obtain⟨hb,e⟩:=eX p;clear p;have hb:=abr hb;subst hb;have c:=r.one (fun q=>by cases q) (fun q=>by cases q);simp only[RD]at r;have j:sz'=s':=by obtain⟨st',cap',l',u,_⟩:=r;rw[i]at u;cases u;rfl
   subst j;exact⟨_,g.frz o sz' cap l,e,rfl,h.frz i,Kq i,FL h.ok i w r,c⟩
  ·have c:=r.one (fun q=>by cases q) (fun q=>by cases q);simp only[RD]at r;refine⟨_,g,e,rfl,h,.refl b g,?_,c⟩;simp only[RD];rcases r with rfl|⟨a,z,sz',rfl⟩
   ·exact .inl ⟨trivial,rfl⟩
   ·exact .inr (.inl ⟨trivial,a,z,sz',rfl⟩)
  ·exact⟨_,g,e,rfl,h,.refl b g,r,r.one (fun q=>by cases q) (fun q=>by cases q)⟩
  ·cases e
 ·rename_i sz;split at e
  ·obtain⟨x,e⟩:=aQ e;have c:=r.one (fun q=>by cases q) (fun q=>by cases q);simp only[RD]at r;refine⟨_,g.acc sz false,e,rfl,h.acc (aeb x) false,Ks h.ok sz false,?_,c⟩;simp only[RD];exact⟨true,false,[],gT _ _,abD _,.inl ⟨rfl,r⟩⟩
  ·exact⟨_,g,e,rfl,h,.refl b g,r,r.one (fun q=>by cases q) (fun q=>by cases q)⟩
  ·cases e
theorem lr{α:Type}{l:List α}{i:Nat}{x:α}(h:l[i]? = some x):l.set i x=l:=by
 apply akb;intro j;rw[akl];split
 ·rename_i a;subst a;split
  ·rw[h]
  ·rename_i q;rw[aeF (by omega)]
 ·rfl
theorem Ar(h:FI b P0 g t L tv LO){k:Hk}{c:Nat}{d:D}{κ:D->DH->au}(e:cK k c d g.H κ=some out){v:V}(r:RD g d v) :
 ∃ a g',κ a g'.H=some out/\g'.s=g.s/\FI b P0 g' t L tv LO/\Mv b g g'/\RD g' a v:=by
 unfold cK at e;split at e
 ·simp only[RD]at r;obtain⟨vs,rfl,o,p⟩:=r;obtain⟨x,q,e⟩:=jL e;obtain⟨w,u,z⟩:=o.at q;obtain⟨y,g',j,l,m,i,n,_⟩:=Id h e z;refine⟨_,g',j,l,m,i,?_⟩;simp only[RD];have:=(o.mono i.le).set c n;rw[lr u]at this;exact⟨vs,rfl,this,p⟩
 ·obtain⟨_,e⟩:=aQ e;obtain⟨a,g',j,l,m,i,n,_⟩:=Id h e r;exact⟨a,g',j,l,m,i,n⟩
theorem DM:∀ {l:List (Nat×Hk)} {g:Gh} {d:D} {κ:D->DH->au} {v:V},FI b P0 g t L tv LO->Aq l d g.H κ=some out->RD g d v->∃ a g',κ a g'.H=some out/\g'.s=g.s/\FI b P0 g' t L tv LO/\Mv b g g'/\RD g' a v
 |[],g,d,κ,v,h,e,r=>⟨d,g,e,rfl,h,.refl b g,r⟩
 |(c,k)::l,g,d,κ,v,h,e,r=>by simp only[Aq]at e;obtain⟨a,g',i,j,m,n,o⟩:=Ar h e r;obtain⟨p,q,u,w,x,y,z⟩:=DM m i o;exact⟨p,q,u,w.trans j,x,n.trans y,z⟩
theorem fT(h:FI b P0 g t L tv LO){dst:Option Tmp}{x:LD}{κ:LD->DH->au}(e:sO an.hooks dst x g.H κ=some out){v:V}(r:RS g LO x v) :
 ∃ a g',κ a g'.H=some out/\g'.s=g.s/\FI b P0 g' t L tv LO/\Mv b g g'/\RS g' LO a v/\(rl an dst=false->g'=g/\a=x):=by
 have same:κ x g.H=some out->∃ a g',κ a g'.H=some out/\g'.s=g.s/\FI b P0 g' t L tv LO/\Mv b g g'/\RS g' LO a v/\(rl an dst=false->g'=g/\a=x):=fun e=>⟨x,g,e,rfl,h,.refl b g,r,fun _=>⟨rfl,rfl⟩⟩;unfold sO at e;split at e
 ·exact same e
 ·rename_i hl;split at e
  ·exact same e
  ·rename_i i;split at e
   ·exact same e
   ·rename_i l hk;split at e
    ·obtain⟨d',g',c,d,j,k,m⟩:=DM h e r;refine⟨_,g',c,d,j,k,m,fun q=>?_⟩;unfold rl at q;rw[hl]at q hk;simp only[hk]at q;cases q
    ·cases e
theorem mb(h:FI b P0 g t L tv LO){vout:fo}{o:js}(r:jN g.s.next g.Pv g o vout):∃ g',g'.H=o.H/\g'.s=vout.s/\FI b P0 g' t L tv LO/\Mv b g g'/\abw g' o.e vout.e/\PH g' o.up vout.up/\GL g L LO g' L LO:=by obtain⟨g',d,i,j,k,c,l,m⟩:=r;exact⟨g',d,i,h.to k (c.down h.bl) j fun f a=>c.out f (h.lo_lt a) (fun o v=>h.lo_out a o v),c.down h.bl,l,m,ajF,PR.of fun f a=>c.out f (h.lo_lt a) (fun o v=>h.lo_out a o v)⟩
def RgR(b:Nat)(P0:List Nat)(g:Gh)(rdv:Option Nat)(k:Jx)(kp:List iD->Jx)(out:js):mg->Prop
 |.on tv' dsv' upv' s'=>∃ g' t' L' LO' ds' up',k t' L' ds' up' g'.H=some out/\g'.s=s'/\FI b P0 g' t' L' tv' LO'/\Mv b g g'/\JB g' ds' dsv'/\rF g' up' upv' rdv
 |.panicked c tv' dsv' upv' s'=>∃ g' t' L' LO' ds' up' a,kp a t' L' ds' up' g'.H=some out/\g'.s=s'/\FI b P0 g' t' L' tv' LO'/\Mv b g g'/\JB g' ds' dsv'/\rF g' up' upv' rdv/\jb g' a c
theorem RgR.trans{g':Gh}(m:Mv b g g'){rdv:Option Nat}{k:Jx}{kp:List iD->Jx}{r:mg}(h:RgR b P0 g' rdv k kp out r):RgR b P0 g rdv k kp out r:=by
 cases r with
 |on tv' dsv' upv' s' =>obtain⟨a,t',L',LO',ds',up',d,e,i,j,l⟩:=h;exact⟨a,t',L',LO',ds',up',d,e,i,m.trans j,l⟩
 |panicked c tv' dsv' upv' s' =>obtain⟨a,t',L',LO',ds',up',n,d,e,i,j,l⟩:=h;exact⟨a,t',L',LO',ds',up',n,d,e,i,m.trans j,l⟩
variable{rec:qj}
theorem mc{x:au}{kr:D->DH->au}{kp:List iD->DH->au}(h:bB x kr kp=some out):∃ o,x=some o/\((∃ d,o.e=.ret d/\kr d o.H=some out)\/(∃ c,o.e=.pan c/\kp c o.H=some out)):=by
 unfold bB at h;split at h
 ·exact⟨_,rfl,.inl ⟨_,rfl,h⟩⟩
 ·exact⟨_,rfl,.inr ⟨_,rfl,h⟩⟩
 ·cases h
theorem Cr{d:Option Tmp}{ds:List rD}{H:DH}{k:Jx}{up:Option fe}{upv:Option Md}{rdv:Option Nat}(e:mF d t L ds H k up=some out)(h:rF g up upv rdv) :
 ∃ x up' v upv',k (mJ t d x) L ds up' H=some out/\RS g LO x v/\rF g up' upv' rdv/\∀(tv:T V) (dsv:List eS) (s:S) (kv:RK),recovered d tv dsv s kv upv=kv (putD tv d v) dsv upv' s:=by
 unfold mF at e;split at e
 ·cases e
 ·rename_i v older;have l:=h.nr (fun o q=>by cases q);clear h;obtain⟨rfl,h⟩:=l;obtain⟨j,rfl,z,rfl,y,c2,rfl,a,i,r⟩:=h;obtain⟨yv,yr⟩:=y;simp only at a i;subst i;rw[dc]at e;exact⟨.g v,_,yv,some (.panicking (⟨yv,true⟩::c2)),e,a,rF.mk (fun o q=>by cases q) ⟨_,rfl,_,rfl,⟨yv,true⟩,c2,rfl,a,rfl,r⟩,fun tv dsv s kv=>by simp only[recovered,cI]⟩
 ·rename_i m n p;have u:Oc (some m):=fun o q=>n o (aiJ q);have l:=h.nr u;clear h;obtain⟨rfl,h⟩:=l;obtain⟨j,rfl,a⟩:=h;rw[dc]at e;refine⟨.g .nilIface,some m,.nilIface,some j,e,by show RD _ _ _;simp only[RD],rF.mk u ⟨j,rfl,a⟩,fun tv dsv s kv=>?_⟩;have:∀ v older,j≠.panicking (⟨v,false⟩::older):=fun v older q=>by
   subst q;cases m with
   |run=>cases a
   |returning=>cases a
   |round o=>exact a
   |panicking c =>
    obtain⟨z,A,i⟩:=a;cases A;cases c with
    |nil=>cases i
    |cons x xs =>obtain⟨y,c2,B,r,w,k5⟩:=i;cases B;obtain⟨xv,xr⟩:=x;simp only at w;subst w;exact p xv xs rfl
  unfold recovered;split
  ·rename_i q;exact(this _ _ (aiJ q)).elim
  ·rename_i q;cases q;simp only[cI]
  ·rename_i q;cases q
 ·cases e
theorem fE{rdv:Option Nat}(i:Ls E.E rec){ops:Array Oper}{k:Jx}{kp:List iD->Jx}:∀ {l:List Oper} {t:T LD} {L:LS} {ds:List rD} {up:Option fe} {g:Gh} {LO:List Nat} {tv:T V} {dsv:List eS} {upv:Option Md},
 pE E an ops rec l k kp t L ds up g.H=some out->FI b P0 g t L tv LO->JB g ds dsv->rF g up upv rdv ->
 ∃ r,qN E.E ops (bR (lim E.E)) (eD (lim E.E)) rdv l tv dsv upv g.s=some r/\RgR b P0 g rdv k kp out r
 |[],t,L,ds,up,g,LO,tv,dsv,upv,e,h,y,m=>⟨_,rfl,g,t,L,LO,ds,up,e,rfl,h,.refl b g,y,m⟩
 |o::l,t,L,ds,up,g,LO,tv,dsv,upv,e,h,y,m=>by
  simp only[pE]at e;simp only[qN];rcases yK e h.slots with⟨X,t1,e,hr⟩|⟨X,t1,e,hr⟩
  ·have h:=h.rf hr;rw[X];obtain⟨O,x,nx,e,h1,G,I⟩:=Kc o.op h e;have h:=h.rf G;simp only[qS,dI,h1];cases x with
   |val d L' H' =>obtain⟨v,s',rfl,g',LO',n,J,B,K,k5,k6⟩:=I;have B:=FI.rf B (t':=O) G;simp only[Kg,<- n]at e;obtain⟨x',g2,F,Q,R,z,U,_⟩:=fT B e k6;rw[dc]at F;obtain⟨r,p,q⟩:=fE i F (R.put o.dst U) ((y.mono K.le).mono z.le) ((m.mono K.le).mono z.le);refine⟨r,?_,q.trans (K.trans z)⟩;simp only[eo,cI,<- J,<- Q];exact p
   |skip L' H' =>obtain⟨s',rfl,g',LO',n,J,B,K,k5,_⟩:=I;have B:=FI.rf B (t':=O) G;simp only[Kg,<- n,dc]at e;obtain⟨r,p,q⟩:=fE i e (B.put o.dst RS.u) (y.mono K.le) (m.mono K.le);refine⟨r,?_,q.trans K⟩;simp only[eo,cI,<- J];exact p
   |enter f args L' H' =>
    obtain⟨vs,rfl,rfl,rfl,n,_⟩:=I;simp only[Kg]at e;obtain⟨oc,M,e⟩:=mc e;obtain⟨vout,W,Y⟩:=i.c f args none g.H oc M g rfl h.ok vs none n rfl;obtain⟨g',n1,n2,n3,n4,A,_⟩:=mb h Y;obtain⟨ve,vu,vs'⟩:=vout;simp only at n2 A;rcases e with⟨d,j,e⟩|⟨c,j,e⟩
    ·rw[j]at A;obtain⟨v,rfl,N⟩:=A;rw[<- n1]at e;obtain⟨x',g2,F,Q,R,z,U,_⟩:=fT (x:=.g d) n3 e N;rw[dc]at F;obtain⟨r,p,q⟩:=fE i F (R.put o.dst U) ((y.mono n4.le).mono z.le) ((m.mono n4.le).mono z.le);refine⟨r,?_,q.trans (n4.trans z)⟩;simp only[eo,bR,W,fS,cI,<- n2,<- Q];exact p
    ·rw[j]at A;obtain⟨Z,rfl,N⟩:=A;rw[<- n1]at e;refine⟨.panicked Z tv dsv upv vs',by simp only[eo,bR,W,fS],?_⟩;exact⟨g',O,L',LO,ds,up,c,e,n2,n3,n4,y.mono n4.le,m.mono n4.le,N⟩
   |round or args L' H' =>
    obtain⟨vs,lb,lv,rfl,rfl,rfl,n,ko⟩:=I;simp only[Kg]at e;obtain⟨oc,M,e⟩:=mc e;obtain⟨vout,W,Y⟩:=i.r or args g.H oc M g rfl h.ok vs lb lv n ko;obtain⟨g',n1,n2,n3,n4,A,_⟩:=mb h Y;obtain⟨ve,vu,vs'⟩:=vout;simp only at n2 A;rcases e with⟨d,j,e⟩|⟨c,j,e⟩
    ·rw[j]at A;obtain⟨v,rfl,N⟩:=A;rw[<- n1]at e;obtain⟨x',g2,F,Q,R,z,U,_⟩:=fT (x:=.g d) n3 e N;rw[dc]at F;obtain⟨r,p,q⟩:=fE i F (R.put o.dst U) ((y.mono n4.le).mono z.le) ((m.mono n4.le).mono z.le);refine⟨r,?_,q.trans (n4.trans z)⟩;simp only[eo,eD,W,fS,cI,<- n2,<- Q];exact p
    ·rw[j]at A;obtain⟨Z,rfl,N⟩:=A;rw[<- n1]at e;refine⟨.panicked Z tv dsv upv vs',by simp only[eo,eD,W,fS],?_⟩;exact⟨g',O,L',LO,ds,up,c,e,n2,n3,n4,y.mono n4.le,m.mono n4.le,N⟩
   |defer df L' H' =>obtain⟨c,a,rfl,rfl,rfl,n,J,_⟩:=I;simp only[Kg,dc]at e;obtain⟨hn,e⟩:=mM e;obtain⟨rfl,_⟩:=m.nr hn;obtain⟨r,p,q⟩:=fE i e (h.put o.dst RS.u) (dsv:=.call (.func df.fn) c a::dsv) ⟨c,a,dsv,rfl,n,J,y⟩ m;refine⟨r,?_,q⟩;simp only[eo,ajp,TD,cI];exact p
   |recover L' H' =>obtain⟨rfl,rfl,rfl⟩:=I;simp only[Kg]at e;obtain⟨x,up',v,upv',e,n,J,B⟩:=Cr (LO:=LO) e m;obtain⟨r,p,q⟩:=fE i e (h.put o.dst n) y J;exact⟨r,by simp only[eo,B];exact p,q⟩
   |panic v L' H' =>obtain⟨w,rfl,rfl,rfl,n⟩:=I;simp only[Kg]at e;exact⟨_,rfl,g,O,L',LO,ds,up,_,e,rfl,h,.refl b g,y,m,⟨w,false⟩,[],rfl,n,rfl,rfl⟩
  ·have h:=h.rf hr;rw[X];rw[dc]at e;obtain⟨r,p,q⟩:=fE i e (h.put o.dst RS.u) y m;exact⟨r,by simp only[qS,cI];exact p,q⟩
end Go.AI
namespace Go.AI
variable[fY]
variable{b:Nat}{P0:List Nat}{g:Gh}{LO:List Nat}{t:T LD}{L:LS}{tv:T V}{out:js}{E:dl}{an:jd}
structure fM where
 L:LS
 g:Gh
 LO:List Nat
def Lw(c:fM):Prop:=Ok c.g/\LR c.g c.L c.LO
def yH(b:Nat)(x y:fM):Prop:=Mv b x.g y.g/\GL x.g x.L x.LO y.g y.L y.LO
theorem yH.refl(b:Nat)(x:fM):yH b x x:=⟨.refl b _,.refl _ _ _⟩
theorem yH.trans{x y z:fM}(h:yH b x y)(k:yH b y z):yH b x z:=⟨h.1.trans k.1,h.2.trans k.2⟩
def kD(b:Nat)(cur:fM):List fM->Prop
 |[]=>True
 |c::r=>Lw c/\yH b c cur/\kD b c r
theorem kD.step{x y:fM}(h:yH b x y):∀ {l:List fM},kD b x l->kD b y l
 |[],_=>trivial
 |c::r,k=>⟨k.1,k.2.1.trans h,k.2.2⟩
theorem kD.at:∀ {l:List fM} {x:fM},kD b x l->∀ {p:Nat} {c:fM},l[p]? = some c->Lw c/\yH b c x
 |[],x,_,p,c,h=>by simp at h
 |d::r,x,k,0,c,h=>by simp at h;subst h;exact⟨k.1,k.2.1⟩
 |d::r,x,k,p+1,c,h=>by obtain⟨a,e⟩:=kD.at k.2.2 (p:=p) (by simpa using h);exact⟨a,e.trans k.2.1⟩
theorem kD.two:∀ {l:List fM} {x:fM},kD b x l->∀ {p q:Nat} {c d:fM},l[p]? = some c->l[q]? = some d->p<=q->yH b d c
 |[],x,_,p,q,c,d,h,_,_=>by simp at h
 |e::r,x,k,0,0,c,d,h,a,_=>by
  have h:e=c:=by simpa using h
  have a:e=d:=by simpa using a
  subst h;subst a;exact .refl b _
 |e::r,x,k,0,q+1,c,d,h,a,_=>by
  have h:e=c:=by simpa using h
  subst h;exact(kD.at k.2.2 (p:=q) (by simpa using a)).2
 |e::r,x,k,p+1,0,c,d,h,a,i=>by omega
 |e::r,x,k,p+1,q+1,c,d,h,a,i=>kD.two k.2.2 (p:=p) (q:=q) (by simpa using h) (by simpa using a) (by omega)
theorem RS.nxt{x y:fM}(h:yH b x y){d:LD}{v:V}(r:RS x.g x.LO d v):RS y.g y.LO d v:=(r.mono h.1.le).ext h.2.pre
def SlQ(cs:List fM)(bs:T Nat)(g:Gh)(LO:List Nat)(i:Nat)(x:LD)(v:V):Prop:=RS g LO x v/\∀(p:Nat) c,cs[p]? = some c->nw bs i+p<cs.length->RS c.g c.LO x v
def tM(cs:List fM)(bs:T Nat)(t:T LD)(tv:T V)(g:Gh)(LO:List Nat):Prop:=∀ i x,t.get (fu i)=some x->∃ v,tv.get (fu i)=some v/\SlQ cs bs g LO i x v
theorem tM.rf{cs:List fM}{bs:T Nat}{t':T LD}(r:Rf t t' tv)(h:tM cs bs t tv g LO):tM cs bs t' tv g LO:=r (SlQ cs bs g LO) (fun i q=>⟨by show RD _ _ _;simp only[RD],fun p c _ _=>by show RD _ _ _;simp only[RD]⟩) h
theorem tM.nxt{cs:List fM}{bs:T Nat}{x y:fM}(h:yH b x y)(k:tM cs bs t tv x.g x.LO):tM cs bs t tv y.g y.LO:=fun i z a=>by obtain⟨v,c,d,e⟩:=k i z a;exact⟨v,c,d.nxt h,e⟩
def vj(bs:T Nat)(d:Option Tmp)(n:Nat):T Nat:=match d with
 |some i=>T.set (some n) (fu i) bs
 |none=>bs
theorem gp{β:Type}(bs:T Nat)(d:Option Tmp)(n:Nat)(κ:T Nat->β):Rh bs d n κ=κ (vj bs d n):=by
 cases d with
 |none=>rfl
 |some i=>exact T.setK_eq _ _ _ _
theorem tM.put{cs:List fM}{bs:T Nat}(h:tM cs bs t tv g LO)(d:Option Tmp){x:LD}{v:V}{n:Nat}(r:RS g LO x v)(hb:∀(p:Nat) c,cs[p]? = some c->n+p<cs.length->RS c.g c.LO x v):tM cs (vj bs d n) (mJ t d x) (putD tv d v) g LO:=by
 cases d with
 |none=>exact h
 |some i =>
  intro j y hy;simp only[mJ]at hy;rw[T.get_setN]at hy;rw[If];split at hy
  ·rename_i e;cases hy;subst e;rw[aeM rfl];refine⟨v,rfl,r,fun p c hc hp=>hb p c hc ?_⟩;have:nw (vj bs (some i) n) i=n:=by simp only[nw,vj,T.get_set_same]
   rwa [this]at hp
  ·rename_i e;rw[aeD e];obtain⟨w,a,k,l⟩:=h j y hy;refine⟨w,a,k,fun p c hc hp=>l p c hc ?_⟩;have:nw (vj bs (some i) n) j=nw bs j:=by simp only[nw,vj,T.get_setN,aeD e]
   rwa [this]at hp
theorem tM.push{cs:List fM}{bs:T Nat}{c:fM}(h:tM cs bs t tv c.g c.LO):tM (c::cs) bs t tv c.g c.LO:=fun i x j=>by
 obtain⟨v,k,e,l⟩:=h i x j;refine⟨v,k,e,fun p d a hp=>?_⟩;cases p with
 |zero =>
  have a:c=d:=by simpa using a
  subst a;exact e
 |succ p=>exact l p d (by simpa using a) (by simp only[aeJ]at hp;omega)
theorem BK{bs:T Nat}:∀ {l:List Tmp} {i:Tmp},i∈l->nw bs i<=gr bs l
 |j::r,i,h=>by
  simp only[gr];rcases aff.1 h with rfl|h
  ·exact Nat.le_max_left _ _
  ·exact ajd (BK h) (Nat.le_max_right _ _)
theorem tM.op{cs:List fM}{bs:T Nat}(h:tM cs bs t tv g LO){o:Oper}{x:Operand}(a:x∈o.op.operands.toList){p:Nat}{c:fM}(hc:cs[p]? = some c)(hb:gr bs (sees o)+p<cs.length):EA c.g c.LO t tv x:=by
 intro y hy;cases x with
 |tmp i =>obtain⟨v,e,h2,j⟩:=h i y hy;refine⟨v,e,j p c hc ?_⟩;have:nw bs i<=gr bs (sees o):=BK (by unfold sees;rw[List.mem_filterMap];exact⟨_,a,rfl⟩);omega
 |const k =>
  simp only[jx]at hy;split at hy
  ·rename_i v l;split at hy
   ·rename_i d m;cases hy;exact⟨v,l,Tj m⟩
   ·cases hy
  ·cases hy
 |global _=>cases hy
 |func f=>cases hy;exact⟨_,rfl,by show RD _ _ _;simp only[RD];exact⟨[],[],rfl,by simp only[RL],by simp only[RL]⟩⟩
theorem Fs:∀ {L M:LS} {k st:Nat} {cs:List D},(hJ.meet L M)[k]? = some (st,cs)->∃ cs0,L[k]? = some (st,cs0)/\(cs=[]\/(cs=cs0/\∃ c2,M[k]? = some (st,c2)))
 |[],M,k,st,cs,h=>by simp[hJ.meet]at h
 |(a,c)::l,[],0,st,cs,h=>by simp[hJ.meet]at h;obtain⟨rfl,rfl⟩:=h;exact⟨c,rfl,.inl rfl⟩
 |(a,c)::l,[],k+1,st,cs,h=>by
  simp only[hJ.meet,ajq]at h;obtain⟨cs0,e,d⟩:=Fs h;refine⟨cs0,by simpa using e,?_⟩;rcases d with d|⟨d,c2,i⟩
  ·exact .inl d
  ·simp at i
 |(a,c)::l,(b,c1)::m,0,st,cs,h=>by
  simp only[hJ.meet]at h;cases hb:Nat.beq a b with
  |true =>rw[hb]at h;simp at h;obtain⟨rfl,rfl⟩:=h;obtain rfl:=abr hb;exact⟨c,rfl,.inr ⟨rfl,c1,rfl⟩⟩
  |false =>rw[hb]at h;simp at h;obtain⟨rfl,rfl⟩:=h;exact⟨c,rfl,.inl rfl⟩
 |(a,c)::l,(b,c1)::m,k+1,st,cs,h=>by
  have j:(hJ.meet l m)[k]? = some (st,cs):=by simp only[hJ.meet]at h;cases hb:Nat.beq a b<;>(rw[hb]at h;simpa using h)
  obtain⟨cs0,e,d⟩:=Fs j;exact⟨cs0,by simpa using e,by simpa using d⟩
theorem uN:∀ {r:List (LS×DH)} {L:LS} {k st:Nat} {cs:List D},(hJ L r)[k]? = some (st,cs)->∃ cs0,L[k]? = some (st,cs0)/\(cs=[]\/(cs=cs0/\∀ M∈r,∃ c2,M.1[k]? = some (st,c2)))
 |[],L,k,st,cs,h=>⟨cs,h,.inr ⟨rfl,fun M e=>by cases e⟩⟩
 |(M,H)::r,L,k,st,cs,h=>by
  simp only[hJ]at h;obtain⟨cs1,i,a⟩:=uN h;obtain⟨cs0,j,c⟩:=Fs i;refine⟨cs0,j,?_⟩;rcases a with a|⟨rfl,a⟩
  ·exact .inl a
  ·rcases c with c|⟨rfl,c2,l⟩
   ·exact .inl c
   ·refine .inr ⟨rfl,fun N d=>?_⟩;rcases aff.1 d with rfl|d
    ·exact⟨c2,l⟩
    ·exact a N d
theorem Gs{r:List DH}:∀ {H:DH} {i o:Nat},(Pl r i H)[o]? =(H[o]?).map (DD r (i+o))
 |[],i,o=>by simp[Pl]
 |b::t,i,0=>by simp[Pl]
 |b::t,i,o+1=>by simp only[Pl,ajq];rw[Gs,show i+1+o=i+(o+1)by omega]
theorem Li{H:DH}{r:List DH}{o:Nat}{x:DB}(h:(fX H r)[o]? = some x):x=.dead\/∃ st cs,x=.cells st cs/\H[o]? = some (.cells st cs)/\∀ c∈r,c[o]? = some (.cells st cs):=by
 rw[fX,Gs,aiv]at h;cases hb:H[o]? with
 |none=>rw[hb]at h;cases h
 |some b =>
  rw[hb]at h;have h:DD r o b=x:=by simpa using h
  subst h;cases b with
  |cells st cs =>
   simp only[DD];split
   ·rename_i a;exact .inr ⟨st,cs,rfl,rfl,a⟩
   ·exact .inl rfl
  |_=>exact .inl rfl
mutual
theorem pm:∀ v:V,bp.sameV v v=true
 |.bool b=>by simp[bp.sameV]
 |.int k n=>by simp[bp.sameV]
 |.str l=>by simp[bp.sameV]
 |.ptr a=>by simp[bp.sameV]
 |.nilptr=>rfl
 |.slice a z n c sz=>by simp[bp.sameV]
 |.nilslice=>rfl
 |.map r=>by simp[bp.sameV]
 |.nilmap=>rfl
 |.func f a b=>by simp[bp.sameV,gX a,gX b]
 |.nilFunc=>rfl
 |.iface t v=>by simp[bp.sameV,pm v]
 |.nilIface=>rfl
 |.agg l=>by simp[bp.sameV,gX l]
 |.tuple l=>by simp[bp.sameV,gX l]
 |.atom i=>by simp[bp.sameV]
theorem gX:∀ l:List V,bp l l=true
 |[]=>rfl
 |v::r=>by simp[bp,pm v,gX r]
end
theorem vi{E:dL}{o:Oper}{v:V}:∀ {l:List S},l≠[]->(∀ s∈l,dH o.op E tv s=some (.val v s))->gL E tv o l=some v
 |[],h,_=>(h rfl).elim
 |[s],_,h=>by simp only[gL,dI,h s aeK]
 |s::s2::r,_,h=>by have a:=vi (l:=s2::r) (by simp) fun x c=>h x (abE _ c);simp only[gL,dI,h s aeK]at a ⊢;rw[a];simp only[bp,pm,ajc,ge]
theorem RS.same_at{cs:List fM}{cur:fM}(a:kD b cur cs){x:LD}{v:V}{p:Nat}{c:fM}(hc:cs[p]? = some c)(r:RS c.g c.LO x v):RS cur.g cur.LO x v/\∀(q:Nat) d,cs[q]? = some d->q<=p->RS d.g d.LO x v :=
 ⟨r.nxt (a.at hc).2,fun q d e h=>r.nxt (a.two e hc h)⟩
theorem dY{α:Type}{l:List α}{i:Nat}{x:α}(h:l[i]? = some x):i<l.length:=by
 rcases aiA i l.length with q|q
 ·exact q
 ·rw[aeF q]at h;cases h
theorem KQ{cs:List fM}{bs:T Nat}{o:Oper}{κ:T LD->CN->au}(hk:aP E.E.P o.op=0)(h:Ok g)(r:kD b ⟨L,g,LO⟩ cs)(u:tM cs bs t tv g LO)(e:oE o.op E false t [] [] κ=some out) :
 ∃ t' d v,κ t' (.val d [] [])=some out/\dH o.op E.E tv g.s=some (.val v g.s)/\Rf t t' tv/\RS g LO d v/\∀(p:Nat) c,cs[p]? = some c->gr bs (sees o)+p<cs.length->RS c.g c.LO d v:=by
 by_cases hb:gr bs (sees o)<cs.length
 ·have hp:cs.length - 1 - gr bs (sees o)<cs.length:=by omega
  have hc:=abF hp;generalize cs[cs.length - 1 - gr bs (sees o)]=c at hc;obtain⟨⟨w,_⟩,z⟩:=r.at hc;have ho:∀ x∈o.op.operands.toList,EA c.g c.LO t tv x:=fun x a=>u.op a hc (by omega);obtain⟨t',d,v,j,l,m,n⟩:=ss (L:=[]) o.op (by omega) (.inr rfl) ho w (fun k x f a=>by simp at a) (hQ.nil _) e;have hst:=Dm (L:=[]) (g':=g) o.op (by omega) ho w (fun k x f a=>by simp at a) (hQ.nil _) xy.nil e z.1.le (fun k y f a=>by simp at a) (fun o st cs f v a=>by simp at a) v l;obtain⟨A,B⟩:=m.same_at r hc;exact⟨t',d,v,j,hst,n,A,fun p F q hp'=>B p F q (by omega)⟩
 ·have ho:∀ x∈o.op.operands.toList,EA g LO t tv x:=fun x _=>CM.op (fun i y hy=>by obtain⟨v,G,H,_⟩:=u i y hy;exact⟨v,G,H⟩) x;obtain⟨t',d,v,j,l,m,n⟩:=ss (L:=[]) o.op (by omega) (.inr rfl) ho h (fun k x f a=>by simp at a) (hQ.nil _) e;exact⟨t',d,v,j,l,n,m,fun p c hc hp=>by omega⟩
def hD(c:fM):LS×DH:=(c.L,c.g.H)
theorem KP{cs:List fM}{bs:T Nat}{o:Oper}{w:Nat}{κ:T LD->LD->au}(hk:aP E.E.P o.op<=1)(I:∀ ty x lo hi mx,o.op≠.slice ty x lo hi mx)(F:kD b ⟨L,g,LO⟩ cs)(hs:tM cs bs t tv g LO)(hw:w<=cs.length)(hb:gr bs (sees o)<=cs.length - w)(e:Dg E o ((cs.map hD).take w) t κ=some out) :
 ∃ t' d v,κ t' d=some out/\gL E.E tv o ((cs.map fun c=>c.g.s).take w)=some v/\Rf t t' tv/\RS g LO d v/\∀(p:Nat) c,cs[p]? = some c->cs.length - w+p<cs.length->RS c.g c.LO d v:=by
 cases cs with
 |nil=>cases w<;>simp[Dg]at e
 |cons a rest =>
  cases w with
  |zero=>simp[Dg]at e
  |succ w =>
   rw[aeL,ajs]at e;simp only[Dg]at e;cases w with
   |zero =>rw[List.take_zero]at e;simp only at e;have hc:(a::rest)[0]? = some a:=rfl;obtain⟨⟨J,G⟩,h3⟩:=F.at hc;have ho:∀ x∈o.op.operands.toList,EA a.g a.LO t tv x:=fun x i=>hs.op i hc (by simp only[aeJ]at hb ⊢;omega);obtain⟨t',d,v,r,l,A,U⟩:=ss o.op hk (.inl I) ho J G.2 (hQ.refl _) e;obtain⟨W,X⟩:=A.same_at F hc;refine⟨t',d,v,r,?_,U,W,fun p Y B Z=>X p Y B (by omega)⟩;simp only[aeL,ajs,List.take_zero,gL,dI,l]
   |succ w =>
    have K:w+1<(a::rest).length:=by simp only[aeJ]at hw ⊢;omega
    cases rest with
    |nil=>simp at K
    |cons c1 rest =>
     rw[aeL,ajs]at e;simp only[aeL,ajQ]at e;have hc:=abF K;generalize(a::c1::rest)[w+1]=c at hc;have hc0:(a::c1::rest)[0]? = some a:=rfl;obtain⟨⟨J,G⟩,h3⟩:=F.at hc;have ho:∀ x∈o.op.operands.toList,EA c.g c.LO t tv x:=fun x i=>hs.op i hc (by simp only[aeJ]at hb hw ⊢;omega);have inw:∀(q:Nat) d,(a::c1::rest)[q]? = some d->1<=q->q<=w+1->hD d∈hD c1::(rest.map hD).take w:=fun q d j J G=>by
      cases q with
      |zero=>omega
      |succ q =>
       have j:(c1::rest)[q]? = some d:=by simpa using j
       have:((c1::rest).map hD |>.take (w+1))[q]? = some (hD d):=by rw[ajW,aeM (by omega),aiO,j];rfl
       exact aiR this
     have key:∀ {k st:Nat} {x:List D},(hJ (hD a).1 (hD c1::(rest.map hD).take w))[k]? = some (st,x)->x≠[]->∀(q:Nat) d,(a::c1::rest)[q]? = some d->q<=w+1->∀ f,d.LO[k]? = some f->∃ c2,d.L[k]? = some (st,c2):=fun {k st x} i h q d j m f n=>by
      obtain⟨x0,r,l⟩:=uN i;rcases l with l|⟨rfl,l⟩
      ·exact(h l).elim
      ·cases q with
       |zero =>
        have:a=d:=by simpa using j
        subst this;exact⟨x,r⟩
       |succ q=>exact l _ (inw (q+1) d j (by omega) m)
     have M:LRw c.g (hJ (hD a).1 (hD c1::(rest.map hD).take w)) c.LO:=fun k x f i n=>by
      obtain⟨st,x⟩:=x;by_cases h:x=[]
      ·subst h;have hkl:k<c.L.length:=by rw[G.1];exact dY n
       exact⟨(G.2 k _ f (abF hkl) n).1,.inl rfl⟩
      ·obtain⟨c2,r⟩:=key i h (w+1) c hc (abD _) f n;obtain⟨x0,l,A⟩:=uN i;rcases A with A|⟨rfl,_⟩
       ·exact(h A).elim
       ·obtain⟨st',cs',u,j2,N⟩:=(F.two hc0 hc (aje _)).2.pvn k st c2 f r n;have:(hD a).1=a.L:=rfl;rw[this]at l;rw[l]at u;cases u;obtain⟨rfl,_⟩:=N rfl;exact G.2 k _ f r n
     have heap:∀ {o:Nat} {x:DB},(fX (hD a).2 ((hD c1::(rest.map hD).take w).map (·.2)))[o]? = some x->x=.dead\/∃ st cs,x=.cells st cs/\∀(q:Nat) d,(a::c1::rest)[q]? = some d->q<=w+1->d.g.H[o]? = some (.cells st cs):=fun {o x} i=>by
      rcases Li i with q|⟨st,cs,rfl,q1,Q⟩
      ·exact .inl q
      ·refine .inr ⟨st,cs,rfl,fun q d j m=>?_⟩;cases q with
       |zero =>
        have:a=d:=by simpa using j
        subst this;exact q1
       |succ q=>exact Q _ (ajt.2 ⟨hD d,inw (q+1) d j (by omega) m,rfl⟩)
     have z:hQ (fX (hD a).2 ((hD c1::(rest.map hD).take w).map (·.2))) c.g:=fun o x i=>by
      rcases heap i with q|⟨st,cs,rfl,q⟩
      ·exact .inl q
      ·exact .inr (q (w+1) c hc (abD _))
     have hOnly:xy (fX (hD a).2 ((hD c1::(rest.map hD).take w).map (·.2))):=fun o x i=>by
      rcases heap i with q|⟨st,cs,q,_⟩
      ·exact .inl q
      ·exact .inr ⟨st,cs,q⟩
     have e':oE o.op E false t (hJ (hD a).1 (hD c1::(rest.map hD).take w)) (fX (hD a).2 ((hD c1::(rest.map hD).take w).map (·.2))) (fun t x=>Ci (fun t x _ _=>κ t x) t x)=some out:=by simpa[ajQ]using e
     obtain⟨t',d,v,r,l,A,U⟩:=ss o.op hk (.inl I) ho J M z e';obtain⟨W,X⟩:=A.same_at F hc;refine⟨t',d,v,r,?_,U,W,fun p Y B Z=>X p Y B (by omega)⟩;refine vi (by simp) fun s hs'=>?_;obtain⟨q,m⟩:=akT hs';rw[ajW]at m;split at m
     ·rename_i hql;rw[aiO]at m;cases j:(a::c1::rest)[q]? with
      |none=>rw[j]at m;cases m
      |some d' =>
       rw[j]at m;cases m;have R:=F.two j hc (by omega);refine Dm (g':=d'.g) o.op hk ho J M z hOnly e' R.1.le (fun k y f hy n h=>?_) (fun o' st cs f v i hO=>?_) v l
       ·obtain⟨st,y⟩:=y;obtain⟨c2,m1⟩:=key hy h (w+1) c hc (abD _) f n;obtain⟨qq,O⟩:=R.2.pre;obtain⟨c3,m2⟩:=key hy h q d' j (by omega) f (by rw[<- O];exact fH _ n);obtain⟨st',cs',u,j2,N⟩:=R.2.pvn k st c2 f m1 n;rw[m2]at u;cases u;exact(N rfl).2
       ·rcases heap i with q'|⟨st',cs',q1,Q⟩
        ·cases q'
        ·cases q1;obtain⟨s2,c2,u,j2,N⟩:=R.1.stm o' st cs f v (Q (w+1) c hc (abD _)) hO;rw[Q q d' j (by omega)]at u;cases u;exact(N rfl).2
     ·cases m
end Go.AI
namespace Go.AI
variable[fY]
variable{b:Nat}{P0:List Nat}{g:Gh}{LO:List Nat}{t:T LD}{L:LS}{tv:T V}{out:js}{E:dl}{an:jd}{rec:qj}
theorem PW{κ:T LD->LD->LS->DH->au}{x:CN}(h:Ci κ t x=some out):∃ d L' H',x=.val d L' H'/\κ t d L' H'=some out:=by
 unfold Ci at h;split at h
 ·exact⟨_,_,_,rfl,h⟩
 ·cases h
theorem FI.cfg(h:FI b P0 g t L tv LO):Lw ⟨L,g,LO⟩:=⟨h.ok,h.own⟩
theorem FI.sl(h:FI b P0 g t L tv LO){cs:List fM}{bs:T Nat}{t':T LD}(a:tM cs bs t' tv g LO):FI b P0 g t' L tv LO:=⟨h.ok,fun i x c=>by obtain⟨v,d,e,_⟩:=a i x c;exact⟨v,d,e⟩,h.own,h.pv,h.low,h.nd,h.bl⟩
theorem tM.of(h:CM g LO t tv)(bs:T Nat):tM [⟨L,g,LO⟩] bs t tv g LO:=fun i x d=>by
 obtain⟨v,e,a⟩:=h i x d;refine⟨v,e,a,fun p c hc _=>?_⟩;cases p with
 |zero =>
  have hc:(⟨L,g,LO⟩:fM)=c:=by simpa using hc
  subst hc;exact a
 |succ p=>simp at hc
theorem qM(N:Ls E.E rec){ops:Array Oper}{k:T LD->LS->DH->au}{dsv:List eS}{upv:Option Md}:∀ {sc:List (Option Nat×Nat)} {cs:List fM} {n:Nat} {bs:T Nat} {t:T LD} {L:LS} {g:Gh} {LO:List Nat} {tv:T V},
 gJ E an ops rec k sc (cs.map hD) n bs t L g.H=some out->n=cs.length->FI b P0 g t L tv LO->kD b ⟨L,g,LO⟩ cs->tM cs bs t tv g LO ->
 ∃ tv' s',jh E.E ops (bR (lim E.E)) dsv upv sc (cs.map fun c=>c.g.s) tv g.s=some (.on tv' dsv upv s')/\∃ g' t' L' LO',k t' L' g'.H=some out/\g'.s=s'/\FI b P0 g' t' L' tv' LO'/\Mv b g g'
 |[],cs,n,bs,t,L,g,LO,tv,e,hn,h,hh,hs=>⟨tv,g.s,rfl,g,t,L,LO,e,rfl,h,.refl b g⟩
 |(c,i)::sc,cs,n,bs,t,L,g,LO,tv,e,hn,h,hh,hs=>by
  simp only[gJ]at e;simp only[jh];split at e
  ·cases e
  ·rename_i o ho;rw[ho];simp only
   have on:∀ {B:T LD} {x:LD} {v:V} {m:Nat} {w:LS} {j:Gh} {LO1:List Nat},FI b P0 j B w tv LO1->yH b ⟨L,g,LO⟩ ⟨w,j,LO1⟩->tM cs bs B tv g LO->RS j LO1 x v->(∀(p:Nat) c,cs[p]? = some c->m+p<cs.length->RS c.g c.LO x v) ->
    gJ E an ops rec k sc (cs.map hD) n (vj bs o.dst m) (mJ B o.dst x) w j.H=some out ->
    ∃ tv' s',jh E.E ops (bR (lim E.E)) dsv upv sc (cs.map fun c=>c.g.s) (putD tv o.dst v) j.s=some (.on tv' dsv upv s')/\∃ g' t' L' LO',k t' L' g'.H=some out/\g'.s=s'/\FI b P0 g' t' L' tv' LO'/\Mv b g g':=fun {B x v m w j LO1} F z a hr hm e1=>by
    have l:tM cs bs B tv j LO1:=tM.nxt (x:=⟨L,g,LO⟩) (y:=⟨w,j,LO1⟩) z a;obtain⟨tv',s',O,g',t',L',LO',K,M,Z,k5⟩:=qM N e1 hn (F.put o.dst hr) (hh.step z) (l.put o.dst hr hm);exact⟨tv',s',O,g',t',L',LO',K,M,Z,z.1.trans k5⟩
   have on2:∀ {B:T LD} {x:LD} {v:V} {w:LS} {j:Gh} {LO1:List Nat} {m:Nat},FI b P0 j B w tv LO1->yH b ⟨L,g,LO⟩ ⟨w,j,LO1⟩->tM cs bs B tv g LO->RS j LO1 x v->(∀(p:Nat) c,(⟨w,j,LO1⟩::cs)[p]? = some c->m+p<cs.length+1->RS c.g c.LO x v) ->
    gJ E an ops rec k sc ((w,j.H)::cs.map hD) (n+1) (vj bs o.dst m) (mJ B o.dst x) w j.H=some out ->
    ∃ tv' s',jh E.E ops (bR (lim E.E)) dsv upv sc (j.s::cs.map fun c=>c.g.s) (putD tv o.dst v) j.s=some (.on tv' dsv upv s')/\∃ g' t' L' LO',k t' L' g'.H=some out/\g'.s=s'/\FI b P0 g' t' L' tv' LO'/\Mv b g g':=fun {B x v w j LO1 m} F z a hr hm e1=>by
    have l:tM cs bs B tv j LO1:=tM.nxt (x:=⟨L,g,LO⟩) (y:=⟨w,j,LO1⟩) z a;have hs3:tM (⟨w,j,LO1⟩::cs) bs B tv j LO1:=tM.push (c:=⟨w,j,LO1⟩) l;obtain⟨tv',s',O,g',t',L',LO',K,M,Z,k5⟩:=qM N (cs:=⟨w,j,LO1⟩::cs) e1 (by simp[hn]) (F.put o.dst hr) ⟨F.cfg,.refl b _,hh.step z⟩ (hs3.put o.dst hr hm);exact⟨tv',s',O,g',t',L',LO',K,M,Z,z.1.trans k5⟩
   cases c with
   |some c =>
    simp only at e;rcases yK e h.slots with⟨hw,B,e,hr⟩|⟨hw,B,e,hr⟩
    ·have a:=hs.rf hr;have F:=h.sl a;rw[hw];simp only[kb];cases hk:aP E.E.P o.op with
     |zero =>
      rw[hk]at e;simp only[ru]at e;obtain⟨t2,d,v,e,O,K,M,Z⟩:=KQ hk F.ok hh a e;have l:=a.rf K;have Y:=F.sl l;simp only[Ci]at e;obtain⟨x',Q,r,A,R,U,G,j6⟩:=fT Y e M;rw[dc,gp]at r;have z:yH b ⟨L,g,LO⟩ ⟨L,Q,LO⟩:=⟨U,.ps A⟩;simp only[oT,dI,O,xW];cases I:rl an o.dst with
      |true =>rw[I]at r;simp only[ge]at r;have:=on R z l G (fun p c hc hp=>by have:=dY hc;omega) r;rw[A]at this;exact this
      |false =>rw[I]at r;simp only[TD]at r;obtain⟨rfl,rfl⟩:=j6 I;exact on Y (.refl b _) l G Z r
     |succ q =>
      cases q with
      |zero =>
       have hns:∀ ty x lo hi mx,o.op≠.slice ty x lo hi mx:=fun _ _ _ _ _ q=>by rw[q]at hk;simp[aP]at hk
       rw[hk]at e;simp only[ru]at e;obtain⟨hc,e⟩:=aQ e;simp only[abA]at hc;subst hn;obtain⟨t2,d,v,e,O,K,M,Z⟩:=KP (by omega) hns hh a (aeb hc.2) (aeb hc.1) e;have l:=a.rf K;have Y:=F.sl l;obtain⟨x',Q,r,A,R,U,G,j6⟩:=fT Y e M;rw[dc,gp]at r;have z:yH b ⟨L,g,LO⟩ ⟨L,Q,LO⟩:=⟨U,.ps A⟩;simp only[oT,O,si];cases I:rl an o.dst with
       |true =>rw[I]at r;simp only[ge]at r;have:=on R z l G (fun p c hc hp=>by omega) r;rw[A]at this;exact this
       |false =>rw[I]at r;simp only[TD]at r;obtain⟨rfl,rfl⟩:=j6 I;exact on Y (.refl b _) l G Z r
      |succ q =>
       cases q with
       |zero =>rw[hk]at e;simp only[ru]at e;obtain⟨t2,x,nx,e,O,K,M⟩:=Kc o.op F e;have l:=a.rf K;obtain⟨d,L',H',hx',e'⟩:=PW e;subst hx';clear e;obtain⟨v,s',rfl,j,LO1,m1,X,W,m4,m5,m6⟩:=M;have W:=W.rf K;rw[<- m1]at e';have e:=e';obtain⟨x',Q,r,A,R,U,G,j6⟩:=fT W e m6;rw[dc,gp]at r;have z:yH b ⟨L,g,LO⟩ ⟨L',Q,LO1⟩:=yH.trans (y:=⟨L',j,LO1⟩) ⟨m4,m5⟩ ⟨U,.ps A⟩;simp only[oT,dI,O,xX];have:=on R z l G (fun p c hc hp=>by have:=dY hc;omega) r;rw[A,X]at this;exact this
       |succ q=>rw[hk]at e;simp only[ru]at e;cases e
    ·have a:=hs.rf hr;have F:=h.sl a;rw[hw];simp only[kb];rw[dc,gp]at e;exact on F (.refl b _) a RS.u (fun p c _ _=>rfl) e
   |none =>
    simp only at e;rcases yK e h.slots with⟨hw,B,e,hr⟩|⟨hw,B,e,hr⟩
    ·have a:=hs.rf hr;have F:=h.sl a;rw[hw];obtain⟨t2,x,nx,e,O,K,M⟩:=Kc o.op F e;have l:=a.rf K;have Y:=F.sl l;simp only[fV,dI,O];have born:∀ {w:LS} {j:Gh} {LO1:List Nat} {x:LD} {v:V},RS j LO1 x v->∀(p:Nat) c,(⟨w,j,LO1⟩::cs)[p]? = some c->n+p<cs.length+1->RS c.g c.LO x v:=fun {w j LO1 x v} hr p c hc hp=>by
      cases p with
      |zero =>
       have hc:(⟨w,j,LO1⟩:fM)=c:=by simpa using hc
       subst hc;exact hr
      |succ p=>omega
     cases x with
     |val d L' H' =>obtain⟨v,s',rfl,j,LO1,m1,X,W,m4,m5,m6⟩:=M;have W:=W.rf K;simp only[Ga,<- m1]at e;obtain⟨x',Q,r,A,R,U,G,j6⟩:=fT W e m6;rw[dc,gp]at r;have z:yH b ⟨L,g,LO⟩ ⟨L',Q,LO1⟩:=yH.trans (y:=⟨L',j,LO1⟩) ⟨m4,m5⟩ ⟨U,.ps A⟩;have:=on2 R z l G (born G) r;rw[A,X]at this;have J:Nat.ble g.s.next s'.next=true:=aeI (by rw[<- X];exact m4.le.next);simp only[lW,J,ge];exact this
     |skip L' H' =>obtain⟨s',rfl,j,LO1,m1,X,W,m4,m5,_⟩:=M;have W:=W.rf K;simp only[Ga,<- m1]at e;obtain⟨x',Q,r,A,R,U,G,j6⟩:=fT (x:=.u) (v:=V.undef) W e RS.u;rw[dc,gp]at r;have z:yH b ⟨L,g,LO⟩ ⟨L',Q,LO1⟩:=yH.trans (y:=⟨L',j,LO1⟩) ⟨m4,m5⟩ ⟨U,.ps A⟩;have:=on2 R z l G (born G) r;rw[A,X]at this;have J:Nat.ble g.s.next s'.next=true:=aeI (by rw[<- X];exact m4.le.next);simp only[lW,J,ge];exact this
     |enter f args L' H' =>
      obtain⟨vs,rfl,rfl,rfl,q1,_⟩:=M;simp only[Ga]at e;obtain⟨oc,hoc,e⟩:=mc e;obtain⟨vout,m1,X⟩:=N.c f args none g.H oc hoc g rfl Y.ok vs none q1 rfl;have hkeep:=X;obtain⟨j,n1,n2,n3,n4,n5,_,hpv⟩:=mb Y X;obtain⟨ve,vu,vs'⟩:=vout;simp only at n2 n5;rcases e with⟨d,hd1,e⟩|⟨c,hd1,e⟩
      ·rw[hd1]at n5;obtain⟨v,rfl,n6⟩:=n5;rw[<- n1]at e;obtain⟨x',Q,r,A,R,U,G,_⟩:=fT (x:=.g d) n3 e n6;rw[dc,gp]at r;have z:yH b ⟨L',g,LO⟩ ⟨L',Q,LO⟩:=yH.trans (y:=⟨L',j,LO⟩) ⟨n4,hpv⟩ ⟨U,.ps A⟩;have:=on2 R z l G (born G) r;rw[A,n2]at this;have J:Nat.ble g.s.next vs'.next=true:=aeI (by rw[<- n2];exact n4.le.next);simp only[lW,bR,m1,uK,J,ge];exact this
      ·cases e
     |defer _ _ _=>simp only[Ga]at e;cases e
     |recover _ _=>simp only[Ga]at e;cases e
     |panic _ _ _=>simp only[Ga]at e;cases e
     |round _ _ _ _=>simp only[Ga]at e;cases e
    ·have a:=hs.rf hr;have F:=h.sl a;rw[hw];rw[dc,gp]at e;have:=on2 F (.refl b _) a (x:=.u) (v:=V.undef) RS.u (fun p c _ _=>rfl) e;have J:Nat.ble g.s.next g.s.next=true:=aeI (abD _);simp only[fV,J,ge];exact this
end Go.AI
namespace Go.AI
variable[fY]
variable{b:Nat}{P0:List Nat}{g:Gh}{LO:List Nat}{t:T LD}{L:LS}{tv:T V}{out:js}{E:dl}{an:jd}{rec:qj}
structure Ue(E:dl):Prop where
 no:∀ f,E.vo f=false->∀ vs s,E.E.orc f vs s=none
 yes:∀ f args H d H',E.orc f args H=some (d,H')->∀ g:Gh,g.H=H->Ok g->∀ vs,RL g args vs->∃ vout,lim E.E (.call f vs none) g.s=some vout/\jN g.s.next g.Pv g ⟨.ret d,none,H'⟩ vout
def PT(E:dl)(f:FuncId)(fn:Func)(go:tS):Prop:=∀ t L todo ds m up H out,go t L todo ds m up H=some out->∀ b P0 (g:Gh) tv LO dsv mv upv rdv,g.H=H->FI b P0 g t L tv LO->JB g ds dsv->PS g m mv->rF g up upv rdv ->
 ∃ vout,lim E.E (.frame f fn tv todo dsv mv upv rdv) g.s=some vout/\jN b P0 g out vout
structure GI(E:dl)(R:aI):Prop where
 call:Ls E.E (ub R)
 frame:∀ f fn,PT E f fn (PP R f fn)
theorem jN.trans{g':Gh}{vout:fo}(m:Mv b g g')(h:jN b P0 g' out vout):jN b P0 g out vout:=by obtain⟨a,c,d,e,i,j,k⟩:=h;exact⟨a,c,d,e,i,m.trans j,k⟩
theorem yW:∀ {l:List Nat} {κ:List LD->au},yX t l κ=some out->∃ xs,κ xs=some out/\xs.length=l.length/\∀(k:Nat) i,l[k]? = some i->xs[k]? = t.get (fu i)
 |[],κ,h=>⟨[],h,rfl,fun k i hk=>by simp at hk⟩
 |j::r,κ,h=>by
  simp only[yX]at h;unfold lD at h;split at h
  ·rename_i x a;obtain⟨xs,c,d,e⟩:=yW h;refine⟨x::xs,c,by simp[d],fun k i hk=>?_⟩;cases k with
   |zero =>
    have hk:j=i:=by simpa using hk
    subst hk;simpa using a.symm
   |succ k=>simpa using e k i (by simpa using hk)
  ·cases h
theorem ML:∀ {l:List Nat} {xs:List LD} {u:T LD} {i:Nat} {x:LD},(Yc l xs u).get (fu i)=some x->(∃(k:Nat),l[k]? = some i/\xs[k]? = some x)\/u.get (fu i)=some x
 |[],xs,u,i,x,h=>by cases xs<;>exact .inr h
 |j::r,[],u,i,x,h=>.inr h
 |j::r,y::xs,u,i,x,h=>by
  simp only[Yc]at h;rcases ML h with⟨k,a,c⟩|h
  ·exact .inl ⟨k+1,by simpa using a,by simpa using c⟩
  ·rw[T.setK_eq,id,T.get_setN]at h;split at h
   ·rename_i e;cases h;exact .inl ⟨0,by simp[e],rfl⟩
   ·exact .inr h
theorem HW{ks:List Nat}:∀ {L:LS} {i k:Nat} {x:Nat×List D},(sH ks i L)[k]? = some x->∃ st cs,L[k]? = some (st,cs)/\(x.2=[]\/x.2=cs)
 |[],i,k,x,h=>by simp[sH]at h
 |(st,cs)::r,i,0,x,h=>by simp[sH]at h;subst h;refine⟨st,cs,rfl,?_⟩;cases Vu i ks<;>simp
 |(st,cs)::r,i,k+1,x,h=>by simp only[sH,ajq]at h;obtain⟨s2,c2,a,c⟩:=HW h;exact⟨s2,c2,by simpa using a,c⟩
theorem DC{ks:List Nat}:∀ {L:LS} {i:Nat},(sH ks i L).length=L.length
 |[],_=>rfl
 |(_,_)::r,i=>by simp[sH,DC (L:=r)]
def Gh.pvd(g:Gh)(P0:List Nat):Gh:=⟨g.O,g.H,P0,g.s⟩
theorem FC(a:∀ f∈P0,f∈g.Pv):qh g (g.pvd P0):=⟨abD _,fun _ _ v h=>⟨v,h⟩,fun _ _ st cap l h=>⟨st,cap,l,h,abD _,id,fun _=>⟨rfl,rfl⟩⟩,fun _ h=>⟨h.1,fun hm=>h.2.1 (a _ hm),h.2.2⟩,fun _ _ _ _ h=>h,abD _⟩
theorem HO{n:Nat}:∀ {xs:List LD} {i k c:Nat},Dt n xs=true->xs[i]? = some (.lp k c)->k<n
 |x::r,0,k,c,h,hi=>by
  have hi:x=.lp k c:=by simpa using hi
  subst hi;simp only[Dt,abA]at h;exact kw h.1
 |x::r,i+1,k,c,h,hi=>by simp only[Dt,abA]at h;exact HO h.2 (i:=i) (by simpa using hi)
 |[],i,k,c,h,hi=>by simp at hi
theorem Ok.pvd(h:Ok g)(a:∀ f∈P0,f∈g.Pv):Ok (g.pvd P0):=⟨h.len,h.wf,h.inj,fun o f v ho=>⟨(h.lt o f v ho).1,fun hm=>(h.lt o f v ho).2 (a f hm)⟩,fun f c=>h.pv f (a f c),fun o x d=>(h.obj o x d).keep (FC a) rfl fun _ _ _=>rfl,h.gl.to fun f e hp ho=>⟨rfl,e,fun hm=>hp (a f hm),ho⟩⟩
theorem Mv.pvd(a:∀ f∈P0,f∈g.Pv):Mv b g (g.pvd P0):=⟨FC a,fun _ _ _=>rfl,fun _ _ v h _=>⟨v,h⟩,fun _ s1 c1 _ _ h _=>⟨s1,c1,h,abD _,fun _=>⟨rfl,rfl⟩⟩⟩
theorem Pj{f:FuncId}{fn:Func}{ih go:tS}(M:PT E f fn ih)(N:PT E f fn go):PT E f fn (IT an ih go):=by
 intro t L todo ds m up H out e b P0 g tv LO dsv mv upv rdv G l I hm J;have r:go t L todo ds m up H=some out->∃ vout,lim E.E (.frame f fn tv todo dsv mv upv rdv) g.s=some vout/\jN b P0 g out vout:=fun e=>N _ _ _ _ _ _ _ _ e b P0 g tv LO dsv mv upv rdv G l I hm J;unfold IT at e;split at e
 ·split at e
  ·rename_i live ks _;obtain⟨xs,e,_,O⟩:=yW e;cases o:Dt (nO ks) xs with
   |false=>rw[o]at e;cases e
   |true =>
   rw[o,ge]at e;have A:∀ f∈P0++LO.take (nO ks),f∈g.Pv:=fun f a=>by
    rw[l.pv];rcases aiq.mp a with h|h
    ·exact aiT _ h
    ·exact aiH _ (ajZ h)
   have j:=FC (g:=g) A;have B:FI b P0 (g.pvd (P0++LO.take (nO ks))) (Yc live xs .leaf) (sH ks 0 (L.take (nO ks))) tv (LO.take (nO ks)):=by
    refine⟨l.ok.pvd A,fun i x hi=>?_,⟨by rw[DC,aiu,aiu,l.own.1],fun k x f' hk a=>?_⟩,rfl,fun f a=>l.low f (ajZ a),l.nd.sublist (List.take_sublist _ _),l.bl⟩
    ·rcases ML hi with⟨k,p,n⟩|q
     ·have K:=n;rw[O k i p]at n;obtain⟨v,w,F⟩:=l.slots i x n;refine⟨v,w,?_⟩;cases x with
      |g d=>exact RD.mono j F
      |lp k' c =>obtain⟨f,Q,R⟩:=F;exact⟨f,by rw[aiV (HO o K)];exact Q,R⟩
      |u=>exact F
     ·rw[T.get_leaf]at q;cases q
    ·obtain⟨st,cs,p,n⟩:=HW hk;have y:k<nO ks:=by
      rcases aiA k (nO ks)with q|q
      ·exact q
      ·rw[aeF (by rw[aiu];omega)]at p;cases p
     rw[aiV y]at p;have z:=a;rw[aiV y]at z;obtain⟨K,w⟩:=l.own.2 k _ f' p z;refine⟨aiH _ (aiR a),?_⟩;rcases n with n|n
     ·exact .inl n
     ·rw[n];rcases w with w|⟨el,vs,U,W,X⟩
      ·exact .inl w
      ·exact .inr ⟨el,vs,U,W.mono j,X⟩
   obtain⟨vout,Y,Z⟩:=M _ _ _ _ _ _ _ _ e b P0 (g.pvd (P0++LO.take (nO ks))) tv _ dsv mv upv rdv G B (I.mono j) (hm.mono j) (J.mono j);exact⟨vout,Y,Z.trans (Mv.pvd A)⟩
  ·exact r e
 ·exact r e
theorem Vh{up:Option fe}{upv:Option Md}{rdv:Option Nat}(h:rF g up upv rdv):PH g (Rr up) upv:=by
 unfold rF at h;unfold Rr;split
 ·simp only at h;exact h.1
 ·split at h
  ·rename_i a;exact(a _ rfl).elim
  ·exact h.2
theorem FI.leave(h:FI b P0 g t L tv LO){e:GP}{ve:End}{up:Option fe}{upv:Option Md}(l:abw g e ve)(m:PH g up upv):jN b P0 g ⟨e,up,g.H⟩ ⟨ve,upv,g.s⟩:=by
 have i:∀ f∈P0,f∈g.Pv:=fun f n=>by rw[h.pv];exact aiT _ n
 have a:=FC (g:=g) i;refine⟨g.pvd P0,rfl,rfl,rfl,h.ok.pvd i,Mv.pvd i,?_,m.mono a⟩;cases e with
 |ret d=>obtain⟨v,j,k⟩:=l;exact⟨v,j,k.mono a⟩
 |pan c=>obtain⟨o,j,k⟩:=l;exact⟨o,j,k.mono a⟩
theorem om{P:Program}(h:FI b P0 g t L tv LO):∀ {l:List ResultVar} {κ:List D->au},oo P t L g.H l κ=some out->∃ ds vs,κ ds=some out/\kK P tv g.s l=some vs/\RL g ds vs
 |[],κ,e=>⟨[],[],e,rfl,by simp only[RL]⟩
 |x::r,κ,e=>by
  simp only[oo]at e;cases x with
  |tmp i =>
   simp only at e;unfold gD at e;split at e
   ·rename_i d o;obtain⟨v,k,j⟩:=h.slots i _ o;have j:RD g d v:=j;obtain⟨ds,vs,c,m,p⟩:=om h e;exact⟨d::ds,v::vs,c,by simp only[kK,pF,k,m],by simp only[RL];exact⟨v,vs,rfl,j,p⟩⟩
   ·cases e
  |cell a ty =>
   simp only at e;unfold lD at e;split at e
   ·rename_i y hy;obtain⟨w,k,j⟩:=h.slots a _ hy;obtain⟨d,v,e,c,m⟩:=HP e (hQ.refl g) h.ok h.own.2 j;obtain⟨ds,vs,q,u,z⟩:=om h e;refine⟨d::ds,v::vs,q,?_,by simp only[RL];exact⟨v,vs,rfl,m,z⟩⟩;have:∃ ad,w=.ptr ad/\loadVar P g.s ty ad=some v:=by
     unfold jn at c;split at c
     ·rename_i ad A;refine⟨ad,aiJ A,?_⟩;unfold bM at c;split at c
      ·rename_i v' B;cases c;exact B
      ·cases c
     ·cases c
    obtain⟨ad,rfl,n⟩:=this;simp only[kK,pF,k,n,u]
   ·cases e
theorem Mk:∀ {l:List (Nat×Nat×Hk)} {g:Gh} {ds:List D} {vs:List V} {κ:List D->DH->au},FI b P0 g t L tv LO->UM l ds g.H κ=some out->RL g ds vs->∃ ds' g',κ ds' g'.H=some out/\g'.s=g.s/\FI b P0 g' t L tv LO/\Mv b g g'/\RL g' ds' vs
 |[],g,ds,vs,κ,h,e,r=>⟨ds,g,e,rfl,h,.refl b g,r⟩
 |(i,c,k)::l,g,ds,vs,κ,h,e,r=>by
  simp only[UM]at e;obtain⟨d,j,e⟩:=jL e;obtain⟨v,m,n⟩:=r.at j;obtain⟨o,g',p,q,u,a,w⟩:=Ar h e n;have hr:RL g' (ds.set i o) vs:=by
   have:=(r.mono a.le).set i w
   rwa [lr m]at this
  obtain⟨ds2,x,y,z,A,B,F⟩:=Mk u p hr;exact⟨ds2,x,y,z.trans q,A,a.trans B,F⟩
theorem Zo{ds:List D}{vs:List V}(r:RL g ds vs):RD g (Rt ds) (zJ vs):=by
 cases ds with
 |nil=>simp only[RL]at r;subst r;simp only[Rt,zJ,RD];exact⟨[],rfl,by simp only[RL]⟩
 |cons d ds =>
  have c:=r;simp only[RL]at r;obtain⟨v,vs',rfl,e,a⟩:=r;cases ds with
  |nil=>simp only[RL]at a;subst a;exact e
  |cons d2 ds =>simp only[RL]at a;obtain⟨v2,vs2,rfl,_,_⟩:=a;simp only[Rt,zJ,RD];exact⟨_,rfl,c⟩
def rU:fe->fe
 |.panicking (⟨_,true⟩::_)=>.returning
 |m=>m
def Fd(m:fe)(c:List iD):fe:=match m with
 |.panicking old=>.panicking (c++old)
 |_=>.panicking c
theorem QB{m:fe}{a:Md}(h:PS g m a):PS g (rU m) (jB a):=by
 cases m with
 |run=>cases h;rfl
 |returning=>cases h;rfl
 |round _=>exact h.elim
 |panicking c =>
  obtain⟨c',rfl,d⟩:=h;cases c with
  |nil=>cases d;exact⟨[],rfl,rfl⟩
  |cons x xs =>
   obtain⟨y,c2,rfl,i,e,j⟩:=d;obtain⟨xv,xr⟩:=x;obtain⟨yv,yr⟩:=y;simp only at e;subst e;cases xr with
   |true=>rfl
   |false=>exact⟨_,rfl,⟨yv,false⟩,c2,rfl,i,rfl,j⟩
theorem jb.app:∀ {a:List iD} {e:List GN} {c:List iD} {d:List GN},jb g a e->jb g c d->jb g (a++c) (e++d)
 |[],_,c,d,h,k=>by cases h;exact k
 |x::r,_,c,d,h,k=>by obtain⟨y,i,rfl,j,l,m⟩:=h;exact⟨y,i++d,rfl,j,l,m.app k⟩
theorem Ra{m:fe}{d:Md}{c:List iD}{a:List GN}(h:PS g m d)(k:jb g c a):PS g (Fd m c) (sk d a):=by
 cases m with
 |run=>cases h;exact⟨a,rfl,k⟩
 |returning=>cases h;exact⟨a,rfl,k⟩
 |round _=>exact h.elim
 |panicking old =>obtain⟨o',rfl,e⟩:=h;exact⟨a++o',rfl,k.app e⟩
theorem ZD{m:fe}{a:Md}(h:PS g m a):m=.run↔a=.run:=by
 cases m with
 |run=>cases h;exact⟨fun _=>rfl,fun _=>rfl⟩
 |returning=>cases h;exact⟨(fun q=>by cases q),(fun q=>by cases q)⟩
 |panicking c=>obtain⟨c',rfl,_⟩:=h;exact⟨(fun q=>by cases q),(fun q=>by cases q)⟩
 |round _=>exact h.elim
end Go.AI
namespace Go.AI
variable[fY]
variable{b:Nat}{P0:List Nat}{g:Gh}{LO:List Nat}{t:T LD}{L:LS}{tv:T V}{out:js}{E:dl}{an:jd}{rec:qj}
section frame
variable{f:FuncId}{fn:Func}{go:tS}
theorem SK{j:tR}{s:S}{o:Option fo}(h:fx E.E (lim E.E) j s=o):lim E.E j s=o:=(RV E.E j s).trans h
def Lu(x:DB):Prop:=(∀ sz st cap l,x≠.buf sz st cap l)/\∀ st cs,x≠.cells st cs
theorem qQ{o f ver:Nat}{x0 x:DB}{B0 B:eh}(ho:g.O[o]? = some (some (f,ver)))(d:g.H[o]? = some x0)(c:Lu x0)(h0:g.s.get f=some B0):xV g o x f ver ver x0 B0 B :=
 ⟨ho,d,h0,(fun _ _ _ _ q=>(c.1 _ _ _ _ q).elim),(fun a n vs hi q _=>by obtain⟨sz,cap,l,k⟩:=hi.2.2 o ver (by rw[q];exact ho);rw[d]at k;exact(c.1 _ _ _ _ (aiJ k)).elim),(fun _ _ q=>(c.2 _ _ q).elim)⟩
theorem zD{r:Bool}{f nt:Nat}{t:T LD}{ps:Array Tmp}{a b:Code}:Lu (.loop r f nt t ps a b):=⟨(fun _ _ _ _ q=>by cases q),(fun _ _ q=>by cases q)⟩
theorem Ka:Lu .coll:=⟨(fun _ _ _ _ q=>by cases q),(fun _ _ q=>by cases q)⟩
theorem zU(j:FI b P0 g t L tv LO){o l v:Nat}{r:Bool}{e nt:Nat}{t0:T LD}{ps:Array Tmp}{a h:Code}(ho:g.O[o]? = some (some (l,v)))(k:g.H[o]? = some (.loop r e nt t0 ps a h)) :
 ∃ tv0 d,g.s.get l=some (.loop (bif r then .ready else .busy) none e tv0 ps a h d nt)/\∀ i:Bool,∃ g',g'.H=g.H.set o (.loop i e nt t0 ps a h)/\g'.s=g.s.put l (.loop (bif i then .ready else .busy) none e tv0 ps a h d nt)/\FI b P0 g' t L tv LO/\Mv b g g':=by
 obtain⟨fb,tv0,d,m,n,p⟩:=j.ok.obj o _ k;rw[ho]at m;cases m;refine⟨tv0,d,n,fun i=>?_⟩;have c:xV g o (.loop i e nt t0 ps a h) l 0 0 (.loop r e nt t0 ps a h) _ (.loop (bif i then .ready else .busy) none e tv0 ps a h d nt):=qQ ho k zD n;exact⟨_,rfl,rfl,j.oput c ⟨l,tv0,d,cg ho,eV,p.mono (mR j.ok c) ajF⟩,kQ j.ok c⟩
theorem Dy(h:PT E f fn go){ds:List rD}{up:Option fe}{c:Option Code}(e:Ae go t L ds up g.H c=some out)(j:FI b P0 g t L tv LO){dsv:List eS}{upv:Option Md}{rdv:Option Nat}(m:JB g ds dsv)(a:rF g up upv rdv) :
 ∃ vout,mQ (gE (lim E.E) f fn) tv dsv upv rdv g.s c=some vout/\jN b P0 g out vout:=by
 unfold Ae at e;split at e
 ·split at e
  ·rename_i o;obtain⟨rfl,l,v,rfl,ho⟩:=a;unfold zl at e;split at e
   ·rename_i n;cases e;obtain⟨tv0,d,p,r⟩:=zU j ho n;obtain⟨g',u,w,x,y⟩:=r true;have:=x.leave (e:=.ret (.bool true)) (ve:=.returned (.bool true)) (up:=none) (upv:=none) ⟨_,rfl,by simp only[RD]⟩ rfl;rw[u]at this;refine⟨_,?_,this.trans y⟩;simp only[mQ,p,w];rfl
   ·cases e
  ·rename_i i;have k:=a.nr (fun o q=>i o q);clear a;obtain⟨rfl,a⟩:=k;exact h _ _ _ _ _ _ _ _ e b P0 g tv LO dsv .returning upv none rfl j m rfl (rF.mk (fun o q=>i o q) a)
 ·obtain⟨i,e⟩:=mM e;have k:=a.nr i;clear a;obtain⟨rfl,a⟩:=k;exact h _ _ _ _ _ _ _ _ e b P0 g tv LO dsv .returning upv none rfl j m rfl (rF.mk i a)
 ·cases e
theorem HY(a:PT E f fn go){ds:List rD}{up:Option fe}{k:Option (List Item)}(c:Code)(e:DE go t L ds up g.H k=some out)(d:FI b P0 g t L tv LO){dsv:List eS}{upv:Option Md}{rdv:Option Nat}(h:JB g ds dsv)(i:rF g up upv rdv) :
 ∃ vout,rg (gE (lim E.E) f fn) tv dsv upv rdv g.s c k=some vout/\jN b P0 g out vout:=by
 unfold DE at e;split at e
 ·exact a _ _ _ _ _ _ _ _ e b P0 g tv LO dsv .run upv rdv rfl d h rfl i
 ·cases e
theorem On(p:PT E f fn go)(q:Ls E.E rec){k:List Item}{ds:List rD}{up:Option fe}{ps:Array Tmp}{a h:Code}{d:D}{v:V}(e:Fb f fn.ntmps go rec k t L ds up g.H ps a h d=some out)(o:FI b P0 g t L tv LO){dsv:List eS}{upv:Option Md}{rdv:Option Nat}(X:JB g ds dsv)(hu:rF g up upv rdv)(Y:RD g d v) :
 ∃ vout,gw f fn.ntmps (gE (lim E.E) f fn) (bR (lim E.E)) k tv dsv upv rdv g.s ps a h (some v)=some vout/\jN b P0 g out vout:=by
 unfold Fb OP at e;split at e
 ·split at e
  ·rename_i gf first cap
   obtain⟨J,e⟩:=mM e;obtain⟨rfl,r⟩:=hu.nr J;simp only[RD]at Y;obtain⟨Z,u,rfl,j1,j2⟩:=Y;have K:LO=[]:=aji (by rw[<- o.own.1];rfl);subst K;have j:=o.mkobj (x:=.coll) (B:=.deferred) ⟨g.s.next,oG o.ok _ _,su _ _⟩;have v1:=qV o.ok o.bl .coll .deferred;have o1:(g.obj .coll .deferred).O[g.H.length]? = some (some (g.s.next,0)):=oG o.ok _ _;have l:(g.obj .coll .deferred).H=g.H++[.coll]:=rfl;have i:(g.obj .coll .deferred).s=g.s.alloc .deferred:=rfl;generalize g.obj .coll .deferred=m at j v1 o1 l i;have f2:=j.mkobj (x:=.loop true f fn.ntmps t ps a h) (B:=.loop .ready none f tv ps a h g.s.next fn.ntmps) ⟨m.s.next,tv,g.s.next,oG j.ok _ _,su _ _,j.slots.mono (Af j.ok.len _ _) ajF⟩;have M:=qV j.ok j.bl (.loop true f fn.ntmps t ps a h) (.loop .ready none f tv ps a h g.s.next fn.ntmps);have G:=oG j.ok (.loop true f fn.ntmps t ps a h) (.loop .ready none f tv ps a h g.s.next fn.ntmps);have y:(m.obj (.loop true f fn.ntmps t ps a h) (.loop .ready none f tv ps a h g.s.next fn.ntmps)).H=g.H++[.coll,.loop true f fn.ntmps t ps a h]:=by simp[Gh.obj,l]
   have z:(m.obj (.loop true f fn.ntmps t ps a h) (.loop .ready none f tv ps a h g.s.next fn.ntmps)).s=(g.s.alloc .deferred).alloc (.loop .ready none f tv ps a h g.s.next fn.ntmps):=by rw[<- i];rfl
   have N:m.H.length=g.H.length+1:=by rw[l];simp
   rw[N]at G;generalize m.obj (.loop true f fn.ntmps t ps a h) (.loop .ready none f tv ps a h g.s.next fn.ntmps)=g2 at f2 M G y z;have v12:=v1.trans M;obtain⟨oc,Q,e⟩:=mc e
   obtain⟨vout,m1,m2⟩:=q.c gf _ none _ oc Q g2 y f2.ok (Z++(.func (.yield m.s.next) [] []::u)) none
    ((j1.mono v12.le).append (by simp only[RL];exact⟨_,_,rfl,by simp only[RD];exact⟨_,_,G,rfl⟩,j2.mono v12.le⟩)) rfl
   obtain⟨g3,n1,n2,n3,n4,A,n6,_⟩:=mb f2 m2;have v13:=v12.trans n4;obtain⟨w,q1⟩:=(M.trans n4).le.o1 _ _ _ o1;obtain⟨w2,R⟩:=n4.le.o1 _ _ _ G;have F:bR (lim E.E) gf (Z++([.func (.yield (g.s.alloc .deferred).next) [] []]++u)) none ((g.s.alloc .deferred).alloc (.loop .ready none f tv ps a h g.s.next fn.ntmps))=some vout:=by rw[<- z,<- i];exact m1
   obtain⟨ve,vu,vs'⟩:=vout;simp only at n2 A;rcases e with⟨d,n,e⟩|⟨c,n,e⟩
   ·rw[n]at A;obtain⟨v,rfl,_⟩:=A;unfold Du at e;split at e
    ·rename_i f0 nt0 t0 ps0 a0 b0 hl;rw[<- n1]at hl e;obtain⟨tv0,d0,k2,_⟩:=zU n3 R hl;have c:xV g3 (g.H.length+1) .opq m.s.next w2 w2 _ _ (.loop .exhausted none f0 tv0 ps0 a0 b0 d0 nt0):=qQ R hl zD k2;have f4:=n3.oput c ⟨_,_,cg R⟩;have I:=kQ (b:=b) n3.ok c;obtain⟨w3,q3⟩:=I.le.o1 _ _ _ q1;obtain⟨vout,U,W⟩:=p _ _ _ _ _ _ _ _ e b P0 _ tv [] (.collected g.s.next::dsv) .run upv none rfl f4 ⟨_,w3,dsv,rfl,q3,X.mono (v13.trans I).le⟩ rfl (rF.mk J (r.mono (v13.trans I).le));refine⟨vout,?_,W.trans (v13.trans I)⟩;simp only[gw,F,kL];have k3:vs'.get (g.s.alloc .deferred).next=some (.loop .ready none f0 tv0 ps0 a0 b0 d0 nt0):=by rw[<- n2,<- i];exact k2
     simp only[k3,sF,Option.map,Option.toList,air];rw[<- n2,<- i];exact U
    ·cases e
   ·rw[n]at A;obtain⟨u,rfl,n7⟩:=A;rw[<- n1]at e;obtain⟨vout,U,W⟩:=p _ _ _ _ _ _ _ _ e b P0 g3 tv [] (.collected g.s.next::dsv) (.panicking u) upv none rfl n3 ⟨_,w,dsv,rfl,q1,X.mono v13.le⟩ ⟨u,rfl,n7⟩ (rF.mk J (r.mono v13.le));refine⟨vout,?_,W.trans v13⟩;simp only[gw,F,kL];rw[<- n2];exact U
  ·cases e
 ·cases e
theorem Bw{ds:List rD}{up:Option fe}{r:au}(h:rB go t L ds up r=some out):∃ u H,(∃ d,r=some ⟨.ret d,some u,H⟩/\u≠.run/\go t L [] ds (rU u) up H=some out)\/∃ c,r=some ⟨.pan c,some u,H⟩/\go t L [] ds (Fd u c) up H=some out:=by
 unfold rB Lc at h;split at h
 ·rename_i d u H;split at h
  ·exact⟨_,_,.inl ⟨d,rfl,(fun q=>by cases q),h⟩⟩
  ·rename_i c;unfold JY at h;split at h
   ·exact⟨_,_,.inl ⟨d,rfl,(fun q=>by cases q),h⟩⟩
   ·rename_i a;refine⟨_,_,.inl ⟨d,rfl,(fun q=>by cases q),?_⟩⟩;have:rU (.panicking c)=.panicking c:=by
     unfold rU;split
     ·rename_i q;cases q;exact(a _ _ rfl).elim
     ·rfl
    rw[this];exact h
  ·cases h
 ·rename_i c u H;split at h
  ·exact⟨_,_,.inr ⟨c,rfl,h⟩⟩
  ·exact⟨_,_,.inr ⟨c,rfl,h⟩⟩
  ·cases h
 ·cases h
theorem Tr(h:PT E f fn go)(m:Ls E.E rec):∀ {c:Code} {k:List Item} {t:T LD} {L:LS} {ds:List rD} {up:Option fe},ma c E an f fn go rec k t L ds up g.H=some out->∀ {tv:T V} {LO:List Nat} {dsv:List eS} {upv:Option Md} {rdv:Option Nat},FI b P0 g t L tv LO->JB g ds dsv->rF g up upv rdv ->
 ∃ vout,di c E.E f fn (gE (lim E.E) f fn) (bR (lim E.E)) (eD (lim E.E)) k tv dsv upv rdv g.s=some vout/\jN b P0 g out vout:=by
 intro c k t L ds up e tv LO dsv upv rdv j o p;have on:∀ {todo:List Item},go t L todo ds .run up g.H=some out->∃ vout,gE (lim E.E) f fn tv todo dsv .run upv rdv g.s=some vout/\jN b P0 g out vout:=fun e=>h _ _ _ _ _ _ _ _ e b P0 g tv LO dsv .run upv rdv rfl j o rfl p;cases c with
 |ret=>exact Dy (c:=some .ret) h e j o p
 |skip=>exact on e
 |label _=>exact on e
 |seq _ _=>exact on e
 |block _ _=>exact on e
 |loop _=>exact on e
 |scope _=>exact on e
 |exit id=>exact HY h (.exit id) e j o p
 |goto l=>exact HY h (.goto l) e j o p
 |cond c x y =>
  simp only[ma]at e;obtain⟨d,v,e,_,n,u⟩:=bI e (j.slots.op c);obtain⟨q,rfl,e⟩:=Gy e u;simp only[di,n,Gr];cases q with
  |true =>simp only[ge,rV]at e ⊢;exact h _ _ _ _ _ _ _ _ e b P0 g tv LO dsv .run upv rdv rfl (j.rf (yi n)) o rfl p
  |false =>simp only[TD,rV]at e ⊢;exact h _ _ _ _ _ _ _ _ e b P0 g tv LO dsv .run upv rdv rfl (j.rf (yi n)) o rfl p
 |region id ops draw =>
  cases draw with
  |true =>
   simp only[ma]at e;obtain⟨i,e⟩:=aQ e;split at e
   ·rename_i sc A;obtain⟨tv',s',n,g',t',L',LO',u,N,O,B⟩:=qM (b:=b) (P0:=P0) (dsv:=dsv) (upv:=upv) m (cs:=[⟨L,g,LO⟩]) e rfl j ⟨j.cfg,.refl b _,trivial⟩ (tM.of j.slots .leaf);have Q:=EW A (bR (lim E.E)) (eD (lim E.E)) tv dsv upv g.s _ n;obtain⟨vout,w,z⟩:=h _ _ _ _ _ _ _ _ u b P0 g' tv' LO' dsv .run upv rdv rfl O (o.mono B.le) rfl (p.mono B.le);refine⟨vout,?_,z.trans B⟩;simp only[di,i,ge,Q,iL,<- N];exact w
   ·cases e
  |false =>
   simp only[ma]at e;obtain⟨i,e⟩:=aQ e;obtain⟨r,n,u⟩:=fE m e j o p;cases r with
   |on tv' dsv' upv' s' =>obtain⟨g',t',L',LO',ds',up',w,z,F,G,I,J⟩:=u;obtain⟨vout,K,M⟩:=h _ _ _ _ _ _ _ _ w b P0 g' tv' LO' dsv' .run upv' rdv rfl F I rfl J;refine⟨vout,?_,M.trans G⟩;simp only[di,i,ge,n,iL,<- z];exact K
   |panicked c tv' dsv' upv' s' =>obtain⟨g',t',L',LO',ds',up',c',w,z,F,G,I,J,R⟩:=u;obtain⟨vout,K,M⟩:=h _ _ _ _ _ _ _ _ w b P0 g' tv' LO' dsv' (.panicking c) upv' rdv rfl F I ⟨c,rfl,R⟩ J;refine⟨vout,?_,M.trans G⟩;simp only[di,i,ge,n,iL,<- z];exact K
 |rangeFunc gop ps a b' =>simp only[ma]at e;obtain⟨d,v,e,_,n,u⟩:=bI e (j.slots.op gop);simp only[di,n];exact On h m e j o p u
 |refuse _=>cases e
theorem OQ(h:PT E f fn go)(r:Ls E.E rec){todo:List Item}{ds:List rD}{m:fe}{up:Option fe}(e:uF E an f fn go rec t L todo ds m up g.H=some out)(j:FI b P0 g t L tv LO){dsv:List eS}{mv:Md}{upv:Option Md}{rdv:Option Nat}(F:JB g ds dsv)(hm:PS g m mv)(p:rF g up upv rdv) :
 ∃ vout,gy E.E f fn (gE (lim E.E) f fn) (bR (lim E.E)) (eD (lim E.E)) tv todo dsv mv upv rdv g.s=some vout/\jN b P0 g out vout:=by
 have unw:∀ {m:fe} {mv:Md},PS g m mv->jA ds E an fn go rec t L m up g.H=some out->∃ vout,dM dsv E.E fn (gE (lim E.E) f fn) (bR (lim E.E)) tv mv upv rdv g.s=some vout/\jN b P0 g out vout:=fun {m mv} hm e=>by
  cases ds with
  |nil =>
   cases F;simp only[jA]at e;simp only[dM];cases m with
   |run=>simp only[jY]at e;cases e
   |round _=>exact hm.elim
   |returning =>cases hm;simp only[jY]at e;obtain⟨Z,e⟩:=mM e;have hq:=p.nr Z;clear p;obtain⟨rfl,p⟩:=hq;obtain⟨ds,vs,e,n,w⟩:=om j e;obtain⟨ds',g',e,I,h4,Y,h6⟩:=Mk j e w;cases e;have:=h4.leave (e:=.ret (Rt ds')) (ve:=.returned (zJ vs)) (up:=up) (upv:=upv) ⟨_,rfl,Zo h6⟩ (p.mono Y.le);rw[I]at this;exact⟨_,by simp only[uo,sf,n,QM],this.trans Y⟩
   |panicking c =>obtain⟨J,rfl,n⟩:=hm;simp only[jY]at e;cases e;exact⟨_,rfl,j.leave (e:=.pan c) (ve:=.panicked J) ⟨_,rfl,n⟩ (Vh p)⟩
  |cons x ds =>
   cases x with
   |coll o =>
    obtain⟨d,v,dsv',rfl,n,w⟩:=F;simp only[jA]at e;simp only[dM];unfold tz at e;split at e
    ·rename_i N;obtain⟨d',z,A⟩:=j.ok.obj o _ N;rw[n]at z;cases z;have c:xV g o .opq d 0 0 .coll _ .gone:=qQ n N Ka A;have R:=j.oput c ⟨_,_,cg n⟩;have y:=kQ (b:=b) j.ok c;obtain⟨vout,B,G⟩:=h _ _ _ _ _ _ _ _ e b P0 _ tv LO dsv' mv upv rdv rfl R (w.mono y.le) (hm.mono y.le) (p.mono y.le);refine⟨vout,?_,G.trans y⟩;simp only[lc,A];exact B
    ·cases e
   |call x =>
   obtain⟨ca,a,dsv',rfl,n,w,I⟩:=F;obtain⟨xf,xc,xa⟩:=x;simp only[jA]at e;simp only at n w;simp only[dM];obtain⟨u,H',⟨d,hr,U,e⟩|⟨c,hr,e⟩⟩:=Bw e
   ·obtain⟨vout,z,A⟩:=r.c _ _ _ _ _ hr g rfl j.ok (a++ca) (some mv) (w.append n) ⟨mv,rfl,hm⟩;obtain⟨g',n1,n2,n3,n4,K,M,_⟩:=mb j A;obtain⟨ve,vu,vs⟩:=vout;simp only at n1 n2 K M;obtain⟨v,rfl,_⟩:=K;obtain⟨O,rfl,Q⟩:=M;rw[<- n1]at e;obtain⟨vout,B,G⟩:=h _ _ _ _ _ _ _ _ e b P0 g' tv LO dsv' (jB O) upv rdv rfl n3 (I.mono n4.le) (QB Q) (p.mono n4.le);refine⟨vout,?_,G.trans n4⟩;simp only[bR,z,kj];have:O≠.run:=fun q=>U ((ZD Q).2 q);split
    ·exact(this rfl).elim
    ·rw[<- n2];exact B
   ·obtain⟨vout,z,A⟩:=r.c _ _ _ _ _ hr g rfl j.ok (a++ca) (some mv) (w.append n) ⟨mv,rfl,hm⟩;obtain⟨g',n1,n2,n3,n4,K,M,_⟩:=mb j A;obtain⟨ve,vu,vs⟩:=vout;simp only at n1 n2 K M;obtain⟨J,rfl,n8⟩:=K;obtain⟨O,rfl,Q⟩:=M;rw[<- n1]at e;obtain⟨vout,B,G⟩:=h _ _ _ _ _ _ _ _ e b P0 g' tv LO dsv' (sk O J) upv rdv rfl n3 (I.mono n4.le) (Ra Q n8) (p.mono n4.le);refine⟨vout,?_,G.trans n4⟩;simp only[bR,z,kj];rw[<- n2];exact B
 cases m with
 |run =>
  cases hm;simp only[uF]at e;simp only[gy];cases todo with
  |nil=>exact Dy (c:=none) h e j F p
  |cons i k =>
   simp only[LK]at e;simp only[oa];have on:∀ {todo:List Item},go t L todo ds .run up g.H=some out->∃ vout,gE (lim E.E) f fn tv todo dsv .run upv rdv g.s=some vout/\jN b P0 g out vout:=fun e=>h _ _ _ _ _ _ _ _ e b P0 g tv LO dsv .run upv rdv rfl j F rfl p;cases i with
   |code c=>exact Tr h r e j F p
   |inBlock _=>exact on e
   |inScope _=>exact on e
   |inLoop c=>exact on e
   |beginRound =>
    simp only[Sn]at e;unfold Ln at e;split at e
    ·rename_i o;obtain⟨rfl,l,v,rfl,ho⟩:=p;unfold Pu at e;split at e
     ·rename_i N;obtain⟨tv0,d,w,I⟩:=zU j ho N;obtain⟨g',z,A,k3,W⟩:=I false;rw[<- z]at e;obtain⟨v',X⟩:=W.le.o1 _ _ _ ho;obtain⟨vout,B,G⟩:=h _ _ _ _ _ _ _ _ e b P0 g' tv LO dsv .run none (some l) rfl k3 (F.mono W.le) rfl ⟨rfl,l,v',rfl,X⟩;refine⟨vout,?_,G.trans W⟩;simp only[lS,yD,w,ge];rw[A]at B;exact B
     ·cases e
    ·cases e
   |_=>cases e
 |returning =>cases hm;exact unw (m:=.returning) rfl e
 |panicking c =>obtain⟨J,rfl,n⟩:=hm;exact unw (m:=.panicking c) ⟨J,rfl,n⟩ e
 |round _=>exact hm.elim
end frame
mutual
theorem RD.belo:∀ {d:D} {v:V},g.O.length=g.H.length->RD g d v->d.bel g.H.length
 |.bool _,_,_,_=>trivial
 |.int ..,_,_,_=>trivial
 |.str _,_,_,_=>trivial
 |.ptr o c,v,hl,r=>by simp only[RD]at r;obtain⟨f,ver,e,_⟩:=r;simp only[D.bel];rw[<- hl];exact dY e
 |.eptr cs c,v,hl,r=>by simp only[RD]at r;obtain⟨a,vs,_,_,_,j,_⟩:=r;simp only[D.bel];exact RL.belo hl j
 |.bptr o n i c,v,hl,r=>by simp only[RD]at r;obtain⟨f,ver,sz,st,cap,l,ver',e,_⟩:=r;simp only[D.bel];rw[<- hl];exact dY e
 |.nilptr,_,_,_=>trivial
 |.row sz l,v,hl,r=>by
  simp only[RD]at r;simp only[D.bel];rcases r with⟨rfl,_⟩|⟨rfl,_⟩|⟨a,z,cap,_,_,_,_,_,k⟩
  ·trivial
  ·trivial
  ·exact RR.belo hl k
 |.buf sz o n,v,hl,r=>by simp only[RD]at r;obtain⟨st,cap,l,e,_⟩:=r;simp only[D.bel];exact dY e
 |.nilrow,_,_,_=>trivial
 |.map o,v,hl,r=>by simp only[RD]at r;obtain⟨f,ver,e,_⟩:=r;simp only[D.bel];rw[<- hl];exact dY e
 |.nilmap,_,_,_=>trivial
 |.func fn a c,v,hl,r=>by simp only[RD]at r;obtain⟨a',b',_,h,m⟩:=r;simp only[D.bel];exact⟨RL.belo hl h,RL.belo hl m⟩
 |.nilFunc,_,_,_=>trivial
 |.iface ty d,v,hl,r=>by simp only[RD]at r;obtain⟨v',_,h⟩:=r;simp only[D.bel];exact RD.belo hl h
 |.nilIface,_,_,_=>trivial
 |.yld o,v,hl,r=>by simp only[RD]at r;obtain⟨f,ver,e,_⟩:=r;simp only[D.bel];rw[<- hl];exact dY e
 |.abool,_,_,_=>trivial
 |.agg cs,v,hl,r=>by simp only[RD]at r;obtain⟨vs,_,h,_⟩:=r;simp only[D.bel];exact RL.belo hl h
 |.tuple ds,v,hl,r=>by simp only[RD]at r;obtain⟨vs,_,h⟩:=r;simp only[D.bel];exact RL.belo hl h
theorem RL.belo:∀ {ds:List D} {vs:List V},g.O.length=g.H.length->RL g ds vs->dF g.H.length ds
 |[],_,_,_=>trivial
 |d::l,vs,hl,r=>by simp only[RL]at r;obtain⟨v,vs',_,a,c⟩:=r;simp only[dF];exact⟨RD.belo hl a,RL.belo hl c⟩
theorem RR.belo:∀ {l:List (List D)} {a:Ad} {sz:Nat},g.O.length=g.H.length->RR g a sz l->dV g.H.length l
 |[],_,_,_,_=>trivial
 |x::l,a,sz,hl,r=>by simp only[RR]at r;obtain⟨⟨vs,_,_,c,_⟩,d⟩:=r;simp only[dV];exact⟨RL.belo hl c,RR.belo hl d⟩
end
def Gh.trim(g:Gh)(n:Nat):Gh:=⟨g.O.take n,g.H.take n,g.Pv,g.s⟩
theorem jV{α:Type}{l:List α}{n i:Nat}{x:α}(h:(l.take n)[i]? = some x):i<n/\l[i]? = some x:=by
 rw[ajW]at h;split at h
 ·exact⟨by assumption,h⟩
 ·cases h
theorem dW{α:Type}{l:List α}{n i:Nat}{x:α}(hi:i<n)(h:l[i]? = some x):(l.take n)[i]? = some x:=by rw[ajW,aeM hi];exact h
theorem Ao{n f:Nat}(h:g.Imm f):(g.trim n).Imm f:=⟨h.1,h.2.1,fun o v ho=>by obtain⟨a,c⟩:=jV ho;obtain⟨sz,cap,l,d⟩:=h.2.2 o v c;exact⟨sz,cap,l,dW a d⟩⟩
mutual
theorem RD.trim{n:Nat}:∀ {d:D} {v:V},d.bel n->RD g d v->RD (g.trim n) d v
 |.bool _,_,_,r=>by simpa only[RD]using r
 |.int ..,_,_,r=>by simpa only[RD]using r
 |.str _,_,_,r=>by simpa only[RD]using r
 |.ptr o c,v,hb,r=>by simp only[RD]at r ⊢;simp only[D.bel]at hb;obtain⟨f,ver,e,h⟩:=r;exact⟨f,ver,dW hb e,h⟩
 |.eptr cs c,v,hb,r=>by simp only[RD]at r ⊢;simp only[D.bel]at hb;obtain⟨a,vs,e,h,j,k,m⟩:=r;exact⟨a,vs,e,Ao h,j,RL.trim hb k,m⟩
 |.bptr o n' i c,v,hb,r=>by simp only[RD]at r ⊢;simp only[D.bel]at hb;obtain⟨f,ver,sz,st,cap,l,ver',e,h,j⟩:=r;exact⟨f,ver,sz,st,cap,l,ver',dW hb e,dW hb h,j⟩
 |.nilptr,_,_,r=>by simpa only[RD]using r
 |.row sz l,v,hb,r=>by
  simp only[RD]at r ⊢;simp only[D.bel]at hb;rcases r with r|r|⟨a,z,cap,e,h,j,k,m,p⟩
  ·exact .inl r
  ·exact .inr (.inl r)
  ·exact .inr (.inr ⟨a,z,cap,e,h,j,k,fun q=>Ao (m q),RR.trim hb p⟩)
 |.buf sz o n',v,hb,r=>by
  simp only[RD]at r ⊢;simp only[D.bel]at hb;obtain⟨st,cap,l,e,h,j⟩:=r;refine⟨st,cap,l,dW hb e,h,?_⟩;rcases j with j|⟨j,f,ver,ver',c,k,m⟩
  ·exact .inl j
  ·exact .inr ⟨j,f,ver,ver',c,dW hb k,m⟩
 |.nilrow,_,_,r=>by simpa only[RD]using r
 |.map o,v,hb,r=>by simp only[RD]at r ⊢;simp only[D.bel]at hb;obtain⟨f,ver,e,h⟩:=r;exact⟨f,ver,dW hb e,h⟩
 |.nilmap,_,_,r=>by simpa only[RD]using r
 |.func fn a c,v,hb,r=>by simp only[RD]at r ⊢;simp only[D.bel]at hb;obtain⟨s,u,e,h,j⟩:=r;exact⟨s,u,e,RL.trim hb.1 h,RL.trim hb.2 j⟩
 |.nilFunc,_,_,r=>by simpa only[RD]using r
 |.iface ty d,v,hb,r=>by simp only[RD]at r ⊢;simp only[D.bel]at hb;obtain⟨v',e,h⟩:=r;exact⟨v',e,RD.trim hb h⟩
 |.nilIface,_,_,r=>by simpa only[RD]using r
 |.yld o,v,hb,r=>by simp only[RD]at r ⊢;simp only[D.bel]at hb;obtain⟨f,ver,e,h⟩:=r;exact⟨f,ver,dW hb e,h⟩
 |.abool,_,_,r=>by simpa only[RD]using r
 |.agg cs,v,hb,r=>by simp only[RD]at r ⊢;simp only[D.bel]at hb;obtain⟨vs,e,h,j⟩:=r;exact⟨vs,e,RL.trim hb h,j⟩
 |.tuple ds,v,hb,r=>by simp only[RD]at r ⊢;simp only[D.bel]at hb;obtain⟨vs,e,h⟩:=r;exact⟨vs,e,RL.trim hb h⟩
theorem RL.trim{n:Nat}:∀ {ds:List D} {vs:List V},dF n ds->RL g ds vs->RL (g.trim n) ds vs
 |[],_,_,r=>by simpa only[RL]using r
 |d::l,vs,hb,r=>by simp only[RL]at r ⊢;simp only[dF]at hb;obtain⟨v,vs',a,c,e⟩:=r;exact⟨v,vs',a,RD.trim hb.1 c,RL.trim hb.2 e⟩
theorem RR.trim{n:Nat}:∀ {l:List (List D)} {a:Ad} {sz:Nat},dV n l->RR g a sz l->RR (g.trim n) a sz l
 |[],_,_,_,_=>by simp only[RR]
 |x::l,a,sz,hb,r=>by simp only[RR]at r ⊢;simp only[dV]at hb;obtain⟨⟨vs,c,d,e,h⟩,i⟩:=r;exact⟨⟨vs,c,d,RL.trim hb.1 e,h⟩,RR.trim hb.2 i⟩
end
theorem rG.trim{n:Nat}:∀ {es:List (D×D)} {ents:List qi},(∀ x∈es,x.1.bel n/\x.2.bel n)->rG g es ents->rG (g.trim n) es ents
 |[],_,_,r=>r
 |(k,v)::l,_,hb,r=>by obtain⟨e,es',a,c,d,h,i⟩:=r;obtain⟨j,m⟩:=hb _ aeK;exact⟨e,es',a,c.trim j,d.trim m,h,rG.trim (fun x o=>hb x (abE _ o)) i⟩
theorem rG.belo:∀ {es:List (D×D)} {ents:List qi},g.O.length=g.H.length->rG g es ents->∀ x∈es,x.1.bel g.H.length/\x.2.bel g.H.length
 |[],_,_,_,x,a=>by cases a
 |(k,v)::l,_,hl,r,x,a=>by
  obtain⟨e,es',_,c,d,_,h⟩:=r;rcases aff.1 a with rfl|a
  ·exact⟨c.belo hl,d.belo hl⟩
  ·exact rG.belo hl h x a
theorem nJ.belo{o:Nat}{x:DB}(hl:g.O.length=g.H.length)(r:nJ g o x):x.bel g.H.length:=by
 cases x with
 |dead=>exact r.elim
 |opq=>trivial
 |coll=>trivial
 |loop _ _ _ _ _ _ _ =>obtain⟨f,tv,d,_,_,a⟩:=r;intro i d hi;obtain⟨v,_,e⟩:=a i _ hi;exact RD.belo hl e
 |cells st cs=>obtain⟨f,el,vs,_,_,a,_⟩:=r;exact a.belo hl
 |map es=>obtain⟨f,ents,c,_,_,a⟩:=r;exact a.belo hl
 |buf sz st cap l =>
  obtain⟨_,⟨rfl,_⟩|⟨_,f,ver,el,nv,vers,cells,_,_,_,_,_,h⟩⟩:=r
  ·trivial
  ·exact h.belo hl
theorem nJ.trim{o n:Nat}{x:DB}(ho:o<n)(hb:x.bel n)(r:nJ g o x):nJ (g.trim n) o x:=by
 cases x with
 |dead=>exact r.elim
 |opq=>obtain⟨f,v,a⟩:=r;exact⟨f,v,dW ho a⟩
 |coll=>obtain⟨f,a,e⟩:=r;exact⟨f,dW ho a,e⟩
 |loop _ _ _ _ _ _ _ =>
  obtain⟨f,tv,d,a,e,j⟩:=r;refine⟨f,tv,d,dW ho a,e,fun i x hi=>?_⟩;obtain⟨v,m,p⟩:=j i x hi;refine⟨v,m,?_⟩;cases x with
  |g d=>exact RD.trim (hb i d hi) p
  |lp k c=>exact p
  |u=>exact p
 |cells st cs=>obtain⟨f,el,vs,a,e,j,m⟩:=r;exact⟨f,el,vs,dW ho a,e,j.trim hb,m⟩
 |map es=>obtain⟨f,ents,c,a,e,j⟩:=r;exact⟨f,ents,c,dW ho a,e,j.trim hb⟩
 |buf sz st cap l =>
  obtain⟨h0,⟨rfl,a⟩|⟨a,f,ver,el,nv,vers,cells,e,j,m,p,q,h⟩⟩:=r
  ·exact⟨h0,.inl ⟨rfl,dW ho a⟩⟩
  ·exact⟨h0,.inr ⟨a,f,ver,el,nv,vers,cells,dW ho e,j,m,p,q,h.trim hb⟩⟩
theorem jb.trim{n:Nat}:∀ {c:List iD} {a:List GN},(∀ x∈c,x.v.bel n)->jb g c a->jb (g.trim n) c a
 |[],_,_,r=>r
 |x::l,_,hb,r=>by obtain⟨y,a,d,e,h,i⟩:=r;exact⟨y,a,d,e.trim (hb x aeK),h,jb.trim (fun z j=>hb z (abE _ j)) i⟩
theorem Qg{r:au}(e:aX g.H r=some out)(p:Ok g){j:tR}{s0:S}(hr:∀ o,r=some o->∃ vout,lim E.E j s0=some vout/\jN g.s.next g.Pv g o vout):∃ vout,lim E.E j s0=some vout/\jN g.s.next g.Pv g out vout:=by
 unfold aX at e;split at e
 ·rename_i o;split at e
  ·rename_i R;cases e;obtain⟨vout,U,g',I,W,X,u,m,F,J⟩:=hr o rfl;obtain⟨w,Y,K,M⟩:=R;rw[<- I]at K M;have z:(g'.trim g.H.length).H.length=g.H.length:=by simp[Gh.trim,K]
   have A:∀ {o:Nat} {x:DB},o<g.H.length->g'.H[o]? = some x->nJ (g'.trim g.H.length) o x:=fun {o x} ho y=>by
    refine(u.obj o x y).trim ho ?_;rcases M o x ho y with q|q
    ·exact(p.obj o x q).belo p.len
    ·exact q
   refine⟨vout,U,g'.trim g.H.length,by simp[Gh.trim,I],W,X,⟨by simp[Gh.trim,u.len],u.wf,fun o o' f v v' a c=>u.inj o o' f v v' (jV a).2 (jV c).2,fun o f v a=>u.lt o f v (jV a).2,u.pv,fun o x y=>?_,u.gl.to fun f h i B=>⟨rfl,h,i,fun o v k=>B o v (jV k).2⟩⟩,⟨⟨by rw[z];exact abD _,fun o f v ho=>?_,fun o sz st cap l ho=>?_,fun f G=>Ao (m.le.imm f G),fun a n vs hi y=>m.le.cells a n vs hi y,m.le.next⟩,m.out,fun o f v ho G=>m.fresh o f v (jV ho).2 G,fun o s1 c1 f v a c=>?_⟩,?_,?_⟩
   ·obtain⟨h,i⟩:=jV y;exact A h i
   ·obtain⟨v',q⟩:=m.le.o1 o f v ho;exact⟨v',dW (by rw[<- p.len];exact dY ho) q⟩
   ·obtain⟨st',cap',l',h,i,B,N⟩:=m.le.buf o sz st cap l ho;refine⟨st',cap',l',dW (dY ho) h,i,B,fun q=>⟨(N q).1,?_⟩⟩;show(g'.O.take _)[o]? = _;rw[ajW,aeM (dY ho)];exact(N q).2
   ·obtain⟨s2,c2,h,i,B⟩:=m.stm o s1 c1 f v a c;exact⟨s2,c2,dW (dY a) h,i,B⟩
   ·have w:=w;cases Q:o.e with
    |ret d =>rw[Q]at F w;obtain⟨v,h,i⟩:=F;exact⟨v,h,i.trim w⟩
    |pan c =>rw[Q]at F w;obtain⟨Z,h,i⟩:=F;exact⟨Z,h,i.trim w⟩
   ·show PH _ o.up _;rw[Y]at J ⊢;exact J
  ·cases e
 ·cases e
theorem Ss:∀ {ds:List D} {vs:List V} {i:Nat} {t:T LD} {tv:T V},RL g ds vs->CM g [] t tv->CM g [] (gS ds i t id) (kU vs i tv id)
 |[],vs,i,t,tv,r,h=>by simp only[RL]at r;subst r;exact h
 |d::ds,vs,i,t,tv,r,h=>by simp only[RL]at r;obtain⟨v,vs',rfl,a,c⟩:=r;rw[KJ];simp only[gS,T.setK_eq];exact Ss c (h.put (some i) (x:=.g d) a)
theorem pL{β:Type}:∀(ds:List D) (i:Nat) (t:T LD) (k:T LD->β),gS ds i t k=k (gS ds i t id)
 |[],_,_,_=>rfl
 |d::ds,i,t,k=>by simp only[gS,T.setK_eq];exact pL ds (i+1) _ k
theorem Qp(h:Ok g){ds:List D}{vs:List V}(r:RL g ds vs):FI g.s.next g.Pv g (gS ds 0 .leaf id) [] (kU vs 0 .leaf id) [] :=
 ⟨h,Ss r (fun i x a=>by rw[T.get_leaf]at a;cases a),⟨rfl,fun k x f hk=>by simp at hk⟩,by simp,(fun f c=>by cases c),List.nodup_nil,abD _⟩
theorem uc{β:Type}:∀(t:T LD) (ps:List Tmp) (ds:List D) (k:T LD->β),mG t ps ds k=k (mG t ps ds id)
 |t,p::ps,d::ds,k=>by simp only[mG,T.setK_eq];exact uc _ ps ds k
 |t,[],[],k=>rfl
 |t,[],_::_,k=>rfl
 |t,_::_,[],k=>rfl
theorem Hw{β:Type}:∀(t:T V) (ps:List Tmp) (ds:List V) (k:T V->β),cN t ps ds k=k (cN t ps ds id)
 |t,p::ps,d::ds,k=>by simp only[cN,T.setK_eq];exact Hw _ ps ds k
 |t,[],[],k=>rfl
 |t,[],_::_,k=>rfl
 |t,_::_,[],k=>rfl
theorem Ms:∀ {ps:List Tmp} {ds:List D} {vs:List V} {t:T LD} {tv:T V},RL g ds vs->CM g [] t tv->CM g [] (mG t ps ds id) (cN tv ps vs id)
 |[],ds,vs,t,tv,r,h=>by cases ds<;>cases vs<;>exact h
 |p::ps,[],vs,t,tv,r,h=>by simp only[RL]at r;subst r;exact h
 |p::ps,d::ds,vs,t,tv,r,h=>by simp only[RL]at r;obtain⟨v,vs',rfl,a,c⟩:=r;simp only[mG,cN,T.setK_eq];exact Ms c (h.put (some p) (x:=.g d) a)
theorem Ol{go:FuncId->Func->tS}(h:∀ f fn,PT E f fn (go f fn)){o:Nat}{args:List D}(e:tZ E go o args g.H=some out)(c:Ok g){vs:List V}{l v:Nat}(hr:RL g args vs)(ho:g.O[o]? = some (some (l,v))) :
 ∃ vout,lim E.E (.round l vs) g.s=some vout/\jN g.s.next g.Pv g out vout:=by
 unfold tZ at e;split at e
 ·rename_i r f nt t ps a b' n;split at e
  ·rename_i fn i;obtain⟨hc,e⟩:=aQ e;obtain⟨fb,tv0,d,m,p,q⟩:=c.obj o _ n;rw[ho]at m;cases m;rw[uc]at e
   have j:FI g.s.next g.Pv g (mG t ps.toList args id) [] (cN tv0 ps.toList vs id) [] :=
    ⟨c,Ms hr q,⟨rfl,fun k x f hk=>by simp at hk⟩,by simp,(fun f i=>by cases i),List.nodup_nil,abD _⟩
   obtain⟨vout,u,w⟩:=h f fn _ _ _ _ _ _ _ _ e g.s.next g.Pv g _ _ [] .run none (some l) rfl j rfl rfl ⟨rfl,l,0,rfl,ho⟩;refine⟨vout,SK ?_,w⟩;rw[<- hr.len]at hc;simp only[fx,p,zj,i,hc,ge];rw[Hw];exact u
  ·cases e
 ·cases e
theorem Pp(x:Ue E){go:FuncId->Func->tS}(k:∀ f fn,PT E f fn (go f fn)):Ls E.E (NM E go):=by
 refine⟨?_,fun o args H out e g p a vs l v hr ho=>by subst p;exact Ol k e a hr ho⟩;intro f args up H out e g p a vs upv hr n;subst p;have ent:Bn E go f args up g.H=some out->∃ vout,lim E.E (.call f vs upv) g.s=some vout/\jN g.s.next g.Pv g out vout:=fun e=>by
  unfold Bn at e;split at e
  ·rename_i fn z;split at e
   ·rename_i c hb;cases j:(fn.name == "runtime.NumGoroutine" || E.vo f)with
    |true=>rw[j]at e;cases e
    |false =>
     rw[j]at e;simp only[TD]at e;obtain⟨r,w⟩:=ajC.1 j;have hstep:∀ o,gS args 0 .leaf (fun t=>go f fn t [] [.code c] [] .run up g.H)=some o->∃ vout,lim E.E (.call f vs upv) g.s=some vout/\jN g.s.next g.Pv g o vout:=fun o e=>by
      rw[pL]at e;obtain⟨vout,A,B⟩:=k f fn _ _ _ _ _ _ _ _ e g.s.next g.Pv g _ _ [] .run upv none rfl (Qp a hr) rfl rfl (rF.mk (fun o q=>by subst q;obtain⟨_,_,h⟩:=n;exact h) n);refine⟨vout,SK ?_,B⟩;have i:uI (lim E.E) f vs upv g.s (E.E.P.funcs[f]?)=some vout:=by simp only[uI,z,hb,r,TD];rw[sK];exact A
      cases upv with
      |none=>simp only[fx,x.no f w vs g.s,BD];exact i
      |some u=>exact i
     cases y:(E.ann f).trim with
     |true=>rw[y]at e;exact Qg e a hstep
     |false=>rw[y]at e;exact hstep _ e
   ·cases e
  ·cases e
 unfold NM at e;split at e
 ·obtain⟨_,_,h⟩:=n;exact h.elim
 rename_i hn;unfold Rs at e;split at e
 ·rename_i d H' ho;cases e;cases up with
  |none =>cases n;exact x.yes f args g.H d H' ho g rfl a vs hr
  |some m=>cases ho
 ·exact ent e
theorem JH(d:Ue E){R:aI}(c:GI E R){go:FuncId->Func->tS}(a:∀ f fn,PT E f fn (go f fn)):GI E (rQ E R go):=by refine⟨Pp d a,fun f fn=>?_⟩;intro t L todo ds m up H out e b P0 g tv LO dsv mv upv rdv h i j hm k;subst h;obtain⟨vout,l,n⟩:=OQ (Pj (c.frame f fn) (a f fn)) c.call e i j hm k;exact⟨vout,SK l,n⟩
theorem pq(a:Ue E):∀ n,GI E (dK E n)
 |0=>⟨⟨(fun _ _ _ _ _ e=>by cases e),(fun _ _ _ _ e=>by cases e)⟩,(fun _ _ _ _ _ _ _ _ _ _ e=>by cases e)⟩
 |n+1=>JH a (pq a n) (pq a n).frame
end Go.AI
