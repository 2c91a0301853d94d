/- Deep values: an evaluator over what rows hold, and that it is sound: part 4. No conditions beyond those of the row. -/
import Derived.Test.YtpghiabjaglpgaaGreatDoorD3
set_option linter.all false
noncomputable section
namespace Go.AI
variable[fc]
variable{b:Nat}{P0:List Nat}{g:Gh}{LO:List Nat}{t:T LD}{L:LS}{tv:T V}{out:il}{E:cD}{an:hC}
def gY(g:Gh):List gB->List Dt->Prop
 |[],c=>c=[]
 |x::r,c=>∃ y c',c=y::c'/\RD g x.v y.v/\x.recovered=y.recovered/\gY g r c'
def LJ(g:Gh):eg->Md->Prop
 |.run,m=>m=.run
 |.returning,m=>m=.returning
 |.panicking c,m=>∃ c',m=.panicking c'/\gY g c c'
 |.round _,_=>False
def LA(g:Gh):Option eg->Option Md->Prop
 |none,u=>u=none
 |some m,u=>∃ m',u=some m'/\LJ g m m'
def pL(g:Gh):Option eg->Option Md->Option Nat->Prop
 |some (.round o),u,r=>u=none/\∃ l v,r=some l/\g.O[o]? = some (some (l,v))
 |up,u,r=>r=none/\LA g up u
def Kf(up:Option eg):Prop:=∀ o,up≠some (.round o)
theorem pL.nr{g:Gh}{up:Option eg}{u:Option Md}{r:Option Nat}(hn:Kf up)(h:pL g up u r):r=none/\LA g up u:=by
 unfold pL at h
 split at h
 ·exact(hn _ rfl).elim
 ·exact h
theorem pL.mk{g:Gh}{up:Option eg}{u:Option Md}(hn:Kf up)(h:LA g up u):pL g up u none:=by
 unfold pL
 split
 ·exact(hn _ rfl).elim
 ·exact⟨rfl,h⟩
theorem lk{up:Option eg}{r:ai}{out:il}(h:notRnd up r=some out):Kf up/\r=some out:=by
 unfold notRnd at h
 split at h
 ·cases h
 ·rename_i hn;exact⟨fun o e=>hn o e,h⟩
def Gi(g:Gh):List pJ->List dX->Prop
 |[],c=>c=[]
 |.coll o::r,c=>∃ d v c',c=.collected d::c'/\g.O[o]? = some (some (d,v))/\Gi g r c'
 |.call x::r,c=>∃ ca a c',c=.call (.func x.fn) ca a::c'/\RL g x.captured ca/\RL g x.args a/\Gi g r c'
def Vw(g:Gh):Dv->XM->Prop
 |.ret d,e=>∃ v,e=.returned v/\RD g d v
 |.pan c,e=>∃ c',e=.panicked c'/\gY g c c'
theorem gY.mono{g g':Gh}(h:ot g g'):∀ {c:List gB} {c':List Dt},gY g c c'->gY g' c c'
 |[],_,r=>r
 |x::l,_,r=>by
  obtain⟨y,c',h1,h2,h3,h4⟩:=r
  exact⟨y,c',h1,h2.mono h,h3,gY.mono h h4⟩
theorem LJ.mono{g g':Gh}(h:ot g g'){m:eg}{m':Md}(r:LJ g m m'):LJ g' m m':=by
 cases m with
 |run=>exact r
 |returning=>exact r
 |panicking c=>obtain⟨c',h1,h2⟩:=r;exact⟨c',h1,h2.mono h⟩
 |round _=>exact r
theorem LA.mono{g g':Gh}(h:ot g g'){m:Option eg}{m':Option Md}(r:LA g m m'):LA g' m m':=by
 cases m with
 |none=>exact r
 |some m=>obtain⟨c',h1,h2⟩:=r;exact⟨c',h1,h2.mono h⟩
theorem pL.mono{g g':Gh}(h:ot g g'){m:Option eg}{u:Option Md}{q:Option Nat}(r:pL g m u q):pL g' m u q:=by
 unfold pL at r ⊢
 split at r
 ·obtain⟨h1,l,v,h2,h3⟩:=r
  obtain⟨v',h4⟩:=h.o1 _ l v h3
  exact⟨h1,l,v',h2,h4⟩
 ·exact⟨r.1,r.2.mono h⟩
theorem Gi.mono{g g':Gh}(h:ot g g'):∀ {c:List pJ} {c':List dX},Gi g c c'->Gi g' c c'
 |[],_,r=>r
 |.coll o::l,_,r=>by
  obtain⟨d,v,c',h1,h2,h3⟩:=r
  obtain⟨v',h4⟩:=h.o1 o d v h2
  exact⟨d,v',c',h1,h4,Gi.mono h h3⟩
 |.call x::l,_,r=>by
  obtain⟨ca,a,c',h1,h2,h3,h4⟩:=r
  exact⟨ca,a,c',h1,h2.mono h,h3.mono h,Gi.mono h h4⟩
def iJ(b:Nat)(P0:List Nat)(g:Gh)(out:il)(vout:eo):Prop:=∃ g',g'.H=out.H/\g'.s=vout.s/\g'.Pv=P0/\Ok g'/\Mv b g g'/\Vw g' out.e vout.e/\LA g' out.up vout.up
structure HS(E:cU)(rec:oA):Prop where
 c:∀ f args up H out,rec f args up H=some out->∀ g:Gh,g.H=H->Ok g->∀ vs upv,RL g args vs->LA g up upv->∃ vout,lim E (.call f vs upv) g.s=some vout/\iJ g.s.next g.Pv g out vout
 r:∀ o args H out,rec 0 args (some (.round o)) H=some out->∀ g:Gh,g.H=H->Ok g->∀ vs l v,RL g args vs->g.O[o]? = some (some (l,v))->∃ vout,lim E (.round l vs) g.s=some vout/\iJ g.s.next g.Pv g out vout
def lh(t:T LD)(d:Option Tmp)(x:LD):T LD:=match d with
 |some i=>T.set (some x) (et i) t
 |none=>t
theorem cy(t:T LD)(d:Option Tmp)(x:LD)(κ:T LD->ai):jq t d x κ=κ (lh t d x):=by
 cases d with
 |none=>rfl
 |some i=>exact T.setK_eq _ _ _ _
theorem zN.put(h:zN g LO t tv)(d:Option Tmp){x:LD}{v:V}(r:RS g LO x v):zN g LO (lh t d x) (putD tv d v):=by
 cases d with
 |none=>exact h
 |some i =>
  intro j y hy
  simp only[lh]at hy
  rw[T.get_setN]at hy
  rw[EI]
  split at hy
  ·rename_i e;cases hy;rw[if_pos e];exact⟨v,rfl,r⟩
  ·rename_i e;rw[if_neg e];exact h j y hy
theorem FI.put(h:FI b P0 g t L tv LO)(d:Option Tmp){x:LD}{v:V}(r:RS g LO x v):FI b P0 g (lh t d x) L (putD tv d v) LO:=⟨h.ok,h.slots.put d r,h.own,h.pv,h.low,h.nd,h.bl⟩
theorem RS.u:RS g LO .u V.undef:=rfl
theorem vJ{ops:Array Oper}{o:Oper}{kT kF:T LD->ai}(e:vK ops t o kT kF=some out)(h:zN g LO t tv) :
 (bw ops tv o=some true/\∃ t',kT t'=some out/\Rf t t' tv)\/(bw ops tv o=some false/\∃ t',kF t'=some out/\Rf t t' tv):=by
 unfold vK at e
 unfold bw
 split at e
 ·rename_i hg;rw[hg];exact .inl ⟨rfl,t,e,.refl t tv⟩
 ·rename_i j want hg
  rw[hg]
  simp only
  split at e
  ·rename_i i hi
   rw[hi]
   simp only
   split at e
   ·rename_i d hd
    obtain⟨v,h1,h2⟩:=h i _ hd
    have h2:RD g d v:=h2
    split at e
    ·obtain⟨q,rfl,e'⟩:=Df e h2
     clear e
     rw[h1]
     cases q with
     |true=>rw[cond_true,T.setK_eq]at e';exact .inl ⟨rfl,_,e',we h1⟩
     |false=>rw[cond_false,T.setK_eq]at e';exact .inr ⟨rfl,_,e',we h1⟩
    ·obtain⟨q,rfl,e'⟩:=Df e h2
     clear e
     rw[h1]
     cases q with
     |true=>rw[cond_true,T.setK_eq]at e';exact .inr ⟨rfl,_,e',we h1⟩
     |false=>rw[cond_false,T.setK_eq]at e';exact .inl ⟨rfl,_,e',we h1⟩
   ·rename_i hd
    obtain⟨v,h1,h2⟩:=h i _ hd
    have h2:v=V.undef:=h2
    subst h2
    rw[h1]
    exact .inr ⟨rfl,t,e,.refl t tv⟩
   ·cases e
  ·cases e
theorem EG(h:FI b P0 g t L tv LO){k:Hk}{d:D}{κ:D->DH->ai}(e:eZ k d g.H κ=some out){v:V}(r:RD g d v) :
 ∃ d' g',κ d' g'.H=some out/\g'.s=g.s/\FI b P0 g' t L tv LO/\Mv b g g'/\RD g' d' v/\(v.one=true):=by
 unfold eZ at e
 split at e
 ·rename_i sz
  split at e
  ·rename_i s' o n
   obtain⟨sz',st,cap,l,e1,hc,hc2,hn⟩:=lK e (gg.refl g)
   clear e
   obtain⟨hb,e⟩:=ec e1
   clear e1
   have hb:=Nat.eq_of_beq_eq_true hb
   subst hb
   have hone:=r.one (fun q=>by cases q) (fun q=>by cases q)
   simp only[RD]at r
   have hsz:sz'=s':=by
    obtain⟨st',cap',l',j1,_⟩:=r
    rw[hc2]at j1;cases j1;rfl
   subst hsz
   exact⟨_,g.frz o sz' cap l,e,rfl,h.frz hc2,GU hc2,Cz h.ok hc2 hn r,hone⟩
  ·have hone:=r.one (fun q=>by cases q) (fun q=>by cases q)
   simp only[RD]at r
   refine⟨_,g,e,rfl,h,.refl b g,?_,hone⟩
   simp only[RD]
   rcases r with rfl|⟨a,z,sz',rfl⟩
   ·exact .inl ⟨trivial,rfl⟩
   ·exact .inr (.inl ⟨trivial,a,z,sz',rfl⟩)
  ·exact⟨_,g,e,rfl,h,.refl b g,r,r.one (fun q=>by cases q) (fun q=>by cases q)⟩
  ·cases e
 ·rename_i sz
  split at e
  ·obtain⟨hs,e⟩:=aG e
   have hone:=r.one (fun q=>by cases q) (fun q=>by cases q)
   simp only[RD]at r
   refine⟨_,g.acc sz false,e,rfl,h.acc (Nat.le_of_ble_eq_true hs) false,GW h.ok sz false,?_,hone⟩
   simp only[RD]
   exact⟨true,false,[],fU _ _,Nat.le_refl _,.inl ⟨rfl,r⟩⟩
  ·exact⟨_,g,e,rfl,h,.refl b g,r,r.one (fun q=>by cases q) (fun q=>by cases q)⟩
  ·cases e
theorem jK{α:Type}{l:List α}{i:Nat}{x:α}(h:l[i]? = some x):l.set i x=l:=by
 apply List.ext_getElem?
 intro j
 rw[List.getElem?_set]
 split
 ·rename_i hj;subst hj
  split
  ·rw[h]
  ·rename_i q;rw[List.getElem?_eq_none (by omega)]
 ·rfl
theorem xe(h:FI b P0 g t L tv LO){k:Hk}{c:Nat}{d:D}{κ:D->DH->ai}(e:dl k c d g.H κ=some out){v:V}(r:RD g d v) :
 ∃ d' g',κ d' g'.H=some out/\g'.s=g.s/\FI b P0 g' t L tv LO/\Mv b g g'/\RD g' d' v:=by
 unfold dl at e
 split at e
 ·simp only[RD]at r
  obtain⟨vs,rfl,h1,h2⟩:=r
  obtain⟨x,hx,e⟩:=iH e
  obtain⟨w,hw,h3⟩:=h1.at hx
  obtain⟨y,g',k1,k2,k3,k4,k5,_⟩:=EG h e h3
  refine⟨_,g',k1,k2,k3,k4,?_⟩
  simp only[RD]
  have:=(h1.mono k4.le).set c k5
  rw[jK hw]at this
  exact⟨vs,rfl,this,h2⟩
 ·obtain⟨_,e⟩:=aG e
  obtain⟨d',g',k1,k2,k3,k4,k5,_⟩:=EG h e r
  exact⟨d',g',k1,k2,k3,k4,k5⟩
theorem AO:∀ {l:List (Nat×Hk)} {g:Gh} {d:D} {κ:D->DH->ai} {v:V},FI b P0 g t L tv LO->wZ l d g.H κ=some out->RD g d v->∃ d' g',κ d' g'.H=some out/\g'.s=g.s/\FI b P0 g' t L tv LO/\Mv b g g'/\RD g' d' v
 |[],g,d,κ,v,h,e,r=>⟨d,g,e,rfl,h,.refl b g,r⟩
 |(c,k)::l,g,d,κ,v,h,e,r=>by
  simp only[wZ]at e
  obtain⟨d',g',k1,k2,k3,k4,k5⟩:=xe h e r
  obtain⟨d2,g2,j1,j2,j3,j4,j5⟩:=AO k3 k1 k5
  exact⟨d2,g2,j1,j2.trans k2,j3,k4.trans j4,j5⟩
theorem eS(h:FI b P0 g t L tv LO){dst:Option Tmp}{x:LD}{κ:LD->DH->ai}(e:qK an.hooks dst x g.H κ=some out){v:V}(r:RS g LO x v) :
 ∃ x' g',κ x' g'.H=some out/\g'.s=g.s/\FI b P0 g' t L tv LO/\Mv b g g'/\RS g' LO x' v/\(py an dst=false->g'=g/\x'=x):=by
 have same:κ x g.H=some out->∃ x' g',κ x' g'.H=some out/\g'.s=g.s/\FI b P0 g' t L tv LO/\Mv b g g'/\RS g' LO x' v/\(py an dst=false->g'=g/\x'=x):=fun e=>⟨x,g,e,rfl,h,.refl b g,r,fun _=>⟨rfl,rfl⟩⟩
 unfold qK at e
 split at e
 ·exact same e
 ·rename_i hl
  split at e
  ·exact same e
  ·rename_i i
   split at e
   ·exact same e
   ·rename_i l hk
    split at e
    ·obtain⟨d',g',k1,k2,k3,k4,k5⟩:=AO h e r
     refine⟨_,g',k1,k2,k3,k4,k5,fun q=>?_⟩
     unfold py at q
     rw[hl]at q hk
     simp only[hk]at q
     cases q
    ·cases e
theorem kz(h:FI b P0 g t L tv LO){vout:eo}{o:il}(r:iJ g.s.next g.Pv g o vout):∃ g',g'.H=o.H/\g'.s=vout.s/\FI b P0 g' t L tv LO/\Mv b g g'/\Vw g' o.e vout.e/\LA g' o.up vout.up/\Dr g L LO g' L LO:=by
 obtain⟨g',h1,h2,h3,h4,h5,h6,h7⟩:=r
 exact⟨g',h1,h2,h.to h4 (h5.down h.bl) h3 fun f hf=>h5.out f (h.lo_lt hf) (fun o v=>h.lo_out hf o v),h5.down h.bl,h6,h7,List.prefix_rfl,LI.of fun f hf=>h5.out f (h.lo_lt hf) (fun o v=>h.lo_out hf o v)⟩
def XS(b:Nat)(P0:List Nat)(g:Gh)(rdv:Option Nat)(k:Ge)(kp:List gB->Ge)(out:il):kG->Prop
 |.on tv' dsv' upv' s'=>∃ g' t' L' LO' ds' up',k t' L' ds' up' g'.H=some out/\g'.s=s'/\FI b P0 g' t' L' tv' LO'/\Mv b g g'/\Gi g' ds' dsv'/\pL g' up' upv' rdv
 |.panicked c tv' dsv' upv' s'=>∃ g' t' L' LO' ds' up' c',kp c' t' L' ds' up' g'.H=some out/\g'.s=s'/\FI b P0 g' t' L' tv' LO'/\Mv b g g'/\Gi g' ds' dsv'/\pL g' up' upv' rdv/\gY g' c' c
theorem XS.trans{g':Gh}(m:Mv b g g'){rdv:Option Nat}{k:Ge}{kp:List gB->Ge}{r:kG}(h:XS b P0 g' rdv k kp out r):XS b P0 g rdv k kp out r:=by
 cases r with
 |on tv' dsv' upv' s' =>
  obtain⟨g2,t',L',LO',ds',up',h1,h2,h3,h4,h5⟩:=h
  exact⟨g2,t',L',LO',ds',up',h1,h2,h3,m.trans h4,h5⟩
 |panicked c tv' dsv' upv' s' =>
  obtain⟨g2,t',L',LO',ds',up',c',h1,h2,h3,h4,h5⟩:=h
  exact⟨g2,t',L',LO',ds',up',c',h1,h2,h3,m.trans h4,h5⟩
variable{rec:oA}
theorem kB{x:ai}{kr:D->DH->ai}{kp:List gB->DH->ai}(h:cH x kr kp=some out):∃ o,x=some o/\((∃ d,o.e=.ret d/\kr d o.H=some out)\/(∃ c,o.e=.pan c/\kp c o.H=some out)):=by
 unfold cH at h
 split at h
 ·exact⟨_,rfl,.inl ⟨_,rfl,h⟩⟩
 ·exact⟨_,rfl,.inr ⟨_,rfl,h⟩⟩
 ·cases h
theorem zq{d:Option Tmp}{ds:List pJ}{H:DH}{k:Ge}{up:Option eg}{upv:Option Md}{rdv:Option Nat}(e:kY d t L ds H k up=some out)(hu:pL g up upv rdv) :
 ∃ x up' v upv',k (lh t d x) L ds up' H=some out/\RS g LO x v/\pL g up' upv' rdv/\∀(tv:T V) (dsv:List dX) (s:S) (kv:RK),recovered d tv dsv s kv upv=kv (putD tv d v) dsv upv' s:=by
 unfold kY at e
 split at e
 ·cases e
 ·rename_i v older
  have hq:=hu.nr (fun o q=>by cases q)
  clear hu
  obtain⟨rfl,hu⟩:=hq
  obtain⟨m',rfl,c',rfl,y,c2,rfl,k1,k2,k3⟩:=hu
  obtain⟨yv,yr⟩:=y
  simp only at k1 k2
  subst k2
  rw[cy]at e
  exact⟨.g v,_,yv,some (.panicking (⟨yv,true⟩::c2)),e,k1,pL.mk (fun o q=>by cases q) ⟨_,rfl,_,rfl,⟨yv,true⟩,c2,rfl,k1,rfl,k3⟩,fun tv dsv s kv=>by simp only[recovered,bZ]⟩
 ·rename_i m hnr hne
  have hn:Kf (some m):=fun o q=>hnr o (Option.some.inj q)
  have hq:=hu.nr hn
  clear hu
  obtain⟨rfl,hu⟩:=hq
  obtain⟨m',rfl,k1⟩:=hu
  rw[cy]at e
  refine⟨.g .nilIface,some m,.nilIface,some m',e,by show RD _ _ _;simp only[RD],pL.mk hn ⟨m',rfl,k1⟩,fun tv dsv s kv=>?_⟩
  have:∀ v older,m'≠.panicking (⟨v,false⟩::older):=fun v older q=>by
   subst q
   cases m with
   |run=>cases k1
   |returning=>cases k1
   |round o=>exact k1
   |panicking c =>
    obtain⟨c',q1,k2⟩:=k1
    cases q1
    cases c with
    |nil=>cases k2
    |cons x xs =>
     obtain⟨y,c2,q2,k3,k4,k5⟩:=k2
     cases q2
     obtain⟨xv,xr⟩:=x
     simp only at k4
     subst k4
     exact hne xv xs rfl
  unfold recovered
  split
  ·rename_i q;exact(this _ _ (Option.some.inj q)).elim
  ·rename_i q;cases q;simp only[bZ]
  ·rename_i q;cases q
 ·cases e
theorem eE{rdv:Option Nat}(hrec:HS E.E rec){ops:Array Oper}{k:Ge}{kp:List gB->Ge}:∀ {l:List Oper} {t:T LD} {L:LS} {ds:List pJ} {up:Option eg} {g:Gh} {LO:List Nat} {tv:T V} {dsv:List dX} {upv:Option Md},
 nG E an ops rec l k kp t L ds up g.H=some out->FI b P0 g t L tv LO->Gi g ds dsv->pL g up upv rdv ->
 ∃ r,pd E.E ops (bt (lim E.E)) (dL (lim E.E)) rdv l tv dsv upv g.s=some r/\XS b P0 g rdv k kp out r
 |[],t,L,ds,up,g,LO,tv,dsv,upv,e,h,hd,hu=>⟨_,rfl,g,t,L,LO,ds,up,e,rfl,h,.refl b g,hd,hu⟩
 |o::l,t,L,ds,up,g,LO,tv,dsv,upv,e,h,hd,hu=>by
  simp only[nG]at e
  simp only[pd]
  rcases vJ e h.slots with⟨hw,t1,e,hr⟩|⟨hw,t1,e,hr⟩
  ·have h:=h.rf hr
   rw[hw]
   obtain⟨t2,x,nx,e,h1,hr2,hs⟩:=GI o.op h e
   have h:=h.rf hr2
   simp only[pi,cT,h1]
   cases x with
   |val d L' H' =>
    obtain⟨v,s',rfl,g',LO',k1,k2,k3,k4,k5,k6⟩:=hs
    have k3:=FI.rf k3 (t':=t2) hr2
    simp only[GM,<- k1]at e
    obtain⟨x',g2,j1,j2,j3,j4,j5,_⟩:=eS k3 e k6
    rw[cy]at j1
    obtain⟨r,i1,i2⟩:=eE hrec j1 (j3.put o.dst j5) ((hd.mono k4.le).mono j4.le) ((hu.mono k4.le).mono j4.le)
    refine⟨r,?_,i2.trans (k4.trans j4)⟩
    simp only[dE,bZ,<- k2,<- j2];exact i1
   |skip L' H' =>
    obtain⟨s',rfl,g',LO',k1,k2,k3,k4,k5,_⟩:=hs
    have k3:=FI.rf k3 (t':=t2) hr2
    simp only[GM,<- k1,cy]at e
    obtain⟨r,i1,i2⟩:=eE hrec e (k3.put o.dst RS.u) (hd.mono k4.le) (hu.mono k4.le)
    refine⟨r,?_,i2.trans k4⟩
    simp only[dE,bZ,<- k2];exact i1
   |enter f args L' H' =>
    obtain⟨vs,rfl,rfl,rfl,k1,_⟩:=hs
    simp only[GM]at e
    obtain⟨oc,hoc,e⟩:=kB e
    obtain⟨vout,m1,m2⟩:=hrec.c f args none g.H oc hoc g rfl h.ok vs none k1 rfl
    obtain⟨g',n1,n2,n3,n4,n5,_⟩:=kz h m2
    obtain⟨ve,vu,vs'⟩:=vout
    simp only at n2 n5
    rcases e with⟨d,hd1,e⟩|⟨c,hd1,e⟩
    ·rw[hd1]at n5
     obtain⟨v,rfl,n6⟩:=n5
     rw[<- n1]at e
     obtain⟨x',g2,j1,j2,j3,j4,j5,_⟩:=eS (x:=.g d) n3 e n6
     rw[cy]at j1
     obtain⟨r,i1,i2⟩:=eE hrec j1 (j3.put o.dst j5) ((hd.mono n4.le).mono j4.le) ((hu.mono n4.le).mono j4.le)
     refine⟨r,?_,i2.trans (n4.trans j4)⟩
     simp only[dE,bt,m1,eR,bZ,<- n2,<- j2];exact i1
    ·rw[hd1]at n5
     obtain⟨c',rfl,n6⟩:=n5
     rw[<- n1]at e
     refine⟨.panicked c' tv dsv upv vs',by simp only[dE,bt,m1,eR],?_⟩
     exact⟨g',t2,L',LO,ds,up,c,e,n2,n3,n4,hd.mono n4.le,hu.mono n4.le,n6⟩
   |round or args L' H' =>
    obtain⟨vs,lb,lv,rfl,rfl,rfl,k1,ko⟩:=hs
    simp only[GM]at e
    obtain⟨oc,hoc,e⟩:=kB e
    obtain⟨vout,m1,m2⟩:=hrec.r or args g.H oc hoc g rfl h.ok vs lb lv k1 ko
    obtain⟨g',n1,n2,n3,n4,n5,_⟩:=kz h m2
    obtain⟨ve,vu,vs'⟩:=vout
    simp only at n2 n5
    rcases e with⟨d,hd1,e⟩|⟨c,hd1,e⟩
    ·rw[hd1]at n5
     obtain⟨v,rfl,n6⟩:=n5
     rw[<- n1]at e
     obtain⟨x',g2,j1,j2,j3,j4,j5,_⟩:=eS (x:=.g d) n3 e n6
     rw[cy]at j1
     obtain⟨r,i1,i2⟩:=eE hrec j1 (j3.put o.dst j5) ((hd.mono n4.le).mono j4.le) ((hu.mono n4.le).mono j4.le)
     refine⟨r,?_,i2.trans (n4.trans j4)⟩
     simp only[dE,dL,m1,eR,bZ,<- n2,<- j2];exact i1
    ·rw[hd1]at n5
     obtain⟨c',rfl,n6⟩:=n5
     rw[<- n1]at e
     refine⟨.panicked c' tv dsv upv vs',by simp only[dE,dL,m1,eR],?_⟩
     exact⟨g',t2,L',LO,ds,up,c,e,n2,n3,n4,hd.mono n4.le,hu.mono n4.le,n6⟩
   |defer df L' H' =>
    obtain⟨c,a,rfl,rfl,rfl,k1,k2,_⟩:=hs
    simp only[GM,cy]at e
    obtain⟨hn,e⟩:=lk e
    obtain⟨rfl,_⟩:=hu.nr hn
    obtain⟨r,i1,i2⟩:=eE hrec e (h.put o.dst RS.u) (dsv:=.call (.func df.fn) c a::dsv) ⟨c,a,dsv,rfl,k1,k2,hd⟩ hu
    refine⟨r,?_,i2⟩
    simp only[dE,Option.isSome_none,cond_false,bZ];exact i1
   |recover L' H' =>
    obtain⟨rfl,rfl,rfl⟩:=hs
    simp only[GM]at e
    obtain⟨x,up',v,upv',e,k1,k2,k3⟩:=zq (LO:=LO) e hu
    obtain⟨r,i1,i2⟩:=eE hrec e (h.put o.dst k1) hd k2
    exact⟨r,by simp only[dE,k3];exact i1,i2⟩
   |panic v L' H' =>
    obtain⟨w,rfl,rfl,rfl,k1⟩:=hs
    simp only[GM]at e
    exact⟨_,rfl,g,t2,L',LO,ds,up,_,e,rfl,h,.refl b g,hd,hu,⟨w,false⟩,[],rfl,k1,rfl,rfl⟩
  ·have h:=h.rf hr
   rw[hw]
   rw[cy]at e
   obtain⟨r,i1,i2⟩:=eE hrec e (h.put o.dst RS.u) hd hu
   exact⟨r,by simp only[pi,bZ];exact i1,i2⟩
end Go.AI
namespace Go.AI
variable[fc]
variable{b:Nat}{P0:List Nat}{g:Gh}{LO:List Nat}{t:T LD}{L:LS}{tv:T V}{out:il}{E:cD}{an:hC}
structure eM where
 L:LS
 g:Gh
 LO:List Nat
def HW(c:eM):Prop:=Ok c.g/\LR c.g c.L c.LO
def vG(b:Nat)(x y:eM):Prop:=Mv b x.g y.g/\Dr x.g x.L x.LO y.g y.L y.LO
theorem vG.refl(b:Nat)(x:eM):vG b x x:=⟨.refl b _,.refl _ _ _⟩
theorem vG.trans{x y z:eM}(h:vG b x y)(k:vG b y z):vG b x z:=⟨h.1.trans k.1,h.2.trans k.2⟩
def jj(b:Nat)(cur:eM):List eM->Prop
 |[]=>True
 |c::r=>HW c/\vG b c cur/\jj b c r
theorem jj.step{x y:eM}(h:vG b x y):∀ {l:List eM},jj b x l->jj b y l
 |[],_=>trivial
 |c::r,k=>⟨k.1,k.2.1.trans h,k.2.2⟩
theorem jj.at:∀ {l:List eM} {x:eM},jj b x l->∀ {p:Nat} {c:eM},l[p]? = some c->HW c/\vG b c x
 |[],x,_,p,c,h=>by simp at h
 |d::r,x,k,0,c,h=>by simp at h;subst h;exact⟨k.1,k.2.1⟩
 |d::r,x,k,p+1,c,h=>by
  obtain⟨h1,h2⟩:=jj.at k.2.2 (p:=p) (by simpa using h)
  exact⟨h1,h2.trans k.2.1⟩
theorem jj.two:∀ {l:List eM} {x:eM},jj b x l->∀ {p q:Nat} {c d:eM},l[p]? = some c->l[q]? = some d->p<=q->vG b d c
 |[],x,_,p,q,c,d,h,_,_=>by simp at h
 |e::r,x,k,0,0,c,d,h,h2,_=>by
  have h:e=c:=by simpa using h
  have h2:e=d:=by simpa using h2
  subst h;subst h2;exact .refl b _
 |e::r,x,k,0,q+1,c,d,h,h2,_=>by
  have h:e=c:=by simpa using h
  subst h
  exact(jj.at k.2.2 (p:=q) (by simpa using h2)).2
 |e::r,x,k,p+1,0,c,d,h,h2,hq=>by omega
 |e::r,x,k,p+1,q+1,c,d,h,h2,hq=>jj.two k.2.2 (p:=p) (q:=q) (by simpa using h) (by simpa using h2) (by omega)
theorem RS.nxt{x y:eM}(h:vG b x y){d:LD}{v:V}(r:RS x.g x.LO d v):RS y.g y.LO d v:=(r.mono h.1.le).ext h.2.pre
def SlQ(cs:List eM)(bs:T Nat)(g:Gh)(LO:List Nat)(i:Nat)(x:LD)(v:V):Prop:=RS g LO x v/\∀(p:Nat) c,cs[p]? = some c->lL bs i+p<cs.length->RS c.g c.LO x v
def rC(cs:List eM)(bs:T Nat)(t:T LD)(tv:T V)(g:Gh)(LO:List Nat):Prop:=∀ i x,t.get (et i)=some x->∃ v,tv.get (et i)=some v/\SlQ cs bs g LO i x v
theorem rC.rf{cs:List eM}{bs:T Nat}{t':T LD}(r:Rf t t' tv)(h:rC cs bs t tv g LO):rC cs bs t' tv g LO:=r (SlQ cs bs g LO) (fun i q=>⟨by show RD _ _ _;simp only[RD],fun p c _ _=>by show RD _ _ _;simp only[RD]⟩) h
theorem rC.nxt{cs:List eM}{bs:T Nat}{x y:eM}(h:vG b x y)(k:rC cs bs t tv x.g x.LO):rC cs bs t tv y.g y.LO:=fun i z hz=>by
 obtain⟨v,h1,h2,h3⟩:=k i z hz
 exact⟨v,h1,h2.nxt h,h3⟩
def tf(bs:T Nat)(d:Option Tmp)(n:Nat):T Nat:=match d with
 |some i=>T.set (some n) (et i) bs
 |none=>bs
theorem fu{β:Type}(bs:T Nat)(d:Option Tmp)(n:Nat)(κ:T Nat->β):MP bs d n κ=κ (tf bs d n):=by
 cases d with
 |none=>rfl
 |some i=>exact T.setK_eq _ _ _ _
theorem rC.put{cs:List eM}{bs:T Nat}(h:rC cs bs t tv g LO)(d:Option Tmp){x:LD}{v:V}{n:Nat}(r:RS g LO x v)(hb:∀(p:Nat) c,cs[p]? = some c->n+p<cs.length->RS c.g c.LO x v):rC cs (tf bs d n) (lh t d x) (putD tv d v) g LO:=by
 cases d with
 |none=>exact h
 |some i =>
  intro j y hy
  simp only[lh]at hy
  rw[T.get_setN]at hy
  rw[EI]
  split at hy
  ·rename_i e
   cases hy;subst e
   rw[if_pos rfl]
   refine⟨v,rfl,r,fun p c hc hp=>hb p c hc ?_⟩
   have:lL (tf bs (some i) n) i=n:=by simp only[lL,tf,T.get_set_same]
   rwa [this]at hp
  ·rename_i e
   rw[if_neg e]
   obtain⟨w,h1,h2,h3⟩:=h j y hy
   refine⟨w,h1,h2,fun p c hc hp=>h3 p c hc ?_⟩
   have:lL (tf bs (some i) n) j=lL bs j:=by simp only[lL,tf,T.get_setN,if_neg e]
   rwa [this]at hp
theorem rC.push{cs:List eM}{bs:T Nat}{c:eM}(h:rC cs bs t tv c.g c.LO):rC (c::cs) bs t tv c.g c.LO:=fun i x hx=>by
 obtain⟨v,h1,h2,h3⟩:=h i x hx
 refine⟨v,h1,h2,fun p d hd hp=>?_⟩
 cases p with
 |zero =>
  have hd:c=d:=by simpa using hd
  subst hd;exact h2
 |succ p=>exact h3 p d (by simpa using hd) (by simp only[List.length_cons]at hp;omega)
theorem yI{bs:T Nat}:∀ {l:List Tmp} {i:Tmp},i∈l->lL bs i<=fv bs l
 |j::r,i,h=>by
  simp only[fv]
  rcases List.mem_cons.1 h with rfl|h
  ·exact Nat.le_max_left _ _
  ·exact Nat.le_trans (yI h) (Nat.le_max_right _ _)
theorem rC.op{cs:List eM}{bs:T Nat}(h:rC cs bs t tv g LO){o:Oper}{x:Operand}(hx:x∈o.op.operands.toList){p:Nat}{c:eM}(hc:cs[p]? = some c)(hb:fv bs (sees o)+p<cs.length):Bx c.g c.LO t tv x:=by
 intro y hy
 cases x with
 |tmp i =>
  obtain⟨v,h1,h2,h3⟩:=h i y hy
  refine⟨v,h1,h3 p c hc ?_⟩
  have:lL bs i<=fv bs (sees o):=yI (by unfold sees;rw[List.mem_filterMap];exact⟨_,hx,rfl⟩)
  omega
 |const k =>
  simp only[iu]at hy
  split at hy
  ·rename_i v hv
   split at hy
   ·rename_i d hd;cases hy;exact⟨v,hv,OD hd⟩
   ·cases hy
  ·cases hy
 |global _=>cases hy
 |func f=>cases hy;exact⟨_,rfl,by show RD _ _ _;simp only[RD];exact⟨[],[],rfl,by simp only[RL],by simp only[RL]⟩⟩
theorem Cj:∀ {L M:LS} {k st:Nat} {cs:List D},(gd.meet L M)[k]? = some (st,cs)->∃ cs0,L[k]? = some (st,cs0)/\(cs=[]\/(cs=cs0/\∃ c2,M[k]? = some (st,c2)))
 |[],M,k,st,cs,h=>by simp[gd.meet]at h
 |(a,c0)::l,[],0,st,cs,h=>by
  simp[gd.meet]at h
  obtain⟨rfl,rfl⟩:=h
  exact⟨c0,rfl,.inl rfl⟩
 |(a,c0)::l,[],k+1,st,cs,h=>by
  simp only[gd.meet,List.getElem?_cons_succ]at h
  obtain⟨cs0,h1,h2⟩:=Cj h
  refine⟨cs0,by simpa using h1,?_⟩
  rcases h2 with h2|⟨h2,c2,h3⟩
  ·exact .inl h2
  ·simp at h3
 |(a,c0)::l,(b,c1)::m,0,st,cs,h=>by
  simp only[gd.meet]at h
  cases hb:Nat.beq a b with
  |true =>
   rw[hb]at h
   simp at h
   obtain⟨rfl,rfl⟩:=h
   obtain rfl:=Nat.eq_of_beq_eq_true hb
   exact⟨c0,rfl,.inr ⟨rfl,c1,rfl⟩⟩
  |false =>
   rw[hb]at h
   simp at h
   obtain⟨rfl,rfl⟩:=h
   exact⟨c0,rfl,.inl rfl⟩
 |(a,c0)::l,(b,c1)::m,k+1,st,cs,h=>by
  have h':(gd.meet l m)[k]? = some (st,cs):=by
   simp only[gd.meet]at h
   cases hb:Nat.beq a b<;>(rw[hb]at h;simpa using h)
  obtain⟨cs0,h1,h2⟩:=Cj h'
  exact⟨cs0,by simpa using h1,by simpa using h2⟩
theorem sN:∀ {r:List (LS×DH)} {L:LS} {k st:Nat} {cs:List D},(gd L r)[k]? = some (st,cs)->∃ cs0,L[k]? = some (st,cs0)/\(cs=[]\/(cs=cs0/\∀ M∈r,∃ c2,M.1[k]? = some (st,c2)))
 |[],L,k,st,cs,h=>⟨cs,h,.inr ⟨rfl,fun M hM=>by cases hM⟩⟩
 |(M,H)::r,L,k,st,cs,h=>by
  simp only[gd]at h
  obtain⟨cs1,h1,h2⟩:=sN h
  obtain⟨cs0,h3,h4⟩:=Cj h1
  refine⟨cs0,h3,?_⟩
  rcases h2 with h2|⟨rfl,h2⟩
  ·exact .inl h2
  ·rcases h4 with h4|⟨rfl,c2,h5⟩
   ·exact .inl h4
   ·refine .inr ⟨rfl,fun N hN=>?_⟩
    rcases List.mem_cons.1 hN with rfl|hN
    ·exact⟨c2,h5⟩
    ·exact h2 N hN
theorem CZ{r:List DH}:∀ {H:DH} {i o:Nat},(Lf r i H)[o]? =(H[o]?).map (AF r (i+o))
 |[],i,o=>by simp[Lf]
 |b::t,i,0=>by simp[Lf]
 |b::t,i,o+1=>by
  simp only[Lf,List.getElem?_cons_succ]
  rw[CZ,show i+1+o=i+(o+1)by omega]
theorem HG{H:DH}{r:List DH}{o:Nat}{x:DB}(h:(eW H r)[o]? = some x):x=.dead\/∃ st cs,x=.cells st cs/\H[o]? = some (.cells st cs)/\∀ H2∈r,H2[o]? = some (.cells st cs):=by
 rw[eW,CZ,Nat.zero_add]at h
 cases hb:H[o]? with
 |none=>rw[hb]at h;cases h
 |some b =>
  rw[hb]at h
  have h:AF r o b=x:=by simpa using h
  subst h
  cases b with
  |cells st cs =>
   simp only[AF]
   split
   ·rename_i hall;exact .inr ⟨st,cs,rfl,rfl,hall⟩
   ·exact .inl rfl
  |_=>exact .inl rfl
mutual
theorem mZ:∀ v:V,aR.sameV v v=true
 |.bool b=>by simp[aR.sameV]
 |.int k n=>by simp[aR.sameV]
 |.str l=>by simp[aR.sameV]
 |.ptr a=>by simp[aR.sameV]
 |.nilptr=>rfl
 |.slice a z n c sz=>by simp[aR.sameV]
 |.nilslice=>rfl
 |.map r=>by simp[aR.sameV]
 |.nilmap=>rfl
 |.func f a b=>by simp[aR.sameV,fZ a,fZ b]
 |.nilFunc=>rfl
 |.iface t v=>by simp[aR.sameV,mZ v]
 |.nilIface=>rfl
 |.agg l=>by simp[aR.sameV,fZ l]
 |.tuple l=>by simp[aR.sameV,fZ l]
 |.atom i=>by simp[aR.sameV]
theorem fZ:∀ l:List V,aR l l=true
 |[]=>rfl
 |v::r=>by simp[aR,mZ v,fZ r]
end
theorem tc{E:cU}{o:Oper}{v:V}:∀ {l:List S},l≠[]->(∀ s∈l,cS o.op E tv s=some (.val v s))->fO E tv o l=some v
 |[],h,_=>(h rfl).elim
 |[s],_,h=>by simp only[fO,cT,h s List.mem_cons_self]
 |s::s2::r,_,h=>by
  have h2:=tc (l:=s2::r) (by simp) fun x hx=>h x (List.mem_cons_of_mem _ hx)
  simp only[fO,cT,h s List.mem_cons_self]at h2 ⊢
  rw[h2]
  simp only[aR,mZ,Bool.and_self,cond_true]
theorem RS.same_at{cs:List eM}{cur:eM}(hh:jj b cur cs){x:LD}{v:V}{p:Nat}{c:eM}(hc:cs[p]? = some c)(r:RS c.g c.LO x v):RS cur.g cur.LO x v/\∀(q:Nat) d,cs[q]? = some d->q<=p->RS d.g d.LO x v :=
 ⟨r.nxt (hh.at hc).2,fun q d hd hq=>r.nxt (hh.two hd hc hq)⟩
theorem dp{α:Type}{l:List α}{i:Nat}{x:α}(h:l[i]? = some x):i<l.length:=by
 rcases Nat.lt_or_ge i l.length with q|q
 ·exact q
 ·rw[List.getElem?_eq_none q]at h;cases h
theorem Ho{cs:List eM}{bs:T Nat}{o:Oper}{κ:T LD->zO->ai}(hk:aD E.E.P o.op=0)(hok:Ok g)(hh:jj b ⟨L,g,LO⟩ cs)(hs:rC cs bs t tv g LO)(e:mA o.op E false t [] [] κ=some out) :
 ∃ t' d v,κ t' (.val d [] [])=some out/\cS o.op E.E tv g.s=some (.val v g.s)/\Rf t t' tv/\RS g LO d v/\∀(p:Nat) c,cs[p]? = some c->fv bs (sees o)+p<cs.length->RS c.g c.LO d v:=by
 by_cases hb:fv bs (sees o)<cs.length
 ·have hp:cs.length - 1 - fv bs (sees o)<cs.length:=by omega
  have hc:=List.getElem?_eq_getElem hp
  generalize cs[cs.length - 1 - fv bs (sees o)]=c at hc
  obtain⟨⟨h1,_⟩,h3⟩:=hh.at hc
  have ho:∀ x∈o.op.operands.toList,Bx c.g c.LO t tv x:=fun x hx=>hs.op hx hc (by omega)
  obtain⟨t',d,v,k1,k2,k3,k4⟩:=qp (L:=[]) o.op (by omega) (.inr rfl) ho h1 (fun k x f hx=>by simp at hx) (gg.nil _) e
  have hst:=An (L:=[]) (g':=g) o.op (by omega) ho h1 (fun k x f hx=>by simp at hx) (gg.nil _) uH.nil e h3.1.le (fun k y f hx=>by simp at hx) (fun o st cs f v hx=>by simp at hx) v k2
  obtain⟨r1,r2⟩:=k3.same_at hh hc
  exact⟨t',d,v,k1,hst,k4,r1,fun p c' hc' hp'=>r2 p c' hc' (by omega)⟩
 ·have ho:∀ x∈o.op.operands.toList,Bx g LO t tv x:=fun x _=>zN.op (fun i y hy=>by obtain⟨v,q1,q2,_⟩:=hs i y hy;exact⟨v,q1,q2⟩) x
  obtain⟨t',d,v,k1,k2,k3,k4⟩:=qp (L:=[]) o.op (by omega) (.inr rfl) ho hok (fun k x f hx=>by simp at hx) (gg.nil _) e
  exact⟨t',d,v,k1,k2,k4,k3,fun p c hc hp=>by omega⟩
def hD(c:eM):LS×DH:=(c.L,c.g.H)
theorem Hn{cs:List eM}{bs:T Nat}{o:Oper}{w:Nat}{κ:T LD->LD->ai}(hk:aD E.E.P o.op<=1)(hns:∀ ty x lo hi mx,o.op≠.slice ty x lo hi mx)(hh:jj b ⟨L,g,LO⟩ cs)(hs:rC cs bs t tv g LO)(hw:w<=cs.length)(hb:fv bs (sees o)<=cs.length - w)(e:Ag E o ((cs.map hD).take w) t κ=some out) :
 ∃ t' d v,κ t' d=some out/\fO E.E tv o ((cs.map fun c=>c.g.s).take w)=some v/\Rf t t' tv/\RS g LO d v/\∀(p:Nat) c,cs[p]? = some c->cs.length - w+p<cs.length->RS c.g c.LO d v:=by
 cases cs with
 |nil=>cases w<;>simp[Ag]at e
 |cons c0 rest =>
  cases w with
  |zero=>simp[Ag]at e
  |succ w =>
   rw[List.map_cons,List.take_succ_cons]at e
   simp only[Ag]at e
   cases w with
   |zero =>
    rw[List.take_zero]at e
    simp only at e
    have hc:(c0::rest)[0]? = some c0:=rfl
    obtain⟨⟨h1,h2⟩,h3⟩:=hh.at hc
    have ho:∀ x∈o.op.operands.toList,Bx c0.g c0.LO t tv x:=fun x hx=>hs.op hx hc (by simp only[List.length_cons]at hb ⊢;omega)
    obtain⟨t',d,v,k1,k2,k3,k4⟩:=qp o.op hk (.inl hns) ho h1 h2.2 (gg.refl _) e
    obtain⟨r1,r2⟩:=k3.same_at hh hc
    refine⟨t',d,v,k1,?_,k4,r1,fun p c' hc' hp'=>r2 p c' hc' (by omega)⟩
    simp only[List.map_cons,List.take_succ_cons,List.take_zero,fO,cT,k2]
   |succ w =>
    have hw2:w+1<(c0::rest).length:=by simp only[List.length_cons]at hw ⊢;omega
    cases rest with
    |nil=>simp at hw2
    |cons c1 rest =>
     rw[List.map_cons,List.take_succ_cons]at e
     simp only[List.map_cons,List.map_take]at e
     have hc:=List.getElem?_eq_getElem hw2
     generalize(c0::c1::rest)[w+1]=c at hc
     have hc0:(c0::c1::rest)[0]? = some c0:=rfl
     obtain⟨⟨h1,h2⟩,h3⟩:=hh.at hc
     have ho:∀ x∈o.op.operands.toList,Bx c.g c.LO t tv x:=fun x hx=>hs.op hx hc (by simp only[List.length_cons]at hb hw ⊢;omega)
     have inw:∀(q:Nat) d,(c0::c1::rest)[q]? = some d->1<=q->q<=w+1->hD d∈hD c1::(rest.map hD).take w:=fun q d hd h1 h2=>by
      cases q with
      |zero=>omega
      |succ q =>
       have hd:(c1::rest)[q]? = some d:=by simpa using hd
       have:((c1::rest).map hD |>.take (w+1))[q]? = some (hD d):=by rw[List.getElem?_take,if_pos (by omega),List.getElem?_map,hd];rfl
       exact List.mem_of_getElem? this
     have key:∀ {k st:Nat} {x:List D},(gd (hD c0).1 (hD c1::(rest.map hD).take w))[k]? = some (st,x)->x≠[]->∀(q:Nat) d,(c0::c1::rest)[q]? = some d->q<=w+1->∀ f,d.LO[k]? = some f->∃ c2,d.L[k]? = some (st,c2):=fun {k st x} hx hne q d hd hq f hf=>by
      obtain⟨x0,k1,k2⟩:=sN hx
      rcases k2 with k2|⟨rfl,k2⟩
      ·exact(hne k2).elim
      ·cases q with
       |zero =>
        have:c0=d:=by simpa using hd
        subst this;exact⟨x,k1⟩
       |succ q=>exact k2 _ (inw (q+1) d hd (by omega) hq)
     have hLw:VF c.g (gd (hD c0).1 (hD c1::(rest.map hD).take w)) c.LO:=fun k x f hx hf=>by
      obtain⟨st,x⟩:=x
      by_cases hne:x=[]
      ·subst hne
       have hkl:k<c.L.length:=by rw[h2.1];exact dp hf
       exact⟨(h2.2 k _ f (List.getElem?_eq_getElem hkl) hf).1,.inl rfl⟩
      ·obtain⟨c2,k1⟩:=key hx hne (w+1) c hc (Nat.le_refl _) f hf
       obtain⟨x0,k2,k3⟩:=sN hx
       rcases k3 with k3|⟨rfl,_⟩
       ·exact(hne k3).elim
       ·obtain⟨st',cs',j1,j2,j3⟩:=(hh.two hc0 hc (Nat.zero_le _)).2.pvn k st c2 f k1 hf
        have:(hD c0).1=c0.L:=rfl
        rw[this]at k2
        rw[k2]at j1
        cases j1
        obtain⟨rfl,_⟩:=j3 rfl
        exact h2.2 k _ f k1 hf
     have heap:∀ {o:Nat} {x:DB},(eW (hD c0).2 ((hD c1::(rest.map hD).take w).map (·.2)))[o]? = some x->x=.dead\/∃ st cs,x=.cells st cs/\∀(q:Nat) d,(c0::c1::rest)[q]? = some d->q<=w+1->d.g.H[o]? = some (.cells st cs):=fun {o x} hx=>by
      rcases HG hx with q|⟨st,cs,rfl,q1,q2⟩
      ·exact .inl q
      ·refine .inr ⟨st,cs,rfl,fun q d hd hq=>?_⟩
       cases q with
       |zero =>
        have:c0=d:=by simpa using hd
        subst this;exact q1
       |succ q=>exact q2 _ (List.mem_map.2 ⟨hD d,inw (q+1) d hd (by omega) hq,rfl⟩)
     have hSub:gg (eW (hD c0).2 ((hD c1::(rest.map hD).take w).map (·.2))) c.g:=fun o x hx=>by
      rcases heap hx with q|⟨st,cs,rfl,q⟩
      ·exact .inl q
      ·exact .inr (q (w+1) c hc (Nat.le_refl _))
     have hOnly:uH (eW (hD c0).2 ((hD c1::(rest.map hD).take w).map (·.2))):=fun o x hx=>by
      rcases heap hx with q|⟨st,cs,q,_⟩
      ·exact .inl q
      ·exact .inr ⟨st,cs,q⟩
     have e':mA o.op E false t (gd (hD c0).1 (hD c1::(rest.map hD).take w)) (eW (hD c0).2 ((hD c1::(rest.map hD).take w).map (·.2))) (fun t x=>zf (fun t x _ _=>κ t x) t x)=some out:=by
      simpa[List.map_take]using e
     obtain⟨t',d,v,k1,k2,k3,k4⟩:=qp o.op hk (.inl hns) ho h1 hLw hSub e'
     obtain⟨r1,r2⟩:=k3.same_at hh hc
     refine⟨t',d,v,k1,?_,k4,r1,fun p c' hc' hp'=>r2 p c' hc' (by omega)⟩
     refine tc (by simp) fun s hs'=>?_
     obtain⟨q,hq⟩:=List.getElem?_of_mem hs'
     rw[List.getElem?_take]at hq
     split at hq
     ·rename_i hql
      rw[List.getElem?_map]at hq
      cases hd:(c0::c1::rest)[q]? with
      |none=>rw[hd]at hq;cases hq
      |some d' =>
       rw[hd]at hq
       cases hq
       have hn:=hh.two hd hc (by omega)
       refine An (g':=d'.g) o.op hk ho h1 hLw hSub hOnly e' hn.1.le (fun k y f hy hf hne=>?_) (fun o' st cs f v hx hO=>?_) v k2
       ·obtain⟨st,y⟩:=y
        obtain⟨c2,m1⟩:=key hy hne (w+1) c hc (Nat.le_refl _) f hf
        obtain⟨qq,hpre⟩:=hn.2.pre
        obtain⟨c3,m2⟩:=key hy hne q d' hd (by omega) f (by rw[<- hpre];exact eG _ hf)
        obtain⟨st',cs',j1,j2,j3⟩:=hn.2.pvn k st c2 f m1 hf
        rw[m2]at j1
        cases j1
        exact(j3 rfl).2
       ·rcases heap hx with q'|⟨st',cs',q1,q2⟩
        ·cases q'
        ·cases q1
         obtain⟨s2,c2,j1,j2,j3⟩:=hn.1.stm o' st cs f v (q2 (w+1) c hc (Nat.le_refl _)) hO
         rw[q2 q d' hd (by omega)]at j1
         cases j1
         exact(j3 rfl).2
     ·cases hq
end Go.AI
namespace Go.AI
variable[fc]
variable{b:Nat}{P0:List Nat}{g:Gh}{LO:List Nat}{t:T LD}{L:LS}{tv:T V}{out:il}{E:cD}{an:hC}{rec:oA}
theorem LM{κ:T LD->LD->LS->DH->ai}{x:zO}(h:zf κ t x=some out):∃ d L' H',x=.val d L' H'/\κ t d L' H'=some out:=by
 unfold zf at h
 split at h
 ·exact⟨_,_,_,rfl,h⟩
 ·cases h
theorem FI.cfg(h:FI b P0 g t L tv LO):HW ⟨L,g,LO⟩:=⟨h.ok,h.own⟩
theorem FI.sl(h:FI b P0 g t L tv LO){cs:List eM}{bs:T Nat}{t':T LD}(hs:rC cs bs t' tv g LO):FI b P0 g t' L tv LO:=⟨h.ok,fun i x hx=>by obtain⟨v,h1,h2,_⟩:=hs i x hx;exact⟨v,h1,h2⟩,h.own,h.pv,h.low,h.nd,h.bl⟩
theorem rC.of(h:zN g LO t tv)(bs:T Nat):rC [⟨L,g,LO⟩] bs t tv g LO:=fun i x hx=>by
 obtain⟨v,h1,h2⟩:=h i x hx
 refine⟨v,h1,h2,fun p c hc _=>?_⟩
 cases p with
 |zero =>
  have hc:(⟨L,g,LO⟩:eM)=c:=by simpa using hc
  subst hc;exact h2
 |succ p=>simp at hc
theorem oZ(hrec:HS E.E rec){ops:Array Oper}{k:T LD->LS->DH->ai}{dsv:List dX}{upv:Option Md}:∀ {sc:List (Option Nat×Nat)} {cs:List eM} {n:Nat} {bs:T Nat} {t:T LD} {L:LS} {g:Gh} {LO:List Nat} {tv:T V},
 fM E an ops rec k sc (cs.map hD) n bs t L g.H=some out->n=cs.length->FI b P0 g t L tv LO->jj b ⟨L,g,LO⟩ cs->rC cs bs t tv g LO ->
 ∃ tv' s',hU E.E ops (bt (lim E.E)) dsv upv sc (cs.map fun c=>c.g.s) tv g.s=some (.on tv' dsv upv s')/\∃ g' t' L' LO',k t' L' g'.H=some out/\g'.s=s'/\FI b P0 g' t' L' tv' LO'/\Mv b g g'
 |[],cs,n,bs,t,L,g,LO,tv,e,hn,h,hh,hs=>⟨tv,g.s,rfl,g,t,L,LO,e,rfl,h,.refl b g⟩
 |(c,i)::sc,cs,n,bs,t,L,g,LO,tv,e,hn,h,hh,hs=>by
  simp only[fM]at e
  simp only[hU]
  split at e
  ·cases e
  ·rename_i o ho
   rw[ho]
   simp only
   have on:∀ {t1:T LD} {x:LD} {v:V} {m:Nat} {L1:LS} {g1:Gh} {LO1:List Nat},FI b P0 g1 t1 L1 tv LO1->vG b ⟨L,g,LO⟩ ⟨L1,g1,LO1⟩->rC cs bs t1 tv g LO->RS g1 LO1 x v->(∀(p:Nat) c,cs[p]? = some c->m+p<cs.length->RS c.g c.LO x v) ->
    fM E an ops rec k sc (cs.map hD) n (tf bs o.dst m) (lh t1 o.dst x) L1 g1.H=some out ->
    ∃ tv' s',hU E.E ops (bt (lim E.E)) dsv upv sc (cs.map fun c=>c.g.s) (putD tv o.dst v) g1.s=some (.on tv' dsv upv s')/\∃ g' t' L' LO',k t' L' g'.H=some out/\g'.s=s'/\FI b P0 g' t' L' tv' LO'/\Mv b g g':=fun {t1 x v m L1 g1 LO1} h1 hx hs1 hr hm e1=>by
    have hs2:rC cs bs t1 tv g1 LO1:=rC.nxt (x:=⟨L,g,LO⟩) (y:=⟨L1,g1,LO1⟩) hx hs1
    obtain⟨tv',s',k1,g',t',L',LO',k2,k3,k4,k5⟩:=oZ hrec e1 hn (h1.put o.dst hr) (hh.step hx) (hs2.put o.dst hr hm)
    exact⟨tv',s',k1,g',t',L',LO',k2,k3,k4,hx.1.trans k5⟩
   have on2:∀ {t1:T LD} {x:LD} {v:V} {L1:LS} {g1:Gh} {LO1:List Nat} {m:Nat},FI b P0 g1 t1 L1 tv LO1->vG b ⟨L,g,LO⟩ ⟨L1,g1,LO1⟩->rC cs bs t1 tv g LO->RS g1 LO1 x v->(∀(p:Nat) c,(⟨L1,g1,LO1⟩::cs)[p]? = some c->m+p<cs.length+1->RS c.g c.LO x v) ->
    fM E an ops rec k sc ((L1,g1.H)::cs.map hD) (n+1) (tf bs o.dst m) (lh t1 o.dst x) L1 g1.H=some out ->
    ∃ tv' s',hU E.E ops (bt (lim E.E)) dsv upv sc (g1.s::cs.map fun c=>c.g.s) (putD tv o.dst v) g1.s=some (.on tv' dsv upv s')/\∃ g' t' L' LO',k t' L' g'.H=some out/\g'.s=s'/\FI b P0 g' t' L' tv' LO'/\Mv b g g':=fun {t1 x v L1 g1 LO1 m} h1 hx hs1 hr hm e1=>by
    have hs2:rC cs bs t1 tv g1 LO1:=rC.nxt (x:=⟨L,g,LO⟩) (y:=⟨L1,g1,LO1⟩) hx hs1
    have hs3:rC (⟨L1,g1,LO1⟩::cs) bs t1 tv g1 LO1:=rC.push (c:=⟨L1,g1,LO1⟩) hs2
    obtain⟨tv',s',k1,g',t',L',LO',k2,k3,k4,k5⟩:=oZ hrec (cs:=⟨L1,g1,LO1⟩::cs) e1 (by simp[hn]) (h1.put o.dst hr) ⟨h1.cfg,.refl b _,hh.step hx⟩ (hs3.put o.dst hr hm)
    exact⟨tv',s',k1,g',t',L',LO',k2,k3,k4,hx.1.trans k5⟩
   cases c with
   |some c =>
    simp only at e
    rcases vJ e h.slots with⟨hw,t1,e,hr⟩|⟨hw,t1,e,hr⟩
    ·have hs1:=hs.rf hr
     have h1:=h.sl hs1
     rw[hw]
     simp only[iY]
     cases hk:aD E.E.P o.op with
     |zero =>
      rw[hk]at e
      simp only[pB]at e
      obtain⟨t2,d,v,e,k1,k2,k3,k4⟩:=Ho hk h1.ok hh hs1 e
      have hs2:=hs1.rf k2
      have h2:=h1.sl hs2
      simp only[zf]at e
      obtain⟨x',g2,j1,j2,j3,j4,j5,j6⟩:=eS h2 e k3
      rw[cy,fu]at j1
      have hx:vG b ⟨L,g,LO⟩ ⟨L,g2,LO⟩:=⟨j4,.ps j2⟩
      simp only[mO,cT,k1,uY]
      cases hhk:py an o.dst with
      |true =>
       rw[hhk]at j1
       simp only[cond_true]at j1
       have:=on j3 hx hs2 j5 (fun p c hc hp=>by have:=dp hc;omega) j1
       rw[j2]at this;exact this
      |false =>
       rw[hhk]at j1
       simp only[cond_false]at j1
       obtain⟨rfl,rfl⟩:=j6 hhk
       exact on h2 (.refl b _) hs2 j5 k4 j1
     |succ q =>
      cases q with
      |zero =>
       have hns:∀ ty x lo hi mx,o.op≠.slice ty x lo hi mx:=fun _ _ _ _ _ q=>by rw[q]at hk;simp[aD]at hk
       rw[hk]at e
       simp only[pB]at e
       obtain⟨hc,e⟩:=aG e
       simp only[Bool.and_eq_true]at hc
       subst hn
       obtain⟨t2,d,v,e,k1,k2,k3,k4⟩:=Hn (by omega) hns hh hs1 (Nat.le_of_ble_eq_true hc.2) (Nat.le_of_ble_eq_true hc.1) e
       have hs2:=hs1.rf k2
       have h2:=h1.sl hs2
       obtain⟨x',g2,j1,j2,j3,j4,j5,j6⟩:=eS h2 e k3
       rw[cy,fu]at j1
       have hx:vG b ⟨L,g,LO⟩ ⟨L,g2,LO⟩:=⟨j4,.ps j2⟩
       simp only[mO,k1,qh]
       cases hhk:py an o.dst with
       |true =>
        rw[hhk]at j1
        simp only[cond_true]at j1
        have:=on j3 hx hs2 j5 (fun p c hc hp=>by omega) j1
        rw[j2]at this;exact this
       |false =>
        rw[hhk]at j1
        simp only[cond_false]at j1
        obtain⟨rfl,rfl⟩:=j6 hhk
        exact on h2 (.refl b _) hs2 j5 k4 j1
      |succ q =>
       cases q with
       |zero =>
        rw[hk]at e
        simp only[pB]at e
        obtain⟨t2,x,nx,e,k1,k2,k3⟩:=GI o.op h1 e
        have hs2:=hs1.rf k2
        obtain⟨d,L',H',hx',e'⟩:=LM e
        subst hx'
        clear e
        obtain⟨v,s',rfl,g1,LO1,m1,m2,m3,m4,m5,m6⟩:=k3
        have m3:=m3.rf k2
        rw[<- m1]at e'
        have e:=e'
        obtain⟨x',g2,j1,j2,j3,j4,j5,j6⟩:=eS m3 e m6
        rw[cy,fu]at j1
        have hx:vG b ⟨L,g,LO⟩ ⟨L',g2,LO1⟩:=vG.trans (y:=⟨L',g1,LO1⟩) ⟨m4,m5⟩ ⟨j4,.ps j2⟩
        simp only[mO,cT,k1,uZ]
        have:=on j3 hx hs2 j5 (fun p c hc hp=>by have:=dp hc;omega) j1
        rw[j2,m2]at this;exact this
       |succ q=>rw[hk]at e;simp only[pB]at e;cases e
    ·have hs1:=hs.rf hr
     have h1:=h.sl hs1
     rw[hw]
     simp only[iY]
     rw[cy,fu]at e
     exact on h1 (.refl b _) hs1 RS.u (fun p c _ _=>rfl) e
   |none =>
    simp only at e
    rcases vJ e h.slots with⟨hw,t1,e,hr⟩|⟨hw,t1,e,hr⟩
    ·have hs1:=hs.rf hr
     have h1:=h.sl hs1
     rw[hw]
     obtain⟨t2,x,nx,e,k1,k2,k3⟩:=GI o.op h1 e
     have hs2:=hs1.rf k2
     have h2:=h1.sl hs2
     simp only[eU,cT,k1]
     have born:∀ {L1:LS} {g1:Gh} {LO1:List Nat} {x:LD} {v:V},RS g1 LO1 x v->∀(p:Nat) c,(⟨L1,g1,LO1⟩::cs)[p]? = some c->n+p<cs.length+1->RS c.g c.LO x v:=fun {L1 g1 LO1 x v} hr p c hc hp=>by
      cases p with
      |zero =>
       have hc:(⟨L1,g1,LO1⟩:eM)=c:=by simpa using hc
       subst hc;exact hr
      |succ p=>omega
     cases x with
     |val d L' H' =>
      obtain⟨v,s',rfl,g1,LO1,m1,m2,m3,m4,m5,m6⟩:=k3
      have m3:=m3.rf k2
      simp only[CL,<- m1]at e
      obtain⟨x',g2,j1,j2,j3,j4,j5,j6⟩:=eS m3 e m6
      rw[cy,fu]at j1
      have hx:vG b ⟨L,g,LO⟩ ⟨L',g2,LO1⟩:=vG.trans (y:=⟨L',g1,LO1⟩) ⟨m4,m5⟩ ⟨j4,.ps j2⟩
      have:=on2 j3 hx hs2 j5 (born j5) j1
      rw[j2,m2]at this
      have hnx:Nat.ble g.s.next s'.next=true:=Nat.ble_eq_true_of_le (by rw[<- m2];exact m4.le.next)
      simp only[km,hnx,cond_true];exact this
     |skip L' H' =>
      obtain⟨s',rfl,g1,LO1,m1,m2,m3,m4,m5,_⟩:=k3
      have m3:=m3.rf k2
      simp only[CL,<- m1]at e
      obtain⟨x',g2,j1,j2,j3,j4,j5,j6⟩:=eS (x:=.u) (v:=V.undef) m3 e RS.u
      rw[cy,fu]at j1
      have hx:vG b ⟨L,g,LO⟩ ⟨L',g2,LO1⟩:=vG.trans (y:=⟨L',g1,LO1⟩) ⟨m4,m5⟩ ⟨j4,.ps j2⟩
      have:=on2 j3 hx hs2 j5 (born j5) j1
      rw[j2,m2]at this
      have hnx:Nat.ble g.s.next s'.next=true:=Nat.ble_eq_true_of_le (by rw[<- m2];exact m4.le.next)
      simp only[km,hnx,cond_true];exact this
     |enter f args L' H' =>
      obtain⟨vs,rfl,rfl,rfl,q1,_⟩:=k3
      simp only[CL]at e
      obtain⟨oc,hoc,e⟩:=kB e
      obtain⟨vout,m1,m2⟩:=hrec.c f args none g.H oc hoc g rfl h2.ok vs none q1 rfl
      have hkeep:=m2
      obtain⟨g1,n1,n2,n3,n4,n5,_,hpv⟩:=kz h2 m2
      obtain⟨ve,vu,vs'⟩:=vout
      simp only at n2 n5
      rcases e with⟨d,hd1,e⟩|⟨c,hd1,e⟩
      ·rw[hd1]at n5
       obtain⟨v,rfl,n6⟩:=n5
       rw[<- n1]at e
       obtain⟨x',g2,j1,j2,j3,j4,j5,_⟩:=eS (x:=.g d) n3 e n6
       rw[cy,fu]at j1
       have hx:vG b ⟨L',g,LO⟩ ⟨L',g2,LO⟩:=vG.trans (y:=⟨L',g1,LO⟩) ⟨n4,hpv⟩ ⟨j4,.ps j2⟩
       have:=on2 j3 hx hs2 j5 (born j5) j1
       rw[j2,n2]at this
       have hnx:Nat.ble g.s.next vs'.next=true:=Nat.ble_eq_true_of_le (by rw[<- n2];exact n4.le.next)
       simp only[km,bt,m1,sK,hnx,cond_true];exact this
      ·cases e
     |defer _ _ _=>simp only[CL]at e;cases e
     |recover _ _=>simp only[CL]at e;cases e
     |panic _ _ _=>simp only[CL]at e;cases e
     |round _ _ _ _=>simp only[CL]at e;cases e
    ·have hs1:=hs.rf hr
     have h1:=h.sl hs1
     rw[hw]
     rw[cy,fu]at e
     have:=on2 h1 (.refl b _) hs1 (x:=.u) (v:=V.undef) RS.u (fun p c _ _=>rfl) e
     have hnx:Nat.ble g.s.next g.s.next=true:=Nat.ble_eq_true_of_le (Nat.le_refl _)
     simp only[eU,hnx,cond_true];exact this
end Go.AI
namespace Go.AI
variable[fc]
variable{b:Nat}{P0:List Nat}{g:Gh}{LO:List Nat}{t:T LD}{L:LS}{tv:T V}{out:il}{E:cD}{an:hC}{rec:oA}
structure Ps(E:cD):Prop where
 no:∀ f,E.vo f=false->∀ vs s,E.E.orc f vs s=none
 yes:∀ f args H d H',E.orc f args H=some (d,H')->∀ g:Gh,g.H=H->Ok g->∀ vs,RL g args vs->∃ vout,lim E.E (.call f vs none) g.s=some vout/\iJ g.s.next g.Pv g ⟨.ret d,none,H'⟩ vout
def LK(E:cD)(f:FuncId)(fn:Func)(go:rH):Prop:=∀ t L todo ds m up H out,go t L todo ds m up H=some out->∀ b P0 (g:Gh) tv LO dsv mv upv rdv,g.H=H->FI b P0 g t L tv LO->Gi g ds dsv->LJ g m mv->pL g up upv rdv ->
 ∃ vout,lim E.E (.frame f fn tv todo dsv mv upv rdv) g.s=some vout/\iJ b P0 g out vout
structure Do(E:cD)(R:aE):Prop where
 call:HS E.E (rQ R)
 frame:∀ f fn,LK E f fn (LG R f fn)
theorem iJ.trans{g':Gh}{vout:eo}(m:Mv b g g')(h:iJ b P0 g' out vout):iJ b P0 g out vout:=by
 obtain⟨g2,h1,h2,h3,h4,h5,h6⟩:=h
 exact⟨g2,h1,h2,h3,h4,m.trans h5,h6⟩
theorem vS:∀ {l:List Nat} {κ:List LD->ai},vT t l κ=some out->∃ xs,κ xs=some out/\xs.length=l.length/\∀(k:Nat) i,l[k]? = some i->xs[k]? = t.get (et i)
 |[],κ,h=>⟨[],h,rfl,fun k i hk=>by simp at hk⟩
 |j::r,κ,h=>by
  simp only[vT]at h
  unfold lD at h
  split at h
  ·rename_i x hx
   obtain⟨xs,h1,h2,h3⟩:=vS h
   refine⟨x::xs,h1,by simp[h2],fun k i hk=>?_⟩
   cases k with
   |zero =>
    have hk:j=i:=by simpa using hk
    subst hk;simpa using hx.symm
   |succ k=>simpa using h3 k i (by simpa using hk)
  ·cases h
theorem Jd:∀ {l:List Nat} {xs:List LD} {u:T LD} {i:Nat} {x:LD},(SC l xs u).get (et i)=some x->(∃(k:Nat),l[k]? = some i/\xs[k]? = some x)\/u.get (et i)=some x
 |[],xs,u,i,x,h=>by cases xs<;>exact .inr h
 |j::r,[],u,i,x,h=>.inr h
 |j::r,y::xs,u,i,x,h=>by
  simp only[SC]at h
  rcases Jd h with⟨k,h1,h2⟩|h
  ·exact .inl ⟨k+1,by simpa using h1,by simpa using h2⟩
  ·rw[T.setK_eq,id,T.get_setN]at h
   split at h
   ·rename_i e;cases h;exact .inl ⟨0,by simp[e],rfl⟩
   ·exact .inr h
theorem EA{ks:List Nat}:∀ {L:LS} {i k:Nat} {x:Nat×List D},(qE ks i L)[k]? = some x->∃ st cs,L[k]? = some (st,cs)/\(x.2=[]\/x.2=cs)
 |[],i,k,x,h=>by simp[qE]at h
 |(st,cs)::r,i,0,x,h=>by
  simp[qE]at h
  subst h
  refine⟨st,cs,rfl,?_⟩
  cases QD i ks<;>simp
 |(st,cs)::r,i,k+1,x,h=>by
  simp only[qE,List.getElem?_cons_succ]at h
  obtain⟨s2,c2,h1,h2⟩:=EA h
  exact⟨s2,c2,by simpa using h1,h2⟩
theorem AE{ks:List Nat}:∀ {L:LS} {i:Nat},(qE ks i L).length=L.length
 |[],_=>rfl
 |(_,_)::r,i=>by simp[qE,AE (L:=r)]
def Gh.pvd(g:Gh)(P0:List Nat):Gh:=⟨g.O,g.H,P0,g.s⟩
theorem Cr(hs:∀ f∈P0,f∈g.Pv):ot g (g.pvd P0):=⟨Nat.le_refl _,fun _ _ v h=>⟨v,h⟩,fun _ _ st cap l h=>⟨st,cap,l,h,Nat.le_refl _,id,fun _=>⟨rfl,rfl⟩⟩,fun _ h=>⟨h.1,fun hm=>h.2.1 (hs _ hm),h.2.2⟩,fun _ _ _ _ h=>h,Nat.le_refl _⟩
theorem Es{n:Nat}:∀ {xs:List LD} {i k c:Nat},Av n xs=true->xs[i]? = some (.lp k c)->k<n
 |x::r,0,k,c,h,hi=>by
  have hi:x=.lp k c:=by simpa using hi
  subst hi
  simp only[Av,Bool.and_eq_true]at h
  exact jg h.1
 |x::r,i+1,k,c,h,hi=>by
  simp only[Av,Bool.and_eq_true]at h
  exact Es h.2 (i:=i) (by simpa using hi)
 |[],i,k,c,h,hi=>by simp at hi
theorem Ok.pvd(h:Ok g)(hs:∀ f∈P0,f∈g.Pv):Ok (g.pvd P0):=⟨h.len,h.wf,h.inj,fun o f v ho=>⟨(h.lt o f v ho).1,fun hm=>(h.lt o f v ho).2 (hs f hm)⟩,fun f hf=>h.pv f (hs f hf),fun o x hx=>(h.obj o x hx).keep (Cr hs) rfl fun _ _ _=>rfl,h.gl.to fun f h1 hp ho=>⟨rfl,h1,fun hm=>hp (hs f hm),ho⟩⟩
theorem Mv.pvd(hs:∀ f∈P0,f∈g.Pv):Mv b g (g.pvd P0):=⟨Cr hs,fun _ _ _=>rfl,fun _ _ v h _=>⟨v,h⟩,fun _ s1 c1 _ _ h _=>⟨s1,c1,h,Nat.le_refl _,fun _=>⟨rfl,rfl⟩⟩⟩
theorem Ld{f:FuncId}{fn:Func}{ih go:rH}(h1:LK E f fn ih)(h2:LK E f fn go):LK E f fn (FA an ih go):=by
 intro t L todo ds m up H out e b P0 g tv LO dsv mv upv rdv hH hf hd hm hu
 have hgo:go t L todo ds m up H=some out->∃ vout,lim E.E (.frame f fn tv todo dsv mv upv rdv) g.s=some vout/\iJ b P0 g out vout:=fun e=>h2 _ _ _ _ _ _ _ _ e b P0 g tv LO dsv mv upv rdv hH hf hd hm hu
 unfold FA at e
 split at e
 ·split at e
  ·rename_i live ks _
   obtain⟨xs,e,_,hx⟩:=vS e
   cases hlp:Av (lT ks) xs with
   |false=>rw[hlp]at e;cases e
   |true =>
   rw[hlp,cond_true]at e
   have hs:∀ f∈P0++LO.take (lT ks),f∈g.Pv:=fun f hf'=>by
    rw[hf.pv]
    rcases List.mem_append.mp hf' with h|h
    ·exact List.mem_append_left _ h
    ·exact List.mem_append_right _ (List.mem_of_mem_take h)
   have hle:=Cr (g:=g) hs
   have hfi:FI b P0 (g.pvd (P0++LO.take (lT ks))) (SC live xs .leaf) (qE ks 0 (L.take (lT ks))) tv (LO.take (lT ks)):=by
    refine⟨hf.ok.pvd hs,fun i x hi=>?_,⟨by rw[AE,List.length_take,List.length_take,hf.own.1],fun k x f' hk hf'=>?_⟩,rfl,fun f hf'=>hf.low f (List.mem_of_mem_take hf'),hf.nd.sublist (List.take_sublist _ _),hf.bl⟩
    ·rcases Jd hi with⟨k,q1,q2⟩|q
     ·have q3:=q2
      rw[hx k i q1]at q2
      obtain⟨v,q4,q5⟩:=hf.slots i x q2
      refine⟨v,q4,?_⟩
      cases x with
      |g d=>exact RD.mono hle q5
      |lp k' c =>
       obtain⟨f,q6,q7⟩:=q5
       exact⟨f,by rw[List.getElem?_take_of_lt (Es hlp q3)];exact q6,q7⟩
      |u=>exact q5
     ·rw[T.get_leaf]at q;cases q
    ·obtain⟨st,cs,q1,q2⟩:=EA hk
     have hlt:k<lT ks:=by
      rcases Nat.lt_or_ge k (lT ks)with q|q
      ·exact q
      ·rw[List.getElem?_eq_none (by rw[List.length_take];omega)]at q1;cases q1
     rw[List.getElem?_take_of_lt hlt]at q1
     have hf2:=hf'
     rw[List.getElem?_take_of_lt hlt]at hf2
     obtain⟨q3,q4⟩:=hf.own.2 k _ f' q1 hf2
     refine⟨List.mem_append_right _ (List.mem_of_getElem? hf'),?_⟩
     rcases q2 with q2|q2
     ·exact .inl q2
     ·rw[q2]
      rcases q4 with q4|⟨el,vs,w1,w2,w3⟩
      ·exact .inl q4
      ·exact .inr ⟨el,vs,w1,w2.mono hle,w3⟩
   obtain⟨vout,k1,k2⟩:=h1 _ _ _ _ _ _ _ _ e b P0 (g.pvd (P0++LO.take (lT ks))) tv _ dsv mv upv rdv hH hfi (hd.mono hle) (hm.mono hle) (hu.mono hle)
   exact⟨vout,k1,k2.trans (Mv.pvd hs)⟩
  ·exact hgo e
 ·exact hgo e
theorem Qp{up:Option eg}{upv:Option Md}{rdv:Option Nat}(h:pL g up upv rdv):LA g (MY up) upv:=by
 unfold pL at h
 unfold MY
 split
 ·simp only at h;exact h.1
 ·split at h
  ·rename_i hn;exact(hn _ rfl).elim
  ·exact h.2
theorem FI.leave(h:FI b P0 g t L tv LO){e:Dv}{ve:XM}{up:Option eg}{upv:Option Md}(he:Vw g e ve)(hu:LA g up upv):iJ b P0 g ⟨e,up,g.H⟩ ⟨ve,upv,g.s⟩:=by
 have hs:∀ f∈P0,f∈g.Pv:=fun f hf=>by rw[h.pv];exact List.mem_append_left _ hf
 have hle:=Cr (g:=g) hs
 refine⟨g.pvd P0,rfl,rfl,rfl,h.ok.pvd hs,Mv.pvd hs,?_,hu.mono hle⟩
 cases e with
 |ret d=>obtain⟨v,h1,h2⟩:=he;exact⟨v,h1,h2.mono hle⟩
 |pan c=>obtain⟨c',h1,h2⟩:=he;exact⟨c',h1,h2.mono hle⟩
theorem mq{P:Program}(h:FI b P0 g t L tv LO):∀ {l:List ResultVar} {κ:List D->ai},mr P t L g.H l κ=some out->∃ ds vs,κ ds=some out/\jo P tv g.s l=some vs/\RL g ds vs
 |[],κ,e=>⟨[],[],e,rfl,by simp only[RL]⟩
 |x::r,κ,e=>by
  simp only[mr]at e
  cases x with
  |tmp i =>
   simp only at e
   unfold gD at e
   split at e
   ·rename_i d hd
    obtain⟨v,h1,h2⟩:=h.slots i _ hd
    have h2:RD g d v:=h2
    obtain⟨ds,vs,k1,k2,k3⟩:=mq h e
    exact⟨d::ds,v::vs,k1,by simp only[jo,nH,h1,k2],by simp only[RL];exact⟨v,vs,rfl,h2,k3⟩⟩
   ·cases e
  |cell a ty =>
   simp only at e
   unfold lD at e
   split at e
   ·rename_i y hy
    obtain⟨w,h1,h2⟩:=h.slots a _ hy
    obtain⟨d,v,e,k1,k2⟩:=Et e (gg.refl g) h.ok h.own.2 h2
    obtain⟨ds,vs,j1,j2,j3⟩:=mq h e
    refine⟨d::ds,v::vs,j1,?_,by simp only[RL];exact⟨v,vs,rfl,k2,j3⟩⟩
    have:∃ ad,w=.ptr ad/\loadVar P g.s ty ad=some v:=by
     unfold ii at k1
     split at k1
     ·rename_i ad hw
      refine⟨ad,Option.some.inj hw,?_⟩
      unfold bj at k1
      split at k1
      ·rename_i v' hv;cases k1;exact hv
      ·cases k1
     ·cases k1
    obtain⟨ad,rfl,hld⟩:=this
    simp only[jo,nH,h1,hld,j2]
   ·cases e
theorem IE:∀ {l:List (Nat×Nat×Hk)} {g:Gh} {ds:List D} {vs:List V} {κ:List D->DH->ai},FI b P0 g t L tv LO->Qa l ds g.H κ=some out->RL g ds vs->∃ ds' g',κ ds' g'.H=some out/\g'.s=g.s/\FI b P0 g' t L tv LO/\Mv b g g'/\RL g' ds' vs
 |[],g,ds,vs,κ,h,e,r=>⟨ds,g,e,rfl,h,.refl b g,r⟩
 |(i,c,k)::l,g,ds,vs,κ,h,e,r=>by
  simp only[Qa]at e
  obtain⟨d,hd,e⟩:=iH e
  obtain⟨v,hv,h1⟩:=r.at hd
  obtain⟨d',g',k1,k2,k3,k4,k5⟩:=xe h e h1
  have hr:RL g' (ds.set i d') vs:=by
   have:=(r.mono k4.le).set i k5
   rwa [jK hv]at this
  obtain⟨ds2,g2,j1,j2,j3,j4,j5⟩:=IE k3 k1 hr
  exact⟨ds2,g2,j1,j2.trans k2,j3,k4.trans j4,j5⟩
theorem TJ{ds:List D}{vs:List V}(r:RL g ds vs):RD g (Nb ds) (wp vs):=by
 cases ds with
 |nil=>simp only[RL]at r;subst r;simp only[Nb,wp,RD];exact⟨[],rfl,by simp only[RL]⟩
 |cons d ds =>
  have r0:=r
  simp only[RL]at r
  obtain⟨v,vs',rfl,h1,h2⟩:=r
  cases ds with
  |nil=>simp only[RL]at h2;subst h2;exact h1
  |cons d2 ds =>
   simp only[RL]at h2
   obtain⟨v2,vs2,rfl,_,_⟩:=h2
   simp only[Nb,wp,RD]
   exact⟨_,rfl,r0⟩
def pX:eg->eg
 |.panicking (⟨_,true⟩::_)=>.returning
 |m=>m
def BX(m:eg)(c:List gB):eg:=match m with
 |.panicking old=>.panicking (c++old)
 |_=>.panicking c
theorem Mp{m:eg}{m':Md}(h:LJ g m m'):LJ g (pX m) (ix m'):=by
 cases m with
 |run=>cases h;rfl
 |returning=>cases h;rfl
 |round _=>exact h.elim
 |panicking c =>
  obtain⟨c',rfl,h1⟩:=h
  cases c with
  |nil=>cases h1;exact⟨[],rfl,rfl⟩
  |cons x xs =>
   obtain⟨y,c2,rfl,h2,h3,h4⟩:=h1
   obtain⟨xv,xr⟩:=x
   obtain⟨yv,yr⟩:=y
   simp only at h3
   subst h3
   cases xr with
   |true=>rfl
   |false=>exact⟨_,rfl,⟨yv,false⟩,c2,rfl,h2,rfl,h4⟩
theorem gY.app:∀ {a:List gB} {a':List Dt} {c:List gB} {c':List Dt},gY g a a'->gY g c c'->gY g (a++c) (a'++c')
 |[],_,c,c',h,k=>by cases h;exact k
 |x::r,_,c,c',h,k=>by
  obtain⟨y,r',rfl,h1,h2,h3⟩:=h
  exact⟨y,r'++c',rfl,h1,h2,h3.app k⟩
theorem MK{m:eg}{m':Md}{c:List gB}{c':List Dt}(h:LJ g m m')(k:gY g c c'):LJ g (BX m c) (qj m' c'):=by
 cases m with
 |run=>cases h;exact⟨c',rfl,k⟩
 |returning=>cases h;exact⟨c',rfl,k⟩
 |round _=>exact h.elim
 |panicking old =>
  obtain⟨o',rfl,h1⟩:=h
  exact⟨c'++o',rfl,k.app h1⟩
theorem TW{m:eg}{m':Md}(h:LJ g m m'):m=.run↔m'=.run:=by
 cases m with
 |run=>cases h;exact⟨fun _=>rfl,fun _=>rfl⟩
 |returning=>cases h;exact⟨(fun q=>by cases q),(fun q=>by cases q)⟩
 |panicking c=>obtain⟨c',rfl,_⟩:=h;exact⟨(fun q=>by cases q),(fun q=>by cases q)⟩
 |round _=>exact h.elim
end Go.AI
namespace Go.AI
variable[fc]
variable{b:Nat}{P0:List Nat}{g:Gh}{LO:List Nat}{t:T LD}{L:LS}{tv:T V}{out:il}{E:cD}{an:hC}{rec:oA}
section frame
variable{f:FuncId}{fn:Func}{go:rH}
theorem Oh{j:rG}{s:S}{o:Option eo}(h:eB E.E (lim E.E) j s=o):lim E.E j s=o:=(NC E.E j s).trans h
def HU(x:DB):Prop:=(∀ sz st cap l,x≠.buf sz st cap l)/\∀ st cs,x≠.cells st cs
theorem ph{o f ver:Nat}{x0 x:DB}{B0 B:dB}(ho:g.O[o]? = some (some (f,ver)))(hx:g.H[o]? = some x0)(hn:HU x0)(h0:g.s.get f=some B0):uX g o x f ver ver x0 B0 B :=
 ⟨ho,hx,h0,(fun _ _ _ _ q=>(hn.1 _ _ _ _ q).elim),(fun a n vs hi q _=>by
  obtain⟨sz,cap,l,k⟩:=hi.2.2 o ver (by rw[q];exact ho)
  rw[hx]at k;exact(hn.1 _ _ _ _ (Option.some.inj k)).elim),(fun _ _ q=>(hn.2 _ _ q).elim)⟩
theorem wk{r:Bool}{f nt:Nat}{t:T LD}{ps:Array Tmp}{a b:Code}:HU (.loop r f nt t ps a b):=⟨(fun _ _ _ _ q=>by cases q),(fun _ _ q=>by cases q)⟩
theorem GG:HU .coll:=⟨(fun _ _ _ _ q=>by cases q),(fun _ _ q=>by cases q)⟩
theorem wD(hf:FI b P0 g t L tv LO){o l v:Nat}{r:Bool}{f0 nt:Nat}{t0:T LD}{ps:Array Tmp}{a b':Code}(ho:g.O[o]? = some (some (l,v)))(hH:g.H[o]? = some (.loop r f0 nt t0 ps a b')) :
 ∃ tv0 d,g.s.get l=some (.loop (bif r then .ready else .busy) none f0 tv0 ps a b' d nt)/\∀ r2:Bool,∃ g',g'.H=g.H.set o (.loop r2 f0 nt t0 ps a b')/\g'.s=g.s.put l (.loop (bif r2 then .ready else .busy) none f0 tv0 ps a b' d nt)/\FI b P0 g' t L tv LO/\Mv b g g':=by
 obtain⟨fb,tv0,d,h1,h2,h3⟩:=hf.ok.obj o _ hH
 rw[ho]at h1;cases h1
 refine⟨tv0,d,h2,fun r2=>?_⟩
 have c:uX g o (.loop r2 f0 nt t0 ps a b') l 0 0 (.loop r f0 nt t0 ps a b') _ (.loop (bif r2 then .ready else .busy) none f0 tv0 ps a b' d nt):=ph ho hH wk h2
 exact⟨_,rfl,rfl,hf.oput c ⟨l,tv0,d,bF ho,dZ,h3.mono (ls hf.ok c) List.prefix_rfl⟩,ju hf.ok c⟩
theorem AA(hgo:LK E f fn go){ds:List pJ}{up:Option eg}{c:Option Code}(e:wO go t L ds up g.H c=some out)(hf:FI b P0 g t L tv LO){dsv:List dX}{upv:Option Md}{rdv:Option Nat}(hd:Gi g ds dsv)(hu:pL g up upv rdv) :
 ∃ vout,lr (fI (lim E.E) f fn) tv dsv upv rdv g.s c=some vout/\iJ b P0 g out vout:=by
 unfold wO at e
 split at e
 ·split at e
  ·rename_i o
   obtain⟨rfl,l,v,rfl,ho⟩:=hu
   unfold wc at e
   split at e
   ·rename_i hH
    cases e
    obtain⟨tv0,d,h2,h3⟩:=wD hf ho hH
    obtain⟨g',k1,k2,k3,k4⟩:=h3 true
    have:=k3.leave (e:=.ret (.bool true)) (ve:=.returned (.bool true)) (up:=none) (upv:=none) ⟨_,rfl,by simp only[RD]⟩ rfl
    rw[k1]at this
    refine⟨_,?_,this.trans k4⟩
    simp only[lr,h2,k2];rfl
   ·cases e
  ·rename_i hn
   have hq:=hu.nr (fun o q=>hn o q)
   clear hu
   obtain⟨rfl,hu⟩:=hq
   exact hgo _ _ _ _ _ _ _ _ e b P0 g tv LO dsv .returning upv none rfl hf hd rfl (pL.mk (fun o q=>hn o q) hu)
 ·obtain⟨hn,e⟩:=lk e
  have hq:=hu.nr hn
  clear hu
  obtain⟨rfl,hu⟩:=hq
  exact hgo _ _ _ _ _ _ _ _ e b P0 g tv LO dsv .returning upv none rfl hf hd rfl (pL.mk hn hu)
 ·cases e
theorem EC(hgo:LK E f fn go){ds:List pJ}{up:Option eg}{k:Option (List Item)}(c:Code)(e:AG go t L ds up g.H k=some out)(hf:FI b P0 g t L tv LO){dsv:List dX}{upv:Option Md}{rdv:Option Nat}(hd:Gi g ds dsv)(hu:pL g up upv rdv) :
 ∃ vout,pt (fI (lim E.E) f fn) tv dsv upv rdv g.s c k=some vout/\iJ b P0 g out vout:=by
 unfold AG at e
 split at e
 ·exact hgo _ _ _ _ _ _ _ _ e b P0 g tv LO dsv .run upv rdv rfl hf hd rfl hu
 ·cases e
theorem Kq(hgo:LK E f fn go)(hrec:HS E.E rec){k:List Item}{ds:List pJ}{up:Option eg}{ps:Array Tmp}{a b':Code}{d:D}{v:V}(e:BV f fn.ntmps go rec k t L ds up g.H ps a b' d=some out)(hf:FI b P0 g t L tv LO){dsv:List dX}{upv:Option Md}{rdv:Option Nat}(hd:Gi g ds dsv)(hu:pL g up upv rdv)(h2:RD g d v) :
 ∃ vout,fC f fn.ntmps (fI (lim E.E) f fn) (bt (lim E.E)) k tv dsv upv rdv g.s ps a b' (some v)=some vout/\iJ b P0 g out vout:=by
 unfold BV KN at e
 split at e
 ·split at e
  ·rename_i gf first cap
   obtain⟨hn,e⟩:=lk e
   obtain⟨rfl,hu0⟩:=hu.nr hn
   simp only[RD]at h2
   obtain⟨a',c',rfl,j1,j2⟩:=h2
   have hLO:LO=[]:=List.eq_nil_of_length_eq_zero (by rw[<- hf.own.1];rfl)
   subst hLO
   have f1:=hf.mkobj (x:=.coll) (B:=.deferred) ⟨g.s.next,mD hf.ok _ _,qt _ _⟩
   have v1:=pm hf.ok hf.bl .coll .deferred
   have o1:(g.obj .coll .deferred).O[g.H.length]? = some (some (g.s.next,0)):=mD hf.ok _ _
   have hH1:(g.obj .coll .deferred).H=g.H++[.coll]:=rfl
   have hs1:(g.obj .coll .deferred).s=g.s.alloc .deferred:=rfl
   generalize g.obj .coll .deferred=g1 at f1 v1 o1 hH1 hs1
   have f2:=f1.mkobj (x:=.loop true f fn.ntmps t ps a b') (B:=.loop .ready none f tv ps a b' g.s.next fn.ntmps) ⟨g1.s.next,tv,g.s.next,mD f1.ok _ _,qt _ _,f1.slots.mono (wP f1.ok.len _ _) List.prefix_rfl⟩
   have v2:=pm f1.ok f1.bl (.loop true f fn.ntmps t ps a b') (.loop .ready none f tv ps a b' g.s.next fn.ntmps)
   have o2:=mD f1.ok (.loop true f fn.ntmps t ps a b') (.loop .ready none f tv ps a b' g.s.next fn.ntmps)
   have hH2:(g1.obj (.loop true f fn.ntmps t ps a b') (.loop .ready none f tv ps a b' g.s.next fn.ntmps)).H=g.H++[.coll,.loop true f fn.ntmps t ps a b']:=by simp[Gh.obj,hH1]
   have hs2:(g1.obj (.loop true f fn.ntmps t ps a b') (.loop .ready none f tv ps a b' g.s.next fn.ntmps)).s=(g.s.alloc .deferred).alloc (.loop .ready none f tv ps a b' g.s.next fn.ntmps):=by rw[<- hs1];rfl
   have hl1:g1.H.length=g.H.length+1:=by rw[hH1];simp
   rw[hl1]at o2
   generalize g1.obj (.loop true f fn.ntmps t ps a b') (.loop .ready none f tv ps a b' g.s.next fn.ntmps)=g2 at f2 v2 o2 hH2 hs2
   have v12:=v1.trans v2
   obtain⟨oc,hoc,e⟩:=kB e
   obtain⟨vout,m1,m2⟩:=hrec.c gf _ none _ oc hoc g2 hH2 f2.ok (a'++(.func (.yield g1.s.next) [] []::c')) none
    ((j1.mono v12.le).append (by simp only[RL];exact⟨_,_,rfl,by simp only[RD];exact⟨_,_,o2,rfl⟩,j2.mono v12.le⟩)) rfl
   obtain⟨g3,n1,n2,n3,n4,n5,n6,_⟩:=kz f2 m2
   have v13:=v12.trans n4
   obtain⟨w,q1⟩:=(v2.trans n4).le.o1 _ _ _ o1
   obtain⟨w2,q2⟩:=n4.le.o1 _ _ _ o2
   have hm1:bt (lim E.E) gf (a'++([.func (.yield (g.s.alloc .deferred).next) [] []]++c')) none ((g.s.alloc .deferred).alloc (.loop .ready none f tv ps a b' g.s.next fn.ntmps))=some vout:=by
    rw[<- hs2,<- hs1];exact m1
   obtain⟨ve,vu,vs'⟩:=vout
   simp only at n2 n5
   rcases e with⟨d,hd1,e⟩|⟨c,hd1,e⟩
   ·rw[hd1]at n5
    obtain⟨v,rfl,_⟩:=n5
    unfold Aw at e
    split at e
    ·rename_i f0 nt0 t0 ps0 a0 b0 hl
     rw[<- n1]at hl e
     obtain⟨tv0,d0,k2,_⟩:=wD n3 q2 hl
     have c:uX g3 (g.H.length+1) .opq g1.s.next w2 w2 _ _ (.loop .exhausted none f0 tv0 ps0 a0 b0 d0 nt0):=ph q2 hl wk k2
     have f4:=n3.oput c ⟨_,_,bF q2⟩
     have v4:=ju (b:=b) n3.ok c
     obtain⟨w3,q3⟩:=v4.le.o1 _ _ _ q1
     obtain⟨vout,r1,r2⟩:=hgo _ _ _ _ _ _ _ _ e b P0 _ tv [] (.collected g.s.next::dsv) .run upv none rfl f4 ⟨_,w3,dsv,rfl,q3,hd.mono (v13.trans v4).le⟩ rfl (pL.mk hn (hu0.mono (v13.trans v4).le))
     refine⟨vout,?_,r2.trans (v13.trans v4)⟩
     simp only[fC,hm1,jp]
     have k3:vs'.get (g.s.alloc .deferred).next=some (.loop .ready none f0 tv0 ps0 a0 b0 d0 nt0):=by rw[<- n2,<- hs1];exact k2
     simp only[k3,qB,Option.map,Option.toList,List.nil_append]
     rw[<- n2,<- hs1];exact r1
    ·cases e
   ·rw[hd1]at n5
    obtain⟨c',rfl,n7⟩:=n5
    rw[<- n1]at e
    obtain⟨vout,r1,r2⟩:=hgo _ _ _ _ _ _ _ _ e b P0 g3 tv [] (.collected g.s.next::dsv) (.panicking c') upv none rfl n3 ⟨_,w,dsv,rfl,q1,hd.mono v13.le⟩ ⟨c',rfl,n7⟩ (pL.mk hn (hu0.mono v13.le))
    refine⟨vout,?_,r2.trans v13⟩
    simp only[fC,hm1,jp]
    rw[<- n2];exact r1
  ·cases e
 ·cases e
theorem yq{ds:List pJ}{up:Option eg}{r:ai}(h:pG go t L ds up r=some out):∃ u H,(∃ d,r=some ⟨.ret d,some u,H⟩/\u≠.run/\go t L [] ds (pX u) up H=some out)\/∃ c,r=some ⟨.pan c,some u,H⟩/\go t L [] ds (BX u c) up H=some out:=by
 unfold pG HA at h
 split at h
 ·rename_i d u H
  split at h
  ·exact⟨_,_,.inl ⟨d,rfl,(fun q=>by cases q),h⟩⟩
  ·rename_i c
   unfold GE at h
   split at h
   ·exact⟨_,_,.inl ⟨d,rfl,(fun q=>by cases q),h⟩⟩
   ·rename_i hn
    refine⟨_,_,.inl ⟨d,rfl,(fun q=>by cases q),?_⟩⟩
    have:pX (.panicking c)=.panicking c:=by
     unfold pX
     split
     ·rename_i q;cases q;exact(hn _ _ rfl).elim
     ·rfl
    rw[this];exact h
  ·cases h
 ·rename_i c u H
  split at h
  ·exact⟨_,_,.inr ⟨c,rfl,h⟩⟩
  ·exact⟨_,_,.inr ⟨c,rfl,h⟩⟩
  ·cases h
 ·cases h
theorem OJ(hgo:LK E f fn go)(hrec:HS E.E rec):∀ {c:Code} {k:List Item} {t:T LD} {L:LS} {ds:List pJ} {up:Option eg},kx c E an f fn go rec k t L ds up g.H=some out->∀ {tv:T V} {LO:List Nat} {dsv:List dX} {upv:Option Md} {rdv:Option Nat},FI b P0 g t L tv LO->Gi g ds dsv->pL g up upv rdv ->
 ∃ vout,cQ c E.E f fn (fI (lim E.E) f fn) (bt (lim E.E)) (dL (lim E.E)) k tv dsv upv rdv g.s=some vout/\iJ b P0 g out vout:=by
 intro c k t L ds up e tv LO dsv upv rdv hf hd hu
 have on:∀ {todo:List Item},go t L todo ds .run up g.H=some out->∃ vout,fI (lim E.E) f fn tv todo dsv .run upv rdv g.s=some vout/\iJ b P0 g out vout:=fun e=>hgo _ _ _ _ _ _ _ _ e b P0 g tv LO dsv .run upv rdv rfl hf hd rfl hu
 cases c with
 |ret=>exact AA (c:=some .ret) hgo e hf hd hu
 |skip=>exact on e
 |label _=>exact on e
 |seq _ _=>exact on e
 |block _ _=>exact on e
 |loop _=>exact on e
 |scope _=>exact on e
 |exit id=>exact EC hgo (.exit id) e hf hd hu
 |goto l=>exact EC hgo (.goto l) e hf hd hu
 |cond c x y =>
  simp only[kx]at e
  obtain⟨d,v,e,_,h1,h2⟩:=bd e (hf.slots.op c)
  obtain⟨q,rfl,e⟩:=Df e h2
  simp only[cQ,h1,CY]
  cases q with
  |true =>
   simp only[cond_true,pY]at e ⊢
   exact hgo _ _ _ _ _ _ _ _ e b P0 g tv LO dsv .run upv rdv rfl (hf.rf (vh h1)) hd rfl hu
  |false =>
   simp only[cond_false,pY]at e ⊢
   exact hgo _ _ _ _ _ _ _ _ e b P0 g tv LO dsv .run upv rdv rfl (hf.rf (vh h1)) hd rfl hu
 |region id ops draw =>
  cases draw with
  |true =>
   simp only[kx]at e
   obtain⟨hdst,e⟩:=aG e
   split at e
   ·rename_i sc hsc
    obtain⟨tv',s',h1,g',t',L',LO',h2,h3,h4,h5⟩:=oZ (b:=b) (P0:=P0) (dsv:=dsv) (upv:=upv) hrec (cs:=[⟨L,g,LO⟩]) e rfl hf ⟨hf.cfg,.refl b _,trivial⟩ (rC.of hf.slots .leaf)
    have h6:=BQ hsc (bt (lim E.E)) (dL (lim E.E)) tv dsv upv g.s _ h1
    obtain⟨vout,k1,k2⟩:=hgo _ _ _ _ _ _ _ _ h2 b P0 g' tv' LO' dsv .run upv rdv rfl h4 (hd.mono h5.le) rfl (hu.mono h5.le)
    refine⟨vout,?_,k2.trans h5⟩
    simp only[cQ,hdst,cond_true,h6,gM,<- h3];exact k1
   ·cases e
  |false =>
   simp only[kx]at e
   obtain⟨hdst,e⟩:=aG e
   obtain⟨r,h1,h2⟩:=eE hrec e hf hd hu
   cases r with
   |on tv' dsv' upv' s' =>
    obtain⟨g',t',L',LO',ds',up',k1,k2,k3,k4,k5,k6⟩:=h2
    obtain⟨vout,j1,j2⟩:=hgo _ _ _ _ _ _ _ _ k1 b P0 g' tv' LO' dsv' .run upv' rdv rfl k3 k5 rfl k6
    refine⟨vout,?_,j2.trans k4⟩
    simp only[cQ,hdst,cond_true,h1,gM,<- k2];exact j1
   |panicked c tv' dsv' upv' s' =>
    obtain⟨g',t',L',LO',ds',up',c',k1,k2,k3,k4,k5,k6,k7⟩:=h2
    obtain⟨vout,j1,j2⟩:=hgo _ _ _ _ _ _ _ _ k1 b P0 g' tv' LO' dsv' (.panicking c) upv' rdv rfl k3 k5 ⟨c,rfl,k7⟩ k6
    refine⟨vout,?_,j2.trans k4⟩
    simp only[cQ,hdst,cond_true,h1,gM,<- k2];exact j1
 |rangeFunc gop ps a b' =>
  simp only[kx]at e
  obtain⟨d,v,e,_,h1,h2⟩:=bd e (hf.slots.op gop)
  simp only[cQ,h1]
  exact Kq hgo hrec e hf hd hu h2
 |refuse _=>cases e
theorem KO(hgo:LK E f fn go)(hrec:HS E.E rec){todo:List Item}{ds:List pJ}{m:eg}{up:Option eg}(e:sF E an f fn go rec t L todo ds m up g.H=some out)(hf:FI b P0 g t L tv LO){dsv:List dX}{mv:Md}{upv:Option Md}{rdv:Option Nat}(hd:Gi g ds dsv)(hm:LJ g m mv)(hu:pL g up upv rdv) :
 ∃ vout,fE E.E f fn (fI (lim E.E) f fn) (bt (lim E.E)) (dL (lim E.E)) tv todo dsv mv upv rdv g.s=some vout/\iJ b P0 g out vout:=by
 have unw:∀ {m:eg} {mv:Md},LJ g m mv->iw ds E an fn go rec t L m up g.H=some out->∃ vout,cV dsv E.E fn (fI (lim E.E) f fn) (bt (lim E.E)) tv mv upv rdv g.s=some vout/\iJ b P0 g out vout:=fun {m mv} hm e=>by
  cases ds with
  |nil =>
   cases hd
   simp only[iw]at e
   simp only[cV]
   cases m with
   |run=>simp only[iU]at e;cases e
   |round _=>exact hm.elim
   |returning =>
    cases hm
    simp only[iU]at e
    obtain⟨hn,e⟩:=lk e
    have hq:=hu.nr hn
    clear hu
    obtain⟨rfl,hu⟩:=hq
    obtain⟨ds,vs,e,h1,h2⟩:=mq hf e
    obtain⟨ds',g',e,h3,h4,h5,h6⟩:=IE hf e h2
    cases e
    have:=h4.leave (e:=.ret (Nb ds')) (ve:=.returned (wp vs)) (up:=up) (upv:=upv) ⟨_,rfl,TJ h6⟩ (hu.mono h5.le)
    rw[h3]at this
    exact⟨_,by simp only[si,qe,h1,MC],this.trans h5⟩
   |panicking c =>
    obtain⟨c',rfl,h1⟩:=hm
    simp only[iU]at e
    cases e
    exact⟨_,rfl,hf.leave (e:=.pan c) (ve:=.panicked c') ⟨_,rfl,h1⟩ (Qp hu)⟩
  |cons x ds =>
   cases x with
   |coll o =>
    obtain⟨d,v,dsv',rfl,h1,h2⟩:=hd
    simp only[iw]at e
    simp only[cV]
    unfold rg at e
    split at e
    ·rename_i hH
     obtain⟨d',k1,k2⟩:=hf.ok.obj o _ hH
     rw[h1]at k1;cases k1
     have c:uX g o .opq d 0 0 .coll _ .gone:=ph h1 hH GG k2
     have hf':=hf.oput c ⟨_,_,bF h1⟩
     have hm':=ju (b:=b) hf.ok c
     obtain⟨vout,j1,j2⟩:=hgo _ _ _ _ _ _ _ _ e b P0 _ tv LO dsv' mv upv rdv rfl hf' (h2.mono hm'.le) (hm.mono hm'.le) (hu.mono hm'.le)
     refine⟨vout,?_,j2.trans hm'⟩
     simp only[jC,k2];exact j1
    ·cases e
   |call x =>
   obtain⟨ca,a,dsv',rfl,h1,h2,h3⟩:=hd
   obtain⟨xf,xc,xa⟩:=x
   simp only[iw]at e
   simp only at h1 h2
   simp only[cV]
   obtain⟨u,H',⟨d,hr,hne,e⟩|⟨c,hr,e⟩⟩:=yq e
   ·obtain⟨vout,k1,k2⟩:=hrec.c _ _ _ _ _ hr g rfl hf.ok (a++ca) (some mv) (h2.append h1) ⟨mv,rfl,hm⟩
    obtain⟨g',n1,n2,n3,n4,n5,n6,_⟩:=kz hf k2
    obtain⟨ve,vu,vs⟩:=vout
    simp only at n1 n2 n5 n6
    obtain⟨v,rfl,_⟩:=n5
    obtain⟨u',rfl,n7⟩:=n6
    rw[<- n1]at e
    obtain⟨vout,j1,j2⟩:=hgo _ _ _ _ _ _ _ _ e b P0 g' tv LO dsv' (ix u') upv rdv rfl n3 (h3.mono n4.le) (Mp n7) (hu.mono n4.le)
    refine⟨vout,?_,j2.trans n4⟩
    simp only[bt,k1,je]
    have:u'≠.run:=fun q=>hne ((TW n7).2 q)
    split
    ·exact(this rfl).elim
    ·rw[<- n2];exact j1
   ·obtain⟨vout,k1,k2⟩:=hrec.c _ _ _ _ _ hr g rfl hf.ok (a++ca) (some mv) (h2.append h1) ⟨mv,rfl,hm⟩
    obtain⟨g',n1,n2,n3,n4,n5,n6,_⟩:=kz hf k2
    obtain⟨ve,vu,vs⟩:=vout
    simp only at n1 n2 n5 n6
    obtain⟨c',rfl,n8⟩:=n5
    obtain⟨u',rfl,n7⟩:=n6
    rw[<- n1]at e
    obtain⟨vout,j1,j2⟩:=hgo _ _ _ _ _ _ _ _ e b P0 g' tv LO dsv' (qj u' c') upv rdv rfl n3 (h3.mono n4.le) (MK n7 n8) (hu.mono n4.le)
    refine⟨vout,?_,j2.trans n4⟩
    simp only[bt,k1,je]
    rw[<- n2];exact j1
 cases m with
 |run =>
  cases hm
  simp only[sF]at e
  simp only[fE]
  cases todo with
  |nil=>exact AA (c:=none) hgo e hf hd hu
  |cons i k =>
   simp only[Ij]at e
   simp only[mg]
   have on:∀ {todo:List Item},go t L todo ds .run up g.H=some out->∃ vout,fI (lim E.E) f fn tv todo dsv .run upv rdv g.s=some vout/\iJ b P0 g out vout:=fun e=>hgo _ _ _ _ _ _ _ _ e b P0 g tv LO dsv .run upv rdv rfl hf hd rfl hu
   cases i with
   |code c=>exact OJ hgo hrec e hf hd hu
   |inBlock _=>exact on e
   |inScope _=>exact on e
   |inLoop c=>exact on e
   |beginRound =>
    simp only[NR]at e
    unfold HM at e
    split at e
    ·rename_i o
     obtain⟨rfl,l,v,rfl,ho⟩:=hu
     unfold Lo at e
     split at e
     ·rename_i hH
      obtain⟨tv0,d,h2,h3⟩:=wD hf ho hH
      obtain⟨g',k1,k2,k3,k4⟩:=h3 false
      rw[<- k1]at e
      obtain⟨v',ho'⟩:=k4.le.o1 _ _ _ ho
      obtain⟨vout,j1,j2⟩:=hgo _ _ _ _ _ _ _ _ e b P0 g' tv LO dsv .run none (some l) rfl k3 (hd.mono k4.le) rfl ⟨rfl,l,v',rfl,ho'⟩
      refine⟨vout,?_,j2.trans k4⟩
      simp only[kg,vC,h2,cond_true]
      rw[k2]at j1;exact j1
     ·cases e
    ·cases e
   |_=>cases e
 |returning =>
  cases hm
  exact unw (m:=.returning) rfl e
 |panicking c =>
  obtain⟨c',rfl,h1⟩:=hm
  exact unw (m:=.panicking c) ⟨c',rfl,h1⟩ e
 |round _=>exact hm.elim
end frame
mutual
theorem RD.belo:∀ {d:D} {v:V},g.O.length=g.H.length->RD g d v->d.bel g.H.length
 |.bool _,_,_,_=>trivial
 |.int ..,_,_,_=>trivial
 |.str _,_,_,_=>trivial
 |.ptr o c,v,hl,r=>by
  simp only[RD]at r
  obtain⟨f,ver,h1,_⟩:=r
  simp only[D.bel];rw[<- hl];exact dp h1
 |.eptr cs c,v,hl,r=>by
  simp only[RD]at r
  obtain⟨a,vs,_,_,_,h4,_⟩:=r
  simp only[D.bel];exact RL.belo hl h4
 |.bptr o n i c,v,hl,r=>by
  simp only[RD]at r
  obtain⟨f,ver,sz,st,cap,l,ver',h1,_⟩:=r
  simp only[D.bel];rw[<- hl];exact dp h1
 |.nilptr,_,_,_=>trivial
 |.row sz l,v,hl,r=>by
  simp only[RD]at r
  simp only[D.bel]
  rcases r with⟨rfl,_⟩|⟨rfl,_⟩|⟨a,z,cap,_,_,_,_,_,h6⟩
  ·trivial
  ·trivial
  ·exact RR.belo hl h6
 |.buf sz o n,v,hl,r=>by
  simp only[RD]at r
  obtain⟨st,cap,l,h1,_⟩:=r
  simp only[D.bel];exact dp h1
 |.nilrow,_,_,_=>trivial
 |.map o,v,hl,r=>by
  simp only[RD]at r
  obtain⟨f,ver,h1,_⟩:=r
  simp only[D.bel];rw[<- hl];exact dp h1
 |.nilmap,_,_,_=>trivial
 |.func fn a c,v,hl,r=>by
  simp only[RD]at r
  obtain⟨a',b',_,h2,h3⟩:=r
  simp only[D.bel];exact⟨RL.belo hl h2,RL.belo hl h3⟩
 |.nilFunc,_,_,_=>trivial
 |.iface ty d,v,hl,r=>by
  simp only[RD]at r
  obtain⟨v',_,h2⟩:=r
  simp only[D.bel];exact RD.belo hl h2
 |.nilIface,_,_,_=>trivial
 |.yld o,v,hl,r=>by
  simp only[RD]at r
  obtain⟨f,ver,h1,_⟩:=r
  simp only[D.bel];rw[<- hl];exact dp h1
 |.abool,_,_,_=>trivial
 |.agg cs,v,hl,r=>by
  simp only[RD]at r
  obtain⟨vs,_,h2,_⟩:=r
  simp only[D.bel];exact RL.belo hl h2
 |.tuple ds,v,hl,r=>by
  simp only[RD]at r
  obtain⟨vs,_,h2⟩:=r
  simp only[D.bel];exact RL.belo hl h2
theorem RL.belo:∀ {ds:List D} {vs:List V},g.O.length=g.H.length->RL g ds vs->ef g.H.length ds
 |[],_,_,_=>trivial
 |d::l,vs,hl,r=>by
  simp only[RL]at r
  obtain⟨v,vs',_,h2,h3⟩:=r
  simp only[ef];exact⟨RD.belo hl h2,RL.belo hl h3⟩
theorem RR.belo:∀ {l:List (List D)} {a:Ad} {sz:Nat},g.O.length=g.H.length->RR g a sz l->dz g.H.length l
 |[],_,_,_,_=>trivial
 |x::l,a,sz,hl,r=>by
  simp only[RR]at r
  obtain⟨⟨vs,_,_,h3,_⟩,h4⟩:=r
  simp only[dz];exact⟨RL.belo hl h3,RR.belo hl h4⟩
end
def Gh.trim(g:Gh)(n:Nat):Gh:=⟨g.O.take n,g.H.take n,g.Pv,g.s⟩
theorem iQ{α:Type}{l:List α}{n i:Nat}{x:α}(h:(l.take n)[i]? = some x):i<n/\l[i]? = some x:=by
 rw[List.getElem?_take]at h
 split at h
 ·exact⟨by assumption,h⟩
 ·cases h
theorem di{α:Type}{l:List α}{n i:Nat}{x:α}(hi:i<n)(h:l[i]? = some x):(l.take n)[i]? = some x:=by
 rw[List.getElem?_take,if_pos hi];exact h
theorem wX{n f:Nat}(h:g.Imm f):(g.trim n).Imm f:=⟨h.1,h.2.1,fun o v ho=>by
 obtain⟨h1,h2⟩:=iQ ho
 obtain⟨sz,cap,l,h3⟩:=h.2.2 o v h2
 exact⟨sz,cap,l,di h1 h3⟩⟩
mutual
theorem RD.trim{n:Nat}:∀ {d:D} {v:V},d.bel n->RD g d v->RD (g.trim n) d v
 |.bool _,_,_,r=>by simpa only[RD]using r
 |.int ..,_,_,r=>by simpa only[RD]using r
 |.str _,_,_,r=>by simpa only[RD]using r
 |.ptr o c,v,hb,r=>by
  simp only[RD]at r ⊢
  simp only[D.bel]at hb
  obtain⟨f,ver,h1,h2⟩:=r
  exact⟨f,ver,di hb h1,h2⟩
 |.eptr cs c,v,hb,r=>by
  simp only[RD]at r ⊢
  simp only[D.bel]at hb
  obtain⟨a,vs,h1,h2,h3,h4,h5⟩:=r
  exact⟨a,vs,h1,wX h2,h3,RL.trim hb h4,h5⟩
 |.bptr o n' i c,v,hb,r=>by
  simp only[RD]at r ⊢
  simp only[D.bel]at hb
  obtain⟨f,ver,sz,st,cap,l,ver',h1,h2,h3⟩:=r
  exact⟨f,ver,sz,st,cap,l,ver',di hb h1,di hb h2,h3⟩
 |.nilptr,_,_,r=>by simpa only[RD]using r
 |.row sz l,v,hb,r=>by
  simp only[RD]at r ⊢
  simp only[D.bel]at hb
  rcases r with r|r|⟨a,z,cap,h1,h2,h3,h4,h5,h6⟩
  ·exact .inl r
  ·exact .inr (.inl r)
  ·exact .inr (.inr ⟨a,z,cap,h1,h2,h3,h4,fun q=>wX (h5 q),RR.trim hb h6⟩)
 |.buf sz o n',v,hb,r=>by
  simp only[RD]at r ⊢
  simp only[D.bel]at hb
  obtain⟨st,cap,l,h1,h2,h3⟩:=r
  refine⟨st,cap,l,di hb h1,h2,?_⟩
  rcases h3 with h3|⟨h3,f,ver,ver',c,h4,h5⟩
  ·exact .inl h3
  ·exact .inr ⟨h3,f,ver,ver',c,di hb h4,h5⟩
 |.nilrow,_,_,r=>by simpa only[RD]using r
 |.map o,v,hb,r=>by
  simp only[RD]at r ⊢
  simp only[D.bel]at hb
  obtain⟨f,ver,h1,h2⟩:=r
  exact⟨f,ver,di hb h1,h2⟩
 |.nilmap,_,_,r=>by simpa only[RD]using r
 |.func fn a c,v,hb,r=>by
  simp only[RD]at r ⊢
  simp only[D.bel]at hb
  obtain⟨a',b',h1,h2,h3⟩:=r
  exact⟨a',b',h1,RL.trim hb.1 h2,RL.trim hb.2 h3⟩
 |.nilFunc,_,_,r=>by simpa only[RD]using r
 |.iface ty d,v,hb,r=>by
  simp only[RD]at r ⊢
  simp only[D.bel]at hb
  obtain⟨v',h1,h2⟩:=r
  exact⟨v',h1,RD.trim hb h2⟩
 |.nilIface,_,_,r=>by simpa only[RD]using r
 |.yld o,v,hb,r=>by
  simp only[RD]at r ⊢
  simp only[D.bel]at hb
  obtain⟨f,ver,h1,h2⟩:=r
  exact⟨f,ver,di hb h1,h2⟩
 |.abool,_,_,r=>by simpa only[RD]using r
 |.agg cs,v,hb,r=>by
  simp only[RD]at r ⊢
  simp only[D.bel]at hb
  obtain⟨vs,h1,h2,h3⟩:=r
  exact⟨vs,h1,RL.trim hb h2,h3⟩
 |.tuple ds,v,hb,r=>by
  simp only[RD]at r ⊢
  simp only[D.bel]at hb
  obtain⟨vs,h1,h2⟩:=r
  exact⟨vs,h1,RL.trim hb h2⟩
theorem RL.trim{n:Nat}:∀ {ds:List D} {vs:List V},ef n ds->RL g ds vs->RL (g.trim n) ds vs
 |[],_,_,r=>by simpa only[RL]using r
 |d::l,vs,hb,r=>by
  simp only[RL]at r ⊢
  simp only[ef]at hb
  obtain⟨v,vs',h1,h2,h3⟩:=r
  exact⟨v,vs',h1,RD.trim hb.1 h2,RL.trim hb.2 h3⟩
theorem RR.trim{n:Nat}:∀ {l:List (List D)} {a:Ad} {sz:Nat},dz n l->RR g a sz l->RR (g.trim n) a sz l
 |[],_,_,_,_=>by simp only[RR]
 |x::l,a,sz,hb,r=>by
  simp only[RR]at r ⊢
  simp only[dz]at hb
  obtain⟨⟨vs,h1,h2,h3,h4⟩,h5⟩:=r
  exact⟨⟨vs,h1,h2,RL.trim hb.1 h3,h4⟩,RR.trim hb.2 h5⟩
end
theorem pM.trim{n:Nat}:∀ {es:List (D×D)} {ents:List oz},(∀ x∈es,x.1.bel n/\x.2.bel n)->pM g es ents->pM (g.trim n) es ents
 |[],_,_,r=>r
 |(k,v)::l,_,hb,r=>by
  obtain⟨e,es',h1,h2,h3,h4,h5⟩:=r
  obtain⟨b1,b2⟩:=hb _ List.mem_cons_self
  exact⟨e,es',h1,h2.trim b1,h3.trim b2,h4,pM.trim (fun x hx=>hb x (List.mem_cons_of_mem _ hx)) h5⟩
theorem pM.belo:∀ {es:List (D×D)} {ents:List oz},g.O.length=g.H.length->pM g es ents->∀ x∈es,x.1.bel g.H.length/\x.2.bel g.H.length
 |[],_,_,_,x,hx=>by cases hx
 |(k,v)::l,_,hl,r,x,hx=>by
  obtain⟨e,es',_,h2,h3,_,h5⟩:=r
  rcases List.mem_cons.1 hx with rfl|hx
  ·exact⟨h2.belo hl,h3.belo hl⟩
  ·exact pM.belo hl h5 x hx
theorem lQ.belo{o:Nat}{x:DB}(hl:g.O.length=g.H.length)(r:lQ g o x):x.bel g.H.length:=by
 cases x with
 |dead=>exact r.elim
 |opq=>trivial
 |coll=>trivial
 |loop _ _ _ _ _ _ _ =>
  obtain⟨f,tv,d,_,_,h3⟩:=r
  intro i d hi
  obtain⟨v,_,h4⟩:=h3 i _ hi
  exact RD.belo hl h4
 |cells st cs=>obtain⟨f,el,vs,_,_,h3,_⟩:=r;exact h3.belo hl
 |map es=>obtain⟨f,ents,c,_,_,h3⟩:=r;exact h3.belo hl
 |buf sz st cap l =>
  obtain⟨_,⟨rfl,_⟩|⟨_,f,ver,el,nv,vers,cells,_,_,_,_,_,h⟩⟩:=r
  ·trivial
  ·exact h.belo hl
theorem lQ.trim{o n:Nat}{x:DB}(ho:o<n)(hb:x.bel n)(r:lQ g o x):lQ (g.trim n) o x:=by
 cases x with
 |dead=>exact r.elim
 |opq=>obtain⟨f,v,h1⟩:=r;exact⟨f,v,di ho h1⟩
 |coll=>obtain⟨f,h1,h2⟩:=r;exact⟨f,di ho h1,h2⟩
 |loop _ _ _ _ _ _ _ =>
  obtain⟨f,tv,d,h1,h2,h3⟩:=r
  refine⟨f,tv,d,di ho h1,h2,fun i x hi=>?_⟩
  obtain⟨v,h4,h5⟩:=h3 i x hi
  refine⟨v,h4,?_⟩
  cases x with
  |g d=>exact RD.trim (hb i d hi) h5
  |lp k c=>exact h5
  |u=>exact h5
 |cells st cs=>obtain⟨f,el,vs,h1,h2,h3,h4⟩:=r;exact⟨f,el,vs,di ho h1,h2,h3.trim hb,h4⟩
 |map es=>obtain⟨f,ents,c,h1,h2,h3⟩:=r;exact⟨f,ents,c,di ho h1,h2,h3.trim hb⟩
 |buf sz st cap l =>
  obtain⟨h0,⟨rfl,h1⟩|⟨h1,f,ver,el,nv,vers,cells,h2,h3,h4,h5,h6,h⟩⟩:=r
  ·exact⟨h0,.inl ⟨rfl,di ho h1⟩⟩
  ·exact⟨h0,.inr ⟨h1,f,ver,el,nv,vers,cells,di ho h2,h3,h4,h5,h6,h.trim hb⟩⟩
theorem gY.trim{n:Nat}:∀ {c:List gB} {c':List Dt},(∀ x∈c,x.v.bel n)->gY g c c'->gY (g.trim n) c c'
 |[],_,_,r=>r
 |x::l,_,hb,r=>by
  obtain⟨y,c',h1,h2,h3,h4⟩:=r
  exact⟨y,c',h1,h2.trim (hb x List.mem_cons_self),h3,gY.trim (fun z hz=>hb z (List.mem_cons_of_mem _ hz)) h4⟩
theorem LX{r:ai}(e:aZ g.H r=some out)(hok:Ok g){j:rG}{s0:S}(hr:∀ o,r=some o->∃ vout,lim E.E j s0=some vout/\iJ g.s.next g.Pv g o vout):∃ vout,lim E.E j s0=some vout/\iJ g.s.next g.Pv g out vout:=by
 unfold aZ at e
 split at e
 ·rename_i o
  split at e
  ·rename_i ht
   cases e
   obtain⟨vout,h1,g',h2,h3,h4,h5,h6,h7,h8⟩:=hr o rfl
   obtain⟨t1,t2,t3,t4⟩:=ht
   rw[<- h2]at t3 t4
   have hlen:(g'.trim g.H.length).H.length=g.H.length:=by simp[Gh.trim,t3]
   have hold:∀ {o:Nat} {x:DB},o<g.H.length->g'.H[o]? = some x->lQ (g'.trim g.H.length) o x:=fun {o x} ho hx=>by
    refine(h5.obj o x hx).trim ho ?_
    rcases t4 o x ho hx with q|q
    ·exact(hok.obj o x q).belo hok.len
    ·exact q
   refine⟨vout,h1,g'.trim g.H.length,by simp[Gh.trim,h2],h3,h4,⟨by simp[Gh.trim,h5.len],h5.wf,fun o o' f v v' a c=>h5.inj o o' f v v' (iQ a).2 (iQ c).2,fun o f v a=>h5.lt o f v (iQ a).2,h5.pv,fun o x hx=>?_,h5.gl.to fun f q1 q2 q3=>⟨rfl,q1,q2,fun o v k=>q3 o v (iQ k).2⟩⟩,⟨⟨by rw[hlen];exact Nat.le_refl _,fun o f v ho=>?_,fun o sz st cap l ho=>?_,fun f hf=>wX (h6.le.imm f hf),fun a n vs hi hx=>h6.le.cells a n vs hi hx,h6.le.next⟩,h6.out,fun o f v ho hf=>h6.fresh o f v (iQ ho).2 hf,fun o s1 c1 f v a c=>?_⟩,?_,?_⟩
   ·obtain⟨q1,q2⟩:=iQ hx
    exact hold q1 q2
   ·obtain⟨v',q⟩:=h6.le.o1 o f v ho
    exact⟨v',di (by rw[<- hok.len];exact dp ho) q⟩
   ·obtain⟨st',cap',l',q1,q2,q3,q4⟩:=h6.le.buf o sz st cap l ho
    refine⟨st',cap',l',di (dp ho) q1,q2,q3,fun q=>⟨(q4 q).1,?_⟩⟩
    show(g'.O.take _)[o]? = _
    rw[List.getElem?_take,if_pos (dp ho)];exact(q4 q).2
   ·obtain⟨s2,c2,q1,q2,q3⟩:=h6.stm o s1 c1 f v a c
    exact⟨s2,c2,di (dp a) q1,q2,q3⟩
   ·have t1:=t1
    cases he:o.e with
    |ret d =>
     rw[he]at h7 t1
     obtain⟨v,q1,q2⟩:=h7
     exact⟨v,q1,q2.trim t1⟩
    |pan c =>
     rw[he]at h7 t1
     obtain⟨c',q1,q2⟩:=h7
     exact⟨c',q1,q2.trim t1⟩
   ·show LA _ o.up _
    rw[t2]at h8 ⊢
    exact h8
  ·cases e
 ·cases e
theorem NU:∀ {ds:List D} {vs:List V} {i:Nat} {t:T LD} {tv:T V},RL g ds vs->zN g [] t tv->zN g [] (fT ds i t id) (jw vs i tv id)
 |[],vs,i,t,tv,r,h=>by simp only[RL]at r;subst r;exact h
 |d::ds,vs,i,t,tv,r,h=>by
  simp only[RL]at r
  obtain⟨v,vs',rfl,h1,h2⟩:=r
  rw[Hl]
  simp only[fT,T.setK_eq]
  exact NU h2 (h.put (some i) (x:=.g d) h1)
theorem nO{β:Type}:∀(ds:List D) (i:Nat) (t:T LD) (k:T LD->β),fT ds i t k=k (fT ds i t id)
 |[],_,_,_=>rfl
 |d::ds,i,t,k=>by
  simp only[fT,T.setK_eq]
  exact nO ds (i+1) _ k
theorem Mf(h:Ok g){ds:List D}{vs:List V}(r:RL g ds vs):FI g.s.next g.Pv g (fT ds 0 .leaf id) [] (jw vs 0 .leaf id) [] :=
 ⟨h,NU r (fun i x hx=>by rw[T.get_leaf]at hx;cases hx),⟨rfl,fun k x f hk=>by simp at hk⟩,by simp,(fun f hf=>by cases hf),List.nodup_nil,Nat.le_refl _⟩
theorem rS{β:Type}:∀(t:T LD) (ps:List Tmp) (ds:List D) (k:T LD->β),kZ t ps ds k=k (kZ t ps ds id)
 |t,p::ps,d::ds,k=>by
  simp only[kZ,T.setK_eq]
  exact rS _ ps ds k
 |t,[],[],k=>rfl
 |t,[],_::_,k=>rfl
 |t,_::_,[],k=>rfl
theorem DW{β:Type}:∀(t:T V) (ps:List Tmp) (ds:List V) (k:T V->β),cj t ps ds k=k (cj t ps ds id)
 |t,p::ps,d::ds,k=>by
  simp only[cj,T.setK_eq]
  exact DW _ ps ds k
 |t,[],[],k=>rfl
 |t,[],_::_,k=>rfl
 |t,_::_,[],k=>rfl
theorem IL:∀ {ps:List Tmp} {ds:List D} {vs:List V} {t:T LD} {tv:T V},RL g ds vs->zN g [] t tv->zN g [] (kZ t ps ds id) (cj tv ps vs id)
 |[],ds,vs,t,tv,r,h=>by cases ds<;>cases vs<;>exact h
 |p::ps,[],vs,t,tv,r,h=>by simp only[RL]at r;subst r;exact h
 |p::ps,d::ds,vs,t,tv,r,h=>by
  simp only[RL]at r
  obtain⟨v,vs',rfl,h1,h2⟩:=r
  simp only[kZ,cj,T.setK_eq]
  exact IL h2 (h.put (some p) (x:=.g d) h1)
theorem Kn{go:FuncId->Func->rH}(hgo:∀ f fn,LK E f fn (go f fn)){o:Nat}{args:List D}(e:rP E go o args g.H=some out)(hok:Ok g){vs:List V}{l v:Nat}(hr:RL g args vs)(ho:g.O[o]? = some (some (l,v))) :
 ∃ vout,lim E.E (.round l vs) g.s=some vout/\iJ g.s.next g.Pv g out vout:=by
 unfold rP at e
 split at e
 ·rename_i r f nt t ps a b' hH
  split at e
  ·rename_i fn hf
   obtain⟨hc,e⟩:=aG e
   obtain⟨fb,tv0,d,h1,h2,h3⟩:=hok.obj o _ hH
   rw[ho]at h1;cases h1
   rw[rS]at e
   have hFI:FI g.s.next g.Pv g (kZ t ps.toList args id) [] (cj tv0 ps.toList vs id) [] :=
    ⟨hok,IL hr h3,⟨rfl,fun k x f hk=>by simp at hk⟩,by simp,(fun f hf=>by cases hf),List.nodup_nil,Nat.le_refl _⟩
   obtain⟨vout,k1,k2⟩:=hgo f fn _ _ _ _ _ _ _ _ e g.s.next g.Pv g _ _ [] .run none (some l) rfl hFI rfl rfl ⟨rfl,l,0,rfl,ho⟩
   refine⟨vout,Oh ?_,k2⟩
   rw[<- hr.len]at hc
   simp only[eB,h2,wb,hf,hc,cond_true]
   rw[DW];exact k1
  ·cases e
 ·cases e
theorem Lj(hO:Ps E){go:FuncId->Func->rH}(hgo:∀ f fn,LK E f fn (go f fn)):HS E.E (JR E go):=by
 refine⟨?_,fun o args H out e g hH hok vs l v hr ho=>by subst hH;exact Kn hgo e hok hr ho⟩
 intro f args up H out e g hH hok vs upv hr hu
 subst hH
 have ent:yh E go f args up g.H=some out->∃ vout,lim E.E (.call f vs upv) g.s=some vout/\iJ g.s.next g.Pv g out vout:=fun e=>by
  unfold yh at e
  split at e
  ·rename_i fn hf
   split at e
   ·rename_i c hb
    cases hng:(fn.name == "runtime.NumGoroutine" || E.vo f)with
    |true=>rw[hng]at e;cases e
    |false =>
     rw[hng]at e
     simp only[cond_false]at e
     obtain⟨hn1,hn2⟩:=Bool.or_eq_false_iff.1 hng
     have hstep:∀ o,fT args 0 .leaf (fun t=>go f fn t [] [.code c] [] .run up g.H)=some o->∃ vout,lim E.E (.call f vs upv) g.s=some vout/\iJ g.s.next g.Pv g o vout:=fun o e=>by
      rw[nO]at e
      obtain⟨vout,h1,h2⟩:=hgo f fn _ _ _ _ _ _ _ _ e g.s.next g.Pv g _ _ [] .run upv none rfl (Mf hok hr) rfl rfl (pL.mk (fun o q=>by subst q;obtain⟨_,_,h⟩:=hu;exact h) hu)
      refine⟨vout,Oh ?_,h2⟩
      have hent:sI (lim E.E) f vs upv g.s (E.E.P.funcs[f]?)=some vout:=by
       simp only[sI,hf,hb,hn1,cond_false]
       rw[qH];exact h1
      cases upv with
      |none=>simp only[eB,hO.no f hn2 vs g.s,yB];exact hent
      |some u=>exact hent
     cases ht:(E.ann f).trim with
     |true=>rw[ht]at e;exact LX e hok hstep
     |false=>rw[ht]at e;exact hstep _ e
   ·cases e
  ·cases e
 unfold JR at e
 split at e
 ·obtain⟨_,_,h⟩:=hu;exact h.elim
 rename_i hn
 unfold MZ at e
 split at e
 ·rename_i d H' ho
  cases e
  cases up with
  |none =>
   cases hu
   exact hO.yes f args g.H d H' ho g rfl hok vs hr
  |some m=>cases ho
 ·exact ent e
theorem Gn(hO:Ps E){R:aE}(hR:Do E R){go:FuncId->Func->rH}(hgo:∀ f fn,LK E f fn (go f fn)):Do E (pT E R go):=by
 refine⟨Lj hO hgo,fun f fn=>?_⟩
 intro t L todo ds m up H out e b P0 g tv LO dsv mv upv rdv hH hf hd hm hu
 subst hH
 obtain⟨vout,h1,h2⟩:=KO (Ld (hR.frame f fn) (hgo f fn)) hR.call e hf hd hm hu
 exact⟨vout,Oh h1,h2⟩
theorem nj(hO:Ps E):∀ n,Do E (dK E n)
 |0=>⟨⟨(fun _ _ _ _ _ e=>by cases e),(fun _ _ _ _ e=>by cases e)⟩,(fun _ _ _ _ _ _ _ _ _ _ e=>by cases e)⟩
 |n+1=>Gn hO (nj hO n) (nj hO n).frame
end Go.AI
