/- Evaluators by which runs of the program are reckoned, that they are sound, and what the functions answer: part 4. No conditions beyond those of the row. -/
import Derived.Test.YtenibcfppefobaaGreatDoorA3
import Derived.Deep.Slices
import Derived.ChangeArms
import Derived.DataReads
import GoSem.ClaimJoined
import Derived.Test.YtenibcfppefobaaGreatDoorProg
import Derived.Test.YtenibcfppefobaaGreatDoorRows
import Derived.Lib.AtoiAllCases
import Derived.Lib.ItoaLen
import Derived.Lib.ReplaceLaws
import Derived.OpenShut
set_option linter.all false
noncomputable section
namespace Go.AI
variable[fE]
variable{b:Nat}{P0:List Nat}{g g':Gh}{LO:List Nat}{t:T LD}{L:LS}{tv:T V}{P:Program}{out:iC}{E:cF}
theorem gq{s s':S}{r:Option V}{v:V}(h:bv s r=some (.val v s)):bv s' r=some (.val v s'):=by
 unfold bv at h ⊢
 split at h
 ·cases h;rfl
 ·cases h
theorem pT{ty:TypeId}{cs:List D}{c:Nat}{κ:D->ah}(h:ci P ty cs c κ=some out){s s':S}{a:Ad}{vs:List V}(h1:loadCells s a cs.length=some vs)(h2:loadCells s' a cs.length=some vs):loadVar P s ty (bN a c)=loadVar P s' ty (bN a c):=by
 unfold ci at h
 unfold loadVar
 split at h
 ·rename_i ha
  split at h
  ·rename_i n hn
   obtain⟨hn0,h⟩:=aE h
   obtain⟨_,h4⟩:=gQ h
   have hn0:=Nat.le_of_ble_eq_true hn0
   rw[ha,hn]
   simp only[Option.bind]
   rw[il h1 (by omega),il h2 (by omega)]
  ·cases h
 ·rename_i ha
  obtain⟨d,h3,_⟩:=iY h
  have hlt:c<cs.length:=by
   grind
  have hlv:c<vs.length:=by rw[zt h1];exact hlt
  have hv:vs[c]? = some vs[c]:=List.getElem?_eq_getElem hlv
  grind [rx]
 ·cases h
def sv(H:DH):Prop:=∀(o:Nat) b,H[o]? = some b->b=.dead\/∃ st cs,b=.cells st cs
theorem sv.nil:sv []:=fun o b h=>by simp at h
theorem SW{H:DH}(h:sv H){o n:Nat}{k:Nat->Bool->Bool->List (List D)->ah}:gG H o n k≠some out:=fun e=>by
 unfold gG at e
 split at e
 ·rename_i sz st cap l hc
  rcases h o _ hc with q|⟨_,_,q⟩<;>cases q
 ·cases e
theorem Vx{H:DH}(h:sv H){o st:Nat}{k:Nat->List (List D)->ah}:Ir H o st k≠some out:=fun e=>by
 unfold Ir at e
 split at e
 ·rename_i sz st' l hc
  rcases h o _ hc with q|⟨_,_,q⟩<;>cases q
 ·cases e
theorem Nk{H:DH}(h:sv H){o:Nat}{k:List (D×D)->ah}:nF H o k≠some out:=fun e=>by
 unfold nF at e
 split at e
 ·rename_i es hc
  rcases h o _ hc with q|⟨_,_,q⟩<;>cases q
 ·cases e
theorem Hr{d:Nat}{ty:TypeId}{x y:D}{κ:Bool->ah}{v w:V}(h:KP P d ty x y κ=some out)(r1:RD g x v)(r2:RD g y w):∃ q,∀ okf,cw P okf d ty v w=some q:=by
 obtain⟨q,hq⟩:=Do P d ty x y κ out h
 refine⟨q,fun okf=>?_⟩
 obtain⟨q',h1,h2⟩:=CM (κ:=fun p=>bif p==q then some out else none) okf (by rw[hq];simp;rfl) r1 r2
 grind
theorem HM{op:BinOp}{ty:TypeId}{x y:Operand}{c d:D}{κ:D->ah}(h:av P op ty (dG x||dG y) c d κ=some out){v w:V}(r1:RD g c v)(r2:RD g d w){s s':S}:dX P s op ty x y (some v) (some w)=dX P s' op ty x y (some v) (some w):=by
 simp only[dX]
 congr 1
 unfold eA
 split
 ·rfl
 ·rfl
 ·rename_i n1 n2
  unfold av at h
  split at h
  ·grind [RD]
  ·grind [RD]
  ·obtain⟨_,h⟩:=aE h
   grind [Hr]
theorem Rb{H:DH}(hs:dV H g)(hok:Ok g){op:BinOp}{ty:TypeId}{x y:Operand}{c d:D}{κ:D->ah}(h:yK P op ty (dG x||dG y) c d H κ=some out){v w:V}(r1:RD g c v)(r2:RD g d w){s':S}(hq:∀(o:Nat) st cs f v,H[o]? = some (.cells st cs)->g.O[o]? = some (some (f,v))->s'.get f=g.s.get f):dX P s' op ty x y (some v) (some w)=dX P g.s op ty x y (some v) (some w):=by
 unfold yK at h
 split at h
 ·rcases qT hs hok h r1 r2 with h|⟨p,h1,h2⟩
  ·exact HM h r1 r2
  ·obtain⟨h3,x',y',rfl,rfl⟩:=h2 g.s fun _ _ _ _ _ _ _=>rfl
   obtain⟨h4,_⟩:=h2 s' hq
   simp only[dX,eL,lU,cond_true,eA,h3,h4]
 ·rcases qT hs hok h r1 r2 with h|⟨p,h1,h2⟩
  ·exact HM h r1 r2
  ·obtain⟨h3,x',y',rfl,rfl⟩:=h2 g.s fun _ _ _ _ _ _ _=>rfl
   obtain⟨h4,_⟩:=h2 s' hq
   simp only[dX,eL,lU,cond_true,eA,h3,h4]
 ·exact HM h r1 r2
theorem SY{op:BinOp}{ty el:TypeId}{x y:Operand}{d:D}{κ:D->ah}(h:Ku op d κ=some out)(hu:P.underlying ty=some (.slice el)){v w:V}(r:RD g d v)(hy:pW y=true)(hw:eval tv y=some w){s s':S}:dX P s op ty x y (some v) (some w)=dX P s' op ty x y (some v) (some w):=by
 simp_all[dX,eA,cw]
theorem QV{src dst:TypeId}{x:D}{κ:D->ah}(h:pD P src dst x κ=some out){v:V}(r:RD g x v){s s':S}{y:V}(hy:jB P s src dst v=some (y,s)):jB P s' src dst v=some (y,s'):=by
 unfold pD at h
 grind [Option.isNone_some,RD,jB,zW]
theorem Qj{ty:TypeId}{x:LD}{H:DH}{κ:D->ah}(h:kf P ty x L H κ=some out)(hs:dV H g)(hc:sv H)(hok:Ok g)(hl:Ve g L LO){v:V}(r:RS g LO x v)(hm:mP g g')
 (hp:∀(k:Nat) y f,L[k]? = some y->LO[k]? = some f->y.2≠[]->g'.s.get f=g.s.get f) (hob:∀(o:Nat) st cs f v,H[o]? = some (.cells st cs)->g.O[o]? = some (some (f,v))->g'.s.get f=g.s.get f) :
 ∀ w,iI P g.s ty (some v)=some (.val w g.s)->iI P g'.s ty (some v)=some (.val w g'.s):=by
 have key:∀ {a:Ad},v=.ptr a->loadVar P g.s ty a=loadVar P g'.s ty a->∀ w,iI P g.s ty (some v)=some (.val w g.s)->iI P g'.s ty (some v)=some (.val w g'.s):=fun {a} hv he w hw=>by
  grind [gZ,gq]
 cases x with
 |u=>cases h
 |lp k c =>
  simp only[kf]at h
  obtain⟨f,h1,rfl⟩:=r
  split at h
  ·rename_i st cs hk
   by_cases hne:cs=[]
   ·subst hne
    exfalso
    unfold ci at h
    split at h
    ·split at h
     ·obtain⟨hn,h⟩:=aE h
      obtain⟨_,q⟩:=gQ h
      have:=Nat.le_of_ble_eq_true hn
      simp at q
      omega
     ·cases h
    ·obtain⟨d,q,_⟩:=iY h
     simp at q
    ·cases h
   ·obtain⟨_,h2|⟨el,vs,h2,h3,h4⟩⟩:=hl k _ f hk h1
    ·exact(hne h2).elim
    ·have h5:=hp k _ f hk h1 hne
     refine key (a:=bN ⟨f,0,0⟩ c) (by simp[bN]) (pT (vs:=vs) h ?_ ?_)
     ·rw[<- h3.len];exact Ha h2
     ·rw[<- h3.len];exact Ha (by rw[h5];exact h2)
  ·cases h
 |g d =>
  have r:RD g d v:=r
  simp only[kf]at h
  unfold bQ at h
  split at h
  ·simp only[RD]at r
   obtain⟨a,vs,rfl,h1,h2,h3,h4⟩:=r
   exact key rfl (pT h h2 (hm.cells _ _ _ h1 h2))
  ·rename_i o c _
   simp only[RD]at r
   obtain⟨f,ver,h1,rfl⟩:=r
   obtain⟨st,cs,f',el,vs,h,h0,_,h2,h3,h4,h5⟩:=Cd h hs hok
   rw[h1]at h2;cases h2
   refine key (a:=bN ⟨f,0,0⟩ c) (by simp[bN]) (pT (vs:=vs) h ?_ ?_)
   ·rw[<- h4.len];exact Ha h3
   ·rw[<- h4.len];exact Ha (by rw[hob _ st cs f 0 h0 h1];exact h3)
  ·exact(SW hc h).elim
  ·exact(Vx hc h).elim
  ·cases h
theorem As(o:Op){esc:Bool}{H:DH}{κ:T LD->zb->ah}(hk:aF E.E.P o<=1)(ho:∀ x∈o.operands.toList,uO g LO t tv x)(hok:Ok g)(hl:Ve g L LO)(hH:dV H g)(hc:sv H)(e:jH o E esc t L H κ=some out)(hm:mP g g')
 (hp:∀(k:Nat) y f,L[k]? = some y->LO[k]? = some f->y.2≠[]->g'.s.get f=g.s.get f) (hob:∀(o:Nat) st cs f v,H[o]? = some (.cells st cs)->g.O[o]? = some (some (f,v))->g'.s.get f=g.s.get f) :
 ∀ w,cy o E.E tv g.s=some (.val w g.s)->cy o E.E tv g'.s=some (.val w g'.s):=by
 intro w hw
 cases o with
 |load ty x =>
  obtain⟨d,v,h1,_,h2,h3⟩:=jq e (ho x (by simp[Op.operands]))
  simp only[cy,h2]at hw ⊢
  exact Qj h1 hH hc hok hl h3 hm hp hob w hw
 |binOp op ty x y yT =>
  obtain⟨a,v,h1,_,h2,h3⟩:=bq e (ho x (by simp[Op.operands]))
  obtain⟨c,w',h4,_,h5,h6⟩:=bq h1 (ho y (by simp[Op.operands]))
  simp only[cy,h2,h5]at hw ⊢
  cases hn:pW y with
  |true =>
   rw[hn]at h4;dsimp only at h4
   split at h4
   ·rename_i hu
    have e1:dX E.E.P g.s op ty x y (some v) (some w')=dX E.E.P g'.s op ty x y (some v) (some w'):=SY h4 hu h3 hn h5
    rw[<- e1]
    exact gq hw
   ·cases h4
  |false =>
  rw[hn]at h4;dsimp only at h4
  rw[Rb hH hok h4 h3 h6 (s':=g'.s) hob]
  exact gq hw
 |convert src dst x =>
  obtain⟨a,v,h1,_,h2,h3⟩:=bq e (ho x (by simp[Op.operands]))
  simp only[cy,h2,gE]at hw ⊢
  have:jB E.E.P g.s src dst v=some (w,g.s):=by
   revert hw
   cases jB E.E.P g.s src dst v with
   |none=>intro hw;cases hw
   |some p=>intro hw;obtain⟨p1,p2⟩:=p;simp only[iE,Option.some.injEq,Nx.val.injEq]at hw;rw[hw.1,hw.2]
  rw[QV h1 h3 this];rfl
 |lookup ty x k ok =>
  obtain⟨a,v,h1,_,h2,h3⟩:=bq e (ho x (by simp[Op.operands]))
  obtain⟨c,w',h4,_,h5,h6⟩:=bq h1 (ho k (by simp[Op.operands]))
  simp only[cy,h2,h5]at hw ⊢
  unfold jm at h4
  split at h4
  ·rename_i td el hme
   obtain⟨kt,hu,_,_,hsk⟩:=nG hme
   split at h4
   ·obtain⟨_,h4⟩:=aE h4
    exact(Nk hc h4).elim
   ·simp only[RD]at h3;subst h3
    simp only[jz,hu,yj,bY]at hw ⊢
    exact gq hw
   ·cases h4
  ·cases h4
 |call c =>
  simp only[jH]at e
  obtain⟨ds,vs,h1,h2,h3⟩:=jx e (fun x hx=>ho x (by simp[Op.operands,Call.operands]at hx ⊢;exact .inr hx))
  simp only[cy,h2,hJ]at hw ⊢
  split at h1
  ·rename_i bi hcc
   rw[hcc]at hw ⊢
   simp only[aF,hcc]at hk
   simp only at hw ⊢
   cases bi<;>first|(simp at hk;done)|skip
   case len =>
    simp only[mm]at h1
    simp only[iJ]at hw ⊢
    split at h1
    ·rename_i a ha
     split at h1
     ·simp only[RL]at h3
      obtain⟨v,vs',rfl,k1,rfl⟩:=h3
      rw[ha]at hw ⊢
      simp only at hw ⊢
      have hv:iH E.E.P a g.s v=iH E.E.P a g'.s v:=by
       unfold iH
       split<;>first|rfl|skip
       rename_i r _ hu
       exfalso
       unfold bJ at h1
       rw[hu]at h1
       simp only at h1
       have ht:=k1.tag
       split at h1
       ·grind [Nk]
       ·cases ht
       ·cases h1
      rw[<- hv];exact gq hw
     ·cases h1
    ·cases h1
   case max=>exact gq hw
   case min=>exact gq hw
   case cap=>cases h1
  ·rename_i f hcc
   simp[aF,hcc]at hk
  ·cases h1
 |pick c x y =>
  simp only[cy,mf]at hw ⊢
  split at hw
  ·exact gq hw
  ·cases hw
 |_=>first|(cases e;done)|(simp[aF]at hk;done)|(simp only[cy]at hw ⊢;exact gq hw)
end Go.AI
namespace Go.AI
variable[fE]
variable{b:Nat}{P0:List Nat}{g:Gh}{LO:List Nat}{t:T LD}{L:LS}{tv:T V}{out:iC}{E:cF}{an:ii}
def gM(g:Gh):List fB->List Du->Prop
 |[],c=>c=[]
 |x::r,c=>∃ y c',c=y::c'/\RD g x.v y.v/\x.recovered=y.recovered/\gM g r c'
def LJ(g:Gh):eU->Md->Prop
 |.run,m=>m=.run
 |.returning,m=>m=.returning
 |.panicking c,m=>∃ c',m=.panicking c'/\gM g c c'
 |.round _,_=>False
def Lu(g:Gh):Option eU->Option Md->Prop
 |none,u=>u=none
 |some m,u=>∃ m',u=some m'/\LJ g m m'
def qp(g:Gh):Option eU->Option Md->Option Nat->Prop
 |some (.round o),u,r=>u=none/\∃ l v,r=some l/\g.O[o]? = some (some (l,v))
 |up,u,r=>r=none/\Lu g up u
def JU(up:Option eU):Prop:=∀ o,up≠some (.round o)
theorem qp.nr{g:Gh}{up:Option eU}{u:Option Md}{r:Option Nat}(hn:JU up)(h:qp g up u r):r=none/\Lu g up u:=by
 unfold qp at h
 split at h
 ·exact(hn _ rfl).elim
 ·exact h
theorem qp.mk{g:Gh}{up:Option eU}{u:Option Md}(hn:JU up)(h:Lu g up u):qp g up u none:=by
 unfold qp
 split
 ·exact(hn _ rfl).elim
 grind
theorem lR{up:Option eU}{r:ah}{out:iC}(h:notRnd up r=some out):JU up/\r=some out:=by
 unfold notRnd at h
 split at h
 ·cases h
 ·rename_i hn;exact⟨fun o e=>hn o e,h⟩
def FX(g:Gh):List qo->List eD->Prop
 |[],c=>c=[]
 |.coll o::r,c=>∃ d v c',c=.collected d::c'/\g.O[o]? = some (some (d,v))/\FX g r c'
 |.call x::r,c=>∃ ca a c',c=.call (.func x.fn) ca a::c'/\RL g x.captured ca/\RL g x.args a/\FX g r c'
def UV(g:Gh):Pb->WK->Prop
 |.ret d,e=>∃ v,e=.returned v/\RD g d v
 |.pan c,e=>∃ c',e=.panicked c'/\gM g c c'
theorem gM.mono{g g':Gh}(h:mP g g'):∀ {c:List fB} {c':List Du},gM g c c'->gM g' c c'
 |[],_,r=>r
 |x::l,_,r=>by
  obtain⟨y,c',h1,h2,h3,h4⟩:=r
  exact⟨y,c',h1,h2.mono h,h3,gM.mono h h4⟩
theorem LJ.mono{g g':Gh}(h:mP g g'){m:eU}{m':Md}(r:LJ g m m'):LJ g' m m':=by
 cases m with
 |run=>exact r
 |returning=>exact r
 |panicking c=>obtain⟨c',h1,h2⟩:=r;exact⟨c',h1,h2.mono h⟩
 |round _=>exact r
theorem Lu.mono{g g':Gh}(h:mP g g'){m:Option eU}{m':Option Md}(r:Lu g m m'):Lu g' m m':=by
 cases m with
 |none=>exact r
 |some m=>obtain⟨c',h1,h2⟩:=r;exact⟨c',h1,h2.mono h⟩
theorem qp.mono{g g':Gh}(h:mP g g'){m:Option eU}{u:Option Md}{q:Option Nat}(r:qp g m u q):qp g' m u q:=by
 unfold qp at r ⊢
 split at r
 ·obtain⟨h1,l,v,h2,h3⟩:=r
  obtain⟨v',h4⟩:=h.o1 _ l v h3
  grind
 ·exact⟨r.1,r.2.mono h⟩
theorem FX.mono{g g':Gh}(h:mP g g'):∀ {c:List qo} {c':List eD},FX g c c'->FX g' c c'
 |[],_,r=>r
 |.coll o::l,_,r=>by
  obtain⟨d,v,c',h1,h2,h3⟩:=r
  obtain⟨v',h4⟩:=h.o1 o d v h2
  exact⟨d,v',c',h1,h4,FX.mono h h3⟩
 |.call x::l,_,r=>by
  obtain⟨ca,a,c',h1,h2,h3,h4⟩:=r
  exact⟨ca,a,c',h1,h2.mono h,h3.mono h,FX.mono h h4⟩
def jb(b:Nat)(P0:List Nat)(g:Gh)(out:iC)(vout:fc):Prop:=∃ g',g'.H=out.H/\g'.s=vout.s/\g'.Pv=P0/\Ok g'/\Mv b g g'/\UV g' out.e vout.e/\Lu g' out.up vout.up
structure HV(E:dA)(rec:oZ):Prop where
 c:∀ f args up H out,rec f args up H=some out->∀ g:Gh,g.H=H->Ok g->∀ vs upv,RL g args vs->Lu g up upv->∃ vout,lim E (.call f vs upv) g.s=some vout/\jb g.s.next g.Pv g out vout
 r:∀ o args H out,rec 0 args (some (.round o)) H=some out->∀ g:Gh,g.H=H->Ok g->∀ vs l v,RL g args vs->g.O[o]? = some (some (l,v))->∃ vout,lim E (.round l vs) g.s=some vout/\jb g.s.next g.Pv g out vout
def lO(t:T LD)(d:Option Tmp)(x:LD):T LD:=match d with
 |some i=>T.set (some x) (eQ i) t
 |none=>t
theorem cu(t:T LD)(d:Option Tmp)(x:LD)(κ:T LD->ah):jT t d x κ=κ (lO t d x):=by
 cases d with
 |none=>rfl
 |some i=>exact T.setQ_eq _ _ _ _
theorem zN.put(h:zN g LO t tv)(d:Option Tmp){x:LD}{v:V}(r:RS g LO x v):zN g LO (lO t d x) (putD tv d v):=by
 cases d with
 |none=>exact h
 |some i =>
  intro j y hy
  simp only[lO]at hy
  rw[T.get_setN]at hy
  rw[EC]
  split at hy
  ·grind
  ·rename_i e;rw[if_neg e];exact h j y hy
theorem FI.put(h:FI b P0 g t L tv LO)(d:Option Tmp){x:LD}{v:V}(r:RS g LO x v):FI b P0 g (lO t d x) L (putD tv d v) LO:=⟨h.ok,h.slots.put d r,h.own,h.pv,h.low,h.nd,h.bl⟩
theorem RS.u:RS g LO .u V.undef:=rfl
theorem vQ{ops:Array Oper}{o:Oper}{kT kF:T LD->ah}(e:vR ops t o kT kF=some out)(h:zN g LO t tv) :
 (bC ops tv o=some true/\∃ t',kT t'=some out/\Rf t t' tv)\/(bC ops tv o=some false/\∃ t',kF t'=some out/\Rf t t' tv):=by
 unfold vR at e
 unfold bC
 split at e
 ·rename_i hg;rw[hg];exact .inl ⟨rfl,t,e,.refl t tv⟩
 ·rename_i j want hg
  rw[hg]
  simp only
  split at e
  ·rename_i i hi
   rw[hi]
   simp only
   split at e
   ·rename_i d hd
    obtain⟨v,h1,h2⟩:=h i _ hd
    have h2:RD g d v:=h2
    split at e
    ·obtain⟨q,rfl,e'⟩:=Dd e h2
     clear e
     rw[h1]
     cases q with
     |true=>rw[cond_true,T.setQ_eq]at e';exact .inl ⟨rfl,_,e',wu h1⟩
     |false=>rw[cond_false,T.setQ_eq]at e';exact .inr ⟨rfl,_,e',wu h1⟩
    ·obtain⟨q,rfl,e'⟩:=Dd e h2
     clear e
     rw[h1]
     cases q with
     |true=>rw[cond_true,T.setQ_eq]at e';exact .inr ⟨rfl,_,e',wu h1⟩
     |false=>rw[cond_false,T.setQ_eq]at e';exact .inl ⟨rfl,_,e',wu h1⟩
   ·rename_i hd
    obtain⟨v,h1,h2⟩:=h i _ hd
    have h2:v=V.undef:=h2
    subst h2
    rw[h1]
    exact .inr ⟨rfl,t,e,.refl t tv⟩
   ·cases e
  ·cases e
theorem EA(h:FI b P0 g t L tv LO){k:Hk}{d:D}{κ:D->DH->ah}(e:fK k d g.H κ=some out){v:V}(r:RD g d v) :
 ∃ d' g',κ d' g'.H=some out/\g'.s=g.s/\FI b P0 g' t L tv LO/\Mv b g g'/\RD g' d' v/\(v.one=true):=by
 unfold fK at e
 split at e
 ·rename_i sz
  split at e
  ·rename_i s' o n
   obtain⟨sz',st,cap,l,e1,hc,hc2,hn⟩:=kB e (dV.refl g)
   clear e
   obtain⟨hb,e⟩:=cT e1
   clear e1
   have hb:=Nat.eq_of_beq_eq_true hb
   subst hb
   have hone:=r.one (fun q=>by cases q) (fun q=>by cases q)
   simp only[RD]at r
   have hsz:sz'=s':=by
    rcases r with⟨⟨_,_,_,k1⟩,_⟩|⟨st',cap',l',j1,_⟩
    ·rw[hc2]at k1;cases k1
    grind
   subst hsz
   exact⟨_,g.frz o sz' cap l,e,rfl,h.frz hc2,GQ hc2,CB h.ok hc2 hn r,hone⟩
  ·have hone:=r.one (fun q=>by cases q) (fun q=>by cases q)
   simp only[RD]at r
   refine⟨_,g,e,rfl,h,.refl b g,?_,hone⟩
   simp only[RD]
   rcases r with rfl|⟨a,z,sz',rfl⟩
   ·exact .inl ⟨trivial,rfl⟩
   ·exact .inr (.inl ⟨trivial,a,z,sz',rfl⟩)
  ·have hone:=r.one (fun q=>by cases q) (fun q=>by cases q)
   simp only[RD]at r
   exact⟨_,g,e,rfl,h,.refl b g,by simp only[RD];exact .inl ⟨trivial,r⟩,hone⟩
  ·exact⟨_,g,e,rfl,h,.refl b g,r,r.one (fun q=>by cases q) (fun q=>by cases q)⟩
  ·cases e
 ·rename_i sz
  split at e
  ·obtain⟨hs,e⟩:=aE e
   have hone:=r.one (fun q=>by cases q) (fun q=>by cases q)
   simp only[RD]at r
   refine⟨_,g.acc sz false,e,rfl,h.acc (Nat.le_of_ble_eq_true hs) false,GU h.ok sz false,?_,hone⟩
   simp only[RD]
   exact .inr ⟨true,false,[],gy _ _,Nat.le_refl _,.inl ⟨rfl,r⟩⟩
  ·exact⟨_,g,e,rfl,h,.refl b g,r,r.one (fun q=>by cases q) (fun q=>by cases q)⟩
  ·cases e
theorem kE{α:Type}{l:List α}{i:Nat}{x:α}(h:l[i]? = some x):l.set i x=l:=by
 apply List.ext_getElem?
 grind
theorem xA(h:FI b P0 g t L tv LO){k:Hk}{c:Nat}{d:D}{κ:D->DH->ah}(e:jt k c d g.H κ=some out){v:V}(r:RD g d v) :
 ∃ d' g',κ d' g'.H=some out/\g'.s=g.s/\FI b P0 g' t L tv LO/\Mv b g g'/\RD g' d' v:=by
 unfold jt at e
 split at e
 ·simp only[RD]at r
  obtain⟨vs,rfl,h1,h2⟩:=r
  obtain⟨x,hx,e⟩:=iY e
  obtain⟨w,hw,h3⟩:=h1.at hx
  obtain⟨y,g',k1,k2,k3,k4,k5,_⟩:=EA h e h3
  refine⟨_,g',k1,k2,k3,k4,?_⟩
  simp only[RD]
  have:=(h1.mono k4.le).set c k5
  rw[kE hw]at this
  exact⟨vs,rfl,this,h2⟩
 ·obtain⟨_,e⟩:=aE e
  obtain⟨d',g',k1,k2,k3,k4,k5,_⟩:=EA h e r
  exact⟨d',g',k1,k2,k3,k4,k5⟩
theorem AO:∀ {l:List (Nat×Hk)} {g:Gh} {d:D} {κ:D->DH->ah} {v:V},FI b P0 g t L tv LO->xz l d g.H κ=some out->RD g d v->∃ d' g',κ d' g'.H=some out/\g'.s=g.s/\FI b P0 g' t L tv LO/\Mv b g g'/\RD g' d' v
 |[],g,d,κ,v,h,e,r=>⟨d,g,e,rfl,h,.refl b g,r⟩
 |(c,k)::l,g,d,κ,v,h,e,r=>by
  simp only[xz]at e
  obtain⟨d',g',k1,k2,k3,k4,k5⟩:=xA h e r
  obtain⟨d2,g2,j1,j2,j3,j4,j5⟩:=AO k3 k1 k5
  exact⟨d2,g2,j1,j2.trans k2,j3,k4.trans j4,j5⟩
theorem eY(h:FI b P0 g t L tv LO){dst:Option Tmp}{x:LD}{κ:LD->DH->ah}(e:rH an.hooks dst x g.H κ=some out){v:V}(r:RS g LO x v) :
 ∃ x' g',κ x' g'.H=some out/\g'.s=g.s/\FI b P0 g' t L tv LO/\Mv b g g'/\RS g' LO x' v/\(tD an dst=false->g'=g/\x'=x):=by
 have same:κ x g.H=some out->∃ x' g',κ x' g'.H=some out/\g'.s=g.s/\FI b P0 g' t L tv LO/\Mv b g g'/\RS g' LO x' v/\(tD an dst=false->g'=g/\x'=x):=fun e=>⟨x,g,e,rfl,h,.refl b g,r,fun _=>⟨rfl,rfl⟩⟩
 unfold rH at e
 split at e
 ·exact same e
 ·rename_i hl
  split at e
  ·exact same e
  ·rename_i i
   split at e
   ·exact same e
   ·rename_i l hk
    split at e
    ·obtain⟨d',g',k1,k2,k3,k4,k5⟩:=AO h e r
     refine⟨_,g',k1,k2,k3,k4,k5,fun q=>?_⟩
     unfold tD at q
     rw[hl]at q hk
     simp only[hk]at q
     cases q
    ·cases e
theorem lg(h:FI b P0 g t L tv LO){vout:fc}{o:iC}(r:jb g.s.next g.Pv g o vout):∃ g',g'.H=o.H/\g'.s=vout.s/\FI b P0 g' t L tv LO/\Mv b g g'/\UV g' o.e vout.e/\Lu g' o.up vout.up/\Dt g L LO g' L LO:=by
 obtain⟨g',h1,h2,h3,h4,h5,h6,h7⟩:=r
 exact⟨g',h1,h2,h.to h4 (h5.down h.bl) h3 fun f hf=>h5.out f (h.lo_lt hf) (fun o v=>h.lo_out hf o v),h5.down h.bl,h6,h7,List.prefix_rfl,LG.of fun f hf=>h5.out f (h.lo_lt hf) (fun o v=>h.lo_out hf o v)⟩
def WR(b:Nat)(P0:List Nat)(g:Gh)(rdv:Option Nat)(k:FQ)(kp:List fB->FQ)(out:iC):jL->Prop
 |.on tv' dsv' upv' s'=>∃ g' t' L' LO' ds' up',k t' L' ds' up' g'.H=some out/\g'.s=s'/\FI b P0 g' t' L' tv' LO'/\Mv b g g'/\FX g' ds' dsv'/\qp g' up' upv' rdv
 |.panicked c tv' dsv' upv' s'=>∃ g' t' L' LO' ds' up' c',kp c' t' L' ds' up' g'.H=some out/\g'.s=s'/\FI b P0 g' t' L' tv' LO'/\Mv b g g'/\FX g' ds' dsv'/\qp g' up' upv' rdv/\gM g' c' c
theorem WR.trans{g':Gh}(m:Mv b g g'){rdv:Option Nat}{k:FQ}{kp:List fB->FQ}{r:jL}(h:WR b P0 g' rdv k kp out r):WR b P0 g rdv k kp out r:=by
 cases r with
 |on tv' dsv' upv' s' =>
  obtain⟨g2,t',L',LO',ds',up',h1,h2,h3,h4,h5⟩:=h
  exact⟨g2,t',L',LO',ds',up',h1,h2,h3,m.trans h4,h5⟩
 |panicked c tv' dsv' upv' s' =>
  obtain⟨g2,t',L',LO',ds',up',c',h1,h2,h3,h4,h5⟩:=h
  exact⟨g2,t',L',LO',ds',up',c',h1,h2,h3,m.trans h4,h5⟩
variable{rec:oZ}
theorem lh{x:ah}{kr:D->DH->ah}{kp:List fB->DH->ah}(h:dw x kr kp=some out):∃ o,x=some o/\((∃ d,o.e=.ret d/\kr d o.H=some out)\/(∃ c,o.e=.pan c/\kp c o.H=some out)):=by
 unfold dw at h
 grind
theorem zn{d:Option Tmp}{ds:List qo}{H:DH}{k:FQ}{up:Option eU}{upv:Option Md}{rdv:Option Nat}(e:lK d t L ds H k up=some out)(hu:qp g up upv rdv) :
 ∃ x up' v upv',k (lO t d x) L ds up' H=some out/\RS g LO x v/\qp g up' upv' rdv/\∀(tv:T V) (dsv:List eD) (s:S) (kv:RK),recovered d tv dsv s kv upv=kv (putD tv d v) dsv upv' s:=by
 unfold lK at e
 split at e
 ·cases e
 ·rename_i v older
  have hq:=hu.nr (fun o q=>by cases q)
  clear hu
  obtain⟨rfl,hu⟩:=hq
  obtain⟨m',rfl,c',rfl,y,c2,rfl,k1,k2,k3⟩:=hu
  obtain⟨yv,yr⟩:=y
  simp only at k1 k2
  subst k2
  rw[cu]at e
  exact⟨.g v,_,yv,some (.panicking (⟨yv,true⟩::c2)),e,k1,qp.mk (fun o q=>by cases q) ⟨_,rfl,_,rfl,⟨yv,true⟩,c2,rfl,k1,rfl,k3⟩,fun tv dsv s kv=>by simp only[recovered,cg]⟩
 ·rename_i m hnr hne
  have hn:JU (some m):=fun o q=>hnr o (Option.some.inj q)
  have hq:=hu.nr hn
  clear hu
  obtain⟨rfl,hu⟩:=hq
  obtain⟨m',rfl,k1⟩:=hu
  rw[cu]at e
  refine⟨.g .nilIface,some m,.nilIface,some m',e,by show RD _ _ _;simp only[RD],qp.mk hn ⟨m',rfl,k1⟩,fun tv dsv s kv=>?_⟩
  have:∀ v older,m'≠.panicking (⟨v,false⟩::older):=fun v older q=>by
   subst q
   cases m with
   |run=>cases k1
   |returning=>cases k1
   |round o=>exact k1
   |panicking c =>
    obtain⟨c',q1,k2⟩:=k1
    cases q1
    cases c with
    |nil=>cases k2
    |cons x xs =>
     obtain⟨y,c2,q2,k3,k4,k5⟩:=k2
     cases q2
     obtain⟨xv,xr⟩:=x
     simp_all
  unfold recovered
  split
  ·rename_i q;exact(this _ _ (Option.some.inj q)).elim
  ·rename_i q;cases q;simp only[cg]
  ·rename_i q;cases q
 ·cases e
theorem fh{rdv:Option Nat}(hrec:HV E.E rec){ops:Array Oper}{k:FQ}{kp:List fB->FQ}:∀ {l:List Oper} {t:T LD} {L:LS} {ds:List qo} {up:Option eU} {g:Gh} {LO:List Nat} {tv:T V} {dsv:List eD} {upv:Option Md},
 oB E an ops rec l k kp t L ds up g.H=some out->FI b P0 g t L tv LO->FX g ds dsv->qp g up upv rdv ->
 ∃ r,pK E.E ops (bA (lim E.E)) (eg (lim E.E)) rdv l tv dsv upv g.s=some r/\WR b P0 g rdv k kp out r
 |[],t,L,ds,up,g,LO,tv,dsv,upv,e,h,hd,hu=>⟨_,rfl,g,t,L,LO,ds,up,e,rfl,h,.refl b g,hd,hu⟩
 |o::l,t,L,ds,up,g,LO,tv,dsv,upv,e,h,hd,hu=>by
  simp only[oB]at e
  simp only[pK]
  rcases vQ e h.slots with⟨hw,t1,e,hr⟩|⟨hw,t1,e,hr⟩
  ·have h:=h.rf hr
   rw[hw]
   obtain⟨t2,x,nx,e,h1,hr2,hs⟩:=Cb o.op h e
   have h:=h.rf hr2
   simp only[pO,dg,h1]
   cases x with
   |val d L' H' =>
    obtain⟨v,s',rfl,g',LO',k1,k2,k3,k4,k5,k6⟩:=hs
    have k3:=FI.rf k3 (t':=t2) hr2
    simp only[GL,<- k1]at e
    obtain⟨x',g2,j1,j2,j3,j4,j5,_⟩:=eY k3 e k6
    rw[cu]at j1
    obtain⟨r,i1,i2⟩:=fh hrec j1 (j3.put o.dst j5) ((hd.mono k4.le).mono j4.le) ((hu.mono k4.le).mono j4.le)
    refine⟨r,?_,i2.trans (k4.trans j4)⟩
    grind [dT,cg]
   |skip L' H' =>
    obtain⟨s',rfl,g',LO',k1,k2,k3,k4,k5,_⟩:=hs
    have k3:=FI.rf k3 (t':=t2) hr2
    simp only[GL,<- k1,cu]at e
    obtain⟨r,i1,i2⟩:=fh hrec e (k3.put o.dst RS.u) (hd.mono k4.le) (hu.mono k4.le)
    refine⟨r,?_,i2.trans k4⟩
    grind [dT,cg]
   |enter f args L' H' =>
    obtain⟨vs,rfl,rfl,rfl,k1,_⟩:=hs
    simp only[GL]at e
    obtain⟨oc,hoc,e⟩:=lh e
    obtain⟨vout,m1,m2⟩:=hrec.c f args none g.H oc hoc g rfl h.ok vs none k1 rfl
    obtain⟨g',n1,n2,n3,n4,n5,_⟩:=lg h m2
    obtain⟨ve,vu,vs'⟩:=vout
    simp only at n2 n5
    rcases e with⟨d,hd1,e⟩|⟨c,hd1,e⟩
    ·rw[hd1]at n5
     obtain⟨v,rfl,n6⟩:=n5
     rw[<- n1]at e
     obtain⟨x',g2,j1,j2,j3,j4,j5,_⟩:=eY (x:=.g d) n3 e n6
     rw[cu]at j1
     obtain⟨r,i1,i2⟩:=fh hrec j1 (j3.put o.dst j5) ((hd.mono n4.le).mono j4.le) ((hu.mono n4.le).mono j4.le)
     refine⟨r,?_,i2.trans (n4.trans j4)⟩
     grind [dT,bA,fw,cg]
    ·rw[hd1]at n5
     obtain⟨c',rfl,n6⟩:=n5
     rw[<- n1]at e
     refine⟨.panicked c' tv dsv upv vs',by simp only[dT,bA,m1,fw],?_⟩
     exact⟨g',t2,L',LO,ds,up,c,e,n2,n3,n4,hd.mono n4.le,hu.mono n4.le,n6⟩
   |round or args L' H' =>
    obtain⟨vs,lb,lv,rfl,rfl,rfl,k1,ko⟩:=hs
    simp only[GL]at e
    obtain⟨oc,hoc,e⟩:=lh e
    obtain⟨vout,m1,m2⟩:=hrec.r or args g.H oc hoc g rfl h.ok vs lb lv k1 ko
    obtain⟨g',n1,n2,n3,n4,n5,_⟩:=lg h m2
    obtain⟨ve,vu,vs'⟩:=vout
    simp only at n2 n5
    rcases e with⟨d,hd1,e⟩|⟨c,hd1,e⟩
    ·rw[hd1]at n5
     obtain⟨v,rfl,n6⟩:=n5
     rw[<- n1]at e
     obtain⟨x',g2,j1,j2,j3,j4,j5,_⟩:=eY (x:=.g d) n3 e n6
     rw[cu]at j1
     obtain⟨r,i1,i2⟩:=fh hrec j1 (j3.put o.dst j5) ((hd.mono n4.le).mono j4.le) ((hu.mono n4.le).mono j4.le)
     refine⟨r,?_,i2.trans (n4.trans j4)⟩
     grind [dT,eg,fw,cg]
    ·rw[hd1]at n5
     obtain⟨c',rfl,n6⟩:=n5
     rw[<- n1]at e
     refine⟨.panicked c' tv dsv upv vs',by simp only[dT,eg,m1,fw],?_⟩
     exact⟨g',t2,L',LO,ds,up,c,e,n2,n3,n4,hd.mono n4.le,hu.mono n4.le,n6⟩
   |defer df L' H' =>
    obtain⟨c,a,rfl,rfl,rfl,k1,k2,_⟩:=hs
    simp only[GL,cu]at e
    obtain⟨hn,e⟩:=lR e
    obtain⟨rfl,_⟩:=hu.nr hn
    obtain⟨r,i1,i2⟩:=fh hrec e (h.put o.dst RS.u) (dsv:=.call (.func df.fn) c a::dsv) ⟨c,a,dsv,rfl,k1,k2,hd⟩ hu
    grind [dT,Option.isSome_none,cg]
   |recover L' H' =>
    obtain⟨rfl,rfl,rfl⟩:=hs
    simp only[GL]at e
    obtain⟨x,up',v,upv',e,k1,k2,k3⟩:=zn (LO:=LO) e hu
    obtain⟨r,i1,i2⟩:=fh hrec e (h.put o.dst k1) hd k2
    grind [only,dT]
   |panic v L' H' =>
    obtain⟨w,rfl,rfl,rfl,k1⟩:=hs
    simp only[GL]at e
    exact⟨_,rfl,g,t2,L',LO,ds,up,_,e,rfl,h,.refl b g,hd,hu,⟨w,false⟩,[],rfl,k1,rfl,rfl⟩
  ·have h:=h.rf hr
   rw[hw]
   rw[cu]at e
   obtain⟨r,i1,i2⟩:=fh hrec e (h.put o.dst RS.u) hd hu
   grind [only,pO,cg]
end Go.AI
namespace Go.AI
variable[fE]
variable{b:Nat}{P0:List Nat}{g:Gh}{LO:List Nat}{t:T LD}{L:LS}{tv:T V}{out:iC}{E:cF}{an:ii}
structure fC where
 L:LS
 g:Gh
 LO:List Nat
def HZ(c:fC):Prop:=Ok c.g/\LR c.g c.L c.LO
def uB(b:Nat)(x y:fC):Prop:=Mv b x.g y.g/\Dt x.g x.L x.LO y.g y.L y.LO
theorem uB.refl(b:Nat)(x:fC):uB b x x:=⟨.refl b _,.refl _ _ _⟩
theorem uB.trans{x y z:fC}(h:uB b x y)(k:uB b y z):uB b x z:=⟨h.1.trans k.1,h.2.trans k.2⟩
def iK(b:Nat)(cur:fC):List fC->Prop
 |[]=>True
 |c::r=>HZ c/\uB b c cur/\iK b c r
theorem iK.step{x y:fC}(h:uB b x y):∀ {l:List fC},iK b x l->iK b y l
 |[],_=>trivial
 |c::r,k=>⟨k.1,k.2.1.trans h,k.2.2⟩
theorem iK.at:∀ {l:List fC} {x:fC},iK b x l->∀ {p:Nat} {c:fC},l[p]? = some c->HZ c/\uB b c x
 |[],x,_,p,c,h=>by simp at h
 |d::r,x,k,0,c,h=>by simp at h;subst h;exact⟨k.1,k.2.1⟩
 |d::r,x,k,p+1,c,h=>by
  obtain⟨h1,h2⟩:=iK.at k.2.2 (p:=p) (by simpa using h)
  exact⟨h1,h2.trans k.2.1⟩
theorem iK.two:∀ {l:List fC} {x:fC},iK b x l->∀ {p q:Nat} {c d:fC},l[p]? = some c->l[q]? = some d->p<=q->uB b d c
 |[],x,_,p,q,c,d,h,_,_=>by simp at h
 |e::r,x,k,0,0,c,d,h,h2,_=>by
  have h:e=c:=by simpa using h
  have h2:e=d:=by simpa using h2
  subst h;subst h2;exact .refl b _
 |e::r,x,k,0,q+1,c,d,h,h2,_=>by
  have h:e=c:=by simpa using h
  subst h
  exact(iK.at k.2.2 (p:=q) (by simpa using h2)).2
 |e::r,x,k,p+1,0,c,d,h,h2,hq=>by omega
 |e::r,x,k,p+1,q+1,c,d,h,h2,hq=>iK.two k.2.2 (p:=p) (q:=q) (by simpa using h) (by simpa using h2) (by omega)
theorem RS.nxt{x y:fC}(h:uB b x y){d:LD}{v:V}(r:RS x.g x.LO d v):RS y.g y.LO d v:=(r.mono h.1.le).ext h.2.pre
def ZC(cs:List fC)(bs:T Nat)(g:Gh)(LO:List Nat)(i:Nat)(x:LD)(v:V):Prop:=RS g LO x v/\∀(p:Nat) c,cs[p]? = some c->tQ bs i+p<cs.length->RS c.g c.LO x v
def qt(cs:List fC)(bs:T Nat)(t:T LD)(tv:T V)(g:Gh)(LO:List Nat):Prop:=∀ i x,t.get (eQ i)=some x->∃ v,tv.get (eQ i)=some v/\ZC cs bs g LO i x v
theorem qt.rf{cs:List fC}{bs:T Nat}{t':T LD}(r:Rf t t' tv)(h:qt cs bs t tv g LO):qt cs bs t' tv g LO:=r (ZC cs bs g LO) (fun i q=>⟨by show RD _ _ _;simp only[RD],fun p c _ _=>by show RD _ _ _;simp only[RD]⟩) h
theorem qt.nxt{cs:List fC}{bs:T Nat}{x y:fC}(h:uB b x y)(k:qt cs bs t tv x.g x.LO):qt cs bs t tv y.g y.LO:=fun i z hz=>by
 obtain⟨v,h1,h2,h3⟩:=k i z hz
 exact⟨v,h1,h2.nxt h,h3⟩
def Am(bs:T Nat)(d:Option Tmp)(n:Nat):T Nat:=match d with
 |some i=>T.set (some n) (eQ i) bs
 |none=>bs
theorem fv{β:Type}(bs:T Nat)(d:Option Tmp)(n:Nat)(κ:T Nat->β):MU bs d n κ=κ (Am bs d n):=by
 cases d with
 |none=>rfl
 |some i=>exact T.setQ_eq _ _ _ _
theorem qt.put{cs:List fC}{bs:T Nat}(h:qt cs bs t tv g LO)(d:Option Tmp){x:LD}{v:V}{n:Nat}(r:RS g LO x v)(hb:∀(p:Nat) c,cs[p]? = some c->n+p<cs.length->RS c.g c.LO x v):qt cs (Am bs d n) (lO t d x) (putD tv d v) g LO:=by
 cases d with
 |none=>exact h
 |some i =>
  intro j y hy
  simp only[lO]at hy
  rw[T.get_setN]at hy
  rw[EC]
  split at hy
  ·rename_i e
   cases hy;subst e
   rw[if_pos rfl]
   refine⟨v,rfl,r,fun p c hc hp=>hb p c hc ?_⟩
   grind [only,tQ,Am,T.get_set_same]
  ·rename_i e
   rw[if_neg e]
   obtain⟨w,h1,h2,h3⟩:=h j y hy
   refine⟨w,h1,h2,fun p c hc hp=>h3 p c hc ?_⟩
   grind [only,tQ,Am,T.get_setN]
theorem qt.push{cs:List fC}{bs:T Nat}{c:fC}(h:qt cs bs t tv c.g c.LO):qt (c::cs) bs t tv c.g c.LO:=fun i x hx=>by
 obtain⟨v,h1,h2,h3⟩:=h i x hx
 refine⟨v,h1,h2,fun p d hd hp=>?_⟩
 grind
theorem yI{bs:T Nat}:∀ {l:List Tmp} {i:Tmp},i∈l->tQ bs i<=fA bs l
 |j::r,i,h=>by
  simp only[fA]
  rcases List.mem_cons.1 h with rfl|h
  ·grind
  ·exact Nat.le_trans (yI h) (Nat.le_max_right _ _)
theorem qt.op{cs:List fC}{bs:T Nat}(h:qt cs bs t tv g LO){o:Oper}{x:Operand}(hx:x∈o.op.operands.toList){p:Nat}{c:fC}(hc:cs[p]? = some c)(hb:fA bs (sees o)+p<cs.length):uO c.g c.LO t tv x:=by
 intro y hy
 cases x with
 |tmp i =>
  obtain⟨v,h1,h2,h3⟩:=h i y hy
  refine⟨v,h1,h3 p c hc ?_⟩
  have:tQ bs i<=fA bs (sees o):=yI (by unfold sees;rw[List.mem_filterMap];exact⟨_,hx,rfl⟩)
  omega
 |const k =>
  simp only[gI]at hy
  split at hy
  ·rename_i v hv
   split at hy
   ·rename_i d hd;cases hy;exact⟨v,hv,Ol hd⟩
   ·cases hy
  ·cases hy
 |global _=>cases hy
 |func f=>cases hy;exact⟨_,rfl,by show RD _ _ _;simp only[RD];exact⟨[],[],rfl,by simp only[RL],by simp only[RL]⟩⟩
theorem Cm:∀ {L M:LS} {k st:Nat} {cs:List D},(fl.meet L M)[k]? = some (st,cs)->∃ cs0,L[k]? = some (st,cs0)/\(cs=[]\/(cs=cs0/\∃ c2,M[k]? = some (st,c2)))
 |[],M,k,st,cs,h=>by simp[fl.meet]at h
 |(a,c0)::l,[],0,st,cs,h=>by
  simp[fl.meet]at h
  grind
 |(a,c0)::l,[],k+1,st,cs,h=>by
  simp only[fl.meet,List.getElem?_cons_succ]at h
  obtain⟨cs0,h1,h2⟩:=Cm h
  grind
 |(a,c0)::l,(b,c1)::m,0,st,cs,h=>by
  simp only[fl.meet]at h
  cases hb:Nat.beq a b with
  |true =>
   simp_all
  |false =>
   grind
 |(a,c0)::l,(b,c1)::m,k+1,st,cs,h=>by
  have h':(fl.meet l m)[k]? = some (st,cs):=by
   simp only[fl.meet]at h
   grind
  simp_all[Cm]
theorem tL:∀ {r:List (LS×DH)} {L:LS} {k st:Nat} {cs:List D},(fl L r)[k]? = some (st,cs)->∃ cs0,L[k]? = some (st,cs0)/\(cs=[]\/(cs=cs0/\∀ M∈r,∃ c2,M.1[k]? = some (st,c2)))
 |[],L,k,st,cs,h=>⟨cs,h,.inr ⟨rfl,fun M hM=>by cases hM⟩⟩
 |(M,H)::r,L,k,st,cs,h=>by
  simp only[fl]at h
  obtain⟨cs1,h1,h2⟩:=tL h
  obtain⟨cs0,h3,h4⟩:=Cm h1
  grind
theorem CZ{r:List DH}:∀ {H:DH} {i o:Nat},(KX r i H)[o]? =(H[o]?).map (Et r (i+o))
 |[],i,o=>by simp[KX]
 |b::t,i,0=>by simp[KX]
 |b::t,i,o+1=>by
  simp only[KX,List.getElem?_cons_succ]
  rw[CZ,show i+1+o=i+(o+1)by omega]
theorem HF{H:DH}{r:List DH}{o:Nat}{x:DB}(h:(cR H r)[o]? = some x):x=.dead\/∃ st cs,x=.cells st cs/\H[o]? = some (.cells st cs)/\∀ H2∈r,H2[o]? = some (.cells st cs):=by
 rw[cR,CZ,Nat.zero_add]at h
 cases hb:H[o]? with
 |none=>rw[hb]at h;cases h
 |some b =>
  rw[hb]at h
  have h:Et r o b=x:=by simpa using h
  subst h
  cases b with
  |cells st cs =>
   grind [Et]
  |_=>exact .inl rfl
mutual
theorem nU:∀ v:V,aX.sameV v v=true
 |.bool b=>by simp[aX.sameV]
 |.int k n=>by simp[aX.sameV]
 |.str l=>by simp[aX.sameV]
 |.ptr a=>by simp[aX.sameV]
 |.nilptr=>rfl
 |.slice a z n c sz=>by simp[aX.sameV]
 |.nilslice=>rfl
 |.map r=>by simp[aX.sameV]
 |.nilmap=>rfl
 |.func f a b=>by simp[aX.sameV,gC a,gC b]
 |.nilFunc=>rfl
 |.iface t v=>by simp[aX.sameV,nU v]
 |.nilIface=>rfl
 |.agg l=>by simp[aX.sameV,gC l]
 |.tuple l=>by simp[aX.sameV,gC l]
 |.atom i=>by simp[aX.sameV]
theorem gC:∀ l:List V,aX l l=true
 |[]=>rfl
 |v::r=>by simp[aX,nU v,gC r]
end
theorem jR{E:dA}{o:Oper}{v:V}:∀ {l:List S},l≠[]->(∀ s∈l,cy o.op E tv s=some (.val v s))->fu E tv o l=some v
 |[],h,_=>(h rfl).elim
 |[s],_,h=>by simp only[fu,dg,h s List.mem_cons_self]
 |s::s2::r,_,h=>by
  have h2:=jR (l:=s2::r) (by simp) fun x hx=>h x (List.mem_cons_of_mem _ hx)
  grind [fu,dg,List.mem_cons_self,aX,nU,Bool.and_self]
theorem RS.same_at{cs:List fC}{cur:fC}(hh:iK b cur cs){x:LD}{v:V}{p:Nat}{c:fC}(hc:cs[p]? = some c)(r:RS c.g c.LO x v):RS cur.g cur.LO x v/\∀(q:Nat) d,cs[q]? = some d->q<=p->RS d.g d.LO x v :=
 ⟨r.nxt (hh.at hc).2,fun q d hd hq=>r.nxt (hh.two hd hc hq)⟩
theorem cm{α:Type}{l:List α}{i:Nat}{x:α}(h:l[i]? = some x):i<l.length:=by
 grind
theorem Hj{cs:List fC}{bs:T Nat}{o:Oper}{κ:T LD->zb->ah}(hk:aF E.E.P o.op=0)(hok:Ok g)(hh:iK b ⟨L,g,LO⟩ cs)(hs:qt cs bs t tv g LO)(e:jH o.op E false t [] [] κ=some out) :
 ∃ t' d v,κ t' (.val d [] [])=some out/\cy o.op E.E tv g.s=some (.val v g.s)/\Rf t t' tv/\RS g LO d v/\∀(p:Nat) c,cs[p]? = some c->fA bs (sees o)+p<cs.length->RS c.g c.LO d v:=by
 by_cases hb:fA bs (sees o)<cs.length
 ·have hp:cs.length - 1 - fA bs (sees o)<cs.length:=by omega
  have hc:=List.getElem?_eq_getElem hp
  generalize cs[cs.length - 1 - fA bs (sees o)]=c at hc
  obtain⟨⟨h1,_⟩,h3⟩:=hh.at hc
  have ho:∀ x∈o.op.operands.toList,uO c.g c.LO t tv x:=fun x hx=>hs.op hx hc (by omega)
  obtain⟨t',d,v,k1,k2,k3,k4⟩:=lP (L:=[]) o.op (by omega) (.inr rfl) ho h1 (fun k x f hx=>by simp at hx) (dV.nil _) e
  have hst:=As (L:=[]) (g':=g) o.op (by omega) ho h1 (fun k x f hx=>by simp at hx) (dV.nil _) sv.nil e h3.1.le (fun k y f hx=>by simp at hx) (fun o st cs f v hx=>by simp at hx) v k2
  obtain⟨r1,r2⟩:=k3.same_at hh hc
  exact⟨t',d,v,k1,hst,k4,r1,fun p c' hc' hp'=>r2 p c' hc' (by omega)⟩
 ·have ho:∀ x∈o.op.operands.toList,uO g LO t tv x:=fun x _=>zN.op (fun i y hy=>by obtain⟨v,q1,q2,_⟩:=hs i y hy;exact⟨v,q1,q2⟩) x
  obtain⟨t',d,v,k1,k2,k3,k4⟩:=lP (L:=[]) o.op (by omega) (.inr rfl) ho hok (fun k x f hx=>by simp at hx) (dV.nil _) e
  exact⟨t',d,v,k1,k2,k4,k3,fun p c hc hp=>by omega⟩
theorem ND{P:Program}{ty:TypeId}{x:LD}{H:DH}{r:List DH}{κ:D->ah}(h:pR P ty x L H r κ=some out):(∃ o n i c,x=.g (.bptr o n i c)/\BX P ty H r o n i c κ=some out)\/kf P ty x L (cR H r) κ=some out:=by
 unfold pR at h
 split at h
 ·unfold th at h
  split at h
  ·grind
  ·exact .inr h
 grind
theorem MR{op:Op}{E:cF}{H:DH}{r:List DH}{κ:T LD->LD->ah}(h:MS op (fun ty x=>lD (gI t x) fun x=>pR E.E.P ty x L H r fun d=>κ t (.g d)) (jH op E false t L (cR H r) fun t x=>pH (fun t x _ _=>κ t x) t x)=some out) :
 (∃ ty x o n i c,op=.load ty x/\gI t x=some (.g (.bptr o n i c))/\BX E.E.P ty H r o n i c (fun d=>κ t (.g d))=some out)\/jH op E false t L (cR H r) (fun t x=>pH (fun t x _ _=>κ t x) t x)=some out:=by
 unfold MS at h
 split at h
 ·rename_i ty x
  dsimp only at h
  cases hx:gI t x with
  |none=>rw[hx]at h;cases h
  |some y =>
   rw[hx]at h
   simp only[lD]at h
   rcases ND h with⟨o,n,i,c,rfl,h⟩|h
   ·exact .inl ⟨ty,x,o,n,i,c,rfl,hx,h⟩
   ·refine .inr ?_
    simp only[jH,hx,lD,pH]
    exact h
 ·exact .inr h
theorem RY{g g':Gh}{d:D}{v v':V}(hl:mP g g')(h1:LE g.H d=true)(h2:LE g'.H d=true)(r1:RD g d v)(r2:RD g' d v'):v=v':=by
 cases d with
 |buf sz o n =>
  simp only[LE]at h1 h2
  simp only[RD]at r1 r2
  rcases r1 with⟨⟨_,_,_,a1⟩,_⟩|⟨s1,c1,l1,a1,a2,a3⟩
  ·rw[a1]at h1;cases h1
  rcases r2 with⟨⟨_,_,_,b1⟩,_⟩|⟨s2,c2,l2,b1,b2,b3⟩
  ·rw[b1]at h2;cases h2
  rcases hl.buf o _ _ _ _ a1 with⟨_,_,_,d1⟩|⟨s3,c3,l3,d1,d2,d3,d4⟩
  ·rw[b1]at d1;cases d1
  rw[a1]at h1
  rw[b1]at h2
  rw[b1]at d1
  cases d1
  simp only[Bool.and_eq_true]at h1 h2
  grind [Nat.eq_of_beq_eq_true,Nat.blt,Nat.le_of_ble_eq_true]
 |nilx=>simp only[RD]at r1 r2;rw[r1,r2]
 |bool b=>simp only[RD]at r1 r2;rw[r1,r2]
 |int k n=>simp only[RD]at r1 r2;rw[r1,r2]
 |str l=>simp only[RD]at r1 r2;rw[r1.1,r2.1]
 |_=>simp[LE]at h1
theorem Qo{P:Program}{ty:TypeId}{p:D}{H:DH}{r:List DH}{κ:D->ah}(h:VE P ty p H r κ=some out):∃ d,κ d=some out/\∀ H2∈H::r,LE H2 d=true/\∀ κ':D->ah,bQ P ty p H2 κ'=κ' d:=by
 unfold VE at h
 split at h
 ·rename_i hq
  obtain⟨d,hd⟩:=hq
  exact⟨d,by rw[<- h,(hd H List.mem_cons_self).2],hd⟩
 ·cases h
theorem MQ{P:Program}{ty:TypeId}{H:DH}{r:List DH}{o n i c:Nat}{κ:D->ah}(h:BX P ty H r o n i c κ=some out):∃ d,κ d=some out/\LE H d=true/\(∀ H2∈r,LE H2 d=true)/\(∀ κ':D->ah,bQ P ty (.bptr o n i c) H κ'=κ' d)/\∀ H2∈r,∀ κ':D->ah,bQ P ty (.bptr o n i c) H2 κ'=κ' d:=by
 unfold BX gG at h
 split at h
 ·rename_i sz st cap l hx
  cases hn:Nat.beq n l.length with
  |false=>rw[hn]at h;cases h
  |true =>
   rw[hn]at h
   simp only[cond_true]at h
   unfold dM at h
   split at h
   ·rename_i cs hcs
    dsimp only at h
    obtain⟨d,hd⟩:=eC _ _ _ _ _ _ h
    grind [List.mem_cons_self,List.mem_cons_of_mem,bQ,gG,dM]
   ·cases h
 ·cases h
def hD(c:fC):LS×DH:=(c.L,c.g.H)
theorem Hh{cs:List fC}{bs:T Nat}{o:Oper}{w:Nat}{κ:T LD->LD->ah}(hk:aF E.E.P o.op<=1)(hns:∀ ty x lo hi mx,o.op≠.slice ty x lo hi mx)(hh:iK b ⟨L,g,LO⟩ cs)(hs:qt cs bs t tv g LO)(hw:w<=cs.length)(hb:fA bs (sees o)<=cs.length - w)(e:ww E o ((cs.map hD).take w) t κ=some out) :
 ∃ t' d v,κ t' d=some out/\fu E.E tv o ((cs.map fun c=>c.g.s).take w)=some v/\Rf t t' tv/\RS g LO d v/\∀(p:Nat) c,cs[p]? = some c->cs.length - w+p<cs.length->RS c.g c.LO d v:=by
 cases cs with
 |nil=>cases w<;>simp[ww]at e
 |cons c0 rest =>
  cases w with
  |zero=>simp[ww]at e
  |succ w =>
   rw[List.map_cons,List.take_succ_cons]at e
   simp only[ww]at e
   split at e
   ·rename_i ty x hop
    have hw2:w<(c0::rest).length:=by simp only[List.length_cons]at hw ⊢;omega
    have hc:=List.getElem?_eq_getElem hw2
    generalize(c0::rest)[w]=c at hc
    have hop':∀(q:Nat) d',(c0::rest)[q]? = some d'->q<=w->∀ x∈o.op.operands.toList,uO d'.g d'.LO t tv x:=fun q d' hd hq x hx=>hs.op hx hd (by simp only[List.length_cons]at hb hw ⊢;omega)
    have hx:x∈o.op.operands.toList:=by rw[hop];simp[Op.operands]
    obtain⟨dp,_,e,hev,_,_⟩:=jq e (hop' w c hc (Nat.le_refl _) x hx)
    split at e
    ·rename_i p
     obtain⟨d,g1,g2⟩:=Qo e
     have all:∀(q:Nat) d',(c0::rest)[q]? = some d'->q<=w->LE d'.g.H d=true/\∃ v,cy o.op E.E tv d'.g.s=some (.val v d'.g.s)/\RD d'.g d v:=fun q d' hd hq=>by
      have hm:d'.g.H∈(hD c0).2::((rest.map hD).take w).map (·.2):=by
       cases q with
       |zero =>
        have:c0=d':=by simpa using hd
        subst this
        exact List.mem_cons_self
       |succ q =>
        refine List.mem_cons_of_mem _ (List.mem_map.2 ⟨hD d',?_,rfl⟩)
        have:((rest.map hD).take w)[q]? = some (hD d'):=by rw[List.getElem?_take,if_pos (by omega),List.getElem?_map,show rest[q]? = some d' by simpa using hd];rfl
        exact List.mem_of_getElem? this
      have hf:=g2 _ hm
      refine⟨hf.1,?_⟩
      obtain⟨⟨m1,m2⟩,_⟩:=hh.at hd
      have e2:jH o.op E false t d'.L d'.g.H (fun _ y=>open Classical in if y=.val (.g d) d'.L d'.g.H then some out else none)=some out:=by
       rw[hop]
       simp only[jH,lD,hev,kf,hf.2,if_true]
      obtain⟨t',dd,v,n1,n2,n3,_⟩:=lP o.op hk (.inl hns) (hop' q d' hd hq) m1 m2.2 (dV.refl _) e2
      split at n1
      ·rename_i q1
       obtain⟨rfl,_⟩:=zb.val.inj q1
       exact⟨v,n2,n3⟩
      ·cases n1
     obtain⟨f1,v,f2,f3⟩:=all w c hc (Nat.le_refl _)
     obtain⟨r1,r2⟩:=RS.same_at (x:=.g d) hh hc f3
     refine⟨t,.g d,v,g1,?_,.refl t tv,r1,fun p c' hc' hp'=>r2 p c' hc' (by omega)⟩
     refine jR (by simp) fun s hs'=>?_
     obtain⟨q,hq⟩:=List.getElem?_of_mem hs'
     rw[List.getElem?_take]at hq
     split at hq
     ·rename_i hql
      rw[List.getElem?_map]at hq
      cases hd:(c0::rest)[q]? with
      |none=>rw[hd]at hq;cases hq
      |some d' =>
       rw[hd]at hq
       cases hq
       obtain⟨f4,v',f5,f6⟩:=all q d' hd (by omega)
       rw[RY (hh.two hd hc (by omega)).1.le f1 f4 f3 f6]
       exact f5
     ·cases hq
    ·cases e
   ·cases e
theorem Hi{cs:List fC}{bs:T Nat}{o:Oper}{w:Nat}{κ:T LD->LD->ah}(hk:aF E.E.P o.op<=1)(hns:∀ ty x lo hi mx,o.op≠.slice ty x lo hi mx)(hh:iK b ⟨L,g,LO⟩ cs)(hs:qt cs bs t tv g LO)(hw:w<=cs.length)(hb:fA bs (sees o)<=cs.length - w)(e:wx E o ((cs.map hD).take w) t κ=some out) :
 ∃ t' d v,κ t' d=some out/\fu E.E tv o ((cs.map fun c=>c.g.s).take w)=some v/\Rf t t' tv/\RS g LO d v/\∀(p:Nat) c,cs[p]? = some c->cs.length - w+p<cs.length->RS c.g c.LO d v:=by
 cases cs with
 |nil=>cases w<;>simp[wx]at e
 |cons c0 rest =>
  cases w with
  |zero=>simp[wx]at e
  |succ w =>
   rw[List.map_cons,List.take_succ_cons]at e
   simp only[wx]at e
   cases w with
   |zero =>
    rw[List.take_zero]at e
    simp only at e
    have hc:(c0::rest)[0]? = some c0:=rfl
    obtain⟨⟨h1,h2⟩,h3⟩:=hh.at hc
    have ho:∀ x∈o.op.operands.toList,uO c0.g c0.LO t tv x:=fun x hx=>hs.op hx hc (by simp only[List.length_cons]at hb ⊢;omega)
    obtain⟨t',d,v,k1,k2,k3,k4⟩:=lP o.op hk (.inl hns) ho h1 h2.2 (dV.refl _) e
    obtain⟨r1,r2⟩:=k3.same_at hh hc
    refine⟨t',d,v,k1,?_,k4,r1,fun p c' hc' hp'=>r2 p c' hc' (by omega)⟩
    simp only[List.map_cons,List.take_succ_cons,List.take_zero,fu,dg,k2]
   |succ w =>
    have hw2:w+1<(c0::rest).length:=by simp only[List.length_cons]at hw ⊢;omega
    cases rest with
    |nil=>simp at hw2
    |cons c1 rest =>
     rw[List.map_cons,List.take_succ_cons]at e
     simp only[List.map_cons,List.map_take]at e
     have hc:=List.getElem?_eq_getElem hw2
     generalize(c0::c1::rest)[w+1]=c at hc
     have hc0:(c0::c1::rest)[0]? = some c0:=rfl
     obtain⟨⟨h1,h2⟩,h3⟩:=hh.at hc
     have ho:∀ x∈o.op.operands.toList,uO c.g c.LO t tv x:=fun x hx=>hs.op hx hc (by simp only[List.length_cons]at hb hw ⊢;omega)
     have inw:∀(q:Nat) d,(c0::c1::rest)[q]? = some d->1<=q->q<=w+1->hD d∈hD c1::(rest.map hD).take w:=fun q d hd h1 h2=>by
      cases q with
      |zero=>omega
      |succ q =>
       have hd:(c1::rest)[q]? = some d:=by simpa using hd
       have:((c1::rest).map hD |>.take (w+1))[q]? = some (hD d):=by rw[List.getElem?_take,if_pos (by omega),List.getElem?_map,hd];rfl
       grind
     have key:∀ {k st:Nat} {x:List D},(fl (hD c0).1 (hD c1::(rest.map hD).take w))[k]? = some (st,x)->x≠[]->∀(q:Nat) d,(c0::c1::rest)[q]? = some d->q<=w+1->∀ f,d.LO[k]? = some f->∃ c2,d.L[k]? = some (st,c2):=fun {k st x} hx hne q d hd hq f hf=>by
      obtain⟨x0,k1,k2⟩:=tL hx
      rcases k2 with k2|⟨rfl,k2⟩
      ·grind
      ·cases q with
       |zero =>
        have:c0=d:=by simpa using hd
        subst this;exact⟨x,k1⟩
       |succ q=>exact k2 _ (inw (q+1) d hd (by omega) hq)
     have hLw:Ve c.g (fl (hD c0).1 (hD c1::(rest.map hD).take w)) c.LO:=fun k x f hx hf=>by
      obtain⟨st,x⟩:=x
      by_cases hne:x=[]
      ·subst hne
       have hkl:k<c.L.length:=by rw[h2.1];exact cm hf
       exact⟨(h2.2 k _ f (List.getElem?_eq_getElem hkl) hf).1,.inl rfl⟩
      ·obtain⟨c2,k1⟩:=key hx hne (w+1) c hc (Nat.le_refl _) f hf
       obtain⟨x0,k2,k3⟩:=tL hx
       rcases k3 with k3|⟨rfl,_⟩
       ·grind
       ·obtain⟨st',cs',j1,j2,j3⟩:=(hh.two hc0 hc (Nat.zero_le _)).2.pvn k st c2 f k1 hf
        have:(hD c0).1=c0.L:=rfl
        rw[this]at k2
        rw[k2]at j1
        cases j1
        obtain⟨rfl,_⟩:=j3 rfl
        exact h2.2 k _ f k1 hf
     have heap:∀ {o:Nat} {x:DB},(cR (hD c0).2 ((hD c1::(rest.map hD).take w).map (·.2)))[o]? = some x->x=.dead\/∃ st cs,x=.cells st cs/\∀(q:Nat) d,(c0::c1::rest)[q]? = some d->q<=w+1->d.g.H[o]? = some (.cells st cs):=fun {o x} hx=>by
      rcases HF hx with q|⟨st,cs,rfl,q1,q2⟩
      ·exact .inl q
      grind [List.mem_map.2,hD]
     have hSub:dV (cR (hD c0).2 ((hD c1::(rest.map hD).take w).map (·.2))) c.g:=fun o x hx=>by
      grind
     have hOnly:sv (cR (hD c0).2 ((hD c1::(rest.map hD).take w).map (·.2))):=fun o x hx=>by
      grind
     have e0:MS o.op (fun ty x=>lD (gI t x) fun x=>pR E.E.P ty x (fl (hD c0).1 (hD c1::(rest.map hD).take w)) (hD c0).2 ((hD c1::(rest.map hD).take w).map (·.2)) fun d=>κ t (.g d)) (jH o.op E false t (fl (hD c0).1 (hD c1::(rest.map hD).take w)) (cR (hD c0).2 ((hD c1::(rest.map hD).take w).map (·.2))) (fun t x=>pH (fun t x _ _=>κ t x) t x))=some out:=by
      simp_all
     rcases MR e0 with⟨ty,x,bo,bn,bi,bc,hop,hev,eb⟩|e'
     ·obtain⟨d,g1,g2,g3,g4,g5⟩:=MQ eb
      have all:∀(q:Nat) d',(c0::c1::rest)[q]? = some d'->q<=w+1->LE d'.g.H d=true/\∃ v,cy o.op E.E tv d'.g.s=some (.val v d'.g.s)/\RD d'.g d v:=fun q d' hd hq=>by
       have hf:LE d'.g.H d=true/\∀ κ':D->ah,bQ E.E.P ty (.bptr bo bn bi bc) d'.g.H κ'=κ' d:=by
        grind [List.mem_map.2,hD]
       refine⟨hf.1,?_⟩
       obtain⟨⟨m1,m2⟩,_⟩:=hh.at hd
       have e2:jH o.op E false t d'.L d'.g.H (fun _ y=>open Classical in if y=.val (.g d) d'.L d'.g.H then some out else none)=some out:=by
        grind [jH,lD,kf]
       obtain⟨t',dd,v,n1,n2,n3,_⟩:=lP o.op hk (.inl hns) (fun x hx=>hs.op hx hd (by simp only[List.length_cons]at hb hw ⊢;omega)) m1 m2.2 (dV.refl _) e2
       split at n1
       ·rename_i q1
        obtain⟨rfl,_⟩:=zb.val.inj q1
        exact⟨v,n2,n3⟩
       ·cases n1
      obtain⟨f1,v,f2,f3⟩:=all (w+1) c hc (Nat.le_refl _)
      obtain⟨r1,r2⟩:=RS.same_at (x:=.g d) hh hc f3
      refine⟨t,.g d,v,g1,?_,.refl t tv,r1,fun p c' hc' hp'=>r2 p c' hc' (by omega)⟩
      refine jR (by simp) fun s hs'=>?_
      obtain⟨q,hq⟩:=List.getElem?_of_mem hs'
      rw[List.getElem?_take]at hq
      split at hq
      ·rename_i hql
       rw[List.getElem?_map]at hq
       cases hd:(c0::c1::rest)[q]? with
       |none=>rw[hd]at hq;cases hq
       |some d' =>
        rw[hd]at hq
        cases hq
        obtain⟨f4,v',f5,f6⟩:=all q d' hd (by omega)
        rw[RY (hh.two hd hc (by omega)).1.le f1 f4 f3 f6]
        exact f5
      ·cases hq
     obtain⟨t',d,v,k1,k2,k3,k4⟩:=lP o.op hk (.inl hns) ho h1 hLw hSub e'
     obtain⟨r1,r2⟩:=k3.same_at hh hc
     refine⟨t',d,v,k1,?_,k4,r1,fun p c' hc' hp'=>r2 p c' hc' (by omega)⟩
     refine jR (by simp) fun s hs'=>?_
     obtain⟨q,hq⟩:=List.getElem?_of_mem hs'
     rw[List.getElem?_take]at hq
     split at hq
     ·rename_i hql
      rw[List.getElem?_map]at hq
      cases hd:(c0::c1::rest)[q]? with
      |none=>rw[hd]at hq;cases hq
      |some d' =>
       rw[hd]at hq
       cases hq
       have hn:=hh.two hd hc (by omega)
       refine As (g':=d'.g) o.op hk ho h1 hLw hSub hOnly e' hn.1.le (fun k y f hy hf hne=>?_) (fun o' st cs f v hx hO=>?_) v k2
       ·obtain⟨st,y⟩:=y
        obtain⟨c2,m1⟩:=key hy hne (w+1) c hc (Nat.le_refl _) f hf
        obtain⟨qq,hpre⟩:=hn.2.pre
        obtain⟨c3,m2⟩:=key hy hne q d' hd (by omega) f (by rw[<- hpre];exact ei _ hf)
        obtain⟨st',cs',j1,j2,j3⟩:=hn.2.pvn k st c2 f m1 hf
        rw[m2]at j1
        cases j1
        exact(j3 rfl).2
       ·rcases heap hx with q'|⟨st',cs',q1,q2⟩
        ·cases q'
        ·cases q1
         obtain⟨s2,c2,j1,j2,j3⟩:=hn.1.stm o' st cs f v (q2 (w+1) c hc (Nat.le_refl _)) hO
         rw[q2 q d' hd (by omega)]at j1
         cases j1
         exact(j3 rfl).2
     ·cases hq
end Go.AI
namespace Go.AI
variable[fE]
variable{b:Nat}{P0:List Nat}{g:Gh}{LO:List Nat}{t:T LD}{L:LS}{tv:T V}{out:iC}{E:cF}{an:ii}{rec:oZ}
theorem DA{κ:T LD->LD->LS->DH->ah}{x:zb}(h:pH κ t x=some out):∃ d L' H',x=.val d L' H'/\κ t d L' H'=some out:=by
 unfold pH at h
 grind
theorem FI.cfg(h:FI b P0 g t L tv LO):HZ ⟨L,g,LO⟩:=⟨h.ok,h.own⟩
theorem FI.sl(h:FI b P0 g t L tv LO){cs:List fC}{bs:T Nat}{t':T LD}(hs:qt cs bs t' tv g LO):FI b P0 g t' L tv LO:=⟨h.ok,fun i x hx=>by obtain⟨v,h1,h2,_⟩:=hs i x hx;exact⟨v,h1,h2⟩,h.own,h.pv,h.low,h.nd,h.bl⟩
theorem qt.of(h:zN g LO t tv)(bs:T Nat):qt [⟨L,g,LO⟩] bs t tv g LO:=fun i x hx=>by
 obtain⟨v,h1,h2⟩:=h i x hx
 refine⟨v,h1,h2,fun p c hc _=>?_⟩
 grind
theorem Oq{o:Oper}(h:cuts an o=true){s s':S}{v:V}(k:cy o.op E.E tv s=some (.val v s')):s'=s:=by
 unfold cuts at h
 split at h
 ·rename_i hop
  rw[hop]at k
  simp only[cy,bv]at k
  split at k
  ·cases k;rfl
  ·cases k
 ·cases h
def Lw(b:Nat)(P0:List Nat)(g:Gh)(k:T LD->LS->DH->ah)(kp:List fB->T LD->LS->DH->ah)(dsv:List eD)(upv:Option Md)(out:iC)(r:jL):Prop :=
 (∃ tv' s',r=.on tv' dsv upv s'/\∃ g' t' L' LO',k t' L' g'.H=some out/\g'.s=s'/\FI b P0 g' t' L' tv' LO'/\Mv b g g') \/
 ∃ c tv' s',r=.panicked c tv' dsv upv s'/\∃ g' t' L' LO' c',kp c' t' L' g'.H=some out/\g'.s=s'/\FI b P0 g' t' L' tv' LO'/\Mv b g g'/\gM g' c' c
theorem Lw.trans{g':Gh}(m:Mv b g g'){k:T LD->LS->DH->ah}{kp:List fB->T LD->LS->DH->ah}{dsv:List eD}{upv:Option Md}{r:jL}(h:Lw b P0 g' k kp dsv upv out r):Lw b P0 g k kp dsv upv out r:=by
 rcases h with⟨tv',s',h0,g2,t',L',LO',h1,h2,h3,h4⟩|⟨c,tv',s',h0,g2,t',L',LO',c',h1,h2,h3,h4,h5⟩
 ·exact .inl ⟨tv',s',h0,g2,t',L',LO',h1,h2,h3,m.trans h4⟩
 ·exact .inr ⟨c,tv',s',h0,g2,t',L',LO',c',h1,h2,h3,m.trans h4,h5⟩
theorem FI.drop{g:Gh}{t:T LD}{L:LS}{tv:T V}{LO:List Nat}(h:FI b P0 g t L tv LO)(d:Tmp):FI b P0 g (t.setQ none (eQ d) id) L (Fa tv (some d)) LO:=by
 refine⟨h.ok,fun i x hx=>?_,h.own,h.pv,h.low,h.nd,h.bl⟩
 rw[T.setQ_eq]at hx
 simp only[Fa,T.setK_eq,id]at hx ⊢
 rw[T.get_setN]at hx ⊢
 split at hx
 ·cases hx
 ·rename_i e;rw[if_neg e];exact h.slots i x hx
theorem pJ(hrec:HV E.E rec){ops:Array Oper}{k:T LD->LS->DH->ah}{kp:List fB->T LD->LS->DH->ah}{dsv:List eD}{upv:Option Md}:∀ {sc:List (Option Nat×Nat)} {cs:List fC} {n:Nat} {bs:T Nat} {t:T LD} {L:LS} {g:Gh} {LO:List Nat} {tv:T V},
 gi E an ops rec k kp sc (cs.map hD) n bs t L g.H=some out->n=cs.length->FI b P0 g t L tv LO->iK b ⟨L,g,LO⟩ cs->qt cs bs t tv g LO ->
 ∃ r,gV E.E ops (bA (lim E.E)) dsv upv sc (cs.map fun c=>c.g.s) tv g.s=some r/\Lw b P0 g k kp dsv upv out r
 |[],cs,n,bs,t,L,g,LO,tv,e,hn,h,hh,hs=>⟨_,rfl,.inl ⟨tv,g.s,rfl,g,t,L,LO,e,rfl,h,.refl b g⟩⟩
 |(c,i)::sc,cs,n,bs,t,L,g,LO,tv,e,hn,h,hh,hs=>by
  simp only[gi]at e
  simp only[gV]
  split at e
  ·cases e
  ·rename_i o ho
   (try rw[ho])
   (try simp only)
   have on:∀ {t1:T LD} {x:LD} {v:V} {m:Nat} {L1:LS} {g1:Gh} {LO1:List Nat},FI b P0 g1 t1 L1 tv LO1->uB b ⟨L,g,LO⟩ ⟨L1,g1,LO1⟩->qt cs bs t1 tv g LO->RS g1 LO1 x v->(∀(p:Nat) c,cs[p]? = some c->m+p<cs.length->RS c.g c.LO x v) ->
    gi E an ops rec k kp sc (cs.map hD) n (Am bs o.dst m) (lO t1 o.dst x) L1 g1.H=some out ->
    ∃ r,gV E.E ops (bA (lim E.E)) dsv upv sc (cs.map fun c=>c.g.s) (putD tv o.dst v) g1.s=some r/\Lw b P0 g k kp dsv upv out r:=fun {t1 x v m L1 g1 LO1} h1 hx hs1 hr hm e1=>by
    have hs2:qt cs bs t1 tv g1 LO1:=qt.nxt (x:=⟨L,g,LO⟩) (y:=⟨L1,g1,LO1⟩) hx hs1
    obtain⟨r,k1,k2⟩:=pJ hrec e1 hn (h1.put o.dst hr) (hh.step hx) (hs2.put o.dst hr hm)
    exact⟨r,k1,k2.trans hx.1⟩
   have on2:∀ {t1:T LD} {x:LD} {v:V} {L1:LS} {g1:Gh} {LO1:List Nat} {m:Nat},FI b P0 g1 t1 L1 tv LO1->uB b ⟨L,g,LO⟩ ⟨L1,g1,LO1⟩->qt cs bs t1 tv g LO->RS g1 LO1 x v->(∀(p:Nat) c,(⟨L1,g1,LO1⟩::cs)[p]? = some c->m+p<cs.length+1->RS c.g c.LO x v) ->
    gi E an ops rec k kp sc ((L1,g1.H)::cs.map hD) (n+1) (Am bs o.dst m) (lO t1 o.dst x) L1 g1.H=some out ->
    ∃ r,gV E.E ops (bA (lim E.E)) dsv upv sc (g1.s::cs.map fun c=>c.g.s) (putD tv o.dst v) g1.s=some r/\Lw b P0 g k kp dsv upv out r:=fun {t1 x v L1 g1 LO1 m} h1 hx hs1 hr hm e1=>by
    have hs2:qt cs bs t1 tv g1 LO1:=qt.nxt (x:=⟨L,g,LO⟩) (y:=⟨L1,g1,LO1⟩) hx hs1
    have hs3:qt (⟨L1,g1,LO1⟩::cs) bs t1 tv g1 LO1:=qt.push (c:=⟨L1,g1,LO1⟩) hs2
    obtain⟨r,k1,k2⟩:=pJ hrec (cs:=⟨L1,g1,LO1⟩::cs) e1 (by simp[hn]) (h1.put o.dst hr) ⟨h1.cfg,.refl b _,hh.step hx⟩ (hs3.put o.dst hr hm)
    exact⟨r,k1,k2.trans hx.1⟩
   cases c with
   |some c =>
    simp only at e
    rcases vQ e h.slots with⟨hw,t1,e,hr⟩|⟨hw,t1,e,hr⟩
    ·have hs1:=hs.rf hr
     have h1:=h.sl hs1
     rw[hw]
     simp only[jv]
     cases hk:aF E.E.P o.op with
     |zero =>
      rw[hk]at e
      simp only[qa]at e
      cases hq:cuts an o with
      |true =>
       rw[hq]at e
       dsimp only at e
       obtain⟨t2,x,nx,e,k1,k2,k3⟩:=Cb o.op h1 e
       have hs2:=hs1.rf k2
       obtain⟨d,L',H',hx',e'⟩:=DA e
       subst hx'
       clear e
       obtain⟨v,s',rfl,g1,LO1,m1,m2,m3,m4,m5,m6⟩:=k3
       obtain rfl:=Oq hq k1
       have m3:=m3.rf k2
       rw[<- m1]at e'
       have e:=e'
       obtain⟨x',g2,j1,j2,j3,j4,j5,j6⟩:=eY m3 e m6
       rw[cu,fv]at j1
       have hx:uB b ⟨L,g,LO⟩ ⟨L',g2,LO1⟩:=uB.trans (y:=⟨L',g1,LO1⟩) ⟨m4,m5⟩ ⟨j4,.ps j2⟩
       grind [kV,dg,qA,cm]
      |false =>
      rw[hq]at e
      dsimp only at e
      obtain⟨t2,d,v,e,k1,k2,k3,k4⟩:=Hj hk h1.ok hh hs1 e
      have hs2:=hs1.rf k2
      have h2:=h1.sl hs2
      simp only[pH]at e
      obtain⟨x',g2,j1,j2,j3,j4,j5,j6⟩:=eY h2 e k3
      rw[cu,fv]at j1
      have hx:uB b ⟨L,g,LO⟩ ⟨L,g2,LO⟩:=⟨j4,.ps j2⟩
      grind [kV,dg,qA,cm]
     |succ q =>
      cases q with
      |zero =>
       have hns:∀ ty x lo hi mx,o.op≠.slice ty x lo hi mx:=fun _ _ _ _ _ q=>by rw[q]at hk;simp[aF]at hk
       rw[hk]at e
       simp only[qa]at e
       obtain⟨hc,e⟩:=aE e
       simp only[Bool.and_eq_true]at hc
       subst hn
       have hfl:∀ {κ:T LD->LD->ah},(match pu an o.dst with|true=>ww|false=>wx) E o ((cs.map hD).take c) t1 κ=some out->∃ t' d v,κ t' d=some out/\fu E.E tv o ((cs.map fun c=>c.g.s).take c)=some v/\Rf t1 t' tv/\RS g LO d v/\∀(p:Nat) c',cs[p]? = some c'->cs.length - c+p<cs.length->RS c'.g c'.LO d v:=fun {κ} e=>by
        cases hx:pu an o.dst
        ·rw[hx]at e
         exact Hi (by omega) hns hh hs1 (Nat.le_of_ble_eq_true hc.2) (Nat.le_of_ble_eq_true hc.1) e
        ·rw[hx]at e
         exact Hh (by omega) hns hh hs1 (Nat.le_of_ble_eq_true hc.2) (Nat.le_of_ble_eq_true hc.1) e
       obtain⟨t2,d,v,e,k1,k2,k3,k4⟩:=hfl e
       have hs2:=hs1.rf k2
       have h2:=h1.sl hs2
       obtain⟨x',g2,j1,j2,j3,j4,j5,j6⟩:=eY h2 e k3
       rw[cu,fv]at j1
       have hx:uB b ⟨L,g,LO⟩ ⟨L,g2,LO⟩:=⟨j4,.ps j2⟩
       grind [kV,qQ]
      |succ q =>
       cases q with
       |zero =>
        rw[hk]at e
        simp only[qa]at e
        obtain⟨t2,x,nx,e,k1,k2,k3⟩:=Cb o.op h1 e
        have hs2:=hs1.rf k2
        obtain⟨d,L',H',hx',e'⟩:=DA e
        subst hx'
        clear e
        obtain⟨v,s',rfl,g1,LO1,m1,m2,m3,m4,m5,m6⟩:=k3
        have m3:=m3.rf k2
        rw[<- m1]at e'
        have e:=e'
        obtain⟨x',g2,j1,j2,j3,j4,j5,j6⟩:=eY m3 e m6
        rw[cu,fv]at j1
        have hx:uB b ⟨L,g,LO⟩ ⟨L',g2,LO1⟩:=uB.trans (y:=⟨L',g1,LO1⟩) ⟨m4,m5⟩ ⟨j4,.ps j2⟩
        grind [kV,dg,uQ,cm]
       |succ q=>rw[hk]at e;simp only[qa]at e;cases e
    ·have hs1:=hs.rf hr
     have h1:=h.sl hs1
     rw[hw]
     simp only[jv]
     rw[cu,fv]at e
     exact on h1 (.refl b _) hs1 RS.u (fun p c _ _=>rfl) e
   |none =>
    simp only at e
    rcases vQ e h.slots with⟨hw,t1,e,hr⟩|⟨hw,t1,e,hr⟩
    ·have hs1:=hs.rf hr
     have h1:=h.sl hs1
     rw[hw]
     obtain⟨t2,x,nx,e,k1,k2,k3⟩:=Cb o.op h1 e
     have hs2:=hs1.rf k2
     have h2:=h1.sl hs2
     simp only[gB,dg,k1]
     have born:∀ {L1:LS} {g1:Gh} {LO1:List Nat} {x:LD} {v:V},RS g1 LO1 x v->∀(p:Nat) c,(⟨L1,g1,LO1⟩::cs)[p]? = some c->n+p<cs.length+1->RS c.g c.LO x v:=fun {L1 g1 LO1 x v} hr p c hc hp=>by
      grind
     cases x with
     |val d L' H' =>
      obtain⟨v,s',rfl,g1,LO1,m1,m2,m3,m4,m5,m6⟩:=k3
      have m3:=m3.rf k2
      simp only[CO,<- m1]at e
      obtain⟨x',g2,j1,j2,j3,j4,j5,j6⟩:=eY m3 e m6
      rw[cu,fv]at j1
      have hx:uB b ⟨L,g,LO⟩ ⟨L',g2,LO1⟩:=uB.trans (y:=⟨L',g1,LO1⟩) ⟨m4,m5⟩ ⟨j4,.ps j2⟩
      have:=on2 j3 hx hs2 j5 (born j5) j1
      rw[j2,m2]at this
      have hnx:Nat.ble g.s.next s'.next=true:=Nat.ble_eq_true_of_le (by rw[<- m2];exact m4.le.next)
      obtain⟨r,a1,a2⟩:=this
      exact⟨r,by simp only[jy,hnx,cond_true];exact a1,a2⟩
     |skip L' H' =>
      obtain⟨s',rfl,g1,LO1,m1,m2,m3,m4,m5,_⟩:=k3
      have m3:=m3.rf k2
      simp only[CO,<- m1]at e
      obtain⟨x',g2,j1,j2,j3,j4,j5,j6⟩:=eY (x:=.u) (v:=V.undef) m3 e RS.u
      rw[cu,fv]at j1
      have hx:uB b ⟨L,g,LO⟩ ⟨L',g2,LO1⟩:=uB.trans (y:=⟨L',g1,LO1⟩) ⟨m4,m5⟩ ⟨j4,.ps j2⟩
      have:=on2 j3 hx hs2 j5 (born j5) j1
      rw[j2,m2]at this
      have hnx:Nat.ble g.s.next s'.next=true:=Nat.ble_eq_true_of_le (by rw[<- m2];exact m4.le.next)
      obtain⟨r,a1,a2⟩:=this
      exact⟨r,by simp only[jy,hnx,cond_true];exact a1,a2⟩
     |enter f args L' H' =>
      obtain⟨vs,rfl,rfl,rfl,q1,_⟩:=k3
      simp only[CO]at e
      obtain⟨oc,hoc,e⟩:=lh e
      obtain⟨vout,m1,m2⟩:=hrec.c f args none g.H oc hoc g rfl h2.ok vs none q1 rfl
      have hkeep:=m2
      obtain⟨g1,n1,n2,n3,n4,n5,_,hpv⟩:=lg h2 m2
      obtain⟨ve,vu,vs'⟩:=vout
      simp only at n2 n5
      rcases e with⟨d,hd1,e⟩|⟨c,hd1,e⟩
      ·rw[hd1]at n5
       obtain⟨v,rfl,n6⟩:=n5
       rw[<- n1]at e
       obtain⟨x',g2,j1,j2,j3,j4,j5,_⟩:=eY (x:=.g d) n3 e n6
       rw[cu,fv]at j1
       have hx:uB b ⟨L',g,LO⟩ ⟨L',g2,LO⟩:=uB.trans (y:=⟨L',g1,LO⟩) ⟨n4,hpv⟩ ⟨j4,.ps j2⟩
       have:=on2 j3 hx hs2 j5 (born j5) j1
       rw[j2,n2]at this
       have hnx:Nat.ble g.s.next vs'.next=true:=Nat.ble_eq_true_of_le (by rw[<- n2];exact n4.le.next)
       obtain⟨r,a1,a2⟩:=this
       have m1':bA (lim E.E) f vs none g.s=some ⟨.returned v,vu,vs'⟩:=m1
       exact⟨r,by simp only[jy,m1',me,hnx,cond_true];exact a1,a2⟩
      ·rw[hd1]at n5
       obtain⟨c',rfl,n6⟩:=n5
       have m1':bA (lim E.E) f vs none g.s=some ⟨.panicked c',vu,vs'⟩:=m1
       cases sc with
       |cons x sc=>cases e
       |nil =>
        simp only[jy,m1',me]
        refine⟨_,rfl,.inr ⟨c',_,vs',rfl,g1,?_⟩⟩
        rw[<- n1]at e
        simp only at e
        split at e
        rotate_left
        ·cases e
        cases ho2:o.dst with
        |some d =>
         rw[ho2]at e
         simp only[Js,T.setQ_eq]at e
         have:=n3.drop d
         rw[T.setQ_eq]at this
         exact⟨_,_,_,c,e,n2,this,n4,n6⟩
        |none =>
         rw[ho2]at e
         exact⟨_,_,_,c,e,n2,n3,n4,n6⟩
     |defer _ _ _=>simp only[CO]at e;cases e
     |recover _ _=>simp only[CO]at e;cases e
     |panic _ _ _=>simp only[CO]at e;cases e
     |round _ _ _ _=>simp only[CO]at e;cases e
    ·have hs1:=hs.rf hr
     have h1:=h.sl hs1
     rw[hw]
     rw[cu,fv]at e
     have:=on2 h1 (.refl b _) hs1 (x:=.u) (v:=V.undef) RS.u (fun p c _ _=>rfl) e
     obtain⟨r,a1,a2⟩:=this
     exact⟨r,by simp only[gB,Nat.ble_eq_true_of_le (Nat.le_refl _),cond_true];exact a1,a2⟩
end Go.AI
namespace Go.AI
variable[fE]
variable{b:Nat}{P0:List Nat}{g:Gh}{LO:List Nat}{t:T LD}{L:LS}{tv:T V}{out:iC}{E:cF}{an:ii}{rec:oZ}
structure OW(E:cF):Prop where
 no:∀ f,E.vo f=false->∀ vs s,E.E.orc f vs s=none
 yes:∀ f args H d H',E.orc f args H=some (d,H')->∀ g:Gh,g.H=H->Ok g->∀ vs,RL g args vs->∃ vout,lim E.E (.call f vs none) g.s=some vout/\jb g.s.next g.Pv g ⟨.ret d,none,H'⟩ vout
def LK(E:cF)(f:FuncId)(fn:Func)(go:sC):Prop:=∀ t L todo ds m up H out,go t L todo ds m up H=some out->∀ b P0 (g:Gh) tv LO dsv mv upv rdv,g.H=H->FI b P0 g t L tv LO->FX g ds dsv->LJ g m mv->qp g up upv rdv ->
 ∃ vout,lim E.E (.frame f fn tv todo dsv mv upv rdv) g.s=some vout/\jb b P0 g out vout
structure Dr(E:cF)(R:be):Prop where
 call:HV E.E (wv R)
 frame:∀ f fn,LK E f fn (LC R f fn)
theorem jb.trans{g':Gh}{vout:fc}(m:Mv b g g')(h:jb b P0 g' out vout):jb b P0 g out vout:=by
 obtain⟨g2,h1,h2,h3,h4,h5,h6⟩:=h
 exact⟨g2,h1,h2,h3,h4,m.trans h5,h6⟩
theorem wg:∀ {l:List Nat} {κ:List LD->ah},wh t l κ=some out->∃ xs,κ xs=some out/\xs.length=l.length/\∀(k:Nat) i,l[k]? = some i->xs[k]? = t.get (eQ i)
 |[],κ,h=>⟨[],h,rfl,fun k i hk=>by simp at hk⟩
 |j::r,κ,h=>by
  simp only[wh]at h
  unfold lD at h
  split at h
  ·rename_i x hx
   obtain⟨xs,h1,h2,h3⟩:=wg h
   grind
  ·cases h
theorem Ja:∀ {l:List Nat} {xs:List LD} {u:T LD} {i:Nat} {x:LD},(RP l xs u).get (eQ i)=some x->(∃(k:Nat),l[k]? = some i/\xs[k]? = some x)\/u.get (eQ i)=some x
 |[],xs,u,i,x,h=>by cases xs<;>exact .inr h
 |j::r,[],u,i,x,h=>.inr h
 |j::r,y::xs,u,i,x,h=>by
  simp only[RP]at h
  rcases Ja h with⟨k,h1,h2⟩|h
  ·exact .inl ⟨k+1,by simpa using h1,by simpa using h2⟩
  ·rw[T.setQ_eq,id,T.get_setN]at h
   split at h
   ·rename_i e;cases h;exact .inl ⟨0,by simp[e],rfl⟩
   grind
theorem Es{ks:List Nat}:∀ {L:LS} {i k:Nat} {x:Nat×List D},(rB ks i L)[k]? = some x->∃ st cs,L[k]? = some (st,cs)/\(x.2=[]\/x.2=cs)
 |[],i,k,x,h=>by simp[rB]at h
 |(st,cs)::r,i,0,x,h=>by
  grind [rB]
 |(st,cs)::r,i,k+1,x,h=>by
  simp only[rB,List.getElem?_cons_succ]at h
  obtain⟨s2,c2,h1,h2⟩:=Es h
  grind
theorem AJ{ks:List Nat}:∀ {L:LS} {i:Nat},(rB ks i L).length=L.length
 |[],_=>rfl
 |(_,_)::r,i=>by simp[rB,AJ (L:=r)]
def Gh.pvd(g:Gh)(P0:List Nat):Gh:=⟨g.O,g.H,P0,g.s⟩
theorem Cq(hs:∀ f∈P0,f∈g.Pv):mP g (g.pvd P0):=⟨Nat.le_refl _,fun _ _ v h=>⟨v,h⟩,fun _ _ st cap l h=>.inr ⟨st,cap,l,h,Nat.le_refl _,id,fun _=>⟨rfl,rfl⟩⟩,fun _ _ s l h=>⟨s,l,h,Nat.le_refl _,fun _=>⟨rfl,rfl⟩⟩,fun _ h=>⟨h.1,fun hm=>h.2.1 (hs _ hm),h.2.2⟩,fun _ _ _ _ h=>h,Nat.le_refl _⟩
theorem Ek{n:Nat}:∀ {xs:List LD} {i k c:Nat},Az n xs=true->xs[i]? = some (.lp k c)->k<n
 |x::r,0,k,c,h,hi=>by
  simp_all[Az,Bool.and_eq_true,ez]
 |x::r,i+1,k,c,h,hi=>by
  simp only[Az,Bool.and_eq_true]at h
  exact Ek h.2 (i:=i) (by simpa using hi)
 |[],i,k,c,h,hi=>by simp at hi
theorem Ok.pvd(h:Ok g)(hs:∀ f∈P0,f∈g.Pv):Ok (g.pvd P0):=⟨h.len,h.wf,h.inj,fun o f v ho=>⟨(h.lt o f v ho).1,fun hm=>(h.lt o f v ho).2 (hs f hm)⟩,fun f hf=>h.pv f (hs f hf),fun o x hx=>(h.obj o x hx).keep (Cq hs) rfl fun _ _ _=>rfl,h.gl.to fun f h1 hp ho=>⟨rfl,h1,fun hm=>hp (hs f hm),ho⟩⟩
theorem Mv.pvd(hs:∀ f∈P0,f∈g.Pv):Mv b g (g.pvd P0):=⟨Cq hs,fun _ _ _=>rfl,fun _ _ v h _=>⟨v,h⟩,fun _ s1 c1 _ _ h _=>⟨s1,c1,h,Nat.le_refl _,fun _=>⟨rfl,rfl⟩⟩⟩
theorem KW{f:FuncId}{fn:Func}{ih go:sC}(h1:LK E f fn ih)(h2:LK E f fn go):LK E f fn (Fk an ih go):=by
 intro t L todo ds m up H out e b P0 g tv LO dsv mv upv rdv hH hf hd hm hu
 have hgo:go t L todo ds m up H=some out->∃ vout,lim E.E (.frame f fn tv todo dsv mv upv rdv) g.s=some vout/\jb b P0 g out vout:=fun e=>h2 _ _ _ _ _ _ _ _ e b P0 g tv LO dsv mv upv rdv hH hf hd hm hu
 unfold Fk at e
 split at e
 ·split at e
  ·rename_i live ks _
   obtain⟨xs,e,_,hx⟩:=wg e
   cases hlp:Az (nJ ks) xs with
   |false=>rw[hlp]at e;cases e
   |true =>
   rw[hlp]at e
   dsimp only at e
   have hs:∀ f∈P0++LO.take (nJ ks),f∈g.Pv:=fun f hf'=>by
    rw[hf.pv]
    grind
   have hle:=Cq (g:=g) hs
   have hfi:FI b P0 (g.pvd (P0++LO.take (nJ ks))) (RP live xs .leaf) (rB ks 0 (L.take (nJ ks))) tv (LO.take (nJ ks)):=by
    refine⟨hf.ok.pvd hs,fun i x hi=>?_,⟨by rw[AJ,List.length_take,List.length_take,hf.own.1],fun k x f' hk hf'=>?_⟩,rfl,fun f hf'=>hf.low f (List.mem_of_mem_take hf'),hf.nd.sublist (List.take_sublist _ _),hf.bl⟩
    ·rcases Ja hi with⟨k,q1,q2⟩|q
     ·have q3:=q2
      rw[hx k i q1]at q2
      obtain⟨v,q4,q5⟩:=hf.slots i x q2
      refine⟨v,q4,?_⟩
      cases x with
      |g d=>exact RD.mono hle q5
      |lp k' c =>
       obtain⟨f,q6,q7⟩:=q5
       exact⟨f,by rw[List.getElem?_take_of_lt (Ek hlp q3)];exact q6,q7⟩
      |u=>exact q5
     grind [T.get_leaf]
    ·obtain⟨st,cs,q1,q2⟩:=Es hk
     have hlt:k<nJ ks:=by
      grind
     rw[List.getElem?_take_of_lt hlt]at q1
     have hf2:=hf'
     rw[List.getElem?_take_of_lt hlt]at hf2
     obtain⟨q3,q4⟩:=hf.own.2 k _ f' q1 hf2
     refine⟨List.mem_append_right _ (List.mem_of_getElem? hf'),?_⟩
     rcases q2 with q2|q2
     ·exact .inl q2
     ·rw[q2]
      rcases q4 with q4|⟨el,vs,w1,w2,w3⟩
      ·exact .inl q4
      ·exact .inr ⟨el,vs,w1,w2.mono hle,w3⟩
   obtain⟨vout,k1,k2⟩:=h1 _ _ _ _ _ _ _ _ e b P0 (g.pvd (P0++LO.take (nJ ks))) tv _ dsv mv upv rdv hH hfi (hd.mono hle) (hm.mono hle) (hu.mono hle)
   exact⟨vout,k1,k2.trans (Mv.pvd hs)⟩
  ·exact hgo e
 ·exact hgo e
theorem PQ{up:Option eU}{upv:Option Md}{rdv:Option Nat}(h:qp g up upv rdv):Lu g (Nc up) upv:=by
 unfold qp at h
 unfold Nc
 split
 ·simp only at h;exact h.1
 grind
theorem FI.leave(h:FI b P0 g t L tv LO){e:Pb}{ve:WK}{up:Option eU}{upv:Option Md}(he:UV g e ve)(hu:Lu g up upv):jb b P0 g ⟨e,up,g.H⟩ ⟨ve,upv,g.s⟩:=by
 have hs:∀ f∈P0,f∈g.Pv:=fun f hf=>by rw[h.pv];exact List.mem_append_left _ hf
 have hle:=Cq (g:=g) hs
 refine⟨g.pvd P0,rfl,rfl,rfl,h.ok.pvd hs,Mv.pvd hs,?_,hu.mono hle⟩
 cases e with
 |ret d=>obtain⟨v,h1,h2⟩:=he;exact⟨v,h1,h2.mono hle⟩
 |pan c=>obtain⟨c',h1,h2⟩:=he;exact⟨c',h1,h2.mono hle⟩
theorem mZ{P:Program}(h:FI b P0 g t L tv LO):∀ {l:List ResultVar} {κ:List D->ah},nf P t L g.H l κ=some out->∃ ds vs,κ ds=some out/\jQ P tv g.s l=some vs/\RL g ds vs
 |[],κ,e=>⟨[],[],e,rfl,by simp only[RL]⟩
 |x::r,κ,e=>by
  simp only[nf]at e
  cases x with
  |tmp i =>
   simp only at e
   unfold gD at e
   split at e
   ·rename_i d hd
    obtain⟨v,h1,h2⟩:=h.slots i _ hd
    have h2:RD g d v:=h2
    obtain⟨ds,vs,k1,k2,k3⟩:=mZ h e
    grind [only,jQ,oC,RL]
   ·cases e
  |cell a ty =>
   simp only at e
   unfold lD at e
   split at e
   ·rename_i y hy
    obtain⟨w,h1,h2⟩:=h.slots a _ hy
    obtain⟨d,v,e,k1,k2⟩:=El e (dV.refl g) h.ok h.own.2 h2
    obtain⟨ds,vs,j1,j2,j3⟩:=mZ h e
    grind [only,RL,iI,Option.some.inj,bv,jQ,oC]
   ·cases e
theorem IB:∀ {l:List (Nat×Nat×Hk)} {g:Gh} {ds:List D} {vs:List V} {κ:List D->DH->ah},FI b P0 g t L tv LO->PH l ds g.H κ=some out->RL g ds vs->∃ ds' g',κ ds' g'.H=some out/\g'.s=g.s/\FI b P0 g' t L tv LO/\Mv b g g'/\RL g' ds' vs
 |[],g,ds,vs,κ,h,e,r=>⟨ds,g,e,rfl,h,.refl b g,r⟩
 |(i,c,k)::l,g,ds,vs,κ,h,e,r=>by
  simp only[PH]at e
  obtain⟨d,hd,e⟩:=iY e
  obtain⟨v,hv,h1⟩:=r.at hd
  obtain⟨d',g',k1,k2,k3,k4,k5⟩:=xA h e h1
  have hr:RL g' (ds.set i d') vs:=by
   have:=(r.mono k4.le).set i k5
   grind [kE]
  obtain⟨ds2,g2,j1,j2,j3,j4,j5⟩:=IB k3 k1 hr
  exact⟨ds2,g2,j1,j2.trans k2,j3,k4.trans j4,j5⟩
theorem SV{ds:List D}{vs:List V}(r:RL g ds vs):RD g (Nf ds) (wH vs):=by
 cases ds with
 |nil=>simp only[RL]at r;subst r;simp only[Nf,wH,RD];exact⟨[],rfl,by simp only[RL]⟩
 |cons d ds =>
  have r0:=r
  simp only[RL]at r
  obtain⟨v,vs',rfl,h1,h2⟩:=r
  cases ds with
  |nil=>simp only[RL]at h2;subst h2;exact h1
  |cons d2 ds =>
   simp only[RL]at h2
   obtain⟨v2,vs2,rfl,_,_⟩:=h2
   grind [Nf,wH,RD]
def uX:eU->eU
 |.panicking (⟨_,true⟩::_)=>.returning
 |m=>m
def Ca(m:eU)(c:List fB):eU:=match m with
 |.panicking old=>.panicking (c++old)
 |_=>.panicking c
theorem MA{m:eU}{m':Md}(h:LJ g m m'):LJ g (uX m) (iN m'):=by
 cases m with
 |run=>cases h;rfl
 |returning=>cases h;rfl
 |round _=>exact h.elim
 |panicking c =>
  obtain⟨c',rfl,h1⟩:=h
  cases c with
  |nil=>cases h1;exact⟨[],rfl,rfl⟩
  |cons x xs =>
   obtain⟨y,c2,rfl,h2,h3,h4⟩:=h1
   obtain⟨xv,xr⟩:=x
   obtain⟨yv,yr⟩:=y
   simp only at h3
   subst h3
   cases xr with
   |true=>rfl
   |false=>exact⟨_,rfl,⟨yv,false⟩,c2,rfl,h2,rfl,h4⟩
theorem gM.app:∀ {a:List fB} {a':List Du} {c:List fB} {c':List Du},gM g a a'->gM g c c'->gM g (a++c) (a'++c')
 |[],_,c,c',h,k=>by cases h;exact k
 |x::r,_,c,c',h,k=>by
  obtain⟨y,r',rfl,h1,h2,h3⟩:=h
  exact⟨y,r'++c',rfl,h1,h2,h3.app k⟩
theorem MT{m:eU}{m':Md}{c:List fB}{c':List Du}(h:LJ g m m')(k:gM g c c'):LJ g (Ca m c) (qS m' c'):=by
 cases m with
 |run=>cases h;exact⟨c',rfl,k⟩
 |returning=>cases h;exact⟨c',rfl,k⟩
 |round _=>exact h.elim
 |panicking old =>
  obtain⟨o',rfl,h1⟩:=h
  exact⟨c'++o',rfl,k.app h1⟩
theorem Tm{m:eU}{m':Md}(h:LJ g m m'):m=.run↔m'=.run:=by
 cases m with
 |run=>cases h;exact⟨fun _=>rfl,fun _=>rfl⟩
 |returning=>cases h;exact⟨(fun q=>by cases q),(fun q=>by cases q)⟩
 |panicking c=>obtain⟨c',rfl,_⟩:=h;exact⟨(fun q=>by cases q),(fun q=>by cases q)⟩
 |round _=>exact h.elim
end Go.AI
namespace Go.AI
variable[fE]
variable{b:Nat}{P0:List Nat}{g:Gh}{LO:List Nat}{t:T LD}{L:LS}{tv:T V}{out:iC}{E:cF}{an:ii}{rec:oZ}
section frame
variable{f:FuncId}{fn:Func}{go:sC}
theorem NW{j:sx}{s:S}{o:Option fc}(h:fe E.E (lim E.E) j s=o):lim E.E j s=o:=(NB E.E j s).trans h
def HX(x:DB):Prop:=(∀ sz st cap l,x≠.buf sz st cap l)/\(∀ st cs,x≠.cells st cs)/\∀ sz s l,x≠.tbuf sz s l
theorem pN{o f ver:Nat}{x0 x:DB}{B0 B:dS}(ho:g.O[o]? = some (some (f,ver)))(hx:g.H[o]? = some x0)(hn:HX x0)(h0:g.s.get f=some B0):tW g o x f ver ver x0 B0 B :=
 ⟨ho,hx,h0,⟨(fun _ _ _ _ q=>(hn.1 _ _ _ _ q).elim),fun _ _ _ q=>(hn.2.2 _ _ _ q).elim⟩,(fun a n vs hi q _=>by
  obtain⟨sz,cap,l,k⟩:=hi.2.2 o ver (by rw[q];exact ho)
  rw[hx]at k;exact(hn.1 _ _ _ _ (Option.some.inj k)).elim),(fun _ _ q=>(hn.2.1 _ _ q).elim)⟩
theorem wD{r:Bool}{f nt:Nat}{t:T LD}{ps:Array Tmp}{a b:Code}:HX (.loop r f nt t ps a b):=⟨(fun _ _ _ _ q=>by cases q),(fun _ _ q=>by cases q),(fun _ _ _ q=>by cases q)⟩
theorem GI:HX .coll:=⟨(fun _ _ _ _ q=>by cases q),(fun _ _ q=>by cases q),(fun _ _ _ q=>by cases q)⟩
theorem wX(hf:FI b P0 g t L tv LO){o l v:Nat}{r:Bool}{f0 nt:Nat}{t0:T LD}{ps:Array Tmp}{a b':Code}(ho:g.O[o]? = some (some (l,v)))(hH:g.H[o]? = some (.loop r f0 nt t0 ps a b')) :
 ∃ tv0 d,g.s.get l=some (.loop (bif r then .ready else .busy) none f0 tv0 ps a b' d nt)/\∀ r2:Bool,∃ g',g'.H=g.H.set o (.loop r2 f0 nt t0 ps a b')/\g'.s=g.s.put l (.loop (bif r2 then .ready else .busy) none f0 tv0 ps a b' d nt)/\FI b P0 g' t L tv LO/\Mv b g g':=by
 obtain⟨fb,tv0,d,h1,h2,h3⟩:=hf.ok.obj o _ hH
 rw[ho]at h1;cases h1
 refine⟨tv0,d,h2,fun r2=>?_⟩
 have c:tW g o (.loop r2 f0 nt t0 ps a b') l 0 0 (.loop r f0 nt t0 ps a b') _ (.loop (bif r2 then .ready else .busy) none f0 tv0 ps a b' d nt):=pN ho hH wD h2
 exact⟨_,rfl,rfl,hf.oput c ⟨l,tv0,d,aZ ho,dI,h3.mono (kg hf.ok c) List.prefix_rfl⟩,iQ hf.ok c⟩
theorem AG(hgo:LK E f fn go){ds:List qo}{up:Option eU}{c:Option Code}(e:xj go t L ds up g.H c=some out)(hf:FI b P0 g t L tv LO){dsv:List eD}{upv:Option Md}{rdv:Option Nat}(hd:FX g ds dsv)(hu:qp g up upv rdv) :
 ∃ vout,lS (gb (lim E.E) f fn) tv dsv upv rdv g.s c=some vout/\jb b P0 g out vout:=by
 unfold xj at e
 split at e
 ·split at e
  ·rename_i o
   obtain⟨rfl,l,v,rfl,ho⟩:=hu
   unfold wt at e
   split at e
   ·rename_i hH
    cases e
    obtain⟨tv0,d,h2,h3⟩:=wX hf ho hH
    obtain⟨g',k1,k2,k3,k4⟩:=h3 true
    have:=k3.leave (e:=.ret (.bool true)) (ve:=.returned (.bool true)) (up:=none) (upv:=none) ⟨_,rfl,by simp only[RD]⟩ rfl
    rw[k1]at this
    refine⟨_,?_,this.trans k4⟩
    simp only[lS,h2,k2];rfl
   ·cases e
  ·rename_i hn
   have hq:=hu.nr (fun o q=>hn o q)
   clear hu
   obtain⟨rfl,hu⟩:=hq
   exact hgo _ _ _ _ _ _ _ _ e b P0 g tv LO dsv .returning upv none rfl hf hd rfl (qp.mk (fun o q=>hn o q) hu)
 ·obtain⟨hn,e⟩:=lR e
  have hq:=hu.nr hn
  clear hu
  obtain⟨rfl,hu⟩:=hq
  exact hgo _ _ _ _ _ _ _ _ e b P0 g tv LO dsv .returning upv none rfl hf hd rfl (qp.mk hn hu)
 ·cases e
theorem Eu(hgo:LK E f fn go){ds:List qo}{up:Option eU}{k:Option (List Item)}(c:Code)(e:AK go t L ds up g.H k=some out)(hf:FI b P0 g t L tv LO){dsv:List eD}{upv:Option Md}{rdv:Option Nat}(hd:FX g ds dsv)(hu:qp g up upv rdv) :
 ∃ vout,pV (gb (lim E.E) f fn) tv dsv upv rdv g.s c k=some vout/\jb b P0 g out vout:=by
 unfold AK at e
 split at e
 ·exact hgo _ _ _ _ _ _ _ _ e b P0 g tv LO dsv .run upv rdv rfl hf hd rfl hu
 ·cases e
theorem Ki(hgo:LK E f fn go)(hrec:HV E.E rec){k:List Item}{ds:List qo}{up:Option eU}{ps:Array Tmp}{a b':Code}{d:D}{v:V}(e:BY f fn.ntmps go rec k t L ds up g.H ps a b' d=some out)(hf:FI b P0 g t L tv LO){dsv:List eD}{upv:Option Md}{rdv:Option Nat}(hd:FX g ds dsv)(hu:qp g up upv rdv)(h2:RD g d v) :
 ∃ vout,fV f fn.ntmps (gb (lim E.E) f fn) (bA (lim E.E)) k tv dsv upv rdv g.s ps a b' (some v)=some vout/\jb b P0 g out vout:=by
 unfold BY KH at e
 split at e
 ·split at e
  ·rename_i gf first cap
   obtain⟨hn,e⟩:=lR e
   obtain⟨rfl,hu0⟩:=hu.nr hn
   simp only[RD]at h2
   obtain⟨a',c',rfl,j1,j2⟩:=h2
   have hLO:LO=[]:=List.eq_nil_of_length_eq_zero (by rw[<- hf.own.1];rfl)
   subst hLO
   have f1:=hf.mkobj (x:=.coll) (B:=.deferred) ⟨g.s.next,mA hf.ok _ _,re _ _⟩
   have v1:=nD hf.ok hf.bl .coll .deferred
   have o1:(g.obj .coll .deferred).O[g.H.length]? = some (some (g.s.next,0)):=mA hf.ok _ _
   have hH1:(g.obj .coll .deferred).H=g.H++[.coll]:=rfl
   have hs1:(g.obj .coll .deferred).s=g.s.alloc .deferred:=rfl
   generalize g.obj .coll .deferred=g1 at f1 v1 o1 hH1 hs1
   have f2:=f1.mkobj (x:=.loop true f fn.ntmps t ps a b') (B:=.loop .ready none f tv ps a b' g.s.next fn.ntmps) ⟨g1.s.next,tv,g.s.next,mA f1.ok _ _,re _ _,f1.slots.mono (xk f1.ok.len _ _) List.prefix_rfl⟩
   have v2:=nD f1.ok f1.bl (.loop true f fn.ntmps t ps a b') (.loop .ready none f tv ps a b' g.s.next fn.ntmps)
   have o2:=mA f1.ok (.loop true f fn.ntmps t ps a b') (.loop .ready none f tv ps a b' g.s.next fn.ntmps)
   have hH2:(g1.obj (.loop true f fn.ntmps t ps a b') (.loop .ready none f tv ps a b' g.s.next fn.ntmps)).H=g.H++[.coll,.loop true f fn.ntmps t ps a b']:=by simp[Gh.obj,hH1]
   have hs2:(g1.obj (.loop true f fn.ntmps t ps a b') (.loop .ready none f tv ps a b' g.s.next fn.ntmps)).s=(g.s.alloc .deferred).alloc (.loop .ready none f tv ps a b' g.s.next fn.ntmps):=by rw[<- hs1];rfl
   have hl1:g1.H.length=g.H.length+1:=by rw[hH1];simp
   rw[hl1]at o2
   generalize g1.obj (.loop true f fn.ntmps t ps a b') (.loop .ready none f tv ps a b' g.s.next fn.ntmps)=g2 at f2 v2 o2 hH2 hs2
   have v12:=v1.trans v2
   obtain⟨oc,hoc,e⟩:=lh e
   obtain⟨vout,m1,m2⟩:=hrec.c gf _ none _ oc hoc g2 hH2 f2.ok (a'++(.func (.yield g1.s.next) [] []::c')) none
    ((j1.mono v12.le).append (by simp only[RL];exact⟨_,_,rfl,by simp only[RD];exact⟨_,_,o2,rfl⟩,j2.mono v12.le⟩)) rfl
   obtain⟨g3,n1,n2,n3,n4,n5,n6,_⟩:=lg f2 m2
   have v13:=v12.trans n4
   obtain⟨w,q1⟩:=(v2.trans n4).le.o1 _ _ _ o1
   obtain⟨w2,q2⟩:=n4.le.o1 _ _ _ o2
   have hm1:bA (lim E.E) gf (a'++([.func (.yield (g.s.alloc .deferred).next) [] []]++c')) none ((g.s.alloc .deferred).alloc (.loop .ready none f tv ps a b' g.s.next fn.ntmps))=some vout:=by
    rw[<- hs2,<- hs1];exact m1
   obtain⟨ve,vu,vs'⟩:=vout
   simp only at n2 n5
   rcases e with⟨d,hd1,e⟩|⟨c,hd1,e⟩
   ·rw[hd1]at n5
    obtain⟨v,rfl,_⟩:=n5
    unfold AA at e
    split at e
    ·rename_i f0 nt0 t0 ps0 a0 b0 hl
     rw[<- n1]at hl e
     obtain⟨tv0,d0,k2,_⟩:=wX n3 q2 hl
     have c:tW g3 (g.H.length+1) .opq g1.s.next w2 w2 _ _ (.loop .exhausted none f0 tv0 ps0 a0 b0 d0 nt0):=pN q2 hl wD k2
     have f4:=n3.oput c ⟨_,_,aZ q2⟩
     have v4:=iQ (b:=b) n3.ok c
     obtain⟨w3,q3⟩:=v4.le.o1 _ _ _ q1
     obtain⟨vout,r1,r2⟩:=hgo _ _ _ _ _ _ _ _ e b P0 _ tv [] (.collected g.s.next::dsv) .run upv none rfl f4 ⟨_,w3,dsv,rfl,q3,hd.mono (v13.trans v4).le⟩ rfl (qp.mk hn (hu0.mono (v13.trans v4).le))
     refine⟨vout,?_,r2.trans (v13.trans v4)⟩
     simp only[fV,hm1,jS]
     have k3:vs'.get (g.s.alloc .deferred).next=some (.loop .ready none f0 tv0 ps0 a0 b0 d0 nt0):=by rw[<- n2,<- hs1];exact k2
     simp only[k3,rp,Option.map,Option.toList,List.nil_append]
     rw[<- n2,<- hs1];exact r1
    ·cases e
   ·rw[hd1]at n5
    obtain⟨c',rfl,n7⟩:=n5
    rw[<- n1]at e
    obtain⟨vout,r1,r2⟩:=hgo _ _ _ _ _ _ _ _ e b P0 g3 tv [] (.collected g.s.next::dsv) (.panicking c') upv none rfl n3 ⟨_,w,dsv,rfl,q1,hd.mono v13.le⟩ ⟨c',rfl,n7⟩ (qp.mk hn (hu0.mono v13.le))
    refine⟨vout,?_,r2.trans v13⟩
    simp only[fV,hm1,jS]
    rw[<- n2];exact r1
  ·cases e
 ·cases e
theorem yu{ds:List qo}{up:Option eU}{r:ah}(h:qk go t L ds up r=some out):∃ u H,(∃ d,r=some ⟨.ret d,some u,H⟩/\u≠.run/\go t L [] ds (uX u) up H=some out)\/∃ c,r=some ⟨.pan c,some u,H⟩/\go t L [] ds (Ca u c) up H=some out:=by
 unfold qk HA at h
 split at h
 ·rename_i d u H
  split at h
  ·exact⟨_,_,.inl ⟨d,rfl,(fun q=>by cases q),h⟩⟩
  ·rename_i c
   unfold GF at h
   split at h
   ·exact⟨_,_,.inl ⟨d,rfl,(fun q=>by cases q),h⟩⟩
   ·rename_i hn
    refine⟨_,_,.inl ⟨d,rfl,(fun q=>by cases q),?_⟩⟩
    simp_all[uX]
  ·cases h
 ·rename_i c u H
  split at h
  ·exact⟨_,_,.inr ⟨c,rfl,h⟩⟩
  ·exact⟨_,_,.inr ⟨c,rfl,h⟩⟩
  ·cases h
 ·cases h
theorem Ou(hgo:LK E f fn go)(hrec:HV E.E rec):∀ {c:Code} {k:List Item} {t:T LD} {L:LS} {ds:List qo} {up:Option eU},lc c E an f fn go rec k t L ds up g.H=some out->∀ {tv:T V} {LO:List Nat} {dsv:List eD} {upv:Option Md} {rdv:Option Nat},FI b P0 g t L tv LO->FX g ds dsv->qp g up upv rdv ->
 ∃ vout,cx c E.E f fn (gb (lim E.E) f fn) (bA (lim E.E)) (eg (lim E.E)) k tv dsv upv rdv g.s=some vout/\jb b P0 g out vout:=by
 intro c k t L ds up e tv LO dsv upv rdv hf hd hu
 have on:∀ {todo:List Item},go t L todo ds .run up g.H=some out->∃ vout,gb (lim E.E) f fn tv todo dsv .run upv rdv g.s=some vout/\jb b P0 g out vout:=fun e=>hgo _ _ _ _ _ _ _ _ e b P0 g tv LO dsv .run upv rdv rfl hf hd rfl hu
 cases c with
 |ret=>exact AG (c:=some .ret) hgo e hf hd hu
 |skip=>exact on e
 |label _=>exact on e
 |seq _ _=>exact on e
 |block _ _=>exact on e
 |loop _=>exact on e
 |scope _=>exact on e
 |exit id=>exact Eu hgo (.exit id) e hf hd hu
 |goto l=>exact Eu hgo (.goto l) e hf hd hu
 |cond c x y =>
  simp only[lc]at e
  obtain⟨d,v,e,_,h1,h2⟩:=bq e (hf.slots.op c)
  obtain⟨q,rfl,e⟩:=Dd e h2
  simp only[cx,h1,CY]
  cases q with
  |true =>
   simp only[cond_true,qI]at e ⊢
   exact hgo _ _ _ _ _ _ _ _ e b P0 g tv LO dsv .run upv rdv rfl (hf.rf (uZ h1)) hd rfl hu
  |false =>
   simp only[cond_false,qI]at e ⊢
   exact hgo _ _ _ _ _ _ _ _ e b P0 g tv LO dsv .run upv rdv rfl (hf.rf (uZ h1)) hd rfl hu
 |region id ops draw =>
  cases draw with
  |true =>
   simp only[lc]at e
   split at e
   ·cases e
   rename_i hdst
   split at e
   ·rename_i sc hsc
    obtain⟨r,h1,hr⟩:=pJ (b:=b) (P0:=P0) (dsv:=dsv) (upv:=upv) hrec (cs:=[⟨L,g,LO⟩]) e rfl hf ⟨hf.cfg,.refl b _,trivial⟩ (qt.of hf.slots .leaf)
    have h6:=BR hsc (bA (lim E.E)) (eg (lim E.E)) tv dsv upv g.s _ h1
    rcases hr with⟨tv',s',rfl,g',t',L',LO',h2,h3,h4,h5⟩|⟨c,tv',s',rfl,g',t',L',LO',c',h2,h3,h4,h5,h7⟩
    ·obtain⟨vout,k1,k2⟩:=hgo _ _ _ _ _ _ _ _ h2 b P0 g' tv' LO' dsv .run upv rdv rfl h4 (hd.mono h5.le) rfl (hu.mono h5.le)
     refine⟨vout,?_,k2.trans h5⟩
     simp only[cx,hdst,cond_true,h6,gk,<- h3];exact k1
    ·obtain⟨vout,k1,k2⟩:=hgo _ _ _ _ _ _ _ _ h2 b P0 g' tv' LO' dsv (.panicking c) upv rdv rfl h4 (hd.mono h5.le) ⟨c,rfl,h7⟩ (hu.mono h5.le)
     refine⟨vout,?_,k2.trans h5⟩
     simp only[cx,hdst,cond_true,h6,gk,<- h3];exact k1
   ·cases e
  |false =>
   simp only[lc]at e
   split at e
   rotate_left
   ·cases e
   rename_i hdst
   obtain⟨r,h1,h2⟩:=fh hrec e hf hd hu
   cases r with
   |on tv' dsv' upv' s' =>
    obtain⟨g',t',L',LO',ds',up',k1,k2,k3,k4,k5,k6⟩:=h2
    obtain⟨vout,j1,j2⟩:=hgo _ _ _ _ _ _ _ _ k1 b P0 g' tv' LO' dsv' .run upv' rdv rfl k3 k5 rfl k6
    refine⟨vout,?_,j2.trans k4⟩
    simp only[cx,hdst,cond_true,h1,gk,<- k2];exact j1
   |panicked c tv' dsv' upv' s' =>
    obtain⟨g',t',L',LO',ds',up',c',k1,k2,k3,k4,k5,k6,k7⟩:=h2
    obtain⟨vout,j1,j2⟩:=hgo _ _ _ _ _ _ _ _ k1 b P0 g' tv' LO' dsv' (.panicking c) upv' rdv rfl k3 k5 ⟨c,rfl,k7⟩ k6
    refine⟨vout,?_,j2.trans k4⟩
    simp only[cx,hdst,cond_true,h1,gk,<- k2];exact j1
 |rangeFunc gop ps a b' =>
  simp only[lc]at e
  obtain⟨d,v,e,_,h1,h2⟩:=bq e (hf.slots.op gop)
  simp only[cx,h1]
  exact Ki hgo hrec e hf hd hu h2
 |refuse _=>cases e
theorem KI(hgo:LK E f fn go)(hrec:HV E.E rec){todo:List Item}{ds:List qo}{m:eU}{up:Option eU}(e:tE E an f fn go rec t L todo ds m up g.H=some out)(hf:FI b P0 g t L tv LO){dsv:List eD}{mv:Md}{upv:Option Md}{rdv:Option Nat}(hd:FX g ds dsv)(hm:LJ g m mv)(hu:qp g up upv rdv) :
 ∃ vout,fY E.E f fn (gb (lim E.E) f fn) (bA (lim E.E)) (eg (lim E.E)) tv todo dsv mv upv rdv g.s=some vout/\jb b P0 g out vout:=by
 have unw:∀ {m:eU} {mv:Md},LJ g m mv->iL ds E an fn go rec t L m up g.H=some out->∃ vout,dC dsv E.E fn (gb (lim E.E) f fn) (bA (lim E.E)) tv mv upv rdv g.s=some vout/\jb b P0 g out vout:=fun {m mv} hm e=>by
  cases ds with
  |nil =>
   cases hd
   simp only[iL]at e
   simp only[dC]
   cases m with
   |run=>simp only[jp]at e;cases e
   |round _=>exact hm.elim
   |returning =>
    cases hm
    simp only[jp]at e
    obtain⟨hn,e⟩:=lR e
    have hq:=hu.nr hn
    clear hu
    obtain⟨rfl,hu⟩:=hq
    obtain⟨ds,vs,e,h1,h2⟩:=mZ hf e
    obtain⟨ds',g',e,h3,h4,h5,h6⟩:=IB hf e h2
    cases e
    have:=h4.leave (e:=.ret (Nf ds')) (ve:=.returned (wH vs)) (up:=up) (upv:=upv) ⟨_,rfl,SV h6⟩ (hu.mono h5.le)
    rw[h3]at this
    exact⟨_,by simp only[tf,qO,h1,MK],this.trans h5⟩
   |panicking c =>
    obtain⟨c',rfl,h1⟩:=hm
    simp only[jp]at e
    cases e
    exact⟨_,rfl,hf.leave (e:=.pan c) (ve:=.panicked c') ⟨_,rfl,h1⟩ (PQ hu)⟩
  |cons x ds =>
   cases x with
   |coll o =>
    obtain⟨d,v,dsv',rfl,h1,h2⟩:=hd
    simp only[iL]at e
    simp only[dC]
    unfold rX at e
    split at e
    ·rename_i hH
     obtain⟨d',k1,k2⟩:=hf.ok.obj o _ hH
     rw[h1]at k1;cases k1
     have c:tW g o .opq d 0 0 .coll _ .gone:=pN h1 hH GI k2
     have hf':=hf.oput c ⟨_,_,aZ h1⟩
     have hm':=iQ (b:=b) hf.ok c
     obtain⟨vout,j1,j2⟩:=hgo _ _ _ _ _ _ _ _ e b P0 _ tv LO dsv' mv upv rdv rfl hf' (h2.mono hm'.le) (hm.mono hm'.le) (hu.mono hm'.le)
     refine⟨vout,?_,j2.trans hm'⟩
     simp only[kz,k2];exact j1
    ·cases e
   |call x =>
   obtain⟨ca,a,dsv',rfl,h1,h2,h3⟩:=hd
   obtain⟨xf,xc,xa⟩:=x
   simp only[iL]at e
   simp only at h1 h2
   simp only[dC]
   obtain⟨u,H',⟨d,hr,hne,e⟩|⟨c,hr,e⟩⟩:=yu e
   ·obtain⟨vout,k1,k2⟩:=hrec.c _ _ _ _ _ hr g rfl hf.ok (a++ca) (some mv) (h2.append h1) ⟨mv,rfl,hm⟩
    obtain⟨g',n1,n2,n3,n4,n5,n6,_⟩:=lg hf k2
    obtain⟨ve,vu,vs⟩:=vout
    simp only at n1 n2 n5 n6
    obtain⟨v,rfl,_⟩:=n5
    obtain⟨u',rfl,n7⟩:=n6
    rw[<- n1]at e
    obtain⟨vout,j1,j2⟩:=hgo _ _ _ _ _ _ _ _ e b P0 g' tv LO dsv' (iN u') upv rdv rfl n3 (h3.mono n4.le) (MA n7) (hu.mono n4.le)
    refine⟨vout,?_,j2.trans n4⟩
    simp only[bA,k1,jA]
    have:u'≠.run:=fun q=>hne ((Tm n7).2 q)
    split
    ·grind
    ·rw[<- n2];exact j1
   ·obtain⟨vout,k1,k2⟩:=hrec.c _ _ _ _ _ hr g rfl hf.ok (a++ca) (some mv) (h2.append h1) ⟨mv,rfl,hm⟩
    obtain⟨g',n1,n2,n3,n4,n5,n6,_⟩:=lg hf k2
    obtain⟨ve,vu,vs⟩:=vout
    simp only at n1 n2 n5 n6
    obtain⟨c',rfl,n8⟩:=n5
    obtain⟨u',rfl,n7⟩:=n6
    rw[<- n1]at e
    obtain⟨vout,j1,j2⟩:=hgo _ _ _ _ _ _ _ _ e b P0 g' tv LO dsv' (qS u' c') upv rdv rfl n3 (h3.mono n4.le) (MT n7 n8) (hu.mono n4.le)
    refine⟨vout,?_,j2.trans n4⟩
    simp only[bA,k1,jA]
    rw[<- n2];exact j1
 cases m with
 |run =>
  cases hm
  simp only[tE]at e
  simp only[fY]
  cases todo with
  |nil=>exact AG (c:=none) hgo e hf hd hu
  |cons i k =>
   simp only[Ip]at e
   simp only[mS]
   have on:∀ {todo:List Item},go t L todo ds .run up g.H=some out->∃ vout,gb (lim E.E) f fn tv todo dsv .run upv rdv g.s=some vout/\jb b P0 g out vout:=fun e=>hgo _ _ _ _ _ _ _ _ e b P0 g tv LO dsv .run upv rdv rfl hf hd rfl hu
   cases i with
   |code c=>exact Ou hgo hrec e hf hd hu
   |inBlock _=>exact on e
   |inScope _=>exact on e
   |inLoop c=>exact on e
   |beginRound =>
    simp only[NJ]at e
    unfold HN at e
    split at e
    ·rename_i o
     obtain⟨rfl,l,v,rfl,ho⟩:=hu
     unfold Lf at e
     split at e
     ·rename_i hH
      obtain⟨tv0,d,h2,h3⟩:=wX hf ho hH
      obtain⟨g',k1,k2,k3,k4⟩:=h3 false
      rw[<- k1]at e
      obtain⟨v',ho'⟩:=k4.le.o1 _ _ _ ho
      obtain⟨vout,j1,j2⟩:=hgo _ _ _ _ _ _ _ _ e b P0 g' tv LO dsv .run none (some l) rfl k3 (hd.mono k4.le) rfl ⟨rfl,l,v',rfl,ho'⟩
      refine⟨vout,?_,j2.trans k4⟩
      simp only[kR,vH,h2,cond_true]
      rw[k2]at j1;exact j1
     ·cases e
    ·cases e
   |_=>cases e
 |returning =>
  cases hm
  exact unw (m:=.returning) rfl e
 |panicking c =>
  obtain⟨c',rfl,h1⟩:=hm
  exact unw (m:=.panicking c) ⟨c',rfl,h1⟩ e
 |round _=>exact hm.elim
end frame
mutual
theorem RD.belo:∀ {d:D} {v:V},g.O.length=g.H.length->RD g d v->d.bel g.H.length
 |.bool _,_,_,_=>trivial
 |.int ..,_,_,_=>trivial
 |.str _,_,_,_=>trivial
 |.ptr o c,v,hl,r=>by
  grind [RD,D.bel,cm]
 |.eptr cs c,v,hl,r=>by
  simp only[RD]at r
  obtain⟨a,vs,_,_,_,h4,_⟩:=r
  simp only[D.bel];exact RL.belo hl h4
 |.bptr o n i c,v,hl,r=>by
  simp only[RD,zO]at r
  grind [D.bel,cm]
 |.tptr o n i c,v,hl,r=>by
  grind [RD,D.bel,cm]
 |.tb sz o s k,v,hl,r=>by
  grind [RD,D.bel,cm]
 |.nilptr,_,_,_=>trivial
 |.row sz l,v,hl,r=>by
  simp only[RD]at r
  simp only[D.bel]
  rcases r with⟨rfl,_⟩|⟨rfl,_⟩|⟨a,z,cap,_,_,_,_,_,h6⟩
  ·trivial
  ·trivial
  ·exact RR.belo hl h6
 |.buf sz o n,v,hl,r=>by
  simp only[RD]at r
  rcases r with⟨⟨_,_,_,h1⟩,_⟩|⟨st,cap,l,h1,_⟩<;>grind [D.bel,cm]
 |.nilrow,_,_,_=>trivial
 |.nilx,_,_,_=>trivial
 |.map o,v,hl,r=>by
  grind [RD,D.bel,cm]
 |.nilmap,_,_,_=>trivial
 |.func fn a c,v,hl,r=>by
  simp only[RD]at r
  obtain⟨a',b',_,h2,h3⟩:=r
  simp only[D.bel];exact⟨RL.belo hl h2,RL.belo hl h3⟩
 |.nilFunc,_,_,_=>trivial
 |.iface ty d,v,hl,r=>by
  simp only[RD]at r
  obtain⟨v',_,h2⟩:=r
  simp only[D.bel];exact RD.belo hl h2
 |.nilIface,_,_,_=>trivial
 |.yld o,v,hl,r=>by
  grind [RD,D.bel,cm]
 |.abool,_,_,_=>trivial
 |.agg cs,v,hl,r=>by
  simp only[RD]at r
  obtain⟨vs,_,h2,_⟩:=r
  simp only[D.bel];exact RL.belo hl h2
 |.tuple ds,v,hl,r=>by
  simp only[RD]at r
  obtain⟨vs,_,h2⟩:=r
  simp only[D.bel];exact RL.belo hl h2
theorem RL.belo:∀ {ds:List D} {vs:List V},g.O.length=g.H.length->RL g ds vs->uL g.H.length ds
 |[],_,_,_=>trivial
 |d::l,vs,hl,r=>by
  simp only[RL]at r
  obtain⟨v,vs',_,h2,h3⟩:=r
  simp only[uL];exact⟨RD.belo hl h2,RL.belo hl h3⟩
theorem RR.belo:∀ {l:List (List D)} {a:Ad} {sz:Nat},g.O.length=g.H.length->RR g a sz l->Fz g.H.length l
 |[],_,_,_,_=>trivial
 |x::l,a,sz,hl,r=>by
  simp only[RR]at r
  obtain⟨⟨vs,_,_,h3,_⟩,h4⟩:=r
  simp only[Fz];exact⟨RL.belo hl h3,RR.belo hl h4⟩
end
def Gh.trim(g:Gh)(n:Nat):Gh:=⟨g.O.take n,g.H.take n,g.Pv,g.s⟩
theorem jj{α:Type}{l:List α}{n i:Nat}{x:α}(h:(l.take n)[i]? = some x):i<n/\l[i]? = some x:=by
 grind
theorem bR{α:Type}{l:List α}{n i:Nat}{x:α}(hi:i<n)(h:l[i]? = some x):(l.take n)[i]? = some x:=by
 grind
theorem xx{n f:Nat}(h:g.Imm f):(g.trim n).Imm f:=⟨h.1,h.2.1,fun o v ho=>by
 obtain⟨h1,h2⟩:=jj ho
 obtain⟨sz,cap,l,h3⟩:=h.2.2 o v h2
 exact⟨sz,cap,l,bR h1 h3⟩⟩
theorem zO.trim{o n:Nat}(h:o<n)(r:zO g o):zO (g.trim n) o:=by
 obtain⟨z,s,l,k⟩:=r
 exact⟨z,s,l,bR h k⟩
mutual
theorem RD.trim{n:Nat}:∀ {d:D} {v:V},d.bel n->RD g d v->RD (g.trim n) d v
 |.bool _,_,_,r=>by simpa only[RD]using r
 |.int ..,_,_,r=>by simpa only[RD]using r
 |.str _,_,_,r=>by simpa only[RD]using r
 |.ptr o c,v,hb,r=>by
  simp only[RD]at r ⊢
  simp only[D.bel]at hb
  obtain⟨f,ver,h1,h2⟩:=r
  exact⟨f,ver,bR hb h1,h2⟩
 |.eptr cs c,v,hb,r=>by
  simp only[RD]at r ⊢
  simp only[D.bel]at hb
  obtain⟨a,vs,h1,h2,h3,h4,h5⟩:=r
  exact⟨a,vs,h1,xx h2,h3,RL.trim hb h4,h5⟩
 |.bptr o n' i c,v,hb,r=>by
  simp only[RD]at r ⊢
  simp only[D.bel]at hb
  rcases r with⟨r,r2⟩|⟨f,ver,sz,st,cap,l,ver',h1,h2,h3⟩
  ·exact .inl ⟨r.trim hb,r2⟩
  exact .inr ⟨f,ver,sz,st,cap,l,ver',bR hb h1,bR hb h2,h3⟩
 |.tptr o s i c,v,hb,r=>by
  simp only[RD]at r ⊢
  simp only[D.bel]at hb
  obtain⟨f,ver,sz,s',l,ver',h1,h2,h3⟩:=r
  exact⟨f,ver,sz,s',l,ver',bR hb h1,bR hb h2,h3⟩
 |.tb sz o s k,v,hb,r=>by
  simp only[RD]at r ⊢
  simp only[D.bel]at hb
  obtain⟨f,ver,s',l,ver',h1,h2,h3⟩:=r
  exact⟨f,ver,s',l,ver',bR hb h1,bR hb h2,h3⟩
 |.nilptr,_,_,r=>by simpa only[RD]using r
 |.row sz l,v,hb,r=>by
  simp only[RD]at r ⊢
  simp only[D.bel]at hb
  rcases r with r|r|⟨a,z,cap,h1,h2,h3,h4,h5,h6⟩
  ·exact .inl r
  ·grind
  ·exact .inr (.inr ⟨a,z,cap,h1,h2,h3,h4,fun q=>xx (h5 q),RR.trim hb h6⟩)
 |.buf sz o n',v,hb,r=>by
  simp only[RD]at r ⊢
  simp only[D.bel]at hb
  rcases r with⟨r,r2⟩|⟨st,cap,l,h1,h2,h3⟩
  ·exact .inl ⟨r.trim hb,r2⟩
  refine .inr ⟨st,cap,l,bR hb h1,h2,?_⟩
  rcases h3 with h3|⟨h3,f,ver,ver',c,h4,h5⟩
  ·exact .inl h3
  ·exact .inr ⟨h3,f,ver,ver',c,bR hb h4,h5⟩
 |.nilrow,_,_,r=>by simpa only[RD]using r
 |.nilx,_,_,r=>by simpa only[RD]using r
 |.map o,v,hb,r=>by
  simp only[RD]at r ⊢
  simp only[D.bel]at hb
  obtain⟨f,ver,h1,h2⟩:=r
  exact⟨f,ver,bR hb h1,h2⟩
 |.nilmap,_,_,r=>by simpa only[RD]using r
 |.func fn a c,v,hb,r=>by
  simp only[RD]at r ⊢
  simp only[D.bel]at hb
  obtain⟨a',b',h1,h2,h3⟩:=r
  exact⟨a',b',h1,RL.trim hb.1 h2,RL.trim hb.2 h3⟩
 |.nilFunc,_,_,r=>by simpa only[RD]using r
 |.iface ty d,v,hb,r=>by
  simp only[RD]at r ⊢
  simp only[D.bel]at hb
  obtain⟨v',h1,h2⟩:=r
  simp_all[RD.trim]
 |.nilIface,_,_,r=>by simpa only[RD]using r
 |.yld o,v,hb,r=>by
  simp only[RD]at r ⊢
  simp only[D.bel]at hb
  obtain⟨f,ver,h1,h2⟩:=r
  exact⟨f,ver,bR hb h1,h2⟩
 |.abool,_,_,r=>by simpa only[RD]using r
 |.agg cs,v,hb,r=>by
  simp only[RD]at r ⊢
  simp only[D.bel]at hb
  obtain⟨vs,h1,h2,h3⟩:=r
  simp_all[RL.trim]
 |.tuple ds,v,hb,r=>by
  simp only[RD]at r ⊢
  simp only[D.bel]at hb
  obtain⟨vs,h1,h2⟩:=r
  simp_all[RL.trim]
theorem RL.trim{n:Nat}:∀ {ds:List D} {vs:List V},uL n ds->RL g ds vs->RL (g.trim n) ds vs
 |[],_,_,r=>by simpa only[RL]using r
 |d::l,vs,hb,r=>by
  simp only[RL]at r ⊢
  simp only[uL]at hb
  obtain⟨v,vs',h1,h2,h3⟩:=r
  exact⟨v,vs',h1,RD.trim hb.1 h2,RL.trim hb.2 h3⟩
theorem RR.trim{n:Nat}:∀ {l:List (List D)} {a:Ad} {sz:Nat},Fz n l->RR g a sz l->RR (g.trim n) a sz l
 |[],_,_,_,_=>by simp only[RR]
 |x::l,a,sz,hb,r=>by
  simp only[RR]at r ⊢
  simp only[Fz]at hb
  obtain⟨⟨vs,h1,h2,h3,h4⟩,h5⟩:=r
  exact⟨⟨vs,h1,h2,RL.trim hb.1 h3,h4⟩,RR.trim hb.2 h5⟩
end
theorem qu.trim{n:Nat}:∀ {es:List (D×D)} {ents:List oY},(∀ x∈es,x.1.bel n/\x.2.bel n)->qu g es ents->qu (g.trim n) es ents
 |[],_,_,r=>r
 |(k,v)::l,_,hb,r=>by
  obtain⟨e,es',h1,h2,h3,h4,h5⟩:=r
  obtain⟨b1,b2⟩:=hb _ List.mem_cons_self
  exact⟨e,es',h1,h2.trim b1,h3.trim b2,h4,qu.trim (fun x hx=>hb x (List.mem_cons_of_mem _ hx)) h5⟩
theorem qu.belo:∀ {es:List (D×D)} {ents:List oY},g.O.length=g.H.length->qu g es ents->∀ x∈es,x.1.bel g.H.length/\x.2.bel g.H.length
 |[],_,_,_,x,hx=>by cases hx
 |(k,v)::l,_,hl,r,x,hx=>by
  obtain⟨e,es',_,h2,h3,_,h5⟩:=r
  rcases List.mem_cons.1 hx with rfl|hx
  ·exact⟨h2.belo hl,h3.belo hl⟩
  ·exact qu.belo hl h5 x hx
theorem jM.belo{o:Nat}{x:DB}(hl:g.O.length=g.H.length)(r:jM g o x):x.bel g.H.length:=by
 cases x with
 |dead=>exact r.elim
 |opq=>trivial
 |coll=>trivial
 |loop _ _ _ _ _ _ _ =>
  obtain⟨f,tv,d,_,_,h3⟩:=r
  intro i d hi
  obtain⟨v,_,h4⟩:=h3 i _ hi
  exact RD.belo hl h4
 |cells st cs=>obtain⟨f,el,vs,_,_,h3,_⟩:=r;exact h3.belo hl
 |map es=>obtain⟨f,ents,c,_,_,h3⟩:=r;exact h3.belo hl
 |buf sz st cap l =>
  obtain⟨_,⟨rfl,_⟩|⟨_,f,ver,el,nv,vers,cells,_,_,_,_,_,h⟩⟩:=r
  ·trivial
  ·exact h.belo hl
 |tbuf sz s l =>
  obtain⟨_,f,ver,el,nv,vers,cells,_,_,_,_,_,h⟩:=r
  exact h.belo hl
theorem jM.trim{o n:Nat}{x:DB}(ho:o<n)(hb:x.bel n)(r:jM g o x):jM (g.trim n) o x:=by
 cases x with
 |dead=>exact r.elim
 |opq=>obtain⟨f,v,h1⟩:=r;exact⟨f,v,bR ho h1⟩
 |coll=>obtain⟨f,h1,h2⟩:=r;exact⟨f,bR ho h1,h2⟩
 |loop _ _ _ _ _ _ _ =>
  obtain⟨f,tv,d,h1,h2,h3⟩:=r
  refine⟨f,tv,d,bR ho h1,h2,fun i x hi=>?_⟩
  obtain⟨v,h4,h5⟩:=h3 i x hi
  refine⟨v,h4,?_⟩
  cases x with
  |g d=>exact RD.trim (hb i d hi) h5
  |lp k c=>exact h5
  |u=>exact h5
 |cells st cs=>obtain⟨f,el,vs,h1,h2,h3,h4⟩:=r;exact⟨f,el,vs,bR ho h1,h2,h3.trim hb,h4⟩
 |map es=>obtain⟨f,ents,c,h1,h2,h3⟩:=r;exact⟨f,ents,c,bR ho h1,h2,h3.trim hb⟩
 |buf sz st cap l =>
  obtain⟨h0,⟨rfl,h1⟩|⟨h1,f,ver,el,nv,vers,cells,h2,h3,h4,h5,h6,h⟩⟩:=r
  ·exact⟨h0,.inl ⟨rfl,bR ho h1⟩⟩
  ·exact⟨h0,.inr ⟨h1,f,ver,el,nv,vers,cells,bR ho h2,h3,h4,h5,h6,h.trim hb⟩⟩
 |tbuf sz s l =>
  obtain⟨h0,f,ver,el,nv,vers,cells,h2,h3,h4,h5,h6,h⟩:=r
  exact⟨h0,f,ver,el,nv,vers,cells,bR ho h2,h3,h4,h5,h6,h.trim hb⟩
theorem gM.trim{n:Nat}:∀ {c:List fB} {c':List Du},(∀ x∈c,x.v.bel n)->gM g c c'->gM (g.trim n) c c'
 |[],_,_,r=>r
 |x::l,_,hb,r=>by
  obtain⟨y,c',h1,h2,h3,h4⟩:=r
  exact⟨y,c',h1,h2.trim (hb x List.mem_cons_self),h3,gM.trim (fun z hz=>hb z (List.mem_cons_of_mem _ hz)) h4⟩
theorem Mc{r:ah}(e:qD g.H r=some out)(hok:Ok g){j:sx}{s0:S}(hr:∀ o,r=some o->∃ vout,lim E.E j s0=some vout/\jb g.s.next g.Pv g o vout):∃ vout,lim E.E j s0=some vout/\jb g.s.next g.Pv g out vout:=by
 unfold qD at e
 split at e
 ·rename_i o
  split at e
  ·rename_i ht
   cases e
   obtain⟨vout,h1,g',h2,h3,h4,h5,h6,h7,h8⟩:=hr o rfl
   obtain⟨t1,t2,t3,t4⟩:=ht
   rw[<- h2]at t3 t4
   have hlen:(g'.trim g.H.length).H.length=g.H.length:=by simp[Gh.trim,t3]
   have hold:∀ {o:Nat} {x:DB},o<g.H.length->g'.H[o]? = some x->jM (g'.trim g.H.length) o x:=fun {o x} ho hx=>by
    refine(h5.obj o x hx).trim ho ?_
    rcases t4 o x ho hx with q|q
    ·exact(hok.obj o x q).belo hok.len
    ·exact q
   refine⟨vout,h1,g'.trim g.H.length,by simp[Gh.trim,h2],h3,h4,⟨by simp[Gh.trim,h5.len],h5.wf,fun o o' f v v' a c=>h5.inj o o' f v v' (jj a).2 (jj c).2,fun o f v a=>h5.lt o f v (jj a).2,h5.pv,fun o x hx=>?_,h5.gl.to fun f q1 q2 q3=>⟨rfl,q1,q2,fun o v k=>q3 o v (jj k).2⟩⟩,⟨⟨by rw[hlen];exact Nat.le_refl _,fun o f v ho=>?_,fun o sz st cap l ho=>?_,fun o sz s l ho=>?_,fun f hf=>xx (h6.le.imm f hf),fun a n vs hi hx=>h6.le.cells a n vs hi hx,h6.le.next⟩,h6.out,fun o f v ho hf=>h6.fresh o f v (jj ho).2 hf,fun o s1 c1 f v a c=>?_⟩,?_,?_⟩
   ·obtain⟨q1,q2⟩:=jj hx
    grind
   ·obtain⟨v',q⟩:=h6.le.o1 o f v ho
    exact⟨v',bR (by rw[<- hok.len];exact cm ho) q⟩
   ·rcases h6.le.buf o sz st cap l ho with q1|⟨st',cap',l',q1,q2,q3,q4⟩
    ·exact .inl (q1.trim (cm ho))
    refine .inr ⟨st',cap',l',bR (cm ho) q1,q2,q3,fun q=>⟨(q4 q).1,?_⟩⟩
    show(g'.O.take _)[o]? = _
    grind
   ·obtain⟨s',l',q1,q2,q3⟩:=h6.le.tb o sz s l ho
    refine⟨s',l',bR (cm ho) q1,q2,fun q=>⟨(q3 q).1,?_⟩⟩
    show(g'.O.take _)[o]? = _
    grind
   ·obtain⟨s2,c2,q1,q2,q3⟩:=h6.stm o s1 c1 f v a c
    exact⟨s2,c2,bR (cm a) q1,q2,q3⟩
   ·have t1:=t1
    cases he:o.e with
    |ret d =>
     rw[he]at h7 t1
     obtain⟨v,q1,q2⟩:=h7
     exact⟨v,q1,q2.trim t1⟩
    |pan c =>
     rw[he]at h7 t1
     obtain⟨c',q1,q2⟩:=h7
     exact⟨c',q1,q2.trim t1⟩
   ·show Lu _ o.up _
    rw[t2]at h8 ⊢
    exact h8
  ·cases e
 ·cases e
theorem NO:∀ {ds:List D} {vs:List V} {i:Nat} {t:T LD} {tv:T V},RL g ds vs->zN g [] t tv->zN g [] (gx ds i t id) (ki vs i tv id)
 |[],vs,i,t,tv,r,h=>by simp only[RL]at r;subst r;exact h
 |d::ds,vs,i,t,tv,r,h=>by
  simp only[RL]at r
  obtain⟨v,vs',rfl,h1,h2⟩:=r
  rw[He]
  simp only[gx,T.setQ_eq]
  exact NO h2 (h.put (some i) (x:=.g d) h1)
theorem oK{β:Type}:∀(ds:List D) (i:Nat) (t:T LD) (k:T LD->β),gx ds i t k=k (gx ds i t id)
 |[],_,_,_=>rfl
 |d::ds,i,t,k=>by
  simp only[gx,T.setQ_eq]
  exact oK ds (i+1) _ k
theorem Mn(h:Ok g){ds:List D}{vs:List V}(r:RL g ds vs):FI g.s.next g.Pv g (gx ds 0 .leaf id) [] (ki vs 0 .leaf id) [] :=
 ⟨h,NO r (fun i x hx=>by rw[T.get_leaf]at hx;cases hx),⟨rfl,fun k x f hk=>by simp at hk⟩,by simp,(fun f hf=>by cases hf),List.nodup_nil,Nat.le_refl _⟩
theorem sQ{β:Type}:∀(t:T LD) (ps:List Tmp) (ds:List D) (k:T LD->β),lL t ps ds k=k (lL t ps ds id)
 |t,p::ps,d::ds,k=>by
  simp only[lL,T.setQ_eq]
  exact sQ _ ps ds k
 |t,[],[],k=>rfl
 |t,[],_::_,k=>rfl
 |t,_::_,[],k=>rfl
theorem DX{β:Type}:∀(t:T V) (ps:List Tmp) (ds:List V) (k:T V->β),cj t ps ds k=k (cj t ps ds id)
 |t,p::ps,d::ds,k=>by
  simp only[cj,T.setK_eq]
  exact DX _ ps ds k
 |t,[],[],k=>rfl
 |t,[],_::_,k=>rfl
 |t,_::_,[],k=>rfl
theorem IF:∀ {ps:List Tmp} {ds:List D} {vs:List V} {t:T LD} {tv:T V},RL g ds vs->zN g [] t tv->zN g [] (lL t ps ds id) (cj tv ps vs id)
 |[],ds,vs,t,tv,r,h=>by cases ds<;>cases vs<;>exact h
 |p::ps,[],vs,t,tv,r,h=>by simp only[RL]at r;subst r;exact h
 |p::ps,d::ds,vs,t,tv,r,h=>by
  simp only[RL]at r
  obtain⟨v,vs',rfl,h1,h2⟩:=r
  simp only[lL,cj,T.setQ_eq,T.setK_eq]
  exact IF h2 (h.put (some p) (x:=.g d) h1)
theorem Kg{go:FuncId->Func->sC}(hgo:∀ f fn,LK E f fn (go f fn)){o:Nat}{args:List D}(e:sP E go o args g.H=some out)(hok:Ok g){vs:List V}{l v:Nat}(hr:RL g args vs)(ho:g.O[o]? = some (some (l,v))) :
 ∃ vout,lim E.E (.round l vs) g.s=some vout/\jb g.s.next g.Pv g out vout:=by
 unfold sP at e
 split at e
 ·rename_i r f nt t ps a b' hH
  split at e
  ·rename_i fn hf
   obtain⟨hc,e⟩:=aE e
   obtain⟨fb,tv0,d,h1,h2,h3⟩:=hok.obj o _ hH
   rw[ho]at h1;cases h1
   rw[sQ]at e
   have hFI:FI g.s.next g.Pv g (lL t ps.toList args id) [] (cj tv0 ps.toList vs id) [] :=
    ⟨hok,IF hr h3,⟨rfl,fun k x f hk=>by simp at hk⟩,by simp,(fun f hf=>by cases hf),List.nodup_nil,Nat.le_refl _⟩
   obtain⟨vout,k1,k2⟩:=hgo f fn _ _ _ _ _ _ _ _ e g.s.next g.Pv g _ _ [] .run none (some l) rfl hFI rfl rfl ⟨rfl,l,0,rfl,ho⟩
   refine⟨vout,NW ?_,k2⟩
   rw[<- hr.len]at hc
   simp only[fe,h2,wq,hf,hc,cond_true]
   rw[DX];exact k1
  ·cases e
 ·cases e
theorem Lb(hO:OW E){go:FuncId->Func->sC}(hgo:∀ f fn,LK E f fn (go f fn)):HV E.E (JE E go):=by
 refine⟨?_,fun o args H out e g hH hok vs l v hr ho=>by subst hH;exact Kg hgo e hok hr ho⟩
 intro f args up H out e g hH hok vs upv hr hu
 subst hH
 have ent:yl E go f args up g.H=some out->∃ vout,lim E.E (.call f vs upv) g.s=some vout/\jb g.s.next g.Pv g out vout:=fun e=>by
  unfold yl at e
  split at e
  ·rename_i fn hf
   split at e
   ·rename_i c hb
    cases hng:(fn.name == "runtime.NumGoroutine" || E.vo f)with
    |true=>rw[hng]at e;cases e
    |false =>
     rw[hng]at e
     simp only[cond_false]at e
     obtain⟨hn1,hn2⟩:=Bool.or_eq_false_iff.1 hng
     have hstep:∀ o,gx args 0 .leaf (fun t=>go f fn t [] [.code c] [] .run up g.H)=some o->∃ vout,lim E.E (.call f vs upv) g.s=some vout/\jb g.s.next g.Pv g o vout:=fun o e=>by
      rw[oK]at e
      obtain⟨vout,h1,h2⟩:=hgo f fn _ _ _ _ _ _ _ _ e g.s.next g.Pv g _ _ [] .run upv none rfl (Mn hok hr) rfl rfl (qp.mk (fun o q=>by subst q;obtain⟨_,_,h⟩:=hu;exact h) hu)
      refine⟨vout,NW ?_,h2⟩
      have hent:tI (lim E.E) f vs upv g.s (E.E.P.funcs[f]?)=some vout:=by
       simp only[tI,hf,hb,hn1,cond_false]
       rw[rF];exact h1
      cases upv with
      |none=>simp only[fe,hO.no f hn2 vs g.s,yE];exact hent
      |some u=>exact hent
     cases ht:(E.ann f).trim with
     |true=>rw[ht]at e;exact Mc e hok hstep
     |false=>rw[ht]at e;exact hstep _ e
   ·cases e
  ·cases e
 unfold JE at e
 split at e
 ·obtain⟨_,_,h⟩:=hu;exact h.elim
 rename_i hn
 unfold Nd at e
 split at e
 ·rename_i d H' ho
  cases e
  cases up with
  |none =>
   cases hu
   exact hO.yes f args g.H d H' ho g rfl hok vs hr
  |some m=>cases ho
 ·exact ent e
theorem Gd(hO:OW E){R:be}(hR:Dr E R){go:FuncId->Func->sC}(hgo:∀ f fn,LK E f fn (go f fn)):Dr E (qF E R go):=by
 refine⟨Lb hO hgo,fun f fn=>?_⟩
 intro t L todo ds m up H out e b P0 g tv LO dsv mv upv rdv hH hf hd hm hu
 subst hH
 obtain⟨vout,h1,h2⟩:=KI (KW (hR.frame f fn) (hgo f fn)) hR.call e hf hd hm hu
 exact⟨vout,NW h1,h2⟩
theorem nY(hO:OW E):∀ n,Dr E (dK E n)
 |0=>⟨⟨(fun _ _ _ _ _ e=>by cases e),(fun _ _ _ _ e=>by cases e)⟩,(fun _ _ _ _ _ _ _ _ _ _ e=>by cases e)⟩
 |n+1=>Gd hO (nY hO n) (nY hO n).frame
end Go.AI
namespace Go.AI
variable[fE]
def za(c:Nat->be)(R:be):Prop:=∀ j H o,R j H=some o->∃ n,∀ m,n<=m->c m j H=some o
def bh(c:Nat->be)(R:be)(Φ:be->ah):Prop:=∀ x,Φ R=some x->∃ n,∀ m,n<=m->Φ (c m)=some x
section
variable{c:Nat->be}{R:be}{α β:Type}{E:cF}{an:ii}
theorem bh.const(x:ah):bh c R (fun _=>x):=fun _ h=>⟨0,fun _ _=>h⟩
theorem bh.al{d:(α->ah)->ah}(h:Al d){κ:be->α->ah}(hk:∀ a,bh c R (fun ih=>κ ih a)):bh c R (fun ih=>d (κ ih)):=fun x e=>by
 obtain⟨a,ha⟩:=h (κ R) x e
 obtain⟨n,hn⟩:=hk a x ((ha (κ R)).symm.trans e)
 exact⟨n,fun m hm=>(ha (κ (c m))).trans (hn m hm)⟩
theorem bh.al2{d:(α->β->ah)->ah}(h:fP d){κ:be->α->β->ah}(hk:∀ a b,bh c R (fun ih=>κ ih a b)):bh c R (fun ih=>d (κ ih)):=fun x e=>by
 obtain⟨a,b,ha⟩:=h (κ R) x e
 obtain⟨n,hn⟩:=hk a b x ((ha (κ R)).symm.trans e)
 exact⟨n,fun m hm=>(ha (κ (c m))).trans (hn m hm)⟩
theorem bh.cond(b:Bool){p q:be->ah}(hp:bh c R p)(hq:bh c R q):bh c R (fun ih=>cond b (p ih) (q ih)):=by
 cases b
 ·exact hq
 ·exact hp
theorem bh.both{p q:be->ah}(hp:bh c R p)(hq:bh c R q):bh c R (fun ih=>JG (p ih) (q ih)):=fun x e=>by
 obtain⟨h1,h2⟩:=Bq e
 obtain⟨n1,k1⟩:=hp x h1
 obtain⟨n2,k2⟩:=hq x h2
 refine⟨max n1 n2,fun m hm=>?_⟩
 grind
theorem bh.notRnd(up:Option eU){p:be->ah}(hp:bh c R p):bh c R (fun ih=>notRnd up (p ih)):=by
 unfold Go.AI.notRnd
 split
 ·exact .const _
 ·exact hp
theorem bh.brD(d:D){p q:be->ah}(hp:bh c R p)(hq:bh c R q):bh c R (fun ih=>brD d (p ih) (q ih)):=by
 cases d<;>first|exact .const _|exact bh.cond _ hp hq|exact bh.both hp hq
theorem bh.ih(h:za c R)(j:Dw)(H:DH):bh c R (fun ih=>ih j H):=fun o ho=>h j H o ho
theorem bh.callK2{x:be->ah}(hx:bh c R x){kr:be->D->DH->ah}{kp:be->List fB->DH->ah}(h1:∀ d H,bh c R (fun ih=>kr ih d H))(h2:∀ p H,bh c R (fun ih=>kp ih p H)):bh c R (fun ih=>dw (x ih) (kr ih) (kp ih)):=fun y e=>by
 obtain⟨o,ho,hh⟩:=lh e
 obtain⟨n1,hn1⟩:=hx o ho
 obtain⟨oe,ou,oH⟩:=o
 rcases hh with⟨d,hd,e⟩|⟨p,hd,e⟩
 ·simp only at hd e;subst hd
  obtain⟨n2,hn2⟩:=h1 d oH y e
  exact⟨max n1 n2,fun m hm=>by show dw (x (c m)) _ _=_;rw[hn1 m (by omega)];exact hn2 m (by omega)⟩
 ·simp only at hd e;subst hd
  obtain⟨n2,hn2⟩:=h2 p oH y e
  exact⟨max n1 n2,fun m hm=>by show dw (x (c m)) _ _=_;rw[hn1 m (by omega)];exact hn2 m (by omega)⟩
theorem bh.want{ops:Array Oper}{t:T LD}{o:Oper}{kT kF:be->T LD->ah}(h1:∀ t,bh c R (fun ih=>kT ih t))(h2:∀ t,bh c R (fun ih=>kF ih t)):bh c R (fun ih=>vR ops t o (kT ih) (kF ih)):=by
 unfold vR
 split
 ·exact h1 t
 ·split
  ·split
   ·split
    ·simp only[T.setQ_eq];exact .brD _ (h1 _) (h2 _)
    ·simp only[T.setQ_eq];exact .brD _ (h2 _) (h1 _)
   ·exact h2 t
   ·exact .const _
  ·exact .const _
theorem bh.put{t:T LD}{d:Option Tmp}{x:LD}{κ:be->T LD->ah}(h:∀ t,bh c R (fun ih=>κ ih t)):bh c R (fun ih=>jT t d x (κ ih)):=by
 simp_all[cu]
theorem QD(h:za c R){d:Option Tmp}{t:T LD}{ds:List qo}{up:Option eU}{k:be->FQ}{kp:be->List fB->FQ}(hk:∀ t L ds up H,bh c R (fun ih=>k ih t L ds up H))(hp:∀ p t L ds up H,bh c R (fun ih=>kp ih p t L ds up H))(x:zb) :
 bh c R (fun ih=>GL an (wv ih) d t ds up (k ih) (kp ih) x):=by
 cases x with
 |val x L H=>simp only[GL];exact bh.al2 (ol _ _ _ _) fun x H=>.put fun t=>hk _ _ _ _ _
 |skip L H=>simp only[GL];exact .put fun t=>hk _ _ _ _ _
 |enter f args L H=>simp only[GL];exact .callK2 (.ih h _ _) (fun x H=>bh.al2 (ol _ _ _ _) fun x H=>.put fun t=>hk _ _ _ _ _) fun p H=>hp _ _ _ _ _ _
 |defer df L H=>simp only[GL];exact .notRnd _ (.put fun t=>hk _ _ _ _ _)
 |round o args L H=>simp only[GL];exact .callK2 (.ih h _ _) (fun x H=>bh.al2 (ol _ _ _ _) fun x H=>.put fun t=>hk _ _ _ _ _) fun p H=>hp _ _ _ _ _ _
 |recover L H =>
  simp only[GL]
  unfold lK
  split
  ·exact .const _
  ·exact .put fun t=>hk _ _ _ _ _
  ·exact .put fun t=>hk _ _ _ _ _
  ·exact .const _
 |panic v L H=>exact hp _ _ _ _ _ _
theorem nM(h:za c R){ops:Array Oper}{k:be->FQ}{kp:be->List fB->FQ}(hk:∀ t L ds up H,bh c R (fun ih=>k ih t L ds up H))(hp:∀ p t L ds up H,bh c R (fun ih=>kp ih p t L ds up H)):∀(l:List Oper) t L ds up H,
 bh c R (fun ih=>oB E an ops (wv ih) l (k ih) (kp ih) t L ds up H)
 |[],t,L,ds,up,H=>hk _ _ _ _ _
 |o::l,t,L,ds,up,H=>.want (fun t=>bh.al2 (tT _ _ _ _ _ _) fun t x=>QD h (fun t L ds up H=>nM h hk hp l t L ds up H) hp x) (fun t=>.put fun t=>nM h hk hp l t L ds up H)
theorem rK{κ:be->T LD->LD->LS->DH->ah}(h:∀ t x L H,bh c R (fun ih=>κ ih t x L H))(t:T LD)(x:zb):bh c R (fun ih=>pH (κ ih) t x):=by
 unfold pH
 split
 ·simp_all
 ·exact .const _
theorem Ho{o:Oper}{hist:List (LS×DH)}{n w:Nat}{bs:T Nat}{t:T LD}{L:LS}{H:DH}{κ:be->T LD->LD->LS->DH->Nat->ah}(h:∀ t x L H b,bh c R (fun ih=>κ ih t x L H b))(kd:Nat):bh c R (fun ih=>qa E an o hist n w bs t L H (κ ih) kd):=by
 unfold qa
 split
 ·split<;>simp_all[bh.al2,tT,rK]
 ·refine .cond _ ?_ (.const _)
  cases pu an o.dst
  all_goals dsimp only
  rotate_left
  ·unfold ww
   split
   ·exact .const _
   ·split
    ·refine bh.al (mG _) fun x=>?_
     split
     ·exact bh.al (UN _ _ _ _ _) fun _=>h _ _ _ _ _
     ·exact .const _
    ·exact .const _
  unfold wx
  split
  ·exact .const _
  ·split
   ·simp_all[bh.al2,tT,rK]
   ·have q (M G r):bh c R (fun ih=>jH o.op E false t (fl M r) (cR G (r.map (·.2))) fun t x=>pH (fun t x _ _=>κ ih t x L H (bif tD an o.dst then n else n - w)) t x):=bh.al2 (tT _ _ _ _ _ _) fun t x=>rK (fun t x _ _=>h _ _ _ _ _) t x
    unfold MS
    split
    ·simp_all[bh.al,mG,Li]
    ·exact q _ _ _
 ·simp_all[bh.al2,tT,rK]
 ·exact .const _
theorem bh.drop{t:T LD}{d:Option Tmp}{κ:be->T LD->ah}(h:∀ t,bh c R (fun ih=>κ ih t)):bh c R (fun ih=>Js t d (κ ih)):=by
 cases d with
 |none=>exact h _
 |some d=>simp only[Js,T.setQ_eq];exact h _
theorem NY(h:za c R){t:T LD}{κ:be->T LD->LD->LS->DH->ah}(hk:∀ t x L H,bh c R (fun ih=>κ ih t x L H)){kp:be->List fB->LS->DH->ah}(hp:∀ p L H,bh c R (fun ih=>kp ih p L H))(x:zb):bh c R (fun ih=>CO (wv ih) t (κ ih) (kp ih) x):=by
 cases x with
 |val x L H=>exact hk _ _ _ _
 |skip L H=>exact hk _ _ _ _
 |enter f args L H=>exact .callK2 (.ih h _ _) (fun x H=>hk _ _ _ _) fun p H=>hp _ _ _
 |_=>exact .const _
theorem iu(h:za c R){ops:Array Oper}{k:be->T LD->LS->DH->ah}(hk:∀ t L H,bh c R (fun ih=>k ih t L H)){kp:be->List fB->T LD->LS->DH->ah}(hp:∀ p t L H,bh c R (fun ih=>kp ih p t L H)):∀(sc:List (Option Nat×Nat)) hist n bs t L H,bh c R (fun ih=>gi E an ops (wv ih) (k ih) (kp ih) sc hist n bs t L H)
 |[],hist,n,bs,t,L,H=>hk _ _ _
 |(w,i)::sc,hist,n,bs,t,L,H=>by
  simp only[gi]
  split
  ·exact .const _
  ·split
   ·refine .want (fun t=>Ho (fun t x L H b=>?_) _) (fun t=>.put fun t=>?_)
    ·exact bh.al2 (ol _ _ _ _) fun x H=>.put fun t=>by simp only[fv];exact iu h hk hp sc _ _ _ _ _ _
    ·simp only[fv];exact iu h hk hp sc _ _ _ _ _ _
   ·refine .want (fun t=>bh.al2 (tT _ _ _ _ _ _) fun t x=>NY h (fun t x L H=>?_) (fun p L H=>?_) x) (fun t=>.put fun t=>?_)
    ·exact bh.al2 (ol _ _ _ _) fun x H=>.put fun t=>by simp only[fv];exact iu h hk hp sc _ _ _ _ _ _
    ·cases sc with
     |nil =>
      simp only
      split
      ·exact bh.drop fun t=>hp _ _ _ _
      ·exact .const _
     |cons x sc=>exact .const _
    ·simp only[fv];exact iu h hk hp sc _ _ _ _ _ _
variable{f:FuncId}{fn:Func}{go:be->sC}
theorem KK(h:za c R)(hg:∀ t L todo ds m up H,bh c R (fun ih=>go ih t L todo ds m up H))(cd:Code)(k:List Item)(t:T LD)(L:LS)(ds:List qo)(up:Option eU)(H:DH):bh c R (fun ih=>lc cd E an f fn (go ih) (wv ih) k t L ds up H):=by
 cases cd with
 |ret=>exact .notRnd _ (hg _ _ _ _ _ _ _)
 |skip=>exact hg _ _ _ _ _ _ _
 |label _=>exact hg _ _ _ _ _ _ _
 |seq _ _=>exact hg _ _ _ _ _ _ _
 |block _ _=>exact hg _ _ _ _ _ _ _
 |loop _=>exact hg _ _ _ _ _ _ _
 |scope _=>exact hg _ _ _ _ _ _ _
 |exit id =>
  simp only[lc];unfold AK;split;· exact hg _ _ _ _ _ _ _
  ·exact .const _
 |goto l =>
  simp only[lc];unfold AK;split;· exact hg _ _ _ _ _ _ _
  ·exact .const _
 |cond cc a b =>
  simp only[lc,qI]
  exact bh.al (cN _) fun d=>.brD _ (hg _ _ _ _ _ _ _) (hg _ _ _ _ _ _ _)
 |region id ops draw =>
  cases draw with
  |true =>
   simp only[lc]
   split
   ·exact .const _
   split
   ·exact iu h (fun _ _ _=>hg _ _ _ _ _ _ _) (fun _ _ _ _=>hg _ _ _ _ _ _ _) _ _ _ _ _ _ _
   ·exact .const _
  |false =>
   simp only[lc]
   split
   rotate_left
   ·exact .const _
   ·exact nM h (fun t L ds up H=>hg _ _ _ _ _ _ _) (fun p t L ds up H=>hg _ _ _ _ _ _ _) _ _ _ _ _ _
 |rangeFunc g ps a b =>
  simp only[lc]
  refine bh.al (cN _) fun d=>?_
  unfold BY KH
  split
  ·split
   ·refine .notRnd _ (.callK2 (.ih h _ _) (fun x H=>?_) fun p H=>hg _ _ _ _ _ _ _)
    unfold AA
    split
    ·simp_all
    ·exact .const _
   ·exact .const _
  ·exact .const _
 |refuse _=>exact .const _
theorem Uw{go1 go2:sC}{t:T LD}{L:LS}{ds:List qo}{up:Option eU}{d:D}{u:eU}{H:DH}{y z:iC}(e:qk go1 t L ds up (some ⟨.ret d,some u,H⟩)=some z)(h:go2 t L [] ds (uX u) up H=some y):qk go2 t L ds up (some ⟨.ret d,some u,H⟩)=some y:=by
 cases u with
 |run=>cases e
 |round _=>cases e
 |returning=>exact h
 |panicking c =>
  cases c with
  |nil=>exact h
  |cons x r=>obtain⟨v,q⟩:=x;cases q<;>exact h
theorem QS{go1 go2:sC}{t:T LD}{L:LS}{ds:List qo}{up:Option eU}{c:List fB}{u:eU}{H:DH}{y z:iC}(e:qk go1 t L ds up (some ⟨.pan c,some u,H⟩)=some z)(h:go2 t L [] ds (Ca u c) up H=some y):qk go2 t L ds up (some ⟨.pan c,some u,H⟩)=some y:=by
 cases u with
 |run=>cases e
 |round _=>cases e
 |returning=>exact h
 |panicking o=>exact h
theorem xI(t:T LD)(L:LS)(up:Option eU)(H:DH)(m:eU):bh c R (fun _=>jp E an fn t L up H m):=.const _
theorem Hn(h:za c R)(hg:∀ t L todo ds m up H,bh c R (fun ih=>go ih t L todo ds m up H))(t:T LD)(L:LS)(todo:List Item)(ds:List qo)(m:eU)(up:Option eU)(H:DH):bh c R (fun ih=>tE E an f fn (go ih) (wv ih) t L todo ds m up H):=by
 have unw:∀ m,bh c R (fun ih=>iL ds E an fn (go ih) (wv ih) t L m up H):=fun m=>by
  cases ds with
  |nil=>exact xI t L up H m
  |cons x ds =>
   cases x with
   |coll o =>
    simp only[iL]
    unfold rX
    split
    ·simp_all
    ·exact .const _
   |call x =>
   obtain⟨f,cap,args⟩:=x
   intro y e
   simp only[iL]at e ⊢
   obtain⟨u,H',⟨d,hr,hne,e'⟩|⟨c',hr,e'⟩⟩:=yu e
   ·obtain⟨n1,hn1⟩:=bh.ih h (.call f (args++cap) (some m)) H _ hr
    obtain⟨n2,hn2⟩:=hg _ _ _ _ _ _ _ y e'
    refine⟨max n1 n2,fun q hq=>?_⟩
    grind [wv,Uw]
   ·obtain⟨n1,hn1⟩:=bh.ih h (.call f (args++cap) (some m)) H _ hr
    obtain⟨n2,hn2⟩:=hg _ _ _ _ _ _ _ y e'
    refine⟨max n1 n2,fun q hq=>?_⟩
    grind [wv,QS]
 cases m with
 |run =>
  cases todo with
  |nil =>
   simp only[tE,Ip,xj]
   split
   ·exact .const _
   simp_all
  |cons i k =>
   cases i with
   |code cd=>exact KK h hg cd _ _ _ _ _ _
   |inBlock _=>exact hg _ _ _ _ _ _ _
   |inScope _=>exact hg _ _ _ _ _ _ _
   |inLoop _=>exact hg _ _ _ _ _ _ _
   |beginRound =>
    simp only[tE,Ip,NJ]
    unfold HN
    split
    ·unfold Lf
     split
     ·simp_all
     ·exact .const _
    ·exact .const _
   |_=>exact .const _
 |returning=>exact unw _
 |panicking p=>exact unw _
 |round _=>exact .const _
theorem Ae(t:T LD):∀ l,Al (wh t l)
 |[]=>.ret []
 |i::r=>(mG _).bind fun x=>(Ae t r).map (x::·)
theorem QE{ih' go':be->sC}(h1:∀ t L todo ds m up H,bh c R (fun ih=>ih' ih t L todo ds m up H))(h2:∀ t L todo ds m up H,bh c R (fun ih=>go' ih t L todo ds m up H))(t:T LD)(L:LS)(todo:List Item)(ds:List qo)(m:eU)(up:Option eU)(H:DH) :
 bh c R (fun ih=>Fk an (ih' ih) (go' ih) t L todo ds m up H):=by
 unfold Fk
 split
 ·split
  ·exact bh.al (Ae _ _) fun xs=>.cond _ (h1 _ _ _ _ _ _ _) (.const _)
  ·exact h2 _ _ _ _ _ _ _
 ·exact h2 _ _ _ _ _ _ _
theorem tF(h:za c R){go':be->FuncId->Func->sC}(hg:∀ f fn t L todo ds m up H,bh c R (fun ih=>go' ih f fn t L todo ds m up H))(j:Dw)(H:DH):bh c R (fun ih=>qF E ih (go' ih) j H):=by
 cases j with
 |frame f fn t L todo ds m up=>exact Hn h (fun t L todo ds m up H=>QE (fun t L todo ds m up H=>.ih h _ _) (hg f fn) t L todo ds m up H) _ _ _ _ _ _ _
 |call f args up =>
  simp only[qF]
  have ent:bh c R (fun ih=>yl E (go' ih) f args up H):=by
   unfold yl
   split
   ·split
    ·refine .cond _ (.const _) (.cond _ ?_ ?_)
     ·simp only[oK args 0 .leaf (fun t=>go' _ _ _ t _ _ _ _ _ _)]
      intro y e
      change qD H (go' R f _ (gx args 0 T.leaf id) [] _ [] eU.run up H)=some y at e
      cases ho:go' R f ‹Func› (gx args 0 T.leaf id) [] [Item.code ‹Code›] [] eU.run up H with
      |none=>rw[ho]at e;cases e
      |some o =>
       obtain⟨n,hn⟩:=hg _ _ _ _ _ _ _ _ _ o ho
       refine⟨n,fun m hm=>?_⟩
       show qD H (go' (c m) f _ (gx args 0 T.leaf id) [] _ [] eU.run up H)=some y
       rw[show go' (c m) f _ (gx args 0 T.leaf id) [] _ [] eU.run up H=some o from hn m hm,<- ho];exact e
     ·simp only[oK args 0 .leaf (fun t=>go' _ _ _ t _ _ _ _ _ _)]
      exact hg _ _ _ _ _ _ _ _ _
    ·exact .const _
   ·exact .const _
  unfold JE
  split
  ·unfold sP
   split
   ·split
    ·refine .cond _ ?_ (.const _)
     simp only[sQ _ _ _ (fun t=>go' _ _ _ t _ _ _ _ _ _)]
     exact hg _ _ _ _ _ _ _ _ _
    ·exact .const _
   ·exact .const _
  ·unfold Nd
   split
   ·exact .const _
   ·exact ent
end
def eF(E:cF):be:=fun j H=>open Classical in if h:∃ o n,dK E n j H=some o then some h.choose else none
theorem Fj(E:cF):∀ n j H o,dK E n j H=some o->dK E (n+1) j H=some o
 |0,_,_,_,h=>by cases h
 |n+1,j,H,o,h=>by
  have hl:za (fun _=>dK E (n+1)) (dK E n):=fun j H o h=>⟨0,fun _ _=>Fj E n j H o h⟩
  obtain⟨k,hk⟩:=tF (E:=E) hl (go':=fun ih=>LC ih) (fun f fn t L todo ds m up H=>.ih hl _ _) j H o h
  exact hk k (Nat.le_refl _)
theorem CX(E:cF){n m:Nat}(hm:n<=m){j:Dw}{H:DH}{o:iC}(h:dK E n j H=some o):dK E m j H=some o:=by
 induction hm with
 |refl=>exact h
 |step _ ih=>exact Fj E _ j H o ih
theorem Om{E:cF}{n:Nat}{j:Dw}{H:DH}{o:iC}(h:dK E n j H=some o):eF E j H=some o:=by
 have hex:∃ o n,dK E n j H=some o:=⟨o,n,h⟩
 unfold eF
 rw[dif_pos hex]
 obtain⟨m,hm⟩:=hex.choose_spec
 have h1:=CX E (Nat.le_max_left n m) h
 grind [CX,Nat.le_max_right,Option.some.inj]
theorem xe{E:cF}{j:Dw}{H:DH}{o:iC}(h:eF E j H=some o):∃ n,dK E n j H=some o:=by
 unfold eF at h
 split at h
 ·grind
 ·cases h
theorem En(E:cF):za (dK E) (eF E):=fun j H o h=>by
 obtain⟨n,hn⟩:=xe h
 exact⟨n,fun m hm=>CX E hm hn⟩
theorem Ju(E:cF)(j:Dw)(H:DH):eF E j H=qF E (eF E) (LC (eF E)) j H:=by
 cases h:qF E (eF E) (LC (eF E)) j H with
 |some o =>
  obtain⟨n,hn⟩:=tF (E:=E) (En E) (go':=fun ih=>LC ih) (fun f fn t L todo ds m up H=>.ih (En E) _ _) j H o h
  exact Om (n:=n+1) (hn n (Nat.le_refl _))
 |none =>
  cases h2:eF E j H with
  |none=>rfl
  |some o =>
   obtain⟨n,hn⟩:=xe h2
   cases n with
   |zero=>cases hn
   |succ n =>
    have hl:za (fun _=>eF E) (dK E n):=fun j H o h=>⟨0,fun _ _=>Om h⟩
    obtain⟨k,hk⟩:=tF (E:=E) hl (go':=fun ih=>LC ih) (fun f fn t L todo ds m up H=>.ih hl _ _) j H o hn
    have h3:qF E (eF E) (LC (eF E)) j H=some o:=hk k (Nat.le_refl _)
    grind
theorem Fe(E:cF):∀ n,LT E (eF E) n=eF E
 |0=>rfl
 |n+1=>by
  funext j H
  simp_all[LT,Fe,Ju]
theorem Hy{E:cF}(hO:OW E):Dr E (eF E):=by
 refine⟨⟨fun f args up H out e g hH hok vs upv hr hu=>?_,fun o args H out e g hH hok vs l v hr ho=>?_⟩,fun f fn t L todo ds m up H out e b P0 g tv LO dsv mv upv rdv hH hf hd hm hu=>?_⟩
 ·obtain⟨n,hn⟩:=xe e
  exact(nY hO n).call.c f args up H out hn g hH hok vs upv hr hu
 ·obtain⟨n,hn⟩:=xe e
  exact(nY hO n).call.r o args H out hn g hH hok vs l v hr ho
 ·obtain⟨n,hn⟩:=xe e
  exact(nY hO n).frame f fn t L todo ds m up H out hn b P0 g tv LO dsv mv upv rdv hH hf hd hm hu
end Go.AI
namespace Go.Proofs.YtenibcfppefobaaGreatDoor.Rd
open Go.AI Go.Proofs Go.ChangeShapes Go.Proofs.YtenibcfppefobaaGreatDoor
inductive Ck where
 |bool|int|str|sl (t:Nat)
def LZ:List Nat:=[22,23]
def NE(P:Program)(Jf:Nat->Option (List Ck)):List Field->Nat->Option (List Ck)
 |[],_=>some []
 |f::r,off=>bif Nat.beq f.offset off then(match Jf f.type with
  |some l=>bif Nat.beq l.length (P.cellsOf f.type)then(match NE P Jf r (off+l.length)with
   |some m=>some (l++m)
   |none=>none)else none
  |none=>none)else none
def Hc(P:Program):Nat->TypeId->Option (List Ck)
 |0,_=>none
 |n+1,t=>match P.underlying t with
  |some .bool=>some [.bool]
  |some (.int .i64)=>some [.int]
  |some .string=>some [.str]
  |some (.slice _)=>bif LZ.contains t then some [.sl t] else none
  |some (.struct fs)=>NE P (Hc P n) fs.toList 0
  |_=>none
abbrev KC(n:Nat)(t:TypeId):Option (List Ck):=Hc Tryz.prog n t
def Jf(t:Nat):List Ck:=match Tryz.prog.underlying t with
 |some (.slice e)=>(KC 8 e).getD []
 |_=>[]
def Zq(t:Nat):Bool:=match Tryz.prog.underlying t with
 |some (.slice e)=>(match KC 8 e with
  |some l=>Nat.blt 0 l.length&&(Nat.beq (Tryz.prog.cellsOf e) l.length&&((match size Tryz.prog e with
   |some n=>Nat.beq n l.length
   |none=>false)&&Nat.blt 0 (Tryz.prog.bytesOf e)))
  |none=>false)
 |_=>false
theorem Mi:(LZ.all fun t=>(Nat.blt t 512&&!Nat.beq t 127)&&Zq t)=true:=by kernel_rfl
def tC(t i:Nat):Ck:=(Jf t).getD (i%(Jf t).length) .bool
def bytesOf(s:ByteArray):List Nat:=s.data.toList.map UInt8.toNat
theorem Lc(s:ByteArray):aC (bytesOf s)=s:=by
 obtain⟨a⟩:=s
 simp only[aC,bytesOf,List.map_map]
 congr 1
 have:(UInt8.ofNat ∘ UInt8.toNat)=id:=by funext x;simp
 simp_all
theorem Ox(s:ByteArray):∀ b∈bytesOf s,b<256:=by
 intro b hb
 simp only[bytesOf,List.mem_map]at hb
 obtain⟨x,_,rfl⟩:=hb
 exact x.toNat_lt
def Gi:Option Nat->Nat
 |none=>0
 |some n=>n+1
theorem GB(o:Option Nat):IE (Gi o)=o:=by cases o<;>rfl
def FM(N t:Nat)(a:Addr)(len cap:Nat):Option V :=
 if cap=0 then(if len=0 then some (.slice ⟨a.block,Gi a.spot,a.off⟩ 0 0 (some 0) 0)else none)
 else if a.spot=none/\len<=cap/\a.block<N/\0<(Jf t).length then some (.slice ⟨a.block,a.off*512+t,1+a.off⟩ 0 len (some cap) (Jf t).length)else none
def tV(N:Nat):Ck->Value->Option V
 |.bool,.bool b=>some (.bool b)
 |.int,.int .i64 n=>some (.int .i64 n)
 |.str,.string s=>some (.str (bytesOf s))
 |.sl _,.slice none 0 0=>some .nilslice
 |.sl t,.slice (some a) len cap=>FM N t a len cap
 |_,_=>none
def Ro(N:Nat):aD:=fun f _=>if f<N then some ⟨f,1,0⟩else none
theorem Fh{N:Nat}{k:Ck}{v:Value}{x:V}(h:tV N k v=some x):den (Ro N) x=some v:=by
 unfold tV at h
 split at h
 ·cases h;rfl
 ·cases h;rfl
 ·cases h;simp only[den,Lc]
 ·cases h;rfl
 ·rename_i t a len cap
  unfold FM at h
  split at h
  ·rename_i hc
   split at h
   ·rename_i hl
    cases h;subst hc;subst hl
    simp only[den,gL,if_true,and_self,GB]
   ·cases h
  ·split at h
   ·rename_i hc
    obtain⟨h1,h2,h3,h4⟩:=hc
    cases h
    have hr:Ro N a.block (a.off*512+t)=some ⟨a.block,1,0⟩:=by simp[Ro,h3]
    have:=dD (ρ:=Ro N) (a:=⟨a.block,a.off*512+t,1+a.off⟩) (z:=0) (len:=len) (cap:=some cap) (sz:=(Jf t).length) hr (by simp[bj]) (by simp) (by simpa[bS]using h2) h4
    rw[this]
    obtain⟨b,o,sp⟩:=a
    simp only at h1
    subst h1
    simp[bj,bS]
   ·cases h
 ·cases h
def hU(N:Nat)(t:Nat->Ck):Nat->List Value->List V
 |_,[]=>[]
 |i,c::r=>match tV N (t i) c with
  |some x=>x::hU N t (i+1) r
  |none=>[]
theorem yV{N:Nat}{t:Nat->Ck}:∀(i:Nat) (cs:List Value) (j:Nat) (x:V),(hU N t i cs)[j]? = some x->∃ y,den (Ro N) x=some y/\cs[j]? = some y
 |i,[],j,x,h=>by simp[hU]at h
 |i,c::r,j,x,h=>by
  simp only[hU]at h
  split at h
  ·rename_i x' hx
   cases j with
   |zero=>simp at h;subst h;exact⟨c,Fh hx,rfl⟩
   |succ j=>exact yV (i+1) r j x (by simpa using h)
  ·simp at h
def Lt(N:Nat):Value->Option V
 |.int k n=>some (.int k n)
 |.nilIface=>some .nilIface
 |.iface te (.pointer (some ⟨b,off,none⟩))=>if b<N then some (.iface te (.ptr ⟨b,0,1+off⟩))else none
 |_=>none
theorem Oj{N:Nat}{v:Value}{x:V}(h:Lt N v=some x):den (Ro N) x=some v:=by
 unfold Lt at h
 grind [Ro,den,iy]
def jE(N:Nat):List Value->Option (List V)
 |[]=>some []
 |c::r=>match Lt N c with
  |some x=>match jE N r with
   |some l=>some (x::l)
   |none=>none
  |none=>none
theorem yX{N:Nat}:∀ {l:List Value} {m:List V},jE N l=some m->m.length=l.length/\∀(i:Nat) (x:V),m[i]? = some x->∃ y,den (Ro N) x=some y/\l[i]? = some y
 |[],m,h=>by cases h;exact⟨rfl,fun i x h=>by simp at h⟩
 |c::r,m,h=>by
  simp only[jE]at h
  split at h
  ·rename_i x hx
   split at h
   ·rename_i l hl
    cases h
    obtain⟨h1,h2⟩:=yX hl
    refine⟨by simp[h1],fun i z hz=>?_⟩
    cases i with
    |zero=>simp at hz;subst hz;exact⟨c,Oj hx,rfl⟩
    |succ i=>simpa using h2 i z (by simpa using hz)
   ·cases h
  ·cases h
def vP(N:Nat)(c:List Value):List mK:=match jE N c with
 |some l=>[⟨127,1,l⟩]
 |none=>[]
def pG(N:Nat)(c:List Value):List mK:=vP N c++(List.range c.length).flatMap fun off=>LZ.map fun t=>⟨off*512+t,1+off,hU N (tC t) 0 (c.drop off)⟩
def Br(N:Nat):Option Obj->dS
 |some (.cells c _ _)=>.ro (pG N c.toList)
 |_=>.ro []
theorem xF{v:Nat}{u:mK}:∀ {vers:List mK},u∈vers->u.v=v->(∀ u'∈vers,u'.v=v->u'=u)->bu vers v=some u
 |[],h,_,_=>by cases h
 |w::r,h,hv,hu=>by
  simp only[bu]
  cases hb:Nat.beq w.v v with
  |true=>rw[hu w (by simp) (Nat.eq_of_beq_eq_true hb)];rfl
  |false =>
   rcases List.mem_cons.1 h with rfl|h
   ·simp_all
   ·exact xF h hv fun u' hu'=>hu u' (List.mem_cons_of_mem _ hu')
theorem LX{t:Nat}(h:t∈LZ):t<512/\t≠127:=by
 have:=List.all_eq_true.1 Mi t h
 simp only[Bool.and_eq_true,Bool.not_eq_true']at this
 refine⟨Nat.lt_of_succ_le (Nat.le_of_ble_eq_true this.1.1),fun e=>?_⟩
 simp_all
theorem LY{t:Nat}(h:t∈LZ):t<512:=(LX h).1
theorem If{N:Nat}{c:List Value}{u:mK}(h:u∈vP N c):u.v=127/\u.lo=1/\jE N c=some u.cells:=by
 grind [vP]
theorem ML{N:Nat}{c:List Value}{u:mK}(h:u∈(List.range c.length).flatMap fun off=>LZ.map fun t=>(⟨off*512+t,1+off,hU N (tC t) 0 (c.drop off)⟩:mK)):∃ off t,off<c.length/\t∈LZ/\u=⟨off*512+t,1+off,hU N (tC t) 0 (c.drop off)⟩:=by
 grind
theorem LW{t off:Nat}(h:t∈LZ):off*512+t≠127:=by
 have:=LX h;omega
theorem CF{N:Nat}{c:List Value}{off t:Nat}(h:off<c.length)(ht:t∈LZ):bu (pG N c) (off*512+t)=some ⟨off*512+t,1+off,hU N (tC t) 0 (c.drop off)⟩:=by
 refine xF (List.mem_append_right _ ?_) rfl ?_
 ·simp only[List.mem_flatMap,List.mem_range,List.mem_map]
  grind
 ·intro u' hu' hv
  rcases List.mem_append.1 hu' with hu'|hu'
  ·rw[(If hu').1]at hv
   exact absurd hv.symm (LW ht)
  ·obtain⟨o,t',ho,ht',rfl⟩:=ML hu'
   simp only at hv
   have h1:=LY ht
   have h2:=LY ht'
   grind
theorem zC{N:Nat}{c:List Value}{l:List V}(h:jE N c=some l):bu (pG N c) 127=some ⟨127,1,l⟩:=by
 have:vP N c=[⟨127,1,l⟩]:=by unfold vP;rw[h]
 unfold pG
 rw[this]
 rfl
def Th(N:Nat)(W:World):Nat->S
 |0=>⟨.leaf,0⟩
 |n+1=>(Th N W n).alloc (Br N W.heap[n]?)
theorem kP(N:Nat)(W:World):∀ n,(Th N W n).next=n
 |0=>rfl
 |n+1=>by simp only[Th,S.next_alloc,kP N W n]
theorem vj(N:Nat)(W:World):∀ n f,(Th N W n).get f=if f<n then some (Br N W.heap[f]?)else none
 |0,f=>by simp only[Th,S.get_eq,T.get_leaf];simp
 |n+1,f=>by
  simp only[Th,S.get_alloc,kP,vj N W n f]
  grind
def bV(W:World):S:=Th W.heap.size W W.heap.size
theorem we{W:World}{f:Nat}{B:dS}(h:(bV W).get f=some B):f<W.heap.size/\B=Br W.heap.size W.heap[f]?:=by
 grind [bV,vj]
theorem Oy(N:Nat)(o:Option Obj):∃ vs,Br N o=.ro vs:=by
 unfold Br
 split
 ·grind
 grind
theorem Iu(W:World):HR (Ro W.heap.size) (bV W) W:=by
 refine⟨?_,?_,?_,?_,?_,?_⟩
 ·intro f v hf
  unfold bV at hf
  rw[kP]at hf
  simp[Ro,show ¬ f<W.heap.size by omega]
 ·intro f v l f' v' l' e e' hb
  unfold Ro at e e'
  split at e
  ·split at e'
   ·cases e;cases e';exact⟨hb,rfl⟩
   ·cases e'
  ·cases e
 ·intro f v l e
  unfold Ro at e
  split at e
  ·rename_i hf;cases e;exact hf
  ·cases e
 ·intro f B hB
  obtain⟨hf,rfl⟩:=we hB
  unfold Br
  split
  ·rename_i c e fz ho
   intro u hu
   have hr:∀ v,Ro W.heap.size f v=some ⟨f,1,0⟩:=fun v=>by simp[Ro,hf]
   rcases List.mem_append.1 hu with hu|hu
   ·obtain⟨h1,h2,h3⟩:=If hu
    obtain⟨h4,h5⟩:=yX h3
    refine⟨⟨⟨f,1,0⟩,c,e,fz,hr _,ho,by simp[h2],fun i x hx=>?_⟩,⟨⟨f,1,0⟩,c,e,fz,hr _,rfl,ho,fun _=>⟨h2.symm,by rw[h4,Array.length_toList]⟩⟩⟩
    obtain⟨y,h6,h7⟩:=h5 i x hx
    refine⟨y,h6,?_⟩
    rw[Array.getElem?_toList]at h7
    rw[h2]
    simpa using h7
   ·obtain⟨off,t,hoff,ht,rfl⟩:=ML hu
    refine⟨⟨⟨f,1,0⟩,c,e,fz,hr _,ho,by simp,fun i x hx=>?_⟩,⟨⟨f,1,0⟩,c,e,fz,hr _,rfl,ho,fun hv=>absurd hv (LW ht)⟩⟩
    obtain⟨y,h1,h2⟩:=yV 0 _ i x hx
    refine⟨y,h1,?_⟩
    rw[List.getElem?_drop,Array.getElem?_toList]at h2
    simp only
    rw[show 1+off - 1+i=off+i by omega]
    exact h2
  ·intro u hu;cases hu
 ·intro f B hB
  have:=(we hB).1
  unfold bV
  rw[kP];exact this
 ·intro f B hB hn
  obtain⟨_,rfl⟩:=we hB
  obtain⟨vs,hv⟩:=Oy W.heap.size W.heap[f]?
  exact absurd hv (hn vs)
theorem Py(W:World):WF (bV W):=(Iu W).dom
def jN(N:Nat):List Ck->List Value->List V->Prop
 |[],[],[]=>True
 |k::ks,c::cs,x::xs=>tV N k c=some x/\jN N ks cs xs
 |_,_,_=>False
theorem jN.get{N:Nat}:∀ {ks:List Ck} {cs:List Value} {l:List V},jN N ks cs l->ks.length=l.length/\cs.length=l.length/\∀(j:Nat) (x:V),l[j]? = some x->∃ y,cs[j]? = some y/\tV N (ks.getD j .bool) y=some x
 |[],[],[],_=>⟨rfl,rfl,fun j x h=>by simp at h⟩
 |k::ks,c::cs,x::xs,h=>by
  obtain⟨h1,h2,h3⟩:=jN.get h.2
  refine⟨by simp[h1],by simp[h2],fun j z hz=>?_⟩
  cases j with
  |zero=>simp at hz;subst hz;exact⟨c,rfl,h.1⟩
  |succ j=>simpa using h3 j z (by simpa using hz)
 |[],[],_::_,h=>h.elim
 |[],_::_,_,h=>h.elim
 |_::_,[],_,h=>h.elim
 |_::_,_::_,[],h=>h.elim
theorem jN.den{N:Nat}:∀ {ks:List Ck} {cs:List Value} {l:List V},jN N ks cs l->aQ (Ro N) l=some cs
 |[],[],[],_=>rfl
 |k::ks,c::cs,x::xs,h=>by simp only[aQ,Fh h.1,jN.den h.2]
 |[],[],_::_,h=>h.elim
 |[],_::_,_,h=>h.elim
 |_::_,[],_,h=>h.elim
 |_::_,_::_,[],h=>h.elim
theorem OQ{N:Nat}{k:Ck}{v:Value}{x:V}(h:tV N k v=some x):x.one=true:=by
 unfold tV at h
 split at h
 ·cases h;rfl
 ·cases h;rfl
 ·cases h;rfl
 ·cases h;rfl
 ·unfold FM at h
  (repeat' split at h)<;>first|(cases h;done)|(cases h;rfl)
 ·cases h
theorem jN.one{N:Nat}:∀ {ks:List Ck} {cs:List Value} {l:List V},jN N ks cs l->l.all V.one=true
 |[],[],[],_=>rfl
 |k::ks,c::cs,x::xs,h=>by simp only[List.all_cons,OQ h.1,jN.one h.2,Bool.and_self]
 |[],[],_::_,h=>h.elim
 |[],_::_,_,h=>h.elim
 |_::_,[],_,h=>h.elim
 |_::_,_::_,[],h=>h.elim
theorem yF{α:Type}{Q:Nat->α->Prop}:∀(n:Nat),(∀ k,k<n->∃ z,Q k z)->∃ xs:List α,xs.length=n/\∀ k z,xs[k]? = some z->Q k z
 |0,_=>⟨[],rfl,fun k z h=>by simp at h⟩
 |n+1,h=>by
  obtain⟨xs,h1,h2⟩:=yF n fun k hk=>h k (by omega)
  obtain⟨z,hz⟩:=h n (by omega)
  refine⟨xs++[z],by simp[h1],fun k y hy=>?_⟩
  grind
section
variable{H:Type}{enc:TypeId×Value->H}{W:World}{fuel:Nat}{t:TypeId}{cs:List Value}{x:DataW H×List MemPlace}
abbrev Td(enc:TypeId×Value->H)(W:World)(fuel:Nat)(t:TypeId)(cs:List Value):Option (DataW H×List MemPlace):=DataW.trod enc Tryz.prog W 0 (fun _=>true) true fuel t cs
def Wt(t:TypeId)(d:DataW H):Prop:=∀ n∈DataW.weights Tryz.prog t d,n<=reachBytes
theorem mR{e:TypeId}:∀ {ds:List (DataW H)} {d:DataW H},d∈ds->∀ n∈DataW.weights Tryz.prog e d,n∈DataW.weightsAll Tryz.prog e ds
 |[],_,h,_,_=>by cases h
 |x::r,d,h,n,hn=>by
  rw[DataW.weightsAll]
  rcases List.mem_cons.1 h with rfl|h
  ·grind
  ·exact List.mem_append_right _ (mR h n hn)
theorem jh:∀ {ts:List TypeId} {ds:List (DataW H)} {i:Nat} {t:TypeId} {d:DataW H},ts[i]? = some t->ds[i]? = some d->∀ n∈DataW.weights Tryz.prog t d,n∈DataW.weightsEach Tryz.prog ts ds
 |[],_,i,_,_,h,_,_,_=>by simp at h
 |_::_,[],i,_,_,_,h,_,_=>by simp at h
 |t::ts,d::ds,0,_,_,h,k,n,hn=>by
  simp at h k;subst h;subst k
  rw[DataW.weightsEach]
  grind
 |t::ts,d::ds,i+1,_,_,h,k,n,hn=>by
  rw[DataW.weightsEach]
  exact List.mem_append_right _ (jh (ts:=ts) (ds:=ds) (i:=i) (by simpa using h) (by simpa using k) n hn)
theorem Bw{N:Nat}{t:Nat->Ck}:∀(m i:Nat) (cs:List Value),(∀ j,j<m->∃ y x,cs[j]? = some y/\tV N (t (i+j)) y=some x) ->
 ∀ j,j<m->∀ y x,cs[j]? = some y->tV N (t (i+j)) y=some x->(hU N t i cs)[j]? = some x
 |0,i,cs,_,j,hj,_,_,_,_=>by omega
 |m+1,i,[],h,j,hj,_,_,e,_=>by simp at e
 |m+1,i,c::cs,h,j,hj,y,x,e,k=>by
  obtain⟨y0,x0,h1,h2⟩:=h 0 (by omega)
  simp at h1;subst h1
  simp only[Nat.add_zero]at h2
  simp only[hU,h2]
  cases j with
  |zero =>
   grind
  |succ j =>
   have ih:=Bw m (i+1) cs (fun j hj=>by
    obtain⟨y,x,h3,h4⟩:=h (j+1) (by omega)
    exact⟨y,x,by simpa using h3,by rw[show i+1+j=i+(j+1)by omega];exact h4⟩) j (by omega) y x (by simpa using e) (by rw[show i+1+j=i+(j+1)by omega];exact k)
   simpa using ih
theorem Ft{w:World}{a:Addr}{v:Value}(h:w.cell? a=some v):∃ c e fz,w.heap[a.block]? = some (.cells c e fz)/\a.spot=none/\c[a.off]? = some v:=by
 unfold World.cell? at h
 split at h
 ·simp_all
 ·cases h
theorem mT:∀(l:List V) (n:Nat),n<=l.length->aU n l=some (l.take n)
 |l,0,_=>by cases l<;>rfl
 |[],n+1,h=>by simp at h
 |x::r,n+1,h=>by simp only[aU,mT r n (by simpa using h),Option.map,List.take_succ_cons]
end
theorem jN.app{N:Nat}:∀ {ks:List Ck} {cs:List Value} {l:List V} {ks':List Ck} {cs':List Value} {l':List V},jN N ks cs l->jN N ks' cs' l'->jN N (ks++ks') (cs++cs') (l++l')
 |[],[],[],_,_,_,_,h=>h
 |k::ks,c::cs,x::xs,_,_,_,h,h'=>⟨h.1,jN.app h.2 h'⟩
 |[],[],_::_,_,_,_,h,_=>h.elim
 |[],_::_,_,_,_,_,h,_=>h.elim
 |_::_,[],_,_,_,_,h,_=>h.elim
 |_::_,_::_,[],_,_,_,h,_=>h.elim
mutual
def cnt:D->Nat
 |.row _ l=>yB l+1
 |_=>1
def oa:List D->Nat
 |[]=>0
 |d::r=>cnt d+oa r
def yB:List (List D)->Nat
 |[]=>0
 |c::r=>oa c+yB r
end
theorem Fp:∀(a b:List D),oa (a++b)=oa a+oa b
 |[],b=>by simp[oa]
 |d::r,b=>by simp only[List.cons_append,oa,Fp r b];omega
theorem wG{H:Type}(d:DataW H):1<=Rows.uptoBulk d:=by
 cases d with
 |lit l=>cases l<;>simp[Rows.uptoBulk]
 |nil=>simp[Rows.uptoBulk]
 |ptr d=>simp[Rows.uptoBulk]
 |slice elems spare=>simp[Rows.uptoBulk]
 |agg parts=>simp[Rows.uptoBulk]
 |iface t d=>simp[Rows.uptoBulk]
 |map entries=>simp[Rows.uptoBulk]
 |held h=>simp[Rows.uptoBulk]
theorem Fo{H:Type}:∀(l:List (List D)) (ds:List (DataW H)),l.length=ds.length->(∀(i:Nat) a d,l[i]? = some a->ds[i]? = some d->oa a<=Rows.uptoBulk d)->yB l<=Rows.uptoBulkAll ds
 |[],ds,_,_=>by simp[yB]
 |a::l,[],h,_=>by simp at h
 |a::l,d::ds,h,k=>by
  have h1:=k 0 a d rfl rfl
  have h2:=Fo l ds (by simpa using h) fun i a d e1 e2=>k (i+1) a d (by simpa using e1) (by simpa using e2)
  simp only[yB,Rows.uptoBulkAll];omega
inductive Ph:Ck->D->Prop
 |bool (b:Bool):Ph .bool (.bool b)
 |int (n:Int):Ph .int (.int .i64 n)
 |str (l:List Nat):Ph .str (.str l)
 |row (t:Nat) (ly:List Ck) (l:List (List D)):Jf t=ly->l.length<2^50->(∀ cs∈l,cs.length=ly.length)->(∀ cs∈l,∀(i:Nat) k d,ly[i]? = some k->cs[i]? = some d->Ph k d)->Ph (.sl t) (.row ly.length l)
def JS(ks:List Ck)(ds:List D):Prop:=ds.length=ks.length/\∀(i:Nat) k d,ks[i]? = some k->ds[i]? = some d->Ph k d
theorem JS.nil:JS [] []:=⟨rfl,fun i k d h=>by simp at h⟩
theorem JS.one{k:Ck}{d:D}(h:Ph k d):JS [k] [d]:=⟨rfl,fun i k' d' h1 h2=>by
 cases i with
 |zero=>simp at h1 h2;subst h1;subst h2;exact h
 |succ i=>simp at h1⟩
theorem JS.app{ks ks':List Ck}{ds ds':List D}(h:JS ks ds)(h':JS ks' ds'):JS (ks++ks') (ds++ds'):=by
 refine⟨by simp[h.1,h'.1],fun i k d h1 h2=>?_⟩
 by_cases hi:i<ks.length
 ·rw[List.getElem?_append_left hi]at h1
  rw[List.getElem?_append_left (by rw[h.1];exact hi)]at h2
  exact h.2 i k d h1 h2
 ·rw[List.getElem?_append_right (by omega)]at h1
  rw[List.getElem?_append_right (by rw[h.1];omega),h.1]at h2
  exact h'.2 _ k d h1 h2
def g0(W:World):Gh:=⟨[],[],[],bV W⟩
theorem TM{W:World}{f:Nat}(h:f<W.heap.size):(g0 W).Imm f:=by
 refine⟨?_,?_,fun o v h=>?_⟩
 ·show f<(bV W).next
  grind [bV,kP]
 ·show f∉([]:List Nat)
  simp
 ·have h:([]:List (Option (Nat×Nat)))[o]? = some (some (f,v)):=h
  simp at h
section
variable{H:Type}{enc:TypeId×Value->H}{W:World}
def Rd(W:World)(ks:List Ck)(cs:List Value)(b:Nat):Prop:=∃(vs:List V) (ds:List D),jN W.heap.size ks cs vs/\RL (g0 W) ds vs/\JS ks ds/\oa ds<=b
theorem RL.one{g:Gh}{d:D}{v:V}(h:RD g d v):RL g [d] [v]:=by
 grind [RL]
theorem PJ{ty e:Nat}{ly:List Ck}{kd:Nat->Ck}(hly:Jf ty=ly)(hkd:∀ i,kd i=ly.getD (i%ly.length) .bool)(hfv:∀ {N:Nat} {c:List Value} {off:Nat},off<c.length->bu (pG N c) (off*512+ty)=some ⟨off*512+ty,1+off,hU N kd 0 (c.drop off)⟩)(hu:Tryz.prog.underlying ty=some (.slice e))(hc:Tryz.prog.cellsOf e=ly.length)
 (h0:0<ly.length) (hb:0<Tryz.prog.bytesOf e) {fuel:Nat} {cs:List Value} {x:DataW H×List MemPlace} (h:Td enc W fuel ty cs=some x) (hw:Wt ty x.1)
 (hel:∀ n cells y,fuel=n+1->Td enc W n e cells=some y->Wt e y.1->Rd W ly cells (Rows.uptoBulk y.1)):Rd W [.sl ty] cs (Rows.uptoBulk x.1):=by
 rcases DataW.trod_slice hu h with⟨rfl,_⟩|⟨a,len,cap,elems,rest,n,hn,rfl,hx,_,hle,_,hlen,hel',hsp,_⟩
 ·exact⟨[.nilslice],[.row ly.length []],⟨rfl,trivial⟩,RL.one (by rw[RD];exact .inl ⟨rfl,rfl⟩),.one (.row ty ly [] hly (by simp) (fun _ h=>by cases h) (fun _ h=>by cases h)),by simpa[oa,cnt,yB]using wG x.1⟩
 ·subst hn
  by_cases hcap:cap=0
  ·obtain rfl:len=0:=by omega
   subst hcap
   exact⟨[.slice ⟨a.block,Gi a.spot,a.off⟩ 0 0 (some 0) 0],[.row ly.length []],⟨by simp only[tV,FM,if_true,and_self],trivial⟩,RL.one (by rw[RD];exact .inr (.inl ⟨rfl,_,_,_,rfl⟩)),.one (.row ty ly [] hly (by simp) (fun _ h=>by cases h) (fun _ h=>by cases h)),by simpa[oa,cnt,yB]using wG x.1⟩
  ·obtain⟨hrl,hre⟩:=hsp rfl
   have hwe:∀ y,y∈elems->Wt e y.1:=fun y hy m hm=>by
    refine hw m ?_
    rw[hx]
    simp only[DataW.weights,hu]
    exact List.mem_cons_of_mem _ (List.mem_append_left _ (mR (List.mem_map_of_mem hy) m hm))
   have hbn:len*Tryz.prog.bytesOf e<=reachBytes:=by
    have:=hw ((elems.length+rest.length)*Tryz.prog.bytesOf e) (by rw[hx];simp only[DataW.weights,hu,List.length_map];exact List.mem_cons_self)
    grind
   have hfirst:∃ cells,W.cells? 0 (a.add 0) ly.length=some cells:=by
    by_cases h1:0<len
    ·have:=hel' 0 h1
     rw[Nat.zero_mul,hc,List.getElem?_eq_getElem (by omega)]at this
     obtain⟨cells,h2,_⟩:=Option.bind_eq_some_iff.1 this
     grind
    ·have:=hre 0 (by omega)
     rw[show(len+0)*Tryz.prog.cellsOf e=0 by rw[show len=0 by omega];simp,hc,List.getElem?_eq_getElem (by omega)]at this
     obtain⟨cells,h2,_⟩:=Option.bind_eq_some_iff.1 this
     grind
   obtain⟨c0,hc0⟩:=hfirst
   obtain⟨_,hc1,hc2⟩:=World.cells?_some hc0
   have hcell:=hc2 0 h0
   rw[List.getElem?_eq_getElem (by omega)]at hcell
   simp only[Addr.add,if_true]at hcell
   obtain⟨carr,e',fz,hheap,hspot,hcell⟩:=Ft hcell
   obtain⟨b,off,spot⟩:=a
   simp only at hspot hheap hcell
   subst hspot
   have hblk:b<W.heap.size:=by
    grind
   have hoff:off<carr.size:=(Array.getElem?_eq_some_iff.1 hcell).1
   obtain⟨zs,hzl,hz⟩:=yF (Q:=fun k (z:List D×List V)=>∃ cells,W.cells? 0 ((⟨b,off,none⟩:Addr).add (k*ly.length)) ly.length=some cells/\jN W.heap.size ly cells z.2/\RL (g0 W) z.1 z.2/\JS ly z.1/\∀ y,elems[k]? = some y->oa z.1<=Rows.uptoBulk y.1) len (fun k hk=>by
    have:=hel' k hk
    rw[hc,List.getElem?_eq_getElem (by omega)]at this
    obtain⟨cells,h2,h3⟩:=Option.bind_eq_some_iff.1 this
    obtain⟨l,z,h4,h5,h6,h7⟩:=hel n cells _ rfl h3 (hwe _ (List.getElem_mem _))
    exact⟨(z,l),cells,h2,h4,h5,h6,fun y hy=>by rw[List.getElem?_eq_getElem (by omega)]at hy;cases hy;exact h7⟩)
   have hcellat:∀ k,k<len->∀ cells,W.cells? 0 ((⟨b,off,none⟩:Addr).add (k*ly.length)) ly.length=some cells->∀ i,i<ly.length->carr.toList[off+(k*ly.length+i)]? = cells[i]?:=fun k hk cells hcl i hi=>by
    obtain⟨_,h1,h2⟩:=World.cells?_some hcl
    have h3:=h2 i hi
    have h4:((⟨b,off,none⟩:Addr).add (k*ly.length)).add i=⟨b,off+(k*ly.length+i),none⟩:=by
     simp only[Addr.add]
     by_cases hk0:k*ly.length=0
     ·simp_all
     ·by_cases hi0:i=0
      ·simp_all
      ·simp[hk0,hi0];omega
    rw[h4]at h3
    simp only[World.cell?,hheap]at h3
    grind
   have hrow:∀ k,k<len->∀ cells l,W.cells? 0 ((⟨b,off,none⟩:Addr).add (k*ly.length)) ly.length=some cells->jN W.heap.size ly cells l->∀ i,i<ly.length->∃ y x,(carr.toList.drop off)[k*ly.length+i]? = some y/\l[i]? = some x/\tV W.heap.size (kd (0+(k*ly.length+i))) y=some x:=fun k hk cells l hcl hab i hi=>by
    obtain⟨h1,h2,h3⟩:=jN.get hab
    have hi':i<l.length:=by omega
    obtain⟨y,hy1,hy2⟩:=h3 i l[i] (List.getElem?_eq_getElem hi')
    refine⟨y,l[i],?_,List.getElem?_eq_getElem hi',?_⟩
    ·grind
    ·rw[hkd,Nat.zero_add,Nat.add_comm,Nat.add_mul_mod_self_right,Nat.mod_eq_of_lt hi]
     exact hy2
   have hall:∀ j,j<len*ly.length->∃ y x,(carr.toList.drop off)[j]? = some y/\tV W.heap.size (kd (0+j)) y=some x:=fun j hj=>by
    have hk:j / ly.length<len:=Nat.div_lt_of_lt_mul (by rw[Nat.mul_comm];exact hj)
    obtain⟨cells,h1,h2,_⟩:=hz (j / ly.length) _ (List.getElem?_eq_getElem (by omega))
    obtain⟨y,x,h3,_,h4⟩:=hrow _ hk cells _ h1 h2 (j%ly.length) (Nat.mod_lt _ h0)
    grind [Nat.div_add_mod]
   have hn50:len<2^50:=by
    have:len<=reachBytes:=Nat.le_trans (Nat.le_mul_of_pos_right _ hb) hbn
    unfold reachBytes at this
    omega
   refine⟨[.slice ⟨b,off*512+ty,1+off⟩ 0 len (some cap) ly.length],[.row ly.length (zs.map (·.1))],⟨by simp only[tV,FM];rw[if_neg hcap,hly,if_pos ⟨trivial,hle,hblk,h0⟩],trivial⟩,RL.one ?_,.one (.row ty ly _ hly (by simp[hzl,hn50]) ?_ ?_),?_⟩
   ·rw[RD]
    refine .inr (.inr ⟨⟨b,off*512+ty,1+off⟩,0,some cap,by simp[hzl],h0,.inl rfl,fun c hc=>by cases hc;simp[hzl,hle],fun _=>TM hblk,RR.of fun k l0 hk=>?_⟩)
    rw[List.getElem?_map]at hk
    obtain⟨z,hkz,hz0⟩:∃ z,zs[k]? = some z/\z.1=l0:=by
     simp_all
    have hkl:k<len:=by rw[<- hzl];exact(List.getElem?_eq_some_iff.1 hkz).1
    obtain⟨cells,h1,h2,h3,h4,_⟩:=hz k z hkz
    obtain⟨_,l⟩:=z
    simp only at hz0 h2 h3 h4
    subst hz0
    refine⟨l,h4.1,?_,h3,h2.one⟩
    have hg:(bV W).get b=some (.ro (pG W.heap.size carr.toList)):=by
     unfold bV
     rw[vj,if_pos hblk,hheap]
     rfl
    show Go.AI.loadCells (bV W) (bN ⟨b,off*512+ty,1+off⟩ (k*ly.length)) ly.length=some l
    simp only[Go.AI.loadCells,bN,hg,hfv (N:=W.heap.size) (c:=carr.toList) (off:=off) (by simpa using hoff)]
    rw[Nat.ble_eq_true_of_le (show 1+off<=1+off+k*ly.length by omega),cond_true,show 1+off+k*ly.length - (1+off)=k*ly.length by omega]
    obtain⟨k1,k2,k3⟩:=jN.get h2
    have hget:∀ i,i<ly.length->((hU W.heap.size kd 0 (carr.toList.drop off)).drop (k*ly.length))[i]? = l[i]?:=fun i hi=>by
     obtain⟨y,x,h4,h5,h6⟩:=hrow k hkl cells l h1 h2 i hi
     rw[List.getElem?_drop,h5]
     refine Bw (len*ly.length) 0 _ hall _ ?_ y x h4 h6
     calc k*ly.length+i<k*ly.length+ly.length:=by omega
      _=(k+1)*ly.length:=by rw[Nat.succ_mul]
      _<=len*ly.length:=Nat.mul_le_mul_right _ hkl
    have hlen2:ly.length<=((hU W.heap.size kd 0 (carr.toList.drop off)).drop (k*ly.length)).length:=by
     have:=hget (ly.length - 1) (by omega)
     grind
    rw[mT _ _ hlen2]
    refine congrArg some ?_
    refine List.ext_getElem? fun i=>?_
    by_cases hi:i<ly.length
    ·rw[List.getElem?_take_of_lt hi,hget i hi]
    ·rw[List.getElem?_eq_none (by rw[List.length_take];omega),List.getElem?_eq_none (by omega)]
   ·intro cs hcs
    obtain⟨z,hz1,rfl⟩:=List.mem_map.1 hcs
    obtain⟨k,hk,rfl⟩:=List.mem_iff_getElem.1 hz1
    obtain⟨_,_,_,_,h4,_⟩:=hz k _ (List.getElem?_eq_getElem hk)
    exact h4.1
   ·intro cs hcs
    obtain⟨z,hz1,rfl⟩:=List.mem_map.1 hcs
    obtain⟨k,hk,rfl⟩:=List.mem_iff_getElem.1 hz1
    obtain⟨_,_,_,_,h4,_⟩:=hz k _ (List.getElem?_eq_getElem hk)
    exact h4.2
   ·have:=Fo (zs.map (·.1)) (elems.map (·.1)) (by simp[hzl,hlen]) fun i a d e1 e2=>by
     rw[List.getElem?_map]at e1 e2
     cases h1:zs[i]? with
     |none=>rw[h1]at e1;cases e1
     |some z =>
      cases h2:elems[i]? with
      |none=>rw[h2]at e2;cases e2
      |some y =>
       rw[h1]at e1;rw[h2]at e2
       cases e1;cases e2
       obtain⟨_,_,_,_,_,h5⟩:=hz i z h1
       exact h5 y h2
    rw[hx]
    simp only[oa,cnt,Rows.uptoBulk]
    omega
theorem IC{m:Nat}{P:TypeId->List Value->DataW H->Prop}{cs:List Value}(hP:∀ t ks c y,KC m t=some ks->Tryz.prog.cellsOf t=ks.length->P t c y->Rd W ks c (Rows.uptoBulk y)):∀(fs:List Field) (ys:List (DataW H)) (off:Nat) (ks:List Ck),NE Tryz.prog (Hc Tryz.prog m) fs off=some ks->fs.length=ys.length ->
 (∀(i:Nat) f y,fs[i]? = some f->ys[i]? = some y->P f.type ((cs.drop f.offset).take (Tryz.prog.cellsOf f.type)) y)->Rd W ks ((cs.drop off).take ks.length) (Rows.uptoBulkAll ys)
 |[],ys,off,ks,h,_,_=>by
  simp only[NE,Option.some.injEq]at h
  subst h
  exact⟨[],[],by simp[jN],by simp only[RL],.nil,by simp[oa]⟩
 |f::r,[],off,ks,_,hl,_=>by simp at hl
 |f::r,y::ys,off,ks,h,hlen,hf=>by
  simp only[NE]at h
  cases ho:Nat.beq f.offset off with
  |false=>rw[ho,cond_false]at h;cases h
  |true =>
   rw[ho,cond_true]at h
   have ho:=Nat.eq_of_beq_eq_true ho
   split at h
   ·rename_i l hl
    cases hc:Nat.beq l.length (Tryz.prog.cellsOf f.type)with
    |false=>rw[hc,cond_false]at h;cases h
    |true =>
     rw[hc,cond_true]at h
     have hc:=Nat.eq_of_beq_eq_true hc
     split at h
     ·rename_i m' hm
      cases h
      obtain⟨v1,d1,a1,a2,a3,a4⟩:=hP f.type l _ y hl hc.symm (hf 0 f y rfl rfl)
      obtain⟨v2,d2,b1,b2,b3,b4⟩:=IC hP r ys (off+l.length) m' hm (by simpa using hlen) fun i g z e1 e2=>hf (i+1) g z (by simpa using e1) (by simpa using e2)
      refine⟨v1++v2,d1++d2,?_,RL.append a2 b2,a3.app b3,by rw[Fp];simp only[Rows.uptoBulkAll];omega⟩
      have:(cs.drop off).take (l++m').length=(cs.drop f.offset).take (Tryz.prog.cellsOf f.type)++(cs.drop (off+l.length)).take m'.length:=by
       rw[ho,<- hc,List.length_append,<- List.drop_drop,<- List.take_add]
      rw[this]
      exact a1.app b1
     ·cases h
   ·cases h
theorem Vq:∀(N m:Nat) {fuel:Nat} {t:TypeId} {cs:List Value} {ks:List Ck} {x:DataW H×List MemPlace},fuel<=N->KC m t=some ks->Tryz.prog.cellsOf t=ks.length->Td enc W fuel t cs=some x->Wt t x.1->Rd W ks cs (Rows.uptoBulk x.1):=by
 intro N
 induction N with
 |zero =>
  intro m fuel t cs ks x hN _ _ h _
  obtain rfl:fuel=0:=by omega
  simp[Td,DataW.trod]at h
 |succ N ih =>
  intro m fuel t cs ks x hN hk hcl h hw
  cases m with
  |zero=>change Hc Tryz.prog 0 t=_ at hk;rw[Hc]at hk;cases hk
  |succ m =>
   change Hc Tryz.prog (m+1) t=_ at hk
   rw[Hc]at hk
   split at hk
   ·rename_i ht
    cases hk
    obtain⟨b,rfl,_⟩:=DataW.trod_bool ht h
    exact⟨[.bool b],[.bool b],⟨rfl,trivial⟩,RL.one (by simp only[RD]),.one (.bool b),by simpa[oa,cnt]using wG x.1⟩
   ·rename_i ht
    cases hk
    obtain⟨n,rfl,_⟩:=DataW.trod_int ht h
    exact⟨[.int .i64 n],[.int .i64 n],⟨rfl,trivial⟩,RL.one (by simp only[RD]),.one (.int n),by simpa[oa,cnt]using wG x.1⟩
   ·rename_i ht
    cases hk
    obtain⟨s,rfl,_⟩:=DataW.trod_string ht h
    exact⟨[.str (bytesOf s)],[.str (bytesOf s)],⟨rfl,trivial⟩,RL.one (by simp only[RD];exact⟨trivial,Ox s⟩),.one (.str _),by simpa[oa,cnt]using wG x.1⟩
   ·rename_i e ht
    cases hc:LZ.contains t with
    |false=>rw[hc,cond_false]at hk;cases hk
    |true =>
     rw[hc,cond_true]at hk
     cases hk
     have hty:t∈LZ:=by simpa using hc
     have hok:=List.all_eq_true.1 Mi t hty
     simp only[Bool.and_eq_true]at hok
     have hok:=hok.2
     unfold Zq at hok
     rw[ht]at hok
     simp only at hok
     have hly:Jf t=(KC 8 e).getD []:=by unfold Jf;rw[ht]
     split at hok
     ·rename_i l he
      rw[he]at hly
      have hly:Jf t=l:=hly
      simp only[Bool.and_eq_true]at hok
      obtain⟨k1,k2,k3,k4⟩:=hok
      have k1:0<l.length:=Nat.lt_of_succ_le (Nat.le_of_ble_eq_true k1)
      have k2:=Nat.eq_of_beq_eq_true k2
      have k4:0<Tryz.prog.bytesOf e:=Nat.lt_of_succ_le (Nat.le_of_ble_eq_true k4)
      exact PJ (kd:=tC t) hly (fun i=>by unfold tC;rw[hly]) (fun h=>CF h hty) ht k2 k1 k4 h hw fun n cells y hf hy hwy=>ih 8 (by omega) he k2 hy hwy
     ·cases hok
   ·rename_i fs ht
    obtain⟨xs,n,hn,hx,hl,hsz,hf⟩:=DataW.trod_struct ht h
    have hr:=IC (W:=W) (m:=m) (cs:=cs) (P:=fun t c y=>∃ z,Td enc W n t c=some z/\z.1=y/\Wt t z.1) (fun t ks c y hks h0 ⟨z,h1,h2,h3⟩=>by rw[<- h2];exact ih m (by omega) hks h0 h1 h3) fs.toList (xs.map (·.1)) 0 ks hk (by simp[hsz]) (fun i f y e1 e2=>by
     have e3:fs[i]? = some f:=by rw[<- Array.getElem?_toList];exact e1
     rw[List.getElem?_map]at e2
     cases e4:xs[i]? with
     |none=>rw[e4]at e2;cases e2
     |some z =>
      rw[e4]at e2;cases e2
      refine⟨z,(hf i f e3).trans e4,rfl,fun q hq=>hw q ?_⟩
      rw[hx]
      simp only[DataW.weights,ht]
      refine jh (i:=i) (t:=f.type) (d:=z.1) ?_ ?_ q hq
      ·rw[List.getElem?_map,Array.getElem?_toList,e3];rfl
      ·rw[List.getElem?_map,e4];rfl)
    rw[List.drop_zero,List.take_of_length_le (by omega)]at hr
    obtain⟨vs,ds,r1,r2,r3,r4⟩:=hr
    exact⟨vs,ds,r1,r2,r3,by rw[hx];simp only[Rows.uptoBulk];omega⟩
   ·cases hk
end
end Go.Proofs.YtenibcfppefobaaGreatDoor.Rd
namespace Go.AI
theorem CS(E:cF)(n:Nat):LT E (eF E) n=eF E:=@Fe ⟨fun _=>True,[],fun _ _ _ h=>h⟩ E n
theorem Hz(E:cF)(j:Dw)(H:DH):eF E j H=qF E (eF E) (LC (eF E)) j H:=@Ju ⟨fun _=>True,[],fun _ _ _ h=>h⟩ E j H
def ul(key:Nat):Code->List Item->Option (List Item)
 |.seq a b,k=>rA key (.code (.seq a b)::k) (match ul key a (.code b::k)with
  |some l=>some l
  |none=>ul key b k)
 |.cond c a b,k=>rA key (.code (.cond c a b)::k) (match ul key a k with
  |some l=>some l
  |none=>ul key b k)
 |.block id c,k=>rA key (.code (.block id c)::k) (ul key c (.inBlock id::k))
 |.loop c,k=>rA key (.code (.loop c)::k) (ul key c (.inLoop c::k))
 |.scope c,k=>rA key (.code (.scope c)::k) (ul key c (.inScope c::k))
 |c,k=>rA key (.code c::k) none
 where rA (key:Nat) (l:List Item) (r:Option (List Item)):Option (List Item):=match RT l with
  |some i=>bif Nat.beq i key then some l else r
  |none=>r
def WP(E:cF)(R:be)(f key:Nat)(xs:List LD)(L:LS)(H:DH):ah:=match E.E.P.funcs[f]? with
 |some fn=>match fn.body with
  |some c=>match ul key c []with
   |some todo=>match Sc (E.ann f) todo with
    |some (live,_)=>R (.frame f fn (RP live xs .leaf) L todo [] .run none) H
    |none=>none
   |none=>none
  |none=>none
 |none=>none
def Qt(E:cF)(R:be)(n f key:Nat)(xs:List LD)(L:LS)(H:DH):ah:=WP E (LT E R n) f key xs L H
theorem Qs(E:cF)(n f key:Nat)(xs:List LD)(L:LS)(H:DH):Qt E (eF E) n f key xs L H=WP E (eF E) f key xs L H:=by
 rw[Qt,CS]
def C(R:be)(f:FuncId)(args:List D)(H:DH)(k:D->DH->ah):ah:=dw (R (.call f args none) H) k fun c H=>some ⟨.pan c,none,H⟩
def rJ:Code->Option (Array Tmp×Code×Code)
 |.rangeFunc _ ps a b=>some (ps,a,b)
 |.seq a b=>(rJ a).or (rJ b)
 |.cond _ a b=>(rJ a).or (rJ b)
 |.block _ c=>rJ c
 |.loop c=>rJ c
 |.scope c=>rJ c
 |_=>none
def Tt(E:cF)(f:FuncId)(is:List Nat)(xs:List LD):DB:=match E.E.P.funcs[f]? with
 |some fn=>match fn.body with
  |some c=>match rJ c with
   |some (ps,a,b)=>.loop true f fn.ntmps (RP is xs .leaf) ps a b
   |none=>.dead
  |none=>.dead
 |none=>.dead
def Xs(E:cF)(R:be)(f o:Nat)(is:List Nat)(xs:List LD)(args:List D)(H:DH):ah:=match E.E.P.funcs[f]? with
 |some fn=>match fn.body with
  |some c=>match rJ c with
   |some (ps,a,b)=>R (.frame f fn (lL (RP is xs .leaf) ps.toList args id) [] [.code a,.beginRound,.code b] [] .run (some (.round o))) H
   |none=>none
  |none=>none
 |none=>none
def SM(E:cF)(R:be)(n f o:Nat)(is:List Nat)(xs:List LD)(args:List D)(H:DH):ah:=Xs E (LT E R n) f o is xs args H
def Hf(E:dA)(f:D)(κ:FuncId->List D->List D->ah):ah:=match f with
 |.func g a b=>bif eK E g then κ g a b else none
 |_=>none
abbrev ret(d:D)(H:DH):ah:=some ⟨.ret d,none,H⟩
abbrev pan(d:D)(H:DH):ah:=some ⟨.pan [⟨d,false⟩],none,H⟩
end Go.AI
noncomputable section
namespace Go.AI
def fM(s:S)(g:Nat):Option (List V):=match s.get g with
 |some (.ro vers)=>match bu vers 127 with
  |some u=>some u.cells
  |none=>none
 |_=>none
end Go.AI
namespace Go.Proofs.YtenibcfppefobaaGreatDoor
open Go.AI
def QR(n:Int):ByteArray:=⟨(Lib.replace (Lib.itoa n) [45] [126] 1).toArray⟩
def zm(s:ByteArray):ByteArray:=⟨(Lib.replace s.data.toList [126] [45] 1).toArray⟩
def pP(s:ByteArray):Int×Int:=match Lib.atoiAll (zm s).data.toList with
 |.ok v=>bif (QR v).toList==s.toList then(v,0)else(0,13)
 |_=>(0,13)
def vB:List V->Bool
 |[.nilIface]=>true
 |[.iface _ _]=>true
 |_=>false
def Jh:List V->Bool
 |[.int .i64 _]=>true
 |_=>false
def Eb:List V:=Lib.pow10Tab.map fun z=>.int .u64 z
structure qn(s:S):Prop where
 mx:∃ c,fM s 1=some c/\Jh c=true
 syn:∃ c,fM s 4=some c/\vB c=true
 rng:∃ c,fM s 5=some c/\vB c=true
 pow:fM s 0=some Eb
open Classical in
def wP(args:List V)(s:S):Option (V×S):=match args with
 |[.str l]=>if qn s/\l.length<=1000 then some (.tuple [.int .i64 (pP (aC l)).1,.int .i64 (pP (aC l)).2],s)else none
 |_=>none
def uF:List Nat->Nat->Int->Int
 |[],_,_=>-1
 |x::r,c,n=>bif Nat.beq x c then n else uF r c (n+1)
def xy(args:List V)(s:S):Option (V×S):=match args with
 |[.str l,.int .u8 (.ofNat c)]=>bif Nat.blt c 256&&l.all (fun x=>Nat.blt x 256)then some (.int .i64 (uF l c 0),s)else none
 |_=>none
def VX(k:Nat):List Nat:=(Lib.itoa (k:Nat)).map UInt8.toNat
open Classical in
def xu(args:List V)(s:S):Option (V×S):=match args with
 |[.int .i64 (.ofNat k)]=>if qn s/\k<4000 then some (.str (VX k),s)else none
 |_=>none
def Uu(f:FuncId)(args:List D)(H:DH):Option (D×DH) :=
 bif Nat.beq f 236 then(match args with
  |[.str l,.int .u8 (.ofNat c)]=>bif Nat.blt c 256&&Nat.ble l.length 1000 then some (.int .i64 (uF l c 0),H)else none
  |_=>none)
 else bif Nat.beq f 262 then(match args with
  |[.str l]=>bif Nat.ble l.length 1000 then some (.tuple [.int .i64 (pP (aC l)).1,.int .i64 (pP (aC l)).2],H)else none
  |_=>none)
 else bif Nat.beq f 6 then(match args with
  |[]=>some (.bool true,H)
  |_=>none)
 else bif Nat.beq f 89 then(match args with
  |[.int .i64 (.ofNat k)]=>bif Nat.blt k 4000 then some (.str (VX k),H)else none
  |_=>none)
 else none
def YL(f:FuncId):Bool:=Nat.beq f 262||(Nat.beq f 6||(Nat.beq f 236||Nat.beq f 89))
def tH(f:FuncId)(args:List V)(s:S):Option (V×S) :=
 bif Nat.beq f 236 then xy args s else bif Nat.beq f 262 then wP args s else bif Nat.beq f 6 then(match args with
  |[]=>some (.bool true,s)
  |_=>none)else bif Nat.beq f 89 then xu args s else none
def mc:dA:={ P:=Tryz.prog,ext:=fun f=>bif Nat.beq f 280 then some .indexByte else bif Nat.beq f 301 then some .count else none,orc:=tH }
end Go.Proofs.YtenibcfppefobaaGreatDoor
namespace Go.Proofs.YtenibcfppefobaaGreatDoor.Rd
open Go.AI Go.Proofs Go.Proofs.YtenibcfppefobaaGreatDoor
theorem qx{W:World}{g:Nat}{c:Array Value}{e:TypeId}{fz:Nat×Nat}{l:List V}(h:W.heap[g]? = some (.cells c e fz))(ha:jE W.heap.size c.toList=some l):fM (bV W) g=some l:=by
 have hg:g<W.heap.size:=(Array.getElem?_eq_some_iff.1 h).1
 have hst:(bV W).get g=some (.ro (pG W.heap.size c.toList)):=by
  unfold bV
  rw[vj,if_pos hg,h];rfl
 simp_all[fM,zC]
theorem yW{N:Nat}:∀(l:List Int),jE N (l.map fun z=>Value.int .u64 z)=some (l.map fun z=>V.int .u64 z)
 |[]=>rfl
 |x::r=>by simp only[List.map_cons,jE,Lt,yW r]
structure JV(W:World):Prop where
 mx:∃ m e fz,W.heap[1]? = some (.cells #[.int .i64 m] e fz)
 syn:∃ te b off e fz,W.heap[4]? = some (.cells #[.iface te (.pointer (some ⟨b,off,none⟩))] e fz)/\b<W.heap.size
 rng:∃ te b off e fz,W.heap[5]? = some (.cells #[.iface te (.pointer (some ⟨b,off,none⟩))] e fz)/\b<W.heap.size
 pow:∃ c e fz,W.heap[0]? = some (.cells c e fz)/\c.toList=Lib.pow10Tab.map fun z=>Value.int .u64 z
theorem KG{W:World}(h:JV W):qn (bV W):=by
 obtain⟨⟨m,e1,f1,h1⟩,⟨t2,b2,o2,e2,f2,h2,k2⟩,⟨t3,b3,o3,e3,f3,h3,k3⟩,⟨c,e4,f4,h4,k4⟩⟩:=h
 refine⟨⟨[.int .i64 m],qx h1 rfl,rfl⟩,⟨[.iface t2 (.ptr ⟨b2,0,1+o2⟩)],qx h2 (by simp[jE,Lt,k2]),rfl⟩,⟨[.iface t3 (.ptr ⟨b3,0,1+o3⟩)],qx h3 (by simp[jE,Lt,k3]),rfl⟩,qx h4 (by rw[k4];exact yW _)⟩
end Go.Proofs.YtenibcfppefobaaGreatDoor.Rd
namespace Go.Proofs.YtenibcfppefobaaGreatDoor.Rd
open Go.AI Go.Proofs Go.Proofs.YtenibcfppefobaaGreatDoor Go.ChangeShapes
section
variable{W:World}{t:TypeId}{fuel:Nat}{cs:List Value}{ps:List MemPlace}
abbrev Tl(W:World)(fuel:Nat)(t:TypeId)(cs:List Value):Option (DataW Unit×List MemPlace):=DataW.trod (fun _=>()) Tryz.prog W 0 (fun _=>true) false fuel t cs
theorem Su{e n:Nat}{l:List Int}(ht:Tryz.prog.underlying t=some (.array n e))(he:Tryz.prog.underlying e=some (.int .u64))(hc:Tryz.prog.cellsOf e=1)(hct:Tryz.prog.cellsOf t=n)(h:Tl W fuel t cs=some (.agg (l.map fun z=>.lit (.int .u64 z)),ps)) :
 cs=l.map fun z=>Value.int .u64 z:=by
 obtain⟨xs,m,_,hx,hl,hxl,hat⟩:=DataW.trod_array ht h
 have hm:xs.map (·.1)=l.map fun z=>DataW.lit (.int .u64 z):=by
  grind
 have hll:l.length=n:=by
  grind [List.length_map]
 rw[hct]at hl
 refine List.ext_getElem (by rw[List.length_map];omega) fun i hi hi'=>?_
 rw[List.length_map]at hi'
 have h1:=hat i (by omega)
 rw[hc,Nat.mul_one,List.drop_eq_getElem_cons hi,List.take_succ_cons,List.take_zero,List.getElem?_eq_getElem (by omega)]at h1
 obtain⟨z,h2,h3,_⟩:=DataW.trod_int he h1
 have h4:(xs.map (·.1))[i]'(by rw[List.length_map];omega)=(l.map fun z=>DataW.lit (H:=Unit) (.int .u64 z))[i]'(by rw[List.length_map];omega):=by
  simp only[hm]
 rw[List.getElem_map,List.getElem_map,h3]at h4
 simp only[DataW.lit.injEq,Lit.int.injEq,true_and]at h4
 rw[List.getElem_map,<- h4]
 simpa using h2
end
section
variable{W:World}{t:TypeId}{fuel:Nat}{cs:List Value}{ps:List MemPlace}
theorem Nj{s:List UInt8}(h:Tl W fuel t []=some (.lit (.string s),ps)):False:=by
 cases fuel with
 |zero=>simp[Tl,DataW.trod]at h
 |succ n =>
  unfold Tl DataW.trod at h
  split at h<;>simp_all
theorem SX{s:List UInt8}(h:Tl W fuel t []=some (.agg [.lit (.string s)],ps)):False:=by
 cases hu:Tryz.prog.underlying t with
 |none =>
  cases fuel with
  |zero=>simp[Tl,DataW.trod]at h
  |succ n=>unfold Tl DataW.trod at h;rw[hu]at h;simp at h
 |some d =>
  cases d with
  |struct fs =>
   obtain⟨xs,n,_,hx,_,hl,hf⟩:=DataW.trod_struct hu h
   have h1:xs.map (·.1)=[.lit (.string s)]:=by
    grind
   obtain⟨x,rfl⟩:∃ x,xs=[x]:=List.length_eq_one_iff.1 (by have:=congrArg List.length h1;simpa using this)
   have hs:0<fs.size:=by simp at hl;omega
   have h2:=hf 0 fs[0] (Array.getElem?_eq_getElem hs)
   simp only[List.drop_nil,List.take_nil,List.getElem?_cons_zero]at h2
   simp at h1
   exact Nj (W:=W) (s:=s) (ps:=x.2) (by unfold Tl;rw[h2,<- h1])
  |array m e =>
   obtain⟨xs,n,_,hx,_,hl,hf⟩:=DataW.trod_array hu h
   have h1:xs.map (·.1)=[.lit (.string s)]:=by
    grind
   obtain⟨x,rfl⟩:∃ x,xs=[x]:=List.length_eq_one_iff.1 (by have:=congrArg List.length h1;simpa using this)
   have hs:0<m:=by simp at hl;omega
   have h2:=hf 0 hs
   simp only[List.drop_nil,List.take_nil,List.getElem?_cons_zero]at h2
   simp at h1
   exact Nj (W:=W) (s:=s) (ps:=x.2) (by unfold Tl;rw[h2,<- h1])
  |_ =>
   cases fuel with
   |zero=>simp[Tl,DataW.trod]at h
   |succ n=>unfold Tl DataW.trod at h;rw[hu]at h;simp at h
theorem SO{s:List UInt8}(h:Tl W fuel t cs=some (.ptr (.agg [.lit (.string s)]),ps)):∃ a,cs=[.pointer (some a)]/\a.spot=none/\a.block<W.heap.size/\∃ e,Tryz.prog.underlying t=some (.pointer e):=by
 have key:∃ e,Tryz.prog.underlying t=some (.pointer e):=by
  cases fuel with
  |zero=>simp[Tl,DataW.trod]at h
  |succ n =>
   unfold Tl DataW.trod at h
   split at h<;>simp_all
   all_goals first
    |(simp[Option.bind_eq_some_iff,Option.map_eq_some_iff]at h;done)
    |(split at h<;>simp[Option.bind_eq_some_iff,Option.map_eq_some_iff]at h;done)
    |(repeat' split at h)<;>simp_all[Option.bind_eq_some_iff,Option.map_eq_some_iff]
 obtain⟨e,he⟩:=key
 rcases DataW.trod_pointer he h with⟨_,h1⟩|⟨a,cs',y,n,_,rfl,h1,h2,h3⟩
 ·simp at h1
 ·have hy:y.1=.agg [.lit (.string s)]:=by
   grind
  have hne:cs'≠[]:=fun hh=>by
   subst hh
   exact SX (W:=W) (s:=s) (ps:=y.2) (by unfold Tl;rw[h3,<- hy])
  obtain⟨_,hc1,hc2⟩:=World.cells?_some h2
  have h0:0<cs'.length:=List.length_pos_iff.2 hne
  have hcell:=hc2 0 (by omega)
  rw[List.getElem?_eq_getElem h0]at hcell
  obtain⟨c,e',fz,h4,h5,h6⟩:=Ft hcell
  refine⟨a,rfl,?_,?_,e,he⟩
  ·simpa[Addr.add]using h5
  ·have:=(Array.getElem?_eq_some_iff.1 h4).1
   simpa[Addr.add]using this
theorem NQ{name:String}{ms:Array (String×TypeId)}{s:List UInt8}(ht:Tryz.prog.underlying t=some (.interface ms))(h:Tl W fuel t cs=some (.iface name (.ptr (.agg [.lit (.string s)])),ps)) :
 ∃ u v a,cs=[.iface u v]/\v.cells.toList=[.pointer (some a)]/\a.spot=none/\a.block<W.heap.size/\∃ e,Tryz.prog.underlying u=some (.pointer e):=by
 cases fuel with
 |zero=>simp[Tl,DataW.trod]at h
 |succ n =>
  unfold Tl DataW.trod at h
  rw[ht]at h
  split at h<;>simp_all
  rename_i u v _
  split at h
  ·cases h
  ·simp only[Option.map_eq_some_iff]at h
   obtain⟨y,hy,h1⟩:=h
   simp only[Prod.mk.injEq,DataW.iface.injEq]at h1
   obtain⟨a,h2,h3,h4,h5⟩:=SO (W:=W) (s:=s) (ps:=y.2) (by unfold Tl;rw[hy,<- h1.1.2])
   exact⟨u,v,⟨rfl,rfl⟩,a,h2,h3,h4,h5⟩
  ·cases h
end
end Go.Proofs.YtenibcfppefobaaGreatDoor.Rd
namespace Go.Proofs.YtenibcfppefobaaGreatDoor.Rd
open Go.AI Go.Proofs Go.Proofs.YtenibcfppefobaaGreatDoor Go.ChangeShapes
set_option maxRecDepth 10000
theorem xm{P:Program}{w:World}:∀ {l:List (String×DataW Unit)} {ps:List MemPlace} {n:String} {d:DataW Unit},DataW.LaidVars P w l ps->(n,d)∈l ->
 ∃ g t cs fuel p,P.globalNamed n=some g/\(P.globals[g]?).map (·.type)=some t/\w.var? P n=some cs/\DataW.trod (fun _=>()) P w 0 (fun _=>true) false fuel t cs.toList=some (d,p)/\∀ x∈MemPlace.row ⟨g,0,none⟩ cs.size++p,x∈ps
 |[],ps,n,d,_,h=>by cases h
 |(m,c)::r,ps,n,d,hl,h=>by
  obtain⟨g,t,cs,fuel,p,q,e1,e2,e3,e4,hr,rfl⟩:=hl
  rcases List.mem_cons.1 h with h|h
  ·grind
  ·obtain⟨g',t',cs',fuel',p',a,b,c',d',e⟩:=xm hr h
   grind
theorem zR{P:Program}{w:World}{n:String}{g:Nat}{cs:Array Value}(hg:P.globalNamed n=some g)(h:w.var? P n=some cs):∃ e fz,w.heap[g]? = some (.cells cs e fz):=by
 unfold World.var? at h
 grind
theorem NS:Tryz.prog.globalNamed "internal/strconv.uint64pow10" = some 0:=by kernel_rfl
theorem TK:Tryz.prog.globalNamed "strconv.ErrSyntax" = some 4:=by kernel_rfl
theorem TL:Tryz.prog.globalNamed "strconv.ErrRange" = some 5:=by kernel_rfl
theorem Jq{W:World}{l:List (String×DataW Unit)}{n:String}{g:Nat}{t:TypeId}{name:String}{ms:Array (String×TypeId)}{s:List UInt8}(hl:laidMet Tryz.prog l W)(hm:(n,.iface name (.ptr (.agg [.lit (.string s)])))∈l)
 (hg:Tryz.prog.globalNamed n=some g) (ht:(Tryz.prog.globals[g]?).map (·.type)=some t) (hu:Tryz.prog.underlying t=some (.interface ms)) :
 ∃ te b off e fz,W.heap[g]? = some (.cells #[.iface te (.pointer (some ⟨b,off,none⟩))] e fz)/\b<W.heap.size:=by
 obtain⟨ps,hv,_,hrow⟩:=hl
 obtain⟨g',t',cs,fuel,p,e1,e2,e3,e4,e5⟩:=xm hv hm
 rw[hg]at e1;cases e1
 rw[ht]at e2;cases e2
 obtain⟨e,fz,hh⟩:=zR hg e3
 obtain⟨u,v,a,h1,h2,h3,h4,e',h5⟩:=NQ hu e4
 have hcs:cs=#[.iface u v]:=by
  grind
 subst hcs
 have hcell:W.cell? ⟨g,0,none⟩=some (.iface u v):=by
  unfold World.cell?
  grind
 have hin:MemPlace.cell g 0∈MemPlace.row ⟨g,0,none⟩ (#[Value.iface u v]).size:=by
  unfold MemPlace.row
  grind
 have hin2:=e5 _ (List.mem_append_left _ hin)
 have hok:=(hrow g 0 hin2).2 u v hcell
 have hvp:v=.pointer (some a):=by
  unfold Value.okWide at hok
  rw[h5]at hok
  simp only[]at hok
  unfold Cell.okWide at hok
  rw[h5]at hok
  cases v with
  |agg c=>simp only[Value.cells]at h2;simp[Cell.ok,h5]at hok
  |_=>simp_all[Value.cells]
 subst hvp
 obtain⟨b,off,spot⟩:=a
 simp only at h3 h4
 subst h3
 exact⟨u,b,off,e,fz,hh,h4⟩
theorem TJ:(Tryz.prog.globals[0]?).map (·.type)=some 333:=by kernel_rfl
theorem TG:(Tryz.prog.globals[4]?).map (·.type)=some 342:=by kernel_rfl
theorem TH:(Tryz.prog.globals[5]?).map (·.type)=some 342:=by kernel_rfl
theorem Sx{W:World}(hl:laidMet Tryz.prog Rows.inferSolvesRow.laid W):∃ te b off e fz,W.heap[4]? = some (.cells #[.iface te (.pointer (some ⟨b,off,none⟩))] e fz)/\b<W.heap.size :=
 Jq hl (n := "strconv.ErrSyntax") (name := "*errors.errorString") (s:=[105,110,118,97,108,105,100,32,115,121,110,116,97,120]) (List.Mem.tail _ (List.Mem.tail _ (List.Mem.tail _ (List.Mem.tail _ (List.Mem.tail _ (List.Mem.head _)))))) TK TG Tryz.underlying342
theorem SK{W:World}(hl:laidMet Tryz.prog Rows.inferSolvesRow.laid W):∃ te b off e fz,W.heap[5]? = some (.cells #[.iface te (.pointer (some ⟨b,off,none⟩))] e fz)/\b<W.heap.size :=
 Jq hl (n := "strconv.ErrRange") (name := "*errors.errorString") (s:=[118,97,108,117,101,32,111,117,116,32,111,102,32,114,97,110,103,101]) (List.Mem.tail _ (List.Mem.tail _ (List.Mem.tail _ (List.Mem.tail _ (List.Mem.head _))))) TL TH Tryz.underlying342
theorem NF:Rows.laid_internal_strconv_uint64pow10 (H:=Unit)=DataW.agg (Lib.pow10Tab.map fun z=>.lit (.int .u64 z)):=by rfl
theorem SR{W:World}(hl:laidMet Tryz.prog Rows.inferSolvesRow.laid W):∃ c e fz,W.heap[0]? = some (.cells c e fz)/\c.toList=Lib.pow10Tab.map fun z=>Value.int .u64 z:=by
 obtain⟨ps,hv,_,_⟩:=hl
 obtain⟨g',t',cs,fuel,p,e1,e2,e3,e4,e5⟩:=xm hv (n := "internal/strconv.uint64pow10") (d:=Rows.laid_internal_strconv_uint64pow10) (List.Mem.tail _ (List.Mem.tail _ (List.Mem.head _)))
 rw[NS]at e1;cases e1
 rw[TJ]at e2;cases e2
 obtain⟨e,fz,hh⟩:=zR NS e3
 rw[NF]at e4
 exact⟨cs,e,fz,hh,Su Tryz.underlying333 (by kernel_rfl) (by kernel_rfl) (by kernel_rfl) e4⟩
theorem VB{W:World}(hs:W.ShapedOpen Tryz.prog):∃ m e fz,W.heap[1]? = some (.cells #[.int .i64 m] e fz):=by
 obtain⟨cs,h1,h2,h3⟩:=hs.1 1 #[.int .i64 0] 3 (of_decide_eq_true (by kernel_rfl)) (by kernel_rfl)
 obtain⟨ts,h5,_,h6⟩:=h3 (by kernel_rfl)
 have hts:Tryz.prog.cellTypes Tryz.prog.depth 3=some [3]:=by kernel_rfl
 rw[hts]at h5;cases h5
 have hsz:cs.size=1:=h2
 have h0:cs[0]? = some (cs[0]'(by omega)):=Array.getElem?_eq_getElem (by omega)
 obtain⟨u,h7,h8⟩:=h6 0 _ h0
 cases h7
 unfold Cell.ok at h8
 rw[Tryz.underlying3]at h8
 have hcs:cs=#[cs[0]'(by omega)]:=Array.ext (by simp[hsz]) (fun i hi hi'=>by
  have:i=0:=by omega
  subst this;rfl)
 grind
end Go.Proofs.YtenibcfppefobaaGreatDoor.Rd
namespace Go.Proofs.YtenibcfppefobaaGreatDoor.Rd
open Go.AI Go.Proofs Go.Proofs.YtenibcfppefobaaGreatDoor Go.ChangeShapes
theorem NT{W:World}(hl:laidMet Tryz.prog Rows.inferSolvesRow.laid W)(hs:W.ShapedOpen Tryz.prog):JV W:=⟨VB hs,Sx hl,SK hl,SR hl⟩
end Go.Proofs.YtenibcfppefobaaGreatDoor.Rd
namespace Go.AI
abbrev D.i(n:Int):D:=.int .i64 n
abbrev LD.n(n:Int):LD:=.g (.int .i64 n)
abbrev dB:=List (List D)
abbrev af:=List Nat
abbrev cq(n:Int):Int:=IntKind.wrap .i64 n
abbrev xT(a:Int)(b:Int)(c:List Nat)(d:Int):List D:=[.i a,.i b,.str c,.i d]
variable{R:be}{P:Program}{H H':DH}{κ:D->ah}
theorem ev{E:cF}{n:Nat}{j:Dw}{x y:ah}(h:LT E (eF E) n j H=x)(k:x=y):eF E j H=y:=by rw[<- k,<- h,CS]
theorem cM{E:cF}{n f key:Nat}{xs:List LD}{L:LS}{x y:ah}(h:Qt E (eF E) n f key xs L H=x)(k:x=y):WP E (eF E) f key xs L H=y:=by rw[<- k,<- h,Qs]
theorem aw{f:FuncId}{args:List D}{d:D}{k:D->DH->ah}(h:R (.call f args none) H=ret d H'):C R f args H k=k d H':=by rw[C,h];rfl
theorem ak(q:Bool)(a b:ah):brD (.bool q) a b=cond q a b:=rfl
theorem aP(n:Nat){κ:Nat->ah}:cY (n:Int) κ=κ n:=rfl
theorem aI{l:List (List D)}{i:Nat}{cs:List D}{κ:List D->ah}(h:l[i]? = some cs):dM l i κ=κ cs:=by rw[dM,h]
theorem aj(a:D)(l:List D):aA (a::l) 0 κ=κ a:=rfl
theorem ar(a:D)(l:List D)(n:Nat):aA (a::l) (n+1) κ=aA l n κ:=rfl
theorem ct(b:Bool):sF .not (.bool b) κ=κ (.bool !b):=rfl
theorem lZ(l:List D)(i:Nat):gY (.tuple l) i κ=aA l i κ:=rfl
theorem eO(t:TypeId)(c:Bool)(a b:Int):av P .add t c (.int .i64 a) (.int .i64 b) κ=κ (.int .i64 (cq (a+b))):=rfl
theorem De(t:TypeId)(c:Bool)(a b:Int):av P .sub t c (.int .i64 a) (.int .i64 b) κ=κ (.int .i64 (cq (a - b))):=rfl
theorem di(t:TypeId)(c:Bool)(k:IntKind)(a b:Int):av P .eql t c (.int k a) (.int k b) κ=κ (.bool (a==b)):=by cases k<;>rfl
theorem kC(t:TypeId)(c:Bool)(k:IntKind)(a b:Int):av P .neq t c (.int k a) (.int k b) κ=κ (.bool (a != b)):=by cases k<;>rfl
theorem Df(t:TypeId)(c:Bool)(k:IntKind)(a b:Int):av P .lss t c (.int k a) (.int k b) κ=κ (.bool (decide (a<b))):=by cases k<;>rfl
theorem JJ(t:TypeId)(c:Bool)(k:IntKind)(a b:Int):av P .leq t c (.int k a) (.int k b) κ=κ (.bool (decide (a<=b))):=by cases k<;>rfl
theorem ff(t:TypeId)(c:Bool)(k:IntKind)(a b:Int):av P .gtr t c (.int k a) (.int k b) κ=κ (.bool (decide (a>b))):=by cases k<;>rfl
theorem vG(t:TypeId)(c:Bool)(k:IntKind)(a b:Int):av P .geq t c (.int k a) (.int k b) κ=κ (.bool (decide (a>=b))):=by cases k<;>rfl
theorem lj(t:TypeId)(c:Bool)(a b:List Nat):av P .eql t c (.str a) (.str b) κ=κ (.bool (a==b)):=rfl
theorem rZ(t:TypeId)(c:Bool)(a b:List Nat):av P .neq t c (.str a) (.str b) κ=κ (.bool !(a==b)):=rfl
theorem BB{n:Int}(h1:-9223372036854775808<=n)(h2:n<=9223372036854775807):cq n=n:=Id n ⟨h1,h2⟩
theorem aS{n:Nat}(h:n<2^62):cq ((n:Int)+1)=((n+1:Nat):Int):=by rw[BB]<;>omega
theorem Cz{E:dA}{g:FuncId}{a b:List D}{κ:FuncId->List D->List D->ah}(h:eK E g=true):Hf E (.func g a b) κ=κ g a b:=by rw[Hf,h];rfl
theorem ac{o st:Nat}{cs:List D}{κ:Nat->List D->ah}(h:H[o]? = some (.cells st cs)):au H o κ=κ st cs:=by rw[au,h]
theorem bH{o sz:Nat}{st cap:Bool}{l:List (List D)}{κ:Nat->Bool->Bool->List (List D)->ah}(h:H[o]? = some (.buf sz st cap l)):gG H o l.length κ=κ sz st cap l:=by rw[gG,h];simp[Nat.beq_refl]
theorem nZ{r:List DH}{o st:Nat}{cs:List D}(h:H[o]? = some (.cells st cs))(hr:∀ H2∈r,H2[o]? = some (.cells st cs)):(cR H r)[o]? = some (.cells st cs):=by
 rw[cR,@CZ ⟨fun _=>True,[],fun _ _ _ h=>h⟩,h,Nat.zero_add]
 grind [Et]
theorem jd{o:Nat}{es:List (D×D)}{κ:List (D×D)->ah}(h:H[o]? = some (.map es)):nF H o κ=κ es:=by rw[nF,h]
theorem bk(H:DH)(x:DB):(H++[x])[H.length]? = some x:=by simp
theorem aL{H:DH}{o:Nat}{b:DB}(x:DB)(h:H[o]? = some b):(H++[x])[o]? = some b:=by
 grind
theorem aN{H:DH}{o:Nat}{b:DB}(x:DB)(h:H[o]? = some b):(H.set o x)[o]? = some x:=by
 grind
theorem ag{H:DH}{o o':Nat}{b:DB}(x:DB)(hn:o≠o')(h:H[o']? = some b):(H.set o x)[o']? = some b:=by rw[List.getElem?_set_ne hn];exact h
end Go.AI
namespace Go.Proofs.YtenibcfppefobaaGreatDoor
open Go.AI
def YM:T ii :=
 (.node (.node (.node (.node (.node (.node (.node .leaf none (.node .leaf (some ⟨[(200002,[0,5],[])],[],[],[],false⟩) .leaf)) none (.node (.node .leaf (some ⟨[],[3],[],[],true⟩) .leaf) none .leaf)) (some ⟨[(200004,[0,1,5],[])],[],[],[],false⟩) (.node (.node .leaf none (.node .leaf (some ⟨[(200001,[1,2,6,7,8],[])],[],[],[],false⟩) .leaf)) none .leaf)) (some ⟨[],[1,3],[],[],false⟩) (.node (.node .leaf (some ⟨[(200007,[0,2,3,5,10,11],[0])],[],[(46,[(0,.fz 1)])],[],false⟩) .leaf) (some ⟨[(200004,[0,5,18,19,20],[])],[16,55],[],[],false⟩) (.node (.node (.node .leaf (some ⟨[],[3,4,5],[],[],true⟩) .leaf) (some ⟨[],[3,4,5],[],[],false⟩) (.node .leaf (some ⟨[(200002,[0,1,7,8],[])],[],[],[],false⟩) .leaf)) none (.node (.node .leaf (some ⟨[(200001,[0,1],[])],[36],[],[],false⟩) .leaf) none (.node .leaf (some ⟨[(200002,[0,1,7,8],[])],[],[],[],false⟩) .leaf))))) (some ⟨[(200005,[0,1,5,6],[]),(200014,[0,1,7,8,9,10],[]),(200024,[0,1,7,9,15],[])],[],[],[],false⟩) (.node (.node (.node (.node .leaf (some ⟨[(200006,[0,1,5],[])],[],[],[],false⟩) (.node .leaf (some ⟨[(200005,[0,1,5,6],[])],[],[],[],false⟩) .leaf)) none (.node .leaf none (.node .leaf (some ⟨[(200002,[0,2,3],[])],[],[],[],false⟩) .leaf))) none .leaf) none (.node (.node (.node .leaf (some ⟨[(200003,[3,9,10,11],[])],[7],[],[],true⟩) (.node .leaf (some ⟨[(200001,[1,2,6,7,8],[])],[],[],[],false⟩) .leaf)) (some ⟨[(200006,[0,1,2,6,7,8],[0])],[7,9],[],[],false⟩) .leaf) (some ⟨[(200010,[1,2,3,8,9,45,46,47],[0,1])],[],[],[(0,1,.fz 2)],false⟩) (.node (.node (.node .leaf (some ⟨[],[3],[],[],true⟩) .leaf) none .leaf) none .leaf)))) none (.node (.node (.node (.node (.node .leaf none (.node .leaf (some ⟨[(200002,[0,5],[]),(200005,[0,5,6],[])],[],[],[],false⟩) .leaf)) none .leaf) none (.node (.node .leaf none (.node .leaf (some ⟨[],[3,4,5],[],[],true⟩) .leaf)) none .leaf)) (some ⟨[(200007,[3,4,6,22,23,24],[0,1])],[11],[],[],false⟩) (.node (.node (.node (.node .leaf (some ⟨[(8,[0,1,4,7],[0]),(11,[0,1,4,7,8],[0]),(17,[0,1,4,6],[0]),(18,[0,1,4,6],[0]),(26,[0,1,4,11,12],[0]),(200006,[0,1,4,7],[0])],[],[],[],false⟩) .leaf) none .leaf) none .leaf) (some ⟨[(200005,[4,9,10,11],[])],[3,4],[],[],false⟩) (.node .leaf (some ⟨[],[],[],[],true⟩) (.node (.node .leaf (some ⟨[(11,[0,2,3],[0])],[],[],[],false⟩) .leaf) none (.node .leaf (some ⟨[(200002,[0,1,7,8],[])],[],[],[],false⟩) .leaf))))) none (.node (.node (.node .leaf (some ⟨[(200005,[2,5,6],[0])],[],[],[],false⟩) (.node .leaf (some ⟨[(200004,[0,16,17,18],[]),(200007,[0,16,17,18,23,24,25],[]),(200016,[0,43,44,45],[])],[],[],[],false⟩) .leaf)) none (.node (.node (.node .leaf (some ⟨[],[3,4,5],[],[],true⟩) .leaf) none .leaf) none (.node .leaf none (.node .leaf (some ⟨[(200001,[1,2,6,7,8],[])],[],[],[],false⟩) .leaf)))) none (.node (.node (.node .leaf (some ⟨[],[3],[],[],true⟩) (.node .leaf (some ⟨[],[3,4,5],[],[],true⟩) .leaf)) none (.node (.node .leaf (some ⟨[(200002,[0,1,7,8],[])],[],[],[],false⟩) .leaf) none .leaf)) none (.node .leaf (some ⟨[(200003,[1,3,4],[0])],[],[],[],false⟩) .leaf))))) none (.node (.node (.node (.node (.node .leaf none (.node (.node .leaf (some ⟨[],[3],[],[],true⟩) .leaf) none (.node .leaf (some ⟨[(200002,[0,1,2,7],[])],[],[],[],false⟩) .leaf))) none (.node (.node .leaf none (.node .leaf (some ⟨[(200001,[0,1,2,8,9,10],[]),(200006,[1,2,21,22,23],[])],[],[],[],false⟩) .leaf)) none (.node .leaf (some ⟨[(6,[1,3],[0]),(7,[1,3,52],[0])],[],[],[],false⟩) .leaf))) (some ⟨[(200004,[0,20,21,22],[]),(200012,[6,7,33,34,35],[]),(200017,[6,7,46,47,48],[]),(200026,[12,65,66,67],[])],[15,32],[],[(0,0,.fz 3)],false⟩) (.node (.node .leaf (some ⟨[(10,[0,6,7,8],[]),(200001,[0,6],[]),(200016,[0,6,7,8,9],[])],[12,36],[],[],false⟩) (.node .leaf none (.node .leaf (some ⟨[(6,[0,1,4,5],[0])],[],[],[],false⟩) .leaf))) (some ⟨[(5,[0,1],[]),(8,[0,1],[]),(200015,[0,1,91,92],[])],[],[],[],false⟩) (.node (.node (.node .leaf (some ⟨[(200002,[0,1,7,8],[])],[],[],[],false⟩) .leaf) (some ⟨[(200002,[0,1,7,8],[])],[],[],[],false⟩) .leaf) (some ⟨[(200009,[0,1,2,21,22,23],[])],[],[],[],false⟩) (.node (.node .leaf (some ⟨[(200000,[0],[])],[],[],[],false⟩) .leaf) none (.node .leaf (some ⟨[(200002,[0,1,7,8],[])],[],[],[],false⟩) .leaf))))) none (.node (.node (.node (.node (.node .leaf (some ⟨[(200003,[3,11,12],[])],[10],[(9,[(3,.acc 2)])],[],false⟩) .leaf) none .leaf) none (.node .leaf (some ⟨[(200004,[0,16,17,18],[]),(200007,[0,16,17,18,23,24,25],[]),(200016,[0,43,44,45],[])],[],[],[],false⟩) .leaf)) none (.node (.node (.node .leaf (some ⟨[],[3,4,5],[],[],true⟩) .leaf) none .leaf) none (.node .leaf none (.node .leaf (some ⟨[(200001,[1,2,6,7,8],[])],[],[],[],false⟩) .leaf)))) none (.node (.node (.node .leaf none (.node .leaf (some ⟨[(200001,[0,1,2,8,9,10],[]),(200006,[1,2,21,22,23],[])],[],[],[],false⟩) .leaf)) (some ⟨[(200004,[1,2,3,8,9],[0]),(200012,[0,1,2,3,8,10,11],[0,1])],[],[],[(0,1,.fz 2)],false⟩) .leaf) none (.node (.node (.node .leaf (some ⟨[],[3],[],[],true⟩) .leaf) none .leaf) (some ⟨[(200003,[1,2,5,6],[0])],[],[],[],false⟩) (.node (.node .leaf (some ⟨[(4,[0,4],[]),(200009,[0,4,5,6,7],[])],[],[],[],false⟩) .leaf) none .leaf))))) none (.node (.node (.node (.node (.node .leaf (some ⟨[(200002,[0,1,5],[])],[],[],[],false⟩) (.node .leaf (some ⟨[(200003,[0,3,4],[])],[],[],[],false⟩) .leaf)) none .leaf) none .leaf) (some ⟨[(200004,[2,3,5],[0,1])],[],[],[],false⟩) (.node (.node (.node .leaf (some ⟨[(200003,[3,9,10,11],[])],[7],[],[],true⟩) .leaf) (some ⟨[(200001,[0,1],[])],[],[],[],false⟩) .leaf) (some ⟨[(200001,[0],[])],[],[],[],false⟩) (.node (.node (.node .leaf (some ⟨[],[3],[],[],true⟩) .leaf) (some ⟨[(5,[0],[])],[],[],[],false⟩) .leaf) none .leaf))) none (.node (.node (.node (.node (.node .leaf (some ⟨[],[1],[],[],false⟩) .leaf) none .leaf) none (.node .leaf none (.node .leaf (some ⟨[(4,[0,2,3],[0])],[],[],[],false⟩) .leaf))) (some ⟨[(12,[0,1,2,8],[]),(200015,[0,1,2,76,77],[])],[],[],[],false⟩) (.node (.node (.node .leaf (some ⟨[],[3,4,5],[],[],true⟩) .leaf) none .leaf) none (.node .leaf none (.node .leaf (some ⟨[(200002,[0,1,7,8],[])],[],[],[],false⟩) .leaf)))) (some ⟨[(200005,[0,2,3,4],[0]),(200013,[0,2,3,5,6,7],[0]),(200018,[0,2,3,5,6,8,9],[0]),(200027,[2,3,5,6,11],[0]),(200034,[2,3,5,6,12,13,14],[0]),(200041,[2,3,5,6,12,16],[0])],[15,17,42],[],[(0,0,.fz 3)],false⟩) (.node (.node .leaf none (.node .leaf (some ⟨[],[3],[],[],true⟩) .leaf)) (some ⟨[(4,[0,2,4,6],[0,1]),(200009,[0,2,6,9,43,44,45],[1,2])],[],[],[(0,1,.fz 2)],false⟩) (.node .leaf (some ⟨[(200002,[1,3],[0])],[],[],[],false⟩) .leaf))))))
def de:cF:=⟨mc,YM,Uu,YL⟩
def Zj(d:D)(κ:Int->ah):ah:=match d with
 |.int _ n=>κ n
 |_=>none
abbrev aO(R:be)(f:Nat)(a:List D)(H:DH):ah:=LT de R 200 (.call f a none) H
abbrev bm(R:be)(f k:Nat)(x:List LD)(L:LS)(H:DH):ah:=Qt de R 200 f k x L H
abbrev ae(R:be)(f k:Nat)(x:List LD)(L:LS)(H:DH):ah:=WP de R f k x L H
abbrev am:be:=eF de
abbrev ay(f:Nat)(a:List D)(H:DH):ah:=eF de (.call f a none) H
abbrev ab:=Tryz.prog
theorem YE{R:be}{p0:af}{p1:Int}{H:DH}:aO R 137 [.str p0,.i p1] H =
 cY p1 fun a=>eI p0 a fun a=>av ab .eql 5 true a (.int .u8 126) fun b=>brD b (av ab .eql 5 true a (.int .u8 126) fun a=>brD a (ae R 137 200006 [.g (.str p0),.n p1,.lp 0 0,.n (cq (p1+1))] [(0,(xT 0 0 [] 0))] H) (ae R 137 200006 [.g (.str p0),.n p1,.lp 0 0,.n p1] [(0,(xT 0 0 [] 0))] H)) (C R 187 [a] H fun b H=>brD b (av ab .eql 5 true a (.int .u8 126) fun a=>brD a (ae R 137 200006 [.g (.str p0),.n p1,.lp 0 0,.n (cq (p1+1))] [(0,(xT 0 0 [] 0))] H) (ae R 137 200006 [.g (.str p0),.n p1,.lp 0 0,.n p1] [(0,(xT 0 0 [] 0))] H)) (av ab .eql 5 true a (.int .u8 39) fun b=>brD b (cond (decide ((cq (p1+1))<(p0.length:Int))) (cY (cq (p1+1)) fun b=>eI p0 b fun b=>C R 190 [b] H fun b H=>brD b (C R 191 [.str p0,.i (cq (p1+1))] H fun a H=>av ab .sub 3 false a (.i p1) fun b=>av ab .gtr 3 true b (.i 24) fun b=>brD b (ret (.tuple [.agg (xT 0 0 [] 0),.i 2]) H) (cI ab 9 (.str p0) (some (.i p1)) (some a) none H fun a H=>ai 1 a fun a=>az (xT 4 0 [] 0) 2 a fun a=>az a 3 [.i p1] fun a=>ai 4 (.agg a) fun a=>az (xT 0 0 [] 0) 0 a fun a=>aA a 0 fun b=>aA a 1 fun c=>aA a 2 fun d=>aA a 3 fun a=>ret (.tuple [.agg [b,c,d,a],.i 0]) H)) (ae R 137 17 [.g (.str p0),.n p1,.lp 0 0,.g a] [(0,(xT 0 0 [] 0))] H)) (ae R 137 17 [.g (.str p0),.n p1,.lp 0 0,.g a] [(0,(xT 0 0 [] 0))] H)) (ae R 137 17 [.g (.str p0),.n p1,.lp 0 0,.g a] [(0,(xT 0 0 [] 0))] H))):=by kernel_rfl
theorem ET{R:be}{v0:af}{v1 v7 a b:Int}{c:af}{e:Int}{H:DH}:bm R 137 200006 [.g (.str v0),.n v1,.lp 0 0,.n v7] [(0,xT a b c e)] H =
 cond (decide (v7<v0.length)) (cY v7 fun d=>eI v0 d fun d=>C R 187 [d] H fun d H=>brD d (ae R 137 200006 [.g (.str v0),.n v1,.lp 0 0,.n (cq (v7+1))] [(0,xT a b c e)] H) (ae R 137 8 [.g (.str v0),.n v1,.lp 0 0,.n v7] [(0,xT a b c e)] H)) (ae R 137 8 [.g (.str v0),.n v1,.lp 0 0,.n v7] [(0,xT a b c e)] H):=by kernel_rfl
theorem QJ{R:be}{v0:af}{v1 v6 a b:Int}{c:af}{e:Int}{H:DH}:bm R 137 17 [.g (.str v0),.n v1,.lp 0 0,.g (.int .u8 v6)] [(0,xT a b c e)] H =
 C R 190 [.int .u8 v6] H fun d H=>brD d (ae R 137 18 [.g (.str v0),.n v1,.lp 0 0,.g (.int .u8 v6)] [(0,xT a b c e)] H) (C R 192 [.int .u8 v6] H fun d H=>brD d (ae R 137 18 [.g (.str v0),.n v1,.lp 0 0,.g (.int .u8 v6)] [(0,xT a b c e)] H) (C R 195 [.str v0,.i v1] H fun d H=>av ab .eql 3 true d (.i 0) fun f=>brD f (ret (.tuple [.agg (xT 0 0 [] 0),.i 11]) H) (av ab .add 3 false (.i v1) d fun d=>cI ab 9 (.str v0) (some (.i v1)) (some d) none H fun d H=>ai 1 d fun d=>az (xT 6 0 [] 0) 2 d fun d=>az d 3 [.i v1] fun d=>ai 4 (.agg d) fun d=>az (xT a b c e) 0 d fun a=>aA a 0 fun b=>aA a 1 fun c=>aA a 2 fun d=>aA a 3 fun a=>ret (.tuple [.agg [b,c,d,a],.i 0]) H))):=by kernel_rfl
theorem Uo{R:be}{v0:af}{v1 v7 a b:Int}{c:af}{e:Int}{H:DH}:bm R 137 8 [.g (.str v0),.n v1,.lp 0 0,.n v7] [(0,xT a b c e)] H =
 cI ab 9 (.str v0) (some (.i v1)) (some (.i v7)) none H fun d H=>C R 188 [d] H fun d H=>gY d 0 fun f=>gY d 1 fun d=>av ab .neq 28 true d (.i 0) fun d=>brD d (ret (.tuple [.agg (xT 0 0 [] 0),.i 13]) H) (cond (decide (v7<v0.length)) (cY v7 fun d=>eI v0 d fun d=>C R 189 [d] H fun d H=>brD d (ret (.tuple [.agg (xT 0 0 [] 0),.i 13]) H) (cY v7 fun d=>eI v0 d fun d=>av ab .eql 5 true d (.int .u8 39) fun d=>brD d (ret (.tuple [.agg (xT 0 0 [] 0),.i 13]) H) (ae R 137 11 [.g (.str v0),.n v1,.lp 0 0,.n v7,.g f] [(0,xT a b c e)] H))) (ae R 137 11 [.g (.str v0),.n v1,.lp 0 0,.n v7,.g f] [(0,xT a b c e)] H)):=by kernel_rfl
theorem QI{R:be}{v0:af}{v1 v6 a b:Int}{c:af}{e:Int}{H:DH}:bm R 137 18 [.g (.str v0),.n v1,.lp 0 0,.g (.int .u8 v6)] [(0,xT a b c e)] H =
 C R 193 [.str v0,.i v1] H fun d H=>av ab .sub 3 false d (.i v1) fun f=>av ab .gtr 3 true f (.i 24) fun f=>brD f (ret (.tuple [.agg (xT 0 0 [] 0),.i 2]) H) (C R 192 [.int .u8 v6] H fun f H=>brD f (ae R 137 26 [.g (.str v0),.n v1,.lp 0 0,.g d,.n 3] [(0,xT a b c e)] H) (cI ab 9 (.str v0) (some (.i v1)) (some d) none H fun f H=>C R 194 [f] H fun f H=>brD f (ae R 137 26 [.g (.str v0),.n v1,.lp 0 0,.g d,.n 5] [(0,xT a b c e)] H) (ae R 137 26 [.g (.str v0),.n v1,.lp 0 0,.g d,.n 2] [(0,xT a b c e)] H))):=by kernel_rfl
theorem QK{R:be}{v0:af}{v1 v7 v8 a b:Int}{c:af}{e:Int}{H:DH}:bm R 137 11 [.g (.str v0),.n v1,.lp 0 0,.n v7,.n v8] [(0,xT a b c e)] H =
 cI ab 9 (.str v0) (some (.i v1)) (some (.i v7)) none H fun d H=>ai 1 d fun d=>az (xT 1 v8 [] 0) 2 d fun d=>az d 3 [.i v1] fun d=>ai 4 (.agg d) fun d=>az (xT a b c e) 0 d fun a=>aA a 0 fun b=>aA a 1 fun c=>aA a 2 fun d=>aA a 3 fun a=>ret (.tuple [.agg [b,c,d,a],.i 0]) H:=by kernel_rfl
theorem QH{R:be}{v0:af}{v1 a b c e:Int}{h:af}{j:Int}{H:DH}:bm R 137 26 [.g (.str v0),.n v1,.lp 0 0,.n a,.n b] [(0,xT c e h j)] H =
 cI ab 9 (.str v0) (some (.i v1)) (some (.i a)) none H fun a H=>ai 1 a fun a=>az (xT b 0 [] 0) 2 a fun a=>az a 3 [.i v1] fun a=>ai 4 (.agg a) fun a=>az (xT c e h j) 0 a fun a=>aA a 0 fun b=>aA a 1 fun c=>aA a 2 fun d=>aA a 3 fun a=>ret (.tuple [.agg [b,c,d,a],.i 0]) H:=by kernel_rfl
theorem Ys{R:be}{p0:af}{H:DH}:aO R 194 [.str p0] H =
 ae R 194 200003 [.g (.str p0),.g (.row 1 [[.str [97,110,100]],[.str [99,97,115,101]],[.str [100,97,116,97]],[.str [101,108,115,101]],[.str [101,110,100]],[.str [102,110]],[.str [102,117,110]],[.str [105,102]],[.str [105,110]],[.str [105,110,112,117,116]],[.str [108,101,116]],[.str [111,102]],[.str [111,117,116,112,117,116]],[.str [116,104,101,110]],[.str [118,97,108]]]),.n 0] [] H:=by kernel_rfl
theorem ut{R:be}{v0:af}{v3:dB}{v4:Int}{H:DH}:bm R 194 200003 [.g (.str v0),.g (.row 1 v3),.n v4] [] H =
 cond (decide (v4<v3.length)) (cY v4 fun a=>dM v3 a fun a=>aA a 0 fun a=>av ab .eql 9 false a (.str v0) fun a=>brD a (ret (.bool true) H) (ae R 194 200003 [.g (.str v0),.g (.row 1 v3),.n (cq (v4+1))] [] H)) (ret (.bool false) H):=by kernel_rfl
theorem Yc{R:be}{p0 p1:af}{H:DH}:aO R 276 [.str p0,.str p1] H =
 cond (decide ((p0.length:Int)>=(p1.length:Int))) (cI ab 9 (.str p0) none (some (.i p1.length)) none H fun a H=>av ab .eql 9 false a (.str p1) fun a=>ret a H) (ret (.bool false) H):=by kernel_rfl
theorem Yp{R:be}{p0:Int}{H:DH}:aO R 225 [.int .u8 p0] H =
 cond (p0==32) (ret (.bool true) H) (cond (p0==9) (ret (.bool true) H) (cond (p0==10) (ret (.bool true) H) (ret (.bool (p0==13)) H))):=by kernel_rfl
theorem Yl{R:be}{p0:Int}{H:DH}:aO R 229 [.int .u8 p0] H =
 cond (decide ((48:Int)<=p0)) (ret (.bool (decide (p0<=57))) H) (ret (.bool false) H):=by kernel_rfl
theorem YD{R:be}{y a:Nat}{H:DH}:aO R 183 [.yld y,.ptr a 0] H =
 au H a fun _ b=>aA b 0 fun b=>C R 184 [b] H fun _ H=>ae R 183 200001 [.g (.yld y),.g (.ptr a 0)] [] H:=by kernel_rfl
theorem ES{R:be}{v0 v1:Nat}{H:DH}:bm R 183 200001 [.g (.yld v0),.g (.ptr v1 0)] [] H =
 au H v1 fun _ a=>aA a 0 fun a=>eR a fun a=>dz a 0 fun a=>dz a 1 fun a=>bQ ab 3 a H fun a=>au H v1 fun _ b=>aA b 0 fun b=>eR b fun b=>dz b 0 fun b=>dz b 0 fun b=>bQ ab 9 b H fun b=>bJ ab 9 b H fun b=>av ab .lss 3 false a b fun a=>brD a (au H v1 fun _ a=>aA a 0 fun a=>C R 185 [a] H fun a H=>ai 4 a fun a=>az (xT 0 0 [] 0) 0 a fun a=>au H v1 fun _ b=>aA b 0 fun b=>eR b fun c=>dz c 0 fun c=>dz c 1 fun c=>bQ ab 3 c H fun c=>aA a 2 fun d=>bJ ab 9 d H fun d=>av ab .add 3 false c d fun c=>eR b fun b=>dz b 0 fun b=>dz b 1 fun b=>ai 1 c fun c=>sK b c H fun H=>aA a 0 fun b=>aA a 1 fun c=>aA a 2 fun d=>aA a 3 fun a=>dw (R (.call 0 [.agg [b,c,d,a]] (some (.round v0))) H) (fun a H=>sF .not a fun a=>brD a (ret (.tuple []) H) (au H v1 fun _ a=>aA a 0 fun a=>C R 184 [a] H fun _ H=>ae R 183 200001 [.g (.yld v0),.g (.ptr v1 0)] [] H)) fun a H=>some ⟨.pan a,none,H⟩) (ret (.tuple []) H):=by kernel_rfl
theorem Yf{R:be}{p0:Nat}{p1 p2:Int}{H:DH}:aO R 234 [.ptr p0 0,.i p1,.i p2] H =
 cond (decide (p2>24)) (au H p0 fun _ a=>aA a 1 fun a=>ai 1 a fun a=>az [.i 0,.i 0] 0 a fun a=>az a 1 [.i 2] fun a=>pan (.iface 180 (.agg a)) H) (au H p0 fun _ a=>aA a 0 fun a=>au H p0 fun _ b=>aA b 1 fun b=>au H p0 fun _ c=>aA c 1 fun c=>av ab .add 3 false c (.i p2) fun c=>cI ab 9 a (some b) (some c) none H fun a _=>au H p0 fun _ b=>aA b 1 fun b=>ai 1 a fun a=>az (xT p1 0 [] 0) 2 a fun a=>ai 1 b fun b=>az a 3 b fun a=>ai 4 (.agg a) fun a=>az (xT 0 0 [] 0) 0 a fun a=>aA a 0 fun b=>aA a 1 fun c=>aA a 2 fun d=>aA a 3 fun a=>ret (.agg [b,c,d,a]) H):=by kernel_rfl
theorem Yw{R:be}{p0:af}{p1:Int}{H:DH}:aO R 191 [.str p0,.i p1] H =
 ae R 191 200002 [.g (.str p0),.n p1] [] H:=by kernel_rfl
theorem EP{R:be}{v0:af}{v5:Int}{H:DH}:bm R 191 200002 [.g (.str v0),.n v5] [] H =
 cond (decide (v5<v0.length)) (cY v5 fun a=>eI v0 a fun a=>C R 189 [a] H fun a H=>brD a (ae R 191 200002 [.g (.str v0),.n (cq (v5+1))] [] H) (ret (.i v5) H)) (ret (.i v5) H):=by kernel_rfl
theorem Yy{R:be}{p0:Int}{H:DH}:aO R 189 [.int .u8 p0] H =
 C R 190 [.int .u8 p0] H fun a H=>brD a (ret (.bool true) H) (C R 192 [.int .u8 p0] H fun a H=>brD a (ret (.bool true) H) (C R 187 [.int .u8 p0] H fun a H=>brD a (ret (.bool true) H) (ret (.bool (p0==95)) H))):=by kernel_rfl
theorem Yg{R:be}{p0:Int}{H:DH}:aO R 233 [.int .u8 p0] H =
 cond (decide ((65:Int)<=p0)) (ret (.bool (decide (p0<=90))) H) (ret (.bool false) H):=by kernel_rfl
theorem YB{R:be}{p0:Nat}{H:DH}:aO R 185 [.ptr p0 0] H =
 C R 228 [.ptr p0 0,.i 0] H fun a H=>C R 229 [a] H fun b H=>brD b (C R 230 [.ptr p0 0] H fun a H=>ai 4 a fun a=>az (xT 0 0 [] 0) 0 a fun a=>aA a 0 fun b=>aA a 1 fun c=>aA a 2 fun d=>aA a 3 fun a=>ret (.agg [b,c,d,a]) H) (av ab .eql 5 true a (.int .u8 126) fun b=>brD b (C R 230 [.ptr p0 0] H fun a H=>ai 4 a fun a=>az (xT 0 0 [] 0) 0 a fun a=>aA a 0 fun b=>aA a 1 fun c=>aA a 2 fun d=>aA a 3 fun a=>ret (.agg [b,c,d,a]) H) (C R 231 [a] H fun b H=>brD b (C R 232 [.ptr p0 0,.i 2] H fun a H=>ai 4 a fun a=>az (xT 0 0 [] 0) 0 a fun a=>aA a 0 fun b=>aA a 1 fun c=>aA a 2 fun d=>aA a 3 fun a=>ret (.agg [b,c,d,a]) H) (C R 233 [a] H fun b H=>brD b (C R 232 [.ptr p0 0,.i 3] H fun a H=>ai 4 a fun a=>az (xT 0 0 [] 0) 0 a fun a=>aA a 0 fun b=>aA a 1 fun c=>aA a 2 fun d=>aA a 3 fun a=>ret (.agg [b,c,d,a]) H) (av ab .eql 5 true a (.int .u8 39) fun b=>brD b (C R 228 [.ptr p0 0,.i 1] H fun b H=>C R 231 [b] H fun b H=>brD b (C R 224 [.ptr p0 0,.i 1,.func 235 [] []] H fun a H=>av ab .add 3 true (.i 1) a fun a=>C R 234 [.ptr p0 0,.i 4,a] H fun a H=>ai 4 a fun a=>az (xT 0 0 [] 0) 0 a fun a=>aA a 0 fun b=>aA a 1 fun c=>aA a 2 fun d=>aA a 3 fun a=>ret (.agg [b,c,d,a]) H) (ae R 185 11 [.g (.ptr p0 0),.lp 0 0,.g a] [(0,(xT 0 0 [] 0))] H)) (ae R 185 11 [.g (.ptr p0 0),.lp 0 0,.g a] [(0,(xT 0 0 [] 0))] H))))):=by kernel_rfl
theorem QG{R:be}{v0:Nat}{v3 a b:Int}{c:af}{e:Int}{H:DH}:bm R 185 11 [.g (.ptr v0 0),.lp 0 0,.g (.int .u8 v3)] [(0,xT a b c e)] H =
 C R 226 [.ptr v0 0,.str [61,62]] H fun d H=>brD d (C R 234 [.ptr v0 0,.i 6,.i 2] H fun d H=>ai 4 d fun d=>az (xT a b c e) 0 d fun a=>aA a 0 fun b=>aA a 1 fun c=>aA a 2 fun d=>aA a 3 fun a=>ret (.agg [b,c,d,a]) H) (C R 226 [.ptr v0 0,.str [45,62]] H fun d H=>brD d (C R 234 [.ptr v0 0,.i 6,.i 2] H fun d H=>ai 4 d fun d=>az (xT a b c e) 0 d fun a=>aA a 0 fun b=>aA a 1 fun c=>aA a 2 fun d=>aA a 3 fun a=>ret (.agg [b,c,d,a]) H) (C R 236 [.str [40,41,44,59,58,124,61,60,43,45,42,47,37,95],.int .u8 v3] H fun d H=>av ab .geq 3 true d (.i 0) fun d=>brD d (C R 234 [.ptr v0 0,.i 6,.i 1] H fun d H=>ai 4 d fun d=>az (xT a b c e) 0 d fun a=>aA a 0 fun b=>aA a 1 fun c=>aA a 2 fun d=>aA a 3 fun a=>ret (.agg [b,c,d,a]) H) (au H v0 fun _ a=>aA a 1 fun a=>ai 1 a fun a=>az [.i 0,.i 0] 0 a fun a=>az a 1 [.i 11] fun a=>pan (.iface 180 (.agg a)) H))):=by kernel_rfl
theorem Yt{R:be}{p0:af}{p1:Int}{H:DH}:aO R 193 [.str p0,.i p1] H =
 ae R 193 200002 [.g (.str p0),.n p1] [] H:=by kernel_rfl
theorem EO{R:be}{v0:af}{v5:Int}{H:DH}:bm R 193 200002 [.g (.str v0),.n v5] [] H =
 cond (decide (v5<v0.length)) (cY v5 fun a=>eI v0 a fun a=>C R 189 [a] H fun a H=>brD a (ae R 193 200002 [.g (.str v0),.n (cq (v5+1))] [] H) (ae R 193 200005 [.g (.str v0),.n v5,.n (cq (v5+1))] [] H)) (ae R 193 200005 [.g (.str v0),.n v5,.n (cq (v5+1))] [] H):=by kernel_rfl
theorem EN{R:be}{v0:af}{v5 v6:Int}{H:DH}:bm R 193 200005 [.g (.str v0),.n v5,.n v6] [] H =
 cond (decide (v6<v0.length)) (cY v6 fun a=>eI v0 a fun a=>C R 187 [a] H fun a H=>brD a (ae R 193 200005 [.g (.str v0),.n v5,.n (cq (v6+1))] [] H) (cond (decide (v5<v0.length)) (cY v5 fun a=>eI v0 a fun a=>av ab .eql 5 true a (.int .u8 39) fun a=>brD a (cond (decide (v6>(cq (v5+1)))) (ret (.i v6) H) (ret (.i v5) H)) (ret (.i v5) H)) (ret (.i v5) H))) (cond (decide (v5<v0.length)) (cY v5 fun a=>eI v0 a fun a=>av ab .eql 5 true a (.int .u8 39) fun a=>brD a (cond (decide (v6>(cq (v5+1)))) (ret (.i v6) H) (ret (.i v5) H)) (ret (.i v5) H)) (ret (.i v5) H)):=by kernel_rfl
theorem Yo{R:be}{p0:Nat}{p1:af}{H:DH}:aO R 226 [.ptr p0 0,.str p1] H =
 au H p0 fun _ a=>aA a 0 fun a=>au H p0 fun _ b=>aA b 1 fun b=>cI ab 9 a (some b) none none H fun a _=>dw (R (.call 261 [a,.str p1] none) H) (fun a H=>ret a H) fun _ _=>none:=by kernel_rfl
theorem YF{R:be}{p0:Int}{H:DH}:aO R 136 [.int .u8 p0] H =
 cond (p0==9) (ret (.bool true) H) (cond (p0==10) (ret (.bool true) H) (cond (p0==13) (ret (.bool true) H) (ret (.bool (p0==32)) H))):=by kernel_rfl
theorem Yi{R:be}{p0:Int}{H:DH}:aO R 231 [.int .u8 p0] H =
 cond (decide ((97:Int)<=p0)) (ret (.bool (decide (p0<=122))) H) (ret (.bool false) H):=by kernel_rfl
theorem Yd{R:be}{p0 p1:af}{H:DH}:aO R 261 [.str p0,.str p1] H =
 C R 276 [.str p0,.str p1] H fun a H=>ret a H:=by kernel_rfl
theorem ZS{R:be}{p0:af}{H:DH}:aO R 87 [.str p0] H =
 let a:=H++[.cells 0 [.nilrow]];let b:=a++[.cells 0 [.i 0,.i 0]];C R 132 [.str p0] b fun b c=>dw (R (.call 134 [b] none) c) (fun c d=>KH c fun e f g=>dw (R (.call e (f++(.yld (d.length+1)::g)) none) (d++[.coll,Tt de 87 [0,2,3,4,6,7,8,9,10] [.g (.str p0),.g b,.g (.ptr H.length 0),.g (.ptr a.length 0),.g (.str p0),.g b,.g (.func 133 [] [.ptr H.length 0,.ptr a.length 0]),.g b,.g c]])) (fun _ c=>AA c (d.length+1) fun c=>au c H.length fun _ e=>aA e 0 fun e=>ai 1 e fun e=>au c H.length fun f g=>az g 0 e fun e=>let e:=c.set H.length (.cells (f+1) e);au (cR e [c]) a.length fun _ c=>aA c 0 fun f=>aA c 1 fun c=>au e a.length fun g h=>az h 0 [f,c] fun c=>let c:=e.set a.length (.cells (g+1) c);rX c d.length fun c=>HA (R (.call 133 [.ptr H.length 0,.ptr a.length 0] (some .returning)) c) (fun c=>au c H.length fun _ d=>aA d 0 fun d=>au c a.length fun _ a=>aA a 0 fun e=>aA a 1 fun a=>ret (.tuple [b,d,.agg [e,a]]) c) fun a H=>some ⟨.pan a,none,H⟩) fun c e=>rX e d.length fun d=>HA (R (.call 133 [.ptr H.length 0,.ptr a.length 0] (some (.panicking c))) d) (fun c=>au c H.length fun _ d=>aA d 0 fun d=>au c a.length fun _ a=>aA a 0 fun e=>aA a 1 fun a=>ret (.tuple [b,d,.agg [e,a]]) c) fun a H=>some ⟨.pan a,none,H⟩) fun c d=>HA (R (.call 133 [.ptr H.length 0,.ptr a.length 0] (some (.panicking c))) d) (fun c=>au c H.length fun _ d=>aA d 0 fun d=>au c a.length fun _ a=>aA a 0 fun e=>aA a 1 fun a=>ret (.tuple [b,d,.agg [e,a]]) c) fun a H=>some ⟨.pan a,none,H⟩:=by kernel_rfl
theorem QF{R:be}{v0:af}{v2:D}{v3 v4:Nat}{v6:af}{v7 v8 v9 a:D}{b c:Int}{e:af}{h:Int}{o:Nat}{H:DH}:SM de R 200 87 o [0,2,3,4,6,7,8,9,10] [.g (.str v0),.g v2,.g (.ptr v3 0),.g (.ptr v4 0),.g (.str v6),.g v7,.g v8,.g v9,.g a] [.agg (xT b c e h)] H =
 let a:=H++[.cells 0 (xT 0 0 [] 0)];au a H.length fun d f=>az f 0 (xT b c e h) fun b=>let a:=a.set H.length (.cells (d+1) b);Lf a o fun a=>au a v3 fun _ b=>aA b 0 fun b=>au a H.length fun _ c=>aA c 0 fun d=>aA c 1 fun e=>aA c 2 fun f=>aA c 3 fun c=>cE (aJ ab 160) 4 b [[d,e,f,c]] a fun a H=>ai 1 a fun a=>au H v3 fun b c=>az c 0 a fun a=>let H:=H.set v3 (.cells (b+1) a);wt H o:=by kernel_rfl
theorem Yh{R:be}{p0:Nat}{p1:Int}{H:DH}:aO R 232 [.ptr p0 0,.i p1] H =
 C R 224 [.ptr p0 0,.i 0,.func 235 [] []] H fun a H=>C R 228 [.ptr p0 0,a] H fun b H=>av ab .eql 5 true b (.int .u8 39) fun b=>brD b (av ab .add 3 true a (.i 1) fun b=>C R 224 [.ptr p0 0,b,.func 229 [] []] H fun b H=>av ab .gtr 3 true b (.i 0) fun c=>brD c (av ab .add 3 true (.i 1) b fun b=>av ab .add 3 false a b fun a=>ae R 232 6 [.g (.ptr p0 0),.n p1,.lp 0 0,.g a] [(0,(xT 0 0 [] 0))] H) (ae R 232 6 [.g (.ptr p0 0),.n p1,.lp 0 0,.g a] [(0,(xT 0 0 [] 0))] H)) (ae R 232 6 [.g (.ptr p0 0),.n p1,.lp 0 0,.g a] [(0,(xT 0 0 [] 0))] H):=by kernel_rfl
theorem Um{R:be}{v0:Nat}{v1 v5 a b:Int}{c:af}{e:Int}{H:DH}:bm R 232 6 [.g (.ptr v0 0),.n v1,.lp 0 0,.n v5] [(0,xT a b c e)] H =
 C R 234 [.ptr v0 0,.i v1,.i v5] H fun a H=>ai 4 a fun a=>az (xT 0 0 [] 0) 0 a fun a=>au H v0 fun _ b=>aA b 2 fun b=>aA a 2 fun c=>jm ab 135 b c true H fun b=>gY b 0 fun c=>gY b 1 fun b=>brD b (ai 1 c fun b=>az a 0 b fun a=>aA a 0 fun b=>aA a 1 fun c=>aA a 2 fun d=>aA a 3 fun a=>ret (.agg [b,c,d,a]) H) (aA a 0 fun b=>aA a 1 fun c=>aA a 2 fun d=>aA a 3 fun a=>ret (.agg [b,c,d,a]) H):=by kernel_rfl
theorem YC{R:be}{p0:Nat}{H:DH}:aO R 184 [.ptr p0 0] H =
 ae R 184 200000 [.g (.ptr p0 0)] [] H:=by kernel_rfl
theorem ER{R:be}{v0:Nat}{H:DH}:bm R 184 200000 [.g (.ptr v0 0)] [] H =
 dw (R (.call 224 [.ptr v0 0,.i 0,.func 225 [] []] none) H) (fun a b=>au (cR b [H]) v0 fun _ c=>aA c 1 fun c=>av ab .add 3 false c a fun a=>ai 1 a fun a=>au b v0 fun c d=>az d 1 a fun a=>let H:=b.set v0 (.cells (c+1) a);C R 226 [.ptr v0 0,.str [40,42]] H fun a H=>sF .not a fun a=>brD a (ret (.tuple []) H) (au H v0 fun _ a=>aA a 1 fun a=>C R 227 [.ptr v0 0] H fun _ H=>au H v0 fun _ b=>aA b 3 fun b=>au H v0 fun _ c=>aA c 1 fun c=>ai 1 a fun a=>az [.i 0,.i 0] 0 a fun a=>ai 1 c fun c=>az a 1 c fun a=>ai 2 (.agg a) fun a=>cE (aJ ab 304) 2 b [a] H fun a H=>ai 1 a fun a=>au H v0 fun b c=>az c 3 a fun a=>let H:=H.set v0 (.cells (b+1) a);ae R 184 200000 [.g (.ptr v0 0)] [] H)) fun _ _=>none:=by kernel_rfl
theorem Yx{R:be}{p0:Int}{H:DH}:aO R 190 [.int .u8 p0] H =
 cond (decide (p0>=97)) (ret (.bool (decide (p0<=122))) H) (ret (.bool false) H):=by kernel_rfl
theorem ZR{R:be}{p0:af}{H:DH}:aO R 90 [.str p0] H =
 cond ((p0.length:Int)==0) (ret (.i 0) H) (cond (decide ((p0.length:Int)>100)) (ret (.i 0) H) (eI p0 0 fun a=>C R 136 [a] H fun a H=>brD a (ret (.i 0) H) (cond (decide ((p0.length:Int)>1)) (cI ab 9 (.str p0) none (some (.i 2)) none H fun a H=>av ab .eql 9 true a (.str [40,42]) fun a=>brD a (ret (.i 0) H) (ae R 90 5 [.g (.str p0)] [] H)) (ae R 90 5 [.g (.str p0)] [] H)))):=by kernel_rfl
theorem Wr{R:be}{v0:af}{H:DH}:bm R 90 5 [.g (.str v0)] [] H =
 C R 137 [.str v0,.i 0] H fun a H=>gY a 0 fun b=>gY a 1 fun a=>ai 4 b fun b=>az (xT 0 0 [] 0) 0 b fun b=>av ab .neq 28 true a (.i 0) fun a=>brD a (ret (.i 0) H) (aA b 2 fun a=>bJ ab 9 a H fun a=>av ab .neq 3 false a (.i v0.length) fun a=>brD a (ret (.i 0) H) (aA b 0 fun a=>ret a H)):=by kernel_rfl
theorem Ye{R:be}{p0:Int}{H:DH}:aO R 235 [.int .u8 p0] H =
 C R 231 [.int .u8 p0] H fun a H=>brD a (ret (.bool true) H) (C R 233 [.int .u8 p0] H fun a H=>brD a (ret (.bool true) H) (C R 229 [.int .u8 p0] H fun a H=>brD a (ret (.bool true) H) (ret (.bool (p0==95)) H))):=by kernel_rfl
theorem Yn{R:be}{p0:Nat}{H:DH}:aO R 227 [.ptr p0 0] H =
 au H p0 fun _ a=>aA a 1 fun a=>ae R 227 200002 [.g (.ptr p0 0),.g a,.n 0] [] H:=by kernel_rfl
theorem EL{R:be}{v0:Nat}{v2 v3:Int}{H:DH}:bm R 227 200002 [.g (.ptr v0 0),.n v2,.n v3] [] H =
 au H v0 fun _ a=>aA a 1 fun a=>au H v0 fun _ b=>aA b 0 fun b=>bJ ab 9 b H fun b=>av ab .geq 3 false a b fun a=>brD a (pan (.iface 180 (.agg [.i v2,.i 12])) H) (C R 226 [.ptr v0 0,.str [40,42]] H fun a H=>brD a (cond (decide (v3>=100)) (au H v0 fun _ a=>aA a 1 fun a=>ai 1 a fun a=>az [.i 0,.i 0] 0 a fun a=>az a 1 [.i 6] fun a=>pan (.iface 180 (.agg a)) H) (au H v0 fun _ a=>aA a 1 fun a=>av ab .add 3 true a (.i 2) fun a=>ai 1 a fun a=>au H v0 fun b c=>az c 1 a fun a=>let H:=H.set v0 (.cells (b+1) a);ae R 227 200002 [.g (.ptr v0 0),.n v2,.n (cq (v3+1))] [] H)) (C R 226 [.ptr v0 0,.str [42,41]] H fun a H=>brD a (au H v0 fun _ a=>aA a 1 fun a=>av ab .add 3 true a (.i 2) fun a=>ai 1 a fun a=>au H v0 fun b c=>az c 1 a fun a=>let H:=H.set v0 (.cells (b+1) a);cond ((cq (v3 - 1))==0) (ret (.tuple []) H) (ae R 227 200002 [.g (.ptr v0 0),.n v2,.n (cq (v3 - 1))] [] H)) (au H v0 fun _ a=>aA a 1 fun a=>av ab .add 3 true a (.i 1) fun a=>ai 1 a fun a=>au H v0 fun b c=>az c 1 a fun a=>let H:=H.set v0 (.cells (b+1) a);ae R 227 200002 [.g (.ptr v0 0),.n v2,.n v3] [] H))):=by kernel_rfl
theorem Yq{R:be}{p0:Nat}{p1:Int}{p2:D}{H:DH}:aO R 224 [.ptr p0 0,.i p1,p2] H =
 ae R 224 200002 [.g (.ptr p0 0),.n p1,.g p2,.n 0] [] H:=by kernel_rfl
theorem EM{R:be}{v0:Nat}{v1:Int}{v2:D}{v7:Int}{H:DH}:bm R 224 200002 [.g (.ptr v0 0),.n v1,.g v2,.n v7] [] H =
 au H v0 fun _ a=>aA a 1 fun a=>av ab .add 3 false a (.i v1) fun a=>av ab .add 3 false a (.i v7) fun a=>au H v0 fun _ b=>aA b 0 fun b=>bJ ab 9 b H fun b=>av ab .lss 3 false a b fun a=>brD a (au H v0 fun _ a=>aA a 0 fun a=>au H v0 fun _ b=>aA b 1 fun b=>av ab .add 3 false b (.i v1) fun b=>av ab .add 3 false b (.i v7) fun b=>js ab 9 a b fun a=>Hf mc v2 fun b c d=>dw (R (.call b (c++([a]++d)) none) H) (fun a H=>brD a (ae R 224 200002 [.g (.ptr v0 0),.n v1,.g v2,.n (cq (v7+1))] [] H) (ret (.i v7) H)) fun _ _=>none) (ret (.i v7) H):=by kernel_rfl
theorem Up{R:be}{a b:Nat}{H:DH}:LT de R 200 (.call 133 [.ptr a 0,.ptr b 0] (some .returning)) H =
 some ⟨.ret (.tuple []),(some .returning),H⟩:=by kernel_rfl
theorem Uq{R:be}{b c:Nat}{a e:Int}{H:DH}:LT de R 200 (.call 133 [.ptr b 0,.ptr c 0] (some (.panicking [⟨.iface 180 (.agg [.i a,.i e]),false⟩]))) H =
 mq ab (.iface 180 (.agg [.i a,.i e])) 180 true fun d=>gY d 1 fun f=>gY d 0 fun d=>brD f (ai 2 d fun d=>az [.i 0,.i 0] 0 d fun d=>au H b fun f g=>az g 0 [.nilrow] fun g=>let H:=H.set b (.cells (f+1) g);aA d 0 fun b=>aA d 1 fun d=>au H c fun f g=>az g 0 [b,d] fun b=>let H:=H.set c (.cells (f+1) b);some ⟨.ret (.tuple []),(some (.panicking [⟨.iface 180 (.agg [.i a,.i e]),true⟩])),H⟩) (some ⟨.pan [⟨.iface 180 (.agg [.i a,.i e]),false⟩],(some (.panicking [⟨.iface 180 (.agg [.i a,.i e]),true⟩])),H⟩):=by kernel_rfl
theorem f57{R:be}{p0:af}{H:DH}:aO R 57 [.str p0] H =
 qD H (cond (decide ((p0.length:Int)>24)) (ret (.i 0) H) (C R 87 [.str p0] H fun a H=>gY a 0 fun _=>gY a 1 fun b=>gY a 2 fun a=>ai 2 a fun a=>az [.i 0,.i 0] 0 a fun a=>aA a 1 fun a=>av ab .neq 28 true a (.i 0) fun a=>brD a (ret (.i 0) H) (bJ ab 141 b H fun a=>av ab .neq 3 true a (.i 1) fun a=>brD a (ret (.i 0) H) (aq ab 141 b (.i 0) fun a=>dz a 2 fun a=>bQ ab 9 a H fun a=>av ab .neq 9 false a (.str p0) fun a=>brD a (ret (.i 0) H) (aq ab 141 b (.i 0) fun a=>dz a 0 fun a=>bQ ab 3 a H fun a=>ret a H))))):=by kernel_rfl
theorem Ym{R:be}{p0:Nat}{p1:Int}{H:DH}:aO R 228 [.ptr p0 0,.i p1] H =
 au H p0 fun _ a=>aA a 1 fun a=>av ab .add 3 false a (.i p1) fun a=>au H p0 fun _ b=>aA b 0 fun b=>bJ ab 9 b H fun b=>av ab .geq 3 false a b fun a=>brD a (ret (.int .u8 0) H) (au H p0 fun _ a=>aA a 0 fun a=>au H p0 fun _ b=>aA b 1 fun b=>av ab .add 3 false b (.i p1) fun b=>js ab 9 a b fun a=>ret a H):=by kernel_rfl
theorem f29{R:be}{p0:af}{H:DH}:aO R 29 [.str p0] H =
 C R 57 [.str p0] H fun a H=>av ab .eql 3 true a (.i 4) fun a=>ret a H:=by kernel_rfl
theorem YG{R:be}{p0:Nat}{H:DH}:aO R 134 [.ptr p0 0] H =
 let a:=H++[.cells 0 [.ptr p0 0]];ret (.func 183 [] [.ptr H.length 0]) a:=by kernel_rfl
theorem Yj{R:be}{p0:Nat}{H:DH}:aO R 230 [.ptr p0 0] H =
 C R 228 [.ptr p0 0,.i 0] H fun a H=>av ab .eql 5 true a (.int .u8 126) fun a=>brD a (ae R 230 4 [.g (.ptr p0 0),.lp 0 0,.n 1] [(0,(xT 0 0 [] 0))] H) (ae R 230 4 [.g (.ptr p0 0),.lp 0 0,.n 0] [(0,(xT 0 0 [] 0))] H):=by kernel_rfl
theorem Oc{R:be}{v0:Nat}{v3 a b:Int}{c:af}{e:Int}{H:DH}:bm R 230 4 [.g (.ptr v0 0),.lp 0 0,.n v3] [(0,xT a b c e)] H =
 C R 224 [.ptr v0 0,.i v3,.func 229 [] []] H fun d H=>av ab .add 3 false (.i v3) d fun f=>C R 228 [.ptr v0 0,f] H fun f H=>au H v0 fun _ g=>aA g 0 fun g=>au H v0 fun _ h=>aA h 1 fun h=>au H v0 fun _ i=>aA i 1 fun i=>av ab .add 3 false i (.i v3) fun i=>av ab .add 3 false i d fun d=>cI ab 9 g (some h) (some d) none H fun d _=>C R 262 [d] H fun g H=>gY g 0 fun h=>gY g 1 fun g=>av ab .neq 28 true g (.i 0) fun g=>brD g (au H v0 fun _ a=>aA a 1 fun a=>ai 1 a fun a=>az [.i 0,.i 0] 0 a fun a=>az a 1 [.i 13] fun a=>pan (.iface 180 (.agg a)) H) (C R 235 [f] H fun g H=>brD g (au H v0 fun _ a=>aA a 1 fun a=>ai 1 a fun a=>az [.i 0,.i 0] 0 a fun a=>az a 1 [.i 13] fun a=>pan (.iface 180 (.agg a)) H) (av ab .eql 5 true f (.int .u8 39) fun f=>brD f (au H v0 fun _ a=>aA a 1 fun a=>ai 1 a fun a=>az [.i 0,.i 0] 0 a fun a=>az a 1 [.i 13] fun a=>pan (.iface 180 (.agg a)) H) (au H v0 fun _ f=>aA f 1 fun f=>ai 1 h fun g=>az (xT 1 0 [] 0) 1 g fun g=>ai 1 d fun d=>az g 2 d fun d=>ai 1 f fun f=>az d 3 f fun d=>ai 4 (.agg d) fun d=>az (xT a b c e) 0 d fun a=>aA a 0 fun b=>aA a 1 fun c=>aA a 2 fun d=>aA a 3 fun a=>ret (.agg [b,c,d,a]) H))):=by kernel_rfl
theorem Yr{R:be}{p0:af}{p1:Int}{H:DH}:aO R 195 [.str p0,.i p1] H =
 cond (decide ((cq (p1+1))<(p0.length:Int))) (cI ab 9 (.str p0) (some (.i p1)) (some (.i (cq (p1+2)))) none H fun a H=>av ab .eql 9 true a (.str [61,62]) fun a=>brD a (ret (.i 2) H) (cI ab 9 (.str p0) (some (.i p1)) (some (.i (cq (p1+2)))) none H fun a H=>av ab .eql 9 true a (.str [45,62]) fun a=>brD a (ret (.i 2) H) (ae R 195 200005 [.g (.str p0),.n p1,.g (.str [40,41,44,59,58,124,61,60,43,45,42,47,37,95]),.n 0] [] H))) (ae R 195 200005 [.g (.str p0),.n p1,.g (.str [40,41,44,59,58,124,61,60,43,45,42,47,37,95]),.n 0] [] H):=by kernel_rfl
theorem ur{R:be}{v0:af}{v1:Int}{v5:af}{v6:Int}{H:DH}:bm R 195 200005 [.g (.str v0),.n v1,.g (.str v5),.n v6] [] H =
 cond (decide (v6<v5.length)) (cY v6 fun a=>eI v5 a fun a=>cY v1 fun b=>eI v0 b fun b=>av ab .eql 5 false a b fun a=>brD a (ret (.i 1) H) (ae R 195 200005 [.g (.str v0),.n v1,.g (.str v5),.n (cq (v6+1))] [] H)) (ret (.i 0) H):=by kernel_rfl
theorem f55{R:be}{p0:af}{H:DH}:aO R 55 [.str p0] H =
 C R 57 [.str p0] H fun a H=>av ab .eql 3 true a (.i 3) fun a=>ret a H:=by kernel_rfl
theorem YA{R:be}{p0:Int}{H:DH}:aO R 187 [.int .u8 p0] H =
 cond (decide (p0>=48)) (ret (.bool (decide (p0<=57))) H) (ret (.bool false) H):=by kernel_rfl
theorem Yz{R:be}{p0:af}{H:DH}:aO R 188 [.str p0] H =
 cond (decide ((p0.length:Int)>0)) (eI p0 0 fun a=>av ab .eql 5 true a (.int .u8 126) fun a=>brD a (ae R 188 4 [.g (.str p0),.n 1] [] H) (ae R 188 4 [.g (.str p0),.n 0] [] H)) (ae R 188 4 [.g (.str p0),.n 0] [] H):=by kernel_rfl
theorem Un{R:be}{v0:af}{v4:Int}{H:DH}:bm R 188 4 [.g (.str v0),.n v4] [] H =
 cond ((v0.length:Int)==v4) (ret (.tuple [.i 0,.i 13]) H) (cond (decide ((v0.length:Int)>30)) (ret (.tuple [.i 0,.i 13]) H) (cY v4 fun a=>eI v0 a fun a=>av ab .eql 5 true a (.int .u8 48) fun a=>brD a (cond (decide ((v0.length:Int)>1)) (ret (.tuple [.i 0,.i 13]) H) (ae R 188 200009 [.g (.str v0),.n v4,.n 0,.n (-9223372036854775808),.n v4] [] H)) (ae R 188 200009 [.g (.str v0),.n v4,.n 0,.n (-9223372036854775808),.n v4] [] H))):=by kernel_rfl
theorem EQ{R:be}{v0:af}{v4 v5 v6 v7:Int}{H:DH}:bm R 188 200009 [.g (.str v0),.n v4,.n v5,.n v6,.n v7] [] H =
 cond (decide (v7<v0.length)) (cY v7 fun a=>eI v0 a fun a=>C R 187 [a] H fun a H=>sF .not a fun a=>brD a (ret (.tuple [.i 0,.i 13]) H) (cY v7 fun a=>eI v0 a fun a=>av ab .sub 5 true a (.int .u8 48) fun a=>pD ab 5 3 a fun a=>av ab .add 3 false (.i v6) a fun b=>av ab .quo 3 true b (.i 10) fun b=>av ab .lss 3 false (.i v5) b fun b=>brD b (ret (.tuple [.i 0,.i 13]) H) (av ab .sub 3 false (.i (cq (10*v5))) a fun a=>ae R 188 200009 [.g (.str v0),.n v4,.g a,.n v6,.n (cq (v7+1))] [] H))) (cond (v4==1) (ret (.tuple [.i v5,.i 0]) H) (cond (v5==v6) (ret (.tuple [.i 0,.i 13]) H) (ret (.tuple [.i (cq (0 - v5)),.i 0]) H))):=by kernel_rfl
theorem YH{R:be}{p0:af}{H:DH}:aO R 132 [.str p0] H =
 let a:=H++[.map []];let b:=a++[.buf 2 true false []];let H:=b++[.cells 0 [.str p0,.i 0,.map H.length,.buf 2 a.length 0]];ae R 132 200003 [.g (.ptr b.length 0),.g (.agg [.str [97,110,100],.str [99,97,115,101],.str [100,97,116,97],.str [101,108,115,101],.str [101,110,100],.str [102,110],.str [102,117,110],.str [105,102],.str [105,110],.str [105,110,112,117,116],.str [108,101,116],.str [111,102],.str [111,117,116,112,117,116],.str [116,104,101,110],.str [118,97,108]]),.n 0] [] H:=by kernel_rfl
theorem EU{R:be}{v3:Nat}{a b c e h j k l m p q r s t u:af}{v:Int}{H:DH}:bm R 132 200003 [.g (.ptr v3 0),.g (.agg [.str a,.str b,.str c,.str e,.str h,.str j,.str k,.str l,.str m,.str p,.str q,.str r,.str s,.str t,.str u]),.n v] [] H =
 cond (decide (v<15)) (js ab 281 (.agg [.str a,.str b,.str c,.str e,.str h,.str j,.str k,.str l,.str m,.str p,.str q,.str r,.str s,.str t,.str u]) (.i v) fun d=>au H v3 fun _ f=>aA f 2 fun f=>jY ab 135 f d (.i 5) H fun H=>ae R 132 200003 [.g (.ptr v3 0),.g (.agg [.str a,.str b,.str c,.str e,.str h,.str j,.str k,.str l,.str m,.str p,.str q,.str r,.str s,.str t,.str u]),.n (cq (v+1))] [] H) (ret (.ptr v3 0) H):=by kernel_rfl
theorem Yu{R:be}{p0:Int}{H:DH}:aO R 192 [.int .u8 p0] H =
 cond (decide (p0>=65)) (ret (.bool (decide (p0<=90))) H) (ret (.bool false) H):=by kernel_rfl
end Go.Proofs.YtenibcfppefobaaGreatDoor
namespace Go.Proofs.YtenibcfppefobaaGreatDoor
open Go.AI
def pk(l:af)(i:Nat):Nat:=(l[i]?).getD 0%256
def eP(c:Nat):Bool:=decide (97<=c)&&decide (c<=122)
def hQ(c:Nat):Bool:=decide (65<=c)&&decide (c<=90)
def bg(c:Nat):Bool:=decide (48<=c)&&decide (c<=57)
def aW(c:Nat):Bool:=eP c||hQ c||bg c||c==95
def dN(c:Nat):Bool:=c==32||c==9||c==10||c==13
def rn(q:Nat->Bool)(l:af)(i:Nat):Nat:=((l.drop i).takeWhile fun c=>q (c%256)).length
theorem BU(q:Nat->Bool){l:af}{i:Nat}(h:l.length<=i):rn q l i=0:=by simp[rn,List.drop_eq_nil_of_le h]
theorem jP(q:Nat->Bool){l:af}{i:Nat}(h:i<l.length):rn q l i=if q (pk l i)=true then rn q l (i+1)+1 else 0:=by
 unfold rn pk
 rw[List.drop_eq_getElem_cons h,List.takeWhile_cons,List.getElem?_eq_getElem h,Option.getD_some]
 split<;>rfl
theorem qN(q:Nat->Bool)(l:af)(i:Nat)(h:i<=l.length):i+rn q l i<=l.length:=by
 grind [rn,List.takeWhile_sublist]
theorem Vr(l:af)(i:Nat):pk l i<256:=Nat.mod_lt _ (by decide)
theorem ni{l:af}{i:Nat}(h:l.length<=i):pk l i=0:=by simp[pk,List.getElem?_eq_none h]
theorem cS{l:af}{i:Nat}(h:i<l.length)(κ:D->ah):eI l i κ=κ (.int .u8 (pk l i:Nat)):=by
 unfold eI pk
 rw[List.getElem?_eq_getElem h,Option.getD_some]
 rfl
theorem KB(l:af)(H:DH)(κ:D->ah):bJ ab 9 (.str l) H κ=κ (.i l.length):=by kernel_rfl
theorem VZ(l:af)(k:IntKind)(i:Int)(κ:D->ah):js ab 9 (.str l) (.int k i) κ=cY i fun i=>eI l i κ:=by kernel_rfl
theorem Pe(l:af)(a b:Nat)(H:DH)(κ:D->DH->ah)(h:a<=b)(h2:b<=l.length):cI ab 9 (.str l) (some (.i a)) (some (.i b)) none H κ=κ (.str ((l.drop a).take (b - a))) H:=by
 have e:cI ab 9 (.str l) (some (.i a)) (some (.i b)) none H κ=boK (Nat.ble b l.length&&Nat.ble a b) (κ (.str ((l.drop a).take (b - a))) H):=by kernel_rfl
 rw[e,Nat.ble_eq_true_of_le h,Nat.ble_eq_true_of_le h2];rfl
theorem Xe(l:af)(a:Nat)(H:DH)(κ:D->DH->ah)(h:a<=l.length):cI ab 9 (.str l) (some (.i a)) none none H κ=κ (.str (l.drop a)) H:=by
 have e:cI ab 9 (.str l) (some (.i a)) none none H κ=boK (Nat.ble l.length l.length&&Nat.ble a l.length) (κ (.str ((l.drop a).take (l.length - a))) H):=by kernel_rfl
 rw[e,Nat.ble_eq_true_of_le h,Nat.ble_eq_true_of_le (Nat.le_refl _),List.take_of_length_le (by simp)];rfl
theorem Vk(l:af)(b:Nat)(H:DH)(κ:D->DH->ah)(h:b<=l.length):cI ab 9 (.str l) none (some (.i b)) none H κ=κ (.str (l.take b)) H:=by
 have e:cI ab 9 (.str l) none (some (.i b)) none H κ=boK (Nat.ble b l.length&&Nat.ble 0 b) (κ (.str ((l.drop 0).take (b - 0))) H):=by kernel_rfl
 rw[e,Nat.ble_eq_true_of_le h,Nat.ble_eq_true_of_le (Nat.zero_le _)];rfl
theorem jg{x:ah}{d:D}{H:DH}{k:D->DH->ah}{kp:List fB->DH->ah}(h:x=ret d H):dw x k kp=k d H:=by rw[h];rfl
theorem La{x:ah}{c:List fB}{u:Option eU}{H:DH}{k:D->DH->ah}{kp:List fB->DH->ah}(h:x=some ⟨.pan c,u,H⟩):dw x k kp=kp c H:=by rw[h];rfl
theorem Bz{R:be}{f:FuncId}{args:List D}{d:D}{H H':DH}{k:D->DH->ah}(h:R (.call f args none) H=pan d H'):C R f args H k=pan d H':=by rw[C,h];rfl
theorem GJ{H:DH}{o st:Nat}{cs:List D}{κ:Nat->List D->ah}(h:H[o]? = some (.cells st cs)):au (cR H [H]) o κ=κ st cs:=ac (nZ h (fun H2 h2=>by simp at h2;subst h2;exact h))
section bytes
variable(H:DH)(c:Nat)
theorem XE(a:Nat):decide ((a:Int)<=(c:Int))=decide (a<=c):=decide_eq_decide.2 (by omega)
theorem Kt(a:Nat):decide ((c:Int)<=(a:Int))=decide (c<=a):=decide_eq_decide.2 (by omega)
theorem Va(a:Nat):decide ((c:Int)>=(a:Int))=decide (a<=c):=decide_eq_decide.2 (by omega)
theorem neq(a:Nat):((c:Int)==(a:Int))=(c==a):=by rw[Bool.eq_iff_iff];simp only[beq_iff_eq];omega
theorem IV(a b:Nat):decide ((a:Int)<(b:Int))=decide (a<b):=decide_eq_decide.2 (by omega)
theorem rng(a b:Nat):cond (decide (a<=c)) (ret (.bool (decide (c<=b))) H) (ret (.bool false) H)=ret (.bool (decide (a<=c)&&decide (c<=b))) H:=by cases decide (a<=c)<;>rfl
theorem BG:ay 231 [.int .u8 (c:Nat)] H=ret (.bool (eP c)) H:=ev (Yi) (by rw[show(97:Int)=((97:Nat):Int)from rfl,show(122:Int)=((122:Nat):Int)from rfl,XE,Kt,rng];rfl)
theorem Jj:ay 233 [.int .u8 (c:Nat)] H=ret (.bool (hQ c)) H:=ev (Yg) (by rw[show(65:Int)=((65:Nat):Int)from rfl,show(90:Int)=((90:Nat):Int)from rfl,XE,Kt,rng];rfl)
theorem vD:ay 229 [.int .u8 (c:Nat)] H=ret (.bool (bg c)) H:=ev (Yl) (by rw[show(48:Int)=((48:Nat):Int)from rfl,show(57:Int)=((57:Nat):Int)from rfl,XE,Kt,rng];rfl)
theorem BF:ay 190 [.int .u8 (c:Nat)] H=ret (.bool (eP c)) H:=ev (Yx) (by rw[show(97:Int)=((97:Nat):Int)from rfl,show(122:Int)=((122:Nat):Int)from rfl,Va,Kt,rng];rfl)
theorem Cy:ay 192 [.int .u8 (c:Nat)] H=ret (.bool (hQ c)) H:=ev (Yu) (by rw[show(65:Int)=((65:Nat):Int)from rfl,show(90:Int)=((90:Nat):Int)from rfl,Va,Kt,rng];rfl)
theorem rU:ay 187 [.int .u8 (c:Nat)] H=ret (.bool (bg c)) H:=ev (YA) (by rw[show(48:Int)=((48:Nat):Int)from rfl,show(57:Int)=((57:Nat):Int)from rfl,Va,Kt,rng];rfl)
theorem GE:ay 235 [.int .u8 (c:Nat)] H=ret (.bool (aW c)) H:=ev (Ye) (by
 simp only[aw (BG _ _),aw (Jj _ _),aw (vD _ _),ak,show(95:Int)=((95:Nat):Int)from rfl,neq,aW]
 cases eP c<;>cases hQ c<;>cases bg c<;>rfl)
theorem GD:ay 189 [.int .u8 (c:Nat)] H=ret (.bool (aW c)) H:=ev (Yy) (by
 simp only[aw (BF _ _),aw (Cy _ _),aw (rU _ _),ak,show(95:Int)=((95:Nat):Int)from rfl,neq,aW]
 cases eP c<;>cases hQ c<;>cases bg c<;>rfl)
theorem PB:ay 225 [.int .u8 (c:Nat)] H=ret (.bool (dN c)) H:=ev (Yp) (by
 simp only[show(32:Int)=((32:Nat):Int)from rfl,show(9:Int)=((9:Nat):Int)from rfl,show(10:Int)=((10:Nat):Int)from rfl,show(13:Int)=((13:Nat):Int)from rfl,neq,dN]
 cases c==32<;>cases c==9<;>cases c==10<;>cases c==13<;>rfl)
theorem PA:ay 136 [.int .u8 (c:Nat)] H=ret (.bool (dN c)) H:=ev (YF) (by
 simp only[show(32:Int)=((32:Nat):Int)from rfl,show(9:Int)=((9:Nat):Int)from rfl,show(10:Int)=((10:Nat):Int)from rfl,show(13:Int)=((13:Nat):Int)from rfl,neq,dN]
 cases c==32<;>cases c==9<;>cases c==10<;>cases c==13<;>rfl)
end bytes
end Go.Proofs.YtenibcfppefobaaGreatDoor
namespace Go.Proofs.YtenibcfppefobaaGreatDoor
open Go.AI
theorem wN{a b:Nat}(h:a+b<2^62):cq ((a:Int)+(b:Int))=((a+b:Nat):Int):=by rw[BB]<;>omega
variable{H:DH}{p at' st:Nat}{l:af}{x y:D}
abbrev mO(l:af)(at':Nat)(x y:D):List D:=[.str l,.i at',x,y]
theorem qW(hp:H[p]? = some (.cells st (mO l at' x y)))(k:Nat)(h:at'+k<2^62):ay 228 [.ptr p 0,.i k] H=ret (.int .u8 (pk l (at'+k):Nat)) H:=by
 refine ev (Ym) ?_
 simp only[ac hp,aj,ar,eO,wN h,KB,vG,Va,VZ,ak,aP]
 grind [ni,cS]
theorem DS{g:Nat}{q:Nat->Bool}(hb:eK mc g=true)(hg:∀ c H,ay g [.int .u8 (c:Nat)] H=ret (.bool (q c)) H)(hp:H[p]? = some (.cells st (mO l at' x y)))(hl:l.length<2^60)(k:Nat)(hk:at'+k<2^60):∀(d n:Nat),d=l.length - (at'+k+n)->n<2^60 ->
 ae am 224 200002 [.g (.ptr p 0),.n k,.g (.func g [] []),.n n] [] H=ret (.i (n+rn q l (at'+k+n):Nat)) H
 |d,n,hd,hn=>by
  refine cM (EM) ?_
  simp only[ac hp,aj,ar,eO,wN (show at'+k<2^62 by omega),wN (show at'+k+n<2^62 by omega),KB,Df,IV,VZ,ak,aP,Cz hb,List.nil_append,List.append_nil]
  cases hc:decide (at'+k+n<l.length)with
  |false =>
   grind [BU]
  |true =>
   have hc:at'+k+n<l.length:=by simpa using hc
   rw[cond_true,cS hc,jg (hg _ _),jP q hc]
   cases hq:q (pk l (at'+k+n))with
   |false=>simp[ak]
   |true =>
    have ih:=DS hb hg hp hl k hk (d - 1) (n+1) (by omega) (by omega)
    grind [ak,aS]
 termination_by d=>d
theorem wo{g:Nat}{q:Nat->Bool}(hb:eK mc g=true)(hg:∀ c H,ay g [.int .u8 (c:Nat)] H=ret (.bool (q c)) H)(hp:H[p]? = some (.cells st (mO l at' x y)))(hl:l.length<2^60)(k:Nat)(hk:at'+k<2^60) :
 ay 224 [.ptr p 0,.i k,.func g [] []] H=ret (.i (rn q l (at'+k):Nat)) H:=by
 refine ev (Yq) ?_
 have:=DS hb hg hp hl k hk _ 0 rfl (by omega)
 simp only[Nat.zero_add,Nat.add_zero]at this
 exact this
theorem SQ(s t:af)(H:DH):ay 261 [.str s,.str t] H=ret (.bool (s.take t.length==t)) H:=by
 have h:ay 276 [.str s,.str t] H=ret (.bool (s.take t.length==t)) H:=by
  refine ev (Yc) ?_
  rw[Va]
  cases hc:decide (t.length<=s.length)with
  |true =>
   grind [Vk,lj]
  |false =>
   have hc:¬ t.length<=s.length:=by simpa using hc
   have:(s.take t.length==t)=false:=by
    grind
   rw[this];rfl
 refine ev (Yd) ?_
 rw[aw h]
theorem kM(hp:H[p]? = some (.cells st (mO l at' x y)))(ha:at'<=l.length)(t:af):ay 226 [.ptr p 0,.str t] H=ret (.bool ((l.drop at').take t.length==t)) H:=by
 refine ev (Yo) ?_
 grind [ac,aj,ar,Xe,jg,SQ]
def uP:List af:=[[97,110,100],[99,97,115,101],[100,97,116,97],[101,108,115,101],[101,110,100],[102,110],[102,117,110],[105,102],[105,110],[105,110,112,117,116],[108,101,116],[111,102],[111,117,116,112,117,116],[116,104,101,110],[118,97,108]]
def Gp:af:=[40,41,44,59,58,124,61,60,43,45,42,47,37,95]
def cK(l:af)(p:Nat):Nat:=if pk l (p+rn aW l p)=39/\0<rn bg l (p+rn aW l p+1)then rn aW l p+(1+rn bg l (p+rn aW l p+1))else rn aW l p
def sD(l:af)(p:Nat):Nat:=if(l.drop p).take 2=[61,62]\/(l.drop p).take 2=[45,62] then 2 else if pk l p∈Gp then 1 else 0
def fD(l:af)(p:Nat):Prop:=bg (pk l p)=true\/pk l p=126
def fG(l:af)(p:Nat):Option (Int×Nat) :=
 if eP (pk l p)=true then(if cK l p>24 then none else some (if(l.drop p).take (cK l p)∈uP then 5 else 2,cK l p))
 else if hQ (pk l p)=true then(if cK l p>24 then none else some (3,cK l p))
 else if pk l p=39/\eP (pk l (p+1))=true then(if 1+rn aW l (p+1)>24 then none else some (4,1+rn aW l (p+1)))
 else if sD l p=0 then none else some (6,sD l p)
def tk(k n:Int)(t:af)(a:Nat):D:=.agg (xT k n t a)
def wr(a e:Int):D:=.iface 180 (.agg [.i a,.i e])
def Ig:List (D×D):=uP.map fun w=>(.str w,.i 5)
theorem UZ(a b c d e f g h:D)(κ:List D->ah):az [a,b,c,d] 0 [e,f,g,h] κ=κ [e,f,g,h]:=rfl
theorem Kk(a b c d e:D)(κ:List D->ah):az [a,b,c,d] 1 [e] κ=κ [a,e,c,d]:=rfl
theorem Xz(a b c d e:D)(κ:List D->ah):az [a,b,c,d] 0 [e] κ=κ [e,b,c,d]:=rfl
theorem Vt(a b c d e:D)(κ:List D->ah):az [a,b,c,d] 2 [e] κ=κ [a,b,e,d]:=rfl
theorem SU(a b c d e:D)(κ:List D->ah):az [a,b,c,d] 3 [e] κ=κ [a,b,c,e]:=rfl
theorem Nb(a b e:D)(κ:List D->ah):az [a,b] 0 [e] κ=κ [e,b]:=rfl
theorem Na(a b e:D)(κ:List D->ah):az [a,b] 1 [e] κ=κ [a,e]:=rfl
theorem PP(a b e f:D)(κ:List D->ah):az [a,b] 0 [e,f] κ=κ [e,f]:=rfl
theorem Ww(a b c d:D)(κ:List D->ah):ai 4 (.agg [a,b,c,d]) κ=κ [a,b,c,d]:=rfl
theorem YO(a b:D)(κ:List D->ah):ai 2 (.agg [a,b]) κ=κ [a,b]:=rfl
theorem uJ(k:IntKind)(n:Int)(κ:List D->ah):ai 1 (.int k n) κ=κ [.int k n]:=rfl
theorem Wx(l:af)(κ:List D->ah):ai 1 (.str l) κ=κ [.str l]:=rfl
theorem UC(a b c:Nat)(κ:List D->ah):ai 1 (.buf a b c) κ=κ [.buf a b c]:=rfl
variable{H:DH}{p at' st m:Nat}{l:af}{x y:D}
theorem Nm(a b:Nat):decide ((a:Int)>(b:Int))=decide (b<a):=decide_eq_decide.2 (by omega)
theorem rm(hp:H[p]? = some (.cells st (mO l at' x y)))(k:Int)(n:Nat)(hn:at'+n<=l.length)(hl:l.length<2^60):ay 234 [.ptr p 0,.i k,.i n] H=if n>24 then pan (wr at' 2) H else ret (tk k 0 ((l.drop at').take n) at') H:=by
 refine ev (Yf) ?_
 rw[show(24:Int)=((24:Nat):Int)from rfl,Nm]
 cases hc:decide (24<n)with
 |true =>
  grind [ac,aj,ar,uJ,Nb,Na,wr]
 |false =>
  have hc:¬ 24<n:=by simpa using hc
  rw[if_neg hc]
  simp only[cond_false,ac hp,aj,ar,eO,wN (show at'+n<2^62 by omega),Pe l at' (at'+n) H _ (by omega) hn,uJ,Wx,Vt,SU,Ww,UZ,tk,show at'+n - at'=n by omega]
theorem Jb(t:af):∀ ws:List af,zr (.str t) (ws.map fun w=>((.str w:D),(.i 5:D)))=some (if t∈ws then some (.i 5)else none)
 |[]=>rfl
 |w::r=>by
  simp only[List.map_cons,zr,nI,Jb t r]
  grind
theorem Qi(hm:H[m]? = some (.map Ig))(t:af)(κ:D->ah):jm ab 135 (.map m) (.str t) true H κ=κ (.tuple [.i (if t∈uP then 5 else 0),.bool (decide (t∈uP))]):=by
 have e:jm ab 135 (.map m) (.str t) true H κ=nF H m fun es=>mC (.str t) es fun r=>fS ab 3 true r κ:=by kernel_rfl
 have e2:fS ab 3 true none κ=κ (.tuple [.i 0,.bool false]):=by kernel_rfl
 rw[e,jd hm,mC,Ig,Jb]
 by_cases h:t∈uP
 ·simp only[h,if_true,decide_true];rfl
 grind
theorem JH:eK mc 235=true:=by kernel_rfl
theorem JI:eK mc 229=true:=by kernel_rfl
theorem Ra:eK mc 225=true:=by kernel_rfl
theorem rh(l:af)(p:Nat)(h:p<=l.length):p+cK l p<=l.length:=by
 have h1:=qN aW l p h
 unfold cK
 split
 ·rename_i hc
  have h3:p+rn aW l p<l.length:=by
   grind [ni]
  have:=qN bg l (p+rn aW l p+1) (by omega)
  omega
 ·exact h1
theorem Te(hp:H[p]? = some (.cells st (mO l at' (.map m) y)))(hm:H[m]? = some (.map Ig))(k:Int)(n:Nat)(hn:at'+n<=l.length)(hl:l.length<2^60) :
 ae am 232 6 [.g (.ptr p 0),.n k,.lp 0 0,.n n] [(0,(xT 0 0 [] 0))] H=if n>24 then pan (wr at' 2) H else ret (tk (if(l.drop at').take n∈uP then 5 else k) 0 ((l.drop at').take n) at') H:=by
 refine cM (Um) ?_
 have h:=rm hp k n hn hl
 by_cases hc:n>24
 ·rw[if_pos hc]at h ⊢;rw[Bz h]
 ·rw[if_neg hc]at h ⊢
  simp only[aw h,tk,Ww,UZ,ac hp,aj,ar,Qi hm,lZ,ak]
  by_cases hw:(l.drop at').take n∈uP
  ·simp only[hw,decide_true,cond_true,if_true,uJ,Xz,aj,ar]
  ·simp only[hw,decide_false,cond_false,if_false,aj,ar]
theorem PW(hp:H[p]? = some (.cells st (mO l at' (.map m) y)))(hm:H[m]? = some (.map Ig))(k:Int)(hl:l.length<2^59)(ha:at'<=l.length) :
 ay 232 [.ptr p 0,.i k] H=if cK l at'>24 then pan (wr at' 2) H else ret (tk (if(l.drop at').take (cK l at')∈uP then 5 else k) 0 ((l.drop at').take (cK l at')) at') H:=by
 refine ev (Yh) ?_
 have r1:=wo JH (fun c H=>GE H c) hp (by omega) 0 (by omega)
 have hr:=qN aW l at' ha
 have hle:=rh l at' ha
 rw[Nat.add_zero]at r1
 have p1:=qW hp (rn aW l at') (by omega)
 have j:=fun n hn=>Te hp hm k n hn (by omega)
 rw[show(.i 0:D)=.i ((0:Nat):Int)from rfl,aw r1,aw p1]
 simp only[di,show(39:Int)=((39:Nat):Int)from rfl,neq,ak]
 by_cases h1:pk l (at'+rn aW l at')=39
 ·have hlt:at'+rn aW l at'<l.length:=by
   grind [ni]
  have r2:=wo JI (fun c H=>vD H c) hp (by omega) (rn aW l at'+1) (by omega)
  have hd:=qN bg l (at'+rn aW l at'+1) (by omega)
  rw[<- Nat.add_assoc]at r2
  rw[h1]
  simp only[BEq.rfl,cond_true,eO,show(1:Int)=((1:Nat):Int)from rfl,wN (show rn aW l at'+1<2^62 by omega),aw r2,ff,Nm,ak]
  by_cases h2:0<rn bg l (at'+rn aW l at'+1)
  ·simp only[show((0:Int))=((0:Nat):Int)from rfl,Nm,h2,decide_true,cond_true,wN (show 1+rn bg l (at'+rn aW l at'+1)<2^62 by omega),wN (show rn aW l at'+(1+rn bg l (at'+rn aW l at'+1))<2^62 by omega)]
   have e:cK l at'=rn aW l at'+(1+rn bg l (at'+rn aW l at'+1)):=by unfold cK;rw[if_pos ⟨h1,h2⟩]
   rw[<- e];exact j _ hle
  ·simp only[show((0:Int))=((0:Nat):Int)from rfl,Nm,h2,decide_false,cond_false]
   have e:cK l at'=rn aW l at':=by unfold cK;rw[if_neg (fun h=>h2 h.2)]
   rw[<- e];exact j _ hle
 ·rw[show(pk l (at'+rn aW l at')==39)=false from beq_eq_false_iff_ne.2 h1,cond_false]
  have e:cK l at'=rn aW l at':=by unfold cK;rw[if_neg (fun h=>h1 h.1)]
  rw[<- e];exact j _ hle
theorem IP{f:FuncId}{args:List D}{d:D}{H':DH}(h:de.orc f args H=some (d,H')):ay f args H=ret d H':=by
 show eF de (.call f args none) H=_
 rw[Hz]
 show Nd de f args H none _=_
 grind [Nd]
def UR(l:af)(at':Nat)(H:DH)(r:ah):Prop:=(∃(v:Int) (n:Nat),1<=n/\at'+n<=l.length/\r=ret (tk 1 v ((l.drop at').take n) at') H)\/r=pan (wr at' 13) H
theorem Ee(hp:H[p]? = some (.cells st (mO l at' x y)))(hl:l.length<=24)(ha:at'<l.length)(n:Nat)(hn:at'+n<=l.length)(h1:1<=n+rn bg l (at'+n)) :
 UR l at' H (ae am 230 4 [.g (.ptr p 0),.lp 0 0,.n n] [(0,(xT 0 0 [] 0))] H):=by
 have r1:=wo JI (fun c H=>vD H c) hp (by omega) n (by omega)
 have hd:=qN bg l (at'+n) hn
 have p1:=qW hp (n+rn bg l (at'+n)) (by omega)
 have hlen:((l.drop at').take (n+rn bg l (at'+n))).length<=1000:=by rw[List.length_take];rw[List.length_drop];omega
 have o:∀ H,ay 262 [.str ((l.drop at').take (n+rn bg l (at'+n)))] H=ret (.tuple [.i (pP (aC ((l.drop at').take (n+rn bg l (at'+n))))).1,.i (pP (aC ((l.drop at').take (n+rn bg l (at'+n))))).2]) H:=fun H=>IP (by
  show(bif Nat.ble _ 1000 then _ else _)=_
  rw[Nat.ble_eq_true_of_le hlen];rfl)
 have e:=@Oc (LT de am 0) p (n:Nat) 0 0 [] 0 H
 unfold UR
 rw[show ae am 230 4 [.g (.ptr p 0),.lp 0 0,.n n] [(0,(xT 0 0 [] 0))] H=_ from cM (Oc) rfl]
 simp only[aw r1,eO,wN (show n+rn bg l (at'+n)<2^62 by omega),aw p1,ac hp,aj,ar,wN (show at'+n<2^62 by omega),wN (show at'+n+rn bg l (at'+n)<2^62 by omega),Pe l at' (at'+n+rn bg l (at'+n)) H _ (by omega) hd,
  show at'+n+rn bg l (at'+n) - at'=n+rn bg l (at'+n)by omega,aw (o _),lZ,kC,ak,uJ,Wx,Nb,Na,Kk,Vt,SU,Ww,UZ,aw (GE _ _),di]
 cases ((pP (aC ((l.drop at').take (n+rn bg l (at'+n))))).2 != 0)with
 |true=>exact .inr rfl
 |false =>
  rw[cond_false]
  cases aW (pk l (at'+(n+rn bg l (at'+n))))with
  |true=>exact .inr rfl
  |false =>
   rw[cond_false]
   cases ((pk l (at'+(n+rn bg l (at'+n))):Int)==39)with
   |true=>exact .inr rfl
   |false=>exact .inl ⟨_,_,h1,by omega,rfl⟩
theorem Kn(hp:H[p]? = some (.cells st (mO l at' x y)))(hl:l.length<=24)(ha:at'<l.length)(hn:fD l at'):UR l at' H (ay 230 [.ptr p 0] H):=by
 have p1:=qW hp 0 (by omega)
 rw[show ay 230 [.ptr p 0] H=_ from ev (Yj) rfl]
 rw[show(.i 0:D)=.i ((0:Nat):Int)from rfl,aw p1,Nat.add_zero]
 simp only[di,show(126:Int)=((126:Nat):Int)from rfl,neq,ak]
 by_cases h:pk l at'=126
 ·rw[h,BEq.rfl,cond_true]
  exact Ee hp hl ha 1 (by omega) (by omega)
 ·rw[show(pk l at'==126)=false from beq_eq_false_iff_ne.2 h,cond_false]
  have hd:bg (pk l at')=true:=hn.resolve_right h
  refine Ee hp hl ha 0 (by omega) ?_
  simp_all[jP]
variable{H:DH}{p at' st m:Nat}{l:af}{x y:D}
theorem Ji(c:Nat):∀(l:af) (n:Int),0<=n->decide (uF l c n>=0)=decide (c∈l)
 |[],n,_=>by simp[uF]
 |z::r,n,h=>by
  rw[uF]
  by_cases e:z=c
  ·simp_all
  ·have hb:Nat.beq z c=false:=by
    grind [Nat.eq_of_beq_eq_true]
   rw[hb,cond_false,Ji c r (n+1) (by omega)]
   grind
theorem NP(c:Nat)(hc:c<256)(H:DH):ay 236 [.str Gp,.int .u8 (c:Nat)] H=ret (.i (uF Gp c 0)) H:=IP (by
 show(bif Nat.blt c 256&&_ then _ else _)=_
 have:Nat.blt c 256=true:=by unfold Nat.blt;exact Nat.ble_eq_true_of_le hc
 rw[this];rfl)
def RB(l:af)(at':Nat)(H:DH)(r:ah):Prop :=
 (∃(k v:Int) (n:Nat),1<=n/\at'+n<=l.length/\r=ret (tk k v ((l.drop at').take n) at') H/\(fD l at'->k=1)/\(¬ fD l at'->fG l at'=some (k,n)))\/(∃ a e:Int,e≠0/\r=pan (wr a e) H/\(¬ fD l at'->fG l at'=none))
theorem Aw{l:af}{p:Nat}(hp:p<l.length)(h:aW (pk l p)=true):1<=cK l p:=by
 grind [jP,cK]
theorem PF(hp:H[p]? = some (.cells st (mO l at' (.map m) y)))(hl:l.length<=24)(ha:at'<l.length) :
 ae am 185 11 [.g (.ptr p 0),.lp 0 0,.g (.int .u8 (pk l at':Nat))] [(0,(xT 0 0 [] 0))] H=if sD l at'=0 then pan (wr at' 11) H else ret (tk 6 0 ((l.drop at').take (sD l at')) at') H:=by
 refine cM (QG) ?_
 have s1:=kM hp (Nat.le_of_lt ha) [61,62]
 have s2:=kM hp (Nat.le_of_lt ha) [45,62]
 rw[aw s1]
 have two:∀ {a b:Nat},(l.drop at').take 2=[a,b]->at'+2<=l.length:=fun h=>by
  grind [List.length_take]
 by_cases h1:(l.drop at').take 2=[61,62]
 ·have hs:sD l at'=2:=by unfold sD;rw[if_pos (.inl h1)]
  have hm2:=rm hp 6 2 (two h1) (by omega)
  rw[if_neg (by omega)]at hm2
  rw[hs,if_neg (by omega),show(List.take [61,62].length (l.drop at')==[61,62])=true by simp[h1],ak,cond_true]
  rw[show(.i 2:D)=.i ((2:Nat):Int)from rfl,aw hm2]
  rfl
 ·rw[show(List.take [61,62].length (l.drop at')==[61,62])=false by simp[h1],ak,cond_false,aw s2]
  by_cases h2:(l.drop at').take 2=[45,62]
  ·have hs:sD l at'=2:=by unfold sD;rw[if_pos (.inr h2)]
   have hm2:=rm hp 6 2 (two h2) (by omega)
   rw[if_neg (by omega)]at hm2
   rw[hs,if_neg (by omega),show(List.take [45,62].length (l.drop at')==[45,62])=true by simp[h2],ak,cond_true]
   rw[show(.i 2:D)=.i ((2:Nat):Int)from rfl,aw hm2]
   rfl
  ·rw[show(List.take [45,62].length (l.drop at')==[45,62])=false by simp[h2],ak,cond_false]
   have i1:=NP (pk l at') (Vr _ _) H
   rw[show([40,41,44,59,58,124,61,60,43,45,42,47,37,95]:af)=Gp from rfl,aw i1]
   simp only[vG,Ji _ _ 0 (Int.le_refl 0),ak]
   have hs:sD l at'=if pk l at'∈Gp then 1 else 0:=by unfold sD;rw[if_neg (by simp[h1,h2])]
   by_cases h3:pk l at'∈Gp
   ·rw[if_pos h3]at hs
    have hm2:=rm hp 6 1 (by omega) (by omega)
    rw[if_neg (by omega)]at hm2
    rw[hs,if_neg (by omega),decide_eq_true h3,cond_true,show(.i 1:D)=.i ((1:Nat):Int)from rfl,aw hm2]
    rfl
   ·rw[if_neg h3]at hs
    rw[hs,if_pos rfl,decide_eq_false h3,cond_false]
    simp only[ac hp,aj,ar,uJ,Nb,Na,wr]
theorem Mf(hp:H[p]? = some (.cells st (mO l at' (.map m) y)))(hm:H[m]? = some (.map Ig))(hl:l.length<=24)(ha:at'<l.length):RB l at' H (ay 185 [.ptr p 0] H):=by
 have p1:=qW hp 0 (by omega)
 rw[show ay 185 [.ptr p 0] H=_ from ev (YB) rfl]
 rw[show(.i 0:D)=.i ((0:Nat):Int)from rfl,aw p1,Nat.add_zero,aw (vD _ _)]
 simp only[di,show(126:Int)=((126:Nat):Int)from rfl,show(39:Int)=((39:Nat):Int)from rfl,neq,ak,aw (BG _ _),aw (Jj _ _)]
 have num:fD l at'->RB l at' H (C am 230 [.ptr p 0] H fun d5 H6=>ai 4 d5 fun l7=>az (xT ((0:Nat):Int) ((0:Nat):Int) [] ((0:Nat):Int)) 0 l7 fun l8=>aA l8 0 fun d9=>aA l8 1 fun d10=>aA l8 2 fun d11=>aA l8 3 fun d12=>ret (.agg [d9,d10,d11,d12]) H6):=fun hn=>by
  rcases Kn hp hl ha hn with⟨v,n,h1,h2,h3⟩|h3
  ·rw[aw h3]
   exact .inl ⟨1,v,n,h1,h2,rfl,fun _=>rfl,fun h=>(h hn).elim⟩
  ·rw[Bz h3]
   exact .inr ⟨at',13,by decide,rfl,fun h=>(h hn).elim⟩
 cases hd:bg (pk l at')with
 |true=>rw[cond_true];exact num (.inl hd)
 |false =>
 rw[cond_false]
 by_cases h126:pk l at'=126
 ·rw[h126,BEq.rfl,cond_true];exact num (.inr h126)
 rw[show(pk l at'==126)=false from beq_eq_false_iff_ne.2 h126,cond_false]
 have hnn:¬ fD l at':=fun h=>by rcases h with h|h;exact(by rw[hd]at h;cases h);exact h126 h
 have nm:∀ k:Int,(fG l at'=if cK l at'>24 then none else some (if(l.drop at').take (cK l at')∈uP then 5 else k,cK l at'))->aW (pk l at')=true ->
  RB l at' H (C am 232 [.ptr p 0,.i k] H fun d24 H25=>ai 4 d24 fun l26=>az (xT ((0:Nat):Int) ((0:Nat):Int) [] ((0:Nat):Int)) 0 l26 fun l27=>aA l27 0 fun d28=>aA l27 1 fun d29=>aA l27 2 fun d30=>aA l27 3 fun d31=>ret (.agg [d28,d29,d30,d31]) H25):=fun k ht hpt=>by
  have hn:=PW hp hm k (by omega) (Nat.le_of_lt ha)
  have h1:=Aw ha hpt
  have h2:=rh l at' (Nat.le_of_lt ha)
  by_cases hc:cK l at'>24
  ·grind
  ·rw[if_neg hc]at hn ht
   rw[aw hn]
   exact .inl ⟨_,0,_,h1,h2,rfl,fun h=>(hnn h).elim,fun _=>ht⟩
 cases hs:eP (pk l at')with
 |true =>
  grind [fG,aW]
 |false =>
 rw[cond_false]
 cases hg:hQ (pk l at')with
 |true =>
  rw[cond_true]
  refine nm 3 ?_ (by unfold aW;rw[hg];simp)
  unfold fG
  rw[if_neg (by rw[hs];decide),if_pos hg]
  have hw:(l.drop at').take (cK l at')∉uP:=fun hw=>by
   have hz:((l.drop at').take (cK l at'))[0]? = l[at']?:=by
    have h1:=Aw ha (by unfold aW;rw[hg];simp)
    grind
   generalize(l.drop at').take (cK l at')=t at hw hz
   have hpk:pk l at'=(t[0]?).getD 0%256:=by unfold pk;rw[hz]
   rw[hpk]at hs
   simp only[uP,List.mem_cons,List.mem_nil_iff,or_false]at hw
   rcases hw with rfl|rfl|rfl|rfl|rfl|rfl|rfl|rfl|rfl|rfl|rfl|rfl|rfl|rfl|rfl<;>exact absurd hs (by decide)
  rw[if_neg hw]
 |false =>
 rw[cond_false]
 have sg:(pk l at'=39/\eP (pk l (at'+1))=true->False)->RB l at' H (ae am 185 11 [.g (.ptr p 0),.lp 0 0,.g (.int .u8 (pk l at':Nat))] [(0,(xT ((0:Nat):Int) ((0:Nat):Int) [] ((0:Nat):Int)))] H):=fun hq=>by
  have h:=PF hp hl ha
  have ht:fG l at'=if sD l at'=0 then none else some (6,sD l at'):=by
   grind [fG]
  by_cases hc:sD l at'=0
  ·rw[if_pos hc]at h ht
   exact .inr ⟨at',11,by decide,h,fun _=>ht⟩
  ·rw[if_neg hc]at h ht
   refine .inl ⟨6,0,sD l at',by omega,?_,h,fun h=>(hnn h).elim,fun _=>ht⟩
   grind [sD,List.drop,List.length_take,List.length_drop]
 by_cases h39:pk l at'=39
 ·rw[h39,BEq.rfl,cond_true]
  have p2:=qW hp 1 (by omega)
  rw[show(1:Int)=((1:Nat):Int)from rfl,aw p2,aw (BG _ _),ak]
  cases h2:eP (pk l (at'+1))with
  |true =>
   rw[cond_true]
   have hlt:at'+1<l.length:=by
    rcases Nat.lt_or_ge (at'+1) l.length with h|h
    ·exact h
    ·rw[ni h]at h2;cases h2
   have r1:=wo JH (fun c H=>GE H c) hp (by omega) 1 (by omega)
   have hr:=qN aW l (at'+1) (by omega)
   have hm2:=rm hp 4 (1+rn aW l (at'+1)) (by omega) (by omega)
   rw[aw r1]
   simp only[eO,wN (show 1+rn aW l (at'+1)<2^62 by omega)]
   have ht:fG l at'=if 1+rn aW l (at'+1)>24 then none else some (4,1+rn aW l (at'+1)):=by
    grind [fG]
   rw[if_neg (by omega)]at hm2 ht
   rw[aw hm2]
   exact .inl ⟨4,0,_,by omega,by omega,rfl,fun h=>(hnn h).elim,fun _=>ht⟩
  |false =>
   grind
 grind
theorem Iz{P:Program}{t:TypeId}{m b:Nat}(h:aJ P t m=(Nat.ble (b*(m+Nat.div m 4+600)) 281474976710656&&Nat.ble m 4611686018427387904))(hb:b<=1000)(hm:m<=100000):aJ P t m=true:=by
 rw[h,Bool.and_eq_true]
 refine⟨Nat.ble_eq_true_of_le ?_,Nat.ble_eq_true_of_le (by omega)⟩
 have h1:Nat.div m 4<=m:=Nat.div_le_self m 4
 have h2:b*(m+Nat.div m 4+600)<=1000*(100000+100000+600):=Nat.mul_le_mul hb (by omega)
 omega
theorem IA{m:Nat}(h:m<=100000):aJ ab 304 m=true:=Iz (b:=16) (by kernel_rfl) (by decide) h
theorem BT{m:Nat}(h:m<=100000):aJ ab 160 m=true:=Iz (b:=40) (by kernel_rfl) (by decide) h
theorem Gq{H:DH}{p:Nat}{b:DB}(h:H[p]? = some b):H.set p b=H:=by
 apply List.ext_getElem?
 grind
variable{p:Nat}{l:af}{x y:D}
theorem Mb{a b at':Nat}(h:((l.drop at').take 2==[a,b])=true):at'+2<=l.length:=by
 grind [List.length_take]
theorem Fq(hl:l.length<=24):∀(n at' st:Nat) (H:DH) (v d:Int),n=l.length - at'->at'<=l.length->H[p]? = some (.cells st (mO l at' x y)) ->
 (∃ at2 st2,at'<at2/\at2<=l.length/\ae am 227 200002 [.g (.ptr p 0),.n v,.n d] [] H=ret (.tuple []) (H.set p (.cells st2 (mO l at2 x y)))) \/
 (∃(a e:Int) (at2 st2:Nat),e≠0/\ae am 227 200002 [.g (.ptr p 0),.n v,.n d] [] H=pan (wr a e) (H.set p (.cells st2 (mO l at2 x y))))
 |n,at',st,H,v,d,hn,ha,hp=>by
  have s1:=kM hp ha [40,42]
  have s2:=kM hp ha [42,41]
  have step:∀ k (d':Int),1<=k->k<=2->at'+k<=l.length ->
   (∃ at2 st2,at'<at2/\at2<=l.length/\ae am 227 200002 [.g (.ptr p 0),.n v,.n d'] [] (H.set p (.cells (st+1) (mO l (at'+k) x y)))=ret (.tuple []) (H.set p (.cells st2 (mO l at2 x y)))) \/
   (∃(a e:Int) (at2 st2:Nat),e≠0/\ae am 227 200002 [.g (.ptr p 0),.n v,.n d'] [] (H.set p (.cells (st+1) (mO l (at'+k) x y)))=pan (wr a e) (H.set p (.cells st2 (mO l at2 x y)))):=fun k d' h1 h2 h3=>by
   rcases Fq hl (l.length - (at'+k)) (at'+k) (st+1) (H.set p (.cells (st+1) (mO l (at'+k) x y))) v d' rfl h3 (aN _ hp)with⟨at2,st2,k1,k2,k3⟩|⟨a,e,at2,st2,k1,k2⟩
   ·grind [List.set_set]
   grind [List.set_set]
  rw[show ae am 227 200002 [.g (.ptr p 0),.n v,.n d] [] H=_ from cM (EL) rfl]
  simp only[ac hp,aj,ar,KB,vG,Va,ak]
  cases hc:decide (l.length<=at')with
  |true=>exact .inr ⟨v,12,at',st,by decide,by rw[cond_true,Gq hp];rfl⟩
  |false =>
   have hc:¬ l.length<=at':=by simpa using hc
   rw[cond_false,aw s1,ak]
   cases h1:((l.drop at').take [40,42].length==[40,42])with
   |true =>
    have h2:=Mb h1
    rw[cond_true]
    cases decide (d>=100)with
    |true =>
     simp only[cond_true,ac hp,aj,ar,uJ,Nb,Na]
     exact .inr ⟨at',6,at',st,by decide,by rw[Gq hp];rfl⟩
    |false =>
     simp only[cond_false,ac hp,aj,ar,eO,show(2:Int)=((2:Nat):Int)from rfl,wN (show at'+2<2^62 by omega),uJ,Kk]
     exact step 2 _ (by omega) (by omega) h2
   |false =>
    rw[cond_false,aw s2,ak]
    cases h1:((l.drop at').take [42,41].length==[42,41])with
    |true =>
     have h2:=Mb h1
     simp only[cond_true,ac hp,aj,ar,eO,show(2:Int)=((2:Nat):Int)from rfl,wN (show at'+2<2^62 by omega),uJ,Kk]
     cases (cq (d - 1)==0)with
     |true=>exact .inl ⟨at'+2,st+1,by omega,h2,rfl⟩
     |false=>rw[cond_false];exact step 2 _ (by omega) (by omega) h2
    |false =>
     simp only[cond_false,ac hp,aj,ar,eO,show(1:Int)=((1:Nat):Int)from rfl,wN (show at'+1<2^62 by omega),uJ,Kk]
     exact step 1 _ (by omega) (by omega) (by omega)
 termination_by n=>n
theorem Uy(hl:l.length<=24){at' st:Nat}{H:DH}(ha:at'<=l.length)(hp:H[p]? = some (.cells st (mO l at' x y))) :
 (∃ at2 st2,at'<at2/\at2<=l.length/\ay 227 [.ptr p 0] H=ret (.tuple []) (H.set p (.cells st2 (mO l at2 x y)))) \/
 (∃(a e:Int) (at2 st2:Nat),e≠0/\ay 227 [.ptr p 0] H=pan (wr a e) (H.set p (.cells st2 (mO l at2 x y)))):=by
 rw[show ay 227 [.ptr p 0] H=_ from ev (Yn) rfl]
 simp only[ac hp,aj,ar]
 exact Fq hl _ at' st H at' 0 rfl ha hp
structure FU(H:DH)(p:Nat)(l:af)(at' m oc:Nat)(c:dB):Prop where
 hp:∃ st,H[p]? = some (.cells st (mO l at' (.map m) (.buf 2 oc c.length)))
 hm:H[m]? = some (.map Ig)
 hc:H[oc]? = some (.buf 2 true false c)
def Fr(p oc:Nat)(H H2:DH):Prop:=∀(o:Nat) b,o≠p->o≠oc->H[o]? = some b->H2[o]? = some b
theorem Fr.trans{oc:Nat}{A B C:DH}(h:Fr p oc A B)(k:Fr p oc B C):Fr p oc A C:=fun o b h1 h2 h3=>k o b h1 h2 (h o b h1 h2 h3)
theorem Fr.set{oc:Nat}{H:DH}{b:DB}:Fr p oc H (H.set p b):=fun o c h1 _ h3=>by rw[List.getElem?_set_ne (Ne.symm h1)];exact h3
theorem Fr.set2{oc:Nat}{H:DH}{b:DB}:Fr p oc H (H.set oc b):=fun o c _ h1 h3=>by rw[List.getElem?_set_ne (Ne.symm h1)];exact h3
def skip(l:af)(at':Nat):Prop:=dN (pk l at')=true\/(l.drop at').take 2=[40,42]
theorem FU.mv{H:DH}{at' m oc:Nat}{c:dB}(h:FU H p l at' m oc c)(at2 st2:Nat):FU (H.set p (.cells st2 (mO l at2 (.map m) (.buf 2 oc c.length)))) p l at2 m oc c:=by
 obtain⟨st,hp⟩:=h.hp
 have h1:p≠m:=fun e=>by subst e;rw[h.hm]at hp;cases hp
 have h2:p≠oc:=fun e=>by subst e;rw[h.hc]at hp;cases hp
 exact⟨⟨st2,aN _ hp⟩,ag _ h1 h.hm,ag _ h2 h.hc⟩
theorem Aq(hl:l.length<=24){m oc:Nat}:∀(n at':Nat) (H:DH) (c:dB),n=l.length - at'->at'<=l.length->c.length+(l.length - at')<=100->FU H p l at' m oc c ->
 (∃ at2 c2 H2,ae am 184 200000 [.g (.ptr p 0)] [] H=ret (.tuple []) H2/\FU H2 p l at2 m oc c2/\at'<=at2/\at2<=l.length/\c2.length+(l.length - at2)<=100/\Fr p oc H H2/\(¬ skip l at'->at2=at')/\(at'<l.length->skip l at'->at'<at2)) \/
 (∃(a e:Int) (H2:DH),e≠0/\ae am 184 200000 [.g (.ptr p 0)] [] H=pan (wr a e) H2/\Fr p oc H H2/\skip l at')
 |n,at',H,c,hn,ha,hcl,hS=>by
  obtain⟨st,hp⟩:=hS.hp
  have r1:=wo Ra (fun c H=>PB H c) hp (by omega) 0 (by omega)
  rw[Nat.add_zero]at r1
  have hr:=qN dN l at' ha
  rw[show ae am 184 200000 [.g (.ptr p 0)] [] H=_ from cM (ER) rfl]
  rw[show(.i 0:D)=.i ((0:Nat):Int)from rfl,jg r1]
  simp only[GJ hp,ac hp,aj,ar,eO,wN (show at'+rn dN l at'<2^62 by omega),uJ,Kk]
  have hS1:=hS.mv (at'+rn dN l at') (st+1)
  have hF1:Fr p oc H (H.set p (.cells (st+1) (mO l (at'+rn dN l at') (.map m) (.buf 2 oc c.length)))):=.set
  generalize H.set p (.cells (st+1) (mO l (at'+rn dN l at') (.map m) (.buf 2 oc c.length)))=H1 at hS1 hF1 ⊢
  obtain⟨Mt,hp1⟩:=hS1.hp
  have s1:=kM hp1 hr [40,42]
  rw[aw s1]
  simp only[ct,ak]
  have hno:¬ dN (pk l at')=true->rn dN l at'=0:=fun h=>by
   grind [jP]
  have hyes:at'<l.length->dN (pk l at')=true->1<=rn dN l at':=fun h q=>by rw[jP dN h,if_pos q];omega
  cases h2:((l.drop (at'+rn dN l at')).take [40,42].length==[40,42])with
  |false =>
   rw[Bool.not_false,cond_true]
   refine .inl ⟨_,c,H1,rfl,hS1,by omega,hr,by omega,hF1,fun h=>?_,fun hlt h=>?_⟩
   ·rw[hno (fun q=>h (.inl q)),Nat.add_zero]
   ·rcases h with h|h
    ·grind
    grind
  |true =>
   have hsk:skip l at':=by
    by_cases hq:dN (pk l at')=true
    ·exact .inl hq
    ·rw[hno hq,Nat.add_zero]at h2;exact .inr (eq_of_beq h2)
   rw[Bool.not_true,cond_false]
   simp only[ac hp1,aj,ar]
   rcases Uy hl hr hp1 with⟨at2,st2,k1,k2,k3⟩|⟨a,e,at2,st2,k1,k2⟩
   ·rw[aw k3]
    have hS2:=hS1.mv at2 st2
    have hF2:Fr p oc H (H1.set p (.cells st2 (mO l at2 (.map m) (.buf 2 oc c.length)))):=hF1.trans .set
    generalize H1.set p (.cells st2 (mO l at2 (.map m) (.buf 2 oc c.length)))=H2 at hS2 hF2 ⊢
    obtain⟨st3,hp2⟩:=hS2.hp
    have hne:oc≠p:=fun e=>by subst e;rw[hS2.hc]at hp2;cases hp2
    have hnm:oc≠m:=fun e=>by have:=hS2.hm;rw[<- e,hS2.hc]at this;cases this
    simp only[ac hp2,aj,ar,uJ,Nb,Na,YO]
    have hap:∀(κ:D->DH->ah) (e:List D),cE (aJ ab 304) 2 (.buf 2 oc c.length) [e] H2 κ=κ (.buf 2 oc (c.length+1)) (H2.set oc (.buf 2 true false (c++[e]))):=fun κ e=>by
     simp only[cE,List.length_singleton,IA (show 1<=100000 by omega),boK,cond_true,Nat.beq_refl,bH hS2.hc,IA (show c.length+1<=100000 by omega),Bool.false_and,Bool.not_false,Bool.and_true,grow,cond_false]
    rw[hap]
    have hp3:=ag (.buf 2 true false (c++[[.i ((at'+rn dN l at':Nat):Int),.i ((at2:Nat):Int)]])) hne hp2
    simp only[UC,ac hp3,SU]
    have hS3:FU ((H2.set oc (.buf 2 true false (c++[[.i ((at'+rn dN l at':Nat):Int),.i ((at2:Nat):Int)]]))).set p (.cells (st3+1) [.str l,.i ((at2:Nat):Int),.map m,.buf 2 oc (c.length+1)])) p l at2 m oc (c++[[.i ((at'+rn dN l at':Nat):Int),.i ((at2:Nat):Int)]]) :=
     ⟨⟨st3+1,by rw[aN _ hp3];simp⟩,ag _ (fun e=>by subst e;rw[hS2.hm]at hp2;cases hp2) (ag _ hnm hS2.hm),ag _ hne.symm (aN _ hS2.hc)⟩
    have hF3:=(hF2.trans (Fr.set2 (p:=p) (oc:=oc) (b:=.buf 2 true false (c++[[.i ((at'+rn dN l at':Nat):Int),.i ((at2:Nat):Int)]])))).trans (Fr.set (p:=p) (oc:=oc) (b:=.cells (st3+1) [.str l,.i ((at2:Nat):Int),.map m,.buf 2 oc (c.length+1)]))
    rcases Aq hl (l.length - at2) at2 _ _ rfl k2 (by simp;omega) hS3 with⟨at4,c4,H4,j1,j2,j3,j4,j5,j6,_⟩|⟨a,e,H4,j1,j2,j3,_⟩
    ·exact .inl ⟨at4,c4,H4,j1,j2,by omega,j4,j5,hF3.trans j6,fun h=>(h hsk).elim,fun _ _=>by omega⟩
    ·exact .inr ⟨a,e,H4,j1,j2,hF3.trans j3,hsk⟩
   ·rw[Bz k2]
    exact .inr ⟨a,e,_,k1,rfl,hF1.trans .set,hsk⟩
 termination_by n=>n
theorem IL(hl:l.length<=24){m oc at':Nat}{H:DH}{c:dB}(ha:at'<=l.length)(hc:c.length+(l.length - at')<=100)(hS:FU H p l at' m oc c) :
 (∃ at2 c2 H2,ay 184 [.ptr p 0] H=ret (.tuple []) H2/\FU H2 p l at2 m oc c2/\at'<=at2/\at2<=l.length/\c2.length+(l.length - at2)<=100/\Fr p oc H H2/\(¬ skip l at'->at2=at')/\(at'<l.length->skip l at'->at'<at2)) \/
 (∃(a e:Int) (H2:DH),e≠0/\ay 184 [.ptr p 0] H=pan (wr a e) H2/\Fr p oc H H2/\skip l at'):=by
 rw[show ay 184 [.ptr p 0] H=_ from ev (YC) rfl]
 exact Aq hl _ at' H c rfl ha hc hS
def Sk:List D:=uP.map .str
theorem VD(cs:List D)(c:Nat)(κ:D->ah):ci ab 9 cs c κ=aA cs c κ:=by kernel_rfl
theorem VW{k:Nat}{w:af}(h:uP[k]? = some w)(κ:D->ah):js ab 281 (.agg Sk) (.i (k:Nat)) κ=κ (.str w):=by
 have e:js ab 281 (.agg Sk) (.i (k:Nat)) κ=bif Nat.blt k 15 then ci ab 9 Sk (Nat.mul k 1) κ else none:=by kernel_rfl
 have hk:k<15:=(List.getElem?_eq_some_iff.1 h).1
 have hb:Nat.blt k 15=true:=by unfold Nat.blt;exact Nat.ble_eq_true_of_le hk
 rw[e,hb,cond_true,VD,show Nat.mul k 1=k from Nat.mul_one k,aA,Sk,List.getElem?_map,h]
 rfl
theorem PY(m:Nat)(w:af)(v:D)(H:DH)(κ:DH->ah):jY ab 135 (.map m) (.str w) v H κ=nF H m fun es=>mB (.str w) v es fun es=>κ (H.set m (.map es)):=by kernel_rfl
theorem PZ:∀ k,k<15->∃ w,uP[k]? = some w/\Cj (.str w) (.i 5) (Ig.take k)=some (Ig.take (k+1))
 |0,_=>⟨_,rfl,rfl⟩
 |1,_=>⟨_,rfl,rfl⟩
 |2,_=>⟨_,rfl,rfl⟩
 |3,_=>⟨_,rfl,rfl⟩
 |4,_=>⟨_,rfl,rfl⟩
 |5,_=>⟨_,rfl,rfl⟩
 |6,_=>⟨_,rfl,rfl⟩
 |7,_=>⟨_,rfl,rfl⟩
 |8,_=>⟨_,rfl,rfl⟩
 |9,_=>⟨_,rfl,rfl⟩
 |10,_=>⟨_,rfl,rfl⟩
 |11,_=>⟨_,rfl,rfl⟩
 |12,_=>⟨_,rfl,rfl⟩
 |13,_=>⟨_,rfl,rfl⟩
 |14,_=>⟨_,rfl,rfl⟩
 |n+15,h=>by omega
theorem Eh{p m oc:Nat}{l:af}:∀(n k st:Nat) (H:DH),n=15 - k->k<=15->H[p]? = some (.cells st (mO l 0 (.map m) (.buf 2 oc 0)))->H[m]? = some (.map (Ig.take k)) ->
 ae am 132 200003 [.g (.ptr p 0),.g (.agg Sk),.n (k:Nat)] [] H=ret (.ptr p 0) (H.set m (.map Ig))
 |n,k,st,H,hn,hk,hp,hm=>by
  refine cM (by unfold Sk uP;exact EU) ?_
  rw[show(15:Int)=((15:Nat):Int)from rfl,IV]
  by_cases hc:k<15
  ·rw[decide_eq_true hc,cond_true]
   obtain⟨w,h1,h2⟩:=PZ k hc
   have e:=VW h1
   unfold Sk uP at e
   simp only[List.map_cons,List.map_nil]at e
   have hne:m≠p:=fun e=>by subst e;rw[hm]at hp;cases hp
   have ih:=Eh (n - 1) (k+1) st (H.set m (.map (Ig.take (k+1)))) (by omega) hc (ag _ hne hp) (aN _ hm)
   rw[List.set_set]at ih
   simp only[e,ac hp,aj,ar,PY,jd hm,mB,h2,show(1:Int)=((1:Nat):Int)from rfl,wN (show k+1<2^62 by omega)]
   exact ih
  ·rw[decide_eq_false hc,cond_false]
   have:k=15:=by omega
   subst this
   rw[show Ig.take 15=Ig from rfl]at hm
   rw[Gq hm]
 termination_by n=>n
theorem Tb(l:af)(H:DH):∃ H',ay 132 [.str l] H=ret (.ptr (H.length+2) 0) H'/\FU H' (H.length+2) l 0 H.length (H.length+1) []/\∀(o:Nat) b,H[o]? = some b->H'[o]? = some b:=by
 have e:ay 132 [.str l] H=_:=ev (YH) rfl
 have hl1:(H++[DB.map []]).length=H.length+1:=by simp
 have hl2:(H++[DB.map []]++[DB.buf 2 true false []]).length=H.length+2:=by simp
 simp only[hl1,hl2]at e
 have hp:((H++[DB.map []]++[DB.buf 2 true false []])++[DB.cells 0 (mO l 0 (.map H.length) (.buf 2 (H.length+1) 0))])[H.length+2]? = some (.cells 0 (mO l 0 (.map H.length) (.buf 2 (H.length+1) 0))):=by rw[<- hl2];exact bk _ _
 have hm:((H++[DB.map []]++[DB.buf 2 true false []])++[DB.cells 0 (mO l 0 (.map H.length) (.buf 2 (H.length+1) 0))])[H.length]? = some (.map (Ig.take 0)):=aL _ (aL _ (bk _ _))
 have hc:((H++[DB.map []]++[DB.buf 2 true false []])++[DB.cells 0 (mO l 0 (.map H.length) (.buf 2 (H.length+1) 0))])[H.length+1]? = some (.buf 2 true false []):=aL _ (by rw[<- hl1];exact bk _ _)
 have h:=Eh 15 0 0 _ rfl (by omega) hp hm
 refine⟨_,e.trans h,⟨⟨0,ag _ (by omega) hp⟩,aN _ hm,ag _ (by omega) hc⟩,fun o b hb=>?_⟩
 grind
def Qg:af:=[0,2,3,4,6,7,8,9,10]
def Qf(l:af)(p A B bx:Nat):List LD:=[.g (.str l),.g (.ptr p 0),.g (.ptr A 0),.g (.ptr B 0),.g (.str l),.g (.ptr p 0),.g (.func 133 [] [.ptr A 0,.ptr B 0]),.g (.ptr p 0),.g (.func 183 [] [.ptr bx 0])]
def Jd(l:af)(p A B bx:Nat):DB:=Tt de 87 Qg (Qf l p A B bx)
def Ts(l:af)(p A B bx:Nat):DB:=match Jd l p A B bx with
 |.loop _ f nt t ps a b=>.loop false f nt t ps a b
 |b=>b
variable{H:DH}{l:af}{K p A B bx y:Nat}
theorem UF{κ:DH->ah}(h:H[y]? = some (Jd l p A B bx)):Lf H y κ=κ (H.set y (Ts l p A B bx)):=by
 rw[Lf,h];kernel_rfl
theorem Oh(h:H[y]? = some (Ts l p A B bx)):wt H y=ret (.bool true) (H.set y (Jd l p A B bx)):=by
 rw[wt,h];kernel_rfl
theorem Qh{κ:DH->ah}(h:H[y]? = some (Jd l p A B bx)):AA H y κ=κ (H.set y .opq):=by
 rw[AA,h];kernel_rfl
theorem SL{d:D}(h:H[y]? = some (Jd l p A B bx)):eF de (.call 0 [d] (some (.round y))) H=Xs de am 87 y Qg (Qf l p A B bx) [d] H:=by
 rw[Hz]
 show sP de (LC am) y [d] H=_
 rw[sP,h]
 kernel_rfl
theorem Co(b:DB)(h:(match b with|.loop ..=>false|_=>true)=true):Jd l p A B bx≠b:=by
 have:(match Jd l p A B bx with|.loop ..=>false|_=>true)=false:=by kernel_rfl
 grind
structure TA(K:Nat)(H:DH)(l:af)(p A B bx y:Nat)(toks:dB):Prop where
 hA:∃ st v,H[A]? = some (.cells st [v])/\((toks=[]/\v=.nilrow)\/(toks≠[]/\∃ X,v=.buf 4 X toks.length/\H[X]? = some (.buf 4 true false toks)/\K<=X))
 hB:∃ st,H[B]? = some (.cells st [.i 0,.i 0])
 hb:∃ st,H[bx]? = some (.cells st [.ptr p 0])
 hy:H[y+1]? = some (Jd l p A B bx)
 hk:H[y]? = some .coll
 nA:A≠p
 nB:B≠p
 nb:bx≠p
 AB:A≠B
 Ab:A≠bx
 kA:K<=A
 ky:K<=y
def Kp(K:Nat)(H H2:DH):Prop:=∀(o:Nat) b,o<K->H[o]? = some b->H2[o]? = some b
theorem Kp.trans{K:Nat}{a b c:DH}(h:Kp K a b)(k:Kp K b c):Kp K a c:=fun o x h1 h2=>k o x h1 (h o x h1 h2)
theorem Kp.of{K p oc:Nat}{H H2:DH}(h:Fr p oc H H2)(h1:K<=p)(h2:K<=oc):Kp K H H2:=fun o b h3 h4=>h o b (by omega) (by omega) h4
theorem TA.fr{H2:DH}{oc:Nat}{c:dB}{toks:dB}(h:TA K H l p A B bx y toks)(hoc:H[oc]? = some (.buf 2 true false c))(k:Fr p oc H H2)(hp:∃ st cs,H[p]? = some (.cells st cs)):TA K H2 l p A B bx y toks:=by
 obtain⟨UX,csp,hp⟩:=hp
 have kc:∀ {o:Nat} {b:DB},o≠p->H[o]? = some b->(∀ sz q r l,b≠.buf sz q r l\/sz≠2)->H2[o]? = some b:=fun {o b} h1 h2 h3=>k o b h1 (fun e=>by
  subst e;rw[hoc]at h2;rcases h3 2 true false c with q|q
  ·exact q (Option.some.inj h2).symm
  ·exact q rfl) h2
 obtain⟨sA,v,hA,hA2⟩:=h.hA
 obtain⟨sB,hB⟩:=h.hB
 obtain⟨sb,hb⟩:=h.hb
 have ny:y+1≠p:=fun e=>by have:=h.hy;rw[e,hp]at this;exact Co (.cells UX csp) rfl (Option.some.inj this).symm
 have nk:y≠p:=fun e=>by have:=h.hk;rw[e,hp]at this;cases this
 refine⟨⟨sA,v,kc h.nA hA (fun _ _ _ _=>.inl (fun q=>by cases q)),?_⟩,⟨sB,kc h.nB hB (fun _ _ _ _=>.inl (fun q=>by cases q))⟩,⟨sb,kc h.nb hb (fun _ _ _ _=>.inl (fun q=>by cases q))⟩,kc ny h.hy (fun _ _ _ _=>.inl (Co _ rfl)),kc nk h.hk (fun _ _ _ _=>.inl (fun q=>by cases q)),h.nA,h.nB,h.nb,h.AB,h.Ab,h.kA,h.ky⟩
 grind
theorem MG{m oc at':Nat}{c toks:dB}(hS:FU H p l at' m oc c)(hT:TA K H l p A B bx y toks)(hn:toks.length<=1000)(k v:Int)(t:af)(a:Nat) :
 ∃ H2,eF de (.call 0 [tk k v t a] (some (.round (y+1)))) H=ret (.bool true) H2/\FU H2 p l at' m oc c/\TA K H2 l p A B bx y (toks++[(xT k v t a)])/\Kp K H H2:=by
 obtain⟨UX,hp⟩:=hS.hp
 obtain⟨sA,w,hA,hA2⟩:=hT.hA
 obtain⟨sB,hB⟩:=hT.hB
 obtain⟨sb,hb⟩:=hT.hb
 have e:eF de (.call 0 [tk k v t a] (some (.round (y+1)))) H=_:=(SL hT.hy).trans ((show Xs de am 87 (y+1) Qg (Qf l p A B bx) [tk k v t a] H=SM de am 200 87 (y+1) Qg (Qf l p A B bx) [tk k v t a] H by rw[SM,CS]).trans (QF))
 have hlt:∀ {o:Nat} {b:DB},H[o]? = some b->o<H.length:=fun {o b} h=>by
  grind
 have hN:=bk H (.cells 0 (xT 0 0 [] 0))
 have g1:∀ {o:Nat} {b:DB},H[o]? = some b->((H++[DB.cells 0 (xT 0 0 [] 0)]).set H.length (.cells (0+1) (xT k v t a)))[o]? = some b:=fun {o b} h=>ag _ (by have:=hlt h;omega) (aL _ h)
 have gN:=aN (.cells (0+1) (xT k v t a)) hN
 simp only[ac hN,UZ]at e
 generalize(H++[DB.cells 0 (xT 0 0 [] 0)]).set H.length (.cells (0+1) (xT k v t a))=H1 at e g1 gN
 rw[UF (g1 hT.hy)]at e
 have ny:∀ {o:Nat} {b:DB},H[o]? = some b->(match b with|.loop ..=>false|_=>true)=true->y+1≠o:=fun {o b} h1 h2 q=>by
  subst q;have:=hT.hy;rw[h1]at this;exact Co b h2 (Option.some.inj this).symm
 have g2:∀ {o:Nat} {b:DB},H[o]? = some b->y+1≠o->(H1.set (y+1) (Ts l p A B bx))[o]? = some b:=fun h q=>ag _ q (g1 h)
 have gN2:(H1.set (y+1) (Ts l p A B bx))[H.length]? = _:=ag _ (by have:=hlt hT.hy;omega) gN
 have gy2:(H1.set (y+1) (Ts l p A B bx))[y+1]? = _:=aN (Ts l p A B bx) (g1 hT.hy)
 generalize H1.set (y+1) (Ts l p A B bx)=H2 at e g2 gN2 gy2
 have hA':=g2 hA (ny hA rfl)
 simp only[ac hA',ac gN2,aj,ar]at e
 have Ay:A≠y+1:=(ny hA rfl).symm
 have nil (toksE:toks=[]) (wE:w=.nilrow):∃ H2,eF de (.call 0 [tk k v t a] (some (.round (y+1)))) H=ret (.bool true) H2/\FU H2 p l at' m oc c/\TA K H2 l p A B bx y (toks++[(xT k v t a)])/\Kp K H H2:=by
  subst toksE wE
  have hap:∀(κ:D->DH->ah) (e:List D),cE (aJ ab 160) 4 .nilrow [e] H2 κ=κ (.buf 4 H2.length 1) (H2++[.buf 4 true false [e]]):=fun κ e=>by
   grind [cE,List.length_singleton,BT,boK]
  rw[hap]at e
  have hA3:=aL (.buf 4 true false [(xT k v t a)]) hA'
  simp only[UC,ac hA3]at e
  rw[show ∀ κ:List D->ah,az [D.nilrow] 0 [.buf 4 H2.length 1] κ=κ [.buf 4 H2.length 1] from fun _=>rfl]at e
  rw[Oh (ag _ Ay (aL _ gy2))]at e
  have hlt2:∀ {o:Nat} {b:DB},H2[o]? = some b->o<H2.length:=fun {o b} h=>by
   grind
  have g3:∀ {o:Nat} {b:DB},H[o]? = some b->y+1≠o->A≠o->(((H2++[DB.buf 4 true false [(xT k v t a)]]).set A (.cells (sA+1) [.buf 4 H2.length 1])).set (y+1) (Jd l p A B bx))[o]? = some b:=fun h q1 q2=>ag _ q1 (ag _ q2 (aL _ (g2 h q1)))
  refine⟨_,e,⟨⟨UX,g3 hp (ny hp rfl) hT.nA⟩,g3 hS.hm (ny hS.hm rfl) (fun q=>by have:=hS.hm;rw[<- q,hA]at this;cases this),g3 hS.hc (ny hS.hc rfl) (fun q=>by have:=hS.hc;rw[<- q,hA]at this;cases this)⟩,
   ⟨⟨sA+1,_,ag _ Ay.symm (aN _ hA3),.inr ⟨by simp,H2.length,rfl,ag _ (by have:=hlt2 gy2;omega) (ag _ (by have:=hlt2 hA';omega) (bk _ _)),by have:=hlt2 hA';have:=hT.kA;omega⟩⟩,⟨sB,g3 hB (ny hB rfl) hT.AB⟩,⟨sb,g3 hb (ny hb rfl) hT.Ab⟩,aN _ (ag _ Ay (aL _ gy2)),g3 hT.hk (by omega) (fun q=>by have:=hT.hk;rw[<- q,hA]at this;cases this),hT.nA,hT.nB,hT.nb,hT.AB,hT.Ab,hT.kA,hT.ky⟩,fun o b ho hb=>g3 hb (by have:=hT.ky;omega) (by have:=hT.kA;omega)⟩
 rcases hA2 with⟨q1,q2⟩|⟨q1,X,rfl,q3,q4⟩
 ·exact nil q1 q2
 ·have hX:=g2 q3 (ny q3 rfl)
  have XA:X≠A:=fun q=>by rw[q,hA]at q3;cases q3
  have Xy:X≠y+1:=(ny q3 rfl).symm
  have hap:∀(κ:D->DH->ah) (e:List D),cE (aJ ab 160) 4 (.buf 4 X toks.length) [e] H2 κ=κ (.buf 4 X (toks.length+1)) (H2.set X (.buf 4 true false (toks++[e]))):=fun κ e=>by
   simp only[cE,List.length_singleton,BT (show 1<=100000 by omega),boK,cond_true,Nat.beq_refl,bH hX,BT (show toks.length+1<=100000 by omega),Bool.false_and,Bool.not_false,Bool.and_true,grow,cond_false]
  rw[hap]at e
  have hA3:=ag (.buf 4 true false (toks++[(xT k v t a)])) XA hA'
  simp only[UC,ac hA3]at e
  rw[show ∀(z:D) (κ:List D->ah),az [z] 0 [.buf 4 X (toks.length+1)] κ=κ [.buf 4 X (toks.length+1)] from fun _ _=>rfl]at e
  rw[Oh (ag _ Ay (ag _ Xy gy2))]at e
  have g3:∀ {o:Nat} {b:DB},H[o]? = some b->y+1≠o->A≠o->X≠o->(((H2.set X (.buf 4 true false (toks++[(xT k v t a)]))).set A (.cells (sA+1) [.buf 4 X (toks.length+1)])).set (y+1) (Jd l p A B bx))[o]? = some b:=fun h q1 q2 q3=>ag _ q1 (ag _ q2 (ag _ q3 (g2 h q1)))
  have Xn:∀ {o:Nat} {b:DB},H[o]? = some b->b≠.buf 4 true false toks->X≠o:=fun h1 h2 q=>by subst q;rw[q3]at h1;exact h2 (Option.some.inj h1).symm
  refine⟨_,e,⟨⟨UX,g3 hp (ny hp rfl) hT.nA (Xn hp (fun q=>by cases q))⟩,g3 hS.hm (ny hS.hm rfl) (fun q=>by have:=hS.hm;rw[<- q,hA]at this;cases this) (Xn hS.hm (fun q=>by cases q)),g3 hS.hc (ny hS.hc rfl) (fun q=>by have:=hS.hc;rw[<- q,hA]at this;cases this) (Xn hS.hc (fun q=>by cases q))⟩,
   ⟨⟨sA+1,_,ag _ Ay.symm (aN _ hA3),.inr ⟨by simp,X,by simp,ag _ Xy.symm (ag _ XA.symm (aN _ hX)),q4⟩⟩,⟨sB,g3 hB (ny hB rfl) hT.AB (Xn hB (fun q=>by cases q))⟩,⟨sb,g3 hb (ny hb rfl) hT.Ab (Xn hb (fun q=>by cases q))⟩,aN _ (ag _ Ay (ag _ Xy gy2)),g3 hT.hk (by omega) (fun q=>by have:=hT.hk;rw[<- q,hA]at this;cases this) (Xn hT.hk (fun q=>by cases q)),hT.nA,hT.nB,hT.nb,hT.AB,hT.Ab,hT.kA,hT.ky⟩,fun o b ho hb=>g3 hb (by have:=hT.ky;omega) (by have:=hT.kA;omega) (by omega)⟩
theorem Zt(o c:Nat)(H:DH)(κ:D->ah):bQ ab 3 (.ptr o c) H κ=au H o fun _ cs=>aA cs c κ:=by kernel_rfl
theorem ZM(o c:Nat)(H:DH)(κ:D->ah):bQ ab 9 (.ptr o c) H κ=au H o fun _ cs=>aA cs c κ:=by kernel_rfl
theorem Sd(o c:Nat)(κ:D->ah):eR (.ptr o c) κ=κ (.ptr o c):=rfl
theorem RZ(o c n:Nat)(κ:D->ah):dz (.ptr o c) n κ=κ (.ptr o (c+n)):=rfl
theorem Xd(o c:Nat)(new:List D)(H:DH)(κ:DH->ah):sK (.ptr o c) new H κ=au H o fun st cs=>az cs c new fun cs=>κ (H.set o (.cells (st+1) cs)):=rfl
variable{l:af}{K p A B bx y m oc:Nat}
def FP(l:af)(at':Nat)(r:dB):Prop:=at'<l.length->∃(k v:Int) (n:Nat) (r':dB),r=(xT k v ((l.drop at').take n) at')::r'/\1<=n/\at'+n<=l.length/\(fD l at'->k=1)/\(¬ fD l at'->fG l at'=some (k,n))/\(at'+n=l.length->r'=[])
def mr(l:af)(at':Nat):Prop:=at'<l.length/\(¬ fD l at'->fG l at'=none\/∃ k n,fG l at'=some (k,n)/\at'+n≠l.length)
theorem PU{l:af}{a:Nat}(h:l.length<=a):¬ skip l a:=fun q=>by
 rcases q with q|q
 ·rw[ni h]at q;cases q
 grind [List.drop_eq_nil_of_le]
set_option maxHeartbeats 2000000 in
theorem zV(hl:l.length<=24)(kp:K<=p)(ko:K<=oc):∀(n at':Nat) (H:DH) (c toks:dB),n=l.length - at'->at'<=l.length->c.length+(l.length - at')<=100->toks.length+(l.length - at')<=100->FU H p l at' m oc c->TA K H l p A B bx y toks ->
 (∃ H2 r,ae am 183 200001 [.g (.yld (y+1)),.g (.ptr bx 0)] [] H=ret (.tuple []) H2/\TA K H2 l p A B bx y (toks++r)/\(at'=l.length->r=[])/\FP l at' r/\Kp K H H2) \/
 (∃(a e:Int) (H2:DH) (T:dB),e≠0/\ae am 183 200001 [.g (.yld (y+1)),.g (.ptr bx 0)] [] H=pan (wr a e) H2/\TA K H2 l p A B bx y T/\mr l at'/\Kp K H H2)
 |n,at',H,c,toks,hn,ha,hcl,htl,hS,hT=>by
  obtain⟨st,hp⟩:=hS.hp
  obtain⟨sb,hb⟩:=hT.hb
  rw[show ae am 183 200001 [.g (.yld (y+1)),.g (.ptr bx 0)] [] H=_ from cM (ES) rfl]
  simp only[ac hb,aj,ar,Sd,RZ,Zt,ZM,ac hp,Nat.zero_add,KB,Df,IV,ak]
  by_cases hc:at'<l.length
  ·rw[decide_eq_true hc,cond_true]
   rcases Mf hp hS.hm hl hc with⟨k,v,n',h1,h2,h3,h4,h5⟩|⟨a,e,h1,h2,h3⟩
   ·have hlen:((l.drop at').take n').length=n':=by rw[List.length_take,List.length_drop];omega
    rw[aw h3]
    simp only[tk,Ww,UZ,ac hb,aj,ar,Sd,RZ,Zt,ac hp,Nat.zero_add,KB,hlen,eO,wN (show at'+n'<2^62 by omega),uJ,Xd,Kk]
    have hS1:=hS.mv (at'+n') (st+1)
    have kp1:=Kp.of (Fr.set (H:=H) (p:=p) (oc:=oc) (b:=.cells (st+1) (mO l (at'+n') (.map m) (.buf 2 oc c.length)))) kp ko
    have hT1:=hT.fr hS.hc (Fr.set (b:=.cells (st+1) (mO l (at'+n') (.map m) (.buf 2 oc c.length)))) ⟨_,_,hp⟩
    generalize H.set p (.cells (st+1) (mO l (at'+n') (.map m) (.buf 2 oc c.length)))=H1 at hS1 hT1 kp1 ⊢
    obtain⟨H2,r1,hS2,hT2,kp2⟩:=MG hS1 hT1 (by omega) k v ((l.drop at').take n') at'
    rw[tk]at r1
    rw[jg r1]
    obtain⟨sb2,hb2⟩:=hT2.hb
    simp only[ct,Bool.not_true,ak,cond_false,ac hb2,aj,ar]
    rcases IL hl h2 (by omega) hS2 with⟨at3,c3,H3,j1,j2,j3,j4,j5,j6,_,_⟩|⟨a,e,H3,j1,j2,j3,j4⟩
    ·rw[aw j1]
     have hT3:=hT2.fr hS2.hc j6 (by obtain⟨st,h⟩:=hS2.hp;exact⟨_,_,h⟩)
     rcases zV hl kp ko (l.length - at3) at3 H3 c3 _ rfl j4 j5 (by simp;omega) j2 hT3 with⟨H4,r,i1,i2,i3,i4,i5⟩|⟨a,e,H4,T,i1,i2,i3,i4,i5⟩
     ·refine .inl ⟨H4,_::r,i1,by rw[List.append_assoc]at i2;exact i2,fun q=>by omega,fun _=>⟨k,v,n',r,rfl,h1,h2,h4,h5,fun q=>i3 (by omega)⟩,((kp1.trans kp2).trans (Kp.of j6 kp ko)).trans i5⟩
     ·exact .inr ⟨a,e,H4,T,i1,i2,i3,⟨hc,fun q=>.inr ⟨k,n',h5 q,by have:=i4.1;omega⟩⟩,((kp1.trans kp2).trans (Kp.of j6 kp ko)).trans i5⟩
    ·rw[Bz j2]
     exact .inr ⟨a,e,H3,_,j1,rfl,hT2.fr hS2.hc j3 (by obtain⟨st,h⟩:=hS2.hp;exact⟨_,_,h⟩),⟨hc,fun q=>.inr ⟨k,n',h5 q,fun q2=>PU (by omega) j4⟩⟩,(kp1.trans kp2).trans (Kp.of j3 kp ko)⟩
   ·rw[Bz h2]
    exact .inr ⟨a,e,H,toks,h1,rfl,hT,⟨hc,fun q=>.inl (h3 q)⟩,fun _ _ _ h=>h⟩
  ·rw[decide_eq_false hc,cond_false]
   exact .inl ⟨H,[],rfl,by rw[List.append_nil];exact hT,fun _=>rfl,fun q=>(hc q).elim,fun _ _ _ h=>h⟩
 termination_by n=>n
open Classical in
def eG(l:af):Int:=if l.length=0\/24<l.length\/skip l 0\/fD l 0 then 0 else match fG l 0 with
 |none=>0
 |some (k,n)=>if n=l.length then k else 0
def pp(l:af):dB->Int
 |[[.int _ k,_,.str t,_]]=>if t=l then k else 0
 |_=>0
def sw(l:af)(k:Int):Prop:=k=eG l\/(fD l 0/\k=1)
theorem fO{l:af}(h:l.length=0\/24<l.length\/skip l 0\/fD l 0):eG l=0:=by unfold eG;rw[if_pos h]
theorem NI(hl:l.length<=24){at2:Nat}{T:dB}(h0:at2=l.length->T=[])(hF:FP l at2 T)(h1:at2<=l.length)(h2:¬ skip l 0->at2=0)(h3:0<l.length->skip l 0->0<at2):sw l (pp l T):=by
 by_cases hz:l.length=0
 ·rw[h0 (by omega)];exact .inl (fO (.inl hz)).symm
 by_cases hs:skip l 0
 ·have:=h3 (by omega) hs
  refine .inl ?_
  rw[fO (.inr (.inr (.inl hs)))]
  rcases Nat.lt_or_ge at2 l.length with q|q
  ·obtain⟨k,v,n,r',rfl,_,_,_⟩:=hF q
   cases r' with
   |nil =>
    grind [pp,List.length,List.length_take,List.length_drop]
   |cons _ _=>rfl
  ·rw[h0 (by omega)];rfl
 ·have e0:=h2 hs
  subst e0
  obtain⟨k,v,n,r',rfl,q1,q2,q3,q4,q5⟩:=hF (by omega)
  by_cases hn:fD l 0
  ·cases r' with
   |nil =>
    simp only[pp]
    split
    ·exact .inr ⟨hn,q3 hn⟩
    ·exact .inl (fO (.inr (.inr (.inr hn)))).symm
   |cons _ _=>exact .inl (fO (.inr (.inr (.inr hn)))).symm
  ·have ht:=q4 hn
   refine .inl ?_
   have hk:eG l=if n=l.length then k else 0:=by
    grind [eG]
   rw[hk]
   by_cases hnl:n=l.length
   ·simp_all[pp,List.drop_zero,List.take_of_length_le,Nat.le_refl]
   ·rw[if_neg hnl]
    cases r' with
    |nil =>
     grind [pp,List.length,List.length_take,List.length_drop]
    |cons _ _=>rfl
theorem Er(hl:l.length<=24)(h:skip l 0\/mr l 0):sw l 0:=by
 refine .inl ?_
 by_cases hs:skip l 0
 ·grind [fO]
 by_cases hn:fD l 0
 ·grind [fO]
 obtain⟨h1,h2⟩:=h.resolve_left hs
 grind [eG]
end Go.Proofs.YtenibcfppefobaaGreatDoor
