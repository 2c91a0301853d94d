/- Evaluators by which runs of the program are reckoned, that they are sound, and what the functions answer: part 4. No conditions beyond those of the row. -/
import Derived.Test.YtenibcfppefobaaGreatDoorA3
import Derived.Deep.Slices
import Derived.ChangeArms
import Derived.DataReads
import GoSem.ClaimJoined
import Derived.Test.YtenibcfppefobaaGreatDoorProg
import Derived.Test.YtenibcfppefobaaGreatDoorRows
import Derived.Lib.AtoiAllCases
import Derived.Lib.ItoaLen
import Derived.Lib.ReplaceLaws
import Derived.OpenShut
set_option linter.all false
noncomputable section
set_option linter.all false
noncomputable section
namespace Go.AI
variable[ft]
variable{b:Nat}{P0:List Nat}{g g':Gh}{LO:List Nat}{t:T LD}{L:LS}{tv:T V}{P:Program}{out:gI}{E:cw}
theorem fZ{s s':S}{r:Option V}{v:V}(h:bp s r=some (.val v s)):bp s' r=some (.val v s'):=by
 unfold bp at h ⊢
 split at h
 ·cases h;rfl
 ·cases h
theorem pi{ty:TypeId}{cs:List D}{c:Nat}{κ:D->ag}(h:cN P ty cs c κ=some out){s s':S}{a:Ad}{vs:List V}(h1:loadCells s a cs.length=some vs)(h2:loadCells s' a cs.length=some vs):loadVar P s ty (bN a c)=loadVar P s' ty (bN a c):=by
 unfold cN at h
 unfold loadVar
 split at h
 ·rename_i ha
  split at h
  ·rename_i n hn
   obtain⟨hn0,h⟩:=aC h
   obtain⟨_,h4⟩:=gv h
   have hn0:=Nat.le_of_ble_eq_true hn0
   rw[ha,hn]
   simp only[Option.bind]
   rw[gK h1 (by omega),gK h2 (by omega)]
  ·cases h
 ·rename_i ha
  obtain⟨d,h3,_⟩:=iH h
  have hlt:c<cs.length:=by
   grind
  have hlv:c<vs.length:=by rw[yf h1];exact hlt
  have hv:vs[c]? = some vs[c]:=List.getElem?_eq_getElem hlv
  grind [qF]
 ·cases h
def rC(H:DH):Prop:=∀(o:Nat) b,H[o]? = some b->b=.dead\/∃ st cs,b=.cells st cs
theorem rC.nil:rC []:=fun o b h=>by simp at h
theorem QL{H:DH}(h:rC H){o n:Nat}{k:Nat->Bool->Bool->List (List D)->ag}:gF H o n k≠some out:=fun e=>by
 unfold gF at e
 split at e
 ·rename_i sz st cap l hc
  rcases h o _ hc with q|⟨_,_,q⟩<;>cases q
 ·cases e
theorem Ta{H:DH}(h:rC H){o st:Nat}{k:Nat->List (List D)->ag}:JO H o st k≠some out:=fun e=>by
 unfold JO at e
 split at e
 ·rename_i sz st' l hc
  rcases h o _ hc with q|⟨_,_,q⟩<;>cases q
 ·cases e
theorem Lo{H:DH}(h:rC H){o:Nat}{k:List (D×D)->ag}:jW H o k≠some out:=fun e=>by
 unfold jW at e
 split at e
 ·rename_i es hc
  rcases h o _ hc with q|⟨_,_,q⟩<;>cases q
 ·cases e
theorem FT{d:Nat}{ty:TypeId}{x y:D}{κ:Bool->ag}{v w:V}(h:Jf P d ty x y κ=some out)(r1:RD g x v)(r2:RD g y w):∃ q,∀ okf,cn P okf d ty v w=some q:=by
 obtain⟨q,hq⟩:=BU P d ty x y κ out h
 refine⟨q,fun okf=>?_⟩
 obtain⟨q',h1,h2⟩:=Bs (κ:=fun p=>bif p==q then some out else none) okf (by rw[hq];simp;rfl) r1 r2
 grind
theorem Gp{op:BinOp}{ty:TypeId}{x y:Operand}{c d:D}{κ:D->ag}(h:ay P op ty (dc x||dc y) c d κ=some out){v w:V}(r1:RD g c v)(r2:RD g d w){s s':S}:dO P s op ty x y (some v) (some w)=dO P s' op ty x y (some v) (some w):=by
 simp only[dO]
 congr 1
 unfold ee
 split
 ·rfl
 ·rfl
 ·rename_i n1 n2
  unfold ay at h
  split at h
  ·grind [RD]
  ·grind [RD]
  ·obtain⟨_,h⟩:=aC h
   grind [FT]
theorem Pl{H:DH}(hs:dM H g)(hok:Ok g){op:BinOp}{ty:TypeId}{x y:Operand}{c d:D}{κ:D->ag}(h:xA P op ty (dc x||dc y) c d H κ=some out){v w:V}(r1:RD g c v)(r2:RD g d w){s':S}(hq:∀(o:Nat) st cs f v,H[o]? = some (.cells st cs)->g.O[o]? = some (some (f,v))->s'.get f=g.s.get f):dO P s' op ty x y (some v) (some w)=dO P g.s op ty x y (some v) (some w):=by
 unfold xA at h
 split at h
 ·rcases qm hs hok h r1 r2 with h|⟨p,h1,h2⟩
  ·exact Gp h r1 r2
  ·obtain⟨h3,x',y',rfl,rfl⟩:=h2 g.s fun _ _ _ _ _ _ _=>rfl
   obtain⟨h4,_⟩:=h2 s' hq
   simp only[dO,eu,lE,cond_true,ee,h3,h4]
 ·rcases qm hs hok h r1 r2 with h|⟨p,h1,h2⟩
  ·exact Gp h r1 r2
  ·obtain⟨h3,x',y',rfl,rfl⟩:=h2 g.s fun _ _ _ _ _ _ _=>rfl
   obtain⟨h4,_⟩:=h2 s' hq
   simp only[dO,eu,lE,cond_true,ee,h3,h4]
 ·exact Gp h r1 r2
theorem QN{op:BinOp}{ty el:TypeId}{x y:Operand}{d:D}{κ:D->ag}(h:IJ op d κ=some out)(hu:P.underlying ty=some (.slice el)){v w:V}(r:RD g d v)(hy:po y=true)(hw:eval tv y=some w){s s':S}:dO P s op ty x y (some v) (some w)=dO P s' op ty x y (some v) (some w):=by
 simp_all[dO,ee,cn]
theorem Pd{src dst:TypeId}{x:D}{κ:D->ag}(h:oO P src dst x κ=some out){v:V}(r:RD g x v){s s':S}{y:V}(hy:jj P s src dst v=some (y,s)):jj P s' src dst v=some (y,s'):=by
 unfold oO at h
 grind [Option.isNone_some,RD,jj,yF]
theorem Oo{ty:TypeId}{x:LD}{H:DH}{κ:D->ag}(h:jF P ty x L H κ=some out)(hs:dM H g)(hc:rC H)(hok:Ok g)(hl:SN g L LO){v:V}(r:RS g LO x v)(hm:mj g g')
 (hp:∀(k:Nat) y f,L[k]? = some y->LO[k]? = some f->y.2≠[]->g'.s.get f=g.s.get f) (hob:∀(o:Nat) st cs f v,H[o]? = some (.cells st cs)->g.O[o]? = some (some (f,v))->g'.s.get f=g.s.get f) :
 ∀ w,im P g.s ty (some v)=some (.val w g.s)->im P g'.s ty (some v)=some (.val w g'.s):=by
 have key:∀ {a:Ad},v=.ptr a->loadVar P g.s ty a=loadVar P g'.s ty a->∀ w,im P g.s ty (some v)=some (.val w g.s)->im P g'.s ty (some v)=some (.val w g'.s):=fun {a} hv he w hw=>by
  grind [gB,fZ]
 cases x with
 |u=>cases h
 |lp k c =>
  simp only[jF]at h
  obtain⟨f,h1,rfl⟩:=r
  split at h
  ·rename_i st cs hk
   by_cases hne:cs=[]
   ·subst hne
    exfalso
    unfold cN at h
    split at h
    ·split at h
     ·obtain⟨hn,h⟩:=aC h
      obtain⟨_,q⟩:=gv h
      have:=Nat.le_of_ble_eq_true hn
      simp at q
      omega
     ·cases h
    ·obtain⟨d,q,_⟩:=iH h
     simp at q
    ·cases h
   ·obtain⟨_,h2|⟨el,vs,h2,h3,h4⟩⟩:=hl k _ f hk h1
    ·exact(hne h2).elim
    ·have h5:=hp k _ f hk h1 hne
     refine key (a:=bN ⟨f,0,0⟩ c) (by simp[bN]) (pi (vs:=vs) h ?_ ?_)
     ·rw[<- h3.len];exact Fz h2
     ·rw[<- h3.len];exact Fz (by rw[h5];exact h2)
  ·cases h
 |g d =>
  have r:RD g d v:=r
  simp only[jF]at h
  unfold eZ at h
  split at h
  ·simp only[RD]at r
   obtain⟨a,vs,rfl,h1,h2,h3,h4⟩:=r
   exact key rfl (pi h h2 (hm.cells _ _ _ h1 h2))
  ·rename_i o c _
   simp only[RD]at r
   obtain⟨f,ver,h1,rfl⟩:=r
   obtain⟨st,cs,f',el,vs,h,h0,_,h2,h3,h4,h5⟩:=AK h hs hok
   rw[h1]at h2;cases h2
   refine key (a:=bN ⟨f,0,0⟩ c) (by simp[bN]) (pi (vs:=vs) h ?_ ?_)
   ·rw[<- h4.len];exact Fz h3
   ·rw[<- h4.len];exact Fz (by rw[hob _ st cs f 0 h0 h1];exact h3)
  ·exact(QL hc h).elim
  ·exact(Ta hc h).elim
  ·cases h
theorem yY(o:Op){esc:Bool}{H:DH}{κ:T LD->xO->ag}(hk:aD E.E.P o<=1)(ho:∀ x∈o.operands.toList,uI g LO t tv x)(hok:Ok g)(hl:SN g L LO)(hH:dM H g)(hc:rC H)(e:jB o E esc t L H κ=some out)(hm:mj g g')
 (hp:∀(k:Nat) y f,L[k]? = some y->LO[k]? = some f->y.2≠[]->g'.s.get f=g.s.get f) (hob:∀(o:Nat) st cs f v,H[o]? = some (.cells st cs)->g.O[o]? = some (some (f,v))->g'.s.get f=g.s.get f) :
 ∀ w,cC o E.E tv g.s=some (.val w g.s)->cC o E.E tv g'.s=some (.val w g'.s):=by
 intro w hw
 cases o with
 |load ty x =>
  obtain⟨d,v,h1,_,h2,h3⟩:=jY e (ho x (by simp[Op.operands]))
  simp only[cC,h2]at hw ⊢
  exact Oo h1 hH hc hok hl h3 hm hp hob w hw
 |binOp op ty x y yT =>
  obtain⟨a,v,h1,_,h2,h3⟩:=bk e (ho x (by simp[Op.operands]))
  obtain⟨c,w',h4,_,h5,h6⟩:=bk h1 (ho y (by simp[Op.operands]))
  simp only[cC,h2,h5]at hw ⊢
  cases hn:po y with
  |true =>
   rw[hn]at h4;dsimp only at h4
   split at h4
   ·rename_i hu
    have e1:dO E.E.P g.s op ty x y (some v) (some w')=dO E.E.P g'.s op ty x y (some v) (some w'):=QN h4 hu h3 hn h5
    rw[<- e1]
    exact fZ hw
   ·cases h4
  |false =>
  rw[hn]at h4;dsimp only at h4
  rw[Pl hH hok h4 h3 h6 (s':=g'.s) hob]
  exact fZ hw
 |convert src dst x =>
  obtain⟨a,v,h1,_,h2,h3⟩:=bk e (ho x (by simp[Op.operands]))
  simp only[cC,h2,gj]at hw ⊢
  have:jj E.E.P g.s src dst v=some (w,g.s):=by
   revert hw
   cases jj E.E.P g.s src dst v with
   |none=>intro hw;cases hw
   |some p=>intro hw;obtain⟨p1,p2⟩:=p;simp only[ii,Option.some.injEq,Nx.val.injEq]at hw;rw[hw.1,hw.2]
  rw[Pd h1 h3 this];rfl
 |lookup ty x k ok =>
  obtain⟨a,v,h1,_,h2,h3⟩:=bk e (ho x (by simp[Op.operands]))
  obtain⟨c,w',h4,_,h5,h6⟩:=bk h1 (ho k (by simp[Op.operands]))
  simp only[cC,h2,h5]at hw ⊢
  unfold eR at h4
  split at h4
  ·rename_i td el hme
   obtain⟨kt,hu,_,_,hsk⟩:=mN hme
   split at h4
   ·obtain⟨_,h4⟩:=aC h4
    exact(Lo hc h4).elim
   ·simp only[RD]at h3;subst h3
    simp only[jh,hu,wU,bV]at hw ⊢
    exact fZ hw
   ·cases h4
  ·cases h4
 |call c =>
  simp only[jB]at e
  obtain⟨ds,vs,h1,h2,h3⟩:=jf e (fun x hx=>ho x (by simp[Op.operands,Call.operands]at hx ⊢;exact .inr hx))
  simp only[cC,h2,gE]at hw ⊢
  split at h1
  ·rename_i bi hcc
   rw[hcc]at hw ⊢
   simp only[aD,hcc]at hk
   simp only at hw ⊢
   cases bi<;>first|(simp at hk;done)|skip
   case len =>
    simp only[lR]at h1
    simp only[ip]at hw ⊢
    split at h1
    ·rename_i a ha
     split at h1
     ·simp only[RL]at h3
      obtain⟨v,vs',rfl,k1,rfl⟩:=h3
      rw[ha]at hw ⊢
      simp only at hw ⊢
      have hv:ik E.E.P a g.s v=ik E.E.P a g'.s v:=by
       unfold ik
       split<;>first|rfl|skip
       rename_i r _ hu
       exfalso
       unfold eC at h1
       rw[hu]at h1
       simp only at h1
       have ht:=k1.tag
       split at h1
       ·grind [Lo]
       ·cases ht
       ·cases h1
      rw[<- hv];exact fZ hw
     ·cases h1
    ·cases h1
   case max=>exact fZ hw
   case min=>exact fZ hw
   case cap=>cases h1
  ·rename_i f hcc
   simp[aD,hcc]at hk
  ·cases h1
 |pick c x y =>
  simp only[cC,lM]at hw ⊢
  split at hw
  ·exact fZ hw
  ·cases hw
 |_=>first|(cases e;done)|(simp[aD]at hk;done)|(simp only[cC]at hw ⊢;exact fZ hw)
end Go.AI
set_option linter.all false
noncomputable section
namespace Go.AI
variable[ft]
variable{b:Nat}{P0:List Nat}{g:Gh}{LO:List Nat}{t:T LD}{L:LS}{tv:T V}{out:gI}{E:cw}{an:gJ}
def gu(g:Gh):List fo->List Cb->Prop
 |[],c=>c=[]
 |x::r,c=>∃ y c',c=y::c'/\RD g x.v y.v/\x.recovered=y.recovered/\gu g r c'
def JT(g:Gh):eH->Md->Prop
 |.run,m=>m=.run
 |.returning,m=>m=.returning
 |.panicking c,m=>∃ c',m=.panicking c'/\gu g c c'
 |.round _,_=>False
def JG(g:Gh):Option eH->Option Md->Prop
 |none,u=>u=none
 |some m,u=>∃ m',u=some m'/\JT g m m'
def pH(g:Gh):Option eH->Option Md->Option Nat->Prop
 |some (.round o),u,r=>u=none/\∃ l v,r=some l/\g.O[o]? = some (some (l,v))
 |up,u,r=>r=none/\JG g up u
def Ip(up:Option eH):Prop:=∀ o,up≠some (.round o)
theorem pH.nr{g:Gh}{up:Option eH}{u:Option Md}{r:Option Nat}(hn:Ip up)(h:pH g up u r):r=none/\JG g up u:=by
 unfold pH at h
 split at h
 ·exact(hn _ rfl).elim
 ·exact h
theorem pH.mk{g:Gh}{up:Option eH}{u:Option Md}(hn:Ip up)(h:JG g up u):pH g up u none:=by
 unfold pH
 split
 ·exact(hn _ rfl).elim
 grind
theorem lA{up:Option eH}{r:ag}{out:gI}(h:notRnd up r=some out):Ip up/\r=some out:=by
 unfold notRnd at h
 split at h
 ·cases h
 ·rename_i hn;exact⟨fun o e=>hn o e,h⟩
def Ey(g:Gh):List pG->List eh->Prop
 |[],c=>c=[]
 |.coll o::r,c=>∃ d v c',c=.collected d::c'/\g.O[o]? = some (some (d,v))/\Ey g r c'
 |.call x::r,c=>∃ ca a c',c=.call (.func x.fn) ca a::c'/\RL g x.captured ca/\RL g x.args a/\Ey g r c'
def SE(g:Gh):Nm->Uh->Prop
 |.ret d,e=>∃ v,e=.returned v/\RD g d v
 |.pan c,e=>∃ c',e=.panicked c'/\gu g c c'
theorem gu.mono{g g':Gh}(h:mj g g'):∀ {c:List fo} {c':List Cb},gu g c c'->gu g' c c'
 |[],_,r=>r
 |x::l,_,r=>by
  obtain⟨y,c',h1,h2,h3,h4⟩:=r
  exact⟨y,c',h1,h2.mono h,h3,gu.mono h h4⟩
theorem JT.mono{g g':Gh}(h:mj g g'){m:eH}{m':Md}(r:JT g m m'):JT g' m m':=by
 cases m with
 |run=>exact r
 |returning=>exact r
 |panicking c=>obtain⟨c',h1,h2⟩:=r;exact⟨c',h1,h2.mono h⟩
 |round _=>exact r
theorem JG.mono{g g':Gh}(h:mj g g'){m:Option eH}{m':Option Md}(r:JG g m m'):JG g' m m':=by
 cases m with
 |none=>exact r
 |some m=>obtain⟨c',h1,h2⟩:=r;exact⟨c',h1,h2.mono h⟩
theorem pH.mono{g g':Gh}(h:mj g g'){m:Option eH}{u:Option Md}{q:Option Nat}(r:pH g m u q):pH g' m u q:=by
 unfold pH at r ⊢
 split at r
 ·obtain⟨h1,l,v,h2,h3⟩:=r
  obtain⟨v',h4⟩:=h.o1 _ l v h3
  grind
 ·exact⟨r.1,r.2.mono h⟩
theorem Ey.mono{g g':Gh}(h:mj g g'):∀ {c:List pG} {c':List eh},Ey g c c'->Ey g' c c'
 |[],_,r=>r
 |.coll o::l,_,r=>by
  obtain⟨d,v,c',h1,h2,h3⟩:=r
  obtain⟨v',h4⟩:=h.o1 o d v h2
  exact⟨d,v',c',h1,h4,Ey.mono h h3⟩
 |.call x::l,_,r=>by
  obtain⟨ca,a,c',h1,h2,h3,h4⟩:=r
  exact⟨ca,a,c',h1,h2.mono h,h3.mono h,Ey.mono h h4⟩
def iJ(b:Nat)(P0:List Nat)(g:Gh)(out:gI)(vout:eO):Prop:=∃ g',g'.H=out.H/\g'.s=vout.s/\g'.Pv=P0/\Ok g'/\Mv b g g'/\SE g' out.e vout.e/\JG g' out.up vout.up
structure Gy(E:cV)(rec:om):Prop where
 c:∀ f args up H out,rec f args up H=some out->∀ g:Gh,g.H=H->Ok g->∀ vs upv,RL g args vs->JG g up upv->∃ vout,lim E (.call f vs upv) g.s=some vout/\iJ g.s.next g.Pv g out vout
 r:∀ o args H out,rec 0 args (some (.round o)) H=some out->∀ g:Gh,g.H=H->Ok g->∀ vs l v,RL g args vs->g.O[o]? = some (some (l,v))->∃ vout,lim E (.round l vs) g.s=some vout/\iJ g.s.next g.Pv g out vout
def lu(t:T LD)(d:Option Tmp)(x:LD):T LD:=match d with
 |some i=>T.set (some x) (eB i) t
 |none=>t
theorem cm(t:T LD)(d:Option Tmp)(x:LD)(κ:T LD->ag):jz t d x κ=κ (lu t d x):=by
 cases d with
 |none=>rfl
 |some i=>exact T.setQ_eq _ _ _ _
theorem yx.put(h:yx g LO t tv)(d:Option Tmp){x:LD}{v:V}(r:RS g LO x v):yx g LO (lu t d x) (putD tv d v):=by
 cases d with
 |none=>exact h
 |some i =>
  intro j y hy
  simp only[lu]at hy
  rw[T.get_setN]at hy
  rw[Dg]
  split at hy
  ·grind
  ·rename_i e;rw[if_neg e];exact h j y hy
theorem FI.put(h:FI b P0 g t L tv LO)(d:Option Tmp){x:LD}{v:V}(r:RS g LO x v):FI b P0 g (lu t d x) L (putD tv d v) LO:=⟨h.ok,h.slots.put d r,h.own,h.pv,h.low,h.nd,h.bl⟩
theorem RS.u:RS g LO .u V.undef:=rfl
theorem uM{ops:Array Oper}{o:Oper}{kT kF:T LD->ag}(e:uN ops t o kT kF=some out)(h:yx g LO t tv) :
 (bz ops tv o=some true/\∃ t',kT t'=some out/\Rf t t' tv)\/(bz ops tv o=some false/\∃ t',kF t'=some out/\Rf t t' tv):=by
 unfold uN at e
 unfold bz
 split at e
 ·rename_i hg;rw[hg];exact .inl ⟨rfl,t,e,.refl t tv⟩
 ·rename_i j want hg
  rw[hg]
  simp only
  split at e
  ·rename_i i hi
   rw[hi]
   simp only
   split at e
   ·rename_i d hd
    obtain⟨v,h1,h2⟩:=h i _ hd
    have h2:RD g d v:=h2
    split at e
    ·obtain⟨q,rfl,e'⟩:=BJ e h2
     clear e
     rw[h1]
     cases q with
     |true=>rw[cond_true,T.setQ_eq]at e';exact .inl ⟨rfl,_,e',vm h1⟩
     |false=>rw[cond_false,T.setQ_eq]at e';exact .inr ⟨rfl,_,e',vm h1⟩
    ·obtain⟨q,rfl,e'⟩:=BJ e h2
     clear e
     rw[h1]
     cases q with
     |true=>rw[cond_true,T.setQ_eq]at e';exact .inr ⟨rfl,_,e',vm h1⟩
     |false=>rw[cond_false,T.setQ_eq]at e';exact .inl ⟨rfl,_,e',vm h1⟩
   ·rename_i hd
    obtain⟨v,h1,h2⟩:=h i _ hd
    have h2:v=V.undef:=h2
    subst h2
    rw[h1]
    exact .inr ⟨rfl,t,e,.refl t tv⟩
   ·cases e
  ·cases e
theorem De(h:FI b P0 g t L tv LO){k:Hk}{d:D}{κ:D->DH->ag}(e:fN k d g.H κ=some out){v:V}(r:RD g d v) :
 ∃ d' g',κ d' g'.H=some out/\g'.s=g.s/\FI b P0 g' t L tv LO/\Mv b g g'/\RD g' d' v/\(v.one=true):=by
 unfold fN at e
 split at e
 ·rename_i sz
  split at e
  ·rename_i s' o n
   obtain⟨sz',st,cap,l,e1,hc,hc2,hn⟩:=jS e (dM.refl g)
   clear e
   obtain⟨hb,e⟩:=cR e1
   clear e1
   have hb:=Nat.eq_of_beq_eq_true hb
   subst hb
   have hone:=r.one (fun q=>by cases q) (fun q=>by cases q)
   simp only[RD]at r
   have hsz:sz'=s':=by
    rcases r with⟨⟨_,_,_,k1⟩,_⟩|⟨st',cap',l',j1,_⟩
    ·rw[hc2]at k1;cases k1
    grind
   subst hsz
   exact⟨_,g.frz o sz' cap l,e,rfl,h.frz hc2,Fm hc2,Bh h.ok hc2 hn r,hone⟩
  ·have hone:=r.one (fun q=>by cases q) (fun q=>by cases q)
   simp only[RD]at r
   refine⟨_,g,e,rfl,h,.refl b g,?_,hone⟩
   simp only[RD]
   rcases r with rfl|⟨a,z,sz',rfl⟩
   ·exact .inl ⟨trivial,rfl⟩
   ·exact .inr (.inl ⟨trivial,a,z,sz',rfl⟩)
  ·have hone:=r.one (fun q=>by cases q) (fun q=>by cases q)
   simp only[RD]at r
   exact⟨_,g,e,rfl,h,.refl b g,by simp only[RD];exact .inl ⟨trivial,r⟩,hone⟩
  ·exact⟨_,g,e,rfl,h,.refl b g,r,r.one (fun q=>by cases q) (fun q=>by cases q)⟩
  ·cases e
 ·rename_i sz
  split at e
  ·obtain⟨hs,e⟩:=aC e
   have hone:=r.one (fun q=>by cases q) (fun q=>by cases q)
   simp only[RD]at r
   refine⟨_,g.acc sz false,e,rfl,h.acc (Nat.le_of_ble_eq_true hs) false,Fp h.ok sz false,?_,hone⟩
   simp only[RD]
   exact .inr ⟨true,false,[],gU _ _,Nat.le_refl _,.inl ⟨rfl,r⟩⟩
  ·exact⟨_,g,e,rfl,h,.refl b g,r,r.one (fun q=>by cases q) (fun q=>by cases q)⟩
  ·cases e
theorem jX{α:Type}{l:List α}{i:Nat}{x:α}(h:l[i]? = some x):l.set i x=l:=by
 apply List.ext_getElem?
 grind
theorem wt(h:FI b P0 g t L tv LO){k:Hk}{c:Nat}{d:D}{κ:D->DH->ag}(e:il k c d g.H κ=some out){v:V}(r:RD g d v) :
 ∃ d' g',κ d' g'.H=some out/\g'.s=g.s/\FI b P0 g' t L tv LO/\Mv b g g'/\RD g' d' v:=by
 unfold il at e
 split at e
 ·simp only[RD]at r
  obtain⟨vs,rfl,h1,h2⟩:=r
  obtain⟨x,hx,e⟩:=iH e
  obtain⟨w,hw,h3⟩:=h1.at hx
  obtain⟨y,g',k1,k2,k3,k4,k5,_⟩:=De h e h3
  refine⟨_,g',k1,k2,k3,k4,?_⟩
  simp only[RD]
  have:=(h1.mono k4.le).set c k5
  rw[jX hw]at this
  exact⟨vs,rfl,this,h2⟩
 ·obtain⟨_,e⟩:=aC e
  obtain⟨d',g',k1,k2,k3,k4,k5,_⟩:=De h e r
  exact⟨d',g',k1,k2,k3,k4,k5⟩
theorem zq:∀ {l:List (Nat×Hk)} {g:Gh} {d:D} {κ:D->DH->ag} {v:V},FI b P0 g t L tv LO->wq l d g.H κ=some out->RD g d v->∃ d' g',κ d' g'.H=some out/\g'.s=g.s/\FI b P0 g' t L tv LO/\Mv b g g'/\RD g' d' v
 |[],g,d,κ,v,h,e,r=>⟨d,g,e,rfl,h,.refl b g,r⟩
 |(c,k)::l,g,d,κ,v,h,e,r=>by
  simp only[wq]at e
  obtain⟨d',g',k1,k2,k3,k4,k5⟩:=wt h e r
  obtain⟨d2,g2,j1,j2,j3,j4,j5⟩:=zq k3 k1 k5
  exact⟨d2,g2,j1,j2.trans k2,j3,k4.trans j4,j5⟩
theorem eM(h:FI b P0 g t L tv LO){dst:Option Tmp}{x:LD}{κ:LD->DH->ag}(e:qL an.hooks dst x g.H κ=some out){v:V}(r:RS g LO x v) :
 ∃ x' g',κ x' g'.H=some out/\g'.s=g.s/\FI b P0 g' t L tv LO/\Mv b g g'/\RS g' LO x' v/\(sD an dst=false->g'=g/\x'=x):=by
 have same:κ x g.H=some out->∃ x' g',κ x' g'.H=some out/\g'.s=g.s/\FI b P0 g' t L tv LO/\Mv b g g'/\RS g' LO x' v/\(sD an dst=false->g'=g/\x'=x):=fun e=>⟨x,g,e,rfl,h,.refl b g,r,fun _=>⟨rfl,rfl⟩⟩
 unfold qL at e
 split at e
 ·exact same e
 ·rename_i hl
  split at e
  ·exact same e
  ·rename_i i
   split at e
   ·exact same e
   ·rename_i l hk
    split at e
    ·obtain⟨d',g',k1,k2,k3,k4,k5⟩:=zq h e r
     refine⟨_,g',k1,k2,k3,k4,k5,fun q=>?_⟩
     unfold sD at q
     rw[hl]at q hk
     simp only[hk]at q
     cases q
    ·cases e
theorem kI(h:FI b P0 g t L tv LO){vout:eO}{o:gI}(r:iJ g.s.next g.Pv g o vout):∃ g',g'.H=o.H/\g'.s=vout.s/\FI b P0 g' t L tv LO/\Mv b g g'/\SE g' o.e vout.e/\JG g' o.up vout.up/\Ca g L LO g' L LO:=by
 obtain⟨g',h1,h2,h3,h4,h5,h6,h7⟩:=r
 exact⟨g',h1,h2,h.to h4 (h5.down h.bl) h3 fun f hf=>h5.out f (h.lo_lt hf) (fun o v=>h.lo_out hf o v),h5.down h.bl,h6,h7,List.prefix_rfl,JS.of fun f hf=>h5.out f (h.lo_lt hf) (fun o v=>h.lo_out hf o v)⟩
def Um(b:Nat)(P0:List Nat)(g:Gh)(rdv:Option Nat)(k:Es)(kp:List fo->Es)(out:gI):jq->Prop
 |.on tv' dsv' upv' s'=>∃ g' t' L' LO' ds' up',k t' L' ds' up' g'.H=some out/\g'.s=s'/\FI b P0 g' t' L' tv' LO'/\Mv b g g'/\Ey g' ds' dsv'/\pH g' up' upv' rdv
 |.panicked c tv' dsv' upv' s'=>∃ g' t' L' LO' ds' up' c',kp c' t' L' ds' up' g'.H=some out/\g'.s=s'/\FI b P0 g' t' L' tv' LO'/\Mv b g g'/\Ey g' ds' dsv'/\pH g' up' upv' rdv/\gu g' c' c
theorem Um.trans{g':Gh}(m:Mv b g g'){rdv:Option Nat}{k:Es}{kp:List fo->Es}{r:jq}(h:Um b P0 g' rdv k kp out r):Um b P0 g rdv k kp out r:=by
 cases r with
 |on tv' dsv' upv' s' =>
  obtain⟨g2,t',L',LO',ds',up',h1,h2,h3,h4,h5⟩:=h
  exact⟨g2,t',L',LO',ds',up',h1,h2,h3,m.trans h4,h5⟩
 |panicked c tv' dsv' upv' s' =>
  obtain⟨g2,t',L',LO',ds',up',c',h1,h2,h3,h4,h5⟩:=h
  exact⟨g2,t',L',LO',ds',up',c',h1,h2,h3,m.trans h4,h5⟩
variable{rec:om}
theorem kJ{x:ag}{kr:D->DH->ag}{kp:List fo->DH->ag}(h:dP x kr kp=some out):∃ o,x=some o/\((∃ d,o.e=.ret d/\kr d o.H=some out)\/(∃ c,o.e=.pan c/\kp c o.H=some out)):=by
 unfold dP at h
 grind
theorem yb{d:Option Tmp}{ds:List pG}{H:DH}{k:Es}{up:Option eH}{upv:Option Md}{rdv:Option Nat}(e:ll d t L ds H k up=some out)(hu:pH g up upv rdv) :
 ∃ x up' v upv',k (lu t d x) L ds up' H=some out/\RS g LO x v/\pH g up' upv' rdv/\∀(tv:T V) (dsv:List eh) (s:S) (kv:RK),recovered d tv dsv s kv upv=kv (putD tv d v) dsv upv' s:=by
 unfold ll at e
 split at e
 ·cases e
 ·rename_i v older
  have hq:=hu.nr (fun o q=>by cases q)
  clear hu
  obtain⟨rfl,hu⟩:=hq
  obtain⟨m',rfl,c',rfl,y,c2,rfl,k1,k2,k3⟩:=hu
  obtain⟨yv,yr⟩:=y
  simp only at k1 k2
  subst k2
  rw[cm]at e
  exact⟨.g v,_,yv,some (.panicking (⟨yv,true⟩::c2)),e,k1,pH.mk (fun o q=>by cases q) ⟨_,rfl,_,rfl,⟨yv,true⟩,c2,rfl,k1,rfl,k3⟩,fun tv dsv s kv=>by simp only[recovered,bZ]⟩
 ·rename_i m hnr hne
  have hn:Ip (some m):=fun o q=>hnr o (Option.some.inj q)
  have hq:=hu.nr hn
  clear hu
  obtain⟨rfl,hu⟩:=hq
  obtain⟨m',rfl,k1⟩:=hu
  rw[cm]at e
  refine⟨.g .nilIface,some m,.nilIface,some m',e,by show RD _ _ _;simp only[RD],pH.mk hn ⟨m',rfl,k1⟩,fun tv dsv s kv=>?_⟩
  have:∀ v older,m'≠.panicking (⟨v,false⟩::older):=fun v older q=>by
   subst q
   cases m with
   |run=>cases k1
   |returning=>cases k1
   |round o=>exact k1
   |panicking c =>
    obtain⟨c',q1,k2⟩:=k1
    cases q1
    cases c with
    |nil=>cases k2
    |cons x xs =>
     obtain⟨y,c2,q2,k3,k4,k5⟩:=k2
     cases q2
     obtain⟨xv,xr⟩:=x
     simp_all
  unfold recovered
  split
  ·rename_i q;exact(this _ _ (Option.some.inj q)).elim
  ·rename_i q;cases q;simp only[bZ]
  ·rename_i q;cases q
 ·cases e
theorem eU{rdv:Option Nat}(hrec:Gy E.E rec){ops:Array Oper}{k:Es}{kp:List fo->Es}:∀ {l:List Oper} {t:T LD} {L:LS} {ds:List pG} {up:Option eH} {g:Gh} {LO:List Nat} {tv:T V} {dsv:List eh} {upv:Option Md},
 nJ E an ops rec l k kp t L ds up g.H=some out->FI b P0 g t L tv LO->Ey g ds dsv->pH g up upv rdv ->
 ∃ r,oV E.E ops (bv (lim E.E)) (dV (lim E.E)) rdv l tv dsv upv g.s=some r/\Um b P0 g rdv k kp out r
 |[],t,L,ds,up,g,LO,tv,dsv,upv,e,h,hd,hu=>⟨_,rfl,g,t,L,LO,ds,up,e,rfl,h,.refl b g,hd,hu⟩
 |o::l,t,L,ds,up,g,LO,tv,dsv,upv,e,h,hd,hu=>by
  simp only[nJ]at e
  simp only[oV]
  rcases uM e h.slots with⟨hw,t1,e,hr⟩|⟨hw,t1,e,hr⟩
  ·have h:=h.rf hr
   rw[hw]
   obtain⟨t2,x,nx,e,h1,hr2,hs⟩:=AG o.op h e
   have h:=h.rf hr2
   simp only[oZ,cQ,h1]
   cases x with
   |val d L' H' =>
    obtain⟨v,s',rfl,g',LO',k1,k2,k3,k4,k5,k6⟩:=hs
    have k3:=FI.rf k3 (t':=t2) hr2
    simp only[Fi,<- k1]at e
    obtain⟨x',g2,j1,j2,j3,j4,j5,_⟩:=eM k3 e k6
    rw[cm]at j1
    obtain⟨r,i1,i2⟩:=eU hrec j1 (j3.put o.dst j5) ((hd.mono k4.le).mono j4.le) ((hu.mono k4.le).mono j4.le)
    refine⟨r,?_,i2.trans (k4.trans j4)⟩
    grind [dH,bZ]
   |skip L' H' =>
    obtain⟨s',rfl,g',LO',k1,k2,k3,k4,k5,_⟩:=hs
    have k3:=FI.rf k3 (t':=t2) hr2
    simp only[Fi,<- k1,cm]at e
    obtain⟨r,i1,i2⟩:=eU hrec e (k3.put o.dst RS.u) (hd.mono k4.le) (hu.mono k4.le)
    refine⟨r,?_,i2.trans k4⟩
    grind [dH,bZ]
   |enter f args L' H' =>
    obtain⟨vs,rfl,rfl,rfl,k1,_⟩:=hs
    simp only[Fi]at e
    obtain⟨oc,hoc,e⟩:=kJ e
    obtain⟨vout,m1,m2⟩:=hrec.c f args none g.H oc hoc g rfl h.ok vs none k1 rfl
    obtain⟨g',n1,n2,n3,n4,n5,_⟩:=kI h m2
    obtain⟨ve,vu,vs'⟩:=vout
    simp only at n2 n5
    rcases e with⟨d,hd1,e⟩|⟨c,hd1,e⟩
    ·rw[hd1]at n5
     obtain⟨v,rfl,n6⟩:=n5
     rw[<- n1]at e
     obtain⟨x',g2,j1,j2,j3,j4,j5,_⟩:=eM (x:=.g d) n3 e n6
     rw[cm]at j1
     obtain⟨r,i1,i2⟩:=eU hrec j1 (j3.put o.dst j5) ((hd.mono n4.le).mono j4.le) ((hu.mono n4.le).mono j4.le)
     refine⟨r,?_,i2.trans (n4.trans j4)⟩
     grind [dH,bv,fh,bZ]
    ·rw[hd1]at n5
     obtain⟨c',rfl,n6⟩:=n5
     rw[<- n1]at e
     refine⟨.panicked c' tv dsv upv vs',by simp only[dH,bv,m1,fh],?_⟩
     exact⟨g',t2,L',LO,ds,up,c,e,n2,n3,n4,hd.mono n4.le,hu.mono n4.le,n6⟩
   |round or args L' H' =>
    obtain⟨vs,lb,lv,rfl,rfl,rfl,k1,ko⟩:=hs
    simp only[Fi]at e
    obtain⟨oc,hoc,e⟩:=kJ e
    obtain⟨vout,m1,m2⟩:=hrec.r or args g.H oc hoc g rfl h.ok vs lb lv k1 ko
    obtain⟨g',n1,n2,n3,n4,n5,_⟩:=kI h m2
    obtain⟨ve,vu,vs'⟩:=vout
    simp only at n2 n5
    rcases e with⟨d,hd1,e⟩|⟨c,hd1,e⟩
    ·rw[hd1]at n5
     obtain⟨v,rfl,n6⟩:=n5
     rw[<- n1]at e
     obtain⟨x',g2,j1,j2,j3,j4,j5,_⟩:=eM (x:=.g d) n3 e n6
     rw[cm]at j1
     obtain⟨r,i1,i2⟩:=eU hrec j1 (j3.put o.dst j5) ((hd.mono n4.le).mono j4.le) ((hu.mono n4.le).mono j4.le)
     refine⟨r,?_,i2.trans (n4.trans j4)⟩
     grind [dH,dV,fh,bZ]
    ·rw[hd1]at n5
     obtain⟨c',rfl,n6⟩:=n5
     rw[<- n1]at e
     refine⟨.panicked c' tv dsv upv vs',by simp only[dH,dV,m1,fh],?_⟩
     exact⟨g',t2,L',LO,ds,up,c,e,n2,n3,n4,hd.mono n4.le,hu.mono n4.le,n6⟩
   |defer df L' H' =>
    obtain⟨c,a,rfl,rfl,rfl,k1,k2,_⟩:=hs
    simp only[Fi,cm]at e
    obtain⟨hn,e⟩:=lA e
    obtain⟨rfl,_⟩:=hu.nr hn
    obtain⟨r,i1,i2⟩:=eU hrec e (h.put o.dst RS.u) (dsv:=.call (.func df.fn) c a::dsv) ⟨c,a,dsv,rfl,k1,k2,hd⟩ hu
    grind [dH,Option.isSome_none,bZ]
   |recover L' H' =>
    obtain⟨rfl,rfl,rfl⟩:=hs
    simp only[Fi]at e
    obtain⟨x,up',v,upv',e,k1,k2,k3⟩:=yb (LO:=LO) e hu
    obtain⟨r,i1,i2⟩:=eU hrec e (h.put o.dst k1) hd k2
    grind [only,dH]
   |panic v L' H' =>
    obtain⟨w,rfl,rfl,rfl,k1⟩:=hs
    simp only[Fi]at e
    exact⟨_,rfl,g,t2,L',LO,ds,up,_,e,rfl,h,.refl b g,hd,hu,⟨w,false⟩,[],rfl,k1,rfl,rfl⟩
  ·have h:=h.rf hr
   rw[hw]
   rw[cm]at e
   obtain⟨r,i1,i2⟩:=eU hrec e (h.put o.dst RS.u) hd hu
   grind [only,oZ,bZ]
end Go.AI
set_option linter.all false
noncomputable section
namespace Go.AI
variable[ft]
variable{b:Nat}{P0:List Nat}{g:Gh}{LO:List Nat}{t:T LD}{L:LS}{tv:T V}{out:gI}{E:cw}{an:gJ}
structure fp where
 L:LS
 g:Gh
 LO:List Nat
def GC(c:fp):Prop:=Ok c.g/\LR c.g c.L c.LO
def tM(b:Nat)(x y:fp):Prop:=Mv b x.g y.g/\Ca x.g x.L x.LO y.g y.L y.LO
theorem tM.refl(b:Nat)(x:fp):tM b x x:=⟨.refl b _,.refl _ _ _⟩
theorem tM.trans{x y z:fp}(h:tM b x y)(k:tM b y z):tM b x z:=⟨h.1.trans k.1,h.2.trans k.2⟩
def iq(b:Nat)(cur:fp):List fp->Prop
 |[]=>True
 |c::r=>GC c/\tM b c cur/\iq b c r
theorem iq.step{x y:fp}(h:tM b x y):∀ {l:List fp},iq b x l->iq b y l
 |[],_=>trivial
 |c::r,k=>⟨k.1,k.2.1.trans h,k.2.2⟩
theorem iq.at:∀ {l:List fp} {x:fp},iq b x l->∀ {p:Nat} {c:fp},l[p]? = some c->GC c/\tM b c x
 |[],x,_,p,c,h=>by simp at h
 |d::r,x,k,0,c,h=>by simp at h;subst h;exact⟨k.1,k.2.1⟩
 |d::r,x,k,p+1,c,h=>by
  obtain⟨h1,h2⟩:=iq.at k.2.2 (p:=p) (by simpa using h)
  exact⟨h1,h2.trans k.2.1⟩
theorem iq.two:∀ {l:List fp} {x:fp},iq b x l->∀ {p q:Nat} {c d:fp},l[p]? = some c->l[q]? = some d->p<=q->tM b d c
 |[],x,_,p,q,c,d,h,_,_=>by simp at h
 |e::r,x,k,0,0,c,d,h,h2,_=>by
  have h:e=c:=by simpa using h
  have h2:e=d:=by simpa using h2
  subst h;subst h2;exact .refl b _
 |e::r,x,k,0,q+1,c,d,h,h2,_=>by
  have h:e=c:=by simpa using h
  subst h
  exact(iq.at k.2.2 (p:=q) (by simpa using h2)).2
 |e::r,x,k,p+1,0,c,d,h,h2,hq=>by omega
 |e::r,x,k,p+1,q+1,c,d,h,h2,hq=>iq.two k.2.2 (p:=p) (q:=q) (by simpa using h) (by simpa using h2) (by omega)
theorem RS.nxt{x y:fp}(h:tM b x y){d:LD}{v:V}(r:RS x.g x.LO d v):RS y.g y.LO d v:=(r.mono h.1.le).ext h.2.pre
def Ws(cs:List fp)(bs:T Nat)(g:Gh)(LO:List Nat)(i:Nat)(x:LD)(v:V):Prop:=RS g LO x v/\∀(p:Nat) c,cs[p]? = some c->sQ bs i+p<cs.length->RS c.g c.LO x v
def pI(cs:List fp)(bs:T Nat)(t:T LD)(tv:T V)(g:Gh)(LO:List Nat):Prop:=∀ i x,t.get (eB i)=some x->∃ v,tv.get (eB i)=some v/\Ws cs bs g LO i x v
theorem pI.rf{cs:List fp}{bs:T Nat}{t':T LD}(r:Rf t t' tv)(h:pI cs bs t tv g LO):pI cs bs t' tv g LO:=r (Ws cs bs g LO) (fun i q=>⟨by show RD _ _ _;simp only[RD],fun p c _ _=>by show RD _ _ _;simp only[RD]⟩) h
theorem pI.nxt{cs:List fp}{bs:T Nat}{x y:fp}(h:tM b x y)(k:pI cs bs t tv x.g x.LO):pI cs bs t tv y.g y.LO:=fun i z hz=>by
 obtain⟨v,h1,h2,h3⟩:=k i z hz
 exact⟨v,h1,h2.nxt h,h3⟩
def yS(bs:T Nat)(d:Option Tmp)(n:Nat):T Nat:=match d with
 |some i=>T.set (some n) (eB i) bs
 |none=>bs
theorem fg{β:Type}(bs:T Nat)(d:Option Tmp)(n:Nat)(κ:T Nat->β):KY bs d n κ=κ (yS bs d n):=by
 cases d with
 |none=>rfl
 |some i=>exact T.setQ_eq _ _ _ _
theorem pI.put{cs:List fp}{bs:T Nat}(h:pI cs bs t tv g LO)(d:Option Tmp){x:LD}{v:V}{n:Nat}(r:RS g LO x v)(hb:∀(p:Nat) c,cs[p]? = some c->n+p<cs.length->RS c.g c.LO x v):pI cs (yS bs d n) (lu t d x) (putD tv d v) g LO:=by
 cases d with
 |none=>exact h
 |some i =>
  intro j y hy
  simp only[lu]at hy
  rw[T.get_setN]at hy
  rw[Dg]
  split at hy
  ·rename_i e
   cases hy;subst e
   rw[if_pos rfl]
   refine⟨v,rfl,r,fun p c hc hp=>hb p c hc ?_⟩
   grind [only,sQ,yS,T.get_set_same]
  ·rename_i e
   rw[if_neg e]
   obtain⟨w,h1,h2,h3⟩:=h j y hy
   refine⟨w,h1,h2,fun p c hc hp=>h3 p c hc ?_⟩
   grind [only,sQ,yS,T.get_setN]
theorem pI.push{cs:List fp}{bs:T Nat}{c:fp}(h:pI cs bs t tv c.g c.LO):pI (c::cs) bs t tv c.g c.LO:=fun i x hx=>by
 obtain⟨v,h1,h2,h3⟩:=h i x hx
 refine⟨v,h1,h2,fun p d hd hp=>?_⟩
 grind
theorem xy{bs:T Nat}:∀ {l:List Tmp} {i:Tmp},i∈l->sQ bs i<=fl bs l
 |j::r,i,h=>by
  simp only[fl]
  rcases List.mem_cons.1 h with rfl|h
  ·grind
  ·exact Nat.le_trans (xy h) (Nat.le_max_right _ _)
theorem pI.op{cs:List fp}{bs:T Nat}(h:pI cs bs t tv g LO){o:Oper}{x:Operand}(hx:x∈o.op.operands.toList){p:Nat}{c:fp}(hc:cs[p]? = some c)(hb:fl bs (sees o)+p<cs.length):uI c.g c.LO t tv x:=by
 intro y hy
 cases x with
 |tmp i =>
  obtain⟨v,h1,h2,h3⟩:=h i y hy
  refine⟨v,h1,h3 p c hc ?_⟩
  have:sQ bs i<=fl bs (sees o):=xy (by unfold sees;rw[List.mem_filterMap];exact⟨_,hx,rfl⟩)
  omega
 |const k =>
  simp only[gq]at hy
  split at hy
  ·rename_i v hv
   split at hy
   ·rename_i d hd;cases hy;exact⟨v,hv,MA hd⟩
   ·cases hy
  ·cases hy
 |global _=>cases hy
 |func f=>cases hy;exact⟨_,rfl,by show RD _ _ _;simp only[RD];exact⟨[],[],rfl,by simp only[RL],by simp only[RL]⟩⟩
theorem AU:∀ {L M:LS} {k st:Nat} {cs:List D},(eX.meet L M)[k]? = some (st,cs)->∃ cs0,L[k]? = some (st,cs0)/\(cs=[]\/(cs=cs0/\∃ c2,M[k]? = some (st,c2)))
 |[],M,k,st,cs,h=>by simp[eX.meet]at h
 |(a,c0)::l,[],0,st,cs,h=>by
  simp[eX.meet]at h
  grind
 |(a,c0)::l,[],k+1,st,cs,h=>by
  simp only[eX.meet,List.getElem?_cons_succ]at h
  obtain⟨cs0,h1,h2⟩:=AU h
  grind
 |(a,c0)::l,(b,c1)::m,0,st,cs,h=>by
  simp only[eX.meet]at h
  cases hb:Nat.beq a b with
  |true =>
   simp_all
  |false =>
   grind
 |(a,c0)::l,(b,c1)::m,k+1,st,cs,h=>by
  have h':(eX.meet l m)[k]? = some (st,cs):=by
   simp only[eX.meet]at h
   grind
  simp_all[AU]
theorem sN:∀ {r:List (LS×DH)} {L:LS} {k st:Nat} {cs:List D},(eX L r)[k]? = some (st,cs)->∃ cs0,L[k]? = some (st,cs0)/\(cs=[]\/(cs=cs0/\∀ M∈r,∃ c2,M.1[k]? = some (st,c2)))
 |[],L,k,st,cs,h=>⟨cs,h,.inr ⟨rfl,fun M hM=>by cases hM⟩⟩
 |(M,H)::r,L,k,st,cs,h=>by
  simp only[eX]at h
  obtain⟨cs1,h1,h2⟩:=sN h
  obtain⟨cs0,h3,h4⟩:=AU h1
  grind
theorem BG{r:List DH}:∀ {H:DH} {i o:Nat},(Jl r i H)[o]? =(H[o]?).map (CW r (i+o))
 |[],i,o=>by simp[Jl]
 |b::t,i,0=>by simp[Jl]
 |b::t,i,o+1=>by
  simp only[Jl,List.getElem?_cons_succ]
  rw[BG,show i+1+o=i+(o+1)by omega]
theorem Gf{H:DH}{r:List DH}{o:Nat}{x:DB}(h:(cH H r)[o]? = some x):x=.dead\/∃ st cs,x=.cells st cs/\H[o]? = some (.cells st cs)/\∀ H2∈r,H2[o]? = some (.cells st cs):=by
 rw[cH,BG,Nat.zero_add]at h
 cases hb:H[o]? with
 |none=>rw[hb]at h;cases h
 |some b =>
  rw[hb]at h
  have h:CW r o b=x:=by simpa using h
  subst h
  cases b with
  |cells st cs =>
   grind [CW]
  |_=>exact .inl rfl
mutual
theorem nc:∀ v:V,aQ.sameV v v=true
 |.bool b=>by simp[aQ.sameV]
 |.int k n=>by simp[aQ.sameV]
 |.str l=>by simp[aQ.sameV]
 |.ptr a=>by simp[aQ.sameV]
 |.nilptr=>rfl
 |.slice a z n c sz=>by simp[aQ.sameV]
 |.nilslice=>rfl
 |.map r=>by simp[aQ.sameV]
 |.nilmap=>rfl
 |.func f a b=>by simp[aQ.sameV,gi a,gi b]
 |.nilFunc=>rfl
 |.iface t v=>by simp[aQ.sameV,nc v]
 |.nilIface=>rfl
 |.agg l=>by simp[aQ.sameV,gi l]
 |.tuple l=>by simp[aQ.sameV,gi l]
 |.atom i=>by simp[aQ.sameV]
theorem gi:∀ l:List V,aQ l l=true
 |[]=>rfl
 |v::r=>by simp[aQ,nc v,gi r]
end
theorem jx{E:cV}{o:Oper}{v:V}:∀ {l:List S},l≠[]->(∀ s∈l,cC o.op E tv s=some (.val v s))->ff E tv o l=some v
 |[],h,_=>(h rfl).elim
 |[s],_,h=>by simp only[ff,cQ,h s List.mem_cons_self]
 |s::s2::r,_,h=>by
  have h2:=jx (l:=s2::r) (by simp) fun x hx=>h x (List.mem_cons_of_mem _ hx)
  grind [ff,cQ,List.mem_cons_self,aQ,nc,Bool.and_self]
theorem RS.same_at{cs:List fp}{cur:fp}(hh:iq b cur cs){x:LD}{v:V}{p:Nat}{c:fp}(hc:cs[p]? = some c)(r:RS c.g c.LO x v):RS cur.g cur.LO x v/\∀(q:Nat) d,cs[q]? = some d->q<=p->RS d.g d.LO x v :=
 ⟨r.nxt (hh.at hc).2,fun q d hd hq=>r.nxt (hh.two hd hc hq)⟩
theorem ci{α:Type}{l:List α}{i:Nat}{x:α}(h:l[i]? = some x):i<l.length:=by
 grind
theorem FK{cs:List fp}{bs:T Nat}{o:Oper}{κ:T LD->xO->ag}(hk:aD E.E.P o.op=0)(hok:Ok g)(hh:iq b ⟨L,g,LO⟩ cs)(hs:pI cs bs t tv g LO)(e:jB o.op E false t [] [] κ=some out) :
 ∃ t' d v,κ t' (.val d [] [])=some out/\cC o.op E.E tv g.s=some (.val v g.s)/\Rf t t' tv/\RS g LO d v/\∀(p:Nat) c,cs[p]? = some c->fl bs (sees o)+p<cs.length->RS c.g c.LO d v:=by
 by_cases hb:fl bs (sees o)<cs.length
 ·have hp:cs.length - 1 - fl bs (sees o)<cs.length:=by omega
  have hc:=List.getElem?_eq_getElem hp
  generalize cs[cs.length - 1 - fl bs (sees o)]=c at hc
  obtain⟨⟨h1,_⟩,h3⟩:=hh.at hc
  have ho:∀ x∈o.op.operands.toList,uI c.g c.LO t tv x:=fun x hx=>hs.op hx hc (by omega)
  obtain⟨t',d,v,k1,k2,k3,k4⟩:=lw (L:=[]) o.op (by omega) (.inr rfl) ho h1 (fun k x f hx=>by simp at hx) (dM.nil _) e
  have hst:=yY (L:=[]) (g':=g) o.op (by omega) ho h1 (fun k x f hx=>by simp at hx) (dM.nil _) rC.nil e h3.1.le (fun k y f hx=>by simp at hx) (fun o st cs f v hx=>by simp at hx) v k2
  obtain⟨r1,r2⟩:=k3.same_at hh hc
  exact⟨t',d,v,k1,hst,k4,r1,fun p c' hc' hp'=>r2 p c' hc' (by omega)⟩
 ·have ho:∀ x∈o.op.operands.toList,uI g LO t tv x:=fun x _=>yx.op (fun i y hy=>by obtain⟨v,q1,q2,_⟩:=hs i y hy;exact⟨v,q1,q2⟩) x
  obtain⟨t',d,v,k1,k2,k3,k4⟩:=lw (L:=[]) o.op (by omega) (.inr rfl) ho hok (fun k x f hx=>by simp at hx) (dM.nil _) e
  exact⟨t',d,v,k1,k2,k4,k3,fun p c hc hp=>by omega⟩
theorem LJ{P:Program}{ty:TypeId}{x:LD}{H:DH}{r:List DH}{κ:D->ag}(h:ph P ty x L H r κ=some out):(∃ o n i c,x=.g (.bptr o n i c)/\EW P ty H r o n i c κ=some out)\/jF P ty x L (cH H r) κ=some out:=by
 unfold ph at h
 split at h
 ·unfold Ox at h
  split at h
  ·grind
  ·exact .inr h
 grind
theorem KU{op:Op}{E:cw}{H:DH}{r:List DH}{κ:T LD->LD->ag}(h:KV op (fun ty x=>lD (gq t x) fun x=>ph E.E.P ty x L H r fun d=>κ t (.g d)) (jB op E false t L (cH H r) fun t x=>oS (fun t x _ _=>κ t x) t x)=some out) :
 (∃ ty x o n i c,op=.load ty x/\gq t x=some (.g (.bptr o n i c))/\EW E.E.P ty H r o n i c (fun d=>κ t (.g d))=some out)\/jB op E false t L (cH H r) (fun t x=>oS (fun t x _ _=>κ t x) t x)=some out:=by
 unfold KV at h
 split at h
 ·rename_i ty x
  dsimp only at h
  cases hx:gq t x with
  |none=>rw[hx]at h;cases h
  |some y =>
   rw[hx]at h
   simp only[lD]at h
   rcases LJ h with⟨o,n,i,c,rfl,h⟩|h
   ·exact .inl ⟨ty,x,o,n,i,c,rfl,hx,h⟩
   ·refine .inr ?_
    simp only[jB,hx,lD,oS]
    exact h
 ·exact .inr h
theorem PY{g g':Gh}{d:D}{v v':V}(hl:mj g g')(h1:JR g.H d=true)(h2:JR g'.H d=true)(r1:RD g d v)(r2:RD g' d v'):v=v':=by
 cases d with
 |buf sz o n =>
  simp only[JR]at h1 h2
  simp only[RD]at r1 r2
  rcases r1 with⟨⟨_,_,_,a1⟩,_⟩|⟨s1,c1,l1,a1,a2,a3⟩
  ·rw[a1]at h1;cases h1
  rcases r2 with⟨⟨_,_,_,b1⟩,_⟩|⟨s2,c2,l2,b1,b2,b3⟩
  ·rw[b1]at h2;cases h2
  rcases hl.buf o _ _ _ _ a1 with⟨_,_,_,d1⟩|⟨s3,c3,l3,d1,d2,d3,d4⟩
  ·rw[b1]at d1;cases d1
  rw[a1]at h1
  rw[b1]at h2
  rw[b1]at d1
  cases d1
  simp only[Bool.and_eq_true]at h1 h2
  grind [Nat.eq_of_beq_eq_true,Nat.blt,Nat.le_of_ble_eq_true]
 |nilx=>simp only[RD]at r1 r2;rw[r1,r2]
 |_=>simp[JR]at h1
theorem Ov{P:Program}{ty:TypeId}{p:D}{H:DH}{r:List DH}{κ:D->ag}(h:Th P ty p H r κ=some out):∃ d,κ d=some out/\∀ H2∈H::r,JR H2 d=true/\∀ κ':D->ag,eZ P ty p H2 κ'=κ' d:=by
 unfold Th at h
 split at h
 ·rename_i hq
  obtain⟨d,hd⟩:=hq
  exact⟨d,by rw[<- h,(hd H List.mem_cons_self).2],hd⟩
 ·cases h
theorem KT{P:Program}{ty:TypeId}{H:DH}{r:List DH}{o n i c:Nat}{κ:D->ag}(h:EW P ty H r o n i c κ=some out):∃ d,κ d=some out/\JR H d=true/\(∀ H2∈r,JR H2 d=true)/\(∀ κ':D->ag,eZ P ty (.bptr o n i c) H κ'=κ' d)/\∀ H2∈r,∀ κ':D->ag,eZ P ty (.bptr o n i c) H2 κ'=κ' d:=by
 unfold EW gF at h
 split at h
 ·rename_i sz st cap l hx
  cases hn:Nat.beq n l.length with
  |false=>rw[hn]at h;cases h
  |true =>
   rw[hn]at h
   simp only[cond_true]at h
   unfold eP at h
   split at h
   ·rename_i cs hcs
    dsimp only at h
    obtain⟨d,hd⟩:=eg _ _ _ _ _ _ h
    grind [List.mem_cons_self,List.mem_cons_of_mem,eZ,gF,eP]
   ·cases h
 ·cases h
def hD(c:fp):LS×DH:=(c.L,c.g.H)
theorem FH{cs:List fp}{bs:T Nat}{o:Oper}{w:Nat}{κ:T LD->LD->ag}(hk:aD E.E.P o.op<=1)(hns:∀ ty x lo hi mx,o.op≠.slice ty x lo hi mx)(hh:iq b ⟨L,g,LO⟩ cs)(hs:pI cs bs t tv g LO)(hw:w<=cs.length)(hb:fl bs (sees o)<=cs.length - w)(e:vq E o ((cs.map hD).take w) t κ=some out) :
 ∃ t' d v,κ t' d=some out/\ff E.E tv o ((cs.map fun c=>c.g.s).take w)=some v/\Rf t t' tv/\RS g LO d v/\∀(p:Nat) c,cs[p]? = some c->cs.length - w+p<cs.length->RS c.g c.LO d v:=by
 cases cs with
 |nil=>cases w<;>simp[vq]at e
 |cons c0 rest =>
  cases w with
  |zero=>simp[vq]at e
  |succ w =>
   rw[List.map_cons,List.take_succ_cons]at e
   simp only[vq]at e
   split at e
   ·rename_i ty x hop
    have hw2:w<(c0::rest).length:=by simp only[List.length_cons]at hw ⊢;omega
    have hc:=List.getElem?_eq_getElem hw2
    generalize(c0::rest)[w]=c at hc
    have hop':∀(q:Nat) d',(c0::rest)[q]? = some d'->q<=w->∀ x∈o.op.operands.toList,uI d'.g d'.LO t tv x:=fun q d' hd hq x hx=>hs.op hx hd (by simp only[List.length_cons]at hb hw ⊢;omega)
    have hx:x∈o.op.operands.toList:=by rw[hop];simp[Op.operands]
    obtain⟨dp,_,e,hev,_,_⟩:=jY e (hop' w c hc (Nat.le_refl _) x hx)
    split at e
    ·rename_i p
     obtain⟨d,g1,g2⟩:=Ov e
     have all:∀(q:Nat) d',(c0::rest)[q]? = some d'->q<=w->JR d'.g.H d=true/\∃ v,cC o.op E.E tv d'.g.s=some (.val v d'.g.s)/\RD d'.g d v:=fun q d' hd hq=>by
      have hm:d'.g.H∈(hD c0).2::((rest.map hD).take w).map (·.2):=by
       cases q with
       |zero =>
        have:c0=d':=by simpa using hd
        subst this
        exact List.mem_cons_self
       |succ q =>
        refine List.mem_cons_of_mem _ (List.mem_map.2 ⟨hD d',?_,rfl⟩)
        have:((rest.map hD).take w)[q]? = some (hD d'):=by rw[List.getElem?_take,if_pos (by omega),List.getElem?_map,show rest[q]? = some d' by simpa using hd];rfl
        exact List.mem_of_getElem? this
      have hf:=g2 _ hm
      refine⟨hf.1,?_⟩
      obtain⟨⟨m1,m2⟩,_⟩:=hh.at hd
      have e2:jB o.op E false t d'.L d'.g.H (fun _ y=>open Classical in if y=.val (.g d) d'.L d'.g.H then some out else none)=some out:=by
       rw[hop]
       simp only[jB,lD,hev,jF,hf.2,if_true]
      obtain⟨t',dd,v,n1,n2,n3,_⟩:=lw o.op hk (.inl hns) (hop' q d' hd hq) m1 m2.2 (dM.refl _) e2
      split at n1
      ·rename_i q1
       obtain⟨rfl,_⟩:=xO.val.inj q1
       exact⟨v,n2,n3⟩
      ·cases n1
     obtain⟨f1,v,f2,f3⟩:=all w c hc (Nat.le_refl _)
     obtain⟨r1,r2⟩:=RS.same_at (x:=.g d) hh hc f3
     refine⟨t,.g d,v,g1,?_,.refl t tv,r1,fun p c' hc' hp'=>r2 p c' hc' (by omega)⟩
     refine jx (by simp) fun s hs'=>?_
     obtain⟨q,hq⟩:=List.getElem?_of_mem hs'
     rw[List.getElem?_take]at hq
     split at hq
     ·rename_i hql
      rw[List.getElem?_map]at hq
      cases hd:(c0::rest)[q]? with
      |none=>rw[hd]at hq;cases hq
      |some d' =>
       rw[hd]at hq
       cases hq
       obtain⟨f4,v',f5,f6⟩:=all q d' hd (by omega)
       rw[PY (hh.two hd hc (by omega)).1.le f1 f4 f3 f6]
       exact f5
     ·cases hq
    ·cases e
   ·cases e
theorem FJ{cs:List fp}{bs:T Nat}{o:Oper}{w:Nat}{κ:T LD->LD->ag}(hk:aD E.E.P o.op<=1)(hns:∀ ty x lo hi mx,o.op≠.slice ty x lo hi mx)(hh:iq b ⟨L,g,LO⟩ cs)(hs:pI cs bs t tv g LO)(hw:w<=cs.length)(hb:fl bs (sees o)<=cs.length - w)(e:vt E o ((cs.map hD).take w) t κ=some out) :
 ∃ t' d v,κ t' d=some out/\ff E.E tv o ((cs.map fun c=>c.g.s).take w)=some v/\Rf t t' tv/\RS g LO d v/\∀(p:Nat) c,cs[p]? = some c->cs.length - w+p<cs.length->RS c.g c.LO d v:=by
 cases cs with
 |nil=>cases w<;>simp[vt]at e
 |cons c0 rest =>
  cases w with
  |zero=>simp[vt]at e
  |succ w =>
   rw[List.map_cons,List.take_succ_cons]at e
   simp only[vt]at e
   cases w with
   |zero =>
    rw[List.take_zero]at e
    simp only at e
    have hc:(c0::rest)[0]? = some c0:=rfl
    obtain⟨⟨h1,h2⟩,h3⟩:=hh.at hc
    have ho:∀ x∈o.op.operands.toList,uI c0.g c0.LO t tv x:=fun x hx=>hs.op hx hc (by simp only[List.length_cons]at hb ⊢;omega)
    obtain⟨t',d,v,k1,k2,k3,k4⟩:=lw o.op hk (.inl hns) ho h1 h2.2 (dM.refl _) e
    obtain⟨r1,r2⟩:=k3.same_at hh hc
    refine⟨t',d,v,k1,?_,k4,r1,fun p c' hc' hp'=>r2 p c' hc' (by omega)⟩
    simp only[List.map_cons,List.take_succ_cons,List.take_zero,ff,cQ,k2]
   |succ w =>
    have hw2:w+1<(c0::rest).length:=by simp only[List.length_cons]at hw ⊢;omega
    cases rest with
    |nil=>simp at hw2
    |cons c1 rest =>
     rw[List.map_cons,List.take_succ_cons]at e
     simp only[List.map_cons,List.map_take]at e
     have hc:=List.getElem?_eq_getElem hw2
     generalize(c0::c1::rest)[w+1]=c at hc
     have hc0:(c0::c1::rest)[0]? = some c0:=rfl
     obtain⟨⟨h1,h2⟩,h3⟩:=hh.at hc
     have ho:∀ x∈o.op.operands.toList,uI c.g c.LO t tv x:=fun x hx=>hs.op hx hc (by simp only[List.length_cons]at hb hw ⊢;omega)
     have inw:∀(q:Nat) d,(c0::c1::rest)[q]? = some d->1<=q->q<=w+1->hD d∈hD c1::(rest.map hD).take w:=fun q d hd h1 h2=>by
      cases q with
      |zero=>omega
      |succ q =>
       have hd:(c1::rest)[q]? = some d:=by simpa using hd
       have:((c1::rest).map hD |>.take (w+1))[q]? = some (hD d):=by rw[List.getElem?_take,if_pos (by omega),List.getElem?_map,hd];rfl
       grind
     have key:∀ {k st:Nat} {x:List D},(eX (hD c0).1 (hD c1::(rest.map hD).take w))[k]? = some (st,x)->x≠[]->∀(q:Nat) d,(c0::c1::rest)[q]? = some d->q<=w+1->∀ f,d.LO[k]? = some f->∃ c2,d.L[k]? = some (st,c2):=fun {k st x} hx hne q d hd hq f hf=>by
      obtain⟨x0,k1,k2⟩:=sN hx
      rcases k2 with k2|⟨rfl,k2⟩
      ·grind
      ·cases q with
       |zero =>
        have:c0=d:=by simpa using hd
        subst this;exact⟨x,k1⟩
       |succ q=>exact k2 _ (inw (q+1) d hd (by omega) hq)
     have hLw:SN c.g (eX (hD c0).1 (hD c1::(rest.map hD).take w)) c.LO:=fun k x f hx hf=>by
      obtain⟨st,x⟩:=x
      by_cases hne:x=[]
      ·subst hne
       have hkl:k<c.L.length:=by rw[h2.1];exact ci hf
       exact⟨(h2.2 k _ f (List.getElem?_eq_getElem hkl) hf).1,.inl rfl⟩
      ·obtain⟨c2,k1⟩:=key hx hne (w+1) c hc (Nat.le_refl _) f hf
       obtain⟨x0,k2,k3⟩:=sN hx
       rcases k3 with k3|⟨rfl,_⟩
       ·grind
       ·obtain⟨st',cs',j1,j2,j3⟩:=(hh.two hc0 hc (Nat.zero_le _)).2.pvn k st c2 f k1 hf
        have:(hD c0).1=c0.L:=rfl
        rw[this]at k2
        rw[k2]at j1
        cases j1
        obtain⟨rfl,_⟩:=j3 rfl
        exact h2.2 k _ f k1 hf
     have heap:∀ {o:Nat} {x:DB},(cH (hD c0).2 ((hD c1::(rest.map hD).take w).map (·.2)))[o]? = some x->x=.dead\/∃ st cs,x=.cells st cs/\∀(q:Nat) d,(c0::c1::rest)[q]? = some d->q<=w+1->d.g.H[o]? = some (.cells st cs):=fun {o x} hx=>by
      rcases Gf hx with q|⟨st,cs,rfl,q1,q2⟩
      ·exact .inl q
      grind [List.mem_map.2,hD]
     have hSub:dM (cH (hD c0).2 ((hD c1::(rest.map hD).take w).map (·.2))) c.g:=fun o x hx=>by
      grind
     have hOnly:rC (cH (hD c0).2 ((hD c1::(rest.map hD).take w).map (·.2))):=fun o x hx=>by
      grind
     have e0:KV o.op (fun ty x=>lD (gq t x) fun x=>ph E.E.P ty x (eX (hD c0).1 (hD c1::(rest.map hD).take w)) (hD c0).2 ((hD c1::(rest.map hD).take w).map (·.2)) fun d=>κ t (.g d)) (jB o.op E false t (eX (hD c0).1 (hD c1::(rest.map hD).take w)) (cH (hD c0).2 ((hD c1::(rest.map hD).take w).map (·.2))) (fun t x=>oS (fun t x _ _=>κ t x) t x))=some out:=by
      simp_all
     rcases KU e0 with⟨ty,x,bo,bn,bi,bc,hop,hev,eb⟩|e'
     ·obtain⟨d,g1,g2,g3,g4,g5⟩:=KT eb
      have all:∀(q:Nat) d',(c0::c1::rest)[q]? = some d'->q<=w+1->JR d'.g.H d=true/\∃ v,cC o.op E.E tv d'.g.s=some (.val v d'.g.s)/\RD d'.g d v:=fun q d' hd hq=>by
       have hf:JR d'.g.H d=true/\∀ κ':D->ag,eZ E.E.P ty (.bptr bo bn bi bc) d'.g.H κ'=κ' d:=by
        grind [List.mem_map.2,hD]
       refine⟨hf.1,?_⟩
       obtain⟨⟨m1,m2⟩,_⟩:=hh.at hd
       have e2:jB o.op E false t d'.L d'.g.H (fun _ y=>open Classical in if y=.val (.g d) d'.L d'.g.H then some out else none)=some out:=by
        grind [jB,lD,jF]
       obtain⟨t',dd,v,n1,n2,n3,_⟩:=lw o.op hk (.inl hns) (fun x hx=>hs.op hx hd (by simp only[List.length_cons]at hb hw ⊢;omega)) m1 m2.2 (dM.refl _) e2
       split at n1
       ·rename_i q1
        obtain⟨rfl,_⟩:=xO.val.inj q1
        exact⟨v,n2,n3⟩
       ·cases n1
      obtain⟨f1,v,f2,f3⟩:=all (w+1) c hc (Nat.le_refl _)
      obtain⟨r1,r2⟩:=RS.same_at (x:=.g d) hh hc f3
      refine⟨t,.g d,v,g1,?_,.refl t tv,r1,fun p c' hc' hp'=>r2 p c' hc' (by omega)⟩
      refine jx (by simp) fun s hs'=>?_
      obtain⟨q,hq⟩:=List.getElem?_of_mem hs'
      rw[List.getElem?_take]at hq
      split at hq
      ·rename_i hql
       rw[List.getElem?_map]at hq
       cases hd:(c0::c1::rest)[q]? with
       |none=>rw[hd]at hq;cases hq
       |some d' =>
        rw[hd]at hq
        cases hq
        obtain⟨f4,v',f5,f6⟩:=all q d' hd (by omega)
        rw[PY (hh.two hd hc (by omega)).1.le f1 f4 f3 f6]
        exact f5
      ·cases hq
     obtain⟨t',d,v,k1,k2,k3,k4⟩:=lw o.op hk (.inl hns) ho h1 hLw hSub e'
     obtain⟨r1,r2⟩:=k3.same_at hh hc
     refine⟨t',d,v,k1,?_,k4,r1,fun p c' hc' hp'=>r2 p c' hc' (by omega)⟩
     refine jx (by simp) fun s hs'=>?_
     obtain⟨q,hq⟩:=List.getElem?_of_mem hs'
     rw[List.getElem?_take]at hq
     split at hq
     ·rename_i hql
      rw[List.getElem?_map]at hq
      cases hd:(c0::c1::rest)[q]? with
      |none=>rw[hd]at hq;cases hq
      |some d' =>
       rw[hd]at hq
       cases hq
       have hn:=hh.two hd hc (by omega)
       refine yY (g':=d'.g) o.op hk ho h1 hLw hSub hOnly e' hn.1.le (fun k y f hy hf hne=>?_) (fun o' st cs f v hx hO=>?_) v k2
       ·obtain⟨st,y⟩:=y
        obtain⟨c2,m1⟩:=key hy hne (w+1) c hc (Nat.le_refl _) f hf
        obtain⟨qq,hpre⟩:=hn.2.pre
        obtain⟨c3,m2⟩:=key hy hne q d' hd (by omega) f (by rw[<- hpre];exact dX _ hf)
        obtain⟨st',cs',j1,j2,j3⟩:=hn.2.pvn k st c2 f m1 hf
        rw[m2]at j1
        cases j1
        exact(j3 rfl).2
       ·rcases heap hx with q'|⟨st',cs',q1,q2⟩
        ·cases q'
        ·cases q1
         obtain⟨s2,c2,j1,j2,j3⟩:=hn.1.stm o' st cs f v (q2 (w+1) c hc (Nat.le_refl _)) hO
         rw[q2 q d' hd (by omega)]at j1
         cases j1
         exact(j3 rfl).2
     ·cases hq
end Go.AI
set_option linter.all false
noncomputable section
namespace Go.AI
variable[ft]
variable{b:Nat}{P0:List Nat}{g:Gh}{LO:List Nat}{t:T LD}{L:LS}{tv:T V}{out:gI}{E:cw}{an:gJ}{rec:om}
theorem Ci{κ:T LD->LD->LS->DH->ag}{x:xO}(h:oS κ t x=some out):∃ d L' H',x=.val d L' H'/\κ t d L' H'=some out:=by
 unfold oS at h
 grind
theorem FI.cfg(h:FI b P0 g t L tv LO):GC ⟨L,g,LO⟩:=⟨h.ok,h.own⟩
theorem FI.sl(h:FI b P0 g t L tv LO){cs:List fp}{bs:T Nat}{t':T LD}(hs:pI cs bs t' tv g LO):FI b P0 g t' L tv LO:=⟨h.ok,fun i x hx=>by obtain⟨v,h1,h2,_⟩:=hs i x hx;exact⟨v,h1,h2⟩,h.own,h.pv,h.low,h.nd,h.bl⟩
theorem pI.of(h:yx g LO t tv)(bs:T Nat):pI [⟨L,g,LO⟩] bs t tv g LO:=fun i x hx=>by
 obtain⟨v,h1,h2⟩:=h i x hx
 refine⟨v,h1,h2,fun p c hc _=>?_⟩
 grind
theorem MD{o:Oper}(h:cuts an o=true){s s':S}{v:V}(k:cC o.op E.E tv s=some (.val v s')):s'=s:=by
 unfold cuts at h
 split at h
 ·rename_i hop
  rw[hop]at k
  simp only[cC,bp]at k
  split at k
  ·cases k;rfl
  ·cases k
 ·cases h
def JH(b:Nat)(P0:List Nat)(g:Gh)(k:T LD->LS->DH->ag)(kp:List fo->T LD->LS->DH->ag)(dsv:List eh)(upv:Option Md)(out:gI)(r:jq):Prop :=
 (∃ tv' s',r=.on tv' dsv upv s'/\∃ g' t' L' LO',k t' L' g'.H=some out/\g'.s=s'/\FI b P0 g' t' L' tv' LO'/\Mv b g g') \/
 ∃ c tv' s',r=.panicked c tv' dsv upv s'/\∃ g' t' L' LO' c',kp c' t' L' g'.H=some out/\g'.s=s'/\FI b P0 g' t' L' tv' LO'/\Mv b g g'/\gu g' c' c
theorem JH.trans{g':Gh}(m:Mv b g g'){k:T LD->LS->DH->ag}{kp:List fo->T LD->LS->DH->ag}{dsv:List eh}{upv:Option Md}{r:jq}(h:JH b P0 g' k kp dsv upv out r):JH b P0 g k kp dsv upv out r:=by
 rcases h with⟨tv',s',h0,g2,t',L',LO',h1,h2,h3,h4⟩|⟨c,tv',s',h0,g2,t',L',LO',c',h1,h2,h3,h4,h5⟩
 ·exact .inl ⟨tv',s',h0,g2,t',L',LO',h1,h2,h3,m.trans h4⟩
 ·exact .inr ⟨c,tv',s',h0,g2,t',L',LO',c',h1,h2,h3,m.trans h4,h5⟩
theorem FI.drop{g:Gh}{t:T LD}{L:LS}{tv:T V}{LO:List Nat}(h:FI b P0 g t L tv LO)(d:Tmp):FI b P0 g (t.setQ none (eB d) id) L (DF tv (some d)) LO:=by
 refine⟨h.ok,fun i x hx=>?_,h.own,h.pv,h.low,h.nd,h.bl⟩
 rw[T.setQ_eq]at hx
 simp only[DF,T.setK_eq,id]at hx ⊢
 rw[T.get_setN]at hx ⊢
 split at hx
 ·cases hx
 ·rename_i e;rw[if_neg e];exact h.slots i x hx
theorem oU(hrec:Gy E.E rec){ops:Array Oper}{k:T LD->LS->DH->ag}{kp:List fo->T LD->LS->DH->ag}{dsv:List eh}{upv:Option Md}:∀ {sc:List (Option Nat×Nat)} {cs:List fp} {n:Nat} {bs:T Nat} {t:T LD} {L:LS} {g:Gh} {LO:List Nat} {tv:T V},
 fU E an ops rec k kp sc (cs.map hD) n bs t L g.H=some out->n=cs.length->FI b P0 g t L tv LO->iq b ⟨L,g,LO⟩ cs->pI cs bs t tv g LO ->
 ∃ r,gz E.E ops (bv (lim E.E)) dsv upv sc (cs.map fun c=>c.g.s) tv g.s=some r/\JH b P0 g k kp dsv upv out r
 |[],cs,n,bs,t,L,g,LO,tv,e,hn,h,hh,hs=>⟨_,rfl,.inl ⟨tv,g.s,rfl,g,t,L,LO,e,rfl,h,.refl b g⟩⟩
 |(c,i)::sc,cs,n,bs,t,L,g,LO,tv,e,hn,h,hh,hs=>by
  simp only[fU]at e
  simp only[gz]
  split at e
  ·cases e
  ·rename_i o ho
   (try rw[ho])
   (try simp only)
   have on:∀ {t1:T LD} {x:LD} {v:V} {m:Nat} {L1:LS} {g1:Gh} {LO1:List Nat},FI b P0 g1 t1 L1 tv LO1->tM b ⟨L,g,LO⟩ ⟨L1,g1,LO1⟩->pI cs bs t1 tv g LO->RS g1 LO1 x v->(∀(p:Nat) c,cs[p]? = some c->m+p<cs.length->RS c.g c.LO x v) ->
    fU E an ops rec k kp sc (cs.map hD) n (yS bs o.dst m) (lu t1 o.dst x) L1 g1.H=some out ->
    ∃ r,gz E.E ops (bv (lim E.E)) dsv upv sc (cs.map fun c=>c.g.s) (putD tv o.dst v) g1.s=some r/\JH b P0 g k kp dsv upv out r:=fun {t1 x v m L1 g1 LO1} h1 hx hs1 hr hm e1=>by
    have hs2:pI cs bs t1 tv g1 LO1:=pI.nxt (x:=⟨L,g,LO⟩) (y:=⟨L1,g1,LO1⟩) hx hs1
    obtain⟨r,k1,k2⟩:=oU hrec e1 hn (h1.put o.dst hr) (hh.step hx) (hs2.put o.dst hr hm)
    exact⟨r,k1,k2.trans hx.1⟩
   have on2:∀ {t1:T LD} {x:LD} {v:V} {L1:LS} {g1:Gh} {LO1:List Nat} {m:Nat},FI b P0 g1 t1 L1 tv LO1->tM b ⟨L,g,LO⟩ ⟨L1,g1,LO1⟩->pI cs bs t1 tv g LO->RS g1 LO1 x v->(∀(p:Nat) c,(⟨L1,g1,LO1⟩::cs)[p]? = some c->m+p<cs.length+1->RS c.g c.LO x v) ->
    fU E an ops rec k kp sc ((L1,g1.H)::cs.map hD) (n+1) (yS bs o.dst m) (lu t1 o.dst x) L1 g1.H=some out ->
    ∃ r,gz E.E ops (bv (lim E.E)) dsv upv sc (g1.s::cs.map fun c=>c.g.s) (putD tv o.dst v) g1.s=some r/\JH b P0 g k kp dsv upv out r:=fun {t1 x v L1 g1 LO1 m} h1 hx hs1 hr hm e1=>by
    have hs2:pI cs bs t1 tv g1 LO1:=pI.nxt (x:=⟨L,g,LO⟩) (y:=⟨L1,g1,LO1⟩) hx hs1
    have hs3:pI (⟨L1,g1,LO1⟩::cs) bs t1 tv g1 LO1:=pI.push (c:=⟨L1,g1,LO1⟩) hs2
    obtain⟨r,k1,k2⟩:=oU hrec (cs:=⟨L1,g1,LO1⟩::cs) e1 (by simp[hn]) (h1.put o.dst hr) ⟨h1.cfg,.refl b _,hh.step hx⟩ (hs3.put o.dst hr hm)
    exact⟨r,k1,k2.trans hx.1⟩
   cases c with
   |some c =>
    simp only at e
    rcases uM e h.slots with⟨hw,t1,e,hr⟩|⟨hw,t1,e,hr⟩
    ·have hs1:=hs.rf hr
     have h1:=h.sl hs1
     rw[hw]
     simp only[jc]
     cases hk:aD E.E.P o.op with
     |zero =>
      rw[hk]at e
      simp only[pt]at e
      cases hq:cuts an o with
      |true =>
       rw[hq]at e
       dsimp only at e
       obtain⟨t2,x,nx,e,k1,k2,k3⟩:=AG o.op h1 e
       have hs2:=hs1.rf k2
       obtain⟨d,L',H',hx',e'⟩:=Ci e
       subst hx'
       clear e
       obtain⟨v,s',rfl,g1,LO1,m1,m2,m3,m4,m5,m6⟩:=k3
       obtain rfl:=MD hq k1
       have m3:=m3.rf k2
       rw[<- m1]at e'
       have e:=e'
       obtain⟨x',g2,j1,j2,j3,j4,j5,j6⟩:=eM m3 e m6
       rw[cm,fg]at j1
       have hx:tM b ⟨L,g,LO⟩ ⟨L',g2,LO1⟩:=tM.trans (y:=⟨L',g1,LO1⟩) ⟨m4,m5⟩ ⟨j4,.ps j2⟩
       grind [kB,cQ,pN,ci]
      |false =>
      rw[hq]at e
      dsimp only at e
      obtain⟨t2,d,v,e,k1,k2,k3,k4⟩:=FK hk h1.ok hh hs1 e
      have hs2:=hs1.rf k2
      have h2:=h1.sl hs2
      simp only[oS]at e
      obtain⟨x',g2,j1,j2,j3,j4,j5,j6⟩:=eM h2 e k3
      rw[cm,fg]at j1
      have hx:tM b ⟨L,g,LO⟩ ⟨L,g2,LO⟩:=⟨j4,.ps j2⟩
      grind [kB,cQ,pN,ci]
     |succ q =>
      cases q with
      |zero =>
       have hns:∀ ty x lo hi mx,o.op≠.slice ty x lo hi mx:=fun _ _ _ _ _ q=>by rw[q]at hk;simp[aD]at hk
       rw[hk]at e
       simp only[pt]at e
       obtain⟨hc,e⟩:=aC e
       simp only[Bool.and_eq_true]at hc
       subst hn
       have hfl:∀ {κ:T LD->LD->ag},(match oG an o.dst with|true=>vq|false=>vt) E o ((cs.map hD).take c) t1 κ=some out->∃ t' d v,κ t' d=some out/\ff E.E tv o ((cs.map fun c=>c.g.s).take c)=some v/\Rf t1 t' tv/\RS g LO d v/\∀(p:Nat) c',cs[p]? = some c'->cs.length - c+p<cs.length->RS c'.g c'.LO d v:=fun {κ} e=>by
        cases hx:oG an o.dst
        ·rw[hx]at e
         exact FJ (by omega) hns hh hs1 (Nat.le_of_ble_eq_true hc.2) (Nat.le_of_ble_eq_true hc.1) e
        ·rw[hx]at e
         exact FH (by omega) hns hh hs1 (Nat.le_of_ble_eq_true hc.2) (Nat.le_of_ble_eq_true hc.1) e
       obtain⟨t2,d,v,e,k1,k2,k3,k4⟩:=hfl e
       have hs2:=hs1.rf k2
       have h2:=h1.sl hs2
       obtain⟨x',g2,j1,j2,j3,j4,j5,j6⟩:=eM h2 e k3
       rw[cm,fg]at j1
       have hx:tM b ⟨L,g,LO⟩ ⟨L,g2,LO⟩:=⟨j4,.ps j2⟩
       grind [kB,qj]
      |succ q =>
       cases q with
       |zero =>
        rw[hk]at e
        simp only[pt]at e
        obtain⟨t2,x,nx,e,k1,k2,k3⟩:=AG o.op h1 e
        have hs2:=hs1.rf k2
        obtain⟨d,L',H',hx',e'⟩:=Ci e
        subst hx'
        clear e
        obtain⟨v,s',rfl,g1,LO1,m1,m2,m3,m4,m5,m6⟩:=k3
        have m3:=m3.rf k2
        rw[<- m1]at e'
        have e:=e'
        obtain⟨x',g2,j1,j2,j3,j4,j5,j6⟩:=eM m3 e m6
        rw[cm,fg]at j1
        have hx:tM b ⟨L,g,LO⟩ ⟨L',g2,LO1⟩:=tM.trans (y:=⟨L',g1,LO1⟩) ⟨m4,m5⟩ ⟨j4,.ps j2⟩
        grind [kB,cQ,ud,ci]
       |succ q=>rw[hk]at e;simp only[pt]at e;cases e
    ·have hs1:=hs.rf hr
     have h1:=h.sl hs1
     rw[hw]
     simp only[jc]
     rw[cm,fg]at e
     exact on h1 (.refl b _) hs1 RS.u (fun p c _ _=>rfl) e
   |none =>
    simp only at e
    rcases uM e h.slots with⟨hw,t1,e,hr⟩|⟨hw,t1,e,hr⟩
    ·have hs1:=hs.rf hr
     have h1:=h.sl hs1
     rw[hw]
     obtain⟨t2,x,nx,e,k1,k2,k3⟩:=AG o.op h1 e
     have hs2:=hs1.rf k2
     have h2:=h1.sl hs2
     simp only[gh,cQ,k1]
     have born:∀ {L1:LS} {g1:Gh} {LO1:List Nat} {x:LD} {v:V},RS g1 LO1 x v->∀(p:Nat) c,(⟨L1,g1,LO1⟩::cs)[p]? = some c->n+p<cs.length+1->RS c.g c.LO x v:=fun {L1 g1 LO1 x v} hr p c hc hp=>by
      grind
     cases x with
     |val d L' H' =>
      obtain⟨v,s',rfl,g1,LO1,m1,m2,m3,m4,m5,m6⟩:=k3
      have m3:=m3.rf k2
      simp only[Bu,<- m1]at e
      obtain⟨x',g2,j1,j2,j3,j4,j5,j6⟩:=eM m3 e m6
      rw[cm,fg]at j1
      have hx:tM b ⟨L,g,LO⟩ ⟨L',g2,LO1⟩:=tM.trans (y:=⟨L',g1,LO1⟩) ⟨m4,m5⟩ ⟨j4,.ps j2⟩
      have:=on2 j3 hx hs2 j5 (born j5) j1
      rw[j2,m2]at this
      have hnx:Nat.ble g.s.next s'.next=true:=Nat.ble_eq_true_of_le (by rw[<- m2];exact m4.le.next)
      obtain⟨r,a1,a2⟩:=this
      exact⟨r,by simp only[jg,hnx,cond_true];exact a1,a2⟩
     |skip L' H' =>
      obtain⟨s',rfl,g1,LO1,m1,m2,m3,m4,m5,_⟩:=k3
      have m3:=m3.rf k2
      simp only[Bu,<- m1]at e
      obtain⟨x',g2,j1,j2,j3,j4,j5,j6⟩:=eM (x:=.u) (v:=V.undef) m3 e RS.u
      rw[cm,fg]at j1
      have hx:tM b ⟨L,g,LO⟩ ⟨L',g2,LO1⟩:=tM.trans (y:=⟨L',g1,LO1⟩) ⟨m4,m5⟩ ⟨j4,.ps j2⟩
      have:=on2 j3 hx hs2 j5 (born j5) j1
      rw[j2,m2]at this
      have hnx:Nat.ble g.s.next s'.next=true:=Nat.ble_eq_true_of_le (by rw[<- m2];exact m4.le.next)
      obtain⟨r,a1,a2⟩:=this
      exact⟨r,by simp only[jg,hnx,cond_true];exact a1,a2⟩
     |enter f args L' H' =>
      obtain⟨vs,rfl,rfl,rfl,q1,_⟩:=k3
      simp only[Bu]at e
      obtain⟨oc,hoc,e⟩:=kJ e
      obtain⟨vout,m1,m2⟩:=hrec.c f args none g.H oc hoc g rfl h2.ok vs none q1 rfl
      have hkeep:=m2
      obtain⟨g1,n1,n2,n3,n4,n5,_,hpv⟩:=kI h2 m2
      obtain⟨ve,vu,vs'⟩:=vout
      simp only at n2 n5
      rcases e with⟨d,hd1,e⟩|⟨c,hd1,e⟩
      ·rw[hd1]at n5
       obtain⟨v,rfl,n6⟩:=n5
       rw[<- n1]at e
       obtain⟨x',g2,j1,j2,j3,j4,j5,_⟩:=eM (x:=.g d) n3 e n6
       rw[cm,fg]at j1
       have hx:tM b ⟨L',g,LO⟩ ⟨L',g2,LO⟩:=tM.trans (y:=⟨L',g1,LO⟩) ⟨n4,hpv⟩ ⟨j4,.ps j2⟩
       have:=on2 j3 hx hs2 j5 (born j5) j1
       rw[j2,n2]at this
       have hnx:Nat.ble g.s.next vs'.next=true:=Nat.ble_eq_true_of_le (by rw[<- n2];exact n4.le.next)
       obtain⟨r,a1,a2⟩:=this
       have m1':bv (lim E.E) f vs none g.s=some ⟨.returned v,vu,vs'⟩:=m1
       exact⟨r,by simp only[jg,m1',lL,hnx,cond_true];exact a1,a2⟩
      ·rw[hd1]at n5
       obtain⟨c',rfl,n6⟩:=n5
       have m1':bv (lim E.E) f vs none g.s=some ⟨.panicked c',vu,vs'⟩:=m1
       cases sc with
       |cons x sc=>cases e
       |nil =>
        simp only[jg,m1',lL]
        refine⟨_,rfl,.inr ⟨c',_,vs',rfl,g1,?_⟩⟩
        rw[<- n1]at e
        simp only at e
        split at e
        rotate_left
        ·cases e
        cases ho2:o.dst with
        |some d =>
         rw[ho2]at e
         simp only[HP,T.setQ_eq]at e
         have:=n3.drop d
         rw[T.setQ_eq]at this
         exact⟨_,_,_,c,e,n2,this,n4,n6⟩
        |none =>
         rw[ho2]at e
         exact⟨_,_,_,c,e,n2,n3,n4,n6⟩
     |defer _ _ _=>simp only[Bu]at e;cases e
     |recover _ _=>simp only[Bu]at e;cases e
     |panic _ _ _=>simp only[Bu]at e;cases e
     |round _ _ _ _=>simp only[Bu]at e;cases e
    ·have hs1:=hs.rf hr
     have h1:=h.sl hs1
     rw[hw]
     rw[cm,fg]at e
     have:=on2 h1 (.refl b _) hs1 (x:=.u) (v:=V.undef) RS.u (fun p c _ _=>rfl) e
     obtain⟨r,a1,a2⟩:=this
     exact⟨r,by simp only[gh,Nat.ble_eq_true_of_le (Nat.le_refl _),cond_true];exact a1,a2⟩
end Go.AI
set_option linter.all false
noncomputable section
namespace Go.AI
variable[ft]
variable{b:Nat}{P0:List Nat}{g:Gh}{LO:List Nat}{t:T LD}{L:LS}{tv:T V}{out:gI}{E:cw}{an:gJ}{rec:om}
structure Nj(E:cw):Prop where
 no:∀ f,E.vo f=false->∀ vs s,E.E.orc f vs s=none
 yes:∀ f args H d H',E.orc f args H=some (d,H')->∀ g:Gh,g.H=H->Ok g->∀ vs,RL g args vs->∃ vout,lim E.E (.call f vs none) g.s=some vout/\iJ g.s.next g.Pv g ⟨.ret d,none,H'⟩ vout
def JU(E:cw)(f:FuncId)(fn:Func)(go:rF):Prop:=∀ t L todo ds m up H out,go t L todo ds m up H=some out->∀ b P0 (g:Gh) tv LO dsv mv upv rdv,g.H=H->FI b P0 g t L tv LO->Ey g ds dsv->JT g m mv->pH g up upv rdv ->
 ∃ vout,lim E.E (.frame f fn tv todo dsv mv upv rdv) g.s=some vout/\iJ b P0 g out vout
structure BY(E:cw)(R:bm):Prop where
 call:Gy E.E (vp R)
 frame:∀ f fn,JU E f fn (JQ R f fn)
theorem iJ.trans{g':Gh}{vout:eO}(m:Mv b g g')(h:iJ b P0 g' out vout):iJ b P0 g out vout:=by
 obtain⟨g2,h1,h2,h3,h4,h5,h6⟩:=h
 exact⟨g2,h1,h2,h3,h4,m.trans h5,h6⟩
theorem uW:∀ {l:List Nat} {κ:List LD->ag},uX t l κ=some out->∃ xs,κ xs=some out/\xs.length=l.length/\∀(k:Nat) i,l[k]? = some i->xs[k]? = t.get (eB i)
 |[],κ,h=>⟨[],h,rfl,fun k i hk=>by simp at hk⟩
 |j::r,κ,h=>by
  simp only[uX]at h
  unfold lD at h
  split at h
  ·rename_i x hx
   obtain⟨xs,h1,h2,h3⟩:=uW h
   grind
  ·cases h
theorem Hy:∀ {l:List Nat} {xs:List LD} {u:T LD} {i:Nat} {x:LD},(PQ l xs u).get (eB i)=some x->(∃(k:Nat),l[k]? = some i/\xs[k]? = some x)\/u.get (eB i)=some x
 |[],xs,u,i,x,h=>by cases xs<;>exact .inr h
 |j::r,[],u,i,x,h=>.inr h
 |j::r,y::xs,u,i,x,h=>by
  simp only[PQ]at h
  rcases Hy h with⟨k,h1,h2⟩|h
  ·exact .inl ⟨k+1,by simpa using h1,by simpa using h2⟩
  ·rw[T.setQ_eq,id,T.get_setN]at h
   split at h
   ·rename_i e;cases h;exact .inl ⟨0,by simp[e],rfl⟩
   grind
theorem CV{ks:List Nat}:∀ {L:LS} {i k:Nat} {x:Nat×List D},(qI ks i L)[k]? = some x->∃ st cs,L[k]? = some (st,cs)/\(x.2=[]\/x.2=cs)
 |[],i,k,x,h=>by simp[qI]at h
 |(st,cs)::r,i,0,x,h=>by
  grind [qI]
 |(st,cs)::r,i,k+1,x,h=>by
  simp only[qI,List.getElem?_cons_succ]at h
  obtain⟨s2,c2,h1,h2⟩:=CV h
  grind
theorem zl{ks:List Nat}:∀ {L:LS} {i:Nat},(qI ks i L).length=L.length
 |[],_=>rfl
 |(_,_)::r,i=>by simp[qI,zl (L:=r)]
def Gh.pvd(g:Gh)(P0:List Nat):Gh:=⟨g.O,g.H,P0,g.s⟩
theorem AY(hs:∀ f∈P0,f∈g.Pv):mj g (g.pvd P0):=⟨Nat.le_refl _,fun _ _ v h=>⟨v,h⟩,fun _ _ st cap l h=>.inr ⟨st,cap,l,h,Nat.le_refl _,id,fun _=>⟨rfl,rfl⟩⟩,fun _ _ s l h=>⟨s,l,h,Nat.le_refl _,fun _=>⟨rfl,rfl⟩⟩,fun _ h=>⟨h.1,fun hm=>h.2.1 (hs _ hm),h.2.2⟩,fun _ _ _ _ h=>h,Nat.le_refl _⟩
theorem CQ{n:Nat}:∀ {xs:List LD} {i k c:Nat},ze n xs=true->xs[i]? = some (.lp k c)->k<n
 |x::r,0,k,c,h,hi=>by
  simp_all[ze,Bool.and_eq_true,nu]
 |x::r,i+1,k,c,h,hi=>by
  simp only[ze,Bool.and_eq_true]at h
  exact CQ h.2 (i:=i) (by simpa using hi)
 |[],i,k,c,h,hi=>by simp at hi
theorem Ok.pvd(h:Ok g)(hs:∀ f∈P0,f∈g.Pv):Ok (g.pvd P0):=⟨h.len,h.wf,h.inj,fun o f v ho=>⟨(h.lt o f v ho).1,fun hm=>(h.lt o f v ho).2 (hs f hm)⟩,fun f hf=>h.pv f (hs f hf),fun o x hx=>(h.obj o x hx).keep (AY hs) rfl fun _ _ _=>rfl,h.gl.to fun f h1 hp ho=>⟨rfl,h1,fun hm=>hp (hs f hm),ho⟩⟩
theorem Mv.pvd(hs:∀ f∈P0,f∈g.Pv):Mv b g (g.pvd P0):=⟨AY hs,fun _ _ _=>rfl,fun _ _ v h _=>⟨v,h⟩,fun _ s1 c1 _ _ h _=>⟨s1,c1,h,Nat.le_refl _,fun _=>⟨rfl,rfl⟩⟩⟩
theorem Jk{f:FuncId}{fn:Func}{ih go:rF}(h1:JU E f fn ih)(h2:JU E f fn go):JU E f fn (DP an ih go):=by
 intro t L todo ds m up H out e b P0 g tv LO dsv mv upv rdv hH hf hd hm hu
 have hgo:go t L todo ds m up H=some out->∃ vout,lim E.E (.frame f fn tv todo dsv mv upv rdv) g.s=some vout/\iJ b P0 g out vout:=fun e=>h2 _ _ _ _ _ _ _ _ e b P0 g tv LO dsv mv upv rdv hH hf hd hm hu
 unfold DP at e
 split at e
 ·split at e
  ·rename_i live ks _
   obtain⟨xs,e,_,hx⟩:=uW e
   cases hlp:ze (mQ ks) xs with
   |false=>rw[hlp]at e;cases e
   |true =>
   rw[hlp]at e
   dsimp only at e
   have hs:∀ f∈P0++LO.take (mQ ks),f∈g.Pv:=fun f hf'=>by
    rw[hf.pv]
    grind
   have hle:=AY (g:=g) hs
   have hfi:FI b P0 (g.pvd (P0++LO.take (mQ ks))) (PQ live xs .leaf) (qI ks 0 (L.take (mQ ks))) tv (LO.take (mQ ks)):=by
    refine⟨hf.ok.pvd hs,fun i x hi=>?_,⟨by rw[zl,List.length_take,List.length_take,hf.own.1],fun k x f' hk hf'=>?_⟩,rfl,fun f hf'=>hf.low f (List.mem_of_mem_take hf'),hf.nd.sublist (List.take_sublist _ _),hf.bl⟩
    ·rcases Hy hi with⟨k,q1,q2⟩|q
     ·have q3:=q2
      rw[hx k i q1]at q2
      obtain⟨v,q4,q5⟩:=hf.slots i x q2
      refine⟨v,q4,?_⟩
      cases x with
      |g d=>exact RD.mono hle q5
      |lp k' c =>
       obtain⟨f,q6,q7⟩:=q5
       exact⟨f,by rw[List.getElem?_take_of_lt (CQ hlp q3)];exact q6,q7⟩
      |u=>exact q5
     grind [T.get_leaf]
    ·obtain⟨st,cs,q1,q2⟩:=CV hk
     have hlt:k<mQ ks:=by
      grind
     rw[List.getElem?_take_of_lt hlt]at q1
     have hf2:=hf'
     rw[List.getElem?_take_of_lt hlt]at hf2
     obtain⟨q3,q4⟩:=hf.own.2 k _ f' q1 hf2
     refine⟨List.mem_append_right _ (List.mem_of_getElem? hf'),?_⟩
     rcases q2 with q2|q2
     ·exact .inl q2
     ·rw[q2]
      rcases q4 with q4|⟨el,vs,w1,w2,w3⟩
      ·exact .inl q4
      ·exact .inr ⟨el,vs,w1,w2.mono hle,w3⟩
   obtain⟨vout,k1,k2⟩:=h1 _ _ _ _ _ _ _ _ e b P0 (g.pvd (P0++LO.take (mQ ks))) tv _ dsv mv upv rdv hH hfi (hd.mono hle) (hm.mono hle) (hu.mono hle)
   exact⟨vout,k1,k2.trans (Mv.pvd hs)⟩
  ·exact hgo e
 ·exact hgo e
theorem NV{up:Option eH}{upv:Option Md}{rdv:Option Nat}(h:pH g up upv rdv):JG g (Lg up) upv:=by
 unfold pH at h
 unfold Lg
 split
 ·simp only at h;exact h.1
 grind
theorem FI.leave(h:FI b P0 g t L tv LO){e:Nm}{ve:Uh}{up:Option eH}{upv:Option Md}(he:SE g e ve)(hu:JG g up upv):iJ b P0 g ⟨e,up,g.H⟩ ⟨ve,upv,g.s⟩:=by
 have hs:∀ f∈P0,f∈g.Pv:=fun f hf=>by rw[h.pv];exact List.mem_append_left _ hf
 have hle:=AY (g:=g) hs
 refine⟨g.pvd P0,rfl,rfl,rfl,h.ok.pvd hs,Mv.pvd hs,?_,hu.mono hle⟩
 cases e with
 |ret d=>obtain⟨v,h1,h2⟩:=he;exact⟨v,h1,h2.mono hle⟩
 |pan c=>obtain⟨c',h1,h2⟩:=he;exact⟨c',h1,h2.mono hle⟩
theorem mC{P:Program}(h:FI b P0 g t L tv LO):∀ {l:List ResultVar} {κ:List D->ag},mD P t L g.H l κ=some out->∃ ds vs,κ ds=some out/\jw P tv g.s l=some vs/\RL g ds vs
 |[],κ,e=>⟨[],[],e,rfl,by simp only[RL]⟩
 |x::r,κ,e=>by
  simp only[mD]at e
  cases x with
  |tmp i =>
   simp only at e
   unfold gD at e
   split at e
   ·rename_i d hd
    obtain⟨v,h1,h2⟩:=h.slots i _ hd
    have h2:RD g d v:=h2
    obtain⟨ds,vs,k1,k2,k3⟩:=mC h e
    grind [only,jw,nK,RL]
   ·cases e
  |cell a ty =>
   simp only at e
   unfold lD at e
   split at e
   ·rename_i y hy
    obtain⟨w,h1,h2⟩:=h.slots a _ hy
    obtain⟨d,v,e,k1,k2⟩:=CR e (dM.refl g) h.ok h.own.2 h2
    obtain⟨ds,vs,j1,j2,j3⟩:=mC h e
    grind [only,RL,im,Option.some.inj,bp,jw,nK]
   ·cases e
theorem GY:∀ {l:List (Nat×Nat×Hk)} {g:Gh} {ds:List D} {vs:List V} {κ:List D->DH->ag},FI b P0 g t L tv LO->NO l ds g.H κ=some out->RL g ds vs->∃ ds' g',κ ds' g'.H=some out/\g'.s=g.s/\FI b P0 g' t L tv LO/\Mv b g g'/\RL g' ds' vs
 |[],g,ds,vs,κ,h,e,r=>⟨ds,g,e,rfl,h,.refl b g,r⟩
 |(i,c,k)::l,g,ds,vs,κ,h,e,r=>by
  simp only[NO]at e
  obtain⟨d,hd,e⟩:=iH e
  obtain⟨v,hv,h1⟩:=r.at hd
  obtain⟨d',g',k1,k2,k3,k4,k5⟩:=wt h e h1
  have hr:RL g' (ds.set i d') vs:=by
   have:=(r.mono k4.le).set i k5
   grind [jX]
  obtain⟨ds2,g2,j1,j2,j3,j4,j5⟩:=GY k3 k1 hr
  exact⟨ds2,g2,j1,j2.trans k2,j3,k4.trans j4,j5⟩
theorem QK{ds:List D}{vs:List V}(r:RL g ds vs):RD g (Li ds) (vJ vs):=by
 cases ds with
 |nil=>simp only[RL]at r;subst r;simp only[Li,vJ,RD];exact⟨[],rfl,by simp only[RL]⟩
 |cons d ds =>
  have r0:=r
  simp only[RL]at r
  obtain⟨v,vs',rfl,h1,h2⟩:=r
  cases ds with
  |nil=>simp only[RL]at h2;subst h2;exact h1
  |cons d2 ds =>
   simp only[RL]at h2
   obtain⟨v2,vs2,rfl,_,_⟩:=h2
   grind [Li,vJ,RD]
def uh:eH->eH
 |.panicking (⟨_,true⟩::_)=>.returning
 |m=>m
def AF(m:eH)(c:List fo):eH:=match m with
 |.panicking old=>.panicking (c++old)
 |_=>.panicking c
theorem KB{m:eH}{m':Md}(h:JT g m m'):JT g (uh m) (ix m'):=by
 cases m with
 |run=>cases h;rfl
 |returning=>cases h;rfl
 |round _=>exact h.elim
 |panicking c =>
  obtain⟨c',rfl,h1⟩:=h
  cases c with
  |nil=>cases h1;exact⟨[],rfl,rfl⟩
  |cons x xs =>
   obtain⟨y,c2,rfl,h2,h3,h4⟩:=h1
   obtain⟨xv,xr⟩:=x
   obtain⟨yv,yr⟩:=y
   simp only at h3
   subst h3
   cases xr with
   |true=>rfl
   |false=>exact⟨_,rfl,⟨yv,false⟩,c2,rfl,h2,rfl,h4⟩
theorem gu.app:∀ {a:List fo} {a':List Cb} {c:List fo} {c':List Cb},gu g a a'->gu g c c'->gu g (a++c) (a'++c')
 |[],_,c,c',h,k=>by cases h;exact k
 |x::r,_,c,c',h,k=>by
  obtain⟨y,r',rfl,h1,h2,h3⟩:=h
  exact⟨y,r'++c',rfl,h1,h2,h3.app k⟩
theorem KX{m:eH}{m':Md}{c:List fo}{c':List Cb}(h:JT g m m')(k:gu g c c'):JT g (AF m c) (ql m' c'):=by
 cases m with
 |run=>cases h;exact⟨c',rfl,k⟩
 |returning=>cases h;exact⟨c',rfl,k⟩
 |round _=>exact h.elim
 |panicking old =>
  obtain⟨o',rfl,h1⟩:=h
  exact⟨c'++o',rfl,k.app h1⟩
theorem QY{m:eH}{m':Md}(h:JT g m m'):m=.run↔m'=.run:=by
 cases m with
 |run=>cases h;exact⟨fun _=>rfl,fun _=>rfl⟩
 |returning=>cases h;exact⟨(fun q=>by cases q),(fun q=>by cases q)⟩
 |panicking c=>obtain⟨c',rfl,_⟩:=h;exact⟨(fun q=>by cases q),(fun q=>by cases q)⟩
 |round _=>exact h.elim
end Go.AI
set_option linter.all false
noncomputable section
namespace Go.AI
variable[ft]
variable{b:Nat}{P0:List Nat}{g:Gh}{LO:List Nat}{t:T LD}{L:LS}{tv:T V}{out:gI}{E:cw}{an:gJ}{rec:om}
section frame
variable{f:FuncId}{fn:Func}{go:rF}
theorem Mm{j:rE}{s:S}{o:Option eO}(h:eS E.E (lim E.E) j s=o):lim E.E j s=o:=(LH E.E j s).trans h
def GA(x:DB):Prop:=(∀ sz st cap l,x≠.buf sz st cap l)/\(∀ st cs,x≠.cells st cs)/\∀ sz s l,x≠.tbuf sz s l
theorem oY{o f ver:Nat}{x0 x:DB}{B0 B:dG}(ho:g.O[o]? = some (some (f,ver)))(hx:g.H[o]? = some x0)(hn:GA x0)(h0:g.s.get f=some B0):sY g o x f ver ver x0 B0 B :=
 ⟨ho,hx,h0,⟨(fun _ _ _ _ q=>(hn.1 _ _ _ _ q).elim),fun _ _ _ q=>(hn.2.2 _ _ _ q).elim⟩,(fun a n vs hi q _=>by
  obtain⟨sz,cap,l,k⟩:=hi.2.2 o ver (by rw[q];exact ho)
  rw[hx]at k;exact(hn.1 _ _ _ _ (Option.some.inj k)).elim),(fun _ _ q=>(hn.2.1 _ _ q).elim)⟩
theorem vF{r:Bool}{f nt:Nat}{t:T LD}{ps:Array Tmp}{a b:Code}:GA (.loop r f nt t ps a b):=⟨(fun _ _ _ _ q=>by cases q),(fun _ _ q=>by cases q),(fun _ _ _ q=>by cases q)⟩
theorem Ff:GA .coll:=⟨(fun _ _ _ _ q=>by cases q),(fun _ _ q=>by cases q),(fun _ _ _ q=>by cases q)⟩
theorem vV(hf:FI b P0 g t L tv LO){o l v:Nat}{r:Bool}{f0 nt:Nat}{t0:T LD}{ps:Array Tmp}{a b':Code}(ho:g.O[o]? = some (some (l,v)))(hH:g.H[o]? = some (.loop r f0 nt t0 ps a b')) :
 ∃ tv0 d,g.s.get l=some (.loop (bif r then .ready else .busy) none f0 tv0 ps a b' d nt)/\∀ r2:Bool,∃ g',g'.H=g.H.set o (.loop r2 f0 nt t0 ps a b')/\g'.s=g.s.put l (.loop (bif r2 then .ready else .busy) none f0 tv0 ps a b' d nt)/\FI b P0 g' t L tv LO/\Mv b g g':=by
 obtain⟨fb,tv0,d,h1,h2,h3⟩:=hf.ok.obj o _ hH
 rw[ho]at h1;cases h1
 refine⟨tv0,d,h2,fun r2=>?_⟩
 have c:sY g o (.loop r2 f0 nt t0 ps a b') l 0 0 (.loop r f0 nt t0 ps a b') _ (.loop (bif r2 then .ready else .busy) none f0 tv0 ps a b' d nt):=oY ho hH vF h2
 exact⟨_,rfl,rfl,hf.oput c ⟨l,tv0,d,aU ho,di,h3.mono (jG hf.ok c) List.prefix_rfl⟩,iA hf.ok c⟩
theorem zj(hgo:JU E f fn go){ds:List pG}{up:Option eH}{c:Option Code}(e:wd go t L ds up g.H c=some out)(hf:FI b P0 g t L tv LO){dsv:List eh}{upv:Option Md}{rdv:Option Nat}(hd:Ey g ds dsv)(hu:pH g up upv rdv) :
 ∃ vout,lC (fQ (lim E.E) f fn) tv dsv upv rdv g.s c=some vout/\iJ b P0 g out vout:=by
 unfold wd at e
 split at e
 ·split at e
  ·rename_i o
   obtain⟨rfl,l,v,rfl,ho⟩:=hu
   unfold vk at e
   split at e
   ·rename_i hH
    cases e
    obtain⟨tv0,d,h2,h3⟩:=vV hf ho hH
    obtain⟨g',k1,k2,k3,k4⟩:=h3 true
    have:=k3.leave (e:=.ret (.bool true)) (ve:=.returned (.bool true)) (up:=none) (upv:=none) ⟨_,rfl,by simp only[RD]⟩ rfl
    rw[k1]at this
    refine⟨_,?_,this.trans k4⟩
    simp only[lC,h2,k2];rfl
   ·cases e
  ·rename_i hn
   have hq:=hu.nr (fun o q=>hn o q)
   clear hu
   obtain⟨rfl,hu⟩:=hq
   exact hgo _ _ _ _ _ _ _ _ e b P0 g tv LO dsv .returning upv none rfl hf hd rfl (pH.mk (fun o q=>hn o q) hu)
 ·obtain⟨hn,e⟩:=lA e
  have hq:=hu.nr hn
  clear hu
  obtain⟨rfl,hu⟩:=hq
  exact hgo _ _ _ _ _ _ _ _ e b P0 g tv LO dsv .returning upv none rfl hf hd rfl (pH.mk hn hu)
 ·cases e
theorem CX(hgo:JU E f fn go){ds:List pG}{up:Option eH}{k:Option (List Item)}(c:Code)(e:zm go t L ds up g.H k=some out)(hf:FI b P0 g t L tv LO){dsv:List eh}{upv:Option Md}{rdv:Option Nat}(hd:Ey g ds dsv)(hu:pH g up upv rdv) :
 ∃ vout,pm (fQ (lim E.E) f fn) tv dsv upv rdv g.s c k=some vout/\iJ b P0 g out vout:=by
 unfold zm at e
 split at e
 ·exact hgo _ _ _ _ _ _ _ _ e b P0 g tv LO dsv .run upv rdv rfl hf hd rfl hu
 ·cases e
theorem IC(hgo:JU E f fn go)(hrec:Gy E.E rec){k:List Item}{ds:List pG}{up:Option eH}{ps:Array Tmp}{a b':Code}{d:D}{v:V}(e:AD f fn.ntmps go rec k t L ds up g.H ps a b' d=some out)(hf:FI b P0 g t L tv LO){dsv:List eh}{upv:Option Md}{rdv:Option Nat}(hd:Ey g ds dsv)(hu:pH g up upv rdv)(h2:RD g d v) :
 ∃ vout,fK f fn.ntmps (fQ (lim E.E) f fn) (bv (lim E.E)) k tv dsv upv rdv g.s ps a b' (some v)=some vout/\iJ b P0 g out vout:=by
 unfold AD IX at e
 split at e
 ·split at e
  ·rename_i gf first cap
   obtain⟨hn,e⟩:=lA e
   obtain⟨rfl,hu0⟩:=hu.nr hn
   simp only[RD]at h2
   obtain⟨a',c',rfl,j1,j2⟩:=h2
   have hLO:LO=[]:=List.eq_nil_of_length_eq_zero (by rw[<- hf.own.1];rfl)
   subst hLO
   have f1:=hf.mkobj (x:=.coll) (B:=.deferred) ⟨g.s.next,mK hf.ok _ _,qu _ _⟩
   have v1:=pd hf.ok hf.bl .coll .deferred
   have o1:(g.obj .coll .deferred).O[g.H.length]? = some (some (g.s.next,0)):=mK hf.ok _ _
   have hH1:(g.obj .coll .deferred).H=g.H++[.coll]:=rfl
   have hs1:(g.obj .coll .deferred).s=g.s.alloc .deferred:=rfl
   generalize g.obj .coll .deferred=g1 at f1 v1 o1 hH1 hs1
   have f2:=f1.mkobj (x:=.loop true f fn.ntmps t ps a b') (B:=.loop .ready none f tv ps a b' g.s.next fn.ntmps) ⟨g1.s.next,tv,g.s.next,mK f1.ok _ _,qu _ _,f1.slots.mono (we f1.ok.len _ _) List.prefix_rfl⟩
   have v2:=pd f1.ok f1.bl (.loop true f fn.ntmps t ps a b') (.loop .ready none f tv ps a b' g.s.next fn.ntmps)
   have o2:=mK f1.ok (.loop true f fn.ntmps t ps a b') (.loop .ready none f tv ps a b' g.s.next fn.ntmps)
   have hH2:(g1.obj (.loop true f fn.ntmps t ps a b') (.loop .ready none f tv ps a b' g.s.next fn.ntmps)).H=g.H++[.coll,.loop true f fn.ntmps t ps a b']:=by simp[Gh.obj,hH1]
   have hs2:(g1.obj (.loop true f fn.ntmps t ps a b') (.loop .ready none f tv ps a b' g.s.next fn.ntmps)).s=(g.s.alloc .deferred).alloc (.loop .ready none f tv ps a b' g.s.next fn.ntmps):=by rw[<- hs1];rfl
   have hl1:g1.H.length=g.H.length+1:=by rw[hH1];simp
   rw[hl1]at o2
   generalize g1.obj (.loop true f fn.ntmps t ps a b') (.loop .ready none f tv ps a b' g.s.next fn.ntmps)=g2 at f2 v2 o2 hH2 hs2
   have v12:=v1.trans v2
   obtain⟨oc,hoc,e⟩:=kJ e
   obtain⟨vout,m1,m2⟩:=hrec.c gf _ none _ oc hoc g2 hH2 f2.ok (a'++(.func (.yield g1.s.next) [] []::c')) none
    ((j1.mono v12.le).append (by simp only[RL];exact⟨_,_,rfl,by simp only[RD];exact⟨_,_,o2,rfl⟩,j2.mono v12.le⟩)) rfl
   obtain⟨g3,n1,n2,n3,n4,n5,n6,_⟩:=kI f2 m2
   have v13:=v12.trans n4
   obtain⟨w,q1⟩:=(v2.trans n4).le.o1 _ _ _ o1
   obtain⟨w2,q2⟩:=n4.le.o1 _ _ _ o2
   have hm1:bv (lim E.E) gf (a'++([.func (.yield (g.s.alloc .deferred).next) [] []]++c')) none ((g.s.alloc .deferred).alloc (.loop .ready none f tv ps a b' g.s.next fn.ntmps))=some vout:=by
    rw[<- hs2,<- hs1];exact m1
   obtain⟨ve,vu,vs'⟩:=vout
   simp only at n2 n5
   rcases e with⟨d,hd1,e⟩|⟨c,hd1,e⟩
   ·rw[hd1]at n5
    obtain⟨v,rfl,_⟩:=n5
    unfold zf at e
    split at e
    ·rename_i f0 nt0 t0 ps0 a0 b0 hl
     rw[<- n1]at hl e
     obtain⟨tv0,d0,k2,_⟩:=vV n3 q2 hl
     have c:sY g3 (g.H.length+1) .opq g1.s.next w2 w2 _ _ (.loop .exhausted none f0 tv0 ps0 a0 b0 d0 nt0):=oY q2 hl vF k2
     have f4:=n3.oput c ⟨_,_,aU q2⟩
     have v4:=iA (b:=b) n3.ok c
     obtain⟨w3,q3⟩:=v4.le.o1 _ _ _ q1
     obtain⟨vout,r1,r2⟩:=hgo _ _ _ _ _ _ _ _ e b P0 _ tv [] (.collected g.s.next::dsv) .run upv none rfl f4 ⟨_,w3,dsv,rfl,q3,hd.mono (v13.trans v4).le⟩ rfl (pH.mk hn (hu0.mono (v13.trans v4).le))
     refine⟨vout,?_,r2.trans (v13.trans v4)⟩
     simp only[fK,hm1,jy]
     have k3:vs'.get (g.s.alloc .deferred).next=some (.loop .ready none f0 tv0 ps0 a0 b0 d0 nt0):=by rw[<- n2,<- hs1];exact k2
     simp only[k3,qD,Option.map,Option.toList,List.nil_append]
     rw[<- n2,<- hs1];exact r1
    ·cases e
   ·rw[hd1]at n5
    obtain⟨c',rfl,n7⟩:=n5
    rw[<- n1]at e
    obtain⟨vout,r1,r2⟩:=hgo _ _ _ _ _ _ _ _ e b P0 g3 tv [] (.collected g.s.next::dsv) (.panicking c') upv none rfl n3 ⟨_,w,dsv,rfl,q1,hd.mono v13.le⟩ ⟨c',rfl,n7⟩ (pH.mk hn (hu0.mono v13.le))
    refine⟨vout,?_,r2.trans v13⟩
    simp only[fK,hm1,jy]
    rw[<- n2];exact r1
  ·cases e
 ·cases e
theorem xd{ds:List pG}{up:Option eH}{r:ag}(h:pC go t L ds up r=some out):∃ u H,(∃ d,r=some ⟨.ret d,some u,H⟩/\u≠.run/\go t L [] ds (uh u) up H=some out)\/∃ c,r=some ⟨.pan c,some u,H⟩/\go t L [] ds (AF u c) up H=some out:=by
 unfold pC Ga at h
 split at h
 ·rename_i d u H
  split at h
  ·exact⟨_,_,.inl ⟨d,rfl,(fun q=>by cases q),h⟩⟩
  ·rename_i c
   unfold Fd at h
   split at h
   ·exact⟨_,_,.inl ⟨d,rfl,(fun q=>by cases q),h⟩⟩
   ·rename_i hn
    refine⟨_,_,.inl ⟨d,rfl,(fun q=>by cases q),?_⟩⟩
    simp_all[uh]
  ·cases h
 ·rename_i c u H
  split at h
  ·exact⟨_,_,.inr ⟨c,rfl,h⟩⟩
  ·exact⟨_,_,.inr ⟨c,rfl,h⟩⟩
  ·cases h
 ·cases h
theorem MF(hgo:JU E f fn go)(hrec:Gy E.E rec):∀ {c:Code} {k:List Item} {t:T LD} {L:LS} {ds:List pG} {up:Option eH},kH c E an f fn go rec k t L ds up g.H=some out->∀ {tv:T V} {LO:List Nat} {dsv:List eh} {upv:Option Md} {rdv:Option Nat},FI b P0 g t L tv LO->Ey g ds dsv->pH g up upv rdv ->
 ∃ vout,cq c E.E f fn (fQ (lim E.E) f fn) (bv (lim E.E)) (dV (lim E.E)) k tv dsv upv rdv g.s=some vout/\iJ b P0 g out vout:=by
 intro c k t L ds up e tv LO dsv upv rdv hf hd hu
 have on:∀ {todo:List Item},go t L todo ds .run up g.H=some out->∃ vout,fQ (lim E.E) f fn tv todo dsv .run upv rdv g.s=some vout/\iJ b P0 g out vout:=fun e=>hgo _ _ _ _ _ _ _ _ e b P0 g tv LO dsv .run upv rdv rfl hf hd rfl hu
 cases c with
 |ret=>exact zj (c:=some .ret) hgo e hf hd hu
 |skip=>exact on e
 |label _=>exact on e
 |seq _ _=>exact on e
 |block _ _=>exact on e
 |loop _=>exact on e
 |scope _=>exact on e
 |exit id=>exact CX hgo (.exit id) e hf hd hu
 |goto l=>exact CX hgo (.goto l) e hf hd hu
 |cond c x y =>
  simp only[kH]at e
  obtain⟨d,v,e,_,h1,h2⟩:=bk e (hf.slots.op c)
  obtain⟨q,rfl,e⟩:=BJ e h2
  simp only[cq,h1,BF]
  cases q with
  |true =>
   simp only[cond_true,qa]at e ⊢
   exact hgo _ _ _ _ _ _ _ _ e b P0 g tv LO dsv .run upv rdv rfl (hf.rf (uj h1)) hd rfl hu
  |false =>
   simp only[cond_false,qa]at e ⊢
   exact hgo _ _ _ _ _ _ _ _ e b P0 g tv LO dsv .run upv rdv rfl (hf.rf (uj h1)) hd rfl hu
 |region id ops draw =>
  cases draw with
  |true =>
   simp only[kH]at e
   split at e
   ·cases e
   rename_i hdst
   split at e
   ·rename_i sc hsc
    obtain⟨r,h1,hr⟩:=oU (b:=b) (P0:=P0) (dsv:=dsv) (upv:=upv) hrec (cs:=[⟨L,g,LO⟩]) e rfl hf ⟨hf.cfg,.refl b _,trivial⟩ (pI.of hf.slots .leaf)
    have h6:=Av hsc (bv (lim E.E)) (dV (lim E.E)) tv dsv upv g.s _ h1
    rcases hr with⟨tv',s',rfl,g',t',L',LO',h2,h3,h4,h5⟩|⟨c,tv',s',rfl,g',t',L',LO',c',h2,h3,h4,h5,h7⟩
    ·obtain⟨vout,k1,k2⟩:=hgo _ _ _ _ _ _ _ _ h2 b P0 g' tv' LO' dsv .run upv rdv rfl h4 (hd.mono h5.le) rfl (hu.mono h5.le)
     refine⟨vout,?_,k2.trans h5⟩
     simp only[cq,hdst,cond_true,h6,fW,<- h3];exact k1
    ·obtain⟨vout,k1,k2⟩:=hgo _ _ _ _ _ _ _ _ h2 b P0 g' tv' LO' dsv (.panicking c) upv rdv rfl h4 (hd.mono h5.le) ⟨c,rfl,h7⟩ (hu.mono h5.le)
     refine⟨vout,?_,k2.trans h5⟩
     simp only[cq,hdst,cond_true,h6,fW,<- h3];exact k1
   ·cases e
  |false =>
   simp only[kH]at e
   split at e
   rotate_left
   ·cases e
   rename_i hdst
   obtain⟨r,h1,h2⟩:=eU hrec e hf hd hu
   cases r with
   |on tv' dsv' upv' s' =>
    obtain⟨g',t',L',LO',ds',up',k1,k2,k3,k4,k5,k6⟩:=h2
    obtain⟨vout,j1,j2⟩:=hgo _ _ _ _ _ _ _ _ k1 b P0 g' tv' LO' dsv' .run upv' rdv rfl k3 k5 rfl k6
    refine⟨vout,?_,j2.trans k4⟩
    simp only[cq,hdst,cond_true,h1,fW,<- k2];exact j1
   |panicked c tv' dsv' upv' s' =>
    obtain⟨g',t',L',LO',ds',up',c',k1,k2,k3,k4,k5,k6,k7⟩:=h2
    obtain⟨vout,j1,j2⟩:=hgo _ _ _ _ _ _ _ _ k1 b P0 g' tv' LO' dsv' (.panicking c) upv' rdv rfl k3 k5 ⟨c,rfl,k7⟩ k6
    refine⟨vout,?_,j2.trans k4⟩
    simp only[cq,hdst,cond_true,h1,fW,<- k2];exact j1
 |rangeFunc gop ps a b' =>
  simp only[kH]at e
  obtain⟨d,v,e,_,h1,h2⟩:=bk e (hf.slots.op gop)
  simp only[cq,h1]
  exact IC hgo hrec e hf hd hu h2
 |refuse _=>cases e
theorem IY(hgo:JU E f fn go)(hrec:Gy E.E rec){todo:List Item}{ds:List pG}{m:eH}{up:Option eH}(e:sE E an f fn go rec t L todo ds m up g.H=some out)(hf:FI b P0 g t L tv LO){dsv:List eh}{mv:Md}{upv:Option Md}{rdv:Option Nat}(hd:Ey g ds dsv)(hm:JT g m mv)(hu:pH g up upv rdv) :
 ∃ vout,fO E.E f fn (fQ (lim E.E) f fn) (bv (lim E.E)) (dV (lim E.E)) tv todo dsv mv upv rdv g.s=some vout/\iJ b P0 g out vout:=by
 have unw:∀ {m:eH} {mv:Md},JT g m mv->ir ds E an fn go rec t L m up g.H=some out->∃ vout,cW dsv E.E fn (fQ (lim E.E) f fn) (bv (lim E.E)) tv mv upv rdv g.s=some vout/\iJ b P0 g out vout:=fun {m mv} hm e=>by
  cases ds with
  |nil =>
   cases hd
   simp only[ir]at e
   simp only[cW]
   cases m with
   |run=>simp only[iW]at e;cases e
   |round _=>exact hm.elim
   |returning =>
    cases hm
    simp only[iW]at e
    obtain⟨hn,e⟩:=lA e
    have hq:=hu.nr hn
    clear hu
    obtain⟨rfl,hu⟩:=hq
    obtain⟨ds,vs,e,h1,h2⟩:=mC hf e
    obtain⟨ds',g',e,h3,h4,h5,h6⟩:=GY hf e h2
    cases e
    have:=h4.leave (e:=.ret (Li ds')) (ve:=.returned (vJ vs)) (up:=up) (upv:=upv) ⟨_,rfl,QK h6⟩ (hu.mono h5.le)
    rw[h3]at this
    exact⟨_,by simp only[si,qh,h1,KL],this.trans h5⟩
   |panicking c =>
    obtain⟨c',rfl,h1⟩:=hm
    simp only[iW]at e
    cases e
    exact⟨_,rfl,hf.leave (e:=.pan c) (ve:=.panicked c') ⟨_,rfl,h1⟩ (NV hu)⟩
  |cons x ds =>
   cases x with
   |coll o =>
    obtain⟨d,v,dsv',rfl,h1,h2⟩:=hd
    simp only[ir]at e
    simp only[cW]
    unfold rg at e
    split at e
    ·rename_i hH
     obtain⟨d',k1,k2⟩:=hf.ok.obj o _ hH
     rw[h1]at k1;cases k1
     have c:sY g o .opq d 0 0 .coll _ .gone:=oY h1 hH Ff k2
     have hf':=hf.oput c ⟨_,_,aU h1⟩
     have hm':=iA (b:=b) hf.ok c
     obtain⟨vout,j1,j2⟩:=hgo _ _ _ _ _ _ _ _ e b P0 _ tv LO dsv' mv upv rdv rfl hf' (h2.mono hm'.le) (hm.mono hm'.le) (hu.mono hm'.le)
     refine⟨vout,?_,j2.trans hm'⟩
     simp only[jR,k2];exact j1
    ·cases e
   |call x =>
   obtain⟨ca,a,dsv',rfl,h1,h2,h3⟩:=hd
   obtain⟨xf,xc,xa⟩:=x
   simp only[ir]at e
   simp only at h1 h2
   simp only[cW]
   obtain⟨u,H',⟨d,hr,hne,e⟩|⟨c,hr,e⟩⟩:=xd e
   ·obtain⟨vout,k1,k2⟩:=hrec.c _ _ _ _ _ hr g rfl hf.ok (a++ca) (some mv) (h2.append h1) ⟨mv,rfl,hm⟩
    obtain⟨g',n1,n2,n3,n4,n5,n6,_⟩:=kI hf k2
    obtain⟨ve,vu,vs⟩:=vout
    simp only at n1 n2 n5 n6
    obtain⟨v,rfl,_⟩:=n5
    obtain⟨u',rfl,n7⟩:=n6
    rw[<- n1]at e
    obtain⟨vout,j1,j2⟩:=hgo _ _ _ _ _ _ _ _ e b P0 g' tv LO dsv' (ix u') upv rdv rfl n3 (h3.mono n4.le) (KB n7) (hu.mono n4.le)
    refine⟨vout,?_,j2.trans n4⟩
    simp only[bv,k1,ji]
    have:u'≠.run:=fun q=>hne ((QY n7).2 q)
    split
    ·grind
    ·rw[<- n2];exact j1
   ·obtain⟨vout,k1,k2⟩:=hrec.c _ _ _ _ _ hr g rfl hf.ok (a++ca) (some mv) (h2.append h1) ⟨mv,rfl,hm⟩
    obtain⟨g',n1,n2,n3,n4,n5,n6,_⟩:=kI hf k2
    obtain⟨ve,vu,vs⟩:=vout
    simp only at n1 n2 n5 n6
    obtain⟨c',rfl,n8⟩:=n5
    obtain⟨u',rfl,n7⟩:=n6
    rw[<- n1]at e
    obtain⟨vout,j1,j2⟩:=hgo _ _ _ _ _ _ _ _ e b P0 g' tv LO dsv' (ql u' c') upv rdv rfl n3 (h3.mono n4.le) (KX n7 n8) (hu.mono n4.le)
    refine⟨vout,?_,j2.trans n4⟩
    simp only[bv,k1,ji]
    rw[<- n2];exact j1
 cases m with
 |run =>
  cases hm
  simp only[sE]at e
  simp only[fO]
  cases todo with
  |nil=>exact zj (c:=none) hgo e hf hd hu
  |cons i k =>
   simp only[GO]at e
   simp only[mr]
   have on:∀ {todo:List Item},go t L todo ds .run up g.H=some out->∃ vout,fQ (lim E.E) f fn tv todo dsv .run upv rdv g.s=some vout/\iJ b P0 g out vout:=fun e=>hgo _ _ _ _ _ _ _ _ e b P0 g tv LO dsv .run upv rdv rfl hf hd rfl hu
   cases i with
   |code c=>exact MF hgo hrec e hf hd hu
   |inBlock _=>exact on e
   |inScope _=>exact on e
   |inLoop c=>exact on e
   |beginRound =>
    simp only[LU]at e
    unfold Gq at e
    split at e
    ·rename_i o
     obtain⟨rfl,l,v,rfl,ho⟩:=hu
     unfold Jt at e
     split at e
     ·rename_i hH
      obtain⟨tv0,d,h2,h3⟩:=vV hf ho hH
      obtain⟨g',k1,k2,k3,k4⟩:=h3 false
      rw[<- k1]at e
      obtain⟨v',ho'⟩:=k4.le.o1 _ _ _ ho
      obtain⟨vout,j1,j2⟩:=hgo _ _ _ _ _ _ _ _ e b P0 g' tv LO dsv .run none (some l) rfl k3 (hd.mono k4.le) rfl ⟨rfl,l,v',rfl,ho'⟩
      refine⟨vout,?_,j2.trans k4⟩
      simp only[kw,uE,h2,cond_true]
      rw[k2]at j1;exact j1
     ·cases e
    ·cases e
   |_=>cases e
 |returning =>
  cases hm
  exact unw (m:=.returning) rfl e
 |panicking c =>
  obtain⟨c',rfl,h1⟩:=hm
  exact unw (m:=.panicking c) ⟨c',rfl,h1⟩ e
 |round _=>exact hm.elim
end frame
mutual
theorem RD.belo:∀ {d:D} {v:V},g.O.length=g.H.length->RD g d v->d.bel g.H.length
 |.bool _,_,_,_=>trivial
 |.int ..,_,_,_=>trivial
 |.str _,_,_,_=>trivial
 |.ptr o c,v,hl,r=>by
  grind [RD,D.bel,ci]
 |.eptr cs c,v,hl,r=>by
  simp only[RD]at r
  obtain⟨a,vs,_,_,_,h4,_⟩:=r
  simp only[D.bel];exact RL.belo hl h4
 |.bptr o n i c,v,hl,r=>by
  simp only[RD,yy]at r
  grind [D.bel,ci]
 |.tptr o n i c,v,hl,r=>by
  grind [RD,D.bel,ci]
 |.tb sz o s k,v,hl,r=>by
  grind [RD,D.bel,ci]
 |.nilptr,_,_,_=>trivial
 |.row sz l,v,hl,r=>by
  simp only[RD]at r
  simp only[D.bel]
  rcases r with⟨rfl,_⟩|⟨rfl,_⟩|⟨a,z,cap,_,_,_,_,_,h6⟩
  ·trivial
  ·trivial
  ·exact RR.belo hl h6
 |.buf sz o n,v,hl,r=>by
  simp only[RD]at r
  rcases r with⟨⟨_,_,_,h1⟩,_⟩|⟨st,cap,l,h1,_⟩<;>grind [D.bel,ci]
 |.nilrow,_,_,_=>trivial
 |.nilx,_,_,_=>trivial
 |.map o,v,hl,r=>by
  grind [RD,D.bel,ci]
 |.nilmap,_,_,_=>trivial
 |.func fn a c,v,hl,r=>by
  simp only[RD]at r
  obtain⟨a',b',_,h2,h3⟩:=r
  simp only[D.bel];exact⟨RL.belo hl h2,RL.belo hl h3⟩
 |.nilFunc,_,_,_=>trivial
 |.iface ty d,v,hl,r=>by
  simp only[RD]at r
  obtain⟨v',_,h2⟩:=r
  simp only[D.bel];exact RD.belo hl h2
 |.nilIface,_,_,_=>trivial
 |.yld o,v,hl,r=>by
  grind [RD,D.bel,ci]
 |.abool,_,_,_=>trivial
 |.agg cs,v,hl,r=>by
  simp only[RD]at r
  obtain⟨vs,_,h2,_⟩:=r
  simp only[D.bel];exact RL.belo hl h2
 |.tuple ds,v,hl,r=>by
  simp only[RD]at r
  obtain⟨vs,_,h2⟩:=r
  simp only[D.bel];exact RL.belo hl h2
theorem RL.belo:∀ {ds:List D} {vs:List V},g.O.length=g.H.length->RL g ds vs->tX g.H.length ds
 |[],_,_,_=>trivial
 |d::l,vs,hl,r=>by
  simp only[RL]at r
  obtain⟨v,vs',_,h2,h3⟩:=r
  simp only[tX];exact⟨RD.belo hl h2,RL.belo hl h3⟩
theorem RR.belo:∀ {l:List (List D)} {a:Ad} {sz:Nat},g.O.length=g.H.length->RR g a sz l->DZ g.H.length l
 |[],_,_,_,_=>trivial
 |x::l,a,sz,hl,r=>by
  simp only[RR]at r
  obtain⟨⟨vs,_,_,h3,_⟩,h4⟩:=r
  simp only[DZ];exact⟨RL.belo hl h3,RR.belo hl h4⟩
end
def Gh.trim(g:Gh)(n:Nat):Gh:=⟨g.O.take n,g.H.take n,g.Pv,g.s⟩
theorem iQ{α:Type}{l:List α}{n i:Nat}{x:α}(h:(l.take n)[i]? = some x):i<n/\l[i]? = some x:=by
 grind
theorem bQ{α:Type}{l:List α}{n i:Nat}{x:α}(hi:i<n)(h:l[i]? = some x):(l.take n)[i]? = some x:=by
 grind
theorem wo{n f:Nat}(h:g.Imm f):(g.trim n).Imm f:=⟨h.1,h.2.1,fun o v ho=>by
 obtain⟨h1,h2⟩:=iQ ho
 obtain⟨sz,cap,l,h3⟩:=h.2.2 o v h2
 exact⟨sz,cap,l,bQ h1 h3⟩⟩
theorem yy.trim{o n:Nat}(h:o<n)(r:yy g o):yy (g.trim n) o:=by
 obtain⟨z,s,l,k⟩:=r
 exact⟨z,s,l,bQ h k⟩
mutual
theorem RD.trim{n:Nat}:∀ {d:D} {v:V},d.bel n->RD g d v->RD (g.trim n) d v
 |.bool _,_,_,r=>by simpa only[RD]using r
 |.int ..,_,_,r=>by simpa only[RD]using r
 |.str _,_,_,r=>by simpa only[RD]using r
 |.ptr o c,v,hb,r=>by
  simp only[RD]at r ⊢
  simp only[D.bel]at hb
  obtain⟨f,ver,h1,h2⟩:=r
  exact⟨f,ver,bQ hb h1,h2⟩
 |.eptr cs c,v,hb,r=>by
  simp only[RD]at r ⊢
  simp only[D.bel]at hb
  obtain⟨a,vs,h1,h2,h3,h4,h5⟩:=r
  exact⟨a,vs,h1,wo h2,h3,RL.trim hb h4,h5⟩
 |.bptr o n' i c,v,hb,r=>by
  simp only[RD]at r ⊢
  simp only[D.bel]at hb
  rcases r with⟨r,r2⟩|⟨f,ver,sz,st,cap,l,ver',h1,h2,h3⟩
  ·exact .inl ⟨r.trim hb,r2⟩
  exact .inr ⟨f,ver,sz,st,cap,l,ver',bQ hb h1,bQ hb h2,h3⟩
 |.tptr o s i c,v,hb,r=>by
  simp only[RD]at r ⊢
  simp only[D.bel]at hb
  obtain⟨f,ver,sz,s',l,ver',h1,h2,h3⟩:=r
  exact⟨f,ver,sz,s',l,ver',bQ hb h1,bQ hb h2,h3⟩
 |.tb sz o s k,v,hb,r=>by
  simp only[RD]at r ⊢
  simp only[D.bel]at hb
  obtain⟨f,ver,s',l,ver',h1,h2,h3⟩:=r
  exact⟨f,ver,s',l,ver',bQ hb h1,bQ hb h2,h3⟩
 |.nilptr,_,_,r=>by simpa only[RD]using r
 |.row sz l,v,hb,r=>by
  simp only[RD]at r ⊢
  simp only[D.bel]at hb
  rcases r with r|r|⟨a,z,cap,h1,h2,h3,h4,h5,h6⟩
  ·exact .inl r
  ·grind
  ·exact .inr (.inr ⟨a,z,cap,h1,h2,h3,h4,fun q=>wo (h5 q),RR.trim hb h6⟩)
 |.buf sz o n',v,hb,r=>by
  simp only[RD]at r ⊢
  simp only[D.bel]at hb
  rcases r with⟨r,r2⟩|⟨st,cap,l,h1,h2,h3⟩
  ·exact .inl ⟨r.trim hb,r2⟩
  refine .inr ⟨st,cap,l,bQ hb h1,h2,?_⟩
  rcases h3 with h3|⟨h3,f,ver,ver',c,h4,h5⟩
  ·exact .inl h3
  ·exact .inr ⟨h3,f,ver,ver',c,bQ hb h4,h5⟩
 |.nilrow,_,_,r=>by simpa only[RD]using r
 |.nilx,_,_,r=>by simpa only[RD]using r
 |.map o,v,hb,r=>by
  simp only[RD]at r ⊢
  simp only[D.bel]at hb
  obtain⟨f,ver,h1,h2⟩:=r
  exact⟨f,ver,bQ hb h1,h2⟩
 |.nilmap,_,_,r=>by simpa only[RD]using r
 |.func fn a c,v,hb,r=>by
  simp only[RD]at r ⊢
  simp only[D.bel]at hb
  obtain⟨a',b',h1,h2,h3⟩:=r
  exact⟨a',b',h1,RL.trim hb.1 h2,RL.trim hb.2 h3⟩
 |.nilFunc,_,_,r=>by simpa only[RD]using r
 |.iface ty d,v,hb,r=>by
  simp only[RD]at r ⊢
  simp only[D.bel]at hb
  obtain⟨v',h1,h2⟩:=r
  simp_all[RD.trim]
 |.nilIface,_,_,r=>by simpa only[RD]using r
 |.yld o,v,hb,r=>by
  simp only[RD]at r ⊢
  simp only[D.bel]at hb
  obtain⟨f,ver,h1,h2⟩:=r
  exact⟨f,ver,bQ hb h1,h2⟩
 |.abool,_,_,r=>by simpa only[RD]using r
 |.agg cs,v,hb,r=>by
  simp only[RD]at r ⊢
  simp only[D.bel]at hb
  obtain⟨vs,h1,h2,h3⟩:=r
  simp_all[RL.trim]
 |.tuple ds,v,hb,r=>by
  simp only[RD]at r ⊢
  simp only[D.bel]at hb
  obtain⟨vs,h1,h2⟩:=r
  simp_all[RL.trim]
theorem RL.trim{n:Nat}:∀ {ds:List D} {vs:List V},tX n ds->RL g ds vs->RL (g.trim n) ds vs
 |[],_,_,r=>by simpa only[RL]using r
 |d::l,vs,hb,r=>by
  simp only[RL]at r ⊢
  simp only[tX]at hb
  obtain⟨v,vs',h1,h2,h3⟩:=r
  exact⟨v,vs',h1,RD.trim hb.1 h2,RL.trim hb.2 h3⟩
theorem RR.trim{n:Nat}:∀ {l:List (List D)} {a:Ad} {sz:Nat},DZ n l->RR g a sz l->RR (g.trim n) a sz l
 |[],_,_,_,_=>by simp only[RR]
 |x::l,a,sz,hb,r=>by
  simp only[RR]at r ⊢
  simp only[DZ]at hb
  obtain⟨⟨vs,h1,h2,h3,h4⟩,h5⟩:=r
  exact⟨⟨vs,h1,h2,RL.trim hb.1 h3,h4⟩,RR.trim hb.2 h5⟩
end
theorem pJ.trim{n:Nat}:∀ {es:List (D×D)} {ents:List ol},(∀ x∈es,x.1.bel n/\x.2.bel n)->pJ g es ents->pJ (g.trim n) es ents
 |[],_,_,r=>r
 |(k,v)::l,_,hb,r=>by
  obtain⟨e,es',h1,h2,h3,h4,h5⟩:=r
  obtain⟨b1,b2⟩:=hb _ List.mem_cons_self
  exact⟨e,es',h1,h2.trim b1,h3.trim b2,h4,pJ.trim (fun x hx=>hb x (List.mem_cons_of_mem _ hx)) h5⟩
theorem pJ.belo:∀ {es:List (D×D)} {ents:List ol},g.O.length=g.H.length->pJ g es ents->∀ x∈es,x.1.bel g.H.length/\x.2.bel g.H.length
 |[],_,_,_,x,hx=>by cases hx
 |(k,v)::l,_,hl,r,x,hx=>by
  obtain⟨e,es',_,h2,h3,_,h5⟩:=r
  rcases List.mem_cons.1 hx with rfl|hx
  ·exact⟨h2.belo hl,h3.belo hl⟩
  ·exact pJ.belo hl h5 x hx
theorem jr.belo{o:Nat}{x:DB}(hl:g.O.length=g.H.length)(r:jr g o x):x.bel g.H.length:=by
 cases x with
 |dead=>exact r.elim
 |opq=>trivial
 |coll=>trivial
 |loop _ _ _ _ _ _ _ =>
  obtain⟨f,tv,d,_,_,h3⟩:=r
  intro i d hi
  obtain⟨v,_,h4⟩:=h3 i _ hi
  exact RD.belo hl h4
 |cells st cs=>obtain⟨f,el,vs,_,_,h3,_⟩:=r;exact h3.belo hl
 |map es=>obtain⟨f,ents,c,_,_,h3⟩:=r;exact h3.belo hl
 |buf sz st cap l =>
  obtain⟨_,⟨rfl,_⟩|⟨_,f,ver,el,nv,vers,cells,_,_,_,_,_,h⟩⟩:=r
  ·trivial
  ·exact h.belo hl
 |tbuf sz s l =>
  obtain⟨_,f,ver,el,nv,vers,cells,_,_,_,_,_,h⟩:=r
  exact h.belo hl
theorem jr.trim{o n:Nat}{x:DB}(ho:o<n)(hb:x.bel n)(r:jr g o x):jr (g.trim n) o x:=by
 cases x with
 |dead=>exact r.elim
 |opq=>obtain⟨f,v,h1⟩:=r;exact⟨f,v,bQ ho h1⟩
 |coll=>obtain⟨f,h1,h2⟩:=r;exact⟨f,bQ ho h1,h2⟩
 |loop _ _ _ _ _ _ _ =>
  obtain⟨f,tv,d,h1,h2,h3⟩:=r
  refine⟨f,tv,d,bQ ho h1,h2,fun i x hi=>?_⟩
  obtain⟨v,h4,h5⟩:=h3 i x hi
  refine⟨v,h4,?_⟩
  cases x with
  |g d=>exact RD.trim (hb i d hi) h5
  |lp k c=>exact h5
  |u=>exact h5
 |cells st cs=>obtain⟨f,el,vs,h1,h2,h3,h4⟩:=r;exact⟨f,el,vs,bQ ho h1,h2,h3.trim hb,h4⟩
 |map es=>obtain⟨f,ents,c,h1,h2,h3⟩:=r;exact⟨f,ents,c,bQ ho h1,h2,h3.trim hb⟩
 |buf sz st cap l =>
  obtain⟨h0,⟨rfl,h1⟩|⟨h1,f,ver,el,nv,vers,cells,h2,h3,h4,h5,h6,h⟩⟩:=r
  ·exact⟨h0,.inl ⟨rfl,bQ ho h1⟩⟩
  ·exact⟨h0,.inr ⟨h1,f,ver,el,nv,vers,cells,bQ ho h2,h3,h4,h5,h6,h.trim hb⟩⟩
 |tbuf sz s l =>
  obtain⟨h0,f,ver,el,nv,vers,cells,h2,h3,h4,h5,h6,h⟩:=r
  exact⟨h0,f,ver,el,nv,vers,cells,bQ ho h2,h3,h4,h5,h6,h.trim hb⟩
theorem gu.trim{n:Nat}:∀ {c:List fo} {c':List Cb},(∀ x∈c,x.v.bel n)->gu g c c'->gu (g.trim n) c c'
 |[],_,_,r=>r
 |x::l,_,hb,r=>by
  obtain⟨y,c',h1,h2,h3,h4⟩:=r
  exact⟨y,c',h1,h2.trim (hb x List.mem_cons_self),h3,gu.trim (fun z hz=>hb z (List.mem_cons_of_mem _ hz)) h4⟩
theorem Kh{r:ag}(e:pU g.H r=some out)(hok:Ok g){j:rE}{s0:S}(hr:∀ o,r=some o->∃ vout,lim E.E j s0=some vout/\iJ g.s.next g.Pv g o vout):∃ vout,lim E.E j s0=some vout/\iJ g.s.next g.Pv g out vout:=by
 unfold pU at e
 split at e
 ·rename_i o
  split at e
  ·rename_i ht
   cases e
   obtain⟨vout,h1,g',h2,h3,h4,h5,h6,h7,h8⟩:=hr o rfl
   obtain⟨t1,t2,t3,t4⟩:=ht
   rw[<- h2]at t3 t4
   have hlen:(g'.trim g.H.length).H.length=g.H.length:=by simp[Gh.trim,t3]
   have hold:∀ {o:Nat} {x:DB},o<g.H.length->g'.H[o]? = some x->jr (g'.trim g.H.length) o x:=fun {o x} ho hx=>by
    refine(h5.obj o x hx).trim ho ?_
    rcases t4 o x ho hx with q|q
    ·exact(hok.obj o x q).belo hok.len
    ·exact q
   refine⟨vout,h1,g'.trim g.H.length,by simp[Gh.trim,h2],h3,h4,⟨by simp[Gh.trim,h5.len],h5.wf,fun o o' f v v' a c=>h5.inj o o' f v v' (iQ a).2 (iQ c).2,fun o f v a=>h5.lt o f v (iQ a).2,h5.pv,fun o x hx=>?_,h5.gl.to fun f q1 q2 q3=>⟨rfl,q1,q2,fun o v k=>q3 o v (iQ k).2⟩⟩,⟨⟨by rw[hlen];exact Nat.le_refl _,fun o f v ho=>?_,fun o sz st cap l ho=>?_,fun o sz s l ho=>?_,fun f hf=>wo (h6.le.imm f hf),fun a n vs hi hx=>h6.le.cells a n vs hi hx,h6.le.next⟩,h6.out,fun o f v ho hf=>h6.fresh o f v (iQ ho).2 hf,fun o s1 c1 f v a c=>?_⟩,?_,?_⟩
   ·obtain⟨q1,q2⟩:=iQ hx
    grind
   ·obtain⟨v',q⟩:=h6.le.o1 o f v ho
    exact⟨v',bQ (by rw[<- hok.len];exact ci ho) q⟩
   ·rcases h6.le.buf o sz st cap l ho with q1|⟨st',cap',l',q1,q2,q3,q4⟩
    ·exact .inl (q1.trim (ci ho))
    refine .inr ⟨st',cap',l',bQ (ci ho) q1,q2,q3,fun q=>⟨(q4 q).1,?_⟩⟩
    show(g'.O.take _)[o]? = _
    grind
   ·obtain⟨s',l',q1,q2,q3⟩:=h6.le.tb o sz s l ho
    refine⟨s',l',bQ (ci ho) q1,q2,fun q=>⟨(q3 q).1,?_⟩⟩
    show(g'.O.take _)[o]? = _
    grind
   ·obtain⟨s2,c2,q1,q2,q3⟩:=h6.stm o s1 c1 f v a c
    exact⟨s2,c2,bQ (ci a) q1,q2,q3⟩
   ·have t1:=t1
    cases he:o.e with
    |ret d =>
     rw[he]at h7 t1
     obtain⟨v,q1,q2⟩:=h7
     exact⟨v,q1,q2.trim t1⟩
    |pan c =>
     rw[he]at h7 t1
     obtain⟨c',q1,q2⟩:=h7
     exact⟨c',q1,q2.trim t1⟩
   ·show JG _ o.up _
    rw[t2]at h8 ⊢
    exact h8
  ·cases e
 ·cases e
theorem Mb:∀ {ds:List D} {vs:List V} {i:Nat} {t:T LD} {tv:T V},RL g ds vs->yx g [] t tv->yx g [] (gc ds i t id) (jJ vs i tv id)
 |[],vs,i,t,tv,r,h=>by simp only[RL]at r;subst r;exact h
 |d::ds,vs,i,t,tv,r,h=>by
  simp only[RL]at r
  obtain⟨v,vs',rfl,h1,h2⟩:=r
  rw[FD]
  simp only[gc,T.setQ_eq]
  exact Mb h2 (h.put (some i) (x:=.g d) h1)
theorem nT{β:Type}:∀(ds:List D) (i:Nat) (t:T LD) (k:T LD->β),gc ds i t k=k (gc ds i t id)
 |[],_,_,_=>rfl
 |d::ds,i,t,k=>by
  simp only[gc,T.setQ_eq]
  exact nT ds (i+1) _ k
theorem Kn(h:Ok g){ds:List D}{vs:List V}(r:RL g ds vs):FI g.s.next g.Pv g (gc ds 0 .leaf id) [] (jJ vs 0 .leaf id) [] :=
 ⟨h,Mb r (fun i x hx=>by rw[T.get_leaf]at hx;cases hx),⟨rfl,fun k x f hk=>by simp at hk⟩,by simp,(fun f hf=>by cases hf),List.nodup_nil,Nat.le_refl _⟩
theorem rR{β:Type}:∀(t:T LD) (ps:List Tmp) (ds:List D) (k:T LD->β),lm t ps ds k=k (lm t ps ds id)
 |t,p::ps,d::ds,k=>by
  simp only[lm,T.setQ_eq]
  exact rR _ ps ds k
 |t,[],[],k=>rfl
 |t,[],_::_,k=>rfl
 |t,_::_,[],k=>rfl
theorem CD{β:Type}:∀(t:T V) (ps:List Tmp) (ds:List V) (k:T V->β),ce t ps ds k=k (ce t ps ds id)
 |t,p::ps,d::ds,k=>by
  simp only[ce,T.setK_eq]
  exact CD _ ps ds k
 |t,[],[],k=>rfl
 |t,[],_::_,k=>rfl
 |t,_::_,[],k=>rfl
theorem He:∀ {ps:List Tmp} {ds:List D} {vs:List V} {t:T LD} {tv:T V},RL g ds vs->yx g [] t tv->yx g [] (lm t ps ds id) (ce tv ps vs id)
 |[],ds,vs,t,tv,r,h=>by cases ds<;>cases vs<;>exact h
 |p::ps,[],vs,t,tv,r,h=>by simp only[RL]at r;subst r;exact h
 |p::ps,d::ds,vs,t,tv,r,h=>by
  simp only[RL]at r
  obtain⟨v,vs',rfl,h1,h2⟩:=r
  simp only[lm,ce,T.setQ_eq,T.setK_eq]
  exact He h2 (h.put (some p) (x:=.g d) h1)
theorem IA{go:FuncId->Func->rF}(hgo:∀ f fn,JU E f fn (go f fn)){o:Nat}{args:List D}(e:rQ E go o args g.H=some out)(hok:Ok g){vs:List V}{l v:Nat}(hr:RL g args vs)(ho:g.O[o]? = some (some (l,v))) :
 ∃ vout,lim E.E (.round l vs) g.s=some vout/\iJ g.s.next g.Pv g out vout:=by
 unfold rQ at e
 split at e
 ·rename_i r f nt t ps a b' hH
  split at e
  ·rename_i fn hf
   obtain⟨hc,e⟩:=aC e
   obtain⟨fb,tv0,d,h1,h2,h3⟩:=hok.obj o _ hH
   rw[ho]at h1;cases h1
   rw[rR]at e
   have hFI:FI g.s.next g.Pv g (lm t ps.toList args id) [] (ce tv0 ps.toList vs id) [] :=
    ⟨hok,He hr h3,⟨rfl,fun k x f hk=>by simp at hk⟩,by simp,(fun f hf=>by cases hf),List.nodup_nil,Nat.le_refl _⟩
   obtain⟨vout,k1,k2⟩:=hgo f fn _ _ _ _ _ _ _ _ e g.s.next g.Pv g _ _ [] .run none (some l) rfl hFI rfl rfl ⟨rfl,l,0,rfl,ho⟩
   refine⟨vout,Mm ?_,k2⟩
   rw[<- hr.len]at hc
   simp only[eS,h2,vj,hf,hc,cond_true]
   rw[CD];exact k1
  ·cases e
 ·cases e
theorem Jp(hO:Nj E){go:FuncId->Func->rF}(hgo:∀ f fn,JU E f fn (go f fn)):Gy E.E (HW E go):=by
 refine⟨?_,fun o args H out e g hH hok vs l v hr ho=>by subst hH;exact IA hgo e hok hr ho⟩
 intro f args up H out e g hH hok vs upv hr hu
 subst hH
 have ent:wV E go f args up g.H=some out->∃ vout,lim E.E (.call f vs upv) g.s=some vout/\iJ g.s.next g.Pv g out vout:=fun e=>by
  unfold wV at e
  split at e
  ·rename_i fn hf
   split at e
   ·rename_i c hb
    cases hng:(fn.name == "runtime.NumGoroutine" || E.vo f)with
    |true=>rw[hng]at e;cases e
    |false =>
     rw[hng]at e
     simp only[cond_false]at e
     obtain⟨hn1,hn2⟩:=Bool.or_eq_false_iff.1 hng
     have hstep:∀ o,gc args 0 .leaf (fun t=>go f fn t [] [.code c] [] .run up g.H)=some o->∃ vout,lim E.E (.call f vs upv) g.s=some vout/\iJ g.s.next g.Pv g o vout:=fun o e=>by
      rw[nT]at e
      obtain⟨vout,h1,h2⟩:=hgo f fn _ _ _ _ _ _ _ _ e g.s.next g.Pv g _ _ [] .run upv none rfl (Kn hok hr) rfl rfl (pH.mk (fun o q=>by subst q;obtain⟨_,_,h⟩:=hu;exact h) hu)
      refine⟨vout,Mm ?_,h2⟩
      have hent:sJ (lim E.E) f vs upv g.s (E.E.P.funcs[f]?)=some vout:=by
       simp only[sJ,hf,hb,hn1,cond_false]
       rw[qJ];exact h1
      cases upv with
      |none=>simp only[eS,hO.no f hn2 vs g.s,xp];exact hent
      |some u=>exact hent
     cases ht:(E.ann f).trim with
     |true=>rw[ht]at e;exact Kh e hok hstep
     |false=>rw[ht]at e;exact hstep _ e
   ·cases e
  ·cases e
 unfold HW at e
 split at e
 ·obtain⟨_,_,h⟩:=hu;exact h.elim
 rename_i hn
 unfold Lh at e
 split at e
 ·rename_i d H' ho
  cases e
  cases up with
  |none =>
   cases hu
   exact hO.yes f args g.H d H' ho g rfl hok vs hr
  |some m=>cases ho
 ·exact ent e
theorem EC(hO:Nj E){R:bm}(hR:BY E R){go:FuncId->Func->rF}(hgo:∀ f fn,JU E f fn (go f fn)):BY E (pW E R go):=by
 refine⟨Jp hO hgo,fun f fn=>?_⟩
 intro t L todo ds m up H out e b P0 g tv LO dsv mv upv rdv hH hf hd hm hu
 subst hH
 obtain⟨vout,h1,h2⟩:=IY (Jk (hR.frame f fn) (hgo f fn)) hR.call e hf hd hm hu
 exact⟨vout,Mm h1,h2⟩
theorem ni(hO:Nj E):∀ n,BY E (dK E n)
 |0=>⟨⟨(fun _ _ _ _ _ e=>by cases e),(fun _ _ _ _ e=>by cases e)⟩,(fun _ _ _ _ _ _ _ _ _ _ e=>by cases e)⟩
 |n+1=>EC hO (ni hO n) (ni hO n).frame
end Go.AI
set_option linter.all false
noncomputable section
namespace Go.AI
variable[ft]
def xN(c:Nat->bm)(R:bm):Prop:=∀ j H o,R j H=some o->∃ n,∀ m,n<=m->c m j H=some o
def aX(c:Nat->bm)(R:bm)(Φ:bm->ag):Prop:=∀ x,Φ R=some x->∃ n,∀ m,n<=m->Φ (c m)=some x
section
variable{c:Nat->bm}{R:bm}{α β:Type}{E:cw}{an:gJ}
theorem aX.const(x:ag):aX c R (fun _=>x):=fun _ h=>⟨0,fun _ _=>h⟩
theorem aX.al{d:(α->ag)->ag}(h:Al d){κ:bm->α->ag}(hk:∀ a,aX c R (fun ih=>κ ih a)):aX c R (fun ih=>d (κ ih)):=fun x e=>by
 obtain⟨a,ha⟩:=h (κ R) x e
 obtain⟨n,hn⟩:=hk a x ((ha (κ R)).symm.trans e)
 exact⟨n,fun m hm=>(ha (κ (c m))).trans (hn m hm)⟩
theorem aX.al2{d:(α->β->ag)->ag}(h:fJ d){κ:bm->α->β->ag}(hk:∀ a b,aX c R (fun ih=>κ ih a b)):aX c R (fun ih=>d (κ ih)):=fun x e=>by
 obtain⟨a,b,ha⟩:=h (κ R) x e
 obtain⟨n,hn⟩:=hk a b x ((ha (κ R)).symm.trans e)
 exact⟨n,fun m hm=>(ha (κ (c m))).trans (hn m hm)⟩
theorem aX.cond(b:Bool){p q:bm->ag}(hp:aX c R p)(hq:aX c R q):aX c R (fun ih=>cond b (p ih) (q ih)):=by
 cases b
 ·exact hq
 ·exact hp
theorem aX.both{p q:bm->ag}(hp:aX c R p)(hq:aX c R q):aX c R (fun ih=>HY (p ih) (q ih)):=fun x e=>by
 obtain⟨h1,h2⟩:=zS e
 obtain⟨n1,k1⟩:=hp x h1
 obtain⟨n2,k2⟩:=hq x h2
 refine⟨max n1 n2,fun m hm=>?_⟩
 grind
theorem aX.notRnd(up:Option eH){p:bm->ag}(hp:aX c R p):aX c R (fun ih=>notRnd up (p ih)):=by
 unfold Go.AI.notRnd
 split
 ·exact .const _
 ·exact hp
theorem aX.brD(d:D){p q:bm->ag}(hp:aX c R p)(hq:aX c R q):aX c R (fun ih=>brD d (p ih) (q ih)):=by
 cases d<;>first|exact .const _|exact aX.cond _ hp hq|exact aX.both hp hq
theorem aX.ih(h:xN c R)(j:Cd)(H:DH):aX c R (fun ih=>ih j H):=fun o ho=>h j H o ho
theorem aX.callK2{x:bm->ag}(hx:aX c R x){kr:bm->D->DH->ag}{kp:bm->List fo->DH->ag}(h1:∀ d H,aX c R (fun ih=>kr ih d H))(h2:∀ p H,aX c R (fun ih=>kp ih p H)):aX c R (fun ih=>dP (x ih) (kr ih) (kp ih)):=fun y e=>by
 obtain⟨o,ho,hh⟩:=kJ e
 obtain⟨n1,hn1⟩:=hx o ho
 obtain⟨oe,ou,oH⟩:=o
 rcases hh with⟨d,hd,e⟩|⟨p,hd,e⟩
 ·simp only at hd e;subst hd
  obtain⟨n2,hn2⟩:=h1 d oH y e
  exact⟨max n1 n2,fun m hm=>by show dP (x (c m)) _ _=_;rw[hn1 m (by omega)];exact hn2 m (by omega)⟩
 ·simp only at hd e;subst hd
  obtain⟨n2,hn2⟩:=h2 p oH y e
  exact⟨max n1 n2,fun m hm=>by show dP (x (c m)) _ _=_;rw[hn1 m (by omega)];exact hn2 m (by omega)⟩
theorem aX.want{ops:Array Oper}{t:T LD}{o:Oper}{kT kF:bm->T LD->ag}(h1:∀ t,aX c R (fun ih=>kT ih t))(h2:∀ t,aX c R (fun ih=>kF ih t)):aX c R (fun ih=>uN ops t o (kT ih) (kF ih)):=by
 unfold uN
 split
 ·exact h1 t
 ·split
  ·split
   ·split
    ·simp only[T.setQ_eq];exact .brD _ (h1 _) (h2 _)
    ·simp only[T.setQ_eq];exact .brD _ (h2 _) (h1 _)
   ·exact h2 t
   ·exact .const _
  ·exact .const _
theorem aX.put{t:T LD}{d:Option Tmp}{x:LD}{κ:bm->T LD->ag}(h:∀ t,aX c R (fun ih=>κ ih t)):aX c R (fun ih=>jz t d x (κ ih)):=by
 simp_all[cm]
theorem OJ(h:xN c R){d:Option Tmp}{t:T LD}{ds:List pG}{up:Option eH}{k:bm->Es}{kp:bm->List fo->Es}(hk:∀ t L ds up H,aX c R (fun ih=>k ih t L ds up H))(hp:∀ p t L ds up H,aX c R (fun ih=>kp ih p t L ds up H))(x:xO) :
 aX c R (fun ih=>Fi an (vp ih) d t ds up (k ih) (kp ih) x):=by
 cases x with
 |val x L H=>simp only[Fi];exact aX.al2 (nC _ _ _ _) fun x H=>.put fun t=>hk _ _ _ _ _
 |skip L H=>simp only[Fi];exact .put fun t=>hk _ _ _ _ _
 |enter f args L H=>simp only[Fi];exact .callK2 (.ih h _ _) (fun x H=>aX.al2 (nC _ _ _ _) fun x H=>.put fun t=>hk _ _ _ _ _) fun p H=>hp _ _ _ _ _ _
 |defer df L H=>simp only[Fi];exact .notRnd _ (.put fun t=>hk _ _ _ _ _)
 |round o args L H=>simp only[Fi];exact .callK2 (.ih h _ _) (fun x H=>aX.al2 (nC _ _ _ _) fun x H=>.put fun t=>hk _ _ _ _ _) fun p H=>hp _ _ _ _ _ _
 |recover L H =>
  simp only[Fi]
  unfold ll
  split
  ·exact .const _
  ·exact .put fun t=>hk _ _ _ _ _
  ·exact .put fun t=>hk _ _ _ _ _
  ·exact .const _
 |panic v L H=>exact hp _ _ _ _ _ _
theorem mT(h:xN c R){ops:Array Oper}{k:bm->Es}{kp:bm->List fo->Es}(hk:∀ t L ds up H,aX c R (fun ih=>k ih t L ds up H))(hp:∀ p t L ds up H,aX c R (fun ih=>kp ih p t L ds up H)):∀(l:List Oper) t L ds up H,
 aX c R (fun ih=>nJ E an ops (vp ih) l (k ih) (kp ih) t L ds up H)
 |[],t,L,ds,up,H=>hk _ _ _ _ _
 |o::l,t,L,ds,up,H=>.want (fun t=>aX.al2 (sU _ _ _ _ _ _) fun t x=>OJ h (fun t L ds up H=>mT h hk hp l t L ds up H) hp x) (fun t=>.put fun t=>mT h hk hp l t L ds up H)
theorem qO{κ:bm->T LD->LD->LS->DH->ag}(h:∀ t x L H,aX c R (fun ih=>κ ih t x L H))(t:T LD)(x:xO):aX c R (fun ih=>oS (κ ih) t x):=by
 unfold oS
 split
 ·simp_all
 ·exact .const _
theorem FO{o:Oper}{hist:List (LS×DH)}{n w:Nat}{bs:T Nat}{t:T LD}{L:LS}{H:DH}{κ:bm->T LD->LD->LS->DH->Nat->ag}(h:∀ t x L H b,aX c R (fun ih=>κ ih t x L H b))(kd:Nat):aX c R (fun ih=>pt E an o hist n w bs t L H (κ ih) kd):=by
 unfold pt
 split
 ·split<;>simp_all[aX.al2,sU,qO]
 ·refine .cond _ ?_ (.const _)
  cases oG an o.dst
  all_goals dsimp only
  rotate_left
  ·unfold vq
   split
   ·exact .const _
   ·split
    ·refine aX.al (nz _) fun x=>?_
     split
     ·exact aX.al (Sy _ _ _ _ _) fun _=>h _ _ _ _ _
     ·exact .const _
    ·exact .const _
  unfold vt
  split
  ·exact .const _
  ·split
   ·simp_all[aX.al2,sU,qO]
   ·have q (M G r):aX c R (fun ih=>jB o.op E false t (eX M r) (cH G (r.map (·.2))) fun t x=>oS (fun t x _ _=>κ ih t x L H (bif sD an o.dst then n else n - w)) t x):=aX.al2 (sU _ _ _ _ _ _) fun t x=>qO (fun t x _ _=>h _ _ _ _ _) t x
    unfold KV
    split
    ·simp_all[aX.al,nz,Jw]
    ·exact q _ _ _
 ·simp_all[aX.al2,sU,qO]
 ·exact .const _
theorem aX.drop{t:T LD}{d:Option Tmp}{κ:bm->T LD->ag}(h:∀ t,aX c R (fun ih=>κ ih t)):aX c R (fun ih=>HP t d (κ ih)):=by
 cases d with
 |none=>exact h _
 |some d=>simp only[HP,T.setQ_eq];exact h _
theorem Mo(h:xN c R){t:T LD}{κ:bm->T LD->LD->LS->DH->ag}(hk:∀ t x L H,aX c R (fun ih=>κ ih t x L H)){kp:bm->List fo->LS->DH->ag}(hp:∀ p L H,aX c R (fun ih=>kp ih p L H))(x:xO):aX c R (fun ih=>Bu (vp ih) t (κ ih) (kp ih) x):=by
 cases x with
 |val x L H=>exact hk _ _ _ _
 |skip L H=>exact hk _ _ _ _
 |enter f args L H=>exact .callK2 (.ih h _ _) (fun x H=>hk _ _ _ _) fun p H=>hp _ _ _
 |_=>exact .const _
theorem gV(h:xN c R){ops:Array Oper}{k:bm->T LD->LS->DH->ag}(hk:∀ t L H,aX c R (fun ih=>k ih t L H)){kp:bm->List fo->T LD->LS->DH->ag}(hp:∀ p t L H,aX c R (fun ih=>kp ih p t L H)):∀(sc:List (Option Nat×Nat)) hist n bs t L H,aX c R (fun ih=>fU E an ops (vp ih) (k ih) (kp ih) sc hist n bs t L H)
 |[],hist,n,bs,t,L,H=>hk _ _ _
 |(w,i)::sc,hist,n,bs,t,L,H=>by
  simp only[fU]
  split
  ·exact .const _
  ·split
   ·refine .want (fun t=>FO (fun t x L H b=>?_) _) (fun t=>.put fun t=>?_)
    ·exact aX.al2 (nC _ _ _ _) fun x H=>.put fun t=>by simp only[fg];exact gV h hk hp sc _ _ _ _ _ _
    ·simp only[fg];exact gV h hk hp sc _ _ _ _ _ _
   ·refine .want (fun t=>aX.al2 (sU _ _ _ _ _ _) fun t x=>Mo h (fun t x L H=>?_) (fun p L H=>?_) x) (fun t=>.put fun t=>?_)
    ·exact aX.al2 (nC _ _ _ _) fun x H=>.put fun t=>by simp only[fg];exact gV h hk hp sc _ _ _ _ _ _
    ·cases sc with
     |nil =>
      simp only
      split
      ·exact aX.drop fun t=>hp _ _ _ _
      ·exact .const _
     |cons x sc=>exact .const _
    ·simp only[fg];exact gV h hk hp sc _ _ _ _ _ _
variable{f:FuncId}{fn:Func}{go:bm->rF}
theorem Ja(h:xN c R)(hg:∀ t L todo ds m up H,aX c R (fun ih=>go ih t L todo ds m up H))(cd:Code)(k:List Item)(t:T LD)(L:LS)(ds:List pG)(up:Option eH)(H:DH):aX c R (fun ih=>kH cd E an f fn (go ih) (vp ih) k t L ds up H):=by
 cases cd with
 |ret=>exact .notRnd _ (hg _ _ _ _ _ _ _)
 |skip=>exact hg _ _ _ _ _ _ _
 |label _=>exact hg _ _ _ _ _ _ _
 |seq _ _=>exact hg _ _ _ _ _ _ _
 |block _ _=>exact hg _ _ _ _ _ _ _
 |loop _=>exact hg _ _ _ _ _ _ _
 |scope _=>exact hg _ _ _ _ _ _ _
 |exit id =>
  simp only[kH];unfold zm;split;· exact hg _ _ _ _ _ _ _
  ·exact .const _
 |goto l =>
  simp only[kH];unfold zm;split;· exact hg _ _ _ _ _ _ _
  ·exact .const _
 |cond cc a b =>
  simp only[kH,qa]
  exact aX.al (cJ _) fun d=>.brD _ (hg _ _ _ _ _ _ _) (hg _ _ _ _ _ _ _)
 |region id ops draw =>
  cases draw with
  |true =>
   simp only[kH]
   split
   ·exact .const _
   split
   ·exact gV h (fun _ _ _=>hg _ _ _ _ _ _ _) (fun _ _ _ _=>hg _ _ _ _ _ _ _) _ _ _ _ _ _ _
   ·exact .const _
  |false =>
   simp only[kH]
   split
   rotate_left
   ·exact .const _
   ·exact mT h (fun t L ds up H=>hg _ _ _ _ _ _ _) (fun p t L ds up H=>hg _ _ _ _ _ _ _) _ _ _ _ _ _
 |rangeFunc g ps a b =>
  simp only[kH]
  refine aX.al (cJ _) fun d=>?_
  unfold AD IX
  split
  ·split
   ·refine .notRnd _ (.callK2 (.ih h _ _) (fun x H=>?_) fun p H=>hg _ _ _ _ _ _ _)
    unfold zf
    split
    ·simp_all
    ·exact .const _
   ·exact .const _
  ·exact .const _
 |refuse _=>exact .const _
theorem Sl{go1 go2:rF}{t:T LD}{L:LS}{ds:List pG}{up:Option eH}{d:D}{u:eH}{H:DH}{y z:gI}(e:pC go1 t L ds up (some ⟨.ret d,some u,H⟩)=some z)(h:go2 t L [] ds (uh u) up H=some y):pC go2 t L ds up (some ⟨.ret d,some u,H⟩)=some y:=by
 cases u with
 |run=>cases e
 |round _=>cases e
 |returning=>exact h
 |panicking c =>
  cases c with
  |nil=>exact h
  |cons x r=>obtain⟨v,q⟩:=x;cases q<;>exact h
theorem Pa{go1 go2:rF}{t:T LD}{L:LS}{ds:List pG}{up:Option eH}{c:List fo}{u:eH}{H:DH}{y z:gI}(e:pC go1 t L ds up (some ⟨.pan c,some u,H⟩)=some z)(h:go2 t L [] ds (AF u c) up H=some y):pC go2 t L ds up (some ⟨.pan c,some u,H⟩)=some y:=by
 cases u with
 |run=>cases e
 |round _=>cases e
 |returning=>exact h
 |panicking o=>exact h
theorem wB(t:T LD)(L:LS)(up:Option eH)(H:DH)(m:eH):aX c R (fun _=>iW E an fn t L up H m):=.const _
theorem FN(h:xN c R)(hg:∀ t L todo ds m up H,aX c R (fun ih=>go ih t L todo ds m up H))(t:T LD)(L:LS)(todo:List Item)(ds:List pG)(m:eH)(up:Option eH)(H:DH):aX c R (fun ih=>sE E an f fn (go ih) (vp ih) t L todo ds m up H):=by
 have unw:∀ m,aX c R (fun ih=>ir ds E an fn (go ih) (vp ih) t L m up H):=fun m=>by
  cases ds with
  |nil=>exact wB t L up H m
  |cons x ds =>
   cases x with
   |coll o =>
    simp only[ir]
    unfold rg
    split
    ·simp_all
    ·exact .const _
   |call x =>
   obtain⟨f,cap,args⟩:=x
   intro y e
   simp only[ir]at e ⊢
   obtain⟨u,H',⟨d,hr,hne,e'⟩|⟨c',hr,e'⟩⟩:=xd e
   ·obtain⟨n1,hn1⟩:=aX.ih h (.call f (args++cap) (some m)) H _ hr
    obtain⟨n2,hn2⟩:=hg _ _ _ _ _ _ _ y e'
    refine⟨max n1 n2,fun q hq=>?_⟩
    grind [vp,Sl]
   ·obtain⟨n1,hn1⟩:=aX.ih h (.call f (args++cap) (some m)) H _ hr
    obtain⟨n2,hn2⟩:=hg _ _ _ _ _ _ _ y e'
    refine⟨max n1 n2,fun q hq=>?_⟩
    grind [vp,Pa]
 cases m with
 |run =>
  cases todo with
  |nil =>
   simp only[sE,GO,wd]
   split
   ·exact .const _
   simp_all
  |cons i k =>
   cases i with
   |code cd=>exact Ja h hg cd _ _ _ _ _ _
   |inBlock _=>exact hg _ _ _ _ _ _ _
   |inScope _=>exact hg _ _ _ _ _ _ _
   |inLoop _=>exact hg _ _ _ _ _ _ _
   |beginRound =>
    simp only[sE,GO,LU]
    unfold Gq
    split
    ·unfold Jt
     split
     ·simp_all
     ·exact .const _
    ·exact .const _
   |_=>exact .const _
 |returning=>exact unw _
 |panicking p=>exact unw _
 |round _=>exact .const _
theorem yM(t:T LD):∀ l,Al (uX t l)
 |[]=>.ret []
 |i::r=>(nz _).bind fun x=>(yM t r).map (x::·)
theorem OK{ih' go':bm->rF}(h1:∀ t L todo ds m up H,aX c R (fun ih=>ih' ih t L todo ds m up H))(h2:∀ t L todo ds m up H,aX c R (fun ih=>go' ih t L todo ds m up H))(t:T LD)(L:LS)(todo:List Item)(ds:List pG)(m:eH)(up:Option eH)(H:DH) :
 aX c R (fun ih=>DP an (ih' ih) (go' ih) t L todo ds m up H):=by
 unfold DP
 split
 ·split
  ·exact aX.al (yM _ _) fun xs=>.cond _ (h1 _ _ _ _ _ _ _) (.const _)
  ·exact h2 _ _ _ _ _ _ _
 ·exact h2 _ _ _ _ _ _ _
theorem sF(h:xN c R){go':bm->FuncId->Func->rF}(hg:∀ f fn t L todo ds m up H,aX c R (fun ih=>go' ih f fn t L todo ds m up H))(j:Cd)(H:DH):aX c R (fun ih=>pW E ih (go' ih) j H):=by
 cases j with
 |frame f fn t L todo ds m up=>exact FN h (fun t L todo ds m up H=>OK (fun t L todo ds m up H=>.ih h _ _) (hg f fn) t L todo ds m up H) _ _ _ _ _ _ _
 |call f args up =>
  simp only[pW]
  have ent:aX c R (fun ih=>wV E (go' ih) f args up H):=by
   unfold wV
   split
   ·split
    ·refine .cond _ (.const _) (.cond _ ?_ ?_)
     ·simp only[nT args 0 .leaf (fun t=>go' _ _ _ t _ _ _ _ _ _)]
      intro y e
      change pU H (go' R f _ (gc args 0 T.leaf id) [] _ [] eH.run up H)=some y at e
      cases ho:go' R f ‹Func› (gc args 0 T.leaf id) [] [Item.code ‹Code›] [] eH.run up H with
      |none=>rw[ho]at e;cases e
      |some o =>
       obtain⟨n,hn⟩:=hg _ _ _ _ _ _ _ _ _ o ho
       refine⟨n,fun m hm=>?_⟩
       show pU H (go' (c m) f _ (gc args 0 T.leaf id) [] _ [] eH.run up H)=some y
       rw[show go' (c m) f _ (gc args 0 T.leaf id) [] _ [] eH.run up H=some o from hn m hm,<- ho];exact e
     ·simp only[nT args 0 .leaf (fun t=>go' _ _ _ t _ _ _ _ _ _)]
      exact hg _ _ _ _ _ _ _ _ _
    ·exact .const _
   ·exact .const _
  unfold HW
  split
  ·unfold rQ
   split
   ·split
    ·refine .cond _ ?_ (.const _)
     simp only[rR _ _ _ (fun t=>go' _ _ _ t _ _ _ _ _ _)]
     exact hg _ _ _ _ _ _ _ _ _
    ·exact .const _
   ·exact .const _
  ·unfold Lh
   split
   ·exact .const _
   ·exact ent
end
def dZ(E:cw):bm:=fun j H=>open Classical in if h:∃ o n,dK E n j H=some o then some h.choose else none
theorem DO(E:cw):∀ n j H o,dK E n j H=some o->dK E (n+1) j H=some o
 |0,_,_,_,h=>by cases h
 |n+1,j,H,o,h=>by
  have hl:xN (fun _=>dK E (n+1)) (dK E n):=fun j H o h=>⟨0,fun _ _=>DO E n j H o h⟩
  obtain⟨k,hk⟩:=sF (E:=E) hl (go':=fun ih=>JQ ih) (fun f fn t L todo ds m up H=>.ih hl _ _) j H o h
  exact hk k (Nat.le_refl _)
theorem BE(E:cw){n m:Nat}(hm:n<=m){j:Cd}{H:DH}{o:gI}(h:dK E n j H=some o):dK E m j H=some o:=by
 induction hm with
 |refl=>exact h
 |step _ ih=>exact DO E _ j H o ih
theorem MB{E:cw}{n:Nat}{j:Cd}{H:DH}{o:gI}(h:dK E n j H=some o):dZ E j H=some o:=by
 have hex:∃ o n,dK E n j H=some o:=⟨o,n,h⟩
 unfold dZ
 rw[dif_pos hex]
 obtain⟨m,hm⟩:=hex.choose_spec
 have h1:=BE E (Nat.le_max_left n m) h
 grind [BE,Nat.le_max_right,Option.some.inj]
theorem wa{E:cw}{j:Cd}{H:DH}{o:gI}(h:dZ E j H=some o):∃ n,dK E n j H=some o:=by
 unfold dZ at h
 split at h
 ·grind
 ·cases h
theorem CS(E:cw):xN (dK E) (dZ E):=fun j H o h=>by
 obtain⟨n,hn⟩:=wa h
 exact⟨n,fun m hm=>BE E hm hn⟩
theorem HQ(E:cw)(j:Cd)(H:DH):dZ E j H=pW E (dZ E) (JQ (dZ E)) j H:=by
 cases h:pW E (dZ E) (JQ (dZ E)) j H with
 |some o =>
  obtain⟨n,hn⟩:=sF (E:=E) (CS E) (go':=fun ih=>JQ ih) (fun f fn t L todo ds m up H=>.ih (CS E) _ _) j H o h
  exact MB (n:=n+1) (hn n (Nat.le_refl _))
 |none =>
  cases h2:dZ E j H with
  |none=>rfl
  |some o =>
   obtain⟨n,hn⟩:=wa h2
   cases n with
   |zero=>cases hn
   |succ n =>
    have hl:xN (fun _=>dZ E) (dK E n):=fun j H o h=>⟨0,fun _ _=>MB h⟩
    obtain⟨k,hk⟩:=sF (E:=E) hl (go':=fun ih=>JQ ih) (fun f fn t L todo ds m up H=>.ih hl _ _) j H o hn
    have h3:pW E (dZ E) (JQ (dZ E)) j H=some o:=hk k (Nat.le_refl _)
    grind
theorem DK(E:cw):∀ n,JY E (dZ E) n=dZ E
 |0=>rfl
 |n+1=>by
  funext j H
  simp_all[JY,DK,HQ]
theorem FZ{E:cw}(hO:Nj E):BY E (dZ E):=by
 refine⟨⟨fun f args up H out e g hH hok vs upv hr hu=>?_,fun o args H out e g hH hok vs l v hr ho=>?_⟩,fun f fn t L todo ds m up H out e b P0 g tv LO dsv mv upv rdv hH hf hd hm hu=>?_⟩
 ·obtain⟨n,hn⟩:=wa e
  exact(ni hO n).call.c f args up H out hn g hH hok vs upv hr hu
 ·obtain⟨n,hn⟩:=wa e
  exact(ni hO n).call.r o args H out hn g hH hok vs l v hr ho
 ·obtain⟨n,hn⟩:=wa e
  exact(ni hO n).frame f fn t L todo ds m up H out hn b P0 g tv LO dsv mv upv rdv hH hf hd hm hu
end Go.AI
set_option linter.all false
noncomputable section
namespace Go.Proofs.YtenibcfppefobaaGreatDoor.Rd
open Go.AI Go.Proofs Go.ChangeShapes Go.Proofs.YtenibcfppefobaaGreatDoor
inductive Ck where
 |bool|int|str|sl (t:Nat)
def Kd:List Nat:=[22]
def LK(P:Program)(HE:Nat->Option (List Ck)):List Field->Nat->Option (List Ck)
 |[],_=>some []
 |f::r,off=>bif Nat.beq f.offset off then(match HE f.type with
  |some l=>bif Nat.beq l.length (P.cellsOf f.type)then(match LK P HE r (off+l.length)with
   |some m=>some (l++m)
   |none=>none)else none
  |none=>none)else none
def FB(P:Program):Nat->TypeId->Option (List Ck)
 |0,_=>none
 |n+1,t=>match P.underlying t with
  |some .bool=>some [.bool]
  |some (.int .i64)=>some [.int]
  |some .string=>some [.str]
  |some (.slice _)=>bif Kd.contains t then some [.sl t] else none
  |some (.struct fs)=>LK P (FB P n) fs.toList 0
  |_=>none
abbrev IS(n:Nat)(t:TypeId):Option (List Ck):=FB Tryz.prog n t
def HE(t:Nat):List Ck:=match Tryz.prog.underlying t with
 |some (.slice e)=>(IS 8 e).getD []
 |_=>[]
def Wk(t:Nat):Bool:=match Tryz.prog.underlying t with
 |some (.slice e)=>(match IS 8 e with
  |some l=>Nat.blt 0 l.length&&(Nat.beq (Tryz.prog.cellsOf e) l.length&&((match size Tryz.prog e with
   |some n=>Nat.beq n l.length
   |none=>false)&&Nat.blt 0 (Tryz.prog.bytesOf e)))
  |none=>false)
 |_=>false
theorem Kl:(Kd.all fun t=>(Nat.blt t 512&&!Nat.beq t 127)&&Wk t)=true:=by kernel_rfl
def sC(t i:Nat):Ck:=(HE t).getD (i%(HE t).length) .bool
def bytesOf(s:ByteArray):List Nat:=s.data.toList.map UInt8.toNat
theorem Jq(s:ByteArray):av (bytesOf s)=s:=by
 obtain⟨a⟩:=s
 simp only[av,bytesOf,List.map_map]
 congr 1
 have:(UInt8.ofNat ∘ UInt8.toNat)=id:=by funext x;simp
 simp_all
theorem MH(s:ByteArray):∀ b∈bytesOf s,b<256:=by
 intro b hb
 simp only[bytesOf,List.mem_map]at hb
 obtain⟨x,_,rfl⟩:=hb
 exact x.toNat_lt
def EF:Option Nat->Nat
 |none=>0
 |some n=>n+1
theorem EY(o:Option Nat):Hc (EF o)=o:=by cases o<;>rfl
def Ek(N t:Nat)(a:Addr)(len cap:Nat):Option V :=
 if cap=0 then(if len=0 then some (.slice ⟨a.block,EF a.spot,a.off⟩ 0 0 (some 0) 0)else none)
 else if a.spot=none/\len<=cap/\a.block<N/\0<(HE t).length then some (.slice ⟨a.block,a.off*512+t,1+a.off⟩ 0 len (some cap) (HE t).length)else none
def sW(N:Nat):Ck->Value->Option V
 |.bool,.bool b=>some (.bool b)
 |.int,.int .i64 n=>some (.int .i64 n)
 |.str,.string s=>some (.str (bytesOf s))
 |.sl _,.slice none 0 0=>some .nilslice
 |.sl t,.slice (some a) len cap=>Ek N t a len cap
 |_,_=>none
def Ro(N:Nat):aw:=fun f _=>if f<N then some ⟨f,1,0⟩else none
theorem DM{N:Nat}{k:Ck}{v:Value}{x:V}(h:sW N k v=some x):den (Ro N) x=some v:=by
 unfold sW at h
 split at h
 ·cases h;rfl
 ·cases h;rfl
 ·cases h;simp only[den,Jq]
 ·cases h;rfl
 ·rename_i t a len cap
  unfold Ek at h
  split at h
  ·rename_i hc
   split at h
   ·rename_i hl
    cases h;subst hc;subst hl
    simp only[den,gt,if_true,and_self,EY]
   ·cases h
  ·split at h
   ·rename_i hc
    obtain⟨h1,h2,h3,h4⟩:=hc
    cases h
    have hr:Ro N a.block (a.off*512+t)=some ⟨a.block,1,0⟩:=by simp[Ro,h3]
    have:=cX (ρ:=Ro N) (a:=⟨a.block,a.off*512+t,1+a.off⟩) (z:=0) (len:=len) (cap:=some cap) (sz:=(HE t).length) hr (by simp[be]) (by simp) (by simpa[bX]using h2) h4
    rw[this]
    obtain⟨b,o,sp⟩:=a
    simp only at h1
    subst h1
    simp[be,bX]
   ·cases h
 ·cases h
def gG(N:Nat)(t:Nat->Ck):Nat->List Value->List V
 |_,[]=>[]
 |i,c::r=>match sW N (t i) c with
  |some x=>x::gG N t (i+1) r
  |none=>[]
theorem xI{N:Nat}{t:Nat->Ck}:∀(i:Nat) (cs:List Value) (j:Nat) (x:V),(gG N t i cs)[j]? = some x->∃ y,den (Ro N) x=some y/\cs[j]? = some y
 |i,[],j,x,h=>by simp[gG]at h
 |i,c::r,j,x,h=>by
  simp only[gG]at h
  split at h
  ·rename_i x' hx
   cases j with
   |zero=>simp at h;subst h;exact⟨c,DM hx,rfl⟩
   |succ j=>exact xI (i+1) r j x (by simpa using h)
  ·simp at h
def JF(N:Nat):Value->Option V
 |.int k n=>some (.int k n)
 |.nilIface=>some .nilIface
 |.iface te (.pointer (some ⟨b,off,none⟩))=>if b<N then some (.iface te (.ptr ⟨b,0,1+off⟩))else none
 |_=>none
theorem Mz{N:Nat}{v:Value}{x:V}(h:JF N v=some x):den (Ro N) x=some v:=by
 unfold JF at h
 grind [Ro,den,gZ]
def jm(N:Nat):List Value->Option (List V)
 |[]=>some []
 |c::r=>match JF N c with
  |some x=>match jm N r with
   |some l=>some (x::l)
   |none=>none
  |none=>none
theorem xK{N:Nat}:∀ {l:List Value} {m:List V},jm N l=some m->m.length=l.length/\∀(i:Nat) (x:V),m[i]? = some x->∃ y,den (Ro N) x=some y/\l[i]? = some y
 |[],m,h=>by cases h;exact⟨rfl,fun i x h=>by simp at h⟩
 |c::r,m,h=>by
  simp only[jm]at h
  split at h
  ·rename_i x hx
   split at h
   ·rename_i l hl
    cases h
    obtain⟨h1,h2⟩:=xK hl
    refine⟨by simp[h1],fun i z hz=>?_⟩
    cases i with
    |zero=>simp at hz;subst hz;exact⟨c,Mz hx,rfl⟩
    |succ i=>simpa using h2 i z (by simpa using hz)
   ·cases h
  ·cases h
def uL(N:Nat)(c:List Value):List mf:=match jm N c with
 |some l=>[⟨127,1,l⟩]
 |none=>[]
def oR(N:Nat)(c:List Value):List mf:=uL N c++(List.range c.length).flatMap fun off=>Kd.map fun t=>⟨off*512+t,1+off,gG N (sC t) 0 (c.drop off)⟩
def zT(N:Nat):Option Obj->dG
 |some (.cells c _ _)=>.ro (oR N c.toList)
 |_=>.ro []
theorem wy{v:Nat}{u:mf}:∀ {vers:List mf},u∈vers->u.v=v->(∀ u'∈vers,u'.v=v->u'=u)->bj vers v=some u
 |[],h,_,_=>by cases h
 |w::r,h,hv,hu=>by
  simp only[bj]
  cases hb:Nat.beq w.v v with
  |true=>rw[hu w (by simp) (Nat.eq_of_beq_eq_true hb)];rfl
  |false =>
   rcases List.mem_cons.1 h with rfl|h
   ·simp_all
   ·exact wy h hv fun u' hu'=>hu u' (List.mem_cons_of_mem _ hu')
theorem Kb{t:Nat}(h:t∈Kd):t<512/\t≠127:=by
 have:=List.all_eq_true.1 Kl t h
 simp only[Bool.and_eq_true,Bool.not_eq_true']at this
 refine⟨Nat.lt_of_succ_le (Nat.le_of_ble_eq_true this.1.1),fun e=>?_⟩
 simp_all
theorem Kc{t:Nat}(h:t∈Kd):t<512:=(Kb h).1
theorem GF{N:Nat}{c:List Value}{u:mf}(h:u∈uL N c):u.v=127/\u.lo=1/\jm N c=some u.cells:=by
 grind [uL]
theorem KM{N:Nat}{c:List Value}{u:mf}(h:u∈(List.range c.length).flatMap fun off=>Kd.map fun t=>(⟨off*512+t,1+off,gG N (sC t) 0 (c.drop off)⟩:mf)):∃ off t,off<c.length/\t∈Kd/\u=⟨off*512+t,1+off,gG N (sC t) 0 (c.drop off)⟩:=by
 grind
theorem Ka{t off:Nat}(h:t∈Kd):off*512+t≠127:=by
 have:=Kb h;omega
theorem Bl{N:Nat}{c:List Value}{off t:Nat}(h:off<c.length)(ht:t∈Kd):bj (oR N c) (off*512+t)=some ⟨off*512+t,1+off,gG N (sC t) 0 (c.drop off)⟩:=by
 refine wy (List.mem_append_right _ ?_) rfl ?_
 ·simp only[List.mem_flatMap,List.mem_range,List.mem_map]
  grind
 ·intro u' hu' hv
  rcases List.mem_append.1 hu' with hu'|hu'
  ·rw[(GF hu').1]at hv
   exact absurd hv.symm (Ka ht)
  ·obtain⟨o,t',ho,ht',rfl⟩:=KM hu'
   simp only at hv
   have h1:=Kc ht
   have h2:=Kc ht'
   grind
theorem yj{N:Nat}{c:List Value}{l:List V}(h:jm N c=some l):bj (oR N c) 127=some ⟨127,1,l⟩:=by
 have:uL N c=[⟨127,1,l⟩]:=by unfold uL;rw[h]
 unfold oR
 rw[this]
 rfl
def QV(N:Nat)(W:World):Nat->S
 |0=>⟨.leaf,0⟩
 |n+1=>(QV N W n).alloc (zT N W.heap[n]?)
theorem ku(N:Nat)(W:World):∀ n,(QV N W n).next=n
 |0=>rfl
 |n+1=>by simp only[QV,S.next_alloc,ku N W n]
theorem ur(N:Nat)(W:World):∀ n f,(QV N W n).get f=if f<n then some (zT N W.heap[f]?)else none
 |0,f=>by simp only[QV,S.get_eq,T.get_leaf];simp
 |n+1,f=>by
  simp only[QV,S.get_alloc,ku,ur N W n f]
  grind
def bS(W:World):S:=QV W.heap.size W W.heap.size
theorem uV{W:World}{f:Nat}{B:dG}(h:(bS W).get f=some B):f<W.heap.size/\B=zT W.heap.size W.heap[f]?:=by
 grind [bS,ur]
theorem MI(N:Nat)(o:Option Obj):∃ vs,zT N o=.ro vs:=by
 unfold zT
 split
 ·grind
 grind
theorem GR(W:World):HR (Ro W.heap.size) (bS W) W:=by
 refine⟨?_,?_,?_,?_,?_,?_⟩
 ·intro f v hf
  unfold bS at hf
  rw[ku]at hf
  simp[Ro,show ¬ f<W.heap.size by omega]
 ·intro f v l f' v' l' e e' hb
  unfold Ro at e e'
  split at e
  ·split at e'
   ·cases e;cases e';exact⟨hb,rfl⟩
   ·cases e'
  ·cases e
 ·intro f v l e
  unfold Ro at e
  split at e
  ·rename_i hf;cases e;exact hf
  ·cases e
 ·intro f B hB
  obtain⟨hf,rfl⟩:=uV hB
  unfold zT
  split
  ·rename_i c e fz ho
   intro u hu
   have hr:∀ v,Ro W.heap.size f v=some ⟨f,1,0⟩:=fun v=>by simp[Ro,hf]
   rcases List.mem_append.1 hu with hu|hu
   ·obtain⟨h1,h2,h3⟩:=GF hu
    obtain⟨h4,h5⟩:=xK h3
    refine⟨⟨⟨f,1,0⟩,c,e,fz,hr _,ho,by simp[h2],fun i x hx=>?_⟩,⟨⟨f,1,0⟩,c,e,fz,hr _,rfl,ho,fun _=>⟨h2.symm,by rw[h4,Array.length_toList]⟩⟩⟩
    obtain⟨y,h6,h7⟩:=h5 i x hx
    refine⟨y,h6,?_⟩
    rw[Array.getElem?_toList]at h7
    rw[h2]
    simpa using h7
   ·obtain⟨off,t,hoff,ht,rfl⟩:=KM hu
    refine⟨⟨⟨f,1,0⟩,c,e,fz,hr _,ho,by simp,fun i x hx=>?_⟩,⟨⟨f,1,0⟩,c,e,fz,hr _,rfl,ho,fun hv=>absurd hv (Ka ht)⟩⟩
    obtain⟨y,h1,h2⟩:=xI 0 _ i x hx
    refine⟨y,h1,?_⟩
    rw[List.getElem?_drop,Array.getElem?_toList]at h2
    simp only
    rw[show 1+off - 1+i=off+i by omega]
    exact h2
  ·intro u hu;cases hu
 ·intro f B hB
  have:=(uV hB).1
  unfold bS
  rw[ku];exact this
 ·intro f B hB hn
  obtain⟨_,rfl⟩:=uV hB
  obtain⟨vs,hv⟩:=MI W.heap.size W.heap[f]?
  exact absurd hv (hn vs)
theorem NG(W:World):WF (bS W):=(GR W).dom
end Go.Proofs.YtenibcfppefobaaGreatDoor.Rd
set_option linter.all false
noncomputable section
namespace Go.Proofs.YtenibcfppefobaaGreatDoor.Rd
open Go.AI Go.Proofs Go.ChangeShapes Go.Proofs.YtenibcfppefobaaGreatDoor
def js(N:Nat):List Ck->List Value->List V->Prop
 |[],[],[]=>True
 |k::ks,c::cs,x::xs=>sW N k c=some x/\js N ks cs xs
 |_,_,_=>False
theorem js.get{N:Nat}:∀ {ks:List Ck} {cs:List Value} {l:List V},js N ks cs l->ks.length=l.length/\cs.length=l.length/\∀(j:Nat) (x:V),l[j]? = some x->∃ y,cs[j]? = some y/\sW N (ks.getD j .bool) y=some x
 |[],[],[],_=>⟨rfl,rfl,fun j x h=>by simp at h⟩
 |k::ks,c::cs,x::xs,h=>by
  obtain⟨h1,h2,h3⟩:=js.get h.2
  refine⟨by simp[h1],by simp[h2],fun j z hz=>?_⟩
  cases j with
  |zero=>simp at hz;subst hz;exact⟨c,rfl,h.1⟩
  |succ j=>simpa using h3 j z (by simpa using hz)
 |[],[],_::_,h=>h.elim
 |[],_::_,_,h=>h.elim
 |_::_,[],_,h=>h.elim
 |_::_,_::_,[],h=>h.elim
theorem js.den{N:Nat}:∀ {ks:List Ck} {cs:List Value} {l:List V},js N ks cs l->aL (Ro N) l=some cs
 |[],[],[],_=>rfl
 |k::ks,c::cs,x::xs,h=>by simp only[aL,DM h.1,js.den h.2]
 |[],[],_::_,h=>h.elim
 |[],_::_,_,h=>h.elim
 |_::_,[],_,h=>h.elim
 |_::_,_::_,[],h=>h.elim
theorem MY{N:Nat}{k:Ck}{v:Value}{x:V}(h:sW N k v=some x):x.one=true:=by
 unfold sW at h
 split at h
 ·cases h;rfl
 ·cases h;rfl
 ·cases h;rfl
 ·cases h;rfl
 ·unfold Ek at h
  (repeat' split at h)<;>first|(cases h;done)|(cases h;rfl)
 ·cases h
theorem js.one{N:Nat}:∀ {ks:List Ck} {cs:List Value} {l:List V},js N ks cs l->l.all V.one=true
 |[],[],[],_=>rfl
 |k::ks,c::cs,x::xs,h=>by simp only[List.all_cons,MY h.1,js.one h.2,Bool.and_self]
 |[],[],_::_,h=>h.elim
 |[],_::_,_,h=>h.elim
 |_::_,[],_,h=>h.elim
 |_::_,_::_,[],h=>h.elim
theorem xq{α:Type}{Q:Nat->α->Prop}:∀(n:Nat),(∀ k,k<n->∃ z,Q k z)->∃ xs:List α,xs.length=n/\∀ k z,xs[k]? = some z->Q k z
 |0,_=>⟨[],rfl,fun k z h=>by simp at h⟩
 |n+1,h=>by
  obtain⟨xs,h1,h2⟩:=xq n fun k hk=>h k (by omega)
  obtain⟨z,hz⟩:=h n (by omega)
  refine⟨xs++[z],by simp[h1],fun k y hy=>?_⟩
  grind
section
variable{H:Type}{enc:TypeId×Value->H}{W:World}{fuel:Nat}{t:TypeId}{cs:List Value}{x:DataW H×List MemPlace}
abbrev Td(enc:TypeId×Value->H)(W:World)(fuel:Nat)(t:TypeId)(cs:List Value):Option (DataW H×List MemPlace):=DataW.trod enc Tryz.prog W 0 (fun _=>true) true fuel t cs
def Wt(t:TypeId)(d:DataW H):Prop:=∀ n∈DataW.weights Tryz.prog t d,n<=reachBytes
theorem mm{e:TypeId}:∀ {ds:List (DataW H)} {d:DataW H},d∈ds->∀ n∈DataW.weights Tryz.prog e d,n∈DataW.weightsAll Tryz.prog e ds
 |[],_,h,_,_=>by cases h
 |x::r,d,h,n,hn=>by
  rw[DataW.weightsAll]
  rcases List.mem_cons.1 h with rfl|h
  ·grind
  ·exact List.mem_append_right _ (mm h n hn)
theorem iP:∀ {ts:List TypeId} {ds:List (DataW H)} {i:Nat} {t:TypeId} {d:DataW H},ts[i]? = some t->ds[i]? = some d->∀ n∈DataW.weights Tryz.prog t d,n∈DataW.weightsEach Tryz.prog ts ds
 |[],_,i,_,_,h,_,_,_=>by simp at h
 |_::_,[],i,_,_,_,h,_,_=>by simp at h
 |t::ts,d::ds,0,_,_,h,k,n,hn=>by
  simp at h k;subst h;subst k
  rw[DataW.weightsEach]
  grind
 |t::ts,d::ds,i+1,_,_,h,k,n,hn=>by
  rw[DataW.weightsEach]
  exact List.mem_append_right _ (iP (ts:=ts) (ds:=ds) (i:=i) (by simpa using h) (by simpa using k) n hn)
theorem zW{N:Nat}{t:Nat->Ck}:∀(m i:Nat) (cs:List Value),(∀ j,j<m->∃ y x,cs[j]? = some y/\sW N (t (i+j)) y=some x) ->
 ∀ j,j<m->∀ y x,cs[j]? = some y->sW N (t (i+j)) y=some x->(gG N t i cs)[j]? = some x
 |0,i,cs,_,j,hj,_,_,_,_=>by omega
 |m+1,i,[],h,j,hj,_,_,e,_=>by simp at e
 |m+1,i,c::cs,h,j,hj,y,x,e,k=>by
  obtain⟨y0,x0,h1,h2⟩:=h 0 (by omega)
  simp at h1;subst h1
  simp only[Nat.add_zero]at h2
  simp only[gG,h2]
  cases j with
  |zero =>
   grind
  |succ j =>
   have ih:=zW m (i+1) cs (fun j hj=>by
    obtain⟨y,x,h3,h4⟩:=h (j+1) (by omega)
    exact⟨y,x,by simpa using h3,by rw[show i+1+j=i+(j+1)by omega];exact h4⟩) j (by omega) y x (by simpa using e) (by rw[show i+1+j=i+(j+1)by omega];exact k)
   simpa using ih
theorem DW{w:World}{a:Addr}{v:Value}(h:w.cell? a=some v):∃ c e fz,w.heap[a.block]? = some (.cells c e fz)/\a.spot=none/\c[a.off]? = some v:=by
 unfold World.cell? at h
 split at h
 ·simp_all
 ·cases h
theorem mt:∀(l:List V) (n:Nat),n<=l.length->aN n l=some (l.take n)
 |l,0,_=>by cases l<;>rfl
 |[],n+1,h=>by simp at h
 |x::r,n+1,h=>by simp only[aN,mt r n (by simpa using h),Option.map,List.take_succ_cons]
end
theorem js.app{N:Nat}:∀ {ks:List Ck} {cs:List Value} {l:List V} {ks':List Ck} {cs':List Value} {l':List V},js N ks cs l->js N ks' cs' l'->js N (ks++ks') (cs++cs') (l++l')
 |[],[],[],_,_,_,_,h=>h
 |k::ks,c::cs,x::xs,_,_,_,h,h'=>⟨h.1,js.app h.2 h'⟩
 |[],[],_::_,_,_,_,h,_=>h.elim
 |[],_::_,_,_,_,_,h,_=>h.elim
 |_::_,[],_,_,_,_,h,_=>h.elim
 |_::_,_::_,[],_,_,_,h,_=>h.elim
mutual
def cnt:D->Nat
 |.row _ l=>xk l+1
 |_=>1
def nl:List D->Nat
 |[]=>0
 |d::r=>cnt d+nl r
def xk:List (List D)->Nat
 |[]=>0
 |c::r=>nl c+xk r
end
theorem DS:∀(a b:List D),nl (a++b)=nl a+nl b
 |[],b=>by simp[nl]
 |d::r,b=>by simp only[List.cons_append,nl,DS r b];omega
theorem vI{H:Type}(d:DataW H):1<=Rows.uptoBulk d:=by
 cases d with
 |lit l=>cases l<;>simp[Rows.uptoBulk]
 |nil=>simp[Rows.uptoBulk]
 |ptr d=>simp[Rows.uptoBulk]
 |slice elems spare=>simp[Rows.uptoBulk]
 |agg parts=>simp[Rows.uptoBulk]
 |iface t d=>simp[Rows.uptoBulk]
 |map entries=>simp[Rows.uptoBulk]
 |held h=>simp[Rows.uptoBulk]
theorem DR{H:Type}:∀(l:List (List D)) (ds:List (DataW H)),l.length=ds.length->(∀(i:Nat) a d,l[i]? = some a->ds[i]? = some d->nl a<=Rows.uptoBulk d)->xk l<=Rows.uptoBulkAll ds
 |[],ds,_,_=>by simp[xk]
 |a::l,[],h,_=>by simp at h
 |a::l,d::ds,h,k=>by
  have h1:=k 0 a d rfl rfl
  have h2:=DR l ds (by simpa using h) fun i a d e1 e2=>k (i+1) a d (by simpa using e1) (by simpa using e2)
  simp only[xk,Rows.uptoBulkAll];omega
inductive Ns:Ck->D->Prop
 |bool (b:Bool):Ns .bool (.bool b)
 |int (n:Int):Ns .int (.int .i64 n)
 |str (l:List Nat):Ns .str (.str l)
 |row (t:Nat) (ly:List Ck) (l:List (List D)):HE t=ly->l.length<2^50->(∀ cs∈l,cs.length=ly.length)->(∀ cs∈l,∀(i:Nat) k d,ly[i]? = some k->cs[i]? = some d->Ns k d)->Ns (.sl t) (.row ly.length l)
def In(ks:List Ck)(ds:List D):Prop:=ds.length=ks.length/\∀(i:Nat) k d,ks[i]? = some k->ds[i]? = some d->Ns k d
theorem In.nil:In [] []:=⟨rfl,fun i k d h=>by simp at h⟩
theorem In.one{k:Ck}{d:D}(h:Ns k d):In [k] [d]:=⟨rfl,fun i k' d' h1 h2=>by
 cases i with
 |zero=>simp at h1 h2;subst h1;subst h2;exact h
 |succ i=>simp at h1⟩
theorem In.app{ks ks':List Ck}{ds ds':List D}(h:In ks ds)(h':In ks' ds'):In (ks++ks') (ds++ds'):=by
 refine⟨by simp[h.1,h'.1],fun i k d h1 h2=>?_⟩
 by_cases hi:i<ks.length
 ·rw[List.getElem?_append_left hi]at h1
  rw[List.getElem?_append_left (by rw[h.1];exact hi)]at h2
  exact h.2 i k d h1 h2
 ·rw[List.getElem?_append_right (by omega)]at h1
  rw[List.getElem?_append_right (by rw[h.1];omega),h.1]at h2
  exact h'.2 _ k d h1 h2
def g0(W:World):Gh:=⟨[],[],[],bS W⟩
theorem Ry{W:World}{f:Nat}(h:f<W.heap.size):(g0 W).Imm f:=by
 refine⟨?_,?_,fun o v h=>?_⟩
 ·show f<(bS W).next
  grind [bS,ku]
 ·show f∉([]:List Nat)
  simp
 ·have h:([]:List (Option (Nat×Nat)))[o]? = some (some (f,v)):=h
  simp at h
section
variable{H:Type}{enc:TypeId×Value->H}{W:World}
def Rd(W:World)(ks:List Ck)(cs:List Value)(b:Nat):Prop:=∃(vs:List V) (ds:List D),js W.heap.size ks cs vs/\RL (g0 W) ds vs/\In ks ds/\nl ds<=b
theorem RL.one{g:Gh}{d:D}{v:V}(h:RD g d v):RL g [d] [v]:=by
 grind [RL]
theorem NQ{ty e:Nat}{ly:List Ck}{kd:Nat->Ck}(hly:HE ty=ly)(hkd:∀ i,kd i=ly.getD (i%ly.length) .bool)(hfv:∀ {N:Nat} {c:List Value} {off:Nat},off<c.length->bj (oR N c) (off*512+ty)=some ⟨off*512+ty,1+off,gG N kd 0 (c.drop off)⟩)(hu:Tryz.prog.underlying ty=some (.slice e))(hc:Tryz.prog.cellsOf e=ly.length)
 (h0:0<ly.length) (hb:0<Tryz.prog.bytesOf e) {fuel:Nat} {cs:List Value} {x:DataW H×List MemPlace} (h:Td enc W fuel ty cs=some x) (hw:Wt ty x.1)
 (hel:∀ n cells y,fuel=n+1->Td enc W n e cells=some y->Wt e y.1->Rd W ly cells (Rows.uptoBulk y.1)):Rd W [.sl ty] cs (Rows.uptoBulk x.1):=by
 rcases DataW.trod_slice hu h with⟨rfl,_⟩|⟨a,len,cap,elems,rest,n,hn,rfl,hx,_,hle,_,hlen,hel',hsp,_⟩
 ·exact⟨[.nilslice],[.row ly.length []],⟨rfl,trivial⟩,RL.one (by rw[RD];exact .inl ⟨rfl,rfl⟩),.one (.row ty ly [] hly (by simp) (fun _ h=>by cases h) (fun _ h=>by cases h)),by simpa[nl,cnt,xk]using vI x.1⟩
 ·subst hn
  by_cases hcap:cap=0
  ·obtain rfl:len=0:=by omega
   subst hcap
   exact⟨[.slice ⟨a.block,EF a.spot,a.off⟩ 0 0 (some 0) 0],[.row ly.length []],⟨by simp only[sW,Ek,if_true,and_self],trivial⟩,RL.one (by rw[RD];exact .inr (.inl ⟨rfl,_,_,_,rfl⟩)),.one (.row ty ly [] hly (by simp) (fun _ h=>by cases h) (fun _ h=>by cases h)),by simpa[nl,cnt,xk]using vI x.1⟩
  ·obtain⟨hrl,hre⟩:=hsp rfl
   have hwe:∀ y,y∈elems->Wt e y.1:=fun y hy m hm=>by
    refine hw m ?_
    rw[hx]
    simp only[DataW.weights,hu]
    exact List.mem_cons_of_mem _ (List.mem_append_left _ (mm (List.mem_map_of_mem hy) m hm))
   have hbn:len*Tryz.prog.bytesOf e<=reachBytes:=by
    have:=hw ((elems.length+rest.length)*Tryz.prog.bytesOf e) (by rw[hx];simp only[DataW.weights,hu,List.length_map];exact List.mem_cons_self)
    grind
   have hfirst:∃ cells,W.cells? 0 (a.add 0) ly.length=some cells:=by
    by_cases h1:0<len
    ·have:=hel' 0 h1
     rw[Nat.zero_mul,hc,List.getElem?_eq_getElem (by omega)]at this
     obtain⟨cells,h2,_⟩:=Option.bind_eq_some_iff.1 this
     grind
    ·have:=hre 0 (by omega)
     rw[show(len+0)*Tryz.prog.cellsOf e=0 by rw[show len=0 by omega];simp,hc,List.getElem?_eq_getElem (by omega)]at this
     obtain⟨cells,h2,_⟩:=Option.bind_eq_some_iff.1 this
     grind
   obtain⟨c0,hc0⟩:=hfirst
   obtain⟨_,hc1,hc2⟩:=World.cells?_some hc0
   have hcell:=hc2 0 h0
   rw[List.getElem?_eq_getElem (by omega)]at hcell
   simp only[Addr.add,if_true]at hcell
   obtain⟨carr,e',fz,hheap,hspot,hcell⟩:=DW hcell
   obtain⟨b,off,spot⟩:=a
   simp only at hspot hheap hcell
   subst hspot
   have hblk:b<W.heap.size:=by
    grind
   have hoff:off<carr.size:=(Array.getElem?_eq_some_iff.1 hcell).1
   obtain⟨zs,hzl,hz⟩:=xq (Q:=fun k (z:List D×List V)=>∃ cells,W.cells? 0 ((⟨b,off,none⟩:Addr).add (k*ly.length)) ly.length=some cells/\js W.heap.size ly cells z.2/\RL (g0 W) z.1 z.2/\In ly z.1/\∀ y,elems[k]? = some y->nl z.1<=Rows.uptoBulk y.1) len (fun k hk=>by
    have:=hel' k hk
    rw[hc,List.getElem?_eq_getElem (by omega)]at this
    obtain⟨cells,h2,h3⟩:=Option.bind_eq_some_iff.1 this
    obtain⟨l,z,h4,h5,h6,h7⟩:=hel n cells _ rfl h3 (hwe _ (List.getElem_mem _))
    exact⟨(z,l),cells,h2,h4,h5,h6,fun y hy=>by rw[List.getElem?_eq_getElem (by omega)]at hy;cases hy;exact h7⟩)
   have hcellat:∀ k,k<len->∀ cells,W.cells? 0 ((⟨b,off,none⟩:Addr).add (k*ly.length)) ly.length=some cells->∀ i,i<ly.length->carr.toList[off+(k*ly.length+i)]? = cells[i]?:=fun k hk cells hcl i hi=>by
    obtain⟨_,h1,h2⟩:=World.cells?_some hcl
    have h3:=h2 i hi
    have h4:((⟨b,off,none⟩:Addr).add (k*ly.length)).add i=⟨b,off+(k*ly.length+i),none⟩:=by
     simp only[Addr.add]
     by_cases hk0:k*ly.length=0
     ·simp_all
     ·by_cases hi0:i=0
      ·simp_all
      ·simp[hk0,hi0];omega
    rw[h4]at h3
    simp only[World.cell?,hheap]at h3
    grind
   have hrow:∀ k,k<len->∀ cells l,W.cells? 0 ((⟨b,off,none⟩:Addr).add (k*ly.length)) ly.length=some cells->js W.heap.size ly cells l->∀ i,i<ly.length->∃ y x,(carr.toList.drop off)[k*ly.length+i]? = some y/\l[i]? = some x/\sW W.heap.size (kd (0+(k*ly.length+i))) y=some x:=fun k hk cells l hcl hab i hi=>by
    obtain⟨h1,h2,h3⟩:=js.get hab
    have hi':i<l.length:=by omega
    obtain⟨y,hy1,hy2⟩:=h3 i l[i] (List.getElem?_eq_getElem hi')
    refine⟨y,l[i],?_,List.getElem?_eq_getElem hi',?_⟩
    ·grind
    ·rw[hkd,Nat.zero_add,Nat.add_comm,Nat.add_mul_mod_self_right,Nat.mod_eq_of_lt hi]
     exact hy2
   have hall:∀ j,j<len*ly.length->∃ y x,(carr.toList.drop off)[j]? = some y/\sW W.heap.size (kd (0+j)) y=some x:=fun j hj=>by
    have hk:j / ly.length<len:=Nat.div_lt_of_lt_mul (by rw[Nat.mul_comm];exact hj)
    obtain⟨cells,h1,h2,_⟩:=hz (j / ly.length) _ (List.getElem?_eq_getElem (by omega))
    obtain⟨y,x,h3,_,h4⟩:=hrow _ hk cells _ h1 h2 (j%ly.length) (Nat.mod_lt _ h0)
    grind [Nat.div_add_mod]
   have hn50:len<2^50:=by
    have:len<=reachBytes:=Nat.le_trans (Nat.le_mul_of_pos_right _ hb) hbn
    unfold reachBytes at this
    omega
   refine⟨[.slice ⟨b,off*512+ty,1+off⟩ 0 len (some cap) ly.length],[.row ly.length (zs.map (·.1))],⟨by simp only[sW,Ek];rw[if_neg hcap,hly,if_pos ⟨trivial,hle,hblk,h0⟩],trivial⟩,RL.one ?_,.one (.row ty ly _ hly (by simp[hzl,hn50]) ?_ ?_),?_⟩
   ·rw[RD]
    refine .inr (.inr ⟨⟨b,off*512+ty,1+off⟩,0,some cap,by simp[hzl],h0,.inl rfl,fun c hc=>by cases hc;simp[hzl,hle],fun _=>Ry hblk,RR.of fun k l0 hk=>?_⟩)
    rw[List.getElem?_map]at hk
    obtain⟨z,hkz,hz0⟩:∃ z,zs[k]? = some z/\z.1=l0:=by
     simp_all
    have hkl:k<len:=by rw[<- hzl];exact(List.getElem?_eq_some_iff.1 hkz).1
    obtain⟨cells,h1,h2,h3,h4,_⟩:=hz k z hkz
    obtain⟨_,l⟩:=z
    simp only at hz0 h2 h3 h4
    subst hz0
    refine⟨l,h4.1,?_,h3,h2.one⟩
    have hg:(bS W).get b=some (.ro (oR W.heap.size carr.toList)):=by
     unfold bS
     rw[ur,if_pos hblk,hheap]
     rfl
    show Go.AI.loadCells (bS W) (bN ⟨b,off*512+ty,1+off⟩ (k*ly.length)) ly.length=some l
    simp only[Go.AI.loadCells,bN,hg,hfv (N:=W.heap.size) (c:=carr.toList) (off:=off) (by simpa using hoff)]
    rw[Nat.ble_eq_true_of_le (show 1+off<=1+off+k*ly.length by omega),cond_true,show 1+off+k*ly.length - (1+off)=k*ly.length by omega]
    obtain⟨k1,k2,k3⟩:=js.get h2
    have hget:∀ i,i<ly.length->((gG W.heap.size kd 0 (carr.toList.drop off)).drop (k*ly.length))[i]? = l[i]?:=fun i hi=>by
     obtain⟨y,x,h4,h5,h6⟩:=hrow k hkl cells l h1 h2 i hi
     rw[List.getElem?_drop,h5]
     refine zW (len*ly.length) 0 _ hall _ ?_ y x h4 h6
     calc k*ly.length+i<k*ly.length+ly.length:=by omega
      _=(k+1)*ly.length:=by rw[Nat.succ_mul]
      _<=len*ly.length:=Nat.mul_le_mul_right _ hkl
    have hlen2:ly.length<=((gG W.heap.size kd 0 (carr.toList.drop off)).drop (k*ly.length)).length:=by
     have:=hget (ly.length - 1) (by omega)
     grind
    rw[mt _ _ hlen2]
    refine congrArg some ?_
    refine List.ext_getElem? fun i=>?_
    by_cases hi:i<ly.length
    ·rw[List.getElem?_take_of_lt hi,hget i hi]
    ·rw[List.getElem?_eq_none (by rw[List.length_take];omega),List.getElem?_eq_none (by omega)]
   ·intro cs hcs
    obtain⟨z,hz1,rfl⟩:=List.mem_map.1 hcs
    obtain⟨k,hk,rfl⟩:=List.mem_iff_getElem.1 hz1
    obtain⟨_,_,_,_,h4,_⟩:=hz k _ (List.getElem?_eq_getElem hk)
    exact h4.1
   ·intro cs hcs
    obtain⟨z,hz1,rfl⟩:=List.mem_map.1 hcs
    obtain⟨k,hk,rfl⟩:=List.mem_iff_getElem.1 hz1
    obtain⟨_,_,_,_,h4,_⟩:=hz k _ (List.getElem?_eq_getElem hk)
    exact h4.2
   ·have:=DR (zs.map (·.1)) (elems.map (·.1)) (by simp[hzl,hlen]) fun i a d e1 e2=>by
     rw[List.getElem?_map]at e1 e2
     cases h1:zs[i]? with
     |none=>rw[h1]at e1;cases e1
     |some z =>
      cases h2:elems[i]? with
      |none=>rw[h2]at e2;cases e2
      |some y =>
       rw[h1]at e1;rw[h2]at e2
       cases e1;cases e2
       obtain⟨_,_,_,_,_,h5⟩:=hz i z h1
       exact h5 y h2
    rw[hx]
    simp only[nl,cnt,Rows.uptoBulk]
    omega
theorem Ha{m:Nat}{P:TypeId->List Value->DataW H->Prop}{cs:List Value}(hP:∀ t ks c y,IS m t=some ks->Tryz.prog.cellsOf t=ks.length->P t c y->Rd W ks c (Rows.uptoBulk y)):∀(fs:List Field) (ys:List (DataW H)) (off:Nat) (ks:List Ck),LK Tryz.prog (FB Tryz.prog m) fs off=some ks->fs.length=ys.length ->
 (∀(i:Nat) f y,fs[i]? = some f->ys[i]? = some y->P f.type ((cs.drop f.offset).take (Tryz.prog.cellsOf f.type)) y)->Rd W ks ((cs.drop off).take ks.length) (Rows.uptoBulkAll ys)
 |[],ys,off,ks,h,_,_=>by
  simp only[LK,Option.some.injEq]at h
  subst h
  exact⟨[],[],by simp[js],by simp only[RL],.nil,by simp[nl]⟩
 |f::r,[],off,ks,_,hl,_=>by simp at hl
 |f::r,y::ys,off,ks,h,hlen,hf=>by
  simp only[LK]at h
  cases ho:Nat.beq f.offset off with
  |false=>rw[ho,cond_false]at h;cases h
  |true =>
   rw[ho,cond_true]at h
   have ho:=Nat.eq_of_beq_eq_true ho
   split at h
   ·rename_i l hl
    cases hc:Nat.beq l.length (Tryz.prog.cellsOf f.type)with
    |false=>rw[hc,cond_false]at h;cases h
    |true =>
     rw[hc,cond_true]at h
     have hc:=Nat.eq_of_beq_eq_true hc
     split at h
     ·rename_i m' hm
      cases h
      obtain⟨v1,d1,a1,a2,a3,a4⟩:=hP f.type l _ y hl hc.symm (hf 0 f y rfl rfl)
      obtain⟨v2,d2,b1,b2,b3,b4⟩:=Ha hP r ys (off+l.length) m' hm (by simpa using hlen) fun i g z e1 e2=>hf (i+1) g z (by simpa using e1) (by simpa using e2)
      refine⟨v1++v2,d1++d2,?_,RL.append a2 b2,a3.app b3,by rw[DS];simp only[Rows.uptoBulkAll];omega⟩
      have:(cs.drop off).take (l++m').length=(cs.drop f.offset).take (Tryz.prog.cellsOf f.type)++(cs.drop (off+l.length)).take m'.length:=by
       rw[ho,<- hc,List.length_append,<- List.drop_drop,<- List.take_add]
      rw[this]
      exact a1.app b1
     ·cases h
   ·cases h
theorem SU:∀(N m:Nat) {fuel:Nat} {t:TypeId} {cs:List Value} {ks:List Ck} {x:DataW H×List MemPlace},fuel<=N->IS m t=some ks->Tryz.prog.cellsOf t=ks.length->Td enc W fuel t cs=some x->Wt t x.1->Rd W ks cs (Rows.uptoBulk x.1):=by
 intro N
 induction N with
 |zero =>
  intro m fuel t cs ks x hN _ _ h _
  obtain rfl:fuel=0:=by omega
  simp[Td,DataW.trod]at h
 |succ N ih =>
  intro m fuel t cs ks x hN hk hcl h hw
  cases m with
  |zero=>change FB Tryz.prog 0 t=_ at hk;rw[FB]at hk;cases hk
  |succ m =>
   change FB Tryz.prog (m+1) t=_ at hk
   rw[FB]at hk
   split at hk
   ·rename_i ht
    cases hk
    obtain⟨b,rfl,_⟩:=DataW.trod_bool ht h
    exact⟨[.bool b],[.bool b],⟨rfl,trivial⟩,RL.one (by simp only[RD]),.one (.bool b),by simpa[nl,cnt]using vI x.1⟩
   ·rename_i ht
    cases hk
    obtain⟨n,rfl,_⟩:=DataW.trod_int ht h
    exact⟨[.int .i64 n],[.int .i64 n],⟨rfl,trivial⟩,RL.one (by simp only[RD]),.one (.int n),by simpa[nl,cnt]using vI x.1⟩
   ·rename_i ht
    cases hk
    obtain⟨s,rfl,_⟩:=DataW.trod_string ht h
    exact⟨[.str (bytesOf s)],[.str (bytesOf s)],⟨rfl,trivial⟩,RL.one (by simp only[RD];exact⟨trivial,MH s⟩),.one (.str _),by simpa[nl,cnt]using vI x.1⟩
   ·rename_i e ht
    cases hc:Kd.contains t with
    |false=>rw[hc,cond_false]at hk;cases hk
    |true =>
     rw[hc,cond_true]at hk
     cases hk
     have hty:t∈Kd:=by simpa using hc
     have hok:=List.all_eq_true.1 Kl t hty
     simp only[Bool.and_eq_true]at hok
     have hok:=hok.2
     unfold Wk at hok
     rw[ht]at hok
     simp only at hok
     have hly:HE t=(IS 8 e).getD []:=by unfold HE;rw[ht]
     split at hok
     ·rename_i l he
      rw[he]at hly
      have hly:HE t=l:=hly
      simp only[Bool.and_eq_true]at hok
      obtain⟨k1,k2,k3,k4⟩:=hok
      have k1:0<l.length:=Nat.lt_of_succ_le (Nat.le_of_ble_eq_true k1)
      have k2:=Nat.eq_of_beq_eq_true k2
      have k4:0<Tryz.prog.bytesOf e:=Nat.lt_of_succ_le (Nat.le_of_ble_eq_true k4)
      exact NQ (kd:=sC t) hly (fun i=>by unfold sC;rw[hly]) (fun h=>Bl h hty) ht k2 k1 k4 h hw fun n cells y hf hy hwy=>ih 8 (by omega) he k2 hy hwy
     ·cases hok
   ·rename_i fs ht
    obtain⟨xs,n,hn,hx,hl,hsz,hf⟩:=DataW.trod_struct ht h
    have hr:=Ha (W:=W) (m:=m) (cs:=cs) (P:=fun t c y=>∃ z,Td enc W n t c=some z/\z.1=y/\Wt t z.1) (fun t ks c y hks h0 ⟨z,h1,h2,h3⟩=>by rw[<- h2];exact ih m (by omega) hks h0 h1 h3) fs.toList (xs.map (·.1)) 0 ks hk (by simp[hsz]) (fun i f y e1 e2=>by
     have e3:fs[i]? = some f:=by rw[<- Array.getElem?_toList];exact e1
     rw[List.getElem?_map]at e2
     cases e4:xs[i]? with
     |none=>rw[e4]at e2;cases e2
     |some z =>
      rw[e4]at e2;cases e2
      refine⟨z,(hf i f e3).trans e4,rfl,fun q hq=>hw q ?_⟩
      rw[hx]
      simp only[DataW.weights,ht]
      refine iP (i:=i) (t:=f.type) (d:=z.1) ?_ ?_ q hq
      ·rw[List.getElem?_map,Array.getElem?_toList,e3];rfl
      ·rw[List.getElem?_map,e4];rfl)
    rw[List.drop_zero,List.take_of_length_le (by omega)]at hr
    obtain⟨vs,ds,r1,r2,r3,r4⟩:=hr
    exact⟨vs,ds,r1,r2,r3,by rw[hx];simp only[Rows.uptoBulk];omega⟩
   ·cases hk
end
end Go.Proofs.YtenibcfppefobaaGreatDoor.Rd
set_option linter.all false
noncomputable section
namespace Go.AI
theorem By(E:cw)(n:Nat):JY E (dZ E) n=dZ E:=@DK ⟨fun _=>True,[],fun _ _ _ h=>h⟩ E n
theorem Bz(E:cw)(j:Cd)(H:DH):dZ E j H=pW E (dZ E) (JQ (dZ E)) j H:=@HQ ⟨fun _=>True,[],fun _ _ _ h=>h⟩ E j H
def tA(key:Nat):Code->List Item->Option (List Item)
 |.seq a b,k=>qH key (.code (.seq a b)::k) (match tA key a (.code b::k)with
  |some l=>some l
  |none=>tA key b k)
 |.cond c a b,k=>qH key (.code (.cond c a b)::k) (match tA key a k with
  |some l=>some l
  |none=>tA key b k)
 |.block id c,k=>qH key (.code (.block id c)::k) (tA key c (.inBlock id::k))
 |.loop c,k=>qH key (.code (.loop c)::k) (tA key c (.inLoop c::k))
 |.scope c,k=>qH key (.code (.scope c)::k) (tA key c (.inScope c::k))
 |c,k=>qH key (.code c::k) none
 where qH (key:Nat) (l:List Item) (r:Option (List Item)):Option (List Item):=match PS l with
  |some i=>bif Nat.beq i key then some l else r
  |none=>r
def Uj(E:cw)(R:bm)(f key:Nat)(xs:List LD)(L:LS)(H:DH):ag:=match E.E.P.funcs[f]? with
 |some fn=>match fn.body with
  |some c=>match tA key c []with
   |some todo=>match Qc (E.ann f) todo with
    |some (live,_)=>R (.frame f fn (PQ live xs .leaf) L todo [] .run none) H
    |none=>none
   |none=>none
  |none=>none
 |none=>none
def OB(E:cw)(R:bm)(n f key:Nat)(xs:List LD)(L:LS)(H:DH):ag:=Uj E (JY E R n) f key xs L H
theorem OA(E:cw)(n f key:Nat)(xs:List LD)(L:LS)(H:DH):OB E (dZ E) n f key xs L H=Uj E (dZ E) f key xs L H:=by
 rw[OB,By]
def C(R:bm)(f:FuncId)(args:List D)(H:DH)(k:D->DH->ag):ag:=dP (R (.call f args none) H) k fun c H=>some ⟨.pan c,none,H⟩
def qN:Code->Option (Array Tmp×Code×Code)
 |.rangeFunc _ ps a b=>some (ps,a,b)
 |.seq a b=>(qN a).or (qN b)
 |.cond _ a b=>(qN a).or (qN b)
 |.block _ c=>qN c
 |.loop c=>qN c
 |.scope c=>qN c
 |_=>none
def Re(E:cw)(f:FuncId)(is:List Nat)(xs:List LD):DB:=match E.E.P.funcs[f]? with
 |some fn=>match fn.body with
  |some c=>match qN c with
   |some (ps,a,b)=>.loop true f fn.ntmps (PQ is xs .leaf) ps a b
   |none=>.dead
  |none=>.dead
 |none=>.dead
def UI(E:cw)(R:bm)(f o:Nat)(is:List Nat)(xs:List LD)(args:List D)(H:DH):ag:=match E.E.P.funcs[f]? with
 |some fn=>match fn.body with
  |some c=>match qN c with
   |some (ps,a,b)=>R (.frame f fn (lm (PQ is xs .leaf) ps.toList args id) [] [.code a,.beginRound,.code b] [] .run (some (.round o))) H
   |none=>none
  |none=>none
 |none=>none
def QB(E:cw)(R:bm)(n f o:Nat)(is:List Nat)(xs:List LD)(args:List D)(H:DH):ag:=UI E (JY E R n) f o is xs args H
def FF(E:cV)(f:D)(κ:FuncId->List D->List D->ag):ag:=match f with
 |.func g a b=>bif et E g then κ g a b else none
 |_=>none
abbrev ret(d:D)(H:DH):ag:=some ⟨.ret d,none,H⟩
abbrev pan(d:D)(H:DH):ag:=some ⟨.pan [⟨d,false⟩],none,H⟩
end Go.AI
noncomputable section
namespace Go.AI
def fA(s:S)(g:Nat):Option (List V):=match s.get g with
 |some (.ro vers)=>match bj vers 127 with
  |some u=>some u.cells
  |none=>none
 |_=>none
end Go.AI
namespace Go.Proofs.YtenibcfppefobaaGreatDoor
open Go.AI
def OZ(n:Int):ByteArray:=⟨(Lib.replace (Lib.itoa n) [45] [126] 1).toArray⟩
def ya(s:ByteArray):ByteArray:=⟨(Lib.replace s.data.toList [126] [45] 1).toArray⟩
def pc(s:ByteArray):Int×Int:=match Lib.atoiAll (ya s).data.toList with
 |.ok v=>bif (OZ v).toList==s.toList then(v,0)else(0,13)
 |_=>(0,13)
def uy:List V->Bool
 |[.nilIface]=>true
 |[.iface _ _]=>true
 |_=>false
def HG:List V->Bool
 |[.int .i64 _]=>true
 |_=>false
def CH:List V:=Lib.pow10Tab.map fun z=>.int .u64 z
structure pF(s:S):Prop where
 mx:∃ c,fA s 1=some c/\HG c=true
 syn:∃ c,fA s 4=some c/\uy c=true
 rng:∃ c,fA s 5=some c/\uy c=true
 pow:fA s 0=some CH
open Classical in
def vP(args:List V)(s:S):Option (V×S):=match args with
 |[.str l]=>if pF s/\l.length<=1000 then some (.tuple [.int .i64 (pc (av l)).1,.int .i64 (pc (av l)).2],s)else none
 |_=>none
def tS:List Nat->Nat->Int->Int
 |[],_,_=>-1
 |x::r,c,n=>bif Nat.beq x c then n else tS r c (n+1)
def wp(args:List V)(s:S):Option (V×S):=match args with
 |[.str l,.int .u8 (.ofNat c)]=>bif Nat.blt c 256&&l.all (fun x=>Nat.blt x 256)then some (.int .i64 (tS l c 0),s)else none
 |_=>none
abbrev vd(n:Int):List Nat:=(Utf8.encode n).data.toList.map UInt8.toNat
def JP(k:Nat):List Nat:=(Lib.itoa (k:Nat)).map UInt8.toNat
def Fk(k:Nat):List Nat:=([39]++vd (97+(k%26:Nat)))++(if 26<=k then JP (k / 26)else [])
open Classical in
def wj(args:List V)(s:S):Option (V×S):=match args with
 |[.int .i64 (.ofNat k)]=>if pF s/\k<4000 then some (.str (JP k),s)else none
 |_=>none
def My(f:FuncId)(args:List D)(H:DH):Option (D×DH) :=
 bif Nat.beq f 236 then(match args with
  |[.str l,.int .u8 (.ofNat c)]=>bif Nat.blt c 256&&Nat.ble l.length 1000 then some (.int .i64 (tS l c 0),H)else none
  |_=>none)
 else bif Nat.beq f 262 then(match args with
  |[.str l]=>bif Nat.ble l.length 1000 then some (.tuple [.int .i64 (pc (av l)).1,.int .i64 (pc (av l)).2],H)else none
  |_=>none)
 else bif Nat.beq f 6 then(match args with
  |[]=>some (.bool true,H)
  |_=>none)
 else bif Nat.beq f 89 then(match args with
  |[.int .i64 (.ofNat k)]=>bif Nat.blt k 4000 then some (.str (JP k),H)else none
  |_=>none)
 else none
def VP(f:FuncId):Bool:=Nat.beq f 262||(Nat.beq f 6||(Nat.beq f 236||Nat.beq f 89))
def sI(f:FuncId)(args:List V)(s:S):Option (V×S) :=
 bif Nat.beq f 236 then wp args s else bif Nat.beq f 262 then vP args s else bif Nat.beq f 6 then(match args with
  |[]=>some (.bool true,s)
  |_=>none)else bif Nat.beq f 89 then wj args s else none
def lK:cV:={ P:=Tryz.prog,ext:=fun f=>bif Nat.beq f 280 then some .indexByte else bif Nat.beq f 301 then some .count else none,orc:=sI }
end Go.Proofs.YtenibcfppefobaaGreatDoor
set_option linter.all false
noncomputable section
namespace Go.Proofs.YtenibcfppefobaaGreatDoor.Rd
open Go.AI Go.Proofs Go.Proofs.YtenibcfppefobaaGreatDoor
theorem pK{W:World}{g:Nat}{c:Array Value}{e:TypeId}{fz:Nat×Nat}{l:List V}(h:W.heap[g]? = some (.cells c e fz))(ha:jm W.heap.size c.toList=some l):fA (bS W) g=some l:=by
 have hg:g<W.heap.size:=(Array.getElem?_eq_some_iff.1 h).1
 have hst:(bS W).get g=some (.ro (oR W.heap.size c.toList)):=by
  unfold bS
  rw[ur,if_pos hg,h];rfl
 simp_all[fA,yj]
theorem xJ{N:Nat}:∀(l:List Int),jm N (l.map fun z=>Value.int .u64 z)=some (l.map fun z=>V.int .u64 z)
 |[]=>rfl
 |x::r=>by simp only[List.map_cons,jm,JF,xJ r]
structure Ir(W:World):Prop where
 mx:∃ m e fz,W.heap[1]? = some (.cells #[.int .i64 m] e fz)
 syn:∃ te b off e fz,W.heap[4]? = some (.cells #[.iface te (.pointer (some ⟨b,off,none⟩))] e fz)/\b<W.heap.size
 rng:∃ te b off e fz,W.heap[5]? = some (.cells #[.iface te (.pointer (some ⟨b,off,none⟩))] e fz)/\b<W.heap.size
 pow:∃ c e fz,W.heap[0]? = some (.cells c e fz)/\c.toList=Lib.pow10Tab.map fun z=>Value.int .u64 z
theorem IW{W:World}(h:Ir W):pF (bS W):=by
 obtain⟨⟨m,e1,f1,h1⟩,⟨t2,b2,o2,e2,f2,h2,k2⟩,⟨t3,b3,o3,e3,f3,h3,k3⟩,⟨c,e4,f4,h4,k4⟩⟩:=h
 refine⟨⟨[.int .i64 m],pK h1 rfl,rfl⟩,⟨[.iface t2 (.ptr ⟨b2,0,1+o2⟩)],pK h2 (by simp[jm,JF,k2]),rfl⟩,⟨[.iface t3 (.ptr ⟨b3,0,1+o3⟩)],pK h3 (by simp[jm,JF,k3]),rfl⟩,pK h4 (by rw[k4];exact xJ _)⟩
end Go.Proofs.YtenibcfppefobaaGreatDoor.Rd
set_option linter.all false
noncomputable section
namespace Go.Proofs.YtenibcfppefobaaGreatDoor.Rd
open Go.AI Go.Proofs Go.Proofs.YtenibcfppefobaaGreatDoor Go.ChangeShapes
section
variable{W:World}{t:TypeId}{fuel:Nat}{cs:List Value}{ps:List MemPlace}
abbrev Tl(W:World)(fuel:Nat)(t:TypeId)(cs:List Value):Option (DataW Unit×List MemPlace):=DataW.trod (fun _=>()) Tryz.prog W 0 (fun _=>true) false fuel t cs
theorem Qr{e n:Nat}{l:List Int}(ht:Tryz.prog.underlying t=some (.array n e))(he:Tryz.prog.underlying e=some (.int .u64))(hc:Tryz.prog.cellsOf e=1)(hct:Tryz.prog.cellsOf t=n)(h:Tl W fuel t cs=some (.agg (l.map fun z=>.lit (.int .u64 z)),ps)) :
 cs=l.map fun z=>Value.int .u64 z:=by
 obtain⟨xs,m,_,hx,hl,hxl,hat⟩:=DataW.trod_array ht h
 have hm:xs.map (·.1)=l.map fun z=>DataW.lit (.int .u64 z):=by
  grind
 have hll:l.length=n:=by
  grind [List.length_map]
 rw[hct]at hl
 refine List.ext_getElem (by rw[List.length_map];omega) fun i hi hi'=>?_
 rw[List.length_map]at hi'
 have h1:=hat i (by omega)
 rw[hc,Nat.mul_one,List.drop_eq_getElem_cons hi,List.take_succ_cons,List.take_zero,List.getElem?_eq_getElem (by omega)]at h1
 obtain⟨z,h2,h3,_⟩:=DataW.trod_int he h1
 have h4:(xs.map (·.1))[i]'(by rw[List.length_map];omega)=(l.map fun z=>DataW.lit (H:=Unit) (.int .u64 z))[i]'(by rw[List.length_map];omega):=by
  simp only[hm]
 rw[List.getElem_map,List.getElem_map,h3]at h4
 simp only[DataW.lit.injEq,Lit.int.injEq,true_and]at h4
 rw[List.getElem_map,<- h4]
 simpa using h2
end
end Go.Proofs.YtenibcfppefobaaGreatDoor.Rd
set_option linter.all false
noncomputable section
namespace Go.Proofs.YtenibcfppefobaaGreatDoor.Rd
open Go.AI Go.Proofs Go.Proofs.YtenibcfppefobaaGreatDoor Go.ChangeShapes
section
variable{W:World}{t:TypeId}{fuel:Nat}{cs:List Value}{ps:List MemPlace}
theorem Ln{s:List UInt8}(h:Tl W fuel t []=some (.lit (.string s),ps)):False:=by
 cases fuel with
 |zero=>simp[Tl,DataW.trod]at h
 |succ n =>
  unfold Tl DataW.trod at h
  split at h<;>simp_all
theorem QM{s:List UInt8}(h:Tl W fuel t []=some (.agg [.lit (.string s)],ps)):False:=by
 cases hu:Tryz.prog.underlying t with
 |none =>
  cases fuel with
  |zero=>simp[Tl,DataW.trod]at h
  |succ n=>unfold Tl DataW.trod at h;rw[hu]at h;simp at h
 |some d =>
  cases d with
  |struct fs =>
   obtain⟨xs,n,_,hx,_,hl,hf⟩:=DataW.trod_struct hu h
   have h1:xs.map (·.1)=[.lit (.string s)]:=by
    grind
   obtain⟨x,rfl⟩:∃ x,xs=[x]:=List.length_eq_one_iff.1 (by have:=congrArg List.length h1;simpa using this)
   have hs:0<fs.size:=by simp at hl;omega
   have h2:=hf 0 fs[0] (Array.getElem?_eq_getElem hs)
   simp only[List.drop_nil,List.take_nil,List.getElem?_cons_zero]at h2
   simp at h1
   exact Ln (W:=W) (s:=s) (ps:=x.2) (by unfold Tl;rw[h2,<- h1])
  |array m e =>
   obtain⟨xs,n,_,hx,_,hl,hf⟩:=DataW.trod_array hu h
   have h1:xs.map (·.1)=[.lit (.string s)]:=by
    grind
   obtain⟨x,rfl⟩:∃ x,xs=[x]:=List.length_eq_one_iff.1 (by have:=congrArg List.length h1;simpa using this)
   have hs:0<m:=by simp at hl;omega
   have h2:=hf 0 hs
   simp only[List.drop_nil,List.take_nil,List.getElem?_cons_zero]at h2
   simp at h1
   exact Ln (W:=W) (s:=s) (ps:=x.2) (by unfold Tl;rw[h2,<- h1])
  |_ =>
   cases fuel with
   |zero=>simp[Tl,DataW.trod]at h
   |succ n=>unfold Tl DataW.trod at h;rw[hu]at h;simp at h
theorem QE{s:List UInt8}(h:Tl W fuel t cs=some (.ptr (.agg [.lit (.string s)]),ps)):∃ a,cs=[.pointer (some a)]/\a.spot=none/\a.block<W.heap.size/\∃ e,Tryz.prog.underlying t=some (.pointer e):=by
 have key:∃ e,Tryz.prog.underlying t=some (.pointer e):=by
  cases fuel with
  |zero=>simp[Tl,DataW.trod]at h
  |succ n =>
   unfold Tl DataW.trod at h
   split at h<;>simp_all
   all_goals first
    |(simp[Option.bind_eq_some_iff,Option.map_eq_some_iff]at h;done)
    |(split at h<;>simp[Option.bind_eq_some_iff,Option.map_eq_some_iff]at h;done)
    |(repeat' split at h)<;>simp_all[Option.bind_eq_some_iff,Option.map_eq_some_iff]
 obtain⟨e,he⟩:=key
 rcases DataW.trod_pointer he h with⟨_,h1⟩|⟨a,cs',y,n,_,rfl,h1,h2,h3⟩
 ·simp at h1
 ·have hy:y.1=.agg [.lit (.string s)]:=by
   grind
  have hne:cs'≠[]:=fun hh=>by
   subst hh
   exact QM (W:=W) (s:=s) (ps:=y.2) (by unfold Tl;rw[h3,<- hy])
  obtain⟨_,hc1,hc2⟩:=World.cells?_some h2
  have h0:0<cs'.length:=List.length_pos_iff.2 hne
  have hcell:=hc2 0 (by omega)
  rw[List.getElem?_eq_getElem h0]at hcell
  obtain⟨c,e',fz,h4,h5,h6⟩:=DW hcell
  refine⟨a,rfl,?_,?_,e,he⟩
  ·simpa[Addr.add]using h5
  ·have:=(Array.getElem?_eq_some_iff.1 h4).1
   simpa[Addr.add]using this
theorem Me{name:String}{ms:Array (String×TypeId)}{s:List UInt8}(ht:Tryz.prog.underlying t=some (.interface ms))(h:Tl W fuel t cs=some (.iface name (.ptr (.agg [.lit (.string s)])),ps)) :
 ∃ u v a,cs=[.iface u v]/\v.cells.toList=[.pointer (some a)]/\a.spot=none/\a.block<W.heap.size/\∃ e,Tryz.prog.underlying u=some (.pointer e):=by
 cases fuel with
 |zero=>simp[Tl,DataW.trod]at h
 |succ n =>
  unfold Tl DataW.trod at h
  rw[ht]at h
  split at h<;>simp_all
  rename_i u v _
  split at h
  ·cases h
  ·simp only[Option.map_eq_some_iff]at h
   obtain⟨y,hy,h1⟩:=h
   simp only[Prod.mk.injEq,DataW.iface.injEq]at h1
   obtain⟨a,h2,h3,h4,h5⟩:=QE (W:=W) (s:=s) (ps:=y.2) (by unfold Tl;rw[hy,<- h1.1.2])
   exact⟨u,v,⟨rfl,rfl⟩,a,h2,h3,h4,h5⟩
  ·cases h
end
end Go.Proofs.YtenibcfppefobaaGreatDoor.Rd
set_option linter.all false
noncomputable section
namespace Go.Proofs.YtenibcfppefobaaGreatDoor.Rd
open Go.AI Go.Proofs Go.Proofs.YtenibcfppefobaaGreatDoor Go.ChangeShapes
set_option maxRecDepth 10000
theorem wg{P:Program}{w:World}:∀ {l:List (String×DataW Unit)} {ps:List MemPlace} {n:String} {d:DataW Unit},DataW.LaidVars P w l ps->(n,d)∈l ->
 ∃ g t cs fuel p,P.globalNamed n=some g/\(P.globals[g]?).map (·.type)=some t/\w.var? P n=some cs/\DataW.trod (fun _=>()) P w 0 (fun _=>true) false fuel t cs.toList=some (d,p)/\∀ x∈MemPlace.row ⟨g,0,none⟩ cs.size++p,x∈ps
 |[],ps,n,d,_,h=>by cases h
 |(m,c)::r,ps,n,d,hl,h=>by
  obtain⟨g,t,cs,fuel,p,q,e1,e2,e3,e4,hr,rfl⟩:=hl
  rcases List.mem_cons.1 h with h|h
  ·grind
  ·obtain⟨g',t',cs',fuel',p',a,b,c',d',e⟩:=wg hr h
   grind
theorem yB{P:Program}{w:World}{n:String}{g:Nat}{cs:Array Value}(hg:P.globalNamed n=some g)(h:w.var? P n=some cs):∃ e fz,w.heap[g]? = some (.cells cs e fz):=by
 unfold World.var? at h
 grind
theorem Mi:Tryz.prog.globalNamed "internal/strconv.uint64pow10" = some 0:=by kernel_rfl
theorem Rw:Tryz.prog.globalNamed "strconv.ErrSyntax" = some 4:=by kernel_rfl
theorem Rx:Tryz.prog.globalNamed "strconv.ErrRange" = some 5:=by kernel_rfl
theorem HN{W:World}{l:List (String×DataW Unit)}{n:String}{g:Nat}{t:TypeId}{name:String}{ms:Array (String×TypeId)}{s:List UInt8}(hl:laidMet Tryz.prog l W)(hm:(n,.iface name (.ptr (.agg [.lit (.string s)])))∈l)
 (hg:Tryz.prog.globalNamed n=some g) (ht:(Tryz.prog.globals[g]?).map (·.type)=some t) (hu:Tryz.prog.underlying t=some (.interface ms)) :
 ∃ te b off e fz,W.heap[g]? = some (.cells #[.iface te (.pointer (some ⟨b,off,none⟩))] e fz)/\b<W.heap.size:=by
 obtain⟨ps,hv,_,hrow⟩:=hl
 obtain⟨g',t',cs,fuel,p,e1,e2,e3,e4,e5⟩:=wg hv hm
 rw[hg]at e1;cases e1
 rw[ht]at e2;cases e2
 obtain⟨e,fz,hh⟩:=yB hg e3
 obtain⟨u,v,a,h1,h2,h3,h4,e',h5⟩:=Me hu e4
 have hcs:cs=#[.iface u v]:=by
  grind
 subst hcs
 have hcell:W.cell? ⟨g,0,none⟩=some (.iface u v):=by
  unfold World.cell?
  grind
 have hin:MemPlace.cell g 0∈MemPlace.row ⟨g,0,none⟩ (#[Value.iface u v]).size:=by
  unfold MemPlace.row
  grind
 have hin2:=e5 _ (List.mem_append_left _ hin)
 have hok:=(hrow g 0 hin2).2 u v hcell
 have hvp:v=.pointer (some a):=by
  unfold Value.okWide at hok
  rw[h5]at hok
  simp only[]at hok
  unfold Cell.okWide at hok
  rw[h5]at hok
  cases v with
  |agg c=>simp only[Value.cells]at h2;simp[Cell.ok,h5]at hok
  |_=>simp_all[Value.cells]
 subst hvp
 obtain⟨b,off,spot⟩:=a
 simp only at h3 h4
 subst h3
 exact⟨u,b,off,e,fz,hh,h4⟩
end Go.Proofs.YtenibcfppefobaaGreatDoor.Rd
set_option linter.all false
noncomputable section
namespace Go.Proofs.YtenibcfppefobaaGreatDoor.Rd
open Go.AI Go.Proofs Go.Proofs.YtenibcfppefobaaGreatDoor Go.ChangeShapes
set_option maxRecDepth 10000
theorem Rv:(Tryz.prog.globals[0]?).map (·.type)=some 333:=by kernel_rfl
theorem Rs:(Tryz.prog.globals[4]?).map (·.type)=some 342:=by kernel_rfl
theorem Ru:(Tryz.prog.globals[5]?).map (·.type)=some 342:=by kernel_rfl
theorem Qs{W:World}(hl:laidMet Tryz.prog Rows.inferOrderRow.laid W):∃ te b off e fz,W.heap[4]? = some (.cells #[.iface te (.pointer (some ⟨b,off,none⟩))] e fz)/\b<W.heap.size :=
 HN hl (n := "strconv.ErrSyntax") (name := "*errors.errorString") (s:=[105,110,118,97,108,105,100,32,115,121,110,116,97,120]) (List.Mem.tail _ (List.Mem.tail _ (List.Mem.tail _ (List.Mem.tail _ (List.Mem.tail _ (List.Mem.head _)))))) Rw Rs Tryz.underlying342
theorem Qz{W:World}(hl:laidMet Tryz.prog Rows.inferOrderRow.laid W):∃ te b off e fz,W.heap[5]? = some (.cells #[.iface te (.pointer (some ⟨b,off,none⟩))] e fz)/\b<W.heap.size :=
 HN hl (n := "strconv.ErrRange") (name := "*errors.errorString") (s:=[118,97,108,117,101,32,111,117,116,32,111,102,32,114,97,110,103,101]) (List.Mem.tail _ (List.Mem.tail _ (List.Mem.tail _ (List.Mem.tail _ (List.Mem.head _))))) Rx Ru Tryz.underlying342
theorem LN:Rows.laid_internal_strconv_uint64pow10 (H:=Unit)=DataW.agg (Lib.pow10Tab.map fun z=>.lit (.int .u64 z)):=by rfl
theorem QH{W:World}(hl:laidMet Tryz.prog Rows.inferOrderRow.laid W):∃ c e fz,W.heap[0]? = some (.cells c e fz)/\c.toList=Lib.pow10Tab.map fun z=>Value.int .u64 z:=by
 obtain⟨ps,hv,_,_⟩:=hl
 obtain⟨g',t',cs,fuel,p,e1,e2,e3,e4,e5⟩:=wg hv (n := "internal/strconv.uint64pow10") (d:=Rows.laid_internal_strconv_uint64pow10) (List.Mem.tail _ (List.Mem.tail _ (List.Mem.head _)))
 rw[Mi]at e1;cases e1
 rw[Rv]at e2;cases e2
 obtain⟨e,fz,hh⟩:=yB Mi e3
 rw[LN]at e4
 exact⟨cs,e,fz,hh,Qr Tryz.underlying333 (by kernel_rfl) (by kernel_rfl) (by kernel_rfl) e4⟩
theorem Tf{W:World}(hs:W.ShapedOpen Tryz.prog):∃ m e fz,W.heap[1]? = some (.cells #[.int .i64 m] e fz):=by
 obtain⟨cs,h1,h2,h3⟩:=hs.1 1 #[.int .i64 0] 3 (of_decide_eq_true (by kernel_rfl)) (by kernel_rfl)
 obtain⟨ts,h5,_,h6⟩:=h3 (by kernel_rfl)
 have hts:Tryz.prog.cellTypes Tryz.prog.depth 3=some [3]:=by kernel_rfl
 rw[hts]at h5;cases h5
 have hsz:cs.size=1:=h2
 have h0:cs[0]? = some (cs[0]'(by omega)):=Array.getElem?_eq_getElem (by omega)
 obtain⟨u,h7,h8⟩:=h6 0 _ h0
 cases h7
 unfold Cell.ok at h8
 rw[Tryz.underlying3]at h8
 have hcs:cs=#[cs[0]'(by omega)]:=Array.ext (by simp[hsz]) (fun i hi hi'=>by
  have:i=0:=by omega
  subst this;rfl)
 grind
end Go.Proofs.YtenibcfppefobaaGreatDoor.Rd
namespace Go.Proofs.YtenibcfppefobaaGreatDoor.Rd
open Go.AI Go.Proofs Go.Proofs.YtenibcfppefobaaGreatDoor Go.ChangeShapes
theorem Mj{W:World}(hl:laidMet Tryz.prog Rows.inferOrderRow.laid W)(hs:W.ShapedOpen Tryz.prog):Ir W:=⟨Tf hs,Qs hl,Qz hl,QH hl⟩
end Go.Proofs.YtenibcfppefobaaGreatDoor.Rd
set_option linter.all false
noncomputable section
namespace Go.AI
abbrev D.i(n:Int):D:=.int .i64 n
abbrev LD.n(n:Int):LD:=.g (.int .i64 n)
abbrev eA:=List (List D)
abbrev ac:=List Nat
abbrev cS(n:Int):Int:=IntKind.wrap .i64 n
abbrev xT(a:Int)(b:Int)(c:List Nat)(d:Int):List D:=[.i a,.i b,.str c,.i d]
variable{R:bm}{P:Program}{H H':DH}{κ:D->ag}
theorem ev{E:cw}{n:Nat}{j:Cd}{x y:ag}(h:JY E (dZ E) n j H=x)(k:x=y):dZ E j H=y:=by rw[<- k,<- h,By]
theorem ez{E:cw}{n f key:Nat}{xs:List LD}{L:LS}{x y:ag}(h:OB E (dZ E) n f key xs L H=x)(k:x=y):Uj E (dZ E) f key xs L H=y:=by rw[<- k,<- h,OA]
theorem ao{f:FuncId}{args:List D}{d:D}{k:D->DH->ag}(h:R (.call f args none) H=ret d H'):C R f args H k=k d H':=by rw[C,h];rfl
theorem ai(q:Bool)(a b:ag):brD (.bool q) a b=cond q a b:=rfl
theorem bH(n:Nat){κ:Nat->ag}:dJ (n:Int) κ=κ n:=rfl
theorem bt{l:List (List D)}{i:Nat}{cs:List D}{κ:List D->ag}(h:l[i]? = some cs):eP l i κ=κ cs:=by rw[eP,h]
theorem aj(a:D)(l:List D):aF (a::l) 0 κ=κ a:=rfl
theorem aA(a:D)(l:List D)(n:Nat):aF (a::l) (n+1) κ=aF l n κ:=rfl
theorem ck(b:Bool):rI .not (.bool b) κ=κ (.bool !b):=rfl
theorem dn(l:List D)(i:Nat):cO (.tuple l) i κ=aF l i κ:=rfl
theorem dD(t:TypeId)(c:Bool)(a b:Int):ay P .add t c (.int .i64 a) (.int .i64 b) κ=κ (.int .i64 (cS (a+b))):=rfl
theorem BK(t:TypeId)(c:Bool)(a b:Int):ay P .sub t c (.int .i64 a) (.int .i64 b) κ=κ (.int .i64 (cS (a - b))):=rfl
theorem bJ(t:TypeId)(c:Bool)(k:IntKind)(a b:Int):ay P .eql t c (.int k a) (.int k b) κ=κ (.bool (a==b)):=by cases k<;>rfl
theorem jT(t:TypeId)(c:Bool)(k:IntKind)(a b:Int):ay P .neq t c (.int k a) (.int k b) κ=κ (.bool (a != b)):=by cases k<;>rfl
theorem BL(t:TypeId)(c:Bool)(k:IntKind)(a b:Int):ay P .lss t c (.int k a) (.int k b) κ=κ (.bool (decide (a<b))):=by cases k<;>rfl
theorem Ib(t:TypeId)(c:Bool)(k:IntKind)(a b:Int):ay P .leq t c (.int k a) (.int k b) κ=κ (.bool (decide (a<=b))):=by cases k<;>rfl
theorem fC(t:TypeId)(c:Bool)(k:IntKind)(a b:Int):ay P .gtr t c (.int k a) (.int k b) κ=κ (.bool (decide (a>b))):=by cases k<;>rfl
theorem uD(t:TypeId)(c:Bool)(k:IntKind)(a b:Int):ay P .geq t c (.int k a) (.int k b) κ=κ (.bool (decide (a>=b))):=by cases k<;>rfl
theorem kL(t:TypeId)(c:Bool)(a b:List Nat):ay P .eql t c (.str a) (.str b) κ=κ (.bool (a==b)):=rfl
theorem rj(t:TypeId)(c:Bool)(a b:List Nat):ay P .neq t c (.str a) (.str b) κ=κ (.bool !(a==b)):=rfl
theorem Ae{n:Int}(h1:-9223372036854775808<=n)(h2:n<=9223372036854775807):cS n=n:=GE n ⟨h1,h2⟩
theorem bE{n:Nat}(h:n<2^62):cS ((n:Int)+1)=((n+1:Nat):Int):=by rw[Ae]<;>omega
theorem Bg{E:cV}{g:FuncId}{a b:List D}{κ:FuncId->List D->List D->ag}(h:et E g=true):FF E (.func g a b) κ=κ g a b:=by rw[FF,h];rfl
theorem ae{o st:Nat}{cs:List D}{κ:Nat->List D->ag}(h:H[o]? = some (.cells st cs)):aG H o κ=κ st cs:=by rw[aG,h]
theorem dA{o sz:Nat}{st cap:Bool}{l:List (List D)}{κ:Nat->Bool->Bool->List (List D)->ag}(h:H[o]? = some (.buf sz st cap l)):gF H o l.length κ=κ sz st cap l:=by rw[gF,h];simp[Nat.beq_refl]
theorem nj{r:List DH}{o st:Nat}{cs:List D}(h:H[o]? = some (.cells st cs))(hr:∀ H2∈r,H2[o]? = some (.cells st cs)):(cH H r)[o]? = some (.cells st cs):=by
 rw[cH,@BG ⟨fun _=>True,[],fun _ _ _ h=>h⟩,h,Nat.zero_add]
 grind [CW]
theorem dz{o:Nat}{es:List (D×D)}{κ:List (D×D)->ag}(h:H[o]? = some (.map es)):jW H o κ=κ es:=by rw[jW,h]
theorem bD(H:DH)(x:DB):(H++[x])[H.length]? = some x:=by simp
theorem aK{H:DH}{o:Nat}{b:DB}(x:DB)(h:H[o]? = some b):(H++[x])[o]? = some b:=by
 grind
theorem bC{H:DH}{o:Nat}{b:DB}(x:DB)(h:H[o]? = some b):(H.set o x)[o]? = some x:=by
 grind
theorem am{H:DH}{o o':Nat}{b:DB}(x:DB)(hn:o≠o')(h:H[o']? = some b):(H.set o x)[o']? = some b:=by rw[List.getElem?_set_ne hn];exact h
end Go.AI
set_option linter.all false
noncomputable section
namespace Go.Proofs.YtenibcfppefobaaGreatDoor
open Go.AI
def VQ:T gJ :=
 (.node (.node (.node (.node (.node (.node (.node .leaf none (.node .leaf (some ⟨[(200002,[0,5],[])],[],[],[],false⟩) .leaf)) (some ⟨[(200004,[1,23,24,25],[])],[],[],[],false⟩) (.node (.node .leaf (some ⟨[],[3],[],[],true⟩) .leaf) none .leaf)) none (.node (.node .leaf none (.node .leaf (some ⟨[(200001,[1,2,6,7,8],[])],[],[],[],false⟩) .leaf)) none .leaf)) (some ⟨[],[1,3],[],[],false⟩) (.node .leaf (some ⟨[(200004,[0,5,18,19,20],[])],[16,55],[],[],false⟩) (.node (.node (.node .leaf (some ⟨[],[3,4,5],[],[],true⟩) .leaf) (some ⟨[],[3,4,5],[],[],false⟩) (.node .leaf (some ⟨[(200002,[0,1,7,8],[])],[],[],[],false⟩) .leaf)) none (.node (.node .leaf (some ⟨[(200001,[0,1],[])],[36],[],[],false⟩) .leaf) none (.node .leaf (some ⟨[(200002,[0,1,7,8],[])],[],[],[],false⟩) .leaf))))) (some ⟨[(200005,[0,1,5,6],[]),(200014,[0,1,7,8,9,10],[]),(200024,[0,1,7,9,15],[])],[],[],[],false⟩) (.node (.node (.node (.node .leaf none (.node .leaf (some ⟨[(200005,[0,1,5,6],[])],[],[],[],false⟩) .leaf)) (some ⟨[(200004,[0,1,5],[])],[],[],[],false⟩) (.node .leaf none (.node .leaf (some ⟨[(200002,[0,2,3],[])],[],[],[],false⟩) .leaf))) none .leaf) (some ⟨[],[4],[],[(0,0,.fz 1)],false⟩) (.node (.node (.node .leaf (some ⟨[(200003,[3,9,10,11],[])],[7],[],[],true⟩) (.node .leaf (some ⟨[(200001,[1,2,6,7,8],[])],[],[],[],false⟩) .leaf)) none .leaf) (some ⟨[(200010,[1,2,3,8,9,45,46,47],[0,1])],[],[],[(0,1,.fz 2)],false⟩) (.node (.node (.node .leaf (some ⟨[],[3],[],[],true⟩) .leaf) none .leaf) none .leaf)))) none (.node (.node (.node (.node (.node .leaf none (.node .leaf (some ⟨[(200002,[0,5],[]),(200005,[0,5,6],[])],[],[],[],false⟩) .leaf)) none .leaf) none (.node (.node .leaf none (.node .leaf (some ⟨[],[3,4,5],[],[],true⟩) .leaf)) none .leaf)) (some ⟨[(200007,[3,4,6,22,23,24],[0,1])],[11],[],[],false⟩) (.node (.node (.node (.node .leaf (some ⟨[(8,[0,1,4,7],[0]),(11,[0,1,4,7,8],[0]),(17,[0,1,4,6],[0]),(18,[0,1,4,6],[0]),(26,[0,1,4,11,12],[0]),(200006,[0,1,4,7],[0])],[],[],[],false⟩) .leaf) none .leaf) none .leaf) (some ⟨[(200005,[4,9,10,11],[])],[3,4],[],[],false⟩) (.node .leaf (some ⟨[],[],[],[],true⟩) (.node (.node .leaf (some ⟨[(11,[0,2,3],[0])],[],[],[],false⟩) .leaf) none (.node .leaf (some ⟨[(200002,[0,1,7,8],[])],[],[],[],false⟩) .leaf))))) none (.node (.node (.node .leaf none (.node .leaf (some ⟨[(200004,[0,16,17,18],[]),(200007,[0,16,17,18,23,24,25],[]),(200016,[0,43,44,45],[])],[],[],[],false⟩) .leaf)) none (.node (.node (.node .leaf (some ⟨[],[3,4,5],[],[],true⟩) .leaf) none .leaf) none (.node .leaf none (.node .leaf (some ⟨[(200001,[1,2,6,7,8],[])],[],[],[],false⟩) .leaf)))) none (.node (.node (.node .leaf (some ⟨[],[3],[],[],true⟩) (.node .leaf (some ⟨[],[3,4,5],[],[],true⟩) .leaf)) none (.node (.node .leaf (some ⟨[(200002,[0,1,7,8],[])],[],[],[],false⟩) .leaf) none .leaf)) none .leaf)))) none (.node (.node (.node (.node (.node .leaf (some ⟨[(200006,[3,4,22,23,24],[])],[],[],[],false⟩) (.node (.node .leaf (some ⟨[],[3],[],[],true⟩) .leaf) none (.node .leaf (some ⟨[(200002,[0,1,2,7],[])],[],[],[],false⟩) .leaf))) none (.node (.node .leaf none (.node .leaf (some ⟨[(200001,[0,1,2,8,9,10],[]),(200006,[1,2,21,22,23],[])],[],[],[],false⟩) .leaf)) none (.node .leaf (some ⟨[(6,[1,3],[0]),(7,[1,3,52],[0])],[],[],[],false⟩) .leaf))) (some ⟨[(200004,[0,20,21,22],[]),(200012,[6,7,33,34,35],[]),(200017,[6,7,46,47,48],[]),(200026,[12,65,66,67],[])],[15,32],[],[(0,0,.fz 3)],false⟩) (.node (.node .leaf none (.node .leaf none (.node .leaf (some ⟨[(6,[0,1,4,5],[0])],[],[],[],false⟩) .leaf))) (some ⟨[(5,[0,1],[]),(8,[0,1],[]),(200015,[0,1,91,92],[])],[],[],[],false⟩) (.node (.node (.node .leaf (some ⟨[(200002,[0,1,7,8],[])],[],[],[],false⟩) .leaf) (some ⟨[(200002,[0,1,7,8],[])],[],[],[],false⟩) .leaf) (some ⟨[(200009,[0,1,2,21,22,23],[])],[],[],[],false⟩) (.node (.node .leaf (some ⟨[(200000,[0],[])],[],[],[],false⟩) .leaf) none (.node .leaf (some ⟨[(200002,[0,1,7,8],[])],[],[],[],false⟩) .leaf))))) (some ⟨[(200005,[0,3,4],[]),(200011,[0,3,5,6],[])],[],[(68,[(0,.fz 2)])],[],false⟩) (.node (.node (.node (.node (.node .leaf (some ⟨[(200003,[3,11,12],[])],[10],[(9,[(3,.acc 2)])],[],false⟩) .leaf) none .leaf) none (.node .leaf (some ⟨[(200004,[0,16,17,18],[]),(200007,[0,16,17,18,23,24,25],[]),(200016,[0,43,44,45],[])],[],[],[],false⟩) .leaf)) none (.node (.node (.node .leaf (some ⟨[],[3,4,5],[],[],true⟩) .leaf) none .leaf) none (.node .leaf none (.node .leaf (some ⟨[(200001,[1,2,6,7,8],[])],[],[],[],false⟩) .leaf)))) none (.node (.node (.node .leaf none (.node .leaf (some ⟨[(200001,[0,1,2,8,9,10],[]),(200006,[1,2,21,22,23],[])],[],[],[],false⟩) .leaf)) none .leaf) none (.node (.node (.node .leaf (some ⟨[],[3],[],[],true⟩) .leaf) none .leaf) none (.node (.node .leaf (some ⟨[(4,[0,4],[]),(200009,[0,4,5,6,7],[])],[],[],[],false⟩) .leaf) none .leaf))))) none (.node (.node (.node (.node (.node .leaf none (.node .leaf (some ⟨[(200003,[0,3,4],[])],[],[],[],false⟩) .leaf)) (some ⟨[(200004,[1,2,3,4,10,11,12],[0,1,2])],[7],[(21,[(1,.fz 2)])],[(0,0,.fz 1)],false⟩) .leaf) none .leaf) (some ⟨[(200004,[2,3,5],[0,1])],[],[],[],false⟩) (.node (.node (.node .leaf (some ⟨[(200003,[3,9,10,11],[])],[7],[],[],true⟩) .leaf) none .leaf) (some ⟨[(200001,[0],[])],[],[],[],false⟩) (.node (.node (.node .leaf (some ⟨[],[3],[],[],true⟩) .leaf) (some ⟨[(5,[0],[])],[],[],[],false⟩) .leaf) none .leaf))) none (.node (.node (.node (.node (.node .leaf (some ⟨[],[1],[],[],false⟩) .leaf) none .leaf) none (.node .leaf none (.node .leaf (some ⟨[(4,[0,2,3],[0])],[],[],[],false⟩) .leaf))) (some ⟨[(12,[0,1,2,8],[]),(200015,[0,1,2,76,77],[])],[],[],[],false⟩) (.node (.node (.node .leaf (some ⟨[],[3,4,5],[],[],true⟩) .leaf) none .leaf) none (.node .leaf none (.node .leaf (some ⟨[(200002,[0,1,7,8],[])],[],[],[],false⟩) .leaf)))) none (.node (.node .leaf none (.node .leaf (some ⟨[],[3],[],[],true⟩) .leaf)) (some ⟨[(4,[0,2,4,6],[0,1]),(200009,[0,2,6,9,43,44,45],[1,2])],[],[],[(0,1,.fz 2)],false⟩) .leaf)))))
def de:cw:=⟨lK,VQ,My,VP⟩
abbrev aR(R:bm)(f:Nat)(a:List D)(H:DH):ag:=JY de R 200 (.call f a none) H
abbrev bA(R:bm)(f k:Nat)(x:List LD)(L:LS)(H:DH):ag:=OB de R 200 f k x L H
abbrev af(R:bm)(f k:Nat)(x:List LD)(L:LS)(H:DH):ag:=Uj de R f k x L H
abbrev ak:bm:=dZ de
abbrev az(f:Nat)(a:List D)(H:DH):ag:=dZ de (.call f a none) H
abbrev ab:=Tryz.prog
end Go.Proofs.YtenibcfppefobaaGreatDoor
set_option linter.all false
noncomputable section
namespace Go.Proofs.YtenibcfppefobaaGreatDoor
open Go.AI
theorem f137{R:bm}{p0:ac}{p1:Int}{H:DH}:aR R 137 [.str p0,.i p1] H =
 dJ p1 fun a=>eE p0 a fun a=>ay ab .eql 5 true a (.int .u8 126) fun b=>brD b (ay ab .eql 5 true a (.int .u8 126) fun a=>brD a (af R 137 200006 [.g (.str p0),.n p1,.lp 0 0,.n (cS (p1+1))] [(0,(xT 0 0 [] 0))] H) (af R 137 200006 [.g (.str p0),.n p1,.lp 0 0,.n p1] [(0,(xT 0 0 [] 0))] H)) (C R 187 [a] H fun b H=>brD b (ay ab .eql 5 true a (.int .u8 126) fun a=>brD a (af R 137 200006 [.g (.str p0),.n p1,.lp 0 0,.n (cS (p1+1))] [(0,(xT 0 0 [] 0))] H) (af R 137 200006 [.g (.str p0),.n p1,.lp 0 0,.n p1] [(0,(xT 0 0 [] 0))] H)) (ay ab .eql 5 true a (.int .u8 39) fun b=>brD b (cond (decide ((cS (p1+1))<(p0.length:Int))) (dJ (cS (p1+1)) fun b=>eE p0 b fun b=>C R 190 [b] H fun b H=>brD b (C R 191 [.str p0,.i (cS (p1+1))] H fun a H=>ay ab .sub 3 false a (.i p1) fun b=>ay ab .gtr 3 true b (.i 24) fun b=>brD b (ret (.tuple [.agg (xT 0 0 [] 0),.i 2]) H) (cy ab 9 (.str p0) (some (.i p1)) (some a) none H fun a H=>ah 1 a fun a=>ar (xT 4 0 [] 0) 2 a fun a=>ar a 3 [.i p1] fun a=>ah 4 (.agg a) fun a=>ar (xT 0 0 [] 0) 0 a fun a=>aF a 0 fun b=>aF a 1 fun c=>aF a 2 fun d=>aF a 3 fun a=>ret (.tuple [.agg [b,c,d,a],.i 0]) H)) (af R 137 17 [.g (.str p0),.n p1,.lp 0 0,.g a] [(0,(xT 0 0 [] 0))] H)) (af R 137 17 [.g (.str p0),.n p1,.lp 0 0,.g a] [(0,(xT 0 0 [] 0))] H)) (af R 137 17 [.g (.str p0),.n p1,.lp 0 0,.g a] [(0,(xT 0 0 [] 0))] H))):=by kernel_rfl
theorem Dy{R:bm}{v0:ac}{v1 v7 a b:Int}{c:ac}{e:Int}{H:DH}:bA R 137 200006 [.g (.str v0),.n v1,.lp 0 0,.n v7] [(0,xT a b c e)] H =
 cond (decide (v7<v0.length)) (dJ v7 fun d=>eE v0 d fun d=>C R 187 [d] H fun d H=>brD d (af R 137 200006 [.g (.str v0),.n v1,.lp 0 0,.n (cS (v7+1))] [(0,xT a b c e)] H) (af R 137 8 [.g (.str v0),.n v1,.lp 0 0,.n v7] [(0,xT a b c e)] H)) (af R 137 8 [.g (.str v0),.n v1,.lp 0 0,.n v7] [(0,xT a b c e)] H):=by kernel_rfl
theorem OR{R:bm}{v0:ac}{v1 v6 a b:Int}{c:ac}{e:Int}{H:DH}:bA R 137 17 [.g (.str v0),.n v1,.lp 0 0,.g (.int .u8 v6)] [(0,xT a b c e)] H =
 C R 190 [.int .u8 v6] H fun d H=>brD d (af R 137 18 [.g (.str v0),.n v1,.lp 0 0,.g (.int .u8 v6)] [(0,xT a b c e)] H) (C R 192 [.int .u8 v6] H fun d H=>brD d (af R 137 18 [.g (.str v0),.n v1,.lp 0 0,.g (.int .u8 v6)] [(0,xT a b c e)] H) (C R 195 [.str v0,.i v1] H fun d H=>ay ab .eql 3 true d (.i 0) fun f=>brD f (ret (.tuple [.agg (xT 0 0 [] 0),.i 11]) H) (ay ab .add 3 false (.i v1) d fun d=>cy ab 9 (.str v0) (some (.i v1)) (some d) none H fun d H=>ah 1 d fun d=>ar (xT 6 0 [] 0) 2 d fun d=>ar d 3 [.i v1] fun d=>ah 4 (.agg d) fun d=>ar (xT a b c e) 0 d fun a=>aF a 0 fun b=>aF a 1 fun c=>aF a 2 fun d=>aF a 3 fun a=>ret (.tuple [.agg [b,c,d,a],.i 0]) H))):=by kernel_rfl
theorem Sf{R:bm}{v0:ac}{v1 v7 a b:Int}{c:ac}{e:Int}{H:DH}:bA R 137 8 [.g (.str v0),.n v1,.lp 0 0,.n v7] [(0,xT a b c e)] H =
 cy ab 9 (.str v0) (some (.i v1)) (some (.i v7)) none H fun d H=>C R 188 [d] H fun d H=>cO d 0 fun f=>cO d 1 fun d=>ay ab .neq 28 true d (.i 0) fun d=>brD d (ret (.tuple [.agg (xT 0 0 [] 0),.i 13]) H) (cond (decide (v7<v0.length)) (dJ v7 fun d=>eE v0 d fun d=>C R 189 [d] H fun d H=>brD d (ret (.tuple [.agg (xT 0 0 [] 0),.i 13]) H) (dJ v7 fun d=>eE v0 d fun d=>ay ab .eql 5 true d (.int .u8 39) fun d=>brD d (ret (.tuple [.agg (xT 0 0 [] 0),.i 13]) H) (af R 137 11 [.g (.str v0),.n v1,.lp 0 0,.n v7,.g f] [(0,xT a b c e)] H))) (af R 137 11 [.g (.str v0),.n v1,.lp 0 0,.n v7,.g f] [(0,xT a b c e)] H)):=by kernel_rfl
theorem OQ{R:bm}{v0:ac}{v1 v6 a b:Int}{c:ac}{e:Int}{H:DH}:bA R 137 18 [.g (.str v0),.n v1,.lp 0 0,.g (.int .u8 v6)] [(0,xT a b c e)] H =
 C R 193 [.str v0,.i v1] H fun d H=>ay ab .sub 3 false d (.i v1) fun f=>ay ab .gtr 3 true f (.i 24) fun f=>brD f (ret (.tuple [.agg (xT 0 0 [] 0),.i 2]) H) (C R 192 [.int .u8 v6] H fun f H=>brD f (af R 137 26 [.g (.str v0),.n v1,.lp 0 0,.g d,.n 3] [(0,xT a b c e)] H) (cy ab 9 (.str v0) (some (.i v1)) (some d) none H fun f H=>C R 194 [f] H fun f H=>brD f (af R 137 26 [.g (.str v0),.n v1,.lp 0 0,.g d,.n 5] [(0,xT a b c e)] H) (af R 137 26 [.g (.str v0),.n v1,.lp 0 0,.g d,.n 2] [(0,xT a b c e)] H))):=by kernel_rfl
theorem OS{R:bm}{v0:ac}{v1 v7 v8 a b:Int}{c:ac}{e:Int}{H:DH}:bA R 137 11 [.g (.str v0),.n v1,.lp 0 0,.n v7,.n v8] [(0,xT a b c e)] H =
 cy ab 9 (.str v0) (some (.i v1)) (some (.i v7)) none H fun d H=>ah 1 d fun d=>ar (xT 1 v8 [] 0) 2 d fun d=>ar d 3 [.i v1] fun d=>ah 4 (.agg d) fun d=>ar (xT a b c e) 0 d fun a=>aF a 0 fun b=>aF a 1 fun c=>aF a 2 fun d=>aF a 3 fun a=>ret (.tuple [.agg [b,c,d,a],.i 0]) H:=by kernel_rfl
theorem OP{R:bm}{v0:ac}{v1 a b c e:Int}{h:ac}{j:Int}{H:DH}:bA R 137 26 [.g (.str v0),.n v1,.lp 0 0,.n a,.n b] [(0,xT c e h j)] H =
 cy ab 9 (.str v0) (some (.i v1)) (some (.i a)) none H fun a H=>ah 1 a fun a=>ar (xT b 0 [] 0) 2 a fun a=>ar a 3 [.i v1] fun a=>ah 4 (.agg a) fun a=>ar (xT c e h j) 0 a fun a=>aF a 0 fun b=>aF a 1 fun c=>aF a 2 fun d=>aF a 3 fun a=>ret (.tuple [.agg [b,c,d,a],.i 0]) H:=by kernel_rfl
theorem Vx{R:bm}{p0:ac}{H:DH}:aR R 194 [.str p0] H =
 af R 194 200003 [.g (.str p0),.g (.row 1 [[.str [97,110,100]],[.str [99,97,115,101]],[.str [100,97,116,97]],[.str [101,108,115,101]],[.str [101,110,100]],[.str [102,110]],[.str [102,117,110]],[.str [105,102]],[.str [105,110]],[.str [105,110,112,117,116]],[.str [108,101,116]],[.str [111,102]],[.str [111,117,116,112,117,116]],[.str [116,104,101,110]],[.str [118,97,108]]]),.n 0] [] H:=by kernel_rfl
theorem tF{R:bm}{v0:ac}{v3:eA}{v4:Int}{H:DH}:bA R 194 200003 [.g (.str v0),.g (.row 1 v3),.n v4] [] H =
 cond (decide (v4<v3.length)) (dJ v4 fun a=>eP v3 a fun a=>aF a 0 fun a=>ay ab .eql 9 false a (.str v0) fun a=>brD a (ret (.bool true) H) (af R 194 200003 [.g (.str v0),.g (.row 1 v3),.n (cS (v4+1))] [] H)) (ret (.bool false) H):=by kernel_rfl
theorem f276{R:bm}{p0 p1:ac}{H:DH}:aR R 276 [.str p0,.str p1] H =
 cond (decide ((p0.length:Int)>=(p1.length:Int))) (cy ab 9 (.str p0) none (some (.i p1.length)) none H fun a H=>ay ab .eql 9 false a (.str p1) fun a=>ret a H) (ret (.bool false) H):=by kernel_rfl
theorem f225{R:bm}{p0:Int}{H:DH}:aR R 225 [.int .u8 p0] H =
 cond (p0==32) (ret (.bool true) H) (cond (p0==9) (ret (.bool true) H) (cond (p0==10) (ret (.bool true) H) (ret (.bool (p0==13)) H))):=by kernel_rfl
theorem Vt{R:bm}{p0:Int}{H:DH}:aR R 229 [.int .u8 p0] H =
 cond (decide ((48:Int)<=p0)) (ret (.bool (decide (p0<=57))) H) (ret (.bool false) H):=by kernel_rfl
end Go.Proofs.YtenibcfppefobaaGreatDoor
set_option linter.all false
noncomputable section
namespace Go.Proofs.YtenibcfppefobaaGreatDoor
open Go.AI
theorem VI{R:bm}{y a:Nat}{H:DH}:aR R 183 [.yld y,.ptr a 0] H =
 aG H a fun _ b=>aF b 0 fun b=>C R 184 [b] H fun _ H=>af R 183 200001 [.g (.yld y),.g (.ptr a 0)] [] H:=by kernel_rfl
theorem Dx{R:bm}{v0 v1:Nat}{H:DH}:bA R 183 200001 [.g (.yld v0),.g (.ptr v1 0)] [] H =
 aG H v1 fun _ a=>aF a 0 fun a=>eD a fun a=>dt a 0 fun a=>dt a 1 fun a=>eZ ab 3 a H fun a=>aG H v1 fun _ b=>aF b 0 fun b=>eD b fun b=>dt b 0 fun b=>dt b 0 fun b=>eZ ab 9 b H fun b=>eC ab 9 b H fun b=>ay ab .lss 3 false a b fun a=>brD a (aG H v1 fun _ a=>aF a 0 fun a=>C R 185 [a] H fun a H=>ah 4 a fun a=>ar (xT 0 0 [] 0) 0 a fun a=>aG H v1 fun _ b=>aF b 0 fun b=>eD b fun c=>dt c 0 fun c=>dt c 1 fun c=>eZ ab 3 c H fun c=>aF a 2 fun d=>eC ab 9 d H fun d=>ay ab .add 3 false c d fun c=>eD b fun b=>dt b 0 fun b=>dt b 1 fun b=>ah 1 c fun c=>NI b c H fun H=>aF a 0 fun b=>aF a 1 fun c=>aF a 2 fun d=>aF a 3 fun a=>dP (R (.call 0 [.agg [b,c,d,a]] (some (.round v0))) H) (fun a H=>rI .not a fun a=>brD a (ret (.tuple []) H) (aG H v1 fun _ a=>aF a 0 fun a=>C R 184 [a] H fun _ H=>af R 183 200001 [.g (.yld v0),.g (.ptr v1 0)] [] H)) fun a H=>some ⟨.pan a,none,H⟩) (ret (.tuple []) H):=by kernel_rfl
theorem Vm{R:bm}{p0:Nat}{p1 p2:Int}{H:DH}:aR R 234 [.ptr p0 0,.i p1,.i p2] H =
 cond (decide (p2>24)) (aG H p0 fun _ a=>aF a 1 fun a=>ah 1 a fun a=>ar [.i 0,.i 0] 0 a fun a=>ar a 1 [.i 2] fun a=>pan (.iface 180 (.agg a)) H) (aG H p0 fun _ a=>aF a 0 fun a=>aG H p0 fun _ b=>aF b 1 fun b=>aG H p0 fun _ c=>aF c 1 fun c=>ay ab .add 3 false c (.i p2) fun c=>cy ab 9 a (some b) (some c) none H fun a _=>aG H p0 fun _ b=>aF b 1 fun b=>ah 1 a fun a=>ar (xT p1 0 [] 0) 2 a fun a=>ah 1 b fun b=>ar a 3 b fun a=>ah 4 (.agg a) fun a=>ar (xT 0 0 [] 0) 0 a fun a=>aF a 0 fun b=>aF a 1 fun c=>aF a 2 fun d=>aF a 3 fun a=>ret (.agg [b,c,d,a]) H):=by kernel_rfl
theorem VB{R:bm}{p0:ac}{p1:Int}{H:DH}:aR R 191 [.str p0,.i p1] H =
 af R 191 200002 [.g (.str p0),.n p1] [] H:=by kernel_rfl
theorem Du{R:bm}{v0:ac}{v5:Int}{H:DH}:bA R 191 200002 [.g (.str v0),.n v5] [] H =
 cond (decide (v5<v0.length)) (dJ v5 fun a=>eE v0 a fun a=>C R 189 [a] H fun a H=>brD a (af R 191 200002 [.g (.str v0),.n (cS (v5+1))] [] H) (ret (.i v5) H)) (ret (.i v5) H):=by kernel_rfl
theorem VD{R:bm}{p0:Int}{H:DH}:aR R 189 [.int .u8 p0] H =
 C R 190 [.int .u8 p0] H fun a H=>brD a (ret (.bool true) H) (C R 192 [.int .u8 p0] H fun a H=>brD a (ret (.bool true) H) (C R 187 [.int .u8 p0] H fun a H=>brD a (ret (.bool true) H) (ret (.bool (p0==95)) H))):=by kernel_rfl
theorem Vn{R:bm}{p0:Int}{H:DH}:aR R 233 [.int .u8 p0] H =
 cond (decide ((65:Int)<=p0)) (ret (.bool (decide (p0<=90))) H) (ret (.bool false) H):=by kernel_rfl
end Go.Proofs.YtenibcfppefobaaGreatDoor
set_option linter.all false
noncomputable section
namespace Go.Proofs.YtenibcfppefobaaGreatDoor
open Go.AI
theorem VG{R:bm}{p0:Nat}{H:DH}:aR R 185 [.ptr p0 0] H =
 C R 228 [.ptr p0 0,.i 0] H fun a H=>C R 229 [a] H fun b H=>brD b (C R 230 [.ptr p0 0] H fun a H=>ah 4 a fun a=>ar (xT 0 0 [] 0) 0 a fun a=>aF a 0 fun b=>aF a 1 fun c=>aF a 2 fun d=>aF a 3 fun a=>ret (.agg [b,c,d,a]) H) (ay ab .eql 5 true a (.int .u8 126) fun b=>brD b (C R 230 [.ptr p0 0] H fun a H=>ah 4 a fun a=>ar (xT 0 0 [] 0) 0 a fun a=>aF a 0 fun b=>aF a 1 fun c=>aF a 2 fun d=>aF a 3 fun a=>ret (.agg [b,c,d,a]) H) (C R 231 [a] H fun b H=>brD b (C R 232 [.ptr p0 0,.i 2] H fun a H=>ah 4 a fun a=>ar (xT 0 0 [] 0) 0 a fun a=>aF a 0 fun b=>aF a 1 fun c=>aF a 2 fun d=>aF a 3 fun a=>ret (.agg [b,c,d,a]) H) (C R 233 [a] H fun b H=>brD b (C R 232 [.ptr p0 0,.i 3] H fun a H=>ah 4 a fun a=>ar (xT 0 0 [] 0) 0 a fun a=>aF a 0 fun b=>aF a 1 fun c=>aF a 2 fun d=>aF a 3 fun a=>ret (.agg [b,c,d,a]) H) (ay ab .eql 5 true a (.int .u8 39) fun b=>brD b (C R 228 [.ptr p0 0,.i 1] H fun b H=>C R 231 [b] H fun b H=>brD b (C R 224 [.ptr p0 0,.i 1,.func 235 [] []] H fun a H=>ay ab .add 3 true (.i 1) a fun a=>C R 234 [.ptr p0 0,.i 4,a] H fun a H=>ah 4 a fun a=>ar (xT 0 0 [] 0) 0 a fun a=>aF a 0 fun b=>aF a 1 fun c=>aF a 2 fun d=>aF a 3 fun a=>ret (.agg [b,c,d,a]) H) (af R 185 11 [.g (.ptr p0 0),.lp 0 0,.g a] [(0,(xT 0 0 [] 0))] H)) (af R 185 11 [.g (.ptr p0 0),.lp 0 0,.g a] [(0,(xT 0 0 [] 0))] H))))):=by kernel_rfl
theorem OO{R:bm}{v0:Nat}{v3 a b:Int}{c:ac}{e:Int}{H:DH}:bA R 185 11 [.g (.ptr v0 0),.lp 0 0,.g (.int .u8 v3)] [(0,xT a b c e)] H =
 C R 226 [.ptr v0 0,.str [61,62]] H fun d H=>brD d (C R 234 [.ptr v0 0,.i 6,.i 2] H fun d H=>ah 4 d fun d=>ar (xT a b c e) 0 d fun a=>aF a 0 fun b=>aF a 1 fun c=>aF a 2 fun d=>aF a 3 fun a=>ret (.agg [b,c,d,a]) H) (C R 226 [.ptr v0 0,.str [45,62]] H fun d H=>brD d (C R 234 [.ptr v0 0,.i 6,.i 2] H fun d H=>ah 4 d fun d=>ar (xT a b c e) 0 d fun a=>aF a 0 fun b=>aF a 1 fun c=>aF a 2 fun d=>aF a 3 fun a=>ret (.agg [b,c,d,a]) H) (C R 236 [.str [40,41,44,59,58,124,61,60,43,45,42,47,37,95],.int .u8 v3] H fun d H=>ay ab .geq 3 true d (.i 0) fun d=>brD d (C R 234 [.ptr v0 0,.i 6,.i 1] H fun d H=>ah 4 d fun d=>ar (xT a b c e) 0 d fun a=>aF a 0 fun b=>aF a 1 fun c=>aF a 2 fun d=>aF a 3 fun a=>ret (.agg [b,c,d,a]) H) (aG H v0 fun _ a=>aF a 1 fun a=>ah 1 a fun a=>ar [.i 0,.i 0] 0 a fun a=>ar a 1 [.i 11] fun a=>pan (.iface 180 (.agg a)) H))):=by kernel_rfl
theorem Vy{R:bm}{p0:ac}{p1:Int}{H:DH}:aR R 193 [.str p0,.i p1] H =
 af R 193 200002 [.g (.str p0),.n p1] [] H:=by kernel_rfl
theorem Dt{R:bm}{v0:ac}{v5:Int}{H:DH}:bA R 193 200002 [.g (.str v0),.n v5] [] H =
 cond (decide (v5<v0.length)) (dJ v5 fun a=>eE v0 a fun a=>C R 189 [a] H fun a H=>brD a (af R 193 200002 [.g (.str v0),.n (cS (v5+1))] [] H) (af R 193 200005 [.g (.str v0),.n v5,.n (cS (v5+1))] [] H)) (af R 193 200005 [.g (.str v0),.n v5,.n (cS (v5+1))] [] H):=by kernel_rfl
theorem Ds{R:bm}{v0:ac}{v5 v6:Int}{H:DH}:bA R 193 200005 [.g (.str v0),.n v5,.n v6] [] H =
 cond (decide (v6<v0.length)) (dJ v6 fun a=>eE v0 a fun a=>C R 187 [a] H fun a H=>brD a (af R 193 200005 [.g (.str v0),.n v5,.n (cS (v6+1))] [] H) (cond (decide (v5<v0.length)) (dJ v5 fun a=>eE v0 a fun a=>ay ab .eql 5 true a (.int .u8 39) fun a=>brD a (cond (decide (v6>(cS (v5+1)))) (ret (.i v6) H) (ret (.i v5) H)) (ret (.i v5) H)) (ret (.i v5) H))) (cond (decide (v5<v0.length)) (dJ v5 fun a=>eE v0 a fun a=>ay ab .eql 5 true a (.int .u8 39) fun a=>brD a (cond (decide (v6>(cS (v5+1)))) (ret (.i v6) H) (ret (.i v5) H)) (ret (.i v5) H)) (ret (.i v5) H)):=by kernel_rfl
theorem Vw{R:bm}{p0:Nat}{p1:ac}{H:DH}:aR R 226 [.ptr p0 0,.str p1] H =
 aG H p0 fun _ a=>aF a 0 fun a=>aG H p0 fun _ b=>aF b 1 fun b=>cy ab 9 a (some b) none none H fun a _=>dP (R (.call 261 [a,.str p1] none) H) (fun a H=>ret a H) fun _ _=>none:=by kernel_rfl
theorem VJ{R:bm}{p0:Int}{H:DH}:aR R 136 [.int .u8 p0] H =
 cond (p0==9) (ret (.bool true) H) (cond (p0==10) (ret (.bool true) H) (cond (p0==13) (ret (.bool true) H) (ret (.bool (p0==32)) H))):=by kernel_rfl
theorem Vp{R:bm}{p0:Int}{H:DH}:aR R 231 [.int .u8 p0] H =
 cond (decide ((97:Int)<=p0)) (ret (.bool (decide (p0<=122))) H) (ret (.bool false) H):=by kernel_rfl
theorem Vk{R:bm}{p0 p1:ac}{H:DH}:aR R 261 [.str p0,.str p1] H =
 C R 276 [.str p0,.str p1] H fun a H=>ret a H:=by kernel_rfl
end Go.Proofs.YtenibcfppefobaaGreatDoor
set_option linter.all false
noncomputable section
namespace Go.Proofs.YtenibcfppefobaaGreatDoor
open Go.AI
theorem WL{R:bm}{p0:ac}{H:DH}:aR R 87 [.str p0] H =
 let a:=H++[.cells 0 [.nilrow]];let b:=a++[.cells 0 [.i 0,.i 0]];C R 132 [.str p0] b fun b c=>dP (R (.call 134 [b] none) c) (fun c d=>IX c fun e f g=>dP (R (.call e (f++(.yld (d.length+1)::g)) none) (d++[.coll,Re de 87 [0,2,3,4,6,7,8,9,10] [.g (.str p0),.g b,.g (.ptr H.length 0),.g (.ptr a.length 0),.g (.str p0),.g b,.g (.func 133 [] [.ptr H.length 0,.ptr a.length 0]),.g b,.g c]])) (fun _ c=>zf c (d.length+1) fun c=>aG c H.length fun _ e=>aF e 0 fun e=>ah 1 e fun e=>aG c H.length fun f g=>ar g 0 e fun e=>let e:=c.set H.length (.cells (f+1) e);aG (cH e [c]) a.length fun _ c=>aF c 0 fun f=>aF c 1 fun c=>aG e a.length fun g h=>ar h 0 [f,c] fun c=>let c:=e.set a.length (.cells (g+1) c);rg c d.length fun c=>Ga (R (.call 133 [.ptr H.length 0,.ptr a.length 0] (some .returning)) c) (fun c=>aG c H.length fun _ d=>aF d 0 fun d=>aG c a.length fun _ a=>aF a 0 fun e=>aF a 1 fun a=>ret (.tuple [b,d,.agg [e,a]]) c) fun a H=>some ⟨.pan a,none,H⟩) fun c e=>rg e d.length fun d=>Ga (R (.call 133 [.ptr H.length 0,.ptr a.length 0] (some (.panicking c))) d) (fun c=>aG c H.length fun _ d=>aF d 0 fun d=>aG c a.length fun _ a=>aF a 0 fun e=>aF a 1 fun a=>ret (.tuple [b,d,.agg [e,a]]) c) fun a H=>some ⟨.pan a,none,H⟩) fun c d=>Ga (R (.call 133 [.ptr H.length 0,.ptr a.length 0] (some (.panicking c))) d) (fun c=>aG c H.length fun _ d=>aF d 0 fun d=>aG c a.length fun _ a=>aF a 0 fun e=>aF a 1 fun a=>ret (.tuple [b,d,.agg [e,a]]) c) fun a H=>some ⟨.pan a,none,H⟩:=by kernel_rfl
theorem ON{R:bm}{v0:ac}{v2:D}{v3 v4:Nat}{v6:ac}{v7 v8 v9 a:D}{b c:Int}{e:ac}{h:Int}{o:Nat}{H:DH}:QB de R 200 87 o [0,2,3,4,6,7,8,9,10] [.g (.str v0),.g v2,.g (.ptr v3 0),.g (.ptr v4 0),.g (.str v6),.g v7,.g v8,.g v9,.g a] [.agg (xT b c e h)] H =
 let a:=H++[.cells 0 (xT 0 0 [] 0)];aG a H.length fun d f=>ar f 0 (xT b c e h) fun b=>let a:=a.set H.length (.cells (d+1) b);Jt a o fun a=>aG a v3 fun _ b=>aF b 0 fun b=>aG a H.length fun _ c=>aF c 0 fun d=>aF c 1 fun e=>aF c 2 fun f=>aF c 3 fun c=>eG (aT ab 160) 4 b [[d,e,f,c]] a fun a H=>ah 1 a fun a=>aG H v3 fun b c=>ar c 0 a fun a=>let H:=H.set v3 (.cells (b+1) a);vk H o:=by kernel_rfl
theorem Vo{R:bm}{p0:Nat}{p1:Int}{H:DH}:aR R 232 [.ptr p0 0,.i p1] H =
 C R 224 [.ptr p0 0,.i 0,.func 235 [] []] H fun a H=>C R 228 [.ptr p0 0,a] H fun b H=>ay ab .eql 5 true b (.int .u8 39) fun b=>brD b (ay ab .add 3 true a (.i 1) fun b=>C R 224 [.ptr p0 0,b,.func 229 [] []] H fun b H=>ay ab .gtr 3 true b (.i 0) fun c=>brD c (ay ab .add 3 true (.i 1) b fun b=>ay ab .add 3 false a b fun a=>af R 232 6 [.g (.ptr p0 0),.n p1,.lp 0 0,.g a] [(0,(xT 0 0 [] 0))] H) (af R 232 6 [.g (.ptr p0 0),.n p1,.lp 0 0,.g a] [(0,(xT 0 0 [] 0))] H)) (af R 232 6 [.g (.ptr p0 0),.n p1,.lp 0 0,.g a] [(0,(xT 0 0 [] 0))] H):=by kernel_rfl
theorem Sd{R:bm}{v0:Nat}{v1 v5 a b:Int}{c:ac}{e:Int}{H:DH}:bA R 232 6 [.g (.ptr v0 0),.n v1,.lp 0 0,.n v5] [(0,xT a b c e)] H =
 C R 234 [.ptr v0 0,.i v1,.i v5] H fun a H=>ah 4 a fun a=>ar (xT 0 0 [] 0) 0 a fun a=>aG H v0 fun _ b=>aF b 2 fun b=>aF a 2 fun c=>eR ab 135 b c true H fun b=>cO b 0 fun c=>cO b 1 fun b=>brD b (ah 1 c fun b=>ar a 0 b fun a=>aF a 0 fun b=>aF a 1 fun c=>aF a 2 fun d=>aF a 3 fun a=>ret (.agg [b,c,d,a]) H) (aF a 0 fun b=>aF a 1 fun c=>aF a 2 fun d=>aF a 3 fun a=>ret (.agg [b,c,d,a]) H):=by kernel_rfl
theorem VH{R:bm}{p0:Nat}{H:DH}:aR R 184 [.ptr p0 0] H =
 af R 184 200000 [.g (.ptr p0 0)] [] H:=by kernel_rfl
theorem Dw{R:bm}{v0:Nat}{H:DH}:bA R 184 200000 [.g (.ptr v0 0)] [] H =
 dP (R (.call 224 [.ptr v0 0,.i 0,.func 225 [] []] none) H) (fun a b=>aG (cH b [H]) v0 fun _ c=>aF c 1 fun c=>ay ab .add 3 false c a fun a=>ah 1 a fun a=>aG b v0 fun c d=>ar d 1 a fun a=>let H:=b.set v0 (.cells (c+1) a);C R 226 [.ptr v0 0,.str [40,42]] H fun a H=>rI .not a fun a=>brD a (ret (.tuple []) H) (aG H v0 fun _ a=>aF a 1 fun a=>C R 227 [.ptr v0 0] H fun _ H=>aG H v0 fun _ b=>aF b 3 fun b=>aG H v0 fun _ c=>aF c 1 fun c=>ah 1 a fun a=>ar [.i 0,.i 0] 0 a fun a=>ah 1 c fun c=>ar a 1 c fun a=>ah 2 (.agg a) fun a=>eG (aT ab 304) 2 b [a] H fun a H=>ah 1 a fun a=>aG H v0 fun b c=>ar c 3 a fun a=>let H:=H.set v0 (.cells (b+1) a);af R 184 200000 [.g (.ptr v0 0)] [] H)) fun _ _=>none:=by kernel_rfl
theorem VC{R:bm}{p0:Int}{H:DH}:aR R 190 [.int .u8 p0] H =
 cond (decide (p0>=97)) (ret (.bool (decide (p0<=122))) H) (ret (.bool false) H):=by kernel_rfl
end Go.Proofs.YtenibcfppefobaaGreatDoor
set_option linter.all false
noncomputable section
namespace Go.Proofs.YtenibcfppefobaaGreatDoor
open Go.AI
theorem WK{R:bm}{p0:ac}{H:DH}:aR R 90 [.str p0] H =
 cond ((p0.length:Int)==0) (ret (.i 0) H) (cond (decide ((p0.length:Int)>100)) (ret (.i 0) H) (eE p0 0 fun a=>C R 136 [a] H fun a H=>brD a (ret (.i 0) H) (cond (decide ((p0.length:Int)>1)) (cy ab 9 (.str p0) none (some (.i 2)) none H fun a H=>ay ab .eql 9 true a (.str [40,42]) fun a=>brD a (ret (.i 0) H) (af R 90 5 [.g (.str p0)] [] H)) (af R 90 5 [.g (.str p0)] [] H)))):=by kernel_rfl
theorem TV{R:bm}{v0:ac}{H:DH}:bA R 90 5 [.g (.str v0)] [] H =
 C R 137 [.str v0,.i 0] H fun a H=>cO a 0 fun b=>cO a 1 fun a=>ah 4 b fun b=>ar (xT 0 0 [] 0) 0 b fun b=>ay ab .neq 28 true a (.i 0) fun a=>brD a (ret (.i 0) H) (aF b 2 fun a=>eC ab 9 a H fun a=>ay ab .neq 3 false a (.i v0.length) fun a=>brD a (ret (.i 0) H) (aF b 0 fun a=>ret a H)):=by kernel_rfl
theorem Vl{R:bm}{p0:Int}{H:DH}:aR R 235 [.int .u8 p0] H =
 C R 231 [.int .u8 p0] H fun a H=>brD a (ret (.bool true) H) (C R 233 [.int .u8 p0] H fun a H=>brD a (ret (.bool true) H) (C R 229 [.int .u8 p0] H fun a H=>brD a (ret (.bool true) H) (ret (.bool (p0==95)) H))):=by kernel_rfl
end Go.Proofs.YtenibcfppefobaaGreatDoor
set_option linter.all false
noncomputable section
namespace Go.Proofs.YtenibcfppefobaaGreatDoor
open Go.AI
theorem Vv{R:bm}{p0:Nat}{H:DH}:aR R 227 [.ptr p0 0] H =
 aG H p0 fun _ a=>aF a 1 fun a=>af R 227 200002 [.g (.ptr p0 0),.g a,.n 0] [] H:=by kernel_rfl
theorem Dq{R:bm}{v0:Nat}{v2 v3:Int}{H:DH}:bA R 227 200002 [.g (.ptr v0 0),.n v2,.n v3] [] H =
 aG H v0 fun _ a=>aF a 1 fun a=>aG H v0 fun _ b=>aF b 0 fun b=>eC ab 9 b H fun b=>ay ab .geq 3 false a b fun a=>brD a (pan (.iface 180 (.agg [.i v2,.i 12])) H) (C R 226 [.ptr v0 0,.str [40,42]] H fun a H=>brD a (cond (decide (v3>=100)) (aG H v0 fun _ a=>aF a 1 fun a=>ah 1 a fun a=>ar [.i 0,.i 0] 0 a fun a=>ar a 1 [.i 6] fun a=>pan (.iface 180 (.agg a)) H) (aG H v0 fun _ a=>aF a 1 fun a=>ay ab .add 3 true a (.i 2) fun a=>ah 1 a fun a=>aG H v0 fun b c=>ar c 1 a fun a=>let H:=H.set v0 (.cells (b+1) a);af R 227 200002 [.g (.ptr v0 0),.n v2,.n (cS (v3+1))] [] H)) (C R 226 [.ptr v0 0,.str [42,41]] H fun a H=>brD a (aG H v0 fun _ a=>aF a 1 fun a=>ay ab .add 3 true a (.i 2) fun a=>ah 1 a fun a=>aG H v0 fun b c=>ar c 1 a fun a=>let H:=H.set v0 (.cells (b+1) a);cond ((cS (v3 - 1))==0) (ret (.tuple []) H) (af R 227 200002 [.g (.ptr v0 0),.n v2,.n (cS (v3 - 1))] [] H)) (aG H v0 fun _ a=>aF a 1 fun a=>ay ab .add 3 true a (.i 1) fun a=>ah 1 a fun a=>aG H v0 fun b c=>ar c 1 a fun a=>let H:=H.set v0 (.cells (b+1) a);af R 227 200002 [.g (.ptr v0 0),.n v2,.n v3] [] H))):=by kernel_rfl
theorem f224{R:bm}{p0:Nat}{p1:Int}{p2:D}{H:DH}:aR R 224 [.ptr p0 0,.i p1,p2] H =
 af R 224 200002 [.g (.ptr p0 0),.n p1,.g p2,.n 0] [] H:=by kernel_rfl
theorem Dr{R:bm}{v0:Nat}{v1:Int}{v2:D}{v7:Int}{H:DH}:bA R 224 200002 [.g (.ptr v0 0),.n v1,.g v2,.n v7] [] H =
 aG H v0 fun _ a=>aF a 1 fun a=>ay ab .add 3 false a (.i v1) fun a=>ay ab .add 3 false a (.i v7) fun a=>aG H v0 fun _ b=>aF b 0 fun b=>eC ab 9 b H fun b=>ay ab .lss 3 false a b fun a=>brD a (aG H v0 fun _ a=>aF a 0 fun a=>aG H v0 fun _ b=>aF b 1 fun b=>ay ab .add 3 false b (.i v1) fun b=>ay ab .add 3 false b (.i v7) fun b=>ja ab 9 a b fun a=>FF lK v2 fun b c d=>dP (R (.call b (c++([a]++d)) none) H) (fun a H=>brD a (af R 224 200002 [.g (.ptr v0 0),.n v1,.g v2,.n (cS (v7+1))] [] H) (ret (.i v7) H)) fun _ _=>none) (ret (.i v7) H):=by kernel_rfl
theorem Sg{R:bm}{a b:Nat}{H:DH}:JY de R 200 (.call 133 [.ptr a 0,.ptr b 0] (some .returning)) H =
 some ⟨.ret (.tuple []),(some .returning),H⟩:=by kernel_rfl
theorem Sh{R:bm}{b c:Nat}{a e:Int}{H:DH}:JY de R 200 (.call 133 [.ptr b 0,.ptr c 0] (some (.panicking [⟨.iface 180 (.agg [.i a,.i e]),false⟩]))) H =
 lS ab (.iface 180 (.agg [.i a,.i e])) 180 true fun d=>cO d 1 fun f=>cO d 0 fun d=>brD f (ah 2 d fun d=>ar [.i 0,.i 0] 0 d fun d=>aG H b fun f g=>ar g 0 [.nilrow] fun g=>let H:=H.set b (.cells (f+1) g);aF d 0 fun b=>aF d 1 fun d=>aG H c fun f g=>ar g 0 [b,d] fun b=>let H:=H.set c (.cells (f+1) b);some ⟨.ret (.tuple []),(some (.panicking [⟨.iface 180 (.agg [.i a,.i e]),true⟩])),H⟩) (some ⟨.pan [⟨.iface 180 (.agg [.i a,.i e]),false⟩],(some (.panicking [⟨.iface 180 (.agg [.i a,.i e]),true⟩])),H⟩):=by kernel_rfl
theorem WN{R:bm}{p0:ac}{H:DH}:aR R 57 [.str p0] H =
 pU H (cond (decide ((p0.length:Int)>24)) (ret (.i 0) H) (C R 87 [.str p0] H fun a H=>cO a 0 fun _=>cO a 1 fun b=>cO a 2 fun a=>ah 2 a fun a=>ar [.i 0,.i 0] 0 a fun a=>aF a 1 fun a=>ay ab .neq 28 true a (.i 0) fun a=>brD a (ret (.i 0) H) (eC ab 141 b H fun a=>ay ab .neq 3 true a (.i 1) fun a=>brD a (ret (.i 0) H) (cE ab 141 b (.i 0) fun a=>dt a 2 fun a=>eZ ab 9 a H fun a=>ay ab .neq 9 false a (.str p0) fun a=>brD a (ret (.i 0) H) (cE ab 141 b (.i 0) fun a=>dt a 0 fun a=>eZ ab 3 a H fun a=>ret a H))))):=by kernel_rfl
theorem Vu{R:bm}{p0:Nat}{p1:Int}{H:DH}:aR R 228 [.ptr p0 0,.i p1] H =
 aG H p0 fun _ a=>aF a 1 fun a=>ay ab .add 3 false a (.i p1) fun a=>aG H p0 fun _ b=>aF b 0 fun b=>eC ab 9 b H fun b=>ay ab .geq 3 false a b fun a=>brD a (ret (.int .u8 0) H) (aG H p0 fun _ a=>aF a 0 fun a=>aG H p0 fun _ b=>aF b 1 fun b=>ay ab .add 3 false b (.i p1) fun b=>ja ab 9 a b fun a=>ret a H):=by kernel_rfl
theorem WU{R:bm}{p0:ac}{H:DH}:aR R 29 [.str p0] H =
 C R 57 [.str p0] H fun a H=>ay ab .eql 3 true a (.i 4) fun a=>ret a H:=by kernel_rfl
theorem VK{R:bm}{p0:Nat}{H:DH}:aR R 134 [.ptr p0 0] H =
 let a:=H++[.cells 0 [.ptr p0 0]];ret (.func 183 [] [.ptr H.length 0]) a:=by kernel_rfl
end Go.Proofs.YtenibcfppefobaaGreatDoor
set_option linter.all false
noncomputable section
namespace Go.Proofs.YtenibcfppefobaaGreatDoor
open Go.AI
theorem Vq{R:bm}{p0:Nat}{H:DH}:aR R 230 [.ptr p0 0] H =
 C R 228 [.ptr p0 0,.i 0] H fun a H=>ay ab .eql 5 true a (.int .u8 126) fun a=>brD a (af R 230 4 [.g (.ptr p0 0),.lp 0 0,.n 1] [(0,(xT 0 0 [] 0))] H) (af R 230 4 [.g (.ptr p0 0),.lp 0 0,.n 0] [(0,(xT 0 0 [] 0))] H):=by kernel_rfl
theorem Mp{R:bm}{v0:Nat}{v3 a b:Int}{c:ac}{e:Int}{H:DH}:bA R 230 4 [.g (.ptr v0 0),.lp 0 0,.n v3] [(0,xT a b c e)] H =
 C R 224 [.ptr v0 0,.i v3,.func 229 [] []] H fun d H=>ay ab .add 3 false (.i v3) d fun f=>C R 228 [.ptr v0 0,f] H fun f H=>aG H v0 fun _ g=>aF g 0 fun g=>aG H v0 fun _ h=>aF h 1 fun h=>aG H v0 fun _ i=>aF i 1 fun i=>ay ab .add 3 false i (.i v3) fun i=>ay ab .add 3 false i d fun d=>cy ab 9 g (some h) (some d) none H fun d _=>C R 262 [d] H fun g H=>cO g 0 fun h=>cO g 1 fun g=>ay ab .neq 28 true g (.i 0) fun g=>brD g (aG H v0 fun _ a=>aF a 1 fun a=>ah 1 a fun a=>ar [.i 0,.i 0] 0 a fun a=>ar a 1 [.i 13] fun a=>pan (.iface 180 (.agg a)) H) (C R 235 [f] H fun g H=>brD g (aG H v0 fun _ a=>aF a 1 fun a=>ah 1 a fun a=>ar [.i 0,.i 0] 0 a fun a=>ar a 1 [.i 13] fun a=>pan (.iface 180 (.agg a)) H) (ay ab .eql 5 true f (.int .u8 39) fun f=>brD f (aG H v0 fun _ a=>aF a 1 fun a=>ah 1 a fun a=>ar [.i 0,.i 0] 0 a fun a=>ar a 1 [.i 13] fun a=>pan (.iface 180 (.agg a)) H) (aG H v0 fun _ f=>aF f 1 fun f=>ah 1 h fun g=>ar (xT 1 0 [] 0) 1 g fun g=>ah 1 d fun d=>ar g 2 d fun d=>ah 1 f fun f=>ar d 3 f fun d=>ah 4 (.agg d) fun d=>ar (xT a b c e) 0 d fun a=>aF a 0 fun b=>aF a 1 fun c=>aF a 2 fun d=>aF a 3 fun a=>ret (.agg [b,c,d,a]) H))):=by kernel_rfl
theorem f195{R:bm}{p0:ac}{p1:Int}{H:DH}:aR R 195 [.str p0,.i p1] H =
 cond (decide ((cS (p1+1))<(p0.length:Int))) (cy ab 9 (.str p0) (some (.i p1)) (some (.i (cS (p1+2)))) none H fun a H=>ay ab .eql 9 true a (.str [61,62]) fun a=>brD a (ret (.i 2) H) (cy ab 9 (.str p0) (some (.i p1)) (some (.i (cS (p1+2)))) none H fun a H=>ay ab .eql 9 true a (.str [45,62]) fun a=>brD a (ret (.i 2) H) (af R 195 200005 [.g (.str p0),.n p1,.g (.str [40,41,44,59,58,124,61,60,43,45,42,47,37,95]),.n 0] [] H))) (af R 195 200005 [.g (.str p0),.n p1,.g (.str [40,41,44,59,58,124,61,60,43,45,42,47,37,95]),.n 0] [] H):=by kernel_rfl
theorem tE{R:bm}{v0:ac}{v1:Int}{v5:ac}{v6:Int}{H:DH}:bA R 195 200005 [.g (.str v0),.n v1,.g (.str v5),.n v6] [] H =
 cond (decide (v6<v5.length)) (dJ v6 fun a=>eE v5 a fun a=>dJ v1 fun b=>eE v0 b fun b=>ay ab .eql 5 false a b fun a=>brD a (ret (.i 1) H) (af R 195 200005 [.g (.str v0),.n v1,.g (.str v5),.n (cS (v6+1))] [] H)) (ret (.i 0) H):=by kernel_rfl
theorem WO{R:bm}{p0:ac}{H:DH}:aR R 55 [.str p0] H =
 C R 57 [.str p0] H fun a H=>ay ab .eql 3 true a (.i 3) fun a=>ret a H:=by kernel_rfl
theorem VF{R:bm}{p0:Int}{H:DH}:aR R 187 [.int .u8 p0] H =
 cond (decide (p0>=48)) (ret (.bool (decide (p0<=57))) H) (ret (.bool false) H):=by kernel_rfl
end Go.Proofs.YtenibcfppefobaaGreatDoor
set_option linter.all false
noncomputable section
namespace Go.Proofs.YtenibcfppefobaaGreatDoor
open Go.AI
theorem VE{R:bm}{p0:ac}{H:DH}:aR R 188 [.str p0] H =
 cond (decide ((p0.length:Int)>0)) (eE p0 0 fun a=>ay ab .eql 5 true a (.int .u8 126) fun a=>brD a (af R 188 4 [.g (.str p0),.n 1] [] H) (af R 188 4 [.g (.str p0),.n 0] [] H)) (af R 188 4 [.g (.str p0),.n 0] [] H):=by kernel_rfl
theorem Se{R:bm}{v0:ac}{v4:Int}{H:DH}:bA R 188 4 [.g (.str v0),.n v4] [] H =
 cond ((v0.length:Int)==v4) (ret (.tuple [.i 0,.i 13]) H) (cond (decide ((v0.length:Int)>30)) (ret (.tuple [.i 0,.i 13]) H) (dJ v4 fun a=>eE v0 a fun a=>ay ab .eql 5 true a (.int .u8 48) fun a=>brD a (cond (decide ((v0.length:Int)>1)) (ret (.tuple [.i 0,.i 13]) H) (af R 188 200009 [.g (.str v0),.n v4,.n 0,.n (-9223372036854775808),.n v4] [] H)) (af R 188 200009 [.g (.str v0),.n v4,.n 0,.n (-9223372036854775808),.n v4] [] H))):=by kernel_rfl
theorem Dv{R:bm}{v0:ac}{v4 v5 v6 v7:Int}{H:DH}:bA R 188 200009 [.g (.str v0),.n v4,.n v5,.n v6,.n v7] [] H =
 cond (decide (v7<v0.length)) (dJ v7 fun a=>eE v0 a fun a=>C R 187 [a] H fun a H=>rI .not a fun a=>brD a (ret (.tuple [.i 0,.i 13]) H) (dJ v7 fun a=>eE v0 a fun a=>ay ab .sub 5 true a (.int .u8 48) fun a=>oO ab 5 3 a fun a=>ay ab .add 3 false (.i v6) a fun b=>ay ab .quo 3 true b (.i 10) fun b=>ay ab .lss 3 false (.i v5) b fun b=>brD b (ret (.tuple [.i 0,.i 13]) H) (ay ab .sub 3 false (.i (cS (10*v5))) a fun a=>af R 188 200009 [.g (.str v0),.n v4,.g a,.n v6,.n (cS (v7+1))] [] H))) (cond (v4==1) (ret (.tuple [.i v5,.i 0]) H) (cond (v5==v6) (ret (.tuple [.i 0,.i 13]) H) (ret (.tuple [.i (cS (0 - v5)),.i 0]) H))):=by kernel_rfl
theorem VL{R:bm}{p0:ac}{H:DH}:aR R 132 [.str p0] H =
 let a:=H++[.map []];let b:=a++[.buf 2 true false []];let H:=b++[.cells 0 [.str p0,.i 0,.map H.length,.buf 2 a.length 0]];af R 132 200003 [.g (.ptr b.length 0),.g (.agg [.str [97,110,100],.str [99,97,115,101],.str [100,97,116,97],.str [101,108,115,101],.str [101,110,100],.str [102,110],.str [102,117,110],.str [105,102],.str [105,110],.str [105,110,112,117,116],.str [108,101,116],.str [111,102],.str [111,117,116,112,117,116],.str [116,104,101,110],.str [118,97,108]]),.n 0] [] H:=by kernel_rfl
theorem Dz{R:bm}{v3:Nat}{a b c e h j k l m p q r s t u:ac}{v:Int}{H:DH}:bA R 132 200003 [.g (.ptr v3 0),.g (.agg [.str a,.str b,.str c,.str e,.str h,.str j,.str k,.str l,.str m,.str p,.str q,.str r,.str s,.str t,.str u]),.n v] [] H =
 cond (decide (v<15)) (ja ab 281 (.agg [.str a,.str b,.str c,.str e,.str h,.str j,.str k,.str l,.str m,.str p,.str q,.str r,.str s,.str t,.str u]) (.i v) fun d=>aG H v3 fun _ f=>aF f 2 fun f=>fM ab 135 f d (.i 5) H fun H=>af R 132 200003 [.g (.ptr v3 0),.g (.agg [.str a,.str b,.str c,.str e,.str h,.str j,.str k,.str l,.str m,.str p,.str q,.str r,.str s,.str t,.str u]),.n (cS (v+1))] [] H) (ret (.ptr v3 0) H):=by kernel_rfl
theorem Wo{R:bm}{x:D}{p1:ac}{H:DH}:aR R 88 [x,.str p1] H =
 eC ab 35 x H fun a=>af R 88 200002 [.g x,.g (.str p1),.g a,.n 0] [] H:=by kernel_rfl
theorem pu{R:bm}{v0:D}{v1:ac}{v7 v8:Int}{H:DH}:bA R 88 200002 [.g v0,.g (.str v1),.n v7,.n v8] [] H =
 cond (decide (v8<v7)) (cE ab 35 v0 (.i v8) fun a=>eZ ab 9 a H fun a=>ay ab .eql 9 false (.str v1) a fun a=>brD a (ret (.i v8) H) (af R 88 200002 [.g v0,.g (.str v1),.n v7,.n (cS (v8+1))] [] H)) (ret (.i (-1)) H):=by kernel_rfl
theorem Wp{R:bm}{x:D}{p1:ac}{H:DH}:aR R 58 [x,.str p1] H =
 C R 88 [x,.str p1] H fun a H=>ay ab .geq 3 true a (.i 0) fun a=>ret a H:=by kernel_rfl
theorem Vz{R:bm}{p0:Int}{H:DH}:aR R 192 [.int .u8 p0] H =
 cond (decide (p0>=65)) (ret (.bool (decide (p0<=90))) H) (ret (.bool false) H):=by kernel_rfl
end Go.Proofs.YtenibcfppefobaaGreatDoor
set_option linter.all false
noncomputable section
namespace Go.Proofs.YtenibcfppefobaaGreatDoor
open Go.AI
def pk(l:ac)(i:Nat):Nat:=(l[i]?).getD 0%256
def eQ(c:Nat):Bool:=decide (97<=c)&&decide (c<=122)
def io(c:Nat):Bool:=decide (65<=c)&&decide (c<=90)
def aW(c:Nat):Bool:=decide (48<=c)&&decide (c<=57)
def aP(c:Nat):Bool:=eQ c||io c||aW c||c==95
def dw(c:Nat):Bool:=c==32||c==9||c==10||c==13
def rn(q:Nat->Bool)(l:ac)(i:Nat):Nat:=((l.drop i).takeWhile fun c=>q (c%256)).length
theorem Az(q:Nat->Bool){l:ac}{i:Nat}(h:l.length<=i):rn q l i=0:=by simp[rn,List.drop_eq_nil_of_le h]
theorem jv(q:Nat->Bool){l:ac}{i:Nat}(h:i<l.length):rn q l i=if q (pk l i)=true then rn q l (i+1)+1 else 0:=by
 unfold rn pk
 rw[List.drop_eq_getElem_cons h,List.takeWhile_cons,List.getElem?_eq_getElem h,Option.getD_some]
 split<;>rfl
theorem qf(q:Nat->Bool)(l:ac)(i:Nat)(h:i<=l.length):i+rn q l i<=l.length:=by
 grind [rn,List.takeWhile_sublist]
theorem SV(l:ac)(i:Nat):pk l i<256:=Nat.mod_lt _ (by decide)
theorem mG{l:ac}{i:Nat}(h:l.length<=i):pk l i=0:=by simp[pk,List.getElem?_eq_none h]
theorem cI{l:ac}{i:Nat}(h:i<l.length)(κ:D->ag):eE l i κ=κ (.int .u8 (pk l i:Nat)):=by
 unfold eE pk
 rw[List.getElem?_eq_getElem h,Option.getD_some]
 rfl
theorem IR(l:ac)(H:DH)(κ:D->ag):eC ab 9 (.str l) H κ=κ (.i l.length):=by kernel_rfl
theorem TC(l:ac)(k:IntKind)(i:Int)(κ:D->ag):ja ab 9 (.str l) (.int k i) κ=dJ i fun i=>eE l i κ:=by kernel_rfl
theorem Nq(l:ac)(a b:Nat)(H:DH)(κ:D->DH->ag)(h:a<=b)(h2:b<=l.length):cy ab 9 (.str l) (some (.i a)) (some (.i b)) none H κ=κ (.str ((l.drop a).take (b - a))) H:=by
 have e:cy ab 9 (.str l) (some (.i a)) (some (.i b)) none H κ=boK (Nat.ble b l.length&&Nat.ble a b) (κ (.str ((l.drop a).take (b - a))) H):=by kernel_rfl
 rw[e,Nat.ble_eq_true_of_le h,Nat.ble_eq_true_of_le h2];rfl
theorem Uw(l:ac)(a:Nat)(H:DH)(κ:D->DH->ag)(h:a<=l.length):cy ab 9 (.str l) (some (.i a)) none none H κ=κ (.str (l.drop a)) H:=by
 have e:cy ab 9 (.str l) (some (.i a)) none none H κ=boK (Nat.ble l.length l.length&&Nat.ble a l.length) (κ (.str ((l.drop a).take (l.length - a))) H):=by kernel_rfl
 rw[e,Nat.ble_eq_true_of_le h,Nat.ble_eq_true_of_le (Nat.le_refl _),List.take_of_length_le (by simp)];rfl
theorem SP(l:ac)(b:Nat)(H:DH)(κ:D->DH->ag)(h:b<=l.length):cy ab 9 (.str l) none (some (.i b)) none H κ=κ (.str (l.take b)) H:=by
 have e:cy ab 9 (.str l) none (some (.i b)) none H κ=boK (Nat.ble b l.length&&Nat.ble 0 b) (κ (.str ((l.drop 0).take (b - 0))) H):=by kernel_rfl
 rw[e,Nat.ble_eq_true_of_le h,Nat.ble_eq_true_of_le (Nat.zero_le _)];rfl
theorem iO{x:ag}{d:D}{H:DH}{k:D->DH->ag}{kp:List fo->DH->ag}(h:x=ret d H):dP x k kp=k d H:=by rw[h];rfl
theorem Jo{x:ag}{c:List fo}{u:Option eH}{H:DH}{k:D->DH->ag}{kp:List fo->DH->ag}(h:x=some ⟨.pan c,u,H⟩):dP x k kp=kp c H:=by rw[h];rfl
theorem zZ{R:bm}{f:FuncId}{args:List D}{d:D}{H H':DH}{k:D->DH->ag}(h:R (.call f args none) H=pan d H'):C R f args H k=pan d H':=by rw[C,h];rfl
theorem Fg{H:DH}{o st:Nat}{cs:List D}{κ:Nat->List D->ag}(h:H[o]? = some (.cells st cs)):aG (cH H [H]) o κ=κ st cs:=ae (nj h (fun H2 h2=>by simp at h2;subst h2;exact h))
section bytes
variable(H:DH)(c:Nat)
theorem UP(a:Nat):decide ((a:Int)<=(c:Int))=decide (a<=c):=decide_eq_decide.2 (by omega)
theorem II(a:Nat):decide ((c:Int)<=(a:Int))=decide (c<=a):=decide_eq_decide.2 (by omega)
theorem SI(a:Nat):decide ((c:Int)>=(a:Int))=decide (a<=c):=decide_eq_decide.2 (by omega)
theorem neq(a:Nat):((c:Int)==(a:Int))=(c==a):=by rw[Bool.eq_iff_iff];simp only[beq_iff_eq];omega
theorem Hr(a b:Nat):decide ((a:Int)<(b:Int))=decide (a<b):=decide_eq_decide.2 (by omega)
theorem rng(a b:Nat):cond (decide (a<=c)) (ret (.bool (decide (c<=b))) H) (ret (.bool false) H)=ret (.bool (decide (a<=c)&&decide (c<=b))) H:=by cases decide (a<=c)<;>rfl
theorem Aj:az 231 [.int .u8 (c:Nat)] H=ret (.bool (eQ c)) H:=ev (Vp) (by rw[show(97:Int)=((97:Nat):Int)from rfl,show(122:Int)=((122:Nat):Int)from rfl,UP,II,rng];rfl)
theorem HJ:az 233 [.int .u8 (c:Nat)] H=ret (.bool (io c)) H:=ev (Vn) (by rw[show(65:Int)=((65:Nat):Int)from rfl,show(90:Int)=((90:Nat):Int)from rfl,UP,II,rng];rfl)
theorem uA:az 229 [.int .u8 (c:Nat)] H=ret (.bool (aW c)) H:=ev (Vt) (by rw[show(48:Int)=((48:Nat):Int)from rfl,show(57:Int)=((57:Nat):Int)from rfl,UP,II,rng];rfl)
theorem Ai:az 190 [.int .u8 (c:Nat)] H=ret (.bool (eQ c)) H:=ev (VC) (by rw[show(97:Int)=((97:Nat):Int)from rfl,show(122:Int)=((122:Nat):Int)from rfl,SI,II,rng];rfl)
theorem Bf:az 192 [.int .u8 (c:Nat)] H=ret (.bool (io c)) H:=ev (Vz) (by rw[show(65:Int)=((65:Nat):Int)from rfl,show(90:Int)=((90:Nat):Int)from rfl,SI,II,rng];rfl)
theorem qY:az 187 [.int .u8 (c:Nat)] H=ret (.bool (aW c)) H:=ev (VF) (by rw[show(48:Int)=((48:Nat):Int)from rfl,show(57:Int)=((57:Nat):Int)from rfl,SI,II,rng];rfl)
theorem Fc:az 235 [.int .u8 (c:Nat)] H=ret (.bool (aP c)) H:=ev (Vl) (by
 simp only[ao (Aj _ _),ao (HJ _ _),ao (uA _ _),ai,show(95:Int)=((95:Nat):Int)from rfl,neq,aP]
 cases eQ c<;>cases io c<;>cases aW c<;>rfl)
theorem Fb:az 189 [.int .u8 (c:Nat)] H=ret (.bool (aP c)) H:=ev (VD) (by
 simp only[ao (Ai _ _),ao (Bf _ _),ao (qY _ _),ai,show(95:Int)=((95:Nat):Int)from rfl,neq,aP]
 cases eQ c<;>cases io c<;>cases aW c<;>rfl)
theorem NK:az 225 [.int .u8 (c:Nat)] H=ret (.bool (dw c)) H:=ev (f225) (by
 simp only[show(32:Int)=((32:Nat):Int)from rfl,show(9:Int)=((9:Nat):Int)from rfl,show(10:Int)=((10:Nat):Int)from rfl,show(13:Int)=((13:Nat):Int)from rfl,neq,dw]
 cases c==32<;>cases c==9<;>cases c==10<;>cases c==13<;>rfl)
theorem NJ:az 136 [.int .u8 (c:Nat)] H=ret (.bool (dw c)) H:=ev (VJ) (by
 simp only[show(32:Int)=((32:Nat):Int)from rfl,show(9:Int)=((9:Nat):Int)from rfl,show(10:Int)=((10:Nat):Int)from rfl,show(13:Int)=((13:Nat):Int)from rfl,neq,dw]
 cases c==32<;>cases c==9<;>cases c==10<;>cases c==13<;>rfl)
end bytes
end Go.Proofs.YtenibcfppefobaaGreatDoor
set_option linter.all false
noncomputable section
namespace Go.Proofs.YtenibcfppefobaaGreatDoor
open Go.AI
theorem wN{a b:Nat}(h:a+b<2^62):cS ((a:Int)+(b:Int))=((a+b:Nat):Int):=by rw[Ae]<;>omega
variable{H:DH}{p at' st:Nat}{l:ac}{x y:D}
abbrev mi(l:ac)(at':Nat)(x y:D):List D:=[.str l,.i at',x,y]
theorem qo(hp:H[p]? = some (.cells st (mi l at' x y)))(k:Nat)(h:at'+k<2^62):az 228 [.ptr p 0,.i k] H=ret (.int .u8 (pk l (at'+k):Nat)) H:=by
 refine ev (Vu) ?_
 simp only[ae hp,aj,aA,dD,wN h,IR,uD,SI,TC,ai,bH]
 grind [mG,cI]
theorem Cx{g:Nat}{q:Nat->Bool}(hb:et lK g=true)(hg:∀ c H,az g [.int .u8 (c:Nat)] H=ret (.bool (q c)) H)(hp:H[p]? = some (.cells st (mi l at' x y)))(hl:l.length<2^60)(k:Nat)(hk:at'+k<2^60):∀(d n:Nat),d=l.length - (at'+k+n)->n<2^60 ->
 af ak 224 200002 [.g (.ptr p 0),.n k,.g (.func g [] []),.n n] [] H=ret (.i (n+rn q l (at'+k+n):Nat)) H
 |d,n,hd,hn=>by
  refine ez (Dr) ?_
  simp only[ae hp,aj,aA,dD,wN (show at'+k<2^62 by omega),wN (show at'+k+n<2^62 by omega),IR,BL,Hr,TC,ai,bH,Bg hb,List.nil_append,List.append_nil]
  cases hc:decide (at'+k+n<l.length)with
  |false =>
   grind [Az]
  |true =>
   have hc:at'+k+n<l.length:=by simpa using hc
   rw[cond_true,cI hc,iO (hg _ _),jv q hc]
   cases hq:q (pk l (at'+k+n))with
   |false=>simp[ai]
   |true =>
    have ih:=Cx hb hg hp hl k hk (d - 1) (n+1) (by omega) (by omega)
    grind [ai,bE]
 termination_by d=>d
theorem vg{g:Nat}{q:Nat->Bool}(hb:et lK g=true)(hg:∀ c H,az g [.int .u8 (c:Nat)] H=ret (.bool (q c)) H)(hp:H[p]? = some (.cells st (mi l at' x y)))(hl:l.length<2^60)(k:Nat)(hk:at'+k<2^60) :
 az 224 [.ptr p 0,.i k,.func g [] []] H=ret (.i (rn q l (at'+k):Nat)) H:=by
 refine ev (f224) ?_
 have:=Cx hb hg hp hl k hk _ 0 rfl (by omega)
 simp only[Nat.zero_add,Nat.add_zero]at this
 exact this
theorem QG(s t:ac)(H:DH):az 261 [.str s,.str t] H=ret (.bool (s.take t.length==t)) H:=by
 have h:az 276 [.str s,.str t] H=ret (.bool (s.take t.length==t)) H:=by
  refine ev (f276) ?_
  rw[SI]
  cases hc:decide (t.length<=s.length)with
  |true =>
   grind [SP,kL]
  |false =>
   have hc:¬ t.length<=s.length:=by simpa using hc
   have:(s.take t.length==t)=false:=by
    grind
   rw[this];rfl
 refine ev (Vk) ?_
 rw[ao h]
theorem kj(hp:H[p]? = some (.cells st (mi l at' x y)))(ha:at'<=l.length)(t:ac):az 226 [.ptr p 0,.str t] H=ret (.bool ((l.drop at').take t.length==t)) H:=by
 refine ev (Vw) ?_
 grind [ae,aj,aA,Uw,iO,QG]
end Go.Proofs.YtenibcfppefobaaGreatDoor
set_option linter.all false
noncomputable section
namespace Go.Proofs.YtenibcfppefobaaGreatDoor
open Go.AI
def uc:List ac:=[[97,110,100],[99,97,115,101],[100,97,116,97],[101,108,115,101],[101,110,100],[102,110],[102,117,110],[105,102],[105,110],[105,110,112,117,116],[108,101,116],[111,102],[111,117,116,112,117,116],[116,104,101,110],[118,97,108]]
def EL:ac:=[40,41,44,59,58,124,61,60,43,45,42,47,37,95]
def cD(l:ac)(p:Nat):Nat:=if pk l (p+rn aP l p)=39/\0<rn aW l (p+rn aP l p+1)then rn aP l p+(1+rn aW l (p+rn aP l p+1))else rn aP l p
def rG(l:ac)(p:Nat):Nat:=if(l.drop p).take 2=[61,62]\/(l.drop p).take 2=[45,62] then 2 else if pk l p∈EL then 1 else 0
def fq(l:ac)(p:Nat):Prop:=aW (pk l p)=true\/pk l p=126
def fD(l:ac)(p:Nat):Option (Int×Nat) :=
 if eQ (pk l p)=true then(if cD l p>24 then none else some (if(l.drop p).take (cD l p)∈uc then 5 else 2,cD l p))
 else if io (pk l p)=true then(if cD l p>24 then none else some (3,cD l p))
 else if pk l p=39/\eQ (pk l (p+1))=true then(if 1+rn aP l (p+1)>24 then none else some (4,1+rn aP l (p+1)))
 else if rG l p=0 then none else some (6,rG l p)
def tk(k n:Int)(t:ac)(a:Nat):D:=.agg (xT k n t a)
def wr(a e:Int):D:=.iface 180 (.agg [.i a,.i e])
def GG:List (D×D):=uc.map fun w=>(.str w,.i 5)
theorem SH(a b c d e f g h:D)(κ:List D->ag):ar [a,b,c,d] 0 [e,f,g,h] κ=κ [e,f,g,h]:=rfl
theorem ID(a b c d e:D)(κ:List D->ag):ar [a,b,c,d] 1 [e] κ=κ [a,e,c,d]:=rfl
theorem UL(a b c d e:D)(κ:List D->ag):ar [a,b,c,d] 0 [e] κ=κ [e,b,c,d]:=rfl
theorem SW(a b c d e:D)(κ:List D->ag):ar [a,b,c,d] 2 [e] κ=κ [a,b,e,d]:=rfl
theorem QJ(a b c d e:D)(κ:List D->ag):ar [a,b,c,d] 3 [e] κ=κ [a,b,c,e]:=rfl
theorem Lf(a b e:D)(κ:List D->ag):ar [a,b] 0 [e] κ=κ [e,b]:=rfl
theorem Le(a b e:D)(κ:List D->ag):ar [a,b] 1 [e] κ=κ [a,e]:=rfl
theorem NU(a b e f:D)(κ:List D->ag):ar [a,b] 0 [e,f] κ=κ [e,f]:=rfl
theorem TZ(a b c d:D)(κ:List D->ag):ah 4 (.agg [a,b,c,d]) κ=κ [a,b,c,d]:=rfl
theorem VR(a b:D)(κ:List D->ag):ah 2 (.agg [a,b]) κ=κ [a,b]:=rfl
theorem tW(k:IntKind)(n:Int)(κ:List D->ag):ah 1 (.int k n) κ=κ [.int k n]:=rfl
theorem Ua(l:ac)(κ:List D->ag):ah 1 (.str l) κ=κ [.str l]:=rfl
theorem Sp(a b c:Nat)(κ:List D->ag):ah 1 (.buf a b c) κ=κ [.buf a b c]:=rfl
variable{H:DH}{p at' st m:Nat}{l:ac}{x y:D}
theorem Lr(a b:Nat):decide ((a:Int)>(b:Int))=decide (b<a):=decide_eq_decide.2 (by omega)
theorem qC(hp:H[p]? = some (.cells st (mi l at' x y)))(k:Int)(n:Nat)(hn:at'+n<=l.length)(hl:l.length<2^60):az 234 [.ptr p 0,.i k,.i n] H=if n>24 then pan (wr at' 2) H else ret (tk k 0 ((l.drop at').take n) at') H:=by
 refine ev (Vm) ?_
 rw[show(24:Int)=((24:Nat):Int)from rfl,Lr]
 cases hc:decide (24<n)with
 |true =>
  grind [ae,aj,aA,tW,Lf,Le,wr]
 |false =>
  have hc:¬ 24<n:=by simpa using hc
  rw[if_neg hc]
  simp only[cond_false,ae hp,aj,aA,dD,wN (show at'+n<2^62 by omega),Nq l at' (at'+n) H _ (by omega) hn,tW,Ua,SW,QJ,TZ,SH,tk,show at'+n - at'=n by omega]
theorem Hz(t:ac):∀ ws:List ac,qB (.str t) (ws.map fun w=>((.str w:D),(.i 5:D)))=some (if t∈ws then some (.i 5)else none)
 |[]=>rfl
 |w::r=>by
  simp only[List.map_cons,qB,iY,Hz t r]
  grind
theorem Om(hm:H[m]? = some (.map GG))(t:ac)(κ:D->ag):eR ab 135 (.map m) (.str t) true H κ=κ (.tuple [.i (if t∈uc then 5 else 0),.bool (decide (t∈uc))]):=by
 have e:eR ab 135 (.map m) (.str t) true H κ=jW H m fun es=>gR (.str t) es fun r=>dL ab 3 true r κ:=by kernel_rfl
 have e2:dL ab 3 true none κ=κ (.tuple [.i 0,.bool false]):=by kernel_rfl
 rw[e,dz hm,gR,GG,Hz]
 by_cases h:t∈uc
 ·simp only[h,if_true,decide_true];rfl
 grind
theorem HZ:et lK 235=true:=by kernel_rfl
theorem Ia:et lK 229=true:=by kernel_rfl
theorem Pk:et lK 225=true:=by kernel_rfl
theorem qx(l:ac)(p:Nat)(h:p<=l.length):p+cD l p<=l.length:=by
 have h1:=qf aP l p h
 unfold cD
 split
 ·rename_i hc
  have h3:p+rn aP l p<l.length:=by
   grind [mG]
  have:=qf aW l (p+rn aP l p+1) (by omega)
  omega
 ·exact h1
theorem QS(hp:H[p]? = some (.cells st (mi l at' (.map m) y)))(hm:H[m]? = some (.map GG))(k:Int)(n:Nat)(hn:at'+n<=l.length)(hl:l.length<2^60) :
 af ak 232 6 [.g (.ptr p 0),.n k,.lp 0 0,.n n] [(0,(xT 0 0 [] 0))] H=if n>24 then pan (wr at' 2) H else ret (tk (if(l.drop at').take n∈uc then 5 else k) 0 ((l.drop at').take n) at') H:=by
 refine ez (Sd) ?_
 have h:=qC hp k n hn hl
 by_cases hc:n>24
 ·rw[if_pos hc]at h ⊢;rw[zZ h]
 ·rw[if_neg hc]at h ⊢
  simp only[ao h,tk,TZ,SH,ae hp,aj,aA,Om hm,dn,ai]
  by_cases hw:(l.drop at').take n∈uc
  ·simp only[hw,decide_true,cond_true,if_true,tW,UL,aj,aA]
  ·simp only[hw,decide_false,cond_false,if_false,aj,aA]
theorem NZ(hp:H[p]? = some (.cells st (mi l at' (.map m) y)))(hm:H[m]? = some (.map GG))(k:Int)(hl:l.length<2^59)(ha:at'<=l.length) :
 az 232 [.ptr p 0,.i k] H=if cD l at'>24 then pan (wr at' 2) H else ret (tk (if(l.drop at').take (cD l at')∈uc then 5 else k) 0 ((l.drop at').take (cD l at')) at') H:=by
 refine ev (Vo) ?_
 have r1:=vg HZ (fun c H=>Fc H c) hp (by omega) 0 (by omega)
 have hr:=qf aP l at' ha
 have hle:=qx l at' ha
 rw[Nat.add_zero]at r1
 have p1:=qo hp (rn aP l at') (by omega)
 have j:=fun n hn=>QS hp hm k n hn (by omega)
 rw[show(.i 0:D)=.i ((0:Nat):Int)from rfl,ao r1,ao p1]
 simp only[bJ,show(39:Int)=((39:Nat):Int)from rfl,neq,ai]
 by_cases h1:pk l (at'+rn aP l at')=39
 ·have hlt:at'+rn aP l at'<l.length:=by
   grind [mG]
  have r2:=vg Ia (fun c H=>uA H c) hp (by omega) (rn aP l at'+1) (by omega)
  have hd:=qf aW l (at'+rn aP l at'+1) (by omega)
  rw[<- Nat.add_assoc]at r2
  rw[h1]
  simp only[BEq.rfl,cond_true,dD,show(1:Int)=((1:Nat):Int)from rfl,wN (show rn aP l at'+1<2^62 by omega),ao r2,fC,Lr,ai]
  by_cases h2:0<rn aW l (at'+rn aP l at'+1)
  ·simp only[show((0:Int))=((0:Nat):Int)from rfl,Lr,h2,decide_true,cond_true,wN (show 1+rn aW l (at'+rn aP l at'+1)<2^62 by omega),wN (show rn aP l at'+(1+rn aW l (at'+rn aP l at'+1))<2^62 by omega)]
   have e:cD l at'=rn aP l at'+(1+rn aW l (at'+rn aP l at'+1)):=by unfold cD;rw[if_pos ⟨h1,h2⟩]
   rw[<- e];exact j _ hle
  ·simp only[show((0:Int))=((0:Nat):Int)from rfl,Lr,h2,decide_false,cond_false]
   have e:cD l at'=rn aP l at':=by unfold cD;rw[if_neg (fun h=>h2 h.2)]
   rw[<- e];exact j _ hle
 ·rw[show(pk l (at'+rn aP l at')==39)=false from beq_eq_false_iff_ne.2 h1,cond_false]
  have e:cD l at'=rn aP l at':=by unfold cD;rw[if_neg (fun h=>h1 h.1)]
  rw[<- e];exact j _ hle
theorem Hn{f:FuncId}{args:List D}{d:D}{H':DH}(h:de.orc f args H=some (d,H')):az f args H=ret d H':=by
 show dZ de (.call f args none) H=_
 rw[Bz]
 show Lh de f args H none _=_
 grind [Lh]
def SB(l:ac)(at':Nat)(H:DH)(r:ag):Prop:=(∃(v:Int) (n:Nat),1<=n/\at'+n<=l.length/\r=ret (tk 1 v ((l.drop at').take n) at') H)\/r=pan (wr at' 13) H
theorem CK(hp:H[p]? = some (.cells st (mi l at' x y)))(hl:l.length<=24)(ha:at'<l.length)(n:Nat)(hn:at'+n<=l.length)(h1:1<=n+rn aW l (at'+n)) :
 SB l at' H (af ak 230 4 [.g (.ptr p 0),.lp 0 0,.n n] [(0,(xT 0 0 [] 0))] H):=by
 have r1:=vg Ia (fun c H=>uA H c) hp (by omega) n (by omega)
 have hd:=qf aW l (at'+n) hn
 have p1:=qo hp (n+rn aW l (at'+n)) (by omega)
 have hlen:((l.drop at').take (n+rn aW l (at'+n))).length<=1000:=by rw[List.length_take];rw[List.length_drop];omega
 have o:∀ H,az 262 [.str ((l.drop at').take (n+rn aW l (at'+n)))] H=ret (.tuple [.i (pc (av ((l.drop at').take (n+rn aW l (at'+n))))).1,.i (pc (av ((l.drop at').take (n+rn aW l (at'+n))))).2]) H:=fun H=>Hn (by
  show(bif Nat.ble _ 1000 then _ else _)=_
  rw[Nat.ble_eq_true_of_le hlen];rfl)
 have e:=@Mp (JY de ak 0) p (n:Nat) 0 0 [] 0 H
 unfold SB
 rw[show af ak 230 4 [.g (.ptr p 0),.lp 0 0,.n n] [(0,(xT 0 0 [] 0))] H=_ from ez (Mp) rfl]
 simp only[ao r1,dD,wN (show n+rn aW l (at'+n)<2^62 by omega),ao p1,ae hp,aj,aA,wN (show at'+n<2^62 by omega),wN (show at'+n+rn aW l (at'+n)<2^62 by omega),Nq l at' (at'+n+rn aW l (at'+n)) H _ (by omega) hd,
  show at'+n+rn aW l (at'+n) - at'=n+rn aW l (at'+n)by omega,ao (o _),dn,jT,ai,tW,Ua,Lf,Le,ID,SW,QJ,TZ,SH,ao (Fc _ _),bJ]
 cases ((pc (av ((l.drop at').take (n+rn aW l (at'+n))))).2 != 0)with
 |true=>exact .inr rfl
 |false =>
  rw[cond_false]
  cases aP (pk l (at'+(n+rn aW l (at'+n))))with
  |true=>exact .inr rfl
  |false =>
   rw[cond_false]
   cases ((pk l (at'+(n+rn aW l (at'+n))):Int)==39)with
   |true=>exact .inr rfl
   |false=>exact .inl ⟨_,_,h1,by omega,rfl⟩
theorem IG(hp:H[p]? = some (.cells st (mi l at' x y)))(hl:l.length<=24)(ha:at'<l.length)(hn:fq l at'):SB l at' H (az 230 [.ptr p 0] H):=by
 have p1:=qo hp 0 (by omega)
 rw[show az 230 [.ptr p 0] H=_ from ev (Vq) rfl]
 rw[show(.i 0:D)=.i ((0:Nat):Int)from rfl,ao p1,Nat.add_zero]
 simp only[bJ,show(126:Int)=((126:Nat):Int)from rfl,neq,ai]
 by_cases h:pk l at'=126
 ·rw[h,BEq.rfl,cond_true]
  exact CK hp hl ha 1 (by omega) (by omega)
 ·rw[show(pk l at'==126)=false from beq_eq_false_iff_ne.2 h,cond_false]
  have hd:aW (pk l at')=true:=hn.resolve_right h
  refine CK hp hl ha 0 (by omega) ?_
  simp_all[jv]
end Go.Proofs.YtenibcfppefobaaGreatDoor
set_option linter.all false
noncomputable section
namespace Go.Proofs.YtenibcfppefobaaGreatDoor
open Go.AI
variable{H:DH}{p at' st m:Nat}{l:ac}{x y:D}
theorem HI(c:Nat):∀(l:ac) (n:Int),0<=n->decide (tS l c n>=0)=decide (c∈l)
 |[],n,_=>by simp[tS]
 |z::r,n,h=>by
  rw[tS]
  by_cases e:z=c
  ·simp_all
  ·have hb:Nat.beq z c=false:=by
    grind [Nat.eq_of_beq_eq_true]
   rw[hb,cond_false,HI c r (n+1) (by omega)]
   grind
theorem Mc(c:Nat)(hc:c<256)(H:DH):az 236 [.str EL,.int .u8 (c:Nat)] H=ret (.i (tS EL c 0)) H:=Hn (by
 show(bif Nat.blt c 256&&_ then _ else _)=_
 have:Nat.blt c 256=true:=by unfold Nat.blt;exact Nat.ble_eq_true_of_le hc
 rw[this];rfl)
def PG(l:ac)(at':Nat)(H:DH)(r:ag):Prop :=
 (∃(k v:Int) (n:Nat),1<=n/\at'+n<=l.length/\r=ret (tk k v ((l.drop at').take n) at') H/\(fq l at'->k=1)/\(¬ fq l at'->fD l at'=some (k,n)))\/(∃ a e:Int,e≠0/\r=pan (wr a e) H/\(¬ fq l at'->fD l at'=none))
theorem zb{l:ac}{p:Nat}(hp:p<l.length)(h:aP (pk l p)=true):1<=cD l p:=by
 grind [jv,cD]
theorem NM(hp:H[p]? = some (.cells st (mi l at' (.map m) y)))(hl:l.length<=24)(ha:at'<l.length) :
 af ak 185 11 [.g (.ptr p 0),.lp 0 0,.g (.int .u8 (pk l at':Nat))] [(0,(xT 0 0 [] 0))] H=if rG l at'=0 then pan (wr at' 11) H else ret (tk 6 0 ((l.drop at').take (rG l at')) at') H:=by
 refine ez (OO) ?_
 have s1:=kj hp (Nat.le_of_lt ha) [61,62]
 have s2:=kj hp (Nat.le_of_lt ha) [45,62]
 rw[ao s1]
 have two:∀ {a b:Nat},(l.drop at').take 2=[a,b]->at'+2<=l.length:=fun h=>by
  grind [List.length_take]
 by_cases h1:(l.drop at').take 2=[61,62]
 ·have hs:rG l at'=2:=by unfold rG;rw[if_pos (.inl h1)]
  have hm2:=qC hp 6 2 (two h1) (by omega)
  rw[if_neg (by omega)]at hm2
  rw[hs,if_neg (by omega),show(List.take [61,62].length (l.drop at')==[61,62])=true by simp[h1],ai,cond_true]
  rw[show(.i 2:D)=.i ((2:Nat):Int)from rfl,ao hm2]
  rfl
 ·rw[show(List.take [61,62].length (l.drop at')==[61,62])=false by simp[h1],ai,cond_false,ao s2]
  by_cases h2:(l.drop at').take 2=[45,62]
  ·have hs:rG l at'=2:=by unfold rG;rw[if_pos (.inr h2)]
   have hm2:=qC hp 6 2 (two h2) (by omega)
   rw[if_neg (by omega)]at hm2
   rw[hs,if_neg (by omega),show(List.take [45,62].length (l.drop at')==[45,62])=true by simp[h2],ai,cond_true]
   rw[show(.i 2:D)=.i ((2:Nat):Int)from rfl,ao hm2]
   rfl
  ·rw[show(List.take [45,62].length (l.drop at')==[45,62])=false by simp[h2],ai,cond_false]
   have i1:=Mc (pk l at') (SV _ _) H
   rw[show([40,41,44,59,58,124,61,60,43,45,42,47,37,95]:ac)=EL from rfl,ao i1]
   simp only[uD,HI _ _ 0 (Int.le_refl 0),ai]
   have hs:rG l at'=if pk l at'∈EL then 1 else 0:=by unfold rG;rw[if_neg (by simp[h1,h2])]
   by_cases h3:pk l at'∈EL
   ·rw[if_pos h3]at hs
    have hm2:=qC hp 6 1 (by omega) (by omega)
    rw[if_neg (by omega)]at hm2
    rw[hs,if_neg (by omega),decide_eq_true h3,cond_true,show(.i 1:D)=.i ((1:Nat):Int)from rfl,ao hm2]
    rfl
   ·rw[if_neg h3]at hs
    rw[hs,if_pos rfl,decide_eq_false h3,cond_false]
    simp only[ae hp,aj,aA,tW,Lf,Le,wr]
theorem Ki(hp:H[p]? = some (.cells st (mi l at' (.map m) y)))(hm:H[m]? = some (.map GG))(hl:l.length<=24)(ha:at'<l.length):PG l at' H (az 185 [.ptr p 0] H):=by
 have p1:=qo hp 0 (by omega)
 rw[show az 185 [.ptr p 0] H=_ from ev (VG) rfl]
 rw[show(.i 0:D)=.i ((0:Nat):Int)from rfl,ao p1,Nat.add_zero,ao (uA _ _)]
 simp only[bJ,show(126:Int)=((126:Nat):Int)from rfl,show(39:Int)=((39:Nat):Int)from rfl,neq,ai,ao (Aj _ _),ao (HJ _ _)]
 have num:fq l at'->PG l at' H (C ak 230 [.ptr p 0] H fun d5 H6=>ah 4 d5 fun l7=>ar (xT ((0:Nat):Int) ((0:Nat):Int) [] ((0:Nat):Int)) 0 l7 fun l8=>aF l8 0 fun d9=>aF l8 1 fun d10=>aF l8 2 fun d11=>aF l8 3 fun d12=>ret (.agg [d9,d10,d11,d12]) H6):=fun hn=>by
  rcases IG hp hl ha hn with⟨v,n,h1,h2,h3⟩|h3
  ·rw[ao h3]
   exact .inl ⟨1,v,n,h1,h2,rfl,fun _=>rfl,fun h=>(h hn).elim⟩
  ·rw[zZ h3]
   exact .inr ⟨at',13,by decide,rfl,fun h=>(h hn).elim⟩
 cases hd:aW (pk l at')with
 |true=>rw[cond_true];exact num (.inl hd)
 |false =>
 rw[cond_false]
 by_cases h126:pk l at'=126
 ·rw[h126,BEq.rfl,cond_true];exact num (.inr h126)
 rw[show(pk l at'==126)=false from beq_eq_false_iff_ne.2 h126,cond_false]
 have hnn:¬ fq l at':=fun h=>by rcases h with h|h;exact(by rw[hd]at h;cases h);exact h126 h
 have nm:∀ k:Int,(fD l at'=if cD l at'>24 then none else some (if(l.drop at').take (cD l at')∈uc then 5 else k,cD l at'))->aP (pk l at')=true ->
  PG l at' H (C ak 232 [.ptr p 0,.i k] H fun d24 H25=>ah 4 d24 fun l26=>ar (xT ((0:Nat):Int) ((0:Nat):Int) [] ((0:Nat):Int)) 0 l26 fun l27=>aF l27 0 fun d28=>aF l27 1 fun d29=>aF l27 2 fun d30=>aF l27 3 fun d31=>ret (.agg [d28,d29,d30,d31]) H25):=fun k ht hpt=>by
  have hn:=NZ hp hm k (by omega) (Nat.le_of_lt ha)
  have h1:=zb ha hpt
  have h2:=qx l at' (Nat.le_of_lt ha)
  by_cases hc:cD l at'>24
  ·grind
  ·rw[if_neg hc]at hn ht
   rw[ao hn]
   exact .inl ⟨_,0,_,h1,h2,rfl,fun h=>(hnn h).elim,fun _=>ht⟩
 cases hs:eQ (pk l at')with
 |true =>
  grind [fD,aP]
 |false =>
 rw[cond_false]
 cases hg:io (pk l at')with
 |true =>
  rw[cond_true]
  refine nm 3 ?_ (by unfold aP;rw[hg];simp)
  unfold fD
  rw[if_neg (by rw[hs];decide),if_pos hg]
  have hw:(l.drop at').take (cD l at')∉uc:=fun hw=>by
   have hz:((l.drop at').take (cD l at'))[0]? = l[at']?:=by
    have h1:=zb ha (by unfold aP;rw[hg];simp)
    grind
   generalize(l.drop at').take (cD l at')=t at hw hz
   have hpk:pk l at'=(t[0]?).getD 0%256:=by unfold pk;rw[hz]
   rw[hpk]at hs
   simp only[uc,List.mem_cons,List.mem_nil_iff,or_false]at hw
   rcases hw with rfl|rfl|rfl|rfl|rfl|rfl|rfl|rfl|rfl|rfl|rfl|rfl|rfl|rfl|rfl<;>exact absurd hs (by decide)
  rw[if_neg hw]
 |false =>
 rw[cond_false]
 have sg:(pk l at'=39/\eQ (pk l (at'+1))=true->False)->PG l at' H (af ak 185 11 [.g (.ptr p 0),.lp 0 0,.g (.int .u8 (pk l at':Nat))] [(0,(xT ((0:Nat):Int) ((0:Nat):Int) [] ((0:Nat):Int)))] H):=fun hq=>by
  have h:=NM hp hl ha
  have ht:fD l at'=if rG l at'=0 then none else some (6,rG l at'):=by
   grind [fD]
  by_cases hc:rG l at'=0
  ·rw[if_pos hc]at h ht
   exact .inr ⟨at',11,by decide,h,fun _=>ht⟩
  ·rw[if_neg hc]at h ht
   refine .inl ⟨6,0,rG l at',by omega,?_,h,fun h=>(hnn h).elim,fun _=>ht⟩
   grind [rG,List.drop,List.length_take,List.length_drop]
 by_cases h39:pk l at'=39
 ·rw[h39,BEq.rfl,cond_true]
  have p2:=qo hp 1 (by omega)
  rw[show(1:Int)=((1:Nat):Int)from rfl,ao p2,ao (Aj _ _),ai]
  cases h2:eQ (pk l (at'+1))with
  |true =>
   rw[cond_true]
   have hlt:at'+1<l.length:=by
    rcases Nat.lt_or_ge (at'+1) l.length with h|h
    ·exact h
    ·rw[mG h]at h2;cases h2
   have r1:=vg HZ (fun c H=>Fc H c) hp (by omega) 1 (by omega)
   have hr:=qf aP l (at'+1) (by omega)
   have hm2:=qC hp 4 (1+rn aP l (at'+1)) (by omega) (by omega)
   rw[ao r1]
   simp only[dD,wN (show 1+rn aP l (at'+1)<2^62 by omega)]
   have ht:fD l at'=if 1+rn aP l (at'+1)>24 then none else some (4,1+rn aP l (at'+1)):=by
    grind [fD]
   rw[if_neg (by omega)]at hm2 ht
   rw[ao hm2]
   exact .inl ⟨4,0,_,by omega,by omega,rfl,fun h=>(hnn h).elim,fun _=>ht⟩
  |false =>
   grind
 grind
end Go.Proofs.YtenibcfppefobaaGreatDoor
set_option linter.all false
noncomputable section
namespace Go.Proofs.YtenibcfppefobaaGreatDoor
open Go.AI
theorem GW{P:Program}{t:TypeId}{m b:Nat}(h:aT P t m=(Nat.ble (b*(m+Nat.div m 4+600)) 281474976710656&&Nat.ble m 4611686018427387904))(hb:b<=1000)(hm:m<=100000):aT P t m=true:=by
 rw[h,Bool.and_eq_true]
 refine⟨Nat.ble_eq_true_of_le ?_,Nat.ble_eq_true_of_le (by omega)⟩
 have h1:Nat.div m 4<=m:=Nat.div_le_self m 4
 have h2:b*(m+Nat.div m 4+600)<=1000*(100000+100000+600):=Nat.mul_le_mul hb (by omega)
 omega
theorem GX{m:Nat}(h:m<=100000):aT ab 304 m=true:=GW (b:=16) (by kernel_rfl) (by decide) h
theorem Ax{m:Nat}(h:m<=100000):aT ab 160 m=true:=GW (b:=40) (by kernel_rfl) (by decide) h
theorem EM{H:DH}{p:Nat}{b:DB}(h:H[p]? = some b):H.set p b=H:=by
 apply List.ext_getElem?
 grind
variable{p:Nat}{l:ac}{x y:D}
theorem Ke{a b at':Nat}(h:((l.drop at').take 2==[a,b])=true):at'+2<=l.length:=by
 grind [List.length_take]
theorem DT(hl:l.length<=24):∀(n at' st:Nat) (H:DH) (v d:Int),n=l.length - at'->at'<=l.length->H[p]? = some (.cells st (mi l at' x y)) ->
 (∃ at2 st2,at'<at2/\at2<=l.length/\af ak 227 200002 [.g (.ptr p 0),.n v,.n d] [] H=ret (.tuple []) (H.set p (.cells st2 (mi l at2 x y)))) \/
 (∃(a e:Int) (at2 st2:Nat),e≠0/\af ak 227 200002 [.g (.ptr p 0),.n v,.n d] [] H=pan (wr a e) (H.set p (.cells st2 (mi l at2 x y))))
 |n,at',st,H,v,d,hn,ha,hp=>by
  have s1:=kj hp ha [40,42]
  have s2:=kj hp ha [42,41]
  have step:∀ k (d':Int),1<=k->k<=2->at'+k<=l.length ->
   (∃ at2 st2,at'<at2/\at2<=l.length/\af ak 227 200002 [.g (.ptr p 0),.n v,.n d'] [] (H.set p (.cells (st+1) (mi l (at'+k) x y)))=ret (.tuple []) (H.set p (.cells st2 (mi l at2 x y)))) \/
   (∃(a e:Int) (at2 st2:Nat),e≠0/\af ak 227 200002 [.g (.ptr p 0),.n v,.n d'] [] (H.set p (.cells (st+1) (mi l (at'+k) x y)))=pan (wr a e) (H.set p (.cells st2 (mi l at2 x y)))):=fun k d' h1 h2 h3=>by
   rcases DT hl (l.length - (at'+k)) (at'+k) (st+1) (H.set p (.cells (st+1) (mi l (at'+k) x y))) v d' rfl h3 (bC _ hp)with⟨at2,st2,k1,k2,k3⟩|⟨a,e,at2,st2,k1,k2⟩
   ·grind [List.set_set]
   grind [List.set_set]
  rw[show af ak 227 200002 [.g (.ptr p 0),.n v,.n d] [] H=_ from ez (Dq) rfl]
  simp only[ae hp,aj,aA,IR,uD,SI,ai]
  cases hc:decide (l.length<=at')with
  |true=>exact .inr ⟨v,12,at',st,by decide,by rw[cond_true,EM hp];rfl⟩
  |false =>
   have hc:¬ l.length<=at':=by simpa using hc
   rw[cond_false,ao s1,ai]
   cases h1:((l.drop at').take [40,42].length==[40,42])with
   |true =>
    have h2:=Ke h1
    rw[cond_true]
    cases decide (d>=100)with
    |true =>
     simp only[cond_true,ae hp,aj,aA,tW,Lf,Le]
     exact .inr ⟨at',6,at',st,by decide,by rw[EM hp];rfl⟩
    |false =>
     simp only[cond_false,ae hp,aj,aA,dD,show(2:Int)=((2:Nat):Int)from rfl,wN (show at'+2<2^62 by omega),tW,ID]
     exact step 2 _ (by omega) (by omega) h2
   |false =>
    rw[cond_false,ao s2,ai]
    cases h1:((l.drop at').take [42,41].length==[42,41])with
    |true =>
     have h2:=Ke h1
     simp only[cond_true,ae hp,aj,aA,dD,show(2:Int)=((2:Nat):Int)from rfl,wN (show at'+2<2^62 by omega),tW,ID]
     cases (cS (d - 1)==0)with
     |true=>exact .inl ⟨at'+2,st+1,by omega,h2,rfl⟩
     |false=>rw[cond_false];exact step 2 _ (by omega) (by omega) h2
    |false =>
     simp only[cond_false,ae hp,aj,aA,dD,show(1:Int)=((1:Nat):Int)from rfl,wN (show at'+1<2^62 by omega),tW,ID]
     exact step 1 _ (by omega) (by omega) (by omega)
 termination_by n=>n
theorem Sn(hl:l.length<=24){at' st:Nat}{H:DH}(ha:at'<=l.length)(hp:H[p]? = some (.cells st (mi l at' x y))) :
 (∃ at2 st2,at'<at2/\at2<=l.length/\az 227 [.ptr p 0] H=ret (.tuple []) (H.set p (.cells st2 (mi l at2 x y)))) \/
 (∃(a e:Int) (at2 st2:Nat),e≠0/\az 227 [.ptr p 0] H=pan (wr a e) (H.set p (.cells st2 (mi l at2 x y)))):=by
 rw[show az 227 [.ptr p 0] H=_ from ev (Vv) rfl]
 simp only[ae hp,aj,aA]
 exact DT hl _ at' st H at' 0 rfl ha hp
structure Ex(H:DH)(p:Nat)(l:ac)(at' m oc:Nat)(c:eA):Prop where
 hp:∃ st,H[p]? = some (.cells st (mi l at' (.map m) (.buf 2 oc c.length)))
 hm:H[m]? = some (.map GG)
 hc:H[oc]? = some (.buf 2 true false c)
def Fr(p oc:Nat)(H H2:DH):Prop:=∀(o:Nat) b,o≠p->o≠oc->H[o]? = some b->H2[o]? = some b
theorem Fr.trans{oc:Nat}{A B C:DH}(h:Fr p oc A B)(k:Fr p oc B C):Fr p oc A C:=fun o b h1 h2 h3=>k o b h1 h2 (h o b h1 h2 h3)
theorem Fr.set{oc:Nat}{H:DH}{b:DB}:Fr p oc H (H.set p b):=fun o c h1 _ h3=>by rw[List.getElem?_set_ne (Ne.symm h1)];exact h3
theorem Fr.set2{oc:Nat}{H:DH}{b:DB}:Fr p oc H (H.set oc b):=fun o c _ h1 h3=>by rw[List.getElem?_set_ne (Ne.symm h1)];exact h3
def skip(l:ac)(at':Nat):Prop:=dw (pk l at')=true\/(l.drop at').take 2=[40,42]
theorem Ex.mv{H:DH}{at' m oc:Nat}{c:eA}(h:Ex H p l at' m oc c)(at2 st2:Nat):Ex (H.set p (.cells st2 (mi l at2 (.map m) (.buf 2 oc c.length)))) p l at2 m oc c:=by
 obtain⟨st,hp⟩:=h.hp
 have h1:p≠m:=fun e=>by subst e;rw[h.hm]at hp;cases hp
 have h2:p≠oc:=fun e=>by subst e;rw[h.hc]at hp;cases hp
 exact⟨⟨st2,bC _ hp⟩,am _ h1 h.hm,am _ h2 h.hc⟩
theorem yW(hl:l.length<=24){m oc:Nat}:∀(n at':Nat) (H:DH) (c:eA),n=l.length - at'->at'<=l.length->c.length+(l.length - at')<=100->Ex H p l at' m oc c ->
 (∃ at2 c2 H2,af ak 184 200000 [.g (.ptr p 0)] [] H=ret (.tuple []) H2/\Ex H2 p l at2 m oc c2/\at'<=at2/\at2<=l.length/\c2.length+(l.length - at2)<=100/\Fr p oc H H2/\(¬ skip l at'->at2=at')/\(at'<l.length->skip l at'->at'<at2)) \/
 (∃(a e:Int) (H2:DH),e≠0/\af ak 184 200000 [.g (.ptr p 0)] [] H=pan (wr a e) H2/\Fr p oc H H2/\skip l at')
 |n,at',H,c,hn,ha,hcl,hS=>by
  obtain⟨st,hp⟩:=hS.hp
  have r1:=vg Pk (fun c H=>NK H c) hp (by omega) 0 (by omega)
  rw[Nat.add_zero]at r1
  have hr:=qf dw l at' ha
  rw[show af ak 184 200000 [.g (.ptr p 0)] [] H=_ from ez (Dw) rfl]
  rw[show(.i 0:D)=.i ((0:Nat):Int)from rfl,iO r1]
  simp only[Fg hp,ae hp,aj,aA,dD,wN (show at'+rn dw l at'<2^62 by omega),tW,ID]
  have hS1:=hS.mv (at'+rn dw l at') (st+1)
  have hF1:Fr p oc H (H.set p (.cells (st+1) (mi l (at'+rn dw l at') (.map m) (.buf 2 oc c.length)))):=.set
  generalize H.set p (.cells (st+1) (mi l (at'+rn dw l at') (.map m) (.buf 2 oc c.length)))=H1 at hS1 hF1 ⊢
  obtain⟨Kw,hp1⟩:=hS1.hp
  have s1:=kj hp1 hr [40,42]
  rw[ao s1]
  simp only[ck,ai]
  have hno:¬ dw (pk l at')=true->rn dw l at'=0:=fun h=>by
   grind [jv]
  have hyes:at'<l.length->dw (pk l at')=true->1<=rn dw l at':=fun h q=>by rw[jv dw h,if_pos q];omega
  cases h2:((l.drop (at'+rn dw l at')).take [40,42].length==[40,42])with
  |false =>
   rw[Bool.not_false,cond_true]
   refine .inl ⟨_,c,H1,rfl,hS1,by omega,hr,by omega,hF1,fun h=>?_,fun hlt h=>?_⟩
   ·rw[hno (fun q=>h (.inl q)),Nat.add_zero]
   ·rcases h with h|h
    ·grind
    grind
  |true =>
   have hsk:skip l at':=by
    by_cases hq:dw (pk l at')=true
    ·exact .inl hq
    ·rw[hno hq,Nat.add_zero]at h2;exact .inr (eq_of_beq h2)
   rw[Bool.not_true,cond_false]
   simp only[ae hp1,aj,aA]
   rcases Sn hl hr hp1 with⟨at2,st2,k1,k2,k3⟩|⟨a,e,at2,st2,k1,k2⟩
   ·rw[ao k3]
    have hS2:=hS1.mv at2 st2
    have hF2:Fr p oc H (H1.set p (.cells st2 (mi l at2 (.map m) (.buf 2 oc c.length)))):=hF1.trans .set
    generalize H1.set p (.cells st2 (mi l at2 (.map m) (.buf 2 oc c.length)))=H2 at hS2 hF2 ⊢
    obtain⟨st3,hp2⟩:=hS2.hp
    have hne:oc≠p:=fun e=>by subst e;rw[hS2.hc]at hp2;cases hp2
    have hnm:oc≠m:=fun e=>by have:=hS2.hm;rw[<- e,hS2.hc]at this;cases this
    simp only[ae hp2,aj,aA,tW,Lf,Le,VR]
    have hap:∀(κ:D->DH->ag) (e:List D),eG (aT ab 304) 2 (.buf 2 oc c.length) [e] H2 κ=κ (.buf 2 oc (c.length+1)) (H2.set oc (.buf 2 true false (c++[e]))):=fun κ e=>by
     simp only[eG,List.length_singleton,GX (show 1<=100000 by omega),boK,cond_true,Nat.beq_refl,dA hS2.hc,GX (show c.length+1<=100000 by omega),Bool.false_and,Bool.not_false,Bool.and_true,grow,cond_false]
    rw[hap]
    have hp3:=am (.buf 2 true false (c++[[.i ((at'+rn dw l at':Nat):Int),.i ((at2:Nat):Int)]])) hne hp2
    simp only[Sp,ae hp3,QJ]
    have hS3:Ex ((H2.set oc (.buf 2 true false (c++[[.i ((at'+rn dw l at':Nat):Int),.i ((at2:Nat):Int)]]))).set p (.cells (st3+1) [.str l,.i ((at2:Nat):Int),.map m,.buf 2 oc (c.length+1)])) p l at2 m oc (c++[[.i ((at'+rn dw l at':Nat):Int),.i ((at2:Nat):Int)]]) :=
     ⟨⟨st3+1,by rw[bC _ hp3];simp⟩,am _ (fun e=>by subst e;rw[hS2.hm]at hp2;cases hp2) (am _ hnm hS2.hm),am _ hne.symm (bC _ hS2.hc)⟩
    have hF3:=(hF2.trans (Fr.set2 (p:=p) (oc:=oc) (b:=.buf 2 true false (c++[[.i ((at'+rn dw l at':Nat):Int),.i ((at2:Nat):Int)]])))).trans (Fr.set (p:=p) (oc:=oc) (b:=.cells (st3+1) [.str l,.i ((at2:Nat):Int),.map m,.buf 2 oc (c.length+1)]))
    rcases yW hl (l.length - at2) at2 _ _ rfl k2 (by simp;omega) hS3 with⟨at4,c4,H4,j1,j2,j3,j4,j5,j6,_⟩|⟨a,e,H4,j1,j2,j3,_⟩
    ·exact .inl ⟨at4,c4,H4,j1,j2,by omega,j4,j5,hF3.trans j6,fun h=>(h hsk).elim,fun _ _=>by omega⟩
    ·exact .inr ⟨a,e,H4,j1,j2,hF3.trans j3,hsk⟩
   ·rw[zZ k2]
    exact .inr ⟨a,e,_,k1,rfl,hF1.trans .set,hsk⟩
 termination_by n=>n
theorem Hj(hl:l.length<=24){m oc at':Nat}{H:DH}{c:eA}(ha:at'<=l.length)(hc:c.length+(l.length - at')<=100)(hS:Ex H p l at' m oc c) :
 (∃ at2 c2 H2,az 184 [.ptr p 0] H=ret (.tuple []) H2/\Ex H2 p l at2 m oc c2/\at'<=at2/\at2<=l.length/\c2.length+(l.length - at2)<=100/\Fr p oc H H2/\(¬ skip l at'->at2=at')/\(at'<l.length->skip l at'->at'<at2)) \/
 (∃(a e:Int) (H2:DH),e≠0/\az 184 [.ptr p 0] H=pan (wr a e) H2/\Fr p oc H H2/\skip l at'):=by
 rw[show az 184 [.ptr p 0] H=_ from ev (VH) rfl]
 exact yW hl _ at' H c rfl ha hc hS
end Go.Proofs.YtenibcfppefobaaGreatDoor
set_option linter.all false
noncomputable section
namespace Go.Proofs.YtenibcfppefobaaGreatDoor
open Go.AI
def Qk:List D:=uc.map .str
theorem Tg(cs:List D)(c:Nat)(κ:D->ag):cN ab 9 cs c κ=aF cs c κ:=by kernel_rfl
theorem Tz{k:Nat}{w:ac}(h:uc[k]? = some w)(κ:D->ag):ja ab 281 (.agg Qk) (.i (k:Nat)) κ=κ (.str w):=by
 have e:ja ab 281 (.agg Qk) (.i (k:Nat)) κ=bif Nat.blt k 15 then cN ab 9 Qk (Nat.mul k 1) κ else none:=by kernel_rfl
 have hk:k<15:=(List.getElem?_eq_some_iff.1 h).1
 have hb:Nat.blt k 15=true:=by unfold Nat.blt;exact Nat.ble_eq_true_of_le hk
 rw[e,hb,cond_true,Tg,show Nat.mul k 1=k from Nat.mul_one k,aF,Qk,List.getElem?_map,h]
 rfl
theorem Ob(m:Nat)(w:ac)(v:D)(H:DH)(κ:DH->ag):fM ab 135 (.map m) (.str w) v H κ=jW H m fun es=>gQ (.str w) v es fun es=>κ (H.set m (.map es)):=by kernel_rfl
theorem Od:∀ k,k<15->∃ w,uc[k]? = some w/\rZ (.str w) (.i 5) (GG.take k)=some (GG.take (k+1))
 |0,_=>⟨_,rfl,rfl⟩
 |1,_=>⟨_,rfl,rfl⟩
 |2,_=>⟨_,rfl,rfl⟩
 |3,_=>⟨_,rfl,rfl⟩
 |4,_=>⟨_,rfl,rfl⟩
 |5,_=>⟨_,rfl,rfl⟩
 |6,_=>⟨_,rfl,rfl⟩
 |7,_=>⟨_,rfl,rfl⟩
 |8,_=>⟨_,rfl,rfl⟩
 |9,_=>⟨_,rfl,rfl⟩
 |10,_=>⟨_,rfl,rfl⟩
 |11,_=>⟨_,rfl,rfl⟩
 |12,_=>⟨_,rfl,rfl⟩
 |13,_=>⟨_,rfl,rfl⟩
 |14,_=>⟨_,rfl,rfl⟩
 |n+15,h=>by omega
theorem CN{p m oc:Nat}{l:ac}:∀(n k st:Nat) (H:DH),n=15 - k->k<=15->H[p]? = some (.cells st (mi l 0 (.map m) (.buf 2 oc 0)))->H[m]? = some (.map (GG.take k)) ->
 af ak 132 200003 [.g (.ptr p 0),.g (.agg Qk),.n (k:Nat)] [] H=ret (.ptr p 0) (H.set m (.map GG))
 |n,k,st,H,hn,hk,hp,hm=>by
  refine ez (by unfold Qk uc;exact Dz) ?_
  rw[show(15:Int)=((15:Nat):Int)from rfl,Hr]
  by_cases hc:k<15
  ·rw[decide_eq_true hc,cond_true]
   obtain⟨w,h1,h2⟩:=Od k hc
   have e:=Tz h1
   unfold Qk uc at e
   simp only[List.map_cons,List.map_nil]at e
   have hne:m≠p:=fun e=>by subst e;rw[hm]at hp;cases hp
   have ih:=CN (n - 1) (k+1) st (H.set m (.map (GG.take (k+1)))) (by omega) hc (am _ hne hp) (bC _ hm)
   rw[List.set_set]at ih
   simp only[e,ae hp,aj,aA,Ob,dz hm,gQ,h2,show(1:Int)=((1:Nat):Int)from rfl,wN (show k+1<2^62 by omega)]
   exact ih
  ·rw[decide_eq_false hc,cond_false]
   have:k=15:=by omega
   subst this
   rw[show GG.take 15=GG from rfl]at hm
   rw[EM hm]
 termination_by n=>n
theorem QQ(l:ac)(H:DH):∃ H',az 132 [.str l] H=ret (.ptr (H.length+2) 0) H'/\Ex H' (H.length+2) l 0 H.length (H.length+1) []/\∀(o:Nat) b,H[o]? = some b->H'[o]? = some b:=by
 have e:az 132 [.str l] H=_:=ev (VL) rfl
 have hl1:(H++[DB.map []]).length=H.length+1:=by simp
 have hl2:(H++[DB.map []]++[DB.buf 2 true false []]).length=H.length+2:=by simp
 simp only[hl1,hl2]at e
 have hp:((H++[DB.map []]++[DB.buf 2 true false []])++[DB.cells 0 (mi l 0 (.map H.length) (.buf 2 (H.length+1) 0))])[H.length+2]? = some (.cells 0 (mi l 0 (.map H.length) (.buf 2 (H.length+1) 0))):=by rw[<- hl2];exact bD _ _
 have hm:((H++[DB.map []]++[DB.buf 2 true false []])++[DB.cells 0 (mi l 0 (.map H.length) (.buf 2 (H.length+1) 0))])[H.length]? = some (.map (GG.take 0)):=aK _ (aK _ (bD _ _))
 have hc:((H++[DB.map []]++[DB.buf 2 true false []])++[DB.cells 0 (mi l 0 (.map H.length) (.buf 2 (H.length+1) 0))])[H.length+1]? = some (.buf 2 true false []):=aK _ (by rw[<- hl1];exact bD _ _)
 have h:=CN 15 0 0 _ rfl (by omega) hp hm
 refine⟨_,e.trans h,⟨⟨0,am _ (by omega) hp⟩,bC _ hm,am _ (by omega) hc⟩,fun o b hb=>?_⟩
 grind
end Go.Proofs.YtenibcfppefobaaGreatDoor
set_option linter.all false
noncomputable section
namespace Go.Proofs.YtenibcfppefobaaGreatDoor
open Go.AI
def Oj:ac:=[0,2,3,4,6,7,8,9,10]
def Oi(l:ac)(p A B bx:Nat):List LD:=[.g (.str l),.g (.ptr p 0),.g (.ptr A 0),.g (.ptr B 0),.g (.str l),.g (.ptr p 0),.g (.func 133 [] [.ptr A 0,.ptr B 0]),.g (.ptr p 0),.g (.func 183 [] [.ptr bx 0])]
def HB(l:ac)(p A B bx:Nat):DB:=Re de 87 Oj (Oi l p A B bx)
def Rc(l:ac)(p A B bx:Nat):DB:=match HB l p A B bx with
 |.loop _ f nt t ps a b=>.loop false f nt t ps a b
 |b=>b
variable{H:DH}{l:ac}{K p A B bx y:Nat}
theorem Sr{κ:DH->ag}(h:H[y]? = some (HB l p A B bx)):Jt H y κ=κ (H.set y (Rc l p A B bx)):=by
 rw[Jt,h];kernel_rfl
theorem Mu(h:H[y]? = some (Rc l p A B bx)):vk H y=ret (.bool true) (H.set y (HB l p A B bx)):=by
 rw[vk,h];kernel_rfl
theorem Ol{κ:DH->ag}(h:H[y]? = some (HB l p A B bx)):zf H y κ=κ (H.set y .opq):=by
 rw[zf,h];kernel_rfl
theorem QA{d:D}(h:H[y]? = some (HB l p A B bx)):dZ de (.call 0 [d] (some (.round y))) H=UI de ak 87 y Oj (Oi l p A B bx) [d] H:=by
 rw[Bz]
 show rQ de (JQ ak) y [d] H=_
 rw[rQ,h]
 kernel_rfl
theorem AW(b:DB)(h:(match b with|.loop ..=>false|_=>true)=true):HB l p A B bx≠b:=by
 have:(match HB l p A B bx with|.loop ..=>false|_=>true)=false:=by kernel_rfl
 grind
structure TA(K:Nat)(H:DH)(l:ac)(p A B bx y:Nat)(toks:eA):Prop where
 hA:∃ st v,H[A]? = some (.cells st [v])/\((toks=[]/\v=.nilrow)\/(toks≠[]/\∃ X,v=.buf 4 X toks.length/\H[X]? = some (.buf 4 true false toks)/\K<=X))
 hB:∃ st,H[B]? = some (.cells st [.i 0,.i 0])
 hb:∃ st,H[bx]? = some (.cells st [.ptr p 0])
 hy:H[y+1]? = some (HB l p A B bx)
 hk:H[y]? = some .coll
 nA:A≠p
 nB:B≠p
 nb:bx≠p
 AB:A≠B
 Ab:A≠bx
 kA:K<=A
 ky:K<=y
def Kp(K:Nat)(H H2:DH):Prop:=∀(o:Nat) b,o<K->H[o]? = some b->H2[o]? = some b
theorem Kp.trans{K:Nat}{a b c:DH}(h:Kp K a b)(k:Kp K b c):Kp K a c:=fun o x h1 h2=>k o x h1 (h o x h1 h2)
theorem Kp.of{K p oc:Nat}{H H2:DH}(h:Fr p oc H H2)(h1:K<=p)(h2:K<=oc):Kp K H H2:=fun o b h3 h4=>h o b (by omega) (by omega) h4
theorem TA.fr{H2:DH}{oc:Nat}{c:eA}{toks:eA}(h:TA K H l p A B bx y toks)(hoc:H[oc]? = some (.buf 2 true false c))(k:Fr p oc H H2)(hp:∃ st cs,H[p]? = some (.cells st cs)):TA K H2 l p A B bx y toks:=by
 obtain⟨SG,csp,hp⟩:=hp
 have kc:∀ {o:Nat} {b:DB},o≠p->H[o]? = some b->(∀ sz q r l,b≠.buf sz q r l\/sz≠2)->H2[o]? = some b:=fun {o b} h1 h2 h3=>k o b h1 (fun e=>by
  subst e;rw[hoc]at h2;rcases h3 2 true false c with q|q
  ·exact q (Option.some.inj h2).symm
  ·exact q rfl) h2
 obtain⟨sA,v,hA,hA2⟩:=h.hA
 obtain⟨sB,hB⟩:=h.hB
 obtain⟨sb,hb⟩:=h.hb
 have ny:y+1≠p:=fun e=>by have:=h.hy;rw[e,hp]at this;exact AW (.cells SG csp) rfl (Option.some.inj this).symm
 have nk:y≠p:=fun e=>by have:=h.hk;rw[e,hp]at this;cases this
 refine⟨⟨sA,v,kc h.nA hA (fun _ _ _ _=>.inl (fun q=>by cases q)),?_⟩,⟨sB,kc h.nB hB (fun _ _ _ _=>.inl (fun q=>by cases q))⟩,⟨sb,kc h.nb hb (fun _ _ _ _=>.inl (fun q=>by cases q))⟩,kc ny h.hy (fun _ _ _ _=>.inl (AW _ rfl)),kc nk h.hk (fun _ _ _ _=>.inl (fun q=>by cases q)),h.nA,h.nB,h.nb,h.AB,h.Ab,h.kA,h.ky⟩
 grind
theorem KJ{m oc at':Nat}{c toks:eA}(hS:Ex H p l at' m oc c)(hT:TA K H l p A B bx y toks)(hn:toks.length<=1000)(k v:Int)(t:ac)(a:Nat) :
 ∃ H2,dZ de (.call 0 [tk k v t a] (some (.round (y+1)))) H=ret (.bool true) H2/\Ex H2 p l at' m oc c/\TA K H2 l p A B bx y (toks++[(xT k v t a)])/\Kp K H H2:=by
 obtain⟨SG,hp⟩:=hS.hp
 obtain⟨sA,w,hA,hA2⟩:=hT.hA
 obtain⟨sB,hB⟩:=hT.hB
 obtain⟨sb,hb⟩:=hT.hb
 have e:dZ de (.call 0 [tk k v t a] (some (.round (y+1)))) H=_:=(QA hT.hy).trans ((show UI de ak 87 (y+1) Oj (Oi l p A B bx) [tk k v t a] H=QB de ak 200 87 (y+1) Oj (Oi l p A B bx) [tk k v t a] H by rw[QB,By]).trans (ON))
 have hlt:∀ {o:Nat} {b:DB},H[o]? = some b->o<H.length:=fun {o b} h=>by
  grind
 have hN:=bD H (.cells 0 (xT 0 0 [] 0))
 have g1:∀ {o:Nat} {b:DB},H[o]? = some b->((H++[DB.cells 0 (xT 0 0 [] 0)]).set H.length (.cells (0+1) (xT k v t a)))[o]? = some b:=fun {o b} h=>am _ (by have:=hlt h;omega) (aK _ h)
 have gN:=bC (.cells (0+1) (xT k v t a)) hN
 simp only[ae hN,SH]at e
 generalize(H++[DB.cells 0 (xT 0 0 [] 0)]).set H.length (.cells (0+1) (xT k v t a))=H1 at e g1 gN
 rw[Sr (g1 hT.hy)]at e
 have ny:∀ {o:Nat} {b:DB},H[o]? = some b->(match b with|.loop ..=>false|_=>true)=true->y+1≠o:=fun {o b} h1 h2 q=>by
  subst q;have:=hT.hy;rw[h1]at this;exact AW b h2 (Option.some.inj this).symm
 have g2:∀ {o:Nat} {b:DB},H[o]? = some b->y+1≠o->(H1.set (y+1) (Rc l p A B bx))[o]? = some b:=fun h q=>am _ q (g1 h)
 have gN2:(H1.set (y+1) (Rc l p A B bx))[H.length]? = _:=am _ (by have:=hlt hT.hy;omega) gN
 have gy2:(H1.set (y+1) (Rc l p A B bx))[y+1]? = _:=bC (Rc l p A B bx) (g1 hT.hy)
 generalize H1.set (y+1) (Rc l p A B bx)=H2 at e g2 gN2 gy2
 have hA':=g2 hA (ny hA rfl)
 simp only[ae hA',ae gN2,aj,aA]at e
 have Ay:A≠y+1:=(ny hA rfl).symm
 have nil (toksE:toks=[]) (wE:w=.nilrow):∃ H2,dZ de (.call 0 [tk k v t a] (some (.round (y+1)))) H=ret (.bool true) H2/\Ex H2 p l at' m oc c/\TA K H2 l p A B bx y (toks++[(xT k v t a)])/\Kp K H H2:=by
  subst toksE wE
  have hap:∀(κ:D->DH->ag) (e:List D),eG (aT ab 160) 4 .nilrow [e] H2 κ=κ (.buf 4 H2.length 1) (H2++[.buf 4 true false [e]]):=fun κ e=>by
   grind [eG,List.length_singleton,Ax,boK]
  rw[hap]at e
  have hA3:=aK (.buf 4 true false [(xT k v t a)]) hA'
  simp only[Sp,ae hA3]at e
  rw[show ∀ κ:List D->ag,ar [D.nilrow] 0 [.buf 4 H2.length 1] κ=κ [.buf 4 H2.length 1] from fun _=>rfl]at e
  rw[Mu (am _ Ay (aK _ gy2))]at e
  have hlt2:∀ {o:Nat} {b:DB},H2[o]? = some b->o<H2.length:=fun {o b} h=>by
   grind
  have g3:∀ {o:Nat} {b:DB},H[o]? = some b->y+1≠o->A≠o->(((H2++[DB.buf 4 true false [(xT k v t a)]]).set A (.cells (sA+1) [.buf 4 H2.length 1])).set (y+1) (HB l p A B bx))[o]? = some b:=fun h q1 q2=>am _ q1 (am _ q2 (aK _ (g2 h q1)))
  refine⟨_,e,⟨⟨SG,g3 hp (ny hp rfl) hT.nA⟩,g3 hS.hm (ny hS.hm rfl) (fun q=>by have:=hS.hm;rw[<- q,hA]at this;cases this),g3 hS.hc (ny hS.hc rfl) (fun q=>by have:=hS.hc;rw[<- q,hA]at this;cases this)⟩,
   ⟨⟨sA+1,_,am _ Ay.symm (bC _ hA3),.inr ⟨by simp,H2.length,rfl,am _ (by have:=hlt2 gy2;omega) (am _ (by have:=hlt2 hA';omega) (bD _ _)),by have:=hlt2 hA';have:=hT.kA;omega⟩⟩,⟨sB,g3 hB (ny hB rfl) hT.AB⟩,⟨sb,g3 hb (ny hb rfl) hT.Ab⟩,bC _ (am _ Ay (aK _ gy2)),g3 hT.hk (by omega) (fun q=>by have:=hT.hk;rw[<- q,hA]at this;cases this),hT.nA,hT.nB,hT.nb,hT.AB,hT.Ab,hT.kA,hT.ky⟩,fun o b ho hb=>g3 hb (by have:=hT.ky;omega) (by have:=hT.kA;omega)⟩
 rcases hA2 with⟨q1,q2⟩|⟨q1,X,rfl,q3,q4⟩
 ·exact nil q1 q2
 ·have hX:=g2 q3 (ny q3 rfl)
  have XA:X≠A:=fun q=>by rw[q,hA]at q3;cases q3
  have Xy:X≠y+1:=(ny q3 rfl).symm
  have hap:∀(κ:D->DH->ag) (e:List D),eG (aT ab 160) 4 (.buf 4 X toks.length) [e] H2 κ=κ (.buf 4 X (toks.length+1)) (H2.set X (.buf 4 true false (toks++[e]))):=fun κ e=>by
   simp only[eG,List.length_singleton,Ax (show 1<=100000 by omega),boK,cond_true,Nat.beq_refl,dA hX,Ax (show toks.length+1<=100000 by omega),Bool.false_and,Bool.not_false,Bool.and_true,grow,cond_false]
  rw[hap]at e
  have hA3:=am (.buf 4 true false (toks++[(xT k v t a)])) XA hA'
  simp only[Sp,ae hA3]at e
  rw[show ∀(z:D) (κ:List D->ag),ar [z] 0 [.buf 4 X (toks.length+1)] κ=κ [.buf 4 X (toks.length+1)] from fun _ _=>rfl]at e
  rw[Mu (am _ Ay (am _ Xy gy2))]at e
  have g3:∀ {o:Nat} {b:DB},H[o]? = some b->y+1≠o->A≠o->X≠o->(((H2.set X (.buf 4 true false (toks++[(xT k v t a)]))).set A (.cells (sA+1) [.buf 4 X (toks.length+1)])).set (y+1) (HB l p A B bx))[o]? = some b:=fun h q1 q2 q3=>am _ q1 (am _ q2 (am _ q3 (g2 h q1)))
  have Xn:∀ {o:Nat} {b:DB},H[o]? = some b->b≠.buf 4 true false toks->X≠o:=fun h1 h2 q=>by subst q;rw[q3]at h1;exact h2 (Option.some.inj h1).symm
  refine⟨_,e,⟨⟨SG,g3 hp (ny hp rfl) hT.nA (Xn hp (fun q=>by cases q))⟩,g3 hS.hm (ny hS.hm rfl) (fun q=>by have:=hS.hm;rw[<- q,hA]at this;cases this) (Xn hS.hm (fun q=>by cases q)),g3 hS.hc (ny hS.hc rfl) (fun q=>by have:=hS.hc;rw[<- q,hA]at this;cases this) (Xn hS.hc (fun q=>by cases q))⟩,
   ⟨⟨sA+1,_,am _ Ay.symm (bC _ hA3),.inr ⟨by simp,X,by simp,am _ Xy.symm (am _ XA.symm (bC _ hX)),q4⟩⟩,⟨sB,g3 hB (ny hB rfl) hT.AB (Xn hB (fun q=>by cases q))⟩,⟨sb,g3 hb (ny hb rfl) hT.Ab (Xn hb (fun q=>by cases q))⟩,bC _ (am _ Ay (am _ Xy gy2)),g3 hT.hk (by omega) (fun q=>by have:=hT.hk;rw[<- q,hA]at this;cases this) (Xn hT.hk (fun q=>by cases q)),hT.nA,hT.nB,hT.nb,hT.AB,hT.Ab,hT.kA,hT.ky⟩,fun o b ho hb=>g3 hb (by have:=hT.ky;omega) (by have:=hT.kA;omega) (by omega)⟩
end Go.Proofs.YtenibcfppefobaaGreatDoor
set_option linter.all false
noncomputable section
namespace Go.Proofs.YtenibcfppefobaaGreatDoor
open Go.AI
theorem Wl(o c:Nat)(H:DH)(κ:D->ag):eZ ab 3 (.ptr o c) H κ=aG H o fun _ cs=>aF cs c κ:=by kernel_rfl
theorem WG(o c:Nat)(H:DH)(κ:D->ag):eZ ab 9 (.ptr o c) H κ=aG H o fun _ cs=>aF cs c κ:=by kernel_rfl
theorem Qd(o c:Nat)(κ:D->ag):eD (.ptr o c) κ=κ (.ptr o c):=rfl
theorem PZ(o c n:Nat)(κ:D->ag):dt (.ptr o c) n κ=κ (.ptr o (c+n)):=rfl
theorem Uv(o c:Nat)(new:List D)(H:DH)(κ:DH->ag):NI (.ptr o c) new H κ=aG H o fun st cs=>ar cs c new fun cs=>κ (H.set o (.cells (st+1) cs)):=rfl
variable{l:ac}{K p A B bx y m oc:Nat}
def Er(l:ac)(at':Nat)(r:eA):Prop:=at'<l.length->∃(k v:Int) (n:Nat) (r':eA),r=(xT k v ((l.drop at').take n) at')::r'/\1<=n/\at'+n<=l.length/\(fq l at'->k=1)/\(¬ fq l at'->fD l at'=some (k,n))/\(at'+n=l.length->r'=[])
def lT(l:ac)(at':Nat):Prop:=at'<l.length/\(¬ fq l at'->fD l at'=none\/∃ k n,fD l at'=some (k,n)/\at'+n≠l.length)
theorem NX{l:ac}{a:Nat}(h:l.length<=a):¬ skip l a:=fun q=>by
 rcases q with q|q
 ·rw[mG h]at q;cases q
 grind [List.drop_eq_nil_of_le]
set_option maxHeartbeats 2000000 in
theorem yE(hl:l.length<=24)(kp:K<=p)(ko:K<=oc):∀(n at':Nat) (H:DH) (c toks:eA),n=l.length - at'->at'<=l.length->c.length+(l.length - at')<=100->toks.length+(l.length - at')<=100->Ex H p l at' m oc c->TA K H l p A B bx y toks ->
 (∃ H2 r,af ak 183 200001 [.g (.yld (y+1)),.g (.ptr bx 0)] [] H=ret (.tuple []) H2/\TA K H2 l p A B bx y (toks++r)/\(at'=l.length->r=[])/\Er l at' r/\Kp K H H2) \/
 (∃(a e:Int) (H2:DH) (T:eA),e≠0/\af ak 183 200001 [.g (.yld (y+1)),.g (.ptr bx 0)] [] H=pan (wr a e) H2/\TA K H2 l p A B bx y T/\lT l at'/\Kp K H H2)
 |n,at',H,c,toks,hn,ha,hcl,htl,hS,hT=>by
  obtain⟨st,hp⟩:=hS.hp
  obtain⟨sb,hb⟩:=hT.hb
  rw[show af ak 183 200001 [.g (.yld (y+1)),.g (.ptr bx 0)] [] H=_ from ez (Dx) rfl]
  simp only[ae hb,aj,aA,Qd,PZ,Wl,WG,ae hp,Nat.zero_add,IR,BL,Hr,ai]
  by_cases hc:at'<l.length
  ·rw[decide_eq_true hc,cond_true]
   rcases Ki hp hS.hm hl hc with⟨k,v,n',h1,h2,h3,h4,h5⟩|⟨a,e,h1,h2,h3⟩
   ·have hlen:((l.drop at').take n').length=n':=by rw[List.length_take,List.length_drop];omega
    rw[ao h3]
    simp only[tk,TZ,SH,ae hb,aj,aA,Qd,PZ,Wl,ae hp,Nat.zero_add,IR,hlen,dD,wN (show at'+n'<2^62 by omega),tW,Uv,ID]
    have hS1:=hS.mv (at'+n') (st+1)
    have kp1:=Kp.of (Fr.set (H:=H) (p:=p) (oc:=oc) (b:=.cells (st+1) (mi l (at'+n') (.map m) (.buf 2 oc c.length)))) kp ko
    have hT1:=hT.fr hS.hc (Fr.set (b:=.cells (st+1) (mi l (at'+n') (.map m) (.buf 2 oc c.length)))) ⟨_,_,hp⟩
    generalize H.set p (.cells (st+1) (mi l (at'+n') (.map m) (.buf 2 oc c.length)))=H1 at hS1 hT1 kp1 ⊢
    obtain⟨H2,r1,hS2,hT2,kp2⟩:=KJ hS1 hT1 (by omega) k v ((l.drop at').take n') at'
    rw[tk]at r1
    rw[iO r1]
    obtain⟨sb2,hb2⟩:=hT2.hb
    simp only[ck,Bool.not_true,ai,cond_false,ae hb2,aj,aA]
    rcases Hj hl h2 (by omega) hS2 with⟨at3,c3,H3,j1,j2,j3,j4,j5,j6,_,_⟩|⟨a,e,H3,j1,j2,j3,j4⟩
    ·rw[ao j1]
     have hT3:=hT2.fr hS2.hc j6 (by obtain⟨st,h⟩:=hS2.hp;exact⟨_,_,h⟩)
     rcases yE hl kp ko (l.length - at3) at3 H3 c3 _ rfl j4 j5 (by simp;omega) j2 hT3 with⟨H4,r,i1,i2,i3,i4,i5⟩|⟨a,e,H4,T,i1,i2,i3,i4,i5⟩
     ·refine .inl ⟨H4,_::r,i1,by rw[List.append_assoc]at i2;exact i2,fun q=>by omega,fun _=>⟨k,v,n',r,rfl,h1,h2,h4,h5,fun q=>i3 (by omega)⟩,((kp1.trans kp2).trans (Kp.of j6 kp ko)).trans i5⟩
     ·exact .inr ⟨a,e,H4,T,i1,i2,i3,⟨hc,fun q=>.inr ⟨k,n',h5 q,by have:=i4.1;omega⟩⟩,((kp1.trans kp2).trans (Kp.of j6 kp ko)).trans i5⟩
    ·rw[zZ j2]
     exact .inr ⟨a,e,H3,_,j1,rfl,hT2.fr hS2.hc j3 (by obtain⟨st,h⟩:=hS2.hp;exact⟨_,_,h⟩),⟨hc,fun q=>.inr ⟨k,n',h5 q,fun q2=>NX (by omega) j4⟩⟩,(kp1.trans kp2).trans (Kp.of j3 kp ko)⟩
   ·rw[zZ h2]
    exact .inr ⟨a,e,H,toks,h1,rfl,hT,⟨hc,fun q=>.inl (h3 q)⟩,fun _ _ _ h=>h⟩
  ·rw[decide_eq_false hc,cond_false]
   exact .inl ⟨H,[],rfl,by rw[List.append_nil];exact hT,fun _=>rfl,fun q=>(hc q).elim,fun _ _ _ h=>h⟩
 termination_by n=>n
open Classical in
def fx(l:ac):Int:=if l.length=0\/24<l.length\/skip l 0\/fq l 0 then 0 else match fD l 0 with
 |none=>0
 |some (k,n)=>if n=l.length then k else 0
def oD(l:ac):eA->Int
 |[[.int _ k,_,.str t,_]]=>if t=l then k else 0
 |_=>0
def rD(l:ac)(k:Int):Prop:=k=fx l\/(fq l 0/\k=1)
theorem fB{l:ac}(h:l.length=0\/24<l.length\/skip l 0\/fq l 0):fx l=0:=by unfold fx;rw[if_pos h]
theorem LT(hl:l.length<=24){at2:Nat}{T:eA}(h0:at2=l.length->T=[])(hF:Er l at2 T)(h1:at2<=l.length)(h2:¬ skip l 0->at2=0)(h3:0<l.length->skip l 0->0<at2):rD l (oD l T):=by
 by_cases hz:l.length=0
 ·rw[h0 (by omega)];exact .inl (fB (.inl hz)).symm
 by_cases hs:skip l 0
 ·have:=h3 (by omega) hs
  refine .inl ?_
  rw[fB (.inr (.inr (.inl hs)))]
  rcases Nat.lt_or_ge at2 l.length with q|q
  ·obtain⟨k,v,n,r',rfl,_,_,_⟩:=hF q
   cases r' with
   |nil =>
    grind [oD,List.length,List.length_take,List.length_drop]
   |cons _ _=>rfl
  ·rw[h0 (by omega)];rfl
 ·have e0:=h2 hs
  subst e0
  obtain⟨k,v,n,r',rfl,q1,q2,q3,q4,q5⟩:=hF (by omega)
  by_cases hn:fq l 0
  ·cases r' with
   |nil =>
    simp only[oD]
    split
    ·exact .inr ⟨hn,q3 hn⟩
    ·exact .inl (fB (.inr (.inr (.inr hn)))).symm
   |cons _ _=>exact .inl (fB (.inr (.inr (.inr hn)))).symm
  ·have ht:=q4 hn
   refine .inl ?_
   have hk:fx l=if n=l.length then k else 0:=by
    grind [fx]
   rw[hk]
   by_cases hnl:n=l.length
   ·simp_all[oD,List.drop_zero,List.take_of_length_le,Nat.le_refl]
   ·rw[if_neg hnl]
    cases r' with
    |nil =>
     grind [oD,List.length,List.length_take,List.length_drop]
    |cons _ _=>rfl
theorem CU(hl:l.length<=24)(h:skip l 0\/lT l 0):rD l 0:=by
 refine .inl ?_
 by_cases hs:skip l 0
 ·grind [fB]
 by_cases hn:fq l 0
 ·grind [fB]
 obtain⟨h1,h2⟩:=h.resolve_left hs
 grind [fx]
end Go.Proofs.YtenibcfppefobaaGreatDoor
