/- Evaluators by which runs of the program are reckoned, that they are sound, and what the functions answer: part 4. No conditions beyond those of the row. -/
import Derived.Test.YtenibcfppefobaaGreatDoorA3
import Derived.Deep.Slices
import Derived.ChangeArms
import Derived.DataReads
import GoSem.ClaimJoined
import Derived.Test.YtenibcfppefobaaGreatDoorProg
import Derived.Test.YtenibcfppefobaaGreatDoorRows
import Derived.Lib.AtoiAllCases
import Derived.Lib.ItoaLen
import Derived.Lib.ReplaceLaws
import Derived.OpenShut
set_option linter.all false
noncomputable section
set_option linter.all false
noncomputable section
namespace Go.AI
variable[fj]
variable{b:Nat}{P0:List Nat}{g g':Gh}{LO:List Nat}{t:T LD}{L:LS}{tv:T V}{P:Program}{out:hJ}{E:cu}
theorem fV{s s':S}{r:Option V}{v:V}(h:bg s r=some (.val v s)):bg s' r=some (.val v s'):=by
 unfold bg at h ⊢
 split at h
 ·cases h;rfl
 ·cases h
theorem oU{ty:TypeId}{cs:List D}{c:Nat}{κ:D->ag}(h:dq P ty cs c κ=some out){s s':S}{a:Ad}{vs:List V}(h1:loadCells s a cs.length=some vs)(h2:loadCells s' a cs.length=some vs):loadVar P s ty (bF a c)=loadVar P s' ty (bF a c):=by
 unfold dq at h
 unfold loadVar
 split at h
 ·rename_i ha
  split at h
  ·rename_i n hn
   obtain⟨hn0,h⟩:=ay h
   obtain⟨_,h4⟩:=gt h
   have hn0:=Nat.le_of_ble_eq_true hn0
   rw[ha,hn]
   simp only[Option.bind]
   rw[gH h1 (by omega),gH h2 (by omega)]
  ·cases h
 ·rename_i ha
  obtain⟨d,h3,_⟩:=iB h
  have hlt:c<cs.length:=by
   grind
  have hlv:c<vs.length:=by rw[xB h1];exact hlt
  have hv:vs[c]? = some vs[c]:=List.getElem?_eq_getElem hlv
  grind [qo]
 ·cases h
def re(H:DH):Prop:=∀(o:Nat) b,H[o]? = some b->b=.dead\/∃ st cs,b=.cells st cs
theorem re.nil:re []:=fun o b h=>by simp at h
theorem OZ{H:DH}(h:re H){o n:Nat}{k:Nat->Bool->Bool->List (List D)->ag}:gB H o n k≠some out:=fun e=>by
 unfold gB at e
 split at e
 ·rename_i sz st cap l hc
  rcases h o _ hc with q|⟨_,_,q⟩<;>cases q
 ·cases e
theorem Re{H:DH}(h:re H){o st:Nat}{k:Nat->List (List D)->ag}:IH H o st k≠some out:=fun e=>by
 unfold IH at e
 split at e
 ·rename_i sz st' l hc
  rcases h o _ hc with q|⟨_,_,q⟩<;>cases q
 ·cases e
theorem JZ{H:DH}(h:re H){o:Nat}{k:List (D×D)->ag}:lm H o k≠some out:=fun e=>by
 unfold lm at e
 split at e
 ·rename_i es hc
  rcases h o _ hc with q|⟨_,_,q⟩<;>cases q
 ·cases e
theorem ES{d:Nat}{ty:TypeId}{x y:D}{κ:Bool->ag}{v w:V}(h:HY P d ty x y κ=some out)(r1:RD g x v)(r2:RD g y w):∃ q,∀ okf,ck P okf d ty v w=some q:=by
 obtain⟨q,hq⟩:=Bk P d ty x y κ out h
 refine⟨q,fun okf=>?_⟩
 obtain⟨q',h1,h2⟩:=AL (κ:=fun p=>bif p==q then some out else none) okf (by rw[hq];simp;rfl) r1 r2
 grind
theorem Fl{op:BinOp}{ty:TypeId}{x y:Operand}{c d:D}{κ:D->ag}(h:aB P op ty (cY x||cY y) c d κ=some out){v w:V}(r1:RD g c v)(r2:RD g d w){s s':S}:dJ P s op ty x y (some v) (some w)=dJ P s' op ty x y (some v) (some w):=by
 simp only[dJ]
 congr 1
 unfold dX
 split
 ·rfl
 ·rfl
 ·rename_i n1 n2
  unfold aB at h
  split at h
  ·grind [RD]
  ·grind [RD]
  ·obtain⟨_,h⟩:=ay h
   grind [ES]
theorem NC{H:DH}(hs:dH H g)(hok:Ok g){op:BinOp}{ty:TypeId}{x y:Operand}{c d:D}{κ:D->ag}(h:wM P op ty (cY x||cY y) c d H κ=some out){v w:V}(r1:RD g c v)(r2:RD g d w){s':S}(hq:∀(o:Nat) st cs f v,H[o]? = some (.cells st cs)->g.O[o]? = some (some (f,v))->s'.get f=g.s.get f):dJ P s' op ty x y (some v) (some w)=dJ P g.s op ty x y (some v) (some w):=by
 unfold wM at h
 split at h
 ·rcases pZ hs hok h r1 r2 with h|⟨p,h1,h2⟩
  ·exact Fl h r1 r2
  ·obtain⟨h3,x',y',rfl,rfl⟩:=h2 g.s fun _ _ _ _ _ _ _=>rfl
   obtain⟨h4,_⟩:=h2 s' hq
   simp only[dJ,eo,lw,cond_true,dX,h3,h4]
 ·rcases pZ hs hok h r1 r2 with h|⟨p,h1,h2⟩
  ·exact Fl h r1 r2
  ·obtain⟨h3,x',y',rfl,rfl⟩:=h2 g.s fun _ _ _ _ _ _ _=>rfl
   obtain⟨h4,_⟩:=h2 s' hq
   simp only[dJ,eo,lw,cond_true,dX,h3,h4]
 ·exact Fl h r1 r2
theorem Pb{op:BinOp}{ty el:TypeId}{x y:Operand}{d:D}{κ:D->ag}(h:HD op d κ=some out)(hu:P.underlying ty=some (.slice el)){v w:V}(r:RD g d v)(hy:oX y=true)(hw:eval tv y=some w){s s':S}:dJ P s op ty x y (some v) (some w)=dJ P s' op ty x y (some v) (some w):=by
 simp_all[dJ,dX,ck]
theorem Nu{src dst:TypeId}{x:D}{κ:D->ag}(h:oD P src dst x κ=some out){v:V}(r:RD g x v){s s':S}{y:V}(hy:jb P s src dst v=some (y,s)):jb P s' src dst v=some (y,s'):=by
 unfold oD at h
 grind [Option.isNone_some,RD,jb,xY]
theorem MK{ty:TypeId}{x:LD}{H:DH}{κ:D->ag}(h:jx P ty x L H κ=some out)(hs:dH H g)(hc:re H)(hok:Ok g)(hl:QP g L LO){v:V}(r:RS g LO x v)(hm:lY g g')
 (hp:∀(k:Nat) y f,L[k]? = some y->LO[k]? = some f->y.2≠[]->g'.s.get f=g.s.get f) (hob:∀(o:Nat) st cs f v,H[o]? = some (.cells st cs)->g.O[o]? = some (some (f,v))->g'.s.get f=g.s.get f) :
 ∀ w,ig P g.s ty (some v)=some (.val w g.s)->ig P g'.s ty (some v)=some (.val w g'.s):=by
 have key:∀ {a:Ad},v=.ptr a->loadVar P g.s ty a=loadVar P g'.s ty a->∀ w,ig P g.s ty (some v)=some (.val w g.s)->ig P g'.s ty (some v)=some (.val w g'.s):=fun {a} hv he w hw=>by
  grind [gz,fV]
 cases x with
 |u=>cases h
 |lp k c =>
  simp only[jx]at h
  obtain⟨f,h1,rfl⟩:=r
  split at h
  ·rename_i st cs hk
   by_cases hne:cs=[]
   ·subst hne
    exfalso
    unfold dq at h
    split at h
    ·split at h
     ·obtain⟨hn,h⟩:=ay h
      obtain⟨_,q⟩:=gt h
      have:=Nat.le_of_ble_eq_true hn
      simp at q
      omega
     ·cases h
    ·obtain⟨d,q,_⟩:=iB h
     simp at q
    ·cases h
   ·obtain⟨_,h2|⟨el,vs,h2,h3,h4⟩⟩:=hl k _ f hk h1
    ·exact(hne h2).elim
    ·have h5:=hp k _ f hk h1 hne
     refine key (a:=bF ⟨f,0,0⟩ c) (by simp[bF]) (oU (vs:=vs) h ?_ ?_)
     ·rw[<- h3.len];exact EC h2
     ·rw[<- h3.len];exact EC (by rw[h5];exact h2)
  ·cases h
 |g d =>
  have r:RD g d v:=r
  simp only[jx]at h
  unfold ft at h
  split at h
  ·simp only[RD]at r
   obtain⟨a,vs,rfl,h1,h2,h3,h4⟩:=r
   exact key rfl (oU h h2 (hm.cells _ _ _ h1 h2))
  ·rename_i o c _
   simp only[RD]at r
   obtain⟨f,ver,h1,rfl⟩:=r
   obtain⟨st,cs,f',el,vs,h,h0,_,h2,h3,h4,h5⟩:=zZ h hs hok
   rw[h1]at h2;cases h2
   refine key (a:=bF ⟨f,0,0⟩ c) (by simp[bF]) (oU (vs:=vs) h ?_ ?_)
   ·rw[<- h4.len];exact EC h3
   ·rw[<- h4.len];exact EC (by rw[hob _ st cs f 0 h0 h1];exact h3)
  ·exact(OZ hc h).elim
  ·exact(Re hc h).elim
  ·cases h
theorem yp(o:Op){esc:Bool}{H:DH}{κ:T LD->xd->ag}(hk:aA E.E.P o<=1)(ho:∀ x∈o.operands.toList,uk g LO t tv x)(hok:Ok g)(hl:QP g L LO)(hH:dH H g)(hc:re H)(e:jr o E esc t L H κ=some out)(hm:lY g g')
 (hp:∀(k:Nat) y f,L[k]? = some y->LO[k]? = some f->y.2≠[]->g'.s.get f=g.s.get f) (hob:∀(o:Nat) st cs f v,H[o]? = some (.cells st cs)->g.O[o]? = some (some (f,v))->g'.s.get f=g.s.get f) :
 ∀ w,cD o E.E tv g.s=some (.val w g.s)->cD o E.E tv g'.s=some (.val w g'.s):=by
 intro w hw
 cases o with
 |load ty x =>
  obtain⟨d,v,h1,_,h2,h3⟩:=jP e (ho x (by simp[Op.operands]))
  simp only[cD,h2]at hw ⊢
  exact MK h1 hH hc hok hl h3 hm hp hob w hw
 |binOp op ty x y yT =>
  obtain⟨a,v,h1,_,h2,h3⟩:=bf e (ho x (by simp[Op.operands]))
  obtain⟨c,w',h4,_,h5,h6⟩:=bf h1 (ho y (by simp[Op.operands]))
  simp only[cD,h2,h5]at hw ⊢
  cases hn:oX y with
  |true =>
   rw[hn]at h4;dsimp only at h4
   split at h4
   ·rename_i hu
    have e1:dJ E.E.P g.s op ty x y (some v) (some w')=dJ E.E.P g'.s op ty x y (some v) (some w'):=Pb h4 hu h3 hn h5
    rw[<- e1]
    exact fV hw
   ·cases h4
  |false =>
  rw[hn]at h4;dsimp only at h4
  rw[NC hH hok h4 h3 h6 (s':=g'.s) hob]
  exact fV hw
 |convert src dst x =>
  obtain⟨a,v,h1,_,h2,h3⟩:=bf e (ho x (by simp[Op.operands]))
  simp only[cD,h2,gd]at hw ⊢
  have:jb E.E.P g.s src dst v=some (w,g.s):=by
   revert hw
   cases jb E.E.P g.s src dst v with
   |none=>intro hw;cases hw
   |some p=>intro hw;obtain⟨p1,p2⟩:=p;simp only[hQ,Option.some.injEq,Nx.val.injEq]at hw;rw[hw.1,hw.2]
  rw[Nu h1 h3 this];rfl
 |lookup ty x k ok =>
  obtain⟨a,v,h1,_,h2,h3⟩:=bf e (ho x (by simp[Op.operands]))
  obtain⟨c,w',h4,_,h5,h6⟩:=bf h1 (ho k (by simp[Op.operands]))
  simp only[cD,h2,h5]at hw ⊢
  unfold fp at h4
  split at h4
  ·rename_i td el hme
   obtain⟨kt,hu,_,_,hsk⟩:=mA hme
   split at h4
   ·obtain⟨_,h4⟩:=ay h4
    exact(JZ hc h4).elim
   ·simp only[RD]at h3;subst h3
    simp only[iZ,hu,wk,bR]at hw ⊢
    exact fV hw
   ·cases h4
  ·cases h4
 |call c =>
  simp only[jr]at e
  obtain⟨ds,vs,h1,h2,h3⟩:=iX e (fun x hx=>ho x (by simp[Op.operands,Call.operands]at hx ⊢;exact .inr hx))
  simp only[cD,h2,gA]at hw ⊢
  split at h1
  ·rename_i bi hcc
   rw[hcc]at hw ⊢
   simp only[aA,hcc]at hk
   simp only at hw ⊢
   cases bi<;>first|(simp at hk;done)|skip
   case len =>
    simp only[lM]at h1
    simp only[ik]at hw ⊢
    split at h1
    ·rename_i a ha
     split at h1
     ·simp only[RL]at h3
      obtain⟨v,vs',rfl,k1,rfl⟩:=h3
      rw[ha]at hw ⊢
      simp only at hw ⊢
      have hv:ic E.E.P a g.s v=ic E.E.P a g'.s v:=by
       unfold ic
       split<;>first|rfl|skip
       rename_i r _ hu
       exfalso
       unfold fq at h1
       rw[hu]at h1
       simp only at h1
       have ht:=k1.tag
       split at h1
       ·grind [JZ]
       ·cases ht
       ·cases h1
      rw[<- hv];exact fV hw
     ·cases h1
    ·cases h1
   case max=>exact fV hw
   case min=>exact fV hw
   case cap=>cases h1
  ·rename_i f hcc
   simp[aA,hcc]at hk
  ·cases h1
 |pick c x y =>
  simp only[cD,lH]at hw ⊢
  split at hw
  ·exact fV hw
  ·cases hw
 |_=>first|(cases e;done)|(simp[aA]at hk;done)|(simp only[cD]at hw ⊢;exact fV hw)
end Go.AI
set_option linter.all false
noncomputable section
namespace Go.AI
variable[fj]
variable{b:Nat}{P0:List Nat}{g:Gh}{LO:List Nat}{t:T LD}{L:LS}{tv:T V}{out:hJ}{E:cu}{an:gF}
def gq(g:Gh):List ff->List Bq->Prop
 |[],c=>c=[]
 |x::r,c=>∃ y c',c=y::c'/\RD g x.v y.v/\x.recovered=y.recovered/\gq g r c'
def IN(g:Gh):eB->Md->Prop
 |.run,m=>m=.run
 |.returning,m=>m=.returning
 |.panicking c,m=>∃ c',m=.panicking c'/\gq g c c'
 |.round _,_=>False
def IA(g:Gh):Option eB->Option Md->Prop
 |none,u=>u=none
 |some m,u=>∃ m',u=some m'/\IN g m m'
def pq(g:Gh):Option eB->Option Md->Option Nat->Prop
 |some (.round o),u,r=>u=none/\∃ l v,r=some l/\g.O[o]? = some (some (l,v))
 |up,u,r=>r=none/\IA g up u
def Hi(up:Option eB):Prop:=∀ o,up≠some (.round o)
theorem pq.nr{g:Gh}{up:Option eB}{u:Option Md}{r:Option Nat}(hn:Hi up)(h:pq g up u r):r=none/\IA g up u:=by
 unfold pq at h
 split at h
 ·exact(hn _ rfl).elim
 ·exact h
theorem pq.mk{g:Gh}{up:Option eB}{u:Option Md}(hn:Hi up)(h:IA g up u):pq g up u none:=by
 unfold pq
 split
 ·exact(hn _ rfl).elim
 grind
theorem ll{up:Option eB}{r:ag}{out:hJ}(h:notRnd up r=some out):Hi up/\r=some out:=by
 unfold notRnd at h
 split at h
 ·cases h
 ·rename_i hn;exact⟨fun o e=>hn o e,h⟩
def DE(g:Gh):List pp->List ec->Prop
 |[],c=>c=[]
 |.coll o::r,c=>∃ d v c',c=.collected d::c'/\g.O[o]? = some (some (d,v))/\DE g r c'
 |.call x::r,c=>∃ ca a c',c=.call (.func x.fn) ca a::c'/\RL g x.captured ca/\RL g x.args a/\DE g r c'
def QH(g:Gh):LF->Sl->Prop
 |.ret d,e=>∃ v,e=.returned v/\RD g d v
 |.pan c,e=>∃ c',e=.panicked c'/\gq g c c'
theorem gq.mono{g g':Gh}(h:lY g g'):∀ {c:List ff} {c':List Bq},gq g c c'->gq g' c c'
 |[],_,r=>r
 |x::l,_,r=>by
  obtain⟨y,c',h1,h2,h3,h4⟩:=r
  exact⟨y,c',h1,h2.mono h,h3,gq.mono h h4⟩
theorem IN.mono{g g':Gh}(h:lY g g'){m:eB}{m':Md}(r:IN g m m'):IN g' m m':=by
 cases m with
 |run=>exact r
 |returning=>exact r
 |panicking c=>obtain⟨c',h1,h2⟩:=r;exact⟨c',h1,h2.mono h⟩
 |round _=>exact r
theorem IA.mono{g g':Gh}(h:lY g g'){m:Option eB}{m':Option Md}(r:IA g m m'):IA g' m m':=by
 cases m with
 |none=>exact r
 |some m=>obtain⟨c',h1,h2⟩:=r;exact⟨c',h1,h2.mono h⟩
theorem pq.mono{g g':Gh}(h:lY g g'){m:Option eB}{u:Option Md}{q:Option Nat}(r:pq g m u q):pq g' m u q:=by
 unfold pq at r ⊢
 split at r
 ·obtain⟨h1,l,v,h2,h3⟩:=r
  obtain⟨v',h4⟩:=h.o1 _ l v h3
  grind
 ·exact⟨r.1,r.2.mono h⟩
theorem DE.mono{g g':Gh}(h:lY g g'):∀ {c:List pp} {c':List ec},DE g c c'->DE g' c c'
 |[],_,r=>r
 |.coll o::l,_,r=>by
  obtain⟨d,v,c',h1,h2,h3⟩:=r
  obtain⟨v',h4⟩:=h.o1 o d v h2
  exact⟨d,v',c',h1,h4,DE.mono h h3⟩
 |.call x::l,_,r=>by
  obtain⟨ca,a,c',h1,h2,h3,h4⟩:=r
  exact⟨ca,a,c',h1,h2.mono h,h3.mono h,DE.mono h h4⟩
def iD(b:Nat)(P0:List Nat)(g:Gh)(out:hJ)(vout:eG):Prop:=∃ g',g'.H=out.H/\g'.s=vout.s/\g'.Pv=P0/\Ok g'/\Mv b g g'/\QH g' out.e vout.e/\IA g' out.up vout.up
structure Fy(E:cT)(rec:nU):Prop where
 c:∀ f args up H out,rec f args up H=some out->∀ g:Gh,g.H=H->Ok g->∀ vs upv,RL g args vs->IA g up upv->∃ vout,lim E (.call f vs upv) g.s=some vout/\iD g.s.next g.Pv g out vout
 r:∀ o args H out,rec 0 args (some (.round o)) H=some out->∀ g:Gh,g.H=H->Ok g->∀ vs l v,RL g args vs->g.O[o]? = some (some (l,v))->∃ vout,lim E (.round l vs) g.s=some vout/\iD g.s.next g.Pv g out vout
def lh(t:T LD)(d:Option Tmp)(x:LD):T LD:=match d with
 |some i=>T.set (some x) (et i) t
 |none=>t
theorem cj(t:T LD)(d:Option Tmp)(x:LD)(κ:T LD->ag):jp t d x κ=κ (lh t d x):=by
 cases d with
 |none=>rfl
 |some i=>exact T.setQ_eq _ _ _ _
theorem xP.put(h:xP g LO t tv)(d:Option Tmp){x:LD}{v:V}(r:RS g LO x v):xP g LO (lh t d x) (putD tv d v):=by
 cases d with
 |none=>exact h
 |some i =>
  intro j y hy
  simp only[lh]at hy
  rw[T.get_setN]at hy
  rw[Cw]
  split at hy
  ·grind
  ·rename_i e;rw[if_neg e];exact h j y hy
theorem FI.put(h:FI b P0 g t L tv LO)(d:Option Tmp){x:LD}{v:V}(r:RS g LO x v):FI b P0 g (lh t d x) L (putD tv d v) LO:=⟨h.ok,h.slots.put d r,h.own,h.pv,h.low,h.nd,h.bl⟩
theorem RS.u:RS g LO .u V.undef:=rfl
theorem ur{ops:Array Oper}{o:Oper}{kT kF:T LD->ag}(e:ut ops t o kT kF=some out)(h:xP g LO t tv) :
 (bt ops tv o=some true/\∃ t',kT t'=some out/\Rf t t' tv)\/(bt ops tv o=some false/\∃ t',kF t'=some out/\Rf t t' tv):=by
 unfold ut at e
 unfold bt
 split at e
 ·rename_i hg;rw[hg];exact .inl ⟨rfl,t,e,.refl t tv⟩
 ·rename_i j want hg
  rw[hg]
  simp only
  split at e
  ·rename_i i hi
   rw[hi]
   simp only
   split at e
   ·rename_i d hd
    obtain⟨v,h1,h2⟩:=h i _ hd
    have h2:RD g d v:=h2
    split at e
    ·obtain⟨q,rfl,e'⟩:=Bb e h2
     clear e
     rw[h1]
     cases q with
     |true=>rw[cond_true,T.setQ_eq]at e';exact .inl ⟨rfl,_,e',uN h1⟩
     |false=>rw[cond_false,T.setQ_eq]at e';exact .inr ⟨rfl,_,e',uN h1⟩
    ·obtain⟨q,rfl,e'⟩:=Bb e h2
     clear e
     rw[h1]
     cases q with
     |true=>rw[cond_true,T.setQ_eq]at e';exact .inr ⟨rfl,_,e',uN h1⟩
     |false=>rw[cond_false,T.setQ_eq]at e';exact .inl ⟨rfl,_,e',uN h1⟩
   ·rename_i hd
    obtain⟨v,h1,h2⟩:=h i _ hd
    have h2:v=V.undef:=h2
    subst h2
    rw[h1]
    exact .inr ⟨rfl,t,e,.refl t tv⟩
   ·cases e
  ·cases e
theorem Ct(h:FI b P0 g t L tv LO){k:Hk}{d:D}{κ:D->DH->ag}(e:ij k d g.H κ=some out){v:V}(r:RD g d v) :
 ∃ d' g',κ d' g'.H=some out/\g'.s=g.s/\FI b P0 g' t L tv LO/\Mv b g g'/\RD g' d' v/\(v.one=true):=by
 unfold ij at e
 split at e
 ·rename_i sz
  split at e
  ·rename_i s' o n
   obtain⟨sz',st,cap,l,e1,hc,hc2,hn⟩:=jJ e (dH.refl g)
   clear e
   obtain⟨hb,e⟩:=cQ e1
   clear e1
   have hb:=Nat.eq_of_beq_eq_true hb
   subst hb
   have hone:=r.one (fun q=>by cases q) (fun q=>by cases q)
   simp only[RD]at r
   have hsz:sz'=s':=by
    rcases r with⟨⟨_,_,_,k1⟩,_⟩|⟨st',cap',l',j1,_⟩
    ·rw[hc2]at k1;cases k1
    grind
   subst hsz
   exact⟨_,g.frz o sz' cap l,e,rfl,h.frz hc2,Et hc2,Az h.ok hc2 hn r,hone⟩
  ·have hone:=r.one (fun q=>by cases q) (fun q=>by cases q)
   simp only[RD]at r
   refine⟨_,g,e,rfl,h,.refl b g,?_,hone⟩
   simp only[RD]
   rcases r with rfl|⟨a,z,sz',rfl⟩
   ·exact .inl ⟨trivial,rfl⟩
   ·exact .inr (.inl ⟨trivial,a,z,sz',rfl⟩)
  ·have hone:=r.one (fun q=>by cases q) (fun q=>by cases q)
   simp only[RD]at r
   exact⟨_,g,e,rfl,h,.refl b g,by simp only[RD];exact .inl ⟨trivial,r⟩,hone⟩
  ·exact⟨_,g,e,rfl,h,.refl b g,r,r.one (fun q=>by cases q) (fun q=>by cases q)⟩
  ·cases e
 ·rename_i sz
  split at e
  ·obtain⟨hs,e⟩:=ay e
   have hone:=r.one (fun q=>by cases q) (fun q=>by cases q)
   simp only[RD]at r
   refine⟨_,g.acc sz false,e,rfl,h.acc (Nat.le_of_ble_eq_true hs) false,Ew h.ok sz false,?_,hone⟩
   simp only[RD]
   exact .inr ⟨true,false,[],gP _ _,Nat.le_refl _,.inl ⟨rfl,r⟩⟩
  ·exact⟨_,g,e,rfl,h,.refl b g,r,r.one (fun q=>by cases q) (fun q=>by cases q)⟩
  ·cases e
theorem jO{α:Type}{l:List α}{i:Nat}{x:α}(h:l[i]? = some x):l.set i x=l:=by
 apply List.ext_getElem?
 grind
theorem vP(h:FI b P0 g t L tv LO){k:Hk}{c:Nat}{d:D}{κ:D->DH->ag}(e:mE k c d g.H κ=some out){v:V}(r:RD g d v) :
 ∃ d' g',κ d' g'.H=some out/\g'.s=g.s/\FI b P0 g' t L tv LO/\Mv b g g'/\RD g' d' v:=by
 unfold mE at e
 split at e
 ·simp only[RD]at r
  obtain⟨vs,rfl,h1,h2⟩:=r
  obtain⟨x,hx,e⟩:=iB e
  obtain⟨w,hw,h3⟩:=h1.at hx
  obtain⟨y,g',k1,k2,k3,k4,k5,_⟩:=Ct h e h3
  refine⟨_,g',k1,k2,k3,k4,?_⟩
  simp only[RD]
  have:=(h1.mono k4.le).set c k5
  rw[jO hw]at this
  exact⟨vs,rfl,this,h2⟩
 ·obtain⟨_,e⟩:=ay e
  obtain⟨d',g',k1,k2,k3,k4,k5,_⟩:=Ct h e r
  exact⟨d',g',k1,k2,k3,k4,k5⟩
theorem yL:∀ {l:List (Nat×Hk)} {g:Gh} {d:D} {κ:D->DH->ag} {v:V},FI b P0 g t L tv LO->vO l d g.H κ=some out->RD g d v->∃ d' g',κ d' g'.H=some out/\g'.s=g.s/\FI b P0 g' t L tv LO/\Mv b g g'/\RD g' d' v
 |[],g,d,κ,v,h,e,r=>⟨d,g,e,rfl,h,.refl b g,r⟩
 |(c,k)::l,g,d,κ,v,h,e,r=>by
  simp only[vO]at e
  obtain⟨d',g',k1,k2,k3,k4,k5⟩:=vP h e r
  obtain⟨d2,g2,j1,j2,j3,j4,j5⟩:=yL k3 k1 k5
  exact⟨d2,g2,j1,j2.trans k2,j3,k4.trans j4,j5⟩
theorem eF(h:FI b P0 g t L tv LO){dst:Option Tmp}{x:LD}{κ:LD->DH->ag}(e:qy an.hooks dst x g.H κ=some out){v:V}(r:RS g LO x v) :
 ∃ x' g',κ x' g'.H=some out/\g'.s=g.s/\FI b P0 g' t L tv LO/\Mv b g g'/\RS g' LO x' v/\(se an dst=false->g'=g/\x'=x):=by
 have same:κ x g.H=some out->∃ x' g',κ x' g'.H=some out/\g'.s=g.s/\FI b P0 g' t L tv LO/\Mv b g g'/\RS g' LO x' v/\(se an dst=false->g'=g/\x'=x):=fun e=>⟨x,g,e,rfl,h,.refl b g,r,fun _=>⟨rfl,rfl⟩⟩
 unfold qy at e
 split at e
 ·exact same e
 ·rename_i hl
  split at e
  ·exact same e
  ·rename_i i
   split at e
   ·exact same e
   ·rename_i l hk
    split at e
    ·obtain⟨d',g',k1,k2,k3,k4,k5⟩:=yL h e r
     refine⟨_,g',k1,k2,k3,k4,k5,fun q=>?_⟩
     unfold se at q
     rw[hl]at q hk
     simp only[hk]at q
     cases q
    ·cases e
theorem kC(h:FI b P0 g t L tv LO){vout:eG}{o:hJ}(r:iD g.s.next g.Pv g o vout):∃ g',g'.H=o.H/\g'.s=vout.s/\FI b P0 g' t L tv LO/\Mv b g g'/\QH g' o.e vout.e/\IA g' o.up vout.up/\Bp g L LO g' L LO:=by
 obtain⟨g',h1,h2,h3,h4,h5,h6,h7⟩:=r
 exact⟨g',h1,h2,h.to h4 (h5.down h.bl) h3 fun f hf=>h5.out f (h.lo_lt hf) (fun o v=>h.lo_out hf o v),h5.down h.bl,h6,h7,List.prefix_rfl,IM.of fun f hf=>h5.out f (h.lo_lt hf) (fun o v=>h.lo_out hf o v)⟩
def Sq(b:Nat)(P0:List Nat)(g:Gh)(rdv:Option Nat)(k:DA)(kp:List ff->DA)(out:hJ):ji->Prop
 |.on tv' dsv' upv' s'=>∃ g' t' L' LO' ds' up',k t' L' ds' up' g'.H=some out/\g'.s=s'/\FI b P0 g' t' L' tv' LO'/\Mv b g g'/\DE g' ds' dsv'/\pq g' up' upv' rdv
 |.panicked c tv' dsv' upv' s'=>∃ g' t' L' LO' ds' up' c',kp c' t' L' ds' up' g'.H=some out/\g'.s=s'/\FI b P0 g' t' L' tv' LO'/\Mv b g g'/\DE g' ds' dsv'/\pq g' up' upv' rdv/\gq g' c' c
theorem Sq.trans{g':Gh}(m:Mv b g g'){rdv:Option Nat}{k:DA}{kp:List ff->DA}{r:ji}(h:Sq b P0 g' rdv k kp out r):Sq b P0 g rdv k kp out r:=by
 cases r with
 |on tv' dsv' upv' s' =>
  obtain⟨g2,t',L',LO',ds',up',h1,h2,h3,h4,h5⟩:=h
  exact⟨g2,t',L',LO',ds',up',h1,h2,h3,m.trans h4,h5⟩
 |panicked c tv' dsv' upv' s' =>
  obtain⟨g2,t',L',LO',ds',up',c',h1,h2,h3,h4,h5⟩:=h
  exact⟨g2,t',L',LO',ds',up',c',h1,h2,h3,m.trans h4,h5⟩
variable{rec:nU}
theorem kD{x:ag}{kr:D->DH->ag}{kp:List ff->DH->ag}(h:eK x kr kp=some out):∃ o,x=some o/\((∃ d,o.e=.ret d/\kr d o.H=some out)\/(∃ c,o.e=.pan c/\kp c o.H=some out)):=by
 unfold eK at h
 grind
theorem xw{d:Option Tmp}{ds:List pp}{H:DH}{k:DA}{up:Option eB}{upv:Option Md}{rdv:Option Nat}(e:kY d t L ds H k up=some out)(hu:pq g up upv rdv) :
 ∃ x up' v upv',k (lh t d x) L ds up' H=some out/\RS g LO x v/\pq g up' upv' rdv/\∀(tv:T V) (dsv:List ec) (s:S) (kv:RK),recovered d tv dsv s kv upv=kv (putD tv d v) dsv upv' s:=by
 unfold kY at e
 split at e
 ·cases e
 ·rename_i v older
  have hq:=hu.nr (fun o q=>by cases q)
  clear hu
  obtain⟨rfl,hu⟩:=hq
  obtain⟨m',rfl,c',rfl,y,c2,rfl,k1,k2,k3⟩:=hu
  obtain⟨yv,yr⟩:=y
  simp only at k1 k2
  subst k2
  rw[cj]at e
  exact⟨.g v,_,yv,some (.panicking (⟨yv,true⟩::c2)),e,k1,pq.mk (fun o q=>by cases q) ⟨_,rfl,_,rfl,⟨yv,true⟩,c2,rfl,k1,rfl,k3⟩,fun tv dsv s kv=>by simp only[recovered,bX]⟩
 ·rename_i m hnr hne
  have hn:Hi (some m):=fun o q=>hnr o (Option.some.inj q)
  have hq:=hu.nr hn
  clear hu
  obtain⟨rfl,hu⟩:=hq
  obtain⟨m',rfl,k1⟩:=hu
  rw[cj]at e
  refine⟨.g .nilIface,some m,.nilIface,some m',e,by show RD _ _ _;simp only[RD],pq.mk hn ⟨m',rfl,k1⟩,fun tv dsv s kv=>?_⟩
  have:∀ v older,m'≠.panicking (⟨v,false⟩::older):=fun v older q=>by
   subst q
   cases m with
   |run=>cases k1
   |returning=>cases k1
   |round o=>exact k1
   |panicking c =>
    obtain⟨c',q1,k2⟩:=k1
    cases q1
    cases c with
    |nil=>cases k2
    |cons x xs =>
     obtain⟨y,c2,q2,k3,k4,k5⟩:=k2
     cases q2
     obtain⟨xv,xr⟩:=x
     simp_all
  unfold recovered
  split
  ·rename_i q;exact(this _ _ (Option.some.inj q)).elim
  ·rename_i q;cases q;simp only[bX]
  ·rename_i q;cases q
 ·cases e
theorem eM{rdv:Option Nat}(hrec:Fy E.E rec){ops:Array Oper}{k:DA}{kp:List ff->DA}:∀ {l:List Oper} {t:T LD} {L:LS} {ds:List pp} {up:Option eB} {g:Gh} {LO:List Nat} {tv:T V} {dsv:List ec} {upv:Option Md},
 nq E an ops rec l k kp t L ds up g.H=some out->FI b P0 g t L tv LO->DE g ds dsv->pq g up upv rdv ->
 ∃ r,oK E.E ops (bp (lim E.E)) (dR (lim E.E)) rdv l tv dsv upv g.s=some r/\Sq b P0 g rdv k kp out r
 |[],t,L,ds,up,g,LO,tv,dsv,upv,e,h,hd,hu=>⟨_,rfl,g,t,L,LO,ds,up,e,rfl,h,.refl b g,hd,hu⟩
 |o::l,t,L,ds,up,g,LO,tv,dsv,upv,e,h,hd,hu=>by
  simp only[nq]at e
  simp only[oK]
  rcases ur e h.slots with⟨hw,t1,e,hr⟩|⟨hw,t1,e,hr⟩
  ·have h:=h.rf hr
   rw[hw]
   obtain⟨t2,x,nx,e,h1,hr2,hs⟩:=zX o.op h e
   have h:=h.rf hr2
   simp only[oP,cP,h1]
   cases x with
   |val d L' H' =>
    obtain⟨v,s',rfl,g',LO',k1,k2,k3,k4,k5,k6⟩:=hs
    have k3:=FI.rf k3 (t':=t2) hr2
    simp only[En,<- k1]at e
    obtain⟨x',g2,j1,j2,j3,j4,j5,_⟩:=eF k3 e k6
    rw[cj]at j1
    obtain⟨r,i1,i2⟩:=eM hrec j1 (j3.put o.dst j5) ((hd.mono k4.le).mono j4.le) ((hu.mono k4.le).mono j4.le)
    refine⟨r,?_,i2.trans (k4.trans j4)⟩
    grind [dC,bX]
   |skip L' H' =>
    obtain⟨s',rfl,g',LO',k1,k2,k3,k4,k5,_⟩:=hs
    have k3:=FI.rf k3 (t':=t2) hr2
    simp only[En,<- k1,cj]at e
    obtain⟨r,i1,i2⟩:=eM hrec e (k3.put o.dst RS.u) (hd.mono k4.le) (hu.mono k4.le)
    refine⟨r,?_,i2.trans k4⟩
    grind [dC,bX]
   |enter f args L' H' =>
    obtain⟨vs,rfl,rfl,rfl,k1,_⟩:=hs
    simp only[En]at e
    obtain⟨oc,hoc,e⟩:=kD e
    obtain⟨vout,m1,m2⟩:=hrec.c f args none g.H oc hoc g rfl h.ok vs none k1 rfl
    obtain⟨g',n1,n2,n3,n4,n5,_⟩:=kC h m2
    obtain⟨ve,vu,vs'⟩:=vout
    simp only at n2 n5
    rcases e with⟨d,hd1,e⟩|⟨c,hd1,e⟩
    ·rw[hd1]at n5
     obtain⟨v,rfl,n6⟩:=n5
     rw[<- n1]at e
     obtain⟨x',g2,j1,j2,j3,j4,j5,_⟩:=eF (x:=.g d) n3 e n6
     rw[cj]at j1
     obtain⟨r,i1,i2⟩:=eM hrec j1 (j3.put o.dst j5) ((hd.mono n4.le).mono j4.le) ((hu.mono n4.le).mono j4.le)
     refine⟨r,?_,i2.trans (n4.trans j4)⟩
     grind [dC,bp,eX,bX]
    ·rw[hd1]at n5
     obtain⟨c',rfl,n6⟩:=n5
     rw[<- n1]at e
     refine⟨.panicked c' tv dsv upv vs',by simp only[dC,bp,m1,eX],?_⟩
     exact⟨g',t2,L',LO,ds,up,c,e,n2,n3,n4,hd.mono n4.le,hu.mono n4.le,n6⟩
   |round or args L' H' =>
    obtain⟨vs,lb,lv,rfl,rfl,rfl,k1,ko⟩:=hs
    simp only[En]at e
    obtain⟨oc,hoc,e⟩:=kD e
    obtain⟨vout,m1,m2⟩:=hrec.r or args g.H oc hoc g rfl h.ok vs lb lv k1 ko
    obtain⟨g',n1,n2,n3,n4,n5,_⟩:=kC h m2
    obtain⟨ve,vu,vs'⟩:=vout
    simp only at n2 n5
    rcases e with⟨d,hd1,e⟩|⟨c,hd1,e⟩
    ·rw[hd1]at n5
     obtain⟨v,rfl,n6⟩:=n5
     rw[<- n1]at e
     obtain⟨x',g2,j1,j2,j3,j4,j5,_⟩:=eF (x:=.g d) n3 e n6
     rw[cj]at j1
     obtain⟨r,i1,i2⟩:=eM hrec j1 (j3.put o.dst j5) ((hd.mono n4.le).mono j4.le) ((hu.mono n4.le).mono j4.le)
     refine⟨r,?_,i2.trans (n4.trans j4)⟩
     grind [dC,dR,eX,bX]
    ·rw[hd1]at n5
     obtain⟨c',rfl,n6⟩:=n5
     rw[<- n1]at e
     refine⟨.panicked c' tv dsv upv vs',by simp only[dC,dR,m1,eX],?_⟩
     exact⟨g',t2,L',LO,ds,up,c,e,n2,n3,n4,hd.mono n4.le,hu.mono n4.le,n6⟩
   |defer df L' H' =>
    obtain⟨c,a,rfl,rfl,rfl,k1,k2,_⟩:=hs
    simp only[En,cj]at e
    obtain⟨hn,e⟩:=ll e
    obtain⟨rfl,_⟩:=hu.nr hn
    obtain⟨r,i1,i2⟩:=eM hrec e (h.put o.dst RS.u) (dsv:=.call (.func df.fn) c a::dsv) ⟨c,a,dsv,rfl,k1,k2,hd⟩ hu
    grind [dC,Option.isSome_none,bX]
   |recover L' H' =>
    obtain⟨rfl,rfl,rfl⟩:=hs
    simp only[En]at e
    obtain⟨x,up',v,upv',e,k1,k2,k3⟩:=xw (LO:=LO) e hu
    obtain⟨r,i1,i2⟩:=eM hrec e (h.put o.dst k1) hd k2
    grind [only,dC]
   |panic v L' H' =>
    obtain⟨w,rfl,rfl,rfl,k1⟩:=hs
    simp only[En]at e
    exact⟨_,rfl,g,t2,L',LO,ds,up,_,e,rfl,h,.refl b g,hd,hu,⟨w,false⟩,[],rfl,k1,rfl,rfl⟩
  ·have h:=h.rf hr
   rw[hw]
   rw[cj]at e
   obtain⟨r,i1,i2⟩:=eM hrec e (h.put o.dst RS.u) hd hu
   grind [only,oP,bX]
end Go.AI
set_option linter.all false
noncomputable section
namespace Go.AI
variable[fj]
variable{b:Nat}{P0:List Nat}{g:Gh}{LO:List Nat}{t:T LD}{L:LS}{tv:T V}{out:hJ}{E:cu}{an:gF}
structure fg where
 L:LS
 g:Gh
 LO:List Nat
def FC(c:fg):Prop:=Ok c.g/\LR c.g c.L c.LO
def tj(b:Nat)(x y:fg):Prop:=Mv b x.g y.g/\Bp x.g x.L x.LO y.g y.L y.LO
theorem tj.refl(b:Nat)(x:fg):tj b x x:=⟨.refl b _,.refl _ _ _⟩
theorem tj.trans{x y z:fg}(h:tj b x y)(k:tj b y z):tj b x z:=⟨h.1.trans k.1,h.2.trans k.2⟩
def il(b:Nat)(cur:fg):List fg->Prop
 |[]=>True
 |c::r=>FC c/\tj b c cur/\il b c r
theorem il.step{x y:fg}(h:tj b x y):∀ {l:List fg},il b x l->il b y l
 |[],_=>trivial
 |c::r,k=>⟨k.1,k.2.1.trans h,k.2.2⟩
theorem il.at:∀ {l:List fg} {x:fg},il b x l->∀ {p:Nat} {c:fg},l[p]? = some c->FC c/\tj b c x
 |[],x,_,p,c,h=>by simp at h
 |d::r,x,k,0,c,h=>by simp at h;subst h;exact⟨k.1,k.2.1⟩
 |d::r,x,k,p+1,c,h=>by
  obtain⟨h1,h2⟩:=il.at k.2.2 (p:=p) (by simpa using h)
  exact⟨h1,h2.trans k.2.1⟩
theorem il.two:∀ {l:List fg} {x:fg},il b x l->∀ {p q:Nat} {c d:fg},l[p]? = some c->l[q]? = some d->p<=q->tj b d c
 |[],x,_,p,q,c,d,h,_,_=>by simp at h
 |e::r,x,k,0,0,c,d,h,h2,_=>by
  have h:e=c:=by simpa using h
  have h2:e=d:=by simpa using h2
  subst h;subst h2;exact .refl b _
 |e::r,x,k,0,q+1,c,d,h,h2,_=>by
  have h:e=c:=by simpa using h
  subst h
  exact(il.at k.2.2 (p:=q) (by simpa using h2)).2
 |e::r,x,k,p+1,0,c,d,h,h2,hq=>by omega
 |e::r,x,k,p+1,q+1,c,d,h,h2,hq=>il.two k.2.2 (p:=p) (q:=q) (by simpa using h) (by simpa using h2) (by omega)
theorem RS.nxt{x y:fg}(h:tj b x y){d:LD}{v:V}(r:RS x.g x.LO d v):RS y.g y.LO d v:=(r.mono h.1.le).ext h.2.pre
def Us(cs:List fg)(bs:T Nat)(g:Gh)(LO:List Nat)(i:Nat)(x:LD)(v:V):Prop:=RS g LO x v/\∀(p:Nat) c,cs[p]? = some c->su bs i+p<cs.length->RS c.g c.LO x v
def pt(cs:List fg)(bs:T Nat)(t:T LD)(tv:T V)(g:Gh)(LO:List Nat):Prop:=∀ i x,t.get (et i)=some x->∃ v,tv.get (et i)=some v/\Us cs bs g LO i x v
theorem pt.rf{cs:List fg}{bs:T Nat}{t':T LD}(r:Rf t t' tv)(h:pt cs bs t tv g LO):pt cs bs t' tv g LO:=r (Us cs bs g LO) (fun i q=>⟨by show RD _ _ _;simp only[RD],fun p c _ _=>by show RD _ _ _;simp only[RD]⟩) h
theorem pt.nxt{cs:List fg}{bs:T Nat}{x y:fg}(h:tj b x y)(k:pt cs bs t tv x.g x.LO):pt cs bs t tv y.g y.LO:=fun i z hz=>by
 obtain⟨v,h1,h2,h3⟩:=k i z hz
 exact⟨v,h1,h2.nxt h,h3⟩
def yj(bs:T Nat)(d:Option Tmp)(n:Nat):T Nat:=match d with
 |some i=>T.set (some n) (et i) bs
 |none=>bs
theorem eW{β:Type}(bs:T Nat)(d:Option Tmp)(n:Nat)(κ:T Nat->β):JK bs d n κ=κ (yj bs d n):=by
 cases d with
 |none=>rfl
 |some i=>exact T.setQ_eq _ _ _ _
theorem pt.put{cs:List fg}{bs:T Nat}(h:pt cs bs t tv g LO)(d:Option Tmp){x:LD}{v:V}{n:Nat}(r:RS g LO x v)(hb:∀(p:Nat) c,cs[p]? = some c->n+p<cs.length->RS c.g c.LO x v):pt cs (yj bs d n) (lh t d x) (putD tv d v) g LO:=by
 cases d with
 |none=>exact h
 |some i =>
  intro j y hy
  simp only[lh]at hy
  rw[T.get_setN]at hy
  rw[Cw]
  split at hy
  ·rename_i e
   cases hy;subst e
   rw[if_pos rfl]
   refine⟨v,rfl,r,fun p c hc hp=>hb p c hc ?_⟩
   grind [only,su,yj,T.get_set_same]
  ·rename_i e
   rw[if_neg e]
   obtain⟨w,h1,h2,h3⟩:=h j y hy
   refine⟨w,h1,h2,fun p c hc hp=>h3 p c hc ?_⟩
   grind [only,su,yj,T.get_setN]
theorem pt.push{cs:List fg}{bs:T Nat}{c:fg}(h:pt cs bs t tv c.g c.LO):pt (c::cs) bs t tv c.g c.LO:=fun i x hx=>by
 obtain⟨v,h1,h2,h3⟩:=h i x hx
 refine⟨v,h1,h2,fun p d hd hp=>?_⟩
 grind
theorem wK{bs:T Nat}:∀ {l:List Tmp} {i:Tmp},i∈l->su bs i<=fe bs l
 |j::r,i,h=>by
  simp only[fe]
  rcases List.mem_cons.1 h with rfl|h
  ·grind
  ·exact Nat.le_trans (wK h) (Nat.le_max_right _ _)
theorem pt.op{cs:List fg}{bs:T Nat}(h:pt cs bs t tv g LO){o:Oper}{x:Operand}(hx:x∈o.op.operands.toList){p:Nat}{c:fg}(hc:cs[p]? = some c)(hb:fe bs (sees o)+p<cs.length):uk c.g c.LO t tv x:=by
 intro y hy
 cases x with
 |tmp i =>
  obtain⟨v,h1,h2,h3⟩:=h i y hy
  refine⟨v,h1,h3 p c hc ?_⟩
  have:su bs i<=fe bs (sees o):=wK (by unfold sees;rw[List.mem_filterMap];exact⟨_,hx,rfl⟩)
  omega
 |const k =>
  simp only[gm]at hy
  split at hy
  ·rename_i v hv
   split at hy
   ·rename_i d hd;cases hy;exact⟨v,hv,KX hd⟩
   ·cases hy
  ·cases hy
 |global _=>cases hy
 |func f=>cases hy;exact⟨_,rfl,by show RD _ _ _;simp only[RD];exact⟨[],[],rfl,by simp only[RL],by simp only[RL]⟩⟩
theorem Aj:∀ {L M:LS} {k st:Nat} {cs:List D},(eR.meet L M)[k]? = some (st,cs)->∃ cs0,L[k]? = some (st,cs0)/\(cs=[]\/(cs=cs0/\∃ c2,M[k]? = some (st,c2)))
 |[],M,k,st,cs,h=>by simp[eR.meet]at h
 |(a,c0)::l,[],0,st,cs,h=>by
  simp[eR.meet]at h
  grind
 |(a,c0)::l,[],k+1,st,cs,h=>by
  simp only[eR.meet,List.getElem?_cons_succ]at h
  obtain⟨cs0,h1,h2⟩:=Aj h
  grind
 |(a,c0)::l,(b,c1)::m,0,st,cs,h=>by
  simp only[eR.meet]at h
  cases hb:Nat.beq a b with
  |true =>
   simp_all
  |false =>
   grind
 |(a,c0)::l,(b,c1)::m,k+1,st,cs,h=>by
  have h':(eR.meet l m)[k]? = some (st,cs):=by
   simp only[eR.meet]at h
   grind
  simp_all[Aj]
theorem sq:∀ {r:List (LS×DH)} {L:LS} {k st:Nat} {cs:List D},(eR L r)[k]? = some (st,cs)->∃ cs0,L[k]? = some (st,cs0)/\(cs=[]\/(cs=cs0/\∀ M∈r,∃ c2,M.1[k]? = some (st,c2)))
 |[],L,k,st,cs,h=>⟨cs,h,.inr ⟨rfl,fun M hM=>by cases hM⟩⟩
 |(M,H)::r,L,k,st,cs,h=>by
  simp only[eR]at h
  obtain⟨cs1,h1,h2⟩:=sq h
  obtain⟨cs0,h3,h4⟩:=Aj h1
  grind
theorem AY{r:List DH}:∀ {H:DH} {i o:Nat},(Ie r i H)[o]? =(H[o]?).map (Cn r (i+o))
 |[],i,o=>by simp[Ie]
 |b::t,i,0=>by simp[Ie]
 |b::t,i,o+1=>by
  simp only[Ie,List.getElem?_cons_succ]
  rw[AY,show i+1+o=i+(o+1)by omega]
theorem Fe{H:DH}{r:List DH}{o:Nat}{x:DB}(h:(cH H r)[o]? = some x):x=.dead\/∃ st cs,x=.cells st cs/\H[o]? = some (.cells st cs)/\∀ H2∈r,H2[o]? = some (.cells st cs):=by
 rw[cH,AY,Nat.zero_add]at h
 cases hb:H[o]? with
 |none=>rw[hb]at h;cases h
 |some b =>
  rw[hb]at h
  have h:Cn r o b=x:=by simpa using h
  subst h
  cases b with
  |cells st cs =>
   grind [Cn]
  |_=>exact .inl rfl
mutual
theorem mO:∀ v:V,aQ.sameV v v=true
 |.bool b=>by simp[aQ.sameV]
 |.int k n=>by simp[aQ.sameV]
 |.str l=>by simp[aQ.sameV]
 |.ptr a=>by simp[aQ.sameV]
 |.nilptr=>rfl
 |.slice a z n c sz=>by simp[aQ.sameV]
 |.nilslice=>rfl
 |.map r=>by simp[aQ.sameV]
 |.nilmap=>rfl
 |.func f a b=>by simp[aQ.sameV,gc a,gc b]
 |.nilFunc=>rfl
 |.iface t v=>by simp[aQ.sameV,mO v]
 |.nilIface=>rfl
 |.agg l=>by simp[aQ.sameV,gc l]
 |.tuple l=>by simp[aQ.sameV,gc l]
 |.atom i=>by simp[aQ.sameV]
theorem gc:∀ l:List V,aQ l l=true
 |[]=>rfl
 |v::r=>by simp[aQ,mO v,gc r]
end
theorem jn{E:cT}{o:Oper}{v:V}:∀ {l:List S},l≠[]->(∀ s∈l,cD o.op E tv s=some (.val v s))->eV E tv o l=some v
 |[],h,_=>(h rfl).elim
 |[s],_,h=>by simp only[eV,cP,h s List.mem_cons_self]
 |s::s2::r,_,h=>by
  have h2:=jn (l:=s2::r) (by simp) fun x hx=>h x (List.mem_cons_of_mem _ hx)
  grind [eV,cP,List.mem_cons_self,aQ,mO,Bool.and_self]
theorem RS.same_at{cs:List fg}{cur:fg}(hh:il b cur cs){x:LD}{v:V}{p:Nat}{c:fg}(hc:cs[p]? = some c)(r:RS c.g c.LO x v):RS cur.g cur.LO x v/\∀(q:Nat) d,cs[q]? = some d->q<=p->RS d.g d.LO x v :=
 ⟨r.nxt (hh.at hc).2,fun q d hd hq=>r.nxt (hh.two hd hc hq)⟩
theorem ce{α:Type}{l:List α}{i:Nat}{x:α}(h:l[i]? = some x):i<l.length:=by
 grind
theorem EL{cs:List fg}{bs:T Nat}{o:Oper}{κ:T LD->xd->ag}(hk:aA E.E.P o.op=0)(hok:Ok g)(hh:il b ⟨L,g,LO⟩ cs)(hs:pt cs bs t tv g LO)(e:jr o.op E false t [] [] κ=some out) :
 ∃ t' d v,κ t' (.val d [] [])=some out/\cD o.op E.E tv g.s=some (.val v g.s)/\Rf t t' tv/\RS g LO d v/\∀(p:Nat) c,cs[p]? = some c->fe bs (sees o)+p<cs.length->RS c.g c.LO d v:=by
 by_cases hb:fe bs (sees o)<cs.length
 ·have hp:cs.length - 1 - fe bs (sees o)<cs.length:=by omega
  have hc:=List.getElem?_eq_getElem hp
  generalize cs[cs.length - 1 - fe bs (sees o)]=c at hc
  obtain⟨⟨h1,_⟩,h3⟩:=hh.at hc
  have ho:∀ x∈o.op.operands.toList,uk c.g c.LO t tv x:=fun x hx=>hs.op hx hc (by omega)
  obtain⟨t',d,v,k1,k2,k3,k4⟩:=li (L:=[]) o.op (by omega) (.inr rfl) ho h1 (fun k x f hx=>by simp at hx) (dH.nil _) e
  have hst:=yp (L:=[]) (g':=g) o.op (by omega) ho h1 (fun k x f hx=>by simp at hx) (dH.nil _) re.nil e h3.1.le (fun k y f hx=>by simp at hx) (fun o st cs f v hx=>by simp at hx) v k2
  obtain⟨r1,r2⟩:=k3.same_at hh hc
  exact⟨t',d,v,k1,hst,k4,r1,fun p c' hc' hp'=>r2 p c' hc' (by omega)⟩
 ·have ho:∀ x∈o.op.operands.toList,uk g LO t tv x:=fun x _=>xP.op (fun i y hy=>by obtain⟨v,q1,q2,_⟩:=hs i y hy;exact⟨v,q1,q2⟩) x
  obtain⟨t',d,v,k1,k2,k3,k4⟩:=li (L:=[]) o.op (by omega) (.inr rfl) ho hok (fun k x f hx=>by simp at hx) (dH.nil _) e
  exact⟨t',d,v,k1,k2,k4,k3,fun p c hc hp=>by omega⟩
theorem Ks{P:Program}{ty:TypeId}{x:LD}{H:DH}{r:List DH}{κ:D->ag}(h:oT P ty x L H r κ=some out):(∃ o n i c,x=.g (.bptr o n i c)/\Ea P ty H r o n i c κ=some out)\/jx P ty x L (cH H r) κ=some out:=by
 unfold oT at h
 split at h
 ·unfold MQ at h
  split at h
  ·grind
  ·exact .inr h
 grind
theorem JH{op:Op}{E:cu}{H:DH}{r:List DH}{κ:T LD->LD->ag}(h:JI op (fun ty x=>lD (gm t x) fun x=>oT E.E.P ty x L H r fun d=>κ t (.g d)) (jr op E false t L (cH H r) fun t x=>oI (fun t x _ _=>κ t x) t x)=some out) :
 (∃ ty x o n i c,op=.load ty x/\gm t x=some (.g (.bptr o n i c))/\Ea E.E.P ty H r o n i c (fun d=>κ t (.g d))=some out)\/jr op E false t L (cH H r) (fun t x=>oI (fun t x _ _=>κ t x) t x)=some out:=by
 unfold JI at h
 split at h
 ·rename_i ty x
  dsimp only at h
  cases hx:gm t x with
  |none=>rw[hx]at h;cases h
  |some y =>
   rw[hx]at h
   simp only[lD]at h
   rcases Ks h with⟨o,n,i,c,rfl,h⟩|h
   ·exact .inl ⟨ty,x,o,n,i,c,rfl,hx,h⟩
   ·refine .inr ?_
    simp only[jr,hx,lD,oI]
    exact h
 ·exact .inr h
theorem Oj{g g':Gh}{d:D}{v v':V}(hl:lY g g')(h1:IJ g.H d=true)(h2:IJ g'.H d=true)(r1:RD g d v)(r2:RD g' d v'):v=v':=by
 cases d with
 |buf sz o n =>
  simp only[IJ]at h1 h2
  simp only[RD]at r1 r2
  rcases r1 with⟨⟨_,_,_,a1⟩,_⟩|⟨s1,c1,l1,a1,a2,a3⟩
  ·rw[a1]at h1;cases h1
  rcases r2 with⟨⟨_,_,_,b1⟩,_⟩|⟨s2,c2,l2,b1,b2,b3⟩
  ·rw[b1]at h2;cases h2
  rcases hl.buf o _ _ _ _ a1 with⟨_,_,_,d1⟩|⟨s3,c3,l3,d1,d2,d3,d4⟩
  ·rw[b1]at d1;cases d1
  rw[a1]at h1
  rw[b1]at h2
  rw[b1]at d1
  cases d1
  simp only[Bool.and_eq_true]at h1 h2
  grind [Nat.eq_of_beq_eq_true,Nat.blt,Nat.le_of_ble_eq_true]
 |nilx=>simp only[RD]at r1 r2;rw[r1,r2]
 |_=>simp[IJ]at h1
theorem MO{P:Program}{ty:TypeId}{p:D}{H:DH}{r:List DH}{κ:D->ag}(h:Rk P ty p H r κ=some out):∃ d,κ d=some out/\∀ H2∈H::r,IJ H2 d=true/\∀ κ':D->ag,ft P ty p H2 κ'=κ' d:=by
 unfold Rk at h
 split at h
 ·rename_i hq
  obtain⟨d,hd⟩:=hq
  exact⟨d,by rw[<- h,(hd H List.mem_cons_self).2],hd⟩
 ·cases h
theorem JG{P:Program}{ty:TypeId}{H:DH}{r:List DH}{o n i c:Nat}{κ:D->ag}(h:Ea P ty H r o n i c κ=some out):∃ d,κ d=some out/\IJ H d=true/\(∀ H2∈r,IJ H2 d=true)/\(∀ κ':D->ag,ft P ty (.bptr o n i c) H κ'=κ' d)/\∀ H2∈r,∀ κ':D->ag,ft P ty (.bptr o n i c) H2 κ'=κ' d:=by
 unfold Ea gB at h
 split at h
 ·rename_i sz st cap l hx
  cases hn:Nat.beq n l.length with
  |false=>rw[hn]at h;cases h
  |true =>
   rw[hn]at h
   simp only[cond_true]at h
   unfold eO at h
   split at h
   ·rename_i cs hcs
    dsimp only at h
    obtain⟨d,hd⟩:=dZ _ _ _ _ _ _ h
    grind [List.mem_cons_self,List.mem_cons_of_mem,ft,gB,eO]
   ·cases h
 ·cases h
def hD(c:fg):LS×DH:=(c.L,c.g.H)
theorem EJ{cs:List fg}{bs:T Nat}{o:Oper}{w:Nat}{κ:T LD->LD->ag}(hk:aA E.E.P o.op<=1)(hns:∀ ty x lo hi mx,o.op≠.slice ty x lo hi mx)(hh:il b ⟨L,g,LO⟩ cs)(hs:pt cs bs t tv g LO)(hw:w<=cs.length)(hb:fe bs (sees o)<=cs.length - w)(e:uP E o ((cs.map hD).take w) t κ=some out) :
 ∃ t' d v,κ t' d=some out/\eV E.E tv o ((cs.map fun c=>c.g.s).take w)=some v/\Rf t t' tv/\RS g LO d v/\∀(p:Nat) c,cs[p]? = some c->cs.length - w+p<cs.length->RS c.g c.LO d v:=by
 cases cs with
 |nil=>cases w<;>simp[uP]at e
 |cons c0 rest =>
  cases w with
  |zero=>simp[uP]at e
  |succ w =>
   rw[List.map_cons,List.take_succ_cons]at e
   simp only[uP]at e
   split at e
   ·rename_i ty x hop
    have hw2:w<(c0::rest).length:=by simp only[List.length_cons]at hw ⊢;omega
    have hc:=List.getElem?_eq_getElem hw2
    generalize(c0::rest)[w]=c at hc
    have hop':∀(q:Nat) d',(c0::rest)[q]? = some d'->q<=w->∀ x∈o.op.operands.toList,uk d'.g d'.LO t tv x:=fun q d' hd hq x hx=>hs.op hx hd (by simp only[List.length_cons]at hb hw ⊢;omega)
    have hx:x∈o.op.operands.toList:=by rw[hop];simp[Op.operands]
    obtain⟨dp,_,e,hev,_,_⟩:=jP e (hop' w c hc (Nat.le_refl _) x hx)
    split at e
    ·rename_i p
     obtain⟨d,g1,g2⟩:=MO e
     have all:∀(q:Nat) d',(c0::rest)[q]? = some d'->q<=w->IJ d'.g.H d=true/\∃ v,cD o.op E.E tv d'.g.s=some (.val v d'.g.s)/\RD d'.g d v:=fun q d' hd hq=>by
      have hm:d'.g.H∈(hD c0).2::((rest.map hD).take w).map (·.2):=by
       cases q with
       |zero =>
        have:c0=d':=by simpa using hd
        subst this
        exact List.mem_cons_self
       |succ q =>
        refine List.mem_cons_of_mem _ (List.mem_map.2 ⟨hD d',?_,rfl⟩)
        have:((rest.map hD).take w)[q]? = some (hD d'):=by rw[List.getElem?_take,if_pos (by omega),List.getElem?_map,show rest[q]? = some d' by simpa using hd];rfl
        exact List.mem_of_getElem? this
      have hf:=g2 _ hm
      refine⟨hf.1,?_⟩
      obtain⟨⟨m1,m2⟩,_⟩:=hh.at hd
      have e2:jr o.op E false t d'.L d'.g.H (fun _ y=>open Classical in if y=.val (.g d) d'.L d'.g.H then some out else none)=some out:=by
       rw[hop]
       simp only[jr,lD,hev,jx,hf.2,if_true]
      obtain⟨t',dd,v,n1,n2,n3,_⟩:=li o.op hk (.inl hns) (hop' q d' hd hq) m1 m2.2 (dH.refl _) e2
      split at n1
      ·rename_i q1
       obtain⟨rfl,_⟩:=xd.val.inj q1
       exact⟨v,n2,n3⟩
      ·cases n1
     obtain⟨f1,v,f2,f3⟩:=all w c hc (Nat.le_refl _)
     obtain⟨r1,r2⟩:=RS.same_at (x:=.g d) hh hc f3
     refine⟨t,.g d,v,g1,?_,.refl t tv,r1,fun p c' hc' hp'=>r2 p c' hc' (by omega)⟩
     refine jn (by simp) fun s hs'=>?_
     obtain⟨q,hq⟩:=List.getElem?_of_mem hs'
     rw[List.getElem?_take]at hq
     split at hq
     ·rename_i hql
      rw[List.getElem?_map]at hq
      cases hd:(c0::rest)[q]? with
      |none=>rw[hd]at hq;cases hq
      |some d' =>
       rw[hd]at hq
       cases hq
       obtain⟨f4,v',f5,f6⟩:=all q d' hd (by omega)
       rw[Oj (hh.two hd hc (by omega)).1.le f1 f4 f3 f6]
       exact f5
     ·cases hq
    ·cases e
   ·cases e
theorem EK{cs:List fg}{bs:T Nat}{o:Oper}{w:Nat}{κ:T LD->LD->ag}(hk:aA E.E.P o.op<=1)(hns:∀ ty x lo hi mx,o.op≠.slice ty x lo hi mx)(hh:il b ⟨L,g,LO⟩ cs)(hs:pt cs bs t tv g LO)(hw:w<=cs.length)(hb:fe bs (sees o)<=cs.length - w)(e:uQ E o ((cs.map hD).take w) t κ=some out) :
 ∃ t' d v,κ t' d=some out/\eV E.E tv o ((cs.map fun c=>c.g.s).take w)=some v/\Rf t t' tv/\RS g LO d v/\∀(p:Nat) c,cs[p]? = some c->cs.length - w+p<cs.length->RS c.g c.LO d v:=by
 cases cs with
 |nil=>cases w<;>simp[uQ]at e
 |cons c0 rest =>
  cases w with
  |zero=>simp[uQ]at e
  |succ w =>
   rw[List.map_cons,List.take_succ_cons]at e
   simp only[uQ]at e
   cases w with
   |zero =>
    rw[List.take_zero]at e
    simp only at e
    have hc:(c0::rest)[0]? = some c0:=rfl
    obtain⟨⟨h1,h2⟩,h3⟩:=hh.at hc
    have ho:∀ x∈o.op.operands.toList,uk c0.g c0.LO t tv x:=fun x hx=>hs.op hx hc (by simp only[List.length_cons]at hb ⊢;omega)
    obtain⟨t',d,v,k1,k2,k3,k4⟩:=li o.op hk (.inl hns) ho h1 h2.2 (dH.refl _) e
    obtain⟨r1,r2⟩:=k3.same_at hh hc
    refine⟨t',d,v,k1,?_,k4,r1,fun p c' hc' hp'=>r2 p c' hc' (by omega)⟩
    simp only[List.map_cons,List.take_succ_cons,List.take_zero,eV,cP,k2]
   |succ w =>
    have hw2:w+1<(c0::rest).length:=by simp only[List.length_cons]at hw ⊢;omega
    cases rest with
    |nil=>simp at hw2
    |cons c1 rest =>
     rw[List.map_cons,List.take_succ_cons]at e
     simp only[List.map_cons,List.map_take]at e
     have hc:=List.getElem?_eq_getElem hw2
     generalize(c0::c1::rest)[w+1]=c at hc
     have hc0:(c0::c1::rest)[0]? = some c0:=rfl
     obtain⟨⟨h1,h2⟩,h3⟩:=hh.at hc
     have ho:∀ x∈o.op.operands.toList,uk c.g c.LO t tv x:=fun x hx=>hs.op hx hc (by simp only[List.length_cons]at hb hw ⊢;omega)
     have inw:∀(q:Nat) d,(c0::c1::rest)[q]? = some d->1<=q->q<=w+1->hD d∈hD c1::(rest.map hD).take w:=fun q d hd h1 h2=>by
      cases q with
      |zero=>omega
      |succ q =>
       have hd:(c1::rest)[q]? = some d:=by simpa using hd
       have:((c1::rest).map hD |>.take (w+1))[q]? = some (hD d):=by rw[List.getElem?_take,if_pos (by omega),List.getElem?_map,hd];rfl
       grind
     have key:∀ {k st:Nat} {x:List D},(eR (hD c0).1 (hD c1::(rest.map hD).take w))[k]? = some (st,x)->x≠[]->∀(q:Nat) d,(c0::c1::rest)[q]? = some d->q<=w+1->∀ f,d.LO[k]? = some f->∃ c2,d.L[k]? = some (st,c2):=fun {k st x} hx hne q d hd hq f hf=>by
      obtain⟨x0,k1,k2⟩:=sq hx
      rcases k2 with k2|⟨rfl,k2⟩
      ·grind
      ·cases q with
       |zero =>
        have:c0=d:=by simpa using hd
        subst this;exact⟨x,k1⟩
       |succ q=>exact k2 _ (inw (q+1) d hd (by omega) hq)
     have hLw:QP c.g (eR (hD c0).1 (hD c1::(rest.map hD).take w)) c.LO:=fun k x f hx hf=>by
      obtain⟨st,x⟩:=x
      by_cases hne:x=[]
      ·subst hne
       have hkl:k<c.L.length:=by rw[h2.1];exact ce hf
       exact⟨(h2.2 k _ f (List.getElem?_eq_getElem hkl) hf).1,.inl rfl⟩
      ·obtain⟨c2,k1⟩:=key hx hne (w+1) c hc (Nat.le_refl _) f hf
       obtain⟨x0,k2,k3⟩:=sq hx
       rcases k3 with k3|⟨rfl,_⟩
       ·grind
       ·obtain⟨st',cs',j1,j2,j3⟩:=(hh.two hc0 hc (Nat.zero_le _)).2.pvn k st c2 f k1 hf
        have:(hD c0).1=c0.L:=rfl
        rw[this]at k2
        rw[k2]at j1
        cases j1
        obtain⟨rfl,_⟩:=j3 rfl
        exact h2.2 k _ f k1 hf
     have heap:∀ {o:Nat} {x:DB},(cH (hD c0).2 ((hD c1::(rest.map hD).take w).map (·.2)))[o]? = some x->x=.dead\/∃ st cs,x=.cells st cs/\∀(q:Nat) d,(c0::c1::rest)[q]? = some d->q<=w+1->d.g.H[o]? = some (.cells st cs):=fun {o x} hx=>by
      rcases Fe hx with q|⟨st,cs,rfl,q1,q2⟩
      ·exact .inl q
      grind [List.mem_map.2,hD]
     have hSub:dH (cH (hD c0).2 ((hD c1::(rest.map hD).take w).map (·.2))) c.g:=fun o x hx=>by
      grind
     have hOnly:re (cH (hD c0).2 ((hD c1::(rest.map hD).take w).map (·.2))):=fun o x hx=>by
      grind
     have e0:JI o.op (fun ty x=>lD (gm t x) fun x=>oT E.E.P ty x (eR (hD c0).1 (hD c1::(rest.map hD).take w)) (hD c0).2 ((hD c1::(rest.map hD).take w).map (·.2)) fun d=>κ t (.g d)) (jr o.op E false t (eR (hD c0).1 (hD c1::(rest.map hD).take w)) (cH (hD c0).2 ((hD c1::(rest.map hD).take w).map (·.2))) (fun t x=>oI (fun t x _ _=>κ t x) t x))=some out:=by
      simp_all
     rcases JH e0 with⟨ty,x,bo,bn,bi,bc,hop,hev,eb⟩|e'
     ·obtain⟨d,g1,g2,g3,g4,g5⟩:=JG eb
      have all:∀(q:Nat) d',(c0::c1::rest)[q]? = some d'->q<=w+1->IJ d'.g.H d=true/\∃ v,cD o.op E.E tv d'.g.s=some (.val v d'.g.s)/\RD d'.g d v:=fun q d' hd hq=>by
       have hf:IJ d'.g.H d=true/\∀ κ':D->ag,ft E.E.P ty (.bptr bo bn bi bc) d'.g.H κ'=κ' d:=by
        grind [List.mem_map.2,hD]
       refine⟨hf.1,?_⟩
       obtain⟨⟨m1,m2⟩,_⟩:=hh.at hd
       have e2:jr o.op E false t d'.L d'.g.H (fun _ y=>open Classical in if y=.val (.g d) d'.L d'.g.H then some out else none)=some out:=by
        grind [jr,lD,jx]
       obtain⟨t',dd,v,n1,n2,n3,_⟩:=li o.op hk (.inl hns) (fun x hx=>hs.op hx hd (by simp only[List.length_cons]at hb hw ⊢;omega)) m1 m2.2 (dH.refl _) e2
       split at n1
       ·rename_i q1
        obtain⟨rfl,_⟩:=xd.val.inj q1
        exact⟨v,n2,n3⟩
       ·cases n1
      obtain⟨f1,v,f2,f3⟩:=all (w+1) c hc (Nat.le_refl _)
      obtain⟨r1,r2⟩:=RS.same_at (x:=.g d) hh hc f3
      refine⟨t,.g d,v,g1,?_,.refl t tv,r1,fun p c' hc' hp'=>r2 p c' hc' (by omega)⟩
      refine jn (by simp) fun s hs'=>?_
      obtain⟨q,hq⟩:=List.getElem?_of_mem hs'
      rw[List.getElem?_take]at hq
      split at hq
      ·rename_i hql
       rw[List.getElem?_map]at hq
       cases hd:(c0::c1::rest)[q]? with
       |none=>rw[hd]at hq;cases hq
       |some d' =>
        rw[hd]at hq
        cases hq
        obtain⟨f4,v',f5,f6⟩:=all q d' hd (by omega)
        rw[Oj (hh.two hd hc (by omega)).1.le f1 f4 f3 f6]
        exact f5
      ·cases hq
     obtain⟨t',d,v,k1,k2,k3,k4⟩:=li o.op hk (.inl hns) ho h1 hLw hSub e'
     obtain⟨r1,r2⟩:=k3.same_at hh hc
     refine⟨t',d,v,k1,?_,k4,r1,fun p c' hc' hp'=>r2 p c' hc' (by omega)⟩
     refine jn (by simp) fun s hs'=>?_
     obtain⟨q,hq⟩:=List.getElem?_of_mem hs'
     rw[List.getElem?_take]at hq
     split at hq
     ·rename_i hql
      rw[List.getElem?_map]at hq
      cases hd:(c0::c1::rest)[q]? with
      |none=>rw[hd]at hq;cases hq
      |some d' =>
       rw[hd]at hq
       cases hq
       have hn:=hh.two hd hc (by omega)
       refine yp (g':=d'.g) o.op hk ho h1 hLw hSub hOnly e' hn.1.le (fun k y f hy hf hne=>?_) (fun o' st cs f v hx hO=>?_) v k2
       ·obtain⟨st,y⟩:=y
        obtain⟨c2,m1⟩:=key hy hne (w+1) c hc (Nat.le_refl _) f hf
        obtain⟨qq,hpre⟩:=hn.2.pre
        obtain⟨c3,m2⟩:=key hy hne q d' hd (by omega) f (by rw[<- hpre];exact dT _ hf)
        obtain⟨st',cs',j1,j2,j3⟩:=hn.2.pvn k st c2 f m1 hf
        rw[m2]at j1
        cases j1
        exact(j3 rfl).2
       ·rcases heap hx with q'|⟨st',cs',q1,q2⟩
        ·cases q'
        ·cases q1
         obtain⟨s2,c2,j1,j2,j3⟩:=hn.1.stm o' st cs f v (q2 (w+1) c hc (Nat.le_refl _)) hO
         rw[q2 q d' hd (by omega)]at j1
         cases j1
         exact(j3 rfl).2
     ·cases hq
end Go.AI
set_option linter.all false
noncomputable section
namespace Go.AI
variable[fj]
variable{b:Nat}{P0:List Nat}{g:Gh}{LO:List Nat}{t:T LD}{L:LS}{tv:T V}{out:hJ}{E:cu}{an:gF}{rec:nU}
theorem By{κ:T LD->LD->LS->DH->ag}{x:xd}(h:oI κ t x=some out):∃ d L' H',x=.val d L' H'/\κ t d L' H'=some out:=by
 unfold oI at h
 grind
theorem FI.cfg(h:FI b P0 g t L tv LO):FC ⟨L,g,LO⟩:=⟨h.ok,h.own⟩
theorem FI.sl(h:FI b P0 g t L tv LO){cs:List fg}{bs:T Nat}{t':T LD}(hs:pt cs bs t' tv g LO):FI b P0 g t' L tv LO:=⟨h.ok,fun i x hx=>by obtain⟨v,h1,h2,_⟩:=hs i x hx;exact⟨v,h1,h2⟩,h.own,h.pv,h.low,h.nd,h.bl⟩
theorem pt.of(h:xP g LO t tv)(bs:T Nat):pt [⟨L,g,LO⟩] bs t tv g LO:=fun i x hx=>by
 obtain⟨v,h1,h2⟩:=h i x hx
 refine⟨v,h1,h2,fun p c hc _=>?_⟩
 grind
theorem La{o:Oper}(h:cuts an o=true){s s':S}{v:V}(k:cD o.op E.E tv s=some (.val v s')):s'=s:=by
 unfold cuts at h
 split at h
 ·rename_i hop
  rw[hop]at k
  simp only[cD,bg]at k
  split at k
  ·cases k;rfl
  ·cases k
 ·cases h
def IB(b:Nat)(P0:List Nat)(g:Gh)(k:T LD->LS->DH->ag)(kp:List ff->T LD->LS->DH->ag)(dsv:List ec)(upv:Option Md)(out:hJ)(r:ji):Prop :=
 (∃ tv' s',r=.on tv' dsv upv s'/\∃ g' t' L' LO',k t' L' g'.H=some out/\g'.s=s'/\FI b P0 g' t' L' tv' LO'/\Mv b g g') \/
 ∃ c tv' s',r=.panicked c tv' dsv upv s'/\∃ g' t' L' LO' c',kp c' t' L' g'.H=some out/\g'.s=s'/\FI b P0 g' t' L' tv' LO'/\Mv b g g'/\gq g' c' c
theorem IB.trans{g':Gh}(m:Mv b g g'){k:T LD->LS->DH->ag}{kp:List ff->T LD->LS->DH->ag}{dsv:List ec}{upv:Option Md}{r:ji}(h:IB b P0 g' k kp dsv upv out r):IB b P0 g k kp dsv upv out r:=by
 rcases h with⟨tv',s',h0,g2,t',L',LO',h1,h2,h3,h4⟩|⟨c,tv',s',h0,g2,t',L',LO',c',h1,h2,h3,h4,h5⟩
 ·exact .inl ⟨tv',s',h0,g2,t',L',LO',h1,h2,h3,m.trans h4⟩
 ·exact .inr ⟨c,tv',s',h0,g2,t',L',LO',c',h1,h2,h3,m.trans h4,h5⟩
theorem FI.drop{g:Gh}{t:T LD}{L:LS}{tv:T V}{LO:List Nat}(h:FI b P0 g t L tv LO)(d:Tmp):FI b P0 g (t.setQ none (et d) id) L (CR tv (some d)) LO:=by
 refine⟨h.ok,fun i x hx=>?_,h.own,h.pv,h.low,h.nd,h.bl⟩
 rw[T.setQ_eq]at hx
 simp only[CR,T.setK_eq,id]at hx ⊢
 rw[T.get_setN]at hx ⊢
 split at hx
 ·cases hx
 ·rename_i e;rw[if_neg e];exact h.slots i x hx
theorem oJ(hrec:Fy E.E rec){ops:Array Oper}{k:T LD->LS->DH->ag}{kp:List ff->T LD->LS->DH->ag}{dsv:List ec}{upv:Option Md}:∀ {sc:List (Option Nat×Nat)} {cs:List fg} {n:Nat} {bs:T Nat} {t:T LD} {L:LS} {g:Gh} {LO:List Nat} {tv:T V},
 fQ E an ops rec k kp sc (cs.map hD) n bs t L g.H=some out->n=cs.length->FI b P0 g t L tv LO->il b ⟨L,g,LO⟩ cs->pt cs bs t tv g LO ->
 ∃ r,gx E.E ops (bp (lim E.E)) dsv upv sc (cs.map fun c=>c.g.s) tv g.s=some r/\IB b P0 g k kp dsv upv out r
 |[],cs,n,bs,t,L,g,LO,tv,e,hn,h,hh,hs=>⟨_,rfl,.inl ⟨tv,g.s,rfl,g,t,L,LO,e,rfl,h,.refl b g⟩⟩
 |(c,i)::sc,cs,n,bs,t,L,g,LO,tv,e,hn,h,hh,hs=>by
  simp only[fQ]at e
  simp only[gx]
  split at e
  ·cases e
  ·rename_i o ho
   (try rw[ho])
   (try simp only)
   have on:∀ {t1:T LD} {x:LD} {v:V} {m:Nat} {L1:LS} {g1:Gh} {LO1:List Nat},FI b P0 g1 t1 L1 tv LO1->tj b ⟨L,g,LO⟩ ⟨L1,g1,LO1⟩->pt cs bs t1 tv g LO->RS g1 LO1 x v->(∀(p:Nat) c,cs[p]? = some c->m+p<cs.length->RS c.g c.LO x v) ->
    fQ E an ops rec k kp sc (cs.map hD) n (yj bs o.dst m) (lh t1 o.dst x) L1 g1.H=some out ->
    ∃ r,gx E.E ops (bp (lim E.E)) dsv upv sc (cs.map fun c=>c.g.s) (putD tv o.dst v) g1.s=some r/\IB b P0 g k kp dsv upv out r:=fun {t1 x v m L1 g1 LO1} h1 hx hs1 hr hm e1=>by
    have hs2:pt cs bs t1 tv g1 LO1:=pt.nxt (x:=⟨L,g,LO⟩) (y:=⟨L1,g1,LO1⟩) hx hs1
    obtain⟨r,k1,k2⟩:=oJ hrec e1 hn (h1.put o.dst hr) (hh.step hx) (hs2.put o.dst hr hm)
    exact⟨r,k1,k2.trans hx.1⟩
   have on2:∀ {t1:T LD} {x:LD} {v:V} {L1:LS} {g1:Gh} {LO1:List Nat} {m:Nat},FI b P0 g1 t1 L1 tv LO1->tj b ⟨L,g,LO⟩ ⟨L1,g1,LO1⟩->pt cs bs t1 tv g LO->RS g1 LO1 x v->(∀(p:Nat) c,(⟨L1,g1,LO1⟩::cs)[p]? = some c->m+p<cs.length+1->RS c.g c.LO x v) ->
    fQ E an ops rec k kp sc ((L1,g1.H)::cs.map hD) (n+1) (yj bs o.dst m) (lh t1 o.dst x) L1 g1.H=some out ->
    ∃ r,gx E.E ops (bp (lim E.E)) dsv upv sc (g1.s::cs.map fun c=>c.g.s) (putD tv o.dst v) g1.s=some r/\IB b P0 g k kp dsv upv out r:=fun {t1 x v L1 g1 LO1 m} h1 hx hs1 hr hm e1=>by
    have hs2:pt cs bs t1 tv g1 LO1:=pt.nxt (x:=⟨L,g,LO⟩) (y:=⟨L1,g1,LO1⟩) hx hs1
    have hs3:pt (⟨L1,g1,LO1⟩::cs) bs t1 tv g1 LO1:=pt.push (c:=⟨L1,g1,LO1⟩) hs2
    obtain⟨r,k1,k2⟩:=oJ hrec (cs:=⟨L1,g1,LO1⟩::cs) e1 (by simp[hn]) (h1.put o.dst hr) ⟨h1.cfg,.refl b _,hh.step hx⟩ (hs3.put o.dst hr hm)
    exact⟨r,k1,k2.trans hx.1⟩
   cases c with
   |some c =>
    simp only at e
    rcases ur e h.slots with⟨hw,t1,e,hr⟩|⟨hw,t1,e,hr⟩
    ·have hs1:=hs.rf hr
     have h1:=h.sl hs1
     rw[hw]
     simp only[iT]
     cases hk:aA E.E.P o.op with
     |zero =>
      rw[hk]at e
      simp only[pc]at e
      cases hq:cuts an o with
      |true =>
       rw[hq]at e
       dsimp only at e
       obtain⟨t2,x,nx,e,k1,k2,k3⟩:=zX o.op h1 e
       have hs2:=hs1.rf k2
       obtain⟨d,L',H',hx',e'⟩:=By e
       subst hx'
       clear e
       obtain⟨v,s',rfl,g1,LO1,m1,m2,m3,m4,m5,m6⟩:=k3
       obtain rfl:=La hq k1
       have m3:=m3.rf k2
       rw[<- m1]at e'
       have e:=e'
       obtain⟨x',g2,j1,j2,j3,j4,j5,j6⟩:=eF m3 e m6
       rw[cj,eW]at j1
       have hx:tj b ⟨L,g,LO⟩ ⟨L',g2,LO1⟩:=tj.trans (y:=⟨L',g1,LO1⟩) ⟨m4,m5⟩ ⟨j4,.ps j2⟩
       grind [kn,cP,pA,ce]
      |false =>
      rw[hq]at e
      dsimp only at e
      obtain⟨t2,d,v,e,k1,k2,k3,k4⟩:=EL hk h1.ok hh hs1 e
      have hs2:=hs1.rf k2
      have h2:=h1.sl hs2
      simp only[oI]at e
      obtain⟨x',g2,j1,j2,j3,j4,j5,j6⟩:=eF h2 e k3
      rw[cj,eW]at j1
      have hx:tj b ⟨L,g,LO⟩ ⟨L,g2,LO⟩:=⟨j4,.ps j2⟩
      grind [kn,cP,pA,ce]
     |succ q =>
      cases q with
      |zero =>
       have hns:∀ ty x lo hi mx,o.op≠.slice ty x lo hi mx:=fun _ _ _ _ _ q=>by rw[q]at hk;simp[aA]at hk
       rw[hk]at e
       simp only[pc]at e
       obtain⟨hc,e⟩:=ay e
       simp only[Bool.and_eq_true]at hc
       subst hn
       have hfl:∀ {κ:T LD->LD->ag},(match om an o.dst with|true=>uP|false=>uQ) E o ((cs.map hD).take c) t1 κ=some out->∃ t' d v,κ t' d=some out/\eV E.E tv o ((cs.map fun c=>c.g.s).take c)=some v/\Rf t1 t' tv/\RS g LO d v/\∀(p:Nat) c',cs[p]? = some c'->cs.length - c+p<cs.length->RS c'.g c'.LO d v:=fun {κ} e=>by
        cases hx:om an o.dst
        ·rw[hx]at e
         exact EK (by omega) hns hh hs1 (Nat.le_of_ble_eq_true hc.2) (Nat.le_of_ble_eq_true hc.1) e
        ·rw[hx]at e
         exact EJ (by omega) hns hh hs1 (Nat.le_of_ble_eq_true hc.2) (Nat.le_of_ble_eq_true hc.1) e
       obtain⟨t2,d,v,e,k1,k2,k3,k4⟩:=hfl e
       have hs2:=hs1.rf k2
       have h2:=h1.sl hs2
       obtain⟨x',g2,j1,j2,j3,j4,j5,j6⟩:=eF h2 e k3
       rw[cj,eW]at j1
       have hx:tj b ⟨L,g,LO⟩ ⟨L,g2,LO⟩:=⟨j4,.ps j2⟩
       grind [kn,pV]
      |succ q =>
       cases q with
       |zero =>
        rw[hk]at e
        simp only[pc]at e
        obtain⟨t2,x,nx,e,k1,k2,k3⟩:=zX o.op h1 e
        have hs2:=hs1.rf k2
        obtain⟨d,L',H',hx',e'⟩:=By e
        subst hx'
        clear e
        obtain⟨v,s',rfl,g1,LO1,m1,m2,m3,m4,m5,m6⟩:=k3
        have m3:=m3.rf k2
        rw[<- m1]at e'
        have e:=e'
        obtain⟨x',g2,j1,j2,j3,j4,j5,j6⟩:=eF m3 e m6
        rw[cj,eW]at j1
        have hx:tj b ⟨L,g,LO⟩ ⟨L',g2,LO1⟩:=tj.trans (y:=⟨L',g1,LO1⟩) ⟨m4,m5⟩ ⟨j4,.ps j2⟩
        grind [kn,cP,tK,ce]
       |succ q=>rw[hk]at e;simp only[pc]at e;cases e
    ·have hs1:=hs.rf hr
     have h1:=h.sl hs1
     rw[hw]
     simp only[iT]
     rw[cj,eW]at e
     exact on h1 (.refl b _) hs1 RS.u (fun p c _ _=>rfl) e
   |none =>
    simp only at e
    rcases ur e h.slots with⟨hw,t1,e,hr⟩|⟨hw,t1,e,hr⟩
    ·have hs1:=hs.rf hr
     have h1:=h.sl hs1
     rw[hw]
     obtain⟨t2,x,nx,e,k1,k2,k3⟩:=zX o.op h1 e
     have hs2:=hs1.rf k2
     have h2:=h1.sl hs2
     simp only[gb,cP,k1]
     have born:∀ {L1:LS} {g1:Gh} {LO1:List Nat} {x:LD} {v:V},RS g1 LO1 x v->∀(p:Nat) c,(⟨L1,g1,LO1⟩::cs)[p]? = some c->n+p<cs.length+1->RS c.g c.LO x v:=fun {L1 g1 LO1 x v} hr p c hc hp=>by
      grind
     cases x with
     |val d L' H' =>
      obtain⟨v,s',rfl,g1,LO1,m1,m2,m3,m4,m5,m6⟩:=k3
      have m3:=m3.rf k2
      simp only[AN,<- m1]at e
      obtain⟨x',g2,j1,j2,j3,j4,j5,j6⟩:=eF m3 e m6
      rw[cj,eW]at j1
      have hx:tj b ⟨L,g,LO⟩ ⟨L',g2,LO1⟩:=tj.trans (y:=⟨L',g1,LO1⟩) ⟨m4,m5⟩ ⟨j4,.ps j2⟩
      have:=on2 j3 hx hs2 j5 (born j5) j1
      rw[j2,m2]at this
      have hnx:Nat.ble g.s.next s'.next=true:=Nat.ble_eq_true_of_le (by rw[<- m2];exact m4.le.next)
      obtain⟨r,a1,a2⟩:=this
      exact⟨r,by simp only[iY,hnx,cond_true];exact a1,a2⟩
     |skip L' H' =>
      obtain⟨s',rfl,g1,LO1,m1,m2,m3,m4,m5,_⟩:=k3
      have m3:=m3.rf k2
      simp only[AN,<- m1]at e
      obtain⟨x',g2,j1,j2,j3,j4,j5,j6⟩:=eF (x:=.u) (v:=V.undef) m3 e RS.u
      rw[cj,eW]at j1
      have hx:tj b ⟨L,g,LO⟩ ⟨L',g2,LO1⟩:=tj.trans (y:=⟨L',g1,LO1⟩) ⟨m4,m5⟩ ⟨j4,.ps j2⟩
      have:=on2 j3 hx hs2 j5 (born j5) j1
      rw[j2,m2]at this
      have hnx:Nat.ble g.s.next s'.next=true:=Nat.ble_eq_true_of_le (by rw[<- m2];exact m4.le.next)
      obtain⟨r,a1,a2⟩:=this
      exact⟨r,by simp only[iY,hnx,cond_true];exact a1,a2⟩
     |enter f args L' H' =>
      obtain⟨vs,rfl,rfl,rfl,q1,_⟩:=k3
      simp only[AN]at e
      obtain⟨oc,hoc,e⟩:=kD e
      obtain⟨vout,m1,m2⟩:=hrec.c f args none g.H oc hoc g rfl h2.ok vs none q1 rfl
      have hkeep:=m2
      obtain⟨g1,n1,n2,n3,n4,n5,_,hpv⟩:=kC h2 m2
      obtain⟨ve,vu,vs'⟩:=vout
      simp only at n2 n5
      rcases e with⟨d,hd1,e⟩|⟨c,hd1,e⟩
      ·rw[hd1]at n5
       obtain⟨v,rfl,n6⟩:=n5
       rw[<- n1]at e
       obtain⟨x',g2,j1,j2,j3,j4,j5,_⟩:=eF (x:=.g d) n3 e n6
       rw[cj,eW]at j1
       have hx:tj b ⟨L',g,LO⟩ ⟨L',g2,LO⟩:=tj.trans (y:=⟨L',g1,LO⟩) ⟨n4,hpv⟩ ⟨j4,.ps j2⟩
       have:=on2 j3 hx hs2 j5 (born j5) j1
       rw[j2,n2]at this
       have hnx:Nat.ble g.s.next vs'.next=true:=Nat.ble_eq_true_of_le (by rw[<- n2];exact n4.le.next)
       obtain⟨r,a1,a2⟩:=this
       have m1':bp (lim E.E) f vs none g.s=some ⟨.returned v,vu,vs'⟩:=m1
       exact⟨r,by simp only[iY,m1',lG,hnx,cond_true];exact a1,a2⟩
      ·rw[hd1]at n5
       obtain⟨c',rfl,n6⟩:=n5
       have m1':bp (lim E.E) f vs none g.s=some ⟨.panicked c',vu,vs'⟩:=m1
       cases sc with
       |cons x sc=>cases e
       |nil =>
        simp only[iY,m1',lG]
        refine⟨_,rfl,.inr ⟨c',_,vs',rfl,g1,?_⟩⟩
        rw[<- n1]at e
        simp only at e
        split at e
        rotate_left
        ·cases e
        cases ho2:o.dst with
        |some d =>
         rw[ho2]at e
         simp only[GK,T.setQ_eq]at e
         have:=n3.drop d
         rw[T.setQ_eq]at this
         exact⟨_,_,_,c,e,n2,this,n4,n6⟩
        |none =>
         rw[ho2]at e
         exact⟨_,_,_,c,e,n2,n3,n4,n6⟩
     |defer _ _ _=>simp only[AN]at e;cases e
     |recover _ _=>simp only[AN]at e;cases e
     |panic _ _ _=>simp only[AN]at e;cases e
     |round _ _ _ _=>simp only[AN]at e;cases e
    ·have hs1:=hs.rf hr
     have h1:=h.sl hs1
     rw[hw]
     rw[cj,eW]at e
     have:=on2 h1 (.refl b _) hs1 (x:=.u) (v:=V.undef) RS.u (fun p c _ _=>rfl) e
     obtain⟨r,a1,a2⟩:=this
     exact⟨r,by simp only[gb,Nat.ble_eq_true_of_le (Nat.le_refl _),cond_true];exact a1,a2⟩
end Go.AI
set_option linter.all false
noncomputable section
namespace Go.AI
variable[fj]
variable{b:Nat}{P0:List Nat}{g:Gh}{LO:List Nat}{t:T LD}{L:LS}{tv:T V}{out:hJ}{E:cu}{an:gF}{rec:nU}
structure LB(E:cu):Prop where
 no:∀ f,E.vo f=false->∀ vs s,E.E.orc f vs s=none
 yes:∀ f args H d H',E.orc f args H=some (d,H')->∀ g:Gh,g.H=H->Ok g->∀ vs,RL g args vs->∃ vout,lim E.E (.call f vs none) g.s=some vout/\iD g.s.next g.Pv g ⟨.ret d,none,H'⟩ vout
def IP(E:cu)(f:FuncId)(fn:Func)(go:rj):Prop:=∀ t L todo ds m up H out,go t L todo ds m up H=some out->∀ b P0 (g:Gh) tv LO dsv mv upv rdv,g.H=H->FI b P0 g t L tv LO->DE g ds dsv->IN g m mv->pq g up upv rdv ->
 ∃ vout,lim E.E (.frame f fn tv todo dsv mv upv rdv) g.s=some vout/\iD b P0 g out vout
structure Bn(E:cu)(R:bv):Prop where
 call:Fy E.E (uO R)
 frame:∀ f fn,IP E f fn (II R f fn)
theorem iD.trans{g':Gh}{vout:eG}(m:Mv b g g')(h:iD b P0 g' out vout):iD b P0 g out vout:=by
 obtain⟨g2,h1,h2,h3,h4,h5,h6⟩:=h
 exact⟨g2,h1,h2,h3,h4,m.trans h5,h6⟩
theorem uD:∀ {l:List Nat} {κ:List LD->ag},uE t l κ=some out->∃ xs,κ xs=some out/\xs.length=l.length/\∀(k:Nat) i,l[k]? = some i->xs[k]? = t.get (et i)
 |[],κ,h=>⟨[],h,rfl,fun k i hk=>by simp at hk⟩
 |j::r,κ,h=>by
  simp only[uE]at h
  unfold lD at h
  split at h
  ·rename_i x hx
   obtain⟨xs,h1,h2,h3⟩:=uD h
   grind
  ·cases h
theorem Gu:∀ {l:List Nat} {xs:List LD} {u:T LD} {i:Nat} {x:LD},(Oc l xs u).get (et i)=some x->(∃(k:Nat),l[k]? = some i/\xs[k]? = some x)\/u.get (et i)=some x
 |[],xs,u,i,x,h=>by cases xs<;>exact .inr h
 |j::r,[],u,i,x,h=>.inr h
 |j::r,y::xs,u,i,x,h=>by
  simp only[Oc]at h
  rcases Gu h with⟨k,h1,h2⟩|h
  ·exact .inl ⟨k+1,by simpa using h1,by simpa using h2⟩
  ·rw[T.setQ_eq,id,T.get_setN]at h
   split at h
   ·rename_i e;cases h;exact .inl ⟨0,by simp[e],rfl⟩
   grind
theorem Cm{ks:List Nat}:∀ {L:LS} {i k:Nat} {x:Nat×List D},(qu ks i L)[k]? = some x->∃ st cs,L[k]? = some (st,cs)/\(x.2=[]\/x.2=cs)
 |[],i,k,x,h=>by simp[qu]at h
 |(st,cs)::r,i,0,x,h=>by
  grind [qu]
 |(st,cs)::r,i,k+1,x,h=>by
  simp only[qu,List.getElem?_cons_succ]at h
  obtain⟨s2,c2,h1,h2⟩:=Cm h
  grind
theorem yH{ks:List Nat}:∀ {L:LS} {i:Nat},(qu ks i L).length=L.length
 |[],_=>rfl
 |(_,_)::r,i=>by simp[qu,yH (L:=r)]
def Gh.pvd(g:Gh)(P0:List Nat):Gh:=⟨g.O,g.H,P0,g.s⟩
theorem Ap(hs:∀ f∈P0,f∈g.Pv):lY g (g.pvd P0):=⟨Nat.le_refl _,fun _ _ v h=>⟨v,h⟩,fun _ _ st cap l h=>.inr ⟨st,cap,l,h,Nat.le_refl _,id,fun _=>⟨rfl,rfl⟩⟩,fun _ _ s l h=>⟨s,l,h,Nat.le_refl _,fun _=>⟨rfl,rfl⟩⟩,fun _ h=>⟨h.1,fun hm=>h.2.1 (hs _ hm),h.2.2⟩,fun _ _ _ _ h=>h,Nat.le_refl _⟩
theorem Ce{n:Nat}:∀ {xs:List LD} {i k c:Nat},yy n xs=true->xs[i]? = some (.lp k c)->k<n
 |x::r,0,k,c,h,hi=>by
  simp_all[yy,Bool.and_eq_true,mX]
 |x::r,i+1,k,c,h,hi=>by
  simp only[yy,Bool.and_eq_true]at h
  exact Ce h.2 (i:=i) (by simpa using hi)
 |[],i,k,c,h,hi=>by simp at hi
theorem Ok.pvd(h:Ok g)(hs:∀ f∈P0,f∈g.Pv):Ok (g.pvd P0):=⟨h.len,h.wf,h.inj,fun o f v ho=>⟨(h.lt o f v ho).1,fun hm=>(h.lt o f v ho).2 (hs f hm)⟩,fun f hf=>h.pv f (hs f hf),fun o x hx=>(h.obj o x hx).keep (Ap hs) rfl fun _ _ _=>rfl,h.gl.to fun f h1 hp ho=>⟨rfl,h1,fun hm=>hp (hs f hm),ho⟩⟩
theorem Mv.pvd(hs:∀ f∈P0,f∈g.Pv):Mv b g (g.pvd P0):=⟨Ap hs,fun _ _ _=>rfl,fun _ _ v h _=>⟨v,h⟩,fun _ s1 c1 _ _ h _=>⟨s1,c1,h,Nat.le_refl _,fun _=>⟨rfl,rfl⟩⟩⟩
theorem Id{f:FuncId}{fn:Func}{ih go:rj}(h1:IP E f fn ih)(h2:IP E f fn go):IP E f fn (Da an ih go):=by
 intro t L todo ds m up H out e b P0 g tv LO dsv mv upv rdv hH hf hd hm hu
 have hgo:go t L todo ds m up H=some out->∃ vout,lim E.E (.frame f fn tv todo dsv mv upv rdv) g.s=some vout/\iD b P0 g out vout:=fun e=>h2 _ _ _ _ _ _ _ _ e b P0 g tv LO dsv mv upv rdv hH hf hd hm hu
 unfold Da at e
 split at e
 ·split at e
  ·rename_i live ks _
   obtain⟨xs,e,_,hx⟩:=uD e
   cases hlp:yy (mC ks) xs with
   |false=>rw[hlp]at e;cases e
   |true =>
   rw[hlp]at e
   dsimp only at e
   have hs:∀ f∈P0++LO.take (mC ks),f∈g.Pv:=fun f hf'=>by
    rw[hf.pv]
    grind
   have hle:=Ap (g:=g) hs
   have hfi:FI b P0 (g.pvd (P0++LO.take (mC ks))) (Oc live xs .leaf) (qu ks 0 (L.take (mC ks))) tv (LO.take (mC ks)):=by
    refine⟨hf.ok.pvd hs,fun i x hi=>?_,⟨by rw[yH,List.length_take,List.length_take,hf.own.1],fun k x f' hk hf'=>?_⟩,rfl,fun f hf'=>hf.low f (List.mem_of_mem_take hf'),hf.nd.sublist (List.take_sublist _ _),hf.bl⟩
    ·rcases Gu hi with⟨k,q1,q2⟩|q
     ·have q3:=q2
      rw[hx k i q1]at q2
      obtain⟨v,q4,q5⟩:=hf.slots i x q2
      refine⟨v,q4,?_⟩
      cases x with
      |g d=>exact RD.mono hle q5
      |lp k' c =>
       obtain⟨f,q6,q7⟩:=q5
       exact⟨f,by rw[List.getElem?_take_of_lt (Ce hlp q3)];exact q6,q7⟩
      |u=>exact q5
     grind [T.get_leaf]
    ·obtain⟨st,cs,q1,q2⟩:=Cm hk
     have hlt:k<mC ks:=by
      grind
     rw[List.getElem?_take_of_lt hlt]at q1
     have hf2:=hf'
     rw[List.getElem?_take_of_lt hlt]at hf2
     obtain⟨q3,q4⟩:=hf.own.2 k _ f' q1 hf2
     refine⟨List.mem_append_right _ (List.mem_of_getElem? hf'),?_⟩
     rcases q2 with q2|q2
     ·exact .inl q2
     ·rw[q2]
      rcases q4 with q4|⟨el,vs,w1,w2,w3⟩
      ·exact .inl q4
      ·exact .inr ⟨el,vs,w1,w2.mono hle,w3⟩
   obtain⟨vout,k1,k2⟩:=h1 _ _ _ _ _ _ _ _ e b P0 (g.pvd (P0++LO.take (mC ks))) tv _ dsv mv upv rdv hH hfi (hd.mono hle) (hm.mono hle) (hu.mono hle)
   exact⟨vout,k1,k2.trans (Mv.pvd hs)⟩
  ·exact hgo e
 ·exact hgo e
theorem Ms{up:Option eB}{upv:Option Md}{rdv:Option Nat}(h:pq g up upv rdv):IA g (JS up) upv:=by
 unfold pq at h
 unfold JS
 split
 ·simp only at h;exact h.1
 grind
theorem FI.leave(h:FI b P0 g t L tv LO){e:LF}{ve:Sl}{up:Option eB}{upv:Option Md}(he:QH g e ve)(hu:IA g up upv):iD b P0 g ⟨e,up,g.H⟩ ⟨ve,upv,g.s⟩:=by
 have hs:∀ f∈P0,f∈g.Pv:=fun f hf=>by rw[h.pv];exact List.mem_append_left _ hf
 have hle:=Ap (g:=g) hs
 refine⟨g.pvd P0,rfl,rfl,rfl,h.ok.pvd hs,Mv.pvd hs,?_,hu.mono hle⟩
 cases e with
 |ret d=>obtain⟨v,h1,h2⟩:=he;exact⟨v,h1,h2.mono hle⟩
 |pan c=>obtain⟨c',h1,h2⟩:=he;exact⟨c',h1,h2.mono hle⟩
theorem mi{P:Program}(h:FI b P0 g t L tv LO):∀ {l:List ResultVar} {κ:List D->ag},mj P t L g.H l κ=some out->∃ ds vs,κ ds=some out/\jm P tv g.s l=some vs/\RL g ds vs
 |[],κ,e=>⟨[],[],e,rfl,by simp only[RL]⟩
 |x::r,κ,e=>by
  simp only[mj]at e
  cases x with
  |tmp i =>
   simp only at e
   unfold gD at e
   split at e
   ·rename_i d hd
    obtain⟨v,h1,h2⟩:=h.slots i _ hd
    have h2:RD g d v:=h2
    obtain⟨ds,vs,k1,k2,k3⟩:=mi h e
    grind [only,jm,ns,RL]
   ·cases e
  |cell a ty =>
   simp only at e
   unfold lD at e
   split at e
   ·rename_i y hy
    obtain⟨w,h1,h2⟩:=h.slots a _ hy
    obtain⟨d,v,e,k1,k2⟩:=Cg e (dH.refl g) h.ok h.own.2 h2
    obtain⟨ds,vs,j1,j2,j3⟩:=mi h e
    grind [only,RL,ig,Option.some.inj,bg,jm,ns]
   ·cases e
theorem FW:∀ {l:List (Nat×Nat×Hk)} {g:Gh} {ds:List D} {vs:List V} {κ:List D->DH->ag},FI b P0 g t L tv LO->Mk l ds g.H κ=some out->RL g ds vs->∃ ds' g',κ ds' g'.H=some out/\g'.s=g.s/\FI b P0 g' t L tv LO/\Mv b g g'/\RL g' ds' vs
 |[],g,ds,vs,κ,h,e,r=>⟨ds,g,e,rfl,h,.refl b g,r⟩
 |(i,c,k)::l,g,ds,vs,κ,h,e,r=>by
  simp only[Mk]at e
  obtain⟨d,hd,e⟩:=iB e
  obtain⟨v,hv,h1⟩:=r.at hd
  obtain⟨d',g',k1,k2,k3,k4,k5⟩:=vP h e h1
  have hr:RL g' (ds.set i d') vs:=by
   have:=(r.mono k4.le).set i k5
   grind [jO]
  obtain⟨ds2,g2,j1,j2,j3,j4,j5⟩:=FW k3 k1 hr
  exact⟨ds2,g2,j1,j2.trans k2,j3,k4.trans j4,j5⟩
theorem OY{ds:List D}{vs:List V}(r:RL g ds vs):RD g (JU ds) (uZ vs):=by
 cases ds with
 |nil=>simp only[RL]at r;subst r;simp only[JU,uZ,RD];exact⟨[],rfl,by simp only[RL]⟩
 |cons d ds =>
  have r0:=r
  simp only[RL]at r
  obtain⟨v,vs',rfl,h1,h2⟩:=r
  cases ds with
  |nil=>simp only[RL]at h2;subst h2;exact h1
  |cons d2 ds =>
   simp only[RL]at h2
   obtain⟨v2,vs2,rfl,_,_⟩:=h2
   grind [JU,uZ,RD]
def tO:eB->eB
 |.panicking (⟨_,true⟩::_)=>.returning
 |m=>m
def zW(m:eB)(c:List ff):eB:=match m with
 |.panicking old=>.panicking (c++old)
 |_=>.panicking c
theorem Jq{m:eB}{m':Md}(h:IN g m m'):IN g (tO m) (io m'):=by
 cases m with
 |run=>cases h;rfl
 |returning=>cases h;rfl
 |round _=>exact h.elim
 |panicking c =>
  obtain⟨c',rfl,h1⟩:=h
  cases c with
  |nil=>cases h1;exact⟨[],rfl,rfl⟩
  |cons x xs =>
   obtain⟨y,c2,rfl,h2,h3,h4⟩:=h1
   obtain⟨xv,xr⟩:=x
   obtain⟨yv,yr⟩:=y
   simp only at h3
   subst h3
   cases xr with
   |true=>rfl
   |false=>exact⟨_,rfl,⟨yv,false⟩,c2,rfl,h2,rfl,h4⟩
theorem gq.app:∀ {a:List ff} {a':List Bq} {c:List ff} {c':List Bq},gq g a a'->gq g c c'->gq g (a++c) (a'++c')
 |[],_,c,c',h,k=>by cases h;exact k
 |x::r,_,c,c',h,k=>by
  obtain⟨y,r',rfl,h1,h2,h3⟩:=h
  exact⟨y,r'++c',rfl,h1,h2,h3.app k⟩
theorem JJ{m:eB}{m':Md}{c:List ff}{c':List Bq}(h:IN g m m')(k:gq g c c'):IN g (zW m c) (pY m' c'):=by
 cases m with
 |run=>cases h;exact⟨c',rfl,k⟩
 |returning=>cases h;exact⟨c',rfl,k⟩
 |round _=>exact h.elim
 |panicking old =>
  obtain⟨o',rfl,h1⟩:=h
  exact⟨c'++o',rfl,k.app h1⟩
theorem Pm{m:eB}{m':Md}(h:IN g m m'):m=.run↔m'=.run:=by
 cases m with
 |run=>cases h;exact⟨fun _=>rfl,fun _=>rfl⟩
 |returning=>cases h;exact⟨(fun q=>by cases q),(fun q=>by cases q)⟩
 |panicking c=>obtain⟨c',rfl,_⟩:=h;exact⟨(fun q=>by cases q),(fun q=>by cases q)⟩
 |round _=>exact h.elim
end Go.AI
set_option linter.all false
noncomputable section
namespace Go.AI
variable[fj]
variable{b:Nat}{P0:List Nat}{g:Gh}{LO:List Nat}{t:T LD}{L:LS}{tv:T V}{out:hJ}{E:cu}{an:gF}{rec:nU}
section frame
variable{f:FuncId}{fn:Func}{go:rj}
theorem KN{j:rh}{s:S}{o:Option eG}(h:eJ E.E (lim E.E) j s=o):lim E.E j s=o:=(Ko E.E j s).trans h
def FA(x:DB):Prop:=(∀ sz st cap l,x≠.buf sz st cap l)/\(∀ st cs,x≠.cells st cs)/\∀ sz s l,x≠.tbuf sz s l
theorem oO{o f ver:Nat}{x0 x:DB}{B0 B:dB}(ho:g.O[o]? = some (some (f,ver)))(hx:g.H[o]? = some x0)(hn:FA x0)(h0:g.s.get f=some B0):sF g o x f ver ver x0 B0 B :=
 ⟨ho,hx,h0,⟨(fun _ _ _ _ q=>(hn.1 _ _ _ _ q).elim),fun _ _ _ q=>(hn.2.2 _ _ _ q).elim⟩,(fun a n vs hi q _=>by
  obtain⟨sz,cap,l,k⟩:=hi.2.2 o ver (by rw[q];exact ho)
  rw[hx]at k;exact(hn.1 _ _ _ _ (Option.some.inj k)).elim),(fun _ _ q=>(hn.2.1 _ _ q).elim)⟩
theorem uV{r:Bool}{f nt:Nat}{t:T LD}{ps:Array Tmp}{a b:Code}:FA (.loop r f nt t ps a b):=⟨(fun _ _ _ _ q=>by cases q),(fun _ _ q=>by cases q),(fun _ _ _ q=>by cases q)⟩
theorem Ej:FA .coll:=⟨(fun _ _ _ _ q=>by cases q),(fun _ _ q=>by cases q),(fun _ _ _ q=>by cases q)⟩
theorem vt(hf:FI b P0 g t L tv LO){o l v:Nat}{r:Bool}{f0 nt:Nat}{t0:T LD}{ps:Array Tmp}{a b':Code}(ho:g.O[o]? = some (some (l,v)))(hH:g.H[o]? = some (.loop r f0 nt t0 ps a b')) :
 ∃ tv0 d,g.s.get l=some (.loop (bif r then .ready else .busy) none f0 tv0 ps a b' d nt)/\∀ r2:Bool,∃ g',g'.H=g.H.set o (.loop r2 f0 nt t0 ps a b')/\g'.s=g.s.put l (.loop (bif r2 then .ready else .busy) none f0 tv0 ps a b' d nt)/\FI b P0 g' t L tv LO/\Mv b g g':=by
 obtain⟨fb,tv0,d,h1,h2,h3⟩:=hf.ok.obj o _ hH
 rw[ho]at h1;cases h1
 refine⟨tv0,d,h2,fun r2=>?_⟩
 have c:sF g o (.loop r2 f0 nt t0 ps a b') l 0 0 (.loop r f0 nt t0 ps a b') _ (.loop (bif r2 then .ready else .busy) none f0 tv0 ps a b' d nt):=oO ho hH uV h2
 exact⟨_,rfl,rfl,hf.oput c ⟨l,tv0,d,aR ho,dc,h3.mono (jy hf.ok c) List.prefix_rfl⟩,ir hf.ok c⟩
theorem yF(hgo:IP E f fn go){ds:List pp}{up:Option eB}{c:Option Code}(e:vF go t L ds up g.H c=some out)(hf:FI b P0 g t L tv LO){dsv:List ec}{upv:Option Md}{rdv:Option Nat}(hd:DE g ds dsv)(hu:pq g up upv rdv) :
 ∃ vout,ls (fM (lim E.E) f fn) tv dsv upv rdv g.s c=some vout/\iD b P0 g out vout:=by
 unfold vF at e
 split at e
 ·split at e
  ·rename_i o
   obtain⟨rfl,l,v,rfl,ho⟩:=hu
   unfold uM at e
   split at e
   ·rename_i hH
    cases e
    obtain⟨tv0,d,h2,h3⟩:=vt hf ho hH
    obtain⟨g',k1,k2,k3,k4⟩:=h3 true
    have:=k3.leave (e:=.ret (.bool true)) (ve:=.returned (.bool true)) (up:=none) (upv:=none) ⟨_,rfl,by simp only[RD]⟩ rfl
    rw[k1]at this
    refine⟨_,?_,this.trans k4⟩
    simp only[ls,h2,k2];rfl
   ·cases e
  ·rename_i hn
   have hq:=hu.nr (fun o q=>hn o q)
   clear hu
   obtain⟨rfl,hu⟩:=hq
   exact hgo _ _ _ _ _ _ _ _ e b P0 g tv LO dsv .returning upv none rfl hf hd rfl (pq.mk (fun o q=>hn o q) hu)
 ·obtain⟨hn,e⟩:=ll e
  have hq:=hu.nr hn
  clear hu
  obtain⟨rfl,hu⟩:=hq
  exact hgo _ _ _ _ _ _ _ _ e b P0 g tv LO dsv .returning upv none rfl hf hd rfl (pq.mk hn hu)
 ·cases e
theorem Co(hgo:IP E f fn go){ds:List pp}{up:Option eB}{k:Option (List Item)}(c:Code)(e:yI go t L ds up g.H k=some out)(hf:FI b P0 g t L tv LO){dsv:List ec}{upv:Option Md}{rdv:Option Nat}(hd:DE g ds dsv)(hu:pq g up upv rdv) :
 ∃ vout,oW (fM (lim E.E) f fn) tv dsv upv rdv g.s c k=some vout/\iD b P0 g out vout:=by
 unfold yI at e
 split at e
 ·exact hgo _ _ _ _ _ _ _ _ e b P0 g tv LO dsv .run upv rdv rfl hf hd rfl hu
 ·cases e
theorem Hw(hgo:IP E f fn go)(hrec:Fy E.E rec){k:List Item}{ds:List pp}{up:Option eB}{ps:Array Tmp}{a b':Code}{d:D}{v:V}(e:zU f fn.ntmps go rec k t L ds up g.H ps a b' d=some out)(hf:FI b P0 g t L tv LO){dsv:List ec}{upv:Option Md}{rdv:Option Nat}(hd:DE g ds dsv)(hu:pq g up upv rdv)(h2:RD g d v) :
 ∃ vout,fH f fn.ntmps (fM (lim E.E) f fn) (bp (lim E.E)) k tv dsv upv rdv g.s ps a b' (some v)=some vout/\iD b P0 g out vout:=by
 unfold zU HP at e
 split at e
 ·split at e
  ·rename_i gf first cap
   obtain⟨hn,e⟩:=ll e
   obtain⟨rfl,hu0⟩:=hu.nr hn
   simp only[RD]at h2
   obtain⟨a',c',rfl,j1,j2⟩:=h2
   have hLO:LO=[]:=List.eq_nil_of_length_eq_zero (by rw[<- hf.own.1];rfl)
   subst hLO
   have f1:=hf.mkobj (x:=.coll) (B:=.deferred) ⟨g.s.next,mw hf.ok _ _,qe _ _⟩
   have v1:=oR hf.ok hf.bl .coll .deferred
   have o1:(g.obj .coll .deferred).O[g.H.length]? = some (some (g.s.next,0)):=mw hf.ok _ _
   have hH1:(g.obj .coll .deferred).H=g.H++[.coll]:=rfl
   have hs1:(g.obj .coll .deferred).s=g.s.alloc .deferred:=rfl
   generalize g.obj .coll .deferred=g1 at f1 v1 o1 hH1 hs1
   have f2:=f1.mkobj (x:=.loop true f fn.ntmps t ps a b') (B:=.loop .ready none f tv ps a b' g.s.next fn.ntmps) ⟨g1.s.next,tv,g.s.next,mw f1.ok _ _,qe _ _,f1.slots.mono (vG f1.ok.len _ _) List.prefix_rfl⟩
   have v2:=oR f1.ok f1.bl (.loop true f fn.ntmps t ps a b') (.loop .ready none f tv ps a b' g.s.next fn.ntmps)
   have o2:=mw f1.ok (.loop true f fn.ntmps t ps a b') (.loop .ready none f tv ps a b' g.s.next fn.ntmps)
   have hH2:(g1.obj (.loop true f fn.ntmps t ps a b') (.loop .ready none f tv ps a b' g.s.next fn.ntmps)).H=g.H++[.coll,.loop true f fn.ntmps t ps a b']:=by simp[Gh.obj,hH1]
   have hs2:(g1.obj (.loop true f fn.ntmps t ps a b') (.loop .ready none f tv ps a b' g.s.next fn.ntmps)).s=(g.s.alloc .deferred).alloc (.loop .ready none f tv ps a b' g.s.next fn.ntmps):=by rw[<- hs1];rfl
   have hl1:g1.H.length=g.H.length+1:=by rw[hH1];simp
   rw[hl1]at o2
   generalize g1.obj (.loop true f fn.ntmps t ps a b') (.loop .ready none f tv ps a b' g.s.next fn.ntmps)=g2 at f2 v2 o2 hH2 hs2
   have v12:=v1.trans v2
   obtain⟨oc,hoc,e⟩:=kD e
   obtain⟨vout,m1,m2⟩:=hrec.c gf _ none _ oc hoc g2 hH2 f2.ok (a'++(.func (.yield g1.s.next) [] []::c')) none
    ((j1.mono v12.le).append (by simp only[RL];exact⟨_,_,rfl,by simp only[RD];exact⟨_,_,o2,rfl⟩,j2.mono v12.le⟩)) rfl
   obtain⟨g3,n1,n2,n3,n4,n5,n6,_⟩:=kC f2 m2
   have v13:=v12.trans n4
   obtain⟨w,q1⟩:=(v2.trans n4).le.o1 _ _ _ o1
   obtain⟨w2,q2⟩:=n4.le.o1 _ _ _ o2
   have hm1:bp (lim E.E) gf (a'++([.func (.yield (g.s.alloc .deferred).next) [] []]++c')) none ((g.s.alloc .deferred).alloc (.loop .ready none f tv ps a b' g.s.next fn.ntmps))=some vout:=by
    rw[<- hs2,<- hs1];exact m1
   obtain⟨ve,vu,vs'⟩:=vout
   simp only at n2 n5
   rcases e with⟨d,hd1,e⟩|⟨c,hd1,e⟩
   ·rw[hd1]at n5
    obtain⟨v,rfl,_⟩:=n5
    unfold yz at e
    split at e
    ·rename_i f0 nt0 t0 ps0 a0 b0 hl
     rw[<- n1]at hl e
     obtain⟨tv0,d0,k2,_⟩:=vt n3 q2 hl
     have c:sF g3 (g.H.length+1) .opq g1.s.next w2 w2 _ _ (.loop .exhausted none f0 tv0 ps0 a0 b0 d0 nt0):=oO q2 hl uV k2
     have f4:=n3.oput c ⟨_,_,aR q2⟩
     have v4:=ir (b:=b) n3.ok c
     obtain⟨w3,q3⟩:=v4.le.o1 _ _ _ q1
     obtain⟨vout,r1,r2⟩:=hgo _ _ _ _ _ _ _ _ e b P0 _ tv [] (.collected g.s.next::dsv) .run upv none rfl f4 ⟨_,w3,dsv,rfl,q3,hd.mono (v13.trans v4).le⟩ rfl (pq.mk hn (hu0.mono (v13.trans v4).le))
     refine⟨vout,?_,r2.trans (v13.trans v4)⟩
     simp only[fH,hm1,jo]
     have k3:vs'.get (g.s.alloc .deferred).next=some (.loop .ready none f0 tv0 ps0 a0 b0 d0 nt0):=by rw[<- n2,<- hs1];exact k2
     simp only[k3,ql,Option.map,Option.toList,List.nil_append]
     rw[<- n2,<- hs1];exact r1
    ·cases e
   ·rw[hd1]at n5
    obtain⟨c',rfl,n7⟩:=n5
    rw[<- n1]at e
    obtain⟨vout,r1,r2⟩:=hgo _ _ _ _ _ _ _ _ e b P0 g3 tv [] (.collected g.s.next::dsv) (.panicking c') upv none rfl n3 ⟨_,w,dsv,rfl,q1,hd.mono v13.le⟩ ⟨c',rfl,n7⟩ (pq.mk hn (hu0.mono v13.le))
    refine⟨vout,?_,r2.trans v13⟩
    simp only[fH,hm1,jo]
    rw[<- n2];exact r1
  ·cases e
 ·cases e
theorem ww{ds:List pp}{up:Option eB}{r:ag}(h:pj go t L ds up r=some out):∃ u H,(∃ d,r=some ⟨.ret d,some u,H⟩/\u≠.run/\go t L [] ds (tO u) up H=some out)\/∃ c,r=some ⟨.pan c,some u,H⟩/\go t L [] ds (zW u c) up H=some out:=by
 unfold pj Fa at h
 split at h
 ·rename_i d u H
  split at h
  ·exact⟨_,_,.inl ⟨d,rfl,(fun q=>by cases q),h⟩⟩
  ·rename_i c
   unfold Eh at h
   split at h
   ·exact⟨_,_,.inl ⟨d,rfl,(fun q=>by cases q),h⟩⟩
   ·rename_i hn
    refine⟨_,_,.inl ⟨d,rfl,(fun q=>by cases q),?_⟩⟩
    simp_all[tO]
  ·cases h
 ·rename_i c u H
  split at h
  ·exact⟨_,_,.inr ⟨c,rfl,h⟩⟩
  ·exact⟨_,_,.inr ⟨c,rfl,h⟩⟩
  ·cases h
 ·cases h
theorem Lc(hgo:IP E f fn go)(hrec:Fy E.E rec):∀ {c:Code} {k:List Item} {t:T LD} {L:LS} {ds:List pp} {up:Option eB},kB c E an f fn go rec k t L ds up g.H=some out->∀ {tv:T V} {LO:List Nat} {dsv:List ec} {upv:Option Md} {rdv:Option Nat},FI b P0 g t L tv LO->DE g ds dsv->pq g up upv rdv ->
 ∃ vout,cm c E.E f fn (fM (lim E.E) f fn) (bp (lim E.E)) (dR (lim E.E)) k tv dsv upv rdv g.s=some vout/\iD b P0 g out vout:=by
 intro c k t L ds up e tv LO dsv upv rdv hf hd hu
 have on:∀ {todo:List Item},go t L todo ds .run up g.H=some out->∃ vout,fM (lim E.E) f fn tv todo dsv .run upv rdv g.s=some vout/\iD b P0 g out vout:=fun e=>hgo _ _ _ _ _ _ _ _ e b P0 g tv LO dsv .run upv rdv rfl hf hd rfl hu
 cases c with
 |ret=>exact yF (c:=some .ret) hgo e hf hd hu
 |skip=>exact on e
 |label _=>exact on e
 |seq _ _=>exact on e
 |block _ _=>exact on e
 |loop _=>exact on e
 |scope _=>exact on e
 |exit id=>exact Co hgo (.exit id) e hf hd hu
 |goto l=>exact Co hgo (.goto l) e hf hd hu
 |cond c x y =>
  simp only[kB]at e
  obtain⟨d,v,e,_,h1,h2⟩:=bf e (hf.slots.op c)
  obtain⟨q,rfl,e⟩:=Bb e h2
  simp only[cm,h1,AX]
  cases q with
  |true =>
   simp only[cond_true,pM]at e ⊢
   exact hgo _ _ _ _ _ _ _ _ e b P0 g tv LO dsv .run upv rdv rfl (hf.rf (tR h1)) hd rfl hu
  |false =>
   simp only[cond_false,pM]at e ⊢
   exact hgo _ _ _ _ _ _ _ _ e b P0 g tv LO dsv .run upv rdv rfl (hf.rf (tR h1)) hd rfl hu
 |region id ops draw =>
  cases draw with
  |true =>
   simp only[kB]at e
   split at e
   ·cases e
   rename_i hdst
   split at e
   ·rename_i sc hsc
    obtain⟨r,h1,hr⟩:=oJ (b:=b) (P0:=P0) (dsv:=dsv) (upv:=upv) hrec (cs:=[⟨L,g,LO⟩]) e rfl hf ⟨hf.cfg,.refl b _,trivial⟩ (pt.of hf.slots .leaf)
    have h6:=zO hsc (bp (lim E.E)) (dR (lim E.E)) tv dsv upv g.s _ h1
    rcases hr with⟨tv',s',rfl,g',t',L',LO',h2,h3,h4,h5⟩|⟨c,tv',s',rfl,g',t',L',LO',c',h2,h3,h4,h5,h7⟩
    ·obtain⟨vout,k1,k2⟩:=hgo _ _ _ _ _ _ _ _ h2 b P0 g' tv' LO' dsv .run upv rdv rfl h4 (hd.mono h5.le) rfl (hu.mono h5.le)
     refine⟨vout,?_,k2.trans h5⟩
     simp only[cm,hdst,cond_true,h6,fS,<- h3];exact k1
    ·obtain⟨vout,k1,k2⟩:=hgo _ _ _ _ _ _ _ _ h2 b P0 g' tv' LO' dsv (.panicking c) upv rdv rfl h4 (hd.mono h5.le) ⟨c,rfl,h7⟩ (hu.mono h5.le)
     refine⟨vout,?_,k2.trans h5⟩
     simp only[cm,hdst,cond_true,h6,fS,<- h3];exact k1
   ·cases e
  |false =>
   simp only[kB]at e
   split at e
   rotate_left
   ·cases e
   rename_i hdst
   obtain⟨r,h1,h2⟩:=eM hrec e hf hd hu
   cases r with
   |on tv' dsv' upv' s' =>
    obtain⟨g',t',L',LO',ds',up',k1,k2,k3,k4,k5,k6⟩:=h2
    obtain⟨vout,j1,j2⟩:=hgo _ _ _ _ _ _ _ _ k1 b P0 g' tv' LO' dsv' .run upv' rdv rfl k3 k5 rfl k6
    refine⟨vout,?_,j2.trans k4⟩
    simp only[cm,hdst,cond_true,h1,fS,<- k2];exact j1
   |panicked c tv' dsv' upv' s' =>
    obtain⟨g',t',L',LO',ds',up',c',k1,k2,k3,k4,k5,k6,k7⟩:=h2
    obtain⟨vout,j1,j2⟩:=hgo _ _ _ _ _ _ _ _ k1 b P0 g' tv' LO' dsv' (.panicking c) upv' rdv rfl k3 k5 ⟨c,rfl,k7⟩ k6
    refine⟨vout,?_,j2.trans k4⟩
    simp only[cm,hdst,cond_true,h1,fS,<- k2];exact j1
 |rangeFunc gop ps a b' =>
  simp only[kB]at e
  obtain⟨d,v,e,_,h1,h2⟩:=bf e (hf.slots.op gop)
  simp only[cm,h1]
  exact Hw hgo hrec e hf hd hu h2
 |refuse _=>cases e
theorem HQ(hgo:IP E f fn go)(hrec:Fy E.E rec){todo:List Item}{ds:List pp}{m:eB}{up:Option eB}(e:sf E an f fn go rec t L todo ds m up g.H=some out)(hf:FI b P0 g t L tv LO){dsv:List ec}{mv:Md}{upv:Option Md}{rdv:Option Nat}(hd:DE g ds dsv)(hm:IN g m mv)(hu:pq g up upv rdv) :
 ∃ vout,fK E.E f fn (fM (lim E.E) f fn) (bp (lim E.E)) (dR (lim E.E)) tv todo dsv mv upv rdv g.s=some vout/\iD b P0 g out vout:=by
 have unw:∀ {m:eB} {mv:Md},IN g m mv->im ds E an fn go rec t L m up g.H=some out->∃ vout,cU dsv E.E fn (fM (lim E.E) f fn) (bp (lim E.E)) tv mv upv rdv g.s=some vout/\iD b P0 g out vout:=fun {m mv} hm e=>by
  cases ds with
  |nil =>
   cases hd
   simp only[im]at e
   simp only[cU]
   cases m with
   |run=>simp only[iO]at e;cases e
   |round _=>exact hm.elim
   |returning =>
    cases hm
    simp only[iO]at e
    obtain⟨hn,e⟩:=ll e
    have hq:=hu.nr hn
    clear hu
    obtain⟨rfl,hu⟩:=hq
    obtain⟨ds,vs,e,h1,h2⟩:=mi hf e
    obtain⟨ds',g',e,h3,h4,h5,h6⟩:=FW hf e h2
    cases e
    have:=h4.leave (e:=.ret (JU ds')) (ve:=.returned (uZ vs)) (up:=up) (upv:=upv) ⟨_,rfl,OY h6⟩ (hu.mono h5.le)
    rw[h3]at this
    exact⟨_,by simp only[rP,pT,h1,JA],this.trans h5⟩
   |panicking c =>
    obtain⟨c',rfl,h1⟩:=hm
    simp only[iO]at e
    cases e
    exact⟨_,rfl,hf.leave (e:=.pan c) (ve:=.panicked c') ⟨_,rfl,h1⟩ (Ms hu)⟩
  |cons x ds =>
   cases x with
   |coll o =>
    obtain⟨d,v,dsv',rfl,h1,h2⟩:=hd
    simp only[im]at e
    simp only[cU]
    unfold qO at e
    split at e
    ·rename_i hH
     obtain⟨d',k1,k2⟩:=hf.ok.obj o _ hH
     rw[h1]at k1;cases k1
     have c:sF g o .opq d 0 0 .coll _ .gone:=oO h1 hH Ej k2
     have hf':=hf.oput c ⟨_,_,aR h1⟩
     have hm':=ir (b:=b) hf.ok c
     obtain⟨vout,j1,j2⟩:=hgo _ _ _ _ _ _ _ _ e b P0 _ tv LO dsv' mv upv rdv rfl hf' (h2.mono hm'.le) (hm.mono hm'.le) (hu.mono hm'.le)
     refine⟨vout,?_,j2.trans hm'⟩
     simp only[jI,k2];exact j1
    ·cases e
   |call x =>
   obtain⟨ca,a,dsv',rfl,h1,h2,h3⟩:=hd
   obtain⟨xf,xc,xa⟩:=x
   simp only[im]at e
   simp only at h1 h2
   simp only[cU]
   obtain⟨u,H',⟨d,hr,hne,e⟩|⟨c,hr,e⟩⟩:=ww e
   ·obtain⟨vout,k1,k2⟩:=hrec.c _ _ _ _ _ hr g rfl hf.ok (a++ca) (some mv) (h2.append h1) ⟨mv,rfl,hm⟩
    obtain⟨g',n1,n2,n3,n4,n5,n6,_⟩:=kC hf k2
    obtain⟨ve,vu,vs⟩:=vout
    simp only at n1 n2 n5 n6
    obtain⟨v,rfl,_⟩:=n5
    obtain⟨u',rfl,n7⟩:=n6
    rw[<- n1]at e
    obtain⟨vout,j1,j2⟩:=hgo _ _ _ _ _ _ _ _ e b P0 g' tv LO dsv' (io u') upv rdv rfl n3 (h3.mono n4.le) (Jq n7) (hu.mono n4.le)
    refine⟨vout,?_,j2.trans n4⟩
    simp only[bp,k1,ja]
    have:u'≠.run:=fun q=>hne ((Pm n7).2 q)
    split
    ·grind
    ·rw[<- n2];exact j1
   ·obtain⟨vout,k1,k2⟩:=hrec.c _ _ _ _ _ hr g rfl hf.ok (a++ca) (some mv) (h2.append h1) ⟨mv,rfl,hm⟩
    obtain⟨g',n1,n2,n3,n4,n5,n6,_⟩:=kC hf k2
    obtain⟨ve,vu,vs⟩:=vout
    simp only at n1 n2 n5 n6
    obtain⟨c',rfl,n8⟩:=n5
    obtain⟨u',rfl,n7⟩:=n6
    rw[<- n1]at e
    obtain⟨vout,j1,j2⟩:=hgo _ _ _ _ _ _ _ _ e b P0 g' tv LO dsv' (pY u' c') upv rdv rfl n3 (h3.mono n4.le) (JJ n7 n8) (hu.mono n4.le)
    refine⟨vout,?_,j2.trans n4⟩
    simp only[bp,k1,ja]
    rw[<- n2];exact j1
 cases m with
 |run =>
  cases hm
  simp only[sf]at e
  simp only[fK]
  cases todo with
  |nil=>exact yF (c:=none) hgo e hf hd hu
  |cons i k =>
   simp only[FN]at e
   simp only[ma]
   have on:∀ {todo:List Item},go t L todo ds .run up g.H=some out->∃ vout,fM (lim E.E) f fn tv todo dsv .run upv rdv g.s=some vout/\iD b P0 g out vout:=fun e=>hgo _ _ _ _ _ _ _ _ e b P0 g tv LO dsv .run upv rdv rfl hf hd rfl hu
   cases i with
   |code c=>exact Lc hgo hrec e hf hd hu
   |inBlock _=>exact on e
   |inScope _=>exact on e
   |inLoop c=>exact on e
   |beginRound =>
    simp only[KA]at e
    unfold Fm at e
    split at e
    ·rename_i o
     obtain⟨rfl,l,v,rfl,ho⟩:=hu
     unfold In at e
     split at e
     ·rename_i hH
      obtain⟨tv0,d,h2,h3⟩:=vt hf ho hH
      obtain⟨g',k1,k2,k3,k4⟩:=h3 false
      rw[<- k1]at e
      obtain⟨v',ho'⟩:=k4.le.o1 _ _ _ ho
      obtain⟨vout,j1,j2⟩:=hgo _ _ _ _ _ _ _ _ e b P0 g' tv LO dsv .run none (some l) rfl k3 (hd.mono k4.le) rfl ⟨rfl,l,v',rfl,ho'⟩
      refine⟨vout,?_,j2.trans k4⟩
      simp only[kj,uf,h2,cond_true]
      rw[k2]at j1;exact j1
     ·cases e
    ·cases e
   |_=>cases e
 |returning =>
  cases hm
  exact unw (m:=.returning) rfl e
 |panicking c =>
  obtain⟨c',rfl,h1⟩:=hm
  exact unw (m:=.panicking c) ⟨c',rfl,h1⟩ e
 |round _=>exact hm.elim
end frame
mutual
theorem RD.belo:∀ {d:D} {v:V},g.O.length=g.H.length->RD g d v->d.bel g.H.length
 |.bool _,_,_,_=>trivial
 |.int ..,_,_,_=>trivial
 |.str _,_,_,_=>trivial
 |.ptr o c,v,hl,r=>by
  grind [RD,D.bel,ce]
 |.eptr cs c,v,hl,r=>by
  simp only[RD]at r
  obtain⟨a,vs,_,_,_,h4,_⟩:=r
  simp only[D.bel];exact RL.belo hl h4
 |.bptr o n i c,v,hl,r=>by
  simp only[RD,xQ]at r
  grind [D.bel,ce]
 |.tptr o n i c,v,hl,r=>by
  grind [RD,D.bel,ce]
 |.tb sz o s k,v,hl,r=>by
  grind [RD,D.bel,ce]
 |.nilptr,_,_,_=>trivial
 |.row sz l,v,hl,r=>by
  simp only[RD]at r
  simp only[D.bel]
  rcases r with⟨rfl,_⟩|⟨rfl,_⟩|⟨a,z,cap,_,_,_,_,_,h6⟩
  ·trivial
  ·trivial
  ·exact RR.belo hl h6
 |.buf sz o n,v,hl,r=>by
  simp only[RD]at r
  rcases r with⟨⟨_,_,_,h1⟩,_⟩|⟨st,cap,l,h1,_⟩<;>grind [D.bel,ce]
 |.nilrow,_,_,_=>trivial
 |.nilx,_,_,_=>trivial
 |.map o,v,hl,r=>by
  grind [RD,D.bel,ce]
 |.nilmap,_,_,_=>trivial
 |.func fn a c,v,hl,r=>by
  simp only[RD]at r
  obtain⟨a',b',_,h2,h3⟩:=r
  simp only[D.bel];exact⟨RL.belo hl h2,RL.belo hl h3⟩
 |.nilFunc,_,_,_=>trivial
 |.iface ty d,v,hl,r=>by
  simp only[RD]at r
  obtain⟨v',_,h2⟩:=r
  simp only[D.bel];exact RD.belo hl h2
 |.nilIface,_,_,_=>trivial
 |.yld o,v,hl,r=>by
  grind [RD,D.bel,ce]
 |.abool,_,_,_=>trivial
 |.agg cs,v,hl,r=>by
  simp only[RD]at r
  obtain⟨vs,_,h2,_⟩:=r
  simp only[D.bel];exact RL.belo hl h2
 |.tuple ds,v,hl,r=>by
  simp only[RD]at r
  obtain⟨vs,_,h2⟩:=r
  simp only[D.bel];exact RL.belo hl h2
theorem RL.belo:∀ {ds:List D} {vs:List V},g.O.length=g.H.length->RL g ds vs->tF g.H.length ds
 |[],_,_,_=>trivial
 |d::l,vs,hl,r=>by
  simp only[RL]at r
  obtain⟨v,vs',_,h2,h3⟩:=r
  simp only[tF];exact⟨RD.belo hl h2,RL.belo hl h3⟩
theorem RR.belo:∀ {l:List (List D)} {a:Ad} {sz:Nat},g.O.length=g.H.length->RR g a sz l->Dj g.H.length l
 |[],_,_,_,_=>trivial
 |x::l,a,sz,hl,r=>by
  simp only[RR]at r
  obtain⟨⟨vs,_,_,h3,_⟩,h4⟩:=r
  simp only[Dj];exact⟨RL.belo hl h3,RR.belo hl h4⟩
end
def Gh.trim(g:Gh)(n:Nat):Gh:=⟨g.O.take n,g.H.take n,g.Pv,g.s⟩
theorem iK{α:Type}{l:List α}{n i:Nat}{x:α}(h:(l.take n)[i]? = some x):i<n/\l[i]? = some x:=by
 grind
theorem bL{α:Type}{l:List α}{n i:Nat}{x:α}(hi:i<n)(h:l[i]? = some x):(l.take n)[i]? = some x:=by
 grind
theorem vL{n f:Nat}(h:g.Imm f):(g.trim n).Imm f:=⟨h.1,h.2.1,fun o v ho=>by
 obtain⟨h1,h2⟩:=iK ho
 obtain⟨sz,cap,l,h3⟩:=h.2.2 o v h2
 exact⟨sz,cap,l,bL h1 h3⟩⟩
theorem xQ.trim{o n:Nat}(h:o<n)(r:xQ g o):xQ (g.trim n) o:=by
 obtain⟨z,s,l,k⟩:=r
 exact⟨z,s,l,bL h k⟩
mutual
theorem RD.trim{n:Nat}:∀ {d:D} {v:V},d.bel n->RD g d v->RD (g.trim n) d v
 |.bool _,_,_,r=>by simpa only[RD]using r
 |.int ..,_,_,r=>by simpa only[RD]using r
 |.str _,_,_,r=>by simpa only[RD]using r
 |.ptr o c,v,hb,r=>by
  simp only[RD]at r ⊢
  simp only[D.bel]at hb
  obtain⟨f,ver,h1,h2⟩:=r
  exact⟨f,ver,bL hb h1,h2⟩
 |.eptr cs c,v,hb,r=>by
  simp only[RD]at r ⊢
  simp only[D.bel]at hb
  obtain⟨a,vs,h1,h2,h3,h4,h5⟩:=r
  exact⟨a,vs,h1,vL h2,h3,RL.trim hb h4,h5⟩
 |.bptr o n' i c,v,hb,r=>by
  simp only[RD]at r ⊢
  simp only[D.bel]at hb
  rcases r with⟨r,r2⟩|⟨f,ver,sz,st,cap,l,ver',h1,h2,h3⟩
  ·exact .inl ⟨r.trim hb,r2⟩
  exact .inr ⟨f,ver,sz,st,cap,l,ver',bL hb h1,bL hb h2,h3⟩
 |.tptr o s i c,v,hb,r=>by
  simp only[RD]at r ⊢
  simp only[D.bel]at hb
  obtain⟨f,ver,sz,s',l,ver',h1,h2,h3⟩:=r
  exact⟨f,ver,sz,s',l,ver',bL hb h1,bL hb h2,h3⟩
 |.tb sz o s k,v,hb,r=>by
  simp only[RD]at r ⊢
  simp only[D.bel]at hb
  obtain⟨f,ver,s',l,ver',h1,h2,h3⟩:=r
  exact⟨f,ver,s',l,ver',bL hb h1,bL hb h2,h3⟩
 |.nilptr,_,_,r=>by simpa only[RD]using r
 |.row sz l,v,hb,r=>by
  simp only[RD]at r ⊢
  simp only[D.bel]at hb
  rcases r with r|r|⟨a,z,cap,h1,h2,h3,h4,h5,h6⟩
  ·exact .inl r
  ·grind
  ·exact .inr (.inr ⟨a,z,cap,h1,h2,h3,h4,fun q=>vL (h5 q),RR.trim hb h6⟩)
 |.buf sz o n',v,hb,r=>by
  simp only[RD]at r ⊢
  simp only[D.bel]at hb
  rcases r with⟨r,r2⟩|⟨st,cap,l,h1,h2,h3⟩
  ·exact .inl ⟨r.trim hb,r2⟩
  refine .inr ⟨st,cap,l,bL hb h1,h2,?_⟩
  rcases h3 with h3|⟨h3,f,ver,ver',c,h4,h5⟩
  ·exact .inl h3
  ·exact .inr ⟨h3,f,ver,ver',c,bL hb h4,h5⟩
 |.nilrow,_,_,r=>by simpa only[RD]using r
 |.nilx,_,_,r=>by simpa only[RD]using r
 |.map o,v,hb,r=>by
  simp only[RD]at r ⊢
  simp only[D.bel]at hb
  obtain⟨f,ver,h1,h2⟩:=r
  exact⟨f,ver,bL hb h1,h2⟩
 |.nilmap,_,_,r=>by simpa only[RD]using r
 |.func fn a c,v,hb,r=>by
  simp only[RD]at r ⊢
  simp only[D.bel]at hb
  obtain⟨a',b',h1,h2,h3⟩:=r
  exact⟨a',b',h1,RL.trim hb.1 h2,RL.trim hb.2 h3⟩
 |.nilFunc,_,_,r=>by simpa only[RD]using r
 |.iface ty d,v,hb,r=>by
  simp only[RD]at r ⊢
  simp only[D.bel]at hb
  obtain⟨v',h1,h2⟩:=r
  simp_all[RD.trim]
 |.nilIface,_,_,r=>by simpa only[RD]using r
 |.yld o,v,hb,r=>by
  simp only[RD]at r ⊢
  simp only[D.bel]at hb
  obtain⟨f,ver,h1,h2⟩:=r
  exact⟨f,ver,bL hb h1,h2⟩
 |.abool,_,_,r=>by simpa only[RD]using r
 |.agg cs,v,hb,r=>by
  simp only[RD]at r ⊢
  simp only[D.bel]at hb
  obtain⟨vs,h1,h2,h3⟩:=r
  simp_all[RL.trim]
 |.tuple ds,v,hb,r=>by
  simp only[RD]at r ⊢
  simp only[D.bel]at hb
  obtain⟨vs,h1,h2⟩:=r
  simp_all[RL.trim]
theorem RL.trim{n:Nat}:∀ {ds:List D} {vs:List V},tF n ds->RL g ds vs->RL (g.trim n) ds vs
 |[],_,_,r=>by simpa only[RL]using r
 |d::l,vs,hb,r=>by
  simp only[RL]at r ⊢
  simp only[tF]at hb
  obtain⟨v,vs',h1,h2,h3⟩:=r
  exact⟨v,vs',h1,RD.trim hb.1 h2,RL.trim hb.2 h3⟩
theorem RR.trim{n:Nat}:∀ {l:List (List D)} {a:Ad} {sz:Nat},Dj n l->RR g a sz l->RR (g.trim n) a sz l
 |[],_,_,_,_=>by simp only[RR]
 |x::l,a,sz,hb,r=>by
  simp only[RR]at r ⊢
  simp only[Dj]at hb
  obtain⟨⟨vs,h1,h2,h3,h4⟩,h5⟩:=r
  exact⟨⟨vs,h1,h2,RL.trim hb.1 h3,h4⟩,RR.trim hb.2 h5⟩
end
theorem pu.trim{n:Nat}:∀ {es:List (D×D)} {ents:List nT},(∀ x∈es,x.1.bel n/\x.2.bel n)->pu g es ents->pu (g.trim n) es ents
 |[],_,_,r=>r
 |(k,v)::l,_,hb,r=>by
  obtain⟨e,es',h1,h2,h3,h4,h5⟩:=r
  obtain⟨b1,b2⟩:=hb _ List.mem_cons_self
  exact⟨e,es',h1,h2.trim b1,h3.trim b2,h4,pu.trim (fun x hx=>hb x (List.mem_cons_of_mem _ hx)) h5⟩
theorem pu.belo:∀ {es:List (D×D)} {ents:List nT},g.O.length=g.H.length->pu g es ents->∀ x∈es,x.1.bel g.H.length/\x.2.bel g.H.length
 |[],_,_,_,x,hx=>by cases hx
 |(k,v)::l,_,hl,r,x,hx=>by
  obtain⟨e,es',_,h2,h3,_,h5⟩:=r
  rcases List.mem_cons.1 hx with rfl|hx
  ·exact⟨h2.belo hl,h3.belo hl⟩
  ·exact pu.belo hl h5 x hx
theorem jj.belo{o:Nat}{x:DB}(hl:g.O.length=g.H.length)(r:jj g o x):x.bel g.H.length:=by
 cases x with
 |dead=>exact r.elim
 |opq=>trivial
 |coll=>trivial
 |loop _ _ _ _ _ _ _ =>
  obtain⟨f,tv,d,_,_,h3⟩:=r
  intro i d hi
  obtain⟨v,_,h4⟩:=h3 i _ hi
  exact RD.belo hl h4
 |cells st cs=>obtain⟨f,el,vs,_,_,h3,_⟩:=r;exact h3.belo hl
 |map es=>obtain⟨f,ents,c,_,_,h3⟩:=r;exact h3.belo hl
 |buf sz st cap l =>
  obtain⟨_,⟨rfl,_⟩|⟨_,f,ver,el,nv,vers,cells,_,_,_,_,_,h⟩⟩:=r
  ·trivial
  ·exact h.belo hl
 |tbuf sz s l =>
  obtain⟨_,f,ver,el,nv,vers,cells,_,_,_,_,_,h⟩:=r
  exact h.belo hl
theorem jj.trim{o n:Nat}{x:DB}(ho:o<n)(hb:x.bel n)(r:jj g o x):jj (g.trim n) o x:=by
 cases x with
 |dead=>exact r.elim
 |opq=>obtain⟨f,v,h1⟩:=r;exact⟨f,v,bL ho h1⟩
 |coll=>obtain⟨f,h1,h2⟩:=r;exact⟨f,bL ho h1,h2⟩
 |loop _ _ _ _ _ _ _ =>
  obtain⟨f,tv,d,h1,h2,h3⟩:=r
  refine⟨f,tv,d,bL ho h1,h2,fun i x hi=>?_⟩
  obtain⟨v,h4,h5⟩:=h3 i x hi
  refine⟨v,h4,?_⟩
  cases x with
  |g d=>exact RD.trim (hb i d hi) h5
  |lp k c=>exact h5
  |u=>exact h5
 |cells st cs=>obtain⟨f,el,vs,h1,h2,h3,h4⟩:=r;exact⟨f,el,vs,bL ho h1,h2,h3.trim hb,h4⟩
 |map es=>obtain⟨f,ents,c,h1,h2,h3⟩:=r;exact⟨f,ents,c,bL ho h1,h2,h3.trim hb⟩
 |buf sz st cap l =>
  obtain⟨h0,⟨rfl,h1⟩|⟨h1,f,ver,el,nv,vers,cells,h2,h3,h4,h5,h6,h⟩⟩:=r
  ·exact⟨h0,.inl ⟨rfl,bL ho h1⟩⟩
  ·exact⟨h0,.inr ⟨h1,f,ver,el,nv,vers,cells,bL ho h2,h3,h4,h5,h6,h.trim hb⟩⟩
 |tbuf sz s l =>
  obtain⟨h0,f,ver,el,nv,vers,cells,h2,h3,h4,h5,h6,h⟩:=r
  exact⟨h0,f,ver,el,nv,vers,cells,bL ho h2,h3,h4,h5,h6,h.trim hb⟩
theorem gq.trim{n:Nat}:∀ {c:List ff} {c':List Bq},(∀ x∈c,x.v.bel n)->gq g c c'->gq (g.trim n) c c'
 |[],_,_,r=>r
 |x::l,_,hb,r=>by
  obtain⟨y,c',h1,h2,h3,h4⟩:=r
  exact⟨y,c',h1,h2.trim (hb x List.mem_cons_self),h3,gq.trim (fun z hz=>hb z (List.mem_cons_of_mem _ hz)) h4⟩
theorem Ja{r:ag}(e:pF g.H r=some out)(hok:Ok g){j:rh}{s0:S}(hr:∀ o,r=some o->∃ vout,lim E.E j s0=some vout/\iD g.s.next g.Pv g o vout):∃ vout,lim E.E j s0=some vout/\iD g.s.next g.Pv g out vout:=by
 unfold pF at e
 split at e
 ·rename_i o
  split at e
  ·rename_i ht
   cases e
   obtain⟨vout,h1,g',h2,h3,h4,h5,h6,h7,h8⟩:=hr o rfl
   obtain⟨t1,t2,t3,t4⟩:=ht
   rw[<- h2]at t3 t4
   have hlen:(g'.trim g.H.length).H.length=g.H.length:=by simp[Gh.trim,t3]
   have hold:∀ {o:Nat} {x:DB},o<g.H.length->g'.H[o]? = some x->jj (g'.trim g.H.length) o x:=fun {o x} ho hx=>by
    refine(h5.obj o x hx).trim ho ?_
    rcases t4 o x ho hx with q|q
    ·exact(hok.obj o x q).belo hok.len
    ·exact q
   refine⟨vout,h1,g'.trim g.H.length,by simp[Gh.trim,h2],h3,h4,⟨by simp[Gh.trim,h5.len],h5.wf,fun o o' f v v' a c=>h5.inj o o' f v v' (iK a).2 (iK c).2,fun o f v a=>h5.lt o f v (iK a).2,h5.pv,fun o x hx=>?_,h5.gl.to fun f q1 q2 q3=>⟨rfl,q1,q2,fun o v k=>q3 o v (iK k).2⟩⟩,⟨⟨by rw[hlen];exact Nat.le_refl _,fun o f v ho=>?_,fun o sz st cap l ho=>?_,fun o sz s l ho=>?_,fun f hf=>vL (h6.le.imm f hf),fun a n vs hi hx=>h6.le.cells a n vs hi hx,h6.le.next⟩,h6.out,fun o f v ho hf=>h6.fresh o f v (iK ho).2 hf,fun o s1 c1 f v a c=>?_⟩,?_,?_⟩
   ·obtain⟨q1,q2⟩:=iK hx
    grind
   ·obtain⟨v',q⟩:=h6.le.o1 o f v ho
    exact⟨v',bL (by rw[<- hok.len];exact ce ho) q⟩
   ·rcases h6.le.buf o sz st cap l ho with q1|⟨st',cap',l',q1,q2,q3,q4⟩
    ·exact .inl (q1.trim (ce ho))
    refine .inr ⟨st',cap',l',bL (ce ho) q1,q2,q3,fun q=>⟨(q4 q).1,?_⟩⟩
    show(g'.O.take _)[o]? = _
    grind
   ·obtain⟨s',l',q1,q2,q3⟩:=h6.le.tb o sz s l ho
    refine⟨s',l',bL (ce ho) q1,q2,fun q=>⟨(q3 q).1,?_⟩⟩
    show(g'.O.take _)[o]? = _
    grind
   ·obtain⟨s2,c2,q1,q2,q3⟩:=h6.stm o s1 c1 f v a c
    exact⟨s2,c2,bL (ce a) q1,q2,q3⟩
   ·have t1:=t1
    cases he:o.e with
    |ret d =>
     rw[he]at h7 t1
     obtain⟨v,q1,q2⟩:=h7
     exact⟨v,q1,q2.trim t1⟩
    |pan c =>
     rw[he]at h7 t1
     obtain⟨c',q1,q2⟩:=h7
     exact⟨c',q1,q2.trim t1⟩
   ·show IA _ o.up _
    rw[t2]at h8 ⊢
    exact h8
  ·cases e
 ·cases e
theorem KF:∀ {ds:List D} {vs:List V} {i:Nat} {t:T LD} {tv:T V},RL g ds vs->xP g [] t tv->xP g [] (fY ds i t id) (jA vs i tv id)
 |[],vs,i,t,tv,r,h=>by simp only[RL]at r;subst r;exact h
 |d::ds,vs,i,t,tv,r,h=>by
  simp only[RL]at r
  obtain⟨v,vs',rfl,h1,h2⟩:=r
  rw[EG]
  simp only[fY,T.setQ_eq]
  exact KF h2 (h.put (some i) (x:=.g d) h1)
theorem nF{β:Type}:∀(ds:List D) (i:Nat) (t:T LD) (k:T LD->β),fY ds i t k=k (fY ds i t id)
 |[],_,_,_=>rfl
 |d::ds,i,t,k=>by
  simp only[fY,T.setQ_eq]
  exact nF ds (i+1) _ k
theorem Jf(h:Ok g){ds:List D}{vs:List V}(r:RL g ds vs):FI g.s.next g.Pv g (fY ds 0 .leaf id) [] (jA vs 0 .leaf id) [] :=
 ⟨h,KF r (fun i x hx=>by rw[T.get_leaf]at hx;cases hx),⟨rfl,fun k x f hk=>by simp at hk⟩,by simp,(fun f hf=>by cases hf),List.nodup_nil,Nat.le_refl _⟩
theorem rE{β:Type}:∀(t:T LD) (ps:List Tmp) (ds:List D) (k:T LD->β),kZ t ps ds k=k (kZ t ps ds id)
 |t,p::ps,d::ds,k=>by
  simp only[kZ,T.setQ_eq]
  exact rE _ ps ds k
 |t,[],[],k=>rfl
 |t,[],_::_,k=>rfl
 |t,_::_,[],k=>rfl
theorem BR{β:Type}:∀(t:T V) (ps:List Tmp) (ds:List V) (k:T V->β),bZ t ps ds k=k (bZ t ps ds id)
 |t,p::ps,d::ds,k=>by
  simp only[bZ,T.setK_eq]
  exact BR _ ps ds k
 |t,[],[],k=>rfl
 |t,[],_::_,k=>rfl
 |t,_::_,[],k=>rfl
theorem Ga:∀ {ps:List Tmp} {ds:List D} {vs:List V} {t:T LD} {tv:T V},RL g ds vs->xP g [] t tv->xP g [] (kZ t ps ds id) (bZ tv ps vs id)
 |[],ds,vs,t,tv,r,h=>by cases ds<;>cases vs<;>exact h
 |p::ps,[],vs,t,tv,r,h=>by simp only[RL]at r;subst r;exact h
 |p::ps,d::ds,vs,t,tv,r,h=>by
  simp only[RL]at r
  obtain⟨v,vs',rfl,h1,h2⟩:=r
  simp only[kZ,bZ,T.setQ_eq,T.setK_eq]
  exact Ga h2 (h.put (some p) (x:=.g d) h1)
theorem Hu{go:FuncId->Func->rj}(hgo:∀ f fn,IP E f fn (go f fn)){o:Nat}{args:List D}(e:rD E go o args g.H=some out)(hok:Ok g){vs:List V}{l v:Nat}(hr:RL g args vs)(ho:g.O[o]? = some (some (l,v))) :
 ∃ vout,lim E.E (.round l vs) g.s=some vout/\iD g.s.next g.Pv g out vout:=by
 unfold rD at e
 split at e
 ·rename_i r f nt t ps a b' hH
  split at e
  ·rename_i fn hf
   obtain⟨hc,e⟩:=ay e
   obtain⟨fb,tv0,d,h1,h2,h3⟩:=hok.obj o _ hH
   rw[ho]at h1;cases h1
   rw[rE]at e
   have hFI:FI g.s.next g.Pv g (kZ t ps.toList args id) [] (bZ tv0 ps.toList vs id) [] :=
    ⟨hok,Ga hr h3,⟨rfl,fun k x f hk=>by simp at hk⟩,by simp,(fun f hf=>by cases hf),List.nodup_nil,Nat.le_refl _⟩
   obtain⟨vout,k1,k2⟩:=hgo f fn _ _ _ _ _ _ _ _ e g.s.next g.Pv g _ _ [] .run none (some l) rfl hFI rfl rfl ⟨rfl,l,0,rfl,ho⟩
   refine⟨vout,KN ?_,k2⟩
   rw[<- hr.len]at hc
   simp only[eJ,h2,uL,hf,hc,cond_true]
   rw[BR];exact k1
  ·cases e
 ·cases e
theorem Ij(hO:LB E){go:FuncId->Func->rj}(hgo:∀ f fn,IP E f fn (go f fn)):Fy E.E (GR E go):=by
 refine⟨?_,fun o args H out e g hH hok vs l v hr ho=>by subst hH;exact Hu hgo e hok hr ho⟩
 intro f args up H out e g hH hok vs upv hr hu
 subst hH
 have ent:wm E go f args up g.H=some out->∃ vout,lim E.E (.call f vs upv) g.s=some vout/\iD g.s.next g.Pv g out vout:=fun e=>by
  unfold wm at e
  split at e
  ·rename_i fn hf
   split at e
   ·rename_i c hb
    cases hng:(fn.name == "runtime.NumGoroutine" || E.vo f)with
    |true=>rw[hng]at e;cases e
    |false =>
     rw[hng]at e
     simp only[cond_false]at e
     obtain⟨hn1,hn2⟩:=Bool.or_eq_false_iff.1 hng
     have hstep:∀ o,fY args 0 .leaf (fun t=>go f fn t [] [.code c] [] .run up g.H)=some o->∃ vout,lim E.E (.call f vs upv) g.s=some vout/\iD g.s.next g.Pv g o vout:=fun o e=>by
      rw[nF]at e
      obtain⟨vout,h1,h2⟩:=hgo f fn _ _ _ _ _ _ _ _ e g.s.next g.Pv g _ _ [] .run upv none rfl (Jf hok hr) rfl rfl (pq.mk (fun o q=>by subst q;obtain⟨_,_,h⟩:=hu;exact h) hu)
      refine⟨vout,KN ?_,h2⟩
      have hent:sk (lim E.E) f vs upv g.s (E.E.P.funcs[f]?)=some vout:=by
       simp only[sk,hf,hb,hn1,cond_false]
       rw[qw];exact h1
      cases upv with
      |none=>simp only[eJ,hO.no f hn2 vs g.s,wF];exact hent
      |some u=>exact hent
     cases ht:(E.ann f).trim with
     |true=>rw[ht]at e;exact Ja e hok hstep
     |false=>rw[ht]at e;exact hstep _ e
   ·cases e
  ·cases e
 unfold GR at e
 split at e
 ·obtain⟨_,_,h⟩:=hu;exact h.elim
 rename_i hn
 unfold JT at e
 split at e
 ·rename_i d H' ho
  cases e
  cases up with
  |none =>
   cases hu
   exact hO.yes f args g.H d H' ho g rfl hok vs hr
  |some m=>cases ho
 ·exact ent e
theorem DI(hO:LB E){R:bv}(hR:Bn E R){go:FuncId->Func->rj}(hgo:∀ f fn,IP E f fn (go f fn)):Bn E (pI E R go):=by
 refine⟨Ij hO hgo,fun f fn=>?_⟩
 intro t L todo ds m up H out e b P0 g tv LO dsv mv upv rdv hH hf hd hm hu
 subst hH
 obtain⟨vout,h1,h2⟩:=HQ (Id (hR.frame f fn) (hgo f fn)) hR.call e hf hd hm hu
 exact⟨vout,KN h1,h2⟩
theorem mS(hO:LB E):∀ n,Bn E (dK E n)
 |0=>⟨⟨(fun _ _ _ _ _ e=>by cases e),(fun _ _ _ _ e=>by cases e)⟩,(fun _ _ _ _ _ _ _ _ _ _ e=>by cases e)⟩
 |n+1=>DI hO (mS hO n) (mS hO n).frame
end Go.AI
set_option linter.all false
noncomputable section
namespace Go.AI
variable[fj]
def xb(c:Nat->bv)(R:bv):Prop:=∀ j H o,R j H=some o->∃ n,∀ m,n<=m->c m j H=some o
def aU(c:Nat->bv)(R:bv)(Φ:bv->ag):Prop:=∀ x,Φ R=some x->∃ n,∀ m,n<=m->Φ (c m)=some x
section
variable{c:Nat->bv}{R:bv}{α β:Type}{E:cu}{an:gF}
theorem aU.const(x:ag):aU c R (fun _=>x):=fun _ h=>⟨0,fun _ _=>h⟩
theorem aU.al{d:(α->ag)->ag}(h:Al d){κ:bv->α->ag}(hk:∀ a,aU c R (fun ih=>κ ih a)):aU c R (fun ih=>d (κ ih)):=fun x e=>by
 obtain⟨a,ha⟩:=h (κ R) x e
 obtain⟨n,hn⟩:=hk a x ((ha (κ R)).symm.trans e)
 exact⟨n,fun m hm=>(ha (κ (c m))).trans (hn m hm)⟩
theorem aU.al2{d:(α->β->ag)->ag}(h:fG d){κ:bv->α->β->ag}(hk:∀ a b,aU c R (fun ih=>κ ih a b)):aU c R (fun ih=>d (κ ih)):=fun x e=>by
 obtain⟨a,b,ha⟩:=h (κ R) x e
 obtain⟨n,hn⟩:=hk a b x ((ha (κ R)).symm.trans e)
 exact⟨n,fun m hm=>(ha (κ (c m))).trans (hn m hm)⟩
theorem aU.cond(b:Bool){p q:bv->ag}(hp:aU c R p)(hq:aU c R q):aU c R (fun ih=>cond b (p ih) (q ih)):=by
 cases b
 ·exact hq
 ·exact hp
theorem aU.both{p q:bv->ag}(hp:aU c R p)(hq:aU c R q):aU c R (fun ih=>GU (p ih) (q ih)):=fun x e=>by
 obtain⟨h1,h2⟩:=zj e
 obtain⟨n1,k1⟩:=hp x h1
 obtain⟨n2,k2⟩:=hq x h2
 refine⟨max n1 n2,fun m hm=>?_⟩
 grind
theorem aU.notRnd(up:Option eB){p:bv->ag}(hp:aU c R p):aU c R (fun ih=>notRnd up (p ih)):=by
 unfold Go.AI.notRnd
 split
 ·exact .const _
 ·exact hp
theorem aU.brD(d:D){p q:bv->ag}(hp:aU c R p)(hq:aU c R q):aU c R (fun ih=>brD d (p ih) (q ih)):=by
 cases d<;>first|exact .const _|exact aU.cond _ hp hq|exact aU.both hp hq
theorem aU.ih(h:xb c R)(j:Bs)(H:DH):aU c R (fun ih=>ih j H):=fun o ho=>h j H o ho
theorem aU.callK2{x:bv->ag}(hx:aU c R x){kr:bv->D->DH->ag}{kp:bv->List ff->DH->ag}(h1:∀ d H,aU c R (fun ih=>kr ih d H))(h2:∀ p H,aU c R (fun ih=>kp ih p H)):aU c R (fun ih=>eK (x ih) (kr ih) (kp ih)):=fun y e=>by
 obtain⟨o,ho,hh⟩:=kD e
 obtain⟨n1,hn1⟩:=hx o ho
 obtain⟨oe,ou,oH⟩:=o
 rcases hh with⟨d,hd,e⟩|⟨p,hd,e⟩
 ·simp only at hd e;subst hd
  obtain⟨n2,hn2⟩:=h1 d oH y e
  exact⟨max n1 n2,fun m hm=>by show eK (x (c m)) _ _=_;rw[hn1 m (by omega)];exact hn2 m (by omega)⟩
 ·simp only at hd e;subst hd
  obtain⟨n2,hn2⟩:=h2 p oH y e
  exact⟨max n1 n2,fun m hm=>by show eK (x (c m)) _ _=_;rw[hn1 m (by omega)];exact hn2 m (by omega)⟩
theorem aU.want{ops:Array Oper}{t:T LD}{o:Oper}{kT kF:bv->T LD->ag}(h1:∀ t,aU c R (fun ih=>kT ih t))(h2:∀ t,aU c R (fun ih=>kF ih t)):aU c R (fun ih=>ut ops t o (kT ih) (kF ih)):=by
 unfold ut
 split
 ·exact h1 t
 ·split
  ·split
   ·split
    ·simp only[T.setQ_eq];exact .brD _ (h1 _) (h2 _)
    ·simp only[T.setQ_eq];exact .brD _ (h2 _) (h1 _)
   ·exact h2 t
   ·exact .const _
  ·exact .const _
theorem aU.put{t:T LD}{d:Option Tmp}{x:LD}{κ:bv->T LD->ag}(h:∀ t,aU c R (fun ih=>κ ih t)):aU c R (fun ih=>jp t d x (κ ih)):=by
 simp_all[cj]
theorem Na(h:xb c R){d:Option Tmp}{t:T LD}{ds:List pp}{up:Option eB}{k:bv->DA}{kp:bv->List ff->DA}(hk:∀ t L ds up H,aU c R (fun ih=>k ih t L ds up H))(hp:∀ p t L ds up H,aU c R (fun ih=>kp ih p t L ds up H))(x:xd) :
 aU c R (fun ih=>En an (uO ih) d t ds up (k ih) (kp ih) x):=by
 cases x with
 |val x L H=>simp only[En];exact aU.al2 (nc _ _ _ _) fun x H=>.put fun t=>hk _ _ _ _ _
 |skip L H=>simp only[En];exact .put fun t=>hk _ _ _ _ _
 |enter f args L H=>simp only[En];exact .callK2 (.ih h _ _) (fun x H=>aU.al2 (nc _ _ _ _) fun x H=>.put fun t=>hk _ _ _ _ _) fun p H=>hp _ _ _ _ _ _
 |defer df L H=>simp only[En];exact .notRnd _ (.put fun t=>hk _ _ _ _ _)
 |round o args L H=>simp only[En];exact .callK2 (.ih h _ _) (fun x H=>aU.al2 (nc _ _ _ _) fun x H=>.put fun t=>hk _ _ _ _ _) fun p H=>hp _ _ _ _ _ _
 |recover L H =>
  simp only[En]
  unfold kY
  split
  ·exact .const _
  ·exact .put fun t=>hk _ _ _ _ _
  ·exact .put fun t=>hk _ _ _ _ _
  ·exact .const _
 |panic v L H=>exact hp _ _ _ _ _ _
theorem mH(h:xb c R){ops:Array Oper}{k:bv->DA}{kp:bv->List ff->DA}(hk:∀ t L ds up H,aU c R (fun ih=>k ih t L ds up H))(hp:∀ p t L ds up H,aU c R (fun ih=>kp ih p t L ds up H)):∀(l:List Oper) t L ds up H,
 aU c R (fun ih=>nq E an ops (uO ih) l (k ih) (kp ih) t L ds up H)
 |[],t,L,ds,up,H=>hk _ _ _ _ _
 |o::l,t,L,ds,up,H=>.want (fun t=>aU.al2 (sx _ _ _ _ _ _) fun t x=>Na h (fun t L ds up H=>mH h hk hp l t L ds up H) hp x) (fun t=>.put fun t=>mH h hk hp l t L ds up H)
theorem qB{κ:bv->T LD->LD->LS->DH->ag}(h:∀ t x L H,aU c R (fun ih=>κ ih t x L H))(t:T LD)(x:xd):aU c R (fun ih=>oI (κ ih) t x):=by
 unfold oI
 split
 ·simp_all
 ·exact .const _
theorem EP{o:Oper}{hist:List (LS×DH)}{n w:Nat}{bs:T Nat}{t:T LD}{L:LS}{H:DH}{κ:bv->T LD->LD->LS->DH->Nat->ag}(h:∀ t x L H b,aU c R (fun ih=>κ ih t x L H b))(kd:Nat):aU c R (fun ih=>pc E an o hist n w bs t L H (κ ih) kd):=by
 unfold pc
 split
 ·split<;>simp_all[aU.al2,sx,qB]
 ·refine .cond _ ?_ (.const _)
  cases om an o.dst
  all_goals dsimp only
  rotate_left
  ·unfold uP
   split
   ·exact .const _
   ·split
    ·refine aU.al (mZ _) fun x=>?_
     split
     ·exact aU.al (QB _ _ _ _ _) fun _=>h _ _ _ _ _
     ·exact .const _
    ·exact .const _
  unfold uQ
  split
  ·exact .const _
  ·split
   ·simp_all[aU.al2,sx,qB]
   ·have q (M G r):aU c R (fun ih=>jr o.op E false t (eR M r) (cH G (r.map (·.2))) fun t x=>oI (fun t x _ _=>κ ih t x L H (bif se an o.dst then n else n - w)) t x):=aU.al2 (sx _ _ _ _ _ _) fun t x=>qB (fun t x _ _=>h _ _ _ _ _) t x
    unfold JI
    split
    ·simp_all[aU.al,mZ,Iq]
    ·exact q _ _ _
 ·simp_all[aU.al2,sx,qB]
 ·exact .const _
theorem aU.drop{t:T LD}{d:Option Tmp}{κ:bv->T LD->ag}(h:∀ t,aU c R (fun ih=>κ ih t)):aU c R (fun ih=>GK t d (κ ih)):=by
 cases d with
 |none=>exact h _
 |some d=>simp only[GK,T.setQ_eq];exact h _
theorem KP(h:xb c R){t:T LD}{κ:bv->T LD->LD->LS->DH->ag}(hk:∀ t x L H,aU c R (fun ih=>κ ih t x L H)){kp:bv->List ff->LS->DH->ag}(hp:∀ p L H,aU c R (fun ih=>kp ih p L H))(x:xd):aU c R (fun ih=>AN (uO ih) t (κ ih) (kp ih) x):=by
 cases x with
 |val x L H=>exact hk _ _ _ _
 |skip L H=>exact hk _ _ _ _
 |enter f args L H=>exact .callK2 (.ih h _ _) (fun x H=>hk _ _ _ _) fun p H=>hp _ _ _
 |_=>exact .const _
theorem gQ(h:xb c R){ops:Array Oper}{k:bv->T LD->LS->DH->ag}(hk:∀ t L H,aU c R (fun ih=>k ih t L H)){kp:bv->List ff->T LD->LS->DH->ag}(hp:∀ p t L H,aU c R (fun ih=>kp ih p t L H)):∀(sc:List (Option Nat×Nat)) hist n bs t L H,aU c R (fun ih=>fQ E an ops (uO ih) (k ih) (kp ih) sc hist n bs t L H)
 |[],hist,n,bs,t,L,H=>hk _ _ _
 |(w,i)::sc,hist,n,bs,t,L,H=>by
  simp only[fQ]
  split
  ·exact .const _
  ·split
   ·refine .want (fun t=>EP (fun t x L H b=>?_) _) (fun t=>.put fun t=>?_)
    ·exact aU.al2 (nc _ _ _ _) fun x H=>.put fun t=>by simp only[eW];exact gQ h hk hp sc _ _ _ _ _ _
    ·simp only[eW];exact gQ h hk hp sc _ _ _ _ _ _
   ·refine .want (fun t=>aU.al2 (sx _ _ _ _ _ _) fun t x=>KP h (fun t x L H=>?_) (fun p L H=>?_) x) (fun t=>.put fun t=>?_)
    ·exact aU.al2 (nc _ _ _ _) fun x H=>.put fun t=>by simp only[eW];exact gQ h hk hp sc _ _ _ _ _ _
    ·cases sc with
     |nil =>
      simp only
      split
      ·exact aU.drop fun t=>hp _ _ _ _
      ·exact .const _
     |cons x sc=>exact .const _
    ·simp only[eW];exact gQ h hk hp sc _ _ _ _ _ _
variable{f:FuncId}{fn:Func}{go:bv->rj}
theorem HT(h:xb c R)(hg:∀ t L todo ds m up H,aU c R (fun ih=>go ih t L todo ds m up H))(cd:Code)(k:List Item)(t:T LD)(L:LS)(ds:List pp)(up:Option eB)(H:DH):aU c R (fun ih=>kB cd E an f fn (go ih) (uO ih) k t L ds up H):=by
 cases cd with
 |ret=>exact .notRnd _ (hg _ _ _ _ _ _ _)
 |skip=>exact hg _ _ _ _ _ _ _
 |label _=>exact hg _ _ _ _ _ _ _
 |seq _ _=>exact hg _ _ _ _ _ _ _
 |block _ _=>exact hg _ _ _ _ _ _ _
 |loop _=>exact hg _ _ _ _ _ _ _
 |scope _=>exact hg _ _ _ _ _ _ _
 |exit id =>
  simp only[kB];unfold yI;split;· exact hg _ _ _ _ _ _ _
  ·exact .const _
 |goto l =>
  simp only[kB];unfold yI;split;· exact hg _ _ _ _ _ _ _
  ·exact .const _
 |cond cc a b =>
  simp only[kB,pM]
  exact aU.al (cJ _) fun d=>.brD _ (hg _ _ _ _ _ _ _) (hg _ _ _ _ _ _ _)
 |region id ops draw =>
  cases draw with
  |true =>
   simp only[kB]
   split
   ·exact .const _
   split
   ·exact gQ h (fun _ _ _=>hg _ _ _ _ _ _ _) (fun _ _ _ _=>hg _ _ _ _ _ _ _) _ _ _ _ _ _ _
   ·exact .const _
  |false =>
   simp only[kB]
   split
   rotate_left
   ·exact .const _
   ·exact mH h (fun t L ds up H=>hg _ _ _ _ _ _ _) (fun p t L ds up H=>hg _ _ _ _ _ _ _) _ _ _ _ _ _
 |rangeFunc g ps a b =>
  simp only[kB]
  refine aU.al (cJ _) fun d=>?_
  unfold zU HP
  split
  ·split
   ·refine .notRnd _ (.callK2 (.ih h _ _) (fun x H=>?_) fun p H=>hg _ _ _ _ _ _ _)
    unfold yz
    split
    ·simp_all
    ·exact .const _
   ·exact .const _
  ·exact .const _
 |refuse _=>exact .const _
theorem Qp{go1 go2:rj}{t:T LD}{L:LS}{ds:List pp}{up:Option eB}{d:D}{u:eB}{H:DH}{y z:hJ}(e:pj go1 t L ds up (some ⟨.ret d,some u,H⟩)=some z)(h:go2 t L [] ds (tO u) up H=some y):pj go2 t L ds up (some ⟨.ret d,some u,H⟩)=some y:=by
 cases u with
 |run=>cases e
 |round _=>cases e
 |returning=>exact h
 |panicking c =>
  cases c with
  |nil=>exact h
  |cons x r=>obtain⟨v,q⟩:=x;cases q<;>exact h
theorem Nr{go1 go2:rj}{t:T LD}{L:LS}{ds:List pp}{up:Option eB}{c:List ff}{u:eB}{H:DH}{y z:hJ}(e:pj go1 t L ds up (some ⟨.pan c,some u,H⟩)=some z)(h:go2 t L [] ds (zW u c) up H=some y):pj go2 t L ds up (some ⟨.pan c,some u,H⟩)=some y:=by
 cases u with
 |run=>cases e
 |round _=>cases e
 |returning=>exact h
 |panicking o=>exact h
theorem vX(t:T LD)(L:LS)(up:Option eB)(H:DH)(m:eB):aU c R (fun _=>iO E an fn t L up H m):=.const _
theorem EO(h:xb c R)(hg:∀ t L todo ds m up H,aU c R (fun ih=>go ih t L todo ds m up H))(t:T LD)(L:LS)(todo:List Item)(ds:List pp)(m:eB)(up:Option eB)(H:DH):aU c R (fun ih=>sf E an f fn (go ih) (uO ih) t L todo ds m up H):=by
 have unw:∀ m,aU c R (fun ih=>im ds E an fn (go ih) (uO ih) t L m up H):=fun m=>by
  cases ds with
  |nil=>exact vX t L up H m
  |cons x ds =>
   cases x with
   |coll o =>
    simp only[im]
    unfold qO
    split
    ·simp_all
    ·exact .const _
   |call x =>
   obtain⟨f,cap,args⟩:=x
   intro y e
   simp only[im]at e ⊢
   obtain⟨u,H',⟨d,hr,hne,e'⟩|⟨c',hr,e'⟩⟩:=ww e
   ·obtain⟨n1,hn1⟩:=aU.ih h (.call f (args++cap) (some m)) H _ hr
    obtain⟨n2,hn2⟩:=hg _ _ _ _ _ _ _ y e'
    refine⟨max n1 n2,fun q hq=>?_⟩
    grind [uO,Qp]
   ·obtain⟨n1,hn1⟩:=aU.ih h (.call f (args++cap) (some m)) H _ hr
    obtain⟨n2,hn2⟩:=hg _ _ _ _ _ _ _ y e'
    refine⟨max n1 n2,fun q hq=>?_⟩
    grind [uO,Nr]
 cases m with
 |run =>
  cases todo with
  |nil =>
   simp only[sf,FN,vF]
   split
   ·exact .const _
   simp_all
  |cons i k =>
   cases i with
   |code cd=>exact HT h hg cd _ _ _ _ _ _
   |inBlock _=>exact hg _ _ _ _ _ _ _
   |inScope _=>exact hg _ _ _ _ _ _ _
   |inLoop _=>exact hg _ _ _ _ _ _ _
   |beginRound =>
    simp only[sf,FN,KA]
    unfold Fm
    split
    ·unfold In
     split
     ·simp_all
     ·exact .const _
    ·exact .const _
   |_=>exact .const _
 |returning=>exact unw _
 |panicking p=>exact unw _
 |round _=>exact .const _
theorem ye(t:T LD):∀ l,Al (uE t l)
 |[]=>.ret []
 |i::r=>(mZ _).bind fun x=>(ye t r).map (x::·)
theorem Nb{ih' go':bv->rj}(h1:∀ t L todo ds m up H,aU c R (fun ih=>ih' ih t L todo ds m up H))(h2:∀ t L todo ds m up H,aU c R (fun ih=>go' ih t L todo ds m up H))(t:T LD)(L:LS)(todo:List Item)(ds:List pp)(m:eB)(up:Option eB)(H:DH) :
 aU c R (fun ih=>Da an (ih' ih) (go' ih) t L todo ds m up H):=by
 unfold Da
 split
 ·split
  ·exact aU.al (ye _ _) fun xs=>.cond _ (h1 _ _ _ _ _ _ _) (.const _)
  ·exact h2 _ _ _ _ _ _ _
 ·exact h2 _ _ _ _ _ _ _
theorem sh(h:xb c R){go':bv->FuncId->Func->rj}(hg:∀ f fn t L todo ds m up H,aU c R (fun ih=>go' ih f fn t L todo ds m up H))(j:Bs)(H:DH):aU c R (fun ih=>pI E ih (go' ih) j H):=by
 cases j with
 |frame f fn t L todo ds m up=>exact EO h (fun t L todo ds m up H=>Nb (fun t L todo ds m up H=>.ih h _ _) (hg f fn) t L todo ds m up H) _ _ _ _ _ _ _
 |call f args up =>
  simp only[pI]
  have ent:aU c R (fun ih=>wm E (go' ih) f args up H):=by
   unfold wm
   split
   ·split
    ·refine .cond _ (.const _) (.cond _ ?_ ?_)
     ·simp only[nF args 0 .leaf (fun t=>go' _ _ _ t _ _ _ _ _ _)]
      intro y e
      change pF H (go' R f _ (fY args 0 T.leaf id) [] _ [] eB.run up H)=some y at e
      cases ho:go' R f ‹Func› (fY args 0 T.leaf id) [] [Item.code ‹Code›] [] eB.run up H with
      |none=>rw[ho]at e;cases e
      |some o =>
       obtain⟨n,hn⟩:=hg _ _ _ _ _ _ _ _ _ o ho
       refine⟨n,fun m hm=>?_⟩
       show pF H (go' (c m) f _ (fY args 0 T.leaf id) [] _ [] eB.run up H)=some y
       rw[show go' (c m) f _ (fY args 0 T.leaf id) [] _ [] eB.run up H=some o from hn m hm,<- ho];exact e
     ·simp only[nF args 0 .leaf (fun t=>go' _ _ _ t _ _ _ _ _ _)]
      exact hg _ _ _ _ _ _ _ _ _
    ·exact .const _
   ·exact .const _
  unfold GR
  split
  ·unfold rD
   split
   ·split
    ·refine .cond _ ?_ (.const _)
     simp only[rE _ _ _ (fun t=>go' _ _ _ t _ _ _ _ _ _)]
     exact hg _ _ _ _ _ _ _ _ _
    ·exact .const _
   ·exact .const _
  ·unfold JT
   split
   ·exact .const _
   ·exact ent
end
def ed(E:cu):bv:=fun j H=>open Classical in if h:∃ o n,dK E n j H=some o then some h.choose else none
theorem CZ(E:cu):∀ n j H o,dK E n j H=some o->dK E (n+1) j H=some o
 |0,_,_,_,h=>by cases h
 |n+1,j,H,o,h=>by
  have hl:xb (fun _=>dK E (n+1)) (dK E n):=fun j H o h=>⟨0,fun _ _=>CZ E n j H o h⟩
  obtain⟨k,hk⟩:=sh (E:=E) hl (go':=fun ih=>II ih) (fun f fn t L todo ds m up H=>.ih hl _ _) j H o h
  exact hk k (Nat.le_refl _)
theorem AW(E:cu){n m:Nat}(hm:n<=m){j:Bs}{H:DH}{o:hJ}(h:dK E n j H=some o):dK E m j H=some o:=by
 induction hm with
 |refl=>exact h
 |step _ ih=>exact CZ E _ j H o ih
theorem KY{E:cu}{n:Nat}{j:Bs}{H:DH}{o:hJ}(h:dK E n j H=some o):ed E j H=some o:=by
 have hex:∃ o n,dK E n j H=some o:=⟨o,n,h⟩
 unfold ed
 rw[dif_pos hex]
 obtain⟨m,hm⟩:=hex.choose_spec
 have h1:=AW E (Nat.le_max_left n m) h
 grind [AW,Nat.le_max_right,Option.some.inj]
theorem vC{E:cu}{j:Bs}{H:DH}{o:hJ}(h:ed E j H=some o):∃ n,dK E n j H=some o:=by
 unfold ed at h
 split at h
 ·grind
 ·cases h
theorem Ch(E:cu):xb (dK E) (ed E):=fun j H o h=>by
 obtain⟨n,hn⟩:=vC h
 exact⟨n,fun m hm=>AW E hm hn⟩
theorem GL(E:cu)(j:Bs)(H:DH):ed E j H=pI E (ed E) (II (ed E)) j H:=by
 cases h:pI E (ed E) (II (ed E)) j H with
 |some o =>
  obtain⟨n,hn⟩:=sh (E:=E) (Ch E) (go':=fun ih=>II ih) (fun f fn t L todo ds m up H=>.ih (Ch E) _ _) j H o h
  exact KY (n:=n+1) (hn n (Nat.le_refl _))
 |none =>
  cases h2:ed E j H with
  |none=>rfl
  |some o =>
   obtain⟨n,hn⟩:=vC h2
   cases n with
   |zero=>cases hn
   |succ n =>
    have hl:xb (fun _=>ed E) (dK E n):=fun j H o h=>⟨0,fun _ _=>KY h⟩
    obtain⟨k,hk⟩:=sh (E:=E) hl (go':=fun ih=>II ih) (fun f fn t L todo ds m up H=>.ih hl _ _) j H o hn
    have h3:pI E (ed E) (II (ed E)) j H=some o:=hk k (Nat.le_refl _)
    grind
theorem CV(E:cu):∀ n,IT E (ed E) n=ed E
 |0=>rfl
 |n+1=>by
  funext j H
  simp_all[IT,CV,GL]
theorem EY{E:cu}(hO:LB E):Bn E (ed E):=by
 refine⟨⟨fun f args up H out e g hH hok vs upv hr hu=>?_,fun o args H out e g hH hok vs l v hr ho=>?_⟩,fun f fn t L todo ds m up H out e b P0 g tv LO dsv mv upv rdv hH hf hd hm hu=>?_⟩
 ·obtain⟨n,hn⟩:=vC e
  exact(mS hO n).call.c f args up H out hn g hH hok vs upv hr hu
 ·obtain⟨n,hn⟩:=vC e
  exact(mS hO n).call.r o args H out hn g hH hok vs l v hr ho
 ·obtain⟨n,hn⟩:=vC e
  exact(mS hO n).frame f fn t L todo ds m up H out hn b P0 g tv LO dsv mv upv rdv hH hf hd hm hu
end Go.AI
set_option linter.all false
noncomputable section
namespace Go.Proofs.YtenibcfppefobaaGreatDoor.Rd
open Go.AI Go.Proofs Go.ChangeShapes Go.Proofs.YtenibcfppefobaaGreatDoor
inductive Ck where
 |bool|int|str|sl (t:Nat)
def IY:List Nat:=[22,23]
def Kt(P:Program)(Cj:Nat->Option (List Ck)):List Field->Nat->Option (List Ck)
 |[],_=>some []
 |f::r,off=>bif Nat.beq f.offset off then(match Cj f.type with
  |some l=>bif Nat.beq l.length (P.cellsOf f.type)then(match Kt P Cj r (off+l.length)with
   |some m=>some (l++m)
   |none=>none)else none
  |none=>none)else none
def EF(P:Program):Nat->TypeId->Option (List Ck)
 |0,_=>none
 |n+1,t=>match P.underlying t with
  |some .bool=>some [.bool]
  |some (.int .i64)=>some [.int]
  |some .string=>some [.str]
  |some (.slice _)=>bif IY.contains t then some [.sl t] else none
  |some (.struct fs)=>Kt P (EF P n) fs.toList 0
  |_=>none
abbrev EE(n:Nat)(t:TypeId):Option (List Ck):=EF Tryz.prog n t
def Cj(t:Nat):List Ck:=match Tryz.prog.underlying t with
 |some (.slice e)=>(EE 8 e).getD []
 |_=>[]
def Um(t:Nat):Bool:=match Tryz.prog.underlying t with
 |some (.slice e)=>(match EE 8 e with
  |some l=>Nat.blt 0 l.length&&(Nat.beq (Tryz.prog.cellsOf e) l.length&&((match size Tryz.prog e with
   |some n=>Nat.beq n l.length
   |none=>false)&&Nat.blt 0 (Tryz.prog.bytesOf e)))
  |none=>false)
 |_=>false
theorem Jd:(IY.all fun t=>(Nat.blt t 512&&!Nat.beq t 127)&&Um t)=true:=by kernel_rfl
def sd(t i:Nat):Ck:=(Cj t).getD (i%(Cj t).length) .bool
def bytesOf(s:ByteArray):List Nat:=s.data.toList.map UInt8.toNat
theorem Ik(s:ByteArray):av (bytesOf s)=s:=by
 obtain⟨a⟩:=s
 simp only[av,bytesOf,List.map_map]
 congr 1
 have:(UInt8.ofNat ∘ UInt8.toNat)=id:=by funext x;simp
 simp_all
theorem Le(s:ByteArray):∀ b∈bytesOf s,b<256:=by
 intro b hb
 simp only[bytesOf,List.mem_map]at hb
 obtain⟨x,_,rfl⟩:=hb
 exact x.toNat_lt
def DL:Option Nat->Nat
 |none=>0
 |some n=>n+1
theorem Ec(o:Option Nat):FZ (DL o)=o:=by cases o<;>rfl
def Dv(N t:Nat)(a:Addr)(len cap:Nat):Option V :=
 if cap=0 then(if len=0 then some (.slice ⟨a.block,DL a.spot,a.off⟩ 0 0 (some 0) 0)else none)
 else if a.spot=none/\len<=cap/\a.block<N/\0<(Cj t).length then some (.slice ⟨a.block,a.off*512+t,1+a.off⟩ 0 len (some cap) (Cj t).length)else none
def sD(N:Nat):Ck->Value->Option V
 |.bool,.bool b=>some (.bool b)
 |.int,.int .i64 n=>some (.int .i64 n)
 |.str,.string s=>some (.str (bytesOf s))
 |.sl _,.slice none 0 0=>some .nilslice
 |.sl t,.slice (some a) len cap=>Dv N t a len cap
 |_,_=>none
def Ro(N:Nat):au:=fun f _=>if f<N then some ⟨f,1,0⟩else none
theorem CX{N:Nat}{k:Ck}{v:Value}{x:V}(h:sD N k v=some x):den (Ro N) x=some v:=by
 unfold sD at h
 split at h
 ·cases h;rfl
 ·cases h;rfl
 ·cases h;simp only[den,Ik]
 ·cases h;rfl
 ·rename_i t a len cap
  unfold Dv at h
  split at h
  ·rename_i hc
   split at h
   ·rename_i hl
    cases h;subst hc;subst hl
    simp only[den,gp,if_true,and_self,Ec]
   ·cases h
  ·split at h
   ·rename_i hc
    obtain⟨h1,h2,h3,h4⟩:=hc
    cases h
    have hr:Ro N a.block (a.off*512+t)=some ⟨a.block,1,0⟩:=by simp[Ro,h3]
    have:=cV (ρ:=Ro N) (a:=⟨a.block,a.off*512+t,1+a.off⟩) (z:=0) (len:=len) (cap:=some cap) (sz:=(Cj t).length) hr (by simp[aY]) (by simp) (by simpa[bV]using h2) h4
    rw[this]
    obtain⟨b,o,sp⟩:=a
    simp only at h1
    subst h1
    simp[aY,bV]
   ·cases h
 ·cases h
def gC(N:Nat)(t:Nat->Ck):Nat->List Value->List V
 |_,[]=>[]
 |i,c::r=>match sD N (t i) c with
  |some x=>x::gC N t (i+1) r
  |none=>[]
theorem wV{N:Nat}{t:Nat->Ck}:∀(i:Nat) (cs:List Value) (j:Nat) (x:V),(gC N t i cs)[j]? = some x->∃ y,den (Ro N) x=some y/\cs[j]? = some y
 |i,[],j,x,h=>by simp[gC]at h
 |i,c::r,j,x,h=>by
  simp only[gC]at h
  split at h
  ·rename_i x' hx
   cases j with
   |zero=>simp at h;subst h;exact⟨c,CX hx,rfl⟩
   |succ j=>exact wV (i+1) r j x (by simpa using h)
  ·simp at h
def Iz(N:Nat):Value->Option V
 |.int k n=>some (.int k n)
 |.nilIface=>some .nilIface
 |.iface te (.pointer (some ⟨b,off,none⟩))=>if b<N then some (.iface te (.ptr ⟨b,0,1+off⟩))else none
 |_=>none
theorem KW{N:Nat}{v:Value}{x:V}(h:Iz N v=some x):den (Ro N) x=some v:=by
 unfold Iz at h
 grind [Ro,den,gU]
def jd(N:Nat):List Value->Option (List V)
 |[]=>some []
 |c::r=>match Iz N c with
  |some x=>match jd N r with
   |some l=>some (x::l)
   |none=>none
  |none=>none
theorem wX{N:Nat}:∀ {l:List Value} {m:List V},jd N l=some m->m.length=l.length/\∀(i:Nat) (x:V),m[i]? = some x->∃ y,den (Ro N) x=some y/\l[i]? = some y
 |[],m,h=>by cases h;exact⟨rfl,fun i x h=>by simp at h⟩
 |c::r,m,h=>by
  simp only[jd]at h
  split at h
  ·rename_i x hx
   split at h
   ·rename_i l hl
    cases h
    obtain⟨h1,h2⟩:=wX hl
    refine⟨by simp[h1],fun i z hz=>?_⟩
    cases i with
    |zero=>simp at hz;subst hz;exact⟨c,KW hx,rfl⟩
    |succ i=>simpa using h2 i z (by simpa using hz)
   ·cases h
  ·cases h
def uq(N:Nat)(c:List Value):List lW:=match jd N c with
 |some l=>[⟨127,1,l⟩]
 |none=>[]
def oG(N:Nat)(c:List Value):List lW:=uq N c++(List.range c.length).flatMap fun off=>IY.map fun t=>⟨off*512+t,1+off,gC N (sd t) 0 (c.drop off)⟩
def zk(N:Nat):Option Obj->dB
 |some (.cells c _ _)=>.ro (oG N c.toList)
 |_=>.ro []
theorem vU{v:Nat}{u:lW}:∀ {vers:List lW},u∈vers->u.v=v->(∀ u'∈vers,u'.v=v->u'=u)->be vers v=some u
 |[],h,_,_=>by cases h
 |w::r,h,hv,hu=>by
  simp only[be]
  cases hb:Nat.beq w.v v with
  |true=>rw[hu w (by simp) (Nat.eq_of_beq_eq_true hb)];rfl
  |false =>
   rcases List.mem_cons.1 h with rfl|h
   ·simp_all
   ·exact vU h hv fun u' hu'=>hu u' (List.mem_cons_of_mem _ hu')
theorem IW{t:Nat}(h:t∈IY):t<512/\t≠127:=by
 have:=List.all_eq_true.1 Jd t h
 simp only[Bool.and_eq_true,Bool.not_eq_true']at this
 refine⟨Nat.lt_of_succ_le (Nat.le_of_ble_eq_true this.1.1),fun e=>?_⟩
 simp_all
theorem IX{t:Nat}(h:t∈IY):t<512:=(IW h).1
theorem FF{N:Nat}{c:List Value}{u:lW}(h:u∈uq N c):u.v=127/\u.lo=1/\jd N c=some u.cells:=by
 grind [uq]
theorem JB{N:Nat}{c:List Value}{u:lW}(h:u∈(List.range c.length).flatMap fun off=>IY.map fun t=>(⟨off*512+t,1+off,gC N (sd t) 0 (c.drop off)⟩:lW)):∃ off t,off<c.length/\t∈IY/\u=⟨off*512+t,1+off,gC N (sd t) 0 (c.drop off)⟩:=by
 grind
theorem IV{t off:Nat}(h:t∈IY):off*512+t≠127:=by
 have:=IW h;omega
theorem AE{N:Nat}{c:List Value}{off t:Nat}(h:off<c.length)(ht:t∈IY):be (oG N c) (off*512+t)=some ⟨off*512+t,1+off,gC N (sd t) 0 (c.drop off)⟩:=by
 refine vU (List.mem_append_right _ ?_) rfl ?_
 ·simp only[List.mem_flatMap,List.mem_range,List.mem_map]
  grind
 ·intro u' hu' hv
  rcases List.mem_append.1 hu' with hu'|hu'
  ·rw[(FF hu').1]at hv
   exact absurd hv.symm (IV ht)
  ·obtain⟨o,t',ho,ht',rfl⟩:=JB hu'
   simp only at hv
   have h1:=IX ht
   have h2:=IX ht'
   grind
theorem xF{N:Nat}{c:List Value}{l:List V}(h:jd N c=some l):be (oG N c) 127=some ⟨127,1,l⟩:=by
 have:uq N c=[⟨127,1,l⟩]:=by unfold uq;rw[h]
 unfold oG
 rw[this]
 rfl
def Pk(N:Nat)(W:World):Nat->S
 |0=>⟨.leaf,0⟩
 |n+1=>(Pk N W n).alloc (zk N W.heap[n]?)
theorem kh(N:Nat)(W:World):∀ n,(Pk N W n).next=n
 |0=>rfl
 |n+1=>by simp only[Pk,S.next_alloc,kh N W n]
theorem tV(N:Nat)(W:World):∀ n f,(Pk N W n).get f=if f<n then some (zk N W.heap[f]?)else none
 |0,f=>by simp only[Pk,S.get_eq,T.get_leaf];simp
 |n+1,f=>by
  simp only[Pk,S.get_alloc,kh,tV N W n f]
  grind
def bO(W:World):S:=Pk W.heap.size W W.heap.size
theorem uC{W:World}{f:Nat}{B:dB}(h:(bO W).get f=some B):f<W.heap.size/\B=zk W.heap.size W.heap[f]?:=by
 grind [bO,tV]
theorem Lf(N:Nat)(o:Option Obj):∃ vs,zk N o=.ro vs:=by
 unfold zk
 split
 ·grind
 grind
theorem FP(W:World):HR (Ro W.heap.size) (bO W) W:=by
 refine⟨?_,?_,?_,?_,?_,?_⟩
 ·intro f v hf
  unfold bO at hf
  rw[kh]at hf
  simp[Ro,show ¬ f<W.heap.size by omega]
 ·intro f v l f' v' l' e e' hb
  unfold Ro at e e'
  split at e
  ·split at e'
   ·cases e;cases e';exact⟨hb,rfl⟩
   ·cases e'
  ·cases e
 ·intro f v l e
  unfold Ro at e
  split at e
  ·rename_i hf;cases e;exact hf
  ·cases e
 ·intro f B hB
  obtain⟨hf,rfl⟩:=uC hB
  unfold zk
  split
  ·rename_i c e fz ho
   intro u hu
   have hr:∀ v,Ro W.heap.size f v=some ⟨f,1,0⟩:=fun v=>by simp[Ro,hf]
   rcases List.mem_append.1 hu with hu|hu
   ·obtain⟨h1,h2,h3⟩:=FF hu
    obtain⟨h4,h5⟩:=wX h3
    refine⟨⟨⟨f,1,0⟩,c,e,fz,hr _,ho,by simp[h2],fun i x hx=>?_⟩,⟨⟨f,1,0⟩,c,e,fz,hr _,rfl,ho,fun _=>⟨h2.symm,by rw[h4,Array.length_toList]⟩⟩⟩
    obtain⟨y,h6,h7⟩:=h5 i x hx
    refine⟨y,h6,?_⟩
    rw[Array.getElem?_toList]at h7
    rw[h2]
    simpa using h7
   ·obtain⟨off,t,hoff,ht,rfl⟩:=JB hu
    refine⟨⟨⟨f,1,0⟩,c,e,fz,hr _,ho,by simp,fun i x hx=>?_⟩,⟨⟨f,1,0⟩,c,e,fz,hr _,rfl,ho,fun hv=>absurd hv (IV ht)⟩⟩
    obtain⟨y,h1,h2⟩:=wV 0 _ i x hx
    refine⟨y,h1,?_⟩
    rw[List.getElem?_drop,Array.getElem?_toList]at h2
    simp only
    rw[show 1+off - 1+i=off+i by omega]
    exact h2
  ·intro u hu;cases hu
 ·intro f B hB
  have:=(uC hB).1
  unfold bO
  rw[kh];exact this
 ·intro f B hB hn
  obtain⟨_,rfl⟩:=uC hB
  obtain⟨vs,hv⟩:=Lf W.heap.size W.heap[f]?
  exact absurd hv (hn vs)
theorem Mb(W:World):WF (bO W):=(FP W).dom
end Go.Proofs.YtenibcfppefobaaGreatDoor.Rd
set_option linter.all false
noncomputable section
namespace Go.Proofs.YtenibcfppefobaaGreatDoor.Rd
open Go.AI Go.Proofs Go.ChangeShapes Go.Proofs.YtenibcfppefobaaGreatDoor
def jg(N:Nat):List Ck->List Value->List V->Prop
 |[],[],[]=>True
 |k::ks,c::cs,x::xs=>sD N k c=some x/\jg N ks cs xs
 |_,_,_=>False
theorem jg.get{N:Nat}:∀ {ks:List Ck} {cs:List Value} {l:List V},jg N ks cs l->ks.length=l.length/\cs.length=l.length/\∀(j:Nat) (x:V),l[j]? = some x->∃ y,cs[j]? = some y/\sD N (ks.getD j .bool) y=some x
 |[],[],[],_=>⟨rfl,rfl,fun j x h=>by simp at h⟩
 |k::ks,c::cs,x::xs,h=>by
  obtain⟨h1,h2,h3⟩:=jg.get h.2
  refine⟨by simp[h1],by simp[h2],fun j z hz=>?_⟩
  cases j with
  |zero=>simp at hz;subst hz;exact⟨c,rfl,h.1⟩
  |succ j=>simpa using h3 j z (by simpa using hz)
 |[],[],_::_,h=>h.elim
 |[],_::_,_,h=>h.elim
 |_::_,[],_,h=>h.elim
 |_::_,_::_,[],h=>h.elim
theorem jg.den{N:Nat}:∀ {ks:List Ck} {cs:List Value} {l:List V},jg N ks cs l->aM (Ro N) l=some cs
 |[],[],[],_=>rfl
 |k::ks,c::cs,x::xs,h=>by simp only[aM,CX h.1,jg.den h.2]
 |[],[],_::_,h=>h.elim
 |[],_::_,_,h=>h.elim
 |_::_,[],_,h=>h.elim
 |_::_,_::_,[],h=>h.elim
theorem Lv{N:Nat}{k:Ck}{v:Value}{x:V}(h:sD N k v=some x):x.one=true:=by
 unfold sD at h
 split at h
 ·cases h;rfl
 ·cases h;rfl
 ·cases h;rfl
 ·cases h;rfl
 ·unfold Dv at h
  (repeat' split at h)<;>first|(cases h;done)|(cases h;rfl)
 ·cases h
theorem jg.one{N:Nat}:∀ {ks:List Ck} {cs:List Value} {l:List V},jg N ks cs l->l.all V.one=true
 |[],[],[],_=>rfl
 |k::ks,c::cs,x::xs,h=>by simp only[List.all_cons,Lv h.1,jg.one h.2,Bool.and_self]
 |[],[],_::_,h=>h.elim
 |[],_::_,_,h=>h.elim
 |_::_,[],_,h=>h.elim
 |_::_,_::_,[],h=>h.elim
theorem wG{α:Type}{Q:Nat->α->Prop}:∀(n:Nat),(∀ k,k<n->∃ z,Q k z)->∃ xs:List α,xs.length=n/\∀ k z,xs[k]? = some z->Q k z
 |0,_=>⟨[],rfl,fun k z h=>by simp at h⟩
 |n+1,h=>by
  obtain⟨xs,h1,h2⟩:=wG n fun k hk=>h k (by omega)
  obtain⟨z,hz⟩:=h n (by omega)
  refine⟨xs++[z],by simp[h1],fun k y hy=>?_⟩
  grind
section
variable{H:Type}{enc:TypeId×Value->H}{W:World}{fuel:Nat}{t:TypeId}{cs:List Value}{x:DataW H×List MemPlace}
abbrev Td(enc:TypeId×Value->H)(W:World)(fuel:Nat)(t:TypeId)(cs:List Value):Option (DataW H×List MemPlace):=DataW.trod enc Tryz.prog W 0 (fun _=>true) true fuel t cs
def Wt(t:TypeId)(d:DataW H):Prop:=∀ n∈DataW.weights Tryz.prog t d,n<=reachBytes
theorem lZ{e:TypeId}:∀ {ds:List (DataW H)} {d:DataW H},d∈ds->∀ n∈DataW.weights Tryz.prog e d,n∈DataW.weightsAll Tryz.prog e ds
 |[],_,h,_,_=>by cases h
 |x::r,d,h,n,hn=>by
  rw[DataW.weightsAll]
  rcases List.mem_cons.1 h with rfl|h
  ·grind
  ·exact List.mem_append_right _ (lZ h n hn)
theorem iJ:∀ {ts:List TypeId} {ds:List (DataW H)} {i:Nat} {t:TypeId} {d:DataW H},ts[i]? = some t->ds[i]? = some d->∀ n∈DataW.weights Tryz.prog t d,n∈DataW.weightsEach Tryz.prog ts ds
 |[],_,i,_,_,h,_,_,_=>by simp at h
 |_::_,[],i,_,_,_,h,_,_=>by simp at h
 |t::ts,d::ds,0,_,_,h,k,n,hn=>by
  simp at h k;subst h;subst k
  rw[DataW.weightsEach]
  grind
 |t::ts,d::ds,i+1,_,_,h,k,n,hn=>by
  rw[DataW.weightsEach]
  exact List.mem_append_right _ (iJ (ts:=ts) (ds:=ds) (i:=i) (by simpa using h) (by simpa using k) n hn)
theorem zn{N:Nat}{t:Nat->Ck}:∀(m i:Nat) (cs:List Value),(∀ j,j<m->∃ y x,cs[j]? = some y/\sD N (t (i+j)) y=some x) ->
 ∀ j,j<m->∀ y x,cs[j]? = some y->sD N (t (i+j)) y=some x->(gC N t i cs)[j]? = some x
 |0,i,cs,_,j,hj,_,_,_,_=>by omega
 |m+1,i,[],h,j,hj,_,_,e,_=>by simp at e
 |m+1,i,c::cs,h,j,hj,y,x,e,k=>by
  obtain⟨y0,x0,h1,h2⟩:=h 0 (by omega)
  simp at h1;subst h1
  simp only[Nat.add_zero]at h2
  simp only[gC,h2]
  cases j with
  |zero =>
   grind
  |succ j =>
   have ih:=zn m (i+1) cs (fun j hj=>by
    obtain⟨y,x,h3,h4⟩:=h (j+1) (by omega)
    exact⟨y,x,by simpa using h3,by rw[show i+1+j=i+(j+1)by omega];exact h4⟩) j (by omega) y x (by simpa using e) (by rw[show i+1+j=i+(j+1)by omega];exact k)
   simpa using ih
theorem Dg{w:World}{a:Addr}{v:Value}(h:w.cell? a=some v):∃ c e fz,w.heap[a.block]? = some (.cells c e fz)/\a.spot=none/\c[a.off]? = some v:=by
 unfold World.cell? at h
 split at h
 ·simp_all
 ·cases h
theorem mb:∀(l:List V) (n:Nat),n<=l.length->aN n l=some (l.take n)
 |l,0,_=>by cases l<;>rfl
 |[],n+1,h=>by simp at h
 |x::r,n+1,h=>by simp only[aN,mb r n (by simpa using h),Option.map,List.take_succ_cons]
end
theorem jg.app{N:Nat}:∀ {ks:List Ck} {cs:List Value} {l:List V} {ks':List Ck} {cs':List Value} {l':List V},jg N ks cs l->jg N ks' cs' l'->jg N (ks++ks') (cs++cs') (l++l')
 |[],[],[],_,_,_,_,h=>h
 |k::ks,c::cs,x::xs,_,_,_,h,h'=>⟨h.1,jg.app h.2 h'⟩
 |[],[],_::_,_,_,_,h,_=>h.elim
 |[],_::_,_,_,_,_,h,_=>h.elim
 |_::_,[],_,_,_,_,h,_=>h.elim
 |_::_,_::_,[],_,_,_,h,_=>h.elim
mutual
def cnt:D->Nat
 |.row _ l=>wB l+1
 |_=>1
def mU:List D->Nat
 |[]=>0
 |d::r=>cnt d+mU r
def wB:List (List D)->Nat
 |[]=>0
 |c::r=>mU c+wB r
end
theorem Dd:∀(a b:List D),mU (a++b)=mU a+mU b
 |[],b=>by simp[mU]
 |d::r,b=>by simp only[List.cons_append,mU,Dd r b];omega
theorem uY{H:Type}(d:DataW H):1<=Rows.uptoBulk d:=by
 cases d with
 |lit l=>cases l<;>simp[Rows.uptoBulk]
 |nil=>simp[Rows.uptoBulk]
 |ptr d=>simp[Rows.uptoBulk]
 |slice elems spare=>simp[Rows.uptoBulk]
 |agg parts=>simp[Rows.uptoBulk]
 |iface t d=>simp[Rows.uptoBulk]
 |map entries=>simp[Rows.uptoBulk]
 |held h=>simp[Rows.uptoBulk]
theorem Dc{H:Type}:∀(l:List (List D)) (ds:List (DataW H)),l.length=ds.length->(∀(i:Nat) a d,l[i]? = some a->ds[i]? = some d->mU a<=Rows.uptoBulk d)->wB l<=Rows.uptoBulkAll ds
 |[],ds,_,_=>by simp[wB]
 |a::l,[],h,_=>by simp at h
 |a::l,d::ds,h,k=>by
  have h1:=k 0 a d rfl rfl
  have h2:=Dc l ds (by simpa using h) fun i a d e1 e2=>k (i+1) a d (by simpa using e1) (by simpa using e2)
  simp only[wB,Rows.uptoBulkAll];omega
inductive IL:Ck->D->Prop
 |bool (b:Bool):IL .bool (.bool b)
 |int (n:Int):IL .int (.int .i64 n)
 |str (l:List Nat):IL .str (.str l)
 |row (t:Nat) (ly:List Ck) (l:List (List D)):Cj t=ly->l.length<2^50->(∀ cs∈l,cs.length=ly.length)->(∀ cs∈l,∀(i:Nat) k d,ly[i]? = some k->cs[i]? = some d->IL k d)->IL (.sl t) (.row ly.length l)
def Fx(ks:List Ck)(ds:List D):Prop:=ds.length=ks.length/\∀(i:Nat) k d,ks[i]? = some k->ds[i]? = some d->IL k d
theorem Fx.nil:Fx [] []:=⟨rfl,fun i k d h=>by simp at h⟩
theorem Fx.one{k:Ck}{d:D}(h:IL k d):Fx [k] [d]:=⟨rfl,fun i k' d' h1 h2=>by
 cases i with
 |zero=>simp at h1 h2;subst h1;subst h2;exact h
 |succ i=>simp at h1⟩
theorem Fx.app{ks ks':List Ck}{ds ds':List D}(h:Fx ks ds)(h':Fx ks' ds'):Fx (ks++ks') (ds++ds'):=by
 refine⟨by simp[h.1,h'.1],fun i k d h1 h2=>?_⟩
 by_cases hi:i<ks.length
 ·rw[List.getElem?_append_left hi]at h1
  rw[List.getElem?_append_left (by rw[h.1];exact hi)]at h2
  exact h.2 i k d h1 h2
 ·rw[List.getElem?_append_right (by omega)]at h1
  rw[List.getElem?_append_right (by rw[h.1];omega),h.1]at h2
  exact h'.2 _ k d h1 h2
def g0(W:World):Gh:=⟨[],[],[],bO W⟩
theorem PH{W:World}{f:Nat}(h:f<W.heap.size):(g0 W).Imm f:=by
 refine⟨?_,?_,fun o v h=>?_⟩
 ·show f<(bO W).next
  grind [bO,kh]
 ·show f∉([]:List Nat)
  simp
 ·have h:([]:List (Option (Nat×Nat)))[o]? = some (some (f,v)):=h
  simp at h
section
variable{H:Type}{enc:TypeId×Value->H}{W:World}
def Rd(W:World)(ks:List Ck)(cs:List Value)(b:Nat):Prop:=∃(vs:List V) (ds:List D),jg W.heap.size ks cs vs/\RL (g0 W) ds vs/\Fx ks ds/\mU ds<=b
theorem RL.one{g:Gh}{d:D}{v:V}(h:RD g d v):RL g [d] [v]:=by
 grind [RL]
theorem Mm{ty e:Nat}{ly:List Ck}{kd:Nat->Ck}(hly:Cj ty=ly)(hkd:∀ i,kd i=ly.getD (i%ly.length) .bool)(hfv:∀ {N:Nat} {c:List Value} {off:Nat},off<c.length->be (oG N c) (off*512+ty)=some ⟨off*512+ty,1+off,gC N kd 0 (c.drop off)⟩)(hu:Tryz.prog.underlying ty=some (.slice e))(hc:Tryz.prog.cellsOf e=ly.length)
 (h0:0<ly.length) (hb:0<Tryz.prog.bytesOf e) {fuel:Nat} {cs:List Value} {x:DataW H×List MemPlace} (h:Td enc W fuel ty cs=some x) (hw:Wt ty x.1)
 (hel:∀ n cells y,fuel=n+1->Td enc W n e cells=some y->Wt e y.1->Rd W ly cells (Rows.uptoBulk y.1)):Rd W [.sl ty] cs (Rows.uptoBulk x.1):=by
 rcases DataW.trod_slice hu h with⟨rfl,_⟩|⟨a,len,cap,elems,rest,n,hn,rfl,hx,_,hle,_,hlen,hel',hsp,_⟩
 ·exact⟨[.nilslice],[.row ly.length []],⟨rfl,trivial⟩,RL.one (by rw[RD];exact .inl ⟨rfl,rfl⟩),.one (.row ty ly [] hly (by simp) (fun _ h=>by cases h) (fun _ h=>by cases h)),by simpa[mU,cnt,wB]using uY x.1⟩
 ·subst hn
  by_cases hcap:cap=0
  ·obtain rfl:len=0:=by omega
   subst hcap
   exact⟨[.slice ⟨a.block,DL a.spot,a.off⟩ 0 0 (some 0) 0],[.row ly.length []],⟨by simp only[sD,Dv,if_true,and_self],trivial⟩,RL.one (by rw[RD];exact .inr (.inl ⟨rfl,_,_,_,rfl⟩)),.one (.row ty ly [] hly (by simp) (fun _ h=>by cases h) (fun _ h=>by cases h)),by simpa[mU,cnt,wB]using uY x.1⟩
  ·obtain⟨hrl,hre⟩:=hsp rfl
   have hwe:∀ y,y∈elems->Wt e y.1:=fun y hy m hm=>by
    refine hw m ?_
    rw[hx]
    simp only[DataW.weights,hu]
    exact List.mem_cons_of_mem _ (List.mem_append_left _ (lZ (List.mem_map_of_mem hy) m hm))
   have hbn:len*Tryz.prog.bytesOf e<=reachBytes:=by
    have:=hw ((elems.length+rest.length)*Tryz.prog.bytesOf e) (by rw[hx];simp only[DataW.weights,hu,List.length_map];exact List.mem_cons_self)
    grind
   have hfirst:∃ cells,W.cells? 0 (a.add 0) ly.length=some cells:=by
    by_cases h1:0<len
    ·have:=hel' 0 h1
     rw[Nat.zero_mul,hc,List.getElem?_eq_getElem (by omega)]at this
     obtain⟨cells,h2,_⟩:=Option.bind_eq_some_iff.1 this
     grind
    ·have:=hre 0 (by omega)
     rw[show(len+0)*Tryz.prog.cellsOf e=0 by rw[show len=0 by omega];simp,hc,List.getElem?_eq_getElem (by omega)]at this
     obtain⟨cells,h2,_⟩:=Option.bind_eq_some_iff.1 this
     grind
   obtain⟨c0,hc0⟩:=hfirst
   obtain⟨_,hc1,hc2⟩:=World.cells?_some hc0
   have hcell:=hc2 0 h0
   rw[List.getElem?_eq_getElem (by omega)]at hcell
   simp only[Addr.add,if_true]at hcell
   obtain⟨carr,e',fz,hheap,hspot,hcell⟩:=Dg hcell
   obtain⟨b,off,spot⟩:=a
   simp only at hspot hheap hcell
   subst hspot
   have hblk:b<W.heap.size:=by
    grind
   have hoff:off<carr.size:=(Array.getElem?_eq_some_iff.1 hcell).1
   obtain⟨zs,hzl,hz⟩:=wG (Q:=fun k (z:List D×List V)=>∃ cells,W.cells? 0 ((⟨b,off,none⟩:Addr).add (k*ly.length)) ly.length=some cells/\jg W.heap.size ly cells z.2/\RL (g0 W) z.1 z.2/\Fx ly z.1/\∀ y,elems[k]? = some y->mU z.1<=Rows.uptoBulk y.1) len (fun k hk=>by
    have:=hel' k hk
    rw[hc,List.getElem?_eq_getElem (by omega)]at this
    obtain⟨cells,h2,h3⟩:=Option.bind_eq_some_iff.1 this
    obtain⟨l,z,h4,h5,h6,h7⟩:=hel n cells _ rfl h3 (hwe _ (List.getElem_mem _))
    exact⟨(z,l),cells,h2,h4,h5,h6,fun y hy=>by rw[List.getElem?_eq_getElem (by omega)]at hy;cases hy;exact h7⟩)
   have hcellat:∀ k,k<len->∀ cells,W.cells? 0 ((⟨b,off,none⟩:Addr).add (k*ly.length)) ly.length=some cells->∀ i,i<ly.length->carr.toList[off+(k*ly.length+i)]? = cells[i]?:=fun k hk cells hcl i hi=>by
    obtain⟨_,h1,h2⟩:=World.cells?_some hcl
    have h3:=h2 i hi
    have h4:((⟨b,off,none⟩:Addr).add (k*ly.length)).add i=⟨b,off+(k*ly.length+i),none⟩:=by
     simp only[Addr.add]
     by_cases hk0:k*ly.length=0
     ·simp_all
     ·by_cases hi0:i=0
      ·simp_all
      ·simp[hk0,hi0];omega
    rw[h4]at h3
    simp only[World.cell?,hheap]at h3
    grind
   have hrow:∀ k,k<len->∀ cells l,W.cells? 0 ((⟨b,off,none⟩:Addr).add (k*ly.length)) ly.length=some cells->jg W.heap.size ly cells l->∀ i,i<ly.length->∃ y x,(carr.toList.drop off)[k*ly.length+i]? = some y/\l[i]? = some x/\sD W.heap.size (kd (0+(k*ly.length+i))) y=some x:=fun k hk cells l hcl hab i hi=>by
    obtain⟨h1,h2,h3⟩:=jg.get hab
    have hi':i<l.length:=by omega
    obtain⟨y,hy1,hy2⟩:=h3 i l[i] (List.getElem?_eq_getElem hi')
    refine⟨y,l[i],?_,List.getElem?_eq_getElem hi',?_⟩
    ·grind
    ·rw[hkd,Nat.zero_add,Nat.add_comm,Nat.add_mul_mod_self_right,Nat.mod_eq_of_lt hi]
     exact hy2
   have hall:∀ j,j<len*ly.length->∃ y x,(carr.toList.drop off)[j]? = some y/\sD W.heap.size (kd (0+j)) y=some x:=fun j hj=>by
    have hk:j / ly.length<len:=Nat.div_lt_of_lt_mul (by rw[Nat.mul_comm];exact hj)
    obtain⟨cells,h1,h2,_⟩:=hz (j / ly.length) _ (List.getElem?_eq_getElem (by omega))
    obtain⟨y,x,h3,_,h4⟩:=hrow _ hk cells _ h1 h2 (j%ly.length) (Nat.mod_lt _ h0)
    grind [Nat.div_add_mod]
   have hn50:len<2^50:=by
    have:len<=reachBytes:=Nat.le_trans (Nat.le_mul_of_pos_right _ hb) hbn
    unfold reachBytes at this
    omega
   refine⟨[.slice ⟨b,off*512+ty,1+off⟩ 0 len (some cap) ly.length],[.row ly.length (zs.map (·.1))],⟨by simp only[sD,Dv];rw[if_neg hcap,hly,if_pos ⟨trivial,hle,hblk,h0⟩],trivial⟩,RL.one ?_,.one (.row ty ly _ hly (by simp[hzl,hn50]) ?_ ?_),?_⟩
   ·rw[RD]
    refine .inr (.inr ⟨⟨b,off*512+ty,1+off⟩,0,some cap,by simp[hzl],h0,.inl rfl,fun c hc=>by cases hc;simp[hzl,hle],fun _=>PH hblk,RR.of fun k l0 hk=>?_⟩)
    rw[List.getElem?_map]at hk
    obtain⟨z,hkz,hz0⟩:∃ z,zs[k]? = some z/\z.1=l0:=by
     simp_all
    have hkl:k<len:=by rw[<- hzl];exact(List.getElem?_eq_some_iff.1 hkz).1
    obtain⟨cells,h1,h2,h3,h4,_⟩:=hz k z hkz
    obtain⟨_,l⟩:=z
    simp only at hz0 h2 h3 h4
    subst hz0
    refine⟨l,h4.1,?_,h3,h2.one⟩
    have hg:(bO W).get b=some (.ro (oG W.heap.size carr.toList)):=by
     unfold bO
     rw[tV,if_pos hblk,hheap]
     rfl
    show Go.AI.loadCells (bO W) (bF ⟨b,off*512+ty,1+off⟩ (k*ly.length)) ly.length=some l
    simp only[Go.AI.loadCells,bF,hg,hfv (N:=W.heap.size) (c:=carr.toList) (off:=off) (by simpa using hoff)]
    rw[Nat.ble_eq_true_of_le (show 1+off<=1+off+k*ly.length by omega),cond_true,show 1+off+k*ly.length - (1+off)=k*ly.length by omega]
    obtain⟨k1,k2,k3⟩:=jg.get h2
    have hget:∀ i,i<ly.length->((gC W.heap.size kd 0 (carr.toList.drop off)).drop (k*ly.length))[i]? = l[i]?:=fun i hi=>by
     obtain⟨y,x,h4,h5,h6⟩:=hrow k hkl cells l h1 h2 i hi
     rw[List.getElem?_drop,h5]
     refine zn (len*ly.length) 0 _ hall _ ?_ y x h4 h6
     calc k*ly.length+i<k*ly.length+ly.length:=by omega
      _=(k+1)*ly.length:=by rw[Nat.succ_mul]
      _<=len*ly.length:=Nat.mul_le_mul_right _ hkl
    have hlen2:ly.length<=((gC W.heap.size kd 0 (carr.toList.drop off)).drop (k*ly.length)).length:=by
     have:=hget (ly.length - 1) (by omega)
     grind
    rw[mb _ _ hlen2]
    refine congrArg some ?_
    refine List.ext_getElem? fun i=>?_
    by_cases hi:i<ly.length
    ·rw[List.getElem?_take_of_lt hi,hget i hi]
    ·rw[List.getElem?_eq_none (by rw[List.length_take];omega),List.getElem?_eq_none (by omega)]
   ·intro cs hcs
    obtain⟨z,hz1,rfl⟩:=List.mem_map.1 hcs
    obtain⟨k,hk,rfl⟩:=List.mem_iff_getElem.1 hz1
    obtain⟨_,_,_,_,h4,_⟩:=hz k _ (List.getElem?_eq_getElem hk)
    exact h4.1
   ·intro cs hcs
    obtain⟨z,hz1,rfl⟩:=List.mem_map.1 hcs
    obtain⟨k,hk,rfl⟩:=List.mem_iff_getElem.1 hz1
    obtain⟨_,_,_,_,h4,_⟩:=hz k _ (List.getElem?_eq_getElem hk)
    exact h4.2
   ·have:=Dc (zs.map (·.1)) (elems.map (·.1)) (by simp[hzl,hlen]) fun i a d e1 e2=>by
     rw[List.getElem?_map]at e1 e2
     cases h1:zs[i]? with
     |none=>rw[h1]at e1;cases e1
     |some z =>
      cases h2:elems[i]? with
      |none=>rw[h2]at e2;cases e2
      |some y =>
       rw[h1]at e1;rw[h2]at e2
       cases e1;cases e2
       obtain⟨_,_,_,_,_,h5⟩:=hz i z h1
       exact h5 y h2
    rw[hx]
    simp only[mU,cnt,Rows.uptoBulk]
    omega
theorem FX{m:Nat}{P:TypeId->List Value->DataW H->Prop}{cs:List Value}(hP:∀ t ks c y,EE m t=some ks->Tryz.prog.cellsOf t=ks.length->P t c y->Rd W ks c (Rows.uptoBulk y)):∀(fs:List Field) (ys:List (DataW H)) (off:Nat) (ks:List Ck),Kt Tryz.prog (EF Tryz.prog m) fs off=some ks->fs.length=ys.length ->
 (∀(i:Nat) f y,fs[i]? = some f->ys[i]? = some y->P f.type ((cs.drop f.offset).take (Tryz.prog.cellsOf f.type)) y)->Rd W ks ((cs.drop off).take ks.length) (Rows.uptoBulkAll ys)
 |[],ys,off,ks,h,_,_=>by
  simp only[Kt,Option.some.injEq]at h
  subst h
  exact⟨[],[],by simp[jg],by simp only[RL],.nil,by simp[mU]⟩
 |f::r,[],off,ks,_,hl,_=>by simp at hl
 |f::r,y::ys,off,ks,h,hlen,hf=>by
  simp only[Kt]at h
  cases ho:Nat.beq f.offset off with
  |false=>rw[ho,cond_false]at h;cases h
  |true =>
   rw[ho,cond_true]at h
   have ho:=Nat.eq_of_beq_eq_true ho
   split at h
   ·rename_i l hl
    cases hc:Nat.beq l.length (Tryz.prog.cellsOf f.type)with
    |false=>rw[hc,cond_false]at h;cases h
    |true =>
     rw[hc,cond_true]at h
     have hc:=Nat.eq_of_beq_eq_true hc
     split at h
     ·rename_i m' hm
      cases h
      obtain⟨v1,d1,a1,a2,a3,a4⟩:=hP f.type l _ y hl hc.symm (hf 0 f y rfl rfl)
      obtain⟨v2,d2,b1,b2,b3,b4⟩:=FX hP r ys (off+l.length) m' hm (by simpa using hlen) fun i g z e1 e2=>hf (i+1) g z (by simpa using e1) (by simpa using e2)
      refine⟨v1++v2,d1++d2,?_,RL.append a2 b2,a3.app b3,by rw[Dd];simp only[Rows.uptoBulkAll];omega⟩
      have:(cs.drop off).take (l++m').length=(cs.drop f.offset).take (Tryz.prog.cellsOf f.type)++(cs.drop (off+l.length)).take m'.length:=by
       rw[ho,<- hc,List.length_append,<- List.drop_drop,<- List.take_add]
      rw[this]
      exact a1.app b1
     ·cases h
   ·cases h
theorem OR:∀(N m:Nat) {fuel:Nat} {t:TypeId} {cs:List Value} {ks:List Ck} {x:DataW H×List MemPlace},fuel<=N->EE m t=some ks->Tryz.prog.cellsOf t=ks.length->Td enc W fuel t cs=some x->Wt t x.1->Rd W ks cs (Rows.uptoBulk x.1):=by
 intro N
 induction N with
 |zero =>
  intro m fuel t cs ks x hN _ _ h _
  obtain rfl:fuel=0:=by omega
  simp[Td,DataW.trod]at h
 |succ N ih =>
  intro m fuel t cs ks x hN hk hcl h hw
  cases m with
  |zero=>change EF Tryz.prog 0 t=_ at hk;rw[EF]at hk;cases hk
  |succ m =>
   change EF Tryz.prog (m+1) t=_ at hk
   rw[EF]at hk
   split at hk
   ·rename_i ht
    cases hk
    obtain⟨b,rfl,_⟩:=DataW.trod_bool ht h
    exact⟨[.bool b],[.bool b],⟨rfl,trivial⟩,RL.one (by simp only[RD]),.one (.bool b),by simpa[mU,cnt]using uY x.1⟩
   ·rename_i ht
    cases hk
    obtain⟨n,rfl,_⟩:=DataW.trod_int ht h
    exact⟨[.int .i64 n],[.int .i64 n],⟨rfl,trivial⟩,RL.one (by simp only[RD]),.one (.int n),by simpa[mU,cnt]using uY x.1⟩
   ·rename_i ht
    cases hk
    obtain⟨s,rfl,_⟩:=DataW.trod_string ht h
    exact⟨[.str (bytesOf s)],[.str (bytesOf s)],⟨rfl,trivial⟩,RL.one (by simp only[RD];exact⟨trivial,Le s⟩),.one (.str _),by simpa[mU,cnt]using uY x.1⟩
   ·rename_i e ht
    cases hc:IY.contains t with
    |false=>rw[hc,cond_false]at hk;cases hk
    |true =>
     rw[hc,cond_true]at hk
     cases hk
     have hty:t∈IY:=by simpa using hc
     have hok:=List.all_eq_true.1 Jd t hty
     simp only[Bool.and_eq_true]at hok
     have hok:=hok.2
     unfold Um at hok
     rw[ht]at hok
     simp only at hok
     have hly:Cj t=(EE 8 e).getD []:=by unfold Cj;rw[ht]
     split at hok
     ·rename_i l he
      rw[he]at hly
      have hly:Cj t=l:=hly
      simp only[Bool.and_eq_true]at hok
      obtain⟨k1,k2,k3,k4⟩:=hok
      have k1:0<l.length:=Nat.lt_of_succ_le (Nat.le_of_ble_eq_true k1)
      have k2:=Nat.eq_of_beq_eq_true k2
      have k4:0<Tryz.prog.bytesOf e:=Nat.lt_of_succ_le (Nat.le_of_ble_eq_true k4)
      exact Mm (kd:=sd t) hly (fun i=>by unfold sd;rw[hly]) (fun h=>AE h hty) ht k2 k1 k4 h hw fun n cells y hf hy hwy=>ih 8 (by omega) he k2 hy hwy
     ·cases hok
   ·rename_i fs ht
    obtain⟨xs,n,hn,hx,hl,hsz,hf⟩:=DataW.trod_struct ht h
    have hr:=FX (W:=W) (m:=m) (cs:=cs) (P:=fun t c y=>∃ z,Td enc W n t c=some z/\z.1=y/\Wt t z.1) (fun t ks c y hks h0 ⟨z,h1,h2,h3⟩=>by rw[<- h2];exact ih m (by omega) hks h0 h1 h3) fs.toList (xs.map (·.1)) 0 ks hk (by simp[hsz]) (fun i f y e1 e2=>by
     have e3:fs[i]? = some f:=by rw[<- Array.getElem?_toList];exact e1
     rw[List.getElem?_map]at e2
     cases e4:xs[i]? with
     |none=>rw[e4]at e2;cases e2
     |some z =>
      rw[e4]at e2;cases e2
      refine⟨z,(hf i f e3).trans e4,rfl,fun q hq=>hw q ?_⟩
      rw[hx]
      simp only[DataW.weights,ht]
      refine iJ (i:=i) (t:=f.type) (d:=z.1) ?_ ?_ q hq
      ·rw[List.getElem?_map,Array.getElem?_toList,e3];rfl
      ·rw[List.getElem?_map,e4];rfl)
    rw[List.drop_zero,List.take_of_length_le (by omega)]at hr
    obtain⟨vs,ds,r1,r2,r3,r4⟩:=hr
    exact⟨vs,ds,r1,r2,r3,by rw[hx];simp only[Rows.uptoBulk];omega⟩
   ·cases hk
end
end Go.Proofs.YtenibcfppefobaaGreatDoor.Rd
set_option linter.all false
noncomputable section
namespace Go.AI
theorem AR(E:cu)(n:Nat):IT E (ed E) n=ed E:=@CV ⟨fun _=>True,[],fun _ _ _ h=>h⟩ E n
theorem EZ(E:cu)(j:Bs)(H:DH):ed E j H=pI E (ed E) (II (ed E)) j H:=@GL ⟨fun _=>True,[],fun _ _ _ h=>h⟩ E j H
def sV(key:Nat):Code->List Item->Option (List Item)
 |.seq a b,k=>qt key (.code (.seq a b)::k) (match sV key a (.code b::k)with
  |some l=>some l
  |none=>sV key b k)
 |.cond c a b,k=>qt key (.code (.cond c a b)::k) (match sV key a k with
  |some l=>some l
  |none=>sV key b k)
 |.block id c,k=>qt key (.code (.block id c)::k) (sV key c (.inBlock id::k))
 |.loop c,k=>qt key (.code (.loop c)::k) (sV key c (.inLoop c::k))
 |.scope c,k=>qt key (.code (.scope c)::k) (sV key c (.inScope c::k))
 |c,k=>qt key (.code c::k) none
 where qt (key:Nat) (l:List Item) (r:Option (List Item)):Option (List Item):=match Oe l with
  |some i=>bif Nat.beq i key then some l else r
  |none=>r
def Sn(E:cu)(R:bv)(f key:Nat)(xs:List LD)(L:LS)(H:DH):ag:=match E.E.P.funcs[f]? with
 |some fn=>match fn.body with
  |some c=>match sV key c []with
   |some todo=>match Oo (E.ann f) todo with
    |some (live,_)=>R (.frame f fn (Oc live xs .leaf) L todo [] .run none) H
    |none=>none
   |none=>none
  |none=>none
 |none=>none
def MT(E:cu)(R:bv)(n f key:Nat)(xs:List LD)(L:LS)(H:DH):ag:=Sn E (IT E R n) f key xs L H
theorem MS(E:cu)(n f key:Nat)(xs:List LD)(L:LS)(H:DH):MT E (ed E) n f key xs L H=Sn E (ed E) f key xs L H:=by
 rw[MT,AR]
def C(R:bv)(f:FuncId)(args:List D)(H:DH)(k:D->DH->ag):ag:=eK (R (.call f args none) H) k fun c H=>some ⟨.pan c,none,H⟩
def qA:Code->Option (Array Tmp×Code×Code)
 |.rangeFunc _ ps a b=>some (ps,a,b)
 |.seq a b=>(qA a).or (qA b)
 |.cond _ a b=>(qA a).or (qA b)
 |.block _ c=>qA c
 |.loop c=>qA c
 |.scope c=>qA c
 |_=>none
def Pr(E:cu)(f:FuncId)(is:List Nat)(xs:List LD):DB:=match E.E.P.funcs[f]? with
 |some fn=>match fn.body with
  |some c=>match qA c with
   |some (ps,a,b)=>.loop true f fn.ntmps (Oc is xs .leaf) ps a b
   |none=>.dead
  |none=>.dead
 |none=>.dead
def SL(E:cu)(R:bv)(f o:Nat)(is:List Nat)(xs:List LD)(args:List D)(H:DH):ag:=match E.E.P.funcs[f]? with
 |some fn=>match fn.body with
  |some c=>match qA c with
   |some (ps,a,b)=>R (.frame f fn (kZ (Oc is xs .leaf) ps.toList args id) [] [.code a,.beginRound,.code b] [] .run (some (.round o))) H
   |none=>none
  |none=>none
 |none=>none
def OQ(E:cu)(R:bv)(n f o:Nat)(is:List Nat)(xs:List LD)(args:List D)(H:DH):ag:=SL E (IT E R n) f o is xs args H
def EH(E:cT)(f:D)(κ:FuncId->List D->List D->ag):ag:=match f with
 |.func g a b=>bif ei E g then κ g a b else none
 |_=>none
abbrev ret(d:D)(H:DH):ag:=some ⟨.ret d,none,H⟩
abbrev pan(d:D)(H:DH):ag:=some ⟨.pan [⟨d,false⟩],none,H⟩
end Go.AI
noncomputable section
namespace Go.AI
def fw(s:S)(g:Nat):Option (List V):=match s.get g with
 |some (.ro vers)=>match be vers 127 with
  |some u=>some u.cells
  |none=>none
 |_=>none
end Go.AI
namespace Go.Proofs.YtenibcfppefobaaGreatDoor
open Go.AI
def Nq(n:Int):ByteArray:=⟨(Lib.replace (Lib.itoa n) [45] [126] 1).toArray⟩
def xu(s:ByteArray):ByteArray:=⟨(Lib.replace s.data.toList [126] [45] 1).toArray⟩
def oQ(s:ByteArray):Int×Int:=match Lib.atoiAll (xu s).data.toList with
 |.ok v=>bif (Nq v).toList==s.toList then(v,0)else(0,13)
 |_=>(0,13)
def tZ:List V->Bool
 |[.nilIface]=>true
 |[.iface _ _]=>true
 |_=>false
def GB:List V->Bool
 |[.int .i64 _]=>true
 |_=>false
def BV:List V:=Lib.pow10Tab.map fun z=>.int .u64 z
structure sH(s:S):Prop where
 mx:∃ c,fw s 1=some c/\GB c=true
 syn:∃ c,fw s 4=some c/\tZ c=true
 rng:∃ c,fw s 5=some c/\tZ c=true
 pow:fw s 0=some BV
open Classical in
def vg(args:List V)(s:S):Option (V×S):=match args with
 |[.str l]=>if sH s/\l.length<=1000 then some (.tuple [.int .i64 (oQ (av l)).1,.int .i64 (oQ (av l)).2],s)else none
 |_=>none
def tA:List Nat->Nat->Int->Int
 |[],_,_=>-1
 |x::r,c,n=>bif Nat.beq x c then n else tA r c (n+1)
def vN(args:List V)(s:S):Option (V×S):=match args with
 |[.str l,.int .u8 (.ofNat c)]=>bif Nat.blt c 256&&l.all (fun x=>Nat.blt x 256)then some (.int .i64 (tA l c 0),s)else none
 |_=>none
def Qn(f:FuncId)(args:List D)(H:DH):Option (D×DH) :=
 bif Nat.beq f 236 then(match args with
  |[.str l,.int .u8 (.ofNat c)]=>bif Nat.blt c 256&&Nat.ble l.length 1000 then some (.int .i64 (tA l c 0),H)else none
  |_=>none)
 else bif Nat.beq f 262 then(match args with
  |[.str l]=>bif Nat.ble l.length 1000 then some (.tuple [.int .i64 (oQ (av l)).1,.int .i64 (oQ (av l)).2],H)else none
  |_=>none)
 else bif Nat.beq f 6 then(match args with
  |[]=>some (.bool true,H)
  |_=>none)
 else none
def TT(f:FuncId):Bool:=Nat.beq f 262||(Nat.beq f 6||Nat.beq f 236)
def sj(f:FuncId)(args:List V)(s:S):Option (V×S) :=
 bif Nat.beq f 236 then vN args s else bif Nat.beq f 262 then vg args s else bif Nat.beq f 6 then(match args with
  |[]=>some (.bool true,s)
  |_=>none)else none
def lF:cT:={ P:=Tryz.prog,ext:=fun f=>bif Nat.beq f 280 then some .indexByte else bif Nat.beq f 301 then some .count else none,orc:=sj }
end Go.Proofs.YtenibcfppefobaaGreatDoor
set_option linter.all false
noncomputable section
namespace Go.Proofs.YtenibcfppefobaaGreatDoor.Rd
open Go.AI Go.Proofs Go.Proofs.YtenibcfppefobaaGreatDoor
theorem py{W:World}{g:Nat}{c:Array Value}{e:TypeId}{fz:Nat×Nat}{l:List V}(h:W.heap[g]? = some (.cells c e fz))(ha:jd W.heap.size c.toList=some l):fw (bO W) g=some l:=by
 have hg:g<W.heap.size:=(Array.getElem?_eq_some_iff.1 h).1
 have hst:(bO W).get g=some (.ro (oG W.heap.size c.toList)):=by
  unfold bO
  rw[tV,if_pos hg,h];rfl
 simp_all[fw,xF]
theorem wW{N:Nat}:∀(l:List Int),jd N (l.map fun z=>Value.int .u64 z)=some (l.map fun z=>V.int .u64 z)
 |[]=>rfl
 |x::r=>by simp only[List.map_cons,jd,Iz,wW r]
structure Hj(W:World):Prop where
 mx:∃ m e fz,W.heap[1]? = some (.cells #[.int .i64 m] e fz)
 syn:∃ te b off e fz,W.heap[4]? = some (.cells #[.iface te (.pointer (some ⟨b,off,none⟩))] e fz)/\b<W.heap.size
 rng:∃ te b off e fz,W.heap[5]? = some (.cells #[.iface te (.pointer (some ⟨b,off,none⟩))] e fz)/\b<W.heap.size
 pow:∃ c e fz,W.heap[0]? = some (.cells c e fz)/\c.toList=Lib.pow10Tab.map fun z=>Value.int .u64 z
theorem HO{W:World}(h:Hj W):sH (bO W):=by
 obtain⟨⟨m,e1,f1,h1⟩,⟨t2,b2,o2,e2,f2,h2,k2⟩,⟨t3,b3,o3,e3,f3,h3,k3⟩,⟨c,e4,f4,h4,k4⟩⟩:=h
 refine⟨⟨[.int .i64 m],py h1 rfl,rfl⟩,⟨[.iface t2 (.ptr ⟨b2,0,1+o2⟩)],py h2 (by simp[jd,Iz,k2]),rfl⟩,⟨[.iface t3 (.ptr ⟨b3,0,1+o3⟩)],py h3 (by simp[jd,Iz,k3]),rfl⟩,py h4 (by rw[k4];exact wW _)⟩
end Go.Proofs.YtenibcfppefobaaGreatDoor.Rd
set_option linter.all false
noncomputable section
namespace Go.Proofs.YtenibcfppefobaaGreatDoor.Rd
open Go.AI Go.Proofs Go.Proofs.YtenibcfppefobaaGreatDoor Go.ChangeShapes
section
variable{W:World}{t:TypeId}{fuel:Nat}{cs:List Value}{ps:List MemPlace}
abbrev Tl(W:World)(fuel:Nat)(t:TypeId)(cs:List Value):Option (DataW Unit×List MemPlace):=DataW.trod (fun _=>()) Tryz.prog W 0 (fun _=>true) false fuel t cs
theorem OG{e n:Nat}{l:List Int}(ht:Tryz.prog.underlying t=some (.array n e))(he:Tryz.prog.underlying e=some (.int .u64))(hc:Tryz.prog.cellsOf e=1)(hct:Tryz.prog.cellsOf t=n)(h:Tl W fuel t cs=some (.agg (l.map fun z=>.lit (.int .u64 z)),ps)) :
 cs=l.map fun z=>Value.int .u64 z:=by
 obtain⟨xs,m,_,hx,hl,hxl,hat⟩:=DataW.trod_array ht h
 have hm:xs.map (·.1)=l.map fun z=>DataW.lit (.int .u64 z):=by
  grind
 have hll:l.length=n:=by
  grind [List.length_map]
 rw[hct]at hl
 refine List.ext_getElem (by rw[List.length_map];omega) fun i hi hi'=>?_
 rw[List.length_map]at hi'
 have h1:=hat i (by omega)
 rw[hc,Nat.mul_one,List.drop_eq_getElem_cons hi,List.take_succ_cons,List.take_zero,List.getElem?_eq_getElem (by omega)]at h1
 obtain⟨z,h2,h3,_⟩:=DataW.trod_int he h1
 have h4:(xs.map (·.1))[i]'(by rw[List.length_map];omega)=(l.map fun z=>DataW.lit (H:=Unit) (.int .u64 z))[i]'(by rw[List.length_map];omega):=by
  simp only[hm]
 rw[List.getElem_map,List.getElem_map,h3]at h4
 simp only[DataW.lit.injEq,Lit.int.injEq,true_and]at h4
 rw[List.getElem_map,<- h4]
 simpa using h2
end
end Go.Proofs.YtenibcfppefobaaGreatDoor.Rd
set_option linter.all false
noncomputable section
namespace Go.Proofs.YtenibcfppefobaaGreatDoor.Rd
open Go.AI Go.Proofs Go.Proofs.YtenibcfppefobaaGreatDoor Go.ChangeShapes
section
variable{W:World}{t:TypeId}{fuel:Nat}{cs:List Value}{ps:List MemPlace}
theorem JY{s:List UInt8}(h:Tl W fuel t []=some (.lit (.string s),ps)):False:=by
 cases fuel with
 |zero=>simp[Tl,DataW.trod]at h
 |succ n =>
  unfold Tl DataW.trod at h
  split at h<;>simp_all
theorem Pa{s:List UInt8}(h:Tl W fuel t []=some (.agg [.lit (.string s)],ps)):False:=by
 cases hu:Tryz.prog.underlying t with
 |none =>
  cases fuel with
  |zero=>simp[Tl,DataW.trod]at h
  |succ n=>unfold Tl DataW.trod at h;rw[hu]at h;simp at h
 |some d =>
  cases d with
  |struct fs =>
   obtain⟨xs,n,_,hx,_,hl,hf⟩:=DataW.trod_struct hu h
   have h1:xs.map (·.1)=[.lit (.string s)]:=by
    grind
   obtain⟨x,rfl⟩:∃ x,xs=[x]:=List.length_eq_one_iff.1 (by have:=congrArg List.length h1;simpa using this)
   have hs:0<fs.size:=by simp at hl;omega
   have h2:=hf 0 fs[0] (Array.getElem?_eq_getElem hs)
   simp only[List.drop_nil,List.take_nil,List.getElem?_cons_zero]at h2
   simp at h1
   exact JY (W:=W) (s:=s) (ps:=x.2) (by unfold Tl;rw[h2,<- h1])
  |array m e =>
   obtain⟨xs,n,_,hx,_,hl,hf⟩:=DataW.trod_array hu h
   have h1:xs.map (·.1)=[.lit (.string s)]:=by
    grind
   obtain⟨x,rfl⟩:∃ x,xs=[x]:=List.length_eq_one_iff.1 (by have:=congrArg List.length h1;simpa using this)
   have hs:0<m:=by simp at hl;omega
   have h2:=hf 0 hs
   simp only[List.drop_nil,List.take_nil,List.getElem?_cons_zero]at h2
   simp at h1
   exact JY (W:=W) (s:=s) (ps:=x.2) (by unfold Tl;rw[h2,<- h1])
  |_ =>
   cases fuel with
   |zero=>simp[Tl,DataW.trod]at h
   |succ n=>unfold Tl DataW.trod at h;rw[hu]at h;simp at h
theorem OS{s:List UInt8}(h:Tl W fuel t cs=some (.ptr (.agg [.lit (.string s)]),ps)):∃ a,cs=[.pointer (some a)]/\a.spot=none/\a.block<W.heap.size/\∃ e,Tryz.prog.underlying t=some (.pointer e):=by
 have key:∃ e,Tryz.prog.underlying t=some (.pointer e):=by
  cases fuel with
  |zero=>simp[Tl,DataW.trod]at h
  |succ n =>
   unfold Tl DataW.trod at h
   split at h<;>simp_all
   all_goals first
    |(simp[Option.bind_eq_some_iff,Option.map_eq_some_iff]at h;done)
    |(split at h<;>simp[Option.bind_eq_some_iff,Option.map_eq_some_iff]at h;done)
    |(repeat' split at h)<;>simp_all[Option.bind_eq_some_iff,Option.map_eq_some_iff]
 obtain⟨e,he⟩:=key
 rcases DataW.trod_pointer he h with⟨_,h1⟩|⟨a,cs',y,n,_,rfl,h1,h2,h3⟩
 ·simp at h1
 ·have hy:y.1=.agg [.lit (.string s)]:=by
   grind
  have hne:cs'≠[]:=fun hh=>by
   subst hh
   exact Pa (W:=W) (s:=s) (ps:=y.2) (by unfold Tl;rw[h3,<- hy])
  obtain⟨_,hc1,hc2⟩:=World.cells?_some h2
  have h0:0<cs'.length:=List.length_pos_iff.2 hne
  have hcell:=hc2 0 (by omega)
  rw[List.getElem?_eq_getElem h0]at hcell
  obtain⟨c,e',fz,h4,h5,h6⟩:=Dg hcell
  refine⟨a,rfl,?_,?_,e,he⟩
  ·simpa[Addr.add]using h5
  ·have:=(Array.getElem?_eq_some_iff.1 h4).1
   simpa[Addr.add]using this
theorem KH{name:String}{ms:Array (String×TypeId)}{s:List UInt8}(ht:Tryz.prog.underlying t=some (.interface ms))(h:Tl W fuel t cs=some (.iface name (.ptr (.agg [.lit (.string s)])),ps)) :
 ∃ u v a,cs=[.iface u v]/\v.cells.toList=[.pointer (some a)]/\a.spot=none/\a.block<W.heap.size/\∃ e,Tryz.prog.underlying u=some (.pointer e):=by
 cases fuel with
 |zero=>simp[Tl,DataW.trod]at h
 |succ n =>
  unfold Tl DataW.trod at h
  rw[ht]at h
  split at h<;>simp_all
  rename_i u v _
  split at h
  ·cases h
  ·simp only[Option.map_eq_some_iff]at h
   obtain⟨y,hy,h1⟩:=h
   simp only[Prod.mk.injEq,DataW.iface.injEq]at h1
   obtain⟨a,h2,h3,h4,h5⟩:=OS (W:=W) (s:=s) (ps:=y.2) (by unfold Tl;rw[hy,<- h1.1.2])
   exact⟨u,v,⟨rfl,rfl⟩,a,h2,h3,h4,h5⟩
  ·cases h
end
end Go.Proofs.YtenibcfppefobaaGreatDoor.Rd
set_option linter.all false
noncomputable section
namespace Go.Proofs.YtenibcfppefobaaGreatDoor.Rd
open Go.AI Go.Proofs Go.Proofs.YtenibcfppefobaaGreatDoor Go.ChangeShapes
set_option maxRecDepth 10000
theorem vH{P:Program}{w:World}:∀ {l:List (String×DataW Unit)} {ps:List MemPlace} {n:String} {d:DataW Unit},DataW.LaidVars P w l ps->(n,d)∈l ->
 ∃ g t cs fuel p,P.globalNamed n=some g/\(P.globals[g]?).map (·.type)=some t/\w.var? P n=some cs/\DataW.trod (fun _=>()) P w 0 (fun _=>true) false fuel t cs.toList=some (d,p)/\∀ x∈MemPlace.row ⟨g,0,none⟩ cs.size++p,x∈ps
 |[],ps,n,d,_,h=>by cases h
 |(m,c)::r,ps,n,d,hl,h=>by
  obtain⟨g,t,cs,fuel,p,q,e1,e2,e3,e4,hr,rfl⟩:=hl
  rcases List.mem_cons.1 h with h|h
  ·grind
  ·obtain⟨g',t',cs',fuel',p',a,b,c',d',e⟩:=vH hr h
   grind
theorem xS{P:Program}{w:World}{n:String}{g:Nat}{cs:Array Value}(hg:P.globalNamed n=some g)(h:w.var? P n=some cs):∃ e fz,w.heap[g]? = some (.cells cs e fz):=by
 unfold World.var? at h
 grind
theorem KJ:Tryz.prog.globalNamed "internal/strconv.uint64pow10" = some 0:=by kernel_rfl
theorem PF:Tryz.prog.globalNamed "strconv.ErrSyntax" = some 4:=by kernel_rfl
theorem PG:Tryz.prog.globalNamed "strconv.ErrRange" = some 5:=by kernel_rfl
theorem GI{W:World}{l:List (String×DataW Unit)}{n:String}{g:Nat}{t:TypeId}{name:String}{ms:Array (String×TypeId)}{s:List UInt8}(hl:laidMet Tryz.prog l W)(hm:(n,.iface name (.ptr (.agg [.lit (.string s)])))∈l)
 (hg:Tryz.prog.globalNamed n=some g) (ht:(Tryz.prog.globals[g]?).map (·.type)=some t) (hu:Tryz.prog.underlying t=some (.interface ms)) :
 ∃ te b off e fz,W.heap[g]? = some (.cells #[.iface te (.pointer (some ⟨b,off,none⟩))] e fz)/\b<W.heap.size:=by
 obtain⟨ps,hv,_,hrow⟩:=hl
 obtain⟨g',t',cs,fuel,p,e1,e2,e3,e4,e5⟩:=vH hv hm
 rw[hg]at e1;cases e1
 rw[ht]at e2;cases e2
 obtain⟨e,fz,hh⟩:=xS hg e3
 obtain⟨u,v,a,h1,h2,h3,h4,e',h5⟩:=KH hu e4
 have hcs:cs=#[.iface u v]:=by
  grind
 subst hcs
 have hcell:W.cell? ⟨g,0,none⟩=some (.iface u v):=by
  unfold World.cell?
  grind
 have hin:MemPlace.cell g 0∈MemPlace.row ⟨g,0,none⟩ (#[Value.iface u v]).size:=by
  unfold MemPlace.row
  grind
 have hin2:=e5 _ (List.mem_append_left _ hin)
 have hok:=(hrow g 0 hin2).2 u v hcell
 have hvp:v=.pointer (some a):=by
  unfold Value.okWide at hok
  rw[h5]at hok
  simp only[]at hok
  unfold Cell.okWide at hok
  rw[h5]at hok
  cases v with
  |agg c=>simp only[Value.cells]at h2;simp[Cell.ok,h5]at hok
  |_=>simp_all[Value.cells]
 subst hvp
 obtain⟨b,off,spot⟩:=a
 simp only at h3 h4
 subst h3
 exact⟨u,b,off,e,fz,hh,h4⟩
end Go.Proofs.YtenibcfppefobaaGreatDoor.Rd
set_option linter.all false
noncomputable section
namespace Go.Proofs.YtenibcfppefobaaGreatDoor.Rd
open Go.AI Go.Proofs Go.Proofs.YtenibcfppefobaaGreatDoor Go.ChangeShapes
set_option maxRecDepth 10000
theorem PE:(Tryz.prog.globals[0]?).map (·.type)=some 333:=by kernel_rfl
theorem PC:(Tryz.prog.globals[4]?).map (·.type)=some 342:=by kernel_rfl
theorem PD:(Tryz.prog.globals[5]?).map (·.type)=some 342:=by kernel_rfl
theorem OH{W:World}(hl:laidMet Tryz.prog Rows.inferGeneralRow.laid W):∃ te b off e fz,W.heap[4]? = some (.cells #[.iface te (.pointer (some ⟨b,off,none⟩))] e fz)/\b<W.heap.size :=
 GI hl (n := "strconv.ErrSyntax") (name := "*errors.errorString") (s:=[105,110,118,97,108,105,100,32,115,121,110,116,97,120]) (List.Mem.tail _ (List.Mem.tail _ (List.Mem.tail _ (List.Mem.tail _ (List.Mem.tail _ (List.Mem.head _)))))) PF PC Tryz.underlying342
theorem OO{W:World}(hl:laidMet Tryz.prog Rows.inferGeneralRow.laid W):∃ te b off e fz,W.heap[5]? = some (.cells #[.iface te (.pointer (some ⟨b,off,none⟩))] e fz)/\b<W.heap.size :=
 GI hl (n := "strconv.ErrRange") (name := "*errors.errorString") (s:=[118,97,108,117,101,32,111,117,116,32,111,102,32,114,97,110,103,101]) (List.Mem.tail _ (List.Mem.tail _ (List.Mem.tail _ (List.Mem.tail _ (List.Mem.head _))))) PG PD Tryz.underlying342
theorem Kw:Rows.laid_internal_strconv_uint64pow10 (H:=Unit)=DataW.agg (Lib.pow10Tab.map fun z=>.lit (.int .u64 z)):=by rfl
theorem OV{W:World}(hl:laidMet Tryz.prog Rows.inferGeneralRow.laid W):∃ c e fz,W.heap[0]? = some (.cells c e fz)/\c.toList=Lib.pow10Tab.map fun z=>Value.int .u64 z:=by
 obtain⟨ps,hv,_,_⟩:=hl
 obtain⟨g',t',cs,fuel,p,e1,e2,e3,e4,e5⟩:=vH hv (n := "internal/strconv.uint64pow10") (d:=Rows.laid_internal_strconv_uint64pow10) (List.Mem.tail _ (List.Mem.tail _ (List.Mem.head _)))
 rw[KJ]at e1;cases e1
 rw[PE]at e2;cases e2
 obtain⟨e,fz,hh⟩:=xS KJ e3
 rw[Kw]at e4
 exact⟨cs,e,fz,hh,OG Tryz.underlying333 (by kernel_rfl) (by kernel_rfl) (by kernel_rfl) e4⟩
theorem Ri{W:World}(hs:W.ShapedOpen Tryz.prog):∃ m e fz,W.heap[1]? = some (.cells #[.int .i64 m] e fz):=by
 obtain⟨cs,h1,h2,h3⟩:=hs.1 1 #[.int .i64 0] 3 (of_decide_eq_true (by kernel_rfl)) (by kernel_rfl)
 obtain⟨ts,h5,_,h6⟩:=h3 (by kernel_rfl)
 have hts:Tryz.prog.cellTypes Tryz.prog.depth 3=some [3]:=by kernel_rfl
 rw[hts]at h5;cases h5
 have hsz:cs.size=1:=h2
 have h0:cs[0]? = some (cs[0]'(by omega)):=Array.getElem?_eq_getElem (by omega)
 obtain⟨u,h7,h8⟩:=h6 0 _ h0
 cases h7
 unfold Cell.ok at h8
 rw[Tryz.underlying3]at h8
 have hcs:cs=#[cs[0]'(by omega)]:=Array.ext (by simp[hsz]) (fun i hi hi'=>by
  have:i=0:=by omega
  subst this;rfl)
 grind
end Go.Proofs.YtenibcfppefobaaGreatDoor.Rd
namespace Go.Proofs.YtenibcfppefobaaGreatDoor.Rd
open Go.AI Go.Proofs Go.Proofs.YtenibcfppefobaaGreatDoor Go.ChangeShapes
theorem KK{W:World}(hl:laidMet Tryz.prog Rows.inferGeneralRow.laid W)(hs:W.ShapedOpen Tryz.prog):Hj W:=⟨Ri hs,OH hl,OO hl,OV hl⟩
end Go.Proofs.YtenibcfppefobaaGreatDoor.Rd
set_option linter.all false
noncomputable section
namespace Go.AI
abbrev D.i(n:Int):D:=.int .i64 n
abbrev LD.n(n:Int):LD:=.g (.int .i64 n)
abbrev gi:=List (List D)
abbrev af:=List Nat
abbrev eg(n:Int):Int:=IntKind.wrap .i64 n
abbrev xT(a:Int)(b:Int)(c:List Nat)(d:Int):List D:=[.i a,.i b,.str c,.i d]
variable{R:bv}{P:Program}{H H':DH}{κ:D->ag}
theorem ev{E:cu}{n:Nat}{j:Bs}{x y:ag}(h:IT E (ed E) n j H=x)(k:x=y):ed E j H=y:=by rw[<- k,<- h,AR]
theorem eL{E:cu}{n f key:Nat}{xs:List LD}{L:LS}{x y:ag}(h:MT E (ed E) n f key xs L H=x)(k:x=y):Sn E (ed E) f key xs L H=y:=by rw[<- k,<- h,MS]
theorem aq{f:FuncId}{args:List D}{d:D}{k:D->DH->ag}(h:R (.call f args none) H=ret d H'):C R f args H k=k d H':=by rw[C,h];rfl
theorem aj(q:Bool)(a b:ag):brD (.bool q) a b=cond q a b:=rfl
theorem bC(n:Nat){κ:Nat->ag}:dE (n:Int) κ=κ n:=rfl
theorem bm{l:List (List D)}{i:Nat}{cs:List D}{κ:List D->ag}(h:l[i]? = some cs):eO l i κ=κ cs:=by rw[eO,h]
theorem ak(a:D)(l:List D):aC (a::l) 0 κ=κ a:=rfl
theorem aw(a:D)(l:List D)(n:Nat):aC (a::l) (n+1) κ=aC l n κ:=rfl
theorem ct(b:Bool):rl .not (.bool b) κ=κ (.bool !b):=rfl
theorem cM(l:List D)(i:Nat):di (.tuple l) i κ=aC l i κ:=rfl
theorem dN(t:TypeId)(c:Bool)(a b:Int):aB P .add t c (.int .i64 a) (.int .i64 b) κ=κ (.int .i64 (eg (a+b))):=rfl
theorem Bc(t:TypeId)(c:Bool)(a b:Int):aB P .sub t c (.int .i64 a) (.int .i64 b) κ=κ (.int .i64 (eg (a - b))):=rfl
theorem bS(t:TypeId)(c:Bool)(k:IntKind)(a b:Int):aB P .eql t c (.int k a) (.int k b) κ=κ (.bool (a==b)):=by cases k<;>rfl
theorem jK(t:TypeId)(c:Bool)(k:IntKind)(a b:Int):aB P .neq t c (.int k a) (.int k b) κ=κ (.bool (a != b)):=by cases k<;>rfl
theorem Bd(t:TypeId)(c:Bool)(k:IntKind)(a b:Int):aB P .lss t c (.int k a) (.int k b) κ=κ (.bool (decide (a<b))):=by cases k<;>rfl
theorem GX(t:TypeId)(c:Bool)(k:IntKind)(a b:Int):aB P .leq t c (.int k a) (.int k b) κ=κ (.bool (decide (a<=b))):=by cases k<;>rfl
theorem gh(t:TypeId)(c:Bool)(k:IntKind)(a b:Int):aB P .gtr t c (.int k a) (.int k b) κ=κ (.bool (decide (a>b))):=by cases k<;>rfl
theorem ue(t:TypeId)(c:Bool)(k:IntKind)(a b:Int):aB P .geq t c (.int k a) (.int k b) κ=κ (.bool (decide (a>=b))):=by cases k<;>rfl
theorem kG(t:TypeId)(c:Bool)(a b:List Nat):aB P .eql t c (.str a) (.str b) κ=κ (.bool (a==b)):=rfl
theorem qQ(t:TypeId)(c:Bool)(a b:List Nat):aB P .neq t c (.str a) (.str b) κ=κ (.bool !(a==b)):=rfl
theorem zt{n:Int}(h1:-9223372036854775808<=n)(h2:n<=9223372036854775807):eg n=n:=FE n ⟨h1,h2⟩
theorem bT{n:Nat}(h:n<2^62):eg ((n:Int)+1)=((n+1:Nat):Int):=by rw[zt]<;>omega
theorem Ax{E:cT}{g:FuncId}{a b:List D}{κ:FuncId->List D->List D->ag}(h:ei E g=true):EH E (.func g a b) κ=κ g a b:=by rw[EH,h];rfl
theorem ac{o st:Nat}{cs:List D}{κ:Nat->List D->ag}(h:H[o]? = some (.cells st cs)):aF H o κ=κ st cs:=by rw[aF,h]
theorem fc{o sz:Nat}{st cap:Bool}{l:List (List D)}{κ:Nat->Bool->Bool->List (List D)->ag}(h:H[o]? = some (.buf sz st cap l)):gB H o l.length κ=κ sz st cap l:=by rw[gB,h];simp[Nat.beq_refl]
theorem mT{r:List DH}{o st:Nat}{cs:List D}(h:H[o]? = some (.cells st cs))(hr:∀ H2∈r,H2[o]? = some (.cells st cs)):(cH H r)[o]? = some (.cells st cs):=by
 rw[cH,@AY ⟨fun _=>True,[],fun _ _ _ h=>h⟩,h,Nat.zero_add]
 grind [Cn]
theorem fJ{o:Nat}{es:List (D×D)}{κ:List (D×D)->ag}(h:H[o]? = some (.map es)):lm H o κ=κ es:=by rw[lm,h]
theorem ci(H:DH)(x:DB):(H++[x])[H.length]? = some x:=by simp
theorem aI{H:DH}{o:Nat}{b:DB}(x:DB)(h:H[o]? = some b):(H++[x])[o]? = some b:=by
 grind
theorem bK{H:DH}{o:Nat}{b:DB}(x:DB)(h:H[o]? = some b):(H.set o x)[o]? = some x:=by
 grind
theorem am{H:DH}{o o':Nat}{b:DB}(x:DB)(hn:o≠o')(h:H[o']? = some b):(H.set o x)[o']? = some b:=by rw[List.getElem?_set_ne hn];exact h
end Go.AI
set_option linter.all false
noncomputable section
namespace Go.Proofs.YtenibcfppefobaaGreatDoor
open Go.AI
def TU:T gF :=
 (.node (.node (.node (.node (.node (.node (.node .leaf none (.node .leaf (some ⟨[(200002,[0,5],[])],[],[],[],false⟩) .leaf)) none (.node (.node .leaf (some ⟨[],[3],[],[],true⟩) .leaf) none .leaf)) none (.node (.node .leaf none (.node .leaf (some ⟨[(200001,[1,2,6,7,8],[])],[],[],[],false⟩) .leaf)) none .leaf)) (some ⟨[],[1,3],[],[],false⟩) (.node .leaf (some ⟨[(200004,[0,5,18,19,20],[])],[16,55],[],[],false⟩) (.node (.node (.node .leaf (some ⟨[],[3,4,5],[],[],true⟩) .leaf) (some ⟨[],[3,4,5],[],[],false⟩) (.node .leaf (some ⟨[(200002,[0,1,7,8],[])],[],[],[],false⟩) .leaf)) none (.node (.node .leaf (some ⟨[(200001,[0,1],[])],[36],[],[],false⟩) .leaf) none (.node .leaf (some ⟨[(200002,[0,1,7,8],[])],[],[],[],false⟩) .leaf))))) (some ⟨[(200005,[0,1,5,6],[]),(200014,[0,1,7,8,9,10],[]),(200024,[0,1,7,9,15],[])],[],[],[],false⟩) (.node (.node (.node (.node .leaf none (.node .leaf (some ⟨[(200005,[0,1,5,6],[])],[],[],[],false⟩) .leaf)) none (.node .leaf none (.node .leaf (some ⟨[(200002,[0,2,3],[])],[],[],[],false⟩) .leaf))) none .leaf) none (.node (.node (.node .leaf (some ⟨[(200003,[3,9,10,11],[])],[7],[],[],true⟩) (.node .leaf (some ⟨[(200001,[1,2,6,7,8],[])],[],[],[],false⟩) .leaf)) none .leaf) (some ⟨[(200010,[1,2,3,8,9,45,46,47],[0,1])],[],[],[(0,1,.fz 2)],false⟩) (.node (.node (.node .leaf (some ⟨[],[3],[],[],true⟩) .leaf) none .leaf) none .leaf)))) none (.node (.node (.node (.node (.node .leaf none (.node .leaf (some ⟨[(200002,[0,5],[]),(200005,[0,5,6],[])],[],[],[],false⟩) .leaf)) none .leaf) none (.node (.node .leaf none (.node .leaf (some ⟨[],[3,4,5],[],[],true⟩) .leaf)) none .leaf)) (some ⟨[(200007,[3,4,6,22,23,24],[0,1])],[11],[],[],false⟩) (.node (.node (.node (.node .leaf (some ⟨[(8,[0,1,4,7],[0]),(11,[0,1,4,7,8],[0]),(17,[0,1,4,6],[0]),(18,[0,1,4,6],[0]),(26,[0,1,4,11,12],[0]),(200006,[0,1,4,7],[0])],[],[],[],false⟩) .leaf) none .leaf) none .leaf) (some ⟨[(200005,[4,9,10,11],[])],[3,4],[],[],false⟩) (.node .leaf (some ⟨[],[],[],[],true⟩) (.node (.node .leaf (some ⟨[(11,[0,2,3],[0])],[],[],[],false⟩) .leaf) none (.node .leaf (some ⟨[(200002,[0,1,7,8],[])],[],[],[],false⟩) .leaf))))) none (.node (.node (.node .leaf none (.node .leaf (some ⟨[(200004,[0,16,17,18],[]),(200007,[0,16,17,18,23,24,25],[]),(200016,[0,43,44,45],[])],[],[],[],false⟩) .leaf)) none (.node (.node (.node .leaf (some ⟨[],[3,4,5],[],[],true⟩) .leaf) none .leaf) none (.node .leaf none (.node .leaf (some ⟨[(200001,[1,2,6,7,8],[])],[],[],[],false⟩) .leaf)))) none (.node (.node (.node .leaf (some ⟨[],[3],[],[],true⟩) (.node .leaf (some ⟨[],[3,4,5],[],[],true⟩) .leaf)) none (.node (.node .leaf (some ⟨[(200002,[0,1,7,8],[])],[],[],[],false⟩) .leaf) none .leaf)) none .leaf)))) none (.node (.node (.node (.node (.node .leaf none (.node (.node .leaf (some ⟨[],[3],[],[],true⟩) .leaf) none (.node .leaf (some ⟨[(200002,[0,1,2,7],[])],[],[],[],false⟩) .leaf))) none (.node (.node .leaf none (.node .leaf (some ⟨[(200001,[0,1,2,8,9,10],[]),(200006,[1,2,21,22,23],[])],[],[],[],false⟩) .leaf)) none (.node .leaf (some ⟨[(6,[1,3],[0]),(7,[1,3,52],[0])],[],[],[],false⟩) .leaf))) (some ⟨[(200004,[0,20,21,22],[]),(200012,[6,7,33,34,35],[]),(200017,[6,7,46,47,48],[]),(200026,[12,65,66,67],[])],[15,32],[],[(0,0,.fz 3)],false⟩) (.node (.node .leaf none (.node .leaf none (.node .leaf (some ⟨[(6,[0,1,4,5],[0])],[],[],[],false⟩) .leaf))) (some ⟨[(5,[0,1],[]),(8,[0,1],[]),(200015,[0,1,91,92],[])],[],[],[],false⟩) (.node (.node (.node .leaf (some ⟨[(200002,[0,1,7,8],[])],[],[],[],false⟩) .leaf) (some ⟨[(200002,[0,1,7,8],[])],[],[],[],false⟩) .leaf) (some ⟨[(200009,[0,1,2,21,22,23],[])],[],[],[],false⟩) (.node (.node .leaf (some ⟨[(200000,[0],[])],[],[],[],false⟩) .leaf) none (.node .leaf (some ⟨[(200002,[0,1,7,8],[])],[],[],[],false⟩) .leaf))))) none (.node (.node (.node (.node (.node .leaf (some ⟨[(200003,[3,11,12],[])],[10],[(9,[(3,.acc 2)])],[],false⟩) .leaf) none .leaf) none (.node .leaf (some ⟨[(200004,[0,16,17,18],[]),(200007,[0,16,17,18,23,24,25],[]),(200016,[0,43,44,45],[])],[],[],[],false⟩) .leaf)) none (.node (.node (.node .leaf (some ⟨[],[3,4,5],[],[],true⟩) .leaf) none .leaf) none (.node .leaf none (.node .leaf (some ⟨[(200001,[1,2,6,7,8],[])],[],[],[],false⟩) .leaf)))) none (.node (.node (.node .leaf none (.node .leaf (some ⟨[(200001,[0,1,2,8,9,10],[]),(200006,[1,2,21,22,23],[])],[],[],[],false⟩) .leaf)) none .leaf) none (.node (.node (.node .leaf (some ⟨[],[3],[],[],true⟩) .leaf) none .leaf) none (.node (.node .leaf (some ⟨[(4,[0,4],[]),(200009,[0,4,5,6,7],[])],[],[],[],false⟩) .leaf) none .leaf))))) none (.node (.node (.node (.node (.node .leaf none (.node .leaf (some ⟨[(200003,[0,3,4],[])],[],[],[],false⟩) .leaf)) none .leaf) none .leaf) (some ⟨[(200004,[2,3,5],[0,1])],[],[],[],false⟩) (.node (.node (.node .leaf (some ⟨[(200003,[3,9,10,11],[])],[7],[],[],true⟩) .leaf) none .leaf) (some ⟨[(200001,[0],[])],[],[],[],false⟩) (.node (.node (.node .leaf (some ⟨[],[3],[],[],true⟩) .leaf) (some ⟨[(5,[0],[])],[],[],[],false⟩) .leaf) none .leaf))) none (.node (.node (.node (.node (.node .leaf (some ⟨[],[1],[],[],false⟩) .leaf) none .leaf) none (.node .leaf none (.node .leaf (some ⟨[(4,[0,2,3],[0])],[],[],[],false⟩) .leaf))) (some ⟨[(12,[0,1,2,8],[]),(200015,[0,1,2,76,77],[])],[],[],[],false⟩) (.node (.node (.node .leaf (some ⟨[],[3,4,5],[],[],true⟩) .leaf) none .leaf) none (.node .leaf none (.node .leaf (some ⟨[(200002,[0,1,7,8],[])],[],[],[],false⟩) .leaf)))) none (.node (.node .leaf none (.node .leaf (some ⟨[],[3],[],[],true⟩) .leaf)) (some ⟨[(4,[0,2,4,6],[0,1]),(200009,[0,2,6,9,43,44,45],[1,2])],[],[],[(0,1,.fz 2)],false⟩) .leaf)))))
def de:cu:=⟨lF,TU,Qn,TT⟩
abbrev bu(R:bv)(f:Nat)(a:List D)(H:DH):ag:=IT de R 200 (.call f a none) H
abbrev bG(R:bv)(f k:Nat)(x:List LD)(L:LS)(H:DH):ag:=MT de R 200 f k x L H
abbrev ae(R:bv)(f k:Nat)(x:List LD)(L:LS)(H:DH):ag:=Sn de R f k x L H
abbrev ai:bv:=ed de
abbrev aD(f:Nat)(a:List D)(H:DH):ag:=ed de (.call f a none) H
abbrev ab:=Tryz.prog
end Go.Proofs.YtenibcfppefobaaGreatDoor
set_option linter.all false
noncomputable section
namespace Go.Proofs.YtenibcfppefobaaGreatDoor
open Go.AI
theorem f137{R:bv}{p0:af}{p1:Int}{H:DH}:bu R 137 [.str p0,.i p1] H =
 dE p1 fun a=>ew p0 a fun a=>aB ab .eql 5 true a (.int .u8 126) fun b=>brD b (aB ab .eql 5 true a (.int .u8 126) fun a=>brD a (ae R 137 200006 [.g (.str p0),.n p1,.lp 0 0,.n (eg (p1+1))] [(0,(xT 0 0 [] 0))] H) (ae R 137 200006 [.g (.str p0),.n p1,.lp 0 0,.n p1] [(0,(xT 0 0 [] 0))] H)) (C R 187 [a] H fun b H=>brD b (aB ab .eql 5 true a (.int .u8 126) fun a=>brD a (ae R 137 200006 [.g (.str p0),.n p1,.lp 0 0,.n (eg (p1+1))] [(0,(xT 0 0 [] 0))] H) (ae R 137 200006 [.g (.str p0),.n p1,.lp 0 0,.n p1] [(0,(xT 0 0 [] 0))] H)) (aB ab .eql 5 true a (.int .u8 39) fun b=>brD b (cond (decide ((eg (p1+1))<(p0.length:Int))) (dE (eg (p1+1)) fun b=>ew p0 b fun b=>C R 190 [b] H fun b H=>brD b (C R 191 [.str p0,.i (eg (p1+1))] H fun a H=>aB ab .sub 3 false a (.i p1) fun b=>aB ab .gtr 3 true b (.i 24) fun b=>brD b (ret (.tuple [.agg (xT 0 0 [] 0),.i 2]) H) (cA ab 9 (.str p0) (some (.i p1)) (some a) none H fun a H=>ah 1 a fun a=>az (xT 4 0 [] 0) 2 a fun a=>az a 3 [.i p1] fun a=>ah 4 (.agg a) fun a=>az (xT 0 0 [] 0) 0 a fun a=>aC a 0 fun b=>aC a 1 fun c=>aC a 2 fun d=>aC a 3 fun a=>ret (.tuple [.agg [b,c,d,a],.i 0]) H)) (ae R 137 17 [.g (.str p0),.n p1,.lp 0 0,.g a] [(0,(xT 0 0 [] 0))] H)) (ae R 137 17 [.g (.str p0),.n p1,.lp 0 0,.g a] [(0,(xT 0 0 [] 0))] H)) (ae R 137 17 [.g (.str p0),.n p1,.lp 0 0,.g a] [(0,(xT 0 0 [] 0))] H))):=by kernel_rfl
theorem CM{R:bv}{v0:af}{v1 v7 a b:Int}{c:af}{e:Int}{H:DH}:bG R 137 200006 [.g (.str v0),.n v1,.lp 0 0,.n v7] [(0,xT a b c e)] H =
 cond (decide (v7<v0.length)) (dE v7 fun d=>ew v0 d fun d=>C R 187 [d] H fun d H=>brD d (ae R 137 200006 [.g (.str v0),.n v1,.lp 0 0,.n (eg (v7+1))] [(0,xT a b c e)] H) (ae R 137 8 [.g (.str v0),.n v1,.lp 0 0,.n v7] [(0,xT a b c e)] H)) (ae R 137 8 [.g (.str v0),.n v1,.lp 0 0,.n v7] [(0,xT a b c e)] H):=by kernel_rfl
theorem Nk{R:bv}{v0:af}{v1 v6 a b:Int}{c:af}{e:Int}{H:DH}:bG R 137 17 [.g (.str v0),.n v1,.lp 0 0,.g (.int .u8 v6)] [(0,xT a b c e)] H =
 C R 190 [.int .u8 v6] H fun d H=>brD d (ae R 137 18 [.g (.str v0),.n v1,.lp 0 0,.g (.int .u8 v6)] [(0,xT a b c e)] H) (C R 192 [.int .u8 v6] H fun d H=>brD d (ae R 137 18 [.g (.str v0),.n v1,.lp 0 0,.g (.int .u8 v6)] [(0,xT a b c e)] H) (C R 195 [.str v0,.i v1] H fun d H=>aB ab .eql 3 true d (.i 0) fun f=>brD f (ret (.tuple [.agg (xT 0 0 [] 0),.i 11]) H) (aB ab .add 3 false (.i v1) d fun d=>cA ab 9 (.str v0) (some (.i v1)) (some d) none H fun d H=>ah 1 d fun d=>az (xT 6 0 [] 0) 2 d fun d=>az d 3 [.i v1] fun d=>ah 4 (.agg d) fun d=>az (xT a b c e) 0 d fun a=>aC a 0 fun b=>aC a 1 fun c=>aC a 2 fun d=>aC a 3 fun a=>ret (.tuple [.agg [b,c,d,a],.i 0]) H))):=by kernel_rfl
theorem Qi{R:bv}{v0:af}{v1 v7 a b:Int}{c:af}{e:Int}{H:DH}:bG R 137 8 [.g (.str v0),.n v1,.lp 0 0,.n v7] [(0,xT a b c e)] H =
 cA ab 9 (.str v0) (some (.i v1)) (some (.i v7)) none H fun d H=>C R 188 [d] H fun d H=>di d 0 fun f=>di d 1 fun d=>aB ab .neq 28 true d (.i 0) fun d=>brD d (ret (.tuple [.agg (xT 0 0 [] 0),.i 13]) H) (cond (decide (v7<v0.length)) (dE v7 fun d=>ew v0 d fun d=>C R 189 [d] H fun d H=>brD d (ret (.tuple [.agg (xT 0 0 [] 0),.i 13]) H) (dE v7 fun d=>ew v0 d fun d=>aB ab .eql 5 true d (.int .u8 39) fun d=>brD d (ret (.tuple [.agg (xT 0 0 [] 0),.i 13]) H) (ae R 137 11 [.g (.str v0),.n v1,.lp 0 0,.n v7,.g f] [(0,xT a b c e)] H))) (ae R 137 11 [.g (.str v0),.n v1,.lp 0 0,.n v7,.g f] [(0,xT a b c e)] H)):=by kernel_rfl
theorem Nj{R:bv}{v0:af}{v1 v6 a b:Int}{c:af}{e:Int}{H:DH}:bG R 137 18 [.g (.str v0),.n v1,.lp 0 0,.g (.int .u8 v6)] [(0,xT a b c e)] H =
 C R 193 [.str v0,.i v1] H fun d H=>aB ab .sub 3 false d (.i v1) fun f=>aB ab .gtr 3 true f (.i 24) fun f=>brD f (ret (.tuple [.agg (xT 0 0 [] 0),.i 2]) H) (C R 192 [.int .u8 v6] H fun f H=>brD f (ae R 137 26 [.g (.str v0),.n v1,.lp 0 0,.g d,.n 3] [(0,xT a b c e)] H) (cA ab 9 (.str v0) (some (.i v1)) (some d) none H fun f H=>C R 194 [f] H fun f H=>brD f (ae R 137 26 [.g (.str v0),.n v1,.lp 0 0,.g d,.n 5] [(0,xT a b c e)] H) (ae R 137 26 [.g (.str v0),.n v1,.lp 0 0,.g d,.n 2] [(0,xT a b c e)] H))):=by kernel_rfl
theorem Nl{R:bv}{v0:af}{v1 v7 v8 a b:Int}{c:af}{e:Int}{H:DH}:bG R 137 11 [.g (.str v0),.n v1,.lp 0 0,.n v7,.n v8] [(0,xT a b c e)] H =
 cA ab 9 (.str v0) (some (.i v1)) (some (.i v7)) none H fun d H=>ah 1 d fun d=>az (xT 1 v8 [] 0) 2 d fun d=>az d 3 [.i v1] fun d=>ah 4 (.agg d) fun d=>az (xT a b c e) 0 d fun a=>aC a 0 fun b=>aC a 1 fun c=>aC a 2 fun d=>aC a 3 fun a=>ret (.tuple [.agg [b,c,d,a],.i 0]) H:=by kernel_rfl
theorem Ni{R:bv}{v0:af}{v1 a b c e:Int}{h:af}{j:Int}{H:DH}:bG R 137 26 [.g (.str v0),.n v1,.lp 0 0,.n a,.n b] [(0,xT c e h j)] H =
 cA ab 9 (.str v0) (some (.i v1)) (some (.i a)) none H fun a H=>ah 1 a fun a=>az (xT b 0 [] 0) 2 a fun a=>az a 3 [.i v1] fun a=>ah 4 (.agg a) fun a=>az (xT c e h j) 0 a fun a=>aC a 0 fun b=>aC a 1 fun c=>aC a 2 fun d=>aC a 3 fun a=>ret (.tuple [.agg [b,c,d,a],.i 0]) H:=by kernel_rfl
theorem TB{R:bv}{p0:af}{H:DH}:bu R 194 [.str p0] H =
 ae R 194 200003 [.g (.str p0),.g (.row 1 [[.str [97,110,100]],[.str [99,97,115,101]],[.str [100,97,116,97]],[.str [101,108,115,101]],[.str [101,110,100]],[.str [102,110]],[.str [102,117,110]],[.str [105,102]],[.str [105,110]],[.str [105,110,112,117,116]],[.str [108,101,116]],[.str [111,102]],[.str [111,117,116,112,117,116]],[.str [116,104,101,110]],[.str [118,97,108]]]),.n 0] [] H:=by kernel_rfl
theorem ta{R:bv}{v0:af}{v3:gi}{v4:Int}{H:DH}:bG R 194 200003 [.g (.str v0),.g (.row 1 v3),.n v4] [] H =
 cond (decide (v4<v3.length)) (dE v4 fun a=>eO v3 a fun a=>aC a 0 fun a=>aB ab .eql 9 false a (.str v0) fun a=>brD a (ret (.bool true) H) (ae R 194 200003 [.g (.str v0),.g (.row 1 v3),.n (eg (v4+1))] [] H)) (ret (.bool false) H):=by kernel_rfl
theorem f276{R:bv}{p0 p1:af}{H:DH}:bu R 276 [.str p0,.str p1] H =
 cond (decide ((p0.length:Int)>=(p1.length:Int))) (cA ab 9 (.str p0) none (some (.i p1.length)) none H fun a H=>aB ab .eql 9 false a (.str p1) fun a=>ret a H) (ret (.bool false) H):=by kernel_rfl
theorem f225{R:bv}{p0:Int}{H:DH}:bu R 225 [.int .u8 p0] H =
 cond (p0==32) (ret (.bool true) H) (cond (p0==9) (ret (.bool true) H) (cond (p0==10) (ret (.bool true) H) (ret (.bool (p0==13)) H))):=by kernel_rfl
theorem Tv{R:bv}{p0:Int}{H:DH}:bu R 229 [.int .u8 p0] H =
 cond (decide ((48:Int)<=p0)) (ret (.bool (decide (p0<=57))) H) (ret (.bool false) H):=by kernel_rfl
end Go.Proofs.YtenibcfppefobaaGreatDoor
set_option linter.all false
noncomputable section
namespace Go.Proofs.YtenibcfppefobaaGreatDoor
open Go.AI
theorem TL{R:bv}{y a:Nat}{H:DH}:bu R 183 [.yld y,.ptr a 0] H =
 aF H a fun _ b=>aC b 0 fun b=>C R 184 [b] H fun _ H=>ae R 183 200001 [.g (.yld y),.g (.ptr a 0)] [] H:=by kernel_rfl
theorem CL{R:bv}{v0 v1:Nat}{H:DH}:bG R 183 200001 [.g (.yld v0),.g (.ptr v1 0)] [] H =
 aF H v1 fun _ a=>aC a 0 fun a=>eu a fun a=>dt a 0 fun a=>dt a 1 fun a=>ft ab 3 a H fun a=>aF H v1 fun _ b=>aC b 0 fun b=>eu b fun b=>dt b 0 fun b=>dt b 0 fun b=>ft ab 9 b H fun b=>fq ab 9 b H fun b=>aB ab .lss 3 false a b fun a=>brD a (aF H v1 fun _ a=>aC a 0 fun a=>C R 185 [a] H fun a H=>ah 4 a fun a=>az (xT 0 0 [] 0) 0 a fun a=>aF H v1 fun _ b=>aC b 0 fun b=>eu b fun c=>dt c 0 fun c=>dt c 1 fun c=>ft ab 3 c H fun c=>aC a 2 fun d=>fq ab 9 d H fun d=>aB ab .add 3 false c d fun c=>eu b fun b=>dt b 0 fun b=>dt b 1 fun b=>ah 1 c fun c=>Me b c H fun H=>aC a 0 fun b=>aC a 1 fun c=>aC a 2 fun d=>aC a 3 fun a=>eK (R (.call 0 [.agg [b,c,d,a]] (some (.round v0))) H) (fun a H=>rl .not a fun a=>brD a (ret (.tuple []) H) (aF H v1 fun _ a=>aC a 0 fun a=>C R 184 [a] H fun _ H=>ae R 183 200001 [.g (.yld v0),.g (.ptr v1 0)] [] H)) fun a H=>some ⟨.pan a,none,H⟩) (ret (.tuple []) H):=by kernel_rfl
theorem To{R:bv}{p0:Nat}{p1 p2:Int}{H:DH}:bu R 234 [.ptr p0 0,.i p1,.i p2] H =
 cond (decide (p2>24)) (aF H p0 fun _ a=>aC a 1 fun a=>ah 1 a fun a=>az [.i 0,.i 0] 0 a fun a=>az a 1 [.i 2] fun a=>pan (.iface 180 (.agg a)) H) (aF H p0 fun _ a=>aC a 0 fun a=>aF H p0 fun _ b=>aC b 1 fun b=>aF H p0 fun _ c=>aC c 1 fun c=>aB ab .add 3 false c (.i p2) fun c=>cA ab 9 a (some b) (some c) none H fun a _=>aF H p0 fun _ b=>aC b 1 fun b=>ah 1 a fun a=>az (xT p1 0 [] 0) 2 a fun a=>ah 1 b fun b=>az a 3 b fun a=>ah 4 (.agg a) fun a=>az (xT 0 0 [] 0) 0 a fun a=>aC a 0 fun b=>aC a 1 fun c=>aC a 2 fun d=>aC a 3 fun a=>ret (.agg [b,c,d,a]) H):=by kernel_rfl
theorem TE{R:bv}{p0:af}{p1:Int}{H:DH}:bu R 191 [.str p0,.i p1] H =
 ae R 191 200002 [.g (.str p0),.n p1] [] H:=by kernel_rfl
theorem CI{R:bv}{v0:af}{v5:Int}{H:DH}:bG R 191 200002 [.g (.str v0),.n v5] [] H =
 cond (decide (v5<v0.length)) (dE v5 fun a=>ew v0 a fun a=>C R 189 [a] H fun a H=>brD a (ae R 191 200002 [.g (.str v0),.n (eg (v5+1))] [] H) (ret (.i v5) H)) (ret (.i v5) H):=by kernel_rfl
theorem TG{R:bv}{p0:Int}{H:DH}:bu R 189 [.int .u8 p0] H =
 C R 190 [.int .u8 p0] H fun a H=>brD a (ret (.bool true) H) (C R 192 [.int .u8 p0] H fun a H=>brD a (ret (.bool true) H) (C R 187 [.int .u8 p0] H fun a H=>brD a (ret (.bool true) H) (ret (.bool (p0==95)) H))):=by kernel_rfl
theorem Tp{R:bv}{p0:Int}{H:DH}:bu R 233 [.int .u8 p0] H =
 cond (decide ((65:Int)<=p0)) (ret (.bool (decide (p0<=90))) H) (ret (.bool false) H):=by kernel_rfl
end Go.Proofs.YtenibcfppefobaaGreatDoor
set_option linter.all false
noncomputable section
namespace Go.Proofs.YtenibcfppefobaaGreatDoor
open Go.AI
theorem TJ{R:bv}{p0:Nat}{H:DH}:bu R 185 [.ptr p0 0] H =
 C R 228 [.ptr p0 0,.i 0] H fun a H=>C R 229 [a] H fun b H=>brD b (C R 230 [.ptr p0 0] H fun a H=>ah 4 a fun a=>az (xT 0 0 [] 0) 0 a fun a=>aC a 0 fun b=>aC a 1 fun c=>aC a 2 fun d=>aC a 3 fun a=>ret (.agg [b,c,d,a]) H) (aB ab .eql 5 true a (.int .u8 126) fun b=>brD b (C R 230 [.ptr p0 0] H fun a H=>ah 4 a fun a=>az (xT 0 0 [] 0) 0 a fun a=>aC a 0 fun b=>aC a 1 fun c=>aC a 2 fun d=>aC a 3 fun a=>ret (.agg [b,c,d,a]) H) (C R 231 [a] H fun b H=>brD b (C R 232 [.ptr p0 0,.i 2] H fun a H=>ah 4 a fun a=>az (xT 0 0 [] 0) 0 a fun a=>aC a 0 fun b=>aC a 1 fun c=>aC a 2 fun d=>aC a 3 fun a=>ret (.agg [b,c,d,a]) H) (C R 233 [a] H fun b H=>brD b (C R 232 [.ptr p0 0,.i 3] H fun a H=>ah 4 a fun a=>az (xT 0 0 [] 0) 0 a fun a=>aC a 0 fun b=>aC a 1 fun c=>aC a 2 fun d=>aC a 3 fun a=>ret (.agg [b,c,d,a]) H) (aB ab .eql 5 true a (.int .u8 39) fun b=>brD b (C R 228 [.ptr p0 0,.i 1] H fun b H=>C R 231 [b] H fun b H=>brD b (C R 224 [.ptr p0 0,.i 1,.func 235 [] []] H fun a H=>aB ab .add 3 true (.i 1) a fun a=>C R 234 [.ptr p0 0,.i 4,a] H fun a H=>ah 4 a fun a=>az (xT 0 0 [] 0) 0 a fun a=>aC a 0 fun b=>aC a 1 fun c=>aC a 2 fun d=>aC a 3 fun a=>ret (.agg [b,c,d,a]) H) (ae R 185 11 [.g (.ptr p0 0),.lp 0 0,.g a] [(0,(xT 0 0 [] 0))] H)) (ae R 185 11 [.g (.ptr p0 0),.lp 0 0,.g a] [(0,(xT 0 0 [] 0))] H))))):=by kernel_rfl
theorem Nh{R:bv}{v0:Nat}{v3 a b:Int}{c:af}{e:Int}{H:DH}:bG R 185 11 [.g (.ptr v0 0),.lp 0 0,.g (.int .u8 v3)] [(0,xT a b c e)] H =
 C R 226 [.ptr v0 0,.str [61,62]] H fun d H=>brD d (C R 234 [.ptr v0 0,.i 6,.i 2] H fun d H=>ah 4 d fun d=>az (xT a b c e) 0 d fun a=>aC a 0 fun b=>aC a 1 fun c=>aC a 2 fun d=>aC a 3 fun a=>ret (.agg [b,c,d,a]) H) (C R 226 [.ptr v0 0,.str [45,62]] H fun d H=>brD d (C R 234 [.ptr v0 0,.i 6,.i 2] H fun d H=>ah 4 d fun d=>az (xT a b c e) 0 d fun a=>aC a 0 fun b=>aC a 1 fun c=>aC a 2 fun d=>aC a 3 fun a=>ret (.agg [b,c,d,a]) H) (C R 236 [.str [40,41,44,59,58,124,61,60,43,45,42,47,37,95],.int .u8 v3] H fun d H=>aB ab .geq 3 true d (.i 0) fun d=>brD d (C R 234 [.ptr v0 0,.i 6,.i 1] H fun d H=>ah 4 d fun d=>az (xT a b c e) 0 d fun a=>aC a 0 fun b=>aC a 1 fun c=>aC a 2 fun d=>aC a 3 fun a=>ret (.agg [b,c,d,a]) H) (aF H v0 fun _ a=>aC a 1 fun a=>ah 1 a fun a=>az [.i 0,.i 0] 0 a fun a=>az a 1 [.i 11] fun a=>pan (.iface 180 (.agg a)) H))):=by kernel_rfl
theorem TC{R:bv}{p0:af}{p1:Int}{H:DH}:bu R 193 [.str p0,.i p1] H =
 ae R 193 200002 [.g (.str p0),.n p1] [] H:=by kernel_rfl
theorem CH{R:bv}{v0:af}{v5:Int}{H:DH}:bG R 193 200002 [.g (.str v0),.n v5] [] H =
 cond (decide (v5<v0.length)) (dE v5 fun a=>ew v0 a fun a=>C R 189 [a] H fun a H=>brD a (ae R 193 200002 [.g (.str v0),.n (eg (v5+1))] [] H) (ae R 193 200005 [.g (.str v0),.n v5,.n (eg (v5+1))] [] H)) (ae R 193 200005 [.g (.str v0),.n v5,.n (eg (v5+1))] [] H):=by kernel_rfl
theorem CG{R:bv}{v0:af}{v5 v6:Int}{H:DH}:bG R 193 200005 [.g (.str v0),.n v5,.n v6] [] H =
 cond (decide (v6<v0.length)) (dE v6 fun a=>ew v0 a fun a=>C R 187 [a] H fun a H=>brD a (ae R 193 200005 [.g (.str v0),.n v5,.n (eg (v6+1))] [] H) (cond (decide (v5<v0.length)) (dE v5 fun a=>ew v0 a fun a=>aB ab .eql 5 true a (.int .u8 39) fun a=>brD a (cond (decide (v6>(eg (v5+1)))) (ret (.i v6) H) (ret (.i v5) H)) (ret (.i v5) H)) (ret (.i v5) H))) (cond (decide (v5<v0.length)) (dE v5 fun a=>ew v0 a fun a=>aB ab .eql 5 true a (.int .u8 39) fun a=>brD a (cond (decide (v6>(eg (v5+1)))) (ret (.i v6) H) (ret (.i v5) H)) (ret (.i v5) H)) (ret (.i v5) H)):=by kernel_rfl
theorem Tz{R:bv}{p0:Nat}{p1:af}{H:DH}:bu R 226 [.ptr p0 0,.str p1] H =
 aF H p0 fun _ a=>aC a 0 fun a=>aF H p0 fun _ b=>aC b 1 fun b=>cA ab 9 a (some b) none none H fun a _=>eK (R (.call 261 [a,.str p1] none) H) (fun a H=>ret a H) fun _ _=>none:=by kernel_rfl
theorem TM{R:bv}{p0:Int}{H:DH}:bu R 136 [.int .u8 p0] H =
 cond (p0==9) (ret (.bool true) H) (cond (p0==10) (ret (.bool true) H) (cond (p0==13) (ret (.bool true) H) (ret (.bool (p0==32)) H))):=by kernel_rfl
theorem Ts{R:bv}{p0:Int}{H:DH}:bu R 231 [.int .u8 p0] H =
 cond (decide ((97:Int)<=p0)) (ret (.bool (decide (p0<=122))) H) (ret (.bool false) H):=by kernel_rfl
theorem Tm{R:bv}{p0 p1:af}{H:DH}:bu R 261 [.str p0,.str p1] H =
 C R 276 [.str p0,.str p1] H fun a H=>ret a H:=by kernel_rfl
end Go.Proofs.YtenibcfppefobaaGreatDoor
set_option linter.all false
noncomputable section
namespace Go.Proofs.YtenibcfppefobaaGreatDoor
open Go.AI
theorem UF{R:bv}{p0:af}{H:DH}:bu R 87 [.str p0] H =
 let a:=H++[.cells 0 [.nilrow]];let b:=a++[.cells 0 [.i 0,.i 0]];C R 132 [.str p0] b fun b c=>eK (R (.call 134 [b] none) c) (fun c d=>HP c fun e f g=>eK (R (.call e (f++(.yld (d.length+1)::g)) none) (d++[.coll,Pr de 87 [0,2,3,4,6,7,8,9,10] [.g (.str p0),.g b,.g (.ptr H.length 0),.g (.ptr a.length 0),.g (.str p0),.g b,.g (.func 133 [] [.ptr H.length 0,.ptr a.length 0]),.g b,.g c]])) (fun _ c=>yz c (d.length+1) fun c=>aF c H.length fun _ e=>aC e 0 fun e=>ah 1 e fun e=>aF c H.length fun f g=>az g 0 e fun e=>let e:=c.set H.length (.cells (f+1) e);aF (cH e [c]) a.length fun _ c=>aC c 0 fun f=>aC c 1 fun c=>aF e a.length fun g h=>az h 0 [f,c] fun c=>let c:=e.set a.length (.cells (g+1) c);qO c d.length fun c=>Fa (R (.call 133 [.ptr H.length 0,.ptr a.length 0] (some .returning)) c) (fun c=>aF c H.length fun _ d=>aC d 0 fun d=>aF c a.length fun _ a=>aC a 0 fun e=>aC a 1 fun a=>ret (.tuple [b,d,.agg [e,a]]) c) fun a H=>some ⟨.pan a,none,H⟩) fun c e=>qO e d.length fun d=>Fa (R (.call 133 [.ptr H.length 0,.ptr a.length 0] (some (.panicking c))) d) (fun c=>aF c H.length fun _ d=>aC d 0 fun d=>aF c a.length fun _ a=>aC a 0 fun e=>aC a 1 fun a=>ret (.tuple [b,d,.agg [e,a]]) c) fun a H=>some ⟨.pan a,none,H⟩) fun c d=>Fa (R (.call 133 [.ptr H.length 0,.ptr a.length 0] (some (.panicking c))) d) (fun c=>aF c H.length fun _ d=>aC d 0 fun d=>aF c a.length fun _ a=>aC a 0 fun e=>aC a 1 fun a=>ret (.tuple [b,d,.agg [e,a]]) c) fun a H=>some ⟨.pan a,none,H⟩:=by kernel_rfl
theorem Ng{R:bv}{v0:af}{v2:D}{v3 v4:Nat}{v6:af}{v7 v8 v9 a:D}{b c:Int}{e:af}{h:Int}{o:Nat}{H:DH}:OQ de R 200 87 o [0,2,3,4,6,7,8,9,10] [.g (.str v0),.g v2,.g (.ptr v3 0),.g (.ptr v4 0),.g (.str v6),.g v7,.g v8,.g v9,.g a] [.agg (xT b c e h)] H =
 let a:=H++[.cells 0 (xT 0 0 [] 0)];aF a H.length fun d f=>az f 0 (xT b c e h) fun b=>let a:=a.set H.length (.cells (d+1) b);In a o fun a=>aF a v3 fun _ b=>aC b 0 fun b=>aF a H.length fun _ c=>aC c 0 fun d=>aC c 1 fun e=>aC c 2 fun f=>aC c 3 fun c=>fN (br ab 160) 4 b [[d,e,f,c]] a fun a H=>ah 1 a fun a=>aF H v3 fun b c=>az c 0 a fun a=>let H:=H.set v3 (.cells (b+1) a);uM H o:=by kernel_rfl
theorem Tq{R:bv}{p0:Nat}{p1:Int}{H:DH}:bu R 232 [.ptr p0 0,.i p1] H =
 C R 224 [.ptr p0 0,.i 0,.func 235 [] []] H fun a H=>C R 228 [.ptr p0 0,a] H fun b H=>aB ab .eql 5 true b (.int .u8 39) fun b=>brD b (aB ab .add 3 true a (.i 1) fun b=>C R 224 [.ptr p0 0,b,.func 229 [] []] H fun b H=>aB ab .gtr 3 true b (.i 0) fun c=>brD c (aB ab .add 3 true (.i 1) b fun b=>aB ab .add 3 false a b fun a=>ae R 232 6 [.g (.ptr p0 0),.n p1,.lp 0 0,.g a] [(0,(xT 0 0 [] 0))] H) (ae R 232 6 [.g (.ptr p0 0),.n p1,.lp 0 0,.g a] [(0,(xT 0 0 [] 0))] H)) (ae R 232 6 [.g (.ptr p0 0),.n p1,.lp 0 0,.g a] [(0,(xT 0 0 [] 0))] H):=by kernel_rfl
theorem Qg{R:bv}{v0:Nat}{v1 v5 a b:Int}{c:af}{e:Int}{H:DH}:bG R 232 6 [.g (.ptr v0 0),.n v1,.lp 0 0,.n v5] [(0,xT a b c e)] H =
 C R 234 [.ptr v0 0,.i v1,.i v5] H fun a H=>ah 4 a fun a=>az (xT 0 0 [] 0) 0 a fun a=>aF H v0 fun _ b=>aC b 2 fun b=>aC a 2 fun c=>fp ab 135 b c true H fun b=>di b 0 fun c=>di b 1 fun b=>brD b (ah 1 c fun b=>az a 0 b fun a=>aC a 0 fun b=>aC a 1 fun c=>aC a 2 fun d=>aC a 3 fun a=>ret (.agg [b,c,d,a]) H) (aC a 0 fun b=>aC a 1 fun c=>aC a 2 fun d=>aC a 3 fun a=>ret (.agg [b,c,d,a]) H):=by kernel_rfl
theorem TK{R:bv}{p0:Nat}{H:DH}:bu R 184 [.ptr p0 0] H =
 ae R 184 200000 [.g (.ptr p0 0)] [] H:=by kernel_rfl
theorem CK{R:bv}{v0:Nat}{H:DH}:bG R 184 200000 [.g (.ptr v0 0)] [] H =
 eK (R (.call 224 [.ptr v0 0,.i 0,.func 225 [] []] none) H) (fun a b=>aF (cH b [H]) v0 fun _ c=>aC c 1 fun c=>aB ab .add 3 false c a fun a=>ah 1 a fun a=>aF b v0 fun c d=>az d 1 a fun a=>let H:=b.set v0 (.cells (c+1) a);C R 226 [.ptr v0 0,.str [40,42]] H fun a H=>rl .not a fun a=>brD a (ret (.tuple []) H) (aF H v0 fun _ a=>aC a 1 fun a=>C R 227 [.ptr v0 0] H fun _ H=>aF H v0 fun _ b=>aC b 3 fun b=>aF H v0 fun _ c=>aC c 1 fun c=>ah 1 a fun a=>az [.i 0,.i 0] 0 a fun a=>ah 1 c fun c=>az a 1 c fun a=>ah 2 (.agg a) fun a=>fN (br ab 304) 2 b [a] H fun a H=>ah 1 a fun a=>aF H v0 fun b c=>az c 3 a fun a=>let H:=H.set v0 (.cells (b+1) a);ae R 184 200000 [.g (.ptr v0 0)] [] H)) fun _ _=>none:=by kernel_rfl
theorem TN{R:bv}{p0:Nat}{H:DH}:bu R 134 [.ptr p0 0] H =
 let a:=H++[.cells 0 [.ptr p0 0]];ret (.func 183 [] [.ptr H.length 0]) a:=by kernel_rfl
end Go.Proofs.YtenibcfppefobaaGreatDoor
set_option linter.all false
noncomputable section
namespace Go.Proofs.YtenibcfppefobaaGreatDoor
open Go.AI
theorem UE{R:bv}{p0:af}{H:DH}:bu R 90 [.str p0] H =
 cond ((p0.length:Int)==0) (ret (.i 0) H) (cond (decide ((p0.length:Int)>100)) (ret (.i 0) H) (ew p0 0 fun a=>C R 136 [a] H fun a H=>brD a (ret (.i 0) H) (cond (decide ((p0.length:Int)>1)) (cA ab 9 (.str p0) none (some (.i 2)) none H fun a H=>aB ab .eql 9 true a (.str [40,42]) fun a=>brD a (ret (.i 0) H) (ae R 90 5 [.g (.str p0)] [] H)) (ae R 90 5 [.g (.str p0)] [] H)))):=by kernel_rfl
theorem Sa{R:bv}{v0:af}{H:DH}:bG R 90 5 [.g (.str v0)] [] H =
 C R 137 [.str v0,.i 0] H fun a H=>di a 0 fun b=>di a 1 fun a=>ah 4 b fun b=>az (xT 0 0 [] 0) 0 b fun b=>aB ab .neq 28 true a (.i 0) fun a=>brD a (ret (.i 0) H) (aC b 2 fun a=>fq ab 9 a H fun a=>aB ab .neq 3 false a (.i v0.length) fun a=>brD a (ret (.i 0) H) (aC b 0 fun a=>ret a H)):=by kernel_rfl
theorem Tn{R:bv}{p0:Int}{H:DH}:bu R 235 [.int .u8 p0] H =
 C R 231 [.int .u8 p0] H fun a H=>brD a (ret (.bool true) H) (C R 233 [.int .u8 p0] H fun a H=>brD a (ret (.bool true) H) (C R 229 [.int .u8 p0] H fun a H=>brD a (ret (.bool true) H) (ret (.bool (p0==95)) H))):=by kernel_rfl
end Go.Proofs.YtenibcfppefobaaGreatDoor
set_option linter.all false
noncomputable section
namespace Go.Proofs.YtenibcfppefobaaGreatDoor
open Go.AI
theorem Tx{R:bv}{p0:Nat}{H:DH}:bu R 227 [.ptr p0 0] H =
 aF H p0 fun _ a=>aC a 1 fun a=>ae R 227 200002 [.g (.ptr p0 0),.g a,.n 0] [] H:=by kernel_rfl
theorem CE{R:bv}{v0:Nat}{v2 v3:Int}{H:DH}:bG R 227 200002 [.g (.ptr v0 0),.n v2,.n v3] [] H =
 aF H v0 fun _ a=>aC a 1 fun a=>aF H v0 fun _ b=>aC b 0 fun b=>fq ab 9 b H fun b=>aB ab .geq 3 false a b fun a=>brD a (pan (.iface 180 (.agg [.i v2,.i 12])) H) (C R 226 [.ptr v0 0,.str [40,42]] H fun a H=>brD a (cond (decide (v3>=100)) (aF H v0 fun _ a=>aC a 1 fun a=>ah 1 a fun a=>az [.i 0,.i 0] 0 a fun a=>az a 1 [.i 6] fun a=>pan (.iface 180 (.agg a)) H) (aF H v0 fun _ a=>aC a 1 fun a=>aB ab .add 3 true a (.i 2) fun a=>ah 1 a fun a=>aF H v0 fun b c=>az c 1 a fun a=>let H:=H.set v0 (.cells (b+1) a);ae R 227 200002 [.g (.ptr v0 0),.n v2,.n (eg (v3+1))] [] H)) (C R 226 [.ptr v0 0,.str [42,41]] H fun a H=>brD a (aF H v0 fun _ a=>aC a 1 fun a=>aB ab .add 3 true a (.i 2) fun a=>ah 1 a fun a=>aF H v0 fun b c=>az c 1 a fun a=>let H:=H.set v0 (.cells (b+1) a);cond ((eg (v3 - 1))==0) (ret (.tuple []) H) (ae R 227 200002 [.g (.ptr v0 0),.n v2,.n (eg (v3 - 1))] [] H)) (aF H v0 fun _ a=>aC a 1 fun a=>aB ab .add 3 true a (.i 1) fun a=>ah 1 a fun a=>aF H v0 fun b c=>az c 1 a fun a=>let H:=H.set v0 (.cells (b+1) a);ae R 227 200002 [.g (.ptr v0 0),.n v2,.n v3] [] H))):=by kernel_rfl
theorem f224{R:bv}{p0:Nat}{p1:Int}{p2:D}{H:DH}:bu R 224 [.ptr p0 0,.i p1,p2] H =
 ae R 224 200002 [.g (.ptr p0 0),.n p1,.g p2,.n 0] [] H:=by kernel_rfl
theorem CF{R:bv}{v0:Nat}{v1:Int}{v2:D}{v7:Int}{H:DH}:bG R 224 200002 [.g (.ptr v0 0),.n v1,.g v2,.n v7] [] H =
 aF H v0 fun _ a=>aC a 1 fun a=>aB ab .add 3 false a (.i v1) fun a=>aB ab .add 3 false a (.i v7) fun a=>aF H v0 fun _ b=>aC b 0 fun b=>fq ab 9 b H fun b=>aB ab .lss 3 false a b fun a=>brD a (aF H v0 fun _ a=>aC a 0 fun a=>aF H v0 fun _ b=>aC b 1 fun b=>aB ab .add 3 false b (.i v1) fun b=>aB ab .add 3 false b (.i v7) fun b=>iR ab 9 a b fun a=>EH lF v2 fun b c d=>eK (R (.call b (c++([a]++d)) none) H) (fun a H=>brD a (ae R 224 200002 [.g (.ptr v0 0),.n v1,.g v2,.n (eg (v7+1))] [] H) (ret (.i v7) H)) fun _ _=>none) (ret (.i v7) H):=by kernel_rfl
theorem Qj{R:bv}{a b:Nat}{H:DH}:IT de R 200 (.call 133 [.ptr a 0,.ptr b 0] (some .returning)) H =
 some ⟨.ret (.tuple []),(some .returning),H⟩:=by kernel_rfl
theorem Qk{R:bv}{b c:Nat}{a e:Int}{H:DH}:IT de R 200 (.call 133 [.ptr b 0,.ptr c 0] (some (.panicking [⟨.iface 180 (.agg [.i a,.i e]),false⟩]))) H =
 lN ab (.iface 180 (.agg [.i a,.i e])) 180 true fun d=>di d 1 fun f=>di d 0 fun d=>brD f (ah 2 d fun d=>az [.i 0,.i 0] 0 d fun d=>aF H b fun f g=>az g 0 [.nilrow] fun g=>let H:=H.set b (.cells (f+1) g);aC d 0 fun b=>aC d 1 fun d=>aF H c fun f g=>az g 0 [b,d] fun b=>let H:=H.set c (.cells (f+1) b);some ⟨.ret (.tuple []),(some (.panicking [⟨.iface 180 (.agg [.i a,.i e]),true⟩])),H⟩) (some ⟨.pan [⟨.iface 180 (.agg [.i a,.i e]),false⟩],(some (.panicking [⟨.iface 180 (.agg [.i a,.i e]),true⟩])),H⟩):=by kernel_rfl
theorem UG{R:bv}{p0:af}{H:DH}:bu R 57 [.str p0] H =
 pF H (cond (decide ((p0.length:Int)>24)) (ret (.i 0) H) (C R 87 [.str p0] H fun a H=>di a 0 fun _=>di a 1 fun b=>di a 2 fun a=>ah 2 a fun a=>az [.i 0,.i 0] 0 a fun a=>aC a 1 fun a=>aB ab .neq 28 true a (.i 0) fun a=>brD a (ret (.i 0) H) (fq ab 141 b H fun a=>aB ab .neq 3 true a (.i 1) fun a=>brD a (ret (.i 0) H) (dF ab 141 b (.i 0) fun a=>dt a 2 fun a=>ft ab 9 a H fun a=>aB ab .neq 9 false a (.str p0) fun a=>brD a (ret (.i 0) H) (dF ab 141 b (.i 0) fun a=>dt a 0 fun a=>ft ab 3 a H fun a=>ret a H))))):=by kernel_rfl
theorem UI{R:bv}{p0:af}{H:DH}:bu R 29 [.str p0] H =
 C R 57 [.str p0] H fun a H=>aB ab .eql 3 true a (.i 4) fun a=>ret a H:=by kernel_rfl
theorem TD{R:bv}{p0:Int}{H:DH}:bu R 192 [.int .u8 p0] H =
 cond (decide (p0>=65)) (ret (.bool (decide (p0<=90))) H) (ret (.bool false) H):=by kernel_rfl
end Go.Proofs.YtenibcfppefobaaGreatDoor
set_option linter.all false
noncomputable section
namespace Go.Proofs.YtenibcfppefobaaGreatDoor
open Go.AI
theorem Tt{R:bv}{p0:Nat}{H:DH}:bu R 230 [.ptr p0 0] H =
 C R 228 [.ptr p0 0,.i 0] H fun a H=>aB ab .eql 5 true a (.int .u8 126) fun a=>brD a (ae R 230 4 [.g (.ptr p0 0),.lp 0 0,.n 1] [(0,(xT 0 0 [] 0))] H) (ae R 230 4 [.g (.ptr p0 0),.lp 0 0,.n 0] [(0,(xT 0 0 [] 0))] H):=by kernel_rfl
theorem KQ{R:bv}{v0:Nat}{v3 a b:Int}{c:af}{e:Int}{H:DH}:bG R 230 4 [.g (.ptr v0 0),.lp 0 0,.n v3] [(0,xT a b c e)] H =
 C R 224 [.ptr v0 0,.i v3,.func 229 [] []] H fun d H=>aB ab .add 3 false (.i v3) d fun f=>C R 228 [.ptr v0 0,f] H fun f H=>aF H v0 fun _ g=>aC g 0 fun g=>aF H v0 fun _ h=>aC h 1 fun h=>aF H v0 fun _ i=>aC i 1 fun i=>aB ab .add 3 false i (.i v3) fun i=>aB ab .add 3 false i d fun d=>cA ab 9 g (some h) (some d) none H fun d _=>C R 262 [d] H fun g H=>di g 0 fun h=>di g 1 fun g=>aB ab .neq 28 true g (.i 0) fun g=>brD g (aF H v0 fun _ a=>aC a 1 fun a=>ah 1 a fun a=>az [.i 0,.i 0] 0 a fun a=>az a 1 [.i 13] fun a=>pan (.iface 180 (.agg a)) H) (C R 235 [f] H fun g H=>brD g (aF H v0 fun _ a=>aC a 1 fun a=>ah 1 a fun a=>az [.i 0,.i 0] 0 a fun a=>az a 1 [.i 13] fun a=>pan (.iface 180 (.agg a)) H) (aB ab .eql 5 true f (.int .u8 39) fun f=>brD f (aF H v0 fun _ a=>aC a 1 fun a=>ah 1 a fun a=>az [.i 0,.i 0] 0 a fun a=>az a 1 [.i 13] fun a=>pan (.iface 180 (.agg a)) H) (aF H v0 fun _ f=>aC f 1 fun f=>ah 1 h fun g=>az (xT 1 0 [] 0) 1 g fun g=>ah 1 d fun d=>az g 2 d fun d=>ah 1 f fun f=>az d 3 f fun d=>ah 4 (.agg d) fun d=>az (xT a b c e) 0 d fun a=>aC a 0 fun b=>aC a 1 fun c=>aC a 2 fun d=>aC a 3 fun a=>ret (.agg [b,c,d,a]) H))):=by kernel_rfl
theorem f195{R:bv}{p0:af}{p1:Int}{H:DH}:bu R 195 [.str p0,.i p1] H =
 cond (decide ((eg (p1+1))<(p0.length:Int))) (cA ab 9 (.str p0) (some (.i p1)) (some (.i (eg (p1+2)))) none H fun a H=>aB ab .eql 9 true a (.str [61,62]) fun a=>brD a (ret (.i 2) H) (cA ab 9 (.str p0) (some (.i p1)) (some (.i (eg (p1+2)))) none H fun a H=>aB ab .eql 9 true a (.str [45,62]) fun a=>brD a (ret (.i 2) H) (ae R 195 200005 [.g (.str p0),.n p1,.g (.str [40,41,44,59,58,124,61,60,43,45,42,47,37,95]),.n 0] [] H))) (ae R 195 200005 [.g (.str p0),.n p1,.g (.str [40,41,44,59,58,124,61,60,43,45,42,47,37,95]),.n 0] [] H):=by kernel_rfl
theorem sZ{R:bv}{v0:af}{v1:Int}{v5:af}{v6:Int}{H:DH}:bG R 195 200005 [.g (.str v0),.n v1,.g (.str v5),.n v6] [] H =
 cond (decide (v6<v5.length)) (dE v6 fun a=>ew v5 a fun a=>dE v1 fun b=>ew v0 b fun b=>aB ab .eql 5 false a b fun a=>brD a (ret (.i 1) H) (ae R 195 200005 [.g (.str v0),.n v1,.g (.str v5),.n (eg (v6+1))] [] H)) (ret (.i 0) H):=by kernel_rfl
theorem UH{R:bv}{p0:af}{H:DH}:bu R 55 [.str p0] H =
 C R 57 [.str p0] H fun a H=>aB ab .eql 3 true a (.i 3) fun a=>ret a H:=by kernel_rfl
theorem TF{R:bv}{p0:Int}{H:DH}:bu R 190 [.int .u8 p0] H =
 cond (decide (p0>=97)) (ret (.bool (decide (p0<=122))) H) (ret (.bool false) H):=by kernel_rfl
end Go.Proofs.YtenibcfppefobaaGreatDoor
set_option linter.all false
noncomputable section
namespace Go.Proofs.YtenibcfppefobaaGreatDoor
open Go.AI
theorem TH{R:bv}{p0:af}{H:DH}:bu R 188 [.str p0] H =
 cond (decide ((p0.length:Int)>0)) (ew p0 0 fun a=>aB ab .eql 5 true a (.int .u8 126) fun a=>brD a (ae R 188 4 [.g (.str p0),.n 1] [] H) (ae R 188 4 [.g (.str p0),.n 0] [] H)) (ae R 188 4 [.g (.str p0),.n 0] [] H):=by kernel_rfl
theorem Qh{R:bv}{v0:af}{v4:Int}{H:DH}:bG R 188 4 [.g (.str v0),.n v4] [] H =
 cond ((v0.length:Int)==v4) (ret (.tuple [.i 0,.i 13]) H) (cond (decide ((v0.length:Int)>30)) (ret (.tuple [.i 0,.i 13]) H) (dE v4 fun a=>ew v0 a fun a=>aB ab .eql 5 true a (.int .u8 48) fun a=>brD a (cond (decide ((v0.length:Int)>1)) (ret (.tuple [.i 0,.i 13]) H) (ae R 188 200009 [.g (.str v0),.n v4,.n 0,.n (-9223372036854775808),.n v4] [] H)) (ae R 188 200009 [.g (.str v0),.n v4,.n 0,.n (-9223372036854775808),.n v4] [] H))):=by kernel_rfl
theorem CJ{R:bv}{v0:af}{v4 v5 v6 v7:Int}{H:DH}:bG R 188 200009 [.g (.str v0),.n v4,.n v5,.n v6,.n v7] [] H =
 cond (decide (v7<v0.length)) (dE v7 fun a=>ew v0 a fun a=>C R 187 [a] H fun a H=>rl .not a fun a=>brD a (ret (.tuple [.i 0,.i 13]) H) (dE v7 fun a=>ew v0 a fun a=>aB ab .sub 5 true a (.int .u8 48) fun a=>oD ab 5 3 a fun a=>aB ab .add 3 false (.i v6) a fun b=>aB ab .quo 3 true b (.i 10) fun b=>aB ab .lss 3 false (.i v5) b fun b=>brD b (ret (.tuple [.i 0,.i 13]) H) (aB ab .sub 3 false (.i (eg (10*v5))) a fun a=>ae R 188 200009 [.g (.str v0),.n v4,.g a,.n v6,.n (eg (v7+1))] [] H))) (cond (v4==1) (ret (.tuple [.i v5,.i 0]) H) (cond (v5==v6) (ret (.tuple [.i 0,.i 13]) H) (ret (.tuple [.i (eg (0 - v5)),.i 0]) H))):=by kernel_rfl
theorem TO{R:bv}{p0:af}{H:DH}:bu R 132 [.str p0] H =
 let a:=H++[.map []];let b:=a++[.buf 2 true false []];let H:=b++[.cells 0 [.str p0,.i 0,.map H.length,.buf 2 a.length 0]];ae R 132 200003 [.g (.ptr b.length 0),.g (.agg [.str [97,110,100],.str [99,97,115,101],.str [100,97,116,97],.str [101,108,115,101],.str [101,110,100],.str [102,110],.str [102,117,110],.str [105,102],.str [105,110],.str [105,110,112,117,116],.str [108,101,116],.str [111,102],.str [111,117,116,112,117,116],.str [116,104,101,110],.str [118,97,108]]),.n 0] [] H:=by kernel_rfl
theorem CN{R:bv}{v3:Nat}{a b c e h j k l m p q r s t u:af}{v:Int}{H:DH}:bG R 132 200003 [.g (.ptr v3 0),.g (.agg [.str a,.str b,.str c,.str e,.str h,.str j,.str k,.str l,.str m,.str p,.str q,.str r,.str s,.str t,.str u]),.n v] [] H =
 cond (decide (v<15)) (iR ab 281 (.agg [.str a,.str b,.str c,.str e,.str h,.str j,.str k,.str l,.str m,.str p,.str q,.str r,.str s,.str t,.str u]) (.i v) fun d=>aF H v3 fun _ f=>aC f 2 fun f=>gL ab 135 f d (.i 5) H fun H=>ae R 132 200003 [.g (.ptr v3 0),.g (.agg [.str a,.str b,.str c,.str e,.str h,.str j,.str k,.str l,.str m,.str p,.str q,.str r,.str s,.str t,.str u]),.n (eg (v+1))] [] H) (ret (.ptr v3 0) H):=by kernel_rfl
theorem Tw{R:bv}{p0:Nat}{p1:Int}{H:DH}:bu R 228 [.ptr p0 0,.i p1] H =
 aF H p0 fun _ a=>aC a 1 fun a=>aB ab .add 3 false a (.i p1) fun a=>aF H p0 fun _ b=>aC b 0 fun b=>fq ab 9 b H fun b=>aB ab .geq 3 false a b fun a=>brD a (ret (.int .u8 0) H) (aF H p0 fun _ a=>aC a 0 fun a=>aF H p0 fun _ b=>aC b 1 fun b=>aB ab .add 3 false b (.i p1) fun b=>iR ab 9 a b fun a=>ret a H):=by kernel_rfl
theorem TI{R:bv}{p0:Int}{H:DH}:bu R 187 [.int .u8 p0] H =
 cond (decide (p0>=48)) (ret (.bool (decide (p0<=57))) H) (ret (.bool false) H):=by kernel_rfl
end Go.Proofs.YtenibcfppefobaaGreatDoor
set_option linter.all false
noncomputable section
namespace Go.Proofs.YtenibcfppefobaaGreatDoor
open Go.AI
def pk(l:af)(i:Nat):Nat:=(l[i]?).getD 0%256
def eI(c:Nat):Bool:=decide (97<=c)&&decide (c<=122)
def ii(c:Nat):Bool:=decide (65<=c)&&decide (c<=90)
def aT(c:Nat):Bool:=decide (48<=c)&&decide (c<=57)
def aP(c:Nat):Bool:=eI c||ii c||aT c||c==95
def dw(c:Nat):Bool:=c==32||c==9||c==10||c==13
def rn(q:Nat->Bool)(l:af)(i:Nat):Nat:=((l.drop i).takeWhile fun c=>q (c%256)).length
theorem zR(q:Nat->Bool){l:af}{i:Nat}(h:l.length<=i):rn q l i=0:=by simp[rn,List.drop_eq_nil_of_le h]
theorem jl(q:Nat->Bool){l:af}{i:Nat}(h:i<l.length):rn q l i=if q (pk l i)=true then rn q l (i+1)+1 else 0:=by
 unfold rn pk
 rw[List.drop_eq_getElem_cons h,List.takeWhile_cons,List.getElem?_eq_getElem h,Option.getD_some]
 split<;>rfl
theorem pR(q:Nat->Bool)(l:af)(i:Nat)(h:i<=l.length):i+rn q l i<=l.length:=by
 grind [rn,List.takeWhile_sublist]
theorem QZ(l:af)(i:Nat):pk l i<256:=Nat.mod_lt _ (by decide)
theorem mq{l:af}{i:Nat}(h:l.length<=i):pk l i=0:=by simp[pk,List.getElem?_eq_none h]
theorem cI{l:af}{i:Nat}(h:i<l.length)(κ:D->ag):ew l i κ=κ (.int .u8 (pk l i:Nat)):=by
 unfold ew pk
 rw[List.getElem?_eq_getElem h,Option.getD_some]
 rfl
theorem HK(l:af)(H:DH)(κ:D->ag):fq ab 9 (.str l) H κ=κ (.i l.length):=by kernel_rfl
theorem RG(l:af)(k:IntKind)(i:Int)(κ:D->ag):iR ab 9 (.str l) (.int k i) κ=dE i fun i=>ew l i κ:=by kernel_rfl
theorem LJ(l:af)(a b:Nat)(H:DH)(κ:D->DH->ag)(h:a<=b)(h2:b<=l.length):cA ab 9 (.str l) (some (.i a)) (some (.i b)) none H κ=κ (.str ((l.drop a).take (b - a))) H:=by
 have e:cA ab 9 (.str l) (some (.i a)) (some (.i b)) none H κ=boK (Nat.ble b l.length&&Nat.ble a b) (κ (.str ((l.drop a).take (b - a))) H):=by kernel_rfl
 rw[e,Nat.ble_eq_true_of_le h,Nat.ble_eq_true_of_le h2];rfl
theorem SA(l:af)(a:Nat)(H:DH)(κ:D->DH->ag)(h:a<=l.length):cA ab 9 (.str l) (some (.i a)) none none H κ=κ (.str (l.drop a)) H:=by
 have e:cA ab 9 (.str l) (some (.i a)) none none H κ=boK (Nat.ble l.length l.length&&Nat.ble a l.length) (κ (.str ((l.drop a).take (l.length - a))) H):=by kernel_rfl
 rw[e,Nat.ble_eq_true_of_le h,Nat.ble_eq_true_of_le (Nat.le_refl _),List.take_of_length_le (by simp)];rfl
theorem QS(l:af)(b:Nat)(H:DH)(κ:D->DH->ag)(h:b<=l.length):cA ab 9 (.str l) none (some (.i b)) none H κ=κ (.str (l.take b)) H:=by
 have e:cA ab 9 (.str l) none (some (.i b)) none H κ=boK (Nat.ble b l.length&&Nat.ble 0 b) (κ (.str ((l.drop 0).take (b - 0))) H):=by kernel_rfl
 rw[e,Nat.ble_eq_true_of_le h,Nat.ble_eq_true_of_le (Nat.zero_le _)];rfl
theorem iI{x:ag}{d:D}{H:DH}{k:D->DH->ag}{kp:List ff->DH->ag}(h:x=ret d H):eK x k kp=k d H:=by rw[h];rfl
theorem Ii{x:ag}{c:List ff}{u:Option eB}{H:DH}{k:D->DH->ag}{kp:List ff->DH->ag}(h:x=some ⟨.pan c,u,H⟩):eK x k kp=kp c H:=by rw[h];rfl
theorem zq{R:bv}{f:FuncId}{args:List D}{d:D}{H H':DH}{k:D->DH->ag}(h:R (.call f args none) H=pan d H'):C R f args H k=pan d H':=by rw[C,h];rfl
theorem Ek{H:DH}{o st:Nat}{cs:List D}{κ:Nat->List D->ag}(h:H[o]? = some (.cells st cs)):aF (cH H [H]) o κ=κ st cs:=ac (mT h (fun H2 h2=>by simp at h2;subst h2;exact h))
section bytes
variable(H:DH)(c:Nat)
theorem SS(a:Nat):decide ((a:Int)<=(c:Int))=decide (a<=c):=decide_eq_decide.2 (by omega)
theorem HC(a:Nat):decide ((c:Int)<=(a:Int))=decide (c<=a):=decide_eq_decide.2 (by omega)
theorem QL(a:Nat):decide ((c:Int)>=(a:Int))=decide (a<=c):=decide_eq_decide.2 (by omega)
theorem neq(a:Nat):((c:Int)==(a:Int))=(c==a):=by rw[Bool.eq_iff_iff];simp only[beq_iff_eq];omega
theorem Gn(a b:Nat):decide ((a:Int)<(b:Int))=decide (a<b):=decide_eq_decide.2 (by omega)
theorem rng(a b:Nat):cond (decide (a<=c)) (ret (.bool (decide (c<=b))) H) (ret (.bool false) H)=ret (.bool (decide (a<=c)&&decide (c<=b))) H:=by cases decide (a<=c)<;>rfl
theorem zB:aD 231 [.int .u8 (c:Nat)] H=ret (.bool (eI c)) H:=ev (Ts) (by rw[show(97:Int)=((97:Nat):Int)from rfl,show(122:Int)=((122:Nat):Int)from rfl,SS,HC,rng];rfl)
theorem GD:aD 233 [.int .u8 (c:Nat)] H=ret (.bool (ii c)) H:=ev (Tp) (by rw[show(65:Int)=((65:Nat):Int)from rfl,show(90:Int)=((90:Nat):Int)from rfl,SS,HC,rng];rfl)
theorem ub:aD 229 [.int .u8 (c:Nat)] H=ret (.bool (aT c)) H:=ev (Tv) (by rw[show(48:Int)=((48:Nat):Int)from rfl,show(57:Int)=((57:Nat):Int)from rfl,SS,HC,rng];rfl)
theorem zA:aD 190 [.int .u8 (c:Nat)] H=ret (.bool (eI c)) H:=ev (TF) (by rw[show(97:Int)=((97:Nat):Int)from rfl,show(122:Int)=((122:Nat):Int)from rfl,QL,HC,rng];rfl)
theorem Aw:aD 192 [.int .u8 (c:Nat)] H=ret (.bool (ii c)) H:=ev (TD) (by rw[show(65:Int)=((65:Nat):Int)from rfl,show(90:Int)=((90:Nat):Int)from rfl,QL,HC,rng];rfl)
theorem qL:aD 187 [.int .u8 (c:Nat)] H=ret (.bool (aT c)) H:=ev (TI) (by rw[show(48:Int)=((48:Nat):Int)from rfl,show(57:Int)=((57:Nat):Int)from rfl,QL,HC,rng];rfl)
theorem Eg:aD 235 [.int .u8 (c:Nat)] H=ret (.bool (aP c)) H:=ev (Tn) (by
 simp only[aq (zB _ _),aq (GD _ _),aq (ub _ _),aj,show(95:Int)=((95:Nat):Int)from rfl,neq,aP]
 cases eI c<;>cases ii c<;>cases aT c<;>rfl)
theorem Ef:aD 189 [.int .u8 (c:Nat)] H=ret (.bool (aP c)) H:=ev (TG) (by
 simp only[aq (zA _ _),aq (Aw _ _),aq (qL _ _),aj,show(95:Int)=((95:Nat):Int)from rfl,neq,aP]
 cases eI c<;>cases ii c<;>cases aT c<;>rfl)
theorem Mg:aD 225 [.int .u8 (c:Nat)] H=ret (.bool (dw c)) H:=ev (f225) (by
 simp only[show(32:Int)=((32:Nat):Int)from rfl,show(9:Int)=((9:Nat):Int)from rfl,show(10:Int)=((10:Nat):Int)from rfl,show(13:Int)=((13:Nat):Int)from rfl,neq,dw]
 cases c==32<;>cases c==9<;>cases c==10<;>cases c==13<;>rfl)
theorem Mf:aD 136 [.int .u8 (c:Nat)] H=ret (.bool (dw c)) H:=ev (TM) (by
 simp only[show(32:Int)=((32:Nat):Int)from rfl,show(9:Int)=((9:Nat):Int)from rfl,show(10:Int)=((10:Nat):Int)from rfl,show(13:Int)=((13:Nat):Int)from rfl,neq,dw]
 cases c==32<;>cases c==9<;>cases c==10<;>cases c==13<;>rfl)
end bytes
end Go.Proofs.YtenibcfppefobaaGreatDoor
set_option linter.all false
noncomputable section
namespace Go.Proofs.YtenibcfppefobaaGreatDoor
open Go.AI
theorem wN{a b:Nat}(h:a+b<2^62):eg ((a:Int)+(b:Int))=((a+b:Nat):Int):=by rw[zt]<;>omega
variable{H:DH}{p at' st:Nat}{l:af}{x y:D}
abbrev lX(l:af)(at':Nat)(x y:D):List D:=[.str l,.i at',x,y]
theorem qb(hp:H[p]? = some (.cells st (lX l at' x y)))(k:Nat)(h:at'+k<2^62):aD 228 [.ptr p 0,.i k] H=ret (.int .u8 (pk l (at'+k):Nat)) H:=by
 refine ev (Tw) ?_
 simp only[ac hp,ak,aw,dN,wN h,HK,ue,QL,RG,aj,bC]
 grind [mq,cI]
theorem BL{g:Nat}{q:Nat->Bool}(hb:ei lF g=true)(hg:∀ c H,aD g [.int .u8 (c:Nat)] H=ret (.bool (q c)) H)(hp:H[p]? = some (.cells st (lX l at' x y)))(hl:l.length<2^60)(k:Nat)(hk:at'+k<2^60):∀(d n:Nat),d=l.length - (at'+k+n)->n<2^60 ->
 ae ai 224 200002 [.g (.ptr p 0),.n k,.g (.func g [] []),.n n] [] H=ret (.i (n+rn q l (at'+k+n):Nat)) H
 |d,n,hd,hn=>by
  refine eL (CF) ?_
  simp only[ac hp,ak,aw,dN,wN (show at'+k<2^62 by omega),wN (show at'+k+n<2^62 by omega),HK,Bd,Gn,RG,aj,bC,Ax hb,List.nil_append,List.append_nil]
  cases hc:decide (at'+k+n<l.length)with
  |false =>
   grind [zR]
  |true =>
   have hc:at'+k+n<l.length:=by simpa using hc
   rw[cond_true,cI hc,iI (hg _ _),jl q hc]
   cases hq:q (pk l (at'+k+n))with
   |false=>simp[aj]
   |true =>
    have ih:=BL hb hg hp hl k hk (d - 1) (n+1) (by omega) (by omega)
    grind [aj,bT]
 termination_by d=>d
theorem uJ{g:Nat}{q:Nat->Bool}(hb:ei lF g=true)(hg:∀ c H,aD g [.int .u8 (c:Nat)] H=ret (.bool (q c)) H)(hp:H[p]? = some (.cells st (lX l at' x y)))(hl:l.length<2^60)(k:Nat)(hk:at'+k<2^60) :
 aD 224 [.ptr p 0,.i k,.func g [] []] H=ret (.i (rn q l (at'+k):Nat)) H:=by
 refine ev (f224) ?_
 have:=BL hb hg hp hl k hk _ 0 rfl (by omega)
 simp only[Nat.zero_add,Nat.add_zero]at this
 exact this
theorem OU(s t:af)(H:DH):aD 261 [.str s,.str t] H=ret (.bool (s.take t.length==t)) H:=by
 have h:aD 276 [.str s,.str t] H=ret (.bool (s.take t.length==t)) H:=by
  refine ev (f276) ?_
  rw[QL]
  cases hc:decide (t.length<=s.length)with
  |true =>
   grind [QS,kG]
  |false =>
   have hc:¬ t.length<=s.length:=by simpa using hc
   have:(s.take t.length==t)=false:=by
    grind
   rw[this];rfl
 refine ev (Tm) ?_
 rw[aq h]
theorem jX(hp:H[p]? = some (.cells st (lX l at' x y)))(ha:at'<=l.length)(t:af):aD 226 [.ptr p 0,.str t] H=ret (.bool ((l.drop at').take t.length==t)) H:=by
 refine ev (Tz) ?_
 grind [ac,ak,aw,SA,iI,OU]
end Go.Proofs.YtenibcfppefobaaGreatDoor
set_option linter.all false
noncomputable section
namespace Go.Proofs.YtenibcfppefobaaGreatDoor
open Go.AI
def tJ:List af:=[[97,110,100],[99,97,115,101],[100,97,116,97],[101,108,115,101],[101,110,100],[102,110],[102,117,110],[105,102],[105,110],[105,110,112,117,116],[108,101,116],[111,102],[111,117,116,112,117,116],[116,104,101,110],[118,97,108]]
def DR:af:=[40,41,44,59,58,124,61,60,43,45,42,47,37,95]
def cE(l:af)(p:Nat):Nat:=if pk l (p+rn aP l p)=39/\0<rn aT l (p+rn aP l p+1)then rn aP l p+(1+rn aT l (p+rn aP l p+1))else rn aP l p
def rm(l:af)(p:Nat):Nat:=if(l.drop p).take 2=[61,62]\/(l.drop p).take 2=[45,62] then 2 else if pk l p∈DR then 1 else 0
def fh(l:af)(p:Nat):Prop:=aT (pk l p)=true\/pk l p=126
def fA(l:af)(p:Nat):Option (Int×Nat) :=
 if eI (pk l p)=true then(if cE l p>24 then none else some (if(l.drop p).take (cE l p)∈tJ then 5 else 2,cE l p))
 else if ii (pk l p)=true then(if cE l p>24 then none else some (3,cE l p))
 else if pk l p=39/\eI (pk l (p+1))=true then(if 1+rn aP l (p+1)>24 then none else some (4,1+rn aP l (p+1)))
 else if rm l p=0 then none else some (6,rm l p)
def tk(k n:Int)(t:af)(a:Nat):D:=.agg (xT k n t a)
def wr(a e:Int):D:=.iface 180 (.agg [.i a,.i e])
def FG:List (D×D):=tJ.map fun w=>(.str w,.i 5)
theorem QK(a b c d e f g h:D)(κ:List D->ag):az [a,b,c,d] 0 [e,f,g,h] κ=κ [e,f,g,h]:=rfl
theorem Hx(a b c d e:D)(κ:List D->ag):az [a,b,c,d] 1 [e] κ=κ [a,e,c,d]:=rfl
theorem SO(a b c d e:D)(κ:List D->ag):az [a,b,c,d] 0 [e] κ=κ [e,b,c,d]:=rfl
theorem Ra(a b c d e:D)(κ:List D->ag):az [a,b,c,d] 2 [e] κ=κ [a,b,e,d]:=rfl
theorem OX(a b c d e:D)(κ:List D->ag):az [a,b,c,d] 3 [e] κ=κ [a,b,c,e]:=rfl
theorem JR(a b e:D)(κ:List D->ag):az [a,b] 0 [e] κ=κ [e,b]:=rfl
theorem JQ(a b e:D)(κ:List D->ag):az [a,b] 1 [e] κ=κ [a,e]:=rfl
theorem Mr(a b e f:D)(κ:List D->ag):az [a,b] 0 [e,f] κ=κ [e,f]:=rfl
theorem Se(a b c d:D)(κ:List D->ag):ah 4 (.agg [a,b,c,d]) κ=κ [a,b,c,d]:=rfl
theorem TV(a b:D)(κ:List D->ag):ah 2 (.agg [a,b]) κ=κ [a,b]:=rfl
theorem tE(k:IntKind)(n:Int)(κ:List D->ag):ah 1 (.int k n) κ=κ [.int k n]:=rfl
theorem Sf(l:af)(κ:List D->ag):ah 1 (.str l) κ=κ [.str l]:=rfl
theorem Qt(a b c:Nat)(κ:List D->ag):ah 1 (.buf a b c) κ=κ [.buf a b c]:=rfl
variable{H:DH}{p at' st m:Nat}{l:af}{x y:D}
theorem Ka(a b:Nat):decide ((a:Int)>(b:Int))=decide (b<a):=decide_eq_decide.2 (by omega)
theorem qk(hp:H[p]? = some (.cells st (lX l at' x y)))(k:Int)(n:Nat)(hn:at'+n<=l.length)(hl:l.length<2^60):aD 234 [.ptr p 0,.i k,.i n] H=if n>24 then pan (wr at' 2) H else ret (tk k 0 ((l.drop at').take n) at') H:=by
 refine ev (To) ?_
 rw[show(24:Int)=((24:Nat):Int)from rfl,Ka]
 cases hc:decide (24<n)with
 |true =>
  grind [ac,ak,aw,tE,JR,JQ,wr]
 |false =>
  have hc:¬ 24<n:=by simpa using hc
  rw[if_neg hc]
  simp only[cond_false,ac hp,ak,aw,dN,wN (show at'+n<2^62 by omega),LJ l at' (at'+n) H _ (by omega) hn,tE,Sf,Ra,OX,Se,QK,tk,show at'+n - at'=n by omega]
theorem Gv(t:af):∀ ws:List af,tz (.str t) (ws.map fun w=>((.str w:D),(.i 5:D)))=some (if t∈ws then some (.i 5)else none)
 |[]=>rfl
 |w::r=>by
  simp only[List.map_cons,tz,ki,Gv t r]
  grind
theorem MI(hm:H[m]? = some (.map FG))(t:af)(κ:D->ag):fp ab 135 (.map m) (.str t) true H κ=κ (.tuple [.i (if t∈tJ then 5 else 0),.bool (decide (t∈tJ))]):=by
 have e:fp ab 135 (.map m) (.str t) true H κ=lm H m fun es=>jv (.str t) es fun r=>eH ab 3 true r κ:=by kernel_rfl
 have e2:eH ab 3 true none κ=κ (.tuple [.i 0,.bool false]):=by kernel_rfl
 rw[e,fJ hm,jv,FG,Gv]
 by_cases h:t∈tJ
 ·simp only[h,if_true,decide_true];rfl
 grind
theorem GV:ei lF 235=true:=by kernel_rfl
theorem GW:ei lF 229=true:=by kernel_rfl
theorem NB:ei lF 225=true:=by kernel_rfl
theorem qh(l:af)(p:Nat)(h:p<=l.length):p+cE l p<=l.length:=by
 have h1:=pR aP l p h
 unfold cE
 split
 ·rename_i hc
  have h3:p+rn aP l p<l.length:=by
   grind [mq]
  have:=pR aT l (p+rn aP l p+1) (by omega)
  omega
 ·exact h1
theorem Pf(hp:H[p]? = some (.cells st (lX l at' (.map m) y)))(hm:H[m]? = some (.map FG))(k:Int)(n:Nat)(hn:at'+n<=l.length)(hl:l.length<2^60) :
 ae ai 232 6 [.g (.ptr p 0),.n k,.lp 0 0,.n n] [(0,(xT 0 0 [] 0))] H=if n>24 then pan (wr at' 2) H else ret (tk (if(l.drop at').take n∈tJ then 5 else k) 0 ((l.drop at').take n) at') H:=by
 refine eL (Qg) ?_
 have h:=qk hp k n hn hl
 by_cases hc:n>24
 ·rw[if_pos hc]at h ⊢;rw[zq h]
 ·rw[if_neg hc]at h ⊢
  simp only[aq h,tk,Se,QK,ac hp,ak,aw,MI hm,cM,aj]
  by_cases hw:(l.drop at').take n∈tJ
  ·simp only[hw,decide_true,cond_true,if_true,tE,SO,ak,aw]
  ·simp only[hw,decide_false,cond_false,if_false,ak,aw]
theorem Mx(hp:H[p]? = some (.cells st (lX l at' (.map m) y)))(hm:H[m]? = some (.map FG))(k:Int)(hl:l.length<2^59)(ha:at'<=l.length) :
 aD 232 [.ptr p 0,.i k] H=if cE l at'>24 then pan (wr at' 2) H else ret (tk (if(l.drop at').take (cE l at')∈tJ then 5 else k) 0 ((l.drop at').take (cE l at')) at') H:=by
 refine ev (Tq) ?_
 have r1:=uJ GV (fun c H=>Eg H c) hp (by omega) 0 (by omega)
 have hr:=pR aP l at' ha
 have hle:=qh l at' ha
 rw[Nat.add_zero]at r1
 have p1:=qb hp (rn aP l at') (by omega)
 have j:=fun n hn=>Pf hp hm k n hn (by omega)
 rw[show(.i 0:D)=.i ((0:Nat):Int)from rfl,aq r1,aq p1]
 simp only[bS,show(39:Int)=((39:Nat):Int)from rfl,neq,aj]
 by_cases h1:pk l (at'+rn aP l at')=39
 ·have hlt:at'+rn aP l at'<l.length:=by
   grind [mq]
  have r2:=uJ GW (fun c H=>ub H c) hp (by omega) (rn aP l at'+1) (by omega)
  have hd:=pR aT l (at'+rn aP l at'+1) (by omega)
  rw[<- Nat.add_assoc]at r2
  rw[h1]
  simp only[BEq.rfl,cond_true,dN,show(1:Int)=((1:Nat):Int)from rfl,wN (show rn aP l at'+1<2^62 by omega),aq r2,gh,Ka,aj]
  by_cases h2:0<rn aT l (at'+rn aP l at'+1)
  ·simp only[show((0:Int))=((0:Nat):Int)from rfl,Ka,h2,decide_true,cond_true,wN (show 1+rn aT l (at'+rn aP l at'+1)<2^62 by omega),wN (show rn aP l at'+(1+rn aT l (at'+rn aP l at'+1))<2^62 by omega)]
   have e:cE l at'=rn aP l at'+(1+rn aT l (at'+rn aP l at'+1)):=by unfold cE;rw[if_pos ⟨h1,h2⟩]
   rw[<- e];exact j _ hle
  ·simp only[show((0:Int))=((0:Nat):Int)from rfl,Ka,h2,decide_false,cond_false]
   have e:cE l at'=rn aP l at':=by unfold cE;rw[if_neg (fun h=>h2 h.2)]
   rw[<- e];exact j _ hle
 ·rw[show(pk l (at'+rn aP l at')==39)=false from beq_eq_false_iff_ne.2 h1,cond_false]
  have e:cE l at'=rn aP l at':=by unfold cE;rw[if_neg (fun h=>h1 h.1)]
  rw[<- e];exact j _ hle
theorem Gj{f:FuncId}{args:List D}{d:D}{H':DH}(h:de.orc f args H=some (d,H')):aD f args H=ret d H':=by
 show ed de (.call f args none) H=_
 rw[EZ]
 show JT de f args H none _=_
 grind [JT]
def QF(l:af)(at':Nat)(H:DH)(r:ag):Prop:=(∃(v:Int) (n:Nat),1<=n/\at'+n<=l.length/\r=ret (tk 1 v ((l.drop at').take n) at') H)\/r=pan (wr at' 13) H
theorem BY(hp:H[p]? = some (.cells st (lX l at' x y)))(hl:l.length<=24)(ha:at'<l.length)(n:Nat)(hn:at'+n<=l.length)(h1:1<=n+rn aT l (at'+n)) :
 QF l at' H (ae ai 230 4 [.g (.ptr p 0),.lp 0 0,.n n] [(0,(xT 0 0 [] 0))] H):=by
 have r1:=uJ GW (fun c H=>ub H c) hp (by omega) n (by omega)
 have hd:=pR aT l (at'+n) hn
 have p1:=qb hp (n+rn aT l (at'+n)) (by omega)
 have hlen:((l.drop at').take (n+rn aT l (at'+n))).length<=1000:=by rw[List.length_take];rw[List.length_drop];omega
 have o:∀ H,aD 262 [.str ((l.drop at').take (n+rn aT l (at'+n)))] H=ret (.tuple [.i (oQ (av ((l.drop at').take (n+rn aT l (at'+n))))).1,.i (oQ (av ((l.drop at').take (n+rn aT l (at'+n))))).2]) H:=fun H=>Gj (by
  show(bif Nat.ble _ 1000 then _ else _)=_
  rw[Nat.ble_eq_true_of_le hlen];rfl)
 have e:=@KQ (IT de ai 0) p (n:Nat) 0 0 [] 0 H
 unfold QF
 rw[show ae ai 230 4 [.g (.ptr p 0),.lp 0 0,.n n] [(0,(xT 0 0 [] 0))] H=_ from eL (KQ) rfl]
 simp only[aq r1,dN,wN (show n+rn aT l (at'+n)<2^62 by omega),aq p1,ac hp,ak,aw,wN (show at'+n<2^62 by omega),wN (show at'+n+rn aT l (at'+n)<2^62 by omega),LJ l at' (at'+n+rn aT l (at'+n)) H _ (by omega) hd,
  show at'+n+rn aT l (at'+n) - at'=n+rn aT l (at'+n)by omega,aq (o _),cM,jK,aj,tE,Sf,JR,JQ,Hx,Ra,OX,Se,QK,aq (Eg _ _),bS]
 cases ((oQ (av ((l.drop at').take (n+rn aT l (at'+n))))).2 != 0)with
 |true=>exact .inr rfl
 |false =>
  rw[cond_false]
  cases aP (pk l (at'+(n+rn aT l (at'+n))))with
  |true=>exact .inr rfl
  |false =>
   rw[cond_false]
   cases ((pk l (at'+(n+rn aT l (at'+n))):Int)==39)with
   |true=>exact .inr rfl
   |false=>exact .inl ⟨_,_,h1,by omega,rfl⟩
theorem HA(hp:H[p]? = some (.cells st (lX l at' x y)))(hl:l.length<=24)(ha:at'<l.length)(hn:fh l at'):QF l at' H (aD 230 [.ptr p 0] H):=by
 have p1:=qb hp 0 (by omega)
 rw[show aD 230 [.ptr p 0] H=_ from ev (Tt) rfl]
 rw[show(.i 0:D)=.i ((0:Nat):Int)from rfl,aq p1,Nat.add_zero]
 simp only[bS,show(126:Int)=((126:Nat):Int)from rfl,neq,aj]
 by_cases h:pk l at'=126
 ·rw[h,BEq.rfl,cond_true]
  exact BY hp hl ha 1 (by omega) (by omega)
 ·rw[show(pk l at'==126)=false from beq_eq_false_iff_ne.2 h,cond_false]
  have hd:aT (pk l at')=true:=hn.resolve_right h
  refine BY hp hl ha 0 (by omega) ?_
  simp_all[jl]
end Go.Proofs.YtenibcfppefobaaGreatDoor
set_option linter.all false
noncomputable section
namespace Go.Proofs.YtenibcfppefobaaGreatDoor
open Go.AI
variable{H:DH}{p at' st m:Nat}{l:af}{x y:D}
theorem GC(c:Nat):∀(l:af) (n:Int),0<=n->decide (tA l c n>=0)=decide (c∈l)
 |[],n,_=>by simp[tA]
 |z::r,n,h=>by
  rw[tA]
  by_cases e:z=c
  ·simp_all
  ·have hb:Nat.beq z c=false:=by
    grind [Nat.eq_of_beq_eq_true]
   rw[hb,cond_false,GC c r (n+1) (by omega)]
   grind
theorem KG(c:Nat)(hc:c<256)(H:DH):aD 236 [.str DR,.int .u8 (c:Nat)] H=ret (.i (tA DR c 0)) H:=Gj (by
 show(bif Nat.blt c 256&&_ then _ else _)=_
 have:Nat.blt c 256=true:=by unfold Nat.blt;exact Nat.ble_eq_true_of_le hc
 rw[this];rfl)
def NV(l:af)(at':Nat)(H:DH)(r:ag):Prop :=
 (∃(k v:Int) (n:Nat),1<=n/\at'+n<=l.length/\r=ret (tk k v ((l.drop at').take n) at') H/\(fh l at'->k=1)/\(¬ fh l at'->fA l at'=some (k,n)))\/(∃ a e:Int,e≠0/\r=pan (wr a e) H/\(¬ fh l at'->fA l at'=none))
theorem yu{l:af}{p:Nat}(hp:p<l.length)(h:aP (pk l p)=true):1<=cE l p:=by
 grind [jl,cE]
theorem Mi(hp:H[p]? = some (.cells st (lX l at' (.map m) y)))(hl:l.length<=24)(ha:at'<l.length) :
 ae ai 185 11 [.g (.ptr p 0),.lp 0 0,.g (.int .u8 (pk l at':Nat))] [(0,(xT 0 0 [] 0))] H=if rm l at'=0 then pan (wr at' 11) H else ret (tk 6 0 ((l.drop at').take (rm l at')) at') H:=by
 refine eL (Nh) ?_
 have s1:=jX hp (Nat.le_of_lt ha) [61,62]
 have s2:=jX hp (Nat.le_of_lt ha) [45,62]
 rw[aq s1]
 have two:∀ {a b:Nat},(l.drop at').take 2=[a,b]->at'+2<=l.length:=fun h=>by
  grind [List.length_take]
 by_cases h1:(l.drop at').take 2=[61,62]
 ·have hs:rm l at'=2:=by unfold rm;rw[if_pos (.inl h1)]
  have hm2:=qk hp 6 2 (two h1) (by omega)
  rw[if_neg (by omega)]at hm2
  rw[hs,if_neg (by omega),show(List.take [61,62].length (l.drop at')==[61,62])=true by simp[h1],aj,cond_true]
  rw[show(.i 2:D)=.i ((2:Nat):Int)from rfl,aq hm2]
  rfl
 ·rw[show(List.take [61,62].length (l.drop at')==[61,62])=false by simp[h1],aj,cond_false,aq s2]
  by_cases h2:(l.drop at').take 2=[45,62]
  ·have hs:rm l at'=2:=by unfold rm;rw[if_pos (.inr h2)]
   have hm2:=qk hp 6 2 (two h2) (by omega)
   rw[if_neg (by omega)]at hm2
   rw[hs,if_neg (by omega),show(List.take [45,62].length (l.drop at')==[45,62])=true by simp[h2],aj,cond_true]
   rw[show(.i 2:D)=.i ((2:Nat):Int)from rfl,aq hm2]
   rfl
  ·rw[show(List.take [45,62].length (l.drop at')==[45,62])=false by simp[h2],aj,cond_false]
   have i1:=KG (pk l at') (QZ _ _) H
   rw[show([40,41,44,59,58,124,61,60,43,45,42,47,37,95]:af)=DR from rfl,aq i1]
   simp only[ue,GC _ _ 0 (Int.le_refl 0),aj]
   have hs:rm l at'=if pk l at'∈DR then 1 else 0:=by unfold rm;rw[if_neg (by simp[h1,h2])]
   by_cases h3:pk l at'∈DR
   ·rw[if_pos h3]at hs
    have hm2:=qk hp 6 1 (by omega) (by omega)
    rw[if_neg (by omega)]at hm2
    rw[hs,if_neg (by omega),decide_eq_true h3,cond_true,show(.i 1:D)=.i ((1:Nat):Int)from rfl,aq hm2]
    rfl
   ·rw[if_neg h3]at hs
    rw[hs,if_pos rfl,decide_eq_false h3,cond_false]
    simp only[ac hp,ak,aw,tE,JR,JQ,wr]
theorem Jb(hp:H[p]? = some (.cells st (lX l at' (.map m) y)))(hm:H[m]? = some (.map FG))(hl:l.length<=24)(ha:at'<l.length):NV l at' H (aD 185 [.ptr p 0] H):=by
 have p1:=qb hp 0 (by omega)
 rw[show aD 185 [.ptr p 0] H=_ from ev (TJ) rfl]
 rw[show(.i 0:D)=.i ((0:Nat):Int)from rfl,aq p1,Nat.add_zero,aq (ub _ _)]
 simp only[bS,show(126:Int)=((126:Nat):Int)from rfl,show(39:Int)=((39:Nat):Int)from rfl,neq,aj,aq (zB _ _),aq (GD _ _)]
 have num:fh l at'->NV l at' H (C ai 230 [.ptr p 0] H fun d5 H6=>ah 4 d5 fun l7=>az (xT ((0:Nat):Int) ((0:Nat):Int) [] ((0:Nat):Int)) 0 l7 fun l8=>aC l8 0 fun d9=>aC l8 1 fun d10=>aC l8 2 fun d11=>aC l8 3 fun d12=>ret (.agg [d9,d10,d11,d12]) H6):=fun hn=>by
  rcases HA hp hl ha hn with⟨v,n,h1,h2,h3⟩|h3
  ·rw[aq h3]
   exact .inl ⟨1,v,n,h1,h2,rfl,fun _=>rfl,fun h=>(h hn).elim⟩
  ·rw[zq h3]
   exact .inr ⟨at',13,by decide,rfl,fun h=>(h hn).elim⟩
 cases hd:aT (pk l at')with
 |true=>rw[cond_true];exact num (.inl hd)
 |false =>
 rw[cond_false]
 by_cases h126:pk l at'=126
 ·rw[h126,BEq.rfl,cond_true];exact num (.inr h126)
 rw[show(pk l at'==126)=false from beq_eq_false_iff_ne.2 h126,cond_false]
 have hnn:¬ fh l at':=fun h=>by rcases h with h|h;exact(by rw[hd]at h;cases h);exact h126 h
 have nm:∀ k:Int,(fA l at'=if cE l at'>24 then none else some (if(l.drop at').take (cE l at')∈tJ then 5 else k,cE l at'))->aP (pk l at')=true ->
  NV l at' H (C ai 232 [.ptr p 0,.i k] H fun d24 H25=>ah 4 d24 fun l26=>az (xT ((0:Nat):Int) ((0:Nat):Int) [] ((0:Nat):Int)) 0 l26 fun l27=>aC l27 0 fun d28=>aC l27 1 fun d29=>aC l27 2 fun d30=>aC l27 3 fun d31=>ret (.agg [d28,d29,d30,d31]) H25):=fun k ht hpt=>by
  have hn:=Mx hp hm k (by omega) (Nat.le_of_lt ha)
  have h1:=yu ha hpt
  have h2:=qh l at' (Nat.le_of_lt ha)
  by_cases hc:cE l at'>24
  ·grind
  ·rw[if_neg hc]at hn ht
   rw[aq hn]
   exact .inl ⟨_,0,_,h1,h2,rfl,fun h=>(hnn h).elim,fun _=>ht⟩
 cases hs:eI (pk l at')with
 |true =>
  grind [fA,aP]
 |false =>
 rw[cond_false]
 cases hg:ii (pk l at')with
 |true =>
  rw[cond_true]
  refine nm 3 ?_ (by unfold aP;rw[hg];simp)
  unfold fA
  rw[if_neg (by rw[hs];decide),if_pos hg]
  have hw:(l.drop at').take (cE l at')∉tJ:=fun hw=>by
   have hz:((l.drop at').take (cE l at'))[0]? = l[at']?:=by
    have h1:=yu ha (by unfold aP;rw[hg];simp)
    grind
   generalize(l.drop at').take (cE l at')=t at hw hz
   have hpk:pk l at'=(t[0]?).getD 0%256:=by unfold pk;rw[hz]
   rw[hpk]at hs
   simp only[tJ,List.mem_cons,List.mem_nil_iff,or_false]at hw
   rcases hw with rfl|rfl|rfl|rfl|rfl|rfl|rfl|rfl|rfl|rfl|rfl|rfl|rfl|rfl|rfl<;>exact absurd hs (by decide)
  rw[if_neg hw]
 |false =>
 rw[cond_false]
 have sg:(pk l at'=39/\eI (pk l (at'+1))=true->False)->NV l at' H (ae ai 185 11 [.g (.ptr p 0),.lp 0 0,.g (.int .u8 (pk l at':Nat))] [(0,(xT ((0:Nat):Int) ((0:Nat):Int) [] ((0:Nat):Int)))] H):=fun hq=>by
  have h:=Mi hp hl ha
  have ht:fA l at'=if rm l at'=0 then none else some (6,rm l at'):=by
   grind [fA]
  by_cases hc:rm l at'=0
  ·rw[if_pos hc]at h ht
   exact .inr ⟨at',11,by decide,h,fun _=>ht⟩
  ·rw[if_neg hc]at h ht
   refine .inl ⟨6,0,rm l at',by omega,?_,h,fun h=>(hnn h).elim,fun _=>ht⟩
   grind [rm,List.drop,List.length_take,List.length_drop]
 by_cases h39:pk l at'=39
 ·rw[h39,BEq.rfl,cond_true]
  have p2:=qb hp 1 (by omega)
  rw[show(1:Int)=((1:Nat):Int)from rfl,aq p2,aq (zB _ _),aj]
  cases h2:eI (pk l (at'+1))with
  |true =>
   rw[cond_true]
   have hlt:at'+1<l.length:=by
    rcases Nat.lt_or_ge (at'+1) l.length with h|h
    ·exact h
    ·rw[mq h]at h2;cases h2
   have r1:=uJ GV (fun c H=>Eg H c) hp (by omega) 1 (by omega)
   have hr:=pR aP l (at'+1) (by omega)
   have hm2:=qk hp 4 (1+rn aP l (at'+1)) (by omega) (by omega)
   rw[aq r1]
   simp only[dN,wN (show 1+rn aP l (at'+1)<2^62 by omega)]
   have ht:fA l at'=if 1+rn aP l (at'+1)>24 then none else some (4,1+rn aP l (at'+1)):=by
    grind [fA]
   rw[if_neg (by omega)]at hm2 ht
   rw[aq hm2]
   exact .inl ⟨4,0,_,by omega,by omega,rfl,fun h=>(hnn h).elim,fun _=>ht⟩
  |false =>
   grind
 grind
end Go.Proofs.YtenibcfppefobaaGreatDoor
set_option linter.all false
noncomputable section
namespace Go.Proofs.YtenibcfppefobaaGreatDoor
open Go.AI
theorem FU{P:Program}{t:TypeId}{m b:Nat}(h:br P t m=(Nat.ble (b*(m+Nat.div m 4+600)) 281474976710656&&Nat.ble m 4611686018427387904))(hb:b<=1000)(hm:m<=100000):br P t m=true:=by
 rw[h,Bool.and_eq_true]
 refine⟨Nat.ble_eq_true_of_le ?_,Nat.ble_eq_true_of_le (by omega)⟩
 have h1:Nat.div m 4<=m:=Nat.div_le_self m 4
 have h2:b*(m+Nat.div m 4+600)<=1000*(100000+100000+600):=Nat.mul_le_mul hb (by omega)
 omega
theorem FV{m:Nat}(h:m<=100000):br ab 304 m=true:=FU (b:=16) (by kernel_rfl) (by decide) h
theorem zQ{m:Nat}(h:m<=100000):br ab 160 m=true:=FU (b:=40) (by kernel_rfl) (by decide) h
theorem DS{H:DH}{p:Nat}{b:DB}(h:H[p]? = some b):H.set p b=H:=by
 apply List.ext_getElem?
 grind
variable{p:Nat}{l:af}{x y:D}
theorem IZ{a b at':Nat}(h:((l.drop at').take 2==[a,b])=true):at'+2<=l.length:=by
 grind [List.length_take]
theorem De(hl:l.length<=24):∀(n at' st:Nat) (H:DH) (v d:Int),n=l.length - at'->at'<=l.length->H[p]? = some (.cells st (lX l at' x y)) ->
 (∃ at2 st2,at'<at2/\at2<=l.length/\ae ai 227 200002 [.g (.ptr p 0),.n v,.n d] [] H=ret (.tuple []) (H.set p (.cells st2 (lX l at2 x y)))) \/
 (∃(a e:Int) (at2 st2:Nat),e≠0/\ae ai 227 200002 [.g (.ptr p 0),.n v,.n d] [] H=pan (wr a e) (H.set p (.cells st2 (lX l at2 x y))))
 |n,at',st,H,v,d,hn,ha,hp=>by
  have s1:=jX hp ha [40,42]
  have s2:=jX hp ha [42,41]
  have step:∀ k (d':Int),1<=k->k<=2->at'+k<=l.length ->
   (∃ at2 st2,at'<at2/\at2<=l.length/\ae ai 227 200002 [.g (.ptr p 0),.n v,.n d'] [] (H.set p (.cells (st+1) (lX l (at'+k) x y)))=ret (.tuple []) (H.set p (.cells st2 (lX l at2 x y)))) \/
   (∃(a e:Int) (at2 st2:Nat),e≠0/\ae ai 227 200002 [.g (.ptr p 0),.n v,.n d'] [] (H.set p (.cells (st+1) (lX l (at'+k) x y)))=pan (wr a e) (H.set p (.cells st2 (lX l at2 x y)))):=fun k d' h1 h2 h3=>by
   rcases De hl (l.length - (at'+k)) (at'+k) (st+1) (H.set p (.cells (st+1) (lX l (at'+k) x y))) v d' rfl h3 (bK _ hp)with⟨at2,st2,k1,k2,k3⟩|⟨a,e,at2,st2,k1,k2⟩
   ·grind [List.set_set]
   grind [List.set_set]
  rw[show ae ai 227 200002 [.g (.ptr p 0),.n v,.n d] [] H=_ from eL (CE) rfl]
  simp only[ac hp,ak,aw,HK,ue,QL,aj]
  cases hc:decide (l.length<=at')with
  |true=>exact .inr ⟨v,12,at',st,by decide,by rw[cond_true,DS hp];rfl⟩
  |false =>
   have hc:¬ l.length<=at':=by simpa using hc
   rw[cond_false,aq s1,aj]
   cases h1:((l.drop at').take [40,42].length==[40,42])with
   |true =>
    have h2:=IZ h1
    rw[cond_true]
    cases decide (d>=100)with
    |true =>
     simp only[cond_true,ac hp,ak,aw,tE,JR,JQ]
     exact .inr ⟨at',6,at',st,by decide,by rw[DS hp];rfl⟩
    |false =>
     simp only[cond_false,ac hp,ak,aw,dN,show(2:Int)=((2:Nat):Int)from rfl,wN (show at'+2<2^62 by omega),tE,Hx]
     exact step 2 _ (by omega) (by omega) h2
   |false =>
    rw[cond_false,aq s2,aj]
    cases h1:((l.drop at').take [42,41].length==[42,41])with
    |true =>
     have h2:=IZ h1
     simp only[cond_true,ac hp,ak,aw,dN,show(2:Int)=((2:Nat):Int)from rfl,wN (show at'+2<2^62 by omega),tE,Hx]
     cases (eg (d - 1)==0)with
     |true=>exact .inl ⟨at'+2,st+1,by omega,h2,rfl⟩
     |false=>rw[cond_false];exact step 2 _ (by omega) (by omega) h2
    |false =>
     simp only[cond_false,ac hp,ak,aw,dN,show(1:Int)=((1:Nat):Int)from rfl,wN (show at'+1<2^62 by omega),tE,Hx]
     exact step 1 _ (by omega) (by omega) (by omega)
 termination_by n=>n
theorem Qr(hl:l.length<=24){at' st:Nat}{H:DH}(ha:at'<=l.length)(hp:H[p]? = some (.cells st (lX l at' x y))) :
 (∃ at2 st2,at'<at2/\at2<=l.length/\aD 227 [.ptr p 0] H=ret (.tuple []) (H.set p (.cells st2 (lX l at2 x y)))) \/
 (∃(a e:Int) (at2 st2:Nat),e≠0/\aD 227 [.ptr p 0] H=pan (wr a e) (H.set p (.cells st2 (lX l at2 x y)))):=by
 rw[show aD 227 [.ptr p 0] H=_ from ev (Tx) rfl]
 simp only[ac hp,ak,aw]
 exact De hl _ at' st H at' 0 rfl ha hp
structure DD(H:DH)(p:Nat)(l:af)(at' m oc:Nat)(c:gi):Prop where
 hp:∃ st,H[p]? = some (.cells st (lX l at' (.map m) (.buf 2 oc c.length)))
 hm:H[m]? = some (.map FG)
 hc:H[oc]? = some (.buf 2 true false c)
def Fr(p oc:Nat)(H H2:DH):Prop:=∀(o:Nat) b,o≠p->o≠oc->H[o]? = some b->H2[o]? = some b
theorem Fr.trans{oc:Nat}{A B C:DH}(h:Fr p oc A B)(k:Fr p oc B C):Fr p oc A C:=fun o b h1 h2 h3=>k o b h1 h2 (h o b h1 h2 h3)
theorem Fr.set{oc:Nat}{H:DH}{b:DB}:Fr p oc H (H.set p b):=fun o c h1 _ h3=>by rw[List.getElem?_set_ne (Ne.symm h1)];exact h3
theorem Fr.set2{oc:Nat}{H:DH}{b:DB}:Fr p oc H (H.set oc b):=fun o c _ h1 h3=>by rw[List.getElem?_set_ne (Ne.symm h1)];exact h3
def skip(l:af)(at':Nat):Prop:=dw (pk l at')=true\/(l.drop at').take 2=[40,42]
theorem DD.mv{H:DH}{at' m oc:Nat}{c:gi}(h:DD H p l at' m oc c)(at2 st2:Nat):DD (H.set p (.cells st2 (lX l at2 (.map m) (.buf 2 oc c.length)))) p l at2 m oc c:=by
 obtain⟨st,hp⟩:=h.hp
 have h1:p≠m:=fun e=>by subst e;rw[h.hm]at hp;cases hp
 have h2:p≠oc:=fun e=>by subst e;rw[h.hc]at hp;cases hp
 exact⟨⟨st2,bK _ hp⟩,am _ h1 h.hm,am _ h2 h.hc⟩
theorem yn(hl:l.length<=24){m oc:Nat}:∀(n at':Nat) (H:DH) (c:gi),n=l.length - at'->at'<=l.length->c.length+(l.length - at')<=100->DD H p l at' m oc c ->
 (∃ at2 c2 H2,ae ai 184 200000 [.g (.ptr p 0)] [] H=ret (.tuple []) H2/\DD H2 p l at2 m oc c2/\at'<=at2/\at2<=l.length/\c2.length+(l.length - at2)<=100/\Fr p oc H H2/\(¬ skip l at'->at2=at')/\(at'<l.length->skip l at'->at'<at2)) \/
 (∃(a e:Int) (H2:DH),e≠0/\ae ai 184 200000 [.g (.ptr p 0)] [] H=pan (wr a e) H2/\Fr p oc H H2/\skip l at')
 |n,at',H,c,hn,ha,hcl,hS=>by
  obtain⟨st,hp⟩:=hS.hp
  have r1:=uJ NB (fun c H=>Mg H c) hp (by omega) 0 (by omega)
  rw[Nat.add_zero]at r1
  have hr:=pR dw l at' ha
  rw[show ae ai 184 200000 [.g (.ptr p 0)] [] H=_ from eL (CK) rfl]
  rw[show(.i 0:D)=.i ((0:Nat):Int)from rfl,iI r1]
  simp only[Ek hp,ac hp,ak,aw,dN,wN (show at'+rn dw l at'<2^62 by omega),tE,Hx]
  have hS1:=hS.mv (at'+rn dw l at') (st+1)
  have hF1:Fr p oc H (H.set p (.cells (st+1) (lX l (at'+rn dw l at') (.map m) (.buf 2 oc c.length)))):=.set
  generalize H.set p (.cells (st+1) (lX l (at'+rn dw l at') (.map m) (.buf 2 oc c.length)))=H1 at hS1 hF1 ⊢
  obtain⟨Jl,hp1⟩:=hS1.hp
  have s1:=jX hp1 hr [40,42]
  rw[aq s1]
  simp only[ct,aj]
  have hno:¬ dw (pk l at')=true->rn dw l at'=0:=fun h=>by
   grind [jl]
  have hyes:at'<l.length->dw (pk l at')=true->1<=rn dw l at':=fun h q=>by rw[jl dw h,if_pos q];omega
  cases h2:((l.drop (at'+rn dw l at')).take [40,42].length==[40,42])with
  |false =>
   rw[Bool.not_false,cond_true]
   refine .inl ⟨_,c,H1,rfl,hS1,by omega,hr,by omega,hF1,fun h=>?_,fun hlt h=>?_⟩
   ·rw[hno (fun q=>h (.inl q)),Nat.add_zero]
   ·rcases h with h|h
    ·grind
    grind
  |true =>
   have hsk:skip l at':=by
    by_cases hq:dw (pk l at')=true
    ·exact .inl hq
    ·rw[hno hq,Nat.add_zero]at h2;exact .inr (eq_of_beq h2)
   rw[Bool.not_true,cond_false]
   simp only[ac hp1,ak,aw]
   rcases Qr hl hr hp1 with⟨at2,st2,k1,k2,k3⟩|⟨a,e,at2,st2,k1,k2⟩
   ·rw[aq k3]
    have hS2:=hS1.mv at2 st2
    have hF2:Fr p oc H (H1.set p (.cells st2 (lX l at2 (.map m) (.buf 2 oc c.length)))):=hF1.trans .set
    generalize H1.set p (.cells st2 (lX l at2 (.map m) (.buf 2 oc c.length)))=H2 at hS2 hF2 ⊢
    obtain⟨st3,hp2⟩:=hS2.hp
    have hne:oc≠p:=fun e=>by subst e;rw[hS2.hc]at hp2;cases hp2
    have hnm:oc≠m:=fun e=>by have:=hS2.hm;rw[<- e,hS2.hc]at this;cases this
    simp only[ac hp2,ak,aw,tE,JR,JQ,TV]
    have hap:∀(κ:D->DH->ag) (e:List D),fN (br ab 304) 2 (.buf 2 oc c.length) [e] H2 κ=κ (.buf 2 oc (c.length+1)) (H2.set oc (.buf 2 true false (c++[e]))):=fun κ e=>by
     simp only[fN,List.length_singleton,FV (show 1<=100000 by omega),boK,cond_true,Nat.beq_refl,fc hS2.hc,FV (show c.length+1<=100000 by omega),Bool.false_and,Bool.not_false,Bool.and_true,grow,cond_false]
    rw[hap]
    have hp3:=am (.buf 2 true false (c++[[.i ((at'+rn dw l at':Nat):Int),.i ((at2:Nat):Int)]])) hne hp2
    simp only[Qt,ac hp3,OX]
    have hS3:DD ((H2.set oc (.buf 2 true false (c++[[.i ((at'+rn dw l at':Nat):Int),.i ((at2:Nat):Int)]]))).set p (.cells (st3+1) [.str l,.i ((at2:Nat):Int),.map m,.buf 2 oc (c.length+1)])) p l at2 m oc (c++[[.i ((at'+rn dw l at':Nat):Int),.i ((at2:Nat):Int)]]) :=
     ⟨⟨st3+1,by rw[bK _ hp3];simp⟩,am _ (fun e=>by subst e;rw[hS2.hm]at hp2;cases hp2) (am _ hnm hS2.hm),am _ hne.symm (bK _ hS2.hc)⟩
    have hF3:=(hF2.trans (Fr.set2 (p:=p) (oc:=oc) (b:=.buf 2 true false (c++[[.i ((at'+rn dw l at':Nat):Int),.i ((at2:Nat):Int)]])))).trans (Fr.set (p:=p) (oc:=oc) (b:=.cells (st3+1) [.str l,.i ((at2:Nat):Int),.map m,.buf 2 oc (c.length+1)]))
    rcases yn hl (l.length - at2) at2 _ _ rfl k2 (by simp;omega) hS3 with⟨at4,c4,H4,j1,j2,j3,j4,j5,j6,_⟩|⟨a,e,H4,j1,j2,j3,_⟩
    ·exact .inl ⟨at4,c4,H4,j1,j2,by omega,j4,j5,hF3.trans j6,fun h=>(h hsk).elim,fun _ _=>by omega⟩
    ·exact .inr ⟨a,e,H4,j1,j2,hF3.trans j3,hsk⟩
   ·rw[zq k2]
    exact .inr ⟨a,e,_,k1,rfl,hF1.trans .set,hsk⟩
 termination_by n=>n
theorem Gf(hl:l.length<=24){m oc at':Nat}{H:DH}{c:gi}(ha:at'<=l.length)(hc:c.length+(l.length - at')<=100)(hS:DD H p l at' m oc c) :
 (∃ at2 c2 H2,aD 184 [.ptr p 0] H=ret (.tuple []) H2/\DD H2 p l at2 m oc c2/\at'<=at2/\at2<=l.length/\c2.length+(l.length - at2)<=100/\Fr p oc H H2/\(¬ skip l at'->at2=at')/\(at'<l.length->skip l at'->at'<at2)) \/
 (∃(a e:Int) (H2:DH),e≠0/\aD 184 [.ptr p 0] H=pan (wr a e) H2/\Fr p oc H H2/\skip l at'):=by
 rw[show aD 184 [.ptr p 0] H=_ from ev (TK) rfl]
 exact yn hl _ at' H c rfl ha hc hS
end Go.Proofs.YtenibcfppefobaaGreatDoor
set_option linter.all false
noncomputable section
namespace Go.Proofs.YtenibcfppefobaaGreatDoor
open Go.AI
def OA:List D:=tJ.map .str
theorem Rj(cs:List D)(c:Nat)(κ:D->ag):dq ab 9 cs c κ=aC cs c κ:=by kernel_rfl
theorem RE{k:Nat}{w:af}(h:tJ[k]? = some w)(κ:D->ag):iR ab 281 (.agg OA) (.i (k:Nat)) κ=κ (.str w):=by
 have e:iR ab 281 (.agg OA) (.i (k:Nat)) κ=bif Nat.blt k 15 then dq ab 9 OA (Nat.mul k 1) κ else none:=by kernel_rfl
 have hk:k<15:=(List.getElem?_eq_some_iff.1 h).1
 have hb:Nat.blt k 15=true:=by unfold Nat.blt;exact Nat.ble_eq_true_of_le hk
 rw[e,hb,cond_true,Rj,show Nat.mul k 1=k from Nat.mul_one k,aC,OA,List.getElem?_map,h]
 rfl
theorem Mz(m:Nat)(w:af)(v:D)(H:DH)(κ:DH->ag):gL ab 135 (.map m) (.str w) v H κ=lm H m fun es=>ju (.str w) v es fun es=>κ (H.set m (.map es)):=by kernel_rfl
theorem MA:∀ k,k<15->∃ w,tJ[k]? = some w/\vh (.str w) (.i 5) (FG.take k)=some (FG.take (k+1))
 |0,_=>⟨_,rfl,rfl⟩
 |1,_=>⟨_,rfl,rfl⟩
 |2,_=>⟨_,rfl,rfl⟩
 |3,_=>⟨_,rfl,rfl⟩
 |4,_=>⟨_,rfl,rfl⟩
 |5,_=>⟨_,rfl,rfl⟩
 |6,_=>⟨_,rfl,rfl⟩
 |7,_=>⟨_,rfl,rfl⟩
 |8,_=>⟨_,rfl,rfl⟩
 |9,_=>⟨_,rfl,rfl⟩
 |10,_=>⟨_,rfl,rfl⟩
 |11,_=>⟨_,rfl,rfl⟩
 |12,_=>⟨_,rfl,rfl⟩
 |13,_=>⟨_,rfl,rfl⟩
 |14,_=>⟨_,rfl,rfl⟩
 |n+15,h=>by omega
theorem Cb{p m oc:Nat}{l:af}:∀(n k st:Nat) (H:DH),n=15 - k->k<=15->H[p]? = some (.cells st (lX l 0 (.map m) (.buf 2 oc 0)))->H[m]? = some (.map (FG.take k)) ->
 ae ai 132 200003 [.g (.ptr p 0),.g (.agg OA),.n (k:Nat)] [] H=ret (.ptr p 0) (H.set m (.map FG))
 |n,k,st,H,hn,hk,hp,hm=>by
  refine eL (by unfold OA tJ;exact CN) ?_
  rw[show(15:Int)=((15:Nat):Int)from rfl,Gn]
  by_cases hc:k<15
  ·rw[decide_eq_true hc,cond_true]
   obtain⟨w,h1,h2⟩:=MA k hc
   have e:=RE h1
   unfold OA tJ at e
   simp only[List.map_cons,List.map_nil]at e
   have hne:m≠p:=fun e=>by subst e;rw[hm]at hp;cases hp
   have ih:=Cb (n - 1) (k+1) st (H.set m (.map (FG.take (k+1)))) (by omega) hc (am _ hne hp) (bK _ hm)
   rw[List.set_set]at ih
   simp only[e,ac hp,ak,aw,Mz,fJ hm,ju,h2,show(1:Int)=((1:Nat):Int)from rfl,wN (show k+1<2^62 by omega)]
   exact ih
  ·rw[decide_eq_false hc,cond_false]
   have:k=15:=by omega
   subst this
   rw[show FG.take 15=FG from rfl]at hm
   rw[DS hm]
 termination_by n=>n
theorem Pe(l:af)(H:DH):∃ H',aD 132 [.str l] H=ret (.ptr (H.length+2) 0) H'/\DD H' (H.length+2) l 0 H.length (H.length+1) []/\∀(o:Nat) b,H[o]? = some b->H'[o]? = some b:=by
 have e:aD 132 [.str l] H=_:=ev (TO) rfl
 have hl1:(H++[DB.map []]).length=H.length+1:=by simp
 have hl2:(H++[DB.map []]++[DB.buf 2 true false []]).length=H.length+2:=by simp
 simp only[hl1,hl2]at e
 have hp:((H++[DB.map []]++[DB.buf 2 true false []])++[DB.cells 0 (lX l 0 (.map H.length) (.buf 2 (H.length+1) 0))])[H.length+2]? = some (.cells 0 (lX l 0 (.map H.length) (.buf 2 (H.length+1) 0))):=by rw[<- hl2];exact ci _ _
 have hm:((H++[DB.map []]++[DB.buf 2 true false []])++[DB.cells 0 (lX l 0 (.map H.length) (.buf 2 (H.length+1) 0))])[H.length]? = some (.map (FG.take 0)):=aI _ (aI _ (ci _ _))
 have hc:((H++[DB.map []]++[DB.buf 2 true false []])++[DB.cells 0 (lX l 0 (.map H.length) (.buf 2 (H.length+1) 0))])[H.length+1]? = some (.buf 2 true false []):=aI _ (by rw[<- hl1];exact ci _ _)
 have h:=Cb 15 0 0 _ rfl (by omega) hp hm
 refine⟨_,e.trans h,⟨⟨0,am _ (by omega) hp⟩,bK _ hm,am _ (by omega) hc⟩,fun o b hb=>?_⟩
 grind
end Go.Proofs.YtenibcfppefobaaGreatDoor
set_option linter.all false
noncomputable section
namespace Go.Proofs.YtenibcfppefobaaGreatDoor
open Go.AI
def MG:af:=[0,2,3,4,6,7,8,9,10]
def MF(l:af)(p A B bx:Nat):List LD:=[.g (.str l),.g (.ptr p 0),.g (.ptr A 0),.g (.ptr B 0),.g (.str l),.g (.ptr p 0),.g (.func 133 [] [.ptr A 0,.ptr B 0]),.g (.ptr p 0),.g (.func 183 [] [.ptr bx 0])]
def Gx(l:af)(p A B bx:Nat):DB:=Pr de 87 MG (MF l p A B bx)
def Pq(l:af)(p A B bx:Nat):DB:=match Gx l p A B bx with
 |.loop _ f nt t ps a b=>.loop false f nt t ps a b
 |b=>b
variable{H:DH}{l:af}{K p A B bx y:Nat}
theorem Qv{κ:DH->ag}(h:H[y]? = some (Gx l p A B bx)):In H y κ=κ (H.set y (Pq l p A B bx)):=by
 rw[In,h];kernel_rfl
theorem KT(h:H[y]? = some (Pq l p A B bx)):uM H y=ret (.bool true) (H.set y (Gx l p A B bx)):=by
 rw[uM,h];kernel_rfl
theorem MH{κ:DH->ag}(h:H[y]? = some (Gx l p A B bx)):yz H y κ=κ (H.set y .opq):=by
 rw[yz,h];kernel_rfl
theorem OP{d:D}(h:H[y]? = some (Gx l p A B bx)):ed de (.call 0 [d] (some (.round y))) H=SL de ai 87 y MG (MF l p A B bx) [d] H:=by
 rw[EZ]
 show rD de (II ai) y [d] H=_
 rw[rD,h]
 kernel_rfl
theorem Am(b:DB)(h:(match b with|.loop ..=>false|_=>true)=true):Gx l p A B bx≠b:=by
 have:(match Gx l p A B bx with|.loop ..=>false|_=>true)=false:=by kernel_rfl
 grind
structure TA(K:Nat)(H:DH)(l:af)(p A B bx y:Nat)(toks:gi):Prop where
 hA:∃ st v,H[A]? = some (.cells st [v])/\((toks=[]/\v=.nilrow)\/(toks≠[]/\∃ X,v=.buf 4 X toks.length/\H[X]? = some (.buf 4 true false toks)/\K<=X))
 hB:∃ st,H[B]? = some (.cells st [.i 0,.i 0])
 hb:∃ st,H[bx]? = some (.cells st [.ptr p 0])
 hy:H[y+1]? = some (Gx l p A B bx)
 hk:H[y]? = some .coll
 nA:A≠p
 nB:B≠p
 nb:bx≠p
 AB:A≠B
 Ab:A≠bx
 kA:K<=A
 ky:K<=y
def Kp(K:Nat)(H H2:DH):Prop:=∀(o:Nat) b,o<K->H[o]? = some b->H2[o]? = some b
theorem Kp.trans{K:Nat}{a b c:DH}(h:Kp K a b)(k:Kp K b c):Kp K a c:=fun o x h1 h2=>k o x h1 (h o x h1 h2)
theorem Kp.of{K p oc:Nat}{H H2:DH}(h:Fr p oc H H2)(h1:K<=p)(h2:K<=oc):Kp K H H2:=fun o b h3 h4=>h o b (by omega) (by omega) h4
theorem TA.fr{H2:DH}{oc:Nat}{c:gi}{toks:gi}(h:TA K H l p A B bx y toks)(hoc:H[oc]? = some (.buf 2 true false c))(k:Fr p oc H H2)(hp:∃ st cs,H[p]? = some (.cells st cs)):TA K H2 l p A B bx y toks:=by
 obtain⟨QJ,csp,hp⟩:=hp
 have kc:∀ {o:Nat} {b:DB},o≠p->H[o]? = some b->(∀ sz q r l,b≠.buf sz q r l\/sz≠2)->H2[o]? = some b:=fun {o b} h1 h2 h3=>k o b h1 (fun e=>by
  subst e;rw[hoc]at h2;rcases h3 2 true false c with q|q
  ·exact q (Option.some.inj h2).symm
  ·exact q rfl) h2
 obtain⟨sA,v,hA,hA2⟩:=h.hA
 obtain⟨sB,hB⟩:=h.hB
 obtain⟨sb,hb⟩:=h.hb
 have ny:y+1≠p:=fun e=>by have:=h.hy;rw[e,hp]at this;exact Am (.cells QJ csp) rfl (Option.some.inj this).symm
 have nk:y≠p:=fun e=>by have:=h.hk;rw[e,hp]at this;cases this
 refine⟨⟨sA,v,kc h.nA hA (fun _ _ _ _=>.inl (fun q=>by cases q)),?_⟩,⟨sB,kc h.nB hB (fun _ _ _ _=>.inl (fun q=>by cases q))⟩,⟨sb,kc h.nb hb (fun _ _ _ _=>.inl (fun q=>by cases q))⟩,kc ny h.hy (fun _ _ _ _=>.inl (Am _ rfl)),kc nk h.hk (fun _ _ _ _=>.inl (fun q=>by cases q)),h.nA,h.nB,h.nb,h.AB,h.Ab,h.kA,h.ky⟩
 grind
theorem Jy{m oc at':Nat}{c toks:gi}(hS:DD H p l at' m oc c)(hT:TA K H l p A B bx y toks)(hn:toks.length<=1000)(k v:Int)(t:af)(a:Nat) :
 ∃ H2,ed de (.call 0 [tk k v t a] (some (.round (y+1)))) H=ret (.bool true) H2/\DD H2 p l at' m oc c/\TA K H2 l p A B bx y (toks++[(xT k v t a)])/\Kp K H H2:=by
 obtain⟨QJ,hp⟩:=hS.hp
 obtain⟨sA,w,hA,hA2⟩:=hT.hA
 obtain⟨sB,hB⟩:=hT.hB
 obtain⟨sb,hb⟩:=hT.hb
 have e:ed de (.call 0 [tk k v t a] (some (.round (y+1)))) H=_:=(OP hT.hy).trans ((show SL de ai 87 (y+1) MG (MF l p A B bx) [tk k v t a] H=OQ de ai 200 87 (y+1) MG (MF l p A B bx) [tk k v t a] H by rw[OQ,AR]).trans (Ng))
 have hlt:∀ {o:Nat} {b:DB},H[o]? = some b->o<H.length:=fun {o b} h=>by
  grind
 have hN:=ci H (.cells 0 (xT 0 0 [] 0))
 have g1:∀ {o:Nat} {b:DB},H[o]? = some b->((H++[DB.cells 0 (xT 0 0 [] 0)]).set H.length (.cells (0+1) (xT k v t a)))[o]? = some b:=fun {o b} h=>am _ (by have:=hlt h;omega) (aI _ h)
 have gN:=bK (.cells (0+1) (xT k v t a)) hN
 simp only[ac hN,QK]at e
 generalize(H++[DB.cells 0 (xT 0 0 [] 0)]).set H.length (.cells (0+1) (xT k v t a))=H1 at e g1 gN
 rw[Qv (g1 hT.hy)]at e
 have ny:∀ {o:Nat} {b:DB},H[o]? = some b->(match b with|.loop ..=>false|_=>true)=true->y+1≠o:=fun {o b} h1 h2 q=>by
  subst q;have:=hT.hy;rw[h1]at this;exact Am b h2 (Option.some.inj this).symm
 have g2:∀ {o:Nat} {b:DB},H[o]? = some b->y+1≠o->(H1.set (y+1) (Pq l p A B bx))[o]? = some b:=fun h q=>am _ q (g1 h)
 have gN2:(H1.set (y+1) (Pq l p A B bx))[H.length]? = _:=am _ (by have:=hlt hT.hy;omega) gN
 have gy2:(H1.set (y+1) (Pq l p A B bx))[y+1]? = _:=bK (Pq l p A B bx) (g1 hT.hy)
 generalize H1.set (y+1) (Pq l p A B bx)=H2 at e g2 gN2 gy2
 have hA':=g2 hA (ny hA rfl)
 simp only[ac hA',ac gN2,ak,aw]at e
 have Ay:A≠y+1:=(ny hA rfl).symm
 have nil (toksE:toks=[]) (wE:w=.nilrow):∃ H2,ed de (.call 0 [tk k v t a] (some (.round (y+1)))) H=ret (.bool true) H2/\DD H2 p l at' m oc c/\TA K H2 l p A B bx y (toks++[(xT k v t a)])/\Kp K H H2:=by
  subst toksE wE
  have hap:∀(κ:D->DH->ag) (e:List D),fN (br ab 160) 4 .nilrow [e] H2 κ=κ (.buf 4 H2.length 1) (H2++[.buf 4 true false [e]]):=fun κ e=>by
   grind [fN,List.length_singleton,zQ,boK]
  rw[hap]at e
  have hA3:=aI (.buf 4 true false [(xT k v t a)]) hA'
  simp only[Qt,ac hA3]at e
  rw[show ∀ κ:List D->ag,az [D.nilrow] 0 [.buf 4 H2.length 1] κ=κ [.buf 4 H2.length 1] from fun _=>rfl]at e
  rw[KT (am _ Ay (aI _ gy2))]at e
  have hlt2:∀ {o:Nat} {b:DB},H2[o]? = some b->o<H2.length:=fun {o b} h=>by
   grind
  have g3:∀ {o:Nat} {b:DB},H[o]? = some b->y+1≠o->A≠o->(((H2++[DB.buf 4 true false [(xT k v t a)]]).set A (.cells (sA+1) [.buf 4 H2.length 1])).set (y+1) (Gx l p A B bx))[o]? = some b:=fun h q1 q2=>am _ q1 (am _ q2 (aI _ (g2 h q1)))
  refine⟨_,e,⟨⟨QJ,g3 hp (ny hp rfl) hT.nA⟩,g3 hS.hm (ny hS.hm rfl) (fun q=>by have:=hS.hm;rw[<- q,hA]at this;cases this),g3 hS.hc (ny hS.hc rfl) (fun q=>by have:=hS.hc;rw[<- q,hA]at this;cases this)⟩,
   ⟨⟨sA+1,_,am _ Ay.symm (bK _ hA3),.inr ⟨by simp,H2.length,rfl,am _ (by have:=hlt2 gy2;omega) (am _ (by have:=hlt2 hA';omega) (ci _ _)),by have:=hlt2 hA';have:=hT.kA;omega⟩⟩,⟨sB,g3 hB (ny hB rfl) hT.AB⟩,⟨sb,g3 hb (ny hb rfl) hT.Ab⟩,bK _ (am _ Ay (aI _ gy2)),g3 hT.hk (by omega) (fun q=>by have:=hT.hk;rw[<- q,hA]at this;cases this),hT.nA,hT.nB,hT.nb,hT.AB,hT.Ab,hT.kA,hT.ky⟩,fun o b ho hb=>g3 hb (by have:=hT.ky;omega) (by have:=hT.kA;omega)⟩
 rcases hA2 with⟨q1,q2⟩|⟨q1,X,rfl,q3,q4⟩
 ·exact nil q1 q2
 ·have hX:=g2 q3 (ny q3 rfl)
  have XA:X≠A:=fun q=>by rw[q,hA]at q3;cases q3
  have Xy:X≠y+1:=(ny q3 rfl).symm
  have hap:∀(κ:D->DH->ag) (e:List D),fN (br ab 160) 4 (.buf 4 X toks.length) [e] H2 κ=κ (.buf 4 X (toks.length+1)) (H2.set X (.buf 4 true false (toks++[e]))):=fun κ e=>by
   simp only[fN,List.length_singleton,zQ (show 1<=100000 by omega),boK,cond_true,Nat.beq_refl,fc hX,zQ (show toks.length+1<=100000 by omega),Bool.false_and,Bool.not_false,Bool.and_true,grow,cond_false]
  rw[hap]at e
  have hA3:=am (.buf 4 true false (toks++[(xT k v t a)])) XA hA'
  simp only[Qt,ac hA3]at e
  rw[show ∀(z:D) (κ:List D->ag),az [z] 0 [.buf 4 X (toks.length+1)] κ=κ [.buf 4 X (toks.length+1)] from fun _ _=>rfl]at e
  rw[KT (am _ Ay (am _ Xy gy2))]at e
  have g3:∀ {o:Nat} {b:DB},H[o]? = some b->y+1≠o->A≠o->X≠o->(((H2.set X (.buf 4 true false (toks++[(xT k v t a)]))).set A (.cells (sA+1) [.buf 4 X (toks.length+1)])).set (y+1) (Gx l p A B bx))[o]? = some b:=fun h q1 q2 q3=>am _ q1 (am _ q2 (am _ q3 (g2 h q1)))
  have Xn:∀ {o:Nat} {b:DB},H[o]? = some b->b≠.buf 4 true false toks->X≠o:=fun h1 h2 q=>by subst q;rw[q3]at h1;exact h2 (Option.some.inj h1).symm
  refine⟨_,e,⟨⟨QJ,g3 hp (ny hp rfl) hT.nA (Xn hp (fun q=>by cases q))⟩,g3 hS.hm (ny hS.hm rfl) (fun q=>by have:=hS.hm;rw[<- q,hA]at this;cases this) (Xn hS.hm (fun q=>by cases q)),g3 hS.hc (ny hS.hc rfl) (fun q=>by have:=hS.hc;rw[<- q,hA]at this;cases this) (Xn hS.hc (fun q=>by cases q))⟩,
   ⟨⟨sA+1,_,am _ Ay.symm (bK _ hA3),.inr ⟨by simp,X,by simp,am _ Xy.symm (am _ XA.symm (bK _ hX)),q4⟩⟩,⟨sB,g3 hB (ny hB rfl) hT.AB (Xn hB (fun q=>by cases q))⟩,⟨sb,g3 hb (ny hb rfl) hT.Ab (Xn hb (fun q=>by cases q))⟩,bK _ (am _ Ay (am _ Xy gy2)),g3 hT.hk (by omega) (fun q=>by have:=hT.hk;rw[<- q,hA]at this;cases this) (Xn hT.hk (fun q=>by cases q)),hT.nA,hT.nB,hT.nb,hT.AB,hT.Ab,hT.kA,hT.ky⟩,fun o b ho hb=>g3 hb (by have:=hT.ky;omega) (by have:=hT.kA;omega) (by omega)⟩
end Go.Proofs.YtenibcfppefobaaGreatDoor
set_option linter.all false
noncomputable section
namespace Go.Proofs.YtenibcfppefobaaGreatDoor
open Go.AI
theorem Un(o c:Nat)(H:DH)(κ:D->ag):ft ab 3 (.ptr o c) H κ=aF H o fun _ cs=>aC cs c κ:=by kernel_rfl
theorem UB(o c:Nat)(H:DH)(κ:D->ag):ft ab 9 (.ptr o c) H κ=aF H o fun _ cs=>aC cs c κ:=by kernel_rfl
theorem Oq(o c:Nat)(κ:D->ag):eu (.ptr o c) κ=κ (.ptr o c):=rfl
theorem Ol(o c n:Nat)(κ:D->ag):dt (.ptr o c) n κ=κ (.ptr o (c+n)):=rfl
theorem Sz(o c:Nat)(new:List D)(H:DH)(κ:DH->ag):Me (.ptr o c) new H κ=aF H o fun st cs=>az cs c new fun cs=>κ (H.set o (.cells (st+1) cs)):=rfl
variable{l:af}{K p A B bx y m oc:Nat}
def Dz(l:af)(at':Nat)(r:gi):Prop:=at'<l.length->∃(k v:Int) (n:Nat) (r':gi),r=(xT k v ((l.drop at').take n) at')::r'/\1<=n/\at'+n<=l.length/\(fh l at'->k=1)/\(¬ fh l at'->fA l at'=some (k,n))/\(at'+n=l.length->r'=[])
def lO(l:af)(at':Nat):Prop:=at'<l.length/\(¬ fh l at'->fA l at'=none\/∃ k n,fA l at'=some (k,n)/\at'+n≠l.length)
theorem Mu{l:af}{a:Nat}(h:l.length<=a):¬ skip l a:=fun q=>by
 rcases q with q|q
 ·rw[mq h]at q;cases q
 grind [List.drop_eq_nil_of_le]
set_option maxHeartbeats 2000000 in
theorem xX(hl:l.length<=24)(kp:K<=p)(ko:K<=oc):∀(n at':Nat) (H:DH) (c toks:gi),n=l.length - at'->at'<=l.length->c.length+(l.length - at')<=100->toks.length+(l.length - at')<=100->DD H p l at' m oc c->TA K H l p A B bx y toks ->
 (∃ H2 r,ae ai 183 200001 [.g (.yld (y+1)),.g (.ptr bx 0)] [] H=ret (.tuple []) H2/\TA K H2 l p A B bx y (toks++r)/\(at'=l.length->r=[])/\Dz l at' r/\Kp K H H2) \/
 (∃(a e:Int) (H2:DH) (T:gi),e≠0/\ae ai 183 200001 [.g (.yld (y+1)),.g (.ptr bx 0)] [] H=pan (wr a e) H2/\TA K H2 l p A B bx y T/\lO l at'/\Kp K H H2)
 |n,at',H,c,toks,hn,ha,hcl,htl,hS,hT=>by
  obtain⟨st,hp⟩:=hS.hp
  obtain⟨sb,hb⟩:=hT.hb
  rw[show ae ai 183 200001 [.g (.yld (y+1)),.g (.ptr bx 0)] [] H=_ from eL (CL) rfl]
  simp only[ac hb,ak,aw,Oq,Ol,Un,UB,ac hp,Nat.zero_add,HK,Bd,Gn,aj]
  by_cases hc:at'<l.length
  ·rw[decide_eq_true hc,cond_true]
   rcases Jb hp hS.hm hl hc with⟨k,v,n',h1,h2,h3,h4,h5⟩|⟨a,e,h1,h2,h3⟩
   ·have hlen:((l.drop at').take n').length=n':=by rw[List.length_take,List.length_drop];omega
    rw[aq h3]
    simp only[tk,Se,QK,ac hb,ak,aw,Oq,Ol,Un,ac hp,Nat.zero_add,HK,hlen,dN,wN (show at'+n'<2^62 by omega),tE,Sz,Hx]
    have hS1:=hS.mv (at'+n') (st+1)
    have kp1:=Kp.of (Fr.set (H:=H) (p:=p) (oc:=oc) (b:=.cells (st+1) (lX l (at'+n') (.map m) (.buf 2 oc c.length)))) kp ko
    have hT1:=hT.fr hS.hc (Fr.set (b:=.cells (st+1) (lX l (at'+n') (.map m) (.buf 2 oc c.length)))) ⟨_,_,hp⟩
    generalize H.set p (.cells (st+1) (lX l (at'+n') (.map m) (.buf 2 oc c.length)))=H1 at hS1 hT1 kp1 ⊢
    obtain⟨H2,r1,hS2,hT2,kp2⟩:=Jy hS1 hT1 (by omega) k v ((l.drop at').take n') at'
    rw[tk]at r1
    rw[iI r1]
    obtain⟨sb2,hb2⟩:=hT2.hb
    simp only[ct,Bool.not_true,aj,cond_false,ac hb2,ak,aw]
    rcases Gf hl h2 (by omega) hS2 with⟨at3,c3,H3,j1,j2,j3,j4,j5,j6,_,_⟩|⟨a,e,H3,j1,j2,j3,j4⟩
    ·rw[aq j1]
     have hT3:=hT2.fr hS2.hc j6 (by obtain⟨st,h⟩:=hS2.hp;exact⟨_,_,h⟩)
     rcases xX hl kp ko (l.length - at3) at3 H3 c3 _ rfl j4 j5 (by simp;omega) j2 hT3 with⟨H4,r,i1,i2,i3,i4,i5⟩|⟨a,e,H4,T,i1,i2,i3,i4,i5⟩
     ·refine .inl ⟨H4,_::r,i1,by rw[List.append_assoc]at i2;exact i2,fun q=>by omega,fun _=>⟨k,v,n',r,rfl,h1,h2,h4,h5,fun q=>i3 (by omega)⟩,((kp1.trans kp2).trans (Kp.of j6 kp ko)).trans i5⟩
     ·exact .inr ⟨a,e,H4,T,i1,i2,i3,⟨hc,fun q=>.inr ⟨k,n',h5 q,by have:=i4.1;omega⟩⟩,((kp1.trans kp2).trans (Kp.of j6 kp ko)).trans i5⟩
    ·rw[zq j2]
     exact .inr ⟨a,e,H3,_,j1,rfl,hT2.fr hS2.hc j3 (by obtain⟨st,h⟩:=hS2.hp;exact⟨_,_,h⟩),⟨hc,fun q=>.inr ⟨k,n',h5 q,fun q2=>Mu (by omega) j4⟩⟩,(kp1.trans kp2).trans (Kp.of j3 kp ko)⟩
   ·rw[zq h2]
    exact .inr ⟨a,e,H,toks,h1,rfl,hT,⟨hc,fun q=>.inl (h3 q)⟩,fun _ _ _ h=>h⟩
  ·rw[decide_eq_false hc,cond_false]
   exact .inl ⟨H,[],rfl,by rw[List.append_nil];exact hT,fun _=>rfl,fun q=>(hc q).elim,fun _ _ _ h=>h⟩
 termination_by n=>n
open Classical in
def fu(l:af):Int:=if l.length=0\/24<l.length\/skip l 0\/fh l 0 then 0 else match fA l 0 with
 |none=>0
 |some (k,n)=>if n=l.length then k else 0
def oi(l:af):gi->Int
 |[[.int _ k,_,.str t,_]]=>if t=l then k else 0
 |_=>0
def rg(l:af)(k:Int):Prop:=k=fu l\/(fh l 0/\k=1)
theorem fx{l:af}(h:l.length=0\/24<l.length\/skip l 0\/fh l 0):fu l=0:=by unfold fu;rw[if_pos h]
theorem Kz(hl:l.length<=24){at2:Nat}{T:gi}(h0:at2=l.length->T=[])(hF:Dz l at2 T)(h1:at2<=l.length)(h2:¬ skip l 0->at2=0)(h3:0<l.length->skip l 0->0<at2):rg l (oi l T):=by
 by_cases hz:l.length=0
 ·rw[h0 (by omega)];exact .inl (fx (.inl hz)).symm
 by_cases hs:skip l 0
 ·have:=h3 (by omega) hs
  refine .inl ?_
  rw[fx (.inr (.inr (.inl hs)))]
  rcases Nat.lt_or_ge at2 l.length with q|q
  ·obtain⟨k,v,n,r',rfl,_,_,_⟩:=hF q
   cases r' with
   |nil =>
    grind [oi,List.length,List.length_take,List.length_drop]
   |cons _ _=>rfl
  ·rw[h0 (by omega)];rfl
 ·have e0:=h2 hs
  subst e0
  obtain⟨k,v,n,r',rfl,q1,q2,q3,q4,q5⟩:=hF (by omega)
  by_cases hn:fh l 0
  ·cases r' with
   |nil =>
    simp only[oi]
    split
    ·exact .inr ⟨hn,q3 hn⟩
    ·exact .inl (fx (.inr (.inr (.inr hn)))).symm
   |cons _ _=>exact .inl (fx (.inr (.inr (.inr hn)))).symm
  ·have ht:=q4 hn
   refine .inl ?_
   have hk:fu l=if n=l.length then k else 0:=by
    grind [fu]
   rw[hk]
   by_cases hnl:n=l.length
   ·simp_all[oi,List.drop_zero,List.take_of_length_le,Nat.le_refl]
   ·rw[if_neg hnl]
    cases r' with
    |nil =>
     grind [oi,List.length,List.length_take,List.length_drop]
    |cons _ _=>rfl
theorem Cl(hl:l.length<=24)(h:skip l 0\/lO l 0):rg l 0:=by
 refine .inl ?_
 by_cases hs:skip l 0
 ·grind [fx]
 by_cases hn:fh l 0
 ·grind [fx]
 obtain⟨h1,h2⟩:=h.resolve_left hs
 grind [fu]
end Go.Proofs.YtenibcfppefobaaGreatDoor
