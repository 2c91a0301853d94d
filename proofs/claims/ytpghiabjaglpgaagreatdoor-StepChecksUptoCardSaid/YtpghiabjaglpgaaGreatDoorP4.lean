/- Lemmas. No conditions. -/
import Derived.Test.YtpghiabjaglpgaaGreatDoorP3
set_option linter.all false
noncomputable section
namespace Go.Proofs.YtpghiabjaglpgaaGreatDoor
open Go.AI
variable{kind:af->Int}(K:YB kind)
def ul(kind:af->Int)(n:af)(m:Nat):Bool:=if n==[44] then decide (2<=m)&&decide (m<=4)else kind n==3&&decide (m<=16)
include K
def RN(n:af)(m:Nat)(H:DH):am 198 [.str n,.i m] H=ret (.bool (ul kind n m)) H:=by
 refine ev (ahe _ _ _ _) ?_;simp only[ai (yx K _ _),aq,akM,ul]
 repeat' (first|rfl|split)
 all_goals simp_all
 all_goals first|omega|(rw[aiz];simp<;>omega)
def RO(n:af)(m:Nat)(H:DH):am 259 [.str n,.i m] H=ret (.bool (ul kind n m)) H:=by
 refine ev (agG _ _ _ _) ?_;have hc:=K.c;simp only[ai (mT K _ _),aq,akM,ul]
 repeat' (first|rfl|split)
 all_goals simp_all
 all_goals first|omega|(rw[aiz];simp<;>omega)
omit K
section
variable(kind:af->Int)
def Fe(k:Int)(n:af)(m:Nat):Bool:=if k==1 then n==[]&&m==0 else if k==2 then kind n==2&&m==0 else if k==3 then ul kind n m else false
mutual
def lm:Pa->Bool
 |.mk k n xs=>fv xs&&Fe kind k n xs.length
def fv:List Pa->Bool
 |[]=>true
 |t::r=>lm t&&fv r
end
end
def oB:∀ l,fv kind l=l.all (lm kind)
 |[]=>rfl
 |t::r=>by simp[fv,oB r]
def ci:∀ l,(cr l).length=l.length:=fun l=>by rw[lJ,aby]
def iE(pre:List Pa)(t:Pa)(suf:List Pa):(cr (pre++t::suf))[pre.length]? = some (eQ t):=by rw[lJ];exact bZ _ _ _ _
include K
mutual
def AE:∀(t:Pa) (H:DH),t.ok->am 197 [.agg (eQ t)] H=ret (.bool (lm kind t)) H
 |.mk k n xs,H,h=>by simp only[Pa.ok]at h;refine ev (by simp only[eQ];exact f197 _ _ _ _ _) ?_;exact sQ k n xs H h.1 [] xs rfl h.2
def sQ(k:Int)(n:af)(xs:List Pa)(H:DH)(hl:xs.length<2^62):∀ pre suf,xs=pre++suf->Pa.oks suf ->
 ac av 197 200002 [.lp 0 0,.n (pre.length:Nat)] [(0,[.i k,.str n,.row 3 (cr xs)])] H=ret (.bool (fv kind suf&&Fe kind k n xs.length)) H
 |pre,[],e,_=>by
  have b:xs.length=pre.length:=by rw[e];simp
  refine aZ (we _ _ _ _ _ _) ?_;rw[ci,b];simp only[aio,aip,ai (sI K _ _),ai (RN K _ _ _),aq,fv,aeG,akM,Fe]
  repeat' (first|rfl|split)
  all_goals simp_all
  all_goals first|omega|(rw[aiz];simp<;>omega)
 |pre,t::suf,e,h=>by
  simp only[Pa.oks]at h;refine aZ (we _ _ _ _ _ _) ?_;have hi:pre.length<xs.length:=by rw[e];simp
  have c:decide ((pre.length:Int)<((cr xs).length:Int))=true:=by rw[ci];simp;exact hi
  have d:(cr xs)[pre.length]? = some (eQ t):=by rw[e];exact iE _ _ _
  obtain⟨tk,tn,tas⟩:=t;have a:=AE (.mk tk tn tas) H h.1;simp only[eQ]at a;have ih:=sQ k n xs H hl (pre++[.mk tk tn tas]) suf (by rw[e];simp) h.2;rw[c,ge,aO,aB d];simp only[eQ,ao,ax,ai a,aH,aq,aA (show pre.length<2^62 by omega)];simp only[aae,aaQ]at ih;rw[ih];cases f:lm kind (.mk tk tn tas)<;>simp[fv,f]
end
mutual
def Sq:∀(t:Pa) (H:DH),t.ok->am 258 [.agg (eQ t)] H=ret (.bool (lm kind t)) H
 |.mk k n xs,H,h=>by
  simp only[Pa.ok]at h;refine ev (by simp only[eQ];exact agH _ _ _ _ _) ?_;have b:=uA xs h.2;have c:aW bY 258=true:=by kernel_rfl
  have a:=Yy c (p:=lm kind) xs h.1 b H;rw[<- lJ,<- oB]at a;simp only[ai a,ai (oO K _ _),ci,ai (RO K _ _ _),aq,aH,akM,lm,Fe];clear b a;generalize fv kind xs=q;cases q<;>simp only[aeH,aeG,aid,aih,akC,akG,ajo]
  repeat' (first|rfl|split)
  all_goals simp_all
  all_goals first|omega|(rw[aiz];simp<;>omega)
def uA:∀(l:List Pa),Pa.oks l->∀ t∈l,∀ H',am 258 [.agg (eQ t)] H'=ret (.bool (lm kind t)) H'
 |[],_,t,a,_=>by cases a
 |x::r,h,t,a,H'=>by
  simp only[Pa.oks]at h;rcases aff.mp a with e|a
  ·rw[e];exact Sq x H' h.1
  ·exact uA r h.2 t a H'
end
end Go.Proofs.YtpghiabjaglpgaaGreatDoor
namespace Go.Proofs.YtpghiabjaglpgaaGreatDoor
open Go.AI
variable{kind:af->Int}(K:YB kind)
def SC(a b:Nat):((a:Int)==(b:Int))=(a==b):=by rw[aiz];simp only[akr];omega
def sN(a:Nat):((a:Int)==0)=(a==0):=SC a 0
def Yk(a:Nat):((a:Int)==1)=(a==1):=SC a 1
def Yj(a:Nat):((a:Int)==2)=(a==2):=SC a 2
def Ic(a:Nat):decide ((a:Int)>=1)=decide (1<=a):=by rw[aiz];simp;omega
def uE(a:Nat):decide ((a:Int)<=16)=decide (a<=16):=by rw[aiz];simp;omega
def SA(a:Nat):decide ((a:Int)>16)=!decide (a<=16):=by rw[aiz];simp;omega
def adH(a:Nat):decide ((a:Int)<1)=!decide (1<=a):=by rw[aiz];simp;omega
def SB(a:Nat):decide ((a:Int)>0)=decide (a>0):=by rw[aiz];simp
def aU{R:aI}{j:CO}{H H':DH}{d:D}{k:D->DH->au}{kp:List iD->DH->au}(h:R j H=ret d H'):bB (R j H) k kp=k d H':=by rw[h];rfl
def DJ(l:List af)(hl:l.length<2^62)(s:af)(H:DH):∀ pre suf,l=pre++suf ->
 ∃ n:Int,ac av 318 200002 [.g (.row 1 (l.map fD)),.g (.str s),.n (l.length:Nat),.n (pre.length:Nat)] [] H=ret (.i n) H/\decide (n>=0)=suf.any (fun x=>s==x)
 |pre,[],e=>by
  refine⟨-1,aZ (vN _ _ _ _ _ _) ?_,rfl⟩;have b:l.length=pre.length:=by rw[e];simp
  rw[b];simp only[aio,aip,TD]
 |pre,t::suf,e=>by
  have hi:pre.length<l.length:=by rw[e];simp
  have c:decide ((pre.length:Int)<(l.length:Int))=true:=by simp;exact hi
  have d:(l.map fD)[pre.length]? = some (fD t):=by rw[e];exact bZ _ _ _ _
  obtain⟨n,ih,f⟩:=DJ l hl s H (pre++[t]) suf (by rw[e];simp);rw[aae,aaQ]at ih;have key:ac av 318 200002 [.g (.row 1 (l.map fD)),.g (.str s),.n (l.length:Nat),.n (pre.length:Nat)] [] H=cond (s==t) (ret (.i (pre.length:Nat)) H) (ret (.i n) H):=by refine aZ (vN _ _ _ _ _ _) ?_;rw[c,ge,aO,aB d];simp only[fD,ao,cF,aq,aA (show pre.length<2^62 by omega),ih]
  cases a:s==t with
  |false=>exact⟨n,by rw[key,a];rfl,by rw[f,akS,a,ajf]⟩
  |true=>exact⟨(pre.length:Nat),by rw[key,a];rfl,by rw[akS,a,akO];simp⟩
def Kb:List af:=[[43],[45],[42],[47],[37],[60],[61]]
def VO(n:af):Bool:=Kb.any (fun x=>n==x)
def afw(n:af)(H:DH):am 260 [.row 1 (Kb.map fD),.str n] H=ret (.bool (VO n)) H:=by obtain⟨i,a,b⟩:=DJ Kb (by decide) n H [] Kb rfl;have c:am 318 [.row 1 (Kb.map fD),.str n] H=ret (.i i) H:=ev (f318 _ _ _ _) a;exact ev (f260 _ _ _ _) (by simp only[ai c,cX,b];rfl)
def acy(H:DH):am 261 [] H=ret (.row 1 (Kb.map fD)) H:=ev (agF _ _) rfl
def afv(n:af)(H:DH):am 199 [.str n] H=ret (.bool (VO n)) H:=by refine ev (ahd _ _ _) ?_;simp only[akM,VO,Kb,akS,List.any_nil,akH];generalize(n==[43])=a;generalize(n==[45])=b;generalize(n==[42])=c;generalize(n==[47])=d;generalize(n==[37])=e;generalize(n==[60])=f;cases a<;>cases b<;>cases c<;>cases d<;>cases e<;>cases f<;>rfl
section
variable(kind:af->Int)
def IA(k m:Int)(a:af)(p:Nat):Bool:=!(k != 1&&m != 0)&&!(k != 5&&k != 7&&!(a==[]))&&!(k != 8&&decide (p>0))
def jm(k:Int)(n a:af)(m p:Nat):Bool :=
 cond (k==1) (n==[]&&m==0) (cond (k==2) (kind n==2&&m==0) (cond (k==3) (ul kind n m) (cond (k==4) (n==[]&&m==2) (cond (k==5) (n==[]&&(kind a==2&&m==1))
 (cond (k==6) (kind n==2&&m==2) (cond (k==7) (kind n==2&&(kind a==2&&m==2)) (cond (k==8) (n==[]&&(decide (1<=p)&&(decide (p<=16)&&m==p+1))) (cond (k==9) (VO n&&m==2) false))))))))
mutual
def fq:Ex->Bool
 |.mk k m n a xs ps=>gq xs&&(fv kind ps&&(IA k m a ps.length&&jm kind k n a xs.length ps.length))
def gq:List Ex->Bool
 |[]=>true
 |t::r=>fq t&&gq r
end
end
def xe:∀ l,gq kind l=l.all (fq kind)
 |[]=>rfl
 |t::r=>by simp[gq,xe r]
def bQ:∀ l,(cm l).length=l.length:=fun l=>by rw[lU,aby]
def iH(pre:List Ex)(t:Ex)(suf:List Ex):(cm (pre++t::suf))[pre.length]? = some (cP t):=by rw[lU];exact bZ _ _ _ _
include K
def SW(k m:Int)(n a:af)(xs:List Ex)(ps:List Pa)(hp:ps.length<2^62)(H:DH) :
 ac av 131 14 [.lp 0 0,.n xs.length] [(0,[.i k,.i m,.str n,.str a,.row 6 (cm xs),.row 3 (cr ps)])] H=ret (.bool (jm kind k n a xs.length ps.length)) H:=by
 refine aZ (Wn _ _ _ _ _ _ _ _ _) (aZ (Wm _ _ _ _ _ _ _ _ _ _) ?_);simp only[ai (sI K _ _),ai (RN K _ _ _),ai (afv _ _),aq,ci,aA hp,bg,aim,SC,sN,Yk,Yj,Ic,uE,jm];try simp only[akP,Bool.and_comm,Bool.and_left_comm]
def SX(k m:Int)(n a:af)(xs:List Ex)(ps:List Pa)(hp:ps.length<2^62)(H:DH) :
 ac av 191 6 [.lp 0 0,.n xs.length] [(0,[.i k,.i m,.str n,.str a,.row 6 (cm xs),.row 3 (cr ps)])] H=ret (.bool (jm kind k n a xs.length ps.length)) H:=by
 refine aZ (aaM _ _ _ _ _ _ _ _ _) (aZ (aaL _ _ _ _ _ _ _ _ _ _) ?_);simp only[ai (oO K _ _),ai (RO K _ _ _),aU (acy H),aU (afw _ _),aq,ci,aA hp,bg,aim,SC,sN,Yk,Yj,Ic,uE,jm];try simp only[akP,Bool.and_comm,Bool.and_left_comm]
mutual
def oS:∀(t:Ex) (H:DH),t.ok->am 131 [.agg (cP t)] H=ret (.bool (fq kind t)) H
 |.mk k m n a xs ps,H,h=>by simp only[Ex.ok]at h;refine ev (by simp only[cP];exact ahE _ _ _ _ _ _ _ _) ?_;exact qA k m n a xs ps H h.1 h.2.2.1 h.2.2.2 [] xs rfl h.2.1
def qA(k m:Int)(n a:af)(xs:List Ex)(ps:List Pa)(H:DH)(hl:xs.length<2^62)(hp:ps.length<2^62)(b:Pa.oks ps):∀ pre suf,xs=pre++suf->Ex.oks suf ->
 ac av 131 200002 [.lp 0 0,.n (pre.length:Nat)] [(0,[.i k,.i m,.str n,.str a,.row 6 (cm xs),.row 3 (cr ps)])] H=ret (.bool (gq kind suf&&(fv kind ps&&(IA k m a ps.length&&jm kind k n a xs.length ps.length)))) H
 |pre,[],e,_=>by
  have c:xs.length=pre.length:=by rw[e];simp
  refine aZ (wy _ _ _ _ _ _ _ _ _) ?_;rw[bQ,c,<- c];simp only[aio,aip,TD,gq,aeG];exact qz k m n a xs ps H hp [] ps rfl b
 |pre,t::suf,e,h=>by
  simp only[Ex.oks]at h;refine aZ (wy _ _ _ _ _ _ _ _ _) ?_;have hi:pre.length<xs.length:=by rw[e];simp
  have f:decide ((pre.length:Int)<((cm xs).length:Int))=true:=by rw[bQ];simp;exact hi
  have g:(cm xs)[pre.length]? = some (cP t):=by rw[e];exact iH _ _ _
  obtain⟨tk,tm,tn,ta,tas,tps⟩:=t;have d:=oS (.mk tk tm tn ta tas tps) H h.1;simp only[cP]at d;have ih:=qA k m n a xs ps H hl hp b (pre++[.mk tk tm tn ta tas tps]) suf (by rw[e];simp) h.2;rw[f,ge,aO,aB g];simp only[cP,ao,ax,ai d,aH,aq,aA (show pre.length<2^62 by omega)];simp only[aae,aaQ]at ih;rw[ih];cases j:fq kind (.mk tk tm tn ta tas tps)<;>simp[gq,j]
def qz(k m:Int)(n a:af)(xs:List Ex)(ps:List Pa)(H:DH)(hp:ps.length<2^62):∀ pre suf,ps=pre++suf->Pa.oks suf ->
 ac av 131 200007 [.lp 0 0,.n (pre.length:Nat)] [(0,[.i k,.i m,.str n,.str a,.row 6 (cm xs),.row 3 (cr ps)])] H=ret (.bool (fv kind suf&&(IA k m a ps.length&&jm kind k n a xs.length ps.length))) H
 |pre,[],e,_=>by
  have d:ps.length=pre.length:=by rw[e];simp
  refine aZ (wx _ _ _ _ _ _ _ _ _) ?_;rw[ci,<- d];have b:=SW K k m n a xs ps hp H;simp only[aio,aip,TD,bQ,b,fv,aeG,IA,SB];generalize jm kind k n a xs.length ps.length=q;generalize(k != 1)=c1;generalize(m != 0)=c2;generalize(k != 8)=c3;generalize decide (ps.length>0)=f;generalize(k != 5)=g;generalize(k != 7)=j;generalize(a==[])=l;cases c1<;>cases c2<;>cases c3<;>cases f<;>cases g<;>cases j<;>cases l<;>rfl
 |pre,t::suf,e,h=>by
  simp only[Pa.oks]at h;refine aZ (wx _ _ _ _ _ _ _ _ _) ?_;have hi:pre.length<ps.length:=by rw[e];simp
  have o:decide ((pre.length:Int)<((cr ps).length:Int))=true:=by rw[ci];simp;exact hi
  have p:(cr ps)[pre.length]? = some (eQ t):=by rw[e];exact iE _ _ _
  have c:=AE K t H h.1;have ih:=qz k m n a xs ps H hp (pre++[t]) suf (by rw[e];simp) h.2;obtain⟨tk,tn,tas⟩:=t;simp only[eQ]at c;rw[o,ge,aO,aB p];simp only[eQ,ao,ax,ai c,aH,aq,aA (show pre.length<2^62 by omega)];simp only[aae,aaQ]at ih;rw[ih];cases b:lm kind (.mk tk tn tas)<;>simp[fv,b]
end
mutual
def uC:∀(t:Ex) (H:DH),t.ok->am 191 [.agg (cP t)] H=ret (.bool (fq kind t)) H
 |.mk k m n a xs ps,H,h=>by
  simp only[Ex.ok]at h;refine ev (by simp only[cP];exact ahj _ _ _ _ _ _ _ _) ?_;have d:=An xs h.2.1;have e:aW bY 191=true:=by kernel_rfl
  have b:=aev e (p:=fq kind) xs h.1 d H;have f:aW bY 258=true:=by kernel_rfl
  have c:=Yy f (p:=lm kind) ps h.2.2.1 (uA K ps h.2.2.2) H;rw[<- lU,<- xe]at b;rw[<- lJ,<- oB]at c;have g:=SX K k m n a xs ps h.2.2.1 H;simp only[ai b,ai c,aq,aH,ci,bQ,g,fq,IA,SB];generalize jm kind k n a xs.length ps.length=q;generalize gq kind xs=i;generalize fv kind ps=j;generalize(k != 1)=c1;generalize(m != 0)=c2;generalize(k != 8)=c3;generalize decide (ps.length>0)=l;generalize(k != 5)=o;generalize(k != 7)=r;generalize(a==[])=s;cases i<;>cases j<;>cases c1<;>cases c2<;>cases c3<;>cases l<;>cases o<;>cases r<;>cases s<;>rfl
def An:∀(l:List Ex),Ex.oks l->∀ t∈l,∀ H',am 191 [.agg (cP t)] H'=ret (.bool (fq kind t)) H'
 |[],_,t,a,_=>by cases a
 |x::r,h,t,a,H'=>by
  simp only[Ex.oks]at h;rcases aff.mp a with e|a
  ·rw[e];exact uC x H' h.1
  ·exact An r h.2 t a H'
end
end Go.Proofs.YtpghiabjaglpgaaGreatDoor
namespace Go.Proofs.YtpghiabjaglpgaaGreatDoor
open Go.AI
variable{kind:af->Int}(K:YB kind)
section
variable(kind:af->Int)
def pu(c:Co):Bool:=kind c.n==3&&(decide (c.xs.length<=16)&&fN kind c.xs)
def uM(d:Da):Bool:=kind d.n==3&&(decide (d.vs.length<=16)&&(d.vs.all (fun s=>kind s==4)&&(decide (1<=d.cs.length)&&(decide (d.cs.length<=16)&&d.cs.all (pu kind)))))
end
def jw{P:Program}{ty el:TypeId}{sz:Nat}(a:P.underlying ty=some (.slice el))(b:size P el=some sz){l:aR}{i:Nat}{cs:List D}{κ:D->au}(h:l[i]? = some cs):aD P ty (.row sz l) (.i i) κ=κ (.eptr cs 0):=by rw[aD,a];simp only[b];rw[Sm];simp only[aiw,ge];exact(aO i).trans (aB h)
def dR{P:Program}{ty el:TypeId}(a:P.underlying ty=some (.slice el))(sz:Nat)(l:aR)(H:DH){κ:D->au}:aY P ty (.row sz l) H κ=κ (.i l.length):=by rw[aY,a]
def ll:Tryz.prog.underlying 142=some (.slice 144):=by kernel_rfl
def Hm:size ab 144=some 2:=by kernel_rfl
def vA(a b:D)(H:DH){κ:D->au}:cH ab 144 (.eptr [a,b] 0) H κ=κ (.agg [a,b]):=by kernel_rfl
include K
def VP(c:Co)(H:DH)(h:c.ok):am 248 [.agg (km c)] H=ret (.bool (pu kind c)) H:=by
 obtain⟨n,xs⟩:=c;obtain⟨b,d⟩:=h;refine ev (agR _ _ _ _) ?_;have e:aW bY 188=true:=by kernel_rfl
 have a:=Yx e (p:=jg kind) xs b (rh K xs d) H;rw[<- iI,<- nZ]at a;simp only[ai (mT K _ _),ai a,aq,bP,bg,aim,uE,pu]
def OK(d:Da)(H:DH)(h:d.ok):am 186 [.agg (daC d)] H=ret (.bool (uM kind d)) H:=by
 obtain⟨n,vs,cs⟩:=d;obtain⟨a,b,c⟩:=h;refine ev (aho _ _ _ _ _) ?_;have e:aW bY 251=true:=by kernel_rfl
 have f:aW bY 248=true:=by kernel_rfl
 have g:=aet e (p:=fun s=>kind s==4) vs a (fun t _ H'=>MX K t H') H;have i:=aex f (p:=pu kind) cs b (fun t j H'=>VP K t H' (c t j)) H;simp only[ai (mT K _ _),ai g,ai i,aq,aby,bg,aim,uE,Ic,uM]
def sR(n:af)(vs:List af)(cs:List Co)(ic:Nat)(cn:af)(xs:List Ty)(H:DH)(hl:xs.length<2^62):∀ pre suf,xs=pre++suf->Ty.oks suf ->
 ac av 128 200015 [.lp 0 0,.n ic,.lp 1 0,.n (pre.length:Nat)] [(0,[.str n,.row 1 (vs.map fD),.row 2 (cs.map km)]),(0,[.str cn,.row 2 (cp xs)])] H
  = cond (fN kind suf) (ac av 128 200009 [.lp 0 0,.n (bD ((ic:Int)+1))] [(0,[.str n,.row 1 (vs.map fD),.row 2 (cs.map km)])] H) (ret (.bool false) H)
 |pre,[],e,_=>by
  have c:xs.length=pre.length:=by rw[e];simp
  refine aZ (wA _ _ _ _ _ _ _ _ _) ?_;simp only[dR ll,bP,c,aS,aio,aip,aq,TD,fN,ge]
 |pre,t::suf,e,h=>by
  simp only[Ty.oks]at h;refine aZ (wA _ _ _ _ _ _ _ _ _) ?_;have hi:pre.length<xs.length:=by rw[e];simp
  have d:decide ((pre.length:Int)<((cp xs).length:Int))=true:=by rw[bP];simp;exact hi
  have a:(cp xs)[pre.length]? = some (dJ t):=by rw[e];exact gG _ _ _
  have b:=oR K t H h.1;have ih:=sR n vs cs ic cn xs H hl (pre++[t]) suf (by rw[e];simp) h.2;obtain⟨tn,tas⟩:=t;simp only[dJ]at b a;simp only[dR ll,aS,d,aq,ge,jw ll Hm a,vA,ai b,aH,aA (show pre.length<2^62 by omega)];simp only[aae,aaQ]at ih;rw[ih];cases f:jg kind (.mk tn tas)<;>simp[fN,f]
def qC(n:af)(vs:List af)(cs:List Co)(H:DH)(hl:cs.length<2^62):∀ pre suf,cs=pre++suf->(∀ c∈suf,c.ok) ->
 ac av 128 200009 [.lp 0 0,.n (pre.length:Nat)] [(0,[.str n,.row 1 (vs.map fD),.row 2 (cs.map km)])] H=ret (.bool (suf.all (pu kind))) H
 |pre,[],e,_=>by
  have i:cs.length=pre.length:=by rw[e];simp
  refine aZ (wB _ _ _ _ _ _) ?_;simp only[aby,i,aio,aip,TD,aku]
 |pre,c::suf,e,h=>by
  refine aZ (wB _ _ _ _ _ _) ?_;have hi:pre.length<cs.length:=by rw[e];simp
  have j:decide ((pre.length:Int)<((cs.map km).length:Int))=true:=by rw[aby];simp;exact hi
  have k:(cs.map km)[pre.length]? = some (km c):=by rw[e];exact bZ _ _ _ _
  have hc:=h c (aeK ..);have ih:=qC n vs cs H hl (pre++[c]) suf (by rw[e];simp) (fun x l=>h x (abE _ l));simp only[aae,aaQ]at ih;obtain⟨cn,xs⟩:=c;obtain⟨d,f⟩:=hc;have g:=sR K n vs cs pre.length cn xs H d [] xs rfl f;rw[j,ge,aO,aB k];simp only[km,ao,ax,ai (yx K _ _),aH,aq,dR ll,bP,ef,SA];have g:ac av 128 200015 [.lp 0 0,.n (pre.length:Nat),.lp 1 0,.n 0] [(0,[.str n,.row 1 (vs.map fD),.row 2 (cs.map km)]),(0,[.str cn,.row 2 (cp xs)])] H=_:=g;rw[g,aA (show pre.length<2^62 by omega),ih];simp only[ajb,pu];generalize(kind cn==3)=a;generalize decide (xs.length<=16)=b;generalize fN kind xs=c;cases a<;>cases b<;>cases c<;>rfl
def qB(n:af)(vs:List af)(cs:List Co)(H:DH)(hl:vs.length<2^62)(hc:cs.length<2^62)(hk:∀ c∈cs,c.ok):∀ pre suf,vs=pre++suf ->
 ac av 128 200004 [.lp 0 0,.n (pre.length:Nat)] [(0,[.str n,.row 1 (vs.map fD),.row 2 (cs.map km)])] H=ret (.bool (suf.all (fun s=>kind s==4)&&cs.all (pu kind))) H
 |pre,[],e=>by
  have a:vs.length=pre.length:=by rw[e];simp
  refine aZ (wC _ _ _ _ _ _) ?_;simp only[aby,a,aio,aip,TD,aku,aeG];exact qC K n vs cs H hc [] cs rfl hk
 |pre,c::suf,e=>by
  refine aZ (wC _ _ _ _ _ _) ?_;have hi:pre.length<vs.length:=by rw[e];simp
  have b:decide ((pre.length:Int)<((vs.map fD).length:Int))=true:=by rw[aby];simp;exact hi
  have d:(vs.map fD)[pre.length]? = some (fD c):=by rw[e];exact bZ _ _ _ _
  have ih:=qB n vs cs H hl hc hk (pre++[c]) suf (by rw[e];simp);simp only[aae,aaQ]at ih;rw[b,ge,aO,aB d];simp only[fD,ao,ai (MW K _ _),aH,aq,aA (show pre.length<2^62 by omega)];rw[ih];simp only[ajb];cases (kind c==4)<;>rfl
def Ik(d:Da)(H:DH)(h:d.ok):am 128 [.agg (daC d)] H=ret (.bool (uM kind d)) H:=by obtain⟨n,vs,cs⟩:=d;obtain⟨g,i,j⟩:=h;refine ev (ahG _ _ _ _ _) ?_;have k:ac av 128 200004 [.lp 0 0,.n 0] [(0,[.str n,.row 1 (vs.map fD),.row 2 (cs.map km)])] H=_:=qB K n vs cs H g i j [] vs rfl;simp only[ai (yx K _ _),aH,aq,aby,SA,adH,k,uM];generalize(kind n==3)=a;generalize decide (vs.length<=16)=b;generalize decide (1<=cs.length)=c;generalize decide (cs.length<=16)=d;generalize vs.all (fun s=>kind s==4)=e;generalize cs.all (pu kind)=f;cases a<;>cases b<;>cases c<;>cases d<;>cases e<;>cases f<;>rfl
end Go.Proofs.YtpghiabjaglpgaaGreatDoor
namespace Go.Proofs.YtpghiabjaglpgaaGreatDoor
open Go.AI
variable{kind:af->Int}(K:YB kind)
def Un(d:Da):Bool:=d.n==[]&&(d.vs.length==0&&d.cs.length==0)
def Um:Ty->Bool
 |.mk n xs=>n==[]&&xs.length==0
def XB:Ex->Bool
 |.mk k m n a xs ps=>k==0&&(m==0&&(n==[]&&(a==[]&&(xs.length==0&&ps.length==0))))
def abL(d:Da)(H:DH):am 183 [.agg (daC d)] H=ret (.bool (Un d)) H:=by obtain⟨n,vs,cs⟩:=d;exact ev (ahr _ _ _ _ _) (by simp only[aby,sN,bg,aim,Un])
def abK(d:Da)(H:DH):am 125 [.agg (daC d)] H=ret (.bool (Un d)) H:=by obtain⟨n,vs,cs⟩:=d;exact ev (ahJ _ _ _ _ _) (by simp only[aby,sN,bg,aim,Un])
def abH(t:Ty)(H:DH):am 184 [.agg (dJ t)] H=ret (.bool (Um t)) H:=by obtain⟨n,xs⟩:=t;refine ev (by simp only[dJ];exact ahq _ _ _ _) (by simp only[bP,sN,bg,aim,Um])
def abG(t:Ty)(H:DH):am 126 [.agg (dJ t)] H=ret (.bool (Um t)) H:=by obtain⟨n,xs⟩:=t;refine ev (by simp only[dJ];exact ahI _ _ _ _) (by simp only[bP,sN,bg,aim,Um])
def abJ(t:Ex)(H:DH):am 185 [.agg (cP t)] H=ret (.bool (XB t)) H:=by obtain⟨k,m,n,a,xs,ps⟩:=t;refine ev (by simp only[cP];exact ahp _ _ _ _ _ _ _ _) (by simp only[bQ,ci,sN,bg,aim,XB])
def abI(t:Ex)(H:DH):am 127 [.agg (cP t)] H=ret (.bool (XB t)) H:=by obtain⟨k,m,n,a,xs,ps⟩:=t;refine ev (by simp only[cP];exact ahH _ _ _ _ _ _ _ _) (by simp only[bQ,ci,sN,bg,aim,XB])
section
variable(kind:af->Int)
def mU(f:Fu):Bool:=kind f.n==2&&(kind f.a==2&&fq kind f.b)
def dE(d:De):Bool :=
 cond (d.k==1) (uM kind d.d&&(d.n==[]&&(Um d.t&&(XB d.b&&d.fs.length==0))))
 (cond (d.k==2) (Un d.d&&(kind d.n==2&&(jg kind d.t&&(XB d.b&&d.fs.length==0))))
 (cond (d.k==3) (Un d.d&&(d.n==[]&&(Um d.t&&(XB d.b&&(decide (1<=d.fs.length)&&(decide (d.fs.length<=16)&&d.fs.all (mU kind)))))))
 (cond (d.k==4) (Un d.d&&(kind d.n==2&&(Um d.t&&(fq kind d.b&&d.fs.length==0))))
 (cond (d.k==5) (Un d.d&&(kind d.n==2&&(Um d.t&&(fq kind d.b&&d.fs.length==0)))) false))))
end
include K
def Sr(f:Fu)(H:DH)(h:f.b.ok):am 190 [.agg (jQ f)] H=ret (.bool (mU kind f)) H:=by obtain⟨n,a,⟨k,m,en,ea,xs,ps⟩⟩:=f;refine ev (ahk _ _ _ _ _ _ _ _ _ _) ?_;have c:=uC K (.mk k m en ea xs ps) H h;simp only[cP]at c;simp only[ai (oO K _ _),ai c,aq,bg,aim,mU]
def OJ(d:De)(H:DH)(h:d.ok):am 117 [.agg (bF d)] H=ret (.bool (dE kind d)) H:=by
 obtain⟨k,⟨dn,vs,cs⟩,n,⟨tn,ts⟩,fs,⟨ek,em,en,ea,xs,ps⟩⟩:=d;obtain⟨i,j,l,m,o⟩:=h;refine ev (ahR _ _ _ _ _ _ _ _ _ _ _ _ _ _ _ _) ?_;have a:=abL ⟨dn,vs,cs⟩ H;have b:=abH (.mk tn ts) H;have c:=abJ (.mk ek em en ea xs ps) H;have e:=OK K ⟨dn,vs,cs⟩ H i;have f:=DF K (.mk tn ts) H j;have g:=uC K (.mk ek em en ea xs ps) H o;have hb:aW bY 190=true:=by kernel_rfl
 have q:=aeu hb (p:=mU kind) fs l (fun t r H'=>Sr K t H' (m t r)) H;simp only[dJ,cP,daC]at a b c e f g;simp only[aU a,aU b,aU c,ai e,ai f,ai g,ai q,ai (oO K _ _),aq,aby,sN,Ic,uE,bg,aim,dE,akP]
def Ii(k:Int)(dn:af)(vs:List af)(cs:List Co)(n tn:af)(ts:List Ty)(fs:List Fu)(ek em:Int)(en ea:af)(xs:List Ex)(ps:List Pa)(H:DH)(hl:fs.length<2^62):∀ pre suf,fs=pre++suf->(∀ f∈suf,f.b.ok) ->
 ac av 67 200015 [.lp 0 0,.n (pre.length:Nat)] [(0,bF ⟨k,⟨dn,vs,cs⟩,n,.mk tn ts,fs,.mk ek em en ea xs ps⟩)] H=ret (.bool (suf.all (mU kind)&&(n==[]&&(decide (1<=fs.length)&&decide (fs.length<=16))))) H
 |pre,[],e,_=>by
  have j:fs.length=pre.length:=by rw[e];simp
  refine aZ (AT _ _ _ _ _ _ _ _ _ _ _ _ _ _ _ _ _) ?_;simp only[aby,j,aio,aip,TD,aku,aeG,Ic,uE,bg,aim]
 |pre,f::suf,e,h=>by
  refine aZ (AT _ _ _ _ _ _ _ _ _ _ _ _ _ _ _ _ _) ?_;have hi:pre.length<fs.length:=by rw[e];simp
  have l:decide ((pre.length:Int)<((fs.map jQ).length:Int))=true:=by rw[aby];simp;exact hi
  have m:(fs.map jQ)[pre.length]? = some (jQ f):=by rw[e];exact bZ _ _ _ _
  have o:=h f (aeK ..);have ih:=Ii k dn vs cs n tn ts fs ek em en ea xs ps H hl (pre++[f]) suf (by rw[e];simp) (fun x p=>h x (abE _ p));simp only[aae,aaQ,bF]at ih;obtain⟨fn,fa,⟨d,g,en',ea',xs',ps'⟩⟩:=f;have i:=oS K (.mk d g en' ea' xs' ps') H o;simp only[cP]at i;rw[l,ge];simp only[aO,aB m,jQ,ao,ax,ai (sI K _ _),ai i,aH,aq,aA (show pre.length<2^62 by omega),ih,ajb,mU];generalize(kind fn==2)=a;generalize(kind fa==2)=b;generalize fq kind (.mk d g en' ea' xs' ps')=c;cases a<;>cases b<;>cases c<;>rfl
def Ij(d:De)(H:DH)(h:d.ok):am 67 [.agg (bF d)] H=ret (.bool (dE kind d)) H:=by
 obtain⟨k,⟨dn,vs,cs⟩,n,⟨tn,ts⟩,fs,⟨ek,em,en,ea,xs,ps⟩⟩:=d;obtain⟨r,s,t,u,v⟩:=h;have f:=abK ⟨dn,vs,cs⟩ H;have g:=abG (.mk tn ts) H;have i:=abI (.mk ek em en ea xs ps) H;have j:=Ik K ⟨dn,vs,cs⟩ H r;have l:=oR K (.mk tn ts) H s;have m:=oS K (.mk ek em en ea xs ps) H v;have c:=Ii K k dn vs cs n tn ts fs ek em en ea xs ps H t [] fs rfl u;simp only[dJ,cP,daC,bF]at f g i j l m c;have c:ac av 67 200015 [.lp 0 0,.n 0] _ H=_:=c;have o:ac av 67 5 [.lp 0 0] [(0,bF ⟨k,⟨dn,vs,cs⟩,n,.mk tn ts,fs,.mk ek em en ea xs ps⟩)] H=_:=aZ (aee _ _ _ _ _ _ _ _ _ _ _ _ _ _ _ _) (aZ (aed _ _ _ _ _ _ _ _ _ _ _ _ _ _ _ _ _) rfl);simp only[ai j,ai l,ai m,c,ai (sI K _ _),aq,bg,aim,bF]at o;have p:ac av 67 3 [.lp 0 0] [(0,bF ⟨k,⟨dn,vs,cs⟩,n,.mk tn ts,fs,.mk ek em en ea xs ps⟩)] H=_:=aZ (aef _ _ _ _ _ _ _ _ _ _ _ _ _ _ _ _) rfl;simp only[ai i,o,aH,aq,bF]at p;refine ev (f67 _ _ _ _ _ _ _ _ _ _ _ _ _ _ _ _) ?_;simp only[ai f,ai g,p,aH,aq,aby,SB,bg,dE];have w:decide (fs.length>0)=!(fs.length==0):=by cases fs<;>simp
 rw[w];generalize Un _=a;generalize Um _=b;generalize XB _=e;generalize uM kind _=b1;generalize jg kind _=b2;generalize fq kind _=q;generalize fs.all _=x;generalize(n==[])=c1;generalize(kind n==2)=c2;generalize(fs.length==0)=c3;generalize decide (1<=fs.length)=c4;generalize decide (fs.length<=16)=c5;have hk:k=1\/k=2\/k=3\/k=4\/k=5\/((k==1)=false/\(k==2)=false/\(k==3)=false/\(k==4)=false/\(k==5)=false):=by simp only[aeA];omega
 rcases hk with rfl|rfl|rfl|rfl|rfl|⟨y,z,A,B,E⟩
 ·cases a<;>cases b<;>cases e<;>cases c1<;>cases c3<;>simp
 ·cases a<;>cases b<;>cases e<;>cases c2<;>cases c3<;>simp
 ·cases a<;>cases b<;>cases e<;>cases c1<;>cases x<;>simp
 ·cases a<;>cases b<;>cases c2<;>cases q<;>cases c3<;>simp
 ·cases a<;>cases b<;>cases c2<;>cases q<;>cases c3<;>simp
 ·simp only[y,z,A,B,E,bne,TD,aih,ge];cases a<;>cases b<;>cases e<;>cases c3<;>simp
end Go.Proofs.YtpghiabjaglpgaaGreatDoor
namespace Go.Proofs.YtpghiabjaglpgaaGreatDoor
open Go.AI
def vB(a b:Nat):max (a:Int) (b:Int)=((max a b:Nat):Int):=by omega
def FH(a:Nat):decide ((a:Int)>100)=decide (a>100):=by rw[aiz];simp;omega
mutual
def CH:Ty->Nat->Nat
 |.mk _ xs,p=>bif decide (p>100)then p else max p (eZ xs (p+1))
def eZ:List Ty->Nat->Nat
 |[],_=>0
 |t::r,q=>max (CH t q) (eZ r q)
end
mutual
def Cf:Pa->Nat->Nat
 |.mk _ _ xs,p=>bif decide (p>100)then p else max p (jo xs (p+1))
def jo:List Pa->Nat->Nat
 |[],_=>0
 |t::r,q=>max (Cf t q) (jo r q)
end
mutual
def CI:Ex->Nat->Nat
 |.mk _ _ _ _ xs ps,p=>bif decide (p>100)then p else max (max p (jo ps (p+1))) (hC xs (p+1))
def hC:List Ex->Nat->Nat
 |[],_=>0
 |t::r,q=>max (CI t q) (hC r q)
end
mutual
def Tg:∀(t:Ty) (p:Nat) (H:DH),t.ok->p<=101->am 120 [.agg (dJ t),.i p] H=ret (.i (CH t p:Nat)) H
 |.mk n xs,p,H,h,hp=>by
  simp only[Ty.ok]at h;refine ev (by simp only[dJ];exact ahO _ _ _ _ _) ?_;rw[FH,CH];cases b:decide (p>100)with
  |true=>simp only[ge]
  |false =>
   have a:p<=100:=by simp at b;omega
   simp only[TD];exact Nz n xs p a H h.1 [] xs p rfl h.2
def Nz(n:af)(xs:List Ty)(p:Nat)(hp:p<=100)(H:DH)(hl:xs.length<2^62):∀ pre suf (a:Nat),xs=pre++suf->Ty.oks suf ->
 ac av 120 200005 [.n p,.lp 0 0,.n (a:Nat),.n pre.length] [(0,[.str n,.row 2 (cp xs)])] H=ret (.i (max a (eZ suf (p+1)):Nat)) H
 |pre,[],a,e,_=>by
  have f:xs.length=pre.length:=by rw[e];simp
  refine aZ (wL _ _ _ _ _ _ _) ?_;simp only[bP,f,aio,aip,TD,eZ,ajy]
 |pre,t::suf,a,e,h=>by
  simp only[Ty.oks]at h;refine aZ (wL _ _ _ _ _ _ _) ?_;have hi:pre.length<xs.length:=by rw[e];simp
  have g:decide ((pre.length:Int)<((cp xs).length:Int))=true:=by rw[bP];simp;exact hi
  have d:(cp xs)[pre.length]? = some (dJ t):=by rw[e];exact gG _ _ _
  have b:=Tg t (p+1) H h.1 (by omega);have ih:=Nz n xs p hp H hl (pre++[t]) suf (max a (CH t (p+1))) (by rw[e];simp) h.2;have c:eZ (t::suf) (p+1)=max (CH t (p+1)) (eZ suf (p+1)):=by rw[eZ]
  rw[c];generalize CH t (p+1)=q at b ih ⊢;obtain⟨tn,tas⟩:=t;simp only[dJ]at b d;simp only[aae,aaQ]at ih;simp only[g,ge,aO,aB d,ao,ax,aA (show p<2^62 by omega),ai b,vz,oJ,vB,aA (show pre.length<2^62 by omega),ih];rw[ajk]
end
mutual
def Th:∀(t:Pa) (p:Nat) (H:DH),t.ok->p<=101->am 193 [.agg (eQ t),.i p] H=ret (.i (Cf t p:Nat)) H
 |.mk k n xs,p,H,h,hp=>by
  simp only[Pa.ok]at h;refine ev (by simp only[eQ];exact ahh _ _ _ _ _ _) ?_;rw[FH,Cf];cases b:decide (p>100)with
  |true=>simp only[ge]
  |false =>
   have a:p<=100:=by simp at b;omega
   simp only[TD];exact NA k n xs p a H h.1 [] xs p rfl h.2
def NA(k:Int)(n:af)(xs:List Pa)(p:Nat)(hp:p<=100)(H:DH)(hl:xs.length<2^62):∀ pre suf (a:Nat),xs=pre++suf->Pa.oks suf ->
 ac av 193 200005 [.n p,.lp 0 0,.n (a:Nat),.n pre.length] [(0,[.i k,.str n,.row 3 (cr xs)])] H=ret (.i (max a (jo suf (p+1)):Nat)) H
 |pre,[],a,e,_=>by
  have f:xs.length=pre.length:=by rw[e];simp
  refine aZ (wh _ _ _ _ _ _ _ _) ?_;simp only[ci,f,aio,aip,TD,jo,ajy]
 |pre,t::suf,a,e,h=>by
  simp only[Pa.oks]at h;refine aZ (wh _ _ _ _ _ _ _ _) ?_;have hi:pre.length<xs.length:=by rw[e];simp
  have g:decide ((pre.length:Int)<((cr xs).length:Int))=true:=by rw[ci];simp;exact hi
  have d:(cr xs)[pre.length]? = some (eQ t):=by rw[e];exact iE _ _ _
  have b:=Th t (p+1) H h.1 (by omega);have ih:=NA k n xs p hp H hl (pre++[t]) suf (max a (Cf t (p+1))) (by rw[e];simp) h.2;have c:jo (t::suf) (p+1)=max (Cf t (p+1)) (jo suf (p+1)):=by rw[jo]
  rw[c];generalize Cf t (p+1)=q at b ih ⊢;obtain⟨tk,tn,tas⟩:=t;simp only[eQ]at b d;simp only[aae,aaQ]at ih;simp only[g,ge,aO,aB d,ao,ax,aA (show p<2^62 by omega),ai b,vz,oJ,vB,aA (show pre.length<2^62 by omega),ih];rw[ajk]
end
def ND(k m:Int)(n b:af)(xs:List Ex)(ps:List Pa)(p:Nat)(hp:p<=100)(H:DH)(hl:xs.length<2^62)(c:ps.length<2^62)(X:Nat)(g:∀ a:Nat,ac av 122 200009 [.n p,.lp 0 0,.n (a:Nat),.n 0] [(0,[.i k,.i m,.str n,.str b,.row 6 (cm xs),.row 3 (cr ps)])] H=ret (.i (max a X:Nat)) H):∀ pre suf (a:Nat),ps=pre++suf->Pa.oks suf ->
 ac av 122 200005 [.n p,.lp 0 0,.n (a:Nat),.n pre.length] [(0,[.i k,.i m,.str n,.str b,.row 6 (cm xs),.row 3 (cr ps)])] H=ret (.i (max (max a (jo suf (p+1))) X:Nat)) H
 |pre,[],a,e,_=>by
  have l:ps.length=pre.length:=by rw[e];simp
  refine aZ (wJ _ _ _ _ _ _ _ _ _ _ _) ?_;simp only[ci,l,aio,aip,TD,jo,ajy];exact g a
 |pre,t::suf,a,e,h=>by
  simp only[Pa.oks]at h;refine aZ (wJ _ _ _ _ _ _ _ _ _ _ _) ?_;have hi:pre.length<ps.length:=by rw[e];simp
  have o:decide ((pre.length:Int)<((cr ps).length:Int))=true:=by rw[ci];simp;exact hi
  have j:(cr ps)[pre.length]? = some (eQ t):=by rw[e];exact iE _ _ _
  have d:=Th t (p+1) H h.1 (by omega);have ih:=ND k m n b xs ps p hp H hl c X g (pre++[t]) suf (max a (Cf t (p+1))) (by rw[e];simp) h.2;have f:jo (t::suf) (p+1)=max (Cf t (p+1)) (jo suf (p+1)):=by rw[jo]
  rw[f];generalize Cf t (p+1)=q at d ih ⊢;obtain⟨tk,tn,tas⟩:=t;simp only[eQ]at d j;simp only[aae,aaQ]at ih;simp only[o,ge,aO,aB j,ao,ax,aA (show p<2^62 by omega),ai d,vz,oJ,vB,aA (show pre.length<2^62 by omega),ih];rw[ajk a]
mutual
def Ti:∀(t:Ex) (p:Nat) (H:DH),t.ok->p<=101->am 122 [.agg (cP t),.i p] H=ret (.i (CI t p:Nat)) H
 |.mk k m n b xs ps,p,H,h,hp=>by
  simp only[Ex.ok]at h;refine ev (by simp only[cP];exact ahM _ _ _ _ _ _ _ _ _) ?_;rw[FH,CI];cases d:decide (p>100)with
  |true=>simp only[ge]
  |false =>
   have c:p<=100:=by simp at d;omega
   simp only[TD];exact ND k m n b xs ps p c H h.1 h.2.2.1 _ (fun a=>NC k m n b xs ps p c H h.1 [] xs a rfl h.2.1) [] ps p rfl h.2.2.2
def NC(k m:Int)(n b:af)(xs:List Ex)(ps:List Pa)(p:Nat)(hp:p<=100)(H:DH)(hl:xs.length<2^62):∀ pre suf (a:Nat),xs=pre++suf->Ex.oks suf ->
 ac av 122 200009 [.n p,.lp 0 0,.n (a:Nat),.n pre.length] [(0,[.i k,.i m,.str n,.str b,.row 6 (cm xs),.row 3 (cr ps)])] H=ret (.i (max a (hC suf (p+1)):Nat)) H
 |pre,[],a,e,_=>by
  have g:xs.length=pre.length:=by rw[e];simp
  refine aZ (wH _ _ _ _ _ _ _ _ _ _ _) ?_;simp only[bQ,g,aio,aip,TD,hC,ajy]
 |pre,t::suf,a,e,h=>by
  simp only[Ex.oks]at h;refine aZ (wH _ _ _ _ _ _ _ _ _ _ _) ?_;have hi:pre.length<xs.length:=by rw[e];simp
  have j:decide ((pre.length:Int)<((cm xs).length:Int))=true:=by rw[bQ];simp;exact hi
  have f:(cm xs)[pre.length]? = some (cP t):=by rw[e];exact iH _ _ _
  have c:=Ti t (p+1) H h.1 (by omega);have ih:=NC k m n b xs ps p hp H hl (pre++[t]) suf (max a (CI t (p+1))) (by rw[e];simp) h.2;have d:hC (t::suf) (p+1)=max (CI t (p+1)) (hC suf (p+1)):=by rw[hC]
  rw[d];generalize CI t (p+1)=q at c ih ⊢;obtain⟨tk,tm,tn,tb,tas,tps⟩:=t;simp only[cP]at c f;simp only[aae,aaQ]at ih;simp only[j,ge,aO,aB f,ao,ax,aA (show p<2^62 by omega),ai c,vz,oJ,vB,aA (show pre.length<2^62 by omega),ih];rw[ajk]
end
def lP{H:DH}{o:Nat}{b:DB}(h:H[o]? = some b):o<H.length:=by
 rcases aiA o H.length with q|q
 ·exact q
 ·rw[aeF q]at h;cases h
def lE{H X:DH}{o:Nat}{b:DB}(ho:o<H.length)(hb:b.bel H.length):aX H (ret (.tuple []) ((H++X).set o b))=ret (.tuple []) (H.set o b):=by
 have e:(H++X).set o b=H.set o b++X:=by rw[akW,aeM ho]
 have h:pB H ⟨.ret (.tuple []),none,(H++X).set o b⟩:=by
  refine⟨by simp[GP.bel,D.bel,dF],rfl,by simp,fun i x hi a=>?_⟩;rw[e,aeN (by simpa using hi)]at a;by_cases c:o=i
  ·subst c;rw[ajT hi]at a;cases a;exact .inr hb
  ·rw[aiY c]at a;exact .inl a
 simp only[aX,ret];rw[aeM h,e];simp
def Kj{H:DH}{o st d p:Nat}(g:FuncId)(cap:List D)(hb:aW bY g=true)(ho:H[o]? = some (.cells st [.i d])) :
 am 299 [.ptr o 0,.i p,.func g [] cap] H=bif decide (p<=100)then C av g cap (H.set o (.cells (st+1) [.i (max d p:Nat)])) (fun _ H=>ret (.tuple []) H)else ret (.tuple []) (H.set o (.cells (st+1) [.i (max d p:Nat)])):=by
 refine ev (agz _ _ _ _ _) ?_;have a:decide ((p:Int)<=100)=decide (p<=100):=by rw[aiz];simp;omega
 simp only[ae ho,ao,vz,oJ,vB,a,eG hb,air];rfl
def iz(a b:D)(κ:List D->au):aj 2 (.agg [a,b]) κ=κ [a,b]:=rfl
def Vf(a b x y:D)(κ:List D->au):aE [a,b] 0 [x,y] κ=κ [x,y]:=rfl
mutual
def Gj:∀(t:Ty) (p d st o:Nat) (H:DH),H[o]? = some (.cells st [.i d])->t.ok->p<=101 ->
 ∃ st',am 243 [.ptr o 0,.agg (dJ t),.i p] H=ret (.tuple []) (H.set o (.cells st' [.i (max d (CH t p):Nat)]))
 |.mk n xs,p,d,st,o,H,ho,h,hp=>by
  simp only[Ty.ok]at h;have g:=lP ho;have c:((H++[cQ o])++[DB.cells 0 (dJ (.mk n xs))]++[iw p])[H.length]? = some (.cells 0 [.ptr o 0]):=aC _ (aC _ (bt _ _));have k:((H++[cQ o])++[DB.cells 0 (dJ (.mk n xs))]++[iw p])[(H++[cQ o]).length]? = some (.cells 0 (dJ (.mk n xs))):=aC _ (bt _ _);have e:((H++[cQ o])++[DB.cells 0 (dJ (.mk n xs))]++[iw p])[((H++[cQ o])++[DB.cells 0 (dJ (.mk n xs))]).length]? = some (.cells 0 [.i p]):=bt _ _;have j:((H++[cQ o])++[DB.cells 0 (dJ (.mk n xs))]++[iw p])[o]? = some (.cells st [.i d]):=aC _ (aC _ (aC _ ho));have l:(H++[cQ o])++[DB.cells 0 (dJ (.mk n xs))]++[iw p]=H++([cQ o]++[DB.cells 0 (dJ (.mk n xs))]++[iw p]):=by simp only[aix]
  have n1:(H++[cQ o]).length≠o:=by simp;omega
  have n2:H.length≠o:=by omega
  have n3:((H++[cQ o])++[DB.cells 0 (dJ (.mk n xs))]).length≠o:=by simp;omega
  have hb:aW bY 300=true:=by kernel_rfl
  have nd:=Kj (p:=p) 300 [.ptr (H++[cQ o]).length 0,.ptr H.length 0,.ptr ((H++[cQ o])++[DB.cells 0 (dJ (.mk n xs))]).length 0] hb j;generalize m:(H++[cQ o])++[DB.cells 0 (dJ (.mk n xs))]++[iw p]=G at c k e j l nd;have a:∃ st',am 299 [.ptr o 0,.i p,.func 300 [] [.ptr (H++[cQ o]).length 0,.ptr H.length 0,.ptr ((H++[cQ o])++[DB.cells 0 (dJ (.mk n xs))]).length 0]] G=ret (.tuple []) (G.set o (.cells st' [.i (max d (CH (.mk n xs) p):Nat)])):=by
   cases f:decide (p<=100)with
   |false =>
    have b:¬ p<=100:=by simpa using f
    refine⟨st+1,?_⟩;rw[nd,f,TD,CH,show decide (p>100)=true by simp;omega,ge]
   |true =>
    have b:p<=100:=by simpa using f
    obtain⟨st',hl⟩:=IK xs p b o H.length ((H++[cQ o])++[DB.cells 0 (dJ (.mk n xs))]).length 0 0 h.1 n2 n3 [] xs (st+1) (max d p) (G.set o (.cells (st+1) [.i (max d p:Nat)])) (bJ _ j) (ak _ n2.symm c) (ak _ n3.symm e) rfl h.2;refine⟨st',?_⟩;have hc:am 300 [.ptr (H++[cQ o]).length 0,.ptr H.length 0,.ptr ((H++[cQ o])++[DB.cells 0 (dJ (.mk n xs))]).length 0] (G.set o (.cells (st+1) [.i (max d p:Nat)]))=ret (.tuple []) (G.set o (.cells st' [.i (max d (CH (.mk n xs) p):Nat)])):=by refine ev (agy _ _ _ _ _) ?_;rw[ae (ak _ n1.symm k)];simp only[dJ,ao,ax,dR ll,bP];refine ake hl ?_;rw[aiQ,CH,show decide (p>100)=false by simp;omega,TD,ajk]
    rw[nd,f,ge,ai hc]
  obtain⟨st',q⟩:=a;refine⟨st',ev (by simp only[dJ];exact f243 _ _ _ _ _ _) ?_⟩;simp only[dJ]at m c e q ⊢;show aX H (az ((H++[cQ o])++[DB.cells 0 [.str n,.row 2 (cp xs)]]++[iw p]) H.length _)=_;rw[m,ae c];simp only[ao];rw[ae e];simp only[ao];rw[ai q];rw[l];exact lE g (by simp[DB.bel,dF,D.bel])
def IK(xs:List Ty)(p:Nat)(hp:p<=100)(o a b s1 s2:Nat)(hl:xs.length<2^62)(n1:a≠o)(n2:b≠o):∀(pre suf:List Ty) (st d:Nat) (H:DH),H[o]? = some (.cells st [.i d])->H[a]? = some (.cells s1 [.ptr o 0])->H[b]? = some (.cells s2 [.i p])->xs=pre++suf->Ty.oks suf ->
 ∃ st',ac av 300 200001 [.g (.ptr a 0),.g (.ptr b 0),.g (.row 2 (cp xs)),.n xs.length,.n pre.length] [] H=ret (.tuple []) (H.set o (.cells st' [.i (max d (eZ suf (p+1)):Nat)]))
 |pre,[],st,d,H,ho,c,f,e,_=>by
  have l:xs.length=pre.length:=by rw[e];simp
  refine⟨st,aZ (vU _ _ _ _ _ _ _) ?_⟩;simp only[l,aio,aip,TD,eZ,ajy,qa ho]
 |pre,t::suf,st,d,H,ho,c,f,e,h=>by
  simp only[Ty.oks]at h;have hi:pre.length<xs.length:=by rw[e];simp
  have m:decide ((pre.length:Int)<(xs.length:Int))=true:=by simp;exact hi
  have k:(cp xs)[pre.length]? = some (dJ t):=by rw[e];exact gG _ _ _
  obtain⟨ib,hc⟩:=Gj t (p+1) d st o H ho h.1 (by omega);obtain⟨st',ih⟩:=IK xs p hp o a b s1 s2 hl n1 n2 (pre++[t]) suf ib (max d (CH t (p+1))) (H.set o (.cells ib [.i (max d (CH t (p+1)):Nat)])) (bJ _ ho) (ak _ n1.symm c) (ak _ n2.symm f) (by rw[e];simp) h.2;refine⟨st',aZ (vU _ _ _ _ _ _ _) ?_⟩;have j:eZ (t::suf) (p+1)=max (CH t (p+1)) (eZ suf (p+1)):=by rw[eZ]
  rw[j,<- ajk];generalize CH t (p+1)=q at hc ih ⊢;obtain⟨tn,tas⟩:=t;simp only[dJ]at k hc;simp only[aae,aaQ,aiQ]at ih;simp only[m,ge,jw ll Hm k,vA,iz,Vf,ae c,ae f,ao,ax,bH,aA (show p<2^62 by omega),ai hc,aA (show pre.length<2^62 by omega)];exact ih
end
def XC:Tryz.prog.underlying 84=some (.slice 232):=by kernel_rfl
def UJ:size ab 232=some 3:=by kernel_rfl
def MV(a b c:D)(H:DH){κ:D->au}:cH ab 232 (.eptr [a,b,c] 0) H κ=κ (.agg [a,b,c]):=by kernel_rfl
def Gt(a b c:D)(κ:List D->au):aj 3 (.agg [a,b,c]) κ=κ [a,b,c]:=rfl
def Ve(a b c x y z:D)(κ:List D->au):aE [a,b,c] 0 [x,y,z] κ=κ [x,y,z]:=rfl
mutual
def NB:∀(t:Pa) (p d st o:Nat) (H:DH),H[o]? = some (.cells st [.i d])->t.ok->p<=101 ->
 ∃ st',am 302 [.ptr o 0,.agg (eQ t),.i p] H=ret (.tuple []) (H.set o (.cells st' [.i (max d (Cf t p):Nat)]))
 |.mk k n xs,p,d,st,o,H,ho,h,hp=>by
  simp only[Pa.ok]at h;have g:=lP ho;have c:((H++[cQ o])++[DB.cells 0 (eQ (.mk k n xs))]++[iw p])[H.length]? = some (.cells 0 [.ptr o 0]):=aC _ (aC _ (bt _ _));have l:((H++[cQ o])++[DB.cells 0 (eQ (.mk k n xs))]++[iw p])[(H++[cQ o]).length]? = some (.cells 0 (eQ (.mk k n xs))):=aC _ (bt _ _);have e:((H++[cQ o])++[DB.cells 0 (eQ (.mk k n xs))]++[iw p])[((H++[cQ o])++[DB.cells 0 (eQ (.mk k n xs))]).length]? = some (.cells 0 [.i p]):=bt _ _;have j:((H++[cQ o])++[DB.cells 0 (eQ (.mk k n xs))]++[iw p])[o]? = some (.cells st [.i d]):=aC _ (aC _ (aC _ ho));have m:(H++[cQ o])++[DB.cells 0 (eQ (.mk k n xs))]++[iw p]=H++([cQ o]++[DB.cells 0 (eQ (.mk k n xs))]++[iw p]):=by simp only[aix]
  have n1:(H++[cQ o]).length≠o:=by simp;omega
  have n2:H.length≠o:=by omega
  have n3:((H++[cQ o])++[DB.cells 0 (eQ (.mk k n xs))]).length≠o:=by simp;omega
  have hb:aW bY 330=true:=by kernel_rfl
  have nd:=Kj (p:=p) 330 [.ptr (H++[cQ o]).length 0,.ptr H.length 0,.ptr ((H++[cQ o])++[DB.cells 0 (eQ (.mk k n xs))]).length 0] hb j;generalize q:(H++[cQ o])++[DB.cells 0 (eQ (.mk k n xs))]++[iw p]=G at c l e j m nd;have a:∃ st',am 299 [.ptr o 0,.i p,.func 330 [] [.ptr (H++[cQ o]).length 0,.ptr H.length 0,.ptr ((H++[cQ o])++[DB.cells 0 (eQ (.mk k n xs))]).length 0]] G=ret (.tuple []) (G.set o (.cells st' [.i (max d (Cf (.mk k n xs) p):Nat)])):=by
   cases f:decide (p<=100)with
   |false =>
    have b:¬ p<=100:=by simpa using f
    refine⟨st+1,?_⟩;rw[nd,f,TD,Cf,show decide (p>100)=true by simp;omega,ge]
   |true =>
    have b:p<=100:=by simpa using f
    obtain⟨st',hl⟩:=IL xs p b o H.length ((H++[cQ o])++[DB.cells 0 (eQ (.mk k n xs))]).length 0 0 h.1 n2 n3 [] xs (st+1) (max d p) (G.set o (.cells (st+1) [.i (max d p:Nat)])) (bJ _ j) (ak _ n2.symm c) (ak _ n3.symm e) rfl h.2;refine⟨st',?_⟩;have hc:am 330 [.ptr (H++[cQ o]).length 0,.ptr H.length 0,.ptr ((H++[cQ o])++[DB.cells 0 (eQ (.mk k n xs))]).length 0] (G.set o (.cells (st+1) [.i (max d p:Nat)]))=ret (.tuple []) (G.set o (.cells st' [.i (max d (Cf (.mk k n xs) p):Nat)])):=by refine ev (agf _ _ _ _ _) ?_;rw[ae (ak _ n1.symm l)];simp only[eQ,ao,ax,dR XC,ci];refine ake hl ?_;rw[aiQ,Cf,show decide (p>100)=false by simp;omega,TD,ajk]
    rw[nd,f,ge,ai hc]
  obtain⟨st',r⟩:=a;refine⟨st',ev (by simp only[eQ];exact agw _ _ _ _ _ _ _) ?_⟩;simp only[eQ]at q c e r ⊢;show aX H (az ((H++[cQ o])++[DB.cells 0 [.i k,.str n,.row 3 (cr xs)]]++[iw p]) H.length _)=_;rw[q,ae c];simp only[ao];rw[ae e];simp only[ao];rw[ai r];rw[m];exact lE g (by simp[DB.bel,dF,D.bel])
def IL(xs:List Pa)(p:Nat)(hp:p<=100)(o a b s1 s2:Nat)(hl:xs.length<2^62)(n1:a≠o)(n2:b≠o):∀(pre suf:List Pa) (st d:Nat) (H:DH),H[o]? = some (.cells st [.i d])->H[a]? = some (.cells s1 [.ptr o 0])->H[b]? = some (.cells s2 [.i p])->xs=pre++suf->Pa.oks suf ->
 ∃ st',ac av 330 200001 [.g (.ptr a 0),.g (.ptr b 0),.g (.row 3 (cr xs)),.n xs.length,.n pre.length] [] H=ret (.tuple []) (H.set o (.cells st' [.i (max d (jo suf (p+1)):Nat)]))
 |pre,[],st,d,H,ho,c,f,e,_=>by
  have l:xs.length=pre.length:=by rw[e];simp
  refine⟨st,aZ (vM _ _ _ _ _ _ _) ?_⟩;simp only[l,aio,aip,TD,jo,ajy,qa ho]
 |pre,t::suf,st,d,H,ho,c,f,e,h=>by
  simp only[Pa.oks]at h;have hi:pre.length<xs.length:=by rw[e];simp
  have m:decide ((pre.length:Int)<(xs.length:Int))=true:=by simp;exact hi
  have k:(cr xs)[pre.length]? = some (eQ t):=by rw[e];exact iE _ _ _
  obtain⟨ib,hc⟩:=NB t (p+1) d st o H ho h.1 (by omega);obtain⟨st',ih⟩:=IL xs p hp o a b s1 s2 hl n1 n2 (pre++[t]) suf ib (max d (Cf t (p+1))) (H.set o (.cells ib [.i (max d (Cf t (p+1)):Nat)])) (bJ _ ho) (ak _ n1.symm c) (ak _ n2.symm f) (by rw[e];simp) h.2;refine⟨st',aZ (vM _ _ _ _ _ _ _) ?_⟩;have j:jo (t::suf) (p+1)=max (Cf t (p+1)) (jo suf (p+1)):=by rw[jo]
  rw[j,<- ajk];generalize Cf t (p+1)=q at hc ih ⊢;obtain⟨tk,tn,tas⟩:=t;simp only[eQ]at k hc;simp only[aae,aaQ,aiQ]at ih;simp only[m,ge,jw XC UJ k,MV,Gt,Ve,ae c,ae f,ao,ax,bH,aA (show p<2^62 by omega),ai hc,aA (show pre.length<2^62 by omega)];exact ih
end
def Ui:Tryz.prog.underlying 83=some (.slice 86):=by kernel_rfl
def s86:size ab 86=some 6:=by kernel_rfl
def Sd(a b c d e f:D)(H:DH){κ:D->au}:cH ab 86 (.eptr [a,b,c,d,e,f] 0) H κ=κ (.agg [a,b,c,d,e,f]):=by kernel_rfl
def TB(a b c d e f:D)(κ:List D->au):aj 6 (.agg [a,b,c,d,e,f]) κ=κ [a,b,c,d,e,f]:=rfl
def acs(a b c d e f x y z u v w:D)(κ:List D->au):aE [a,b,c,d,e,f] 0 [x,y,z,u,v,w] κ=κ [x,y,z,u,v,w]:=rfl
def Ei(xs:List Pa)(p:Nat)(hp:p<=100)(o a b s1 s2:Nat)(hl:xs.length<2^62)(n1:a≠o)(n2:b≠o):∀(pre suf:List Pa) (st d:Nat) (H:DH),H[o]? = some (.cells st [.i (d:Nat)])->H[a]? = some (.cells s1 [.ptr o 0])->H[b]? = some (.cells s2 [.i p])->xs=pre++suf->Pa.oks suf ->
 ∃ st',ac av 301 200006 [.g (.ptr a 0),.g (.ptr b 0),.g (.row 3 (cr xs)),.n xs.length,.n pre.length] [] H=ret (.tuple []) (H.set o (.cells st' [.i (max d (jo suf (p+1)):Nat)]))
 |pre,[],st,d,H,ho,c,f,e,_=>by
  have l:xs.length=pre.length:=by rw[e];simp
  refine⟨st,aZ (vS _ _ _ _ _ _ _) ?_⟩;simp only[l,aio,aip,TD,jo,ajy,qa ho]
 |pre,t::suf,st,d,H,ho,c,f,e,h=>by
  simp only[Pa.oks]at h;have hi:pre.length<xs.length:=by rw[e];simp
  have m:decide ((pre.length:Int)<(xs.length:Int))=true:=by simp;exact hi
  have k:(cr xs)[pre.length]? = some (eQ t):=by rw[e];exact iE _ _ _
  obtain⟨ib,hc⟩:=NB t (p+1) d st o H ho h.1 (by omega);obtain⟨st',ih⟩:=Ei xs p hp o a b s1 s2 hl n1 n2 (pre++[t]) suf ib (max d (Cf t (p+1))) (H.set o (.cells ib [.i (max d (Cf t (p+1)):Nat)])) (bJ _ ho) (ak _ n1.symm c) (ak _ n2.symm f) (by rw[e];simp) h.2;refine⟨st',aZ (vS _ _ _ _ _ _ _) ?_⟩;have j:jo (t::suf) (p+1)=max (Cf t (p+1)) (jo suf (p+1)):=by rw[jo]
  rw[j,<- ajk];generalize Cf t (p+1)=q at hc ih ⊢;obtain⟨tk,tn,tas⟩:=t;simp only[eQ]at k hc;simp only[aae,aaQ,aiQ]at ih;simp only[m,ge,jw XC UJ k,MV,Gt,Ve,ae c,ae f,ao,ax,bH,aA (show p<2^62 by omega),ai hc,aA (show pre.length<2^62 by omega)];exact ih
mutual
def Gk:∀(t:Ex) (p d st o:Nat) (H:DH),H[o]? = some (.cells st [.i (d:Nat)])->t.ok->p<=101 ->
 ∃ st',am 244 [.ptr o 0,.agg (cP t),.i p] H=ret (.tuple []) (H.set o (.cells st' [.i (max d (CI t p):Nat)]))
 |.mk k m n b xs ps,p,d,st,o,H,ho,h,hp=>by
  simp only[Ex.ok]at h;have j:=lP ho;have e:((H++[cQ o])++[DB.cells 0 (cP (.mk k m n b xs ps))]++[iw p])[H.length]? = some (.cells 0 [.ptr o 0]):=aC _ (aC _ (bt _ _));have l:((H++[cQ o])++[DB.cells 0 (cP (.mk k m n b xs ps))]++[iw p])[(H++[cQ o]).length]? = some (.cells 0 (cP (.mk k m n b xs ps))):=aC _ (bt _ _);have f:((H++[cQ o])++[DB.cells 0 (cP (.mk k m n b xs ps))]++[iw p])[((H++[cQ o])++[DB.cells 0 (cP (.mk k m n b xs ps))]).length]? = some (.cells 0 [.i p]):=bt _ _;have q:((H++[cQ o])++[DB.cells 0 (cP (.mk k m n b xs ps))]++[iw p])[o]? = some (.cells st [.i (d:Nat)]):=aC _ (aC _ (aC _ ho));have r:(H++[cQ o])++[DB.cells 0 (cP (.mk k m n b xs ps))]++[iw p]=H++([cQ o]++[DB.cells 0 (cP (.mk k m n b xs ps))]++[iw p]):=by simp only[aix]
  have n1:(H++[cQ o]).length≠o:=by simp;omega
  have n2:H.length≠o:=by omega
  have n3:((H++[cQ o])++[DB.cells 0 (cP (.mk k m n b xs ps))]).length≠o:=by simp;omega
  have hb:aW bY 301=true:=by kernel_rfl
  have nd:=Kj (p:=p) 301 [.ptr (H++[cQ o]).length 0,.ptr H.length 0,.ptr ((H++[cQ o])++[DB.cells 0 (cP (.mk k m n b xs ps))]).length 0] hb q;generalize s:(H++[cQ o])++[DB.cells 0 (cP (.mk k m n b xs ps))]++[iw p]=G at e l f q r nd;have c:∃ st',am 299 [.ptr o 0,.i p,.func 301 [] [.ptr (H++[cQ o]).length 0,.ptr H.length 0,.ptr ((H++[cQ o])++[DB.cells 0 (cP (.mk k m n b xs ps))]).length 0]] G=ret (.tuple []) (G.set o (.cells st' [.i (max d (CI (.mk k m n b xs ps) p):Nat)])):=by
   cases g:decide (p<=100)with
   |false =>
    have a:¬ p<=100:=by simpa using g
    refine⟨st+1,?_⟩;rw[nd,g,TD,CI,show decide (p>100)=true by simp;omega,ge]
   |true =>
    have a:p<=100:=by simpa using g
    obtain⟨st',hl⟩:=IN k m n b xs ps 0 xs p a o (H++[cQ o]).length H.length ((H++[cQ o])++[DB.cells 0 (cP (.mk k m n b xs ps))]).length 0 0 _ (fun st d H v w x _=>Ei ps p a o _ _ 0 0 h.2.2.1 n2 n3 [] ps st d H v w x rfl h.2.2.2) h.1 n2 n3 n1 [] xs (st+1) (max d p) (G.set o (.cells (st+1) [.i (max d p:Nat)])) (bJ _ q) (ak _ n2.symm e) (ak _ n3.symm f) (ak _ n1.symm l) rfl h.2.1;refine⟨st',?_⟩;have hc:am 301 [.ptr (H++[cQ o]).length 0,.ptr H.length 0,.ptr ((H++[cQ o])++[DB.cells 0 (cP (.mk k m n b xs ps))]).length 0] (G.set o (.cells (st+1) [.i (max d p:Nat)]))=ret (.tuple []) (G.set o (.cells st' [.i (max d (CI (.mk k m n b xs ps) p):Nat)])):=by refine ev (agx _ _ _ _ _) ?_;rw[ae (ak _ n1.symm l)];simp only[cP,ao,ax,dR Ui,bQ];refine ake hl ?_;rw[aiQ,CI,show decide (p>100)=false by simp;omega,TD,show max (max (max d p) (hC xs (p+1))) (jo ps (p+1))=max d (max (max p (jo ps (p+1))) (hC xs (p+1)))by omega]
    rw[nd,g,ge,ai hc]
  obtain⟨st',u⟩:=c;refine⟨st',ev (by simp only[cP];exact f244 _ _ _ _ _ _ _ _ _ _) ?_⟩;simp only[cP]at s e f u ⊢;show aX H (az ((H++[cQ o])++[DB.cells 0 [.i k,.i m,.str n,.str b,.row 6 (cm xs),.row 3 (cr ps)]]++[iw p]) H.length _)=_;rw[s,ae e];simp only[ao];rw[ae f];simp only[ao];rw[ai u];rw[r];exact lE j (by simp[DB.bel,dF,D.bel])
def IN(zk zm:Int)(zn za:af)(zx:List Ex)(zp:List Pa)(s0:Nat)(xs:List Ex)(p:Nat)(hp:p<=100)(o c a b s1 s2:Nat)(X:Nat)(l:∀(st d:Nat) (H:DH),H[o]? = some (.cells st [.i (d:Nat)])->H[a]? = some (.cells s1 [.ptr o 0])->H[b]? = some (.cells s2 [.i p])->H[c]? = some (.cells s0 (cP (.mk zk zm zn za zx zp)))->∃ st',ac av 301 200006 [.g (.ptr a 0),.g (.ptr b 0),.g (.row 3 (cr zp)),.n zp.length,.n 0] [] H=ret (.tuple []) (H.set o (.cells st' [.i (max d X:Nat)])))(hl:xs.length<2^62)(n1:a≠o)(n2:b≠o)(n0:c≠o):∀(pre suf:List Ex) (st d:Nat) (H:DH),H[o]? = some (.cells st [.i (d:Nat)])->H[a]? = some (.cells s1 [.ptr o 0])->H[b]? = some (.cells s2 [.i p])->H[c]? = some (.cells s0 (cP (.mk zk zm zn za zx zp)))->xs=pre++suf->Ex.oks suf ->
 ∃ st',ac av 301 200001 [.g (.ptr c 0),.g (.ptr a 0),.g (.ptr b 0),.g (.row 6 (cm xs)),.n xs.length,.n pre.length] [] H=ret (.tuple []) (H.set o (.cells st' [.i (max (max d (hC suf (p+1))) X:Nat)]))
 |pre,[],st,d,H,ho,f,j,h0,e,_=>by
  have r:xs.length=pre.length:=by rw[e];simp
  obtain⟨st',s⟩:=l st d H ho f j h0;refine⟨st',aZ (vT _ _ _ _ _ _ _ _) ?_⟩;simp only[cP]at h0;simp only[r,aio,aip,TD,hC,ajy,ae h0,ao,ax,dR XC,ci,s]
 |pre,t::suf,st,d,H,ho,f,j,h0,e,h=>by
  simp only[Ex.oks]at h;have hi:pre.length<xs.length:=by rw[e];simp
  have u:decide ((pre.length:Int)<(xs.length:Int))=true:=by simp;exact hi
  have m:(cm xs)[pre.length]? = some (cP t):=by rw[e];exact iH _ _ _
  obtain⟨ib,hc⟩:=Gk t (p+1) d st o H ho h.1 (by omega);obtain⟨st',ih⟩:=IN zk zm zn za zx zp s0 xs p hp o c a b s1 s2 X l hl n1 n2 n0 (pre++[t]) suf ib (max d (CI t (p+1))) (H.set o (.cells ib [.i (max d (CI t (p+1)):Nat)])) (bJ _ ho) (ak _ n1.symm f) (ak _ n2.symm j) (ak _ n0.symm h0) (by rw[e];simp) h.2;refine⟨st',aZ (vT _ _ _ _ _ _ _ _) ?_⟩;have k:hC (t::suf) (p+1)=max (CI t (p+1)) (hC suf (p+1)):=by rw[hC]
  rw[k,<- ajk d];generalize CI t (p+1)=q at hc ih ⊢;obtain⟨tk,tm,tn,ta,tas,tps⟩:=t;simp only[cP]at m hc;simp only[aae,aaQ,aiQ]at ih;simp only[u,ge,jw Ui s86 m,Sd,TB,acs,ae f,ae j,ao,ax,bH,aA (show p<2^62 by omega),ai hc,aA (show pre.length<2^62 by omega)];exact ih
end
def DL(a:Nat):decide ((a:Int)>2000)=decide (a>2000):=by rw[aiz];simp;omega
def DK(a:Nat):decide ((a:Int)<=2000)=decide (a<=2000):=by rw[aiz];simp;omega
mutual
def Ak:Ty->Nat->Nat
 |.mk _ xs,p=>bif decide (p>100)then 0 else 1+cW xs (p+1)
def cW:List Ty->Nat->Nat
 |[],_=>0
 |t::r,q=>Ak t q+cW r q
end
mutual
def Cd:Pa->Nat->Nat
 |.mk _ _ xs,p=>bif decide (p>100)then 0 else 1+fp xs (p+1)
def fp:List Pa->Nat->Nat
 |[],_=>0
 |t::r,q=>Cd t q+fp r q
end
mutual
def xI:Ex->Nat->Nat
 |.mk _ _ _ _ xs ps,p=>bif decide (p>100)then 0 else 1+(fp ps (p+1)+eE xs (p+1))
def eE:List Ex->Nat->Nat
 |[],_=>0
 |t::r,q=>xI t q+eE r q
end
mutual
def Qy:∀(t:Ty) (p c:Nat) (H:DH),t.ok->p<=101->c<=2001->am 123 [.agg (dJ t),.i p,.i c] H=ret (.i (min (c+Ak t p) 2001:Nat)) H
 |.mk n xs,p,c,H,h,hp,hc=>by
  simp only[Ty.ok]at h;refine ev (by simp only[dJ];exact ahL _ _ _ _ _ _) ?_;rw[FH,DL,Ak];cases e:decide (p>100)with
  |true=>rw[ge,ge,show min (c+0) 2001=c by omega]
  |false =>
   have b:p<=100:=by simp at e;omega
   rw[TD,TD];cases a:decide (c>2000)with
   |true =>
    have d:c>2000:=by simpa using a
    rw[ge,show min (c+(1+cW xs (p+1))) 2001=c by omega]
   |false =>
    have d:¬ c>2000:=by simpa using a
    rw[TD,aA (show c<2^62 by omega)];refine(LY n xs p b H h.1 [] xs (c+1) rfl h.2 (by omega)).trans ?_;rw[show min (c+(1+cW xs (p+1))) 2001=min (c+1+cW xs (p+1)) 2001 by omega]
def LY(n:af)(xs:List Ty)(p:Nat)(hp:p<=100)(H:DH)(hl:xs.length<2^62):∀ pre suf (c:Nat),xs=pre++suf->Ty.oks suf->c<=2001 ->
 ac av 123 200005 [.n p,.n c,.lp 0 0,.n pre.length] [(0,[.str n,.row 2 (cp xs)])] H=ret (.i (min (c+cW suf (p+1)) 2001:Nat)) H
 |pre,[],c,e,_,hc=>by
  have g:xs.length=pre.length:=by rw[e];simp
  refine aZ (wG _ _ _ _ _ _ _) ?_;simp only[bP,g,aio,aip,TD,cW,show min (c+0) 2001=c by omega]
 |pre,t::suf,c,e,h,hc=>by
  simp only[Ty.oks]at h;refine aZ (wG _ _ _ _ _ _ _) ?_;have hi:pre.length<xs.length:=by rw[e];simp
  have j:decide ((pre.length:Int)<((cp xs).length:Int))=true:=by rw[bP];simp;exact hi
  have f:(cp xs)[pre.length]? = some (dJ t):=by rw[e];exact gG _ _ _
  have a:=Qy t (p+1) c H h.1 (by omega) hc;have ih:=LY n xs p hp H hl (pre++[t]) suf (min (c+Ak t (p+1)) 2001) (by rw[e];simp) h.2 (by omega);have b:cW (t::suf) (p+1)=Ak t (p+1)+cW suf (p+1):=by rw[cW]
  rw[b];generalize Ak t (p+1)=q at a ih ⊢;generalize cW suf (p+1)=r at ih ⊢;obtain⟨tn,tas⟩:=t;simp only[dJ]at a f;simp only[aae,aaQ]at ih;rw[j,ge,DK];cases d:decide (c<=2000)with
  |false =>
   have hc2:¬ c<=2000:=by simpa using d
   rw[TD,show min (c+(q+r)) 2001=c by omega]
  |true =>simp only[ge,aO,aB f,ao,ax,aA (show p<2^62 by omega),ai a,aA (show pre.length<2^62 by omega),ih];rw[show min (min (c+q) 2001+r) 2001=min (c+(q+r)) 2001 by omega]
end
mutual
def Qz:∀(t:Pa) (p c:Nat) (H:DH),t.ok->p<=101->c<=2001->am 194 [.agg (eQ t),.i p,.i (c:Nat)] H=ret (.i (min (c+Cd t p) 2001:Nat)) H
 |.mk k n xs,p,c,H,h,hp,hc=>by
  simp only[Pa.ok]at h;refine ev (by simp only[eQ];exact ahg _ _ _ _ _ _ _) ?_;rw[FH,DL,Cd];cases e:decide (p>100)with
  |true=>rw[ge,ge,show min (c+0) 2001=c by omega]
  |false =>
   have b:p<=100:=by simp at e;omega
   rw[TD,TD];cases a:decide (c>2000)with
   |true =>
    have d:c>2000:=by simpa using a
    rw[ge,show min (c+(1+fp xs (p+1))) 2001=c by omega]
   |false =>
    have d:¬ c>2000:=by simpa using a
    rw[TD,aA (show c<2^62 by omega)];refine(LZ k n xs p b H h.1 [] xs (c+1) rfl h.2 (by omega)).trans ?_;rw[show min (c+(1+fp xs (p+1))) 2001=min (c+1+fp xs (p+1)) 2001 by omega]
def LZ(k:Int)(n:af)(xs:List Pa)(p:Nat)(hp:p<=100)(H:DH)(hl:xs.length<2^62):∀ pre suf (c:Nat),xs=pre++suf->Pa.oks suf->c<=2001 ->
 ac av 194 200005 [.n p,.n (c:Nat),.lp 0 0,.n pre.length] [(0,[.i k,.str n,.row 3 (cr xs)])] H=ret (.i (min (c+fp suf (p+1)) 2001:Nat)) H
 |pre,[],c,e,_,hc=>by
  have g:xs.length=pre.length:=by rw[e];simp
  refine aZ (wg _ _ _ _ _ _ _ _) ?_;simp only[ci,g,aio,aip,TD,fp,show min (c+0) 2001=c by omega]
 |pre,t::suf,c,e,h,hc=>by
  simp only[Pa.oks]at h;refine aZ (wg _ _ _ _ _ _ _ _) ?_;have hi:pre.length<xs.length:=by rw[e];simp
  have j:decide ((pre.length:Int)<((cr xs).length:Int))=true:=by rw[ci];simp;exact hi
  have f:(cr xs)[pre.length]? = some (eQ t):=by rw[e];exact iE _ _ _
  have a:=Qz t (p+1) c H h.1 (by omega) hc;have ih:=LZ k n xs p hp H hl (pre++[t]) suf (min (c+Cd t (p+1)) 2001) (by rw[e];simp) h.2 (by omega);have b:fp (t::suf) (p+1)=Cd t (p+1)+fp suf (p+1):=by rw[fp]
  rw[b];generalize Cd t (p+1)=q at a ih ⊢;generalize fp suf (p+1)=r at ih ⊢;obtain⟨tk,tn,tas⟩:=t;simp only[eQ]at a f;simp only[aae,aaQ]at ih;rw[j,ge,DK];cases d:decide (c<=2000)with
  |false =>
   have hc2:¬ c<=2000:=by simpa using d
   rw[TD,show min (c+(q+r)) 2001=c by omega]
  |true =>simp only[ge,aO,aB f,ao,ax,aA (show p<2^62 by omega),ai a,aA (show pre.length<2^62 by omega),ih];rw[show min (min (c+q) 2001+r) 2001=min (c+(q+r)) 2001 by omega]
end
def Mb(k m:Int)(n b:af)(XX:List Ex)(ps:List Pa)(p:Nat)(hp:p<=100)(H:DH)(hl:ps.length<2^62)(X:Nat)(a:∀ c:Nat,c<=2001->ac av 124 200009 [.n p,.n (c:Nat),.lp 0 0,.n 0] [(0,[.i k,.i m,.str n,.str b,.row 6 (cm XX),.row 3 (cr ps)])] H=ret (.i (min (c+X) 2001:Nat)) H):∀ pre suf (c:Nat),ps=pre++suf->Pa.oks suf->c<=2001 ->
 ac av 124 200005 [.n p,.n (c:Nat),.lp 0 0,.n pre.length] [(0,[.i k,.i m,.str n,.str b,.row 6 (cm XX),.row 3 (cr ps)])] H=ret (.i (min (c+(fp suf (p+1)+X)) 2001:Nat)) H
 |pre,[],c,e,_,hc=>by
  have l:ps.length=pre.length:=by rw[e];simp
  refine aZ (wF _ _ _ _ _ _ _ _ _ _ _) ?_;simp only[ci,l,aio,aip,TD,fp,aiv,a c hc]
 |pre,t::suf,c,e,h,hc=>by
  simp only[Pa.oks]at h;refine aZ (wF _ _ _ _ _ _ _ _ _ _ _) ?_;have hi:pre.length<ps.length:=by rw[e];simp
  have o:decide ((pre.length:Int)<((cr ps).length:Int))=true:=by rw[ci];simp;exact hi
  have j:(cr ps)[pre.length]? = some (eQ t):=by rw[e];exact iE _ _ _
  have d:=Qz t (p+1) c H h.1 (by omega) hc;have ih:=Mb k m n b XX ps p hp H hl X a (pre++[t]) suf (min (c+Cd t (p+1)) 2001) (by rw[e];simp) h.2 (by omega);have f:fp (t::suf) (p+1)=Cd t (p+1)+fp suf (p+1):=by rw[fp]
  rw[f];generalize Cd t (p+1)=q at d ih ⊢;generalize fp suf (p+1)=r at ih ⊢;obtain⟨tk,tn,tas⟩:=t;simp only[eQ]at d j;simp only[aae,aaQ]at ih;rw[o,ge,DK];cases g:decide (c<=2000)with
  |false =>
   have hc2:¬ c<=2000:=by simpa using g
   rw[TD,a c hc,show min (c+X) 2001=c by omega,show min (c+(q+r+X)) 2001=c by omega]
  |true =>simp only[ge,aO,aB j,ao,ax,aA (show p<2^62 by omega),ai d,aA (show pre.length<2^62 by omega),ih];rw[show min (min (c+q) 2001+(r+X)) 2001=min (c+(q+r+X)) 2001 by omega]
mutual
def QA:∀(t:Ex) (p c:Nat) (H:DH),t.ok->p<=101->c<=2001->am 124 [.agg (cP t),.i p,.i (c:Nat)] H=ret (.i (min (c+xI t p) 2001:Nat)) H
 |.mk k m n b xs ps,p,c,H,h,hp,hc=>by
  simp only[Ex.ok]at h;refine ev (by simp only[cP];exact ahK _ _ _ _ _ _ _ _ _ _) ?_;rw[FH,DL,xI];cases f:decide (p>100)with
  |true=>rw[ge,ge,show min (c+0) 2001=c by omega]
  |false =>
   have a:p<=100:=by simp at f;omega
   rw[TD,TD];cases d:decide (c>2000)with
   |true =>
    have e:c>2000:=by simpa using d
    rw[ge,show min (c+(1+(fp ps (p+1)+eE xs (p+1)))) 2001=c by omega]
   |false =>
    have e:¬ c>2000:=by simpa using d
    rw[TD,aA (show c<2^62 by omega)];refine(Mb k m n b xs ps p a H h.2.2.1 _ (fun c hc=>Ma k m n b xs ps p a H h.1 [] xs c rfl h.2.1 hc) [] ps (c+1) rfl h.2.2.2 (by omega)).trans ?_;rw[show min (c+(1+(fp ps (p+1)+eE xs (p+1)))) 2001=min (c+1+(fp ps (p+1)+eE xs (p+1))) 2001 by omega]
def Ma(k m:Int)(n b:af)(xs:List Ex)(ps:List Pa)(p:Nat)(hp:p<=100)(H:DH)(hl:xs.length<2^62):∀ pre suf (c:Nat),xs=pre++suf->Ex.oks suf->c<=2001 ->
 ac av 124 200009 [.n p,.n (c:Nat),.lp 0 0,.n pre.length] [(0,[.i k,.i m,.str n,.str b,.row 6 (cm xs),.row 3 (cr ps)])] H=ret (.i (min (c+eE suf (p+1)) 2001:Nat)) H
 |pre,[],c,e,_,hc=>by
  have j:xs.length=pre.length:=by rw[e];simp
  refine aZ (wD _ _ _ _ _ _ _ _ _ _ _) ?_;simp only[bQ,j,aio,aip,TD,eE,show min (c+0) 2001=c by omega]
 |pre,t::suf,c,e,h,hc=>by
  simp only[Ex.oks]at h;refine aZ (wD _ _ _ _ _ _ _ _ _ _ _) ?_;have hi:pre.length<xs.length:=by rw[e];simp
  have l:decide ((pre.length:Int)<((cm xs).length:Int))=true:=by rw[bQ];simp;exact hi
  have g:(cm xs)[pre.length]? = some (cP t):=by rw[e];exact iH _ _ _
  have a:=QA t (p+1) c H h.1 (by omega) hc;have ih:=Ma k m n b xs ps p hp H hl (pre++[t]) suf (min (c+xI t (p+1)) 2001) (by rw[e];simp) h.2 (by omega);have d:eE (t::suf) (p+1)=xI t (p+1)+eE suf (p+1):=by rw[eE]
  rw[d];generalize xI t (p+1)=q at a ih ⊢;generalize eE suf (p+1)=r at ih ⊢;obtain⟨tk,tm,tn,tb,tas,tps⟩:=t;simp only[cP]at a g;simp only[aae,aaQ]at ih;rw[l,ge,DK];cases f:decide (c<=2000)with
  |false =>
   have hc2:¬ c<=2000:=by simpa using f
   rw[TD,show min (c+(q+r)) 2001=c by omega]
  |true =>simp only[ge,aO,aB g,ao,ax,aA (show p<2^62 by omega),ai a,aA (show pre.length<2^62 by omega),ih];rw[show min (min (c+q) 2001+r) 2001=min (c+(q+r)) 2001 by omega]
end
def Ki{H:DH}{o st c d p:Nat}(g:FuncId)(cap:List D)(hb:aW bY g=true)(ho:H[o]? = some (.cells st [.i c,.i d]))(hc:c<=2001) :
 am 303 [.ptr o 0,.i p,.func g [] cap] H=bif decide (p>100)||decide (c>2000)then ret (.tuple []) (H.set o (.cells (st+1) [.i c,.i (max d p:Nat)]))else C av g cap (H.set o (.cells (st+1+1) [.i (c+1:Nat),.i (max d p:Nat)])) (fun _ H=>ret (.tuple []) H):=by
 refine ev (agv _ _ _ _ _) ?_;have a:(H.set o (.cells (st+1) [.i c,.i (max d p:Nat)]))[o]? = some (.cells (st+1) [.i c,.i (max d p:Nat)]):=bJ _ ho;have ow (x:D) (κ:List D->au):aE [.i c,.i d] 1 [x] κ=κ [.i c,x]:=rfl;have ow2 (x:D) (κ:List D->au):aE [.i c,.i (max d p:Nat)] 0 [x] κ=κ [x,.i (max d p:Nat)]:=rfl;have c1 (k:Int) (κ:List D->au):aj 1 (.i k) κ=κ [.i k]:=rfl;simp only[ae ho,ao,ax,vz,oJ,vB,c1,ow,FH,ae a,ef,DL,aq,bH,ow2,aiQ,eG hb,air,aA (show c<2^62 by omega)];cases decide (p>100)<;>cases decide (c>2000)<;>rfl
mutual
def JF:∀(t:Ty) (p c d st o:Nat) (H:DH),H[o]? = some (.cells st [.i c,.i d])->t.ok->p<=101->c<=2001 ->
 ∃ st' a,am 245 [.ptr o 0,.agg (dJ t),.i p] H=ret (.tuple []) (H.set o (.cells st' [.i (min (c+Ak t p) 2001:Nat),.i (a:Nat)]))
 |.mk n xs,p,c,d,st,o,H,ho,h,hp,hc=>by
  simp only[Ty.ok]at h;have l:=lP ho;have j:((H++[cQ o])++[DB.cells 0 (dJ (.mk n xs))]++[iw p])[H.length]? = some (.cells 0 [.ptr o 0]):=aC _ (aC _ (bt _ _));have s:((H++[cQ o])++[DB.cells 0 (dJ (.mk n xs))]++[iw p])[(H++[cQ o]).length]? = some (.cells 0 (dJ (.mk n xs))):=aC _ (bt _ _);have k:((H++[cQ o])++[DB.cells 0 (dJ (.mk n xs))]++[iw p])[((H++[cQ o])++[DB.cells 0 (dJ (.mk n xs))]).length]? = some (.cells 0 [.i p]):=bt _ _;have m:((H++[cQ o])++[DB.cells 0 (dJ (.mk n xs))]++[iw p])[o]? = some (.cells st [.i c,.i d]):=aC _ (aC _ (aC _ ho));have u:(H++[cQ o])++[DB.cells 0 (dJ (.mk n xs))]++[iw p]=H++([cQ o]++[DB.cells 0 (dJ (.mk n xs))]++[iw p]):=by simp only[aix]
  have n1:(H++[cQ o]).length≠o:=by simp;omega
  have n2:H.length≠o:=by omega
  have n3:((H++[cQ o])++[DB.cells 0 (dJ (.mk n xs))]).length≠o:=by simp;omega
  have hb:aW bY 304=true:=by kernel_rfl
  have nd:=Ki (p:=p) 304 [.ptr (H++[cQ o]).length 0,.ptr H.length 0,.ptr ((H++[cQ o])++[DB.cells 0 (dJ (.mk n xs))]).length 0] hb m hc;generalize v:(H++[cQ o])++[DB.cells 0 (dJ (.mk n xs))]++[iw p]=G at j s k m u nd;have e:∃ st' a,am 303 [.ptr o 0,.i p,.func 304 [] [.ptr (H++[cQ o]).length 0,.ptr H.length 0,.ptr ((H++[cQ o])++[DB.cells 0 (dJ (.mk n xs))]).length 0]] G=ret (.tuple []) (G.set o (.cells st' [.i (min (c+Ak (.mk n xs) p) 2001:Nat),.i (a:Nat)])):=by
   cases f:decide (p>100)||decide (c>2000)with
   |true =>
    refine⟨st+1,max d p,?_⟩;rw[nd,f,ge,Ak];cases b:decide (p>100)with
    |true=>rw[ge,show min (c+0) 2001=c by omega]
    |false =>
     rw[b,ajf]at f;have q:c>2000:=by simpa using f
     rw[TD,show min (c+(1+cW xs (p+1))) 2001=c by omega]
   |false =>
    obtain⟨g,b⟩:=ajC.mp f;have r:p<=100:=by
     have:¬ p>100:=by simpa using g
     omega
    have q:¬ c>2000:=by simpa using b
    obtain⟨st',a,hl⟩:=LF xs p r o H.length ((H++[cQ o])++[DB.cells 0 (dJ (.mk n xs))]).length 0 0 h.1 n2 n3 [] xs (st+1+1) (c+1) (max d p) (G.set o (.cells (st+1+1) [.i (c+1:Nat),.i (max d p:Nat)])) (bJ _ m) (ak _ n2.symm j) (ak _ n3.symm k) rfl h.2 (by omega);refine⟨st',a,?_⟩;have hc:am 304 [.ptr (H++[cQ o]).length 0,.ptr H.length 0,.ptr ((H++[cQ o])++[DB.cells 0 (dJ (.mk n xs))]).length 0] (G.set o (.cells (st+1+1) [.i (c+1:Nat),.i (max d p:Nat)]))=ret (.tuple []) (G.set o (.cells st' [.i (min (c+Ak (.mk n xs) p) 2001:Nat),.i (a:Nat)])):=by refine ev (agu _ _ _ _ _) ?_;rw[ae (ak _ n1.symm s)];simp only[dJ,ao,ax,dR ll,bP];refine ake hl ?_;rw[aiQ,Ak,g,TD,show min (c+1+cW xs (p+1)) 2001=min (c+(1+cW xs (p+1))) 2001 by omega]
    rw[nd,f,TD,ai hc]
  obtain⟨st',a,w⟩:=e;refine⟨st',a,ev (by simp only[dJ];exact f245 _ _ _ _ _ _) ?_⟩;simp only[dJ]at v j k w ⊢;show aX H (az ((H++[cQ o])++[DB.cells 0 [.str n,.row 2 (cp xs)]]++[iw p]) H.length _)=_;rw[v,ae j];simp only[ao];rw[ae k];simp only[ao];rw[ai w];rw[u];exact lE l (by simp[DB.bel,dF,D.bel])
def LF(xs:List Ty)(p:Nat)(hp:p<=100)(o a b s1 s2:Nat)(hl:xs.length<2^62)(n1:a≠o)(n2:b≠o):∀(pre suf:List Ty) (st c d:Nat) (H:DH),H[o]? = some (.cells st [.i c,.i d])->H[a]? = some (.cells s1 [.ptr o 0])->H[b]? = some (.cells s2 [.i p])->xs=pre++suf->Ty.oks suf->c<=2001 ->
 ∃ st' f,ac av 304 200001 [.g (.ptr a 0),.g (.ptr b 0),.g (.row 2 (cp xs)),.n xs.length,.n pre.length] [] H=ret (.tuple []) (H.set o (.cells st' [.i (min (c+cW suf (p+1)) 2001:Nat),.i (f:Nat)]))
 |pre,[],st,c,d,H,ho,j,k,e,_,hc=>by
  have u:xs.length=pre.length:=by rw[e];simp
  refine⟨st,d,aZ (vR _ _ _ _ _ _ _) ?_⟩;simp only[u,aio,aip,TD,cW,show min (c+0) 2001=c by omega,qa ho]
 |pre,t::suf,st,c,d,H,ho,j,k,e,h,l=>by
  simp only[Ty.oks]at h;have hi:pre.length<xs.length:=by rw[e];simp
  have v:decide ((pre.length:Int)<(xs.length:Int))=true:=by simp;exact hi
  have r:(cp xs)[pre.length]? = some (dJ t):=by rw[e];exact gG _ _ _
  obtain⟨ib,s,hc⟩:=JF t (p+1) c d st o H ho h.1 (by omega) l;obtain⟨st',f,ih⟩:=LF xs p hp o a b s1 s2 hl n1 n2 (pre++[t]) suf ib (min (c+Ak t (p+1)) 2001) s (H.set o (.cells ib [.i (min (c+Ak t (p+1)) 2001:Nat),.i s])) (bJ _ ho) (ak _ n1.symm j) (ak _ n2.symm k) (by rw[e];simp) h.2 (by omega);refine⟨st',f,aZ (vR _ _ _ _ _ _ _) ?_⟩;have m:min (c+cW (t::suf) (p+1)) 2001=min (min (c+Ak t (p+1)) 2001+cW suf (p+1)) 2001:=by rw[cW];omega
  rw[m];generalize Ak t (p+1)=q at hc ih ⊢;obtain⟨tn,tas⟩:=t;simp only[dJ]at r hc;simp only[aae,aaQ,aiQ]at ih;simp only[v,ge,jw ll Hm r,vA,iz,Vf,ae j,ae k,ao,ax,bH,aA (show p<2^62 by omega),ai hc,aA (show pre.length<2^62 by omega)];exact ih
end
mutual
def Qi:∀(t:Pa) (p c d st o:Nat) (H:DH),H[o]? = some (.cells st [.i (c:Nat),.i (d:Nat)])->t.ok->p<=101->c<=2001 ->
 ∃ st' a,am 306 [.ptr o 0,.agg (eQ t),.i p] H=ret (.tuple []) (H.set o (.cells st' [.i (min (c+Cd t p) 2001:Nat),.i (a:Nat)]))
 |.mk k n xs,p,c,d,st,o,H,ho,h,hp,hc=>by
  simp only[Pa.ok]at h;have m:=lP ho;have j:((H++[cQ o])++[DB.cells 0 (eQ (.mk k n xs))]++[iw p])[H.length]? = some (.cells 0 [.ptr o 0]):=aC _ (aC _ (bt _ _));have u:((H++[cQ o])++[DB.cells 0 (eQ (.mk k n xs))]++[iw p])[(H++[cQ o]).length]? = some (.cells 0 (eQ (.mk k n xs))):=aC _ (bt _ _);have l:((H++[cQ o])++[DB.cells 0 (eQ (.mk k n xs))]++[iw p])[((H++[cQ o])++[DB.cells 0 (eQ (.mk k n xs))]).length]? = some (.cells 0 [.i p]):=bt _ _;have q:((H++[cQ o])++[DB.cells 0 (eQ (.mk k n xs))]++[iw p])[o]? = some (.cells st [.i (c:Nat),.i (d:Nat)]):=aC _ (aC _ (aC _ ho));have v:(H++[cQ o])++[DB.cells 0 (eQ (.mk k n xs))]++[iw p]=H++([cQ o]++[DB.cells 0 (eQ (.mk k n xs))]++[iw p]):=by simp only[aix]
  have n1:(H++[cQ o]).length≠o:=by simp;omega
  have n2:H.length≠o:=by omega
  have n3:((H++[cQ o])++[DB.cells 0 (eQ (.mk k n xs))]).length≠o:=by simp;omega
  have hb:aW bY 331=true:=by kernel_rfl
  have nd:=Ki (p:=p) 331 [.ptr (H++[cQ o]).length 0,.ptr H.length 0,.ptr ((H++[cQ o])++[DB.cells 0 (eQ (.mk k n xs))]).length 0] hb q hc;generalize w:(H++[cQ o])++[DB.cells 0 (eQ (.mk k n xs))]++[iw p]=G at j u l q v nd;have e:∃ st' a,am 303 [.ptr o 0,.i p,.func 331 [] [.ptr (H++[cQ o]).length 0,.ptr H.length 0,.ptr ((H++[cQ o])++[DB.cells 0 (eQ (.mk k n xs))]).length 0]] G=ret (.tuple []) (G.set o (.cells st' [.i (min (c+Cd (.mk k n xs) p) 2001:Nat),.i (a:Nat)])):=by
   cases f:decide (p>100)||decide (c>2000)with
   |true =>
    refine⟨st+1,max d p,?_⟩;rw[nd,f,ge,Cd];cases b:decide (p>100)with
    |true=>rw[ge,show min (c+0) 2001=c by omega]
    |false =>
     rw[b,ajf]at f;have r:c>2000:=by simpa using f
     rw[TD,show min (c+(1+fp xs (p+1))) 2001=c by omega]
   |false =>
    obtain⟨g,b⟩:=ajC.mp f;have s:p<=100:=by
     have:¬ p>100:=by simpa using g
     omega
    have r:¬ c>2000:=by simpa using b
    obtain⟨st',a,hl⟩:=LG xs p s o H.length ((H++[cQ o])++[DB.cells 0 (eQ (.mk k n xs))]).length 0 0 h.1 n2 n3 [] xs (st+1+1) (c+1) (max d p) (G.set o (.cells (st+1+1) [.i (c+1:Nat),.i (max d p:Nat)])) (bJ _ q) (ak _ n2.symm j) (ak _ n3.symm l) rfl h.2 (by omega);refine⟨st',a,?_⟩;have hc:am 331 [.ptr (H++[cQ o]).length 0,.ptr H.length 0,.ptr ((H++[cQ o])++[DB.cells 0 (eQ (.mk k n xs))]).length 0] (G.set o (.cells (st+1+1) [.i (c+1:Nat),.i (max d p:Nat)]))=ret (.tuple []) (G.set o (.cells st' [.i (min (c+Cd (.mk k n xs) p) 2001:Nat),.i (a:Nat)])):=by refine ev (age _ _ _ _ _) ?_;rw[ae (ak _ n1.symm u)];simp only[eQ,ao,ax,dR XC,ci];refine ake hl ?_;rw[aiQ,Cd,g,TD,show min (c+1+fp xs (p+1)) 2001=min (c+(1+fp xs (p+1))) 2001 by omega]
    rw[nd,f,TD,ai hc]
  obtain⟨st',a,x⟩:=e;refine⟨st',a,ev (by simp only[eQ];exact ags _ _ _ _ _ _ _) ?_⟩;simp only[eQ]at w j l x ⊢;show aX H (az ((H++[cQ o])++[DB.cells 0 [.i k,.str n,.row 3 (cr xs)]]++[iw p]) H.length _)=_;rw[w,ae j];simp only[ao];rw[ae l];simp only[ao];rw[ai x];rw[v];exact lE m (by simp[DB.bel,dF,D.bel])
def LG(xs:List Pa)(p:Nat)(hp:p<=100)(o a b s1 s2:Nat)(hl:xs.length<2^62)(n1:a≠o)(n2:b≠o):∀(pre suf:List Pa) (st c d:Nat) (H:DH),H[o]? = some (.cells st [.i (c:Nat),.i (d:Nat)])->H[a]? = some (.cells s1 [.ptr o 0])->H[b]? = some (.cells s2 [.i p])->xs=pre++suf->Pa.oks suf->c<=2001 ->
 ∃ st' f,ac av 331 200001 [.g (.ptr a 0),.g (.ptr b 0),.g (.row 3 (cr xs)),.n xs.length,.n pre.length] [] H=ret (.tuple []) (H.set o (.cells st' [.i (min (c+fp suf (p+1)) 2001:Nat),.i (f:Nat)]))
 |pre,[],st,c,d,H,ho,j,k,e,_,hc=>by
  have u:xs.length=pre.length:=by rw[e];simp
  refine⟨st,d,aZ (vL _ _ _ _ _ _ _) ?_⟩;simp only[u,aio,aip,TD,fp,show min (c+0) 2001=c by omega,qa ho]
 |pre,t::suf,st,c,d,H,ho,j,k,e,h,l=>by
  simp only[Pa.oks]at h;have hi:pre.length<xs.length:=by rw[e];simp
  have v:decide ((pre.length:Int)<(xs.length:Int))=true:=by simp;exact hi
  have r:(cr xs)[pre.length]? = some (eQ t):=by rw[e];exact iE _ _ _
  obtain⟨ib,s,hc⟩:=Qi t (p+1) c d st o H ho h.1 (by omega) l;obtain⟨st',f,ih⟩:=LG xs p hp o a b s1 s2 hl n1 n2 (pre++[t]) suf ib (min (c+Cd t (p+1)) 2001) s (H.set o (.cells ib [.i (min (c+Cd t (p+1)) 2001:Nat),.i s])) (bJ _ ho) (ak _ n1.symm j) (ak _ n2.symm k) (by rw[e];simp) h.2 (by omega);refine⟨st',f,aZ (vL _ _ _ _ _ _ _) ?_⟩;have m:min (c+fp (t::suf) (p+1)) 2001=min (min (c+Cd t (p+1)) 2001+fp suf (p+1)) 2001:=by rw[fp];omega
  rw[m];generalize Cd t (p+1)=q at hc ih ⊢;obtain⟨tk,tn,tas⟩:=t;simp only[eQ]at r hc;simp only[aae,aaQ,aiQ]at ih;simp only[v,ge,jw XC UJ r,MV,Gt,Ve,ae j,ae k,ao,ax,bH,aA (show p<2^62 by omega),ai hc,aA (show pre.length<2^62 by omega)];exact ih
end
def GW(xs:List Pa)(p:Nat)(hp:p<=100)(o a b s1 s2:Nat)(hl:xs.length<2^62)(n1:a≠o)(n2:b≠o):∀(pre suf:List Pa) (st c d:Nat) (H:DH),H[o]? = some (.cells st [.i (c:Nat),.i (d:Nat)])->H[a]? = some (.cells s1 [.ptr o 0])->H[b]? = some (.cells s2 [.i p])->xs=pre++suf->Pa.oks suf->c<=2001 ->
 ∃ st' f,ac av 305 200006 [.g (.ptr a 0),.g (.ptr b 0),.g (.row 3 (cr xs)),.n xs.length,.n pre.length] [] H=ret (.tuple []) (H.set o (.cells st' [.i (min (c+fp suf (p+1)) 2001:Nat),.i (f:Nat)]))
 |pre,[],st,c,d,H,ho,j,k,e,_,hc=>by
  have u:xs.length=pre.length:=by rw[e];simp
  refine⟨st,d,aZ (vP _ _ _ _ _ _ _) ?_⟩;simp only[u,aio,aip,TD,fp,show min (c+0) 2001=c by omega,qa ho]
 |pre,t::suf,st,c,d,H,ho,j,k,e,h,l=>by
  simp only[Pa.oks]at h;have hi:pre.length<xs.length:=by rw[e];simp
  have v:decide ((pre.length:Int)<(xs.length:Int))=true:=by simp;exact hi
  have r:(cr xs)[pre.length]? = some (eQ t):=by rw[e];exact iE _ _ _
  obtain⟨ib,s,hc⟩:=Qi t (p+1) c d st o H ho h.1 (by omega) l;obtain⟨st',f,ih⟩:=GW xs p hp o a b s1 s2 hl n1 n2 (pre++[t]) suf ib (min (c+Cd t (p+1)) 2001) s (H.set o (.cells ib [.i (min (c+Cd t (p+1)) 2001:Nat),.i s])) (bJ _ ho) (ak _ n1.symm j) (ak _ n2.symm k) (by rw[e];simp) h.2 (by omega);refine⟨st',f,aZ (vP _ _ _ _ _ _ _) ?_⟩;have m:min (c+fp (t::suf) (p+1)) 2001=min (min (c+Cd t (p+1)) 2001+fp suf (p+1)) 2001:=by rw[fp];omega
  rw[m];generalize Cd t (p+1)=q at hc ih ⊢;obtain⟨tk,tn,tas⟩:=t;simp only[eQ]at r hc;simp only[aae,aaQ,aiQ]at ih;simp only[v,ge,jw XC UJ r,MV,Gt,Ve,ae j,ae k,ao,ax,bH,aA (show p<2^62 by omega),ai hc,aA (show pre.length<2^62 by omega)];exact ih
mutual
def JG:∀(t:Ex) (p c d st o:Nat) (H:DH),H[o]? = some (.cells st [.i (c:Nat),.i (d:Nat)])->t.ok->p<=101->c<=2001 ->
 ∃ st' a,am 246 [.ptr o 0,.agg (cP t),.i p] H=ret (.tuple []) (H.set o (.cells st' [.i (min (c+xI t p) 2001:Nat),.i (a:Nat)]))
 |.mk k m n b xs ps,p,c,d,st,o,H,ho,h,hp,hc=>by
  simp only[Ex.ok]at h;have s:=lP ho;have q:((H++[cQ o])++[DB.cells 0 (cP (.mk k m n b xs ps))]++[iw p])[H.length]? = some (.cells 0 [.ptr o 0]):=aC _ (aC _ (bt _ _));have u:((H++[cQ o])++[DB.cells 0 (cP (.mk k m n b xs ps))]++[iw p])[(H++[cQ o]).length]? = some (.cells 0 (cP (.mk k m n b xs ps))):=aC _ (bt _ _);have r:((H++[cQ o])++[DB.cells 0 (cP (.mk k m n b xs ps))]++[iw p])[((H++[cQ o])++[DB.cells 0 (cP (.mk k m n b xs ps))]).length]? = some (.cells 0 [.i p]):=bt _ _;have v:((H++[cQ o])++[DB.cells 0 (cP (.mk k m n b xs ps))]++[iw p])[o]? = some (.cells st [.i (c:Nat),.i (d:Nat)]):=aC _ (aC _ (aC _ ho));have x:(H++[cQ o])++[DB.cells 0 (cP (.mk k m n b xs ps))]++[iw p]=H++([cQ o]++[DB.cells 0 (cP (.mk k m n b xs ps))]++[iw p]):=by simp only[aix]
  have n1:(H++[cQ o]).length≠o:=by simp;omega
  have n2:H.length≠o:=by omega
  have n3:((H++[cQ o])++[DB.cells 0 (cP (.mk k m n b xs ps))]).length≠o:=by simp;omega
  have hb:aW bY 305=true:=by kernel_rfl
  have nd:=Ki (p:=p) 305 [.ptr (H++[cQ o]).length 0,.ptr H.length 0,.ptr ((H++[cQ o])++[DB.cells 0 (cP (.mk k m n b xs ps))]).length 0] hb v hc;generalize y:(H++[cQ o])++[DB.cells 0 (cP (.mk k m n b xs ps))]++[iw p]=G at q u r v x nd;have f:∃ st' a,am 303 [.ptr o 0,.i p,.func 305 [] [.ptr (H++[cQ o]).length 0,.ptr H.length 0,.ptr ((H++[cQ o])++[DB.cells 0 (cP (.mk k m n b xs ps))]).length 0]] G=ret (.tuple []) (G.set o (.cells st' [.i (min (c+xI (.mk k m n b xs ps) p) 2001:Nat),.i (a:Nat)])):=by
   cases g:decide (p>100)||decide (c>2000)with
   |true =>
    refine⟨st+1,max d p,?_⟩;rw[nd,g,ge,xI];cases e:decide (p>100)with
    |true=>rw[ge,show min (c+0) 2001=c by omega]
    |false =>
     rw[e,ajf]at g;have w:c>2000:=by simpa using g
     rw[TD,show min (c+(1+(fp ps (p+1)+eE xs (p+1)))) 2001=c by omega]
   |false =>
    obtain⟨j,e⟩:=ajC.mp g;have l:p<=100:=by
     have:¬ p>100:=by simpa using j
     omega
    have w:¬ c>2000:=by simpa using e
    obtain⟨st',a,hl⟩:=LH k m n b xs ps 0 xs p l o (H++[cQ o]).length H.length ((H++[cQ o])++[DB.cells 0 (cP (.mk k m n b xs ps))]).length 0 0 _ (fun st c d H A B E _ F=>GW ps p l o _ _ 0 0 h.2.2.1 n2 n3 [] ps st c d H A B E rfl h.2.2.2 F) h.1 n2 n3 n1 [] xs (st+1+1) (c+1) (max d p) (G.set o (.cells (st+1+1) [.i (c+1:Nat),.i (max d p:Nat)])) (bJ _ v) (ak _ n2.symm q) (ak _ n3.symm r) (ak _ n1.symm u) rfl h.2.1 (by omega);refine⟨st',a,?_⟩;have hc:am 305 [.ptr (H++[cQ o]).length 0,.ptr H.length 0,.ptr ((H++[cQ o])++[DB.cells 0 (cP (.mk k m n b xs ps))]).length 0] (G.set o (.cells (st+1+1) [.i (c+1:Nat),.i (max d p:Nat)]))=ret (.tuple []) (G.set o (.cells st' [.i (min (c+xI (.mk k m n b xs ps) p) 2001:Nat),.i (a:Nat)])):=by refine ev (agt _ _ _ _ _) ?_;rw[ae (ak _ n1.symm u)];simp only[cP,ao,ax,dR Ui,bQ];refine ake hl ?_;rw[aiQ,xI,j,TD,show min (c+1+(eE xs (p+1)+fp ps (p+1))) 2001=min (c+(1+(fp ps (p+1)+eE xs (p+1)))) 2001 by omega]
    rw[nd,g,TD,ai hc]
  obtain⟨st',a,z⟩:=f;refine⟨st',a,ev (by simp only[cP];exact f246 _ _ _ _ _ _ _ _ _ _) ?_⟩;simp only[cP]at y q r z ⊢;show aX H (az ((H++[cQ o])++[DB.cells 0 [.i k,.i m,.str n,.str b,.row 6 (cm xs),.row 3 (cr ps)]]++[iw p]) H.length _)=_;rw[y,ae q];simp only[ao];rw[ae r];simp only[ao];rw[ai z];rw[x];exact lE s (by simp[DB.bel,dF,D.bel])
def LH(zk zm:Int)(zn za:af)(zx:List Ex)(zp:List Pa)(s0:Nat)(xs:List Ex)(p:Nat)(hp:p<=100)(o j b f s1 s2:Nat)(X:Nat)(s:∀(st c d:Nat) (H:DH),H[o]? = some (.cells st [.i (c:Nat),.i (d:Nat)])->H[b]? = some (.cells s1 [.ptr o 0])->H[f]? = some (.cells s2 [.i p])->H[j]? = some (.cells s0 (cP (.mk zk zm zn za zx zp)))->c<=2001->∃ st' a,ac av 305 200006 [.g (.ptr b 0),.g (.ptr f 0),.g (.row 3 (cr zp)),.n zp.length,.n 0] [] H=ret (.tuple []) (H.set o (.cells st' [.i (min (c+X) 2001:Nat),.i (a:Nat)])))(hl:xs.length<2^62)(n1:b≠o)(n2:f≠o)(n0:j≠o):∀(pre suf:List Ex) (st c d:Nat) (H:DH),H[o]? = some (.cells st [.i (c:Nat),.i (d:Nat)])->H[b]? = some (.cells s1 [.ptr o 0])->H[f]? = some (.cells s2 [.i p])->H[j]? = some (.cells s0 (cP (.mk zk zm zn za zx zp)))->xs=pre++suf->Ex.oks suf->c<=2001 ->
 ∃ st' a,ac av 305 200001 [.g (.ptr j 0),.g (.ptr b 0),.g (.ptr f 0),.g (.row 6 (cm xs)),.n xs.length,.n pre.length] [] H=ret (.tuple []) (H.set o (.cells st' [.i (min (c+(eE suf (p+1)+X)) 2001:Nat),.i (a:Nat)]))
 |pre,[],st,c,d,H,ho,k,l,h0,e,_,hc=>by
  have w:xs.length=pre.length:=by rw[e];simp
  obtain⟨st',a,x⟩:=s st c d H ho k l h0 hc;refine⟨st',a,aZ (vQ _ _ _ _ _ _ _ _) ?_⟩;simp only[cP]at h0;simp only[w,aio,aip,TD,eE,aiv,ae h0,ao,ax,dR XC,ci,x]
 |pre,t::suf,st,c,d,H,ho,k,l,h0,e,h,m=>by
  simp only[Ex.oks]at h;have hi:pre.length<xs.length:=by rw[e];simp
  have y:decide ((pre.length:Int)<(xs.length:Int))=true:=by simp;exact hi
  have u:(cm xs)[pre.length]? = some (cP t):=by rw[e];exact iH _ _ _
  obtain⟨ib,v,hc⟩:=JG t (p+1) c d st o H ho h.1 (by omega) m;obtain⟨st',a,ih⟩:=LH zk zm zn za zx zp s0 xs p hp o j b f s1 s2 X s hl n1 n2 n0 (pre++[t]) suf ib (min (c+xI t (p+1)) 2001) v (H.set o (.cells ib [.i (min (c+xI t (p+1)) 2001:Nat),.i v])) (bJ _ ho) (ak _ n1.symm k) (ak _ n2.symm l) (ak _ n0.symm h0) (by rw[e];simp) h.2 (by omega);refine⟨st',a,aZ (vQ _ _ _ _ _ _ _ _) ?_⟩;have r:min (c+(eE (t::suf) (p+1)+X)) 2001=min (min (c+xI t (p+1)) 2001+(eE suf (p+1)+X)) 2001:=by rw[eE];omega
  rw[r];generalize xI t (p+1)=q at hc ih ⊢;obtain⟨tk,tm,tn,ta,tas,tps⟩:=t;simp only[cP]at u hc;simp only[aae,aaQ,aiQ]at ih;simp only[y,ge,jw Ui s86 u,Sd,TB,acs,ae k,ae l,ao,ax,bH,aA (show p<2^62 by omega),ai hc,aA (show pre.length<2^62 by omega)];exact ih
end
end Go.Proofs.YtpghiabjaglpgaaGreatDoor
