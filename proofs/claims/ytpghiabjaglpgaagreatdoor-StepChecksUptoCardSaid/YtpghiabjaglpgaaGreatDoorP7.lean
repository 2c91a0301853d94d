/- Lemmas. No conditions. -/
import Derived.Test.YtpghiabjaglpgaaGreatDoorW1
import Derived.Test.YtpghiabjaglpgaaGreatDoorP5
set_option linter.all false
noncomputable section
namespace Go.Proofs.YtpghiabjaglpgaaGreatDoor
open Go.AI
def kd(m:Mc)(i:Int):Int:=match m.ce[i.toNat]? with
 |some c=>c.k
 |none=>0
def pT(m:Mc){i:Int}(h0:0<=i)(h1:i<m.ce.length):∃ c,m.ce[i.toNat]? = some c/\kd m i=c.k:=by
 have:i.toNat<m.ce.length:=by omega
 refine⟨_,abF this,?_⟩;rw[kd,abF this]
def BA{m:Mc}{i:Int}{c:Ce}(h0:0<=i)(h:m.ce[i.toNat]? = some c)(κ:List D->au):bk i (fun j=>ba (m.ce.map jq) j κ)=κ (jq c):=by obtain⟨n,rfl⟩:=ajB h0;rw[aiZ]at h;rw[aO,aB (by rw[aiO,h];rfl)]
def cS(m:Mc)(n b:Int):Bool:=n==-1||(decide (n>=0)&&(decide (n<b)&&kd m n==3))
def Ta(m:Mc)(n b:Int)(hb:b<=m.ce.length)(H:DH):am 205 [.agg (bu m),.i n,.i b] H=ret (.bool (cS m n b)) H:=by
 refine ev (f205 _ _ _ _ _) ?_;rw[cS];cases n==-1 with
 |true=>rfl
 |false =>
  cases d:decide (n>=0)with
  |false=>rfl
  |true =>
   cases e:decide (n<b)with
   |false=>rfl
   |true =>have a:=aiF d;have g3:=aiF e;obtain⟨c,hc,hk⟩:=pT m a (by omega);simp only[ge,TD,BA a hc,jq,ao,aT,hk,ajf,aeG]
def SZ(m:Mc)(n:Int)(H:DH):am 167 [.agg (bu m),.i n] H=ret (.bool (cS m n m.ce.length)) H:=by
 refine ev (ahw _ _ _ _) ?_;rw[cS];cases n==-1 with
 |true=>rfl
 |false =>
  cases b:decide (n>=0)with
  |false=>rfl
  |true =>
   rw[aby];cases d:decide (n<(m.ce.length:Int))with
   |false=>rfl
   |true =>have a:=aiF b;obtain⟨c,hc,hk⟩:=pT m a (aiF d);simp only[ge,TD,BA a hc,jq,ao,aT,hk,ajf,aeG]
def bK(m:Mc)(r:Re)(b:Int):Bool:=!r.c||(decide (r.n>=0)&&(decide (r.n<b)&&(kd m r.n==1||kd m r.n==2)))
def Ht(m:Mc)(r:Re)(b:Int)(hb:b<=m.ce.length)(H:DH):am 204 [.agg (bu m),.agg [.bool r.c,.i r.n],.i b] H=ret (.bool (bK m r b)) H:=by
 obtain⟨rc,n⟩:=r;refine ev (agZ _ _ _ _ _ _) ?_;rw[bK];cases rc with
 |false=>rfl
 |true =>
  simp only[aid,TD,ajf];cases d:decide (n>=0)with
  |false=>rfl
  |true =>
   cases e:decide (n<b)with
   |false=>rfl
   |true =>have a:=aiF d;have g3:=aiF e;obtain⟨c,hc,hk⟩:=pT m a (by omega);simp only[ge,BA a hc,jq,ao,aT,hk,aq,aeG];cases c.k==1<;>rfl
def QR(m:Mc)(r:Re)(H:DH):am 168 [.agg (bu m),.agg [.bool r.c,.i r.n]] H=ret (.bool (bK m r m.ce.length)) H:=by
 obtain⟨rc,n⟩:=r;refine ev (ahv _ _ _ _ _) ?_;rw[bK];cases rc with
 |false=>rfl
 |true =>
  simp only[aid,TD,ajf,aby];by_cases b:n<0
  ·rw[abC b,abz (show ¬ n>=0 by omega)];rfl
  ·rw[abz b,abC (show n>=0 by omega),TD];by_cases a:n<(m.ce.length:Int)
   ·rw[abz (show ¬ n>=(m.ce.length:Int)by omega),abC a];obtain⟨c,hc,hk⟩:=pT m (by omega) a;simp only[TD,BA (show 0<=n by omega) hc,jq,ao,aT,hk,aq,aeG];cases c.k==1<;>rfl
   ·rw[abC (show n>=(m.ce.length:Int)by omega),abz a];rfl
def QZ(l:List Re)(pre:List Re)(r:Re)(suf:List Re)(e:l=pre++r::suf):(l.map Jy)[pre.length]? = some [.bool r.c,.i r.n]:=by rw[e,bZ];rfl
def QQ(m:Mc)(l:List Re)(hl:l.length<2^61)(H:DH):∀ suf pre,l=pre++suf->ac av 169 200002 [.g (.row 2 (l.map Jy)),.lp 0 0,.n (pre.length:Nat)] [(0,bu m)] H=ret (.bool (suf.all fun r=>bK m r m.ce.length)) H
 |[],pre,e=>by
  refine aZ (wo _ _ _ _ _) ?_;have:l.length=pre.length:=by rw[e];simp
  rw[aby,er,this,abz (aiD _),TD];rfl
 |r::suf,pre,e=>by
  have hi:pre.length<l.length:=by rw[e];simp
  have ih:=QQ m l hl H suf (pre++[r]) (by rw[e];simp);simp only[aae,aaQ]at ih;refine aZ (wo _ _ _ _ _) ?_;rw[aby,er,abC hi,ge];simp only[aO,aB (QZ l pre r suf e),ao,ax,aU (QR m r H),aH,aq,aA (show pre.length<2^62 by omega),ih,ajb];cases bK m r m.ce.length<;>rfl
def NW(m:Mc)(l:List Re)(hl:l.length<2^61)(H:DH):am 169 [.agg (bu m),.row 2 (l.map Jy)] H=ret (.bool (l.all fun r=>bK m r m.ce.length)) H:=by refine ev (f169 _ _ _ _) ?_;exact QQ m l hl H l [] rfl
def ael(a b:Bool)(κ:Bool->au):IC ab 19 4 (.bool a) (.bool b) κ=κ (a==b):=by kernel_rfl
def aek(a b:Int)(κ:Bool->au):IC ab 19 3 (.i a) (.i b) κ=κ (a==b):=by kernel_rfl
def aeo(l:List Ce)(pre:List Ce)(c:Ce)(suf:List Ce)(e:l=pre++c::suf):(l.map jq)[pre.length]? = some (jq c):=by rw[e,bZ]
def sM{α:Type}(p:α->Bool):Nat->List α->Int
 |_,[]=>-1
 |n,x::r=>bif p x then(n:Int)else sM p (n+1) r
def uD{α:Type}(p:α->Bool):∀(l:List α) (n:Nat),decide (sM p n l>=0)=l.any p
 |[],_=>rfl
 |x::r,n=>by
  rw[sM,akS];cases p x with
  |true=>rw[ge,akO];exact abC (by omega)
  |false=>rw[TD,ajf];exact uD p r (n+1)
def Ia(g:FuncId)(cap:List D)(a:aW bY g=true)(p:Re->Bool)(H:DH)(l:List Re)(hp:∀ r∈l,am g (.agg [.bool r.c,.i r.n]::cap) H=ret (.bool (p r)) H)(hl:l.length<2^61):∀ suf pre,l=pre++suf ->
 ac av 262 200002 [.g (.row 2 (l.map Jy)),.g (.func g [] cap),.n l.length,.n (pre.length:Nat)] [] H=ret (.i (sM p pre.length suf)) H
 |[],pre,e=>by
  refine aZ (vY _ _ _ _ _ _) ?_;have:l.length=pre.length:=by rw[e];simp
  rw[er,this,abz (aiD _),TD];rfl
 |r::suf,pre,e=>by
  have hi:pre.length<l.length:=by rw[e];simp
  have ih:=Ia g cap a p H l hp hl suf (pre++[r]) (by rw[e];simp);simp only[aae,aaQ]at ih;refine aZ (vY _ _ _ _ _ _) ?_;rw[er,abC hi,ge];simp only[aO,aB (QZ l pre r suf e),ao,ax,eG a,air,aiL,ai (hp r (by rw[e];simp)),aq,aA (show pre.length<2^62 by omega),ih];rw[sM];cases p r<;>rfl
def Jm(g:FuncId)(cap:List D)(a:aW bY g=true)(p:Re->Bool)(H:DH)(l:List Re)(hp:∀ r∈l,am g (.agg [.bool r.c,.i r.n]::cap) H=ret (.bool (p r)) H)(hl:l.length<2^61) :
 am 202 [.row 2 (l.map Jy),.func g [] cap] H=ret (.bool (l.any p)) H:=by
 have h:am 262 [.row 2 (l.map Jy),.func g [] cap] H=ret (.i (sM p 0 l)) H:=by refine ev (agE _ _ _ _) ?_;rw[aby];exact Ia g cap a p H l hp hl l [] rfl
 refine ev (ahb _ _ _ _) ?_;simp only[ai h,cX,uD]
def Na(g:FuncId)(cap:List D)(b:aW bY g=true)(p:Fm->Bool)(H:DH)(l:List Fm)(hp:∀ r∈l,am g (.agg (AD r)::cap) H=ret (.bool (p r)) H)(hl:l.length<2^61):∀ suf pre,l=pre++suf ->
 ac av 208 200002 [.g (.row 3 (l.map AD)),.g (.func g [] cap),.n l.length,.n (pre.length:Nat)] [] H=ret (.i (sM p pre.length suf)) H
 |[],pre,e=>by
  refine aZ (wc _ _ _ _ _ _) ?_;have:l.length=pre.length:=by rw[e];simp
  rw[er,this,abz (aiD _),TD];rfl
 |r::suf,pre,e=>by
  have hi:pre.length<l.length:=by rw[e];simp
  have ih:=Na g cap b p H l hp hl suf (pre++[r]) (by rw[e];simp);have a:(l.map AD)[pre.length]? = some (AD r):=by rw[e,bZ]
  have c:=hp r (by rw[e];simp);simp only[aae,aaQ]at ih;refine aZ (wc _ _ _ _ _ _) ?_;rw[er,abC hi,ge];simp only[AD]at a c;simp only[aO,aB a,ao,ax,eG b,air,aiL,ai c,aq,aA (show pre.length<2^62 by omega),ih];rw[sM];cases p r<;>rfl
def Xe(g:FuncId)(cap:List D)(a:aW bY g=true)(p:Fm->Bool)(H:DH)(l:List Fm)(hp:∀ r∈l,am g (.agg (AD r)::cap) H=ret (.bool (p r)) H)(hl:l.length<2^61) :
 am 138 [.row 3 (l.map AD),.func g [] cap] H=ret (.bool (l.any p)) H:=by
 have h:am 208 [.row 3 (l.map AD),.func g [] cap] H=ret (.i (sM p 0 l)) H:=by refine ev (agW _ _ _ _) ?_;rw[aby];exact Na g cap a p H l hp hl l [] rfl
 refine ev (f138 _ _ _ _) ?_;simp only[ai h,cX,uD]
def aba(m:Mc)(i:Int)(hi:i<=m.ce.length)(H:DH)(a b sa sb:Nat)(d:H[a]? = some (.cells sa (bu m)))(hb:H[b]? = some (.cells sb [.i i]))(r:Re) :
 am 203 [.agg [.bool r.c,.i r.n],.ptr a 0,.ptr b 0] H=ret (.bool (!bK m r i)) H:=by
 refine ev (aha _ _ _ _ _ _) ?_;simp only[ae d,ae hb,ao,ax,ai (Ht m r i hi H),aH]
def oN(l:aR)(H:DH)(κ:D->au):aY ab 39 (.row 5 l) H κ=κ (.i l.length):=by kernel_rfl
def aaZ(m:Mc)(H:DH)(a sa:Nat)(b:H[a]? = some (.cells sa (bu m)))(r:Re) :
 am 209 [.agg [.bool r.c,.i r.n],.ptr a 0] H=ret (.bool (!bK m r m.ce.length)) H:=by
 refine ev (agV _ _ _ _ _) ?_;simp only[ae b,ao,ax,oN,aby,ai (Ht m r m.ce.length (akL _) H),aH]
mutual
def Qx(H:DH):∀ e:Ex,hU e<2^62->e.ok->am 132 [.agg (cP e)] H=ret (.i (hU e:Nat)) H
 |.mk k m n a xs ps,h,ho=>by rw[hU]at h;rw[Ex.ok]at ho;rw[cP];refine ev (ahD _ _ _ _ _ _ _ _) ?_;have:=LX H k m n a xs ps ho.1 xs [] 1 rfl (by omega) ho.2.1;rw[hU];exact this
def LX(H:DH)(k m:Int)(n a:af)(l:List Ex)(ps:List Pa)(hl:l.length<2^62):∀(suf pre:List Ex) (c:Nat),l=pre++suf->c+dZ suf<2^62->Ex.oks suf ->
 ac av 132 200003 [.lp 0 0,.n c,.n pre.length] [(0,[.i k,.i m,.str n,.str a,.row 6 (cm l),.row 3 (cr ps)])] H=ret (.i (c+dZ suf:Nat)) H
 |[],pre,c,e,_,_=>by
  refine aZ (ww _ _ _ _ _ _ _ _ _ _) ?_;have:l.length=pre.length:=by rw[e];simp
  rw[bQ,er,this,abz (aiD _),TD,dZ];rfl
 |.mk xk xm xn xa xx xp::suf,pre,c,e,hc,ho=>by
  rw[dZ]at hc;rw[Ex.oks]at ho;have hi:pre.length<l.length:=by rw[e];simp
  have b:(cm l)[pre.length]? = some (cP (.mk xk xm xn xa xx xp)):=by rw[e];exact iH _ _ _
  have ih:=LX H k m n a l ps hl suf (pre++[.mk xk xm xn xa xx xp]) (c+hU (.mk xk xm xn xa xx xp)) (by rw[e];simp) (by omega) ho.2;have d:=Qx H (.mk xk xm xn xa xx xp) (by omega) ho.1;rw[cP]at b d;simp only[aae,aaQ]at ih;refine aZ (ww _ _ _ _ _ _ _ _ _ _) ?_;rw[bQ,er,abC hi,ge];have f:bD ((c:Int)+(hU (.mk xk xm xn xa xx xp):Nat))=((c+hU (.mk xk xm xn xa xx xp):Nat):Int):=by rw[jf]<;>omega
  simp only[aO,aB b,ao,ax,ai d,bH,f,aA (show pre.length<2^62 by omega),ih];rw[dZ,ajE]
end
structure Fn where
 e:Ex
 d:Int
 f:Int
 p:af
 fn:Bool
 sz:Int
 par:af
def qb(x:Fn):List D:=match x.e with
 |.mk k m n a xs ps=>[.i k,.i m,.str n,.str a,.row 6 (cm xs),.row 3 (cr ps),.i x.d,.i x.f,.row 1 (nC x.p),.bool x.fn,.i x.sz,.str x.par]
mutual
def ed(d f:Int)(fn:Bool)(p par:af):Ex->List Fn
 |.mk k m n a xs ps=>⟨.mk k m n a xs ps,d,f,p,fn,hU (.mk k m n a xs ps),par⟩::dT d f fn p k a 0 xs
def dT(d f:Int)(fn:Bool)(p:af)(k:Int)(a:af)(i:Nat):List Ex->List Fn
 |[]=>[]
 |x::r=>ed d f fn (p++[i]) (if i=0/\(k=5\/k=7)then a else []) x++dT d f fn p k a (i+1) r
end
mutual
def iu(d f:Int)(fn:Bool):∀(e:Ex) (p par:af),(ed d f fn p par e).length=hU e
 |.mk k m n a xs ps,p,par=>by rw[ed,aeJ,AG d f fn xs,hU];omega
def AG(d f:Int)(fn:Bool):∀(l:List Ex) (p:af) (k:Int) (a:af) (i:Nat),(dT d f fn p k a i l).length=dZ l
 |[],_,_,_,_=>by simp[dT,dZ]
 |x::r,p,k,a,i=>by rw[dT,aae,iu d f fn x,AG d f fn r,dZ]
end
def QJ{m:Nat}(h:m<=100000):aM ab 98 m=true:=fQ (b:=168) (by kernel_rfl) (by decide) h
def aad(n:Nat)(x:Fn):dF n (qb x):=by obtain⟨⟨k,m,nm,a,xs,ps⟩,d,f,p,b,s,par⟩:=x;simp only[qb,dF,D.bel,akh,akx];exact⟨pd n xs,oC n ps,qU n p⟩
def Nj(n:Nat):∀ l:List Fn,dV n (l.map qb)
 |[]=>by simp[dV]
 |x::r=>by simp only[aeL,dV];exact⟨aad n x,Nj n r⟩
def CR{H X:DH}{B:DB}{d:D}{o:Nat}(b:d.bel H.length)(hB:B.bel H.length):aX H (ret d (H.set o B++X))=ret d (H.set o B):=by
 have h:pB H ⟨.ret d,none,H.set o B++X⟩:=⟨b,rfl,by simp,fun i x hi a=>by
  simp only at a;rw[aeN (by rw[ajz];exact hi)]at a;by_cases q:o=i
  ·subst q;rw[ajT hi]at a;cases a;exact .inr hB
  ·rw[aiY q]at a;exact .inl a⟩
 simp only[aX,ret];rw[aeM h];have:(H.set o B++X).take H.length=H.set o B:=by rw[List.take_append_of_le_length (by simp),ajn (by simp)]
 rw[this]
def acq(p:af)(i:Nat)(hp:p.length+1<=100000)(H:DH)(κ:D->DH->au) :
 (Bp (.row 1 (nC p)) H 1 fun els=>cv (aM ab 3) 1 .nilrow els H fun d33 H34=>cv (aM ab 3) 1 d33 [[.i (i:Nat)]] H34 fun d35 H36=>cK (.fz 1) 0 d35 H36 κ)=κ (.row 1 (nC (p++[i]))) (H++[.buf 1 false false (nC (p++[i]))]):=by
 have a:∀ κ:aR->au,Bp (.row 1 (nC p)) H 1 κ=κ (nC p):=fun κ=>rfl;rw[a];cases p with
 |nil =>
  have h0:∀ κ:D->DH->au,cv (aM ab 3) 1 .nilrow (nC []) H κ=κ .nilrow H:=fun κ=>by show boK (aM ab 3 0) _=_;rw[ii (by omega)];rfl
  rw[h0,yE (r:=[]) (ii (show 0+1<=100000 by omega))];refine ake (DN (κ:=κ) (bt H (.buf 1 true false [[.i (i:Nat)]]))) ?_;congr 1;rw[aiE _ _ (abD _),ajj];rfl
 |cons x r =>
  have hl:r.length+1=(nC (x::r)).length:=by simp[nC]
  have h0:∀ κ:D->DH->au,cv (aM ab 3) 1 .nilrow (nC (x::r)) H κ=κ (.buf 1 H.length (nC (x::r)).length) (H++[.buf 1 true false (nC (x::r))]):=fun κ=>by refine ake (yE (e:=[.i (x:Nat)]) (r:=nC r) (ii (by simp[nC]at hp ⊢;omega))) ?_;simp[nC]
  rw[h0,nF (bt _ _) (ii (by omega)) (ii (by rw[<- hl];simp at hp;omega))];have e:(H++[DB.buf 1 true false (nC (x::r))]).set H.length (.buf 1 true false (nC (x::r)++[[.i (i:Nat)]]))=H++[.buf 1 true false (nC (x::r++[i]))]:=by rw[aiE _ _ (abD _),ajj,Ko];rfl
  rw[e];show fG (.fz 1) (.buf 1 H.length ((nC (x::r)).length+1)) _ κ=_;rw[show(nC (x::r)).length+1=(nC (x::r++[i])).length by simp[nC],DN (bt _ _)];congr 1;rw[aiE _ _ (abD _),ajj];rfl
def afD(l:aR)(i:Nat)(κ:D->au):aD ab 83 (.row 6 l) (.i i) κ=ba l i fun cs=>κ (.eptr cs 0):=by kernel_rfl
def MQ(l:aR)(H:DH)(κ:D->au):aY ab 83 (.row 6 l) H κ=κ (.i l.length):=by kernel_rfl
def ce3(a b c:D)(κ:List D->au):aj 3 (.agg [a,b,c]) κ=κ [a,b,c]:=rfl
def ce6(a b c d e f:D)(κ:List D->au):aj 6 (.agg [a,b,c,d,e,f]) κ=κ [a,b,c,d,e,f]:=rfl
def abg(a b c d e f g h i j k l:D)(κ:List D->au):aj 12 (.agg [a,b,c,d,e,f,g,h,i,j,k,l]) κ=κ [a,b,c,d,e,f,g,h,i,j,k,l]:=rfl
def NJ(t:IntKind)(i:Int)(κ:List D->au):aj 1 (.int t i) κ=κ [.int t i]:=rfl
def abe(b:Bool)(κ:List D->au):aj 1 (.bool b) κ=κ [.bool b]:=rfl
def aer(b:af)(κ:List D->au):aj 1 (.str b) κ=κ [.str b]:=rfl
def aif(s:Nat)(b:aR)(κ:List D->au):aj 1 (.row s b) κ=κ [.row s b]:=rfl
mutual
def Nk:∀(e:Ex) (d f:Int) (fn:Bool) (p par:af) (sz0:Int) (T:List Fn) (lo:Nat) (H:DH),e.ok->H[lo]? = some (.buf 12 true false (T.map qb))->T.length+hU e<=100000->p.length+hU e<=100000 ->
 am 69 [.buf 12 lo T.length,.agg (qb ⟨e,d,f,p,fn,sz0,par⟩)] H=ret (.buf 12 lo (T.length+hU e)) (H.set lo (.buf 12 true false ((T++ed d f fn p par e).map qb)))
 |.mk k m n a xs ps,d,f,fn,p,par,sz0,T,lo,H,ho,b,y,hp=>by
  have c:lo<H.length:=(aez.1 b).1;have h:=Qx H (.mk k m n a xs ps) (by omega) ho;rw[cP]at h;rw[Ex.ok]at ho;rw[hU]at y hp;have g:∀(e:List D) (κ:D->DH->au),cv (aM ab 98) 12 (.buf 12 lo T.length) [e] H κ=κ (.buf 12 lo (T.length+1)) (H.set lo (.buf 12 true false (T.map qb++[e]))):=fun e κ=>by have:=nF (κ:=κ) (e:=e) b (QJ (show 1<=100000 by omega)) (by rw[aby];exact QJ (by omega));rw[aby]at this;exact this
  obtain⟨X,i⟩:=DV k m n a xs ps d f fn p par (hU (.mk k m n a xs ps)) lo H c ho.1 xs [] (T++[⟨.mk k m n a xs ps,d,f,p,fn,hU (.mk k m n a xs ps),par⟩]) [] rfl ho.2.1 (by simp;omega) (by omega);rw[show am 69 [.buf 12 lo T.length,.agg (qb ⟨.mk k m n a xs ps,d,f,p,fn,sz0,par⟩)] H=_ from ev (f69 _ _ _ _ _ _ _ _ _ _ _ _ _ _ _ _) rfl];have ov:∀(j l o q r s t u v x z10 z11 w:D) (κ:List D->au),aE [j,l,o,q,r,s,t,u,v,x,z10,z11] 10 [w] κ=κ [j,l,o,q,r,s,t,u,v,x,w,z11]:=fun _ _ _ _ _ _ _ _ _ _ _ _ _ _=>rfl;simp only[ai h,NJ,ov,ao,ax,g];simp only[aae,aaQ,aiC,aic,ais,aeL,ajX]at i;refine ake (aiK (aX H) i) ?_;rw[CR (show D.bel H.length (.buf 12 lo _)from c) (by simp only[DB.bel];rw[<- aki,<- ais,<- ais];exact Nj _ _)];rw[ed,hU];simp only[ais,aeL,aix,aiG,ajE]
def DV(k m:Int)(n a:af)(l:List Ex)(ps:List Pa)(d f:Int)(fn:Bool)(p par:af)(sz:Int)(lo:Nat)(H:DH)(b:lo<H.length)(hl:l.length<2^62):∀(suf pre:List Ex) (T:List Fn) (X:DH),l=pre++suf->Ex.oks suf->T.length+dZ suf<=100000->p.length+1+dZ suf<=100000 ->
 ∃ X',ac av 69 200004 [.g (.buf 12 lo T.length),.lp 0 0,.n pre.length] [(0,qb ⟨.mk k m n a l ps,d,f,p,fn,sz,par⟩)] (H.set lo (.buf 12 true false (T.map qb))++X) =
  ret (.buf 12 lo (T.length+dZ suf)) (H.set lo (.buf 12 true false ((T++dT d f fn p k a pre.length suf).map qb))++X')
 |[],pre,T,X,e,_,_,_=>by
  refine⟨X,aZ (AQ _ _ _ _ _) ?_⟩;have:l.length=pre.length:=by rw[e];simp
  simp only[qb,ao,ax,MQ,bQ,aS,this,aio,aip,aq,TD,dZ,dT,aic,aiU]
 |.mk xk xm xn xa xx xp::suf,pre,T,X,e,ho,s,hp=>by
  rw[dZ]at s hp;rw[Ex.oks]at ho;have hi:pre.length<l.length:=by rw[e];simp
  have i:(cm l)[pre.length]? = some (cP (.mk xk xm xn xa xx xp)):=by rw[e];exact iH _ _ _
  rw[cP]at i;obtain⟨q,c⟩:∃ q:af,q=if pre.length=0/\(k=5\/k=7)then a else []:=⟨_,rfl⟩
  let P:af:=p++[pre.length]
  let X1:DH:=X++[.buf 1 false false (nC P)]
  have t:(H.set lo (.buf 12 true false (T.map qb))++X1)[lo]? = some (.buf 12 true false (T.map qb)):=by rw[aeN (by rw[ajz];exact b),ajT b]
  have hc:=Nk (.mk xk xm xn xa xx xp) d f fn P q 0 T lo _ ho.1 t (by omega) (by simp[P];omega);obtain⟨X',ih⟩:=DV k m n a l ps d f fn p par sz lo H b hl suf (pre++[.mk xk xm xn xa xx xp]) (T++ed d f fn P q (.mk xk xm xn xa xx xp)) X1 (by rw[e];simp) ho.2 (by rw[aae,iu];omega) (by omega);rw[akB _ _ (by rw[ajz];exact b),aiQ]at hc;simp only[aae,aaQ,iu]at ih;have j10:ac av 69 10 [.g (.buf 12 lo T.length),.lp 0 0,.n pre.length,.lp 1 0] [(0,qb ⟨.mk k m n a l ps,d,f,p,fn,sz,par⟩),(0,qb ⟨.mk xk xm xn xa xx xp,d,f,P,fn,0,q⟩)] (H.set lo (.buf 12 true false (T.map qb))++X1)=ret (.buf 12 lo (T.length+hU (.mk xk xm xn xa xx xp)+dZ suf)) (H.set lo (.buf 12 true false ((T++ed d f fn P q (.mk xk xm xn xa xx xp)++dT d f fn p k a (pre.length+1) suf).map qb))++X'):=by refine aZ (aaC _ _ _ _ _ _) ?_;simp only[qb,ao,ax]at hc ih ⊢;simp only[ai hc,aA (show pre.length<2^62 by omega),ih]
  refine⟨X',aZ (AQ _ _ _ _ _) ?_⟩;have goal:dT d f fn p k a pre.length (.mk xk xm xn xa xx xp::suf)=ed d f fn P q (.mk xk xm xn xa xx xp)++dT d f fn p k a (pre.length+1) suf:=by rw[dT,<- c]
  rw[goal,dZ,<- ajE,<- aix];have j:decide ((pre.length:Int)<(l.length:Nat))=true:=abC (by omega);simp only[qb,ao,ax,MQ,bQ,aS,j,aq,ge,afD,aB i,Sd,ce6,abe,aE,mK,abg];refine ake (acq p pre.length (by omega) _ _) ?_;simp only[NJ,aif,mK,ce3,aT,aq,aer];rw[aix];simp only[qb]at j10;by_cases h0:pre.length=0
  ·have hb:((pre.length:Int)==0)=true:=by simp[h0]
   rw[hb,ge];by_cases o:k=5
   ·rw[aeM ⟨h0,.inl o⟩]at c;rw[c]at j10 ⊢;rw[show(k==5)=true by simp[o],ge];exact j10
   ·rw[aju o,TD];by_cases r:k=7
    ·rw[aeM ⟨h0,.inr r⟩]at c;rw[c]at j10 ⊢;rw[show(k==7)=true by simp[r],ge];exact j10
    ·rw[aeD (fun h=>h.2.elim o r)]at c;rw[c]at j10 ⊢;rw[aju r,TD];exact j10
  ·rw[aeD (fun h=>h0 h.1)]at c;rw[c]at j10 ⊢;rw[show((pre.length:Int)==0)=false from aju (by omega),TD];exact j10
end
structure Bd where
 i:Nat
 j:Nat
 n:af
 fn:Bool
 par:af
 e:Ex
def qf(x:Bd):List D:=[.i x.i,.i x.j,.row 1 [],.str x.n,.bool x.fn,.str x.par]++cP x.e
def qe(i:Nat):Nat->List Fu->List Bd
 |_,[]=>[]
 |j,f::r=>⟨i,j,f.n,true,f.a,f.b⟩::qe i (j+1) r
def Cg(i:Nat)(d:De):List Bd:=if d.k=3 then qe i 0 d.fs else if d.k=4\/d.k=5 then [⟨i,0,d.n,false,[],d.b⟩] else []
def iY:Nat->List De->List Bd
 |_,[]=>[]
 |i,d::r=>Cg i d++iY (i+1) r
def BM(i:Nat):∀(l:List Fu) (j:Nat),(qe i j l).length=l.length
 |[],_=>rfl
 |f::r,j=>by simp[qe,BM i r]
def NU(i:Nat)(d:De):(Cg i d).length=Cc d:=by
 unfold Cg Cc;split
 ·exact BM ..
 ·split<;>rfl
def Mi{m:Nat}(h:m<=100000):aM ab 160 m=true:=fQ (b:=176) (by kernel_rfl) (by decide) h
def MT(l:aR)(H:DH)(κ:D->au):aY ab 145 (.row 8 l) H κ=κ (.i l.length):=by kernel_rfl
def OG(cs:List D)(n:Nat)(H:DH)(κ:D->au):cH ab 9 (.eptr cs n) H κ=ah cs n κ:=by kernel_rfl
def oY(cs:List D)(n k:Nat)(κ:D->au):ct (.eptr cs n) k κ=κ (.eptr cs (n+k)):=rfl
def acZ(z y a b c d e f:D)(H:DH)(κ:D->au):cH ab 86 (.eptr [z,y,a,b,c,d,e,f] 2) H κ=κ (.agg [a,b,c,d,e,f]):=by kernel_rfl
def TK(T:List Bd)(x:Bd)(H:DH)(h:T.length<100000)(κ:D->DH->au):cv (aM ab 160) 12 (.buf 12 H.length T.length) [qf x] (H++[.buf 12 true false (T.map qf)]) κ=κ (.buf 12 H.length (T.length+1)) (H++[.buf 12 true false ((T++[x]).map qf)]):=by have:=Gz (ok:=aM ab 160) (sz:=12) (l:=T.map qf) (els:=[qf x]) (H:=H) (κ:=κ) (Mi (show 1<=100000 by omega)) (by rw[aby];exact Mi (show T.length+1<=100000 by omega));rw[aby]at this;rw[this];simp
def Er(H:DH)(i:Nat)(hi:i<2^61)(ds:aR)(d:De)(p:d.fs.length<2^61):∀(suf pre:List Fu) (T:List Bd),d.fs=pre++suf->T.length+suf.length<=99999 ->
 ac av 68 200010 [.lp 0 0,.g (.buf 12 H.length T.length),.n i,.lp 1 0,.n pre.length] [(0,[.row 14 ds]),(0,bF d)] (H++[.buf 12 true false (T.map qf)]) =
  ac av 68 200003 [.lp 0 0,.g (.buf 12 H.length (T.length+suf.length)),.n ((i+1:Nat):Nat)] [(0,[.row 14 ds])] (H++[.buf 12 true false ((T++qe i pre.length suf).map qf)])
 |[],pre,T,e,l=>by
  have:d.fs.length=pre.length:=by rw[e];simp
  obtain⟨k,⟨dn,vs,cs⟩,nm,⟨tn,ts⟩,fs,⟨ek,em,en,ea,ex,ps⟩⟩:=d;simp only at this;refine aZ (by simp only[bF];exact AR _ _ _ _ _ _ _ _ _ _ _ _ _ _ _ _ _ _ _ _ _) ?_;simp only[MT,aby,aS,this,aio,aip,aq,TD,aA (show i<2^62 by omega),qe,aic,aiC,aiU]
 |f::suf,pre,T,e,l=>by
  have h:pre.length<d.fs.length:=by rw[e];simp
  have c:(d.fs.map jQ)[pre.length]? = some (jQ f):=by rw[e];exact bZ _ _ _ _
  have ih:=Er H i hi ds d p suf (pre++[f]) (T++[⟨i,pre.length,f.n,true,f.a,f.b⟩]) (by rw[e];simp) (by simp at l ⊢;omega);have ap:=TK T ⟨i,pre.length,f.n,true,f.a,f.b⟩ H (by simp at l;omega);obtain⟨fn,fa,⟨k',m',en',ea',xs',ps'⟩⟩:=f;obtain⟨k,⟨dn,vs,cs⟩,nm,⟨tn,ts⟩,fs,⟨ek,em,en,ea,ex,ps⟩⟩:=d;simp only[jQ]at c;have h:pre.length<fs.length:=h;have m:decide ((pre.length:Int)<(fs.length:Nat))=true:=abC (by omega);have j (o n:Nat) (G:DH) (κ:D->DH->au):cK (.acc 12) 0 (.buf 12 o n) G κ=κ (.buf 12 o n) G:=rfl;simp only[aae,aaQ]at ih;simp only[qf,cP,aiL,air]at ap;refine aZ (by simp only[bF];exact AR _ _ _ _ _ _ _ _ _ _ _ _ _ _ _ _ _ _ _ _ _) ?_;try simp only[cP]at c
  simp only[MT,aby,aS,m,aq,ge,Nb,aB c,oY,aiv,OG,acZ,ao,ax,Gu,ce6,aE,mK,abg,ap,j,aA (show pre.length<2^62 by simp only at p;omega)];simp only[bF]at ih;rw[ih];simp only[qe,aix,aiG,aeJ];rw[show T.length+1+suf.length=T.length+(suf.length+1)by omega]
def BL(H:DH)(l:List De)(hl:l.length<2^61):∀(suf pre:List De) (T:List Bd),l=pre++suf->(∀ d∈suf,d.fs.length<2^61)->T.length+lL suf<=99999 ->
 ac av 68 200003 [.lp 0 0,.g (.buf 12 H.length T.length),.n pre.length] [(0,[.row 14 (l.map bF)])] (H++[.buf 12 true false (T.map qf)]) =
  ret (.row 12 ((T++iY pre.length suf).map qf)) (H++[.buf 12 false false ((T++iY pre.length suf).map qf)])
 |[],pre,T,e,_,_=>by
  have:l.length=pre.length:=by rw[e];simp
  refine aZ (AS _ _ _ _ _ _) ?_;have t (κ:D->DH->au):fG (.fz 12) (.buf 12 H.length T.length) (H++[.buf 12 true false (T.map qf)]) κ=κ (.row 12 (T.map qf)) (H++[.buf 12 false false (T.map qf)]):=by have:=Ax (sz:=12) (l:=T.map qf) (H:=H) (κ:=κ);rw[aby]at this;exact this
  rw[aby,this,er,abz (aiD _),TD,t,iY,aic]
 |d::suf,pre,T,e,s,u=>by
  have hi:pre.length<l.length:=by rw[e];simp
  have f:(l.map bF)[pre.length]? = some (bF d):=by rw[e];exact bZ _ _ _ _
  have p:T.length+(Cc d+lL suf)<=99999:=u;have ih:=BL H l hl suf (pre++[d]) (T++Cg pre.length d) (by rw[e];simp) (fun x v=>s x (abE _ v)) (by rw[aae,NU];omega);have w:=s d (aeK ..);have fl:=Er H pre.length (by omega) (l.map bF) d w d.fs [] T rfl;simp only[aae,aaQ]at ih;rw[iY,<- aix];rw[<- ih];have q:decide ((pre.length:Int)<(l.length:Nat))=true:=abC (by omega)
  have ap:=TK T ⟨pre.length,0,d.n,false,[],d.b⟩ H (by
   by_cases h:T.length<100000
   ·exact h
   ·omega)
  have j (o n:Nat) (G:DH) (κ:D->DH->au):cK (.acc 12) 0 (.buf 12 o n) G κ=κ (.buf 12 o n) G:=rfl;obtain⟨k,⟨dn,vs,cs⟩,nm,⟨tn,ts⟩,fs,⟨ek,em,en,ea,ex,ps⟩⟩:=d;simp only[bF,dJ,cP,aiL,air,aic]at f fl ap;simp only[qf,cP,aiL,air,show(((0:Nat)):Int)=0 from rfl]at ap;refine aZ (AS _ _ _ _ _ _) ?_;rw[aby,q,ge];simp only[aO,aB f,ao,ax,aT,aq];have run:(k=4\/k=5)->ac av 68 7 [.lp 0 0,.g (.buf 12 H.length T.length),.n pre.length,.lp 1 0] [(0,[.row 14 (l.map bF)]),(0,[.i k,.str dn,.row 1 (vs.map fD),.row 2 (cs.map km),.str nm,.str tn,.row 2 (cp ts),.row 8 (fs.map jQ),.i ek,.i em,.str en,.str ea,.row 6 (cm ex),.row 3 (cr ps)])] (H++[.buf 12 true false (T.map qf)])=ac av 68 200003 [.lp 0 0,.g (.buf 12 H.length (T.length+1)),.n ((pre.length+1:Nat):Nat)] [(0,[.row 14 (l.map bF)])] (H++[.buf 12 true false ((T++[(⟨pre.length,0,nm,false,[],.mk ek em en ea ex ps⟩:Bd)]).map qf)]):=fun hk=>by refine aZ (aec _ _ _ _ _ _ _ _ _ _ _ _ _ _ _ _ _ _ _ _) ?_;have c:(k==3)=false:=aju (by omega);simp only[Gu,aE,mK,abg,ap,j,aT,aq,c,TD,aA (show pre.length<2^62 by omega)]
  by_cases c:k=3
  ·have m:Cg pre.length ⟨k,⟨dn,vs,cs⟩,nm,.mk tn ts,fs,.mk ek em en ea ex ps⟩=qe pre.length 0 fs:=by simp[Cg,c]
   have y:Cc ⟨k,⟨dn,vs,cs⟩,nm,.mk tn ts,fs,.mk ek em en ea ex ps⟩=fs.length:=by simp[Cc,c]
   rw[y]at p;rw[aju (show k≠4 by omega),aju (show k≠5 by omega),show(k==3)=true by simp[c],TD,TD,ge,m,BM];exact fl (by omega)
  ·by_cases a:k=4\/k=5
   ·have m:Cg pre.length ⟨k,⟨dn,vs,cs⟩,nm,.mk tn ts,fs,.mk ek em en ea ex ps⟩=[⟨pre.length,0,nm,false,[],.mk ek em en ea ex ps⟩]:=by simp[Cg,c,a]
    rw[m];have r:=run a;rcases a with z|A
    ·rw[show(k==4)=true by simp[z],ge];exact r
    ·rw[aju (show k≠4 by omega),show(k==5)=true by simp[A],TD,ge];exact r
   ·have m:Cg pre.length ⟨k,⟨dn,vs,cs⟩,nm,.mk tn ts,fs,.mk ek em en ea ex ps⟩=[]:=by simp[Cg,c,a]
    rw[aju (show k≠4 by omega),aju (show k≠5 by omega),aju c,TD,TD,TD,m,aA (show pre.length<2^62 by omega),aic];rfl
def abk(n:Nat)(x:Bd):dF n (qf x):=by obtain⟨i,j,nm,fn,par,⟨ek,em,en,ea,ex,ps⟩⟩:=x;simp only[qf,cP,aiL,air,dF,D.bel,dV,akh,akx];exact⟨pd n ex,oC n ps⟩
def NR(n:Nat):∀ l:List Bd,dV n (l.map qf)
 |[]=>by simp[dV]
 |x::r=>by simp only[aeL,dV];exact⟨abk n x,NR n r⟩
def TG(l:List De)(hl:l.length<2^61)(a:∀ d∈l,d.fs.length<2^61)(b:lL l<=99999)(H:DH) :
 am 68 [.agg [.row 14 (l.map bF)]] H=ret (.row 12 ((iY 0 l).map qf)) H:=by
 have w:=BL H l hl l [] [] rfl a (by simpa using b);refine ev (f68 _ _ _) ?_;refine ake (aiK (aX H) w) ?_;exact eB (by simp only[D.bel];exact NR _ _)
end Go.Proofs.YtpghiabjaglpgaaGreatDoor
namespace Go.Proofs.YtpghiabjaglpgaaGreatDoor
open Go.AI
structure Rf where
 ds:List De
 ns:List Fn
 fs:List (List Nat×Nat)
 nm:List af
 dn:af
 rs:List (List Nat×Nat×Nat×Bool)
def vh(x:af×Nat):List D:=[.i 2,.str x.1,.i x.2,.nilrow,.i (-1)]
def YZ(x:af×Nat×Nat×Bool):List D:=[.str x.1,.i x.2.1,.i x.2.2.1,.bool x.2.2.2]
def RL(n st:Nat)(G:Rf):DH:=[.buf 12 true false (G.ns.map qb),.buf 5 true false (G.fs.map vh),.buf 1 true false (G.nm.map fD),.buf 1 true false (nC G.dn),.buf 4 true false (G.rs.map YZ),
 .cells st [.row 14 (G.ds.map bF),.buf 12 n G.ns.length,.buf 5 (n+1) G.fs.length,.buf 1 (n+2) G.nm.length,.buf 1 (n+3) G.dn.length,.buf 4 (n+4) G.rs.length]]
def RX(H0:DH)(st:Nat)(G:Rf):DH:=H0++RL H0.length st G
section
variable(H0:DH)(st:Nat)(G:Rf)
def pV{L:DH}{i:Nat}{b:DB}(h:L[i]? = some b):(H0++L)[H0.length+i]? = some b:=by
 have:=rC H0 L [] i b h
 rwa [aic]at this
def zf:(RX H0 st G)[H0.length+5]? = some (.cells st [.row 14 (G.ds.map bF),.buf 12 H0.length G.ns.length,.buf 5 (H0.length+1) G.fs.length,.buf 1 (H0.length+2) G.nm.length,.buf 1 (H0.length+3) G.dn.length,.buf 4 (H0.length+4) G.rs.length]):=pV H0 (L:=RL H0.length st G) rfl
def acf:(RX H0 st G)[H0.length]? = some (.buf 12 true false (G.ns.map qb)):=pV H0 (L:=RL H0.length st G) (i:=0) rfl
def acg:(RX H0 st G)[H0.length+1]? = some (.buf 5 true false (G.fs.map vh)):=pV H0 (L:=RL H0.length st G) rfl
def aeU:(RX H0 st G)[H0.length+2]? = some (.buf 1 true false (G.nm.map fD)):=pV H0 (L:=RL H0.length st G) rfl
def aeV:(RX H0 st G)[H0.length+3]? = some (.buf 1 true false (nC G.dn)):=pV H0 (L:=RL H0.length st G) rfl
def abZ:(RX H0 st G)[H0.length+4]? = some (.buf 4 true false (G.rs.map YZ)):=pV H0 (L:=RL H0.length st G) rfl
def gh(H0:DH)(L:DH)(i:Nat)(b:DB)(h:i<L.length):(H0++L).set (H0.length+i) b=H0++L.set i b:=by
 have:=gI H0 L [] i b h
 rwa [aic,aic]at this
def UK(T:List Fn):((RX H0 st G).set H0.length (.buf 12 true false ((G.ns++T).map qb))).set (H0.length+5) (.cells (st+1) [.row 14 (G.ds.map bF),.buf 12 H0.length (G.ns.length+T.length),.buf 5 (H0.length+1) G.fs.length,.buf 1 (H0.length+2) G.nm.length,.buf 1 (H0.length+3) G.dn.length,.buf 4 (H0.length+4) G.rs.length])=RX H0 (st+1) { G with ns:=G.ns++T }:=by unfold RX;have e:(H0++RL H0.length st G).set H0.length (.buf 12 true false ((G.ns++T).map qb))=H0++(RL H0.length st G).set 0 (.buf 12 true false ((G.ns++T).map qb)):=gh H0 _ 0 _ (by simp[RL]);rw[e,gh _ _ _ _ (by simp[RL])];simp[RL]
end
def Rf.addB(G:Rf)(x:Bd):Rf:={ G with ns:=G.ns++ed (x.i:Nat) (x.j:Nat) x.fn [] x.par x.e }
def Sy(l:aR)(i:Nat)(κ:D->au):aD ab 157 (.row 12 l) (.i i) κ=ba l i fun cs=>κ (.eptr cs 0):=by kernel_rfl
def Kz(l:aR)(H:DH)(κ:D->au):aY ab 157 (.row 12 l) H κ=κ (.i l.length):=by kernel_rfl
def acY(g h i j k l a b c d e f:D)(H:DH)(κ:D->au):cH ab 86 (.eptr [g,h,i,j,k,l,a,b,c,d,e,f] 6) H κ=κ (.agg [a,b,c,d,e,f]):=by kernel_rfl
def adc(g h i j k l a b c d e f:D)(H:DH)(κ:D->au):cH ab 27 (.eptr [g,h,i,j,k,l,a,b,c,d,e,f] 0) H κ=κ (.agg [g,h,i]):=by kernel_rfl
def VI(cs:List D)(n:Nat)(H:DH)(κ:D->au):cH ab 4 (.eptr cs n) H κ=ah cs n κ:=by kernel_rfl
def Vl(H0:DH)(st:Nat)(G:Rf)(bs:List Bd)(i:Nat)(x:Bd)(c:bs[i]? = some x)(ho:x.e.ok)(hi:i<2^61)(d:G.ns.length+hU x.e<=100000) :
 ac av 36 12 [.lp 0 0,.g (.ptr (H0.length+5) 0),.g (.row 12 (bs.map qf)),.n i] [(0,[.row 14 (G.ds.map bF)])] (RX H0 st G) =
  ac av 36 200004 [.lp 0 0,.g (.ptr (H0.length+5) 0),.g (.row 12 (bs.map qf)),.n ((i+1:Nat):Nat)] [(0,[.row 14 (G.ds.map bF)])] (RX H0 (st+1) (G.addB x)):=by
 have a:(bs.map qf)[i]? = some (qf x):=by rw[aiO,c];rfl
 have hc:=Nk x.e (x.i:Nat) (x.j:Nat) x.fn [] x.par 0 G.ns H0.length (RX H0 st G) ho (acf H0 st G) d (by simp;omega);obtain⟨xi,xj,xn,xf,xp,⟨ek,em,en,ea,ex,ps⟩⟩:=x;simp only[qf,cP,aiL,air]at a;simp only[qb,show nC []=[] from rfl]at hc;refine aZ (aaD _ _ _ _ _ _) ?_;have b:=ak (.buf 12 true false ((G.ns++ed (xi:Nat) (xj:Nat) xf [] xp (.mk ek em en ea ex ps)).map qb)) (show H0.length≠H0.length+5 by omega) (zf H0 st G);simp only[ae (zf H0 st G),ao,ax,Sy,aB a,oY,aiv,acY,adc,VI,OG,ce6,ce3,abe,Gu,aE,mK];simp only[aU hc,xO,ae b,aE,mK];have rp:=UK H0 st G (ed (xi:Nat) (xj:Nat) xf [] xp (.mk ek em en ea ex ps));rw[iu]at rp;rw[rp,aA (show i<2^62 by omega)];rfl
end Go.Proofs.YtpghiabjaglpgaaGreatDoor
namespace Go.Proofs.YtpghiabjaglpgaaGreatDoor
open Go.AI
def yh{m:Nat}(h:m<=100000):aM ab 115 m=true:=fQ (b:=64) (by kernel_rfl) (by decide) h
def qn{m:Nat}(h:m<=100000):aM ab 9 m=true:=fQ (b:=16) (by kernel_rfl) (by decide) h
def Mh{m:Nat}(h:m<=100000):aM ab 162 m=true:=fQ (b:=40) (by kernel_rfl) (by decide) h
def HS(s o n:Nat)(H:DH)(κ:D->au):aY ab 90 (.buf s o n) H κ=κ (.i (n:Int)):=by kernel_rfl
def Sx(l:aR)(i:Nat)(κ:D->au):aD ab 22 (.row 14 l) (.i i) κ=ba l i fun cs=>κ (.eptr cs 0):=by kernel_rfl
def VJ(cs:List D)(n:Nat)(H:DH)(κ:D->au):cH ab 3 (.eptr cs n) H κ=ah cs n κ:=by kernel_rfl
variable(H0:DH)(st:Nat)(G:Rf)
def acd(x:af×Nat):((RX H0 st G).set (H0.length+1) (.buf 5 true false (G.fs.map vh++[vh x]))).set (H0.length+5) (.cells (st+1) [.row 14 (G.ds.map bF),.buf 12 H0.length G.ns.length,.buf 5 (H0.length+1) (G.fs.length+1),.buf 1 (H0.length+2) G.nm.length,.buf 1 (H0.length+3) G.dn.length,.buf 4 (H0.length+4) G.rs.length])=RX H0 (st+1) { G with fs:=G.fs++[x] }:=by unfold RX;rw[gh _ _ _ _ (by simp[RL]),gh _ _ _ _ (by simp[RL])];simp[RL]
def acb(x:af):((RX H0 st G).set (H0.length+2) (.buf 1 true false (G.nm.map fD++[[.str x]]))).set (H0.length+5) (.cells (st+1) [.row 14 (G.ds.map bF),.buf 12 H0.length G.ns.length,.buf 5 (H0.length+1) G.fs.length,.buf 1 (H0.length+2) (G.nm.length+1),.buf 1 (H0.length+3) G.dn.length,.buf 4 (H0.length+4) G.rs.length])=RX H0 (st+1) { G with nm:=G.nm++[x] }:=by unfold RX;rw[gh _ _ _ _ (by simp[RL]),gh _ _ _ _ (by simp[RL])];simp[RL,fD]
def ace(x:Nat):((RX H0 st G).set (H0.length+3) (.buf 1 true false (nC G.dn++[[.i x]]))).set (H0.length+5) (.cells (st+1) [.row 14 (G.ds.map bF),.buf 12 H0.length G.ns.length,.buf 5 (H0.length+1) G.fs.length,.buf 1 (H0.length+2) G.nm.length,.buf 1 (H0.length+3) (G.dn.length+1),.buf 4 (H0.length+4) G.rs.length])=RX H0 (st+1) { G with dn:=G.dn++[x] }:=by unfold RX;rw[gh _ _ _ _ (by simp[RL]),gh _ _ _ _ (by simp[RL])];simp[RL,nC]
def aca(x:af×Nat×Nat×Bool):((RX H0 st G).set (H0.length+4) (.buf 4 true false (G.rs.map YZ++[YZ x]))).set (H0.length+5) (.cells (st+1) [.row 14 (G.ds.map bF),.buf 12 H0.length G.ns.length,.buf 5 (H0.length+1) G.fs.length,.buf 1 (H0.length+2) G.nm.length,.buf 1 (H0.length+3) G.dn.length,.buf 4 (H0.length+4) (G.rs.length+1)])=RX H0 (st+1) { G with rs:=G.rs++[x] }:=by unfold RX;rw[gh _ _ _ _ (by simp[RL]),gh _ _ _ _ (by simp[RL])];simp[RL]
def OI(l:List De)(i:Nat):Bool:=match l[i]? with|some d=>d.k==5|none=>false
def Rf.addH(G:Rf)(x:Bd):Rf:=if x.fn then { G with fs:=G.fs++[(x.par,G.ns.length)],nm:=G.nm++[x.n],dn:=G.dn++[x.i] } else { G with rs:=G.rs++[(x.n,x.i,G.ns.length,OI G.ds x.i)] }
def lh{ok:Nat->Bool}{sz o n:Nat}{l:aR}{e:List D}{H:DH}{κ:D->DH->au}(h:H[o]? = some (.buf sz true false l))(a:l.length=n)(b:ok 1=true)(c:ok (n+1)=true) :
 cv ok sz (.buf sz o n) [e] H κ=κ (.buf sz o (n+1)) (H.set o (.buf sz true false (l++[e]))):=by subst a;exact nF h b c
def Vk(bs:List Bd)(i:Nat)(x:Bd)(q:bs[i]? = some x)(m:x.i<G.ds.length)(hb:bs.length<2^61)(r:G.fs.length+1<=100000)(s:G.nm.length+1<=100000)(t:G.dn.length+1<=100000)(u:G.rs.length+1<=100000) :
 ∃ st',ac av 36 200004 [.lp 0 0,.g (.ptr (H0.length+5) 0),.g (.row 12 (bs.map qf)),.n i] [(0,[.row 14 (G.ds.map bF)])] (RX H0 st G) =
  ac av 36 12 [.lp 0 0,.g (.ptr (H0.length+5) 0),.g (.row 12 (bs.map qf)),.n i] [(0,[.row 14 (G.ds.map bF)])] (RX H0 st' (G.addH x)):=by
 have h:(bs.map qf)[i]? = some (qf x):=by rw[aiO,q];rfl
 have hi:decide ((i:Int)<(bs.length:Nat))=true:=abC (by have:=(aez.1 q).1;omega);have f:(G.ds.map bF)[x.i]? = some (bF G.ds[x.i]):=by rw[aiO,abF m];rfl
 have hk:OI G.ds x.i=(G.ds[x.i].k==5):=by rw[OI,abF m]
 obtain⟨xi,xj,xn,xf,xp,⟨ek,em,en,ea,ex,ps⟩⟩:=x;simp only[qf,cP,aiL,air]at h;simp only at m f hk;have o:∀ κ:D->au,ah (bF G.ds[xi]) 0 κ=κ (.i G.ds[xi].k):=fun κ=>by obtain⟨k,⟨dn,vs,cs⟩,nm,⟨tn,ts⟩,fs,⟨ek,em,en,ea,ex,ps⟩⟩:=G.ds[xi];rfl
 cases xf with
 |true =>refine⟨st+1+1+1,aZ (rx _ _ _ _ _ _) ?_⟩;simp only[Kz,aby,aS,hi,aq,ge,ae (zf _ _ _),ao,ax,HS,Sy,aB h,oY,aiv,VI,OG,VJ,Gu,NJ,aE,mK,show ∀(a b c d e:D) (κ:List D->au),aj 5 (.agg [a,b,c,d,e]) κ=κ [a,b,c,d,e] from fun _ _ _ _ _ _=>rfl];rw[lh (acg H0 st G) (aby ..) (yh (by omega)) (yh r)];have v (B:DB):=ak B (show H0.length+1≠H0.length+5 by omega) (zf H0 st G);have rp1:=acd H0 st G (xp,G.ns.length);simp only[vh]at rp1;simp only[xO,ae (v _),aE,mK,rp1];simp only[ae (zf _ _ _),ao,ax];have ap2 (κ:D->DH->au):=lh (κ:=κ) (e:=[.str xn]) (aeU H0 (st+1) { G with fs:=G.fs++[(xp,G.ns.length)] }) (aby ..) (qn (show 1<=100000 by omega)) (qn s);simp only at ap2;rw[ap2];have j (B:DB):=ak B (show H0.length+2≠H0.length+5 by omega) (zf H0 (st+1) { G with fs:=G.fs++[(xp,G.ns.length)] });have rp2:=acb H0 (st+1) { G with fs:=G.fs++[(xp,G.ns.length)] } xn;simp only at rp2 j;simp only[xO,ae (j _),aE,mK,rp2];simp only[ae (zf _ _ _),ao,ax];have ap3 (κ:D->DH->au):=lh (κ:=κ) (e:=[.i xi]) (aeV H0 (st+1+1) { G with fs:=G.fs++[(xp,G.ns.length)],nm:=G.nm++[xn] }) (jj _) (ii (show 1<=100000 by omega)) (ii t);simp only at ap3;rw[ap3];have l (B:DB):=ak B (show H0.length+3≠H0.length+5 by omega) (zf H0 (st+1+1) { G with fs:=G.fs++[(xp,G.ns.length)],nm:=G.nm++[xn] });have rp3:=ace H0 (st+1+1) { G with fs:=G.fs++[(xp,G.ns.length)],nm:=G.nm++[xn] } xi;simp only at rp3 l;simp only[xO,ae (l _),aE,mK,rp3];rfl
 |false =>refine⟨st+1,aZ (rx _ _ _ _ _ _) ?_⟩;simp only[Kz,aby,aS,hi,aq,ge,TD,ae (zf _ _ _),ao,ax,HS,Sy,aB h,oY,aiv,VI,OG,VJ,Gu,NJ,abe,aE,mK,Sx,aB f,o,aT,show ∀(a b c d:D) (κ:List D->au),aj 4 (.agg [a,b,c,d]) κ=κ [a,b,c,d] from fun _ _ _ _ _=>rfl];rw[lh (abZ H0 st G) (aby ..) (Mh (by omega)) (Mh u)];have p (B:DB):=ak B (show H0.length+4≠H0.length+5 by omega) (zf H0 st G);simp only[xO,ae (p _),aE,mK];have rp:=aca H0 st G (xn,xi,G.ns.length,OI G.ds xi);rw[hk]at rp;simp only[YZ]at rp;rw[rp];simp only[Rf.addH,hk];rfl
end Go.Proofs.YtpghiabjaglpgaaGreatDoor
namespace Go.Proofs.YtpghiabjaglpgaaGreatDoor
open Go.AI
def Rf.addXs(G:Rf):List Bd->Rf
 |[]=>G
 |x::r=>((G.addH x).addB x).addXs r
def rO:List Bd->Nat
 |[]=>0
 |x::r=>hU x.e+rO r
def GH(G:Rf)(x:Bd):((G.addH x).addB x).ds=G.ds/\(G.addH x).ds=G.ds/\(G.addH x).ns=G.ns/\((G.addH x).addB x).ns.length=G.ns.length+hU x.e/\((G.addH x).addB x).fs.length<=G.fs.length+1/\((G.addH x).addB x).nm.length<=G.nm.length+1/\((G.addH x).addB x).dn.length<=G.dn.length+1/\((G.addH x).addB x).rs.length<=G.rs.length+1:=by unfold Rf.addB Rf.addH;split<;>simp[iu]
def MC(H0:DH)(bs:List Bd)(hb:bs.length<2^61)(ds:List De):∀(suf pre:List Bd) (st:Nat) (G:Rf),bs=pre++suf->G.ds=ds->(∀ x∈suf,x.e.ok/\x.i<ds.length)->G.ns.length+rO suf<=100000 ->
 G.fs.length+suf.length<=100000->G.nm.length+suf.length<=100000->G.dn.length+suf.length<=100000->G.rs.length+suf.length<=100000 ->
 ∃ st',ac av 36 200004 [.lp 0 0,.g (.ptr (H0.length+5) 0),.g (.row 12 (bs.map qf)),.n pre.length] [(0,[.row 14 (ds.map bF)])] (RX H0 st G)=ret (.ptr (H0.length+5) 0) (RX H0 st' (G.addXs suf))
 |[],pre,st,G,e,b,_,_,_,_,_,_=>by
  have:bs.length=pre.length:=by rw[e];simp
  refine⟨st,aZ (rx _ _ _ _ _ _) ?_⟩;simp only[Kz,aby,aS,this,aio,aip,aq,TD,Rf.addXs]
 |x::suf,pre,st,G,e,b,c,h,j,k,l,m=>by
  subst b;have a:bs[pre.length]? = some x:=by rw[e];simp
  obtain⟨ho,o⟩:=c x (aeK ..);simp only[aeJ]at j k l m;rw[rO]at h;obtain⟨p,q,r,a4,a5,a6,a7,a8⟩:=GH G x;obtain⟨s1,s⟩:=Vk H0 st G bs pre.length x a o hb (by omega) (by omega) (by omega) (by omega);have hi:pre.length<2^61:=by have:=(aez.1 a).1;omega
  have d:=Vl H0 s1 (G.addH x) bs pre.length x a ho hi (by rw[r];omega);obtain⟨t,f⟩:=MC H0 bs hb G.ds suf (pre++[x]) (s1+1) ((G.addH x).addB x) (by rw[e];simp) p (fun y hy=>c y (abE _ hy)) (by omega) (by omega) (by omega) (by omega) (by omega);simp only[aae,aaQ]at f;rw[q]at d;exact⟨t,(s.trans d).trans f⟩
def se(l:List De):Rf:=(⟨l,[],[],[],[],[]⟩:Rf).addXs (iY 0 l)
def Jh(i:Nat):∀(l:List Fu) (j:Nat) (x:Bd),x∈qe i j l->x.i=i/\∃ f∈l,x.e=f.b
 |[],_,_,h=>by cases h
 |f::r,j,x,h=>by
  rw[qe,aff]at h;rcases h with rfl|h
  ·exact⟨rfl,f,aeK ..,rfl⟩
  ·obtain⟨a,g,c,d⟩:=Jh i r (j+1) x h;exact⟨a,g,abE _ c,d⟩
def WZ(i:Nat)(d:De)(a:d.ok)(x:Bd)(h:x∈Cg i d):x.i=i/\x.e.ok:=by
 unfold Cg at h;obtain⟨_,_,_,b,c⟩:=a;split at h
 ·obtain⟨g,f,j,k⟩:=Jh i d.fs 0 x h;exact⟨g,k▸b f j⟩
 ·split at h
  ·rw[akv]at h;subst h;exact⟨rfl,c⟩
  ·cases h
def BN:∀(l:List De) (i:Nat),(∀ d∈l,d.ok)->∀ x∈iY i l,x.i<i+l.length/\x.e.ok
 |[],_,_,_,h=>by cases h
 |d::r,i,b,x,h=>by
  rw[iY,aiq]at h;rw[aeJ];rcases h with h|h
  ·obtain⟨c,a⟩:=WZ i d (b d (aeK ..)) x h;exact⟨by omega,a⟩
  ·obtain⟨c,a⟩:=BN r (i+1) (fun y hy=>b y (abE _ hy)) x h;exact⟨by omega,a⟩
def kx:∀(l:List De) (i:Nat),(iY i l).length=lL l
 |[],_=>rfl
 |d::r,i=>by rw[iY,aae,NU,kx r,lL]
def Hd:∀ a b:List Bd,rO (a++b)=rO a+rO b
 |[],b=>by simp[rO]
 |x::a,b=>by rw[aiL,rO,rO,Hd a b,ajE]
def LP(i:Nat):∀(l:List Fu) (j:Nat),rO (qe i j l)=xC l
 |[],_=>rfl
 |f::r,j=>by rw[qe,rO,LP i r,xC]
def YO(i:Nat)(d:De):rO (Cg i d)=Qm d:=by
 unfold Cg Qm;split
 ·exact LP ..
 ·split<;>simp[rO]
def LQ:∀(l:List De) (i:Nat),rO (iY i l)=yP l
 |[],_=>rfl
 |d::r,i=>by rw[iY,Hd,YO,LQ r,yP]
def acJ(l:List De)(hl:l.length<2^61)(ho:∀ x∈l,x.ok)(a:∀ d∈l,d.fs.length<2^61)(hs:yP l<=2000)(hn:lL l<=960)(H:DH) :
 ∃ st,am 36 [.agg [.row 14 (l.map bF)]] H=ret (.ptr (H.length+5) 0) (RX H st (se l)):=by
 have hb:=TG l hl a (by omega) (RX H 0 ⟨l,[],[],[],[],[]⟩);obtain⟨st,h⟩:=MC H (iY 0 l) (by rw[kx];omega) l (iY 0 l) [] 0 ⟨l,[],[],[],[],[]⟩ rfl rfl (fun x b=>by have:=BN l 0 ho x b;exact⟨this.2,by omega⟩) (by rw[LQ];simp;omega) (by rw[kx];simp;omega) (by rw[kx];simp;omega) (by rw[kx];simp;omega) (by rw[kx];simp;omega);have c:RX H 0 ⟨l,[],[],[],[],[]⟩=H++[.buf 12 true false []]++[.buf 5 true false []]++[.buf 1 true false []]++[.buf 1 true false []]++[.buf 4 true false []]++[.cells 0 [.row 14 (l.map bF),.buf 12 H.length 0,.buf 5 (H.length+1) 0,.buf 1 (H.length+2) 0,.buf 1 (H.length+3) 0,.buf 4 (H.length+4) 0]]:=by simp[RX,RL,nC]
 rw[c]at h hb;refine⟨st,ev (f36 _ _ _) ?_⟩;simp only[aae,aaQ,ajE]at h hb ⊢;simp only[ai hb];exact h
def Tt(l:List De)(pc:List De)(d:De)(sc:List De)(hl:l=pc++d::sc)(h:d.ok)(b:∀ m,m<=d.fs.length->aM ab 86 m=true)(xs:List Ty)(r:xs.length<2^62)(H:DH):∀ pre suf (a:Nat),xs=pre++suf->Ty.oks suf->a<=2001 ->
 ac av 65 200007 [.lp 0 0,.n a,.n pc.length,.g (.row 2 (cp xs)),.n pre.length] [(0,[.row 14 (l.map bF)])] H
  = ac av 65 200012 [.lp 0 0,.n (min (a+cW suf 1) 2001:Nat),.n pc.length,.g (.row 6 (cm (cV d))),.n 0] [(0,[.row 14 (l.map bF)])] H
 |pre,[],a,e,_,o=>by
  have s:xs.length=pre.length:=by rw[e];simp
  have c:(l.map bF)[pc.length]? = some (bF d):=by rw[hl];exact bZ _ _ _ _
  have j:=Np d H h b;refine aZ (AV _ _ _ _ _ _ _) ?_;generalize cV d=xx at j ⊢;obtain⟨k,⟨dn,vs,cs⟩,n,⟨tn,ts⟩,fs,⟨ek,em,en,ea,ex,ps⟩⟩:=d;simp only[bF]at j c;simp only[dR ll,bP,aS,s,aio,aip,aq,TD,aO,aB c,ao,ax,ai j,cW,show min (a+0) 2001=a by omega]
 |pre,t::suf,a,e,ho,o=>by
  simp only[Ty.oks]at ho;have hi:pre.length<xs.length:=by rw[e];simp
  have u:decide ((pre.length:Int)<(xs.length:Int))=true:=by simp;exact hi
  have p:(cp xs)[pre.length]? = some (dJ t):=by rw[e];exact gG _ _ _
  have f:=Qy t 1 a H ho.1 (by omega) o;have f:am 123 [.agg (dJ t),.i 1,.i a] H=_:=f;have ih:=Tt l pc d sc hl h b xs r H (pre++[t]) suf (min (a+Ak t 1) 2001) (by rw[e];simp) ho.2 (by omega);refine aZ (AV _ _ _ _ _ _ _) ?_;rw[cW,show min (a+(Ak t 1+cW suf 1)) 2001=min (min (a+Ak t 1) 2001+cW suf 1) 2001 by omega];generalize Ak t 1=q at f ih ⊢;obtain⟨tn,tas⟩:=t;simp only[dJ]at f p;simp only[aae,aaQ]at ih;simp only[dR ll,bP,aS,u,aq,ge,jw ll Hm p,vA,ai f,aA (show pre.length<2^62 by omega)];exact ih
def Tu(l:List De)(ic:Nat)(xs:List Ex)(f:xs.length<2^62)(H:DH):∀ pre suf (a:Nat),xs=pre++suf->Ex.oks suf->a<=2001 ->
 ac av 65 200012 [.lp 0 0,.n a,.n ic,.g (.row 6 (cm xs)),.n pre.length] [(0,[.row 14 (l.map bF)])] H
  = ac av 65 200003 [.lp 0 0,.n (min (a+eE suf 1) 2001:Nat),.n (bD ((ic:Int)+1))] [(0,[.row 14 (l.map bF)])] H
 |pre,[],a,e,_,c=>by
  have h:xs.length=pre.length:=by rw[e];simp
  refine aZ (AU _ _ _ _ _ _ _) ?_;simp only[dR Ui,bQ,aS,h,aio,aip,aq,TD,eE,show min (a+0) 2001=a by omega]
 |pre,t::suf,a,e,ho,c=>by
  simp only[Ex.oks]at ho;have hi:pre.length<xs.length:=by rw[e];simp
  have j:decide ((pre.length:Int)<(xs.length:Int))=true:=by simp;exact hi
  have d:(cm xs)[pre.length]? = some (cP t):=by rw[e];exact iH _ _ _
  have b:=QA t 1 a H ho.1 (by omega) c;have b:am 124 [.agg (cP t),.i 1,.i a] H=_:=b;have ih:=Tu l ic xs f H (pre++[t]) suf (min (a+xI t 1) 2001) (by rw[e];simp) ho.2 (by omega);refine aZ (AU _ _ _ _ _ _ _) ?_;rw[eE,show min (a+(xI t 1+eE suf 1)) 2001=min (min (a+xI t 1) 2001+eE suf 1) 2001 by omega];generalize xI t 1=q at b ih ⊢;obtain⟨tk,tm,tn,ta,tas,tps⟩:=t;simp only[cP]at b d;simp only[aae,aaQ]at ih;simp only[dR Ui,bQ,aS,j,aq,ge,jw Ui s86 d,Sd,ai b,aA (show pre.length<2^62 by omega)];exact ih
def Tv(l:List De)(hl:l.length<2^62)(H:DH):∀(pre suf:List De) (a:Nat),l=pre++suf->(∀ d∈suf,d.ok2)->a<=2001 ->
 ac av 65 200003 [.lp 0 0,.n a,.n pre.length] [(0,[.row 14 (l.map bF)])] H=ret (.i (min (a+ig suf) 2001:Nat)) H
 |pre,[],a,e,_,o=>by
  have q:l.length=pre.length:=by rw[e];simp
  refine aZ (AW _ _ _ _ _) ?_;simp only[aby,q,aio,aip,TD,ig,show min (a+0) 2001=a by omega]
 |pre,d::suf,a,e,h,o=>by
  have hi:pre.length<l.length:=by rw[e];simp
  have r:decide ((pre.length:Int)<(l.length:Int))=true:=by simp;exact hi
  have c:(l.map bF)[pre.length]? = some (bF d):=by rw[e];exact bZ _ _ _ _
  have ho:=h d (aeK ..);have f:=LC d H ho.ok ho.cs;have j:=Tt l pre d suf e ho.ok ho.fs (dB d) (rL ho).2 H [] (dB d) a rfl (rL ho).1 o;have j:ac av 65 200007 [.lp 0 0,.n a,.n pre.length,.g (.row 2 (cp (dB d))),.n 0] [(0,[.row 14 (l.map bF)])] H=_:=j;have p:=Tu l pre.length (cV d) (sX ho.ok).2 H [] (cV d) (min (a+cW (dB d) 1) 2001) rfl (sX ho.ok).1 (by omega);have ih:=Tv l hl H (pre++[d]) suf (min (min (a+cW (dB d) 1) 2001+eE (cV d) 1) 2001) (by rw[e];simp) (fun x s=>h x (abE _ s)) (by omega);simp only[aae,aaQ]at ih;rw[aA (show pre.length<2^62 by omega),ih]at p;have m:=j.trans p;rw[ig,KG,show min (a+(cW (dB d) 1+eE (cV d) 1+ig suf)) 2001=min (min (min (a+cW (dB d) 1) 2001+eE (cV d) 1) 2001+ig suf) 2001 by omega];refine aZ (AW _ _ _ _ _) ?_;generalize dB d=tt at f m ⊢;generalize cV d=xx at m ⊢;obtain⟨k,⟨dn,vs,cs⟩,n,⟨tn,ts⟩,fs,⟨ek,em,en,ea,ex,ps⟩⟩:=d;simp only[bF]at c f;simp only[aby,r,ge,aO,aB c,ao,ax,ai f];cases b:decide (a<=2000)with
  |false =>
   have hc2:¬ a<=2000:=by simpa using b
   simp only[DK,b,TD,show min (min (min (a+cW tt 1) 2001+eE xx 1) 2001+ig suf) 2001=a by omega]
  |true =>simp only[DK,b,ge];exact m
def YV(l:List De)(hl:l.length<2^62)(h:∀ d∈l,d.ok2)(H:DH):am 65 [.agg [.row 14 (l.map bF)]] H=ret (.i (min (ig l) 2001:Nat)) H:=by have w:=Tv l hl H [] l 0 rfl h (by omega);refine ev (f65 _ _ _) ?_;rw[aiv]at w;exact w
end Go.Proofs.YtpghiabjaglpgaaGreatDoor
namespace Go.Proofs.YtpghiabjaglpgaaGreatDoor
open Go.AI
variable{kind:af->Int}(K:YB kind)
def RT(d s:Nat)(H:DH):am 63 [.i d,.i s] H=ret (.i (bif decide (d>100)then 6 else bif decide (s>2000)then 2 else 0)) H:=by refine ev (f63 _ _ _ _) ?_;simp only[FH,DL];cases decide (d>100)<;>cases decide (s>2000)<;>rfl
def UI(v:Int)(q:Bool)(H:DH):am 66 [.i v,.bool q] H=ret (.i (bif v==0 then(bif q then 0 else 21)else v)) H:=by refine ev (f66 _ _ _ _) ?_;cases hv:v==0<;>cases q<;>simp_all
include K
def DQ(l:List De)(hl:l.length<2^62)(H:DH):∀(pre suf:List De) (v:Int),l=pre++suf->(∀ d∈suf,d.ok) ->
 ac av 35 200005 [.lp 0 0,.n v,.n pre.length] [(0,[.row 14 (l.map bF)])] H=ret (.i (bif v==0 then(bif suf.all (dE kind)then 0 else 21)else v)) H
 |pre,[],v,e,_=>by
  have g:l.length=pre.length:=by rw[e];simp
  refine aZ (Bg _ _ _ _ _) ?_;simp only[aby,g,aio,aip,TD,aku,ge];cases b:v==0<;>simp_all
 |pre,d::suf,v,e,h=>by
  have hi:pre.length<l.length:=by rw[e];simp
  have f:decide ((pre.length:Int)<(l.length:Int))=true:=by simp;exact hi
  have a:(l.map bF)[pre.length]? = some (bF d):=by rw[e];exact bZ _ _ _ _
  have c:=Ij K d H (h d (aeK ..));have ih:=DQ l hl H (pre++[d]) suf (bif v==0 then(bif dE kind d then 0 else 21)else v) (by rw[e];simp) (fun x j=>h x (abE _ j));simp only[aae,aaQ]at ih;refine aZ (Bg _ _ _ _ _) ?_;rw[ajb];generalize dE kind d=q at c ih ⊢;generalize suf.all (dE kind)=r at ih ⊢;obtain⟨k,⟨dn,vs,cs⟩,n,⟨tn,ts⟩,fs,⟨ek,em,en,ea,ex,ps⟩⟩:=d;simp only[bF]at a c;cases b:v==0 with
  |false=>simp only[aby,f,ge,TD]
  |true =>simp only[b,ge]at ih;simp only[aby,f,ge,aO,aB a,ao,ax,ai c,ai (UI _ _ _),b,aA (show pre.length<2^62 by omega),ih];cases q<;>cases r<;>rfl
def WM(l:List De)(hl:l.length<2^62)(h:∀ x∈l,x.ok2)(H:DH):am 35 [.agg [.row 14 (l.map bF)]] H=ret (.i (cu kind l)) H:=by
 refine ev (f35 _ _ _) ?_;have hm:decide (min (ig l) 2001>2000)=decide (ig l>2000):=by rw[aiz];simp;omega
 have w (v:Int):ac av 35 200005 [.lp 0 0,.n v,.n 0] [(0,[.row 14 (l.map bF)])] H=_:=DQ K l hl H [] l v rfl (fun x a=>(h x a).ok);simp only[aU (WD l hl h H),aU (YV l hl h H),aU (RT _ _ H),aby,Sz,aT,aq,hm,w,cu];cases decide (nh l>100)<;>cases decide (l.length>60)<;>cases decide (ig l>2000)<;>cases l.all (dE kind)<;>rfl
end Go.Proofs.YtpghiabjaglpgaaGreatDoor
namespace Go.Proofs.YtpghiabjaglpgaaGreatDoor
open Go.AI
def VU(o n i:Nat)(κ:D->au):aD ab 90 (.buf 12 o n) (.i i) κ=boK (Nat.blt i n) (κ (.bptr o n i 0)):=by kernel_rfl
structure gd(H:DH)(n:Nat)(G:Pg):Prop where
 o:∃ st,H[n+5]? = some (.cells st [.row 14 (G.ds.map bF),.buf 11 (n+1) G.ns.length,.buf 7 (n+2) G.bs.length,.buf 1 (n+3) G.rs.length,.buf 1 (n+4) G.cs.length,.map n])
 m:H[n]? = some (.map (mC G.m))
 ns:H[n+1]? = some (.buf 11 true false (G.ns.map zP))
 bs:H[n+2]? = some (.buf 7 true false (G.bs.map qd))
 rs:∃ b,H[n+3]? = some (.buf 1 b false (nC G.rs))
 cs:H[n+4]? = some (.buf 1 true false (nC G.cs))
def fy{H:DH}{o:Nat}{b:DB}(X:DH)(h:H[o]? = some b):(H++X)[o]? = some b:=Ji X h
def gd.app{H:DH}{n:Nat}{G:Pg}(h:gd H n G)(X:DH):gd (H++X) n G:=by obtain⟨⟨st,h0⟩,a,c,d,⟨b,e⟩,f⟩:=h;exact⟨⟨st,fy X h0⟩,fy X a,fy X c,fy X d,⟨b,fy X e⟩,fy X f⟩
def Zj(H:DH)(st:Nat)(G:Pg):gd (PX H st G []) H.length G :=
 ⟨⟨st,xF H st G []⟩,UV H st G [],UU H st G [],UX H st G [],⟨true,Zf H st G []⟩,UW H st G []⟩
structure kC(H:DH)(n:Nat)(G:Rf):Prop where
 o:∃ st,H[n+5]? = some (.cells st [.row 14 (G.ds.map bF),.buf 12 n G.ns.length,.buf 5 (n+1) G.fs.length,.buf 1 (n+2) G.nm.length,.buf 1 (n+3) G.dn.length,.buf 4 (n+4) G.rs.length])
 ns:H[n]? = some (.buf 12 true false (G.ns.map qb))
 fs:H[n+1]? = some (.buf 5 true false (G.fs.map vh))
 rs:H[n+4]? = some (.buf 4 true false (G.rs.map YZ))
def kC.app{H:DH}{n:Nat}{G:Rf}(h:kC H n G)(X:DH):kC (H++X) n G:=by obtain⟨⟨st,h0⟩,a,b,c⟩:=h;exact⟨⟨st,fy X h0⟩,fy X a,fy X b,fy X c⟩
def acj(H:DH)(st:Nat)(G:Rf):kC (RX H st G) H.length G:=⟨⟨st,zf H st G⟩,acf H st G,acg H st G,abZ H st G⟩
def Sa(s o n:Nat)(H:DH)(κ:D->au):aY ab 25 (.buf s o n) H κ=κ (.i (n:Int)):=by kernel_rfl
def ZJ(s o n:Nat)(H:DH)(κ:D->au):aY ab 92 (.buf s o n) H κ=κ (.i (n:Int)):=by kernel_rfl
def nL(m:Mc)(nodes runs:Nat):Bool :=
 bif m.mo==1 then decide (m.ex>=0)&&(decide (m.ex<(nodes:Int))&&(cS m m.en m.ce.length&&((m.vc==false&&m.vn==0)&&(decide (m.bo>=0)&&decide (m.bo<(runs:Int))))))
 else bif m.mo==2 then m.ex==0&&(m.en==-1&&(bK m ⟨m.vc,m.vn⟩ m.ce.length&&(decide (m.bo>=0)&&decide (m.bo<(runs:Int)))))
 else bif m.mo==3 then m.ex==0&&(m.en==-1&&((m.vc==false&&m.vn==0)&&((m.fr.length:Int)==0&&m.bo==(runs:Int))))else false
def ZB(m:Mc){H:DH}{n:Nat}{G:Pg}(h:gd H n G):am 136 [.ptr (n+5) 0,.agg (bu m)] H=ret (.bool (nL m G.ns.length G.rs.length)) H:=by obtain⟨st,h0⟩:=h.o;refine ev (ahA _ _ _ _) ?_;have e:=Ta m m.en m.ce.length (akL _) H;have r:=Ht m ⟨m.vc,m.vn⟩ m.ce.length (akL _) H;simp only[aby,aU e,aU r,ae h0,ao,ax,MR,Sa,aS,aT,aq,bg,aim,nL]
def ZA(m:Mc){H:DH}{n:Nat}{G:Rf}(h:kC H n G):am 102 [.ptr (n+5) 0,.agg (bu m)] H=ret (.bool (nL m G.ns.length G.rs.length)) H:=by obtain⟨st,h0⟩:=h.o;refine ev (ahZ _ _ _ _) ?_;have e:=SZ m m.en H;have r:=QR m ⟨m.vc,m.vn⟩ H;simp only[aby,aU e,aU r,ae h0,ao,ax,HS,ZJ,aS,aT,aq,bg,aim,nL]
def yF{α:Type}(p:α->Bool):∀ l:List α,(!(l.any fun r=>!p r))=l.all p
 |[]=>rfl
 |x::r=>by rw[akS,ajb,Bool.not_or,yF p r,Bool.not_not]
def Te(e:Ex)(n:Nat):Bool:=match e with
 |.mk k _ _ _ xs _=>bif k==6||k==8 then(n:Int)==0 else bif k==3||(k==4||k==9)then decide ((n:Int)<(xs.length:Int))else false
def jl(m:Mc)(es:List Ex)(f:Fm):Bool:=bif decide (f.ex<0)then false else match es[f.ex.toNat]? with
 |none=>false
 |some e=>cS m f.en m.ce.length&&(f.dn.all (fun r=>bK m r m.ce.length)&&Te e f.dn.length)
def afG(m:Mc)(H:DH)(a s:Nat)(b:H[a]? = some (.cells s (bu m)))(f:Fm)(c:f.dn.length<2^61)(v:Int) :
 ac av 140 13 [.g (.ptr a 0),.lp 0 0,.n v] [(0,AD f)] H=ret (.bool (decide ((f.dn.length:Int)<=v)&&f.dn.all fun r=>bK m r m.ce.length)) H:=by
 refine aZ (Wl _ _ _ _ _ _ _) ?_;have d:aW bY 209=true:=by kernel_rfl
 have h:=Jm 209 [.ptr a 0] d (fun r=>!bK m r m.ce.length) H f.dn (fun r _=>aaZ m H a s b r) c;simp only[aby,ai h,aH,yF,bg,aim]
def afA(a b c d e f g h i j k l:D)(κ:D->au):cR ab 86 [a,b,c,d,e,f,g,h,i,j,k,l] 0 κ=κ (.agg [a,b,c,d,e,f]):=by kernel_rfl
def acW(o n i:Nat)(H:DH)(κ:D->au):cH ab 86 (.bptr o n i 0) H κ=ew H o n fun _ _ _ l=>ba l i fun cs=>cR ab 86 cs 0 κ:=by kernel_rfl
def afm(g h i j k l a b c d e f:D)(κ:List D->au):aE [g,h,i,j,k,l] 0 [a,b,c,d,e,f] κ=κ [a,b,c,d,e,f]:=rfl
def dj{α:Type}{H:DH}{o sz:Nat}{st cap:Bool}{f:α->List D}{l:List α}{κ:Nat->Bool->Bool->aR->au}(h:H[o]? = some (.buf sz st cap (l.map f))):ew H o l.length κ=κ sz st cap (l.map f):=by
 have:=du (κ:=κ) h
 rwa [aby]at this
def bm{α:Type}{f:α->List D}{l:List α}{i:Nat}{x:α}(h:l[i]? = some x)(κ:List D->au):ba (l.map f) i κ=κ (f x):=aB (by rw[aiO,h];rfl)
def Wb(m:Mc){H:DH}{n:Nat}{G:Pg}(h:gd H n G)(f:Fm)(l:f.dn.length<2^61)(p:∀ x∈G.ns,x.e.ok):am 140 [.ptr (n+5) 0,.agg (bu m),.agg (AD f)] H=ret (.bool (jl m (G.ns.map (·.e)) f)) H:=by
 refine ev (ahy _ _ _ _ _ _ _) ?_;refine(aiK (aX H) ?_).trans (xZ _ H [.cells 0 (bu m)]);have hA:=h.app [.cells 0 (bu m)];obtain⟨st,h0⟩:=hA.o;have hm:(H++[DB.cells 0 (bu m)])[H.length]? = some (.cells 0 (bu m)):=bt _ _;generalize hH:H++[DB.cells 0 (bu m)]=g at *;rw[jl];cases d:decide (f.ex<0)with
 |true=>rfl
 |false =>
  have g0:0<=f.ex:=by have:=akw d;omega
  obtain⟨i,hi⟩:=ajB g0;simp only[TD,ae h0,ao,ax,MR,cX,aq,hi,aiZ];by_cases a:i<G.ns.length
  ·rw[abz (show ¬((i:Int)>=(G.ns.length:Int))by omega),TD];have b:G.ns[i]? = some G.ns[i]:=abF a;have c:=p _ (akg a);rw[show(G.ns.map (·.e))[i]? = some G.ns[i].e by rw[aiO,b];rfl];generalize G.ns[i]=x at b c;have e:=Ta m f.en m.ce.length (akL _) g;have j (v:Int):=afG m g H.length 0 hm f l v;simp only[AD,hi]at j;obtain⟨⟨k,mm,nm,ag,xs,ps⟩,xd,xf,xp,xb,xr⟩:=x;rw[Ex.ok]at c;have q:bD ((xs.length:Int) - 1)=(xs.length:Int) - 1:=jf (by omega) (by have:=c.1;omega);have s:decide ((f.dn.length:Int)<=(xs.length:Int) - 1)=decide ((f.dn.length:Int)<(xs.length:Int)):=ajI.2 (by omega);have t:decide ((f.dn.length:Int)<=0)=((f.dn.length:Int)==0):=by rw[aiz];simp
   simp only[ae hm,ao,ax,oN,aby,aU e,aH,aq];cases cS m f.en m.ce.length with
   |false=>rfl
   |true =>simp only[aid,TD,ae h0,ao,ax,ZT,il a,boK,ge,acV,dj hA.ns,bm b,zP,afz,aig,afr,MQ,bQ,nz,aT,aq,j,q,s,t,bg,Te,aeG];generalize(f.dn.all fun r=>bK m r m.ce.length)=u;generalize decide ((f.dn.length:Int)<(xs.length:Int))=w;generalize((f.dn.length:Int)==0)=y;cases k==6<;>cases k==8<;>cases k==3<;>cases k==4<;>cases k==9<;>cases u<;>cases w<;>cases y<;>rfl
  ·rw[abC (show((i:Int)>=(G.ns.length:Int))by omega),ge,aeF (by rw[aby];omega)]
def Wa(m:Mc){H:DH}{n:Nat}{G:Rf}(h:kC H n G)(f:Fm)(g:f.dn.length<2^61):am 105 [.ptr (n+5) 0,.agg (bu m),.agg (AD f)] H=ret (.bool (jl m (G.ns.map (·.e)) f)) H:=by
 refine ev (ahW _ _ _ _ _ _ _) ?_;obtain⟨st,h0⟩:=h.o;rw[jl];cases c:decide (f.ex<0)with
 |true=>rfl
 |false =>
  have g0:0<=f.ex:=by have:=akw c;omega
  obtain⟨i,hi⟩:=ajB g0;simp only[TD,ae h0,ao,ax,HS,cX,aq,hi,aiZ];by_cases d:i<G.ns.length
  ·rw[abz (show ¬((i:Int)>=(G.ns.length:Int))by omega),TD];have b:G.ns[i]? = some G.ns[i]:=abF d;rw[show(G.ns.map (·.e))[i]? = some G.ns[i].e by rw[aiO,b];rfl];generalize G.ns[i]=x at b;have e:=SZ m f.en H;have a:=NW m f.dn g H;obtain⟨⟨k,mm,nm,ag,xs,ps⟩,xd,xf,xp,xb,xz,xr⟩:=x;simp only[aU e,aU a,aH,aq];cases cS m f.en m.ce.length with
   |false=>rfl
   |true =>
    cases f.dn.all fun r=>bK m r m.ce.length with
    |false=>rfl
    |true =>simp only[aid,TD,ae h0,ao,ax,VU,il d,boK,ge,oZ,aiv,acW,dj h.ns,bm b,qb,afA,ce6,afm,MQ,bQ,aS,aT,aq,aby,bg,Te,aeG];generalize decide ((f.dn.length:Int)<(xs.length:Int))=j;generalize((f.dn.length:Int)==0)=l;cases k==6<;>cases k==8<;>cases k==3<;>cases k==4<;>cases k==9<;>cases j<;>cases l<;>rfl
  ·rw[abC (show((i:Int)>=(G.ns.length:Int))by omega),ge,aeF (by rw[aby];omega)]
def GU(b:Bool)(H:DH)(x y:DB):aX H (ret (.bool b) (H++[x]++[y]))=ret (.bool b) H:=by rw[aix];exact xZ _ _ _
def ZU(l:aR)(i:Nat)(κ:D->au):aD ab 39 (.row 5 l) (.i i) κ=ba l i fun cs=>κ (.eptr cs 0):=by kernel_rfl
def ade(a b c d e:D)(H:DH)(κ:D->au):cH ab 115 (.eptr [a,b,c,d,e] 0) H κ=κ (.agg [a,b,c,d,e]):=by kernel_rfl
def aep(a b c d e:D)(κ:List D->au):aj 5 (.agg [a,b,c,d,e]) κ=κ [a,b,c,d,e]:=rfl
def afp(f g h i j a b c d e:D)(κ:List D->au):aE [f,g,h,i,j] 0 [a,b,c,d,e] κ=κ [a,b,c,d,e]:=rfl
def ra(l:aR)(H:DH)(κ:D->au):aY ab 109 (.row 2 l) H κ=κ (.i l.length):=by kernel_rfl
def Nc(x:List D)(l:aR)(κ:D->au):aD ab 109 (.row 2 (x::l)) (.i 0) κ=κ (.eptr x 0):=by kernel_rfl
def VK(a b:D)(H:DH)(κ:D->au):cH ab 37 (.eptr [a,b] 0) H κ=κ (.agg [a,b]):=by kernel_rfl
def Se(cs:List D)(n:Nat)(H:DH)(κ:D->au):cH ab 3 (.eptr cs n) H κ=ah cs n κ:=by kernel_rfl
def aes(a c:Bool)(b d:Int)(κ:D->au):aw ab .eql 37 false (.agg [.bool a,.i b]) (.agg [.bool c,.i d]) κ=κ (.bool ((a==c)&&(b==d))):=by kernel_rfl
def acx(a b w:D)(κ:List D->au):aE [a,b] 1 [w] κ=κ [a,w]:=rfl
def Gv(n:Int)(κ:List D->au):aj 1 (.i n) κ=κ [.i n]:=rfl
def iO:List (Nat×af)->Int->Option af
 |[],_=>none
 |(k,a)::r,n=>bif n==(k:Int)then some a else iO r n
def RI(n:Int):∀ l:List (Nat×af),HM (.i n) (mC l)=some ((iO l n).map D.str)
 |[]=>rfl
 |(k,a)::r=>by have ih:=RI n r;simp only[mC]at ih;simp only[mC,aeL,HM,Aj,ih,iO];cases n==(k:Int)<;>rfl
def ZI{H:DH}{o:Nat}{l:List (Nat×af)}(h:H[o]? = some (.map (mC l)))(n:Int)(κ:D->au):nN ab 80 (.map o) (.i n) true H κ=match iO l n with
 |some a=>κ (.tuple [.str a,.bool true])
 |none=>κ (.tuple [.str [],.bool false]):=by
 have e:nN ab 80 (.map o) (.i n) true H κ=qX H o fun es=>vw (.i n) es fun r=>lw ab 9 true r κ:=by kernel_rfl
 have b:lw ab 9 true none κ=κ (.tuple [.str [],.bool false]):=by kernel_rfl
 rw[e,lO h,vw,RI];cases iO l n with
 |none=>exact b
 |some a=>rfl
def nxt(m:Mc)(i:Nat):Int:=match m.ce[i]? with
 |some c=>c.nx
 |none=>0
def Hu(m:Mc)(i:Nat)(l:List Re):Bool:=match l with
 |[r]=>bif r.c&&r.n==((i+1:Nat):Int)then decide (((i+1:Nat):Int)<(m.ce.length:Int))&&(kd m ((i+1:Nat):Int)==2&&nxt m (i+1)==(i:Int))else bK m r i
 |_=>false
def xq(m:Mc)(mp:List (Nat×af))(i:Nat)(c:Ce):Bool :=
 bif c.k==1 then(c.con==[44]||br c.con==3)&&(decide ((c.refs.length:Int)<=16)&&(c.n==0&&(c.nx==-1&&c.refs.all fun r=>bK m r i)))
 else bif c.k==2 then(match iO mp c.n with
  |none=>false
  |some a=>br c.con==2&&(a==c.con&&((c.refs.length:Int)==0&&cS m c.nx i)))
 else bif c.k==3 then br c.con==2&&(c.n==0&&((c.refs.length:Int)==1&&(cS m c.nx i&&Hu m i c.refs)))else false
def Sp(m:Mc){H:DH}{n:Nat}{G:Pg}(h:gd H n G)(i:Nat)(c:Ce)(hc:m.ce[i]? = some c)(hl:m.ce.length<2^61)(hr:c.refs.length<2^61):am 135 [.ptr (n+5) 0,.agg (bu m),.i i] H=ret (.bool (xq m G.m i c)) H:=by
 have hi:i<m.ce.length:=(aez.1 hc).1;refine ev (ahB _ _ _ _ _) ?_;refine(aiK (aX H) ?_).trans (GU _ H (.cells 0 (bu m)) (.cells 0 [.i i]));dsimp only;have hA:=(h.app [.cells 0 (bu m)]).app [.cells 0 [.i i]];obtain⟨st,h0⟩:=hA.o;have j:(H++[DB.cells 0 (bu m)]++[iw i])[H.length]? = some (.cells 0 (bu m)):=fy _ (bt _ _);have hb:(H++[DB.cells 0 (bu m)]++[iw i])[(H++[DB.cells 0 (bu m)]).length]? = some (.cells 0 [.i i]):=bt _ _;generalize(H++[DB.cells 0 (bu m)]).length=q at *;generalize hH:H++[DB.cells 0 (bu m)]++[iw i]=g at *;have w:aW bY 203=true:=by kernel_rfl
 have f:=Jm 203 [.ptr H.length 0,.ptr q 0] w (fun r=>!bK m r i) g c.refs (fun r _=>aba m i (by omega) g H.length q 0 0 j hb r) hr;have e:=Ta m c.nx i (by omega) g;have u:=mT ZR c.con g;have l:=oO ZR c.con g;obtain⟨ck,con,cn,refs,nx⟩:=c;simp only at f e u l hr;rw[xq];simp only[ae j,ae hb,ao,ax,ZU,bm hc,jq,ade,aep,afp,aT,aq];cases h1:ck==1 with
 |true =>simp only[ge,cF,aq,ra,aby,tB,aT,ai f,ai u,aH,yF,bg,aim];refine aiK (fun b=>ret (.bool b) g) ?_;cases con==[44]<;>cases br con==3<;>rfl
 |false =>
  simp only[TD];cases h2:ck==2 with
  |true =>
   simp only[ge,ae h0,ao,ax,ZI hA.m];cases iO G.m cn with
   |none=>rfl
   |some a =>simp only[gb,ao,ax,aq,ge,ai l,cF,ra,aby,aT,ae j,ae hb,ai e,bg,aim]
  |false =>
   simp only[TD];cases h3:ck==3 with
   |false=>rfl
   |true =>
    simp only[ge,ai l,aH,aq,ra,aby,dX];cases hk:br con==2 with
    |false=>rfl
    |true =>
     simp only[aid,TD,aeG];cases v:cn==0 with
     |false=>simp only[bne,v,aih,ge,aeH]
     |true =>
      simp only[bne,v,aid,TD,aeG];match refs,hr with
      |[],_=>rfl
      |r::s::t,_ =>
       have:(((r::s::t).length:Int)==1)=false:=by simp;omega
       rw[this];rfl
      |[r],_ =>
       simp only[aaQ,aeL,ajX,ae j,ae hb,ao,ax,ai e,aH,aq];cases cS m nx i with
       |false=>rfl
       |true =>
        have x:bD ((i:Int)+1)=((i+1:Nat):Int):=aA (by omega);have y:=Ht m r i (by omega) g;simp only[Jy,aid,TD,aeG,Nc,VK,bH,x,Gv,acx,aes,aq,oN,aby,aS,Hu,aiW,beq_true];rw[show(((1:Nat):Int)==1)=true from rfl];simp only[aid,TD,aeG,aU y];cases r.c&&r.n==((i+1:Nat):Int)with
        |false=>rfl
        |true =>
         by_cases p:i+1<m.ce.length
         ·rw[abC (show((i+1:Nat):Int)<(m.ce.length:Int)by omega)];have d:m.ce[i+1]? = some m.ce[i+1]:=abF p;generalize m.ce[i+1]=c2 at d;have z:kd m ((i+1:Nat):Int)=c2.k:=by rw[kd,aiZ,d]
          have A:nxt m (i+1)=c2.nx:=by rw[nxt,d]
          simp only[ge,ZU,bm d,oY,aiv,Se,jq,ao,ax,aT,aq,z,A,aeG,bg,aim]
         ·rw[abz (show ¬((i+1:Nat):Int)<(m.ce.length:Int)by omega)];rfl
def ZV(l:aR)(i:Nat)(κ:D->au):aD ab 109 (.row 2 l) (.i i) κ=ba l i fun cs=>κ (.eptr cs 0):=by kernel_rfl
def acT(o n i:Nat)(H:DH)(κ:D->au):cH ab 9 (.bptr o n i 11) H κ=ew H o n fun _ _ _ l=>ba l i fun cs=>cR ab 9 cs 11 κ:=by kernel_rfl
def lc9(cs:List D)(i:Nat)(κ:D->au):cR ab 9 cs i κ=ah cs i κ:=by kernel_rfl
def KF(s:af)(H:DH):∃ k,am 170 [.str s] H=ret (.i k) H/\∀ j,2<=j->(k==j)=(br s==j):=by obtain⟨k,a,c⟩:=ZR.b s H;exact⟨k,a,fun j d=>kq c d⟩
def LL(c:Ce):Bool:=(c.con==[44]||br c.con==3)&&(decide ((c.refs.length:Int)<=16)&&(c.n==0&&c.nx==-1))
def Dh(i:Int)(c:Ce)(hl:c.refs.length<2^61)(H:DH):∀ suf pre,c.refs=pre++suf ->
 ac av 104 200007 [.n i,.lp 1 0,.n (pre.length:Nat)] [(0,[]),(0,jq c)] H=ret (.bool ((suf.all fun r=>!(r.c&&decide (r.n>=i)))&&LL c)) H
 |[],pre,e=>by
  refine aZ (wS _ _ _ _ _ _ _ _ _) ?_;have:c.refs.length=pre.length:=by rw[e];simp
  obtain⟨k,hk,a⟩:=KF c.con H;simp only[ra,aby,aS,aq];rw[this,abz (show ¬((pre.length:Nat):Int)<(pre.length:Nat)from fun q=>by omega),TD];simp only[cF,tB,aT,aq,ai hk,a 3 (by decide),bg,aim,aku,aeG,LL,this];refine aiK (fun b=>ret (.bool b) H) ?_;cases c.con==[44]<;>cases br c.con==3<;>rfl
 |r::suf,pre,e=>by
  have hi:pre.length<c.refs.length:=by rw[e];simp
  have ih:=Dh i c hl H suf (pre++[r]) (by rw[e];simp);simp only[aae,aaQ]at ih;simp only[jq]at ih;refine aZ (wS _ _ _ _ _ _ _ _ _) ?_;simp only[ra,aby,aS,aq];rw[abC (show((pre.length:Nat):Int)<(c.refs.length:Int)by omega),ge];simp only[ZV,aB (QZ c.refs pre r suf e),oY,aiv,VI,Se,ao,ax,cX,aq,aA (show pre.length<2^62 by omega),ih,ajb];cases r.c<;>cases decide (r.n>=i)<;>rfl
def HC(c d a b:D)(κ:List D->au):aE [c,d] 0 [a,b] κ=κ [a,b]:=rfl
def qp(ns:List Fn)(n:Int):af:=match ns[n.toNat]? with
 |some x=>x.par
 |none=>[]
def zr(m:Mc)(i:Nat)(l:List Re):Bool:=match l with
 |[r]=>!r.c||(decide (r.n<(i:Int))||(r.n==((i+1:Nat):Int)&&(kd m ((i+1:Nat):Int)==2&&nxt m (i+1)==(i:Int))))
 |_=>false
def Em(m:Mc)(ns:List Fn)(i:Nat)(c:Ce):Bool :=
 (c.refs.all fun r=>bK m r m.ce.length)&&(bif c.k==1 then(c.refs.all fun r=>!(r.c&&decide (r.n>=(i:Int))))&&LL c
 else bif c.k==2 then decide (c.n>=0)&&(decide (c.n<(ns.length:Int))&&(!(c.con==[])&&(qp ns c.n==c.con&&((c.refs.length:Int)==0&&(cS m c.nx m.ce.length&&decide (c.nx<(i:Int)))))))
 else bif c.k==3 then br c.con==2&&(c.n==0&&((c.refs.length:Int)==1&&(cS m c.nx m.ce.length&&(!decide (c.nx>=(i:Int))&&zr m i c.refs))))else false)
def So(m:Mc){H:DH}{n:Nat}{G:Rf}(h:kC H n G)(i:Nat)(c:Ce)(hc:m.ce[i]? = some c)(hl:m.ce.length<2^61)(hr:c.refs.length<2^61):am 104 [.ptr (n+5) 0,.agg (bu m),.i i] H=ret (.bool (Em m G.ns i c)) H:=by
 have hi:i<m.ce.length:=(aez.1 hc).1;obtain⟨st,h0⟩:=h.o;have q:=NW m c.refs hr H;have hloop:=Dh i c hr H c.refs [] rfl;have e:=SZ m c.nx H;obtain⟨k,hk,u⟩:=KF c.con H;refine ev (ahX _ _ _ _ _) ?_;rw[Em];obtain⟨ck,con,cn,refs,nx⟩:=c;simp only[aiC]at q hloop e hk u hr;simp only[jq]at hloop;simp only[aO,bm hc,jq,ao,ax,ai q,aH,aq];cases d:refs.all fun r=>bK m r m.ce.length with
 |false=>simp only[aih,ge,aeH]
 |true =>
  simp only[aid,TD,aeG,aT,aq];cases h1:ck==1 with
  |true =>simp only[ge];exact hloop
  |false =>
   simp only[TD];cases h2:ck==2 with
   |true =>
    simp only[ge,cX,aS,ae h0,ao,ax,HS,aq];cases w:decide (cn>=0)with
    |false=>rfl
    |true =>
     have g0:0<=cn:=aiF w;obtain⟨j,rfl⟩:=ajB g0;by_cases b:j<G.ns.length
     ·rw[abC (show((j:Nat):Int)<(G.ns.length:Int)by omega)];have f:G.ns[j]? = some G.ns[j]:=abF b;generalize G.ns[j]=x at f;have l:qp G.ns (j:Int)=x.par:=by rw[qp,aiZ,f]
      obtain⟨⟨k',mm,nm,ag,xs,ps⟩,xd,xf,xp,xb,xz,xr⟩:=x;simp only[ge,iX,VU,il b,boK,oZ,aiv,acT,dj h.ns,bm f,lc9,qb,ao,ax,cF,ra,aby,aT,aU e,aS,aq,bg,aim,l,aeG]
     ·rw[abz (show ¬((j:Nat):Int)<(G.ns.length:Int)by omega)];rfl
   |false =>
    simp only[TD];cases h3:ck==3 with
    |false=>rfl
    |true =>
     have p:(k != 2)=!(br con==2):=by rw[bne,u 2 (by decide)]
     simp only[ge,ai hk,dX,aq,p,ra,aby];cases br con==2 with
     |false=>simp only[aih,ge,aeH]
     |true =>
      simp only[aid,TD,aeG];cases v:cn==0 with
      |false=>simp only[bne,v,aih,ge,aeH]
      |true =>
       simp only[bne,v,aid,TD,aeG];rcases refs with _|⟨r,_|⟨s,t⟩⟩
       ·rfl
       rotate_left
       ·
        have:(((r::s::t).length:Int)==1)=false:=by simp;omega
        rw[this];rfl
       ·
        simp only[aaQ,aeL,ajX,ai e,aH,aq];rw[show(((1:Nat):Int)==1)=true from rfl];simp only[aid,TD,aeG];cases cS m nx m.ce.length with
        |false=>rfl
        |true =>
         have y:bD ((i:Int)+1)=((i+1:Nat):Int):=aA (by omega);simp only[aid,TD,aeG,cX,aq];cases decide (nx>=(i:Int))with
         |true=>rfl
         |false =>
          obtain⟨rc,rn⟩:=r;simp only[TD,aih,aeG,Jy,Nc,VK,ce2,HC,zr,ao,ax,aH,aq,aS,aT,y];cases rc with
          |false=>rfl
          |true =>
           simp only[aid,TD,ajf];cases decide (rn<(i:Int))with
           |true=>rfl
           |false =>
            cases g:rn==((i+1:Nat):Int)with
            |false=>rfl
            |true =>
             have g:=akj g;subst g;have b:i+1<m.ce.length:=by simp only[ajb,aku,aiW,bK,aid,ajf,abA]at d;have:=aiF d.2.1;omega
             have a:m.ce[i+1]? = some m.ce[i+1]:=abF b;generalize m.ce[i+1]=c2 at a;have l:kd m ((i+1:Nat):Int)=c2.k:=by rw[kd,aiZ,a]
             have z:nxt m (i+1)=c2.nx:=by rw[nxt,a]
             simp only[ge,TD,ZU,bm a,oY,aiv,Se,jq,ao,ax,aT,aq,l,z,aeG,ajf,bg,aim]
mutual
def jp:Va->Nat
 |.mk _ _ xs=>1+fK xs
def fK:List Va->Nat
 |[]=>0
 |v::r=>jp v+fK r
end
def SD(con:af)(n:Int)(len:Nat):Bool:=bif con==[] then(len:Int)==0 else n==0&&(bif con==[44] then decide ((len:Int)>=2)&&decide ((len:Int)<=4)else br con==3&&decide ((len:Int)<=16))
mutual
def fmV:Va->Bool
 |.mk c n xs=>xL xs&&SD c n xs.length
def xL:List Va->Bool
 |[]=>true
 |v::r=>fmV v&&xL r
end
mutual
def Va.ok:Va->Prop
 |.mk _ _ xs=>xs.length<2^61/\Va.oks xs
def Va.oks:List Va->Prop
 |[]=>True
 |v::r=>v.ok/\Va.oks r
end
def rJ:∀ l,jz l=l.map xB
 |[]=>rfl
 |t::r=>by simp[jz,rJ r]
def fA(l:List Va):(jz l).length=l.length:=by rw[rJ,aby]
def EE(pre:List Va)(v:Va)(suf:List Va):(jz (pre++v::suf))[pre.length]? = some (xB v):=by rw[rJ,bZ]
def IV(v:Va):1<=jp v:=by obtain⟨c,n,xs⟩:=v;rw[jp];omega
mutual
def Ys(H:DH):∀(v:Va),v.ok->∀ most:Int,0<=most->most<=100000->am 224 [.agg (xB v),.i most] H=ret (.i (min (jp v:Int) (most+1))) H
 |.mk c n xs,ho,most,h0,a=>by rw[Va.ok]at ho;rw[xB];refine ev (f224 _ _ _ _ _ _) ?_;have:=Ts H c n xs ho.1 xs [] rfl ho.2 most h0 a 1 (by omega) (by omega);rw[jp];simp only[aiC]at this;rw[show((1+fK xs:Nat):Int)=1+(fK xs:Int)by omega];exact this
def Ts(H:DH)(c:af)(n:Int)(xs:List Va)(hl:xs.length<2^61):∀(suf pre:List Va),xs=pre++suf->Va.oks suf->∀ most:Int,0<=most->most<=100000->∀ k:Int,1<=k->k<=most+1 ->
 ac av 224 200003 [.n most,.lp 0 0,.n k,.n pre.length] [(0,[.str c,.i n,.row 3 (jz xs)])] H=ret (.i (min (k+(fK suf:Int)) (most+1))) H
 |[],pre,e,_,most,h0,b,k,f,g=>by
  refine aZ (wb _ _ _ _ _ _ _ _) ?_;have:xs.length=pre.length:=by rw[e];simp
  rw[fA,er,this,abz (aiD _),TD,fK];rw[show min (k+((0:Nat):Int)) (most+1)=k by omega]
 |.mk xc xn xx::suf,pre,e,ho,most,h0,b,k,f,g=>by
  rw[Va.oks]at ho;have hi:pre.length<xs.length:=by rw[e];simp
  have a:(jz xs)[pre.length]? = some (xB (.mk xc xn xx)):=by rw[e];exact EE _ _ _
  refine aZ (wb _ _ _ _ _ _ _ _) ?_;rw[fA,er,abC hi,ge];by_cases hk:k<=most
  ·have d:=Ys H (.mk xc xn xx) ho.1 (most - k) (by omega) (by omega);have ih:=Ts H c n xs hl suf (pre++[.mk xc xn xx]) (by rw[e];simp) ho.2 most h0 b (k+min (jp (.mk xc xn xx):Int) (most - k+1)) (by omega) (by omega);simp only[aae,aaQ]at ih;have h:bD (most - k)=most - k:=jf (by omega) (by omega);have j:bD (k+min (jp (.mk xc xn xx):Int) (most - k+1))=k+min (jp (.mk xc xn xx):Int) (most - k+1):=jf (by omega) (by omega);rw[xB]at a d;rw[abC hk,ge];simp only[aO,aB a,ao,ax,h,ai d,bH,j,aA (show pre.length<2^62 by omega),ih];rw[fK];refine aiK (fun z:Int=>ret (.i z) H) ?_;omega
  ·rw[abz hk,TD,fK];have:=IV (.mk xc xn xx);refine aiK (fun z:Int=>ret (.i z) H) ?_;omega
end
mutual
def adQ(H:DH):∀(v:Va),v.ok->am 225 [.agg (xB v)] H=ret (.bool (fmV v)) H
 |.mk c n xs,ho=>by rw[Va.ok]at ho;rw[xB];refine ev (f225 _ _ _ _ _) ?_;exact Yl H c n xs ho.1 xs [] rfl ho.2
def Yl(H:DH)(c:af)(n:Int)(xs:List Va)(hl:xs.length<2^61):∀(suf pre:List Va),xs=pre++suf->Va.oks suf ->
 ac av 225 200002 [.lp 0 0,.n pre.length] [(0,[.str c,.i n,.row 3 (jz xs)])] H=ret (.bool (xL suf&&SD c n xs.length)) H
 |[],pre,e,_=>by
  refine aZ (wa _ _ _ _ _ _) ?_;have:xs.length=pre.length:=by rw[e];simp
  obtain⟨k,hk,f⟩:=KF c H;rw[fA,er,this,abz (aiD _),TD,xL,SD];simp only[ai hk,aT,f 3 (by decide),aq,bg,aim,aeG];refine aiK (fun b=>ret (.bool b) H) ?_;cases c==[]<;>cases c==[44]<;>cases n==0<;>rfl
 |.mk xc xn xx::suf,pre,e,ho=>by
  rw[Va.oks]at ho;have hi:pre.length<xs.length:=by rw[e];simp
  have a:(jz xs)[pre.length]? = some (xB (.mk xc xn xx)):=by rw[e];exact EE _ _ _
  have d:=adQ H (.mk xc xn xx) ho.1;have ih:=Yl H c n xs hl suf (pre++[.mk xc xn xx]) (by rw[e];simp) ho.2;simp only[aae,aaQ]at ih;refine aZ (wa _ _ _ _ _ _) ?_;rw[fA,er,abC hi,ge];rw[xB]at a d;simp only[aO,aB a,ao,ax,ai d,aH,aq,aA (show pre.length<2^62 by omega),ih];rw[xL];cases fmV (.mk xc xn xx)<;>rfl
end
def ED(v:Va):Bool:=decide ((jp v:Int)<=4000)&&fmV v
def abQ(H:DH)(v:Va)(ho:v.ok):am 162 [.agg (xB v)] H=ret (.bool (ED v)) H:=by have a:=Ys H v ho 4000 (by decide) (by decide);have b:=adQ H v ho;obtain⟨c,n,xs⟩:=v;rw[xB]at a b ⊢;refine ev (ahx _ _ _ _ _) ?_;have d:decide (min (jp (.mk c n xs):Int) (4000+1)<=4000)=decide ((jp (.mk c n xs):Int)<=4000):=ajI.2 (by omega);simp only[ai a,ai b,tB,aq,d,bg,aim,ED]
end Go.Proofs.YtpghiabjaglpgaaGreatDoor
