/- Lemmas. No conditions. -/
import Derived.Test.YtpghiabjaglpgaaGreatDoorP7
set_option linter.all false
noncomputable section
namespace Go.Proofs.YtpghiabjaglpgaaGreatDoor
open Go.AI
def Ho(H:DH)(o st:Nat)(c:Int):DH:=H.set o (.cells st [.i c])
def As{H:DH}{o:Nat}(h:o<H.length)(st:Nat)(c:Int):(Ho H o st c)[o]? = some (.cells st [.i c]):=by unfold Ho;rw[ajT h]
def rm(H:DH)(o st st':Nat)(c a:Int):(Ho H o st c).set o (.cells st' [.i a])=Ho H o st' a:=by unfold Ho;rw[aiQ]
def aem(cs:List D)(c:Nat)(κ:D->au):CJ (.eptr cs c) κ=κ (.eptr cs c):=rfl
def afy(cs:List D)(c:Nat)(H:DH)(κ:D->au):cH ab 70 (.eptr cs c) H κ=ah cs c κ:=by kernel_rfl
def ada(o c:Nat)(H:DH)(κ:D->au):cH ab 70 (.ptr o c) H κ=az H o fun _ cs=>ah cs c κ:=by kernel_rfl
def adC(l:aR)(i:Nat)(κ:D->au):aD ab 70 (.row 3 l) (.i i) κ=ba l i fun cs=>κ (.eptr cs 0):=by kernel_rfl
def MS(l:aR)(H:DH)(κ:D->au):aY ab 70 (.row 3 l) H κ=κ (.i l.length):=by kernel_rfl
def HD(a w:D)(κ:List D->au):aE [a] 0 [w] κ=κ [w]:=rfl
def vb(c:Int)(v:Va):Bool:=decide (c+(jp v:Int)<=4000)&&fmV v
def PV(c:Int)(l:List Va):Bool:=decide (c+(fK l:Int)<=4000)&&xL l
def KL(con:af)(n:Int)(xs:List Va)(c:Int)(h1:c+1<=4000):vb c (.mk con n xs)=(SD con n xs.length&&PV (c+1) xs):=by rw[vb,PV,fmV,jp];rw[show decide (c+((1+fK xs:Nat):Int)<=4000)=decide (c+1+(fK xs:Int)<=4000)from ajI.2 (by omega)];cases decide (c+1+(fK xs:Int)<=4000)<;>cases xL xs<;>cases SD con n xs.length<;>rfl
mutual
def abS(H:DH)(o:Nat)(ho:o<H.length):∀(v:Va),v.ok->∀(st:Nat) (c:Int),0<=c->c<=4000->∃(st':Nat) (k:Int),
 am 263 [.eptr (xB v) 0,.ptr o 0] (Ho H o st c)=ret (.bool (vb c v)) (Ho H o st' k)/\(vb c v=true->k=c+(jp v:Int))
 |.mk con n xs,e,st,c,h0,h1=>by
  rw[Va.ok]at e;have l:bD (c+1)=c+1:=jf (by omega) (by omega);by_cases p:c+1>4000
  ·refine⟨st+1,c+1,?_,?_⟩
   ·rw[xB];refine ev (Nm _ _ _ _ _ _) ?_;simp only[ae (As ho _ _),ao,bH,l,Gv,HD,rm,ef,aq];rw[abC p,ge];have:vb c (.mk con n xs)=false:=by rw[vb,abz (by rw[jp];omega),aeH]
    rw[this]
   ·intro hh;rw[vb,abz (by rw[jp];omega),aeH]at hh;cases hh
  ·by_cases a:con=[]/\xs=[]
   ·obtain⟨rfl,rfl⟩:=a;refine⟨st+1,c+1,?_,fun _=>by rw[jp,fK];omega⟩;rw[xB];refine ev (Nm _ _ _ _ _ _) ?_;simp only[ae (As ho _ _),ao,bH,l,Gv,HD,rm,ef,aq,fA];have e:vb c (.mk [] n [])=true:=by rw[KL [] n [] c (by omega),PV,fK,xL,abC (by omega)];rfl
    rw[abz p,e];rfl
   obtain⟨st',k,hl,hc⟩:=JE H o ho (.eptr [.str con,.i n,.row 3 (jz xs)] 0) xs e.1 (fun s q κ=>by rw[aem,oY,afy];rfl) xs [] rfl e.2 (st+1) (c+1) (by omega) (by omega);rw[KL con n xs c (by omega)];have hk:=mT ZR con (Ho H o (st+1) (c+1));cases hh:SD con n xs.length with
   |true =>
    refine⟨st',k,?_,fun h=>by rw[hc (by simpa using h),jp];omega⟩;rw[xB];refine ev (Nm _ _ _ _ _ _) ?_;simp only[ae (As ho _ _),ao,bH,l,Gv,HD,rm,ef,aq,fA];rw[abz p,TD,aeG];simp only[aiC]at hl;rw[SD]at hh;cases b:con==[]with
    |true =>
     rw[b,ge]at hh;have u:xs=[]:=by have:=akj hh;exact aka.1 (by omega)
     exact absurd ⟨akj b,u⟩ a
    |false =>
     rw[b,TD,abA]at hh;have f:(n != 0)=false:=by rw[bne,hh.1];rfl
     simp only[TD,f];cases j:con==[44]with
     |true =>rw[j,ge,abA]at hh;have r:=aiF hh.2.1;have t:=aiF hh.2.2;rw[abz (show ¬((xs.length:Int)>16)by omega),abz (show ¬((xs.length:Int)<2)by omega),abz (show ¬((xs.length:Int)>4)by omega)];simp only[ge,TD,aid];exact hl
     |false =>rw[j,TD,abA]at hh;have r:=aiF hh.2.2;rw[abz (show ¬((xs.length:Int)>16)by omega)];simp only[ge,TD,aih,ai hk,hh.2.1,aH,aid,aq];exact hl
   |false =>
    refine⟨st+1,c+1,?_,fun h=>by simp at h⟩;rw[xB];refine ev (Nm _ _ _ _ _ _) ?_;simp only[ae (As ho _ _),ao,bH,l,Gv,HD,rm,ef,aq,fA];rw[abz p,TD,aeH];rw[SD]at hh;cases b:con==[]with
    |true =>rw[b,ge]at hh;rw[ge,hh]
    |false =>
     rw[b,TD]at hh;simp only[TD];cases f:n==0 with
     |false=>rw[show(n != 0)=true by rw[bne,f];rfl,ge]
     |true =>
      rw[f,aeG]at hh;rw[show(n != 0)=false by rw[bne,f];rfl,TD];by_cases g:(xs.length:Int)>16
      ·rw[abC g,ge]
      ·rw[abz g,TD];cases j:con==[44]with
       |true =>
        rw[j,ge]at hh;simp only[ge];by_cases r:(xs.length:Int)<2
        ·rw[abC r,ge]
        ·by_cases t:(xs.length:Int)>4
         ·rw[abz r,abC t];rfl
         ·rw[abC (show(xs.length:Int)>=2 by omega),abC (show(xs.length:Int)<=4 by omega)]at hh;cases hh
       |false =>rw[j,TD,abC (show(xs.length:Int)<=16 by omega),aiW]at hh;simp only[TD,aih,ge,ai hk,hh,aH,aq]
def JE(H:DH)(o:Nat)(ho:o<H.length)(k:D)(xs:List Va)(hl:xs.length<2^61)
 (a:∀(s:Nat) (q:Int) (κ:D->au),(CJ k fun x=>ct x 2 fun y=>cH ab 70 y (Ho H o s q) κ)=κ (.row 3 (jz xs))):∀(suf pre:List Va),xs=pre++suf->Va.oks suf->∀(st:Nat) (c:Int),0<=c->c<=4000->∃(st':Nat) (r:Int),
 ac av 263 200013 [.g k,.g (.ptr o 0),.n xs.length,.n pre.length] [] (Ho H o st c)=ret (.bool (PV c suf)) (Ho H o st' r)/\(PV c suf=true->r=c+(fK suf:Int))
 |[],pre,e,_,st,c,h0,t=>by
  refine⟨st,c,?_,fun _=>by rw[fK];omega⟩;refine aZ (mY _ _ _ _ _ _) ?_;have:xs.length=pre.length:=by rw[e];simp
  rw[er,this,abz (aiD _),TD,PV,fK,xL,abC (by omega)];rfl
 |.mk xc xn xx::suf,pre,e,l,st,c,h0,t=>by
  rw[Va.oks]at l;have hi:pre.length<xs.length:=by rw[e];simp
  have f:(jz xs)[pre.length]? = some (xB (.mk xc xn xx)):=by rw[e];exact EE _ _ _
  obtain⟨s1,c1,b,p⟩:=abS H o ho (.mk xc xn xx) l.1 st c h0 t;have hpos:=IV (.mk xc xn xx);have hsplit:PV c (.mk xc xn xx::suf)=(vb c (.mk xc xn xx)&&PV (c+(jp (.mk xc xn xx):Int)) suf):=by
   rw[PV,vb,PV,fK,xL]
   rw[show decide (c+((jp (.mk xc xn xx)+fK suf:Nat):Int)<=4000)=(decide (c+(jp (.mk xc xn xx):Int)<=4000)&&decide (c+(jp (.mk xc xn xx):Int)+(fK suf:Int)<=4000))by rw[aiz];simp;omega]
   cases decide (c+(jp (.mk xc xn xx):Int)<=4000)<;>cases decide (c+(jp (.mk xc xn xx):Int)+(fK suf:Int)<=4000)<;>cases fmV (.mk xc xn xx)<;>cases xL suf<;>rfl
  rw[hsplit];cases hb:vb c (.mk xc xn xx)with
  |false =>refine⟨s1,c1,?_,fun h=>by simp at h⟩;refine aZ (mY _ _ _ _ _ _) ?_;rw[er,abC hi,ge,a];rw[hb]at b;simp only[adC,aB f,ai b,aH,aq,aih,ge,aeH]
  |true =>
   have i:=p hb;have hle:c+(jp (.mk xc xn xx):Int)<=4000:=by rw[vb,abA]at hb;exact aiF hb.1
   obtain⟨s2,c2,ih,j⟩:=JE H o ho k xs hl a suf (pre++[.mk xc xn xx]) (by rw[e];simp) l.2 s1 c1 (by omega) (by omega);rw[i]at ih j;refine⟨s2,c2,?_,fun h=>by rw[j (by simpa using h),fK];omega⟩;refine aZ (mY _ _ _ _ _ _) ?_;rw[er,abC hi,ge,a];rw[hb]at b;simp only[aae,aaQ]at ih;simp only[adC,aB f,ai b,aH,aq,aid,TD,aeG,aA (show pre.length<2^62 by omega),i,ih]
end
def adI{H:DH}{o p:Nat}(h:p≠o)(st:Nat)(c:Int):(Ho H o st c)[p]? = H[p]?:=by unfold Ho;rw[aiY (akX h)]
def abR(H:DH)(o p:Nat)(ho:o<H.length)(k:p≠o)(con:af)(n:Int)(xs:List Va)(l:(Va.mk con n xs).ok)(hp:H[p]? = some (.cells 0 [.str con,.i n,.row 3 (jz xs)]))(st:Nat)(c:Int)(h0:0<=c)(y:c+1<=4000):∃(st':Nat) (r:Int),
 am 263 [.ptr p 0,.ptr o 0] (Ho H o st c)=ret (.bool (vb c (.mk con n xs))) (Ho H o st' r):=by
 rw[Va.ok]at l;have t:bD (c+1)=c+1:=jf (by omega) (by omega);have u:¬(c+1>4000):=by omega
 have e:∀ st c,(Ho H o st c)[p]? = some (.cells 0 [.str con,.i n,.row 3 (jz xs)]):=fun st c=>by rw[adI k,hp]
 rw[KL con n xs c y];by_cases a:con=[]/\xs=[]
 ·obtain⟨rfl,rfl⟩:=a;refine⟨st+1,c+1,?_⟩;refine ev (aaJ _ _ _ _) ?_;simp only[ae (As ho _ _),ae (e _ _),ao,ax,bH,t,Gv,HD,rm,ef,cF,aT,aq,MS,fA];rw[abz u,PV,fK,xL,abC (show c+1+((0:Nat):Int)<=4000 by omega)];rfl
 obtain⟨st',r,hl,_⟩:=JE H o ho (.ptr p 0) xs l.1 (fun s q κ=>by rw[Tz,ct,ada,ae (e _ _)];rfl) xs [] rfl l.2 (st+1) (c+1) (by omega) (by omega)
 have hk:=mT ZR con (Ho H o (st+1) (c+1));cases hh:SD con n xs.length with
 |true =>
  refine⟨st',r,?_⟩;refine ev (aaJ _ _ _ _) ?_;simp only[ae (As ho _ _),ae (e _ _),ao,ax,bH,t,Gv,HD,rm,ef,aS,cF,iX,aT,dX,aq,MS,fA];rw[abz u,TD,aeG];simp only[aiC]at hl;rw[SD]at hh;cases b:con==[]with
  |true =>
   rw[b,ge]at hh;have z:xs=[]:=by have:=akj hh;exact aka.1 (by omega)
   exact absurd ⟨akj b,z⟩ a
  |false =>
   rw[b,TD,abA]at hh;have f:(n != 0)=false:=by rw[bne,hh.1];rfl
   simp only[TD,f];cases h:con==[44]with
   |true =>rw[h,ge,abA]at hh;have j:=aiF hh.2.1;have v:=aiF hh.2.2;rw[abz (show ¬((xs.length:Int)>16)by omega),abz (show ¬((xs.length:Int)<2)by omega),abz (show ¬((xs.length:Int)>4)by omega)];simp only[ge,TD,aid];exact hl
   |false =>rw[h,TD,abA]at hh;have j:=aiF hh.2.2;rw[abz (show ¬((xs.length:Int)>16)by omega)];simp only[ge,TD,aih,ai hk,hh.2.1,aH,aid,aq,ae (e _ _),ao,ax,MS,fA];exact hl
 |false =>
  refine⟨st+1,c+1,?_⟩;refine ev (aaJ _ _ _ _) ?_;simp only[ae (As ho _ _),ae (e _ _),ao,ax,bH,t,Gv,HD,rm,ef,aS,cF,iX,aT,dX,aq,MS,fA];rw[abz u,TD,aeH];rw[SD]at hh;cases b:con==[]with
  |true =>rw[b,ge]at hh;rw[ge,hh]
  |false =>
   rw[b,TD]at hh;simp only[TD];cases f:n==0 with
   |false=>rw[show(n != 0)=true by rw[bne,f];rfl,ge]
   |true =>
    rw[f,aeG]at hh;rw[show(n != 0)=false by rw[bne,f];rfl,TD];by_cases g:(xs.length:Int)>16
    ·rw[abC g,ge]
    ·rw[abz g,TD];cases h:con==[44]with
     |true =>
      rw[h,ge]at hh;simp only[ge];by_cases j:(xs.length:Int)<2
      ·rw[abC j,ge]
      ·by_cases v:(xs.length:Int)>4
       ·rw[abz j,abC v];rfl
       ·rw[abC (show(xs.length:Int)>=2 by omega),abC (show(xs.length:Int)<=4 by omega)]at hh;cases hh
     |false =>rw[h,TD,abC (show(xs.length:Int)<=16 by omega),aiW]at hh;simp only[TD,aih,ge,ai hk,hh,aH,aq]
def KK(H:DH)(a b:DB)(st:Nat)(c:Int):Ho (H++[a]++[b]) (H++[a]).length st c=H++[a,.cells st [.i c]]:=by unfold Ho;rw[aiE _ _ (abD _),ajj];simp
def abc(H:DH)(v:Va)(a:v.ok):am 207 [.agg (xB v)] H=ret (.i (bif ED v then 0 else 62)) H:=by
 obtain⟨con,n,xs⟩:=v;obtain⟨st',c',h⟩:=abR (H++[DB.cells 0 [.str con,.i n,.row 3 (jz xs)]]++[iw 0]) (H++[DB.cells 0 [.str con,.i n,.row 3 (jz xs)]]).length H.length (by simp) (by simp) con n xs a (by simp) 1 0 (by decide) (by decide);rw[KK,KK,show vb 0 (.mk con n xs)=ED (.mk con n xs)by rw[vb,ED,Int.zero_add]]at h;rw[xB];refine ev (agX _ _ _ _ _) ?_;have hh:((H++[DB.cells 0 [.str con,.i n,.row 3 (jz xs)]])++[iw 0]).set (H++[DB.cells 0 [.str con,.i n,.row 3 (jz xs)]]).length (DB.cells 1 [.i 0])=H++[DB.cells 0 [.str con,.i n,.row 3 (jz xs)],DB.cells 1 [.i 0]]:=KK H _ _ 1 0;have b:((H++[DB.cells 0 [.str con,.i n,.row 3 (jz xs)]])++[iw 0])[(H++[DB.cells 0 [.str con,.i n,.row 3 (jz xs)]]).length]? = some (iw 0):=by simp
 simp only[ae b,HD,aiv,hh,ai h,aH,aq];cases ED (.mk con n xs)<;>exact eB (by trivial)
def um(l:aR)(H:DH)(κ:D->au):aY ab 22 (.row 14 l) H κ=κ (.i l.length):=by kernel_rfl
def Sf(cs:List D)(h:cs.length=14)(H:DH)(κ:D->au):cH ab 147 (.eptr cs 0) H κ=κ (.agg cs):=by
 obtain⟨a,b,c,d,e,f,g,o,i,j,k,l,m,n,rfl⟩:∃ a b c d e f g o i j k l m n,cs=[a,b,c,d,e,f,g,o,i,j,k,l,m,n]:=by
  match cs,h with
  |[a,b,c,d,e,f,g,o,i,j,k,l,m,n],_=>exact⟨a,b,c,d,e,f,g,o,i,j,k,l,m,n,rfl⟩
 kernel_rfl
def Gm(d:De):(bF d).length=14:=by obtain⟨k,⟨dn,vs,cs⟩,n,⟨tn,ts⟩,fs,⟨ek,em,en,ea,xs,ps⟩⟩:=d;rfl
def abf(cs:List D)(h:cs.length=14)(κ:List D->au):aj 14 (.agg cs) κ=κ cs:=by
 match cs,h with
 |[a,b,c,d,e,f,g,h',i,j,k,l,m,n],_=>rfl
def Zl(cs:List D)(h:cs.length=14)(o p q r s t u v y z za zb zc zd:D)(κ:List D->au):aE [o,p,q,r,s,t,u,v,y,z,za,zb,zc,zd] 0 cs κ=κ cs:=by
 match cs,h with
 |[a,b,c,d,e,f,g,h',i,j,k,l,m,n],_=>rfl
def de0(d:De)(κ:D->au):ah (bF d) 0 κ=κ (.i d.k):=by obtain⟨k,⟨dn,vs,cs⟩,n,⟨tn,ts⟩,fs,⟨ek,em,en,ea,xs,ps⟩⟩:=d;rfl
def de4(d:De)(κ:D->au):ah (bF d) 4 κ=κ (.str d.n):=by obtain⟨k,⟨dn,vs,cs⟩,n,⟨tn,ts⟩,fs,⟨ek,em,en,ea,xs,ps⟩⟩:=d;rfl
def Jd(s:af)(κ:List D->au):aj 1 (.str s) κ=κ [.str s]:=rfl
def Xw(o n:Nat)(H:DH)(κ:D->DH->au):cK (.acc 1) 0 (.buf 1 o n) H κ=κ (.buf 1 o n) H:=rfl
def Yn(H:DH)(l:List af):DH:=H++[.buf 1 true false (l.map fD)]
def GS(H:DH)(l:List af):(Yn H l)[H.length]? = some (.buf 1 true false (l.map fD)):=bt _ _
def JC(H:DH)(l:List af)(s:af)(hl:l.length<100000)(κ:D->DH->au):cv (aM ab 9) 1 (.buf 1 H.length l.length) [[.str s]] (Yn H l) κ=κ (.buf 1 H.length (l++[s]).length) (Yn H (l++[s])):=by rw[lh (GS H l) (by simp) (qn (by omega)) (qn (by omega))];unfold Yn;rw[aiE _ _ (abD _),ajj];simp[fD]
def dD:List De->List af
 |[]=>[]
 |d::r=>bif d.k==2 then d.n::dD r else dD r
def sJ:∀ l:List De,(dD l).length<=l.length
 |[]=>abD _
 |d::r=>by have:=sJ r;rw[dD];cases d.k==2<;>simp<;>omega
def KI(H:DH)(ds:List De)(c:ds.length<=90000):∀(suf pre:List De) (acc:List af),ds=pre++suf->acc.length<=pre.length ->
 ac av 165 200003 [.g (.buf 1 H.length acc.length),.g (.row 14 (ds.map bF)),.n ds.length,.n pre.length] [] (Yn H acc)=ret (.buf 1 H.length (acc++dD suf).length) (Yn H (acc++dD suf))
 |[],pre,acc,e,_=>by refine aZ (wq _ _ _ _ _ _ _) ?_;rw[er,show ds.length=pre.length by rw[e];simp,abz (aiD _),TD,dD,aic]
 |x::suf,pre,acc,e,ha=>by
  have hi:pre.length<ds.length:=by rw[e];simp
  have a:(ds.map bF)[pre.length]? = some (bF x):=by rw[e];exact bZ _ _ _ _
  have b:=Gm x;refine aZ (wq _ _ _ _ _ _ _) ?_;rw[er,abC hi,ge];simp only[Sx,aB a,Sf _ b,abf _ b,Zl _ b,de0,de4,aT,aq,Jd,JC H acc x.n (by omega),Xw,aA (show pre.length<2^62 by omega)];rw[dD];cases x.k==2 with
  |true =>have:=KI H ds c suf (pre++[x]) (acc++[x.n]) (by rw[e];simp) (by simp;omega);simp only[aae,aaQ,aix,aiG]at this;simpa using this
  |false =>have:=KI H ds c suf (pre++[x]) acc (by rw[e];simp) (by simp;omega);simpa using this
def Yi(H:DH){n:Nat}{G:Pg}(h:gd H n G)(a:G.ds.length<=90000):am 165 [.ptr (n+5) 0] H=ret (.buf 1 H.length (dD G.ds).length) (Yn H (dD G.ds)):=by obtain⟨st,h0⟩:=(h.app [.buf 1 true false []]).o;refine ev (f165 _ _ _) ?_;simp only[ae h0,ao,um,aby];exact KI H G.ds a G.ds [] [] rfl (abD _)
def KH(H:DH)(n:Nat)(G:Rf)(b:G.ds.length<=90000)(hh:kC H n G):∀(suf pre:List De) (acc:List af),G.ds=pre++suf->acc.length<=pre.length ->
 ac av 166 200003 [.g (.ptr (n+5) 0),.g (.buf 1 H.length acc.length),.n pre.length] [] (Yn H acc)=ret (.buf 1 H.length (acc++dD suf).length) (Yn H (acc++dD suf))
 |[],pre,acc,e,_=>by obtain⟨st,h0⟩:=(hh.app [.buf 1 true false (acc.map fD)]).o;change(Yn H acc)[n+5]? = _ at h0;refine aZ (wp _ _ _ _ _ _) ?_;simp only[ae h0,ao,um,aby,aS,aq];rw[er,show G.ds.length=pre.length by rw[e];simp,abz (aiD _),TD,dD,aic]
 |x::suf,pre,acc,e,ha=>by
  obtain⟨st,h0⟩:=(hh.app [.buf 1 true false (acc.map fD)]).o;change(Yn H acc)[n+5]? = _ at h0;have hi:pre.length<G.ds.length:=by rw[e];simp
  have a:(G.ds.map bF)[pre.length]? = some (bF x):=by rw[e];exact bZ _ _ _ _
  refine aZ (wp _ _ _ _ _ _) ?_;simp only[ae h0,ao,um,aby,aS,aq];rw[er,abC hi,ge];simp only[Sx,aB a,oY,aiv,VJ,OG,de0,de4,aT,aq,Jd,JC H acc x.n (by omega),Xw,aA (show pre.length<2^62 by omega)];rw[dD];cases x.k==2 with
  |true =>have:=KH H n G b hh suf (pre++[x]) (acc++[x.n]) (by rw[e];simp) (by simp;omega);simp only[aae,aaQ,aix,aiG]at this;simpa using this
  |false =>have:=KH H n G b hh suf (pre++[x]) acc (by rw[e];simp) (by simp;omega);simpa using this
def Yh(H:DH){n:Nat}{G:Rf}(h:kC H n G)(a:G.ds.length<=90000):am 166 [.ptr (n+5) 0] H=ret (.buf 1 H.length (dD G.ds).length) (Yn H (dD G.ds)):=by refine ev (f166 _ _ _) ?_;exact KH H n G a h G.ds [] [] rfl (abD _)
def acM{H:DH}{n:Nat}{G:Pg}(h:gd H n G):gd (H.set (n+3) (.buf 1 false false (nC G.rs))) n G:=by
 obtain⟨⟨st,h0⟩,a,c,e,⟨b,f⟩,g⟩:=h;have hl:n+3<H.length:=(aez.1 f).1;refine⟨⟨st,?_⟩,?_,?_,?_,⟨false,?_⟩,?_⟩
 ·rw[aiY (by omega),h0]
 ·rw[aiY (by omega),a]
 ·rw[aiY (by omega),c]
 ·rw[aiY (by omega),e]
 ·rw[ajT hl]
 ·rw[aiY (by omega),g]
def Fz(H:DH)(n:Nat)(G:Pg):DH:=H.set (n+3) (.buf 1 false false (nC G.rs))
def SJ(H:DH)(n:Nat)(G:Pg):(Fz H n G).length=H.length:=ajz ..
def adM(H:DH)(n:Nat)(G:Pg):Fz (Fz H n G) n G=Fz H n G:=aiQ ..
def Az{H:DH}{n:Nat}{G:Pg}(h:gd H n G)(X:DH):Fz (H++X) n G=Fz H n G++X:=by obtain⟨b,a⟩:=h.rs;exact akB _ _ (aez.1 a).1
def VY{H:DH}{n:Nat}{G:Pg}(h:gd H n G):gd (Fz H n G) n G:=acM h
def aeS(o n k:Nat)(H:DH)(κ:D->DH->au):cy ab 25 (.buf 1 o n) none (some (.i k)) none H κ=ew H o n fun s _ cap l=>boK (Nat.ble k l.length&&Nat.beq 0 0) (κ (.row 1 (l.take k)) (H.set o (.buf s false cap l))):=by kernel_rfl
def ZK(l:aR)(H:DH)(κ:D->au):aY ab 25 (.row 1 l) H κ=κ (.i l.length):=by kernel_rfl
def adE(l:aR)(i:Nat)(κ:D->au):aD ab 25 (.row 1 l) (.i i) κ=ba l i fun cs=>κ (.eptr cs 0):=by kernel_rfl
def MU(o n i c:Nat)(H:DH)(κ:D->au):cH ab 3 (.bptr o n i c) H κ=ew H o n fun _ _ _ l=>ba l i fun cs=>ah cs c κ:=by kernel_rfl
def DA(o n i c:Nat)(H:DH)(κ:D->au):cH ab 9 (.bptr o n i c) H κ=ew H o n fun _ _ _ l=>ba l i fun cs=>ah cs c κ:=by kernel_rfl
def xH(bs:List Bo)(v:Int):af->List af
 |[]=>[]
 |r::l=>match bs[r]? with
  |some x=>bif x.kind==v then x.name::xH bs v l else xH bs v l
  |none=>xH bs v l
def Rz(bs:List Bo)(v:Int):∀ l,(xH bs v l).length<=l.length
 |[]=>abD _
 |r::l=>by
  have:=Rz bs v l;rw[xH];cases bs[r]? with
  |none=>simp;omega
  |some x=>simp only[];cases x.kind==v<;>simp<;>omega
def RA(H:DH)(n:Nat)(G:Pg)(hh:gd H n G)(v:Int)(l:af)(hl:l.length<=90000)(hb:∀ r∈l,r<G.bs.length):∀(suf pre:af) (acc:List af),l=pre++suf->acc.length<=pre.length ->
 ac av 206 200003 [.g (.ptr (n+5) 0),.n v,.g (.buf 1 H.length acc.length),.g (.row 1 (nC l)),.n (l.length:Nat),.n pre.length] [] (Yn H acc)=ret (.buf 1 H.length (acc++xH G.bs v suf).length) (Yn H (acc++xH G.bs v suf))
 |[],pre,acc,e,_=>by refine aZ (wd _ _ _ _ _ _ _ _ _) ?_;rw[er,show l.length=pre.length by rw[e];simp,abz (aiD _),TD,xH,aic]
 |r::suf,pre,acc,e,ha=>by
  have hA:=hh.app [.buf 1 true false (acc.map fD)];change gd (Yn H acc) n G at hA;obtain⟨st,h0⟩:=hA.o;have hi:pre.length<l.length:=by rw[e];simp
  have a:(nC l)[pre.length]? = some [.i (r:Nat)]:=by rw[e];exact bZ _ _ _ _
  have hr:r<G.bs.length:=hb r (by rw[e];simp);have b:G.bs[r]? = some G.bs[r]:=abF hr;refine aZ (wd _ _ _ _ _ _ _ _ _) ?_;rw[er,abC hi,ge,xH,b];generalize G.bs[r]=x at b;simp only[adE,aB a,VJ,ao,ax,ae h0,VV,il hr,boK,ge,oZ,MU,DA,dj hA.bs,bm b,qd,aT,aq,Jd,JC H acc x.name (by omega),Xw,aA (show pre.length<2^62 by omega)];cases x.kind==v with
  |true =>have:=RA H n G hh v l hl hb suf (pre++[r]) (acc++[x.name]) (by rw[e];simp) (by simp;omega);simp only[aae,aaQ,aix,aiG]at this;simpa using this
  |false =>have:=RA H n G hh v l hl hb suf (pre++[r]) acc (by rw[e];simp) (by simp;omega);simpa using this
def acL(H:DH){n:Nat}{G:Pg}(h:gd H n G)(v:Int)(k:Nat)(hk:k<=G.rs.length)(hl:G.rs.length<=90000)(hb:∀ r∈G.rs,r<G.bs.length) :
 am 206 [.ptr (n+5) 0,.i v,.i k] H=ret (.buf 1 H.length (xH G.bs v (G.rs.take k)).length) (Yn (Fz H n G) (xH G.bs v (G.rs.take k))):=by
 have hA:=h.app [.buf 1 true false []];obtain⟨st,h0⟩:=hA.o;obtain⟨b,p⟩:=hA.rs;have e:=Az h [.buf 1 true false []];rw[Fz]at e;have a:=RA (Fz H n G) n G (VY h) v (G.rs.take k) (by rw[aiu];omega) (fun r hr=>hb r (ajZ hr)) (G.rs.take k) [] [] rfl (abD _);rw[SJ]at a;refine ev (agY _ _ _ _ _) ?_;have c:=du (κ:=fun s _ cap l=>boK (Nat.ble k l.length&&Nat.beq 0 0) ((fun f j=>aY ab 25 f j fun q=>ac av 206 200003 [.g (.ptr (n+5) 0),.n v,.g (.buf 1 H.length 0),.g f,.g q,.n 0] [] j) (.row 1 (l.take k)) ((H++[DB.buf 1 true false []]).set (n+3) (.buf s false cap l)))) p;rw[jj]at c;simp only[ae h0,ao,ax,aeS];rw[c];rw[show Nat.ble k G.rs.length=true from aeI hk,e];have t:(nC G.rs).take k=nC (G.rs.take k):=by simp[nC,ajQ]
 simp only[show Nat.beq 0 0=true from rfl,aiW,boK,ge,t,ZK,jj];exact a
def aei(R:aI)(a:Int)(b:af)(c:Int)(g h:Int)(j:af)(k:Int)(l:aR)(m:Int)(H:DH):ay R 134 [.agg [.i a,.str b,.i c,.nilrow,.i g],.agg [.i h,.str j,.i k,.row 2 l,.i m]] H =
 cond (a==h) (cond (b==j) (cond (c==k) (cond (g==m) (C R 200 [.nilrow,.row 2 l] H fun e f=>ret e f) (ret (.bool false) H)) (ret (.bool false) H)) (ret (.bool false) H)) (ret (.bool false) H):=by kernel_rfl
def aeg(R:aI)(a:aR)(H:DH):ay R 200 [.nilrow,.row 2 a] H =
 cond ((0:Int) !=(a.length:Int)) (ret (.bool false) H) (ac R 200 200004 [.g .nilrow,.g (.row 2 a),.n 0,.n 0] [] H):=by kernel_rfl
def aeh(R:aI)(a:aR)(H:DH):aF R 200 200004 [.g .nilrow,.g (.row 2 a),.n 0,.n 0] [] H=ret (.bool true) H:=by kernel_rfl
def afJ(R:aI)(a:Int)(b:af)(c:Int)(e:aR)(g h:Int)(j:af)(k m:Int)(H:DH):ay R 44 [.agg [.i a,.str b,.i c,.row 2 e,.i g],.agg [.i h,.str j,.i k,.nilrow,.i m]] H =
 cond (a==h) (cond (b==j) (cond (c==k) (cond (g==m) (C R 43 [.row 2 e,.nilrow] H fun f l=>ret f l) (ret (.bool false) H)) (ret (.bool false) H)) (ret (.bool false) H)) (ret (.bool false) H):=by kernel_rfl
def afK(R:aI)(a:aR)(H:DH):ay R 43 [.row 2 a,.nilrow] H =
 cond ((a.length:Int) != 0) (ret (.bool false) H) (ac R 43 200004 [.g (.row 2 a),.g .nilrow,.n 0] [] H):=by kernel_rfl
def afL(R:aI)(H:DH):aF R 43 200004 [.g (.row 2 []),.g .nilrow,.n 0] [] H=ret (.bool true) H:=by kernel_rfl
def eqF(c:Ce)(x:af×Nat):Bool:=c.k==2&&(c.con==x.1&&(c.n==(x.2:Int)&&(c.nx==-1&&c.refs.length==0)))
def jI:List (List Nat×Nat)->List Ce->Bool
 |[],_=>true
 |_::_,[]=>false
 |x::r,c::l=>eqF c x&&jI r l
def Bl:∀ {a:List (List Nat×Nat)} {b:List Ce},b.length<a.length->jI a b=false
 |[],_,h=>by simp at h
 |_::_,[],_=>rfl
 |x::a,c::b,h=>by rw[jI,Bl (a:=a) (b:=b) (by simpa using h),aiM]
def WS(x:af×Nat)(c:Ce)(H:DH):am 134 [.agg (vh x),.agg (jq c)] H=ret (.bool (eqF c x)) H:=by
 have a:am 200 [.nilrow,.row 2 (c.refs.map Jy)] H=ret (.bool (c.refs.length==0)) H:=by
  refine ev (aeg _ _ _) ?_;rw[aby];cases e:c.refs.length with
  |zero =>rw[show((0:Int) !=((0:Nat):Int))=false from rfl,TD];refine aZ (aeh av _ H) ?_;rfl
  |succ k=>rw[show((0:Int) !=((k+1:Nat):Int))=true by simp[bne];omega];rfl
 refine ev (aei _ _ _ _ _ _ _ _ _ _ _) ?_;rw[ai a,eqF,show((2:Int)==c.k)=(c.k==2)from BEq.comm,show(x.1==c.con)=(c.con==x.1)from BEq.comm,show((x.2:Int)==c.n)=(c.n==(x.2:Int))from BEq.comm,show((-1:Int)==c.nx)=(c.nx==-1)from BEq.comm];cases c.k==2<;>cases c.con==x.1<;>cases c.n==(x.2:Int)<;>cases c.nx==-1<;>rfl
def WR(x:af×Nat)(c:Ce)(H:DH):am 44 [.agg (jq c),.agg (vh x)] H=ret (.bool (eqF c x)) H:=by
 have a:am 43 [.row 2 (c.refs.map Jy),.nilrow] H=ret (.bool (c.refs.length==0)) H:=by
  refine ev (afK _ _ _) ?_;rw[aby];cases e:c.refs with
  |nil =>rw[show((([]:List Re).length:Int) != 0)=false from rfl,TD];refine aZ (afL av H) ?_;rfl
  |cons k l=>rw[show(((k::l).length:Int) != 0)=true by simp[bne];omega];rfl
 refine ev (afJ _ _ _ _ _ _ _ _ _ _ _) ?_;rw[ai a,eqF];cases c.k==2<;>cases c.con==x.1<;>cases c.n==(x.2:Int)<;>cases c.nx==-1<;>rfl
def Nh(a:List (List Nat×Nat))(b:List Ce)(hl:a.length=b.length)(hb:a.length<2^61)(H:DH):∀(sa:List (List Nat×Nat)) (sb:List Ce) (pa:List (List Nat×Nat)) (pb:List Ce),a=pa++sa->b=pb++sb->pa.length=pb.length ->
 ac av 133 200004 [.g (.row 5 (b.map jq)),.g (.func 134 [] []),.g (.row 5 (a.map vh)),.n a.length,.n pa.length] [] H=ret (.bool (jI sa sb)) H
 |[],sb,pa,pb,e,_,_=>by
  refine aZ (wv _ _ _ _ _ _ _) ?_;have:a.length=pa.length:=by rw[e];simp
  rw[er,this,abz (aiD _),TD,jI]
 |x::sa,[],pa,pb,e,c,h=>by rw[e,c]at hl;simp only[aae,aeJ,aiC]at hl;omega
 |x::sa,y::sb,pa,pb,e,c,h=>by
  have hi:pa.length<a.length:=by rw[e];simp
  have ih:=Nh a b hl hb H sa sb (pa++[x]) (pb++[y]) (by rw[e];simp) (by rw[c];simp) (by simp[h]);simp only[aae,aaQ]at ih;have f:(a.map vh)[pa.length]? = some (vh x):=by rw[e,bZ]
  have i:(b.map jq)[pa.length]? = some (jq y):=by rw[h];exact aeo b pb y sb c
  have hc:=WS x y H;have j:aW bY 134=true:=by kernel_rfl
  refine aZ (wv _ _ _ _ _ _ _) ?_;rw[er,abC hi,ge];simp only[jq,vh]at f i hc;simp only[aO,aB f,aB i,ao,ax,eG j,air,aic,ai hc,aH,aq,aA (show pa.length<2^62 by omega),ih];rw[jI];cases eqF y x<;>rfl
def Ea:∀(a:List (List Nat×Nat)) (b:List Ce),a.length<=b.length->jI a (b.take a.length)=jI a b
 |[],_,_=>rfl
 |_::_,[],h=>by simp at h
 |x::a,c::b,h=>by rw[aeJ,ajs,jI,jI,Ea a b (by simpa using h)]
def afF(a:List (List Nat×Nat))(b:List Ce)(hl:a.length<=b.length)(hb:a.length<2^61)(H:DH):am 133 [.row 5 (a.map vh),.row 5 ((b.take a.length).map jq),.func 134 [] []] H=ret (.bool (jI a b)) H:=by
 have c:a.length=(b.take a.length).length:=by rw[aiu];omega
 refine ev (ahC _ _ _ _ _) ?_;simp only[aby];have:=Nh a (b.take a.length) c hb H a (b.take a.length) [] [] rfl rfl rfl;rw[<- c,Ea a b hl]at *;simp only[akm,TD];exact this
def OT(bs:List Bo):af->List (List Nat×Nat)
 |[]=>[]
 |c::r=>match bs[c]? with
  |some x=>(x.arg,x.first)::OT bs r
  |none=>OT bs r
def Yf(H:DH)(l:List (List Nat×Nat)):DH:=H++[.buf 5 true false (l.map vh)]
def YE(H:DH)(l:List (List Nat×Nat))(x:af×Nat)(hl:l.length<100000)(κ:D->DH->au):cv (aM ab 115) 5 (.buf 5 H.length l.length) [vh x] (Yf H l) κ=κ (.buf 5 H.length (l++[x]).length) (Yf H (l++[x])):=by have a:(Yf H l)[H.length]? = some (.buf 5 true false (l.map vh)):=bt _ _;rw[lh a (by simp) (yh (by omega)) (yh (by omega))];unfold Yf;rw[aiE _ _ (abD _),ajj];simp
def adP(H:DH)(n:Nat)(G:Pg)(hh:gd H n G)(hl:G.cs.length<=90000)(hb:∀ r∈G.cs,r<G.bs.length):∀(suf pre:af) (acc:List (List Nat×Nat)),G.cs=pre++suf->acc.length<=pre.length ->
 ac av 93 200003 [.g (.ptr (n+5) 0),.g (.buf 5 H.length acc.length),.g (.buf 1 (n+4) G.cs.length),.n G.cs.length,.n pre.length] [] (Yf H acc)=ret (.row 5 ((acc++OT G.bs suf).map vh)) (H++[.buf 5 false false ((acc++OT G.bs suf).map vh)])
 |[],pre,acc,e,_=>by refine aZ (AP _ _ _ _ _ _ _ _) ?_;rw[er,show G.cs.length=pre.length by rw[e];simp,abz (aiD _),TD,OT,aic];have:=DN (κ:=fun d H=>ret d H) (sz:=5) (H:=Yf H acc) (o:=H.length) (b:=true) (l:=acc.map vh) (bt _ _);rw[aby]at this;rw[this,Yf,aiE _ _ (abD _),ajj];rfl
 |r::suf,pre,acc,e,ha=>by
  have hA:=hh.app [.buf 5 true false (acc.map vh)];change gd (Yf H acc) n G at hA;obtain⟨st,h0⟩:=hA.o;have hi:pre.length<G.cs.length:=by rw[e];simp
  have c:(nC G.cs)[pre.length]? = some [.i r]:=by rw[e];exact bZ _ _ _ _
  have h:=hA.cs;have hr:r<G.bs.length:=hb r (by rw[e];simp);have j:G.bs[r]? = some G.bs[r]:=abF hr;have hk:ew (Yf H acc) (n+4) G.cs.length=fun κ=>κ 1 true false (nC G.cs):=funext fun κ=>dj (f:=fun i:Nat=>[D.int .i64 (i:Nat)]) h;refine aZ (AP _ _ _ _ _ _ _ _) ?_;rw[er,abC hi,ge,OT,j];generalize G.bs[r]=x at j;have a:=YE H acc (x.arg,x.first) (by omega);simp only[vh]at a;have:=adP H n G hh hl hb suf (pre++[r]) (acc++[(x.arg,x.first)]) (by rw[e];simp) (by simp;omega);simp only[aae,aaQ,aix,aiG]at this;simp only[adF,il hi,boK,ge,MU,hk,aB c,ao,ax,ae h0,VV,il hr,oZ,DA,dj hA.bs,bm j,qd,Jd,Gv,aE,mK,aep,a,show ∀(o n:Nat) (H:DH) (κ:D->DH->au),cK (.acc 5) 0 (.buf 5 o n) H κ=κ (.buf 5 o n) H from fun _ _ _ _=>rfl,aA (show pre.length<2^62 by omega),aae,aaQ,aiv,aiU];exact this
def QL(n:Nat):∀ l:List (List Nat×Nat),dV n (l.map vh)
 |[]=>by simp[dV]
 |x::r=>by simp only[aeL,dV];exact⟨by simp only[vh,dF,D.bel,akh],QL n r⟩
def aac(H:DH){n:Nat}{G:Pg}(h:gd H n G)(hl:G.cs.length<=90000)(hb:∀ r∈G.cs,r<G.bs.length):am 93 [.ptr (n+5) 0] H=ret (.row 5 ((OT G.bs G.cs).map vh)) H:=by have hA:=h.app [.buf 5 true false []];obtain⟨st,h0⟩:=hA.o;refine ev (f93 _ _ _) ?_;simp only[ae h0,ao,ax,Sa];have:=adP H n G h hl hb G.cs [] [] rfl (abD _);refine(aiK (aX H) this).trans ?_;exact eB (by rw[D.bel];exact QL _ _)
def tU(m:Mc):List To->List af->Bool
 |[],[]=>true
 |t::a,s::b=>t.nm==s&&(bK m t.r m.ce.length&&tU m a b)
 |_,_=>false
def xG:List Nv->List af->Bool
 |[],[]=>true
 |x::a,s::b=>x.nm==s&&(ED x.v&&xG a b)
 |_,_=>false
def rM(m:Mc):∀ {a:List To} {b:List af},a.length≠b.length->tU m a b=false
 |[],[],h=>(h rfl).elim
 |[],_::_,_=>rfl
 |_::_,[],_=>rfl
 |t::a,s::b,h=>by rw[tU,rM m (a:=a) (b:=b) (by simpa using h),aiM,aiM]
def zC:∀ {a:List Nv} {b:List af},a.length≠b.length->xG a b=false
 |[],[],h=>(h rfl).elim
 |[],_::_,_=>rfl
 |_::_,[],_=>rfl
 |t::a,s::b,h=>by rw[xG,zC (a:=a) (b:=b) (by simpa using h),aiM,aiM]
def LE(H:DH)(n:Nat)(G:Pg)(X:DH)(q:Bool):aX H (ret (.bool q) (Fz H n G++X))=ret (.bool q) (Fz H n G):=CR (by trivial) (qU _ _)
def Sw(o n i:Nat)(κ:D->au):aD ab 91 (.buf 1 o n) (.i i) κ=boK (Nat.blt i n) (κ (.bptr o n i 0)):=by kernel_rfl
def qZ(s o n:Nat)(H:DH)(κ:D->au):aY ab 91 (.buf s o n) H κ=κ (.i (n:Int)):=by kernel_rfl
def XE(m:Mc)(w:Nat)(H:DH)(o:Nat)(b c:Bool)(ns:List af)(ho:H[o]? = some (.buf 1 b c (ns.map fD)))(hl:m.to.length=ns.length)(hb:m.to.length<2^61)(X:au)
 (f:ac av 137 200005 [.g (.ptr w 0),.lp 0 0,.g (.buf 1 o ns.length),.g (.row 3 (m.to.map uZ)),.n m.to.length,.n m.to.length] [(0,bu m)] H=X):∀(sa:List To) (sb:List af) (pa:List To) (pb:List af),m.to=pa++sa->ns=pb++sb->pa.length=pb.length ->
 ac av 137 200005 [.g (.ptr w 0),.lp 0 0,.g (.buf 1 o ns.length),.g (.row 3 (m.to.map uZ)),.n m.to.length,.n pa.length] [(0,bu m)] H=bif tU m sa sb then X else ret (.bool false) H
 |[],[],pa,pb,e,_,_=>by rw[show pa.length=m.to.length by rw[e];simp,f];rfl
 |[],y::sb,pa,pb,e,a,h=>by rw[e,a]at hl;simp only[aae,aeJ,aiC]at hl;omega
 |x::sa,[],pa,pb,e,a,h=>by rw[e,a]at hl;simp only[aae,aeJ,aiC]at hl;omega
 |x::sa,y::sb,pa,pb,e,a,h=>by
  have hi:pa.length<m.to.length:=by rw[e];simp
  have ih:=XE m w H o b c ns ho hl hb X f sa sb (pa++[x]) (pb++[y]) (by rw[e];simp) (by rw[a];simp) (by simp[h]);simp only[aae,aaQ]at ih;have i:m.to[pa.length]? = some x:=by rw[e];simp
  have j:ns[pa.length]? = some y:=by rw[h,a];simp
  have hr:=Ht m x.r m.ce.length (akL _) H;refine aZ (wu _ _ _ _ _ _ _ _) ?_;rw[er,abC hi,ge];simp only[aby,aO,bm i,uZ,ao,ax,Sw,il (show pa.length<ns.length by omega),boK,ge,DA,dj ho,bm j,fD,iX,aq,aU hr,aH,aA (show pa.length<2^62 by omega),ih];rw[tU];cases x.nm==y<;>cases bK m x.r m.ce.length<;>rfl
def XR(ou:List Nv)(f:∀ x∈ou,x.v.ok)(H:DH)(o:Nat)(b c:Bool)(ns:List af)(ho:H[o]? = some (.buf 1 b c (ns.map fD)))(hl:ou.length=ns.length)(hb:ou.length<2^61):∀(sa:List Nv) (sb:List af) (pa:List Nv) (pb:List af),ou=pa++sa->ns=pb++sb->pa.length=pb.length ->
 ac av 137 200014 [.g (.buf 1 o ns.length),.g (.row 4 (ou.map PO)),.n ou.length,.n pa.length] [] H=ret (.bool (xG sa sb)) H
 |[],[],pa,pb,e,_,_=>by refine aZ (wt _ _ _ _ _ _) ?_;rw[er,show ou.length=pa.length by rw[e];simp,abz (aiD _),TD];rfl
 |[],y::sb,pa,pb,e,a,h=>by rw[e,a]at hl;simp only[aae,aeJ,aiC]at hl;omega
 |x::sa,[],pa,pb,e,a,h=>by rw[e,a]at hl;simp only[aae,aeJ,aiC]at hl;omega
 |x::sa,y::sb,pa,pb,e,a,h=>by
  have hi:pa.length<ou.length:=by rw[e];simp
  have ih:=XR ou f H o b c ns ho hl hb sa sb (pa++[x]) (pb++[y]) (by rw[e];simp) (by rw[a];simp) (by simp[h]);simp only[aae,aaQ]at ih;have i:ou[pa.length]? = some x:=by rw[e];simp
  have j:ns[pa.length]? = some y:=by rw[h,a];simp
  have hr:=abc H x.v (f x (by rw[e];simp));refine aZ (wt _ _ _ _ _ _) ?_;rw[er,abC hi,ge,xG];obtain⟨xn,⟨vc,vn,vx⟩⟩:=x;simp only[xB]at hr;simp only[aO,bm i,PO,ao,ax,Sw,il (show pa.length<ns.length by omega),boK,ge,DA,dj ho,bm j,fD,iX,dX,aq,aU hr,aA (show pa.length<2^62 by omega),ih];cases xn==y<;>cases ED (.mk vc vn vx)<;>rfl
def aii{ok:Nat->Bool}{sz o n:Nat}{l els:aR}{H:DH}{κ:D->DH->au}(h:H[o]? = some (.buf sz true false l))(a:l.length=n)(b:ok els.length=true)(c:ok (n+els.length)=true) :
 cv ok sz (.buf sz o n) els H κ=κ (.buf sz o (n+els.length)) (H.set o (.buf sz true false (l++els))):=by
 subst a;simp only[cv,b,boK,ge,aiw,du h,c,aeH,aih,aiW,grow,TD]
def CT(m:Mc)(G:Pg):Bool:=tU m m.to (dD G.ds++xH G.bs 4 (G.rs.take m.bo.toNat))&&xG m.ou (xH G.bs 5 (G.rs.take m.bo.toNat))
def YK(m:Mc)(H:DH){n:Nat}{G:Pg}(h:gd H n G)(hd:G.ds.length<=9000)(hl:G.rs.length<=9000)(hb:∀ r∈G.rs,r<G.bs.length)(k:Nat)(hk:m.bo=(k:Nat))(b:k<=G.rs.length)
 (o:m.to.length<2^61) (c:m.ou.length<2^61) (p:∀ x∈m.ou,x.v.ok):am 137 [.ptr (n+5) 0,.agg (bu m)] H=ret (.bool (CT m G)) (Fz H n G):=by
 have hi:=Yi H h (by omega);have q:gd (Yn H (dD G.ds)) n G:=h.app _;have i:=acL (Yn H (dD G.ds)) q 4 k b (by omega) hb;rw[show Fz (Yn H (dD G.ds)) n G=Yn (Fz H n G) (dD G.ds)from Az h _]at i;rw[CT,hk,aiZ];have li:=sJ G.ds;have l4:=Rz G.bs 4 (G.rs.take k);rw[aiu]at l4;have e:=VY h;have kl:=SJ H n G;have tr:=LE H n G;have s:gd (Yn (Yn (Fz H n G) (dD G.ds++xH G.bs 4 (G.rs.take k))) (xH G.bs 4 (G.rs.take k))) n G:=(e.app _).app _;have j:=acL _ s 5 k b (by omega) hb
 rw[show Fz (Yn (Yn (Fz H n G) (dD G.ds++xH G.bs 4 (G.rs.take k))) (xH G.bs 4 (G.rs.take k))) n G=Yn (Yn (Fz H n G) (dD G.ds++xH G.bs 4 (G.rs.take k))) (xH G.bs 4 (G.rs.take k))by unfold Yn;rw[Az (e.app _),Az e,adM]]at j
 generalize dD G.ds=I at *;generalize xH G.bs 4 (G.rs.take k)=N4 at *;generalize xH G.bs 5 (G.rs.take k)=N5 at *;generalize Fz H n G=K at *;have t:(Yn (Yn K I) N4)[H.length]? = some (.buf 1 true false (I.map fD)):=by rw[<- kl];exact fy _ (GS K I)
 have u:(Yn (Yn K I) N4)[(Yn H I).length]? = some (.buf 1 true false (N4.map fD)):=by rw[show(Yn H I).length=(Yn K I).length by simp[Yn,kl]];exact GS _ _
 have y:(Yn (Yn K I) N4).set H.length (.buf 1 true false (I.map fD++N4.map fD))=Yn (Yn K (I++N4)) N4:=by rw[<- kl,Yn,akB _ _ (by simp[Yn]),Yn,aiE _ _ (abD _),ajj];simp[Yn]
 have z:(Yn (Yn K (I++N4)) N4)[H.length]? = some (.buf 1 true false ((I++N4).map fD)):=by rw[<- kl];exact fy _ (GS K (I++N4))
 refine ev (f137 _ _ _ _) ?_;rw[hk,aU hi,aU i];have els (κ:aR->au):Bp (.buf 1 (Yn H I).length N4.length) (Yn (Yn K I) N4) 1 κ=κ (N4.map fD):=by have:=dj (κ:=fun _ _ _ l=>κ l) u;simpa only[Bp,aiw,ge]using this
 have ap (κ:D->DH->au):=aii (κ:=κ) (ok:=aM ab 9) (els:=N4.map fD) t (aby ..) (by rw[aby];exact qn (by omega)) (by rw[aby];exact qn (by omega));rw[y,aby,<- aae]at ap;simp only[els,ap,qZ,dX,aq,aby];by_cases a:m.to.length=(I++N4).length
 ·have A:ac av 137 200005 [.g (.ptr (n+5) 0),.lp 0 0,.g (.buf 1 H.length (I++N4).length),.g (.row 3 (m.to.map uZ)),.n m.to.length,.n m.to.length] [(0,bu m)] (Yn (Yn K (I++N4)) N4)=ret (.bool (xG m.ou N5)) (Yn (Yn (Yn K (I++N4)) N4) N5):=by
   refine aZ (wu _ _ _ _ _ _ _ _) ?_;rw[er,abz (aiD _),TD,hk,ai j];simp only[qZ,dX,aq,aby];by_cases ho:m.ou.length=N5.length
   ·rw[show((N5.length:Int) !=(m.ou.length:Int))=false by rw[ho];simp,TD];exact XR m.ou p _ _ true false N5 (GS _ _) ho c m.ou N5 [] [] rfl rfl rfl
   ·rw[show((N5.length:Int) !=(m.ou.length:Int))=true by simp[bne];omega,ge,zC ho]
  have f:=XE m (n+5) _ H.length true false (I++N4) z a o _ A m.to (I++N4) [] [] rfl rfl rfl;rw[show(((I++N4).length:Int) !=(m.to.length:Int))=false by rw[a];simp,TD];refine(aiK (aX H) f).trans ?_;cases tU m m.to (I++N4)with
  |true =>have:=tr [.buf 1 true false ((I++N4).map fD),.buf 1 true false (N4.map fD),.buf 1 true false (N5.map fD)] (xG m.ou N5);simpa[Yn]using this
  |false =>have:=tr [.buf 1 true false ((I++N4).map fD),.buf 1 true false (N4.map fD)] false;simpa[Yn]using this
 ·rw[show(((I++N4).length:Int) !=(m.to.length:Int))=true by simp only[bne,ajv,aeA];omega,ge,rM m a,aeH];have:=tr [.buf 1 true false ((I++N4).map fD),.buf 1 true false (N4.map fD)] false;simpa[Yn]using this
def Jz(pr:Bool):List (List Nat×Nat×Nat×Bool)->List af
 |[]=>[]
 |x::r=>bif x.2.2.2==pr then x.1::Jz pr r else Jz pr r
def Y2(H:DH)(a b:List af):DH:=H++[.buf 1 true false (a.map fD),.buf 1 true false (b.map fD)]
def abP(H:DH)(a b:List af):(Y2 H a b)[H.length]? = some (.buf 1 true false (a.map fD)):=by simp[Y2]
def abO(H:DH)(a b:List af):(Y2 H a b)[H.length+1]? = some (.buf 1 true false (b.map fD)):=by simp[Y2]
def abN(H:DH)(a b:List af)(s:af)(hl:a.length<100000)(κ:D->DH->au):cv (aM ab 9) 1 (.buf 1 H.length a.length) [[.str s]] (Y2 H a b) κ=κ (.buf 1 H.length (a++[s]).length) (Y2 H (a++[s]) b):=by rw[lh (abP H a b) (by simp) (qn (by omega)) (qn (by omega))];unfold Y2;rw[aiE _ _ (abD _),ajj];simp[fD]
def abM(H:DH)(a b:List af)(s:af)(hl:b.length<100000)(κ:D->DH->au):cv (aM ab 9) 1 (.buf 1 (H.length+1) b.length) [[.str s]] (Y2 H a b) κ=κ (.buf 1 (H.length+1) (b++[s]).length) (Y2 H a (b++[s])):=by rw[lh (abO H a b) (by simp) (qn (by omega)) (qn (by omega))];unfold Y2;rw[aiE _ _ (by omega),show H.length+1 - H.length=1 by omega];simp[fD]
def adB(o n i:Nat)(κ:D->au):aD ab 92 (.buf 4 o n) (.i i) κ=boK (Nat.blt i n) (κ (.bptr o n i 0)):=by kernel_rfl
def Yd(o n i c:Nat)(H:DH)(κ:D->au):cH ab 4 (.bptr o n i c) H κ=ew H o n fun _ _ _ l=>ba l i fun cs=>ah cs c κ:=by kernel_rfl
def XD(m:Mc)(H:DH)(o f n2:Nat)(b c:Bool)(ns:List af)(ho:H[o]? = some (.buf 1 b c (ns.map fD)))(hl:m.to.length=ns.length)(hb:m.to.length<2^61)(X:au)
 (i:ac av 103 200017 [.lp 0 0,.g (.buf 1 f n2),.n 0] [(0,bu m)] H=X):∀(sa:List To) (sb:List af) (pa:List To) (pb:List af),m.to=pa++sa->ns=pb++sb->pa.length=pb.length ->
 ac av 103 200012 [.lp 0 0,.g (.buf 1 o ns.length),.g (.buf 1 f n2),.n pa.length] [(0,bu m)] H=bif tU m sa sb then X else ret (.bool false) H
 |[],[],pa,pb,e,_,_=>by refine aZ (wU _ _ _ _ _ _ _) ?_;simp only[qZ,aS,aq];rw[er,show ns.length=pa.length by rw[<- hl,e];simp,abz (aiD _),TD,i];rfl
 |[],y::sb,pa,pb,e,a,h=>by rw[e,a]at hl;simp only[aae,aeJ,aiC]at hl;omega
 |x::sa,[],pa,pb,e,a,h=>by rw[e,a]at hl;simp only[aae,aeJ,aiC]at hl;omega
 |x::sa,y::sb,pa,pb,e,a,h=>by
  have hi:pa.length<ns.length:=by rw[<- hl,e];simp
  have ih:=XD m H o f n2 b c ns ho hl hb X i sa sb (pa++[x]) (pb++[y]) (by rw[e];simp) (by rw[a];simp) (by simp[h]);simp only[aae,aaQ]at ih;have j:m.to[pa.length]? = some x:=by rw[e];simp
  have k:ns[pa.length]? = some y:=by rw[h,a];simp
  have hr:=QR m x.r H;refine aZ (wU _ _ _ _ _ _ _) ?_;simp only[qZ,aS,aq];rw[er,abC hi,ge];simp only[aO,bm j,uZ,ao,ax,Sw,il hi,boK,ge,DA,dj ho,bm k,fD,iX,aq,aU hr,aH,aA (show pa.length<2^62 by omega),ih];rw[tU];cases x.nm==y<;>cases bK m x.r m.ce.length<;>rfl
def XS(m:Mc)(f:∀ x∈m.ou,x.v.ok)(H:DH)(o:Nat)(b c:Bool)(ns:List af)(ho:H[o]? = some (.buf 1 b c (ns.map fD)))(hl:m.ou.length=ns.length)(hb:m.ou.length<2^61):∀(sa:List Nv) (sb:List af) (pa:List Nv) (pb:List af),m.ou=pa++sa->ns=pb++sb->pa.length=pb.length ->
 ac av 103 200017 [.lp 0 0,.g (.buf 1 o ns.length),.n pa.length] [(0,bu m)] H=ret (.bool (xG sa sb)) H
 |[],[],pa,pb,e,_,_=>by refine aZ (wT _ _ _ _ _ _) ?_;rw[er,show ns.length=pa.length by rw[<- hl,e];simp,abz (aiD _),TD];rfl
 |[],y::sb,pa,pb,e,a,h=>by rw[e,a]at hl;simp only[aae,aeJ,aiC]at hl;omega
 |x::sa,[],pa,pb,e,a,h=>by rw[e,a]at hl;simp only[aae,aeJ,aiC]at hl;omega
 |x::sa,y::sb,pa,pb,e,a,h=>by
  have hi:pa.length<ns.length:=by rw[<- hl,e];simp
  have ih:=XS m f H o b c ns ho hl hb sa sb (pa++[x]) (pb++[y]) (by rw[e];simp) (by rw[a];simp) (by simp[h]);simp only[aae,aaQ]at ih;have i:m.ou[pa.length]? = some x:=by rw[e];simp
  have j:ns[pa.length]? = some y:=by rw[h,a];simp
  have hr:=abQ H x.v (f x (by rw[e];simp));refine aZ (wT _ _ _ _ _ _) ?_;rw[er,abC hi,ge,xG];obtain⟨xn,⟨vc,vn,vx⟩⟩:=x;simp only[xB]at hr;simp only[aO,bm i,PO,ao,ax,il hi,boK,ge,dj ho,bm j,fD,iX,aq,aU hr,aH,aA (show pa.length<2^62 by omega),ih];cases xn==y<;>cases ED (.mk vc vn vx)<;>rfl
def yN(m:Mc)(G:Rf):Bool:=tU m m.to (dD G.ds++Jz false (G.rs.take m.bo.toNat))&&xG m.ou (Jz true (G.rs.take m.bo.toNat))
def Zr(m:Mc)(H:DH)(n:Nat)(G:Rf)(hh:kC H n G)(k:Nat)(hk:m.bo=(k:Nat))(i:k<=G.rs.length)(hl:G.rs.length<=9000)
 (j:m.to.length<2^61) (f:m.ou.length<2^61) (l:∀ x∈m.ou,x.v.ok):∀(suf pre:List (List Nat×Nat×Nat×Bool)) (a b:List af),G.rs.take k=pre++suf->a.length<=9000+pre.length->b.length<=pre.length ->
 ac av 103 200004 [.g (.ptr (n+5) 0),.lp 0 0,.g (.buf 1 H.length a.length),.g (.buf 1 (H.length+1) b.length),.n pre.length] [(0,bu m)] (Y2 H a b) =
  ret (.bool (tU m m.to (a++Jz false suf)&&xG m.ou (b++Jz true suf))) (Y2 H (a++Jz false suf) (b++Jz true suf))
 |[],pre,a,b,e,p,hb=>by
  have hp:pre.length=k:=by have:=aiK List.length e;rw[aiu,aae,aiC]at this;omega
  refine aZ (wV _ _ _ _ _ _ _ _) ?_;rw[hk,er,hp,abz (aiD _),TD,Jz,Jz,aic,aic];simp only[qZ,dX,aq,aby];by_cases c:m.to.length=a.length
  ·rw[show((m.to.length:Int) !=(a.length:Int))=false by rw[c];simp,TD];by_cases h:m.ou.length=b.length
   ·rw[show((m.ou.length:Int) !=(b.length:Int))=false by rw[h];simp,TD];have q:=XS m l (Y2 H a b) (H.length+1) true false b (abO H a b) h f m.ou b [] [] rfl rfl rfl;have:=XD m (Y2 H a b) H.length (H.length+1) b.length true false a (abP H a b) c j _ q m.to a [] [] rfl rfl rfl;refine this.trans ?_;cases tU m m.to a<;>rfl
   ·rw[show((m.ou.length:Int) !=(b.length:Int))=true by simp only[bne,ajv,aeA];omega,ge,zC h,aiM]
  ·rw[show((m.to.length:Int) !=(a.length:Int))=true by simp only[bne,ajv,aeA];omega,ge,rM m c,aeH]
 |x::suf,pre,a,b,e,p,hb=>by
  have hA:=hh.app [.buf 1 true false (a.map fD),.buf 1 true false (b.map fD)];change kC (Y2 H a b) n G at hA;obtain⟨st,h0⟩:=hA.o;have hp:pre.length<k:=by have:=aiK List.length e;rw[aiu,aae,aeJ]at this;omega
  have hi:pre.length<G.rs.length:=by omega
  have r:G.rs[pre.length]? = some x:=by
   have:(G.rs.take k)[pre.length]? = some x:=by rw[e];simp
   rwa [aiV hp]at this
  refine aZ (wV _ _ _ _ _ _ _ _) ?_;rw[hk,er,abC hp,ge];simp only[ae h0,ao,ax,adB,il hi,boK,ge,oZ,Yd,DA,dj hA.rs,bm r,YZ,aq,Jd,abN H a b x.1 (by omega),abM H a b x.1 (by omega),Xw,aA (show pre.length<2^62 by omega),aiv,aiU];rw[Jz,Jz];cases x.2.2.2 with
  |true =>have:=Zr m H n G hh k hk i hl j f l suf (pre++[x]) a (b++[x.1]) (by rw[e];simp) (by simp;omega) (by simp;omega);simp only[aae,aaQ,aix,aiG]at this;simpa using this
  |false =>have:=Zr m H n G hh k hk i hl j f l suf (pre++[x]) (a++[x.1]) b (by rw[e];simp) (by simp;omega) (by simp;omega);simp only[aae,aaQ,aix,aiG]at this;simpa using this
def YJ(m:Mc)(H:DH){n:Nat}{G:Rf}(h:kC H n G)(hd:G.ds.length<=9000)(hl:G.rs.length<=9000)(k:Nat)(hk:m.bo=(k:Nat))(a:k<=G.rs.length)
 (c:m.to.length<2^61) (b:m.ou.length<2^61) (e:∀ x∈m.ou,x.v.ok):am 103 [.ptr (n+5) 0,.agg (bu m)] H=ret (.bool (yN m G)) H:=by
 have hi:=Yh H h (by omega);have li:=sJ G.ds;have:=Zr m H n G h k hk a hl c b e (G.rs.take k) [] (dD G.ds) [] rfl (by omega) (abD _);refine ev (ahY _ _ _ _) ?_;rw[ai hi];simp only[];have f:(Yn H (dD G.ds)).length=H.length+1:=by simp[Yn]
 have g:Yn H (dD G.ds)++[DB.buf 1 true false []]=Y2 H (dD G.ds) []:=by simp[Yn,Y2]
 rw[f,g];refine(aiK (aX H) this).trans ?_;rw[yN,hk,aiZ];exact xZ _ H _
structure tP(m:Mc):Prop where
 ce:m.ce.length<2^61
 refs:∀ c∈m.ce,c.refs.length<2^61
 to:m.to.length<2^61
 ou:m.ou.length<2^61
 v:∀ x∈m.ou,x.v.ok
 fr:m.fr.length<2^61
 dn:∀ f∈m.fr,f.dn.length<2^61
structure Uc(G:Pg):Prop where
 ds:G.ds.length<=9000
 rs:G.rs.length<=9000
 cs:G.cs.length<=9000
 rb:∀ r∈G.rs,r<G.bs.length
 cb:∀ r∈G.cs,r<G.bs.length
 ns:∀ x∈G.ns,x.e.ok
def lB(m:Mc)(mp:List (Nat×af)):List Ce->Nat->Bool
 |[],_=>true
 |c::r,i=>xq m mp i c&&lB m mp r (i+1)
def vd(m:Mc)(G:Pg):Bool:=nL m G.ns.length G.rs.length&&(CT m G&&m.fr.all fun f=>jl m (G.ns.map (·.e)) f)
def gH(m:Mc)(G:Pg):Bool:=jI (OT G.bs G.cs) m.ce&&(decide (0<=m.st)&&(decide (m.st<=200000)&&(lB m G.m m.ce 0&&vd m G)))
def HL{m:Mc}{a b:Nat}(h:nL m a b=true):∃ k:Nat,m.bo=(k:Nat)/\k<=b:=by
 unfold nL at h;have g:0<=m.bo/\m.bo<=(b:Int):=by revert h;cases m.mo==1<;>cases m.mo==2<;>cases m.mo==3<;>simp only[ge,TD,abA,ajJ,akr]<;>intro h<;>first|omega|cases h
 exact⟨m.bo.toNat,by omega,by omega⟩
def abb(m:Mc){H:DH}{n:Nat}{G:Pg}(h:gd H n G)(ok:Uc G)(a b sa sb:Nat)(c:H[a]? = some (.cells sa [.ptr (n+5) 0]))(hb:H[b]? = some (.cells sb (bu m)))(f:Fm)(g:f.dn.length<2^61) :
 am 139 [.agg (AD f),.ptr a 0,.ptr b 0] H=ret (.bool (!jl m (G.ns.map (·.e)) f)) H:=by
 refine ev (ahz _ _ _ _ _ _ _) ?_;have:=Wb m h f g ok.ns;simp only[AD]at this;simp only[ae c,ae hb,ao,ax,ai this,aH]
def Uy(m:Mc)(mo:tP m){H:DH}{n:Nat}{G:Pg}(h:gd H n G)(ok:Uc G)(a b sa sb:Nat)(c:H[a]? = some (.cells sa [.ptr (n+5) 0]))(hb:H[b]? = some (.cells sb (bu m))) :
 ∃ H',ac av 70 200005 [.g (.ptr a 0),.g (.ptr b 0),.n m.ce.length,.n m.ce.length] [] H=ret (.bool (vd m G)) H'/\(H'=H\/H'=Fz H n G):=by
 have hm:=ZB m h;rw[vd];cases j:nL m G.ns.length G.rs.length with
 |false =>refine⟨H,?_,.inl rfl⟩;refine aZ (mX _ _ _ _ _ _) ?_;rw[j]at hm;rw[er,abz (aiD _),TD];simp only[ae c,ae hb,ao,ax,ai hm,aq,TD,aeH]
 |true =>
  obtain⟨k,hk,l⟩:=HL j;have s:=YK m H h ok.ds ok.rs ok.rb k hk l mo.to mo.ou mo.v;have hlt:=(aez.1 h.ns).1;obtain⟨st,h0⟩:=h.o;obtain⟨bb,r⟩:=h.rs;have p:(Fz H n G)[a]? = some (.cells sa [.ptr (n+5) 0]):=by rw[Fz,aiY (by rintro rfl;rw[r]at c;cases c),c]
  have i:(Fz H n G)[b]? = some (.cells sb (bu m)):=by rw[Fz,aiY (by rintro rfl;rw[r]at hb;cases hb),hb]
  refine⟨Fz H n G,?_,.inr rfl⟩;refine aZ (mX _ _ _ _ _ _) ?_;rw[j]at hm;rw[er,abz (aiD _),TD];have t:aW bY 139=true:=by kernel_rfl
  have q:=Xe 139 [.ptr a 0,.ptr b 0] t (fun f=>!jl m (G.ns.map (·.e)) f) (Fz H n G) m.fr (fun f q=>abb m (VY h) ok a b sa sb p i f (mo.dn f q)) mo.fr;simp only[ae c,ae hb,ae i,ao,ax,ai hm,ai s,ai q,aH,yF,aq,ge,aeG,bg,aim]
def ye(m:Mc)(mo:tP m){H:DH}{n:Nat}{G:Pg}(h:gd H n G)(ok:Uc G)(a b sa sb:Nat)(f:H[a]? = some (.cells sa [.ptr (n+5) 0]))(hb:H[b]? = some (.cells sb (bu m))):∀ suf pre:List Ce,m.ce=pre++suf ->
 ∃ H',ac av 70 200005 [.g (.ptr a 0),.g (.ptr b 0),.n m.ce.length,.n pre.length] [] H=ret (.bool (lB m G.m suf pre.length&&vd m G)) H'/\(H'=H\/H'=Fz H n G)
 |[],pre,e=>by have:=Uy m mo h ok a b sa sb f hb;rw[show pre.length=m.ce.length by rw[e];simp,lB,aeG];exact this
 |c::suf,pre,e=>by
  have hi:pre.length<m.ce.length:=by rw[e];simp
  have hc:m.ce[pre.length]? = some c:=by rw[e];simp
  have hcell:=Sp m h pre.length c hc mo.ce (mo.refs c (by rw[e];simp));obtain⟨H',ih,j⟩:=ye m mo h ok a b sa sb f hb suf (pre++[c]) (by rw[e];simp);simp only[aae,aaQ]at ih;rw[lB];have hlen:=mo.ce;cases i:xq m G.m pre.length c with
  |false =>refine⟨H,?_,.inl rfl⟩;refine aZ (mX _ _ _ _ _ _) ?_;rw[er,abC hi,ge];rw[i]at hcell;simp only[ae f,ae hb,ao,ax,ai hcell,aH,aq,aih,ge,aeH]
  |true =>refine⟨H',?_,j⟩;refine aZ (mX _ _ _ _ _ _) ?_;rw[er,abC hi,ge];rw[i]at hcell;simp only[ae f,ae hb,ao,ax,ai hcell,aH,aq,aid,TD,aeG,aA (show pre.length<2^62 by omega),ih]
def aeR(l:aR)(k:Nat)(hk:k<=l.length)(H:DH)(κ:D->DH->au):cy ab 39 (.row 5 l) none (some (.i k)) none H κ=κ (.row 5 (l.take k)) H:=by
 have e:cy ab 39 (.row 5 l) none (some (.i k)) none H κ=boK (Nat.ble k l.length&&Nat.beq 0 0) (κ (.row 5 (l.take k)) H):=by kernel_rfl
 rw[e,aeI hk];rfl
def SN(bs:List Bo):∀ l,(OT bs l).length<=l.length
 |[]=>abD _
 |c::r=>by have:=SN bs r;rw[OT];cases bs[c]?<;>simp<;>omega
def Of{H H':DH}{n:Nat}{G:Pg}(h:gd H n G)(x y:DB)(q:Bool)(a:H'=H++[x]++[y]\/H'=Fz (H++[x]++[y]) n G):∃ H'',aX H (ret (.bool q) H')=ret (.bool q) H''/\(H''=H\/H''=Fz H n G):=by
 rcases a with rfl|rfl
 ·exact⟨H,GU _ _ _ _,.inl rfl⟩
 ·refine⟨Fz H n G,?_,.inr rfl⟩;rw[aix,Az h];exact LE H n G _ q
def Ux(m:Mc)(mo:tP m)(H:DH){n:Nat}{G:Pg}(h:gd H n G)(ok:Uc G):∃ H',am 70 [.ptr (n+5) 0,.agg (bu m)] H=ret (.bool (gH m G)) H'/\(H'=H\/H'=Fz H n G):=by
 have r:gd (H++[.cells 0 [.ptr (n+5) 0]]++[.cells 0 (bu m)]) n G:=(h.app _).app _;have e:=aac (H++[.cells 0 [.ptr (n+5) 0]]++[.cells 0 (bu m)]) r (by have:=ok.cs;omega) ok.cb;have g:(H++[DB.cells 0 [.ptr (n+5) 0]]++[DB.cells 0 (bu m)])[H.length]? = some (.cells 0 [.ptr (n+5) 0]):=fy _ (bt _ _);have hb:(H++[DB.cells 0 [.ptr (n+5) 0]]++[DB.cells 0 (bu m)])[(H++[DB.cells 0 [.ptr (n+5) 0]]).length]? = some (.cells 0 (bu m)):=bt _ _;obtain⟨H',o,u⟩:=ye m mo r ok _ _ 0 0 g hb m.ce [] rfl;have tr:=fun(q:Bool) (H':DH)=>Of (H':=H') h (.cells 0 [.ptr (n+5) 0]) (.cells 0 (bu m)) q;have fl:=SN G.bs G.cs;have fc:=ok.cs;have hce:=mo.ce;have b:(H++[DB.cells 0 [.ptr (n+5) 0]]).length=H.length+1:=by simp
 rw[b]at hb o;generalize f:H++[DB.cells 0 [.ptr (n+5) 0]]++[DB.cells 0 (bu m)]=l at *;rw[gH];generalize hF:OT G.bs G.cs=F at *;by_cases a:m.ce.length<F.length
 ·obtain⟨H'',t,i⟩:=tr false l (.inl rfl);rw[Bl a,aeH];refine⟨H'',ev (f70 _ _ _ _) ((aiK (aX H) ?_).trans t),i⟩;dsimp only;rw[b,f];simp only[ae g,ae hb,ao,ax,ai e,oN,aby,aS,aq];rw[er,abC a,ge]
 have c:=afF F m.ce (by omega) (by omega) l;have j (κ:D->DH->au):=aeR (m.ce.map jq) F.length (by rw[aby];omega) l κ;cases s:jI F m.ce with
 |false =>obtain⟨H'',t,i⟩:=tr false l (.inl rfl);rw[aeH];refine⟨H'',ev (f70 _ _ _ _) ((aiK (aX H) ?_).trans t),i⟩;dsimp only;rw[b,f];rw[s]at c;simp only[ae g,ae hb,ao,ax,ai e,oN,aby,aS,aq];rw[er,abz a,TD,j,<- ajQ,ai c];rfl
 |true =>
  rw[s]at c;by_cases k:m.st<0
  ·obtain⟨H'',t,i⟩:=tr false l (.inl rfl);rw[abz (show ¬ 0<=m.st by omega),aeH,aiM];refine⟨H'',ev (f70 _ _ _ _) ((aiK (aX H) ?_).trans t),i⟩;dsimp only;rw[b,f];simp only[ae g,ae hb,ao,ax,ai e,oN,aby,aS,aq];rw[er,abz a,TD,j,<- ajQ,ai c];simp only[ae g,ae hb,ao,ax,oN,aby,aS,ef,aH,aq,aid,TD];rw[abC k,ge]
  by_cases p:m.st>200000
  ·obtain⟨H'',t,i⟩:=tr false l (.inl rfl);rw[abz (show ¬ m.st<=200000 by omega),aeH,aiM,aiM];refine⟨H'',ev (f70 _ _ _ _) ((aiK (aX H) ?_).trans t),i⟩;dsimp only;rw[b,f];simp only[ae g,ae hb,ao,ax,ai e,oN,aby,aS,ef,aq];rw[er,abz a,TD,j,<- ajQ,ai c];simp only[ae g,ae hb,ao,ax,oN,aby,aS,ef,aH,aq,aid,TD];rw[abz k,TD,abC p,ge]
  obtain⟨H'',t,i⟩:=tr (lB m G.m m.ce 0&&vd m G) H' u;rw[abC (show 0<=m.st by omega),abC (show m.st<=200000 by omega),aeG,aeG,aeG];refine⟨H'',ev (f70 _ _ _ _) ((aiK (aX H) ?_).trans t),i⟩;dsimp only;rw[b,f];simp only[ae g,ae hb,ao,ax,ai e,oN,aby,aS,ef,aq];rw[er,abz a,TD,j,<- ajQ,ai c];simp only[ae g,ae hb,ao,ax,oN,aby,aS,ef,aH,aq,aid,TD];rw[abz k,TD,abz p,TD];exact o
structure abq(G:Rf):Prop where
 ds:G.ds.length<=9000
 rs:G.rs.length<=9000
 fs:G.fs.length<=9000
def Ky(s o n:Nat)(H:DH)(κ:D->au):aY ab 39 (.buf s o n) H κ=κ (.i (n:Int)):=by kernel_rfl
def adD(o n i:Nat)(κ:D->au):aD ab 39 (.buf 5 o n) (.i i) κ=boK (Nat.blt i n) (κ (.bptr o n i 0)):=by kernel_rfl
def ZN(o n i:Nat)(H:DH)(κ:D->au):cH ab 115 (.bptr o n i 0) H κ=ew H o n fun _ _ _ l=>ba l i fun cs=>cR ab 115 cs 0 κ:=by kernel_rfl
def adg(a b c d e:D)(κ:D->au):cR ab 115 [a,b,c,d,e] 0 κ=κ (.agg [a,b,c,d,e]):=by kernel_rfl
def nl(m:Mc)(ns:List Fn):List Ce->Nat->Bool
 |[],_=>true
 |c::r,i=>Em m ns i c&&nl m ns r (i+1)
def EI(m:Mc)(G:Rf):Bool:=nL m G.ns.length G.rs.length&&(decide (0<=m.st)&&(decide (m.st<=200000)&&(yN m G&&(jI G.fs m.ce&&(nl m G.ns m.ce 0&&m.fr.all fun f=>jl m (G.ns.map (·.e)) f)))))
def XJ(m:Mc)(mo:tP m){H:DH}{n:Nat}{G:Rf}(h:kC H n G):∀ suf pre:List Fm,m.fr=pre++suf ->
 ac av 51 200014 [.g (.ptr (n+5) 0),.lp 0 0,.n pre.length] [(0,bu m)] H=ret (.bool (suf.all fun f=>jl m (G.ns.map (·.e)) f)) H
 |[],pre,e=>by refine aZ (Ba _ _ _ _ _) ?_;rw[aby,er,show m.fr.length=pre.length by rw[e];simp,abz (aiD _),TD];rfl
 |f::suf,pre,e=>by
  have hi:pre.length<m.fr.length:=by rw[e];simp
  have hc:m.fr[pre.length]? = some f:=by rw[e];simp
  have a:=Wa m h f (mo.dn f (by rw[e];simp));have ih:=XJ m mo h suf (pre++[f]) (by rw[e];simp);have hl:=mo.fr;simp only[aae,aaQ]at ih;refine aZ (Ba _ _ _ _ _) ?_;rw[aby,er,abC hi,ge];simp only[AD]at a;simp only[aO,bm hc,AD,ao,ax,aU a,aH,aq,aA (show pre.length<2^62 by omega),ih];rw[ajb];cases jl m (G.ns.map (·.e)) f<;>rfl
def XK(m:Mc)(mo:tP m){H:DH}{n:Nat}{G:Rf}(h:kC H n G):∀ suf pre:List Ce,m.ce=pre++suf ->
 ac av 51 200009 [.g (.ptr (n+5) 0),.lp 0 0,.n pre.length] [(0,bu m)] H=ret (.bool (nl m G.ns suf pre.length&&m.fr.all fun f=>jl m (G.ns.map (·.e)) f)) H
 |[],pre,e=>by refine aZ (Bb _ _ _ _ _) ?_;rw[aby,er,show m.ce.length=pre.length by rw[e];simp,abz (aiD _),TD,nl,aeG];exact XJ m mo h m.fr [] rfl
 |c::suf,pre,e=>by
  have hi:pre.length<m.ce.length:=by rw[e];simp
  have hc:m.ce[pre.length]? = some c:=by rw[e];simp
  have a:=So m h pre.length c hc mo.ce (mo.refs c (by rw[e];simp));have ih:=XK m mo h suf (pre++[c]) (by rw[e];simp);have hl:=mo.ce;simp only[aae,aaQ]at ih;refine aZ (Bb _ _ _ _ _) ?_;rw[aby,er,abC hi,ge];simp only[ai a,aH,aq,aA (show pre.length<2^62 by omega),ih];rw[nl];cases Em m G.ns pre.length c<;>rfl
def XI(m:Mc)(mo:tP m){H:DH}{n:Nat}{G:Rf}(h:kC H n G)(ok:abq G)(hl:G.fs.length<=m.ce.length):∀(sa:List (List Nat×Nat)) (sb:List Ce) (pa:List (List Nat×Nat)) (pb:List Ce),G.fs=pa++sa->m.ce=pb++sb->pa.length=pb.length ->
 ac av 51 200004 [.g (.ptr (n+5) 0),.lp 0 0,.n pa.length] [(0,bu m)] H=ret (.bool (jI sa sb&&(nl m G.ns m.ce 0&&m.fr.all fun f=>jl m (G.ns.map (·.e)) f))) H
 |[],sb,pa,pb,e,_,_=>by obtain⟨st,h0⟩:=h.o;refine aZ (Bc _ _ _ _ _) ?_;simp only[ae h0,ao,ax,Ky,aS,aq];rw[er,show G.fs.length=pa.length by rw[e];simp,abz (aiD _),TD,jI,aeG];exact XK m mo h m.ce [] rfl
 |x::sa,[],pa,pb,e,a,b=>by rw[e,a]at hl;simp only[aae,aeJ,aiC]at hl;omega
 |x::sa,y::sb,pa,pb,e,a,b=>by
  obtain⟨st,h0⟩:=h.o;have hi:pa.length<G.fs.length:=by rw[e];simp
  have ih:=XI m mo h ok hl sa sb (pa++[x]) (pb++[y]) (by rw[e];simp) (by rw[a];simp) (by simp[b]);simp only[aae,aaQ]at ih;have c:G.fs[pa.length]? = some x:=by rw[e];simp
  have i:m.ce[pa.length]? = some y:=by rw[b,a];simp
  have hc:=WR x y H;have hk:=ok.fs;refine aZ (Bc _ _ _ _ _) ?_;simp only[ae h0,ao,ax,Ky,aS,aq];rw[er,abC hi,ge];simp only[jq,vh]at hc;simp only[aO,bm i,jq,ao,ax,adD,il hi,boK,ge,ZN,dj h.fs,bm c,vh,adg,aU hc,aH,aq,aA (show pa.length<2^62 by omega),ih];rw[jI];cases eqF y x<;>rfl
def Uw(m:Mc)(mo:tP m)(H:DH){n:Nat}{G:Rf}(h:kC H n G)(ok:abq G):am 51 [.ptr (n+5) 0,.agg (bu m)] H=ret (.bool (EI m G)) H:=by
 have hm:=ZA m h;obtain⟨st,h0⟩:=h.o;refine ev (f51 _ _ _ _) ?_;rw[EI,aU hm,aH,aq];cases e:nL m G.ns.length G.rs.length with
 |false=>rfl
 |true =>
  obtain⟨k,hk,c⟩:=HL e;have f:=YJ m H h ok.ds ok.rs k hk c mo.to mo.ou mo.v;rw[aid,TD,aeG];by_cases a:m.st<0
  ·rw[abC a,ge,abz (show ¬ 0<=m.st by omega),aeH]
  by_cases b:m.st>200000
  ·rw[abz a,TD,abC b,ge,abz (show ¬ m.st<=200000 by omega),aeH,aiM]
  rw[abz a,TD,abz b,TD,abC (show 0<=m.st by omega),abC (show m.st<=200000 by omega),aeG,aeG];simp only[ae h0,ao,ax,Ky,aby,aS,aq,aU f,aH];rw[er];by_cases hl:m.ce.length<G.fs.length
  ·rw[abC hl,ge,Bl hl,aeH,aiM]
  ·rw[abz hl,TD];have:=XI m mo h ok (by omega) G.fs m.ce [] [] rfl rfl rfl;cases yN m G with
   |false=>rfl
   |true =>rw[aid,TD,aeG];exact this
end Go.Proofs.YtpghiabjaglpgaaGreatDoor
namespace Go.Proofs.YtpghiabjaglpgaaGreatDoor
open Go.AI
def GY(nm:af)(vis:Bool):List Fu->Nat->Bool×Re->Bool×Re
 |[],_,a=>a
 |f::r,e,a=>GY nm vis r (e+1) (bif f.n==nm&&vis then(true,⟨true,e⟩)else a)
def Yw(tos:List To)(i:Nat)(a:Bool×Re):Bool×Re:=match tos[i]? with
 |some t=>(true,t.r)
 |none=>a
def mq(nm:af)(fn:Bool)(d:Int)(tos:List To)(ni:Nat):List De->Nat->Nat->Nat->Nat->Bool×Re->Bool×Re
 |[],_,_,_,_,a=>a
 |x::r,l,b,c,e,a =>
  bif x.k==3 then mq nm fn d tos ni r (l+1) b c (e+x.fs.length) (GY nm (decide ((l:Int)<d)||((l:Int)==d&&fn)) x.fs e a)
  else bif x.k==2 then mq nm fn d tos ni r (l+1) (b+1) c e (bif x.n==nm&&(!fn&&decide ((l:Int)<d))then Yw tos b a else a)
  else bif x.k==4 then mq nm fn d tos ni r (l+1) b (c+1) e (bif x.n==nm&&(!fn&&decide ((l:Int)<d))then Yw tos (ni+c) a else a)
  else mq nm fn d tos ni r (l+1) b c e a
section
variable(nm:af)(tos:List To)(x:Bo)(H:DH)
variable(ni hh:Nat)(ds:List De)
abbrev S6k(k l b c e:Nat)(a:Bool×Re):au :=
 ac av 100 k [.g (.str nm),.g (.row 3 (tos.map uZ)),.lp 0 0,.lp 1 0,.lp 2 0,.g (.bool a.1),.n (b:Nat),.n (c:Nat),.n (e:Nat),.g (.buf 1 hh ni),.g (.row 14 (ds.map bF)),.n ds.length,.n l] [(0,[.bool false,.i 0]),(0,qd x),(0,[.bool a.2.c,.i a.2.n])] H
abbrev S6(l b c e:Nat)(a:Bool×Re):au:=S6k nm tos x H ni hh ds 200006 l b c e a
abbrev S11(k:Nat)(l b c:Nat)(fs:List Fu)(e i:Nat)(a:Bool×Re):au :=
 ac av 100 k [.g (.str nm),.g (.row 3 (tos.map uZ)),.lp 0 0,.lp 1 0,.lp 2 0,.g (.bool a.1),.n (b:Nat),.n (c:Nat),.n (e:Nat),.g (.buf 1 hh ni),.n l,.g (.row 14 (ds.map bF)),.n ds.length,.n l,.g (.row 8 (fs.map jQ)),.n fs.length,.n i] [(0,[.bool false,.i 0]),(0,qd x),(0,[.bool a.2.c,.i a.2.n])] H
abbrev S14(l b c:Nat)(fs:List Fu)(e i:Nat)(a:Bool×Re):au :=
 ac av 100 14 [.g (.str nm),.g (.row 3 (tos.map uZ)),.lp 0 0,.lp 1 0,.lp 2 0,.n (b:Nat),.n (c:Nat),.n (e:Nat),.g (.buf 1 hh ni),.n l,.g (.row 14 (ds.map bF)),.n ds.length,.n l,.g (.row 8 (fs.map jQ)),.n fs.length,.n i] [(0,[.bool false,.i 0]),(0,qd x),(0,[.bool a.2.c,.i a.2.n])] H
def s15(l b c:Nat)(fs:List Fu)(e i:Nat)(a:Bool×Re)(f:e<2^62)(hi:i<2^62):S11 nm tos x H ni hh ds 15 l b c fs e i a=S11 nm tos x H ni hh ds 200011 l b c fs (e+1) (i+1) a:=by refine aZ (Ww _ _ _ _ _ _ _ _ _ _ _ _ _ _ _ _ _ _ _ _ _) ?_;rw[aA f,aA hi]
def s14(l b c:Nat)(fs:List Fu)(e i:Nat)(a:Bool×Re)(f:e<2^62)(hi:i<2^62):S14 nm tos x H ni hh ds l b c fs e i a=S11 nm tos x H ni hh ds 200011 l b c fs (e+1) (i+1) (true,⟨true,e⟩):=by refine aZ (Wx _ _ _ _ _ _ _ _ _ _ _ _ _ _ _ _ _ _ _ _) ?_;exact s15 nm tos x H ni hh ds l b c fs e i (true,⟨true,e⟩) f hi
def abX(l b c:Nat)(hl:l<2^61)(fs:List Fu)(k:fs.length<2^61)(vis:Bool)
 (g:vis=((decide (x.run<0)&&decide ((l:Int)<=x.decl))||(decide (x.run>=0)&&decide ((l:Int)<x.decl)))):∀(suf pre:List Fu) (e:Nat) (a:Bool×Re),fs=pre++suf->e+suf.length<2^61 ->
 S11 nm tos x H ni hh ds 200011 l b c fs e pre.length a=S6 nm tos x H ni hh ds (l+1) b c (e+suf.length) (GY nm vis suf e a)
 |[],pre,e,a,j,_=>by refine aZ (wY _ _ _ _ _ _ _ _ _ _ _ _ _ _ _ _ _ _ _ _ _) ?_;rw[er,show fs.length=pre.length by rw[j];simp,abz (aiD _),TD,aA (show l<2^62 by omega)];rfl
 |f::suf,pre,e,a,j,hb=>by
  rw[aeJ]at hb;have hi:pre.length<fs.length:=by rw[j];simp
  have n:fs[pre.length]? = some f:=by rw[j];simp
  have ih:=fun a=>abX l b c hl fs k vis g suf (pre++[f]) (e+1) a (by rw[j];simp) (by omega);simp only[aae,aaQ]at ih;have h:=s15 nm tos x H ni hh ds l b c fs e pre.length a (by omega) (by omega);have i:=s14 nm tos x H ni hh ds l b c fs e pre.length a (by omega) (by omega);rw[ih]at h i;refine aZ (wY _ _ _ _ _ _ _ _ _ _ _ _ _ _ _ _ _ _ _ _ _) ?_;rw[er,abC hi,ge,aeJ,show e+(suf.length+1)=e+1+suf.length by omega,GY];obtain⟨fn,fa,⟨ek,em,en,ea,xs,ps⟩⟩:=f;simp only[Nb,bm n,jQ,Ye,ce8,ov8,ao,ax,qd,cF,aS,tB,cX,aq];simp only[S11,S14,qd]at h i;rw[h,i,g];cases fn==nm<;>cases decide (x.run<0)<;>cases decide ((l:Int)<=x.decl)<;>cases decide (x.run>=0)<;>cases decide ((l:Int)<x.decl)<;>simp only[ge,TD,aeG,aiW,aeH,aiM,akO,aks,ajf,akH]
def s20(l b c e:Nat)(a:Bool×Re)(hb:b<2^62)(hl:l<2^62):S6k nm tos x H ni hh ds 20 l b c e a=S6 nm tos x H ni hh ds (l+1) (b+1) c e a:=by refine aZ (Wv _ _ _ _ _ _ _ _ _ _ _ _ _ _ _ _ _) ?_;rw[aA hb,aA hl]
def s25(l b c e:Nat)(a:Bool×Re)(hb:c<2^62)(hl:l<2^62):S6k nm tos x H ni hh ds 25 l b c e a=S6 nm tos x H ni hh ds (l+1) b (c+1) e a:=by refine aZ (Wu _ _ _ _ _ _ _ _ _ _ _ _ _ _ _ _) ?_;rw[aA hb,aA hl]
def de7(d:De)(κ:D->au):ah (bF d) 7 κ=κ (.row 8 (d.fs.map jQ)):=by obtain⟨k,⟨dn,vs,cs⟩,n,⟨tn,ts⟩,fs,⟨ek,em,en,ea,xs,ps⟩⟩:=d;rfl
def afE(l:aR)(i:Nat)(κ:D->au):aD ab 40 (.row 3 l) (.i i) κ=ba l i fun cs=>κ (.eptr cs 0):=by kernel_rfl
def adb(a b c:D)(H:DH)(κ:D->au):cH ab 37 (.eptr [a,b,c] 1) H κ=κ (.agg [b,c]):=by kernel_rfl
def Uk:List De->Nat
 |[]=>0
 |x::r=>x.fs.length+Uk r
def abW(fn:Bool)(l:fn=decide (x.run<0))(p:ds.length<2^60)(s:ni<2^60):∀(suf pre:List De) (b c e:Nat) (a:Bool×Re),ds=pre++suf->b<=pre.length->c<=pre.length->e+Uk suf<2^61 ->
 S6 nm tos x H ni hh ds pre.length b c e a=ret (.tuple [.agg [.bool (mq nm fn x.decl tos ni suf pre.length b c e a).2.c,.i (mq nm fn x.decl tos ni suf pre.length b c e a).2.n],.bool (mq nm fn x.decl tos ni suf pre.length b c e a).1]) H
 |[],pre,b,c,e,a,h,_,_,_=>by refine aZ (wZ _ _ _ _ _ _ _ _ _ _ _ _ _ _ _ _ _) ?_;rw[er,show ds.length=pre.length by rw[h];simp,abz (aiD _),TD];rfl
 |d::suf,pre,b,c,e,a,h,hb,hc,v=>by
  rw[Uk]at v;have hi:pre.length<ds.length:=by rw[h];simp
  have t:ds[pre.length]? = some d:=by rw[h];simp
  have u:=Gm d;have ih:=fun b c e a y z A=>abW fn l p s suf (pre++[d]) b c e a (by rw[h];simp) y z A;simp only[aae,aaQ]at ih;refine aZ (wZ _ _ _ _ _ _ _ _ _ _ _ _ _ _ _ _ _) ?_;rw[er,abC hi,ge,mq];simp only[Sx,bm t,Sf _ u,abf _ u,Zl _ u,de0,aT,aq];cases h3:d.k==3 with
  |true =>
   have B:=abX nm tos x H ni hh ds pre.length b c (by omega) d.fs (by omega) (decide ((pre.length:Int)<x.decl)||((pre.length:Int)==x.decl&&fn)) (by
    rw[l];by_cases q:x.run<0
    ·rw[abC q,abz (show ¬ x.run>=0 by omega),aiW,aeG,aeH,akH];rw[aiz];simp;omega
    ·rw[abz q,abC (show x.run>=0 by omega),aiM,akH,aeG,aeH,ajf]) d.fs [] e a rfl (by omega)
   simp only[ge,de7,FB,aby];refine B.trans ?_;exact ih b c _ _ (by omega) (by omega) (by omega)
  |false =>
   have j:decide (x.run>=0)=!fn:=by rw[l,<- decide_not];exact ajI.2 (by omega)
   simp only[TD];cases h2:d.k==2 with
   |true =>
    have t20:=fun a=>(s20 nm tos x H ni hh ds pre.length b c e a (by omega) (by omega)).trans (ih (b+1) c e a (by omega) (by omega) (by omega));simp only[S6k]at t20;have g:=t20 a;simp only[ge,de4,qd,ao,ax,cF,cX,aS,aq,j];simp only[qd]at t20 g;cases d.n==nm with
    |false=>simp only[TD,aeH];exact g
    |true =>
     cases fn with
     |true=>simp only[ge,TD,aid,aeH,aiM];exact g
     |false =>
      cases decide ((pre.length:Int)<x.decl)with
      |false=>simp only[ge,TD,aih,aiM];exact g
      |true =>
       simp only[ge,aih,aiW,aby];rw[er,Yw];by_cases f:b<tos.length
       ·have o:tos[b]? = some tos[b]:=abF f;rw[abC f,ge,o];simp only[aO,bm o,uZ,ao,ax];exact t20 (true,tos[b].r)
       ·rw[abz f,TD,aeF (by omega)];exact g
   |false =>
    simp only[TD];cases h4:d.k==4 with
    |true =>
     have t25:=fun a=>(s25 nm tos x H ni hh ds pre.length b c e a (by omega) (by omega)).trans (ih b (c+1) e a (by omega) (by omega) (by omega));simp only[S6k]at t25;have g:=t25 a;have E:bD ((ni:Int)+(c:Int))=((ni+c:Nat):Int):=by rw[jf (by omega) (by omega)];omega
     simp only[ge,qZ,bH,E,de4,qd,ao,ax,cF,cX,aS,aq,j];simp only[qd]at t25 g;cases d.n==nm with
     |false=>simp only[TD,aeH];exact g
     |true =>
      cases fn with
      |true=>simp only[ge,TD,aid,aeH,aiM];exact g
      |false =>
       cases decide ((pre.length:Int)<x.decl)with
       |false=>simp only[ge,TD,aih,aiM];exact g
       |true =>
        simp only[ge,aih,aiW,aby];rw[er,Yw];by_cases f:ni+c<tos.length
        ·have o:tos[ni+c]? = some tos[ni+c]:=abF f;rw[abC f,ge,o];simp only[afE,bm o,uZ,oY,aiv,adb,iz,aE,mK];exact t25 (true,tos[ni+c].r)
        ·rw[abz f,TD,aeF (by omega)];exact g
    |false =>simp only[TD,aA (show pre.length<2^62 by omega)];exact ih b c e a (by omega) (by omega) (by omega)
end
end Go.Proofs.YtpghiabjaglpgaaGreatDoor
namespace Go.Proofs.YtpghiabjaglpgaaGreatDoor
open Go.AI
def ZM(o n i:Nat)(H:DH)(κ:D->au):cH ab 152 (.bptr o n i 0) H κ=ew H o n fun _ _ _ l=>ba l i fun cs=>cR ab 152 cs 0 κ:=by kernel_rfl
def adf(a b c d e f g:D)(κ:D->au):cR ab 152 [a,b,c,d,e,f,g] 0 κ=κ (.agg [a,b,c,d,e,f,g]):=by kernel_rfl
def abV(m:Mc)(H:DH){n:Nat}{G:Pg}(h:gd H n G)(hd:G.ds.length<=9000)(i:Nat)(x:Bo)(k:G.bs[i]? = some x)(nm:af)(tos:List To)(hn:Uk G.ds<2^60) :
 am 100 [.ptr (n+5) 0,.i i,.str nm,.row 3 (tos.map uZ)] H=ret (.tuple [.agg [.bool (mq nm (decide (x.run<0)) x.decl tos (dD G.ds).length G.ds 0 0 0 0 (false,⟨false,0⟩)).2.c,.i (mq nm (decide (x.run<0)) x.decl tos (dD G.ds).length G.ds 0 0 0 0 (false,⟨false,0⟩)).2.n],.bool (mq nm (decide (x.run<0)) x.decl tos (dD G.ds).length G.ds 0 0 0 0 (false,⟨false,0⟩)).1]) H:=by
 have hi:=Yi H h (by omega);have li:=sJ G.ds;have l:gd (Yn H (dD G.ds)) n G:=h.app _;obtain⟨st,h0⟩:=h.o;obtain⟨st2,p⟩:=l.o;have j:=(aez.1 k).1;have hl:=abW nm tos x (Yn H (dD G.ds)) (dD G.ds).length H.length G.ds (decide (x.run<0)) rfl (by omega) (by omega) G.ds [] 0 0 0 (false,⟨false,0⟩) rfl (abD _) (abD _) (by omega);refine ev (aib _ _ _ _ _ _) ?_;simp only[ae h0,ao,ax,VV,il j,boK,ge,ZM,dj h.bs,bm k,qd,adf];refine(aiK (aX H) ?_).trans (eB (X:=[.buf 1 true false ((dD G.ds).map fD)]) (by simp[D.bel,dF]));simp only[show ∀(a b c d e f g:D) (κ:List D->au),aj 7 (.agg [a,b,c,d,e,f,g]) κ=κ [a,b,c,d,e,f,g] from fun _ _ _ _ _ _ _ _=>rfl,show ∀(q r s t u v y a b c d e f g:D) (κ:List D->au),aE [q,r,s,t,u,v,y] 0 [a,b,c,d,e,f,g] κ=κ [a,b,c,d,e,f,g] from fun _ _ _ _ _ _ _ _ _ _ _ _ _ _ _=>rfl,ai hi,ae p,ao,um,aby];exact hl
def abv(m:Mc):Prop:=∀(i:Nat) c,m.ce[i]? = some c->c.k=3->(∃ r,c.refs=[r])/\cS m c.nx i=true
def nT(m:Mc)(nm:af):Nat->Int->Option Re
 |0,_=>none
 |k+1,v=>bif decide (v<0)then none else match m.ce[v.toNat]? with
  |none=>none
  |some c=>bif c.con==nm then c.refs[0]? else nT m nm k c.nx
def gz{m:Mc}{n b:Int}(h:cS m n b=true):n=-1\/(0<=n/\n<b/\kd m n=3):=by
 unfold cS at h;simp only[ajD,abA,akr,ajJ]at h;rcases h with h|h
 ·exact .inl h
 ·exact .inr ⟨h.1,h.2.1,h.2.2⟩
def SR(m:Mc)(l:abv m)(H:DH)(n:Nat)(ex:Int)(nm:af)(X:au)
 (b:ac av 49 200001 [.g (.ptr n 0),.n ex,.n (-1),.g (.str nm),.lp 0 0,.lp 1 0] [(0,bu m),(0,[.bool false,.i 0])] H=X):∀(k:Nat) (v:Int),v<k->cS m v m.ce.length=true ->
 ac av 49 200001 [.g (.ptr n 0),.n ex,.n v,.g (.str nm),.lp 0 0,.lp 1 0] [(0,bu m),(0,[.bool false,.i 0])] H=match nT m nm k v with
  |some r=>ret (.tuple [.agg [.bool r.c,.i r.n],.bool true]) H
  |none=>X
 |0,v,hk,e=>by
  rcases gz e with rfl|h
  ·rw[b,nT]
  ·omega
 |k+1,v,hk,e=>by
  rcases gz e with rfl|⟨h0,p,o⟩
  ·rw[b,nT];rfl
  ·obtain⟨c,hc,f⟩:=pT m h0 p;rw[f]at o;obtain⟨⟨r,hr⟩,a⟩:=l v.toNat c hc o;have hlt:c.nx<(v.toNat:Int):=by rcases gz a with h|h<;>omega
   have j:cS m c.nx m.ce.length=true:=by
    revert a;unfold cS;simp only[ajD,abA,akr,ajJ];rintro(h|h)
    ·exact .inl h
    ·exact .inr ⟨h.1,by omega,h.2.2⟩
   have ih:=SR m l H n ex nm X b k c.nx (by omega) j;refine aZ (Bf _ _ _ _ _ _ _ _ _) ?_;rw[abC (show v>=0 by omega),ge,BA h0 hc,nT,abz (show ¬ v<0 by omega),TD,hc];simp only[jq,ao,ax,cF,aq,hr,aeL,ajX,Nc,Jy,VK,iz,HC,ih];cases c.con==nm<;>rfl
def SQ(m:Mc)(l:abv m)(H:DH)(n:Nat)(ex:Int)(nm:af)(X:au)
 (b:ac av 50 200001 [.g (.ptr n 0),.n (-1),.g (.str nm),.n ex,.lp 0 0,.lp 1 0] [(0,bu m),(0,[.bool false,.i 0])] H=X):∀(k:Nat) (v:Int),v<k->cS m v m.ce.length=true ->
 ac av 50 200001 [.g (.ptr n 0),.n v,.g (.str nm),.n ex,.lp 0 0,.lp 1 0] [(0,bu m),(0,[.bool false,.i 0])] H=match nT m nm k v with
  |some r=>ret (.tuple [.agg [.bool r.c,.i r.n],.bool true]) H
  |none=>X
 |0,v,hk,e=>by
  rcases gz e with rfl|h
  ·rw[b,nT]
  ·omega
 |k+1,v,hk,e=>by
  rcases gz e with rfl|⟨h0,p,o⟩
  ·rw[b,nT];rfl
  ·obtain⟨c,hc,f⟩:=pT m h0 p;rw[f]at o;obtain⟨⟨r,hr⟩,a⟩:=l v.toNat c hc o;have hlt:c.nx<(v.toNat:Int):=by rcases gz a with h|h<;>omega
   have j:cS m c.nx m.ce.length=true:=by
    revert a;unfold cS;simp only[ajD,abA,akr,ajJ];rintro(h|h)
    ·exact .inl h
    ·exact .inr ⟨h.1,by omega,h.2.2⟩
   have ih:=SQ m l H n ex nm X b k c.nx (by omega) j;refine aZ (Be _ _ _ _ _ _ _ _ _) ?_;rw[abC (show v>=0 by omega),ge,BA h0 hc,nT,abz (show ¬ v<0 by omega),TD,hc];simp only[BA h0 hc,jq,ao,ax,cF,aq,hr,aeL,ajX,Nc,Jy,VK,iz,HC,ih];cases c.con==nm<;>rfl
end Go.Proofs.YtpghiabjaglpgaaGreatDoor
namespace Go.Proofs.YtpghiabjaglpgaaGreatDoor
open Go.AI
section
variable(m:Mc)(nm:af)(w ex:Nat)(d:Int)(H:DH)
abbrev R8(key:Nat)(c e h j:Nat)(a:Bool×Re):au :=
 ac av 101 key [.g (.ptr w 0),.g (.str nm),.n ex,.lp 0 0,.lp 1 0,.n d,.lp 2 0,.g (.bool a.1),.n (c:Nat),.n e,.n h,.n j] [(0,bu m),(0,[.bool false,.i 0]),(0,[.bool a.2.c,.i a.2.n])] H
abbrev Yz(key:Nat)(x:De)(c e h j k:Nat)(a:Bool×Re):au :=
 ac av 101 key [.g (.ptr w 0),.g (.str nm),.n ex,.lp 0 0,.lp 1 0,.n d,.lp 2 0,.g (.bool a.1),.n (c:Nat),.n e,.n h,.n j,.lp 3 0,.n k] [(0,bu m),(0,[.bool false,.i 0]),(0,[.bool a.2.c,.i a.2.n]),(0,bF x)] H
abbrev R15(key:Nat)(x:De)(c e h j k:Nat)(a:Bool×Re):au :=
 ac av 101 key [.g (.ptr w 0),.g (.str nm),.n ex,.lp 0 0,.lp 1 0,.n d,.lp 2 0,.n (c:Nat),.n e,.n h,.n j,.lp 3 0,.n k] [(0,bu m),(0,[.bool false,.i 0]),(0,[.bool a.2.c,.i a.2.n]),(0,bF x)] H
abbrev R22(key:Nat)(x:De)(c e h j:Nat)(a:Bool×Re):au :=
 ac av 101 key [.g (.ptr w 0),.g (.str nm),.n ex,.lp 0 0,.lp 1 0,.n d,.lp 2 0,.g (.bool a.1),.n (c:Nat),.n e,.n h,.n j,.lp 3 0] [(0,bu m),(0,[.bool false,.i 0]),(0,[.bool a.2.c,.i a.2.n]),(0,bF x)] H
def r17(x:De)(c e h j k:Nat)(a:Bool×Re)(hc:c<2^62)(hk:k<2^62):Yz m nm w ex d H 17 x c e h j k a=Yz m nm w ex d H 200012 x (c+1) e h j (k+1) a:=by refine aZ (Wq _ _ _ _ _ _ _ _ _ _ _ _ _ _ _ _ _ _) ?_;rw[aA hc,aA hk]
def r15(x:De)(c e h j k:Nat)(a:Bool×Re)(hc:c<2^62)(hk:k<2^62):R15 m nm w ex d H 15 x c e h j k a=Yz m nm w ex d H 200012 x (c+1) e h j (k+1) (true,⟨true,c⟩):=by refine aZ (Ws _ _ _ _ _ _ _ _ _ _ _ _ _ _ _ _ _) ?_;refine aZ (Wr _ _ _ _ _ _ _ _ _ _ _ _ _ _ _ _ _) ?_;exact r17 m nm w ex d H x c e h j k (true,⟨true,c⟩) hc hk
def r27(c e h j:Nat)(a:Bool×Re)(hh:h<2^62)(b:j<2^62):R8 m nm w ex d H 27 c e h j a=R8 m nm w ex d H 200008 c e (h+1) (j+1) a:=by refine aZ (Wo _ _ _ _ _ _ _ _ _ _ _ _ _ _ _ _) ?_;rw[aA hh,aA b]
def r22(x:De)(c e h j:Nat)(a:Bool×Re)(b:e<2^62):R22 m nm w ex d H 22 x c e h j a=R22 m nm w ex d H 23 x c (e+1) h j a:=by refine aZ (Wp _ _ _ _ _ _ _ _ _ _ _ _ _ _ _ _ _) ?_;rw[aA b]
def aaf{H:DH}{n:Nat}{G:Rf}(h:kC H n G)(ex:Nat)(y:Fn)(hy:G.ns[ex]? = some y)(κ:D->au) :
 (az H (n+5) fun _ c=>ah c 1 fun d=>aD ab 90 d (.i ex) fun d=>ct d 9 fun x=>cH ab 4 x H κ)=κ (.bool y.fn):=by
 obtain⟨st,h0⟩:=h.o;have a:=(aez.1 hy).1;obtain⟨⟨k,mm,nn,ag,xs,ps⟩,yd,yf,yp,yn,ys,yr⟩:=y;simp only[ae h0,ao,ax,VU,il a,boK,ge,oZ,Yd,dj h.ns,bm hy,qb,aiv]
def acn{n:Nat}{G:Rf}(h:kC H n G)(y:Fn)(hy:G.ns[ex]? = some y)(x:De)(i:x.fs.length<2^61)(e hh j:Nat):∀(suf pre:List Fu) (c:Nat) (a:Bool×Re),x.fs=pre++suf->c+suf.length<2^61 ->
 Yz m nm (n+5) ex d H 200012 x c e hh j pre.length a=Yz m nm (n+5) ex d H 200012 x (c+suf.length) e hh j x.fs.length (GY nm (decide ((j:Int)<d)||((j:Int)==d&&y.fn)) suf c a)
 |[],pre,c,a,hp,_=>by rw[show pre.length=x.fs.length by rw[hp];simp];rfl
 |f::suf,pre,c,a,hp,hb=>by
  rw[aeJ]at hb;have hi:pre.length<x.fs.length:=by rw[hp];simp
  have k:x.fs[pre.length]? = some f:=by rw[hp];simp
  have ih:=fun a=>acn h y hy x i e hh j suf (pre++[f]) (c+1) a (by rw[hp];simp) (by omega);simp only[aae,aaQ]at ih;have b:=(r17 m nm (n+5) ex d H x c e hh j pre.length a (by omega) (by omega)).trans (ih a);have g:=(r15 m nm (n+5) ex d H x c e hh j pre.length a (by omega) (by omega)).trans (ih (true,⟨true,c⟩));refine aZ (wW _ _ _ _ _ _ _ _ _ _ _ _ _ _ _ _ _ _) ?_;rw[aeJ,show c+(suf.length+1)=c+1+suf.length by omega,GY];simp only[de7,FB,aby,aS,aq];rw[er,abC hi,ge];obtain⟨fn,fa,⟨ek,em,en,ea,xs,ps⟩⟩:=f;simp only[Nb,bm k,jQ,oY,aiv,OG,ao,cF,aq,aaf h ex y hy];simp only[Yz,R15]at g b;rw[g,b];cases fn==nm<;>cases decide ((j:Int)<d)<;>cases (j:Int)==d<;>cases y.fn<;>simp only[ge,TD,aeG,aiW,aeH,aiM,akO,aks,ajf,akH,Yz]
def aco{n:Nat}{G:Rf}(h:kC H n G)(y:Fn)(hy:G.ns[ex]? = some y)(x:De)(c e hh j:Nat)(hj:j<2^61)(h2:hh<2^61)(o:x.k=2->e<m.to.length)(he2:e<2^61)(a:Bool×Re) :
 Yz m nm (n+5) ex d H 200012 x c e hh j x.fs.length a =
  bif x.k==2 then R8 m nm (n+5) ex d H 200008 c (e+1) hh (j+1) (bif x.n==nm&&(!y.fn&&decide ((j:Int)<d))then Yw m.to e a else a)
  else bif x.k==4 then R8 m nm (n+5) ex d H 200008 c e (hh+1) (j+1) (bif x.n==nm&&(!y.fn&&decide ((j:Int)<d))then Yw m.to hh a else a)
  else R8 m nm (n+5) ex d H 200008 c e hh (j+1) a:=by
 refine aZ (wW _ _ _ _ _ _ _ _ _ _ _ _ _ _ _ _ _ _) ?_;simp only[de7,FB,aby,aS,aq];rw[er,abz (aiD _),TD];simp only[de0,de4,aT,cF,aq,aaf h ex y hy,aH];cases l:x.k==2 with
 |true =>
  have b:=o (akj l);have g:m.to[e]? = some m.to[e]:=abF b;have i:∀ a,R22 m nm (n+5) ex d H 23 x c (e+1) hh j a=R8 m nm (n+5) ex d H 200008 c (e+1) hh (j+1) a:=by intro a;refine aZ (Nn _ _ _ _ _ _ _ _ _ _ _ _ _ _ _ _ _) ?_;simp only[de0,aT,aq];rw[show(x.k==4)=false by rw[akj l];rfl,TD,aA (show j<2^62 by omega)]
  have t:=fun a=>(r22 m nm (n+5) ex d H x c e hh j a (by omega)).trans (i a);have f:=t a;simp only[R22]at t f;simp only[ge,aO,bm g,uZ,ao,ax,Yw,g];cases x.n==nm with
  |false=>simp only[TD,aeH];exact f
  |true =>
   cases decide ((j:Int)<d)with
   |false=>simp only[ge,TD,aid,aih,aeG,aiW,aeH,aiM];exact f
   |true =>
    cases y.fn with
    |true=>simp only[ge,TD,aid,aih,aeG,aiW,aeH,aiM];exact f
    |false=>simp only[ge,TD,aid,aih,aeG,aiW,aeH,aiM];exact t (true,m.to[e].r)
 |false =>
  simp only[TD];refine aZ (Nn _ _ _ _ _ _ _ _ _ _ _ _ _ _ _ _ _) ?_;simp only[de0,de4,aT,cF,aq,aaf h ex y hy,aH,aby];cases k4:x.k==4 with
  |false=>simp only[TD,aA (show j<2^62 by omega)]
  |true =>
   have t:=fun a=>r27 m nm (n+5) ex d H c e hh j a (by omega) (by omega);have f:=t a;simp only[R8]at t f;simp only[ge,Yw];rw[er];by_cases b:hh<m.to.length
   ·have g:m.to[hh]? = some m.to[hh]:=abF b;rw[abC b];simp only[ge,aO,bm g,uZ,ao,ax,g];cases x.n==nm with
    |false=>simp only[TD,aeH];exact f
    |true =>
     cases decide ((j:Int)<d)with
     |false=>simp only[ge,TD,aid,aih,aeG,aiW,aeH,aiM];exact f
     |true =>
      cases y.fn with
      |true=>simp only[ge,TD,aid,aih,aeG,aiW,aeH,aiM];exact f
      |false=>simp only[ge,TD,aid,aih,aeG,aiW,aeH,aiM];exact t (true,m.to[hh].r)
   ·rw[abz b,aeF (by omega)];cases x.n==nm<;>cases y.fn<;>cases decide ((j:Int)<d)<;>simp only[ge,TD,aid,aih,aeG,aiW,aeH,aiM]<;>exact f
end
end Go.Proofs.YtpghiabjaglpgaaGreatDoor
