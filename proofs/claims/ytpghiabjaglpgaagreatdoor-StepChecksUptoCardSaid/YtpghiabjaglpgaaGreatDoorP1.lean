/- Lemmas. No conditions. -/
import Derived.Test.YtpghiabjaglpgaaGreatDoorQ3
import Derived.Test.YtpghiabjaglpgaaGreatDoorQ4
set_option linter.all false
noncomputable section
namespace Go.Proofs.YtpghiabjaglpgaaGreatDoor
open Go.AI
def pk(l:af)(i:Nat):Nat:=(l[i]?).getD 0%256
def eY(c:Nat):Bool:=decide (97<=c)&&decide (c<=122)
def jr(c:Nat):Bool:=decide (65<=c)&&decide (c<=90)
def bq(c:Nat):Bool:=decide (48<=c)&&decide (c<=57)
def bh(c:Nat):Bool:=eY c||jr c||bq c||c==95
def dA(c:Nat):Bool:=c==32||c==9||c==10||c==13
def rn(q:Nat->Bool)(l:af)(i:Nat):Nat:=((l.drop i).takeWhile fun c=>q (c%256)).length
def zo(q:Nat->Bool){l:af}{i:Nat}(h:l.length<=i):rn q l i=0:=by simp[rn,List.drop_eq_nil_of_le h]
def kJ(q:Nat->Bool){l:af}{i:Nat}(h:i<l.length):rn q l i=if q (pk l i)=true then rn q l (i+1)+1 else 0:=by unfold rn pk;rw[akF h,List.takeWhile_cons,abF h,ajG];split<;>rfl
def sd(q:Nat->Bool)(l:af)(i:Nat)(h:i<=l.length):i+rn q l i<=l.length:=by unfold rn;have:=(List.takeWhile_sublist (fun c=>q (c%256)) (l:=l.drop i)).length_le;rw[aiS]at this;omega
def acp(l:af)(i:Nat):pk l i<256:=Nat.mod_lt _ (by decide)
def oz{l:af}{i:Nat}(h:l.length<=i):pk l i=0:=by simp[pk,aeF h]
def dt{l:af}{i:Nat}(h:i<l.length)(κ:D->au):eR l i κ=κ (.int .u8 (pk l i:Nat)):=by unfold eR pk;rw[abF h,ajG];rfl
def OF(l:af)(H:DH)(κ:D->au):aY ab 9 (.str l) H κ=κ (.i l.length):=by kernel_rfl
def adA(l:af)(k:IntKind)(i:Int)(κ:D->au):jZ ab 9 (.str l) (.int k i) κ=bk i fun i=>eR l i κ:=by kernel_rfl
def Uj(l:af)(a b:Nat)(H:DH)(κ:D->DH->au)(h:a<=b)(d:b<=l.length):cy ab 9 (.str l) (some (.i a)) (some (.i b)) none H κ=κ (.str ((l.drop a).take (b - a))) H:=by
 have e:cy ab 9 (.str l) (some (.i a)) (some (.i b)) none H κ=boK (Nat.ble b l.length&&Nat.ble a b) (κ (.str ((l.drop a).take (b - a))) H):=by kernel_rfl
 rw[e,aeI h,aeI d];rfl
def aeQ(l:af)(a:Nat)(H:DH)(κ:D->DH->au)(h:a<=l.length):cy ab 9 (.str l) (some (.i a)) none none H κ=κ (.str (l.drop a)) H:=by
 have e:cy ab 9 (.str l) (some (.i a)) none none H κ=boK (Nat.ble l.length l.length&&Nat.ble a l.length) (κ (.str ((l.drop a).take (l.length - a))) H):=by kernel_rfl
 rw[e,aeI h,aeI (abD _),ajn (by simp)];rfl
def abY(l:af)(b:Nat)(H:DH)(κ:D->DH->au)(h:b<=l.length):cy ab 9 (.str l) none (some (.i b)) none H κ=κ (.str (l.take b)) H:=by
 have e:cy ab 9 (.str l) none (some (.i b)) none H κ=boK (Nat.ble b l.length&&Nat.ble 0 b) (κ (.str ((l.drop 0).take (b - 0))) H):=by kernel_rfl
 rw[e,aeI h,aeI (aje _)];rfl
def fj{x:au}{d:D}{H:DH}{k:D->DH->au}{kp:List iD->DH->au}(h:x=ret d H):bB x k kp=k d H:=by rw[h];rfl
def Po{x:au}{c:List iD}{u:Option fe}{H:DH}{k:D->DH->au}{kp:List iD->DH->au}(h:x=some ⟨.pan c,u,H⟩):bB x k kp=kp c H:=by rw[h];rfl
def Ca{R:aI}{f:FuncId}{args:List D}{d:D}{H H':DH}{k:D->DH->au}(h:R (.call f args none) H=pan d H'):C R f args H k=pan d H':=by rw[C,h];rfl
def Ke{H:DH}{o st:Nat}{cs:List D}{κ:Nat->List D->au}(h:H[o]? = some (.cells st cs)):az (fX H [H]) o κ=κ st cs:=ae (xo h (fun H2 a=>by simp at a;subst a;exact h))
section bytes
variable(H:DH)(c:Nat)
def nle(a:Nat):decide ((a:Int)<=(c:Int))=decide (a<=c):=ajI.2 (by omega)
def Ox(a:Nat):decide ((c:Int)<=(a:Int))=decide (c<=a):=ajI.2 (by omega)
def nge(a:Nat):decide ((c:Int)>=(a:Int))=decide (a<=c):=ajI.2 (by omega)
def neq(a:Nat):((c:Int)==(a:Int))=(c==a):=by rw[aiz];simp only[akr];omega
def er(a b:Nat):decide ((a:Int)<(b:Int))=decide (a<b):=ajI.2 (by omega)
def rng(a b:Nat):cond (decide (a<=c)) (ret (.bool (decide (c<=b))) H) (ret (.bool false) H)=ret (.bool (decide (a<=c)&&decide (c<=b))) H:=by cases decide (a<=c)<;>rfl
def EL:am 346 [.int .u8 (c:Nat)] H=ret (.bool (eY c)) H:=ev (afS _ _ _) (by rw[show(97:Int)=((97:Nat):Int)from rfl,show(122:Int)=((122:Nat):Int)from rfl,nle,Ox,rng];rfl)
def Nf:am 348 [.int .u8 (c:Nat)] H=ret (.bool (jr c)) H:=ev (afQ _ _ _) (by rw[show(65:Int)=((65:Nat):Int)from rfl,show(90:Int)=((90:Nat):Int)from rfl,nle,Ox,rng];rfl)
def yB:am 344 [.int .u8 (c:Nat)] H=ret (.bool (bq c)) H:=ev (afU _ _ _) (by rw[show(48:Int)=((48:Nat):Int)from rfl,show(57:Int)=((57:Nat):Int)from rfl,nle,Ox,rng];rfl)
def EK:am 284 [.int .u8 (c:Nat)] H=ret (.bool (eY c)) H:=ev (f284 _ _ _) (by rw[show(97:Int)=((97:Nat):Int)from rfl,show(122:Int)=((122:Nat):Int)from rfl,nge,Ox,rng];rfl)
def FK:am 286 [.int .u8 (c:Nat)] H=ret (.bool (jr c)) H:=ev (f286 _ _ _) (by rw[show(65:Int)=((65:Nat):Int)from rfl,show(90:Int)=((90:Nat):Int)from rfl,nge,Ox,rng];rfl)
def tp:am 281 [.int .u8 (c:Nat)] H=ret (.bool (bq c)) H:=ev (f281 _ _ _) (by rw[show(48:Int)=((48:Nat):Int)from rfl,show(57:Int)=((57:Nat):Int)from rfl,nge,Ox,rng];rfl)
def JX:am 350 [.int .u8 (c:Nat)] H=ret (.bool (bh c)) H:=ev (afO _ _ _) (by simp only[ai (EL _ _),ai (Nf _ _),ai (yB _ _),aq,show(95:Int)=((95:Nat):Int)from rfl,neq,bh];cases eY c<;>cases jr c<;>cases bq c<;>rfl)
def JW:am 283 [.int .u8 (c:Nat)] H=ret (.bool (bh c)) H:=ev (f283 _ _ _) (by simp only[ai (EK _ _),ai (FK _ _),ai (tp _ _),aq,show(95:Int)=((95:Nat):Int)from rfl,neq,bh];cases eY c<;>cases jr c<;>cases bq c<;>rfl)
def UG:am 340 [.int .u8 (c:Nat)] H=ret (.bool (dA c)) H:=ev (afY _ _ _) (by simp only[show(32:Int)=((32:Nat):Int)from rfl,show(9:Int)=((9:Nat):Int)from rfl,show(10:Int)=((10:Nat):Int)from rfl,show(13:Int)=((13:Nat):Int)from rfl,neq,dA];cases c==32<;>cases c==9<;>cases c==10<;>cases c==13<;>rfl)
def UF:am 231 [.int .u8 (c:Nat)] H=ret (.bool (dA c)) H:=ev (agU _ _ _) (by simp only[show(32:Int)=((32:Nat):Int)from rfl,show(9:Int)=((9:Nat):Int)from rfl,show(10:Int)=((10:Nat):Int)from rfl,show(13:Int)=((13:Nat):Int)from rfl,neq,dA];cases c==32<;>cases c==9<;>cases c==10<;>cases c==13<;>rfl)
end bytes
end Go.Proofs.YtpghiabjaglpgaaGreatDoor
namespace Go.Proofs.YtpghiabjaglpgaaGreatDoor
open Go.AI
def wN{a b:Nat}(h:a+b<2^62):bD ((a:Int)+(b:Int))=((a+b:Nat):Int):=by rw[jf]<;>omega
variable{H:DH}{p at' st:Nat}{l:af}{x y:D}
abbrev nX(l:af)(at':Nat)(x y:D):List D:=[.str l,.i at',x,y]
def so(hp:H[p]? = some (.cells st (nX l at' x y)))(k:Nat)(h:at'+k<2^62):am 343 [.ptr p 0,.i k] H=ret (.int .u8 (pk l (at'+k):Nat)) H:=by
 refine ev (afV _ _ _ _) ?_;simp only[ae hp,ao,ax,bH,wN h,OF,cX,nge,adA,aq,aO];cases hc:decide (l.length<=at'+k)with
 |true=>rw[oz (by simpa using hc)];rfl
 |false =>
  have hc:¬ l.length<=at'+k:=by simpa using hc
  rw[TD,dt (by omega)]
def Hp{g:Nat}{q:Nat->Bool}(hb:aW bY g=true)(a:∀ c H,am g [.int .u8 (c:Nat)] H=ret (.bool (q c)) H)(hp:H[p]? = some (.cells st (nX l at' x y)))(hl:l.length<2^60)(k:Nat)(hk:at'+k<2^60):∀(d n:Nat),d=l.length - (at'+k+n)->n<2^60 ->
 ac av 339 200002 [.g (.ptr p 0),.n k,.g (.func g [] []),.n n] [] H=ret (.i (n+rn q l (at'+k+n):Nat)) H
 |d,n,hd,hn=>by
  refine aZ (Ir _ _ _ _ _ _) ?_;simp only[ae hp,ao,ax,bH,wN (show at'+k<2^62 by omega),wN (show at'+k+n<2^62 by omega),OF,aS,er,adA,aq,aO,eG hb,air,aic];cases hc:decide (at'+k+n<l.length)with
  |false =>
   have hc:¬ at'+k+n<l.length:=by simpa using hc
   rw[TD,zo q (by omega)];rfl
  |true =>
   have hc:at'+k+n<l.length:=by simpa using hc
   rw[ge,dt hc,fj (a _ _),kJ q hc];cases hq:q (pk l (at'+k+n))with
   |false=>simp[aq]
   |true =>
    have ih:=Hp hb a hp hl k hk (d - 1) (n+1) (by omega) (by omega);rw[aq,ge,aA (show n<2^62 by omega),ih,aeM rfl];have e:n+1+rn q l (at'+k+(n+1))=n+(rn q l (at'+k+n+1)+1):=by rw[show at'+k+(n+1)=at'+k+n+1 by omega];omega
    rw[e]
 termination_by d=>d
def zh{g:Nat}{q:Nat->Bool}(hb:aW bY g=true)(a:∀ c H,am g [.int .u8 (c:Nat)] H=ret (.bool (q c)) H)(hp:H[p]? = some (.cells st (nX l at' x y)))(hl:l.length<2^60)(k:Nat)(hk:at'+k<2^60) :
 am 339 [.ptr p 0,.i k,.func g [] []] H=ret (.i (rn q l (at'+k):Nat)) H:=by
 refine ev (afZ _ _ _ _ _) ?_;have:=Hp hb a hp hl k hk _ 0 rfl (by omega);simp only[aiv,aiU]at this;exact this
def Zh(s t:af)(H:DH):am 354 [.str s,.str t] H=ret (.bool (s.take t.length==t)) H:=by
 have h:am 359 [.str s,.str t] H=ret (.bool (s.take t.length==t)) H:=by
  refine ev (afM _ _ _ _) ?_;rw[nge];cases hc:decide (t.length<=s.length)with
  |true =>
   have hc:t.length<=s.length:=by simpa using hc
   simp only[ge,abY s _ H _ hc,cF]
  |false =>
   have hc:¬ t.length<=s.length:=by simpa using hc
   have:(s.take t.length==t)=false:=by rw[aeA];intro e;rw[ajn (by omega)]at e;subst e;exact hc (abD _)
   rw[this];rfl
 refine ev (afN _ _ _ _) ?_;rw[ai h]
def lG(hp:H[p]? = some (.cells st (nX l at' x y)))(a:at'<=l.length)(t:af):am 341 [.ptr p 0,.str t] H=ret (.bool ((l.drop at').take t.length==t)) H:=by refine ev (afX _ _ _ _) ?_;simp only[ae hp,ao,ax,aeQ _ _ _ _ a,fj (Zh _ _ _)]
def xA:List af:=[[97,110,100],[99,97,115,101],[100,97,116,97],[101,108,115,101],[101,110,100],[102,110],[102,117,110],[105,102],[105,110],[105,110,112,117,116],[108,101,116],[111,102],[111,117,116,112,117,116],[116,104,101,110],[118,97,108]]
def Hi:af:=[40,41,44,59,58,124,61,60,43,45,42,47,37,95]
def dg(l:af)(p:Nat):Nat:=if pk l (p+rn bh l p)=39/\0<rn bq l (p+rn bh l p+1)then rn bh l p+(1+rn bq l (p+rn bh l p+1))else rn bh l p
def rE(l:af)(p:Nat):Nat:=if(l.drop p).take 2=[61,62]\/(l.drop p).take 2=[45,62] then 2 else if pk l p∈Hi then 1 else 0
def fw(l:af)(p:Nat):Prop:=bq (pk l p)=true\/pk l p=126
def gg(l:af)(p:Nat):Option (Int×Nat) :=
 if eY (pk l p)=true then(if dg l p>24 then none else some (if(l.drop p).take (dg l p)∈xA then 5 else 2,dg l p))
 else if jr (pk l p)=true then(if dg l p>24 then none else some (3,dg l p))
 else if pk l p=39/\eY (pk l (p+1))=true then(if 1+rn bh l (p+1)>24 then none else some (4,1+rn bh l (p+1)))
 else if rE l p=0 then none else some (6,rE l p)
def tk(k n:Int)(t:af)(a:Nat):D:=.agg [.i k,.i n,.str t,.i a]
def wr(a e:Int):D:=.iface 321 (.agg [.i a,.i e])
def LA:List (D×D):=xA.map fun w=>(.str w,.i 5)
def ov4(a b c d e f g h:D)(κ:List D->au):aE [a,b,c,d] 0 [e,f,g,h] κ=κ [e,f,g,h]:=rfl
def Oq(a b c d e:D)(κ:List D->au):aE [a,b,c,d] 1 [e] κ=κ [a,e,c,d]:=rfl
def afq(a b c d e:D)(κ:List D->au):aE [a,b,c,d] 0 [e] κ=κ [e,b,c,d]:=rfl
def acw(a b c d e:D)(κ:List D->au):aE [a,b,c,d] 2 [e] κ=κ [a,b,e,d]:=rfl
def Zk(a b c d e:D)(κ:List D->au):aE [a,b,c,d] 3 [e] κ=κ [a,b,c,e]:=rfl
def Rq(a b e:D)(κ:List D->au):aE [a,b] 0 [e] κ=κ [e,b]:=rfl
def Rp(a b e:D)(κ:List D->au):aE [a,b] 1 [e] κ=κ [a,e]:=rfl
def Vg(a b e f:D)(κ:List D->au):aE [a,b] 0 [e,f] κ=κ [e,f]:=rfl
def ce4(a b c d:D)(κ:List D->au):aj 4 (.agg [a,b,c,d]) κ=κ [a,b,c,d]:=rfl
def ce2(a b:D)(κ:List D->au):aj 2 (.agg [a,b]) κ=κ [a,b]:=rfl
def qc(k:IntKind)(n:Int)(κ:List D->au):aj 1 (.int k n) κ=κ [.int k n]:=rfl
def Gu(l:af)(κ:List D->au):aj 1 (.str l) κ=κ [.str l]:=rfl
def xO(a b c:Nat)(κ:List D->au):aj 1 (.buf a b c) κ=κ [.buf a b c]:=rfl
variable{H:DH}{p at' st m:Nat}{l:af}{x y:D}
def RB(a b:Nat):decide ((a:Int)>(b:Int))=decide (b<a):=ajI.2 (by omega)
def sE(hp:H[p]? = some (.cells st (nX l at' x y)))(k:Int)(n:Nat)(a:at'+n<=l.length)(hl:l.length<2^60):am 349 [.ptr p 0,.i k,.i n] H=if n>24 then pan (wr at' 2) H else ret (tk k 0 ((l.drop at').take n) at') H:=by
 refine ev (afP _ _ _ _ _) ?_;rw[show(24:Int)=((24:Nat):Int)from rfl,RB];cases hc:decide (24<n)with
 |true =>
  have hc:24<n:=by simpa using hc
  rw[aeM hc];simp only[ge,ae hp,ao,ax,qc,Rq,Rp,wr]
 |false =>
  have hc:¬ 24<n:=by simpa using hc
  rw[aeD hc];simp only[TD,ae hp,ao,ax,bH,wN (show at'+n<2^62 by omega),Uj l at' (at'+n) H _ (by omega) a,qc,Gu,acw,Zk,ce4,ov4,tk,show at'+n - at'=n by omega]
def MM(t:af):∀ ws:List af,HM (.str t) (ws.map fun w=>((.str w:D),(.i 5:D)))=some (if t∈ws then some (.i 5)else none)
 |[]=>rfl
 |w::r=>by
  simp only[aeL,HM,Aj,MM t r];by_cases h:t=w
  ·subst h;simp
  ·rw[show(t==w)=false from aeA.2 h];simp[h]
def VC(hm:H[m]? = some (.map LA))(t:af)(κ:D->au):nN ab 378 (.map m) (.str t) true H κ=κ (.tuple [.i (if t∈xA then 5 else 0),.bool (decide (t∈xA))]):=by
 have e:nN ab 378 (.map m) (.str t) true H κ=qX H m fun es=>vw (.str t) es fun r=>lw ab 3 true r κ:=by kernel_rfl
 have a:lw ab 3 true none κ=κ (.tuple [.i 0,.bool false]):=by kernel_rfl
 rw[e,lO hm,vw,LA,MM];by_cases h:t∈xA
 ·simp only[h,akC,decide_true];rfl
 ·simp only[h,akG,aip];exact a
def NP:aW bY 350=true:=by kernel_rfl
def NQ:aW bY 344=true:=by kernel_rfl
def WW:aW bY 340=true:=by kernel_rfl
def sw(l:af)(p:Nat)(h:p<=l.length):p+dg l p<=l.length:=by
 have a:=sd bh l p h;unfold dg;split
 ·rename_i hc;have h3:p+rn bh l p<l.length:=by
   rcases aiA (p+rn bh l p) l.length with h|h
   ·exact h
   ·rw[oz h]at hc;cases hc.1
  have:=sd bq l (p+rn bh l p+1) (by omega);omega
 ·exact a
def Zy(hp:H[p]? = some (.cells st (nX l at' (.map m) y)))(hm:H[m]? = some (.map LA))(k:Int)(n:Nat)(b:at'+n<=l.length)(hl:l.length<2^60) :
 ac av 347 6 [.g (.ptr p 0),.n k,.lp 0 0,.n n] [(0,[.i 0,.i 0,.str [],.i 0])] H=if n>24 then pan (wr at' 2) H else ret (tk (if(l.drop at').take n∈xA then 5 else k) 0 ((l.drop at').take n) at') H:=by
 refine aZ (aaE _ _ _ _ _ _ _ _ _) ?_;have h:=sE hp k n b hl;by_cases hc:n>24
 ·rw[aeM hc]at h ⊢;rw[Ca h]
 ·rw[aeD hc]at h ⊢;simp only[ai h,tk,ce4,ov4,ae hp,ao,ax,VC hm,gb,aq];by_cases a:(l.drop at').take n∈xA
  ·simp only[a,decide_true,ge,akC,qc,afq,ao,ax]
  ·simp only[a,aip,TD,akG,ao,ax]
def Vp(hp:H[p]? = some (.cells st (nX l at' (.map m) y)))(hm:H[m]? = some (.map LA))(k:Int)(hl:l.length<2^59)(f:at'<=l.length) :
 am 347 [.ptr p 0,.i k] H=if dg l at'>24 then pan (wr at' 2) H else ret (tk (if(l.drop at').take (dg l at')∈xA then 5 else k) 0 ((l.drop at').take (dg l at')) at') H:=by
 refine ev (afR _ _ _ _) ?_;have g:=zh NP (fun c H=>JX H c) hp (by omega) 0 (by omega);have hr:=sd bh l at' f;have a:=sw l at' f;rw[aiU]at g;have q:=so hp (rn bh l at') (by omega);have j:=fun n r=>Zy hp hm k n r (by omega);rw[show(.i 0:D)=.i ((0:Nat):Int)from rfl,ai g,ai q];simp only[aT,show(39:Int)=((39:Nat):Int)from rfl,neq,aq];by_cases b:pk l (at'+rn bh l at')=39
 ·have hlt:at'+rn bh l at'<l.length:=by
   rcases aiA (at'+rn bh l at') l.length with h|h
   ·exact h
   ·rw[oz h]at b;cases b
  have o:=zh NQ (fun c H=>yB H c) hp (by omega) (rn bh l at'+1) (by omega);have hd:=sd bq l (at'+rn bh l at'+1) (by omega);rw[<- ajE]at o;rw[b];simp only[akY,ge,bH,show(1:Int)=((1:Nat):Int)from rfl,wN (show rn bh l at'+1<2^62 by omega),ai o,ef,RB,aq];by_cases d:0<rn bq l (at'+rn bh l at'+1)
  ·simp only[show((0:Int))=((0:Nat):Int)from rfl,RB,d,decide_true,ge,wN (show 1+rn bq l (at'+rn bh l at'+1)<2^62 by omega),wN (show rn bh l at'+(1+rn bq l (at'+rn bh l at'+1))<2^62 by omega)];have e:dg l at'=rn bh l at'+(1+rn bq l (at'+rn bh l at'+1)):=by unfold dg;rw[aeM ⟨b,d⟩]
   rw[<- e];exact j _ a
  ·simp only[show((0:Int))=((0:Nat):Int)from rfl,RB,d,aip,TD];have e:dg l at'=rn bh l at':=by unfold dg;rw[aeD (fun h=>d h.2)]
   rw[<- e];exact j _ a
 ·rw[show(pk l (at'+rn bh l at')==39)=false from aeA.2 b,TD];have e:dg l at'=rn bh l at':=by unfold dg;rw[aeD (fun h=>b h.1)]
  rw[<- e];exact j _ a
def MA{f:FuncId}{args:List D}{d:D}{H':DH}(h:de.orc f args H=some (d,H')):am f args H=ret d H':=by show eP de (.call f args none) H=_;rw[Lb];show Rs de f args H none _=_;unfold Rs;simp only[h]
def abt(l:af)(at':Nat)(H:DH)(r:au):Prop:=(∃(v:Int) (n:Nat),1<=n/\at'+n<=l.length/\r=ret (tk 1 v ((l.drop at').take n) at') H)\/r=pan (wr at' 13) H
def HF(hp:H[p]? = some (.cells st (nX l at' x y)))(hl:l.length<=24)(ha:at'<l.length)(n:Nat)(b:at'+n<=l.length)(d:1<=n+rn bq l (at'+n)) :
 abt l at' H (ac av 345 4 [.g (.ptr p 0),.lp 0 0,.n n] [(0,[.i 0,.i 0,.str [],.i 0])] H):=by
 have f:=zh NQ (fun c H=>yB H c) hp (by omega) n (by omega);have h:=sd bq l (at'+n) b;have j:=so hp (n+rn bq l (at'+n)) (by omega);have a:((l.drop at').take (n+rn bq l (at'+n))).length<=1000:=by rw[aiu];rw[aiS];omega
 have o:∀ H,am 355 [.str ((l.drop at').take (n+rn bq l (at'+n)))] H=ret (.tuple [.i (qT (aK ((l.drop at').take (n+rn bq l (at'+n))))).1,.i (qT (aK ((l.drop at').take (n+rn bq l (at'+n))))).2]) H:=fun H=>MA (by show(bif Nat.ble _ 1000 then _ else _)=_;rw[aeI a];rfl)
 have e:=SU (PY de av 0) p (n:Nat) 0 0 [] 0 H;unfold abt;rw[show ac av 345 4 [.g (.ptr p 0),.lp 0 0,.n n] [(0,[.i 0,.i 0,.str [],.i 0])] H=_ from aZ (SU _ _ _ _ _ _ _ _) rfl]
 simp only[ai f,bH,wN (show n+rn bq l (at'+n)<2^62 by omega),ai j,ae hp,ao,ax,wN (show at'+n<2^62 by omega),wN (show at'+n+rn bq l (at'+n)<2^62 by omega),Uj l at' (at'+n+rn bq l (at'+n)) H _ (by omega) h,
  show at'+n+rn bq l (at'+n) - at'=n+rn bq l (at'+n)by omega,ai (o _),gb,dX,aq,qc,Gu,Rq,Rp,Oq,acw,Zk,ce4,ov4,ai (JX _ _),aT]
 cases ((qT (aK ((l.drop at').take (n+rn bq l (at'+n))))).2 != 0)with
 |true=>exact .inr rfl
 |false =>
  rw[TD];cases bh (pk l (at'+(n+rn bq l (at'+n))))with
  |true=>exact .inr rfl
  |false =>
   rw[TD];cases ((pk l (at'+(n+rn bq l (at'+n))):Int)==39)with
   |true=>exact .inr rfl
   |false=>exact .inl ⟨_,_,d,by omega,rfl⟩
def Ov(hp:H[p]? = some (.cells st (nX l at' x y)))(hl:l.length<=24)(a:at'<l.length)(b:fw l at'):abt l at' H (am 345 [.ptr p 0] H):=by
 have d:=so hp 0 (by omega);rw[show am 345 [.ptr p 0] H=_ from ev (afT _ _ _) rfl];rw[show(.i 0:D)=.i ((0:Nat):Int)from rfl,ai d,aiU];simp only[aT,show(126:Int)=((126:Nat):Int)from rfl,neq,aq];by_cases h:pk l at'=126
 ·rw[h,akY,ge];exact HF hp hl a 1 (by omega) (by omega)
 ·rw[show(pk l at'==126)=false from aeA.2 h,TD];have e:bq (pk l at')=true:=b.resolve_right h;refine HF hp hl a 0 (by omega) ?_;rw[aiU,kJ bq a,aeM e];omega
variable{H:DH}{p at' st m:Nat}{l:af}{x y:D}
def MZ(c:Nat):∀(l:af) (n:Int),0<=n->decide (xJ l c n>=0)=decide (c∈l)
 |[],n,_=>by simp[xJ]
 |z::r,n,h=>by
  rw[xJ];by_cases e:z=c
  ·subst e;rw[aiw,ge];simp;omega
  ·have hb:Nat.beq z c=false:=by
    cases a:Nat.beq z c with
    |true=>exact(e (abr a)).elim
    |false=>rfl
   rw[hb,TD,MZ c r (n+1) (by omega)];simp[akX e]
def Su(c:Nat)(hc:c<256)(H:DH):am 351 [.str Hi,.int .u8 (c:Nat)] H=ret (.i (xJ Hi c 0)) H:=MA (by
 show(bif Nat.blt c 256&&_ then _ else _)=_;have:Nat.blt c 256=true:=by unfold Nat.blt;exact aeI hc
 rw[this];rfl)
def Xx(l:af)(at':Nat)(H:DH)(r:au):Prop :=
 (∃(k v:Int) (n:Nat),1<=n/\at'+n<=l.length/\r=ret (tk k v ((l.drop at').take n) at') H/\(fw l at'->k=1)/\(¬ fw l at'->gg l at'=some (k,n)))\/(∃ a e:Int,e≠0/\r=pan (wr a e) H/\(¬ fw l at'->gg l at'=none))
def Dq{l:af}{p:Nat}(hp:p<l.length)(h:bh (pk l p)=true):1<=dg l p:=by
 have:1<=rn bh l p:=by rw[kJ bh hp,aeM h];omega
 unfold dg;split<;>omega
def UH(hp:H[p]? = some (.cells st (nX l at' (.map m) y)))(hl:l.length<=24)(n:at'<l.length) :
 ac av 326 11 [.g (.ptr p 0),.lp 0 0,.g (.int .u8 (pk l at':Nat))] [(0,[.i 0,.i 0,.str [],.i 0])] H=if rE l at'=0 then pan (wr at' 11) H else ret (tk 6 0 ((l.drop at').take (rE l at')) at') H:=by
 refine aZ (Wg _ _ _ _ _ _ _ _) ?_;have s1:=lG hp (Nat.le_of_lt n) [61,62];have s2:=lG hp (Nat.le_of_lt n) [45,62];rw[ai s1];have two:∀ {a b:Nat},(l.drop at').take 2=[a,b]->at'+2<=l.length:=fun h=>by have:=aiK List.length h;rw[aiu,aiS]at this;simp at this;omega
 by_cases f:(l.drop at').take 2=[61,62]
 ·have e:rE l at'=2:=by unfold rE;rw[aeM (.inl f)]
  have d:=sE hp 6 2 (two f) (by omega);rw[aeD (by omega)]at d;rw[e,aeD (by omega),show(List.take [61,62].length (l.drop at')==[61,62])=true by simp[f],aq,ge];rw[show(.i 2:D)=.i ((2:Nat):Int)from rfl,ai d];rfl
 ·rw[show(List.take [61,62].length (l.drop at')==[61,62])=false by simp[f],aq,TD,ai s2];by_cases j:(l.drop at').take 2=[45,62]
  ·have e:rE l at'=2:=by unfold rE;rw[aeM (.inr j)]
   have d:=sE hp 6 2 (two j) (by omega);rw[aeD (by omega)]at d;rw[e,aeD (by omega),show(List.take [45,62].length (l.drop at')==[45,62])=true by simp[j],aq,ge];rw[show(.i 2:D)=.i ((2:Nat):Int)from rfl,ai d];rfl
  ·rw[show(List.take [45,62].length (l.drop at')==[45,62])=false by simp[j],aq,TD];have o:=Su (pk l at') (acp _ _) H;rw[show([40,41,44,59,58,124,61,60,43,45,42,47,37,95]:af)=Hi from rfl,ai o];simp only[cX,MZ _ _ 0 (akL 0),aq];have e:rE l at'=if pk l at'∈Hi then 1 else 0:=by unfold rE;rw[aeD (by simp[f,j])]
   by_cases k:pk l at'∈Hi
   ·rw[aeM k]at e;have d:=sE hp 6 1 (by omega) (by omega);rw[aeD (by omega)]at d;rw[e,aeD (by omega),abC k,ge,show(.i 1:D)=.i ((1:Nat):Int)from rfl,ai d];rfl
   ·rw[aeD k]at e;rw[e,aeM rfl,abz k,TD];simp only[ae hp,ao,ax,qc,Rq,Rp,wr]
def Qk(hp:H[p]? = some (.cells st (nX l at' (.map m) y)))(hm:H[m]? = some (.map LA))(hl:l.length<=24)(q:at'<l.length):Xx l at' H (am 326 [.ptr p 0] H):=by
 have J:=so hp 0 (by omega);rw[show am 326 [.ptr p 0] H=_ from ev (agh _ _ _) rfl];rw[show(.i 0:D)=.i ((0:Nat):Int)from rfl,ai J,aiU,ai (yB _ _)];simp only[aT,show(126:Int)=((126:Nat):Int)from rfl,show(39:Int)=((39:Nat):Int)from rfl,neq,aq,ai (EL _ _),ai (Nf _ _)];have num:fw l at'->Xx l at' H (C av 345 [.ptr p 0] H fun L M=>aj 4 L fun l7=>aE [.i ((0:Nat):Int),.i ((0:Nat):Int),.str [],.i ((0:Nat):Int)] 0 l7 fun l8=>ah l8 0 fun N=>ah l8 1 fun d10=>ah l8 2 fun d11=>ah l8 3 fun d12=>ret (.agg [N,d10,d11,d12]) M):=fun f=>by
  rcases Ov hp hl q f with⟨v,n,w,b,z⟩|z
  ·rw[ai z];exact .inl ⟨1,v,n,w,b,rfl,fun _=>rfl,fun h=>(h f).elim⟩
  ·rw[Ca z];exact .inr ⟨at',13,by decide,rfl,fun h=>(h f).elim⟩
 cases G:bq (pk l at')with
 |true=>rw[ge];exact num (.inl G)
 |false =>
 rw[TD];by_cases a:pk l at'=126
 ·rw[a,akY,ge];exact num (.inr a)
 rw[show(pk l at'==126)=false from aeA.2 a,TD];have j:¬ fw l at':=fun h=>by rcases h with h|h;exact(by rw[G]at h;cases h);exact a h
 have nm:∀ k:Int,(gg l at'=if dg l at'>24 then none else some (if(l.drop at').take (dg l at')∈xA then 5 else k,dg l at'))->bh (pk l at')=true ->
  Xx l at' H (C av 347 [.ptr p 0,.i k] H fun d24 H25=>aj 4 d24 fun l26=>aE [.i ((0:Nat):Int),.i ((0:Nat):Int),.str [],.i ((0:Nat):Int)] 0 l26 fun l27=>ah l27 0 fun d28=>ah l27 1 fun d29=>ah l27 2 fun d30=>ah l27 3 fun d31=>ret (.agg [d28,d29,d30,d31]) H25):=fun k d E=>by
  have f:=Vp hp hm k (by omega) (Nat.le_of_lt q);have w:=Dq q E;have b:=sw l at' (Nat.le_of_lt q);by_cases hc:dg l at'>24
  ·rw[aeM hc]at f d;rw[Ca f];exact .inr ⟨at',2,by decide,rfl,fun _=>d⟩
  ·rw[aeD hc]at f d;rw[ai f];exact .inl ⟨_,0,_,w,b,rfl,fun h=>(j h).elim,fun _=>d⟩
 cases o:eY (pk l at')with
 |true =>rw[ge];exact nm 2 (by unfold gg;rw[aeM o]) (by unfold bh;rw[o];rfl)
 |false =>
 rw[TD];cases r:jr (pk l at')with
 |true =>
  rw[ge];refine nm 3 ?_ (by unfold bh;rw[r];simp);unfold gg;rw[aeD (by rw[o];decide),aeM r];have s:(l.drop at').take (dg l at')∉xA:=fun s=>by
   have I:((l.drop at').take (dg l at'))[0]? = l[at']?:=by have w:=Dq q (by unfold bh;rw[r];simp);rw[aiV (by omega),ajK,aiU]
   generalize(l.drop at').take (dg l at')=t at s I;have F:pk l at'=(t[0]?).getD 0%256:=by unfold pk;rw[I]
   rw[F]at o;simp only[xA,aff,akR,or_false]at s;rcases s with rfl|rfl|rfl|rfl|rfl|rfl|rfl|rfl|rfl|rfl|rfl|rfl|rfl|rfl|rfl<;>exact absurd o (by decide)
  rw[aeD s]
 |false =>
 rw[TD];have sg:(pk l at'=39/\eY (pk l (at'+1))=true->False)->Xx l at' H (ac av 326 11 [.g (.ptr p 0),.lp 0 0,.g (.int .u8 (pk l at':Nat))] [(0,[.i ((0:Nat):Int),.i ((0:Nat):Int),.str [],.i ((0:Nat):Int)])] H):=fun O=>by
  have h:=UH hp hl q;have d:gg l at'=if rE l at'=0 then none else some (6,rE l at'):=by unfold gg;rw[aeD (by rw[o];decide),aeD (by rw[r];decide),aeD O]
  by_cases hc:rE l at'=0
  ·rw[aeM hc]at h d;exact .inr ⟨at',11,by decide,h,fun _=>d⟩
  ·rw[aeD hc]at h d;refine .inl ⟨6,0,rE l at',by omega,?_,h,fun h=>(j h).elim,fun _=>d⟩;unfold rE at hc ⊢;split
   ·rename_i b;have:=(show(List.take 2 (List.drop at' l)).length=2 by rcases b with b|b<;>rw[b]<;>rfl);rw[aiu,aiS]at this;omega
   ·split<;>omega
 by_cases e:pk l at'=39
 ·rw[e,akY,ge];have Q:=so hp 1 (by omega);rw[show(1:Int)=((1:Nat):Int)from rfl,ai Q,ai (EL _ _),aq];cases b:eY (pk l (at'+1))with
  |true =>
   rw[ge];have hlt:at'+1<l.length:=by
    rcases aiA (at'+1) l.length with h|h
    ·exact h
    ·rw[oz h]at b;cases b
   have R:=zh NP (fun c H=>JX H c) hp (by omega) 1 (by omega);have hr:=sd bh l (at'+1) (by omega);have u:=sE hp 4 (1+rn bh l (at'+1)) (by omega) (by omega);rw[ai R];simp only[bH,wN (show 1+rn bh l (at'+1)<2^62 by omega)];have d:gg l at'=if 1+rn bh l (at'+1)>24 then none else some (4,1+rn bh l (at'+1)):=by unfold gg;rw[aeD (by rw[o];decide),aeD (by rw[r];decide),aeM ⟨e,b⟩]
   rw[aeD (by omega)]at u d;rw[ai u];exact .inl ⟨4,0,_,by omega,by omega,rfl,fun h=>(j h).elim,fun _=>d⟩
  |false =>rw[TD];have:=sg (fun h=>by rw[b]at h;cases h.2);rw[e]at this;exact this
 ·rw[show(pk l at'==39)=false from aeA.2 e,TD];exact sg (fun h=>e h.1)
def fQ{P:Program}{t:TypeId}{m b:Nat}(h:aM P t m=(Nat.ble (b*(m+Nat.div m 4+600)) 281474976710656&&Nat.ble m 4611686018427387904))(hb:b<=1000)(hm:m<=100000):aM P t m=true:=by rw[h,abA];refine⟨aeI ?_,aeI (by omega)⟩;have h1:Nat.div m 4<=m:=Nat.div_le_self m 4;have h2:b*(m+Nat.div m 4+600)<=1000*(100000+100000+600):=Nat.mul_le_mul hb (by omega);omega
def Mg{m:Nat}(h:m<=100000):aM ab 393 m=true:=fQ (b:=16) (by kernel_rfl) (by decide) h
def EY{m:Nat}(h:m<=100000):aM ab 209 m=true:=fQ (b:=40) (by kernel_rfl) (by decide) h
def JP{H:DH}{p:Nat}{b:DB}(h:H[p]? = some b):H.set p b=H:=by
 apply akb;intro j;by_cases e:p=j
 ·subst e;rw[bJ b h,h]
 ·rw[aiY e]
variable{p:Nat}{l:af}{x y:D}
def Qf{a b at':Nat}(h:((l.drop at').take 2==[a,b])=true):at'+2<=l.length:=by have h:=aiK List.length (akj h);rw[aiu,aiS]at h;simp at h;omega
def Ja(hl:l.length<=24):∀(n at' st:Nat) (H:DH) (v d:Int),n=l.length - at'->at'<=l.length->H[p]? = some (.cells st (nX l at' x y)) ->
 (∃ at2 st2,at'<at2/\at2<=l.length/\ac av 342 200002 [.g (.ptr p 0),.n v,.n d] [] H=ret (.tuple []) (H.set p (.cells st2 (nX l at2 x y)))) \/
 (∃(a e:Int) (at2 st2:Nat),e≠0/\ac av 342 200002 [.g (.ptr p 0),.n v,.n d] [] H=pan (wr a e) (H.set p (.cells st2 (nX l at2 x y))))
 |n,at',st,H,v,d,hn,j,hp=>by
  have s1:=lG hp j [40,42];have s2:=lG hp j [42,41]
  have step:∀ k (f:Int),1<=k->k<=2->at'+k<=l.length ->
   (∃ at2 st2,at'<at2/\at2<=l.length/\ac av 342 200002 [.g (.ptr p 0),.n v,.n f] [] (H.set p (.cells (st+1) (nX l (at'+k) x y)))=ret (.tuple []) (H.set p (.cells st2 (nX l at2 x y)))) \/
   (∃(a e:Int) (at2 st2:Nat),e≠0/\ac av 342 200002 [.g (.ptr p 0),.n v,.n f] [] (H.set p (.cells (st+1) (nX l (at'+k) x y)))=pan (wr a e) (H.set p (.cells st2 (nX l at2 x y)))):=fun k f h b q=>by
   rcases Ja hl (l.length - (at'+k)) (at'+k) (st+1) (H.set p (.cells (st+1) (nX l (at'+k) x y))) v f rfl q (bJ _ hp)with⟨at2,st2,o,i,r⟩|⟨a,e,at2,st2,o,i⟩
   ·exact .inl ⟨at2,st2,by omega,i,by rw[r,aiQ]⟩
   ·exact .inr ⟨a,e,at2,st2,o,by rw[i,aiQ]⟩
  rw[show ac av 342 200002 [.g (.ptr p 0),.n v,.n d] [] H=_ from aZ (Iq _ _ _ _ _) rfl];simp only[ae hp,ao,ax,OF,cX,nge,aq];cases hc:decide (l.length<=at')with
  |true=>exact .inr ⟨v,12,at',st,by decide,by rw[ge,JP hp];rfl⟩
  |false =>
   have hc:¬ l.length<=at':=by simpa using hc
   rw[TD,ai s1,aq];cases h:((l.drop at').take [40,42].length==[40,42])with
   |true =>
    have b:=Qf h;rw[ge];cases decide (d>=100)with
    |true =>simp only[ge,ae hp,ao,ax,qc,Rq,Rp];exact .inr ⟨at',6,at',st,by decide,by rw[JP hp];rfl⟩
    |false =>simp only[TD,ae hp,ao,ax,bH,show(2:Int)=((2:Nat):Int)from rfl,wN (show at'+2<2^62 by omega),qc,Oq];exact step 2 _ (by omega) (by omega) b
   |false =>
    rw[TD,ai s2,aq];cases h:((l.drop at').take [42,41].length==[42,41])with
    |true =>
     have b:=Qf h;simp only[ge,ae hp,ao,ax,bH,show(2:Int)=((2:Nat):Int)from rfl,wN (show at'+2<2^62 by omega),qc,Oq];cases (bD (d - 1)==0)with
     |true=>exact .inl ⟨at'+2,st+1,by omega,b,rfl⟩
     |false=>rw[TD];exact step 2 _ (by omega) (by omega) b
    |false =>simp only[TD,ae hp,ao,ax,bH,show(1:Int)=((1:Nat):Int)from rfl,wN (show at'+1<2^62 by omega),qc,Oq];exact step 1 _ (by omega) (by omega) (by omega)
 termination_by n=>n
def aaX(hl:l.length<=24){at' st:Nat}{H:DH}(b:at'<=l.length)(hp:H[p]? = some (.cells st (nX l at' x y))) :
 (∃ at2 st2,at'<at2/\at2<=l.length/\am 342 [.ptr p 0] H=ret (.tuple []) (H.set p (.cells st2 (nX l at2 x y)))) \/
 (∃(a e:Int) (at2 st2:Nat),e≠0/\am 342 [.ptr p 0] H=pan (wr a e) (H.set p (.cells st2 (nX l at2 x y)))):=by
 rw[show am 342 [.ptr p 0] H=_ from ev (afW _ _ _) rfl];simp only[ae hp,ao,ax];exact Ja hl _ at' st H at' 0 rfl b hp
structure JA(H:DH)(p:Nat)(l:af)(at' m oc:Nat)(c:aR):Prop where
 hp:∃ st,H[p]? = some (.cells st (nX l at' (.map m) (.buf 2 oc c.length)))
 hm:H[m]? = some (.map LA)
 hc:H[oc]? = some (.buf 2 true false c)
def Fr(p oc:Nat)(H a:DH):Prop:=∀(o:Nat) b,o≠p->o≠oc->H[o]? = some b->a[o]? = some b
def Fr.trans{oc:Nat}{A B C:DH}(h:Fr p oc A B)(k:Fr p oc B C):Fr p oc A C:=fun o b a d e=>k o b a d (h o b a d e)
def Fr.set{oc:Nat}{H:DH}{b:DB}:Fr p oc H (H.set p b):=fun o c a _ d=>by rw[aiY (akX a)];exact d
def Fr.set2{oc:Nat}{H:DH}{b:DB}:Fr p oc H (H.set oc b):=fun o c _ a d=>by rw[aiY (akX a)];exact d
def skip(l:af)(at':Nat):Prop:=dA (pk l at')=true\/(l.drop at').take 2=[40,42]
def JA.mv{H:DH}{at' m oc:Nat}{c:aR}(h:JA H p l at' m oc c)(at2 st2:Nat):JA (H.set p (.cells st2 (nX l at2 (.map m) (.buf 2 oc c.length)))) p l at2 m oc c:=by
 obtain⟨st,hp⟩:=h.hp;have a:p≠m:=fun e=>by subst e;rw[h.hm]at hp;cases hp
 have b:p≠oc:=fun e=>by subst e;rw[h.hc]at hp;cases hp
 exact⟨⟨st2,bJ _ hp⟩,ak _ a h.hm,ak _ b h.hc⟩
def Dj(hl:l.length<=24){m oc:Nat}:∀(n at':Nat) (H:DH) (c:aR),n=l.length - at'->at'<=l.length->c.length+(l.length - at')<=100->JA H p l at' m oc c ->
 (∃ at2 c2 j,ac av 325 200000 [.g (.ptr p 0)] [] H=ret (.tuple []) j/\JA j p l at2 m oc c2/\at'<=at2/\at2<=l.length/\c2.length+(l.length - at2)<=100/\Fr p oc H j/\(¬ skip l at'->at2=at')/\(at'<l.length->skip l at'->at'<at2)) \/
 (∃(a e:Int) (j:DH),e≠0/\ac av 325 200000 [.g (.ptr p 0)] [] H=pan (wr a e) j/\Fr p oc H j/\skip l at')
 |n,at',H,c,hn,ha,hcl,W=>by
  obtain⟨st,hp⟩:=W.hp;have X:=zh WW (fun c H=>UG H c) hp (by omega) 0 (by omega);rw[aiU]at X;have hr:=sd dA l at' ha;rw[show ac av 325 200000 [.g (.ptr p 0)] [] H=_ from aZ (Is _ _ _) rfl];rw[show(.i 0:D)=.i ((0:Nat):Int)from rfl,fj X];simp only[Ke hp,ae hp,ao,ax,bH,wN (show at'+rn dA l at'<2^62 by omega),qc,Oq];have k:=W.mv (at'+rn dA l at') (st+1);have o:Fr p oc H (H.set p (.cells (st+1) (nX l (at'+rn dA l at') (.map m) (.buf 2 oc c.length)))):=.set;generalize H.set p (.cells (st+1) (nX l (at'+rn dA l at') (.map m) (.buf 2 oc c.length)))=J at k o ⊢;obtain⟨ib,s⟩:=k.hp;have s1:=lG s hr [40,42];rw[ai s1];simp only[aH,aq];have t:¬ dA (pk l at')=true->rn dA l at'=0:=fun h=>by
   rcases aiA at' l.length with q|q
   ·rw[kJ dA q,aeD h]
   ·exact zo dA q
  have r:at'<l.length->dA (pk l at')=true->1<=rn dA l at':=fun h q=>by rw[kJ dA h,aeM q];omega
  cases v:((l.drop (at'+rn dA l at')).take [40,42].length==[40,42])with
  |false =>
   rw[aih,ge];refine .inl ⟨_,c,J,rfl,k,by omega,hr,by omega,o,fun h=>?_,fun w h=>?_⟩
   ·rw[t (fun q=>h (.inl q)),aiU]
   ·rcases h with h|h
    ·have:=r w h;omega
    ·by_cases z:dA (pk l at')=true
     ·have:=r w z;omega
     ·rw[t z,aiU]at v;rw[show [40,42].length=2 from rfl,h]at v;cases v
  |true =>
   have u:skip l at':=by
    by_cases z:dA (pk l at')=true
    ·exact .inl z
    ·rw[t z,aiU]at v;exact .inr (akj v)
   rw[aid,TD];simp only[ae s,ao,ax];rcases aaX hl hr s with⟨at2,st2,Y,L,k3⟩|⟨a,e,at2,st2,Y,L⟩
   ·rw[ai k3];have d:=k.mv at2 st2;have E:Fr p oc H (J.set p (.cells st2 (nX l at2 (.map m) (.buf 2 oc c.length)))):=o.trans .set;generalize J.set p (.cells st2 (nX l at2 (.map m) (.buf 2 oc c.length)))=j at d E ⊢;obtain⟨st3,f⟩:=d.hp;have F:oc≠p:=fun e=>by subst e;rw[d.hc]at f;cases f
    have M:oc≠m:=fun e=>by have:=d.hm;rw[<- e,d.hc]at this;cases this
    simp only[ae f,ao,ax,qc,Rq,Rp,ce2];have N:∀(κ:D->DH->au) (e:List D),cv (aM ab 393) 2 (.buf 2 oc c.length) [e] j κ=κ (.buf 2 oc (c.length+1)) (j.set oc (.buf 2 true false (c++[e]))):=fun κ e=>by simp only[cv,aaQ,Mg (show 1<=100000 by omega),boK,ge,aiw,du d.hc,Mg (show c.length+1<=100000 by omega),aeH,aih,aiW,grow,TD]
    rw[N];have G:=ak (.buf 2 true false (c++[[.i ((at'+rn dA l at':Nat):Int),.i ((at2:Nat):Int)]])) F f;simp only[xO,ae G,Zk]
    have O:JA ((j.set oc (.buf 2 true false (c++[[.i ((at'+rn dA l at':Nat):Int),.i ((at2:Nat):Int)]]))).set p (.cells (st3+1) [.str l,.i ((at2:Nat):Int),.map m,.buf 2 oc (c.length+1)])) p l at2 m oc (c++[[.i ((at'+rn dA l at':Nat):Int),.i ((at2:Nat):Int)]]) :=
     ⟨⟨st3+1,by rw[bJ _ G];simp⟩,ak _ (fun e=>by subst e;rw[d.hm]at f;cases f) (ak _ M d.hm),ak _ F.symm (bJ _ d.hc)⟩
    have I:=(E.trans (Fr.set2 (p:=p) (oc:=oc) (b:=.buf 2 true false (c++[[.i ((at'+rn dA l at':Nat):Int),.i ((at2:Nat):Int)]])))).trans (Fr.set (p:=p) (oc:=oc) (b:=.cells (st3+1) [.str l,.i ((at2:Nat):Int),.map m,.buf 2 oc (c.length+1)]));rcases Dj hl (l.length - at2) at2 _ _ rfl L (by simp;omega) O with⟨at4,c4,Q,R,U,Z,j4,j5,j6,_⟩|⟨a,e,Q,R,U,Z,_⟩
    ·exact .inl ⟨at4,c4,Q,R,U,by omega,j4,j5,I.trans j6,fun h=>(h u).elim,fun _ _=>by omega⟩
    ·exact .inr ⟨a,e,Q,R,U,I.trans Z,u⟩
   ·rw[Ca L];exact .inr ⟨a,e,_,Y,rfl,o.trans .set,u⟩
 termination_by n=>n
def Mx(hl:l.length<=24){m oc at':Nat}{H:DH}{c:aR}(d:at'<=l.length)(hc:c.length+(l.length - at')<=100)(f:JA H p l at' m oc c) :
 (∃ at2 c2 b,am 325 [.ptr p 0] H=ret (.tuple []) b/\JA b p l at2 m oc c2/\at'<=at2/\at2<=l.length/\c2.length+(l.length - at2)<=100/\Fr p oc H b/\(¬ skip l at'->at2=at')/\(at'<l.length->skip l at'->at'<at2)) \/
 (∃(a e:Int) (b:DH),e≠0/\am 325 [.ptr p 0] H=pan (wr a e) b/\Fr p oc H b/\skip l at'):=by
 rw[show am 325 [.ptr p 0] H=_ from ev (agi _ _ _) rfl];exact Dj hl _ at' H c rfl d hc f
def YF:List D:=xA.map .str
def acS(cs:List D)(c:Nat)(κ:D->au):cR ab 9 cs c κ=ah cs c κ:=by kernel_rfl
def adz{k:Nat}{w:af}(h:xA[k]? = some w)(κ:D->au):jZ ab 382 (.agg YF) (.i (k:Nat)) κ=κ (.str w):=by
 have e:jZ ab 382 (.agg YF) (.i (k:Nat)) κ=bif Nat.blt k 15 then cR ab 9 YF (Nat.mul k 1) κ else none:=by kernel_rfl
 have hk:k<15:=(aez.1 h).1;have hb:Nat.blt k 15=true:=by unfold Nat.blt;exact aeI hk
 rw[e,hb,ge,acS,show Nat.mul k 1=k from Nat.mul_one k,ah,YF,aiO,h];rfl
def Vr(m:Nat)(w:af)(v:D)(H:DH)(κ:DH->au):lM ab 378 (.map m) (.str w) v H κ=qX H m fun es=>sC (.str w) v es fun es=>κ (H.set m (.map es)):=by kernel_rfl
def Vs:∀ k,k<15->∃ w,xA[k]? = some w/\Ku (.str w) (.i 5) (LA.take k)=some (LA.take (k+1))
 |0,_=>⟨_,rfl,rfl⟩
 |1,_=>⟨_,rfl,rfl⟩
 |2,_=>⟨_,rfl,rfl⟩
 |3,_=>⟨_,rfl,rfl⟩
 |4,_=>⟨_,rfl,rfl⟩
 |5,_=>⟨_,rfl,rfl⟩
 |6,_=>⟨_,rfl,rfl⟩
 |7,_=>⟨_,rfl,rfl⟩
 |8,_=>⟨_,rfl,rfl⟩
 |9,_=>⟨_,rfl,rfl⟩
 |10,_=>⟨_,rfl,rfl⟩
 |11,_=>⟨_,rfl,rfl⟩
 |12,_=>⟨_,rfl,rfl⟩
 |13,_=>⟨_,rfl,rfl⟩
 |14,_=>⟨_,rfl,rfl⟩
 |n+15,h=>by omega
def HJ{p m oc:Nat}{l:af}:∀(n k st:Nat) (H:DH),n=15 - k->k<=15->H[p]? = some (.cells st (nX l 0 (.map m) (.buf 2 oc 0)))->H[m]? = some (.map (LA.take k)) ->
 ac av 290 200003 [.g (.ptr p 0),.g (.agg YF),.n (k:Nat)] [] H=ret (.ptr p 0) (H.set m (.map LA))
 |n,k,st,H,hn,hk,hp,hm=>by
  refine aZ (by unfold YF xA;exact Iu _ _ _ _ _ _ _ _ _ _ _ _ _ _ _ _ _ _ _) ?_;rw[show(15:Int)=((15:Nat):Int)from rfl,er];by_cases hc:k<15
  ·rw[abC hc,ge];obtain⟨w,b,d⟩:=Vs k hc;have e:=adz b;unfold YF xA at e;simp only[aeL,ajX]at e;have a:m≠p:=fun e=>by subst e;rw[hm]at hp;cases hp
   have ih:=HJ (n - 1) (k+1) st (H.set m (.map (LA.take (k+1)))) (by omega) hc (ak _ a hp) (bJ _ hm);rw[aiQ]at ih;simp only[e,ae hp,ao,ax,Vr,lO hm,sC,d,show(1:Int)=((1:Nat):Int)from rfl,wN (show k+1<2^62 by omega)];exact ih
  ·rw[abz hc,TD];have:k=15:=by omega
   subst this;rw[show LA.take 15=LA from rfl]at hm;rw[JP hm]
 termination_by n=>n
def Zv(l:af)(H:DH):∃ H',am 290 [.str l] H=ret (.ptr (H.length+2) 0) H'/\JA H' (H.length+2) l 0 H.length (H.length+1) []/\∀(o:Nat) b,H[o]? = some b->H'[o]? = some b:=by
 have e:am 290 [.str l] H=_:=ev (agB _ _ _) rfl;have a:(H++[DB.map []]).length=H.length+1:=by simp
 have d:(H++[DB.map []]++[DB.buf 2 true false []]).length=H.length+2:=by simp
 simp only[a,d]at e;have hp:((H++[DB.map []]++[DB.buf 2 true false []])++[DB.cells 0 (nX l 0 (.map H.length) (.buf 2 (H.length+1) 0))])[H.length+2]? = some (.cells 0 (nX l 0 (.map H.length) (.buf 2 (H.length+1) 0))):=by rw[<- d];exact bt _ _
 have hm:((H++[DB.map []]++[DB.buf 2 true false []])++[DB.cells 0 (nX l 0 (.map H.length) (.buf 2 (H.length+1) 0))])[H.length]? = some (.map (LA.take 0)):=aC _ (aC _ (bt _ _));have hc:((H++[DB.map []]++[DB.buf 2 true false []])++[DB.cells 0 (nX l 0 (.map H.length) (.buf 2 (H.length+1) 0))])[H.length+1]? = some (.buf 2 true false []):=aC _ (by rw[<- a];exact bt _ _);have h:=HJ 15 0 0 _ rfl (by omega) hp hm;refine⟨_,e.trans h,⟨⟨0,ak _ (by omega) hp⟩,bJ _ hm,ak _ (by omega) hc⟩,fun o b hb=>?_⟩;have hlt:o<H.length:=by
  rcases aiA o H.length with q|q
  ·exact q
  ·rw[aeF q]at hb;cases hb
 exact ak _ (by omega) (aC _ (aC _ (aC _ hb)))
def VA:af:=[0,2,3,4,6,7,8,9,10]
def Vz(l:af)(p A B bx:Nat):List LD:=[.g (.str l),.g (.ptr p 0),.g (.ptr A 0),.g (.ptr B 0),.g (.str l),.g (.ptr p 0),.g (.func 291 [] [.ptr A 0,.ptr B 0]),.g (.ptr p 0),.g (.func 324 [] [.ptr bx 0])]
def MO(l:af)(p A B bx:Nat):DB:=ZH de 233 VA (Vz l p A B bx)
def ZG(l:af)(p A B bx:Nat):DB:=match MO l p A B bx with
 |.loop _ f nt t ps a b=>.loop false f nt t ps a b
 |b=>b
variable{H:DH}{l:af}{K p A B bx y:Nat}
def abj{κ:DH->au}(h:H[y]? = some (MO l p A B bx)):Pu H y κ=κ (H.set y (ZG l p A B bx)):=by rw[Pu,h];kernel_rfl
def Tb(h:H[y]? = some (ZG l p A B bx)):zl H y=ret (.bool true) (H.set y (MO l p A B bx)):=by rw[zl,h];kernel_rfl
def VB{κ:DH->au}(h:H[y]? = some (MO l p A B bx)):Du H y κ=κ (H.set y .opq):=by rw[Du,h];kernel_rfl
def Zb{d:D}(h:H[y]? = some (MO l p A B bx)):eP de (.call 0 [d] (some (.round y))) H=rnd de av 233 y VA (Vz l p A B bx) [d] H:=by rw[Lb];show tZ de (PP av) y [d] H=_;rw[tZ,h];kernel_rfl
def Fv(b:DB)(h:(match b with|.loop ..=>false|_=>true)=true):MO l p A B bx≠b:=by
 have:(match MO l p A B bx with|.loop ..=>false|_=>true)=false:=by kernel_rfl
 intro e;rw[e,h]at this;cases this
structure TA(K:Nat)(H:DH)(l:af)(p A B bx y:Nat)(toks:aR):Prop where
 hA:∃ st v,H[A]? = some (.cells st [v])/\((toks=[]/\v=.nilrow)\/(toks≠[]/\∃ X,v=.buf 4 X toks.length/\H[X]? = some (.buf 4 true false toks)/\K<=X))
 hB:∃ st,H[B]? = some (.cells st [.i 0,.i 0])
 hb:∃ st,H[bx]? = some (.cells st [.ptr p 0])
 hy:H[y+1]? = some (MO l p A B bx)
 hk:H[y]? = some .coll
 nA:A≠p
 nB:B≠p
 nb:bx≠p
 AB:A≠B
 Ab:A≠bx
 kA:K<=A
 ky:K<=y
def Kp(K:Nat)(H a:DH):Prop:=∀(o:Nat) b,o<K->H[o]? = some b->a[o]? = some b
def Kp.trans{K:Nat}{a b c:DH}(h:Kp K a b)(k:Kp K b c):Kp K a c:=fun o x d e=>k o x d (h o x d e)
def Kp.of{K p oc:Nat}{H a:DH}(h:Fr p oc H a)(h1:K<=p)(h2:K<=oc):Kp K H a:=fun o b h3 d=>h o b (by omega) (by omega) d
def TA.fr{d:DH}{oc:Nat}{c:aR}{toks:aR}(h:TA K H l p A B bx y toks)(f:H[oc]? = some (.buf 2 true false c))(k:Fr p oc H d)(hp:∃ st cs,H[p]? = some (.cells st cs)):TA K d l p A B bx y toks:=by
 obtain⟨stp,csp,hp⟩:=hp
 have kc:∀ {o:Nat} {b:DB},o≠p->H[o]? = some b->(∀ sz q r l,b≠.buf sz q r l\/sz≠2)->d[o]? = some b:=fun {o b} j g n=>k o b j (fun e=>by
  subst e;rw[f]at g;rcases n 2 true false c with q|q
  ·exact q (aiJ g).symm
  ·exact q rfl) g
 obtain⟨sA,v,hA,a⟩:=h.hA;obtain⟨sB,hB⟩:=h.hB;obtain⟨sb,hb⟩:=h.hb;have ny:y+1≠p:=fun e=>by have:=h.hy;rw[e,hp]at this;exact Fv (.cells stp csp) rfl (aiJ this).symm
 have nk:y≠p:=fun e=>by have:=h.hk;rw[e,hp]at this;cases this
 refine⟨⟨sA,v,kc h.nA hA (fun _ _ _ _=>.inl (fun q=>by cases q)),?_⟩,⟨sB,kc h.nB hB (fun _ _ _ _=>.inl (fun q=>by cases q))⟩,⟨sb,kc h.nb hb (fun _ _ _ _=>.inl (fun q=>by cases q))⟩,kc ny h.hy (fun _ _ _ _=>.inl (Fv _ rfl)),kc nk h.hk (fun _ _ _ _=>.inl (fun q=>by cases q)),h.nA,h.nB,h.nb,h.AB,h.Ab,h.kA,h.ky⟩;rcases a with a|⟨s,X,t,i,u⟩
 ·exact .inl a
 ·refine .inr ⟨s,X,t,kc (fun e=>by subst e;rw[hp]at i;cases i) i (fun sz q r l=>?_),u⟩;by_cases e:sz=2
  ·exact .inl (fun q=>by cases q;cases e)
  ·exact .inr e
def QI{m oc at':Nat}{c toks:aR}(g:JA H p l at' m oc c)(d:TA K H l p A B bx y toks)(hn:toks.length<=1000)(k v:Int)(t:af)(a:Nat) :
 ∃ f,eP de (.call 0 [tk k v t a] (some (.round (y+1)))) H=ret (.bool true) f/\JA f p l at' m oc c/\TA K f l p A B bx y (toks++[[.i k,.i v,.str t,.i a]])/\Kp K H f:=by
 obtain⟨stp,hp⟩:=g.hp;obtain⟨sA,w,hA,O⟩:=d.hA;obtain⟨sB,hB⟩:=d.hB;obtain⟨sb,hb⟩:=d.hb;have e:eP de (.call 0 [tk k v t a] (some (.round (y+1)))) H=_:=(Zb d.hy).trans ((show rnd de av 233 (y+1) VA (Vz l p A B bx) [tk k v t a] H=Zc de av 200 233 (y+1) VA (Vz l p A B bx) [tk k v t a] H by rw[Zc,Ge]).trans (SV _ _ _ _ _ _ _ _ _ _ _ _ _ _ _ _));have G:∀ {o:Nat} {b:DB},H[o]? = some b->o<H.length:=fun {o b} h=>by
  rcases aiA o H.length with q|q
  ·exact q
  ·rw[aeF q]at h;cases h
 have R:=bt H (.cells 0 [.i 0,.i 0,.str [],.i 0]);have L:∀ {o:Nat} {b:DB},H[o]? = some b->((H++[DB.cells 0 [.i 0,.i 0,.str [],.i 0]]).set H.length (.cells (0+1) [.i k,.i v,.str t,.i a]))[o]? = some b:=fun {o b} h=>ak _ (by have:=G h;omega) (aC _ h);have gN:=bJ (.cells (0+1) [.i k,.i v,.str t,.i a]) R;simp only[ae R,ov4]at e;generalize(H++[DB.cells 0 [.i 0,.i 0,.str [],.i 0]]).set H.length (.cells (0+1) [.i k,.i v,.str t,.i a])=M at e L gN;rw[abj (L d.hy)]at e;have ny:∀ {o:Nat} {b:DB},H[o]? = some b->(match b with|.loop ..=>false|_=>true)=true->y+1≠o:=fun {o b} N Q q=>by subst q;have:=d.hy;rw[N]at this;exact Fv b Q (aiJ this).symm
 have I:∀ {o:Nat} {b:DB},H[o]? = some b->y+1≠o->(M.set (y+1) (ZG l p A B bx))[o]? = some b:=fun h q=>ak _ q (L h);have gN2:(M.set (y+1) (ZG l p A B bx))[H.length]? = _:=ak _ (by have:=G d.hy;omega) gN;have gy2:(M.set (y+1) (ZG l p A B bx))[y+1]? = _:=bJ (ZG l p A B bx) (L d.hy);generalize M.set (y+1) (ZG l p A B bx)=f at e I gN2 gy2;have n:=I hA (ny hA rfl);simp only[ae n,ae gN2,ao,ax]at e;have Ay:A≠y+1:=(ny hA rfl).symm;have nil (toksE:toks=[]) (wE:w=.nilrow):∃ f,eP de (.call 0 [tk k v t a] (some (.round (y+1)))) H=ret (.bool true) f/\JA f p l at' m oc c/\TA K f l p A B bx y (toks++[[.i k,.i v,.str t,.i a]])/\Kp K H f:=by
  subst toksE wE;have F:∀(κ:D->DH->au) (e:List D),cv (aM ab 209) 4 .nilrow [e] f κ=κ (.buf 4 f.length 1) (f++[.buf 4 true false [e]]):=fun κ e=>by simp only[cv,aaQ,EY (show 1<=100000 by omega),boK,ge];rfl
  rw[F]at e;have r:=aC (.buf 4 true false [[.i k,.i v,.str t,.i a]]) n;simp only[xO,ae r]at e;rw[show ∀ κ:List D->au,aE [D.nilrow] 0 [.buf 4 f.length 1] κ=κ [.buf 4 f.length 1] from fun _=>rfl]at e;rw[Tb (ak _ Ay (aC _ gy2))]at e;have s:∀ {o:Nat} {b:DB},f[o]? = some b->o<f.length:=fun {o b} h=>by
   rcases aiA o f.length with q|q
   ·exact q
   ·rw[aeF q]at h;cases h
  have j:∀ {o:Nat} {b:DB},H[o]? = some b->y+1≠o->A≠o->(((f++[DB.buf 4 true false [[.i k,.i v,.str t,.i a]]]).set A (.cells (sA+1) [.buf 4 f.length 1])).set (y+1) (MO l p A B bx))[o]? = some b:=fun h u J=>ak _ u (ak _ J (aC _ (I h u)))
  refine⟨_,e,⟨⟨stp,j hp (ny hp rfl) d.nA⟩,j g.hm (ny g.hm rfl) (fun q=>by have:=g.hm;rw[<- q,hA]at this;cases this),j g.hc (ny g.hc rfl) (fun q=>by have:=g.hc;rw[<- q,hA]at this;cases this)⟩,
   ⟨⟨sA+1,_,ak _ Ay.symm (bJ _ r),.inr ⟨by simp,f.length,rfl,ak _ (by have:=s gy2;omega) (ak _ (by have:=s n;omega) (bt _ _)),by have:=s n;have:=d.kA;omega⟩⟩,⟨sB,j hB (ny hB rfl) d.AB⟩,⟨sb,j hb (ny hb rfl) d.Ab⟩,bJ _ (ak _ Ay (aC _ gy2)),j d.hk (by omega) (fun q=>by have:=d.hk;rw[<- q,hA]at this;cases this),d.nA,d.nB,d.nb,d.AB,d.Ab,d.kA,d.ky⟩,fun o b ho hb=>j hb (by have:=d.ky;omega) (by have:=d.kA;omega)⟩
 rcases O with⟨u,J⟩|⟨u,X,rfl,E,W⟩
 ·exact nil u J
 ·have U:=I E (ny E rfl);have XA:X≠A:=fun q=>by rw[q,hA]at E;cases E
  have Xy:X≠y+1:=(ny E rfl).symm;have F:∀(κ:D->DH->au) (e:List D),cv (aM ab 209) 4 (.buf 4 X toks.length) [e] f κ=κ (.buf 4 X (toks.length+1)) (f.set X (.buf 4 true false (toks++[e]))):=fun κ e=>by simp only[cv,aaQ,EY (show 1<=100000 by omega),boK,ge,aiw,du U,EY (show toks.length+1<=100000 by omega),aeH,aih,aiW,grow,TD]
  rw[F]at e;have r:=ak (.buf 4 true false (toks++[[.i k,.i v,.str t,.i a]])) XA n;simp only[xO,ae r]at e;rw[show ∀(z:D) (κ:List D->au),aE [z] 0 [.buf 4 X (toks.length+1)] κ=κ [.buf 4 X (toks.length+1)] from fun _ _=>rfl]at e;rw[Tb (ak _ Ay (ak _ Xy gy2))]at e;have j:∀ {o:Nat} {b:DB},H[o]? = some b->y+1≠o->A≠o->X≠o->(((f.set X (.buf 4 true false (toks++[[.i k,.i v,.str t,.i a]]))).set A (.cells (sA+1) [.buf 4 X (toks.length+1)])).set (y+1) (MO l p A B bx))[o]? = some b:=fun h u J E=>ak _ u (ak _ J (ak _ E (I h u)));have Xn:∀ {o:Nat} {b:DB},H[o]? = some b->b≠.buf 4 true false toks->X≠o:=fun N Q q=>by subst q;rw[E]at N;exact Q (aiJ N).symm
  refine⟨_,e,⟨⟨stp,j hp (ny hp rfl) d.nA (Xn hp (fun q=>by cases q))⟩,j g.hm (ny g.hm rfl) (fun q=>by have:=g.hm;rw[<- q,hA]at this;cases this) (Xn g.hm (fun q=>by cases q)),j g.hc (ny g.hc rfl) (fun q=>by have:=g.hc;rw[<- q,hA]at this;cases this) (Xn g.hc (fun q=>by cases q))⟩,
   ⟨⟨sA+1,_,ak _ Ay.symm (bJ _ r),.inr ⟨by simp,X,by simp,ak _ Xy.symm (ak _ XA.symm (bJ _ U)),W⟩⟩,⟨sB,j hB (ny hB rfl) d.AB (Xn hB (fun q=>by cases q))⟩,⟨sb,j hb (ny hb rfl) d.Ab (Xn hb (fun q=>by cases q))⟩,bJ _ (ak _ Ay (ak _ Xy gy2)),j d.hk (by omega) (fun q=>by have:=d.hk;rw[<- q,hA]at this;cases this) (Xn d.hk (fun q=>by cases q)),d.nA,d.nB,d.nb,d.AB,d.Ab,d.kA,d.ky⟩,fun o b ho hb=>j hb (by have:=d.ky;omega) (by have:=d.kA;omega) (by omega)⟩
end Go.Proofs.YtpghiabjaglpgaaGreatDoor
