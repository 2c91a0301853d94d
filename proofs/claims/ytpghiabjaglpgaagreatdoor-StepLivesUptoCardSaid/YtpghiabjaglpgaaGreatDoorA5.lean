/- Lemmas. No conditions. -/
import Derived.Test.YtpghiabjaglpgaaGreatDoorA4
set_option linter.all false
noncomputable section
namespace Go.Proofs.YtpghiabjaglpgaaGreatDoor
open Go.AI
section
variable{kind:af->Int}(K:KOk kind)
def zDa(d:Da):Bool:=d.n==[]&&(d.vs.length==0&&d.cs.length==0)
def zTy:Ty->Bool
 |.mk n xs=>n==[]&&xs.length==0
def zEx:Ex->Bool
 |.mk k m n a xs ps=>k==0&&(m==0&&(n==[]&&(a==[]&&(xs.length==0&&ps.length==0))))
def agl(d:Da)(H:DH):aq 183 [.agg (daC d)] H=ret (.bool (zDa d)) H:=by obtain⟨n,vs,cs⟩:=d;exact ev (amG) (by simp only[abh,tS,bp,agb,zDa])
def agk(d:Da)(H:DH):aq 125 [.agg (daC d)] H=ret (.bool (zDa d)) H:=by obtain⟨n,vs,cs⟩:=d;exact ev (amY) (by simp only[abh,tS,bp,agb,zDa])
def agh(t:Ty)(H:DH):aq 184 [.agg (dL t)] H=ret (.bool (zTy t)) H:=by obtain⟨n,xs⟩:=t;refine ev (by simp only[dL];exact amF) (by simp only[bU,tS,bp,agb,zTy])
def agf(t:Ty)(H:DH):aq 126 [.agg (dL t)] H=ret (.bool (zTy t)) H:=by obtain⟨n,xs⟩:=t;refine ev (by simp only[dL];exact amX) (by simp only[bU,tS,bp,agb,zTy])
def agj(t:Ex)(H:DH):aq 185 [.agg (cT t)] H=ret (.bool (zEx t)) H:=by obtain⟨k,m,n,a,xs,ps⟩:=t;refine ev (by simp only[cT];exact amE) (by simp only[bV,cm,tS,bp,agb,zEx])
def agi(t:Ex)(H:DH):aq 127 [.agg (cT t)] H=ret (.bool (zEx t)) H:=by obtain⟨k,m,n,a,xs,ps⟩:=t;refine ev (by simp only[cT];exact amW) (by simp only[bV,cm,tS,bp,agb,zEx])
section
variable(kind:af->Int)
def nu(f:Fu):Bool:=kind f.n==2&&(kind f.a==2&&gL kind f.b)
def fp(d:De):Bool :=
 cond (d.k==1) (Dd kind d.d&&(d.n==[]&&(zTy d.t&&(zEx d.b&&d.fs.length==0))))
 (cond (d.k==2) (zDa d.d&&(kind d.n==2&&(mL kind d.t&&(zEx d.b&&d.fs.length==0))))
 (cond (d.k==3) (zDa d.d&&(d.n==[]&&(zTy d.t&&(zEx d.b&&(decide (1<=d.fs.length)&&(decide (d.fs.length<=16)&&d.fs.all (nu kind)))))))
 (cond (d.k==4) (zDa d.d&&(kind d.n==2&&(zTy d.t&&(gL kind d.b&&d.fs.length==0))))
 (cond (d.k==5) (zDa d.d&&(kind d.n==2&&(zTy d.t&&(gL kind d.b&&d.fs.length==0)))) false))))
end
include K
def VZ(f:Fu)(H:DH)(h:f.b.ok):aq 190 [.agg (lW f)] H=ret (.bool (nu kind f)) H:=by obtain⟨n,a,⟨k,m,en,ea,xs,ps⟩⟩:=f;refine ev (amz) ?_;have c:=vD K (.mk k m en ea xs ps) H h;simp only[cT]at c;simp only[am (ph K _ _),am c,ao,bp,agb,nu]
def RZ(d:De)(H:DH)(h:d.ok):aq 117 [.agg (bG d)] H=ret (.bool (fp kind d)) H:=by
 obtain⟨k,⟨dn,vs,cs⟩,n,⟨tn,ts⟩,fs,⟨ek,em,en,ea,xs,ps⟩⟩:=d;obtain⟨i,j,l,m,o⟩:=h;refine ev (anh) ?_;have a:=agl ⟨dn,vs,cs⟩ H;have b:=agh (.mk tn ts) H;have c:=agj (.mk ek em en ea xs ps) H;have e:=Sa K ⟨dn,vs,cs⟩ H i;have f:=FG K (.mk tn ts) H j;have g:=vD K (.mk ek em en ea xs ps) H o;have hb:aV bF 190=true:=by kernel_rfl
 have q:=ajs hb (p:=nu kind) fs l (λt r H'=>VZ K t H' (m t r)) H;simp only[dL,cT,daC]at a b c e f g;simp only[aH a,aH b,aH c,am e,am f,am g,am q,am (ph K _ _),ao,abh,tS,JV,vG,bp,agb,fp,apH]
def Ka(k:Int)(dn:af)(vs:List af)(cs:List Co)(n tn:af)(ts:List Ty)(fs:List Fu)(ek em:Int)(en ea:af)(xs:List Ex)(ps:List Pa)(H:DH)(hl:fs.length<2^62):∀ pre suf,fs=pre++suf->(∀ f∈suf,f.b.ok) ->
 ac au 67 200015 [.lp 0 0,.n (pre.length:Nat)] [(0,bG ⟨k,⟨dn,vs,cs⟩,n,.mk tn ts,fs,.mk ek em en ea xs ps⟩)] H=ret (.bool (suf.all (nu kind)&&(n==[]&&(decide (1<=fs.length)&&decide (fs.length<=16))))) H
 |pre,[],e,_=>by
  have c:fs.length=pre.length:=by rw[e];simp
  refine aW (Ch) ?_;simp only[abh,c,akg,anM,Xi,apt,adG,JV,vG,bp,agb]
 |pre,f::suf,e,h=>by
  refine aW (Ch) ?_;have hi:pre.length<fs.length:=by rw[e];simp
  have d:decide ((pre.length:Int)<((fs.map lW).length:Int))=true:=by rw[abh];simp;exact hi
  have g:(fs.map lW)[pre.length]? = some (lW f):=by rw[e];exact bz _ _ _ _
  have i:=h f (adN ..);have ih:=Ka k dn vs cs n tn ts fs ek em en ea xs ps H hl (pre++[f]) suf (by rw[e];simp) (λx j=>h x (acl _ j));simp only[abg,abf,bG]at ih;obtain⟨fn,fa,⟨l,m,en',ea',xs',ps'⟩⟩:=f;have a:=pm K (.mk l m en' ea' xs' ps') H i;simp only[cT]at a;rw[d,ge];simp only[aI,ak g,lW,ai,aw,am (tO K _ _),am a,aK,ao,aE (show pre.length<2^62 by omega),ih,aof,nu]
  grind
def Kb(d:De)(H:DH)(h:d.ok):aq 67 [.agg (bG d)] H=ret (.bool (fp kind d)) H:=by
 obtain⟨k,⟨dn,vs,cs⟩,n,⟨tn,ts⟩,fs,⟨ek,em,en,ea,xs,ps⟩⟩:=d;obtain⟨m,o,p,q,r⟩:=h;have b:=agk ⟨dn,vs,cs⟩ H;have c:=agf (.mk tn ts) H;have e:=agi (.mk ek em en ea xs ps) H;have f:=Kc K ⟨dn,vs,cs⟩ H m;have g:=pj K (.mk tn ts) H o;have i:=pm K (.mk ek em en ea xs ps) H r;have a:=Ka K k dn vs cs n tn ts fs ek em en ea xs ps H p [] fs rfl q;simp only[dL,cT,daC,bG]at b c e f g i a;have a:ac au 67 200015 [.lp 0 0,.n 0] _ H=_:=a;have j:ac au 67 5 [.lp 0 0] [(0,bG ⟨k,⟨dn,vs,cs⟩,n,.mk tn ts,fs,.mk ek em en ea xs ps⟩)] H=_:=aW (aiU) (aW (aiT) rfl);simp only[am f,am g,am i,a,am (tO K _ _),ao,bp,agb,bG]at j;have l:ac au 67 3 [.lp 0 0] [(0,bG ⟨k,⟨dn,vs,cs⟩,n,.mk tn ts,fs,.mk ek em en ea xs ps⟩)] H=_:=aW (aiV) rfl;simp only[am e,j,aK,ao,bG]at l;refine ev (f67) ?_;simp only[am b,am c,l,aK,ao,abh,abS,bp,fp];have hz:decide (fs.length>0)=!(fs.length==0):=by cases fs<;>simp
 grind
end
section
def wx(a b:Nat):max (a:Int) (b:Int)=((max a b:Nat):Int):=by omega
def MX(a:Nat):decide ((a:Int)>100)=decide (a>100):=by rw[ajF];simp;omega
mutual
def Ew:Ty->Nat->Nat
 |.mk _ xs,p=>bif decide (p>100)then p else max p (fu xs (p+1))
def fu:List Ty->Nat->Nat
 |[],_=>0
 |t::r,q=>max (Ew t q) (fu r q)
end
mutual
def DS:Pa->Nat->Nat
 |.mk _ _ xs,p=>bif decide (p>100)then p else max p (jV xs (p+1))
def jV:List Pa->Nat->Nat
 |[],_=>0
 |t::r,q=>max (DS t q) (jV r q)
end
mutual
def Ey:Ex->Nat->Nat
 |.mk _ _ _ _ xs ps,p=>bif decide (p>100)then p else max (max p (jV ps (p+1))) (iE xs (p+1))
def iE:List Ex->Nat->Nat
 |[],_=>0
 |t::r,q=>max (Ey t q) (iE r q)
end
mutual
def WM:∀(t:Ty) (p:Nat) (H:DH),t.ok->p<=101->aq 120 [.agg (dL t),.i p] H=ret (.i (Ew t p:Nat)) H
 |.mk n xs,p,H,h,hp=>by
  simp only[Ty.ok]at h;refine ev (by simp only[dL];exact ane) ?_;rw[MX,Ew];cases b:decide (p>100)with
  |true=>simp only[ge]
  |false =>
   have a:p<=100:=by simp at b;omega
   simp only[Xi];exact Qu n xs p a H h.1 [] xs p rfl h.2
def Qu(n:af)(xs:List Ty)(p:Nat)(hp:p<=100)(H:DH)(hl:xs.length<2^62):∀ pre suf (a:Nat),xs=pre++suf->Ty.oks suf ->
 ac au 120 200005 [.n p,.lp 0 0,.n (a:Nat),.n pre.length] [(0,[.str n,.row 2 (cE xs)])] H=ret (.i (max a (fu suf (p+1)):Nat)) H
 |pre,[],a,e,_=>by
  have e2:xs.length=pre.length:=by rw[e];simp
  refine aW (ye) ?_;simp_all[bU,fu,aon]
 |pre,t::suf,a,e,h=>by
  simp only[Ty.oks]at h;refine aW (ye) ?_;have hi:pre.length<xs.length:=by rw[e];simp
  have f:decide ((pre.length:Int)<((cE xs).length:Int))=true:=by rw[bU];simp;exact hi
  have d:(cE xs)[pre.length]? = some (dL t):=by rw[e];exact hQ _ _ _
  have b:=WM t (p+1) H h.1 (by omega);have ih:=Qu n xs p hp H hl (pre++[t]) suf (max a (Ew t (p+1))) (by rw[e];simp) h.2;have c:fu (t::suf) (p+1)=max (Ew t (p+1)) (fu suf (p+1)):=by rw[fu]
  rw[c];generalize Ew t (p+1)=q at b ih ⊢;obtain⟨tn,tas⟩:=t;simp only[dL]at b d;simp only[abg,abf]at ih;simp only[f,ge,aI,ak d,ai,aw,aE (show p<2^62 by omega),am b,wu,oW,wx,aE (show pre.length<2^62 by omega),ih]
  grind
end
mutual
def WN:∀(t:Pa) (p:Nat) (H:DH),t.ok->p<=101->aq 193 [.agg (eY t),.i p] H=ret (.i (DS t p:Nat)) H
 |.mk k n xs,p,H,h,hp=>by
  simp only[Pa.ok]at h;refine ev (by simp only[eY];exact amw) ?_;rw[MX,DS];cases b:decide (p>100)with
  |true=>simp only[ge]
  |false =>
   have a:p<=100:=by simp at b;omega
   simp only[Xi];exact Qv k n xs p a H h.1 [] xs p rfl h.2
def Qv(k:Int)(n:af)(xs:List Pa)(p:Nat)(hp:p<=100)(H:DH)(hl:xs.length<2^62):∀ pre suf (a:Nat),xs=pre++suf->Pa.oks suf ->
 ac au 193 200005 [.n p,.lp 0 0,.n (a:Nat),.n pre.length] [(0,[.i k,.str n,.row 3 (cG xs)])] H=ret (.i (max a (jV suf (p+1)):Nat)) H
 |pre,[],a,e,_=>by
  have e2:xs.length=pre.length:=by rw[e];simp
  refine aW (xy) ?_;simp_all[cm,jV,aon]
 |pre,t::suf,a,e,h=>by
  simp only[Pa.oks]at h;refine aW (xy) ?_;have hi:pre.length<xs.length:=by rw[e];simp
  have f:decide ((pre.length:Int)<((cG xs).length:Int))=true:=by rw[cm];simp;exact hi
  have d:(cG xs)[pre.length]? = some (eY t):=by rw[e];exact jb _ _ _
  have b:=WN t (p+1) H h.1 (by omega);have ih:=Qv k n xs p hp H hl (pre++[t]) suf (max a (DS t (p+1))) (by rw[e];simp) h.2;have c:jV (t::suf) (p+1)=max (DS t (p+1)) (jV suf (p+1)):=by rw[jV]
  rw[c];generalize DS t (p+1)=q at b ih ⊢;obtain⟨tk,tn,tas⟩:=t;simp only[eY]at b d;simp only[abg,abf]at ih;simp only[f,ge,aI,ak d,ai,aw,aE (show p<2^62 by omega),am b,wu,oW,wx,aE (show pre.length<2^62 by omega),ih]
  grind
end
def Qy(k m:Int)(n b:af)(xs:List Ex)(ps:List Pa)(p:Nat)(hp:p<=100)(H:DH)(hl:xs.length<2^62)(c:ps.length<2^62)(X:Nat)(j:∀ a:Nat,ac au 122 200009 [.n p,.lp 0 0,.n (a:Nat),.n 0] [(0,(xE k m n b (cu xs) (cG ps)))] H=ret (.i (max a X:Nat)) H):∀ pre suf (a:Nat),ps=pre++suf->Pa.oks suf ->
 ac au 122 200005 [.n p,.lp 0 0,.n (a:Nat),.n pre.length] [(0,(xE k m n b (cu xs) (cG ps)))] H=ret (.i (max (max a (jV suf (p+1))) X:Nat)) H
 |pre,[],a,e,_=>by
  have e2:ps.length=pre.length:=by rw[e];simp
  refine aW (yc) ?_;simp_all[cm,jV,aon]
 |pre,t::suf,a,e,h=>by
  simp only[Pa.oks]at h;refine aW (yc) ?_;have hi:pre.length<ps.length:=by rw[e];simp
  have l:decide ((pre.length:Int)<((cG ps).length:Int))=true:=by rw[cm];simp;exact hi
  have g:(cG ps)[pre.length]? = some (eY t):=by rw[e];exact jb _ _ _
  have d:=WN t (p+1) H h.1 (by omega);have ih:=Qy k m n b xs ps p hp H hl c X j (pre++[t]) suf (max a (DS t (p+1))) (by rw[e];simp) h.2;have f:jV (t::suf) (p+1)=max (DS t (p+1)) (jV suf (p+1)):=by rw[jV]
  rw[f];generalize DS t (p+1)=q at d ih ⊢;obtain⟨tk,tn,tas⟩:=t;simp only[eY]at d g;simp only[abg,abf]at ih;simp only[l,ge,aI,ak g,ai,aw,aE (show p<2^62 by omega),am d,wu,oW,wx,aE (show pre.length<2^62 by omega),ih]
  grind
mutual
def WO:∀(t:Ex) (p:Nat) (H:DH),t.ok->p<=101->aq 122 [.agg (cT t),.i p] H=ret (.i (Ey t p:Nat)) H
 |.mk k m n b xs ps,p,H,h,hp=>by
  simp only[Ex.ok]at h;refine ev (by simp only[cT];exact anb) ?_;rw[MX,Ey];cases d:decide (p>100)with
  |true=>simp only[ge]
  |false =>
   have c:p<=100:=by simp at d;omega
   simp only[Xi];exact Qy k m n b xs ps p c H h.1 h.2.2.1 _ (λa=>Qx k m n b xs ps p c H h.1 [] xs a rfl h.2.1) [] ps p rfl h.2.2.2
def Qx(k m:Int)(n b:af)(xs:List Ex)(ps:List Pa)(p:Nat)(hp:p<=100)(H:DH)(hl:xs.length<2^62):∀ pre suf (a:Nat),xs=pre++suf->Ex.oks suf ->
 ac au 122 200009 [.n p,.lp 0 0,.n (a:Nat),.n pre.length] [(0,(xE k m n b (cu xs) (cG ps)))] H=ret (.i (max a (iE suf (p+1)):Nat)) H
 |pre,[],a,e,_=>by
  have e2:xs.length=pre.length:=by rw[e];simp
  refine aW (yb) ?_;simp_all[bV,iE,aon]
 |pre,t::suf,a,e,h=>by
  simp only[Ex.oks]at h;refine aW (yb) ?_;have hi:pre.length<xs.length:=by rw[e];simp
  have g:decide ((pre.length:Int)<((cu xs).length:Int))=true:=by rw[bV];simp;exact hi
  have f:(cu xs)[pre.length]? = some (cT t):=by rw[e];exact je _ _ _
  have c:=WO t (p+1) H h.1 (by omega);have ih:=Qx k m n b xs ps p hp H hl (pre++[t]) suf (max a (Ey t (p+1))) (by rw[e];simp) h.2;have d:iE (t::suf) (p+1)=max (Ey t (p+1)) (iE suf (p+1)):=by rw[iE]
  rw[d];generalize Ey t (p+1)=q at c ih ⊢;obtain⟨tk,tm,tn,tb,tas,tps⟩:=t;simp only[cT]at c f;simp only[abg,abf]at ih;simp only[g,ge,aI,ak f,ai,aw,aE (show p<2^62 by omega),am c,wu,oW,wx,aE (show pre.length<2^62 by omega),ih]
  grind
end
def dl{H:DH}{o:Nat}{b:DB}(h:H[o]? = some b):o<H.length:=by grind
theorem lZ{H X:DH}{o:Nat}{b:DB}(ho:o<H.length)(hb:b.bel H.length):bj H (ret (.tuple []) ((H++X).set o b))=ret (.tuple []) (H.set o b):=by
 have e:(H++X).set o b=H.set o b++X:=by rw[List.set_append,akJ ho]
 have h:nU H ⟨.ret (.tuple []),none,(H++X).set o b⟩:=by
  refine⟨by simp[EF.bel,D.bel,eB],rfl,by simp,λi x hi hx=>?_⟩
  grind
 simp_all[bj,ret]
def Mq{H:DH}{o st d p:Nat}(g:FuncId)(cap:List D)(hb:aV bF g=true)(ho:H[o]? = some (.cells st [.i d])) :
 aq 299 [.ptr o 0,.i p,.func g [] cap] H=bif decide (p<=100)then C au g cap (H.set o (.cells (st+1) [.i (max d p:Nat)])) (λ_ H=>ret (.tuple []) H)else ret (.tuple []) (H.set o (.cells (st+1) [.i (max d p:Nat)])):=by
 refine ev (alO) ?_;have a:decide ((p:Int)<=100)=decide (p<=100):=by rw[ajF];simp;omega
 simp only[ae ho,ai,wu,oW,wx,a,bZ hb,agc];rfl
def Dk(a b:D)(κ:List D->av):aj 2 (.agg [a,b]) κ=κ [a,b]:=rfl
def YV(a b x y:D)(κ:List D->av):aC [a,b] 0 [x,y] κ=κ [x,y]:=rfl
mutual
def Ie:∀(t:Ty) (p d st o:Nat) (H:DH),H[o]? = some (.cells st [.i d])->t.ok->p<=101 ->
 ∃ st',aq 243 [.ptr o 0,.agg (dL t),.i p] H=ret (.tuple []) (H.set o (.cells st' [.i (max d (Ew t p):Nat)]))
 |.mk n xs,p,d,st,o,H,ho,h,hp=>by
  simp only[Ty.ok]at h;have hlt:=dl ho;have e:((H++[cY o])++[DB.cells 0 (dL (.mk n xs))]++[jv p])[H.length]? = some (.cells 0 [.ptr o 0]):=aD _ (aD _ (be _ _));have g:((H++[cY o])++[DB.cells 0 (dL (.mk n xs))]++[jv p])[(H++[cY o]).length]? = some (.cells 0 (dL (.mk n xs))):=aD _ (be _ _);have f:((H++[cY o])++[DB.cells 0 (dL (.mk n xs))]++[jv p])[((H++[cY o])++[DB.cells 0 (dL (.mk n xs))]).length]? = some (.cells 0 [.i p]):=be _ _;have b:((H++[cY o])++[DB.cells 0 (dL (.mk n xs))]++[jv p])[o]? = some (.cells st [.i d]):=aD _ (aD _ (aD _ ho));have j:(H++[cY o])++[DB.cells 0 (dL (.mk n xs))]++[jv p]=H++([cY o]++[DB.cells 0 (dL (.mk n xs))]++[jv p]):=by simp only[ajL]
  have n1:(H++[cY o]).length≠o:=by simp;omega
  have n2:H.length≠o:=by omega
  have n3:((H++[cY o])++[DB.cells 0 (dL (.mk n xs))]).length≠o:=by simp;omega
  have hb:aV bF 300=true:=by kernel_rfl
  have nd:=Mq (p:=p) 300 [.ptr (H++[cY o]).length 0,.ptr H.length 0,.ptr ((H++[cY o])++[DB.cells 0 (dL (.mk n xs))]).length 0] hb b;generalize hG:(H++[cY o])++[DB.cells 0 (dL (.mk n xs))]++[jv p]=G at e g f b j nd;have a:∃ st',aq 299 [.ptr o 0,.i p,.func 300 [] [.ptr (H++[cY o]).length 0,.ptr H.length 0,.ptr ((H++[cY o])++[DB.cells 0 (dL (.mk n xs))]).length 0]] G=ret (.tuple []) (G.set o (.cells st' [.i (max d (Ew (.mk n xs) p):Nat)])):=by
   cases k:decide (p<=100)with
   |false =>grind [Ew]
   |true =>
    have c:p<=100:=by simpa using k
    obtain⟨st',hl⟩:=KC xs p c o H.length ((H++[cY o])++[DB.cells 0 (dL (.mk n xs))]).length 0 0 h.1 n2 n3 [] xs (st+1) (max d p) (G.set o (.cells (st+1) [.i (max d p:Nat)])) (ba _ b) (ax _ n2.symm e) (ax _ n3.symm f) rfl h.2;refine⟨st',?_⟩;have hc:aq 300 [.ptr (H++[cY o]).length 0,.ptr H.length 0,.ptr ((H++[cY o])++[DB.cells 0 (dL (.mk n xs))]).length 0] (G.set o (.cells (st+1) [.i (max d p:Nat)]))=ret (.tuple []) (G.set o (.cells st' [.i (max d (Ew (.mk n xs) p):Nat)])):=by
     refine ev (alN) ?_
     grind [ae,ax,dL,ai,aw,dR,lY,bU,List.set_set,Ew,Nat.max_assoc]
    grind [am]
  obtain⟨st',hf⟩:=a;refine⟨st',ev (by simp only[dL];exact f243) ?_⟩
  grind [dL,ae,ai,am,lZ,DB.bel,eB,D.bel]
def KC(xs:List Ty)(p:Nat)(hp:p<=100)(o v1 v2 s1 s2:Nat)(hl:xs.length<2^62)(n1:v1≠o)(n2:v2≠o):∀(pre suf:List Ty) (st d:Nat) (H:DH),H[o]? = some (.cells st [.i d])->H[v1]? = some (.cells s1 [.ptr o 0])->H[v2]? = some (.cells s2 [.i p])->xs=pre++suf->Ty.oks suf ->
 ∃ st',ac au 300 200001 [.g (.ptr v1 0),.g (.ptr v2 0),.g (.row 2 (cE xs)),.n xs.length,.n pre.length] [] H=ret (.tuple []) (H.set o (.cells st' [.i (max d (fu suf (p+1)):Nat)]))
 |pre,[],st,d,H,ho,a,b,e,_=>by
  have e2:xs.length=pre.length:=by rw[e];simp
  refine⟨st,aW (wW) ?_⟩;simp_all[akg,fu,aon,gB]
 |pre,t::suf,st,d,H,ho,a,b,e,h=>by
  simp only[Ty.oks]at h;have hi:pre.length<xs.length:=by rw[e];simp
  have j:decide ((pre.length:Int)<(xs.length:Int))=true:=by simp;exact hi
  have f:(cE xs)[pre.length]? = some (dL t):=by rw[e];exact hQ _ _ _
  obtain⟨iD,hc⟩:=Ie t (p+1) d st o H ho h.1 (by omega);obtain⟨st',ih⟩:=KC xs p hp o v1 v2 s1 s2 hl n1 n2 (pre++[t]) suf iD (max d (Ew t (p+1))) (H.set o (.cells iD [.i (max d (Ew t (p+1)):Nat)])) (ba _ ho) (ax _ n1.symm a) (ax _ n2.symm b) (by rw[e];simp) h.2;refine⟨st',aW (wW) ?_⟩;have c:fu (t::suf) (p+1)=max (Ew t (p+1)) (fu suf (p+1)):=by rw[fu]
  rw[c,<- aoj];generalize Ew t (p+1)=q at hc ih ⊢;obtain⟨tn,tas⟩:=t;simp only[dL]at f hc;simp only[abg,abf,agd]at ih;simp only[j,ge,jK lY Jd f,ww,Dk,YV,ae a,ae b,ai,aw,bR,aE (show p<2^62 by omega),am hc,aE (show pre.length<2^62 by omega)];exact ih
end
theorem u84:Tryz.prog.underlying 84=some (.slice 232):=by kernel_rfl
def YA:size ab 232=some 3:=by kernel_rfl
def PN(a b c:D)(H:DH){κ:D->av}:bJ ab 232 (.eptr [a,b,c] 0) H κ=κ (.agg [a,b,c]):=by kernel_rfl
def Im(a b c:D)(κ:List D->av):aj 3 (.agg [a,b,c]) κ=κ [a,b,c]:=rfl
def YU(a b c x y z:D)(κ:List D->av):aC [a,b,c] 0 [x,y,z] κ=κ [x,y,z]:=rfl
mutual
def Qw:∀(t:Pa) (p d st o:Nat) (H:DH),H[o]? = some (.cells st [.i d])->t.ok->p<=101 ->
 ∃ st',aq 302 [.ptr o 0,.agg (eY t),.i p] H=ret (.tuple []) (H.set o (.cells st' [.i (max d (DS t p):Nat)]))
 |.mk k n xs,p,d,st,o,H,ho,h,hp=>by
  simp only[Pa.ok]at h;have hlt:=dl ho;have e:((H++[cY o])++[DB.cells 0 (eY (.mk k n xs))]++[jv p])[H.length]? = some (.cells 0 [.ptr o 0]):=aD _ (aD _ (be _ _));have g:((H++[cY o])++[DB.cells 0 (eY (.mk k n xs))]++[jv p])[(H++[cY o]).length]? = some (.cells 0 (eY (.mk k n xs))):=aD _ (be _ _);have f:((H++[cY o])++[DB.cells 0 (eY (.mk k n xs))]++[jv p])[((H++[cY o])++[DB.cells 0 (eY (.mk k n xs))]).length]? = some (.cells 0 [.i p]):=be _ _;have b:((H++[cY o])++[DB.cells 0 (eY (.mk k n xs))]++[jv p])[o]? = some (.cells st [.i d]):=aD _ (aD _ (aD _ ho));have j:(H++[cY o])++[DB.cells 0 (eY (.mk k n xs))]++[jv p]=H++([cY o]++[DB.cells 0 (eY (.mk k n xs))]++[jv p]):=by simp only[ajL]
  have n1:(H++[cY o]).length≠o:=by simp;omega
  have n2:H.length≠o:=by omega
  have n3:((H++[cY o])++[DB.cells 0 (eY (.mk k n xs))]).length≠o:=by simp;omega
  have hb:aV bF 330=true:=by kernel_rfl
  have nd:=Mq (p:=p) 330 [.ptr (H++[cY o]).length 0,.ptr H.length 0,.ptr ((H++[cY o])++[DB.cells 0 (eY (.mk k n xs))]).length 0] hb b;generalize hG:(H++[cY o])++[DB.cells 0 (eY (.mk k n xs))]++[jv p]=G at e g f b j nd;have a:∃ st',aq 299 [.ptr o 0,.i p,.func 330 [] [.ptr (H++[cY o]).length 0,.ptr H.length 0,.ptr ((H++[cY o])++[DB.cells 0 (eY (.mk k n xs))]).length 0]] G=ret (.tuple []) (G.set o (.cells st' [.i (max d (DS (.mk k n xs) p):Nat)])):=by
   cases l:decide (p<=100)with
   |false =>grind [DS]
   |true =>
    have c:p<=100:=by simpa using l
    obtain⟨st',hl⟩:=KD xs p c o H.length ((H++[cY o])++[DB.cells 0 (eY (.mk k n xs))]).length 0 0 h.1 n2 n3 [] xs (st+1) (max d p) (G.set o (.cells (st+1) [.i (max d p:Nat)])) (ba _ b) (ax _ n2.symm e) (ax _ n3.symm f) rfl h.2;refine⟨st',?_⟩;have hc:aq 330 [.ptr (H++[cY o]).length 0,.ptr H.length 0,.ptr ((H++[cY o])++[DB.cells 0 (eY (.mk k n xs))]).length 0] (G.set o (.cells (st+1) [.i (max d p:Nat)]))=ret (.tuple []) (G.set o (.cells st' [.i (max d (DS (.mk k n xs) p):Nat)])):=by
     refine ev (alv) ?_
     grind [ae,ax,eY,ai,aw,dR,u84,cm,List.set_set,DS,Nat.max_assoc]
    grind [am]
  obtain⟨st',hf⟩:=a;refine⟨st',ev (by simp only[eY];exact alL) ?_⟩
  grind [eY,ae,ai,am,lZ,DB.bel,eB,D.bel]
def KD(xs:List Pa)(p:Nat)(hp:p<=100)(o v1 v2 s1 s2:Nat)(hl:xs.length<2^62)(n1:v1≠o)(n2:v2≠o):∀(pre suf:List Pa) (st d:Nat) (H:DH),H[o]? = some (.cells st [.i d])->H[v1]? = some (.cells s1 [.ptr o 0])->H[v2]? = some (.cells s2 [.i p])->xs=pre++suf->Pa.oks suf ->
 ∃ st',ac au 330 200001 [.g (.ptr v1 0),.g (.ptr v2 0),.g (.row 3 (cG xs)),.n xs.length,.n pre.length] [] H=ret (.tuple []) (H.set o (.cells st' [.i (max d (jV suf (p+1)):Nat)]))
 |pre,[],st,d,H,ho,a,b,e,_=>by
  have e2:xs.length=pre.length:=by rw[e];simp
  refine⟨st,aW (wO) ?_⟩;simp_all[akg,jV,aon,gB]
 |pre,t::suf,st,d,H,ho,a,b,e,h=>by
  simp only[Pa.oks]at h;have hi:pre.length<xs.length:=by rw[e];simp
  have j:decide ((pre.length:Int)<(xs.length:Int))=true:=by simp;exact hi
  have f:(cG xs)[pre.length]? = some (eY t):=by rw[e];exact jb _ _ _
  obtain⟨iD,hc⟩:=Qw t (p+1) d st o H ho h.1 (by omega);obtain⟨st',ih⟩:=KD xs p hp o v1 v2 s1 s2 hl n1 n2 (pre++[t]) suf iD (max d (DS t (p+1))) (H.set o (.cells iD [.i (max d (DS t (p+1)):Nat)])) (ba _ ho) (ax _ n1.symm a) (ax _ n2.symm b) (by rw[e];simp) h.2;refine⟨st',aW (wO) ?_⟩;have c:jV (t::suf) (p+1)=max (DS t (p+1)) (jV suf (p+1)):=by rw[jV]
  rw[c,<- aoj];generalize DS t (p+1)=q at hc ih ⊢;obtain⟨tk,tn,tas⟩:=t;simp only[eY]at f hc;simp only[abg,abf,agd]at ih;simp only[j,ge,jK u84 YA f,PN,Im,YU,ae a,ae b,ai,aw,bR,aE (show p<2^62 by omega),am hc,aE (show pre.length<2^62 by omega)];exact ih
end
theorem u83:Tryz.prog.underlying 83=some (.slice 86):=by kernel_rfl
def s86:size ab 86=some 6:=by kernel_rfl
def VL(a b c d e f:D)(H:DH){κ:D->av}:bJ ab 86 (.eptr [a,b,c,d,e,f] 0) H κ=κ (.agg [a,b,c,d,e,f]):=by kernel_rfl
def Xg(a b c d e f:D)(κ:List D->av):aj 6 (.agg [a,b,c,d,e,f]) κ=κ [a,b,c,d,e,f]:=rfl
def agQ(a b c d e f x y z u v w:D)(κ:List D->av):aC [a,b,c,d,e,f] 0 [x,y,z,u,v,w] κ=κ [x,y,z,u,v,w]:=rfl
def Gj(xs:List Pa)(p:Nat)(hp:p<=100)(o v1 v2 s1 s2:Nat)(hl:xs.length<2^62)(n1:v1≠o)(n2:v2≠o):∀(pre suf:List Pa) (st d:Nat) (H:DH),H[o]? = some (.cells st [.i (d:Nat)])->H[v1]? = some (.cells s1 [.ptr o 0])->H[v2]? = some (.cells s2 [.i p])->xs=pre++suf->Pa.oks suf ->
 ∃ st',ac au 301 200006 [.g (.ptr v1 0),.g (.ptr v2 0),.g (.row 3 (cG xs)),.n xs.length,.n pre.length] [] H=ret (.tuple []) (H.set o (.cells st' [.i (max d (jV suf (p+1)):Nat)]))
 |pre,[],st,d,H,ho,a,b,e,_=>by
  have e2:xs.length=pre.length:=by rw[e];simp
  refine⟨st,aW (wU) ?_⟩;simp_all[akg,jV,aon,gB]
 |pre,t::suf,st,d,H,ho,a,b,e,h=>by
  simp only[Pa.oks]at h;have hi:pre.length<xs.length:=by rw[e];simp
  have j:decide ((pre.length:Int)<(xs.length:Int))=true:=by simp;exact hi
  have f:(cG xs)[pre.length]? = some (eY t):=by rw[e];exact jb _ _ _
  obtain⟨iD,hc⟩:=Qw t (p+1) d st o H ho h.1 (by omega);obtain⟨st',ih⟩:=Gj xs p hp o v1 v2 s1 s2 hl n1 n2 (pre++[t]) suf iD (max d (DS t (p+1))) (H.set o (.cells iD [.i (max d (DS t (p+1)):Nat)])) (ba _ ho) (ax _ n1.symm a) (ax _ n2.symm b) (by rw[e];simp) h.2;refine⟨st',aW (wU) ?_⟩;have c:jV (t::suf) (p+1)=max (DS t (p+1)) (jV suf (p+1)):=by rw[jV]
  rw[c,<- aoj];generalize DS t (p+1)=q at hc ih ⊢;obtain⟨tk,tn,tas⟩:=t;simp only[eY]at f hc;simp only[abg,abf,agd]at ih;simp only[j,ge,jK u84 YA f,PN,Im,YU,ae a,ae b,ai,aw,bR,aE (show p<2^62 by omega),am hc,aE (show pre.length<2^62 by omega)];exact ih
mutual
def If:∀(t:Ex) (p d st o:Nat) (H:DH),H[o]? = some (.cells st [.i (d:Nat)])->t.ok->p<=101 ->
 ∃ st',aq 244 [.ptr o 0,.agg (cT t),.i p] H=ret (.tuple []) (H.set o (.cells st' [.i (max d (Ey t p):Nat)]))
 |.mk k m n b xs ps,p,d,st,o,H,ho,h,hp=>by
  simp only[Ex.ok]at h;have hlt:=dl ho;have f:((H++[cY o])++[DB.cells 0 (cT (.mk k m n b xs ps))]++[jv p])[H.length]? = some (.cells 0 [.ptr o 0]):=aD _ (aD _ (be _ _));have g:((H++[cY o])++[DB.cells 0 (cT (.mk k m n b xs ps))]++[jv p])[(H++[cY o]).length]? = some (.cells 0 (cT (.mk k m n b xs ps))):=aD _ (be _ _);have j:((H++[cY o])++[DB.cells 0 (cT (.mk k m n b xs ps))]++[jv p])[((H++[cY o])++[DB.cells 0 (cT (.mk k m n b xs ps))]).length]? = some (.cells 0 [.i p]):=be _ _;have e:((H++[cY o])++[DB.cells 0 (cT (.mk k m n b xs ps))]++[jv p])[o]? = some (.cells st [.i (d:Nat)]):=aD _ (aD _ (aD _ ho));have l:(H++[cY o])++[DB.cells 0 (cT (.mk k m n b xs ps))]++[jv p]=H++([cY o]++[DB.cells 0 (cT (.mk k m n b xs ps))]++[jv p]):=by simp only[ajL]
  have n1:(H++[cY o]).length≠o:=by simp;omega
  have n2:H.length≠o:=by omega
  have n3:((H++[cY o])++[DB.cells 0 (cT (.mk k m n b xs ps))]).length≠o:=by simp;omega
  have hb:aV bF 301=true:=by kernel_rfl
  have nd:=Mq (p:=p) 301 [.ptr (H++[cY o]).length 0,.ptr H.length 0,.ptr ((H++[cY o])++[DB.cells 0 (cT (.mk k m n b xs ps))]).length 0] hb e;generalize hG:(H++[cY o])++[DB.cells 0 (cT (.mk k m n b xs ps))]++[jv p]=G at f g j e l nd;have a:∃ st',aq 299 [.ptr o 0,.i p,.func 301 [] [.ptr (H++[cY o]).length 0,.ptr H.length 0,.ptr ((H++[cY o])++[DB.cells 0 (cT (.mk k m n b xs ps))]).length 0]] G=ret (.tuple []) (G.set o (.cells st' [.i (max d (Ey (.mk k m n b xs ps) p):Nat)])):=by
   cases q:decide (p<=100)with
   |false =>grind [Ey]
   |true =>
    have c:p<=100:=by simpa using q
    obtain⟨st',hl⟩:=KF k m n b xs ps 0 xs p c o (H++[cY o]).length H.length ((H++[cY o])++[DB.cells 0 (cT (.mk k m n b xs ps))]).length 0 0 _ (λst d H r s u _=>Gj ps p c o _ _ 0 0 h.2.2.1 n2 n3 [] ps st d H r s u rfl h.2.2.2) h.1 n2 n3 n1 [] xs (st+1) (max d p) (G.set o (.cells (st+1) [.i (max d p:Nat)])) (ba _ e) (ax _ n2.symm f) (ax _ n3.symm j) (ax _ n1.symm g) rfl h.2.1;refine⟨st',?_⟩;have hc:aq 301 [.ptr (H++[cY o]).length 0,.ptr H.length 0,.ptr ((H++[cY o])++[DB.cells 0 (cT (.mk k m n b xs ps))]).length 0] (G.set o (.cells (st+1) [.i (max d p:Nat)]))=ret (.tuple []) (G.set o (.cells st' [.i (max d (Ey (.mk k m n b xs ps) p):Nat)])):=by
     refine ev (alM) ?_
     grind [ae,ax,cT,ai,aw,dR,u83,bV,List.set_set,Ey,iE,jV]
    grind [am]
  obtain⟨st',hf⟩:=a;refine⟨st',ev (by simp only[cT];exact f244) ?_⟩
  grind [cT,ae,ai,am,lZ,DB.bel,eB,D.bel]
def KF(zk zm:Int)(zn za:af)(zx:List Ex)(zp:List Pa)(s0:Nat)(xs:List Ex)(p:Nat)(hp:p<=100)(o a v1 v2 s1 s2:Nat)(X:Nat)(j:∀(st d:Nat) (H:DH),H[o]? = some (.cells st [.i (d:Nat)])->H[v1]? = some (.cells s1 [.ptr o 0])->H[v2]? = some (.cells s2 [.i p])->H[a]? = some (.cells s0 (cT (.mk zk zm zn za zx zp)))->∃ st',ac au 301 200006 [.g (.ptr v1 0),.g (.ptr v2 0),.g (.row 3 (cG zp)),.n zp.length,.n 0] [] H=ret (.tuple []) (H.set o (.cells st' [.i (max d X:Nat)])))(hl:xs.length<2^62)(n1:v1≠o)(n2:v2≠o)(n0:a≠o):∀(pre suf:List Ex) (st d:Nat) (H:DH),H[o]? = some (.cells st [.i (d:Nat)])->H[v1]? = some (.cells s1 [.ptr o 0])->H[v2]? = some (.cells s2 [.i p])->H[a]? = some (.cells s0 (cT (.mk zk zm zn za zx zp)))->xs=pre++suf->Ex.oks suf ->
 ∃ st',ac au 301 200001 [.g (.ptr a 0),.g (.ptr v1 0),.g (.ptr v2 0),.g (.row 6 (cu xs)),.n xs.length,.n pre.length] [] H=ret (.tuple []) (H.set o (.cells st' [.i (max (max d (iE suf (p+1))) X:Nat)]))
 |pre,[],st,d,H,ho,b,c,h0,e,_=>by
  have l:xs.length=pre.length:=by rw[e];simp
  obtain⟨st',m⟩:=j st d H ho b c h0;refine⟨st',aW (wV) ?_⟩;simp only[cT]at h0;simp only[l,akg,anM,Xi,iE,aon,ae h0,ai,aw,dR u84,cm,m]
 |pre,t::suf,st,d,H,ho,b,c,h0,e,h=>by
  simp only[Ex.oks]at h;have hi:pre.length<xs.length:=by rw[e];simp
  have r:decide ((pre.length:Int)<(xs.length:Int))=true:=by simp;exact hi
  have k:(cu xs)[pre.length]? = some (cT t):=by rw[e];exact je _ _ _
  obtain⟨iD,hc⟩:=If t (p+1) d st o H ho h.1 (by omega);obtain⟨st',ih⟩:=KF zk zm zn za zx zp s0 xs p hp o a v1 v2 s1 s2 X j hl n1 n2 n0 (pre++[t]) suf iD (max d (Ey t (p+1))) (H.set o (.cells iD [.i (max d (Ey t (p+1)):Nat)])) (ba _ ho) (ax _ n1.symm b) (ax _ n2.symm c) (ax _ n0.symm h0) (by rw[e];simp) h.2;refine⟨st',aW (wV) ?_⟩;have f:iE (t::suf) (p+1)=max (Ey t (p+1)) (iE suf (p+1)):=by rw[iE]
  rw[f,<- aoj d];generalize Ey t (p+1)=q at hc ih ⊢;obtain⟨tk,tm,tn,ta,tas,tps⟩:=t;simp only[cT]at k hc;simp only[abg,abf,agd]at ih;simp only[r,ge,jK u83 s86 k,VL,Xg,agQ,ae b,ae c,ai,aw,bR,aE (show p<2^62 by omega),am hc,aE (show pre.length<2^62 by omega)];exact ih
end
def PV(a:Nat):decide ((a:Int)>2000)=decide (a>2000):=by rw[ajF];simp;omega
theorem PU(a:Nat):decide ((a:Int)<=2000)=decide (a<=2000):=by rw[ajF];simp;omega
mutual
def BB:Ty->Nat->Nat
 |.mk _ xs,p=>bif decide (p>100)then 0 else 1+dS xs (p+1)
def dS:List Ty->Nat->Nat
 |[],_=>0
 |t::r,q=>BB t q+dS r q
end
mutual
def DR:Pa->Nat->Nat
 |.mk _ _ xs,p=>bif decide (p>100)then 0 else 1+fG xs (p+1)
def fG:List Pa->Nat->Nat
 |[],_=>0
 |t::r,q=>DR t q+fG r q
end
mutual
def yP:Ex->Nat->Nat
 |.mk _ _ _ _ xs ps,p=>bif decide (p>100)then 0 else 1+(fG ps (p+1)+eV xs (p+1))
def eV:List Ex->Nat->Nat
 |[],_=>0
 |t::r,q=>yP t q+eV r q
end
mutual
def TS:∀(t:Ty) (p c:Nat) (H:DH),t.ok->p<=101->c<=2001->aq 123 [.agg (dL t),.i p,.i c] H=ret (.i (min (c+BB t p) 2001:Nat)) H
 |.mk n xs,p,c,H,h,hp,hc=>by
  simp only[Ty.ok]at h;refine ev (by simp only[dL];exact ana) ?_;rw[MX,PV,BB];cases d:decide (p>100)with
  |true=>rw[ge,ge,show min (c+0) 2001=c by omega]
  |false =>
   have a:p<=100:=by simp at d;omega
   rw[Xi,Xi];cases b:decide (c>2000)with
   |true =>grind
   |false =>
    have hc2:¬ c>2000:=by simpa using b
    rw[Xi,aE (show c<2^62 by omega)];refine(OC n xs p a H h.1 [] xs (c+1) rfl h.2 (by omega)).trans ?_
    grind
def OC(n:af)(xs:List Ty)(p:Nat)(hp:p<=100)(H:DH)(hl:xs.length<2^62):∀ pre suf (c:Nat),xs=pre++suf->Ty.oks suf->c<=2001 ->
 ac au 123 200005 [.n p,.n c,.lp 0 0,.n pre.length] [(0,[.str n,.row 2 (cE xs)])] H=ret (.i (min (c+dS suf (p+1)) 2001:Nat)) H
 |pre,[],c,e,_,hc=>by
  have e2:xs.length=pre.length:=by rw[e];simp
  refine aW (ya) ?_;simp_all[bU,dS]
 |pre,t::suf,c,e,h,hc=>by
  simp only[Ty.oks]at h;refine aW (ya) ?_;have hi:pre.length<xs.length:=by rw[e];simp
  have h1:decide ((pre.length:Int)<((cE xs).length:Int))=true:=by rw[bU];simp;exact hi
  have h2:(cE xs)[pre.length]? = some (dL t):=by rw[e];exact hQ _ _ _
  have b:=TS t (p+1) c H h.1 (by omega) hc;have ih:=OC n xs p hp H hl (pre++[t]) suf (min (c+BB t (p+1)) 2001) (by rw[e];simp) h.2 (by omega);have a:dS (t::suf) (p+1)=BB t (p+1)+dS suf (p+1):=by rw[dS]
  rw[a];generalize BB t (p+1)=q at b ih ⊢;generalize dS suf (p+1)=r at ih ⊢;obtain⟨tn,tas⟩:=t
  grind [dL,List.length_singleton,PU,aI,ak,ai,aw,aE,am]
end
mutual
def TT:∀(t:Pa) (p c:Nat) (H:DH),t.ok->p<=101->c<=2001->aq 194 [.agg (eY t),.i p,.i (c:Nat)] H=ret (.i (min (c+DR t p) 2001:Nat)) H
 |.mk k n xs,p,c,H,h,hp,hc=>by
  simp only[Pa.ok]at h;refine ev (by simp only[eY];exact amv) ?_;rw[MX,PV,DR];cases e:decide (p>100)with
  |true=>rw[ge,ge,show min (c+0) 2001=c by omega]
  |false =>
   have b:p<=100:=by simp at e;omega
   rw[Xi,Xi];cases a:decide (c>2000)with
   |true =>
    have d:c>2000:=by simpa using a
    rw[ge,show min (c+(1+fG xs (p+1))) 2001=c by omega]
   |false =>
    have d:¬ c>2000:=by simpa using a
    rw[Xi,aE (show c<2^62 by omega)];refine(OD k n xs p b H h.1 [] xs (c+1) rfl h.2 (by omega)).trans ?_;rw[show min (c+(1+fG xs (p+1))) 2001=min (c+1+fG xs (p+1)) 2001 by omega]
def OD(k:Int)(n:af)(xs:List Pa)(p:Nat)(hp:p<=100)(H:DH)(hl:xs.length<2^62):∀ pre suf (c:Nat),xs=pre++suf->Pa.oks suf->c<=2001 ->
 ac au 194 200005 [.n p,.n (c:Nat),.lp 0 0,.n pre.length] [(0,[.i k,.str n,.row 3 (cG xs)])] H=ret (.i (min (c+fG suf (p+1)) 2001:Nat)) H
 |pre,[],c,e,_,hc=>by
  have g:xs.length=pre.length:=by rw[e];simp
  refine aW (xw) ?_;simp only[cm,g,akg,anM,Xi,fG,show min (c+0) 2001=c by omega]
 |pre,t::suf,c,e,h,hc=>by
  simp only[Pa.oks]at h;refine aW (xw) ?_;have hi:pre.length<xs.length:=by rw[e];simp
  have j:decide ((pre.length:Int)<((cG xs).length:Int))=true:=by rw[cm];simp;exact hi
  have f:(cG xs)[pre.length]? = some (eY t):=by rw[e];exact jb _ _ _
  have a:=TT t (p+1) c H h.1 (by omega) hc;have ih:=OD k n xs p hp H hl (pre++[t]) suf (min (c+DR t (p+1)) 2001) (by rw[e];simp) h.2 (by omega);have b:fG (t::suf) (p+1)=DR t (p+1)+fG suf (p+1):=by rw[fG]
  rw[b];generalize DR t (p+1)=q at a ih ⊢;generalize fG suf (p+1)=r at ih ⊢;obtain⟨tk,tn,tas⟩:=t;simp only[eY]at a f;simp only[abg,abf]at ih;rw[j,ge,PU];cases d:decide (c<=2000)with
  |false =>
   have hc2:¬ c<=2000:=by simpa using d
   rw[Xi,show min (c+(q+r)) 2001=c by omega]
  |true =>simp only[ge,aI,ak f,ai,aw,aE (show p<2^62 by omega),am a,aE (show pre.length<2^62 by omega),ih];rw[show min (min (c+q) 2001+r) 2001=min (c+(q+r)) 2001 by omega]
end
def OF(k m:Int)(n b:af)(XX:List Ex)(ps:List Pa)(p:Nat)(hp:p<=100)(H:DH)(hl:ps.length<2^62)(X:Nat)(a:∀ c:Nat,c<=2001->ac au 124 200009 [.n p,.n (c:Nat),.lp 0 0,.n 0] [(0,(xE k m n b (cu XX) (cG ps)))] H=ret (.i (min (c+X) 2001:Nat)) H):∀ pre suf (c:Nat),ps=pre++suf->Pa.oks suf->c<=2001 ->
 ac au 124 200005 [.n p,.n (c:Nat),.lp 0 0,.n pre.length] [(0,(xE k m n b (cu XX) (cG ps)))] H=ret (.i (min (c+(fG suf (p+1)+X)) 2001:Nat)) H
 |pre,[],c,e,_,hc=>by
  have l:ps.length=pre.length:=by rw[e];simp
  refine aW (xZ) ?_;simp only[cm,l,akg,anM,Xi,fG,afY,a c hc]
 |pre,t::suf,c,e,h,hc=>by
  simp only[Pa.oks]at h;refine aW (xZ) ?_;have hi:pre.length<ps.length:=by rw[e];simp
  have o:decide ((pre.length:Int)<((cG ps).length:Int))=true:=by rw[cm];simp;exact hi
  have j:(cG ps)[pre.length]? = some (eY t):=by rw[e];exact jb _ _ _
  have d:=TT t (p+1) c H h.1 (by omega) hc;have ih:=OF k m n b XX ps p hp H hl X a (pre++[t]) suf (min (c+DR t (p+1)) 2001) (by rw[e];simp) h.2 (by omega);have f:fG (t::suf) (p+1)=DR t (p+1)+fG suf (p+1):=by rw[fG]
  rw[f];generalize DR t (p+1)=q at d ih ⊢;generalize fG suf (p+1)=r at ih ⊢;obtain⟨tk,tn,tas⟩:=t;simp only[eY]at d j;simp only[abg,abf]at ih;rw[o,ge,PU];cases g:decide (c<=2000)with
  |false =>
   have hc2:¬ c<=2000:=by simpa using g
   rw[Xi,a c hc,show min (c+X) 2001=c by omega,show min (c+(q+r+X)) 2001=c by omega]
  |true =>simp only[ge,aI,ak j,ai,aw,aE (show p<2^62 by omega),am d,aE (show pre.length<2^62 by omega),ih];rw[show min (min (c+q) 2001+(r+X)) 2001=min (c+(q+r+X)) 2001 by omega]
mutual
def TU:∀(t:Ex) (p c:Nat) (H:DH),t.ok->p<=101->c<=2001->aq 124 [.agg (cT t),.i p,.i (c:Nat)] H=ret (.i (min (c+yP t p) 2001:Nat)) H
 |.mk k m n b xs ps,p,c,H,h,hp,hc=>by
  simp only[Ex.ok]at h;refine ev (by simp only[cT];exact amZ) ?_;rw[MX,PV,yP];cases f:decide (p>100)with
  |true=>rw[ge,ge,show min (c+0) 2001=c by omega]
  |false =>
   have a:p<=100:=by simp at f;omega
   rw[Xi,Xi];cases d:decide (c>2000)with
   |true =>
    have e:c>2000:=by simpa using d
    rw[ge,show min (c+(1+(fG ps (p+1)+eV xs (p+1)))) 2001=c by omega]
   |false =>
    have e:¬ c>2000:=by simpa using d
    rw[Xi,aE (show c<2^62 by omega)];refine(OF k m n b xs ps p a H h.2.2.1 _ (λc hc=>OE k m n b xs ps p a H h.1 [] xs c rfl h.2.1 hc) [] ps (c+1) rfl h.2.2.2 (by omega)).trans ?_;rw[show min (c+(1+(fG ps (p+1)+eV xs (p+1)))) 2001=min (c+1+(fG ps (p+1)+eV xs (p+1))) 2001 by omega]
def OE(k m:Int)(n b:af)(xs:List Ex)(ps:List Pa)(p:Nat)(hp:p<=100)(H:DH)(hl:xs.length<2^62):∀ pre suf (c:Nat),xs=pre++suf->Ex.oks suf->c<=2001 ->
 ac au 124 200009 [.n p,.n (c:Nat),.lp 0 0,.n pre.length] [(0,(xE k m n b (cu xs) (cG ps)))] H=ret (.i (min (c+eV suf (p+1)) 2001:Nat)) H
 |pre,[],c,e,_,hc=>by
  have j:xs.length=pre.length:=by rw[e];simp
  refine aW (xY) ?_;simp only[bV,j,akg,anM,Xi,eV,show min (c+0) 2001=c by omega]
 |pre,t::suf,c,e,h,hc=>by
  simp only[Ex.oks]at h;refine aW (xY) ?_;have hi:pre.length<xs.length:=by rw[e];simp
  have l:decide ((pre.length:Int)<((cu xs).length:Int))=true:=by rw[bV];simp;exact hi
  have g:(cu xs)[pre.length]? = some (cT t):=by rw[e];exact je _ _ _
  have a:=TU t (p+1) c H h.1 (by omega) hc;have ih:=OE k m n b xs ps p hp H hl (pre++[t]) suf (min (c+yP t (p+1)) 2001) (by rw[e];simp) h.2 (by omega);have d:eV (t::suf) (p+1)=yP t (p+1)+eV suf (p+1):=by rw[eV]
  rw[d];generalize yP t (p+1)=q at a ih ⊢;generalize eV suf (p+1)=r at ih ⊢;obtain⟨tk,tm,tn,tb,tas,tps⟩:=t;simp only[cT]at a g;simp only[abg,abf]at ih;rw[l,ge,PU];cases f:decide (c<=2000)with
  |false =>
   have hc2:¬ c<=2000:=by simpa using f
   rw[Xi,show min (c+(q+r)) 2001=c by omega]
  |true =>simp only[ge,aI,ak g,ai,aw,aE (show p<2^62 by omega),am a,aE (show pre.length<2^62 by omega),ih];rw[show min (min (c+q) 2001+r) 2001=min (c+(q+r)) 2001 by omega]
end
def Mp{H:DH}{o st c d p:Nat}(g:FuncId)(cap:List D)(hb:aV bF g=true)(ho:H[o]? = some (.cells st [.i c,.i d]))(hc:c<=2001) :
 aq 303 [.ptr o 0,.i p,.func g [] cap] H=bif decide (p>100)||decide (c>2000)then ret (.tuple []) (H.set o (.cells (st+1) [.i c,.i (max d p:Nat)]))else C au g cap (H.set o (.cells (st+1+1) [.i (c+1:Nat),.i (max d p:Nat)])) (λ_ H=>ret (.tuple []) H):=by
 refine ev (alK) ?_;have a:(H.set o (.cells (st+1) [.i c,.i (max d p:Nat)]))[o]? = some (.cells (st+1) [.i c,.i (max d p:Nat)]):=ba _ ho;have ow (x:D) (κ:List D->av):aC [.i c,.i d] 1 [x] κ=κ [.i c,x]:=rfl;have ow2 (x:D) (κ:List D->av):aC [.i c,.i (max d p:Nat)] 0 [x] κ=κ [x,.i (max d p:Nat)]:=rfl;have c1 (k:Int) (κ:List D->av):aj 1 (.i k) κ=κ [.i k]:=rfl;simp only[ae ho,ai,aw,wu,oW,wx,c1,ow,MX,ae a,er,PV,ao,bR,ow2,agd,bZ hb,agc,aE (show c<2^62 by omega)];cases decide (p>100)<;>cases decide (c>2000)<;>rfl
mutual
def LB:∀(t:Ty) (p c d st o:Nat) (H:DH),H[o]? = some (.cells st [.i c,.i d])->t.ok->p<=101->c<=2001 ->
 ∃ st' a,aq 245 [.ptr o 0,.agg (dL t),.i p] H=ret (.tuple []) (H.set o (.cells st' [.i (min (c+BB t p) 2001:Nat),.i (a:Nat)]))
 |.mk n xs,p,c,d,st,o,H,ho,h,hp,hc=>by
  simp only[Ty.ok]at h;have l:=dl ho;have j:((H++[cY o])++[DB.cells 0 (dL (.mk n xs))]++[jv p])[H.length]? = some (.cells 0 [.ptr o 0]):=aD _ (aD _ (be _ _));have s:((H++[cY o])++[DB.cells 0 (dL (.mk n xs))]++[jv p])[(H++[cY o]).length]? = some (.cells 0 (dL (.mk n xs))):=aD _ (be _ _);have k:((H++[cY o])++[DB.cells 0 (dL (.mk n xs))]++[jv p])[((H++[cY o])++[DB.cells 0 (dL (.mk n xs))]).length]? = some (.cells 0 [.i p]):=be _ _;have m:((H++[cY o])++[DB.cells 0 (dL (.mk n xs))]++[jv p])[o]? = some (.cells st [.i c,.i d]):=aD _ (aD _ (aD _ ho));have u:(H++[cY o])++[DB.cells 0 (dL (.mk n xs))]++[jv p]=H++([cY o]++[DB.cells 0 (dL (.mk n xs))]++[jv p]):=by simp only[ajL]
  have n1:(H++[cY o]).length≠o:=by simp;omega
  have n2:H.length≠o:=by omega
  have n3:((H++[cY o])++[DB.cells 0 (dL (.mk n xs))]).length≠o:=by simp;omega
  have hb:aV bF 304=true:=by kernel_rfl
  have nd:=Mp (p:=p) 304 [.ptr (H++[cY o]).length 0,.ptr H.length 0,.ptr ((H++[cY o])++[DB.cells 0 (dL (.mk n xs))]).length 0] hb m hc;generalize v:(H++[cY o])++[DB.cells 0 (dL (.mk n xs))]++[jv p]=G at j s k m u nd;have e:∃ st' a,aq 303 [.ptr o 0,.i p,.func 304 [] [.ptr (H++[cY o]).length 0,.ptr H.length 0,.ptr ((H++[cY o])++[DB.cells 0 (dL (.mk n xs))]).length 0]] G=ret (.tuple []) (G.set o (.cells st' [.i (min (c+BB (.mk n xs) p) 2001:Nat),.i (a:Nat)])):=by
   cases f:decide (p>100)||decide (c>2000)with
   |true =>
    refine⟨st+1,max d p,?_⟩;rw[nd,f,ge,BB];cases b:decide (p>100)with
    |true=>rw[ge,show min (c+0) 2001=c by omega]
    |false =>
     rw[b,aop]at f;have q:c>2000:=by simpa using f
     rw[Xi,show min (c+(1+dS xs (p+1))) 2001=c by omega]
   |false =>
    obtain⟨g,b⟩:=aow.mp f;have r:p<=100:=by
     have:¬ p>100:=by simpa using g
     omega
    have q:¬ c>2000:=by simpa using b
    obtain⟨st',a,hl⟩:=Of xs p r o H.length ((H++[cY o])++[DB.cells 0 (dL (.mk n xs))]).length 0 0 h.1 n2 n3 [] xs (st+1+1) (c+1) (max d p) (G.set o (.cells (st+1+1) [.i (c+1:Nat),.i (max d p:Nat)])) (ba _ m) (ax _ n2.symm j) (ax _ n3.symm k) rfl h.2 (by omega);refine⟨st',a,?_⟩;have hc:aq 304 [.ptr (H++[cY o]).length 0,.ptr H.length 0,.ptr ((H++[cY o])++[DB.cells 0 (dL (.mk n xs))]).length 0] (G.set o (.cells (st+1+1) [.i (c+1:Nat),.i (max d p:Nat)]))=ret (.tuple []) (G.set o (.cells st' [.i (min (c+BB (.mk n xs) p) 2001:Nat),.i (a:Nat)])):=by refine ev (alJ) ?_;rw[ae (ax _ n1.symm s)];simp only[dL,ai,aw,dR lY,bU];refine aoQ hl ?_;rw[agd,BB,g,Xi,show min (c+1+dS xs (p+1)) 2001=min (c+(1+dS xs (p+1))) 2001 by omega]
    rw[nd,f,Xi,am hc]
  obtain⟨st',a,w⟩:=e;refine⟨st',a,ev (by simp only[dL];exact f245) ?_⟩;simp only[dL]at v j k w ⊢;show bj H (aB ((H++[cY o])++[DB.cells 0 [.str n,.row 2 (cE xs)]]++[jv p]) H.length _)=_;rw[v,ae j];simp only[ai];rw[ae k];simp only[ai];rw[am w];rw[u];exact lZ l (by simp[DB.bel,eB,D.bel])
def Of(xs:List Ty)(p:Nat)(hp:p<=100)(o v1 v2 s1 s2:Nat)(hl:xs.length<2^62)(n1:v1≠o)(n2:v2≠o):∀(pre suf:List Ty) (st c d:Nat) (H:DH),H[o]? = some (.cells st [.i c,.i d])->H[v1]? = some (.cells s1 [.ptr o 0])->H[v2]? = some (.cells s2 [.i p])->xs=pre++suf->Ty.oks suf->c<=2001 ->
 ∃ st' a,ac au 304 200001 [.g (.ptr v1 0),.g (.ptr v2 0),.g (.row 2 (cE xs)),.n xs.length,.n pre.length] [] H=ret (.tuple []) (H.set o (.cells st' [.i (min (c+dS suf (p+1)) 2001:Nat),.i (a:Nat)]))
 |pre,[],st,c,d,H,ho,b,f,e,_,hc=>by
  have r:xs.length=pre.length:=by rw[e];simp
  refine⟨st,d,aW (wT) ?_⟩;simp only[r,akg,anM,Xi,dS,show min (c+0) 2001=c by omega,gB ho]
 |pre,t::suf,st,c,d,H,ho,b,f,e,h,j=>by
  simp only[Ty.oks]at h;have hi:pre.length<xs.length:=by rw[e];simp
  have s:decide ((pre.length:Int)<(xs.length:Int))=true:=by simp;exact hi
  have l:(cE xs)[pre.length]? = some (dL t):=by rw[e];exact hQ _ _ _
  obtain⟨iD,m,hc⟩:=LB t (p+1) c d st o H ho h.1 (by omega) j;obtain⟨st',a,ih⟩:=Of xs p hp o v1 v2 s1 s2 hl n1 n2 (pre++[t]) suf iD (min (c+BB t (p+1)) 2001) m (H.set o (.cells iD [.i (min (c+BB t (p+1)) 2001:Nat),.i m])) (ba _ ho) (ax _ n1.symm b) (ax _ n2.symm f) (by rw[e];simp) h.2 (by omega);refine⟨st',a,aW (wT) ?_⟩;have k:min (c+dS (t::suf) (p+1)) 2001=min (min (c+BB t (p+1)) 2001+dS suf (p+1)) 2001:=by rw[dS];omega
  rw[k];generalize BB t (p+1)=q at hc ih ⊢;obtain⟨tn,tas⟩:=t;simp only[dL]at l hc;simp only[abg,abf,agd]at ih;simp only[s,ge,jK lY Jd l,ww,Dk,YV,ae b,ae f,ai,aw,bR,aE (show p<2^62 by omega),am hc,aE (show pre.length<2^62 by omega)];exact ih
end
mutual
def Tx:∀(t:Pa) (p c d st o:Nat) (H:DH),H[o]? = some (.cells st [.i (c:Nat),.i (d:Nat)])->t.ok->p<=101->c<=2001 ->
 ∃ st' a,aq 306 [.ptr o 0,.agg (eY t),.i p] H=ret (.tuple []) (H.set o (.cells st' [.i (min (c+DR t p) 2001:Nat),.i (a:Nat)]))
 |.mk k n xs,p,c,d,st,o,H,ho,h,hp,hc=>by
  simp only[Pa.ok]at h;have m:=dl ho;have j:((H++[cY o])++[DB.cells 0 (eY (.mk k n xs))]++[jv p])[H.length]? = some (.cells 0 [.ptr o 0]):=aD _ (aD _ (be _ _));have u:((H++[cY o])++[DB.cells 0 (eY (.mk k n xs))]++[jv p])[(H++[cY o]).length]? = some (.cells 0 (eY (.mk k n xs))):=aD _ (be _ _);have l:((H++[cY o])++[DB.cells 0 (eY (.mk k n xs))]++[jv p])[((H++[cY o])++[DB.cells 0 (eY (.mk k n xs))]).length]? = some (.cells 0 [.i p]):=be _ _;have q:((H++[cY o])++[DB.cells 0 (eY (.mk k n xs))]++[jv p])[o]? = some (.cells st [.i (c:Nat),.i (d:Nat)]):=aD _ (aD _ (aD _ ho));have v:(H++[cY o])++[DB.cells 0 (eY (.mk k n xs))]++[jv p]=H++([cY o]++[DB.cells 0 (eY (.mk k n xs))]++[jv p]):=by simp only[ajL]
  have n1:(H++[cY o]).length≠o:=by simp;omega
  have n2:H.length≠o:=by omega
  have n3:((H++[cY o])++[DB.cells 0 (eY (.mk k n xs))]).length≠o:=by simp;omega
  have hb:aV bF 331=true:=by kernel_rfl
  have nd:=Mp (p:=p) 331 [.ptr (H++[cY o]).length 0,.ptr H.length 0,.ptr ((H++[cY o])++[DB.cells 0 (eY (.mk k n xs))]).length 0] hb q hc;generalize w:(H++[cY o])++[DB.cells 0 (eY (.mk k n xs))]++[jv p]=G at j u l q v nd;have e:∃ st' a,aq 303 [.ptr o 0,.i p,.func 331 [] [.ptr (H++[cY o]).length 0,.ptr H.length 0,.ptr ((H++[cY o])++[DB.cells 0 (eY (.mk k n xs))]).length 0]] G=ret (.tuple []) (G.set o (.cells st' [.i (min (c+DR (.mk k n xs) p) 2001:Nat),.i (a:Nat)])):=by
   cases f:decide (p>100)||decide (c>2000)with
   |true =>
    refine⟨st+1,max d p,?_⟩;rw[nd,f,ge,DR];cases b:decide (p>100)with
    |true=>rw[ge,show min (c+0) 2001=c by omega]
    |false =>
     rw[b,aop]at f;have r:c>2000:=by simpa using f
     rw[Xi,show min (c+(1+fG xs (p+1))) 2001=c by omega]
   |false =>
    obtain⟨g,b⟩:=aow.mp f;have s:p<=100:=by
     have:¬ p>100:=by simpa using g
     omega
    have r:¬ c>2000:=by simpa using b
    obtain⟨st',a,hl⟩:=Og xs p s o H.length ((H++[cY o])++[DB.cells 0 (eY (.mk k n xs))]).length 0 0 h.1 n2 n3 [] xs (st+1+1) (c+1) (max d p) (G.set o (.cells (st+1+1) [.i (c+1:Nat),.i (max d p:Nat)])) (ba _ q) (ax _ n2.symm j) (ax _ n3.symm l) rfl h.2 (by omega);refine⟨st',a,?_⟩;have hc:aq 331 [.ptr (H++[cY o]).length 0,.ptr H.length 0,.ptr ((H++[cY o])++[DB.cells 0 (eY (.mk k n xs))]).length 0] (G.set o (.cells (st+1+1) [.i (c+1:Nat),.i (max d p:Nat)]))=ret (.tuple []) (G.set o (.cells st' [.i (min (c+DR (.mk k n xs) p) 2001:Nat),.i (a:Nat)])):=by refine ev (alu) ?_;rw[ae (ax _ n1.symm u)];simp only[eY,ai,aw,dR u84,cm];refine aoQ hl ?_;rw[agd,DR,g,Xi,show min (c+1+fG xs (p+1)) 2001=min (c+(1+fG xs (p+1))) 2001 by omega]
    rw[nd,f,Xi,am hc]
  obtain⟨st',a,x⟩:=e;refine⟨st',a,ev (by simp only[eY];exact alH) ?_⟩;simp only[eY]at w j l x ⊢;show bj H (aB ((H++[cY o])++[DB.cells 0 [.i k,.str n,.row 3 (cG xs)]]++[jv p]) H.length _)=_;rw[w,ae j];simp only[ai];rw[ae l];simp only[ai];rw[am x];rw[v];exact lZ m (by simp[DB.bel,eB,D.bel])
def Og(xs:List Pa)(p:Nat)(hp:p<=100)(o v1 v2 s1 s2:Nat)(hl:xs.length<2^62)(n1:v1≠o)(n2:v2≠o):∀(pre suf:List Pa) (st c d:Nat) (H:DH),H[o]? = some (.cells st [.i (c:Nat),.i (d:Nat)])->H[v1]? = some (.cells s1 [.ptr o 0])->H[v2]? = some (.cells s2 [.i p])->xs=pre++suf->Pa.oks suf->c<=2001 ->
 ∃ st' a,ac au 331 200001 [.g (.ptr v1 0),.g (.ptr v2 0),.g (.row 3 (cG xs)),.n xs.length,.n pre.length] [] H=ret (.tuple []) (H.set o (.cells st' [.i (min (c+fG suf (p+1)) 2001:Nat),.i (a:Nat)]))
 |pre,[],st,c,d,H,ho,b,f,e,_,hc=>by
  have r:xs.length=pre.length:=by rw[e];simp
  refine⟨st,d,aW (wM) ?_⟩;simp only[r,akg,anM,Xi,fG,show min (c+0) 2001=c by omega,gB ho]
 |pre,t::suf,st,c,d,H,ho,b,f,e,h,j=>by
  simp only[Pa.oks]at h;have hi:pre.length<xs.length:=by rw[e];simp
  have s:decide ((pre.length:Int)<(xs.length:Int))=true:=by simp;exact hi
  have l:(cG xs)[pre.length]? = some (eY t):=by rw[e];exact jb _ _ _
  obtain⟨iD,m,hc⟩:=Tx t (p+1) c d st o H ho h.1 (by omega) j;obtain⟨st',a,ih⟩:=Og xs p hp o v1 v2 s1 s2 hl n1 n2 (pre++[t]) suf iD (min (c+DR t (p+1)) 2001) m (H.set o (.cells iD [.i (min (c+DR t (p+1)) 2001:Nat),.i m])) (ba _ ho) (ax _ n1.symm b) (ax _ n2.symm f) (by rw[e];simp) h.2 (by omega);refine⟨st',a,aW (wM) ?_⟩;have k:min (c+fG (t::suf) (p+1)) 2001=min (min (c+DR t (p+1)) 2001+fG suf (p+1)) 2001:=by rw[fG];omega
  rw[k];generalize DR t (p+1)=q at hc ih ⊢;obtain⟨tk,tn,tas⟩:=t;simp only[eY]at l hc;simp only[abg,abf,agd]at ih;simp only[s,ge,jK u84 YA l,PN,Im,YU,ae b,ae f,ai,aw,bR,aE (show p<2^62 by omega),am hc,aE (show pre.length<2^62 by omega)];exact ih
end
def IR(xs:List Pa)(p:Nat)(hp:p<=100)(o v1 v2 s1 s2:Nat)(hl:xs.length<2^62)(n1:v1≠o)(n2:v2≠o):∀(pre suf:List Pa) (st c d:Nat) (H:DH),H[o]? = some (.cells st [.i (c:Nat),.i (d:Nat)])->H[v1]? = some (.cells s1 [.ptr o 0])->H[v2]? = some (.cells s2 [.i p])->xs=pre++suf->Pa.oks suf->c<=2001 ->
 ∃ st' a,ac au 305 200006 [.g (.ptr v1 0),.g (.ptr v2 0),.g (.row 3 (cG xs)),.n xs.length,.n pre.length] [] H=ret (.tuple []) (H.set o (.cells st' [.i (min (c+fG suf (p+1)) 2001:Nat),.i (a:Nat)]))
 |pre,[],st,c,d,H,ho,b,f,e,_,hc=>by
  have r:xs.length=pre.length:=by rw[e];simp
  refine⟨st,d,aW (wR) ?_⟩;simp only[r,akg,anM,Xi,fG,show min (c+0) 2001=c by omega,gB ho]
 |pre,t::suf,st,c,d,H,ho,b,f,e,h,j=>by
  simp only[Pa.oks]at h;have hi:pre.length<xs.length:=by rw[e];simp
  have s:decide ((pre.length:Int)<(xs.length:Int))=true:=by simp;exact hi
  have l:(cG xs)[pre.length]? = some (eY t):=by rw[e];exact jb _ _ _
  obtain⟨iD,m,hc⟩:=Tx t (p+1) c d st o H ho h.1 (by omega) j;obtain⟨st',a,ih⟩:=IR xs p hp o v1 v2 s1 s2 hl n1 n2 (pre++[t]) suf iD (min (c+DR t (p+1)) 2001) m (H.set o (.cells iD [.i (min (c+DR t (p+1)) 2001:Nat),.i m])) (ba _ ho) (ax _ n1.symm b) (ax _ n2.symm f) (by rw[e];simp) h.2 (by omega);refine⟨st',a,aW (wR) ?_⟩;have k:min (c+fG (t::suf) (p+1)) 2001=min (min (c+DR t (p+1)) 2001+fG suf (p+1)) 2001:=by rw[fG];omega
  rw[k];generalize DR t (p+1)=q at hc ih ⊢;obtain⟨tk,tn,tas⟩:=t;simp only[eY]at l hc;simp only[abg,abf,agd]at ih;simp only[s,ge,jK u84 YA l,PN,Im,YU,ae b,ae f,ai,aw,bR,aE (show p<2^62 by omega),am hc,aE (show pre.length<2^62 by omega)];exact ih
mutual
def LC:∀(t:Ex) (p c d st o:Nat) (H:DH),H[o]? = some (.cells st [.i (c:Nat),.i (d:Nat)])->t.ok->p<=101->c<=2001 ->
 ∃ st' a,aq 246 [.ptr o 0,.agg (cT t),.i p] H=ret (.tuple []) (H.set o (.cells st' [.i (min (c+yP t p) 2001:Nat),.i (a:Nat)]))
 |.mk k m n b xs ps,p,c,d,st,o,H,ho,h,hp,hc=>by
  simp only[Ex.ok]at h;have s:=dl ho;have q:((H++[cY o])++[DB.cells 0 (cT (.mk k m n b xs ps))]++[jv p])[H.length]? = some (.cells 0 [.ptr o 0]):=aD _ (aD _ (be _ _));have u:((H++[cY o])++[DB.cells 0 (cT (.mk k m n b xs ps))]++[jv p])[(H++[cY o]).length]? = some (.cells 0 (cT (.mk k m n b xs ps))):=aD _ (be _ _);have r:((H++[cY o])++[DB.cells 0 (cT (.mk k m n b xs ps))]++[jv p])[((H++[cY o])++[DB.cells 0 (cT (.mk k m n b xs ps))]).length]? = some (.cells 0 [.i p]):=be _ _;have v:((H++[cY o])++[DB.cells 0 (cT (.mk k m n b xs ps))]++[jv p])[o]? = some (.cells st [.i (c:Nat),.i (d:Nat)]):=aD _ (aD _ (aD _ ho));have x:(H++[cY o])++[DB.cells 0 (cT (.mk k m n b xs ps))]++[jv p]=H++([cY o]++[DB.cells 0 (cT (.mk k m n b xs ps))]++[jv p]):=by simp only[ajL]
  have n1:(H++[cY o]).length≠o:=by simp;omega
  have n2:H.length≠o:=by omega
  have n3:((H++[cY o])++[DB.cells 0 (cT (.mk k m n b xs ps))]).length≠o:=by simp;omega
  have hb:aV bF 305=true:=by kernel_rfl
  have nd:=Mp (p:=p) 305 [.ptr (H++[cY o]).length 0,.ptr H.length 0,.ptr ((H++[cY o])++[DB.cells 0 (cT (.mk k m n b xs ps))]).length 0] hb v hc;generalize y:(H++[cY o])++[DB.cells 0 (cT (.mk k m n b xs ps))]++[jv p]=G at q u r v x nd;have f:∃ st' a,aq 303 [.ptr o 0,.i p,.func 305 [] [.ptr (H++[cY o]).length 0,.ptr H.length 0,.ptr ((H++[cY o])++[DB.cells 0 (cT (.mk k m n b xs ps))]).length 0]] G=ret (.tuple []) (G.set o (.cells st' [.i (min (c+yP (.mk k m n b xs ps) p) 2001:Nat),.i (a:Nat)])):=by
   cases g:decide (p>100)||decide (c>2000)with
   |true =>
    refine⟨st+1,max d p,?_⟩;rw[nd,g,ge,yP];cases e:decide (p>100)with
    |true=>rw[ge,show min (c+0) 2001=c by omega]
    |false =>
     rw[e,aop]at g;have w:c>2000:=by simpa using g
     rw[Xi,show min (c+(1+(fG ps (p+1)+eV xs (p+1)))) 2001=c by omega]
   |false =>
    obtain⟨j,e⟩:=aow.mp g;have l:p<=100:=by
     have:¬ p>100:=by simpa using j
     omega
    have w:¬ c>2000:=by simpa using e
    obtain⟨st',a,hl⟩:=Oh k m n b xs ps 0 xs p l o (H++[cY o]).length H.length ((H++[cY o])++[DB.cells 0 (cT (.mk k m n b xs ps))]).length 0 0 _ (λst c d H A B E _ F=>IR ps p l o _ _ 0 0 h.2.2.1 n2 n3 [] ps st c d H A B E rfl h.2.2.2 F) h.1 n2 n3 n1 [] xs (st+1+1) (c+1) (max d p) (G.set o (.cells (st+1+1) [.i (c+1:Nat),.i (max d p:Nat)])) (ba _ v) (ax _ n2.symm q) (ax _ n3.symm r) (ax _ n1.symm u) rfl h.2.1 (by omega);refine⟨st',a,?_⟩;have hc:aq 305 [.ptr (H++[cY o]).length 0,.ptr H.length 0,.ptr ((H++[cY o])++[DB.cells 0 (cT (.mk k m n b xs ps))]).length 0] (G.set o (.cells (st+1+1) [.i (c+1:Nat),.i (max d p:Nat)]))=ret (.tuple []) (G.set o (.cells st' [.i (min (c+yP (.mk k m n b xs ps) p) 2001:Nat),.i (a:Nat)])):=by refine ev (alI) ?_;rw[ae (ax _ n1.symm u)];simp only[cT,ai,aw,dR u83,bV];refine aoQ hl ?_;rw[agd,yP,j,Xi,show min (c+1+(eV xs (p+1)+fG ps (p+1))) 2001=min (c+(1+(fG ps (p+1)+eV xs (p+1)))) 2001 by omega]
    rw[nd,g,Xi,am hc]
  obtain⟨st',a,z⟩:=f;refine⟨st',a,ev (by simp only[cT];exact f246) ?_⟩;simp only[cT]at y q r z ⊢;show bj H (aB ((H++[cY o])++[DB.cells 0 (xE k m n b (cu xs) (cG ps))]++[jv p]) H.length _)=_;rw[y,ae q];simp only[ai];rw[ae r];simp only[ai];rw[am z];rw[x];exact lZ s (by simp[DB.bel,eB,D.bel])
def Oh(zk zm:Int)(zn za:af)(zx:List Ex)(zp:List Pa)(s0:Nat)(xs:List Ex)(p:Nat)(hp:p<=100)(o b v1 v2 s1 s2:Nat)(X:Nat)(m:∀(st c d:Nat) (H:DH),H[o]? = some (.cells st [.i (c:Nat),.i (d:Nat)])->H[v1]? = some (.cells s1 [.ptr o 0])->H[v2]? = some (.cells s2 [.i p])->H[b]? = some (.cells s0 (cT (.mk zk zm zn za zx zp)))->c<=2001->∃ st' a,ac au 305 200006 [.g (.ptr v1 0),.g (.ptr v2 0),.g (.row 3 (cG zp)),.n zp.length,.n 0] [] H=ret (.tuple []) (H.set o (.cells st' [.i (min (c+X) 2001:Nat),.i (a:Nat)])))(hl:xs.length<2^62)(n1:v1≠o)(n2:v2≠o)(n0:b≠o):∀(pre suf:List Ex) (st c d:Nat) (H:DH),H[o]? = some (.cells st [.i (c:Nat),.i (d:Nat)])->H[v1]? = some (.cells s1 [.ptr o 0])->H[v2]? = some (.cells s2 [.i p])->H[b]? = some (.cells s0 (cT (.mk zk zm zn za zx zp)))->xs=pre++suf->Ex.oks suf->c<=2001 ->
 ∃ st' a,ac au 305 200001 [.g (.ptr b 0),.g (.ptr v1 0),.g (.ptr v2 0),.g (.row 6 (cu xs)),.n xs.length,.n pre.length] [] H=ret (.tuple []) (H.set o (.cells st' [.i (min (c+(eV suf (p+1)+X)) 2001:Nat),.i (a:Nat)]))
 |pre,[],st,c,d,H,ho,f,j,h0,e,_,hc=>by
  have u:xs.length=pre.length:=by rw[e];simp
  obtain⟨st',a,v⟩:=m st c d H ho f j h0 hc;refine⟨st',a,aW (wS) ?_⟩;simp only[cT]at h0;simp only[u,akg,anM,Xi,eV,afY,ae h0,ai,aw,dR u84,cm,v]
 |pre,t::suf,st,c,d,H,ho,f,j,h0,e,h,k=>by
  simp only[Ex.oks]at h;have hi:pre.length<xs.length:=by rw[e];simp
  have w:decide ((pre.length:Int)<(xs.length:Int))=true:=by simp;exact hi
  have r:(cu xs)[pre.length]? = some (cT t):=by rw[e];exact je _ _ _
  obtain⟨iD,s,hc⟩:=LC t (p+1) c d st o H ho h.1 (by omega) k;obtain⟨st',a,ih⟩:=Oh zk zm zn za zx zp s0 xs p hp o b v1 v2 s1 s2 X m hl n1 n2 n0 (pre++[t]) suf iD (min (c+yP t (p+1)) 2001) s (H.set o (.cells iD [.i (min (c+yP t (p+1)) 2001:Nat),.i s])) (ba _ ho) (ax _ n1.symm f) (ax _ n2.symm j) (ax _ n0.symm h0) (by rw[e];simp) h.2 (by omega);refine⟨st',a,aW (wS) ?_⟩;have l:min (c+(eV (t::suf) (p+1)+X)) 2001=min (min (c+yP t (p+1)) 2001+(eV suf (p+1)+X)) 2001:=by rw[eV];omega
  rw[l];generalize yP t (p+1)=q at hc ih ⊢;obtain⟨tk,tm,tn,ta,tas,tps⟩:=t;simp only[cT]at r hc;simp only[abg,abf,agd]at ih;simp only[w,ge,jK u83 s86 r,VL,Xg,agQ,ae f,ae j,ai,aw,bR,aE (show p<2^62 by omega),am hc,aE (show pre.length<2^62 by omega)];exact ih
end
def ci:List Co->List Ty
 |[]=>[]
 |c::r=>c.xs++ci r
def dD(d:De):List Ty:=cond (d.k==1) (ci d.d.cs) (cond (d.k==2) [d.t] [])
def dp(d:De):List Ex:=cond (d.k==3) (d.fs.map (·.b)) (cond (d.k==4) [d.b] (cond (d.k==5) [d.b] []))
theorem KI:∀(a b:List Ty) (q:Nat),fu (a++b) q=max (fu a q) (fu b q)
 |[],b,q=>by simp[fu]
 |t::a,b,q=>by rw[ajo,fu,fu,KI a b q,aoj]
theorem JO:∀(a b:List Ty) (q:Nat),dS (a++b) q=dS a q+dS b q
 |[],b,q=>by simp[dS]
 |t::a,b,q=>by rw[ajo,dS,dS,JO a b q,aoA]
def QA(cs:List Co)(ic:Nat)(xs:List Ty)(o:Nat)(hl:xs.length<2^62):∀(pre suf:List Ty) (st d:Nat) (H:DH),H[o]? = some (.cells st [.i d])->xs=pre++suf->Ty.oks suf ->
 ∃ st',ac au 179 200007 [.g (.ptr o 0),.g (.row 2 (cs.map lF)),.n cs.length,.n ic,.g (.row 2 (cE xs)),.n xs.length,.n pre.length] [] H
  = ac au 179 200004 [.g (.ptr o 0),.g (.row 2 (cs.map lF)),.n cs.length,.n (bm ((ic:Int)+1))] [] (H.set o (.cells st' [.i (max d (fu suf 1):Nat)]))
 |pre,[],st,d,H,ho,e,_=>by
  have e2:xs.length=pre.length:=by rw[e];simp
  refine⟨st,aW (xG) ?_⟩;simp_all[fu,aon,gB]
 |pre,t::suf,st,d,H,ho,e,h=>by
  simp only[Ty.oks]at h;have hi:pre.length<xs.length:=by rw[e];simp
  have c:decide ((pre.length:Int)<(xs.length:Int))=true:=by simp;exact hi
  have b:(cE xs)[pre.length]? = some (dL t):=by rw[e];exact hQ _ _ _
  obtain⟨iD,hc⟩:=Ie t 1 d st o H ho h.1 (by omega);obtain⟨st',ih⟩:=QA cs ic xs o hl (pre++[t]) suf iD (max d (Ew t 1)) (H.set o (.cells iD [.i (max d (Ew t 1):Nat)])) (ba _ ho) (by rw[e];simp) h.2;refine⟨st',aW (xG) ?_⟩;have a:fu (t::suf) 1=max (Ew t 1) (fu suf 1):=by rw[fu]
  rw[a,<- aoj];generalize Ew t 1=q at hc ih ⊢;obtain⟨tn,tas⟩:=t;simp only[dL]at b hc;simp only[abg,abf,agd]at ih;have hc:aq 243 [.ptr o 0,.agg [.str tn,.row 2 (cE tas)],.i 1] H=_:=hc;simp only[c,ge,jK lY Jd b,ww,Dk,YV,ai,aw,am hc,aE (show pre.length<2^62 by omega)];exact ih
def KG(cs:List Co)(o:Nat)(hl:cs.length<2^62):∀(pre suf:List Co) (st d:Nat) (H:DH),H[o]? = some (.cells st [.i d])->cs=pre++suf->(∀ c∈suf,c.ok) ->
 ∃ st',ac au 179 200004 [.g (.ptr o 0),.g (.row 2 (cs.map lF)),.n cs.length,.n pre.length] [] H=ret (.tuple []) (H.set o (.cells st' [.i (max d (fu (ci suf) 1):Nat)]))
 |pre,[],st,d,H,ho,e,_=>by
  have e2:cs.length=pre.length:=by rw[e];simp
  refine⟨st,aW (xH) ?_⟩;simp_all[ci,fu,aon,gB]
 |pre,c::suf,st,d,H,ho,e,h=>by
  have hi:pre.length<cs.length:=by rw[e];simp
  have hd:decide ((pre.length:Int)<(cs.length:Int))=true:=by simp;exact hi
  have ht:(cs.map lF)[pre.length]? = some (lF c):=by rw[e];exact bz _ _ _ _
  have hc:=h c (adN ..);obtain⟨iD,h1⟩:=QA cs pre.length c.xs o hc.1 [] c.xs st d H ho rfl hc.2;obtain⟨st',ih⟩:=KG cs o hl (pre++[c]) suf iD (max d (fu c.xs 1)) (H.set o (.cells iD [.i (max d (fu c.xs 1):Nat)])) (ba _ ho) (by rw[e];simp) (λx a=>h x (acl _ a));refine⟨st',aW (xH) ?_⟩;obtain⟨cn,xs⟩:=c;simp only[abg,abf,agd]at ih
  grind [aE,ci,KI,aI,ak,lF,ai,aw,dR,lY,bU]
def KE(fs:List Fu)(o:Nat)(hl:fs.length<2^62):∀(pre suf:List Fu) (st d:Nat) (H:DH),H[o]? = some (.cells st [.i d])->fs=pre++suf->(∀ f∈suf,f.b.ok) ->
 ∃ st',ac au 179 200016 [.g (.ptr o 0),.g (.row 8 (fs.map lW)),.n fs.length,.n pre.length] [] H=ret (.tuple []) (H.set o (.cells st' [.i (max d (iE (suf.map (·.b)) 1):Nat)]))
 |pre,[],st,d,H,ho,e,_=>by
  have e2:fs.length=pre.length:=by rw[e];simp
  refine⟨st,aW (xF) ?_⟩;simp_all[aoW,iE,aon,gB]
 |pre,f::suf,st,d,H,ho,e,h=>by
  have hi:pre.length<fs.length:=by rw[e];simp
  have c:decide ((pre.length:Int)<(fs.length:Int))=true:=by simp;exact hi
  have j:(fs.map lW)[pre.length]? = some (lW f):=by rw[e];exact bz _ _ _ _
  obtain⟨iD,a⟩:=If f.b 1 d st o H ho (h f (adN ..)) (by omega);obtain⟨st',ih⟩:=KE fs o hl (pre++[f]) suf iD (max d (Ey f.b 1)) (H.set o (.cells iD [.i (max d (Ey f.b 1):Nat)])) (ba _ ho) (by rw[e];simp) (λx k=>h x (acl _ k));refine⟨st',aW (xF) ?_⟩;rw[ads,iE,<- aoj];obtain⟨fn,fa,⟨l,m,en',ea',xs',ps'⟩⟩:=f;simp only[abg,abf,agd]at ih;simp only[cT]at a;have a:aq 244 [.ptr o 0,.agg (xE l m en' ea' (cu xs') (cG ps')),.i 1] H=_:=a;simp only[c,ge,aI,ak j,lW,ai,aw,am a,aE (show pre.length<2^62 by omega)];exact ih
def Su(d:De):Nat:=max (fu (dD d) 1) (iE (dp d) 1)
def afp(de':De)(d st o:Nat)(H:DH)(ho:H[o]? = some (.cells st [.i d]))(h:de'.ok) :
 ∃ st',aq 179 [.ptr o 0,.agg (bG de')] H=ret (.tuple []) (H.set o (.cells st' [.i (max d (Su de'):Nat)])):=by
 obtain⟨k,⟨dn,vs,cs⟩,n,⟨tn,ts⟩,fs,⟨ek,em,en,ea,xs,ps⟩⟩:=de';obtain⟨⟨_,c,e⟩,m,p,q,r⟩:=h;obtain⟨s1,f⟩:=KG cs o c [] cs st d H ho rfl e;obtain⟨s2,j⟩:=KE fs o p [] fs st d H ho rfl q;obtain⟨s,b⟩:=Ie (.mk tn ts) 1 d st o H ho m (by omega);obtain⟨l,a⟩:=If (.mk ek em en ea xs ps) 1 d st o H ho r (by omega);have f:ac au 179 200004 [.g (.ptr o 0),.g (.row 2 (cs.map lF)),.n cs.length,.n 0] [] H=_:=f;have j:ac au 179 200016 [.g (.ptr o 0),.g (.row 8 (fs.map lW)),.n fs.length,.n 0] [] H=_:=j;simp only[dL,cT]at b a;have b:aq 243 [.ptr o 0,.agg [.str tn,.row 2 (cE ts)],.i 1] H=_:=b;have a:aq 244 [.ptr o 0,.agg (xE ek em en ea (cu xs) (cG ps)),.i 1] H=_:=a;have hk:k=1\/k=2\/k=3\/k=4\/k=5\/((k==1)=false/\(k==2)=false/\(k==3)=false/\(k==4)=false/\(k==5)=false):=by grind
 rcases hk with rfl|rfl|rfl|rfl|rfl|⟨t,u,v,w,x⟩
 .exact⟨s1,ev (Sm) (by rw[abh];simp[f,Su,dD,dp,iE])⟩
 .exact⟨s,ev (Sm) (by simp[am b,Su,dD,dp,iE,fu])⟩
 .exact⟨s2,ev (Sm) (by rw[abh];simp[j,Su,dD,dp,fu])⟩
 .exact⟨l,ev (Sm) (by simp[am a,Su,dD,dp,iE,fu])⟩
 .exact⟨l,ev (Sm) (by simp[am a,Su,dD,dp,iE,fu])⟩
 .exact⟨st,ev (Sm) (by simp only[t,u,v,w,x,Xi,Su,dD,dp,iE,fu,aon,gB ho])⟩
def Oj(cs:List Co)(ic:Nat)(xs:List Ty)(o:Nat)(hl:xs.length<2^62):∀(pre suf:List Ty) (st m d:Nat) (H:DH),H[o]? = some (.cells st [.i m,.i d])->xs=pre++suf->Ty.oks suf->m<=2001 ->
 ∃ st' a,ac au 180 200007 [.g (.ptr o 0),.g (.row 2 (cs.map lF)),.n cs.length,.n ic,.g (.row 2 (cE xs)),.n xs.length,.n pre.length] [] H
  = ac au 180 200004 [.g (.ptr o 0),.g (.row 2 (cs.map lF)),.n cs.length,.n (bm ((ic:Int)+1))] [] (H.set o (.cells st' [.i (min (m+dS suf 1) 2001:Nat),.i (a:Nat)]))
 |pre,[],st,m,d,H,ho,e,_,hm=>by
  have e2:xs.length=pre.length:=by rw[e];simp
  refine⟨st,d,aW (xB) ?_⟩;simp_all[akg,dS,gB]
 |pre,t::suf,st,m,d,H,ho,e,h,hm=>by
  simp only[Ty.oks]at h;have hi:pre.length<xs.length:=by rw[e];simp
  have j:decide ((pre.length:Int)<(xs.length:Int))=true:=by simp;exact hi
  have c:(cE xs)[pre.length]? = some (dL t):=by rw[e];exact hQ _ _ _
  obtain⟨iD,f,hc⟩:=LB t 1 m d st o H ho h.1 (by omega) hm;obtain⟨st',a,ih⟩:=Oj cs ic xs o hl (pre++[t]) suf iD (min (m+BB t 1) 2001) f (H.set o (.cells iD [.i (min (m+BB t 1) 2001:Nat),.i f])) (ba _ ho) (by rw[e];simp) h.2 (by omega);refine⟨st',a,aW (xB) ?_⟩;have b:min (m+dS (t::suf) 1) 2001=min (min (m+BB t 1) 2001+dS suf 1) 2001:=by rw[dS];omega
  rw[b];generalize BB t 1=q at hc ih ⊢;obtain⟨tn,tas⟩:=t;simp only[dL]at c hc;simp only[abg,abf,agd]at ih;have hc:aq 245 [.ptr o 0,.agg [.str tn,.row 2 (cE tas)],.i 1] H=_:=hc;simp only[j,ge,jK lY Jd c,ww,Dk,YV,ai,aw,am hc,aE (show pre.length<2^62 by omega)];exact ih
def IS(cs:List Co)(o:Nat)(hl:cs.length<2^62):∀(pre suf:List Co) (st m d:Nat) (H:DH),H[o]? = some (.cells st [.i m,.i d])->cs=pre++suf->(∀ c∈suf,c.ok)->m<=2001 ->
 ∃ st' a,ac au 180 200004 [.g (.ptr o 0),.g (.row 2 (cs.map lF)),.n cs.length,.n pre.length] [] H=ret (.tuple []) (H.set o (.cells st' [.i (min (m+dS (ci suf) 1) 2001:Nat),.i (a:Nat)]))
 |pre,[],st,m,d,H,ho,e,_,hm=>by
  have e2:cs.length=pre.length:=by rw[e];simp
  refine⟨st,d,aW (xC) ?_⟩;simp_all[akg,ci,dS,gB]
 |pre,c::suf,st,m,d,H,ho,e,h,hm=>by
  have hi:pre.length<cs.length:=by rw[e];simp
  have hd:decide ((pre.length:Int)<(cs.length:Int))=true:=by simp;exact hi
  have ht:(cs.map lF)[pre.length]? = some (lF c):=by rw[e];exact bz _ _ _ _
  have hc:=h c (adN ..);obtain⟨iD,b,h1⟩:=Oj cs pre.length c.xs o hc.1 [] c.xs st m d H ho rfl hc.2 hm;obtain⟨st',a,ih⟩:=IS cs o hl (pre++[c]) suf iD (min (m+dS c.xs 1) 2001) b (H.set o (.cells iD [.i (min (m+dS c.xs 1) 2001:Nat),.i b])) (ba _ ho) (by rw[e];simp) (λx f=>h x (acl _ f)) (by omega);refine⟨st',a,aW (xC) ?_⟩;obtain⟨cn,xs⟩:=c;simp only[abg,abf,agd]at ih
  grind [aE,ci,JO,dS,aI,ak,lF,ai,aw,dR,lY,bU]
def IQ(fs:List Fu)(o:Nat)(hl:fs.length<2^62):∀(pre suf:List Fu) (st m d:Nat) (H:DH),H[o]? = some (.cells st [.i m,.i d])->fs=pre++suf->(∀ f∈suf,f.b.ok)->m<=2001 ->
 ∃ st' c,ac au 180 200016 [.g (.ptr o 0),.g (.row 8 (fs.map lW)),.n fs.length,.n pre.length] [] H=ret (.tuple []) (H.set o (.cells st' [.i (min (m+eV (suf.map (·.b)) 1) 2001:Nat),.i (c:Nat)]))
 |pre,[],st,m,d,H,ho,e,_,hm=>by
  have e2:fs.length=pre.length:=by rw[e];simp
  refine⟨st,d,aW (xA) ?_⟩;simp_all[akg,aoW,eV,gB]
 |pre,f::suf,st,m,d,H,ho,e,h,hm=>by
  have hi:pre.length<fs.length:=by rw[e];simp
  have k:decide ((pre.length:Int)<(fs.length:Int))=true:=by simp;exact hi
  have l:(fs.map lW)[pre.length]? = some (lW f):=by rw[e];exact bz _ _ _ _
  obtain⟨iD,j,a⟩:=LC f.b 1 m d st o H ho (h f (adN ..)) (by omega) hm;obtain⟨st',c,ih⟩:=IQ fs o hl (pre++[f]) suf iD (min (m+yP f.b 1) 2001) j (H.set o (.cells iD [.i (min (m+yP f.b 1) 2001:Nat),.i j])) (ba _ ho) (by rw[e];simp) (λx p=>h x (acl _ p)) (by omega);refine⟨st',c,aW (xA) ?_⟩;rw[ads,eV,show min (m+(yP f.b 1+eV (suf.map (·.b)) 1)) 2001=min (min (m+yP f.b 1) 2001+eV (suf.map (·.b)) 1) 2001 by omega];obtain⟨fn,fa,⟨q,r,en',ea',xs',ps'⟩⟩:=f;simp only[abg,abf,agd]at ih;simp only[cT]at a;have a:aq 246 [.ptr o 0,.agg (xE q r en' ea' (cu xs') (cG ps')),.i 1] H=_:=a;simp only[k,ge,aI,ak l,lW,ai,aw,am a,aE (show pre.length<2^62 by omega)];exact ih
def MS(d:De):Nat:=dS (dD d) 1+eV (dp d) 1
def acD(de':De)(m d st o:Nat)(H:DH)(ho:H[o]? = some (.cells st [.i m,.i d]))(h:de'.ok)(hm:m<=2001) :
 ∃ st' q,aq 180 [.ptr o 0,.agg (bG de')] H=ret (.tuple []) (H.set o (.cells st' [.i (min (m+MS de') 2001:Nat),.i (q:Nat)])):=by
 obtain⟨k,⟨dn,vs,cs⟩,n,⟨tn,ts⟩,fs,⟨ek,em,en,ea,xs,ps⟩⟩:=de';obtain⟨⟨_,c,e⟩,r,s,t,u⟩:=h;obtain⟨s1,v,f⟩:=IS cs o c [] cs st m d H ho rfl e hm;obtain⟨s2,w,j⟩:=IQ fs o s [] fs st m d H ho rfl t hm;obtain⟨x,y,b⟩:=LB (.mk tn ts) 1 m d st o H ho r (by omega) hm;obtain⟨l,p,a⟩:=LC (.mk ek em en ea xs ps) 1 m d st o H ho u (by omega) hm;have f:ac au 180 200004 [.g (.ptr o 0),.g (.row 2 (cs.map lF)),.n cs.length,.n 0] [] H=_:=f;have j:ac au 180 200016 [.g (.ptr o 0),.g (.row 8 (fs.map lW)),.n fs.length,.n 0] [] H=_:=j;simp only[dL,cT]at b a;have b:aq 245 [.ptr o 0,.agg [.str tn,.row 2 (cE ts)],.i 1] H=_:=b;have a:aq 246 [.ptr o 0,.agg (xE ek em en ea (cu xs) (cG ps)),.i 1] H=_:=a;have hk:k=1\/k=2\/k=3\/k=4\/k=5\/((k==1)=false/\(k==2)=false/\(k==3)=false/\(k==4)=false/\(k==5)=false):=by grind
 rcases hk with rfl|rfl|rfl|rfl|rfl|⟨z,A,B,E,F⟩
 .exact⟨s1,v,ev (Sl) (by rw[abh];simp[f,MS,dD,dp,eV])⟩
 .exact⟨x,y,ev (Sl) (by simp[am b,MS,dD,dp,eV,dS])⟩
 .exact⟨s2,w,ev (Sl) (by rw[abh];simp[j,MS,dD,dp,dS])⟩
 .exact⟨l,p,ev (Sl) (by simp[am a,MS,dD,dp,eV,dS])⟩
 .exact⟨l,p,ev (Sl) (by simp[am a,MS,dD,dp,eV,dS])⟩
 .exact⟨st,d,ev (Sl) (by simp only[z,A,B,E,F,Xi,MS,dD,dp,eV,dS,anP,show min m 2001=m by omega,gB ho])⟩
def pI:List De->Nat
 |[]=>0
 |x::r=>max (Su x) (pI r)
def jA:List De->Nat
 |[]=>0
 |x::r=>MS x+jA r
theorem Tw{H X:DH}{k:IntKind}{n:Int}{b:DB}:bj H (ret (.int k n) ((H++X).set H.length b))=ret (.int k n) H:=by
 have e:(H++X).set H.length b=H++X.set 0 b:=by rw[List.set_append,ajD (by omega),akN]
 rw[e];have h:nU H ⟨.ret (.int k n),none,H++X.set 0 b⟩:=⟨by simp[EF.bel,D.bel],rfl,by simp,λi x hi a=>.inl (by rwa [afZ hi]at a)⟩;simp_all[bj]
def Qz(l:List De)(o:Nat)(hl:l.length<2^62):∀(pre suf:List De) (st d:Nat) (H:DH),H[o]? = some (.cells st [.i d])->l=pre++suf->(∀ x∈suf,x.ok) ->
 ∃ st',ac au 113 200003 [.g (.ptr o 0),.g (.row 14 (l.map bG)),.n l.length,.n pre.length] [] H=ret (.i (max d (pI suf):Nat)) (H.set o (.cells st' [.i (max d (pI suf):Nat)]))
 |pre,[],st,d,H,ho,e,_=>by
  have b:l.length=pre.length:=by rw[e];simp
  refine⟨st,aW (yj) ?_⟩;simp only[b,akg,anM,Xi,ae ho,ai,pI,aon,gB ho]
 |pre,x::suf,st,d,H,ho,e,h=>by
  have hi:pre.length<l.length:=by rw[e];simp
  have c:decide ((pre.length:Int)<(l.length:Int))=true:=by simp;exact hi
  have f:(l.map bG)[pre.length]? = some (bG x):=by rw[e];exact bz _ _ _ _
  obtain⟨iD,a⟩:=afp x d st o H ho (h x (adN ..));obtain⟨st',ih⟩:=Qz l o hl (pre++[x]) suf iD (max d (Su x)) (H.set o (.cells iD [.i (max d (Su x):Nat)])) (ba _ ho) (by rw[e];simp) (λy hy=>h y (acl _ hy));refine⟨st',aW (yj) ?_⟩;rw[pI,<- aoj];generalize Su x=q at a ih ⊢;obtain⟨k,⟨dn,vs,cs⟩,n,⟨tn,ts⟩,fs,⟨ek,em,en,ea,xs,ps⟩⟩:=x;simp only[abg,abf,agd]at ih;simp only[bG]at a;simp only[c,ge,aI,ak f,bG,ai,aw,am a,aE (show pre.length<2^62 by omega)];exact ih
def aak(l:List De)(hl:l.length<2^62)(h:∀ x∈l,x.ok)(H:DH):aq 113 [.agg [.row 14 (l.map bG)]] H=ret (.i (pI l:Nat)) H:=by
 obtain⟨st',w⟩:=Qz l H.length hl [] l 0 0 (H++[.cells 0 [.i 0]]) (be H _) rfl h;refine ev (anl) ?_
 grind [Tw]
def Oi(l:List De)(o:Nat)(hl:l.length<2^62):∀(pre suf:List De) (st m d:Nat) (H:DH),H[o]? = some (.cells st [.i m,.i d])->l=pre++suf->(∀ x∈suf,x.ok)->m<=2001 ->
 ∃ st' a,ac au 114 200003 [.g (.ptr o 0),.g (.row 14 (l.map bG)),.n l.length,.n pre.length] [] H=ret (.i (min (m+jA suf) 2001:Nat)) (H.set o (.cells st' [.i (min (m+jA suf) 2001:Nat),.i (a:Nat)]))
 |pre,[],st,m,d,H,ho,e,_,hm=>by
  have f:l.length=pre.length:=by rw[e];simp
  refine⟨st,d,aW (yi) ?_⟩;simp only[f,akg,anM,Xi,ae ho,ai,jA,show min (m+0) 2001=m by omega,gB ho]
 |pre,x::suf,st,m,d,H,ho,e,h,hm=>by
  have hi:pre.length<l.length:=by rw[e];simp
  have j:decide ((pre.length:Int)<(l.length:Int))=true:=by simp;exact hi
  have p:(l.map bG)[pre.length]? = some (bG x):=by rw[e];exact bz _ _ _ _
  obtain⟨iD,c,b⟩:=acD x m d st o H ho (h x (adN ..)) hm;obtain⟨st',a,ih⟩:=Oi l o hl (pre++[x]) suf iD (min (m+MS x) 2001) c (H.set o (.cells iD [.i (min (m+MS x) 2001:Nat),.i c])) (ba _ ho) (by rw[e];simp) (λy hy=>h y (acl _ hy)) (by omega);refine⟨st',a,aW (yi) ?_⟩;rw[jA,show min (m+(MS x+jA suf)) 2001=min (min (m+MS x) 2001+jA suf) 2001 by omega];generalize MS x=q at b ih ⊢;obtain⟨k,⟨dn,vs,cs⟩,n,⟨tn,ts⟩,fs,⟨ek,em,en,ea,xs,ps⟩⟩:=x;simp only[abg,abf,agd]at ih;simp only[bG]at b;simp only[j,ge,aI,ak p,bG,ai,aw,am b,aE (show pre.length<2^62 by omega)];exact ih
def acQ(l:List De)(hl:l.length<2^62)(h:∀ x∈l,x.ok)(H:DH):aq 114 [.agg [.row 14 (l.map bG)]] H=ret (.i (min (jA l) 2001:Nat)) H:=by obtain⟨st',d',w⟩:=Oi l H.length hl [] l 0 0 0 (H++[.cells 0 [.i 0,.i 0]]) (be H _) rfl h (by omega);refine ev (ank) ?_;have w:ac au 114 200003 [.g (.ptr H.length 0),.g (.row 14 (l.map bG)),.n l.length,.n 0] [] (H++[.cells 0 [.i 0,.i 0]])=_:=w;simp only[abh,w,Tw,afY]
end
section
variable{kind:af->Int}(K:KOk kind)
def cW(kind:af->Int)(l:List De):Int:=bif decide (pI l>100)then 6 else bif decide (l.length>60)||decide (jA l>2000)then 2 else bif l.all (fp kind)then 0 else 21
def VT(d s:Nat)(q:Bool)(H:DH):aq 115 [.i d,.i s,.bool q] H=ret (.i (bif decide (d>100)then 6 else bif decide (s>2000)then 2 else bif q then 0 else 21)) H:=by
 refine ev (anj) ?_
 grind
def Wg(a:Nat):decide ((a:Int)>60)=decide (a>60):=by rw[ajF];simp;omega
def ZL(a:Nat):decide ((a:Int)<=100)=!decide (a>100):=by rw[ajF];simp;omega
include K
def aau(l:List De)(hl:l.length<2^62)(h:∀ x∈l,x.ok)(H:DH):aq 61 [.agg [.row 14 (l.map bG)]] H=ret (.i (cW kind l)) H:=by
 refine ev (f61) ?_;have hb:aV bF 117=true:=by kernel_rfl
 have b:=aju hb (p:=fp kind) l hl (λt c H'=>RZ K t H' (h t c)) H;have d (q:Bool):aq 115 [.i (pI l:Nat),.i 2001,.bool q] H=_:=VT (pI l) 2001 q H;have hm:decide (min (jA l) 2001>2000)=decide (jA l>2000):=by rw[ajF];simp;omega
 have a:decide (((min (jA l) 2001:Nat):Int)<=2000)=!decide (jA l>2000):=by rw[ajF];simp;omega
 simp only[aH (aak l hl h H),aH (acQ l hl h H),abh,Wg,Aa,ZL,a,am b,am (d _),am (VT _ _ _ _),ao,hm,cW];cases decide (pI l>100)<;>cases decide (l.length>60)<;>cases decide (jA l>2000)<;>cases l.all (fp kind)<;>rfl
end
section
mutual
def agt(n:Nat):∀ t:Ty,eB n (dL t)
 |.mk _ xs=>by simp only[dL,eB,D.bel,aoU,apg];exact An n xs
def An(n:Nat):∀ l:List Ty,dH n (cE l)
 |[]=>by simp[cE,dH]
 |t::r=>by simp only[cE,dH];exact⟨agt n t,An n r⟩
end
mutual
def agP(n:Nat):∀ t:Pa,eB n (eY t)
 |.mk _ _ xs=>by simp only[eY,eB,D.bel,aoU,apg];exact oQ n xs
def oQ(n:Nat):∀ l:List Pa,dH n (cG l)
 |[]=>by simp[cG,dH]
 |t::r=>by simp only[cG,dH];exact⟨agP n t,oQ n r⟩
end
mutual
def aja(n:Nat):∀ t:Ex,eB n (cT t)
 |.mk _ _ _ _ xs ps=>by simp only[cT,eB,D.bel,aoU,apg];exact⟨px n xs,oQ n ps⟩
def px(n:Nat):∀ l:List Ex,dH n (cu l)
 |[]=>by simp[cu,dH]
 |t::r=>by simp only[cu,dH];exact⟨aja n t,px n r⟩
end
theorem lK{H X:DH}{d:D}(a:d.bel H.length):bj H (ret d (H++X))=ret d H:=by have h:nU H ⟨.ret d,none,H++X⟩:=⟨by simpa only[EF.bel]using a,rfl,by simp,λi x hi b=>.inl (by rwa [afZ hi]at b)⟩;simp_all[bj]
def Iy{ok:Nat->Bool}{sz:Nat}{l els:aQ}{H:DH}{κ:D->DH->av}(a:ok els.length=true)(b:ok (l.length+els.length)=true) :
 bQ ok sz (.buf sz H.length l.length) els (H++[.buf sz true false l]) κ=κ (.buf sz H.length (l.length+els.length)) (H++[.buf sz true false (l++els)]):=by
 have hb:(H++[DB.buf sz true false l])[H.length]? = some (.buf sz true false l):=be _ _;simp only[bQ,a,boK,ge,ajG,cy hb,b,adG,ajI,ajM,grow,Xi];congr 1;rw[List.set_append,ajD (by omega),akN];rfl
def BM{sz:Nat}{l:aQ}{H:DH}{κ:D->DH->av}:eZ (.fz sz) (.buf sz H.length l.length) (H++[.buf sz true false l]) κ=κ (.row sz l) (H++[.buf sz false false l]):=by
 have hb:(H++[DB.buf sz true false l])[H.length]? = some (.buf sz true false l):=be _ _;simp only[eZ,cy hb,boK,ajG,ge]
 grind
def FM(k:Int)(dn:af)(vs:List af)(cs:List Co)(n tn:af)(ts:List Ty)(fs:List Fu)(ek em:Int)(en ea:af)(xs:List Ex)(ps:List Pa)(H:DH)(hl:fs.length<2^62)(c:∀ m,m<=fs.length->aG ab 86 m=true):∀ pre suf,fs=pre++suf ->
 ac au 121 200006 [.lp 0 0,.g (.buf 6 H.length pre.length),.n (pre.length:Nat)] [(0,bG ⟨k,⟨dn,vs,cs⟩,n,.mk tn ts,fs,.mk ek em en ea xs ps⟩)] (H++[.buf 6 true false (cu (pre.map (·.b)))])=ret (.row 6 (cu (fs.map (·.b)))) (H++[.buf 6 false false (cu (fs.map (·.b)))])
 |pre,[],e=>by
  have e2:fs.length=pre.length:=by rw[e];simp
  have e3:fs=pre:=by rw[e];simp
  have a:pre.length=(cu (pre.map (·.b))).length:=by rw[bV];simp
  refine aW (yd) ?_;simp_all[BM]
 |pre,f::suf,e=>by
  have hi:pre.length<fs.length:=by rw[e];simp
  have i:decide ((pre.length:Int)<((fs.map lW).length:Int))=true:=by rw[abh];simp;exact hi
  have j:(fs.map lW)[pre.length]? = some (lW f):=by rw[e];exact bz _ _ _ _
  have ih:=FM k dn vs cs n tn ts fs ek em en ea xs ps H hl c (pre++[f]) suf (by rw[e];simp);have a:(cu (pre.map (·.b))).length=pre.length:=by rw[bV];simp
  refine aW (yd) ?_;have h (e:List D) (κ:D->DH->av):=Iy (ok:=aG ab 86) (sz:=6) (l:=cu (pre.map (·.b))) (els:=[e]) (H:=H) (κ:=κ) (c 1 (by omega)) (by rw[a];exact c _ (by simp;omega));rw[a]at h;have d (o n:Nat) (G:DH) (κ:D->DH->av):ct (.acc 6) 0 (.buf 6 o n) G κ=κ (.buf 6 o n) G:=rfl;obtain⟨fn,fa,⟨k',m',en',ea',xs',ps'⟩⟩:=f;rw[i,ge,aI,ak j];simp only[lW,ai,aw,h,d,aE (show pre.length<2^62 by omega),abf];simp only[abg,abf,aiR,ads,aoW,mz,cT,bG]at ih ⊢;exact ih
theorem GG{H:DH}{d:D}(a:d.bel H.length):bj H (ret d H)=ret d H:=by
 have:=lK (X:=[]) a
 grind
def Qj(d:De)(H:DH)(h:d.ok)(a:∀ m,m<=d.fs.length->aG ab 86 m=true):aq 121 [.agg (bG d)] H=ret (.row 6 (cu (dp d))) H:=by
 obtain⟨k,⟨dn,vs,cs⟩,n,⟨tn,ts⟩,fs,⟨ek,em,en,ea,xs,ps⟩⟩:=d;obtain⟨_,_,b,_,_⟩:=h;have w:=FM k dn vs cs n tn ts fs ek em en ea xs ps H b a [] fs rfl;have w:ac au 121 200006 [.lp 0 0,.g (.buf 6 H.length 0),.n 0] [(0,bG ⟨k,⟨dn,vs,cs⟩,n,.mk tn ts,fs,.mk ek em en ea xs ps⟩)] (H++[.buf 6 true false []])=_:=w;simp only[bG]at w;have c (κ:D->DH->av):eZ (.fz 6) (.buf 6 H.length 0) (H++[.buf 6 true false []]) κ=κ (.row 6 []) (H++[.buf 6 false false []]):=BM (l:=[]);have hb (l:List Ex):D.bel H.length (.row 6 (cu l)):=by simp only[D.bel];exact px _ l
 have e:cu [.mk ek em en ea xs ps]=[(xE ek em en ea (cu xs) (cG ps))]:=by simp only[cu,cT]
 refine ev (anc) ?_;simp only[w,c,<- e,dp];have hk:k=3\/k=4\/k=5\/((k==3)=false/\(k==4)=false/\(k==5)=false):=by grind
 rcases hk with rfl|rfl|rfl|⟨f,i,j⟩
 .grind [lK]
 .grind [GG]
 .grind [GG]
 .simp only[f,i,j,Xi];exact lK (hb [])
def Ts:∀ a b:List Ty,cE (a++b)=cE a++cE b:=λa b=>by simp only[jg,aiR]
def WT(d:De)(pc:List Co)(c:Co)(sc:List Co)(b:d.d.cs=pc++c::sc)(acc:List Ty)(H:DH)(hl:c.xs.length<2^62)(f:∀ m,m<=acc.length+c.xs.length->aG ab 144 m=true):∀ pre suf,c.xs=pre++suf ->
 ac au 119 200009 [.lp 0 0,.g (.buf 2 H.length (acc++pre).length),.n pc.length,.n (pre.length:Nat)] [(0,bG d)] (H++[.buf 2 true false (cE (acc++pre))])
  = ac au 119 200006 [.lp 0 0,.g (.buf 2 H.length (acc++c.xs).length),.n (bm ((pc.length:Int)+1))] [(0,bG d)] (H++[.buf 2 true false (cE (acc++c.xs))]):=by
 obtain⟨k,⟨dn,vs,cs⟩,n,⟨tn,ts⟩,fs,⟨ek,em,en,ea,xs,ps⟩⟩:=d;obtain⟨cn,cx⟩:=c;have b:cs=pc++⟨cn,cx⟩::sc:=b;have h:(cs.map lF)[pc.length]? = some (lF ⟨cn,cx⟩):=by rw[b];exact bz _ _ _ _
 intro pre suf;induction suf generalizing pre with
 |nil =>
  intro e;have e:cx=pre:=by simpa using e
  have j:decide (((pre.length:Nat):Int)<((pre.length:Nat):Int))=false:=by simp
  refine aW (yf) ?_;simp only[aI,ak h,lF,ai,aw,dR lY,bU,aN,e,j,ao,Xi,bG]
 |cons t suf ih =>
  intro e;have e:cx=pre++t::suf:=e;have hi:pre.length<cx.length:=by rw[e];simp
  have r:decide ((pre.length:Int)<(cx.length:Int))=true:=by simp;exact hi
  have p:(cE cx)[pre.length]? = some (dL t):=by rw[e];exact hQ _ _ _
  have ih:=ih (pre++[t]) (by show cx=_;rw[e];simp);have a:(cE (acc++pre)).length=(acc++pre).length:=bU _;have hl':(⟨cn,cx⟩:Co).xs.length=cx.length:=rfl;have q (e:List D) (κ:D->DH->av):=Iy (ok:=aG ab 144) (sz:=2) (l:=cE (acc++pre)) (els:=[e]) (H:=H) (κ:=κ) (f 1 (by simp only;omega)) (by rw[a];exact f _ (by simp;omega));rw[a]at q;have i (o n:Nat) (G:DH) (κ:D->DH->av):ct (.acc 2) 0 (.buf 2 o n) G κ=κ (.buf 2 o n) G:=rfl;refine aW (yf) ?_;obtain⟨tn',tas⟩:=t;simp only[dL]at p;simp only[aI,ak h,lF,ai,aw,dR lY,bU,aN,r,ao,ge,jK lY Jd p,ww,Dk,q,i,aE (show pre.length<2^62 by simp only at hl;omega),abf];simp only[<- ajL,abg,abf,Ts,cE,dL,bG]at ih ⊢;exact ih
def pJ:∀(a:List Co) (c:Co),ci (a++[c])=ci a++c.xs
 |[],c=>by simp[ci]
 |x::a,c=>by simp[ci,pJ a c]
def Gn:∀(a:List Co) (b:List Co),(ci a).length<=(ci (a++b)).length
 |[],b=>by simp[ci]
 |x::a,b=>by have:=Gn a b;simp[ci];omega
def Sw(d:De)(h:d.d.ok)(H:DH)(b:∀ m,m<=(ci d.d.cs).length->aG ab 144 m=true):∀ pre suf,d.d.cs=pre++suf ->
 ac au 119 200006 [.lp 0 0,.g (.buf 2 H.length (ci pre).length),.n (pre.length:Nat)] [(0,bG d)] (H++[.buf 2 true false (cE (ci pre))])
  = ret (.row 2 (cE (ci d.d.cs))) (H++[.buf 2 false false (cE (ci d.d.cs))]):=by
 intro pre suf;induction suf generalizing pre with
 |nil =>
  intro e;have e:d.d.cs=pre:=by simpa using e
  obtain⟨k,⟨dn,vs,cs⟩,n,⟨tn,ts⟩,fs,⟨ek,em,en,ea,xs,ps⟩⟩:=d;have e:cs=pre:=e;subst e;have f:decide (((cs.length:Nat):Int)<((cs.length:Nat):Int))=false:=by simp
  refine aW (yg) ?_;simp only[abh,f,Xi];have a:(ci cs).length=(cE (ci cs)).length:=(bU _).symm;rw[a,BM]
 |cons c suf ih =>
  intro e;have ih:=ih (pre++[c]) (by rw[e];simp);have hc:=h.2.2 c (by rw[e];simp);have i:=Gn (pre++[c]) suf;rw[show pre++[c]++suf=d.d.cs by rw[e];simp,pJ,abg]at i;have w:=WT d pre c suf e (ci pre) H hc.1 (λm hm=>b m (by omega)) [] c.xs rfl;have hi:pre.length<d.d.cs.length:=by rw[e];simp
  have h62:=h.2.1;rw[aE (show pre.length<2^62 by omega),<- pJ]at w;simp only[abg,abf]at ih;rw[ih]at w;simp only[ajH]at w;rw[<- w];obtain⟨k,⟨dn,vs,cs⟩,n,⟨tn,ts⟩,fs,⟨ek,em,en,ea,xs,ps⟩⟩:=d;have j:decide ((pre.length:Int)<(cs.length:Int))=true:=by simp;exact hi
  refine aW (yg) ?_;simp only[abh,j,ge,bG,anR];rfl
def Od(d:De)(H:DH)(h:d.ok)(a:∀ m,m<=(ci d.d.cs).length->aG ab 144 m=true):aq 119 [.agg (bG d)] H=ret (.row 2 (cE (dD d))) H:=by
 have w:=Sw d h.1 H a [] d.d.cs rfl;obtain⟨k,⟨dn,vs,cs⟩,n,⟨tn,ts⟩,fs,⟨ek,em,en,ea,xs,ps⟩⟩:=d;have w:ac au 119 200006 [.lp 0 0,.g (.buf 2 H.length 0),.n 0] [(0,bG ⟨k,⟨dn,vs,cs⟩,n,.mk tn ts,fs,.mk ek em en ea xs ps⟩)] (H++[.buf 2 true false []])=_:=w;simp only[bG]at w;have b (κ:D->DH->av):eZ (.fz 2) (.buf 2 H.length 0) (H++[.buf 2 true false []]) κ=κ (.row 2 []) (H++[.buf 2 false false []]):=BM (l:=[]);have hb (l:List Ty):D.bel H.length (.row 2 (cE l)):=by simp only[D.bel];exact An _ l
 have c:cE [.mk tn ts]=[[.str tn,.row 2 (cE ts)]]:=by simp only[cE,dL]
 refine ev (anf) ?_;simp only[w,b,<- c,dD];have hk:k=1\/k=2\/((k==1)=false/\(k==2)=false):=by grind
 rcases hk with rfl|rfl|⟨e,f⟩
 .grind [lK]
 .grind [GG]
 .simp only[e,f,Xi];exact lK (hb [])
def Us(l:List De)(pc:List De)(d:De)(sc:List De)(hl:l=pc++d::sc)(h:d.ok)(b:∀ m,m<=d.fs.length->aG ab 86 m=true)(xs:List Ty)(p:xs.length<2^62)(H:DH):∀ pre suf (a:Nat),xs=pre++suf->Ty.oks suf ->
 ac au 64 200007 [.lp 0 0,.n a,.n pc.length,.g (.row 2 (cE xs)),.n pre.length] [(0,[.row 14 (l.map bG)])] H
  = ac au 64 200012 [.lp 0 0,.n (max a (fu suf 1):Nat),.n pc.length,.g (.row 6 (cu (dp d))),.n 0] [(0,[.row 14 (l.map bG)])] H
 |pre,[],a,e,_=>by
  have r:xs.length=pre.length:=by rw[e];simp
  have c:(l.map bG)[pc.length]? = some (bG d):=by rw[hl];exact bz _ _ _ _
  have j:=Qj d H h b;refine aW (Cn) ?_;generalize dp d=xx at j ⊢;obtain⟨k,⟨dn,vs,cs⟩,n,⟨tn,ts⟩,fs,⟨ek,em,en,ea,ex,ps⟩⟩:=d;simp only[bG]at j c;simp only[dR lY,bU,aN,r,akg,anM,ao,Xi,aI,ak c,ai,aw,am j,fu,aon]
 |pre,t::suf,a,e,ho=>by
  simp only[Ty.oks]at ho;have hi:pre.length<xs.length:=by rw[e];simp
  have s:decide ((pre.length:Int)<(xs.length:Int))=true:=by simp;exact hi
  have o:(cE xs)[pre.length]? = some (dL t):=by rw[e];exact hQ _ _ _
  have f:=WM t 1 H ho.1 (by omega);have f:aq 120 [.agg (dL t),.i 1] H=_:=f;have ih:=Us l pc d sc hl h b xs p H (pre++[t]) suf (max a (Ew t 1)) (by rw[e];simp) ho.2;refine aW (Cn) ?_;rw[fu,<- aoj];generalize Ew t 1=q at f ih ⊢;obtain⟨tn,tas⟩:=t;simp only[dL]at f o;simp only[abg,abf]at ih;simp only[dR lY,bU,aN,s,ao,ge,jK lY Jd o,ww,am f,wu,oW,wx,aE (show pre.length<2^62 by omega)];exact ih
def Uu(l:List De)(ic:Nat)(xs:List Ex)(d:xs.length<2^62)(H:DH):∀ pre suf (a:Nat),xs=pre++suf->Ex.oks suf ->
 ac au 64 200012 [.lp 0 0,.n a,.n ic,.g (.row 6 (cu xs)),.n pre.length] [(0,[.row 14 (l.map bG)])] H
  = ac au 64 200003 [.lp 0 0,.n (max a (iE suf 1):Nat),.n (bm ((ic:Int)+1))] [(0,[.row 14 (l.map bG)])] H
 |pre,[],a,e,_=>by
  have e2:xs.length=pre.length:=by rw[e];simp
  refine aW (Cm) ?_;simp_all[dR,bV,aN,akg,ao,iE,aon]
 |pre,t::suf,a,e,ho=>by
  simp only[Ex.oks]at ho;have hi:pre.length<xs.length:=by rw[e];simp
  have f:decide ((pre.length:Int)<(xs.length:Int))=true:=by simp;exact hi
  have c:(cu xs)[pre.length]? = some (cT t):=by rw[e];exact je _ _ _
  have b:=WO t 1 H ho.1 (by omega);have b:aq 122 [.agg (cT t),.i 1] H=_:=b;have ih:=Uu l ic xs d H (pre++[t]) suf (max a (Ey t 1)) (by rw[e];simp) ho.2;refine aW (Cm) ?_;rw[iE,<- aoj];generalize Ey t 1=q at b ih ⊢;obtain⟨tk,tm,tn,ta,tas,tps⟩:=t;simp only[cT]at b c;simp only[abg,abf]at ih;simp only[dR u83,bV,aN,f,ao,ge,jK u83 s86 c,VL,am b,wu,oW,wx,aE (show pre.length<2^62 by omega)];exact ih
def ud{d:De}(h:d.ok):Ex.oks (dp d)/\(dp d).length<2^62:=by
 obtain⟨k,dd,n,t,fs,b⟩:=d;obtain⟨_,_,a,g,i⟩:=h;have a:fs.length<2^62:=a;unfold dp;simp only;cases k==3<;>cases k==4<;>cases k==5<;>simp only[ge,Xi]
 all_goals first
  |exact⟨Ex.oks_iff.mpr λe c=>by simp only[anT]at c;obtain⟨f,j,rfl⟩:=c;exact g f j,by rw[abh];exact a⟩
  |exact⟨by simp only[Ex.oks,apg];exact i,by simp⟩
  |exact⟨by simp only[Ex.oks],by simp⟩
structure De.ok2(d:De):Prop where
 ok:d.ok
 fs:∀ m,m<=d.fs.length->aG ab 86 m=true
 cs:∀ m,m<=(ci d.d.cs).length->aG ab 144 m=true
 len:(ci d.d.cs).length<2^62
def Gm:∀ {l:List Co},(∀ c∈l,c.ok)->Ty.oks (ci l)
 |[],_=>by simp[ci,Ty.oks]
 |c::r,h=>by
  rw[ci,Ty.oks_iff];intro t a;rcases ajK.mp a with q|q
  .exact Ty.oks_iff.mp (h c (adN ..)).2 t q
  .exact Ty.oks_iff.mp (Gm λx b=>h x (acl _ b)) t q
def sH{d:De}(h:d.ok2):Ty.oks (dD d)/\(dD d).length<2^62:=by
 unfold dD;cases d.k==1<;>cases d.k==2<;>simp only[ge,Xi]
 all_goals first
  |exact⟨Gm h.ok.1.2.2,h.len⟩
  |exact⟨by simp only[Ty.oks,apg];exact h.ok.2.1,by simp⟩
  |exact⟨by simp only[Ty.oks],by simp⟩
def Uv(l:List De)(hl:l.length<2^62)(H:DH):∀(pre suf:List De) (a:Nat),l=pre++suf->(∀ d∈suf,d.ok2) ->
 ac au 64 200003 [.lp 0 0,.n a,.n pre.length] [(0,[.row 14 (l.map bG)])] H=ret (.i (max a (pI suf):Nat)) H
 |pre,[],a,e,_=>by
  have e2:l.length=pre.length:=by rw[e];simp
  refine aW (Cp) ?_;simp_all[pI]
 |pre,d::suf,a,e,h=>by
  have hi:pre.length<l.length:=by rw[e];simp
  have o:decide ((pre.length:Int)<(l.length:Int))=true:=by simp;exact hi
  have b:(l.map bG)[pre.length]? = some (bG d):=by rw[e];exact bz _ _ _ _
  have ho:=h d (adN ..);have c:=Od d H ho.ok ho.cs;have f:=Us l pre d suf e ho.ok ho.fs (dD d) (sH ho).2 H [] (dD d) a rfl (sH ho).1;have f:ac au 64 200007 [.lp 0 0,.n a,.n pre.length,.g (.row 2 (cE (dD d))),.n 0] [(0,[.row 14 (l.map bG)])] H=_:=f;have m:=Uu l pre.length (dp d) (ud ho.ok).2 H [] (dp d) (max a (fu (dD d) 1)) rfl (ud ho.ok).1;have ih:=Uv l hl H (pre++[d]) suf (max (max a (fu (dD d) 1)) (iE (dp d) 1)) (by rw[e];simp) (λx p=>h x (acl _ p));simp only[abg,abf]at ih;rw[aE (show pre.length<2^62 by omega),ih]at m;have j:=f.trans m;rw[pI,Su,<- aoj,<- aoj];refine aW (Cp) ?_;generalize dD d=tt at c j ⊢;generalize dp d=xx at j ⊢;obtain⟨k,⟨dn,vs,cs⟩,n,⟨tn,ts⟩,fs,⟨ek,em,en,ea,ex,ps⟩⟩:=d;simp only[bG]at b c;simp only[abh,o,ge,aI,ak b,ai,aw,am c];exact j
def aaj(l:List De)(hl:l.length<2^62)(h:∀ d∈l,d.ok2)(H:DH):aq 64 [.agg [.row 14 (l.map bG)]] H=ret (.i (pI l:Nat)) H:=by
 have w:=Uv l hl H [] l 0 rfl h;refine ev (f64) ?_
 grind
end
section
structure Nd where
 e:Ex
 d:Int
 f:Int
 p:af
 b:Int
 ar:Option af
structure Bo where
 first:Nat
 decl:Int
 run:Int
 cell:Int
 name:af
 arg:af
 kind:Int
structure Pg where
 ds:List De
 ns:List Nd
 bs:List Bo
 rs:af
 cs:af
 m:List (Nat×af)
def nC(l:af):aQ:=l.map λi=>[.i (i:Nat)]
def asC:Option af->D
 |none=>.nilrow
 |some l=>.row 1 (nC l)
def DQ(x:Nd):List D:=match x.e with
 |.mk k m n a xs ps=>[.i k,.i m,.str n,.str a,.row 6 (cu xs),.row 3 (cG ps),.i x.d,.i x.f,.row 1 (nC x.p),.i x.b,asC x.ar]
def Du(x:Bo):List D:=[.i (x.first:Nat),.i x.decl,.i x.run,.i x.cell,.str x.name,.str x.arg,.i x.kind]
def mC(l:List (Nat×af)):List (D×D):=l.map λx=>(.i (x.1:Nat),.str x.2)
def PL(n st:Nat)(G:Pg):DH:=[.map (mC G.m),.buf 11 true false (G.ns.map DQ),.buf 7 true false (G.bs.map Du),.buf 1 true false (nC G.rs),.buf 1 true false (nC G.cs),
 .cells st [.row 14 (G.ds.map bG),.buf 11 (n+1) G.ns.length,.buf 7 (n+2) G.bs.length,.buf 1 (n+3) G.rs.length,.buf 1 (n+4) G.cs.length,.map n]]
def PX(H0:DH)(st:Nat)(G:Pg)(X:DH):DH:=H0++(PL H0.length st G++X)
def Xw(X:DH){L:DH}{i:Nat}{b:DB}(h:L[i]? = some b):(L++X)[i]? = some b:=by grind
def vW(H0 L X:DH)(i:Nat)(b:DB)(h:L[i]? = some b):(H0++(L++X))[H0.length+i]? = some b:=by grind
def ajC(H0 L X:DH)(i:Nat)(b:DB)(h:i<L.length):(H0++(L++X)).set (H0.length+i) b=H0++(L.set i b++X):=by grind
variable(H0:DH)(st:Nat)(G:Pg)(X:DH)
def yJ:(PX H0 st G X)[H0.length+5]? = some (.cells st [.row 14 (G.ds.map bG),.buf 11 (H0.length+1) G.ns.length,.buf 7 (H0.length+2) G.bs.length,.buf 1 (H0.length+3) G.rs.length,.buf 1 (H0.length+4) G.cs.length,.map H0.length]):=vW H0 (PL H0.length st G) X 5 _ rfl
def YN:(PX H0 st G X)[H0.length]? = some (.map (mC G.m)):=vW H0 (PL H0.length st G) X 0 _ rfl
theorem YM:(PX H0 st G X)[H0.length+1]? = some (.buf 11 true false (G.ns.map DQ)):=vW H0 (PL H0.length st G) X 1 _ rfl
theorem YP:(PX H0 st G X)[H0.length+2]? = some (.buf 7 true false (G.bs.map Du)):=vW H0 (PL H0.length st G) X 2 _ rfl
def adi:(PX H0 st G X)[H0.length+3]? = some (.buf 1 true false (nC G.rs)):=vW H0 (PL H0.length st G) X 3 _ rfl
def YO:(PX H0 st G X)[H0.length+4]? = some (.buf 1 true false (nC G.cs)):=vW H0 (PL H0.length st G) X 4 _ rfl
def AQ:(PX H0 st G X).length=H0.length+6+X.length:=by simp[PX,PL];omega
def LY(Y:DH):PX H0 st G X++Y=PX H0 st G (X++Y):=by simp[PX]
def YJ(i:Nat):(PX H0 st G X)[H0.length+6+i]? = X[i]?:=by
 unfold PX;rw[anH (by omega),anH (by simp[PL];omega)]
 grind [PL]
def OV(i:Nat)(b:DB):(PX H0 st G X).set (H0.length+6+i) b=PX H0 st G (X.set i b):=by
 unfold PX;rw[ajA _ _ (by omega),ajA _ _ (by simp[PL];omega)]
 grind [PL]
def YL(x:Nd):((PX H0 st G X).set (H0.length+1) (.buf 11 true false (G.ns.map DQ++[DQ x]))).set (H0.length+5) (.cells (st+1) [.row 14 (G.ds.map bG),.buf 11 (H0.length+1) (G.ns.length+1),.buf 7 (H0.length+2) G.bs.length,.buf 1 (H0.length+3) G.rs.length,.buf 1 (H0.length+4) G.cs.length,.map H0.length])=PX H0 (st+1) { G with ns:=G.ns++[x] } X:=by simp_all[PX,PL]
def UI(x:Bo):((PX H0 st G X).set (H0.length+2) (.buf 7 true false (G.bs.map Du++[Du x]))).set (H0.length+5) (.cells (st+1) [.row 14 (G.ds.map bG),.buf 11 (H0.length+1) G.ns.length,.buf 7 (H0.length+2) (G.bs.length+1),.buf 1 (H0.length+3) G.rs.length,.buf 1 (H0.length+4) G.cs.length,.map H0.length])=PX H0 (st+1) { G with bs:=G.bs++[x] } X:=by simp_all[PX,PL]
def UG(x:Nat):((PX H0 st G X).set (H0.length+3) (.buf 1 true false (nC G.rs++[[.i (x:Nat)]]))).set (H0.length+5) (.cells (st+1) [.row 14 (G.ds.map bG),.buf 11 (H0.length+1) G.ns.length,.buf 7 (H0.length+2) G.bs.length,.buf 1 (H0.length+3) (G.rs.length+1),.buf 1 (H0.length+4) G.cs.length,.map H0.length])=PX H0 (st+1) { G with rs:=G.rs++[x] } X:=by simp_all[PX,PL,nC]
def UH(x:Nat):((PX H0 st G X).set (H0.length+4) (.buf 1 true false (nC G.cs++[[.i (x:Nat)]]))).set (H0.length+5) (.cells (st+1) [.row 14 (G.ds.map bG),.buf 11 (H0.length+1) G.ns.length,.buf 7 (H0.length+2) G.bs.length,.buf 1 (H0.length+3) G.rs.length,.buf 1 (H0.length+4) (G.cs.length+1),.map H0.length])=PX H0 (st+1) { G with cs:=G.cs++[x] } X:=by simp_all[PX,PL,nC]
def YK(ns:List Nd)(h:ns.length=G.ns.length):(PX H0 st G X).set (H0.length+1) (.buf 11 true false (ns.map DQ))=PX H0 st { G with ns:=ns } X:=by simp_all[PX,PL]
def OW(m:List (Nat×af)):(PX H0 st G X).set H0.length (.map (mC m))=PX H0 st { G with m:=m } X:=by grind [PX,PL]
def rI(n:Nat):∀ l:af,dH n (nC l)
 |[]=>by simp[nC,dH]
 |i::r=>by simp only[nC,ads,dH,eB,D.bel,aoU];exact rI n r
def adA(n:Nat)(x:Nd):eB n (DQ x):=by
 obtain⟨⟨k,m,nm,a,xs,ps⟩,d,f,p,b,ar⟩:=x;simp only[DQ,eB,D.bel,aoU,apg];refine⟨px n xs,oQ n ps,rI n p,?_⟩;cases ar with
 |none=>trivial
 |some l=>simp only[asC,D.bel];exact rI n l
def Pq(n:Nat):∀ l:List Nd,dH n (l.map DQ)
 |[]=>by simp[dH]
 |x::r=>by simp only[ads,dH];exact⟨adA n x,Pq n r⟩
def QP(n:Nat):∀ l:List Bo,dH n (l.map Du)
 |[]=>by simp[dH]
 |x::r=>by simp only[ads,dH,Du,eB,D.bel,aoU];exact QP n r
def Ov(n:Nat):∀ l:List af,dH n (l.map gq)
 |[]=>by simp[dH]
 |x::r=>by simp only[ads,dH,gq,eB,D.bel,aoU];exact Ov n r
def QE(n:Nat):∀ l:List Co,dH n (l.map lF)
 |[]=>by simp[dH]
 |⟨_,xs⟩::r=>by simp only[ads,dH,lF,eB,D.bel,aoU,apg];exact⟨An n xs,QE n r⟩
def Qa(n:Nat):∀ l:List Fu,dH n (l.map lW)
 |[]=>by simp[dH]
 |⟨_,_,.mk _ _ _ _ xs ps⟩::r=>by simp only[ads,dH,lW,eB,D.bel,aoU,apg];exact⟨⟨px n xs,oQ n ps⟩,Qa n r⟩
def Qq(n:Nat):∀ l:List De,dH n (l.map bG)
 |[]=>by simp[dH]
 |⟨_,⟨_,vs,cs⟩,_,.mk _ ts,fs,.mk _ _ _ _ xs ps⟩::r=>by simp_all[dH,bG,eB,D.bel,Ov,QE,An,Qa,px,oQ,Qq]
def OU{d:D}{st':Nat}{G':Pg}{Y:DH}(a:d.bel (PX H0 st G X).length):bj (PX H0 st G X) (ret d (PX H0 st' G' (X++Y)))=ret d (PX H0 st' G' X):=by
 have hl:=AQ H0 st G X;have c:nU (PX H0 st G X) ⟨.ret d,none,PX H0 st' G' (X++Y)⟩:=by
  refine⟨a,rfl,by simp only[AQ,abg];omega,λi b hi hb=>?_⟩;simp only at hb;rcases aoN i H0.length with q|q
  .left;unfold PX at hb ⊢;rw[afZ q]at hb ⊢;exact hb
  .obtain⟨j,rfl⟩:∃ j,i=H0.length+j:=⟨i - H0.length,by omega⟩;rcases aoN j 6 with e|e
   .right;have:j=0\/j=1\/j=2\/j=3\/j=4\/j=5:=by omega
    rcases this with rfl|rfl|rfl|rfl|rfl|rfl
    .rw[anP,YN]at hb;cases hb;simp only[DB.bel,mC];intro x f;obtain⟨z,_,rfl⟩:=anT.1 f;exact⟨trivial,trivial⟩
    .rw[YM]at hb;cases hb;exact Pq _ _
    .rw[YP]at hb;cases hb;exact QP _ _
    .rw[adi]at hb;cases hb;exact rI _ _
    .rw[YO]at hb;cases hb;exact rI _ _
    .rw[yJ]at hb;cases hb;simp only[DB.bel,eB,D.bel,apg];exact⟨Qq _ _,by omega,by omega,by omega,by omega,by omega⟩
   .left;obtain⟨k,rfl⟩:∃ k,j=6+k:=⟨j - 6,by omega⟩;rw[<- aoA,YJ]at hb ⊢;rw[afZ (by omega)]at hb;exact hb
 simp only[bj,ret];rw[akJ c];have:(PX H0 st' G' (X++Y)).take (PX H0 st G X).length=PX H0 st' G' X:=by rw[<- LY,List.take_append_of_le_length (by simp only[AQ];omega),aog (by simp only[AQ];omega)]
 rw[this]
end
section
mutual
def ja:Ex->Nat
 |.mk _ _ _ _ xs _=>1+eh xs
def eh:List Ex->Nat
 |[]=>0
 |x::r=>ja x+eh r
end
def JL(n:Nat):List Ex->af
 |[]=>[]
 |x::r=>n::JL (n+ja x) r
mutual
def rH(d f b:Int)(n:Nat)(p:af):Ex->List Nd
 |.mk k m nm a xs ps=>⟨.mk k m nm a xs ps,d,f,p,b,some (JL (n+1) xs)⟩::lj d f b (n+1) p 0 xs
def lj(d f b:Int)(n:Nat)(p:af)(i:Nat):List Ex->List Nd
 |[]=>[]
 |x::r=>rH d f b n (p++[i]) x++lj d f b (n+ja x) p (i+1) r
end
def gX:List (Nat×af)->Nat->af->List (Nat×af)
 |[],n,a=>[(n,a)]
 |(k,b)::r,n,a=>if n=k then(n,a)::r else(k,b)::gX r n a
mutual
def TP(n:Nat):Ex->List (Nat×af)->List (Nat×af)
 |.mk k _ _ a xs _,m=>if k=5\/k=7 then gX (yH (n+1) xs m) (n+1) a else yH (n+1) xs m
def yH(n:Nat):List Ex->List (Nat×af)->List (Nat×af)
 |[],m=>m
 |x::r,m=>yH (n+ja x) r (TP n x m)
end
mutual
def Mk:Ex->Prop
 |.mk k _ _ _ xs _=>((k=5\/k=7)->xs≠[])/\Hm xs
def Hm:List Ex->Prop
 |[]=>True
 |x::r=>Mk x/\Hm r
end
mutual
theorem mh(d f b:Int):∀(e:Ex) (n:Nat) (p:af),(rH d f b n p e).length=ja e
 |.mk _ _ _ _ xs _,n,p=>by simp only[rH,ja,aga,Fo d f b xs];omega
theorem Fo(d f b:Int):∀(l:List Ex) (n:Nat) (p:af) (i:Nat),(lj d f b n p i l).length=eh l
 |[],_,_,_=>rfl
 |x::r,n,p,i=>by simp only[lj,eh,abg,mh d f b x,Fo d f b r]
end
theorem sJ:∀ e:Ex,1<=ja e
 |.mk _ _ _ _ _ _=>by simp only[ja];omega
theorem acY{m:Nat}(h:m<=100000):aG ab 88 m=true:=gc (b:=168) (by kernel_rfl) (by decide) h
theorem iH{m:Nat}(h:m<=100000):aG ab 3 m=true:=gc (b:=8) (by kernel_rfl) (by decide) h
def PH(s o n:Nat)(H:DH)(κ:D->av):aP ab 78 (.buf s o n) H κ=κ (.i (n:Int)):=by kernel_rfl
def aip(o n i:Nat)(κ:D->av):ay ab 78 (.buf 11 o n) (.i i) κ=boK (Nat.blt i n) (κ (.bptr o n i 0)):=by kernel_rfl
def stb(o n i c:Nat)(new:List D)(H:DH)(κ:DH->av):GK (.bptr o n i c) new H κ=cH H o n λsz st cap l=>boK st (aX l i λcs=>aC cs c new λcs=>κ (H.set o (.buf sz st cap (l.set i cs)))):=rfl
def Vk(m:Nat)(a:Int)(v:D)(H:DH)(κ:DH->av):mj ab 80 (.map m) (.i a) v H κ=rM H m λes=>tB (.i a) v es λes=>κ (H.set m (.map es)):=by kernel_rfl
def My(n:Nat)(a:af):∀ m:List (Nat×af),Mz (.i n) (.str a) (mC m)=some (mC (gX m n a))
 |[]=>rfl
 |(k,b)::r=>by
  have ih:=My n a r;unfold mC at ih ⊢;simp only[ads,Mz];rw[show BA (.i ((n:Nat):Int)) (.i ((k:Nat):Int))=some (((n:Nat):Int)==((k:Nat):Int))from rfl,neq]
  grind [gX]
theorem lU{ok:Nat->Bool}{sz o:Nat}{l:aQ}{e:List D}{H:DH}{κ:D->DH->av}(h:H[o]? = some (.buf sz true false l))(a:ok 1=true)(b:ok (l.length+1)=true) :
 bQ ok sz (.buf sz o l.length) [e] H κ=κ (.buf sz o (l.length+1)) (H.set o (.buf sz true false (l++[e]))):=by
 simp only[bQ,abf,a,boK,ge,ajG,cy h,b,ajI,ajM,aos,grow,Xi]
theorem qm{ok:Nat->Bool}{sz:Nat}{e:List D}{r:aQ}{H:DH}{κ:D->DH->av}(h1:ok (r.length+1)=true):bQ ok sz .nilrow (e::r) H κ=κ (.buf sz H.length (r.length+1)) (H++[.buf sz true false (e::r)]):=by grind [bQ,boK]
theorem wz{sz o:Nat}{b:Bool}{l:aQ}{H:DH}{κ:D->DH->av}(h:H[o]? = some (.buf sz b false l)):eZ (.fz sz) (.buf sz o l.length) H κ=κ (.row sz l) (H.set o (.buf sz false false l)):=by grind [eZ,cy,Nat.beq_refl,boK]
theorem jy(l:af):(nC l).length=l.length:=by simp[nC]
def Mt(a b:af):nC (a++b)=nC a++nC b:=by simp[nC]
def Bi(op:BinOp)(κ:D->av):lN op [] κ=κ .abool:=rfl
def wq(x:List D)(r:aQ)(κ:D->av):lN .eql (x::r) κ=κ (.bool false):=rfl
def Xc(l:af)(h:l.length<=100000)(H:DH):aq 192 [.row 1 (nC l)] H=match l with
 |[]=>ret .nilrow H
 |x::r=>ret (.buf 1 H.length (r.length+1)) (H++[.buf 1 true false (nC (x::r))]):=by
 rw[show aq 192 [.row 1 (nC l)] H=_ from ev (amx) rfl];cases l with
 |nil =>
  rw[show nC []=[] from rfl,Bi,brD,Gr];have:bQ (aG ab 3) 1 .nilrow [] H (λa b=>ret a b)=ret .nilrow H:=by simp only[bQ,anR,iH (anI _),boK,ge]
  rw[this,akJ rfl]
 |cons x r =>rw[show nC (x::r)=[.i x]::nC r from rfl,wq,ao,Xi];rw[qm (by rw[jy];exact iH h),jy];rfl
def YS(p:af)(i:Nat)(hp:p.length+1<=100000)(H:DH)(κ:D->DH->av) :
 (C au 192 [.row 1 (nC p)] H λd24 H25=>bQ (aG ab 3) 1 d24 [[.i i]] H25 λd26 H27=>ct (.fz 1) 0 d26 H27 κ)=κ (.row 1 (nC (p++[i]))) (H++[.buf 1 false false (nC (p++[i]))]):=by
 have hc:=Xc p (by omega) H;cases p with
 |nil =>rw[am hc,qm (r:=[]) (iH (show 0+1<=100000 by omega))];have a:=wz (κ:=κ) (be H (.buf 1 true false [[.i i]]));refine aoQ a ?_;congr 1;rw[ajA _ _ (abH _),akN];rfl
 |cons x r =>
  have hl:r.length+1=(nC (x::r)).length:=by simp[nC]
  rw[am hc,hl,lU (be _ _) (iH (by omega)) (iH (by rw[<- hl];simp at hp;omega))];have e:(H++[DB.buf 1 true false (nC (x::r))]).set H.length (.buf 1 true false (nC (x::r)++[[.i i]]))=H++[.buf 1 true false (nC (x::r++[i]))]:=by rw[ajA _ _ (abH _),akN,Mt];rfl
  rw[e];show eZ (.fz 1) (.buf 1 H.length ((nC (x::r)).length+1)) _ κ=_;rw[show(nC (x::r)).length+1=(nC (x::r++[i])).length by simp[nC],wz (be _ _)];congr 1;rw[ajA _ _ (abH _),akN];rfl
def ce3(a b c:D)(κ:List D->av):aj 3 (.agg [a,b,c]) κ=κ [a,b,c]:=rfl
variable{H0 X:DH}
def Nd.put(x:Nd)(l:af):Nd:={ x with ar:=some l }
def adz(x:Nd)(l:af)(κ:List D->av):aC (DQ x) 10 [.row 1 (nC l)] κ=κ (DQ (x.put l)):=by obtain⟨⟨k,m,n,a,xs,ps⟩,d,f,p,b,ar⟩:=x;rfl
def VF:∀ l:List Ex,l.length<=eh l
 |[]=>abH _
 |x::r=>by have:=sJ x;have:=VF r;simp only[eh,aga];omega
mutual
def Oz(H0:DH):∀(e:Ex) (d f b:Int) (p:af) (st:Nat) (G:Pg) (X:DH),Mk e->G.ns.length+ja e<=100000->p.length+ja e<=100000 ->
 aq 118 [.ptr (H0.length+5) 0,.agg (cT e),.agg [.i d,.i f,.row 1 (nC p)],.i b] (PX H0 st G X)=ret (.i G.ns.length) (PX H0 (st+ja e) { G with ns:=G.ns++rH d f b G.ns.length p e,m:=TP G.ns.length e G.m } X)
 |.mk k m nm a xs ps,d,f,b,p,st,G,X,c,q,hp=>by
  simp only[Mk]at c;simp only[ja]at q hp;simp only[cT];rw[show aq 118 [.ptr (H0.length+5) 0,.agg (xE k m nm a (cu xs) (cG ps)),.agg [.i d,.i f,.row 1 (nC p)],.i b] (PX H0 st G X)=_ from ev (ang) rfl];have ho:=yJ H0 st G X;have hnl:(G.ns.map DQ).length=G.ns.length:=abh ..;have ap:∀(e:List D) (κ:D->DH->av),bQ (aG ab 88) 11 (.buf 11 (H0.length+1) G.ns.length) [e] (PX H0 st G X) κ=κ (.buf 11 (H0.length+1) (G.ns.length+1)) ((PX H0 st G X).set (H0.length+1) (.buf 11 true false (G.ns.map DQ++[e]))):=λe κ=>by grind [lU,YM,acY]
  have ov:∀(h s j l n o w:D) (κ:List D->av),aC [h,s,j,l,n,o] 1 [w] κ=κ [h,w,j,l,n,o]:=λ_ _ _ _ _ _ _ _=>rfl;simp only[ae ho,ai,aw,PH,ap,yW];have g:=ax (.buf 11 true false (G.ns.map DQ++[DQ ⟨.mk k m nm a xs ps,d,f,p,b,none⟩])) (show H0.length+1≠H0.length+5 by omega) ho;rw[show([.i k,.i m,.str nm,.str a,.row 6 (cu xs),.row 3 (cG ps),.i d,.i f,.row 1 (nC p),.i b,.nilrow]:List D)=DQ ⟨.mk k m nm a xs ps,d,f,p,b,none⟩from rfl];simp only[ae g,ov,YL,LY];have hl:=AQ H0 (st+1) { G with ns:=G.ns++[⟨.mk k m nm a xs ps,d,f,p,b,none⟩] } X;simp only[hl];obtain⟨T,t⟩:=EQ H0 k m nm a xs ps d f b p X c.1 (⟨.mk k m nm a xs ps,d,f,p,b,none⟩) rfl G.ns.length hp xs [] [] (st+1) { G with ns:=G.ns++[⟨.mk k m nm a xs ps,d,f,p,b,none⟩] } [] rfl rfl c.2 (by simp) (by simp;omega) (abH _);rw[show((cu xs).length:Int)=((xs.length:Nat):Int)by rw[bV]];refine aoQ (anL (bj (PX H0 st G X)) t) ?_;rw[OU (d:=.i ((G.ns.length:Nat):Int)) _ _ _ _ trivial];have u:(G.ns++[(⟨.mk k m nm a xs ps,d,f,p,b,none⟩:Nd)]).length=G.ns.length+1:=by simp
  simp only[u,agc,anR];have v:st+1+eh xs=st+(1+eh xs):=by omega
  have y:(G.ns++[(⟨.mk k m nm a xs ps,d,f,p,b,none⟩:Nd)]++lj d f b (G.ns.length+1) p 0 xs).set G.ns.length (Nd.put ⟨.mk k m nm a xs ps,d,f,p,b,none⟩ (JL (G.ns.length+1) xs))=G.ns++rH d f b G.ns.length p (.mk k m nm a xs ps):=by rw[ajL,ajA _ _ (abH _),akN];rfl
  have z:(if k=5\/k=7 then gX (yH (G.ns.length+1) xs G.m) ((JL (G.ns.length+1) xs).headD 0) a else yH (G.ns.length+1) xs G.m)=TP G.ns.length (.mk k m nm a xs ps) G.m:=by
   simp only[TP];split
   .rename_i A;have:=c.1 A;cases xs with
    |nil=>exact(this rfl).elim
    |cons x r=>rfl
   .rfl
  rw[v,y,z];rfl
def EQ(H0:DH)(k m:Int)(nm a:af)(xs0:List Ex)(ps:List Pa)(d f b:Int)(p:af)(X:DH)(hk:(k=5\/k=7)->xs0≠[])(nd:Nd)(t:nd=⟨.mk k m nm a xs0 ps,d,f,p,b,none⟩)(n0:Nat)(hp:p.length+(1+eh xs0)<=100000):∀(xs pre:List Ex) (done:af) (st:Nat) (G:Pg) (T:DH),xs0=pre++xs->done.length=pre.length->Hm xs->G.ns[n0]? = some nd->G.ns.length+eh xs<=100000->eh xs<=eh xs0 ->
 ∃ T',ac au 118 200005 [.g (.ptr (H0.length+5) 0),.n b,.lp 0 0,.lp 1 0,.n n0,.g (.buf 1 (H0.length+6+X.length) done.length),.g (.row 6 (cu xs0)),.n xs0.length,.n pre.length] [(0,(xE k m nm a (cu xs0) (cG ps))),(0,[.i d,.i f,.row 1 (nC p)])] (PX H0 st G (X++(.buf 1 true false (nC done)::T))) =
  ret (.i n0) (PX H0 (st+eh xs) { G with ns:=(G.ns++lj d f b G.ns.length p pre.length xs).set n0 (nd.put (done++JL G.ns.length xs)),m:=(if k=5\/k=7 then gX (yH G.ns.length xs G.m) ((done++JL G.ns.length xs).headD 0) a else yH G.ns.length xs G.m) } (X++T'))
 |[],pre,done,st,G,T,e,A,_,c,E,_=>by
  have hpl:pre.length=xs0.length:=by rw[e];simp
  have F:(PX H0 st G (X++(.buf 1 true false (nC done)::T)))[H0.length+6+X.length]? = some (.buf 1 true false (nC done)):=by rw[YJ];simp
  have I:∀ B:DB,(PX H0 st G (X++(.buf 1 true false (nC done)::T))).set (H0.length+6+X.length) B=PX H0 st G (X++(B::T)):=λB=>by rw[OV,ajA _ _ (abH _),akN];rfl
  have fz:∀ κ:D->DH->av,eZ (.fz 1) (.buf 1 (H0.length+6+X.length) done.length) (PX H0 st G (X++(.buf 1 true false (nC done)::T))) κ=κ (.row 1 (nC done)) (PX H0 st G (X++(.buf 1 false false (nC done)::T))):=λκ=>by grind [wz,jy]
  have u:n0<G.ns.length:=(acy.1 c).1;have hb:Nat.blt n0 G.ns.length=true:=by unfold Nat.blt;exact acw u
  have bf:∀ κ:Nat->Bool->Bool->aQ->av,cH (PX H0 st G (X++(.buf 1 false false (nC done)::T))) (H0.length+1) G.ns.length κ=κ 11 true false (G.ns.map DQ):=λκ=>by grind [cy,YM,List.length_map]
  have v:(G.ns.map DQ)[n0]? = some (DQ nd):=by rw[aiE,c];rfl
  have sn:(PX H0 st G (X++(.buf 1 false false (nC done)::T))).set (H0.length+1) (.buf 11 true false ((G.ns.map DQ).set n0 (DQ (nd.put done))))=PX H0 st { G with ns:=G.ns.set n0 (nd.put done) } (X++(.buf 1 false false (nC done)::T)):=by rw[<- List.map_set,YK _ _ _ _ _ (anK ..)]
  refine⟨.buf 1 false false (nC done)::T,?_⟩;rw[show ac au 118 200005 _ _ _=_ from aW (yh) rfl];rw[gI,acz (by omega),Xi];simp only[ae (yJ _ _ _ _),ai,aw,fz,aip,hb,boK,ge,wF,afY,show ∀(s:Nat) (l:aQ) (κ:List D->av),aj 1 (.row s l) κ=κ [.row s l] from λ_ _ _=>rfl,stb,bf,ak v,adz,sn];simp only[eh,lj,JL,yH,ajH,anP];have fn:(k=5\/k=7)->(bif Nat.blt 0 done.length then(cH (PX H0 st { G with ns:=G.ns.set n0 (nd.put done) } (X++(.buf 1 false false (nC done)::T))) (H0.length+6+X.length) done.length λz54 s55 q56 l57=>aX l57 0 λr58=>ah r58 0 λd59=>mj ab 80 (.map H0.length) d59 (.str a) (PX H0 st { G with ns:=G.ns.set n0 (nd.put done) } (X++(.buf 1 false false (nC done)::T))) λH60=>ret (.i n0) H60)else none)=ret (.i n0) (PX H0 st { G with ns:=G.ns.set n0 (nd.put done),m:=gX G.m (done.headD 0) a } (X++(.buf 1 false false (nC done)::T))):=λhq=>by
   obtain⟨z,r,rfl⟩:∃ z r,done=z::r:=by
    cases done with
    |nil =>grind
    |cons z r=>exact⟨z,r,rfl⟩
   have hx2:(PX H0 st { G with ns:=G.ns.set n0 (nd.put (z::r)) } (X++(.buf 1 false false (nC (z::r))::T)))[H0.length+6+X.length]? = some (.buf 1 false false (nC (z::r))):=by rw[YJ];simp
   have N:∀ κ:Nat->Bool->Bool->aQ->av,cH (PX H0 st { G with ns:=G.ns.set n0 (nd.put (z::r)) } (X++(.buf 1 false false (nC (z::r))::T))) (H0.length+6+X.length) (z::r).length κ=κ 1 false false (nC (z::r)):=λκ=>by grind [cy,jy]
   have x:Nat.blt 0 (z::r).length=true:=by unfold Nat.blt;exact acw (by simp)
   simp only[ai,x,ge,N,ak (show(nC (z::r))[0]? = some [.i (z:Nat)] from rfl),Vk,mq (YN _ _ _ _),tB,My,OW];rfl
  grind
 |.mk xk xm xn xa xxs xps::r,pre,done,st,G,T,e,A,j,c,E,I=>by
  have hi:pre.length<xs0.length:=by rw[e];simp
  have q:(cu xs0)[pre.length]? = some (xE xk xm xn xa (cu xxs) (cG xps)):=by rw[e];exact je pre (.mk xk xm xn xa xxs xps) r
  simp only[Hm]at j;simp only[eh]at E I;have hpos:=sJ (.mk xk xm xn xa xxs xps);have hl0:xs0.length<=eh xs0:=VF xs0;have h:=Oz H0 (.mk xk xm xn xa xxs xps) d f b (p++[pre.length]) st G (X++(.buf 1 true false (nC done)::T)++[.buf 1 false false (nC (p++[pre.length]))]) j.1 (by omega) (by simp;omega);simp only[cT]at h
  have ih:=λT=>EQ H0 k m nm a xs0 ps d f b p X hk nd t n0 hp r (pre++[.mk xk xm xn xa xxs xps]) (done++[G.ns.length]) (st+ja (.mk xk xm xn xa xxs xps)) { G with ns:=G.ns++rH d f b G.ns.length (p++[pre.length]) (.mk xk xm xn xa xxs xps),m:=TP G.ns.length (.mk xk xm xn xa xxs xps) G.m } T (by rw[e];simp) (by simp[A]) j.2 (by rw[afZ (acy.1 c).1];exact c) (by simp only[abg,mh];omega) (by omega)
  obtain⟨T',J⟩:=ih (T++[.buf 1 false false (nC (p++[pre.length]))]);refine⟨T',?_⟩;rw[show ac au 118 200005 _ _ _=_ from aW (yh) rfl];rw[gI,acv hi,ge,aI,ak q];simp only[ai,aw];rw[YS p pre.length (by omega)];simp only[show ∀(s:Nat) (l:aQ) (κ:List D->av),aj 1 (.row s l) κ=κ [.row s l] from λ_ _ _=>rfl,show ∀(L M O w:D) (κ:List D->av),aC [L,M,O] 2 [w] κ=κ [L,M,w] from λ_ _ _ _ _=>rfl,ai,aw,LY,am h,qz];have F:∀ st' G',(PX H0 st' G' (X++(.buf 1 true false (nC done)::T)++[.buf 1 false false (nC (p++[pre.length]))]))[H0.length+6+X.length]? = some (.buf 1 true false (nC done)):=λst' G'=>by rw[YJ];simp
  have y:∀ st' G' (B:DB),(PX H0 st' G' (X++(.buf 1 true false (nC done)::T)++[.buf 1 false false (nC (p++[pre.length]))])).set (H0.length+6+X.length) B=PX H0 st' G' (X++(B::(T++[.buf 1 false false (nC (p++[pre.length]))]))):=λst' G' B=>by rw[OV,ajL,ajA _ _ (abH _),akN];rfl
  have hdl:done.length<=99999:=by omega
  have ap:∀ st' G' (κ:D->DH->av),bQ (aG ab 3) 1 (.buf 1 (H0.length+6+X.length) done.length) [[.i G.ns.length]] (PX H0 st' G' (X++(.buf 1 true false (nC done)::T)++[.buf 1 false false (nC (p++[pre.length]))])) κ=κ (.buf 1 (H0.length+6+X.length) (done.length+1)) (PX H0 st' G' (X++(.buf 1 true false (nC (done++[G.ns.length]))::(T++[.buf 1 false false (nC (p++[pre.length]))])))):=λst' G' κ=>by have:=lU (κ:=κ) (e:=[.i G.ns.length]) (F st' G') (iH (show 1<=100000 by omega)) (by rw[jy];exact iH (by omega));rw[jy,y]at this;rw[this,Mt done [G.ns.length]];rfl
  rw[ap];simp only[show ∀(s o n:Nat) (H:DH) (κ:D->DH->av),ct (.acc 1) 0 (.buf s o n) H κ=κ (.buf s o n) H from λ_ _ _ _ _=>rfl,aE (show pre.length<2^62 by omega)];simp only[abg,abf]at J;rw[J];simp only[eh,lj,JL,yH,mh,ajL,ans,aoA]
end
theorem YD{m:Nat}(h:m<=100000):aG ab 152 m=true:=gc (b:=72) (by kernel_rfl) (by decide) h
def VG(s o n:Nat)(H:DH)(κ:D->av):aP ab 79 (.buf s o n) H κ=κ (.i (n:Int)):=by kernel_rfl
def VH(s o n:Nat)(H:DH)(κ:D->av):aP ab 25 (.buf s o n) H κ=κ (.i (n:Int)):=by kernel_rfl
def Ly(n:Nat)(h:n<2^62):bm (((n+1:Nat):Int) - 1)=((n:Nat):Int):=by rw[ki]<;>omega
def Pg.addB(G:Pg)(a:Bo)(f:Int)(e:Ex):Pg:={ G with bs:=G.bs++[{ a with first:=G.ns.length }],ns:=G.ns++rH a.decl f G.bs.length G.ns.length [] e,m:=TP G.ns.length e G.m }
def Jc(H0:DH)(e:Ex)(o:Bo)(f:Int)(st:Nat)(G:Pg)(X:DH)(p:Mk e)(s:G.ns.length+ja e<=100000)(hb:G.bs.length<100000) :
 aq 62 [.ptr (H0.length+5) 0,.agg (Du o),.agg (cT e),.i f] (PX H0 st G X)=ret (.tuple []) (PX H0 (st+1+ja e) (G.addB o f e) X):=by
 obtain⟨first,decl,run,cell,name,arg,kd⟩:=o;obtain⟨k,m,nm,a,xs,ps⟩:=e;have b:=Oz H0 (.mk k m nm a xs ps) decl f (G.bs.length:Nat) [] (st+1) { G with bs:=G.bs++[⟨G.ns.length,decl,run,cell,name,arg,kd⟩] } X p s (by simp;omega);simp only[cT]at b;simp only[cT,Du];rw[show aq 62 _ (PX H0 st G X)=_ from ev (f62) rfl];have ho:=yJ H0 st G X;have hbl:(G.bs.map Du).length=G.bs.length:=abh ..;have ap:∀(e:List D) (κ:D->DH->av),bQ (aG ab 152) 7 (.buf 7 (H0.length+2) G.bs.length) [e] (PX H0 st G X) κ=κ (.buf 7 (H0.length+2) (G.bs.length+1)) ((PX H0 st G X).set (H0.length+2) (.buf 7 true false (G.bs.map Du++[e]))):=λe κ=>by grind [lU,YP,YD]
 have ov7:∀(g c h j l n r w:D) (κ:List D->av),aC [g,c,h,j,l,n,r] 0 [w] κ=κ [w,c,h,j,l,n,r]:=λ_ _ _ _ _ _ _ _ _=>rfl;have ov62:∀(g c h j l n w:D) (κ:List D->av),aC [g,c,h,j,l,n] 2 [w] κ=κ [g,c,w,j,l,n]:=λ_ _ _ _ _ _ _ _=>rfl;have YW:∀(g c h w:D) (κ:List D->av),aC [g,c,h] 0 [w] κ=κ [w,c,h]:=λ_ _ _ _ _=>rfl;have ado:∀(g c h w:D) (κ:List D->av),aC [g,c,h] 1 [w] κ=κ [g,w,h]:=λ_ _ _ _ _=>rfl;have hk:∀(g c:D) (H:DH) (κ:D->DH->av),ct (.fz 1) 2 (.agg [g,c,.nilrow]) H κ=κ (.agg [g,c,.row 1 []]) H:=λ_ _ _ _=>rfl;simp only[ae ho,ai,aw,PH,qz,ov7,ap,yW];have q:=ax (.buf 7 true false (G.bs.map Du++[Du ⟨G.ns.length,decl,run,cell,name,arg,kd⟩])) (show H0.length+2≠H0.length+5 by omega) ho;rw[show([.i ((G.ns.length:Nat):Int),.i decl,.i run,.i cell,.str name,.str arg,.i kd]:List D)=Du ⟨G.ns.length,decl,run,cell,name,arg,kd⟩from rfl];simp only[ae q,ov62,UI,YW,ado,hk,ae (yJ _ _ _ _),ai,aw,VG,abg,abf,nP,Ly _ (show G.bs.length<2^62 by omega)];have b:=fE (k:=λ_ H36=>ret (.tuple []) H36) (kp:=λ_ _=>none) b;refine aoQ (anL (bj (PX H0 st G X)) b) ?_;have:=OU H0 st G X (d:=.tuple []) (st':=st+1+ja (.mk k m nm a xs ps)) (G':=G.addB ⟨first,decl,run,cell,name,arg,kd⟩ f (.mk k m nm a xs ps)) (Y:=[]) trivial;rw[ajH]at this;exact this
def Pg.addF(G:Pg)(i:Nat)(kd:Int)(k:Nat)(f:Fu):Pg:=({ G with cs:=G.cs++[G.bs.length] }:Pg).addB ⟨0,(i:Nat),-1,(G.cs.length:Nat),f.n,f.a,kd⟩ (k:Nat) f.b
def Pg.addFs(G:Pg)(i:Nat)(kd:Int)(k:Nat):List Fu->Pg
 |[]=>G
 |f::r=>(G.addF i kd k f).addFs i kd (k+1) r
def Pg.addR(G:Pg)(i:Nat)(d:De):Pg:=({ G with rs:=G.rs++[G.bs.length] }:Pg).addB ⟨0,(i:Nat),(G.rs.length:Nat),-1,d.n,[],d.k⟩ 0 d.b
def Pg.addD(G:Pg)(i:Nat)(d:De):Pg:=if d.k=3 then G.addFs i 3 0 d.fs else if d.k=4\/d.k=5 then G.addR i d else G
def Pg.addDs(G:Pg)(i:Nat):List De->Pg
 |[]=>G
 |d::r=>(G.addD i d).addDs (i+1) r
def yG:List Fu->Nat
 |[]=>0
 |f::r=>ja f.b+yG r
def abQ(l:aQ)(i:Nat)(κ:D->av):ay ab 145 (.row 8 l) (.i i) κ=aX l i λcs=>κ (.eptr cs 0):=by kernel_rfl
def ahM(a b c d e f g h:D)(H:DH)(κ:D->av):bJ ab 149 (.eptr [a,b,c,d,e,f,g,h] 0) H κ=κ (.agg [a,b,c,d,e,f,g,h]):=by kernel_rfl
def abb(G:Pg)(a:Bo)(f:Int)(e:Ex):(G.addB a f e).ns.length=G.ns.length+ja e:=by simp[Pg.addB,mh]
def ce8(a b c d e f g h:D)(κ:List D->av):aj 8 (.agg [a,b,c,d,e,f,g,h]) κ=κ [a,b,c,d,e,f,g,h]:=rfl
def ov8(i j k l m n o p a b c d e f g h:D)(κ:List D->av):aC [i,j,k,l,m,n,o,p] 0 [a,b,c,d,e,f,g,h] κ=κ [a,b,c,d,e,f,g,h]:=rfl
def ako(a b c d f e w:D)(κ:List D->av):aC [a,b,c,d,f,e] 4 [w] κ=κ [a,b,c,d,w,e]:=rfl
def akp(a b c f d e w:D)(κ:List D->av):aC [a,b,c,f,d,e] 3 [w] κ=κ [a,b,c,w,d,e]:=rfl
def akm(a b g c d e f w:D)(κ:List D->av):aC [a,b,g,c,d,e,f] 2 [w] κ=κ [a,b,w,c,d,e,f]:=rfl
def agT(a b c g d e f w:D)(κ:List D->av):aC [a,b,c,g,d,e,f] 3 [w] κ=κ [a,b,c,w,d,e,f]:=rfl
def agS(a b c d g e f w:D)(κ:List D->av):aC [a,b,c,d,g,e,f] 4 [w] κ=κ [a,b,c,d,w,e,f]:=rfl
def akl(a b c d e g f w:D)(κ:List D->av):aC [a,b,c,d,e,g,f] 5 [w] κ=κ [a,b,c,d,e,w,f]:=rfl
def agR(a b c d e f g w:D)(κ:List D->av):aC [a,b,c,d,e,f,g] 6 [w] κ=κ [a,b,c,d,e,f,w]:=rfl
def Fj(H0 X:DH)(i:Nat)(d:De)(m:d.fs.length<2^61)(ds:List D)(c:ds=bG d)(rows:aQ)(n:Nat):∀(suf pre:List Fu) (st:Nat) (G:Pg),d.fs=pre++suf->(∀ f∈suf,Mk f.b)->G.ns.length+yG suf<=100000->G.bs.length+suf.length<=99999->G.cs.length+suf.length<=99999 ->
 ∃ st',ac au 33 200011 [.g (.ptr (H0.length+5) 0),.n i,.lp 0 0,.g (.row 14 rows),.n n,.n i,.g (.row 8 (d.fs.map lW)),.n d.fs.length,.n pre.length] [(0,ds)] (PX H0 st G X) =
  ac au 33 200006 [.g (.ptr (H0.length+5) 0),.g (.row 14 rows),.n n,.n (bm ((i:Int)+1))] [] (PX H0 st' (G.addFs i d.k pre.length suf) X)
 |[],pre,st,G,e,_,_,_,_=>by
  refine⟨st,?_⟩;obtain⟨k,⟨dn,vs,cs⟩,nm,⟨tn,ts⟩,fs,⟨ek,em,en,ea,ex,ps⟩⟩:=d;subst c;simp only[bG];refine aW (CD) ?_;have:fs.length=pre.length:=by simp only at e;rw[e];simp
  simp only[this];rw[gI,acz (anz _),Xi];rfl
 |f::suf,pre,st,G,e,j,r,hb,hc=>by
  have hp:pre.length<2^62:=by grind
  have o:=j f (adN ..);simp only[yG,aga]at r hb hc;have h:=Jc H0 f.b ⟨0,(i:Nat),-1,(G.cs.length:Nat),f.n,f.a,d.k⟩ (pre.length:Nat) (st+1) { G with cs:=G.cs++[G.bs.length] } X o (by simp only;omega) (by simp only;omega);obtain⟨st',ih⟩:=Fj H0 X i d m ds c rows n suf (pre++[f]) (st+1+1+ja f.b) (G.addF i d.k pre.length f) (by rw[e];simp) (λx s=>j x (acl _ s)) (by rw[Pg.addF,abb];simp only;omega) (by simp only[Pg.addF,Pg.addB,abg,abf];omega) (by simp only[Pg.addF,Pg.addB,abg,abf];omega);refine⟨st',?_⟩;simp only[abg,abf]at ih;rw[show(G.addFs i d.k pre.length (f::suf))=(G.addF i d.k pre.length f).addFs i d.k (pre.length+1) suf from rfl,<- ih];have hi:pre.length<d.fs.length:=by rw[e];simp
  have l:(d.fs.map lW)[pre.length]? = some (lW f):=by rw[e];exact bz _ _ _ _
  obtain⟨fnm,fa,⟨fk,fm,fn,fea,fxs,fps⟩⟩:=f;obtain⟨k,⟨dn,vs,cs⟩,nm,⟨tn,ts⟩,fs,⟨ek,em,en,ea,ex,ps⟩⟩:=d;subst c;simp only[bG];refine aW (CD) ?_;simp only[lW,cT,Du]at l h;simp only at hi;have ho:=yJ H0 st G X;have p:(nC G.cs).length=G.cs.length:=jy _;have ap:∀(κ:D->DH->av),bQ (aG ab 3) 1 (.buf 1 (H0.length+4) G.cs.length) [[.i G.bs.length]] (PX H0 st G X) κ=κ (.buf 1 (H0.length+4) (G.cs.length+1)) ((PX H0 st G X).set (H0.length+4) (.buf 1 true false (nC G.cs++[[.i G.bs.length]]))):=λκ=>by
   have:=lU (κ:=κ) (e:=[.i G.bs.length]) (YO H0 st G X) (iH (show 1<=100000 by omega)) (by rw[p];exact iH (by omega))
   grind
  have q:=ax (.buf 1 true false (nC G.cs++[[.i G.bs.length]])) (show H0.length+4≠H0.length+5 by omega) ho;rw[gI,acv hi,ge];simp only[abQ,ak l,ahM,ce8,ov8,ae ho,ai,aw,VG,qz,ap,yW,ae q,ako,UH,ae (yJ _ _ _ _),VH,abg,abf,nP,Ly _ (show G.cs.length<2^62 by omega),Io,agT,agS,akl,agR,fE h,aE hp];exact fE h
def YZ(H0 X:DH)(i:Nat)(d:De)(rows:aQ)(n st:Nat)(G:Pg)(c:Mk d.b)(j:G.ns.length+ja d.b<=100000)(hb:G.bs.length<99999)(hr:G.rs.length<99999) :
 ac au 33 18 [.g (.ptr (H0.length+5) 0),.n i,.lp 0 0,.g (.row 14 rows),.n n,.n i] [(0,bG d)] (PX H0 st G X) =
  ac au 33 200006 [.g (.ptr (H0.length+5) 0),.g (.row 14 rows),.n n,.n (bm ((i:Int)+1))] [] (PX H0 (st+1+1+ja d.b) (G.addR i d) X):=by
 have a:=Jc H0 d.b ⟨0,(i:Nat),(G.rs.length:Nat),-1,d.n,[],d.k⟩ 0 (st+1) { G with rs:=G.rs++[G.bs.length] } X c j (by simp only;omega);obtain⟨k,⟨dn,vs,cs⟩,nm,⟨tn,ts⟩,fs,⟨ek,em,en,ea,ex,ps⟩⟩:=d;simp only[bG];refine aW (afb) ?_;simp only[cT,Du]at a;have ho:=yJ H0 st G X;have f:(nC G.rs).length=G.rs.length:=jy _;have ap:∀(κ:D->DH->av),bQ (aG ab 3) 1 (.buf 1 (H0.length+3) G.rs.length) [[.i G.bs.length]] (PX H0 st G X) κ=κ (.buf 1 (H0.length+3) (G.rs.length+1)) ((PX H0 st G X).set (H0.length+3) (.buf 1 true false (nC G.rs++[[.i G.bs.length]]))):=λκ=>by
  have:=lU (κ:=κ) (e:=[.i G.bs.length]) (adi H0 st G X) (iH (show 1<=100000 by omega)) (by rw[f];exact iH (by omega))
  grind
 have h:=ax (.buf 1 true false (nC G.rs++[[.i G.bs.length]])) (show H0.length+3≠H0.length+5 by omega) ho;simp only[ae ho,ai,aw,VG,qz,ap,yW,ae h,akp,UG,ae (yJ _ _ _ _),VH,abg,abf,nP,Ly _ (show G.rs.length<2^62 by omega),Io,akm,agT,agS,agR];exact fE a
def TE(d:De):Nat:=if d.k=3 then yG d.fs else if d.k=4\/d.k=5 then ja d.b else 0
def Ee(d:De):Nat:=if d.k=3 then d.fs.length else if d.k=4\/d.k=5 then 1 else 0
def As:List De->Nat
 |[]=>0
 |d::r=>TE d+As r
def mi:List De->Nat
 |[]=>0
 |d::r=>Ee d+mi r
structure okD(d:De):Prop where
 fl:d.fs.length<2^61
 fs:d.k=3->∀ f∈d.fs,Mk f.b
 b:(d.k=4\/d.k=5)->Mk d.b
theorem vZ(i:Nat)(kd:Int):∀(l:List Fu) (k:Nat) (G:Pg),(G.addFs i kd k l).ns.length=G.ns.length+yG l/\(G.addFs i kd k l).bs.length=G.bs.length+l.length/\(G.addFs i kd k l).cs.length=G.cs.length+l.length/\(G.addFs i kd k l).rs.length=G.rs.length
 |[],k,G=>⟨rfl,rfl,rfl,rfl⟩
 |f::r,k,G=>by
  obtain⟨h1,h2,h3,h4⟩:=vZ i kd r (k+1) (G.addF i kd k f)
  grind [Pg.addF,Pg.addB,mh,Pg.addFs,yG]
def XL(i:Nat)(d:De)(G:Pg):(G.addD i d).ns.length=G.ns.length+TE d/\(G.addD i d).bs.length=G.bs.length+Ee d/\(G.addD i d).cs.length<=G.cs.length+Ee d/\(G.addD i d).rs.length<=G.rs.length+Ee d:=by grind [Pg.addD,TE,Ee,vZ,Pg.addR,Pg.addB,mh]
def aed(l:aQ)(H:DH)(κ:D->av):aP ab 145 (.row 8 l) H κ=κ (.i l.length):=by kernel_rfl
def Be(H0 X:DH)(l:List De)(hl:l.length<2^61):∀(suf pre:List De) (st:Nat) (G:Pg),l=pre++suf->(∀ d∈suf,okD d)->G.ns.length+As suf<=100000->G.bs.length+mi suf<=99998->G.cs.length+mi suf<=99998->G.rs.length+mi suf<=99998 ->
 ∃ st',ac au 33 200006 [.g (.ptr (H0.length+5) 0),.g (.row 14 (l.map bG)),.n l.length,.n pre.length] [] (PX H0 st G X) =
  ac au 33 200022 [.g (.ptr (H0.length+5) 0),.g (.buf 1 (H0.length+4) (G.addDs pre.length suf).cs.length),.n ((G.addDs pre.length suf).cs.length:Nat),.n 0] [] (PX H0 st' (G.addDs pre.length suf) X)
 |[],pre,st,G,e,_,_,_,_,_=>by
  refine⟨st,aW (CE) ?_⟩;have:l.length=pre.length:=by rw[e];simp
  rw[gI,this,acz (anz _),Xi];simp only[ae (yJ _ _ _ _),ai,aw,VH];rfl
 |d::suf,pre,st,G,e,f,p,hb,hc,hr=>by
  have j:=f d (adN ..);have hi:pre.length<l.length:=by rw[e];simp
  have i:(l.map bG)[pre.length]? = some (bG d):=by rw[e];exact bz _ _ _ _
  simp only[As,mi]at p hb hc hr;obtain⟨q1,q2,q3,q4⟩:=XL pre.length d G;have ih:=λst2=>Be H0 X l hl suf (pre++[d]) st2 (G.addD pre.length d) (by rw[e];simp) (λx q=>f x (acl _ q)) (by omega) (by omega) (by omega) (by omega);simp only[abg,abf]at ih;have m:bm ((pre.length:Int)+1)=((pre.length+1:Nat):Int):=aE (by omega);rw[show G.addDs pre.length (d::suf)=(G.addD pre.length d).addDs (pre.length+1) suf from rfl];have key:∃ st2,ac au 33 200006 [.g (.ptr (H0.length+5) 0),.g (.row 14 (l.map bG)),.n l.length,.n pre.length] [] (PX H0 st G X)=ac au 33 200006 [.g (.ptr (H0.length+5) 0),.g (.row 14 (l.map bG)),.n l.length,.n ((pre.length+1:Nat):Nat)] [] (PX H0 st2 (G.addD pre.length d) X):=by
   have run:=YZ H0 X pre.length d (l.map bG) l.length st G;have fun':=Fj H0 X pre.length d j.fl (bG d) rfl (l.map bG) l.length d.fs [] st G rfl;rw[m]at run fun'
   have step:ac au 33 200006 [.g (.ptr (H0.length+5) 0),.g (.row 14 (l.map bG)),.n l.length,.n pre.length] [] (PX H0 st G X) =
    cond (d.k==3) (ac au 33 200011 [.g (.ptr (H0.length+5) 0),.n pre.length,.lp 0 0,.g (.row 14 (l.map bG)),.n l.length,.n pre.length,.g (.row 8 (d.fs.map lW)),.n d.fs.length,.n 0] [(0,bG d)] (PX H0 st G X))
     (cond (d.k==4||d.k==5) (ac au 33 18 [.g (.ptr (H0.length+5) 0),.n pre.length,.lp 0 0,.g (.row 14 (l.map bG)),.n l.length,.n pre.length] [(0,bG d)] (PX H0 st G X))
      (ac au 33 200006 [.g (.ptr (H0.length+5) 0),.g (.row 14 (l.map bG)),.n l.length,.n ((pre.length+1:Nat):Nat)] [] (PX H0 st G X))):=by
    clear run fun' ih;obtain⟨k,⟨dn,vs,cs⟩,nm,⟨tn,ts⟩,fs,⟨ek,em,en,ea,ex,ps⟩⟩:=d;simp only[bG]at i ⊢;refine aW (CE) ?_;rw[gI,acv hi,ge,aI,ak i];simp only[ai,aw,aZ,ao,aed,abh,m]
    grind
   rw[step];by_cases c:d.k=3
   .have n1:TE d=yG d.fs:=by simp[TE,c]
    have n2:Ee d=d.fs.length:=by simp[Ee,c]
    have o:G.addD pre.length d=G.addFs pre.length 3 0 d.fs:=by simp[Pg.addD,c]
    obtain⟨st2,h⟩:=fun' (j.fs c) (by omega) (by omega) (by omega)
    grind
   .rw[show(d.k==3)=false by simp[c],Xi];by_cases a:d.k=4\/d.k=5
    .have n1:TE d=ja d.b:=by simp[TE,c,a]
     have n2:Ee d=1:=by simp[Ee,c,a]
     have o:G.addD pre.length d=G.addR pre.length d:=by simp[Pg.addD,c,a]
     rw[show(d.k==4||d.k==5)=true by simp[a],ge,o,run (j.b a) (by omega) (by omega) (by omega)]
     grind
    grind [Pg.addD]
  obtain⟨st2,hk⟩:=key;simp_all
def HV(bs:List Bo):af->List (Nat×af)->List (Nat×af)
 |[],m=>m
 |c::r,m=>match bs[c]? with
  |some x=>HV bs r (gX m x.first x.arg)
  |none=>HV bs r m
def KZ(G:Pg):Prop:=∀ c∈G.cs,c<G.bs.length
theorem Dr(i:Nat)(kd:Int):∀(l:List Fu) (k:Nat) (G:Pg),KZ G->KZ (G.addFs i kd k l)
 |[],_,_,h=>h
 |f::r,k,G,h=>Dr i kd r (k+1) _ (λc hc=>by
  simp only[Pg.addF,Pg.addB,abg,abf,ajK,aov]at hc ⊢;rcases hc with hc|rfl
  .have:=h c hc;omega
  .omega)
def SE(i:Nat)(d:De)(G:Pg)(h:KZ G):KZ (G.addD i d):=by
 unfold Pg.addD;split
 .grind [Dr]
 .split
  .intro c hc;simp only[Pg.addR,Pg.addB,abg,abf]at hc ⊢;have:=h c hc;omega
  .exact h
def Ds:∀(l:List De) (i:Nat) (G:Pg),KZ G->KZ (G.addDs i l)
 |[],_,_,h=>h
 |d::r,i,G,h=>Ds r (i+1) _ (SE i d G h)
def ait(o n i:Nat)(κ:D->av):ay ab 25 (.buf 1 o n) (.i i) κ=boK (Nat.blt i n) (κ (.bptr o n i 0)):=by kernel_rfl
def aek(o n i:Nat)(κ:D->av):ay ab 79 (.buf 7 o n) (.i i) κ=boK (Nat.blt i n) (κ (.bptr o n i 0)):=by kernel_rfl
def lH{a b:Nat}(h:a<b):Nat.blt a b=true:=by unfold Nat.blt;exact acw h
def Fk(H0 X:DH)(st:Nat)(cs:af)(b:cs.length<2^61):∀(suf pre:af) (G:Pg),cs=pre++suf->G.cs=cs->KZ G ->
 ac au 33 200022 [.g (.ptr (H0.length+5) 0),.g (.buf 1 (H0.length+4) cs.length),.n cs.length,.n pre.length] [] (PX H0 st G X)=ret (.tuple [.ptr (H0.length+5) 0,.i 0]) (PX H0 st { G with m:=HV G.bs suf G.m } X)
 |[],pre,G,e,_,_=>by
  refine aW (CC) ?_;have:cs.length=pre.length:=by rw[e];simp
  rw[gI,this,acz (anz _),Xi];rfl
 |c::suf,pre,G,e,a,hb=>by
  have hi:pre.length<cs.length:=by rw[e];simp
  have hc:c<G.bs.length:=hb c (by rw[a,e];simp);have d:(nC G.cs)[pre.length]? = some [.i (c:Nat)]:=by rw[a,e];simp[nC]
  have f:(G.bs.map Du)[c]? = some (Du G.bs[c]):=by rw[aiE,abI hc];rfl
  have ih:=Fk H0 X st cs b suf (pre++[c]) { G with m:=gX G.m G.bs[c].first G.bs[c].arg } (by rw[e];simp) a hb;simp only[abg,abf]at ih;refine aW (CC) ?_;have j:∀ κ:Nat->Bool->Bool->aQ->av,cH (PX H0 st G X) (H0.length+4) cs.length κ=κ 1 true false (nC G.cs):=λκ=>by have:=cy (κ:=κ) (YO H0 st G X);rw[jy,a]at this;rw[a];exact this
  have h:∀ κ:Nat->Bool->Bool->aQ->av,cH (PX H0 st G X) (H0.length+2) G.bs.length κ=κ 7 true false (G.bs.map Du):=λκ=>by have:=cy (κ:=κ) (YP H0 st G X);rw[abh]at this;exact this
  rw[gI,acv hi,ge];simp only[ait,lH hi,boK,ge,ahG,j,ak d,ai,ae (yJ _ _ _ _),aw,aek,lH hc,wF,afY,anP,h,ak f];have e0:∀ κ:D->av,ah (Du G.bs[c]) 0 κ=κ (.i (G.bs[c].first:Nat)):=λ_=>rfl;have k:∀ κ:D->av,ah (Du G.bs[c]) 5 κ=κ (.str G.bs[c].arg):=λ_=>rfl;simp only[e0,ahC,h,ak f,k,Vk,mq (YN _ _ _ _),tB,My,OW,aE (show pre.length<2^62 by omega),ih];simp only[HV,abI hc]
def lg(l:List De):Pg:=(⟨l,[],[],[],[],[]⟩:Pg).addDs 0 l
def eL(l:List De):Pg:={ lg l with m:=HV (lg l).bs (lg l).cs (lg l).m }
theorem Ln:∀(l:List De) (i:Nat) (G:Pg),(G.addDs i l).cs.length<=G.cs.length+mi l
 |[],_,_=>by simp[Pg.addDs,mi]
 |d::r,i,G=>by
  have h1:=Ln r (i+1) (G.addD i d)
  grind [Pg.addD,Ee,vZ,Pg.addR,Pg.addB,Pg.addDs,mi]
def Za(l:List De)(hl:l.length<2^61)(ho:∀ x∈l,x.ok)(g:cW bM l=0->(∀ d∈l,okD d)/\As l<=100000/\mi l<=99998)(H:DH) :
 ∃ st,aq 33 [.agg [.row 14 (l.map bG)]] H=bif cW bM l != 0 then ret (.tuple [.nilptr,.i (cW bM l)]) H else ret (.tuple [.ptr (H.length+5) 0,.i 0]) (PX H st (eL l) []):=by
 have hc:=aau kOk l (by omega) ho H;cases a:cW bM l != 0 with
 |true =>refine⟨0,ev (f33) ?_⟩;simp only[am hc,bu,a,ao,ge]
 |false =>
  have h0:cW bM l=0:=by simpa using a
  obtain⟨j,k,b⟩:=g h0;obtain⟨st,h⟩:=Be H [] l hl l [] 0 ⟨l,[],[],[],[],[]⟩ rfl j (by simpa using k) (by simpa using b) (by simpa using b) (by simpa using b);have hb:KZ (lg l):=Ds l 0 _ (λc hc=>by cases hc);have e:(lg l).cs.length<2^61:=by grind [Ln,lg]
  have m:=Fk H [] st (lg l).cs e (lg l).cs [] (lg l) rfl rfl hb;have n:PX H 0 ⟨l,[],[],[],[],[]⟩ []=H++[.map []]++[.buf 11 true false []]++[.buf 7 true false []]++[.buf 1 true false []]++[.buf 1 true false []]++[.cells 0 [.row 14 (l.map bG),.buf 11 (H.length+1) 0,.buf 7 (H.length+2) 0,.buf 1 (H.length+3) 0,.buf 1 (H.length+4) 0,.map H.length]]:=by simp[PX,PL,mC,nC]
  have f:=h.trans m;rw[n]at f;refine⟨st,ev (f33) ?_⟩;simp only[am hc,bu,a,ao,ge,Xi];simp only[abg,abf,abh,aoA]at f ⊢;exact f.trans rfl
mutual
def Hn{kind:af->Int}:∀ e:Ex,gL kind e=true->Mk e
 |.mk k m n a xs ps,h=>by
  simp only[gL,abk]at h;obtain⟨b,_,_,h2⟩:=h;rw[Mk];refine⟨λhk hx=>?_,Pm xs b⟩
  grind [nG]
def Pm{kind:af->Int}:∀ l:List Ex,iv kind l=true->Hm l
 |[],_=>by simp[Hm]
 |x::r,h=>by simp only[iv,abk]at h;rw[Hm];exact⟨Hn x h.1,Pm r h.2⟩
end
mutual
theorem acH:∀(e:Ex) (p:Nat),Ey e p<=100->ja e<=yP e p
 |.mk k m n a xs ps,p,h=>by
  rw[Ey]at h;rw[yP,ja];cases b:decide (p>100)with
  |true =>grind
  |false =>rw[b]at h;simp only[Xi]at h ⊢;have:=GH xs (p+1) (by omega);omega
theorem GH:∀(l:List Ex) (q:Nat),iE l q<=100->eh l<=eV l q
 |[],_,_=>by simp[eh]
 |x::r,q,h=>by rw[iE]at h;have h1:=acH x q (by omega);have h2:=GH r q (by omega);rw[eh,eV];omega
end
theorem IV:∀ l:List Fu,yG l=eh (l.map (·.b))
 |[]=>by simp[yG,eh]
 |f::r=>by rw[yG,ads,eh,IV r]
def agu(e:Ex):eh [e]=ja e:=by simp[eh]
theorem Yi(d:De):TE d=eh (dp d):=by grind [TE,dp,IV,eh]
theorem Oo:∀ l:List De,pI l<=100->As l<=jA l
 |[],_=>by simp[As]
 |d::r,h=>by
  rw[pI]at h;have h1:=Oo r (by omega)
  grind [GH,Su,As,jA,Yi,MS]
theorem Vg{kind:af->Int}(d:De)(h:fp kind d=true):okD d/\Ee d<=16:=by
 unfold fp at h;by_cases a:d.k=1
 .have:d.fs=[]:=by simp[a]at h;exact h.2.2.2.2
  exact⟨⟨by simp[this],λh=>by omega,λh=>by omega⟩,by simp[Ee,a]⟩
 by_cases c:d.k=2
 .have:d.fs=[]:=by simp[c]at h;exact h.2.2.2.2
  exact⟨⟨by simp[this],λh=>by omega,λh=>by omega⟩,by simp[Ee,c]⟩
 by_cases e:d.k=3
 .simp[e]at h;obtain⟨_,_,_,_,_,hl,j⟩:=h;exact⟨⟨by omega,λ_ f hm=>Hn f.b (by have:=j f hm;simp only[nu,abk]at this;exact this.2.2),λh=>by omega⟩,by simp[Ee,e];omega⟩
 by_cases g:d.k=4
 .simp[g]at h;have:d.fs=[]:=h.2.2.2.2;exact⟨⟨by simp[this],λh=>by omega,λ_=>Hn _ h.2.2.2.1⟩,by simp[Ee,g]⟩
 by_cases i:d.k=5
 .simp[i]at h;have:d.fs=[]:=h.2.2.2.2;exact⟨⟨by simp[this],λh=>by omega,λ_=>Hn _ h.2.2.2.1⟩,by simp[Ee,i]⟩
 grind
theorem Pr{kind:af->Int}:∀ l:List De,l.all (fp kind)=true->mi l<=16*l.length
 |[],_=>by simp[mi]
 |d::r,h=>by rw[aof,abk]at h;have h1:=(Vg d h.1).2;have h2:=Pr r h.2;rw[mi,aga];omega
def sr{kind:af->Int}{l:List De}(h:cW kind l=0):pI l<=100/\l.length<=60/\jA l<=2000/\l.all (fp kind)=true:=by grind [cW]
def tp{kind:af->Int}{l:List De}(h:cW kind l=0):(∀ d∈l,okD d)/\As l<=2000/\mi l<=960:=by
 obtain⟨h1,h2,h3,h4⟩:=sr h
 grind [Oo,Pr,Vg]
def adq(l:List De)(hl:l.length<2^61)(ho:∀ x∈l,x.ok)(H:DH) :
 ∃ st,aq 33 [.agg [.row 14 (l.map bG)]] H=bif cW bM l != 0 then ret (.tuple [.nilptr,.i (cW bM l)]) H else ret (.tuple [.ptr (H.length+5) 0,.i 0]) (PX H st (eL l) []) :=
 Za l hl ho (λh=>by obtain⟨a,b,c⟩:=tp h;exact⟨a,by omega,by omega⟩) H
def ahD(o n i:Nat)(H:DH)(κ:D->av):bJ ab 88 (.bptr o n i 0) H κ=cH H o n λ_ _ _ l=>aX l i λcs=>bL ab 88 cs 0 κ:=by kernel_rfl
def akP(a b c d e f g h i j k:D)(κ:D->av):bL ab 88 [a,b,c,d,e,f,g,h,i,j,k] 0 κ=κ (.agg [a,b,c,d,e,f,g,h,i,j,k]):=by kernel_rfl
def akz(l m n o p q r s t u z10 a b c d e f g h i j k:D)(κ:List D->av):aC [l,m,n,o,p,q,r,s,t,u,z10] 0 [a,b,c,d,e,f,g,h,i,j,k] κ=κ [a,b,c,d,e,f,g,h,i,j,k]:=rfl
def anw(a b c d e f g h i j k:D)(κ:List D->av):aj 11 (.agg [a,b,c,d,e,f,g,h,i,j,k]) κ=κ [a,b,c,d,e,f,g,h,i,j,k]:=rfl
end
end Go.Proofs.YtpghiabjaglpgaaGreatDoor
namespace Go.Proofs.YtpghiabjaglpgaaGreatDoor.Rd
open Go.AI Go.Proofs.YtpghiabjaglpgaaGreatDoor
def eJ{d:D}(h:zf .str d):∃ l,d=.str l:=by cases h;exact⟨_,rfl⟩
def dQ{d:D}(h:zf .int d):∃ n,d=.int .i64 n:=by cases h;exact⟨_,rfl⟩
def mO{t:Nat}{d:D}(h:zf (.sl t) d):∃ l,d=.row (uH t).length l/\l.length<2^50/\∀ cs∈l,IG (uH t) cs:=by
 cases h with
 |row t ly l h0 a b c=>subst h0;exact⟨l,rfl,a,λcs h=>⟨b cs h,c cs h⟩⟩
def gK{ds:List D}(h:IG [] ds):ds=[]:=aoK.1 h.1
def aM{k:Ck}{ks:List Ck}{ds:List D}(h:IG (k::ks) ds):∃ d r,ds=d::r/\zf k d/\IG ks r:=by
 cases ds with
 |nil=>have:=h.1;simp at this
 |cons d r=>exact⟨d,r,rfl,h.2 0 k d rfl rfl,by have:=h.1;simpa using this,λi k d a b=>h.2 (i+1) k d (by simpa using a) (by simpa using b)⟩
def pick{α:Type}{f:α->List D}{p:α->Prop}:∀ {l:List (List D)},(∀ cs∈l,∃ x,cs=f x/\p x)->∃ xs:List α,l=xs.map f/\∀ x∈xs,p x
 |[],_=>⟨[],rfl,λ_ h=>by cases h⟩
 |cs::r,h=>by obtain⟨x,a,b⟩:=h cs adN;obtain⟨xs,d,g⟩:=pick λc hc=>h c (acl _ hc);exact⟨x::xs,by rw[a,d];rfl,λy hy=>(afS.1 hy).elim (λe=>e▸b) (g y)⟩
def ahS:uH 142=[.str,.sl 142]:=by kernel_rfl
def ahW:uH 84=[.int,.str,.sl 84]:=by kernel_rfl
def aia:uH 83=[.int,.int,.str,.str,.sl 83,.sl 84]:=by kernel_rfl
def ahY:uH 145=[.str,.str,.int,.int,.str,.str,.sl 83,.sl 84]:=by kernel_rfl
def ahU:uH 91=[.str]:=by kernel_rfl
def aic:uH 139=[.str,.sl 142]:=by kernel_rfl
def aib:uH 22=[.int,.str,.sl 91,.sl 139,.str,.str,.sl 142,.sl 145,.int,.int,.str,.str,.sl 83,.sl 84]:=by kernel_rfl
def abD{k:Ck}{d:D}(h:zf k d):k=.sl 142->∃ xs,d=.row 2 (cE xs)/\xs.length<2^62/\Ty.oks xs:=by
 induction h with
 |row t ly l c hl g i ih =>
  intro e;cases e;rw[ahS]at c;subst c;obtain⟨xs,rfl,j⟩:=pick (f:=dL) (p:=Ty.ok) (l:=l) λcs hc=>by obtain⟨a,r,rfl,m,h⟩:=aM (⟨g cs hc,i cs hc⟩:IG [.str,.sl 142] cs);obtain⟨b,r,rfl,h2,h⟩:=aM h;cases gK h;obtain⟨n,rfl⟩:=eJ m;obtain⟨xs,rfl,o⟩:=ih _ hc 1 _ b rfl rfl rfl;exact⟨.mk n xs,rfl,by rw[Ty.ok];exact o⟩
  refine⟨xs,by rw[jg];rfl,?_,Ty.oks_iff.2 j⟩
  grind
 |_=>intro e;cases e
def UU{k:Ck}{d:D}(h:zf k d):k=.sl 84->∃ xs,d=.row 3 (cG xs)/\xs.length<2^62/\Pa.oks xs:=by
 induction h with
 |row t ly l g hl i j ih =>
  intro e;cases e;rw[ahW]at g;subst g;obtain⟨xs,rfl,o⟩:=pick (f:=eY) (p:=Pa.ok) (l:=l) λcs hc=>by obtain⟨a,r,rfl,q,h⟩:=aM (⟨i cs hc,j cs hc⟩:IG [.int,.str,.sl 84] cs);obtain⟨b,r,rfl,s,h⟩:=aM h;obtain⟨c,r,rfl,h3,h⟩:=aM h;cases gK h;obtain⟨m,rfl⟩:=dQ q;obtain⟨n,rfl⟩:=eJ s;obtain⟨xs,rfl,u⟩:=ih _ hc 2 _ c rfl rfl rfl;exact⟨.mk m n xs,rfl,by rw[Pa.ok];exact u⟩
  refine⟨xs,by rw[mf];rfl,?_,Pa.oks_iff.2 o⟩
  grind
 |_=>intro e;cases e
def abF{k:Ck}{d:D}(h:zf k d):k=.sl 83->∃ xs,d=.row 6 (cu xs)/\xs.length<2^62/\Ex.oks xs:=by
 induction h with
 |row t ly l g hl i j ih =>
  intro e;cases e;rw[aia]at g;subst g;obtain⟨xs,rfl,o⟩:=pick (f:=cT) (p:=Ex.ok) (l:=l) λcs hc=>by obtain⟨a,r,rfl,q,h⟩:=aM (⟨i cs hc,j cs hc⟩:IG [.int,.int,.str,.str,.sl 83,.sl 84] cs);obtain⟨b,r,rfl,s,h⟩:=aM h;obtain⟨c,r,rfl,u,h⟩:=aM h;obtain⟨d,r,rfl,v,h⟩:=aM h;obtain⟨e,r,rfl,h5,h⟩:=aM h;obtain⟨f,r,rfl,w,h⟩:=aM h;cases gK h;obtain⟨k,rfl⟩:=dQ q;obtain⟨m,rfl⟩:=dQ s;obtain⟨n,rfl⟩:=eJ u;obtain⟨a,rfl⟩:=eJ v;obtain⟨xs,rfl,x,y⟩:=ih _ hc 4 _ e rfl rfl rfl;obtain⟨ps,rfl,z,A⟩:=UU w rfl;exact⟨.mk k m n a xs ps,rfl,by rw[Ex.ok];exact⟨x,y,z,A⟩⟩
  refine⟨xs,by rw[mz];rfl,?_,Ex.oks_iff.2 o⟩
  grind
 |_=>intro e;cases e
def ahc{d:D}(h:zf (.sl 91) d):∃ xs:List (List Nat),d=.row 1 (xs.map gq)/\xs.length<2^62:=by
 obtain⟨l,rfl,hl,b⟩:=mO h;rw[ahU]at b ⊢;obtain⟨xs,rfl,_⟩:=pick (f:=gq) (p:=λ_=>True) (l:=l) λcs hc=>by obtain⟨a,r,rfl,c,h⟩:=aM (b cs hc);cases gK h;obtain⟨n,rfl⟩:=eJ c;exact⟨n,rfl,trivial⟩
 grind
def ahi{d:D}(h:zf (.sl 139) d):∃ xs:List Co,d=.row 2 (xs.map lF)/\xs.length<2^62/\∀ c∈xs,c.ok:=by
 obtain⟨l,rfl,hl,e⟩:=mO h;rw[aic]at e ⊢;obtain⟨xs,rfl,hx⟩:=pick (f:=lF) (p:=Co.ok) (l:=l) λcs hc=>by obtain⟨a,r,rfl,i,h⟩:=aM (e cs hc);obtain⟨b,r,rfl,j,h⟩:=aM h;cases gK h;obtain⟨n,rfl⟩:=eJ i;obtain⟨ts,rfl,g⟩:=abD j rfl;exact⟨⟨n,ts⟩,rfl,g⟩
 grind
def ahf{d:D}(h:zf (.sl 145) d):∃ xs:List Fu,d=.row 8 (xs.map lW)/\xs.length<2^62/\∀ f∈xs,f.b.ok:=by
 obtain⟨l,rfl,hl,j⟩:=mO h;rw[ahY]at j ⊢;obtain⟨xs,rfl,o⟩:=pick (f:=lW) (p:=λf=>f.b.ok) (l:=l) λcs hc=>by obtain⟨a,r,rfl,q,h⟩:=aM (j cs hc);obtain⟨b,r,rfl,s,h⟩:=aM h;obtain⟨c,r,rfl,t,h⟩:=aM h;obtain⟨d,r,rfl,u,h⟩:=aM h;obtain⟨e,r,rfl,v,h⟩:=aM h;obtain⟨f,r,rfl,w,h⟩:=aM h;obtain⟨g,r,rfl,x,h⟩:=aM h;obtain⟨i,r,rfl,y,h⟩:=aM h;cases gK h;obtain⟨n,rfl⟩:=eJ q;obtain⟨a,rfl⟩:=eJ s;obtain⟨k,rfl⟩:=dQ t;obtain⟨m,rfl⟩:=dQ u;obtain⟨en,rfl⟩:=eJ v;obtain⟨ea,rfl⟩:=eJ w;obtain⟨xs,rfl,z,A⟩:=abF x rfl;obtain⟨ps,rfl,B,E⟩:=UU y rfl;exact⟨⟨n,a,.mk k m en ea xs ps⟩,rfl,by rw[Ex.ok];exact⟨z,A,B,E⟩⟩
 exact⟨xs,rfl,by rw[abh]at hl;omega,o⟩
def ahh{d:D}(h:zf (.sl 22) d):∃ xs:List De,d=.row 14 (xs.map bG)/\xs.length<2^61/\∀ d∈xs,d.ok:=by
 obtain⟨l,rfl,hl,w⟩:=mO h;rw[aib]at w ⊢;obtain⟨xs,rfl,x⟩:=pick (f:=bG) (p:=De.ok) (l:=l) λcs hc=>by obtain⟨a,r,rfl,y,h⟩:=aM (w cs hc);obtain⟨b,r,rfl,z,h⟩:=aM h;obtain⟨c,r,rfl,A,h⟩:=aM h;obtain⟨d,r,rfl,B,h⟩:=aM h;obtain⟨e,r,rfl,E,h⟩:=aM h;obtain⟨f,r,rfl,F,h⟩:=aM h;obtain⟨g,r,rfl,H,h⟩:=aM h;obtain⟨i,r,rfl,I,h⟩:=aM h;obtain⟨j,r,rfl,J,h⟩:=aM h;obtain⟨k,r,rfl,q,h⟩:=aM h;obtain⟨m,r,rfl,s,h⟩:=aM h;obtain⟨n,r,rfl,t,h⟩:=aM h;obtain⟨o,r,rfl,u,h⟩:=aM h;obtain⟨p,r,rfl,v,h⟩:=aM h;cases gK h;obtain⟨k,rfl⟩:=dQ y;obtain⟨dn,rfl⟩:=eJ z;obtain⟨vs,rfl,L⟩:=ahc A;obtain⟨cs,rfl,M,N⟩:=ahi B;obtain⟨n,rfl⟩:=eJ E;obtain⟨tn,rfl⟩:=eJ F;obtain⟨ts,rfl,O,Q⟩:=abD H rfl;obtain⟨fs,rfl,R,U⟩:=ahf I;obtain⟨ek,rfl⟩:=dQ J;obtain⟨em,rfl⟩:=dQ q;obtain⟨en,rfl⟩:=eJ s;obtain⟨ea,rfl⟩:=eJ t;obtain⟨xs,rfl,W,Y⟩:=abF u rfl;obtain⟨ps,rfl,g10,g11⟩:=UU v rfl;exact⟨⟨k,⟨dn,vs,cs⟩,n,.mk tn ts,fs,.mk ek em en ea xs ps⟩,rfl,⟨L,M,N⟩,by rw[Ty.ok];exact⟨O,Q⟩,R,U,by rw[Ex.ok];exact⟨W,Y,g10,g11⟩⟩
 exact⟨xs,rfl,by rw[abh]at hl;omega,x⟩
def zN:∀ {l:List (List D)},(∀ c∈l,1<=fO c)->l.length<=gV l
 |[],_=>by simp
 |c::r,h=>by
  have h1:=h c adN;have h2:=zN λx a=>h x (acl _ a)
  grind [gV]
theorem tD{α:Type}{f:α->List D}{x:α}:∀ {l:List α},x∈l->fO (f x)<=gV (l.map f)
 |[],h=>by cases h
 |y::r,h=>by
  simp only[ads,gV];rcases afS.1 h with rfl|h
  .omega
  .have:=tD (f:=f) h;omega
def aaq(d:D):1<=KQ d:=by cases d<;>simp[KQ]
def kN{d:D}{r:List D}:1<=fO (d::r):=by simp only[fO];have:=aaq d;omega
def ZP(l:List Fu):l.length<=gV (l.map lW):=by
 have:=zN (l:=l.map lW) λc hc=>by obtain⟨⟨n,a,⟨k,m,en,ea,xs,ps⟩⟩,_,rfl⟩:=anT.1 hc;exact kN
 grind
def Ye(l:List Ty):l.length<=gV (cE l):=by
 rw[jg];have:=zN (l:=l.map dL) λc hc=>by obtain⟨⟨n,xs⟩,_,rfl⟩:=anT.1 hc;rw[dL];exact kN
 grind
def QF:∀ l:List Co,(ci l).length<=gV (l.map lF)
 |[]=>by simp[ci]
 |⟨n,xs⟩::r=>by have h1:=QF r;have h2:=Ye xs;simp only[ci,abg,ads,gV,lF,fO,KQ];omega
def afq(d:De):d.fs.length<=fO (bG d)/\(ci d.d.cs).length<=fO (bG d):=by obtain⟨k,⟨dn,vs,cs⟩,n,⟨tn,ts⟩,fs,⟨ek,em,en,ea,xs,ps⟩⟩:=d;have h1:=ZP fs;have h2:=QF cs;simp only[bG,fO,KQ];omega
def gc{t b:Nat}(h:(Tryz.prog.info? t).map (·.bytes)=some b)(hb:b<=1000){m:Nat}(hm:m<=1048576):aG Tryz.prog t m=true:=by
 unfold aG;cases hi:Tryz.prog.info? t with
 |none=>rw[hi]at h;cases h
 |some i =>
  rw[hi]at h;simp only[aoh,acf]at h;simp only[abk];refine⟨acw ?_,acw (by omega)⟩;have h1:Nat.div m 4<=m:=Nat.div_le_self m 4
  calc i.bytes*(m+Nat.div m 4+600)<=1000*(1048576+1048576+600):=Nat.mul_le_mul (by omega) (by omega)
   _<=281474976710656:=by omega
def aaB:(Tryz.prog.info? 86).map (·.bytes)=some 96:=by kernel_rfl
def Xm:(Tryz.prog.info? 144).map (·.bytes)=some 40:=by kernel_rfl
def adt{d:De}(h:d.ok)(hc:fO (bG d)<=1048576):d.ok2:=by obtain⟨h1,h2⟩:=afq d;exact⟨h,λm hm=>gc aaB (by omega) (by omega),λm hm=>gc Xm (by omega) (by omega),by omega⟩
def aif:MP 8 24=some [.sl 22]:=by kernel_rfl
end Go.Proofs.YtpghiabjaglpgaaGreatDoor.Rd
namespace Go.Proofs.YtpghiabjaglpgaaGreatDoor
open Go.AI
section
structure Re where
 c:Bool
 n:Int
structure Ce where
 k:Int
 con:af
 n:Int
 refs:List Re
 nx:Int
structure Fm where
 ex:Int
 en:Int
 dn:List Re
structure To where
 nm:af
 r:Re
inductive Va where
 |mk (con:af) (n:Int) (xs:List Va)
structure Nv where
 nm:af
 v:Va
structure Mc where
 mo:Int
 ex:Int
 en:Int
 vc:Bool
 vn:Int
 fr:List Fm
 ce:List Ce
 to:List To
 bo:Int
 ou:List Nv
 st:Int
def cL(r:Re):List D:=[.bool r.c,.i r.n]
def dw(c:Ce):List D:=[.i c.k,.str c.con,.i c.n,.row 2 (c.refs.map cL),.i c.nx]
def eg(f:Fm):List D:=[.i f.ex,.i f.en,.row 2 (f.dn.map cL)]
def eX(t:To):List D:=[.str t.nm,.bool t.r.c,.i t.r.n]
mutual
def kU:Va->List D
 |.mk c n xs=>(xV c n (ff xs))
def ff:List Va->aQ
 |[]=>[]
 |v::r=>kU v::ff r
end
def gR(x:Nv):List D:=match x.v with
 |.mk c n xs=>[.str x.nm,.str c,.i n,.row 3 (ff xs)]
abbrev bh(m:Mc):List D:=(xM m.mo m.ex m.en m.vc m.vn (.row 3 (m.fr.map eg)) (.row 5 (m.ce.map dw)) (.row 3 (m.to.map eX)) m.bo (.row 4 (m.ou.map gR)) m.st)
def f37{R:aJ}{a:aQ}{d:Mc}{H:DH}:az R 37 [.agg [.row 14 a],.agg (bh d)] H =
 C R 33 [.agg [.row 14 a]] H λa H=>fI a 0 λb=>fI a 1 λa=>aA ab .eql 29 true a (.i 0) λc=>brD c (C R 70 [b,.agg (bh d)] H λc H=>eD .not c λc=>brD c (ret (.tuple [b,.i 70]) H) (ret (.tuple [b,a]) H)) (ret (.tuple [b,a]) H):=by kernel_rfl
def f70{R:aJ}{f:Nat}{h:Mc}{H:DH}:az R 70 [.ptr f 0,.agg (bh h)] H =
 bj H (let a:=H++[.cells 0 [.ptr f 0]];let b:=a++[.cells 0 (bh h)];aB b H.length λ_ c=>ah c 0 λc=>C R 93 [c] b λb c=>aB c a.length λ_ d=>ah d 6 λd=>aP ab 39 d c λd=>aP ab 39 b c λe=>aA ab .lss 3 false d e λd=>brD d (ret (.bool false) c) (aB c a.length λ_ d=>ah d 6 λd=>aP ab 39 b c λe=>cF ab 39 d none (some e) none c λc d=>C R 133 [b,c,.func 134 [] []] d λb c=>eD .not b λb=>brD b (ret (.bool false) c) (aB c a.length λ_ b=>ah b 10 λb=>aA ab .lss 3 true b (.i 0) λb=>brD b (ret (.bool false) c) (aB c a.length λ_ b=>ah b 10 λb=>aA ab .gtr 3 true b (.i 200000) λb=>brD b (ret (.bool false) c) (aB c a.length λ_ b=>ah b 6 λb=>aP ab 39 b c λb=>ac R 70 200005 [.g (.ptr H.length 0),.g (.ptr a.length 0),.g b,.n 0] [] c))))):=by kernel_rfl
def nD{R:aJ}{v2 v3:Nat}{a b:Int}{H:DH}:aF R 70 200005 [.g (.ptr v2 0),.g (.ptr v3 0),.n a,.n b] [] H =
 cond (decide (b<a)) (aB H v2 λ_ c=>ah c 0 λc=>aB H v3 λ_ d=>ah d 0 λe=>ah d 1 λf=>ah d 2 λg=>ah d 3 λh=>ah d 4 λi=>ah d 5 λj=>ah d 6 λk=>ah d 7 λl=>ah d 8 λm=>ah d 9 λn=>ah d 10 λd=>C R 135 [c,.agg [e,f,g,h,i,j,k,l,m,n,d],.i b] H λc H=>eD .not c λc=>brD c (ret (.bool false) H) (ac R 70 200005 [.g (.ptr v2 0),.g (.ptr v3 0),.n a,.n (bm (b+1))] [] H)) (aB H v2 λ_ a=>ah a 0 λa=>aB H v3 λ_ b=>ah b 0 λc=>ah b 1 λd=>ah b 2 λe=>ah b 3 λf=>ah b 4 λg=>ah b 5 λh=>ah b 6 λi=>ah b 7 λj=>ah b 8 λk=>ah b 9 λl=>ah b 10 λb=>C R 136 [a,.agg [c,d,e,f,g,h,i,j,k,l,b]] H λa H=>brD a (aB H v2 λ_ a=>ah a 0 λa=>aB H v3 λ_ b=>ah b 0 λc=>ah b 1 λd=>ah b 2 λe=>ah b 3 λf=>ah b 4 λg=>ah b 5 λh=>ah b 6 λi=>ah b 7 λj=>ah b 8 λk=>ah b 9 λl=>ah b 10 λb=>C R 137 [a,.agg [c,d,e,f,g,h,i,j,k,l,b]] H λa H=>brD a (aB H v3 λ_ a=>ah a 5 λa=>C R 138 [a,.func 139 [] [.ptr v2 0,.ptr v3 0]] H λa H=>eD .not a λa=>ret a H) (ret (.bool false) H)) (ret (.bool false) H)):=by kernel_rfl
def anr{R:aJ}{c:Nat}{b:Mc}{H:DH}:az R 102 [.ptr c 0,.agg (bh b)] H =
 cond (b.mo==1) (cond (decide (b.ex>=0)) (aB H c λ_ a=>ah a 1 λa=>aP ab 90 a H λa=>aA ab .lss 3 false (.i b.ex) a λa=>brD a (bd (R (.call 167 [.agg (bh b),.i b.en] none) H) (λa H=>brD a (cond ((b.vc==false)&&(b.vn==0)) (cond (decide (b.bo>=0)) (aB H c λ_ a=>ah a 5 λa=>aP ab 92 a H λa=>aA ab .lss 3 false (.i b.bo) a λa=>ret a H) (ret (.bool false) H)) (ret (.bool false) H)) (ret (.bool false) H)) λ_ _=>none) (ret (.bool false) H)) (ret (.bool false) H)) (cond (b.mo==2) (cond (b.ex==0) (cond (b.en==(-1)) (bd (R (.call 168 [.agg (bh b),.agg [.bool b.vc,.i b.vn]] none) H) (λa H=>brD a (cond (decide (b.bo>=0)) (aB H c λ_ a=>ah a 5 λa=>aP ab 92 a H λa=>aA ab .lss 3 false (.i b.bo) a λa=>ret a H) (ret (.bool false) H)) (ret (.bool false) H)) λ_ _=>none) (ret (.bool false) H)) (ret (.bool false) H)) (cond (b.mo==3) (cond (b.ex==0) (cond (b.en==(-1)) (cond ((b.vc==false)&&(b.vn==0)) (cond (((b.fr.map eg).length:Int)==0) (aB H c λ_ a=>ah a 5 λa=>aP ab 92 a H λa=>aA ab .eql 3 false (.i b.bo) a λa=>ret a H) (ret (.bool false) H)) (ret (.bool false) H)) (ret (.bool false) H)) (ret (.bool false) H)) (ret (.bool false) H))):=by kernel_rfl
def anq{R:aJ}{c:Nat}{d:Mc}{H:DH}:az R 103 [.ptr c 0,.agg (bh d)] H =
 bj H (C R 166 [.ptr c 0] H λa H=>let b:=H++[.buf 1 true false []];ac R 103 200004 [.g (.ptr c 0),.lp 0 0,.g a,.g (.buf 1 H.length 0),.n 0] [(0,(bh d))] b):=by kernel_rfl
def yq{R:aJ}{e:Nat}{f:D}{a b:Nat}{d:Int}{w0:Mc}{H:DH}:aF R 103 200004 [.g (.ptr e 0),.lp 0 0,.g f,.g (.buf 1 a b),.n d] [(0,(bh w0))] H =
 cond (decide (d<w0.bo)) (aB H e λ_ c=>ah c 5 λc=>ay ab 92 c (.i d) λc=>bI c 3 λc=>bJ ab 4 c H λc=>brD c (aB H e λ_ c=>ah c 5 λc=>ay ab 92 c (.i d) λc=>bI c 0 λc=>bJ ab 9 c H λc=>aj 1 c λc=>bQ (aG ab 9) 1 (.buf 1 a b) [c] H λa H=>ct (.acc 1) 0 a H λa H=>ac R 103 200004 [.g (.ptr e 0),.lp 0 0,.g f,.g a,.n (bm (d+1))] [(0,(bh w0))] H) (aB H e λ_ c=>ah c 5 λc=>ay ab 92 c (.i d) λc=>bI c 0 λc=>bJ ab 9 c H λc=>aj 1 c λc=>bQ (aG ab 9) 1 f [c] H λc H=>ac R 103 200004 [.g (.ptr e 0),.lp 0 0,.g c,.g (.buf 1 a b),.n (bm (d+1))] [(0,(bh w0))] H)) (aP ab 91 f H λc=>aA ab .neq 3 false (.i ((w0.to.map eX).length:Int)) c λc=>brD c (ret (.bool false) H) (cond (((w0.ou.map gR).length:Int) !=(b:Int)) (ret (.bool false) H) (ac R 103 200012 [.lp 0 0,.g f,.g (.buf 1 a b),.n 0] [(0,(bh w0))] H))):=by kernel_rfl
def yp{R:aJ}{f:D}{a b:Nat}{e:Int}{w0:Mc}{H:DH}:aF R 103 200012 [.lp 0 0,.g f,.g (.buf 1 a b),.n e] [(0,(bh w0))] H =
 aP ab 91 f H λc=>aA ab .lss 3 false (.i e) c λc=>brD c (bg e λc=>aX (w0.to.map eX) c λc=>ah c 0 λc=>ay ab 91 f (.i e) λd=>bJ ab 9 d H λd=>aA ab .neq 9 false c d λc=>brD c (ret (.bool false) H) (bg e λc=>aX (w0.to.map eX) c λc=>ah c 1 λd=>ah c 2 λc=>bd (R (.call 168 [.agg (bh w0),.agg [d,c]] none) H) (λc H=>eD .not c λc=>brD c (ret (.bool false) H) (ac R 103 200012 [.lp 0 0,.g f,.g (.buf 1 a b),.n (bm (e+1))] [(0,(bh w0))] H)) λ_ _=>none)) (ac R 103 200017 [.lp 0 0,.g (.buf 1 a b),.n 0] [(0,(bh w0))] H):=by kernel_rfl
def yo{R:aJ}{a b:Nat}{f:Int}{w0:Mc}{H:DH}:aF R 103 200017 [.lp 0 0,.g (.buf 1 a b),.n f] [(0,(bh w0))] H =
 cond (decide (f<(b:Int))) (bg f λc=>aX (w0.ou.map gR) c λc=>ah c 0 λc=>bg f λd=>boK (Nat.blt d b) (cH H a b λ_ _ _ e=>aX e d λd=>ah d 0 λd=>aA ab .neq 9 false c d λc=>brD c (ret (.bool false) H) (bg f λc=>aX (w0.ou.map gR) c λc=>ah c 1 λd=>ah c 2 λe=>ah c 3 λc=>bd (R (.call 162 [.agg [d,e,c]] none) H) (λc H=>eD .not c λc=>brD c (ret (.bool false) H) (ac R 103 200017 [.lp 0 0,.g (.buf 1 a b),.n (bm (f+1))] [(0,(bh w0))] H)) λ_ _=>none))) (ret (.bool true) H):=by kernel_rfl
def anp{R:aJ}{j:Nat}{h:Mc}{g:Int}{H:DH}:az R 104 [.ptr j 0,.agg (bh h),.i g] H =
 bg g λa=>aX (h.ce.map dw) a λa=>ah a 0 λb=>ah a 1 λc=>ah a 2 λd=>ah a 3 λe=>ah a 4 λa=>C R 169 [.agg (bh h),e] H λf H=>eD .not f λf=>brD f (ret (.bool false) H) (aA ab .eql 3 true b (.i 1) λf=>brD f (ac R 104 200007 [.n g,.lp 1 0,.n 0] [(0,[]),(0,[b,c,d,e,a])] H) (aA ab .eql 3 true b (.i 2) λf=>brD f (aA ab .geq 3 true d (.i 0) λb=>brD b (aB H j λ_ b=>ah b 1 λb=>aP ab 90 b H λb=>aA ab .lss 3 false d b λb=>brD b (aA ab .neq 9 true c (.str []) λb=>brD b (aB H j λ_ b=>ah b 1 λb=>ay ab 90 b d λb=>bI b 11 λb=>bJ ab 9 b H λb=>aA ab .eql 9 false b c λb=>brD b (aP ab 109 e H λb=>aA ab .eql 3 true b (.i 0) λb=>brD b (bd (R (.call 167 [.agg (bh h),a] none) H) (λb H=>brD b (aA ab .lss 3 false a (.i g) λa=>ret a H) (ret (.bool false) H)) λ_ _=>none) (ret (.bool false) H)) (ret (.bool false) H)) (ret (.bool false) H)) (ret (.bool false) H)) (ret (.bool false) H)) (aA ab .eql 3 true b (.i 3) λb=>brD b (C R 170 [c] H λb H=>aA ab .neq 3 true b (.i 2) λb=>brD b (ret (.bool false) H) (aA ab .neq 3 true d (.i 0) λb=>brD b (ret (.bool false) H) (aP ab 109 e H λb=>aA ab .neq 3 true b (.i 1) λb=>brD b (ret (.bool false) H) (C R 167 [.agg (bh h),a] H λb H=>eD .not b λb=>brD b (ret (.bool false) H) (aA ab .geq 3 false a (.i g) λa=>brD a (ret (.bool false) H) (ay ab 109 e (.i 0) λa=>bJ ab 37 a H λa=>aj 2 a λa=>aC [.bool false,.i 0] 0 a λa=>ah a 0 λb=>eD .not b λb=>brD b (ret (.bool true) H) (ah a 1 λb=>aA ab .lss 3 false b (.i g) λb=>brD b (ret (.bool true) H) (ah a 1 λb=>aA ab .eql 3 false b (.i (bm (g+1))) λb=>brD b (ah a 1 λb=>ay ab 39 (.row 5 (h.ce.map dw)) b λb=>bI b 0 λb=>bJ ab 3 b H λb=>aA ab .eql 3 true b (.i 2) λb=>brD b (ah a 1 λa=>ay ab 39 (.row 5 (h.ce.map dw)) a λa=>bI a 4 λa=>bJ ab 3 a H λa=>aA ab .eql 3 false a (.i g) λa=>ret a H) (ret (.bool false) H)) (ret (.bool false) H))))))))) (ret (.bool false) H)))):=by kernel_rfl
def yn{R:aJ}{v2 f:Int}{a b c e h:D}{H:DH}:aF R 104 200007 [.n v2,.lp 1 0,.n f] [(0,[]),(0,[a,b,c,e,h])] H =
 aP ab 109 e H λd=>aA ab .lss 3 false (.i f) d λd=>brD d (ay ab 109 e (.i f) λd=>bI d 0 λd=>bJ ab 4 d H λd=>brD d (ay ab 109 e (.i f) λd=>bI d 1 λd=>bJ ab 3 d H λd=>aA ab .geq 3 false d (.i v2) λd=>brD d (ret (.bool false) H) (ac R 104 200007 [.n v2,.lp 1 0,.n (bm (f+1))] [(0,[]),(0,[a,b,c,e,h])] H)) (ac R 104 200007 [.n v2,.lp 1 0,.n (bm (f+1))] [(0,[]),(0,[a,b,c,e,h])] H)) (aA ab .eql 9 true b (.str [44]) λa=>brD a (aP ab 109 e H λa=>aA ab .leq 3 true a (.i 16) λa=>brD a (aA ab .eql 3 true c (.i 0) λa=>brD a (aA ab .eql 3 true h (.i (-1)) λa=>ret a H) (ret (.bool false) H)) (ret (.bool false) H)) (C R 170 [b] H λa H=>aA ab .eql 3 true a (.i 3) λa=>brD a (aP ab 109 e H λa=>aA ab .leq 3 true a (.i 16) λa=>brD a (aA ab .eql 3 true c (.i 0) λa=>brD a (aA ab .eql 3 true h (.i (-1)) λa=>ret a H) (ret (.bool false) H)) (ret (.bool false) H)) (ret (.bool false) H))):=by kernel_rfl
def ano{R:aJ}{e:Nat}{f:Mc}{a b:Int}{c:aQ}{H:DH}:az R 105 [.ptr e 0,.agg (bh f),.agg [.i a,.i b,.row 2 c]] H =
 cond (decide (a<0)) (ret (.bool false) H) (aB H e λ_ d=>ah d 1 λd=>aP ab 90 d H λd=>aA ab .geq 3 false (.i a) d λd=>brD d (ret (.bool false) H) (bd (R (.call 167 [.agg (bh f),.i b] none) H) (λb H=>eD .not b λb=>brD b (ret (.bool false) H) (bd (R (.call 169 [.agg (bh f),.row 2 c] none) H) (λb H=>eD .not b λb=>brD b (ret (.bool false) H) (aB H e λ_ b=>ah b 1 λb=>ay ab 90 b (.i a) λa=>bI a 0 λa=>bJ ab 86 a H λa=>aj 6 a λa=>aC [.i 0,.i 0,.str [],.str [],.nilrow,.nilrow] 0 a λa=>ah a 0 λb=>aA ab .eql 3 true b (.i 6) λd=>brD d (ret (.bool ((c.length:Int)==0)) H) (aA ab .eql 3 true b (.i 8) λd=>brD d (ret (.bool ((c.length:Int)==0)) H) (aA ab .eql 3 true b (.i 3) λd=>brD d (ah a 4 λa=>aP ab 83 a H λa=>aA ab .lss 3 false (.i c.length) a λa=>ret a H) (aA ab .eql 3 true b (.i 4) λd=>brD d (ah a 4 λa=>aP ab 83 a H λa=>aA ab .lss 3 false (.i c.length) a λa=>ret a H) (aA ab .eql 3 true b (.i 9) λb=>brD b (ah a 4 λa=>aP ab 83 a H λa=>aA ab .lss 3 false (.i c.length) a λa=>ret a H) (ret (.bool false) H))))))) λ_ _=>none)) λ_ _=>none)):=by kernel_rfl
def f137{R:aJ}{d:Nat}{c:Mc}{H:DH}:az R 137 [.ptr d 0,.agg (bh c)] H =
 bj H (bd (R (.call 165 [.ptr d 0] none) H) (λa H=>bd (R (.call 206 [.ptr d 0,.i 4,.i c.bo] none) H) (λb H=>CU b H 1 λb=>bQ (aG ab 9) 1 a b H λa H=>aP ab 91 a H λb=>aA ab .neq 3 false b (.i ((c.to.map eX).length:Int)) λb=>brD b (ret (.bool false) H) (ac R 137 200005 [.g (.ptr d 0),.lp 0 0,.g a,.g (.row 3 (c.to.map eX)),.n ((c.to.map eX).length:Int),.n 0] [(0,(bh c))] H)) λ_ _=>none) λ_ _=>none):=by kernel_rfl
def xN{R:aJ}{h:Nat}{j:D}{a:aQ}{b c:Int}{w0:Mc}{H:DH}:aF R 137 200005 [.g (.ptr h 0),.lp 0 0,.g j,.g (.row 3 a),.n b,.n c] [(0,(bh w0))] H =
 cond (decide (c<b)) (bg c λd=>aX a d λd=>ah d 0 λe=>ah d 1 λf=>ah d 2 λd=>ay ab 91 j (.i c) λg=>bJ ab 9 g H λg=>aA ab .neq 9 false e g λe=>brD e (ret (.bool false) H) (bd (R (.call 204 [.agg (bh w0),.agg [f,d],.i ((w0.ce.map dw).length:Int)] none) H) (λd H=>eD .not d λd=>brD d (ret (.bool false) H) (ac R 137 200005 [.g (.ptr h 0),.lp 0 0,.g j,.g (.row 3 a),.n b,.n (bm (c+1))] [(0,(bh w0))] H)) λ_ _=>none)) (C R 206 [.ptr h 0,.i 5,.i w0.bo] H λa H=>aP ab 91 a H λb=>aA ab .neq 3 false b (.i ((w0.ou.map gR).length:Int)) λb=>brD b (ret (.bool false) H) (ac R 137 200014 [.g a,.g (.row 4 (w0.ou.map gR)),.n ((w0.ou.map gR).length:Int),.n 0] [] H)):=by kernel_rfl
def xL{R:aJ}{j:D}{a:aQ}{b c:Int}{H:DH}:aF R 137 200014 [.g j,.g (.row 4 a),.n b,.n c] [] H =
 cond (decide (c<b)) (bg c λd=>aX a d λd=>ah d 0 λe=>ah d 1 λf=>ah d 2 λg=>ah d 3 λd=>ay ab 91 j (.i c) λh=>bJ ab 9 h H λh=>aA ab .neq 9 false e h λe=>brD e (ret (.bool false) H) (bd (R (.call 207 [.agg [f,g,d]] none) H) (λd H=>aA ab .neq 29 true d (.i 0) λd=>brD d (ret (.bool false) H) (ac R 137 200014 [.g j,.g (.row 4 a),.n b,.n (bm (c+1))] [] H)) λ_ _=>none)) (ret (.bool true) H):=by kernel_rfl
def amN{R:aJ}{q:Nat}{r:Mc}{a b:Int}{c:aQ}{H:DH}:az R 140 [.ptr q 0,.agg (bh r),.agg [.i a,.i b,.row 2 c]] H =
 bj H (let d:=H++[.cells 0 (bh r)];cond (decide (a<0)) (ret (.bool false) d) (aB d q λ_ e=>ah e 1 λe=>aP ab 78 e d λe=>aA ab .geq 3 false (.i a) e λe=>brD e (ret (.bool false) d) (aB d H.length λ_ e=>ah e 0 λf=>ah e 1 λg=>ah e 2 λh=>ah e 3 λi=>ah e 4 λj=>ah e 5 λk=>ah e 6 λl=>ah e 7 λm=>ah e 8 λn=>ah e 9 λo=>ah e 10 λe=>aB d H.length λ_ p=>ah p 6 λp=>aP ab 39 p d λp=>bd (R (.call 205 [.agg [f,g,h,i,j,k,l,m,n,o,e],.i b,p] none) d) (λd e=>eD .not d λd=>brD d (ret (.bool false) e) (aB e q λ_ d=>ah d 1 λd=>ay ab 78 d (.i a) λd=>bJ ab 88 d e λd=>aj 11 d λd=>aC [.i 0,.i 0,.str [],.str [],.nilrow,.nilrow,.i 0,.i 0,.nilrow,.i 0,.nilrow] 0 d λd=>ah d 4 λf=>aP ab 83 f e λf=>aA ab .sub 3 true f (.i 1) λf=>ah d 0 λd=>aA ab .eql 3 true d (.i 6) λg=>brD g (ac R 140 13 [.g (.ptr H.length 0),.lp 0 0,.n 0] [(0,[.i a,.i b,.row 2 c])] e) (aA ab .eql 3 true d (.i 8) λg=>brD g (ac R 140 13 [.g (.ptr H.length 0),.lp 0 0,.n 0] [(0,[.i a,.i b,.row 2 c])] e) (aA ab .eql 3 true d (.i 3) λg=>brD g (ac R 140 13 [.g (.ptr H.length 0),.lp 0 0,.g f] [(0,[.i a,.i b,.row 2 c])] e) (aA ab .eql 3 true d (.i 4) λg=>brD g (ac R 140 13 [.g (.ptr H.length 0),.lp 0 0,.g f] [(0,[.i a,.i b,.row 2 c])] e) (aA ab .eql 3 true d (.i 9) λd=>brD d (ac R 140 13 [.g (.ptr H.length 0),.lp 0 0,.g f] [(0,[.i a,.i b,.row 2 c])] e) (ret (.bool false) e))))))) λ_ _=>none))):=by kernel_rfl
def aab{R:aJ}{d:Nat}{e a b:Int}{c:aQ}{H:DH}:aF R 140 13 [.g (.ptr d 0),.lp 0 0,.n e] [(0,[.i a,.i b,.row 2 c])] H =
 cond (decide ((c.length:Int)<=e)) (C R 202 [.row 2 c,.func 209 [] [.ptr d 0]] H λa H=>eD .not a λa=>ret a H) (ret (.bool false) H):=by kernel_rfl
def amL{R:aJ}{c:Mc}{b:Int}{H:DH}:az R 167 [.agg (bh c),.i b] H =
 cond (b==(-1)) (ret (.bool true) H) (cond (decide (b>=0)) (cond (decide (b<((c.ce.map dw).length:Int))) (bg b λa=>aX (c.ce.map dw) a λa=>ah a 0 λa=>aA ab .eql 3 true a (.i 3) λa=>ret a H) (ret (.bool false) H)) (ret (.bool false) H)):=by kernel_rfl
def f169{R:aJ}{a:Mc}{b:aQ}{H:DH}:az R 169 [.agg (bh a),.row 2 b] H =
 ac R 169 200002 [.g (.row 2 b),.lp 0 0,.n 0] [(0,(bh a))] H:=by kernel_rfl
def xI{R:aJ}{v1:aQ}{c:Int}{w0:Mc}{H:DH}:aF R 169 200002 [.g (.row 2 v1),.lp 0 0,.n c] [(0,(bh w0))] H =
 cond (decide (c<v1.length)) (bg c λa=>aX v1 a λa=>ah a 0 λb=>ah a 1 λa=>bd (R (.call 168 [.agg (bh w0),.agg [b,a]] none) H) (λa H=>eD .not a λa=>brD a (ret (.bool false) H) (ac R 169 200002 [.g (.row 2 v1),.lp 0 0,.n (bm (c+1))] [(0,(bh w0))] H)) λ_ _=>none) (ret (.bool true) H):=by kernel_rfl
def amp{R:aJ}{a:Bool}{b:Int}{c e:Nat}{H:DH}:az R 203 [.agg [.bool a,.i b],.ptr c 0,.ptr e 0] H =
 aB H c λ_ c=>ah c 0 λd=>ah c 1 λf=>ah c 2 λg=>ah c 3 λh=>ah c 4 λi=>ah c 5 λj=>ah c 6 λk=>ah c 7 λl=>ah c 8 λm=>ah c 9 λn=>ah c 10 λc=>aB H e λ_ e=>ah e 0 λe=>C R 204 [.agg [d,f,g,h,i,j,k,l,m,n,c],.agg [.bool a,.i b],e] H λa H=>eD .not a λa=>ret a H:=by kernel_rfl
def amn{R:aJ}{d:Nat}{e f:Int}{H:DH}:az R 206 [.ptr d 0,.i e,.i f] H =
 let a:=H++[.buf 1 true false []];aB a d λ_ b=>ah b 3 λb=>cF ab 25 b none (some (.i f)) none a λa b=>aP ab 25 a b λc=>ac R 206 200003 [.g (.ptr d 0),.n e,.g (.buf 1 H.length 0),.g a,.g c,.n 0] [] b:=by kernel_rfl
def xq{R:aJ}{j:Nat}{v1:Int}{a b:Nat}{c:D}{e h:Int}{H:DH}:aF R 206 200003 [.g (.ptr j 0),.n v1,.g (.buf 1 a b),.g c,.n e,.n h] [] H =
 cond (decide (h<e)) (ay ab 25 c (.i h) λd=>bJ ab 3 d H λd=>aB H j λ_ f=>ah f 2 λf=>ay ab 79 f d λf=>bI f 6 λf=>bJ ab 3 f H λf=>aA ab .eql 3 false f (.i v1) λf=>brD f (aB H j λ_ f=>ah f 2 λf=>ay ab 79 f d λd=>bI d 4 λd=>bJ ab 9 d H λd=>aj 1 d λd=>bQ (aG ab 9) 1 (.buf 1 a b) [d] H λa H=>ct (.acc 1) 0 a H λa H=>ac R 206 200003 [.g (.ptr j 0),.n v1,.g a,.g c,.n e,.n (bm (h+1))] [] H) (ac R 206 200003 [.g (.ptr j 0),.n v1,.g (.buf 1 a b),.g c,.n e,.n (bm (h+1))] [] H)) (ret (.buf 1 a b) H):=by kernel_rfl
def f225{R:aJ}{a:af}{b:Int}{c:aQ}{H:DH}:az R 225 [.agg (xV a b c)] H =
 ac R 225 200002 [.lp 0 0,.n 0] [(0,xV a b c)] H:=by kernel_rfl
def xh{R:aJ}{v3:Int}{a:af}{b:Int}{c:aQ}{H:DH}:aF R 225 200002 [.lp 0 0,.n v3] [(0,xV a b c)] H =
 cond (decide (v3<c.length)) (bg v3 λd=>aX c d λd=>ah d 0 λe=>ah d 1 λf=>ah d 2 λd=>C R 225 [.agg [e,f,d]] H λd H=>eD .not d λd=>brD d (ret (.bool false) H) (ac R 225 200002 [.lp 0 0,.n (bm (v3+1))] [(0,xV a b c)] H)) (cond (a==[]) (ret (.bool ((c.length:Int)==0)) H) (cond (a==[44]) (cond (b==0) (cond (decide ((c.length:Int)>=2)) (ret (.bool (decide ((c.length:Int)<=4))) H) (ret (.bool false) H)) (ret (.bool false) H)) (cond (b==0) (C R 170 [.str a] H λa H=>aA ab .eql 3 true a (.i 3) λa=>brD a (ret (.bool (decide ((c.length:Int)<=16))) H) (ret (.bool false) H)) (ret (.bool false) H)))):=by kernel_rfl
def f51{R:aJ}{c:Nat}{b:Mc}{H:DH}:az R 51 [.ptr c 0,.agg (bh b)] H =
 bd (R (.call 102 [.ptr c 0,.agg (bh b)] none) H) (λa H=>eD .not a λa=>brD a (ret (.bool false) H) (cond (decide (b.st<0)) (ret (.bool false) H) (cond (decide (b.st>200000)) (ret (.bool false) H) (aB H c λ_ a=>ah a 2 λa=>aP ab 39 a H λa=>aA ab .lss 3 false (.i ((b.ce.map dw).length:Int)) a λa=>brD a (ret (.bool false) H) (bd (R (.call 103 [.ptr c 0,.agg (bh b)] none) H) (λa H=>eD .not a λa=>brD a (ret (.bool false) H) (ac R 51 200004 [.g (.ptr c 0),.lp 0 0,.n 0] [(0,(bh b))] H)) λ_ _=>none))))) λ_ _=>none:=by kernel_rfl
def Cx{R:aJ}{h:Nat}{j:Int}{w0:Mc}{H:DH}:aF R 51 200004 [.g (.ptr h 0),.lp 0 0,.n j] [(0,(bh w0))] H =
 aB H h λ_ a=>ah a 2 λa=>aP ab 39 a H λa=>aA ab .lss 3 false (.i j) a λa=>brD a (bg j λa=>aX (w0.ce.map dw) a λa=>ah a 0 λb=>ah a 1 λc=>ah a 2 λd=>ah a 3 λe=>ah a 4 λa=>aB H h λ_ f=>ah f 2 λf=>ay ab 39 f (.i j) λf=>bJ ab 115 f H λf=>bd (R (.call 44 [.agg [b,c,d,e,a],f] none) H) (λa H=>eD .not a λa=>brD a (ret (.bool false) H) (ac R 51 200004 [.g (.ptr h 0),.lp 0 0,.n (bm (j+1))] [(0,(bh w0))] H)) λ_ _=>none) (ac R 51 200009 [.g (.ptr h 0),.lp 0 0,.n 0] [(0,(bh w0))] H):=by kernel_rfl
def Cw{R:aJ}{b:Nat}{v6:Int}{w0:Mc}{H:DH}:aF R 51 200009 [.g (.ptr b 0),.lp 0 0,.n v6] [(0,(bh w0))] H =
 cond (decide (v6<((w0.ce.map dw).length:Int))) (C R 104 [.ptr b 0,.agg (bh w0),.i v6] H λa H=>eD .not a λa=>brD a (ret (.bool false) H) (ac R 51 200009 [.g (.ptr b 0),.lp 0 0,.n (bm (v6+1))] [(0,(bh w0))] H)) (ac R 51 200014 [.g (.ptr b 0),.lp 0 0,.n 0] [(0,(bh w0))] H):=by kernel_rfl
def Cv{R:aJ}{e:Nat}{d:Int}{w0:Mc}{H:DH}:aF R 51 200014 [.g (.ptr e 0),.lp 0 0,.n d] [(0,(bh w0))] H =
 cond (decide (d<((w0.fr.map eg).length:Int))) (bg d λa=>aX (w0.fr.map eg) a λa=>ah a 0 λb=>ah a 1 λc=>ah a 2 λa=>bd (R (.call 105 [.ptr e 0,.agg (bh w0),.agg [b,c,a]] none) H) (λa H=>eD .not a λa=>brD a (ret (.bool false) H) (ac R 51 200014 [.g (.ptr e 0),.lp 0 0,.n (bm (d+1))] [(0,(bh w0))] H)) λ_ _=>none) (ret (.bool true) H):=by kernel_rfl
def amR{R:aJ}{a b:aQ}{c:D}{H:DH}:az R 133 [.row 5 a,.row 5 b,c] H =
 cond ((a.length:Int) !=(b.length:Int)) (ret (.bool false) H) (ac R 133 200004 [.g (.row 5 b),.g c,.g (.row 5 a),.n a.length,.n 0] [] H):=by kernel_rfl
def xO{R:aJ}{v1:aQ}{v2:D}{a:aQ}{b c:Int}{H:DH}:aF R 133 200004 [.g (.row 5 v1),.g v2,.g (.row 5 a),.n b,.n c] [] H =
 cond (decide (c<b)) (bg c λd=>aX a d λd=>ah d 0 λe=>ah d 1 λf=>ah d 2 λg=>ah d 3 λh=>ah d 4 λd=>bg c λi=>aX v1 i λi=>ah i 0 λj=>ah i 1 λk=>ah i 2 λl=>ah i 3 λm=>ah i 4 λi=>fH bF v2 λn o p=>C R n (o++([.agg [e,f,g,h,d],.agg [j,k,l,m,i]]++p)) H λd H=>eD .not d λd=>brD d (ret (.bool false) H) (ac R 133 200004 [.g (.row 5 v1),.g v2,.g (.row 5 a),.n b,.n (bm (c+1))] [] H)) (ret (.bool true) H):=by kernel_rfl
def amP{R:aJ}{c:Nat}{b:Mc}{H:DH}:az R 136 [.ptr c 0,.agg (bh b)] H =
 cond (b.mo==1) (cond (decide (b.ex>=0)) (aB H c λ_ a=>ah a 1 λa=>aP ab 78 a H λa=>aA ab .lss 3 false (.i b.ex) a λa=>brD a (bd (R (.call 205 [.agg (bh b),.i b.en,.i ((b.ce.map dw).length:Int)] none) H) (λa H=>brD a (cond ((b.vc==false)&&(b.vn==0)) (cond (decide (b.bo>=0)) (aB H c λ_ a=>ah a 3 λa=>aP ab 25 a H λa=>aA ab .lss 3 false (.i b.bo) a λa=>ret a H) (ret (.bool false) H)) (ret (.bool false) H)) (ret (.bool false) H)) λ_ _=>none) (ret (.bool false) H)) (ret (.bool false) H)) (cond (b.mo==2) (cond (b.ex==0) (cond (b.en==(-1)) (bd (R (.call 204 [.agg (bh b),.agg [.bool b.vc,.i b.vn],.i ((b.ce.map dw).length:Int)] none) H) (λa H=>brD a (cond (decide (b.bo>=0)) (aB H c λ_ a=>ah a 3 λa=>aP ab 25 a H λa=>aA ab .lss 3 false (.i b.bo) a λa=>ret a H) (ret (.bool false) H)) (ret (.bool false) H)) λ_ _=>none) (ret (.bool false) H)) (ret (.bool false) H)) (cond (b.mo==3) (cond (b.ex==0) (cond (b.en==(-1)) (cond ((b.vc==false)&&(b.vn==0)) (cond (((b.fr.map eg).length:Int)==0) (aB H c λ_ a=>ah a 3 λa=>aP ab 25 a H λa=>aA ab .eql 3 false (.i b.bo) a λa=>ret a H) (ret (.bool false) H)) (ret (.bool false) H)) (ret (.bool false) H)) (ret (.bool false) H)) (ret (.bool false) H))):=by kernel_rfl
def f138{R:aJ}{b:aQ}{c:D}{H:DH}:az R 138 [.row 3 b,c] H =
 C R 208 [.row 3 b,c] H λa H=>aA ab .geq 3 true a (.i 0) λa=>ret a H:=by kernel_rfl
def amO{R:aJ}{a b:Int}{c:aQ}{e g:Nat}{H:DH}:az R 139 [.agg [.i a,.i b,.row 2 c],.ptr e 0,.ptr g 0] H =
 aB H e λ_ d=>ah d 0 λd=>aB H g λ_ e=>ah e 0 λf=>ah e 1 λg=>ah e 2 λh=>ah e 3 λi=>ah e 4 λj=>ah e 5 λk=>ah e 6 λl=>ah e 7 λm=>ah e 8 λn=>ah e 9 λo=>ah e 10 λe=>C R 140 [d,.agg [f,g,h,i,j,k,l,m,n,o,e],.agg [.i a,.i b,.row 2 c]] H λa H=>eD .not a λa=>ret a H:=by kernel_rfl
def amM{R:aJ}{a:af}{b:Int}{c:aQ}{H:DH}:az R 162 [.agg (xV a b c)] H =
 C R 224 [.agg (xV a b c),.i 4000] H λd H=>aA ab .leq 3 true d (.i 4000) λd=>brD d (C R 225 [.agg (xV a b c)] H λa H=>ret a H) (ret (.bool false) H):=by kernel_rfl
def f165{R:aJ}{d:Nat}{H:DH}:az R 165 [.ptr d 0] H =
 let a:=H++[.buf 1 true false []];aB a d λ_ b=>ah b 0 λb=>aP ab 22 b a λc=>ac R 165 200003 [.g (.buf 1 H.length 0),.g b,.g c,.n 0] [] a:=by kernel_rfl
def xK{R:aJ}{a b:Nat}{c:D}{e h:Int}{H:DH}:aF R 165 200003 [.g (.buf 1 a b),.g c,.n e,.n h] [] H =
 cond (decide (h<e)) (ay ab 22 c (.i h) λd=>bJ ab 147 d H λd=>aj 14 d λd=>aC [.i 0,.str [],.nilrow,.nilrow,.str [],.str [],.nilrow,.nilrow,.i 0,.i 0,.str [],.str [],.nilrow,.nilrow] 0 d λd=>ah d 0 λf=>aA ab .eql 3 true f (.i 2) λf=>brD f (ah d 4 λd=>aj 1 d λd=>bQ (aG ab 9) 1 (.buf 1 a b) [d] H λa H=>ct (.acc 1) 0 a H λa H=>ac R 165 200003 [.g a,.g c,.n e,.n (bm (h+1))] [] H) (ac R 165 200003 [.g (.buf 1 a b),.g c,.n e,.n (bm (h+1))] [] H)) (ret (.buf 1 a b) H):=by kernel_rfl
def amK{R:aJ}{c:Mc}{a:Bool}{b:Int}{H:DH}:az R 168 [.agg (bh c),.agg [.bool a,.i b]] H =
 cond (!a) (ret (.bool true) H) (cond (decide (b<0)) (ret (.bool false) H) (cond (decide (b>=((c.ce.map dw).length:Int))) (ret (.bool false) H) (bg b λa=>aX (c.ce.map dw) a λa=>ah a 0 λa=>aA ab .eql 3 true a (.i 1) λa=>brD a (ret (.bool true) H) (bg b λa=>aX (c.ce.map dw) a λa=>ah a 0 λa=>aA ab .eql 3 true a (.i 2) λa=>ret a H)))):=by kernel_rfl
def amq{R:aJ}{b:aQ}{c:D}{H:DH}:az R 202 [.row 2 b,c] H =
 C R 262 [.row 2 b,c] H λa H=>aA ab .geq 3 true a (.i 0) λa=>ret a H:=by kernel_rfl
def f205{R:aJ}{c:Mc}{b d:Int}{H:DH}:az R 205 [.agg (bh c),.i b,.i d] H =
 cond (b==(-1)) (ret (.bool true) H) (cond (decide (b>=0)) (cond (decide (b<d)) (bg b λa=>aX (c.ce.map dw) a λa=>ah a 0 λa=>aA ab .eql 3 true a (.i 3) λa=>ret a H) (ret (.bool false) H)) (ret (.bool false) H)):=by kernel_rfl
def aml{R:aJ}{a:aQ}{b:D}{H:DH}:az R 208 [.row 3 a,b] H =
 ac R 208 200002 [.g (.row 3 a),.g b,.n a.length,.n 0] [] H:=by kernel_rfl
def xo{R:aJ}{j:aQ}{v1:D}{k h:Int}{H:DH}:aF R 208 200002 [.g (.row 3 j),.g v1,.n k,.n h] [] H =
 cond (decide (h<k)) (bg h λa=>aX j a λa=>ah a 0 λb=>ah a 1 λc=>ah a 2 λa=>fH bF v1 λd e f=>C R d (e++([.agg [b,c,a]]++f)) H λa H=>brD a (ret (.i h) H) (ac R 208 200002 [.g (.row 3 j),.g v1,.n k,.n (bm (h+1))] [] H)) (ret (.i (-1)) H):=by kernel_rfl
def f224{R:aJ}{a:af}{b:Int}{c:aQ}{d:Int}{H:DH}:az R 224 [.agg (xV a b c),.i d] H =
 ac R 224 200003 [.n d,.lp 0 0,.n 1,.n 0] [(0,xV a b c)] H:=by kernel_rfl
def xl{R:aJ}{v1 h v6:Int}{a:af}{b:Int}{c:aQ}{H:DH}:aF R 224 200003 [.n v1,.lp 0 0,.n h,.n v6] [(0,xV a b c)] H =
 cond (decide (v6<c.length)) (cond (decide (h<=v1)) (bg v6 λd=>aX c d λd=>ah d 0 λe=>ah d 1 λf=>ah d 2 λd=>C R 224 [.agg [e,f,d],.i (bm (v1 - h))] H λd H=>aA ab .add 3 false (.i h) d λd=>ac R 224 200003 [.n v1,.lp 0 0,.g d,.n (bm (v6+1))] [(0,xV a b c)] H) (ret (.i h) H)) (ret (.i h) H):=by kernel_rfl
def aff{R:aJ}{d e:Nat}{H:DH}:az R 263 [.ptr d 0,.ptr e 0] H =
 aB H e λ_ a=>ah a 0 λa=>aA ab .add 3 true a (.i 1) λa=>aj 1 a λa=>aB H e λb c=>aC c 0 a λa=>let H:=H.set e (.cells (b+1) a);aB H d λ_ a=>ah a 2 λa=>aP ab 70 a H λa=>aB H e λ_ b=>ah b 0 λb=>aA ab .gtr 3 true b (.i 4000) λb=>brD b (ret (.bool false) H) (aB H d λ_ b=>ah b 0 λb=>aA ab .eql 9 true b (.str []) λb=>brD b (aA ab .eql 3 true a (.i 0) λa=>ret a H) (aB H d λ_ b=>ah b 1 λb=>aA ab .neq 3 true b (.i 0) λb=>brD b (ret (.bool false) H) (aA ab .gtr 3 true a (.i 16) λb=>brD b (ret (.bool false) H) (aB H d λ_ b=>ah b 0 λb=>aA ab .eql 9 true b (.str [44]) λb=>brD b (aA ab .lss 3 true a (.i 2) λb=>brD b (ret (.bool false) H) (aA ab .gtr 3 true a (.i 4) λa=>brD a (ret (.bool false) H) (aB H d λ_ a=>ah a 0 λa=>aA ab .neq 9 true a (.str [44]) λa=>brD a (aB H d λ_ a=>ah a 0 λa=>C R 201 [a] H λa H=>eD .not a λa=>brD a (ret (.bool false) H) (aB H d λ_ a=>ah a 2 λa=>aP ab 70 a H λa=>ac R 263 200013 [.g (.ptr d 0),.g (.ptr e 0),.g a,.n 0] [] H)) (aB H d λ_ a=>ah a 2 λa=>aP ab 70 a H λa=>ac R 263 200013 [.g (.ptr d 0),.g (.ptr e 0),.g a,.n 0] [] H)))) (aB H d λ_ a=>ah a 0 λa=>aA ab .neq 9 true a (.str [44]) λa=>brD a (aB H d λ_ a=>ah a 0 λa=>C R 201 [a] H λa H=>eD .not a λa=>brD a (ret (.bool false) H) (aB H d λ_ a=>ah a 2 λa=>aP ab 70 a H λa=>ac R 263 200013 [.g (.ptr d 0),.g (.ptr e 0),.g a,.n 0] [] H)) (aB H d λ_ a=>ah a 2 λa=>aP ab 70 a H λa=>ac R 263 200013 [.g (.ptr d 0),.g (.ptr e 0),.g a,.n 0] [] H)))))):=by kernel_rfl
def f25{R:aJ}{a:aQ}{d:Mc}{H:DH}:az R 25 [.agg [.row 14 a],.agg (bh d)] H =
 bj H (C R 35 [.agg [.row 14 a]] H λb H=>aA ab .eql 29 true b (.i 0) λc=>brD c (bd (R (.call 36 [.agg [.row 14 a]] none) H) (λa H=>bd (R (.call 51 [a,.agg (bh d)] none) H) (λa H=>eD .not a λa=>brD a (ret (.i 70) H) (ret b H)) λ_ _=>none) λ_ _=>none) (ret b H)):=by kernel_rfl
def f93{R:aJ}{d:Nat}{H:DH}:az R 93 [.ptr d 0] H =
 bj H (let a:=H++[.buf 5 true false []];aB a d λ_ b=>ah b 4 λb=>aP ab 25 b a λc=>ac R 93 200003 [.g (.ptr d 0),.g (.buf 5 H.length 0),.g b,.g c,.n 0] [] a):=by kernel_rfl
def Ca{R:aJ}{h a b:Nat}{j:D}{c e:Int}{H:DH}:aF R 93 200003 [.g (.ptr h 0),.g (.buf 5 a b),.g j,.n c,.n e] [] H =
 cond (decide (e<c)) (ay ab 25 j (.i e) λd=>bJ ab 3 d H λd=>aB H h λ_ f=>ah f 2 λf=>ay ab 79 f d λf=>bI f 5 λf=>bJ ab 9 f H λf=>aB H h λ_ g=>ah g 2 λg=>ay ab 79 g d λd=>bI d 0 λd=>bJ ab 3 d H λd=>aj 1 f λf=>aC [.i 2,.str [],.i 0,.nilrow,.i 0] 1 f λf=>aj 1 d λd=>aC f 2 d λd=>aC d 4 [.i (-1)] λd=>aj 5 (.agg d) λd=>bQ (aG ab 115) 5 (.buf 5 a b) [d] H λa H=>ct (.acc 5) 0 a H λa H=>ac R 93 200003 [.g (.ptr h 0),.g a,.g j,.n c,.n (bm (e+1))] [] H) (eZ (.fz 5) (.buf 5 a b) H λa H=>ret a H):=by kernel_rfl
def amQ{R:aJ}{q:Nat}{r:Mc}{s:Int}{H:DH}:az R 135 [.ptr q 0,.agg (bh r),.i s] H =
 bj H (let a:=H++[.cells 0 (bh r)];let b:=a++[.cells 0 [.i s]];aB b H.length λ_ c=>ah c 6 λc=>aB b a.length λ_ d=>ah d 0 λd=>ay ab 39 c d λc=>bJ ab 115 c b λc=>aj 5 c λc=>aC [.i 0,.str [],.i 0,.nilrow,.i 0] 0 c λc=>ah c 0 λd=>aA ab .eql 3 true d (.i 1) λe=>brD e (ah c 1 λd=>aA ab .eql 9 true d (.str [44]) λd=>brD d (ah c 3 λd=>aP ab 109 d b λd=>aA ab .leq 3 true d (.i 16) λd=>brD d (ah c 2 λd=>aA ab .eql 3 true d (.i 0) λd=>brD d (ah c 4 λd=>aA ab .eql 3 true d (.i (-1)) λd=>brD d (ah c 3 λc=>C R 202 [c,.func 203 [] [.ptr H.length 0,.ptr a.length 0]] b λa H=>eD .not a λa=>ret a H) (ret (.bool false) b)) (ret (.bool false) b)) (ret (.bool false) b)) (ah c 1 λd=>C R 201 [d] b λb d=>brD b (ah c 3 λb=>aP ab 109 b d λb=>aA ab .leq 3 true b (.i 16) λb=>brD b (ah c 2 λb=>aA ab .eql 3 true b (.i 0) λb=>brD b (ah c 4 λb=>aA ab .eql 3 true b (.i (-1)) λb=>brD b (ah c 3 λb=>C R 202 [b,.func 203 [] [.ptr H.length 0,.ptr a.length 0]] d λa H=>eD .not a λa=>ret a H) (ret (.bool false) d)) (ret (.bool false) d)) (ret (.bool false) d)) (ret (.bool false) d))) (aA ab .eql 3 true d (.i 2) λe=>brD e (aB b q λ_ d=>ah d 5 λd=>ah c 2 λe=>oa ab 80 d e true b λd=>fI d 0 λe=>fI d 1 λd=>brD d (ah c 1 λd=>C R 187 [d] b λb d=>brD b (ah c 1 λb=>aA ab .eql 9 false e b λb=>brD b (ah c 3 λb=>aP ab 109 b d λb=>aA ab .eql 3 true b (.i 0) λb=>brD b (aB d H.length λ_ b=>ah b 0 λe=>ah b 1 λf=>ah b 2 λg=>ah b 3 λh=>ah b 4 λi=>ah b 5 λj=>ah b 6 λk=>ah b 7 λl=>ah b 8 λm=>ah b 9 λn=>ah b 10 λb=>ah c 4 λc=>aB d a.length λ_ a=>ah a 0 λa=>C R 205 [.agg [e,f,g,h,i,j,k,l,m,n,b],c,a] d λa H=>ret a H) (ret (.bool false) d)) (ret (.bool false) d)) (ret (.bool false) d)) (ret (.bool false) b)) (aA ab .eql 3 true d (.i 3) λd=>brD d (ah c 1 λd=>C R 187 [d] b λb d=>eD .not b λb=>brD b (ret (.bool false) d) (ah c 2 λb=>aA ab .neq 3 true b (.i 0) λb=>brD b (ret (.bool false) d) (ah c 3 λb=>aP ab 109 b d λb=>aA ab .neq 3 true b (.i 1) λb=>brD b (ret (.bool false) d) (aB d H.length λ_ b=>ah b 0 λe=>ah b 1 λf=>ah b 2 λg=>ah b 3 λh=>ah b 4 λi=>ah b 5 λj=>ah b 6 λk=>ah b 7 λl=>ah b 8 λm=>ah b 9 λn=>ah b 10 λb=>ah c 4 λo=>aB d a.length λ_ p=>ah p 0 λp=>C R 205 [.agg [e,f,g,h,i,j,k,l,m,n,b],o,p] d λb d=>eD .not b λb=>brD b (ret (.bool false) d) (ah c 3 λb=>ay ab 109 b (.i 0) λb=>bJ ab 37 b d λb=>aB d a.length λ_ e=>ah e 0 λe=>aA ab .add 3 true e (.i 1) λe=>aj 1 e λe=>aC [.bool true,.i 0] 1 e λe=>aA ab .eql 37 false b (.agg e) λb=>brD b (aB d a.length λ_ b=>ah b 0 λb=>aA ab .add 3 true b (.i 1) λb=>aB d H.length λ_ c=>ah c 6 λc=>aP ab 39 c d λc=>aA ab .lss 3 false b c λb=>brD b (aB d H.length λ_ b=>ah b 6 λb=>aB d a.length λ_ c=>ah c 0 λc=>aA ab .add 3 true c (.i 1) λc=>ay ab 39 b c λb=>bI b 0 λb=>bJ ab 3 b d λb=>aA ab .eql 3 true b (.i 2) λb=>brD b (aB d H.length λ_ b=>ah b 6 λb=>aB d a.length λ_ c=>ah c 0 λc=>aA ab .add 3 true c (.i 1) λc=>ay ab 39 b c λb=>bI b 4 λb=>bJ ab 3 b d λb=>aB d a.length λ_ a=>ah a 0 λa=>aA ab .eql 3 false b a λa=>ret a d) (ret (.bool false) d)) (ret (.bool false) d)) (aB d H.length λ_ b=>ah b 0 λe=>ah b 1 λf=>ah b 2 λg=>ah b 3 λh=>ah b 4 λi=>ah b 5 λj=>ah b 6 λk=>ah b 7 λl=>ah b 8 λm=>ah b 9 λn=>ah b 10 λb=>ah c 3 λc=>ay ab 109 c (.i 0) λc=>bJ ab 37 c d λc=>aB d a.length λ_ a=>ah a 0 λa=>bd (R (.call 204 [.agg [e,f,g,h,i,j,k,l,m,n,b],c,a] none) d) (λa H=>ret a H) λ_ _=>none)))))) (ret (.bool false) b)))):=by kernel_rfl
def f166{R:aJ}{b:Nat}{H:DH}:az R 166 [.ptr b 0] H =
 let a:=H++[.buf 1 true false []];ac R 166 200003 [.g (.ptr b 0),.g (.buf 1 H.length 0),.n 0] [] a:=by kernel_rfl
def xJ{R:aJ}{d a b:Nat}{e:Int}{H:DH}:aF R 166 200003 [.g (.ptr d 0),.g (.buf 1 a b),.n e] [] H =
 aB H d λ_ c=>ah c 0 λc=>aP ab 22 c H λc=>aA ab .lss 3 false (.i e) c λc=>brD c (aB H d λ_ c=>ah c 0 λc=>ay ab 22 c (.i e) λc=>bI c 0 λc=>bJ ab 3 c H λc=>aA ab .eql 3 true c (.i 2) λc=>brD c (aB H d λ_ c=>ah c 0 λc=>ay ab 22 c (.i e) λc=>bI c 4 λc=>bJ ab 9 c H λc=>aj 1 c λc=>bQ (aG ab 9) 1 (.buf 1 a b) [c] H λa H=>ct (.acc 1) 0 a H λa H=>ac R 166 200003 [.g (.ptr d 0),.g a,.n (bm (e+1))] [] H) (ac R 166 200003 [.g (.ptr d 0),.g (.buf 1 a b),.n (bm (e+1))] [] H)) (ret (.buf 1 a b) H):=by kernel_rfl
def amo{R:aJ}{c:Mc}{a:Bool}{b d:Int}{H:DH}:az R 204 [.agg (bh c),.agg [.bool a,.i b],.i d] H =
 cond (!a) (ret (.bool true) H) (cond (decide (b>=0)) (cond (decide (b<d)) (bg b λa=>aX (c.ce.map dw) a λa=>ah a 0 λa=>aA ab .eql 3 true a (.i 1) λa=>brD a (ret (.bool true) H) (bg b λa=>aX (c.ce.map dw) a λa=>ah a 0 λa=>aA ab .eql 3 true a (.i 2) λa=>ret a H)) (ret (.bool false) H)) (ret (.bool false) H)):=by kernel_rfl
def amm{R:aJ}{a:af}{b:Int}{c:aQ}{H:DH}:az R 207 [.agg (xV a b c)] H =
 bj H (let a:=H++[.cells 0 (xV a b c)];let b:=a++[.cells 0 [.i 0]];aB b a.length λc d=>aC d 0 [.i 0] λd=>let b:=b.set a.length (.cells (c+1) d);C R 263 [.ptr H.length 0,.ptr a.length 0] b λa H=>eD .not a λa=>brD a (ret (.i 62) H) (ret (.i 0) H)):=by kernel_rfl
def amk{R:aJ}{a:Bool}{b:Int}{c:Nat}{H:DH}:az R 209 [.agg [.bool a,.i b],.ptr c 0] H =
 aB H c λ_ d=>ah d 0 λe=>ah d 1 λf=>ah d 2 λg=>ah d 3 λh=>ah d 4 λi=>ah d 5 λj=>ah d 6 λk=>ah d 7 λl=>ah d 8 λm=>ah d 9 λn=>ah d 10 λd=>aB H c λ_ c=>ah c 6 λc=>aP ab 39 c H λc=>C R 204 [.agg [e,f,g,h,i,j,k,l,m,n,d],.agg [.bool a,.i b],c] H λa H=>eD .not a λa=>ret a H:=by kernel_rfl
def alT{R:aJ}{a:aQ}{b:D}{H:DH}:az R 262 [.row 2 a,b] H =
 ac R 262 200002 [.g (.row 2 a),.g b,.n a.length,.n 0] [] H:=by kernel_rfl
def xe{R:aJ}{h:aQ}{v1:D}{j f:Int}{H:DH}:aF R 262 200002 [.g (.row 2 h),.g v1,.n j,.n f] [] H =
 cond (decide (f<j)) (bg f λa=>aX h a λa=>ah a 0 λb=>ah a 1 λa=>fH bF v1 λc d e=>C R c (d++([.agg [b,a]]++e)) H λa H=>brD a (ret (.i f) H) (ac R 262 200002 [.g (.row 2 h),.g v1,.n j,.n (bm (f+1))] [] H)) (ret (.i (-1)) H):=by kernel_rfl
def Qi{R:aJ}{a:af}{b:Int}{c:aQ}{h:Nat}{H:DH}:az R 263 [.eptr (xV a b c) 0,.ptr h 0] H =
 aB H h λ_ d=>ah d 0 λd=>aA ab .add 3 true d (.i 1) λd=>aj 1 d λd=>aB H h λe f=>aC f 0 d λd=>let H:=H.set h (.cells (e+1) d);aB H h λ_ d=>ah d 0 λd=>aA ab .gtr 3 true d (.i 4000) λd=>brD d (ret (.bool false) H) (cond (a==[]) (ret (.bool ((c.length:Int)==0)) H) (cond (b != 0) (ret (.bool false) H) (cond (decide ((c.length:Int)>16)) (ret (.bool false) H) (cond (a==[44]) (cond (decide ((c.length:Int)<2)) (ret (.bool false) H) (cond (decide ((c.length:Int)>4)) (ret (.bool false) H) (cond (!(a==[44])) (C R 201 [.str a] H λd H=>eD .not d λd=>brD d (ret (.bool false) H) (ac R 263 200013 [.g (.eptr (xV a b c) 0),.g (.ptr h 0),.n c.length,.n 0] [] H)) (ac R 263 200013 [.g (.eptr (xV a b c) 0),.g (.ptr h 0),.n c.length,.n 0] [] H)))) (cond (!(a==[44])) (C R 201 [.str a] H λd H=>eD .not d λd=>brD d (ret (.bool false) H) (ac R 263 200013 [.g (.eptr (xV a b c) 0),.g (.ptr h 0),.n c.length,.n 0] [] H)) (ac R 263 200013 [.g (.eptr (xV a b c) 0),.g (.ptr h 0),.n c.length,.n 0] [] H)))))):=by kernel_rfl
def nF{R:aJ}{d:D}{v1:Nat}{a b:Int}{H:DH}:aF R 263 200013 [.g d,.g (.ptr v1 0),.n a,.n b] [] H =
 cond (decide (b<a)) (vR d λc=>bI c 2 λc=>bJ ab 70 c H λc=>ay ab 70 c (.i b) λc=>C R 263 [c,.ptr v1 0] H λc H=>eD .not c λc=>brD c (ret (.bool false) H) (ac R 263 200013 [.g d,.g (.ptr v1 0),.n a,.n (bm (b+1))] [] H)) (ret (.bool true) H):=by kernel_rfl
def akY{R:aJ}{x y:D}{H:DH}:az R 43 [x,y] H =
 aP ab 109 x H λa=>aP ab 109 y H λb=>aA ab .neq 3 false a b λa=>brD a (ret (.bool false) H) (ac R 43 200004 [.g x,.g y,.n 0] [] H):=by kernel_rfl
def wG{R:aJ}{d v1:D}{c:Int}{H:DH}:aF R 43 200004 [.g d,.g v1,.n c] [] H =
 aP ab 109 d H λa=>aA ab .lss 3 false (.i c) a λa=>brD a (ay ab 109 d (.i c) λa=>bJ ab 37 a H λa=>ay ab 109 v1 (.i c) λb=>bJ ab 37 b H λb=>aA ab .neq 37 false a b λa=>brD a (ret (.bool false) H) (ac R 43 200004 [.g d,.g v1,.n (bm (c+1))] [] H)) (ret (.bool true) H):=by kernel_rfl
def akW{R:aJ}{a:Int}{b:af}{c:Int}{x:D}{e h:Int}{j:af}{k:Int}{y:D}{l:Int}{H:DH}:az R 44 [.agg [.i a,.str b,.i c,x,.i e],.agg [.i h,.str j,.i k,y,.i l]] H =
 cond (a==h) (cond (b==j) (cond (c==k) (cond (e==l) (C R 43 [x,y] H λa H=>ret a H) (ret (.bool false) H)) (ret (.bool false) H)) (ret (.bool false) H)) (ret (.bool false) H):=by kernel_rfl
def kd(m:Mc)(i:Int):Int:=match m.ce[i.toNat]? with
 |some c=>c.k
 |none=>0
def zX(m:Mc){i:Int}(h0:0<=i)(h1:i<m.ce.length):∃ c,m.ce[i.toNat]? = some c/\kd m i=c.k:=by
 have:i.toNat<m.ce.length:=by omega
 refine⟨_,abI this,?_⟩;rw[kd,abI this]
def QG{m:Mc}{i:Int}{c:Ce}(h0:0<=i)(h:m.ce[i.toNat]? = some c)(κ:List D->av):bg i (λj=>aX (m.ce.map dw) j κ)=κ (dw c):=by obtain⟨n,rfl⟩:=anW h0;rw[anE]at h;rw[aI,ak (by rw[aiE,h];rfl)]
def eM(m:Mc)(n b:Int):Bool:=n==-1||(decide (n>=0)&&(decide (n<b)&&kd m n==3))
def WG(m:Mc)(n b:Int)(hb:b<=m.ce.length)(H:DH):aq 205 [.agg (bh m),.i n,.i b] H=ret (.bool (eM m n b)) H:=by
 refine ev (f205) ?_;rw[eM];cases n==-1 with
 |true=>rfl
 |false =>
  cases a:decide (n>=0)with
  |false=>rfl
  |true =>
   cases d:decide (n<b)with
   |false=>rfl
   |true =>have e:=akM a;have g3:=akM d;obtain⟨c,hc,hk⟩:=zX m e (by omega);simp_all[QG,dw,ai,aZ,adG]
def WE(m:Mc)(n:Int)(H:DH):aq 167 [.agg (bh m),.i n] H=ret (.bool (eM m n m.ce.length)) H:=by
 refine ev (amL) ?_;rw[eM];cases n==-1 with
 |true=>rfl
 |false =>
  cases b:decide (n>=0)with
  |false=>rfl
  |true =>
   rw[abh];cases d:decide (n<(m.ce.length:Int))with
   |false=>rfl
   |true =>have a:=akM b;obtain⟨c,hc,hk⟩:=zX m a (akM d);simp only[ge,Xi,QG a hc,dw,ai,aZ,hk,aop,adG]
def cg(m:Mc)(r:Re)(b:Int):Bool:=!r.c||(decide (r.n>=0)&&(decide (r.n<b)&&(kd m r.n==1||kd m r.n==2)))
def Jk(m:Mc)(r:Re)(b:Int)(hb:b<=m.ce.length)(H:DH):aq 204 [.agg (bh m),.agg [.bool r.c,.i r.n],.i b] H=ret (.bool (cg m r b)) H:=by
 obtain⟨rc,n⟩:=r;refine ev (amo) ?_;rw[cg];cases rc with
 |false=>rfl
 |true =>
  simp only[age,Xi,aop];cases d:decide (n>=0)with
  |false=>rfl
  |true =>
   cases e:decide (n<b)with
   |false=>rfl
   |true =>
    have a:=akM d;have g3:=akM e;obtain⟨c,hc,hk⟩:=zX m a (by omega);simp only[ge,QG a hc,dw,ai,aZ,hk,ao,adG]
    grind
def Ur(m:Mc)(r:Re)(H:DH):aq 168 [.agg (bh m),.agg [.bool r.c,.i r.n]] H=ret (.bool (cg m r m.ce.length)) H:=by
 obtain⟨rc,n⟩:=r;refine ev (amK) ?_;rw[cg];cases rc with
 |false=>rfl
 |true =>
  simp only[age,Xi,aop,abh];by_cases b:n<0
  .grind
  .rw[acz b,acv (show n>=0 by omega),Xi];by_cases a:n<(m.ce.length:Int)
   .rw[acz (show ¬ n>=(m.ce.length:Int)by omega),acv a];obtain⟨c,hc,hk⟩:=zX m (by omega) a;simp only[Xi,QG (show 0<=n by omega) hc,dw,ai,aZ,hk,ao,adG]
    grind
   grind
def Uz(l:List Re)(pre:List Re)(r:Re)(suf:List Re)(e:l=pre++r::suf):(l.map cL)[pre.length]? = some [.bool r.c,.i r.n]:=by rw[e,bz];rfl
def Uq(m:Mc)(l:List Re)(hl:l.length<2^61)(H:DH):∀ suf pre,l=pre++suf->ac au 169 200002 [.g (.row 2 (l.map cL)),.lp 0 0,.n (pre.length:Nat)] [(0,bh m)] H=ret (.bool (suf.all λr=>cg m r m.ce.length)) H
 |[],pre,e=>by
  refine aW (xI) ?_
  grind
 |r::suf,pre,e=>by
  have hi:pre.length<l.length:=by rw[e];simp
  have ih:=Uq m l hl H suf (pre++[r]) (by rw[e];simp);simp only[abg,abf]at ih;refine aW (xI) ?_;rw[abh,gI,acv hi,ge];simp only[aI,ak (Uz l pre r suf e),ai,aw,aH (Ur m r H),aK,ao,aE (show pre.length<2^62 by omega),ih,aof]
  grind
def QX(m:Mc)(l:List Re)(hl:l.length<2^61)(H:DH):aq 169 [.agg (bh m),.row 2 (l.map cL)] H=ret (.bool (l.all λr=>cg m r m.ce.length)) H:=by refine ev (f169) ?_;exact Uq m l hl H l [] rfl
def ajm(l:List Ce)(pre:List Ce)(c:Ce)(suf:List Ce)(e:l=pre++c::suf):(l.map dw)[pre.length]? = some (dw c):=by rw[e,bz]
def tR{α:Type}(p:α->Bool):Nat->List α->Int
 |_,[]=>-1
 |n,x::r=>bif p x then(n:Int)else tR p (n+1) r
def vF{α:Type}(p:α->Bool):∀(l:List α) (n:Nat),decide (tR p n l>=0)=l.any p
 |[],_=>rfl
 |x::r,n=>by
  rw[tR,List.any_cons];cases p x with
  |true=>rw[ge,Bool.true_or];exact acv (by omega)
  |false=>rw[Xi,aop];exact vF p r (n+1)
def JT(g:FuncId)(cap:List D)(a:aV bF g=true)(p:Re->Bool)(H:DH)(l:List Re)(hp:∀ r∈l,aq g (.agg [.bool r.c,.i r.n]::cap) H=ret (.bool (p r)) H)(hl:l.length<2^61):∀ suf pre,l=pre++suf ->
 ac au 262 200002 [.g (.row 2 (l.map cL)),.g (.func g [] cap),.n l.length,.n (pre.length:Nat)] [] H=ret (.i (tR p pre.length suf)) H
 |[],pre,e=>by
  refine aW (xe) ?_;have:l.length=pre.length:=by rw[e];simp
  rw[gI,this,acz (anz _),Xi];rfl
 |r::suf,pre,e=>by
  have hi:pre.length<l.length:=by rw[e];simp
  have ih:=JT g cap a p H l hp hl suf (pre++[r]) (by rw[e];simp);simp only[abg,abf]at ih;refine aW (xe) ?_;rw[gI,acv hi,ge];simp only[aI,ak (Uz l pre r suf e),ai,aw,bZ a,agc,ajo,am (hp r (by rw[e];simp)),ao,aE (show pre.length<2^62 by omega),ih]
  grind [tR]
def Le(g:FuncId)(cap:List D)(a:aV bF g=true)(p:Re->Bool)(H:DH)(l:List Re)(hp:∀ r∈l,aq g (.agg [.bool r.c,.i r.n]::cap) H=ret (.bool (p r)) H)(hl:l.length<2^61) :
 aq 202 [.row 2 (l.map cL),.func g [] cap] H=ret (.bool (l.any p)) H:=by
 have h:aq 262 [.row 2 (l.map cL),.func g [] cap] H=ret (.i (tR p 0 l)) H:=by refine ev (alT) ?_;rw[abh];exact JT g cap a p H l hp hl l [] rfl
 refine ev (amq) ?_;simp only[am h,dW,vF]
def PT(g:FuncId)(cap:List D)(b:aV bF g=true)(p:Fm->Bool)(H:DH)(l:List Fm)(hp:∀ r∈l,aq g (.agg (eg r)::cap) H=ret (.bool (p r)) H)(hl:l.length<2^61):∀ suf pre,l=pre++suf ->
 ac au 208 200002 [.g (.row 3 (l.map eg)),.g (.func g [] cap),.n l.length,.n (pre.length:Nat)] [] H=ret (.i (tR p pre.length suf)) H
 |[],pre,e=>by
  refine aW (xo) ?_;have:l.length=pre.length:=by rw[e];simp
  rw[gI,this,acz (anz _),Xi];rfl
 |r::suf,pre,e=>by
  have hi:pre.length<l.length:=by rw[e];simp
  have ih:=PT g cap b p H l hp hl suf (pre++[r]) (by rw[e];simp);have a:(l.map eg)[pre.length]? = some (eg r):=by rw[e,bz]
  have c:=hp r (by rw[e];simp);simp only[abg,abf]at ih;refine aW (xo) ?_;rw[gI,acv hi,ge];simp only[eg]at a c;simp only[aI,ak a,ai,aw,bZ b,agc,ajo,am c,ao,aE (show pre.length<2^62 by omega),ih]
  grind [tR]
def aaK(g:FuncId)(cap:List D)(a:aV bF g=true)(p:Fm->Bool)(H:DH)(l:List Fm)(hp:∀ r∈l,aq g (.agg (eg r)::cap) H=ret (.bool (p r)) H)(hl:l.length<2^61) :
 aq 138 [.row 3 (l.map eg),.func g [] cap] H=ret (.bool (l.any p)) H:=by
 have h:aq 208 [.row 3 (l.map eg),.func g [] cap] H=ret (.i (tR p 0 l)) H:=by refine ev (aml) ?_;rw[abh];exact PT g cap a p H l hp hl l [] rfl
 refine ev (f138) ?_;simp only[am h,dW,vF]
def afz(m:Mc)(i:Int)(hi:i<=m.ce.length)(H:DH)(a b sa sb:Nat)(d:H[a]? = some (.cells sa (bh m)))(hb:H[b]? = some (.cells sb [.i i]))(r:Re) :
 aq 203 [.agg [.bool r.c,.i r.n],.ptr a 0,.ptr b 0] H=ret (.bool (!cg m r i)) H:=by
 refine ev (amp) ?_;simp only[ae d,ae hb,ai,aw,am (Jk m r i hi H),aK]
def oZ(l:aQ)(H:DH)(κ:D->av):aP ab 39 (.row 5 l) H κ=κ (.i l.length):=by kernel_rfl
def afy(m:Mc)(H:DH)(a sa:Nat)(b:H[a]? = some (.cells sa (bh m)))(r:Re) :
 aq 209 [.agg [.bool r.c,.i r.n],.ptr a 0] H=ret (.bool (!cg m r m.ce.length)) H:=by
 refine ev (amk) ?_;simp only[ae b,ai,aw,oZ,abh,am (Jk m r m.ce.length (aoO _) H),aK]
mutual
def TQ(H:DH):∀ e:Ex,ja e<2^62->e.ok->aq 132 [.agg (cT e)] H=ret (.i (ja e:Nat)) H
 |.mk k m n a xs ps,h,ho=>by
  rw[ja]at h;rw[Ex.ok]at ho;rw[cT];refine ev (amS) ?_;have:=OB H k m n a xs ps ho.1 xs [] 1 rfl (by omega) ho.2.1
  grind [ja]
def OB(H:DH)(k m:Int)(n a:af)(l:List Ex)(ps:List Pa)(hl:l.length<2^62):∀(suf pre:List Ex) (c:Nat),l=pre++suf->c+eh suf<2^62->Ex.oks suf ->
 ac au 132 200003 [.lp 0 0,.n c,.n pre.length] [(0,(xE k m n a (cu l) (cG ps)))] H=ret (.i (c+eh suf:Nat)) H
 |[],pre,c,e,_,_=>by refine aW (xP) ?_;simp_all[bV,anz,eh]
 |.mk xk xm xn xa xx xp::suf,pre,c,e,hc,ho=>by
  rw[eh]at hc;rw[Ex.oks]at ho;have hi:pre.length<l.length:=by rw[e];simp
  have b:(cu l)[pre.length]? = some (cT (.mk xk xm xn xa xx xp)):=by rw[e];exact je _ _ _
  have ih:=OB H k m n a l ps hl suf (pre++[.mk xk xm xn xa xx xp]) (c+ja (.mk xk xm xn xa xx xp)) (by rw[e];simp) (by omega) ho.2;have d:=TQ H (.mk xk xm xn xa xx xp) (by omega) ho.1;rw[cT]at b d;simp only[abg,abf]at ih;refine aW (xP) ?_;rw[bV,gI,acv hi,ge];have f:bm ((c:Int)+(ja (.mk xk xm xn xa xx xp):Nat))=((c+ja (.mk xk xm xn xa xx xp):Nat):Int):=by rw[ki]<;>omega
  simp only[aI,ak b,ai,aw,am d,bR,f,aE (show pre.length<2^62 by omega),ih];rw[eh,aoA]
end
structure Fn where
 e:Ex
 d:Int
 f:Int
 p:af
 fn:Bool
 sz:Int
 par:af
def tX(x:Fn):List D:=match x.e with
 |.mk k m n a xs ps=>[.i k,.i m,.str n,.str a,.row 6 (cu xs),.row 3 (cG ps),.i x.d,.i x.f,.row 1 (nC x.p),.bool x.fn,.i x.sz,.str x.par]
mutual
def eE(d f:Int)(fn:Bool)(p par:af):Ex->List Fn
 |.mk k m n a xs ps=>⟨.mk k m n a xs ps,d,f,p,fn,ja (.mk k m n a xs ps),par⟩::dT d f fn p k a 0 xs
def dT(d f:Int)(fn:Bool)(p:af)(k:Int)(a:af)(i:Nat):List Ex->List Fn
 |[]=>[]
 |x::r=>eE d f fn (p++[i]) (if i=0/\(k=5\/k=7)then a else []) x++dT d f fn p k a (i+1) r
end
mutual
theorem iR(d f:Int)(fn:Bool):∀(e:Ex) (p par:af),(eE d f fn p par e).length=ja e
 |.mk k m n a xs ps,p,par=>by rw[eE,aga,BT d f fn xs,ja];omega
theorem BT(d f:Int)(fn:Bool):∀(l:List Ex) (p:af) (k:Int) (a:af) (i:Nat),(dT d f fn p k a i l).length=eh l
 |[],_,_,_,_=>by simp[dT,eh]
 |x::r,p,k,a,i=>by rw[dT,abg,iR d f fn x,BT d f fn r,eh]
end
theorem acX{m:Nat}(h:m<=100000):aG ab 98 m=true:=gc (b:=168) (by kernel_rfl) (by decide) h
def aeA(n:Nat)(x:Fn):eB n (tX x):=by obtain⟨⟨k,m,nm,a,xs,ps⟩,d,f,p,b,s,par⟩:=x;simp_all[tX,eB,D.bel,px,oQ,rI]
def Qe(n:Nat):∀ l:List Fn,dH n (l.map tX)
 |[]=>by simp[dH]
 |x::r=>by simp only[ads,dH];exact⟨aeA n x,Qe n r⟩
def EI{H X:DH}{B:DB}{d:D}{o:Nat}(b:d.bel H.length)(hB:B.bel H.length):bj H (ret d (H.set o B++X))=ret d (H.set o B):=by
 have h:nU H ⟨.ret d,none,H.set o B++X⟩:=⟨b,rfl,by simp,λi x hi a=>by
  simp only at a;rw[afZ (by rw[anK];exact hi)]at a;by_cases q:o=i
  .subst q;rw[ape hi]at a;cases a;exact .inr hB
  .rw[aei q]at a;exact .inl a⟩
 simp_all[bj]
def agO(p:af)(i:Nat)(hp:p.length+1<=100000)(H:DH)(κ:D->DH->av) :
 (CU (.row 1 (nC p)) H 1 λels=>bQ (aG ab 3) 1 .nilrow els H λd33 H34=>bQ (aG ab 3) 1 d33 [[.i (i:Nat)]] H34 λd35 H36=>ct (.fz 1) 0 d35 H36 κ)=κ (.row 1 (nC (p++[i]))) (H++[.buf 1 false false (nC (p++[i]))]):=by
 have a:∀ κ:aQ->av,CU (.row 1 (nC p)) H 1 κ=κ (nC p):=λκ=>rfl;rw[a];cases p with
 |nil =>
  have h0:∀ κ:D->DH->av,bQ (aG ab 3) 1 .nilrow (nC []) H κ=κ .nilrow H:=λκ=>by show boK (aG ab 3 0) _=_;rw[iH (by omega)];rfl
  rw[h0,qm (r:=[]) (iH (show 0+1<=100000 by omega))];refine aoQ (wz (κ:=κ) (be H (.buf 1 true false [[.i (i:Nat)]]))) ?_;congr 1;rw[ajA _ _ (abH _),akN];rfl
 |cons x r =>
  have hl:r.length+1=(nC (x::r)).length:=by simp[nC]
  have h0:∀ κ:D->DH->av,bQ (aG ab 3) 1 .nilrow (nC (x::r)) H κ=κ (.buf 1 H.length (nC (x::r)).length) (H++[.buf 1 true false (nC (x::r))]):=λκ=>by grind [qm,nC,iH]
  rw[h0,lU (be _ _) (iH (by omega)) (iH (by rw[<- hl];simp at hp;omega))];have e:(H++[DB.buf 1 true false (nC (x::r))]).set H.length (.buf 1 true false (nC (x::r)++[[.i (i:Nat)]]))=H++[.buf 1 true false (nC (x::r++[i]))]:=by rw[ajA _ _ (abH _),akN,Mt];rfl
  rw[e];show eZ (.fz 1) (.buf 1 H.length ((nC (x::r)).length+1)) _ κ=_;rw[show(nC (x::r)).length+1=(nC (x::r++[i])).length by simp[nC],wz (be _ _)];congr 1;rw[ajA _ _ (abH _),akN];rfl
def akS(l:aQ)(i:Nat)(κ:D->av):ay ab 83 (.row 6 l) (.i i) κ=aX l i λcs=>κ (.eptr cs 0):=by kernel_rfl
def PG(l:aQ)(H:DH)(κ:D->av):aP ab 83 (.row 6 l) H κ=κ (.i l.length):=by kernel_rfl
def ce6(a b c d e f:D)(κ:List D->av):aj 6 (.agg [a,b,c,d,e,f]) κ=κ [a,b,c,d,e,f]:=rfl
def afF(a b c d e f g h i j k l:D)(κ:List D->av):aj 12 (.agg [a,b,c,d,e,f,g,h,i,j,k,l]) κ=κ [a,b,c,d,e,f,g,h,i,j,k,l]:=rfl
def QI(t:IntKind)(i:Int)(κ:List D->av):aj 1 (.int t i) κ=κ [.int t i]:=rfl
def afE(b:Bool)(κ:List D->av):aj 1 (.bool b) κ=κ [.bool b]:=rfl
def ajp(b:af)(κ:List D->av):aj 1 (.str b) κ=κ [.str b]:=rfl
def anu(s:Nat)(b:aQ)(κ:List D->av):aj 1 (.row s b) κ=κ [.row s b]:=rfl
mutual
def Qg:∀(e:Ex) (d f:Int) (fn:Bool) (p par:af) (sz0:Int) (T:List Fn) (lo:Nat) (H:DH),e.ok->H[lo]? = some (.buf 12 true false (T.map tX))->T.length+ja e<=100000->p.length+ja e<=100000 ->
 aq 69 [.buf 12 lo T.length,.agg (tX ⟨e,d,f,p,fn,sz0,par⟩)] H=ret (.buf 12 lo (T.length+ja e)) (H.set lo (.buf 12 true false ((T++eE d f fn p par e).map tX)))
 |.mk k m n a xs ps,d,f,fn,p,par,sz0,T,lo,H,ho,c,y,hp=>by
  have b:lo<H.length:=(acy.1 c).1;have h:=TQ H (.mk k m n a xs ps) (by omega) ho;rw[cT]at h;rw[Ex.ok]at ho;rw[ja]at y hp;have g:∀(e:List D) (κ:D->DH->av),bQ (aG ab 98) 12 (.buf 12 lo T.length) [e] H κ=κ (.buf 12 lo (T.length+1)) (H.set lo (.buf 12 true false (T.map tX++[e]))):=λe κ=>by grind [lU,acX,List.length_map]
  obtain⟨X,i⟩:=FV k m n a xs ps d f fn p par (ja (.mk k m n a xs ps)) lo H b ho.1 xs [] (T++[⟨.mk k m n a xs ps,d,f,p,fn,ja (.mk k m n a xs ps),par⟩]) [] rfl ho.2.1 (by simp;omega) (by omega);rw[show aq 69 [.buf 12 lo T.length,.agg (tX ⟨.mk k m n a xs ps,d,f,p,fn,sz0,par⟩)] H=_ from ev (f69) rfl];have ov:∀(j l o q r s t u v x z10 z11 w:D) (κ:List D->av),aC [j,l,o,q,r,s,t,u,v,x,z10,z11] 10 [w] κ=κ [j,l,o,q,r,s,t,u,v,x,w,z11]:=λ_ _ _ _ _ _ _ _ _ _ _ _ _ _=>rfl;simp only[am h,QI,ov,ai,aw,g];simp only[abg,abf,anR,ajH,aiR,ads,aoW]at i;refine aoQ (anL (bj H) i) ?_;rw[EI (show D.bel H.length (.buf 12 lo _)from b) (by simp only[DB.bel];rw[<- aoS,<- aiR,<- aiR];exact Qe _ _)];rw[eE,ja]
  grind
def FV(k m:Int)(n a:af)(l:List Ex)(ps:List Pa)(d f:Int)(fn:Bool)(p par:af)(sz:Int)(lo:Nat)(H:DH)(b:lo<H.length)(hl:l.length<2^62):∀(suf pre:List Ex) (T:List Fn) (X:DH),l=pre++suf->Ex.oks suf->T.length+eh suf<=100000->p.length+1+eh suf<=100000 ->
 ∃ X',ac au 69 200004 [.g (.buf 12 lo T.length),.lp 0 0,.n pre.length] [(0,tX ⟨.mk k m n a l ps,d,f,p,fn,sz,par⟩)] (H.set lo (.buf 12 true false (T.map tX))++X) =
  ret (.buf 12 lo (T.length+eh suf)) (H.set lo (.buf 12 true false ((T++dT d f fn p k a pre.length suf).map tX))++X')
 |[],pre,T,X,e,_,_,_=>by
  refine⟨X,aW (Cd) ?_⟩;have:l.length=pre.length:=by rw[e];simp
  simp only[tX,ai,aw,PG,bV,aN,this,akg,anM,ao,Xi,eh,dT,ajH,anP]
 |.mk xk xm xn xa xx xp::suf,pre,T,X,e,ho,i,hp=>by
  rw[eh]at i hp;rw[Ex.oks]at ho;have hi:pre.length<l.length:=by rw[e];simp
  have c:(cu l)[pre.length]? = some (cT (.mk xk xm xn xa xx xp)):=by rw[e];exact je _ _ _
  rw[cT]at c;obtain⟨q,j⟩:∃ q:af,q=if pre.length=0/\(k=5\/k=7)then a else []:=⟨_,rfl⟩
  let P:af:=p++[pre.length]
  let X1:DH:=X++[.buf 1 false false (nC P)]
  have o:(H.set lo (.buf 12 true false (T.map tX))++X1)[lo]? = some (.buf 12 true false (T.map tX)):=by grind
  have hc:=Qg (.mk xk xm xn xa xx xp) d f fn P q 0 T lo _ ho.1 o (by omega) (by simp[P];omega);obtain⟨X',ih⟩:=FV k m n a l ps d f fn p par sz lo H b hl suf (pre++[.mk xk xm xn xa xx xp]) (T++eE d f fn P q (.mk xk xm xn xa xx xp)) X1 (by rw[e];simp) ho.2 (by rw[abg,iR];omega) (by omega);rw[apm _ _ (by rw[anK];exact b),agd]at hc;simp only[abg,abf,iR]at ih;have j10:ac au 69 10 [.g (.buf 12 lo T.length),.lp 0 0,.n pre.length,.lp 1 0] [(0,tX ⟨.mk k m n a l ps,d,f,p,fn,sz,par⟩),(0,tX ⟨.mk xk xm xn xa xx xp,d,f,P,fn,0,q⟩)] (H.set lo (.buf 12 true false (T.map tX))++X1)=ret (.buf 12 lo (T.length+ja (.mk xk xm xn xa xx xp)+eh suf)) (H.set lo (.buf 12 true false ((T++eE d f fn P q (.mk xk xm xn xa xx xp)++dT d f fn p k a (pre.length+1) suf).map tX))++X'):=by
   refine aW (aeY) ?_;simp only[tX,ai,aw]at hc ih ⊢
   grind [am,aE]
  refine⟨X',aW (Cd) ?_⟩;have goal:dT d f fn p k a pre.length (.mk xk xm xn xa xx xp::suf)=eE d f fn P q (.mk xk xm xn xa xx xp)++dT d f fn p k a (pre.length+1) suf:=by rw[dT,<- j]
  rw[goal,eh,<- aoA,<- ajL];have h:decide ((pre.length:Int)<(l.length:Nat))=true:=acv (by omega);simp only[tX,ai,aw,PG,bV,aN,h,ao,ge,akS,ak c,VL,ce6,afE,aC,nY,afF];refine aoQ (agO p pre.length (by omega) _ _) ?_;simp only[QI,anu,nY,ce3,aZ,ao,ajp]
  grind [tX]
end
structure Bd where
 i:Nat
 j:Nat
 n:af
 fn:Bool
 par:af
 e:Ex
def qB(x:Bd):List D:=[.i x.i,.i x.j,.row 1 [],.str x.n,.bool x.fn,.str x.par]++cT x.e
def qA(i:Nat):Nat->List Fu->List Bd
 |_,[]=>[]
 |j,f::r=>⟨i,j,f.n,true,f.a,f.b⟩::qA i (j+1) r
def Ix(i:Nat)(d:De):List Bd:=if d.k=3 then qA i 0 d.fs else if d.k=4\/d.k=5 then [⟨i,0,d.n,false,[],d.b⟩] else []
def jE:Nat->List De->List Bd
 |_,[]=>[]
 |i,d::r=>Ix i d++jE (i+1) r
theorem Dx(i:Nat):∀(l:List Fu) (j:Nat),(qA i j l).length=l.length
 |[],_=>rfl
 |f::r,j=>by simp[qA,Dx i r]
def QV(i:Nat)(d:De):(Ix i d).length=Ee d:=by grind [Ix,Ee,Dx]
def OK{m:Nat}(h:m<=100000):aG ab 160 m=true:=gc (b:=176) (by kernel_rfl) (by decide) h
def PK(l:aQ)(H:DH)(κ:D->av):aP ab 145 (.row 8 l) H κ=κ (.i l.length):=by kernel_rfl
def VK(cs:List D)(n:Nat)(H:DH)(κ:D->av):bJ ab 9 (.eptr cs n) H κ=ah cs n κ:=by kernel_rfl
def uc(cs:List D)(n k:Nat)(κ:D->av):bI (.eptr cs n) k κ=κ (.eptr cs (n+k)):=rfl
def ahI(z y a b c d e f:D)(H:DH)(κ:D->av):bJ ab 86 (.eptr [z,y,a,b,c,d,e,f] 2) H κ=κ (.agg [a,b,c,d,e,f]):=by kernel_rfl
def Xt(T:List Bd)(x:Bd)(H:DH)(h:T.length<100000)(κ:D->DH->av):bQ (aG ab 160) 12 (.buf 12 H.length T.length) [qB x] (H++[.buf 12 true false (T.map qB)]) κ=κ (.buf 12 H.length (T.length+1)) (H++[.buf 12 true false ((T++[x]).map qB)]):=by
 have:=Iy (ok:=aG ab 160) (sz:=12) (l:=T.map qB) (els:=[qB x]) (H:=H) (κ:=κ) (OK (show 1<=100000 by omega)) (by rw[abh];exact OK (show T.length+1<=100000 by omega))
 grind
def Gt(H:DH)(i:Nat)(hi:i<2^61)(ds:aQ)(d:De)(p:d.fs.length<2^61):∀(suf pre:List Fu) (T:List Bd),d.fs=pre++suf->T.length+suf.length<=99999 ->
 ac au 68 200010 [.lp 0 0,.g (.buf 12 H.length T.length),.n i,.lp 1 0,.n pre.length] [(0,[.row 14 ds]),(0,bG d)] (H++[.buf 12 true false (T.map qB)]) =
  ac au 68 200003 [.lp 0 0,.g (.buf 12 H.length (T.length+suf.length)),.n ((i+1:Nat):Nat)] [(0,[.row 14 ds])] (H++[.buf 12 true false ((T++qA i pre.length suf).map qB)])
 |[],pre,T,e,l=>by
  have:d.fs.length=pre.length:=by rw[e];simp
  obtain⟨k,⟨dn,vs,cs⟩,nm,⟨tn,ts⟩,fs,⟨ek,em,en,ea,ex,ps⟩⟩:=d;simp only at this;refine aW (by simp only[bG];exact Cf) ?_;simp only[PK,abh,aN,this,akg,anM,ao,Xi,aE (show i<2^62 by omega),qA,ajH,anR,anP]
 |f::suf,pre,T,e,l=>by
  have h:pre.length<d.fs.length:=by rw[e];simp
  have c:(d.fs.map lW)[pre.length]? = some (lW f):=by rw[e];exact bz _ _ _ _
  have ih:=Gt H i hi ds d p suf (pre++[f]) (T++[⟨i,pre.length,f.n,true,f.a,f.b⟩]) (by rw[e];simp) (by simp at l ⊢;omega);have ap:=Xt T ⟨i,pre.length,f.n,true,f.a,f.b⟩ H (by simp at l;omega);obtain⟨fn,fa,⟨k',m',en',ea',xs',ps'⟩⟩:=f;obtain⟨k,⟨dn,vs,cs⟩,nm,⟨tn,ts⟩,fs,⟨ek,em,en,ea,ex,ps⟩⟩:=d;simp only[lW]at c;have h:pre.length<fs.length:=h;have m:decide ((pre.length:Int)<(fs.length:Nat))=true:=acv (by omega);have j (o n:Nat) (G:DH) (κ:D->DH->av):ct (.acc 12) 0 (.buf 12 o n) G κ=κ (.buf 12 o n) G:=rfl;simp only[abg,abf]at ih;simp only[qB,cT,ajo,agc]at ap;refine aW (by simp only[bG];exact Cf) ?_;try simp only[cT]at c
  simp only[PK,abh,aN,m,ao,ge,abQ,ak c,uc,afY,VK,ahI,ai,aw,Io,ce6,aC,nY,afF,ap,j,aE (show pre.length<2^62 by simp only at p;omega)];simp only[bG]at ih;rw[ih];simp only[qA,ajL,ans,aga]
  grind
def Dw(H:DH)(l:List De)(hl:l.length<2^61):∀(suf pre:List De) (T:List Bd),l=pre++suf->(∀ d∈suf,d.fs.length<2^61)->T.length+mi suf<=99999 ->
 ac au 68 200003 [.lp 0 0,.g (.buf 12 H.length T.length),.n pre.length] [(0,[.row 14 (l.map bG)])] (H++[.buf 12 true false (T.map qB)]) =
  ret (.row 12 ((T++jE pre.length suf).map qB)) (H++[.buf 12 false false ((T++jE pre.length suf).map qB)])
 |[],pre,T,e,_,_=>by
  have:l.length=pre.length:=by rw[e];simp
  refine aW (Cg) ?_;have hz (κ:D->DH->av):eZ (.fz 12) (.buf 12 H.length T.length) (H++[.buf 12 true false (T.map qB)]) κ=κ (.row 12 (T.map qB)) (H++[.buf 12 false false (T.map qB)]):=by
   have:=BM (sz:=12) (l:=T.map qB) (H:=H) (κ:=κ)
   grind
  simp_all[jE]
 |d::suf,pre,T,e,m,p=>by
  have hi:pre.length<l.length:=by rw[e];simp
  have a:(l.map bG)[pre.length]? = some (bG d):=by rw[e];exact bz _ _ _ _
  have i:T.length+(Ee d+mi suf)<=99999:=p;have ih:=Dw H l hl suf (pre++[d]) (T++Ix pre.length d) (by rw[e];simp) (λx q=>m x (acl _ q)) (by rw[abg,QV];omega);have r:=m d (adN ..);have fl:=Gt H pre.length (by omega) (l.map bG) d r d.fs [] T rfl;simp only[abg,abf]at ih;rw[jE,<- ajL];rw[<- ih];have j:decide ((pre.length:Int)<(l.length:Nat))=true:=acv (by omega)
  have ap:=Xt T ⟨pre.length,0,d.n,false,[],d.b⟩ H (by
   by_cases h:T.length<100000
   .exact h
   .omega)
  have c (o n:Nat) (G:DH) (κ:D->DH->av):ct (.acc 12) 0 (.buf 12 o n) G κ=κ (.buf 12 o n) G:=rfl;obtain⟨k,⟨dn,vs,cs⟩,nm,⟨tn,ts⟩,fs,⟨ek,em,en,ea,ex,ps⟩⟩:=d;simp only[bG,dL,cT,ajo,agc,ajH]at a fl ap;simp only[qB,cT,ajo,agc,show(((0:Nat)):Int)=0 from rfl]at ap;refine aW (Cg) ?_;rw[abh,j,ge];simp only[aI,ak a,ai,aw,aZ,ao];have run:(k=4\/k=5)->ac au 68 7 [.lp 0 0,.g (.buf 12 H.length T.length),.n pre.length,.lp 1 0] [(0,[.row 14 (l.map bG)]),(0,(xD k dn (vs.map gq) (cs.map lF) nm tn (cE ts) (fs.map lW) ek em en ea (cu ex) (cG ps)))] (H++[.buf 12 true false (T.map qB)])=ac au 68 200003 [.lp 0 0,.g (.buf 12 H.length (T.length+1)),.n ((pre.length+1:Nat):Nat)] [(0,[.row 14 (l.map bG)])] (H++[.buf 12 true false ((T++[(⟨pre.length,0,nm,false,[],.mk ek em en ea ex ps⟩:Bd)]).map qB)]):=λhk=>by refine aW (aiS) ?_;have f:(k==3)=false:=beq_false_of_ne (by omega);simp only[Io,aC,nY,afF,ap,c,aZ,ao,f,Xi,aE (show pre.length<2^62 by omega)]
  by_cases f:k=3
  .have s:Ix pre.length ⟨k,⟨dn,vs,cs⟩,nm,.mk tn ts,fs,.mk ek em en ea ex ps⟩=qA pre.length 0 fs:=by simp[Ix,f]
   have t:Ee ⟨k,⟨dn,vs,cs⟩,nm,.mk tn ts,fs,.mk ek em en ea ex ps⟩=fs.length:=by simp[Ee,f]
   rw[t]at i;rw[beq_false_of_ne (show k≠4 by omega),beq_false_of_ne (show k≠5 by omega),show(k==3)=true by simp[f],Xi,Xi,ge,s,Dx]
   grind
  grind [Ix,aE]
def afM(n:Nat)(x:Bd):eB n (qB x):=by obtain⟨i,j,nm,fn,par,⟨ek,em,en,ea,ex,ps⟩⟩:=x;simp_all[qB,cT,agc,eB,D.bel,dH,px,oQ]
def QS(n:Nat):∀ l:List Bd,dH n (l.map qB)
 |[]=>by simp[dH]
 |x::r=>by simp only[ads,dH];exact⟨afM n x,QS n r⟩
def Xp(l:List De)(hl:l.length<2^61)(a:∀ d∈l,d.fs.length<2^61)(b:mi l<=99999)(H:DH) :
 aq 68 [.agg [.row 14 (l.map bG)]] H=ret (.row 12 ((jE 0 l).map qB)) H:=by
 have w:=Dw H l hl l [] [] rfl a (by simpa using b);refine ev (f68) ?_;refine aoQ (anL (bj H) w) ?_;exact lK (by simp only[D.bel];exact QS _ _)
end
section
structure Rf where
 ds:List De
 ns:List Fn
 fs:List (List Nat×Nat)
 nm:List af
 dn:af
 rs:List (List Nat×Nat×Nat×Bool)
def wi(x:af×Nat):List D:=[.i 2,.str x.1,.i x.2,.nilrow,.i (-1)]
def rrC(x:af×Nat×Nat×Bool):List D:=[.str x.1,.i x.2.1,.i x.2.2.1,.bool x.2.2.2]
def RL(n st:Nat)(G:Rf):DH:=[.buf 12 true false (G.ns.map tX),.buf 5 true false (G.fs.map wi),.buf 1 true false (G.nm.map gq),.buf 1 true false (nC G.dn),.buf 4 true false (G.rs.map rrC),
 .cells st [.row 14 (G.ds.map bG),.buf 12 n G.ns.length,.buf 5 (n+1) G.fs.length,.buf 1 (n+2) G.nm.length,.buf 1 (n+3) G.dn.length,.buf 4 (n+4) G.rs.length]]
def RX(H0:DH)(st:Nat)(G:Rf):DH:=H0++RL H0.length st G
section
variable(H0:DH)(st:Nat)(G:Rf)
def qk{L:DH}{i:Nat}{b:DB}(h:L[i]? = some b):(H0++L)[H0.length+i]? = some b:=by grind
def uP:(RX H0 st G)[H0.length+5]? = some (.cells st [.row 14 (G.ds.map bG),.buf 12 H0.length G.ns.length,.buf 5 (H0.length+1) G.fs.length,.buf 1 (H0.length+2) G.nm.length,.buf 1 (H0.length+3) G.dn.length,.buf 4 (H0.length+4) G.rs.length]):=qk H0 (L:=RL H0.length st G) rfl
def agE:(RX H0 st G)[H0.length]? = some (.buf 12 true false (G.ns.map tX)):=qk H0 (L:=RL H0.length st G) (i:=0) rfl
def agF:(RX H0 st G)[H0.length+1]? = some (.buf 5 true false (G.fs.map wi)):=qk H0 (L:=RL H0.length st G) rfl
def ajW:(RX H0 st G)[H0.length+2]? = some (.buf 1 true false (G.nm.map gq)):=qk H0 (L:=RL H0.length st G) rfl
def ajX:(RX H0 st G)[H0.length+3]? = some (.buf 1 true false (nC G.dn)):=qk H0 (L:=RL H0.length st G) rfl
def agz:(RX H0 st G)[H0.length+4]? = some (.buf 4 true false (G.rs.map rrC)):=qk H0 (L:=RL H0.length st G) rfl
def agw(H0:DH)(L:DH)(i:Nat)(b:DB)(h:i<L.length):(H0++L).set (H0.length+i) b=H0++L.set i b:=by grind
def YB(T:List Fn):((RX H0 st G).set H0.length (.buf 12 true false ((G.ns++T).map tX))).set (H0.length+5) (.cells (st+1) [.row 14 (G.ds.map bG),.buf 12 H0.length (G.ns.length+T.length),.buf 5 (H0.length+1) G.fs.length,.buf 1 (H0.length+2) G.nm.length,.buf 1 (H0.length+3) G.dn.length,.buf 4 (H0.length+4) G.rs.length])=RX H0 (st+1) { G with ns:=G.ns++T }:=by simp_all[RX,RL]
end
def Rf.addB(G:Rf)(x:Bd):Rf:={ G with ns:=G.ns++eE (x.i:Nat) (x.j:Nat) x.fn [] x.par x.e }
def Wf(l:aQ)(i:Nat)(κ:D->av):ay ab 157 (.row 12 l) (.i i) κ=aX l i λcs=>κ (.eptr cs 0):=by kernel_rfl
def MJ(l:aQ)(H:DH)(κ:D->av):aP ab 157 (.row 12 l) H κ=κ (.i l.length):=by kernel_rfl
def ahH(g h i j k l a b c d e f:D)(H:DH)(κ:D->av):bJ ab 86 (.eptr [g,h,i,j,k,l,a,b,c,d,e,f] 6) H κ=κ (.agg [a,b,c,d,e,f]):=by kernel_rfl
def ahL(g h i j k l a b c d e f:D)(H:DH)(κ:D->av):bJ ab 27 (.eptr [g,h,i,j,k,l,a,b,c,d,e,f] 0) H κ=κ (.agg [g,h,i]):=by kernel_rfl
def ZA(cs:List D)(n:Nat)(H:DH)(κ:D->av):bJ ab 4 (.eptr cs n) H κ=ah cs n κ:=by kernel_rfl
def Zc(H0:DH)(st:Nat)(G:Rf)(bs:List Bd)(i:Nat)(x:Bd)(c:bs[i]? = some x)(ho:x.e.ok)(hi:i<2^61)(d:G.ns.length+ja x.e<=100000) :
 ac au 36 12 [.lp 0 0,.g (.ptr (H0.length+5) 0),.g (.row 12 (bs.map qB)),.n i] [(0,[.row 14 (G.ds.map bG)])] (RX H0 st G) =
  ac au 36 200004 [.lp 0 0,.g (.ptr (H0.length+5) 0),.g (.row 12 (bs.map qB)),.n ((i+1:Nat):Nat)] [(0,[.row 14 (G.ds.map bG)])] (RX H0 (st+1) (G.addB x)):=by
 have a:(bs.map qB)[i]? = some (qB x):=by rw[aiE,c];rfl
 have hc:=Qg x.e (x.i:Nat) (x.j:Nat) x.fn [] x.par 0 G.ns H0.length (RX H0 st G) ho (agE H0 st G) d (by simp;omega);obtain⟨xi,xj,xn,xf,xp,⟨ek,em,en,ea,ex,ps⟩⟩:=x;simp only[qB,cT,ajo,agc]at a;simp only[tX,show nC []=[] from rfl]at hc;refine aW (aeZ) ?_;have b:=ax (.buf 12 true false ((G.ns++eE (xi:Nat) (xj:Nat) xf [] xp (.mk ek em en ea ex ps)).map tX)) (show H0.length≠H0.length+5 by omega) (uP H0 st G);simp only[ae (uP H0 st G),ai,aw,Wf,ak a,uc,afY,ahH,ahL,ZA,VK,ce6,ce3,afE,Io,aC,nY];simp only[aH hc,yW,ae b,aC,nY];have rp:=YB H0 st G (eE (xi:Nat) (xj:Nat) xf [] xp (.mk ek em en ea ex ps));rw[iR]at rp;rw[rp,aE (show i<2^62 by omega)];rfl
end
section
def zA{m:Nat}(h:m<=100000):aG ab 115 m=true:=gc (b:=64) (by kernel_rfl) (by decide) h
def qJ{m:Nat}(h:m<=100000):aG ab 9 m=true:=gc (b:=16) (by kernel_rfl) (by decide) h
def OJ{m:Nat}(h:m<=100000):aG ab 162 m=true:=gc (b:=40) (by kernel_rfl) (by decide) h
def JI(s o n:Nat)(H:DH)(κ:D->av):aP ab 90 (.buf s o n) H κ=κ (.i (n:Int)):=by kernel_rfl
def aem(l:aQ)(i:Nat)(κ:D->av):ay ab 22 (.row 14 l) (.i i) κ=aX l i λcs=>κ (.eptr cs 0):=by kernel_rfl
def ZB(cs:List D)(n:Nat)(H:DH)(κ:D->av):bJ ab 3 (.eptr cs n) H κ=ah cs n κ:=by kernel_rfl
variable(H0:DH)(st:Nat)(G:Rf)
def agC(x:af×Nat):((RX H0 st G).set (H0.length+1) (.buf 5 true false (G.fs.map wi++[wi x]))).set (H0.length+5) (.cells (st+1) [.row 14 (G.ds.map bG),.buf 12 H0.length G.ns.length,.buf 5 (H0.length+1) (G.fs.length+1),.buf 1 (H0.length+2) G.nm.length,.buf 1 (H0.length+3) G.dn.length,.buf 4 (H0.length+4) G.rs.length])=RX H0 (st+1) { G with fs:=G.fs++[x] }:=by simp_all[RX,RL]
def agB(x:af):((RX H0 st G).set (H0.length+2) (.buf 1 true false (G.nm.map gq++[[.str x]]))).set (H0.length+5) (.cells (st+1) [.row 14 (G.ds.map bG),.buf 12 H0.length G.ns.length,.buf 5 (H0.length+1) G.fs.length,.buf 1 (H0.length+2) (G.nm.length+1),.buf 1 (H0.length+3) G.dn.length,.buf 4 (H0.length+4) G.rs.length])=RX H0 (st+1) { G with nm:=G.nm++[x] }:=by simp_all[RX,RL,gq]
def agD(x:Nat):((RX H0 st G).set (H0.length+3) (.buf 1 true false (nC G.dn++[[.i x]]))).set (H0.length+5) (.cells (st+1) [.row 14 (G.ds.map bG),.buf 12 H0.length G.ns.length,.buf 5 (H0.length+1) G.fs.length,.buf 1 (H0.length+2) G.nm.length,.buf 1 (H0.length+3) (G.dn.length+1),.buf 4 (H0.length+4) G.rs.length])=RX H0 (st+1) { G with dn:=G.dn++[x] }:=by simp_all[RX,RL,nC]
def agA(x:af×Nat×Nat×Bool):((RX H0 st G).set (H0.length+4) (.buf 4 true false (G.rs.map rrC++[rrC x]))).set (H0.length+5) (.cells (st+1) [.row 14 (G.ds.map bG),.buf 12 H0.length G.ns.length,.buf 5 (H0.length+1) G.fs.length,.buf 1 (H0.length+2) G.nm.length,.buf 1 (H0.length+3) G.dn.length,.buf 4 (H0.length+4) (G.rs.length+1)])=RX H0 (st+1) { G with rs:=G.rs++[x] }:=by simp_all[RX,RL]
def VX(l:List De)(i:Nat):Bool:=match l[i]? with|some d=>d.k==5|none=>false
def Rf.addH(G:Rf)(x:Bd):Rf:=if x.fn then { G with fs:=G.fs++[(x.par,G.ns.length)],nm:=G.nm++[x.n],dn:=G.dn++[x.i] } else { G with rs:=G.rs++[(x.n,x.i,G.ns.length,VX G.ds x.i)] }
def jY{ok:Nat->Bool}{sz o n:Nat}{l:aQ}{e:List D}{H:DH}{κ:D->DH->av}(h:H[o]? = some (.buf sz true false l))(a:l.length=n)(b:ok 1=true)(c:ok (n+1)=true) :
 bQ ok sz (.buf sz o n) [e] H κ=κ (.buf sz o (n+1)) (H.set o (.buf sz true false (l++[e]))):=by subst a;exact lU h b c
def Zb(bs:List Bd)(i:Nat)(x:Bd)(q:bs[i]? = some x)(m:x.i<G.ds.length)(hb:bs.length<2^61)(r:G.fs.length+1<=100000)(s:G.nm.length+1<=100000)(t:G.dn.length+1<=100000)(u:G.rs.length+1<=100000) :
 ∃ st',ac au 36 200004 [.lp 0 0,.g (.ptr (H0.length+5) 0),.g (.row 12 (bs.map qB)),.n i] [(0,[.row 14 (G.ds.map bG)])] (RX H0 st G) =
  ac au 36 12 [.lp 0 0,.g (.ptr (H0.length+5) 0),.g (.row 12 (bs.map qB)),.n i] [(0,[.row 14 (G.ds.map bG)])] (RX H0 st' (G.addH x)):=by
 have h:(bs.map qB)[i]? = some (qB x):=by rw[aiE,q];rfl
 have hi:decide ((i:Int)<(bs.length:Nat))=true:=acv (by have:=(acy.1 q).1;omega);have f:(G.ds.map bG)[x.i]? = some (bG G.ds[x.i]):=by rw[aiE,abI m];rfl
 have hk:VX G.ds x.i=(G.ds[x.i].k==5):=by rw[VX,abI m]
 obtain⟨xi,xj,xn,xf,xp,⟨ek,em,en,ea,ex,ps⟩⟩:=x;simp only[qB,cT,ajo,agc]at h;simp only at m f hk;have o:∀ κ:D->av,ah (bG G.ds[xi]) 0 κ=κ (.i G.ds[xi].k):=λκ=>by obtain⟨k,⟨dn,vs,cs⟩,nm,⟨tn,ts⟩,fs,⟨ek,em,en,ea,ex,ps⟩⟩:=G.ds[xi];rfl
 cases xf with
 |true =>refine⟨st+1+1+1,aW (se) ?_⟩;simp only[MJ,abh,aN,hi,ao,ge,ae (uP _ _ _),ai,aw,JI,Wf,ak h,uc,afY,ZA,VK,ZB,Io,QI,aC,nY,show ∀(a b c d e:D) (κ:List D->av),aj 5 (.agg [a,b,c,d,e]) κ=κ [a,b,c,d,e] from λ_ _ _ _ _ _=>rfl];rw[jY (agF H0 st G) (abh ..) (zA (by omega)) (zA r)];have v (B:DB):=ax B (show H0.length+1≠H0.length+5 by omega) (uP H0 st G);have rp1:=agC H0 st G (xp,G.ns.length);simp only[wi]at rp1;simp only[yW,ae (v _),aC,nY,rp1];simp only[ae (uP _ _ _),ai,aw];have ap2 (κ:D->DH->av):=jY (κ:=κ) (e:=[.str xn]) (ajW H0 (st+1) { G with fs:=G.fs++[(xp,G.ns.length)] }) (abh ..) (qJ (show 1<=100000 by omega)) (qJ s);simp only at ap2;rw[ap2];have j (B:DB):=ax B (show H0.length+2≠H0.length+5 by omega) (uP H0 (st+1) { G with fs:=G.fs++[(xp,G.ns.length)] });have rp2:=agB H0 (st+1) { G with fs:=G.fs++[(xp,G.ns.length)] } xn;simp only at rp2 j;simp only[yW,ae (j _),aC,nY,rp2];simp only[ae (uP _ _ _),ai,aw];have ap3 (κ:D->DH->av):=jY (κ:=κ) (e:=[.i xi]) (ajX H0 (st+1+1) { G with fs:=G.fs++[(xp,G.ns.length)],nm:=G.nm++[xn] }) (jy _) (iH (show 1<=100000 by omega)) (iH t);simp only at ap3;rw[ap3];have l (B:DB):=ax B (show H0.length+3≠H0.length+5 by omega) (uP H0 (st+1+1) { G with fs:=G.fs++[(xp,G.ns.length)],nm:=G.nm++[xn] });have rp3:=agD H0 (st+1+1) { G with fs:=G.fs++[(xp,G.ns.length)],nm:=G.nm++[xn] } xi;simp only at rp3 l;simp only[yW,ae (l _),aC,nY,rp3];rfl
 |false =>refine⟨st+1,aW (se) ?_⟩;simp only[MJ,abh,aN,hi,ao,ge,Xi,ae (uP _ _ _),ai,aw,JI,Wf,ak h,uc,afY,ZA,VK,ZB,Io,QI,afE,aC,nY,aem,ak f,o,aZ,show ∀(a b c d:D) (κ:List D->av),aj 4 (.agg [a,b,c,d]) κ=κ [a,b,c,d] from λ_ _ _ _ _=>rfl];rw[jY (agz H0 st G) (abh ..) (OJ (by omega)) (OJ u)];have p (B:DB):=ax B (show H0.length+4≠H0.length+5 by omega) (uP H0 st G);simp only[yW,ae (p _),aC,nY];have rp:=agA H0 st G (xn,xi,G.ns.length,VX G.ds xi);rw[hk]at rp;simp only[rrC]at rp;rw[rp];simp only[Rf.addH,hk];rfl
end
section
def Rf.addXs(G:Rf):List Bd->Rf
 |[]=>G
 |x::r=>((G.addH x).addB x).addXs r
def sK:List Bd->Nat
 |[]=>0
 |x::r=>ja x.e+sK r
theorem ID(G:Rf)(x:Bd):((G.addH x).addB x).ds=G.ds/\(G.addH x).ds=G.ds/\(G.addH x).ns=G.ns/\((G.addH x).addB x).ns.length=G.ns.length+ja x.e/\((G.addH x).addB x).fs.length<=G.fs.length+1/\((G.addH x).addB x).nm.length<=G.nm.length+1/\((G.addH x).addB x).dn.length<=G.dn.length+1/\((G.addH x).addB x).rs.length<=G.rs.length+1:=by grind [Rf.addB,Rf.addH,iR]
def Pn(H0:DH)(bs:List Bd)(hb:bs.length<2^61)(ds:List De):∀(suf pre:List Bd) (st:Nat) (G:Rf),bs=pre++suf->G.ds=ds->(∀ x∈suf,x.e.ok/\x.i<ds.length)->G.ns.length+sK suf<=100000 ->
 G.fs.length+suf.length<=100000->G.nm.length+suf.length<=100000->G.dn.length+suf.length<=100000->G.rs.length+suf.length<=100000 ->
 ∃ st',ac au 36 200004 [.lp 0 0,.g (.ptr (H0.length+5) 0),.g (.row 12 (bs.map qB)),.n pre.length] [(0,[.row 14 (ds.map bG)])] (RX H0 st G)=ret (.ptr (H0.length+5) 0) (RX H0 st' (G.addXs suf))
 |[],pre,st,G,e,b,_,_,_,_,_,_=>by
  have:bs.length=pre.length:=by rw[e];simp
  refine⟨st,aW (se) ?_⟩;simp_all[MJ,aN,akg,ao,Rf.addXs]
 |x::suf,pre,st,G,e,b,c,h,j,k,l,m=>by
  subst b;have a:bs[pre.length]? = some x:=by rw[e];simp
  obtain⟨ho,o⟩:=c x (adN ..);simp only[aga]at j k l m;rw[sK]at h;obtain⟨p,q,r,a4,a5,a6,a7,a8⟩:=ID G x;obtain⟨s1,s⟩:=Zb H0 st G bs pre.length x a o hb (by omega) (by omega) (by omega) (by omega);have hi:pre.length<2^61:=by have:=(acy.1 a).1;omega
  have d:=Zc H0 s1 (G.addH x) bs pre.length x a ho hi (by rw[r];omega);obtain⟨t,f⟩:=Pn H0 bs hb G.ds suf (pre++[x]) (s1+1) ((G.addH x).addB x) (by rw[e];simp) p (λy hy=>c y (acl _ hy)) (by omega) (by omega) (by omega) (by omega) (by omega);simp only[abg,abf]at f;rw[q]at d;exact⟨t,(s.trans d).trans f⟩
def AM(l:List De):Rf:=(⟨l,[],[],[],[],[]⟩:Rf).addXs (jE 0 l)
theorem La(i:Nat):∀(l:List Fu) (j:Nat) (x:Bd),x∈qA i j l->x.i=i/\∃ f∈l,x.e=f.b
 |[],_,_,h=>by cases h
 |f::r,j,x,h=>by
  rw[qA,afS]at h;rcases h with rfl|h
  .grind
  .obtain⟨h1,g,hg,h2⟩:=La i r (j+1) x h
   grind
theorem aaH(i:Nat)(d:De)(a:d.ok)(x:Bd)(h:x∈Ix i d):x.i=i/\x.e.ok:=by
 unfold Ix at h;obtain⟨_,_,_,h4,h5⟩:=a
 grind [La]
def Dy:∀(l:List De) (i:Nat),(∀ d∈l,d.ok)->∀ x∈jE i l,x.i<i+l.length/\x.e.ok
 |[],_,_,_,h=>by cases h
 |d::r,i,a,x,h=>by
  rw[jE,ajK]at h;rw[aga];rcases h with h|h
  .grind [aaH,List.mem_cons_self]
  .obtain⟨h1,h2⟩:=Dy r (i+1) (λy hy=>a y (acl _ hy)) x h
   grind
def kO:∀(l:List De) (i:Nat),(jE i l).length=mi l
 |[],_=>rfl
 |d::r,i=>by rw[jE,abg,QV,kO r,mi]
def IW:∀ a b:List Bd,sK (a++b)=sK a+sK b
 |[],b=>by simp[sK]
 |x::a,b=>by rw[ajo,sK,sK,IW a b,aoA]
theorem Oq(i:Nat):∀(l:List Fu) (j:Nat),sK (qA i j l)=yG l
 |[],_=>rfl
 |f::r,j=>by rw[qA,sK,Oq i r,yG]
def acI(i:Nat)(d:De):sK (Ix i d)=TE d:=by grind [Ix,TE,Oq,sK]
def Ot:∀(l:List De) (i:Nat),sK (jE i l)=As l
 |[],_=>rfl
 |d::r,i=>by rw[jE,IW,acI,Ot r,As]
def ahk(l:List De)(hl:l.length<2^61)(ho:∀ x∈l,x.ok)(a:∀ d∈l,d.fs.length<2^61)(hs:As l<=2000)(hn:mi l<=960)(H:DH) :
 ∃ st,aq 36 [.agg [.row 14 (l.map bG)]] H=ret (.ptr (H.length+5) 0) (RX H st (AM l)):=by
 have hb:=Xp l hl a (by omega) (RX H 0 ⟨l,[],[],[],[],[]⟩);obtain⟨st,h⟩:=Pn H (jE 0 l) (by rw[kO];omega) l (jE 0 l) [] 0 ⟨l,[],[],[],[],[]⟩ rfl rfl (λx b=>by have:=Dy l 0 ho x b;exact⟨this.2,by omega⟩) (by rw[Ot];simp;omega) (by rw[kO];simp;omega) (by rw[kO];simp;omega) (by rw[kO];simp;omega) (by rw[kO];simp;omega);have c:RX H 0 ⟨l,[],[],[],[],[]⟩=H++[.buf 12 true false []]++[.buf 5 true false []]++[.buf 1 true false []]++[.buf 1 true false []]++[.buf 4 true false []]++[.cells 0 [.row 14 (l.map bG),.buf 12 H.length 0,.buf 5 (H.length+1) 0,.buf 1 (H.length+2) 0,.buf 1 (H.length+3) 0,.buf 4 (H.length+4) 0]]:=by simp[RX,RL,nC]
 rw[c]at h hb;refine⟨st,ev (f36) ?_⟩;simp only[abg,abf,aoA]at h hb ⊢;simp only[am hb];exact h
def WX(l:List De)(pc:List De)(d:De)(sc:List De)(hl:l=pc++d::sc)(h:d.ok)(b:∀ m,m<=d.fs.length->aG ab 86 m=true)(xs:List Ty)(r:xs.length<2^62)(H:DH):∀ pre suf (a:Nat),xs=pre++suf->Ty.oks suf->a<=2001 ->
 ac au 65 200007 [.lp 0 0,.n a,.n pc.length,.g (.row 2 (cE xs)),.n pre.length] [(0,[.row 14 (l.map bG)])] H
  = ac au 65 200012 [.lp 0 0,.n (min (a+dS suf 1) 2001:Nat),.n pc.length,.g (.row 6 (cu (dp d))),.n 0] [(0,[.row 14 (l.map bG)])] H
 |pre,[],a,e,_,o=>by
  have s:xs.length=pre.length:=by rw[e];simp
  have c:(l.map bG)[pc.length]? = some (bG d):=by rw[hl];exact bz _ _ _ _
  have j:=Qj d H h b;refine aW (Cj) ?_;generalize dp d=xx at j ⊢;obtain⟨k,⟨dn,vs,cs⟩,n,⟨tn,ts⟩,fs,⟨ek,em,en,ea,ex,ps⟩⟩:=d;simp only[bG]at j c;simp only[dR lY,bU,aN,s,akg,anM,ao,Xi,aI,ak c,ai,aw,am j,dS,show min (a+0) 2001=a by omega]
 |pre,t::suf,a,e,ho,o=>by
  simp only[Ty.oks]at ho;have hi:pre.length<xs.length:=by rw[e];simp
  have u:decide ((pre.length:Int)<(xs.length:Int))=true:=by simp;exact hi
  have p:(cE xs)[pre.length]? = some (dL t):=by rw[e];exact hQ _ _ _
  have f:=TS t 1 a H ho.1 (by omega) o;have f:aq 123 [.agg (dL t),.i 1,.i a] H=_:=f;have ih:=WX l pc d sc hl h b xs r H (pre++[t]) suf (min (a+BB t 1) 2001) (by rw[e];simp) ho.2 (by omega);refine aW (Cj) ?_;rw[dS,show min (a+(BB t 1+dS suf 1)) 2001=min (min (a+BB t 1) 2001+dS suf 1) 2001 by omega];generalize BB t 1=q at f ih ⊢;obtain⟨tn,tas⟩:=t;simp only[dL]at f p;simp only[abg,abf]at ih;simp only[dR lY,bU,aN,u,ao,ge,jK lY Jd p,ww,am f,aE (show pre.length<2^62 by omega)];exact ih
def WY(l:List De)(ic:Nat)(xs:List Ex)(f:xs.length<2^62)(H:DH):∀ pre suf (a:Nat),xs=pre++suf->Ex.oks suf->a<=2001 ->
 ac au 65 200012 [.lp 0 0,.n a,.n ic,.g (.row 6 (cu xs)),.n pre.length] [(0,[.row 14 (l.map bG)])] H
  = ac au 65 200003 [.lp 0 0,.n (min (a+eV suf 1) 2001:Nat),.n (bm ((ic:Int)+1))] [(0,[.row 14 (l.map bG)])] H
 |pre,[],a,e,_,c=>by
  have e2:xs.length=pre.length:=by rw[e];simp
  refine aW (Ci) ?_;simp_all[dR,bV,aN,akg,ao,eV]
 |pre,t::suf,a,e,ho,c=>by
  simp only[Ex.oks]at ho;have hi:pre.length<xs.length:=by rw[e];simp
  have h:decide ((pre.length:Int)<(xs.length:Int))=true:=by simp;exact hi
  have d:(cu xs)[pre.length]? = some (cT t):=by rw[e];exact je _ _ _
  have b:=TU t 1 a H ho.1 (by omega) c;have b:aq 124 [.agg (cT t),.i 1,.i a] H=_:=b;have ih:=WY l ic xs f H (pre++[t]) suf (min (a+yP t 1) 2001) (by rw[e];simp) ho.2 (by omega);refine aW (Ci) ?_;rw[eV,show min (a+(yP t 1+eV suf 1)) 2001=min (min (a+yP t 1) 2001+eV suf 1) 2001 by omega];generalize yP t 1=q at b ih ⊢;obtain⟨tk,tm,tn,ta,tas,tps⟩:=t;simp only[cT]at b d;simp only[abg,abf]at ih;simp only[dR u83,bV,aN,h,ao,ge,jK u83 s86 d,VL,am b,aE (show pre.length<2^62 by omega)];exact ih
def WZ(l:List De)(hl:l.length<2^62)(H:DH):∀(pre suf:List De) (a:Nat),l=pre++suf->(∀ d∈suf,d.ok2)->a<=2001 ->
 ac au 65 200003 [.lp 0 0,.n a,.n pre.length] [(0,[.row 14 (l.map bG)])] H=ret (.i (min (a+jA suf) 2001:Nat)) H
 |pre,[],a,e,_,j=>by
  have e2:l.length=pre.length:=by rw[e];simp
  refine aW (Cl) ?_;simp_all[jA]
 |pre,d::suf,a,e,h,j=>by
  have hi:pre.length<l.length:=by rw[e];simp
  have p:decide ((pre.length:Int)<(l.length:Int))=true:=by simp;exact hi
  have b:(l.map bG)[pre.length]? = some (bG d):=by rw[e];exact bz _ _ _ _
  have ho:=h d (adN ..);have c:=Od d H ho.ok ho.cs;have f:=WX l pre d suf e ho.ok ho.fs (dD d) (sH ho).2 H [] (dD d) a rfl (sH ho).1 j;have f:ac au 65 200007 [.lp 0 0,.n a,.n pre.length,.g (.row 2 (cE (dD d))),.n 0] [(0,[.row 14 (l.map bG)])] H=_:=f;have m:=WY l pre.length (dp d) (ud ho.ok).2 H [] (dp d) (min (a+dS (dD d) 1) 2001) rfl (ud ho.ok).1 (by omega);have ih:=WZ l hl H (pre++[d]) suf (min (min (a+dS (dD d) 1) 2001+eV (dp d) 1) 2001) (by rw[e];simp) (λx q=>h x (acl _ q)) (by omega);simp only[abg,abf]at ih;rw[aE (show pre.length<2^62 by omega),ih]at m;have o:=f.trans m;rw[jA,MS,show min (a+(dS (dD d) 1+eV (dp d) 1+jA suf)) 2001=min (min (min (a+dS (dD d) 1) 2001+eV (dp d) 1) 2001+jA suf) 2001 by omega];refine aW (Cl) ?_;generalize dD d=tt at c o ⊢;generalize dp d=xx at o ⊢;obtain⟨k,⟨dn,vs,cs⟩,n,⟨tn,ts⟩,fs,⟨ek,em,en,ea,ex,ps⟩⟩:=d;simp only[bG]at b c;simp only[abh,p,ge,aI,ak b,ai,aw,am c]
  grind
def acP(l:List De)(hl:l.length<2^62)(h:∀ d∈l,d.ok2)(H:DH):aq 65 [.agg [.row 14 (l.map bG)]] H=ret (.i (min (jA l) 2001:Nat)) H:=by
 have w:=WZ l hl H [] l 0 rfl h (by omega);refine ev (f65) ?_
 grind
end
section
variable{kind:af->Int}(K:KOk kind)
def Vx(d s:Nat)(H:DH):aq 63 [.i d,.i s] H=ret (.i (bif decide (d>100)then 6 else bif decide (s>2000)then 2 else 0)) H:=by
 refine ev (f63) ?_
 grind
def Yz(v:Int)(q:Bool)(H:DH):aq 66 [.i v,.bool q] H=ret (.i (bif v==0 then(bif q then 0 else 21)else v)) H:=by
 refine ev (f66) ?_
 grind
include K
def FO(l:List De)(hl:l.length<2^62)(H:DH):∀(pre suf:List De) (v:Int),l=pre++suf->(∀ d∈suf,d.ok) ->
 ac au 35 200005 [.lp 0 0,.n v,.n pre.length] [(0,[.row 14 (l.map bG)])] H=ret (.i (bif v==0 then(bif suf.all (fp kind)then 0 else 21)else v)) H
 |pre,[],v,e,_=>by
  have e2:l.length=pre.length:=by rw[e];simp
  refine aW (CB) ?_
  grind
 |pre,d::suf,v,e,h=>by
  have hi:pre.length<l.length:=by rw[e];simp
  have c:decide ((pre.length:Int)<(l.length:Int))=true:=by simp;exact hi
  have a:(l.map bG)[pre.length]? = some (bG d):=by rw[e];exact bz _ _ _ _
  have b:=Kb K d H (h d (adN ..));have ih:=FO l hl H (pre++[d]) suf (bif v==0 then(bif fp kind d then 0 else 21)else v) (by rw[e];simp) (λx g=>h x (acl _ g));simp only[abg,abf]at ih;refine aW (CB) ?_;rw[aof];generalize fp kind d=q at b ih ⊢;generalize suf.all (fp kind)=r at ih ⊢;obtain⟨k,⟨dn,vs,cs⟩,n,⟨tn,ts⟩,fs,⟨ek,em,en,ea,ex,ps⟩⟩:=d;simp only[bG]at a b;cases f:v==0 with
  |false=>simp only[abh,c,ge,Xi]
  |true =>
   simp only[f,ge]at ih;simp only[abh,c,ge,aI,ak a,ai,aw,am b,am (Yz _ _ _),f,aE (show pre.length<2^62 by omega),ih]
   grind
def aat(l:List De)(hl:l.length<2^62)(h:∀ x∈l,x.ok2)(H:DH):aq 35 [.agg [.row 14 (l.map bG)]] H=ret (.i (cW kind l)) H:=by
 refine ev (f35) ?_;have hm:decide (min (jA l) 2001>2000)=decide (jA l>2000):=by rw[ajF];simp;omega
 have w (v:Int):ac au 35 200005 [.lp 0 0,.n v,.n 0] [(0,[.row 14 (l.map bG)])] H=_:=FO K l hl H [] l v rfl (λx a=>(h x a).ok);simp only[aH (aaj l hl h H),aH (acP l hl h H),aH (Vx _ _ H),abh,Wg,aZ,ao,hm,w,cW]
 grind
end
section
def aio(o n i:Nat)(κ:D->av):ay ab 90 (.buf 12 o n) (.i i) κ=boK (Nat.blt i n) (κ (.bptr o n i 0)):=by kernel_rfl
structure fZ(H:DH)(n:Nat)(G:Pg):Prop where
 o:∃ st,H[n+5]? = some (.cells st [.row 14 (G.ds.map bG),.buf 11 (n+1) G.ns.length,.buf 7 (n+2) G.bs.length,.buf 1 (n+3) G.rs.length,.buf 1 (n+4) G.cs.length,.map n])
 m:H[n]? = some (.map (mC G.m))
 ns:H[n+1]? = some (.buf 11 true false (G.ns.map DQ))
 bs:H[n+2]? = some (.buf 7 true false (G.bs.map Du))
 rs:∃ b,H[n+3]? = some (.buf 1 b false (nC G.rs))
 cs:H[n+4]? = some (.buf 1 true false (nC G.cs))
def cC{H:DH}{o:Nat}{b:DB}(X:DH)(h:H[o]? = some b):(H++X)[o]? = some b:=Xw X h
def fZ.app{H:DH}{n:Nat}{G:Pg}(h:fZ H n G)(X:DH):fZ (H++X) n G:=by obtain⟨⟨st,h0⟩,a,c,d,⟨b,e⟩,f⟩:=h;exact⟨⟨st,cC X h0⟩,cC X a,cC X c,cC X d,⟨b,cC X e⟩,cC X f⟩
def adm(H:DH)(st:Nat)(G:Pg):fZ (PX H st G []) H.length G :=
 ⟨⟨st,yJ H st G []⟩,YN H st G [],YM H st G [],YP H st G [],⟨true,adi H st G []⟩,YO H st G []⟩
structure qC(H:DH)(n:Nat)(G:Rf):Prop where
 o:∃ st,H[n+5]? = some (.cells st [.row 14 (G.ds.map bG),.buf 12 n G.ns.length,.buf 5 (n+1) G.fs.length,.buf 1 (n+2) G.nm.length,.buf 1 (n+3) G.dn.length,.buf 4 (n+4) G.rs.length])
 ns:H[n]? = some (.buf 12 true false (G.ns.map tX))
 fs:H[n+1]? = some (.buf 5 true false (G.fs.map wi))
 rs:H[n+4]? = some (.buf 4 true false (G.rs.map rrC))
def qC.app{H:DH}{n:Nat}{G:Rf}(h:qC H n G)(X:DH):qC (H++X) n G:=by obtain⟨⟨st,h0⟩,a,b,c⟩:=h;exact⟨⟨st,cC X h0⟩,cC X a,cC X b,cC X c⟩
def akh(H:DH)(st:Nat)(G:Rf):qC (RX H st G) H.length G:=⟨⟨st,uP H st G⟩,agE H st G,agF H st G,agz H st G⟩
def MH(s o n:Nat)(H:DH)(κ:D->av):aP ab 25 (.buf s o n) H κ=κ (.i (n:Int)):=by kernel_rfl
def aea(s o n:Nat)(H:DH)(κ:D->av):aP ab 92 (.buf s o n) H κ=κ (.i (n:Int)):=by kernel_rfl
def nZ(m:Mc)(nodes runs:Nat):Bool :=
 bif m.mo==1 then decide (m.ex>=0)&&(decide (m.ex<(nodes:Int))&&(eM m m.en m.ce.length&&((m.vc==false&&m.vn==0)&&(decide (m.bo>=0)&&decide (m.bo<(runs:Int))))))
 else bif m.mo==2 then m.ex==0&&(m.en==-1&&(cg m ⟨m.vc,m.vn⟩ m.ce.length&&(decide (m.bo>=0)&&decide (m.bo<(runs:Int)))))
 else bif m.mo==3 then m.ex==0&&(m.en==-1&&((m.vc==false&&m.vn==0)&&((m.fr.length:Int)==0&&m.bo==(runs:Int))))else false
def adF(m:Mc){H:DH}{n:Nat}{G:Pg}(h:fZ H n G):aq 136 [.ptr (n+5) 0,.agg (bh m)] H=ret (.bool (nZ m G.ns.length G.rs.length)) H:=by obtain⟨st,h0⟩:=h.o;refine ev (amP) ?_;have e:=WG m m.en m.ce.length (aoO _) H;have r:=Jk m ⟨m.vc,m.vn⟩ m.ce.length (aoO _) H;simp only[abh,aH e,aH r,ae h0,ai,aw,PH,MH,aN,aZ,ao,bp,agb,nZ]
def adE(m:Mc){H:DH}{n:Nat}{G:Rf}(h:qC H n G):aq 102 [.ptr (n+5) 0,.agg (bh m)] H=ret (.bool (nZ m G.ns.length G.rs.length)) H:=by obtain⟨st,h0⟩:=h.o;refine ev (anr) ?_;have e:=WE m m.en H;have r:=Ur m ⟨m.vc,m.vn⟩ H;simp only[abh,aH e,aH r,ae h0,ai,aw,JI,aea,aN,aZ,ao,bp,agb,nZ]
def Ae{α:Type}(p:α->Bool):∀ l:List α,(!(l.any λr=>!p r))=l.all p
 |[]=>rfl
 |x::r=>by rw[List.any_cons,aof,Bool.not_or,Ae p r,Bool.not_not]
def WK(e:Ex)(n:Nat):Bool:=match e with
 |.mk k _ _ _ xs _=>bif k==6||k==8 then(n:Int)==0 else bif k==3||(k==4||k==9)then decide ((n:Int)<(xs.length:Int))else false
def iQ(m:Mc)(es:List Ex)(f:Fm):Bool:=bif decide (f.ex<0)then false else match es[f.ex.toNat]? with
 |none=>false
 |some e=>eM m f.en m.ce.length&&(f.dn.all (λr=>cg m r m.ce.length)&&WK e f.dn.length)
def akU(m:Mc)(H:DH)(a s:Nat)(b:H[a]? = some (.cells s (bh m)))(f:Fm)(c:f.dn.length<2^61)(v:Int) :
 ac au 140 13 [.g (.ptr a 0),.lp 0 0,.n v] [(0,eg f)] H=ret (.bool (decide ((f.dn.length:Int)<=v)&&f.dn.all λr=>cg m r m.ce.length)) H:=by
 refine aW (aab) ?_;have d:aV bF 209=true:=by kernel_rfl
 have h:=Le 209 [.ptr a 0] d (λr=>!cg m r m.ce.length) H f.dn (λr _=>afy m H a s b r) c;simp only[abh,am h,aK,Ae,bp,agb]
def akQ(a b c d e f g h i j k l:D)(κ:D->av):bL ab 86 [a,b,c,d,e,f,g,h,i,j,k,l] 0 κ=κ (.agg [a,b,c,d,e,f]):=by kernel_rfl
def ahE(o n i:Nat)(H:DH)(κ:D->av):bJ ab 86 (.bptr o n i 0) H κ=cH H o n λ_ _ _ l=>aX l i λcs=>bL ab 86 cs 0 κ:=by kernel_rfl
def akn(g h i j k l a b c d e f:D)(κ:List D->av):aC [g,h,i,j,k,l] 0 [a,b,c,d,e,f] κ=κ [a,b,c,d,e,f]:=rfl
theorem eU{α:Type}{H:DH}{o sz:Nat}{st cap:Bool}{f:α->List D}{l:List α}{κ:Nat->Bool->Bool->aQ->av}(h:H[o]? = some (.buf sz st cap (l.map f))):cH H o l.length κ=κ sz st cap (l.map f):=by grind [cy,List.length_map]
def cz{α:Type}{f:α->List D}{l:List α}{i:Nat}{x:α}(h:l[i]? = some x)(κ:List D->av):aX (l.map f) i κ=κ (f x):=ak (by rw[aiE,h];rfl)
def ZR(m:Mc){H:DH}{n:Nat}{G:Pg}(h:fZ H n G)(f:Fm)(l:f.dn.length<2^61)(p:∀ x∈G.ns,x.e.ok):aq 140 [.ptr (n+5) 0,.agg (bh m),.agg (eg f)] H=ret (.bool (iQ m (G.ns.map (·.e)) f)) H:=by
 refine ev (amN) ?_;refine(anL (bj H) ?_).trans (zq _ H [.cells 0 (bh m)]);have hA:=h.app [.cells 0 (bh m)];obtain⟨st,h0⟩:=hA.o;have hm:(H++[DB.cells 0 (bh m)])[H.length]? = some (.cells 0 (bh m)):=be _ _;generalize hH:H++[DB.cells 0 (bh m)]=g at *;rw[iQ];cases d:decide (f.ex<0)with
 |true=>rfl
 |false =>
  have g0:0<=f.ex:=by have:=of_decide_eq_false d;omega
  obtain⟨i,hi⟩:=anW g0;simp only[Xi,ae h0,ai,aw,PH,dW,ao,hi,anE];by_cases a:i<G.ns.length
  .rw[acz (show ¬((i:Int)>=(G.ns.length:Int))by omega),Xi];have b:G.ns[i]? = some G.ns[i]:=abI a;have c:=p _ (aoP a);rw[show(G.ns.map (·.e))[i]? = some G.ns[i].e by rw[aiE,b];rfl];generalize G.ns[i]=x at b c;have e:=WG m f.en m.ce.length (aoO _) g;have j (v:Int):=akU m g H.length 0 hm f l v;simp only[eg,hi]at j;obtain⟨⟨k,mm,nm,ag,xs,ps⟩,xd,xf,xp,xb,xr⟩:=x;rw[Ex.ok]at c;have q:bm ((xs.length:Int) - 1)=(xs.length:Int) - 1:=ki (by omega) (by have:=c.1;omega);have r:decide ((f.dn.length:Int)<=(xs.length:Int) - 1)=decide ((f.dn.length:Int)<(xs.length:Int)):=aoI.2 (by omega);have s:decide ((f.dn.length:Int)<=0)=((f.dn.length:Int)==0):=by rw[ajF];simp
   simp only[ae hm,ai,aw,oZ,abh,aH e,aK,ao];cases eM m f.en m.ce.length with
   |false=>rfl
   |true =>
    simp only[age,Xi,ae h0,ai,aw,aip,lH a,boK,ge,ahD,eU hA.ns,cz b,DQ,akP,anw,akz,PG,bV,nP,aZ,ao,j,q,r,s,bp,WK,adG]
    grind
  grind
def ZQ(m:Mc){H:DH}{n:Nat}{G:Rf}(h:qC H n G)(f:Fm)(g:f.dn.length<2^61):aq 105 [.ptr (n+5) 0,.agg (bh m),.agg (eg f)] H=ret (.bool (iQ m (G.ns.map (·.e)) f)) H:=by
 refine ev (ano) ?_;obtain⟨st,h0⟩:=h.o;rw[iQ];cases c:decide (f.ex<0)with
 |true=>rfl
 |false =>
  have g0:0<=f.ex:=by have:=of_decide_eq_false c;omega
  obtain⟨i,hi⟩:=anW g0;simp only[Xi,ae h0,ai,aw,JI,dW,ao,hi,anE];by_cases d:i<G.ns.length
  .rw[acz (show ¬((i:Int)>=(G.ns.length:Int))by omega),Xi];have b:G.ns[i]? = some G.ns[i]:=abI d;rw[show(G.ns.map (·.e))[i]? = some G.ns[i].e by rw[aiE,b];rfl];generalize G.ns[i]=x at b;have e:=WE m f.en H;have a:=QX m f.dn g H;obtain⟨⟨k,mm,nm,ag,xs,ps⟩,xd,xf,xp,xb,xz,xr⟩:=x;simp only[aH e,aH a,aK,ao];cases eM m f.en m.ce.length with
   |false=>rfl
   |true =>
    cases f.dn.all λr=>cg m r m.ce.length with
    |false=>rfl
    |true =>
     simp only[age,Xi,ae h0,ai,aw,aio,lH d,boK,ge,wF,afY,ahE,eU h.ns,cz b,tX,akQ,ce6,akn,PG,bV,aN,aZ,ao,abh,bp,WK,adG]
     grind
  grind
theorem IP(b:Bool)(H:DH)(x y:DB):bj H (ret (.bool b) (H++[x]++[y]))=ret (.bool b) H:=by rw[ajL];exact zq _ _ _
def ael(l:aQ)(i:Nat)(κ:D->av):ay ab 39 (.row 5 l) (.i i) κ=aX l i λcs=>κ (.eptr cs 0):=by kernel_rfl
def ahO(a b c d e:D)(H:DH)(κ:D->av):bJ ab 115 (.eptr [a,b,c,d,e] 0) H κ=κ (.agg [a,b,c,d,e]):=by kernel_rfl
def ajn(a b c d e:D)(κ:List D->av):aj 5 (.agg [a,b,c,d,e]) κ=κ [a,b,c,d,e]:=rfl
def akq(f g h i j a b c d e:D)(κ:List D->av):aC [f,g,h,i,j] 0 [a,b,c,d,e] κ=κ [a,b,c,d,e]:=rfl
def rQ(l:aQ)(H:DH)(κ:D->av):aP ab 109 (.row 2 l) H κ=κ (.i l.length):=by kernel_rfl
def abR(x:List D)(l:aQ)(κ:D->av):ay ab 109 (.row 2 (x::l)) (.i 0) κ=κ (.eptr x 0):=by kernel_rfl
def ahK(a b:D)(H:DH)(κ:D->av):bJ ab 37 (.eptr [a,b] 0) H κ=κ (.agg [a,b]):=by kernel_rfl
def VM(cs:List D)(n:Nat)(H:DH)(κ:D->av):bJ ab 3 (.eptr cs n) H κ=ah cs n κ:=by kernel_rfl
def ajq(a c:Bool)(b d:Int)(κ:D->av):aA ab .eql 37 false (.agg [.bool a,.i b]) (.agg [.bool c,.i d]) κ=κ (.bool ((a==c)&&(b==d))):=by kernel_rfl
def agY(a b w:D)(κ:List D->av):aC [a,b] 1 [w] κ=κ [a,w]:=rfl
def Ip(n:Int)(κ:List D->av):aj 1 (.i n) κ=κ [.i n]:=rfl
def jJ:List (Nat×af)->Int->Option af
 |[],_=>none
 |(k,a)::r,n=>bif n==(k:Int)then some a else jJ r n
def Vm(n:Int):∀ l:List (Nat×af),JA (.i n) (mC l)=some ((jJ l n).map D.str)
 |[]=>rfl
 |(k,a)::r=>by have ih:=Vm n r;simp only[mC]at ih;simp only[mC,ads,JA,BA,ih,jJ];cases n==(k:Int)<;>rfl
def adQ{H:DH}{o:Nat}{l:List (Nat×af)}(h:H[o]? = some (.map (mC l)))(n:Int)(κ:D->av):oa ab 80 (.map o) (.i n) true H κ=match jJ l n with
 |some a=>κ (.tuple [.str a,.bool true])
 |none=>κ (.tuple [.str [],.bool false]):=by
 have e:oa ab 80 (.map o) (.i n) true H κ=rM H o λes=>wt (.i n) es λr=>lQ ab 9 true r κ:=by kernel_rfl
 have b:lQ ab 9 true none κ=κ (.tuple [.str [],.bool false]):=by kernel_rfl
 rw[e,mq h,wt,Vm];cases jJ l n with
 |none=>exact b
 |some a=>rfl
def nxt(m:Mc)(i:Nat):Int:=match m.ce[i]? with
 |some c=>c.nx
 |none=>0
def EY(m:Mc)(i:Nat)(l:List Re):Bool:=match l with
 |[r]=>bif r.c&&r.n==((i+1:Nat):Int)then decide (((i+1:Nat):Int)<(m.ce.length:Int))&&(kd m ((i+1:Nat):Int)==2&&nxt m (i+1)==(i:Int))else cg m r i
 |_=>false
def yB(m:Mc)(mp:List (Nat×af))(i:Nat)(c:Ce):Bool :=
 bif c.k==1 then(c.con==[44]||bM c.con==3)&&(decide ((c.refs.length:Int)<=16)&&(c.n==0&&(c.nx==-1&&c.refs.all λr=>cg m r i)))
 else bif c.k==2 then(match jJ mp c.n with
  |none=>false
  |some a=>bM c.con==2&&(a==c.con&&((c.refs.length:Int)==0&&eM m c.nx i)))
 else bif c.k==3 then bM c.con==2&&(c.n==0&&((c.refs.length:Int)==1&&(eM m c.nx i&&EY m i c.refs)))else false
def VW(m:Mc){H:DH}{n:Nat}{G:Pg}(h:fZ H n G)(i:Nat)(c:Ce)(hc:m.ce[i]? = some c)(hl:m.ce.length<2^61)(hr:c.refs.length<2^61):aq 135 [.ptr (n+5) 0,.agg (bh m),.i i] H=ret (.bool (yB m G.m i c)) H:=by
 have hi:i<m.ce.length:=(acy.1 hc).1;refine ev (amQ) ?_;refine(anL (bj H) ?_).trans (IP _ H (.cells 0 (bh m)) (.cells 0 [.i i]));dsimp only;have hA:=(h.app [.cells 0 (bh m)]).app [.cells 0 [.i i]];obtain⟨st,h0⟩:=hA.o;have g:(H++[DB.cells 0 (bh m)]++[jv i])[H.length]? = some (.cells 0 (bh m)):=cC _ (be _ _);have hb:(H++[DB.cells 0 (bh m)]++[jv i])[(H++[DB.cells 0 (bh m)]).length]? = some (.cells 0 [.i i]):=be _ _;generalize(H++[DB.cells 0 (bh m)]).length=p at *;generalize hH:H++[DB.cells 0 (bh m)]++[jv i]=f at *;have v:aV bF 203=true:=by kernel_rfl
 have d:=Le 203 [.ptr H.length 0,.ptr p 0] v (λr=>!cg m r i) f c.refs (λr _=>afz m i (by omega) f H.length p 0 0 g hb r) hr;have e:=WG m c.nx i (by omega) f;have q:=nq kOk c.con f;have j:=ph kOk c.con f;obtain⟨ck,con,cn,refs,nx⟩:=c;simp only at d e q j hr;rw[yB];simp only[ae g,ae hb,ai,aw,ael,cz hc,dw,ahO,ajn,akq,aZ,ao];cases h1:ck==1 with
 |true =>
  simp only[ge,fw,ao,rQ,abh,Aa,aZ,am d,am q,aK,Ae,bp,agb]
  grind
 |false =>
  simp only[Xi];cases h2:ck==2 with
  |true =>
   simp only[ge,ae h0,ai,aw,adQ hA.m];cases jJ G.m cn with
   |none=>rfl
   |some a =>simp only[dU,ai,aw,ao,ge,am j,fw,rQ,abh,aZ,ae g,ae hb,am e,bp,agb]
  |false =>
   simp only[Xi];cases h3:ck==3 with
   |false=>rfl
   |true =>
    simp only[ge,am j,aK,ao,rQ,abh,bu];cases hk:bM con==2 with
    |false=>rfl
    |true =>
     simp only[age,Xi,adG];cases u:cn==0 with
     |false=>simp only[bne,u,ajM,ge,ajI]
     |true =>
      simp only[bne,u,age,Xi,adG];match refs,hr with
      |[],_=>rfl
      |r::s::t,_ =>grind
      |[r],_ =>
       simp only[abf,ads,aoW,ae g,ae hb,ai,aw,am e,aK,ao];cases eM m nx i with
       |false=>rfl
       |true =>
        have w:bm ((i:Int)+1)=((i+1:Nat):Int):=aE (by omega);have x:=Jk m r i (by omega) f;simp only[cL,age,Xi,adG,abR,ahK,bR,w,Ip,agY,ajq,ao,oZ,abh,aN,EY,aos,beq_true];rw[show(((1:Nat):Int)==1)=true from rfl];simp only[age,Xi,adG,aH x];cases r.c&&r.n==((i+1:Nat):Int)with
        |false=>rfl
        |true =>
         by_cases l:i+1<m.ce.length
         .rw[acv (show((i+1:Nat):Int)<(m.ce.length:Int)by omega)];have b:m.ce[i+1]? = some m.ce[i+1]:=abI l;generalize m.ce[i+1]=c2 at b;have y:kd m ((i+1:Nat):Int)=c2.k:=by rw[kd,anE,b]
          have z:nxt m (i+1)=c2.nx:=by rw[nxt,b]
          simp only[ge,ael,cz b,uc,afY,VM,dw,ai,aw,aZ,ao,y,z,adG,bp,agb]
         grind
def aen(l:aQ)(i:Nat)(κ:D->av):ay ab 109 (.row 2 l) (.i i) κ=aX l i λcs=>κ (.eptr cs 0):=by kernel_rfl
def ahB(o n i:Nat)(H:DH)(κ:D->av):bJ ab 9 (.bptr o n i 11) H κ=cH H o n λ_ _ _ l=>aX l i λcs=>bL ab 9 cs 11 κ:=by kernel_rfl
def lc9(cs:List D)(i:Nat)(κ:D->av):bL ab 9 cs i κ=ah cs i κ:=by kernel_rfl
def MR(s:af)(H:DH):∃ k,aq 170 [.str s] H=ret (.i k) H/\∀ j,2<=j->(k==j)=(bM s==j):=by
 obtain⟨k,h1,h2⟩:=kOk.b s H
 grind
def On(c:Ce):Bool:=(c.con==[44]||bM c.con==3)&&(decide ((c.refs.length:Int)<=16)&&(c.n==0&&c.nx==-1))
def Fa(i:Int)(c:Ce)(hl:c.refs.length<2^61)(H:DH):∀ suf pre,c.refs=pre++suf ->
 ac au 104 200007 [.n i,.lp 1 0,.n (pre.length:Nat)] [(0,[]),(0,dw c)] H=ret (.bool ((suf.all λr=>!(r.c&&decide (r.n>=i)))&&On c)) H
 |[],pre,e=>by
  refine aW (yn) ?_;have:c.refs.length=pre.length:=by rw[e];simp
  obtain⟨k,hk,a⟩:=MR c.con H;simp only[rQ,abh,aN,ao];rw[this,acz (show ¬((pre.length:Nat):Int)<(pre.length:Nat)from λq=>by omega),Xi];simp only[fw,Aa,aZ,ao,am hk,a 3 (by decide),bp,agb,apt,adG,On,this]
  grind
 |r::suf,pre,e=>by
  have hi:pre.length<c.refs.length:=by rw[e];simp
  have ih:=Fa i c hl H suf (pre++[r]) (by rw[e];simp);simp only[abg,abf]at ih;simp only[dw]at ih;refine aW (yn) ?_;simp only[rQ,abh,aN,ao];rw[acv (show((pre.length:Nat):Int)<(c.refs.length:Int)by omega),ge];simp only[aen,ak (Uz c.refs pre r suf e),uc,afY,ZA,VM,ai,aw,dW,ao,aE (show pre.length<2^62 by omega),ih,aof]
  grind
def akx(c d a b:D)(κ:List D->av):aC [c,d] 0 [a,b] κ=κ [a,b]:=rfl
def qL(ns:List Fn)(n:Int):af:=match ns[n.toNat]? with
 |some x=>x.par
 |none=>[]
def AO(m:Mc)(i:Nat)(l:List Re):Bool:=match l with
 |[r]=>!r.c||(decide (r.n<(i:Int))||(r.n==((i+1:Nat):Int)&&(kd m ((i+1:Nat):Int)==2&&nxt m (i+1)==(i:Int))))
 |_=>false
def KV(m:Mc)(ns:List Fn)(i:Nat)(c:Ce):Bool :=
 (c.refs.all λr=>cg m r m.ce.length)&&(bif c.k==1 then(c.refs.all λr=>!(r.c&&decide (r.n>=(i:Int))))&&On c
 else bif c.k==2 then decide (c.n>=0)&&(decide (c.n<(ns.length:Int))&&(!(c.con==[])&&(qL ns c.n==c.con&&((c.refs.length:Int)==0&&(eM m c.nx m.ce.length&&decide (c.nx<(i:Int)))))))
 else bif c.k==3 then bM c.con==2&&(c.n==0&&((c.refs.length:Int)==1&&(eM m c.nx m.ce.length&&(!decide (c.nx>=(i:Int))&&AO m i c.refs))))else false)
def VV(m:Mc){H:DH}{n:Nat}{G:Rf}(h:qC H n G)(i:Nat)(c:Ce)(hc:m.ce[i]? = some c)(hl:m.ce.length<2^61)(hr:c.refs.length<2^61):aq 104 [.ptr (n+5) 0,.agg (bh m),.i i] H=ret (.bool (KV m G.ns i c)) H:=by
 have hi:i<m.ce.length:=(acy.1 hc).1;obtain⟨st,h0⟩:=h.o;have q:=QX m c.refs hr H;have hloop:=Fa i c hr H c.refs [] rfl;have e:=WE m c.nx H;obtain⟨k,hk,u⟩:=MR c.con H;refine ev (anp) ?_;rw[KV];obtain⟨ck,con,cn,refs,nx⟩:=c;simp only[anR]at q hloop e hk u hr;simp only[dw]at hloop;simp only[aI,cz hc,dw,ai,aw,am q,aK,ao];cases g:refs.all λr=>cg m r m.ce.length with
 |false=>simp only[ajM,ge,ajI]
 |true =>
  simp only[age,Xi,adG,aZ,ao];cases h1:ck==1 with
  |true =>grind
  |false =>
   simp only[Xi];cases h2:ck==2 with
   |true =>
    simp only[ge,dW,aN,ae h0,ai,aw,JI,ao];cases w:decide (cn>=0)with
    |false=>rfl
    |true =>
     have g0:0<=cn:=akM w;obtain⟨j,rfl⟩:=anW g0;by_cases b:j<G.ns.length
     .rw[acv (show((j:Nat):Int)<(G.ns.length:Int)by omega)];have d:G.ns[j]? = some G.ns[j]:=abI b;generalize G.ns[j]=x at d;have l:qL G.ns (j:Int)=x.par:=by rw[qL,anE,d]
      obtain⟨⟨k',mm,nm,ag,xs,ps⟩,xd,xf,xp,xb,xz,xr⟩:=x;simp only[ge,iB,aio,lH b,boK,wF,afY,ahB,eU h.ns,cz d,lc9,tX,ai,aw,fw,rQ,abh,aZ,aH e,aN,ao,bp,agb,l,adG]
     grind
   |false =>
    simp only[Xi];cases h3:ck==3 with
    |false=>rfl
    |true =>
     have p:(k != 2)=!(bM con==2):=by rw[bne,u 2 (by decide)]
     simp only[ge,am hk,bu,ao,p,rQ,abh];cases bM con==2 with
     |false=>simp only[ajM,ge,ajI]
     |true =>
      simp only[age,Xi,adG];cases v:cn==0 with
      |false=>simp only[bne,v,ajM,ge,ajI]
      |true =>
       simp only[bne,v,age,Xi,adG];rcases refs with _|⟨r,_|⟨s,t⟩⟩
       .rfl
       rotate_left
       .
        have:(((r::s::t).length:Int)==1)=false:=by simp;omega
        rw[this];rfl
       .
        simp only[abf,ads,aoW,am e,aK,ao];rw[show(((1:Nat):Int)==1)=true from rfl];simp only[age,Xi,adG];cases eM m nx m.ce.length with
        |false=>rfl
        |true =>
         have y:bm ((i:Int)+1)=((i+1:Nat):Int):=aE (by omega);simp only[age,Xi,adG,dW,ao];cases decide (nx>=(i:Int))with
         |true=>rfl
         |false =>
          obtain⟨rc,rn⟩:=r;simp only[Xi,ajM,adG,cL,abR,ahK,ce2,akx,AO,ai,aw,aK,ao,aN,aZ,y];cases rc with
          |false=>rfl
          |true =>
           simp only[age,Xi,aop];cases decide (rn<(i:Int))with
           |true=>rfl
           |false =>
            cases f:rn==((i+1:Nat):Int)with
            |false=>rfl
            |true =>
             have f:=eq_of_beq f;subst f;have b:i+1<m.ce.length:=by
              simp only[aof,apt,aos,cg,age,aop,abk]at g
              grind
             have a:m.ce[i+1]? = some m.ce[i+1]:=abI b;generalize m.ce[i+1]=c2 at a;have l:kd m ((i+1:Nat):Int)=c2.k:=by rw[kd,anE,a]
             have z:nxt m (i+1)=c2.nx:=by rw[nxt,a]
             simp only[ge,Xi,ael,cz a,uc,afY,VM,dw,ai,aw,aZ,ao,l,z,adG,aop,bp,agb]
mutual
def jD:Va->Nat
 |.mk _ _ xs=>1+jq xs
def jq:List Va->Nat
 |[]=>0
 |v::r=>jD v+jq r
end
def XW(con:af)(n:Int)(len:Nat):Bool:=bif con==[] then(len:Int)==0 else n==0&&(bif con==[44] then decide ((len:Int)>=2)&&decide ((len:Int)<=4)else bM con==3&&decide ((len:Int)<=16))
mutual
def fmV:Va->Bool
 |.mk c n xs=>BS xs&&XW c n xs.length
def BS:List Va->Bool
 |[]=>true
 |v::r=>fmV v&&BS r
end
mutual
def Va.ok:Va->Prop
 |.mk _ _ xs=>xs.length<2^61/\Va.oks xs
def Va.oks:List Va->Prop
 |[]=>True
 |v::r=>v.ok/\Va.oks r
end
def oz:∀ l,ff l=l.map kU
 |[]=>rfl
 |t::r=>by simp[ff,oz r]
theorem dM(l:List Va):(ff l).length=l.length:=by rw[oz,abh]
def sE(pre:List Va)(v:Va)(suf:List Va):(ff (pre++v::suf))[pre.length]? = some (kU v):=by rw[oz,bz]
def WW(v:Va):1<=jD v:=by obtain⟨c,n,xs⟩:=v;rw[jD];omega
mutual
def acj(H:DH):∀(v:Va),v.ok->∀ most:Int,0<=most->most<=100000->aq 224 [.agg (kU v),.i most] H=ret (.i (min (jD v:Int) (most+1))) H
 |.mk c n xs,ho,most,h0,a=>by
  rw[Va.ok]at ho;rw[kU];refine ev (f224) ?_;have:=WV H c n xs ho.1 xs [] rfl ho.2 most h0 a 1 (by omega) (by omega)
  grind [jD]
def WV(H:DH)(c:af)(n:Int)(xs:List Va)(hl:xs.length<2^61):∀(suf pre:List Va),xs=pre++suf->Va.oks suf->∀ most:Int,0<=most->most<=100000->∀ k:Int,1<=k->k<=most+1 ->
 ac au 224 200003 [.n most,.lp 0 0,.n k,.n pre.length] [(0,(xV c n (ff xs)))] H=ret (.i (min (k+(jq suf:Int)) (most+1))) H
 |[],pre,e,_,most,h0,b,k,f,g=>by
  refine aW (xl) ?_;have:xs.length=pre.length:=by rw[e];simp
  rw[dM,gI,this,acz (anz _),Xi,jq]
  grind
 |.mk xc xn xx::suf,pre,e,ho,most,h0,b,k,f,g=>by
  rw[Va.oks]at ho;have hi:pre.length<xs.length:=by rw[e];simp
  have a:(ff xs)[pre.length]? = some (kU (.mk xc xn xx)):=by rw[e];exact sE _ _ _
  refine aW (xl) ?_;rw[dM,gI,acv hi,ge];by_cases hk:k<=most
  .have d:=acj H (.mk xc xn xx) ho.1 (most - k) (by omega) (by omega);have ih:=WV H c n xs hl suf (pre++[.mk xc xn xx]) (by rw[e];simp) ho.2 most h0 b (k+min (jD (.mk xc xn xx):Int) (most - k+1)) (by omega) (by omega);simp only[abg,abf]at ih;have h:bm (most - k)=most - k:=ki (by omega) (by omega);have j:bm (k+min (jD (.mk xc xn xx):Int) (most - k+1))=k+min (jD (.mk xc xn xx):Int) (most - k+1):=ki (by omega) (by omega);rw[kU]at a d;rw[acv hk,ge];simp only[aI,ak a,ai,aw,h,am d,bR,j,aE (show pre.length<2^62 by omega),ih];rw[jq]
   grind
  grind
end
mutual
def aiF(H:DH):∀(v:Va),v.ok->aq 225 [.agg (kU v)] H=ret (.bool (fmV v)) H
 |.mk c n xs,ho=>by rw[Va.ok]at ho;rw[kU];refine ev (f225) ?_;exact abY H c n xs ho.1 xs [] rfl ho.2
def abY(H:DH)(c:af)(n:Int)(xs:List Va)(hl:xs.length<2^61):∀(suf pre:List Va),xs=pre++suf->Va.oks suf ->
 ac au 225 200002 [.lp 0 0,.n pre.length] [(0,(xV c n (ff xs)))] H=ret (.bool (BS suf&&XW c n xs.length)) H
 |[],pre,e,_=>by
  refine aW (xh) ?_;have:xs.length=pre.length:=by rw[e];simp
  obtain⟨k,hk,d⟩:=MR c H;rw[dM,gI,this,acz (anz _),Xi,BS,XW];simp only[am hk,aZ,d 3 (by decide),ao,bp,agb,adG]
  grind
 |.mk xc xn xx::suf,pre,e,ho=>by
  rw[Va.oks]at ho;have hi:pre.length<xs.length:=by rw[e];simp
  have a:(ff xs)[pre.length]? = some (kU (.mk xc xn xx)):=by rw[e];exact sE _ _ _
  have b:=aiF H (.mk xc xn xx) ho.1;have ih:=abY H c n xs hl suf (pre++[.mk xc xn xx]) (by rw[e];simp) ho.2;simp only[abg,abf]at ih;refine aW (xh) ?_;rw[dM,gI,acv hi,ge];rw[kU]at a b;simp only[aI,ak a,ai,aw,am b,aK,ao,aE (show pre.length<2^62 by omega),ih]
  grind [BS]
end
def Lz(v:Va):Bool:=decide ((jD v:Int)<=4000)&&fmV v
def agq(H:DH)(v:Va)(ho:v.ok):aq 162 [.agg (kU v)] H=ret (.bool (Lz v)) H:=by have a:=acj H v ho 4000 (by decide) (by decide);have b:=aiF H v ho;obtain⟨c,n,xs⟩:=v;rw[kU]at a b ⊢;refine ev (amM) ?_;have d:decide (min (jD (.mk c n xs):Int) (4000+1)<=4000)=decide ((jD (.mk c n xs):Int)<=4000):=aoI.2 (by omega);simp only[am a,am b,Aa,ao,d,bp,agb,Lz]
def Ho(H:DH)(o st:Nat)(c:Int):DH:=H.set o (.cells st [.i c])
def BI{H:DH}{o:Nat}(h:o<H.length)(st:Nat)(c:Int):(Ho H o st c)[o]? = some (.cells st [.i c]):=by unfold Ho;rw[ape h]
def rV(H:DH)(o st st':Nat)(c a:Int):(Ho H o st c).set o (.cells st' [.i a])=Ho H o st' a:=by unfold Ho;rw[agd]
def ajk(cs:List D)(c:Nat)(κ:D->av):vR (.eptr cs c) κ=κ (.eptr cs c):=rfl
def akO(cs:List D)(c:Nat)(H:DH)(κ:D->av):bJ ab 70 (.eptr cs c) H κ=ah cs c κ:=by kernel_rfl
def ahJ(o c:Nat)(H:DH)(κ:D->av):bJ ab 70 (.ptr o c) H κ=aB H o λ_ cs=>ah cs c κ:=by kernel_rfl
def aiq(l:aQ)(i:Nat)(κ:D->av):ay ab 70 (.row 3 l) (.i i) κ=aX l i λcs=>κ (.eptr cs 0):=by kernel_rfl
def PJ(l:aQ)(H:DH)(κ:D->av):aP ab 70 (.row 3 l) H κ=κ (.i l.length):=by kernel_rfl
def Jr(a w:D)(κ:List D->av):aC [a] 0 [w] κ=κ [w]:=rfl
def vb(c:Int)(v:Va):Bool:=decide (c+(jD v:Int)<=4000)&&fmV v
def Ti(c:Int)(l:List Va):Bool:=decide (c+(jq l:Int)<=4000)&&BS l
def MZ(con:af)(n:Int)(xs:List Va)(c:Int)(h1:c+1<=4000):vb c (.mk con n xs)=(XW con n xs.length&&Ti (c+1) xs):=by grind [vb,Ti,fmV,jD]
mutual
def ags(H:DH)(o:Nat)(ho:o<H.length):∀(v:Va),v.ok->∀(st:Nat) (c:Int),0<=c->c<=4000->∃(st':Nat) (e:Int),
 aq 263 [.eptr (kU v) 0,.ptr o 0] (Ho H o st c)=ret (.bool (vb c v)) (Ho H o st' e)/\(vb c v=true->e=c+(jD v:Int))
 |.mk con n xs,f,st,c,h0,h1=>by
  rw[Va.ok]at f;have i:bm (c+1)=c+1:=ki (by omega) (by omega);by_cases l:c+1>4000
  .refine⟨st+1,c+1,?_,?_⟩
   .rw[kU];refine ev (Qi) ?_;simp only[ae (BI ho _ _),ai,bR,i,Ip,Jr,rV,er,ao]
    grind [vb,jD]
   grind [vb,jD]
  .by_cases b:con=[]/\xs=[]
   .obtain⟨rfl,rfl⟩:=b;refine⟨st+1,c+1,?_,λ_=>by rw[jD,jq];omega⟩;rw[kU];refine ev (Qi) ?_;simp only[ae (BI ho _ _),ai,bR,i,Ip,Jr,rV,er,ao,dM];have f:vb c (.mk [] n [])=true:=by rw[MZ [] n [] c (by omega),Ti,jq,BS,acv (by omega)];rfl
    grind
   obtain⟨st',e,hl,hc⟩:=LA H o ho (.eptr (xV con n (ff xs)) 0) xs f.1 (λs q κ=>by rw[ajk,uc,akO];rfl) xs [] rfl f.2 (st+1) (c+1) (by omega) (by omega);rw[MZ con n xs c (by omega)];have hk:=nq kOk con (Ho H o (st+1) (c+1));cases a:XW con n xs.length with
   |true =>
    refine⟨st',e,?_,λh=>by rw[hc (by simpa using h),jD];omega⟩;rw[kU];refine ev (Qi) ?_;simp only[ae (BI ho _ _),ai,bR,i,Ip,Jr,rV,er,ao,dM];rw[acz l,Xi,adG];simp only[anR]at hl;rw[XW]at a;cases j:con==[]with
    |true =>simp_all
    |false =>
     rw[j,Xi,abk]at a;have d:(n != 0)=false:=by rw[bne,a.1];rfl
     simp only[Xi,d];cases k:con==[44]with
     |true =>grind
     |false =>
      rw[k,Xi,abk]at a
      grind [am,aK,Bool.not_true,ao]
   |false =>
    refine⟨st+1,c+1,?_,λh=>by simp at h⟩;rw[kU];refine ev (Qi) ?_;simp only[ae (BI ho _ _),ai,bR,i,Ip,Jr,rV,er,ao,dM];rw[acz l,Xi,ajI];rw[XW]at a;cases j:con==[]with
    |true =>grind
    |false =>
     rw[j,Xi]at a;simp only[Xi];cases d:n==0 with
     |false=>rw[show(n != 0)=true by rw[bne,d];rfl,ge]
     |true =>
      rw[d,adG]at a;rw[show(n != 0)=false by rw[bne,d];rfl,Xi];by_cases g:(xs.length:Int)>16
      .grind
      .rw[acz g,Xi];cases k:con==[44]with
       |true =>grind
       |false =>
        rw[k,Xi,acv (show(xs.length:Int)<=16 by omega),aos]at a
        grind [am,aK,ao]
def LA(H:DH)(o:Nat)(ho:o<H.length)(j:D)(xs:List Va)(hl:xs.length<2^61)
 (a:∀(s:Nat) (q:Int) (κ:D->av),(vR j λx=>bI x 2 λy=>bJ ab 70 y (Ho H o s q) κ)=κ (.row 3 (ff xs))):∀(suf pre:List Va),xs=pre++suf->Va.oks suf->∀(st:Nat) (c:Int),0<=c->c<=4000->∃(st':Nat) (m:Int),
 ac au 263 200013 [.g j,.g (.ptr o 0),.n xs.length,.n pre.length] [] (Ho H o st c)=ret (.bool (Ti c suf)) (Ho H o st' m)/\(Ti c suf=true->m=c+(jq suf:Int))
 |[],pre,e,_,st,c,h0,p=>by refine⟨st,c,?_,λ_=>by rw[jq];omega⟩;refine aW (nF) ?_;simp_all[anz,Ti,jq,BS]
 |.mk xc xn xx::suf,pre,e,k,st,c,h0,p=>by
  rw[Va.oks]at k;have hi:pre.length<xs.length:=by rw[e];simp
  have d:(ff xs)[pre.length]? = some (kU (.mk xc xn xx)):=by rw[e];exact sE _ _ _
  obtain⟨s1,c1,b,l⟩:=ags H o ho (.mk xc xn xx) k.1 st c h0 p;have hpos:=WW (.mk xc xn xx);have hsplit:Ti c (.mk xc xn xx::suf)=(vb c (.mk xc xn xx)&&Ti (c+(jD (.mk xc xn xx):Int)) suf):=by
   rw[Ti,vb,Ti,jq,BS]
   rw[show decide (c+((jD (.mk xc xn xx)+jq suf:Nat):Int)<=4000)=(decide (c+(jD (.mk xc xn xx):Int)<=4000)&&decide (c+(jD (.mk xc xn xx):Int)+(jq suf:Int)<=4000))by rw[ajF];simp;omega]
   cases decide (c+(jD (.mk xc xn xx):Int)<=4000)<;>cases decide (c+(jD (.mk xc xn xx):Int)+(jq suf:Int)<=4000)<;>cases fmV (.mk xc xn xx)<;>cases BS suf<;>rfl
  rw[hsplit];cases hb:vb c (.mk xc xn xx)with
  |false =>refine⟨s1,c1,?_,λh=>by simp at h⟩;refine aW (nF) ?_;rw[gI,acv hi,ge,a];rw[hb]at b;simp only[aiq,ak d,am b,aK,ao,ajM,ge,ajI]
  |true =>
   have f:=l hb;have hle:c+(jD (.mk xc xn xx):Int)<=4000:=by simp_all[vb]
   obtain⟨s2,c2,ih,i⟩:=LA H o ho j xs hl a suf (pre++[.mk xc xn xx]) (by rw[e];simp) k.2 s1 c1 (by omega) (by omega);rw[f]at ih i;refine⟨s2,c2,?_,λh=>by rw[i (by simpa using h),jq];omega⟩;refine aW (nF) ?_;rw[gI,acv hi,ge,a];rw[hb]at b;simp only[abg,abf]at ih;simp only[aiq,ak d,am b,aK,ao,age,Xi,adG,aE (show pre.length<2^62 by omega),f,ih]
end
def aix{H:DH}{o p:Nat}(h:p≠o)(st:Nat)(c:Int):(Ho H o st c)[p]? = H[p]?:=by unfold Ho;rw[aei (apz h)]
def agr(H:DH)(o p:Nat)(ho:o<H.length)(j:p≠o)(con:af)(n:Int)(xs:List Va)(k:(Va.mk con n xs).ok)(hp:H[p]? = some (.cells 0 (xV con n (ff xs))))(st:Nat)(c:Int)(h0:0<=c)(u:c+1<=4000):∃(st':Nat) (l:Int),
 aq 263 [.ptr p 0,.ptr o 0] (Ho H o st c)=ret (.bool (vb c (.mk con n xs))) (Ho H o st' l):=by
 rw[Va.ok]at k;have m:bm (c+1)=c+1:=ki (by omega) (by omega);have r:¬(c+1>4000):=by omega
 have e:∀ st c,(Ho H o st c)[p]? = some (.cells 0 (xV con n (ff xs))):=λst c=>by rw[aix j,hp]
 rw[MZ con n xs c u];by_cases b:con=[]/\xs=[]
 .obtain⟨rfl,rfl⟩:=b;refine⟨st+1,c+1,?_⟩;refine ev (aff) ?_;simp only[ae (BI ho _ _),ae (e _ _),ai,aw,bR,m,Ip,Jr,rV,er,fw,aZ,ao,PJ,dM];rw[acz r,Ti,jq,BS,acv (show c+1+((0:Nat):Int)<=4000 by omega)];rfl
 obtain⟨st',l,hl,_⟩:=LA H o ho (.ptr p 0) xs k.1 (λs q κ=>by rw[Xd,bI,ahJ,ae (e _ _)];rfl) xs [] rfl k.2 (st+1) (c+1) (by omega) (by omega)
 have hk:=nq kOk con (Ho H o (st+1) (c+1));cases a:XW con n xs.length with
 |true =>
  refine⟨st',l,?_⟩;refine ev (aff) ?_;simp only[ae (BI ho _ _),ae (e _ _),ai,aw,bR,m,Ip,Jr,rV,er,aN,fw,iB,aZ,bu,ao,PJ,dM];rw[acz r,Xi,adG];simp only[anR]at hl;rw[XW]at a;cases d:con==[]with
  |true =>
   rw[d,ge]at a;have v:xs=[]:=by simp_all
   exact absurd ⟨eq_of_beq d,v⟩ b
  |false =>
   rw[d,Xi,abk]at a;have f:(n != 0)=false:=by rw[bne,a.1];rfl
   simp only[Xi,f];cases h:con==[44]with
   |true =>rw[h,ge,abk]at a;have i:=akM a.2.1;have t:=akM a.2.2;rw[acz (show ¬((xs.length:Int)>16)by omega),acz (show ¬((xs.length:Int)<2)by omega),acz (show ¬((xs.length:Int)>4)by omega)];simp only[ge,Xi,age];exact hl
   |false =>rw[h,Xi,abk]at a;have i:=akM a.2.2;rw[acz (show ¬((xs.length:Int)>16)by omega)];simp only[ge,Xi,ajM,am hk,a.2.1,aK,age,ao,ae (e _ _),ai,aw,PJ,dM];exact hl
 |false =>
  refine⟨st+1,c+1,?_⟩;refine ev (aff) ?_;simp only[ae (BI ho _ _),ae (e _ _),ai,aw,bR,m,Ip,Jr,rV,er,aN,fw,iB,aZ,bu,ao,PJ,dM];rw[acz r,Xi,ajI];rw[XW]at a;cases d:con==[]with
  |true =>rw[d,ge]at a;rw[ge,a]
  |false =>
   rw[d,Xi]at a;simp only[Xi];cases f:n==0 with
   |false=>rw[show(n != 0)=true by rw[bne,f];rfl,ge]
   |true =>
    rw[f,adG]at a;rw[show(n != 0)=false by rw[bne,f];rfl,Xi];by_cases g:(xs.length:Int)>16
    .rw[acv g,ge]
    .rw[acz g,Xi];cases h:con==[44]with
     |true =>
      rw[h,ge]at a;simp only[ge];by_cases i:(xs.length:Int)<2
      .rw[acv i,ge]
      .by_cases t:(xs.length:Int)>4
       .rw[acz i,acv t];rfl
       .rw[acv (show(xs.length:Int)>=2 by omega),acv (show(xs.length:Int)<=4 by omega)]at a;cases a
     |false =>rw[h,Xi,acv (show(xs.length:Int)<=16 by omega),aos]at a;simp only[Xi,ajM,ge,am hk,a,aK,ao]
def MY(H:DH)(a b:DB)(st:Nat)(c:Int):Ho (H++[a]++[b]) (H++[a]).length st c=H++[a,.cells st [.i c]]:=by
 unfold Ho
 grind
def afB(H:DH)(v:Va)(a:v.ok):aq 207 [.agg (kU v)] H=ret (.i (bif Lz v then 0 else 62)) H:=by
 obtain⟨con,n,xs⟩:=v;obtain⟨st',c',h⟩:=agr (H++[DB.cells 0 (xV con n (ff xs))]++[jv 0]) (H++[DB.cells 0 (xV con n (ff xs))]).length H.length (by simp) (by simp) con n xs a (by simp) 1 0 (by decide) (by decide);rw[MY,MY,show vb 0 (.mk con n xs)=Lz (.mk con n xs)by rw[vb,Lz,Int.zero_add]]at h;rw[kU];refine ev (amm) ?_;have b:((H++[DB.cells 0 (xV con n (ff xs))])++[jv 0]).set (H++[DB.cells 0 (xV con n (ff xs))]).length (DB.cells 1 [.i 0])=H++[DB.cells 0 (xV con n (ff xs)),DB.cells 1 [.i 0]]:=MY H _ _ 1 0;have c:((H++[DB.cells 0 (xV con n (ff xs))])++[jv 0])[(H++[DB.cells 0 (xV con n (ff xs))]).length]? = some (jv 0):=by simp
 simp only[ae c,Jr,afY,b,am h,aK,ao];cases Lz (.mk con n xs)<;>exact lK (by trivial)
def MI(l:aQ)(H:DH)(κ:D->av):aP ab 22 (.row 14 l) H κ=κ (.i l.length):=by kernel_rfl
def ahN(cs:List D)(h:cs.length=14)(H:DH)(κ:D->av):bJ ab 147 (.eptr cs 0) H κ=κ (.agg cs):=by
 obtain⟨a,b,c,d,e,f,g,o,i,j,k,l,m,n,rfl⟩:∃ a b c d e f g o i j k l m n,cs=[a,b,c,d,e,f,g,o,i,j,k,l,m,n]:=by
  match cs,h with
  |[a,b,c,d,e,f,g,o,i,j,k,l,m,n],_=>exact⟨a,b,c,d,e,f,g,o,i,j,k,l,m,n,rfl⟩
 kernel_rfl
def aam(d:De):(bG d).length=14:=by obtain⟨k,⟨dn,vs,cs⟩,n,⟨tn,ts⟩,fs,⟨ek,em,en,ea,xs,ps⟩⟩:=d;rfl
def anv(cs:List D)(h:cs.length=14)(κ:List D->av):aj 14 (.agg cs) κ=κ cs:=by
 match cs,h with
 |[a,b,c,d,e,f,g,h',i,j,k,l,m,n],_=>rfl
def aky(cs:List D)(h:cs.length=14)(o p q r s t u v w x za zb zc zd:D)(κ:List D->av):aC [o,p,q,r,s,t,u,v,w,x,za,zb,zc,zd] 0 cs κ=κ cs:=by
 match cs,h with
 |[a,b,c,d,e,f,g,h',i,j,k,l,m,n],_=>rfl
def de0(d:De)(κ:D->av):ah (bG d) 0 κ=κ (.i d.k):=by obtain⟨k,⟨dn,vs,cs⟩,n,⟨tn,ts⟩,fs,⟨ek,em,en,ea,xs,ps⟩⟩:=d;rfl
def de4(d:De)(κ:D->av):ah (bG d) 4 κ=κ (.str d.n):=by obtain⟨k,⟨dn,vs,cs⟩,n,⟨tn,ts⟩,fs,⟨ek,em,en,ea,xs,ps⟩⟩:=d;rfl
def KW(s:af)(κ:List D->av):aj 1 (.str s) κ=κ [.str s]:=rfl
def abc(o n:Nat)(H:DH)(κ:D->DH->av):ct (.acc 1) 0 (.buf 1 o n) H κ=κ (.buf 1 o n) H:=rfl
def Yn(H:DH)(l:List af):DH:=H++[.buf 1 true false (l.map gq)]
def Tg(H:DH)(l:List af):(Yn H l)[H.length]? = some (.buf 1 true false (l.map gq)):=be _ _
def Lx(H:DH)(l:List af)(s:af)(hl:l.length<100000)(κ:D->DH->av):bQ (aG ab 9) 1 (.buf 1 H.length l.length) [[.str s]] (Yn H l) κ=κ (.buf 1 H.length (l++[s]).length) (Yn H (l++[s])):=by rw[jY (Tg H l) (by simp) (qJ (by omega)) (qJ (by omega))];unfold Yn;rw[ajA _ _ (abH _),akN];simp[gq]
def gY:List De->List af
 |[]=>[]
 |d::r=>bif d.k==2 then d.n::gY r else gY r
def HD:∀ l:List De,(gY l).length<=l.length
 |[]=>abH _
 |d::r=>by
  have:=HD r
  grind [gY]
def MV(H:DH)(ds:List De)(c:ds.length<=90000):∀(suf pre:List De) (acc:List af),ds=pre++suf->acc.length<=pre.length ->
 ac au 165 200003 [.g (.buf 1 H.length acc.length),.g (.row 14 (ds.map bG)),.n ds.length,.n pre.length] [] (Yn H acc)=ret (.buf 1 H.length (acc++gY suf).length) (Yn H (acc++gY suf))
 |[],pre,acc,e,_=>by refine aW (xK) ?_;simp_all[gY]
 |x::suf,pre,acc,e,ha=>by
  have hi:pre.length<ds.length:=by rw[e];simp
  have a:(ds.map bG)[pre.length]? = some (bG x):=by rw[e];exact bz _ _ _ _
  have b:=aam x;refine aW (xK) ?_;rw[gI,acv hi,ge];simp only[aem,ak a,ahN _ b,anv _ b,aky _ b,de0,de4,aZ,ao,KW,Lx H acc x.n (by omega),abc,aE (show pre.length<2^62 by omega)];rw[gY];cases x.k==2 with
  |true =>
   have:=MV H ds c suf (pre++[x]) (acc++[x.n]) (by rw[e];simp) (by simp;omega)
   grind
  |false =>
   have:=MV H ds c suf (pre++[x]) acc (by rw[e];simp) (by simp;omega)
   grind
def ail(H:DH){n:Nat}{G:Pg}(h:fZ H n G)(a:G.ds.length<=90000):aq 165 [.ptr (n+5) 0] H=ret (.buf 1 H.length (gY G.ds).length) (Yn H (gY G.ds)):=by obtain⟨st,h0⟩:=(h.app [.buf 1 true false []]).o;refine ev (f165) ?_;simp only[ae h0,ai,MI,abh];exact MV H G.ds a G.ds [] [] rfl (abH _)
def MU(H:DH)(n:Nat)(G:Rf)(c:G.ds.length<=90000)(a:qC H n G):∀(suf pre:List De) (acc:List af),G.ds=pre++suf->acc.length<=pre.length ->
 ac au 166 200003 [.g (.ptr (n+5) 0),.g (.buf 1 H.length acc.length),.n pre.length] [] (Yn H acc)=ret (.buf 1 H.length (acc++gY suf).length) (Yn H (acc++gY suf))
 |[],pre,acc,e,_=>by obtain⟨st,h0⟩:=(a.app [.buf 1 true false (acc.map gq)]).o;change(Yn H acc)[n+5]? = _ at h0;refine aW (xJ) ?_;simp only[ae h0,ai,MI,abh,aN,ao];simp_all[gY]
 |x::suf,pre,acc,e,ha=>by
  obtain⟨st,h0⟩:=(a.app [.buf 1 true false (acc.map gq)]).o;change(Yn H acc)[n+5]? = _ at h0;have hi:pre.length<G.ds.length:=by rw[e];simp
  have b:(G.ds.map bG)[pre.length]? = some (bG x):=by rw[e];exact bz _ _ _ _
  refine aW (xJ) ?_;simp only[ae h0,ai,MI,abh,aN,ao];rw[gI,acv hi,ge];simp only[aem,ak b,uc,afY,ZB,VK,de0,de4,aZ,ao,KW,Lx H acc x.n (by omega),abc,aE (show pre.length<2^62 by omega)];rw[gY];cases x.k==2 with
  |true =>
   have:=MU H n G c a suf (pre++[x]) (acc++[x.n]) (by rw[e];simp) (by simp;omega)
   grind
  |false =>
   have:=MU H n G c a suf (pre++[x]) acc (by rw[e];simp) (by simp;omega)
   grind
def aik(H:DH){n:Nat}{G:Rf}(h:qC H n G)(a:G.ds.length<=90000):aq 166 [.ptr (n+5) 0] H=ret (.buf 1 H.length (gY G.ds).length) (Yn H (gY G.ds)):=by refine ev (f166) ?_;exact MU H n G a h G.ds [] [] rfl (abH _)
def aho{H:DH}{n:Nat}{G:Pg}(h:fZ H n G):fZ (H.set (n+3) (.buf 1 false false (nC G.rs))) n G:=by
 obtain⟨⟨st,h0⟩,h1,h2,h3,⟨b,a⟩,h5⟩:=h;have hl:n+3<H.length:=(acy.1 a).1;refine⟨⟨st,?_⟩,?_,?_,?_,⟨false,?_⟩,?_⟩
 .grind
 .grind
 .grind
 .grind
 .grind
 grind
def Fz(H:DH)(n:Nat)(G:Pg):DH:=H.set (n+3) (.buf 1 false false (nC G.rs))
def Wp(H:DH)(n:Nat)(G:Pg):(Fz H n G).length=H.length:=anK ..
def aiB(H:DH)(n:Nat)(G:Pg):Fz (Fz H n G) n G=Fz H n G:=agd ..
theorem BN{H:DH}{n:Nat}{G:Pg}(h:fZ H n G)(X:DH):Fz (H++X) n G=Fz H n G++X:=by obtain⟨b,a⟩:=h.rs;exact apm _ _ (acy.1 a).1
def ZO{H:DH}{n:Nat}{G:Pg}(h:fZ H n G):fZ (Fz H n G) n G:=aho h
def ajU(o n k:Nat)(H:DH)(κ:D->DH->av):cF ab 25 (.buf 1 o n) none (some (.i k)) none H κ=cH H o n λs _ cap l=>boK (Nat.ble k l.length&&Nat.beq 0 0) (κ (.row 1 (l.take k)) (H.set o (.buf s false cap l))):=by kernel_rfl
def aeb(l:aQ)(H:DH)(κ:D->av):aP ab 25 (.row 1 l) H κ=κ (.i l.length):=by kernel_rfl
def ais(l:aQ)(i:Nat)(κ:D->av):ay ab 25 (.row 1 l) (.i i) κ=aX l i λcs=>κ (.eptr cs 0):=by kernel_rfl
def abO(o n i c:Nat)(H:DH)(κ:D->av):bJ ab 3 (.bptr o n i c) H κ=cH H o n λ_ _ _ l=>aX l i λcs=>ah cs c κ:=by kernel_rfl
def FD(o n i c:Nat)(H:DH)(κ:D->av):bJ ab 9 (.bptr o n i c) H κ=cH H o n λ_ _ _ l=>aX l i λcs=>ah cs c κ:=by kernel_rfl
def yL(bs:List Bo)(v:Int):af->List af
 |[]=>[]
 |r::l=>match bs[r]? with
  |some x=>bif x.kind==v then x.name::yL bs v l else yL bs v l
  |none=>yL bs v l
def Vc(bs:List Bo)(v:Int):∀ l,(yL bs v l).length<=l.length
 |[]=>abH _
 |r::l=>by
  have:=Vc bs v l
  grind [yL]
def Vd(H:DH)(n:Nat)(G:Pg)(a:fZ H n G)(v:Int)(l:af)(hl:l.length<=90000)(hb:∀ r∈l,r<G.bs.length):∀(suf pre:af) (acc:List af),l=pre++suf->acc.length<=pre.length ->
 ac au 206 200003 [.g (.ptr (n+5) 0),.n v,.g (.buf 1 H.length acc.length),.g (.row 1 (nC l)),.n (l.length:Nat),.n pre.length] [] (Yn H acc)=ret (.buf 1 H.length (acc++yL G.bs v suf).length) (Yn H (acc++yL G.bs v suf))
 |[],pre,acc,e,_=>by refine aW (xq) ?_;simp_all[yL]
 |r::suf,pre,acc,e,ha=>by
  have hA:=a.app [.buf 1 true false (acc.map gq)];change fZ (Yn H acc) n G at hA;obtain⟨st,h0⟩:=hA.o;have hi:pre.length<l.length:=by rw[e];simp
  have b:(nC l)[pre.length]? = some [.i (r:Nat)]:=by rw[e];exact bz _ _ _ _
  have hr:r<G.bs.length:=hb r (by rw[e];simp);have c:G.bs[r]? = some G.bs[r]:=abI hr;refine aW (xq) ?_;rw[gI,acv hi,ge,yL,c];generalize G.bs[r]=x at c;simp only[ais,ak b,ZB,ai,aw,ae h0,aek,lH hr,boK,ge,wF,abO,FD,eU hA.bs,cz c,Du,aZ,ao,KW,Lx H acc x.name (by omega),abc,aE (show pre.length<2^62 by omega)];cases x.kind==v with
  |true =>
   have:=Vd H n G a v l hl hb suf (pre++[r]) (acc++[x.name]) (by rw[e];simp) (by simp;omega)
   grind
  |false =>
   have:=Vd H n G a v l hl hb suf (pre++[r]) acc (by rw[e];simp) (by simp;omega)
   grind
def ahn(H:DH){n:Nat}{G:Pg}(h:fZ H n G)(v:Int)(k:Nat)(hk:k<=G.rs.length)(hl:G.rs.length<=90000)(hb:∀ r∈G.rs,r<G.bs.length) :
 aq 206 [.ptr (n+5) 0,.i v,.i k] H=ret (.buf 1 H.length (yL G.bs v (G.rs.take k)).length) (Yn (Fz H n G) (yL G.bs v (G.rs.take k))):=by
 have hA:=h.app [.buf 1 true false []];obtain⟨st,h0⟩:=hA.o;obtain⟨b,j⟩:=hA.rs;have e:=BN h [.buf 1 true false []];rw[Fz]at e;have a:=Vd (Fz H n G) n G (ZO h) v (G.rs.take k) (by rw[ajQ];omega) (λr hr=>hb r (aoV hr)) (G.rs.take k) [] [] rfl (abH _);rw[Wp]at a;refine ev (amn) ?_;have c:=cy (κ:=λs _ cap l=>boK (Nat.ble k l.length&&Nat.beq 0 0) ((λd f=>aP ab 25 d f λm=>ac au 206 200003 [.g (.ptr (n+5) 0),.n v,.g (.buf 1 H.length 0),.g d,.g m,.n 0] [] f) (.row 1 (l.take k)) ((H++[DB.buf 1 true false []]).set (n+3) (.buf s false cap l)))) j;rw[jy]at c;simp only[ae h0,ai,aw,ajU];rw[c];rw[show Nat.ble k G.rs.length=true from acw hk,e];have p:(nC G.rs).take k=nC (G.rs.take k):=by simp[nC,aoJ]
 simp only[show Nat.beq 0 0=true from rfl,aos,boK,ge,p,aeb,jy];exact a
def aiY{R:aJ}{a:Int}{b:af}{c:Int}{g h:Int}{j:af}{k:Int}{l:aQ}{m:Int}{H:DH}:az R 134 [.agg [.i a,.str b,.i c,.nilrow,.i g],.agg [.i h,.str j,.i k,.row 2 l,.i m]] H =
 cond (a==h) (cond (b==j) (cond (c==k) (cond (g==m) (C R 200 [.nilrow,.row 2 l] H λd e=>ret d e) (ret (.bool false) H)) (ret (.bool false) H)) (ret (.bool false) H)) (ret (.bool false) H):=by kernel_rfl
def aiW{R:aJ}{a:aQ}{H:DH}:az R 200 [.nilrow,.row 2 a] H =
 cond ((0:Int) !=(a.length:Int)) (ret (.bool false) H) (ac R 200 200004 [.g .nilrow,.g (.row 2 a),.n 0,.n 0] [] H):=by kernel_rfl
def aiX{R:aJ}{a:aQ}{H:DH}:aF R 200 200004 [.g .nilrow,.g (.row 2 a),.n 0,.n 0] [] H=ret (.bool true) H:=by kernel_rfl
def akX{R:aJ}{a:Int}{b:af}{c:Int}{e:aQ}{g h:Int}{j:af}{k m:Int}{H:DH}:az R 44 [.agg [.i a,.str b,.i c,.row 2 e,.i g],.agg [.i h,.str j,.i k,.nilrow,.i m]] H =
 cond (a==h) (cond (b==j) (cond (c==k) (cond (g==m) (C R 43 [.row 2 e,.nilrow] H λd f=>ret d f) (ret (.bool false) H)) (ret (.bool false) H)) (ret (.bool false) H)) (ret (.bool false) H):=by kernel_rfl
def akZ{R:aJ}{a:aQ}{H:DH}:az R 43 [.row 2 a,.nilrow] H =
 cond ((a.length:Int) != 0) (ret (.bool false) H) (ac R 43 200004 [.g (.row 2 a),.g .nilrow,.n 0] [] H):=by kernel_rfl
def ala{R:aJ}{H:DH}:aF R 43 200004 [.g (.row 2 []),.g .nilrow,.n 0] [] H=ret (.bool true) H:=by kernel_rfl
def eqF(c:Ce)(x:af×Nat):Bool:=c.k==2&&(c.con==x.1&&(c.n==(x.2:Int)&&(c.nx==-1&&c.refs.length==0)))
def jB:List (List Nat×Nat)->List Ce->Bool
 |[],_=>true
 |_::_,[]=>false
 |x::r,c::l=>eqF c x&&jB r l
def CR:∀ {a:List (List Nat×Nat)} {b:List Ce},b.length<a.length->jB a b=false
 |[],_,h=>by simp at h
 |_::_,[],_=>rfl
 |x::a,c::b,h=>by rw[jB,CR (a:=a) (b:=b) (by simpa using h),aot]
def aaz(x:af×Nat)(c:Ce)(H:DH):aq 134 [.agg (wi x),.agg (dw c)] H=ret (.bool (eqF c x)) H:=by
 have h1:aq 200 [.nilrow,.row 2 (c.refs.map cL)] H=ret (.bool (c.refs.length==0)) H:=by
  refine ev (aiW) ?_;rw[abh];cases e:c.refs.length with
  |zero =>rw[show((0:Int) !=((0:Nat):Int))=false from rfl,Xi];refine aW (@aiX au _ H) ?_;rfl
  |succ k=>rw[show((0:Int) !=((k+1:Nat):Int))=true by simp[bne];omega];rfl
 refine ev (aiY) ?_
 grind [am,eqF]
def aay(x:af×Nat)(c:Ce)(H:DH):aq 44 [.agg (dw c),.agg (wi x)] H=ret (.bool (eqF c x)) H:=by
 have h1:aq 43 [.row 2 (c.refs.map cL),.nilrow] H=ret (.bool (c.refs.length==0)) H:=by
  refine ev (akZ) ?_;rw[abh];cases e:c.refs with
  |nil =>rw[show((([]:List Re).length:Int) != 0)=false from rfl,Xi];refine aW (@ala au H) ?_;rfl
  |cons k l=>rw[show(((k::l).length:Int) != 0)=true by simp[bne];omega];rfl
 refine ev (akX) ?_
 grind [am,eqF]
def Qb(a:List (List Nat×Nat))(b:List Ce)(hl:a.length=b.length)(hb:a.length<2^61)(H:DH):∀(sa:List (List Nat×Nat)) (sb:List Ce) (pa:List (List Nat×Nat)) (pb:List Ce),a=pa++sa->b=pb++sb->pa.length=pb.length ->
 ac au 133 200004 [.g (.row 5 (b.map dw)),.g (.func 134 [] []),.g (.row 5 (a.map wi)),.n a.length,.n pa.length] [] H=ret (.bool (jB sa sb)) H
 |[],sb,pa,pb,e,_,_=>by refine aW (xO) ?_;simp_all[jB]
 |x::sa,[],pa,pb,e,c,h=>by grind
 |x::sa,y::sb,pa,pb,e,c,h=>by
  have hi:pa.length<a.length:=by rw[e];simp
  have ih:=Qb a b hl hb H sa sb (pa++[x]) (pb++[y]) (by rw[e];simp) (by rw[c];simp) (by simp[h]);simp only[abg,abf]at ih;have d:(a.map wi)[pa.length]? = some (wi x):=by rw[e,bz]
  have f:(b.map dw)[pa.length]? = some (dw y):=by rw[h];exact ajm b pb y sb c
  have hc:=aaz x y H;have i:aV bF 134=true:=by kernel_rfl
  refine aW (xO) ?_;rw[gI,acv hi,ge];simp only[dw,wi]at d f hc;simp only[aI,ak d,ak f,ai,aw,bZ i,agc,ajH,am hc,aK,ao,aE (show pa.length<2^62 by omega),ih]
  grind [jB]
def Ga:∀(a:List (List Nat×Nat)) (b:List Ce),a.length<=b.length->jB a (b.take a.length)=jB a b
 |[],_,_=>rfl
 |_::_,[],h=>by simp at h
 |x::a,c::b,h=>by simp_all[aol,jB,Ga]
def akT(a:List (List Nat×Nat))(b:List Ce)(hl:a.length<=b.length)(hb:a.length<2^61)(H:DH):aq 133 [.row 5 (a.map wi),.row 5 ((b.take a.length).map dw),.func 134 [] []] H=ret (.bool (jB a b)) H:=by
 have c:a.length=(b.take a.length).length:=by rw[ajQ];omega
 refine ev (amR) ?_;simp only[abh];have:=Qb a (b.take a.length) c hb H a (b.take a.length) [] [] rfl rfl rfl;rw[<- c,Ga a b hl]at *;simp only[akI,Xi];exact this
def Nc(bs:List Bo):af->List (List Nat×Nat)
 |[]=>[]
 |c::r=>match bs[c]? with
  |some x=>(x.arg,x.first)::Nc bs r
  |none=>Nc bs r
def Yf(H:DH)(l:List (List Nat×Nat)):DH:=H++[.buf 5 true false (l.map wi)]
def acx(H:DH)(l:List (List Nat×Nat))(x:af×Nat)(hl:l.length<100000)(κ:D->DH->av):bQ (aG ab 115) 5 (.buf 5 H.length l.length) [wi x] (Yf H l) κ=κ (.buf 5 H.length (l++[x]).length) (Yf H (l++[x])):=by
 have a:(Yf H l)[H.length]? = some (.buf 5 true false (l.map wi)):=be _ _;rw[jY a (by simp) (zA (by omega)) (zA (by omega))];unfold Yf
 grind
def aiC(H:DH)(n:Nat)(G:Pg)(k:fZ H n G)(hl:G.cs.length<=90000)(hb:∀ r∈G.cs,r<G.bs.length):∀(suf pre:af) (acc:List (List Nat×Nat)),G.cs=pre++suf->acc.length<=pre.length ->
 ac au 93 200003 [.g (.ptr (n+5) 0),.g (.buf 5 H.length acc.length),.g (.buf 1 (n+4) G.cs.length),.n G.cs.length,.n pre.length] [] (Yf H acc)=ret (.row 5 ((acc++Nc G.bs suf).map wi)) (H++[.buf 5 false false ((acc++Nc G.bs suf).map wi)])
 |[],pre,acc,e,_=>by refine aW (Ca) ?_;rw[gI,show G.cs.length=pre.length by rw[e];simp,acz (anz _),Xi,Nc,ajH];have:=wz (κ:=λd H=>ret d H) (sz:=5) (H:=Yf H acc) (o:=H.length) (b:=true) (l:=acc.map wi) (be _ _);rw[abh]at this;rw[this,Yf,ajA _ _ (abH _),akN];rfl
 |r::suf,pre,acc,e,ha=>by
  have hA:=k.app [.buf 5 true false (acc.map wi)];change fZ (Yf H acc) n G at hA;obtain⟨st,h0⟩:=hA.o;have hi:pre.length<G.cs.length:=by rw[e];simp
  have c:(nC G.cs)[pre.length]? = some [.i r]:=by rw[e];exact bz _ _ _ _
  have h:=hA.cs;have hr:r<G.bs.length:=hb r (by rw[e];simp);have j:G.bs[r]? = some G.bs[r]:=abI hr;have hk:cH (Yf H acc) (n+4) G.cs.length=λκ=>κ 1 true false (nC G.cs):=funext λκ=>eU (f:=λi:Nat=>[D.int .i64 (i:Nat)]) h;refine aW (Ca) ?_;rw[gI,acv hi,ge,Nc,j];generalize G.bs[r]=x at j;have a:=acx H acc (x.arg,x.first) (by omega);simp only[wi]at a;have:=aiC H n G k hl hb suf (pre++[r]) (acc++[(x.arg,x.first)]) (by rw[e];simp) (by simp;omega);simp only[abg,abf,ajL,ans]at this;simp only[ait,lH hi,boK,ge,abO,hk,ak c,ai,aw,ae h0,aek,lH hr,wF,FD,eU hA.bs,cz j,Du,KW,Ip,aC,nY,ajn,a,show ∀(o n:Nat) (H:DH) (κ:D->DH->av),ct (.acc 5) 0 (.buf 5 o n) H κ=κ (.buf 5 o n) H from λ_ _ _ _=>rfl,aE (show pre.length<2^62 by omega),abg,abf,afY,anP];exact this
theorem Uk(n:Nat):∀ l:List (List Nat×Nat),dH n (l.map wi)
 |[]=>by simp[dH]
 |x::r=>by simp only[ads,dH];exact⟨by simp only[wi,eB,D.bel,aoU],Uk n r⟩
def aex(H:DH){n:Nat}{G:Pg}(h:fZ H n G)(hl:G.cs.length<=90000)(hb:∀ r∈G.cs,r<G.bs.length):aq 93 [.ptr (n+5) 0] H=ret (.row 5 ((Nc G.bs G.cs).map wi)) H:=by
 have hA:=h.app [.buf 5 true false []];obtain⟨st,h0⟩:=hA.o;refine ev (f93) ?_;simp only[ae h0,ai,aw,MH];have:=aiC H n G h hl hb G.cs [] [] rfl (abH _);refine(anL (bj H) this).trans ?_
 grind [lK,D.bel,Uk]
def sI(m:Mc):List To->List af->Bool
 |[],[]=>true
 |t::a,s::b=>t.nm==s&&(cg m t.r m.ce.length&&sI m a b)
 |_,_=>false
def yK:List Nv->List af->Bool
 |[],[]=>true
 |x::a,s::b=>x.nm==s&&(Lz x.v&&yK a b)
 |_,_=>false
def Ap(m:Mc):∀ {a:List To} {b:List af},a.length≠b.length->sI m a b=false
 |[],[],h=>(h rfl).elim
 |[],_::_,_=>rfl
 |_::_,[],_=>rfl
 |t::a,s::b,h=>by rw[sI,Ap m (a:=a) (b:=b) (by simpa using h),aot,aot]
def AU:∀ {a:List Nv} {b:List af},a.length≠b.length->yK a b=false
 |[],[],h=>(h rfl).elim
 |[],_::_,_=>rfl
 |_::_,[],_=>rfl
 |t::a,s::b,h=>by rw[yK,AU (a:=a) (b:=b) (by simpa using h),aot,aot]
theorem Oe(H:DH)(n:Nat)(G:Pg)(X:DH)(q:Bool):bj H (ret (.bool q) (Fz H n G++X))=ret (.bool q) (Fz H n G):=EI (by trivial) (rI _ _)
def We(o n i:Nat)(κ:D->av):ay ab 91 (.buf 1 o n) (.i i) κ=boK (Nat.blt i n) (κ (.bptr o n i 0)):=by kernel_rfl
def Bu(s o n:Nat)(H:DH)(κ:D->av):aP ab 91 (.buf s o n) H κ=κ (.i (n:Int)):=by kernel_rfl
def abo(m:Mc)(w:Nat)(H:DH)(o:Nat)(b c:Bool)(ns:List af)(ho:H[o]? = some (.buf 1 b c (ns.map gq)))(hl:m.to.length=ns.length)(hb:m.to.length<2^61)(X:av)
 (d:ac au 137 200005 [.g (.ptr w 0),.lp 0 0,.g (.buf 1 o ns.length),.g (.row 3 (m.to.map eX)),.n m.to.length,.n m.to.length] [(0,bh m)] H=X):∀(sa:List To) (sb:List af) (pa:List To) (pb:List af),m.to=pa++sa->ns=pb++sb->pa.length=pb.length ->
 ac au 137 200005 [.g (.ptr w 0),.lp 0 0,.g (.buf 1 o ns.length),.g (.row 3 (m.to.map eX)),.n m.to.length,.n pa.length] [(0,bh m)] H=bif sI m sa sb then X else ret (.bool false) H
 |[],[],pa,pb,e,_,_=>by rw[show pa.length=m.to.length by rw[e];simp,d];rfl
 |[],y::sb,pa,pb,e,a,h=>by grind
 |x::sa,[],pa,pb,e,a,h=>by grind
 |x::sa,y::sb,pa,pb,e,a,h=>by
  have hi:pa.length<m.to.length:=by rw[e];simp
  have ih:=abo m w H o b c ns ho hl hb X d sa sb (pa++[x]) (pb++[y]) (by rw[e];simp) (by rw[a];simp) (by simp[h]);simp only[abg,abf]at ih;have f:m.to[pa.length]? = some x:=by rw[e];simp
  have i:ns[pa.length]? = some y:=by rw[h,a];simp
  have hr:=Jk m x.r m.ce.length (aoO _) H;refine aW (xN) ?_;rw[gI,acv hi,ge];simp only[abh,aI,cz f,eX,ai,aw,We,lH (show pa.length<ns.length by omega),boK,ge,FD,eU ho,cz i,gq,iB,ao,aH hr,aK,aE (show pa.length<2^62 by omega),ih]
  grind [sI]
def abB(ou:List Nv)(d:∀ x∈ou,x.v.ok)(H:DH)(o:Nat)(b c:Bool)(ns:List af)(ho:H[o]? = some (.buf 1 b c (ns.map gq)))(hl:ou.length=ns.length)(hb:ou.length<2^61):∀(sa:List Nv) (sb:List af) (pa:List Nv) (pb:List af),ou=pa++sa->ns=pb++sb->pa.length=pb.length ->
 ac au 137 200014 [.g (.buf 1 o ns.length),.g (.row 4 (ou.map gR)),.n ou.length,.n pa.length] [] H=ret (.bool (yK sa sb)) H
 |[],[],pa,pb,e,_,_=>by refine aW (xL) ?_;rw[gI,show ou.length=pa.length by rw[e];simp,acz (anz _),Xi];rfl
 |[],y::sb,pa,pb,e,a,h=>by grind
 |x::sa,[],pa,pb,e,a,h=>by grind
 |x::sa,y::sb,pa,pb,e,a,h=>by
  have hi:pa.length<ou.length:=by rw[e];simp
  have ih:=abB ou d H o b c ns ho hl hb sa sb (pa++[x]) (pb++[y]) (by rw[e];simp) (by rw[a];simp) (by simp[h]);simp only[abg,abf]at ih;have f:ou[pa.length]? = some x:=by rw[e];simp
  have i:ns[pa.length]? = some y:=by rw[h,a];simp
  have hr:=afB H x.v (d x (by rw[e];simp));refine aW (xL) ?_;rw[gI,acv hi,ge,yK];obtain⟨xn,⟨vc,vn,vx⟩⟩:=x;simp only[kU]at hr;simp only[aI,cz f,gR,ai,aw,We,lH (show pa.length<ns.length by omega),boK,ge,FD,eU ho,cz i,gq,iB,bu,ao,aH hr,aE (show pa.length<2^62 by omega),ih]
  grind
def anA{ok:Nat->Bool}{sz o n:Nat}{l els:aQ}{H:DH}{κ:D->DH->av}(h:H[o]? = some (.buf sz true false l))(a:l.length=n)(b:ok els.length=true)(c:ok (n+els.length)=true) :
 bQ ok sz (.buf sz o n) els H κ=κ (.buf sz o (n+els.length)) (H.set o (.buf sz true false (l++els))):=by
 subst a;simp only[bQ,b,boK,ge,ajG,cy h,c,ajI,ajM,aos,grow,Xi]
def EK(m:Mc)(G:Pg):Bool:=sI m m.to (gY G.ds++yL G.bs 4 (G.rs.take m.bo.toNat))&&yK m.ou (yL G.bs 5 (G.rs.take m.bo.toNat))
def acF(m:Mc)(H:DH){n:Nat}{G:Pg}(h:fZ H n G)(hd:G.ds.length<=9000)(hl:G.rs.length<=9000)(hb:∀ r∈G.rs,r<G.bs.length)(k:Nat)(hk:m.bo=(k:Nat))(b:k<=G.rs.length)
 (j:m.to.length<2^61) (c:m.ou.length<2^61) (l:∀ x∈m.ou,x.v.ok):aq 137 [.ptr (n+5) 0,.agg (bh m)] H=ret (.bool (EK m G)) (Fz H n G):=by
 have hi:=ail H h (by omega);have o:fZ (Yn H (gY G.ds)) n G:=h.app _;have f:=ahn (Yn H (gY G.ds)) o 4 k b (by omega) hb;rw[show Fz (Yn H (gY G.ds)) n G=Yn (Fz H n G) (gY G.ds)from BN h _]at f;rw[EK,hk,anE];have li:=HD G.ds;have l4:=Vc G.bs 4 (G.rs.take k);rw[ajQ]at l4;have d:=ZO h;have kl:=Wp H n G;have tr:=Oe H n G;have p:fZ (Yn (Yn (Fz H n G) (gY G.ds++yL G.bs 4 (G.rs.take k))) (yL G.bs 4 (G.rs.take k))) n G:=(d.app _).app _;have i:=ahn _ p 5 k b (by omega) hb
 rw[show Fz (Yn (Yn (Fz H n G) (gY G.ds++yL G.bs 4 (G.rs.take k))) (yL G.bs 4 (G.rs.take k))) n G=Yn (Yn (Fz H n G) (gY G.ds++yL G.bs 4 (G.rs.take k))) (yL G.bs 4 (G.rs.take k))by unfold Yn;rw[BN (d.app _),BN d,aiB]]at i
 generalize gY G.ds=I at *;generalize yL G.bs 4 (G.rs.take k)=N4 at *;generalize yL G.bs 5 (G.rs.take k)=N5 at *;generalize Fz H n G=K at *;have q:(Yn (Yn K I) N4)[H.length]? = some (.buf 1 true false (I.map gq)):=by rw[<- kl];exact cC _ (Tg K I)
 have b4:(Yn (Yn K I) N4)[(Yn H I).length]? = some (.buf 1 true false (N4.map gq)):=by grind [Yn]
 have s:(Yn (Yn K I) N4).set H.length (.buf 1 true false (I.map gq++N4.map gq))=Yn (Yn K (I++N4)) N4:=by grind [Yn]
 have t:(Yn (Yn K (I++N4)) N4)[H.length]? = some (.buf 1 true false ((I++N4).map gq)):=by grind
 refine ev (f137) ?_;rw[hk,aH hi,aH f];have els (κ:aQ->av):CU (.buf 1 (Yn H I).length N4.length) (Yn (Yn K I) N4) 1 κ=κ (N4.map gq):=by grind [eU,CU,Nat.beq_refl]
 have ap (κ:D->DH->av):=anA (κ:=κ) (ok:=aG ab 9) (els:=N4.map gq) q (abh ..) (by rw[abh];exact qJ (by omega)) (by rw[abh];exact qJ (by omega));rw[s,abh,<- abg]at ap;simp only[els,ap,Bu,bu,ao,abh];by_cases a:m.to.length=(I++N4).length
 .have u:ac au 137 200005 [.g (.ptr (n+5) 0),.lp 0 0,.g (.buf 1 H.length (I++N4).length),.g (.row 3 (m.to.map eX)),.n m.to.length,.n m.to.length] [(0,bh m)] (Yn (Yn K (I++N4)) N4)=ret (.bool (yK m.ou N5)) (Yn (Yn (Yn K (I++N4)) N4) N5):=by
   refine aW (xN) ?_;rw[gI,acz (anz _),Xi,hk,am i];simp only[Bu,bu,ao,abh];by_cases ho:m.ou.length=N5.length
   .rw[show((N5.length:Int) !=(m.ou.length:Int))=false by rw[ho];simp,Xi];exact abB m.ou l _ _ true false N5 (Tg _ _) ho c m.ou N5 [] [] rfl rfl rfl
   .rw[show((N5.length:Int) !=(m.ou.length:Int))=true by simp[bne];omega,ge,AU ho]
  have e:=abo m (n+5) _ H.length true false (I++N4) t a j _ u m.to (I++N4) [] [] rfl rfl rfl;rw[show(((I++N4).length:Int) !=(m.to.length:Int))=false by rw[a];simp,Xi];refine(anL (bj H) e).trans ?_;cases sI m m.to (I++N4)with
  |true =>have:=tr [.buf 1 true false ((I++N4).map gq),.buf 1 true false (N4.map gq),.buf 1 true false (N5.map gq)] (yK m.ou N5);simpa[Yn]using this
  |false =>have:=tr [.buf 1 true false ((I++N4).map gq),.buf 1 true false (N4.map gq)] false;simpa[Yn]using this
 .rw[show(((I++N4).length:Int) !=(m.to.length:Int))=true by simp only[bne,aoe,ajE];omega,ge,Ap m a,ajI];have:=tr [.buf 1 true false ((I++N4).map gq),.buf 1 true false (N4.map gq)] false;simpa[Yn]using this
def Lu(pr:Bool):List (List Nat×Nat×Nat×Bool)->List af
 |[]=>[]
 |x::r=>bif x.2.2.2==pr then x.1::Lu pr r else Lu pr r
def Y2(H:DH)(a b:List af):DH:=H++[.buf 1 true false (a.map gq),.buf 1 true false (b.map gq)]
def agp(H:DH)(a b:List af):(Y2 H a b)[H.length]? = some (.buf 1 true false (a.map gq)):=by simp[Y2]
def ago(H:DH)(a b:List af):(Y2 H a b)[H.length+1]? = some (.buf 1 true false (b.map gq)):=by simp[Y2]
def agn(H:DH)(a b:List af)(s:af)(hl:a.length<100000)(κ:D->DH->av):bQ (aG ab 9) 1 (.buf 1 H.length a.length) [[.str s]] (Y2 H a b) κ=κ (.buf 1 H.length (a++[s]).length) (Y2 H (a++[s]) b):=by rw[jY (agp H a b) (by simp) (qJ (by omega)) (qJ (by omega))];unfold Y2;rw[ajA _ _ (abH _),akN];simp[gq]
def agm(H:DH)(a b:List af)(s:af)(hl:b.length<100000)(κ:D->DH->av):bQ (aG ab 9) 1 (.buf 1 (H.length+1) b.length) [[.str s]] (Y2 H a b) κ=κ (.buf 1 (H.length+1) (b++[s]).length) (Y2 H a (b++[s])):=by rw[jY (ago H a b) (by simp) (qJ (by omega)) (qJ (by omega))];simp_all[Y2,gq]
def ain(o n i:Nat)(κ:D->av):ay ab 92 (.buf 4 o n) (.i i) κ=boK (Nat.blt i n) (κ (.bptr o n i 0)):=by kernel_rfl
def ahF(o n i c:Nat)(H:DH)(κ:D->av):bJ ab 4 (.bptr o n i c) H κ=cH H o n λ_ _ _ l=>aX l i λcs=>ah cs c κ:=by kernel_rfl
def abn(m:Mc)(H:DH)(o d n2:Nat)(b c:Bool)(ns:List af)(ho:H[o]? = some (.buf 1 b c (ns.map gq)))(hl:m.to.length=ns.length)(hb:m.to.length<2^61)(X:av)
 (f:ac au 103 200017 [.lp 0 0,.g (.buf 1 d n2),.n 0] [(0,bh m)] H=X):∀(sa:List To) (sb:List af) (pa:List To) (pb:List af),m.to=pa++sa->ns=pb++sb->pa.length=pb.length ->
 ac au 103 200012 [.lp 0 0,.g (.buf 1 o ns.length),.g (.buf 1 d n2),.n pa.length] [(0,bh m)] H=bif sI m sa sb then X else ret (.bool false) H
 |[],[],pa,pb,e,_,_=>by refine aW (yp) ?_;simp only[Bu,aN,ao];rw[gI,show ns.length=pa.length by rw[<- hl,e];simp,acz (anz _),Xi,f];rfl
 |[],y::sb,pa,pb,e,a,h=>by grind
 |x::sa,[],pa,pb,e,a,h=>by grind
 |x::sa,y::sb,pa,pb,e,a,h=>by
  have hi:pa.length<ns.length:=by rw[<- hl,e];simp
  have ih:=abn m H o d n2 b c ns ho hl hb X f sa sb (pa++[x]) (pb++[y]) (by rw[e];simp) (by rw[a];simp) (by simp[h]);simp only[abg,abf]at ih;have i:m.to[pa.length]? = some x:=by rw[e];simp
  have j:ns[pa.length]? = some y:=by rw[h,a];simp
  have hr:=Ur m x.r H;refine aW (yp) ?_;simp only[Bu,aN,ao];rw[gI,acv hi,ge];simp only[aI,cz i,eX,ai,aw,We,lH hi,boK,ge,FD,eU ho,cz j,gq,iB,ao,aH hr,aK,aE (show pa.length<2^62 by omega),ih]
  grind [sI]
def abC(m:Mc)(d:∀ x∈m.ou,x.v.ok)(H:DH)(o:Nat)(b c:Bool)(ns:List af)(ho:H[o]? = some (.buf 1 b c (ns.map gq)))(hl:m.ou.length=ns.length)(hb:m.ou.length<2^61):∀(sa:List Nv) (sb:List af) (pa:List Nv) (pb:List af),m.ou=pa++sa->ns=pb++sb->pa.length=pb.length ->
 ac au 103 200017 [.lp 0 0,.g (.buf 1 o ns.length),.n pa.length] [(0,bh m)] H=ret (.bool (yK sa sb)) H
 |[],[],pa,pb,e,_,_=>by refine aW (yo) ?_;rw[gI,show ns.length=pa.length by rw[<- hl,e];simp,acz (anz _),Xi];rfl
 |[],y::sb,pa,pb,e,a,h=>by grind
 |x::sa,[],pa,pb,e,a,h=>by grind
 |x::sa,y::sb,pa,pb,e,a,h=>by
  have hi:pa.length<ns.length:=by rw[<- hl,e];simp
  have ih:=abC m d H o b c ns ho hl hb sa sb (pa++[x]) (pb++[y]) (by rw[e];simp) (by rw[a];simp) (by simp[h]);simp only[abg,abf]at ih;have f:m.ou[pa.length]? = some x:=by rw[e];simp
  have i:ns[pa.length]? = some y:=by rw[h,a];simp
  have hr:=agq H x.v (d x (by rw[e];simp));refine aW (yo) ?_;rw[gI,acv hi,ge,yK];obtain⟨xn,⟨vc,vn,vx⟩⟩:=x;simp only[kU]at hr;simp only[aI,cz f,gR,ai,aw,lH hi,boK,ge,eU ho,cz i,gq,iB,ao,aH hr,aK,aE (show pa.length<2^62 by omega),ih]
  grind
def IT(m:Mc)(G:Rf):Bool:=sI m m.to (gY G.ds++Lu false (G.rs.take m.bo.toNat))&&yK m.ou (Lu true (G.rs.take m.bo.toNat))
def adu(m:Mc)(H:DH)(n:Nat)(G:Rf)(i:qC H n G)(k:Nat)(hk:m.bo=(k:Nat))(h:k<=G.rs.length)(hl:G.rs.length<=9000)
 (j:m.to.length<2^61) (d:m.ou.length<2^61) (l:∀ x∈m.ou,x.v.ok):∀(suf pre:List (List Nat×Nat×Nat×Bool)) (a b:List af),G.rs.take k=pre++suf->a.length<=9000+pre.length->b.length<=pre.length ->
 ac au 103 200004 [.g (.ptr (n+5) 0),.lp 0 0,.g (.buf 1 H.length a.length),.g (.buf 1 (H.length+1) b.length),.n pre.length] [(0,bh m)] (Y2 H a b) =
  ret (.bool (sI m m.to (a++Lu false suf)&&yK m.ou (b++Lu true suf))) (Y2 H (a++Lu false suf) (b++Lu true suf))
 |[],pre,a,b,e,p,hb=>by
  have hp:pre.length=k:=by grind
  refine aW (yq) ?_;rw[hk,gI,hp,acz (anz _),Xi,Lu,Lu,ajH,ajH];simp only[Bu,bu,ao,abh];by_cases c:m.to.length=a.length
  .rw[show((m.to.length:Int) !=(a.length:Int))=false by rw[c];simp,Xi];by_cases f:m.ou.length=b.length
   .rw[show((m.ou.length:Int) !=(b.length:Int))=false by rw[f];simp,Xi];have q:=abC m l (Y2 H a b) (H.length+1) true false b (ago H a b) f d m.ou b [] [] rfl rfl rfl;have:=abn m (Y2 H a b) H.length (H.length+1) b.length true false a (agp H a b) c j _ q m.to a [] [] rfl rfl rfl
    grind
   .rw[show((m.ou.length:Int) !=(b.length:Int))=true by simp only[bne,aoe,ajE];omega,ge,AU f,aot]
  .rw[show((m.to.length:Int) !=(a.length:Int))=true by simp only[bne,aoe,ajE];omega,ge,Ap m c,ajI]
 |x::suf,pre,a,b,e,p,hb=>by
  have hA:=i.app [.buf 1 true false (a.map gq),.buf 1 true false (b.map gq)];change qC (Y2 H a b) n G at hA;obtain⟨st,h0⟩:=hA.o;have hp:pre.length<k:=by grind [List.length_take]
  have hi:pre.length<G.rs.length:=by omega
  have r:G.rs[pre.length]? = some x:=by
   have:(G.rs.take k)[pre.length]? = some x:=by rw[e];simp
   grind
  refine aW (yq) ?_;rw[hk,gI,acv hp,ge];simp only[ae h0,ai,aw,ain,lH hi,boK,ge,wF,ahF,FD,eU hA.rs,cz r,rrC,ao,KW,agn H a b x.1 (by omega),agm H a b x.1 (by omega),abc,aE (show pre.length<2^62 by omega),afY,anP];rw[Lu,Lu];cases x.2.2.2 with
  |true =>
   have:=adu m H n G i k hk h hl j d l suf (pre++[x]) a (b++[x.1]) (by rw[e];simp) (by simp;omega) (by simp;omega)
   grind
  |false =>
   have:=adu m H n G i k hk h hl j d l suf (pre++[x]) (a++[x.1]) b (by rw[e];simp) (by simp;omega) (by simp;omega)
   grind
def acE(m:Mc)(H:DH){n:Nat}{G:Rf}(h:qC H n G)(hd:G.ds.length<=9000)(hl:G.rs.length<=9000)(k:Nat)(hk:m.bo=(k:Nat))(a:k<=G.rs.length)
 (c:m.to.length<2^61) (b:m.ou.length<2^61) (d:∀ x∈m.ou,x.v.ok):aq 103 [.ptr (n+5) 0,.agg (bh m)] H=ret (.bool (IT m G)) H:=by
 have hi:=aik H h (by omega);have li:=HD G.ds;have:=adu m H n G h k hk a hl c b d (G.rs.take k) [] (gY G.ds) [] rfl (by omega) (abH _);refine ev (anq) ?_;rw[am hi];simp only[];have e:(Yn H (gY G.ds)).length=H.length+1:=by simp[Yn]
 have f:Yn H (gY G.ds)++[DB.buf 1 true false []]=Y2 H (gY G.ds) []:=by simp[Yn,Y2]
 rw[e,f];refine(anL (bj H) this).trans ?_;rw[IT,hk,anE];exact zq _ H _
