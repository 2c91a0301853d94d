/- Lemmas. No conditions. -/
import Derived.Test.YtjbplagjmopllaaGreatDoorA4
set_option linter.all false
noncomputable section
namespace Go.Proofs.YtjbplagjmopllaaGreatDoor
open Go.AI
section
mutual
theorem PC:∀(t:Pa) (p c d st o:Nat) (H:DH),H[o]? = some (.cells st [.i (c:Nat),.i (d:Nat)])->t.ok->p<=101->c<=2001 ->
 ∃ st' g,aq 178 [.ptr o 0,.agg (fQ t),.i p] H=ret (.tuple []) (H.set o (.cells st' [.i (min (c+Ja t p) 2001:Nat),.i (g:Nat)]))
 |.mk k n xs,p,c,d,st,o,H,ho,h,hp,hc=>by
  simp only[Pa.ok]at h;have w:=bu ho;have u:((H++[cV o])++[DB.cells 0 (fQ (.mk k n xs))]++[jh p])[H.length]? = some (.cells 0 [.ptr o 0]):=az _ (az _ (aZ _ _));have B:((H++[cV o])++[DB.cells 0 (fQ (.mk k n xs))]++[jh p])[(H++[cV o]).length]? = some (.cells 0 (fQ (.mk k n xs))):=az _ (aZ _ _);have v:((H++[cV o])++[DB.cells 0 (fQ (.mk k n xs))]++[jh p])[((H++[cV o])++[DB.cells 0 (fQ (.mk k n xs))]).length]? = some (.cells 0 [.i p]):=aZ _ _;have y:((H++[cV o])++[DB.cells 0 (fQ (.mk k n xs))]++[jh p])[o]? = some (.cells st [.i (c:Nat),.i (d:Nat)]):=az _ (az _ (az _ ho));have E:(H++[cV o])++[DB.cells 0 (fQ (.mk k n xs))]++[jh p]=H++([cV o]++[DB.cells 0 (fQ (.mk k n xs))]++[jh p]):=by simp only[aft]
  have n1:(H++[cV o]).length≠o:=by simp;omega
  have n2:H.length≠o:=by omega
  have n3:((H++[cV o])++[DB.cells 0 (fQ (.mk k n xs))]).length≠o:=by simp;omega
  have hb:aQ bV 214=true:=by kernel_rfl
  have nd:=JL (p:=p) 214 [.ptr (H++[cV o]).length 0,.ptr H.length 0,.ptr ((H++[cV o])++[DB.cells 0 (fQ (.mk k n xs))]).length 0] hb y hc;generalize F:(H++[cV o])++[DB.cells 0 (fQ (.mk k n xs))]++[jh p]=G at u B v y E nd;have q:∃ st' g,aq 175 [.ptr o 0,.i p,.func 214 [] [.ptr (H++[cV o]).length 0,.ptr H.length 0,.ptr ((H++[cV o])++[DB.cells 0 (fQ (.mk k n xs))]).length 0]] G=ret (.tuple []) (G.set o (.cells st' [.i (min (c+Ja (.mk k n xs) p) 2001:Nat),.i (g:Nat)])):=by
   cases hq:decide (p>100)||decide (c>2000)with
   |true =>
    refine⟨st+1,max d p,?_⟩;rw[nd,hq,ge,Ja];cases j:decide (p>100)with
    |true=>rw[ge,show min (c+0) 2001=c by omega]
    |false =>
     rw[j,ajj]at hq;have z:c>2000:=by simpa using hq
     rw[SE,show min (c+(1+kN xs (p+1))) 2001=c by omega]
   |false =>
    obtain⟨r,j⟩:=aiX.mp hq;have A:p<=100:=by
     have:¬ p>100:=by simpa using r
     omega
    have z:¬ c>2000:=by simpa using j
    obtain⟨st',g,hl⟩:=Lp xs p A o H.length ((H++[cV o])++[DB.cells 0 (fQ (.mk k n xs))]).length 0 0 h.1 n2 n3 [] xs (st+1+1) (c+1) (max d p) (G.set o (.cells (st+1+1) [.i (c+1:Nat),.i (max d p:Nat)])) (aT _ y) (ao _ n2.symm u) (ao _ n3.symm v) rfl h.2 (by omega);refine⟨st',g,?_⟩;have hc:aq 214 [.ptr (H++[cV o]).length 0,.ptr H.length 0,.ptr ((H++[cV o])++[DB.cells 0 (fQ (.mk k n xs))]).length 0] (G.set o (.cells (st+1+1) [.i (c+1:Nat),.i (max d p:Nat)]))=ret (.tuple []) (G.set o (.cells st' [.i (min (c+Ja (.mk k n xs) p) 2001:Nat),.i (g:Nat)])):=by refine ev (agU) ?_;rw[ac (ao _ n1.symm B)];simp only[fQ,aj,au,lQ WG,dz];refine aki hl ?_;rw[afu,Ja,r,SE,show min (c+1+kN xs (p+1)) 2001=min (c+(1+kN xs (p+1))) 2001 by omega]
    rw[nd,hq,SE,av hc]
  obtain⟨st',g,I⟩:=q;refine⟨st',g,ev (by simp only[fQ];exact ahl) ?_⟩;simp only[fQ]at F u v I ⊢;show aY H (am ((H++[cV o])++[DB.cells 0 [.i k,.str n,.row 3 (bQ xs)]]++[jh p]) H.length _)=_;rw[F,ac u];simp only[aj];rw[ac v];simp only[aj];rw[av I];rw[E];exact lZ w (by simp[DB.bel,eL,D.bel])
theorem Lp(xs:List Pa)(p:Nat)(hp:p<=100)(o j r s1 s2:Nat)(hl:xs.length<2^62)(n1:j≠o)(n2:r≠o):∀(pre suf:List Pa) (st c d:Nat) (H:DH),H[o]? = some (.cells st [.i (c:Nat),.i (d:Nat)])->H[j]? = some (.cells s1 [.ptr o 0])->H[r]? = some (.cells s2 [.i p])->xs=pre++suf->Pa.oks suf->c<=2001 ->
 ∃ st' u,ae aB 214 200001 [.g (.ptr j 0),.g (.ptr r 0),.g (.row 3 (bQ xs)),.n xs.length,.n pre.length] [] H=ret (.tuple []) (H.set o (.cells st' [.i (min (c+kN suf (p+1)) 2001:Nat),.i (u:Nat)]))
 |pre,[],st,c,d,H,ho,v,w,e,_,hc=>by
  have E:xs.length=pre.length:=by rw[e];simp
  refine⟨st,d,cj (wp) ?_⟩;simp only[E,aiZ,ajE,SE,kN,show min (c+0) 2001=c by omega,oF ho]
 |pre,t::suf,st,c,d,H,ho,v,w,e,h,y=>by
  simp only[Pa.oks]at h;have hi:pre.length<xs.length:=by rw[e];simp
  have F:decide ((pre.length:Int)<(xs.length:Int))=true:=by simp;exact hi
  have A:(bQ xs)[pre.length]? = some (fQ t):=by rw[e];exact xP _ _ _
  obtain⟨gH,B,hc⟩:=PC t (p+1) c d st o H ho h.1 (by omega) y;obtain⟨st',u,ih⟩:=Lp xs p hp o j r s1 s2 hl n1 n2 (pre++[t]) suf gH (min (c+Ja t (p+1)) 2001) B (H.set o (.cells gH [.i (min (c+Ja t (p+1)) 2001:Nat),.i B])) (aT _ ho) (ao _ n1.symm v) (ao _ n2.symm w) (by rw[e];simp) h.2 (by omega);refine⟨st',u,cj (wp) ?_⟩;have z:min (c+kN (t::suf) (p+1)) 2001=min (min (c+Ja t (p+1)) 2001+kN suf (p+1)) 2001:=by rw[kN];omega
  rw[z];generalize Ja t (p+1)=q at hc ih ⊢;obtain⟨tk,tn,tas⟩:=t;simp only[fQ]at A hc;simp only[aaY,abc,afu]at ih;simp only[F,ge,rm WG TQ A,Mu,FU,Un,ac v,ac w,aj,au,bJ,aX (show p<2^62 by omega),av hc,aX (show pre.length<2^62 by omega)];exact ih
end
theorem Gx(xs:List Pa)(p:Nat)(hp:p<=100)(o j r s1 s2:Nat)(hl:xs.length<2^62)(n1:j≠o)(n2:r≠o):∀(pre suf:List Pa) (st c d:Nat) (H:DH),H[o]? = some (.cells st [.i (c:Nat),.i (d:Nat)])->H[j]? = some (.cells s1 [.ptr o 0])->H[r]? = some (.cells s2 [.i p])->xs=pre++suf->Pa.oks suf->c<=2001 ->
 ∃ st' u,ae aB 177 200006 [.g (.ptr j 0),.g (.ptr r 0),.g (.row 3 (bQ xs)),.n xs.length,.n pre.length] [] H=ret (.tuple []) (H.set o (.cells st' [.i (min (c+kN suf (p+1)) 2001:Nat),.i (u:Nat)]))
 |pre,[],st,c,d,H,ho,v,w,e,_,hc=>by
  have E:xs.length=pre.length:=by rw[e];simp
  refine⟨st,d,cj (ww) ?_⟩;simp only[E,aiZ,ajE,SE,kN,show min (c+0) 2001=c by omega,oF ho]
 |pre,t::suf,st,c,d,H,ho,v,w,e,h,y=>by
  simp only[Pa.oks]at h;have hi:pre.length<xs.length:=by rw[e];simp
  have F:decide ((pre.length:Int)<(xs.length:Int))=true:=by simp;exact hi
  have A:(bQ xs)[pre.length]? = some (fQ t):=by rw[e];exact xP _ _ _
  obtain⟨gH,B,hc⟩:=PC t (p+1) c d st o H ho h.1 (by omega) y;obtain⟨st',u,ih⟩:=Gx xs p hp o j r s1 s2 hl n1 n2 (pre++[t]) suf gH (min (c+Ja t (p+1)) 2001) B (H.set o (.cells gH [.i (min (c+Ja t (p+1)) 2001:Nat),.i B])) (aT _ ho) (ao _ n1.symm v) (ao _ n2.symm w) (by rw[e];simp) h.2 (by omega);refine⟨st',u,cj (ww) ?_⟩;have z:min (c+kN (t::suf) (p+1)) 2001=min (min (c+Ja t (p+1)) 2001+kN suf (p+1)) 2001:=by rw[kN];omega
  rw[z];generalize Ja t (p+1)=q at hc ih ⊢;obtain⟨tk,tn,tas⟩:=t;simp only[fQ]at A hc;simp only[aaY,abc,afu]at ih;simp only[F,ge,rm WG TQ A,Mu,FU,Un,ac v,ac w,aj,au,bJ,aX (show p<2^62 by omega),av hc,aX (show pre.length<2^62 by omega)];exact ih
mutual
theorem Jk:∀(t:Ex) (p c d st o:Nat) (H:DH),H[o]? = some (.cells st [.i (c:Nat),.i (d:Nat)])->t.ok->p<=101->c<=2001 ->
 ∃ st' g,aq 135 [.ptr o 0,.agg (er t),.i p] H=ret (.tuple []) (H.set o (.cells st' [.i (min (c+Fc t p) 2001:Nat),.i (g:Nat)]))
 |.mk k m n b xs ps,p,c,d,st,o,H,ho,h,hp,hc=>by
  simp only[Ex.ok]at h;have y:=bu ho;have v:((H++[cV o])++[DB.cells 0 (er (.mk k m n b xs ps))]++[jh p])[H.length]? = some (.cells 0 [.ptr o 0]):=az _ (az _ (aZ _ _));have z:((H++[cV o])++[DB.cells 0 (er (.mk k m n b xs ps))]++[jh p])[(H++[cV o]).length]? = some (.cells 0 (er (.mk k m n b xs ps))):=az _ (aZ _ _);have w:((H++[cV o])++[DB.cells 0 (er (.mk k m n b xs ps))]++[jh p])[((H++[cV o])++[DB.cells 0 (er (.mk k m n b xs ps))]).length]? = some (.cells 0 [.i p]):=aZ _ _;have A:((H++[cV o])++[DB.cells 0 (er (.mk k m n b xs ps))]++[jh p])[o]? = some (.cells st [.i (c:Nat),.i (d:Nat)]):=az _ (az _ (az _ ho));have E:(H++[cV o])++[DB.cells 0 (er (.mk k m n b xs ps))]++[jh p]=H++([cV o]++[DB.cells 0 (er (.mk k m n b xs ps))]++[jh p]):=by simp only[aft]
  have n1:(H++[cV o]).length≠o:=by simp;omega
  have n2:H.length≠o:=by omega
  have n3:((H++[cV o])++[DB.cells 0 (er (.mk k m n b xs ps))]).length≠o:=by simp;omega
  have hb:aQ bV 177=true:=by kernel_rfl
  have nd:=JL (p:=p) 177 [.ptr (H++[cV o]).length 0,.ptr H.length 0,.ptr ((H++[cV o])++[DB.cells 0 (er (.mk k m n b xs ps))]).length 0] hb A hc;generalize F:(H++[cV o])++[DB.cells 0 (er (.mk k m n b xs ps))]++[jh p]=G at v z w A E nd;have q:∃ st' g,aq 175 [.ptr o 0,.i p,.func 177 [] [.ptr (H++[cV o]).length 0,.ptr H.length 0,.ptr ((H++[cV o])++[DB.cells 0 (er (.mk k m n b xs ps))]).length 0]] G=ret (.tuple []) (G.set o (.cells st' [.i (min (c+Fc (.mk k m n b xs ps) p) 2001:Nat),.i (g:Nat)])):=by
   cases hq:decide (p>100)||decide (c>2000)with
   |true =>
    refine⟨st+1,max d p,?_⟩;rw[nd,hq,ge,Fc];cases j:decide (p>100)with
    |true=>rw[ge,show min (c+0) 2001=c by omega]
    |false =>
     rw[j,ajj]at hq;have B:c>2000:=by simpa using hq
     rw[SE,show min (c+(1+(kN ps (p+1)+jl xs (p+1)))) 2001=c by omega]
   |false =>
    obtain⟨r,j⟩:=aiX.mp hq;have u:p<=100:=by
     have:¬ p>100:=by simpa using r
     omega
    have B:¬ c>2000:=by simpa using j
    obtain⟨st',g,hl⟩:=Lq k m n b xs ps 0 xs p u o (H++[cV o]).length H.length ((H++[cV o])++[DB.cells 0 (er (.mk k m n b xs ps))]).length 0 0 _ (λst c d H J L M _ N=>Gx ps p u o _ _ 0 0 h.2.2.1 n2 n3 [] ps st c d H J L M rfl h.2.2.2 N) h.1 n2 n3 n1 [] xs (st+1+1) (c+1) (max d p) (G.set o (.cells (st+1+1) [.i (c+1:Nat),.i (max d p:Nat)])) (aT _ A) (ao _ n2.symm v) (ao _ n3.symm w) (ao _ n1.symm z) rfl h.2.1 (by omega);refine⟨st',g,?_⟩;have hc:aq 177 [.ptr (H++[cV o]).length 0,.ptr H.length 0,.ptr ((H++[cV o])++[DB.cells 0 (er (.mk k m n b xs ps))]).length 0] (G.set o (.cells (st+1+1) [.i (c+1:Nat),.i (max d p:Nat)]))=ret (.tuple []) (G.set o (.cells st' [.i (min (c+Fc (.mk k m n b xs ps) p) 2001:Nat),.i (g:Nat)])):=by refine ev (ahm) ?_;rw[ac (ao _ n1.symm z)];simp only[er,aj,au,lQ u83,fJ];refine aki hl ?_;rw[afu,Fc,r,SE,show min (c+1+(jl xs (p+1)+kN ps (p+1))) 2001=min (c+(1+(kN ps (p+1)+jl xs (p+1)))) 2001 by omega]
    rw[nd,hq,SE,av hc]
  obtain⟨st',g,I⟩:=q;refine⟨st',g,ev (by simp only[er];exact ahG) ?_⟩;simp only[er]at F v w I ⊢;show aY H (am ((H++[cV o])++[DB.cells 0 (xE k m n b (cw xs) (bQ ps))]++[jh p]) H.length _)=_;rw[F,ac v];simp only[aj];rw[ac w];simp only[aj];rw[av I];rw[E];exact lZ y (by simp[DB.bel,eL,D.bel])
theorem Lq(zk zm:Int)(zn za:ak)(zx:List Ex)(zp:List Pa)(s0:Nat)(xs:List Ex)(p:Nat)(hp:p<=100)(o v r u s1 s2:Nat)(X:Nat)(B:∀(st c d:Nat) (H:DH),H[o]? = some (.cells st [.i (c:Nat),.i (d:Nat)])->H[r]? = some (.cells s1 [.ptr o 0])->H[u]? = some (.cells s2 [.i p])->H[v]? = some (.cells s0 (er (.mk zk zm zn za zx zp)))->c<=2001->∃ st' j,ae aB 177 200006 [.g (.ptr r 0),.g (.ptr u 0),.g (.row 3 (bQ zp)),.n zp.length,.n 0] [] H=ret (.tuple []) (H.set o (.cells st' [.i (min (c+X) 2001:Nat),.i (j:Nat)])))(hl:xs.length<2^62)(n1:r≠o)(n2:u≠o)(n0:v≠o):∀(pre suf:List Ex) (st c d:Nat) (H:DH),H[o]? = some (.cells st [.i (c:Nat),.i (d:Nat)])->H[r]? = some (.cells s1 [.ptr o 0])->H[u]? = some (.cells s2 [.i p])->H[v]? = some (.cells s0 (er (.mk zk zm zn za zx zp)))->xs=pre++suf->Ex.oks suf->c<=2001 ->
 ∃ st' j,ae aB 177 200001 [.g (.ptr v 0),.g (.ptr r 0),.g (.ptr u 0),.g (.row 6 (cw xs)),.n xs.length,.n pre.length] [] H=ret (.tuple []) (H.set o (.cells st' [.i (min (c+(jl suf (p+1)+X)) 2001:Nat),.i (j:Nat)]))
 |pre,[],st,c,d,H,ho,w,y,h0,e,_,hc=>by
  have I:xs.length=pre.length:=by rw[e];simp
  obtain⟨st',j,J⟩:=B st c d H ho w y h0 hc;refine⟨st',j,cj (wx) ?_⟩;simp only[er]at h0;simp only[I,aiZ,ajE,SE,jl,adO,ac h0,aj,au,lQ WG,dz,J]
 |pre,t::suf,st,c,d,H,ho,w,y,h0,e,h,z=>by
  simp only[Ex.oks]at h;have hi:pre.length<xs.length:=by rw[e];simp
  have L:decide ((pre.length:Int)<(xs.length:Int))=true:=by simp;exact hi
  have E:(cw xs)[pre.length]? = some (er t):=by rw[e];exact Fv _ _ _
  obtain⟨gH,F,hc⟩:=Jk t (p+1) c d st o H ho h.1 (by omega) z;obtain⟨st',j,ih⟩:=Lq zk zm zn za zx zp s0 xs p hp o v r u s1 s2 X B hl n1 n2 n0 (pre++[t]) suf gH (min (c+Fc t (p+1)) 2001) F (H.set o (.cells gH [.i (min (c+Fc t (p+1)) 2001:Nat),.i F])) (aT _ ho) (ao _ n1.symm w) (ao _ n2.symm y) (ao _ n0.symm h0) (by rw[e];simp) h.2 (by omega);refine⟨st',j,cj (wx) ?_⟩;have A:min (c+(jl (t::suf) (p+1)+X)) 2001=min (min (c+Fc t (p+1)) 2001+(jl suf (p+1)+X)) 2001:=by rw[jl];omega
  rw[A];generalize Fc t (p+1)=q at hc ih ⊢;obtain⟨tk,tm,tn,ta,tas,tps⟩:=t;simp only[er]at E hc;simp only[aaY,abc,afu]at ih;simp only[L,ge,rm u83 s86 E,acR,SC,abW,ac w,ac y,aj,au,bJ,aX (show p<2^62 by omega),av hc,aX (show pre.length<2^62 by omega)];exact ih
end
def hQ:List Co->List Ty
 |[]=>[]
 |c::r=>c.xs++hQ r
def kQ(d:De):List Ty:=cond (d.k==1) (hQ d.d.cs) (cond (d.k==2) [d.t] [])
def eF(d:De):List Ex:=cond (d.k==3) (d.fs.map (·.b)) (cond (d.k==4) [d.b] (cond (d.k==5) [d.b] []))
theorem Ij:∀(a b:List Ty) (q:Nat),ij (a++b) q=max (ij a q) (ij b q)
 |[],b,q=>by simp[ij]
 |t::a,b,q=>by rw[agp,ij,ij,Ij a b q,ajr]
theorem Hr:∀(a b:List Ty) (q:Nat),gi (a++b) q=gi a q+gi b q
 |[],b,q=>by simp[gi]
 |t::a,b,q=>by rw[agp,gi,gi,Hr a b q,ajH]
theorem MU(cs:List Co)(ic:Nat)(xs:List Ty)(o:Nat)(hl:xs.length<2^62):∀(pre suf:List Ty) (st d:Nat) (H:DH),H[o]? = some (.cells st [.i d])->xs=pre++suf->Ty.oks suf ->
 ∃ st',ae aB 90 200007 [.g (.ptr o 0),.g (.row 2 (cs.map sw)),.n cs.length,.n ic,.g (.row 2 (iQ xs)),.n xs.length,.n pre.length] [] H
  = ae aB 90 200004 [.g (.ptr o 0),.g (.row 2 (cs.map sw)),.n cs.length,.n (di ((ic:Int)+1))] [] (H.set o (.cells st' [.i (max d (ij suf 1):Nat)]))
 |pre,[],st,d,H,ho,e,_=>by
  have e2:xs.length=pre.length:=by rw[e];simp
  refine⟨st,cj (Az) ?_⟩;simp_all[ij,ajF,oF]
 |pre,t::suf,st,d,H,ho,e,h=>by
  simp only[Ty.oks]at h;have hi:pre.length<xs.length:=by rw[e];simp
  have r:decide ((pre.length:Int)<(xs.length:Int))=true:=by simp;exact hi
  have p:(iQ xs)[pre.length]? = some (ga t):=by rw[e];exact xC _ _ _
  obtain⟨gH,hc⟩:=FK t 1 d st o H ho h.1 (by omega);obtain⟨st',ih⟩:=MU cs ic xs o hl (pre++[t]) suf gH (max d (MW t 1)) (H.set o (.cells gH [.i (max d (MW t 1):Nat)])) (aT _ ho) (by rw[e];simp) h.2;refine⟨st',cj (Az) ?_⟩;have j:ij (t::suf) 1=max (MW t 1) (ij suf 1):=by rw[ij]
  rw[j,<- ajr];generalize MW t 1=q at hc ih ⊢;obtain⟨tn,tas⟩:=t;simp only[ga]at p hc;simp only[aaY,abc,afu]at ih;have hc:aq 132 [.ptr o 0,.agg [.str tn,.row 2 (iQ tas)],.i 1] H=_:=hc;simp only[r,ge,rm Gu TT p,Mw,jn,Uo,aj,au,av hc,aX (show pre.length<2^62 by omega)];exact ih
theorem Ig(cs:List Co)(o:Nat)(hl:cs.length<2^62):∀(pre suf:List Co) (st d:Nat) (H:DH),H[o]? = some (.cells st [.i d])->cs=pre++suf->(∀ c∈suf,c.ok) ->
 ∃ st',ae aB 90 200004 [.g (.ptr o 0),.g (.row 2 (cs.map sw)),.n cs.length,.n pre.length] [] H=ret (.tuple []) (H.set o (.cells st' [.i (max d (ij (hQ suf) 1):Nat)]))
 |pre,[],st,d,H,ho,e,_=>by
  have e2:cs.length=pre.length:=by rw[e];simp
  refine⟨st,cj (AA) ?_⟩;simp_all[hQ,ij,ajF,oF]
 |pre,c::suf,st,d,H,ho,e,h=>by
  have hi:pre.length<cs.length:=by rw[e];simp
  have hd:decide ((pre.length:Int)<(cs.length:Int))=true:=by simp;exact hi
  have ht:(cs.map sw)[pre.length]? = some (sw c):=by rw[e];exact cT _ _ _ _
  have hc:=h c (aeq ..);obtain⟨gH,h1⟩:=MU cs pre.length c.xs o hc.1 [] c.xs st d H ho rfl hc.2;obtain⟨st',ih⟩:=Ig cs o hl (pre++[c]) suf gH (max d (ij c.xs 1)) (H.set o (.cells gH [.i (max d (ij c.xs 1):Nat)])) (aT _ ho) (by rw[e];simp) (λx j=>h x (abi _ j));refine⟨st',cj (AA) ?_⟩;obtain⟨cn,xs⟩:=c;simp only[aaY,abc,afu]at ih
  grind [aX,hQ,Ij,bS,aD,sw,aj,au,lQ,Gu,jU]
theorem Ie(fs:List Fu)(o:Nat)(hl:fs.length<2^62):∀(pre suf:List Fu) (st d:Nat) (H:DH),H[o]? = some (.cells st [.i d])->fs=pre++suf->(∀ f∈suf,f.b.ok) ->
 ∃ st',ae aB 90 200016 [.g (.ptr o 0),.g (.row 8 (fs.map nL)),.n fs.length,.n pre.length] [] H=ret (.tuple []) (H.set o (.cells st' [.i (max d (lT (suf.map (·.b)) 1):Nat)]))
 |pre,[],st,d,H,ho,e,_=>by
  have e2:fs.length=pre.length:=by rw[e];simp
  refine⟨st,cj (Ax) ?_⟩;simp_all[List.map_nil,lT,ajF,oF]
 |pre,f::suf,st,d,H,ho,e,h=>by
  have hi:pre.length<fs.length:=by rw[e];simp
  have p:decide ((pre.length:Int)<(fs.length:Int))=true:=by simp;exact hi
  have q:(fs.map nL)[pre.length]? = some (nL f):=by rw[e];exact cT _ _ _ _
  obtain⟨gH,j⟩:=FL f.b 1 d st o H ho (h f (aeq ..)) (by omega);obtain⟨st',ih⟩:=Ie fs o hl (pre++[f]) suf gH (max d (Il f.b 1)) (H.set o (.cells gH [.i (max d (Il f.b 1):Nat)])) (aT _ ho) (by rw[e];simp) (λx r=>h x (abi _ r));refine⟨st',cj (Ax) ?_⟩;rw[acg,lT,<- ajr];obtain⟨fn,fa,⟨t,u,en',ea',xs',ps'⟩⟩:=f;simp only[aaY,abc,afu]at ih;simp only[er]at j;have j:aq 133 [.ptr o 0,.agg (xE t u en' ea' (cw xs') (bQ ps')),.i 1] H=_:=j;simp only[p,ge,bS,aD q,nL,aj,au,av j,aX (show pre.length<2^62 by omega)];exact ih
def KJ(d:De):Nat:=max (ij (kQ d) 1) (lT (eF d) 1)
theorem aav(de':De)(d st o:Nat)(H:DH)(ho:H[o]? = some (.cells st [.i d]))(h:de'.ok) :
 ∃ st',aq 90 [.ptr o 0,.agg (ed de')] H=ret (.tuple []) (H.set o (.cells st' [.i (max d (KJ de'):Nat)])):=by
 obtain⟨k,⟨dn,vs,cs⟩,n,⟨tn,ts⟩,fs,⟨ek,em,en,ea,xs,ps⟩⟩:=de';obtain⟨⟨_,q,r⟩,w,y,z,A⟩:=h;obtain⟨s1,t⟩:=Ig cs o q [] cs st d H ho rfl r;obtain⟨s2,u⟩:=Ie fs o y [] fs st d H ho rfl z;obtain⟨s3,p⟩:=FK (.mk tn ts) 1 d st o H ho w (by omega);obtain⟨v,j⟩:=FL (.mk ek em en ea xs ps) 1 d st o H ho A (by omega);have t:ae aB 90 200004 [.g (.ptr o 0),.g (.row 2 (cs.map sw)),.n cs.length,.n 0] [] H=_:=t;have u:ae aB 90 200016 [.g (.ptr o 0),.g (.row 8 (fs.map nL)),.n fs.length,.n 0] [] H=_:=u;simp only[ga,er]at p j;have p:aq 132 [.ptr o 0,.agg [.str tn,.row 2 (iQ ts)],.i 1] H=_:=p;have j:aq 133 [.ptr o 0,.agg (xE ek em en ea (cw xs) (bQ ps)),.i 1] H=_:=j;have hk:k=1\/k=2\/k=3\/k=4\/k=5\/((k==1)=false/\(k==2)=false/\(k==3)=false/\(k==4)=false/\(k==5)=false):=by grind
 rcases hk with rfl|rfl|rfl|rfl|rfl|⟨B,E,F,I,J⟩
 .exact⟨s1,ev (f90) (by rw[abe];simp[t,KJ,kQ,eF,lT])⟩
 .exact⟨s3,ev (f90) (by simp[av p,KJ,kQ,eF,lT,ij])⟩
 .exact⟨s2,ev (f90) (by rw[abe];simp[u,KJ,kQ,eF,ij])⟩
 .exact⟨v,ev (f90) (by simp[av j,KJ,kQ,eF,lT,ij])⟩
 .exact⟨v,ev (f90) (by simp[av j,KJ,kQ,eF,lT,ij])⟩
 .exact⟨st,ev (f90) (by simp only[B,E,F,I,J,SE,KJ,kQ,eF,lT,ij,ajF,oF ho])⟩
theorem Ls(cs:List Co)(ic:Nat)(xs:List Ty)(o:Nat)(hl:xs.length<2^62):∀(pre suf:List Ty) (st m d:Nat) (H:DH),H[o]? = some (.cells st [.i m,.i d])->xs=pre++suf->Ty.oks suf->m<=2001 ->
 ∃ st' j,ae aB 91 200007 [.g (.ptr o 0),.g (.row 2 (cs.map sw)),.n cs.length,.n ic,.g (.row 2 (iQ xs)),.n xs.length,.n pre.length] [] H
  = ae aB 91 200004 [.g (.ptr o 0),.g (.row 2 (cs.map sw)),.n cs.length,.n (di ((ic:Int)+1))] [] (H.set o (.cells st' [.i (min (m+gi suf 1) 2001:Nat),.i (j:Nat)]))
 |pre,[],st,m,d,H,ho,e,_,hm=>by
  have e2:xs.length=pre.length:=by rw[e];simp
  refine⟨st,d,cj (Av) ?_⟩;simp_all[aiZ,gi,oF]
 |pre,t::suf,st,m,d,H,ho,e,h,hm=>by
  simp only[Ty.oks]at h;have hi:pre.length<xs.length:=by rw[e];simp
  have v:decide ((pre.length:Int)<(xs.length:Int))=true:=by simp;exact hi
  have r:(iQ xs)[pre.length]? = some (ga t):=by rw[e];exact xC _ _ _
  obtain⟨gH,u,hc⟩:=Jj t 1 m d st o H ho h.1 (by omega) hm;obtain⟨st',j,ih⟩:=Ls cs ic xs o hl (pre++[t]) suf gH (min (m+My t 1) 2001) u (H.set o (.cells gH [.i (min (m+My t 1) 2001:Nat),.i u])) (aT _ ho) (by rw[e];simp) h.2 (by omega);refine⟨st',j,cj (Av) ?_⟩;have p:min (m+gi (t::suf) 1) 2001=min (min (m+My t 1) 2001+gi suf 1) 2001:=by rw[gi];omega
  rw[p];generalize My t 1=q at hc ih ⊢;obtain⟨tn,tas⟩:=t;simp only[ga]at r hc;simp only[aaY,abc,afu]at ih;have hc:aq 134 [.ptr o 0,.agg [.str tn,.row 2 (iQ tas)],.i 1] H=_:=hc;simp only[v,ge,rm Gu TT r,Mw,jn,Uo,aj,au,av hc,aX (show pre.length<2^62 by omega)];exact ih
theorem Gy(cs:List Co)(o:Nat)(hl:cs.length<2^62):∀(pre suf:List Co) (st m d:Nat) (H:DH),H[o]? = some (.cells st [.i m,.i d])->cs=pre++suf->(∀ c∈suf,c.ok)->m<=2001 ->
 ∃ st' j,ae aB 91 200004 [.g (.ptr o 0),.g (.row 2 (cs.map sw)),.n cs.length,.n pre.length] [] H=ret (.tuple []) (H.set o (.cells st' [.i (min (m+gi (hQ suf) 1) 2001:Nat),.i (j:Nat)]))
 |pre,[],st,m,d,H,ho,e,_,hm=>by
  have e2:cs.length=pre.length:=by rw[e];simp
  refine⟨st,d,cj (Aw) ?_⟩;simp_all[aiZ,hQ,gi,oF]
 |pre,c::suf,st,m,d,H,ho,e,h,hm=>by
  have hi:pre.length<cs.length:=by rw[e];simp
  have hd:decide ((pre.length:Int)<(cs.length:Int))=true:=by simp;exact hi
  have ht:(cs.map sw)[pre.length]? = some (sw c):=by rw[e];exact cT _ _ _ _
  have hc:=h c (aeq ..);obtain⟨gH,p,h1⟩:=Ls cs pre.length c.xs o hc.1 [] c.xs st m d H ho rfl hc.2 hm;obtain⟨st',j,ih⟩:=Gy cs o hl (pre++[c]) suf gH (min (m+gi c.xs 1) 2001) p (H.set o (.cells gH [.i (min (m+gi c.xs 1) 2001:Nat),.i p])) (aT _ ho) (by rw[e];simp) (λx q=>h x (abi _ q)) (by omega);refine⟨st',j,cj (Aw) ?_⟩;obtain⟨cn,xs⟩:=c;simp only[aaY,abc,afu]at ih
  grind [aX,hQ,Hr,gi,bS,aD,sw,aj,au,lQ,Gu,jU]
theorem Gw(fs:List Fu)(o:Nat)(hl:fs.length<2^62):∀(pre suf:List Fu) (st m d:Nat) (H:DH),H[o]? = some (.cells st [.i m,.i d])->fs=pre++suf->(∀ f∈suf,f.b.ok)->m<=2001 ->
 ∃ st' p,ae aB 91 200016 [.g (.ptr o 0),.g (.row 8 (fs.map nL)),.n fs.length,.n pre.length] [] H=ret (.tuple []) (H.set o (.cells st' [.i (min (m+jl (suf.map (·.b)) 1) 2001:Nat),.i (p:Nat)]))
 |pre,[],st,m,d,H,ho,e,_,hm=>by
  have e2:fs.length=pre.length:=by rw[e];simp
  refine⟨st,d,cj (Au) ?_⟩;simp_all[aiZ,List.map_nil,jl,oF]
 |pre,f::suf,st,m,d,H,ho,e,h,hm=>by
  have hi:pre.length<fs.length:=by rw[e];simp
  have r:decide ((pre.length:Int)<(fs.length:Int))=true:=by simp;exact hi
  have t:(fs.map nL)[pre.length]? = some (nL f):=by rw[e];exact cT _ _ _ _
  obtain⟨gH,q,j⟩:=Jk f.b 1 m d st o H ho (h f (aeq ..)) (by omega) hm;obtain⟨st',p,ih⟩:=Gw fs o hl (pre++[f]) suf gH (min (m+Fc f.b 1) 2001) q (H.set o (.cells gH [.i (min (m+Fc f.b 1) 2001:Nat),.i q])) (aT _ ho) (by rw[e];simp) (λx u=>h x (abi _ u)) (by omega);refine⟨st',p,cj (Au) ?_⟩;rw[acg,jl,show min (m+(Fc f.b 1+jl (suf.map (·.b)) 1)) 2001=min (min (m+Fc f.b 1) 2001+jl (suf.map (·.b)) 1) 2001 by omega];obtain⟨fn,fa,⟨v,w,en',ea',xs',ps'⟩⟩:=f;simp only[aaY,abc,afu]at ih;simp only[er]at j;have j:aq 135 [.ptr o 0,.agg (xE v w en' ea' (cw xs') (bQ ps')),.i 1] H=_:=j;simp only[r,ge,bS,aD t,nL,aj,au,av j,aX (show pre.length<2^62 by omega)];exact ih
def Hs(d:De):Nat:=gi (kQ d) 1+jl (eF d) 1
theorem Yj(de':De)(m d st o:Nat)(H:DH)(ho:H[o]? = some (.cells st [.i m,.i d]))(h:de'.ok)(hm:m<=2001) :
 ∃ st' y,aq 91 [.ptr o 0,.agg (ed de')] H=ret (.tuple []) (H.set o (.cells st' [.i (min (m+Hs de') 2001:Nat),.i (y:Nat)])):=by
 obtain⟨k,⟨dn,vs,cs⟩,n,⟨tn,ts⟩,fs,⟨ek,em,en,ea,xs,ps⟩⟩:=de';obtain⟨⟨_,q,r⟩,z,A,B,E⟩:=h;obtain⟨s1,F,t⟩:=Gy cs o q [] cs st m d H ho rfl r hm;obtain⟨s2,I,u⟩:=Gw fs o A [] fs st m d H ho rfl B hm;obtain⟨s3,J,p⟩:=Jj (.mk tn ts) 1 m d st o H ho z (by omega) hm;obtain⟨v,w,j⟩:=Jk (.mk ek em en ea xs ps) 1 m d st o H ho E (by omega) hm;have t:ae aB 91 200004 [.g (.ptr o 0),.g (.row 2 (cs.map sw)),.n cs.length,.n 0] [] H=_:=t;have u:ae aB 91 200016 [.g (.ptr o 0),.g (.row 8 (fs.map nL)),.n fs.length,.n 0] [] H=_:=u;simp only[ga,er]at p j;have p:aq 134 [.ptr o 0,.agg [.str tn,.row 2 (iQ ts)],.i 1] H=_:=p;have j:aq 135 [.ptr o 0,.agg (xE ek em en ea (cw xs) (bQ ps)),.i 1] H=_:=j;have hk:k=1\/k=2\/k=3\/k=4\/k=5\/((k==1)=false/\(k==2)=false/\(k==3)=false/\(k==4)=false/\(k==5)=false):=by grind
 rcases hk with rfl|rfl|rfl|rfl|rfl|⟨L,M,N,O,R⟩
 .exact⟨s1,F,ev (f91) (by rw[abe];simp[t,Hs,kQ,eF,jl])⟩
 .exact⟨s3,J,ev (f91) (by simp[av p,Hs,kQ,eF,jl,gi])⟩
 .exact⟨s2,I,ev (f91) (by rw[abe];simp[u,Hs,kQ,eF,gi])⟩
 .exact⟨v,w,ev (f91) (by simp[av j,Hs,kQ,eF,jl,gi])⟩
 .exact⟨v,w,ev (f91) (by simp[av j,Hs,kQ,eF,jl,gi])⟩
 .exact⟨st,d,ev (f91) (by simp only[L,M,N,O,R,SE,Hs,kQ,eF,jl,gi,aiM,show min m 2001=m by omega,oF ho])⟩
def ss:List De->Nat
 |[]=>0
 |x::r=>max (KJ x) (ss r)
def nJ:List De->Nat
 |[]=>0
 |x::r=>Hs x+nJ r
theorem PB{H X:DH}{k:IntKind}{n:Int}{b:DB}:aY H (ret (.int k n) ((H++X).set H.length b))=ret (.int k n) H:=by
 have e:(H++X).set H.length b=H++X.set 0 b:=by rw[List.set_append,afp (by omega),aja]
 rw[e];have h:ol H ⟨.ret (.int k n),none,H++X.set 0 b⟩:=⟨by simp[CB.bel,D.bel],rfl,by simp,λi x hi g=>.inl (by rwa [abo hi]at g)⟩;simp_all[aY]
theorem MT(l:List De)(o:Nat)(hl:l.length<2^62):∀(pre suf:List De) (st d:Nat) (H:DH),H[o]? = some (.cells st [.i d])->l=pre++suf->(∀ x∈suf,x.ok) ->
 ∃ st',ae aB 55 200003 [.g (.ptr o 0),.g (.row 14 (l.map ed)),.n l.length,.n pre.length] [] H=ret (.i (max d (ss suf):Nat)) (H.set o (.cells st' [.i (max d (ss suf):Nat)]))
 |pre,[],st,d,H,ho,e,_=>by
  have p:l.length=pre.length:=by rw[e];simp
  refine⟨st,cj (AL) ?_⟩;simp only[p,aiZ,ajE,SE,ac ho,aj,ss,ajF,oF ho]
 |pre,x::suf,st,d,H,ho,e,h=>by
  have hi:pre.length<l.length:=by rw[e];simp
  have r:decide ((pre.length:Int)<(l.length:Int))=true:=by simp;exact hi
  have t:(l.map ed)[pre.length]? = some (ed x):=by rw[e];exact cT _ _ _ _
  obtain⟨gH,j⟩:=aav x d st o H ho (h x (aeq ..));obtain⟨st',ih⟩:=MT l o hl (pre++[x]) suf gH (max d (KJ x)) (H.set o (.cells gH [.i (max d (KJ x):Nat)])) (aT _ ho) (by rw[e];simp) (λy hy=>h y (abi _ hy));refine⟨st',cj (AL) ?_⟩;rw[ss,<- ajr];generalize KJ x=q at j ih ⊢;obtain⟨k,⟨dn,vs,cs⟩,n,⟨tn,ts⟩,fs,⟨ek,em,en,ea,xs,ps⟩⟩:=x;simp only[aaY,abc,afu]at ih;simp only[ed]at j;simp only[r,ge,bS,aD t,ed,aj,au,av j,aX (show pre.length<2^62 by omega)];exact ih
theorem VJ(l:List De)(hl:l.length<2^62)(h:∀ x∈l,x.ok)(H:DH):aq 55 [.agg [.row 14 (l.map ed)]] H=ret (.i (ss l:Nat)) H:=by
 obtain⟨st',w⟩:=MT l H.length hl [] l 0 0 (H++[.cells 0 [.i 0]]) (aZ H _) rfl h;refine ev (f55) ?_
 grind [PB]
theorem Lr(l:List De)(o:Nat)(hl:l.length<2^62):∀(pre suf:List De) (st m d:Nat) (H:DH),H[o]? = some (.cells st [.i m,.i d])->l=pre++suf->(∀ x∈suf,x.ok)->m<=2001 ->
 ∃ st' j,ae aB 56 200003 [.g (.ptr o 0),.g (.row 14 (l.map ed)),.n l.length,.n pre.length] [] H=ret (.i (min (m+nJ suf) 2001:Nat)) (H.set o (.cells st' [.i (min (m+nJ suf) 2001:Nat),.i (j:Nat)]))
 |pre,[],st,m,d,H,ho,e,_,hm=>by
  have t:l.length=pre.length:=by rw[e];simp
  refine⟨st,d,cj (AK) ?_⟩;simp only[t,aiZ,ajE,SE,ac ho,aj,nJ,show min (m+0) 2001=m by omega,oF ho]
 |pre,x::suf,st,m,d,H,ho,e,h,hm=>by
  have hi:pre.length<l.length:=by rw[e];simp
  have u:decide ((pre.length:Int)<(l.length:Int))=true:=by simp;exact hi
  have v:(l.map ed)[pre.length]? = some (ed x):=by rw[e];exact cT _ _ _ _
  obtain⟨gH,r,p⟩:=Yj x m d st o H ho (h x (aeq ..)) hm;obtain⟨st',j,ih⟩:=Lr l o hl (pre++[x]) suf gH (min (m+Hs x) 2001) r (H.set o (.cells gH [.i (min (m+Hs x) 2001:Nat),.i r])) (aT _ ho) (by rw[e];simp) (λy hy=>h y (abi _ hy)) (by omega);refine⟨st',j,cj (AK) ?_⟩;rw[nJ,show min (m+(Hs x+nJ suf)) 2001=min (min (m+Hs x) 2001+nJ suf) 2001 by omega];generalize Hs x=q at p ih ⊢;obtain⟨k,⟨dn,vs,cs⟩,n,⟨tn,ts⟩,fs,⟨ek,em,en,ea,xs,ps⟩⟩:=x;simp only[aaY,abc,afu]at ih;simp only[ed]at p;simp only[u,ge,bS,aD v,ed,aj,au,av p,aX (show pre.length<2^62 by omega)];exact ih
theorem Yx(l:List De)(hl:l.length<2^62)(h:∀ x∈l,x.ok)(H:DH):aq 56 [.agg [.row 14 (l.map ed)]] H=ret (.i (min (nJ l) 2001:Nat)) H:=by obtain⟨st',d',w⟩:=Lr l H.length hl [] l 0 0 0 (H++[.cells 0 [.i 0,.i 0]]) (aZ H _) rfl h (by omega);refine ev (f56) ?_;have w:ae aB 56 200003 [.g (.ptr H.length 0),.g (.row 14 (l.map ed)),.n l.length,.n 0] [] (H++[.cells 0 [.i 0,.i 0]])=_:=w;simp only[abe,w,PB,adO]
end
section
variable{kind:ak->Int}(K:KOk kind)
def cL(kind:ak->Int)(l:List De):Int:=bif decide (ss l>100)then 6 else bif decide (l.length>60)||decide (nJ l>2000)then 2 else bif l.all (hJ kind)then 0 else 21
theorem RG(d s:Nat)(q:Bool)(H:DH):aq 57 [.i d,.i s,.bool q] H=ret (.i (bif decide (d>100)then 6 else bif decide (s>2000)then 2 else bif q then 0 else 21)) H:=by
 refine ev (f57) ?_
 grind
theorem ZA(a:Nat):decide ((a:Int)>60)=decide (a>60):=by rw[afw];simp;omega
theorem Vi(a:Nat):decide ((a:Int)<=100)=!decide (a>100):=by rw[afw];simp;omega
include K
theorem Na(l:List De)(hl:l.length<2^62)(h:∀ x∈l,x.ok)(H:DH):aq 24 [.agg [.row 14 (l.map ed)]] H=ret (.i (cL kind l)) H:=by
 refine ev (f24) ?_;have hb:aQ bV 59=true:=by kernel_rfl
 have j:=aeZ hb (p:=hJ kind) l hl (λt r H'=>NZ K t H' (h t r)) H;have u (q:Bool):aq 57 [.i (ss l:Nat),.i 2001,.bool q] H=_:=RG (ss l) 2001 q H;have hm:decide (min (nJ l) 2001>2000)=decide (nJ l>2000):=by rw[afw];simp;omega
 have g:decide (((min (nJ l) 2001:Nat):Int)<=2000)=!decide (nJ l>2000):=by rw[afw];simp;omega
 simp only[aG (VJ l hl h H),aG (Yx l hl h H),abe,ZA,FZ,Vi,g,av j,av (u _),av (RG _ _ _ _),ax,hm,cL];cases decide (ss l>100)<;>cases decide (l.length>60)<;>cases decide (nJ l>2000)<;>cases l.all (hJ kind)<;>rfl
end
section
mutual
theorem abA(n:Nat):∀ t:Ty,eL n (ga t)
 |.mk _ xs=>by simp only[ga,eL,D.bel,ajR,akl];exact Ee n xs
theorem Ee(n:Nat):∀ l:List Ty,eo n (iQ l)
 |[]=>by simp[iQ,eo]
 |t::r=>by simp only[iQ,eo];exact⟨abA n t,Ee n r⟩
end
mutual
theorem abV(n:Nat):∀ t:Pa,eL n (fQ t)
 |.mk _ _ xs=>by simp only[fQ,eL,D.bel,ajR,akl];exact uH n xs
theorem uH(n:Nat):∀ l:List Pa,eo n (bQ l)
 |[]=>by simp[bQ,eo]
 |t::r=>by simp only[bQ,eo];exact⟨abV n t,uH n r⟩
end
mutual
theorem aen(n:Nat):∀ t:Ex,eL n (er t)
 |.mk _ _ _ _ xs ps=>by simp only[er,eL,D.bel,ajR,akl];exact⟨AW n xs,uH n ps⟩
theorem AW(n:Nat):∀ l:List Ex,eo n (cw l)
 |[]=>by simp[cw,eo]
 |t::r=>by simp only[cw,eo];exact⟨aen n t,AW n r⟩
end
theorem Ji{H X:DH}{d:D}(g:d.bel H.length):aY H (ret d (H++X))=ret d H:=by have h:ol H ⟨.ret d,none,H++X⟩:=⟨by simpa only[CB.bel]using g,rfl,by simp,λi x hi j=>.inl (by rwa [abo hi]at j)⟩;simp_all[aY]
structure De.ok2(d:De):Prop where
 ok:d.ok
 fs:∀ m,m<=d.fs.length->aF ab 48 m=true
 cs:∀ m,m<=(hQ d.d.cs).length->aF ab 101 m=true
 len:(hQ d.d.cs).length<2^62
end
section
structure Nd where
 e:Ex
 d:Int
 f:Int
 p:ak
 b:Int
 ar:Option ak
structure Bo where
 first:Nat
 decl:Int
 run:Int
 cell:Int
 name:ak
 arg:ak
 kind:Int
structure Pg where
 ds:List De
 ns:List Nd
 bs:List Bo
 rs:ak
 cs:ak
 m:List (Nat×ak)
def nC(l:ak):aO:=l.map λi=>[.i (i:Nat)]
def XQ:Option ak->D
 |none=>.nilrow
 |some l=>.row 1 (nC l)
def jw(x:Nd):List D:=match x.e with
 |.mk k m n a xs ps=>[.i k,.i m,.str n,.str a,.row 6 (cw xs),.row 3 (bQ ps),.i x.d,.i x.f,.row 1 (nC x.p),.i x.b,XQ x.ar]
def lJ(x:Bo):List D:=[.i (x.first:Nat),.i x.decl,.i x.run,.i x.cell,.str x.name,.str x.arg,.i x.kind]
def mC(l:List (Nat×ak)):List (D×D):=l.map λx=>(.i (x.1:Nat),.str x.2)
def PL(n st:Nat)(G:Pg):DH:=[.map (mC G.m),.buf 11 true false (G.ns.map jw),.buf 7 true false (G.bs.map lJ),.buf 1 true false (nC G.rs),.buf 1 true false (nC G.cs),
 .cells st [.row 14 (G.ds.map ed),.buf 11 (n+1) G.ns.length,.buf 7 (n+2) G.bs.length,.buf 1 (n+3) G.rs.length,.buf 1 (n+4) G.cs.length,.map n]]
def PX(H0:DH)(st:Nat)(G:Pg)(X:DH):DH:=H0++(PL H0.length st G++X)
theorem SL(X:DH){L:DH}{i:Nat}{b:DB}(h:L[i]? = some b):(L++X)[i]? = some b:=by grind
theorem vJ(H0 L X:DH)(i:Nat)(b:DB)(h:L[i]? = some b):(H0++(L++X))[H0.length+i]? = some b:=by grind
variable(H0:DH)(st:Nat)(G:Pg)(X:DH)
theorem wZ:(PX H0 st G X)[H0.length+5]? = some (.cells st [.row 14 (G.ds.map ed),.buf 11 (H0.length+1) G.ns.length,.buf 7 (H0.length+2) G.bs.length,.buf 1 (H0.length+3) G.rs.length,.buf 1 (H0.length+4) G.cs.length,.map H0.length]):=vJ H0 (PL H0.length st G) X 5 _ rfl
theorem Ug:(PX H0 st G X)[H0.length]? = some (.map (mC G.m)):=vJ H0 (PL H0.length st G) X 0 _ rfl
theorem Uf:(PX H0 st G X)[H0.length+1]? = some (.buf 11 true false (G.ns.map jw)):=vJ H0 (PL H0.length st G) X 1 _ rfl
theorem Ui:(PX H0 st G X)[H0.length+2]? = some (.buf 7 true false (G.bs.map lJ)):=vJ H0 (PL H0.length st G) X 2 _ rfl
theorem YJ:(PX H0 st G X)[H0.length+3]? = some (.buf 1 true false (nC G.rs)):=vJ H0 (PL H0.length st G) X 3 _ rfl
theorem Uh:(PX H0 st G X)[H0.length+4]? = some (.buf 1 true false (nC G.cs)):=vJ H0 (PL H0.length st G) X 4 _ rfl
theorem yY:(PX H0 st G X).length=H0.length+6+X.length:=by simp[PX,PL];omega
theorem JC(Y:DH):PX H0 st G X++Y=PX H0 st G (X++Y):=by simp[PX]
theorem Uc(i:Nat):(PX H0 st G X)[H0.length+6+i]? = X[i]?:=by
 unfold PX;rw[aiN (by omega),aiN (by simp[PL];omega)]
 grind [PL]
theorem LM(i:Nat)(b:DB):(PX H0 st G X).set (H0.length+6+i) b=PX H0 st G (X.set i b):=by
 unfold PX;rw[afW _ _ (by omega),afW _ _ (by simp[PL];omega)]
 grind [PL]
theorem Ue(x:Nd):((PX H0 st G X).set (H0.length+1) (.buf 11 true false (G.ns.map jw++[jw x]))).set (H0.length+5) (.cells (st+1) [.row 14 (G.ds.map ed),.buf 11 (H0.length+1) (G.ns.length+1),.buf 7 (H0.length+2) G.bs.length,.buf 1 (H0.length+3) G.rs.length,.buf 1 (H0.length+4) G.cs.length,.map H0.length])=PX H0 (st+1) { G with ns:=G.ns++[x] } X:=by simp_all[PX,PL]
theorem Qp(x:Bo):((PX H0 st G X).set (H0.length+2) (.buf 7 true false (G.bs.map lJ++[lJ x]))).set (H0.length+5) (.cells (st+1) [.row 14 (G.ds.map ed),.buf 11 (H0.length+1) G.ns.length,.buf 7 (H0.length+2) (G.bs.length+1),.buf 1 (H0.length+3) G.rs.length,.buf 1 (H0.length+4) G.cs.length,.map H0.length])=PX H0 (st+1) { G with bs:=G.bs++[x] } X:=by simp_all[PX,PL]
theorem Qn(x:Nat):((PX H0 st G X).set (H0.length+3) (.buf 1 true false (nC G.rs++[[.i (x:Nat)]]))).set (H0.length+5) (.cells (st+1) [.row 14 (G.ds.map ed),.buf 11 (H0.length+1) G.ns.length,.buf 7 (H0.length+2) G.bs.length,.buf 1 (H0.length+3) (G.rs.length+1),.buf 1 (H0.length+4) G.cs.length,.map H0.length])=PX H0 (st+1) { G with rs:=G.rs++[x] } X:=by simp_all[PX,PL,nC]
theorem Qo(x:Nat):((PX H0 st G X).set (H0.length+4) (.buf 1 true false (nC G.cs++[[.i (x:Nat)]]))).set (H0.length+5) (.cells (st+1) [.row 14 (G.ds.map ed),.buf 11 (H0.length+1) G.ns.length,.buf 7 (H0.length+2) G.bs.length,.buf 1 (H0.length+3) G.rs.length,.buf 1 (H0.length+4) (G.cs.length+1),.map H0.length])=PX H0 (st+1) { G with cs:=G.cs++[x] } X:=by simp_all[PX,PL,nC]
theorem Ud(ns:List Nd)(h:ns.length=G.ns.length):(PX H0 st G X).set (H0.length+1) (.buf 11 true false (ns.map jw))=PX H0 st { G with ns:=ns } X:=by simp_all[PX,PL]
theorem LN(m:List (Nat×ak)):(PX H0 st G X).set H0.length (.map (mC m))=PX H0 st { G with m:=m } X:=by grind [PX,PL]
theorem uN(n:Nat):∀ l:ak,eo n (nC l)
 |[]=>by simp[nC,eo]
 |i::r=>by simp only[nC,acg,eo,eL,D.bel,ajR];exact uN n r
theorem Zd(n:Nat)(x:Nd):eL n (jw x):=by
 obtain⟨⟨k,m,nm,a,xs,ps⟩,d,f,p,b,ar⟩:=x;simp only[jw,eL,D.bel,ajR,akl];refine⟨AW n xs,uH n ps,uN n p,?_⟩;cases ar with
 |none=>trivial
 |some l=>simp only[XQ,D.bel];exact uN n l
theorem Mh(n:Nat):∀ l:List Nd,eo n (l.map jw)
 |[]=>by simp[eo]
 |x::r=>by simp only[acg,eo];exact⟨Zd n x,Mh n r⟩
theorem Nj(n:Nat):∀ l:List Bo,eo n (l.map lJ)
 |[]=>by simp[eo]
 |x::r=>by simp only[acg,eo,lJ,eL,D.bel,ajR];exact Nj n r
theorem Lx(n:Nat):∀ l:List ak,eo n (l.map lW)
 |[]=>by simp[eo]
 |x::r=>by simp only[acg,eo,lW,eL,D.bel,ajR];exact Lx n r
theorem MY(n:Nat):∀ l:List Co,eo n (l.map sw)
 |[]=>by simp[eo]
 |⟨_,xs⟩::r=>by simp only[acg,eo,sw,eL,D.bel,ajR,akl];exact⟨Ee n xs,MY n r⟩
theorem ME(n:Nat):∀ l:List Fu,eo n (l.map nL)
 |[]=>by simp[eo]
 |⟨_,_,.mk _ _ _ _ xs ps⟩::r=>by simp only[acg,eo,nL,eL,D.bel,ajR,akl];exact⟨⟨AW n xs,uH n ps⟩,ME n r⟩
theorem MP(n:Nat):∀ l:List De,eo n (l.map ed)
 |[]=>by simp[eo]
 |⟨_,⟨_,vs,cs⟩,_,.mk _ ts,fs,.mk _ _ _ _ xs ps⟩::r=>by simp_all[eo,ed,eL,D.bel,Lx,MY,Ee,ME,AW,uH,MP]
theorem LL{d:D}{st':Nat}{G':Pg}{Y:DH}(g:d.bel (PX H0 st G X).length):aY (PX H0 st G X) (ret d (PX H0 st' G' (X++Y)))=ret d (PX H0 st' G' X):=by
 have hl:=yY H0 st G X;have h:ol (PX H0 st G X) ⟨.ret d,none,PX H0 st' G' (X++Y)⟩:=by
  refine⟨g,rfl,by simp only[yY,aaY];omega,λi b hi hb=>?_⟩;simp only at hb;rcases aiU i H0.length with q|q
  .left;unfold PX at hb ⊢;rw[abo q]at hb ⊢;exact hb
  .obtain⟨j,rfl⟩:∃ j,i=H0.length+j:=⟨i - H0.length,by omega⟩;rcases aiU j 6 with p|p
   .right;have:j=0\/j=1\/j=2\/j=3\/j=4\/j=5:=by omega
    rcases this with rfl|rfl|rfl|rfl|rfl|rfl
    .rw[aiM,Ug]at hb;cases hb;simp only[DB.bel,mC];intro x r;obtain⟨z,_,rfl⟩:=aiH.1 r;exact⟨trivial,trivial⟩
    .rw[Uf]at hb;cases hb;exact Mh _ _
    .rw[Ui]at hb;cases hb;exact Nj _ _
    .rw[YJ]at hb;cases hb;exact uN _ _
    .rw[Uh]at hb;cases hb;exact uN _ _
    .rw[wZ]at hb;cases hb;simp only[DB.bel,eL,D.bel,akl];exact⟨MP _ _,by omega,by omega,by omega,by omega,by omega⟩
   .left;obtain⟨k,rfl⟩:∃ k,j=6+k:=⟨j - 6,by omega⟩;rw[<- ajH,Uc]at hb ⊢;rw[abo (by omega)]at hb;exact hb
 simp only[aY,ret];rw[agC h];have:(PX H0 st' G' (X++Y)).take (PX H0 st G X).length=PX H0 st' G' X:=by rw[<- JC,List.take_append_of_le_length (by simp only[yY];omega),aiR (by simp only[yY];omega)]
 rw[this]
end
section
mutual
def oK:Ex->Nat
 |.mk _ _ _ _ xs _=>1+gg xs
def gg:List Ex->Nat
 |[]=>0
 |x::r=>oK x+gg r
end
def xh(n:Nat):List Ex->ak
 |[]=>[]
 |x::r=>n::xh (n+oK x) r
mutual
def kL(d f b:Int)(n:Nat)(p:ak):Ex->List Nd
 |.mk k m nm a xs ps=>⟨.mk k m nm a xs ps,d,f,p,b,some (xh (n+1) xs)⟩::fE d f b (n+1) p 0 xs
def fE(d f b:Int)(n:Nat)(p:ak)(i:Nat):List Ex->List Nd
 |[]=>[]
 |x::r=>kL d f b n (p++[i]) x++fE d f b (n+oK x) p (i+1) r
end
def iB:List (Nat×ak)->Nat->ak->List (Nat×ak)
 |[],n,a=>[(n,a)]
 |(k,b)::r,n,a=>if n=k then(n,a)::r else(k,b)::iB r n a
mutual
def stM(n:Nat):Ex->List (Nat×ak)->List (Nat×ak)
 |.mk k _ _ a xs _,m=>if k=5\/k=7 then iB (Ei (n+1) xs m) (n+1) a else Ei (n+1) xs m
def Ei(n:Nat):List Ex->List (Nat×ak)->List (Nat×ak)
 |[],m=>m
 |x::r,m=>Ei (n+oK x) r (stM n x m)
end
mutual
def Tp:Ex->Prop
 |.mk k _ _ _ xs _=>((k=5\/k=7)->xs≠[])/\JG xs
def JG:List Ex->Prop
 |[]=>True
 |x::r=>Tp x/\JG r
end
mutual
theorem jW(d f b:Int):∀(e:Ex) (n:Nat) (p:ak),(kL d f b n p e).length=oK e
 |.mk _ _ _ _ xs _,n,p=>by simp only[kL,oK,aeg,Db d f b xs];omega
theorem Db(d f b:Int):∀(l:List Ex) (n:Nat) (p:ak) (i:Nat),(fE d f b n p i l).length=gg l
 |[],_,_,_=>rfl
 |x::r,n,p,i=>by simp only[fE,gg,aaY,jW d f b x,Db d f b r]
end
theorem Lu:∀ e:Ex,1<=oK e
 |.mk _ _ _ _ _ _=>by simp only[oK];omega
theorem YA{m:Nat}(h:m<=100000):aF ab 93 m=true:=iM (b:=168) (by kernel_rfl) (by decide) h
theorem oY{m:Nat}(h:m<=100000):aF ab 3 m=true:=iM (b:=8) (by kernel_rfl) (by decide) h
theorem Mr(s o n:Nat)(H:DH)(κ:D->ai):aS ab 87 (.buf s o n) H κ=κ (.i (n:Int)):=by kernel_rfl
theorem Zz(o n i:Nat)(κ:D->ai):ay ab 87 (.buf 11 o n) (.i i) κ=boK (Nat.blt i n) (κ (.bptr o n i 0)):=by kernel_rfl
theorem stb(o n i c:Nat)(new:List D)(H:DH)(κ:DH->ai):IY (.bptr o n i c) new H κ=dl H o n λsz st cap l=>boK st (bZ l i λcs=>aw cs c new λcs=>κ (H.set o (.buf sz st cap (l.set i cs)))):=rfl
theorem QU(m:Nat)(a:Int)(v:D)(H:DH)(κ:DH->ai):jp ab 89 (.map m) (.i a) v H κ=ig H m λes=>fY (.i a) v es λes=>κ (H.set m (.map es)):=by kernel_rfl
theorem JS(n:Nat)(a:ak):∀ m:List (Nat×ak),Cd (.i n) (.str a) (mC m)=some (mC (iB m n a))
 |[]=>rfl
 |(k,b)::r=>by
  have ih:=JS n a r;unfold mC at ih ⊢;simp only[acg,Cd];rw[show tH (.i ((n:Nat):Int)) (.i ((k:Nat):Int))=some (((n:Nat):Int)==((k:Nat):Int))from rfl,neq]
  grind [iB]
theorem kE{ok:Nat->Bool}{sz o:Nat}{l:aO}{e:List D}{H:DH}{κ:D->DH->ai}(h:H[o]? = some (.buf sz true false l))(g:ok 1=true)(i:ok (l.length+1)=true) :
 bX ok sz (.buf sz o l.length) [e] H κ=κ (.buf sz o (l.length+1)) (H.set o (.buf sz true false (l++[e]))):=by
 simp only[bX,abc,g,boK,ge,acD,cD h,i,aeo,aeH,aiJ,grow,SE]
theorem lL{ok:Nat->Bool}{sz:Nat}{e:List D}{r:aO}{H:DH}{κ:D->DH->ai}(h1:ok (r.length+1)=true):bX ok sz .nilrow (e::r) H κ=κ (.buf sz H.length (r.length+1)) (H++[.buf sz true false (e::r)]):=by grind [bX,boK]
theorem HD{sz o:Nat}{b:Bool}{l:aO}{H:DH}{κ:D->DH->ai}(h:H[o]? = some (.buf sz b false l)):iW (.fz sz) (.buf sz o l.length) H κ=κ (.row sz l) (H.set o (.buf sz false false l)):=by grind [iW,cD,Nat.beq_refl,boK]
theorem jX(l:ak):(nC l).length=l.length:=by simp[nC]
theorem QS(a b:ak):nC (a++b)=nC a++nC b:=by simp[nC]
theorem zA(op:BinOp)(κ:D->ai):iC op [] κ=κ .abool:=rfl
theorem wd(x:List D)(r:aO)(κ:D->ai):iC .eql (x::r) κ=κ (.bool false):=rfl
theorem SB(l:ak)(h:l.length<=100000)(H:DH):aq 131 [.row 1 (nC l)] H=match l with
 |[]=>ret .nilrow H
 |x::r=>ret (.buf 1 H.length (r.length+1)) (H++[.buf 1 true false (nC (x::r))]):=by
 rw[show aq 131 [.row 1 (nC l)] H=_ from ev (ahK) rfl];cases l with
 |nil =>
  rw[show nC []=[] from rfl,zA,brD,wT];have:bX (aF ab 3) 1 .nilrow [] H (λg j=>ret g j)=ret .nilrow H:=by simp only[bX,aiq,oY (ajg _),boK,ge]
  rw[this,agC rfl]
 |cons x r =>rw[show nC (x::r)=[.i x]::nC r from rfl,wd,ax,SE];rw[lL (by rw[jX];exact oY h),jX];rfl
theorem Um(p:ak)(i:Nat)(hp:p.length+1<=100000)(H:DH)(κ:D->DH->ai) :
 (C aB 131 [.row 1 (nC p)] H λd24 H25=>bX (aF ab 3) 1 d24 [[.i i]] H25 λd26 H27=>fH (.fz 1) 0 d26 H27 κ)=κ (.row 1 (nC (p++[i]))) (H++[.buf 1 false false (nC (p++[i]))]):=by
 have hc:=SB p (by omega) H;cases p with
 |nil =>rw[av hc,lL (r:=[]) (oY (show 0+1<=100000 by omega))];have g:=HD (κ:=κ) (aZ H (.buf 1 true false [[.i i]]));refine aki g ?_;congr 1;rw[afW _ _ (aaW _),aja];rfl
 |cons x r =>
  have hl:r.length+1=(nC (x::r)).length:=by simp[nC]
  rw[av hc,hl,kE (aZ _ _) (oY (by omega)) (oY (by rw[<- hl];simp at hp;omega))];have e:(H++[DB.buf 1 true false (nC (x::r))]).set H.length (.buf 1 true false (nC (x::r)++[[.i i]]))=H++[.buf 1 true false (nC (x::r++[i]))]:=by rw[afW _ _ (aaW _),aja,QS];rfl
  rw[e];show iW (.fz 1) (.buf 1 H.length ((nC (x::r)).length+1)) _ κ=_;rw[show(nC (x::r)).length+1=(nC (x::r++[i])).length by simp[nC],HD (aZ _ _)];congr 1;rw[afW _ _ (aaW _),aja];rfl
variable{H0 X:DH}
def Nd.put(x:Nd)(l:ak):Nd:={ x with ar:=some l }
theorem Zc(x:Nd)(l:ak)(κ:List D->ai):aw (jw x) 10 [.row 1 (nC l)] κ=κ (jw (x.put l)):=by obtain⟨⟨k,m,n,a,xs,ps⟩,d,f,p,b,ar⟩:=x;rfl
theorem Rq:∀ l:List Ex,l.length<=gg l
 |[]=>aaW _
 |x::r=>by have:=Lu x;have:=Rq r;simp only[gg,aeg];omega
mutual
theorem Lz(H0:DH):∀(e:Ex) (d f b:Int) (p:ak) (st:Nat) (G:Pg) (X:DH),Tp e->G.ns.length+oK e<=100000->p.length+oK e<=100000 ->
 aq 89 [.ptr (H0.length+5) 0,.agg (er e),.agg [.i d,.i f,.row 1 (nC p)],.i b] (PX H0 st G X)=ret (.i G.ns.length) (PX H0 (st+oK e) { G with ns:=G.ns++kL d f b G.ns.length p e,m:=stM G.ns.length e G.m } X)
 |.mk k m nm a xs ps,d,f,b,p,st,G,X,g,y,hp=>by
  simp only[Tp]at g;simp only[oK]at y hp;simp only[er];rw[show aq 89 [.ptr (H0.length+5) 0,.agg (xE k m nm a (cw xs) (bQ ps)),.agg [.i d,.i f,.row 1 (nC p)],.i b] (PX H0 st G X)=_ from ev (f89) rfl];have ho:=wZ H0 st G X;have hnl:(G.ns.map jw).length=G.ns.length:=abe ..;have ap:∀(e:List D) (κ:D->DH->ai),bX (aF ab 93) 11 (.buf 11 (H0.length+1) G.ns.length) [e] (PX H0 st G X) κ=κ (.buf 11 (H0.length+1) (G.ns.length+1)) ((PX H0 st G X).set (H0.length+1) (.buf 11 true false (G.ns.map jw++[e]))):=λe κ=>by grind [kE,Uf,YA]
  have ov:∀(j z q t u v w:D) (κ:List D->ai),aw [j,z,q,t,u,v] 1 [w] κ=κ [j,w,q,t,u,v]:=λ_ _ _ _ _ _ _ _=>rfl;simp only[ac ho,aj,au,Mr,ap,KM];have h:=ao (.buf 11 true false (G.ns.map jw++[jw ⟨.mk k m nm a xs ps,d,f,p,b,none⟩])) (show H0.length+1≠H0.length+5 by omega) ho;rw[show([.i k,.i m,.str nm,.str a,.row 6 (cw xs),.row 3 (bQ ps),.i d,.i f,.row 1 (nC p),.i b,.nilrow]:List D)=jw ⟨.mk k m nm a xs ps,d,f,p,b,none⟩from rfl];simp only[ac h,ov,Ue,JC];have hl:=yY H0 (st+1) { G with ns:=G.ns++[⟨.mk k m nm a xs ps,d,f,p,b,none⟩] } X;simp only[hl];obtain⟨T,A⟩:=CK H0 k m nm a xs ps d f b p X g.1 (⟨.mk k m nm a xs ps,d,f,p,b,none⟩) rfl G.ns.length hp xs [] [] (st+1) { G with ns:=G.ns++[⟨.mk k m nm a xs ps,d,f,p,b,none⟩] } [] rfl rfl g.2 (by simp) (by simp;omega) (aaW _);rw[show((cw xs).length:Int)=((xs.length:Nat):Int)by rw[fJ]];refine aki (aib (aY (PX H0 st G X)) A) ?_;rw[LL (d:=.i ((G.ns.length:Nat):Int)) _ _ _ _ trivial];have B:(G.ns++[(⟨.mk k m nm a xs ps,d,f,p,b,none⟩:Nd)]).length=G.ns.length+1:=by simp
  simp only[B,afn,aiq];have E:st+1+gg xs=st+(1+gg xs):=by omega
  have F:(G.ns++[(⟨.mk k m nm a xs ps,d,f,p,b,none⟩:Nd)]++fE d f b (G.ns.length+1) p 0 xs).set G.ns.length (Nd.put ⟨.mk k m nm a xs ps,d,f,p,b,none⟩ (xh (G.ns.length+1) xs))=G.ns++kL d f b G.ns.length p (.mk k m nm a xs ps):=by rw[aft,afW _ _ (aaW _),aja];rfl
  have I:(if k=5\/k=7 then iB (Ei (G.ns.length+1) xs G.m) ((xh (G.ns.length+1) xs).headD 0) a else Ei (G.ns.length+1) xs G.m)=stM G.ns.length (.mk k m nm a xs ps) G.m:=by
   simp only[stM];split
   .rename_i hq;have:=g.1 hq;cases xs with
    |nil=>exact(this rfl).elim
    |cons x r=>rfl
   .rfl
  rw[E,F,I];rfl
theorem CK(H0:DH)(k m:Int)(nm a:ak)(xs0:List Ex)(ps:List Pa)(d f b:Int)(p:ak)(X:DH)(hk:(k=5\/k=7)->xs0≠[])(nd:Nd)(u:nd=⟨.mk k m nm a xs0 ps,d,f,p,b,none⟩)(n0:Nat)(hp:p.length+(1+gg xs0)<=100000):∀(xs pre:List Ex) (done:ak) (st:Nat) (G:Pg) (T:DH),xs0=pre++xs->done.length=pre.length->JG xs->G.ns[n0]? = some nd->G.ns.length+gg xs<=100000->gg xs<=gg xs0 ->
 ∃ T',ae aB 89 200005 [.g (.ptr (H0.length+5) 0),.n b,.lp 0 0,.lp 1 0,.n n0,.g (.buf 1 (H0.length+6+X.length) done.length),.g (.row 6 (cw xs0)),.n xs0.length,.n pre.length] [(0,(xE k m nm a (cw xs0) (bQ ps))),(0,[.i d,.i f,.row 1 (nC p)])] (PX H0 st G (X++(.buf 1 true false (nC done)::T))) =
  ret (.i n0) (PX H0 (st+gg xs) { G with ns:=(G.ns++fE d f b G.ns.length p pre.length xs).set n0 (nd.put (done++xh G.ns.length xs)),m:=(if k=5\/k=7 then iB (Ei G.ns.length xs G.m) ((done++xh G.ns.length xs).headD 0) a else Ei G.ns.length xs G.m) } (X++T'))
 |[],pre,done,st,G,T,e,F,_,h,I,_=>by
  have hpl:pre.length=xs0.length:=by rw[e];simp
  have J:(PX H0 st G (X++(.buf 1 true false (nC done)::T)))[H0.length+6+X.length]? = some (.buf 1 true false (nC done)):=by rw[Uc];simp
  have L:∀ B:DB,(PX H0 st G (X++(.buf 1 true false (nC done)::T))).set (H0.length+6+X.length) B=PX H0 st G (X++(B::T)):=λB=>by rw[LM,afW _ _ (aaW _),aja];rfl
  have fz:∀ κ:D->DH->ai,iW (.fz 1) (.buf 1 (H0.length+6+X.length) done.length) (PX H0 st G (X++(.buf 1 true false (nC done)::T))) κ=κ (.row 1 (nC done)) (PX H0 st G (X++(.buf 1 false false (nC done)::T))):=λκ=>by grind [HD,jX]
  have v:n0<G.ns.length:=(abj.1 h).1;have hb:Nat.blt n0 G.ns.length=true:=by unfold Nat.blt;exact abk v
  have bf:∀ κ:Nat->Bool->Bool->aO->ai,dl (PX H0 st G (X++(.buf 1 false false (nC done)::T))) (H0.length+1) G.ns.length κ=κ 11 true false (G.ns.map jw):=λκ=>by grind [cD,Uf,List.length_map]
  have y:(G.ns.map jw)[n0]? = some (jw nd):=by rw[afd,h];rfl
  have sn:(PX H0 st G (X++(.buf 1 false false (nC done)::T))).set (H0.length+1) (.buf 11 true false ((G.ns.map jw).set n0 (jw (nd.put done))))=PX H0 st { G with ns:=G.ns.set n0 (nd.put done) } (X++(.buf 1 false false (nC done)::T)):=by rw[<- List.map_set,Ud _ _ _ _ _ (afy ..)]
  refine⟨.buf 1 false false (nC done)::T,?_⟩;rw[show ae aB 89 200005 _ _ _=_ from cj (AC) rfl];rw[mK,abl (by omega),SE];simp only[ac (wZ _ _ _ _),aj,au,fz,Zz,hb,boK,ge,DC,adO,show ∀(s:Nat) (l:aO) (κ:List D->ai),ah 1 (.row s l) κ=κ [.row s l] from λ_ _ _=>rfl,stb,bf,aD y,Zc,sn];simp only[gg,fE,xh,Ei,afq,aiM];have fn:(k=5\/k=7)->(bif Nat.blt 0 done.length then(dl (PX H0 st { G with ns:=G.ns.set n0 (nd.put done) } (X++(.buf 1 false false (nC done)::T))) (H0.length+6+X.length) done.length λz54 s55 q56 l57=>bZ l57 0 λr58=>af r58 0 λd59=>jp ab 89 (.map H0.length) d59 (.str a) (PX H0 st { G with ns:=G.ns.set n0 (nd.put done) } (X++(.buf 1 false false (nC done)::T))) λH60=>ret (.i n0) H60)else none)=ret (.i n0) (PX H0 st { G with ns:=G.ns.set n0 (nd.put done),m:=iB G.m (done.headD 0) a } (X++(.buf 1 false false (nC done)::T))):=λhq=>by
   obtain⟨z,r,rfl⟩:∃ z r,done=z::r:=by
    cases done with
    |nil =>grind
    |cons z r=>exact⟨z,r,rfl⟩
   have hx2:(PX H0 st { G with ns:=G.ns.set n0 (nd.put (z::r)) } (X++(.buf 1 false false (nC (z::r))::T)))[H0.length+6+X.length]? = some (.buf 1 false false (nC (z::r))):=by rw[Uc];simp
   have R:∀ κ:Nat->Bool->Bool->aO->ai,dl (PX H0 st { G with ns:=G.ns.set n0 (nd.put (z::r)) } (X++(.buf 1 false false (nC (z::r))::T))) (H0.length+6+X.length) (z::r).length κ=κ 1 false false (nC (z::r)):=λκ=>by grind [cD,jX]
   have A:Nat.blt 0 (z::r).length=true:=by unfold Nat.blt;exact abk (by simp)
   simp only[aj,A,ge,R,aD (show(nC (z::r))[0]? = some [.i (z:Nat)] from rfl),QU,fT (Ug _ _ _ _),fY,JS,LN];rfl
  grind
 |.mk xk xm xn xa xxs xps::r,pre,done,st,G,T,e,F,q,h,I,L=>by
  have hi:pre.length<xs0.length:=by rw[e];simp
  have t:(cw xs0)[pre.length]? = some (xE xk xm xn xa (cw xxs) (bQ xps)):=by rw[e];exact Fv pre (.mk xk xm xn xa xxs xps) r
  simp only[JG]at q;simp only[gg]at I L;have hpos:=Lu (.mk xk xm xn xa xxs xps);have hl0:xs0.length<=gg xs0:=Rq xs0;have j:=Lz H0 (.mk xk xm xn xa xxs xps) d f b (p++[pre.length]) st G (X++(.buf 1 true false (nC done)::T)++[.buf 1 false false (nC (p++[pre.length]))]) q.1 (by omega) (by simp;omega);simp only[er]at j
  have ih:=λT=>CK H0 k m nm a xs0 ps d f b p X hk nd u n0 hp r (pre++[.mk xk xm xn xa xxs xps]) (done++[G.ns.length]) (st+oK (.mk xk xm xn xa xxs xps)) { G with ns:=G.ns++kL d f b G.ns.length (p++[pre.length]) (.mk xk xm xn xa xxs xps),m:=stM G.ns.length (.mk xk xm xn xa xxs xps) G.m } T (by rw[e];simp) (by simp[F]) q.2 (by rw[abo (abj.1 h).1];exact h) (by simp only[aaY,jW];omega) (by omega)
  obtain⟨T',M⟩:=ih (T++[.buf 1 false false (nC (p++[pre.length]))]);refine⟨T',?_⟩;rw[show ae aB 89 200005 _ _ _=_ from cj (AC) rfl];rw[mK,abt hi,ge,bS,aD t];simp only[aj,au];rw[Um p pre.length (by omega)];simp only[show ∀(s:Nat) (l:aO) (κ:List D->ai),ah 1 (.row s l) κ=κ [.row s l] from λ_ _ _=>rfl,show ∀(N O U w:D) (κ:List D->ai),aw [N,O,U] 2 [w] κ=κ [N,O,w] from λ_ _ _ _ _=>rfl,aj,au,JC,av j,qQ];have J:∀ st' G',(PX H0 st' G' (X++(.buf 1 true false (nC done)::T)++[.buf 1 false false (nC (p++[pre.length]))]))[H0.length+6+X.length]? = some (.buf 1 true false (nC done)):=λst' G'=>by rw[Uc];simp
  have E:∀ st' G' (B:DB),(PX H0 st' G' (X++(.buf 1 true false (nC done)::T)++[.buf 1 false false (nC (p++[pre.length]))])).set (H0.length+6+X.length) B=PX H0 st' G' (X++(B::(T++[.buf 1 false false (nC (p++[pre.length]))]))):=λst' G' B=>by rw[LM,aft,afW _ _ (aaW _),aja];rfl
  have hdl:done.length<=99999:=by omega
  have ap:∀ st' G' (κ:D->DH->ai),bX (aF ab 3) 1 (.buf 1 (H0.length+6+X.length) done.length) [[.i G.ns.length]] (PX H0 st' G' (X++(.buf 1 true false (nC done)::T)++[.buf 1 false false (nC (p++[pre.length]))])) κ=κ (.buf 1 (H0.length+6+X.length) (done.length+1)) (PX H0 st' G' (X++(.buf 1 true false (nC (done++[G.ns.length]))::(T++[.buf 1 false false (nC (p++[pre.length]))])))):=λst' G' κ=>by have:=kE (κ:=κ) (e:=[.i G.ns.length]) (J st' G') (oY (show 1<=100000 by omega)) (by rw[jX];exact oY (by omega));rw[jX,E]at this;rw[this,QS done [G.ns.length]];rfl
  rw[ap];simp only[show ∀(s o n:Nat) (H:DH) (κ:D->DH->ai),fH (.acc 1) 0 (.buf s o n) H κ=κ (.buf s o n) H from λ_ _ _ _ _=>rfl,aX (show pre.length<2^62 by omega)];simp only[aaY,abc]at M;rw[M];simp only[gg,fE,xh,Ei,jW,aft,afL,ajH]
end
theorem TV{m:Nat}(h:m<=100000):aF ab 140 m=true:=iM (b:=72) (by kernel_rfl) (by decide) h
theorem Rs(s o n:Nat)(H:DH)(κ:D->ai):aS ab 88 (.buf s o n) H κ=κ (.i (n:Int)):=by kernel_rfl
theorem Ru(s o n:Nat)(H:DH)(κ:D->ai):aS ab 40 (.buf s o n) H κ=κ (.i (n:Int)):=by kernel_rfl
theorem Jf(n:Nat)(h:n<2^62):di (((n+1:Nat):Int) - 1)=((n:Nat):Int):=by rw[mM]<;>omega
def Pg.addB(G:Pg)(g:Bo)(f:Int)(e:Ex):Pg:={ G with bs:=G.bs++[{ g with first:=G.ns.length }],ns:=G.ns++kL g.decl f G.bs.length G.ns.length [] e,m:=stM G.ns.length e G.m }
theorem GK(H0:DH)(e:Ex)(u:Bo)(f:Int)(st:Nat)(G:Pg)(X:DH)(v:Tp e)(A:G.ns.length+oK e<=100000)(hb:G.bs.length<100000) :
 aq 54 [.ptr (H0.length+5) 0,.agg (lJ u),.agg (er e),.i f] (PX H0 st G X)=ret (.tuple []) (PX H0 (st+1+oK e) (G.addB u f e) X):=by
 obtain⟨first,decl,run,cell,name,arg,kd⟩:=u;obtain⟨k,m,nm,a,xs,ps⟩:=e;have g:=Lz H0 (.mk k m nm a xs ps) decl f (G.bs.length:Nat) [] (st+1) { G with bs:=G.bs++[⟨G.ns.length,decl,run,cell,name,arg,kd⟩] } X v A (by simp;omega);simp only[er]at g;simp only[er,lJ];rw[show aq 54 _ (PX H0 st G X)=_ from ev (f54) rfl];have ho:=wZ H0 st G X;have hbl:(G.bs.map lJ).length=G.bs.length:=abe ..;have ap:∀(e:List D) (κ:D->DH->ai),bX (aF ab 140) 7 (.buf 7 (H0.length+2) G.bs.length) [e] (PX H0 st G X) κ=κ (.buf 7 (H0.length+2) (G.bs.length+1)) ((PX H0 st G X).set (H0.length+2) (.buf 7 true false (G.bs.map lJ++[e]))):=λe κ=>by grind [kE,Ui,TV]
 have ov7:∀(j h p q r t z w:D) (κ:List D->ai),aw [j,h,p,q,r,t,z] 0 [w] κ=κ [w,h,p,q,r,t,z]:=λ_ _ _ _ _ _ _ _ _=>rfl;have ov62:∀(j h p q r t w:D) (κ:List D->ai),aw [j,h,p,q,r,t] 2 [w] κ=κ [j,h,w,q,r,t]:=λ_ _ _ _ _ _ _ _=>rfl;have Qx:∀(j h p w:D) (κ:List D->ai),aw [j,h,p] 0 [w] κ=κ [w,h,p]:=λ_ _ _ _ _=>rfl;have YR:∀(j h p w:D) (κ:List D->ai),aw [j,h,p] 1 [w] κ=κ [j,w,p]:=λ_ _ _ _ _=>rfl;have hk:∀(j h:D) (H:DH) (κ:D->DH->ai),fH (.fz 1) 2 (.agg [j,h,.nilrow]) H κ=κ (.agg [j,h,.row 1 []]) H:=λ_ _ _ _=>rfl;simp only[ac ho,aj,au,Mr,qQ,ov7,ap,KM];have y:=ao (.buf 7 true false (G.bs.map lJ++[lJ ⟨G.ns.length,decl,run,cell,name,arg,kd⟩])) (show H0.length+2≠H0.length+5 by omega) ho;rw[show([.i ((G.ns.length:Nat):Int),.i decl,.i run,.i cell,.str name,.str arg,.i kd]:List D)=lJ ⟨G.ns.length,decl,run,cell,name,arg,kd⟩from rfl];simp only[ac y,ov62,Qp,Qx,YR,hk,ac (wZ _ _ _ _),aj,au,Rs,aaY,abc,qH,Jf _ (show G.bs.length<2^62 by omega)];have g:=fq (k:=λ_ H36=>ret (.tuple []) H36) (kp:=λ_ _=>none) g;refine aki (aib (aY (PX H0 st G X)) g) ?_;have:=LL H0 st G X (d:=.tuple []) (st':=st+1+oK (.mk k m nm a xs ps)) (G':=G.addB ⟨first,decl,run,cell,name,arg,kd⟩ f (.mk k m nm a xs ps)) (Y:=[]) trivial;rw[afq]at this;exact this
def Pg.addF(G:Pg)(i:Nat)(kd:Int)(k:Nat)(f:Fu):Pg:=({ G with cs:=G.cs++[G.bs.length] }:Pg).addB ⟨0,(i:Nat),-1,(G.cs.length:Nat),f.n,f.a,kd⟩ (k:Nat) f.b
def Pg.addFs(G:Pg)(i:Nat)(kd:Int)(k:Nat):List Fu->Pg
 |[]=>G
 |f::r=>(G.addF i kd k f).addFs i kd (k+1) r
def Pg.addR(G:Pg)(i:Nat)(d:De):Pg:=({ G with rs:=G.rs++[G.bs.length] }:Pg).addB ⟨0,(i:Nat),(G.rs.length:Nat),-1,d.n,[],d.k⟩ 0 d.b
def Pg.addD(G:Pg)(i:Nat)(d:De):Pg:=if d.k=3 then G.addFs i 3 0 d.fs else if d.k=4\/d.k=5 then G.addR i d else G
def Pg.addDs(G:Pg)(i:Nat):List De->Pg
 |[]=>G
 |d::r=>(G.addD i d).addDs (i+1) r
def BU:List Fu->Nat
 |[]=>0
 |f::r=>oK f.b+BU r
theorem Xr(l:aO)(i:Nat)(κ:D->ai):ay ab 102 (.row 8 l) (.i i) κ=bZ l i λcs=>κ (.eptr cs 0):=by kernel_rfl
theorem Xj(a b c d e f g h:D)(H:DH)(κ:D->ai):bW ab 106 (.eptr [a,b,c,d,e,f,g,h] 0) H κ=κ (.agg [a,b,c,d,e,f,g,h]):=by kernel_rfl
theorem Ww(G:Pg)(g:Bo)(f:Int)(e:Ex):(G.addB g f e).ns.length=G.ns.length+oK e:=by simp[Pg.addB,jW]
theorem ce8(a b c d e f g h:D)(κ:List D->ai):ah 8 (.agg [a,b,c,d,e,f,g,h]) κ=κ [a,b,c,d,e,f,g,h]:=rfl
theorem ov8(i j p q r t u v a b c d e f g h:D)(κ:List D->ai):aw [i,j,p,q,r,t,u,v] 0 [a,b,c,d,e,f,g,h] κ=κ [a,b,c,d,e,f,g,h]:=rfl
theorem aga(g h i j q p w:D)(κ:List D->ai):aw [g,h,i,j,q,p] 4 [w] κ=κ [g,h,i,j,w,p]:=rfl
theorem agb(g h i q j p w:D)(κ:List D->ai):aw [g,h,i,q,j,p] 3 [w] κ=κ [g,h,i,w,j,p]:=rfl
theorem afZ(g h r i j p q w:D)(κ:List D->ai):aw [g,h,r,i,j,p,q] 2 [w] κ=κ [g,h,w,i,j,p,q]:=rfl
theorem acb(g h i r j p q w:D)(κ:List D->ai):aw [g,h,i,r,j,p,q] 3 [w] κ=κ [g,h,i,w,j,p,q]:=rfl
theorem aca(g h i j r p q w:D)(κ:List D->ai):aw [g,h,i,j,r,p,q] 4 [w] κ=κ [g,h,i,j,w,p,q]:=rfl
theorem afY(g h i j p r q w:D)(κ:List D->ai):aw [g,h,i,j,p,r,q] 5 [w] κ=κ [g,h,i,j,p,w,q]:=rfl
theorem abZ(g h i j p q r w:D)(κ:List D->ai):aw [g,h,i,j,p,q,r] 6 [w] κ=κ [g,h,i,j,p,q,w]:=rfl
theorem CW(H0 X:DH)(i:Nat)(d:De)(r:d.fs.length<2^61)(ds:List D)(h:ds=ed d)(rows:aO)(n:Nat):∀(suf pre:List Fu) (st:Nat) (G:Pg),d.fs=pre++suf->(∀ f∈suf,Tp f.b)->G.ns.length+BU suf<=100000->G.bs.length+suf.length<=99999->G.cs.length+suf.length<=99999 ->
 ∃ st',ae aB 23 200011 [.g (.ptr (H0.length+5) 0),.n i,.lp 0 0,.g (.row 14 rows),.n n,.n i,.g (.row 8 (d.fs.map nL)),.n d.fs.length,.n pre.length] [(0,ds)] (PX H0 st G X) =
  ae aB 23 200006 [.g (.ptr (H0.length+5) 0),.g (.row 14 rows),.n n,.n (di ((i:Int)+1))] [] (PX H0 st' (G.addFs i d.k pre.length suf) X)
 |[],pre,st,G,e,_,_,_,_=>by
  refine⟨st,?_⟩;obtain⟨k,⟨dn,vs,cs⟩,nm,⟨tn,ts⟩,fs,⟨ek,em,en,ea,ex,ps⟩⟩:=d;subst h;simp only[ed];refine cj (AS) ?_;have:fs.length=pre.length:=by simp only at e;rw[e];simp
  simp only[this];rw[mK,abl (aiK _),SE];rfl
 |f::suf,pre,st,G,e,p,w,hb,hc=>by
  have hp:pre.length<2^62:=by grind
  have t:=p f (aeq ..);simp only[BU,aeg]at w hb hc;have j:=GK H0 f.b ⟨0,(i:Nat),-1,(G.cs.length:Nat),f.n,f.a,d.k⟩ (pre.length:Nat) (st+1) { G with cs:=G.cs++[G.bs.length] } X t (by simp only;omega) (by simp only;omega);obtain⟨st',ih⟩:=CW H0 X i d r ds h rows n suf (pre++[f]) (st+1+1+oK f.b) (G.addF i d.k pre.length f) (by rw[e];simp) (λx y=>p x (abi _ y)) (by rw[Pg.addF,Ww];simp only;omega) (by simp only[Pg.addF,Pg.addB,aaY,abc];omega) (by simp only[Pg.addF,Pg.addB,aaY,abc];omega);refine⟨st',?_⟩;simp only[aaY,abc]at ih;rw[show(G.addFs i d.k pre.length (f::suf))=(G.addF i d.k pre.length f).addFs i d.k (pre.length+1) suf from rfl,<- ih];have hi:pre.length<d.fs.length:=by rw[e];simp
  have q:(d.fs.map nL)[pre.length]? = some (nL f):=by rw[e];exact cT _ _ _ _
  obtain⟨fnm,fa,⟨fk,fm,fn,fea,fxs,fps⟩⟩:=f;obtain⟨k,⟨dn,vs,cs⟩,nm,⟨tn,ts⟩,fs,⟨ek,em,en,ea,ex,ps⟩⟩:=d;subst h;simp only[ed];refine cj (AS) ?_;simp only[nL,er,lJ]at q j;simp only at hi;have ho:=wZ H0 st G X;have u:(nC G.cs).length=G.cs.length:=jX _;have ap:∀(κ:D->DH->ai),bX (aF ab 3) 1 (.buf 1 (H0.length+4) G.cs.length) [[.i G.bs.length]] (PX H0 st G X) κ=κ (.buf 1 (H0.length+4) (G.cs.length+1)) ((PX H0 st G X).set (H0.length+4) (.buf 1 true false (nC G.cs++[[.i G.bs.length]]))):=λκ=>by
   have:=kE (κ:=κ) (e:=[.i G.bs.length]) (Uh H0 st G X) (oY (show 1<=100000 by omega)) (by rw[u];exact oY (by omega))
   grind
  have v:=ao (.buf 1 true false (nC G.cs++[[.i G.bs.length]])) (show H0.length+4≠H0.length+5 by omega) ho;rw[mK,abt hi,ge];simp only[Xr,aD q,Xj,ce8,ov8,ac ho,aj,au,Rs,qQ,ap,KM,ac v,aga,Qo,ac (wZ _ _ _ _),Ru,aaY,abc,qH,Jf _ (show G.cs.length<2^62 by omega),VT,acb,aca,afY,abZ,fq j,aX hp];exact fq j
theorem Ur(H0 X:DH)(i:Nat)(d:De)(rows:aO)(n st:Nat)(G:Pg)(j:Tp d.b)(r:G.ns.length+oK d.b<=100000)(hb:G.bs.length<99999)(hr:G.rs.length<99999) :
 ae aB 23 18 [.g (.ptr (H0.length+5) 0),.n i,.lp 0 0,.g (.row 14 rows),.n n,.n i] [(0,ed d)] (PX H0 st G X) =
  ae aB 23 200006 [.g (.ptr (H0.length+5) 0),.g (.row 14 rows),.n n,.n (di ((i:Int)+1))] [] (PX H0 (st+1+1+oK d.b) (G.addR i d) X):=by
 have h:=GK H0 d.b ⟨0,(i:Nat),(G.rs.length:Nat),-1,d.n,[],d.k⟩ 0 (st+1) { G with rs:=G.rs++[G.bs.length] } X j r (by simp only;omega);obtain⟨k,⟨dn,vs,cs⟩,nm,⟨tn,ts⟩,fs,⟨ek,em,en,ea,ex,ps⟩⟩:=d;simp only[ed];refine cj (aai) ?_;simp only[er,lJ]at h;have ho:=wZ H0 st G X;have p:(nC G.rs).length=G.rs.length:=jX _;have ap:∀(κ:D->DH->ai),bX (aF ab 3) 1 (.buf 1 (H0.length+3) G.rs.length) [[.i G.bs.length]] (PX H0 st G X) κ=κ (.buf 1 (H0.length+3) (G.rs.length+1)) ((PX H0 st G X).set (H0.length+3) (.buf 1 true false (nC G.rs++[[.i G.bs.length]]))):=λκ=>by
  have:=kE (κ:=κ) (e:=[.i G.bs.length]) (YJ H0 st G X) (oY (show 1<=100000 by omega)) (by rw[p];exact oY (by omega))
  grind
 have q:=ao (.buf 1 true false (nC G.rs++[[.i G.bs.length]])) (show H0.length+3≠H0.length+5 by omega) ho;simp only[ac ho,aj,au,Rs,qQ,ap,KM,ac q,agb,Qn,ac (wZ _ _ _ _),Ru,aaY,abc,qH,Jf _ (show G.rs.length<2^62 by omega),VT,afZ,acb,aca,abZ];exact fq h
def TD(d:De):Nat:=if d.k=3 then BU d.fs else if d.k=4\/d.k=5 then oK d.b else 0
def Gr(d:De):Nat:=if d.k=3 then d.fs.length else if d.k=4\/d.k=5 then 1 else 0
def GD:List De->Nat
 |[]=>0
 |d::r=>TD d+GD r
def qO:List De->Nat
 |[]=>0
 |d::r=>Gr d+qO r
structure okD(d:De):Prop where
 fl:d.fs.length<2^61
 fs:d.k=3->∀ f∈d.fs,Tp f.b
 b:(d.k=4\/d.k=5)->Tp d.b
theorem vM(i:Nat)(kd:Int):∀(l:List Fu) (k:Nat) (G:Pg),(G.addFs i kd k l).ns.length=G.ns.length+BU l/\(G.addFs i kd k l).bs.length=G.bs.length+l.length/\(G.addFs i kd k l).cs.length=G.cs.length+l.length/\(G.addFs i kd k l).rs.length=G.rs.length
 |[],k,G=>⟨rfl,rfl,rfl,rfl⟩
 |f::r,k,G=>by
  obtain⟨h1,h2,h3,h4⟩:=vM i kd r (k+1) (G.addF i kd k f)
  grind [Pg.addF,Pg.addB,jW,Pg.addFs,BU]
theorem SY(i:Nat)(d:De)(G:Pg):(G.addD i d).ns.length=G.ns.length+TD d/\(G.addD i d).bs.length=G.bs.length+Gr d/\(G.addD i d).cs.length<=G.cs.length+Gr d/\(G.addD i d).rs.length<=G.rs.length+Gr d:=by grind [Pg.addD,TD,Gr,vM,Pg.addR,Pg.addB,jW]
theorem Rw(l:aO)(H:DH)(κ:D->ai):aS ab 102 (.row 8 l) H κ=κ (.i l.length):=by kernel_rfl
theorem zu(H0 X:DH)(l:List De)(hl:l.length<2^61):∀(suf pre:List De) (st:Nat) (G:Pg),l=pre++suf->(∀ d∈suf,okD d)->G.ns.length+GD suf<=100000->G.bs.length+qO suf<=99998->G.cs.length+qO suf<=99998->G.rs.length+qO suf<=99998 ->
 ∃ st',ae aB 23 200006 [.g (.ptr (H0.length+5) 0),.g (.row 14 (l.map ed)),.n l.length,.n pre.length] [] (PX H0 st G X) =
  ae aB 23 200022 [.g (.ptr (H0.length+5) 0),.g (.buf 1 (H0.length+4) (G.addDs pre.length suf).cs.length),.n ((G.addDs pre.length suf).cs.length:Nat),.n 0] [] (PX H0 st' (G.addDs pre.length suf) X)
 |[],pre,st,G,e,_,_,_,_,_=>by
  refine⟨st,cj (AT) ?_⟩;have:l.length=pre.length:=by rw[e];simp
  rw[mK,this,abl (aiK _),SE];simp only[ac (wZ _ _ _ _),aj,au,Ru];rfl
 |d::suf,pre,st,G,e,p,v,hb,hc,hr=>by
  have r:=p d (aeq ..);have hi:pre.length<l.length:=by rw[e];simp
  have q:(l.map ed)[pre.length]? = some (ed d):=by rw[e];exact cT _ _ _ _
  simp only[GD,qO]at v hb hc hr;obtain⟨q1,q2,q3,q4⟩:=SY pre.length d G;have ih:=λst2=>zu H0 X l hl suf (pre++[d]) st2 (G.addD pre.length d) (by rw[e];simp) (λx w=>p x (abi _ w)) (by omega) (by omega) (by omega) (by omega);simp only[aaY,abc]at ih;have t:di ((pre.length:Int)+1)=((pre.length+1:Nat):Int):=aX (by omega);rw[show G.addDs pre.length (d::suf)=(G.addD pre.length d).addDs (pre.length+1) suf from rfl];have key:∃ st2,ae aB 23 200006 [.g (.ptr (H0.length+5) 0),.g (.row 14 (l.map ed)),.n l.length,.n pre.length] [] (PX H0 st G X)=ae aB 23 200006 [.g (.ptr (H0.length+5) 0),.g (.row 14 (l.map ed)),.n l.length,.n ((pre.length+1:Nat):Nat)] [] (PX H0 st2 (G.addD pre.length d) X):=by
   have run:=Ur H0 X pre.length d (l.map ed) l.length st G;have fun':=CW H0 X pre.length d r.fl (ed d) rfl (l.map ed) l.length d.fs [] st G rfl;rw[t]at run fun'
   have step:ae aB 23 200006 [.g (.ptr (H0.length+5) 0),.g (.row 14 (l.map ed)),.n l.length,.n pre.length] [] (PX H0 st G X) =
    cond (d.k==3) (ae aB 23 200011 [.g (.ptr (H0.length+5) 0),.n pre.length,.lp 0 0,.g (.row 14 (l.map ed)),.n l.length,.n pre.length,.g (.row 8 (d.fs.map nL)),.n d.fs.length,.n 0] [(0,ed d)] (PX H0 st G X))
     (cond (d.k==4||d.k==5) (ae aB 23 18 [.g (.ptr (H0.length+5) 0),.n pre.length,.lp 0 0,.g (.row 14 (l.map ed)),.n l.length,.n pre.length] [(0,ed d)] (PX H0 st G X))
      (ae aB 23 200006 [.g (.ptr (H0.length+5) 0),.g (.row 14 (l.map ed)),.n l.length,.n ((pre.length+1:Nat):Nat)] [] (PX H0 st G X))):=by
    clear run fun' ih;obtain⟨k,⟨dn,vs,cs⟩,nm,⟨tn,ts⟩,fs,⟨ek,em,en,ea,ex,ps⟩⟩:=d;simp only[ed]at q ⊢;refine cj (AT) ?_;rw[mK,abt hi,ge,bS,aD q];simp only[aj,au,ba,ax,Rw,abe,t]
    grind
   rw[step];by_cases j:d.k=3
   .have n1:TD d=BU d.fs:=by simp[TD,j]
    have n2:Gr d=d.fs.length:=by simp[Gr,j]
    have u:G.addD pre.length d=G.addFs pre.length 3 0 d.fs:=by simp[Pg.addD,j]
    obtain⟨st2,h⟩:=fun' (r.fs j) (by omega) (by omega) (by omega)
    grind
   .rw[show(d.k==3)=false by simp[j],SE];by_cases i:d.k=4\/d.k=5
    .have n1:TD d=oK d.b:=by simp[TD,j,i]
     have n2:Gr d=1:=by simp[Gr,j,i]
     have u:G.addD pre.length d=G.addR pre.length d:=by simp[Pg.addD,j,i]
     rw[show(d.k==4||d.k==5)=true by simp[i],ge,u,run (r.b i) (by omega) (by omega) (by omega)]
     grind
    grind [Pg.addD]
  obtain⟨st2,hk⟩:=key;simp_all
def Sp(bs:List Bo):ak->List (Nat×ak)->List (Nat×ak)
 |[],m=>m
 |c::r,m=>match bs[c]? with
  |some x=>Sp bs r (iB m x.first x.arg)
  |none=>Sp bs r m
def Ix(G:Pg):Prop:=∀ c∈G.cs,c<G.bs.length
theorem Bu(i:Nat)(kd:Int):∀(l:List Fu) (k:Nat) (G:Pg),Ix G->Ix (G.addFs i kd k l)
 |[],_,_,h=>h
 |f::r,k,G,h=>Bu i kd r (k+1) _ (λc hc=>by
  simp only[Pg.addF,Pg.addB,aaY,abc,aeS,ajB]at hc ⊢;rcases hc with hc|rfl
  .have:=h c hc;omega
  .omega)
theorem OE(i:Nat)(d:De)(G:Pg)(h:Ix G):Ix (G.addD i d):=by
 unfold Pg.addD;split
 .grind [Bu]
 .split
  .intro c hc;simp only[Pg.addR,Pg.addB,aaY,abc]at hc ⊢;have:=h c hc;omega
  .exact h
theorem Bv:∀(l:List De) (i:Nat) (G:Pg),Ix G->Ix (G.addDs i l)
 |[],_,_,h=>h
 |d::r,i,G,h=>Bv r (i+1) _ (OE i d G h)
theorem ady(o n i:Nat)(κ:D->ai):ay ab 40 (.buf 1 o n) (.i i) κ=boK (Nat.blt i n) (κ (.bptr o n i 0)):=by kernel_rfl
theorem Vh(o n i:Nat)(κ:D->ai):ay ab 88 (.buf 7 o n) (.i i) κ=boK (Nat.blt i n) (κ (.bptr o n i 0)):=by kernel_rfl
theorem rC{a b:Nat}(h:a<b):Nat.blt a b=true:=by unfold Nat.blt;exact abk h
theorem CX(H0 X:DH)(st:Nat)(cs:ak)(j:cs.length<2^61):∀(suf pre:ak) (G:Pg),cs=pre++suf->G.cs=cs->Ix G ->
 ae aB 23 200022 [.g (.ptr (H0.length+5) 0),.g (.buf 1 (H0.length+4) cs.length),.n cs.length,.n pre.length] [] (PX H0 st G X)=ret (.tuple [.ptr (H0.length+5) 0,.i 0]) (PX H0 st { G with m:=Sp G.bs suf G.m } X)
 |[],pre,G,e,_,_=>by
  refine cj (AR) ?_;have:cs.length=pre.length:=by rw[e];simp
  rw[mK,this,abl (aiK _),SE];rfl
 |c::suf,pre,G,e,h,hb=>by
  have hi:pre.length<cs.length:=by rw[e];simp
  have hc:c<G.bs.length:=hb c (by rw[h,e];simp);have p:(nC G.cs)[pre.length]? = some [.i (c:Nat)]:=by rw[h,e];simp[nC]
  have q:(G.bs.map lJ)[c]? = some (lJ G.bs[c]):=by rw[afd,abg hc];rfl
  have ih:=CX H0 X st cs j suf (pre++[c]) { G with m:=iB G.m G.bs[c].first G.bs[c].arg } (by rw[e];simp) h hb;simp only[aaY,abc]at ih;refine cj (AR) ?_;have t:∀ κ:Nat->Bool->Bool->aO->ai,dl (PX H0 st G X) (H0.length+4) cs.length κ=κ 1 true false (nC G.cs):=λκ=>by have:=cD (κ:=κ) (Uh H0 st G X);rw[jX,h]at this;rw[h];exact this
  have r:∀ κ:Nat->Bool->Bool->aO->ai,dl (PX H0 st G X) (H0.length+2) G.bs.length κ=κ 7 true false (G.bs.map lJ):=λκ=>by have:=cD (κ:=κ) (Ui H0 st G X);rw[abe]at this;exact this
  rw[mK,abt hi,ge];simp only[ady,rC hi,boK,ge,acQ,t,aD p,aj,ac (wZ _ _ _ _),au,Vh,rC hc,DC,adO,aiM,r,aD q];have e0:∀ κ:D->ai,af (lJ G.bs[c]) 0 κ=κ (.i (G.bs[c].first:Nat)):=λ_=>rfl;have u:∀ κ:D->ai,af (lJ G.bs[c]) 5 κ=κ (.str G.bs[c].arg):=λ_=>rfl;simp only[e0,acO,r,aD q,u,QU,fT (Ug _ _ _ _),fY,JS,LN,aX (show pre.length<2^62 by omega),ih];simp only[Sp,abg hc]
def rg(l:List De):Pg:=(⟨l,[],[],[],[],[]⟩:Pg).addDs 0 l
def bF(l:List De):Pg:={ rg l with m:=Sp (rg l).bs (rg l).cs (rg l).m }
theorem IN:∀(l:List De) (i:Nat) (G:Pg),(G.addDs i l).cs.length<=G.cs.length+qO l
 |[],_,_=>by simp[Pg.addDs,qO]
 |d::r,i,G=>by
  have h1:=IN r (i+1) (G.addD i d)
  grind [Pg.addD,Gr,vM,Pg.addR,Pg.addB,Pg.addDs,qO]
theorem Us(l:List De)(hl:l.length<2^61)(ho:∀ x∈l,x.ok)(r:cL bY l=0->(∀ d∈l,okD d)/\GD l<=100000/\qO l<=99998)(H:DH) :
 ∃ st,aq 23 [.agg [.row 14 (l.map ed)]] H=bif cL bY l != 0 then ret (.tuple [.nilptr,.i (cL bY l)]) H else ret (.tuple [.ptr (H.length+5) 0,.i 0]) (PX H st (bF l) []):=by
 have hc:=Na kOk l (by omega) ho H;cases g:cL bY l != 0 with
 |true =>refine⟨0,ev (f23) ?_⟩;simp only[av hc,bE,g,ax,ge]
 |false =>
  have h0:cL bY l=0:=by simpa using g
  obtain⟨t,u,j⟩:=r h0;obtain⟨st,h⟩:=zu H [] l hl l [] 0 ⟨l,[],[],[],[],[]⟩ rfl t (by simpa using u) (by simpa using j) (by simpa using j) (by simpa using j);have hb:Ix (rg l):=Bv l 0 _ (λc hc=>by cases hc);have p:(rg l).cs.length<2^61:=by grind [IN,rg]
  have v:=CX H [] st (rg l).cs p (rg l).cs [] (rg l) rfl rfl hb;have w:PX H 0 ⟨l,[],[],[],[],[]⟩ []=H++[.map []]++[.buf 11 true false []]++[.buf 7 true false []]++[.buf 1 true false []]++[.buf 1 true false []]++[.cells 0 [.row 14 (l.map ed),.buf 11 (H.length+1) 0,.buf 7 (H.length+2) 0,.buf 1 (H.length+3) 0,.buf 1 (H.length+4) 0,.map H.length]]:=by simp[PX,PL,mC,nC]
  have q:=h.trans v;rw[w]at q;refine⟨st,ev (f23) ?_⟩;simp only[av hc,bE,g,ax,ge,SE];simp only[aaY,abc,abe,ajH]at q ⊢;exact q.trans rfl
mutual
theorem EL{kind:ak->Int}:∀ e:Ex,fw kind e=true->Tp e
 |.mk k m n a xs ps,h=>by
  simp only[fw,aaV]at h;obtain⟨g,_,_,h2⟩:=h;rw[Tp];refine⟨λhk hx=>?_,Me xs g⟩
  grind [vp]
theorem Me{kind:ak->Int}:∀ l:List Ex,qz kind l=true->JG l
 |[],_=>by simp[JG]
 |x::r,h=>by simp only[qz,aaV]at h;rw[JG];exact⟨EL x h.1,Me r h.2⟩
end
mutual
theorem Jm:∀(e:Ex) (p:Nat),Il e p<=100->oK e<=Fc e p
 |.mk k m n a xs ps,p,h=>by
  rw[Il]at h;rw[Fc,oK];cases hq:decide (p>100)with
  |true =>grind
  |false =>rw[hq]at h;simp only[SE]at h ⊢;have:=Eg xs (p+1) (by omega);omega
theorem Eg:∀(l:List Ex) (q:Nat),lT l q<=100->gg l<=jl l q
 |[],_,_=>by simp[gg]
 |x::r,q,h=>by rw[lT]at h;have h1:=Jm x q (by omega);have h2:=Eg r q (by omega);rw[gg,jl];omega
end
theorem GA:∀ l:List Fu,BU l=gg (l.map (·.b))
 |[]=>by simp[BU,gg]
 |f::r=>by rw[BU,acg,gg,GA r]
theorem TC(d:De):TD d=gg (eF d):=by grind [TD,eF,GA,gg]
theorem Lv:∀ l:List De,ss l<=100->GD l<=nJ l
 |[],_=>by simp[GD]
 |d::r,h=>by
  rw[ss]at h;have h1:=Lv r (by omega)
  grind [Eg,KJ,GD,nJ,TC,Hs]
theorem QQ{kind:ak->Int}(d:De)(h:hJ kind d=true):okD d/\Gr d<=16:=by
 unfold hJ at h;by_cases g:d.k=1
 .have:d.fs=[]:=by simp[g]at h;exact h.2.2.2.2
  exact⟨⟨by simp[this],λh=>by omega,λh=>by omega⟩,by simp[Gr,g]⟩
 by_cases i:d.k=2
 .have:d.fs=[]:=by simp[i]at h;exact h.2.2.2.2
  exact⟨⟨by simp[this],λh=>by omega,λh=>by omega⟩,by simp[Gr,i]⟩
 by_cases j:d.k=3
 .simp[j]at h;obtain⟨_,_,_,_,_,hl,r⟩:=h;exact⟨⟨by omega,λ_ f hm=>EL f.b (by have:=r f hm;simp only[vj,aaV]at this;exact this.2.2),λh=>by omega⟩,by simp[Gr,j];omega⟩
 by_cases p:d.k=4
 .simp[p]at h;have:d.fs=[]:=h.2.2.2.2;exact⟨⟨by simp[this],λh=>by omega,λ_=>EL _ h.2.2.2.1⟩,by simp[Gr,p]⟩
 by_cases q:d.k=5
 .simp[q]at h;have:d.fs=[]:=h.2.2.2.2;exact⟨⟨by simp[this],λh=>by omega,λ_=>EL _ h.2.2.2.1⟩,by simp[Gr,q]⟩
 grind
theorem Mj{kind:ak->Int}:∀ l:List De,l.all (hJ kind)=true->qO l<=16*l.length
 |[],_=>by simp[qO]
 |d::r,h=>by rw[akc,aaV]at h;have h1:=(QQ d h.1).2;have h2:=Mj r h.2;rw[qO,aeg];omega
theorem kD{kind:ak->Int}{l:List De}(h:cL kind l=0):ss l<=100/\l.length<=60/\nJ l<=2000/\l.all (hJ kind)=true:=by grind [cL]
theorem Mb{kind:ak->Int}{l:List De}(h:cL kind l=0):(∀ d∈l,okD d)/\GD l<=2000/\qO l<=960:=by
 obtain⟨h1,h2,h3,h4⟩:=kD h
 grind [Lv,Mj,QQ]
theorem QD(l:List De)(hl:l.length<2^61)(ho:∀ x∈l,x.ok)(H:DH) :
 ∃ st,aq 23 [.agg [.row 14 (l.map ed)]] H=bif cL bY l != 0 then ret (.tuple [.nilptr,.i (cL bY l)]) H else ret (.tuple [.ptr (H.length+5) 0,.i 0]) (PX H st (bF l) []) :=
 Us l hl ho (λh=>by obtain⟨a,b,c⟩:=Mb h;exact⟨a,by omega,by omega⟩) H
theorem acP(o n i:Nat)(H:DH)(κ:D->ai):bW ab 93 (.bptr o n i 0) H κ=dl H o n λ_ _ _ l=>bZ l i λcs=>br ab 93 cs 0 κ:=by kernel_rfl
theorem acW(a b c d e f g h i j k:D)(κ:D->ai):br ab 93 [a,b,c,d,e,f,g,h,i,j,k] 0 κ=κ (.agg [a,b,c,d,e,f,g,h,i,j,k]):=by kernel_rfl
theorem YS(p q r t u v w y z A z10 a b c d e f g h i j k:D)(κ:List D->ai):aw [p,q,r,t,u,v,w,y,z,A,z10] 0 [a,b,c,d,e,f,g,h,i,j,k] κ=κ [a,b,c,d,e,f,g,h,i,j,k]:=rfl
theorem aaJ(a b c d e f g h i j k:D)(κ:List D->ai):ah 11 (.agg [a,b,c,d,e,f,g,h,i,j,k]) κ=κ [a,b,c,d,e,f,g,h,i,j,k]:=rfl
end
end Go.Proofs.YtjbplagjmopllaaGreatDoor
namespace Go.Proofs.YtjbplagjmopllaaGreatDoor.Rd
open Go.AI Go.Proofs.YtjbplagjmopllaaGreatDoor
theorem eA{d:D}(h:xz .str d):∃ l,d=.str l:=by cases h;exact⟨_,rfl⟩
theorem dM{d:D}(h:xz .int d):∃ n,d=.int .i64 n:=by cases h;exact⟨_,rfl⟩
theorem mS{t:Nat}{d:D}(h:xz (.sl t) d):∃ l,d=.row (uy t).length l/\l.length<2^50/\∀ cs∈l,Gj (uy t) cs:=by
 cases h with
 |row t ly l h0 g i j=>subst h0;exact⟨l,rfl,g,λcs h=>⟨i cs h,j cs h⟩⟩
theorem gr{ds:List D}(h:Gj [] ds):ds=[]:=ake.1 h.1
theorem aH{k:Ck}{ks:List Ck}{ds:List D}(h:Gj (k::ks) ds):∃ d r,ds=d::r/\xz k d/\Gj ks r:=by
 cases ds with
 |nil=>have:=h.1;simp at this
 |cons d r=>exact⟨d,r,rfl,h.2 0 k d rfl rfl,by have:=h.1;simpa using this,λi k d g j=>h.2 (i+1) k d (by simpa using g) (by simpa using j)⟩
theorem pick{α:Type}{f:α->List D}{p:α->Prop}:∀ {l:List (List D)},(∀ cs∈l,∃ x,cs=f x/\p x)->∃ xs:List α,l=xs.map f/\∀ x∈xs,p x
 |[],_=>⟨[],rfl,λ_ h=>by cases h⟩
 |cs::r,h=>by obtain⟨x,g,i⟩:=h cs aeq;obtain⟨xs,j,q⟩:=pick λc hc=>h c (abi _ hc);exact⟨x::xs,by rw[g,j];rfl,λy hy=>(abn.1 hy).elim (λe=>e▸i) (q y)⟩
theorem acY:uy 99=[.str,.sl 99]:=by kernel_rfl
theorem adc:uy 46=[.int,.str,.sl 46]:=by kernel_rfl
theorem adh:uy 45=[.int,.int,.str,.str,.sl 45,.sl 46]:=by kernel_rfl
theorem adf:uy 102=[.str,.str,.int,.int,.str,.str,.sl 45,.sl 46]:=by kernel_rfl
theorem ada:uy 95=[.str]:=by kernel_rfl
theorem adj:uy 96=[.str,.sl 99]:=by kernel_rfl
theorem adi:uy 22=[.int,.str,.sl 95,.sl 96,.str,.str,.sl 99,.sl 102,.int,.int,.str,.str,.sl 45,.sl 46]:=by kernel_rfl
theorem WU{k:Ck}{d:D}(h:xz k d):k=.sl 99->∃ xs,d=.row 2 (iQ xs)/\xs.length<2^62/\Ty.oks xs:=by
 induction h with
 |row t ly l g hl i j ih =>
  intro e;cases e;rw[acY]at g;subst g;obtain⟨xs,rfl,q⟩:=pick (f:=ga) (p:=Ty.ok) (l:=l) λcs hc=>by obtain⟨a,r,rfl,u,h⟩:=aH (⟨i cs hc,j cs hc⟩:Gj [.str,.sl 99] cs);obtain⟨b,r,rfl,h2,h⟩:=aH h;cases gr h;obtain⟨n,rfl⟩:=eA u;obtain⟨xs,rfl,v⟩:=ih _ hc 1 _ b rfl rfl rfl;exact⟨.mk n xs,rfl,by rw[Ty.ok];exact v⟩
  refine⟨xs,by rw[jT];rfl,?_,Ty.oks_iff.2 q⟩
  grind
 |_=>intro e;cases e
theorem QG{k:Ck}{d:D}(h:xz k d):k=.sl 46->∃ xs,d=.row 3 (bQ xs)/\xs.length<2^62/\Pa.oks xs:=by
 induction h with
 |row t ly l g hl i j ih =>
  intro e;cases e;rw[adc]at g;subst g;obtain⟨xs,rfl,q⟩:=pick (f:=fQ) (p:=Pa.ok) (l:=l) λcs hc=>by obtain⟨a,r,rfl,u,h⟩:=aH (⟨i cs hc,j cs hc⟩:Gj [.int,.str,.sl 46] cs);obtain⟨b,r,rfl,v,h⟩:=aH h;obtain⟨c,r,rfl,h3,h⟩:=aH h;cases gr h;obtain⟨m,rfl⟩:=dM u;obtain⟨n,rfl⟩:=eA v;obtain⟨xs,rfl,w⟩:=ih _ hc 2 _ c rfl rfl rfl;exact⟨.mk m n xs,rfl,by rw[Pa.ok];exact w⟩
  refine⟨xs,by rw[iT];rfl,?_,Pa.oks_iff.2 q⟩
  grind
 |_=>intro e;cases e
theorem WW{k:Ck}{d:D}(h:xz k d):k=.sl 45->∃ xs,d=.row 6 (cw xs)/\xs.length<2^62/\Ex.oks xs:=by
 induction h with
 |row t ly l g hl i j ih =>
  intro e;cases e;rw[adh]at g;subst g;obtain⟨xs,rfl,q⟩:=pick (f:=er) (p:=Ex.ok) (l:=l) λcs hc=>by obtain⟨a,r,rfl,u,h⟩:=aH (⟨i cs hc,j cs hc⟩:Gj [.int,.int,.str,.str,.sl 45,.sl 46] cs);obtain⟨b,r,rfl,v,h⟩:=aH h;obtain⟨c,r,rfl,w,h⟩:=aH h;obtain⟨d,r,rfl,y,h⟩:=aH h;obtain⟨e,r,rfl,h5,h⟩:=aH h;obtain⟨f,r,rfl,z,h⟩:=aH h;cases gr h;obtain⟨k,rfl⟩:=dM u;obtain⟨m,rfl⟩:=dM v;obtain⟨n,rfl⟩:=eA w;obtain⟨a,rfl⟩:=eA y;obtain⟨xs,rfl,A,B⟩:=ih _ hc 4 _ e rfl rfl rfl;obtain⟨ps,rfl,E,F⟩:=QG z rfl;exact⟨.mk k m n a xs ps,rfl,by rw[Ex.ok];exact⟨A,B,E,F⟩⟩
  refine⟨xs,by rw[mt];rfl,?_,Ex.oks_iff.2 q⟩
  grind
 |_=>intro e;cases e
theorem acp{d:D}(h:xz (.sl 95) d):∃ xs:List (List Nat),d=.row 1 (xs.map lW)/\xs.length<2^62:=by
 obtain⟨l,rfl,hl,g⟩:=mS h;rw[ada]at g ⊢;obtain⟨xs,rfl,_⟩:=pick (f:=lW) (p:=λ_=>True) (l:=l) λcs hc=>by obtain⟨a,r,rfl,i,h⟩:=aH (g cs hc);cases gr h;obtain⟨n,rfl⟩:=eA i;exact⟨n,rfl,trivial⟩
 grind
theorem acv{d:D}(h:xz (.sl 96) d):∃ xs:List Co,d=.row 2 (xs.map sw)/\xs.length<2^62/\∀ c∈xs,c.ok:=by
 obtain⟨l,rfl,hl,i⟩:=mS h;rw[adj]at i ⊢;obtain⟨xs,rfl,hx⟩:=pick (f:=sw) (p:=Co.ok) (l:=l) λcs hc=>by obtain⟨a,r,rfl,j,h⟩:=aH (i cs hc);obtain⟨b,r,rfl,q,h⟩:=aH h;cases gr h;obtain⟨n,rfl⟩:=eA j;obtain⟨ts,rfl,g⟩:=WU q rfl;exact⟨⟨n,ts⟩,rfl,g⟩
 grind
theorem acs{d:D}(h:xz (.sl 102) d):∃ xs:List Fu,d=.row 8 (xs.map nL)/\xs.length<2^62/\∀ f∈xs,f.b.ok:=by
 obtain⟨l,rfl,hl,j⟩:=mS h;rw[adf]at j ⊢;obtain⟨xs,rfl,q⟩:=pick (f:=nL) (p:=λf=>f.b.ok) (l:=l) λcs hc=>by obtain⟨a,r,rfl,t,h⟩:=aH (j cs hc);obtain⟨b,r,rfl,u,h⟩:=aH h;obtain⟨c,r,rfl,v,h⟩:=aH h;obtain⟨d,r,rfl,w,h⟩:=aH h;obtain⟨e,r,rfl,y,h⟩:=aH h;obtain⟨f,r,rfl,z,h⟩:=aH h;obtain⟨g,r,rfl,A,h⟩:=aH h;obtain⟨i,r,rfl,B,h⟩:=aH h;cases gr h;obtain⟨n,rfl⟩:=eA t;obtain⟨a,rfl⟩:=eA u;obtain⟨k,rfl⟩:=dM v;obtain⟨m,rfl⟩:=dM w;obtain⟨en,rfl⟩:=eA y;obtain⟨ea,rfl⟩:=eA z;obtain⟨xs,rfl,E,F⟩:=WW A rfl;obtain⟨ps,rfl,I,J⟩:=QG B rfl;exact⟨⟨n,a,.mk k m en ea xs ps⟩,rfl,by rw[Ex.ok];exact⟨E,F,I,J⟩⟩
 exact⟨xs,rfl,by rw[abe]at hl;omega,q⟩
theorem acu{d:D}(h:xz (.sl 22) d):∃ xs:List De,d=.row 14 (xs.map ed)/\xs.length<2^61/\∀ d∈xs,d.ok:=by
 obtain⟨l,rfl,hl,y⟩:=mS h;rw[adi]at y ⊢;obtain⟨xs,rfl,z⟩:=pick (f:=ed) (p:=De.ok) (l:=l) λcs hc=>by obtain⟨a,r,rfl,A,h⟩:=aH (y cs hc);obtain⟨b,r,rfl,B,h⟩:=aH h;obtain⟨c,r,rfl,E,h⟩:=aH h;obtain⟨d,r,rfl,F,h⟩:=aH h;obtain⟨e,r,rfl,I,h⟩:=aH h;obtain⟨f,r,rfl,J,h⟩:=aH h;obtain⟨g,r,rfl,L,h⟩:=aH h;obtain⟨i,r,rfl,M,h⟩:=aH h;obtain⟨j,r,rfl,N,h⟩:=aH h;obtain⟨k,r,rfl,q,h⟩:=aH h;obtain⟨m,r,rfl,t,h⟩:=aH h;obtain⟨n,r,rfl,u,h⟩:=aH h;obtain⟨o,r,rfl,v,h⟩:=aH h;obtain⟨p,r,rfl,w,h⟩:=aH h;cases gr h;obtain⟨k,rfl⟩:=dM A;obtain⟨dn,rfl⟩:=eA B;obtain⟨vs,rfl,O⟩:=acp E;obtain⟨cs,rfl,R,U⟩:=acv F;obtain⟨n,rfl⟩:=eA I;obtain⟨tn,rfl⟩:=eA J;obtain⟨ts,rfl,W,Y⟩:=WU L rfl;obtain⟨fs,rfl,Z,g7⟩:=acs M;obtain⟨ek,rfl⟩:=dM N;obtain⟨em,rfl⟩:=dM q;obtain⟨en,rfl⟩:=eA t;obtain⟨ea,rfl⟩:=eA u;obtain⟨xs,rfl,g8,g9⟩:=WW v rfl;obtain⟨ps,rfl,g10,g11⟩:=QG w rfl;exact⟨⟨k,⟨dn,vs,cs⟩,n,.mk tn ts,fs,.mk ek em en ea xs ps⟩,rfl,⟨O,R,U⟩,by rw[Ty.ok];exact⟨W,Y⟩,Z,g7,by rw[Ex.ok];exact⟨g8,g9,g10,g11⟩⟩
 exact⟨xs,rfl,by rw[abe]at hl;omega,z⟩
theorem xX:∀ {l:List (List D)},(∀ c∈l,1<=fA c)->l.length<=gA l
 |[],_=>by simp
 |c::r,h=>by
  have h1:=h c aeq;have h2:=xX λx g=>h x (abi _ g)
  grind [gA]
theorem tz{α:Type}{f:α->List D}{x:α}:∀ {l:List α},x∈l->fA (f x)<=gA (l.map f)
 |[],h=>by cases h
 |y::r,h=>by
  simp only[acg,gA];rcases abn.1 h with rfl|h
  .omega
  .have:=tz (f:=f) h;omega
theorem VN(d:D):1<=Iq d:=by cases d<;>simp[Iq]
theorem kB{d:D}{r:List D}:1<=fA (d::r):=by simp only[fA];have:=VN d;omega
theorem Vm(l:List Fu):l.length<=gA (l.map nL):=by
 have:=xX (l:=l.map nL) λc hc=>by obtain⟨⟨n,a,⟨k,m,en,ea,xs,ps⟩⟩,_,rfl⟩:=aiH.1 hc;exact kB
 grind
theorem Tv(l:List Ty):l.length<=gA (iQ l):=by
 rw[jT];have:=xX (l:=l.map ga) λc hc=>by obtain⟨⟨n,xs⟩,_,rfl⟩:=aiH.1 hc;rw[ga];exact kB
 grind
theorem MZ:∀ l:List Co,(hQ l).length<=gA (l.map sw)
 |[]=>by simp[hQ]
 |⟨n,xs⟩::r=>by have h1:=MZ r;have h2:=Tv xs;simp only[hQ,aaY,acg,gA,sw,fA,Iq];omega
theorem aaw(d:De):d.fs.length<=fA (ed d)/\(hQ d.d.cs).length<=fA (ed d):=by obtain⟨k,⟨dn,vs,cs⟩,n,⟨tn,ts⟩,fs,⟨ek,em,en,ea,xs,ps⟩⟩:=d;have h1:=Vm fs;have h2:=MZ cs;simp only[ed,fA,Iq];omega
theorem iM{t b:Nat}(h:(Tryz.prog.info? t).map (·.bytes)=some b)(hb:b<=1000){m:Nat}(hm:m<=1048576):aF Tryz.prog t m=true:=by
 unfold aF;cases hi:Tryz.prog.info? t with
 |none=>rw[hi]at h;cases h
 |some i =>
  rw[hi]at h;simp only[aiB,abf]at h;simp only[aaV];refine⟨abk ?_,abk (by omega)⟩;have h1:Nat.div m 4<=m:=Nat.div_le_self m 4
  calc i.bytes*(m+Nat.div m 4+600)<=1000*(1048576+1048576+600):=Nat.mul_le_mul (by omega) (by omega)
   _<=281474976710656:=by omega
theorem VU:(Tryz.prog.info? 48).map (·.bytes)=some 96:=by kernel_rfl
theorem SH:(Tryz.prog.info? 101).map (·.bytes)=some 40:=by kernel_rfl
theorem YV{d:De}(h:d.ok)(hc:fA (ed d)<=1048576):d.ok2:=by obtain⟨h1,h2⟩:=aaw d;exact⟨h,λm hm=>iM VU (by omega) (by omega),λm hm=>iM SH (by omega) (by omega),by omega⟩
theorem adm:Kg 8 24=some [.sl 22]:=by kernel_rfl
end Go.Proofs.YtjbplagjmopllaaGreatDoor.Rd
namespace Go.Proofs.YtjbplagjmopllaaGreatDoor
open Go.AI
section
structure Re where
 c:Bool
 n:Int
structure Ce where
 k:Int
 con:ak
 n:Int
 refs:List Re
 nx:Int
structure Fm where
 ex:Int
 en:Int
 dn:List Re
structure To where
 nm:ak
 r:Re
inductive Va where
 |mk (con:ak) (n:Int) (xs:List Va)
structure Nv where
 nm:ak
 v:Va
structure Mc where
 mo:Int
 ex:Int
 en:Int
 vc:Bool
 vn:Int
 fr:List Fm
 ce:List Ce
 to:List To
 bo:Int
 ou:List Nv
 st:Int
def im(r:Re):List D:=[.bool r.c,.i r.n]
def gE(c:Ce):List D:=[.i c.k,.str c.con,.i c.n,.row 2 (c.refs.map im),.i c.nx]
def gj(f:Fm):List D:=[.i f.ex,.i f.en,.row 2 (f.dn.map im)]
def il(t:To):List D:=[.str t.nm,.bool t.r.c,.i t.r.n]
mutual
def qh:Va->List D
 |.mk c n xs=>(xV c n (fu xs))
def fu:List Va->aO
 |[]=>[]
 |v::r=>qh v::fu r
end
def jv(x:Nv):List D:=match x.v with
 |.mk c n xs=>[.str x.nm,.str c,.i n,.row 3 (fu xs)]
abbrev fv(m:Mc):List D:=(xM m.mo m.ex m.en m.vc m.vn (.row 3 (m.fr.map gj)) (.row 5 (m.ce.map gE)) (.row 3 (m.to.map il)) m.bo (.row 4 (m.ou.map jv)) m.st)
theorem f77{R:aM}{q:Nat}{r:Mc}{t:Int}{H:DH}:aA R 77 [.ptr q 0,.agg (fv r),.i t] H =
 aY H (let a:=H++[.cells 0 (fv r)];let b:=a++[.cells 0 [.i t]];am b H.length λ_ c=>af c 6 λc=>am b a.length λ_ d=>af d 0 λd=>ay ab 28 c d λc=>bW ab 112 c b λc=>ah 5 c λc=>aw [.i 0,.str [],.i 0,.nilrow,.i 0] 0 c λc=>af c 0 λd=>aC ab .eql 3 true d (.i 1) λe=>brD e (af c 1 λd=>aC ab .eql 9 true d (.str [44]) λd=>brD d (af c 3 λd=>aS ab 37 d b λd=>aC ab .leq 3 true d (.i 16) λd=>brD d (af c 2 λd=>aC ab .eql 3 true d (.i 0) λd=>brD d (af c 4 λd=>aC ab .eql 3 true d (.i (-1)) λd=>brD d (af c 3 λc=>C R 118 [c,.func 119 [] [.ptr H.length 0,.ptr a.length 0]] b λa H=>ib .not a λa=>ret a H) (ret (.bool false) b)) (ret (.bool false) b)) (ret (.bool false) b)) (af c 1 λd=>C R 117 [d] b λb d=>brD b (af c 3 λb=>aS ab 37 b d λb=>aC ab .leq 3 true b (.i 16) λb=>brD b (af c 2 λb=>aC ab .eql 3 true b (.i 0) λb=>brD b (af c 4 λb=>aC ab .eql 3 true b (.i (-1)) λb=>brD b (af c 3 λb=>C R 118 [b,.func 119 [] [.ptr H.length 0,.ptr a.length 0]] d λa H=>ib .not a λa=>ret a H) (ret (.bool false) d)) (ret (.bool false) d)) (ret (.bool false) d)) (ret (.bool false) d))) (aC ab .eql 3 true d (.i 2) λe=>brD e (am b q λ_ d=>af d 5 λd=>af c 2 λe=>ip ab 89 d e true b λd=>ei d 0 λe=>ei d 1 λd=>brD d (af c 1 λd=>C R 98 [d] b λb d=>brD b (af c 1 λb=>aC ab .eql 9 false e b λb=>brD b (af c 3 λb=>aS ab 37 b d λb=>aC ab .eql 3 true b (.i 0) λb=>brD b (am d H.length λ_ b=>af b 0 λe=>af b 1 λf=>af b 2 λg=>af b 3 λh=>af b 4 λi=>af b 5 λj=>af b 6 λk=>af b 7 λl=>af b 8 λm=>af b 9 λn=>af b 10 λb=>af c 4 λc=>am d a.length λ_ a=>af a 0 λa=>C R 121 [.agg [e,f,g,h,i,j,k,l,m,n,b],c,a] d λa H=>ret a H) (ret (.bool false) d)) (ret (.bool false) d)) (ret (.bool false) d)) (ret (.bool false) b)) (aC ab .eql 3 true d (.i 3) λd=>brD d (af c 1 λd=>C R 98 [d] b λb d=>ib .not b λb=>brD b (ret (.bool false) d) (af c 2 λb=>aC ab .neq 3 true b (.i 0) λb=>brD b (ret (.bool false) d) (af c 3 λb=>aS ab 37 b d λb=>aC ab .neq 3 true b (.i 1) λb=>brD b (ret (.bool false) d) (am d H.length λ_ b=>af b 0 λe=>af b 1 λf=>af b 2 λg=>af b 3 λh=>af b 4 λi=>af b 5 λj=>af b 6 λk=>af b 7 λl=>af b 8 λm=>af b 9 λn=>af b 10 λb=>af c 4 λo=>am d a.length λ_ p=>af p 0 λp=>C R 121 [.agg [e,f,g,h,i,j,k,l,m,n,b],o,p] d λb d=>ib .not b λb=>brD b (ret (.bool false) d) (af c 3 λb=>ay ab 37 b (.i 0) λb=>bW ab 26 b d λb=>am d a.length λ_ e=>af e 0 λe=>aC ab .add 3 true e (.i 1) λe=>ah 1 e λe=>aw [.bool true,.i 0] 1 e λe=>aC ab .eql 26 false b (.agg e) λb=>brD b (am d a.length λ_ b=>af b 0 λb=>aC ab .add 3 true b (.i 1) λb=>am d H.length λ_ c=>af c 6 λc=>aS ab 28 c d λc=>aC ab .lss 3 false b c λb=>brD b (am d H.length λ_ b=>af b 6 λb=>am d a.length λ_ c=>af c 0 λc=>aC ab .add 3 true c (.i 1) λc=>ay ab 28 b c λb=>ct b 0 λb=>bW ab 3 b d λb=>aC ab .eql 3 true b (.i 2) λb=>brD b (am d H.length λ_ b=>af b 6 λb=>am d a.length λ_ c=>af c 0 λc=>aC ab .add 3 true c (.i 1) λc=>ay ab 28 b c λb=>ct b 4 λb=>bW ab 3 b d λb=>am d a.length λ_ a=>af a 0 λa=>aC ab .eql 3 false b a λa=>ret a d) (ret (.bool false) d)) (ret (.bool false) d)) (am d H.length λ_ b=>af b 0 λe=>af b 1 λf=>af b 2 λg=>af b 3 λh=>af b 4 λi=>af b 5 λj=>af b 6 λk=>af b 7 λl=>af b 8 λm=>af b 9 λn=>af b 10 λb=>af c 3 λc=>ay ab 37 c (.i 0) λc=>bW ab 26 c d λc=>am d a.length λ_ a=>af a 0 λa=>aU (R (.call 120 [.agg [e,f,g,h,i,j,k,l,m,n,b],c,a] none) d) (λa H=>ret a H) λ_ _=>none)))))) (ret (.bool false) b)))):=by kernel_rfl
theorem MK{R:aM}{a:ak}{b:Int}{c:aO}{h:Nat}{H:DH}:aA R 169 [.eptr (xV a b c) 0,.ptr h 0] H =
 am H h λ_ d=>af d 0 λd=>aC ab .add 3 true d (.i 1) λd=>ah 1 d λd=>am H h λe f=>aw f 0 d λd=>let H:=H.set h (.cells (e+1) d);am H h λ_ d=>af d 0 λd=>aC ab .gtr 3 true d (.i 4000) λd=>brD d (ret (.bool false) H) (cond (a==[]) (ret (.bool ((c.length:Int)==0)) H) (cond (b != 0) (ret (.bool false) H) (cond (decide ((c.length:Int)>16)) (ret (.bool false) H) (cond (a==[44]) (cond (decide ((c.length:Int)<2)) (ret (.bool false) H) (cond (decide ((c.length:Int)>4)) (ret (.bool false) H) (cond (!(a==[44])) (C R 117 [.str a] H λd H=>ib .not d λd=>brD d (ret (.bool false) H) (ae R 169 200013 [.g (.eptr (xV a b c) 0),.g (.ptr h 0),.n c.length,.n 0] [] H)) (ae R 169 200013 [.g (.eptr (xV a b c) 0),.g (.ptr h 0),.n c.length,.n 0] [] H)))) (cond (!(a==[44])) (C R 117 [.str a] H λd H=>ib .not d λd=>brD d (ret (.bool false) H) (ae R 169 200013 [.g (.eptr (xV a b c) 0),.g (.ptr h 0),.n c.length,.n 0] [] H)) (ae R 169 200013 [.g (.eptr (xV a b c) 0),.g (.ptr h 0),.n c.length,.n 0] [] H)))))):=by kernel_rfl
theorem nT{R:aM}{h:D}{j:Nat}{a b:Int}{H:DH}:aV R 169 200013 [.g h,.g (.ptr j 0),.n a,.n b] [] H =
 cond (decide (b<a)) (kC h λc=>ct c 2 λc=>bW ab 71 c H λc=>ay ab 71 c (.i b) λc=>C R 169 [c,.ptr j 0] H λc H=>ib .not c λc=>brD c (ret (.bool false) H) (ae R 169 200013 [.g h,.g (.ptr j 0),.n a,.n (di (b+1))] [] H)) (ret (.bool true) H):=by kernel_rfl
theorem f72{R:aM}{h:Nat}{H:DH}:aA R 72 [.ptr h 0] H =
 aY H (let a:=H++[.buf 5 true false []];am a h λ_ b=>af b 4 λb=>aS ab 40 b a λc=>ae R 72 200003 [.g (.ptr h 0),.g (.buf 5 H.length 0),.g b,.g c,.n 0] [] a):=by kernel_rfl
theorem AJ{R:aM}{h a b:Nat}{j:D}{c e:Int}{H:DH}:aV R 72 200003 [.g (.ptr h 0),.g (.buf 5 a b),.g j,.n c,.n e] [] H =
 cond (decide (e<c)) (ay ab 40 j (.i e) λd=>bW ab 3 d H λd=>am H h λ_ f=>af f 2 λf=>ay ab 88 f d λf=>ct f 5 λf=>bW ab 9 f H λf=>am H h λ_ g=>af g 2 λg=>ay ab 88 g d λd=>ct d 0 λd=>bW ab 3 d H λd=>ah 1 f λf=>aw [.i 2,.str [],.i 0,.nilrow,.i 0] 1 f λf=>ah 1 d λd=>aw f 2 d λd=>aw d 4 [.i (-1)] λd=>ah 5 (.agg d) λd=>bX (aF ab 112) 5 (.buf 5 a b) [d] H λa H=>fH (.acc 5) 0 a H λa H=>ae R 72 200003 [.g (.ptr h 0),.g a,.g j,.n c,.n (di (e+1))] [] H) (iW (.fz 5) (.buf 5 a b) H λa H=>ret a H):=by kernel_rfl
theorem f81{R:aM}{a b:Int}{c:aO}{e g:Nat}{H:DH}:aA R 81 [.agg [.i a,.i b,.row 2 c],.ptr e 0,.ptr g 0] H =
 am H e λ_ d=>af d 0 λd=>am H g λ_ e=>af e 0 λf=>af e 1 λg=>af e 2 λh=>af e 3 λi=>af e 4 λj=>af e 5 λk=>af e 6 λl=>af e 7 λm=>af e 8 λn=>af e 9 λo=>af e 10 λe=>C R 82 [d,.agg [f,g,h,i,j,k,l,m,n,o,e],.agg [.i a,.i b,.row 2 c]] H λa H=>ib .not a λa=>ret a H:=by kernel_rfl
theorem ahN{R:aM}{a:Bool}{b:Int}{c:Nat}{H:DH}:aA R 126 [.agg [.bool a,.i b],.ptr c 0] H =
 am H c λ_ d=>af d 0 λe=>af d 1 λf=>af d 2 λg=>af d 3 λh=>af d 4 λi=>af d 5 λj=>af d 6 λk=>af d 7 λl=>af d 8 λm=>af d 9 λn=>af d 10 λd=>am H c λ_ c=>af c 6 λc=>aS ab 28 c H λc=>C R 120 [.agg [e,f,g,h,i,j,k,l,m,n,d],.agg [.bool a,.i b],c] H λa H=>ib .not a λa=>ret a H:=by kernel_rfl
theorem f80{R:aM}{g:aO}{h:D}{H:DH}:aA R 80 [.row 3 g,h] H =
 C R 125 [.row 3 g,h] H λa H=>aC ab .geq 3 true a (.i 0) λa=>ret a H:=by kernel_rfl
theorem f36{R:aM}{h:Nat}{j:Mc}{H:DH}:aA R 36 [.ptr h 0,.agg (fv j)] H =
 aY H (let a:=H++[.cells 0 [.ptr h 0]];let b:=a++[.cells 0 (fv j)];am b H.length λ_ c=>af c 0 λc=>C R 72 [c] b λb c=>am c a.length λ_ d=>af d 6 λd=>aS ab 28 d c λd=>aS ab 28 b c λe=>aC ab .lss 3 false d e λd=>brD d (ret (.bool false) c) (am c a.length λ_ d=>af d 6 λd=>aS ab 28 b c λe=>dW ab 28 d none (some e) none c λc d=>C R 75 [b,c,.func 76 [] []] d λb c=>ib .not b λb=>brD b (ret (.bool false) c) (am c a.length λ_ b=>af b 10 λb=>aC ab .lss 3 true b (.i 0) λb=>brD b (ret (.bool false) c) (am c a.length λ_ b=>af b 10 λb=>aC ab .gtr 3 true b (.i 200000) λb=>brD b (ret (.bool false) c) (am c a.length λ_ b=>af b 6 λb=>aS ab 28 b c λb=>ae R 36 200005 [.g (.ptr H.length 0),.g (.ptr a.length 0),.g b,.n 0] [] c))))):=by kernel_rfl
theorem nR{R:aM}{q p:Nat}{a b:Int}{H:DH}:aV R 36 200005 [.g (.ptr q 0),.g (.ptr p 0),.n a,.n b] [] H =
 cond (decide (b<a)) (am H q λ_ c=>af c 0 λc=>am H p λ_ d=>af d 0 λe=>af d 1 λf=>af d 2 λg=>af d 3 λh=>af d 4 λi=>af d 5 λj=>af d 6 λk=>af d 7 λl=>af d 8 λm=>af d 9 λn=>af d 10 λd=>C R 77 [c,.agg [e,f,g,h,i,j,k,l,m,n,d],.i b] H λc H=>ib .not c λc=>brD c (ret (.bool false) H) (ae R 36 200005 [.g (.ptr q 0),.g (.ptr p 0),.n a,.n (di (b+1))] [] H)) (am H q λ_ a=>af a 0 λa=>am H p λ_ b=>af b 0 λc=>af b 1 λd=>af b 2 λe=>af b 3 λf=>af b 4 λg=>af b 5 λh=>af b 6 λi=>af b 7 λj=>af b 8 λk=>af b 9 λl=>af b 10 λb=>C R 78 [a,.agg [c,d,e,f,g,h,i,j,k,l,b]] H λa H=>brD a (am H q λ_ a=>af a 0 λa=>am H p λ_ b=>af b 0 λc=>af b 1 λd=>af b 2 λe=>af b 3 λf=>af b 4 λg=>af b 5 λh=>af b 6 λi=>af b 7 λj=>af b 8 λk=>af b 9 λl=>af b 10 λb=>C R 79 [a,.agg [c,d,e,f,g,h,i,j,k,l,b]] H λa H=>brD a (am H p λ_ a=>af a 5 λa=>C R 80 [a,.func 81 [] [.ptr q 0,.ptr p 0]] H λa H=>ib .not a λa=>ret a H) (ret (.bool false) H)) (ret (.bool false) H)):=by kernel_rfl
theorem f82{R:aM}{q:Nat}{r:Mc}{a b:Int}{c:aO}{H:DH}:aA R 82 [.ptr q 0,.agg (fv r),.agg [.i a,.i b,.row 2 c]] H =
 aY H (let d:=H++[.cells 0 (fv r)];cond (decide (a<0)) (ret (.bool false) d) (am d q λ_ e=>af e 1 λe=>aS ab 87 e d λe=>aC ab .geq 3 false (.i a) e λe=>brD e (ret (.bool false) d) (am d H.length λ_ e=>af e 0 λf=>af e 1 λg=>af e 2 λh=>af e 3 λi=>af e 4 λj=>af e 5 λk=>af e 6 λl=>af e 7 λm=>af e 8 λn=>af e 9 λo=>af e 10 λe=>am d H.length λ_ p=>af p 6 λp=>aS ab 28 p d λp=>aU (R (.call 121 [.agg [f,g,h,i,j,k,l,m,n,o,e],.i b,p] none) d) (λd e=>ib .not d λd=>brD d (ret (.bool false) e) (am e q λ_ d=>af d 1 λd=>ay ab 87 d (.i a) λd=>bW ab 93 d e λd=>ah 11 d λd=>aw [.i 0,.i 0,.str [],.str [],.nilrow,.nilrow,.i 0,.i 0,.nilrow,.i 0,.nilrow] 0 d λd=>af d 4 λf=>aS ab 45 f e λf=>aC ab .sub 3 true f (.i 1) λf=>af d 0 λd=>aC ab .eql 3 true d (.i 6) λg=>brD g (ae R 82 13 [.g (.ptr H.length 0),.lp 0 0,.n 0] [(0,[.i a,.i b,.row 2 c])] e) (aC ab .eql 3 true d (.i 8) λg=>brD g (ae R 82 13 [.g (.ptr H.length 0),.lp 0 0,.n 0] [(0,[.i a,.i b,.row 2 c])] e) (aC ab .eql 3 true d (.i 3) λg=>brD g (ae R 82 13 [.g (.ptr H.length 0),.lp 0 0,.g f] [(0,[.i a,.i b,.row 2 c])] e) (aC ab .eql 3 true d (.i 4) λg=>brD g (ae R 82 13 [.g (.ptr H.length 0),.lp 0 0,.g f] [(0,[.i a,.i b,.row 2 c])] e) (aC ab .eql 3 true d (.i 9) λd=>brD d (ae R 82 13 [.g (.ptr H.length 0),.lp 0 0,.g f] [(0,[.i a,.i b,.row 2 c])] e) (ret (.bool false) e))))))) λ_ _=>none))):=by kernel_rfl
theorem aah{R:aM}{h:Nat}{j a b:Int}{c:aO}{H:DH}:aV R 82 13 [.g (.ptr h 0),.lp 0 0,.n j] [(0,[.i a,.i b,.row 2 c])] H =
 cond (decide ((c.length:Int)<=j)) (C R 118 [.row 2 c,.func 126 [] [.ptr h 0]] H λa H=>ib .not a λa=>ret a H) (ret (.bool false) H):=by kernel_rfl
theorem ahQ{R:aM}{h:Nat}{j p:Int}{H:DH}:aA R 123 [.ptr h 0,.i j,.i p] H =
 let a:=H++[.buf 1 true false []];am a h λ_ b=>af b 3 λb=>dW ab 40 b none (some (.i p)) none a λa b=>aS ab 40 a b λc=>ae R 123 200003 [.g (.ptr h 0),.n j,.g (.buf 1 H.length 0),.g a,.g c,.n 0] [] b:=by kernel_rfl
theorem wK{R:aM}{j:Nat}{p:Int}{a b:Nat}{c:D}{e h:Int}{H:DH}:aV R 123 200003 [.g (.ptr j 0),.n p,.g (.buf 1 a b),.g c,.n e,.n h] [] H =
 cond (decide (h<e)) (ay ab 40 c (.i h) λd=>bW ab 3 d H λd=>am H j λ_ f=>af f 2 λf=>ay ab 88 f d λf=>ct f 6 λf=>bW ab 3 f H λf=>aC ab .eql 3 false f (.i p) λf=>brD f (am H j λ_ f=>af f 2 λf=>ay ab 88 f d λd=>ct d 4 λd=>bW ab 9 d H λd=>ah 1 d λd=>bX (aF ab 9) 1 (.buf 1 a b) [d] H λa H=>fH (.acc 1) 0 a H λa H=>ae R 123 200003 [.g (.ptr j 0),.n p,.g a,.g c,.n e,.n (di (h+1))] [] H) (ae R 123 200003 [.g (.ptr j 0),.n p,.g (.buf 1 a b),.g c,.n e,.n (di (h+1))] [] H)) (ret (.buf 1 a b) H):=by kernel_rfl
theorem ahR{R:aM}{h:Nat}{H:DH}:aA R 122 [.ptr h 0] H =
 let a:=H++[.buf 1 true false []];am a h λ_ b=>af b 0 λb=>aS ab 22 b a λc=>ae R 122 200003 [.g (.buf 1 H.length 0),.g b,.g c,.n 0] [] a:=by kernel_rfl
theorem wL{R:aM}{a b:Nat}{c:D}{e h:Int}{H:DH}:aV R 122 200003 [.g (.buf 1 a b),.g c,.n e,.n h] [] H =
 cond (decide (h<e)) (ay ab 22 c (.i h) λd=>bW ab 104 d H λd=>ah 14 d λd=>aw [.i 0,.str [],.nilrow,.nilrow,.str [],.str [],.nilrow,.nilrow,.i 0,.i 0,.str [],.str [],.nilrow,.nilrow] 0 d λd=>af d 0 λf=>aC ab .eql 3 true f (.i 2) λf=>brD f (af d 4 λd=>ah 1 d λd=>bX (aF ab 9) 1 (.buf 1 a b) [d] H λa H=>fH (.acc 1) 0 a H λa H=>ae R 122 200003 [.g a,.g c,.n e,.n (di (h+1))] [] H) (ae R 122 200003 [.g (.buf 1 a b),.g c,.n e,.n (di (h+1))] [] H)) (ret (.buf 1 a b) H):=by kernel_rfl
theorem ahs{R:aM}{h:aO}{i:D}{H:DH}:aA R 168 [.row 2 h,i] H =
 ae R 168 200002 [.g (.row 2 h),.g i,.n h.length,.n 0] [] H:=by kernel_rfl
theorem wC{R:aM}{j:aO}{p:D}{q h:Int}{H:DH}:aV R 168 200002 [.g (.row 2 j),.g p,.n q,.n h] [] H =
 cond (decide (h<q)) (dV h λa=>bZ j a λa=>af a 0 λb=>af a 1 λa=>jC bV p λc d e=>C R c (d++([.agg [b,a]]++e)) H λa H=>brD a (ret (.i h) H) (ae R 168 200002 [.g (.row 2 j),.g p,.n q,.n (di (h+1))] [] H)) (ret (.i (-1)) H):=by kernel_rfl
theorem ahU{R:aM}{a:Bool}{b:Int}{c e:Nat}{H:DH}:aA R 119 [.agg [.bool a,.i b],.ptr c 0,.ptr e 0] H =
 am H c λ_ c=>af c 0 λd=>af c 1 λf=>af c 2 λg=>af c 3 λh=>af c 4 λi=>af c 5 λj=>af c 6 λk=>af c 7 λl=>af c 8 λm=>af c 9 λn=>af c 10 λc=>am H e λ_ e=>af e 0 λe=>C R 120 [.agg [d,f,g,h,i,j,k,l,m,n,c],.agg [.bool a,.i b],e] H λa H=>ib .not a λa=>ret a H:=by kernel_rfl
theorem ahP{R:aM}{a:ak}{b:Int}{c:aO}{H:DH}:aA R 124 [.agg (xV a b c)] H =
 aY H (let a:=H++[.cells 0 (xV a b c)];let b:=a++[.cells 0 [.i 0]];am b a.length λc d=>aw d 0 [.i 0] λd=>let b:=b.set a.length (.cells (c+1) d);C R 169 [.ptr H.length 0,.ptr a.length 0] b λa H=>ib .not a λa=>brD a (ret (.i 62) H) (ret (.i 0) H)):=by kernel_rfl
theorem f19{R:aM}{a:aO}{g:Mc}{H:DH}:aA R 19 [.agg [.row 14 a],.agg (fv g)] H =
 C R 23 [.agg [.row 14 a]] H λa H=>ei a 0 λb=>ei a 1 λa=>aC ab .eql 34 true a (.i 0) λc=>brD c (C R 36 [b,.agg (fv g)] H λc H=>ib .not c λc=>brD c (ret (.tuple [b,.i 70]) H) (ret (.tuple [b,a]) H)) (ret (.tuple [b,a]) H):=by kernel_rfl
theorem f169{R:aM}{h j:Nat}{H:DH}:aA R 169 [.ptr h 0,.ptr j 0] H =
 am H j λ_ a=>af a 0 λa=>aC ab .add 3 true a (.i 1) λa=>ah 1 a λa=>am H j λb c=>aw c 0 a λa=>let H:=H.set j (.cells (b+1) a);am H h λ_ a=>af a 2 λa=>aS ab 71 a H λa=>am H j λ_ b=>af b 0 λb=>aC ab .gtr 3 true b (.i 4000) λb=>brD b (ret (.bool false) H) (am H h λ_ b=>af b 0 λb=>aC ab .eql 9 true b (.str []) λb=>brD b (aC ab .eql 3 true a (.i 0) λa=>ret a H) (am H h λ_ b=>af b 1 λb=>aC ab .neq 3 true b (.i 0) λb=>brD b (ret (.bool false) H) (aC ab .gtr 3 true a (.i 16) λb=>brD b (ret (.bool false) H) (am H h λ_ b=>af b 0 λb=>aC ab .eql 9 true b (.str [44]) λb=>brD b (aC ab .lss 3 true a (.i 2) λb=>brD b (ret (.bool false) H) (aC ab .gtr 3 true a (.i 4) λa=>brD a (ret (.bool false) H) (am H h λ_ a=>af a 0 λa=>aC ab .neq 9 true a (.str [44]) λa=>brD a (am H h λ_ a=>af a 0 λa=>C R 117 [a] H λa H=>ib .not a λa=>brD a (ret (.bool false) H) (am H h λ_ a=>af a 2 λa=>aS ab 71 a H λa=>ae R 169 200013 [.g (.ptr h 0),.g (.ptr j 0),.g a,.n 0] [] H)) (am H h λ_ a=>af a 2 λa=>aS ab 71 a H λa=>ae R 169 200013 [.g (.ptr h 0),.g (.ptr j 0),.g a,.n 0] [] H)))) (am H h λ_ a=>af a 0 λa=>aC ab .neq 9 true a (.str [44]) λa=>brD a (am H h λ_ a=>af a 0 λa=>C R 117 [a] H λa H=>ib .not a λa=>brD a (ret (.bool false) H) (am H h λ_ a=>af a 2 λa=>aS ab 71 a H λa=>ae R 169 200013 [.g (.ptr h 0),.g (.ptr j 0),.g a,.n 0] [] H)) (am H h λ_ a=>af a 2 λa=>aS ab 71 a H λa=>ae R 169 200013 [.g (.ptr h 0),.g (.ptr j 0),.g a,.n 0] [] H)))))):=by kernel_rfl
theorem f79{R:aM}{j:Nat}{h:Mc}{H:DH}:aA R 79 [.ptr j 0,.agg (fv h)] H =
 aY H (aU (R (.call 122 [.ptr j 0] none) H) (λa H=>aU (R (.call 123 [.ptr j 0,.i 4,.i h.bo] none) H) (λb H=>vw b H 1 λb=>bX (aF ab 9) 1 a b H λa H=>aS ab 95 a H λb=>aC ab .neq 3 false b (.i ((h.to.map il).length:Int)) λb=>brD b (ret (.bool false) H) (ae R 79 200005 [.g (.ptr j 0),.lp 0 0,.g a,.g (.row 3 (h.to.map il)),.n ((h.to.map il).length:Int),.n 0] [(0,(fv h))] H)) λ_ _=>none) λ_ _=>none):=by kernel_rfl
theorem AG{R:aM}{h:Nat}{j:D}{a:aO}{b c:Int}{w0:Mc}{H:DH}:aV R 79 200005 [.g (.ptr h 0),.lp 0 0,.g j,.g (.row 3 a),.n b,.n c] [(0,(fv w0))] H =
 cond (decide (c<b)) (dV c λd=>bZ a d λd=>af d 0 λe=>af d 1 λf=>af d 2 λd=>ay ab 95 j (.i c) λg=>bW ab 9 g H λg=>aC ab .neq 9 false e g λe=>brD e (ret (.bool false) H) (aU (R (.call 120 [.agg (fv w0),.agg [f,d],.i ((w0.ce.map gE).length:Int)] none) H) (λd H=>ib .not d λd=>brD d (ret (.bool false) H) (ae R 79 200005 [.g (.ptr h 0),.lp 0 0,.g j,.g (.row 3 a),.n b,.n (di (c+1))] [(0,(fv w0))] H)) λ_ _=>none)) (C R 123 [.ptr h 0,.i 5,.i w0.bo] H λa H=>aS ab 95 a H λb=>aC ab .neq 3 false b (.i ((w0.ou.map jv).length:Int)) λb=>brD b (ret (.bool false) H) (ae R 79 200014 [.g a,.g (.row 4 (w0.ou.map jv)),.n ((w0.ou.map jv).length:Int),.n 0] [] H)):=by kernel_rfl
theorem AF{R:aM}{j:D}{a:aO}{b c:Int}{H:DH}:aV R 79 200014 [.g j,.g (.row 4 a),.n b,.n c] [] H =
 cond (decide (c<b)) (dV c λd=>bZ a d λd=>af d 0 λe=>af d 1 λf=>af d 2 λg=>af d 3 λd=>ay ab 95 j (.i c) λh=>bW ab 9 h H λh=>aC ab .neq 9 false e h λe=>brD e (ret (.bool false) H) (aU (R (.call 124 [.agg [f,g,d]] none) H) (λd H=>aC ab .neq 34 true d (.i 0) λd=>brD d (ret (.bool false) H) (ae R 79 200014 [.g j,.g (.row 4 a),.n b,.n (di (c+1))] [] H)) λ_ _=>none)) (ret (.bool true) H):=by kernel_rfl
theorem f78{R:aM}{h:Nat}{g:Mc}{H:DH}:aA R 78 [.ptr h 0,.agg (fv g)] H =
 cond (g.mo==1) (cond (decide (g.ex>=0)) (am H h λ_ a=>af a 1 λa=>aS ab 87 a H λa=>aC ab .lss 3 false (.i g.ex) a λa=>brD a (aU (R (.call 121 [.agg (fv g),.i g.en,.i ((g.ce.map gE).length:Int)] none) H) (λa H=>brD a (cond ((g.vc==false)&&(g.vn==0)) (cond (decide (g.bo>=0)) (am H h λ_ a=>af a 3 λa=>aS ab 40 a H λa=>aC ab .lss 3 false (.i g.bo) a λa=>ret a H) (ret (.bool false) H)) (ret (.bool false) H)) (ret (.bool false) H)) λ_ _=>none) (ret (.bool false) H)) (ret (.bool false) H)) (cond (g.mo==2) (cond (g.ex==0) (cond (g.en==(-1)) (aU (R (.call 120 [.agg (fv g),.agg [.bool g.vc,.i g.vn],.i ((g.ce.map gE).length:Int)] none) H) (λa H=>brD a (cond (decide (g.bo>=0)) (am H h λ_ a=>af a 3 λa=>aS ab 40 a H λa=>aC ab .lss 3 false (.i g.bo) a λa=>ret a H) (ret (.bool false) H)) (ret (.bool false) H)) λ_ _=>none) (ret (.bool false) H)) (ret (.bool false) H)) (cond (g.mo==3) (cond (g.ex==0) (cond (g.en==(-1)) (cond ((g.vc==false)&&(g.vn==0)) (cond (((g.fr.map gj).length:Int)==0) (am H h λ_ a=>af a 3 λa=>aS ab 40 a H λa=>aC ab .eql 3 false (.i g.bo) a λa=>ret a H) (ret (.bool false) H)) (ret (.bool false) H)) (ret (.bool false) H)) (ret (.bool false) H)) (ret (.bool false) H))):=by kernel_rfl
theorem f75{R:aM}{h i:aO}{j:D}{H:DH}:aA R 75 [.row 5 h,.row 5 i,j] H =
 cond ((h.length:Int) !=(i.length:Int)) (ret (.bool false) H) (ae R 75 200004 [.g (.row 5 i),.g j,.g (.row 5 h),.n h.length,.n 0] [] H):=by kernel_rfl
theorem AH{R:aM}{q:aO}{r:D}{a:aO}{b c:Int}{H:DH}:aV R 75 200004 [.g (.row 5 q),.g r,.g (.row 5 a),.n b,.n c] [] H =
 cond (decide (c<b)) (dV c λd=>bZ a d λd=>af d 0 λe=>af d 1 λf=>af d 2 λg=>af d 3 λh=>af d 4 λd=>dV c λi=>bZ q i λi=>af i 0 λj=>af i 1 λk=>af i 2 λl=>af i 3 λm=>af i 4 λi=>jC bV r λn o p=>C R n (o++([.agg [e,f,g,h,d],.agg [j,k,l,m,i]]++p)) H λd H=>ib .not d λd=>brD d (ret (.bool false) H) (ae R 75 200004 [.g (.row 5 q),.g r,.g (.row 5 a),.n b,.n (di (c+1))] [] H)) (ret (.bool true) H):=by kernel_rfl
theorem ahO{R:aM}{h:aO}{i:D}{H:DH}:aA R 125 [.row 3 h,i] H =
 ae R 125 200002 [.g (.row 3 h),.g i,.n h.length,.n 0] [] H:=by kernel_rfl
theorem wJ{R:aM}{j:aO}{p:D}{q h:Int}{H:DH}:aV R 125 200002 [.g (.row 3 j),.g p,.n q,.n h] [] H =
 cond (decide (h<q)) (dV h λa=>bZ j a λa=>af a 0 λb=>af a 1 λc=>af a 2 λa=>jC bV p λd e f=>C R d (e++([.agg [b,c,a]]++f)) H λa H=>brD a (ret (.i h) H) (ae R 125 200002 [.g (.row 3 j),.g p,.n q,.n (di (h+1))] [] H)) (ret (.i (-1)) H):=by kernel_rfl
theorem ahT{R:aM}{g:Mc}{a:Bool}{b h:Int}{H:DH}:aA R 120 [.agg (fv g),.agg [.bool a,.i b],.i h] H =
 cond (!a) (ret (.bool true) H) (cond (decide (b>=0)) (cond (decide (b<h)) (dV b λa=>bZ (g.ce.map gE) a λa=>af a 0 λa=>aC ab .eql 3 true a (.i 1) λa=>brD a (ret (.bool true) H) (dV b λa=>bZ (g.ce.map gE) a λa=>af a 0 λa=>aC ab .eql 3 true a (.i 2) λa=>ret a H)) (ret (.bool false) H)) (ret (.bool false) H)):=by kernel_rfl
theorem ahS{R:aM}{h:Mc}{g j:Int}{H:DH}:aA R 121 [.agg (fv h),.i g,.i j] H =
 cond (g==(-1)) (ret (.bool true) H) (cond (decide (g>=0)) (cond (decide (g<j)) (dV g λa=>bZ (h.ce.map gE) a λa=>af a 0 λa=>aC ab .eql 3 true a (.i 3) λa=>ret a H) (ret (.bool false) H)) (ret (.bool false) H)):=by kernel_rfl
theorem ahV{R:aM}{g:aO}{h:D}{H:DH}:aA R 118 [.row 2 g,h] H =
 C R 168 [.row 2 g,h] H λa H=>aC ab .geq 3 true a (.i 0) λa=>ret a H:=by kernel_rfl
def kd(m:Mc)(i:Int):Int:=match m.ce[i.toNat]? with
 |some c=>c.k
 |none=>0
theorem yj(m:Mc){i:Int}(h0:0<=i)(h1:i<m.ce.length):∃ c,m.ce[i.toNat]? = some c/\kd m i=c.k:=by
 have:i.toNat<m.ce.length:=by omega
 refine⟨_,abg this,?_⟩;rw[kd,abg this]
theorem XM{m:Mc}{i:Int}{c:Ce}(h0:0<=i)(h:m.ce[i.toNat]? = some c)(κ:List D->ai):dV i (λj=>bZ (m.ce.map gE) j κ)=κ (gE c):=by obtain⟨n,rfl⟩:=aiV h0;rw[aio]at h;rw[bS,aD (by rw[afd,h];rfl)]
def fF(m:Mc)(n b:Int):Bool:=n==-1||(decide (n>=0)&&(decide (n<b)&&kd m n==3))
theorem Sn(m:Mc)(n b:Int)(hb:b<=m.ce.length)(H:DH):aq 121 [.agg (fv m),.i n,.i b] H=ret (.bool (fF m n b)) H:=by
 refine ev (ahS) ?_;rw[fF];cases n==-1 with
 |true=>rfl
 |false =>
  cases g:decide (n>=0)with
  |false=>rfl
  |true =>
   cases h:decide (n<b)with
   |false=>rfl
   |true =>have j:=agj g;have g3:=agj h;obtain⟨c,hc,hk⟩:=yj m j (by omega);simp_all[XM,gE,aj,ba,afz]
def dA(m:Mc)(r:Re)(b:Int):Bool:=!r.c||(decide (r.n>=0)&&(decide (r.n<b)&&(kd m r.n==1||kd m r.n==2)))
theorem GQ(m:Mc)(r:Re)(b:Int)(hb:b<=m.ce.length)(H:DH):aq 120 [.agg (fv m),.agg [.bool r.c,.i r.n],.i b] H=ret (.bool (dA m r b)) H:=by
 obtain⟨rc,n⟩:=r;refine ev (ahT) ?_;rw[dA];cases rc with
 |false=>rfl
 |true =>
  simp only[aep,SE,ajj];cases h:decide (n>=0)with
  |false=>rfl
  |true =>
   cases j:decide (n<b)with
   |false=>rfl
   |true =>
    have g:=agj h;have g3:=agj j;obtain⟨c,hc,hk⟩:=yj m g (by omega);simp only[ge,XM g hc,gE,aj,ba,hk,ax,afz]
    grind
theorem abQ(l:List Re)(pre:List Re)(r:Re)(suf:List Re)(e:l=pre++r::suf):(l.map im)[pre.length]? = some [.bool r.c,.i r.n]:=by rw[e,cT];rfl
theorem aeG(l:List Ce)(pre:List Ce)(c:Ce)(suf:List Ce)(e:l=pre++c::suf):(l.map gE)[pre.length]? = some (gE c):=by rw[e,cT]
def tL{α:Type}(p:α->Bool):Nat->List α->Int
 |_,[]=>-1
 |n,x::r=>bif p x then(n:Int)else tL p (n+1) r
theorem vh{α:Type}(p:α->Bool):∀(l:List α) (n:Nat),decide (tL p n l>=0)=l.any p
 |[],_=>rfl
 |x::r,n=>by
  rw[tL,List.any_cons];cases p x with
  |true=>rw[ge,Bool.true_or];exact abt (by omega)
  |false=>rw[SE,ajj];exact vh p r (n+1)
theorem Hw(g:FuncId)(cap:List D)(h:aQ bV g=true)(p:Re->Bool)(H:DH)(l:List Re)(hp:∀ r∈l,aq g (.agg [.bool r.c,.i r.n]::cap) H=ret (.bool (p r)) H)(hl:l.length<2^61):∀ suf pre,l=pre++suf ->
 ae aB 168 200002 [.g (.row 2 (l.map im)),.g (.func g [] cap),.n l.length,.n (pre.length:Nat)] [] H=ret (.i (tL p pre.length suf)) H
 |[],pre,e=>by
  refine cj (wC) ?_;have:l.length=pre.length:=by rw[e];simp
  rw[mK,this,abl (aiK _),SE];rfl
 |r::suf,pre,e=>by
  have hi:pre.length<l.length:=by rw[e];simp
  have ih:=Hw g cap h p H l hp hl suf (pre++[r]) (by rw[e];simp);simp only[aaY,abc]at ih;refine cj (wC) ?_;rw[mK,abt hi,ge];simp only[bS,aD (abQ l pre r suf e),aj,au,dX h,afn,agp,av (hp r (by rw[e];simp)),ax,aX (show pre.length<2^62 by omega),ih]
  grind [tL]
theorem IG(g:FuncId)(cap:List D)(j:aQ bV g=true)(p:Re->Bool)(H:DH)(l:List Re)(hp:∀ r∈l,aq g (.agg [.bool r.c,.i r.n]::cap) H=ret (.bool (p r)) H)(hl:l.length<2^61) :
 aq 118 [.row 2 (l.map im),.func g [] cap] H=ret (.bool (l.any p)) H:=by
 have h:aq 168 [.row 2 (l.map im),.func g [] cap] H=ret (.i (tL p 0 l)) H:=by refine ev (ahs) ?_;rw[abe];exact Hw g cap j p H l hp hl l [] rfl
 refine ev (ahV) ?_;simp only[av h,cM,vh]
theorem MC(g:FuncId)(cap:List D)(j:aQ bV g=true)(p:Fm->Bool)(H:DH)(l:List Fm)(hp:∀ r∈l,aq g (.agg (gj r)::cap) H=ret (.bool (p r)) H)(hl:l.length<2^61):∀ suf pre,l=pre++suf ->
 ae aB 125 200002 [.g (.row 3 (l.map gj)),.g (.func g [] cap),.n l.length,.n (pre.length:Nat)] [] H=ret (.i (tL p pre.length suf)) H
 |[],pre,e=>by
  refine cj (wJ) ?_;have:l.length=pre.length:=by rw[e];simp
  rw[mK,this,abl (aiK _),SE];rfl
 |r::suf,pre,e=>by
  have hi:pre.length<l.length:=by rw[e];simp
  have ih:=MC g cap j p H l hp hl suf (pre++[r]) (by rw[e];simp);have h:(l.map gj)[pre.length]? = some (gj r):=by rw[e,cT]
  have hq:=hp r (by rw[e];simp);simp only[aaY,abc]at ih;refine cj (wJ) ?_;rw[mK,abt hi,ge];simp only[gj]at h hq;simp only[bS,aD h,aj,au,dX j,afn,agp,av hq,ax,aX (show pre.length<2^62 by omega),ih]
  grind [tL]
theorem Wd(g:FuncId)(cap:List D)(j:aQ bV g=true)(p:Fm->Bool)(H:DH)(l:List Fm)(hp:∀ r∈l,aq g (.agg (gj r)::cap) H=ret (.bool (p r)) H)(hl:l.length<2^61) :
 aq 80 [.row 3 (l.map gj),.func g [] cap] H=ret (.bool (l.any p)) H:=by
 have h:aq 125 [.row 3 (l.map gj),.func g [] cap] H=ret (.i (tL p 0 l)) H:=by refine ev (ahO) ?_;rw[abe];exact MC g cap j p H l hp hl l [] rfl
 refine ev (f80) ?_;simp only[av h,cM,vh]
theorem aaF(m:Mc)(i:Int)(hi:i<=m.ce.length)(H:DH)(a b sa sb:Nat)(g:H[a]? = some (.cells sa (fv m)))(hb:H[b]? = some (.cells sb [.i i]))(r:Re) :
 aq 119 [.agg [.bool r.c,.i r.n],.ptr a 0,.ptr b 0] H=ret (.bool (!dA m r i)) H:=by
 refine ev (ahU) ?_;simp only[ac g,ac hb,aj,au,av (GQ m r i hi H),aP]
theorem pC(l:aO)(H:DH)(κ:D->ai):aS ab 28 (.row 5 l) H κ=κ (.i l.length):=by kernel_rfl
theorem aaE(m:Mc)(H:DH)(a sa:Nat)(g:H[a]? = some (.cells sa (fv m)))(r:Re) :
 aq 126 [.agg [.bool r.c,.i r.n],.ptr a 0] H=ret (.bool (!dA m r m.ce.length)) H:=by
 refine ev (ahN) ?_;simp only[ac g,aj,au,pC,abe,av (GQ m r m.ce.length (ajd _) H),aP]
structure Fn where
 e:Ex
 d:Int
 f:Int
 p:ak
 fn:Bool
 sz:Int
 par:ak
def fnC(x:Fn):List D:=match x.e with
 |.mk k m n a xs ps=>[.i k,.i m,.str n,.str a,.row 6 (cw xs),.row 3 (bQ ps),.i x.d,.i x.f,.row 1 (nC x.p),.bool x.fn,.i x.sz,.str x.par]
mutual
def lu(d f:Int)(fn:Bool)(p par:ak):Ex->List Fn
 |.mk k m n a xs ps=>⟨.mk k m n a xs ps,d,f,p,fn,oK (.mk k m n a xs ps),par⟩::gU d f fn p k a 0 xs
def gU(d f:Int)(fn:Bool)(p:ak)(k:Int)(a:ak)(i:Nat):List Ex->List Fn
 |[]=>[]
 |x::r=>lu d f fn (p++[i]) (if i=0/\(k=5\/k=7)then a else []) x++gU d f fn p k a (i+1) r
end
mutual
theorem Dx(d f:Int)(fn:Bool):∀(e:Ex) (p par:ak),(lu d f fn p par e).length=oK e
 |.mk k m n a xs ps,p,par=>by rw[lu,aeg,An d f fn xs,oK];omega
theorem An(d f:Int)(fn:Bool):∀(l:List Ex) (p:ak) (k:Int) (a:ak) (i:Nat),(gU d f fn p k a i l).length=gg l
 |[],_,_,_,_=>by simp[gU,gg]
 |x::r,p,k,a,i=>by rw[gU,aaY,Dx d f fn x,An d f fn r,gg]
end
theorem NC{H X:DH}{B:DB}{d:D}{o:Nat}(j:d.bel H.length)(hB:B.bel H.length):aY H (ret d (H.set o B++X))=ret d (H.set o B):=by
 have h:ol H ⟨.ret d,none,H.set o B++X⟩:=⟨j,rfl,by simp,λi x hi g=>by
  simp only at g;rw[abo (by rw[afy];exact hi)]at g;by_cases q:o=i
  .subst q;rw[List.getElem?_set_self hi]at g;cases g;exact .inr hB
  .rw[afA q]at g;exact .inl g⟩
 simp_all[aY]
theorem acM(l:aO)(H:DH)(κ:D->ai):aS ab 45 (.row 6 l) H κ=κ (.i l.length):=by kernel_rfl
theorem ce6(a b c d e f:D)(κ:List D->ai):ah 6 (.agg [a,b,c,d,e,f]) κ=κ [a,b,c,d,e,f]:=rfl
structure Bd where
 i:Nat
 j:Nat
 n:ak
 fn:Bool
 par:ak
 e:Ex
def KS(i:Nat):Nat->List Fu->List Bd
 |_,[]=>[]
 |j,f::r=>⟨i,j,f.n,true,f.a,f.b⟩::KS i (j+1) r
def XP(i:Nat)(d:De):List Bd:=if d.k=3 then KS i 0 d.fs else if d.k=4\/d.k=5 then [⟨i,0,d.n,false,[],d.b⟩] else []
def Bz:Nat->List De->List Bd
 |_,[]=>[]
 |i,d::r=>XP i d++Bz (i+1) r
theorem IA(i:Nat):∀(l:List Fu) (j:Nat),(KS i j l).length=l.length
 |[],_=>rfl
 |f::r,j=>by simp[KS,IA i r]
theorem VZ(i:Nat)(d:De):(XP i d).length=Gr d:=by grind [XP,Gr,IA]
theorem Xw(cs:List D)(n k:Nat)(κ:D->ai):ct (.eptr cs n) k κ=κ (.eptr cs (n+k)):=rfl
end
section
structure Rf where
 ds:List De
 ns:List Fn
 fs:List (List Nat×Nat)
 nm:List ak
 dn:ak
 rs:List (List Nat×Nat×Nat×Bool)
def Gq(x:ak×Nat):List D:=[.i 2,.str x.1,.i x.2,.nilrow,.i (-1)]
def rrC(x:ak×Nat×Nat×Bool):List D:=[.str x.1,.i x.2.1,.i x.2.2.1,.bool x.2.2.2]
def RL(n st:Nat)(G:Rf):DH:=[.buf 12 true false (G.ns.map fnC),.buf 5 true false (G.fs.map Gq),.buf 1 true false (G.nm.map lW),.buf 1 true false (nC G.dn),.buf 4 true false (G.rs.map rrC),
 .cells st [.row 14 (G.ds.map ed),.buf 12 n G.ns.length,.buf 5 (n+1) G.fs.length,.buf 1 (n+2) G.nm.length,.buf 1 (n+3) G.dn.length,.buf 4 (n+4) G.rs.length]]
section
variable(H0:DH)(st:Nat)(G:Rf)
end
def Rf.addB(G:Rf)(x:Bd):Rf:={ G with ns:=G.ns++lu (x.i:Nat) (x.j:Nat) x.fn [] x.par x.e }
end
section
theorem LF{m:Nat}(h:m<=100000):aF ab 112 m=true:=iM (b:=64) (by kernel_rfl) (by decide) h
theorem LC{m:Nat}(h:m<=100000):aF ab 9 m=true:=iM (b:=16) (by kernel_rfl) (by decide) h
theorem adz(l:aO)(i:Nat)(κ:D->ai):ay ab 22 (.row 14 l) (.i i) κ=bZ l i λcs=>κ (.eptr cs 0):=by kernel_rfl
theorem agu(cs:List D)(n:Nat)(H:DH)(κ:D->ai):bW ab 3 (.eptr cs n) H κ=af cs n κ:=by kernel_rfl
variable(H0:DH)(st:Nat)(G:Rf)
def adr(l:List De)(i:Nat):Bool:=match l[i]? with|some d=>d.k==5|none=>false
def Rf.addH(G:Rf)(x:Bd):Rf:=if x.fn then { G with fs:=G.fs++[(x.par,G.ns.length)],nm:=G.nm++[x.n],dn:=G.dn++[x.i] } else { G with rs:=G.rs++[(x.n,x.i,G.ns.length,adr G.ds x.i)] }
theorem Np{ok:Nat->Bool}{sz o n:Nat}{l:aO}{e:List D}{H:DH}{κ:D->DH->ai}(h:H[o]? = some (.buf sz true false l))(g:l.length=n)(i:ok 1=true)(j:ok (n+1)=true) :
 bX ok sz (.buf sz o n) [e] H κ=κ (.buf sz o (n+1)) (H.set o (.buf sz true false (l++[e]))):=by subst g;exact kE h i j
end
section
def Rf.addXs(G:Rf):List Bd->Rf
 |[]=>G
 |x::r=>((G.addH x).addB x).addXs r
theorem Wv(G:Rf)(x:Bd):((G.addH x).addB x).ds=G.ds/\(G.addH x).ds=G.ds/\(G.addH x).ns=G.ns/\((G.addH x).addB x).ns.length=G.ns.length+oK x.e/\((G.addH x).addB x).fs.length<=G.fs.length+1/\((G.addH x).addB x).nm.length<=G.nm.length+1/\((G.addH x).addB x).dn.length<=G.dn.length+1/\((G.addH x).addB x).rs.length<=G.rs.length+1:=by grind [Rf.addB,Rf.addH,Dx]
def Tn(l:List De):Rf:=(⟨l,[],[],[],[],[]⟩:Rf).addXs (Bz 0 l)
theorem Iz(i:Nat):∀(l:List Fu) (j:Nat) (x:Bd),x∈KS i j l->x.i=i/\∃ f∈l,x.e=f.b
 |[],_,_,h=>by cases h
 |f::r,j,x,h=>by
  rw[KS,abn]at h;rcases h with rfl|h
  .grind
  .obtain⟨h1,g,hg,h2⟩:=Iz i r (j+1) x h
   grind
theorem VY(i:Nat)(d:De)(g:d.ok)(x:Bd)(h:x∈XP i d):x.i=i/\x.e.ok:=by
 unfold XP at h;obtain⟨_,_,_,h4,h5⟩:=g
 grind [Iz]
theorem IB:∀(l:List De) (i:Nat),(∀ d∈l,d.ok)->∀ x∈Bz i l,x.i<i+l.length/\x.e.ok
 |[],_,_,_,h=>by cases h
 |d::r,i,g,x,h=>by
  rw[Bz,aeS]at h;rw[aeg];rcases h with h|h
  .grind [VY,List.mem_cons_self]
  .obtain⟨h1,h2⟩:=IB r (i+1) (λy hy=>g y (abi _ hy)) x h
   grind
theorem IC:∀(l:List De) (i:Nat),(Bz i l).length=qO l
 |[],_=>rfl
 |d::r,i=>by rw[Bz,aaY,VZ,IC r,qO]
structure dF(H:DH)(n:Nat)(G:Pg):Prop where
 o:∃ st,H[n+5]? = some (.cells st [.row 14 (G.ds.map ed),.buf 11 (n+1) G.ns.length,.buf 7 (n+2) G.bs.length,.buf 1 (n+3) G.rs.length,.buf 1 (n+4) G.cs.length,.map n])
 m:H[n]? = some (.map (mC G.m))
 ns:H[n+1]? = some (.buf 11 true false (G.ns.map jw))
 bs:H[n+2]? = some (.buf 7 true false (G.bs.map lJ))
 rs:∃ b,H[n+3]? = some (.buf 1 b false (nC G.rs))
 cs:H[n+4]? = some (.buf 1 true false (nC G.cs))
theorem eV{H:DH}{o:Nat}{b:DB}(X:DH)(h:H[o]? = some b):(H++X)[o]? = some b:=SL X h
theorem dF.app{H:DH}{n:Nat}{G:Pg}(h:dF H n G)(X:DH):dF (H++X) n G:=by obtain⟨⟨st,h0⟩,g,i,j,⟨b,p⟩,q⟩:=h;exact⟨⟨st,eV X h0⟩,eV X g,eV X i,eV X j,⟨b,eV X p⟩,eV X q⟩
theorem Ul(H:DH)(st:Nat)(G:Pg):dF (PX H st G []) H.length G :=
 ⟨⟨st,wZ H st G []⟩,Ug H st G [],Uf H st G [],Ui H st G [],⟨true,YJ H st G []⟩,Uh H st G []⟩
theorem Rt(s o n:Nat)(H:DH)(κ:D->ai):aS ab 40 (.buf s o n) H κ=κ (.i (n:Int)):=by kernel_rfl
def oz(m:Mc)(nodes runs:Nat):Bool :=
 bif m.mo==1 then decide (m.ex>=0)&&(decide (m.ex<(nodes:Int))&&(fF m m.en m.ce.length&&((m.vc==false&&m.vn==0)&&(decide (m.bo>=0)&&decide (m.bo<(runs:Int))))))
 else bif m.mo==2 then m.ex==0&&(m.en==-1&&(dA m ⟨m.vc,m.vn⟩ m.ce.length&&(decide (m.bo>=0)&&decide (m.bo<(runs:Int)))))
 else bif m.mo==3 then m.ex==0&&(m.en==-1&&((m.vc==false&&m.vn==0)&&((m.fr.length:Int)==0&&m.bo==(runs:Int))))else false
theorem Zh(m:Mc){H:DH}{n:Nat}{G:Pg}(h:dF H n G):aq 78 [.ptr (n+5) 0,.agg (fv m)] H=ret (.bool (oz m G.ns.length G.rs.length)) H:=by obtain⟨st,h0⟩:=h.o;refine ev (f78) ?_;have e:=Sn m m.en m.ce.length (ajd _) H;have r:=GQ m ⟨m.vc,m.vn⟩ m.ce.length (ajd _) H;simp only[abe,aG e,aG r,ac h0,aj,au,Mr,Rt,cE,ba,ax,cY,afM,oz]
theorem yo{α:Type}(p:α->Bool):∀ l:List α,(!(l.any λr=>!p r))=l.all p
 |[]=>rfl
 |x::r=>by rw[List.any_cons,akc,Bool.not_or,yo p r,Bool.not_not]
def Sr(e:Ex)(n:Nat):Bool:=match e with
 |.mk k _ _ _ xs _=>bif k==6||k==8 then(n:Int)==0 else bif k==3||(k==4||k==9)then decide ((n:Int)<(xs.length:Int))else false
def nO(m:Mc)(es:List Ex)(f:Fm):Bool:=bif decide (f.ex<0)then false else match es[f.ex.toNat]? with
 |none=>false
 |some e=>fF m f.en m.ce.length&&(f.dn.all (λr=>dA m r m.ce.length)&&Sr e f.dn.length)
theorem agB(m:Mc)(H:DH)(a s:Nat)(i:H[a]? = some (.cells s (fv m)))(f:Fm)(j:f.dn.length<2^61)(v:Int) :
 ae aB 82 13 [.g (.ptr a 0),.lp 0 0,.n v] [(0,gj f)] H=ret (.bool (decide ((f.dn.length:Int)<=v)&&f.dn.all λr=>dA m r m.ce.length)) H:=by
 refine cj (aah) ?_;have p:aQ bV 126=true:=by kernel_rfl
 have h:=IG 126 [.ptr a 0] p (λr=>!dA m r m.ce.length) H f.dn (λr _=>aaE m H a s i r) j;simp only[abe,av h,aP,yo,cY,afM]
theorem hU{α:Type}{H:DH}{o sz:Nat}{st cap:Bool}{f:α->List D}{l:List α}{κ:Nat->Bool->Bool->aO->ai}(h:H[o]? = some (.buf sz st cap (l.map f))):dl H o l.length κ=κ sz st cap (l.map f):=by grind [cD,List.length_map]
theorem eC{α:Type}{f:α->List D}{l:List α}{i:Nat}{x:α}(h:l[i]? = some x)(κ:List D->ai):bZ (l.map f) i κ=κ (f x):=aD (by rw[afd,h];rfl)
theorem Vo(m:Mc){H:DH}{n:Nat}{G:Pg}(h:dF H n G)(f:Fm)(t:f.dn.length<2^61)(u:∀ x∈G.ns,x.e.ok):aq 82 [.ptr (n+5) 0,.agg (fv m),.agg (gj f)] H=ret (.bool (nO m (G.ns.map (·.e)) f)) H:=by
 refine ev (f82) ?_;refine(aib (aY H) ?_).trans (Ef _ H [.cells 0 (fv m)]);have hA:=h.app [.cells 0 (fv m)];obtain⟨st,h0⟩:=hA.o;have hm:(H++[DB.cells 0 (fv m)])[H.length]? = some (.cells 0 (fv m)):=aZ _ _;generalize hH:H++[DB.cells 0 (fv m)]=H1 at *;rw[nO];cases r:decide (f.ex<0)with
 |true=>rfl
 |false =>
  have g0:0<=f.ex:=by have:=akd r;omega
  obtain⟨i,hi⟩:=aiV g0;simp only[SE,ac h0,aj,au,Mr,cM,ax,hi,aio];by_cases g:i<G.ns.length
  .rw[abl (show ¬((i:Int)>=(G.ns.length:Int))by omega),SE];have p:G.ns[i]? = some G.ns[i]:=abg g;have q:=u _ (ajx g);rw[show(G.ns.map (·.e))[i]? = some G.ns[i].e by rw[afd,p];rfl];generalize G.ns[i]=x at p q;have e:=Sn m f.en m.ce.length (ajd _) H1;have j (v:Int):=agB m H1 H.length 0 hm f t v;simp only[gj,hi]at j;obtain⟨⟨k,mm,nm,ag,xs,ps⟩,xd,xf,xp,xb,xr⟩:=x;rw[Ex.ok]at q;have w:di ((xs.length:Int) - 1)=(xs.length:Int) - 1:=mM (by omega) (by have:=q.1;omega);have y:decide ((f.dn.length:Int)<=(xs.length:Int) - 1)=decide ((f.dn.length:Int)<(xs.length:Int)):=ajy.2 (by omega);have z:decide ((f.dn.length:Int)<=0)=((f.dn.length:Int)==0):=by rw[afw];simp
   simp only[ac hm,aj,au,pC,abe,aG e,aP,ax];cases fF m f.en m.ce.length with
   |false=>rfl
   |true =>
    simp only[aep,SE,ac h0,aj,au,Zz,rC g,boK,ge,acP,hU hA.ns,eC p,jw,acW,aaJ,YS,acM,fJ,qH,ba,ax,j,w,y,z,cY,Sr,afz]
    grind
  grind
theorem Gv(b:Bool)(H:DH)(x y:DB):aY H (ret (.bool b) (H++[x]++[y]))=ret (.bool b) H:=by rw[aft];exact Ef _ _ _
theorem adw(l:aO)(i:Nat)(κ:D->ai):ay ab 28 (.row 5 l) (.i i) κ=bZ l i λcs=>κ (.eptr cs 0):=by kernel_rfl
theorem acV(a b c d e:D)(H:DH)(κ:D->ai):bW ab 112 (.eptr [a,b,c,d,e] 0) H κ=κ (.agg [a,b,c,d,e]):=by kernel_rfl
theorem aeI(a b c d e:D)(κ:List D->ai):ah 5 (.agg [a,b,c,d,e]) κ=κ [a,b,c,d,e]:=rfl
theorem Qw(g h i j p a b c d e:D)(κ:List D->ai):aw [g,h,i,j,p] 0 [a,b,c,d,e] κ=κ [a,b,c,d,e]:=rfl
theorem JZ(l:aO)(H:DH)(κ:D->ai):aS ab 37 (.row 2 l) H κ=κ (.i l.length):=by kernel_rfl
theorem adB(x:List D)(l:aO)(κ:D->ai):ay ab 37 (.row 2 (x::l)) (.i 0) κ=κ (.eptr x 0):=by kernel_rfl
theorem agv(a b:D)(H:DH)(κ:D->ai):bW ab 26 (.eptr [a,b] 0) H κ=κ (.agg [a,b]):=by kernel_rfl
theorem acU(cs:List D)(n:Nat)(H:DH)(κ:D->ai):bW ab 3 (.eptr cs n) H κ=af cs n κ:=by kernel_rfl
theorem aeQ(a c:Bool)(b d:Int)(κ:D->ai):aC ab .eql 26 false (.agg [.bool a,.i b]) (.agg [.bool c,.i d]) κ=κ (.bool ((a==c)&&(b==d))):=by kernel_rfl
theorem WR(a b w:D)(κ:List D->ai):aw [a,b] 1 [w] κ=κ [a,w]:=rfl
theorem mD(n:Int)(κ:List D->ai):ah 1 (.i n) κ=κ [.i n]:=rfl
def zK:List (Nat×ak)->Int->Option ak
 |[],_=>none
 |(k,a)::r,n=>bif n==(k:Int)then some a else zK r n
theorem QY(n:Int):∀ l:List (Nat×ak),Cf (.i n) (mC l)=some ((zK l n).map D.str)
 |[]=>rfl
 |(k,a)::r=>by have ih:=QY n r;simp only[mC]at ih;simp only[mC,acg,Cf,tH,ih,zK];cases n==(k:Int)<;>rfl
theorem Zq{H:DH}{o:Nat}{l:List (Nat×ak)}(h:H[o]? = some (.map (mC l)))(n:Int)(κ:D->ai):ip ab 89 (.map o) (.i n) true H κ=match zK l n with
 |some a=>κ (.tuple [.str a,.bool true])
 |none=>κ (.tuple [.str [],.bool false]):=by
 have e:ip ab 89 (.map o) (.i n) true H κ=ig H o λes=>py (.i n) es λr=>iE ab 9 true r κ:=by kernel_rfl
 have g:iE ab 9 true none κ=κ (.tuple [.str [],.bool false]):=by kernel_rfl
 rw[e,fT h,py,QY];cases zK l n with
 |none=>exact g
 |some a=>rfl
def nxt(m:Mc)(i:Nat):Int:=match m.ce[i]? with
 |some c=>c.nx
 |none=>0
def Qg(m:Mc)(i:Nat)(l:List Re):Bool:=match l with
 |[r]=>bif r.c&&r.n==((i+1:Nat):Int)then decide (((i+1:Nat):Int)<(m.ce.length:Int))&&(kd m ((i+1:Nat):Int)==2&&nxt m (i+1)==(i:Int))else dA m r i
 |_=>false
def ui(m:Mc)(mp:List (Nat×ak))(i:Nat)(c:Ce):Bool :=
 bif c.k==1 then(c.con==[44]||bY c.con==3)&&(decide ((c.refs.length:Int)<=16)&&(c.n==0&&(c.nx==-1&&c.refs.all λr=>dA m r i)))
 else bif c.k==2 then(match zK mp c.n with
  |none=>false
  |some a=>bY c.con==2&&(a==c.con&&((c.refs.length:Int)==0&&fF m c.nx i)))
 else bif c.k==3 then bY c.con==2&&(c.n==0&&((c.refs.length:Int)==1&&(fF m c.nx i&&Qg m i c.refs)))else false
theorem RI(m:Mc){H:DH}{n:Nat}{G:Pg}(h:dF H n G)(i:Nat)(c:Ce)(hc:m.ce[i]? = some c)(hl:m.ce.length<2^61)(hr:c.refs.length<2^61):aq 77 [.ptr (n+5) 0,.agg (fv m),.i i] H=ret (.bool (ui m G.m i c)) H:=by
 have hi:i<m.ce.length:=(abj.1 hc).1;refine ev (f77) ?_;refine(aib (aY H) ?_).trans (Gv _ H (.cells 0 (fv m)) (.cells 0 [.i i]));dsimp only;have hA:=(h.app [.cells 0 (fv m)]).app [.cells 0 [.i i]];obtain⟨st,h0⟩:=hA.o;have p:(H++[DB.cells 0 (fv m)]++[jh i])[H.length]? = some (.cells 0 (fv m)):=eV _ (aZ _ _);have hb:(H++[DB.cells 0 (fv m)]++[jh i])[(H++[DB.cells 0 (fv m)]).length]? = some (.cells 0 [.i i]):=aZ _ _;generalize(H++[DB.cells 0 (fv m)]).length=v at *;generalize hH:H++[DB.cells 0 (fv m)]++[jh i]=H2 at *;have z:aQ bV 119=true:=by kernel_rfl
 have j:=IG 119 [.ptr H.length 0,.ptr v 0] z (λr=>!dA m r i) H2 c.refs (λr _=>aaF m i (by omega) H2 H.length v 0 0 p hb r) hr;have e:=Sn m c.nx i (by omega) H2;have w:=nK kOk c.con H2;have q:=pE kOk c.con H2;obtain⟨ck,con,cn,refs,nx⟩:=c;simp only at j e w q hr;rw[ui];simp only[ac p,ac hb,aj,au,adw,eC hc,gE,acV,aeI,Qw,ba,ax];cases h1:ck==1 with
 |true =>
  simp only[ge,ff,ax,JZ,abe,FZ,ba,av j,av w,aP,yo,cY,afM]
  grind
 |false =>
  simp only[SE];cases h2:ck==2 with
  |true =>
   simp only[ge,ac h0,aj,au,Zq hA.m];cases zK G.m cn with
   |none=>rfl
   |some a =>simp only[dB,aj,au,ax,ge,av q,ff,JZ,abe,ba,ac p,ac hb,av e,cY,afM]
  |false =>
   simp only[SE];cases h3:ck==3 with
   |false=>rfl
   |true =>
    simp only[ge,av q,aP,ax,JZ,abe,bE];cases hk:bY con==2 with
    |false=>rfl
    |true =>
     simp only[aep,SE,afz];cases y:cn==0 with
     |false=>simp only[bne,y,aeH,ge,aeo]
     |true =>
      simp only[bne,y,aep,SE,afz];match refs,hr with
      |[],_=>rfl
      |r::s::t,_ =>grind
      |[r],_ =>
       simp only[abc,acg,List.map_nil,ac p,ac hb,aj,au,av e,aP,ax];cases fF m nx i with
       |false=>rfl
       |true =>
        have A:di ((i:Int)+1)=((i+1:Nat):Int):=aX (by omega);have hq:=GQ m r i (by omega) H2;simp only[im,aep,SE,afz,adB,agv,bJ,A,mD,WR,aeQ,ax,pC,abe,cE,Qg,aiJ,beq_true];rw[show(((1:Nat):Int)==1)=true from rfl];simp only[aep,SE,afz,aG hq];cases r.c&&r.n==((i+1:Nat):Int)with
        |false=>rfl
        |true =>
         by_cases u:i+1<m.ce.length
         .rw[abt (show((i+1:Nat):Int)<(m.ce.length:Int)by omega)];have g:m.ce[i+1]? = some m.ce[i+1]:=abg u;generalize m.ce[i+1]=c2 at g;have B:kd m ((i+1:Nat):Int)=c2.k:=by rw[kd,aio,g]
          have E:nxt m (i+1)=c2.nx:=by rw[nxt,g]
          simp only[ge,adw,eC g,Xw,adO,acU,gE,aj,au,ba,ax,B,E,afz,cY,afM]
         grind
mutual
def oI:Va->Nat
 |.mk _ _ xs=>1+lG xs
def lG:List Va->Nat
 |[]=>0
 |v::r=>oI v+lG r
end
def Xt(con:ak)(n:Int)(len:Nat):Bool:=bif con==[] then(len:Int)==0 else n==0&&(bif con==[44] then decide ((len:Int)>=2)&&decide ((len:Int)<=4)else bY con==3&&decide ((len:Int)<=16))
mutual
def fmV:Va->Bool
 |.mk c n xs=>HE xs&&Xt c n xs.length
def HE:List Va->Bool
 |[]=>true
 |v::r=>fmV v&&HE r
end
mutual
def Va.ok:Va->Prop
 |.mk _ _ xs=>xs.length<2^61/\Va.oks xs
def Va.oks:List Va->Prop
 |[]=>True
 |v::r=>v.ok/\Va.oks r
end
theorem lY:∀ l,fu l=l.map qh
 |[]=>rfl
 |t::r=>by simp[fu,lY r]
theorem gd(l:List Va):(fu l).length=l.length:=by rw[lY,abe]
theorem Ll(pre:List Va)(v:Va)(suf:List Va):(fu (pre++v::suf))[pre.length]? = some (qh v):=by rw[lY,cT]
theorem SA(v:Va):1<=oI v:=by obtain⟨c,n,xs⟩:=v;rw[oI];omega
def Pn(v:Va):Bool:=decide ((oI v:Int)<=4000)&&fmV v
def Ho(H:DH)(o st:Nat)(c:Int):DH:=H.set o (.cells st [.i c])
theorem Ag{H:DH}{o:Nat}(h:o<H.length)(st:Nat)(c:Int):(Ho H o st c)[o]? = some (.cells st [.i c]):=by unfold Ho;rw[List.getElem?_set_self h]
theorem sd(H:DH)(o st st':Nat)(c g:Int):(Ho H o st c).set o (.cells st' [.i g])=Ho H o st' g:=by unfold Ho;rw[afu]
theorem aeD(cs:List D)(c:Nat)(κ:D->ai):kC (.eptr cs c) κ=κ (.eptr cs c):=rfl
theorem agt(cs:List D)(c:Nat)(H:DH)(κ:D->ai):bW ab 71 (.eptr cs c) H κ=af cs c κ:=by kernel_rfl
theorem acS(o c:Nat)(H:DH)(κ:D->ai):bW ab 71 (.ptr o c) H κ=am H o λ_ cs=>af cs c κ:=by kernel_rfl
theorem adu(l:aO)(i:Nat)(κ:D->ai):ay ab 71 (.row 3 l) (.i i) κ=bZ l i λcs=>κ (.eptr cs 0):=by kernel_rfl
theorem Ms(l:aO)(H:DH)(κ:D->ai):aS ab 71 (.row 3 l) H κ=κ (.i l.length):=by kernel_rfl
theorem GW(a w:D)(κ:List D->ai):aw [a] 0 [w] κ=κ [w]:=rfl
def vb(c:Int)(v:Va):Bool:=decide (c+(oI v:Int)<=4000)&&fmV v
def Po(c:Int)(l:List Va):Bool:=decide (c+(lG l:Int)<=4000)&&HE l
theorem Kl(con:ak)(n:Int)(xs:List Va)(c:Int)(h1:c+1<=4000):vb c (.mk con n xs)=(Xt con n xs.length&&Po (c+1) xs):=by grind [vb,Po,fmV,oI]
mutual
theorem abx(H:DH)(o:Nat)(ho:o<H.length):∀(v:Va),v.ok->∀(st:Nat) (c:Int),0<=c->c<=4000->∃(st':Nat) (r:Int),
 aq 169 [.eptr (qh v) 0,.ptr o 0] (Ho H o st c)=ret (.bool (vb c v)) (Ho H o st' r)/\(vb c v=true->r=c+(oI v:Int))
 |.mk con n xs,t,st,c,h0,h1=>by
  rw[Va.ok]at t;have u:di (c+1)=c+1:=mM (by omega) (by omega);by_cases z:c+1>4000
  .refine⟨st+1,c+1,?_,?_⟩
   .rw[qh];refine ev (MK) ?_;simp only[ac (Ag ho _ _),aj,bJ,u,mD,GW,sd,eT,ax]
    grind [vb,oI]
   grind [vb,oI]
  .by_cases j:con=[]/\xs=[]
   .obtain⟨rfl,rfl⟩:=j;refine⟨st+1,c+1,?_,λ_=>by rw[oI,lG];omega⟩;rw[qh];refine ev (MK) ?_;simp only[ac (Ag ho _ _),aj,bJ,u,mD,GW,sd,eT,ax,gd];have t:vb c (.mk [] n [])=true:=by rw[Kl [] n [] c (by omega),Po,lG,HE,abt (by omega)];rfl
    grind
   obtain⟨st',r,hl,hc⟩:=Jh H o ho (.eptr (xV con n (fu xs)) 0) xs t.1 (λs q κ=>by rw[aeD,Xw,agt];rfl) xs [] rfl t.2 (st+1) (c+1) (by omega) (by omega);rw[Kl con n xs c (by omega)];have hk:=nK kOk con (Ho H o (st+1) (c+1));cases i:Xt con n xs.length with
   |true =>
    refine⟨st',r,?_,λh=>by rw[hc (by simpa using h),oI];omega⟩;rw[qh];refine ev (MK) ?_;simp only[ac (Ag ho _ _),aj,bJ,u,mD,GW,sd,eT,ax,gd];rw[abl z,SE,afz];simp only[aiq]at hl;rw[Xt]at i;cases w:con==[]with
    |true =>simp_all
    |false =>
     rw[w,SE,aaV]at i;have p:(n != 0)=false:=by rw[bne,i.1];rfl
     simp only[SE,p];cases y:con==[44]with
     |true =>grind
     |false =>
      rw[y,SE,aaV]at i
      grind [av,aP,Bool.not_true,ax]
   |false =>
    refine⟨st+1,c+1,?_,λh=>by simp at h⟩;rw[qh];refine ev (MK) ?_;simp only[ac (Ag ho _ _),aj,bJ,u,mD,GW,sd,eT,ax,gd];rw[abl z,SE,aeo];rw[Xt]at i;cases w:con==[]with
    |true =>grind
    |false =>
     rw[w,SE]at i;simp only[SE];cases p:n==0 with
     |false=>rw[show(n != 0)=true by rw[bne,p];rfl,ge]
     |true =>
      rw[p,afz]at i;rw[show(n != 0)=false by rw[bne,p];rfl,SE];by_cases g:(xs.length:Int)>16
      .grind
      .rw[abl g,SE];cases y:con==[44]with
       |true =>grind
       |false =>
        rw[y,SE,abt (show(xs.length:Int)<=16 by omega),aiJ]at i
        grind [av,aP,ax]
theorem Jh(H:DH)(o:Nat)(ho:o<H.length)(u:D)(xs:List Va)(hl:xs.length<2^61)
 (i:∀(s:Nat) (q:Int) (κ:D->ai),(kC u λx=>ct x 2 λy=>bW ab 71 y (Ho H o s q) κ)=κ (.row 3 (fu xs))):∀(suf pre:List Va),xs=pre++suf->Va.oks suf->∀(st:Nat) (c:Int),0<=c->c<=4000->∃(st':Nat) (z:Int),
 ae aB 169 200013 [.g u,.g (.ptr o 0),.n xs.length,.n pre.length] [] (Ho H o st c)=ret (.bool (Po c suf)) (Ho H o st' z)/\(Po c suf=true->z=c+(lG suf:Int))
 |[],pre,e,_,st,c,h0,A=>by refine⟨st,c,?_,λ_=>by rw[lG];omega⟩;refine cj (nT) ?_;simp_all[aiK,Po,lG,HE]
 |.mk xc xn xx::suf,pre,e,v,st,c,h0,A=>by
  rw[Va.oks]at v;have hi:pre.length<xs.length:=by rw[e];simp
  have p:(fu xs)[pre.length]? = some (qh (.mk xc xn xx)):=by rw[e];exact Ll _ _ _
  obtain⟨s1,c1,j,w⟩:=abx H o ho (.mk xc xn xx) v.1 st c h0 A;have hpos:=SA (.mk xc xn xx);have hsplit:Po c (.mk xc xn xx::suf)=(vb c (.mk xc xn xx)&&Po (c+(oI (.mk xc xn xx):Int)) suf):=by
   rw[Po,vb,Po,lG,HE]
   rw[show decide (c+((oI (.mk xc xn xx)+lG suf:Nat):Int)<=4000)=(decide (c+(oI (.mk xc xn xx):Int)<=4000)&&decide (c+(oI (.mk xc xn xx):Int)+(lG suf:Int)<=4000))by rw[afw];simp;omega]
   cases decide (c+(oI (.mk xc xn xx):Int)<=4000)<;>cases decide (c+(oI (.mk xc xn xx):Int)+(lG suf:Int)<=4000)<;>cases fmV (.mk xc xn xx)<;>cases HE suf<;>rfl
  rw[hsplit];cases hb:vb c (.mk xc xn xx)with
  |false =>refine⟨s1,c1,?_,λh=>by simp at h⟩;refine cj (nT) ?_;rw[mK,abt hi,ge,i];rw[hb]at j;simp only[adu,aD p,av j,aP,ax,aeH,ge,aeo]
  |true =>
   have r:=w hb;have hle:c+(oI (.mk xc xn xx):Int)<=4000:=by simp_all[vb]
   obtain⟨s2,c2,ih,t⟩:=Jh H o ho u xs hl i suf (pre++[.mk xc xn xx]) (by rw[e];simp) v.2 s1 c1 (by omega) (by omega);rw[r]at ih t;refine⟨s2,c2,?_,λh=>by rw[t (by simpa using h),lG];omega⟩;refine cj (nT) ?_;rw[mK,abt hi,ge,i];rw[hb]at j;simp only[aaY,abc]at ih;simp only[adu,aD p,av j,aP,ax,aep,SE,afz,aX (show pre.length<2^62 by omega),r,ih]
end
theorem adF{H:DH}{o p:Nat}(h:p≠o)(st:Nat)(c:Int):(Ho H o st c)[p]? = H[p]?:=by unfold Ho;rw[afA (aks h)]
theorem abw(H:DH)(o p:Nat)(ho:o<H.length)(v:p≠o)(con:ak)(n:Int)(xs:List Va)(w:(Va.mk con n xs).ok)(hp:H[p]? = some (.cells 0 (xV con n (fu xs))))(st:Nat)(c:Int)(h0:0<=c)(E:c+1<=4000):∃(st':Nat) (y:Int),
 aq 169 [.ptr p 0,.ptr o 0] (Ho H o st c)=ret (.bool (vb c (.mk con n xs))) (Ho H o st' y):=by
 rw[Va.ok]at w;have z:di (c+1)=c+1:=mM (by omega) (by omega);have A:¬(c+1>4000):=by omega
 have hq:∀ st c,(Ho H o st c)[p]? = some (.cells 0 (xV con n (fu xs))):=λst c=>by rw[adF v,hp]
 rw[Kl con n xs c E];by_cases i:con=[]/\xs=[]
 .obtain⟨rfl,rfl⟩:=i;refine⟨st+1,c+1,?_⟩;refine ev (f169) ?_;simp only[ac (Ag ho _ _),ac (hq _ _),aj,au,bJ,z,mD,GW,sd,eT,ff,ba,ax,Ms,gd];rw[abl A,Po,lG,HE,abt (show c+1+((0:Nat):Int)<=4000 by omega)];rfl
 obtain⟨st',y,hl,_⟩:=Jh H o ho (.ptr p 0) xs w.1 (λs q κ=>by rw[mB,ct,acS,ac (hq _ _)];rfl) xs [] rfl w.2 (st+1) (c+1) (by omega) (by omega)
 have hk:=nK kOk con (Ho H o (st+1) (c+1));cases h:Xt con n xs.length with
 |true =>
  refine⟨st',y,?_⟩;refine ev (f169) ?_;simp only[ac (Ag ho _ _),ac (hq _ _),aj,au,bJ,z,mD,GW,sd,eT,cE,ff,mH,ba,bE,ax,Ms,gd];rw[abl A,SE,afz];simp only[aiq]at hl;rw[Xt]at h;cases j:con==[]with
  |true =>
   rw[j,ge]at h;have F:xs=[]:=by simp_all
   exact absurd ⟨eq_of_beq j,F⟩ i
  |false =>
   rw[j,SE,aaV]at h;have r:(n != 0)=false:=by rw[bne,h.1];rfl
   simp only[SE,r];cases t:con==[44]with
   |true =>rw[t,ge,aaV]at h;have u:=agj h.2.1;have B:=agj h.2.2;rw[abl (show ¬((xs.length:Int)>16)by omega),abl (show ¬((xs.length:Int)<2)by omega),abl (show ¬((xs.length:Int)>4)by omega)];simp only[ge,SE,aep];exact hl
   |false =>rw[t,SE,aaV]at h;have u:=agj h.2.2;rw[abl (show ¬((xs.length:Int)>16)by omega)];simp only[ge,SE,aeH,av hk,h.2.1,aP,aep,ax,ac (hq _ _),aj,au,Ms,gd];exact hl
 |false =>
  refine⟨st+1,c+1,?_⟩;refine ev (f169) ?_;simp only[ac (Ag ho _ _),ac (hq _ _),aj,au,bJ,z,mD,GW,sd,eT,cE,ff,mH,ba,bE,ax,Ms,gd];rw[abl A,SE,aeo];rw[Xt]at h;cases j:con==[]with
  |true =>rw[j,ge]at h;rw[ge,h]
  |false =>
   rw[j,SE]at h;simp only[SE];cases r:n==0 with
   |false=>rw[show(n != 0)=true by rw[bne,r];rfl,ge]
   |true =>
    rw[r,afz]at h;rw[show(n != 0)=false by rw[bne,r];rfl,SE];by_cases g:(xs.length:Int)>16
    .rw[abt g,ge]
    .rw[abl g,SE];cases t:con==[44]with
     |true =>
      rw[t,ge]at h;simp only[ge];by_cases u:(xs.length:Int)<2
      .rw[abt u,ge]
      .by_cases B:(xs.length:Int)>4
       .rw[abl u,abt B];rfl
       .rw[abt (show(xs.length:Int)>=2 by omega),abt (show(xs.length:Int)<=4 by omega)]at h;cases h
     |false =>rw[t,SE,abt (show(xs.length:Int)<=16 by omega),aiJ]at h;simp only[SE,aeH,ge,av hk,h,aP,ax]
theorem Kk(H:DH)(a b:DB)(st:Nat)(c:Int):Ho (H++[a]++[b]) (H++[a]).length st c=H++[a,.cells st [.i c]]:=by
 unfold Ho
 grind
theorem aaH(H:DH)(v:Va)(g:v.ok):aq 124 [.agg (qh v)] H=ret (.i (bif Pn v then 0 else 62)) H:=by
 obtain⟨con,n,xs⟩:=v;obtain⟨st',c',h⟩:=abw (H++[DB.cells 0 (xV con n (fu xs))]++[jh 0]) (H++[DB.cells 0 (xV con n (fu xs))]).length H.length (by simp) (by simp) con n xs g (by simp) 1 0 (by decide) (by decide);rw[Kk,Kk,show vb 0 (.mk con n xs)=Pn (.mk con n xs)by rw[vb,Pn,Int.zero_add]]at h;rw[qh];refine ev (ahP) ?_;have j:((H++[DB.cells 0 (xV con n (fu xs))])++[jh 0]).set (H++[DB.cells 0 (xV con n (fu xs))]).length (DB.cells 1 [.i 0])=H++[DB.cells 0 (xV con n (fu xs)),DB.cells 1 [.i 0]]:=Kk H _ _ 1 0;have p:((H++[DB.cells 0 (xV con n (fu xs))])++[jh 0])[(H++[DB.cells 0 (xV con n (fu xs))]).length]? = some (jh 0):=by simp
 simp only[ac p,GW,adO,j,av h,aP,ax];cases Pn (.mk con n xs)<;>exact Ji (by trivial)
theorem Rv(l:aO)(H:DH)(κ:D->ai):aS ab 22 (.row 14 l) H κ=κ (.i l.length):=by kernel_rfl
theorem Xk(cs:List D)(h:cs.length=14)(H:DH)(κ:D->ai):bW ab 104 (.eptr cs 0) H κ=κ (.agg cs):=by
 obtain⟨a,b,c,d,e,f,g,p,i,j,k,l,m,n,rfl⟩:∃ a b c d e f g p i j k l m n,cs=[a,b,c,d,e,f,g,p,i,j,k,l,m,n]:=by
  match cs,h with
  |[a,b,c,d,e,f,g,p,i,j,k,l,m,n],_=>exact⟨a,b,c,d,e,f,g,p,i,j,k,l,m,n,rfl⟩
 kernel_rfl
theorem MV(d:De):(ed d).length=14:=by obtain⟨k,⟨dn,vs,cs⟩,n,⟨tn,ts⟩,fs,⟨ek,em,en,ea,xs,ps⟩⟩:=d;rfl
theorem aeJ(cs:List D)(h:cs.length=14)(κ:List D->ai):ah 14 (.agg cs) κ=κ cs:=by
 match cs,h with
 |[a,b,c,d,e,f,g,h',i,j,k,l,m,n],_=>rfl
theorem aci(cs:List D)(h:cs.length=14)(p q r t u v w y z A za zb zc zd:D)(κ:List D->ai):aw [p,q,r,t,u,v,w,y,z,A,za,zb,zc,zd] 0 cs κ=κ cs:=by
 match cs,h with
 |[a,b,c,d,e,f,g,h',i,j,k,l,m,n],_=>rfl
theorem de0(d:De)(κ:D->ai):af (ed d) 0 κ=κ (.i d.k):=by obtain⟨k,⟨dn,vs,cs⟩,n,⟨tn,ts⟩,fs,⟨ek,em,en,ea,xs,ps⟩⟩:=d;rfl
theorem de4(d:De)(κ:D->ai):af (ed d) 4 κ=κ (.str d.n):=by obtain⟨k,⟨dn,vs,cs⟩,n,⟨tn,ts⟩,fs,⟨ek,em,en,ea,xs,ps⟩⟩:=d;rfl
theorem SD(s:ak)(κ:List D->ai):ah 1 (.str s) κ=κ [.str s]:=rfl
theorem afb(o n:Nat)(H:DH)(κ:D->DH->ai):fH (.acc 1) 0 (.buf 1 o n) H κ=κ (.buf 1 o n) H:=rfl
def Yn(H:DH)(l:List ak):DH:=H++[.buf 1 true false (l.map lW)]
theorem Pl(H:DH)(l:List ak):(Yn H l)[H.length]? = some (.buf 1 true false (l.map lW)):=aZ _ _
theorem Pk(H:DH)(l:List ak)(s:ak)(hl:l.length<100000)(κ:D->DH->ai):bX (aF ab 9) 1 (.buf 1 H.length l.length) [[.str s]] (Yn H l) κ=κ (.buf 1 H.length (l++[s]).length) (Yn H (l++[s])):=by rw[Np (Pl H l) (by simp) (LC (by omega)) (LC (by omega))];unfold Yn;rw[afW _ _ (aaW _),aja];simp[lW]
def ii:List De->List ak
 |[]=>[]
 |d::r=>bif d.k==2 then d.n::ii r else ii r
theorem Fd:∀ l:List De,(ii l).length<=l.length
 |[]=>aaW _
 |d::r=>by
  have:=Fd r
  grind [ii]
theorem Ki(H:DH)(ds:List De)(j:ds.length<=90000):∀(suf pre:List De) (acc:List ak),ds=pre++suf->acc.length<=pre.length ->
 ae aB 122 200003 [.g (.buf 1 H.length acc.length),.g (.row 14 (ds.map ed)),.n ds.length,.n pre.length] [] (Yn H acc)=ret (.buf 1 H.length (acc++ii suf).length) (Yn H (acc++ii suf))
 |[],pre,acc,e,_=>by refine cj (wL) ?_;simp_all[ii]
 |x::suf,pre,acc,e,ha=>by
  have hi:pre.length<ds.length:=by rw[e];simp
  have h:(ds.map ed)[pre.length]? = some (ed x):=by rw[e];exact cT _ _ _ _
  have i:=MV x;refine cj (wL) ?_;rw[mK,abt hi,ge];simp only[adz,aD h,Xk _ i,aeJ _ i,aci _ i,de0,de4,ba,ax,SD,Pk H acc x.n (by omega),afb,aX (show pre.length<2^62 by omega)];rw[ii];cases x.k==2 with
  |true =>
   have:=Ki H ds j suf (pre++[x]) (acc++[x.n]) (by rw[e];simp) (by simp;omega)
   grind
  |false =>
   have:=Ki H ds j suf (pre++[x]) acc (by rw[e];simp) (by simp;omega)
   grind
theorem Xo(H:DH){n:Nat}{G:Pg}(h:dF H n G)(g:G.ds.length<=90000):aq 122 [.ptr (n+5) 0] H=ret (.buf 1 H.length (ii G.ds).length) (Yn H (ii G.ds)):=by obtain⟨st,h0⟩:=(h.app [.buf 1 true false []]).o;refine ev (ahR) ?_;simp only[ac h0,aj,Rv,abe];exact Ki H G.ds g G.ds [] [] rfl (aaW _)
theorem acC{H:DH}{n:Nat}{G:Pg}(h:dF H n G):dF (H.set (n+3) (.buf 1 false false (nC G.rs))) n G:=by
 obtain⟨⟨st,h0⟩,h1,h2,h3,⟨b,g⟩,h5⟩:=h;have hl:n+3<H.length:=(abj.1 g).1;refine⟨⟨st,?_⟩,?_,?_,?_,⟨false,?_⟩,?_⟩
 .grind
 .grind
 .grind
 .grind
 .grind
 grind
def Fz(H:DH)(n:Nat)(G:Pg):DH:=H.set (n+3) (.buf 1 false false (nC G.rs))
theorem RY(H:DH)(n:Nat)(G:Pg):(Fz H n G).length=H.length:=afy ..
theorem adJ(H:DH)(n:Nat)(G:Pg):Fz (Fz H n G) n G=Fz H n G:=afu ..
theorem Ai{H:DH}{n:Nat}{G:Pg}(h:dF H n G)(X:DH):Fz (H++X) n G=Fz H n G++X:=by obtain⟨b,g⟩:=h.rs;exact List.set_append_left _ _ (abj.1 g).1
theorem Vl{H:DH}{n:Nat}{G:Pg}(h:dF H n G):dF (Fz H n G) n G:=acC h
theorem afJ(o n k:Nat)(H:DH)(κ:D->DH->ai):dW ab 40 (.buf 1 o n) none (some (.i k)) none H κ=dl H o n λs _ cap l=>boK (Nat.ble k l.length&&Nat.beq 0 0) (κ (.row 1 (l.take k)) (H.set o (.buf s false cap l))):=by kernel_rfl
theorem Zs(l:aO)(H:DH)(κ:D->ai):aS ab 40 (.row 1 l) H κ=κ (.i l.length):=by kernel_rfl
theorem adx(l:aO)(i:Nat)(κ:D->ai):ay ab 40 (.row 1 l) (.i i) κ=bZ l i λcs=>κ (.eptr cs 0):=by kernel_rfl
theorem Ry(o n i c:Nat)(H:DH)(κ:D->ai):bW ab 3 (.bptr o n i c) H κ=dl H o n λ_ _ _ l=>bZ l i λcs=>af cs c κ:=by kernel_rfl
theorem Mt(o n i c:Nat)(H:DH)(κ:D->ai):bW ab 9 (.bptr o n i c) H κ=dl H o n λ_ _ _ l=>bZ l i λcs=>af cs c κ:=by kernel_rfl
def Cc(bs:List Bo)(v:Int):ak->List ak
 |[]=>[]
 |r::l=>match bs[r]? with
  |some x=>bif x.kind==v then x.name::Cc bs v l else Cc bs v l
  |none=>Cc bs v l
theorem QK(bs:List Bo)(v:Int):∀ l,(Cc bs v l).length<=l.length
 |[]=>aaW _
 |r::l=>by
  have:=QK bs v l
  grind [Cc]
theorem QL(H:DH)(n:Nat)(G:Pg)(h:dF H n G)(v:Int)(l:ak)(hl:l.length<=90000)(hb:∀ r∈l,r<G.bs.length):∀(suf pre:ak) (acc:List ak),l=pre++suf->acc.length<=pre.length ->
 ae aB 123 200003 [.g (.ptr (n+5) 0),.n v,.g (.buf 1 H.length acc.length),.g (.row 1 (nC l)),.n (l.length:Nat),.n pre.length] [] (Yn H acc)=ret (.buf 1 H.length (acc++Cc G.bs v suf).length) (Yn H (acc++Cc G.bs v suf))
 |[],pre,acc,e,_=>by refine cj (wK) ?_;simp_all[Cc]
 |r::suf,pre,acc,e,ha=>by
  have hA:=h.app [.buf 1 true false (acc.map lW)];change dF (Yn H acc) n G at hA;obtain⟨st,h0⟩:=hA.o;have hi:pre.length<l.length:=by rw[e];simp
  have j:(nC l)[pre.length]? = some [.i (r:Nat)]:=by rw[e];exact cT _ _ _ _
  have hr:r<G.bs.length:=hb r (by rw[e];simp);have p:G.bs[r]? = some G.bs[r]:=abg hr;refine cj (wK) ?_;rw[mK,abt hi,ge,Cc,p];generalize G.bs[r]=x at p;simp only[adx,aD j,agu,aj,au,ac h0,Vh,rC hr,boK,ge,DC,Ry,Mt,hU hA.bs,eC p,lJ,ba,ax,SD,Pk H acc x.name (by omega),afb,aX (show pre.length<2^62 by omega)];cases x.kind==v with
  |true =>
   have:=QL H n G h v l hl hb suf (pre++[r]) (acc++[x.name]) (by rw[e];simp) (by simp;omega)
   grind
  |false =>
   have:=QL H n G h v l hl hb suf (pre++[r]) acc (by rw[e];simp) (by simp;omega)
   grind
theorem acB(H:DH){n:Nat}{G:Pg}(h:dF H n G)(v:Int)(k:Nat)(hk:k<=G.rs.length)(hl:G.rs.length<=90000)(hb:∀ r∈G.rs,r<G.bs.length) :
 aq 123 [.ptr (n+5) 0,.i v,.i k] H=ret (.buf 1 H.length (Cc G.bs v (G.rs.take k)).length) (Yn (Fz H n G) (Cc G.bs v (G.rs.take k))):=by
 have hA:=h.app [.buf 1 true false []];obtain⟨st,h0⟩:=hA.o;obtain⟨b,u⟩:=hA.rs;have e:=Ai h [.buf 1 true false []];rw[Fz]at e;have j:=QL (Fz H n G) n G (Vl h) v (G.rs.take k) (by rw[agm];omega) (λr hr=>hb r (ajD hr)) (G.rs.take k) [] [] rfl (aaW _);rw[RY]at j;refine ev (ahQ) ?_;have p:=cD (κ:=λs _ cap l=>boK (Nat.ble k l.length&&Nat.beq 0 0) ((λq t=>aS ab 40 q t λw=>ae aB 123 200003 [.g (.ptr (n+5) 0),.n v,.g (.buf 1 H.length 0),.g q,.g w,.n 0] [] t) (.row 1 (l.take k)) ((H++[DB.buf 1 true false []]).set (n+3) (.buf s false cap l)))) u;rw[jX]at p;simp only[ac h0,aj,au,afJ];rw[p];rw[show Nat.ble k G.rs.length=true from abk hk,e];have y:(nC G.rs).take k=nC (G.rs.take k):=by simp[nC,ajS]
 simp only[show Nat.beq 0 0=true from rfl,aiJ,boK,ge,y,Zs,jX];exact j
theorem aek{R:aM}{a:Int}{b:ak}{c:Int}{g h:Int}{j:ak}{k:Int}{l:aO}{m:Int}{H:DH}:aA R 76 [.agg [.i a,.str b,.i c,.nilrow,.i g],.agg [.i h,.str j,.i k,.row 2 l,.i m]] H =
 cond (a==h) (cond (b==j) (cond (c==k) (cond (g==m) (C R 116 [.nilrow,.row 2 l] H λp H2=>ret p H2) (ret (.bool false) H)) (ret (.bool false) H)) (ret (.bool false) H)) (ret (.bool false) H):=by kernel_rfl
theorem aeh{R:aM}{h:aO}{H:DH}:aA R 116 [.nilrow,.row 2 h] H =
 cond ((0:Int) !=(h.length:Int)) (ret (.bool false) H) (ae R 116 200004 [.g .nilrow,.g (.row 2 h),.n 0,.n 0] [] H):=by kernel_rfl
theorem aei{R:aM}{h:aO}{H:DH}:aV R 116 200004 [.g .nilrow,.g (.row 2 h),.n 0,.n 0] [] H=ret (.bool true) H:=by kernel_rfl
def eqF(c:Ce)(x:ak×Nat):Bool:=c.k==2&&(c.con==x.1&&(c.n==(x.2:Int)&&(c.nx==-1&&c.refs.length==0)))
def oG:List (List Nat×Nat)->List Ce->Bool
 |[],_=>true
 |_::_,[]=>false
 |x::r,c::l=>eqF c x&&oG r l
theorem HS:∀ {a:List (List Nat×Nat)} {b:List Ce},b.length<a.length->oG a b=false
 |[],_,h=>by simp at h
 |_::_,[],_=>rfl
 |x::a,c::b,h=>by rw[oG,HS (a:=a) (b:=b) (by simpa using h),aia]
theorem VS(x:ak×Nat)(c:Ce)(H:DH):aq 76 [.agg (Gq x),.agg (gE c)] H=ret (.bool (eqF c x)) H:=by
 have h1:aq 116 [.nilrow,.row 2 (c.refs.map im)] H=ret (.bool (c.refs.length==0)) H:=by
  refine ev (aeh) ?_;rw[abe];cases e:c.refs.length with
  |zero =>rw[show((0:Int) !=((0:Nat):Int))=false from rfl,SE];refine cj (@aei aB _ H) ?_;rfl
  |succ k=>rw[show((0:Int) !=((k+1:Nat):Int))=true by simp[bne];omega];rfl
 refine ev (aek) ?_
 grind [av,eqF]
theorem MF(a:List (List Nat×Nat))(b:List Ce)(hl:a.length=b.length)(hb:a.length<2^61)(H:DH):∀(sa:List (List Nat×Nat)) (sb:List Ce) (pa:List (List Nat×Nat)) (pb:List Ce),a=pa++sa->b=pb++sb->pa.length=pb.length ->
 ae aB 75 200004 [.g (.row 5 (b.map gE)),.g (.func 76 [] []),.g (.row 5 (a.map Gq)),.n a.length,.n pa.length] [] H=ret (.bool (oG sa sb)) H
 |[],sb,pa,pb,e,_,_=>by refine cj (AH) ?_;simp_all[oG]
 |x::sa,[],pa,pb,e,i,h=>by grind
 |x::sa,y::sb,pa,pb,e,i,h=>by
  have hi:pa.length<a.length:=by rw[e];simp
  have ih:=MF a b hl hb H sa sb (pa++[x]) (pb++[y]) (by rw[e];simp) (by rw[i];simp) (by simp[h]);simp only[aaY,abc]at ih;have j:(a.map Gq)[pa.length]? = some (Gq x):=by rw[e,cT]
  have p:(b.map gE)[pa.length]? = some (gE y):=by rw[h];exact aeG b pb y sb i
  have hc:=VS x y H;have q:aQ bV 76=true:=by kernel_rfl
  refine cj (AH) ?_;rw[mK,abt hi,ge];simp only[gE,Gq]at j p hc;simp only[bS,aD j,aD p,aj,au,dX q,afn,afq,av hc,aP,ax,aX (show pa.length<2^62 by omega),ih]
  grind [oG]
theorem DF:∀(a:List (List Nat×Nat)) (b:List Ce),a.length<=b.length->oG a (b.take a.length)=oG a b
 |[],_,_=>rfl
 |_::_,[],h=>by simp at h
 |x::a,c::b,h=>by simp_all[aiL,oG,DF]
theorem agA(a:List (List Nat×Nat))(b:List Ce)(hl:a.length<=b.length)(hb:a.length<2^61)(H:DH):aq 75 [.row 5 (a.map Gq),.row 5 ((b.take a.length).map gE),.func 76 [] []] H=ret (.bool (oG a b)) H:=by
 have g:a.length=(b.take a.length).length:=by rw[agm];omega
 refine ev (f75) ?_;simp only[abe];have:=MF a (b.take a.length) g hb H a (b.take a.length) [] [] rfl rfl rfl;rw[<- g,DF a b hl]at *;simp only[agk,SE];exact this
def Sc(bs:List Bo):ak->List (List Nat×Nat)
 |[]=>[]
 |c::r=>match bs[c]? with
  |some x=>(x.arg,x.first)::Sc bs r
  |none=>Sc bs r
def Yf(H:DH)(l:List (List Nat×Nat)):DH:=H++[.buf 5 true false (l.map Gq)]
theorem XZ(H:DH)(l:List (List Nat×Nat))(x:ak×Nat)(hl:l.length<100000)(κ:D->DH->ai):bX (aF ab 112) 5 (.buf 5 H.length l.length) [Gq x] (Yf H l) κ=κ (.buf 5 H.length (l++[x]).length) (Yf H (l++[x])):=by
 have g:(Yf H l)[H.length]? = some (.buf 5 true false (l.map Gq)):=aZ _ _;rw[Np g (by simp) (LF (by omega)) (LF (by omega))];unfold Yf
 grind
theorem adM(H:DH)(n:Nat)(G:Pg)(t:dF H n G)(hl:G.cs.length<=90000)(hb:∀ r∈G.cs,r<G.bs.length):∀(suf pre:ak) (acc:List (List Nat×Nat)),G.cs=pre++suf->acc.length<=pre.length ->
 ae aB 72 200003 [.g (.ptr (n+5) 0),.g (.buf 5 H.length acc.length),.g (.buf 1 (n+4) G.cs.length),.n G.cs.length,.n pre.length] [] (Yf H acc)=ret (.row 5 ((acc++Sc G.bs suf).map Gq)) (H++[.buf 5 false false ((acc++Sc G.bs suf).map Gq)])
 |[],pre,acc,e,_=>by refine cj (AJ) ?_;rw[mK,show G.cs.length=pre.length by rw[e];simp,abl (aiK _),SE,Sc,afq];have:=HD (κ:=λd H=>ret d H) (sz:=5) (H:=Yf H acc) (o:=H.length) (b:=true) (l:=acc.map Gq) (aZ _ _);rw[abe]at this;rw[this,Yf,afW _ _ (aaW _),aja];rfl
 |r::suf,pre,acc,e,ha=>by
  have hA:=t.app [.buf 5 true false (acc.map Gq)];change dF (Yf H acc) n G at hA;obtain⟨st,h0⟩:=hA.o;have hi:pre.length<G.cs.length:=by rw[e];simp
  have j:(nC G.cs)[pre.length]? = some [.i r]:=by rw[e];exact cT _ _ _ _
  have p:=hA.cs;have hr:r<G.bs.length:=hb r (by rw[e];simp);have q:G.bs[r]? = some G.bs[r]:=abg hr;have hk:dl (Yf H acc) (n+4) G.cs.length=λκ=>κ 1 true false (nC G.cs):=funext λκ=>hU (f:=λi:Nat=>[D.int .i64 (i:Nat)]) p;refine cj (AJ) ?_;rw[mK,abt hi,ge,Sc,q];generalize G.bs[r]=x at q;have h:=XZ H acc (x.arg,x.first) (by omega);simp only[Gq]at h;have:=adM H n G t hl hb suf (pre++[r]) (acc++[(x.arg,x.first)]) (by rw[e];simp) (by simp;omega);simp only[aaY,abc,aft,afL]at this;simp only[ady,rC hi,boK,ge,Ry,hk,aD j,aj,au,ac h0,Vh,rC hr,DC,Mt,hU hA.bs,eC q,lJ,SD,mD,aw,qN,aeI,h,show ∀(o n:Nat) (H:DH) (κ:D->DH->ai),fH (.acc 5) 0 (.buf 5 o n) H κ=κ (.buf 5 o n) H from λ_ _ _ _=>rfl,aX (show pre.length<2^62 by omega),aaY,abc,adO,aiM];exact this
theorem Qa(n:Nat):∀ l:List (List Nat×Nat),eo n (l.map Gq)
 |[]=>by simp[eo]
 |x::r=>by simp only[acg,eo];exact⟨by simp only[Gq,eL,D.bel,ajR],Qa n r⟩
theorem ZH(H:DH){n:Nat}{G:Pg}(h:dF H n G)(hl:G.cs.length<=90000)(hb:∀ r∈G.cs,r<G.bs.length):aq 72 [.ptr (n+5) 0] H=ret (.row 5 ((Sc G.bs G.cs).map Gq)) H:=by
 have hA:=h.app [.buf 5 true false []];obtain⟨st,h0⟩:=hA.o;refine ev (f72) ?_;simp only[ac h0,aj,au,Rt];have:=adM H n G h hl hb G.cs [] [] rfl (aaW _);refine(aib (aY H) this).trans ?_
 grind [Ji,D.bel,Qa]
def yB(m:Mc):List To->List ak->Bool
 |[],[]=>true
 |t::a,s::b=>t.nm==s&&(dA m t.r m.ce.length&&yB m a b)
 |_,_=>false
def GZ:List Nv->List ak->Bool
 |[],[]=>true
 |x::a,s::b=>x.nm==s&&(Pn x.v&&GZ a b)
 |_,_=>false
theorem yA(m:Mc):∀ {a:List To} {b:List ak},a.length≠b.length->yB m a b=false
 |[],[],h=>(h rfl).elim
 |[],_::_,_=>rfl
 |_::_,[],_=>rfl
 |t::a,s::b,h=>by rw[yB,yA m (a:=a) (b:=b) (by simpa using h),aia,aia]
theorem GY:∀ {a:List Nv} {b:List ak},a.length≠b.length->GZ a b=false
 |[],[],h=>(h rfl).elim
 |[],_::_,_=>rfl
 |_::_,[],_=>rfl
 |t::a,s::b,h=>by rw[GZ,GY (a:=a) (b:=b) (by simpa using h),aia,aia]
theorem Ln(H:DH)(n:Nat)(G:Pg)(X:DH)(q:Bool):aY H (ret (.bool q) (Fz H n G++X))=ret (.bool q) (Fz H n G):=NC (by trivial) (uN _ _)
theorem Xp(o n i:Nat)(κ:D->ai):ay ab 95 (.buf 1 o n) (.i i) κ=boK (Nat.blt i n) (κ (.bptr o n i 0)):=by kernel_rfl
theorem JY(s o n:Nat)(H:DH)(κ:D->ai):aS ab 95 (.buf s o n) H κ=κ (.i (n:Int)):=by kernel_rfl
theorem WH(m:Mc)(w:Nat)(H:DH)(o:Nat)(b c:Bool)(ns:List ak)(ho:H[o]? = some (.buf 1 b c (ns.map lW)))(hl:m.to.length=ns.length)(hb:m.to.length<2^61)(X:ai)
 (j:ae aB 79 200005 [.g (.ptr w 0),.lp 0 0,.g (.buf 1 o ns.length),.g (.row 3 (m.to.map il)),.n m.to.length,.n m.to.length] [(0,fv m)] H=X):∀(sa:List To) (sb:List ak) (pa:List To) (pb:List ak),m.to=pa++sa->ns=pb++sb->pa.length=pb.length ->
 ae aB 79 200005 [.g (.ptr w 0),.lp 0 0,.g (.buf 1 o ns.length),.g (.row 3 (m.to.map il)),.n m.to.length,.n pa.length] [(0,fv m)] H=bif yB m sa sb then X else ret (.bool false) H
 |[],[],pa,pb,e,_,_=>by rw[show pa.length=m.to.length by rw[e];simp,j];rfl
 |[],y::sb,pa,pb,e,i,h=>by grind
 |x::sa,[],pa,pb,e,i,h=>by grind
 |x::sa,y::sb,pa,pb,e,i,h=>by
  have hi:pa.length<m.to.length:=by rw[e];simp
  have ih:=WH m w H o b c ns ho hl hb X j sa sb (pa++[x]) (pb++[y]) (by rw[e];simp) (by rw[i];simp) (by simp[h]);simp only[aaY,abc]at ih;have p:m.to[pa.length]? = some x:=by rw[e];simp
  have q:ns[pa.length]? = some y:=by rw[h,i];simp
  have hr:=GQ m x.r m.ce.length (ajd _) H;refine cj (AG) ?_;rw[mK,abt hi,ge];simp only[abe,bS,eC p,il,aj,au,Xp,rC (show pa.length<ns.length by omega),boK,ge,Mt,hU ho,eC q,lW,mH,ax,aG hr,aP,aX (show pa.length<2^62 by omega),ih]
  grind [yB]
theorem WS(ou:List Nv)(j:∀ x∈ou,x.v.ok)(H:DH)(o:Nat)(b c:Bool)(ns:List ak)(ho:H[o]? = some (.buf 1 b c (ns.map lW)))(hl:ou.length=ns.length)(hb:ou.length<2^61):∀(sa:List Nv) (sb:List ak) (pa:List Nv) (pb:List ak),ou=pa++sa->ns=pb++sb->pa.length=pb.length ->
 ae aB 79 200014 [.g (.buf 1 o ns.length),.g (.row 4 (ou.map jv)),.n ou.length,.n pa.length] [] H=ret (.bool (GZ sa sb)) H
 |[],[],pa,pb,e,_,_=>by refine cj (AF) ?_;rw[mK,show ou.length=pa.length by rw[e];simp,abl (aiK _),SE];rfl
 |[],y::sb,pa,pb,e,i,h=>by grind
 |x::sa,[],pa,pb,e,i,h=>by grind
 |x::sa,y::sb,pa,pb,e,i,h=>by
  have hi:pa.length<ou.length:=by rw[e];simp
  have ih:=WS ou j H o b c ns ho hl hb sa sb (pa++[x]) (pb++[y]) (by rw[e];simp) (by rw[i];simp) (by simp[h]);simp only[aaY,abc]at ih;have p:ou[pa.length]? = some x:=by rw[e];simp
  have q:ns[pa.length]? = some y:=by rw[h,i];simp
  have hr:=aaH H x.v (j x (by rw[e];simp));refine cj (AF) ?_;rw[mK,abt hi,ge,GZ];obtain⟨xn,⟨vc,vn,vx⟩⟩:=x;simp only[qh]at hr;simp only[bS,eC p,jv,aj,au,Xp,rC (show pa.length<ns.length by omega),boK,ge,Mt,hU ho,eC q,lW,mH,bE,ax,aG hr,aX (show pa.length<2^62 by omega),ih]
  grind
theorem aiv{ok:Nat->Bool}{sz o n:Nat}{l els:aO}{H:DH}{κ:D->DH->ai}(h:H[o]? = some (.buf sz true false l))(g:l.length=n)(i:ok els.length=true)(j:ok (n+els.length)=true) :
 bX ok sz (.buf sz o n) els H κ=κ (.buf sz o (n+els.length)) (H.set o (.buf sz true false (l++els))):=by
 subst g;simp only[bX,i,boK,ge,acD,cD h,j,aeo,aeH,aiJ,grow,SE]
def Gz(m:Mc)(G:Pg):Bool:=yB m m.to (ii G.ds++Cc G.bs 4 (G.rs.take m.bo.toNat))&&GZ m.ou (Cc G.bs 5 (G.rs.take m.bo.toNat))
theorem Yl(m:Mc)(H:DH){n:Nat}{G:Pg}(h:dF H n G)(hd:G.ds.length<=9000)(hl:G.rs.length<=9000)(hb:∀ r∈G.rs,r<G.bs.length)(k:Nat)(hk:m.bo=(k:Nat))(j:k<=G.rs.length)
 (y:m.to.length<2^61) (p:m.ou.length<2^61) (z:∀ x∈m.ou,x.v.ok):aq 79 [.ptr (n+5) 0,.agg (fv m)] H=ret (.bool (Gz m G)) (Fz H n G):=by
 have hi:=Xo H h (by omega);have A:dF (Yn H (ii G.ds)) n G:=h.app _;have u:=acB (Yn H (ii G.ds)) A 4 k j (by omega) hb;rw[show Fz (Yn H (ii G.ds)) n G=Yn (Fz H n G) (ii G.ds)from Ai h _]at u;rw[Gz,hk,aio];have li:=Fd G.ds;have l4:=QK G.bs 4 (G.rs.take k);rw[agm]at l4;have q:=Vl h;have kl:=RY H n G;have tr:=Ln H n G;have B:dF (Yn (Yn (Fz H n G) (ii G.ds++Cc G.bs 4 (G.rs.take k))) (Cc G.bs 4 (G.rs.take k))) n G:=(q.app _).app _;have w:=acB _ B 5 k j (by omega) hb
 rw[show Fz (Yn (Yn (Fz H n G) (ii G.ds++Cc G.bs 4 (G.rs.take k))) (Cc G.bs 4 (G.rs.take k))) n G=Yn (Yn (Fz H n G) (ii G.ds++Cc G.bs 4 (G.rs.take k))) (Cc G.bs 4 (G.rs.take k))by unfold Yn;rw[Ai (q.app _),Ai q,adJ]]at w
 generalize ii G.ds=I at *;generalize Cc G.bs 4 (G.rs.take k)=N4 at *;generalize Cc G.bs 5 (G.rs.take k)=N5 at *;generalize Fz H n G=K at *;have E:(Yn (Yn K I) N4)[H.length]? = some (.buf 1 true false (I.map lW)):=by rw[<- kl];exact eV _ (Pl K I)
 have b4:(Yn (Yn K I) N4)[(Yn H I).length]? = some (.buf 1 true false (N4.map lW)):=by grind [Yn]
 have F:(Yn (Yn K I) N4).set H.length (.buf 1 true false (I.map lW++N4.map lW))=Yn (Yn K (I++N4)) N4:=by grind [Yn]
 have a5:(Yn (Yn K (I++N4)) N4)[H.length]? = some (.buf 1 true false ((I++N4).map lW)):=by grind
 refine ev (f79) ?_;rw[hk,aG hi,aG u];have els (κ:aO->ai):vw (.buf 1 (Yn H I).length N4.length) (Yn (Yn K I) N4) 1 κ=κ (N4.map lW):=by grind [hU,vw,Nat.beq_refl]
 have ap (κ:D->DH->ai):=aiv (κ:=κ) (ok:=aF ab 9) (els:=N4.map lW) E (abe ..) (by rw[abe];exact LC (by omega)) (by rw[abe];exact LC (by omega));rw[F,abe,<- aaY]at ap;simp only[els,ap,JY,bE,ax,abe];by_cases i:m.to.length=(I++N4).length
 .have J:ae aB 79 200005 [.g (.ptr (n+5) 0),.lp 0 0,.g (.buf 1 H.length (I++N4).length),.g (.row 3 (m.to.map il)),.n m.to.length,.n m.to.length] [(0,fv m)] (Yn (Yn K (I++N4)) N4)=ret (.bool (GZ m.ou N5)) (Yn (Yn (Yn K (I++N4)) N4) N5):=by
   refine cj (AG) ?_;rw[mK,abl (aiK _),SE,hk,av w];simp only[JY,bE,ax,abe];by_cases ho:m.ou.length=N5.length
   .rw[show((N5.length:Int) !=(m.ou.length:Int))=false by rw[ho];simp,SE];exact WS m.ou z _ _ true false N5 (Pl _ _) ho p m.ou N5 [] [] rfl rfl rfl
   .rw[show((N5.length:Int) !=(m.ou.length:Int))=true by simp[bne];omega,ge,GY ho]
  have t:=WH m (n+5) _ H.length true false (I++N4) a5 i y _ J m.to (I++N4) [] [] rfl rfl rfl;rw[show(((I++N4).length:Int) !=(m.to.length:Int))=false by rw[i];simp,SE];refine(aib (aY H) t).trans ?_;cases yB m m.to (I++N4)with
  |true =>have:=tr [.buf 1 true false ((I++N4).map lW),.buf 1 true false (N4.map lW),.buf 1 true false (N5.map lW)] (GZ m.ou N5);simpa[Yn]using this
  |false =>have:=tr [.buf 1 true false ((I++N4).map lW),.buf 1 true false (N4.map lW)] false;simpa[Yn]using this
 .rw[show(((I++N4).length:Int) !=(m.to.length:Int))=true by simp only[bne,aiG,aiS];omega,ge,yA m i,aeo];have:=tr [.buf 1 true false ((I++N4).map lW),.buf 1 true false (N4.map lW)] false;simpa[Yn]using this
structure IS(m:Mc):Prop where
 ce:m.ce.length<2^61
 refs:∀ c∈m.ce,c.refs.length<2^61
 to:m.to.length<2^61
 ou:m.ou.length<2^61
 v:∀ x∈m.ou,x.v.ok
 fr:m.fr.length<2^61
 dn:∀ f∈m.fr,f.dn.length<2^61
structure Te(G:Pg):Prop where
 ds:G.ds.length<=9000
 rs:G.rs.length<=9000
 cs:G.cs.length<=9000
 rb:∀ r∈G.rs,r<G.bs.length
 cb:∀ r∈G.cs,r<G.bs.length
 ns:∀ x∈G.ns,x.e.ok
def lU(m:Mc)(mp:List (Nat×ak)):List Ce->Nat->Bool
 |[],_=>true
 |c::r,i=>ui m mp i c&&lU m mp r (i+1)
def sI(m:Mc)(G:Pg):Bool:=oz m G.ns.length G.rs.length&&(Gz m G&&m.fr.all λf=>nO m (G.ns.map (·.e)) f)
def gq(m:Mc)(G:Pg):Bool:=oG (Sc G.bs G.cs) m.ce&&(decide (0<=m.st)&&(decide (m.st<=200000)&&(lU m G.m m.ce 0&&sI m G)))
theorem QW{m:Mc}{a b:Nat}(h:oz m a b=true):∃ k:Nat,m.bo=(k:Nat)/\k<=b:=by
 unfold oz at h;have g:0<=m.bo/\m.bo<=(b:Int):=by grind
 exact⟨m.bo.toNat,by omega,by omega⟩
theorem aaG(m:Mc){H:DH}{n:Nat}{G:Pg}(h:dF H n G)(ok:Te G)(a b sa sb:Nat)(g:H[a]? = some (.cells sa [.ptr (n+5) 0]))(hb:H[b]? = some (.cells sb (fv m)))(f:Fm)(i:f.dn.length<2^61) :
 aq 81 [.agg (gj f),.ptr a 0,.ptr b 0] H=ret (.bool (!nO m (G.ns.map (·.e)) f)) H:=by
 refine ev (f81) ?_;have:=Vo m h f i ok.ns;simp only[gj]at this;simp only[ac g,ac hb,aj,au,av this,aP]
theorem TH(m:Mc)(mo:IS m){H:DH}{n:Nat}{G:Pg}(h:dF H n G)(ok:Te G)(a b sa sb:Nat)(i:H[a]? = some (.cells sa [.ptr (n+5) 0]))(hb:H[b]? = some (.cells sb (fv m))) :
 ∃ H',ae aB 36 200005 [.g (.ptr a 0),.g (.ptr b 0),.n m.ce.length,.n m.ce.length] [] H=ret (.bool (sI m G)) H'/\(H'=H\/H'=Fz H n G):=by
 have hm:=Zh m h;rw[sI];cases hq:oz m G.ns.length G.rs.length with
 |false =>refine⟨H,?_,.inl rfl⟩;refine cj (nR) ?_;rw[hq]at hm;rw[mK,abl (aiK _),SE];simp only[ac i,ac hb,aj,au,av hm,ax,SE,aeo]
 |true =>
  obtain⟨k,hk,p⟩:=QW hq;have u:=Yl m H h ok.ds ok.rs ok.rb k hk p mo.to mo.ou mo.v;have hlt:=(abj.1 h.ns).1;obtain⟨st,h0⟩:=h.o;obtain⟨bb,t⟩:=h.rs;have q:(Fz H n G)[a]? = some (.cells sa [.ptr (n+5) 0]):=by rw[Fz,afA (by rintro rfl;rw[t]at i;cases i),i]
  have j:(Fz H n G)[b]? = some (.cells sb (fv m)):=by rw[Fz,afA (by rintro rfl;rw[t]at hb;cases hb),hb]
  refine⟨Fz H n G,?_,.inr rfl⟩;refine cj (nR) ?_;rw[hq]at hm;rw[mK,abl (aiK _),SE];have w:aQ bV 81=true:=by kernel_rfl
  have r:=Wd 81 [.ptr a 0,.ptr b 0] w (λf=>!nO m (G.ns.map (·.e)) f) (Fz H n G) m.fr (λf r=>aaG m (Vl h) ok a b sa sb q j f (mo.dn f r)) mo.fr;simp only[ac i,ac hb,ac j,aj,au,av hm,av u,av r,aP,yo,ax,ge,afz,cY,afM]
theorem xH(m:Mc)(mo:IS m){H:DH}{n:Nat}{G:Pg}(h:dF H n G)(ok:Te G)(a b sa sb:Nat)(i:H[a]? = some (.cells sa [.ptr (n+5) 0]))(hb:H[b]? = some (.cells sb (fv m))):∀ suf pre:List Ce,m.ce=pre++suf ->
 ∃ H',ae aB 36 200005 [.g (.ptr a 0),.g (.ptr b 0),.n m.ce.length,.n pre.length] [] H=ret (.bool (lU m G.m suf pre.length&&sI m G)) H'/\(H'=H\/H'=Fz H n G)
 |[],pre,e=>by have:=TH m mo h ok a b sa sb i hb;simp_all[lU]
 |c::suf,pre,e=>by
  have hi:pre.length<m.ce.length:=by rw[e];simp
  have hc:m.ce[pre.length]? = some c:=by rw[e];simp
  have hcell:=RI m h pre.length c hc mo.ce (mo.refs c (by rw[e];simp));obtain⟨H',ih,j⟩:=xH m mo h ok a b sa sb i hb suf (pre++[c]) (by rw[e];simp);simp only[aaY,abc]at ih;rw[lU];have hlen:=mo.ce;cases hq:ui m G.m pre.length c with
  |false =>refine⟨H,?_,.inl rfl⟩;refine cj (nR) ?_;rw[mK,abt hi,ge];rw[hq]at hcell;simp only[ac i,ac hb,aj,au,av hcell,aP,ax,aeH,ge,aeo]
  |true =>refine⟨H',?_,j⟩;refine cj (nR) ?_;rw[mK,abt hi,ge];rw[hq]at hcell;simp only[ac i,ac hb,aj,au,av hcell,aP,ax,aep,SE,afz,aX (show pre.length<2^62 by omega),ih]
theorem afI(l:aO)(k:Nat)(hk:k<=l.length)(H:DH)(κ:D->DH->ai):dW ab 28 (.row 5 l) none (some (.i k)) none H κ=κ (.row 5 (l.take k)) H:=by
 have e:dW ab 28 (.row 5 l) none (some (.i k)) none H κ=boK (Nat.ble k l.length&&Nat.beq 0 0) (κ (.row 5 (l.take k)) H):=by kernel_rfl
 rw[e,abk hk];rfl
theorem Sb(bs:List Bo):∀ l,(Sc bs l).length<=l.length
 |[]=>aaW _
 |c::r=>by
  have:=Sb bs r
  grind [Sc]
theorem ND{H H':DH}{n:Nat}{G:Pg}(h:dF H n G)(x y:DB)(q:Bool)(hH:H'=H++[x]++[y]\/H'=Fz (H++[x]++[y]) n G):∃ H'',aY H (ret (.bool q) H')=ret (.bool q) H''/\(H''=H\/H''=Fz H n G):=by grind [Gv,List.append_assoc,Ai,Ln]
theorem TG(m:Mc)(mo:IS m)(H:DH){n:Nat}{G:Pg}(h:dF H n G)(ok:Te G):∃ H',aq 36 [.ptr (n+5) 0,.agg (fv m)] H=ret (.bool (gq m G)) H'/\(H'=H\/H'=Fz H n G):=by
 have z:dF (H++[.cells 0 [.ptr (n+5) 0]]++[.cells 0 (fv m)]) n G:=(h.app _).app _;have p:=ZH (H++[.cells 0 [.ptr (n+5) 0]]++[.cells 0 (fv m)]) z (by have:=ok.cs;omega) ok.cb;have u:(H++[DB.cells 0 [.ptr (n+5) 0]]++[DB.cells 0 (fv m)])[H.length]? = some (.cells 0 [.ptr (n+5) 0]):=eV _ (aZ _ _);have hb:(H++[DB.cells 0 [.ptr (n+5) 0]]++[DB.cells 0 (fv m)])[(H++[DB.cells 0 [.ptr (n+5) 0]]).length]? = some (.cells 0 (fv m)):=aZ _ _;obtain⟨H',y,A⟩:=xH m mo z ok _ _ 0 0 u hb m.ce [] rfl;have tr:=fun(q:Bool) (H':DH)=>ND (H':=H') h (.cells 0 [.ptr (n+5) 0]) (.cells 0 (fv m)) q;have fl:=Sb G.bs G.cs;have fc:=ok.cs;have hce:=mo.ce;have i:(H++[DB.cells 0 [.ptr (n+5) 0]]).length=H.length+1:=by simp
 rw[i]at hb y;generalize r:H++[DB.cells 0 [.ptr (n+5) 0]]++[DB.cells 0 (fv m)]=H2 at *;rw[gq];generalize hF:Sc G.bs G.cs=F at *;by_cases g:m.ce.length<F.length
 .obtain⟨H'',t,v⟩:=tr false H2 (.inl rfl);rw[HS g,aeo];refine⟨H'',ev (f36) ((aib (aY H) ?_).trans t),v⟩;dsimp only;rw[i,r];simp only[ac u,ac hb,aj,au,av p,pC,abe,cE,ax]
  grind
 have j:=agA F m.ce (by omega) (by omega) H2;have w (κ:D->DH->ai):=afI (m.ce.map gE) F.length (by rw[abe];omega) H2 κ;cases hq:oG F m.ce with
 |false =>obtain⟨H'',t,v⟩:=tr false H2 (.inl rfl);rw[aeo];refine⟨H'',ev (f36) ((aib (aY H) ?_).trans t),v⟩;dsimp only;rw[i,r];rw[hq]at j;simp only[ac u,ac hb,aj,au,av p,pC,abe,cE,ax];rw[mK,abl g,SE,w,<- ajS,av j];rfl
 |true =>
  rw[hq]at j;by_cases hs0:m.st<0
  .obtain⟨H'',t,v⟩:=tr false H2 (.inl rfl);rw[abl (show ¬ 0<=m.st by omega),aeo,aia];refine⟨H'',ev (f36) ((aib (aY H) ?_).trans t),v⟩;dsimp only;rw[i,r];simp only[ac u,ac hb,aj,au,av p,pC,abe,cE,ax];rw[mK,abl g,SE,w,<- ajS,av j];simp only[ac u,ac hb,aj,au,pC,abe,cE,eT,aP,ax,aep,SE]
   grind
  by_cases hs1:m.st>200000
  .obtain⟨H'',t,v⟩:=tr false H2 (.inl rfl);rw[abl (show ¬ m.st<=200000 by omega),aeo,aia,aia];refine⟨H'',ev (f36) ((aib (aY H) ?_).trans t),v⟩;dsimp only;rw[i,r];simp only[ac u,ac hb,aj,au,av p,pC,abe,cE,eT,ax];rw[mK,abl g,SE,w,<- ajS,av j];simp only[ac u,ac hb,aj,au,pC,abe,cE,eT,aP,ax,aep,SE]
   grind
  obtain⟨H'',t,v⟩:=tr (lU m G.m m.ce 0&&sI m G) H' A;rw[abt (show 0<=m.st by omega),abt (show m.st<=200000 by omega),afz,afz,afz];refine⟨H'',ev (f36) ((aib (aY H) ?_).trans t),v⟩;dsimp only;rw[i,r];simp only[ac u,ac hb,aj,au,av p,pC,abe,cE,eT,ax];rw[mK,abl g,SE,w,<- ajS,av j];simp only[ac u,ac hb,aj,au,pC,abe,cE,eT,aP,ax,aep,SE]
  grind
structure aiA(G:Rf):Prop where
 ds:G.ds.length<=9000
 rs:G.rs.length<=9000
 fs:G.fs.length<=9000
def lk{β:Type}(f:Bo->β)(bs:List Bo)(c:Nat):Option β:=(bs[c]?).map f
theorem nG{β:Type}(f:Bo->β)(bs:List Bo)(b:Bo):∀(l:ak) (M:List β),l.map (lk f bs)=M.map some->l.map (lk f (bs++[b]))=M.map some
 |[],[],_=>rfl
 |[],_::_,h=>by simp at h
 |_::_,[],h=>by simp at h
 |c::l,v::M,h=>by
  simp only[acg,akn]at h;rw[acg,acg,nG f bs b l M h.2];have g:=h.1;unfold lk at g ⊢;cases q:bs[c]? with
  |none=>rw[q]at g;cases g
  |some x =>rw[q]at g;rw[abo (abj.1 q).1,q,g]
theorem xW{β:Type}(f:Bo->β)(bs:List Bo)(b:Bo):lk f (bs++[b]) bs.length=some (f b):=by unfold lk;rw[aiN (aaW _),aja];rfl
def fB(x:Bo):Int×Bool:=(x.decl,decide (x.run<0))
def fC(x:Bo):ak×Nat:=(x.arg,x.first)
def fR(x:Bo):ak×Int:=(x.name,x.kind)
def qR(q:ak×Nat×Nat×Bool):ak×Int:=(q.1,if q.2.2.2 then 5 else 4)
def nE(y:Nd):Ex×Int:=(y.e,y.d)
def zE(z:Fn):Ex×Int:=(z.e,z.d)
def zB(z:Fn):Int×Bool:=(z.d,z.fn)
structure OV(G:Pg)(R:Rf):Prop where
 ds:G.ds=R.ds
 e:G.ns.map nE=R.ns.map zE
 b:(G.ns.map (·.b.toNat)).map (lk fB G.bs)=(R.ns.map zB).map some
 c:G.cs.map (lk fC G.bs)=R.fs.map some
 r:G.rs.map (lk fR G.bs)=(R.rs.map qR).map some
mutual
theorem YF(d f b:Int)(fn:Bool):∀(e:Ex) (n:Nat) (p par:ak),(kL d f b n p e).map nE=(lu d f fn p par e).map zE
 |.mk k m nm a xs ps,n,p,par=>by rw[kL,lu,acg,acg,WK d f b fn xs (n+1) p 0 k a];rfl
theorem WK(d f b:Int)(fn:Bool):∀(l:List Ex) (n:Nat) (p:ak) (i:Nat) (k:Int) (a:ak),(fE d f b n p i l).map nE=(gU d f fn p k a i l).map zE
 |[],_,_,_,_,_=>by simp[fE,gU]
 |x::r,n,p,i,k,a=>by rw[fE,gU,afj,afj,YF d f b fn x n (p++[i]),WK d f b fn r _ p (i+1) k a]
end
mutual
theorem YH(d f:Int)(j:Nat)(fn:Bool)(bs:List Bo)(hb:lk fB bs j=some (d,fn)):∀(e:Ex) (n:Nat) (p par:ak),((kL d f (j:Nat) n p e).map (·.b.toNat)).map (lk fB bs)=((lu d f fn p par e).map zB).map some
 |.mk k m nm a xs ps,n,p,par=>by rw[kL,lu,acg,acg,acg,acg,WL d f j fn bs hb xs (n+1) p 0 k a];simp only[aio,hb];rfl
theorem WL(d f:Int)(j:Nat)(fn:Bool)(bs:List Bo)(hb:lk fB bs j=some (d,fn)):∀(l:List Ex) (n:Nat) (p:ak) (i:Nat) (k:Int) (a:ak),((fE d f (j:Nat) n p i l).map (·.b.toNat)).map (lk fB bs)=((gU d f fn p k a i l).map zB).map some
 |[],_,_,_,_,_=>by simp[fE,gU]
 |x::r,n,p,i,k,a=>by rw[fE,gU,afj,afj,afj,afj,YH d f j fn bs hb x n (p++[i]),WL d f j fn bs hb r _ p (i+1) k a]
end
theorem OV.len{G:Pg}{R:Rf}(h:OV G R):G.ns.length=R.ns.length:=by
 have:=aib List.length h.e
 grind
theorem abM{G:Pg}{R:Rf}(h:OV G R)(i k:Nat)(f:Fu):OV (G.addF i 3 k f) ((R.addH ⟨i,k,f.n,true,f.a,f.b⟩).addB ⟨i,k,f.n,true,f.a,f.b⟩):=by
 have hl:=h.len;refine⟨h.ds,?_,?_,?_,?_⟩
 .show(G.ns++kL _ _ _ _ _ _).map nE=(R.ns++lu _ _ _ _ _ _).map zE;rw[afj,afj,h.e,YF _ _ _ true f.b _ [] f.a]
 .show((G.ns++kL _ _ _ _ _ _).map (·.b.toNat)).map (lk fB (G.bs++[_]))=((R.ns++lu _ _ _ _ _ _).map zB).map some;rw[afj,afj,afj,afj,nG fB G.bs _ _ _ h.b,YH (i:Nat) (k:Nat) G.bs.length true _ (xW fB G.bs _) f.b _ [] f.a]
 .show(G.cs++[G.bs.length]).map (lk fC (G.bs++[_]))=(R.fs++[_]).map some;rw[afj,afj,nG fC G.bs _ _ _ h.c,ajQ,xW,ajQ,fC];simp only[hl]
 .show G.rs.map (lk fR (G.bs++[_]))=(R.rs.map qR).map some;exact nG fR G.bs _ _ _ h.r
theorem abL{G:Pg}{R:Rf}(h:OV G R)(i:Nat)(d:De)(hd:R.ds[i]? = some d)(hk:d.k=4\/d.k=5):OV (G.addR i d) ((R.addH ⟨i,0,d.n,false,[],d.b⟩).addB ⟨i,0,d.n,false,[],d.b⟩):=by
 have hl:=h.len;have hrun:decide (((G.rs.length:Nat):Int)<0)=false:=abl (by omega);refine⟨h.ds,?_,?_,?_,?_⟩
 .show(G.ns++kL _ _ _ _ _ _).map nE=(R.ns++lu _ _ _ _ _ _).map zE;rw[afj,afj,h.e,YF _ _ _ false d.b _ [] []];rfl
 .show((G.ns++kL _ _ _ _ _ _).map (·.b.toNat)).map (lk fB (G.bs++[_]))=((R.ns++lu _ _ _ _ _ _).map zB).map some;rw[afj,afj,afj,afj,nG fB G.bs _ _ _ h.b]
  grind [YH,xW,fB]
 .show G.cs.map (lk fC (G.bs++[_]))=R.fs.map some;exact nG fC G.bs _ _ _ h.c
 .show(G.rs++[G.bs.length]).map (lk fR (G.bs++[_]))=((R.rs++[_]).map qR).map some;rw[afj,afj,afj,nG fR G.bs _ _ _ h.r,ajQ,xW,ajQ,ajQ,fR,qR]
  grind [adr]
theorem DW:∀(a b:List Bd) (R:Rf),R.addXs (a++b)=(R.addXs a).addXs b
 |[],_,_=>rfl
 |x::a,b,R=>by rw[agp,Rf.addXs,Rf.addXs,DW a b]
theorem BG:∀(a:List Bd) (R:Rf),(R.addXs a).ds=R.ds
 |[],_=>rfl
 |x::a,R=>by
  rw[Rf.addXs,BG a]
  grind [Rf.addB,Rf.addH]
theorem Qe(i:Nat):∀(l:List Fu) (k:Nat) (G:Pg) (R:Rf),OV G R->OV (G.addFs i 3 k l) (R.addXs (KS i k l))
 |[],_,_,_,h=>h
 |f::r,k,G,R,h=>Qe i r (k+1) _ _ (abM h i k f)
theorem abN{G:Pg}{R:Rf}(h:OV G R)(i:Nat)(d:De)(p:R.ds[i]? = some d):OV (G.addD i d) (R.addXs (XP i d)):=by
 unfold Pg.addD XP;by_cases j:d.k=3
 .grind [Qe]
 .rw[afp j,afp j];by_cases g:d.k=4\/d.k=5
  .rw[agC g,agC g];exact abL h i d p g
  .rw[afp g,afp g];exact h
theorem Qf(l:List De):∀(suf pre:List De) (G:Pg) (R:Rf),l=pre++suf->R.ds=l->OV G R->OV (G.addDs pre.length suf) (R.addXs (Bz pre.length suf))
 |[],_,_,_,_,_,h=>h
 |d::r,pre,G,R,e,g,h=>by
  rw[Pg.addDs,Bz,DW];have i:R.ds[pre.length]? = some d:=by rw[g,e];simp
  have:=Qf l r (pre++[d]) _ _ (by rw[e];simp) ((BG (XP pre.length d) R).trans g) (abN h pre.length d i)
  grind
theorem rel(l:List De):OV (bF l) (Tn l):=by obtain⟨a,b,c,d,e⟩:=Qf l l [] (⟨l,[],[],[],[],[]⟩:Pg) (⟨l,[],[],[],[],[]⟩:Rf) rfl rfl ⟨rfl,rfl,rfl,rfl,rfl⟩;exact⟨a,b,c,d,e⟩
theorem Qb(l:List De):(Tn l).ds=l:=BG (Bz 0 l) (⟨l,[],[],[],[],[]⟩:Rf)
theorem Rj{β:Type}(f:Bo->β)(bs:List Bo):∀(l:ak) (M:List β),l.map (lk f bs)=M.map some->∀ c∈l,c<bs.length
 |[],_,_,c,hc=>by cases hc
 |_::_,[],h,_,_=>by simp at h
 |c::l,v::M,h,x,g=>by
  simp only[acg,akn]at h;rcases abn.1 g with rfl|g
  .have i:=h.1;unfold lk at i;cases q:bs[x]? with
   |none=>rw[q]at i;cases i
   |some y=>exact(abj.1 q).1
  .exact Rj f bs l M h.2 x g
theorem DV:∀(l:List Bd) (R:Rf),(R.addXs l).fs.length+(R.addXs l).rs.length=R.fs.length+R.rs.length+l.length
 |[],_=>rfl
 |x::r,R=>by
  rw[Rf.addXs,DV r,aeg]
  grind [Rf.addB,Rf.addH]
mutual
theorem Xu(d f:Int)(fn:Bool):∀(e:Ex) (p par:ak),e.ok->∀ y∈lu d f fn p par e,y.e.ok
 |.mk k m n a xs ps,p,par,h,y,hy=>by
  rw[lu,abn]at hy;rcases hy with rfl|hy
  .exact h
  .rw[Ex.ok]at h;exact Sd d f fn xs p k a 0 (by simp_all) y hy
theorem Sd(d f:Int)(fn:Bool):∀(l:List Ex) (p:ak) (k:Int) (a:ak) (i:Nat),Ex.oks l->∀ y∈gU d f fn p k a i l,y.e.ok
 |[],_,_,_,_,_,y,hy=>by simp[gU]at hy
 |x::r,p,k,a,i,h,y,hy=>by
  rw[Ex.oks]at h;rw[gU,aeS]at hy;rcases hy with hy|hy
  .exact Xu d f fn x _ _ h.1 y hy
  .exact Sd d f fn r p k a (i+1) h.2 y hy
end
theorem DU:∀(l:List Bd) (R:Rf),(∀ x∈l,x.e.ok)->(∀ y∈R.ns,y.e.ok)->∀ y∈(R.addXs l).ns,y.e.ok
 |[],_,_,h=>h
 |x::r,R,hl,h=>by
  rw[Rf.addXs];refine DU r _ (λx g=>hl x (abi _ g)) ?_
  grind [Wv,Rf.addB,Xu]
theorem TZ(l:List De)(h:cL bY l=0):aiA (Tn l):=by have g:=DV (Bz 0 l) (⟨l,[],[],[],[],[]⟩:Rf);have h2:=(Mb h).2.2;rw[IC]at g;simp only[aiq,aiM,adO]at g;have h3:(Tn l).fs.length+(Tn l).rs.length=qO l:=g;have h4:=(kD h).2.1;exact⟨by rw[Qb];omega,by omega,by omega⟩
theorem LU(l:List De)(ho:∀ x∈l,x.ok)(h:cL bY l=0):Te (bF l):=by
 have hr:=rel l;have ro:=TZ l h;have g:(bF l).rs.length=(Tn l).rs.length:=by
  have:=aib List.length hr.r
  grind
 have i:(bF l).cs.length=(Tn l).fs.length:=by
  have:=aib List.length hr.c
  grind
 refine⟨by rw[hr.ds];exact ro.ds,by rw[g];exact ro.rs,by rw[i];exact ro.fs,Rj _ _ _ _ hr.r,Rj _ _ _ _ hr.c,λx j=>?_⟩;have hm:nE x∈(Tn l).ns.map zE:=by rw[<- hr.e];exact aiH.2 ⟨x,j,rfl⟩
 obtain⟨z,p,e⟩:=aiH.1 hm;have q:z.e=x.e:=aib Prod.fst e;rw[<- q];exact DU (Bz 0 l) (⟨l,[],[],[],[],[]⟩:Rf) (λx j=>(IB l 0 ho x j).2) (λy hy=>by cases hy) z p
def Ox(l:List De)(m:Mc):Int:=bif cL bY l != 0 then cL bY l else bif gq m (bF l)then 0 else 70
theorem adI(H:DH)(st:Nat)(G:Pg):∃ X,Fz (PX H st G []) H.length G=H++X :=
 ⟨(PL H.length st G).set 3 (.buf 1 false false (nC G.rs)),by rw[Fz,PX,afq,afW _ _ (by omega),show H.length+3 - H.length=3 by omega]⟩
theorem aaI(m:Mc)(mo:IS m)(l:List De)(hl:l.length<2^61)(ho:∀ x∈l,x.ok)(H:DH):∃ X,aq 19 [.agg [.row 14 (l.map ed)],.agg (fv m)] H=ret (.tuple [bif cL bY l != 0 then .nilptr else .ptr (H.length+5) 0,.i (Ox l m)]) (H++X)/\(cL bY l=0->dF (H++X) H.length (bF l)):=by
 obtain⟨st,h⟩:=QD l hl ho H;unfold Ox;by_cases g:cL bY l=0
 .rw[g]at h ⊢;simp only[agk,SE]at h ⊢;obtain⟨H',j,p⟩:=TG m mo (PX H st (bF l) []) (Ul H st (bF l)) (LU l ho g);have r:∃ X,H'=H++X/\dF H' H.length (bF l):=by
   rcases p with rfl|rfl
   .exact⟨PL H.length st (bF l),by rw[PX,afq],Ul H st (bF l)⟩
   simp_all[adI,Vl,Ul]
  obtain⟨X,rfl,t⟩:=r;refine⟨X,ev (f19) ?_,λ_=>t⟩;simp only[av h,dB,aj,au,ba,ax,akg,ge,av j,aP]
  grind
 .have hb:(cL bY l != 0)=true:=by rw[bne,aiS.2 g];rfl
  rw[hb,ge]at h;refine⟨[],ev (f19) ?_,λq=>(g q).elim⟩
  grind [av,dB,aj,au,ba,ax]
end
end Go.Proofs.YtjbplagjmopllaaGreatDoor
namespace Go.Proofs.YtjbplagjmopllaaGreatDoor.Rd
open Go.AI Go.Proofs Go.Proofs.YtjbplagjmopllaaGreatDoor
theorem adb:uy 37=[.bool,.int]:=by kernel_rfl
theorem adg:uy 27=[.int,.int,.sl 37]:=by kernel_rfl
theorem adk:uy 28=[.int,.str,.int,.sl 37,.int]:=by kernel_rfl
theorem acZ:uy 29=[.str,.bool,.int]:=by kernel_rfl
theorem ade:uy 30=[.str,.str,.int,.sl 71]:=by kernel_rfl
theorem acX:uy 71=[.str,.int,.sl 71]:=by kernel_rfl
theorem En{d:D}(h:xz .bool d):∃ b,d=.bool b:=by cases h;exact⟨_,rfl⟩
theorem WV{d:D}(h:xz (.sl 37) d):∃ xs:List Re,d=.row 2 (xs.map im)/\xs.length<2^61:=by
 obtain⟨l,rfl,hl,g⟩:=mS h;rw[adb]at g ⊢;obtain⟨xs,rfl,_⟩:=pick (f:=im) (p:=λ_=>True) (l:=l) λcs hc=>by obtain⟨a,r,rfl,i,h⟩:=aH (g cs hc);obtain⟨b,r,rfl,j,h⟩:=aH h;cases gr h;obtain⟨x,rfl⟩:=En i;obtain⟨n,rfl⟩:=dM j;exact⟨⟨x,n⟩,rfl,trivial⟩
 grind
theorem act{d:D}(h:xz (.sl 27) d):∃ xs:List Fm,d=.row 3 (xs.map gj)/\xs.length<2^61/\∀ x∈xs,x.dn.length<2^61:=by
 obtain⟨l,rfl,hl,i⟩:=mS h;rw[adg]at i ⊢;obtain⟨xs,rfl,hx⟩:=pick (f:=gj) (p:=λx=>x.dn.length<2^61) (l:=l) λcs hc=>by obtain⟨a,r,rfl,j,h⟩:=aH (i cs hc);obtain⟨b,r,rfl,q,h⟩:=aH h;obtain⟨c,r,rfl,t,h⟩:=aH h;cases gr h;obtain⟨x,rfl⟩:=dM j;obtain⟨n,rfl⟩:=dM q;obtain⟨rs,rfl,g⟩:=WV t;exact⟨⟨x,n,rs⟩,rfl,g⟩
 grind
theorem acw{d:D}(h:xz (.sl 28) d):∃ xs:List Ce,d=.row 5 (xs.map gE)/\xs.length<2^61/\∀ x∈xs,x.refs.length<2^61:=by
 obtain⟨l,rfl,hl,i⟩:=mS h;rw[adk]at i ⊢;obtain⟨xs,rfl,j⟩:=pick (f:=gE) (p:=λx=>x.refs.length<2^61) (l:=l) λcs hc=>by obtain⟨a,r,rfl,q,h⟩:=aH (i cs hc);obtain⟨b,r,rfl,t,h⟩:=aH h;obtain⟨c,r,rfl,u,h⟩:=aH h;obtain⟨d,r,rfl,v,h⟩:=aH h;obtain⟨e,r,rfl,w,h⟩:=aH h;cases gr h;obtain⟨k,rfl⟩:=dM q;obtain⟨s,rfl⟩:=eA t;obtain⟨n,rfl⟩:=dM u;obtain⟨rs,rfl,g⟩:=WV v;obtain⟨x,rfl⟩:=dM w;exact⟨⟨k,s,n,rs,x⟩,rfl,g⟩
 exact⟨xs,rfl,by rw[abe]at hl;omega,j⟩
theorem aco{d:D}(h:xz (.sl 29) d):∃ xs:List To,d=.row 3 (xs.map il)/\xs.length<2^61:=by
 obtain⟨l,rfl,hl,g⟩:=mS h;rw[acZ]at g ⊢;obtain⟨xs,rfl,_⟩:=pick (f:=il) (p:=λ_=>True) (l:=l) λcs hc=>by obtain⟨a,r,rfl,i,h⟩:=aH (g cs hc);obtain⟨b,r,rfl,j,h⟩:=aH h;obtain⟨c,r,rfl,q,h⟩:=aH h;cases gr h;obtain⟨s,rfl⟩:=eA i;obtain⟨x,rfl⟩:=En j;obtain⟨n,rfl⟩:=dM q;exact⟨⟨s,⟨x,n⟩⟩,rfl,trivial⟩
 grind
theorem Yg{l:List Va}:(∀ x∈l,x.ok)->Va.oks l:=by
 induction l with
 |nil=>intro _;rw[Va.oks];trivial
 |cons v r ih =>grind [Va.oks]
theorem acn{k:Ck}{d:D}(h:xz k d):k=.sl 71->∃ xs,d=.row 3 (fu xs)/\xs.length<2^61/\Va.oks xs:=by
 induction h with
 |row t ly l g hl i j ih =>
  intro e;cases e;rw[acX]at g;subst g;obtain⟨xs,rfl,q⟩:=pick (f:=qh) (p:=Va.ok) (l:=l) λcs hc=>by obtain⟨a,r,rfl,u,h⟩:=aH (⟨i cs hc,j cs hc⟩:Gj [.str,.int,.sl 71] cs);obtain⟨b,r,rfl,v,h⟩:=aH h;obtain⟨c,r,rfl,h3,h⟩:=aH h;cases gr h;obtain⟨s,rfl⟩:=eA u;obtain⟨n,rfl⟩:=dM v;obtain⟨xs,rfl,w⟩:=ih _ hc 2 _ c rfl rfl rfl;exact⟨.mk s n xs,by rw[qh],by rw[Va.ok];exact w⟩
  refine⟨xs,by rw[lY];rfl,?_,Yg q⟩
  grind
 |_=>intro e;cases e
theorem acq{d:D}(h:xz (.sl 30) d):∃ xs:List Nv,d=.row 4 (xs.map jv)/\xs.length<2^61/\∀ x∈xs,x.v.ok:=by
 obtain⟨l,rfl,hl,i⟩:=mS h;rw[ade]at i ⊢;obtain⟨xs,rfl,hx⟩:=pick (f:=jv) (p:=λx=>x.v.ok) (l:=l) λcs hc=>by obtain⟨a,r,rfl,j,h⟩:=aH (i cs hc);obtain⟨b,r,rfl,q,h⟩:=aH h;obtain⟨c,r,rfl,u,h⟩:=aH h;obtain⟨d,r,rfl,w,h⟩:=aH h;cases gr h;obtain⟨s,rfl⟩:=eA j;obtain⟨t,rfl⟩:=eA q;obtain⟨n,rfl⟩:=dM u;obtain⟨xs,rfl,g⟩:=acn w rfl;exact⟨⟨s,.mk t n xs⟩,rfl,by rw[Va.ok];exact g⟩
 grind
theorem acr{ds:List D}(h:Gj [.int,.int,.int,.bool,.int,.sl 27,.sl 28,.sl 29,.int,.sl 30,.int] ds):∃ m:Mc,ds=fv m/\IS m:=by obtain⟨a0,r,rfl,h0,h⟩:=aH h;obtain⟨a1,r,rfl,g,h⟩:=aH h;obtain⟨a2,r,rfl,i,h⟩:=aH h;obtain⟨a3,r,rfl,j,h⟩:=aH h;obtain⟨a4,r,rfl,p,h⟩:=aH h;obtain⟨a5,r,rfl,q,h⟩:=aH h;obtain⟨a6,r,rfl,t,h⟩:=aH h;obtain⟨a7,r,rfl,u,h⟩:=aH h;obtain⟨a8,r,rfl,v,h⟩:=aH h;obtain⟨a9,r,rfl,w,h⟩:=aH h;obtain⟨aa,r,rfl,y,h⟩:=aH h;cases gr h;obtain⟨n0,rfl⟩:=dM h0;obtain⟨n1,rfl⟩:=dM g;obtain⟨n2,rfl⟩:=dM i;obtain⟨z,rfl⟩:=En j;obtain⟨n4,rfl⟩:=dM p;obtain⟨fr,rfl,A,f2⟩:=act q;obtain⟨ce,rfl,c1,c2⟩:=acw t;obtain⟨to,rfl,B⟩:=aco u;obtain⟨E,rfl⟩:=dM v;obtain⟨ou,rfl,o1,F⟩:=acq w;obtain⟨na,rfl⟩:=dM y;exact⟨⟨n0,n1,n2,z,n4,fr,ce,to,E,ou,na⟩,rfl,⟨c1,c2,B,o1,F,A,f2⟩⟩
end Go.Proofs.YtjbplagjmopllaaGreatDoor.Rd
namespace Go.Proofs.YtjbplagjmopllaaGreatDoor
open Go.AI
section
theorem f21{R:aM}{h:Mc}{H:DH}:aA R 21 [.agg (fv h)] H =
 aU (R (.call 42 [.row 3 (h.fr.map gj)] none) H) (λa H=>aU (R (.call 43 [.row 5 (h.ce.map gE)] none) H) (λb H=>aU (R (.call 44 [.row 3 (h.to.map il)] none) H) (λc H=>aU (R (.call 45 [.row 4 (h.ou.map jv)] none) H) (λd H=>ah 1 a λa=>aw (fv h) 5 a λa=>ah 1 b λb=>aw a 6 b λa=>ah 1 c λb=>aw a 7 b λa=>ah 1 d λb=>aw a 9 b λa=>af a 5 λb=>aS ab 27 b H λb=>ae R 21 200003 [.lp 0 0,.lp 1 0,.g b,.n 0] [(0,a),(0,[.i 0,.i 0,.i 0,.bool false,.i 0,.nilrow,.nilrow,.nilrow,.i 0,.nilrow,.i 0])] H) λ_ _=>none) λ_ _=>none) λ_ _=>none) λ_ _=>none:=by kernel_rfl
theorem AV{R:aM}{a b:Int}{w0:List D}{c e h:Int}{j:Bool}{k:Int}{l m p:D}{q:Int}{r:D}{s:Int}{H:DH}:aV R 21 200003 [.lp 0 0,.lp 1 0,.n a,.n b] [(0,w0),(0,xM c e h j k l m p q r s)] H =
 cond (decide (b<a)) (af w0 5 λd=>ay ab 27 d (.i b) λd=>ct d 2 λd=>bW ab 37 d H λd=>aU (R (.call 46 [d] none) H) (λd H=>af w0 5 λf=>ay ab 27 f (.i b) λf=>ct f 2 λf=>ah 1 d λd=>IY f d H λH=>ae R 21 200003 [.lp 0 0,.lp 1 0,.n a,.n (di (b+1))] [(0,w0),(0,xM c e h j k l m p q r s)] H) λ_ _=>none) (af w0 6 λa=>aS ab 28 a H λa=>ae R 21 200008 [.lp 0 0,.lp 1 0,.g a,.n 0] [(0,w0),(0,xM c e h j k l m p q r s)] H):=by kernel_rfl
theorem AU{R:aM}{a b:Int}{w0:List D}{c e h:Int}{j:Bool}{k:Int}{l m p:D}{q:Int}{r:D}{s:Int}{H:DH}:aV R 21 200008 [.lp 0 0,.lp 1 0,.n a,.n b] [(0,w0),(0,xM c e h j k l m p q r s)] H =
 cond (decide (b<a)) (af w0 6 λd=>ay ab 28 d (.i b) λd=>ct d 3 λd=>bW ab 37 d H λd=>aU (R (.call 46 [d] none) H) (λd H=>af w0 6 λf=>ay ab 28 f (.i b) λf=>ct f 3 λf=>ah 1 d λd=>IY f d H λH=>ae R 21 200008 [.lp 0 0,.lp 1 0,.n a,.n (di (b+1))] [(0,w0),(0,xM c e h j k l m p q r s)] H) λ_ _=>none) (af w0 9 λa=>aS ab 30 a H λa=>ae R 21 200013 [.lp 0 0,.lp 1 0,.g a,.n 0] [(0,w0),(0,xM c e h j k l m p q r s)] H):=by kernel_rfl
theorem sj{R:aM}{a b:Int}{w0:List D}{c e h:Int}{j:Bool}{k:Int}{l m p:D}{q:Int}{r:D}{s:Int}{H:DH}:aV R 21 200013 [.lp 0 0,.lp 1 0,.n a,.n b] [(0,w0),(0,xM c e h j k l m p q r s)] H =
 cond (decide (b<a)) (af w0 9 λd=>ay ab 30 d (.i b) λd=>ct d 1 λd=>bW ab 73 d H λd=>aU (R (.call 47 [d] none) H) (λd H=>af w0 9 λf=>ay ab 30 f (.i b) λf=>ct f 1 λf=>ah 3 d λd=>IY f d H λH=>ae R 21 200013 [.lp 0 0,.lp 1 0,.n a,.n (di (b+1))] [(0,w0),(0,xM c e h j k l m p q r s)] H) λ_ _=>none) (af w0 0 λa=>af w0 1 λb=>af w0 2 λc=>af w0 3 λd=>af w0 4 λe=>af w0 5 λf=>af w0 6 λg=>af w0 7 λh=>af w0 8 λi=>af w0 9 λj=>af w0 10 λk=>ret (.agg [a,b,c,d,e,f,g,h,i,j,k]) H):=by kernel_rfl
theorem f43{R:aM}{g:aO}{H:DH}:aA R 43 [.row 5 g] H =
 iC .eql g λa=>brD a (ret .nilrow H) (bX (aF ab 112) 5 .nilrow g H λa H=>ret a H):=by kernel_rfl
theorem f46{R:aM}{g:aO}{H:DH}:aA R 46 [.row 2 g] H =
 iC .eql g λa=>brD a (ret .nilrow H) (bX (aF ab 26) 2 .nilrow g H λa H=>ret a H):=by kernel_rfl
theorem f44{R:aM}{g:aO}{H:DH}:aA R 44 [.row 3 g] H =
 iC .eql g λa=>brD a (ret .nilrow H) (bX (aF ab 114) 3 .nilrow g H λa H=>ret a H):=by kernel_rfl
theorem f42{R:aM}{g:aO}{H:DH}:aA R 42 [.row 3 g] H =
 iC .eql g λa=>brD a (ret .nilrow H) (bX (aF ab 39) 3 .nilrow g H λa H=>ret a H):=by kernel_rfl
theorem f47{R:aM}{a:ak}{b:Int}{c:aO}{H:DH}:aA R 47 [.agg (xV a b c)] H =
 aY H (ae R 47 200003 [.lp 1 0,.lp 2 0,.g (.row 3 c),.n c.length,.n 0] [(0,[]),(0,[.str [],.i 0,.nilrow]),(0,[.str a,.i b,.nilrow])] H):=by kernel_rfl
theorem AO{R:aM}{a:aO}{b c:Int}{e:ak}{h:Int}{j:D}{k:ak}{l:Int}{m:D}{H:DH}:aV R 47 200003 [.lp 1 0,.lp 2 0,.g (.row 3 a),.n b,.n c] [(0,[]),(0,[.str e,.i h,j]),(0,[.str k,.i l,m])] H =
 cond (decide (c<b)) (dV c λd=>bZ a d λd=>af d 0 λf=>af d 1 λg=>af d 2 λd=>aU (R (.call 47 [.agg [f,g,d]] none) H) (λd H=>ah 3 d λd=>bX (aF ab 73) 3 m [d] H λd H=>ah 1 d λd=>aw [.str k,.i l,m] 2 d λd=>ae R 47 200003 [.lp 1 0,.lp 2 0,.g (.row 3 a),.n b,.n (di (c+1))] [(0,[]),(0,[.str e,.i h,j]),(0,d)] H) λ_ _=>none) (iW (.fz 3) m H λa H=>ret (.agg [.str k,.i l,a]) H):=by kernel_rfl
theorem f45{R:aM}{g:aO}{H:DH}:aA R 45 [.row 4 g] H =
 iC .eql g λa=>brD a (ret .nilrow H) (bX (aF ab 75) 4 .nilrow g H λa H=>ret a H):=by kernel_rfl
theorem ub{a b:Nat}(h:a<b):decide ((a:Int)<(b:Int))=true:=by simp;exact h
theorem Cu(a:Nat):decide ((a:Int)<(a:Int))=false:=by simp
theorem IV(k:Nat)(h:k<2^62):di ((k:Int)+1)=((k+1:Nat):Int):=aX h
theorem xg{a b:Nat}(h:a<b):Nat.blt a b=true:=by unfold Nat.blt;exact abk h
def afm(ce:List Ce):Prop:=∀ c∈ce,c.refs.length<2^61/\(∀ r∈c.refs,r.c=true->0<=r.n/\r.n<ce.length)/\(-1<=c.nx/\c.nx<ce.length)/\(c.k=1->c.nx=-1)
theorem qP(a b c:D)(κ:List D->ai):ah 3 (.agg [a,b,c]) κ=κ [a,b,c]:=rfl
theorem vX{P:Program}{t:TypeId}{m b:Nat}(h:aF P t m=(Nat.ble (b*(m+Nat.div m 4+600)) 281474976710656&&Nat.ble m 4611686018427387904))(hb:b<=1000)(hm:m<=4194304):aF P t m=true:=by rw[h,aaV];refine⟨abk ?_,abk (by omega)⟩;have h1:Nat.div m 4<=m:=Nat.div_le_self m 4;have h2:b*(m+Nat.div m 4+600)<=1000*(4194304+4194304+600):=Nat.mul_le_mul hb (by omega);omega
theorem Jy{m:Nat}(h:m<=4194304):aF ab 26 m=true:=vX (b:=16) (by kernel_rfl) (by decide) h
theorem LH{m:Nat}(h:m<=4194304):aF ab 39 m=true:=vX (b:=40) (by kernel_rfl) (by decide) h
theorem LG{m:Nat}(h:m<=4194304):aF ab 112 m=true:=vX (b:=64) (by kernel_rfl) (by decide) h
theorem sU{m:Nat}(h:m<=4194304):aF ab 114 m=true:=vX (b:=32) (by kernel_rfl) (by decide) h
theorem TW{m:Nat}(h:m<=4194304):aF ab 75 m=true:=vX (b:=64) (by kernel_rfl) (by decide) h
theorem TX{m:Nat}(h:m<=4194304):aF ab 73 m=true:=vX (b:=48) (by kernel_rfl) (by decide) h
def bw(H:DH)(sz:Nat)(l:aO)(d:D):Prop:=d=.row sz l\/(d=.nilrow/\l=[])\/(∃ o st cp,d=.buf sz o l.length/\H[o]? = some (.buf sz st cp l))\/∃ o s,d=.tb sz o s l.length/\H[o]? = some (.tbuf sz s l)
def Pb(H:DH)(cs:List D)(c:Nat)(a:D):Prop:=a=.eptr cs c\/(∃ o i sz st cp l,a=.bptr o (List.length l) i c/\H[o]? = some (.buf sz st cp l)/\l[i]? = some cs)\/∃ o s i sz l,a=.tptr o s i c/\H[o]? = some (.tbuf sz s l)/\l[i]? = some cs
variable{H:DH}{sz:Nat}{l:aO}{d a:D}{cs:List D}{c:Nat}{P:Program}{ty el:TypeId}
theorem bw.len(h:bw H sz l d)(g:P.underlying ty=some (.slice el))(κ:D->ai):aS P ty d H κ=κ (.i l.length):=by rcases h with rfl|⟨rfl,rfl⟩|⟨o,st,cp,rfl,_⟩|⟨o,s,rfl,_⟩<;>(rw[aS,g];try rfl)
theorem bw.ix(h:bw H sz l d)(g:P.underlying ty=some (.slice el))(j:size P el=some sz){i:Nat}(hi:l[i]? = some cs):∃ a,Pb H cs 0 a/\∀ κ:D->ai,ay P ty d (.i i) κ=κ a:=by
 rcases h with rfl|⟨rfl,rfl⟩|⟨o,st,cp,rfl,hb⟩|⟨o,s,rfl,hb⟩
 .refine⟨.eptr cs 0,.inl rfl,λκ=>?_⟩;rw[ay,g];simp only[j,Hu,acD,ge,bS,aD hi]
 .cases hi
 .refine⟨.bptr o l.length i 0,.inr (.inl ⟨o,i,sz,st,cp,l,rfl,hb,hi⟩),λκ=>?_⟩;rw[ay,g];simp only[j,Hu,acD,ge,bS,xg (abj.1 hi).1,boK]
 .refine⟨.tptr o s i 0,.inr (.inr ⟨o,s,i,sz,l,rfl,hb,hi⟩),λκ=>?_⟩;rw[ay,g];simp only[j,Hu,acD,ge,bS,xg (abj.1 hi).1,boK]
theorem Pb.fad(h:Pb H cs c a)(k:Nat):∃ g,Pb H cs (c+k) g/\∀ κ:D->ai,ct a k κ=κ g:=by
 rcases h with rfl|⟨o,i,sz,st,cp,l,rfl,hb,hi⟩|⟨o,s,i,sz,l,rfl,hb,hi⟩
 .exact⟨.eptr cs (c+k),.inl rfl,λ_=>rfl⟩
 .exact⟨.bptr o l.length i (c+k),.inr (.inl ⟨o,i,sz,st,cp,l,rfl,hb,hi⟩),λ_=>rfl⟩
 .exact⟨.tptr o s i (c+k),.inr (.inr ⟨o,s,i,sz,l,rfl,hb,hi⟩),λ_=>rfl⟩
theorem Pb.ld(h:Pb H cs c a)(κ:D->ai):bW P ty a H κ=br P ty cs c κ:=by
 rcases h with rfl|⟨o,i,sz,st,cp,l,rfl,hb,hi⟩|⟨o,s,i,sz,l,rfl,hb,hi⟩
 .rfl
 .rw[bW,cD hb,aD hi]
 .rw[bW,IX,hb];simp only[acD,ge,aD hi]
def bP(sz n:Nat)(l:aO):D:=match l with
 |[]=>.nilrow
 |_::_=>.buf sz n l.length
def dD(sz:Nat)(l:aO):DH:=match l with
 |[]=>[]
 |_::_=>[.buf sz true false l]
theorem lH{ok:Nat->Bool}(sz:Nat)(l:aO)(h0:ok 0=true)(h:ok l.length=true)(H:DH):(iC .eql l λa=>brD a (ret .nilrow H) (bX ok sz .nilrow l H λa H=>ret a H))=ret (bP sz H.length l) (H++dD sz l):=by
 cases l with
 |nil =>
  rw[zA,brD,wT,dD,afq];have:bX ok sz .nilrow [] H (λa H=>ret a H)=ret .nilrow H:=by simp only[bX,aiq,h0,boK,ge]
  rw[this,agC rfl];rfl
 |cons x r =>rw[wd,ax,SE,lL h];rfl
theorem aeB(l:aO)(hl:l.length<=4194304)(H:DH):aq 42 [.row 3 l] H=ret (bP 3 H.length l) (H++dD 3 l):=ev (f42) (lH 3 l (LH (by omega)) (LH hl) H)
theorem aeA(l:aO)(hl:l.length<=4194304)(H:DH):aq 43 [.row 5 l] H=ret (bP 5 H.length l) (H++dD 5 l):=ev (f43) (lH 5 l (LG (by omega)) (LG hl) H)
theorem aez(l:aO)(hl:l.length<=4194304)(H:DH):aq 44 [.row 3 l] H=ret (bP 3 H.length l) (H++dD 3 l):=ev (f44) (lH 3 l (sU (by omega)) (sU hl) H)
theorem aey(l:aO)(hl:l.length<=4194304)(H:DH):aq 45 [.row 4 l] H=ret (bP 4 H.length l) (H++dD 4 l):=ev (f45) (lH 4 l (TW (by omega)) (TW hl) H)
theorem XK(l:aO)(hl:l.length<=4194304)(H:DH):aq 46 [.row 2 l] H=ret (bP 2 H.length l) (H++dD 2 l):=ev (f46) (lH 2 l (Jy (by omega)) (Jy hl) H)
def qV(H:DH)(b sz:Nat)(l:aO)(d:D):Prop:=(d=.nilrow/\l=[])\/∃ o,d=.buf sz o l.length/\b<=o/\H[o]? = some (.buf sz true false l)
theorem qV.is{b:Nat}(h:qV H b sz l d):bw H sz l d:=by
 rcases h with h|⟨o,e,_,hb⟩
 .exact .inr (.inl h)
 .exact .inr (.inr (.inl ⟨o,true,false,e,hb⟩))
def ci(b:Nat)(H H':DH):Prop:=H.length<=H'.length/\∀ i,i<b->H'[i]? = H[i]?
theorem ci.refl(b:Nat)(H:DH):ci b H H:=⟨aaW _,λ_ _=>rfl⟩
theorem ci.trans{b:Nat}{H1 H2 g:DH}(h:ci b H1 H2)(k:ci b H2 g):ci b H1 g:=⟨acd h.1 k.1,λi hi=>(k.2 i hi).trans (h.2 i hi)⟩
theorem qV.put{b:Nat}{ok:Nat->Bool}(h:qV H b sz l d)(p:b<=H.length)(g:ok 1=true)(q:ok (l.length+1)=true)(x:List D):∃ j H',(∀ κ:D->DH->ai,bX ok sz d [x] H κ=κ j H')/\qV H' b sz (l++[x]) j/\ci b H H':=by
 rcases h with⟨rfl,rfl⟩|⟨o,rfl,ho,hb⟩
 .refine⟨.buf sz H.length 1,H++[.buf sz true false [x]],λκ=>lL (r:=[]) g,.inr ⟨H.length,rfl,p,aZ H _⟩,by simp,λi hi=>?_⟩
  grind
 .refine⟨.buf sz o (l.length+1),H.set o (.buf sz true false (l++[x])),λκ=>kE hb g q,.inr ⟨o,by simp,ho,aT _ hb⟩,by simp,λi hi=>?_⟩
  grind
mutual
def Va.sm:Va->Prop
 |.mk _ _ xs=>xs.length<=1048576/\Va.sms xs
def Va.sms:List Va->Prop
 |[]=>True
 |v::r=>v.sm/\Va.sms r
end
mutual
theorem Pq(n:Nat):∀ v:Va,eL n (qh v)
 |.mk c k xs=>by simp only[qh,eL,D.bel,ajR,akl];exact Ed n xs
theorem Ed(n:Nat):∀ l:List Va,eo n (fu l)
 |[]=>trivial
 |v::r=>⟨Pq n v,Ed n r⟩
end
theorem yz{H H':DH}{d:D}(h:ci H.length H H')(j:d.bel H.length):aY H (ret d H')=ret d H:=by
 have e:H'.take H.length=H:=by
  refine ajl λi=>?_;rw[ajO];split
  .rename_i hi;exact h.2 i hi
  grind
 have ht:ol H ⟨.ret d,none,H'⟩:=⟨by simpa only[CB.bel]using j,rfl,h.1,λi b hi g=>.inl (by rw[h.2 i hi]at g;exact g)⟩;simp_all[aY]
theorem qV.fz{H:DH}{b sz:Nat}{l:aO}{d:D}(h:qV H b sz l d)(hb:b<=H.length):∃ H',(∀ κ:D->DH->ai,iW (.fz sz) d H κ=κ (.row sz l) H')/\ci b H H':=by
 rcases h with⟨rfl,rfl⟩|⟨o,rfl,ho,g⟩
 .exact⟨H,λ_=>rfl,ci.refl _ _⟩
 .refine⟨H.set o (.buf sz false false l),λκ=>HD g,by simp,λi hi=>?_⟩
  grind
theorem qV.c1{H:DH}{b sz:Nat}{l:aO}{d:D}(h:qV H b sz l d)(κ:List D->ai):ah 1 d κ=κ [d]:=by rcases h with⟨rfl,_⟩|⟨o,rfl,_⟩<;>rfl
theorem Bk(sz n:Nat)(l:aO)(κ:List D->ai):ah 1 (bP sz n l) κ=κ [bP sz n l]:=by cases l<;>rfl
theorem Xi(x y z a:D)(κ:List D->ai):aw [x,y,z] 2 [a] κ=κ [x,y,a]:=rfl
mutual
theorem aeu:∀ v:Va,v.sm->∀ H:DH,aq 47 [.agg (qh v)] H=ret (.agg (qh v)) H
 |.mk c n xs,h,H=>by
  obtain⟨H',k,e⟩:=XC c n xs h.1 xs [] rfl h.2 H .nilrow H.length [] 0 .nilrow (.inl ⟨rfl,rfl⟩) (aaW _);refine ev (f47) ?_;rw[gd];refine(aib (aY H) e).trans (yz k ?_)
  grind [D.bel,eL,Ed]
theorem XC(c:ak)(n:Int)(xs:List Va)(hl:xs.length<=1048576):∀(suf pre:List Va),xs=pre++suf->Va.sms suf->∀(H:DH) (m:D) (b:Nat) (e:ak) (h:Int) (j:D),qV H b 3 (fu pre) m->b<=H.length ->
 ∃ H',ci b H H'/\ae aB 47 200003 [.lp 1 0,.lp 2 0,.g (.row 3 (fu xs)),.n xs.length,.n pre.length] [(0,[]),(0,[.str e,.i h,j]),(0,[.str c,.i n,m])] H=ret (.agg (xV c n (fu xs))) H'
 |[],pre,q,_,H,m,b,e,h,j,t,hb=>by
  have e2:xs=pre:=by rw[q];simp
  obtain⟨H',hf,k⟩:=t.fz hb;refine⟨H',k,cj (AO) ?_⟩
  grind
 |v::suf,pre,q,w,H,m,b,e,h,j,t,hb=>by
  have hi:pre.length<xs.length:=by rw[q];simp
  have u:(fu xs)[pre.length]? = some (qh v):=by rw[q];exact Ll _ _ _
  obtain⟨A,H1,hp,p,y⟩:=t.put (ok:=aF ab 73) hb (TX (by omega)) (TX (by rw[gd];omega)) (qh v);have r:fu pre++[qh v]=fu (pre++[v]):=by simp[lY]
  rw[r]at p;obtain⟨H2,B,ih⟩:=XC c n xs hl suf (pre++[v]) (by rw[q];simp) w.2 H1 A b e h j p (acd hb y.1);rw[aaY,abc]at ih;have z:=aeu v w.1 H;obtain⟨vc,vn,vx⟩:=v;refine⟨H2,y.trans B,cj (AO) ?_⟩;rw[ub hi,ge,bS,aD u];simp only[qh]at z ⊢;simp only[aj,au];refine(aG z).trans ?_;rw[qP];simp only[qh]at hp;rw[hp,p.c1,Xi,IV pre.length (by omega)];exact ih
end
abbrev ia(k:Nat)(r:Re):Prop:=r.c=true->0<=r.n/\r.n<k
theorem bw.keep{H H':DH}{sz:Nat}{l:aO}{d:D}(h:bw H sz l d)(k:ci H.length H H'):bw H' sz l d:=by
 rcases h with h|h|⟨o,st,cp,e,hb⟩|⟨o,s,e,hb⟩
 .exact .inl h
 .exact .inr (.inl h)
 .exact .inr (.inr (.inl ⟨o,st,cp,e,by rw[k.2 o (bu hb)];exact hb⟩))
 .exact .inr (.inr (.inr ⟨o,s,e,by rw[k.2 o (bu hb)];exact hb⟩))
theorem ci.le{a b:Nat}{H H':DH}(h:ci b H H')(hab:a<=b):ci a H H':=⟨h.1,λi hi=>h.2 i (by omega)⟩
theorem ci.app(H X:DH):ci H.length H (H++X):=⟨by simp,λi hi=>abo hi⟩
abbrev Le:List D:=[.i 0,.i 0,.i 0,.bool false,.i 0,.nilrow,.nilrow,.nilrow,.i 0,.nilrow,.i 0]
end
section
structure CC(m:Mc):Prop where
 ce:m.ce.length<=1048576
 refs:∀ c∈m.ce,c.refs.length<=1048576
 fr:m.fr.length<=1048576
 dn:∀ f∈m.fr,f.dn.length<=1048576
 to:m.to.length<=1048576
 ou:m.ou.length<=1048576
 v:∀ x∈m.ou,x.v.sm
structure aiD(m:Mc):Prop where
 ces:afm m.ce
 v:ia m.ce.length ⟨m.vc,m.vn⟩
 en:m.en<m.ce.length
 to:∀ t∈m.to,ia m.ce.length t.r
 fr:∀ f∈m.fr,f.en<m.ce.length/\∀ r∈f.dn,ia m.ce.length r
theorem Tq(l:ak)(κ:List D->ai):ah 1 (.str l) κ=κ [.str l]:=rfl
theorem Qx(x y z a:D)(κ:List D->ai):aw [x,y,z] 0 [a] κ=κ [a,y,z]:=rfl
theorem YR(x y z a:D)(κ:List D->ai):aw [x,y,z] 1 [a] κ=κ [x,a,z]:=rfl
theorem ach(x y z a b:D)(κ:List D->ai):aw [x,y,z] 1 [a,b] κ=κ [x,a,b]:=rfl
theorem ace(x y z u v a:D)(κ:List D->ai):aw [x,y,z,u,v] 2 [a] κ=κ [x,y,a,u,v]:=rfl
theorem agc(x y z u v a:D)(κ:List D->ai):aw [x,y,z,u,v] 3 [a] κ=κ [x,y,z,a,v]:=rfl
theorem YP(x y z u v a:D)(κ:List D->ai):aw [x,y,z,u,v] 4 [a] κ=κ [x,y,z,u,a]:=rfl
theorem UX(a b c d e:D)(κ:List D->ai):ah 5 (.agg [a,b,c,d,e]) κ=κ [a,b,c,d,e]:=rfl
section
variable(x0 x1 x2 x3 x4 x5 x6 x7 x8 x9 xt a b:D)(κ:List D->ai)
theorem om5:aw [x0,x1,x2,x3,x4,x5,x6,x7,x8,x9,xt] 5 [a] κ=κ [x0,x1,x2,x3,x4,a,x6,x7,x8,x9,xt]:=rfl
theorem om6:aw [x0,x1,x2,x3,x4,x5,x6,x7,x8,x9,xt] 6 [a] κ=κ [x0,x1,x2,x3,x4,x5,a,x7,x8,x9,xt]:=rfl
theorem om7:aw [x0,x1,x2,x3,x4,x5,x6,x7,x8,x9,xt] 7 [a] κ=κ [x0,x1,x2,x3,x4,x5,x6,a,x8,x9,xt]:=rfl
theorem om9:aw [x0,x1,x2,x3,x4,x5,x6,x7,x8,x9,xt] 9 [a] κ=κ [x0,x1,x2,x3,x4,x5,x6,x7,x8,a,xt]:=rfl
end
end
section
def qf(H:DH)(rf:aO)(fs:List Fm):Prop:=rf.length=fs.length/\∀(i:Nat) (f:Fm),fs[i]? = some f->∃ dd,rf[i]? = some [.i f.ex,.i f.en,dd]/\bw H 2 (f.dn.map im) dd
def fN(H:DH)(rc:aO)(cs:List Ce):Prop:=rc.length=cs.length/\∀(i:Nat) (c:Ce),cs[i]? = some c->∃ dd,rc[i]? = some [.i c.k,.str c.con,.i c.n,dd,.i c.nx]/\bw H 2 (c.refs.map im) dd
structure afh(H:DH)(m:Mc)(dfr dce dto dou:D):Prop where
 fr:∃ rf,bw H 3 rf dfr/\qf H rf m.fr
 ce:∃ rc,bw H 5 rc dce/\fN H rc m.ce
 to:bw H 3 (m.to.map il) dto
 ou:bw H 4 (m.ou.map jv) dou
def JV(m:Mc)(dfr dce dto dou:D):List D:=(xM m.mo m.ex m.en m.vc m.vn dfr dce dto m.bo dou m.st)
theorem w38:ab.underlying 27=some (.slice 39):=by kernel_rfl
theorem Lj:ab.underlying 28=some (.slice 112):=by kernel_rfl
theorem w40:ab.underlying 29=some (.slice 114):=by kernel_rfl
theorem w41:ab.underlying 30=some (.slice 75):=by kernel_rfl
theorem rE:ab.underlying 37=some (.slice 26):=by kernel_rfl
theorem afN:size ab 39=some 3:=by kernel_rfl
theorem Ez:size ab 112=some 5:=by kernel_rfl
theorem Yz:size ab 114=some 3:=by kernel_rfl
theorem WI:size ab 26=some 2:=by kernel_rfl
theorem Tr(cs:List D)(c:Nat)(κ:D->ai):br ab 3 cs c κ=af cs c κ:=by kernel_rfl
theorem c9i(cs:List D)(c:Nat)(κ:D->ai):br ab 9 cs c κ=af cs c κ:=by kernel_rfl
theorem XO(cs:List D)(c:Nat)(κ:D->ai):br ab 37 cs c κ=af cs c κ:=by kernel_rfl
theorem KP(a b:D)(κ:D->ai):br ab 26 [a,b] 0 κ=κ (.agg [a,b]):=by kernel_rfl
theorem Ng(a b c d e:D)(κ:D->ai):br ab 112 [a,b,c,d,e] 0 κ=κ (.agg [a,b,c,d,e]):=by kernel_rfl
theorem aeO(a b c:D)(κ:D->ai):br ab 114 [a,b,c] 0 κ=κ (.agg [a,b,c]):=by kernel_rfl
theorem ais(z a b c:D)(κ:D->ai):br ab 73 [z,a,b,c] 1 κ=κ (.agg [a,b,c]):=by kernel_rfl
theorem dO{H:DH}{sz:Nat}{l:aO}{d:D}(h:bw H sz l d){ty el:TypeId}(g:ab.underlying ty=some (.slice el))(j:size ab el=some sz){i:Nat}{cs:List D}(hi:l[i]? = some cs)(t:TypeId)(κ:D->ai):(ay ab ty d (.i i) λa=>bW ab t a H κ)=br ab t cs 0 κ:=by obtain⟨a,p,e⟩:=h.ix g j hi;rw[e,p.ld]
theorem ji{H:DH}{sz:Nat}{l:aO}{d:D}(h:bw H sz l d){ty el:TypeId}(j:ab.underlying ty=some (.slice el))(p:size ab el=some sz){i:Nat}{cs:List D}(hi:l[i]? = some cs)(k:Nat)(t:TypeId)(κ:D->ai):(ay ab ty d (.i i) λa=>ct a k λa=>bW ab t a H κ)=br ab t cs k κ:=by obtain⟨a,q,e⟩:=h.ix j p hi;obtain⟨a',g,r⟩:=q.fad k;rw[e,r,g.ld,adO]
end
section
def cd(o:Nat)(rs:List Re):D:=bP 2 o (rs.map im)
section
variable{α:Type}(mk:α->D->List D)(inn:α->List Re)
def dN(fs:List α)(os:List Nat):aO:=List.zipWith (λf o=>mk f (cd o (inn f))) fs os
structure vP(H:DH)(b:Nat)(fs:List α)(os:List Nat):Prop where
 len:os.length=fs.length
 own:∀(i:Nat) (f:α) (o:Nat),fs[i]? = some f->os[i]? = some o->inn f≠[]->b<=o/\H[o]? = some (.buf 2 true false ((inn f).map im))
 inj:∀(i j:Nat) (f g:α) (o:Nat),i≠j->fs[i]? = some f->fs[j]? = some g->os[i]? = some o->os[j]? = some o->inn f≠[]->inn g≠[]->False
variable{mk inn}
theorem vP.nil(H:DH)(b:Nat):vP inn H b [] []:=⟨rfl,λi f o h=>by simp at h,λi j f g o _ h=>by simp at h⟩
theorem vP.keep{H H':DH}{b:Nat}{fs:List α}{os:List Nat}(h:vP inn H b fs os)(k:∀(o:Nat) (x:DB),b<=o->H[o]? = some x->H'[o]? = some x):vP inn H' b fs os :=
 ⟨h.len,λi f o g j p=>⟨(h.own i f o g j p).1,k _ _ (h.own i f o g j p).1 (h.own i f o g j p).2⟩,h.inj⟩
theorem xI{β:Type}{l:List β}{x y:β}{i:Nat}(h:(l++[x])[i]? = some y):l[i]? = some y\/(i=l.length/\y=x):=by grind
theorem vP.put{H:DH}{b:Nat}{fs:List α}{os:List Nat}(h:vP inn H b fs os)(hb:b<=H.length)(f:α):vP inn (H++dD 2 ((inn f).map im)) b (fs++[f]) (os++[H.length]):=by
 refine⟨by simp[h.len],λi g o w t p=>?_,λi j g g' o u w t p v y z=>?_⟩
 .rcases xI w with q|⟨q,rfl⟩
  .have hi:=(abj.1 q).1;rw[abo (by rw[h.len];exact hi)]at t;obtain⟨p1,p2⟩:=h.own i g o q t p
   grind
  .have e:o=H.length:=by
    rw[q,<- h.len]at t
    grind
   subst e;refine⟨hb,?_⟩;cases A:(inn g).map im with
   |nil=>exact absurd (List.map_eq_nil_iff.1 A) p
   |cons x r=>exact aZ H _
 .have key:∀(i j:Nat) (g g':α),i≠j->(fs++[f])[i]? = some g->(fs++[f])[j]? = some g'->(os++[H.length])[i]? = some o->(os++[H.length])[j]? = some o->inn g≠[]->inn g'≠[]->fs[i]? = some g->False:=by
   intro i j g g' u w t p v y z q;have hi:=(abj.1 q).1;rw[abo (by rw[h.len];exact hi)]at p;have hlt:=bu (h.own i g o q p y).2;rcases xI t with r|⟨r,_⟩
   .have B:=(abj.1 r).1;rw[abo (by rw[h.len];exact B)]at v;exact h.inj i j g g' o u q r p v y z
   .rw[r,<- h.len]at v
    grind
  grind
end
end
section
def IZ(f:Fm)(d:D):List D:=[.i f.ex,.i f.en,d]
def Mm(c:Ce)(d:D):List D:=[.i c.k,.str c.con,.i c.n,d,.i c.nx]
theorem Rp(o n i:Nat)(κ:D->ai):ay ab 27 (.buf 3 o n) (.i i) κ=boK (Nat.blt i n) (κ (.bptr o n i 0)):=by kernel_rfl
theorem Rn(o n i:Nat)(κ:D->ai):ay ab 28 (.buf 5 o n) (.i i) κ=boK (Nat.blt i n) (κ (.bptr o n i 0)):=by kernel_rfl
theorem Rm(o n i:Nat)(κ:D->ai):ay ab 30 (.buf 4 o n) (.i i) κ=boK (Nat.blt i n) (κ (.bptr o n i 0)):=by kernel_rfl
theorem Mq(o n i c:Nat)(H:DH)(κ:D->ai):bW ab 37 (.bptr o n i c) H κ=dl H o n λ_ _ _ l=>bZ l i λcs=>af cs c κ:=by kernel_rfl
theorem Zr(o n i:Nat)(H:DH)(κ:D->ai):bW ab 73 (.bptr o n i 1) H κ=dl H o n λ_ _ _ l=>bZ l i λcs=>br ab 73 cs 1 κ:=by kernel_rfl
theorem Di(o n i c k:Nat)(κ:D->ai):ct (.bptr o n i c) k κ=κ (.bptr o n i (c+k)):=rfl
theorem lst(o n i c:Nat)(new:List D)(H:DH)(κ:DH->ai):IY (.bptr o n i c) new H κ=dl H o n λsz st cap l=>boK st (bZ l i λcs=>aw cs c new λcs=>κ (H.set o (.buf sz st cap (l.set i cs)))):=rfl
theorem vF{H:DH}{o n sz:Nat}{st cp:Bool}{l:aO}{κ:Nat->Bool->Bool->aO->ai}(h:H[o]? = some (.buf sz st cp l))(g:l.length=n):dl H o n κ=κ sz st cp l:=by subst g;exact cD h
theorem jN{α:Type}{mk:α->D->List D}{inn:α->List Re}{fs:List α}{os:List Nat}(h:os.length=fs.length):(dN mk inn fs os).length=fs.length:=by simp[dN,h]
theorem CM{α:Type}{mk:α->D->List D}{inn:α->List Re}{fs:List α}{os:List Nat}(h:os.length=fs.length)(f:α)(o:Nat):dN mk inn (fs++[f]) (os++[o])=dN mk inn fs os++[mk f (cd o (inn f))]:=by simp_all[dN,List.zipWith_append]
theorem XH(m:Mc)(ok:CC m)(x0 x1 x2 x3 x4 x6 x7 x8 x9 xt:D)(ofr b:Nat)(r:ofr<b):∀(suf pre:List Fm) (os:List Nat) (H:DH),m.fr=pre++suf->b<=H.length->vP Fm.dn H b pre os->(m.fr≠[]->H[ofr]? = some (.buf 3 true false (dN IZ Fm.dn pre os++suf.map gj))) ->
 ∃ os' H',ci ofr H H'/\(∀ i,i<b->i≠ofr->H'[i]? = H[i]?)/\vP Fm.dn H' b m.fr os'/\(m.fr≠[]->H'[ofr]? = some (.buf 3 true false (dN IZ Fm.dn m.fr os'))) /\
  ae aB 21 200003 [.lp 0 0,.lp 1 0,.n m.fr.length,.n pre.length] [(0,[x0,x1,x2,x3,x4,.buf 3 ofr m.fr.length,x6,x7,x8,x9,xt]),(0,Le)] H =
  ae aB 21 200003 [.lp 0 0,.lp 1 0,.n m.fr.length,.n m.fr.length] [(0,[x0,x1,x2,x3,x4,.buf 3 ofr m.fr.length,x6,x7,x8,x9,xt]),(0,Le)] H'
 |[],pre,os,H,e,hb,j,w=>by grind [ci.refl]
 |f::suf,pre,os,H,e,hb,j,w=>by
  have t:m.fr≠[]:=by rw[e];simp
  have hi:pre.length<m.fr.length:=by rw[e];simp
  have hm:f∈m.fr:=by rw[e];simp
  have hfl:=ok.fr;have g:=w t;have p:(dN IZ Fm.dn pre os++(f::suf).map gj).length=m.fr.length:=by rw[aaY,jN j.len,e];simp
  have h:(dN IZ Fm.dn pre os++(f::suf).map gj)[pre.length]? = some (gj f):=by grind
  have u:=XK (f.dn.map im) (by rw[abe];exact acd (ok.dn f hm) (by decide)) H;have hbuf1:(H++dD 2 (f.dn.map im))[ofr]? = some (.buf 3 true false (dN IZ Fm.dn pre os++(f::suf).map gj)):=eV _ g;have q:(dN IZ Fm.dn pre os++(f::suf).map gj).set pre.length (IZ f (cd H.length f.dn))=dN IZ Fm.dn (pre++[f]) (os++[H.length])++suf.map gj:=by rw[CM j.len,afW _ _ (by rw[jN j.len];exact aaW _),jN j.len,aja];simp
  have v:=(j.put hb f).keep (H':=(H++dD 2 (f.dn.map im)).set ofr (.buf 3 true false (dN IZ Fm.dn (pre++[f]) (os++[H.length])++suf.map gj))) (λo x ho y=>by rw[afA (by omega)];exact y);obtain⟨os',H',k,kk,z,A,ih⟩:=XH m ok x0 x1 x2 x3 x4 x6 x7 x8 x9 xt ofr b r suf (pre++[f]) (os++[H.length]) _ (by rw[e];simp) (by simp;omega) v (λ_=>aT _ hbuf1);rw[aaY,abc]at ih;refine⟨os',H',ci.trans ⟨by simp,λi hi=>?_⟩ k,λi hi hn=>?_,z,A,cj (AV) ?_⟩
  .grind
  .grind
  rw[ub hi,ge];simp only[aj,au];rw[Rp,xg hi,boK,ge,Di,Mq,vF g p,aD h];simp only[gj,adO,aj,au];refine(aG u).trans ?_;rw[Rp,xg hi,boK,ge,Di,Bk,lst,vF hbuf1 p,boK,ge,aD h,show ∀ κ:List D->ai,aw (gj f) (0+2) [bP 2 H.length (f.dn.map im)] κ=κ (IZ f (cd H.length f.dn))from λ_=>rfl,q,IV pre.length (by omega)];exact ih
theorem XI(m:Mc)(ok:CC m)(x0 x1 x2 x3 x4 x5 x7 x8 x9 xt:D)(ofr b:Nat)(r:ofr<b):∀(suf pre:List Ce) (os:List Nat) (H:DH),m.ce=pre++suf->b<=H.length->vP Ce.refs H b pre os->(m.ce≠[]->H[ofr]? = some (.buf 5 true false (dN Mm Ce.refs pre os++suf.map gE))) ->
 ∃ os' H',H.length<=H'.length/\(∀ i,i<H.length->i≠ofr->H'[i]? = H[i]?)/\vP Ce.refs H' b m.ce os'/\(m.ce≠[]->H'[ofr]? = some (.buf 5 true false (dN Mm Ce.refs m.ce os'))) /\
  ae aB 21 200008 [.lp 0 0,.lp 1 0,.n m.ce.length,.n pre.length] [(0,[x0,x1,x2,x3,x4,x5,.buf 5 ofr m.ce.length,x7,x8,x9,xt]),(0,Le)] H =
  ae aB 21 200008 [.lp 0 0,.lp 1 0,.n m.ce.length,.n m.ce.length] [(0,[x0,x1,x2,x3,x4,x5,.buf 5 ofr m.ce.length,x7,x8,x9,xt]),(0,Le)] H'
 |[],pre,os,H,e,hb,j,w=>by grind
 |f::suf,pre,os,H,e,hb,j,w=>by
  have t:m.ce≠[]:=by rw[e];simp
  have hi:pre.length<m.ce.length:=by rw[e];simp
  have hm:f∈m.ce:=by rw[e];simp
  have hfl:=ok.ce;have g:=w t;have p:(dN Mm Ce.refs pre os++(f::suf).map gE).length=m.ce.length:=by rw[aaY,jN j.len,e];simp
  have h:(dN Mm Ce.refs pre os++(f::suf).map gE)[pre.length]? = some (gE f):=by grind
  have u:=XK (f.refs.map im) (by rw[abe];exact acd (ok.refs f hm) (by decide)) H;have hbuf1:(H++dD 2 (f.refs.map im))[ofr]? = some (.buf 5 true false (dN Mm Ce.refs pre os++(f::suf).map gE)):=eV _ g;have q:(dN Mm Ce.refs pre os++(f::suf).map gE).set pre.length (Mm f (cd H.length f.refs))=dN Mm Ce.refs (pre++[f]) (os++[H.length])++suf.map gE:=by rw[CM j.len,afW _ _ (by rw[jN j.len];exact aaW _),jN j.len,aja];simp
  have v:=(j.put hb f).keep (H':=(H++dD 2 (f.refs.map im)).set ofr (.buf 5 true false (dN Mm Ce.refs (pre++[f]) (os++[H.length])++suf.map gE))) (λo x ho y=>by rw[afA (by omega)];exact y);obtain⟨os',H',k,z,A,B,ih⟩:=XI m ok x0 x1 x2 x3 x4 x5 x7 x8 x9 xt ofr b r suf (pre++[f]) (os++[H.length]) _ (by rw[e];simp) (by simp;omega) v (λ_=>aT _ hbuf1);rw[aaY,abc]at ih;simp only[afy,aaY]at k z;refine⟨os',H',by omega,λi hi hn=>?_,A,B,cj (AU) ?_⟩
  .grind
  rw[ub hi,ge];simp only[aj,au];rw[Rn,xg hi,boK,ge,Di,Mq,vF g p,aD h];simp only[gE,adO,aj,au];refine(aG u).trans ?_;rw[Rn,xg hi,boK,ge,Di,Bk,lst,vF hbuf1 p,boK,ge,aD h,show ∀ κ:List D->ai,aw (gE f) (0+3) [bP 2 H.length (f.refs.map im)] κ=κ (Mm f (cd H.length f.refs))from λ_=>rfl,q,IV pre.length (by omega)];exact ih
theorem XG(m:Mc)(ok:CC m)(x0 x1 x2 x3 x4 x5 x6 x7 x8 xt:D)(oou:Nat)(H:DH)(hb:H[oou]? = some (.buf 4 true false (m.ou.map jv))):∀(suf pre:List Nv),m.ou=pre++suf ->
 ae aB 21 200013 [.lp 0 0,.lp 1 0,.n m.ou.length,.n pre.length] [(0,[x0,x1,x2,x3,x4,x5,x6,x7,x8,.buf 4 oou m.ou.length,xt]),(0,Le)] H =
  ret (.agg [x0,x1,x2,x3,x4,x5,x6,x7,x8,.buf 4 oou m.ou.length,xt]) H
 |[],pre,e=>by
  have p:m.ou=pre:=by rw[e];simp
  refine cj (sj) ?_;rw[p,Cu _,SE];rfl
 |v::suf,pre,e=>by
  have hi:pre.length<m.ou.length:=by rw[e];simp
  have h:(m.ou.map jv)[pre.length]? = some (jv v):=by rw[e];exact cT _ _ _ _
  have hm:v∈m.ou:=by rw[e];simp
  have hol:=ok.ou;have ih:=XG m ok x0 x1 x2 x3 x4 x5 x6 x7 x8 xt oou H hb suf (pre++[v]) (by rw[e];simp);rw[aaY,abc]at ih;have j:=aeu v.v (ok.v v hm) H;have i:(m.ou.map jv).set pre.length (jv v)=m.ou.map jv:=oF h;have g:(m.ou.map jv).length=m.ou.length:=abe ..;obtain⟨nm,⟨vc,vn,vx⟩⟩:=v;simp only[qh]at j;refine cj (sj) ?_;rw[ub hi,ge];simp only[aj,au];rw[Rm,xg hi,boK,ge,Di,Zr,vF hb g,aD h];simp only[jv];rw[ais];refine(aG j).trans ?_;rw[Rm,xg hi,boK,ge,Di,qP,lst,vF hb g,boK,ge,aD h];rw[show ∀ κ:List D->ai,aw (jv ⟨nm,.mk vc vn vx⟩) (0+1) (xV vc vn (fu vx)) κ=κ (jv ⟨nm,.mk vc vn vx⟩)from λ_=>rfl,i,oF hb,IV pre.length (by omega)];exact ih
variable{x0 x1 x2 x3 x4 x5 x6 x7 x8 x9 xt:D}
theorem ex3(n:Nat)(H:DH):ae aB 21 200003 [.lp 0 0,.lp 1 0,.n n,.n n] [(0,[x0,x1,x2,x3,x4,x5,x6,x7,x8,x9,xt]),(0,Le)] H=aS ab 28 x6 H λa=>ae aB 21 200008 [.lp 0 0,.lp 1 0,.g a,.n 0] [(0,[x0,x1,x2,x3,x4,x5,x6,x7,x8,x9,xt]),(0,Le)] H:=by refine cj (AV) ?_;simp_all[aj,au]
theorem ex8(n:Nat)(H:DH):ae aB 21 200008 [.lp 0 0,.lp 1 0,.n n,.n n] [(0,[x0,x1,x2,x3,x4,x5,x6,x7,x8,x9,xt]),(0,Le)] H=aS ab 30 x9 H λa=>ae aB 21 200013 [.lp 0 0,.lp 1 0,.g a,.n 0] [(0,[x0,x1,x2,x3,x4,x5,x6,x7,x8,x9,xt]),(0,Le)] H:=by refine cj (AU) ?_;simp_all[aj,au]
theorem Bj{sz n:Nat}{l:aO}(h:l≠[]):bP sz n l=.buf sz n l.length/\dD sz l=[.buf sz true false l]:=by
 cases l with
 |nil=>exact absurd rfl h
 |cons x r=>exact⟨rfl,rfl⟩
theorem aay(m:Mc)(ok:CC m)(ofr b:Nat)(g:m.fr≠[]->ofr<b)(H:DH)(hb:b<=H.length)(j:m.fr≠[]->H[ofr]? = some (.buf 3 true false (m.fr.map gj))) :
 ∃ os H',H.length<=H'.length/\(∀ i,i<b->(i=ofr->m.fr=[])->H'[i]? = H[i]?)/\vP Fm.dn H' b m.fr os/\(m.fr≠[]->H'[ofr]? = some (.buf 3 true false (dN IZ Fm.dn m.fr os))) /\
  ae aB 21 200003 [.lp 0 0,.lp 1 0,.n m.fr.length,.n 0] [(0,[x0,x1,x2,x3,x4,bP 3 ofr (m.fr.map gj),x6,x7,x8,x9,xt]),(0,Le)] H =
  ae aB 21 200003 [.lp 0 0,.lp 1 0,.n m.fr.length,.n m.fr.length] [(0,[x0,x1,x2,x3,x4,bP 3 ofr (m.fr.map gj),x6,x7,x8,x9,xt]),(0,Le)] H':=by
 by_cases h:m.fr=[]
 .exact⟨[],H,aaW _,λ_ _ _=>rfl,by rw[h];exact vP.nil H b,λq=>absurd h q,by rw[h];rfl⟩
 .have hc:=(Bj (sz:=3) (n:=ofr) (l:=m.fr.map gj) (by simpa using h)).1;rw[abe]at hc;obtain⟨os,H',k,p,r,t,e⟩:=XH m ok x0 x1 x2 x3 x4 x6 x7 x8 x9 xt ofr b (g h) m.fr [] [] H rfl hb (vP.nil H b) (λq=>j q);exact⟨os,H',k.1,λi hi u=>p i hi (λq=>h (u q)),r,t,by rw[hc];exact e⟩
theorem aaz(m:Mc)(ok:CC m)(ofr b:Nat)(g:m.ce≠[]->ofr<b)(H:DH)(hb:b<=H.length)(j:m.ce≠[]->H[ofr]? = some (.buf 5 true false (m.ce.map gE))) :
 ∃ os H',H.length<=H'.length/\(∀ i,i<H.length->(i=ofr->m.ce=[])->H'[i]? = H[i]?)/\vP Ce.refs H' b m.ce os/\(m.ce≠[]->H'[ofr]? = some (.buf 5 true false (dN Mm Ce.refs m.ce os))) /\
  ae aB 21 200008 [.lp 0 0,.lp 1 0,.n m.ce.length,.n 0] [(0,[x0,x1,x2,x3,x4,x5,bP 5 ofr (m.ce.map gE),x7,x8,x9,xt]),(0,Le)] H =
  ae aB 21 200008 [.lp 0 0,.lp 1 0,.n m.ce.length,.n m.ce.length] [(0,[x0,x1,x2,x3,x4,x5,bP 5 ofr (m.ce.map gE),x7,x8,x9,xt]),(0,Le)] H':=by
 by_cases h:m.ce=[]
 .exact⟨[],H,aaW _,λ_ _ _=>rfl,by rw[h];exact vP.nil H b,λq=>absurd h q,by rw[h];rfl⟩
 .have hc:=(Bj (sz:=5) (n:=ofr) (l:=m.ce.map gE) (by simpa using h)).1;rw[abe]at hc;obtain⟨os,H',k,p,r,t,e⟩:=XI m ok x0 x1 x2 x3 x4 x5 x7 x8 x9 xt ofr b (g h) m.ce [] [] H rfl hb (vP.nil H b) (λq=>j q);exact⟨os,H',k,λi hi u=>p i hi (λq=>h (u q)),r,t,by rw[hc];exact e⟩
theorem aax(m:Mc)(ok:CC m)(oou:Nat)(H:DH)(g:m.ou≠[]->H[oou]? = some (.buf 4 true false (m.ou.map jv))) :
 ae aB 21 200013 [.lp 0 0,.lp 1 0,.n m.ou.length,.n 0] [(0,[x0,x1,x2,x3,x4,x5,x6,x7,x8,bP 4 oou (m.ou.map jv),xt]),(0,Le)] H=ret (.agg [x0,x1,x2,x3,x4,x5,x6,x7,x8,bP 4 oou (m.ou.map jv),xt]) H:=by
 by_cases h:m.ou=[]
 .rw[h];refine cj (sj) ?_;rfl
 .have hc:=(Bj (sz:=4) (n:=oou) (l:=m.ou.map jv) (by simpa using h)).1;rw[abe]at hc;rw[hc];exact XG m ok x0 x1 x2 x3 x4 x5 x6 x7 x8 xt oou H (g h) m.ou [] rfl
theorem ug(ty el:TypeId)(g:ab.underlying ty=some (.slice el))(sz n:Nat)(l:aO)(H:DH)(κ:D->ai):aS ab ty (bP sz n l) H κ=κ (.i l.length):=by cases l<;>(rw[bP,aS,g];try rfl)
structure afl(H:DH)(m:Mc)(p q r s b:Nat)(os oc:List Nat):Prop where
 fr:m.fr≠[]->H[p]? = some (.buf 3 true false (dN IZ Fm.dn m.fr os))
 ce:m.ce≠[]->H[q]? = some (.buf 5 true false (dN Mm Ce.refs m.ce oc))
 to:m.to≠[]->H[r]? = some (.buf 3 true false (m.to.map il))
 ou:m.ou≠[]->H[s]? = some (.buf 4 true false (m.ou.map jv))
 own:vP Fm.dn H b m.fr os
 ownc:vP Ce.refs H b m.ce oc
 pq:p<=q/\(m.fr≠[]->p<q)
 qr:q<=r/\(m.ce≠[]->q<r)
 rs:r<=s/\(m.to≠[]->r<s)
 sb:s<=b/\(m.ou≠[]->s<b)
 bH:b<=H.length
theorem FT{H:DH}{sz:Nat}{l:aO}:H.length<=(H++dD sz l).length/\(l≠[]->H.length<(H++dD sz l).length):=by refine⟨by simp,λh=>?_⟩;rw[(Bj (sz:=sz) (n:=0) h).2];simp
theorem yi{H:DH}{sz:Nat}{l:aO}(h:l≠[]):(H++dD sz l)[H.length]? = some (.buf sz true false l):=by rw[(Bj (sz:=sz) (n:=0) h).2];exact aZ H _
theorem Sx(m:Mc)(ok:CC m)(H:DH):∃ q r s b os oc H',aq 21 [.agg (fv m)] H=ret (.agg (JV m (bP 3 H.length (m.fr.map gj)) (bP 5 q (m.ce.map gE)) (bP 3 r (m.to.map il)) (bP 4 s (m.ou.map jv)))) H'/\ci H.length H H'/\afl H' m H.length q r s b os oc:=by
 have ne1 {α:Type} {f:α->List D} {l:List α} (h:l≠[]):l.map f≠[]:=by simpa using h
 have l1:=ok.fr;have l2:=ok.ce;have l3:=ok.to;have l4:=ok.ou;have c1:=aeB (m.fr.map gj) (by rw[abe];omega) H;have t:=FT (H:=H) (sz:=3) (l:=m.fr.map gj);have I (h:m.fr≠[]):=yi (H:=H) (sz:=3) (ne1 (f:=gj) h);have y:=ci.app H (dD 3 (m.fr.map gj));generalize hH1:H++dD 3 (m.fr.map gj)=H1 at c1 t I y;have c2:=aeA (m.ce.map gE) (by rw[abe];omega) H1;have u:=FT (H:=H1) (sz:=5) (l:=m.ce.map gE);have J (h:m.ce≠[]):=yi (H:=H1) (sz:=5) (ne1 (f:=gE) h);have z:=ci.app H1 (dD 5 (m.ce.map gE));generalize hH2:H1++dD 5 (m.ce.map gE)=H2 at c2 u J z;have c3:=aez (m.to.map il) (by rw[abe];omega) H2;have v:=FT (H:=H2) (sz:=3) (l:=m.to.map il);have L (h:m.to≠[]):=yi (H:=H2) (sz:=3) (ne1 (f:=il) h);have A:=ci.app H2 (dD 3 (m.to.map il));generalize hH3:H2++dD 3 (m.to.map il)=g at c3 v L A;have B:=aey (m.ou.map jv) (by rw[abe];omega) g;have w:=FT (H:=g) (sz:=4) (l:=m.ou.map jv);have M (h:m.ou≠[]):=yi (H:=g) (sz:=4) (ne1 (f:=jv) h);have E:=ci.app g (dD 4 (m.ou.map jv));generalize hH4:g++dD 4 (m.ou.map jv)=j at B w M E;have n1 (h:m.fr≠[]):H.length<H1.length:=t.2 (ne1 h);have n2 (h:m.ce≠[]):H1.length<H2.length:=u.2 (ne1 h);have n3 (h:m.to≠[]):H2.length<g.length:=v.2 (ne1 h);have n4 (h:m.ou≠[]):g.length<j.length:=w.2 (ne1 h);have g1' (h:m.fr≠[]):j[H.length]? = some (.buf 3 true false (m.fr.map gj)):=by grind
 have g2' (h:m.ce≠[]):j[H1.length]? = some (.buf 5 true false (m.ce.map gE)):=by grind
 have g3' (h:m.to≠[]):j[H2.length]? = some (.buf 3 true false (m.to.map il)):=by grind
 have N {i:Nat} (h:H1.length<=i):i=H.length->m.fr=[]:=λe=>Classical.byContradiction λq=>by have:=n1 q;omega
 have z2 {i:Nat} (h:H2.length<=i):i=H1.length->m.ce=[]:=λe=>Classical.byContradiction λq=>by have:=n2 q;omega
 obtain⟨os,O,R,kk5,own,fv5,U⟩:=aay (x0:=.i m.mo) (x1:=.i m.ex) (x2:=.i m.en) (x3:=.bool m.vc) (x4:=.i m.vn) (x6:=bP 5 H1.length (m.ce.map gE)) (x7:=bP 3 H2.length (m.to.map il)) (x8:=.i m.bo) (x9:=bP 4 g.length (m.ou.map jv)) (xt:=.i m.st) m ok H.length j.length (λh=>by have:=n1 h;omega) j (aaW _) g1'
 obtain⟨oc,p,b6,kk6,ownc,fv6,W⟩:=aaz (x0:=.i m.mo) (x1:=.i m.ex) (x2:=.i m.en) (x3:=.bool m.vc) (x4:=.i m.vn) (x5:=bP 3 H.length (m.fr.map gj)) (x7:=bP 3 H2.length (m.to.map il)) (x8:=.i m.bo) (x9:=bP 4 g.length (m.ou.map jv)) (xt:=.i m.st) m ok H1.length j.length (λh=>by have:=n2 h;omega) O R (λh=>by have:=n2 h;rw[kk5 _ (by omega) (N (by omega))];exact g2' h)
 have Y:∀ i,i<j.length->(i=H.length->m.fr=[])->(i=H1.length->m.ce=[])->p[i]? = j[i]?:=λi hi Z h2=>(kk6 i (by omega) h2).trans (kk5 i hi Z);have o3 (h:m.to≠[]):p[H2.length]? = some (.buf 3 true false (m.to.map il)):=by grind
 have F (h:m.ou≠[]):p[g.length]? = some (.buf 4 true false (m.ou.map jv)):=by grind
 refine⟨H1.length,H2.length,g.length,j.length,os,oc,p,ev (f21) ?_,⟨by omega,λi hi=>?_⟩,?_⟩
 .refine(aG c1).trans ((aG c2).trans ((aG c3).trans ((aG B).trans ?_)));simp only[Bk,fv,om5,om6,om7,om9,aj,au];rw[ug 27 39 w38,abe];refine U.trans ((ex3 _ _).trans ?_);rw[ug 28 112 Lj,abe];refine W.trans ((ex8 _ _).trans ?_);rw[ug 30 75 w41,abe];exact aax m ok g.length p F
 .rw[Y i (by omega) (λe=>by omega) (λe=>by omega),E.2 _ (by omega),A.2 _ (by omega),z.2 _ (by omega),y.2 _ hi]
 .refine⟨λh=>?_,fv6,o3,F,own.keep (λo x ho hx=>?_),ownc,⟨t.1,n1⟩,⟨u.1,n2⟩,⟨v.1,n3⟩,⟨w.1,n4⟩,by omega⟩
  .grind
  grind
theorem yV{m:Mc}{r:Re}{b:Int}(h:dA m r b=true)(hb:b<=m.ce.length):ia m.ce.length r:=λhc=>by grind [dA]
theorem Fy{m:Mc}{n b:Int}(h:fF m n b=true)(hb:b<=m.ce.length):-1<=n/\n<m.ce.length:=by grind [fF]
theorem aeF{m:Mc}{mp:List (Nat×ak)}{i:Nat}{c:Ce}(hi:i<m.ce.length)(h:ui m mp i c=true):(∀ r∈c.refs,ia m.ce.length r)/\(-1<=c.nx/\c.nx<m.ce.length)/\(c.k=1->c.nx=-1):=by
 rw[ui]at h;by_cases p:c.k=1
 .rw[show(c.k==1)=true by simp[p],ge]at h;simp only[aaV,afx]at h;obtain⟨_,_,_,g,j⟩:=h;have g:c.nx=-1:=by simpa using g
  exact⟨λr hr=>yV (j r hr) (by omega),by omega,λ_=>g⟩
 .rw[show(c.k==1)=false by simp[p],SE]at h;by_cases u:c.k=2
  .rw[show(c.k==2)=true by simp[u],ge]at h;split at h
   .cases h
   .simp only[aaV]at h;obtain⟨_,_,t,g⟩:=h;have t:c.refs=[]:=ake.1 (by have:=eq_of_beq t;omega);exact⟨λr hr=>(by rw[t]at hr;cases hr),Fy g (by omega),λq=>absurd q p⟩
  .rw[show(c.k==2)=false by simp[u],SE]at h;by_cases v:c.k=3
   .rw[show(c.k==3)=true by simp[v],ge]at h;simp only[aaV]at h;obtain⟨_,_,_,g,j⟩:=h;refine⟨λr hr=>?_,Fy g (by omega),λq=>absurd q p⟩;unfold Qg at j;split at j
    .rename_i x w;rw[w,ajB]at hr;subst hr;cases hq:(r.c&&r.n==((i+1:Nat):Int))with
     |false=>rw[hq,SE]at j;exact yV j (by omega)
     |true =>grind
    .cases j
   grind
theorem Is{m:Mc}{mp:List (Nat×ak)}:∀(suf pre:List Ce),m.ce=pre++suf->lU m mp suf pre.length=true->∀ c∈suf,(∀ r∈c.refs,ia m.ce.length r)/\(-1<=c.nx/\c.nx<m.ce.length)/\(c.k=1->c.nx=-1)
 |[],_,_,_,_,h=>by cases h
 |x::suf,pre,e,h,c,hc=>by
  rw[lU,aaV]at h;rcases abn.1 hc with rfl|hc
  .exact aeF (by rw[e];simp) h.1
  .exact Is suf (pre++[x]) (by rw[e];simp) (by rw[aaY,abc];exact h.2) c hc
theorem PD{m:Mc}:∀ {a:List To} {b:List ak},yB m a b=true->∀ t∈a,ia m.ce.length t.r
 |[],_,_,_,h=>by cases h
 |_::_,[],h,_,_=>by simp[yB]at h
 |x::a,s::b,h,t,g=>by
  simp only[yB,aaV]at h;rcases abn.1 g with rfl|g
  .exact yV h.2.1 (ajd _)
  .exact PD h.2.2 t g
theorem UE{m:Mc}{a b:Nat}(h:oz m a b=true):ia m.ce.length ⟨m.vc,m.vn⟩/\-1<=m.en/\m.en<m.ce.length:=by
 unfold oz at h;cases i:m.mo==1 with
 |true =>
  rw[i,ge]at h;simp only[aaV]at h;obtain⟨_,_,g,j,_⟩:=h;refine⟨λhc=>?_,Fy g (ajd _)⟩
  grind
 |false =>
  rw[i,SE]at h;cases p:m.mo==2 with
  |true =>
   rw[p,ge]at h;simp only[aaV]at h;obtain⟨_,g,j,_⟩:=h;have:m.en=-1:=by simpa using g
   exact⟨yV j (ajd _),by omega,by omega⟩
  |false =>grind
theorem tO{m:Mc}{es:List Ex}{f:Fm}(h:nO m es f=true):(-1<=f.en/\f.en<m.ce.length)/\∀ r∈f.dn,ia m.ce.length r:=by
 rw[nO]at h;cases g:decide (f.ex<0)with
 |true=>rw[g]at h;cases h
 |false =>
  rw[g,SE]at h;split at h
  .cases h
  .simp only[aaV,afx]at h;exact⟨Fy h.1 (ajd _),λr hr=>yV (h.2.1 r hr) (ajd _)⟩
theorem GF{m:Mc}(mo:IS m){G:Pg}(h:gq m G=true):aiD m/\-1<=m.en/\∀ f∈m.fr,-1<=f.en:=by rw[gq,sI,Gz]at h;simp only[aaV,afx]at h;obtain⟨_,_,_,r,t,u,i⟩:=h;have j:=Is (m:=m) m.ce [] rfl r;obtain⟨v,p,q⟩:=UE t;exact⟨⟨λc hc=>⟨mo.refs c hc,j c hc⟩,v,q,PD u.1,λf g=>⟨(tO (i f g)).1.2,(tO (i f g)).2⟩⟩,p,λf g=>(tO (i f g)).1.1⟩
theorem Ep(H:DH):aq 6 [] H=ret (.bool true) H:=by show eP de (.call 6 [] none) H=_;rw[KE];rfl
end
end Go.Proofs.YtjbplagjmopllaaGreatDoor
namespace Go.Proofs.YtjbplagjmopllaaGreatDoor.Rd
open Go.AI Go.Proofs Go.Proofs.YtjbplagjmopllaaGreatDoor
theorem Lk:∀ l:List Va,l.length<=gA (fu l)
 |[]=>ajg _
 |.mk _ _ _::r=>by have:=Lk r;simp only[fu,qh,gA,fA,Iq,aeg];omega
mutual
theorem WC:∀ v:Va,fA (qh v)<=1048576->v.sm
 |.mk c n xs,h=>by simp only[qh,fA,Iq]at h;have:=Lk xs;exact⟨by omega,Pp xs (by omega)⟩
theorem Pp:∀ l:List Va,gA (fu l)<=1048576->Va.sms l
 |[],_=>trivial
 |v::r,h=>by simp only[fu,gA]at h;exact⟨WC v (by omega),Pp r (by omega)⟩
end
theorem tA{α:Type}{f:α->List D}(h:∀ x,1<=fA (f x))(l:List α):l.length<=gA (l.map f):=by
 have:=xX (l:=l.map f) λc hc=>by grind
 grind
theorem aex{m:Mc}(h:fA (fv m)<=1048576):CC m:=by
 simp only[fv,fA,Iq]at h;have re (l:List Re):=tA (f:=im) (λ_=>kB) l;have h1:=tA (f:=gj) (λ_=>kB) m.fr;have h2:=tA (f:=gE) (λ_=>kB) m.ce;have h3:=tA (f:=il) (λ_=>kB) m.to;have h4:=tA (f:=jv) (λx=>by obtain⟨_,⟨_,_,_⟩⟩:=x;exact kB) m.ou;refine⟨by omega,λc hc=>?_,by omega,λf i=>?_,by omega,by omega,λx hx=>?_⟩
 .have g:=tz (f:=gE) hc;simp only[gE,fA,Iq]at g
  grind
 .have g:=tz (f:=gj) i
  grind [gj,fA,Iq]
 grind [tz,jv,WC,fA,qh]
end Go.Proofs.YtjbplagjmopllaaGreatDoor.Rd
namespace Go.Proofs.YtjbplagjmopllaaGreatDoor
open Go.AI
section
theorem ahM{R:aM}{h:Nat}{j:Int}{p:ak}{x:D}{H:DH}:aA R 127 [.ptr h 0,.i j,.str p,x] H =
 aY H (am H h λ_ a=>af a 2 λa=>ay ab 88 a (.i j) λa=>bW ab 140 a H λa=>ah 7 a λa=>aw [.i 0,.i 0,.i 0,.i 0,.str [],.str [],.i 0] 0 a λa=>C R 122 [.ptr h 0] H λb H=>am H h λ_ c=>af c 0 λc=>aS ab 22 c H λd=>ae R 127 200006 [.g (.str p),.g x,.lp 0 0,.lp 1 0,.lp 2 0,.g (.bool false),.n 0,.n 0,.n 0,.g b,.g c,.g d,.n 0] [(0,[.bool false,.i 0]),(0,a),(0,[.bool false,.i 0])] H):=by kernel_rfl
theorem wH{R:aM}{v:ak}{t:D}{a:Bool}{b c e:Int}{h j:D}{k l:Int}{m:Bool}{p:Int}{u:List D}{q:Bool}{r:Int}{H:DH}:aV R 127 200006 [.g (.str v),.g t,.lp 0 0,.lp 1 0,.lp 2 0,.g (.bool a),.n b,.n c,.n e,.g h,.g j,.n k,.n l] [(0,[.bool m,.i p]),(0,u),(0,[.bool q,.i r])] H =
 cond (decide (l<k)) (ay ab 22 j (.i l) λd=>bW ab 104 d H λd=>ah 14 d λd=>aw [.i 0,.str [],.nilrow,.nilrow,.str [],.str [],.nilrow,.nilrow,.i 0,.i 0,.str [],.str [],.nilrow,.nilrow] 0 d λd=>af d 0 λf=>aC ab .eql 3 true f (.i 3) λg=>brD g (af d 7 λd=>aS ab 102 d H λf=>ae R 127 200011 [.g (.str v),.g t,.lp 0 0,.lp 1 0,.lp 2 0,.g (.bool a),.n b,.n c,.n e,.g h,.n l,.g j,.n k,.n l,.g d,.g f,.n 0] [(0,[.bool m,.i p]),(0,u),(0,[.bool q,.i r])] H) (aC ab .eql 3 true f (.i 2) λg=>brD g (af d 4 λd=>aC ab .eql 9 false d (.str v) λd=>brD d (af u 2 λd=>aC ab .geq 3 true d (.i 0) λd=>brD d (af u 1 λd=>aC ab .lss 3 false (.i l) d λd=>brD d (aS ab 29 t H λd=>aC ab .lss 3 false (.i b) d λd=>brD d (ay ab 29 t (.i b) λa=>ct a 1 λa=>bW ab 26 a H λa=>ah 2 a λa=>aw [.bool q,.i r] 0 a λa=>ae R 127 20 [.g (.str v),.g t,.lp 0 0,.lp 1 0,.lp 2 0,.g (.bool true),.n b,.n c,.n e,.g h,.g j,.n k,.n l] [(0,[.bool m,.i p]),(0,u),(0,a)] H) (ae R 127 20 [.g (.str v),.g t,.lp 0 0,.lp 1 0,.lp 2 0,.g (.bool a),.n b,.n c,.n e,.g h,.g j,.n k,.n l] [(0,[.bool m,.i p]),(0,u),(0,[.bool q,.i r])] H)) (ae R 127 20 [.g (.str v),.g t,.lp 0 0,.lp 1 0,.lp 2 0,.g (.bool a),.n b,.n c,.n e,.g h,.g j,.n k,.n l] [(0,[.bool m,.i p]),(0,u),(0,[.bool q,.i r])] H)) (ae R 127 20 [.g (.str v),.g t,.lp 0 0,.lp 1 0,.lp 2 0,.g (.bool a),.n b,.n c,.n e,.g h,.g j,.n k,.n l] [(0,[.bool m,.i p]),(0,u),(0,[.bool q,.i r])] H)) (ae R 127 20 [.g (.str v),.g t,.lp 0 0,.lp 1 0,.lp 2 0,.g (.bool a),.n b,.n c,.n e,.g h,.g j,.n k,.n l] [(0,[.bool m,.i p]),(0,u),(0,[.bool q,.i r])] H)) (aC ab .eql 3 true f (.i 4) λf=>brD f (aS ab 95 h H λf=>aC ab .add 3 false f (.i c) λf=>af d 4 λd=>aC ab .eql 9 false d (.str v) λd=>brD d (af u 2 λd=>aC ab .geq 3 true d (.i 0) λd=>brD d (af u 1 λd=>aC ab .lss 3 false (.i l) d λd=>brD d (aS ab 29 t H λd=>aC ab .lss 3 false f d λd=>brD d (ay ab 29 t f λa=>ct a 1 λa=>bW ab 26 a H λa=>ah 2 a λa=>aw [.bool q,.i r] 0 a λa=>ae R 127 25 [.g (.str v),.g t,.lp 0 0,.lp 1 0,.lp 2 0,.g (.bool true),.n b,.n c,.n e,.g h,.g j,.n k,.n l] [(0,[.bool m,.i p]),(0,u),(0,a)] H) (ae R 127 25 [.g (.str v),.g t,.lp 0 0,.lp 1 0,.lp 2 0,.g (.bool a),.n b,.n c,.n e,.g h,.g j,.n k,.n l] [(0,[.bool m,.i p]),(0,u),(0,[.bool q,.i r])] H)) (ae R 127 25 [.g (.str v),.g t,.lp 0 0,.lp 1 0,.lp 2 0,.g (.bool a),.n b,.n c,.n e,.g h,.g j,.n k,.n l] [(0,[.bool m,.i p]),(0,u),(0,[.bool q,.i r])] H)) (ae R 127 25 [.g (.str v),.g t,.lp 0 0,.lp 1 0,.lp 2 0,.g (.bool a),.n b,.n c,.n e,.g h,.g j,.n k,.n l] [(0,[.bool m,.i p]),(0,u),(0,[.bool q,.i r])] H)) (ae R 127 25 [.g (.str v),.g t,.lp 0 0,.lp 1 0,.lp 2 0,.g (.bool a),.n b,.n c,.n e,.g h,.g j,.n k,.n l] [(0,[.bool m,.i p]),(0,u),(0,[.bool q,.i r])] H)) (ae R 127 200006 [.g (.str v),.g t,.lp 0 0,.lp 1 0,.lp 2 0,.g (.bool a),.n b,.n c,.n e,.g h,.g j,.n k,.n (di (l+1))] [(0,[.bool m,.i p]),(0,u),(0,[.bool q,.i r])] H)))) (ret (.tuple [.agg [.bool q,.i r],.bool a]) H):=by kernel_rfl
theorem wG{R:aM}{y:ak}{z:D}{a:Bool}{b c e:Int}{h:D}{j:Int}{k:D}{l m:Int}{p:D}{q r:Int}{s:Bool}{t:Int}{w:List D}{u:Bool}{v:Int}{H:DH}:aV R 127 200011 [.g (.str y),.g z,.lp 0 0,.lp 1 0,.lp 2 0,.g (.bool a),.n b,.n c,.n e,.g h,.n j,.g k,.n l,.n m,.g p,.n q,.n r] [(0,[.bool s,.i t]),(0,w),(0,[.bool u,.i v])] H =
 cond (decide (r<q)) (ay ab 102 p (.i r) λd=>bW ab 106 d H λd=>ah 8 d λd=>aw [.str [],.str [],.i 0,.i 0,.str [],.str [],.nilrow,.nilrow] 0 d λd=>af d 0 λd=>aC ab .eql 9 false d (.str y) λd=>brD d (af w 2 λd=>aC ab .lss 3 true d (.i 0) λd=>brD d (af w 1 λd=>aC ab .leq 3 false (.i j) d λd=>brD d (ae R 127 14 [.g (.str y),.g z,.lp 0 0,.lp 1 0,.lp 2 0,.n b,.n c,.n e,.g h,.n j,.g k,.n l,.n m,.g p,.n q,.n r] [(0,[.bool s,.i t]),(0,w),(0,[.bool u,.i v])] H) (af w 2 λd=>aC ab .geq 3 true d (.i 0) λd=>brD d (af w 1 λd=>aC ab .lss 3 false (.i j) d λd=>brD d (ae R 127 14 [.g (.str y),.g z,.lp 0 0,.lp 1 0,.lp 2 0,.n b,.n c,.n e,.g h,.n j,.g k,.n l,.n m,.g p,.n q,.n r] [(0,[.bool s,.i t]),(0,w),(0,[.bool u,.i v])] H) (ae R 127 15 [.g (.str y),.g z,.lp 0 0,.lp 1 0,.lp 2 0,.g (.bool a),.n b,.n c,.n e,.g h,.n j,.g k,.n l,.n m,.g p,.n q,.n r] [(0,[.bool s,.i t]),(0,w),(0,[.bool u,.i v])] H)) (ae R 127 15 [.g (.str y),.g z,.lp 0 0,.lp 1 0,.lp 2 0,.g (.bool a),.n b,.n c,.n e,.g h,.n j,.g k,.n l,.n m,.g p,.n q,.n r] [(0,[.bool s,.i t]),(0,w),(0,[.bool u,.i v])] H))) (af w 2 λd=>aC ab .geq 3 true d (.i 0) λd=>brD d (af w 1 λd=>aC ab .lss 3 false (.i j) d λd=>brD d (ae R 127 14 [.g (.str y),.g z,.lp 0 0,.lp 1 0,.lp 2 0,.n b,.n c,.n e,.g h,.n j,.g k,.n l,.n m,.g p,.n q,.n r] [(0,[.bool s,.i t]),(0,w),(0,[.bool u,.i v])] H) (ae R 127 15 [.g (.str y),.g z,.lp 0 0,.lp 1 0,.lp 2 0,.g (.bool a),.n b,.n c,.n e,.g h,.n j,.g k,.n l,.n m,.g p,.n q,.n r] [(0,[.bool s,.i t]),(0,w),(0,[.bool u,.i v])] H)) (ae R 127 15 [.g (.str y),.g z,.lp 0 0,.lp 1 0,.lp 2 0,.g (.bool a),.n b,.n c,.n e,.g h,.n j,.g k,.n l,.n m,.g p,.n q,.n r] [(0,[.bool s,.i t]),(0,w),(0,[.bool u,.i v])] H))) (ae R 127 15 [.g (.str y),.g z,.lp 0 0,.lp 1 0,.lp 2 0,.g (.bool a),.n b,.n c,.n e,.g h,.n j,.g k,.n l,.n m,.g p,.n q,.n r] [(0,[.bool s,.i t]),(0,w),(0,[.bool u,.i v])] H)) (ae R 127 200006 [.g (.str y),.g z,.lp 0 0,.lp 1 0,.lp 2 0,.g (.bool a),.n b,.n c,.n e,.g h,.g k,.n l,.n (di (m+1))] [(0,[.bool s,.i t]),(0,w),(0,[.bool u,.i v])] H):=by kernel_rfl
theorem Vw{R:aM}{q:ak}{r:D}{a:Bool}{b c e:Int}{h j:D}{k l:Int}{m:Bool}{p:Int}{t u:List D}{H:DH}:aV R 127 20 [.g (.str q),.g r,.lp 0 0,.lp 1 0,.lp 2 0,.g (.bool a),.n b,.n c,.n e,.g h,.g j,.n k,.n l] [(0,[.bool m,.i p]),(0,t),(0,u)] H =
 ae R 127 200006 [.g (.str q),.g r,.lp 0 0,.lp 1 0,.lp 2 0,.g (.bool a),.n (di (b+1)),.n c,.n e,.g h,.g j,.n k,.n (di (l+1))] [(0,[.bool m,.i p]),(0,t),(0,u)] H:=by kernel_rfl
theorem Vv{R:aM}{q:ak}{r:D}{a:Bool}{b c e:Int}{h j:D}{k l:Int}{m:Bool}{p:Int}{t u:List D}{H:DH}:aV R 127 25 [.g (.str q),.g r,.lp 0 0,.lp 1 0,.lp 2 0,.g (.bool a),.n b,.n c,.n e,.g h,.g j,.n k,.n l] [(0,[.bool m,.i p]),(0,t),(0,u)] H =
 ae R 127 200006 [.g (.str q),.g r,.lp 0 0,.lp 1 0,.lp 2 0,.g (.bool a),.n b,.n (di (c+1)),.n e,.g h,.g j,.n k,.n (di (l+1))] [(0,[.bool m,.i p]),(0,t),(0,u)] H:=by kernel_rfl
theorem Vy{R:aM}{v:ak}{w:D}{a b c:Int}{e:D}{h:Int}{j:D}{k l:Int}{m:D}{p q:Int}{r:Bool}{s:Int}{y:List D}{t:Bool}{u:Int}{H:DH}:aV R 127 14 [.g (.str v),.g w,.lp 0 0,.lp 1 0,.lp 2 0,.n a,.n b,.n c,.g e,.n h,.g j,.n k,.n l,.g m,.n p,.n q] [(0,[.bool r,.i s]),(0,y),(0,[.bool t,.i u])] H =
 ae R 127 15 [.g (.str v),.g w,.lp 0 0,.lp 1 0,.lp 2 0,.g (.bool true),.n a,.n b,.n c,.g e,.n h,.g j,.n k,.n l,.g m,.n p,.n q] [(0,[.bool r,.i s]),(0,y),(0,[.bool true,.i c])] H:=by kernel_rfl
theorem Vx{R:aM}{w:ak}{y:D}{a:Bool}{b c e:Int}{h:D}{j:Int}{k:D}{l m:Int}{p:D}{q r:Int}{s:Bool}{t:Int}{z:List D}{u:Bool}{v:Int}{H:DH}:aV R 127 15 [.g (.str w),.g y,.lp 0 0,.lp 1 0,.lp 2 0,.g (.bool a),.n b,.n c,.n e,.g h,.n j,.g k,.n l,.n m,.g p,.n q,.n r] [(0,[.bool s,.i t]),(0,z),(0,[.bool u,.i v])] H =
 ae R 127 200011 [.g (.str w),.g y,.lp 0 0,.lp 1 0,.lp 2 0,.g (.bool a),.n b,.n c,.n (di (e+1)),.g h,.n j,.g k,.n l,.n m,.g p,.n q,.n (di (r+1))] [(0,[.bool s,.i t]),(0,z),(0,[.bool u,.i v])] H:=by kernel_rfl
theorem agD{R:aM}{x:D}{H:DH}:aA R 46 [x] H =
 zC .eql x λa=>brD a (ret .nilrow H) (vw x H 2 λa=>bX (aF ab 26) 2 .nilrow a H λa H=>ret a H):=by kernel_rfl
theorem f22{R:aM}{p:Nat}{H:DH}:aA R 22 [.ptr p 0] H =
 let a:=H++[.cells 0 [.i 0]];am a p λ_ b=>af b 0 λb=>aC ab .eql 3 true b (.i 3) λb=>brD b (am a H.length λb c=>aw c 0 [.i 3] λc=>let a:=a.set H.length (.cells (b+1) c);iH (R (.call 48 [.ptr H.length 0] (some .returning)) a) (λa=>am a H.length λ_ b=>af b 0 λb=>ret b a) λa H=>some ⟨.pan a,none,H⟩) (am a p λ_ b=>af b 0 λb=>aC ab .eql 3 true b (.i 1) λb=>brD b (am a p λ_ b=>af b 10 λb=>aC ab .eql 3 true b (.i 200000) λb=>brD b (am a H.length λb c=>aw c 0 [.i 4] λc=>let a:=a.set H.length (.cells (b+1) c);iH (R (.call 48 [.ptr H.length 0] (some .returning)) a) (λa=>am a H.length λ_ b=>af b 0 λb=>ret b a) λa H=>some ⟨.pan a,none,H⟩) (am a p λ_ b=>af b 10 λb=>aC ab .add 3 true b (.i 1) λb=>ah 1 b λb=>am a p λc d=>aw d 10 b λb=>let a:=a.set p (.cells (c+1) b);am a p λ_ b=>af b 11 λb=>kC b λb=>ct b 1 λb=>bW ab 87 b a λb=>am a p λ_ c=>af c 1 λc=>ay ab 87 b c λb=>bW ab 93 b a λb=>ah 11 b λb=>aw [.i 0,.i 0,.str [],.str [],.nilrow,.nilrow,.i 0,.i 0,.nilrow,.i 0,.nilrow] 0 b λb=>am a p λ_ c=>af c 12 λc=>af b 0 λd=>ip ab 83 c d false a λc=>af b 0 λd=>af b 1 λe=>af b 2 λf=>af b 3 λg=>af b 4 λh=>af b 5 λi=>af b 6 λj=>af b 7 λk=>af b 8 λl=>af b 9 λm=>af b 10 λb=>jC bV c λc n o=>aU (R (.call c (n++([.ptr p 0,.agg [d,e,f,g,h,i,j,k,l,m,b]]++o)) none) a) (λ_ a=>am a H.length λb c=>aw c 0 [.i 0] λc=>let a:=a.set H.length (.cells (b+1) c);iH (R (.call 48 [.ptr H.length 0] (some .returning)) a) (λa=>am a H.length λ_ b=>af b 0 λb=>ret b a) λa H=>some ⟨.pan a,none,H⟩) λa b=>iH (R (.call 48 [.ptr H.length 0] (some (.panicking a))) b) (λa=>am a H.length λ_ b=>af b 0 λb=>ret b a) λa H=>some ⟨.pan a,none,H⟩)) (am a p λ_ b=>af b 5 λb=>aS ab 27 b a λb=>aC ab .eql 3 true b (.i 0) λb=>brD b (aU (R (.call 49 [.ptr p 0] none) a) (λ_ a=>am a H.length λb c=>aw c 0 [.i 0] λc=>let a:=a.set H.length (.cells (b+1) c);iH (R (.call 48 [.ptr H.length 0] (some .returning)) a) (λa=>am a H.length λ_ b=>af b 0 λb=>ret b a) λa H=>some ⟨.pan a,none,H⟩) λa b=>iH (R (.call 48 [.ptr H.length 0] (some (.panicking a))) b) (λa=>am a H.length λ_ b=>af b 0 λb=>ret b a) λa H=>some ⟨.pan a,none,H⟩) (am a p λ_ b=>af b 5 λb=>am a p λ_ c=>af c 5 λc=>aS ab 27 c a λc=>aC ab .sub 3 true c (.i 1) λc=>ay ab 27 b c λb=>bW ab 39 b a λb=>ah 3 b λb=>aw [.i 0,.i 0,.nilrow] 0 b λb=>am a p λ_ c=>af c 5 λc=>am a p λ_ d=>af d 5 λd=>aS ab 27 d a λd=>aC ab .sub 3 true d (.i 1) λd=>Pc ab 27 c none (some d) none a λa c=>ah 1 a λa=>am c p λd e=>aw e 5 a λa=>let a:=c.set p (.cells (d+1) a);am a p λ_ c=>af c 11 λc=>kC c λc=>ct c 1 λc=>bW ab 87 c a λc=>af b 0 λd=>ay ab 87 c d λc=>bW ab 93 c a λc=>ah 11 c λc=>aw [.i 0,.i 0,.str [],.str [],.nilrow,.nilrow,.i 0,.i 0,.nilrow,.i 0,.nilrow] 0 c λc=>af c 0 λd=>aC ab .eql 3 true d (.i 6) λe=>brD e (af c 2 λd=>am a p λ_ e=>af e 3 λf=>af e 4 λe=>af b 1 λb=>aU (R (.call 51 [.ptr p 0,d,.agg [f,e],b] none) a) (λb d=>af c 10 λc=>ay ab 40 c (.i 1) λc=>Kf ab 3 c d [a] λa=>aU (R (.call 50 [.ptr p 0,a,b] none) d) (λ_ a=>am a H.length λb c=>aw c 0 [.i 0] λc=>let a:=a.set H.length (.cells (b+1) c);iH (R (.call 48 [.ptr H.length 0] (some .returning)) a) (λa=>am a H.length λ_ b=>af b 0 λb=>ret b a) λa H=>some ⟨.pan a,none,H⟩) λ_ _=>none) λ_ _=>none) (aC ab .eql 3 true d (.i 8) λd=>brD d (af b 0 λd=>af b 1 λe=>af b 2 λb=>af c 0 λf=>af c 1 λg=>af c 2 λh=>af c 3 λi=>af c 4 λj=>af c 5 λk=>af c 6 λl=>af c 7 λm=>af c 8 λn=>af c 9 λo=>af c 10 λc=>aU (R (.call 52 [.ptr p 0,.agg [d,e,b],.agg [f,g,h,i,j,k,l,m,n,o,c]] none) a) (λ_ a=>am a H.length λb c=>aw c 0 [.i 0] λc=>let a:=a.set H.length (.cells (b+1) c);iH (R (.call 48 [.ptr H.length 0] (some .returning)) a) (λa=>am a H.length λ_ b=>af b 0 λb=>ret b a) λa H=>some ⟨.pan a,none,H⟩) λa b=>iH (R (.call 48 [.ptr H.length 0] (some (.panicking a))) b) (λa=>am a H.length λ_ b=>af b 0 λb=>ret b a) λa H=>some ⟨.pan a,none,H⟩) (af b 2 λd=>aU (R (.call 46 [d] none) a) (λd e=>am (cK e [a]) p λ_ a=>af a 3 λf=>af a 4 λa=>bX (aF ab 26) 2 d [[f,a]] e λa d=>ah 1 a λa=>aw b 2 a λa=>af a 2 λb=>aS ab 37 b d λb=>af c 10 λe=>aS ab 40 e d λe=>aC ab .lss 3 false b e λb=>brD b (am d p λ_ b=>af b 5 λb=>af a 0 λe=>af a 1 λf=>af a 2 λg=>bX (aF ab 39) 3 b [[e,f,g]] d λb d=>ah 1 b λb=>am d p λe f=>aw f 5 b λb=>let b:=d.set p (.cells (e+1) b);af c 10 λc=>af a 2 λd=>aS ab 37 d b λd=>ay ab 40 c d λc=>bW ab 3 c b λc=>af a 1 λa=>aU (R (.call 50 [.ptr p 0,c,a] none) b) (λ_ a=>am a H.length λb c=>aw c 0 [.i 0] λc=>let a:=a.set H.length (.cells (b+1) c);iH (R (.call 48 [.ptr H.length 0] (some .returning)) a) (λa=>am a H.length λ_ b=>af b 0 λb=>ret b a) λa H=>some ⟨.pan a,none,H⟩) λ_ _=>none) (af a 0 λb=>af a 1 λe=>af a 2 λa=>af c 0 λf=>af c 1 λg=>af c 2 λh=>af c 3 λi=>af c 4 λj=>af c 5 λk=>af c 6 λl=>af c 7 λm=>af c 8 λn=>af c 9 λo=>af c 10 λc=>aU (R (.call 53 [.ptr p 0,.agg [b,e,a],.agg [f,g,h,i,j,k,l,m,n,o,c]] none) d) (λ_ a=>am a H.length λb c=>aw c 0 [.i 0] λc=>let a:=a.set H.length (.cells (b+1) c);iH (R (.call 48 [.ptr H.length 0] (some .returning)) a) (λa=>am a H.length λ_ b=>af b 0 λb=>ret b a) λa H=>some ⟨.pan a,none,H⟩) λa b=>iH (R (.call 48 [.ptr H.length 0] (some (.panicking a))) b) (λa=>am a H.length λ_ b=>af b 0 λb=>ret b a) λa H=>some ⟨.pan a,none,H⟩)) λ_ _=>none))))):=by kernel_rfl
theorem aee{R:aM}{a:Nat}{H:DH}:NB de R 200 (.call 48 [.ptr a 0] (some .returning)) H =
 some ⟨.ret (.tuple []),(some .returning),H⟩:=by kernel_rfl
theorem aef{R:aM}{b:Nat}{a:Int}{H:DH}:NB de R 200 (.call 48 [.ptr b 0] (some (.panicking [⟨.iface 134 (.agg [.i a]),false⟩]))) H =
 jI ab (.iface 134 (.agg [.i a])) 134 true λc=>ei c 1 λd=>ei c 0 λc=>brD d (ah 1 c λc=>aw [.i 0] 0 c λc=>af c 0 λc=>ah 1 c λc=>am H b λd e=>aw e 0 c λc=>let H:=H.set b (.cells (d+1) c);some ⟨.ret (.tuple []),(some (.panicking [⟨.iface 134 (.agg [.i a]),true⟩])),H⟩) (some ⟨.pan [⟨.iface 134 (.agg [.i a]),false⟩],(some (.panicking [⟨.iface 134 (.agg [.i a]),true⟩])),H⟩):=by kernel_rfl
theorem f39{R:aM}{g:Nat}{na nb:Int}{nc ng:ak}{ne nf:aO}{nh nj:Int}{nk:aO}{nl:Int}{nm:D}{H:DH}:aA R 39 [.ptr g 0,.agg [.i na,.i nb,.str nc,.str ng,.row 6 ne,.row 3 nf,.i nh,.i nj,.row 1 nk,.i nl,nm]] H =
 ay ab 40 nm (.i 0) λa=>bW ab 3 a H λa=>am H g λ_ b=>af b 2 λb=>ah 1 a λa=>aw [.i 2,.str ng,.i 0,.nilrow,.i 0] 2 a λa=>ah 1 b λb=>aw a 4 b λa=>aU (R (.call 85 [.ptr g 0,.agg a] none) H) (λa H=>aU (R (.call 83 [.ptr g 0,a] none) H) (λ_ H=>ret (.tuple []) H) λ_ _=>none) λ_ _=>none:=by kernel_rfl
theorem aem{R:aM}{x:D}{ca cb:Nat}{H:DH}:aA R 118 [x,.func 170 [] [.ptr ca 0,.ptr cb 0]] H =
 C R 168 [x,.func 170 [] [.ptr ca 0,.ptr cb 0]] H λa H=>aC ab .geq 3 true a (.i 0) λa=>ret a H:=by kernel_rfl
theorem f52{R:aM}{h:Nat}{fa fb:Int}{j:D}{na nb:Int}{nc ng:ak}{ne nf:aO}{nh nj:Int}{nk:aO}{nl:Int}{nm:D}{H:DH}:aA R 52 [.ptr h 0,.agg [.i fa,.i fb,j],.agg [.i na,.i nb,.str nc,.str ng,.row 6 ne,.row 3 nf,.i nh,.i nj,.row 1 nk,.i nl,nm]] H =
 ae R 52 200002 [.g (.ptr h 0),.lp 0 0,.lp 1 0,.g (.row 3 nf),.n nf.length,.n 0] [(0,[.i fa,.i fb,j]),(0,[.i na,.i nb,.str nc,.str ng,.row 6 ne,.row 3 nf,.i nh,.i nj,.row 1 nk,.i nl,nm])] H:=by kernel_rfl
theorem AN{R:aM}{y:Nat}{a:aO}{b c e h:Int}{j:D}{k l:Int}{m p:ak}{q r:aO}{s t:Int}{u:aO}{v:Int}{w:D}{H:DH}:aV R 52 200002 [.g (.ptr y 0),.lp 0 0,.lp 1 0,.g (.row 3 a),.n b,.n c] [(0,[.i e,.i h,j]),(0,[.i k,.i l,.str m,.str p,.row 6 q,.row 3 r,.i s,.i t,.row 1 u,.i v,w])] H =
 cond (decide (c<b)) (dV c λd=>bZ a d λd=>af d 0 λf=>af d 1 λg=>af d 2 λd=>am H y λ_ i=>af i 3 λn=>af i 4 λi=>aU (R (.call 87 [.ptr y 0,.nilrow,.agg [f,g,d],.agg [n,i]] none) H) (λd H=>ei d 0 λf=>ei d 1 λd=>ib .not d λd=>brD d (ae R 52 200002 [.g (.ptr y 0),.lp 0 0,.lp 1 0,.g (.row 3 a),.n b,.n (di (c+1))] [(0,[.i e,.i h,j]),(0,[.i k,.i l,.str m,.str p,.row 6 q,.row 3 r,.i s,.i t,.row 1 u,.i v,w])] H) (aS ab 29 f H λa=>ae R 52 200008 [.g (.ptr y 0),.lp 1 0,.n c,.n h,.g f,.g a,.n 0] [(0,[]),(0,[.i k,.i l,.str m,.str p,.row 6 q,.row 3 r,.i s,.i t,.row 1 u,.i v,w])] H)) λ_ _=>none) (pan (.iface 134 (.agg [.i 60])) H):=by kernel_rfl
theorem AM{R:aM}{v:Nat}{w a:Int}{b:D}{c e h j:Int}{k l:ak}{m p:aO}{q r:Int}{s:aO}{t:Int}{u:D}{H:DH}:aV R 52 200008 [.g (.ptr v 0),.lp 1 0,.n w,.n a,.g b,.n c,.n e] [(0,[]),(0,[.i h,.i j,.str k,.str l,.row 6 m,.row 3 p,.i q,.i r,.row 1 s,.i t,u])] H =
 cond (decide (e<c)) (ay ab 29 b (.i e) λd=>bW ab 114 d H λd=>ah 3 d λd=>aw [.str [],.bool false,.i 0] 0 d λd=>af d 0 λf=>af d 1 λg=>af d 2 λd=>C R 51 [.ptr v 0,f,.agg [g,d],.i a] H λa H=>ae R 52 200008 [.g (.ptr v 0),.lp 1 0,.n w,.g a,.g b,.n c,.n (di (e+1))] [(0,[]),(0,[.i h,.i j,.str k,.str l,.row 6 m,.row 3 p,.i q,.i r,.row 1 s,.i t,u])] H) (ay ab 40 u (.i (di (w+1))) λb=>bW ab 3 b H λb=>C R 50 [.ptr v 0,b,.i a] H λ_ H=>ret (.tuple []) H):=by kernel_rfl
theorem f84{R:aM}{h:Nat}{j p q:Int}{r:Bool}{t:Int}{u v w:D}{y:Int}{z:D}{qt A B:Int}{E:ak}{H:DH}:aA R 84 [.ptr h 0,.agg (xM j p q r t u v w y z qt),.i A,.i B,.str E] H =
 ae R 84 200001 [.g (.ptr h 0),.n A,.n B,.g (.str E),.lp 0 0,.lp 1 0] [(0,xM j p q r t u v w y z qt),(0,[.bool false,.i 0])] H:=by kernel_rfl
theorem AE{R:aM}{t:Nat}{v w:Int}{u:ak}{a b c:Int}{e:Bool}{h:Int}{j k l:D}{m:Int}{p:D}{q:Int}{r:Bool}{s:Int}{H:DH}:aV R 84 200001 [.g (.ptr t 0),.n v,.n w,.g (.str u),.lp 0 0,.lp 1 0] [(0,xM a b c e h j k l m p q),(0,[.bool r,.i s])] H =
 cond (decide (w>=0)) (ay ab 28 k (.i w) λd=>bW ab 112 d H λd=>ah 5 d λd=>aw [.i 0,.str [],.i 0,.nilrow,.i 0] 0 d λd=>af d 1 λf=>aC ab .eql 9 false f (.str u) λf=>brD f (af d 3 λa=>ay ab 37 a (.i 0) λa=>bW ab 26 a H λa=>ah 2 a λa=>aw [.bool r,.i s] 0 a λa=>af a 0 λb=>af a 1 λa=>ret (.tuple [.agg [b,a],.bool true]) H) (af d 4 λd=>ae R 84 200001 [.g (.ptr t 0),.n v,.g d,.g (.str u),.lp 0 0,.lp 1 0] [(0,xM a b c e h j k l m p q),(0,[.bool r,.i s])] H)) (am H t λ_ a=>af a 1 λa=>ay ab 87 a (.i v) λa=>ct a 9 λa=>bW ab 3 a H λa=>aU (R (.call 127 [.ptr t 0,a,.str u,l] none) H) (λa H=>ei a 0 λb=>ei a 1 λa=>ah 2 b λb=>aw [.bool r,.i s] 0 b λb=>af b 0 λc=>af b 1 λb=>ret (.tuple [.agg [c,b],a]) H) λ_ _=>none):=by kernel_rfl
theorem f74{R:aM}{g:Nat}{H:DH}:aA R 74 [.ptr g 0] H =
 am H g λ_ a=>af a 8 λa=>am H g λ_ b=>af b 11 λb=>kC b λb=>ct b 3 λb=>bW ab 40 b H λb=>aS ab 40 b H λb=>aC ab .eql 3 false a b λa=>brD a (am H g λa b=>aw b 0 [.i 3] λb=>let H:=H.set g (.cells (a+1) b);am H g λa b=>aw b 1 [.i 0] λb=>let H:=H.set g (.cells (a+1) b);am H g λa b=>aw b 2 [.i (-1)] λb=>let H:=H.set g (.cells (a+1) b);am H g λa b=>aw b 3 [.bool false,.i 0] λb=>let H:=H.set g (.cells (a+1) b);ret (.tuple []) H) (am H g λ_ a=>af a 11 λa=>kC a λa=>ct a 2 λa=>bW ab 88 a H λa=>am H g λ_ b=>af b 11 λb=>kC b λb=>ct b 3 λb=>bW ab 40 b H λb=>am H g λ_ c=>af c 8 λc=>ay ab 40 b c λb=>bW ab 3 b H λb=>ay ab 88 a b λa=>ct a 0 λa=>bW ab 3 a H λa=>aU (R (.call 50 [.ptr g 0,a,.i (-1)] none) H) (λ_ H=>ret (.tuple []) H) λ_ _=>none):=by kernel_rfl
theorem f38{R:aM}{p:Nat}{na nb:Int}{nc ng:ak}{ne nf:aO}{nh nj:Int}{nk:aO}{nl:Int}{nm:D}{H:DH}:aA R 38 [.ptr p 0,.agg [.i na,.i nb,.str nc,.str ng,.row 6 ne,.row 3 nf,.i nh,.i nj,.row 1 nk,.i nl,nm]] H =
 am H p λ_ a=>af a 11 λa=>am H p λ_ b=>af b 0 λc=>af b 1 λd=>af b 2 λe=>af b 3 λf=>af b 4 λg=>af b 5 λh=>af b 6 λi=>af b 7 λj=>af b 8 λk=>af b 9 λl=>af b 10 λb=>am H p λ_ m=>af m 1 λm=>am H p λ_ n=>af n 2 λn=>aU (R (.call 84 [a,.agg [c,d,e,f,g,h,i,j,k,l,b],m,n,.str nc] none) H) (λa H=>ei a 0 λb=>ah 2 b λb=>aw [.bool false,.i 0] 0 b λb=>ei a 1 λa=>ib .not a λa=>brD a (pan (.iface 134 (.agg [.i 61])) H) (af b 0 λa=>af b 1 λb=>C R 83 [.ptr p 0,.agg [a,b]] H λ_ H=>ret (.tuple []) H)) λ_ _=>none:=by kernel_rfl
theorem f85{R:aM}{h:Nat}{a:Int}{b:ak}{c:Int}{x:D}{g:Int}{H:DH}:aA R 85 [.ptr h 0,.agg [.i a,.str b,.i c,x,.i g]] H =
 am H h λ_ d=>af d 6 λd=>bX (aF ab 112) 5 d [[.i a,.str b,.i c,x,.i g]] H λa H=>ah 1 a λa=>am H h λb c=>aw c 6 a λa=>let H:=H.set h (.cells (b+1) a);am H h λ_ a=>af a 6 λa=>aS ab 28 a H λa=>aC ab .sub 3 true a (.i 1) λa=>ah 1 a λa=>aw [.bool true,.i 0] 1 a λa=>ah 2 (.agg a) λa=>aw [.bool false,.i 0] 0 a λa=>af a 0 λb=>af a 1 λa=>ret (.agg [b,a]) H:=by kernel_rfl
theorem ahr{R:aM}{a:Bool}{b:Int}{c e:Nat}{H:DH}:aA R 170 [.agg [.bool a,.i b],.ptr c 0,.ptr e 0] H =
 am H c λ_ c=>af c 0 λc=>am H e λ_ d=>af d 1 λd=>C R 128 [c,.agg [.bool a,.i b],d] H λa H=>ib .not a λa=>ret a H:=by kernel_rfl
theorem f53{R:aM}{g:Nat}{fa fb:Int}{h:D}{na nb:Int}{nc ng:ak}{ne nf:aO}{nh nj:Int}{nk:aO}{nl:Int}{nm:D}{H:DH}:aA R 53 [.ptr g 0,.agg [.i fa,.i fb,h],.agg [.i na,.i nb,.str nc,.str ng,.row 6 ne,.row 3 nf,.i nh,.i nj,.row 1 nk,.i nl,nm]] H =
 cond (na==3) (ah 1 h λa=>aw [.i 1,.str nc,.i 0,.nilrow,.i 0] 3 a λa=>aw a 4 [.i (-1)] λa=>C R 85 [.ptr g 0,.agg a] H λa H=>C R 83 [.ptr g 0,a] H λ_ H=>ret (.tuple []) H) (cond (na==9) (ay ab 37 h (.i 0) λa=>ct a 0 λa=>bW ab 4 a H λa=>brD a (pan (.iface 134 (.agg [.i 61])) H) (ay ab 37 h (.i 1) λa=>ct a 0 λa=>bW ab 4 a H λa=>brD a (pan (.iface 134 (.agg [.i 61])) H) (ay ab 37 h (.i 0) λa=>ct a 1 λa=>bW ab 3 a H λa=>ay ab 37 h (.i 1) λb=>ct b 1 λb=>bW ab 3 b H λb=>aU (R (.call 88 [.str nc,a,b] none) H) (λa H=>ei a 0 λb=>ah 3 b λb=>aw [.str [],.i 0,.nilrow] 0 b λb=>ei a 1 λ_=>af b 0 λa=>aC ab .eql 9 true a (.str []) λa=>brD a (af b 1 λa=>ah 1 a λa=>aw [.bool false,.i 0] 1 a λa=>C R 83 [.ptr g 0,.agg a] H λ_ H=>ret (.tuple []) H) (af b 0 λa=>ah 1 a λa=>aw [.i 1,.str [],.i 0,.nilrow,.i 0] 1 a λa=>aw a 4 [.i (-1)] λa=>C R 85 [.ptr g 0,.agg a] H λa H=>C R 83 [.ptr g 0,a] H λ_ H=>ret (.tuple []) H)) λ_ _=>none))) (cond (na==4) (ay ab 37 h (.i 0) λa=>bW ab 26 a H λa=>ah 2 a λa=>aw [.bool false,.i 0] 0 a λa=>af a 0 λb=>ib .not b λb=>brD b (pan (.iface 134 (.agg [.i 61])) H) (am H g λ_ b=>af b 6 λb=>af a 1 λc=>ay ab 28 b c λb=>ct b 0 λb=>bW ab 3 b H λb=>aC ab .neq 3 true b (.i 2) λb=>brD b (pan (.iface 134 (.agg [.i 61])) H) (am H g λ_ b=>af b 6 λb=>af a 1 λa=>ay ab 28 b a λa=>bW ab 112 a H λa=>ah 5 a λa=>aw [.i 0,.str [],.i 0,.nilrow,.i 0] 0 a λa=>af a 1 λb=>ay ab 37 h (.i 1) λc=>bW ab 26 c H λc=>af a 4 λd=>aU (R (.call 51 [.ptr g 0,b,c,d] none) H) (λb H=>af a 2 λa=>aU (R (.call 50 [.ptr g 0,a,b] none) H) (λ_ H=>ret (.tuple []) H) λ_ _=>none) λ_ _=>none))) (ret (.tuple []) H))):=by kernel_rfl
theorem f86{R:aM}{x0 x1 x2:Int}{x3:Bool}{x4:Int}{x5 x6 x7:D}{x8:Int}{x9:D}{xt:Int}{a:Bool}{b:Int}{H:DH}:aA R 86 [.agg (xM x0 x1 x2 x3 x4 x5 x6 x7 x8 x9 xt),.agg [.bool a,.i b]] H =
 aY H (cond a (cond (decide (b<0)) (ret (.tuple [.agg [.str [],.i 0,.nilrow],.i 3]) H) (aS ab 28 x6 H λc=>aC ab .geq 3 false (.i b) c λc=>brD c (ret (.tuple [.agg [.str [],.i 0,.nilrow],.i 3]) H) (ae R 86 3 [.lp 0 0,.lp 1 0,.lp 2 0] [(0,xM x0 x1 x2 x3 x4 x5 x6 x7 x8 x9 xt),(0,[.bool a,.i b]),(0,[.str [],.i 0,.nilrow])] H))) (ae R 86 3 [.lp 0 0,.lp 1 0,.lp 2 0] [(0,xM x0 x1 x2 x3 x4 x5 x6 x7 x8 x9 xt),(0,[.bool a,.i b]),(0,[.str [],.i 0,.nilrow])] H)):=by kernel_rfl
theorem aed{R:aM}{a b c:Int}{e:Bool}{g:Int}{h j k:D}{l:Int}{m:D}{p:Int}{q:Bool}{r:Int}{s:ak}{t:Int}{u:D}{H:DH}:aV R 86 3 [.lp 0 0,.lp 1 0,.lp 2 0] [(0,xM a b c e g h j k l m p),(0,[.bool q,.i r]),(0,[.str s,.i t,u])] H =
 let a:=H++[.map []];ah 1 j λb=>aw [.nilrow,.nilmap,.i 0,.i 0] 0 b λb=>aw b 1 [.map H.length] λb=>ah 4 (.agg b) λb=>let H:=a++[.cells 0 b];aS ab 28 j H λb=>C R 128 [.ptr a.length 0,.agg [.bool q,.i r],b] H λb H=>ib .not b λb=>brD b (ret (.tuple [.agg [.str [],.i 0,.nilrow],.i 70]) H) (C R 129 [.ptr a.length 0,.agg [.bool q,.i r]] H λb H=>ah 3 b λb=>aw [.str [],.i 0,.nilrow] 0 b λb=>am H a.length λ_ c=>af c 3 λc=>aC ab .neq 34 true c (.i 0) λc=>brD c (am (cK H [H]) a.length λ_ a=>af a 3 λa=>ret (.tuple [.agg [.str [],.i 0,.nilrow],a]) H) (af b 0 λa=>af b 1 λc=>af b 2 λb=>ret (.tuple [.agg [a,c,b],.i 0]) H)):=by kernel_rfl
theorem f20{R:aM}{g:Nat}{h j p:Int}{q:Bool}{r:Int}{t u v:D}{w:Int}{y:D}{qt:Int}{H:DH}:aA R 20 [.ptr g 0,.agg (xM h j p q r t u v w y qt)] H =
 let a:=H++[.map []];ig a H.length λb=>fY (.i 1) (.func 37 [] []) b λb=>let a:=a.set H.length (.map b);ig a H.length λb=>fY (.i 2) (.func 38 [] []) b λb=>let a:=a.set H.length (.map b);ig a H.length λb=>fY (.i 5) (.func 39 [] []) b λb=>let a:=a.set H.length (.map b);ig a H.length λb=>fY (.i 7) (.func 40 [] []) b λb=>let a:=a.set H.length (.map b);ig a H.length λb=>fY (.i 3) (.func 41 [] []) b λb=>let a:=a.set H.length (.map b);ig a H.length λb=>fY (.i 4) (.func 41 [] []) b λb=>let a:=a.set H.length (.map b);ig a H.length λb=>fY (.i 6) (.func 41 [] []) b λb=>let a:=a.set H.length (.map b);ig a H.length λb=>fY (.i 8) (.func 41 [] []) b λb=>let a:=a.set H.length (.map b);ig a H.length λb=>fY (.i 9) (.func 41 [] []) b λb=>let a:=a.set H.length (.map b);let H:=a++[.cells 0 [.i h,.i j,.i p,.bool q,.i r,t,u,v,.i w,y,.i qt,.ptr g 0,.map H.length]];ret (.ptr a.length 0) H:=by kernel_rfl
theorem f7{R:aM}{a:aO}{p:Mc}{H:DH}:aA R 7 [.agg [.row 14 a],.agg (fv p)] H =
 C R 19 [.agg [.row 14 a],.agg (fv p)] H λa H=>ei a 0 λb=>ei a 1 λa=>aC ab .neq 34 true a (.i 0) λc=>brD c (ret (.tuple [.agg [.i 0,.i 0,.i 0,.bool false,.i 0,.nilrow,.nilrow,.nilrow,.i 0,.nilrow,.i 0],a]) H) (C R 21 [.agg (fv p)] H λa H=>C R 20 [b,a] H λa H=>C R 22 [a] H λb H=>aC ab .neq 34 true b (.i 0) λc=>brD c (ret (.tuple [.agg [.i 0,.i 0,.i 0,.bool false,.i 0,.nilrow,.nilrow,.nilrow,.i 0,.nilrow,.i 0],b]) H) (kC a λa=>ct a 0 λa=>bW ab 32 a H λa=>ah 11 a λa=>aw [.i 0,.i 0,.i 0,.bool false,.i 0,.nilrow,.nilrow,.nilrow,.i 0,.nilrow,.i 0] 0 a λa=>af a 0 λb=>af a 1 λc=>af a 2 λd=>af a 3 λe=>af a 4 λf=>af a 5 λg=>af a 6 λh=>af a 7 λi=>af a 8 λj=>af a 9 λk=>af a 10 λa=>ret (.tuple [.agg [b,c,d,e,f,g,h,i,j,k,a],.i 0]) H)):=by kernel_rfl
theorem f83{R:aM}{g:Nat}{a:Bool}{b:Int}{H:DH}:aA R 83 [.ptr g 0,.agg [.bool a,.i b]] H =
 am H g λc d=>aw d 0 [.i 2] λd=>let H:=H.set g (.cells (c+1) d);am H g λc d=>aw d 1 [.i 0] λd=>let H:=H.set g (.cells (c+1) d);am H g λc d=>aw d 2 [.i (-1)] λd=>let H:=H.set g (.cells (c+1) d);am H g λc d=>aw d 3 [.bool a,.i b] λa=>let H:=H.set g (.cells (c+1) a);ret (.tuple []) H:=by kernel_rfl
theorem f37{R:aM}{g:Nat}{na nb:Int}{nc ng:ak}{ne nf:aO}{nh nj:Int}{nk:aO}{nl:Int}{nm:D}{H:DH}:aA R 37 [.ptr g 0,.agg [.i na,.i nb,.str nc,.str ng,.row 6 ne,.row 3 nf,.i nh,.i nj,.row 1 nk,.i nl,nm]] H =
 C R 83 [.ptr g 0,.agg [.bool false,.i nb]] H λ_ H=>ret (.tuple []) H:=by kernel_rfl
theorem f49{R:aM}{p:Nat}{H:DH}:aA R 49 [.ptr p 0] H =
 am H p λ_ a=>af a 11 λa=>kC a λa=>ct a 2 λa=>bW ab 88 a H λa=>am H p λ_ b=>af b 11 λb=>kC b λb=>ct b 3 λb=>bW ab 40 b H λb=>am H p λ_ c=>af c 8 λc=>ay ab 40 b c λb=>bW ab 3 b H λb=>ay ab 88 a b λa=>bW ab 140 a H λa=>ah 7 a λa=>aw [.i 0,.i 0,.i 0,.i 0,.str [],.str [],.i 0] 0 a λa=>af a 6 λb=>aC ab .eql 3 true b (.i 4) λb=>brD b (am H p λ_ b=>af b 7 λb=>af a 4 λa=>am H p λ_ c=>af c 3 λd=>af c 4 λc=>ah 1 a λa=>aw [.str [],.bool false,.i 0] 0 a λa=>aw a 1 [d,c] λa=>ah 3 (.agg a) λa=>bX (aF ab 114) 3 b [a] H λa H=>ah 1 a λa=>am H p λb c=>aw c 7 a λa=>let H:=H.set p (.cells (b+1) a);am H p λ_ a=>af a 8 λa=>aC ab .add 3 true a (.i 1) λa=>ah 1 a λa=>am H p λb c=>aw c 8 a λa=>let H:=H.set p (.cells (b+1) a);C R 74 [.ptr p 0] H λ_ H=>ret (.tuple []) H) (am H p λ_ b=>af b 0 λc=>af b 1 λd=>af b 2 λe=>af b 3 λf=>af b 4 λg=>af b 5 λh=>af b 6 λi=>af b 7 λj=>af b 8 λk=>af b 9 λl=>af b 10 λb=>am H p λ_ m=>af m 3 λn=>af m 4 λm=>aU (R (.call 86 [.agg [c,d,e,f,g,h,i,j,k,l,b],.agg [n,m]] none) H) (λb H=>ei b 0 λc=>ah 3 c λc=>aw [.str [],.i 0,.nilrow] 0 c λc=>ei b 1 λb=>aC ab .neq 34 true b (.i 0) λd=>brD d (ah 1 b λa=>aw [.i 0] 0 a λa=>pan (.iface 134 (.agg a)) H) (am H p λ_ b=>af b 9 λb=>af a 4 λa=>af c 0 λd=>af c 1 λe=>af c 2 λc=>ah 1 a λa=>aw [.str [],.str [],.i 0,.nilrow] 0 a λa=>aw a 1 [d,e,c] λa=>ah 4 (.agg a) λa=>bX (aF ab 75) 4 b [a] H λa H=>ah 1 a λa=>am H p λb c=>aw c 9 a λa=>let H:=H.set p (.cells (b+1) a);am H p λ_ a=>af a 8 λa=>aC ab .add 3 true a (.i 1) λa=>ah 1 a λa=>am H p λb c=>aw c 8 a λa=>let H:=H.set p (.cells (b+1) a);C R 74 [.ptr p 0] H λ_ H=>ret (.tuple []) H)) λ_ _=>none):=by kernel_rfl
theorem ael{R:aM}{j:Nat}{a:Bool}{b h:Int}{H:DH}:aA R 128 [.ptr j 0,.agg [.bool a,.i b],.i h] H =
 let c:=H++[.cells 0 [.ptr j 0]];let a:=c++[.cells 0 [.bool a,.i b]];am a c.length λ_ b=>af b 0 λb=>ib .not b λb=>brD b (ret (.bool true) a) (am a c.length λ_ b=>af b 1 λb=>aC ab .geq 3 true b (.i 0) λb=>brD b (am a c.length λ_ b=>af b 1 λb=>aC ab .lss 3 false b (.i h) λb=>brD b (am a H.length λ_ b=>af b 0 λb=>kC b λb=>ct b 1 λb=>bW ab 223 b a λb=>am a c.length λ_ d=>af d 1 λd=>ip ab 223 b d false a λb=>brD b (ret (.bool true) a) (ae R 128 3 [.n h,.g (.ptr H.length 0),.g (.ptr c.length 0)] [] a)) (ae R 128 3 [.n h,.g (.ptr H.length 0),.g (.ptr c.length 0)] [] a)) (ae R 128 3 [.n h,.g (.ptr H.length 0),.g (.ptr c.length 0)] [] a)):=by kernel_rfl
theorem aam{R:aM}{p:Int}{j h:Nat}{H:DH}:aV R 128 3 [.n p,.g (.ptr j 0),.g (.ptr h 0)] [] H =
 am H h λ_ a=>af a 1 λa=>aC ab .lss 3 true a (.i 0) λa=>brD a (ret (.bool false) H) (am H h λ_ a=>af a 1 λa=>aC ab .geq 3 false a (.i p) λa=>brD a (ret (.bool false) H) (am H j λ_ a=>af a 0 λa=>kC a λa=>ct a 1 λa=>bW ab 223 a H λa=>am H h λ_ b=>af b 1 λb=>jp ab 223 a b (.bool true) H λH=>am H j λ_ a=>af a 0 λa=>kC a λa=>ct a 0 λa=>bW ab 28 a H λa=>am H h λ_ b=>af b 1 λb=>ay ab 28 a b λa=>bW ab 112 a H λa=>ah 5 a λa=>aw [.i 0,.str [],.i 0,.nilrow,.i 0] 0 a λa=>af a 0 λb=>aC ab .eql 3 true b (.i 2) λc=>brD c (ret (.bool true) H) (aC ab .eql 3 true b (.i 1) λb=>brD b (af a 3 λa=>C R 118 [a,.func 170 [] [.ptr j 0,.ptr h 0]] H λa H=>ib .not a λa=>ret a H) (ret (.bool false) H)))):=by kernel_rfl
theorem f41{R:aM}{g:Nat}{na nb:Int}{nc ng:ak}{ne nf:aO}{nh nj:Int}{nk:aO}{nl:Int}{nm:D}{H:DH}:aA R 41 [.ptr g 0,.agg [.i na,.i nb,.str nc,.str ng,.row 6 ne,.row 3 nf,.i nh,.i nj,.row 1 nk,.i nl,nm]] H =
 aS ab 40 nm H λa=>aC ab .eql 3 true a (.i 0) λa=>brD a (C R 85 [.ptr g 0,.agg [.i 1,.str nc,.i 0,.nilrow,.i (-1)]] H λa H=>C R 83 [.ptr g 0,a] H λ_ H=>ret (.tuple []) H) (am H g λ_ a=>af a 5 λa=>am H g λ_ b=>af b 1 λb=>am H g λ_ c=>af c 2 λc=>ah 1 b λb=>aw [.i 0,.i 0,.nilrow] 0 b λb=>ah 1 c λc=>aw b 1 c λb=>ah 3 (.agg b) λb=>bX (aF ab 39) 3 a [b] H λa H=>ah 1 a λa=>am H g λb c=>aw c 5 a λa=>let H:=H.set g (.cells (b+1) a);ay ab 40 nm (.i 0) λa=>bW ab 3 a H λa=>am H g λ_ b=>af b 2 λb=>aU (R (.call 50 [.ptr g 0,a,b] none) H) (λ_ H=>ret (.tuple []) H) λ_ _=>none):=by kernel_rfl
theorem aej{R:aM}{x:D}{ca cb:Nat}{H:DH}:aA R 168 [x,.func 170 [] [.ptr ca 0,.ptr cb 0]] H =
 aS ab 37 x H λa=>ae R 168 200002 [.g x,.g (.func 170 [] [.ptr ca 0,.ptr cb 0]),.g a,.n 0] [] H:=by kernel_rfl
theorem tS{R:aM}{j p:D}{q h:Int}{H:DH}:aV R 168 200002 [.g j,.g p,.n q,.n h] [] H =
 cond (decide (h<q)) (ay ab 37 j (.i h) λa=>bW ab 26 a H λa=>jC bV p λb c d=>C R b (c++([a]++d)) H λa H=>brD a (ret (.i h) H) (ae R 168 200002 [.g j,.g p,.n q,.n (di (h+1))] [] H)) (ret (.i (-1)) H):=by kernel_rfl
theorem ahL{R:aM}{g:Bool}{H:DH}:aA R 130 [.bool g] H =
 cond g (ret (.agg [.str [84,114,117,101],.i 0,.nilrow]) H) (ret (.agg [.str [70,97,108,115,101],.i 0,.nilrow]) H):=by kernel_rfl
theorem f129{R:aM}{h:Nat}{a:Bool}{b:Int}{H:DH}:aA R 129 [.ptr h 0,.agg [.bool a,.i b]] H =
 am H h λ_ c=>af c 2 λc=>aC ab .add 3 true c (.i 1) λc=>ah 1 c λc=>am H h λd e=>aw e 2 c λc=>let H:=H.set h (.cells (d+1) c);am H h λ_ c=>af c 2 λc=>aC ab .gtr 3 true c (.i 4000) λc=>brD c (am H h λa b=>aw b 3 [.i 7] λb=>let H:=H.set h (.cells (a+1) b);ret (.agg (xV [] 0 [])) H) (cond (!a) (ret (.agg (xV [] b [])) H) (am H h λ_ a=>af a 0 λa=>ay ab 28 a (.i b) λa=>bW ab 112 a H λa=>ah 5 a λa=>aw [.i 0,.str [],.i 0,.nilrow,.i 0] 0 a λa=>af a 0 λb=>aC ab .eql 3 true b (.i 2) λb=>brD b (am H h λa b=>aw b 3 [.i 61] λb=>let H:=H.set h (.cells (a+1) b);ret (.agg (xV [] 0 [])) H) (af a 1 λb=>ah 1 b λb=>aw [.str [],.i 0,.nilrow] 0 b λb=>ah 3 (.agg b) λb=>aw [.str [],.i 0,.nilrow] 0 b λb=>af a 3 λa=>aS ab 37 a H λc=>ae R 129 200013 [.g (.ptr h 0),.lp 1 0,.lp 3 0,.g a,.g c,.n 0] [(0,[]),(0,[.str [],.i 0,.nilrow]),(0,[]),(0,b)] H))):=by kernel_rfl
theorem wF{R:aM}{q:Nat}{a:D}{b c:Int}{e:ak}{h:Int}{j:D}{p:List D}{H:DH}:aV R 129 200013 [.g (.ptr q 0),.lp 1 0,.lp 3 0,.g a,.n b,.n c] [(0,[]),(0,[.str e,.i h,j]),(0,[]),(0,p)] H =
 cond (decide (c<b)) (ay ab 37 a (.i c) λd=>bW ab 26 d H λd=>ah 2 d λd=>aw [.bool false,.i 0] 0 d λd=>af d 0 λf=>af d 1 λd=>aU (R (.call 129 [.ptr q 0,.agg [f,d]] none) H) (λd H=>af p 2 λf=>ah 3 d λd=>bX (aF ab 73) 3 f [d] H λd H=>ah 1 d λd=>aw p 2 d λd=>am H q λ_ f=>af f 3 λf=>aC ab .neq 34 true f (.i 0) λf=>brD f (af d 0 λa=>af d 1 λb=>af d 2 λc=>iW (.fz 3) c H λc H=>ret (.agg [a,b,c]) H) (ae R 129 200013 [.g (.ptr q 0),.lp 1 0,.lp 3 0,.g a,.n b,.n (di (c+1))] [(0,[]),(0,[.str e,.i h,j]),(0,[]),(0,d)] H)) λ_ _=>none) (af p 0 λa=>af p 1 λb=>af p 2 λc=>iW (.fz 3) c H λc H=>ret (.agg [a,b,c]) H):=by kernel_rfl
theorem f87{R:aM}{j:Nat}{x:D}{a:Int}{b:ak}{c:aO}{e:Bool}{h:Int}{H:DH}:aA R 87 [.ptr j 0,x,.agg [.i a,.str b,.row 3 c],.agg [.bool e,.i h]] H =
 cond (a==1) (ret (.tuple [x,.bool true]) H) (cond (a==2) (bX (aF ab 114) 3 x [[.str b,.bool e,.i h]] H λa H=>ret (.tuple [a,.bool true]) H) (cond (!e) (ret (.tuple [.nilrow,.bool false]) H) (am H j λ_ a=>af a 6 λa=>ay ab 28 a (.i h) λa=>ct a 0 λa=>bW ab 3 a H λa=>aC ab .neq 3 true a (.i 1) λa=>brD a (ret (.tuple [.nilrow,.bool false]) H) (am H j λ_ a=>af a 6 λa=>ay ab 28 a (.i h) λa=>ct a 1 λa=>bW ab 9 a H λa=>aC ab .neq 9 false a (.str b) λa=>brD a (ret (.tuple [.nilrow,.bool false]) H) (am H j λ_ a=>af a 6 λa=>ay ab 28 a (.i h) λa=>ct a 3 λa=>bW ab 37 a H λa=>aS ab 37 a H λa=>aC ab .neq 3 false a (.i c.length) λa=>brD a (ret (.tuple [.nilrow,.bool false]) H) (ae R 87 200010 [.g (.ptr j 0),.g x,.lp 1 0,.g (.row 3 c),.n c.length,.n 0] [(0,[]),(0,[.bool e,.i h])] H)))))):=by kernel_rfl
theorem AD{R:aM}{j:Nat}{p:D}{a:aO}{b c:Int}{e:Bool}{h:Int}{H:DH}:aV R 87 200010 [.g (.ptr j 0),.g p,.lp 1 0,.g (.row 3 a),.n b,.n c] [(0,[]),(0,[.bool e,.i h])] H =
 cond (decide (c<b)) (dV c λd=>bZ a d λd=>af d 0 λf=>af d 1 λg=>af d 2 λd=>am H j λ_ i=>af i 6 λi=>ay ab 28 i (.i h) λi=>ct i 3 λi=>bW ab 37 i H λi=>ay ab 37 i (.i c) λi=>bW ab 26 i H λi=>aU (R (.call 87 [.ptr j 0,p,.agg [f,g,d],i] none) H) (λd H=>ei d 0 λf=>ei d 1 λd=>ib .not d λd=>brD d (ret (.tuple [.nilrow,.bool false]) H) (ae R 87 200010 [.g (.ptr j 0),.g f,.lp 1 0,.g (.row 3 a),.n b,.n (di (c+1))] [(0,[]),(0,[.bool e,.i h])] H)) λ_ _=>none) (ret (.tuple [p,.bool true]) H):=by kernel_rfl
theorem Xx{R:aM}{h:ak}{j g:Int}{H:DH}:aA R 88 [.str h,.i j,.i g] H =
 cond (h==[43]) (ae R 88 20 [.lp 0 0,.n (di (j+g))] [(0,[.str [],.i 0,.nilrow])] H) (cond (h==[45]) (ae R 88 20 [.lp 0 0,.n (di (j - g))] [(0,[.str [],.i 0,.nilrow])] H) (cond (h==[42]) (ae R 88 20 [.lp 0 0,.n (di (j*g))] [(0,[.str [],.i 0,.nilrow])] H) (cond (h==[47]) (cond (g != 0) (boK (!(g==0)) (ae R 88 20 [.lp 0 0,.n (di (Int.tdiv j g))] [(0,[.str [],.i 0,.nilrow])] H)) (ae R 88 20 [.lp 0 0,.n 0] [(0,[.str [],.i 0,.nilrow])] H)) (cond (h==[37]) (cond (g != 0) (boK (!(g==0)) (ae R 88 20 [.lp 0 0,.n (Int.tmod j g)] [(0,[.str [],.i 0,.nilrow])] H)) (ae R 88 20 [.lp 0 0,.n 0] [(0,[.str [],.i 0,.nilrow])] H)) (cond (h==[60]) (C R 130 [.bool (decide (j<g))] H λa H=>ah 3 a λa=>aw [.str [],.i 0,.nilrow] 0 a λa=>af a 0 λb=>af a 1 λc=>af a 2 λa=>ret (.tuple [.agg [b,c,a],.i 0]) H) (cond (h==[61]) (C R 130 [.bool (j==g)] H λa H=>ah 3 a λa=>aw [.str [],.i 0,.nilrow] 0 a λa=>af a 0 λb=>af a 1 λc=>af a 2 λa=>ret (.tuple [.agg [b,c,a],.i 0]) H) (ret (.tuple [.agg [.str [],.i 0,.nilrow],.i 1]) H))))))):=by kernel_rfl
theorem aag{R:aM}{g:Int}{a:ak}{b:Int}{c:D}{H:DH}:aV R 88 20 [.lp 0 0,.n g] [(0,[.str a,.i b,c])] H =
 ret (.tuple [.agg [.str [],.i g,.nilrow],.i 0]) H:=by kernel_rfl
theorem f40{R:aM}{g:Nat}{na nb:Int}{nc ng:ak}{ne nf:aO}{nh nj:Int}{nk:aO}{nl:Int}{nm:D}{H:DH}:aA R 40 [.ptr g 0,.agg [.i na,.i nb,.str nc,.str ng,.row 6 ne,.row 3 nf,.i nh,.i nj,.row 1 nk,.i nl,nm]] H =
 am H g λ_ a=>af a 6 λa=>aS ab 28 a H λa=>aC ab .add 3 true a (.i 1) λa=>ah 1 a λa=>aw [.bool true,.i 0] 1 a λa=>am H g λ_ b=>af b 2 λb=>aU (R (.call 51 [.ptr g 0,.str nc,.agg a,b] none) H) (λa H=>ay ab 40 nm (.i 0) λb=>bW ab 3 b H λb=>ah 1 b λb=>aw [.i 2,.str ng,.i 0,.nilrow,.i 0] 2 b λb=>ah 1 a λc=>aw b 4 c λb=>aU (R (.call 85 [.ptr g 0,.agg b] none) H) (λ_ H=>ay ab 40 nm (.i 1) λb=>bW ab 3 b H λb=>C R 50 [.ptr g 0,b,a] H λ_ H=>ret (.tuple []) H) λ_ _=>none) λ_ _=>none:=by kernel_rfl
theorem f50{R:aM}{g:Nat}{h j:Int}{H:DH}:aA R 50 [.ptr g 0,.i h,.i j] H =
 am H g λa b=>aw b 0 [.i 1] λb=>let H:=H.set g (.cells (a+1) b);am H g λa b=>aw b 1 [.i h] λb=>let H:=H.set g (.cells (a+1) b);am H g λa b=>aw b 2 [.i j] λb=>let H:=H.set g (.cells (a+1) b);am H g λa b=>aw b 3 [.bool false,.i 0] λb=>let H:=H.set g (.cells (a+1) b);ret (.tuple []) H:=by kernel_rfl
theorem f51{R:aM}{g:Nat}{h:ak}{a:Bool}{b j:Int}{H:DH}:aA R 51 [.ptr g 0,.str h,.agg [.bool a,.i b],.i j] H =
 C R 85 [.ptr g 0,.agg [.i 3,.str h,.i 0,.row 2 [[.bool a,.i b]],.i j]] H λa H=>sh ab 26 a 1 λa=>ret a H:=by kernel_rfl
end
section
def chg(S:Nat->Prop)(b o i:Nat):DB->Prop
 |.cells _ _=>i=o
 |.buf sz _ _ _=>S sz/\b<=i
 |.tbuf sz _ _=>S sz/\b<=i
 |_=>False
def Mv(S:Nat->Prop)(b o:Nat)(H H':DH):Prop:=H.length<=H'.length/\∀(i:Nat) (x:DB),H[i]? = some x->¬ chg S b o i x->H'[i]? = some x
section
variable{S:Nat->Prop}{b o:Nat}{H H1 H2:DH}
theorem Mv.refl:Mv S b o H H:=⟨aaW _,λ_ _ h _=>h⟩
theorem Mv.trans(h:Mv S b o H H1)(k:Mv S b o H1 H2):Mv S b o H H2:=⟨acd h.1 k.1,λi x hi hc=>k.2 i x (h.2 i x hi hc) hc⟩
theorem Mv.up{T:Nat->Prop}(h:Mv S b o H H1)(g:∀ z,S z->T z):Mv T b o H H1:=⟨h.1,λi x hi hc=>h.2 i x hi λq=>hc (by
 cases x<;>simp only[chg]at q ⊢
 .exact q
 .exact⟨g _ q.1,q.2⟩
 .exact⟨g _ q.1,q.2⟩)⟩
theorem Mv.set{i:Nat}{y:DB}(x:DB)(h:H[i]? = some y)(hc:chg S b o i y):Mv S b o H (H.set i x):=⟨by simp,λj z g p=>by
 by_cases e:i=j
 .subst e;rw[h]at g;cases g;exact(p hc).elim
 .rw[afA e];exact g⟩
theorem ci.mv(h:ci H.length H H1):Mv S b o H H1:=⟨h.1,λi x hi _=>by rw[h.2 i (bu hi)];exact hi⟩
theorem Mv.app(X:DH):Mv S b o H (H++X):=(ci.app H X).mv
theorem Mv.cells{i s:Nat}{c:List D}(k:Mv S b o H H1)(h:H[i]? = some (.cells s c))(hi:i≠o):H1[i]? = some (.cells s c):=k.2 i _ h hi
theorem qV.mv{g sz:Nat}{l:aO}{d:D}(h:qV H g sz l d)(k:Mv S b o H H1)(i:¬ S sz):qV H1 g sz l d:=by
 rcases h with h|⟨x,e,j,hb⟩
 .exact .inl h
 .exact .inr ⟨x,e,j,k.2 x _ hb λq=>i q.1⟩
theorem bw.mv{sz:Nat}{l:aO}{d:D}(h:bw H sz l d)(k:Mv S b o H H1)(g:¬ S sz):bw H1 sz l d:=by
 rcases h with h|h|⟨x,st,cp,e,hb⟩|⟨x,s,e,hb⟩
 .exact .inl h
 .exact .inr (.inl h)
 .exact .inr (.inr (.inl ⟨x,st,cp,e,k.2 x _ hb λq=>g q.1⟩))
 .exact .inr (.inr (.inr ⟨x,s,e,k.2 x _ hb λq=>g q.1⟩))
theorem qf.mv{rf:aO}{fs:List Fm}(h:qf H rf fs)(k:Mv S b o H H1)(g:¬ S 2):qf H1 rf fs:=⟨h.1,λi f hi=>by obtain⟨dd,e,r⟩:=h.2 i f hi;exact⟨dd,e,r.mv k g⟩⟩
theorem fN.mv{rf:aO}{cs:List Ce}(h:fN H rf cs)(k:Mv S b o H H1)(g:¬ S 2):fN H1 rf cs:=⟨h.1,λi f hi=>by obtain⟨dd,e,r⟩:=h.2 i f hi;exact⟨dd,e,r.mv k g⟩⟩
theorem Mv.low{i:Nat}{x:DB}(k:Mv S b o H H1)(h:H[i]? = some x)(hi:i<b)(ho:b<=o):H1[i]? = some x:=k.2 i x h λq=>by cases x<;>simp only[chg]at q<;>omega
theorem dF.mv{n:Nat}{G:Pg}(h:dF H n G)(k:Mv S b o H H1)(g:n+5<b)(ho:b<=o):dF H1 n G:=by obtain⟨⟨st,h0⟩,i,j,p,⟨q,r⟩,t⟩:=h;exact⟨⟨st,k.low h0 g ho⟩,k.low i (by omega) ho,k.low j (by omega) ho,k.low p (by omega) ho,⟨q,k.low r (by omega) ho⟩,k.low t (by omega) ho⟩
def OX(H:DH)(b:Nat)(l:aO)(d:D):Prop:=(d=.nilrow/\l=[])\/(∃ o,d=.buf 3 o l.length/\b<=o/\H[o]? = some (.buf 3 true false l))\/∃ o s,d=.tb 3 o s l.length/\b<=o/\H[o]? = some (.tbuf 3 s l)
theorem OX.is{l:aO}{d:D}(h:OX H b l d):bw H 3 l d:=by
 rcases h with h|⟨o,e,_,hb⟩|⟨o,s,e,_,hb⟩
 .exact .inr (.inl h)
 .exact .inr (.inr (.inl ⟨o,true,false,e,hb⟩))
 .exact .inr (.inr (.inr ⟨o,s,e,hb⟩))
theorem OX.mv{i:Nat}{l:aO}{d:D}(h:OX H i l d)(k:Mv S b o H H1)(j:¬ S 3):OX H1 i l d:=by
 rcases h with h|⟨x,e,g,hb⟩|⟨x,s,e,g,hb⟩
 .exact .inl h
 .exact .inr (.inl ⟨x,e,g,k.2 x _ hb λq=>j q.1⟩)
 .exact .inr (.inr ⟨x,s,e,g,k.2 x _ hb λq=>j q.1⟩)
def Ec(a5 a7:D):Prop:=∀ x k,a7=.buf 3 x k->(∀ l,a5≠.buf 3 x l)/\∀ z l,a5≠.tb 3 x z l
end
abbrev S5:Nat->Prop:=λz=>z=5
abbrev S3:Nat->Prop:=λz=>3<=z
abbrev ux(n e:Nat):List D:=[.ptr (n+5) 0,.map e]
def eW(m:Mc)(a5 a6 a7 a9:D)(tl:List D):List D:=.i m.mo::.i m.ex::.i m.en::.bool m.vc::.i m.vn::a5::a6::a7::.i m.bo::a9::.i m.st::tl
def aiC(R:aO):Prop:=∀ cs∈R,∀ sz o s k,D.tb sz o s k∉cs
structure Sm(b o:Nat)(tl:List D)(H:DH)(m:Mc)(s:Nat)(a5 a6 a7 a9:D)(R5 R6:aO):Prop where
 c:H[o]? = some (.cells s (eW m a5 a6 a7 a9 tl))
 bo:b<=o
 bh:b<=H.length
 f:OX H b R5 a5
 fr:qf H R5 m.fr
 k:qV H b 5 R6 a6
 ce:fN H R6 m.ce
 t:qV H b 3 (m.to.map il) a7
 u:qV H b 4 (m.ou.map jv) a9
 ap:Ec a5 a7
 nt:aiC R5
def SM(b o:Nat)(tl:List D)(H:DH)(m:Mc):Prop:=∃ s a5 a6 a7 a9 R5 R6,Sm b o tl H m s a5 a6 a7 a9 R5 R6
section
variable{b o n e:Nat}{tl:List D}{H H1:DH}{m:Mc}{s:Nat}{a5 a6 a7 a9:D}{R5 R6:aO}
theorem lc{o:Nat}{y:DB}{s:Nat}{c:List D}{κ:Nat->List D->ai}(h:H[o]? = some y):am (H.set o (.cells s c)) o κ=κ s c:=ac (aT _ h)
theorem Sm.sc(h:Sm b o tl H m s a5 a6 a7 a9 R5 R6)(s':Nat)(g:Mc)(i:g.fr=m.fr)(j:g.ce=m.ce)(p:g.to=m.to)(q:g.ou=m.ou) :
 Sm b o tl (H.set o (.cells s' (eW g a5 a6 a7 a9 tl))) g s' a5 a6 a7 a9 R5 R6/\Mv (λ_=>False) b o H (H.set o (.cells s' (eW g a5 a6 a7 a9 tl))):=by
 have k:Mv (λ_=>False) b o H (H.set o (.cells s' (eW g a5 a6 a7 a9 tl))):=Mv.set _ h.c rfl;exact⟨⟨aT _ h.c,h.bo,by rw[afy];exact h.bh,h.f.mv k id,i▸h.fr.mv k id,h.k.mv k id,j▸h.ce.mv k id,p▸h.t.mv k id,q▸h.u.mv k id,h.ap,h.nt⟩,k⟩
theorem bw.ln{sz:Nat}{l:aO}{d:D}{P:Program}{ty el:TypeId}(h:bw H sz l d)(g:P.underlying ty=some (.slice el)){H':DH}(κ:D->ai):aS P ty d H' κ=κ (.i l.length):=by rcases h with rfl|⟨rfl,rfl⟩|⟨o,st,cp,rfl,_⟩|⟨o,s,rfl,_⟩<;>(rw[aS,g];try rfl)
def bk(r:Re)(m:Mc):Mc:={ m with mo:=2,ex:=0,en:=-1,vc:=r.c,vn:=r.n }
def et(ex en:Int)(m:Mc):Mc:={ m with mo:=1,ex:=ex,en:=en,vc:=false,vn:=0 }
def pt(c:Ce)(m:Mc):Mc:={ m with ce:=m.ce++[c] }
def bd(nm:ak)(r:Re)(en:Int)(m:Mc):Mc:=pt ⟨3,nm,0,[r],en⟩ m
section
variable(x0 x1 x2 x3 x4 x5 x6 x7 x8 x9 xt a b:D)(tl:List D)(κ:List D->ai)
theorem on0:aw (x0::x1::x2::x3::x4::x5::x6::x7::x8::x9::xt::tl) 0 [a] κ=κ (a::x1::x2::x3::x4::x5::x6::x7::x8::x9::xt::tl):=rfl
theorem on1:aw (x0::x1::x2::x3::x4::x5::x6::x7::x8::x9::xt::tl) 1 [a] κ=κ (x0::a::x2::x3::x4::x5::x6::x7::x8::x9::xt::tl):=rfl
theorem WT:aw (x0::x1::x2::x3::x4::x5::x6::x7::x8::x9::xt::tl) 2 [a] κ=κ (x0::x1::a::x3::x4::x5::x6::x7::x8::x9::xt::tl):=rfl
theorem on5:aw (x0::x1::x2::x3::x4::x5::x6::x7::x8::x9::xt::tl) 5 [a] κ=κ (x0::x1::x2::x3::x4::a::x6::x7::x8::x9::xt::tl):=rfl
theorem on6:aw (x0::x1::x2::x3::x4::x5::x6::x7::x8::x9::xt::tl) 6 [a] κ=κ (x0::x1::x2::x3::x4::x5::a::x7::x8::x9::xt::tl):=rfl
theorem on7:aw (x0::x1::x2::x3::x4::x5::x6::x7::x8::x9::xt::tl) 7 [a] κ=κ (x0::x1::x2::x3::x4::x5::x6::a::x8::x9::xt::tl):=rfl
theorem on8:aw (x0::x1::x2::x3::x4::x5::x6::x7::x8::x9::xt::tl) 8 [a] κ=κ (x0::x1::x2::x3::x4::x5::x6::x7::a::x9::xt::tl):=rfl
theorem on9:aw (x0::x1::x2::x3::x4::x5::x6::x7::x8::x9::xt::tl) 9 [a] κ=κ (x0::x1::x2::x3::x4::x5::x6::x7::x8::a::xt::tl):=rfl
theorem agl:aw (x0::x1::x2::x3::x4::x5::x6::x7::x8::x9::xt::tl) 10 [a] κ=κ (x0::x1::x2::x3::x4::x5::x6::x7::x8::x9::a::tl):=by cases tl<;>rfl
theorem on3:aw (x0::x1::x2::x3::x4::x5::x6::x7::x8::x9::xt::tl) 3 [a,b] κ=κ (x0::x1::x2::a::b::x5::x6::x7::x8::x9::xt::tl):=rfl
end
theorem Sm.back(h:Sm b o tl H m s a5 a6 a7 a9 R5 R6)(r:Re):aq 83 [.ptr o 0,.agg [.bool r.c,.i r.n]] H=ret (.tuple []) (H.set o (.cells (s+4) (eW (bk r m) a5 a6 a7 a9 tl))):=by refine ev (f83) ?_;simp only[ac h.c,eW,on0,on1,WT,on3,lc h.c,afu,bk]
theorem Sm.enter(h:Sm b o tl H m s a5 a6 a7 a9 R5 R6)(x y:Int):aq 50 [.ptr o 0,.i x,.i y] H=ret (.tuple []) (H.set o (.cells (s+4) (eW (et x y m) a5 a6 a7 a9 tl))):=by refine ev (f50) ?_;simp only[ac h.c,eW,on0,on1,WT,on3,lc h.c,afu,et]
theorem qI(h:SM b o tl H m)(r:Re){S:Nat->Prop}:∃ H',aq 83 [.ptr o 0,.agg [.bool r.c,.i r.n]] H=ret (.tuple []) H'/\SM b o tl H' (bk r m)/\Mv S b o H H':=by obtain⟨s,a5,a6,a7,a9,R5,R6,h⟩:=h;obtain⟨g,k⟩:=h.sc (s+4) (bk r m) rfl rfl rfl rfl;exact⟨_,h.back r,⟨_,_,_,_,_,_,_,g⟩,k.up λ_ q=>q.elim⟩
theorem nV(h:SM b o tl H m)(x y:Int){S:Nat->Prop}:∃ H',aq 50 [.ptr o 0,.i x,.i y] H=ret (.tuple []) H'/\SM b o tl H' (et x y m)/\Mv S b o H H':=by obtain⟨s,a5,a6,a7,a9,R5,R6,h⟩:=h;obtain⟨g,k⟩:=h.sc (s+4) (et x y m) rfl rfl rfl rfl;exact⟨_,h.enter x y,⟨_,_,_,_,_,_,_,g⟩,k.up λ_ q=>q.elim⟩
theorem PW{R:aO}{l:List Ce}(h:fN H R l){c:Ce}{x:D}(j:bw H 2 (c.refs.map im) x):fN H (R++[[.i c.k,.str c.con,.i c.n,x,.i c.nx]]) (l++[c]):=by
 refine⟨by simp[h.1],λi y hy=>?_⟩;rcases xI hy with q|⟨q,rfl⟩
 .obtain⟨dd,g,r⟩:=h.2 i y q;exact⟨dd,by rw[abo (abj.1 g).1];exact g,r⟩
 .exact⟨x,by rw[q,<- h.1];simp,j⟩
theorem Jg{k:Nat}(h:k<2^62):di (((k+1:Nat):Int) - 1)=(k:Int):=by rw[mM]<;>omega
theorem qV.put'{b sz:Nat}{l:aO}{d:D}{ok:Nat->Bool}(h:qV H b sz l d)(t:b<=H.length)(i:ok 1=true)(p:ok (l.length+1)=true)(x:List D){S:Nat->Prop}(u:S sz):∃ g H',(∀ κ:D->DH->ai,bX ok sz d [x] H κ=κ g H')/\qV H' b sz (l++[x]) g/\(∀ o,Mv S b o H H')/\(∀ κ:List D->ai,ah 1 g κ=κ [g])/\ci b H H':=by
 obtain⟨g,H',j,q,v⟩:=h.put (ok:=ok) t i p x;refine⟨g,H',j,q,λo=>?_,q.c1,v⟩;rcases h with⟨rfl,rfl⟩|⟨y,rfl,ho,hb⟩
 .have e:=(j ret).symm.trans (lL (r:=[]) i);cases e;exact Mv.app _
 .have e:=(j ret).symm.trans (kE hb i p);cases e;exact Mv.set _ hb ⟨u,ho⟩
theorem Sm.putc(h:Sm b o tl H m s a5 a6 a7 a9 R5 R6)(c:Ce){x:D}(y:bw H 2 (c.refs.map im) x)(hl:m.ce.length<4194304):∃ g H1 R',(∀ κ:D->DH->ai,bX (aF ab 112) 5 a6 [[.i c.k,.str c.con,.i c.n,x,.i c.nx]] H κ=κ g H1)/\(∀ κ:List D->ai,ah 1 g κ=κ [g])/\H1[o]? = some (.cells s (eW m a5 a6 a7 a9 tl)) /\
 (∀(H':DH) (κ:D->ai),aS ab 28 g H' κ=κ (.i ((m.ce.length+1:Nat):Int)))/\Sm b o tl (H1.set o (.cells (s+1) (eW (pt c m) a5 g a7 a9 tl))) (pt c m) (s+1) a5 g a7 a9 R5 R'/\Mv S5 b o H (H1.set o (.cells (s+1) (eW (pt c m) a5 g a7 a9 tl))):=by
 have v:=h.ce.1;obtain⟨g,H1,hp,w,k,hc,_⟩:=h.k.put' (ok:=aF ab 112) (S:=S5) h.bh (LG (by omega)) (LG (by omega)) [.i c.k,.str c.con,.i c.n,x,.i c.nx] rfl;have j:=k o;have p:H1[o]? = some (.cells s (eW m a5 a6 a7 a9 tl)):=(k (o+1)).cells h.c (by omega);have r:Mv (λ_=>False) b o H1 (H1.set o (.cells (s+1) (eW (pt c m) a5 g a7 a9 tl))):=Mv.set _ p rfl;refine⟨g,H1,_,hp,hc,p,λH' κ=>?_,⟨aT _ p,h.bo,?_,(h.f.mv j (by decide)).mv r id,(h.fr.mv j (by decide)).mv r id,w.mv r id,(PW (h.ce.mv j (by decide)) (y.mv j (by decide))).mv r id,(h.t.mv j (by decide)).mv r id,(h.u.mv j (by decide)).mv r id,h.ap,h.nt⟩,j.trans (r.up λ_ q=>q.elim)⟩
 .rw[w.is.ln Lj,aaY,abc,v]
 .have:=j.1;have:=h.bh;rw[afy];omega
theorem yZ(h:SM b o tl H m)(c:Ce){x:D}(j:bw H 2 (c.refs.map im) x)(hl:m.ce.length<4194304):∃ H',aq 85 [.ptr o 0,.agg [.i c.k,.str c.con,.i c.n,x,.i c.nx]] H=ret (.agg [.bool true,.i m.ce.length]) H'/\SM b o tl H' (pt c m)/\Mv S5 b o H H':=by obtain⟨s,a5,a6,a7,a9,R5,R6,h⟩:=h;obtain⟨d',H1,R',hp,hc,g,p,q,r⟩:=h.putc c j hl;refine⟨_,ev (f85) ?_,⟨_,_,_,_,_,_,_,q⟩,r⟩;simp only[ac h.c,eW,au,aj,hp,hc,ac g,on6,lc g];rw[p,qH,Jg (by omega)];rfl
end
end
section
def Ex.k:Ex->Int|.mk k _ _ _ _ _=>k
def Ex.m:Ex->Int|.mk _ m _ _ _ _=>m
def Ex.n:Ex->ak|.mk _ _ n _ _ _=>n
def Ex.a:Ex->ak|.mk _ _ _ a _ _=>a
def Ex.xs:Ex->List Ex|.mk _ _ _ _ x _=>x
def Ex.ps:Ex->List Pa|.mk _ _ _ _ _ p=>p
abbrev mI(x:Nd):ak:=x.ar.getD []
def La(Q:Ex->Prop)(n:Nat)(l:List Nd):Prop:=∀(i:Nat) (y:Nd),l[i]? = some y->y.ar=some (xh (n+i+1) y.e.xs)/\Q y.e
theorem La.app{Q:Ex->Prop}{n:Nat}{a b:List Nd}(h:La Q n a)(k:La Q (n+a.length) b):La Q n (a++b):=λi y hy=>by
 by_cases hi:i<a.length
 .rw[abo hi]at hy;exact h i y hy
 .rw[aiN (by omega)]at hy;have:=k _ y hy
  rwa [show n+a.length+(i - a.length)+1=n+i+1 by omega]at this
section
variable{Q:Ex->Prop}(hq:∀ k m nm a xs ps,Q (.mk k m nm a xs ps)->∀ x∈xs,Q x)(d f b:Int)
include hq
mutual
theorem WX:∀(e:Ex) (n:Nat) (p:ak),Q e->La Q n (kL d f b n p e)
 |.mk k m nm a xs ps,n,p,h,i,y,hy=>by
  rw[kL]at hy;cases i with
  |zero=>rw[ajh]at hy;cases hy;exact⟨rfl,h⟩
  |succ i =>
   rw[aiP]at hy;have:=QN xs (n+1) p 0 (hq _ _ _ _ _ _ h) i y hy
   rwa [show n+1+i+1=n+(i+1)+1 by omega]at this
theorem QN:∀(l:List Ex) (n:Nat) (p:ak) (j:Nat),(∀ x∈l,Q x)->La Q n (fE d f b n p j l)
 |[],_,_,_,_,i,y,hy=>by simp[fE]at hy
 |x::r,n,p,j,h,i,y,hy=>by rw[fE]at hy;refine La.app (WX x n (p++[j]) (h x (by simp))) ?_ i y hy;rw[jW];exact QN r (n+oK x) p (j+1) λx g=>h x (abi _ g)
end
theorem WY{G:Pg}(h:La Q 0 G.ns)(g:Bo)(e:Ex)(i:Q e):La Q 0 (G.addB g f e).ns :=
 La.app h (by rw[adO];exact WX hq _ _ _ e _ _ i)
theorem QO(i:Nat):∀(l:List Fu) (k:Nat) (G:Pg),(∀ u∈l,Q u.b)->La Q 0 G.ns->La Q 0 (G.addFs i 3 k l).ns
 |[],_,_,_,h=>h
 |u::r,k,G,hl,h=>QO i r (k+1) _ (λx g=>hl x (abi _ g)) (WY hq _ (G:={ G with cs:=G.cs++[G.bs.length] }) h _ _ (hl u (by simp)))
theorem QP:∀(l:List De) (i:Nat) (G:Pg),(∀ d∈l,∀ e∈eF d,Q e)->La Q 0 G.ns->La Q 0 (G.addDs i l).ns
 |[],_,_,_,h=>h
 |d::r,i,G,hl,h=>by
  rw[Pg.addDs];refine QP r (i+1) _ (λx q=>hl x (abi _ q)) ?_;have j:=hl d (by simp);unfold Pg.addD;split
  .rename_i p;refine QO hq i d.fs 0 G (λu t=>j _ ?_) h;simp only[eF,p];exact aiH.2 ⟨u,t,rfl⟩
  .split
   .rename_i p g;refine WY hq 0 (G:={ G with rs:=G.rs++[G.bs.length] }) h _ _ (j _ ?_);rcases g with g|g<;>simp[eF,g]
   .exact h
end
mutual
def nP:Pa->Nat
 |.mk _ _ xs=>1+zD xs
def zD:List Pa->Nat
 |[]=>0
 |t::r=>nP t+zD r
end
mutual
theorem acI:∀(t:Pa) (q:Nat),Jb t q<=100->nP t<=Ja t q
 |.mk k n xs,q,h=>by
  rw[Jb]at h;rw[Ja,nP];cases hq:decide (q>100)with
  |true=>rw[hq]at h;have:=agj hq;simp only[ge]at h;omega
  |false =>rw[hq]at h;simp only[SE]at h ⊢;have:=EQ xs (q+1) (by omega);omega
theorem EQ:∀(l:List Pa) (q:Nat),pU l q<=100->zD l<=kN l q
 |[],_,_=>by simp[zD]
 |x::r,q,h=>by rw[pU]at h;have h1:=acI x q (by omega);have h2:=EQ r q (by omega);rw[zD,kN];omega
end
def QE(e:Ex):Prop:=fw bY e=true/\∃ p,Il e p<=100/\Fc e p<=2000
theorem ue{x:Ex}{q:Nat}:∀ {l:List Ex},x∈l->Il x q<=lT l q/\Fc x q<=jl l q
 |y::r,h=>by
  rw[lT,jl];rcases abn.1 h with rfl|h
  .exact⟨by omega,by omega⟩
  .have:=ue (q:=q) h;exact⟨by omega,by omega⟩
theorem yX(k m:Int)(nm a:ak)(xs:List Ex)(ps:List Pa)(h:QE (.mk k m nm a xs ps)):pU ps ((h.2.choose)+1)<=100/\kN ps ((h.2.choose)+1)<=2000/\∀ x∈xs,QE x:=by
 obtain⟨g,i⟩:=h.2.choose_spec;generalize h.2.choose=p at g i ⊢;rw[Il]at g;rw[Fc]at i;cases hq:decide (p>100)with
 |true=>rw[hq]at g;have:=agj hq;simp only[ge]at g;omega
 |false =>
  rw[hq]at g i;simp only[SE]at g i;refine⟨by omega,by omega,λx j=>⟨?_,p+1,?_⟩⟩
  .have:=h.1;simp only[fw,aaV,pK,afx]at this;exact this.1 x j
  .have:=ue (q:=p+1) j;exact⟨by omega,by omega⟩
theorem Kz{d:De}:∀ {l:List De},d∈l->KJ d<=ss l/\Hs d<=nJ l
 |y::r,h=>by
  rw[ss,nJ];rcases abn.1 h with rfl|h
  .exact⟨by omega,by omega⟩
  .have:=Kz h;exact⟨by omega,by omega⟩
theorem XB{d:De}(h:hJ bY d=true):∀ e∈eF d,fw bY e=true:=by
 intro e g;unfold hJ at h;by_cases i:d.k=3
 .simp[i]at h;simp only[eF,i]at g;obtain⟨f,q,rfl⟩:=aiH.1 g;have:=h.2.2.2.2.2.2 f q;simp only[vj,aaV]at this;exact this.2.2
 by_cases j:d.k=4
 .simp[j]at h;simp[eF,j]at g;rw[g];exact h.2.2.2.1
 by_cases p:d.k=5
 .simp[p]at h;simp[eF,p]at g;rw[g];exact h.2.2.2.1
 have r:(d.k==3)=false:=by simpa using i
 have t:(d.k==4)=false:=by simpa using j
 have u:(d.k==5)=false:=by simpa using p
 rw[eF,r,t,u]at g;cases g
theorem acE{l:List De}(h:cL bY l=0):La QE 0 (bF l).ns:=by obtain⟨h1,h2,h3,p⟩:=kD h;refine QP (Q:=QE) (λk m nm a xs ps q=>(yX k m nm a xs ps q).2.2) l 0 (⟨l,[],[],[],[],[]⟩:Pg) (λd g e j=>?_) (λi y hy=>by simp at hy);obtain⟨r,t⟩:=Kz g;obtain⟨g3,g4⟩:=ue (q:=1) j;rw[KJ]at r;rw[Hs]at t;exact⟨XB (afx.1 p d g) e j,1,by omega,by omega⟩
theorem Mi{l:List De}(h:cL bY l=0){i:Nat}{y:Nd}(hy:(bF l).ns[i]? = some y):mI y=xh (i+1) y.e.xs/\zD y.e.ps<=2000/\fw bY y.e=true:=by obtain⟨j,g⟩:=acE h i y hy;refine⟨by rw[mI,j,adO];rfl,?_,g.1⟩;obtain⟨⟨k,m,nm,a,xs,ps⟩,_⟩:=y;obtain⟨p,q,_⟩:=yX k m nm a xs ps g;have:=EQ ps _ p;exact acd this q
end
section
variable{b o n e:Nat}{tl:List D}{H H1:DH}{m:Mc}{s:Nat}{a5 a6 a7 a9:D}{R5 R6:aO}
theorem adP(a c:D)(κ:D->ai):sh ab 26 (.agg [a,c]) 1 κ=κ c:=by kernel_rfl
theorem FY(h:SM b o tl H m)(nm:ak)(r:Re)(en:Int)(hl:m.ce.length<4194304):∃ H',aq 51 [.ptr o 0,.str nm,.agg [.bool r.c,.i r.n],.i en] H=ret (.i m.ce.length) H'/\SM b o tl H' (bd nm r en m)/\Mv S5 b o H H':=by obtain⟨H',g,j,k⟩:=yZ h ⟨3,nm,0,[r],en⟩ (x:=.row 2 [[.bool r.c,.i r.n]]) (.inl rfl) hl;exact⟨H',ev (f51) ((av g).trans (adP _ _ _)),j,k⟩
theorem Yd:ab.underlying 40=some (.slice 3):=by kernel_rfl
theorem s3:size ab 3=some 1:=by kernel_rfl
theorem SN(H:DH)(x:Option ak):bw H 1 (nC (x.getD [])) (XQ x):=by
 cases x with
 |none=>exact .inr (.inl ⟨rfl,rfl⟩)
 |some l=>exact .inl rfl
theorem vK{x:Nd}{i v:Nat}(h:(mI x)[i]? = some v)(κ:D->ai):(ay ab 40 (XQ x.ar) (.i i) λa=>bW ab 3 a H κ)=κ (.i v):=by rw[dO (SN H x.ar) Yd s3 (cs:=[.i v]) (by rw[nC,afd,h];rfl),Tr,aj]
theorem Ga(x:Nd)(κ:D->ai):aS ab 40 (XQ x.ar) H κ=κ (.i (mI x).length):=by rw[(SN H x.ar).len Yd,nC,abe]
theorem dP(x:Nd):jw x=[.i x.e.k,.i x.e.m,.str x.e.n,.str x.e.a,.row 6 (cw x.e.xs),.row 3 (bQ x.e.ps),.i x.d,.i x.f,.row 1 (nC x.p),.i x.b,XQ x.ar]:=by obtain⟨⟨k,m,nn,ag,xs,ps⟩,d,f,p,bb,ar⟩:=x;rfl
theorem aij(h:SM b o tl H m)(x:Nd):∃ H',aq 37 [.ptr o 0,.agg (jw x)] H=ret (.tuple []) H'/\SM b o tl H' (bk ⟨false,x.e.m⟩ m)/\Mv S3 b o H H':=by obtain⟨H',g,i,k⟩:=qI h ⟨false,x.e.m⟩ (S:=S3);rw[dP];exact⟨H',ev (f37) (av g),i,k⟩
theorem Yy:∀ z,S5 z->S3 z:=λz h=>by simp only[S5,S3]at *;omega
theorem SM.obj(h:SM b o tl H m):∃ s a5 a6 a7 a9,H[o]? = some (.cells s (eW m a5 a6 a7 a9 tl))/\bw H 5 (m.ce.map gE) (.row 5 (m.ce.map gE))/\∃ R6,bw H 5 R6 a6/\fN H R6 m.ce:=by obtain⟨s,a5,a6,a7,a9,R5,R6,h⟩:=h;exact⟨s,a5,a6,a7,a9,h.c,.inl rfl,R6,h.k.is,h.ce⟩
theorem aih(h:SM b o tl H m)(x:Nd){a:Nat}(g:(mI x)[0]? = some a)(hl:m.ce.length<4194304):∃ H',aq 39 [.ptr o 0,.agg (jw x)] H=ret (.tuple []) H'/\SM b o tl H' (bk ⟨true,m.ce.length⟩ (pt ⟨2,x.e.a,a,[],m.en⟩ m))/\Mv S3 b o H H':=by obtain⟨H1,j,p,k⟩:=yZ h ⟨2,x.e.a,a,[],m.en⟩ (x:=.nilrow) (.inr (.inl ⟨rfl,rfl⟩)) hl;obtain⟨H2,q,r,t⟩:=qI p ⟨true,m.ce.length⟩ (S:=S3);obtain⟨s,a5,a6,a7,a9,hc,_⟩:=h.obj;rw[dP];refine⟨H2,ev (f39) ?_,r,(k.up Yy).trans t⟩;refine(vK (i:=0) g _).trans ?_;simp only[ac hc,eW,au,aj,mD,ace,YP];refine(aG j).trans ?_;exact aG q
theorem Iy(t:TypeId)(c:Bool){k:Nat}(h:k<2^62)(κ:D->ai):aC ab .add t c (.i k) (.i 1) κ=κ (.i ((k+1:Nat):Int)):=by rw[bJ,IV k h]
theorem aig(h:SM b o tl H m)(x:Nd){a g:Nat}(q:(mI x)[0]? = some a)(j:(mI x)[1]? = some g)(hl:m.ce.length<4194303):∃ H',aq 40 [.ptr o 0,.agg (jw x)] H=ret (.tuple []) H'/\SM b o tl H' (et g m.ce.length (pt ⟨2,x.e.a,a,[],m.ce.length⟩ (bd x.e.n ⟨true,(m.ce.length+1:Nat)⟩ m.en m)))/\Mv S3 b o H H':=by obtain⟨H1,r,t,k⟩:=FY h x.e.n ⟨true,(m.ce.length+1:Nat)⟩ m.en (by omega);obtain⟨H2,u,v,w⟩:=yZ t ⟨2,x.e.a,a,[],m.ce.length⟩ (x:=.nilrow) (.inr (.inl ⟨rfl,rfl⟩)) (by simp only[bd,pt,aaY,abc];omega);obtain⟨y,z,A,B⟩:=nV v g m.ce.length (S:=S3);obtain⟨s,a5,a6,a7,a9,hc,_,R6,hr,p⟩:=h.obj;rw[dP];refine⟨y,ev (f40) ?_,A,((k.trans w).up Yy).trans B⟩;simp only[ac hc,eW,au,aj,hr.len Lj,p.1];rw[Iy _ _ (by omega)];simp only[mD,WR];refine(aG r).trans ?_;refine(vK (i:=0) q _).trans ?_;simp only[mD,ace,YP];refine(aG u).trans ?_;refine(vK (i:=1) j _).trans ?_;exact av z
abbrev S33:Nat->Prop:=λz=>z=3
theorem s33:∀ z,S33 z->S3 z:=λz h=>by simp only[S33,S3]at *;omega
theorem OX.put{R:aO}{d:D}(h:OX H b R d)(v:b<=H.length){ok:Nat->Bool}(p:ok 1=true)(u:ok (R.length+1)=true)(x:List D):∃ i H',(∀ κ:D->DH->ai,bX ok 3 d [x] H κ=κ i H')/\OX H' b (R++[x]) i/\(∀ o,Mv S33 b o H H')/\(∀ κ:List D->ai,ah 1 i κ=κ [i])/\∀ a7 l,Ec d a7->qV H b 3 l a7->Ec i a7/\qV H' b 3 l a7:=by
 rcases h with⟨rfl,rfl⟩|⟨y,rfl,ho,hb⟩|⟨y,s,rfl,ho,hb⟩
 .refine⟨.buf 3 H.length 1,H++[.buf 3 true false [x]],λκ=>lL (r:=[]) p,.inr (.inl ⟨H.length,rfl,v,aZ H _⟩),λo=>Mv.app _,λκ=>rfl,λa7 l _ g=>⟨λz k q=>⟨λl h=>?_,λz l h=>(by cases h)⟩,g.mv (S:=λ_=>False) (Mv.app (b:=b) (o:=0) _) id⟩⟩;subst q;cases h;rcases g with⟨g,_⟩|⟨w,g,_,j⟩
  .cases g
  .cases g;have:=bu j;omega
 .refine⟨.buf 3 y (R.length+1),H.set y (.buf 3 true false (R++[x])),λκ=>kE hb p u,.inr (.inl ⟨y,by simp,ho,aT _ hb⟩),λo=>Mv.set _ hb ⟨rfl,ho⟩,λκ=>rfl,λa7 l ap g=>⟨λz k q=>⟨λl h=>?_,λz l h=>(by cases h)⟩,?_⟩⟩
  .cases h;exact(ap _ _ q).1 _ rfl
  .rcases g with g|⟨w,g,j,t⟩
   .exact .inl g
   .refine .inr ⟨w,g,j,ao _ (λq=>?_) t⟩;subst q;exact(ap y _ g).1 _ rfl
 .have e:∀ κ:D->DH->ai,bX ok 3 (.tb 3 y s R.length) [x] H κ=κ (.tb 3 y (s+1) (R.length+1)) (H.set y (.tbuf 3 (s+1) (R++[x]))):=λκ=>by simp only[bX,abc,p,boK,ge,acD,IX,hb,u,List.isEmpty_cons,aeH,aiJ]
  refine⟨_,_,e,.inr (.inr ⟨y,s+1,by simp,ho,aT _ hb⟩),λo=>Mv.set _ hb ⟨rfl,ho⟩,λκ=>rfl,λa7 l ap g=>⟨λz k q=>⟨λl h=>(by cases h),λw l h=>?_⟩,?_⟩⟩
  .cases h;exact(ap _ _ q).2 _ _ rfl
  .rcases g with g|⟨w,g,j,t⟩
   .exact .inl g
   .refine .inr ⟨w,g,j,ao _ (λq=>?_) t⟩;subst q;exact(ap y _ g).2 _ _ rfl
theorem Vn{R:aO}{l:List Fm}(h:qf H R l){f:Fm}{x:D}(j:bw H 2 (f.dn.map im) x):qf H (R++[[.i f.ex,.i f.en,x]]) (l++[f]):=by
 refine⟨by simp[h.1],λi y hy=>?_⟩;rcases xI hy with q|⟨q,rfl⟩
 .obtain⟨dd,g,r⟩:=h.2 i y q;exact⟨dd,by rw[abo (abj.1 g).1];exact g,r⟩
 .exact⟨x,by rw[q,<- h.1];simp,j⟩
def pf(f:Fm)(m:Mc):Mc:={ m with fr:=m.fr++[f] }
theorem Sm.push(h:Sm b o tl H m s a5 a6 a7 a9 R5 R6)(f:Fm){x:D}(A:bw H 2 (f.dn.map im) x)(w:∀ sz o s k,x≠.tb sz o s k)(hl:m.fr.length<4194304) :
 ∃ j H',(∀ κ:D->DH->ai,bX (aF ab 39) 3 a5 [[.i f.ex,.i f.en,x]] H κ=κ j H')/\(∀ κ:List D->ai,ah 1 j κ=κ [j])/\H'[o]? = some (.cells s (eW m a5 a6 a7 a9 tl)) /\
  Sm b o tl (H'.set o (.cells (s+1) (eW (pf f m) j a6 a7 a9 tl))) (pf f m) (s+1) j a6 a7 a9 (R5++[[.i f.ex,.i f.en,x]]) R6/\Mv S3 b o H (H'.set o (.cells (s+1) (eW (pf f m) j a6 a7 a9 tl))):=by
 have hlen:=h.fr.1;obtain⟨j,H1,hp,B,k,hc,y⟩:=h.f.put h.bh (ok:=aF ab 39) (LH (by omega)) (LH (by omega)) [.i f.ex,.i f.en,x];obtain⟨E,F⟩:=y _ _ h.ap h.t;have z:=k o;have v:=z.up s33;have p:H1[o]? = some (.cells s (eW m a5 a6 a7 a9 tl)):=(k (o+1)).cells h.c (by omega);have r:Mv (λ_=>False) b o H1 (H1.set o (.cells (s+1) (eW (pf f m) j a6 a7 a9 tl))):=Mv.set _ p rfl;refine⟨j,H1,hp,hc,p,⟨aT _ p,h.bo,?_,B.mv r id,(Vn (h.fr.mv v (by decide)) (A.mv v (by decide))).mv r id,(h.k.mv z (by decide)).mv r id,(h.ce.mv v (by decide)).mv r id,F.mv r id,(h.u.mv z (by decide)).mv r id,E,λcs g=>?_⟩,v.trans (r.up λ_ q=>q.elim)⟩
 .have:=v.1;have:=h.bh;rw[afy];omega
 .rcases aeS.1 g with g|g
  .exact h.nt cs g
  .rw[ajB.1 g];intro sz o s k hm;simp only[abn,List.not_mem_nil,or_false]at hm;rcases hm with hm|hm|hm
   .cases hm
   .cases hm
   .exact w _ _ _ _ hm.symm
theorem aif(h:SM b o tl H m)(x:Nd)(hl:m.ce.length<4194304)(w:m.fr.length<4194304) :
 (mI x=[]->∃ H',aq 41 [.ptr o 0,.agg (jw x)] H=ret (.tuple []) H'/\SM b o tl H' (bk ⟨true,m.ce.length⟩ (pt ⟨1,x.e.n,0,[],-1⟩ m))/\Mv S3 b o H H') /\
 (∀ a:Nat,(mI x)[0]? = some a->∃ H',aq 41 [.ptr o 0,.agg (jw x)] H=ret (.tuple []) H'/\SM b o tl H' (et a m.en (pf ⟨m.ex,m.en,[]⟩ m))/\Mv S3 b o H H'):=by
 rw[dP];constructor
 .intro y;obtain⟨H1,j,z,k⟩:=yZ h ⟨1,x.e.n,0,[],-1⟩ (x:=.nilrow) (.inr (.inl ⟨rfl,rfl⟩)) hl;obtain⟨H2,p,r,t⟩:=qI z ⟨true,m.ce.length⟩ (S:=S3);refine⟨H2,ev (f41) ?_,r,(k.up Yy).trans t⟩;rw[Ga,y,ba,ax,show((([]:ak).length:Int)==0)=true from rfl,ge];exact(av j).trans (av p)
 .intro a v;obtain⟨s,a5,a6,a7,a9,R5,R6,h⟩:=h;obtain⟨d',H1,hp,hc,g,j,k⟩:=h.push ⟨m.ex,m.en,[]⟩ (x:=.nilrow) (.inr (.inl ⟨rfl,rfl⟩)) (λ_ _ _ _ q=>by cases q) w;obtain⟨H2,p,r,t⟩:=nV (S:=S3) ⟨_,_,_,_,_,_,_,j⟩ a m.en;refine⟨H2,ev (f41) ?_,r,k.trans t⟩;have u:(((mI x).length:Int)==0)=false:=by have:=(abj.1 v).1;rw[aiS];omega
  rw[Ga,ba,ax,u,SE];simp only[ac h.c,eW,au,aj,mD,Qx,YR,qP,hp,hc,ac g,on5];refine(vK (i:=0) v _).trans ?_;simp only[lc g,au,aj];exact aG p
