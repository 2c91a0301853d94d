/- Lemmas. No conditions. -/
import Derived.Test.YtpghiabjaglpgaaGreatDoorP4
set_option linter.all false
noncomputable section
namespace Go.Proofs.YtpghiabjaglpgaaGreatDoor
open Go.AI
def bW:List Co->List Ty
 |[]=>[]
 |c::r=>c.xs++bW r
def dB(d:De):List Ty:=cond (d.k==1) (bW d.d.cs) (cond (d.k==2) [d.t] [])
def cV(d:De):List Ex:=cond (d.k==3) (d.fs.map (·.b)) (cond (d.k==4) [d.b] (cond (d.k==5) [d.b] []))
def IR:∀(a b:List Ty) (q:Nat),eZ (a++b) q=max (eZ a q) (eZ b q)
 |[],b,q=>by simp[eZ]
 |t::a,b,q=>by rw[aiL,eZ,eZ,IR a b q,ajk]
def HX:∀(a b:List Ty) (q:Nat),cW (a++b) q=cW a q+cW b q
 |[],b,q=>by simp[cW]
 |t::a,b,q=>by rw[aiL,cW,cW,HX a b q,ajE]
def NF(cs:List Co)(ic:Nat)(xs:List Ty)(o:Nat)(hl:xs.length<2^62):∀(pre suf:List Ty) (st d:Nat) (H:DH),H[o]? = some (.cells st [.i d])->xs=pre++suf->Ty.oks suf ->
 ∃ st',ac av 179 200007 [.g (.ptr o 0),.g (.row 2 (cs.map km)),.n cs.length,.n ic,.g (.row 2 (cp xs)),.n xs.length,.n pre.length] [] H
  = ac av 179 200004 [.g (.ptr o 0),.g (.row 2 (cs.map km)),.n cs.length,.n (bD ((ic:Int)+1))] [] (H.set o (.cells st' [.i (max d (eZ suf 1):Nat)]))
 |pre,[],st,d,H,ho,e,_=>by
  have c:xs.length=pre.length:=by rw[e];simp
  refine⟨st,aZ (wm _ _ _ _ _ _ _ _ _) ?_⟩;simp only[c,aio,aip,TD,eZ,ajy,qa ho]
 |pre,t::suf,st,d,H,ho,e,h=>by
  simp only[Ty.oks]at h;have hi:pre.length<xs.length:=by rw[e];simp
  have f:decide ((pre.length:Int)<(xs.length:Int))=true:=by simp;exact hi
  have b:(cp xs)[pre.length]? = some (dJ t):=by rw[e];exact gG _ _ _
  obtain⟨ib,hc⟩:=Gj t 1 d st o H ho h.1 (by omega);obtain⟨st',ih⟩:=NF cs ic xs o hl (pre++[t]) suf ib (max d (CH t 1)) (H.set o (.cells ib [.i (max d (CH t 1):Nat)])) (bJ _ ho) (by rw[e];simp) h.2;refine⟨st',aZ (wm _ _ _ _ _ _ _ _ _) ?_⟩;have a:eZ (t::suf) 1=max (CH t 1) (eZ suf 1):=by rw[eZ]
  rw[a,<- ajk];generalize CH t 1=q at hc ih ⊢;obtain⟨tn,tas⟩:=t;simp only[dJ]at b hc;simp only[aae,aaQ,aiQ]at ih;have hc:am 243 [.ptr o 0,.agg [.str tn,.row 2 (cp tas)],.i 1] H=_:=hc;simp only[f,ge,jw ll Hm b,vA,iz,Vf,ao,ax,ai hc,aA (show pre.length<2^62 by omega)];exact ih
def IP(cs:List Co)(o:Nat)(hl:cs.length<2^62):∀(pre suf:List Co) (st d:Nat) (H:DH),H[o]? = some (.cells st [.i d])->cs=pre++suf->(∀ c∈suf,c.ok) ->
 ∃ st',ac av 179 200004 [.g (.ptr o 0),.g (.row 2 (cs.map km)),.n cs.length,.n pre.length] [] H=ret (.tuple []) (H.set o (.cells st' [.i (max d (eZ (bW suf) 1):Nat)]))
 |pre,[],st,d,H,ho,e,_=>by
  have b:cs.length=pre.length:=by rw[e];simp
  refine⟨st,aZ (wn _ _ _ _ _ _) ?_⟩;simp only[b,aio,aip,TD,bW,eZ,ajy,qa ho]
 |pre,c::suf,st,d,H,ho,e,h=>by
  have hi:pre.length<cs.length:=by rw[e];simp
  have f:decide ((pre.length:Int)<(cs.length:Int))=true:=by simp;exact hi
  have j:(cs.map km)[pre.length]? = some (km c):=by rw[e];exact bZ _ _ _ _
  have hc:=h c (aeK ..);obtain⟨ib,a⟩:=NF cs pre.length c.xs o hc.1 [] c.xs st d H ho rfl hc.2;obtain⟨st',ih⟩:=IP cs o hl (pre++[c]) suf ib (max d (eZ c.xs 1)) (H.set o (.cells ib [.i (max d (eZ c.xs 1):Nat)])) (bJ _ ho) (by rw[e];simp) (fun x k=>h x (abE _ k));refine⟨st',aZ (wn _ _ _ _ _ _) ?_⟩;obtain⟨cn,xs⟩:=c;simp only[aae,aaQ,aiQ]at ih;simp only[aA (show pre.length<2^62 by omega)]at a;have a:ac av 179 200007 [.g (.ptr o 0),.g (.row 2 (cs.map km)),.n cs.length,.n pre.length,.g (.row 2 (cp xs)),.n xs.length,.n 0] [] H=_:=a;rw[bW,IR,<- ajk];simp only[f,ge,aO,aB j,km,ao,ax,dR ll,bP,a];exact ih
def IM(fs:List Fu)(o:Nat)(hl:fs.length<2^62):∀(pre suf:List Fu) (st d:Nat) (H:DH),H[o]? = some (.cells st [.i d])->fs=pre++suf->(∀ f∈suf,f.b.ok) ->
 ∃ st',ac av 179 200016 [.g (.ptr o 0),.g (.row 8 (fs.map jQ)),.n fs.length,.n pre.length] [] H=ret (.tuple []) (H.set o (.cells st' [.i (max d (hC (suf.map (·.b)) 1):Nat)]))
 |pre,[],st,d,H,ho,e,_=>by
  have c:fs.length=pre.length:=by rw[e];simp
  refine⟨st,aZ (wl _ _ _ _ _ _) ?_⟩;simp only[c,aio,aip,TD,ajX,hC,ajy,qa ho]
 |pre,f::suf,st,d,H,ho,e,h=>by
  have hi:pre.length<fs.length:=by rw[e];simp
  have j:decide ((pre.length:Int)<(fs.length:Int))=true:=by simp;exact hi
  have k:(fs.map jQ)[pre.length]? = some (jQ f):=by rw[e];exact bZ _ _ _ _
  obtain⟨ib,a⟩:=Gk f.b 1 d st o H ho (h f (aeK ..)) (by omega);obtain⟨st',ih⟩:=IM fs o hl (pre++[f]) suf ib (max d (CI f.b 1)) (H.set o (.cells ib [.i (max d (CI f.b 1):Nat)])) (bJ _ ho) (by rw[e];simp) (fun x l=>h x (abE _ l));refine⟨st',aZ (wl _ _ _ _ _ _) ?_⟩;rw[aeL,hC,<- ajk];obtain⟨fn,fa,⟨m,p,en',ea',xs',ps'⟩⟩:=f;simp only[aae,aaQ,aiQ]at ih;simp only[cP]at a;have a:am 244 [.ptr o 0,.agg [.i m,.i p,.str en',.str ea',.row 6 (cm xs'),.row 3 (cr ps')],.i 1] H=_:=a;simp only[j,ge,aO,aB k,jQ,ao,ax,ai a,aA (show pre.length<2^62 by omega)];exact ih
def Ph(d:De):Nat:=max (eZ (dB d) 1) (hC (cV d) 1)
def aaU(de':De)(d st o:Nat)(H:DH)(ho:H[o]? = some (.cells st [.i d]))(h:de'.ok) :
 ∃ st',am 179 [.ptr o 0,.agg (bF de')] H=ret (.tuple []) (H.set o (.cells st' [.i (max d (Ph de'):Nat)])):=by
 obtain⟨k,⟨dn,vs,cs⟩,n,⟨tn,ts⟩,fs,⟨ek,em,en,ea,xs,ps⟩⟩:=de';obtain⟨⟨_,c,e⟩,m,p,q,r⟩:=h;obtain⟨s1,f⟩:=IP cs o c [] cs st d H ho rfl e;obtain⟨s2,j⟩:=IM fs o p [] fs st d H ho rfl q;obtain⟨s,b⟩:=Gj (.mk tn ts) 1 d st o H ho m (by omega);obtain⟨l,a⟩:=Gk (.mk ek em en ea xs ps) 1 d st o H ho r (by omega);have f:ac av 179 200004 [.g (.ptr o 0),.g (.row 2 (cs.map km)),.n cs.length,.n 0] [] H=_:=f;have j:ac av 179 200016 [.g (.ptr o 0),.g (.row 8 (fs.map jQ)),.n fs.length,.n 0] [] H=_:=j;simp only[dJ,cP]at b a;have b:am 243 [.ptr o 0,.agg [.str tn,.row 2 (cp ts)],.i 1] H=_:=b;have a:am 244 [.ptr o 0,.agg [.i ek,.i em,.str en,.str ea,.row 6 (cm xs),.row 3 (cr ps)],.i 1] H=_:=a;have hk:k=1\/k=2\/k=3\/k=4\/k=5\/((k==1)=false/\(k==2)=false/\(k==3)=false/\(k==4)=false/\(k==5)=false):=by simp only[aeA];omega
 rcases hk with rfl|rfl|rfl|rfl|rfl|⟨t,u,v,w,x⟩
 ·exact⟨s1,ev (OZ _ _ _ _ _ _ _ _ _ _ _ _ _ _ _ _ _) (by rw[aby];simp[f,Ph,dB,cV,hC])⟩
 ·exact⟨s,ev (OZ _ _ _ _ _ _ _ _ _ _ _ _ _ _ _ _ _) (by simp[ai b,Ph,dB,cV,hC,eZ])⟩
 ·exact⟨s2,ev (OZ _ _ _ _ _ _ _ _ _ _ _ _ _ _ _ _ _) (by rw[aby];simp[j,Ph,dB,cV,eZ])⟩
 ·exact⟨l,ev (OZ _ _ _ _ _ _ _ _ _ _ _ _ _ _ _ _ _) (by simp[ai a,Ph,dB,cV,hC,eZ])⟩
 ·exact⟨l,ev (OZ _ _ _ _ _ _ _ _ _ _ _ _ _ _ _ _ _) (by simp[ai a,Ph,dB,cV,hC,eZ])⟩
 ·exact⟨st,ev (OZ _ _ _ _ _ _ _ _ _ _ _ _ _ _ _ _ _) (by simp only[t,u,v,w,x,TD,Ph,dB,cV,hC,eZ,ajy,qa ho])⟩
def LJ(cs:List Co)(ic:Nat)(xs:List Ty)(o:Nat)(hl:xs.length<2^62):∀(pre suf:List Ty) (st m d:Nat) (H:DH),H[o]? = some (.cells st [.i m,.i d])->xs=pre++suf->Ty.oks suf->m<=2001 ->
 ∃ st' a,ac av 180 200007 [.g (.ptr o 0),.g (.row 2 (cs.map km)),.n cs.length,.n ic,.g (.row 2 (cp xs)),.n xs.length,.n pre.length] [] H
  = ac av 180 200004 [.g (.ptr o 0),.g (.row 2 (cs.map km)),.n cs.length,.n (bD ((ic:Int)+1))] [] (H.set o (.cells st' [.i (min (m+cW suf 1) 2001:Nat),.i (a:Nat)]))
 |pre,[],st,m,d,H,ho,e,_,hm=>by
  have j:xs.length=pre.length:=by rw[e];simp
  refine⟨st,d,aZ (wj _ _ _ _ _ _ _ _ _) ?_⟩;simp only[j,aio,aip,TD,cW,show min (m+0) 2001=m by omega,qa ho]
 |pre,t::suf,st,m,d,H,ho,e,h,hm=>by
  simp only[Ty.oks]at h;have hi:pre.length<xs.length:=by rw[e];simp
  have k:decide ((pre.length:Int)<(xs.length:Int))=true:=by simp;exact hi
  have c:(cp xs)[pre.length]? = some (dJ t):=by rw[e];exact gG _ _ _
  obtain⟨ib,f,hc⟩:=JF t 1 m d st o H ho h.1 (by omega) hm;obtain⟨st',a,ih⟩:=LJ cs ic xs o hl (pre++[t]) suf ib (min (m+Ak t 1) 2001) f (H.set o (.cells ib [.i (min (m+Ak t 1) 2001:Nat),.i f])) (bJ _ ho) (by rw[e];simp) h.2 (by omega);refine⟨st',a,aZ (wj _ _ _ _ _ _ _ _ _) ?_⟩;have b:min (m+cW (t::suf) 1) 2001=min (min (m+Ak t 1) 2001+cW suf 1) 2001:=by rw[cW];omega
  rw[b];generalize Ak t 1=q at hc ih ⊢;obtain⟨tn,tas⟩:=t;simp only[dJ]at c hc;simp only[aae,aaQ,aiQ]at ih;have hc:am 245 [.ptr o 0,.agg [.str tn,.row 2 (cp tas)],.i 1] H=_:=hc;simp only[k,ge,jw ll Hm c,vA,iz,Vf,ao,ax,ai hc,aA (show pre.length<2^62 by omega)];exact ih
def GX(cs:List Co)(o:Nat)(hl:cs.length<2^62):∀(pre suf:List Co) (st m d:Nat) (H:DH),H[o]? = some (.cells st [.i m,.i d])->cs=pre++suf->(∀ c∈suf,c.ok)->m<=2001 ->
 ∃ st' b,ac av 180 200004 [.g (.ptr o 0),.g (.row 2 (cs.map km)),.n cs.length,.n pre.length] [] H=ret (.tuple []) (H.set o (.cells st' [.i (min (m+cW (bW suf) 1) 2001:Nat),.i (b:Nat)]))
 |pre,[],st,m,d,H,ho,e,_,hm=>by
  have j:cs.length=pre.length:=by rw[e];simp
  refine⟨st,d,aZ (wk _ _ _ _ _ _) ?_⟩;simp only[j,aio,aip,TD,bW,cW,show min (m+0) 2001=m by omega,qa ho]
 |pre,c::suf,st,m,d,H,ho,e,h,hm=>by
  have hi:pre.length<cs.length:=by rw[e];simp
  have k:decide ((pre.length:Int)<(cs.length:Int))=true:=by simp;exact hi
  have l:(cs.map km)[pre.length]? = some (km c):=by rw[e];exact bZ _ _ _ _
  have hc:=h c (aeK ..);obtain⟨ib,f,a⟩:=LJ cs pre.length c.xs o hc.1 [] c.xs st m d H ho rfl hc.2 hm;obtain⟨st',b,ih⟩:=GX cs o hl (pre++[c]) suf ib (min (m+cW c.xs 1) 2001) f (H.set o (.cells ib [.i (min (m+cW c.xs 1) 2001:Nat),.i f])) (bJ _ ho) (by rw[e];simp) (fun x p=>h x (abE _ p)) (by omega);refine⟨st',b,aZ (wk _ _ _ _ _ _) ?_⟩;obtain⟨cn,xs⟩:=c;simp only[aae,aaQ,aiQ]at ih;simp only[aA (show pre.length<2^62 by omega)]at a;have a:ac av 180 200007 [.g (.ptr o 0),.g (.row 2 (cs.map km)),.n cs.length,.n pre.length,.g (.row 2 (cp xs)),.n xs.length,.n 0] [] H=_:=a;rw[bW,HX,show min (m+(cW xs 1+cW (bW suf) 1)) 2001=min (min (m+cW xs 1) 2001+cW (bW suf) 1) 2001 by omega];simp only[k,ge,aO,aB l,km,ao,ax,dR ll,bP,a];exact ih
def GV(fs:List Fu)(o:Nat)(hl:fs.length<2^62):∀(pre suf:List Fu) (st m d:Nat) (H:DH),H[o]? = some (.cells st [.i m,.i d])->fs=pre++suf->(∀ f∈suf,f.b.ok)->m<=2001 ->
 ∃ st' c,ac av 180 200016 [.g (.ptr o 0),.g (.row 8 (fs.map jQ)),.n fs.length,.n pre.length] [] H=ret (.tuple []) (H.set o (.cells st' [.i (min (m+eE (suf.map (·.b)) 1) 2001:Nat),.i (c:Nat)]))
 |pre,[],st,m,d,H,ho,e,_,hm=>by
  have k:fs.length=pre.length:=by rw[e];simp
  refine⟨st,d,aZ (wi _ _ _ _ _ _) ?_⟩;simp only[k,aio,aip,TD,ajX,eE,show min (m+0) 2001=m by omega,qa ho]
 |pre,f::suf,st,m,d,H,ho,e,h,hm=>by
  have hi:pre.length<fs.length:=by rw[e];simp
  have l:decide ((pre.length:Int)<(fs.length:Int))=true:=by simp;exact hi
  have p:(fs.map jQ)[pre.length]? = some (jQ f):=by rw[e];exact bZ _ _ _ _
  obtain⟨ib,j,a⟩:=JG f.b 1 m d st o H ho (h f (aeK ..)) (by omega) hm;obtain⟨st',c,ih⟩:=GV fs o hl (pre++[f]) suf ib (min (m+xI f.b 1) 2001) j (H.set o (.cells ib [.i (min (m+xI f.b 1) 2001:Nat),.i j])) (bJ _ ho) (by rw[e];simp) (fun x q=>h x (abE _ q)) (by omega);refine⟨st',c,aZ (wi _ _ _ _ _ _) ?_⟩;rw[aeL,eE,show min (m+(xI f.b 1+eE (suf.map (·.b)) 1)) 2001=min (min (m+xI f.b 1) 2001+eE (suf.map (·.b)) 1) 2001 by omega];obtain⟨fn,fa,⟨r,s,en',ea',xs',ps'⟩⟩:=f;simp only[aae,aaQ,aiQ]at ih;simp only[cP]at a;have a:am 246 [.ptr o 0,.agg [.i r,.i s,.str en',.str ea',.row 6 (cm xs'),.row 3 (cr ps')],.i 1] H=_:=a;simp only[l,ge,aO,aB p,jQ,ao,ax,ai a,aA (show pre.length<2^62 by omega)];exact ih
def KG(d:De):Nat:=cW (dB d) 1+eE (cV d) 1
def YI(de':De)(m d st o:Nat)(H:DH)(ho:H[o]? = some (.cells st [.i m,.i d]))(h:de'.ok)(hm:m<=2001) :
 ∃ st' q,am 180 [.ptr o 0,.agg (bF de')] H=ret (.tuple []) (H.set o (.cells st' [.i (min (m+KG de') 2001:Nat),.i (q:Nat)])):=by
 obtain⟨k,⟨dn,vs,cs⟩,n,⟨tn,ts⟩,fs,⟨ek,em,en,ea,xs,ps⟩⟩:=de';obtain⟨⟨_,c,e⟩,r,s,t,u⟩:=h;obtain⟨s1,v,f⟩:=GX cs o c [] cs st m d H ho rfl e hm;obtain⟨s2,w,j⟩:=GV fs o s [] fs st m d H ho rfl t hm;obtain⟨x,y,b⟩:=JF (.mk tn ts) 1 m d st o H ho r (by omega) hm;obtain⟨l,p,a⟩:=JG (.mk ek em en ea xs ps) 1 m d st o H ho u (by omega) hm;have f:ac av 180 200004 [.g (.ptr o 0),.g (.row 2 (cs.map km)),.n cs.length,.n 0] [] H=_:=f;have j:ac av 180 200016 [.g (.ptr o 0),.g (.row 8 (fs.map jQ)),.n fs.length,.n 0] [] H=_:=j;simp only[dJ,cP]at b a;have b:am 245 [.ptr o 0,.agg [.str tn,.row 2 (cp ts)],.i 1] H=_:=b;have a:am 246 [.ptr o 0,.agg [.i ek,.i em,.str en,.str ea,.row 6 (cm xs),.row 3 (cr ps)],.i 1] H=_:=a;have hk:k=1\/k=2\/k=3\/k=4\/k=5\/((k==1)=false/\(k==2)=false/\(k==3)=false/\(k==4)=false/\(k==5)=false):=by simp only[aeA];omega
 rcases hk with rfl|rfl|rfl|rfl|rfl|⟨z,A,B,E,F⟩
 ·exact⟨s1,v,ev (OY _ _ _ _ _ _ _ _ _ _ _ _ _ _ _ _ _) (by rw[aby];simp[f,KG,dB,cV,eE])⟩
 ·exact⟨x,y,ev (OY _ _ _ _ _ _ _ _ _ _ _ _ _ _ _ _ _) (by simp[ai b,KG,dB,cV,eE,cW])⟩
 ·exact⟨s2,w,ev (OY _ _ _ _ _ _ _ _ _ _ _ _ _ _ _ _ _) (by rw[aby];simp[j,KG,dB,cV,cW])⟩
 ·exact⟨l,p,ev (OY _ _ _ _ _ _ _ _ _ _ _ _ _ _ _ _ _) (by simp[ai a,KG,dB,cV,eE,cW])⟩
 ·exact⟨l,p,ev (OY _ _ _ _ _ _ _ _ _ _ _ _ _ _ _ _ _) (by simp[ai a,KG,dB,cV,eE,cW])⟩
 ·exact⟨st,d,ev (OY _ _ _ _ _ _ _ _ _ _ _ _ _ _ _ _ _) (by simp only[z,A,B,E,F,TD,KG,dB,cV,eE,cW,aiU,show min m 2001=m by omega,qa ho])⟩
def nh:List De->Nat
 |[]=>0
 |x::r=>max (Ph x) (nh r)
def ig:List De->Nat
 |[]=>0
 |x::r=>KG x+ig r
def Qh{H X:DH}{k:IntKind}{n:Int}{b:DB}:aX H (ret (.int k n) ((H++X).set H.length b))=ret (.int k n) H:=by
 have e:(H++X).set H.length b=H++X.set 0 b:=by rw[akW,aeD (by omega),ajj]
 rw[e];have h:pB H ⟨.ret (.int k n),none,H++X.set 0 b⟩:=⟨by simp[GP.bel,D.bel],rfl,by simp,fun i x hi a=>.inl (by rwa [aeN hi]at a)⟩;simp only[aX,ret];rw[aeM h];simp
def NE(l:List De)(o:Nat)(hl:l.length<2^62):∀(pre suf:List De) (st d:Nat) (H:DH),H[o]? = some (.cells st [.i d])->l=pre++suf->(∀ x∈suf,x.ok) ->
 ∃ st',ac av 113 200003 [.g (.ptr o 0),.g (.row 14 (l.map bF)),.n l.length,.n pre.length] [] H=ret (.i (max d (nh suf):Nat)) (H.set o (.cells st' [.i (max d (nh suf):Nat)]))
 |pre,[],st,d,H,ho,e,_=>by
  have b:l.length=pre.length:=by rw[e];simp
  refine⟨st,aZ (wR _ _ _ _ _ _) ?_⟩;simp only[b,aio,aip,TD,ae ho,ao,nh,ajy,qa ho]
 |pre,x::suf,st,d,H,ho,e,h=>by
  have hi:pre.length<l.length:=by rw[e];simp
  have c:decide ((pre.length:Int)<(l.length:Int))=true:=by simp;exact hi
  have f:(l.map bF)[pre.length]? = some (bF x):=by rw[e];exact bZ _ _ _ _
  obtain⟨ib,a⟩:=aaU x d st o H ho (h x (aeK ..));obtain⟨st',ih⟩:=NE l o hl (pre++[x]) suf ib (max d (Ph x)) (H.set o (.cells ib [.i (max d (Ph x):Nat)])) (bJ _ ho) (by rw[e];simp) (fun y hy=>h y (abE _ hy));refine⟨st',aZ (wR _ _ _ _ _ _) ?_⟩;rw[nh,<- ajk];generalize Ph x=q at a ih ⊢;obtain⟨k,⟨dn,vs,cs⟩,n,⟨tn,ts⟩,fs,⟨ek,em,en,ea,xs,ps⟩⟩:=x;simp only[aae,aaQ,aiQ]at ih;simp only[bF]at a;simp only[c,ge,aO,aB f,bF,ao,ax,ai a,aA (show pre.length<2^62 by omega)];exact ih
def WE(l:List De)(hl:l.length<2^62)(h:∀ x∈l,x.ok)(H:DH):am 113 [.agg [.row 14 (l.map bF)]] H=ret (.i (nh l:Nat)) H:=by obtain⟨st',w⟩:=NE l H.length hl [] l 0 0 (H++[.cells 0 [.i 0]]) (bt H _) rfl h;refine ev (ahV _ _ _) ?_;have w:ac av 113 200003 [.g (.ptr H.length 0),.g (.row 14 (l.map bF)),.n l.length,.n 0] [] (H++[.cells 0 [.i 0]])=_:=w;simp only[aby,w,Qh,Nat.zero_max]
def LI(l:List De)(o:Nat)(hl:l.length<2^62):∀(pre suf:List De) (st m d:Nat) (H:DH),H[o]? = some (.cells st [.i m,.i d])->l=pre++suf->(∀ x∈suf,x.ok)->m<=2001 ->
 ∃ st' a,ac av 114 200003 [.g (.ptr o 0),.g (.row 14 (l.map bF)),.n l.length,.n pre.length] [] H=ret (.i (min (m+ig suf) 2001:Nat)) (H.set o (.cells st' [.i (min (m+ig suf) 2001:Nat),.i (a:Nat)]))
 |pre,[],st,m,d,H,ho,e,_,hm=>by
  have f:l.length=pre.length:=by rw[e];simp
  refine⟨st,d,aZ (wQ _ _ _ _ _ _) ?_⟩;simp only[f,aio,aip,TD,ae ho,ao,ig,show min (m+0) 2001=m by omega,qa ho]
 |pre,x::suf,st,m,d,H,ho,e,h,hm=>by
  have hi:pre.length<l.length:=by rw[e];simp
  have j:decide ((pre.length:Int)<(l.length:Int))=true:=by simp;exact hi
  have p:(l.map bF)[pre.length]? = some (bF x):=by rw[e];exact bZ _ _ _ _
  obtain⟨ib,c,b⟩:=YI x m d st o H ho (h x (aeK ..)) hm;obtain⟨st',a,ih⟩:=LI l o hl (pre++[x]) suf ib (min (m+KG x) 2001) c (H.set o (.cells ib [.i (min (m+KG x) 2001:Nat),.i c])) (bJ _ ho) (by rw[e];simp) (fun y hy=>h y (abE _ hy)) (by omega);refine⟨st',a,aZ (wQ _ _ _ _ _ _) ?_⟩;rw[ig,show min (m+(KG x+ig suf)) 2001=min (min (m+KG x) 2001+ig suf) 2001 by omega];generalize KG x=q at b ih ⊢;obtain⟨k,⟨dn,vs,cs⟩,n,⟨tn,ts⟩,fs,⟨ek,em,en,ea,xs,ps⟩⟩:=x;simp only[aae,aaQ,aiQ]at ih;simp only[bF]at b;simp only[j,ge,aO,aB p,bF,ao,ax,ai b,aA (show pre.length<2^62 by omega)];exact ih
def YW(l:List De)(hl:l.length<2^62)(h:∀ x∈l,x.ok)(H:DH):am 114 [.agg [.row 14 (l.map bF)]] H=ret (.i (min (ig l) 2001:Nat)) H:=by obtain⟨st',d',w⟩:=LI l H.length hl [] l 0 0 0 (H++[.cells 0 [.i 0,.i 0]]) (bt H _) rfl h (by omega);refine ev (ahU _ _ _) ?_;have w:ac av 114 200003 [.g (.ptr H.length 0),.g (.row 14 (l.map bF)),.n l.length,.n 0] [] (H++[.cells 0 [.i 0,.i 0]])=_:=w;simp only[aby,w,Qh,aiv]
end Go.Proofs.YtpghiabjaglpgaaGreatDoor
namespace Go.Proofs.YtpghiabjaglpgaaGreatDoor
open Go.AI
variable{kind:af->Int}(K:YB kind)
def cu(kind:af->Int)(l:List De):Int:=bif decide (nh l>100)then 6 else bif decide (l.length>60)||decide (ig l>2000)then 2 else bif l.all (dE kind)then 0 else 21
def Sl(d s:Nat)(q:Bool)(H:DH):am 115 [.i d,.i s,.bool q] H=ret (.i (bif decide (d>100)then 6 else bif decide (s>2000)then 2 else bif q then 0 else 21)) H:=by refine ev (ahT _ _ _ _ _) ?_;simp only[FH,DL];cases decide (d>100)<;>cases decide (s>2000)<;>cases q<;>rfl
def Sz(a:Nat):decide ((a:Int)>60)=decide (a>60):=by rw[aiz];simp;omega
def VW(a:Nat):decide ((a:Int)<=100)=!decide (a>100):=by rw[aiz];simp;omega
include K
def WN(l:List De)(hl:l.length<2^62)(h:∀ x∈l,x.ok)(H:DH):am 61 [.agg [.row 14 (l.map bF)]] H=ret (.i (cu kind l)) H:=by
 refine ev (f61 _ _ _) ?_;have hb:aW bY 117=true:=by kernel_rfl
 have b:=aew hb (p:=dE kind) l hl (fun t c H'=>OJ K t H' (h t c)) H;have d (q:Bool):am 115 [.i (nh l:Nat),.i 2001,.bool q] H=_:=Sl (nh l) 2001 q H;have hm:decide (min (ig l) 2001>2000)=decide (ig l>2000):=by rw[aiz];simp;omega
 have a:decide (((min (ig l) 2001:Nat):Int)<=2000)=!decide (ig l>2000):=by rw[aiz];simp;omega
 simp only[aU (WE l hl h H),aU (YW l hl h H),aby,Sz,tB,VW,a,ai b,ai (d _),ai (Sl _ _ _ _),aq,hm,cu];cases decide (nh l>100)<;>cases decide (l.length>60)<;>cases decide (ig l>2000)<;>cases l.all (dE kind)<;>rfl
end Go.Proofs.YtpghiabjaglpgaaGreatDoor
namespace Go.Proofs.YtpghiabjaglpgaaGreatDoor
open Go.AI
mutual
def abT(n:Nat):∀ t:Ty,dF n (dJ t)
 |.mk _ xs=>by simp only[dJ,dF,D.bel,akh,akx];exact yM n xs
def yM(n:Nat):∀ l:List Ty,dV n (cp l)
 |[]=>by simp[cp,dV]
 |t::r=>by simp only[cp,dV];exact⟨abT n t,yM n r⟩
end
mutual
def acr(n:Nat):∀ t:Pa,dF n (eQ t)
 |.mk _ _ xs=>by simp only[eQ,dF,D.bel,akh,akx];exact oC n xs
def oC(n:Nat):∀ l:List Pa,dV n (cr l)
 |[]=>by simp[cr,dV]
 |t::r=>by simp only[cr,dV];exact⟨acr n t,oC n r⟩
end
mutual
def aej(n:Nat):∀ t:Ex,dF n (cP t)
 |.mk _ _ _ _ xs ps=>by simp only[cP,dF,D.bel,akh,akx];exact⟨pd n xs,oC n ps⟩
def pd(n:Nat):∀ l:List Ex,dV n (cm l)
 |[]=>by simp[cm,dV]
 |t::r=>by simp only[cm,dV];exact⟨aej n t,pd n r⟩
end
def eB{H X:DH}{d:D}(a:d.bel H.length):aX H (ret d (H++X))=ret d H:=by have h:pB H ⟨.ret d,none,H++X⟩:=⟨by simpa only[GP.bel]using a,rfl,by simp,fun i x hi b=>.inl (by rwa [aeN hi]at b)⟩;simp only[aX,ret];rw[aeM h];simp
def Gz{ok:Nat->Bool}{sz:Nat}{l els:aR}{H:DH}{κ:D->DH->au}(a:ok els.length=true)(b:ok (l.length+els.length)=true) :
 cv ok sz (.buf sz H.length l.length) els (H++[.buf sz true false l]) κ=κ (.buf sz H.length (l.length+els.length)) (H++[.buf sz true false (l++els)]):=by
 have hb:(H++[DB.buf sz true false l])[H.length]? = some (.buf sz true false l):=bt _ _;simp only[cv,a,boK,ge,aiw,du hb,b,aeG,aeH,aih,grow,TD];congr 1;rw[akW,aeD (by omega),ajj];rfl
def Ax{sz:Nat}{l:aR}{H:DH}{κ:D->DH->au}:fG (.fz sz) (.buf sz H.length l.length) (H++[.buf sz true false l]) κ=κ (.row sz l) (H++[.buf sz false false l]):=by have hb:(H++[DB.buf sz true false l])[H.length]? = some (.buf sz true false l):=bt _ _;simp only[fG,du hb,boK,aiw,ge];congr 1;rw[akW,aeD (by omega),ajj];rfl
def DO(k:Int)(dn:af)(vs:List af)(cs:List Co)(n tn:af)(ts:List Ty)(fs:List Fu)(ek em:Int)(en ea:af)(xs:List Ex)(ps:List Pa)(H:DH)(hl:fs.length<2^62)(c:∀ m,m<=fs.length->aM ab 86 m=true):∀ pre suf,fs=pre++suf ->
 ac av 121 200006 [.lp 0 0,.g (.buf 6 H.length pre.length),.n (pre.length:Nat)] [(0,bF ⟨k,⟨dn,vs,cs⟩,n,.mk tn ts,fs,.mk ek em en ea xs ps⟩)] (H++[.buf 6 true false (cm (pre.map (·.b)))])=ret (.row 6 (cm (fs.map (·.b)))) (H++[.buf 6 false false (cm (fs.map (·.b)))])
 |pre,[],e=>by
  have i:fs.length=pre.length:=by rw[e];simp
  have j:fs=pre:=by rw[e];simp
  have a:pre.length=(cm (pre.map (·.b))).length:=by rw[bQ];simp
  refine aZ (wK _ _ _ _ _ _ _ _ _ _ _ _ _ _ _ _ _ _ _) ?_;rw[show(fs.map jQ).length=fs.length by simp,i];simp only[aio,aip,TD];rw[a,Ax,j]
 |pre,f::suf,e=>by
  have hi:pre.length<fs.length:=by rw[e];simp
  have p:decide ((pre.length:Int)<((fs.map jQ).length:Int))=true:=by rw[aby];simp;exact hi
  have q:(fs.map jQ)[pre.length]? = some (jQ f):=by rw[e];exact bZ _ _ _ _
  have ih:=DO k dn vs cs n tn ts fs ek em en ea xs ps H hl c (pre++[f]) suf (by rw[e];simp);have a:(cm (pre.map (·.b))).length=pre.length:=by rw[bQ];simp
  refine aZ (wK _ _ _ _ _ _ _ _ _ _ _ _ _ _ _ _ _ _ _) ?_;have h (e:List D) (κ:D->DH->au):=Gz (ok:=aM ab 86) (sz:=6) (l:=cm (pre.map (·.b))) (els:=[e]) (H:=H) (κ:=κ) (c 1 (by omega)) (by rw[a];exact c _ (by simp;omega));rw[a]at h;have d (o n:Nat) (G:DH) (κ:D->DH->au):cK (.acc 6) 0 (.buf 6 o n) G κ=κ (.buf 6 o n) G:=rfl;obtain⟨fn,fa,⟨k',m',en',ea',xs',ps'⟩⟩:=f;rw[p,ge,aO,aB q];simp only[jQ,ao,ax,h,d,aA (show pre.length<2^62 by omega),aaQ];simp only[aae,aaQ,ais,aeL,ajX,lU,cP,bF]at ih ⊢;exact ih
def EG{H:DH}{d:D}(a:d.bel H.length):aX H (ret d H)=ret d H:=by have:=eB (X:=[]) a;simpa using this
def Np(d:De)(H:DH)(h:d.ok)(a:∀ m,m<=d.fs.length->aM ab 86 m=true):am 121 [.agg (bF d)] H=ret (.row 6 (cm (cV d))) H:=by
 obtain⟨k,⟨dn,vs,cs⟩,n,⟨tn,ts⟩,fs,⟨ek,em,en,ea,xs,ps⟩⟩:=d;obtain⟨_,_,b,_,_⟩:=h;have w:=DO k dn vs cs n tn ts fs ek em en ea xs ps H b a [] fs rfl;have w:ac av 121 200006 [.lp 0 0,.g (.buf 6 H.length 0),.n 0] [(0,bF ⟨k,⟨dn,vs,cs⟩,n,.mk tn ts,fs,.mk ek em en ea xs ps⟩)] (H++[.buf 6 true false []])=_:=w;simp only[bF]at w;have c (κ:D->DH->au):fG (.fz 6) (.buf 6 H.length 0) (H++[.buf 6 true false []]) κ=κ (.row 6 []) (H++[.buf 6 false false []]):=Ax (l:=[]);have hb (l:List Ex):D.bel H.length (.row 6 (cm l)):=by simp only[D.bel];exact pd _ l
 have e:cm [.mk ek em en ea xs ps]=[[.i ek,.i em,.str en,.str ea,.row 6 (cm xs),.row 3 (cr ps)]]:=by simp only[cm,cP]
 refine ev (ahN _ _ _ _ _ _ _ _ _ _ _ _ _ _ _ _) ?_;simp only[w,c,<- e,cV];have hk:k=3\/k=4\/k=5\/((k==3)=false/\(k==4)=false/\(k==5)=false):=by simp only[aeA];omega
 rcases hk with rfl|rfl|rfl|⟨f,j,o⟩
 ·exact eB (hb _)
 ·exact EG (hb _)
 ·exact EG (hb _)
 ·simp only[f,j,o,TD];exact eB (hb [])
def Qd:∀ a b:List Ty,cp (a++b)=cp a++cp b:=fun a b=>by simp only[iI,ais]
def Tq(d:De)(pc:List Co)(c:Co)(sc:List Co)(b:d.d.cs=pc++c::sc)(acc:List Ty)(H:DH)(hl:c.xs.length<2^62)(f:∀ m,m<=acc.length+c.xs.length->aM ab 144 m=true):∀ pre suf,c.xs=pre++suf ->
 ac av 119 200009 [.lp 0 0,.g (.buf 2 H.length (acc++pre).length),.n pc.length,.n (pre.length:Nat)] [(0,bF d)] (H++[.buf 2 true false (cp (acc++pre))])
  = ac av 119 200006 [.lp 0 0,.g (.buf 2 H.length (acc++c.xs).length),.n (bD ((pc.length:Int)+1))] [(0,bF d)] (H++[.buf 2 true false (cp (acc++c.xs))]):=by
 obtain⟨k,⟨dn,vs,cs⟩,n,⟨tn,ts⟩,fs,⟨ek,em,en,ea,xs,ps⟩⟩:=d;obtain⟨cn,cx⟩:=c;have b:cs=pc++⟨cn,cx⟩::sc:=b;have h:(cs.map km)[pc.length]? = some (km ⟨cn,cx⟩):=by rw[b];exact bZ _ _ _ _
 intro pre suf;induction suf generalizing pre with
 |nil =>
  intro e;have e:cx=pre:=by simpa using e
  have j:decide (((pre.length:Nat):Int)<((pre.length:Nat):Int))=false:=by simp
  refine aZ (wM _ _ _ _ _ _ _ _ _ _ _ _ _ _ _ _ _ _ _ _) ?_;simp only[aO,aB h,km,ao,ax,dR ll,bP,aS,e,j,aq,TD,bF]
 |cons t suf ih =>
  intro e;have e:cx=pre++t::suf:=e;have hi:pre.length<cx.length:=by rw[e];simp
  have r:decide ((pre.length:Int)<(cx.length:Int))=true:=by simp;exact hi
  have p:(cp cx)[pre.length]? = some (dJ t):=by rw[e];exact gG _ _ _
  have ih:=ih (pre++[t]) (by show cx=_;rw[e];simp);have a:(cp (acc++pre)).length=(acc++pre).length:=bP _;have hl':(⟨cn,cx⟩:Co).xs.length=cx.length:=rfl;have q (e:List D) (κ:D->DH->au):=Gz (ok:=aM ab 144) (sz:=2) (l:=cp (acc++pre)) (els:=[e]) (H:=H) (κ:=κ) (f 1 (by simp only;omega)) (by rw[a];exact f _ (by simp;omega));rw[a]at q;have i (o n:Nat) (G:DH) (κ:D->DH->au):cK (.acc 2) 0 (.buf 2 o n) G κ=κ (.buf 2 o n) G:=rfl;refine aZ (wM _ _ _ _ _ _ _ _ _ _ _ _ _ _ _ _ _ _ _ _) ?_;obtain⟨tn',tas⟩:=t;simp only[dJ]at p;simp only[aO,aB h,km,ao,ax,dR ll,bP,aS,r,aq,ge,jw ll Hm p,vA,iz,q,i,aA (show pre.length<2^62 by simp only at hl;omega),aaQ];simp only[<- aix,aae,aaQ,Qd,cp,dJ,bF]at ih ⊢;exact ih
def pt:∀(a:List Co) (c:Co),bW (a++[c])=bW a++c.xs
 |[],c=>by simp[bW]
 |x::a,c=>by simp[bW,pt a c]
def Ek:∀(a:List Co) (b:List Co),(bW a).length<=(bW (a++b)).length
 |[],b=>by simp[bW]
 |x::a,b=>by have:=Ek a b;simp[bW];omega
def Pk(d:De)(h:d.d.ok)(H:DH)(b:∀ m,m<=(bW d.d.cs).length->aM ab 144 m=true):∀ pre suf,d.d.cs=pre++suf ->
 ac av 119 200006 [.lp 0 0,.g (.buf 2 H.length (bW pre).length),.n (pre.length:Nat)] [(0,bF d)] (H++[.buf 2 true false (cp (bW pre))])
  = ret (.row 2 (cp (bW d.d.cs))) (H++[.buf 2 false false (cp (bW d.d.cs))]):=by
 intro pre suf;induction suf generalizing pre with
 |nil =>
  intro e;have e:d.d.cs=pre:=by simpa using e
  obtain⟨k,⟨dn,vs,cs⟩,n,⟨tn,ts⟩,fs,⟨ek,em,en,ea,xs,ps⟩⟩:=d;have e:cs=pre:=e;subst e;have f:decide (((cs.length:Nat):Int)<((cs.length:Nat):Int))=false:=by simp
  refine aZ (wO _ _ _ _ _ _ _ _ _ _ _ _ _ _ _ _ _ _ _) ?_;simp only[aby,f,TD];have a:(bW cs).length=(cp (bW cs)).length:=(bP _).symm;rw[a,Ax]
 |cons c suf ih =>
  intro e;have ih:=ih (pre++[c]) (by rw[e];simp);have hc:=h.2.2 c (by rw[e];simp);have i:=Ek (pre++[c]) suf;rw[show pre++[c]++suf=d.d.cs by rw[e];simp,pt,aae]at i;have w:=Tq d pre c suf e (bW pre) H hc.1 (fun m hm=>b m (by omega)) [] c.xs rfl;have hi:pre.length<d.d.cs.length:=by rw[e];simp
  have h62:=h.2.1;rw[aA (show pre.length<2^62 by omega),<- pt]at w;simp only[aae,aaQ]at ih;rw[ih]at w;simp only[aic]at w;rw[<- w];obtain⟨k,⟨dn,vs,cs⟩,n,⟨tn,ts⟩,fs,⟨ek,em,en,ea,xs,ps⟩⟩:=d;have j:decide ((pre.length:Int)<(cs.length:Int))=true:=by simp;exact hi
  refine aZ (wO _ _ _ _ _ _ _ _ _ _ _ _ _ _ _ _ _ _ _) ?_;simp only[aby,j,ge,bF,aiC];rfl
def LC(d:De)(H:DH)(h:d.ok)(a:∀ m,m<=(bW d.d.cs).length->aM ab 144 m=true):am 119 [.agg (bF d)] H=ret (.row 2 (cp (dB d))) H:=by
 have w:=Pk d h.1 H a [] d.d.cs rfl;obtain⟨k,⟨dn,vs,cs⟩,n,⟨tn,ts⟩,fs,⟨ek,em,en,ea,xs,ps⟩⟩:=d;have w:ac av 119 200006 [.lp 0 0,.g (.buf 2 H.length 0),.n 0] [(0,bF ⟨k,⟨dn,vs,cs⟩,n,.mk tn ts,fs,.mk ek em en ea xs ps⟩)] (H++[.buf 2 true false []])=_:=w;simp only[bF]at w;have b (κ:D->DH->au):fG (.fz 2) (.buf 2 H.length 0) (H++[.buf 2 true false []]) κ=κ (.row 2 []) (H++[.buf 2 false false []]):=Ax (l:=[]);have hb (l:List Ty):D.bel H.length (.row 2 (cp l)):=by simp only[D.bel];exact yM _ l
 have c:cp [.mk tn ts]=[[.str tn,.row 2 (cp ts)]]:=by simp only[cp,dJ]
 refine ev (ahP _ _ _ _ _ _ _ _ _ _ _ _ _ _ _ _) ?_;simp only[w,b,<- c,dB];have hk:k=1\/k=2\/((k==1)=false/\(k==2)=false):=by simp only[aeA];omega
 rcases hk with rfl|rfl|⟨e,f⟩
 ·exact eB (hb _)
 ·exact EG (hb _)
 ·simp only[e,f,TD];exact eB (hb [])
def QS(l:List De)(pc:List De)(d:De)(sc:List De)(hl:l=pc++d::sc)(h:d.ok)(b:∀ m,m<=d.fs.length->aM ab 86 m=true)(xs:List Ty)(p:xs.length<2^62)(H:DH):∀ pre suf (a:Nat),xs=pre++suf->Ty.oks suf ->
 ac av 64 200007 [.lp 0 0,.n a,.n pc.length,.g (.row 2 (cp xs)),.n pre.length] [(0,[.row 14 (l.map bF)])] H
  = ac av 64 200012 [.lp 0 0,.n (max a (eZ suf 1):Nat),.n pc.length,.g (.row 6 (cm (cV d))),.n 0] [(0,[.row 14 (l.map bF)])] H
 |pre,[],a,e,_=>by
  have r:xs.length=pre.length:=by rw[e];simp
  have c:(l.map bF)[pc.length]? = some (bF d):=by rw[hl];exact bZ _ _ _ _
  have j:=Np d H h b;refine aZ (AY _ _ _ _ _ _ _) ?_;generalize cV d=xx at j ⊢;obtain⟨k,⟨dn,vs,cs⟩,n,⟨tn,ts⟩,fs,⟨ek,em,en,ea,ex,ps⟩⟩:=d;simp only[bF]at j c;simp only[dR ll,bP,aS,r,aio,aip,aq,TD,aO,aB c,ao,ax,ai j,eZ,ajy]
 |pre,t::suf,a,e,ho=>by
  simp only[Ty.oks]at ho;have hi:pre.length<xs.length:=by rw[e];simp
  have s:decide ((pre.length:Int)<(xs.length:Int))=true:=by simp;exact hi
  have o:(cp xs)[pre.length]? = some (dJ t):=by rw[e];exact gG _ _ _
  have f:=Tg t 1 H ho.1 (by omega);have f:am 120 [.agg (dJ t),.i 1] H=_:=f;have ih:=QS l pc d sc hl h b xs p H (pre++[t]) suf (max a (CH t 1)) (by rw[e];simp) ho.2;refine aZ (AY _ _ _ _ _ _ _) ?_;rw[eZ,<- ajk];generalize CH t 1=q at f ih ⊢;obtain⟨tn,tas⟩:=t;simp only[dJ]at f o;simp only[aae,aaQ]at ih;simp only[dR ll,bP,aS,s,aq,ge,jw ll Hm o,vA,ai f,vz,oJ,vB,aA (show pre.length<2^62 by omega)];exact ih
def QU(l:List De)(ic:Nat)(xs:List Ex)(d:xs.length<2^62)(H:DH):∀ pre suf (a:Nat),xs=pre++suf->Ex.oks suf ->
 ac av 64 200012 [.lp 0 0,.n a,.n ic,.g (.row 6 (cm xs)),.n pre.length] [(0,[.row 14 (l.map bF)])] H
  = ac av 64 200003 [.lp 0 0,.n (max a (hC suf 1):Nat),.n (bD ((ic:Int)+1))] [(0,[.row 14 (l.map bF)])] H
 |pre,[],a,e,_=>by
  have f:xs.length=pre.length:=by rw[e];simp
  refine aZ (AX _ _ _ _ _ _ _) ?_;simp only[dR Ui,bQ,aS,f,aio,aip,aq,TD,hC,ajy]
 |pre,t::suf,a,e,ho=>by
  simp only[Ex.oks]at ho;have hi:pre.length<xs.length:=by rw[e];simp
  have h:decide ((pre.length:Int)<(xs.length:Int))=true:=by simp;exact hi
  have c:(cm xs)[pre.length]? = some (cP t):=by rw[e];exact iH _ _ _
  have b:=Ti t 1 H ho.1 (by omega);have b:am 122 [.agg (cP t),.i 1] H=_:=b;have ih:=QU l ic xs d H (pre++[t]) suf (max a (CI t 1)) (by rw[e];simp) ho.2;refine aZ (AX _ _ _ _ _ _ _) ?_;rw[hC,<- ajk];generalize CI t 1=q at b ih ⊢;obtain⟨tk,tm,tn,ta,tas,tps⟩:=t;simp only[cP]at b c;simp only[aae,aaQ]at ih;simp only[dR Ui,bQ,aS,h,aq,ge,jw Ui s86 c,Sd,ai b,vz,oJ,vB,aA (show pre.length<2^62 by omega)];exact ih
def sX{d:De}(h:d.ok):Ex.oks (cV d)/\(cV d).length<2^62:=by
 obtain⟨k,dd,n,t,fs,b⟩:=d;obtain⟨_,_,a,g,i⟩:=h;have a:fs.length<2^62:=a;unfold cV;simp only;cases k==3<;>cases k==4<;>cases k==5<;>simp only[ge,TD]
 all_goals first
  |exact⟨Ex.oks_iff.mpr fun e c=>by simp only[ajt]at c;obtain⟨f,j,rfl⟩:=c;exact g f j,by rw[aby];exact a⟩
  |exact⟨by simp only[Ex.oks,akx];exact i,by simp⟩
  |exact⟨by simp only[Ex.oks],by simp⟩
structure De.ok2(d:De):Prop where
 ok:d.ok
 fs:∀ m,m<=d.fs.length->aM ab 86 m=true
 cs:∀ m,m<=(bW d.d.cs).length->aM ab 144 m=true
 len:(bW d.d.cs).length<2^62
def Ej:∀ {l:List Co},(∀ c∈l,c.ok)->Ty.oks (bW l)
 |[],_=>by simp[bW,Ty.oks]
 |c::r,h=>by
  rw[bW,Ty.oks_iff];intro t a;rcases aiq.mp a with q|q
  ·exact Ty.oks_iff.mp (h c (aeK ..)).2 t q
  ·exact Ty.oks_iff.mp (Ej fun x b=>h x (abE _ b)) t q
def rL{d:De}(h:d.ok2):Ty.oks (dB d)/\(dB d).length<2^62:=by
 unfold dB;cases d.k==1<;>cases d.k==2<;>simp only[ge,TD]
 all_goals first
  |exact⟨Ej h.ok.1.2.2,h.len⟩
  |exact⟨by simp only[Ty.oks,akx];exact h.ok.2.1,by simp⟩
  |exact⟨by simp only[Ty.oks],by simp⟩
def QV(l:List De)(hl:l.length<2^62)(H:DH):∀(pre suf:List De) (a:Nat),l=pre++suf->(∀ d∈suf,d.ok2) ->
 ac av 64 200003 [.lp 0 0,.n a,.n pre.length] [(0,[.row 14 (l.map bF)])] H=ret (.i (max a (nh suf):Nat)) H
 |pre,[],a,e,_=>by
  have o:l.length=pre.length:=by rw[e];simp
  refine aZ (AZ _ _ _ _ _) ?_;simp only[aby,o,aio,aip,TD,nh,ajy]
 |pre,d::suf,a,e,h=>by
  have hi:pre.length<l.length:=by rw[e];simp
  have p:decide ((pre.length:Int)<(l.length:Int))=true:=by simp;exact hi
  have b:(l.map bF)[pre.length]? = some (bF d):=by rw[e];exact bZ _ _ _ _
  have ho:=h d (aeK ..);have c:=LC d H ho.ok ho.cs;have f:=QS l pre d suf e ho.ok ho.fs (dB d) (rL ho).2 H [] (dB d) a rfl (rL ho).1;have f:ac av 64 200007 [.lp 0 0,.n a,.n pre.length,.g (.row 2 (cp (dB d))),.n 0] [(0,[.row 14 (l.map bF)])] H=_:=f;have m:=QU l pre.length (cV d) (sX ho.ok).2 H [] (cV d) (max a (eZ (dB d) 1)) rfl (sX ho.ok).1;have ih:=QV l hl H (pre++[d]) suf (max (max a (eZ (dB d) 1)) (hC (cV d) 1)) (by rw[e];simp) (fun x q=>h x (abE _ q));simp only[aae,aaQ]at ih;rw[aA (show pre.length<2^62 by omega),ih]at m;have j:=f.trans m;rw[nh,Ph,<- ajk,<- ajk];refine aZ (AZ _ _ _ _ _) ?_;generalize dB d=tt at c j ⊢;generalize cV d=xx at j ⊢;obtain⟨k,⟨dn,vs,cs⟩,n,⟨tn,ts⟩,fs,⟨ek,em,en,ea,ex,ps⟩⟩:=d;simp only[bF]at b c;simp only[aby,p,ge,aO,aB b,ao,ax,ai c];exact j
def WD(l:List De)(hl:l.length<2^62)(h:∀ d∈l,d.ok2)(H:DH):am 64 [.agg [.row 14 (l.map bF)]] H=ret (.i (nh l:Nat)) H:=by have w:=QV l hl H [] l 0 rfl h;refine ev (f64 _ _ _) ?_;rw[Nat.zero_max]at w;exact w
end Go.Proofs.YtpghiabjaglpgaaGreatDoor
namespace Go.Proofs.YtpghiabjaglpgaaGreatDoor
open Go.AI
structure Nd where
 e:Ex
 d:Int
 f:Int
 p:af
 b:Int
 ar:Option af
structure Bo where
 first:Nat
 decl:Int
 run:Int
 cell:Int
 name:af
 arg:af
 kind:Int
structure Pg where
 ds:List De
 ns:List Nd
 bs:List Bo
 rs:af
 cs:af
 m:List (Nat×af)
def nC(l:af):aR:=l.map fun i=>[.i (i:Nat)]
def asC:Option af->D
 |none=>.nilrow
 |some l=>.row 1 (nC l)
def zP(x:Nd):List D:=match x.e with
 |.mk k m n a xs ps=>[.i k,.i m,.str n,.str a,.row 6 (cm xs),.row 3 (cr ps),.i x.d,.i x.f,.row 1 (nC x.p),.i x.b,asC x.ar]
def qd(x:Bo):List D:=[.i (x.first:Nat),.i x.decl,.i x.run,.i x.cell,.str x.name,.str x.arg,.i x.kind]
def mC(l:List (Nat×af)):List (D×D):=l.map fun x=>(.i (x.1:Nat),.str x.2)
def PL(n st:Nat)(G:Pg):DH:=[.map (mC G.m),.buf 11 true false (G.ns.map zP),.buf 7 true false (G.bs.map qd),.buf 1 true false (nC G.rs),.buf 1 true false (nC G.cs),
 .cells st [.row 14 (G.ds.map bF),.buf 11 (n+1) G.ns.length,.buf 7 (n+2) G.bs.length,.buf 1 (n+3) G.rs.length,.buf 1 (n+4) G.cs.length,.map n]]
def PX(H0:DH)(st:Nat)(G:Pg)(X:DH):DH:=H0++(PL H0.length st G++X)
def Ji(X:DH){L:DH}{i:Nat}{b:DB}(h:L[i]? = some b):(L++X)[i]? = some b:=by rw[aeN (aez.1 h).1];exact h
def rC(H0 L X:DH)(i:Nat)(b:DB)(h:L[i]? = some b):(H0++(L++X))[H0.length+i]? = some b:=by rw[ajh (by omega),show H0.length+i - H0.length=i by omega];exact Ji X h
def gI(H0 L X:DH)(i:Nat)(b:DB)(h:i<L.length):(H0++(L++X)).set (H0.length+i) b=H0++(L.set i b++X):=by rw[aiE _ _ (by omega),show H0.length+i - H0.length=i by omega,akB _ _ h]
variable(H0:DH)(st:Nat)(G:Pg)(X:DH)
def xF:(PX H0 st G X)[H0.length+5]? = some (.cells st [.row 14 (G.ds.map bF),.buf 11 (H0.length+1) G.ns.length,.buf 7 (H0.length+2) G.bs.length,.buf 1 (H0.length+3) G.rs.length,.buf 1 (H0.length+4) G.cs.length,.map H0.length]):=rC H0 (PL H0.length st G) X 5 _ rfl
def UV:(PX H0 st G X)[H0.length]? = some (.map (mC G.m)):=rC H0 (PL H0.length st G) X 0 _ rfl
def UU:(PX H0 st G X)[H0.length+1]? = some (.buf 11 true false (G.ns.map zP)):=rC H0 (PL H0.length st G) X 1 _ rfl
def UX:(PX H0 st G X)[H0.length+2]? = some (.buf 7 true false (G.bs.map qd)):=rC H0 (PL H0.length st G) X 2 _ rfl
def Zf:(PX H0 st G X)[H0.length+3]? = some (.buf 1 true false (nC G.rs)):=rC H0 (PL H0.length st G) X 3 _ rfl
def UW:(PX H0 st G X)[H0.length+4]? = some (.buf 1 true false (nC G.cs)):=rC H0 (PL H0.length st G) X 4 _ rfl
def zt:(PX H0 st G X).length=H0.length+6+X.length:=by simp[PX,PL];omega
def JV(Y:DH):PX H0 st G X++Y=PX H0 st G (X++Y):=by simp[PX]
def UR(i:Nat):(PX H0 st G X)[H0.length+6+i]? = X[i]?:=by unfold PX;rw[ajh (by omega),ajh (by simp[PL];omega)];congr 1;simp[PL];omega
def Mq(i:Nat)(b:DB):(PX H0 st G X).set (H0.length+6+i) b=PX H0 st G (X.set i b):=by unfold PX;rw[aiE _ _ (by omega),aiE _ _ (by simp[PL];omega)];congr 3;simp[PL];omega
def UT(x:Nd):((PX H0 st G X).set (H0.length+1) (.buf 11 true false (G.ns.map zP++[zP x]))).set (H0.length+5) (.cells (st+1) [.row 14 (G.ds.map bF),.buf 11 (H0.length+1) (G.ns.length+1),.buf 7 (H0.length+2) G.bs.length,.buf 1 (H0.length+3) G.rs.length,.buf 1 (H0.length+4) G.cs.length,.map H0.length])=PX H0 (st+1) { G with ns:=G.ns++[x] } X:=by unfold PX;rw[gI _ _ _ _ _ (by simp[PL]),gI _ _ _ _ _ (by simp[PL])];simp[PL]
def Rg(x:Bo):((PX H0 st G X).set (H0.length+2) (.buf 7 true false (G.bs.map qd++[qd x]))).set (H0.length+5) (.cells (st+1) [.row 14 (G.ds.map bF),.buf 11 (H0.length+1) G.ns.length,.buf 7 (H0.length+2) (G.bs.length+1),.buf 1 (H0.length+3) G.rs.length,.buf 1 (H0.length+4) G.cs.length,.map H0.length])=PX H0 (st+1) { G with bs:=G.bs++[x] } X:=by unfold PX;rw[gI _ _ _ _ _ (by simp[PL]),gI _ _ _ _ _ (by simp[PL])];simp[PL]
def Rb(x:Nat):((PX H0 st G X).set (H0.length+3) (.buf 1 true false (nC G.rs++[[.i (x:Nat)]]))).set (H0.length+5) (.cells (st+1) [.row 14 (G.ds.map bF),.buf 11 (H0.length+1) G.ns.length,.buf 7 (H0.length+2) G.bs.length,.buf 1 (H0.length+3) (G.rs.length+1),.buf 1 (H0.length+4) G.cs.length,.map H0.length])=PX H0 (st+1) { G with rs:=G.rs++[x] } X:=by unfold PX;rw[gI _ _ _ _ _ (by simp[PL]),gI _ _ _ _ _ (by simp[PL])];simp[PL,nC]
def Rc(x:Nat):((PX H0 st G X).set (H0.length+4) (.buf 1 true false (nC G.cs++[[.i (x:Nat)]]))).set (H0.length+5) (.cells (st+1) [.row 14 (G.ds.map bF),.buf 11 (H0.length+1) G.ns.length,.buf 7 (H0.length+2) G.bs.length,.buf 1 (H0.length+3) G.rs.length,.buf 1 (H0.length+4) (G.cs.length+1),.map H0.length])=PX H0 (st+1) { G with cs:=G.cs++[x] } X:=by unfold PX;rw[gI _ _ _ _ _ (by simp[PL]),gI _ _ _ _ _ (by simp[PL])];simp[PL,nC]
def US(ns:List Nd)(h:ns.length=G.ns.length):(PX H0 st G X).set (H0.length+1) (.buf 11 true false (ns.map zP))=PX H0 st { G with ns:=ns } X:=by unfold PX;rw[gI _ _ _ _ _ (by simp[PL])];simp[PL,h]
def Mr(m:List (Nat×af)):(PX H0 st G X).set H0.length (.map (mC m))=PX H0 st { G with m:=m } X:=by unfold PX;rw[show H0.length=H0.length+0 from rfl,gI _ _ _ _ _ (by simp[PL])];simp[PL]
def qU(n:Nat):∀ l:af,dV n (nC l)
 |[]=>by simp[nC,dV]
 |i::r=>by simp only[nC,aeL,dV,dF,D.bel,akh];exact qU n r
def Zx(n:Nat)(x:Nd):dF n (zP x):=by
 obtain⟨⟨k,m,nm,a,xs,ps⟩,d,f,p,b,ar⟩:=x;simp only[zP,dF,D.bel,akh,akx];refine⟨pd n xs,oC n ps,qU n p,?_⟩;cases ar with
 |none=>trivial
 |some l=>simp only[asC,D.bel];exact qU n l
def MH(n:Nat):∀ l:List Nd,dV n (l.map zP)
 |[]=>by simp[dV]
 |x::r=>by simp only[aeL,dV];exact⟨Zx n x,MH n r⟩
def NO(n:Nat):∀ l:List Bo,dV n (l.map qd)
 |[]=>by simp[dV]
 |x::r=>by simp only[aeL,dV,qd,dF,D.bel,akh];exact NO n r
def LU(n:Nat):∀ l:List af,dV n (l.map fD)
 |[]=>by simp[dV]
 |x::r=>by simp only[aeL,dV,fD,dF,D.bel,akh];exact LU n r
def NH(n:Nat):∀ l:List Co,dV n (l.map km)
 |[]=>by simp[dV]
 |⟨_,xs⟩::r=>by simp only[aeL,dV,km,dF,D.bel,akh,akx];exact⟨yM n xs,NH n r⟩
def Ng(n:Nat):∀ l:List Fu,dV n (l.map jQ)
 |[]=>by simp[dV]
 |⟨_,_,.mk _ _ _ _ xs ps⟩::r=>by simp only[aeL,dV,jQ,dF,D.bel,akh,akx];exact⟨⟨pd n xs,oC n ps⟩,Ng n r⟩
def Nw(n:Nat):∀ l:List De,dV n (l.map bF)
 |[]=>by simp[dV]
 |⟨_,⟨_,vs,cs⟩,_,.mk _ ts,fs,.mk _ _ _ _ xs ps⟩::r=>by simp only[aeL,dV,bF,dF,D.bel,akh,akx];exact⟨⟨LU n vs,NH n cs,yM n ts,Ng n fs,pd n xs,oC n ps⟩,Nw n r⟩
def Mp{d:D}{st':Nat}{G':Pg}{Y:DH}(a:d.bel (PX H0 st G X).length):aX (PX H0 st G X) (ret d (PX H0 st' G' (X++Y)))=ret d (PX H0 st' G' X):=by
 have hl:=zt H0 st G X;have c:pB (PX H0 st G X) ⟨.ret d,none,PX H0 st' G' (X++Y)⟩:=by
  refine⟨a,rfl,by simp only[zt,aae];omega,fun i b hi hb=>?_⟩;simp only at hb;rcases aiA i H0.length with q|q
  ·left;unfold PX at hb ⊢;rw[aeN q]at hb ⊢;exact hb
  ·obtain⟨j,rfl⟩:∃ j,i=H0.length+j:=⟨i - H0.length,by omega⟩;rcases aiA j 6 with e|e
   ·right;have:j=0\/j=1\/j=2\/j=3\/j=4\/j=5:=by omega
    rcases this with rfl|rfl|rfl|rfl|rfl|rfl
    ·rw[aiU,UV]at hb;cases hb;simp only[DB.bel,mC];intro x f;obtain⟨z,_,rfl⟩:=ajt.1 f;exact⟨trivial,trivial⟩
    ·rw[UU]at hb;cases hb;exact MH _ _
    ·rw[UX]at hb;cases hb;exact NO _ _
    ·rw[Zf]at hb;cases hb;exact qU _ _
    ·rw[UW]at hb;cases hb;exact qU _ _
    ·rw[xF]at hb;cases hb;simp only[DB.bel,dF,D.bel,akx];exact⟨Nw _ _,by omega,by omega,by omega,by omega,by omega⟩
   ·left;obtain⟨k,rfl⟩:∃ k,j=6+k:=⟨j - 6,by omega⟩;rw[<- ajE,UR]at hb ⊢;rw[aeN (by omega)]at hb;exact hb
 simp only[aX,ret];rw[aeM c];have:(PX H0 st' G' (X++Y)).take (PX H0 st G X).length=PX H0 st' G' X:=by rw[<- JV,List.take_append_of_le_length (by simp only[zt];omega),ajn (by simp only[zt];omega)]
 rw[this]
end Go.Proofs.YtpghiabjaglpgaaGreatDoor
namespace Go.Proofs.YtpghiabjaglpgaaGreatDoor
open Go.AI
mutual
def hU:Ex->Nat
 |.mk _ _ _ _ xs _=>1+dZ xs
def dZ:List Ex->Nat
 |[]=>0
 |x::r=>hU x+dZ r
end
def HV(n:Nat):List Ex->af
 |[]=>[]
 |x::r=>n::HV (n+hU x) r
mutual
def nV(d f b:Int)(n:Nat)(p:af):Ex->List Nd
 |.mk k m nm a xs ps=>⟨.mk k m nm a xs ps,d,f,p,b,some (HV (n+1) xs)⟩::iM d f b (n+1) p 0 xs
def iM(d f b:Int)(n:Nat)(p:af)(i:Nat):List Ex->List Nd
 |[]=>[]
 |x::r=>nV d f b n (p++[i]) x++iM d f b (n+hU x) p (i+1) r
end
def gt:List (Nat×af)->Nat->af->List (Nat×af)
 |[],n,a=>[(n,a)]
 |(k,b)::r,n,a=>if n=k then(n,a)::r else(k,b)::gt r n a
mutual
def Qw(n:Nat):Ex->List (Nat×af)->List (Nat×af)
 |.mk k _ _ a xs _,m=>if k=5\/k=7 then gt (xD (n+1) xs m) (n+1) a else xD (n+1) xs m
def xD(n:Nat):List Ex->List (Nat×af)->List (Nat×af)
 |[],m=>m
 |x::r,m=>xD (n+hU x) r (Qw n x m)
end
mutual
def Kd:Ex->Prop
 |.mk k _ _ _ xs _=>((k=5\/k=7)->xs≠[])/\Fh xs
def Fh:List Ex->Prop
 |[]=>True
 |x::r=>Kd x/\Fh r
end
mutual
def lK(d f b:Int):∀(e:Ex) (n:Nat) (p:af),(nV d f b n p e).length=hU e
 |.mk _ _ _ _ xs _,n,p=>by simp only[nV,hU,aeJ,Dr d f b xs];omega
def Dr(d f b:Int):∀(l:List Ex) (n:Nat) (p:af) (i:Nat),(iM d f b n p i l).length=dZ l
 |[],_,_,_=>rfl
 |x::r,n,p,i=>by simp only[iM,dZ,aae,lK d f b x,Dr d f b r]
end
def rN:∀ e:Ex,1<=hU e
 |.mk _ _ _ _ _ _=>by simp only[hU];omega
def QK{m:Nat}(h:m<=100000):aM ab 88 m=true:=fQ (b:=168) (by kernel_rfl) (by decide) h
def ii{m:Nat}(h:m<=100000):aM ab 3 m=true:=fQ (b:=8) (by kernel_rfl) (by decide) h
def MR(s o n:Nat)(H:DH)(κ:D->au):aY ab 78 (.buf s o n) H κ=κ (.i (n:Int)):=by kernel_rfl
def ZT(o n i:Nat)(κ:D->au):aD ab 78 (.buf 11 o n) (.i i) κ=boK (Nat.blt i n) (κ (.bptr o n i 0)):=by kernel_rfl
def stb(o n i c:Nat)(new:List D)(H:DH)(κ:DH->au):XG (.bptr o n i c) new H κ=ew H o n fun sz st cap l=>boK st (ba l i fun cs=>aE cs c new fun cs=>κ (H.set o (.buf sz st cap (l.set i cs)))):=rfl
def RG(m:Nat)(a:Int)(v:D)(H:DH)(κ:DH->au):lM ab 80 (.map m) (.i a) v H κ=qX H m fun es=>sC (.i a) v es fun es=>κ (H.set m (.map es)):=by kernel_rfl
def Kt(n:Nat)(a:af):∀ m:List (Nat×af),Ku (.i n) (.str a) (mC m)=some (mC (gt m n a))
 |[]=>rfl
 |(k,b)::r=>by
  have ih:=Kt n a r;unfold mC at ih ⊢;simp only[aeL,Ku];rw[show Aj (.i ((n:Nat):Int)) (.i ((k:Nat):Int))=some (((n:Nat):Int)==((k:Nat):Int))from rfl,neq];by_cases h:n=k
  ·subst h;simp[gt]
  ·rw[show(n==k)=false from aeA.2 h];simp only[ih,gt,aeD h,aeL]
def nF{ok:Nat->Bool}{sz o:Nat}{l:aR}{e:List D}{H:DH}{κ:D->DH->au}(h:H[o]? = some (.buf sz true false l))(a:ok 1=true)(b:ok (l.length+1)=true) :
 cv ok sz (.buf sz o l.length) [e] H κ=κ (.buf sz o (l.length+1)) (H.set o (.buf sz true false (l++[e]))):=by
 simp only[cv,aaQ,a,boK,ge,aiw,du h,b,aeH,aih,aiW,grow,TD]
def yE{ok:Nat->Bool}{sz:Nat}{e:List D}{r:aR}{H:DH}{κ:D->DH->au}(a:ok (r.length+1)=true):cv ok sz .nilrow (e::r) H κ=κ (.buf sz H.length (r.length+1)) (H++[.buf sz true false (e::r)]):=by simp only[cv,aeJ,a,boK,ge]
def DN{sz o:Nat}{b:Bool}{l:aR}{H:DH}{κ:D->DH->au}(h:H[o]? = some (.buf sz b false l)):fG (.fz sz) (.buf sz o l.length) H κ=κ (.row sz l) (H.set o (.buf sz false false l)):=by simp only[fG,du h,aiw,boK,ge]
def jj(l:af):(nC l).length=l.length:=by simp[nC]
def Ko(a b:af):nC (a++b)=nC a++nC b:=by simp[nC]
def Kl(op:BinOp)(κ:D->au):Fo op [] κ=κ .abool:=rfl
def HI(x:List D)(r:aR)(κ:D->au):Fo .eql (x::r) κ=κ (.bool false):=rfl
def Tw(l:af)(h:l.length<=100000)(H:DH):am 192 [.row 1 (nC l)] H=match l with
 |[]=>ret .nilrow H
 |x::r=>ret (.buf 1 H.length (r.length+1)) (H++[.buf 1 true false (nC (x::r))]):=by
 rw[show am 192 [.row 1 (nC l)] H=_ from ev (ahi _ _ _) rfl];cases l with
 |nil =>
  rw[show nC []=[] from rfl,Kl,brD,BJ];have:cv (aM ab 3) 1 .nilrow [] H (fun a b=>ret a b)=ret .nilrow H:=by simp only[cv,aiC,ii (aje _),boK,ge]
  rw[this,aeM rfl]
 |cons x r =>rw[show nC (x::r)=[.i x]::nC r from rfl,HI,aq,TD];rw[yE (by rw[jj];exact ii h),jj];rfl
def Vc(p:af)(i:Nat)(hp:p.length+1<=100000)(H:DH)(κ:D->DH->au) :
 (C av 192 [.row 1 (nC p)] H fun d24 H25=>cv (aM ab 3) 1 d24 [[.i i]] H25 fun d26 H27=>cK (.fz 1) 0 d26 H27 κ)=κ (.row 1 (nC (p++[i]))) (H++[.buf 1 false false (nC (p++[i]))]):=by
 have hc:=Tw p (by omega) H;cases p with
 |nil =>rw[ai hc,yE (r:=[]) (ii (show 0+1<=100000 by omega))];have a:=DN (κ:=κ) (bt H (.buf 1 true false [[.i i]]));refine ake a ?_;congr 1;rw[aiE _ _ (abD _),ajj];rfl
 |cons x r =>
  have hl:r.length+1=(nC (x::r)).length:=by simp[nC]
  rw[ai hc,hl,nF (bt _ _) (ii (by omega)) (ii (by rw[<- hl];simp at hp;omega))];have e:(H++[DB.buf 1 true false (nC (x::r))]).set H.length (.buf 1 true false (nC (x::r)++[[.i i]]))=H++[.buf 1 true false (nC (x::r++[i]))]:=by rw[aiE _ _ (abD _),ajj,Ko];rfl
  rw[e];show fG (.fz 1) (.buf 1 H.length ((nC (x::r)).length+1)) _ κ=_;rw[show(nC (x::r)).length+1=(nC (x::r++[i])).length by simp[nC],DN (bt _ _)];congr 1;rw[aiE _ _ (abD _),ajj];rfl
variable{H0 X:DH}
def Nd.put(x:Nd)(l:af):Nd:={ x with ar:=some l }
def Zw(x:Nd)(l:af)(κ:List D->au):aE (zP x) 10 [.row 1 (nC l)] κ=κ (zP (x.put l)):=by obtain⟨⟨k,m,n,a,xs,ps⟩,d,f,p,b,ar⟩:=x;rfl
def RY:∀ l:List Ex,l.length<=dZ l
 |[]=>abD _
 |x::r=>by have:=rN x;have:=RY r;simp only[dZ,aeJ];omega
mutual
def LW(H0:DH):∀(e:Ex) (d f b:Int) (p:af) (st:Nat) (G:Pg) (X:DH),Kd e->G.ns.length+hU e<=100000->p.length+hU e<=100000 ->
 am 118 [.ptr (H0.length+5) 0,.agg (cP e),.agg [.i d,.i f,.row 1 (nC p)],.i b] (PX H0 st G X)=ret (.i G.ns.length) (PX H0 (st+hU e) { G with ns:=G.ns++nV d f b G.ns.length p e,m:=Qw G.ns.length e G.m } X)
 |.mk k m nm a xs ps,d,f,b,p,st,G,X,c,s,hp=>by
  simp only[Kd]at c;simp only[hU]at s hp;simp only[cP];rw[show am 118 [.ptr (H0.length+5) 0,.agg [.i k,.i m,.str nm,.str a,.row 6 (cm xs),.row 3 (cr ps)],.agg [.i d,.i f,.row 1 (nC p)],.i b] (PX H0 st G X)=_ from ev (ahQ _ _ _ _ _ _ _ _ _ _ _ _ _) rfl];have ho:=xF H0 st G X;have g:(G.ns.map zP).length=G.ns.length:=aby ..;have ap:∀(e:List D) (κ:D->DH->au),cv (aM ab 88) 11 (.buf 11 (H0.length+1) G.ns.length) [e] (PX H0 st G X) κ=κ (.buf 11 (H0.length+1) (G.ns.length+1)) ((PX H0 st G X).set (H0.length+1) (.buf 11 true false (G.ns.map zP++[e]))):=fun e κ=>by have:=nF (κ:=κ) (e:=e) (UU H0 st G X) (QK (show 1<=100000 by omega)) (by rw[g];exact QK (by omega));rw[g]at this;exact this
  have ov:∀(j t l n o q w:D) (κ:List D->au),aE [j,t,l,n,o,q] 1 [w] κ=κ [j,w,l,n,o,q]:=fun _ _ _ _ _ _ _ _=>rfl;simp only[ae ho,ao,ax,MR,ap,xO];have h:=ak (.buf 11 true false (G.ns.map zP++[zP ⟨.mk k m nm a xs ps,d,f,p,b,none⟩])) (show H0.length+1≠H0.length+5 by omega) ho;rw[show([.i k,.i m,.str nm,.str a,.row 6 (cm xs),.row 3 (cr ps),.i d,.i f,.row 1 (nC p),.i b,.nilrow]:List D)=zP ⟨.mk k m nm a xs ps,d,f,p,b,none⟩from rfl];simp only[ae h,ov,UT,JV];have hl:=zt H0 (st+1) { G with ns:=G.ns++[⟨.mk k m nm a xs ps,d,f,p,b,none⟩] } X;simp only[hl];obtain⟨T,u⟩:=Db H0 k m nm a xs ps d f b p X c.1 (⟨.mk k m nm a xs ps,d,f,p,b,none⟩) rfl G.ns.length hp xs [] [] (st+1) { G with ns:=G.ns++[⟨.mk k m nm a xs ps,d,f,p,b,none⟩] } [] rfl rfl c.2 (by simp) (by simp;omega) (abD _);rw[show((cm xs).length:Int)=((xs.length:Nat):Int)by rw[bQ]];refine ake (aiK (aX (PX H0 st G X)) u) ?_;rw[Mp (d:=.i ((G.ns.length:Nat):Int)) _ _ _ _ trivial];have v:(G.ns++[(⟨.mk k m nm a xs ps,d,f,p,b,none⟩:Nd)]).length=G.ns.length+1:=by simp
  simp only[v,air,aiC];have y:st+1+dZ xs=st+(1+dZ xs):=by omega
  have z:(G.ns++[(⟨.mk k m nm a xs ps,d,f,p,b,none⟩:Nd)]++iM d f b (G.ns.length+1) p 0 xs).set G.ns.length (Nd.put ⟨.mk k m nm a xs ps,d,f,p,b,none⟩ (HV (G.ns.length+1) xs))=G.ns++nV d f b G.ns.length p (.mk k m nm a xs ps):=by rw[aix,aiE _ _ (abD _),ajj];rfl
  have A:(if k=5\/k=7 then gt (xD (G.ns.length+1) xs G.m) ((HV (G.ns.length+1) xs).headD 0) a else xD (G.ns.length+1) xs G.m)=Qw G.ns.length (.mk k m nm a xs ps) G.m:=by
   simp only[Qw];split
   ·rename_i B;have:=c.1 B;cases xs with
    |nil=>exact(this rfl).elim
    |cons x r=>rfl
   ·rfl
  rw[y,z,A];rfl
def Db(H0:DH)(k m:Int)(nm a:af)(xs0:List Ex)(ps:List Pa)(d f b:Int)(p:af)(X:DH)(hk:(k=5\/k=7)->xs0≠[])(nd:Nd)(x:nd=⟨.mk k m nm a xs0 ps,d,f,p,b,none⟩)(n0:Nat)(hp:p.length+(1+dZ xs0)<=100000):∀(xs pre:List Ex) (done:af) (st:Nat) (G:Pg) (T:DH),xs0=pre++xs->done.length=pre.length->Fh xs->G.ns[n0]? = some nd->G.ns.length+dZ xs<=100000->dZ xs<=dZ xs0 ->
 ∃ T',ac av 118 200005 [.g (.ptr (H0.length+5) 0),.n b,.lp 0 0,.lp 1 0,.n n0,.g (.buf 1 (H0.length+6+X.length) done.length),.g (.row 6 (cm xs0)),.n xs0.length,.n pre.length] [(0,[.i k,.i m,.str nm,.str a,.row 6 (cm xs0),.row 3 (cr ps)]),(0,[.i d,.i f,.row 1 (nC p)])] (PX H0 st G (X++(.buf 1 true false (nC done)::T))) =
  ret (.i n0) (PX H0 (st+dZ xs) { G with ns:=(G.ns++iM d f b G.ns.length p pre.length xs).set n0 (nd.put (done++HV G.ns.length xs)),m:=(if k=5\/k=7 then gt (xD G.ns.length xs G.m) ((done++HV G.ns.length xs).headD 0) a else xD G.ns.length xs G.m) } (X++T'))
 |[],pre,done,st,G,T,e,y,_,c,O,_=>by
  have A:pre.length=xs0.length:=by rw[e];simp
  have E:(PX H0 st G (X++(.buf 1 true false (nC done)::T)))[H0.length+6+X.length]? = some (.buf 1 true false (nC done)):=by rw[UR];simp
  have F:∀ B:DB,(PX H0 st G (X++(.buf 1 true false (nC done)::T))).set (H0.length+6+X.length) B=PX H0 st G (X++(B::T)):=fun B=>by rw[Mq,aiE _ _ (abD _),ajj];rfl
  have fz:∀ κ:D->DH->au,fG (.fz 1) (.buf 1 (H0.length+6+X.length) done.length) (PX H0 st G (X++(.buf 1 true false (nC done)::T))) κ=κ (.row 1 (nC done)) (PX H0 st G (X++(.buf 1 false false (nC done)::T))):=fun κ=>by have:=DN (κ:=κ) E;rw[jj,F]at this;exact this
  have I:n0<G.ns.length:=(aez.1 c).1;have hb:Nat.blt n0 G.ns.length=true:=by unfold Nat.blt;exact aeI I
  have bf:∀ κ:Nat->Bool->Bool->aR->au,ew (PX H0 st G (X++(.buf 1 false false (nC done)::T))) (H0.length+1) G.ns.length κ=κ 11 true false (G.ns.map zP):=fun κ=>by have:=du (κ:=κ) (UU H0 st G (X++(.buf 1 false false (nC done)::T)));rw[aby]at this;exact this
  have J:(G.ns.map zP)[n0]? = some (zP nd):=by rw[aiO,c];rfl
  have sn:(PX H0 st G (X++(.buf 1 false false (nC done)::T))).set (H0.length+1) (.buf 11 true false ((G.ns.map zP).set n0 (zP (nd.put done))))=PX H0 st { G with ns:=G.ns.set n0 (nd.put done) } (X++(.buf 1 false false (nC done)::T)):=by rw[<- List.map_set,US _ _ _ _ _ (ajz ..)]
  refine⟨.buf 1 false false (nC done)::T,?_⟩;rw[show ac av 118 200005 _ _ _=_ from aZ (wP _ _ _ _ _ _ _ _ _ _ _ _ _ _ _ _ _ _ _) rfl];rw[er,abz (by omega),TD];simp only[ae (xF _ _ _ _),ao,ax,fz,ZT,hb,boK,ge,oZ,aiv,show ∀(s:Nat) (l:aR) (κ:List D->au),aj 1 (.row s l) κ=κ [.row s l] from fun _ _ _=>rfl,stb,bf,aB J,Zw,sn];simp only[dZ,iM,HV,xD,aic,aiU];have fn:(k=5\/k=7)->(bif Nat.blt 0 done.length then(ew (PX H0 st { G with ns:=G.ns.set n0 (nd.put done) } (X++(.buf 1 false false (nC done)::T))) (H0.length+6+X.length) done.length fun z54 s55 q56 l57=>ba l57 0 fun r58=>ah r58 0 fun d59=>lM ab 80 (.map H0.length) d59 (.str a) (PX H0 st { G with ns:=G.ns.set n0 (nd.put done) } (X++(.buf 1 false false (nC done)::T))) fun H60=>ret (.i n0) H60)else none)=ret (.i n0) (PX H0 st { G with ns:=G.ns.set n0 (nd.put done),m:=gt G.m (done.headD 0) a } (X++(.buf 1 false false (nC done)::T))):=fun W=>by
   obtain⟨z,r,rfl⟩:∃ z r,done=z::r:=by
    cases done with
    |nil =>have:=hk W;exfalso;apply this;apply aji;rw[<- A,<- y];rfl
    |cons z r=>exact⟨z,r,rfl⟩
   have L:(PX H0 st { G with ns:=G.ns.set n0 (nd.put (z::r)) } (X++(.buf 1 false false (nC (z::r))::T)))[H0.length+6+X.length]? = some (.buf 1 false false (nC (z::r))):=by rw[UR];simp
   have Y:∀ κ:Nat->Bool->Bool->aR->au,ew (PX H0 st { G with ns:=G.ns.set n0 (nd.put (z::r)) } (X++(.buf 1 false false (nC (z::r))::T))) (H0.length+6+X.length) (z::r).length κ=κ 1 false false (nC (z::r)):=fun κ=>by have:=du (κ:=κ) L;rw[jj]at this;exact this
   have M:Nat.blt 0 (z::r).length=true:=by unfold Nat.blt;exact aeI (by simp)
   simp only[ao,M,ge,Y,aB (show(nC (z::r))[0]? = some [.i (z:Nat)] from rfl),RG,lO (UV _ _ _ _),sC,Kt,Mr];rfl
  by_cases t:k=5
  ·rw[aeM (.inl t),show(k==5)=true by simp[t],ge];exact fn (.inl t)
  ·rw[show(k==5)=false by simp[t],TD];by_cases u:k=7
   ·rw[aeM (.inr u),show(k==7)=true by simp[u],ge];exact fn (.inr u)
   ·rw[aeD (by rintro(q|q);exact t q;exact u q),show(k==7)=false by simp[u],TD]
 |.mk xk xm xn xa xxs xps::r,pre,done,st,G,T,e,y,j,c,O,F=>by
  have hi:pre.length<xs0.length:=by rw[e];simp
  have v:(cm xs0)[pre.length]? = some [.i xk,.i xm,.str xn,.str xa,.row 6 (cm xxs),.row 3 (cr xps)]:=by rw[e];exact iH pre (.mk xk xm xn xa xxs xps) r
  simp only[Fh]at j;simp only[dZ]at O F;have hpos:=rN (.mk xk xm xn xa xxs xps);have hl0:xs0.length<=dZ xs0:=RY xs0;have h:=LW H0 (.mk xk xm xn xa xxs xps) d f b (p++[pre.length]) st G (X++(.buf 1 true false (nC done)::T)++[.buf 1 false false (nC (p++[pre.length]))]) j.1 (by omega) (by simp;omega);simp only[cP]at h
  have ih:=fun T=>Db H0 k m nm a xs0 ps d f b p X hk nd x n0 hp r (pre++[.mk xk xm xn xa xxs xps]) (done++[G.ns.length]) (st+hU (.mk xk xm xn xa xxs xps)) { G with ns:=G.ns++nV d f b G.ns.length (p++[pre.length]) (.mk xk xm xn xa xxs xps),m:=Qw G.ns.length (.mk xk xm xn xa xxs xps) G.m } T (by rw[e];simp) (by simp[y]) j.2 (by rw[aeN (aez.1 c).1];exact c) (by simp only[aae,lK];omega) (by omega)
  obtain⟨T',Q⟩:=ih (T++[.buf 1 false false (nC (p++[pre.length]))]);refine⟨T',?_⟩;rw[show ac av 118 200005 _ _ _=_ from aZ (wP _ _ _ _ _ _ _ _ _ _ _ _ _ _ _ _ _ _ _) rfl];rw[er,abC hi,ge,aO,aB v];simp only[ao,ax];rw[Vc p pre.length (by omega)];simp only[show ∀(s:Nat) (l:aR) (κ:List D->au),aj 1 (.row s l) κ=κ [.row s l] from fun _ _ _=>rfl,show ∀(R U Z w:D) (κ:List D->au),aE [R,U,Z] 2 [w] κ=κ [R,U,w] from fun _ _ _ _ _=>rfl,ao,ax,JV,ai h,qc];have E:∀ st' G',(PX H0 st' G' (X++(.buf 1 true false (nC done)::T)++[.buf 1 false false (nC (p++[pre.length]))]))[H0.length+6+X.length]? = some (.buf 1 true false (nC done)):=fun st' G'=>by rw[UR];simp
  have N:∀ st' G' (B:DB),(PX H0 st' G' (X++(.buf 1 true false (nC done)::T)++[.buf 1 false false (nC (p++[pre.length]))])).set (H0.length+6+X.length) B=PX H0 st' G' (X++(B::(T++[.buf 1 false false (nC (p++[pre.length]))]))):=fun st' G' B=>by rw[Mq,aix,aiE _ _ (abD _),ajj];rfl
  have hdl:done.length<=99999:=by omega
  have ap:∀ st' G' (κ:D->DH->au),cv (aM ab 3) 1 (.buf 1 (H0.length+6+X.length) done.length) [[.i G.ns.length]] (PX H0 st' G' (X++(.buf 1 true false (nC done)::T)++[.buf 1 false false (nC (p++[pre.length]))])) κ=κ (.buf 1 (H0.length+6+X.length) (done.length+1)) (PX H0 st' G' (X++(.buf 1 true false (nC (done++[G.ns.length]))::(T++[.buf 1 false false (nC (p++[pre.length]))])))):=fun st' G' κ=>by have:=nF (κ:=κ) (e:=[.i G.ns.length]) (E st' G') (ii (show 1<=100000 by omega)) (by rw[jj];exact ii (by omega));rw[jj,N]at this;rw[this,Ko done [G.ns.length]];rfl
  rw[ap];simp only[show ∀(s o n:Nat) (H:DH) (κ:D->DH->au),cK (.acc 1) 0 (.buf s o n) H κ=κ (.buf s o n) H from fun _ _ _ _ _=>rfl,aA (show pre.length<2^62 by omega)];simp only[aae,aaQ]at Q;rw[Q];simp only[dZ,iM,HV,xD,lK,aix,aiG,ajE]
end
def Mj{m:Nat}(h:m<=100000):aM ab 152 m=true:=fQ (b:=72) (by kernel_rfl) (by decide) h
def RZ(s o n:Nat)(H:DH)(κ:D->au):aY ab 79 (.buf s o n) H κ=κ (.i (n:Int)):=by kernel_rfl
def Sb(s o n:Nat)(H:DH)(κ:D->au):aY ab 25 (.buf s o n) H κ=κ (.i (n:Int)):=by kernel_rfl
def JD(n:Nat)(h:n<2^62):bD (((n+1:Nat):Int) - 1)=((n:Nat):Int):=by rw[jf]<;>omega
def Pg.addB(G:Pg)(a:Bo)(f:Int)(e:Ex):Pg:={ G with bs:=G.bs++[{ a with first:=G.ns.length }],ns:=G.ns++nV a.decl f G.bs.length G.ns.length [] e,m:=Qw G.ns.length e G.m }
def Hl(H0:DH)(e:Ex)(p:Bo)(f:Int)(st:Nat)(G:Pg)(X:DH)(q:Kd e)(t:G.ns.length+hU e<=100000)(hb:G.bs.length<100000) :
 am 62 [.ptr (H0.length+5) 0,.agg (qd p),.agg (cP e),.i f] (PX H0 st G X)=ret (.tuple []) (PX H0 (st+1+hU e) (G.addB p f e) X):=by
 obtain⟨first,decl,run,cell,name,arg,kd⟩:=p;obtain⟨k,m,nm,a,xs,ps⟩:=e;have b:=LW H0 (.mk k m nm a xs ps) decl f (G.bs.length:Nat) [] (st+1) { G with bs:=G.bs++[⟨G.ns.length,decl,run,cell,name,arg,kd⟩] } X q t (by simp;omega);simp only[cP]at b;simp only[cP,qd];rw[show am 62 _ (PX H0 st G X)=_ from ev (f62 _ _ _ _ _ _ _ _ _ _ _ _ _ _ _ _ _) rfl];have ho:=xF H0 st G X;have j:(G.bs.map qd).length=G.bs.length:=aby ..;have ap:∀(e:List D) (κ:D->DH->au),cv (aM ab 152) 7 (.buf 7 (H0.length+2) G.bs.length) [e] (PX H0 st G X) κ=κ (.buf 7 (H0.length+2) (G.bs.length+1)) ((PX H0 st G X).set (H0.length+2) (.buf 7 true false (G.bs.map qd++[e]))):=fun e κ=>by have:=nF (κ:=κ) (e:=e) (UX H0 st G X) (Mj (show 1<=100000 by omega)) (by rw[j];exact Mj (by omega));rw[j]at this;exact this
 have ov7:∀(g c h l n o s w:D) (κ:List D->au),aE [g,c,h,l,n,o,s] 0 [w] κ=κ [w,c,h,l,n,o,s]:=fun _ _ _ _ _ _ _ _ _=>rfl;have ov62:∀(g c h l n o w:D) (κ:List D->au),aE [g,c,h,l,n,o] 2 [w] κ=κ [g,c,w,l,n,o]:=fun _ _ _ _ _ _ _ _=>rfl;have ov30:∀(g c h w:D) (κ:List D->au),aE [g,c,h] 0 [w] κ=κ [w,c,h]:=fun _ _ _ _ _=>rfl;have ov31:∀(g c h w:D) (κ:List D->au),aE [g,c,h] 1 [w] κ=κ [g,w,h]:=fun _ _ _ _ _=>rfl;have hk:∀(g c:D) (H:DH) (κ:D->DH->au),cK (.fz 1) 2 (.agg [g,c,.nilrow]) H κ=κ (.agg [g,c,.row 1 []]) H:=fun _ _ _ _=>rfl;simp only[ae ho,ao,ax,MR,qc,ov7,ap,xO];have r:=ak (.buf 7 true false (G.bs.map qd++[qd ⟨G.ns.length,decl,run,cell,name,arg,kd⟩])) (show H0.length+2≠H0.length+5 by omega) ho;rw[show([.i ((G.ns.length:Nat):Int),.i decl,.i run,.i cell,.str name,.str arg,.i kd]:List D)=qd ⟨G.ns.length,decl,run,cell,name,arg,kd⟩from rfl];simp only[ae r,ov62,Rg,ov30,ov31,hk,ae (xF _ _ _ _),ao,ax,RZ,aae,aaQ,nz,JD _ (show G.bs.length<2^62 by omega)];have b:=fj (k:=fun _ H36=>ret (.tuple []) H36) (kp:=fun _ _=>none) b;refine ake (aiK (aX (PX H0 st G X)) b) ?_;have:=Mp H0 st G X (d:=.tuple []) (st':=st+1+hU (.mk k m nm a xs ps)) (G':=G.addB ⟨first,decl,run,cell,name,arg,kd⟩ f (.mk k m nm a xs ps)) (Y:=[]) trivial;rw[aic]at this;exact this
def Pg.addF(G:Pg)(i:Nat)(kd:Int)(k:Nat)(f:Fu):Pg:=({ G with cs:=G.cs++[G.bs.length] }:Pg).addB ⟨0,(i:Nat),-1,(G.cs.length:Nat),f.n,f.a,kd⟩ (k:Nat) f.b
def Pg.addFs(G:Pg)(i:Nat)(kd:Int)(k:Nat):List Fu->Pg
 |[]=>G
 |f::r=>(G.addF i kd k f).addFs i kd (k+1) r
def Pg.addR(G:Pg)(i:Nat)(d:De):Pg:=({ G with rs:=G.rs++[G.bs.length] }:Pg).addB ⟨0,(i:Nat),(G.rs.length:Nat),-1,d.n,[],d.k⟩ 0 d.b
def Pg.addD(G:Pg)(i:Nat)(d:De):Pg:=if d.k=3 then G.addFs i 3 0 d.fs else if d.k=4\/d.k=5 then G.addR i d else G
def Pg.addDs(G:Pg)(i:Nat):List De->Pg
 |[]=>G
 |d::r=>(G.addD i d).addDs (i+1) r
def xC:List Fu->Nat
 |[]=>0
 |f::r=>hU f.b+xC r
def Nb(l:aR)(i:Nat)(κ:D->au):aD ab 145 (.row 8 l) (.i i) κ=ba l i fun cs=>κ (.eptr cs 0):=by kernel_rfl
def Ye(a b c d e f g h:D)(H:DH)(κ:D->au):cH ab 149 (.eptr [a,b,c,d,e,f,g,h] 0) H κ=κ (.agg [a,b,c,d,e,f,g,h]):=by kernel_rfl
def Xu(G:Pg)(a:Bo)(f:Int)(e:Ex):(G.addB a f e).ns.length=G.ns.length+hU e:=by simp[Pg.addB,lK]
def ce8(a b c d e f g h:D)(κ:List D->au):aj 8 (.agg [a,b,c,d,e,f,g,h]) κ=κ [a,b,c,d,e,f,g,h]:=rfl
def ov8(i j k l m n o p a b c d e f g h:D)(κ:List D->au):aE [i,j,k,l,m,n,o,p] 0 [a,b,c,d,e,f,g,h] κ=κ [a,b,c,d,e,f,g,h]:=rfl
def afn(a b c d f e w:D)(κ:List D->au):aE [a,b,c,d,f,e] 4 [w] κ=κ [a,b,c,d,w,e]:=rfl
def afo(a b c f d e w:D)(κ:List D->au):aE [a,b,c,f,d,e] 3 [w] κ=κ [a,b,c,w,d,e]:=rfl
def afl(a b g c d e f w:D)(κ:List D->au):aE [a,b,g,c,d,e,f] 2 [w] κ=κ [a,b,w,c,d,e,f]:=rfl
def acv(a b c g d e f w:D)(κ:List D->au):aE [a,b,c,g,d,e,f] 3 [w] κ=κ [a,b,c,w,d,e,f]:=rfl
def acu(a b c d g e f w:D)(κ:List D->au):aE [a,b,c,d,g,e,f] 4 [w] κ=κ [a,b,c,d,w,e,f]:=rfl
def afk(a b c d e g f w:D)(κ:List D->au):aE [a,b,c,d,e,g,f] 5 [w] κ=κ [a,b,c,d,e,w,f]:=rfl
def act(a b c d e f g w:D)(κ:List D->au):aE [a,b,c,d,e,f,g] 6 [w] κ=κ [a,b,c,d,e,f,w]:=rfl
def Do(H0 X:DH)(i:Nat)(d:De)(o:d.fs.length<2^61)(ds:List D)(c:ds=bF d)(rows:aR)(n:Nat):∀(suf pre:List Fu) (st:Nat) (G:Pg),d.fs=pre++suf->(∀ f∈suf,Kd f.b)->G.ns.length+xC suf<=100000->G.bs.length+suf.length<=99999->G.cs.length+suf.length<=99999 ->
 ∃ st',ac av 33 200011 [.g (.ptr (H0.length+5) 0),.n i,.lp 0 0,.g (.row 14 rows),.n n,.n i,.g (.row 8 (d.fs.map jQ)),.n d.fs.length,.n pre.length] [(0,ds)] (PX H0 st G X) =
  ac av 33 200006 [.g (.ptr (H0.length+5) 0),.g (.row 14 rows),.n n,.n (bD ((i:Int)+1))] [] (PX H0 st' (G.addFs i d.k pre.length suf) X)
 |[],pre,st,G,e,_,_,_,_=>by
  refine⟨st,?_⟩;obtain⟨k,⟨dn,vs,cs⟩,nm,⟨tn,ts⟩,fs,⟨ek,em,en,ea,ex,ps⟩⟩:=d;subst c;simp only[bF];refine aZ (Bi _ _ _ _ _ _ _ _ _ _ _ _ _ _ _ _ _ _ _ _ _ _ _ _) ?_;have:fs.length=pre.length:=by simp only at e;rw[e];simp
  simp only[this];rw[er,abz (aiD _),TD];rfl
 |f::suf,pre,st,G,e,j,r,hb,hc=>by
  have hp:pre.length<2^62:=by
   have:pre.length<d.fs.length:=by rw[e];simp
   omega
  have p:=j f (aeK ..);simp only[xC,aeJ]at r hb hc;have h:=Hl H0 f.b ⟨0,(i:Nat),-1,(G.cs.length:Nat),f.n,f.a,d.k⟩ (pre.length:Nat) (st+1) { G with cs:=G.cs++[G.bs.length] } X p (by simp only;omega) (by simp only;omega);obtain⟨st',ih⟩:=Do H0 X i d o ds c rows n suf (pre++[f]) (st+1+1+hU f.b) (G.addF i d.k pre.length f) (by rw[e];simp) (fun x s=>j x (abE _ s)) (by rw[Pg.addF,Xu];simp only;omega) (by simp only[Pg.addF,Pg.addB,aae,aaQ];omega) (by simp only[Pg.addF,Pg.addB,aae,aaQ];omega);refine⟨st',?_⟩;simp only[aae,aaQ]at ih;rw[show(G.addFs i d.k pre.length (f::suf))=(G.addF i d.k pre.length f).addFs i d.k (pre.length+1) suf from rfl,<- ih];have hi:pre.length<d.fs.length:=by rw[e];simp
  have l:(d.fs.map jQ)[pre.length]? = some (jQ f):=by rw[e];exact bZ _ _ _ _
  obtain⟨fnm,fa,⟨fk,fm,fn,fea,fxs,fps⟩⟩:=f;obtain⟨k,⟨dn,vs,cs⟩,nm,⟨tn,ts⟩,fs,⟨ek,em,en,ea,ex,ps⟩⟩:=d;subst c;simp only[bF];refine aZ (Bi _ _ _ _ _ _ _ _ _ _ _ _ _ _ _ _ _ _ _ _ _ _ _ _) ?_;simp only[jQ,cP,qd]at l h;simp only at hi;have ho:=xF H0 st G X;have m:(nC G.cs).length=G.cs.length:=jj _;have ap:∀(κ:D->DH->au),cv (aM ab 3) 1 (.buf 1 (H0.length+4) G.cs.length) [[.i G.bs.length]] (PX H0 st G X) κ=κ (.buf 1 (H0.length+4) (G.cs.length+1)) ((PX H0 st G X).set (H0.length+4) (.buf 1 true false (nC G.cs++[[.i G.bs.length]]))):=fun κ=>by have:=nF (κ:=κ) (e:=[.i G.bs.length]) (UW H0 st G X) (ii (show 1<=100000 by omega)) (by rw[m];exact ii (by omega));rw[m]at this;exact this
  have q:=ak (.buf 1 true false (nC G.cs++[[.i G.bs.length]])) (show H0.length+4≠H0.length+5 by omega) ho;rw[er,abC hi,ge];simp only[Nb,aB l,Ye,ce8,ov8,ae ho,ao,ax,RZ,qc,ap,xO,ae q,afn,Rc,ae (xF _ _ _ _),Sb,aae,aaQ,nz,JD _ (show G.cs.length<2^62 by omega),Gu,acv,acu,afk,act,fj h,aA hp];exact fj h
def Vi(H0 X:DH)(i:Nat)(d:De)(rows:aR)(n st:Nat)(G:Pg)(f:Kd d.b)(j:G.ns.length+hU d.b<=100000)(hb:G.bs.length<99999)(hr:G.rs.length<99999) :
 ac av 33 18 [.g (.ptr (H0.length+5) 0),.n i,.lp 0 0,.g (.row 14 rows),.n n,.n i] [(0,bF d)] (PX H0 st G X) =
  ac av 33 200006 [.g (.ptr (H0.length+5) 0),.g (.row 14 rows),.n n,.n (bD ((i:Int)+1))] [] (PX H0 (st+1+1+hU d.b) (G.addR i d) X):=by
 have a:=Hl H0 d.b ⟨0,(i:Nat),(G.rs.length:Nat),-1,d.n,[],d.k⟩ 0 (st+1) { G with rs:=G.rs++[G.bs.length] } X f j (by simp only;omega);obtain⟨k,⟨dn,vs,cs⟩,nm,⟨tn,ts⟩,fs,⟨ek,em,en,ea,ex,ps⟩⟩:=d;simp only[bF];refine aZ (aaF _ _ _ _ _ _ _ _ _ _ _ _ _ _ _ _ _ _ _ _ _) ?_;simp only[cP,qd]at a;have ho:=xF H0 st G X;have c:(nC G.rs).length=G.rs.length:=jj _;have ap:∀(κ:D->DH->au),cv (aM ab 3) 1 (.buf 1 (H0.length+3) G.rs.length) [[.i G.bs.length]] (PX H0 st G X) κ=κ (.buf 1 (H0.length+3) (G.rs.length+1)) ((PX H0 st G X).set (H0.length+3) (.buf 1 true false (nC G.rs++[[.i G.bs.length]]))):=fun κ=>by have:=nF (κ:=κ) (e:=[.i G.bs.length]) (Zf H0 st G X) (ii (show 1<=100000 by omega)) (by rw[c];exact ii (by omega));rw[c]at this;exact this
 have h:=ak (.buf 1 true false (nC G.rs++[[.i G.bs.length]])) (show H0.length+3≠H0.length+5 by omega) ho;simp only[ae ho,ao,ax,RZ,qc,ap,xO,ae h,afo,Rb,ae (xF _ _ _ _),Sb,aae,aaQ,nz,JD _ (show G.rs.length<2^62 by omega),Gu,afl,acv,acu,act];exact fj a
def Qm(d:De):Nat:=if d.k=3 then xC d.fs else if d.k=4\/d.k=5 then hU d.b else 0
def Cc(d:De):Nat:=if d.k=3 then d.fs.length else if d.k=4\/d.k=5 then 1 else 0
def yP:List De->Nat
 |[]=>0
 |d::r=>Qm d+yP r
def lL:List De->Nat
 |[]=>0
 |d::r=>Cc d+lL r
structure Zp(d:De):Prop where
 fl:d.fs.length<2^61
 fs:d.k=3->∀ f∈d.fs,Kd f.b
 b:(d.k=4\/d.k=5)->Kd d.b
def uT(i:Nat)(kd:Int):∀(l:List Fu) (k:Nat) (G:Pg),(G.addFs i kd k l).ns.length=G.ns.length+xC l/\(G.addFs i kd k l).bs.length=G.bs.length+l.length/\(G.addFs i kd k l).cs.length=G.cs.length+l.length/\(G.addFs i kd k l).rs.length=G.rs.length
 |[],k,G=>⟨rfl,rfl,rfl,rfl⟩
 |f::r,k,G=>by
  obtain⟨h1,h2,h3,h4⟩:=uT i kd r (k+1) (G.addF i kd k f);have a1:(G.addF i kd k f).ns.length=G.ns.length+hU f.b:=by simp[Pg.addF,Pg.addB,lK]
  have a2:(G.addF i kd k f).bs.length=G.bs.length+1:=by simp[Pg.addF,Pg.addB]
  have a3:(G.addF i kd k f).cs.length=G.cs.length+1:=by simp[Pg.addF,Pg.addB]
  have a4:(G.addF i kd k f).rs.length=G.rs.length:=by simp[Pg.addF,Pg.addB]
  simp only[Pg.addFs,xC,aeJ];omega
def TX(i:Nat)(d:De)(G:Pg):(G.addD i d).ns.length=G.ns.length+Qm d/\(G.addD i d).bs.length=G.bs.length+Cc d/\(G.addD i d).cs.length<=G.cs.length+Cc d/\(G.addD i d).rs.length<=G.rs.length+Cc d:=by
 unfold Pg.addD Qm Cc;split
 ·obtain⟨h1,h2,h3,h4⟩:=uT i 3 d.fs 0 G;omega
 ·split
  ·have a1:(G.addR i d).ns.length=G.ns.length+hU d.b:=by simp[Pg.addR,Pg.addB,lK]
   have a2:(G.addR i d).bs.length=G.bs.length+1:=by simp[Pg.addR,Pg.addB]
   have a3:(G.addR i d).cs.length=G.cs.length:=by simp[Pg.addR,Pg.addB]
   have a4:(G.addR i d).rs.length=G.rs.length+1:=by simp[Pg.addR,Pg.addB]
   omega
  ·omega
def FB(l:aR)(H:DH)(κ:D->au):aY ab 145 (.row 8 l) H κ=κ (.i l.length):=by kernel_rfl
def zL(H0 X:DH)(l:List De)(hl:l.length<2^61):∀(suf pre:List De) (st:Nat) (G:Pg),l=pre++suf->(∀ d∈suf,Zp d)->G.ns.length+yP suf<=100000->G.bs.length+lL suf<=99998->G.cs.length+lL suf<=99998->G.rs.length+lL suf<=99998 ->
 ∃ st',ac av 33 200006 [.g (.ptr (H0.length+5) 0),.g (.row 14 (l.map bF)),.n l.length,.n pre.length] [] (PX H0 st G X) =
  ac av 33 200022 [.g (.ptr (H0.length+5) 0),.g (.buf 1 (H0.length+4) (G.addDs pre.length suf).cs.length),.n ((G.addDs pre.length suf).cs.length:Nat),.n 0] [] (PX H0 st' (G.addDs pre.length suf) X)
 |[],pre,st,G,e,_,_,_,_,_=>by
  refine⟨st,aZ (Bj _ _ _ _ _ _) ?_⟩;have:l.length=pre.length:=by rw[e];simp
  rw[er,this,abz (aiD _),TD];simp only[ae (xF _ _ _ _),ao,ax,Sb];rfl
 |d::suf,pre,st,G,e,f,q,hb,hc,hr=>by
  have m:=f d (aeK ..);have hi:pre.length<l.length:=by rw[e];simp
  have i:(l.map bF)[pre.length]? = some (bF d):=by rw[e];exact bZ _ _ _ _
  simp only[yP,lL]at q hb hc hr;obtain⟨q1,q2,q3,q4⟩:=TX pre.length d G;have ih:=fun st2=>zL H0 X l hl suf (pre++[d]) st2 (G.addD pre.length d) (by rw[e];simp) (fun x r=>f x (abE _ r)) (by omega) (by omega) (by omega) (by omega);simp only[aae,aaQ]at ih;have o:bD ((pre.length:Int)+1)=((pre.length+1:Nat):Int):=aA (by omega);rw[show G.addDs pre.length (d::suf)=(G.addD pre.length d).addDs (pre.length+1) suf from rfl];have key:∃ st2,ac av 33 200006 [.g (.ptr (H0.length+5) 0),.g (.row 14 (l.map bF)),.n l.length,.n pre.length] [] (PX H0 st G X)=ac av 33 200006 [.g (.ptr (H0.length+5) 0),.g (.row 14 (l.map bF)),.n l.length,.n ((pre.length+1:Nat):Nat)] [] (PX H0 st2 (G.addD pre.length d) X):=by
   have run:=Vi H0 X pre.length d (l.map bF) l.length st G;have fun':=Do H0 X pre.length d m.fl (bF d) rfl (l.map bF) l.length d.fs [] st G rfl;rw[o]at run fun'
   have step:ac av 33 200006 [.g (.ptr (H0.length+5) 0),.g (.row 14 (l.map bF)),.n l.length,.n pre.length] [] (PX H0 st G X) =
    cond (d.k==3) (ac av 33 200011 [.g (.ptr (H0.length+5) 0),.n pre.length,.lp 0 0,.g (.row 14 (l.map bF)),.n l.length,.n pre.length,.g (.row 8 (d.fs.map jQ)),.n d.fs.length,.n 0] [(0,bF d)] (PX H0 st G X))
     (cond (d.k==4||d.k==5) (ac av 33 18 [.g (.ptr (H0.length+5) 0),.n pre.length,.lp 0 0,.g (.row 14 (l.map bF)),.n l.length,.n pre.length] [(0,bF d)] (PX H0 st G X))
      (ac av 33 200006 [.g (.ptr (H0.length+5) 0),.g (.row 14 (l.map bF)),.n l.length,.n ((pre.length+1:Nat):Nat)] [] (PX H0 st G X))):=by
    clear run fun' ih;obtain⟨k,⟨dn,vs,cs⟩,nm,⟨tn,ts⟩,fs,⟨ek,em,en,ea,ex,ps⟩⟩:=d;simp only[bF]at i ⊢;refine aZ (Bj _ _ _ _ _ _) ?_;rw[er,abC hi,ge,aO,aB i];simp only[ao,ax,aT,aq,FB,aby,o];cases k==3<;>cases k==4<;>cases k==5<;>simp only[ge,TD,aks,akH,akO,ajf]
   rw[step];by_cases c:d.k=3
   ·have n1:Qm d=xC d.fs:=by simp[Qm,c]
    have n2:Cc d=d.fs.length:=by simp[Cc,c]
    have j:G.addD pre.length d=G.addFs pre.length 3 0 d.fs:=by simp[Pg.addD,c]
    obtain⟨st2,h⟩:=fun' (m.fs c) (by omega) (by omega) (by omega);rw[show(d.k==3)=true by simp[c],ge,j];rw[c]at h;exact⟨st2,h⟩
   ·rw[show(d.k==3)=false by simp[c],TD];by_cases a:d.k=4\/d.k=5
    ·have n1:Qm d=hU d.b:=by simp[Qm,c,a]
     have n2:Cc d=1:=by simp[Cc,c,a]
     have j:G.addD pre.length d=G.addR pre.length d:=by simp[Pg.addD,c,a]
     rw[show(d.k==4||d.k==5)=true by simp[a],ge,j,run (m.b a) (by omega) (by omega) (by omega)];exact⟨_,rfl⟩
    ·have j:G.addD pre.length d=G:=by simp[Pg.addD,c,a]
     have:(d.k==4||d.k==5)=false:=by
      cases p:(d.k==4||d.k==5)with
      |false=>rfl
      |true=>simp at p;exact(a p).elim
     rw[this,TD,j];exact⟨st,rfl⟩
  obtain⟨st2,hk⟩:=key;obtain⟨st3,c⟩:=ih st2;exact⟨st3,hk.trans c⟩
def FZ(bs:List Bo):af->List (Nat×af)->List (Nat×af)
 |[],m=>m
 |c::r,m=>match bs[c]? with
  |some x=>FZ bs r (gt m x.first x.arg)
  |none=>FZ bs r m
def Jg(G:Pg):Prop:=∀ c∈G.cs,c<G.bs.length
def BH(i:Nat)(kd:Int):∀(l:List Fu) (k:Nat) (G:Pg),Jg G->Jg (G.addFs i kd k l)
 |[],_,_,h=>h
 |f::r,k,G,h=>BH i kd r (k+1) _ (fun c hc=>by
  simp only[Pg.addF,Pg.addB,aae,aaQ,aiq,akv]at hc ⊢;rcases hc with hc|rfl
  ·have:=h c hc;omega
  ·omega)
def Ps(i:Nat)(d:De)(G:Pg)(h:Jg G):Jg (G.addD i d):=by
 unfold Pg.addD;split
 ·exact BH _ _ _ _ _ h
 ·split
  ·intro c hc;simp only[Pg.addR,Pg.addB,aae,aaQ]at hc ⊢;have:=h c hc;omega
  ·exact h
def BI:∀(l:List De) (i:Nat) (G:Pg),Jg G->Jg (G.addDs i l)
 |[],_,_,h=>h
 |d::r,i,G,h=>BI r (i+1) _ (Ps i d G h)
def adF(o n i:Nat)(κ:D->au):aD ab 25 (.buf 1 o n) (.i i) κ=boK (Nat.blt i n) (κ (.bptr o n i 0)):=by kernel_rfl
def VV(o n i:Nat)(κ:D->au):aD ab 79 (.buf 7 o n) (.i i) κ=boK (Nat.blt i n) (κ (.bptr o n i 0)):=by kernel_rfl
def il{a b:Nat}(h:a<b):Nat.blt a b=true:=by unfold Nat.blt;exact aeI h
def Dp(H0 X:DH)(st:Nat)(cs:af)(b:cs.length<2^61):∀(suf pre:af) (G:Pg),cs=pre++suf->G.cs=cs->Jg G ->
 ac av 33 200022 [.g (.ptr (H0.length+5) 0),.g (.buf 1 (H0.length+4) cs.length),.n cs.length,.n pre.length] [] (PX H0 st G X)=ret (.tuple [.ptr (H0.length+5) 0,.i 0]) (PX H0 st { G with m:=FZ G.bs suf G.m } X)
 |[],pre,G,e,_,_=>by
  refine aZ (Bh _ _ _ _ _ _) ?_;have:cs.length=pre.length:=by rw[e];simp
  rw[er,this,abz (aiD _),TD];rfl
 |c::suf,pre,G,e,a,hb=>by
  have hi:pre.length<cs.length:=by rw[e];simp
  have hc:c<G.bs.length:=hb c (by rw[a,e];simp);have d:(nC G.cs)[pre.length]? = some [.i (c:Nat)]:=by rw[a,e];simp[nC]
  have f:(G.bs.map qd)[c]? = some (qd G.bs[c]):=by rw[aiO,abF hc];rfl
  have ih:=Dp H0 X st cs b suf (pre++[c]) { G with m:=gt G.m G.bs[c].first G.bs[c].arg } (by rw[e];simp) a hb;simp only[aae,aaQ]at ih;refine aZ (Bh _ _ _ _ _ _) ?_;have j:∀ κ:Nat->Bool->Bool->aR->au,ew (PX H0 st G X) (H0.length+4) cs.length κ=κ 1 true false (nC G.cs):=fun κ=>by have:=du (κ:=κ) (UW H0 st G X);rw[jj,a]at this;rw[a];exact this
  have h:∀ κ:Nat->Bool->Bool->aR->au,ew (PX H0 st G X) (H0.length+2) G.bs.length κ=κ 7 true false (G.bs.map qd):=fun κ=>by have:=du (κ:=κ) (UX H0 st G X);rw[aby]at this;exact this
  rw[er,abC hi,ge];simp only[adF,il hi,boK,ge,acX,j,aB d,ao,ae (xF _ _ _ _),ax,VV,il hc,oZ,aiv,aiU,h,aB f];have e0:∀ κ:D->au,ah (qd G.bs[c]) 0 κ=κ (.i (G.bs[c].first:Nat)):=fun _=>rfl;have k:∀ κ:D->au,ah (qd G.bs[c]) 5 κ=κ (.str G.bs[c].arg):=fun _=>rfl;simp only[e0,acU,h,aB f,k,RG,lO (UV _ _ _ _),sC,Kt,Mr,aA (show pre.length<2^62 by omega),ih];simp only[FZ,abF hc]
def kN(l:List De):Pg:=(⟨l,[],[],[],[],[]⟩:Pg).addDs 0 l
def cU(l:List De):Pg:={ kN l with m:=FZ (kN l).bs (kN l).cs (kN l).m }
def Jt:∀(l:List De) (i:Nat) (G:Pg),(G.addDs i l).cs.length<=G.cs.length+lL l
 |[],_,_=>by simp[Pg.addDs,lL]
 |d::r,i,G=>by
  have h1:=Jt r (i+1) (G.addD i d);have h2:(G.addD i d).cs.length<=G.cs.length+Cc d:=by
   unfold Pg.addD Cc;split
   ·have:=uT i 3 d.fs 0 G;omega
   ·split
    ·simp[Pg.addR,Pg.addB]
    ·omega
  simp only[Pg.addDs,lL];omega
def Vj(l:List De)(hl:l.length<2^61)(ho:∀ x∈l,x.ok)(g:cu br l=0->(∀ d∈l,Zp d)/\yP l<=100000/\lL l<=99998)(H:DH) :
 ∃ st,am 33 [.agg [.row 14 (l.map bF)]] H=bif cu br l != 0 then ret (.tuple [.nilptr,.i (cu br l)]) H else ret (.tuple [.ptr (H.length+5) 0,.i 0]) (PX H st (cU l) []):=by
 have hc:=WN ZR l (by omega) ho H;cases a:cu br l != 0 with
 |true =>refine⟨0,ev (f33 _ _ _) ?_⟩;simp only[ai hc,dX,a,aq,ge]
 |false =>
  have h0:cu br l=0:=by simpa using a
  obtain⟨j,k,b⟩:=g h0;obtain⟨st,h⟩:=zL H [] l hl l [] 0 ⟨l,[],[],[],[],[]⟩ rfl j (by simpa using k) (by simpa using b) (by simpa using b) (by simpa using b);have hb:Jg (kN l):=BI l 0 _ (fun c hc=>by cases hc);have e:(kN l).cs.length<2^61:=by have:=Jt l 0 ⟨l,[],[],[],[],[]⟩;simp only[aiC]at this;unfold kN;omega
  have m:=Dp H [] st (kN l).cs e (kN l).cs [] (kN l) rfl rfl hb;have n:PX H 0 ⟨l,[],[],[],[],[]⟩ []=H++[.map []]++[.buf 11 true false []]++[.buf 7 true false []]++[.buf 1 true false []]++[.buf 1 true false []]++[.cells 0 [.row 14 (l.map bF),.buf 11 (H.length+1) 0,.buf 7 (H.length+2) 0,.buf 1 (H.length+3) 0,.buf 1 (H.length+4) 0,.map H.length]]:=by simp[PX,PL,mC,nC]
  have f:=h.trans m;rw[n]at f;refine⟨st,ev (f33 _ _ _) ?_⟩;simp only[ai hc,dX,a,aq,ge,TD];simp only[aae,aaQ,aby,ajE]at f ⊢;exact f.trans rfl
mutual
def Fi{kind:af->Int}:∀ e:Ex,fq kind e=true->Kd e
 |.mk k m n a xs ps,h=>by simp only[fq,abA]at h;obtain⟨b,_,_,c⟩:=h;rw[Kd];refine⟨fun hk d=>?_,MB xs b⟩;subst d;rcases hk with rfl|rfl<;>simp[jm]at c
def MB{kind:af->Int}:∀ l:List Ex,gq kind l=true->Fh l
 |[],_=>by simp[Fh]
 |x::r,h=>by simp only[gq,abA]at h;rw[Fh];exact⟨Fi x h.1,MB r h.2⟩
end
mutual
def YN:∀(e:Ex) (p:Nat),CI e p<=100->hU e<=xI e p
 |.mk k m n a xs ps,p,h=>by
  rw[CI]at h;rw[xI,hU];cases b:decide (p>100)with
  |true =>rw[b]at h;have:=aiF b;simp only[ge]at h;omega
  |false =>rw[b]at h;simp only[TD]at h ⊢;have:=EH xs (p+1) (by omega);omega
def EH:∀(l:List Ex) (q:Nat),hC l q<=100->dZ l<=eE l q
 |[],_,_=>by simp[dZ]
 |x::r,q,h=>by rw[hC]at h;have h1:=YN x q (by omega);have h2:=EH r q (by omega);rw[dZ,eE];omega
end
def Hb:∀ l:List Fu,xC l=dZ (l.map (·.b))
 |[]=>by simp[xC,dZ]
 |f::r=>by rw[xC,aeL,dZ,Hb r]
def Hc(e:Ex):dZ [e]=hU e:=by simp[dZ]
def Ut(d:De):Qm d=dZ (cV d):=by
 unfold Qm cV;by_cases a:d.k=3
 ·simp[a,Hb]
 ·by_cases b:d.k=4
  ·simp[b,Hc]
  ·by_cases c:d.k=5
   ·simp[c,Hc]
   ·simp only[aju a,aju b,aju c,TD,dZ,aeD a,aeD (not_or.2 ⟨b,c⟩)]
def LN:∀ l:List De,nh l<=100->yP l<=ig l
 |[],_=>by simp[yP]
 |d::r,h=>by rw[nh]at h;have h1:=LN r (by omega);have h2:=EH (cV d) 1 (by unfold Ph at h;omega);rw[yP,ig,Ut,KG];omega
def RE{kind:af->Int}(d:De)(h:dE kind d=true):Zp d/\Cc d<=16:=by
 unfold dE at h;by_cases a:d.k=1
 ·have:d.fs=[]:=by simp[a]at h;exact h.2.2.2.2
  exact⟨⟨by simp[this],fun h=>by omega,fun h=>by omega⟩,by simp[Cc,a]⟩
 by_cases c:d.k=2
 ·have:d.fs=[]:=by simp[c]at h;exact h.2.2.2.2
  exact⟨⟨by simp[this],fun h=>by omega,fun h=>by omega⟩,by simp[Cc,c]⟩
 by_cases e:d.k=3
 ·simp[e]at h;obtain⟨_,_,_,_,_,hl,j⟩:=h;exact⟨⟨by omega,fun _ f hm=>Fi f.b (by have:=j f hm;simp only[mU,abA]at this;exact this.2.2),fun h=>by omega⟩,by simp[Cc,e];omega⟩
 by_cases g:d.k=4
 ·simp[g]at h;have:d.fs=[]:=h.2.2.2.2;exact⟨⟨by simp[this],fun h=>by omega,fun _=>Fi _ h.2.2.2.1⟩,by simp[Cc,g]⟩
 by_cases i:d.k=5
 ·simp[i]at h;have:d.fs=[]:=h.2.2.2.2;exact⟨⟨by simp[this],fun h=>by omega,fun _=>Fi _ h.2.2.2.1⟩,by simp[Cc,i]⟩
 simp[a,c,e,g,i]at h
def MI{kind:af->Int}:∀ l:List De,l.all (dE kind)=true->lL l<=16*l.length
 |[],_=>by simp[lL]
 |d::r,h=>by rw[ajb,abA]at h;have h1:=(RE d h.1).2;have h2:=MI r h.2;rw[lL,aeJ];omega
def ku{kind:af->Int}{l:List De}(h:cu kind l=0):nh l<=100/\l.length<=60/\ig l<=2000/\l.all (dE kind)=true:=by unfold cu at h;cases a:decide (nh l>100)<;>cases b:decide (l.length>60)<;>cases c:decide (ig l>2000)<;>cases d:l.all (dE kind)<;>simp[a,b,c,d]at h;have a1:=akw a;have a2:=akw b;have a3:=akw c;exact⟨by omega,by omega,by omega,rfl⟩
def sr{kind:af->Int}{l:List De}(h:cu kind l=0):(∀ d∈l,Zp d)/\yP l<=2000/\lL l<=960:=by obtain⟨b,h2,h3,a⟩:=ku h;have a1:=LN l b;have a2:=MI l a;exact⟨fun d c=>(RE d (aiX.1 a d c)).1,by omega,by omega⟩
def Zn(l:List De)(hl:l.length<2^61)(ho:∀ x∈l,x.ok)(H:DH) :
 ∃ st,am 33 [.agg [.row 14 (l.map bF)]] H=bif cu br l != 0 then ret (.tuple [.nilptr,.i (cu br l)]) H else ret (.tuple [.ptr (H.length+5) 0,.i 0]) (PX H st (cU l) []) :=
 Vj l hl ho (fun h=>by obtain⟨a,b,c⟩:=sr h;exact⟨a,by omega,by omega⟩) H
def acV(o n i:Nat)(H:DH)(κ:D->au):cH ab 88 (.bptr o n i 0) H κ=ew H o n fun _ _ _ l=>ba l i fun cs=>cR ab 88 cs 0 κ:=by kernel_rfl
def afz(a b c d e f g h i j k:D)(κ:D->au):cR ab 88 [a,b,c,d,e,f,g,h,i,j,k] 0 κ=κ (.agg [a,b,c,d,e,f,g,h,i,j,k]):=by kernel_rfl
def afr(l m n o p q r s t u z10 a b c d e f g h i j k:D)(κ:List D->au):aE [l,m,n,o,p,q,r,s,t,u,z10] 0 [a,b,c,d,e,f,g,h,i,j,k] κ=κ [a,b,c,d,e,f,g,h,i,j,k]:=rfl
def aig(a b c d e f g h i j k:D)(κ:List D->au):aj 11 (.agg [a,b,c,d,e,f,g,h,i,j,k]) κ=κ [a,b,c,d,e,f,g,h,i,j,k]:=rfl
end Go.Proofs.YtpghiabjaglpgaaGreatDoor
