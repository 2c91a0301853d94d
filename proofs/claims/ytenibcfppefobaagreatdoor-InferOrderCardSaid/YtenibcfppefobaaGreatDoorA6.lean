/- Evaluators by which runs of the program are reckoned, that they are sound, and what the functions answer: part 6. No conditions beyond those of the row. -/
import Derived.Test.YtenibcfppefobaaGreatDoorA5
import Derived.Test.YtenibcfppefobaaGreatDoorCards
import Derived.Test.YtenibcfppefobaaGreatDoorTie
import Derived.WalkKit
import Derived.ProofKit
import Derived.Lay
import Derived.Deep.DeepHandedRow
set_option linter.all false
noncomputable section
set_option linter.all false
noncomputable section
namespace Go.Proofs.YtenibcfppefobaaGreatDoor
open Go.AI
abbrev mh:=List Nat->Option (ac×Nat)
def xV(n:ac)(ts:List mh):mh
 |[]=>some (n,ts.length)
 |k::p=>match ts[k]? with
  |some t=>t p
  |none=>none
theorem Kj{n m:ac}{ts us:List mh}(h:xV n ts=xV m us):n=m/\ts=us:=by
 have h0:=congrFun h []
 simp only[xV,Option.some.injEq,Prod.mk.injEq]at h0
 refine⟨h0.1,List.ext_getElem? fun k=>?_⟩
 rcases Nat.lt_or_ge k ts.length with q|q
 ·have q2:k<us.length:=by omega
  rw[List.getElem?_eq_getElem q,List.getElem?_eq_getElem q2]
  congr 1
  funext p
  have:=congrFun h (k::p)
  simpa[xV,List.getElem?_eq_getElem q,List.getElem?_eq_getElem q2]using this
 ·rw[List.getElem?_eq_none q,List.getElem?_eq_none (by omega)]
mutual
def Mr(isV:ac->Bool)(θ:ac->mh):Ty->mh
 |.mk n xs=>if isV n=true/\xs=[] then θ n else xV n (OV isV θ xs)
def OV(isV:ac->Bool)(θ:ac->mh):List Ty->List mh
 |[]=>[]
 |t::r=>Mr isV θ t::OV isV θ r
end
theorem DC(isV:ac->Bool)(θ:ac->mh):∀ l,OV isV θ l=l.map (Mr isV θ)
 |[]=>rfl
 |t::r=>by simp[OV,DC isV θ r]
theorem Br{isV:ac->Bool}{θ:ac->mh}{n:ac}{xs:List Ty}(h:isV n=false):Mr isV θ (.mk n xs)=xV n (xs.map (Mr isV θ)):=by
 rw[Mr,if_neg (fun q=>by rw[h]at q;cases q.1),DC]
theorem OW{isV:ac->Bool}{θ:ac->mh}{n:ac}(h:isV n=true):Mr isV θ (.mk n [])=θ n:=by
 rw[Mr,if_pos ⟨h,rfl⟩]
def En(isV:ac->Bool)(all:List Ty):Prop:=∃ θ:ac->mh,∀ t∈all,∀ t'∈all,Mr isV θ t=Mr isV θ t'
theorem OU{N:List bu}{T:List Ty}{isV:ac->Bool}(g:GN N T isV)(θ:ac->mh):Et N fun i=>Mr isV θ (nN T i):=fun i j x y hx hy vx vy e=>by
 simp only at e
 rw[g.con' hx vx,g.con' hy vy,Br (g.con i x hx vx).1,Br (g.con j y hy vy).1]at e
 obtain⟨e1,e2⟩:=Kj e
 exact⟨e1,by rw[List.map_map,List.map_map]at e2;exact e2⟩
section
variable(N:List bu)(L:Lk)
open Classical in
def SQ(i:Nat):Nat:=if h:∃ r n,Rt L i r n then h.choose else i
theorem EQ{L:Lk}{i r n:Nat}(h:Rt L i r n):SQ L i=r:=by
 have q:∃ r n,Rt L i r n:=⟨r,n,h⟩
 unfold SQ
 rw[dif_pos q]
 obtain⟨m,hm⟩:=q.choose_spec
 exact(hm.det h).1
def Qo:List Nat->Nat->Option (ac×Nat)
 |[],i=>(N[SQ L i]?).map fun y=>(y.n,y.a.length)
 |k::p,i=>match(N[SQ L i]?).bind fun y=>y.a[k]? with
  |some c=>Qo p c
  |none=>none
def Nr(i:Nat):mh:=fun p=>Qo N L p i
end
variable{N:List bu}{L:Lk}
theorem Rz{i:Nat}{y:bu}(h:N[SQ L i]? = some y):Nr N L i=xV y.n (y.a.map (Nr N L)):=by
 funext p
 cases p with
 |nil=>simp[Nr,Qo,xV,h]
 |cons k p =>
  show Qo N L (k::p) i=_
  rw[Qo,h]
  simp only[Option.bind_some,xV,List.getElem?_map]
  cases y.a[k]? with
  |none=>rfl
  |some c=>rfl
theorem Di(hw:Wf L)(hl:∀ i j:Nat,L[i]? = some (some j)->j<L.length):dF L (Nr N L):=fun i j h=>by
 obtain⟨r,n,k⟩:=hw j (hl i j h)
 have e1:=EQ k
 have e2:=EQ (.s h k)
 funext p
 cases p with
 |nil=>simp only[Nr,Qo,e1,e2]
 |cons q p=>simp only[Nr,Qo,e1,e2]
theorem OI(hc:Eu N L [])(hw:Wf L)(hl:∀ i j:Nat,L[i]? = some (some j)->j<L.length)(hN:N.length=L.length){i:Nat}{x:bu}(hx:N[i]? = some x)(hv:x.v=false):Nr N L i=xV x.n (x.a.map (Nr N L)):=by
 obtain⟨r,n,k⟩:=hw i (by rw[<- hN];exact aB hx)
 obtain⟨y,a1,a2,a3,a4,a5⟩:=hc.rt k x hx hv
 rw[Rz (y:=y) (by rw[EQ k];exact a1),a5 _ _ (Di hw hl),a3]
open Classical in
def Us(N:List bu)(L:Lk)(n:ac):mh:=if h:∃ i,∃ x:bu,N[i]? = some x/\x.v=true/\x.n=n then Nr N L h.choose else fun _=>none
theorem Mq{T:List Ty}{isV:ac->Bool}(g:GN N T isV)(hc:Eu N L [])(hw:Wf L)(hl:∀ i j:Nat,L[i]? = some (some j)->j<L.length)(hN:N.length=L.length)(i:Nat)(hi:i<N.length):Mr isV (Us N L) (nN T i)=Nr N L i:=by
 induction i using Nat.strongRecOn with
 |ind i ih =>
  have hx:=List.getElem?_eq_getElem hi
  generalize N[i]=x at hx
  cases hv:x.v with
  |true =>
   obtain⟨a1,a2,_⟩:=g.var i x hx hv
   rw[fG a1,OW a2]
   have q:∃ j,∃ y:bu,N[j]? = some y/\y.v=true/\y.n=x.n:=⟨i,x,hx,hv,rfl⟩
   unfold Us
   rw[dif_pos q]
   obtain⟨y,b1,b2,b3⟩:=q.choose_spec
   rw[g.inj _ _ _ _ b1 hx b2 hv b3]
  |false =>
   rw[g.con' hx hv,Br (g.con i x hx hv).1,OI hc hw hl hN hx hv,List.map_map]
   congr 1
   refine List.map_congr_left fun a ha=>?_
   have:=(g.con i x hx hv).2.1 a ha
   exact ih a this (by omega)
inductive BX:Ty->Ty->Prop
 |refl (t:Ty):BX t t
 |step {s u:Ty} {n:ac} {xs:List Ty}:u∈xs->BX s u->BX s (.mk n xs)
def rA(all:List Ty)(u:Ty):Prop:=∃ t∈all,BX u t
theorem BX.kid{n:ac}{ts:List Ty}{t c:Ty}(h:BX (.mk n ts) t)(hc:c∈ts):BX c t:=by
 generalize e:Ty.mk n ts=w at h
 induction h with
 |refl=>subst e;exact .step hc (.refl _)
 |step h1 h2 ih=>exact .step h1 ih
theorem BX.node{T:List Ty}{isV:ac->Bool}(g:GN N T isV){u t:Ty}(h:BX u t):∀ i,i<N.length->nN T i=t->∃ j,j<N.length/\nN T j=u:=by
 induction h with
 |refl=>exact fun i hi e=>⟨i,hi,e⟩
 |step h1 _ ih =>
  intro i hi e
  have hx:=List.getElem?_eq_getElem hi
  generalize N[i]=x at hx
  cases hv:x.v with
  |true =>
   rw[fG (g.var i x hx hv).1]at e
   injection e with _ e
   rw[<- e]at h1;cases h1
  |false =>
   rw[g.con' hx hv]at e
   injection e with _ e
   rw[<- e]at h1
   obtain⟨a,ha,rfl⟩:=List.mem_map.1 h1
   have:=(g.con i x hx hv).2.1 a ha
   exact ih a (by omega) rfl
end Go.Proofs.YtenibcfppefobaaGreatDoor
set_option linter.all false
noncomputable section
namespace Go.Proofs.YtenibcfppefobaaGreatDoor
open Go.AI
structure Iq(kind:ac->Int)(all:List Ty)(μ:ac->Option Ty):Prop where
 vs:Vs (fun n=>kind n==4) μ
 eq:∀ t∈all,∀ t'∈all,sub μ t=sub μ t'
 gen:∀ s,Vs (fun n=>kind n==4) s->(∀ t∈all,∀ t'∈all,sub s t=sub s t')->∀ u,rA all u->sub s (sub μ u)=sub s u
theorem WC{kind:ac->Int}{N:List bu}{L:Lk}{T:List Ty}{vs ks:List Nat}{all:List Ty}{rt:Nat->Bool}{ty:Nat->Ty}(gn:GN N T (fun n=>kind n==4))(hc:Eu N L [])(hl:N.length=L.length)
 (hTr:∀ i,i<N.length->Tr N L i (ty i)) (vs1:∀(i:Nat) (x:bu),N[i]? = some x->x.v=true->i∈vs) (vs2:∀ i∈vs,∃ x,N[i]? = some x/\x.v=true) (hk:∀ a∈ks,a<N.length) (hT:ks.map (fun a=>T[a]?)=all.map some)
 (heq:∀ f:Nat->Ty,dF L f->∀ a∈ks,∀ b∈ks,f a=f b) (hgen:∀ f:Nat->Ty,Et N f->(∀ a∈ks,∀ b∈ks,f a=f b)->dF L f)
 (hcv:Cv [] N ks) (hrt:∀ i,i<N.length->(rt i=true↔L[i]? = some none)) :
 Iq kind all (aE (pE N rt ty vs))/\(∀ v∈vs,rt v=false->∃ n,(kind n==4)=true/\rA all (.mk n [])/\sub (aE (pE N rt ty vs)) (.mk n [])=ty v)/\∀ n,(kind n==4)=true->rA all (.mk n [])->sub (aE (pE N rt ty vs)) (.mk n [])=.mk n []\/∃ v∈vs,rt v=false/\sub (aE (pE N rt ty vs)) (.mk n [])=ty v:=by
 have hTe:∀ i,i<N.length->pR N L i=ty i:=fun i hi=>iw (hTr i hi)
 have vlt:∀ v∈vs,v<N.length:=fun v h=>by obtain⟨x,hx,_⟩:=vs2 v h;exact aB hx
 have nmv:∀(v:Nat) (x:bu),N[v]? = some x->iS N v=x.n:=fun v x h=>by simp[iS,h]
 have inj:∀ v∈vs,∀ w∈vs,iS N v=iS N w->v=w:=fun v hv w hw e=>by
  obtain⟨x,hx,vx⟩:=vs2 v hv
  obtain⟨y,hy,vy⟩:=vs2 w hw
  rw[nmv v x hx,nmv w y hy]at e
  exact gn.inj v w x y hx hy vx vy e
 have kv:∀ v∈vs,(kind (iS N v)==4)=true:=fun v hv=>by
  obtain⟨x,hx,vx⟩:=vs2 v hv
  rw[nmv v x hx]
  exact(gn.var v x hx vx).2.1
 have hVs:Vs (fun n=>kind n==4) (aE (pE N rt ty vs)):=fun n t h=>by
  obtain⟨w,a1,_,a2,_⟩:=mO h
  rw[<- a2];exact kv w a1
 have sol:Nh N L (fun n=>kind n==4) (aE (pE N rt ty vs)):=⟨fun i x hx vx=>by
  have hi:=aB hx
  rw[<- nmv i x hx,sf inj i (vs1 i x hx vx)]
  cases q:rt i with
  |true=>rw[if_pos rfl,if_pos ((hrt i hi).1 q)]
  |false =>
   rw[if_neg (by simp),if_neg (fun k=>by rw[(hrt i hi).2 k]at q;cases q),hTe i hi],hVs⟩
 have ofAll:∀ t∈all,∃ k∈ks,nN T k=t/\k<N.length:=fun t ht=>by
  have:some t∈ks.map (fun a=>T[a]?):=by rw[hT];exact List.mem_map_of_mem ht
  obtain⟨k,h1,h2⟩:=List.mem_map.1 this
  exact⟨k,h1,fG h2,hk k h1⟩
 have toAll:∀ k∈ks,nN T k∈all:=fun k hk=>by
  have:T[k]?∈all.map some:=by rw[<- hT];exact List.mem_map_of_mem (f:=fun a=>T[a]?) hk
  obtain⟨t,h1,h2⟩:=List.mem_map.1 this
  rw[fG h2.symm];exact h1
 have hT':∀ i,i<L.length->∃ t,Tr N L i t:=fun i hi=>⟨_,hTr i (by rw[hl];exact hi)⟩
 have ap:∀ k,k<N.length->sub (aE (pE N rt ty vs)) (nN T k)=ty k:=fun k hk=>(sol.ap gn hc hT' hl k hk).trans (hTe k hk)
 have node:∀ u,rA all u->∃ j,j<N.length/\nN T j=u:=fun u ⟨t,ht,hu⟩=>by
  obtain⟨k,_,e,hk⟩:=ofAll t ht
  exact hu.node gn k hk e
 have isSub:∀ i,i<N.length->rA all (nN T i):=hcv.all (fun i x h=>gn.kid i x h) (fun a ha=>⟨_,toAll a ha,.refl _⟩) fun i x hx ⟨t,ht,hu⟩ a ha=>by
  cases vx:x.v with
  |true=>rw[(gn.var i x hx vx).2.2]at ha;cases ha
  |false =>
   rw[gn.con' hx vx]at hu
   exact⟨t,ht,hu.kid (List.mem_map_of_mem ha)⟩
 refine⟨⟨hVs,fun t ht t' ht'=>?_,fun s hs he u hu=>?_⟩,fun v hv q=>?_,fun n hn hu=>?_⟩
 ·obtain⟨k,a1,rfl,a2⟩:=ofAll t ht
  obtain⟨k',b1,rfl,b2⟩:=ofAll t' ht'
  rw[ap k a2,ap k' b2,<- hTe k a2,<- hTe k' b2]
  exact heq _ (rK hT') k a1 k' b1
 ·obtain⟨j,hj,rfl⟩:=node u hu
  rw[ap j hj]
  have hr:dF L fun i=>sub s (nN T i):=hgen _ (gn.mod hs).comp fun a ha b hb=>he _ (toAll a ha) _ (toAll b hb)
  exact Tr.gen gn hs hr (hTr j hj)
 ·obtain⟨x,hx,vx⟩:=vs2 v hv
  obtain⟨a1,a2,_⟩:=gn.var v x hx vx
  have e:=fG a1
  refine⟨x.n,a2,by rw[<- e];exact isSub v (aB hx),?_⟩
  rw[<- e];exact ap v (aB hx)
 ·obtain⟨j,hj,e⟩:=node _ hu
  have hx:=List.getElem?_eq_getElem hj
  generalize N[j]=x at hx
  cases vx:x.v with
  |false =>
   rw[gn.con' hx vx]at e
   injection e with e1 e2
   have:=(gn.con j x hx vx).1
   rw[e1,hn]at this;cases this
  |true =>
   cases q:rt j with
   |true =>
    refine .inl ?_
    have h1:=ap j hj
    rw[e]at h1
    rw[h1,<- e,fG (gn.var j x hx vx).1,<- hTe j hj]
    exact iw (.var (.z ((hrt j hj).1 q)) hx vx)
   |false=>exact .inr ⟨j,vs1 j x hx vx,q,by rw[<- e];exact ap j hj⟩
end Go.Proofs.YtenibcfppefobaaGreatDoor
set_option linter.all false
noncomputable section
namespace Go.Proofs.YtenibcfppefobaaGreatDoor
open Go.AI
def Wc(kind:ac->Int)(all:List Ty):Prop:=∀ s,Vs (fun n=>kind n==4) s->¬ ∀ t∈all,∀ t'∈all,sub s t=sub s t'
def SD(t:Ty):Prop:=2000<bL t\/100<xQ t
def Ng(kind:ac->Int)(all:List Ty)(w:D):Prop :=
 (w=.tuple [.row 3 [],.i 39]/\En (fun n=>kind n==4) all/\∃ μ,Iq kind all μ/\∃ n,(kind n==4)=true/\rA all (.mk n [])/\SD (sub μ (.mk n [])))\/(w=.tuple [.row 3 [],.i 30]/\¬ En (fun n=>kind n==4) all)\/(w=.tuple [.row 3 [],.i 31]/\En (fun n=>kind n==4) all/\Wc kind all) \/
 ∃ bs:List (ac×Ty),w=.tuple [.row 3 (bs.map tK),.i 0]/\SM kind all bs/\Iq kind all (aE bs)/\En (fun n=>kind n==4) all/\∀ n,(kind n==4)=true->rA all (.mk n [])->¬ SD (sub (aE bs) (.mk n []))
theorem GT.nil{isV:ac->Bool}(H:DH):GT isV (H++[.map []]++[.cells 0 [.map H.length,.nilrow]]) (H.length+1) H.length .nilrow [] [] [] [] []:=by
 have h1:(H++[DB.map []]++[.cells 0 [.map H.length,.nilrow]])[H.length+1]? = some (.cells 0 [.map H.length,.nilrow]):=by
  have:=bD (H++[DB.map []]) (.cells 0 [.map H.length,.nilrow])
  simpa using this
 have no:∀(i:Nat) (x:bu),([]:List bu)[i]? = some x->False:=fun i x h=>by simp at h
 exact⟨rfl,List.nodup_nil,fun i x h=>(no i x h).elim,fun i x h=>(no i x h).elim,⟨rfl,fun i x h=>(no i x h).elim,fun i x h=>(no i x h).elim,fun i _ x _ h=>(no i x h).elim⟩,⟨0,h1⟩,.inl ⟨rfl,rfl⟩,fun _ _ h=>(by cases h),jk (bD _ _),fun i x h=>(no i x h).elim,fun _ h=>(nomatch h),fun h=>(nomatch h),fun _ h=>(nomatch h),Nat.le_refl _,List.nodup_nil⟩
theorem NL{os:List Nat}{N:List bu}{d:D}{p:Nat}{ks:List Nat}(h16:ks.length<=16)(hk:∀ a∈ks,a<N.length){H:DH}{L:Lk}(g:ct H os N L)(hw:Wf L)(hd:bK H d (ks.map (oN os))) :
 ∃ q H' L' E,af ak 8 200017 [.g (.ptr p 0),.g d,.g d,.n (ks.length:Nat),.n 0] [] H=(match q with|true=>Iy d p H'|false=>ret (.tuple [.row 3 [],.i 30]) H')/\ct H' os N L'/\US N L E q L'/\uK H H' os/\∀(α:Type) (f:Nat->α),(∀ p∈E,f p.1=f p.2)↔∀ a∈ks,∀ b∈ks,f a=f b:=by
 cases ks with
 |nil =>
  refine⟨true,H,L,[],ez (sG) ?_,g,.nil hw,.refl _ _,fun α f=>by simp⟩
  have hlt:decide ((0:Int)<((([]:List Nat).length:Nat):Int))=false:=by simp
  rw[hlt,cond_false]
  rfl
 |cons a0 r =>
  obtain⟨q,H',L',r1,r2,r3,r4⟩:=Ky (p:=p) h16 (a0:=a0) rfl hk (a0::r) [] H L g hw hd rfl
  refine⟨q,H',L',_,r1,r2,r3,r4,fun α f=>⟨fun h a ha b hb=>?_,fun h p hp=>?_⟩⟩
  ·have h1:=h (a0,a) (List.mem_map_of_mem ha)
   have h2:=h (a0,b) (List.mem_map_of_mem hb)
   exact h1.symm.trans h2
  ·obtain⟨a,ha,rfl⟩:=List.mem_map.1 hp
   exact h a0 List.mem_cons_self a ha
theorem Kx{kind:ac->Int}(K:ua kind)(k1:(kind [45,62]==4)=false)(k2:(kind [44]==4)=false)(all:List Ty)(H:DH)(h16:all.length<=16)(h60:bL.tszs all<=2000)(hsz:∀ t∈all,aS kind t≠0) :
 ∃ w H',az 8 [.row 2 (aI all)] H=ret w H'/\Ng kind all w:=by
 have hV:pQ kind all:=pP.2 fun t ht=>kY (hsz t ht)
 obtain⟨X,z1⟩:=EH K all h16 all [] H rfl (Af hV)
 rw[if_neg (fun⟨t,h,e⟩=>hsz t h e)]at z1
 obtain⟨H1,d,dl,os,bs,N,T,vs,ks,w1,g1,hd,hk,hT,hcv,hNl,_⟩:=Kz K all h16 0 ((H++X).length+1) (H++X).length (Nat.zero_le _) (Nat.zero_le _) all [] _ .nilrow .nilrow [] [] [] [] [] [] (GT.nil (H++X)) (.inl ⟨rfl,rfl⟩) (fun _ h=>nomatch h) rfl (fun _ _ h=>by cases h) (fun _ _ h=>by cases h) (Nat.zero_le _) rfl (Ez k1 k2 hV) (by simp only[List.length_nil];omega) (fun j _ h=>by simp at h)
 simp only[List.length_nil,Nat.zero_add]at hNl
 have hkl:ks.length=all.length:=by have:=congrArg List.length hT;simpa using this
 obtain⟨g2,wf2,cl2⟩:=g1.gr
 obtain⟨q,H2,L2,E,w2,g3,us,l3,hE⟩:=NL (p:=(H++X).length+1) (by rw[hkl];exact h16) hk g2 wf2 hd
 have gn:=g1.gn
 have pre:∀ z,af ak 8 200017 [.g (.ptr ((H++X).length+1) 0),.g d,.g d,.n (ks.length:Nat),.n 0] [] H1=z->az 8 [.row 2 (aI all)] H=z:=fun z hz=>by
  refine ev (f8) ?_
  have e1:decide (((aI all).length:Int)>16)=false:=by rw[bf];simp;omega
  rw[e1,cond_false,bf]
  refine Eq.trans z1 ?_
  refine Eq.trans w1 ?_
  rw[<- hkl]
  exact hz
 have hL0:∀(α:Type) (f:Nat->α),dF (N.map fun _=>(none:Option Nat)) f:=fun α f i j h=>by
  rw[List.getElem?_map]at h
  cases q:N[i]? with
  |none=>rw[q]at h;cases h
  |some y=>rw[q]at h;cases h
 have toAll:∀ k∈ks,nN T k∈all:=fun k hk=>by
  have:T[k]?∈all.map some:=by rw[<- hT];exact List.mem_map_of_mem (f:=fun a=>T[a]?) hk
  obtain⟨t,h1,h2⟩:=List.mem_map.1 this
  rw[fG h2.symm];exact h1
 have hgen:∀ f:Nat->Ty,Et N f->(∀ a∈ks,∀ b∈ks,f a=f b)->q=true/\dF L2 f:=fun f h1 h2=>us.snd Ty f h1 (hL0 _ _) ((hE Ty f).2 h2)
 cases q with
 |false =>
  refine⟨_,H2,pre _ w2,.inr (.inl ⟨rfl,fun⟨θ,he⟩=>?_⟩)⟩
  have:=(us.snd mh _ (OU gn θ) (hL0 _ _) ((hE mh _).2 fun a ha b hb=>he _ (toAll a ha) _ (toAll b hb))).1
  cases this
 |true =>
  have hv:∀(i:Nat) (x:bu),N[i]? = some x->x.v=true->x.a=[]:=fun i x h k=>(gn.var i x h k).2.2
  have hd2:=hd.els g2 l3
  obtain⟨c1,c2⟩:=us.cpl rfl
  have cl3:Eu N L2 []:=c2 [] fun i j x h=>by
   have h:=h
   rw[List.getElem?_map]at h
   cases q:N[i]? with
   |none=>rw[q]at h;cases h
   |some y=>rw[q]at h;cases h
  have hlk2:∀ i j:Nat,L2[i]? = some (some j)->j<L2.length:=fun i j h=>by rw[g3.lenL];exact g3.lk i j h
  have ts:En (fun n=>kind n==4) all:=⟨Us N L2,fun t ht t' ht'=>by
   have of:∀ t∈all,∃ k∈ks,nN T k=t:=fun t ht=>by
    have:some t∈ks.map (fun a=>T[a]?):=by rw[hT];exact List.mem_map_of_mem ht
    obtain⟨k,h1,h2⟩:=List.mem_map.1 this
    exact⟨k,h1,fG h2⟩
   obtain⟨k,h1,rfl⟩:=of t ht
   obtain⟨k',h1',rfl⟩:=of t' ht'
   rw[Mq gn cl3 us.wf hlk2 g3.lenL.symm k (hk k h1),Mq gn cl3 us.wf hlk2 g3.lenL.symm k' (hk k' h1')]
   exact(hE mh _).1 (c1 mh _ (Di us.wf hlk2)).2 k h1 k' h1'⟩
  obtain⟨q2,H3,L3,f1,g4,q4,l4,n1,n2⟩:=TB g3 us.wf hv (by rw[hkl];exact h16) hd2 hk
  cases q2 with
  |false =>
   refine⟨.tuple [.row 3 [],.i 31],H3,pre _ ?_,.inr (.inr (.inl ⟨rfl,ts,fun s hs he=>?_⟩))⟩
   ·rw[w2]
    show Iy d _ H2=_
    rw[Iy,ao f1]
    rfl
   ·have:=n1 _ (gn.mod hs) (hgen _ (gn.mod hs).comp fun a ha b hb=>he _ (toAll a ha) _ (toAll b hb)).2
    cases this
  |true =>
   have hl:N.length=L3.length:=g4.lenL.symm
   have cl4:Eu N L3 []:=q4.cl [] cl3
   have wf4:Wf L3:=us.wf.eqv q4
   have hlk:∀ i j:Nat,L3[i]? = some (some j)->j<L3.length:=fun i j h=>by rw[<- hl];exact g4.lk i j h
   have hTr:∀ i,i<N.length->∃ t,Tr N L3 i t:=hcv.all (fun i x h=>gn.kid i x h) (fun a ha=>n2 rfl a ha) fun i x hx ⟨t,ht⟩=>ht.kid cl4 wf4 hlk hv hx
   have hTr':∀ i,i<N.length->Tr N L3 i (pR N L3 i):=fun i hi=>by
    obtain⟨t,ht⟩:=hTr i hi
    rw[iw ht];exact ht
   have hP:∀ i,i<N.length->tO kind (nN T i):=hcv.all (fun i x h=>gn.kid i x h) (fun a ha=>pP.1 hV _ (toAll a ha)) fun i x hx h a ha=>by
    cases vx:x.v with
    |true=>rw[hv i x hx vx]at ha;cases ha
    |false =>
     rw[gn.con' hx vx,tO]at h
     exact pP.1 h.2 _ (List.mem_map_of_mem ha)
   have hX:∀(i:Nat) (x:bu),N[i]? = some x->oi kind x.n x.a.length=true:=fun i x hx=>by
    have h:=hP i (aB hx)
    cases vx:x.v with
    |true =>
     rw[fG (gn.var i x hx vx).1,tO]at h
     rw[hv i x hx vx];exact h.1
    |false =>
     rw[gn.con' hx vx,tO]at h
     simpa using h.1
   have rtE:∀ i,i<N.length->((fun i=>decide (L3[i]? = some none)) i=true↔L3[i]? = some none):=fun i _=>by simp
   have vlt:∀ v∈vs,v<N.length:=fun v h=>by obtain⟨x,hx,_⟩:=g1.vs2 v h;exact aB hx
   obtain⟨s,hp⟩:=g1.pg
   have p3:H3[(H++X).length+1]? = some (.cells s [.map (H++X).length,dl]):=by
    have e2:=l3.at' _ (aB hp) g1.np
    have e3:=l4.at' _ (Nat.lt_of_lt_of_le (aB hp) l3.len) g1.np
    rw[e3,e2,hp]
   have dl3:bK H3 dl (vs.map (oN os)):=(g1.al.els g2 l3).els g3 l4
   have bd:=EI (d:=dl) (all:=vs) (by have:=g1.vl;omega) (fun i=>decide (L3[i]? = some none)) (pR N L3) hv vlt vs [] H3 L3 [] .nilrow g4 hTr' rtE dl3 (.inl ⟨rfl,rfl⟩) rfl (Nat.le_refl _)
   have fin:∀ z,af ak 8 200026 [.g .nilrow,.g dl,.n (vs.length:Nat),.n 0] [] H3=z->az 8 [.row 2 (aI all)] H=z:=fun z hz=>pre _ (by
    rw[w2]
    show Iy d _ H2=_
    rw[Iy,ao f1]
    simp only[ck,Bool.not_true,ai,cond_false]
    rw[ae p3,aA,aj,dl3.len,List.length_map]
    exact hz)
   have heq:∀ f:Nat->Ty,dF L3 f->∀ a∈ks,∀ b∈ks,f a=f b:=fun f hf a ha b hb=>(hE Ty f).1 (c1 Ty f ((q4.rs Ty f).2 hf)).2 a ha b hb
   have hgn:∀ f:Nat->Ty,Et N f->(∀ a∈ks,∀ b∈ks,f a=f b)->dF L3 f:=fun f h1 h2=>(q4.rs Ty f).1 (hgen f h1 h2).2
   obtain⟨mg,m1,m2⟩:=WC gn cl4 hl hTr' g1.vs1 g1.vs2 hk hT heq hgn hcv rtE
   rcases bd with⟨⟨H4,bd⟩,v,hv1,hv2,hv3⟩|⟨⟨H4,bd⟩,hb⟩
   ·obtain⟨n,n3,n4,n5⟩:=m1 v hv1 hv2
    exact⟨_,H4,fin _ bd,.inl ⟨rfl,ts,_,mg,n,n3,n4,by rw[n5];exact hv3⟩⟩
   ·refine⟨_,H4,fin _ bd,.inr (.inr (.inr ⟨_,rfl,?_,?_,ts,?_⟩))⟩
    ·rw[List.nil_append]
     exact Wz gn cl4 hl hTr' g1.vs1 g1.vs2 g1.vn hk hT hX heq hgn (by have:=g1.vl;omega) rtE hb
    ·rw[List.nil_append];exact mg
    ·rw[List.nil_append]
     intro n n3 n4
     rcases m2 n n3 n4 with e|⟨v,v1,v2,e⟩
     ·rw[e];simp[SD,bL,bL.tszs,xQ,me]
     ·have:=hb v v1 v2
      rw[e];unfold SD;omega
end Go.Proofs.YtenibcfppefobaaGreatDoor
set_option linter.all false
noncomputable section
namespace Go.Proofs.YtenibcfppefobaaGreatDoor
open Go.AI
mutual
theorem Ag(s:ac->Option Ty):∀ t,bL t<=bL (sub s t)/\xQ t<=xQ (sub s t)
 |.mk n xs=>by
  have h:=GQ s xs
  unfold sub
  split
  ·rename_i u _
   cases u
   simp only[bL,bL.tszs,xQ,me]
   omega
  ·simp only[bL,xQ]
   omega
theorem GQ(s:ac->Option Ty):∀ l,bL.tszs l<=bL.tszs (fT s l)/\me l<=me (fT s l)
 |[]=>by simp[fT]
 |t::r=>by
  have h1:=Ag s t
  have h2:=GQ s r
  simp only[fT,bL.tszs,me]
  omega
end
variable{kind:ac->Int}{all all':List Ty}(hm:∀ t,t∈all↔t∈all')
include hm
theorem En.mem(h:En (fun n=>kind n==4) all):En (fun n=>kind n==4) all':=by
 obtain⟨θ,h⟩:=h
 exact⟨θ,fun t ht t' ht'=>h t ((hm t).2 ht) t' ((hm t').2 ht')⟩
theorem Wc.no{μ:ac->Option Ty}(h:Wc kind all)(k:Iq kind all' μ):False :=
 h μ k.vs fun t ht t' ht'=>k.eq t ((hm t).1 ht) t' ((hm t').1 ht')
theorem rA.mem{u:Ty}(h:rA all u):rA all' u:=by
 obtain⟨t,ht,hu⟩:=h
 exact⟨t,(hm t).1 ht,hu⟩
theorem Iq.to{μ ν:ac->Option Ty}(h:Iq kind all μ)(k:Iq kind all' ν){u:Ty}(hu:rA all u):sub ν (sub μ u)=sub ν u :=
 h.gen ν k.vs (fun t ht t' ht'=>k.eq t ((hm t).1 ht) t' ((hm t').1 ht')) u hu
theorem Iq.fat{μ ν:ac->Option Ty}(h:Iq kind all μ)(k:Iq kind all' ν){u:Ty}(hu:rA all u)(hf:SD (sub μ u)):SD (sub ν u):=by
 have:=Ag ν (sub μ u)
 rw[h.to hm k hu]at this
 unfold SD at hf ⊢
 omega
omit hm in
theorem Ng.same(hm:∀ t,t∈all↔t∈all'){w w':D}(h:Ng kind all w)(k:Ng kind all' w'):(∃ e:Int,e≠0/\w=.tuple [.row 3 [],.i e]/\w'=.tuple [.row 3 [],.i e]) \/
 ∃ bs bs':List (ac×Ty),w=.tuple [.row 3 (bs.map tK),.i 0]/\w'=.tuple [.row 3 (bs'.map tK),.i 0]/\SM kind all bs/\SM kind all' bs'/\Iq kind all (aE bs)/\Iq kind all' (aE bs'):=by
 have hm':∀ t,t∈all'↔t∈all:=fun t=>(hm t).symm
 rcases h with⟨h1,h2,μ,h3,n,h4,h5,h6⟩|⟨h1,h2⟩|⟨h1,h2,h3⟩|⟨bs,h1,h2,h3,h4,h5⟩
 ·rcases k with⟨k1,k2,ν,k3,m,k4,k5,k6⟩|⟨k1,k2⟩|⟨k1,k2,k3⟩|⟨bs',k1,k2,k3,k4,k5⟩
  ·exact .inl ⟨39,by decide,h1,k1⟩
  ·exact(k2 (h2.mem hm)).elim
  ·exact(k3.no hm' h3).elim
  ·exact(k5 n h4 (h5.mem hm) (h3.fat hm k3 h5 h6)).elim
 ·rcases k with⟨k1,k2,ν,k3,m,k4,k5,k6⟩|⟨k1,k2⟩|⟨k1,k2,k3⟩|⟨bs',k1,k2,k3,k4,k5⟩
  ·exact(h2 (k2.mem hm')).elim
  ·exact .inl ⟨30,by decide,h1,k1⟩
  ·exact(h2 (k2.mem hm')).elim
  ·exact(h2 (k4.mem hm')).elim
 ·rcases k with⟨k1,k2,ν,k3,m,k4,k5,k6⟩|⟨k1,k2⟩|⟨k1,k2,k3⟩|⟨bs',k1,k2,k3,k4,k5⟩
  ·exact(h3.no hm k3).elim
  ·exact(k2 (h2.mem hm)).elim
  ·exact .inl ⟨31,by decide,h1,k1⟩
  ·exact(h3.no hm k3).elim
 ·rcases k with⟨k1,k2,ν,k3,m,k4,k5,k6⟩|⟨k1,k2⟩|⟨k1,k2,k3⟩|⟨bs',k1,k2,k3,k4,k5⟩
  ·exact(h5 m k4 (k5.mem hm') (k3.fat hm' h3 k5 k6)).elim
  ·exact(k2 (h4.mem hm)).elim
  ·exact(k3.no hm' h3).elim
  ·exact .inr ⟨bs,bs',h1,k1,h2,k2,h3,k3⟩
omit hm in
theorem yL{kind:ac->Int}(K:ua kind)(k1:(kind [45,62]==4)=false)(k2:(kind [44]==4)=false)(all:List Ty)(H:DH)(h16:all.length<=16)(hok:Ty.oks all)(h60:∀ t∈all,aS kind t<=60) :
 ∃ w H',az 8 [.row 2 (aI all)] H=ret w H'/\(((∃ t∈all,aS kind t=0)/\w=.tuple [.row 3 [],.i 32])\/((∀ t∈all,aS kind t≠0)/\Ng kind all w)):=by
 by_cases q:∃ t∈all,aS kind t=0
 ·obtain⟨X,z1⟩:=EH K all h16 all [] H rfl hok
  rw[if_pos q]at z1
  refine⟨_,H++X,ev (f8) ?_,.inl ⟨q,rfl⟩⟩
  ·have e1:decide (((aI all).length:Int)>16)=false:=by rw[bf];simp;omega
   rw[e1,cond_false,bf]
   exact z1
 ·have hsz:∀ t∈all,aS kind t≠0:=fun t h e=>q ⟨t,h,e⟩
  have hs:bL.tszs all<=60*all.length:=by
   clear h16 hok q
   induction all with
   |nil=>simp[bL.tszs]
   |cons x r ih =>
    have h1:=ih (fun t ht=>h60 t (List.mem_cons_of_mem _ ht)) (fun t ht=>hsz t (List.mem_cons_of_mem _ ht))
    have h2:=h60 x List.mem_cons_self
    rw[(ig (hsz x List.mem_cons_self)).2.2.1]at h2
    simp only[bL.tszs,List.length_cons]
    omega
  obtain⟨w,H',r1,r2⟩:=Kx K k1 k2 all H h16 (by omega) hsz
  exact⟨w,H',r1,.inr ⟨hsz,r2⟩⟩
end Go.Proofs.YtenibcfppefobaaGreatDoor
set_option linter.all false
noncomputable section
namespace Go.Proofs.YtenibcfppefobaaGreatDoor
open Go.AI
mutual
def lV(kind:ac->Int):Ty->List ac->List ac
 |.mk n xs,o=>pT kind xs (if(kind n==4)=true/\n∉o then o++[n] else o)
def pT(kind:ac->Int):List Ty->List ac->List ac
 |[],o=>o
 |t::r,o=>pT kind r (lV kind t o)
end
mutual
theorem rL{kind:ac->Int}:∀(t:Ty) (o:List ac),o.Nodup->(lV kind t o).Nodup/\(∀ n∈o,n∈lV kind t o)/\(lV kind t o).length<=o.length+bL t
 |.mk n xs,o,h=>by
  simp only[lV,bL]
  split
  ·rename_i q
   obtain⟨h1,h2,h3⟩:=nG xs (o++[n]) (by
    rw[List.nodup_append]
    exact⟨h,by simp,fun a ha b hb=>by simp at hb;subst hb;intro e;subst e;exact q.2 ha⟩)
   refine⟨h1,fun m hm=>h2 m (List.mem_append_left _ hm),?_⟩
   simp at h3;omega
  ·obtain⟨h1,h2,h3⟩:=nG xs o h
   exact⟨h1,h2,by omega⟩
theorem nG{kind:ac->Int}:∀(l:List Ty) (o:List ac),o.Nodup->(pT kind l o).Nodup/\(∀ n∈o,n∈pT kind l o)/\(pT kind l o).length<=o.length+bL.tszs l
 |[],o,h=>⟨h,fun _ h=>h,Nat.le_add_right _ _⟩
 |t::r,o,h=>by
  obtain⟨h1,h2,h3⟩:=rL t o h
  obtain⟨k1,k2,k3⟩:=nG r _ h1
  simp only[pT,bL.tszs]
  exact⟨k1,fun n hn=>k2 n (h2 n hn),by omega⟩
end
mutual
def PV(kind:ac->Int)(L:List ac):Ty->Prop
 |.mk n xs=>((kind n==4)=true->n∈L)/\IT kind L xs
def IT(kind:ac->Int)(L:List ac):List Ty->Prop
 |[]=>True
 |t::r=>PV kind L t/\IT kind L r
end
mutual
theorem Db{kind:ac->Int}{L L':List ac}(h:∀ n∈L,n∈L'):∀ t,PV kind L t->PV kind L' t
 |.mk n xs,k=>by
  simp only[PV]at k ⊢
  exact⟨fun q=>h n (k.1 q),zo h xs k.2⟩
theorem zo{kind:ac->Int}{L L':List ac}(h:∀ n∈L,n∈L'):∀ l,IT kind L l->IT kind L' l
 |[],_=>trivial
 |t::r,k=>⟨Db h t k.1,zo h r k.2⟩
end
mutual
theorem HH{kind:ac->Int}:∀(t:Ty) (o:List ac),o.Nodup->PV kind (lV kind t o) t
 |.mk n xs,o,h=>by
  simp only[PV,lV]
  split
  ·rename_i q
   have hn:(o++[n]).Nodup:=by
    rw[List.nodup_append]
    exact⟨h,by simp,fun a ha b hb=>by simp at hb;subst hb;intro e;subst e;exact q.2 ha⟩
   exact⟨fun _=>(nG xs _ hn).2.1 n (by simp),wm xs _ hn⟩
  ·rename_i q
   refine⟨fun k=>(nG xs o h).2.1 n ?_,wm xs o h⟩
   exact Classical.byContradiction fun hh=>q ⟨k,hh⟩
theorem wm{kind:ac->Int}:∀(l:List Ty) (o:List ac),o.Nodup->IT kind (pT kind l o) l
 |[],_,_=>trivial
 |t::r,o,h=>by
  have h1:=rL (kind:=kind) t o h
  exact⟨Db (nG r _ h1.1).2.1 t (HH t o h),wm r _ h1.1⟩
end
section
variable{kind:ac->Int}{σ τ:ac->Option Ty}(hσ:Vs (fun n=>kind n==4) σ)(hτ:Vs (fun n=>kind n==4) τ)
def Cf(τ:ac->Option Ty)(n:ac):ac:=match sub τ (.mk n [])with
 |.mk m _=>m
def Fx(σ τ:ac->Option Ty)(n:ac):Prop:=sub σ (sub τ (.mk n []))=.mk n []
include hσ hτ
theorem Fx.v{n:ac}(h:Fx σ τ n)(hn:(kind n==4)=true):(kind (Cf τ n)==4)=true/\sub τ (.mk n [])=.mk (Cf τ n) []:=by
 unfold Cf
 unfold Fx at h
 generalize sub τ (.mk n [])=w at h ⊢
 obtain⟨m,ys,rfl⟩:∃ m ys,w=.mk m ys:=by cases w;exact⟨_,_,rfl⟩
 cases ys with
 |cons y r =>
  unfold sub at h
  simp[fT]at h
 |nil =>
  refine⟨?_,rfl⟩
  rw[nI]at h
  cases e:σ m with
  |some u=>exact hσ m u e
  |none =>
   rw[e]at h
   injection h with h _
   rw[h];exact hn
omit hτ in
theorem Fx.inj{n m:ac}(hn:(kind n==4)=true)(hm:(kind m==4)=true)(h:Fx σ τ n)(k:Fx σ τ m)(e:Cf τ n=Cf τ m)(hτ:Vs (fun n=>kind n==4) τ):n=m:=by
 have h1:=(h.v hσ hτ hn).2
 have h2:=(k.v hσ hτ hm).2
 unfold Fx at h k
 rw[h1,e,<- h2,k]at h
 injection h with h _
 exact h.symm
theorem QW{L:List ac}{n:ac}(hL:∀ v∈L,(kind v==4)=true/\Fx σ τ v)(hn:(kind n==4)=true)(h:Fx σ τ n):Cf τ n∈L.map (Cf τ)↔n∈L:=by
 constructor
 ·intro q
  obtain⟨v,hv,e⟩:=List.mem_map.1 q
  obtain⟨v1,v2⟩:=hL v hv
  have:=Fx.inj hσ v1 hn v2 h e hτ
  subst this;exact hv
 ·exact fun q=>List.mem_map_of_mem q
mutual
theorem Kf:∀(t:Ty) (o:List ac),yC (fun n=>kind n==4) t->sub σ (sub τ t)=t->(∀ v∈o,(kind v==4)=true/\Fx σ τ v)->lV kind (sub τ t) (o.map (Cf τ))=(lV kind t o).map (Cf τ)/\∀ v∈lV kind t o,(kind v==4)=true/\Fx σ τ v
 |.mk n xs,o,hw,he,ho=>by
  simp only[yC]at hw
  cases hn:kind n==4 with
  |true =>
   obtain rfl:=hw.2.1 hn
   have hf:Fx σ τ n:=he
   obtain⟨f1,f2⟩:=hf.v hσ hτ hn
   rw[f2]
   simp only[lV,pT,hn,f1,true_and]
   have hm:=QW hσ hτ ho hn hf
   by_cases q:n∈o
   ·rw[if_neg (fun h=>h (hm.2 q)),if_neg (fun h=>h q)]
    exact⟨rfl,ho⟩
   ·rw[if_pos (fun h=>q (hm.1 h)),if_pos q]
    refine⟨by simp,fun v hv=>?_⟩
    rcases List.mem_append.1 hv with hv|hv
    ·exact ho v hv
    ·simp at hv;subst hv;exact⟨hn,hf⟩
  |false =>
   rw[fc (isV:=fun n=>kind n==4) hτ hn,fc (isV:=fun n=>kind n==4) hσ hn]at he
   injection he with _ he
   rw[List.map_map]at he
   rw[fc (isV:=fun n=>kind n==4) hτ hn]
   simp only[lV,hn,Bool.false_eq_true,false_and,if_false]
   exact GL xs o hw.2.2 (fun x hx=>by
    obtain⟨i,hi⟩:=List.getElem?_of_mem hx
    have:=congrArg (fun l=>l[i]?) he
    simp only[List.getElem?_map,hi,Option.map_some,Option.some.injEq]at this
    exact this) ho
theorem GL:∀(l:List Ty) (o:List ac),tN (fun n=>kind n==4) l->(∀ t∈l,sub σ (sub τ t)=t)->(∀ v∈o,(kind v==4)=true/\Fx σ τ v)->pT kind (l.map (sub τ)) (o.map (Cf τ))=(pT kind l o).map (Cf τ)/\∀ v∈pT kind l o,(kind v==4)=true/\Fx σ τ v
 |[],o,_,_,ho=>⟨rfl,ho⟩
 |t::r,o,hw,he,ho=>by
  obtain⟨h1,h2⟩:=Kf t o hw.1 (he t List.mem_cons_self) ho
  obtain⟨k1,k2⟩:=GL r _ hw.2 (fun t ht=>he t (List.mem_cons_of_mem _ ht)) h2
  simp only[List.map_cons,pT]
  rw[h1]
  exact⟨k1,k2⟩
end
end
def kN:List ac->Nat->List (ac×Ty)
 |[],_=>[]
 |v::r,k=>(v,.mk (Fk k) [])::kN r (k+1)
theorem AP{n:ac}:∀ {L:List ac} {k:Nat},n∉L->aE (kN L k) n=none
 |[],_,_=>rfl
 |v::r,k,h=>by
  simp only[List.mem_cons,not_or]at h
  simp only[kN,aE]
  rw[if_neg h.1]
  exact AP h.2
theorem QR(L:List ac)(v:ac):∀ k,kN (L++[v]) k=kN L k++[(v,.mk (Fk (k+L.length)) [])]:=by
 induction L with
 |nil=>intro k;rfl
 |cons w r ih =>
  intro k
  have e:k+1+r.length=k+(w::r).length:=by simp;omega
  simp only[List.cons_append,kN,ih,e]
section
variable{kind:ac->Int}{σ τ:ac->Option Ty}(hσ:Vs (fun n=>kind n==4) σ)(hτ:Vs (fun n=>kind n==4) τ)
include hσ hτ
theorem PP{n:ac}(hn:(kind n==4)=true)(h:Fx σ τ n):∀ {L:List ac} {k:Nat},(∀ v∈L,(kind v==4)=true/\Fx σ τ v)->aE (kN (L.map (Cf τ)) k) (Cf τ n)=aE (kN L k) n
 |[],_,_=>rfl
 |v::r,k,hL=>by
  simp only[List.map_cons,kN,aE]
  have ih:=PP hn h (L:=r) (k:=k+1) fun v hv=>hL v (List.mem_cons_of_mem _ hv)
  obtain⟨v1,v2⟩:=hL v List.mem_cons_self
  by_cases e:n=v
  ·subst e;rw[if_pos rfl,if_pos rfl]
  ·rw[if_neg e,if_neg (fun q=>e (Fx.inj hσ hn v1 h v2 q hτ)),ih]
theorem PO{L:List ac}(hL:∀ v∈L,(kind v==4)=true)(k:Nat):Vs (fun n=>kind n==4) (aE (kN L k)):=fun n t h=>by
 by_cases q:n∈L
 ·exact hL n q
 ·rw[AP q]at h;cases h
mutual
theorem KP{L:List ac}(hL:∀ v∈L,(kind v==4)=true/\Fx σ τ v)(hL':∀ v∈L.map (Cf τ),(kind v==4)=true):∀(t:Ty),yC (fun n=>kind n==4) t->sub σ (sub τ t)=t->PV kind L t->sub (aE (kN (L.map (Cf τ)) 0)) (sub τ t)=sub (aE (kN L 0)) t
 |.mk n xs,hw,he,hi=>by
  simp only[yC]at hw
  simp only[PV]at hi
  cases hn:kind n==4 with
  |true =>
   obtain rfl:=hw.2.1 hn
   have hf:Fx σ τ n:=he
   rw[(hf.v hσ hτ hn).2,nI,nI,PP hσ hτ hn hf hL]
   cases e:aE (kN L 0) n with
   |some t=>rfl
   |none =>
    exfalso
    have:∀ {L:List ac} {k:Nat},n∈L->aE (kN L k) n≠none:=fun {L k}=>by
     induction L generalizing k with
     |nil=>intro h;cases h
     |cons v r ih =>
      intro h
      simp only[kN,aE]
      split
      ·simp
      ·rename_i q
       rcases List.mem_cons.1 h with h|h
       ·exact(q h).elim
       ·exact ih h
    exact this (hi.1 hn) e
  |false =>
   rw[fc (isV:=fun n=>kind n==4) hτ hn,fc (isV:=fun n=>kind n==4) hσ hn]at he
   injection he with _ he
   rw[List.map_map]at he
   rw[fc (isV:=fun n=>kind n==4) hτ hn,fc (isV:=fun n=>kind n==4) (PO hσ hτ hL' 0) hn,fc (isV:=fun n=>kind n==4) (PO hσ hτ (fun v hv=>(hL v hv).1) 0) hn]
   congr 1
   exact GZ hL hL' xs hw.2.2 (fun x hx=>by
    obtain⟨i,hi⟩:=List.getElem?_of_mem hx
    have:=congrArg (fun l=>l[i]?) he
    simp only[List.getElem?_map,hi,Option.map_some,Option.some.injEq]at this
    exact this) hi.2
theorem GZ{L:List ac}(hL:∀ v∈L,(kind v==4)=true/\Fx σ τ v)(hL':∀ v∈L.map (Cf τ),(kind v==4)=true):∀(l:List Ty),tN (fun n=>kind n==4) l->(∀ t∈l,sub σ (sub τ t)=t)->IT kind L l->(l.map (sub τ)).map (sub (aE (kN (L.map (Cf τ)) 0)))=l.map (sub (aE (kN L 0)))
 |[],_,_,_=>rfl
 |t::r,hw,he,hi=>by
  simp only[List.map_cons]
  rw[KP hL hL' t hw.1 (he t List.mem_cons_self) hi.1,GZ hL hL' r hw.2 (fun t ht=>he t (List.mem_cons_of_mem _ ht)) hi.2]
end
end
theorem KO{kind:ac->Int}{σ τ:ac->Option Ty}(hσ:Vs (fun n=>kind n==4) σ)(hτ:Vs (fun n=>kind n==4) τ){A B:Ty}(hA:yC (fun n=>kind n==4) A)(h1:sub τ A=B)(h2:sub σ B=A) :
 (lV kind A []).length=(lV kind B []).length/\sub (aE (kN (lV kind A []) 0)) A=sub (aE (kN (lV kind B []) 0)) B:=by
 have he:sub σ (sub τ A)=A:=by rw[h1,h2]
 obtain⟨r1,r2⟩:=Kf hσ hτ A [] hA he (fun _ h=>nomatch h)
 rw[h1]at r1
 have e:lV kind B []=(lV kind A []).map (Cf τ):=r1
 refine⟨by rw[e,List.length_map],?_⟩
 have:=KP hσ hτ r2 (fun v hv=>by
  obtain⟨w,hw,rfl⟩:=List.mem_map.1 hv
  obtain⟨w1,w2⟩:=r2 w hw
  exact(w2.v hσ hτ w1).1) A hA he (HH A [] List.nodup_nil)
 rw[h1]at this
 rw[e];exact this.symm
end Go.Proofs.YtenibcfppefobaaGreatDoor
set_option linter.all false
noncomputable section
namespace Go.Proofs.YtenibcfppefobaaGreatDoor
open Go.AI
def BR(kind:ac->Int)(bs:List (ac×Ty))(t:Ty):ac×D×Int :=
 if aS kind t=0 then([],.nilrow,32)else if kz kind bs=false then([],.nilrow,1)else if aS kind (sub (aE bs) t)=0 then([],.nilrow,39)else match sub (aE bs) t with
  |.mk n xs=>(n,.row 2 (aI xs),0)
theorem Uc{kind:ac->Int}(K:ua kind)(h0:∀ d k,lX kind d (.mk [] []) k=none)(bs:List (ac×Ty))(n:ac)(xs:List Ty)(H:DH)(hbs:∀ q∈bs,q.2.ok)(hok:(Ty.mk n xs).ok):∃ H',az 9 [.row 3 (bs.map tK),.agg [.str n,.row 2 (aI xs)]] H=ret (.tuple [.agg [.str (BR kind bs (.mk n xs)).1,(BR kind bs (.mk n xs)).2.1],.i (BR kind bs (.mk n xs)).2.2]) H':=by
 obtain⟨H',ds,e,r1,_,r3⟩:=MP K h0 bs (.mk n xs) H hbs hok
 simp only[cu]at r1
 refine⟨H',?_⟩
 rw[r1]
 unfold BR
 rcases r3 with⟨a,rfl,rfl⟩|⟨a,⟨b,rfl,rfl⟩|⟨b,c,rfl,rfl⟩|⟨b,c,rfl,rfl⟩⟩
 ·rw[if_pos a]
 ·rw[if_neg a,if_pos b]
 ·rw[if_neg a,if_neg (by rw[b];simp),if_pos c]
 ·rw[if_neg a,if_neg (by rw[b];simp),if_neg c]
  cases sub (aE bs) (.mk n xs)
  simp only[cu]
structure JN(kind:ac->Int)(bs:List (ac×Ty))(t:Ty):Prop where
 sz:aS kind t≠0
 good:kz kind bs=true
 out:aS kind (sub (aE bs) t)≠0
theorem MS{kind:ac->Int}{bs:List (ac×Ty)}{t:Ty}(h:aS kind t≠0)(g:kz kind bs=true):(BR kind bs t).2.2=39\/((BR kind bs t).2.2=0/\aS kind (sub (aE bs) t)≠0):=by
 unfold BR
 rw[if_neg h,if_neg (by rw[g];simp)]
 split
 ·exact .inl rfl
 ·rename_i q
  exact .inr ⟨by split;rfl,q⟩
theorem JN.eq{kind:ac->Int}{bs:List (ac×Ty)}{t:Ty}(h:JN kind bs t){n:ac}{xs:List Ty}(e:sub (aE bs) t=.mk n xs):BR kind bs t=(n,.row 2 (aI xs),0):=by
 unfold BR
 rw[if_neg h.sz,if_neg (by rw[h.good];simp),if_neg h.out,e]
theorem sS(a b:Int)(κ:D->ag):ay ab .neq 28 true (.i a) (.i b) κ=κ (.bool (a != b)):=by kernel_rfl
theorem MM(a b:Int)(κ:D->ag):ay ab .eql 28 true (.i a) (.i b) κ=κ (.bool (a==b)):=by kernel_rfl
theorem EP(H:DH):az 6 [] H=ret (.bool true) H:=by show dZ de (.call 6 [] none) H=_;rw[Bz];rfl
theorem SZ{all:List Ty}{t:Ty}(h:t∈all):all[0]? = some (nN all 0):=by
 cases all with
 |nil=>cases h
 |cons x r=>rfl
theorem AJ{all:List Ty}(h:Ty.oks all):∀ t∈all,t.ok:=by
 induction all with
 |nil=>intro t h;cases h
 |cons x r ih =>
  intro t ht
  rcases List.mem_cons.1 ht with rfl|ht
  ·exact h.1
  ·exact ih h.2 t ht
variable{kind:ac->Int}(K:ua kind)(h0:∀ d k,lX kind d (.mk [] []) k=none){all:List Ty}{obs:List (ac×Ty)}(h62:all.length<2^62)(hok:Ty.oks all)(hobs:∀ q∈obs,q.2.ok)
include K h0 h62 hok hobs
end Go.Proofs.YtenibcfppefobaaGreatDoor
set_option linter.all false
noncomputable section
namespace Go.Proofs.YtenibcfppefobaaGreatDoor
open Go.AI
def AS(H:DH)(b:Nat)(o:List ac)(d:D):Prop:=(d=.nilrow/\o=[])\/∃ p,b<=p/\d=.buf 1 p o.length/\H[p]? = some (.buf 1 true false (o.map fun n=>[.str n]))
structure Kr(b:Nat)(H H':DH):Prop where
 len:H.length<=H'.length
 at':∀ o,o<b->H'[o]? = H[o]?
 nb:∀ o,o<H.length->(∀ st cp l,H[o]?≠some (.buf 1 st cp l))->H'[o]? = H[o]?
theorem Kr.refl(b:Nat)(H:DH):Kr b H H:=⟨Nat.le_refl _,fun _ _=>rfl,fun _ _ _=>rfl⟩
theorem Kr.trans{b:Nat}{H H' H'':DH}(h:Kr b H H')(k:Kr b H' H''):Kr b H H'':=⟨Nat.le_trans h.len k.len,fun o ho=>by rw[k.at' o ho,h.at' o ho],fun o ho hn=>by
 have e:=h.nb o ho hn
 rw[k.nb o (Nat.lt_of_lt_of_le ho h.len) (fun st cp l q=>hn st cp l (by rw[<- e];exact q)),e]⟩
theorem Wj:ab.underlying 35=some (.slice 9):=by kernel_rfl
theorem Wx:size ab 9=some 1:=by kernel_rfl
theorem WH(s:ac)(κ:D->ag):cN ab 9 [.str s] 0 κ=κ (.str s):=by kernel_rfl
theorem Wy(a b:ac)(κ:D->ag):ay ab .eql 9 false (.str a) (.str b) κ=κ (.bool (a==b)):=by kernel_rfl
theorem MK(a b:Int)(κ:D->ag):ay ab .geq 3 true (.i a) (.i b) κ=κ (.bool (decide (a>=b))):=by kernel_rfl
theorem KK{m:Nat}(h:m<=4194304):aT ab 9 m=true:=by
 have e:aT ab 9 m=(Nat.ble (16*(m+Nat.div m 4+600)) 281474976710656&&Nat.ble m 4611686018427387904):=by kernel_rfl
 rw[e,Bool.and_eq_true]
 have h1:Nat.div m 4<=m:=Nat.div_le_self m 4
 exact⟨Nat.ble_eq_true_of_le (by omega),Nat.ble_eq_true_of_le (by omega)⟩
theorem AS.len{H:DH}{b:Nat}{o:List ac}{d:D}(h:AS H b o d)(κ:D->ag):eC ab 35 d H κ=κ (.i o.length):=by
 rcases h with⟨rfl,rfl⟩|⟨p,hp,rfl,_⟩<;>(simp only[eC,Wj];try rfl)
theorem AS.at'{H:DH}{b:Nat}{o:List ac}{d:D}(h:AS H b o d){i:Nat}{n:ac}(hi:o[i]? = some n)(κ:D->ag):(cE ab 35 d (.i i) fun a=>eZ ab 9 a H κ)=κ (.str n):=by
 rcases h with⟨rfl,rfl⟩|⟨p,hp,rfl,hb⟩
 ·cases hi
 ·have hl:(List.map (fun n=>[D.str n]) o).length=o.length:=List.length_map _
  have h2:(List.map (fun n=>[D.str n]) o)[i]? = some [.str n]:=by rw[List.getElem?_map,hi];rfl
  have h3:=dA hb (κ:=fun _ _ _ l=>eP l i fun cs=>cN ab 9 cs 0 κ)
  rw[hl]at h3
  rw[cE,Wj]
  simp only[Wx,FC,Nat.beq_refl,cond_true,bH,show Nat.blt i o.length=true from Nat.ble_eq_true_of_le (aB hi),boK,eZ,h3,bt h2,WH]
theorem AS.add{H:DH}{b:Nat}{o:List ac}{d:D}(h:AS H b o d)(hb:b<=H.length)(hl:o.length<4194304)(n:ac):∃ d' H',(∀ κ:D->DH->ag,eG (aT ab 9) 1 d [[.str n]] H κ=κ d' H')/\AS H' b (o++[n]) d'/\Kr b H H':=by
 rcases h with⟨rfl,rfl⟩|⟨p,hp,rfl,h⟩
 ·refine⟨.buf 1 H.length 1,H++[.buf 1 true false [[.str n]]],fun κ=>?_,.inr ⟨H.length,hb,rfl,bD _ _⟩,⟨by simp,fun o h=>List.getElem?_append_left (by omega),fun o h _=>List.getElem?_append_left h⟩⟩
  simp only[eG,List.length_singleton,KK (show 1<=4194304 by decide),boK,cond_true]
  rfl
 ·have hm:(List.map (fun n=>[D.str n]) o).length=o.length:=List.length_map _
  have e2:(List.map (fun n=>[D.str n]) o)++[[.str n]]=(o++[n]).map fun n=>[.str n]:=by simp
  refine⟨.buf 1 p (o++[n]).length,H.set p (.buf 1 true false ((o++[n]).map fun n=>[.str n])),fun κ=>?_,.inr ⟨p,hp,rfl,bC _ h⟩,⟨by simp,fun o' h=>List.getElem?_set_ne (by omega),fun o' _ q=>List.getElem?_set_ne (fun e=>q _ _ _ (e▸h))⟩⟩
  have h4:=dA h (κ:=fun _ st cap l2=>boK (aT ab 9 (l2.length+1)&&!(cap&&List.isEmpty [[D.str n]])) (grow p 1 st cap l2 [[.str n]] H κ))
  rw[hm]at h4
  simp only[eG,List.length_singleton,KK (show 1<=4194304 by decide),boK,cond_true,Nat.beq_refl]
  refine Eq.trans h4 ?_
  rw[KK (by omega)]
  simp only[List.isEmpty_cons,Bool.and_false,Bool.not_false,Bool.and_self,boK,cond_true,grow,cond_false]
  rw[e2,hm]
  simp
theorem AS.fz{H:DH}{b:Nat}{o:List ac}{d:D}(h:AS H b o d):∃ H',∀ κ:D->DH->ag,fN (.fz 1) d H κ=κ (.row 1 (o.map fun n=>[.str n])) H':=by
 rcases h with⟨rfl,rfl⟩|⟨p,hp,rfl,h⟩
 ·exact⟨H,fun _=>rfl⟩
 ·have hm:(List.map (fun n=>[D.str n]) o).length=o.length:=List.length_map _
  refine⟨H.set p (.buf 1 false false (o.map fun n=>[.str n])),fun κ=>?_⟩
  rw[fN,<- hm,dA h]
  rfl
theorem AS.kp{H H':DH}{b:Nat}{o:List ac}{d:D}(h:AS H b o d)(k:∀(p:Nat) (st cp:Bool) (l:eA),H[p]? = some (DB.buf 1 st cp l)->H'[p]? = H[p]?):AS H' b o d:=by
 rcases h with⟨rfl,rfl⟩|⟨p,hp,rfl,h⟩
 ·exact .inl ⟨rfl,rfl⟩
 ·exact .inr ⟨p,hp,rfl,by rw[k p _ _ _ h,h]⟩
theorem Dc{H:DH}{b:Nat}{o:List ac}{d:D}(h:AS H b o d)(ho:o.length<4194304)(n:ac):∀(l pre:List ac),o=pre++l->∃ k:Int,af ak 88 200002 [.g d,.g (.str n),.n (o.length:Nat),.n (pre.length:Nat)] [] H=ret (.i k) H/\(decide (k>=0)=decide (n∈l))
 |[],pre,e=>by
  refine⟨-1,ez (pu) ?_,by simp⟩
  have hlt:decide ((pre.length:Int)<(o.length:Int))=false:=by rw[e];simp
  rw[hlt,cond_false]
 |m::l,pre,e=>by
  have hlt:decide ((pre.length:Int)<(o.length:Int))=true:=by rw[e];simp;omega
  have hi:o[pre.length]? = some m:=by rw[e];simp
  have hw2:cS ((pre.length:Int)+1)=(((pre++[m]).length:Nat):Int):=by
   rw[bE (by
    have:o.length=pre.length+(l.length+1):=by rw[e];simp
    omega)];simp
  have st:∀ z,(cond (n==m) (ret (.i (pre.length:Nat)) H) (af ak 88 200002 [.g d,.g (.str n),.n (o.length:Nat),.n ((pre++[m]).length:Nat)] [] H))=z->af ak 88 200002 [.g d,.g (.str n),.n (o.length:Nat),.n (pre.length:Nat)] [] H=z:=fun z hz=>by
   refine ez (pu) ?_
   rw[hlt,cond_true,h.at' hi,Wy,ai,hw2]
   exact hz
  by_cases q:n=m
  ·refine⟨(pre.length:Nat),st _ (by rw[show(n==m)=true from by simpa using q,cond_true]),?_⟩
   simp[q]
  ·obtain⟨k,r1,r2⟩:=Dc h ho n l (pre++[m]) (by rw[e];simp)
   refine⟨k,st _ (by rw[show(n==m)=false from by simpa using q,cond_false];exact r1),?_⟩
   rw[r2];simp[q]
theorem Mf{H:DH}{b:Nat}{o:List ac}{d:D}(h:AS H b o d)(ho:o.length<4194304)(n:ac):az 58 [d,.str n] H=ret (.bool (decide (n∈o))) H:=by
 obtain⟨k,r1,r2⟩:=Dc h ho n o [] rfl
 have r:az 88 [d,.str n] H=ret (.i k) H:=ev (Wo) (by rw[h.len];exact r1)
 refine ev (Wp) ?_
 rw[ao r,MK,r2]
variable{kind:ac->Int}
mutual
theorem pM(K:ua kind):∀(t:Ty) (H:DH) (b:Nat) (o:List ac) (d:D),AS H b o d->b<=H.length->o.Nodup->o.length+bL t<4194304->t.ok ->
 ∃ d' H',az 31 [.agg (cu t),d] H=ret d' H'/\AS H' b (lV kind t o) d'/\Kr b H H'
 |.mk n xs,H,b,o,d,h,hb,hn,hs,hok=>by
  simp only[Ty.ok]at hok
  simp only[bL]at hs
  have go:∀(H1:DH) (o1:List ac) (d1:D),AS H1 b o1 d1->b<=H1.length->o1.Nodup->o1.length+bL.tszs xs<4194304->Kr b H H1->lV kind (.mk n xs) o=pT kind xs o1->(∀ z,af ak 31 200004 [.g d1,.g (.row 2 (aI xs)),.n (xs.length:Nat),.n 0] [] H1=z->az 31 [.agg (cu (.mk n xs)),d] H=z)->∃ d' H',az 31 [.agg (cu (.mk n xs)),d] H=ret d' H'/\AS H' b (lV kind (.mk n xs) o) d'/\Kr b H H':=fun H1 o1 d1 a1 a2 a3 a4 a5 a6 a7=>by
   obtain⟨d',H',r1,r2,r3⟩:=yA K xs hok.1 xs [] H1 b o1 d1 rfl a1 a2 a3 a4 hok.2
   exact⟨d',H',a7 _ r1,by rw[a6];exact r2,a5.trans r3⟩
  have e0:∀(z:ag),(cond (kind n==4) (cond (decide (n∈o)) (af ak 31 200004 [.g d,.g (.row 2 (aI xs)),.n (xs.length:Nat),.n 0] [] H) (eG (aT ab 9) 1 d [[.str n]] H fun d6 H7=>af ak 31 200004 [.g d6,.g (.row 2 (aI xs)),.n (xs.length:Nat),.n 0] [] H7)) (af ak 31 200004 [.g d,.g (.row 2 (aI xs)),.n (xs.length:Nat),.n 0] [] H))=z->az 31 [.agg (cu (.mk n xs)),d] H=z:=fun z hz=>by
   refine ev (by simp only[cu];exact WT) ?_
   rw[ao (jI K n H),ai,bf,<- hz]
   cases kind n==4 with
   |false=>rfl
   |true =>
    simp only[cond_true]
    rw[ao (Mf h (by omega) n),ck,ai]
    cases decide (n∈o)<;>rfl
  cases hv:kind n==4 with
  |false =>
   refine go H o d h hb hn (by omega) (.refl _ _) (by simp[lV,hv]) fun z hz=>e0 z ?_
   rw[hv,cond_false];exact hz
  |true =>
   by_cases q:n∈o
   ·refine go H o d h hb hn (by omega) (.refl _ _) (by simp[lV,hv,q]) fun z hz=>e0 z ?_
    rw[hv,cond_true,decide_eq_true q,cond_true];exact hz
   ·obtain⟨d1,H1,u1,u2,u3⟩:=h.add hb (by omega) n
    refine go H1 (o++[n]) d1 u2 (Nat.le_trans hb u3.len) (by
     rw[List.nodup_append]
     exact⟨hn,by simp,fun a ha b hb=>by simp at hb;subst hb;intro e;subst e;exact q ha⟩) (by simp;omega) u3 (by simp[lV,hv,q]) fun z hz=>e0 z ?_
    rw[hv,cond_true,decide_eq_false q,cond_false,u1];exact hz
theorem yA(K:ua kind)(xs:List Ty)(h62:xs.length<2^62):∀(l pre:List Ty) (H:DH) (b:Nat) (o:List ac) (d:D),xs=pre++l->AS H b o d->b<=H.length->o.Nodup->o.length+bL.tszs l<4194304->Ty.oks l ->
 ∃ d' H',af ak 31 200004 [.g d,.g (.row 2 (aI xs)),.n (xs.length:Nat),.n (pre.length:Nat)] [] H=ret d' H'/\AS H' b (pT kind l o) d'/\Kr b H H'
 |[],pre,H,b,o,d,e,h,hb,hn,hs,hok=>by
  refine⟨d,H,ez (wL) ?_,h,.refl _ _⟩
  have hlt:decide ((pre.length:Int)<(xs.length:Int))=false:=by rw[e];simp
  rw[hlt,cond_false]
 |t::l,pre,H,b,o,d,e,h,hb,hn,hs,hok=>by
  simp only[Ty.oks]at hok
  simp only[bL.tszs]at hs
  have hlt:decide ((pre.length:Int)<(xs.length:Int))=true:=by rw[e];simp;omega
  have h2:(aI xs)[pre.length]? = some (cu t):=by rw[e];exact iu _ _ _
  have hw2:cS ((pre.length:Int)+1)=(((pre++[t]).length:Nat):Int):=by
   rw[bE (by
    have:xs.length=pre.length+(l.length+1):=by rw[e];simp
    omega)];simp
  obtain⟨d1,H1,r1,r2,r3⟩:=pM K t H b o d h hb hn (by omega) hok.1
  obtain⟨n1,n2,n3⟩:=rL (kind:=kind) t o hn
  obtain⟨d2,H2,w1,w2,w3⟩:=yA K xs h62 l (pre++[t]) H1 b _ d1 (by rw[e];simp) r2 (Nat.le_trans hb r3.len) n1 (by omega) hok.2
  refine⟨d2,H2,ez (wL) ?_,w2,r3.trans w3⟩
  obtain⟨tn,tx⟩:=t
  simp only[cu]at h2 r1
  rw[hlt,cond_true,bH,bt h2]
  simp only[aj,aA]
  rw[ao r1,hw2]
  exact w1
end
end Go.Proofs.YtenibcfppefobaaGreatDoor
set_option linter.all false
noncomputable section
namespace Go.Proofs.YtenibcfppefobaaGreatDoor
open Go.AI
theorem Ub{H:DH}{b:Nat}{o:List ac}{d:D}(h:AS H b o d)(κ:List D->ag):ah 1 d κ=κ [d]:=by
 rcases h with⟨rfl,_⟩|⟨p,_,rfl,_⟩<;>rfl
theorem mq(n:ac)(xs:List Ty):cu (.mk n xs)=[.str n,.row 2 (aI xs)]:=by simp only[cu]
variable{kind:ac->Int}
def uq(L:List ac):eA:=L.map fun n=>[.str n]
theorem qy(L:List ac):(uq L).length=L.length:=List.length_map _
theorem Lq{L:List ac}{i:Nat}{n:ac}(h:L[i]? = some n):(uq L)[i]? = some [.str n]:=by rw[uq,List.getElem?_map,h];rfl
theorem DU(K:ua kind)(h0:∀ d k,lX kind d (.mk [] []) k=none)(n:ac)(xs:List Ty)(H:DH)(hs:aS kind (.mk n xs)≠0):∃ H',az 11 [.agg [.str n,.row 2 (aI xs)]] H=ret (.tuple [.agg [.row 1 (uq (lV kind (.mk n xs) [])),.str n,.row 2 (aI xs)],.i 0]) H':=by
 obtain⟨w1,w2,w3,w4⟩:=ig hs
 have hok:(Ty.mk n xs).ok:=oT (kY hs)
 obtain⟨X,z1⟩:=kX K (.mk n xs) H hok
 have o1:∀(v w:Int) (κ:List D->ag),ar [D.i v] 0 [.i w] κ=κ [.i w]:=fun _ _ _=>rfl
 have hl:(H++X++[DB.cells (0+1) [.i ((0:Nat):Int)]]).length=(H++X).length+1:=by simp only[List.length_append,List.length_cons,List.length_nil]
 obtain⟨d,H1,r1,r2,r3⟩:=pM K (.mk n xs) (H++X++[.cells (0+1) [.i ((0:Nat):Int)]]) ((H++X).length+1) [] .nilrow (.inl ⟨rfl,rfl⟩) (by rw[hl];omega) List.nodup_nil (by simp;omega) hok
 have p1:H1[(H++X).length]? = some (.cells (0+1) [.i ((0:Nat):Int)]):=by
  rw[r3.at' _ (by omega)];exact bD _ _
 obtain⟨H2,s',c',t',q1,q2,q3,q4,q5,q6,q7⟩:=Hd h0 (.mk n xs) w1 H1 _ 0 _ p1 (by omega)
 obtain⟨e1,e2⟩:=q5 (by omega)
 subst e1
 have r4:AS H2 ((H++X).length+1) (lV kind (.mk n xs) []) d:=r2.kp fun p st cp l h=>q2.2 p (aB h) fun e=>by rw[e,p1]at h;cases h
 obtain⟨H3,u⟩:=r4.fz
 refine⟨H3,ev (Xe) ?_⟩
 have e0:(((aS kind (.mk n xs):Nat):Int)==0)=false:=by simp;omega
 simp only[mq]at z1 r1 q1
 rw[ao z1,bJ,e0]
 simp only[ai,cond_false]
 rw[ae (bD _ _),o1,ju]
 rw[show((0:Nat):Int)=0 from rfl]at r1
 rw[Ph r1,Ph q1,Ub r4]
 rw[show ∀(κ:List D->ag),(ar [D.nilrow,.str [],.nilrow] 0 [d] fun b=>ah 2 (.agg [.str n,.row 2 (aI xs)]) fun a=>ar b 1 a fun a=>ah 3 (.agg a) fun a=>ar [D.nilrow,.str [],.nilrow] 0 a κ)=κ [d,.str n,.row 2 (aI xs)] from fun _=>rfl]
 simp only[aj,aA]
 rw[u]
 rfl
def FE(L:List ac):List (D×D):=L.map fun n=>(.str n,.i 1)
theorem AT(s:ac):∀ L,qB (.str s) (FE L)=some (if s∈L then some (.i 1)else none)
 |[]=>rfl
 |v::r=>by
  have ih:=AT s r
  simp only[FE,List.map_cons,qB,iY]
  simp only[FE]at ih
  cases q:s==v with
  |true =>
   have:s=v:=by simpa using q
   simp[this]
  |false =>
   have:s≠v:=by simpa using q
   simp[this,ih]
theorem Hw(s:ac)(x:D):∀ L,s∉L->rZ (.str s) x (FE L)=some (FE L++[(.str s,x)])
 |[],_=>rfl
 |v::r,h=>by
  simp only[List.mem_cons,not_or]at h
  have q:(s==v)=false:=by simpa using h.1
  have ih:=Hw s x r h.2
  simp only[FE,List.map_cons,rZ,iY,q,List.cons_append]
  simp only[FE]at ih
  rw[ih]
theorem HD(m:Nat)(s:ac)(H:DH)(κ:D->ag):eR ab 135 (.map m) (.str s) false H κ=jW H m fun es=>gR (.str s) es fun r=>dL ab 3 false r κ:=by kernel_rfl
theorem Oc(m:Nat)(s:ac)(v:D)(H:DH)(κ:DH->ag):fM ab 135 (.map m) (.str s) v H κ=jW H m fun es=>gQ (.str s) v es fun es=>κ (H.set m (.map es)):=by kernel_rfl
theorem TI(κ:D->ag):dL ab 3 false none κ=κ (.i 0):=by kernel_rfl
theorem TH(v:Int)(κ:D->ag):dL ab 3 false (some (.i v)) κ=κ (.i v):=by kernel_rfl
theorem Cu{b:Nat}{L:List ac}{d:D}(hL:L.Nodup)(hs:L.length<=2000)(mo:Nat):∀(l pre:List ac) (H:DH),L=pre++l->AS H b L d->H[mo]? = some (.map (FE pre)) ->
 ∃ H',af ak 32 200006 [.g d,.g (.map mo),.g (.row 1 (uq L)),.n (L.length:Nat),.n (pre.length:Nat)] [] H=ret (.bool true) H'
 |[],pre,H,e,h,hm=>by
  refine⟨H,ez (wK) ?_⟩
  have hlt:decide ((pre.length:Int)<(L.length:Int))=false:=by rw[e];simp
  rw[hlt,cond_false]
 |n::l,pre,H,e,h,hm=>by
  have hlt:decide ((pre.length:Int)<(L.length:Int))=true:=by rw[e];simp;omega
  have hi:(uq L)[pre.length]? = some [.str n]:=Lq (by rw[e];simp)
  have hn:n∉pre:=fun q=>by
   rw[e,List.nodup_append]at hL
   exact hL.2.2 n q n List.mem_cons_self rfl
  have hw2:cS ((pre.length:Int)+1)=(((pre++[n]).length:Nat):Int):=by
   rw[bE (by
    have:L.length=pre.length+(l.length+1):=by rw[e];simp
    omega)];simp
  have eb:FE pre++[(D.str n,D.i 1)]=FE (pre++[n]):=by simp[FE]
  have h2:AS (H.set mo (.map (FE (pre++[n])))) b L d:=h.kp fun p st cp l q=>List.getElem?_set_ne fun e=>by rw[<- e,hm]at q;cases q
  have m2:(H.set mo (.map (FE (pre++[n]))))[mo]? = some (.map (FE (pre++[n]))):=bC _ hm
  obtain⟨H',ih⟩:=Cu hL hs mo l (pre++[n]) (H.set mo (.map (FE (pre++[n])))) (by rw[e];simp) h2 m2
  refine⟨H',ez (wK) ?_⟩
  rw[hlt,cond_true,bH,bt hi,aj,HD,dz hm,gR,AT,if_neg hn]
  dsimp only
  rw[TI,dD,show cS ((0:Int)+1)=1 from by rw[show(0:Int)=((0:Nat):Int)from rfl,tc (by omega)];rfl,Oc,dz hm,gQ,Hw n _ pre hn]
  dsimp only
  rw[eb,HD,dz m2,gR,AT,if_pos (by simp)]
  dsimp only
  rw[TH,fC,show decide ((1:Int)>1)=false from by decide]
  simp only[ai,cond_false]
  rw[ao (Mf h2 (by omega) n),decide_eq_true (show n∈L from by rw[e];simp)]
  simp only[ck,Bool.not_true,ai,cond_false]
  rw[hw2]
  exact ih
theorem LZ(K:ua kind)(n:ac)(xs:List Ty)(H:DH)(hs:aS kind (.mk n xs)≠0):∃ H',az 32 [.agg [.row 1 (uq (lV kind (.mk n xs) [])),.str n,.row 2 (aI xs)]] H=ret (.bool true) H':=by
 obtain⟨w1,w2,w3,w4⟩:=ig hs
 have hok:(Ty.mk n xs).ok:=oT (kY hs)
 obtain⟨X,z1⟩:=kX K (.mk n xs) H hok
 obtain⟨n1,n2,n3⟩:=rL (kind:=kind) (.mk n xs) [] List.nodup_nil
 obtain⟨d,H1,r1,r2,r3⟩:=pM K (.mk n xs) (H++X) (H++X).length [] .nilrow (.inl ⟨rfl,rfl⟩) (Nat.le_refl _) List.nodup_nil (by simp;omega) hok
 have h2:AS (H1++[.map []]) (H++X).length (lV kind (.mk n xs) []) d:=r2.kp fun p st cp l q=>by rw[List.getElem?_append_left (aB q)]
 simp only[List.length_nil,Nat.zero_add]at n3
 obtain⟨H',r4⟩:=Cu n1 (by omega) H1.length (lV kind (.mk n xs) []) [] (H1++[.map []]) rfl h2 (bD _ _)
 refine⟨H',ev (WS) ?_⟩
 have e0:(((aS kind (.mk n xs):Nat):Int)==0)=false:=by simp;omega
 have e1:decide (((uq (lV kind (.mk n xs) [])).length:Int)>2000)=false:=by rw[qy];simp;omega
 simp only[mq]at z1 r1
 rw[ao z1,bJ,e0]
 simp only[ai,cond_false]
 rw[e1,cond_false,ao r1,qy]
 exact r4
theorem Ma(K:ua kind)(n:ac)(xs:List Ty)(H:DH)(hs:aS kind (.mk n xs)≠0):∃ H',az 33 [.agg [.row 1 (uq (lV kind (.mk n xs) [])),.str n,.row 2 (aI xs)]] H=ret (.bool true) H':=by
 obtain⟨w1,w2,w3,w4⟩:=ig hs
 have hok:(Ty.mk n xs).ok:=oT (kY hs)
 obtain⟨d,H1,r1,r2,r3⟩:=pM K (.mk n xs) H H.length [] .nilrow (.inl ⟨rfl,rfl⟩) (Nat.le_refl _) List.nodup_nil (by simp;omega) hok
 refine⟨H1,ev (WR) ?_⟩
 simp only[mq]at r1
 rw[Ph r1,r2.len,qy,bJ]
 simp
theorem Rp{k:Nat}(hk:k<4000)(H:DH):az 89 [.i (k:Nat)] H=ret (.str (JP k)) H:=by
 have e:My 89 [.i (k:Nat)] H=some (.str (JP k),H):=by
  show(bif Nat.blt k 4000 then some (D.str (JP k),H)else none)=_
  rw[show Nat.blt k 4000=true from Nat.ble_eq_true_of_le hk];rfl
 show dZ de (.call 89 [.i (k:Nat)] none) H=_
 rw[Bz]
 show(match My 89 [.i (k:Nat)] H with
  |some (d,H)=>(some (⟨.ret d,none,H⟩:gI):ag)
  |none=>_)=_
 rw[e]
theorem KW(r:Nat)(h:r<26):(vd (97+(r:Nat))).length=1:=by
 have:∀ r,r<26->(vd (97+(r:Nat))).length=1:=by decide +kernel
 exact this r h
theorem PI{n:Nat}(h:n<2^62):cS ((n:Nat):Int)=n:=by
 cases n with
 |zero=>rfl
 |succ n=>exact tc (by omega)
theorem Up(r:Nat)(h:r<26):IntKind.wrap .i32 (97+(r:Nat):Int)=(97+(r:Nat):Int):=by
 have:∀ r,r<26->IntKind.wrap .i32 (97+(r:Nat):Int)=(97+(r:Nat):Int):=by decide +kernel
 exact this r h
theorem Rq{k:Nat}(h:k<4000):(JP k).length<=100:=by
 unfold JP
 rw[List.length_map]
 have:=Lib.itoa_length_le (k:Nat) (by omega) (by omega)
 omega
theorem VT(a b:ac)(κ:D->ag):ay ab .add 9 false (.str a) (.str b) κ=boK (Nat.ble (a.length+b.length) 1000000) (κ (.str (a++b))):=by kernel_rfl
theorem Lu{k:Nat}(hk:k<4000)(H:DH):az 59 [.i (k:Nat)] H=ret (.str (Fk k)) H:=by
 have hr:k%26<26:=Nat.mod_lt _ (by decide)
 have e1:cS (97+(Int.tmod (k:Nat) 26))=(97+((k%26:Nat):Int)):=by
  have:(97+(Int.tmod (k:Nat) 26))=((97+k%26:Nat):Int):=by
   rw[Int.tmod_eq_emod_of_nonneg (by omega)];omega
  rw[this,PI (by omega)];omega
 have e2:cS (Int.tdiv (k:Nat) 26)=((k / 26:Nat):Int):=by
  have:Int.tdiv (k:Nat) 26=((k / 26:Nat):Int):=by
   rw[Int.tdiv_eq_ediv_of_nonneg (by omega)];omega
  rw[this,PI (by omega)]
 refine ev (WM) ?_
 rw[e1,Up _ hr,KW _ hr,e2]
 simp only[show Nat.ble (1+1) 1000000=true from rfl,boK,cond_true]
 by_cases q:26<=k
 ·rw[show decide (((k:Nat):Int)>=26)=true from by simp;omega,cond_true,ao (Rp (by omega) H),VT]
  have h1:([39]++vd (97+((k%26:Nat):Int))).length=2:=by rw[List.length_append,KW _ hr];rfl
  have h2:=Rq (k:=k / 26) (by omega)
  rw[h1,show Nat.ble (2+(JP (k / 26)).length) 1000000=true from Nat.ble_eq_true_of_le (by omega)]
  simp only[boK,cond_true]
  unfold Fk
  rw[if_pos q]
 ·rw[show decide (((k:Nat):Int)>=26)=false from by simp;omega,cond_false]
  unfold Fk
  rw[if_neg q,List.append_nil]
def Lp(n:Nat):List ac:=(List.range n).map Fk
theorem Te(n:Nat):Lp (n+1)=Lp n++[Fk n]:=by simp[Lp,List.range_succ]
theorem Hq(n:Nat):(Lp n).length=n:=by simp[Lp]
mutual
theorem Kg{L:List ac}:∀ t,bL (sub (aE (kN L 0)) t)=bL t
 |.mk n xs=>by
  have h:=GM (L:=L) xs
  have key:∀ {L:List ac} {k:Nat} {u:Ty},aE (kN L k) n=some u->∃ m,u=.mk m []:=fun {L k u}=>by
   induction L generalizing k with
   |nil=>intro e;cases e
   |cons v r ih =>
    intro e
    simp only[kN,aE]at e
    split at e
    ·cases e;exact⟨_,rfl⟩
    ·exact ih e
  unfold sub
  split
  ·rename_i u e
   obtain⟨m,rfl⟩:=key e
   simp[bL,bL.tszs]
  ·simp only[bL,h]
theorem GM{L:List ac}:∀ l,bL.tszs (fT (aE (kN L 0)) l)=bL.tszs l
 |[]=>rfl
 |t::r=>by simp only[fT,bL.tszs,Kg t,GM r]
end
theorem UQ{L:List ac}:∀ {k:Nat},∀ p∈kN L k,yC (fun _=>false) p.2:=by
 induction L with
 |nil=>intro k p h;cases h
 |cons v r ih =>
  intro k p h
  rcases List.mem_cons.1 h with rfl|h
  ·exact⟨by simp,by simp,trivial⟩
  ·exact ih p h
theorem CB(K:ua kind)(h0:∀ d k,lX kind d (.mk [] []) k=none)(n:ac)(xs:List Ty)(hs:aS kind (.mk n xs)≠0){b b2:Nat}{L:List ac}{d j l0 q:D}{k0 p:ac}(hL:L.Nodup)(h2:L.length<=2000)(mo:Nat):∀(l pre:List ac) (H:DH) (m:D),L=pre++l->AS H b L d->(∀ p n,d=.buf 1 p n->p<b2)->b2<=H.length->AS H b2 (Lp pre.length) m->H[mo]? = some (.map (bM (kN pre 0))) ->
 ∃ H' tn tx,sub (aE (kN L 0)) (.mk n xs)=.mk tn tx/\af ak 34 200004 [.lp 0 0,.lp 1 0,.g (.map mo),.lp 2 0,.g d,.n (L.length:Nat),.n (pre.length:Nat)] [(0,[.str n,.row 2 (aI xs)]),(0,[j,.str k0,l0]),(0,[m,.str p,q])] H=ret (.agg [.row 1 (uq (Lp L.length)),.str tn,.row 2 (aI tx)]) H'
 |[],pre,H,m,e,h,hd,hb,hm,hmo=>by
  have hlt:decide ((pre.length:Int)<(L.length:Int))=false:=by rw[e];simp
  have eL:L=pre:=by rw[e];simp
  obtain⟨w1,w2,w3,w4⟩:=ig hs
  have o1:∀(v w:Int) (κ:List D->ag),ar [D.i v] 0 [.i w] κ=κ [.i w]:=fun _ _ _=>rfl
  have m1:(H++[DB.cells (0+1) [.i ((0:Nat):Int)]])[mo]? = some (.map (bM (kN L 0))):=by rw[eL];exact jk hmo
  have hsz:bL (sub (aE (kN L 0)) (.mk n xs))=bL (.mk n xs):=Kg _
  obtain⟨H2,s',c',t',q1,q2,q3,q4,q5,q6,q7⟩:=PL h0 (UQ (L:=L) (k:=0)) w1 m1 (bD H (.cells (0+1) [.i ((0:Nat):Int)])) (by omega)
  obtain⟨e1,e2⟩:=q5 (by omega)
  have hm2:AS H2 b2 (Lp L.length) m:=by
   rw[eL]
   refine hm.kp fun p st cp l h=>?_
   have hlt:=aB h
   rw[q2.2 p (by simp;omega) (by omega),List.getElem?_append_left hlt]
  obtain⟨H3,u⟩:=hm2.fz
  obtain⟨tn,tx⟩:=t'
  refine⟨H3,tn,tx,e1.symm,ez (wJ) ?_⟩
  rw[hlt,cond_false]
  dsimp only
  rw[ae (bD _ _),o1,ju]
  simp only[mq]at q1
  rw[show((0:Nat):Int)=0 from rfl]at q1
  rw[ao q1,gC]
  rw[show ∀(κ:List D->ag),ar [m,.str p,q] 1 [.str tn,.row 2 (aI tx)] κ=κ [m,.str tn,.row 2 (aI tx)] from fun _=>rfl]
  simp only[aj,aA]
  rw[u]
  rfl
 |v::l,pre,H,m,e,h,hd,hb,hm,hmo=>by
  have hlt:decide ((pre.length:Int)<(L.length:Int))=true:=by rw[e];simp;omega
  have hi:L[pre.length]? = some v:=by rw[e];simp
  have hll:L.length=pre.length+(l.length+1):=by rw[e];simp
  have hn:v∉pre:=fun q=>by
   rw[e,List.nodup_append]at hL
   exact hL.2.2 v q v List.mem_cons_self rfl
  have hw2:cS ((pre.length:Int)+1)=(((pre++[v]).length:Nat):Int):=by
   rw[bE (by omega)];simp
  have nk:=fun H=>Lu (k:=pre.length) (by omega) H
  have eb:bM (kN pre 0)++[(D.str v,D.agg [.str (Fk pre.length),.row 2 []])]=bM (kN (pre++[v]) 0):=by
   rw[QR];simp[bM,cu,aI]
  have hH1:∀(p:Nat) (st cp:Bool) (l:eA),H[p]? = some (DB.buf 1 st cp l)->(H.set mo (.map (bM (kN (pre++[v]) 0))))[p]? = H[p]?:=fun p st cp l q=>List.getElem?_set_ne fun e=>by rw[<- e,hmo]at q;cases q
  have h1:=h.kp hH1
  have hm1:=hm.kp hH1
  have mo1:(H.set mo (.map (bM (kN (pre++[v]) 0))))[mo]? = some (.map (bM (kN (pre++[v]) 0))):=bC _ hmo
  obtain⟨m2,H2,u1,u2,u3⟩:=hm1.add (by simpa using hb) (by rw[Hq];omega) (Fk pre.length)
  rw[<- Te]at u2
  have h2':AS H2 b L d:=by
   rcases h1 with⟨rfl,e⟩|⟨p,hp,rfl,hq⟩
   ·exact .inl ⟨rfl,e⟩
   ·exact .inr ⟨p,hp,rfl,by rw[u3.at' p (hd p _ rfl),hq]⟩
  have mo2:H2[mo]? = some (.map (bM (kN (pre++[v]) 0))):=by rw[u3.nb mo (aB mo1) (fun _ _ _ e=>by rw[mo1]at e;cases e),mo1]
  obtain⟨H',tn,tx,r1,r2⟩:=CB K h0 n xs hs hL h2 mo l (pre++[v]) H2 m2 (by rw[e];simp) h2' hd (Nat.le_trans (by simpa using hb) u3.len) (by simpa using u2) mo2
  refine⟨H',tn,tx,r1,ez (wJ) ?_⟩
  rw[hlt,cond_true,h.at' hi,ao (nk H)]
  rw[show ∀(κ:List D->ag),(ah 1 (.str (Fk pre.length)) fun f=>ar [.str [],.nilrow] 0 f κ)=κ [.str (Fk pre.length),.nilrow] from fun _=>rfl]
  rw[show ∀(κ:D->DH->ag),il (.fz 2) 1 (.agg [.str (Fk pre.length),.nilrow]) H κ=κ (.agg [.str (Fk pre.length),.row 2 []]) H from fun _=>rfl]
  rw[Lw,dz hmo,gQ,Fq v _ (kN pre 0) (AP hn)]
  dsimp only
  rw[eb,Ph (nk _)]
  rw[show ∀(κ:List D->ag),ah 1 (.str (Fk pre.length)) κ=κ [.str (Fk pre.length)] from fun _=>rfl]
  rw[u1,Ub u2]
  rw[show ∀(κ:List D->ag),ar [m,.str p,q] 0 [m2] κ=κ [m2,.str p,q] from fun _=>rfl]
  rw[hw2]
  exact r2
theorem QD(K:ua kind)(h0:∀ d k,lX kind d (.mk [] []) k=none)(n:ac)(xs:List Ty)(H:DH)(hs:aS kind (.mk n xs)≠0):∃ H' tn tx,sub (aE (kN (lV kind (.mk n xs) []) 0)) (.mk n xs)=.mk tn tx/\az 34 [.agg [.str n,.row 2 (aI xs)]] H=ret (.agg [.row 1 (uq (Lp (lV kind (.mk n xs) []).length)),.str tn,.row 2 (aI tx)]) H':=by
 obtain⟨w1,w2,w3,w4⟩:=ig hs
 have hok:(Ty.mk n xs).ok:=oT (kY hs)
 obtain⟨n1,n2,n3⟩:=rL (kind:=kind) (.mk n xs) [] List.nodup_nil
 simp only[List.length_nil,Nat.zero_add]at n3
 obtain⟨d,H1,r1,r2,r3⟩:=pM K (.mk n xs) (H++[.map []]) (H++[DB.map []]).length [] .nilrow (.inl ⟨rfl,rfl⟩) (Nat.le_refl _) List.nodup_nil (by simp;omega) hok
 have hm:H1[H.length]? = some (.map (bM (kN [] 0))):=by rw[r3.at' _ (by simp)];exact bD _ _
 obtain⟨H',tn,tx,e1,e2⟩:=CB K h0 n xs hs (b2:=H1.length) (d:=d) (j:=.nilrow) (l0:=.nilrow) (q:=.nilrow) (k0:=[]) (p:=[]) n1 (by omega) H.length (lV kind (.mk n xs) []) [] H1 .nilrow rfl r2 (fun p n e=>by
  rcases r2 with⟨rfl,_⟩|⟨p',_,rfl,h⟩
  ·cases e
  ·cases e;exact aB h) (Nat.le_refl _) (.inl ⟨rfl,rfl⟩) hm
 refine⟨H',tn,tx,e1,ev (WQ) ?_⟩
 simp only[mq]at r1
 dsimp only
 rw[ao r1,r2.len]
 exact e2
theorem yP(K:ua kind)(h0:∀ d k,lX kind d (.mk [] []) k=none)(n:ac)(xs:List Ty)(H:DH)(hs:aS kind (.mk n xs)≠0):∃ H' tn tx,sub (aE (kN (lV kind (.mk n xs) []) 0)) (.mk n xs)=.mk tn tx/\az 12 [.agg [.row 1 (uq (lV kind (.mk n xs) [])),.str n,.row 2 (aI xs)]] H=ret (.tuple [.agg [.row 1 (uq (Lp (lV kind (.mk n xs) []).length)),.str tn,.row 2 (aI tx)],.i 0]) H':=by
 obtain⟨H1,r1⟩:=LZ K n xs H hs
 obtain⟨H2,r2⟩:=Ma K n xs H1 hs
 obtain⟨H3,tn,tx,e,r3⟩:=QD K h0 n xs H2 hs
 refine⟨H3,tn,tx,e,ev (Xd) ?_⟩
 rw[ao r1]
 simp only[ck,Bool.not_true,ai,cond_false]
 rw[ao r2]
 simp only[ck,Bool.not_true,ai,cond_false]
 rw[ao r3]
 rfl
theorem Cn{L:List ac}(h62:L.length<2^62)(H:DH):∀(l pre:List ac),L=pre++l->af ak 35 200004 [.g (.row 1 (uq L)),.g (.row 1 (uq L)),.n (pre.length:Nat)] [] H=ret (.bool true) H
 |[],pre,e=>by
  refine ez (wH) ?_
  have hlt:decide ((pre.length:Int)<((uq L).length:Int))=false:=by rw[qy,e];simp
  rw[hlt,cond_false]
 |n::l,pre,e=>by
  have hlt:decide ((pre.length:Int)<((uq L).length:Int))=true:=by rw[qy,e];simp;omega
  have hi:(uq L)[pre.length]? = some [.str n]:=Lq (by rw[e];simp)
  have hw2:cS ((pre.length:Int)+1)=(((pre++[n]).length:Nat):Int):=by
   rw[bE (by
    have:L.length=pre.length+(l.length+1):=by rw[e];simp
    omega)];simp
  have sn:∀ κ:D->ag,ay ab .neq 9 false (.str n) (.str n) κ=κ (.bool (!(n==n))):=fun κ=>by kernel_rfl
  refine ez (wH) ?_
  rw[hlt,cond_true,bH,bt hi,aj,bH,bt hi,aj,sn,ai,show(!(n==n))=false from by simp,cond_false,hw2]
  exact Cn h62 H l (pre++[n]) (by rw[e];simp)
theorem KF(L:List ac)(h62:L.length<2^62)(n:ac)(xs:List Ty)(H:DH)(hok:(Ty.mk n xs).ok):az 13 [.agg [.row 1 (uq L),.str n,.row 2 (aI xs)],.agg [.row 1 (uq L),.str n,.row 2 (aI xs)]] H=ret (.bool true) H:=by
 have r1:az 35 [.row 1 (uq L),.row 1 (uq L)] H=ret (.bool true) H:=ev (WP) (by
  rw[show(((uq L).length:Int) !=((uq L).length:Int))=false from by simp,cond_false]
  exact Cn h62 H L [] rfl)
 have r2:=GU (.mk n xs) (.mk n xs) H hok
 rw[show EA (.mk n xs) (.mk n xs)=true from(Cm _ _).2 rfl]at r2
 simp only[mq]at r2
 refine ev (Xc) ?_
 rw[ao r1,ai,cond_true,ao r2]
end Go.Proofs.YtenibcfppefobaaGreatDoor
set_option linter.all false
noncomputable section
namespace Go.Proofs.YtenibcfppefobaaGreatDoor
open Go.AI
theorem Ac.fz2{H:DH}{b:Nat}{l:eA}{o n:Nat}(h:Ac H b 2 l (.buf 2 o n)):∃ H',∀ κ:D->DH->ag,il (.fz 2) 0 (.buf 2 o n) H κ=κ (.row 2 l) H':=by
 obtain⟨H',u,_⟩:=h.fz
 exact⟨H',fun κ=>u κ⟩
theorem Ic(a b:Int)(κ:D->ag):ay ab .neq 28 false (.i a) (.i b) κ=κ (.bool (a != b)):=by kernel_rfl
theorem Pm(a b:Int)(κ:D->ag):ay ab .eql 28 false (.i a) (.i b) κ=κ (.bool (a==b)):=by kernel_rfl
mutual
theorem Na{kind:ac->Int}{σ:ac->Option Ty}(hσ:∀ n t,σ n=some t->tO kind t):∀ t,tO kind t->tO kind (sub σ t)
 |.mk n xs,h=>by
  have k:=MZ hσ xs
  simp only[tO]at h
  unfold sub
  split
  ·rename_i u e;exact hσ _ _ e
  ·simp only[tO,mu,List.length_map]
   rw[<- mu]
   exact⟨h.1,k h.2⟩
theorem MZ{kind:ac->Int}{σ:ac->Option Ty}(hσ:∀ n t,σ n=some t->tO kind t):∀ l,pQ kind l->pQ kind (fT σ l)
 |[],_=>trivial
 |t::r,h=>⟨Na hσ t h.1,MZ hσ r h.2⟩
end
theorem Mh{kind:ac->Int}{bs:List (ac×Ty)}(h:kz kind bs=true):∀ n t,aE bs n=some t->tO kind t:=fun n t e=>by
 obtain⟨p,a,rfl⟩:=se e
 rw[kz,Bool.and_eq_true]at h
 have:∀ {bs done:List (ac×Ty)},Ew kind done bs=true->∀ p∈bs,tO kind p.2:=fun {bs}=>by
  induction bs with
  |nil=>intro _ _ p h;cases h
  |cons q r ih =>
   intro done h p hp
   obtain⟨n,t⟩:=q
   simp only[Ew,Bool.and_eq_true,Bool.not_eq_true',beq_eq_false_iff_ne]at h
   rcases List.mem_cons.1 hp with rfl|hp
   ·exact kY h.1.2
   ·exact ih h.2 p hp
 exact this h.2 p a
variable{kind:ac->Int}(K:ua kind)(h0:∀ d k,lX kind d (.mk [] []) k=none)(k1:(kind [45,62]==4)=false)(k2:(kind [44]==4)=false){all:List Ty}(hok:Ty.oks all)
theorem Hx(t:Ty):∃ n xs,t=.mk n xs:=by cases t;exact⟨_,_,rfl⟩
def mL(all:List Ty):List Ty:=all.reverse++[nN all 0]
include K hok in
theorem LM(h6:all.length<=6):∀(l pre:List Ty) (H:DH),all=pre++l ->
 ∃ H',af ak 4 200005 [.g (.row 2 (aI all)),.g (.bool true),.n (pre.length:Nat)] [] H=ret (.bool true) H'\/((∀ t∈l,aS kind t<=60)/\af ak 4 200005 [.g (.row 2 (aI all)),.g (.bool true),.n (pre.length:Nat)] [] H=af ak 4 200011 [.g (.row 2 (aI all)),.g (.bool true),.g .nilrow,.n 0] [] H')
 |[],pre,H,e=>by
  have hlt:decide ((pre.length:Int)<((aI all).length:Int))=false:=by rw[bf,e];simp
  refine⟨H,.inr ⟨fun _ h=>(nomatch h),ez (zJ) ?_⟩⟩
  rw[hlt,cond_false]
 |t::l,pre,H,e=>by
  have hlt:decide ((pre.length:Int)<((aI all).length:Int))=true:=by rw[bf,e];simp;omega
  have hw2:cS ((pre.length:Int)+1)=(((pre++[t]).length:Nat):Int):=by
   rw[bE (by
    have:all.length=pre.length+(l.length+1):=by rw[e];simp
    omega)];simp
  have tm:t∈all:=by rw[e];simp
  have h2:(aI all)[pre.length]? = some (cu t):=by rw[e];exact iu _ _ _
  obtain⟨X,z1⟩:=kX K t H (AJ hok t tm)
  have st:∀ z,(cond (decide (((aS kind t:Nat):Int)>60)) (ret (.bool true) (H++X)) (af ak 4 200005 [.g (.row 2 (aI all)),.g (.bool true),.n ((pre++[t]).length:Nat)] [] (H++X)))=z->af ak 4 200005 [.g (.row 2 (aI all)),.g (.bool true),.n (pre.length:Nat)] [] H=z:=fun z hz=>by
   refine ez (zJ) ?_
   obtain⟨tn,tx⟩:=t
   simp only[cu]at h2 z1
   rw[hlt,cond_true,bH,bt h2]
   simp only[aj,aA]
   rw[ao z1,fC,ai,hw2]
   exact hz
  by_cases q2:aS kind t<=60
  ·have e2:decide (((aS kind t:Nat):Int)>60)=false:=by simp;omega
   obtain⟨H',ih⟩:=LM h6 l (pre++[t]) (H++X) (by rw[e];simp)
   rcases ih with ih|⟨i1,i2⟩
   ·exact⟨H',.inl (st _ (by rw[e2,cond_false];exact ih))⟩
   ·refine⟨H',.inr ⟨fun t' h=>?_,st _ (by rw[e2,cond_false];exact i2)⟩⟩
    rcases List.mem_cons.1 h with rfl|h
    ·exact q2
    ·exact i1 t' h
  ·have e2:decide (((aS kind t:Nat):Int)>60)=true:=by simp;omega
   exact⟨_,.inl (st _ (by rw[e2,cond_true]))⟩
theorem LL(h6:all.length<=6):∀(l pre:List Ty) (H:DH) (d:D),all.reverse=pre++l->Ac H 0 2 (aI pre) d ->
 ∃ H' d',Ac H' 0 2 (aI all.reverse) d'/\af ak 4 200011 [.g (.row 2 (aI all)),.g (.bool true),.g d,.n (pre.length:Nat)] [] H=af ak 4 200011 [.g (.row 2 (aI all)),.g (.bool true),.g d',.n (all.length:Nat)] [] H'
 |[],pre,H,d,e,h=>by
  have el:pre.length=all.length:=by have:=congrArg List.length e;simp at this;omega
  exact⟨H,d,by rw[e];simpa using h,by rw[el]⟩
 |t::l,pre,H,d,e,h=>by
  have el:all.length=pre.length+(l.length+1):=by have:=congrArg List.length e;simpa using this
  have hlt:decide ((pre.length:Int)<((aI all).length:Int))=true:=by rw[bf];simp;omega
  have hw2:cS ((pre.length:Int)+1)=(((pre++[t]).length:Nat):Int):=by
   rw[bE (by omega)];simp
  have hi:all[all.length - 1 - pre.length]? = some t:=by
   have:all.reverse[pre.length]? = some t:=by rw[e];simp
   rw[List.getElem?_reverse (by omega)]at this
   exact this
  have h2:(aI all)[all.length - 1 - pre.length]? = some (cu t):=by rw[dB,List.getElem?_map,hi];rfl
  have hw:cS ((cS ((((aI all).length:Nat):Int) - 1)) - (pre.length:Nat))=((all.length - 1 - pre.length:Nat):Int):=by
   rw[bf]
   have e1:(((all.length:Nat):Int) - 1)=((all.length - 1:Nat):Int):=by omega
   have wn:∀ n:Nat,n<2^62->cS (n:Int)=n:=fun n h=>by
    cases n with
    |zero=>rfl
    |succ n=>have:=tc (n:=n) (by omega);simpa using this
   rw[e1,wn _ (by omega),show(((all.length - 1:Nat):Int) - (pre.length:Nat))=((all.length - 1 - pre.length:Nat):Int)from by omega,wn _ (by omega)]
  obtain⟨tn,tx⟩:=t
  obtain⟨d1,H1,u1,u2,_,_⟩:=h.add (Nat.zero_le _) (by rw[bf];omega) (cu (.mk tn tx))
  have e2:aI pre++[cu (.mk tn tx)]=aI (pre++[.mk tn tx]):=by rw[dB,dB];simp
  rw[e2]at u2
  obtain⟨H',d',r1,r2⟩:=LL h6 l (pre++[.mk tn tx]) H1 d1 (by rw[e];simp) u2
  refine⟨H',d',r1,Eq.trans (ez (sH) ?_) r2⟩
  simp only[mq]at h2 u1
  rw[hlt,cond_true,hw,bH,bt h2]
  simp only[aj,aA]
  rw[u1,hw2]
include K h0 k1 k2 hok
theorem Vb(H:DH)(h62:all.length<2^62):∃ H',az 4 [.row 2 (aI all)] H=ret (.bool true) H':=by
 by_cases c2:all.length<2
 ·refine⟨H,ev (f4) ?_⟩
  have e1:decide (((aI all).length:Int)<2)=true:=by rw[bf];simp;omega
  rw[ao (EP H),e1,cond_true]
 ·by_cases c6:all.length<=6
  ·have e1:decide (((aI all).length:Int)<2)=false:=by rw[bf];simp;omega
   have e2:decide (((aI all).length:Int)>6)=false:=by rw[bf];simp;omega
   have pre:∀ z,af ak 4 200005 [.g (.row 2 (aI all)),.g (.bool true),.n 0] [] H=z->az 4 [.row 2 (aI all)] H=z:=fun z hz=>by
    refine ev (f4) ?_
    rw[ao (EP H),e1,cond_false,e2,cond_false]
    exact hz
   obtain⟨H1,r1⟩:=LM K hok c6 all [] H rfl
   rcases r1 with r1|⟨h60,r1⟩
   ·exact⟨H1,pre _ r1⟩
   ·obtain⟨H2,d,a2,r2⟩:=LL (all:=all) c6 all.reverse [] H1 .nilrow rfl (.inl ⟨rfl,rfl⟩)
    obtain⟨t,htm⟩:∃ t,t∈all:=by
     cases all with
     |nil=>simp at c2
     |cons x r=>exact⟨x,List.mem_cons_self⟩
    have t0:=SZ htm
    have um:=List.mem_of_getElem? t0
    have h3:(aI all)[0]? = some (cu (nN all 0)):=by rw[dB,List.getElem?_map,t0];rfl
    have hm:∀ t,t∈all↔t∈mL all:=fun t=>by
     simp only[mL,List.mem_append,List.mem_reverse,List.mem_singleton]
     exact⟨.inl,fun h=>h.elim id fun e=>e▸um⟩
    have hokm:Ty.oks (mL all):=by
     have:∀ {l:List Ty},(∀ t∈l,t.ok)->Ty.oks l:=fun {l}=>by
      induction l with
      |nil=>intro _;trivial
      |cons x r ih=>intro h;exact⟨h x List.mem_cons_self,ih fun t ht=>h t (List.mem_cons_of_mem _ ht)⟩
     exact this fun t ht=>AJ hok t ((hm t).2 ht)
    have ml:(mL all).length<=16:=by simp[mL];omega
    have o0:=AJ hok _ um
    have eml:aI all.reverse++[cu (nN all 0)]=aI (mL all):=by rw[dB,dB,mL];simp
    generalize hu:nN all 0=u at h3 um o0 eml
    obtain⟨un,ux⟩:=u
    obtain⟨d3,H3,u1,u2,_,o3,n3,rfl⟩:=a2.add (Nat.zero_le _) (by rw[bf];simp;omega) (cu (.mk un ux))
    rw[eml]at u2
    obtain⟨H4,u3⟩:=u2.fz2
    obtain⟨w,H5,s1,s2⟩:=yL K k1 k2 all H4 (by omega) hok h60
    obtain⟨w',H6,s3,s4⟩:=yL K k1 k2 (mL all) H5 ml hokm fun t ht=>h60 t ((hm t).2 ht)
    have hlt:decide (((all.length:Nat):Int)<((aI all).length:Int))=false:=by rw[bf];simp
    simp only[mq]at h3 u1
    have rel:(∃ e:Int,e≠0/\w=.tuple [.row 3 [],.i e]/\w'=.tuple [.row 3 [],.i e])\/((∀ t∈all,aS kind t≠0)/\∃ bs bs':List (ac×Ty),w=.tuple [.row 3 (bs.map tK),.i 0]/\w'=.tuple [.row 3 (bs'.map tK),.i 0]/\SM kind all bs/\SM kind (mL all) bs'/\Iq kind all (aE bs)/\Iq kind (mL all) (aE bs')):=by
     rcases s2 with⟨⟨t,ht,e⟩,s2⟩|⟨q,s2⟩
     ·rcases s4 with⟨_,s4⟩|⟨q,_⟩
      ·exact .inl ⟨32,by decide,s2,s4⟩
      ·exact(q t ((hm t).1 ht) e).elim
     ·rcases s4 with⟨⟨t,ht,e⟩,_⟩|⟨_,s4⟩
      ·exact(q t ((hm t).2 ht) e).elim
      ·rcases s2.same hm s4 with h|h
       ·exact .inl h
       ·exact .inr ⟨q,h⟩
    rcases rel with⟨e,he,rfl,rfl⟩|⟨hsz,bs,bs',rfl,rfl,S,S',M,M'⟩
    ·refine⟨H6,pre _ (Eq.trans r1 (Eq.trans r2 (ez (sH) ?_)))⟩
     rw[hlt,cond_false,bt h3]
     simp only[aj,aA]
     rw[u1,u3,ao s1]
     simp only[dn,aj,aA]
     rw[ao s3]
     simp only[dn,aj,aA,Bool.not_true,cond_false]
     rw[Ic,ai,show(e != e)=false from by simp,cond_false,sS,ai,show(e != 0)=true from by simpa using he,cond_true]
    ·obtain⟨H7,p1⟩:=Uc K h0 bs un ux H6 S.ok o0
     obtain⟨H8,p2⟩:=Uc K h0 bs' un ux H7 S'.ok o0
     have sz:=hsz _ um
     have um':=(hm _).1 um
     have sA:rA all (.mk un ux):=⟨_,um,.refl _⟩
     have sB:rA (mL all) (.mk un ux):=⟨_,um',.refl _⟩
     have t1:=M.to hm M' sA
     have t2:=M'.to (fun t=>(hm t).symm) M sB
     have vA:=Na (Mh S.good) _ (kY sz)
     have vB:=Na (Mh S'.good) _ (kY sz)
     generalize hA:sub (aE bs) (.mk un ux)=A at t1 t2 vA
     generalize hB:sub (aE bs') (.mk un ux)=B at t1 t2 vB
     have zA:=Ag (aE bs') A
     have zB:=Ag (aE bs) B
     rw[t1]at zA
     rw[t2]at zB
     have head:∀ z,(cond ((BR kind bs (.mk un ux)).2.2 != 0) (ret (.bool ((BR kind bs (.mk un ux)).2.2==(BR kind bs' (.mk un ux)).2.2)) H8) (cond ((BR kind bs' (.mk un ux)).2.2 != 0) (ret (.bool ((BR kind bs (.mk un ux)).2.2==(BR kind bs' (.mk un ux)).2.2)) H8) (C ak 11 [.agg [.str (BR kind bs (.mk un ux)).1,(BR kind bs (.mk un ux)).2.1]] H8 fun a H=>cO a 0 fun b=>cO a 1 fun a=>ah 3 b fun b=>ar [.nilrow,.str [],.nilrow] 0 b fun b=>C ak 11 [.agg [.str (BR kind bs' (.mk un ux)).1,(BR kind bs' (.mk un ux)).2.1]] H fun c H=>cO c 0 fun d=>cO c 1 fun c=>ah 3 d fun d=>ar [.nilrow,.str [],.nilrow] 0 d fun d=>ay ab .neq 28 true a (.i 0) fun a=>brD a (ret (.bool false) H) (ay ab .neq 28 true c (.i 0) fun a=>brD a (ret (.bool false) H) (aF b 0 fun a=>aF b 1 fun c=>aF b 2 fun b=>C ak 12 [.agg [a,c,b]] H fun a H=>cO a 0 fun b=>cO a 1 fun a=>ah 3 b fun b=>ar [.nilrow,.str [],.nilrow] 0 b fun b=>aF d 0 fun c=>aF d 1 fun e=>aF d 2 fun d=>C ak 12 [.agg [c,e,d]] H fun c H=>cO c 0 fun d=>cO c 1 fun c=>ah 3 d fun d=>ar [.nilrow,.str [],.nilrow] 0 d fun d=>ay ab .eql 28 true a (.i 0) fun a=>brD a (ay ab .eql 28 true c (.i 0) fun a=>brD a (aF b 0 fun a=>aF b 1 fun c=>aF b 2 fun b=>aF d 0 fun e=>aF d 1 fun f=>aF d 2 fun d=>C ak 13 [.agg [a,c,b],.agg [e,f,d]] H fun a H=>ret a H) (ret (.bool false) H)) (ret (.bool false) H))))))=z->az 4 [.row 2 (aI all)] H=z:=fun z hz=>by
      refine pre _ (Eq.trans r1 (Eq.trans r2 (ez (sH) ?_)))
      rw[hlt,cond_false,bt h3]
      simp only[aj,aA]
      rw[u1,u3,ao s1]
      simp only[dn,aj,aA]
      rw[ao s3]
      simp only[dn,aj,aA,Bool.not_true,cond_false]
      rw[Ic,ai,show((0:Int) != 0)=false from rfl,cond_false,sS,ai,show((0:Int) != 0)=false from rfl,cond_false,bt h3]
      simp only[aj,aA]
      rw[ao p1]
      simp only[dn,aj,aA,gC,vD]
      rw[bt h3]
      simp only[aj,aA]
      rw[ao p2]
      simp only[dn,aj,aA,gC,vD]
      rw[sS,ai,Pm,sS,ai]
      exact hz
     rcases MS sz S.good with q1|⟨q1,z1⟩
     ·rcases MS sz S'.good with q2|⟨q2,z2⟩
      ·exact⟨H8,head _ (by rw[q1,q2];rfl)⟩
      ·exfalso
       rw[hB]at z2
       obtain⟨_,w2,_,w4⟩:=ig z2
       have:=Gx vA (by omega) (by omega)
       have ap:JN kind bs (.mk un ux):=⟨sz,S.good,by rw[hA];exact this⟩
       obtain⟨an,ax,e⟩:=Hx A
       rw[ap.eq (hA.trans e)]at q1
       cases q1
     ·rcases MS sz S'.good with q2|⟨q2,z2⟩
      ·exfalso
       rw[hA]at z1
       obtain⟨_,w2,_,w4⟩:=ig z1
       have:=Gx vB (by omega) (by omega)
       have ap:JN kind bs' (.mk un ux):=⟨sz,S'.good,by rw[hB];exact this⟩
       obtain⟨an,ax,e⟩:=Hx B
       rw[ap.eq (hB.trans e)]at q2
       cases q2
      ·have ap1:JN kind bs (.mk un ux):=⟨sz,S.good,z1⟩
       have ap2:JN kind bs' (.mk un ux):=⟨sz,S'.good,z2⟩
       rw[hA]at z1
       rw[hB]at z2
       obtain⟨rn1,rn2⟩:=KO (σ:=aE bs) (τ:=aE bs') M.vs M'.vs (PJ k1 k2 vA) t1 t2
       obtain⟨an,ax,rfl⟩:=Hx A
       obtain⟨bn,bx,rfl⟩:=Hx B
       obtain⟨H9,c1⟩:=DU K h0 an ax H8 z1
       obtain⟨H10,c3⟩:=DU K h0 bn bx H9 z2
       obtain⟨H11,tn,tx,e3,c4⟩:=yP K h0 an ax H10 z1
       obtain⟨H12,tn',tx',e4,c5⟩:=yP K h0 bn bx H11 z2
       rw[e3,e4]at rn2
       injection rn2 with rn2 rn3
       subst rn2
       subst rn3
       rw[<- rn1]at c5
       have hnd:=(rL (kind:=kind) (.mk an ax) [] List.nodup_nil).2.2
       obtain⟨_,w2,_⟩:=ig z1
       simp only[List.length_nil,Nat.zero_add]at hnd
       have okk:(Ty.mk tn tx).ok:=by
        rw[<- e3]
        refine WB (fun s x h=>?_) _ (oT (kY z1))
        have:∀ {L:List ac} {k:Nat},aE (kN L k) s=some x->x.ok:=fun {L}=>by
         induction L with
         |nil=>intro k e;cases e
         |cons v r ih =>
          intro k e
          simp only[kN,aE]at e
          split at e
          ·cases e;exact⟨by simp,trivial⟩
          ·exact ih e
        exact this h
       have c6:=KF (Lp (lV kind (.mk an ax) []).length) (by rw[Hq];omega) tn tx H12 okk
       refine⟨H12,head _ ?_⟩
       rw[q1,q2,ap1.eq hA,ap2.eq hB]
       rw[show((0:Int) != 0)=false from rfl,cond_false,cond_false,ao c1]
       simp only[dn,aj,aA]
       rw[show ∀(a b c:D) (κ:List D->ag),(ah 3 (.agg [a,b,c]) fun b=>ar [.nilrow,.str [],.nilrow] 0 b κ)=κ [a,b,c] from fun _ _ _ _=>rfl]
       rw[ao c3]
       simp only[dn,aj,aA]
       rw[show ∀(a b c:D) (κ:List D->ag),(ah 3 (.agg [a,b,c]) fun b=>ar [.nilrow,.str [],.nilrow] 0 b κ)=κ [a,b,c] from fun _ _ _ _=>rfl]
       rw[sS,ai,sS,ai,show((0:Int) != 0)=false from rfl,cond_false,cond_false]
       simp only[aj,aA]
       rw[ao c4]
       simp only[dn,aj,aA]
       rw[show ∀(a b c:D) (κ:List D->ag),(ah 3 (.agg [a,b,c]) fun b=>ar [.nilrow,.str [],.nilrow] 0 b κ)=κ [a,b,c] from fun _ _ _ _=>rfl]
       rw[ao c5]
       simp only[dn,aj,aA]
       rw[show ∀(a b c:D) (κ:List D->ag),(ah 3 (.agg [a,b,c]) fun b=>ar [.nilrow,.str [],.nilrow] 0 b κ)=κ [a,b,c] from fun _ _ _ _=>rfl]
       rw[MM,ai,MM,ai,show((0:Int)==0)=true from rfl,cond_true,cond_true]
       simp only[aj,aA]
       rw[ao c6]
  ·refine⟨H,ev (f4) ?_⟩
   have e1:decide (((aI all).length:Int)<2)=false:=by rw[bf];simp;omega
   have e2:decide (((aI all).length:Int)>6)=true:=by rw[bf];simp;omega
   rw[ao (EP H),e1,cond_false,e2,cond_true]
end Go.Proofs.YtenibcfppefobaaGreatDoor
set_option linter.all false
noncomputable section
namespace Go.Proofs.YtenibcfppefobaaGreatDoor.Rd
open Go.AI Go.Proofs.YtenibcfppefobaaGreatDoor
theorem Qx{d:D}(h:Ns .str d):∃ l,d=.str l:=by cases h;exact⟨_,rfl⟩
theorem KA{ds:List D}(h:In [] ds):ds=[]:=List.length_eq_zero_iff.1 h.1
theorem An{k:Ck}{ks:List Ck}{ds:List D}(h:In (k::ks) ds):∃ d r,ds=d::r/\Ns k d/\In ks r:=by
 cases ds with
 |nil=>have:=h.1;simp at this
 |cons d r=>exact⟨d,r,rfl,h.2 0 k d rfl rfl,by have:=h.1;simpa using this,fun i k d h1 h2=>h.2 (i+1) k d (by simpa using h1) (by simpa using h2)⟩
theorem pick{α:Type}{f:α->List D}{p:α->Prop}:∀ {l:List (List D)},(∀ cs∈l,∃ x,cs=f x/\p x)->∃ xs:List α,l=xs.map f/\∀ x∈xs,p x
 |[],_=>⟨[],rfl,fun _ h=>by cases h⟩
 |cs::r,h=>by
  obtain⟨x,h1,h2⟩:=h cs List.mem_cons_self
  obtain⟨xs,h3,h4⟩:=pick fun c hc=>h c (List.mem_cons_of_mem _ hc)
  exact⟨x::xs,by rw[h1,h3];rfl,fun y hy=>(List.mem_cons.1 hy).elim (fun e=>e▸h2) (h4 y)⟩
theorem Tk:HE 22=[.str,.sl 22]:=by kernel_rfl
theorem SX{k:Ck}{d:D}(h:Ns k d):k=.sl 22->∃ xs,d=.row 2 (aI xs)/\xs.length<2^62/\Ty.oks xs:=by
 induction h with
 |row t ly l hly hl hn he ih =>
  intro e
  cases e
  rw[Tk]at hly
  subst hly
  obtain⟨xs,rfl,hx⟩:=pick (f:=cu) (p:=Ty.ok) (l:=l) fun cs hc=>by
   obtain⟨a,r,rfl,h1,h⟩:=An (⟨hn cs hc,he cs hc⟩:In [.str,.sl 22] cs)
   obtain⟨b,r,rfl,h2,h⟩:=An h
   cases KA h
   obtain⟨n,rfl⟩:=Qx h1
   obtain⟨xs,rfl,h3⟩:=ih _ hc 1 _ b rfl rfl rfl
   exact⟨.mk n xs,by rw[cu],by rw[Ty.ok];exact h3⟩
  refine⟨xs,by rw[dB];rfl,?_,Ty.oks_iff.2 hx⟩
  rw[List.length_map]at hl
  omega
 |_=>intro e;cases e
theorem Vc:fx []=0:=by simp[fx]
theorem Wm{l:ac}(h:pk l 0≠39):(fx l==4)=false:=by
 have key:fx l≠4:=by
  unfold fx
  split
  ·decide
  ·cases e:fD l 0 with
   |none=>simp
   |some p =>
    obtain⟨k,n⟩:=p
    have:k≠4:=by
     unfold fD at e
     grind
    simp only
    split
    ·exact this
    ·decide
 simpa using key
theorem Vf:(fx [45,62]==4)=false:=Wm (by decide)
theorem Ve:(fx [44]==4)=false:=Wm (by decide)
theorem Vd(d k:Nat):lX fx d (.mk [] []) k=none:=by
 unfold lX
 rw[if_neg]
 rintro⟨h,_⟩
 simp[oi,Vc]at h
end Go.Proofs.YtenibcfppefobaaGreatDoor.Rd
set_option linter.all false
noncomputable section
namespace Go.Proofs.YtenibcfppefobaaGreatDoor.Rd
open Go.AI Go.Proofs Go.Proofs.YtenibcfppefobaaGreatDoor Go.ChangeShapes Go.WideShapes Go.ChangeAt Go.RowKit
theorem TE:Go.AI.Good Tryz.prog (lim lK):=LG (cP rfl rfl) UO (bB rfl rfl)
theorem MN{W W':World}{ρ':aw}(h:FR (Ro W.heap.size) W ρ' W'):Below W.heap.size W W' :=
 ⟨h.os,h.tape,h.output,h.size,fun k hk=>h.same k hk fun f v l e hro=>by
  unfold Ro at e
  split at e
  ·cases e;exact absurd (show(0:Nat)<1 from Nat.zero_lt_one) hro
  ·cases e⟩
theorem Ml{W:World}{o f v:Nat}(h:(Rd.g0 W).O[o]? = some (some (f,v))):False:=by
 have h:([]:List (Option (Nat×Nat)))[o]? = some (some (f,v)):=h
 simp at h
theorem TF{W:World}(h:Ir W)(hs:6<=W.heap.size):Ok (Rd.g0 W):=by
 refine⟨rfl,NG W,fun o o' f v v' h=>(Ml h).elim,fun o f v h=>(Ml h).elim,?_,?_,IW h,fun f hf=>⟨?_,?_,fun o v h=>Ml h⟩⟩
 ·intro f hf
  have hf:f∈([]:List Nat):=hf
  simp at hf
 ·intro o b hb
  have hb:([]:List DB)[o]? = some b:=hb
  simp at hb
 ·show f<(bS W).next
  unfold bS;rw[ku]
  have hf:f∈[0,1,4,5]:=hf
  simp only[List.mem_cons,List.mem_nil_iff,or_false]at hf
  omega
 ·show f∉([]:List Nat)
  simp
theorem Jn{f:FuncId}{W:World}{args:List D}{X:DH}{vs:List V}{ys:List Value}(hG:Ok (g0 W))(h:dZ de (.call f args none) []=ret (.bool true) X)(hr:Go.AI.RL (g0 W) args vs)(hd:aL (Ro W.heap.size) vs=some ys) :
 Calls Tryz.prog f ys.toArray W fun e w'=>e=.returned (.bool true)/\Below W.heap.size W w':=by
 obtain⟨s',call⟩:=Oy h (g:=g0 W) rfl hG hr
 have hs:fv Tryz.prog f vs none (bS W) ⟨.returned (.bool true),none,s'⟩:=TE (.call f _ none) _ _ call
 refine(xm hs (GR W) hd).mono fun e w' ⟨ρ',z,he,hz,_,hfr⟩=>?_
 simp only[den,Option.some.injEq]at hz
 subst hz
 exact⟨he,MN hfr⟩
theorem own:ownKnob Tryz.prog.godebug=none:=by kernel_rfl
theorem Oz:laidOutB Tryz.prog=true:=by kernel_rfl
theorem ST:Tryz.prog.readableRec 22=true:=by kernel_rfl
theorem SR:22<Tryz.prog.types.size:=of_decide_eq_true (by kernel_rfl)
theorem Pg:Tryz.prog.cellsOf 22=1:=by kernel_rfl
theorem Tm:IS 8 22=some [.sl 22]:=by kernel_rfl
theorem QC{g:Gh}{d:D}{l:List V}(h:Go.AI.RL g [d] l):∃ v,l=[v]/\RD g d v:=by
 simp only[Go.AI.RL]at h
 obtain⟨v,r,rfl,h1,rfl⟩:=h
 exact⟨v,rfl,h1⟩
theorem Gc{ρ:aw}{v:V}{y:Value}(h:aL ρ [v]=some [y]):den ρ v=some y:=by
 simp only[aL]at h
 cases e:den ρ v with
 |none=>rw[e]at h;cases h
 |some z=>rw[e]at h;cases h;rfl
end Go.Proofs.YtenibcfppefobaaGreatDoor.Rd
namespace Go.Proofs.YtenibcfppefobaaGreatDoor.inferOrder
open Go.AI Go.Proofs Go.Proofs.YtenibcfppefobaaGreatDoor Go.ChangeShapes Go.WideShapes Go.ChangeAt Go.RowKit Go.Proofs.YtenibcfppefobaaGreatDoor.Rd
set_option maxRecDepth 100000 in
theorem lifted(os:Os)(started:os.Started)(H:Type)(enc:TypeId×Value->H)(F:Stop.Interp) :
 ReturnsInHanded {} Tryz.checked os 4 .any ((OpenSpec.ofChange Rows.inferOrderSpec).preRow enc Tryz.prog Tryz.f4 Rows.inferOrderRow.domain false Rows.inferOrderRow.laid) (((OpenSpec.ofChange Rows.inferOrderSpec).at F).post enc Tryz.prog Tryz.f4 false true false false):=by
 refine returnsInHanded_of_row (C:=Tryz.checked) (s:=OpenSpec.ofChange Rows.inferOrderSpec) own started (by kernel_rfl) Tryz.func4
  (ChangeSpec.witness_shaped (enc:=enc) (C:=Tryz.checked) (os:=os) (X:=fun w _=>laidMetH Tryz.prog Rows.inferOrderRow.laid w) false (World.laidAll Tryz.prog os Rows.inferOrderRow.laid)
   #[.slice none 0 0] 8 (World.laidAll_os _ _ _)
   (World.shaped_of_ZipB (by kernel_rfl) (by kernel_rfl)) (by kernel_rfl) (by kernel_rfl) (by kernel_rfl)
   (by rw[MakeChecks.laidMetH_plain _ _ _ (by kernel_rfl)];exact laidMet_laidAll _ (by kernel_rfl) (by kernel_rfl))) ?_
 intro W base args ds gs before hval0 hW _ _ hsz0 hlaid hshaped _
 have hval:∀(j:Nat) t v,Tryz.f4.params[j]? = some t->args[j]? = some v->Value.okWide Tryz.prog W .any base t v:=hval0
 rw[MakeChecks.laidMetH_plain _ _ _ (by kernel_rfl)]at hlaid
 have hG:Ir W:=Mj hlaid hshaped
 have hW':=hW
 obtain⟨p,q,hA0,hV,rfl,hfz,hnd⟩:=hW
 have hA:DataW.TrodAll enc Tryz.prog W 0 (fun _=>true) true Tryz.f4.params.toList args.toList ds p:=hA0
 have hsz:(DataW.weightsEach Tryz.prog (Tryz.f4.params.toList++[]) (ds++gs)).all (·<=reachBytes)=true:=hsz0
 rw[Tryz.params4]at hA hval hsz
 obtain⟨v0,vs0,d0,ds0,p0,q0,hargs,rfl,rfl,h0,r0⟩:=trodAll_cons hA
 obtain⟨rfl,rfl,rfl⟩:=trodAll_nil r0
 obtain rfl:args=#[v0]:=by cases args;simp_all
 obtain⟨rfl,rfl⟩:=trodVars_none hV
 obtain⟨a0,l0,c0,rfl⟩:=okWide_slice Tryz.underlying22 (hval 0 22 v0 rfl rfl)
 obtain⟨n0,g0'⟩:=h0
 have hwt:∀(i:Nat) t (d:DataW H),[22][i]? = some t->[d0][i]? = some d->Wt t d:=fun i t d e1 e2 n hn=>by
  have:=List.all_eq_true.1 hsz n (iP (i:=i) (by simpa using e1) (by simpa using e2) n hn)
  simpa using this
 obtain⟨x0,b0,a0',r0,s0,_⟩:=SU (W:=W) n0 8 (x:=(d0,p0)) (Nat.le_refl _) Tm Pg g0' (hwt 0 22 d0 rfl rfl)
 obtain⟨y0,z0,rfl,t0,s0⟩:=An s0
 cases KA s0
 obtain⟨all,rfl,hl,hlo⟩:=SX t0 rfl
 obtain⟨u0,rfl,w0⟩:=QC r0
 obtain⟨X,hX⟩:=Vb WI Vd Vf Ve hlo [] hl
 have hsize:6<=W.heap.size:=by
  obtain⟨te,b,off,e,fz,hh,_⟩:=hG.rng
  have:=(Array.getElem?_eq_some_iff.1 hh).1
  omega
 have walk:=Jn (f:=4) (ys:=[.slice a0 l0 c0]) (TF hG hsize) hX (vs:=[u0]) (by
  simp only[Go.AI.RL]
  exact⟨_,_,rfl,w0,rfl⟩) (by
  have e0:=Gc (js.den a0')
  simp only[aL]
  rw[e0])
 refine walk.mono fun e W' ⟨he,hbl⟩=>?_
 subst he
 have hlt:=hW'.lt
 refine⟨_,rfl,_,_,_,[],p0++[],[],hW',trodAll_mk1 (shut_bool Tryz.underlying4 _),?_,rfl,hbl.frame _,fun h=>by cases h⟩
 show DataW.TrodAll enc Tryz.prog W' 0 (fun b=>decide (b<W.heap.size)) true Tryz.f4.params.toList _ [d0] _
 rw[Tryz.params4]
 exact⟨p0,[],Below.trod Oz ST SR ⟨n0,g0'⟩ hbl (fun z hz=>hlt z (by simp[hz])),rfl,rfl⟩
end Go.Proofs.YtenibcfppefobaaGreatDoor.inferOrder
