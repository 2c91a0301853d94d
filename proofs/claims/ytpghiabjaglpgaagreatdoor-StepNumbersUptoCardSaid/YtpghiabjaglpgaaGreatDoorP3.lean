/- What the functions answer, in deep values: part 3. No conditions beyond those of the row. -/
import Derived.Test.YtpghiabjaglpgaaGreatDoorP2
set_option linter.all false
noncomputable section
namespace Go.Proofs.YtpghiabjaglpgaaGreatDoor
open Go.AI
mutual
theorem Mn:∀(t:Pa) (p c:Nat) (H:DH),t.ok->p<=101->c<=2001->ab de (.call 194 [.agg (dD t),.int .i64 (p:Nat),.int .i64 (c:Nat)] none) H=ret (.int .i64 (min (c+zc t p) 2001:Nat)) H
 |.mk k n xs,p,c,H,h,hp,hc=>by
  simp only[Pa.ok]at h
  refine ev (by simp only[dD];exact ZX _ _ _ _ _ _ _) ?_
  rw[Cv,AN,zc]
  cases hq:decide (p>100)with
  |true=>rw[cond_true,cond_true,show min (c+0) 2001=c by omega]
  |false =>
   have hp2:p<=100:=by simp at hq;omega
   rw[cond_false,cond_false]
   cases hq2:decide (c>2000)with
   |true =>
    have hc2:c>2000:=by simpa using hq2
    rw[cond_true,show min (c+(1+ep xs (p+1))) 2001=c by omega]
   |false =>
    have hc2:¬ c>2000:=by simpa using hq2
    rw[cond_false,aq (show c<2^62 by omega)]
    refine(Iu k n xs p hp2 H h.1 [] xs (c+1) rfl h.2 (by omega)).trans ?_
    rw[show min (c+(1+ep xs (p+1))) 2001=min (c+1+ep xs (p+1)) 2001 by omega]
theorem Iu(k:Int)(n:List Nat)(xs:List Pa)(p:Nat)(hp:p<=100)(H:DH)(hl:xs.length<2^62):∀ pre suf (c:Nat),xs=pre++suf->Pa.oks suf->c<=2001 ->
 ao de (ab de) 194 200005 [.g (.int .i64 (p:Nat)),.g (.int .i64 (c:Nat)),.lp 0 0,.g (.int .i64 (pre.length:Nat))] [(0,[.int .i64 k,.str n,.row 3 (bM xs)])] H=ret (.int .i64 (min (c+ep suf (p+1)) 2001:Nat)) H
 |pre,[],c,e,_,hc=>by
  have e2:xs.length=pre.length:=by rw[e];simp
  refine bg (tY _ _ _ _ _ _ _ _) ?_
  simp only[bG,e2,Int.lt_irrefl,decide_false,cond_false,ep,show min (c+0) 2001=c by omega]
 |pre,t::suf,c,e,h,hc=>by
  simp only[Pa.oks]at h
  refine bg (tY _ _ _ _ _ _ _ _) ?_
  have hi:pre.length<xs.length:=by rw[e];simp
  have h1:decide ((pre.length:Int)<((bM xs).length:Int))=true:=by rw[bG];simp;exact hi
  have h2:(bM xs)[pre.length]? = some (dD t):=by rw[e];exact gC _ _ _
  have h3:=Mn t (p+1) c H h.1 (by omega) hc
  have ih:=Iu k n xs p hp H hl (pre++[t]) suf (min (c+zc t (p+1)) 2001) (by rw[e];simp) h.2 (by omega)
  have hdq:ep (t::suf) (p+1)=zc t (p+1)+ep suf (p+1):=by rw[ep]
  rw[hdq]
  generalize zc t (p+1)=q at h3 ih ⊢
  generalize ep suf (p+1)=r at ih ⊢
  obtain⟨tk,tn,tas⟩:=t
  simp only[dD]at h3 h2
  simp only[List.length_append,List.length_singleton]at ih
  rw[h1,cond_true,AM]
  cases hq2:decide (c<=2000)with
  |false =>
   have hc2:¬ c<=2000:=by simpa using hq2
   rw[cond_false,show min (c+(q+r)) 2001=c by omega]
  |true =>
   simp only[cond_true,aI,ak h2,am,ax,aq (show p<2^62 by omega),af h3,aq (show pre.length<2^62 by omega),ih]
   rw[show min (min (c+q) 2001+r) 2001=min (c+(q+r)) 2001 by omega]
end
theorem Iw(k m:Int)(n b:List Nat)(XX:List Ex)(ps:List Pa)(p:Nat)(hp:p<=100)(H:DH)(hl:ps.length<2^62)(X:Nat)(hx:∀ c:Nat,c<=2001->ao de (ab de) 124 200009 [.g (.int .i64 (p:Nat)),.g (.int .i64 (c:Nat)),.lp 0 0,.g (.int .i64 0)] [(0,[.int .i64 k,.int .i64 m,.str n,.str b,.row 6 (bI XX),.row 3 (bM ps)])] H=ret (.int .i64 (min (c+X) 2001:Nat)) H):∀ pre suf (c:Nat),ps=pre++suf->Pa.oks suf->c<=2001 ->
 ao de (ab de) 124 200005 [.g (.int .i64 (p:Nat)),.g (.int .i64 (c:Nat)),.lp 0 0,.g (.int .i64 (pre.length:Nat))] [(0,[.int .i64 k,.int .i64 m,.str n,.str b,.row 6 (bI XX),.row 3 (bM ps)])] H=ret (.int .i64 (min (c+(ep suf (p+1)+X)) 2001:Nat)) H
 |pre,[],c,e,_,hc=>by
  have e2:ps.length=pre.length:=by rw[e];simp
  refine bg (uo _ _ _ _ _ _ _ _ _ _ _) ?_
  simp only[bG,e2,Int.lt_irrefl,decide_false,cond_false,ep,Nat.zero_add,hx c hc]
 |pre,t::suf,c,e,h,hc=>by
  simp only[Pa.oks]at h
  refine bg (uo _ _ _ _ _ _ _ _ _ _ _) ?_
  have hi:pre.length<ps.length:=by rw[e];simp
  have h1:decide ((pre.length:Int)<((bM ps).length:Int))=true:=by rw[bG];simp;exact hi
  have h2:(bM ps)[pre.length]? = some (dD t):=by rw[e];exact gC _ _ _
  have h3:=Mn t (p+1) c H h.1 (by omega) hc
  have ih:=Iw k m n b XX ps p hp H hl X hx (pre++[t]) suf (min (c+zc t (p+1)) 2001) (by rw[e];simp) h.2 (by omega)
  have hdq:ep (t::suf) (p+1)=zc t (p+1)+ep suf (p+1):=by rw[ep]
  rw[hdq]
  generalize zc t (p+1)=q at h3 ih ⊢
  generalize ep suf (p+1)=r at ih ⊢
  obtain⟨tk,tn,tas⟩:=t
  simp only[dD]at h3 h2
  simp only[List.length_append,List.length_singleton]at ih
  rw[h1,cond_true,AM]
  cases hq2:decide (c<=2000)with
  |false =>
   have hc2:¬ c<=2000:=by simpa using hq2
   rw[cond_false,hx c hc,show min (c+X) 2001=c by omega,show min (c+(q+r+X)) 2001=c by omega]
  |true =>
   simp only[cond_true,aI,ak h2,am,ax,aq (show p<2^62 by omega),af h3,aq (show pre.length<2^62 by omega),ih]
   rw[show min (min (c+q) 2001+(r+X)) 2001=min (c+(q+r+X)) 2001 by omega]
mutual
theorem Mo:∀(t:Ex) (p c:Nat) (H:DH),t.ok->p<=101->c<=2001->ab de (.call 124 [.agg (bU t),.int .i64 (p:Nat),.int .i64 (c:Nat)] none) H=ret (.int .i64 (min (c+uM t p) 2001:Nat)) H
 |.mk k m n b xs ps,p,c,H,h,hp,hc=>by
  simp only[Ex.ok]at h
  refine ev (by simp only[bU];exact aau _ _ _ _ _ _ _ _ _ _) ?_
  rw[Cv,AN,uM]
  cases hq:decide (p>100)with
  |true=>rw[cond_true,cond_true,show min (c+0) 2001=c by omega]
  |false =>
   have hp2:p<=100:=by simp at hq;omega
   rw[cond_false,cond_false]
   cases hq2:decide (c>2000)with
   |true =>
    have hc2:c>2000:=by simpa using hq2
    rw[cond_true,show min (c+(1+(ep ps (p+1)+dM xs (p+1)))) 2001=c by omega]
   |false =>
    have hc2:¬ c>2000:=by simpa using hq2
    rw[cond_false,aq (show c<2^62 by omega)]
    refine(Iw k m n b xs ps p hp2 H h.2.2.1 _ (fun c hc=>Iv k m n b xs ps p hp2 H h.1 [] xs c rfl h.2.1 hc) [] ps (c+1) rfl h.2.2.2 (by omega)).trans ?_
    rw[show min (c+(1+(ep ps (p+1)+dM xs (p+1)))) 2001=min (c+1+(ep ps (p+1)+dM xs (p+1))) 2001 by omega]
theorem Iv(k m:Int)(n b:List Nat)(xs:List Ex)(ps:List Pa)(p:Nat)(hp:p<=100)(H:DH)(hl:xs.length<2^62):∀ pre suf (c:Nat),xs=pre++suf->Ex.oks suf->c<=2001 ->
 ao de (ab de) 124 200009 [.g (.int .i64 (p:Nat)),.g (.int .i64 (c:Nat)),.lp 0 0,.g (.int .i64 (pre.length:Nat))] [(0,[.int .i64 k,.int .i64 m,.str n,.str b,.row 6 (bI xs),.row 3 (bM ps)])] H=ret (.int .i64 (min (c+dM suf (p+1)) 2001:Nat)) H
 |pre,[],c,e,_,hc=>by
  have e2:xs.length=pre.length:=by rw[e];simp
  refine bg (un _ _ _ _ _ _ _ _ _ _ _) ?_
  simp only[bD,e2,Int.lt_irrefl,decide_false,cond_false,dM,show min (c+0) 2001=c by omega]
 |pre,t::suf,c,e,h,hc=>by
  simp only[Ex.oks]at h
  refine bg (un _ _ _ _ _ _ _ _ _ _ _) ?_
  have hi:pre.length<xs.length:=by rw[e];simp
  have h1:decide ((pre.length:Int)<((bI xs).length:Int))=true:=by rw[bD];simp;exact hi
  have h2:(bI xs)[pre.length]? = some (bU t):=by rw[e];exact gH _ _ _
  have h3:=Mo t (p+1) c H h.1 (by omega) hc
  have ih:=Iv k m n b xs ps p hp H hl (pre++[t]) suf (min (c+uM t (p+1)) 2001) (by rw[e];simp) h.2 (by omega)
  have hdq:dM (t::suf) (p+1)=uM t (p+1)+dM suf (p+1):=by rw[dM]
  rw[hdq]
  generalize uM t (p+1)=q at h3 ih ⊢
  generalize dM suf (p+1)=r at ih ⊢
  obtain⟨tk,tm,tn,tb,tas,tps⟩:=t
  simp only[bU]at h3 h2
  simp only[List.length_append,List.length_singleton]at ih
  rw[h1,cond_true,AM]
  cases hq2:decide (c<=2000)with
  |false =>
   have hc2:¬ c<=2000:=by simpa using hq2
   rw[cond_false,show min (c+(q+r)) 2001=c by omega]
  |true =>
   simp only[cond_true,aI,ak h2,am,ax,aq (show p<2^62 by omega),af h3,aq (show pre.length<2^62 by omega),ih]
   rw[show min (min (c+q) 2001+r) 2001=min (c+(q+r)) 2001 by omega]
end
theorem GO{H:DH}{o st c d p:Nat}(g:FuncId)(cap:List D)(hb:aT cA g=true)(ho:H[o]? = some (.cells st [.int .i64 (c:Nat),.int .i64 (d:Nat)]))(hc:c<=2001) :
 ab de (.call 303 [.ptr o 0,.int .i64 (p:Nat),.func g [] cap] none) H=bif decide (p>100)||decide (c>2000)then ret (.tuple []) (H.set o (.cells (st+1) [.int .i64 (c:Nat),.int .i64 (max d p:Nat)]))else C (ab de) g cap (H.set o (.cells (st+1+1) [.int .i64 (c+1:Nat),.int .i64 (max d p:Nat)])) (fun _ H=>ret (.tuple []) H):=by
 refine ev (Zu _ _ _ _ _) ?_
 have ho2:(H.set o (.cells (st+1) [.int .i64 (c:Nat),.int .i64 (max d p:Nat)]))[o]? = some (.cells (st+1) [.int .i64 (c:Nat),.int .i64 (max d p:Nat)]):=be _ ho
 have ow (x:D) (κ:List D->ai):aw [.int .i64 (c:Nat),.int .i64 (d:Nat)] 1 [x] κ=κ [.int .i64 (c:Nat),x]:=rfl
 have ow2 (x:D) (κ:List D->ai):aw [.int .i64 (c:Nat),.int .i64 (max d p:Nat)] 0 [x] κ=κ [x,.int .i64 (max d p:Nat)]:=rfl
 have c1 (k:Int) (κ:List D->ai):ag 1 (.int .i64 k) κ=κ [.int .i64 k]:=rfl
 simp only[ac ho,am,ax,tu,mF,tz,c1,ow,Cv,ac ho2,rj,AN,au,cg,ow2,List.set_set,eH hb,List.nil_append,aq (show c<2^62 by omega)]
 cases decide (p>100)<;>cases decide (c>2000)<;>rfl
mutual
theorem Gk:∀(t:Ty) (p c d st o:Nat) (H:DH),H[o]? = some (.cells st [.int .i64 (c:Nat),.int .i64 (d:Nat)])->t.ok->p<=101->c<=2001 ->
 ∃ st' d',ab de (.call 245 [.ptr o 0,.agg (cN t),.int .i64 (p:Nat)] none) H=ret (.tuple []) (H.set o (.cells st' [.int .i64 (min (c+wU t p) 2001:Nat),.int .i64 (d':Nat)]))
 |.mk n xs,p,c,d,st,o,H,ho,h,hp,hc=>by
  simp only[Ty.ok]at h
  have hlt:=ka ho
  have e1:((H++[DB.cells 0 [.ptr o 0]])++[DB.cells 0 (cN (.mk n xs))]++[DB.cells 0 [.int .i64 (p:Nat)]])[H.length]? = some (.cells 0 [.ptr o 0]):=aj _ (aj _ (aY _ _))
  have e2:((H++[DB.cells 0 [.ptr o 0]])++[DB.cells 0 (cN (.mk n xs))]++[DB.cells 0 [.int .i64 (p:Nat)]])[(H++[DB.cells 0 [.ptr o 0]]).length]? = some (.cells 0 (cN (.mk n xs))):=aj _ (aY _ _)
  have e3:((H++[DB.cells 0 [.ptr o 0]])++[DB.cells 0 (cN (.mk n xs))]++[DB.cells 0 [.int .i64 (p:Nat)]])[((H++[DB.cells 0 [.ptr o 0]])++[DB.cells 0 (cN (.mk n xs))]).length]? = some (.cells 0 [.int .i64 (p:Nat)]):=aY _ _
  have e4:((H++[DB.cells 0 [.ptr o 0]])++[DB.cells 0 (cN (.mk n xs))]++[DB.cells 0 [.int .i64 (p:Nat)]])[o]? = some (.cells st [.int .i64 (c:Nat),.int .i64 (d:Nat)]):=aj _ (aj _ (aj _ ho))
  have hX:(H++[DB.cells 0 [.ptr o 0]])++[DB.cells 0 (cN (.mk n xs))]++[DB.cells 0 [.int .i64 (p:Nat)]]=H++([DB.cells 0 [.ptr o 0]]++[DB.cells 0 (cN (.mk n xs))]++[DB.cells 0 [.int .i64 (p:Nat)]]):=by simp only[List.append_assoc]
  have n1:(H++[DB.cells 0 [.ptr o 0]]).length≠o:=by simp;omega
  have n2:H.length≠o:=by omega
  have n3:((H++[DB.cells 0 [.ptr o 0]])++[DB.cells 0 (cN (.mk n xs))]).length≠o:=by simp;omega
  have hb:aT cA 304=true:=by kernel_rfl
  have nd:=GO (p:=p) 304 [.ptr (H++[DB.cells 0 [.ptr o 0]]).length 0,.ptr H.length 0,.ptr ((H++[DB.cells 0 [.ptr o 0]])++[DB.cells 0 (cN (.mk n xs))]).length 0] hb e4 hc
  generalize hG:(H++[DB.cells 0 [.ptr o 0]])++[DB.cells 0 (cN (.mk n xs))]++[DB.cells 0 [.int .i64 (p:Nat)]]=G at e1 e2 e3 e4 hX nd
  have hfin:∃ st' d',ab de (.call 303 [.ptr o 0,.int .i64 (p:Nat),.func 304 [] [.ptr (H++[DB.cells 0 [.ptr o 0]]).length 0,.ptr H.length 0,.ptr ((H++[DB.cells 0 [.ptr o 0]])++[DB.cells 0 (cN (.mk n xs))]).length 0]] none) G=ret (.tuple []) (G.set o (.cells st' [.int .i64 (min (c+wU (.mk n xs) p) 2001:Nat),.int .i64 (d':Nat)])):=by
   cases hq:decide (p>100)||decide (c>2000)with
   |true =>
    refine⟨st+1,max d p,?_⟩
    rw[nd,hq,cond_true,wU]
    cases hq2:decide (p>100)with
    |true=>rw[cond_true,show min (c+0) 2001=c by omega]
    |false =>
     rw[hq2,Bool.false_or]at hq
     have hc2:c>2000:=by simpa using hq
     rw[cond_false,show min (c+(1+ct xs (p+1))) 2001=c by omega]
   |false =>
    obtain⟨hq1,hq2⟩:=Bool.or_eq_false_iff.mp hq
    have hp2:p<=100:=by
     have:¬ p>100:=by simpa using hq1
     omega
    have hc2:¬ c>2000:=by simpa using hq2
    obtain⟨st',d',hl⟩:=Id xs p hp2 o H.length ((H++[DB.cells 0 [.ptr o 0]])++[DB.cells 0 (cN (.mk n xs))]).length 0 0 h.1 n2 n3 [] xs (st+1+1) (c+1) (max d p) (G.set o (.cells (st+1+1) [.int .i64 (c+1:Nat),.int .i64 (max d p:Nat)])) (be _ e4) (ae _ n2.symm e1) (ae _ n3.symm e3) rfl h.2 (by omega)
    refine⟨st',d',?_⟩
    have hc:ab de (.call 304 [.ptr (H++[DB.cells 0 [.ptr o 0]]).length 0,.ptr H.length 0,.ptr ((H++[DB.cells 0 [.ptr o 0]])++[DB.cells 0 (cN (.mk n xs))]).length 0] none) (G.set o (.cells (st+1+1) [.int .i64 (c+1:Nat),.int .i64 (max d p:Nat)]))=ret (.tuple []) (G.set o (.cells st' [.int .i64 (min (c+wU (.mk n xs) p) 2001:Nat),.int .i64 (d':Nat)])):=by
     refine ev (Zt _ _ _ _ _) ?_
     rw[ac (ae _ n1.symm e2)]
     simp only[cN,am,ax,dc jF,bq]
     refine Eq.trans hl ?_
     rw[List.set_set,wU,hq1,cond_false,show min (c+1+ct xs (p+1)) 2001=min (c+(1+ct xs (p+1))) 2001 by omega]
    rw[nd,hq,cond_false,af hc]
  obtain⟨st',d',hf⟩:=hfin
  refine⟨st',d',ev (by simp only[cN];exact f245 _ _ _ _ _ _) ?_⟩
  simp only[cN]at hG e1 e3 hf ⊢
  show aZ H (aA ((H++[DB.cells 0 [.ptr o 0]])++[DB.cells 0 [.str n,.row 2 (bJ xs)]]++[DB.cells 0 [.int .i64 (p:Nat)]]) H.length _)=_
  rw[hG,ac e1]
  simp only[am]
  rw[ac e3]
  simp only[am]
  rw[af hf]
  rw[hX]
  exact jS hlt (by simp[DB.bel,ef,D.bel])
theorem Id(xs:List Ty)(p:Nat)(hp:p<=100)(o v1 v2 s1 s2:Nat)(hl:xs.length<2^62)(n1:v1≠o)(n2:v2≠o):∀(pre suf:List Ty) (st c d:Nat) (H:DH),H[o]? = some (.cells st [.int .i64 (c:Nat),.int .i64 (d:Nat)])->H[v1]? = some (.cells s1 [.ptr o 0])->H[v2]? = some (.cells s2 [.int .i64 (p:Nat)])->xs=pre++suf->Ty.oks suf->c<=2001 ->
 ∃ st' d',ao de (ab de) 304 200001 [.g (.ptr v1 0),.g (.ptr v2 0),.g (.row 2 (bJ xs)),.g (.int .i64 (xs.length:Nat)),.g (.int .i64 (pre.length:Nat))] [] H=ret (.tuple []) (H.set o (.cells st' [.int .i64 (min (c+ct suf (p+1)) 2001:Nat),.int .i64 (d':Nat)]))
 |pre,[],st,c,d,H,ho,h1,h2,e,_,hc=>by
  have e2:xs.length=pre.length:=by rw[e];simp
  refine⟨st,d,bg (tP _ _ _ _ _ _ _) ?_⟩
  simp only[e2,Int.lt_irrefl,decide_false,cond_false,ct,show min (c+0) 2001=c by omega,ol ho]
 |pre,t::suf,st,c,d,H,ho,h1,h2,e,h,hcc=>by
  simp only[Ty.oks]at h
  have hi:pre.length<xs.length:=by rw[e];simp
  have hd:decide ((pre.length:Int)<(xs.length:Int))=true:=by simp;exact hi
  have ht:(bJ xs)[pre.length]? = some (cN t):=by rw[e];exact fK _ _ _
  obtain⟨gi,d1,hc⟩:=Gk t (p+1) c d st o H ho h.1 (by omega) hcc
  obtain⟨st',d',ih⟩:=Id xs p hp o v1 v2 s1 s2 hl n1 n2 (pre++[t]) suf gi (min (c+wU t (p+1)) 2001) d1 (H.set o (.cells gi [.int .i64 (min (c+wU t (p+1)) 2001:Nat),.int .i64 (d1:Nat)])) (be _ ho) (ae _ n1.symm h1) (ae _ n2.symm h2) (by rw[e];simp) h.2 (by omega)
  refine⟨st',d',bg (tP _ _ _ _ _ _ _) ?_⟩
  have hdq:min (c+ct (t::suf) (p+1)) 2001=min (min (c+wU t (p+1)) 2001+ct suf (p+1)) 2001:=by rw[ct];omega
  rw[hdq]
  generalize wU t (p+1)=q at hc ih ⊢
  obtain⟨tn,tas⟩:=t
  simp only[cN]at ht hc
  simp only[List.length_append,List.length_singleton,List.set_set]at ih
  simp only[hd,cond_true,iq jF DQ ht,tw,yy,Qn,ac h1,ac h2,am,ax,cg,aq (show p<2^62 by omega),af hc,aq (show pre.length<2^62 by omega)]
  exact ih
end
mutual
theorem LZ:∀(t:Pa) (p c d st o:Nat) (H:DH),H[o]? = some (.cells st [.int .i64 (c:Nat),.int .i64 (d:Nat)])->t.ok->p<=101->c<=2001 ->
 ∃ st' d',ab de (.call 306 [.ptr o 0,.agg (dD t),.int .i64 (p:Nat)] none) H=ret (.tuple []) (H.set o (.cells st' [.int .i64 (min (c+zc t p) 2001:Nat),.int .i64 (d':Nat)]))
 |.mk k n xs,p,c,d,st,o,H,ho,h,hp,hc=>by
  simp only[Pa.ok]at h
  have hlt:=ka ho
  have e1:((H++[DB.cells 0 [.ptr o 0]])++[DB.cells 0 (dD (.mk k n xs))]++[DB.cells 0 [.int .i64 (p:Nat)]])[H.length]? = some (.cells 0 [.ptr o 0]):=aj _ (aj _ (aY _ _))
  have e2:((H++[DB.cells 0 [.ptr o 0]])++[DB.cells 0 (dD (.mk k n xs))]++[DB.cells 0 [.int .i64 (p:Nat)]])[(H++[DB.cells 0 [.ptr o 0]]).length]? = some (.cells 0 (dD (.mk k n xs))):=aj _ (aY _ _)
  have e3:((H++[DB.cells 0 [.ptr o 0]])++[DB.cells 0 (dD (.mk k n xs))]++[DB.cells 0 [.int .i64 (p:Nat)]])[((H++[DB.cells 0 [.ptr o 0]])++[DB.cells 0 (dD (.mk k n xs))]).length]? = some (.cells 0 [.int .i64 (p:Nat)]):=aY _ _
  have e4:((H++[DB.cells 0 [.ptr o 0]])++[DB.cells 0 (dD (.mk k n xs))]++[DB.cells 0 [.int .i64 (p:Nat)]])[o]? = some (.cells st [.int .i64 (c:Nat),.int .i64 (d:Nat)]):=aj _ (aj _ (aj _ ho))
  have hX:(H++[DB.cells 0 [.ptr o 0]])++[DB.cells 0 (dD (.mk k n xs))]++[DB.cells 0 [.int .i64 (p:Nat)]]=H++([DB.cells 0 [.ptr o 0]]++[DB.cells 0 (dD (.mk k n xs))]++[DB.cells 0 [.int .i64 (p:Nat)]]):=by simp only[List.append_assoc]
  have n1:(H++[DB.cells 0 [.ptr o 0]]).length≠o:=by simp;omega
  have n2:H.length≠o:=by omega
  have n3:((H++[DB.cells 0 [.ptr o 0]])++[DB.cells 0 (dD (.mk k n xs))]).length≠o:=by simp;omega
  have hb:aT cA 331=true:=by kernel_rfl
  have nd:=GO (p:=p) 331 [.ptr (H++[DB.cells 0 [.ptr o 0]]).length 0,.ptr H.length 0,.ptr ((H++[DB.cells 0 [.ptr o 0]])++[DB.cells 0 (dD (.mk k n xs))]).length 0] hb e4 hc
  generalize hG:(H++[DB.cells 0 [.ptr o 0]])++[DB.cells 0 (dD (.mk k n xs))]++[DB.cells 0 [.int .i64 (p:Nat)]]=G at e1 e2 e3 e4 hX nd
  have hfin:∃ st' d',ab de (.call 303 [.ptr o 0,.int .i64 (p:Nat),.func 331 [] [.ptr (H++[DB.cells 0 [.ptr o 0]]).length 0,.ptr H.length 0,.ptr ((H++[DB.cells 0 [.ptr o 0]])++[DB.cells 0 (dD (.mk k n xs))]).length 0]] none) G=ret (.tuple []) (G.set o (.cells st' [.int .i64 (min (c+zc (.mk k n xs) p) 2001:Nat),.int .i64 (d':Nat)])):=by
   cases hq:decide (p>100)||decide (c>2000)with
   |true =>
    refine⟨st+1,max d p,?_⟩
    rw[nd,hq,cond_true,zc]
    cases hq2:decide (p>100)with
    |true=>rw[cond_true,show min (c+0) 2001=c by omega]
    |false =>
     rw[hq2,Bool.false_or]at hq
     have hc2:c>2000:=by simpa using hq
     rw[cond_false,show min (c+(1+ep xs (p+1))) 2001=c by omega]
   |false =>
    obtain⟨hq1,hq2⟩:=Bool.or_eq_false_iff.mp hq
    have hp2:p<=100:=by
     have:¬ p>100:=by simpa using hq1
     omega
    have hc2:¬ c>2000:=by simpa using hq2
    obtain⟨st',d',hl⟩:=Ie xs p hp2 o H.length ((H++[DB.cells 0 [.ptr o 0]])++[DB.cells 0 (dD (.mk k n xs))]).length 0 0 h.1 n2 n3 [] xs (st+1+1) (c+1) (max d p) (G.set o (.cells (st+1+1) [.int .i64 (c+1:Nat),.int .i64 (max d p:Nat)])) (be _ e4) (ae _ n2.symm e1) (ae _ n3.symm e3) rfl h.2 (by omega)
    refine⟨st',d',?_⟩
    have hc:ab de (.call 331 [.ptr (H++[DB.cells 0 [.ptr o 0]]).length 0,.ptr H.length 0,.ptr ((H++[DB.cells 0 [.ptr o 0]])++[DB.cells 0 (dD (.mk k n xs))]).length 0] none) (G.set o (.cells (st+1+1) [.int .i64 (c+1:Nat),.int .i64 (max d p:Nat)]))=ret (.tuple []) (G.set o (.cells st' [.int .i64 (min (c+zc (.mk k n xs) p) 2001:Nat),.int .i64 (d':Nat)])):=by
     refine ev (Zc _ _ _ _ _) ?_
     rw[ac (ae _ n1.symm e2)]
     simp only[dD,am,ax,dc Ss,bG]
     refine Eq.trans hl ?_
     rw[List.set_set,zc,hq1,cond_false,show min (c+1+ep xs (p+1)) 2001=min (c+(1+ep xs (p+1))) 2001 by omega]
    rw[nd,hq,cond_false,af hc]
  obtain⟨st',d',hf⟩:=hfin
  refine⟨st',d',ev (by simp only[dD];exact Zr _ _ _ _ _ _ _) ?_⟩
  simp only[dD]at hG e1 e3 hf ⊢
  show aZ H (aA ((H++[DB.cells 0 [.ptr o 0]])++[DB.cells 0 [.int .i64 k,.str n,.row 3 (bM xs)]]++[DB.cells 0 [.int .i64 (p:Nat)]]) H.length _)=_
  rw[hG,ac e1]
  simp only[am]
  rw[ac e3]
  simp only[am]
  rw[af hf]
  rw[hX]
  exact jS hlt (by simp[DB.bel,ef,D.bel])
theorem Ie(xs:List Pa)(p:Nat)(hp:p<=100)(o v1 v2 s1 s2:Nat)(hl:xs.length<2^62)(n1:v1≠o)(n2:v2≠o):∀(pre suf:List Pa) (st c d:Nat) (H:DH),H[o]? = some (.cells st [.int .i64 (c:Nat),.int .i64 (d:Nat)])->H[v1]? = some (.cells s1 [.ptr o 0])->H[v2]? = some (.cells s2 [.int .i64 (p:Nat)])->xs=pre++suf->Pa.oks suf->c<=2001 ->
 ∃ st' d',ao de (ab de) 331 200001 [.g (.ptr v1 0),.g (.ptr v2 0),.g (.row 3 (bM xs)),.g (.int .i64 (xs.length:Nat)),.g (.int .i64 (pre.length:Nat))] [] H=ret (.tuple []) (H.set o (.cells st' [.int .i64 (min (c+ep suf (p+1)) 2001:Nat),.int .i64 (d':Nat)]))
 |pre,[],st,c,d,H,ho,h1,h2,e,_,hc=>by
  have e2:xs.length=pre.length:=by rw[e];simp
  refine⟨st,d,bg (tJ _ _ _ _ _ _ _) ?_⟩
  simp only[e2,Int.lt_irrefl,decide_false,cond_false,ep,show min (c+0) 2001=c by omega,ol ho]
 |pre,t::suf,st,c,d,H,ho,h1,h2,e,h,hcc=>by
  simp only[Pa.oks]at h
  have hi:pre.length<xs.length:=by rw[e];simp
  have hd:decide ((pre.length:Int)<(xs.length:Int))=true:=by simp;exact hi
  have ht:(bM xs)[pre.length]? = some (dD t):=by rw[e];exact gC _ _ _
  obtain⟨gi,d1,hc⟩:=LZ t (p+1) c d st o H ho h.1 (by omega) hcc
  obtain⟨st',d',ih⟩:=Ie xs p hp o v1 v2 s1 s2 hl n1 n2 (pre++[t]) suf gi (min (c+zc t (p+1)) 2001) d1 (H.set o (.cells gi [.int .i64 (min (c+zc t (p+1)) 2001:Nat),.int .i64 (d1:Nat)])) (be _ ho) (ae _ n1.symm h1) (ae _ n2.symm h2) (by rw[e];simp) h.2 (by omega)
  refine⟨st',d',bg (tJ _ _ _ _ _ _ _) ?_⟩
  have hdq:min (c+ep (t::suf) (p+1)) 2001=min (min (c+zc t (p+1)) 2001+ep suf (p+1)) 2001:=by rw[ep];omega
  rw[hdq]
  generalize zc t (p+1)=q at hc ih ⊢
  obtain⟨tk,tn,tas⟩:=t
  simp only[dD]at ht hc
  simp only[List.length_append,List.length_singleton,List.set_set]at ih
  simp only[hd,cond_true,iq Ss PW ht,Jk,yx,Qm,ac h1,ac h2,am,ax,cg,aq (show p<2^62 by omega),af hc,aq (show pre.length<2^62 by omega)]
  exact ih
end
theorem DA(xs:List Pa)(p:Nat)(hp:p<=100)(o v1 v2 s1 s2:Nat)(hl:xs.length<2^62)(n1:v1≠o)(n2:v2≠o):∀(pre suf:List Pa) (st c d:Nat) (H:DH),H[o]? = some (.cells st [.int .i64 (c:Nat),.int .i64 (d:Nat)])->H[v1]? = some (.cells s1 [.ptr o 0])->H[v2]? = some (.cells s2 [.int .i64 (p:Nat)])->xs=pre++suf->Pa.oks suf->c<=2001 ->
 ∃ st' d',ao de (ab de) 305 200006 [.g (.ptr v1 0),.g (.ptr v2 0),.g (.row 3 (bM xs)),.g (.int .i64 (xs.length:Nat)),.g (.int .i64 (pre.length:Nat))] [] H=ret (.tuple []) (H.set o (.cells st' [.int .i64 (min (c+ep suf (p+1)) 2001:Nat),.int .i64 (d':Nat)]))
 |pre,[],st,c,d,H,ho,h1,h2,e,_,hc=>by
  have e2:xs.length=pre.length:=by rw[e];simp
  refine⟨st,d,bg (tN _ _ _ _ _ _ _) ?_⟩
  simp only[e2,Int.lt_irrefl,decide_false,cond_false,ep,show min (c+0) 2001=c by omega,ol ho]
 |pre,t::suf,st,c,d,H,ho,h1,h2,e,h,hcc=>by
  simp only[Pa.oks]at h
  have hi:pre.length<xs.length:=by rw[e];simp
  have hd:decide ((pre.length:Int)<(xs.length:Int))=true:=by simp;exact hi
  have ht:(bM xs)[pre.length]? = some (dD t):=by rw[e];exact gC _ _ _
  obtain⟨gi,d1,hc⟩:=LZ t (p+1) c d st o H ho h.1 (by omega) hcc
  obtain⟨st',d',ih⟩:=DA xs p hp o v1 v2 s1 s2 hl n1 n2 (pre++[t]) suf gi (min (c+zc t (p+1)) 2001) d1 (H.set o (.cells gi [.int .i64 (min (c+zc t (p+1)) 2001:Nat),.int .i64 (d1:Nat)])) (be _ ho) (ae _ n1.symm h1) (ae _ n2.symm h2) (by rw[e];simp) h.2 (by omega)
  refine⟨st',d',bg (tN _ _ _ _ _ _ _) ?_⟩
  have hdq:min (c+ep (t::suf) (p+1)) 2001=min (min (c+zc t (p+1)) 2001+ep suf (p+1)) 2001:=by rw[ep];omega
  rw[hdq]
  generalize zc t (p+1)=q at hc ih ⊢
  obtain⟨tk,tn,tas⟩:=t
  simp only[dD]at ht hc
  simp only[List.length_append,List.length_singleton,List.set_set]at ih
  simp only[hd,cond_true,iq Ss PW ht,Jk,yx,Qm,ac h1,ac h2,am,ax,cg,aq (show p<2^62 by omega),af hc,aq (show pre.length<2^62 by omega)]
  exact ih
mutual
theorem Gm:∀(t:Ex) (p c d st o:Nat) (H:DH),H[o]? = some (.cells st [.int .i64 (c:Nat),.int .i64 (d:Nat)])->t.ok->p<=101->c<=2001 ->
 ∃ st' d',ab de (.call 246 [.ptr o 0,.agg (bU t),.int .i64 (p:Nat)] none) H=ret (.tuple []) (H.set o (.cells st' [.int .i64 (min (c+uM t p) 2001:Nat),.int .i64 (d':Nat)]))
 |.mk k m n b xs ps,p,c,d,st,o,H,ho,h,hp,hc=>by
  simp only[Ex.ok]at h
  have hlt:=ka ho
  have e1:((H++[DB.cells 0 [.ptr o 0]])++[DB.cells 0 (bU (.mk k m n b xs ps))]++[DB.cells 0 [.int .i64 (p:Nat)]])[H.length]? = some (.cells 0 [.ptr o 0]):=aj _ (aj _ (aY _ _))
  have e2:((H++[DB.cells 0 [.ptr o 0]])++[DB.cells 0 (bU (.mk k m n b xs ps))]++[DB.cells 0 [.int .i64 (p:Nat)]])[(H++[DB.cells 0 [.ptr o 0]]).length]? = some (.cells 0 (bU (.mk k m n b xs ps))):=aj _ (aY _ _)
  have e3:((H++[DB.cells 0 [.ptr o 0]])++[DB.cells 0 (bU (.mk k m n b xs ps))]++[DB.cells 0 [.int .i64 (p:Nat)]])[((H++[DB.cells 0 [.ptr o 0]])++[DB.cells 0 (bU (.mk k m n b xs ps))]).length]? = some (.cells 0 [.int .i64 (p:Nat)]):=aY _ _
  have e4:((H++[DB.cells 0 [.ptr o 0]])++[DB.cells 0 (bU (.mk k m n b xs ps))]++[DB.cells 0 [.int .i64 (p:Nat)]])[o]? = some (.cells st [.int .i64 (c:Nat),.int .i64 (d:Nat)]):=aj _ (aj _ (aj _ ho))
  have hX:(H++[DB.cells 0 [.ptr o 0]])++[DB.cells 0 (bU (.mk k m n b xs ps))]++[DB.cells 0 [.int .i64 (p:Nat)]]=H++([DB.cells 0 [.ptr o 0]]++[DB.cells 0 (bU (.mk k m n b xs ps))]++[DB.cells 0 [.int .i64 (p:Nat)]]):=by simp only[List.append_assoc]
  have n1:(H++[DB.cells 0 [.ptr o 0]]).length≠o:=by simp;omega
  have n2:H.length≠o:=by omega
  have n3:((H++[DB.cells 0 [.ptr o 0]])++[DB.cells 0 (bU (.mk k m n b xs ps))]).length≠o:=by simp;omega
  have hb:aT cA 305=true:=by kernel_rfl
  have nd:=GO (p:=p) 305 [.ptr (H++[DB.cells 0 [.ptr o 0]]).length 0,.ptr H.length 0,.ptr ((H++[DB.cells 0 [.ptr o 0]])++[DB.cells 0 (bU (.mk k m n b xs ps))]).length 0] hb e4 hc
  generalize hG:(H++[DB.cells 0 [.ptr o 0]])++[DB.cells 0 (bU (.mk k m n b xs ps))]++[DB.cells 0 [.int .i64 (p:Nat)]]=G at e1 e2 e3 e4 hX nd
  have hfin:∃ st' d',ab de (.call 303 [.ptr o 0,.int .i64 (p:Nat),.func 305 [] [.ptr (H++[DB.cells 0 [.ptr o 0]]).length 0,.ptr H.length 0,.ptr ((H++[DB.cells 0 [.ptr o 0]])++[DB.cells 0 (bU (.mk k m n b xs ps))]).length 0]] none) G=ret (.tuple []) (G.set o (.cells st' [.int .i64 (min (c+uM (.mk k m n b xs ps) p) 2001:Nat),.int .i64 (d':Nat)])):=by
   cases hq:decide (p>100)||decide (c>2000)with
   |true =>
    refine⟨st+1,max d p,?_⟩
    rw[nd,hq,cond_true,uM]
    cases hq2:decide (p>100)with
    |true=>rw[cond_true,show min (c+0) 2001=c by omega]
    |false =>
     rw[hq2,Bool.false_or]at hq
     have hc2:c>2000:=by simpa using hq
     rw[cond_false,show min (c+(1+(ep ps (p+1)+dM xs (p+1)))) 2001=c by omega]
   |false =>
    obtain⟨hq1,hq2⟩:=Bool.or_eq_false_iff.mp hq
    have hp2:p<=100:=by
     have:¬ p>100:=by simpa using hq1
     omega
    have hc2:¬ c>2000:=by simpa using hq2
    obtain⟨st',d',hl⟩:=If k m n b xs ps 0 xs p hp2 o (H++[DB.cells 0 [.ptr o 0]]).length H.length ((H++[DB.cells 0 [.ptr o 0]])++[DB.cells 0 (bU (.mk k m n b xs ps))]).length 0 0 _ (fun st c d H a1 a2 a3 _ a4=>DA ps p hp2 o _ _ 0 0 h.2.2.1 n2 n3 [] ps st c d H a1 a2 a3 rfl h.2.2.2 a4) h.1 n2 n3 n1 [] xs (st+1+1) (c+1) (max d p) (G.set o (.cells (st+1+1) [.int .i64 (c+1:Nat),.int .i64 (max d p:Nat)])) (be _ e4) (ae _ n2.symm e1) (ae _ n3.symm e3) (ae _ n1.symm e2) rfl h.2.1 (by omega)
    refine⟨st',d',?_⟩
    have hc:ab de (.call 305 [.ptr (H++[DB.cells 0 [.ptr o 0]]).length 0,.ptr H.length 0,.ptr ((H++[DB.cells 0 [.ptr o 0]])++[DB.cells 0 (bU (.mk k m n b xs ps))]).length 0] none) (G.set o (.cells (st+1+1) [.int .i64 (c+1:Nat),.int .i64 (max d p:Nat)]))=ret (.tuple []) (G.set o (.cells st' [.int .i64 (min (c+uM (.mk k m n b xs ps) p) 2001:Nat),.int .i64 (d':Nat)])):=by
     refine ev (Zs _ _ _ _ _) ?_
     rw[ac (ae _ n1.symm e2)]
     simp only[bU,am,ax,dc Px,bD]
     refine Eq.trans hl ?_
     rw[List.set_set,uM,hq1,cond_false,show min (c+1+(dM xs (p+1)+ep ps (p+1))) 2001=min (c+(1+(ep ps (p+1)+dM xs (p+1)))) 2001 by omega]
    rw[nd,hq,cond_false,af hc]
  obtain⟨st',d',hf⟩:=hfin
  refine⟨st',d',ev (by simp only[bU];exact f246 _ _ _ _ _ _ _ _ _ _) ?_⟩
  simp only[bU]at hG e1 e3 hf ⊢
  show aZ H (aA ((H++[DB.cells 0 [.ptr o 0]])++[DB.cells 0 [.int .i64 k,.int .i64 m,.str n,.str b,.row 6 (bI xs),.row 3 (bM ps)]]++[DB.cells 0 [.int .i64 (p:Nat)]]) H.length _)=_
  rw[hG,ac e1]
  simp only[am]
  rw[ac e3]
  simp only[am]
  rw[af hf]
  rw[hX]
  exact jS hlt (by simp[DB.bel,ef,D.bel])
theorem If(zk zm:Int)(zn za:List Nat)(zx:List Ex)(zp:List Pa)(s0:Nat)(xs:List Ex)(p:Nat)(hp:p<=100)(o v0 v1 v2 s1 s2:Nat)(X:Nat)(hx:∀(st c d:Nat) (H:DH),H[o]? = some (.cells st [.int .i64 (c:Nat),.int .i64 (d:Nat)])->H[v1]? = some (.cells s1 [.ptr o 0])->H[v2]? = some (.cells s2 [.int .i64 (p:Nat)])->H[v0]? = some (.cells s0 (bU (.mk zk zm zn za zx zp)))->c<=2001->∃ st' d',ao de (ab de) 305 200006 [.g (.ptr v1 0),.g (.ptr v2 0),.g (.row 3 (bM zp)),.g (.int .i64 (zp.length:Nat)),.g (.int .i64 0)] [] H=ret (.tuple []) (H.set o (.cells st' [.int .i64 (min (c+X) 2001:Nat),.int .i64 (d':Nat)])))(hl:xs.length<2^62)(n1:v1≠o)(n2:v2≠o)(n0:v0≠o):∀(pre suf:List Ex) (st c d:Nat) (H:DH),H[o]? = some (.cells st [.int .i64 (c:Nat),.int .i64 (d:Nat)])->H[v1]? = some (.cells s1 [.ptr o 0])->H[v2]? = some (.cells s2 [.int .i64 (p:Nat)])->H[v0]? = some (.cells s0 (bU (.mk zk zm zn za zx zp)))->xs=pre++suf->Ex.oks suf->c<=2001 ->
 ∃ st' d',ao de (ab de) 305 200001 [.g (.ptr v0 0),.g (.ptr v1 0),.g (.ptr v2 0),.g (.row 6 (bI xs)),.g (.int .i64 (xs.length:Nat)),.g (.int .i64 (pre.length:Nat))] [] H=ret (.tuple []) (H.set o (.cells st' [.int .i64 (min (c+(dM suf (p+1)+X)) 2001:Nat),.int .i64 (d':Nat)]))
 |pre,[],st,c,d,H,ho,h1,h2,h0,e,_,hc=>by
  have e2:xs.length=pre.length:=by rw[e];simp
  obtain⟨st',d',hh⟩:=hx st c d H ho h1 h2 h0 hc
  refine⟨st',d',bg (tO _ _ _ _ _ _ _ _) ?_⟩
  simp only[bU]at h0
  simp only[e2,Int.lt_irrefl,decide_false,cond_false,dM,Nat.zero_add,ac h0,am,ax,dc Ss,bG,hh]
 |pre,t::suf,st,c,d,H,ho,h1,h2,h0,e,h,hcc=>by
  simp only[Ex.oks]at h
  have hi:pre.length<xs.length:=by rw[e];simp
  have hd:decide ((pre.length:Int)<(xs.length:Int))=true:=by simp;exact hi
  have ht:(bI xs)[pre.length]? = some (bU t):=by rw[e];exact gH _ _ _
  obtain⟨gi,d1,hc⟩:=Gm t (p+1) c d st o H ho h.1 (by omega) hcc
  obtain⟨st',d',ih⟩:=If zk zm zn za zx zp s0 xs p hp o v0 v1 v2 s1 s2 X hx hl n1 n2 n0 (pre++[t]) suf gi (min (c+uM t (p+1)) 2001) d1 (H.set o (.cells gi [.int .i64 (min (c+uM t (p+1)) 2001:Nat),.int .i64 (d1:Nat)])) (be _ ho) (ae _ n1.symm h1) (ae _ n2.symm h2) (ae _ n0.symm h0) (by rw[e];simp) h.2 (by omega)
  refine⟨st',d',bg (tO _ _ _ _ _ _ _ _) ?_⟩
  have hdq:min (c+(dM (t::suf) (p+1)+X)) 2001=min (min (c+uM t (p+1)) 2001+(dM suf (p+1)+X)) 2001:=by rw[dM];omega
  rw[hdq]
  generalize uM t (p+1)=q at hc ih ⊢
  obtain⟨tk,tm,tn,ta,tas,tps⟩:=t
  simp only[bU]at ht hc
  simp only[List.length_append,List.length_singleton,List.set_set]at ih
  simp only[hd,cond_true,iq Px XO ht,NJ,OO,We,ac h1,ac h2,am,ax,cg,aq (show p<2^62 by omega),af hc,aq (show pre.length<2^62 by omega)]
  exact ih
end
def bB:List Co->List Ty
 |[]=>[]
 |c::r=>c.xs++bB r
def cO(d:De):List Ty:=cond (d.k==1) (bB d.d.cs) (cond (d.k==2) [d.t] [])
def cr(d:De):List Ex:=cond (d.k==3) (d.fs.map (·.b)) (cond (d.k==4) [d.b] (cond (d.k==5) [d.b] []))
theorem Fy:∀(a b:List Ty) (q:Nat),ee (a++b) q=max (ee a q) (ee b q)
 |[],b,q=>by simp[ee]
 |t::a,b,q=>by rw[List.cons_append,ee,ee,Fy a b q,Nat.max_assoc]
theorem EB:∀(a b:List Ty) (q:Nat),ct (a++b) q=ct a q+ct b q
 |[],b,q=>by simp[ct]
 |t::a,b,q=>by rw[List.cons_append,ct,ct,EB a b q,Nat.add_assoc]
theorem JK(cs:List Co)(ic:Nat)(xs:List Ty)(o:Nat)(hl:xs.length<2^62):∀(pre suf:List Ty) (st d:Nat) (H:DH),H[o]? = some (.cells st [.int .i64 (d:Nat)])->xs=pre++suf->Ty.oks suf ->
 ∃ st',ao de (ab de) 179 200007 [.g (.ptr o 0),.g (.row 2 (cs.map gI)),.g (.int .i64 (cs.length:Nat)),.g (.int .i64 (ic:Nat)),.g (.row 2 (bJ xs)),.g (.int .i64 (xs.length:Nat)),.g (.int .i64 (pre.length:Nat))] [] H
  = ao de (ab de) 179 200004 [.g (.ptr o 0),.g (.row 2 (cs.map gI)),.g (.int .i64 (cs.length:Nat)),.g (.int .i64 (IntKind.wrap .i64 ((ic:Int)+1)))] [] (H.set o (.cells st' [.int .i64 (max d (ee suf 1):Nat)]))
 |pre,[],st,d,H,ho,e,_=>by
  have e2:xs.length=pre.length:=by rw[e];simp
  refine⟨st,bg (ue _ _ _ _ _ _ _ _ _) ?_⟩
  simp only[e2,Int.lt_irrefl,decide_false,cond_false,ee,Nat.max_zero,ol ho]
 |pre,t::suf,st,d,H,ho,e,h=>by
  simp only[Ty.oks]at h
  have hi:pre.length<xs.length:=by rw[e];simp
  have hd:decide ((pre.length:Int)<(xs.length:Int))=true:=by simp;exact hi
  have ht:(bJ xs)[pre.length]? = some (cN t):=by rw[e];exact fK _ _ _
  obtain⟨gi,hc⟩:=CT t 1 d st o H ho h.1 (by omega)
  obtain⟨st',ih⟩:=JK cs ic xs o hl (pre++[t]) suf gi (max d (zJ t 1)) (H.set o (.cells gi [.int .i64 (max d (zJ t 1):Nat)])) (be _ ho) (by rw[e];simp) h.2
  refine⟨st',bg (ue _ _ _ _ _ _ _ _ _) ?_⟩
  have hdq:ee (t::suf) 1=max (zJ t 1) (ee suf 1):=by rw[ee]
  rw[hdq,<- Nat.max_assoc]
  generalize zJ t 1=q at hc ih ⊢
  obtain⟨tn,tas⟩:=t
  simp only[cN]at ht hc
  simp only[List.length_append,List.length_singleton,List.set_set]at ih
  have hc:ab de (.call 243 [.ptr o 0,.agg [.str tn,.row 2 (bJ tas)],.int .i64 1] none) H=_:=hc
  simp only[hd,cond_true,iq jF DQ ht,tw,yy,Qn,am,ax,af hc,aq (show pre.length<2^62 by omega)]
  exact ih
theorem Fv(cs:List Co)(o:Nat)(hl:cs.length<2^62):∀(pre suf:List Co) (st d:Nat) (H:DH),H[o]? = some (.cells st [.int .i64 (d:Nat)])->cs=pre++suf->(∀ c∈suf,c.ok) ->
 ∃ st',ao de (ab de) 179 200004 [.g (.ptr o 0),.g (.row 2 (cs.map gI)),.g (.int .i64 (cs.length:Nat)),.g (.int .i64 (pre.length:Nat))] [] H=ret (.tuple []) (H.set o (.cells st' [.int .i64 (max d (ee (bB suf) 1):Nat)]))
 |pre,[],st,d,H,ho,e,_=>by
  have e2:cs.length=pre.length:=by rw[e];simp
  refine⟨st,bg (uf _ _ _ _ _ _) ?_⟩
  simp only[e2,Int.lt_irrefl,decide_false,cond_false,bB,ee,Nat.max_zero,ol ho]
 |pre,c::suf,st,d,H,ho,e,h=>by
  have hi:pre.length<cs.length:=by rw[e];simp
  have hd:decide ((pre.length:Int)<(cs.length:Int))=true:=by simp;exact hi
  have ht:(cs.map gI)[pre.length]? = some (gI c):=by rw[e];exact bO _ _ _ _
  have hc:=h c (List.mem_cons_self ..)
  obtain⟨gi,h1⟩:=JK cs pre.length c.xs o hc.1 [] c.xs st d H ho rfl hc.2
  obtain⟨st',ih⟩:=Fv cs o hl (pre++[c]) suf gi (max d (ee c.xs 1)) (H.set o (.cells gi [.int .i64 (max d (ee c.xs 1):Nat)])) (be _ ho) (by rw[e];simp) (fun x hx=>h x (List.mem_cons_of_mem _ hx))
  refine⟨st',bg (uf _ _ _ _ _ _) ?_⟩
  obtain⟨cn,xs⟩:=c
  simp only[List.length_append,List.length_singleton,List.set_set]at ih
  simp only[aq (show pre.length<2^62 by omega)]at h1
  have h1:ao de (ab de) 179 200007 [.g (.ptr o 0),.g (.row 2 (cs.map gI)),.g (.int .i64 (cs.length:Nat)),.g (.int .i64 (pre.length:Nat)),.g (.row 2 (bJ xs)),.g (.int .i64 (xs.length:Nat)),.g (.int .i64 0)] [] H=_:=h1
  rw[bB,Fy,<- Nat.max_assoc]
  simp only[hd,cond_true,aI,ak ht,gI,am,ax,dc jF,bq,h1]
  exact ih
theorem Fs(fs:List Fu)(o:Nat)(hl:fs.length<2^62):∀(pre suf:List Fu) (st d:Nat) (H:DH),H[o]? = some (.cells st [.int .i64 (d:Nat)])->fs=pre++suf->(∀ f∈suf,f.b.ok) ->
 ∃ st',ao de (ab de) 179 200016 [.g (.ptr o 0),.g (.row 8 (fs.map ir)),.g (.int .i64 (fs.length:Nat)),.g (.int .i64 (pre.length:Nat))] [] H=ret (.tuple []) (H.set o (.cells st' [.int .i64 (max d (gc (suf.map (·.b)) 1):Nat)]))
 |pre,[],st,d,H,ho,e,_=>by
  have e2:fs.length=pre.length:=by rw[e];simp
  refine⟨st,bg (ud _ _ _ _ _ _) ?_⟩
  simp only[e2,Int.lt_irrefl,decide_false,cond_false,List.map_nil,gc,Nat.max_zero,ol ho]
 |pre,f::suf,st,d,H,ho,e,h=>by
  have hi:pre.length<fs.length:=by rw[e];simp
  have hd:decide ((pre.length:Int)<(fs.length:Int))=true:=by simp;exact hi
  have ht:(fs.map ir)[pre.length]? = some (ir f):=by rw[e];exact bO _ _ _ _
  obtain⟨gi,h1⟩:=CU f.b 1 d st o H ho (h f (List.mem_cons_self ..)) (by omega)
  obtain⟨st',ih⟩:=Fs fs o hl (pre++[f]) suf gi (max d (zK f.b 1)) (H.set o (.cells gi [.int .i64 (max d (zK f.b 1):Nat)])) (be _ ho) (by rw[e];simp) (fun x hx=>h x (List.mem_cons_of_mem _ hx))
  refine⟨st',bg (ud _ _ _ _ _ _) ?_⟩
  rw[List.map_cons,gc,<- Nat.max_assoc]
  obtain⟨fn,fa,⟨k',m',en',ea',xs',ps'⟩⟩:=f
  simp only[List.length_append,List.length_singleton,List.set_set]at ih
  simp only[bU]at h1
  have h1:ab de (.call 244 [.ptr o 0,.agg [.int .i64 k',.int .i64 m',.str en',.str ea',.row 6 (bI xs'),.row 3 (bM ps')],.int .i64 1] none) H=_:=h1
  simp only[hd,cond_true,aI,ak ht,ir,am,ax,af h1,aq (show pre.length<2^62 by omega)]
  exact ih
def Lc(d:De):Nat:=max (ee (cO d) 1) (gc (cr d) 1)
theorem Vd(de':De)(d st o:Nat)(H:DH)(ho:H[o]? = some (.cells st [.int .i64 (d:Nat)]))(h:de'.ok) :
 ∃ st',ab de (.call 179 [.ptr o 0,.agg (bo de')] none) H=ret (.tuple []) (H.set o (.cells st' [.int .i64 (max d (Lc de'):Nat)])):=by
 obtain⟨k,⟨dn,vs,cs⟩,n,⟨tn,ts⟩,fs,⟨ek,em,en,ea,xs,ps⟩⟩:=de'
 obtain⟨⟨_,hc1,hc2⟩,h2,h3,h4,h5⟩:=h
 obtain⟨s1,w1⟩:=Fv cs o hc1 [] cs st d H ho rfl hc2
 obtain⟨s2,w2⟩:=Fs fs o h3 [] fs st d H ho rfl h4
 obtain⟨s3,w3⟩:=CT (.mk tn ts) 1 d st o H ho h2 (by omega)
 obtain⟨s4,w4⟩:=CU (.mk ek em en ea xs ps) 1 d st o H ho h5 (by omega)
 have w1:ao de (ab de) 179 200004 [.g (.ptr o 0),.g (.row 2 (cs.map gI)),.g (.int .i64 (cs.length:Nat)),.g (.int .i64 0)] [] H=_:=w1
 have w2:ao de (ab de) 179 200016 [.g (.ptr o 0),.g (.row 8 (fs.map ir)),.g (.int .i64 (fs.length:Nat)),.g (.int .i64 0)] [] H=_:=w2
 simp only[cN,bU]at w3 w4
 have w3:ab de (.call 243 [.ptr o 0,.agg [.str tn,.row 2 (bJ ts)],.int .i64 1] none) H=_:=w3
 have w4:ab de (.call 244 [.ptr o 0,.agg [.int .i64 ek,.int .i64 em,.str en,.str ea,.row 6 (bI xs),.row 3 (bM ps)],.int .i64 1] none) H=_:=w4
 have hk:k=1\/k=2\/k=3\/k=4\/k=5\/((k==1)=false/\(k==2)=false/\(k==3)=false/\(k==4)=false/\(k==5)=false):=by
  simp only[beq_eq_false_iff_ne];omega
 rcases hk with rfl|rfl|rfl|rfl|rfl|⟨k1,k2,k3,k4,k5⟩
 ·exact⟨s1,ev (KV _ _ _ _ _ _ _ _ _ _ _ _ _ _ _ _ _) (by rw[List.length_map];simp[w1,Lc,cO,cr,gc])⟩
 ·exact⟨s3,ev (KV _ _ _ _ _ _ _ _ _ _ _ _ _ _ _ _ _) (by simp[af w3,Lc,cO,cr,gc,ee])⟩
 ·exact⟨s2,ev (KV _ _ _ _ _ _ _ _ _ _ _ _ _ _ _ _ _) (by rw[List.length_map];simp[w2,Lc,cO,cr,ee])⟩
 ·exact⟨s4,ev (KV _ _ _ _ _ _ _ _ _ _ _ _ _ _ _ _ _) (by simp[af w4,Lc,cO,cr,gc,ee])⟩
 ·exact⟨s4,ev (KV _ _ _ _ _ _ _ _ _ _ _ _ _ _ _ _ _) (by simp[af w4,Lc,cO,cr,gc,ee])⟩
 ·exact⟨st,ev (KV _ _ _ _ _ _ _ _ _ _ _ _ _ _ _ _ _) (by simp only[k1,k2,k3,k4,k5,cond_false,Lc,cO,cr,gc,ee,Nat.max_zero,ol ho])⟩
theorem Ii(cs:List Co)(ic:Nat)(xs:List Ty)(o:Nat)(hl:xs.length<2^62):∀(pre suf:List Ty) (st m d:Nat) (H:DH),H[o]? = some (.cells st [.int .i64 (m:Nat),.int .i64 (d:Nat)])->xs=pre++suf->Ty.oks suf->m<=2001 ->
 ∃ st' d',ao de (ab de) 180 200007 [.g (.ptr o 0),.g (.row 2 (cs.map gI)),.g (.int .i64 (cs.length:Nat)),.g (.int .i64 (ic:Nat)),.g (.row 2 (bJ xs)),.g (.int .i64 (xs.length:Nat)),.g (.int .i64 (pre.length:Nat))] [] H
  = ao de (ab de) 180 200004 [.g (.ptr o 0),.g (.row 2 (cs.map gI)),.g (.int .i64 (cs.length:Nat)),.g (.int .i64 (IntKind.wrap .i64 ((ic:Int)+1)))] [] (H.set o (.cells st' [.int .i64 (min (m+ct suf 1) 2001:Nat),.int .i64 (d':Nat)]))
 |pre,[],st,m,d,H,ho,e,_,hm=>by
  have e2:xs.length=pre.length:=by rw[e];simp
  refine⟨st,d,bg (ub _ _ _ _ _ _ _ _ _) ?_⟩
  simp only[e2,Int.lt_irrefl,decide_false,cond_false,ct,show min (m+0) 2001=m by omega,ol ho]
 |pre,t::suf,st,m,d,H,ho,e,h,hm=>by
  simp only[Ty.oks]at h
  have hi:pre.length<xs.length:=by rw[e];simp
  have hd:decide ((pre.length:Int)<(xs.length:Int))=true:=by simp;exact hi
  have ht:(bJ xs)[pre.length]? = some (cN t):=by rw[e];exact fK _ _ _
  obtain⟨gi,d1,hc⟩:=Gk t 1 m d st o H ho h.1 (by omega) hm
  obtain⟨st',d',ih⟩:=Ii cs ic xs o hl (pre++[t]) suf gi (min (m+wU t 1) 2001) d1 (H.set o (.cells gi [.int .i64 (min (m+wU t 1) 2001:Nat),.int .i64 (d1:Nat)])) (be _ ho) (by rw[e];simp) h.2 (by omega)
  refine⟨st',d',bg (ub _ _ _ _ _ _ _ _ _) ?_⟩
  have hdq:min (m+ct (t::suf) 1) 2001=min (min (m+wU t 1) 2001+ct suf 1) 2001:=by rw[ct];omega
  rw[hdq]
  generalize wU t 1=q at hc ih ⊢
  obtain⟨tn,tas⟩:=t
  simp only[cN]at ht hc
  simp only[List.length_append,List.length_singleton,List.set_set]at ih
  have hc:ab de (.call 245 [.ptr o 0,.agg [.str tn,.row 2 (bJ tas)],.int .i64 1] none) H=_:=hc
  simp only[hd,cond_true,iq jF DQ ht,tw,yy,Qn,am,ax,af hc,aq (show pre.length<2^62 by omega)]
  exact ih
theorem DC(cs:List Co)(o:Nat)(hl:cs.length<2^62):∀(pre suf:List Co) (st m d:Nat) (H:DH),H[o]? = some (.cells st [.int .i64 (m:Nat),.int .i64 (d:Nat)])->cs=pre++suf->(∀ c∈suf,c.ok)->m<=2001 ->
 ∃ st' d',ao de (ab de) 180 200004 [.g (.ptr o 0),.g (.row 2 (cs.map gI)),.g (.int .i64 (cs.length:Nat)),.g (.int .i64 (pre.length:Nat))] [] H=ret (.tuple []) (H.set o (.cells st' [.int .i64 (min (m+ct (bB suf) 1) 2001:Nat),.int .i64 (d':Nat)]))
 |pre,[],st,m,d,H,ho,e,_,hm=>by
  have e2:cs.length=pre.length:=by rw[e];simp
  refine⟨st,d,bg (uc _ _ _ _ _ _) ?_⟩
  simp only[e2,Int.lt_irrefl,decide_false,cond_false,bB,ct,show min (m+0) 2001=m by omega,ol ho]
 |pre,c::suf,st,m,d,H,ho,e,h,hm=>by
  have hi:pre.length<cs.length:=by rw[e];simp
  have hd:decide ((pre.length:Int)<(cs.length:Int))=true:=by simp;exact hi
  have ht:(cs.map gI)[pre.length]? = some (gI c):=by rw[e];exact bO _ _ _ _
  have hc:=h c (List.mem_cons_self ..)
  obtain⟨gi,d1,h1⟩:=Ii cs pre.length c.xs o hc.1 [] c.xs st m d H ho rfl hc.2 hm
  obtain⟨st',d',ih⟩:=DC cs o hl (pre++[c]) suf gi (min (m+ct c.xs 1) 2001) d1 (H.set o (.cells gi [.int .i64 (min (m+ct c.xs 1) 2001:Nat),.int .i64 (d1:Nat)])) (be _ ho) (by rw[e];simp) (fun x hx=>h x (List.mem_cons_of_mem _ hx)) (by omega)
  refine⟨st',d',bg (uc _ _ _ _ _ _) ?_⟩
  obtain⟨cn,xs⟩:=c
  simp only[List.length_append,List.length_singleton,List.set_set]at ih
  simp only[aq (show pre.length<2^62 by omega)]at h1
  have h1:ao de (ab de) 180 200007 [.g (.ptr o 0),.g (.row 2 (cs.map gI)),.g (.int .i64 (cs.length:Nat)),.g (.int .i64 (pre.length:Nat)),.g (.row 2 (bJ xs)),.g (.int .i64 (xs.length:Nat)),.g (.int .i64 0)] [] H=_:=h1
  rw[bB,EB,show min (m+(ct xs 1+ct (bB suf) 1)) 2001=min (min (m+ct xs 1) 2001+ct (bB suf) 1) 2001 by omega]
  simp only[hd,cond_true,aI,ak ht,gI,am,ax,dc jF,bq,h1]
  exact ih
theorem Dz(fs:List Fu)(o:Nat)(hl:fs.length<2^62):∀(pre suf:List Fu) (st m d:Nat) (H:DH),H[o]? = some (.cells st [.int .i64 (m:Nat),.int .i64 (d:Nat)])->fs=pre++suf->(∀ f∈suf,f.b.ok)->m<=2001 ->
 ∃ st' d',ao de (ab de) 180 200016 [.g (.ptr o 0),.g (.row 8 (fs.map ir)),.g (.int .i64 (fs.length:Nat)),.g (.int .i64 (pre.length:Nat))] [] H=ret (.tuple []) (H.set o (.cells st' [.int .i64 (min (m+dM (suf.map (·.b)) 1) 2001:Nat),.int .i64 (d':Nat)]))
 |pre,[],st,m,d,H,ho,e,_,hm=>by
  have e2:fs.length=pre.length:=by rw[e];simp
  refine⟨st,d,bg (ua _ _ _ _ _ _) ?_⟩
  simp only[e2,Int.lt_irrefl,decide_false,cond_false,List.map_nil,dM,show min (m+0) 2001=m by omega,ol ho]
 |pre,f::suf,st,m,d,H,ho,e,h,hm=>by
  have hi:pre.length<fs.length:=by rw[e];simp
  have hd:decide ((pre.length:Int)<(fs.length:Int))=true:=by simp;exact hi
  have ht:(fs.map ir)[pre.length]? = some (ir f):=by rw[e];exact bO _ _ _ _
  obtain⟨gi,d1,h1⟩:=Gm f.b 1 m d st o H ho (h f (List.mem_cons_self ..)) (by omega) hm
  obtain⟨st',d',ih⟩:=Dz fs o hl (pre++[f]) suf gi (min (m+uM f.b 1) 2001) d1 (H.set o (.cells gi [.int .i64 (min (m+uM f.b 1) 2001:Nat),.int .i64 (d1:Nat)])) (be _ ho) (by rw[e];simp) (fun x hx=>h x (List.mem_cons_of_mem _ hx)) (by omega)
  refine⟨st',d',bg (ua _ _ _ _ _ _) ?_⟩
  rw[List.map_cons,dM,show min (m+(uM f.b 1+dM (suf.map (·.b)) 1)) 2001=min (min (m+uM f.b 1) 2001+dM (suf.map (·.b)) 1) 2001 by omega]
  obtain⟨fn,fa,⟨k',m',en',ea',xs',ps'⟩⟩:=f
  simp only[List.length_append,List.length_singleton,List.set_set]at ih
  simp only[bU]at h1
  have h1:ab de (.call 246 [.ptr o 0,.agg [.int .i64 k',.int .i64 m',.str en',.str ea',.row 6 (bI xs'),.row 3 (bM ps')],.int .i64 1] none) H=_:=h1
  simp only[hd,cond_true,aI,ak ht,ir,am,ax,af h1,aq (show pre.length<2^62 by omega)]
  exact ih
def Hj(d:De):Nat:=ct (cO d) 1+dM (cr d) 1
theorem Te(de':De)(m d st o:Nat)(H:DH)(ho:H[o]? = some (.cells st [.int .i64 (m:Nat),.int .i64 (d:Nat)]))(h:de'.ok)(hm:m<=2001) :
 ∃ st' d',ab de (.call 180 [.ptr o 0,.agg (bo de')] none) H=ret (.tuple []) (H.set o (.cells st' [.int .i64 (min (m+Hj de') 2001:Nat),.int .i64 (d':Nat)])):=by
 obtain⟨k,⟨dn,vs,cs⟩,n,⟨tn,ts⟩,fs,⟨ek,em,en,ea,xs,ps⟩⟩:=de'
 obtain⟨⟨_,hc1,hc2⟩,h2,h3,h4,h5⟩:=h
 obtain⟨s1,t1,w1⟩:=DC cs o hc1 [] cs st m d H ho rfl hc2 hm
 obtain⟨s2,t2,w2⟩:=Dz fs o h3 [] fs st m d H ho rfl h4 hm
 obtain⟨s3,t3,w3⟩:=Gk (.mk tn ts) 1 m d st o H ho h2 (by omega) hm
 obtain⟨s4,t4,w4⟩:=Gm (.mk ek em en ea xs ps) 1 m d st o H ho h5 (by omega) hm
 have w1:ao de (ab de) 180 200004 [.g (.ptr o 0),.g (.row 2 (cs.map gI)),.g (.int .i64 (cs.length:Nat)),.g (.int .i64 0)] [] H=_:=w1
 have w2:ao de (ab de) 180 200016 [.g (.ptr o 0),.g (.row 8 (fs.map ir)),.g (.int .i64 (fs.length:Nat)),.g (.int .i64 0)] [] H=_:=w2
 simp only[cN,bU]at w3 w4
 have w3:ab de (.call 245 [.ptr o 0,.agg [.str tn,.row 2 (bJ ts)],.int .i64 1] none) H=_:=w3
 have w4:ab de (.call 246 [.ptr o 0,.agg [.int .i64 ek,.int .i64 em,.str en,.str ea,.row 6 (bI xs),.row 3 (bM ps)],.int .i64 1] none) H=_:=w4
 have hk:k=1\/k=2\/k=3\/k=4\/k=5\/((k==1)=false/\(k==2)=false/\(k==3)=false/\(k==4)=false/\(k==5)=false):=by
  simp only[beq_eq_false_iff_ne];omega
 rcases hk with rfl|rfl|rfl|rfl|rfl|⟨k1,k2,k3,k4,k5⟩
 ·exact⟨s1,t1,ev (KU _ _ _ _ _ _ _ _ _ _ _ _ _ _ _ _ _) (by rw[List.length_map];simp[w1,Hj,cO,cr,dM])⟩
 ·exact⟨s3,t3,ev (KU _ _ _ _ _ _ _ _ _ _ _ _ _ _ _ _ _) (by simp[af w3,Hj,cO,cr,dM,ct])⟩
 ·exact⟨s2,t2,ev (KU _ _ _ _ _ _ _ _ _ _ _ _ _ _ _ _ _) (by rw[List.length_map];simp[w2,Hj,cO,cr,ct])⟩
 ·exact⟨s4,t4,ev (KU _ _ _ _ _ _ _ _ _ _ _ _ _ _ _ _ _) (by simp[af w4,Hj,cO,cr,dM,ct])⟩
 ·exact⟨s4,t4,ev (KU _ _ _ _ _ _ _ _ _ _ _ _ _ _ _ _ _) (by simp[af w4,Hj,cO,cr,dM,ct])⟩
 ·exact⟨st,d,ev (KU _ _ _ _ _ _ _ _ _ _ _ _ _ _ _ _ _) (by simp only[k1,k2,k3,k4,k5,cond_false,Hj,cO,cr,dM,ct,Nat.add_zero,show min m 2001=m by omega,ol ho])⟩
def lG:List De->Nat
 |[]=>0
 |x::r=>max (Lc x) (lG r)
def gk:List De->Nat
 |[]=>0
 |x::r=>Hj x+gk r
theorem LY{H X:DH}{k:IntKind}{n:Int}{b:DB}:aZ H (ret (.int k n) ((H++X).set H.length b))=ret (.int k n) H:=by
 have e:(H++X).set H.length b=H++X.set 0 b:=by rw[List.set_append,if_neg (by omega),Nat.sub_self]
 rw[e]
 have h:nD H ⟨.ret (.int k n),none,H++X.set 0 b⟩:=⟨by simp[Dv.bel,D.bel],rfl,by simp,fun i x hi hx=>.inl (by rwa [List.getElem?_append_left hi]at hx)⟩
 simp only[aZ,ret]
 rw[if_pos h]
 simp
theorem JJ(l:List De)(o:Nat)(hl:l.length<2^62):∀(pre suf:List De) (st d:Nat) (H:DH),H[o]? = some (.cells st [.int .i64 (d:Nat)])->l=pre++suf->(∀ x∈suf,x.ok) ->
 ∃ st',ao de (ab de) 113 200003 [.g (.ptr o 0),.g (.row 14 (l.map bo)),.g (.int .i64 (l.length:Nat)),.g (.int .i64 (pre.length:Nat))] [] H=ret (.int .i64 (max d (lG suf):Nat)) (H.set o (.cells st' [.int .i64 (max d (lG suf):Nat)]))
 |pre,[],st,d,H,ho,e,_=>by
  have e2:l.length=pre.length:=by rw[e];simp
  refine⟨st,bg (uz _ _ _ _ _ _) ?_⟩
  simp only[e2,Int.lt_irrefl,decide_false,cond_false,ac ho,am,lG,Nat.max_zero,ol ho]
 |pre,x::suf,st,d,H,ho,e,h=>by
  have hi:pre.length<l.length:=by rw[e];simp
  have hd:decide ((pre.length:Int)<(l.length:Int))=true:=by simp;exact hi
  have ht:(l.map bo)[pre.length]? = some (bo x):=by rw[e];exact bO _ _ _ _
  obtain⟨gi,h1⟩:=Vd x d st o H ho (h x (List.mem_cons_self ..))
  obtain⟨st',ih⟩:=JJ l o hl (pre++[x]) suf gi (max d (Lc x)) (H.set o (.cells gi [.int .i64 (max d (Lc x):Nat)])) (be _ ho) (by rw[e];simp) (fun y hy=>h y (List.mem_cons_of_mem _ hy))
  refine⟨st',bg (uz _ _ _ _ _ _) ?_⟩
  rw[lG,<- Nat.max_assoc]
  generalize Lc x=q at h1 ih ⊢
  obtain⟨k,⟨dn,vs,cs⟩,n,⟨tn,ts⟩,fs,⟨ek,em,en,ea,xs,ps⟩⟩:=x
  simp only[List.length_append,List.length_singleton,List.set_set]at ih
  simp only[bo]at h1
  simp only[hd,cond_true,aI,ak ht,bo,am,ax,af h1,aq (show pre.length<2^62 by omega)]
  exact ih
theorem Rx(l:List De)(hl:l.length<2^62)(h:∀ x∈l,x.ok)(H:DH):ab de (.call 113 [.agg [.row 14 (l.map bo)]] none) H=ret (.int .i64 (lG l:Nat)) H:=by
 obtain⟨st',w⟩:=JJ l H.length hl [] l 0 0 (H++[.cells 0 [.int .i64 0]]) (aY H _) rfl h
 refine ev (aaF _ _ _) ?_
 have w:ao de (ab de) 113 200003 [.g (.ptr H.length 0),.g (.row 14 (l.map bo)),.g (.int .i64 (l.length:Nat)),.g (.int .i64 0)] [] (H++[.cells 0 [.int .i64 0]])=_:=w
 simp only[List.length_map,w,LY,Nat.zero_max]
theorem Ig(l:List De)(o:Nat)(hl:l.length<2^62):∀(pre suf:List De) (st m d:Nat) (H:DH),H[o]? = some (.cells st [.int .i64 (m:Nat),.int .i64 (d:Nat)])->l=pre++suf->(∀ x∈suf,x.ok)->m<=2001 ->
 ∃ st' d',ao de (ab de) 114 200003 [.g (.ptr o 0),.g (.row 14 (l.map bo)),.g (.int .i64 (l.length:Nat)),.g (.int .i64 (pre.length:Nat))] [] H=ret (.int .i64 (min (m+gk suf) 2001:Nat)) (H.set o (.cells st' [.int .i64 (min (m+gk suf) 2001:Nat),.int .i64 (d':Nat)]))
 |pre,[],st,m,d,H,ho,e,_,hm=>by
  have e2:l.length=pre.length:=by rw[e];simp
  refine⟨st,d,bg (uy _ _ _ _ _ _) ?_⟩
  simp only[e2,Int.lt_irrefl,decide_false,cond_false,ac ho,am,gk,show min (m+0) 2001=m by omega,ol ho]
 |pre,x::suf,st,m,d,H,ho,e,h,hm=>by
  have hi:pre.length<l.length:=by rw[e];simp
  have hd:decide ((pre.length:Int)<(l.length:Int))=true:=by simp;exact hi
  have ht:(l.map bo)[pre.length]? = some (bo x):=by rw[e];exact bO _ _ _ _
  obtain⟨gi,d1,h1⟩:=Te x m d st o H ho (h x (List.mem_cons_self ..)) hm
  obtain⟨st',d',ih⟩:=Ig l o hl (pre++[x]) suf gi (min (m+Hj x) 2001) d1 (H.set o (.cells gi [.int .i64 (min (m+Hj x) 2001:Nat),.int .i64 (d1:Nat)])) (be _ ho) (by rw[e];simp) (fun y hy=>h y (List.mem_cons_of_mem _ hy)) (by omega)
  refine⟨st',d',bg (uy _ _ _ _ _ _) ?_⟩
  rw[gk,show min (m+(Hj x+gk suf)) 2001=min (min (m+Hj x) 2001+gk suf) 2001 by omega]
  generalize Hj x=q at h1 ih ⊢
  obtain⟨k,⟨dn,vs,cs⟩,n,⟨tn,ts⟩,fs,⟨ek,em,en,ea,xs,ps⟩⟩:=x
  simp only[List.length_append,List.length_singleton,List.set_set]at ih
  simp only[bo]at h1
  simp only[hd,cond_true,aI,ak ht,bo,am,ax,af h1,aq (show pre.length<2^62 by omega)]
  exact ih
theorem Tp(l:List De)(hl:l.length<2^62)(h:∀ x∈l,x.ok)(H:DH):ab de (.call 114 [.agg [.row 14 (l.map bo)]] none) H=ret (.int .i64 (min (gk l) 2001:Nat)) H:=by
 obtain⟨st',d',w⟩:=Ig l H.length hl [] l 0 0 0 (H++[.cells 0 [.int .i64 0,.int .i64 0]]) (aY H _) rfl h (by omega)
 refine ev (aaE _ _ _) ?_
 have w:ao de (ab de) 114 200003 [.g (.ptr H.length 0),.g (.row 14 (l.map bo)),.g (.int .i64 (l.length:Nat)),.g (.int .i64 0)] [] (H++[.cells 0 [.int .i64 0,.int .i64 0]])=_:=w
 simp only[List.length_map,w,LY,Nat.zero_add]
variable{kind:List Nat->Int}(K:SY kind)
def bX(kind:List Nat->Int)(l:List De):Int:=bif decide (lG l>100)then 6 else bif decide (l.length>60)||decide (gk l>2000)then 2 else bif l.all (eK kind)then 0 else 21
theorem NP(d s:Nat)(q:Bool)(H:DH):ab de (.call 115 [.int .i64 (d:Nat),.int .i64 (s:Nat),.bool q] none) H=ret (.int .i64 (bif decide (d>100)then 6 else bif decide (s>2000)then 2 else bif q then 0 else 21)) H:=by
 refine ev (aaD _ _ _ _ _) ?_
 simp only[Cv,AN]
 cases decide (d>100)<;>cases decide (s>2000)<;>cases q<;>rfl
theorem NY(a:Nat):decide ((a:Int)>60)=decide (a>60):=by rw[Bool.eq_iff_iff];simp;omega
theorem Ra(a:Nat):decide ((a:Int)<=100)=!decide (a>100):=by rw[Bool.eq_iff_iff];simp;omega
include K
theorem RG(l:List De)(hl:l.length<2^62)(h:∀ x∈l,x.ok)(H:DH):ab de (.call 61 [.agg [.row 14 (l.map bo)]] none) H=ret (.int .i64 (bX kind l)) H:=by
 refine ev (f61 _ _ _) ?_
 have hb:aT cA 117=true:=by kernel_rfl
 have h3:=XH hb (p:=eK kind) l hl (fun t ht H'=>KI K t H' (h t ht)) H
 have j1 (q:Bool):ab de (.call 115 [.int .i64 (lG l:Nat),.int .i64 2001,.bool q] none) H=_:=NP (lG l) 2001 q H
 have hm:decide (min (gk l) 2001>2000)=decide (gk l>2000):=by rw[Bool.eq_iff_iff];simp;omega
 have hm2:decide (((min (gk l) 2001:Nat):Int)<=2000)=!decide (gk l>2000):=by rw[Bool.eq_iff_iff];simp;omega
 simp only[dq (Rx l hl h H),dq (Tp l hl h H),List.length_map,NY,RT,Ra,hm2,af h3,af (j1 _),af (NP _ _ _ _),au,hm,bX]
 cases decide (lG l>100)<;>cases decide (l.length>60)<;>cases decide (gk l>2000)<;>cases l.all (eK kind)<;>rfl
end Go.Proofs.YtpghiabjaglpgaaGreatDoor
namespace Go.Proofs.YtpghiabjaglpgaaGreatDoor
open Go.AI
mutual
theorem VM(n:Nat):∀ t:Ty,ef n (cN t)
 |.mk _ xs=>by simp only[cN,ef,D.bel,true_and,and_true];exact vL n xs
theorem vL(n:Nat):∀ l:List Ty,dz n (bJ l)
 |[]=>by simp[bJ,dz]
 |t::r=>by simp only[bJ,dz];exact⟨VM n t,vL n r⟩
end
mutual
theorem Wd(n:Nat):∀ t:Pa,ef n (dD t)
 |.mk _ _ xs=>by simp only[dD,ef,D.bel,true_and,and_true];exact mz n xs
theorem mz(n:Nat):∀ l:List Pa,dz n (bM l)
 |[]=>by simp[bM,dz]
 |t::r=>by simp only[bM,dz];exact⟨Wd n t,mz n r⟩
end
mutual
theorem Xr(n:Nat):∀ t:Ex,ef n (bU t)
 |.mk _ _ _ _ xs ps=>by simp only[bU,ef,D.bel,true_and,and_true];exact⟨mT n xs,mz n ps⟩
theorem mT(n:Nat):∀ l:List Ex,dz n (bI l)
 |[]=>by simp[bI,dz]
 |t::r=>by simp only[bI,dz];exact⟨Xr n t,mT n r⟩
end
theorem rK{H X:DH}{d:D}(hd:d.bel H.length):aZ H (ret d (H++X))=ret d H:=by
 have h:nD H ⟨.ret d,none,H++X⟩:=⟨by simpa only[Dv.bel]using hd,rfl,by simp,fun i x hi hx=>.inl (by rwa [List.getElem?_append_left hi]at hx)⟩
 simp only[aZ,ret]
 rw[if_pos h]
 simp
theorem Dg{ok:Nat->Bool}{sz:Nat}{l els:List (List D)}{H:DH}{κ:D->DH->ai}(h1:ok els.length=true)(h2:ok (l.length+els.length)=true) :
 cC ok sz (.buf sz H.length l.length) els (H++[.buf sz true false l]) κ=κ (.buf sz H.length (l.length+els.length)) (H++[.buf sz true false (l++els)]):=by
 have hb:(H++[DB.buf sz true false l])[H.length]? = some (.buf sz true false l):=aY _ _
 simp only[cC,h1,boK,cond_true,Nat.beq_refl,cq hb,h2,Bool.true_and,Bool.false_and,Bool.not_false,grow,cond_false]
 congr 1
 rw[List.set_append,if_neg (by omega),Nat.sub_self];rfl
structure Nd where
 e:Ex
 d:Int
 f:Int
 p:List Nat
 b:Int
 ar:Option (List Nat)
structure Bo where
 first:Nat
 decl:Int
 run:Int
 cell:Int
 name:List Nat
 arg:List Nat
 kind:Int
structure Pg where
 ds:List De
 ns:List Nd
 bs:List Bo
 rs:List Nat
 cs:List Nat
 m:List (Nat×List Nat)
def nC(l:List Nat):List (List D):=l.map fun i=>[.int .i64 (i:Nat)]
def asC:Option (List Nat)->D
 |none=>.nilrow
 |some l=>.row 1 (nC l)
def rI(x:Nd):List D:=match x.e with
 |.mk k m n a xs ps=>[.int .i64 k,.int .i64 m,.str n,.str a,.row 6 (bI xs),.row 3 (bM ps),.int .i64 x.d,.int .i64 x.f,.row 1 (nC x.p),.int .i64 x.b,asC x.ar]
def Bq(x:Bo):List D:=[.int .i64 (x.first:Nat),.int .i64 x.decl,.int .i64 x.run,.int .i64 x.cell,.str x.name,.str x.arg,.int .i64 x.kind]
def mC(l:List (Nat×List Nat)):List (D×D):=l.map fun x=>(.int .i64 (x.1:Nat),.str x.2)
def PL(n st:Nat)(G:Pg):DH:=[.map (mC G.m),.buf 11 true false (G.ns.map rI),.buf 7 true false (G.bs.map Bq),.buf 1 true false (nC G.rs),.buf 1 true false (nC G.cs),
 .cells st [.row 14 (G.ds.map bo),.buf 11 (n+1) G.ns.length,.buf 7 (n+2) G.bs.length,.buf 1 (n+3) G.rs.length,.buf 1 (n+4) G.cs.length,.map n]]
def PX(H0:DH)(st:Nat)(G:Pg)(X:DH):DH:=H0++(PL H0.length st G++X)
theorem Pb(X:DH){L:DH}{i:Nat}{b:DB}(h:L[i]? = some b):(L++X)[i]? = some b:=by
 rw[List.getElem?_append_left (List.getElem?_eq_some_iff.1 h).1];exact h
theorem pI(H0 L X:DH)(i:Nat)(b:DB)(h:L[i]? = some b):(H0++(L++X))[H0.length+i]? = some b:=by
 rw[List.getElem?_append_right (by omega),show H0.length+i - H0.length=i by omega]
 exact Pb X h
theorem fL(H0 L X:DH)(i:Nat)(b:DB)(h:i<L.length):(H0++(L++X)).set (H0.length+i) b=H0++(L.set i b++X):=by
 rw[List.set_append_right _ _ (by omega),show H0.length+i - H0.length=i by omega,List.set_append_left _ _ h]
variable(H0:DH)(st:Nat)(G:Pg)(X:DH)
theorem rR:(PX H0 st G X)[H0.length+5]? = some (.cells st [.row 14 (G.ds.map bo),.buf 11 (H0.length+1) G.ns.length,.buf 7 (H0.length+2) G.bs.length,.buf 1 (H0.length+3) G.rs.length,.buf 1 (H0.length+4) G.cs.length,.map H0.length]):=pI H0 (PL H0.length st G) X 5 _ rfl
theorem Tw:(PX H0 st G X)[H0.length]? = some (.map (mC G.m)):=pI H0 (PL H0.length st G) X 0 _ rfl
theorem MO:(PX H0 st G X)[H0.length+1]? = some (.buf 11 true false (G.ns.map rI)):=pI H0 (PL H0.length st G) X 1 _ rfl
theorem Tz:(PX H0 st G X)[H0.length+2]? = some (.buf 7 true false (G.bs.map Bq)):=pI H0 (PL H0.length st G) X 2 _ rfl
theorem VZ:(PX H0 st G X)[H0.length+3]? = some (.buf 1 true false (nC G.rs)):=pI H0 (PL H0.length st G) X 3 _ rfl
theorem Tx:(PX H0 st G X)[H0.length+4]? = some (.buf 1 true false (nC G.cs)):=pI H0 (PL H0.length st G) X 4 _ rfl
theorem wg:(PX H0 st G X).length=H0.length+6+X.length:=by simp[PX,PL];omega
theorem GB(Y:DH):PX H0 st G X++Y=PX H0 st G (X++Y):=by simp[PX]
theorem Qe(i:Nat):(PX H0 st G X)[H0.length+6+i]? = X[i]?:=by
 unfold PX
 rw[List.getElem?_append_right (by omega),List.getElem?_append_right (by simp[PL];omega)]
 congr 1
 simp[PL];omega
theorem IJ(i:Nat)(b:DB):(PX H0 st G X).set (H0.length+6+i) b=PX H0 st G (X.set i b):=by
 unfold PX
 rw[List.set_append_right _ _ (by omega),List.set_append_right _ _ (by simp[PL];omega)]
 congr 3
 simp[PL];omega
theorem Qg(x:Nd):((PX H0 st G X).set (H0.length+1) (.buf 11 true false (G.ns.map rI++[rI x]))).set (H0.length+5) (.cells (st+1) [.row 14 (G.ds.map bo),.buf 11 (H0.length+1) (G.ns.length+1),.buf 7 (H0.length+2) G.bs.length,.buf 1 (H0.length+3) G.rs.length,.buf 1 (H0.length+4) G.cs.length,.map H0.length])=PX H0 (st+1) { G with ns:=G.ns++[x] } X:=by
 unfold PX
 rw[fL _ _ _ _ _ (by simp[PL]),fL _ _ _ _ _ (by simp[PL])]
 simp[PL]
theorem MN(x:Bo):((PX H0 st G X).set (H0.length+2) (.buf 7 true false (G.bs.map Bq++[Bq x]))).set (H0.length+5) (.cells (st+1) [.row 14 (G.ds.map bo),.buf 11 (H0.length+1) G.ns.length,.buf 7 (H0.length+2) (G.bs.length+1),.buf 1 (H0.length+3) G.rs.length,.buf 1 (H0.length+4) G.cs.length,.map H0.length])=PX H0 (st+1) { G with bs:=G.bs++[x] } X:=by
 unfold PX
 rw[fL _ _ _ _ _ (by simp[PL]),fL _ _ _ _ _ (by simp[PL])]
 simp[PL]
theorem ML(x:Nat):((PX H0 st G X).set (H0.length+3) (.buf 1 true false (nC G.rs++[[.int .i64 (x:Nat)]]))).set (H0.length+5) (.cells (st+1) [.row 14 (G.ds.map bo),.buf 11 (H0.length+1) G.ns.length,.buf 7 (H0.length+2) G.bs.length,.buf 1 (H0.length+3) (G.rs.length+1),.buf 1 (H0.length+4) G.cs.length,.map H0.length])=PX H0 (st+1) { G with rs:=G.rs++[x] } X:=by
 unfold PX
 rw[fL _ _ _ _ _ (by simp[PL]),fL _ _ _ _ _ (by simp[PL])]
 simp[PL,nC]
theorem MM(x:Nat):((PX H0 st G X).set (H0.length+4) (.buf 1 true false (nC G.cs++[[.int .i64 (x:Nat)]]))).set (H0.length+5) (.cells (st+1) [.row 14 (G.ds.map bo),.buf 11 (H0.length+1) G.ns.length,.buf 7 (H0.length+2) G.bs.length,.buf 1 (H0.length+3) G.rs.length,.buf 1 (H0.length+4) (G.cs.length+1),.map H0.length])=PX H0 (st+1) { G with cs:=G.cs++[x] } X:=by
 unfold PX
 rw[fL _ _ _ _ _ (by simp[PL]),fL _ _ _ _ _ (by simp[PL])]
 simp[PL,nC]
theorem Qf(ns:List Nd)(h:ns.length=G.ns.length):(PX H0 st G X).set (H0.length+1) (.buf 11 true false (ns.map rI))=PX H0 st { G with ns:=ns } X:=by
 unfold PX
 rw[fL _ _ _ _ _ (by simp[PL])]
 simp[PL,h]
theorem IK(m:List (Nat×List Nat)):(PX H0 st G X).set H0.length (.map (mC m))=PX H0 st { G with m:=m } X:=by
 unfold PX
 rw[show H0.length=H0.length+0 from rfl,fL _ _ _ _ _ (by simp[PL])]
 simp[PL]
theorem sd(n:Nat):∀ l:List Nat,dz n (nC l)
 |[]=>by simp[nC,dz]
 |i::r=>by simp only[nC,List.map_cons,dz,ef,D.bel,true_and];exact sd n r
theorem TS(n:Nat)(x:Nd):ef n (rI x):=by
 obtain⟨⟨k,m,nm,a,xs,ps⟩,d,f,p,b,ar⟩:=x
 simp only[rI,ef,D.bel,true_and,and_true]
 refine⟨mT n xs,mz n ps,sd n p,?_⟩
 cases ar with
 |none=>trivial
 |some l=>simp only[asC,D.bel];exact sd n l
theorem IY(n:Nat):∀ l:List Nd,dz n (l.map rI)
 |[]=>by simp[dz]
 |x::r=>by simp only[List.map_cons,dz];exact⟨TS n x,IY n r⟩
theorem JT(n:Nat):∀ l:List Bo,dz n (l.map Bq)
 |[]=>by simp[dz]
 |x::r=>by simp only[List.map_cons,dz,Bq,ef,D.bel,true_and];exact JT n r
theorem Ip(n:Nat):∀ l:List (List Nat),dz n (l.map kO)
 |[]=>by simp[dz]
 |x::r=>by simp only[List.map_cons,dz,kO,ef,D.bel,true_and];exact Ip n r
theorem JM(n:Nat):∀ l:List Co,dz n (l.map gI)
 |[]=>by simp[dz]
 |⟨_,xs⟩::r=>by simp only[List.map_cons,dz,gI,ef,D.bel,true_and,and_true];exact⟨vL n xs,JM n r⟩
theorem Js(n:Nat):∀ l:List Fu,dz n (l.map ir)
 |[]=>by simp[dz]
 |⟨_,_,.mk _ _ _ _ xs ps⟩::r=>by simp only[List.map_cons,dz,ir,ef,D.bel,true_and,and_true];exact⟨⟨mT n xs,mz n ps⟩,Js n r⟩
theorem JC(n:Nat):∀ l:List De,dz n (l.map bo)
 |[]=>by simp[dz]
 |⟨_,⟨_,vs,cs⟩,_,.mk _ ts,fs,.mk _ _ _ _ xs ps⟩::r=>by
  simp only[List.map_cons,dz,bo,ef,D.bel,true_and,and_true]
  exact⟨⟨Ip n vs,JM n cs,vL n ts,Js n fs,mT n xs,mz n ps⟩,JC n r⟩
theorem II{d:D}{st':Nat}{G':Pg}{Y:DH}(hd:d.bel (PX H0 st G X).length):aZ (PX H0 st G X) (ret d (PX H0 st' G' (X++Y)))=ret d (PX H0 st' G' X):=by
 have hl:=wg H0 st G X
 have ht:nD (PX H0 st G X) ⟨.ret d,none,PX H0 st' G' (X++Y)⟩:=by
  refine⟨hd,rfl,by simp only[wg,List.length_append];omega,fun i b hi hb=>?_⟩
  simp only at hb
  rcases Nat.lt_or_ge i H0.length with q|q
  ·left
   unfold PX at hb ⊢
   rw[List.getElem?_append_left q]at hb ⊢;exact hb
  ·obtain⟨j,rfl⟩:∃ j,i=H0.length+j:=⟨i - H0.length,by omega⟩
   rcases Nat.lt_or_ge j 6 with q2|q2
   ·right
    have:j=0\/j=1\/j=2\/j=3\/j=4\/j=5:=by omega
    rcases this with rfl|rfl|rfl|rfl|rfl|rfl
    ·rw[Nat.add_zero,Tw]at hb;cases hb
     simp only[DB.bel,mC]
     intro x hx
     obtain⟨z,_,rfl⟩:=List.mem_map.1 hx
     exact⟨trivial,trivial⟩
    ·rw[MO]at hb;cases hb;exact IY _ _
    ·rw[Tz]at hb;cases hb;exact JT _ _
    ·rw[VZ]at hb;cases hb;exact sd _ _
    ·rw[Tx]at hb;cases hb;exact sd _ _
    ·rw[rR]at hb;cases hb
     simp only[DB.bel,ef,D.bel,and_true]
     exact⟨JC _ _,by omega,by omega,by omega,by omega,by omega⟩
   ·left
    obtain⟨k,rfl⟩:∃ k,j=6+k:=⟨j - 6,by omega⟩
    rw[<- Nat.add_assoc,Qe]at hb ⊢
    rw[List.getElem?_append_left (by omega)]at hb;exact hb
 simp only[aZ,ret]
 rw[if_pos ht]
 have:(PX H0 st' G' (X++Y)).take (PX H0 st G X).length=PX H0 st' G' X:=by
  rw[<- GB,List.take_append_of_le_length (by simp only[wg];omega),List.take_of_length_le (by simp only[wg];omega)]
 rw[this]
end Go.Proofs.YtpghiabjaglpgaaGreatDoor
namespace Go.Proofs.YtpghiabjaglpgaaGreatDoor
open Go.AI
def pk(l:List Nat)(i:Nat):Nat:=(l[i]?).getD 0%256
def ed(c:Nat):Bool:=decide (97<=c)&&decide (c<=122)
def ik(c:Nat):Bool:=decide (65<=c)&&decide (c<=90)
def aS(c:Nat):Bool:=decide (48<=c)&&decide (c<=57)
def aO(c:Nat):Bool:=ed c||ik c||aS c||c==95
def cM(c:Nat):Bool:=c==32||c==9||c==10||c==13
def rn(q:Nat->Bool)(l:List Nat)(i:Nat):Nat:=((l.drop i).takeWhile fun c=>q (c%256)).length
theorem wd(q:Nat->Bool){l:List Nat}{i:Nat}(h:l.length<=i):rn q l i=0:=by simp[rn,List.drop_eq_nil_of_le h]
theorem jn(q:Nat->Bool){l:List Nat}{i:Nat}(h:i<l.length):rn q l i=if q (pk l i)=true then rn q l (i+1)+1 else 0:=by
 unfold rn pk
 rw[List.drop_eq_getElem_cons h,List.takeWhile_cons,List.getElem?_eq_getElem h,Option.getD_some]
 split<;>rfl
theorem qd(q:Nat->Bool)(l:List Nat)(i:Nat)(h:i<=l.length):i+rn q l i<=l.length:=by
 unfold rn
 have:=(List.takeWhile_sublist (fun c=>q (c%256)) (l:=l.drop i)).length_le
 rw[List.length_drop]at this
 omega
theorem Wb(l:List Nat)(i:Nat):pk l i<256:=Nat.mod_lt _ (by decide)
theorem mu{l:List Nat}{i:Nat}(h:l.length<=i):pk l i=0:=by simp[pk,List.getElem?_eq_none h]
theorem cI{l:List Nat}{i:Nat}(h:i<l.length)(κ:D->ai):dW l i κ=κ (.int .u8 (pk l i:Nat)):=by
 unfold dW pk
 rw[List.getElem?_eq_getElem h,Option.getD_some]
 rfl
theorem KH(l:List Nat)(H:DH)(κ:D->ai):bY Tryz.prog 9 (.str l) H κ=κ (.int .i64 (l.length:Int)):=by kernel_rfl
theorem WU(l:List Nat)(k:IntKind)(i:Int)(κ:D->ai):iW Tryz.prog 9 (.str l) (.int k i) κ=bv i fun i=>dW l i κ:=by kernel_rfl
theorem Py(l:List Nat)(a b:Nat)(H:DH)(κ:D->DH->ai)(h:a<=b)(h2:b<=l.length):cu Tryz.prog 9 (.str l) (some (.int .i64 (a:Nat))) (some (.int .i64 (b:Nat))) none H κ=κ (.str ((l.drop a).take (b - a))) H:=by
 have e:cu Tryz.prog 9 (.str l) (some (.int .i64 (a:Nat))) (some (.int .i64 (b:Nat))) none H κ=boK (Nat.ble b l.length&&Nat.ble a b) (κ (.str ((l.drop a).take (b - a))) H):=by kernel_rfl
 rw[e,Nat.ble_eq_true_of_le h,Nat.ble_eq_true_of_le h2];rfl
theorem XY(l:List Nat)(a:Nat)(H:DH)(κ:D->DH->ai)(h:a<=l.length):cu Tryz.prog 9 (.str l) (some (.int .i64 (a:Nat))) none none H κ=κ (.str (l.drop a)) H:=by
 have e:cu Tryz.prog 9 (.str l) (some (.int .i64 (a:Nat))) none none H κ=boK (Nat.ble l.length l.length&&Nat.ble a l.length) (κ (.str ((l.drop a).take (l.length - a))) H):=by kernel_rfl
 rw[e,Nat.ble_eq_true_of_le h,Nat.ble_eq_true_of_le (Nat.le_refl _),List.take_of_length_le (by simp)];rfl
theorem VN(l:List Nat)(b:Nat)(H:DH)(κ:D->DH->ai)(h:b<=l.length):cu Tryz.prog 9 (.str l) none (some (.int .i64 (b:Nat))) none H κ=κ (.str (l.take b)) H:=by
 have e:cu Tryz.prog 9 (.str l) none (some (.int .i64 (b:Nat))) none H κ=boK (Nat.ble b l.length&&Nat.ble 0 b) (κ (.str ((l.drop 0).take (b - 0))) H):=by kernel_rfl
 rw[e,Nat.ble_eq_true_of_le h,Nat.ble_eq_true_of_le (Nat.zero_le _)];rfl
theorem eX{x:ai}{d:D}{H:DH}{k:D->DH->ai}{kp:List gB->DH->ai}(h:x=ret d H):cH x k kp=k d H:=by rw[h];rfl
theorem Li{x:ai}{c:List gB}{u:Option eg}{H:DH}{k:D->DH->ai}{kp:List gB->DH->ai}(h:x=some ⟨.pan c,u,H⟩):cH x k kp=kp c H:=by rw[h];rfl
theorem yY{R:aE}{f:FuncId}{args:List D}{d:D}{H H':DH}{k:D->DH->ai}(h:R (.call f args none) H=pan d H'):C R f args H k=pan d H':=by rw[C,h];rfl
theorem GK{H:DH}{o st:Nat}{cs:List D}{κ:Nat->List D->ai}(h:H[o]? = some (.cells st cs)):aA (eW H [H]) o κ=κ st cs:=ac (uE h (fun H2 h2=>by simp at h2;subst h2;exact h))
section bytes
variable(H:DH)(c:Nat)
theorem YC(a:Nat):decide ((a:Int)<=(c:Int))=decide (a<=c):=decide_eq_decide.2 (by omega)
theorem Ky(a:Nat):decide ((c:Int)<=(a:Int))=decide (c<=a):=decide_eq_decide.2 (by omega)
theorem VA(a:Nat):decide ((c:Int)>=(a:Int))=decide (a<=c):=decide_eq_decide.2 (by omega)
theorem neq(a:Nat):((c:Int)==(a:Int))=(c==a):=by rw[Bool.eq_iff_iff];simp only[beq_iff_eq];omega
theorem oj(a b:Nat):decide ((a:Int)<(b:Int))=decide (a<b):=decide_eq_decide.2 (by omega)
theorem rng(a b:Nat):cond (decide (a<=c)) (ret (.bool (decide (c<=b))) H) (ret (.bool false) H)=ret (.bool (decide (a<=c)&&decide (c<=b))) H:=by cases decide (a<=c)<;>rfl
theorem BG:ab de (.call 346 [.int .u8 (c:Nat)] none) H=ret (.bool (ed c)) H:=ev (YQ _ _ _) (by rw[show(97:Int)=((97:Nat):Int)from rfl,show(122:Int)=((122:Nat):Int)from rfl,YC,Ky,rng];rfl)
theorem Jr:ab de (.call 348 [.int .u8 (c:Nat)] none) H=ret (.bool (ik c)) H:=ev (YO _ _ _) (by rw[show(65:Int)=((65:Nat):Int)from rfl,show(90:Int)=((90:Nat):Int)from rfl,YC,Ky,rng];rfl)
theorem vA:ab de (.call 344 [.int .u8 (c:Nat)] none) H=ret (.bool (aS c)) H:=ev (YS _ _ _) (by rw[show(48:Int)=((48:Nat):Int)from rfl,show(57:Int)=((57:Nat):Int)from rfl,YC,Ky,rng];rfl)
theorem BF:ab de (.call 284 [.int .u8 (c:Nat)] none) H=ret (.bool (ed c)) H:=ev (f284 _ _ _) (by rw[show(97:Int)=((97:Nat):Int)from rfl,show(122:Int)=((122:Nat):Int)from rfl,VA,Ky,rng];rfl)
theorem Cy:ab de (.call 286 [.int .u8 (c:Nat)] none) H=ret (.bool (ik c)) H:=ev (f286 _ _ _) (by rw[show(65:Int)=((65:Nat):Int)from rfl,show(90:Int)=((90:Nat):Int)from rfl,VA,Ky,rng];rfl)
theorem ra:ab de (.call 281 [.int .u8 (c:Nat)] none) H=ret (.bool (aS c)) H:=ev (f281 _ _ _) (by rw[show(48:Int)=((48:Nat):Int)from rfl,show(57:Int)=((57:Nat):Int)from rfl,VA,Ky,rng];rfl)
theorem GD:ab de (.call 350 [.int .u8 (c:Nat)] none) H=ret (.bool (aO c)) H:=ev (YM _ _ _) (by
 simp only[af (BG _ _),af (Jr _ _),af (vA _ _),au,show(95:Int)=((95:Nat):Int)from rfl,neq,aO]
 cases ed c<;>cases ik c<;>cases aS c<;>rfl)
theorem GC:ab de (.call 283 [.int .u8 (c:Nat)] none) H=ret (.bool (aO c)) H:=ev (f283 _ _ _) (by
 simp only[af (BF _ _),af (Cy _ _),af (ra _ _),au,show(95:Int)=((95:Nat):Int)from rfl,neq,aO]
 cases ed c<;>cases ik c<;>cases aS c<;>rfl)
theorem PT:ab de (.call 340 [.int .u8 (c:Nat)] none) H=ret (.bool (cM c)) H:=ev (YW _ _ _) (by
 simp only[show(32:Int)=((32:Nat):Int)from rfl,show(9:Int)=((9:Nat):Int)from rfl,show(10:Int)=((10:Nat):Int)from rfl,show(13:Int)=((13:Nat):Int)from rfl,neq,cM]
 cases c==32<;>cases c==9<;>cases c==10<;>cases c==13<;>rfl)
theorem PS:ab de (.call 231 [.int .u8 (c:Nat)] none) H=ret (.bool (cM c)) H:=ev (ZS _ _ _) (by
 simp only[show(32:Int)=((32:Nat):Int)from rfl,show(9:Int)=((9:Nat):Int)from rfl,show(10:Int)=((10:Nat):Int)from rfl,show(13:Int)=((13:Nat):Int)from rfl,neq,cM]
 cases c==32<;>cases c==9<;>cases c==10<;>cases c==13<;>rfl)
end bytes
end Go.Proofs.YtpghiabjaglpgaaGreatDoor
namespace Go.Proofs.YtpghiabjaglpgaaGreatDoor
open Go.AI
theorem wN{a b:Nat}(h:a+b<2^62):IntKind.wrap .i64 ((a:Int)+(b:Int))=((a+b:Nat):Int):=by rw[rJ]<;>omega
variable{H:DH}{p at' st:Nat}{l:List Nat}{x y:D}
abbrev mc(l:List Nat)(at':Nat)(x y:D):List D:=[.str l,.int .i64 (at':Nat),x,y]
theorem qm(hp:H[p]? = some (.cells st (mc l at' x y)))(k:Nat)(h:at'+k<2^62):ab de (.call 343 [.ptr p 0,.int .i64 (k:Nat)] none) H=ret (.int .u8 (pk l (at'+k):Nat)) H:=by
 refine ev (YT _ _ _ _) ?_
 simp only[ac hp,am,ax,cg,wN h,KH,eY,VA,WU,au,aI]
 cases hc:decide (l.length<=at'+k)with
 |true=>rw[mu (by simpa using hc)];rfl
 |false =>
  have hc:¬ l.length<=at'+k:=by simpa using hc
  rw[cond_false,cI (by omega)]
theorem DS{g:Nat}{q:Nat->Bool}(hb:aT cA g=true)(hg:∀ c H,ab de (.call g [.int .u8 (c:Nat)] none) H=ret (.bool (q c)) H)(hp:H[p]? = some (.cells st (mc l at' x y)))(hl:l.length<2^60)(k:Nat)(hk:at'+k<2^60):∀(d n:Nat),d=l.length - (at'+k+n)->n<2^60 ->
 ao de (ab de) 339 200002 [.g (.ptr p 0),.g (.int .i64 (k:Nat)),.g (.func g [] []),.g (.int .i64 (n:Nat))] [] H=ret (.int .i64 (n+rn q l (at'+k+n):Nat)) H
 |d,n,hd,hn=>by
  refine bg (ET _ _ _ _ _ _) ?_
  simp only[ac hp,am,ax,cg,wN (show at'+k<2^62 by omega),wN (show at'+k+n<2^62 by omega),KH,bV,oj,WU,au,aI,eH hb,List.nil_append,List.append_nil]
  cases hc:decide (at'+k+n<l.length)with
  |false =>
   have hc:¬ at'+k+n<l.length:=by simpa using hc
   rw[cond_false,wd q (by omega)];rfl
  |true =>
   have hc:at'+k+n<l.length:=by simpa using hc
   rw[cond_true,cI hc,eX (hg _ _),jn q hc]
   cases hq:q (pk l (at'+k+n))with
   |false=>simp[au]
   |true =>
    have ih:=DS hb hg hp hl k hk (d - 1) (n+1) (by omega) (by omega)
    rw[au,cond_true,aq (show n<2^62 by omega),ih,if_pos rfl]
    have e:n+1+rn q l (at'+k+(n+1))=n+(rn q l (at'+k+n+1)+1):=by rw[show at'+k+(n+1)=at'+k+n+1 by omega];omega
    rw[e]
 termination_by d=>d
theorem vZ{g:Nat}{q:Nat->Bool}(hb:aT cA g=true)(hg:∀ c H,ab de (.call g [.int .u8 (c:Nat)] none) H=ret (.bool (q c)) H)(hp:H[p]? = some (.cells st (mc l at' x y)))(hl:l.length<2^60)(k:Nat)(hk:at'+k<2^60) :
 ab de (.call 339 [.ptr p 0,.int .i64 (k:Nat),.func g [] []] none) H=ret (.int .i64 (rn q l (at'+k):Nat)) H:=by
 refine ev (YX _ _ _ _ _) ?_
 have:=DS hb hg hp hl k hk _ 0 rfl (by omega)
 simp only[Nat.zero_add,Nat.add_zero]at this
 exact this
theorem TC(s t:List Nat)(H:DH):ab de (.call 354 [.str s,.str t] none) H=ret (.bool (s.take t.length==t)) H:=by
 have h:ab de (.call 359 [.str s,.str t] none) H=ret (.bool (s.take t.length==t)) H:=by
  refine ev (YK _ _ _ _) ?_
  rw[VA]
  cases hc:decide (t.length<=s.length)with
  |true =>
   have hc:t.length<=s.length:=by simpa using hc
   simp only[cond_true,VN s _ H _ hc,nu]
  |false =>
   have hc:¬ t.length<=s.length:=by simpa using hc
   have:(s.take t.length==t)=false:=by
    rw[beq_eq_false_iff_ne];intro e;rw[List.take_of_length_le (by omega)]at e;subst e;exact hc (Nat.le_refl _)
   rw[this];rfl
 refine ev (YL _ _ _ _) ?_
 rw[af h]
theorem jU(hp:H[p]? = some (.cells st (mc l at' x y)))(ha:at'<=l.length)(t:List Nat):ab de (.call 341 [.ptr p 0,.str t] none) H=ret (.bool ((l.drop at').take t.length==t)) H:=by
 refine ev (YV _ _ _ _) ?_
 simp only[ac hp,am,ax,XY _ _ _ _ ha,eX (TC _ _ _)]
def uI:List (List Nat):=[[97,110,100],[99,97,115,101],[100,97,116,97],[101,108,115,101],[101,110,100],[102,110],[102,117,110],[105,102],[105,110],[105,110,112,117,116],[108,101,116],[111,102],[111,117,116,112,117,116],[116,104,101,110],[118,97,108]]
def DN:List Nat:=[40,41,44,59,58,124,61,60,43,45,42,47,37,95]
def cz(l:List Nat)(p:Nat):Nat:=if pk l (p+rn aO l p)=39/\0<rn aS l (p+rn aO l p+1)then rn aO l p+(1+rn aS l (p+rn aO l p+1))else rn aO l p
def pK(l:List Nat)(p:Nat):Nat:=if(l.drop p).take 2=[61,62]\/(l.drop p).take 2=[45,62] then 2 else if pk l p∈DN then 1 else 0
def ez(l:List Nat)(p:Nat):Prop:=aS (pk l p)=true\/pk l p=126
def fg(l:List Nat)(p:Nat):Option (Int×Nat) :=
 if ed (pk l p)=true then(if cz l p>24 then none else some (if(l.drop p).take (cz l p)∈uI then 5 else 2,cz l p))
 else if ik (pk l p)=true then(if cz l p>24 then none else some (3,cz l p))
 else if pk l p=39/\ed (pk l (p+1))=true then(if 1+rn aO l (p+1)>24 then none else some (4,1+rn aO l (p+1)))
 else if pK l p=0 then none else some (6,pK l p)
def tk(k n:Int)(t:List Nat)(a:Nat):D:=.agg [.int .i64 k,.int .i64 n,.str t,.int .i64 (a:Nat)]
def wr(a e:Int):D:=.iface 321 (.agg [.int .i64 a,.int .i64 e])
def Ia:List (D×D):=uI.map fun w=>(.str w,.int .i64 5)
theorem Vz(a b c d e f g h:D)(κ:List D->ai):aw [a,b,c,d] 0 [e,f,g,h] κ=κ [e,f,g,h]:=rfl
theorem Kr(a b c d e:D)(κ:List D->ai):aw [a,b,c,d] 1 [e] κ=κ [a,e,c,d]:=rfl
theorem Yu(a b c d e:D)(κ:List D->ai):aw [a,b,c,d] 0 [e] κ=κ [e,b,c,d]:=rfl
theorem Wi(a b c d e:D)(κ:List D->ai):aw [a,b,c,d] 2 [e] κ=κ [a,b,e,d]:=rfl
theorem TH(a b c d e:D)(κ:List D->ai):aw [a,b,c,d] 3 [e] κ=κ [a,b,c,e]:=rfl
theorem MX(a b e:D)(κ:List D->ai):aw [a,b] 0 [e] κ=κ [e,b]:=rfl
theorem MW(a b e:D)(κ:List D->ai):aw [a,b] 1 [e] κ=κ [a,e]:=rfl
theorem Qo(a b e f:D)(κ:List D->ai):aw [a,b] 0 [e,f] κ=κ [e,f]:=rfl
theorem XC(a b c d:D)(κ:List D->ai):ag 4 (.agg [a,b,c,d]) κ=κ [a,b,c,d]:=rfl
theorem ce2(a b:D)(κ:List D->ai):ag 2 (.agg [a,b]) κ=κ [a,b]:=rfl
theorem om(k:IntKind)(n:Int)(κ:List D->ai):ag 1 (.int k n) κ=κ [.int k n]:=rfl
theorem Db(l:List Nat)(κ:List D->ai):ag 1 (.str l) κ=κ [.str l]:=rfl
theorem uS(a b c:Nat)(κ:List D->ai):ag 1 (.buf a b c) κ=κ [.buf a b c]:=rfl
variable{H:DH}{p at' st m:Nat}{l:List Nat}{x y:D}
theorem Qx(a b:Nat):decide ((a:Int)>(b:Int))=decide (b<a):=decide_eq_decide.2 (by omega)
theorem qA(hp:H[p]? = some (.cells st (mc l at' x y)))(k:Int)(n:Nat)(hn:at'+n<=l.length)(hl:l.length<2^60):ab de (.call 349 [.ptr p 0,.int .i64 k,.int .i64 (n:Nat)] none) H=if n>24 then pan (wr at' 2) H else ret (tk k 0 ((l.drop at').take n) at') H:=by
 refine ev (YN _ _ _ _ _) ?_
 rw[show(24:Int)=((24:Nat):Int)from rfl,Qx]
 cases hc:decide (24<n)with
 |true =>
  have hc:24<n:=by simpa using hc
  rw[if_pos hc]
  simp only[cond_true,ac hp,am,ax,om,MX,MW,wr]
 |false =>
  have hc:¬ 24<n:=by simpa using hc
  rw[if_neg hc]
  simp only[cond_false,ac hp,am,ax,cg,wN (show at'+n<2^62 by omega),Py l at' (at'+n) H _ (by omega) hn,om,Db,Wi,TH,XC,Vz,tk,show at'+n - at'=n by omega]
theorem Je(t:List Nat):∀ ws:List (List Nat),KE (.str t) (ws.map fun w=>((.str w:D),(.int .i64 5:D)))=some (if t∈ws then some (.int .i64 5)else none)
 |[]=>rfl
 |w::r=>by
  simp only[List.map_cons,KE,AD,Je t r]
  by_cases h:t=w
  ·subst h;simp
  ·rw[show(t==w)=false from beq_eq_false_iff_ne.2 h];simp[h]
theorem QK(hm:H[m]? = some (.map Ia))(t:List Nat)(κ:D->ai):qC Tryz.prog 378 (.map m) (.str t) true H κ=κ (.tuple [.int .i64 (if t∈uI then 5 else 0),.bool (decide (t∈uI))]):=by
 have e:qC Tryz.prog 378 (.map m) (.str t) true H κ=qz H m fun es=>At (.str t) es fun r=>mL Tryz.prog 3 true r κ:=by kernel_rfl
 have e2:mL Tryz.prog 3 true none κ=κ (.tuple [.int .i64 0,.bool false]):=by kernel_rfl
 rw[e,nL hm,At,Ia,Je]
 by_cases h:t∈uI
 ·simp only[h,if_true,decide_true];rfl
 ·simp only[h,if_false,decide_false];exact e2
theorem JU:aT cA 350=true:=by kernel_rfl
theorem JV:aT cA 344=true:=by kernel_rfl
theorem RO:aT cA 340=true:=by kernel_rfl
theorem qu(l:List Nat)(p:Nat)(h:p<=l.length):p+cz l p<=l.length:=by
 have h1:=qd aO l p h
 unfold cz
 split
 ·rename_i hc
  have h3:p+rn aO l p<l.length:=by
   rcases Nat.lt_or_ge (p+rn aO l p) l.length with h|h
   ·exact h
   ·rw[mu h]at hc;cases hc.1
  have:=qd aS l (p+rn aO l p+1) (by omega)
  omega
 ·exact h1
theorem TT(hp:H[p]? = some (.cells st (mc l at' (.map m) y)))(hm:H[m]? = some (.map Ia))(k:Int)(n:Nat)(hn:at'+n<=l.length)(hl:l.length<2^60) :
 ao de (ab de) 347 6 [.g (.ptr p 0),.g (.int .i64 k),.lp 0 0,.g (.int .i64 (n:Nat))] [(0,[.int .i64 0,.int .i64 0,.str [],.int .i64 0])] H=if n>24 then pan (wr at' 2) H else ret (tk (if(l.drop at').take n∈uI then 5 else k) 0 ((l.drop at').take n) at') H:=by
 refine bg (UP _ _ _ _ _ _ _ _ _) ?_
 have h:=qA hp k n hn hl
 by_cases hc:n>24
 ·rw[if_pos hc]at h ⊢;rw[yY h]
 ·rw[if_neg hc]at h ⊢
  simp only[af h,tk,XC,Vz,ac hp,am,ax,QK hm,ig,au]
  by_cases hw:(l.drop at').take n∈uI
  ·simp only[hw,decide_true,cond_true,if_true,om,Yu,am,ax]
  ·simp only[hw,decide_false,cond_false,if_false]
theorem Qy(hp:H[p]? = some (.cells st (mc l at' (.map m) y)))(hm:H[m]? = some (.map Ia))(k:Int)(hl:l.length<2^59)(ha:at'<=l.length) :
 ab de (.call 347 [.ptr p 0,.int .i64 k] none) H=if cz l at'>24 then pan (wr at' 2) H else ret (tk (if(l.drop at').take (cz l at')∈uI then 5 else k) 0 ((l.drop at').take (cz l at')) at') H:=by
 refine ev (YP _ _ _ _) ?_
 have r1:=vZ JU (fun c H=>GD H c) hp (by omega) 0 (by omega)
 have hr:=qd aO l at' ha
 have hle:=qu l at' ha
 rw[Nat.add_zero]at r1
 have p1:=qm hp (rn aO l at') (by omega)
 have j:=fun n hn=>TT hp hm k n hn (by omega)
 rw[show(.int .i64 0:D)=.int .i64 ((0:Nat):Int)from rfl,af r1,af p1]
 simp only[bL,show(39:Int)=((39:Nat):Int)from rfl,neq,au]
 by_cases h1:pk l (at'+rn aO l at')=39
 ·have hlt:at'+rn aO l at'<l.length:=by
   rcases Nat.lt_or_ge (at'+rn aO l at') l.length with h|h
   ·exact h
   ·rw[mu h]at h1;cases h1
  have r2:=vZ JV (fun c H=>vA H c) hp (by omega) (rn aO l at'+1) (by omega)
  have hd:=qd aS l (at'+rn aO l at'+1) (by omega)
  rw[<- Nat.add_assoc]at r2
  rw[h1]
  simp only[BEq.rfl,cond_true,cg,show(1:Int)=((1:Nat):Int)from rfl,wN (show rn aO l at'+1<2^62 by omega),af r2,rj,Qx,au]
  by_cases h2:0<rn aS l (at'+rn aO l at'+1)
  ·simp only[show((0:Int))=((0:Nat):Int)from rfl,h2,decide_true,cond_true,wN (show 1+rn aS l (at'+rn aO l at'+1)<2^62 by omega),wN (show rn aO l at'+(1+rn aS l (at'+rn aO l at'+1))<2^62 by omega)]
   have e:cz l at'=rn aO l at'+(1+rn aS l (at'+rn aO l at'+1)):=by unfold cz;rw[if_pos ⟨h1,h2⟩]
   rw[<- e];exact j _ hle
  ·simp only[show((0:Int))=((0:Nat):Int)from rfl,h2,decide_false,cond_false]
   have e:cz l at'=rn aO l at':=by unfold cz;rw[if_neg (fun h=>h2 h.2)]
   rw[<- e];exact j _ hle
 ·rw[show(pk l (at'+rn aO l at')==39)=false from beq_eq_false_iff_ne.2 h1,cond_false]
  have e:cz l at'=rn aO l at':=by unfold cz;rw[if_neg (fun h=>h1 h.1)]
  rw[<- e];exact j _ hle
theorem IS{f:FuncId}{args:List D}{d:D}{H':DH}(h:de.orc f args H=some (d,H')):ab de (.call f args none) H=ret d H':=by
 rw[Hz]
 show MZ de f args H none _=_
 unfold MZ
 simp only[h]
def Vu(l:List Nat)(at':Nat)(H:DH)(r:ai):Prop:=(∃(v:Int) (n:Nat),1<=n/\at'+n<=l.length/\r=ret (tk 1 v ((l.drop at').take n) at') H)\/r=pan (wr at' 13) H
theorem Eh(hp:H[p]? = some (.cells st (mc l at' x y)))(hl:l.length<=24)(ha:at'<l.length)(n:Nat)(hn:at'+n<=l.length)(h1:1<=n+rn aS l (at'+n)) :
 Vu l at' H (ao de (ab de) 345 4 [.g (.ptr p 0),.lp 0 0,.g (.int .i64 (n:Nat))] [(0,[.int .i64 0,.int .i64 0,.str [],.int .i64 0])] H):=by
 have r1:=vZ JV (fun c H=>vA H c) hp (by omega) n (by omega)
 have hd:=qd aS l (at'+n) hn
 have p1:=qm hp (n+rn aS l (at'+n)) (by omega)
 have hlen:((l.drop at').take (n+rn aS l (at'+n))).length<=1000:=by rw[List.length_take];rw[List.length_drop];omega
 have o:∀ H,ab de (.call 355 [.str ((l.drop at').take (n+rn aS l (at'+n)))] none) H=ret (.tuple [.int .i64 (pj (ay ((l.drop at').take (n+rn aS l (at'+n))))).1,.int .i64 (pj (ay ((l.drop at').take (n+rn aS l (at'+n))))).2]) H:=fun H=>IS (by
  show(bif Nat.ble _ 1000 then _ else _)=_
  rw[Nat.ble_eq_true_of_le hlen];rfl)
 have e:=On (br de (ab de) 0) p (n:Nat) 0 0 [] 0 H
 unfold Vu
 rw[show ao de (ab de) 345 4 [.g (.ptr p 0),.lp 0 0,.g (.int .i64 (n:Nat))] [(0,[.int .i64 0,.int .i64 0,.str [],.int .i64 0])] H=_ from bg (On _ _ _ _ _ _ _ _) rfl]
 simp only[af r1,cg,wN (show n+rn aS l (at'+n)<2^62 by omega),af p1,ac hp,am,ax,wN (show at'+n<2^62 by omega),wN (show at'+n+rn aS l (at'+n)<2^62 by omega),Py l at' (at'+n+rn aS l (at'+n)) H _ (by omega) hd,
  show at'+n+rn aS l (at'+n) - at'=n+rn aS l (at'+n)by omega,af (o _),ig,dj,au,om,Db,MX,MW,Kr,Wi,TH,XC,Vz,af (GD _ _),bL]
 cases ((pj (ay ((l.drop at').take (n+rn aS l (at'+n))))).2 != 0)with
 |true=>exact .inr rfl
 |false =>
  rw[cond_false]
  cases aO (pk l (at'+(n+rn aS l (at'+n))))with
  |true=>exact .inr rfl
  |false =>
   rw[cond_false]
   cases ((pk l (at'+(n+rn aS l (at'+n))):Int)==39)with
   |true=>exact .inr rfl
   |false=>exact .inl ⟨_,_,h1,by omega,rfl⟩
theorem Ku(hp:H[p]? = some (.cells st (mc l at' x y)))(hl:l.length<=24)(ha:at'<l.length)(hn:ez l at'):Vu l at' H (ab de (.call 345 [.ptr p 0] none) H):=by
 have p1:=qm hp 0 (by omega)
 rw[show ab de (.call 345 [.ptr p 0] none) H=_ from ev (YR _ _ _) rfl]
 rw[show(.int .i64 0:D)=.int .i64 ((0:Nat):Int)from rfl,af p1,Nat.add_zero]
 simp only[bL,show(126:Int)=((126:Nat):Int)from rfl,neq,au]
 by_cases h:pk l at'=126
 ·rw[h,BEq.rfl,cond_true]
  exact Eh hp hl ha 1 (by omega) (by omega)
 ·rw[show(pk l at'==126)=false from beq_eq_false_iff_ne.2 h,cond_false]
  have hd:aS (pk l at')=true:=hn.resolve_right h
  refine Eh hp hl ha 0 (by omega) ?_
  rw[Nat.add_zero,jn aS ha,if_pos hd];omega
variable{H:DH}{p at' st m:Nat}{l:List Nat}{x y:D}
theorem Jp(c:Nat):∀(l:List Nat) (n:Int),0<=n->decide (uN l c n>=0)=decide (c∈l)
 |[],n,_=>by simp[uN]
 |z::r,n,h=>by
  rw[uN]
  by_cases e:z=c
  ·subst e;rw[Nat.beq_refl,cond_true];simp;omega
  ·have hb:Nat.beq z c=false:=by
    cases hq:Nat.beq z c with
    |true=>exact(e (Nat.eq_of_beq_eq_true hq)).elim
    |false=>rfl
   rw[hb,cond_false,Jp c r (n+1) (by omega)]
   simp[Ne.symm e]
theorem NV(c:Nat)(hc:c<256)(H:DH):ab de (.call 351 [.str DN,.int .u8 (c:Nat)] none) H=ret (.int .i64 (uN DN c 0)) H:=IS (by
 show(bif Nat.blt c 256&&_ then _ else _)=_
 have:Nat.blt c 256=true:=by unfold Nat.blt;exact Nat.ble_eq_true_of_le hc
 rw[this];rfl)
def Sp(l:List Nat)(at':Nat)(H:DH)(r:ai):Prop :=
 (∃(k v:Int) (n:Nat),1<=n/\at'+n<=l.length/\r=ret (tk k v ((l.drop at').take n) at') H/\(ez l at'->k=1)/\(¬ ez l at'->fg l at'=some (k,n)))\/(∃ a e:Int,e≠0/\r=pan (wr a e) H/\(¬ ez l at'->fg l at'=none))
theorem Ar{l:List Nat}{p:Nat}(hp:p<l.length)(h:aO (pk l p)=true):1<=cz l p:=by
 have:1<=rn aO l p:=by rw[jn aO hp,if_pos h];omega
 unfold cz
 split<;>omega
theorem PU(hp:H[p]? = some (.cells st (mc l at' (.map m) y)))(hl:l.length<=24)(ha:at'<l.length) :
 ao de (ab de) 326 11 [.g (.ptr p 0),.lp 0 0,.g (.int .u8 (pk l at':Nat))] [(0,[.int .i64 0,.int .i64 0,.str [],.int .i64 0])] H=if pK l at'=0 then pan (wr at' 11) H else ret (tk 6 0 ((l.drop at').take (pK l at')) at') H:=by
 refine bg (Rj _ _ _ _ _ _ _ _) ?_
 have s1:=jU hp (Nat.le_of_lt ha) [61,62]
 have s2:=jU hp (Nat.le_of_lt ha) [45,62]
 rw[af s1]
 have two:∀ {a b:Nat},(l.drop at').take 2=[a,b]->at'+2<=l.length:=fun h=>by
  have:=congrArg List.length h
  rw[List.length_take,List.length_drop]at this
  simp at this;omega
 by_cases h1:(l.drop at').take 2=[61,62]
 ·have hs:pK l at'=2:=by unfold pK;rw[if_pos (.inl h1)]
  have hm2:=qA hp 6 2 (two h1) (by omega)
  rw[if_neg (by omega)]at hm2
  rw[hs,if_neg (by omega),show(List.take [61,62].length (l.drop at')==[61,62])=true by simp[h1],au,cond_true]
  rw[show(.int .i64 2:D)=.int .i64 ((2:Nat):Int)from rfl,af hm2]
  rfl
 ·rw[show(List.take [61,62].length (l.drop at')==[61,62])=false by simp[h1],au,cond_false,af s2]
  by_cases h2:(l.drop at').take 2=[45,62]
  ·have hs:pK l at'=2:=by unfold pK;rw[if_pos (.inr h2)]
   have hm2:=qA hp 6 2 (two h2) (by omega)
   rw[if_neg (by omega)]at hm2
   rw[hs,if_neg (by omega),show(List.take [45,62].length (l.drop at')==[45,62])=true by simp[h2],au,cond_true]
   rw[show(.int .i64 2:D)=.int .i64 ((2:Nat):Int)from rfl,af hm2]
   rfl
  ·rw[show(List.take [45,62].length (l.drop at')==[45,62])=false by simp[h2],au,cond_false]
   have i1:=NV (pk l at') (Wb _ _) H
   rw[show([40,41,44,59,58,124,61,60,43,45,42,47,37,95]:List Nat)=DN from rfl,af i1]
   simp only[eY,Jp _ _ 0 (Int.le_refl 0),au]
   have hs:pK l at'=if pk l at'∈DN then 1 else 0:=by unfold pK;rw[if_neg (by simp[h1,h2])]
   by_cases h3:pk l at'∈DN
   ·rw[if_pos h3]at hs
    have hm2:=qA hp 6 1 (by omega) (by omega)
    rw[if_neg (by omega)]at hm2
    rw[hs,if_neg (by omega),decide_eq_true h3,cond_true,show(.int .i64 1:D)=.int .i64 ((1:Nat):Int)from rfl,af hm2]
    rfl
   ·rw[if_neg h3]at hs
    rw[hs,if_pos rfl,decide_eq_false h3,cond_false]
    simp only[ac hp,am,ax,om,MX,MW,wr]
theorem Ma(hp:H[p]? = some (.cells st (mc l at' (.map m) y)))(hm:H[m]? = some (.map Ia))(hl:l.length<=24)(ha:at'<l.length):Sp l at' H (ab de (.call 326 [.ptr p 0] none) H):=by
 have p1:=qm hp 0 (by omega)
 rw[show ab de (.call 326 [.ptr p 0] none) H=_ from ev (Zg _ _ _) rfl]
 rw[show(.int .i64 0:D)=.int .i64 ((0:Nat):Int)from rfl,af p1,Nat.add_zero,af (vA _ _)]
 simp only[bL,show(126:Int)=((126:Nat):Int)from rfl,show(39:Int)=((39:Nat):Int)from rfl,neq,au,af (BG _ _),af (Jr _ _)]
 have num:ez l at'->Sp l at' H (C (ab de) 345 [.ptr p 0] H fun d5 H6=>ag 4 d5 fun l7=>aw [.int .i64 ((0:Nat):Int),.int .i64 ((0:Nat):Int),.str [],.int .i64 ((0:Nat):Int)] 0 l7 fun l8=>ah l8 0 fun d9=>ah l8 1 fun d10=>ah l8 2 fun d11=>ah l8 3 fun d12=>ret (.agg [d9,d10,d11,d12]) H6):=fun hn=>by
  rcases Ku hp hl ha hn with⟨v,n,h1,h2,h3⟩|h3
  ·rw[af h3]
   exact .inl ⟨1,v,n,h1,h2,rfl,fun _=>rfl,fun h=>(h hn).elim⟩
  ·rw[yY h3]
   exact .inr ⟨at',13,by decide,rfl,fun h=>(h hn).elim⟩
 cases hd:aS (pk l at')with
 |true=>rw[cond_true];exact num (.inl hd)
 |false =>
 rw[cond_false]
 by_cases h126:pk l at'=126
 ·rw[h126,BEq.rfl,cond_true];exact num (.inr h126)
 rw[show(pk l at'==126)=false from beq_eq_false_iff_ne.2 h126,cond_false]
 have hnn:¬ ez l at':=fun h=>by rcases h with h|h;exact(by rw[hd]at h;cases h);exact h126 h
 have nm:∀ k:Int,(fg l at'=if cz l at'>24 then none else some (if(l.drop at').take (cz l at')∈uI then 5 else k,cz l at'))->aO (pk l at')=true ->
  Sp l at' H (C (ab de) 347 [.ptr p 0,.int .i64 k] H fun d24 H25=>ag 4 d24 fun l26=>aw [.int .i64 ((0:Nat):Int),.int .i64 ((0:Nat):Int),.str [],.int .i64 ((0:Nat):Int)] 0 l26 fun l27=>ah l27 0 fun d28=>ah l27 1 fun d29=>ah l27 2 fun d30=>ah l27 3 fun d31=>ret (.agg [d28,d29,d30,d31]) H25):=fun k ht hpt=>by
  have hn:=Qy hp hm k (by omega) (Nat.le_of_lt ha)
  have h1:=Ar ha hpt
  have h2:=qu l at' (Nat.le_of_lt ha)
  by_cases hc:cz l at'>24
  ·rw[if_pos hc]at hn ht
   rw[yY hn]
   exact .inr ⟨at',2,by decide,rfl,fun _=>ht⟩
  ·rw[if_neg hc]at hn ht
   rw[af hn]
   exact .inl ⟨_,0,_,h1,h2,rfl,fun h=>(hnn h).elim,fun _=>ht⟩
 cases hs:ed (pk l at')with
 |true =>
  rw[cond_true]
  exact nm 2 (by unfold fg;rw[if_pos hs]) (by unfold aO;rw[hs];rfl)
 |false =>
 rw[cond_false]
 cases hg:ik (pk l at')with
 |true =>
  rw[cond_true]
  refine nm 3 ?_ (by unfold aO;rw[hg];simp)
  unfold fg
  rw[if_neg (by rw[hs];decide),if_pos hg]
  have hw:(l.drop at').take (cz l at')∉uI:=fun hw=>by
   have hz:((l.drop at').take (cz l at'))[0]? = l[at']?:=by
    have h1:=Ar ha (by unfold aO;rw[hg];simp)
    rw[List.getElem?_take_of_lt (by omega),List.getElem?_drop,Nat.add_zero]
   generalize(l.drop at').take (cz l at')=t at hw hz
   have hpk:pk l at'=(t[0]?).getD 0%256:=by unfold pk;rw[hz]
   rw[hpk]at hs
   simp only[uI,List.mem_cons,List.mem_nil_iff,or_false]at hw
   rcases hw with rfl|rfl|rfl|rfl|rfl|rfl|rfl|rfl|rfl|rfl|rfl|rfl|rfl|rfl|rfl<;>exact absurd hs (by decide)
  rw[if_neg hw]
 |false =>
 rw[cond_false]
 have sg:(pk l at'=39/\ed (pk l (at'+1))=true->False)->Sp l at' H (ao de (ab de) 326 11 [.g (.ptr p 0),.lp 0 0,.g (.int .u8 (pk l at':Nat))] [(0,[.int .i64 ((0:Nat):Int),.int .i64 ((0:Nat):Int),.str [],.int .i64 ((0:Nat):Int)])] H):=fun hq=>by
  have h:=PU hp hl ha
  have ht:fg l at'=if pK l at'=0 then none else some (6,pK l at'):=by
   unfold fg;rw[if_neg (by rw[hs];decide),if_neg (by rw[hg];decide),if_neg hq]
  by_cases hc:pK l at'=0
  ·rw[if_pos hc]at h ht
   exact .inr ⟨at',11,by decide,h,fun _=>ht⟩
  ·rw[if_neg hc]at h ht
   refine .inl ⟨6,0,pK l at',by omega,?_,h,fun h=>(hnn h).elim,fun _=>ht⟩
   unfold pK at hc ⊢
   split
   ·rename_i h2
    have:=(show(List.take 2 (List.drop at' l)).length=2 by rcases h2 with h2|h2<;>rw[h2]<;>rfl)
    rw[List.length_take,List.length_drop]at this
    omega
   ·split<;>omega
 by_cases h39:pk l at'=39
 ·rw[h39,BEq.rfl,cond_true]
  have p2:=qm hp 1 (by omega)
  rw[show(1:Int)=((1:Nat):Int)from rfl,af p2,af (BG _ _),au]
  cases h2:ed (pk l (at'+1))with
  |true =>
   rw[cond_true]
   have hlt:at'+1<l.length:=by
    rcases Nat.lt_or_ge (at'+1) l.length with h|h
    ·exact h
    ·rw[mu h]at h2;cases h2
   have r1:=vZ JU (fun c H=>GD H c) hp (by omega) 1 (by omega)
   have hr:=qd aO l (at'+1) (by omega)
   have hm2:=qA hp 4 (1+rn aO l (at'+1)) (by omega) (by omega)
   rw[af r1]
   simp only[cg,wN (show 1+rn aO l (at'+1)<2^62 by omega)]
   have ht:fg l at'=if 1+rn aO l (at'+1)>24 then none else some (4,1+rn aO l (at'+1)):=by
    unfold fg;rw[if_neg (by rw[hs];decide),if_neg (by rw[hg];decide),if_pos ⟨h39,h2⟩]
   rw[if_neg (by omega)]at hm2 ht
   rw[af hm2]
   exact .inl ⟨4,0,_,by omega,by omega,rfl,fun h=>(hnn h).elim,fun _=>ht⟩
  |false =>
   rw[cond_false]
   have:=sg (fun h=>by rw[h2]at h;cases h.2)
   rw[h39]at this;exact this
 ·rw[show(pk l at'==39)=false from beq_eq_false_iff_ne.2 h39,cond_false]
  exact sg (fun h=>h39 h.1)
end Go.Proofs.YtpghiabjaglpgaaGreatDoor
