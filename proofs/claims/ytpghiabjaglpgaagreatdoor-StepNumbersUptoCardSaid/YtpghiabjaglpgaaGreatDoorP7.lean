/- What the functions answer, in deep values: part 7. No conditions beyond those of the row. -/
import Derived.Test.YtpghiabjaglpgaaGreatDoorP6
set_option linter.all false
noncomputable section
namespace Go.Proofs.YtpghiabjaglpgaaGreatDoor
open Go.AI
mutual
theorem Np(d f b:Int):∀(e:Ex) (n:Nat) (p:List Nat),∀ x∈wy d f b n p e,x.p.length+1<=p.length+hJ e
 |.mk k m nm a xs ps,n,p,x,hx=>by
  rw[wy,List.mem_cons]at hx
  rw[hJ]
  rcases hx with rfl|hx
  ·show p.length+1<=_
   omega
  ·have:=IZ d f b xs (n+1) p 0 x hx
   omega
theorem IZ(d f b:Int):∀(l:List Ex) (n:Nat) (p:List Nat) (i:Nat),∀ x∈jt d f b n p i l,x.p.length<=p.length+dr l
 |[],_,_,_,x,hx=>by rw[jt]at hx;cases hx
 |y::r,n,p,i,x,hx=>by
  rw[jt,List.mem_append]at hx
  rw[dr]
  rcases hx with hx|hx
  ·have:=Np d f b y n (p++[i]) x hx
   simp only[List.length_append,List.length_singleton]at this
   omega
  ·have:=IZ d f b r (n+hJ y) p (i+1) x hx
   omega
end
def Sy(G:Pg):Prop:=∀ x∈G.ns,x.p.length<=G.ns.length
theorem Ee(G:Pg)(b0:Bo)(f:Int)(e:Ex)(h:Sy G):Sy (G.addB b0 f e):=by
 intro x hx
 simp only[Pg.addB,List.mem_append,List.length_append,iS]at hx ⊢
 rcases hx with hx|hx
 ·have:=h x hx;omega
 ·have:=Np _ _ _ e _ _ x hx
  simp only[List.length_nil]at this
  omega
theorem Aj(i:Nat)(kd:Int):∀(l:List Fu) (k:Nat) (G:Pg),Sy G->Sy (G.addFs i kd k l)
 |[],_,_,h=>h
 |f::r,k,G,h=>Aj i kd r (k+1) _ (by unfold Pg.addF;exact Ee _ _ _ _ (fun x hx=>h x hx))
theorem MV(i:Nat)(d:De)(G:Pg)(h:Sy G):Sy (G.addD i d):=by
 unfold Pg.addD
 split
 ·exact Aj _ _ _ _ _ h
 ·split
  ·unfold Pg.addR;exact Ee _ _ _ _ (fun x hx=>h x hx)
  ·exact h
theorem Ak:∀(l:List De) (i:Nat) (G:Pg),Sy G->Sy (G.addDs i l)
 |[],_,_,h=>h
 |d::r,i,G,h=>Ak r (i+1) _ (MV i d G h)
theorem FX:∀(l:List De) (i:Nat) (G:Pg),(G.addDs i l).ns.length=G.ns.length+lX l
 |[],_,_=>by simp[Pg.addDs,lX]
 |d::r,i,G=>by
  have h1:=FX r (i+1) (G.addD i d)
  have h2:=(FZ i d G).1
  simp only[Pg.addDs,lX];omega
theorem qk(l:List De):(eu l).ns.length=lX l:=by
 have:=FX l 0 ⟨l,[],[],[],[],[]⟩
 simp only[List.length_nil,Nat.zero_add]at this
 exact this
theorem BY(l:List De):∀ x∈(eu l).ns,x.p.length<=lX l:=by
 intro x hx
 rw[<- qk]
 exact Ak l 0 ⟨l,[],[],[],[],[]⟩ (fun x hx=>by cases hx) x hx
def Kv(kind:List Nat->Int)(l:List De)(d f:Int)(p:List Int):D:=bif bX kind l != 0 then .tuple [.int .i64 0,.int .i64 (bX kind l)] else Ei d f p 0 (eu l).ns
theorem SF(o c:Nat)(H:DH)(κ:D->ai):eC Tryz.prog 78 (.ptr o c) H κ=aA H o fun _ cs=>ah cs c κ:=by kernel_rfl
theorem Wr(l:List De)(hl:l.length<2^61)(ho:∀ x∈l,x.ok)(d f:Int)(p:List Int)(H:DH) :
 ∃ X,ab de (.call 10 [.agg [.row 14 (l.map bo)],.agg [.int .i64 d,.int .i64 f,.row 1 (iC p)]] none) H=ret (Kv cl l d f p) (H++X):=by
 obtain⟨st,h⟩:=Na l hl ho H
 unfold Kv
 cases hz:bX cl l != 0 with
 |true =>
  rw[hz,cond_true]at h
  refine⟨[],ev (f10 _ _ _ _ _ _) ?_⟩
  simp only[af h,ig,am,ax,dj,au,hz,cond_true,List.append_nil]
 |false =>
  rw[hz,cond_false]at h
  obtain⟨_,h2,_⟩:=qo (show bX cl l=0 by simpa using hz)
  have hn:=Em H [] st (eu l) d f p (by rw[qk];omega) (fun x hx=>by have:=BY l x hx;omega) (eu l).ns [] rfl
  refine⟨PL H.length st (eu l)++[],ev (f10 _ _ _ _ _ _) ?_⟩
  simp only[af h]
  simp only[ig,am,ax,dj,au,bne_self_eq_false,cond_false,Bm,Ba,SF,ac (rR _ _ _ _),Ji]
  exact hn
def Nm(e:Int):D:=.tuple [.agg [.int .i64 0,.int .i64 0,.nilrow],.int .i64 e]
def XP(G:Pg)(i:Int):D:=bif decide (i<0)then Nm 3 else match G.ns[i.toNat]? with
 |some x=>.tuple [.agg [.int .i64 x.d,.int .i64 x.f,.row 1 (nC x.p)],.int .i64 0]
 |none=>Nm 3
def TG(kind:List Nat->Int)(l:List De)(i:Int):D:=bif bX kind l != 0 then Nm (bX kind l)else XP (eu l) i
theorem NI(o n i:Nat)(H:DH)(κ:D->ai):eC Tryz.prog 27 (.bptr o n i 6) H κ=eD H o n fun _ _ _ l=>bC l i fun cs=>cZ Tryz.prog 27 cs 6 κ:=by kernel_rfl
theorem YE(a b c d e f g h i j k:D)(κ:D->ai):cZ Tryz.prog 27 [a,b,c,d,e,f,g,h,i,j,k] 6 κ=κ (.agg [g,h,i]):=by kernel_rfl
theorem XQ(z0 z1 z2 a b c:D)(κ:List D->ai):aw [z0,z1,z2] 0 [a,b,c] κ=κ [a,b,c]:=rfl
theorem VD(a b c:D)(κ:List D->ai):ag 3 (.agg [a,b,c]) κ=κ [a,b,c]:=rfl
theorem Qj(l:List De)(hl:l.length<2^61)(ho:∀ x∈l,x.ok)(i:Int)(H:DH) :
 ∃ X,ab de (.call 12 [.agg [.row 14 (l.map bo)],.int .i64 i] none) H=ret (TG cl l i) (H++X):=by
 obtain⟨st,h⟩:=Na l hl ho H
 unfold TG
 cases hz:bX cl l != 0 with
 |true =>
  rw[hz,cond_true]at h
  refine⟨[],ev (f12 _ _ _ _) ?_⟩
  simp only[af h,ig,am,ax,dj,au,hz,cond_true,List.append_nil,Nm]
 |false =>
  rw[hz,cond_false]at h
  refine⟨PL H.length st (eu l)++[],ev (f12 _ _ _ _) ?_⟩
  rw[XP]
  simp only[af h,ig,am,ax,dj,eY,au,bne_self_eq_false,cond_false,Bm,Ba,SF,ac (rR _ _ _ _),Ji]
  cases h0:decide (i<0)with
  |true=>rfl
  |false =>
   have hi:0<=i:=by have:=of_decide_eq_false h0;omega
   obtain⟨n,rfl⟩:=Int.eq_ofNat_of_zero_le hi
   simp only[cond_false,Int.toNat_natCast]
   by_cases hn:n<(eu l).ns.length
   ·rw[decide_eq_false (show ¬((n:Int)>=((eu l).ns.length:Nat))by omega),cond_false,List.getElem?_eq_getElem hn]
    have hat:((eu l).ns.map rI)[n]? = some (rI (eu l).ns[n]):=by rw[List.getElem?_map,List.getElem?_eq_getElem hn];rfl
    have b1:∀ κ:Nat->Bool->Bool->List (List D)->ai,eD (PX H st (eu l) []) (H.length+1) (eu l).ns.length κ=κ 11 true false ((eu l).ns.map rI):=fun κ=>by
     have:=cq (κ:=κ) (MO H st (eu l) [])
     rw[List.length_map]at this;exact this
    generalize(eu l).ns[n]=x at hat
    obtain⟨⟨k,m,nm,a,xs,ps⟩,xd,xf,xp,xb,xr⟩:=x
    simp only[Uj,Br hn,boK,cond_true,Bb,Nat.zero_add,NI,b1,ak hat,rI,YE,VD,XQ,am,ax]
    rfl
   ·rw[decide_eq_true (show(n:Int)>=((eu l).ns.length:Nat)by omega),cond_true,List.getElem?_eq_none (by omega)]
    rfl
theorem Fg(a b:List Int)(hl:a.length=b.length)(hb:a.length<2^61)(H:DH):∀(sa sb pa pb:List Int),a=pa++sa->b=pb++sb->pa.length=pb.length ->
 ao de (ab de) 32 200004 [.g (.row 1 (iC a)),.g (.row 1 (iC b)),.g (.int .i64 (pa.length:Nat))] [] H=ret (.bool (sa==sb)) H
 |[],[],pa,pb,e,_,_=>by
  refine bg (xY _ _ _ _ _) ?_
  have:a.length=pa.length:=by rw[e];simp
  rw[Cw,oj,this,decide_eq_false (Nat.lt_irrefl _),cond_false];rfl
 |[],y::sb,pa,pb,e,e2,h=>by
  rw[e,e2]at hl;simp only[List.length_append,List.length_cons,List.length_nil]at hl;omega
 |x::sa,[],pa,pb,e,e2,h=>by
  rw[e,e2]at hl;simp only[List.length_append,List.length_cons,List.length_nil]at hl;omega
 |x::sa,y::sb,pa,pb,e,e2,h=>by
  have hi:pa.length<a.length:=by rw[e];simp
  have ih:=Fg a b hl hb H sa sb (pa++[x]) (pb++[y]) (by rw[e];simp) (by rw[e2];simp) (by simp[h])
  simp only[List.length_append,List.length_singleton]at ih
  have h1:(iC a)[pa.length]? = some [.int .i64 x]:=by rw[e];exact Jq _ _ _
  have h2:(iC b)[pa.length]? = some [.int .i64 y]:=by rw[e2,h];exact Jq _ _ _
  refine bg (xY _ _ _ _ _) ?_
  rw[Cw,oj,decide_eq_true hi,cond_true]
  simp only[aI,ak h1,ak h2,am,dj,au,aq (show pa.length<2^62 by omega),ih]
  rw[List.cons_beq_cons]
  cases hxy:x==y<;>simp[bne,hxy]
theorem eqB(a b:List Int)(hb:a.length<2^61)(H:DH):ab de (.call 32 [.row 1 (iC a),.row 1 (iC b)] none) H=ret (.bool (a==b)) H:=by
 refine ev (f32 _ _ _ _) ?_
 simp only[Cw]
 by_cases h:a.length=b.length
 ·have:=Fg a b h hb H a b [] [] rfl rfl rfl
  rw[h]
  simp only[bne_self_eq_false,cond_false]
  exact this
 ·have h2:(a==b)=false:=beq_false_of_ne (fun e=>h (by rw[e]))
  have h3:((a.length:Int) !=(b.length:Int))=true:=by simp[bne];omega
  rw[h3,h2,cond_true]
theorem JW(d f d2 f2:Int)(a b:List Int)(hb:a.length<2^61)(H:DH) :
 ab de (.call 14 [.agg [.int .i64 d,.int .i64 f,.row 1 (iC a)],.agg [.int .i64 d2,.int .i64 f2,.row 1 (iC b)]] none) H=ret (.bool (d==d2&&(f==f2&&a==b))) H:=by
 refine ev (f14 _ _ _ _ _ _ _ _) ?_
 rw[af (eqB a b hb H)]
 cases d==d2<;>cases f==f2<;>rfl
mutual
theorem Ml(H:DH):∀ e:Ex,hJ e<2^62->e.ok->ab de (.call 132 [.agg (bU e)] none) H=ret (.int .i64 (hJ e:Nat)) H
 |.mk k m n a xs ps,h,ho=>by
  rw[hJ]at h
  rw[Ex.ok]at ho
  rw[bU]
  refine ev (aan _ _ _ _ _ _ _ _) ?_
  have:=Is H k m n a xs ps ho.1 xs [] 1 rfl (by omega) ho.2.1
  rw[hJ]
  exact this
theorem Is(H:DH)(k m:Int)(n a:List Nat)(l:List Ex)(ps:List Pa)(hl:l.length<2^62):∀(suf pre:List Ex) (c:Nat),l=pre++suf->c+dr suf<2^62->Ex.oks suf ->
 ao de (ab de) 132 200003 [.lp 0 0,.g (.int .i64 (c:Nat)),.g (.int .i64 (pre.length:Nat))] [(0,[.int .i64 k,.int .i64 m,.str n,.str a,.row 6 (bI l),.row 3 (bM ps)])] H=ret (.int .i64 (c+dr suf:Nat)) H
 |[],pre,c,e,_,_=>by
  refine bg (ug _ _ _ _ _ _ _ _ _ _) ?_
  have:l.length=pre.length:=by rw[e];simp
  rw[bD,oj,this,decide_eq_false (Nat.lt_irrefl _),cond_false,dr];rfl
 |.mk xk xm xn xa xx xp::suf,pre,c,e,hc,ho=>by
  rw[dr]at hc
  rw[Ex.oks]at ho
  have hi:pre.length<l.length:=by rw[e];simp
  have hat:(bI l)[pre.length]? = some (bU (.mk xk xm xn xa xx xp)):=by rw[e];exact gH _ _ _
  have ih:=Is H k m n a l ps hl suf (pre++[.mk xk xm xn xa xx xp]) (c+hJ (.mk xk xm xn xa xx xp)) (by rw[e];simp) (by omega) ho.2
  have hx:=Ml H (.mk xk xm xn xa xx xp) (by omega) ho.1
  rw[bU]at hat hx
  simp only[List.length_append,List.length_singleton]at ih
  refine bg (ug _ _ _ _ _ _ _ _ _ _) ?_
  rw[bD,oj,decide_eq_true hi,cond_true]
  have hw:IntKind.wrap .i64 ((c:Int)+(hJ (.mk xk xm xn xa xx xp):Nat))=((c+hJ (.mk xk xm xn xa xx xp):Nat):Int):=by rw[rJ]<;>omega
  simp only[aI,ak hat,am,ax,af hx,cg,hw,aq (show pre.length<2^62 by omega),ih]
  rw[dr,Nat.add_assoc]
end
structure Fn where
 e:Ex
 d:Int
 f:Int
 p:List Nat
 fn:Bool
 sz:Int
 par:List Nat
def ma(x:Fn):List D:=match x.e with
 |.mk k m n a xs ps=>[.int .i64 k,.int .i64 m,.str n,.str a,.row 6 (bI xs),.row 3 (bM ps),.int .i64 x.d,.int .i64 x.f,.row 1 (nC x.p),.bool x.fn,.int .i64 x.sz,.str x.par]
mutual
def iZ(d f:Int)(fn:Bool)(p par:List Nat):Ex->List Fn
 |.mk k m n a xs ps=>⟨.mk k m n a xs ps,d,f,p,fn,hJ (.mk k m n a xs ps),par⟩::fW d f fn p k a 0 xs
def fW(d f:Int)(fn:Bool)(p:List Nat)(k:Int)(a:List Nat)(i:Nat):List Ex->List Fn
 |[]=>[]
 |x::r=>iZ d f fn (p++[i]) (if i=0/\(k=5\/k=7)then a else []) x++fW d f fn p k a (i+1) r
end
mutual
theorem ki(d f:Int)(fn:Bool):∀(e:Ex) (p par:List Nat),(iZ d f fn p par e).length=hJ e
 |.mk k m n a xs ps,p,par=>by rw[iZ,List.length_cons,xA d f fn xs,hJ];omega
theorem xA(d f:Int)(fn:Bool):∀(l:List Ex) (p:List Nat) (k:Int) (a:List Nat) (i:Nat),(fW d f fn p k a i l).length=dr l
 |[],_,_,_,_=>by simp[fW,dr]
 |x::r,p,k,a,i=>by rw[fW,List.length_append,ki d f fn x,xA d f fn r,dr]
end
theorem Mz{m:Nat}(h:m<=100000):aF Tryz.prog 98 m=true:=eQ (b:=168) (by kernel_rfl) (by decide) h
theorem Uq(n:Nat)(x:Fn):ef n (ma x):=by
 obtain⟨⟨k,m,nm,a,xs,ps⟩,d,f,p,b,s,par⟩:=x
 simp only[ma,ef,D.bel,true_and,and_true]
 exact⟨mT n xs,mz n ps,sd n p⟩
theorem Ju(n:Nat):∀ l:List Fn,dz n (l.map ma)
 |[]=>by simp[dz]
 |x::r=>by simp only[List.map_cons,dz];exact⟨Uq n x,Ju n r⟩
theorem Ki{H X:DH}{B:DB}{d:D}{o:Nat}(hd:d.bel H.length)(hB:B.bel H.length):aZ H (ret d (H.set o B++X))=ret d (H.set o B):=by
 have h:nD H ⟨.ret d,none,H.set o B++X⟩:=⟨hd,rfl,by simp,fun i x hi hx=>by
  simp only at hx
  rw[List.getElem?_append_left (by rw[List.length_set];exact hi)]at hx
  by_cases q:o=i
  ·subst q
   rw[List.getElem?_set_self hi]at hx
   cases hx
   exact .inr hB
  ·rw[List.getElem?_set_ne q]at hx
   exact .inl hx⟩
 simp only[aZ,ret]
 rw[if_pos h]
 have:(H.set o B++X).take H.length=H.set o B:=by
  rw[List.take_append_of_le_length (by simp),List.take_of_length_le (by simp)]
 rw[this]
theorem Wc(p:List Nat)(i:Nat)(hp:p.length+1<=100000)(H:DH)(κ:D->DH->ai) :
 (Fh (.row 1 (nC p)) H 1 fun els=>cC (aF Tryz.prog 3) 1 .nilrow els H fun d33 H34=>cC (aF Tryz.prog 3) 1 d33 [[.int .i64 (i:Nat)]] H34 fun d35 H36=>dl (.fz 1) 0 d35 H36 κ)=κ (.row 1 (nC (p++[i]))) (H++[.buf 1 false false (nC (p++[i]))]):=by
 have he:∀ κ:List (List D)->ai,Fh (.row 1 (nC p)) H 1 κ=κ (nC p):=fun κ=>rfl
 rw[he]
 cases p with
 |nil =>
  have h0:∀ κ:D->DH->ai,cC (aF Tryz.prog 3) 1 .nilrow (nC []) H κ=κ .nilrow H:=fun κ=>by
   show boK (aF Tryz.prog 3 0) _=_
   rw[gm (by omega)];rfl
  rw[h0,vD (r:=[]) (gm (show 0+1<=100000 by omega))]
  refine Eq.trans (EK (κ:=κ) (aY H (.buf 1 true false [[.int .i64 (i:Nat)]]))) ?_
  congr 1
  rw[List.set_append_right _ _ (Nat.le_refl _),Nat.sub_self];rfl
 |cons x r =>
  have hl:r.length+1=(nC (x::r)).length:=by simp[nC]
  have h0:∀ κ:D->DH->ai,cC (aF Tryz.prog 3) 1 .nilrow (nC (x::r)) H κ=κ (.buf 1 H.length (nC (x::r)).length) (H++[.buf 1 true false (nC (x::r))]):=fun κ=>by
   refine Eq.trans (vD (e:=[.int .i64 (x:Nat)]) (r:=nC r) (gm (by simp[nC]at hp ⊢;omega))) ?_
   simp[nC]
  rw[h0,lO (aY _ _) (gm (by omega)) (gm (by rw[<- hl];simp at hp;omega))]
  have e:(H++[DB.buf 1 true false (nC (x::r))]).set H.length (.buf 1 true false (nC (x::r)++[[.int .i64 (i:Nat)]]))=H++[.buf 1 true false (nC (x::r++[i]))]:=by
   rw[List.set_append_right _ _ (Nat.le_refl _),Nat.sub_self,GT];rfl
  rw[e]
  show eZ (.fz 1) (.buf 1 H.length ((nC (x::r)).length+1)) _ κ=_
  rw[show(nC (x::r)).length+1=(nC (x::r++[i])).length by simp[nC],EK (aY _ _)]
  congr 1
  rw[List.set_append_right _ _ (Nat.le_refl _),Nat.sub_self];rfl
theorem YG(l:List (List D))(i:Nat)(κ:D->ai):aJ Tryz.prog 83 (.row 6 l) (.int .i64 (i:Nat)) κ=bC l i fun cs=>κ (.eptr cs 0):=by kernel_rfl
theorem SD(l:List (List D))(H:DH)(κ:D->ai):bY Tryz.prog 83 (.row 6 l) H κ=κ (.int .i64 (l.length:Int)):=by kernel_rfl
theorem ce6(a b c d e f:D)(κ:List D->ai):ag 6 (.agg [a,b,c,d,e,f]) κ=κ [a,b,c,d,e,f]:=rfl
theorem Vj(a b c d e f g h i j k l:D)(κ:List D->ai):ag 12 (.agg [a,b,c,d,e,f,g,h,i,j,k,l]) κ=κ [a,b,c,d,e,f,g,h,i,j,k,l]:=rfl
theorem JO(t:IntKind)(i:Int)(κ:List D->ai):ag 1 (.int t i) κ=κ [.int t i]:=rfl
theorem Vi(b:Bool)(κ:List D->ai):ag 1 (.bool b) κ=κ [.bool b]:=rfl
theorem XD(b:List Nat)(κ:List D->ai):ag 1 (.str b) κ=κ [.str b]:=rfl
theorem aaK(s:Nat)(b:List (List D))(κ:List D->ai):ag 1 (.row s b) κ=κ [.row s b]:=rfl
mutual
theorem Jv:∀(e:Ex) (d f:Int) (fn:Bool) (p par:List Nat) (sz0:Int) (T:List Fn) (lo:Nat) (H:DH),e.ok->H[lo]? = some (.buf 12 true false (T.map ma))->T.length+hJ e<=100000->p.length+hJ e<=100000 ->
 ab de (.call 69 [.buf 12 lo T.length,.agg (ma ⟨e,d,f,p,fn,sz0,par⟩)] none) H=ret (.buf 12 lo (T.length+hJ e)) (H.set lo (.buf 12 true false ((T++iZ d f fn p par e).map ma)))
 |.mk k m n a xs ps,d,f,fn,p,par,sz0,T,lo,H,ho,hlo,hT,hp=>by
  have hlt:lo<H.length:=(List.getElem?_eq_some_iff.1 hlo).1
  have hs:=Ml H (.mk k m n a xs ps) (by omega) ho
  rw[bU]at hs
  rw[Ex.ok]at ho
  rw[hJ]at hT hp
  have hap:∀(e:List D) (κ:D->DH->ai),cC (aF Tryz.prog 98) 12 (.buf 12 lo T.length) [e] H κ=κ (.buf 12 lo (T.length+1)) (H.set lo (.buf 12 true false (T.map ma++[e]))):=fun e κ=>by
   have:=lO (κ:=κ) (e:=e) hlo (Mz (show 1<=100000 by omega)) (by rw[List.length_map];exact Mz (by omega))
   rw[List.length_map]at this;exact this
  obtain⟨X,hX⟩:=AV k m n a xs ps d f fn p par (hJ (.mk k m n a xs ps)) lo H hlt ho.1 xs [] (T++[⟨.mk k m n a xs ps,d,f,p,fn,hJ (.mk k m n a xs ps),par⟩]) [] rfl ho.2.1 (by simp;omega) (by omega)
  rw[show ab de (.call 69 [.buf 12 lo T.length,.agg (ma ⟨.mk k m n a xs ps,d,f,p,fn,sz0,par⟩)] none) H=_ from ev (f69 _ _ _ _ _ _ _ _ _ _ _ _ _ _ _ _) rfl]
  have ov:∀(z0 z1 z2 z3 z4 z5 z6 z7 z8 z9 z10 z11 w:D) (κ:List D->ai),aw [z0,z1,z2,z3,z4,z5,z6,z7,z8,z9,z10,z11] 10 [w] κ=κ [z0,z1,z2,z3,z4,z5,z6,z7,z8,z9,w,z11]:=fun _ _ _ _ _ _ _ _ _ _ _ _ _ _=>rfl
  simp only[af hs,JO,ov,am,ax,hap]
  simp only[List.length_append,List.length_singleton,List.length_nil,List.append_nil,List.map_append,List.map_cons,List.map_nil]at hX
  refine Eq.trans (congrArg (aZ H) hX) ?_
  rw[Ki (show D.bel H.length (.buf 12 lo _)from hlt) (by simp only[DB.bel];rw[<- List.map_singleton,<- List.map_append,<- List.map_append];exact Ju _ _)]
  rw[iZ,hJ]
  simp only[List.map_append,List.map_cons,List.append_assoc,List.singleton_append,Nat.add_assoc]
theorem AV(k m:Int)(n a:List Nat)(l:List Ex)(ps:List Pa)(d f:Int)(fn:Bool)(p par:List Nat)(sz:Int)(lo:Nat)(H:DH)(hlt:lo<H.length)(hl:l.length<2^62):∀(suf pre:List Ex) (T:List Fn) (X:DH),l=pre++suf->Ex.oks suf->T.length+dr suf<=100000->p.length+1+dr suf<=100000 ->
 ∃ X',ao de (ab de) 69 200004 [.g (.buf 12 lo T.length),.lp 0 0,.g (.int .i64 (pre.length:Nat))] [(0,ma ⟨.mk k m n a l ps,d,f,p,fn,sz,par⟩)] (H.set lo (.buf 12 true false (T.map ma))++X) =
  ret (.buf 12 lo (T.length+dr suf)) (H.set lo (.buf 12 true false ((T++fW d f fn p k a pre.length suf).map ma))++X')
 |[],pre,T,X,e,_,_,_=>by
  refine⟨X,bg (xI _ _ _ _ _) ?_⟩
  have:l.length=pre.length:=by rw[e];simp
  simp only[ma,am,ax,SD,bD,bV,this,Int.lt_irrefl,decide_false,au,cond_false,dr,fW,List.append_nil,Nat.add_zero]
 |.mk xk xm xn xa xx xp::suf,pre,T,X,e,ho,hT,hp=>by
  rw[dr]at hT hp
  rw[Ex.oks]at ho
  have hi:pre.length<l.length:=by rw[e];simp
  have hat:(bI l)[pre.length]? = some (bU (.mk xk xm xn xa xx xp)):=by rw[e];exact gH _ _ _
  rw[bU]at hat
  obtain⟨q,hq⟩:∃ q:List Nat,q=if pre.length=0/\(k=5\/k=7)then a else []:=⟨_,rfl⟩
  let P:List Nat:=p++[pre.length]
  let X1:DH:=X++[.buf 1 false false (nC P)]
  have hH:(H.set lo (.buf 12 true false (T.map ma))++X1)[lo]? = some (.buf 12 true false (T.map ma)):=by
   rw[List.getElem?_append_left (by rw[List.length_set];exact hlt),List.getElem?_set_self hlt]
  have hc:=Jv (.mk xk xm xn xa xx xp) d f fn P q 0 T lo _ ho.1 hH (by omega) (by simp[P];omega)
  obtain⟨X',ih⟩:=AV k m n a l ps d f fn p par sz lo H hlt hl suf (pre++[.mk xk xm xn xa xx xp]) (T++iZ d f fn P q (.mk xk xm xn xa xx xp)) X1 (by rw[e];simp) ho.2 (by rw[List.length_append,ki];omega) (by omega)
  rw[List.set_append_left _ _ (by rw[List.length_set];exact hlt),List.set_set]at hc
  simp only[List.length_append,List.length_singleton,ki]at ih
  have j10:ao de (ab de) 69 10 [.g (.buf 12 lo T.length),.lp 0 0,.g (.int .i64 (pre.length:Nat)),.lp 1 0] [(0,ma ⟨.mk k m n a l ps,d,f,p,fn,sz,par⟩),(0,ma ⟨.mk xk xm xn xa xx xp,d,f,P,fn,0,q⟩)] (H.set lo (.buf 12 true false (T.map ma))++X1)=ret (.buf 12 lo (T.length+hJ (.mk xk xm xn xa xx xp)+dr suf)) (H.set lo (.buf 12 true false ((T++iZ d f fn P q (.mk xk xm xn xa xx xp)++fW d f fn p k a (pre.length+1) suf).map ma))++X'):=by
   refine bg (UN _ _ _ _ _ _) ?_
   simp only[ma,am,ax]at hc ih ⊢
   simp only[af hc,aq (show pre.length<2^62 by omega),ih]
  refine⟨X',bg (xI _ _ _ _ _) ?_⟩
  have goal:fW d f fn p k a pre.length (.mk xk xm xn xa xx xp::suf)=iZ d f fn P q (.mk xk xm xn xa xx xp)++fW d f fn p k a (pre.length+1) suf:=by rw[fW,<- hq]
  rw[goal,dr,<- Nat.add_assoc,<- List.append_assoc]
  have hlen:decide ((pre.length:Int)<(l.length:Nat))=true:=decide_eq_true (by omega)
  simp only[ma,am,ax,SD,bD,bV,hlen,au,cond_true,YG,ak hat,NJ,ce6,Vi,aw,lZ,Vj]
  refine Eq.trans (Wc p pre.length (by omega) _ _) ?_
  simp only[JO,aaK,lZ,VD,bL,au,XD]
  rw[List.append_assoc]
  simp only[ma]at j10
  by_cases h0:pre.length=0
  ·have hb:((pre.length:Int)==0)=true:=by simp[h0]
   rw[hb,cond_true]
   by_cases h5:k=5
   ·rw[if_pos ⟨h0,.inl h5⟩]at hq
    rw[hq]at j10 ⊢
    rw[show(k==5)=true by simp[h5],cond_true]
    exact j10
   ·rw[beq_false_of_ne h5,cond_false]
    by_cases h7:k=7
    ·rw[if_pos ⟨h0,.inr h7⟩]at hq
     rw[hq]at j10 ⊢
     rw[show(k==7)=true by simp[h7],cond_true]
     exact j10
    ·rw[if_neg (fun h=>h.2.elim h5 h7)]at hq
     rw[hq]at j10 ⊢
     rw[beq_false_of_ne h7,cond_false]
     exact j10
  ·rw[if_neg (fun h=>h0 h.1)]at hq
   rw[hq]at j10 ⊢
   rw[show((pre.length:Int)==0)=false from beq_false_of_ne (by omega),cond_false]
   exact j10
end
theorem xo{sz:Nat}{l:List (List D)}{H:DH}{κ:D->DH->ai}:eZ (.fz sz) (.buf sz H.length l.length) (H++[.buf sz true false l]) κ=κ (.row sz l) (H++[.buf sz false false l]):=by
 have hb:(H++[DB.buf sz true false l])[H.length]? = some (.buf sz true false l):=aY _ _
 simp only[eZ,cq hb,boK,Nat.beq_refl,cond_true]
 congr 1
 rw[List.set_append,if_neg (by omega),Nat.sub_self];rfl
theorem AP(k:Int)(dn:List Nat)(vs:List (List Nat))(cs:List Co)(n tn:List Nat)(ts:List Ty)(fs:List Fu)(ek em:Int)(en ea:List Nat)(xs:List Ex)(ps:List Pa)(H:DH)(hl:fs.length<2^62)(hok:∀ m,m<=fs.length->aF Tryz.prog 86 m=true):∀ pre suf,fs=pre++suf ->
 ao de (ab de) 121 200006 [.lp 0 0,.g (.buf 6 H.length pre.length),.g (.int .i64 (pre.length:Nat))] [(0,bo ⟨k,⟨dn,vs,cs⟩,n,.mk tn ts,fs,.mk ek em en ea xs ps⟩)] (H++[.buf 6 true false (bI (pre.map (·.b)))])=ret (.row 6 (bI (fs.map (·.b)))) (H++[.buf 6 false false (bI (fs.map (·.b)))])
 |pre,[],e=>by
  have e2:fs.length=pre.length:=by rw[e];simp
  have e3:fs=pre:=by rw[e];simp
  have hlen:pre.length=(bI (pre.map (·.b))).length:=by rw[bD];simp
  refine bg (ut _ _ _ _ _ _ _ _ _ _ _ _ _ _ _ _ _ _ _) ?_
  rw[show(fs.map ir).length=fs.length by simp,e2]
  simp only[Int.lt_irrefl,decide_false,cond_false]
  rw[hlen,xo,e3]
 |pre,f::suf,e=>by
  have hi:pre.length<fs.length:=by rw[e];simp
  have h1:decide ((pre.length:Int)<((fs.map ir).length:Int))=true:=by rw[List.length_map];simp;exact hi
  have h2:(fs.map ir)[pre.length]? = some (ir f):=by rw[e];exact bO _ _ _ _
  have ih:=AP k dn vs cs n tn ts fs ek em en ea xs ps H hl hok (pre++[f]) suf (by rw[e];simp)
  have hlen:(bI (pre.map (·.b))).length=pre.length:=by rw[bD];simp
  refine bg (ut _ _ _ _ _ _ _ _ _ _ _ _ _ _ _ _ _ _ _) ?_
  have ha (e:List D) (κ:D->DH->ai):=Dg (ok:=aF Tryz.prog 86) (sz:=6) (l:=bI (pre.map (·.b))) (els:=[e]) (H:=H) (κ:=κ) (hok 1 (by omega)) (by rw[hlen];exact hok _ (by simp;omega))
  rw[hlen]at ha
  have hacc (o n:Nat) (G:DH) (κ:D->DH->ai):dl (.acc 6) 0 (.buf 6 o n) G κ=κ (.buf 6 o n) G:=rfl
  obtain⟨fn,fa,⟨k',m',en',ea',xs',ps'⟩⟩:=f
  rw[h1,cond_true,aI,ak h2]
  simp only[ir,am,ax,ha,hacc,aq (show pre.length<2^62 by omega),List.length_singleton]
  simp only[List.length_append,List.length_singleton,List.map_append,List.map_cons,List.map_nil,kj,bU,bo]at ih ⊢
  exact ih
theorem BB{H:DH}{d:D}(hd:d.bel H.length):aZ H (ret d H)=ret d H:=by
 have:=rK (X:=[]) hd
 simpa using this
theorem Jy(d:De)(H:DH)(h:d.ok)(hok:∀ m,m<=d.fs.length->aF Tryz.prog 86 m=true):ab de (.call 121 [.agg (bo d)] none) H=ret (.row 6 (bI (cr d))) H:=by
 obtain⟨k,⟨dn,vs,cs⟩,n,⟨tn,ts⟩,fs,⟨ek,em,en,ea,xs,ps⟩⟩:=d
 obtain⟨_,_,h3,_,_⟩:=h
 have w:=AP k dn vs cs n tn ts fs ek em en ea xs ps H h3 hok [] fs rfl
 have w:ao de (ab de) 121 200006 [.lp 0 0,.g (.buf 6 H.length 0),.g (.int .i64 0)] [(0,bo ⟨k,⟨dn,vs,cs⟩,n,.mk tn ts,fs,.mk ek em en ea xs ps⟩)] (H++[.buf 6 true false []])=_:=w
 simp only[bo]at w
 have hz (κ:D->DH->ai):eZ (.fz 6) (.buf 6 H.length 0) (H++[.buf 6 true false []]) κ=κ (.row 6 []) (H++[.buf 6 false false []]):=xo (l:=[])
 have hb (l:List Ex):D.bel H.length (.row 6 (bI l)):=by simp only[D.bel];exact mT _ l
 have e1:bI [.mk ek em en ea xs ps]=[[.int .i64 ek,.int .i64 em,.str en,.str ea,.row 6 (bI xs),.row 3 (bM ps)]]:=by simp only[bI,bU]
 refine ev (aax _ _ _ _ _ _ _ _ _ _ _ _ _ _ _ _) ?_
 simp only[w,hz,<- e1,cr]
 have hk:k=3\/k=4\/k=5\/((k==3)=false/\(k==4)=false/\(k==5)=false):=by
  simp only[beq_eq_false_iff_ne];omega
 rcases hk with rfl|rfl|rfl|⟨k3,k4,k5⟩
 ·exact rK (hb _)
 ·exact BB (hb _)
 ·exact BB (hb _)
 ·simp only[k3,k4,k5,cond_false]
  exact rK (hb [])
structure Bd where
 i:Nat
 j:Nat
 n:List Nat
 fn:Bool
 par:List Nat
 e:Ex
def oo(x:Bd):List D:=[.int .i64 (x.i:Nat),.int .i64 (x.j:Nat),.row 1 [],.str x.n,.bool x.fn,.str x.par]++bU x.e
def pH(i:Nat):Nat->List Fu->List Bd
 |_,[]=>[]
 |j,f::r=>⟨i,j,f.n,true,f.a,f.b⟩::pH i (j+1) r
def Gf(i:Nat)(d:De):List Bd:=if d.k=3 then pH i 0 d.fs else if d.k=4\/d.k=5 then [⟨i,0,d.n,false,[],d.b⟩] else []
def lM:Nat->List De->List Bd
 |_,[]=>[]
 |i,d::r=>Gf i d++lM (i+1) r
theorem yK(i:Nat):∀(l:List Fu) (j:Nat),(pH i j l).length=l.length
 |[],_=>rfl
 |f::r,j=>by simp[pH,yK i r]
theorem JY(i:Nat)(d:De):(Gf i d).length=zb d:=by
 unfold Gf zb
 split
 ·exact yK ..
 ·split<;>rfl
theorem IB{m:Nat}(h:m<=100000):aF Tryz.prog 160 m=true:=eQ (b:=176) (by kernel_rfl) (by decide) h
theorem Jj(l:List (List D))(H:DH)(κ:D->ai):bY Tryz.prog 145 (.row 8 l) H κ=κ (.int .i64 (l.length:Int)):=by kernel_rfl
theorem QQ(cs:List D)(n:Nat)(H:DH)(κ:D->ai):eC Tryz.prog 9 (.eptr cs n) H κ=ah cs n κ:=by kernel_rfl
theorem Jx(cs:List D)(n k:Nat)(κ:D->ai):dw (.eptr cs n) k κ=κ (.eptr cs (n+k)):=rfl
theorem WB(z y a b c d e f:D)(H:DH)(κ:D->ai):eC Tryz.prog 86 (.eptr [z,y,a,b,c,d,e,f] 2) H κ=κ (.agg [a,b,c,d,e,f]):=by kernel_rfl
theorem OY(T:List Bd)(x:Bd)(H:DH)(h:T.length<100000)(κ:D->DH->ai):cC (aF Tryz.prog 160) 12 (.buf 12 H.length T.length) [oo x] (H++[.buf 12 true false (T.map oo)]) κ=κ (.buf 12 H.length (T.length+1)) (H++[.buf 12 true false ((T++[x]).map oo)]):=by
 have:=Dg (ok:=aF Tryz.prog 160) (sz:=12) (l:=T.map oo) (els:=[oo x]) (H:=H) (κ:=κ) (IB (show 1<=100000 by omega)) (by rw[List.length_map];exact IB (show T.length+1<=100000 by omega))
 rw[List.length_map]at this
 rw[this];simp
theorem Bt(H:DH)(i:Nat)(hi:i<2^61)(ds:List (List D))(d:De)(hf:d.fs.length<2^61):∀(suf pre:List Fu) (T:List Bd),d.fs=pre++suf->T.length+suf.length<=99999 ->
 ao de (ab de) 68 200010 [.lp 0 0,.g (.buf 12 H.length T.length),.g (.int .i64 (i:Nat)),.lp 1 0,.g (.int .i64 (pre.length:Nat))] [(0,[.row 14 ds]),(0,bo d)] (H++[.buf 12 true false (T.map oo)]) =
  ao de (ab de) 68 200003 [.lp 0 0,.g (.buf 12 H.length (T.length+suf.length)),.g (.int .i64 ((i+1:Nat):Nat))] [(0,[.row 14 ds])] (H++[.buf 12 true false ((T++pH i pre.length suf).map oo)])
 |[],pre,T,e,hT=>by
  have:d.fs.length=pre.length:=by rw[e];simp
  obtain⟨k,⟨dn,vs,cs⟩,nm,⟨tn,ts⟩,fs,⟨ek,em,en,ea,ex,ps⟩⟩:=d
  simp only at this
  refine bg (by simp only[bo];exact xJ _ _ _ _ _ _ _ _ _ _ _ _ _ _ _ _ _ _ _ _ _) ?_
  simp only[Jj,List.length_map,bV,this,Int.lt_irrefl,decide_false,au,cond_false,aq (show i<2^62 by omega),pH,List.append_nil,List.length_nil,Nat.add_zero]
 |f::suf,pre,T,e,hT=>by
  have hi':pre.length<d.fs.length:=by rw[e];simp
  have hat:(d.fs.map ir)[pre.length]? = some (ir f):=by rw[e];exact bO _ _ _ _
  have ih:=Bt H i hi ds d hf suf (pre++[f]) (T++[⟨i,pre.length,f.n,true,f.a,f.b⟩]) (by rw[e];simp) (by simp at hT ⊢;omega)
  have ap:=OY T ⟨i,pre.length,f.n,true,f.a,f.b⟩ H (by simp at hT;omega)
  obtain⟨fn,fa,⟨k',m',en',ea',xs',ps'⟩⟩:=f
  obtain⟨k,⟨dn,vs,cs⟩,nm,⟨tn,ts⟩,fs,⟨ek,em,en,ea,ex,ps⟩⟩:=d
  simp only[ir]at hat
  have hi':pre.length<fs.length:=hi'
  have hlt:decide ((pre.length:Int)<(fs.length:Nat))=true:=decide_eq_true (by omega)
  have hacc (o n:Nat) (G:DH) (κ:D->DH->ai):dl (.acc 12) 0 (.buf 12 o n) G κ=κ (.buf 12 o n) G:=rfl
  simp only[List.length_append,List.length_singleton]at ih
  simp only[oo,bU,List.cons_append,List.nil_append]at ap
  refine bg (by simp only[bo];exact xJ _ _ _ _ _ _ _ _ _ _ _ _ _ _ _ _ _ _ _ _ _) ?_
  try simp only[bU]at hat
  simp only[Jj,List.length_map,bV,hlt,au,cond_true,SQ,ak hat,Jx,Nat.zero_add,QQ,WB,am,ax,Db,ce6,aw,lZ,Vj,ap,hacc,aq (show pre.length<2^62 by simp only at hf;omega)]
  simp only[bo]at ih
  rw[ih]
  simp only[pH,List.append_assoc,List.singleton_append,List.length_cons]
  rw[show T.length+1+suf.length=T.length+(suf.length+1)by omega]
theorem yJ(H:DH)(l:List De)(hl:l.length<2^61):∀(suf pre:List De) (T:List Bd),l=pre++suf->(∀ d∈suf,d.fs.length<2^61)->T.length+ll suf<=99999 ->
 ao de (ab de) 68 200003 [.lp 0 0,.g (.buf 12 H.length T.length),.g (.int .i64 (pre.length:Nat))] [(0,[.row 14 (l.map bo)])] (H++[.buf 12 true false (T.map oo)]) =
  ret (.row 12 ((T++lM pre.length suf).map oo)) (H++[.buf 12 false false ((T++lM pre.length suf).map oo)])
 |[],pre,T,e,_,_=>by
  have:l.length=pre.length:=by rw[e];simp
  refine bg (xK _ _ _ _ _ _) ?_
  have hz (κ:D->DH->ai):eZ (.fz 12) (.buf 12 H.length T.length) (H++[.buf 12 true false (T.map oo)]) κ=κ (.row 12 (T.map oo)) (H++[.buf 12 false false (T.map oo)]):=by
   have:=xo (sz:=12) (l:=T.map oo) (H:=H) (κ:=κ)
   rw[List.length_map]at this;exact this
  rw[List.length_map,this,oj,decide_eq_false (Nat.lt_irrefl _),cond_false,hz,lM,List.append_nil]
 |d::suf,pre,T,e,hd,hT=>by
  have hi:pre.length<l.length:=by rw[e];simp
  have hat:(l.map bo)[pre.length]? = some (bo d):=by rw[e];exact bO _ _ _ _
  have hT':T.length+(zb d+ll suf)<=99999:=hT
  have ih:=yJ H l hl suf (pre++[d]) (T++Gf pre.length d) (by rw[e];simp) (fun x hx=>hd x (List.mem_cons_of_mem _ hx)) (by rw[List.length_append,JY];omega)
  have hf:=hd d (List.mem_cons_self ..)
  have fl:=Bt H pre.length (by omega) (l.map bo) d hf d.fs [] T rfl
  simp only[List.length_append,List.length_singleton]at ih
  rw[lM,<- List.append_assoc]
  rw[<- ih]
  have hlt:decide ((pre.length:Int)<(l.length:Nat))=true:=decide_eq_true (by omega)
  have ap:=OY T ⟨pre.length,0,d.n,false,[],d.b⟩ H (by
   by_cases h:T.length<100000
   ·exact h
   ·omega)
  have hacc (o n:Nat) (G:DH) (κ:D->DH->ai):dl (.acc 12) 0 (.buf 12 o n) G κ=κ (.buf 12 o n) G:=rfl
  obtain⟨k,⟨dn,vs,cs⟩,nm,⟨tn,ts⟩,fs,⟨ek,em,en,ea,ex,ps⟩⟩:=d
  simp only[bo]at hat fl ap
  simp only[oo,bU,List.cons_append,List.nil_append,show(((0:Nat)):Int)=0 from rfl]at ap
  refine bg (xK _ _ _ _ _ _) ?_
  rw[List.length_map,hlt,cond_true]
  simp only[aI,ak hat,am,ax,bL,au]
  have run:(k=4\/k=5)->ao de (ab de) 68 7 [.lp 0 0,.g (.buf 12 H.length T.length),.g (.int .i64 (pre.length:Nat)),.lp 1 0] [(0,[.row 14 (l.map bo)]),(0,[.int .i64 k,.str dn,.row 1 (vs.map kO),.row 2 (cs.map gI),.str nm,.str tn,.row 2 (bJ ts),.row 8 (fs.map ir),.int .i64 ek,.int .i64 em,.str en,.str ea,.row 6 (bI ex),.row 3 (bM ps)])] (H++[.buf 12 true false (T.map oo)])=ao de (ab de) 68 200003 [.lp 0 0,.g (.buf 12 H.length (T.length+1)),.g (.int .i64 ((pre.length+1:Nat):Nat))] [(0,[.row 14 (l.map bo)])] (H++[.buf 12 true false ((T++[(⟨pre.length,0,nm,false,[],.mk ek em en ea ex ps⟩:Bd)]).map oo)]):=fun hk=>by
   refine bg (Xm _ _ _ _ _ _ _ _ _ _ _ _ _ _ _ _ _ _ _ _) ?_
   have h3:(k==3)=false:=beq_false_of_ne (by omega)
   simp only[Db,aw,lZ,Vj,ap,hacc,bL,au,h3,cond_false,aq (show pre.length<2^62 by omega)]
  by_cases h3:k=3
  ·have e2:Gf pre.length ⟨k,⟨dn,vs,cs⟩,nm,.mk tn ts,fs,.mk ek em en ea ex ps⟩=pH pre.length 0 fs:=by simp[Gf,h3]
   have e3:zb ⟨k,⟨dn,vs,cs⟩,nm,.mk tn ts,fs,.mk ek em en ea ex ps⟩=fs.length:=by simp[zb,h3]
   rw[e3]at hT'
   rw[beq_false_of_ne (show k≠4 by omega),beq_false_of_ne (show k≠5 by omega),show(k==3)=true by simp[h3],cond_false,cond_false,cond_true,e2,yK]
   exact fl (by omega)
  ·by_cases h45:k=4\/k=5
   ·have e2:Gf pre.length ⟨k,⟨dn,vs,cs⟩,nm,.mk tn ts,fs,.mk ek em en ea ex ps⟩=[⟨pre.length,0,nm,false,[],.mk ek em en ea ex ps⟩]:=by simp[Gf,h3,h45]
    rw[e2]
    have r:=run h45
    rcases h45 with h4|h5
    ·rw[show(k==4)=true by simp[h4],cond_true]
     exact r
    ·rw[beq_false_of_ne (show k≠4 by omega),show(k==5)=true by simp[h5],cond_false,cond_true]
     exact r
   ·have e2:Gf pre.length ⟨k,⟨dn,vs,cs⟩,nm,.mk tn ts,fs,.mk ek em en ea ex ps⟩=[]:=by simp[Gf,h3,h45]
    rw[beq_false_of_ne (show k≠4 by omega),beq_false_of_ne (show k≠5 by omega),beq_false_of_ne h3,cond_false,cond_false,cond_false,e2,aq (show pre.length<2^62 by omega),List.append_nil]
    rfl
theorem Vn(n:Nat)(x:Bd):ef n (oo x):=by
 obtain⟨i,j,nm,fn,par,⟨ek,em,en,ea,ex,ps⟩⟩:=x
 simp only[oo,bU,List.cons_append,List.nil_append,ef,D.bel,dz,true_and,and_true]
 exact⟨mT n ex,mz n ps⟩
theorem JX(n:Nat):∀ l:List Bd,dz n (l.map oo)
 |[]=>by simp[dz]
 |x::r=>by simp only[List.map_cons,dz];exact⟨Vn n x,JX n r⟩
theorem OT(l:List De)(hl:l.length<2^61)(hd:∀ d∈l,d.fs.length<2^61)(hn:ll l<=99999)(H:DH) :
 ab de (.call 68 [.agg [.row 14 (l.map bo)]] none) H=ret (.row 12 ((lM 0 l).map oo)) H:=by
 have w:=yJ H l hl l [] [] rfl hd (by simpa using hn)
 refine ev (f68 _ _ _) ?_
 refine Eq.trans (congrArg (aZ H) w) ?_
 exact rK (by simp only[D.bel];exact JX _ _)
structure Rf where
 ds:List De
 ns:List Fn
 fs:List (List Nat×Nat)
 nm:List (List Nat)
 dn:List Nat
 rs:List (List Nat×Nat×Nat×Bool)
def VW(x:List Nat×Nat):List D:=[.int .i64 2,.str x.1,.int .i64 (x.2:Nat),.nilrow,.int .i64 (-1)]
def VS(x:List Nat×Nat×Nat×Bool):List D:=[.str x.1,.int .i64 (x.2.1:Nat),.int .i64 (x.2.2.1:Nat),.bool x.2.2.2]
def RL(n st:Nat)(G:Rf):DH:=[.buf 12 true false (G.ns.map ma),.buf 5 true false (G.fs.map VW),.buf 1 true false (G.nm.map kO),.buf 1 true false (nC G.dn),.buf 4 true false (G.rs.map VS),
 .cells st [.row 14 (G.ds.map bo),.buf 12 n G.ns.length,.buf 5 (n+1) G.fs.length,.buf 1 (n+2) G.nm.length,.buf 1 (n+3) G.dn.length,.buf 4 (n+4) G.rs.length]]
def RX(H0:DH)(st:Nat)(G:Rf):DH:=H0++RL H0.length st G
section
variable(H0:DH)(st:Nat)(G:Rf)
theorem nZ{L:DH}{i:Nat}{b:DB}(h:L[i]? = some b):(H0++L)[H0.length+i]? = some b:=by
 have:=pI H0 L [] i b h
 rwa [List.append_nil]at this
theorem uK:(RX H0 st G)[H0.length+5]? = some (.cells st [.row 14 (G.ds.map bo),.buf 12 H0.length G.ns.length,.buf 5 (H0.length+1) G.fs.length,.buf 1 (H0.length+2) G.nm.length,.buf 1 (H0.length+3) G.dn.length,.buf 4 (H0.length+4) G.rs.length]):=nZ H0 (L:=RL H0.length st G) rfl
theorem Tr:(RX H0 st G)[H0.length]? = some (.buf 12 true false (G.ns.map ma)):=nZ H0 (L:=RL H0.length st G) (i:=0) rfl
theorem Ye:(RX H0 st G)[H0.length+1]? = some (.buf 5 true false (G.fs.map VW)):=nZ H0 (L:=RL H0.length st G) rfl
theorem Yd:(RX H0 st G)[H0.length+2]? = some (.buf 1 true false (G.nm.map kO)):=nZ H0 (L:=RL H0.length st G) rfl
theorem Yf:(RX H0 st G)[H0.length+3]? = some (.buf 1 true false (nC G.dn)):=nZ H0 (L:=RL H0.length st G) rfl
theorem Yc:(RX H0 st G)[H0.length+4]? = some (.buf 4 true false (G.rs.map VS)):=nZ H0 (L:=RL H0.length st G) rfl
theorem fh(H0:DH)(L:DH)(i:Nat)(b:DB)(h:i<L.length):(H0++L).set (H0.length+i) b=H0++L.set i b:=by
 have:=fL H0 L [] i b h
 rwa [List.append_nil,List.append_nil]at this
theorem PY(T:List Fn):((RX H0 st G).set H0.length (.buf 12 true false ((G.ns++T).map ma))).set (H0.length+5) (.cells (st+1) [.row 14 (G.ds.map bo),.buf 12 H0.length (G.ns.length+T.length),.buf 5 (H0.length+1) G.fs.length,.buf 1 (H0.length+2) G.nm.length,.buf 1 (H0.length+3) G.dn.length,.buf 4 (H0.length+4) G.rs.length])=RX H0 (st+1) { G with ns:=G.ns++T }:=by
 unfold RX
 have e:(H0++RL H0.length st G).set H0.length (.buf 12 true false ((G.ns++T).map ma))=H0++(RL H0.length st G).set 0 (.buf 12 true false ((G.ns++T).map ma)):=fh H0 _ 0 _ (by simp[RL])
 rw[e,fh _ _ _ _ (by simp[RL])]
 simp[RL]
end
def Rf.addB(G:Rf)(x:Bd):Rf:={ G with ns:=G.ns++iZ (x.i:Nat) (x.j:Nat) x.fn [] x.par x.e }
theorem NX(l:List (List D))(i:Nat)(κ:D->ai):aJ Tryz.prog 157 (.row 12 l) (.int .i64 (i:Nat)) κ=bC l i fun cs=>κ (.eptr cs 0):=by kernel_rfl
theorem Hc(l:List (List D))(H:DH)(κ:D->ai):bY Tryz.prog 157 (.row 12 l) H κ=κ (.int .i64 (l.length:Int)):=by kernel_rfl
theorem WA(y0 y1 y2 y3 y4 y5 a b c d e f:D)(H:DH)(κ:D->ai):eC Tryz.prog 86 (.eptr [y0,y1,y2,y3,y4,y5,a,b,c,d,e,f] 6) H κ=κ (.agg [a,b,c,d,e,f]):=by kernel_rfl
theorem WD(y0 y1 y2 y3 y4 y5 a b c d e f:D)(H:DH)(κ:D->ai):eC Tryz.prog 27 (.eptr [y0,y1,y2,y3,y4,y5,a,b,c,d,e,f] 0) H κ=κ (.agg [y0,y1,y2]):=by kernel_rfl
theorem Ud(cs:List D)(n:Nat)(H:DH)(κ:D->ai):eC Tryz.prog 4 (.eptr cs n) H κ=ah cs n κ:=by kernel_rfl
theorem Qt(H0:DH)(st:Nat)(G:Rf)(bs:List Bd)(i:Nat)(x:Bd)(hx:bs[i]? = some x)(ho:x.e.ok)(hi:i<2^61)(hT:G.ns.length+hJ x.e<=100000) :
 ao de (ab de) 36 12 [.lp 0 0,.g (.ptr (H0.length+5) 0),.g (.row 12 (bs.map oo)),.g (.int .i64 (i:Nat))] [(0,[.row 14 (G.ds.map bo)])] (RX H0 st G) =
  ao de (ab de) 36 200004 [.lp 0 0,.g (.ptr (H0.length+5) 0),.g (.row 12 (bs.map oo)),.g (.int .i64 ((i+1:Nat):Nat))] [(0,[.row 14 (G.ds.map bo)])] (RX H0 (st+1) (G.addB x)):=by
 have hat:(bs.map oo)[i]? = some (oo x):=by rw[List.getElem?_map,hx];rfl
 have hc:=Jv x.e (x.i:Nat) (x.j:Nat) x.fn [] x.par 0 G.ns H0.length (RX H0 st G) ho (Tr H0 st G) hT (by simp;omega)
 obtain⟨xi,xj,xn,xf,xp,⟨ek,em,en,ea,ex,ps⟩⟩:=x
 simp only[oo,bU,List.cons_append,List.nil_append]at hat
 simp only[ma,show nC []=[] from rfl]at hc
 refine bg (UO _ _ _ _ _ _) ?_
 have ho2:=ae (.buf 12 true false ((G.ns++iZ (xi:Nat) (xj:Nat) xf [] xp (.mk ek em en ea ex ps)).map ma)) (show H0.length≠H0.length+5 by omega) (uK H0 st G)
 simp only[ac (uK H0 st G),am,ax,NX,ak hat,Jx,Nat.zero_add,WA,WD,Ud,QQ,ce6,VD,Vi,Db,aw,lZ]
 simp only[dq hc,uS,ac ho2,lZ]
 have rp:=PY H0 st G (iZ (xi:Nat) (xj:Nat) xf [] xp (.mk ek em en ea ex ps))
 rw[ki]at rp
 rw[rp,aq (show i<2^62 by omega)]
 rfl
end Go.Proofs.YtpghiabjaglpgaaGreatDoor
namespace Go.Proofs.YtpghiabjaglpgaaGreatDoor
open Go.AI
theorem ID{m:Nat}(h:m<=100000):aF Tryz.prog 115 m=true:=eQ (b:=64) (by kernel_rfl) (by decide) h
theorem Sv{m:Nat}(h:m<=100000):aF Tryz.prog 9 m=true:=eQ (b:=16) (by kernel_rfl) (by decide) h
theorem IA{m:Nat}(h:m<=100000):aF Tryz.prog 162 m=true:=eQ (b:=40) (by kernel_rfl) (by decide) h
theorem Ew(s o n:Nat)(H:DH)(κ:D->ai):bY Tryz.prog 90 (.buf s o n) H κ=κ (.int .i64 (n:Int)):=by kernel_rfl
theorem YJ(l:List (List D))(i:Nat)(κ:D->ai):aJ Tryz.prog 22 (.row 14 l) (.int .i64 (i:Nat)) κ=bC l i fun cs=>κ (.eptr cs 0):=by kernel_rfl
theorem WC(cs:List D)(n:Nat)(H:DH)(κ:D->ai):eC Tryz.prog 3 (.eptr cs n) H κ=ah cs n κ:=by kernel_rfl
variable(H0:DH)(st:Nat)(G:Rf)
theorem VQ(x:List Nat×Nat):((RX H0 st G).set (H0.length+1) (.buf 5 true false (G.fs.map VW++[VW x]))).set (H0.length+5) (.cells (st+1) [.row 14 (G.ds.map bo),.buf 12 H0.length G.ns.length,.buf 5 (H0.length+1) (G.fs.length+1),.buf 1 (H0.length+2) G.nm.length,.buf 1 (H0.length+3) G.dn.length,.buf 4 (H0.length+4) G.rs.length])=RX H0 (st+1) { G with fs:=G.fs++[x] }:=by
 unfold RX
 rw[fh _ _ _ _ (by simp[RL]),fh _ _ _ _ (by simp[RL])]
 simp[RL]
theorem VP(x:List Nat):((RX H0 st G).set (H0.length+2) (.buf 1 true false (G.nm.map kO++[[.str x]]))).set (H0.length+5) (.cells (st+1) [.row 14 (G.ds.map bo),.buf 12 H0.length G.ns.length,.buf 5 (H0.length+1) G.fs.length,.buf 1 (H0.length+2) (G.nm.length+1),.buf 1 (H0.length+3) G.dn.length,.buf 4 (H0.length+4) G.rs.length])=RX H0 (st+1) { G with nm:=G.nm++[x] }:=by
 unfold RX
 rw[fh _ _ _ _ (by simp[RL]),fh _ _ _ _ (by simp[RL])]
 simp[RL,kO]
theorem VR(x:Nat):((RX H0 st G).set (H0.length+3) (.buf 1 true false (nC G.dn++[[.int .i64 (x:Nat)]]))).set (H0.length+5) (.cells (st+1) [.row 14 (G.ds.map bo),.buf 12 H0.length G.ns.length,.buf 5 (H0.length+1) G.fs.length,.buf 1 (H0.length+2) G.nm.length,.buf 1 (H0.length+3) (G.dn.length+1),.buf 4 (H0.length+4) G.rs.length])=RX H0 (st+1) { G with dn:=G.dn++[x] }:=by
 unfold RX
 rw[fh _ _ _ _ (by simp[RL]),fh _ _ _ _ (by simp[RL])]
 simp[RL,nC]
theorem VO(x:List Nat×Nat×Nat×Bool):((RX H0 st G).set (H0.length+4) (.buf 4 true false (G.rs.map VS++[VS x]))).set (H0.length+5) (.cells (st+1) [.row 14 (G.ds.map bo),.buf 12 H0.length G.ns.length,.buf 5 (H0.length+1) G.fs.length,.buf 1 (H0.length+2) G.nm.length,.buf 1 (H0.length+3) G.dn.length,.buf 4 (H0.length+4) (G.rs.length+1)])=RX H0 (st+1) { G with rs:=G.rs++[x] }:=by
 unfold RX
 rw[fh _ _ _ _ (by simp[RL]),fh _ _ _ _ (by simp[RL])]
 simp[RL]
def QT(l:List De)(i:Nat):Bool:=match l[i]? with|some d=>d.k==5|none=>false
def Rf.addH(G:Rf)(x:Bd):Rf:=if x.fn then { G with fs:=G.fs++[(x.par,G.ns.length)],nm:=G.nm++[x.n],dn:=G.dn++[x.i] } else { G with rs:=G.rs++[(x.n,x.i,G.ns.length,QT G.ds x.i)] }
theorem vE{ok:Nat->Bool}{sz o n:Nat}{l:List (List D)}{e:List D}{H:DH}{κ:D->DH->ai}(h:H[o]? = some (.buf sz true false l))(hn:l.length=n)(h1:ok 1=true)(h2:ok (n+1)=true) :
 cC ok sz (.buf sz o n) [e] H κ=κ (.buf sz o (n+1)) (H.set o (.buf sz true false (l++[e]))):=by subst hn;exact lO h h1 h2
theorem Qs(bs:List Bd)(i:Nat)(x:Bd)(hx:bs[i]? = some x)(hd:x.i<G.ds.length)(hb:bs.length<2^61)(h1:G.fs.length+1<=100000)(h2:G.nm.length+1<=100000)(h3:G.dn.length+1<=100000)(h4:G.rs.length+1<=100000) :
 ∃ st',ao de (ab de) 36 200004 [.lp 0 0,.g (.ptr (H0.length+5) 0),.g (.row 12 (bs.map oo)),.g (.int .i64 (i:Nat))] [(0,[.row 14 (G.ds.map bo)])] (RX H0 st G) =
  ao de (ab de) 36 12 [.lp 0 0,.g (.ptr (H0.length+5) 0),.g (.row 12 (bs.map oo)),.g (.int .i64 (i:Nat))] [(0,[.row 14 (G.ds.map bo)])] (RX H0 st' (G.addH x)):=by
 have hat:(bs.map oo)[i]? = some (oo x):=by rw[List.getElem?_map,hx];rfl
 have hi:decide ((i:Int)<(bs.length:Nat))=true:=decide_eq_true (by have:=(List.getElem?_eq_some_iff.1 hx).1;omega)
 have hdat:(G.ds.map bo)[x.i]? = some (bo G.ds[x.i]):=by rw[List.getElem?_map,List.getElem?_eq_getElem hd];rfl
 have hk:QT G.ds x.i=(G.ds[x.i].k==5):=by rw[QT,List.getElem?_eq_getElem hd]
 obtain⟨xi,xj,xn,xf,xp,⟨ek,em,en,ea,ex,ps⟩⟩:=x
 simp only[oo,bU,List.cons_append,List.nil_append]at hat
 simp only at hd hdat hk
 have hk0:∀ κ:D->ai,ah (bo G.ds[xi]) 0 κ=κ (.int .i64 G.ds[xi].k):=fun κ=>by
  obtain⟨k,⟨dn,vs,cs⟩,nm,⟨tn,ts⟩,fs,⟨ek,em,en,ea,ex,ps⟩⟩:=G.ds[xi]
  rfl
 cases xf with
 |true =>
  refine⟨st+1+1+1,bg (pC _ _ _ _ _ _) ?_⟩
  simp only[Hc,List.length_map,bV,hi,au,cond_true,ac (uK _ _ _),am,ax,Ew,NX,ak hat,Jx,Nat.zero_add,Ud,QQ,WC,Db,JO,aw,lZ,show ∀(a b c d e:D) (κ:List D->ai),ag 5 (.agg [a,b,c,d,e]) κ=κ [a,b,c,d,e] from fun _ _ _ _ _ _=>rfl]
  rw[vE (Ye H0 st G) (List.length_map ..) (ID (by omega)) (ID h1)]
  have ha (B:DB):=ae B (show H0.length+1≠H0.length+5 by omega) (uK H0 st G)
  have rp1:=VQ H0 st G (xp,G.ns.length)
  simp only[VW]at rp1
  simp only[uS,ac (ha _),lZ,rp1]
  simp only[ac (uK _ _ _),am,ax]
  have ap2 (κ:D->DH->ai):=vE (κ:=κ) (e:=[.str xn]) (Yd H0 (st+1) { G with fs:=G.fs++[(xp,G.ns.length)] }) (List.length_map ..) (Sv (show 1<=100000 by omega)) (Sv h2)
  simp only at ap2
  rw[ap2]
  have hb2 (B:DB):=ae B (show H0.length+2≠H0.length+5 by omega) (uK H0 (st+1) { G with fs:=G.fs++[(xp,G.ns.length)] })
  have rp2:=VP H0 (st+1) { G with fs:=G.fs++[(xp,G.ns.length)] } xn
  simp only at rp2 hb2
  simp only[uS,ac (hb2 _),lZ,rp2]
  simp only[ac (uK _ _ _),am,ax]
  have ap3 (κ:D->DH->ai):=vE (κ:=κ) (e:=[.int .i64 (xi:Nat)]) (Yf H0 (st+1+1) { G with fs:=G.fs++[(xp,G.ns.length)],nm:=G.nm++[xn] }) (jJ _) (gm (show 1<=100000 by omega)) (gm h3)
  simp only at ap3
  rw[ap3]
  have hb3 (B:DB):=ae B (show H0.length+3≠H0.length+5 by omega) (uK H0 (st+1+1) { G with fs:=G.fs++[(xp,G.ns.length)],nm:=G.nm++[xn] })
  have rp3:=VR H0 (st+1+1) { G with fs:=G.fs++[(xp,G.ns.length)],nm:=G.nm++[xn] } xi
  simp only at rp3 hb3
  simp only[uS,ac (hb3 _),lZ,rp3]
  rfl
 |false =>
  refine⟨st+1,bg (pC _ _ _ _ _ _) ?_⟩
  simp only[Hc,List.length_map,bV,hi,au,cond_true,cond_false,ac (uK _ _ _),am,ax,Ew,NX,ak hat,Jx,Nat.zero_add,Ud,QQ,WC,Db,JO,Vi,aw,lZ,YJ,ak hdat,hk0,bL,show ∀(a b c d:D) (κ:List D->ai),ag 4 (.agg [a,b,c,d]) κ=κ [a,b,c,d] from fun _ _ _ _ _=>rfl]
  rw[vE (Yc H0 st G) (List.length_map ..) (IA (by omega)) (IA h4)]
  have ho2 (B:DB):=ae B (show H0.length+4≠H0.length+5 by omega) (uK H0 st G)
  simp only[uS,ac (ho2 _),lZ]
  have rp:=VO H0 st G (xn,xi,G.ns.length,QT G.ds xi)
  rw[hk]at rp
  simp only[VS]at rp
  rw[rp]
  simp only[Rf.addH,hk]
  rfl
end Go.Proofs.YtpghiabjaglpgaaGreatDoor
namespace Go.Proofs.YtpghiabjaglpgaaGreatDoor
open Go.AI
def Rf.addXs(G:Rf):List Bd->Rf
 |[]=>G
 |x::r=>((G.addH x).addB x).addXs r
def pR:List Bd->Nat
 |[]=>0
 |x::r=>hJ x.e+pR r
theorem Kd(G:Rf)(x:Bd):((G.addH x).addB x).ds=G.ds/\(G.addH x).ds=G.ds/\(G.addH x).ns=G.ns/\((G.addH x).addB x).ns.length=G.ns.length+hJ x.e/\((G.addH x).addB x).fs.length<=G.fs.length+1/\((G.addH x).addB x).nm.length<=G.nm.length+1/\((G.addH x).addB x).dn.length<=G.dn.length+1/\((G.addH x).addB x).rs.length<=G.rs.length+1:=by
 unfold Rf.addB Rf.addH
 split<;>simp[ki]
theorem IU(H0:DH)(bs:List Bd)(hb:bs.length<2^61)(ds:List De):∀(suf pre:List Bd) (st:Nat) (G:Rf),bs=pre++suf->G.ds=ds->(∀ x∈suf,x.e.ok/\x.i<ds.length)->G.ns.length+pR suf<=100000 ->
 G.fs.length+suf.length<=100000->G.nm.length+suf.length<=100000->G.dn.length+suf.length<=100000->G.rs.length+suf.length<=100000 ->
 ∃ st',ao de (ab de) 36 200004 [.lp 0 0,.g (.ptr (H0.length+5) 0),.g (.row 12 (bs.map oo)),.g (.int .i64 (pre.length:Nat))] [(0,[.row 14 (ds.map bo)])] (RX H0 st G)=ret (.ptr (H0.length+5) 0) (RX H0 st' (G.addXs suf))
 |[],pre,st,G,e,hg,_,_,_,_,_,_=>by
  have:bs.length=pre.length:=by rw[e];simp
  refine⟨st,bg (pC _ _ _ _ _ _) ?_⟩
  simp only[Hc,List.length_map,bV,this,Int.lt_irrefl,decide_false,au,cond_false,Rf.addXs]
 |x::suf,pre,st,G,e,hg,hx,hn,h1,h2,h3,h4=>by
  subst hg
  have hat:bs[pre.length]? = some x:=by rw[e];simp
  obtain⟨ho,hd⟩:=hx x (List.mem_cons_self ..)
  simp only[List.length_cons]at h1 h2 h3 h4
  rw[pR]at hn
  obtain⟨a1,a2,a3,a4,a5,a6,a7,a8⟩:=Kd G x
  obtain⟨s1,e1⟩:=Qs H0 st G bs pre.length x hat hd hb (by omega) (by omega) (by omega) (by omega)
  have hi:pre.length<2^61:=by have:=(List.getElem?_eq_some_iff.1 hat).1;omega
  have e2:=Qt H0 s1 (G.addH x) bs pre.length x hat ho hi (by rw[a3];omega)
  obtain⟨s3,e3⟩:=IU H0 bs hb G.ds suf (pre++[x]) (s1+1) ((G.addH x).addB x) (by rw[e];simp) a1 (fun y hy=>hx y (List.mem_cons_of_mem _ hy)) (by omega) (by omega) (by omega) (by omega) (by omega)
  simp only[List.length_append,List.length_singleton]at e3
  rw[a2]at e2
  exact⟨s3,(e1.trans e2).trans e3⟩
def Ae(l:List De):Rf:=(⟨l,[],[],[],[],[]⟩:Rf).addXs (lM 0 l)
theorem FM(i:Nat):∀(l:List Fu) (j:Nat) (x:Bd),x∈pH i j l->x.i=i/\∃ f∈l,x.e=f.b
 |[],_,_,h=>by cases h
 |f::r,j,x,h=>by
  rw[pH,List.mem_cons]at h
  rcases h with rfl|h
  ·exact⟨rfl,f,List.mem_cons_self ..,rfl⟩
  ·obtain⟨h1,g,hg,h2⟩:=FM i r (j+1) x h
   exact⟨h1,g,List.mem_cons_of_mem _ hg,h2⟩
theorem RV(i:Nat)(d:De)(hd:d.ok)(x:Bd)(h:x∈Gf i d):x.i=i/\x.e.ok:=by
 unfold Gf at h
 obtain⟨_,_,_,h4,h5⟩:=hd
 split at h
 ·obtain⟨h1,f,hf,h2⟩:=FM i d.fs 0 x h
  exact⟨h1,h2▸h4 f hf⟩
 ·split at h
  ·rw[List.mem_singleton]at h
   subst h
   exact⟨rfl,h5⟩
  ·cases h
theorem FN:∀(l:List De) (i:Nat),(∀ d∈l,d.ok)->∀ x∈lM i l,x.i<i+l.length/\x.e.ok
 |[],_,_,_,h=>by cases h
 |d::r,i,hd,x,h=>by
  rw[lM,List.mem_append]at h
  rw[List.length_cons]
  rcases h with h|h
  ·obtain⟨h1,h2⟩:=RV i d (hd d (List.mem_cons_self ..)) x h
   exact⟨by omega,h2⟩
  ·obtain⟨h1,h2⟩:=FN r (i+1) (fun y hy=>hd y (List.mem_cons_of_mem _ hy)) x h
   exact⟨by omega,h2⟩
theorem kE:∀(l:List De) (i:Nat),(lM i l).length=ll l
 |[],_=>rfl
 |d::r,i=>by rw[lM,List.length_append,JY,kE r,ll]
theorem DI:∀ a b:List Bd,pR (a++b)=pR a+pR b
 |[],b=>by simp[pR]
 |x::a,b=>by rw[List.cons_append,pR,pR,DI a b,Nat.add_assoc]
theorem In(i:Nat):∀(l:List Fu) (j:Nat),pR (pH i j l)=uJ l
 |[],_=>rfl
 |f::r,j=>by rw[pH,pR,In i r,uJ]
theorem Th(i:Nat)(d:De):pR (Gf i d)=Mc d:=by
 unfold Gf Mc
 split
 ·exact In ..
 ·split<;>simp[pR]
theorem Io:∀(l:List De) (i:Nat),pR (lM i l)=lX l
 |[],_=>rfl
 |d::r,i=>by rw[lM,DI,Th,Io r,lX]
theorem Wp(l:List De)(hl:l.length<2^61)(ho:∀ x∈l,x.ok)(hf:∀ d∈l,d.fs.length<2^61)(hs:lX l<=2000)(hn:ll l<=960)(H:DH) :
 ∃ st,ab de (.call 36 [.agg [.row 14 (l.map bo)]] none) H=ret (.ptr (H.length+5) 0) (RX H st (Ae l)):=by
 have hb:=OT l hl hf (by omega) (RX H 0 ⟨l,[],[],[],[],[]⟩)
 obtain⟨st,h⟩:=IU H (lM 0 l) (by rw[kE];omega) l (lM 0 l) [] 0 ⟨l,[],[],[],[],[]⟩ rfl rfl (fun x hx=>by have:=FN l 0 ho x hx;exact⟨this.2,by omega⟩) (by rw[Io];simp;omega) (by rw[kE];simp;omega) (by rw[kE];simp;omega) (by rw[kE];simp;omega) (by rw[kE];simp;omega)
 have hH:RX H 0 ⟨l,[],[],[],[],[]⟩=H++[.buf 12 true false []]++[.buf 5 true false []]++[.buf 1 true false []]++[.buf 1 true false []]++[.buf 4 true false []]++[.cells 0 [.row 14 (l.map bo),.buf 12 H.length 0,.buf 5 (H.length+1) 0,.buf 1 (H.length+2) 0,.buf 1 (H.length+3) 0,.buf 4 (H.length+4) 0]]:=by
  simp[RX,RL,nC]
 rw[hH]at h hb
 refine⟨st,ev (f36 _ _ _) ?_⟩
 simp only[List.length_append,List.length_singleton,Nat.add_assoc]at h hb ⊢
 simp only[af hb]
 exact h
theorem LU:∀ a b:List Ty,bJ (a++b)=bJ a++bJ b:=fun a b=>by simp only[gJ,List.map_append]
theorem OI(d:De)(pc:List Co)(c:Co)(sc:List Co)(hcs:d.d.cs=pc++c::sc)(acc:List Ty)(H:DH)(hl:c.xs.length<2^62)(hok:∀ m,m<=acc.length+c.xs.length->aF Tryz.prog 144 m=true):∀ pre suf,c.xs=pre++suf ->
 ao de (ab de) 119 200009 [.lp 0 0,.g (.buf 2 H.length (acc++pre).length),.g (.int .i64 (pc.length:Nat)),.g (.int .i64 (pre.length:Nat))] [(0,bo d)] (H++[.buf 2 true false (bJ (acc++pre))])
  = ao de (ab de) 119 200006 [.lp 0 0,.g (.buf 2 H.length (acc++c.xs).length),.g (.int .i64 (IntKind.wrap .i64 ((pc.length:Int)+1)))] [(0,bo d)] (H++[.buf 2 true false (bJ (acc++c.xs))]):=by
 obtain⟨k,⟨dn,vs,cs⟩,n,⟨tn,ts⟩,fs,⟨ek,em,en,ea,xs,ps⟩⟩:=d
 obtain⟨cn,cx⟩:=c
 have hcs:cs=pc++⟨cn,cx⟩::sc:=hcs
 have hat:(cs.map gI)[pc.length]? = some (gI ⟨cn,cx⟩):=by rw[hcs];exact bO _ _ _ _
 intro pre suf
 induction suf generalizing pre with
 |nil =>
  intro e
  have e:cx=pre:=by simpa using e
  have hlt:decide (((pre.length:Nat):Int)<((pre.length:Nat):Int))=false:=by simp
  refine bg (uv _ _ _ _ _ _ _ _ _ _ _ _ _ _ _ _ _ _ _ _) ?_
  simp only[aI,ak hat,gI,am,ax,dc jF,bq,bV,e,hlt,au,cond_false,bo]
 |cons t suf ih =>
  intro e
  have e:cx=pre++t::suf:=e
  have hi:pre.length<cx.length:=by rw[e];simp
  have hd:decide ((pre.length:Int)<(cx.length:Int))=true:=by simp;exact hi
  have ht:(bJ cx)[pre.length]? = some (cN t):=by rw[e];exact fK _ _ _
  have ih:=ih (pre++[t]) (by show cx=_;rw[e];simp)
  have hlen:(bJ (acc++pre)).length=(acc++pre).length:=bq _
  have hl':(⟨cn,cx⟩:Co).xs.length=cx.length:=rfl
  have ha (e:List D) (κ:D->DH->ai):=Dg (ok:=aF Tryz.prog 144) (sz:=2) (l:=bJ (acc++pre)) (els:=[e]) (H:=H) (κ:=κ) (hok 1 (by simp only;omega)) (by rw[hlen];exact hok _ (by simp;omega))
  rw[hlen]at ha
  have hacc (o n:Nat) (G:DH) (κ:D->DH->ai):dl (.acc 2) 0 (.buf 2 o n) G κ=κ (.buf 2 o n) G:=rfl
  refine bg (uv _ _ _ _ _ _ _ _ _ _ _ _ _ _ _ _ _ _ _ _) ?_
  obtain⟨tn',tas⟩:=t
  simp only[cN]at ht
  simp only[aI,ak hat,gI,am,ax,dc jF,bq,bV,hd,au,cond_true,iq jF DQ ht,tw,yy,ha,hacc,aq (show pre.length<2^62 by simp only at hl;omega),List.length_singleton]
  simp only[<- List.append_assoc,List.length_append,List.length_singleton,LU,bJ,cN,bo]at ih ⊢
  exact ih
theorem nl:∀(a:List Co) (c:Co),bB (a++[c])=bB a++c.xs
 |[],c=>by simp[bB]
 |x::a,c=>by simp[bB,nl a c]
theorem Bl:∀(a:List Co) (b:List Co),(bB a).length<=(bB (a++b)).length
 |[],b=>by simp[bB]
 |x::a,b=>by have:=Bl a b;simp[bB];omega
theorem Le(d:De)(h:d.d.ok)(H:DH)(hok:∀ m,m<=(bB d.d.cs).length->aF Tryz.prog 144 m=true):∀ pre suf,d.d.cs=pre++suf ->
 ao de (ab de) 119 200006 [.lp 0 0,.g (.buf 2 H.length (bB pre).length),.g (.int .i64 (pre.length:Nat))] [(0,bo d)] (H++[.buf 2 true false (bJ (bB pre))])
  = ret (.row 2 (bJ (bB d.d.cs))) (H++[.buf 2 false false (bJ (bB d.d.cs))]):=by
 intro pre suf
 induction suf generalizing pre with
 |nil =>
  intro e
  have e:d.d.cs=pre:=by simpa using e
  obtain⟨k,⟨dn,vs,cs⟩,n,⟨tn,ts⟩,fs,⟨ek,em,en,ea,xs,ps⟩⟩:=d
  have e:cs=pre:=e
  subst e
  have hlt:decide (((cs.length:Nat):Int)<((cs.length:Nat):Int))=false:=by simp
  refine bg (uw _ _ _ _ _ _ _ _ _ _ _ _ _ _ _ _ _ _ _) ?_
  simp only[List.length_map,hlt,cond_false]
  have hlen:(bB cs).length=(bJ (bB cs)).length:=(bq _).symm
  rw[hlen,xo]
 |cons c suf ih =>
  intro e
  have ih:=ih (pre++[c]) (by rw[e];simp)
  have hc:=h.2.2 c (by rw[e];simp)
  have hle:=Bl (pre++[c]) suf
  rw[show pre++[c]++suf=d.d.cs by rw[e];simp,nl,List.length_append]at hle
  have w:=OI d pre c suf e (bB pre) H hc.1 (fun m hm=>hok m (by omega)) [] c.xs rfl
  have hi:pre.length<d.d.cs.length:=by rw[e];simp
  have h62:=h.2.1
  rw[aq (show pre.length<2^62 by omega),<- nl]at w
  simp only[List.length_append,List.length_singleton]at ih
  rw[ih]at w
  simp only[List.append_nil]at w
  rw[<- w]
  obtain⟨k,⟨dn,vs,cs⟩,n,⟨tn,ts⟩,fs,⟨ek,em,en,ea,xs,ps⟩⟩:=d
  have hd:decide ((pre.length:Int)<(cs.length:Int))=true:=by simp;exact hi
  refine bg (uw _ _ _ _ _ _ _ _ _ _ _ _ _ _ _ _ _ _ _) ?_
  simp only[List.length_map,hd,cond_true,bo,List.length_nil]
  rfl
theorem Ic(d:De)(H:DH)(h:d.ok)(hok:∀ m,m<=(bB d.d.cs).length->aF Tryz.prog 144 m=true):ab de (.call 119 [.agg (bo d)] none) H=ret (.row 2 (bJ (cO d))) H:=by
 have w:=Le d h.1 H hok [] d.d.cs rfl
 obtain⟨k,⟨dn,vs,cs⟩,n,⟨tn,ts⟩,fs,⟨ek,em,en,ea,xs,ps⟩⟩:=d
 have w:ao de (ab de) 119 200006 [.lp 0 0,.g (.buf 2 H.length 0),.g (.int .i64 0)] [(0,bo ⟨k,⟨dn,vs,cs⟩,n,.mk tn ts,fs,.mk ek em en ea xs ps⟩)] (H++[.buf 2 true false []])=_:=w
 simp only[bo]at w
 have hz (κ:D->DH->ai):eZ (.fz 2) (.buf 2 H.length 0) (H++[.buf 2 true false []]) κ=κ (.row 2 []) (H++[.buf 2 false false []]):=xo (l:=[])
 have hb (l:List Ty):D.bel H.length (.row 2 (bJ l)):=by simp only[D.bel];exact vL _ l
 have e1:bJ [.mk tn ts]=[[.str tn,.row 2 (bJ ts)]]:=by simp only[bJ,cN]
 refine ev (aaz _ _ _ _ _ _ _ _ _ _ _ _ _ _ _ _) ?_
 simp only[w,hz,<- e1,cO]
 have hk:k=1\/k=2\/((k==1)=false/\(k==2)=false):=by
  simp only[beq_eq_false_iff_ne];omega
 rcases hk with rfl|rfl|⟨k1,k2⟩
 ·exact rK (hb _)
 ·exact BB (hb _)
 ·simp only[k1,k2,cond_false]
  exact rK (hb [])
theorem ME(l:List De)(pc:List De)(d:De)(sc:List De)(hl:l=pc++d::sc)(h:d.ok)(hok:∀ m,m<=d.fs.length->aF Tryz.prog 86 m=true)(xs:List Ty)(hx:xs.length<2^62)(H:DH):∀ pre suf (a:Nat),xs=pre++suf->Ty.oks suf ->
 ao de (ab de) 64 200007 [.lp 0 0,.g (.int .i64 (a:Nat)),.g (.int .i64 (pc.length:Nat)),.g (.row 2 (bJ xs)),.g (.int .i64 (pre.length:Nat))] [(0,[.row 14 (l.map bo)])] H
  = ao de (ab de) 64 200012 [.lp 0 0,.g (.int .i64 (max a (ee suf 1):Nat)),.g (.int .i64 (pc.length:Nat)),.g (.row 6 (bI (cr d))),.g (.int .i64 0)] [(0,[.row 14 (l.map bo)])] H
 |pre,[],a,e,_=>by
  have e2:xs.length=pre.length:=by rw[e];simp
  have hat:(l.map bo)[pc.length]? = some (bo d):=by rw[hl];exact bO _ _ _ _
  have hq:=Jy d H h hok
  refine bg (xQ _ _ _ _ _ _ _) ?_
  generalize cr d=xx at hq ⊢
  obtain⟨k,⟨dn,vs,cs⟩,n,⟨tn,ts⟩,fs,⟨ek,em,en,ea,ex,ps⟩⟩:=d
  simp only[bo]at hq hat
  simp only[dc jF,bq,bV,e2,Int.lt_irrefl,decide_false,au,cond_false,aI,ak hat,am,ax,af hq,ee,Nat.max_zero]
 |pre,t::suf,a,e,ho=>by
  simp only[Ty.oks]at ho
  have hi:pre.length<xs.length:=by rw[e];simp
  have hd:decide ((pre.length:Int)<(xs.length:Int))=true:=by simp;exact hi
  have ht:(bJ xs)[pre.length]? = some (cN t):=by rw[e];exact fK _ _ _
  have h3:=OA t 1 H ho.1 (by omega)
  have h3:ab de (.call 120 [.agg (cN t),.int .i64 1] none) H=_:=h3
  have ih:=ME l pc d sc hl h hok xs hx H (pre++[t]) suf (max a (zJ t 1)) (by rw[e];simp) ho.2
  refine bg (xQ _ _ _ _ _ _ _) ?_
  rw[ee,<- Nat.max_assoc]
  generalize zJ t 1=q at h3 ih ⊢
  obtain⟨tn,tas⟩:=t
  simp only[cN]at h3 ht
  simp only[List.length_append,List.length_singleton]at ih
  simp only[dc jF,bq,bV,hd,au,cond_true,iq jF DQ ht,tw,af h3,tu,mF,tz,aq (show pre.length<2^62 by omega)]
  exact ih
theorem MF(l:List De)(ic:Nat)(xs:List Ex)(hx:xs.length<2^62)(H:DH):∀ pre suf (a:Nat),xs=pre++suf->Ex.oks suf ->
 ao de (ab de) 64 200012 [.lp 0 0,.g (.int .i64 (a:Nat)),.g (.int .i64 (ic:Nat)),.g (.row 6 (bI xs)),.g (.int .i64 (pre.length:Nat))] [(0,[.row 14 (l.map bo)])] H
  = ao de (ab de) 64 200003 [.lp 0 0,.g (.int .i64 (max a (gc suf 1):Nat)),.g (.int .i64 (IntKind.wrap .i64 ((ic:Int)+1)))] [(0,[.row 14 (l.map bo)])] H
 |pre,[],a,e,_=>by
  have e2:xs.length=pre.length:=by rw[e];simp
  refine bg (xP _ _ _ _ _ _ _) ?_
  simp only[dc Px,bD,bV,e2,Int.lt_irrefl,decide_false,au,cond_false,gc,Nat.max_zero]
 |pre,t::suf,a,e,ho=>by
  simp only[Ex.oks]at ho
  have hi:pre.length<xs.length:=by rw[e];simp
  have hd:decide ((pre.length:Int)<(xs.length:Int))=true:=by simp;exact hi
  have ht:(bI xs)[pre.length]? = some (bU t):=by rw[e];exact gH _ _ _
  have h3:=OC t 1 H ho.1 (by omega)
  have h3:ab de (.call 122 [.agg (bU t),.int .i64 1] none) H=_:=h3
  have ih:=MF l ic xs hx H (pre++[t]) suf (max a (zK t 1)) (by rw[e];simp) ho.2
  refine bg (xP _ _ _ _ _ _ _) ?_
  rw[gc,<- Nat.max_assoc]
  generalize zK t 1=q at h3 ih ⊢
  obtain⟨tk,tm,tn,ta,tas,tps⟩:=t
  simp only[bU]at h3 ht
  simp only[List.length_append,List.length_singleton]at ih
  simp only[dc Px,bD,bV,hd,au,cond_true,iq Px XO ht,NJ,af h3,tu,mF,tz,aq (show pre.length<2^62 by omega)]
  exact ih
theorem qR{d:De}(h:d.ok):Ex.oks (cr d)/\(cr d).length<2^62:=by
 obtain⟨k,dd,n,t,fs,b⟩:=d
 obtain⟨_,_,h3,h4,h5⟩:=h
 have h3:fs.length<2^62:=h3
 unfold cr
 simp only
 cases k==3<;>cases k==4<;>cases k==5<;>simp only[cond_true,cond_false]
 all_goals first
  |exact⟨Ex.oks_iff.mpr fun e he=>by simp only[List.mem_map]at he;obtain⟨f,hf,rfl⟩:=he;exact h4 f hf,by rw[List.length_map];exact h3⟩
  |exact⟨by simp only[Ex.oks,and_true];exact h5,by simp⟩
  |exact⟨by simp only[Ex.oks],by simp⟩
structure De.ok2(d:De):Prop where
 ok:d.ok
 fs:∀ m,m<=d.fs.length->aF Tryz.prog 86 m=true
 cs:∀ m,m<=(bB d.d.cs).length->aF Tryz.prog 144 m=true
 len:(bB d.d.cs).length<2^62
theorem Bk:∀ {l:List Co},(∀ c∈l,c.ok)->Ty.oks (bB l)
 |[],_=>by simp[bB,Ty.oks]
 |c::r,h=>by
  rw[bB,Ty.oks_iff]
  intro t ht
  rcases List.mem_append.mp ht with q|q
  ·exact Ty.oks_iff.mp (h c (List.mem_cons_self ..)).2 t q
  ·exact Ty.oks_iff.mp (Bk fun x hx=>h x (List.mem_cons_of_mem _ hx)) t q
theorem pQ{d:De}(h:d.ok2):Ty.oks (cO d)/\(cO d).length<2^62:=by
 unfold cO
 cases d.k==1<;>cases d.k==2<;>simp only[cond_true,cond_false]
 all_goals first
  |exact⟨Bk h.ok.1.2.2,h.len⟩
  |exact⟨by simp only[Ty.oks,and_true];exact h.ok.2.1,by simp⟩
  |exact⟨by simp only[Ty.oks],by simp⟩
theorem MG(l:List De)(hl:l.length<2^62)(H:DH):∀(pre suf:List De) (a:Nat),l=pre++suf->(∀ d∈suf,d.ok2) ->
 ao de (ab de) 64 200003 [.lp 0 0,.g (.int .i64 (a:Nat)),.g (.int .i64 (pre.length:Nat))] [(0,[.row 14 (l.map bo)])] H=ret (.int .i64 (max a (lG suf):Nat)) H
 |pre,[],a,e,_=>by
  have e2:l.length=pre.length:=by rw[e];simp
  refine bg (xR _ _ _ _ _) ?_
  simp only[List.length_map,e2,Int.lt_irrefl,decide_false,cond_false,lG,Nat.max_zero]
 |pre,d::suf,a,e,h=>by
  have hi:pre.length<l.length:=by rw[e];simp
  have hd:decide ((pre.length:Int)<(l.length:Int))=true:=by simp;exact hi
  have hat:(l.map bo)[pre.length]? = some (bo d):=by rw[e];exact bO _ _ _ _
  have ho:=h d (List.mem_cons_self ..)
  have ht:=Ic d H ho.ok ho.cs
  have w1:=ME l pre d suf e ho.ok ho.fs (cO d) (pQ ho).2 H [] (cO d) a rfl (pQ ho).1
  have w1:ao de (ab de) 64 200007 [.lp 0 0,.g (.int .i64 (a:Nat)),.g (.int .i64 (pre.length:Nat)),.g (.row 2 (bJ (cO d))),.g (.int .i64 0)] [(0,[.row 14 (l.map bo)])] H=_:=w1
  have w2:=MF l pre.length (cr d) (qR ho.ok).2 H [] (cr d) (max a (ee (cO d) 1)) rfl (qR ho.ok).1
  have ih:=MG l hl H (pre++[d]) suf (max (max a (ee (cO d) 1)) (gc (cr d) 1)) (by rw[e];simp) (fun x hx=>h x (List.mem_cons_of_mem _ hx))
  simp only[List.length_append,List.length_singleton]at ih
  rw[aq (show pre.length<2^62 by omega),ih]at w2
  have w3:=w1.trans w2
  rw[lG,Lc,<- Nat.max_assoc,<- Nat.max_assoc]
  refine bg (xR _ _ _ _ _) ?_
  generalize cO d=tt at ht w3 ⊢
  generalize cr d=xx at w3 ⊢
  obtain⟨k,⟨dn,vs,cs⟩,n,⟨tn,ts⟩,fs,⟨ek,em,en,ea,ex,ps⟩⟩:=d
  simp only[bo]at hat ht
  simp only[List.length_map,hd,cond_true,aI,ak hat,am,ax,af ht]
  exact w3
theorem Rw(l:List De)(hl:l.length<2^62)(h:∀ d∈l,d.ok2)(H:DH):ab de (.call 64 [.agg [.row 14 (l.map bo)]] none) H=ret (.int .i64 (lG l:Nat)) H:=by
 have w:=MG l hl H [] l 0 rfl h
 refine ev (f64 _ _ _) ?_
 rw[Nat.zero_max]at w
 exact w
theorem OK(l:List De)(pc:List De)(d:De)(sc:List De)(hl:l=pc++d::sc)(h:d.ok)(hok:∀ m,m<=d.fs.length->aF Tryz.prog 86 m=true)(xs:List Ty)(hx:xs.length<2^62)(H:DH):∀ pre suf (a:Nat),xs=pre++suf->Ty.oks suf->a<=2001 ->
 ao de (ab de) 65 200007 [.lp 0 0,.g (.int .i64 (a:Nat)),.g (.int .i64 (pc.length:Nat)),.g (.row 2 (bJ xs)),.g (.int .i64 (pre.length:Nat))] [(0,[.row 14 (l.map bo)])] H
  = ao de (ab de) 65 200012 [.lp 0 0,.g (.int .i64 (min (a+ct suf 1) 2001:Nat)),.g (.int .i64 (pc.length:Nat)),.g (.row 6 (bI (cr d))),.g (.int .i64 0)] [(0,[.row 14 (l.map bo)])] H
 |pre,[],a,e,_,ha=>by
  have e2:xs.length=pre.length:=by rw[e];simp
  have hat:(l.map bo)[pc.length]? = some (bo d):=by rw[hl];exact bO _ _ _ _
  have hq:=Jy d H h hok
  refine bg (xN _ _ _ _ _ _ _) ?_
  generalize cr d=xx at hq ⊢
  obtain⟨k,⟨dn,vs,cs⟩,n,⟨tn,ts⟩,fs,⟨ek,em,en,ea,ex,ps⟩⟩:=d
  simp only[bo]at hq hat
  simp only[dc jF,bq,bV,e2,Int.lt_irrefl,decide_false,au,cond_false,aI,ak hat,am,ax,af hq,ct,show min (a+0) 2001=a by omega]
 |pre,t::suf,a,e,ho,ha=>by
  simp only[Ty.oks]at ho
  have hi:pre.length<xs.length:=by rw[e];simp
  have hd:decide ((pre.length:Int)<(xs.length:Int))=true:=by simp;exact hi
  have ht:(bJ xs)[pre.length]? = some (cN t):=by rw[e];exact fK _ _ _
  have h3:=Mm t 1 a H ho.1 (by omega) ha
  have h3:ab de (.call 123 [.agg (cN t),.int .i64 1,.int .i64 (a:Nat)] none) H=_:=h3
  have ih:=OK l pc d sc hl h hok xs hx H (pre++[t]) suf (min (a+wU t 1) 2001) (by rw[e];simp) ho.2 (by omega)
  refine bg (xN _ _ _ _ _ _ _) ?_
  rw[ct,show min (a+(wU t 1+ct suf 1)) 2001=min (min (a+wU t 1) 2001+ct suf 1) 2001 by omega]
  generalize wU t 1=q at h3 ih ⊢
  obtain⟨tn,tas⟩:=t
  simp only[cN]at h3 ht
  simp only[List.length_append,List.length_singleton]at ih
  simp only[dc jF,bq,bV,hd,au,cond_true,iq jF DQ ht,tw,af h3,aq (show pre.length<2^62 by omega)]
  exact ih
theorem OL(l:List De)(ic:Nat)(xs:List Ex)(hx:xs.length<2^62)(H:DH):∀ pre suf (a:Nat),xs=pre++suf->Ex.oks suf->a<=2001 ->
 ao de (ab de) 65 200012 [.lp 0 0,.g (.int .i64 (a:Nat)),.g (.int .i64 (ic:Nat)),.g (.row 6 (bI xs)),.g (.int .i64 (pre.length:Nat))] [(0,[.row 14 (l.map bo)])] H
  = ao de (ab de) 65 200003 [.lp 0 0,.g (.int .i64 (min (a+dM suf 1) 2001:Nat)),.g (.int .i64 (IntKind.wrap .i64 ((ic:Int)+1)))] [(0,[.row 14 (l.map bo)])] H
 |pre,[],a,e,_,ha=>by
  have e2:xs.length=pre.length:=by rw[e];simp
  refine bg (xM _ _ _ _ _ _ _) ?_
  simp only[dc Px,bD,bV,e2,Int.lt_irrefl,decide_false,au,cond_false,dM,show min (a+0) 2001=a by omega]
 |pre,t::suf,a,e,ho,ha=>by
  simp only[Ex.oks]at ho
  have hi:pre.length<xs.length:=by rw[e];simp
  have hd:decide ((pre.length:Int)<(xs.length:Int))=true:=by simp;exact hi
  have ht:(bI xs)[pre.length]? = some (bU t):=by rw[e];exact gH _ _ _
  have h3:=Mo t 1 a H ho.1 (by omega) ha
  have h3:ab de (.call 124 [.agg (bU t),.int .i64 1,.int .i64 (a:Nat)] none) H=_:=h3
  have ih:=OL l ic xs hx H (pre++[t]) suf (min (a+uM t 1) 2001) (by rw[e];simp) ho.2 (by omega)
  refine bg (xM _ _ _ _ _ _ _) ?_
  rw[dM,show min (a+(uM t 1+dM suf 1)) 2001=min (min (a+uM t 1) 2001+dM suf 1) 2001 by omega]
  generalize uM t 1=q at h3 ih ⊢
  obtain⟨tk,tm,tn,ta,tas,tps⟩:=t
  simp only[bU]at h3 ht
  simp only[List.length_append,List.length_singleton]at ih
  simp only[dc Px,bD,bV,hd,au,cond_true,iq Px XO ht,NJ,af h3,aq (show pre.length<2^62 by omega)]
  exact ih
theorem OM(l:List De)(hl:l.length<2^62)(H:DH):∀(pre suf:List De) (a:Nat),l=pre++suf->(∀ d∈suf,d.ok2)->a<=2001 ->
 ao de (ab de) 65 200003 [.lp 0 0,.g (.int .i64 (a:Nat)),.g (.int .i64 (pre.length:Nat))] [(0,[.row 14 (l.map bo)])] H=ret (.int .i64 (min (a+gk suf) 2001:Nat)) H
 |pre,[],a,e,_,ha=>by
  have e2:l.length=pre.length:=by rw[e];simp
  refine bg (xO _ _ _ _ _) ?_
  simp only[List.length_map,e2,Int.lt_irrefl,decide_false,cond_false,gk,show min (a+0) 2001=a by omega]
 |pre,d::suf,a,e,h,ha=>by
  have hi:pre.length<l.length:=by rw[e];simp
  have hd:decide ((pre.length:Int)<(l.length:Int))=true:=by simp;exact hi
  have hat:(l.map bo)[pre.length]? = some (bo d):=by rw[e];exact bO _ _ _ _
  have ho:=h d (List.mem_cons_self ..)
  have ht:=Ic d H ho.ok ho.cs
  have w1:=OK l pre d suf e ho.ok ho.fs (cO d) (pQ ho).2 H [] (cO d) a rfl (pQ ho).1 ha
  have w1:ao de (ab de) 65 200007 [.lp 0 0,.g (.int .i64 (a:Nat)),.g (.int .i64 (pre.length:Nat)),.g (.row 2 (bJ (cO d))),.g (.int .i64 0)] [(0,[.row 14 (l.map bo)])] H=_:=w1
  have w2:=OL l pre.length (cr d) (qR ho.ok).2 H [] (cr d) (min (a+ct (cO d) 1) 2001) rfl (qR ho.ok).1 (by omega)
  have ih:=OM l hl H (pre++[d]) suf (min (min (a+ct (cO d) 1) 2001+dM (cr d) 1) 2001) (by rw[e];simp) (fun x hx=>h x (List.mem_cons_of_mem _ hx)) (by omega)
  simp only[List.length_append,List.length_singleton]at ih
  rw[aq (show pre.length<2^62 by omega),ih]at w2
  have w3:=w1.trans w2
  rw[gk,Hj,show min (a+(ct (cO d) 1+dM (cr d) 1+gk suf)) 2001=min (min (min (a+ct (cO d) 1) 2001+dM (cr d) 1) 2001+gk suf) 2001 by omega]
  refine bg (xO _ _ _ _ _) ?_
  generalize cO d=tt at ht w3 ⊢
  generalize cr d=xx at w3 ⊢
  obtain⟨k,⟨dn,vs,cs⟩,n,⟨tn,ts⟩,fs,⟨ek,em,en,ea,ex,ps⟩⟩:=d
  simp only[bo]at hat ht
  simp only[List.length_map,hd,cond_true,aI,ak hat,am,ax,af ht]
  cases hq2:decide (a<=2000)with
  |false =>
   have hc2:¬ a<=2000:=by simpa using hq2
   simp only[AM,hq2,cond_false,show min (min (min (a+ct tt 1) 2001+dM xx 1) 2001+gk suf) 2001=a by omega]
  |true =>
   simp only[AM,hq2,cond_true]
   exact w3
theorem To(l:List De)(hl:l.length<2^62)(h:∀ d∈l,d.ok2)(H:DH):ab de (.call 65 [.agg [.row 14 (l.map bo)]] none) H=ret (.int .i64 (min (gk l) 2001:Nat)) H:=by
 have w:=OM l hl H [] l 0 rfl h (by omega)
 refine ev (f65 _ _ _) ?_
 rw[Nat.zero_add]at w
 exact w
variable{kind:List Nat->Int}(K:SY kind)
theorem NA(d s:Nat)(H:DH):ab de (.call 63 [.int .i64 (d:Nat),.int .i64 (s:Nat)] none) H=ret (.int .i64 (bif decide (d>100)then 6 else bif decide (s>2000)then 2 else 0)) H:=by
 refine ev (f63 _ _ _ _) ?_
 simp only[Cv,AN]
 cases decide (d>100)<;>cases decide (s>2000)<;>rfl
theorem PV(v:Int)(q:Bool)(H:DH):ab de (.call 66 [.int .i64 v,.bool q] none) H=ret (.int .i64 (bif v==0 then(bif q then 0 else 21)else v)) H:=by
 refine ev (f66 _ _ _ _) ?_
 cases hv:v==0<;>cases q<;>simp_all
include K
theorem AR(l:List De)(hl:l.length<2^62)(H:DH):∀(pre suf:List De) (v:Int),l=pre++suf->(∀ d∈suf,d.ok) ->
 ao de (ab de) 35 200005 [.lp 0 0,.g (.int .i64 v),.g (.int .i64 (pre.length:Nat))] [(0,[.row 14 (l.map bo)])] H=ret (.int .i64 (bif v==0 then(bif suf.all (eK kind)then 0 else 21)else v)) H
 |pre,[],v,e,_=>by
  have e2:l.length=pre.length:=by rw[e];simp
  refine bg (xS _ _ _ _ _) ?_
  simp only[List.length_map,e2,Int.lt_irrefl,decide_false,cond_false,List.all_nil,cond_true]
  cases hv:v==0<;>simp_all
 |pre,d::suf,v,e,h=>by
  have hi:pre.length<l.length:=by rw[e];simp
  have hd:decide ((pre.length:Int)<(l.length:Int))=true:=by simp;exact hi
  have hat:(l.map bo)[pre.length]? = some (bo d):=by rw[e];exact bO _ _ _ _
  have h1:=EM K d H (h d (List.mem_cons_self ..))
  have ih:=AR l hl H (pre++[d]) suf (bif v==0 then(bif eK kind d then 0 else 21)else v) (by rw[e];simp) (fun x hx=>h x (List.mem_cons_of_mem _ hx))
  simp only[List.length_append,List.length_singleton]at ih
  refine bg (xS _ _ _ _ _) ?_
  rw[List.all_cons]
  generalize eK kind d=q at h1 ih ⊢
  generalize suf.all (eK kind)=r at ih ⊢
  obtain⟨k,⟨dn,vs,cs⟩,n,⟨tn,ts⟩,fs,⟨ek,em,en,ea,ex,ps⟩⟩:=d
  simp only[bo]at hat h1
  cases hv:v==0 with
  |false=>simp only[List.length_map,hd,cond_true,cond_false]
  |true =>
   simp only[hv,cond_true]at ih
   simp only[List.length_map,hd,cond_true,aI,ak hat,am,ax,af h1,af (PV _ _ _),hv,aq (show pre.length<2^62 by omega),ih]
   cases q<;>cases r<;>rfl
theorem RF(l:List De)(hl:l.length<2^62)(h:∀ x∈l,x.ok2)(H:DH):ab de (.call 35 [.agg [.row 14 (l.map bo)]] none) H=ret (.int .i64 (bX kind l)) H:=by
 refine ev (f35 _ _ _) ?_
 have hm:decide (min (gk l) 2001>2000)=decide (gk l>2000):=by rw[Bool.eq_iff_iff];simp;omega
 have w (v:Int):ao de (ab de) 35 200005 [.lp 0 0,.g (.int .i64 v),.g (.int .i64 0)] [(0,[.row 14 (l.map bo)])] H=_:=AR K l hl H [] l v rfl (fun x hx=>(h x hx).ok)
 simp only[dq (Rw l hl h H),dq (To l hl h H),dq (NA _ _ H),List.length_map,NY,bL,au,hm,w,bX]
 cases decide (lG l>100)<;>cases decide (l.length>60)<;>cases decide (gk l>2000)<;>cases l.all (eK kind)<;>rfl
end Go.Proofs.YtpghiabjaglpgaaGreatDoor
namespace Go.Proofs.YtpghiabjaglpgaaGreatDoor
open Go.AI
def SI(d f:Int)(p:List Int)(x:Fn):Bool:=x.d==d&&(x.f==f&&(x.p.map fun n:Nat=>(n:Int))==p)
def Kw(d f:Int)(p:List Int):Nat->List Fn->D
 |_,[]=>.tuple [.int .i64 0,.int .i64 3]
 |i,x::r=>bif SI d f p x then .tuple [.int .i64 (i:Nat),.int .i64 0] else Kw d f p (i+1) r
theorem WV(o n i:Nat)(κ:D->ai):aJ Tryz.prog 90 (.buf 12 o n) (.int .i64 (i:Nat)) κ=boK (Nat.blt i n) (κ (.bptr o n i 0)):=by kernel_rfl
theorem SG(a b c d e f g h i j k l:D)(κ:D->ai):cZ Tryz.prog 27 [a,b,c,d,e,f,g,h,i,j,k,l] 6 κ=κ (.agg [g,h,i]):=by kernel_rfl
theorem El(H0:DH)(st:Nat)(G:Rf)(d f:Int)(p:List Int)(hn:G.ns.length<2^61)(hp:∀ x∈G.ns,x.p.length<2^61):∀(suf pre:List Fn),G.ns=pre++suf ->
 ao de (ab de) 11 200006 [.lp 1 0,.g (.buf 12 H0.length G.ns.length),.g (.int .i64 (pre.length:Nat))] [(0,[]),(0,[.int .i64 d,.int .i64 f,.row 1 (iC p)])] (RX H0 st G)=ret (Kw d f p pre.length suf) (RX H0 st G)
 |[],pre,e=>by
  refine bg (xZ _ _ _ _ _ _ _) ?_
  have:G.ns.length=pre.length:=by rw[e];simp
  simp only[Ew,bV,this,Int.lt_irrefl,decide_false,au,cond_false,Kw]
 |x::suf,pre,e=>by
  have hi:pre.length<G.ns.length:=by rw[e];simp
  have hid:decide ((pre.length:Int)<(G.ns.length:Nat))=true:=decide_eq_true (by omega)
  have ih:=El H0 st G d f p hn hp suf (pre++[x]) (by rw[e];simp)
  simp only[List.length_append,List.length_singleton]at ih
  have hat:(G.ns.map ma)[pre.length]? = some (ma x):=by rw[e];simp
  have b1:∀ κ:Nat->Bool->Bool->List (List D)->ai,eD (RX H0 st G) H0.length G.ns.length κ=κ 12 true false (G.ns.map ma):=fun κ=>by
   have:=cq (κ:=κ) (Tr H0 st G)
   rw[List.length_map]at this;exact this
  have hx:=hp x (by rw[e];simp)
  obtain⟨⟨k,m,n,a,xs,ps⟩,xd,xf,xp,xb,xz,xr⟩:=x
  have he:=JW xd xf d f (xp.map fun n:Nat=>(n:Int)) p (by simpa using hx) (RX H0 st G)
  refine bg (xZ _ _ _ _ _ _ _) ?_
  simp only[Ew,bV,hid,au,cond_true,WV,Br hi,boK,Bb,Nat.zero_add,NI,b1,ak hat,ma,SG,SB,dq he,aq (show pre.length<2^62 by omega),ih]
  simp only[Kw,SI]
  cases xd==d<;>cases xf==f<;>cases ((xp.map fun n:Nat=>(n:Int))==p)<;>rfl
def LF(x:Nd):Int×Int×List Nat:=(x.d,x.f,x.p)
def Oj(x:Fn):Int×Int×List Nat:=(x.d,x.f,x.p)
mutual
theorem TF(d f b:Int)(fn:Bool):∀(e:Ex) (n:Nat) (p par:List Nat),(wy d f b n p e).map LF=(iZ d f fn p par e).map Oj
 |.mk k m nm a xs ps,n,p,par=>by
  rw[wy,iZ,List.map_cons,List.map_cons,Sw d f b fn xs (n+1) p 0 k a]
  rfl
theorem Sw(d f b:Int)(fn:Bool):∀(l:List Ex) (n:Nat) (p:List Nat) (i:Nat) (k:Int) (a:List Nat),(jt d f b n p i l).map LF=(fW d f fn p k a i l).map Oj
 |[],_,_,_,_,_=>by simp[jt,fW]
 |x::r,n,p,i,k,a=>by
  rw[jt,fW,List.map_append,List.map_append,TF d f b fn x n (p++[i]),Sw d f b fn r _ p (i+1) k a]
end
def Yp(x:Bd):List (Int×Int×List Nat):=(iZ (x.i:Nat) (x.j:Nat) x.fn [] x.par x.e).map Oj
def oi:List Bd->List (Int×Int×List Nat)
 |[]=>[]
 |x::r=>Yp x++oi r
theorem Ed:∀ a b:List Bd,oi (a++b)=oi a++oi b
 |[],b=>rfl
 |x::a,b=>by rw[List.cons_append,oi,oi,Ed a b,List.append_assoc]
theorem Ea:∀(l:List Bd) (G:Rf),(G.addXs l).ns.map Oj=G.ns.map Oj++oi l
 |[],G=>by simp[Rf.addXs,oi]
 |x::r,G=>by
  rw[Rf.addXs,Ea r]
  have:((G.addH x).addB x).ns=G.ns++iZ (x.i:Nat) (x.j:Nat) x.fn [] x.par x.e:=by
   have:=(Kd G x).2.2.1
   simp only[Rf.addB,this]
  rw[this,List.map_append,List.append_assoc];rfl
theorem Eb(i:Nat)(kd:Int):∀(l:List Fu) (k:Nat) (G:Pg),(G.addFs i kd k l).ns.map LF=G.ns.map LF++oi (pH i k l)
 |[],k,G=>by simp[Pg.addFs,pH,oi]
 |f::r,k,G=>by
  rw[Pg.addFs,Eb i kd r,pH,oi]
  simp only[Pg.addF,Pg.addB,List.map_append,List.append_assoc,Yp]
  rw[TF _ _ _ true f.b _ [] f.a]
theorem Qk(i:Nat)(d:De)(G:Pg):(G.addD i d).ns.map LF=G.ns.map LF++oi (Gf i d):=by
 unfold Pg.addD Gf
 split
 ·exact Eb ..
 ·split
  ·simp only[Pg.addR,Pg.addB,List.map_append,oi,Yp,List.append_nil]
   rw[TF _ _ _ false d.b _ [] []]
   rfl
  ·simp[oi]
theorem Ec:∀(l:List De) (i:Nat) (G:Pg),(G.addDs i l).ns.map LF=G.ns.map LF++oi (lM i l)
 |[],_,G=>by simp[Pg.addDs,lM,oi]
 |d::r,i,G=>by
  rw[Pg.addDs,Ec r,Qk,lM,Ed,List.append_assoc]
theorem li(l:List De):(eu l).ns.map LF=(Ae l).ns.map Oj:=by
 have h1:=Ec l 0 ⟨l,[],[],[],[],[]⟩
 have h2:=Ea (lM 0 l) ⟨l,[],[],[],[],[]⟩
 exact h1.trans h2.symm
def Ni(d f:Int)(p:List Int):Nat->List (Int×Int×List Nat)->D
 |_,[]=>.tuple [.int .i64 0,.int .i64 3]
 |i,x::r=>bif x.1==d&&(x.2.1==f&&(x.2.2.map fun n:Nat=>(n:Int))==p)then .tuple [.int .i64 (i:Nat),.int .i64 0] else Ni d f p (i+1) r
theorem Nh(d f:Int)(p:List Int):∀(l:List Nd) (i:Nat),Ei d f p i l=Ni d f p i (l.map LF)
 |[],_=>rfl
 |x::r,i=>by rw[Ei,List.map_cons,Ni,Nh d f p r];rfl
theorem Nj(d f:Int)(p:List Int):∀(l:List Fn) (i:Nat),Kw d f p i l=Ni d f p i (l.map Oj)
 |[],_=>rfl
 |x::r,i=>by rw[Kw,List.map_cons,Ni,Nj d f p r];rfl
theorem VV(l:List De):∀ x∈(Ae l).ns,x.p.length<=lX l:=by
 intro x hx
 have h:=List.mem_map_of_mem (f:=Oj) hx
 rw[<- li]at h
 obtain⟨y,hy,e⟩:=List.mem_map.1 h
 have:=BY l y hy
 have e2:y.p=x.p:=congrArg (fun z=>z.2.2) e
 rw[<- e2];exact this
theorem MB(l:List De):(Ae l).ns.length=lX l:=by
 rw[<- qk,<- List.length_map (f:=Oj),<- li,List.length_map]
theorem SE(o c:Nat)(H:DH)(κ:D->ai):eC Tryz.prog 90 (.ptr o c) H κ=aA H o fun _ cs=>ah cs c κ:=by kernel_rfl
theorem Ws(l:List De)(hl:l.length<2^61)(ho:∀ x∈l,x.ok)(hc:∀ H,ab de (.call 35 [.agg [.row 14 (l.map bo)]] none) H=ret (.int .i64 (bX cl l)) H)(d f:Int)(p:List Int)(H:DH) :
 ∃ X,ab de (.call 11 [.agg [.row 14 (l.map bo)],.agg [.int .i64 d,.int .i64 f,.row 1 (iC p)]] none) H=ret (Kv cl l d f p) (H++X):=by
 unfold Kv
 cases hz:bX cl l != 0 with
 |true =>
  refine⟨[],ev (f11 _ _ _ _ _ _) ?_⟩
  simp only[af (hc H),dj,au,hz,cond_true,List.append_nil]
 |false =>
  obtain⟨h1,h2,h3⟩:=qo (show bX cl l=0 by simpa using hz)
  obtain⟨st,h⟩:=Wp l hl ho (fun d hd=>(h1 d hd).fl) h2 h3 H
  have hn:=El H st (Ae l) d f p (by rw[MB];omega) (fun x hx=>by have:=VV l x hx;omega) (Ae l).ns [] rfl
  rw[Nj,<- li,<- Nh]at hn
  refine⟨RL H.length st (Ae l),ev (f11 _ _ _ _ _ _) ?_⟩
  simp only[af (hc H),dj,au,hz,cond_false,af h,Bm,Ba,SE,ac (uK _ _ _),am,ax]
  exact hn
theorem TE(l:List De)(hl:l.length<2^61)(ho:∀ x∈l,x.ok)(hc:∀ H,ab de (.call 35 [.agg [.row 14 (l.map bo)]] none) H=ret (.int .i64 (bX cl l)) H)(i:Int)(H:DH) :
 ∃ X,ab de (.call 13 [.agg [.row 14 (l.map bo)],.int .i64 i] none) H=ret (TG cl l i) (H++X):=by
 unfold TG
 cases hz:bX cl l != 0 with
 |true =>
  refine⟨[],ev (f13 _ _ _ _) ?_⟩
  simp only[af (hc H),dj,au,hz,cond_true,List.append_nil,Nm]
 |false =>
  obtain⟨h1,h2,h3⟩:=qo (show bX cl l=0 by simpa using hz)
  obtain⟨st,h⟩:=Wp l hl ho (fun d hd=>(h1 d hd).fl) h2 h3 H
  refine⟨RL H.length st (Ae l),ev (f13 _ _ _ _) ?_⟩
  rw[XP]
  simp only[af (hc H),dj,eY,au,hz,cond_false,af h,Bm,Ba,SE,ac (uK _ _ _),am,ax,Ew]
  cases h0:decide (i<0)with
  |true=>rfl
  |false =>
   have hi:0<=i:=by have:=of_decide_eq_false h0;omega
   obtain⟨n,rfl⟩:=Int.eq_ofNat_of_zero_le hi
   have hlen:(eu l).ns.length=(Ae l).ns.length:=by rw[MB,qk]
   simp only[cond_false,Int.toNat_natCast]
   by_cases hn:n<(Ae l).ns.length
   ·rw[decide_eq_false (show ¬((n:Int)>=((Ae l).ns.length:Nat))by omega),cond_false,List.getElem?_eq_getElem (by omega)]
    have hat:((Ae l).ns.map ma)[n]? = some (ma (Ae l).ns[n]):=by rw[List.getElem?_map,List.getElem?_eq_getElem hn];rfl
    have b1:∀ κ:Nat->Bool->Bool->List (List D)->ai,eD (RX H st (Ae l)) H.length (Ae l).ns.length κ=κ 12 true false ((Ae l).ns.map ma):=fun κ=>by
     have:=cq (κ:=κ) (Tr H st (Ae l))
     rw[List.length_map]at this;exact this
    have hpl:LF ((eu l).ns[n]'(by omega))=Oj (Ae l).ns[n]:=by
     have:=congrArg (fun z=>z[n]?) (li l)
     simp only[List.getElem?_map]at this
     rw[List.getElem?_eq_getElem (by omega),List.getElem?_eq_getElem hn]at this
     exact Option.some.inj this
    generalize(eu l).ns[n]'(by omega)=y at hpl ⊢
    generalize(Ae l).ns[n]=x at hat hpl
    obtain⟨⟨k,m,nm,a,xs,ps⟩,xd,xf,xp,xb,xz,xr⟩:=x
    obtain⟨ye,yd,yf,yp,yb,yr⟩:=y
    simp only[LF,Oj,Prod.mk.injEq]at hpl
    obtain⟨rfl,rfl,rfl⟩:=hpl
    simp only[WV,Br hn,boK,cond_true,Bb,Nat.zero_add,NI,b1,ak hat,ma,SG,VD,XQ,am,ax]
    rfl
   ·rw[decide_eq_true (show(n:Int)>=((Ae l).ns.length:Nat)by omega),cond_true,List.getElem?_eq_none (by omega)]
    rfl
end Go.Proofs.YtpghiabjaglpgaaGreatDoor
