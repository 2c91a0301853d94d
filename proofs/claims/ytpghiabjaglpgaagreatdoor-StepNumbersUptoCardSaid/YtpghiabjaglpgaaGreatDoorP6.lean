/- What the functions answer, in deep values: part 6. No conditions beyond those of the row. -/
import Derived.Test.YtpghiabjaglpgaaGreatDoorP5
set_option linter.all false
noncomputable section
namespace Go.Proofs.YtpghiabjaglpgaaGreatDoor
open Go.AI
variable{l:List Nat}{K p A B bx y m oc:Nat}
def Vr(T:List (List D)):Prop:=∀ cs r,T=cs::r->∃(k v:Int) (t:List Nat) (a:Int),cs=[.int .i64 k,.int .i64 v,.str t,.int .i64 a]
theorem Gd.f{at2:Nat}{T:List (List D)}(h0:at2=l.length->T=[])(hF:Gd l at2 T)(h1:at2<=l.length):Vr T:=fun cs r e=>by
 rcases Nat.lt_or_ge at2 l.length with q|q
 ·obtain⟨k,v,n,r',h,_⟩:=hF q
  rw[e]at h;cases h
  exact⟨_,_,_,_,rfl⟩
 ·rw[h0 (by omega)]at e;cases e
theorem PG(hl:l.length<=24)(kp:K<=p)(ko:K<=oc){H:DH}(hS:Gg H p l 0 m oc [])(hT:TA K H l p A B bx y []) :
 (∃ H2 T,ab de (.call 324 [.yld (y+1),.ptr bx 0] none) H=ret (.tuple []) H2/\TA K H2 l p A B bx y T/\rF l (kf l T)/\Kp K H H2/\Vr T) \/
 (∃(a e:Int) (H2:DH) (T:List (List D)),e≠0/\ab de (.call 324 [.yld (y+1),.ptr bx 0] none) H=pan (wr a e) H2/\TA K H2 l p A B bx y T/\rF l 0/\Kp K H H2):=by
 rw[show ab de (.call 324 [.yld (y+1),.ptr bx 0] none) H=_ from ev (Zi _ _ _ _) rfl]
 obtain⟨sb,hb⟩:=hT.hb
 simp only[ac hb,am]
 rcases IQ hl (Nat.zero_le _) (by simp;omega) hS with⟨at2,c2,H2,j1,j2,j3,j4,j5,j6,j7,j8⟩|⟨a,e,H2,j1,j2,j3,j4⟩
 ·have hT2:=hT.fr hS.hc j6 (by obtain⟨st,h⟩:=hS.hp;exact⟨_,_,h⟩)
  rw[af j1]
  rcases zT hl kp ko _ at2 H2 c2 [] rfl j4 j5 (by simp;omega) j2 hT2 with⟨H3,r,i1,i2,i3,i4,i5⟩|⟨a,e,H3,T,i1,i2,i3,i4,i5⟩
  ·exact .inl ⟨H3,r,i1,i2,NO hl i3 i4 j4 j7 j8,(Kp.of j6 kp ko).trans i5,Gd.f i3 i4 j4⟩
  ·refine .inr ⟨a,e,H3,T,i1,i2,i3,Ey hl ?_,(Kp.of j6 kp ko).trans i5⟩
   by_cases hs:skip l 0
   ·exact .inl hs
   ·rw[j7 hs]at i4;exact .inr i4
 ·rw[yY j2]
  exact .inr ⟨a,e,H2,[],j1,rfl,hT.fr hS.hc j3 (by obtain⟨st,h⟩:=hS.hp;exact⟨_,_,h⟩),Ey hl (.inl j4),Kp.of j3 kp ko⟩
theorem Ub(s o n:Nat)(H:DH)(κ:D->ai):bY Tryz.prog 200 (.buf s o n) H κ=κ (.int .i64 (n:Int)):=by kernel_rfl
theorem QO(H:DH)(κ:D->ai):bY Tryz.prog 200 .nilrow H κ=κ (.int .i64 0):=by kernel_rfl
theorem WW(o n i:Nat)(κ:D->ai):aJ Tryz.prog 200 (.buf 4 o n) (.int .i64 (i:Nat)) κ=boK (Nat.blt i n) (κ (.bptr o n i 0)):=by kernel_rfl
theorem Bb(o n i c k:Nat)(κ:D->ai):dw (.bptr o n i c) k κ=κ (.bptr o n i (c+k)):=rfl
theorem Wz(o n i c:Nat)(H:DH)(κ:D->ai):eC Tryz.prog 3 (.bptr o n i c) H κ=eD H o n fun _ _ _ l=>bC l i fun cs=>ah cs c κ:=by kernel_rfl
theorem Wx(o n i c:Nat)(H:DH)(κ:D->ai):eC Tryz.prog 9 (.bptr o n i c) H κ=eD H o n fun _ _ _ l=>bC l i fun cs=>ah cs c κ:=by kernel_rfl
def aaP(H:DH)(v:D)(T:List (List D)):Prop:=(T=[]/\v=.nilrow)\/(T≠[]/\∃ X,v=.buf 4 X T.length/\H[X]? = some (DB.buf 4 true false T))
theorem Gw(hl:l.length<=24)(H:DH):∃(H2:DH) (d v:D) (a e:Int) (T:List (List D)),ab de (.call 233 [.str l] none) H=ret (.tuple [d,v,.agg [.int .i64 a,.int .i64 e]]) H2/\aaP H2 v T/\rF l (if e=0 then kf l T else 0)/\Kp H.length H H2/\Vr T:=by
 rw[show ab de (.call 233 [.str l] none) H=_ from ev (ZQ _ _ _) rfl]
 have hA0:=aj (.cells 0 [.int .i64 0,.int .i64 0]) (aY H (.cells 0 [.nilrow]))
 have hB0:=aY (H++[DB.cells 0 [.nilrow]]) (.cells 0 [.int .i64 0,.int .i64 0])
 have hl1:(H++[DB.cells 0 [.nilrow]]).length=H.length+1:=by simp
 dsimp only
 rw[hl1]at hB0 ⊢
 have k0:Kp H.length H (H++[DB.cells 0 [.nilrow]]++[DB.cells 0 [.int .i64 0,.int .i64 0]]):=fun o b _ h=>aj _ (aj _ h)
 have hl2:(H++[DB.cells 0 [.nilrow]]++[DB.cells 0 [.int .i64 0,.int .i64 0]]).length=H.length+2:=by simp
 generalize H++[DB.cells 0 [.nilrow]]++[DB.cells 0 [.int .i64 0,.int .i64 0]]=H1 at hA0 hB0 k0 hl2 ⊢
 obtain⟨H2,e1,hS,kS⟩:=TP l H1
 rw[af e1]
 rw[hl2]at hS
 have e2:ab de (.call 292 [.ptr (H1.length+2) 0] none) H2=ret (.func 324 [] [.ptr H2.length 0]) (H2++[.cells 0 [.ptr (H1.length+2) 0]]):=ev (Zz _ _ _) rfl
 rw[eX e2]
 have hA2:=aj (.cells 0 [.ptr (H1.length+2) 0]) (kS _ _ hA0)
 have hB2:=aj (.cells 0 [.ptr (H1.length+2) 0]) (kS _ _ hB0)
 have hb2:=aY H2 (.cells 0 [.ptr (H1.length+2) 0])
 have hS2:Gg (H2++[.cells 0 [.ptr (H1.length+2) 0]]) (H.length+2+2) l 0 (H.length+2) (H.length+2+1) []:=⟨by obtain⟨st,h⟩:=hS.hp;exact⟨st,aj _ h⟩,aj _ hS.hm,aj _ hS.hc⟩
 have lt2:H.length+2+2<H2.length:=by
  obtain⟨st,h⟩:=hS.hp
  exact(List.getElem?_eq_some_iff.1 h).1
 have k2:Kp H.length H (H2++[.cells 0 [.ptr (H1.length+2) 0]]):=fun o b h1 h2=>aj _ (kS _ _ (k0 o b h1 h2))
 have hbx:H2.length<(H2++[DB.cells 0 [.ptr (H1.length+2) 0]]).length:=by simp
 rw[hl2]at hA2 hB2 hb2 hS2 k2 hbx ⊢
 generalize H2++[DB.cells 0 [.ptr (H.length+2+2) 0]]=H3 at hA2 hB2 hb2 hS2 k2 hbx ⊢
 generalize H2.length=bx at hb2 lt2 hbx ⊢
 show ∃(H2:DH) (d v:D) (a e:Int) (T:List (List D)),KN (.func 324 [] [.ptr bx 0]) _=_/\_
 simp only[KN,List.nil_append]
 have ey:H3++[DB.coll,Ua de 233 [0,2,3,4,6,7,8,9,10] [.g (.str l),.g (.ptr (H.length+2+2) 0),.g (.ptr H.length 0),.g (.ptr (H.length+1) 0),.g (.str l),.g (.ptr (H.length+2+2) 0),.g (.func 291 [] [.ptr H.length 0,.ptr (H.length+1) 0]),.g (.ptr (H.length+2+2) 0),.g (.func 324 [] [.ptr bx 0])]]=(H3++[DB.coll])++[Jg l (H.length+2+2) H.length (H.length+1) bx]:=by rw[List.append_assoc];rfl
 rw[ey]
 have hly:(H3++[DB.coll]).length=H3.length+1:=by simp
 have hS3:Gg ((H3++[DB.coll])++[Jg l (H.length+2+2) H.length (H.length+1) bx]) (H.length+2+2) l 0 (H.length+2) (H.length+2+1) []:=⟨by obtain⟨st,h⟩:=hS2.hp;exact⟨st,aj _ (aj _ h)⟩,aj _ (aj _ hS2.hm),aj _ (aj _ hS2.hc)⟩
 have hT3:TA H.length ((H3++[DB.coll])++[Jg l (H.length+2+2) H.length (H.length+1) bx]) l (H.length+2+2) H.length (H.length+1) bx H3.length [] :=
  ⟨⟨0,.nilrow,aj _ (aj _ hA2),.inl ⟨rfl,rfl⟩⟩,⟨0,aj _ (aj _ hB2)⟩,⟨0,aj _ (aj _ hb2)⟩,by rw[<- hly];exact aY _ _,aj _ (aY _ _),by omega,by omega,by omega,by omega,by omega,Nat.le_refl _,by omega⟩
 have k3:Kp H.length H ((H3++[DB.coll])++[Jg l (H.length+2+2) H.length (H.length+1) bx]):=fun o b h1 h2=>aj _ (aj _ (k2 o b h1 h2))
 rcases PG hl (by omega) (by omega) hS3 hT3 with⟨H4,T,e3,hT4,hK,k4,hF⟩|⟨a,e,H4,T,he,e3,hT4,hK,k4⟩
 ·rw[eX e3,QJ hT4.hy]
  obtain⟨sA,v,hA,hW⟩:=hT4.hA
  obtain⟨sB,hB⟩:=hT4.hB
  have nyA:H3.length+1≠H.length:=by omega
  have nyB:H3.length+1≠H.length+1:=by omega
  have hA5:=ae .opq nyA hA
  have hB5:=ae .opq nyB hB
  have hk5:=ae .opq (show H3.length+1≠H3.length by omega) hT4.hk
  have hv:∀ κ:List D->ai,ag 1 v κ=κ [v]:=fun κ=>by rcases hW with⟨_,rfl⟩|⟨_,X,rfl,_⟩<;>rfl
  have hv2:∀(z:D) (κ:List D->ai),aw [z] 0 [v] κ=κ [v]:=fun _ _=>rfl
  have hX5:∀ X:Nat,H4[X]? = some (DB.buf 4 true false T)->(H4.set (H3.length+1) .opq)[X]? = some (DB.buf 4 true false T):=fun X hX=>ae _ (fun q=>by rw[<- q,hT4.hy]at hX;exact Cm _ rfl (Option.some.inj hX)) hX
  have k5:Kp H.length H (H4.set (H3.length+1) .opq):=(k3.trans k4).trans fun o b h1 h2=>ae _ (by omega) h2
  generalize H4.set (H3.length+1) .opq=H5 at hA5 hB5 hk5 hX5 k5 ⊢
  simp only[ac hA5,am,hv,hv2]
  have hB6:=ae (.cells (sA+1) [v]) (show H.length≠H.length+1 by omega) hB5
  have hA6:=be (.cells (sA+1) [v]) hA5
  have hk6:=ae (.cells (sA+1) [v]) (show H.length≠H3.length by omega) hk5
  have hcm:(eW (H5.set H.length (.cells (sA+1) [v])) [H5])[H.length+1]? = some (.cells sB [.int .i64 0,.int .i64 0]):=uE hB6 (fun H2 h2=>by simp at h2;subst h2;exact hB5)
  have hX6:∀ X:Nat,H4[X]? = some (DB.buf 4 true false T)->(H5.set H.length (.cells (sA+1) [v]))[X]? = some (DB.buf 4 true false T):=fun X hX=>ae _ (fun q=>by rw[<- q,hA]at hX;cases hX) (hX5 X hX)
  have k6:Kp H.length H (H5.set H.length (.cells (sA+1) [v])):=k5.trans fun o b h1 h2=>ae _ (by omega) h2
  generalize H5.set H.length (.cells (sA+1) [v])=H6 at hA6 hB6 hk6 hcm hX6 k6 ⊢
  simp only[ac hcm,ac hB6,am,ax,Qo]
  have hA7:=ae (.cells (sB+1) [.int .i64 0,.int .i64 0]) (show H.length+1≠H.length by omega) hA6
  have hB7:=be (.cells (sB+1) [.int .i64 0,.int .i64 0]) hB6
  have hk7:=ae (.cells (sB+1) [.int .i64 0,.int .i64 0]) (show H.length+1≠H3.length by omega) hk6
  have hX7:∀ X:Nat,H4[X]? = some (DB.buf 4 true false T)->(H6.set (H.length+1) (.cells (sB+1) [.int .i64 0,.int .i64 0]))[X]? = some (DB.buf 4 true false T):=fun X hX=>ae _ (fun q=>by rw[<- q,hB]at hX;cases hX) (hX6 X hX)
  have k7:Kp H.length H (H6.set (H.length+1) (.cells (sB+1) [.int .i64 0,.int .i64 0])):=k6.trans fun o b h1 h2=>ae _ (by omega) h2
  generalize H6.set (H.length+1) (.cells (sB+1) [.int .i64 0,.int .i64 0])=H7 at hA7 hB7 hk7 hX7 k7 ⊢
  rw[show ∀ κ:DH->ai,rg H7 H3.length κ=κ (H7.set H3.length .opq)from fun κ=>by rw[rg,hk7]]
  have hA8:=ae .opq (show H3.length≠H.length by omega) hA7
  have hB8:=ae .opq (show H3.length≠H.length+1 by omega) hB7
  have hX8:∀ X:Nat,H4[X]? = some (DB.buf 4 true false T)->(H7.set H3.length .opq)[X]? = some (DB.buf 4 true false T):=fun X hX=>ae _ (fun q=>by rw[<- q,hT4.hk]at hX;cases hX) (hX7 X hX)
  have k8:Kp H.length H (H7.set H3.length .opq):=k7.trans fun o b h1 h2=>ae _ (by omega) h2
  generalize H7.set H3.length .opq=H8 at hA8 hB8 hX8 k8 ⊢
  have e5:ab de (.call 291 [.ptr H.length 0,.ptr (H.length+1) 0] (some .returning)) H8=some ⟨.ret (.tuple []),some .returning,H8⟩:=ev (UR _ _ _ _) rfl
  rw[e5]
  simp only[HA,ac hA8,ac hB8,am,ax]
  refine⟨H8,_,v,0,0,T,rfl,?_,by rw[if_pos rfl];exact hK,k8,hF⟩
  rcases hW with hW|⟨q1,X,q2,q3,_⟩
  ·exact .inl hW
  ·exact .inr ⟨q1,X,q2,hX8 X q3⟩
 ·rw[Li e3]
  obtain⟨sA,v,hA,hW⟩:=hT4.hA
  obtain⟨sB,hB⟩:=hT4.hB
  rw[show ∀ κ:DH->ai,rg H4 H3.length κ=κ (H4.set H3.length .opq)from fun κ=>by rw[rg,hT4.hk]]
  have hA5:=ae .opq (show H3.length≠H.length by omega) hA
  have hB5:=ae .opq (show H3.length≠H.length+1 by omega) hB
  have k5:Kp H.length H (H4.set H3.length .opq):=(k3.trans k4).trans fun o b h1 h2=>ae _ (by omega) h2
  generalize H4.set H3.length .opq=H5 at hA5 hB5 k5 ⊢
  have ea:∀(d:D) (κ:D->ai),lN Tryz.prog (.iface 321 d) 321 true κ=κ (.tuple [d,.bool true]):=fun d κ=>by kernel_rfl
  have hv2:∀(z:D) (κ:List D->ai),aw [z] 0 [.nilrow] κ=κ [.nilrow]:=fun _ _=>rfl
  have e5:ab de (.call 291 [.ptr H.length 0,.ptr (H.length+1) 0] (some (.panicking [⟨wr a e,false⟩]))) H5=_:=ev (US _ _ _ a e _) rfl
  simp only[ea,ig,am,ax,au,cond_true,ce2,Qo,ac hA5,hv2]at e5
  have hA6:=be (.cells (sA+1) [.nilrow]) hA5
  have hB6:=ae (.cells (sA+1) [.nilrow]) (show H.length≠H.length+1 by omega) hB5
  have k6:Kp H.length H (H5.set H.length (.cells (sA+1) [.nilrow])):=k5.trans fun o b h1 h2=>ae _ (by omega) h2
  generalize H5.set H.length (.cells (sA+1) [.nilrow])=H6 at e5 hA6 hB6 k6
  simp only[ac hB6,Qo]at e5
  have hA7:=ae (.cells (sB+1) [.int .i64 a,.int .i64 e]) (show H.length+1≠H.length by omega) hA6
  have hB7:=be (.cells (sB+1) [.int .i64 a,.int .i64 e]) hB6
  have k7:Kp H.length H (H6.set (H.length+1) (.cells (sB+1) [.int .i64 a,.int .i64 e])):=k6.trans fun o b h1 h2=>ae _ (by omega) h2
  generalize H6.set (H.length+1) (.cells (sB+1) [.int .i64 a,.int .i64 e])=H7 at e5 hA7 hB7 k7
  rw[e5]
  simp only[HA,GE,ac hA7,ac hB7,am,ax]
  exact⟨H7,_,.nilrow,a,e,[],rfl,.inl ⟨rfl,rfl⟩,by rw[if_neg he];exact hK,k7,fun _ _ q=>by cases q⟩
theorem zS{H H2:DH}(h:Kp H.length H H2){d:D}(hd:d.bel H.length):aZ H (ret d H2)=ret d H:=by
 have hle:H.length<=H2.length:=by
  rcases Nat.lt_or_ge H2.length H.length with q|q
  ·have:=h H2.length H[H2.length] q (List.getElem?_eq_getElem q)
   rw[List.getElem?_eq_none (Nat.le_refl _)]at this;cases this
  ·exact q
 have hat:∀ i,i<H.length->H2[i]? = H[i]?:=fun i hi=>by rw[h i H[i] hi (List.getElem?_eq_getElem hi),List.getElem?_eq_getElem hi]
 have ht:nD H ⟨.ret d,none,H2⟩:=⟨hd,rfl,hle,fun i x hi hx=>.inl (by rw[<- hat i hi];exact hx)⟩
 simp only[aZ,ret]
 rw[if_pos ht]
 have:H2.take H.length=H:=by
  apply List.ext_getElem?
  intro i
  rw[List.getElem?_take]
  split
  ·rename_i hi;exact hat i hi
  ·rename_i hi;rw[List.getElem?_eq_none (by omega)]
 rw[this]
theorem Uf(l:List Nat)(H:DH):∃ k,ab de (.call 253 [.str l] none) H=ret (.int .i64 k) H/\rF l k:=by
 rw[show ab de (.call 253 [.str l] none) H=_ from ev (ZK _ _ _) rfl]
 rw[show(24:Int)=((24:Nat):Int)from rfl,Qx]
 by_cases hc:24<l.length
 ·rw[decide_eq_true hc,cond_true]
  exact⟨0,zS (fun _ _ _ h=>h) trivial,.inl (eA (.inr (.inl hc))).symm⟩
 ·rw[decide_eq_false hc,cond_false]
  obtain⟨H2,d,v,a,e,T,e1,hW,hK,kp,hF⟩:=Gw (l:=l) (by omega) H
  rw[af e1]
  have fin:∀ k:Int,aZ H (ret (.int .i64 k) H2)=ret (.int .i64 k) H:=fun k=>zS kp trivial
  simp only[ig,am,ax,ce2,Qo,dj,au]
  by_cases he:e=0
  ·subst he
   rw[if_pos rfl]at hK
   simp only[bne_self_eq_false,cond_false]
   rcases hW with⟨rfl,rfl⟩|⟨q1,X,rfl,q3⟩
   ·simp only[QO,dj,au]
    rw[show((0:Int) != 1)=true from rfl,cond_true]
    exact⟨0,fin 0,hK⟩
   ·simp only[Ub,dj,au]
    by_cases h1:T.length=1
    ·obtain⟨cs,rfl⟩:∃ cs,T=[cs]:=by
      match T,h1 with
      |[c],_=>exact⟨c,rfl⟩
     obtain⟨k,v,t,a',rfl⟩:=hF cs [] rfl
     rw[show(((([[.int .i64 k,.int .i64 v,.str t,.int .i64 a']]:List (List D)).length:Nat):Int) != 1)=false from rfl,cond_false]
     have h2:∀ κ:Nat->Bool->Bool->List (List D)->ai,eD H2 X 1 κ=κ 4 true false [[.int .i64 k,.int .i64 v,.str t,.int .i64 a']]:=fun κ=>cq (l:=[[.int .i64 k,.int .i64 v,.str t,.int .i64 a']]) q3
     simp only[show(0:Int)=((0:Nat):Int)from rfl,List.length_singleton,WW,show Nat.blt 0 1=true from rfl,boK,cond_true,Bb,Wz,Wx,Nat.zero_add,h2,ak (show([[.int .i64 k,.int .i64 v,.str t,.int .i64 a']]:List (List D))[0]? = some _ from rfl),am,ax,OW,au]
     by_cases ht:t=l
     ·subst ht
      simp only[BEq.rfl,Bool.not_true,cond_false]
      refine⟨k,fin k,?_⟩
      have:kf t [[.int .i64 k,.int .i64 v,.str t,.int .i64 a']]=k:=by simp[kf]
      rw[this]at hK;exact hK
     ·rw[show(t==l)=false from beq_eq_false_iff_ne.2 ht,Bool.not_false,cond_true]
      refine⟨0,fin 0,?_⟩
      have:kf l [[.int .i64 k,.int .i64 v,.str t,.int .i64 a']]=0:=by simp[kf,ht]
      rw[this]at hK;exact hK
    ·rw[show(((T.length:Nat):Int) != 1)=true by simp;omega,cond_true]
     refine⟨0,fin 0,?_⟩
     have:kf l T=0:=by
      unfold kf
      split
      ·exact(h1 rfl).elim
      ·rfl
     rw[this]at hK;exact hK
  ·rw[if_neg he]at hK
   rw[show(e != 0)=true by simp[he],cond_true]
   exact⟨0,fin 0,hK⟩
theorem IP(l:List Nat)(hl:l.length<2^60)(H:DH):∀(n i:Nat),n=l.length - i->i<2^60->ao de (ab de) 285 200002 [.g (.str l),.g (.int .i64 (i:Nat))] [] H=ret (.int .i64 (i+rn aO l i:Nat)) H
 |n,i,hn,hi=>by
  refine bg (EZ _ _ _ _) ?_
  rw[oj]
  by_cases hc:i<l.length
  ·rw[decide_eq_true hc,cond_true,aI,cI hc,af (GC _ _),au,jn aO hc]
   cases hq:aO (pk l i)with
   |false=>simp
   |true =>
    rw[cond_true,aq (show i<2^62 by omega),IP l hl H (n - 1) (i+1) (by omega) (by omega),if_pos rfl,show i+1+rn aO l (i+1)=i+(rn aO l (i+1)+1)by omega]
  ·rw[decide_eq_false hc,cond_false,wd _ (by omega)];rfl
 termination_by n=>n
theorem MS(l:List Nat)(hl:l.length<2^59)(H:DH)(i:Nat)(hi:i<2^59):ab de (.call 285 [.str l,.int .i64 (i:Nat)] none) H=ret (.int .i64 (i+rn aO l i:Nat)) H :=
 ev (f285 _ _ _ _) (IP l (by omega) H _ i rfl (by omega))
theorem Ch(l:List Nat)(hl:l.length<2^59)(H:DH)(j:Nat)(hj:j<=l.length):∀(n k:Nat),n=l.length - k->j+1<=k->k<2^60->k+rn aS l k=j+1+rn aS l (j+1) ->
 ao de (ab de) 287 200005 [.g (.str l),.g (.int .i64 (j:Nat)),.g (.int .i64 (k:Nat))] [] H=ret (.int .i64 ((if pk l j=39/\0<rn aS l (j+1)then j+(1+rn aS l (j+1))else j:Nat):Nat)) H
 |n,k,hn,hk,hk2,he=>by
  refine bg (EX _ _ _ _ _) ?_
  have fin:rn aS l k=0->cond (decide ((j:Int)<(l.length:Int))) (bv (j:Int) fun i10=>dW l i10 fun d9=>aC Tryz.prog .eql 5 true d9 (.int .u8 39) fun d11=>brD d11 (cond (decide ((k:Int)>(IntKind.wrap .i64 ((j:Int)+1)))) (ret (.int .i64 (k:Nat)) H) (ret (.int .i64 (j:Nat)) H)) (ret (.int .i64 (j:Nat)) H)) (ret (.int .i64 (j:Nat)) H)=ret (.int .i64 ((if pk l j=39/\0<rn aS l (j+1)then j+(1+rn aS l (j+1))else j:Nat):Nat)) H:=fun hz=>by
   rw[hz]at he
   rw[oj]
   by_cases hc:j<l.length
   ·rw[decide_eq_true hc,cond_true,aI,cI hc]
    simp only[bL,show(39:Int)=((39:Nat):Int)from rfl,neq,au,aq (show j<2^62 by omega),Qx]
    by_cases h39:pk l j=39
    ·rw[h39,BEq.rfl,cond_true]
     by_cases hd:0<rn aS l (j+1)
     ·rw[if_pos ⟨rfl,hd⟩,decide_eq_true (show j+1<k by omega),cond_true,show j+(1+rn aS l (j+1))=k by omega]
     ·rw[if_neg (fun h=>hd h.2),decide_eq_false (show ¬ j+1<k by omega),cond_false]
    ·rw[if_neg (fun h=>h39 h.1),show(pk l j==39)=false from beq_eq_false_iff_ne.2 h39,cond_false]
   ·rw[decide_eq_false hc,cond_false,if_neg (fun h=>by rw[mu (by omega)]at h;cases h.1)]
  rw[oj]
  by_cases hc:k<l.length
  ·rw[decide_eq_true hc,cond_true,aI,cI hc,af (ra _ _),au]
   have hs:=jn aS hc
   cases hq:aS (pk l k)with
   |false =>
    rw[hq,if_neg (by decide)]at hs
    rw[cond_false];exact fin hs
   |true =>
    rw[hq,if_pos rfl]at hs
    rw[cond_true,aq (show k<2^62 by omega)]
    exact Ch l hl H j hj (n - 1) (k+1) (by omega) (by omega) (by omega) (by omega)
  ·rw[decide_eq_false hc,cond_false]
   exact fin (wd _ (by omega))
 termination_by n=>n
theorem Jb(l:List Nat)(hl:l.length<2^59)(H:DH):∀(n i:Nat),n=l.length - i->i<=l.length->ao de (ab de) 287 200002 [.g (.str l),.g (.int .i64 (i:Nat))] [] H=ret (.int .i64 ((if pk l (i+rn aO l i)=39/\0<rn aS l (i+rn aO l i+1)then i+rn aO l i+(1+rn aS l (i+rn aO l i+1))else i+rn aO l i:Nat):Nat)) H
 |n,i,hn,hi=>by
  refine bg (EY _ _ _ _) ?_
  rw[oj]
  by_cases hc:i<l.length
  ·rw[decide_eq_true hc,cond_true,aI,cI hc,af (GC _ _),au]
   have hs:=jn aO hc
   cases hq:aO (pk l i)with
   |false =>
    rw[hq,if_neg (by decide)]at hs
    rw[cond_false,aq (show i<2^62 by omega),hs,Nat.add_zero]
    exact Ch l hl H i hi _ (i+1) rfl (Nat.le_refl _) (by omega) rfl
   |true =>
    rw[hq,if_pos rfl]at hs
    rw[cond_true,aq (show i<2^62 by omega),hs,Jb l hl H (n - 1) (i+1) (by omega) (by omega),show i+1+rn aO l (i+1)=i+(rn aO l (i+1)+1)by omega]
  ·rw[decide_eq_false hc,cond_false,aq (show i<2^62 by omega),wd aO (show l.length<=i by omega),Nat.add_zero]
   exact Ch l hl H i hi _ (i+1) rfl (Nat.le_refl _) (by omega) rfl
 termination_by n=>n
theorem Nr(l:List Nat)(hl:l.length<2^59)(H:DH)(i:Nat)(hi:i<=l.length):ab de (.call 287 [.str l,.int .i64 (i:Nat)] none) H=ret (.int .i64 (i+cz l i:Nat)) H:=by
 refine ev (f287 _ _ _ _) ((Jb l hl H _ i rfl hi).trans ?_)
 unfold cz
 split
 ·rw[Nat.add_assoc]
 ·rfl
theorem zQ(t:List Nat)(H:DH):∀(pre suf:List (List Nat)),uI=pre++suf->ao de (ab de) 288 200003 [.g (.str t),.g (.row 1 (uI.map fun w=>[.str w])),.g (.int .i64 (pre.length:Nat))] [] H=ret (.bool (decide (t∈suf))) H
 |pre,[],e=>by
  refine bg (tU _ _ _ _ _) ?_
  have e2:uI.length=pre.length:=by rw[e];simp
  rw[List.length_map,e2,oj,decide_eq_false (Nat.lt_irrefl _)];rfl
 |pre,w::suf,e=>by
  refine bg (tU _ _ _ _ _) ?_
  have hi:pre.length<uI.length:=by rw[e];simp
  have hat:(uI.map fun w=>([.str w]:List D))[pre.length]? = some [.str w]:=by rw[e];simp
  have ih:=zQ t H (pre++[w]) suf (by rw[e];simp)
  simp only[List.length_append,List.length_singleton]at ih
  have h15:uI.length=15:=rfl
  rw[List.length_map,oj,decide_eq_true hi,cond_true,aI,ak hat,am]
  simp only[nu,au,aq (show pre.length<2^62 by omega),ih]
  by_cases h:w=t
  ·subst h;simp
  ·rw[show(w==t)=false from beq_eq_false_iff_ne.2 h];simp[Ne.symm h]
theorem PD(t:List Nat)(H:DH):ab de (.call 288 [.str t] none) H=ret (.bool (decide (t∈uI))) H:=ev (ZC _ _ _) (zQ t H [] uI rfl)
theorem Ac(l:List Nat)(i:Nat)(hi:i<l.length)(H:DH):∀(pre suf:List Nat),DN=pre++suf->ao de (ab de) 289 200005 [.g (.str l),.g (.int .i64 (i:Nat)),.g (.str DN),.g (.int .i64 (pre.length:Nat))] [] H=ret (.int .i64 (if pk l i∈suf then 1 else 0)) H
 |pre,[],e=>by
  refine bg (tT _ _ _ _ _ _) ?_
  have e2:DN.length=pre.length:=by rw[e];simp
  rw[e2,oj,decide_eq_false (Nat.lt_irrefl _)];rfl
 |pre,w::suf,e=>by
  refine bg (tT _ _ _ _ _ _) ?_
  have hp:pre.length<DN.length:=by rw[e];simp
  have ih:=Ac l i hi H (pre++[w]) suf (by rw[e];simp)
  simp only[List.length_append,List.length_singleton]at ih
  have h15:DN.length=14:=rfl
  have hw:pk DN pre.length=w:=by
   have h1:DN[pre.length]? = some w:=by rw[e];simp
   unfold pk
   rw[h1,Option.getD_some]
   have h2:∀ c∈DN,c%256=c:=by decide
   exact h2 w (List.mem_of_getElem? h1)
  rw[oj,decide_eq_true hp,cond_true,aI,cI hp,aI,cI hi,hw]
  simp only[bL,neq,au,aq (show pre.length<2^62 by omega),ih]
  by_cases h:w=pk l i
  ·rw[<- h];simp
  ·rw[show(w==pk l i)=false from beq_eq_false_iff_ne.2 h];simp[Ne.symm h]
theorem Tq(l:List Nat)(hl:l.length<2^59)(i:Nat)(hi:i<l.length)(H:DH):ab de (.call 289 [.str l,.int .i64 (i:Nat)] none) H=ret (.int .i64 (pK l i:Nat)) H:=by
 refine ev (ZB _ _ _ _) ?_
 have j:=Ac l i hi H [] DN rfl
 have two:∀ {a b:Nat},(l.drop i).take 2=[a,b]->i+2<=l.length:=fun h=>by
  have:=congrArg List.length h
  rw[List.length_take,List.length_drop]at this
  simp at this;omega
 have k:¬(l.drop i).take 2=[61,62]->¬(l.drop i).take 2=[45,62]->(ret (.int .i64 (if pk l i∈DN then 1 else 0)) H:ai)=ret (.int .i64 (pK l i:Nat)) H:=fun h1 h2=>by
  by_cases hm:pk l i∈DN<;>simp[pK,h1,h2,hm]
 rw[aq (show i<2^62 by omega),oj]
 by_cases hc:i+1<l.length
 ·rw[decide_eq_true hc,cond_true,show((i:Nat):Int)+2=((i:Nat):Int)+((2:Nat):Int)from rfl,wN (show i+2<2^62 by omega),Py l i (i+2) H _ (by omega) (by omega),Py l i (i+2) H _ (by omega) (by omega),show i+2 - i=2 by omega]
  simp only[nu,au]
  by_cases h1:(l.drop i).take 2=[61,62]
  ·have hs:pK l i=2:=by unfold pK;rw[if_pos (.inl h1)]
   rw[h1,hs];rfl
  ·rw[show((l.drop i).take 2==[61,62])=false from beq_eq_false_iff_ne.2 h1,cond_false]
   by_cases h2:(l.drop i).take 2=[45,62]
   ·have hs:pK l i=2:=by unfold pK;rw[if_pos (.inr h2)]
    rw[h2,hs];rfl
   ·rw[show((l.drop i).take 2==[45,62])=false from beq_eq_false_iff_ne.2 h2,cond_false]
    exact j.trans (k h1 h2)
 ·rw[decide_eq_false hc,cond_false]
  exact j.trans (k (fun h=>by have:=two h;omega) (fun h=>by have:=two h;omega))
theorem Ln(t:TypeId)(c:Bool)(a:Int)(κ:D->ai):aC Tryz.prog .quo t c (.int .i64 a) (.int .i64 10) κ=κ (.int .i64 (IntKind.wrap .i64 (a.tdiv 10))):=rfl
theorem OV(t:TypeId)(c:Bool)(a b:Int)(κ:D->ai):aC Tryz.prog .sub t c (.int .u8 a) (.int .u8 b) κ=κ (.int .u8 (IntKind.wrap .u8 (a - b))):=rfl
theorem Vf(a:Int)(κ:D->ai):oV Tryz.prog 5 3 (.int .u8 a) κ=κ (.int .i64 (IntKind.wrap .i64 a)):=by kernel_rfl
theorem wv(x:List Nat)(hx:x.length<2^60)(H:DH)(v4 v6:Int):∀(n i:Nat) (v5:Int),n=x.length - i->i<=x.length ->
 ∃ a e:Int,ao de (ab de) 282 200009 [.g (.str x),.g (.int .i64 v4),.g (.int .i64 v5),.g (.int .i64 v6),.g (.int .i64 (i:Nat))] [] H=ret (.tuple [.int .i64 a,.int .i64 e]) H
 |n,i,v5,hn,hi=>by
  rw[show ao de (ab de) 282 200009 [.g (.str x),.g (.int .i64 v4),.g (.int .i64 v5),.g (.int .i64 v6),.g (.int .i64 (i:Nat))] [] H=_ from bg (Fa _ _ _ _ _ _ _) rfl]
  rw[oj]
  by_cases hc:i<x.length
  ·rw[decide_eq_true hc,cond_true,aI,cI hc,af (ra _ _)]
   simp only[bp,au]
   cases aS (pk x i)with
   |false=>exact⟨_,_,rfl⟩
   |true =>
    rw[Bool.not_true,cond_false,aI,cI hc]
    simp only[OV,Vf,cg,Ln,bV,nY,au]
    cases decide (v5<_)with
    |true=>exact⟨_,_,rfl⟩
    |false =>
     rw[cond_false,aq (show i<2^62 by omega)]
     exact wv x hx H v4 v6 (n - 1) (i+1) _ (by omega) (by omega)
  ·rw[decide_eq_false hc,cond_false]
   cases v4==1 with
   |true=>exact⟨_,_,rfl⟩
   |false =>
    rw[cond_false]
    cases v5==v6 with
    |true=>exact⟨_,_,rfl⟩
    |false=>exact⟨_,_,rfl⟩
 termination_by n=>n
theorem Nf(x:List Nat)(hx:x.length<2^60)(H:DH)(i:Nat)(hi:i<=x.length):∃ a e:Int,ao de (ab de) 282 4 [.g (.str x),.g (.int .i64 (i:Nat))] [] H=ret (.tuple [.int .i64 a,.int .i64 e]) H:=by
 rw[show ao de (ab de) 282 4 [.g (.str x),.g (.int .i64 (i:Nat))] [] H=_ from bg (UT _ _ _ _) rfl]
 rw[neq]
 by_cases h:x.length=i
 ·rw[h,BEq.rfl,cond_true];exact⟨_,_,rfl⟩
 ·rw[show(x.length==i)=false from beq_eq_false_iff_ne.2 h,cond_false]
  cases decide ((x.length:Int)>30)with
  |true=>exact⟨_,_,rfl⟩
  |false =>
   rw[cond_false,aI,cI (by omega)]
   simp only[bL,au]
   cases ((pk x i:Int)==48)with
   |true =>
    rw[cond_true]
    cases decide ((x.length:Int)>1)with
    |true=>exact⟨_,_,rfl⟩
    |false=>rw[cond_false];exact wv x hx H i _ _ i 0 rfl hi
   |false=>rw[cond_false];exact wv x hx H i _ _ i 0 rfl hi
theorem Wq(x:List Nat)(hx:x.length<2^60)(H:DH):∃ a e:Int,ab de (.call 282 [.str x] none) H=ret (.tuple [.int .i64 a,.int .i64 e]) H:=by
 rw[show ab de (.call 282 [.str x] none) H=_ from ev (f282 _ _ _) rfl]
 rw[show(0:Int)=((0:Nat):Int)from rfl,Qx]
 by_cases h:0<x.length
 ·rw[decide_eq_true h,cond_true,cI h]
  simp only[bL,au]
  cases ((pk x 0:Int)==126)with
  |true=>rw[cond_true];exact Nf x hx H 1 h
  |false=>rw[cond_false];exact Nf x hx H 0 (Nat.zero_le _)
 ·rw[decide_eq_false h,cond_false];exact Nf x hx H 0 (Nat.zero_le _)
def yV(l:List Nat)(H:DH)(r:ai):Prop:=∃(k v e a:Int) (t:List Nat),r=ret (.tuple [.agg [.int .i64 k,.int .i64 v,.str t,.int .i64 a],.int .i64 e]) H/\(ez l 0->e=0->k=1) /\
 (¬ ez l 0->match fg l 0 with|none=>e≠0|some (k',n)=>e=0/\k=k'/\t=l.take n)
variable{l:List Nat}
theorem MJ(hl:l.length<=100)(H:DH)(hn:ez l 0)(i:Nat)(hi:i<=l.length) :
 yV l H (ao de (ab de) 232 8 [.g (.str l),.g (.int .i64 ((0:Nat):Int)),.lp 0 0,.g (.int .i64 (i:Nat))] [(0,[.int .i64 0,.int .i64 0,.str [],.int .i64 0])] H):=by
 rw[show ao de (ab de) 232 8 [.g (.str l),.g (.int .i64 ((0:Nat):Int)),.lp 0 0,.g (.int .i64 (i:Nat))] [(0,[.int .i64 0,.int .i64 0,.str [],.int .i64 0])] H=_ from bg (UU _ _ _ _ _ _ _ _ _) rfl]
 rw[Py l 0 i H _ (Nat.zero_le _) hi]
 obtain⟨a,e,h⟩:=Wq ((l.drop 0).take (i - 0)) (by rw[List.length_take,List.length_drop];omega) H
 rw[af h]
 simp only[ig,am,ax,dj,au]
 have bad:yV l H (ret (.tuple [.agg [.int .i64 0,.int .i64 0,.str [],.int .i64 0],.int .i64 13]) H):=⟨0,0,13,0,[],rfl,(fun _ q=>by cases q),fun q=>(q hn).elim⟩
 have good:yV l H (ao de (ab de) 232 11 [.g (.str l),.g (.int .i64 ((0:Nat):Int)),.lp 0 0,.g (.int .i64 (i:Nat)),.g (.int .i64 a)] [(0,[.int .i64 0,.int .i64 0,.str [],.int .i64 0])] H):=by
  rw[show ao de (ab de) 232 11 [.g (.str l),.g (.int .i64 ((0:Nat):Int)),.lp 0 0,.g (.int .i64 (i:Nat)),.g (.int .i64 a)] [(0,[.int .i64 0,.int .i64 0,.str [],.int .i64 0])] H=_ from bg (Rn _ _ _ _ _ _ _ _ _ _) rfl]
  rw[Py l 0 i H _ (Nat.zero_le _) hi]
  exact⟨1,a,0,0,_,rfl,fun _ _=>rfl,fun q=>(q hn).elim⟩
 cases (e != 0)with
 |true=>rw[cond_true];exact bad
 |false =>
  rw[cond_false,oj]
  by_cases hc:i<l.length
  ·rw[decide_eq_true hc,cond_true,aI,cI hc,af (GC _ _),au]
   cases aO (pk l i)with
   |true=>rw[cond_true];exact bad
   |false =>
    rw[cond_false,aI,cI hc]
    simp only[bL,au]
    cases ((pk l i:Int)==39)with
    |true=>rw[cond_true];exact bad
    |false=>rw[cond_false];exact good
  ·rw[decide_eq_false hc,cond_false];exact good
theorem Gz(hl:l.length<=100)(H:DH)(hn:ez l 0):∀(n i:Nat),n=l.length - i->i<=l.length ->
 yV l H (ao de (ab de) 232 200006 [.g (.str l),.g (.int .i64 ((0:Nat):Int)),.lp 0 0,.g (.int .i64 (i:Nat))] [(0,[.int .i64 0,.int .i64 0,.str [],.int .i64 0])] H)
 |n,i,hq,hi=>by
  rw[show ao de (ab de) 232 200006 [.g (.str l),.g (.int .i64 ((0:Nat):Int)),.lp 0 0,.g (.int .i64 (i:Nat))] [(0,[.int .i64 0,.int .i64 0,.str [],.int .i64 0])] H=_ from bg (Fb _ _ _ _ _ _ _ _ _) rfl]
  rw[oj]
  by_cases hc:i<l.length
  ·rw[decide_eq_true hc,cond_true,aI,cI hc,af (ra _ _),au]
   cases aS (pk l i)with
   |true =>
    rw[cond_true,aq (show i<2^62 by omega)]
    exact Gz hl H hn (n - 1) (i+1) (by omega) (by omega)
   |false=>rw[cond_false];exact MJ hl H hn i hi
  ·rw[decide_eq_false hc,cond_false];exact MJ hl H hn i hi
 termination_by n=>n
variable{l:List Nat}
theorem BT(H:DH)(i:Nat)(hi:i<=l.length)(k:Int):ao de (ab de) 232 26 [.g (.str l),.g (.int .i64 ((0:Nat):Int)),.lp 0 0,.g (.int .i64 (i:Nat)),.g (.int .i64 k)] [(0,[.int .i64 0,.int .i64 0,.str [],.int .i64 0])] H=ret (.tuple [.agg [.int .i64 k,.int .i64 0,.str (l.take i),.int .i64 ((0:Nat):Int)],.int .i64 0]) H:=by
 refine bg (Rk _ _ _ _ _ _ _ _ _ _) ?_
 rw[Py l 0 i H _ (Nat.zero_le _) hi,List.drop_zero,Nat.sub_zero]
 rfl
theorem IG(hl:l.length<=100)(h0:0<l.length)(H:DH)(hn:¬ ez l 0)(h:ed (pk l 0)=true\/ik (pk l 0)=true):yV l H (ao de (ab de) 232 18 [.g (.str l),.g (.int .i64 ((0:Nat):Int)),.lp 0 0,.g (.int .u8 (pk l 0:Nat))] [(0,[.int .i64 0,.int .i64 0,.str [],.int .i64 0])] H):=by
 rw[show ao de (ab de) 232 18 [.g (.str l),.g (.int .i64 ((0:Nat):Int)),.lp 0 0,.g (.int .u8 (pk l 0:Nat))] [(0,[.int .i64 0,.int .i64 0,.str [],.int .i64 0])] H=_ from bg (Rl _ _ _ _ _ _ _ _ _) rfl]
 rw[af (Nr l (by omega) H 0 (Nat.zero_le _)),Nat.zero_add]
 have hle:=qu l 0 (Nat.zero_le _)
 have hw:IntKind.wrap .i64 (((cz l 0:Nat):Int) - ((0:Nat):Int))=((cz l 0:Nat):Int):=by rw[rJ]<;>omega
 simp only[nY,hw,rj,show(24:Int)=((24:Nat):Int)from rfl,Qx,au]
 by_cases hc:24<cz l 0
 ·rw[decide_eq_true hc,cond_true]
  refine⟨0,0,2,0,[],rfl,fun q=>(hn q).elim,fun _=>?_⟩
  have:fg l 0=none:=by
   unfold fg
   rcases h with h|h
   ·rw[if_pos h,if_pos hc]
   ·by_cases hs:ed (pk l 0)=true
    ·rw[if_pos hs,if_pos hc]
    ·rw[if_neg hs,if_pos h,if_pos hc]
  rw[this];simp
 ·rw[decide_eq_false hc,cond_false,af (Cy _ _),au]
  cases hg:ik (pk l 0)with
  |true =>
   rw[cond_true,BT H _ (by omega) 3]
   have hs:¬ ed (pk l 0)=true:=fun hs=>by
    unfold ed at hs;unfold ik at hg
    simp only[Bool.and_eq_true,decide_eq_true_eq]at hs hg;omega
   have:fg l 0=some (3,cz l 0):=by unfold fg;rw[if_neg hs,if_pos hg,if_neg hc]
   refine⟨3,0,0,_,_,rfl,fun q=>(hn q).elim,fun _=>?_⟩
   rw[this];exact⟨rfl,rfl,rfl⟩
  |false =>
   have hs:ed (pk l 0)=true:=h.resolve_right (by rw[hg];decide)
   rw[cond_false,Py l 0 _ H _ (Nat.zero_le _) (show cz l 0<=l.length by omega),af (PD _ _),au]
   rw[List.drop_zero,Nat.sub_zero]
   by_cases hw:l.take (cz l 0)∈uI
   ·rw[decide_eq_true hw,cond_true,BT H _ (by omega) 5]
    have:fg l 0=some (5,cz l 0):=by unfold fg;rw[if_pos hs,if_neg hc,List.drop_zero,if_pos hw]
    refine⟨5,0,0,_,_,rfl,fun q=>(hn q).elim,fun _=>?_⟩
    rw[this];exact⟨rfl,rfl,rfl⟩
   ·rw[decide_eq_false hw,cond_false,BT H _ (by omega) 2]
    have:fg l 0=some (2,cz l 0):=by unfold fg;rw[if_pos hs,if_neg hc,List.drop_zero,if_neg hw]
    refine⟨2,0,0,_,_,rfl,fun q=>(hn q).elim,fun _=>?_⟩
    rw[this];exact⟨rfl,rfl,rfl⟩
theorem BU(hl:l.length<=100)(h0:0<l.length)(H:DH)(hn:¬ ez l 0)(hq:¬(pk l 0=39/\ed (pk l 1)=true)):yV l H (ao de (ab de) 232 17 [.g (.str l),.g (.int .i64 ((0:Nat):Int)),.lp 0 0,.g (.int .u8 (pk l 0:Nat))] [(0,[.int .i64 0,.int .i64 0,.str [],.int .i64 0])] H):=by
 rw[show ao de (ab de) 232 17 [.g (.str l),.g (.int .i64 ((0:Nat):Int)),.lp 0 0,.g (.int .u8 (pk l 0:Nat))] [(0,[.int .i64 0,.int .i64 0,.str [],.int .i64 0])] H=_ from bg (Rm _ _ _ _ _ _ _ _ _) rfl]
 rw[af (BF _ _),au]
 cases hs:ed (pk l 0)with
 |true=>rw[cond_true];exact IG hl h0 H hn (.inl hs)
 |false =>
  rw[cond_false,af (Cy _ _),au]
  cases hg:ik (pk l 0)with
  |true=>rw[cond_true];exact IG hl h0 H hn (.inr hg)
  |false =>
   have ht:fg l 0=if pK l 0=0 then none else some (6,pK l 0):=by
    unfold fg;rw[if_neg (by rw[hs];decide),if_neg (by rw[hg];decide),if_neg hq]
   have hle:pK l 0<=l.length:=by
    unfold pK
    split
    ·rename_i h2
     have:=(show(List.take 2 (List.drop 0 l)).length=2 by rcases h2 with h2|h2<;>rw[h2]<;>rfl)
     rw[List.length_take,List.length_drop]at this
     omega
    ·split<;>omega
   rw[cond_false,af (Tq l (by omega) 0 h0 H)]
   simp only[bL,au]
   by_cases hz:pK l 0=0
   ·rw[if_pos hz]at ht
    rw[hz,show(((0:Nat):Int)==0)=true from rfl,cond_true]
    refine⟨0,0,11,0,[],rfl,fun q=>(hn q).elim,fun _=>?_⟩
    rw[ht];simp
   ·rw[if_neg hz]at ht
    rw[show(((pK l 0:Nat):Int)==0)=false by simp;omega,cond_false]
    simp only[cg,wN (show 0+pK l 0<2^62 by omega),Nat.zero_add]
    rw[Py l 0 _ H _ (Nat.zero_le _) hle,List.drop_zero,Nat.sub_zero]
    refine⟨6,0,0,_,_,rfl,fun q=>(hn q).elim,fun _=>?_⟩
    rw[ht];exact⟨rfl,rfl,rfl⟩
theorem Qd(hl:l.length<=100)(h0:0<l.length)(H:DH):yV l H (ab de (.call 232 [.str l,.int .i64 ((0:Nat):Int)] none) H):=by
 rw[show ab de (.call 232 [.str l,.int .i64 ((0:Nat):Int)] none) H=_ from ev (ZR _ _ _ _) rfl]
 rw[aI,cI h0]
 have w1:IntKind.wrap .i64 (((0:Nat):Int)+1)=((1:Nat):Int):=aq (n:=0) (by omega)
 simp only[bL,show(126:Int)=((126:Nat):Int)from rfl,show(39:Int)=((39:Nat):Int)from rfl,neq,au,af (ra _ _),w1]
 by_cases h126:pk l 0=126
 ·rw[h126,BEq.rfl,cond_true,cond_true]
  exact Gz hl H (.inr h126) _ 1 rfl h0
 rw[show(pk l 0==126)=false from beq_eq_false_iff_ne.2 h126,cond_false,cond_false]
 cases hd:aS (pk l 0)with
 |true=>rw[cond_true];exact Gz hl H (.inl hd) _ 0 rfl (Nat.zero_le _)
 |false =>
 rw[cond_false]
 have hnn:¬ ez l 0:=fun h=>by rcases h with h|h;exact(by rw[hd]at h;cases h);exact h126 h
 by_cases h39:pk l 0=39
 ·have h39b:(pk l 0==39)=true:=by rw[h39];rfl
  rw[h39b,cond_true,oj]
  by_cases h1:1<l.length
  ·rw[decide_eq_true h1,cond_true,aI,cI h1,af (BF _ _),au]
   cases hs:ed (pk l 1)with
   |true =>
    have hr:=qd aO l 1 (by omega)
    have hw:IntKind.wrap .i64 (((1+rn aO l 1:Nat):Int) - ((0:Nat):Int))=((1+rn aO l 1:Nat):Int):=by rw[rJ]<;>omega
    have hs0:ed (pk l 0)=false:=by rw[h39];rfl
    have hg0:ik (pk l 0)=false:=by rw[h39];rfl
    have ht:fg l 0=if 1+rn aO l 1>24 then none else some (4,1+rn aO l 1):=by
     unfold fg;rw[if_neg (by rw[hs0];decide),if_neg (by rw[hg0];decide),if_pos ⟨h39,hs⟩]
    rw[cond_true,af (MS l (by omega) H 1 (by omega))]
    simp only[nY,hw,rj,show(24:Int)=((24:Nat):Int)from rfl,Qx,au]
    by_cases hc:24<1+rn aO l 1
    ·rw[if_pos hc]at ht
     rw[decide_eq_true hc,cond_true]
     refine⟨0,0,2,0,[],rfl,fun q=>(hnn q).elim,fun _=>?_⟩
     rw[ht];simp
    ·rw[if_neg hc]at ht
     rw[decide_eq_false hc,cond_false,Py l 0 _ H _ (Nat.zero_le _) (by omega),List.drop_zero,Nat.sub_zero]
     refine⟨4,0,0,_,_,rfl,fun q=>(hnn q).elim,fun _=>?_⟩
     rw[ht];exact⟨rfl,rfl,rfl⟩
   |false =>
    rw[cond_false]
    exact BU hl h0 H hnn (fun h=>by rw[hs]at h;cases h.2)
  ·rw[decide_eq_false h1,cond_false]
   exact BU hl h0 H hnn (fun h=>by rw[mu (show l.length<=1 by omega)]at h;cases h.2)
 ·rw[show(pk l 0==39)=false from beq_eq_false_iff_ne.2 h39,cond_false]
  exact BU hl h0 H hnn (fun h=>h39 h.1)
theorem DD{k:Int}{n:Nat}(h:fg l 0=some (k,n))(h0:0<l.length):n<=24/\n<=l.length:=by
 have a1:=qu l 0 (Nat.zero_le _)
 unfold fg at h
 split at h
 ·split at h<;>cases h;omega
 ·split at h
  ·split at h<;>cases h;omega
  ·split at h
   ·rename_i hq
    have h1:1<l.length:=by
     rcases Nat.lt_or_ge 1 l.length with q|q
     ·exact q
     ·rw[mu (show l.length<=0+1 by omega)]at hq;cases hq.2
    have a2:=qd aO l (0+1) (by omega)
    split at h<;>cases h;omega
   ·split at h
    ·cases h
    ·cases h
     unfold pK
     split
     ·rename_i h2
      have:=(show(List.take 2 (List.drop 0 l)).length=2 by rcases h2 with h2|h2<;>rw[h2]<;>rfl)
      rw[List.length_take,List.length_drop]at this
      omega
     ·split<;>omega
theorem NN(hl:l.length<=100)(h0:0<l.length)(hs:¬ skip l 0)(H:DH):∃ k,ao de (ab de) 170 5 [.g (.str l)] [] H=ret (.int .i64 k) H/\rF l k:=by
 rw[show ao de (ab de) 170 5 [.g (.str l)] [] H=_ from bg (UX _ _ _) rfl]
 obtain⟨k,v,e,a,t,h1,h2,h3⟩:=Qd hl h0 H
 have h1:ab de (.call 232 [.str l,.int .i64 0] none) H=_:=h1
 rw[af h1]
 simp only[ig,am,ax,XC,Vz,dj,au,KH]
 by_cases he:e=0
 ·subst he
  rw[show((0:Int) != 0)=false from rfl,cond_false]
  by_cases ht:t.length=l.length
  ·rw[ht,show(((l.length:Nat):Int) !=((l.length:Nat):Int))=false by simp,cond_false]
   refine⟨k,rfl,?_⟩
   by_cases hn:ez l 0
   ·exact .inr ⟨hn,h2 hn rfl⟩
   ·have h3:=h3 hn
    cases hq:fg l 0 with
    |none=>rw[hq]at h3;exact(h3 rfl).elim
    |some p =>
     obtain⟨k',n⟩:=p
     rw[hq]at h3
     obtain⟨_,rfl,rfl⟩:=h3
     rw[List.length_take]at ht
     refine .inl ?_
     unfold cl
     by_cases h24:24<l.length
     ·exfalso
      have:=DD hq h0
      omega
     ·rw[if_neg (by rintro(q|q|q|q);omega;exact h24 q;exact hs q;exact hn q),hq]
      simp only
      have:=DD hq h0
      rw[if_pos (by omega)]
  ·rw[show(((t.length:Nat):Int) !=((l.length:Nat):Int))=true by simp;omega,cond_true]
   refine⟨0,rfl,.inl ?_⟩
   by_cases hn:ez l 0
   ·exact(eA (.inr (.inr (.inr hn)))).symm
   ·have h3:=h3 hn
    unfold cl
    split
    ·rfl
    ·cases hq:fg l 0 with
     |none=>rfl
     |some p =>
      obtain⟨k',n⟩:=p
      rw[hq]at h3
      obtain⟨_,rfl,rfl⟩:=h3
      simp only
      rw[if_neg (fun e=>by rw[List.length_take]at ht;omega)]
 ·rw[show(e != 0)=true by simp[he],cond_true]
  refine⟨0,rfl,.inl ?_⟩
  by_cases hn:ez l 0
  ·exact(eA (.inr (.inr (.inr hn)))).symm
  ·have h3:=h3 hn
   unfold cl
   split
   ·rfl
   ·cases hq:fg l 0 with
    |none=>rfl
    |some p =>
     obtain⟨k',n⟩:=p
     rw[hq]at h3
     exact(he h3.1).elim
theorem Ue(l:List Nat)(H:DH):∃ k,ab de (.call 170 [.str l] none) H=ret (.int .i64 k) H/\rF l k:=by
 rw[show ab de (.call 170 [.str l] none) H=_ from ev (aal _ _ _) rfl]
 rw[show(0:Int)=((0:Nat):Int)from rfl,show(100:Int)=((100:Nat):Int)from rfl,show(1:Int)=((1:Nat):Int)from rfl,neq,Qx,Qx]
 by_cases h0:l.length=0
 ·rw[h0,BEq.rfl,cond_true]
  exact⟨0,rfl,.inl (eA (.inl h0)).symm⟩
 rw[show(l.length==0)=false from beq_eq_false_iff_ne.2 h0,cond_false]
 by_cases h100:100<l.length
 ·rw[decide_eq_true h100,cond_true]
  exact⟨0,rfl,.inl (eA (.inr (.inl (by omega)))).symm⟩
 rw[decide_eq_false h100,cond_false,cI (show 0<l.length by omega),af (PS _ _),au]
 cases hs:cM (pk l 0)with
 |true =>
  rw[cond_true]
  exact⟨0,rfl,.inl (eA (.inr (.inr (.inl (.inl hs))))).symm⟩
 |false =>
  rw[cond_false]
  by_cases h1:1<l.length
  ·rw[decide_eq_true h1,cond_true,show(.int .i64 2:D)=.int .i64 ((2:Nat):Int)from rfl,VN l 2 H _ (by omega)]
   simp only[nu,au]
   by_cases h2:l.take 2=[40,42]
   ·rw[h2,BEq.rfl,cond_true]
    exact⟨0,rfl,.inl (eA (.inr (.inr (.inl (.inr h2))))).symm⟩
   ·rw[show(l.take 2==[40,42])=false from beq_eq_false_iff_ne.2 h2,cond_false]
    exact NN (by omega) (by omega) (fun h=>by rcases h with h|h;exact(by rw[hs]at h;cases h);exact h2 h) H
  ·rw[decide_eq_false h1,cond_false]
   refine NN (by omega) (by omega) (fun h=>?_) H
   rcases h with h|h
   ·rw[hs]at h;cases h
   ·have:=congrArg List.length h
    rw[List.length_take,List.length_drop]at this
    simp at this;omega
theorem kOk:SY cl:=by
 have w:∀ {l:List Nat} {k:Int},rF l k->k=cl l\/(cl l=0/\k=1):=fun h=>by
  rcases h with h|⟨h1,h2⟩
  ·exact .inl h
  ·exact .inr ⟨eA (.inr (.inr (.inr h1))),h2⟩
 refine⟨fun s H=>?_,fun s H=>?_,?_⟩
 ·obtain⟨k,h1,h2⟩:=Uf s H;exact⟨k,h1,w h2⟩
 ·obtain⟨k,h1,h2⟩:=Ue s H;exact⟨k,h1,w h2⟩
 ·unfold cl
  split
  ·decide
  ·have:fg [44] 0=some (6,1):=by decide
   rw[this];decide
mutual
def hJ:Ex->Nat
 |.mk _ _ _ _ xs _=>1+dr xs
def dr:List Ex->Nat
 |[]=>0
 |x::r=>hJ x+dr r
end
def Ez(n:Nat):List Ex->List Nat
 |[]=>[]
 |x::r=>n::Ez (n+hJ x) r
mutual
def wy(d f b:Int)(n:Nat)(p:List Nat):Ex->List Nd
 |.mk k m nm a xs ps=>⟨.mk k m nm a xs ps,d,f,p,b,some (Ez (n+1) xs)⟩::jt d f b (n+1) p 0 xs
def jt(d f b:Int)(n:Nat)(p:List Nat)(i:Nat):List Ex->List Nd
 |[]=>[]
 |x::r=>wy d f b n (p++[i]) x++jt d f b (n+hJ x) p (i+1) r
end
def gj:List (Nat×List Nat)->Nat->List Nat->List (Nat×List Nat)
 |[],n,a=>[(n,a)]
 |(k,b)::r,n,a=>if n=k then(n,a)::r else(k,b)::gj r n a
mutual
def Vy(n:Nat):Ex->List (Nat×List Nat)->List (Nat×List Nat)
 |.mk k _ _ a xs _,m=>if k=5\/k=7 then gj (BE (n+1) xs m) (n+1) a else BE (n+1) xs m
def BE(n:Nat):List Ex->List (Nat×List Nat)->List (Nat×List Nat)
 |[],m=>m
 |x::r,m=>BE (n+hJ x) r (Vy n x m)
end
mutual
def Pz:Ex->Prop
 |.mk k _ _ _ xs _=>((k=5\/k=7)->xs≠[])/\GJ xs
def GJ:List Ex->Prop
 |[]=>True
 |x::r=>Pz x/\GJ r
end
mutual
theorem iS(d f b:Int):∀(e:Ex) (n:Nat) (p:List Nat),(wy d f b n p e).length=hJ e
 |.mk _ _ _ _ xs _,n,p=>by simp only[wy,hJ,List.length_cons,As d f b xs];omega
theorem As(d f b:Int):∀(l:List Ex) (n:Nat) (p:List Nat) (i:Nat),(jt d f b n p i l).length=dr l
 |[],_,_,_=>rfl
 |x::r,n,p,i=>by simp only[jt,dr,List.length_append,iS d f b x,As d f b r]
end
theorem Il:∀ e:Ex,1<=hJ e
 |.mk _ _ _ _ _ _=>by simp only[hJ];omega
theorem MA{m:Nat}(h:m<=100000):aF Tryz.prog 88 m=true:=eQ (b:=168) (by kernel_rfl) (by decide) h
theorem gm{m:Nat}(h:m<=100000):aF Tryz.prog 3 m=true:=eQ (b:=8) (by kernel_rfl) (by decide) h
theorem Ji(s o n:Nat)(H:DH)(κ:D->ai):bY Tryz.prog 78 (.buf s o n) H κ=κ (.int .i64 (n:Int)):=by kernel_rfl
theorem Uj(o n i:Nat)(κ:D->ai):aJ Tryz.prog 78 (.buf 11 o n) (.int .i64 (i:Nat)) κ=boK (Nat.blt i n) (κ (.bptr o n i 0)):=by kernel_rfl
theorem stb(o n i c:Nat)(new:List D)(H:DH)(κ:DH->ai):Su (.bptr o n i c) new H κ=eD H o n fun sz st cap l=>boK st (bC l i fun cs=>aw cs c new fun cs=>κ (H.set o (.buf sz st cap (l.set i cs)))):=rfl
theorem Ns(m:Nat)(a:Int)(v:D)(H:DH)(κ:DH->ai):jY Tryz.prog 80 (.map m) (.int .i64 a) v H κ=qz H m fun es=>qx (.int .i64 a) v es fun es=>κ (H.set m (.map es)):=by kernel_rfl
theorem GX(n:Nat)(a:List Nat):∀ m:List (Nat×List Nat),GY (.int .i64 (n:Nat)) (.str a) (mC m)=some (mC (gj m n a))
 |[]=>rfl
 |(k,b)::r=>by
  have ih:=GX n a r
  unfold mC at ih ⊢
  simp only[List.map_cons,GY]
  rw[show AD (.int .i64 ((n:Nat):Int)) (.int .i64 ((k:Nat):Int))=some (((n:Nat):Int)==((k:Nat):Int))from rfl,neq]
  by_cases h:n=k
  ·subst h;simp[gj]
  ·rw[show(n==k)=false from beq_eq_false_iff_ne.2 h]
   simp only[ih,gj,if_neg h,List.map_cons]
theorem lO{ok:Nat->Bool}{sz o:Nat}{l:List (List D)}{e:List D}{H:DH}{κ:D->DH->ai}(h:H[o]? = some (.buf sz true false l))(h1:ok 1=true)(h2:ok (l.length+1)=true) :
 cC ok sz (.buf sz o l.length) [e] H κ=κ (.buf sz o (l.length+1)) (H.set o (.buf sz true false (l++[e]))):=by
 simp only[cC,List.length_singleton,h1,boK,cond_true,Nat.beq_refl,cq h,h2,Bool.false_and,Bool.not_false,Bool.and_true,grow,cond_false]
theorem vD{ok:Nat->Bool}{sz:Nat}{e:List D}{r:List (List D)}{H:DH}{κ:D->DH->ai}(h1:ok (r.length+1)=true):cC ok sz .nilrow (e::r) H κ=κ (.buf sz H.length (r.length+1)) (H++[.buf sz true false (e::r)]):=by
 simp only[cC,List.length_cons,h1,boK,cond_true]
theorem EK{sz o:Nat}{b:Bool}{l:List (List D)}{H:DH}{κ:D->DH->ai}(h:H[o]? = some (.buf sz b false l)):eZ (.fz sz) (.buf sz o l.length) H κ=κ (.row sz l) (H.set o (.buf sz false false l)):=by
 simp only[eZ,cq h,Nat.beq_refl,boK,cond_true]
theorem jJ(l:List Nat):(nC l).length=l.length:=by simp[nC]
theorem GT(a b:List Nat):nC (a++b)=nC a++nC b:=by simp[nC]
theorem GR(op:BinOp)(κ:D->ai):Cg op [] κ=κ .abool:=rfl
theorem En(x:List D)(r:List (List D))(κ:D->ai):Cg .eql (x::r) κ=κ (.bool false):=rfl
theorem ON(l:List Nat)(h:l.length<=100000)(H:DH):ab de (.call 192 [.row 1 (nC l)] none) H=match l with
 |[]=>ret .nilrow H
 |x::r=>ret (.buf 1 H.length (r.length+1)) (H++[.buf 1 true false (nC (x::r))]):=by
 rw[show ab de (.call 192 [.row 1 (nC l)] none) H=_ from ev (ZZ _ _ _) rfl]
 cases l with
 |nil =>
  rw[show nC []=[] from rfl,GR,brD,yH]
  have:cC (aF Tryz.prog 3) 1 .nilrow [] H (fun d2 H3=>ret d2 H3)=ret .nilrow H:=by
   simp only[cC,List.length_nil,gm (Nat.zero_le _),boK,cond_true]
  rw[this,if_pos rfl]
 |cons x r =>
  rw[show nC (x::r)=[.int .i64 (x:Nat)]::nC r from rfl,En,au,cond_false]
  rw[vD (by rw[jJ];exact gm h),jJ]
  rfl
theorem Ql(p:List Nat)(i:Nat)(hp:p.length+1<=100000)(H:DH)(κ:D->DH->ai) :
 (C (ab de) 192 [.row 1 (nC p)] H fun d24 H25=>cC (aF Tryz.prog 3) 1 d24 [[.int .i64 (i:Nat)]] H25 fun d26 H27=>dl (.fz 1) 0 d26 H27 κ)=κ (.row 1 (nC (p++[i]))) (H++[.buf 1 false false (nC (p++[i]))]):=by
 have hc:=ON p (by omega) H
 cases p with
 |nil =>
  rw[af hc,vD (r:=[]) (gm (show 0+1<=100000 by omega))]
  have hz:=EK (κ:=κ) (aY H (.buf 1 true false [[.int .i64 (i:Nat)]]))
  refine Eq.trans hz ?_
  congr 1
  rw[List.set_append_right _ _ (Nat.le_refl _),Nat.sub_self];rfl
 |cons x r =>
  have hl:r.length+1=(nC (x::r)).length:=by simp[nC]
  rw[af hc,hl,lO (aY _ _) (gm (by omega)) (gm (by rw[<- hl];simp at hp;omega))]
  have e:(H++[DB.buf 1 true false (nC (x::r))]).set H.length (.buf 1 true false (nC (x::r)++[[.int .i64 (i:Nat)]]))=H++[.buf 1 true false (nC (x::r++[i]))]:=by
   rw[List.set_append_right _ _ (Nat.le_refl _),Nat.sub_self,GT];rfl
  rw[e]
  show eZ (.fz 1) (.buf 1 H.length ((nC (x::r)).length+1)) _ κ=_
  rw[show(nC (x::r)).length+1=(nC (x::r++[i])).length by simp[nC],EK (aY _ _)]
  congr 1
  rw[List.set_append_right _ _ (Nat.le_refl _),Nat.sub_self];rfl
variable{H0 X:DH}
def Nd.put(x:Nd)(l:List Nat):Nd:={ x with ar:=some l }
theorem TQ(x:Nd)(l:List Nat)(κ:List D->ai):aw (rI x) 10 [.row 1 (nC l)] κ=κ (rI (x.put l)):=by
 obtain⟨⟨k,m,n,a,xs,ps⟩,d,f,p,b,ar⟩:=x
 rfl
theorem NE:∀ l:List Ex,l.length<=dr l
 |[]=>Nat.le_refl _
 |x::r=>by have:=Il x;have:=NE r;simp only[dr,List.length_cons];omega
mutual
theorem Ir(H0:DH):∀(e:Ex) (d f b:Int) (p:List Nat) (st:Nat) (G:Pg) (X:DH),Pz e->G.ns.length+hJ e<=100000->p.length+hJ e<=100000 ->
 ab de (.call 118 [.ptr (H0.length+5) 0,.agg (bU e),.agg [.int .i64 d,.int .i64 f,.row 1 (nC p)],.int .i64 b] none) (PX H0 st G X)=ret (.int .i64 (G.ns.length:Nat)) (PX H0 (st+hJ e) { G with ns:=G.ns++wy d f b G.ns.length p e,m:=Vy G.ns.length e G.m } X)
 |.mk k m nm a xs ps,d,f,b,p,st,G,X,hok,hn,hp=>by
  simp only[Pz]at hok
  simp only[hJ]at hn hp
  simp only[bU]
  rw[show ab de (.call 118 [.ptr (H0.length+5) 0,.agg [.int .i64 k,.int .i64 m,.str nm,.str a,.row 6 (bI xs),.row 3 (bM ps)],.agg [.int .i64 d,.int .i64 f,.row 1 (nC p)],.int .i64 b] none) (PX H0 st G X)=_ from ev (aaA _ _ _ _ _ _ _ _ _ _ _ _ _) rfl]
  have ho:=rR H0 st G X
  have hnl:(G.ns.map rI).length=G.ns.length:=List.length_map ..
  have ap:∀(e:List D) (κ:D->DH->ai),cC (aF Tryz.prog 88) 11 (.buf 11 (H0.length+1) G.ns.length) [e] (PX H0 st G X) κ=κ (.buf 11 (H0.length+1) (G.ns.length+1)) ((PX H0 st G X).set (H0.length+1) (.buf 11 true false (G.ns.map rI++[e]))):=fun e κ=>by
   have:=lO (κ:=κ) (e:=e) (MO H0 st G X) (MA (show 1<=100000 by omega)) (by rw[hnl];exact MA (by omega))
   rw[hnl]at this;exact this
  have ov:∀(z0 z1 z2 z3 z4 z5 w:D) (κ:List D->ai),aw [z0,z1,z2,z3,z4,z5] 1 [w] κ=κ [z0,w,z2,z3,z4,z5]:=fun _ _ _ _ _ _ _ _=>rfl
  simp only[ac ho,am,ax,Ji,ap,uS]
  have ho2:=ae (.buf 11 true false (G.ns.map rI++[rI ⟨.mk k m nm a xs ps,d,f,p,b,none⟩])) (show H0.length+1≠H0.length+5 by omega) ho
  rw[show([.int .i64 k,.int .i64 m,.str nm,.str a,.row 6 (bI xs),.row 3 (bM ps),.int .i64 d,.int .i64 f,.row 1 (nC p),.int .i64 b,.nilrow]:List D)=rI ⟨.mk k m nm a xs ps,d,f,p,b,none⟩from rfl]
  simp only[ac ho2,ov,Qg,GB]
  have hl:=wg H0 (st+1) { G with ns:=G.ns++[⟨.mk k m nm a xs ps,d,f,p,b,none⟩] } X
  simp only[hl]
  obtain⟨T,hT⟩:=zZ H0 k m nm a xs ps d f b p X hok.1 (⟨.mk k m nm a xs ps,d,f,p,b,none⟩) rfl G.ns.length hp xs [] [] (st+1) { G with ns:=G.ns++[⟨.mk k m nm a xs ps,d,f,p,b,none⟩] } [] rfl rfl hok.2 (by simp) (by simp;omega) (Nat.le_refl _)
  rw[show((bI xs).length:Int)=((xs.length:Nat):Int)by rw[bD]]
  refine Eq.trans (congrArg (aZ (PX H0 st G X)) hT) ?_
  rw[II (d:=.int .i64 ((G.ns.length:Nat):Int)) _ _ _ _ trivial]
  have e1:(G.ns++[(⟨.mk k m nm a xs ps,d,f,p,b,none⟩:Nd)]).length=G.ns.length+1:=by simp
  simp only[e1,List.nil_append,List.length_nil]
  have e2:st+1+dr xs=st+(1+dr xs):=by omega
  have e3:(G.ns++[(⟨.mk k m nm a xs ps,d,f,p,b,none⟩:Nd)]++jt d f b (G.ns.length+1) p 0 xs).set G.ns.length (Nd.put ⟨.mk k m nm a xs ps,d,f,p,b,none⟩ (Ez (G.ns.length+1) xs))=G.ns++wy d f b G.ns.length p (.mk k m nm a xs ps):=by
   rw[List.append_assoc,List.set_append_right _ _ (Nat.le_refl _),Nat.sub_self]
   rfl
  have e4:(if k=5\/k=7 then gj (BE (G.ns.length+1) xs G.m) ((Ez (G.ns.length+1) xs).headD 0) a else BE (G.ns.length+1) xs G.m)=Vy G.ns.length (.mk k m nm a xs ps) G.m:=by
   simp only[Vy]
   split
   ·rename_i hq
    have:=hok.1 hq
    cases xs with
    |nil=>exact(this rfl).elim
    |cons x r=>rfl
   ·rfl
  rw[e2,e3,e4]
  rfl
theorem zZ(H0:DH)(k m:Int)(nm a:List Nat)(xs0:List Ex)(ps:List Pa)(d f b:Int)(p:List Nat)(X:DH)(hk:(k=5\/k=7)->xs0≠[])(nd:Nd)(hnd:nd=⟨.mk k m nm a xs0 ps,d,f,p,b,none⟩)(n0:Nat)(hp:p.length+(1+dr xs0)<=100000):∀(xs pre:List Ex) (done:List Nat) (st:Nat) (G:Pg) (T:DH),xs0=pre++xs->done.length=pre.length->GJ xs->G.ns[n0]? = some nd->G.ns.length+dr xs<=100000->dr xs<=dr xs0 ->
 ∃ T',ao de (ab de) 118 200005 [.g (.ptr (H0.length+5) 0),.g (.int .i64 b),.lp 0 0,.lp 1 0,.g (.int .i64 (n0:Nat)),.g (.buf 1 (H0.length+6+X.length) done.length),.g (.row 6 (bI xs0)),.g (.int .i64 (xs0.length:Nat)),.g (.int .i64 (pre.length:Nat))] [(0,[.int .i64 k,.int .i64 m,.str nm,.str a,.row 6 (bI xs0),.row 3 (bM ps)]),(0,[.int .i64 d,.int .i64 f,.row 1 (nC p)])] (PX H0 st G (X++(.buf 1 true false (nC done)::T))) =
  ret (.int .i64 (n0:Nat)) (PX H0 (st+dr xs) { G with ns:=(G.ns++jt d f b G.ns.length p pre.length xs).set n0 (nd.put (done++Ez G.ns.length xs)),m:=(if k=5\/k=7 then gj (BE G.ns.length xs G.m) ((done++Ez G.ns.length xs).headD 0) a else BE G.ns.length xs G.m) } (X++T'))
 |[],pre,done,st,G,T,e,hd,_,hat,hn,_=>by
  have hpl:pre.length=xs0.length:=by rw[e];simp
  have hx:(PX H0 st G (X++(.buf 1 true false (nC done)::T)))[H0.length+6+X.length]? = some (.buf 1 true false (nC done)):=by rw[Qe];simp
  have hs:∀ B:DB,(PX H0 st G (X++(.buf 1 true false (nC done)::T))).set (H0.length+6+X.length) B=PX H0 st G (X++(B::T)):=fun B=>by
   rw[IJ,List.set_append_right _ _ (Nat.le_refl _),Nat.sub_self];rfl
  have fz:∀ κ:D->DH->ai,eZ (.fz 1) (.buf 1 (H0.length+6+X.length) done.length) (PX H0 st G (X++(.buf 1 true false (nC done)::T))) κ=κ (.row 1 (nC done)) (PX H0 st G (X++(.buf 1 false false (nC done)::T))):=fun κ=>by
   have:=EK (κ:=κ) hx
   rw[jJ,hs]at this;exact this
  have hlt:n0<G.ns.length:=(List.getElem?_eq_some_iff.1 hat).1
  have hb:Nat.blt n0 G.ns.length=true:=by unfold Nat.blt;exact Nat.ble_eq_true_of_le hlt
  have bf:∀ κ:Nat->Bool->Bool->List (List D)->ai,eD (PX H0 st G (X++(.buf 1 false false (nC done)::T))) (H0.length+1) G.ns.length κ=κ 11 true false (G.ns.map rI):=fun κ=>by
   have:=cq (κ:=κ) (MO H0 st G (X++(.buf 1 false false (nC done)::T)))
   rw[List.length_map]at this;exact this
  have hnt:(G.ns.map rI)[n0]? = some (rI nd):=by rw[List.getElem?_map,hat];rfl
  have sn:(PX H0 st G (X++(.buf 1 false false (nC done)::T))).set (H0.length+1) (.buf 11 true false ((G.ns.map rI).set n0 (rI (nd.put done))))=PX H0 st { G with ns:=G.ns.set n0 (nd.put done) } (X++(.buf 1 false false (nC done)::T)):=by
   rw[<- List.map_set,Qf _ _ _ _ _ (List.length_set ..)]
  refine⟨.buf 1 false false (nC done)::T,?_⟩
  rw[show ao de (ab de) 118 200005 _ _ _=_ from bg (ux _ _ _ _ _ _ _ _ _ _ _ _ _ _ _ _ _ _ _) rfl]
  rw[oj,decide_eq_false (by omega),cond_false]
  simp only[ac (rR _ _ _ _),am,ax,fz,Uj,hb,boK,cond_true,Bb,Nat.zero_add,show ∀(s:Nat) (l:List (List D)) (κ:List D->ai),ag 1 (.row s l) κ=κ [.row s l] from fun _ _ _=>rfl,stb,bf,ak hnt,TQ,sn]
  simp only[dr,jt,Ez,BE,List.append_nil,Nat.add_zero]
  have fn:(k=5\/k=7)->(bif Nat.blt 0 done.length then(eD (PX H0 st { G with ns:=G.ns.set n0 (nd.put done) } (X++(.buf 1 false false (nC done)::T))) (H0.length+6+X.length) done.length fun z54 s55 q56 l57=>bC l57 0 fun r58=>ah r58 0 fun d59=>jY Tryz.prog 80 (.map H0.length) d59 (.str a) (PX H0 st { G with ns:=G.ns.set n0 (nd.put done) } (X++(.buf 1 false false (nC done)::T))) fun H60=>ret (.int .i64 (n0:Nat)) H60)else none)=ret (.int .i64 (n0:Nat)) (PX H0 st { G with ns:=G.ns.set n0 (nd.put done),m:=gj G.m (done.headD 0) a } (X++(.buf 1 false false (nC done)::T))):=fun hq=>by
   obtain⟨z,r,rfl⟩:∃ z r,done=z::r:=by
    cases done with
    |nil =>
     have:=hk hq
     exfalso;apply this;apply List.eq_nil_of_length_eq_zero;rw[<- hpl,<- hd];rfl
    |cons z r=>exact⟨z,r,rfl⟩
   have hx2:(PX H0 st { G with ns:=G.ns.set n0 (nd.put (z::r)) } (X++(.buf 1 false false (nC (z::r))::T)))[H0.length+6+X.length]? = some (.buf 1 false false (nC (z::r))):=by rw[Qe];simp
   have b2:∀ κ:Nat->Bool->Bool->List (List D)->ai,eD (PX H0 st { G with ns:=G.ns.set n0 (nd.put (z::r)) } (X++(.buf 1 false false (nC (z::r))::T))) (H0.length+6+X.length) (z::r).length κ=κ 1 false false (nC (z::r)):=fun κ=>by
    have:=cq (κ:=κ) hx2
    rw[jJ]at this;exact this
   have hbl:Nat.blt 0 (z::r).length=true:=by unfold Nat.blt;exact Nat.ble_eq_true_of_le (by simp)
   simp only[am,hbl,cond_true,b2,ak (show(nC (z::r))[0]? = some [.int .i64 (z:Nat)] from rfl),Ns,nL (Tw _ _ _ _),qx,GX,IK]
   rfl
  by_cases h5:k=5
  ·rw[if_pos (.inl h5),show(k==5)=true by simp[h5],cond_true]
   exact fn (.inl h5)
  ·rw[show(k==5)=false by simp[h5],cond_false]
   by_cases h7:k=7
   ·rw[if_pos (.inr h7),show(k==7)=true by simp[h7],cond_true]
    exact fn (.inr h7)
   ·rw[if_neg (by rintro(q|q);exact h5 q;exact h7 q),show(k==7)=false by simp[h7],cond_false]
 |.mk xk xm xn xa xxs xps::r,pre,done,st,G,T,e,hd,hok,hat,hn,hs=>by
  have hi:pre.length<xs0.length:=by rw[e];simp
  have hat2:(bI xs0)[pre.length]? = some [.int .i64 xk,.int .i64 xm,.str xn,.str xa,.row 6 (bI xxs),.row 3 (bM xps)]:=by rw[e];exact gH pre (.mk xk xm xn xa xxs xps) r
  simp only[GJ]at hok
  simp only[dr]at hn hs
  have hpos:=Il (.mk xk xm xn xa xxs xps)
  have hl0:xs0.length<=dr xs0:=NE xs0
  have hnum:=Ir H0 (.mk xk xm xn xa xxs xps) d f b (p++[pre.length]) st G (X++(.buf 1 true false (nC done)::T)++[.buf 1 false false (nC (p++[pre.length]))]) hok.1 (by omega) (by simp;omega)
  simp only[bU]at hnum
  have ih:=fun T=>zZ H0 k m nm a xs0 ps d f b p X hk nd hnd n0 hp r (pre++[.mk xk xm xn xa xxs xps]) (done++[G.ns.length]) (st+hJ (.mk xk xm xn xa xxs xps)) { G with ns:=G.ns++wy d f b G.ns.length (p++[pre.length]) (.mk xk xm xn xa xxs xps),m:=Vy G.ns.length (.mk xk xm xn xa xxs xps) G.m } T (by rw[e];simp) (by simp[hd]) hok.2 (by
   rw[List.getElem?_append_left (List.getElem?_eq_some_iff.1 hat).1];exact hat) (by simp only[List.length_append,iS];omega) (by omega)
  obtain⟨T',hT⟩:=ih (T++[.buf 1 false false (nC (p++[pre.length]))])
  refine⟨T',?_⟩
  rw[show ao de (ab de) 118 200005 _ _ _=_ from bg (ux _ _ _ _ _ _ _ _ _ _ _ _ _ _ _ _ _ _ _) rfl]
  rw[oj,decide_eq_true hi,cond_true,aI,ak hat2]
  simp only[am,ax]
  rw[Ql p pre.length (by omega)]
  simp only[show ∀(s:Nat) (l:List (List D)) (κ:List D->ai),ag 1 (.row s l) κ=κ [.row s l] from fun _ _ _=>rfl,show ∀(z0 z1 z2 w:D) (κ:List D->ai),aw [z0,z1,z2] 2 [w] κ=κ [z0,z1,w] from fun _ _ _ _ _=>rfl,am,ax,GB,af hnum,om]
  have hx:∀ st' G',(PX H0 st' G' (X++(.buf 1 true false (nC done)::T)++[.buf 1 false false (nC (p++[pre.length]))]))[H0.length+6+X.length]? = some (.buf 1 true false (nC done)):=fun st' G'=>by rw[Qe];simp
  have hs2:∀ st' G' (B:DB),(PX H0 st' G' (X++(.buf 1 true false (nC done)::T)++[.buf 1 false false (nC (p++[pre.length]))])).set (H0.length+6+X.length) B=PX H0 st' G' (X++(B::(T++[.buf 1 false false (nC (p++[pre.length]))]))):=fun st' G' B=>by
   rw[IJ,List.append_assoc,List.set_append_right _ _ (Nat.le_refl _),Nat.sub_self];rfl
  have hdl:done.length<=99999:=by omega
  have ap:∀ st' G' (κ:D->DH->ai),cC (aF Tryz.prog 3) 1 (.buf 1 (H0.length+6+X.length) done.length) [[.int .i64 (G.ns.length:Nat)]] (PX H0 st' G' (X++(.buf 1 true false (nC done)::T)++[.buf 1 false false (nC (p++[pre.length]))])) κ=κ (.buf 1 (H0.length+6+X.length) (done.length+1)) (PX H0 st' G' (X++(.buf 1 true false (nC (done++[G.ns.length]))::(T++[.buf 1 false false (nC (p++[pre.length]))])))):=fun st' G' κ=>by
   have:=lO (κ:=κ) (e:=[.int .i64 (G.ns.length:Nat)]) (hx st' G') (gm (show 1<=100000 by omega)) (by rw[jJ];exact gm (by omega))
   rw[jJ,hs2]at this
   rw[this,GT done [G.ns.length]];rfl
  rw[ap]
  simp only[show ∀(s o n:Nat) (H:DH) (κ:D->DH->ai),dl (.acc 1) 0 (.buf s o n) H κ=κ (.buf s o n) H from fun _ _ _ _ _=>rfl,aq (show pre.length<2^62 by omega)]
  simp only[List.length_append,List.length_singleton]at hT
  rw[hT]
  simp only[dr,jt,Ez,BE,iS,List.append_assoc,List.singleton_append,Nat.add_assoc]
end
theorem IC{m:Nat}(h:m<=100000):aF Tryz.prog 152 m=true:=eQ (b:=72) (by kernel_rfl) (by decide) h
theorem NF(s o n:Nat)(H:DH)(κ:D->ai):bY Tryz.prog 79 (.buf s o n) H κ=κ (.int .i64 (n:Int)):=by kernel_rfl
theorem NG(s o n:Nat)(H:DH)(κ:D->ai):bY Tryz.prog 25 (.buf s o n) H κ=κ (.int .i64 (n:Int)):=by kernel_rfl
theorem Gj(n:Nat)(h:n<2^62):IntKind.wrap .i64 (((n+1:Nat):Int) - 1)=((n:Nat):Int):=by rw[rJ]<;>omega
def Pg.addB(G:Pg)(b0:Bo)(f:Int)(e:Ex):Pg:={ G with bs:=G.bs++[{ b0 with first:=G.ns.length }],ns:=G.ns++wy b0.decl f G.bs.length G.ns.length [] e,m:=Vy G.ns.length e G.m }
theorem DP(H0:DH)(e:Ex)(b0:Bo)(f:Int)(st:Nat)(G:Pg)(X:DH)(hok:Pz e)(hn:G.ns.length+hJ e<=100000)(hb:G.bs.length<100000) :
 ab de (.call 62 [.ptr (H0.length+5) 0,.agg (Bq b0),.agg (bU e),.int .i64 f] none) (PX H0 st G X)=ret (.tuple []) (PX H0 (st+1+hJ e) (G.addB b0 f e) X):=by
 obtain⟨first,decl,run,cell,name,arg,kd⟩:=b0
 obtain⟨k,m,nm,a,xs,ps⟩:=e
 have hnum:=Ir H0 (.mk k m nm a xs ps) decl f (G.bs.length:Nat) [] (st+1) { G with bs:=G.bs++[⟨G.ns.length,decl,run,cell,name,arg,kd⟩] } X hok hn (by simp;omega)
 simp only[bU]at hnum
 simp only[bU,Bq]
 rw[show ab de (.call 62 _ none) (PX H0 st G X)=_ from ev (f62 _ _ _ _ _ _ _ _ _ _ _ _ _ _ _ _ _) rfl]
 have ho:=rR H0 st G X
 have hbl:(G.bs.map Bq).length=G.bs.length:=List.length_map ..
 have ap:∀(e:List D) (κ:D->DH->ai),cC (aF Tryz.prog 152) 7 (.buf 7 (H0.length+2) G.bs.length) [e] (PX H0 st G X) κ=κ (.buf 7 (H0.length+2) (G.bs.length+1)) ((PX H0 st G X).set (H0.length+2) (.buf 7 true false (G.bs.map Bq++[e]))):=fun e κ=>by
  have:=lO (κ:=κ) (e:=e) (Tz H0 st G X) (IC (show 1<=100000 by omega)) (by rw[hbl];exact IC (by omega))
  rw[hbl]at this;exact this
 have ov7:∀(z0 z1 z2 z3 z4 z5 z6 w:D) (κ:List D->ai),aw [z0,z1,z2,z3,z4,z5,z6] 0 [w] κ=κ [w,z1,z2,z3,z4,z5,z6]:=fun _ _ _ _ _ _ _ _ _=>rfl
 have ov62:∀(z0 z1 z2 z3 z4 z5 w:D) (κ:List D->ai),aw [z0,z1,z2,z3,z4,z5] 2 [w] κ=κ [z0,z1,w,z3,z4,z5]:=fun _ _ _ _ _ _ _ _=>rfl
 have ov30:∀(z0 z1 z2 w:D) (κ:List D->ai),aw [z0,z1,z2] 0 [w] κ=κ [w,z1,z2]:=fun _ _ _ _ _=>rfl
 have ov31:∀(z0 z1 z2 w:D) (κ:List D->ai),aw [z0,z1,z2] 1 [w] κ=κ [z0,w,z2]:=fun _ _ _ _ _=>rfl
 have hk:∀(z0 z1:D) (H:DH) (κ:D->DH->ai),dl (.fz 1) 2 (.agg [z0,z1,.nilrow]) H κ=κ (.agg [z0,z1,.row 1 []]) H:=fun _ _ _ _=>rfl
 simp only[ac ho,am,ax,Ji,om,ov7,ap,uS]
 have ho2:=ae (.buf 7 true false (G.bs.map Bq++[Bq ⟨G.ns.length,decl,run,cell,name,arg,kd⟩])) (show H0.length+2≠H0.length+5 by omega) ho
 rw[show([.int .i64 ((G.ns.length:Nat):Int),.int .i64 decl,.int .i64 run,.int .i64 cell,.str name,.str arg,.int .i64 kd]:List D)=Bq ⟨G.ns.length,decl,run,cell,name,arg,kd⟩from rfl]
 simp only[ac ho2,ov62,MN,ov30,ov31,hk,ac (rR _ _ _ _),am,ax,NF,List.length_append,List.length_singleton,nY,Gj _ (show G.bs.length<2^62 by omega)]
 have hnum:=eX (k:=fun _ H36=>ret (.tuple []) H36) (kp:=fun _ _=>none) hnum
 refine Eq.trans (congrArg (aZ (PX H0 st G X)) hnum) ?_
 have:=II H0 st G X (d:=.tuple []) (st':=st+1+hJ (.mk k m nm a xs ps)) (G':=G.addB ⟨first,decl,run,cell,name,arg,kd⟩ f (.mk k m nm a xs ps)) (Y:=[]) trivial
 rw[List.append_nil]at this
 exact this
def Pg.addF(G:Pg)(i:Nat)(kd:Int)(k:Nat)(f:Fu):Pg:=({ G with cs:=G.cs++[G.bs.length] }:Pg).addB ⟨0,(i:Nat),-1,(G.cs.length:Nat),f.n,f.a,kd⟩ (k:Nat) f.b
def Pg.addFs(G:Pg)(i:Nat)(kd:Int)(k:Nat):List Fu->Pg
 |[]=>G
 |f::r=>(G.addF i kd k f).addFs i kd (k+1) r
def Pg.addR(G:Pg)(i:Nat)(d:De):Pg:=({ G with rs:=G.rs++[G.bs.length] }:Pg).addB ⟨0,(i:Nat),(G.rs.length:Nat),-1,d.n,[],d.k⟩ 0 d.b
def Pg.addD(G:Pg)(i:Nat)(d:De):Pg:=if d.k=3 then G.addFs i 3 0 d.fs else if d.k=4\/d.k=5 then G.addR i d else G
def Pg.addDs(G:Pg)(i:Nat):List De->Pg
 |[]=>G
 |d::r=>(G.addD i d).addDs (i+1) r
def uJ:List Fu->Nat
 |[]=>0
 |f::r=>hJ f.b+uJ r
theorem SQ(l:List (List D))(i:Nat)(κ:D->ai):aJ Tryz.prog 145 (.row 8 l) (.int .i64 (i:Nat)) κ=bC l i fun cs=>κ (.eptr cs 0):=by kernel_rfl
theorem WE(a b c d e f g h:D)(H:DH)(κ:D->ai):eC Tryz.prog 149 (.eptr [a,b,c,d,e,f,g,h] 0) H κ=κ (.agg [a,b,c,d,e,f,g,h]):=by kernel_rfl
theorem So(G:Pg)(b0:Bo)(f:Int)(e:Ex):(G.addB b0 f e).ns.length=G.ns.length+hJ e:=by simp[Pg.addB,iS]
theorem ce8(a b c d e f g h:D)(κ:List D->ai):ag 8 (.agg [a,b,c,d,e,f,g,h]) κ=κ [a,b,c,d,e,f,g,h]:=rfl
theorem ov8(z0 z1 z2 z3 z4 z5 z6 z7 a b c d e f g h:D)(κ:List D->ai):aw [z0,z1,z2,z3,z4,z5,z6,z7] 0 [a,b,c,d,e,f,g,h] κ=κ [a,b,c,d,e,f,g,h]:=rfl
theorem Ys(z0 z1 z2 z3 z4 z5 w:D)(κ:List D->ai):aw [z0,z1,z2,z3,z4,z5] 4 [w] κ=κ [z0,z1,z2,z3,w,z5]:=rfl
theorem Yt(z0 z1 z2 z3 z4 z5 w:D)(κ:List D->ai):aw [z0,z1,z2,z3,z4,z5] 3 [w] κ=κ [z0,z1,z2,w,z4,z5]:=rfl
theorem Yr(z0 z1 z2 z3 z4 z5 z6 w:D)(κ:List D->ai):aw [z0,z1,z2,z3,z4,z5,z6] 2 [w] κ=κ [z0,z1,w,z3,z4,z5,z6]:=rfl
theorem Wh(z0 z1 z2 z3 z4 z5 z6 w:D)(κ:List D->ai):aw [z0,z1,z2,z3,z4,z5,z6] 3 [w] κ=κ [z0,z1,z2,w,z4,z5,z6]:=rfl
theorem Wg(z0 z1 z2 z3 z4 z5 z6 w:D)(κ:List D->ai):aw [z0,z1,z2,z3,z4,z5,z6] 4 [w] κ=κ [z0,z1,z2,z3,w,z5,z6]:=rfl
theorem Yq(z0 z1 z2 z3 z4 z5 z6 w:D)(κ:List D->ai):aw [z0,z1,z2,z3,z4,z5,z6] 5 [w] κ=κ [z0,z1,z2,z3,z4,w,z6]:=rfl
theorem Wf(z0 z1 z2 z3 z4 z5 z6 w:D)(κ:List D->ai):aw [z0,z1,z2,z3,z4,z5,z6] 6 [w] κ=κ [z0,z1,z2,z3,z4,z5,w]:=rfl
theorem Ap(H0 X:DH)(i:Nat)(d:De)(hfl:d.fs.length<2^61)(ds:List D)(hdc:ds=bo d)(rows:List (List D))(n:Nat):∀(suf pre:List Fu) (st:Nat) (G:Pg),d.fs=pre++suf->(∀ f∈suf,Pz f.b)->G.ns.length+uJ suf<=100000->G.bs.length+suf.length<=99999->G.cs.length+suf.length<=99999 ->
 ∃ st',ao de (ab de) 33 200011 [.g (.ptr (H0.length+5) 0),.g (.int .i64 (i:Nat)),.lp 0 0,.g (.row 14 rows),.g (.int .i64 (n:Nat)),.g (.int .i64 (i:Nat)),.g (.row 8 (d.fs.map ir)),.g (.int .i64 (d.fs.length:Nat)),.g (.int .i64 (pre.length:Nat))] [(0,ds)] (PX H0 st G X) =
  ao de (ab de) 33 200006 [.g (.ptr (H0.length+5) 0),.g (.row 14 rows),.g (.int .i64 (n:Nat)),.g (.int .i64 (IntKind.wrap .i64 ((i:Int)+1)))] [] (PX H0 st' (G.addFs i d.k pre.length suf) X)
 |[],pre,st,G,e,_,_,_,_=>by
  refine⟨st,?_⟩
  obtain⟨k,⟨dn,vs,cs⟩,nm,⟨tn,ts⟩,fs,⟨ek,em,en,ea,ex,ps⟩⟩:=d
  subst hdc
  simp only[bo]
  refine bg (xW _ _ _ _ _ _ _ _ _ _ _ _ _ _ _ _ _ _ _ _ _ _ _ _) ?_
  have:fs.length=pre.length:=by simp only at e;rw[e];simp
  simp only[this]
  rw[oj,decide_eq_false (Nat.lt_irrefl _),cond_false];rfl
 |f::suf,pre,st,G,e,hok,hn,hb,hc=>by
  have hp:pre.length<2^62:=by
   have:pre.length<d.fs.length:=by rw[e];simp
   omega
  have hfo:=hok f (List.mem_cons_self ..)
  simp only[uJ,List.length_cons]at hn hb hc
  have hbd:=DP H0 f.b ⟨0,(i:Nat),-1,(G.cs.length:Nat),f.n,f.a,d.k⟩ (pre.length:Nat) (st+1) { G with cs:=G.cs++[G.bs.length] } X hfo (by simp only;omega) (by simp only;omega)
  obtain⟨st',ih⟩:=Ap H0 X i d hfl ds hdc rows n suf (pre++[f]) (st+1+1+hJ f.b) (G.addF i d.k pre.length f) (by rw[e];simp) (fun x hx=>hok x (List.mem_cons_of_mem _ hx)) (by rw[Pg.addF,So];simp only;omega) (by simp only[Pg.addF,Pg.addB,List.length_append,List.length_singleton];omega) (by simp only[Pg.addF,Pg.addB,List.length_append,List.length_singleton];omega)
  refine⟨st',?_⟩
  simp only[List.length_append,List.length_singleton]at ih
  rw[show(G.addFs i d.k pre.length (f::suf))=(G.addF i d.k pre.length f).addFs i d.k (pre.length+1) suf from rfl,<- ih]
  have hi:pre.length<d.fs.length:=by rw[e];simp
  have hat:(d.fs.map ir)[pre.length]? = some (ir f):=by rw[e];exact bO _ _ _ _
  obtain⟨fnm,fa,⟨fk,fm,fn,fea,fxs,fps⟩⟩:=f
  obtain⟨k,⟨dn,vs,cs⟩,nm,⟨tn,ts⟩,fs,⟨ek,em,en,ea,ex,ps⟩⟩:=d
  subst hdc
  simp only[bo]
  refine bg (xW _ _ _ _ _ _ _ _ _ _ _ _ _ _ _ _ _ _ _ _ _ _ _ _) ?_
  simp only[ir,bU,Bq]at hat hbd
  simp only at hi
  have ho:=rR H0 st G X
  have hcl:(nC G.cs).length=G.cs.length:=jJ _
  have ap:∀(κ:D->DH->ai),cC (aF Tryz.prog 3) 1 (.buf 1 (H0.length+4) G.cs.length) [[.int .i64 (G.bs.length:Nat)]] (PX H0 st G X) κ=κ (.buf 1 (H0.length+4) (G.cs.length+1)) ((PX H0 st G X).set (H0.length+4) (.buf 1 true false (nC G.cs++[[.int .i64 (G.bs.length:Nat)]]))):=fun κ=>by
   have:=lO (κ:=κ) (e:=[.int .i64 (G.bs.length:Nat)]) (Tx H0 st G X) (gm (show 1<=100000 by omega)) (by rw[hcl];exact gm (by omega))
   rw[hcl]at this;exact this
  have ho2:=ae (.buf 1 true false (nC G.cs++[[.int .i64 (G.bs.length:Nat)]])) (show H0.length+4≠H0.length+5 by omega) ho
  rw[oj,decide_eq_true hi,cond_true]
  simp only[SQ,ak hat,WE,ce8,ov8,ac ho,am,ax,NF,om,ap,uS,ac ho2,Ys,MM,ac (rR _ _ _ _),NG,List.length_append,List.length_singleton,nY,Gj _ (show G.cs.length<2^62 by omega),Db,Wh,Wg,Yq,Wf,aq hp]
  exact eX hbd
theorem Qq(H0 X:DH)(i:Nat)(d:De)(rows:List (List D))(n st:Nat)(G:Pg)(hok:Pz d.b)(hn:G.ns.length+hJ d.b<=100000)(hb:G.bs.length<99999)(hr:G.rs.length<99999) :
 ao de (ab de) 33 18 [.g (.ptr (H0.length+5) 0),.g (.int .i64 (i:Nat)),.lp 0 0,.g (.row 14 rows),.g (.int .i64 (n:Nat)),.g (.int .i64 (i:Nat))] [(0,bo d)] (PX H0 st G X) =
  ao de (ab de) 33 200006 [.g (.ptr (H0.length+5) 0),.g (.row 14 rows),.g (.int .i64 (n:Nat)),.g (.int .i64 (IntKind.wrap .i64 ((i:Int)+1)))] [] (PX H0 (st+1+1+hJ d.b) (G.addR i d) X):=by
 have hbd:=DP H0 d.b ⟨0,(i:Nat),(G.rs.length:Nat),-1,d.n,[],d.k⟩ 0 (st+1) { G with rs:=G.rs++[G.bs.length] } X hok hn (by simp only;omega)
 obtain⟨k,⟨dn,vs,cs⟩,nm,⟨tn,ts⟩,fs,⟨ek,em,en,ea,ex,ps⟩⟩:=d
 simp only[bo]
 refine bg (UQ _ _ _ _ _ _ _ _ _ _ _ _ _ _ _ _ _ _ _ _ _) ?_
 simp only[bU,Bq]at hbd
 have ho:=rR H0 st G X
 have hcl:(nC G.rs).length=G.rs.length:=jJ _
 have ap:∀(κ:D->DH->ai),cC (aF Tryz.prog 3) 1 (.buf 1 (H0.length+3) G.rs.length) [[.int .i64 (G.bs.length:Nat)]] (PX H0 st G X) κ=κ (.buf 1 (H0.length+3) (G.rs.length+1)) ((PX H0 st G X).set (H0.length+3) (.buf 1 true false (nC G.rs++[[.int .i64 (G.bs.length:Nat)]]))):=fun κ=>by
  have:=lO (κ:=κ) (e:=[.int .i64 (G.bs.length:Nat)]) (VZ H0 st G X) (gm (show 1<=100000 by omega)) (by rw[hcl];exact gm (by omega))
  rw[hcl]at this;exact this
 have ho2:=ae (.buf 1 true false (nC G.rs++[[.int .i64 (G.bs.length:Nat)]])) (show H0.length+3≠H0.length+5 by omega) ho
 simp only[ac ho,am,ax,NF,om,ap,uS,ac ho2,Yt,ML,ac (rR _ _ _ _),NG,List.length_append,List.length_singleton,nY,Gj _ (show G.rs.length<2^62 by omega),Db,Yr,Wh,Wg,Wf]
 exact eX hbd
def Mc(d:De):Nat:=if d.k=3 then uJ d.fs else if d.k=4\/d.k=5 then hJ d.b else 0
def zb(d:De):Nat:=if d.k=3 then d.fs.length else if d.k=4\/d.k=5 then 1 else 0
def lX:List De->Nat
 |[]=>0
 |d::r=>Mc d+lX r
def ll:List De->Nat
 |[]=>0
 |d::r=>zb d+ll r
structure XR(d:De):Prop where
 fl:d.fs.length<2^61
 fs:d.k=3->∀ f∈d.fs,Pz f.b
 b:(d.k=4\/d.k=5)->Pz d.b
theorem sR(i:Nat)(kd:Int):∀(l:List Fu) (k:Nat) (G:Pg),(G.addFs i kd k l).ns.length=G.ns.length+uJ l/\(G.addFs i kd k l).bs.length=G.bs.length+l.length/\(G.addFs i kd k l).cs.length=G.cs.length+l.length/\(G.addFs i kd k l).rs.length=G.rs.length
 |[],k,G=>⟨rfl,rfl,rfl,rfl⟩
 |f::r,k,G=>by
  obtain⟨h1,h2,h3,h4⟩:=sR i kd r (k+1) (G.addF i kd k f)
  have a1:(G.addF i kd k f).ns.length=G.ns.length+hJ f.b:=by simp[Pg.addF,Pg.addB,iS]
  have a2:(G.addF i kd k f).bs.length=G.bs.length+1:=by simp[Pg.addF,Pg.addB]
  have a3:(G.addF i kd k f).cs.length=G.cs.length+1:=by simp[Pg.addF,Pg.addB]
  have a4:(G.addF i kd k f).rs.length=G.rs.length:=by simp[Pg.addF,Pg.addB]
  simp only[Pg.addFs,uJ,List.length_cons]
  omega
theorem FZ(i:Nat)(d:De)(G:Pg):(G.addD i d).ns.length=G.ns.length+Mc d/\(G.addD i d).bs.length=G.bs.length+zb d/\(G.addD i d).cs.length<=G.cs.length+zb d/\(G.addD i d).rs.length<=G.rs.length+zb d:=by
 unfold Pg.addD Mc zb
 split
 ·obtain⟨h1,h2,h3,h4⟩:=sR i 3 d.fs 0 G
  omega
 ·split
  ·have a1:(G.addR i d).ns.length=G.ns.length+hJ d.b:=by simp[Pg.addR,Pg.addB,iS]
   have a2:(G.addR i d).bs.length=G.bs.length+1:=by simp[Pg.addR,Pg.addB]
   have a3:(G.addR i d).cs.length=G.cs.length:=by simp[Pg.addR,Pg.addB]
   have a4:(G.addR i d).rs.length=G.rs.length+1:=by simp[Pg.addR,Pg.addB]
   omega
  ·omega
theorem Uc(l:List (List D))(H:DH)(κ:D->ai):bY Tryz.prog 145 (.row 8 l) H κ=κ (.int .i64 (l.length:Int)):=by kernel_rfl
theorem wt(H0 X:DH)(l:List De)(hl:l.length<2^61):∀(suf pre:List De) (st:Nat) (G:Pg),l=pre++suf->(∀ d∈suf,XR d)->G.ns.length+lX suf<=100000->G.bs.length+ll suf<=99998->G.cs.length+ll suf<=99998->G.rs.length+ll suf<=99998 ->
 ∃ st',ao de (ab de) 33 200006 [.g (.ptr (H0.length+5) 0),.g (.row 14 (l.map bo)),.g (.int .i64 (l.length:Nat)),.g (.int .i64 (pre.length:Nat))] [] (PX H0 st G X) =
  ao de (ab de) 33 200022 [.g (.ptr (H0.length+5) 0),.g (.buf 1 (H0.length+4) (G.addDs pre.length suf).cs.length),.g (.int .i64 ((G.addDs pre.length suf).cs.length:Nat)),.g (.int .i64 0)] [] (PX H0 st' (G.addDs pre.length suf) X)
 |[],pre,st,G,e,_,_,_,_,_=>by
  refine⟨st,bg (xX _ _ _ _ _ _) ?_⟩
  have:l.length=pre.length:=by rw[e];simp
  rw[oj,this,decide_eq_false (Nat.lt_irrefl _),cond_false]
  simp only[ac (rR _ _ _ _),am,ax,NG]
  rfl
 |d::suf,pre,st,G,e,hok,hn,hb,hc,hr=>by
  have hd:=hok d (List.mem_cons_self ..)
  have hi:pre.length<l.length:=by rw[e];simp
  have hat:(l.map bo)[pre.length]? = some (bo d):=by rw[e];exact bO _ _ _ _
  simp only[lX,ll]at hn hb hc hr
  obtain⟨q1,q2,q3,q4⟩:=FZ pre.length d G
  have ih:=fun st2=>wt H0 X l hl suf (pre++[d]) st2 (G.addD pre.length d) (by rw[e];simp) (fun x hx=>hok x (List.mem_cons_of_mem _ hx)) (by omega) (by omega) (by omega) (by omega)
  simp only[List.length_append,List.length_singleton]at ih
  have hw:IntKind.wrap .i64 ((pre.length:Int)+1)=((pre.length+1:Nat):Int):=aq (by omega)
  rw[show G.addDs pre.length (d::suf)=(G.addD pre.length d).addDs (pre.length+1) suf from rfl]
  have key:∃ st2,ao de (ab de) 33 200006 [.g (.ptr (H0.length+5) 0),.g (.row 14 (l.map bo)),.g (.int .i64 (l.length:Nat)),.g (.int .i64 (pre.length:Nat))] [] (PX H0 st G X)=ao de (ab de) 33 200006 [.g (.ptr (H0.length+5) 0),.g (.row 14 (l.map bo)),.g (.int .i64 (l.length:Nat)),.g (.int .i64 ((pre.length+1:Nat):Nat))] [] (PX H0 st2 (G.addD pre.length d) X):=by
   have run:=Qq H0 X pre.length d (l.map bo) l.length st G
   have fun':=Ap H0 X pre.length d hd.fl (bo d) rfl (l.map bo) l.length d.fs [] st G rfl
   rw[hw]at run fun'
   have step:ao de (ab de) 33 200006 [.g (.ptr (H0.length+5) 0),.g (.row 14 (l.map bo)),.g (.int .i64 (l.length:Nat)),.g (.int .i64 (pre.length:Nat))] [] (PX H0 st G X) =
    cond (d.k==3) (ao de (ab de) 33 200011 [.g (.ptr (H0.length+5) 0),.g (.int .i64 (pre.length:Nat)),.lp 0 0,.g (.row 14 (l.map bo)),.g (.int .i64 (l.length:Nat)),.g (.int .i64 (pre.length:Nat)),.g (.row 8 (d.fs.map ir)),.g (.int .i64 (d.fs.length:Nat)),.g (.int .i64 0)] [(0,bo d)] (PX H0 st G X))
     (cond (d.k==4||d.k==5) (ao de (ab de) 33 18 [.g (.ptr (H0.length+5) 0),.g (.int .i64 (pre.length:Nat)),.lp 0 0,.g (.row 14 (l.map bo)),.g (.int .i64 (l.length:Nat)),.g (.int .i64 (pre.length:Nat))] [(0,bo d)] (PX H0 st G X))
      (ao de (ab de) 33 200006 [.g (.ptr (H0.length+5) 0),.g (.row 14 (l.map bo)),.g (.int .i64 (l.length:Nat)),.g (.int .i64 ((pre.length+1:Nat):Nat))] [] (PX H0 st G X))):=by
    clear run fun' ih
    obtain⟨k,⟨dn,vs,cs⟩,nm,⟨tn,ts⟩,fs,⟨ek,em,en,ea,ex,ps⟩⟩:=d
    simp only[bo]at hat ⊢
    refine bg (xX _ _ _ _ _ _) ?_
    rw[oj,decide_eq_true hi,cond_true,aI,ak hat]
    simp only[am,ax,bL,au,Uc,List.length_map,hw]
    cases k==3<;>cases k==4<;>cases k==5<;>simp only[cond_true,cond_false,Bool.or_true,Bool.or_false]
   rw[step]
   by_cases h3:d.k=3
   ·have n1:Mc d=uJ d.fs:=by simp[Mc,h3]
    have n2:zb d=d.fs.length:=by simp[zb,h3]
    have g1:G.addD pre.length d=G.addFs pre.length 3 0 d.fs:=by simp[Pg.addD,h3]
    obtain⟨st2,h⟩:=fun' (hd.fs h3) (by omega) (by omega) (by omega)
    rw[show(d.k==3)=true by simp[h3],cond_true,g1]
    rw[h3]at h
    exact⟨st2,h⟩
   ·rw[show(d.k==3)=false by simp[h3],cond_false]
    by_cases h45:d.k=4\/d.k=5
    ·have n1:Mc d=hJ d.b:=by simp[Mc,h3,h45]
     have n2:zb d=1:=by simp[zb,h3,h45]
     have g1:G.addD pre.length d=G.addR pre.length d:=by simp[Pg.addD,h3,h45]
     rw[show(d.k==4||d.k==5)=true by simp[h45],cond_true,g1,run (hd.b h45) (by omega) (by omega) (by omega)]
     exact⟨_,rfl⟩
    ·have g1:G.addD pre.length d=G:=by simp[Pg.addD,h3,h45]
     have:(d.k==4||d.k==5)=false:=by
      cases hq:(d.k==4||d.k==5)with
      |false=>rfl
      |true=>simp at hq;exact(h45 hq).elim
     rw[this,cond_false,g1]
     exact⟨st,rfl⟩
  obtain⟨st2,hk⟩:=key
  obtain⟨st3,h3⟩:=ih st2
  exact⟨st3,hk.trans h3⟩
def Ox(bs:List Bo):List Nat->List (Nat×List Nat)->List (Nat×List Nat)
 |[],m=>m
 |c::r,m=>match bs[c]? with
  |some x=>Ox bs r (gj m x.first x.arg)
  |none=>Ox bs r m
def FL(G:Pg):Prop:=∀ c∈G.cs,c<G.bs.length
theorem yF(i:Nat)(kd:Int):∀(l:List Fu) (k:Nat) (G:Pg),FL G->FL (G.addFs i kd k l)
 |[],_,_,h=>h
 |f::r,k,G,h=>yF i kd r (k+1) _ (fun c hc=>by
  simp only[Pg.addF,Pg.addB,List.length_append,List.length_singleton,List.mem_append,List.mem_singleton]at hc ⊢
  rcases hc with hc|rfl
  ·have:=h c hc;omega
  ·omega)
theorem Lm(i:Nat)(d:De)(G:Pg)(h:FL G):FL (G.addD i d):=by
 unfold Pg.addD
 split
 ·exact yF _ _ _ _ _ h
 ·split
  ·intro c hc
   simp only[Pg.addR,Pg.addB,List.length_append,List.length_singleton]at hc ⊢
   have:=h c hc;omega
  ·exact h
theorem yG:∀(l:List De) (i:Nat) (G:Pg),FL G->FL (G.addDs i l)
 |[],_,_,h=>h
 |d::r,i,G,h=>yG r (i+1) _ (Lm i d G h)
theorem YI(o n i:Nat)(κ:D->ai):aJ Tryz.prog 25 (.buf 1 o n) (.int .i64 (i:Nat)) κ=boK (Nat.blt i n) (κ (.bptr o n i 0)):=by kernel_rfl
theorem YH(o n i:Nat)(κ:D->ai):aJ Tryz.prog 79 (.buf 7 o n) (.int .i64 (i:Nat)) κ=boK (Nat.blt i n) (κ (.bptr o n i 0)):=by kernel_rfl
theorem Br{a b:Nat}(h:a<b):Nat.blt a b=true:=by unfold Nat.blt;exact Nat.ble_eq_true_of_le h
theorem Aq(H0 X:DH)(st:Nat)(cs:List Nat)(hcl:cs.length<2^61):∀(suf pre:List Nat) (G:Pg),cs=pre++suf->G.cs=cs->FL G ->
 ao de (ab de) 33 200022 [.g (.ptr (H0.length+5) 0),.g (.buf 1 (H0.length+4) cs.length),.g (.int .i64 (cs.length:Nat)),.g (.int .i64 (pre.length:Nat))] [] (PX H0 st G X)=ret (.tuple [.ptr (H0.length+5) 0,.int .i64 0]) (PX H0 st { G with m:=Ox G.bs suf G.m } X)
 |[],pre,G,e,_,_=>by
  refine bg (xV _ _ _ _ _ _) ?_
  have:cs.length=pre.length:=by rw[e];simp
  rw[oj,this,decide_eq_false (Nat.lt_irrefl _),cond_false];rfl
 |c::suf,pre,G,e,hg,hb=>by
  have hi:pre.length<cs.length:=by rw[e];simp
  have hc:c<G.bs.length:=hb c (by rw[hg,e];simp)
  have hat:(nC G.cs)[pre.length]? = some [.int .i64 (c:Nat)]:=by rw[hg,e];simp[nC]
  have hx:(G.bs.map Bq)[c]? = some (Bq G.bs[c]):=by rw[List.getElem?_map,List.getElem?_eq_getElem hc];rfl
  have ih:=Aq H0 X st cs hcl suf (pre++[c]) { G with m:=gj G.m G.bs[c].first G.bs[c].arg } (by rw[e];simp) hg hb
  simp only[List.length_append,List.length_singleton]at ih
  refine bg (xV _ _ _ _ _ _) ?_
  have b1:∀ κ:Nat->Bool->Bool->List (List D)->ai,eD (PX H0 st G X) (H0.length+4) cs.length κ=κ 1 true false (nC G.cs):=fun κ=>by
   have:=cq (κ:=κ) (Tx H0 st G X)
   rw[jJ,hg]at this;rw[hg];exact this
  have b2:∀ κ:Nat->Bool->Bool->List (List D)->ai,eD (PX H0 st G X) (H0.length+2) G.bs.length κ=κ 7 true false (G.bs.map Bq):=fun κ=>by
   have:=cq (κ:=κ) (Tz H0 st G X)
   rw[List.length_map]at this;exact this
  rw[oj,decide_eq_true hi,cond_true]
  simp only[YI,Br hi,boK,cond_true,Wz,b1,ak hat,am,ac (rR _ _ _ _),ax,YH,Br hc,Bb,Nat.zero_add,Nat.add_zero,b2,ak hx]
  have e0:∀ κ:D->ai,ah (Bq G.bs[c]) 0 κ=κ (.int .i64 (G.bs[c].first:Nat)):=fun _=>rfl
  have e5:∀ κ:D->ai,ah (Bq G.bs[c]) 5 κ=κ (.str G.bs[c].arg):=fun _=>rfl
  simp only[e0,Wx,b2,ak hx,e5,Ns,nL (Tw _ _ _ _),qx,GX,IK,aq (show pre.length<2^62 by omega),ih]
  simp only[Ox,List.getElem?_eq_getElem hc]
def oF(l:List De):Pg:=(⟨l,[],[],[],[],[]⟩:Pg).addDs 0 l
def eu(l:List De):Pg:={ oF l with m:=Ox (oF l).bs (oF l).cs (oF l).m }
theorem FY:∀(l:List De) (i:Nat) (G:Pg),(G.addDs i l).cs.length<=G.cs.length+ll l
 |[],_,_=>by simp[Pg.addDs,ll]
 |d::r,i,G=>by
  have h1:=FY r (i+1) (G.addD i d)
  have h2:(G.addD i d).cs.length<=G.cs.length+zb d:=by
   unfold Pg.addD zb
   split
   ·have:=sR i 3 d.fs 0 G;omega
   ·split
    ·simp[Pg.addR,Pg.addB]
    ·omega
  simp only[Pg.addDs,ll];omega
theorem Qr(l:List De)(hl:l.length<2^61)(ho:∀ x∈l,x.ok)(hd:bX cl l=0->(∀ d∈l,XR d)/\lX l<=100000/\ll l<=99998)(H:DH) :
 ∃ st,ab de (.call 33 [.agg [.row 14 (l.map bo)]] none) H=bif bX cl l != 0 then ret (.tuple [.nilptr,.int .i64 (bX cl l)]) H else ret (.tuple [.ptr (H.length+5) 0,.int .i64 0]) (PX H st (eu l) []):=by
 have hc:=RG kOk l (by omega) ho H
 cases hz:bX cl l != 0 with
 |true =>
  refine⟨0,ev (f33 _ _ _) ?_⟩
  simp only[af hc,dj,hz,au,cond_true]
 |false =>
  have h0:bX cl l=0:=by simpa using hz
  obtain⟨a1,a2,a3⟩:=hd h0
  obtain⟨st,h⟩:=wt H [] l hl l [] 0 ⟨l,[],[],[],[],[]⟩ rfl a1 (by simpa using a2) (by simpa using a3) (by simpa using a3) (by simpa using a3)
  have hb:FL (oF l):=yG l 0 _ (fun c hc=>by cases hc)
  have hcs:(oF l).cs.length<2^61:=by
   have:=FY l 0 ⟨l,[],[],[],[],[]⟩
   simp only[List.length_nil]at this
   unfold oF;omega
  have h2:=Aq H [] st (oF l).cs hcs (oF l).cs [] (oF l) rfl rfl hb
  have hH:PX H 0 ⟨l,[],[],[],[],[]⟩ []=H++[.map []]++[.buf 11 true false []]++[.buf 7 true false []]++[.buf 1 true false []]++[.buf 1 true false []]++[.cells 0 [.row 14 (l.map bo),.buf 11 (H.length+1) 0,.buf 7 (H.length+2) 0,.buf 1 (H.length+3) 0,.buf 1 (H.length+4) 0,.map H.length]]:=by
   simp[PX,PL,mC,nC]
  have h3:=h.trans h2
  rw[hH]at h3
  refine⟨st,ev (f33 _ _ _) ?_⟩
  simp only[af hc,dj,hz,au,cond_false]
  simp only[List.length_append,List.length_singleton,List.length_map,Nat.add_assoc]at h3 ⊢
  exact h3.trans rfl
mutual
theorem Cc{kind:List Nat->Int}:∀ e:Ex,fy kind e=true->Pz e
 |.mk k m n a xs ps,h=>by
  simp only[fy,Bool.and_eq_true]at h
  obtain⟨h1,_,_,h2⟩:=h
  rw[Pz]
  refine⟨fun hk hx=>?_,IT xs h1⟩
  subst hx
  rcases hk with rfl|rfl<;>simp[jO]at h2
theorem IT{kind:List Nat->Int}:∀ l:List Ex,gG kind l=true->GJ l
 |[],_=>by simp[GJ]
 |x::r,h=>by
  simp only[gG,Bool.and_eq_true]at h
  rw[GJ]
  exact⟨Cc x h.1,IT r h.2⟩
end
mutual
theorem Tg:∀(e:Ex) (p:Nat),zK e p<=100->hJ e<=uM e p
 |.mk k m n a xs ps,p,h=>by
  rw[zK]at h
  rw[uM,hJ]
  cases hq:decide (p>100)with
  |true =>
   rw[hq]at h
   have:=of_decide_eq_true hq
   simp only[cond_true]at h
   omega
  |false =>
   rw[hq]at h
   simp only[cond_false]at h ⊢
   have:=BC xs (p+1) (by omega)
   omega
theorem BC:∀(l:List Ex) (q:Nat),gc l q<=100->dr l<=dM l q
 |[],_,_=>by simp[dr]
 |x::r,q,h=>by
  rw[gc]at h
  have h1:=Tg x q (by omega)
  have h2:=BC r q (by omega)
  rw[dr,dM]
  omega
end
theorem DF:∀ l:List Fu,uJ l=dr (l.map (·.b))
 |[]=>by simp[uJ,dr]
 |f::r=>by rw[uJ,List.map_cons,dr,DF r]
theorem DG(e:Ex):dr [e]=hJ e:=by simp[dr]
theorem PH(d:De):Mc d=dr (cr d):=by
 unfold Mc cr
 by_cases h3:d.k=3
 ·simp[h3,DF]
 ·by_cases h4:d.k=4
  ·simp[h4,DG]
  ·by_cases h5:d.k=5
   ·simp[h5,DG]
   ·simp only[beq_false_of_ne h3,beq_false_of_ne h4,beq_false_of_ne h5,cond_false,dr,if_neg h3,if_neg (not_or.2 ⟨h4,h5⟩)]
theorem Im:∀ l:List De,lG l<=100->lX l<=gk l
 |[],_=>by simp[lX]
 |d::r,h=>by
  rw[lG]at h
  have h1:=Im r (by omega)
  have h2:=BC (cr d) 1 (by unfold Lc at h;omega)
  rw[lX,gk,PH,Hj]
  omega
theorem Nq{kind:List Nat->Int}(d:De)(h:eK kind d=true):XR d/\zb d<=16:=by
 unfold eK at h
 by_cases h1:d.k=1
 ·have:d.fs=[]:=by simp[h1]at h;exact h.2.2.2.2
  exact⟨⟨by simp[this],fun h=>by omega,fun h=>by omega⟩,by simp[zb,h1]⟩
 by_cases h2:d.k=2
 ·have:d.fs=[]:=by simp[h2]at h;exact h.2.2.2.2
  exact⟨⟨by simp[this],fun h=>by omega,fun h=>by omega⟩,by simp[zb,h2]⟩
 by_cases h3:d.k=3
 ·simp[h3]at h
  obtain⟨_,_,_,_,_,hl,hf⟩:=h
  exact⟨⟨by omega,fun _ f hm=>Cc f.b (by have:=hf f hm;simp only[pz,Bool.and_eq_true]at this;exact this.2.2),fun h=>by omega⟩,by simp[zb,h3];omega⟩
 by_cases h4:d.k=4
 ·simp[h4]at h
  have:d.fs=[]:=h.2.2.2.2
  exact⟨⟨by simp[this],fun h=>by omega,fun _=>Cc _ h.2.2.2.1⟩,by simp[zb,h4]⟩
 by_cases h5:d.k=5
 ·simp[h5]at h
  have:d.fs=[]:=h.2.2.2.2
  exact⟨⟨by simp[this],fun h=>by omega,fun _=>Cc _ h.2.2.2.1⟩,by simp[zb,h5]⟩
 simp[h1,h2,h3,h4,h5]at h
theorem Ja{kind:List Nat->Int}:∀ l:List De,l.all (eK kind)=true->ll l<=16*l.length
 |[],_=>by simp[ll]
 |d::r,h=>by
  rw[List.all_cons,Bool.and_eq_true]at h
  have h1:=(Nq d h.1).2
  have h2:=Ja r h.2
  rw[ll,List.length_cons]
  omega
theorem HH{kind:List Nat->Int}{l:List De}(h:bX kind l=0):lG l<=100/\l.length<=60/\gk l<=2000/\l.all (eK kind)=true:=by
 unfold bX at h
 cases h1:decide (lG l>100)<;>cases h2:decide (l.length>60)<;>cases h3:decide (gk l>2000)<;>cases h4:l.all (eK kind)<;>simp[h1,h2,h3,h4]at h
 have a1:=of_decide_eq_false h1
 have a2:=of_decide_eq_false h2
 have a3:=of_decide_eq_false h3
 exact⟨by omega,by omega,by omega,rfl⟩
theorem qo{kind:List Nat->Int}{l:List De}(h:bX kind l=0):(∀ d∈l,XR d)/\lX l<=2000/\ll l<=960:=by
 obtain⟨h1,h2,h3,h4⟩:=HH h
 have a1:=Im l h1
 have a2:=Ja l h4
 exact⟨fun d hd=>(Nq d (List.all_eq_true.1 h4 d hd)).1,by omega,by omega⟩
theorem Na(l:List De)(hl:l.length<2^61)(ho:∀ x∈l,x.ok)(H:DH) :
 ∃ st,ab de (.call 33 [.agg [.row 14 (l.map bo)]] none) H=bif bX cl l != 0 then ret (.tuple [.nilptr,.int .i64 (bX cl l)]) H else ret (.tuple [.ptr (H.length+5) 0,.int .i64 0]) (PX H st (eu l) []) :=
 Qr l hl ho (fun h=>by obtain⟨a,b,c⟩:=qo h;exact⟨a,by omega,by omega⟩) H
def iC(l:List Int):List (List D):=l.map fun i=>[.int .i64 i]
theorem SB(l:List Nat):nC l=iC (l.map fun n:Nat=>(n:Int)):=by simp[nC,iC]
theorem Cw(l:List Int):(iC l).length=l.length:=by simp[iC]
theorem Jq(pre:List Int)(t:Int)(suf:List Int):(iC (pre++t::suf))[pre.length]? = some [.int .i64 t]:=by simp[iC]
theorem Fe(a b:List Int)(hl:a.length=b.length)(hb:a.length<2^61)(H:DH):∀(sa sb pa pb:List Int),a=pa++sa->b=pb++sb->pa.length=pb.length ->
 ao de (ab de) 34 200004 [.g (.row 1 (iC a)),.g (.row 1 (iC b)),.g (.int .i64 (a.length:Nat)),.g (.int .i64 (pa.length:Nat))] [] H=ret (.bool (sa==sb)) H
 |[],[],pa,pb,e,_,_=>by
  refine bg (xU _ _ _ _ _ _) ?_
  have:a.length=pa.length:=by rw[e];simp
  rw[oj,this,decide_eq_false (Nat.lt_irrefl _),cond_false];rfl
 |[],y::sb,pa,pb,e,e2,h=>by
  rw[e,e2]at hl;simp only[List.length_append,List.length_cons,List.length_nil]at hl;omega
 |x::sa,[],pa,pb,e,e2,h=>by
  rw[e,e2]at hl;simp only[List.length_append,List.length_cons,List.length_nil]at hl;omega
 |x::sa,y::sb,pa,pb,e,e2,h=>by
  have hi:pa.length<a.length:=by rw[e];simp
  have ih:=Fe a b hl hb H sa sb (pa++[x]) (pb++[y]) (by rw[e];simp) (by rw[e2];simp) (by simp[h])
  simp only[List.length_append,List.length_singleton]at ih
  have h1:(iC a)[pa.length]? = some [.int .i64 x]:=by rw[e];exact Jq _ _ _
  have h2:(iC b)[pa.length]? = some [.int .i64 y]:=by rw[e2,h];exact Jq _ _ _
  refine bg (xU _ _ _ _ _ _) ?_
  rw[oj,decide_eq_true hi,cond_true]
  simp only[aI,ak h1,ak h2,am,dj,au,aq (show pa.length<2^62 by omega),ih]
  rw[List.cons_beq_cons]
  cases hxy:x==y<;>simp[bne,hxy]
theorem eqI(a b:List Int)(hb:a.length<2^61)(H:DH):ab de (.call 34 [.row 1 (iC a),.row 1 (iC b)] none) H=ret (.bool (a==b)) H:=by
 refine ev (f34 _ _ _ _) ?_
 simp only[Cw]
 by_cases h:a.length=b.length
 ·have:=Fe a b h hb H a b [] [] rfl rfl rfl
  rw[h]at this ⊢
  simp only[bne_self_eq_false,cond_false]
  exact this
 ·have h2:(a==b)=false:=beq_false_of_ne (fun e=>h (by rw[e]))
  have h3:((a.length:Int) !=(b.length:Int))=true:=by simp[bne];omega
  rw[h3,h2,cond_true]
def Uh(d f:Int)(p:List Int)(x:Nd):Bool:=x.d==d&&(x.f==f&&(x.p.map fun n:Nat=>(n:Int))==p)
def Ei(d f:Int)(p:List Int):Nat->List Nd->D
 |_,[]=>.tuple [.int .i64 0,.int .i64 3]
 |i,x::r=>bif Uh d f p x then .tuple [.int .i64 (i:Nat),.int .i64 0] else Ei d f p (i+1) r
theorem Wy(o n i:Nat)(H:DH)(κ:D->ai):eC Tryz.prog 88 (.bptr o n i 0) H κ=eD H o n fun _ _ _ l=>bC l i fun cs=>cZ Tryz.prog 88 cs 0 κ:=by kernel_rfl
theorem YD(a b c d e f g h i j k:D)(κ:D->ai):cZ Tryz.prog 88 [a,b,c,d,e,f,g,h,i,j,k] 0 κ=κ (.agg [a,b,c,d,e,f,g,h,i,j,k]):=by kernel_rfl
theorem Yw(z0 z1 z2 z3 z4 z5 z6 z7 z8 z9 z10 a b c d e f g h i j k:D)(κ:List D->ai):aw [z0,z1,z2,z3,z4,z5,z6,z7,z8,z9,z10] 0 [a,b,c,d,e,f,g,h,i,j,k] κ=κ [a,b,c,d,e,f,g,h,i,j,k]:=rfl
theorem aaL(a b c d e f g h i j k:D)(κ:List D->ai):ag 11 (.agg [a,b,c,d,e,f,g,h,i,j,k]) κ=κ [a,b,c,d,e,f,g,h,i,j,k]:=rfl
theorem Em(H0 X:DH)(st:Nat)(G:Pg)(d f:Int)(p:List Int)(hn:G.ns.length<2^61)(hp:∀ x∈G.ns,x.p.length<2^61):∀(suf pre:List Nd),G.ns=pre++suf ->
 ao de (ab de) 10 200005 [.lp 1 0,.g (.buf 11 (H0.length+1) G.ns.length),.g (.int .i64 (G.ns.length:Nat)),.g (.int .i64 (pre.length:Nat))] [(0,[]),(0,[.int .i64 d,.int .i64 f,.row 1 (iC p)])] (PX H0 st G X)=ret (Ei d f p pre.length suf) (PX H0 st G X)
 |[],pre,e=>by
  refine bg (ya _ _ _ _ _ _ _ _) ?_
  have:G.ns.length=pre.length:=by rw[e];simp
  rw[oj,this,decide_eq_false (Nat.lt_irrefl _),cond_false];rfl
 |x::suf,pre,e=>by
  have hi:pre.length<G.ns.length:=by rw[e];simp
  have ih:=Em H0 X st G d f p hn hp suf (pre++[x]) (by rw[e];simp)
  simp only[List.length_append,List.length_singleton]at ih
  have hat:(G.ns.map rI)[pre.length]? = some (rI x):=by rw[e];simp
  have b1:∀ κ:Nat->Bool->Bool->List (List D)->ai,eD (PX H0 st G X) (H0.length+1) G.ns.length κ=κ 11 true false (G.ns.map rI):=fun κ=>by
   have:=cq (κ:=κ) (MO H0 st G X)
   rw[List.length_map]at this;exact this
  have hx:=hp x (by rw[e];simp)
  obtain⟨⟨k,m,n,a,xs,ps⟩,xd,xf,xp,xb,xr⟩:=x
  have he:=eqI (xp.map fun n:Nat=>(n:Int)) p (by simpa using hx) (PX H0 st G X)
  refine bg (ya _ _ _ _ _ _ _ _) ?_
  rw[oj,decide_eq_true hi,cond_true]
  simp only[Uj,Br hi,boK,cond_true,Wy,b1,ak hat,rI,YD,aaL,Yw,am,ax,bL,au,SB,af he,aq (show pre.length<2^62 by omega),ih]
  simp only[Ei,Uh]
  cases xd==d<;>cases xf==f<;>cases ((xp.map fun n:Nat=>(n:Int))==p)<;>rfl
end Go.Proofs.YtpghiabjaglpgaaGreatDoor
