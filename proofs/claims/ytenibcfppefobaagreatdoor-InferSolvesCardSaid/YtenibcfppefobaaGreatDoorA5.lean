/- Evaluators by which runs of the program are reckoned, that they are sound, and what the functions answer: part 5. No conditions beyond those of the row. -/
import Derived.Test.YtenibcfppefobaaGreatDoorA4
import Derived.Test.YtenibcfppefobaaGreatDoorT1
import Derived.Lib.QuietBelow
set_option linter.all false
noncomputable section
namespace Go.Proofs.YtenibcfppefobaaGreatDoor
open Go.AI
variable{l:af}{K p A B bx y m oc:Nat}
def UP(T:dB):Prop:=∀ cs r,T=cs::r->∃(k v:Int) (t:af) (a:Int),cs=(xT k v t a)
theorem FP.f{at2:Nat}{T:dB}(h0:at2=l.length->T=[])(hF:FP l at2 T)(h1:at2<=l.length):UP T:=fun cs r e=>by
 rcases Nat.lt_or_ge at2 l.length with q|q
 ·obtain⟨k,v,n,r',h,_⟩:=hF q
  grind
 grind
theorem Po(hl:l.length<=24)(kp:K<=p)(ko:K<=oc){H:DH}(hS:FU H p l 0 m oc [])(hT:TA K H l p A B bx y []) :
 (∃ H2 T,ay 183 [.yld (y+1),.ptr bx 0] H=ret (.tuple []) H2/\TA K H2 l p A B bx y T/\sw l (pp l T)/\Kp K H H2/\UP T) \/
 (∃(a e:Int) (H2:DH) (T:dB),e≠0/\ay 183 [.yld (y+1),.ptr bx 0] H=pan (wr a e) H2/\TA K H2 l p A B bx y T/\sw l 0/\Kp K H H2):=by
 rw[show ay 183 [.yld (y+1),.ptr bx 0] H=_ from ev (YD) rfl]
 obtain⟨sb,hb⟩:=hT.hb
 simp only[ac hb,aj]
 rcases IL hl (Nat.zero_le _) (by simp;omega) hS with⟨at2,c2,H2,j1,j2,j3,j4,j5,j6,j7,j8⟩|⟨a,e,H2,j1,j2,j3,j4⟩
 ·have hT2:=hT.fr hS.hc j6 (by obtain⟨st,h⟩:=hS.hp;exact⟨_,_,h⟩)
  rw[aw j1]
  rcases zV hl kp ko _ at2 H2 c2 [] rfl j4 j5 (by simp;omega) j2 hT2 with⟨H3,r,i1,i2,i3,i4,i5⟩|⟨a,e,H3,T,i1,i2,i3,i4,i5⟩
  ·exact .inl ⟨H3,r,i1,i2,NI hl i3 i4 j4 j7 j8,(Kp.of j6 kp ko).trans i5,FP.f i3 i4 j4⟩
  ·refine .inr ⟨a,e,H3,T,i1,i2,i3,Er hl ?_,(Kp.of j6 kp ko).trans i5⟩
   by_cases hs:skip l 0
   ·exact .inl hs
   ·rw[j7 hs]at i4;exact .inr i4
 ·rw[Bz j2]
  exact .inr ⟨a,e,H2,[],j1,rfl,hT.fr hS.hc j3 (by obtain⟨st,h⟩:=hS.hp;exact⟨_,_,h⟩),Er hl (.inl j4),Kp.of j3 kp ko⟩
theorem Tv(s o n:Nat)(H:DH)(κ:D->ah):bJ ab 141 (.buf s o n) H κ=κ (.i (n:Int)):=by kernel_rfl
theorem Qn(H:DH)(κ:D->ah):bJ ab 141 .nilrow H κ=κ (.i 0):=by kernel_rfl
theorem Wa(o n i:Nat)(κ:D->ah):aq ab 141 (.buf 4 o n) (.i i) κ=boK (Nat.blt i n) (κ (.bptr o n i 0)):=by kernel_rfl
theorem Wg(o n i c k:Nat)(κ:D->ah):dz (.bptr o n i c) k κ=κ (.bptr o n i (c+k)):=rfl
theorem XK(o n i c:Nat)(H:DH)(κ:D->ah):bQ ab 3 (.bptr o n i c) H κ=gG H o n fun _ _ _ l=>dM l i fun cs=>aA cs c κ:=by kernel_rfl
theorem XJ(o n i c:Nat)(H:DH)(κ:D->ah):bQ ab 9 (.bptr o n i c) H κ=gG H o n fun _ _ _ l=>dM l i fun cs=>aA cs c κ:=by kernel_rfl
def YX(H:DH)(v:D)(T:dB):Prop:=(T=[]/\v=.nilrow)\/(T≠[]/\∃ X,v=.buf 4 X T.length/\H[X]? = some (DB.buf 4 true false T))
theorem Gs(hl:l.length<=24)(H:DH):∃(H2:DH) (d v:D) (a e:Int) (T:dB),ay 87 [.str l] H=ret (.tuple [d,v,.agg [.i a,.i e]]) H2/\YX H2 v T/\sw l (if e=0 then pp l T else 0)/\Kp H.length H H2/\UP T:=by
 rw[show ay 87 [.str l] H=_ from ev (ZS) rfl]
 have hA0:=aL (.cells 0 [.i 0,.i 0]) (bk H (.cells 0 [.nilrow]))
 have hB0:=bk (H++[DB.cells 0 [.nilrow]]) (.cells 0 [.i 0,.i 0])
 have hl1:(H++[DB.cells 0 [.nilrow]]).length=H.length+1:=by simp
 dsimp only
 rw[hl1]at hB0 ⊢
 have k0:Kp H.length H (H++[DB.cells 0 [.nilrow]]++[DB.cells 0 [.i 0,.i 0]]):=fun o b _ h=>aL _ (aL _ h)
 have hl2:(H++[DB.cells 0 [.nilrow]]++[DB.cells 0 [.i 0,.i 0]]).length=H.length+2:=by simp
 generalize H++[DB.cells 0 [.nilrow]]++[DB.cells 0 [.i 0,.i 0]]=H1 at hA0 hB0 k0 hl2 ⊢
 obtain⟨H2,e1,hS,kS⟩:=Tb l H1
 rw[aw e1]
 rw[hl2]at hS
 have e2:ay 134 [.ptr (H1.length+2) 0] H2=ret (.func 183 [] [.ptr H2.length 0]) (H2++[.cells 0 [.ptr (H1.length+2) 0]]):=ev (YG) rfl
 rw[jg e2]
 have hA2:=aL (.cells 0 [.ptr (H1.length+2) 0]) (kS _ _ hA0)
 have hB2:=aL (.cells 0 [.ptr (H1.length+2) 0]) (kS _ _ hB0)
 have hb2:=bk H2 (.cells 0 [.ptr (H1.length+2) 0])
 have hS2:FU (H2++[.cells 0 [.ptr (H1.length+2) 0]]) (H.length+2+2) l 0 (H.length+2) (H.length+2+1) []:=⟨by obtain⟨st,h⟩:=hS.hp;exact⟨st,aL _ h⟩,aL _ hS.hm,aL _ hS.hc⟩
 have lt2:H.length+2+2<H2.length:=by
  obtain⟨st,h⟩:=hS.hp
  grind
 have k2:Kp H.length H (H2++[.cells 0 [.ptr (H1.length+2) 0]]):=fun o b h1 h2=>aL _ (kS _ _ (k0 o b h1 h2))
 have hbx:H2.length<(H2++[DB.cells 0 [.ptr (H1.length+2) 0]]).length:=by simp
 rw[hl2]at hA2 hB2 hb2 hS2 k2 hbx ⊢
 generalize H2++[DB.cells 0 [.ptr (H.length+2+2) 0]]=H3 at hA2 hB2 hb2 hS2 k2 hbx ⊢
 generalize H2.length=bx at hb2 lt2 hbx ⊢
 show ∃(H2:DH) (d v:D) (a e:Int) (T:dB),KH (.func 183 [] [.ptr bx 0]) _=_/\_
 simp only[KH,List.nil_append]
 have ey:H3++[DB.coll,Tt de 87 [0,2,3,4,6,7,8,9,10] [.g (.str l),.g (.ptr (H.length+2+2) 0),.g (.ptr H.length 0),.g (.ptr (H.length+1) 0),.g (.str l),.g (.ptr (H.length+2+2) 0),.g (.func 133 [] [.ptr H.length 0,.ptr (H.length+1) 0]),.g (.ptr (H.length+2+2) 0),.g (.func 183 [] [.ptr bx 0])]]=(H3++[DB.coll])++[Jd l (H.length+2+2) H.length (H.length+1) bx]:=by rw[List.append_assoc];rfl
 rw[ey]
 have hly:(H3++[DB.coll]).length=H3.length+1:=by simp
 have hS3:FU ((H3++[DB.coll])++[Jd l (H.length+2+2) H.length (H.length+1) bx]) (H.length+2+2) l 0 (H.length+2) (H.length+2+1) []:=⟨by obtain⟨st,h⟩:=hS2.hp;exact⟨st,aL _ (aL _ h)⟩,aL _ (aL _ hS2.hm),aL _ (aL _ hS2.hc)⟩
 have hT3:TA H.length ((H3++[DB.coll])++[Jd l (H.length+2+2) H.length (H.length+1) bx]) l (H.length+2+2) H.length (H.length+1) bx H3.length [] :=
  ⟨⟨0,.nilrow,aL _ (aL _ hA2),.inl ⟨rfl,rfl⟩⟩,⟨0,aL _ (aL _ hB2)⟩,⟨0,aL _ (aL _ hb2)⟩,by rw[<- hly];exact bk _ _,aL _ (bk _ _),by omega,by omega,by omega,by omega,by omega,Nat.le_refl _,by omega⟩
 have k3:Kp H.length H ((H3++[DB.coll])++[Jd l (H.length+2+2) H.length (H.length+1) bx]):=fun o b h1 h2=>aL _ (aL _ (k2 o b h1 h2))
 rcases Po hl (by omega) (by omega) hS3 hT3 with⟨H4,T,e3,hT4,hK,k4,hF⟩|⟨a,e,H4,T,he,e3,hT4,hK,k4⟩
 ·rw[jg e3,Qh hT4.hy]
  obtain⟨sA,v,hA,hW⟩:=hT4.hA
  obtain⟨sB,hB⟩:=hT4.hB
  have nyA:H3.length+1≠H.length:=by omega
  have nyB:H3.length+1≠H.length+1:=by omega
  have hA5:=ag .opq nyA hA
  have hB5:=ag .opq nyB hB
  have hk5:=ag .opq (show H3.length+1≠H3.length by omega) hT4.hk
  have hv:∀ κ:List D->ah,ai 1 v κ=κ [v]:=fun κ=>by rcases hW with⟨_,rfl⟩|⟨_,X,rfl,_⟩<;>rfl
  have hv2:∀(z:D) (κ:List D->ah),az [z] 0 [v] κ=κ [v]:=fun _ _=>rfl
  have hX5:∀ X:Nat,H4[X]? = some (DB.buf 4 true false T)->(H4.set (H3.length+1) .opq)[X]? = some (DB.buf 4 true false T):=fun X hX=>ag _ (fun q=>by rw[<- q,hT4.hy]at hX;exact Co _ rfl (Option.some.inj hX)) hX
  have k5:Kp H.length H (H4.set (H3.length+1) .opq):=(k3.trans k4).trans fun o b h1 h2=>ag _ (by omega) h2
  generalize H4.set (H3.length+1) .opq=H5 at hA5 hB5 hk5 hX5 k5 ⊢
  simp only[ac hA5,aj,hv,hv2]
  have hB6:=ag (.cells (sA+1) [v]) (show H.length≠H.length+1 by omega) hB5
  have hA6:=aN (.cells (sA+1) [v]) hA5
  have hk6:=ag (.cells (sA+1) [v]) (show H.length≠H3.length by omega) hk5
  have hcm:(cR (H5.set H.length (.cells (sA+1) [v])) [H5])[H.length+1]? = some (.cells sB [.i 0,.i 0]):=nZ hB6 (fun H2 h2=>by simp at h2;subst h2;exact hB5)
  have hX6:∀ X:Nat,H4[X]? = some (DB.buf 4 true false T)->(H5.set H.length (.cells (sA+1) [v]))[X]? = some (DB.buf 4 true false T):=fun X hX=>ag _ (fun q=>by rw[<- q,hA]at hX;cases hX) (hX5 X hX)
  have k6:Kp H.length H (H5.set H.length (.cells (sA+1) [v])):=k5.trans fun o b h1 h2=>ag _ (by omega) h2
  generalize H5.set H.length (.cells (sA+1) [v])=H6 at hA6 hB6 hk6 hcm hX6 k6 ⊢
  simp only[ac hcm,ac hB6,aj,ar,PP]
  have hA7:=ag (.cells (sB+1) [.i 0,.i 0]) (show H.length+1≠H.length by omega) hA6
  have hB7:=aN (.cells (sB+1) [.i 0,.i 0]) hB6
  have hk7:=ag (.cells (sB+1) [.i 0,.i 0]) (show H.length+1≠H3.length by omega) hk6
  have hX7:∀ X:Nat,H4[X]? = some (DB.buf 4 true false T)->(H6.set (H.length+1) (.cells (sB+1) [.i 0,.i 0]))[X]? = some (DB.buf 4 true false T):=fun X hX=>ag _ (fun q=>by rw[<- q,hB]at hX;cases hX) (hX6 X hX)
  have k7:Kp H.length H (H6.set (H.length+1) (.cells (sB+1) [.i 0,.i 0])):=k6.trans fun o b h1 h2=>ag _ (by omega) h2
  generalize H6.set (H.length+1) (.cells (sB+1) [.i 0,.i 0])=H7 at hA7 hB7 hk7 hX7 k7 ⊢
  rw[show ∀ κ:DH->ah,rX H7 H3.length κ=κ (H7.set H3.length .opq)from fun κ=>by rw[rX,hk7]]
  have hA8:=ag .opq (show H3.length≠H.length by omega) hA7
  have hB8:=ag .opq (show H3.length≠H.length+1 by omega) hB7
  have hX8:∀ X:Nat,H4[X]? = some (DB.buf 4 true false T)->(H7.set H3.length .opq)[X]? = some (DB.buf 4 true false T):=fun X hX=>ag _ (fun q=>by rw[<- q,hT4.hk]at hX;cases hX) (hX7 X hX)
  have k8:Kp H.length H (H7.set H3.length .opq):=k7.trans fun o b h1 h2=>ag _ (by omega) h2
  generalize H7.set H3.length .opq=H8 at hA8 hB8 hX8 k8 ⊢
  have e5:eF de (.call 133 [.ptr H.length 0,.ptr (H.length+1) 0] (some .returning)) H8=some ⟨.ret (.tuple []),some .returning,H8⟩:=ev (Up) rfl
  rw[e5]
  simp only[HA,ac hA8,ac hB8,aj,ar]
  refine⟨H8,_,v,0,0,T,rfl,?_,by rw[if_pos rfl];exact hK,k8,hF⟩
  rcases hW with hW|⟨q1,X,q2,q3,_⟩
  ·exact .inl hW
  ·exact .inr ⟨q1,X,q2,hX8 X q3⟩
 ·rw[La e3]
  obtain⟨sA,v,hA,hW⟩:=hT4.hA
  obtain⟨sB,hB⟩:=hT4.hB
  rw[show ∀ κ:DH->ah,rX H4 H3.length κ=κ (H4.set H3.length .opq)from fun κ=>by rw[rX,hT4.hk]]
  have hA5:=ag .opq (show H3.length≠H.length by omega) hA
  have hB5:=ag .opq (show H3.length≠H.length+1 by omega) hB
  have k5:Kp H.length H (H4.set H3.length .opq):=(k3.trans k4).trans fun o b h1 h2=>ag _ (by omega) h2
  generalize H4.set H3.length .opq=H5 at hA5 hB5 k5 ⊢
  have ea:∀(d:D) (κ:D->ah),mq ab (.iface 180 d) 180 true κ=κ (.tuple [d,.bool true]):=fun d κ=>by kernel_rfl
  have hv2:∀(z:D) (κ:List D->ah),az [z] 0 [.nilrow] κ=κ [.nilrow]:=fun _ _=>rfl
  have e5:eF de (.call 133 [.ptr H.length 0,.ptr (H.length+1) 0] (some (.panicking [⟨wr a e,false⟩]))) H5=_:=ev (@Uq _ _ _ a e _) rfl
  simp only[ea,lZ,aj,ar,ak,cond_true,YO,PP,ac hA5,hv2]at e5
  have hA6:=aN (.cells (sA+1) [.nilrow]) hA5
  have hB6:=ag (.cells (sA+1) [.nilrow]) (show H.length≠H.length+1 by omega) hB5
  have k6:Kp H.length H (H5.set H.length (.cells (sA+1) [.nilrow])):=k5.trans fun o b h1 h2=>ag _ (by omega) h2
  generalize H5.set H.length (.cells (sA+1) [.nilrow])=H6 at e5 hA6 hB6 k6
  simp only[ac hB6,PP]at e5
  have hA7:=ag (.cells (sB+1) [.i a,.i e]) (show H.length+1≠H.length by omega) hA6
  have hB7:=aN (.cells (sB+1) [.i a,.i e]) hB6
  have k7:Kp H.length H (H6.set (H.length+1) (.cells (sB+1) [.i a,.i e])):=k6.trans fun o b h1 h2=>ag _ (by omega) h2
  generalize H6.set (H.length+1) (.cells (sB+1) [.i a,.i e])=H7 at e5 hA7 hB7 k7
  rw[e5]
  simp only[HA,GF,ac hA7,ac hB7,aj,ar]
  exact⟨H7,_,.nilrow,a,e,[],rfl,.inl ⟨rfl,rfl⟩,by rw[if_neg he];exact hK,k7,fun _ _ q=>by cases q⟩
theorem zU{H H2:DH}(h:Kp H.length H H2){d:D}(hd:d.bel H.length):qD H (ret d H2)=ret d H:=by
 have hle:H.length<=H2.length:=by
  rcases Nat.lt_or_ge H2.length H.length with q|q
  ·have:=h H2.length H[H2.length] q (List.getElem?_eq_getElem q)
   grind
  ·exact q
 have hat:∀ i,i<H.length->H2[i]? = H[i]?:=fun i hi=>by rw[h i H[i] hi (List.getElem?_eq_getElem hi),List.getElem?_eq_getElem hi]
 have ht:OS H ⟨.ret d,none,H2⟩:=⟨hd,rfl,hle,fun i x hi hx=>.inl (by rw[<- hat i hi];exact hx)⟩
 simp only[qD,ret]
 rw[if_pos ht]
 have:H2.take H.length=H:=by
  apply List.ext_getElem?
  grind
 rw[this]
theorem Tz(l:af)(H:DH):∃ k,ay 57 [.str l] H=ret (.i k) H/\sw l k:=by
 rw[show ay 57 [.str l] H=_ from ev (f57) rfl]
 rw[show(24:Int)=((24:Nat):Int)from rfl,Nm]
 by_cases hc:24<l.length
 ·rw[decide_eq_true hc,cond_true]
  exact⟨0,zU (fun _ _ _ h=>h) trivial,.inl (fO (.inr (.inl hc))).symm⟩
 ·rw[decide_eq_false hc,cond_false]
  obtain⟨H2,d,v,a,e,T,e1,hW,hK,kp,hF⟩:=Gs (l:=l) (by omega) H
  rw[aw e1]
  have fin:∀ k:Int,qD H (ret (.i k) H2)=ret (.i k) H:=fun k=>zU kp trivial
  simp only[lZ,aj,ar,YO,PP,kC,ak]
  by_cases he:e=0
  ·subst he
   rw[if_pos rfl]at hK
   simp only[bne_self_eq_false,cond_false]
   rcases hW with⟨rfl,rfl⟩|⟨q1,X,rfl,q3⟩
   ·simp only[Qn,kC,ak]
    rw[show((0:Int) != 1)=true from rfl,cond_true]
    exact⟨0,fin 0,hK⟩
   ·simp only[Tv,kC,ak]
    by_cases h1:T.length=1
    ·obtain⟨cs,rfl⟩:∃ cs,T=[cs]:=by
      match T,h1 with
      |[c],_=>exact⟨c,rfl⟩
     obtain⟨k,v,t,a',rfl⟩:=hF cs [] rfl
     rw[show(((([(xT k v t a')]:dB).length:Nat):Int) != 1)=false from rfl,cond_false]
     have h2:∀ κ:Nat->Bool->Bool->dB->ah,gG H2 X 1 κ=κ 4 true false [(xT k v t a')]:=fun κ=>bH (l:=[(xT k v t a')]) q3
     simp only[show(0:Int)=((0:Nat):Int)from rfl,List.length_singleton,Wa,show Nat.blt 0 1=true from rfl,boK,cond_true,Wg,XK,XJ,Nat.zero_add,h2,aI (show([(xT k v t a')]:dB)[0]? = some _ from rfl),aj,ar,rZ,ak]
     grind [pp]
    ·rw[show(((T.length:Nat):Int) != 1)=true by simp;omega,cond_true]
     refine⟨0,fin 0,?_⟩
     have:pp l T=0:=by
      unfold pp
      grind
     grind
  grind
theorem IJ(l:af)(hl:l.length<2^60)(H:DH):∀(n i:Nat),n=l.length - i->i<2^60->ae am 191 200002 [.g (.str l),.n i] [] H=ret (.i (i+rn aW l i:Nat)) H
 |n,i,hn,hi=>by
  refine cM (EP) ?_
  rw[IV]
  by_cases hc:i<l.length
  ·rw[decide_eq_true hc,cond_true,aP,cS hc,aw (GD _ _),ak,jP aW hc]
   cases hq:aW (pk l i)with
   |false=>simp
   |true =>
    rw[cond_true,aS (show i<2^62 by omega),IJ l hl H (n - 1) (i+1) (by omega) (by omega),if_pos rfl,show i+1+rn aW l (i+1)=i+(rn aW l (i+1)+1)by omega]
  grind [BU]
 termination_by n=>n
theorem MX(l:af)(hl:l.length<2^59)(H:DH)(i:Nat)(hi:i<2^59):ay 191 [.str l,.i i] H=ret (.i (i+rn aW l i:Nat)) H :=
 ev (Yw) (IJ l (by omega) H _ i rfl (by omega))
theorem Ci(l:af)(hl:l.length<2^59)(H:DH)(j:Nat)(hj:j<=l.length):∀(n k:Nat),n=l.length - k->j+1<=k->k<2^60->k+rn bg l k=j+1+rn bg l (j+1) ->
 ae am 193 200005 [.g (.str l),.n j,.n k] [] H=ret (.i ((if pk l j=39/\0<rn bg l (j+1)then j+(1+rn bg l (j+1))else j:Nat):Nat)) H
 |n,k,hn,hk,hk2,he=>by
  refine cM (EN) ?_
  have fin:rn bg l k=0->cond (decide ((j:Int)<(l.length:Int))) (cY (j:Int) fun i10=>eI l i10 fun d9=>av ab .eql 5 true d9 (.int .u8 39) fun d11=>brD d11 (cond (decide ((k:Int)>(cq ((j:Int)+1)))) (ret (.i k) H) (ret (.i j) H)) (ret (.i j) H)) (ret (.i j) H)=ret (.i ((if pk l j=39/\0<rn bg l (j+1)then j+(1+rn bg l (j+1))else j:Nat):Nat)) H:=fun hz=>by
   rw[hz]at he
   rw[IV]
   by_cases hc:j<l.length
   ·rw[decide_eq_true hc,cond_true,aP,cS hc]
    simp only[di,show(39:Int)=((39:Nat):Int)from rfl,neq,ak,aS (show j<2^62 by omega),Nm]
    grind
   grind [ni]
  rw[IV]
  by_cases hc:k<l.length
  ·rw[decide_eq_true hc,cond_true,aP,cS hc,aw (rU _ _),ak]
   have hs:=jP bg hc
   cases hq:bg (pk l k)with
   |false =>
    grind
   |true =>
    rw[hq,if_pos rfl]at hs
    rw[cond_true,aS (show k<2^62 by omega)]
    exact Ci l hl H j hj (n - 1) (k+1) (by omega) (by omega) (by omega) (by omega)
  grind [BU]
 termination_by n=>n
theorem IX(l:af)(hl:l.length<2^59)(H:DH):∀(n i:Nat),n=l.length - i->i<=l.length->ae am 193 200002 [.g (.str l),.n i] [] H=ret (.i ((if pk l (i+rn aW l i)=39/\0<rn bg l (i+rn aW l i+1)then i+rn aW l i+(1+rn bg l (i+rn aW l i+1))else i+rn aW l i:Nat):Nat)) H
 |n,i,hn,hi=>by
  refine cM (EO) ?_
  rw[IV]
  by_cases hc:i<l.length
  ·rw[decide_eq_true hc,cond_true,aP,cS hc,aw (GD _ _),ak]
   have hs:=jP aW hc
   cases hq:aW (pk l i)with
   |false =>
    rw[hq,if_neg (by decide)]at hs
    rw[cond_false,aS (show i<2^62 by omega),hs,Nat.add_zero]
    exact Ci l hl H i hi _ (i+1) rfl (Nat.le_refl _) (by omega) rfl
   |true =>
    rw[hq,if_pos rfl]at hs
    rw[cond_true,aS (show i<2^62 by omega),hs,IX l hl H (n - 1) (i+1) (by omega) (by omega),show i+1+rn aW l (i+1)=i+(rn aW l (i+1)+1)by omega]
  ·rw[decide_eq_false hc,cond_false,aS (show i<2^62 by omega),BU aW (show l.length<=i by omega),Nat.add_zero]
   exact Ci l hl H i hi _ (i+1) rfl (Nat.le_refl _) (by omega) rfl
 termination_by n=>n
theorem Np(l:af)(hl:l.length<2^59)(H:DH)(i:Nat)(hi:i<=l.length):ay 193 [.str l,.i i] H=ret (.i (i+cK l i:Nat)) H:=by
 refine ev (Yt) ((IX l hl H _ i rfl hi).trans ?_)
 grind [cK]
theorem zQ(t:af)(H:DH):∀(pre suf:List af),uP=pre++suf->ae am 194 200003 [.g (.str t),.g (.row 1 (uP.map fun w=>[.str w])),.n pre.length] [] H=ret (.bool (decide (t∈suf))) H
 |pre,[],e=>by
  refine cM (ut) ?_
  grind
 |pre,w::suf,e=>by
  refine cM (ut) ?_
  have hi:pre.length<uP.length:=by rw[e];simp
  have hat:(uP.map fun w=>([.str w]:List D))[pre.length]? = some [.str w]:=by rw[e];simp
  have ih:=zQ t H (pre++[w]) suf (by rw[e];simp)
  simp only[List.length_append,List.length_singleton]at ih
  have h15:uP.length=15:=rfl
  grind [IV,aP,aI,aj,lj,ak,aS]
theorem Pl(t:af)(H:DH):ay 194 [.str t] H=ret (.bool (decide (t∈uP))) H:=ev (Ys) (zQ t H [] uP rfl)
theorem Ag(l:af)(i:Nat)(hi:i<l.length)(H:DH):∀(pre suf:af),Gp=pre++suf->ae am 195 200005 [.g (.str l),.n i,.g (.str Gp),.n pre.length] [] H=ret (.i (if pk l i∈suf then 1 else 0)) H
 |pre,[],e=>by
  refine cM (ur) ?_
  grind
 |pre,w::suf,e=>by
  refine cM (ur) ?_
  have hp:pre.length<Gp.length:=by rw[e];simp
  have ih:=Ag l i hi H (pre++[w]) suf (by rw[e];simp)
  simp only[List.length_append,List.length_singleton]at ih
  have h15:Gp.length=14:=rfl
  have hw:pk Gp pre.length=w:=by
   have h1:Gp[pre.length]? = some w:=by rw[e];simp
   unfold pk
   rw[h1,Option.getD_some]
   have h2:∀ c∈Gp,c%256=c:=by decide
   simp_all
  rw[IV,decide_eq_true hp,cond_true,aP,cS hp,aP,cS hi,hw]
  simp only[di,neq,ak,aS (show pre.length<2^62 by omega),ih]
  grind
theorem SH(l:af)(hl:l.length<2^59)(i:Nat)(hi:i<l.length)(H:DH):ay 195 [.str l,.i i] H=ret (.i (sD l i:Nat)) H:=by
 refine ev (Yr) ?_
 have j:=Ag l i hi H [] Gp rfl
 have two:∀ {a b:Nat},(l.drop i).take 2=[a,b]->i+2<=l.length:=fun h=>by
  grind [List.length_take]
 have k:¬(l.drop i).take 2=[61,62]->¬(l.drop i).take 2=[45,62]->(ret (.i (if pk l i∈Gp then 1 else 0)) H:ah)=ret (.i (sD l i:Nat)) H:=fun h1 h2=>by
  grind [sD]
 rw[aS (show i<2^62 by omega),IV]
 by_cases hc:i+1<l.length
 ·rw[decide_eq_true hc,cond_true,show((i:Nat):Int)+2=((i:Nat):Int)+((2:Nat):Int)from rfl,wN (show i+2<2^62 by omega),Pe l i (i+2) H _ (by omega) (by omega),Pe l i (i+2) H _ (by omega) (by omega),show i+2 - i=2 by omega]
  simp only[lj,ak]
  by_cases h1:(l.drop i).take 2=[61,62]
  ·grind [sD]
  ·rw[show((l.drop i).take 2==[61,62])=false from beq_eq_false_iff_ne.2 h1,cond_false]
   by_cases h2:(l.drop i).take 2=[45,62]
   ·grind [sD]
   ·rw[show((l.drop i).take 2==[45,62])=false from beq_eq_false_iff_ne.2 h2,cond_false]
    exact j.trans (k h1 h2)
 ·rw[decide_eq_false hc,cond_false]
  exact j.trans (k (fun h=>by have:=two h;omega) (fun h=>by have:=two h;omega))
theorem Le(t:TypeId)(c:Bool)(a:Int)(κ:D->ah):av ab .quo t c (.i a) (.i 10) κ=κ (.i (cq (a.tdiv 10))):=rfl
theorem Oz(t:TypeId)(c:Bool)(a b:Int)(κ:D->ah):av ab .sub t c (.int .u8 a) (.int .u8 b) κ=κ (.int .u8 (IntKind.wrap .u8 (a - b))):=rfl
theorem Ux(a:Int)(κ:D->ah):pD ab 5 3 (.int .u8 a) κ=κ (.i (cq a)):=by kernel_rfl
theorem wM(x:af)(hx:x.length<2^60)(H:DH)(v4 v6:Int):∀(n i:Nat) (v5:Int),n=x.length - i->i<=x.length ->
 ∃ a e:Int,ae am 188 200009 [.g (.str x),.n v4,.n v5,.n v6,.n i] [] H=ret (.tuple [.i a,.i e]) H
 |n,i,v5,hn,hi=>by
  rw[show ae am 188 200009 [.g (.str x),.n v4,.n v5,.n v6,.n i] [] H=_ from cM (EQ) rfl]
  rw[IV]
  by_cases hc:i<x.length
  ·rw[decide_eq_true hc,cond_true,aP,cS hc,aw (rU _ _)]
   simp only[ct,ak]
   cases bg (pk x i)with
   |false=>exact⟨_,_,rfl⟩
   |true =>
    rw[Bool.not_true,cond_false,aP,cS hc]
    simp only[Oz,Ux,eO,Le,Df,De,ak]
    cases decide (v5<_)with
    |true=>exact⟨_,_,rfl⟩
    |false =>
     rw[cond_false,aS (show i<2^62 by omega)]
     exact wM x hx H v4 v6 (n - 1) (i+1) _ (by omega) (by omega)
  ·rw[decide_eq_false hc,cond_false]
   cases v4==1 with
   |true=>exact⟨_,_,rfl⟩
   |false =>
    rw[cond_false]
    cases v5==v6 with
    |true=>exact⟨_,_,rfl⟩
    |false=>exact⟨_,_,rfl⟩
 termination_by n=>n
theorem Ni(x:af)(hx:x.length<2^60)(H:DH)(i:Nat)(hi:i<=x.length):∃ a e:Int,ae am 188 4 [.g (.str x),.n i] [] H=ret (.tuple [.i a,.i e]) H:=by
 rw[show ae am 188 4 [.g (.str x),.n i] [] H=_ from cM (Un) rfl]
 rw[neq]
 by_cases h:x.length=i
 ·simp_all
 ·rw[show(x.length==i)=false from beq_eq_false_iff_ne.2 h,cond_false]
  cases decide ((x.length:Int)>30)with
  |true=>exact⟨_,_,rfl⟩
  |false =>
   rw[cond_false,aP,cS (by omega)]
   simp only[di,ak]
   cases ((pk x i:Int)==48)with
   |true =>
    rw[cond_true]
    cases decide ((x.length:Int)>1)with
    |true=>exact⟨_,_,rfl⟩
    |false=>rw[cond_false];exact wM x hx H i _ _ i 0 rfl hi
   |false=>rw[cond_false];exact wM x hx H i _ _ i 0 rfl hi
theorem Vv(x:af)(hx:x.length<2^60)(H:DH):∃ a e:Int,ay 188 [.str x] H=ret (.tuple [.i a,.i e]) H:=by
 rw[show ay 188 [.str x] H=_ from ev (Yz) rfl]
 rw[show(0:Int)=((0:Nat):Int)from rfl,Nm]
 by_cases h:0<x.length
 ·rw[decide_eq_true h,cond_true,cS h]
  simp only[di,ak]
  cases ((pk x 0:Int)==126)with
  |true=>rw[cond_true];exact Ni x hx H 1 h
  |false=>rw[cond_false];exact Ni x hx H 0 (Nat.zero_le _)
 ·rw[decide_eq_false h,cond_false];exact Ni x hx H 0 (Nat.zero_le _)
def yY(l:af)(H:DH)(r:ah):Prop:=∃(k v e a:Int) (t:af),r=ret (.tuple [.agg (xT k v t a),.i e]) H/\(fD l 0->e=0->k=1) /\
 (¬ fD l 0->match fG l 0 with|none=>e≠0|some (k',n)=>e=0/\k=k'/\t=l.take n)
variable{l:af}
theorem MP(hl:l.length<=100)(H:DH)(hn:fD l 0)(i:Nat)(hi:i<=l.length) :
 yY l H (ae am 137 8 [.g (.str l),.n ((0:Nat):Int),.lp 0 0,.n i] [(0,(xT 0 0 [] 0))] H):=by
 rw[show ae am 137 8 [.g (.str l),.n ((0:Nat):Int),.lp 0 0,.n i] [(0,(xT 0 0 [] 0))] H=_ from cM (Uo) rfl]
 rw[Pe l 0 i H _ (Nat.zero_le _) hi]
 obtain⟨a,e,h⟩:=Vv ((l.drop 0).take (i - 0)) (by rw[List.length_take,List.length_drop];omega) H
 rw[aw h]
 simp only[lZ,aj,ar,kC,ak]
 have bad:yY l H (ret (.tuple [.agg (xT 0 0 [] 0),.i 13]) H):=⟨0,0,13,0,[],rfl,(fun _ q=>by cases q),fun q=>(q hn).elim⟩
 have good:yY l H (ae am 137 11 [.g (.str l),.n ((0:Nat):Int),.lp 0 0,.n i,.n a] [(0,(xT 0 0 [] 0))] H):=by
  rw[show ae am 137 11 [.g (.str l),.n ((0:Nat):Int),.lp 0 0,.n i,.n a] [(0,(xT 0 0 [] 0))] H=_ from cM (QK) rfl]
  rw[Pe l 0 i H _ (Nat.zero_le _) hi]
  exact⟨1,a,0,0,_,rfl,fun _ _=>rfl,fun q=>(q hn).elim⟩
 cases (e != 0)with
 |true=>rw[cond_true];exact bad
 |false =>
  rw[cond_false,IV]
  by_cases hc:i<l.length
  ·rw[decide_eq_true hc,cond_true,aP,cS hc,aw (GD _ _),ak]
   cases aW (pk l i)with
   |true=>rw[cond_true];exact bad
   |false =>
    rw[cond_false,aP,cS hc]
    simp only[di,ak]
    cases ((pk l i:Int)==39)with
    |true=>rw[cond_true];exact bad
    |false=>rw[cond_false];exact good
  ·rw[decide_eq_false hc,cond_false];exact good
theorem GA(hl:l.length<=100)(H:DH)(hn:fD l 0):∀(n i:Nat),n=l.length - i->i<=l.length ->
 yY l H (ae am 137 200006 [.g (.str l),.n ((0:Nat):Int),.lp 0 0,.n i] [(0,(xT 0 0 [] 0))] H)
 |n,i,hq,hi=>by
  rw[show ae am 137 200006 [.g (.str l),.n ((0:Nat):Int),.lp 0 0,.n i] [(0,(xT 0 0 [] 0))] H=_ from cM (ET) rfl]
  rw[IV]
  by_cases hc:i<l.length
  ·rw[decide_eq_true hc,cond_true,aP,cS hc,aw (rU _ _),ak]
   cases bg (pk l i)with
   |true =>
    rw[cond_true,aS (show i<2^62 by omega)]
    exact GA hl H hn (n - 1) (i+1) (by omega) (by omega)
   |false=>rw[cond_false];exact MP hl H hn i hi
  grind [MP]
 termination_by n=>n
variable{l:af}
theorem BV(H:DH)(i:Nat)(hi:i<=l.length)(k:Int):ae am 137 26 [.g (.str l),.n ((0:Nat):Int),.lp 0 0,.n i,.n k] [(0,(xT 0 0 [] 0))] H=ret (.tuple [.agg (xT k 0 (l.take i) ((0:Nat):Int)),.i 0]) H:=by
 refine cM (QH) ?_
 rw[Pe l 0 i H _ (Nat.zero_le _) hi,List.drop_zero,Nat.sub_zero]
 rfl
theorem ID(hl:l.length<=100)(h0:0<l.length)(H:DH)(hn:¬ fD l 0)(h:eP (pk l 0)=true\/hQ (pk l 0)=true):yY l H (ae am 137 18 [.g (.str l),.n ((0:Nat):Int),.lp 0 0,.g (.int .u8 (pk l 0:Nat))] [(0,(xT 0 0 [] 0))] H):=by
 rw[show ae am 137 18 [.g (.str l),.n ((0:Nat):Int),.lp 0 0,.g (.int .u8 (pk l 0:Nat))] [(0,(xT 0 0 [] 0))] H=_ from cM (QI) rfl]
 rw[aw (Np l (by omega) H 0 (Nat.zero_le _)),Nat.zero_add]
 have hle:=rh l 0 (Nat.zero_le _)
 have hw:cq (((cK l 0:Nat):Int) - ((0:Nat):Int))=((cK l 0:Nat):Int):=by rw[BB]<;>omega
 simp only[De,hw,ff,show(24:Int)=((24:Nat):Int)from rfl,Nm,ak]
 by_cases hc:24<cK l 0
 ·rw[decide_eq_true hc,cond_true]
  refine⟨0,0,2,0,[],rfl,fun q=>(hn q).elim,fun _=>?_⟩
  grind [fG]
 ·rw[decide_eq_false hc,cond_false,aw (Cy _ _),ak]
  cases hg:hQ (pk l 0)with
  |true =>
   rw[cond_true,BV H _ (by omega) 3]
   have hs:¬ eP (pk l 0)=true:=fun hs=>by
    unfold eP at hs;unfold hQ at hg
    grind
   have:fG l 0=some (3,cK l 0):=by unfold fG;rw[if_neg hs,if_pos hg,if_neg hc]
   refine⟨3,0,0,_,_,rfl,fun q=>(hn q).elim,fun _=>?_⟩
   grind
  |false =>
   have hs:eP (pk l 0)=true:=h.resolve_right (by rw[hg];decide)
   rw[cond_false,Pe l 0 _ H _ (Nat.zero_le _) (show cK l 0<=l.length by omega),aw (Pl _ _),ak]
   rw[List.drop_zero,Nat.sub_zero]
   by_cases hw:l.take (cK l 0)∈uP
   ·rw[decide_eq_true hw,cond_true,BV H _ (by omega) 5]
    have:fG l 0=some (5,cK l 0):=by unfold fG;rw[if_pos hs,if_neg hc,List.drop_zero,if_pos hw]
    refine⟨5,0,0,_,_,rfl,fun q=>(hn q).elim,fun _=>?_⟩
    grind
   ·rw[decide_eq_false hw,cond_false,BV H _ (by omega) 2]
    have:fG l 0=some (2,cK l 0):=by unfold fG;rw[if_pos hs,if_neg hc,List.drop_zero,if_neg hw]
    refine⟨2,0,0,_,_,rfl,fun q=>(hn q).elim,fun _=>?_⟩
    grind
theorem BW(hl:l.length<=100)(h0:0<l.length)(H:DH)(hn:¬ fD l 0)(hq:¬(pk l 0=39/\eP (pk l 1)=true)):yY l H (ae am 137 17 [.g (.str l),.n ((0:Nat):Int),.lp 0 0,.g (.int .u8 (pk l 0:Nat))] [(0,(xT 0 0 [] 0))] H):=by
 rw[show ae am 137 17 [.g (.str l),.n ((0:Nat):Int),.lp 0 0,.g (.int .u8 (pk l 0:Nat))] [(0,(xT 0 0 [] 0))] H=_ from cM (QJ) rfl]
 rw[aw (BF _ _),ak]
 cases hs:eP (pk l 0)with
 |true=>rw[cond_true];exact ID hl h0 H hn (.inl hs)
 |false =>
  rw[cond_false,aw (Cy _ _),ak]
  cases hg:hQ (pk l 0)with
  |true=>rw[cond_true];exact ID hl h0 H hn (.inr hg)
  |false =>
   have ht:fG l 0=if sD l 0=0 then none else some (6,sD l 0):=by
    grind [fG]
   have hle:sD l 0<=l.length:=by
    grind [sD,List.drop,List.length_take,List.length_drop]
   rw[cond_false,aw (SH l (by omega) 0 h0 H)]
   simp only[di,ak]
   by_cases hz:sD l 0=0
   ·rw[if_pos hz]at ht
    rw[hz,show(((0:Nat):Int)==0)=true from rfl,cond_true]
    refine⟨0,0,11,0,[],rfl,fun q=>(hn q).elim,fun _=>?_⟩
    rw[ht];simp
   ·rw[if_neg hz]at ht
    rw[show(((sD l 0:Nat):Int)==0)=false by simp;omega,cond_false]
    simp only[eO,wN (show 0+sD l 0<2^62 by omega),Nat.zero_add]
    rw[Pe l 0 _ H _ (Nat.zero_le _) hle,List.drop_zero,Nat.sub_zero]
    refine⟨6,0,0,_,_,rfl,fun q=>(hn q).elim,fun _=>?_⟩
    grind
theorem PK(hl:l.length<=100)(h0:0<l.length)(H:DH):yY l H (ay 137 [.str l,.i ((0:Nat):Int)] H):=by
 rw[show ay 137 [.str l,.i ((0:Nat):Int)] H=_ from ev (YE) rfl]
 rw[aP,cS h0]
 have w1:cq (((0:Nat):Int)+1)=((1:Nat):Int):=aS (n:=0) (by omega)
 simp only[di,show(126:Int)=((126:Nat):Int)from rfl,show(39:Int)=((39:Nat):Int)from rfl,neq,ak,aw (rU _ _),w1]
 by_cases h126:pk l 0=126
 ·rw[h126,BEq.rfl,cond_true,cond_true]
  exact GA hl H (.inr h126) _ 1 rfl h0
 rw[show(pk l 0==126)=false from beq_eq_false_iff_ne.2 h126,cond_false,cond_false]
 cases hd:bg (pk l 0)with
 |true=>rw[cond_true];exact GA hl H (.inl hd) _ 0 rfl (Nat.zero_le _)
 |false =>
 rw[cond_false]
 have hnn:¬ fD l 0:=fun h=>by rcases h with h|h;exact(by rw[hd]at h;cases h);exact h126 h
 by_cases h39:pk l 0=39
 ·have h39b:(pk l 0==39)=true:=by rw[h39];rfl
  rw[h39b,cond_true,IV]
  by_cases h1:1<l.length
  ·rw[decide_eq_true h1,cond_true,aP,cS h1,aw (BF _ _),ak]
   cases hs:eP (pk l 1)with
   |true =>
    have hr:=qN aW l 1 (by omega)
    have hw:cq (((1+rn aW l 1:Nat):Int) - ((0:Nat):Int))=((1+rn aW l 1:Nat):Int):=by rw[BB]<;>omega
    have hs0:eP (pk l 0)=false:=by rw[h39];rfl
    have hg0:hQ (pk l 0)=false:=by rw[h39];rfl
    have ht:fG l 0=if 1+rn aW l 1>24 then none else some (4,1+rn aW l 1):=by
     grind [fG]
    rw[cond_true,aw (MX l (by omega) H 1 (by omega))]
    simp only[De,hw,ff,show(24:Int)=((24:Nat):Int)from rfl,Nm,ak]
    by_cases hc:24<1+rn aW l 1
    ·rw[if_pos hc]at ht
     rw[decide_eq_true hc,cond_true]
     refine⟨0,0,2,0,[],rfl,fun q=>(hnn q).elim,fun _=>?_⟩
     rw[ht];simp
    ·rw[if_neg hc]at ht
     rw[decide_eq_false hc,cond_false,Pe l 0 _ H _ (Nat.zero_le _) (by omega),List.drop_zero,Nat.sub_zero]
     refine⟨4,0,0,_,_,rfl,fun q=>(hnn q).elim,fun _=>?_⟩
     grind
   |false =>
    grind [BW]
  ·rw[decide_eq_false h1,cond_false]
   exact BW hl h0 H hnn (fun h=>by rw[ni (show l.length<=1 by omega)]at h;cases h.2)
 grind [BW]
theorem DF{k:Int}{n:Nat}(h:fG l 0=some (k,n))(h0:0<l.length):n<=24/\n<=l.length:=by
 have a1:=rh l 0 (Nat.zero_le _)
 unfold fG at h
 split at h
 ·grind
 ·split at h
  ·grind
  ·split at h
   ·rename_i hq
    have h1:1<l.length:=by
     rcases Nat.lt_or_ge 1 l.length with q|q
     ·exact q
     ·rw[ni (show l.length<=0+1 by omega)]at hq;cases hq.2
    have a2:=qN aW l (0+1) (by omega)
    grind
   grind [sD,List.drop,List.length_take,List.length_drop]
theorem NH(hl:l.length<=100)(h0:0<l.length)(hs:¬ skip l 0)(H:DH):∃ k,ae am 90 5 [.g (.str l)] [] H=ret (.i k) H/\sw l k:=by
 rw[show ae am 90 5 [.g (.str l)] [] H=_ from cM (Wr) rfl]
 obtain⟨k,v,e,a,t,h1,h2,h3⟩:=PK hl h0 H
 have h1:ay 137 [.str l,.i 0] H=_:=h1
 rw[aw h1]
 simp only[lZ,aj,ar,Ww,UZ,kC,ak,KB]
 by_cases he:e=0
 ·subst he
  rw[show((0:Int) != 0)=false from rfl,cond_false]
  by_cases ht:t.length=l.length
  ·rw[ht,show(((l.length:Nat):Int) !=((l.length:Nat):Int))=false by simp,cond_false]
   refine⟨k,rfl,?_⟩
   by_cases hn:fD l 0
   ·exact .inr ⟨hn,h2 hn rfl⟩
   ·have h3:=h3 hn
    cases hq:fG l 0 with
    |none=>rw[hq]at h3;exact(h3 rfl).elim
    |some p =>
     obtain⟨k',n⟩:=p
     rw[hq]at h3
     obtain⟨_,rfl,rfl⟩:=h3
     rw[List.length_take]at ht
     refine .inl ?_
     unfold eG
     by_cases h24:24<l.length
     ·exfalso
      have:=DF hq h0
      omega
     ·rw[if_neg (by rintro(q|q|q|q);omega;exact h24 q;exact hs q;exact hn q),hq]
      simp_all[DF]
  ·rw[show(((t.length:Nat):Int) !=((l.length:Nat):Int))=true by simp;omega,cond_true]
   refine⟨0,rfl,.inl ?_⟩
   grind [eG]
 ·rw[show(e != 0)=true by simp[he],cond_true]
  refine⟨0,rfl,.inl ?_⟩
  grind [eG]
theorem Tx(l:af)(H:DH):∃ k,ay 90 [.str l] H=ret (.i k) H/\sw l k:=by
 rw[show ay 90 [.str l] H=_ from ev (ZR) rfl]
 rw[show(0:Int)=((0:Nat):Int)from rfl,show(100:Int)=((100:Nat):Int)from rfl,show(1:Int)=((1:Nat):Int)from rfl,neq,Nm,Nm]
 by_cases h0:l.length=0
 ·rw[h0,BEq.rfl,cond_true]
  exact⟨0,rfl,.inl (fO (.inl h0)).symm⟩
 rw[show(l.length==0)=false from beq_eq_false_iff_ne.2 h0,cond_false]
 by_cases h100:100<l.length
 ·rw[decide_eq_true h100,cond_true]
  exact⟨0,rfl,.inl (fO (.inr (.inl (by omega)))).symm⟩
 rw[decide_eq_false h100,cond_false,cS (show 0<l.length by omega),aw (PA _ _),ak]
 cases hs:dN (pk l 0)with
 |true =>
  rw[cond_true]
  exact⟨0,rfl,.inl (fO (.inr (.inr (.inl (.inl hs))))).symm⟩
 |false =>
  rw[cond_false]
  by_cases h1:1<l.length
  ·rw[decide_eq_true h1,cond_true,show(.i 2:D)=.i ((2:Nat):Int)from rfl,Vk l 2 H _ (by omega)]
   simp only[lj,ak]
   by_cases h2:l.take 2=[40,42]
   ·rw[h2,BEq.rfl,cond_true]
    exact⟨0,rfl,.inl (fO (.inr (.inr (.inl (.inr h2))))).symm⟩
   ·rw[show(l.take 2==[40,42])=false from beq_eq_false_iff_ne.2 h2,cond_false]
    exact NH (by omega) (by omega) (fun h=>by rcases h with h|h;exact(by rw[hs]at h;cases h);exact h2 h) H
  ·rw[decide_eq_false h1,cond_false]
   refine NH (by omega) (by omega) (fun h=>?_) H
   rcases h with h|h
   ·grind
   grind [List.length_take]
theorem XF{α:Type}{l:List α}{i:Nat}{x:α}(h:l[i]? = some x):l.set i x=l:=@kE ⟨fun _=>True,[],fun _ _ _ h=>h⟩ α l i x h
inductive Ty where
 |mk (n:af) (xs:List Ty)
mutual
def cG:Ty->List D
 |.mk n xs=>[.str n,.row 2 (aM xs)]
def aM:List Ty->dB
 |[]=>[]
 |t::r=>cG t::aM r
end
theorem fg:∀ l,aM l=l.map cG
 |[]=>rfl
 |t::r=>by simp[aM,fg r]
mutual
def Ty.ok:Ty->Prop
 |.mk _ xs=>xs.length<2^62/\Ty.oks xs
def Ty.oks:List Ty->Prop
 |[]=>True
 |t::r=>t.ok/\Ty.oks r
end
theorem Ty.oks_iff:∀ {l},Ty.oks l↔∀ t∈l,Ty.ok t
 |[]=>by simp[Ty.oks]
 |t::r=>by simp[Ty.oks,Ty.oks_iff (l:=r)]
theorem To{α β:Type}(f:α->β)(pre:List α)(t:α)(suf:List α):((pre++t::suf).map f)[pre.length]? = some (f t):=by simp
end Go.Proofs.YtenibcfppefobaaGreatDoor
namespace Go.Proofs.YtenibcfppefobaaGreatDoor
open Go.AI
structure FW(kind:af->Int):Prop where
 a:∀ s H,∃ k,ay 57 [.str s] H=ret (.i k) H/\(k=kind s\/(kind s=0/\k=1))
 b:∀ s H,∃ k,ay 90 [.str s] H=ret (.i k) H/\(k=kind s\/(kind s=0/\k=1))
 c:kind [44]≠3
theorem kq{k n j:Int}(h:k=n\/(n=0/\k=1))(hj:2<=j):(k==j)=(n==j):=by
 grind
variable{kind:af->Int}(K:FW kind)
include K
theorem Qu(s:af)(H:DH):ay 55 [.str s] H=ret (.bool (kind s==3)) H:=by
 obtain⟨k,h1,h2⟩:=K.a s H
 exact ev (f55) (by simp only[aw h1,di,kq h2 (show(2:Int)<=3 by decide)])
theorem vA(s:af)(H:DH):ay 29 [.str s] H=ret (.bool (kind s==4)) H:=by
 obtain⟨k,h1,h2⟩:=K.a s H
 exact ev (f29) (by simp only[aw h1,di,kq h2 (show(2:Int)<=4 by decide)])
omit K
section
variable(kind:af->Int)
end
theorem aT:∀ l,(aM l).length=l.length:=fun l=>by rw[fg,List.length_map]
theorem fq(pre:List Ty)(t:Ty)(suf:List Ty):(aM (pre++t::suf))[pre.length]? = some (cG t):=by rw[fg];exact To _ _ _ _
include K
end Go.Proofs.YtenibcfppefobaaGreatDoor
namespace Go.Proofs.YtenibcfppefobaaGreatDoor
open Go.AI
theorem ZQ:FW eG:=by
 have w:∀ {l:af} {k:Int},sw l k->k=eG l\/(eG l=0/\k=1):=fun h=>by
  rcases h with h|⟨h1,h2⟩
  ·exact .inl h
  grind [fO]
 refine⟨fun s H=>?_,fun s H=>?_,?_⟩
 ·obtain⟨k,h1,h2⟩:=Tz s H;exact⟨k,h1,w h2⟩
 ·obtain⟨k,h1,h2⟩:=Tx s H;exact⟨k,h1,w h2⟩
 ·unfold eG
  split
  ·decide
  ·have:fG [44] 0=some (6,1):=by decide
   grind
end Go.Proofs.YtenibcfppefobaaGreatDoor
namespace Go.Proofs.YtenibcfppefobaaGreatDoor
open Go.RowKit Go.Lib
structure oW(w:World):Prop where
 mx:∃ m,w.cell? ⟨1,0,none⟩=some (.int .i64 m)
 syn:∃ ev,w.cell? ⟨4,0,none⟩=some ev/\(ev=.nilIface\/∃ te pe,ev=.iface te pe)
 rng:∃ ev,w.cell? ⟨5,0,none⟩=some ev/\(ev=.nilIface\/∃ te pe,ev=.iface te pe)
 pow:Lib.TabIs Tryz.prog w "internal/strconv.uint64pow10" .u64 Lib.pow10Tab
 sz:6<=w.heap.size
 pw:∀ w',Below w.heap.size w w'->Lib.TabIs Tryz.prog w' "internal/strconv.uint64pow10" .u64 Lib.pow10Tab
theorem oW.below{w w':World}(h:oW w)(b:Below w.heap.size w w'):oW w':=by
 have hs:=h.sz
 refine⟨?_,?_,?_,h.pw w' b,Nat.le_trans h.sz b.size,fun w2 b2=>h.pw w2 (b.trans ⟨b2.os,b2.tape,b2.output,b2.size,fun k hk=>b2.block k (Nat.lt_of_lt_of_le hk b.size)⟩)⟩
 ·obtain⟨m,hm⟩:=h.mx;exact⟨m,(b.cell (p:=⟨1,0,none⟩) (show 1<w.heap.size by omega)).trans hm⟩
 ·obtain⟨m,hm,h2⟩:=h.syn;exact⟨m,(b.cell (p:=⟨4,0,none⟩) (show 4<w.heap.size by omega)).trans hm,h2⟩
 ·obtain⟨m,hm,h2⟩:=h.rng;exact⟨m,(b.cell (p:=⟨5,0,none⟩) (show 5<w.heap.size by omega)).trans hm,h2⟩
theorem Below.up{a b c:World}(h:Below a.heap.size a b)(k:Below b.heap.size b c):Below a.heap.size a c :=
 h.trans ⟨k.os,k.tape,k.output,k.size,fun i hi=>k.block i (Nat.lt_of_lt_of_le hi h.size)⟩
theorem qP(old new:List UInt8):∀(k:Nat) (s:List UInt8),(Lib.replaceK old new k s).length<=s.length+k*new.length
 |0,s=>by simp[Lib.replaceK]
 |k+1,s=>by
  rw[Lib.replaceK]
  split
  ·omega
  ·have ih:=qP old new k (s.drop ((Lib.index s old).toNat+old.length))
   grind
theorem DW(s old new:List UInt8):(Lib.replace s old new 1).length<=s.length+new.length:=by
 unfold Lib.replace
 split
 ·omega
 ·have h1:=qP old new (Lib.replaceNum s old 1) s
  have h2:Lib.replaceNum s old 1<=1:=by unfold Lib.replaceNum;split<;>simp_all;omega
  have h3:Lib.replaceNum s old 1*new.length<=1*new.length:=Nat.mul_le_mul_right _ h2
  omega
theorem CT(n:Int)(h0:-9223372036854775808<=n)(h1:n<=9223372036854775807)(w:World)(hw:oW w) :
 Calls Tryz.prog 279 #[.int .i64 n] w fun e w'=>e=.returned (.string (QR n))/\Below w.heap.size w w':=by
 go_enter Tryz.func279,Tryz.ntmps279
 go_wp2_with (first
  |(go_at_call 89;refine(Tryz.strconv_Itoa n h0 h1 _ hw.pow).mono ?_;rintro e W1 ⟨rfl,k,os,rfl⟩))
 have hb1:Below w.heap.size w (Go.Sort.grow (w.drewN k) os):=below_regrown w _ os
 have hw1:=hw.below hb1
 obtain⟨m,hm⟩:=hw1.mx
 have hlen:=Lib.itoa_length_le n h0 h1
 have hsz:(ByteArray.mk (Lib.itoa n).toArray).size=(Lib.itoa n).length:=by simp[ByteArray.size]
 have hcb:=Lib.countB_mul_le (ByteArray.mk #[45]) (by decide) _ (ByteArray.mk (Lib.itoa n).toArray) (Nat.le_refl _)
 refine(Tryz.strings_Replace ⟨(Lib.itoa n).toArray⟩ ⟨#[45]⟩ ⟨#[126]⟩ 1 m _ (by omega) hm (by decide) ?_).mono ?_
 ·have:(ByteArray.mk #[126]).size=1:=rfl
  have h45:(ByteArray.mk #[45]).size=1:=rfl
  rw[this];rw[h45]at hcb;omega
 rintro e W2 ⟨rfl,hb2⟩
 go_wp2
 go_ret
 exact⟨rfl,Below.up hb1 hb2⟩
theorem Cg(s:ByteArray)(hs:s.size<=1000)(w:World)(hw:oW w) :
 Calls Tryz.prog 262 #[.string s] w fun e w'=>e=.returned (.tuple #[.int .i64 (pP s).1,.int .i64 (pP s).2])/\Below w.heap.size w w':=by
 obtain⟨m,hm⟩:=hw.mx
 have hcb:=Lib.countB_mul_le (ByteArray.mk #[126]) (by decide) _ s (Nat.le_refl _)
 have h126:(ByteArray.mk #[126]).size=1:=rfl
 have h45:(ByteArray.mk #[45]).size=1:=rfl
 rw[h126]at hcb
 go_enter Tryz.func262,Tryz.ntmps262
 go_wp2_with (first
  |(go_at_call 278;refine(Tryz.strings_Replace s ⟨#[126]⟩ ⟨#[45]⟩ 1 m _ (by omega) hm (by decide) (by rw[h45];omega)).mono ?_;rintro e W1 ⟨rfl,hb1⟩))
 have hw1:=hw.below hb1
 have hrl:=DW s.data.toList [126] [45]
 have hrs:(zm s).size=(Lib.replace s.data.toList [126] [45] 1).length:=by simp[zm,ByteArray.size]
 have hsl:s.size=s.data.toList.length:=by rw[Array.length_toList];rfl
 have hr2:(zm s).size<=1001:=by rw[hrs];have:[(45:UInt8)].length=1:=rfl;omega
 change Calls Tryz.prog 277 #[.string (zm s)] W1 _
 rcases ha:Lib.atoiAll (zm s).data.toList with v|_|_
 ·obtain⟨g0,g1⟩:=Lib.atoiAll_bounds ha
  refine(Tryz.strconv_Atoi_ok (zm s) (by omega) v ha W1).mono ?_
  rintro e W2 ⟨rfl,hb2⟩
  have hb2:Below W1.heap.size W1 W2:=by
   rcases hb2 with rfl|⟨t,rfl⟩
   ·exact Below.refl _ _
   ·exact Lib.bytesWorld_below _ _ _
  have hw2:=hw1.below hb2
  go_wp2_with (first
   |(go_at_call 279;refine(CT v g0 g1 _ hw2).mono ?_;rintro e W3 ⟨rfl,hb3⟩))
  ·rename_i hq
   go_ret2
   refine⟨?_,Below.up (Below.up hb1 hb2) hb3⟩
   have hq2:((QR v).toList==s.toList)=false:=by simpa using hq
   simp only[pP,ha];rw[hq2];rfl
  ·rename_i hq
   have hq2:((QR v).toList==s.toList)=true:=by simpa using hq
   go_wp2
   go_ret2
   refine⟨?_,Below.up (Below.up hb1 hb2) hb3⟩
   simp only[pP,ha];rw[hq2];rfl
 ·obtain⟨ev,hv,hev⟩:=hw1.syn
  refine(show Calls Tryz.prog 277 #[.string (zm s)] W1 _ from Any.strconv_Atoi_syntax Tryz.laysC172 (zm s) (by omega) ha ev W1 hv hev).mono ?_
  rintro e W2 ⟨N,rfl,hN,hcell,hb2⟩
  go_wp2
  go_ret2
  refine⟨?_,Below.up hb1 hb2⟩
  simp only[pP,ha]
  rfl
 ·obtain⟨ev,hv,hev⟩:=hw1.rng
  refine(Tryz.strconv_Atoi_range (zm s) (by omega) ha ev W1 hv hev).mono ?_
  rintro e W2 ⟨N,rfl,hN,hcell,hb2⟩
  go_wp2
  go_ret2
  refine⟨?_,Below.up hb1 hb2⟩
  simp only[pP,ha]
  rfl
end Go.Proofs.YtenibcfppefobaaGreatDoor
namespace Go.AI
open Go.RowKit
theorem lB{P:Program}{f:FuncId}{args:List V}{s:S}{v:V} (he:∀ ρ w ys,HR ρ s w->aQ ρ args=some ys->(∀ w,(callFunc f ys.toArray).run P w=.ok (.enter f ys.toArray) w) /\
 Calls P f ys.toArray w fun e w'=>∃ y,e=.returned y/\(∀ ρ,den ρ v=some y)/\Below w.heap.size w w'):fI P f args none s ⟨.returned v,none,s⟩:=by
 intro ρ w ys hr hd
 obtain⟨h1,h2⟩:=he ρ w ys hr hd
 refine⟨h1,fun cs hup=>?_⟩
 obtain⟨e,w',fr,⟨y,rfl,h3,h4⟩,h5,h6,h7⟩:=h2 cs
 exact⟨ρ,w',hr.frame h4.size h4.block,⟨ρ.le_refl,h4.size,h4.os,h4.tape,h4.output,fun b hb _=>h4.block b hb,fun f v l e _=>⟨f,v,l,e,rfl,id⟩⟩,fr,.returned y,h3 ρ,h5,h6,h7⟩
theorem ls{ρ:aD}{s:S}{w:World}(h:HR ρ s w){g:Nat}{cs:List V}(hc:fM s g=some cs):∃(c:Array Value) (e:TypeId) (fz:Nat×Nat),w.heap[g]? = some (.cells c e fz)/\aQ ρ cs=some c.toList:=by
 unfold fM at hc
 split at hc
 ·rename_i vers hg
  split at hc
  ·rename_i u hu
   cases hc
   obtain⟨hm,hv⟩:=eM hu
   obtain⟨⟨l,c,e,fz,h1,h2,h3,h4⟩,l',c',e',fz',g1,g2,g3,g4⟩:=h.blk _ _ hg u hm
   rw[h1]at g1;cases g1
   rw[g2,g3]at h2;cases h2
   obtain⟨k1,k2⟩:=g4 hv
   refine⟨c,e,fz,g3,kx (by rw[<- k2];simp) fun i x hx=>?_⟩
   obtain⟨y,hy,hy'⟩:=h4 i x hx
   refine⟨y,hy,?_⟩
   rw[k1]at hy'
   rw[Array.getElem?_toList]
   simpa using hy'
  ·cases hc
 ·cases hc
end Go.AI
namespace Go.Proofs.YtenibcfppefobaaGreatDoor
open Go.AI Go.RowKit
theorem Se{w:World}{g:Nat}{c:Array Value}{e:TypeId}{fz:Nat×Nat}{v:Value}(h:w.heap[g]? = some (.cells c e fz))(hc:c.toList=[v]):w.cell? ⟨g,0,none⟩=some v:=by
 unfold World.cell?
 simp only[h]
 have:c[0]? = some v:=by rw[<- Array.getElem?_toList,hc];rfl
 grind
theorem Of{ρ:aD}{s:S}{w:World}(h:HR ρ s w){g:Nat}(hc:∃ c,fM s g=some c/\vB c=true):∃ ev,w.cell? ⟨g,0,none⟩=some ev/\(ev=.nilIface\/∃ te pe,ev=.iface te pe):=by
 obtain⟨c,h1,h2⟩:=hc
 obtain⟨ca,e,fz,h3,h4⟩:=ls h h1
 unfold vB at h2
 grind [aQ,den,Se]
theorem QT(ρ:aD):aQ ρ Eb=some (Lib.pow10Tab.map fun z=>Value.int .u64 z):=by rfl
theorem wO{ρ:aD}{s:S}{w:World}(h:HR ρ s w)(hg:qn s):oW w:=by
 have htab:∀ w':World,w'.heap[0]? = w.heap[0]?->Lib.TabIs Tryz.prog w' "internal/strconv.uint64pow10" .u64 Lib.pow10Tab:=by
  intro w' hw'
  obtain⟨c,e,fz,h1,h2⟩:=ls h hg.pow
  rw[QT]at h2
  unfold Lib.TabIs World.var?
  have hn:Tryz.prog.globalNamed "internal/strconv.uint64pow10" = some 0:=by kernel_rfl
  simp_all
 have hsz:6<=w.heap.size:=by
  obtain⟨c,h1,_⟩:=hg.rng
  obtain⟨ca,e,fz,h3,_⟩:=ls h h1
  grind
 refine⟨?_,Of h hg.syn,Of h hg.rng,htab w rfl,hsz,fun w' b=>htab w' (b.block 0 (by omega))⟩
 obtain⟨c,h1,h2⟩:=hg.mx
 obtain⟨ca,e,fz,h3,h4⟩:=ls h h1
 unfold Jh at h2
 grind [aQ,den,Se]
theorem Ch{args:List V}{s:S}{v:V}{s':S}(h:wP args s=some (v,s')):fI Tryz.prog 262 args none s ⟨.returned v,none,s'⟩:=by
 unfold wP at h
 split at h
 ·rename_i l
  split at h
  ·rename_i hg
   cases h
   refine lB fun ρ w ys hr hd=>?_
   simp only[aQ,den]at hd
   cases hd
   refine⟨fun w=>enters_of Tryz.func262 (by kernel_rfl) rfl _ w,(Cg (aC l) ?_ w (wO hr hg.1)).mono ?_⟩
   ·have:(aC l).size=l.length:=by unfold aC ByteArray.size;simp
    omega
   ·rintro e w' ⟨rfl,hb⟩
    exact⟨_,rfl,fun ρ=>rfl,hb⟩
  ·cases h
 ·cases h
theorem Ez(c:Nat)(hc:c<256):∀(l:List Nat) (n:Int),0<=n->(∀ x∈l,x<256)->uF l c n=if Lib.indexByte (l.map UInt8.ofNat) (UInt8.ofNat c)=-1 then -1 else Lib.indexByte (l.map UInt8.ofNat) (UInt8.ofNat c)+n
 |[],n,_,_=>rfl
 |x::l,n,hn,h=>by
  have ih:=Ez c hc l (n+1) (by omega) fun y hy=>h y (List.mem_cons_of_mem _ hy)
  have hx:=h x List.mem_cons_self
  have hge:=Lib.indexByte_ge (l.map UInt8.ofNat) (UInt8.ofNat c)
  have he:(UInt8.ofNat x==UInt8.ofNat c)=Nat.beq x c:=by
   rw[Bool.eq_iff_iff]
   simp only[beq_iff_eq,Nat.beq_eq]
   constructor
   ·intro h
    have:=congrArg UInt8.toNat h
    simp at this;omega
   ·rintro rfl;rfl
  simp only[uF,List.map_cons,Lib.indexByte,he]
  cases hb:Nat.beq x c with
  |true=>simp
  |false =>
   simp only[cond_false,Bool.false_eq_true,if_false]
   rw[ih]
   by_cases hq:Lib.indexByte (l.map UInt8.ofNat) (UInt8.ofNat c)=-1
   ·simp[hq]
   ·have h1:(Lib.indexByte (l.map UInt8.ofNat) (UInt8.ofNat c)==-1)=false:=by simpa using hq
    rw[if_neg hq,h1]
    simp only[Bool.false_eq_true,if_false]
    rw[if_neg (by omega)]
    omega
theorem Cw{args:List V}{s:S}{v:V}{s':S}(h:xy args s=some (v,s')):fI Tryz.prog 236 args none s ⟨.returned v,none,s'⟩:=by
 unfold xy at h
 split at h
 ·rename_i l c
  cases hb:Nat.blt c 256&&l.all (fun x=>Nat.blt x 256)with
  |false=>rw[hb,cond_false]at h;cases h
  |true =>
   rw[hb,cond_true]at h
   cases h
   simp only[Bool.and_eq_true,List.all_eq_true]at hb
   have hc:c<256:=Nat.lt_of_succ_le (Nat.le_of_ble_eq_true hb.1)
   have hl:∀ x∈l,x<256:=fun x hx=>Nat.lt_of_succ_le (Nat.le_of_ble_eq_true (hb.2 x hx))
   refine lB fun ρ w ys hr hd=>?_
   simp only[aQ,den]at hd
   cases hd
   refine⟨fun w=>enters_of Tryz.func236 (by kernel_rfl) rfl _ w,(Tryz.strings_IndexByte (aC l) (Int.ofNat c) w).mono ?_⟩
   rintro e w' ⟨rfl,rfl⟩
   refine⟨_,rfl,fun ρ=>?_,Below.refl _ _⟩
   have e1:(aC l).data.toList=l.map UInt8.ofNat:=by simp[aC]
   have e2:uF l c 0=Lib.indexByte (l.map UInt8.ofNat) (UInt8.ofNat c):=by
    simp_all[Ez]
   rw[e1]
   show some (Value.int .i64 (uF l c 0))=_
   rw[e2]
   rfl
 ·cases h
theorem Cu{args:List V}{s:S}{v:V}{s':S}(h:xu args s=some (v,s')):fI Tryz.prog 89 args none s ⟨.returned v,none,s'⟩:=by
 unfold xu at h
 split at h
 ·rename_i k
  split at h
  ·rename_i hg
   cases h
   refine lB fun ρ w ys hr hd=>?_
   simp only[aQ,den]at hd
   cases hd
   refine⟨fun w=>enters_of Tryz.func89 (by kernel_rfl) rfl _ w,(Tryz.strconv_Itoa ((k:Nat):Int) (by omega) (by have:=hg.2;omega) w (wO hr hg.1).pow).mono ?_⟩
   rintro e w' ⟨rfl,j,os,rfl⟩
   refine⟨_,rfl,fun ρ=>?_,below_regrown w _ os⟩
   simp only[den]
   have:aC (VX k)=⟨(Lib.itoa ((k:Nat):Int)).toArray⟩:=by
    have e:(UInt8.ofNat ∘ UInt8.toNat)=id:=by funext x;simp
    simp[aC,VX,List.map_map,e]
   rw[this]
  ·cases h
 ·cases h
end Go.Proofs.YtenibcfppefobaaGreatDoor
namespace Go.Proofs.YtenibcfppefobaaGreatDoor
open Go.AI
theorem nb{f n:Nat}(h:Nat.beq f n=true):f=n:=Nat.eq_of_beq_eq_true h
theorem XD:ss mc:=⟨fun f args s v s' h=>by
 change tH f args s=some (v,s')at h
 unfold tH at h
 cases h1:Nat.beq f 236 with
 |true=>rw[h1]at h;have:=nb h1;subst this;exact Cw h
 |false =>
  rw[h1,cond_false]at h
  cases h2:Nat.beq f 262 with
  |true=>rw[h2]at h;have:=nb h2;subst this;exact Ch h
  |false =>
   rw[h2,cond_false]at h
   cases h3:Nat.beq f 6 with
   |false =>
    rw[h3,cond_false]at h
    cases h4:Nat.beq f 89 with
    |false=>rw[h4]at h;cases h
    |true=>rw[h4]at h;have:=nb h4;subst this;exact Cu h
   |true =>
    rw[h3,cond_true]at h;have:=nb h3;subst this
    cases args with
    |cons a r=>cases h
    |nil=>cases h;exact Gt s⟩
theorem lu{s s':S}{g:Nat}(h:s'.get g=s.get g):fM s' g=fM s g:=by unfold fM;rw[h]
theorem QB(s s':S)(h:∀ f∈[0,1,4,5],s'.get f=s.get f)(k:qn s):qn s':=by
 obtain⟨⟨c1,h1,k1⟩,⟨c2,h2,k2⟩,⟨c3,h3,k3⟩,h4⟩:=k
 exact⟨⟨c1,(lu (h 1 (by simp))).trans h1,k1⟩,⟨c2,(lu (h 4 (by simp))).trans h2,k2⟩,⟨c3,(lu (h 5 (by simp))).trans h3,k3⟩,(lu (h 0 (by simp))).trans h4⟩
instance Zu:fE:=⟨qn,[0,1,4,5],QB⟩
theorem vt{f:FuncId}{vs:List V}{s:S}{v:V}(h:tH f vs s=some (v,s)):lim mc (.call f vs none) s=some ⟨.returned v,none,s⟩:=by
 rw[NB]
 have ho:mc.orc f vs s=some (v,s):=h
 grind [fe,yE]
theorem oE{g:Gh}(hok:Ok g){d:D}{v:V}(h:RD g d v):jb g.s.next g.Pv g ⟨.ret d,none,g.H⟩ ⟨.returned v,none,g.s⟩ :=
 ⟨g,rfl,rfl,rfl,hok,.refl _ _,⟨v,rfl,h⟩,rfl⟩
theorem XB:OW de:=by
 refine⟨fun f h vs s=>?_,fun f args H d H' e g hH hok vs hr=>?_⟩
 ·change YL f=false at h
  unfold YL at h
  simp only[Bool.or_eq_false_iff]at h
  show tH f vs s=none
  grind [tH]
 ·change Uu f args H=some (d,H')at e
  subst hH
  unfold Uu at e
  cases h1:Nat.beq f 236 with
  |true =>
   rw[h1,cond_true]at e;have:=nb h1;subst this
   split at e
   ·rename_i l c
    cases hb:Nat.blt c 256&&Nat.ble l.length 1000 with
    |false=>rw[hb]at e;cases e
    |true =>
     rw[hb]at e;cases e
     simp only[Go.AI.RL,RD]at hr
     obtain⟨_,_,rfl,⟨rfl,hl⟩,_,_,rfl,rfl,rfl⟩:=hr
     simp only[Bool.and_eq_true]at hb
     refine⟨_,vt (v:=.int .i64 (uF l c 0)) ?_,oE hok (by simp only[RD])⟩
     show xy [V.str l,V.int IntKind.u8 (Int.ofNat c)] g.s=_
     have:(Nat.blt c 256&&l.all fun x=>Nat.blt x 256)=true:=by
      simp_all
     grind [xy]
   ·cases e
  |false =>
   rw[h1,cond_false]at e
   cases h2:Nat.beq f 262 with
   |true =>
    rw[h2,cond_true]at e;have:=nb h2;subst this
    split at e
    ·rename_i l
     cases hb:Nat.ble l.length 1000 with
     |false=>rw[hb]at e;cases e
     |true =>
      rw[hb]at e;cases e
      simp only[Go.AI.RL,RD]at hr
      obtain⟨_,_,rfl,⟨rfl,hl⟩,rfl⟩:=hr
      refine⟨_,vt (v:=.tuple [.int .i64 (pP (aC l)).1,.int .i64 (pP (aC l)).2]) ?_,oE hok ?_⟩
      ·show wP [V.str l] g.s=_
       simp only[wP]
       rw[if_pos ⟨hok.gl.i,Nat.le_of_ble_eq_true hb⟩]
      ·simp only[RD,Go.AI.RL]
       grind
    ·cases e
   |false =>
    rw[h2,cond_false]at e
    cases h3:Nat.beq f 6 with
    |false =>
     rw[h3,cond_false]at e
     cases h4:Nat.beq f 89 with
     |false=>rw[h4]at e;cases e
     |true =>
      rw[h4,cond_true]at e;have:=nb h4;subst this
      split at e
      ·rename_i k
       cases hb:Nat.blt k 4000 with
       |false=>rw[hb]at e;cases e
       |true =>
        rw[hb]at e;cases e
        simp only[Go.AI.RL,RD]at hr
        obtain⟨_,_,rfl,rfl,rfl⟩:=hr
        refine⟨_,vt (v:=.str (VX k)) ?_,oE hok ?_⟩
        ·show xu [V.int IntKind.i64 (Int.ofNat k)] g.s=_
         simp only[xu]
         rw[if_pos ⟨hok.gl.i,Nat.le_of_ble_eq_true hb⟩]
        ·simp only[RD]
         refine⟨trivial,fun x hx=>?_⟩
         obtain⟨y,_,rfl⟩:=List.mem_map.1 hx
         exact y.toNat_lt
      ·cases e
    |true =>
     rw[h3,cond_true]at e;have:=nb h3;subst this
     split at e
     ·cases e
      simp only[Go.AI.RL]at hr
      subst hr
      exact⟨_,vt (v:=.bool true) rfl,oE hok (by simp only[RD])⟩
     ·cases e
theorem Qq{f:FuncId}{args:List D}{X:DH}(h:eF de (.call f args none) []=ret (.bool true) X){g:Gh}(hg:g.H=[])(hok:Ok g){vs:List V}(hr:Go.AI.RL g args vs) :
 ∃ s',lim mc (.call f vs none) g.s=some ⟨.returned (.bool true),none,s'⟩:=by
 obtain⟨vout,h1,g',_,h2,_,_,_,⟨v,h3,h4⟩,h5⟩:=(Hy XB).call.c f args none [] _ h g hg hok vs none hr rfl
 obtain⟨e,up,s⟩:=vout
 simp only[RD]at h3 h4 h5
 cases h4
 simp only[Lu]at h5
 cases h5
 cases h3
 exact⟨s,h1⟩
structure aH where
 v:Bool
 n:af
 o:Int
 a:List Nat
abbrev Lk:=List (Option Nat)
inductive Rt(L:Lk):Nat->Nat->Nat->Prop
 |z {i}:L[i]? = some none->Rt L i i 0
 |s {i j r n}:L[i]? = some (some j)->Rt L j r n->Rt L i r (n+1)
theorem Rt.root{L:Lk}{i r n}(h:Rt L i r n):L[r]? = some none:=by induction h with
 |z h=>exact h
 |s _ _ ih=>exact ih
theorem Rt.det{L:Lk}{i r n r' n'}(h:Rt L i r n)(k:Rt L i r' n'):r=r'/\n=n':=by
 induction h generalizing r' n' with
 |z h=>cases k with
  |z _=>exact⟨rfl,rfl⟩
  |s k _=>rw[h]at k;cases k
 |s h _ ih=>cases k with
  |z k=>rw[h]at k;cases k
  |s k k2=>rw[h]at k;cases k;exact⟨(ih k2).1,by rw[(ih k2).2]⟩
def bT{α:Type}(L:Lk)(f:Nat->α):Prop:=∀(i j:Nat),L[i]? = some (some j)->f i=f j
theorem bT.rt{α:Type}{L:Lk}{f:Nat->α}(h:bT L f){i r n}(k:Rt L i r n):f i=f r:=by induction k with
 |z _=>rfl
 |s k _ ih=>rw[h _ _ k,ih]
def zP{α:Type}(N:List aH)(f:Nat->α):Prop:=∀(i j:Nat) (x y:aH),N[i]? = some x->N[j]? = some y->x.v=false->y.v=false->f i=f j->x.n=y.n/\x.a.map f=y.a.map f
def zc(N:List aH)(L:Lk)(P:List (Nat×Nat)):Prop:=∀(i j:Nat) (x:aH),L[i]? = some (some j)->N[i]? = some x->x.v=false->∃ y,N[j]? = some y/\y.v=false/\x.n=y.n/\x.a.length=y.a.length/\∀(α:Type) (f:Nat->α),bT L f->(∀ p∈P,f p.1=f p.2)->x.a.map f=y.a.map f
def Lo(N:List aH)(L:Lk):Prop:=∀(i j:Nat) (y:aH),L[i]? = some (some j)->N[j]? = some y->y.v=true->∃ x,N[i]? = some x/\x.v=true/\y.o<=x.o
structure mu(N:List aH)(L L':Lk):Prop where
 len:L'.length=L.length
 rt:∀ x r n,Rt L x r n->∃ m,m<=n/\Rt L' x r m
 rs:∀(α:Type) (f:Nat->α),bT L f↔bT L' f
 cl:∀ P,zc N L P->zc N L' P
 ro:∀ i:Nat,L[i]? = some none↔L'[i]? = some none
 lo:Lo N L->Lo N L'
theorem mu.refl(N:List aH)(L:Lk):mu N L L:=⟨rfl,fun x r n h=>⟨n,Nat.le_refl _,h⟩,fun _ _=>.rfl,fun _ h=>h,fun _=>.rfl,fun h=>h⟩
theorem mu.trans{N:List aH}{L L' L'':Lk}(h:mu N L L')(k:mu N L' L''):mu N L L'' :=
 ⟨by rw[k.len,h.len],fun x r n q=>by
  obtain⟨m,h1,h2⟩:=h.rt x r n q
  obtain⟨m',k1,k2⟩:=k.rt x r m h2
  exact⟨m',by omega,k2⟩,fun α f=>(h.rs α f).trans (k.rs α f),fun P q=>k.cl P (h.cl P q),fun i=>(h.ro i).trans (k.ro i),fun q=>k.lo (h.lo q)⟩
theorem Rt.ne{L:Lk}{i j r n}(h:L[i]? = some (some j))(k:Rt L j r n):i≠j:=fun q=>by
 subst q
 have:=(k.det (.s h k)).2
 omega
theorem dE{L:Lk}{i:Nat}{x:Option Nat}(h:i<L.length)(j:Nat):(L.set i x)[j]? = if i=j then some x else L[j]?:=by
 rw[List.getElem?_set]
 by_cases q:i=j
 ·rw[if_pos q,if_pos q]
  split
  ·rfl
  ·omega
 ·rw[if_neg q,if_neg q]
theorem ao{α:Type}{l:List α}{i:Nat}{x:α}(h:l[i]? = some x):i<l.length:=by
 rcases Nat.lt_or_ge i l.length with q|q
 ·exact q
 ·rw[List.getElem?_eq_none q]at h;cases h
theorem bT.halve{α:Type}{L:Lk}{i j k:Nat}(h1:L[i]? = some (some j))(h2:L[j]? = some (some k))(hn:i≠j)(f:Nat->α):bT L f↔bT (L.set i (some k)) f:=by
 have hl:=ao h1
 constructor
 ·intro h x y hx
  rw[dE hl]at hx
  split at hx
  ·rename_i q;subst q;cases hx;rw[h _ _ h1,h _ _ h2]
  ·exact h _ _ hx
 ·intro h x y hx
  have hk:f i=f k:=h i k (by rw[dE hl,if_pos rfl])
  have hj:f j=f k:=h j k (by rw[dE hl,if_neg hn,h2])
  by_cases q:i=x
  ·subst q;rw[h1]at hx;cases hx;rw[hk,hj]
  ·exact h x y (by rw[dE hl,if_neg q,hx])
theorem mu.halve{N:List aH}{L:Lk}{i j k r n:Nat}(h1:L[i]? = some (some j))(h2:L[j]? = some (some k))(h3:Rt L k r n):mu N L (L.set i (some k)):=by
 have hl:=ao h1
 have hn:i≠j:=Rt.ne h1 (.s h2 h3)
 refine⟨by simp,?_,fun α f=>bT.halve h1 h2 hn f,?_,fun x=>?_,fun hlo x j' y hx hy hv=>?_⟩
 ·intro x r' m
  induction m using Nat.strongRecOn generalizing x r' with
  |ind m ih =>
   intro q
   cases q with
   |z q=>exact⟨0,Nat.le_refl _,.z (by rw[dE hl,if_neg (fun e=>by subst e;rw[h1]at q;cases q),q])⟩
   |s q q2 =>
    rename_i y m
    by_cases e:i=x
    ·subst e
     rw[h1]at q;cases q
     cases q2 with
     |z q2=>rw[h2]at q2;cases q2
     |s q2 q3 =>
      rename_i y' m
      rw[h2]at q2;cases q2
      obtain⟨m',a,b⟩:=ih m (by omega) _ _ q3
      exact⟨m'+1,by omega,.s (by rw[dE hl,if_pos rfl]) b⟩
    ·obtain⟨m',a,b⟩:=ih m (by omega) _ _ q2
     exact⟨m'+1,by omega,.s (by rw[dE hl,if_neg e,q]) b⟩
 ·intro P h x y z hx hz hv
  rw[dE hl]at hx
  split at hx
  ·rename_i q;subst q;cases hx
   obtain⟨y1,a1,a2,a3,a4,a5⟩:=h i j z h1 hz hv
   obtain⟨y2,b1,b2,b3,b4,b5⟩:=h j k y1 h2 a1 a2
   refine⟨y2,b1,b2,a3.trans b3,a4.trans b4,fun α f hf hp=>?_⟩
   have hf:=(bT.halve h1 h2 hn f).2 hf
   rw[a5 α f hf hp,b5 α f hf hp]
  ·obtain⟨y1,a1,a2,a3,a4,a5⟩:=h x y z hx hz hv
   exact⟨y1,a1,a2,a3,a4,fun α f hf hp=>a5 α f ((bT.halve h1 h2 hn f).2 hf) hp⟩
 ·rw[dE hl]
  split
  ·rename_i q;subst q;rw[h1];simp
  ·rfl
 ·rw[dE hl]at hx
  split at hx
  ·rename_i q;subst q;cases hx
   obtain⟨z,b1,b2,b3⟩:=hlo j k y h2 hy hv
   obtain⟨w,c1,c2,c3⟩:=hlo i j z h1 b1 b2
   exact⟨w,c1,c2,Int.le_trans b3 c3⟩
  ·exact hlo x j' y hx hy hv
theorem bT.link{α:Type}{L:Lk}{a b:Nat}(hb:L[b]? = some none)(f:Nat->α):bT (L.set b (some a)) f↔bT L f/\f b=f a:=by
 have hl:=ao hb
 constructor
 ·intro h
  refine⟨fun x y hx=>h x y ?_,h b a (by rw[dE hl,if_pos rfl])⟩
  rw[dE hl,if_neg (fun e=>by subst e;rw[hb]at hx;cases hx),hx]
 ·intro⟨h,e⟩ x y hx
  rw[dE hl]at hx
  split at hx
  ·rename_i q;subst q;cases hx;exact e
  ·exact h x y hx
theorem Rt.link{L:Lk}{a b:Nat}(hb:L[b]? = some none)(ha:L[a]? = some none)(hn:a≠b){x r n}(h:Rt L x r n):∃ m,m<=n+1/\Rt (L.set b (some a)) x (if r=b then a else r) m:=by
 have hl:=ao hb
 induction h with
 |z h =>
  rename_i i
  by_cases e:i=b
  ·subst e
   rw[if_pos rfl]
   exact⟨1,by omega,.s (by rw[dE hl,if_pos rfl]) (.z (by rw[dE hl,if_neg (fun q=>hn q.symm),ha]))⟩
  ·rw[if_neg e]
   exact⟨0,by omega,.z (by rw[dE hl,if_neg (fun q=>e q.symm),h])⟩
 |s h _ ih =>
  obtain⟨m,h1,h2⟩:=ih
  exact⟨m+1,by omega,.s (by rw[dE hl,if_neg (fun q=>by subst q;rw[hb]at h;cases h),h]) h2⟩
def Wf(L:Lk):Prop:=∀ i,i<L.length->∃ r n,Rt L i r n
theorem Wf.eqv{N:List aH}{L L':Lk}(h:Wf L)(k:mu N L L'):Wf L':=fun i hi=>by
 obtain⟨r,n,q⟩:=h i (by rw[<- k.len];exact hi)
 obtain⟨m,_,q⟩:=k.rt _ _ _ q
 exact⟨r,m,q⟩
theorem Wf.link{L:Lk}{a b:Nat}(h:Wf L)(hb:L[b]? = some none)(ha:L[a]? = some none)(hn:a≠b):Wf (L.set b (some a)):=fun i hi=>by
 obtain⟨r,n,q⟩:=h i (by simpa using hi)
 obtain⟨m,_,q⟩:=q.link hb ha hn
 exact⟨_,m,q⟩
theorem Lo.link{N:List aH}{L:Lk}{a b:Nat}(h:Lo N L)(hb:L[b]? = some none)(hl:∀ y,N[a]? = some y->y.v=true->∃ x,N[b]? = some x/\x.v=true/\y.o<=x.o):Lo N (L.set b (some a)):=fun i j y hi hy hv=>by
 rw[dE (ao hb)]at hi
 split at hi
 ·rename_i q;subst q;cases hi;exact hl y hy hv
 ·exact h i j y hi hy hv
def kO:Lk->Nat
 |[]=>0
 |none::r=>kO r+1
 |some _::r=>kO r
theorem wy:∀ {L:Lk} {b a:Nat},L[b]? = some none->kO (L.set b (some a))+1=kO L
 |[],b,a,h=>by simp at h
 |x::r,0,a,h=>by simp at h;subst h;rfl
 |x::r,b+1,a,h=>by
  have:=wy (L:=r) (b:=b) (a:=a) (by simpa using h)
  cases x<;>simp only[List.set_cons_succ,kO]<;>omega
theorem RJ:∀ {L L':Lk},L'.length=L.length->(∀ i:Nat,L[i]? = some none↔L'[i]? = some none)->kO L'=kO L
 |[],[],_,_=>rfl
 |[],_::_,h,_=>by simp at h
 |_::_,[],h,_=>by simp at h
 |x::r,y::r',h,k=>by
  have:=RJ (L:=r) (L':=r') (by simpa using h) (fun i=>by simpa using k (i+1))
  have k0:=k 0
  simp at k0
  cases x<;>cases y<;>simp_all[kO]
theorem mu.rc{N:List aH}{L L':Lk}(h:mu N L L'):kO L'=kO L:=RJ h.len h.ro
structure US(N:List aH)(L:Lk)(E:List (Nat×Nat))(res:Bool)(L':Lk):Prop where
 len:L'.length=L.length
 wf:Wf L'
 rc:kO L'<=kO L
 snd:∀(α:Type) (f:Nat->α),zP N f->bT L f->(∀ p∈E,f p.1=f p.2)->res=true/\bT L' f
 cpl:res=true->(∀(α:Type) (f:Nat->α),bT L' f->bT L f/\∀ p∈E,f p.1=f p.2)/\∀ P,zc N L (E++P)->zc N L' P
 lo:Lo N L->Lo N L'
theorem US.nil{N:List aH}{L:Lk}(h:Wf L):US N L [] true L:=⟨rfl,h,Nat.le_refl _,fun _ _ _ h _=>⟨rfl,h⟩,fun _=>⟨fun _ _ h=>⟨h,fun _ q=>nomatch q⟩,fun _ h=>h⟩,fun h=>h⟩
theorem US.pre{N:List aH}{L L1 L':Lk}{E res}(h:mu N L L1)(k:US N L1 E res L'):US N L E res L' :=
 ⟨by rw[k.len,h.len],k.wf,by have:=k.rc;have:=h.rc;omega,fun α f h1 h2 h3=>k.snd α f h1 ((h.rs α f).1 h2) h3,fun q=>⟨fun α f h1=>⟨(h.rs α f).2 ((k.cpl q).1 α f h1).1,((k.cpl q).1 α f h1).2⟩,fun P h1=>(k.cpl q).2 P (h.cl _ h1)⟩,fun q=>k.lo (h.lo q)⟩
theorem US.same{N:List aH}{L:Lk}(hw:Wf L){a b r n m}(ha:Rt L a r n)(hb:Rt L b r m):US N L [(a,b)] true L:=by
 have hab:∀(α:Type) (f:Nat->α),bT L f->f a=f b:=fun α f h=>by rw[h.rt ha,h.rt hb]
 refine⟨rfl,hw,Nat.le_refl _,fun _ _ _ h _=>⟨rfl,h⟩,fun _=>⟨fun α f h=>⟨h,fun p hp=>?_⟩,fun P h i j x hi hx hv=>?_⟩,fun h=>h⟩
 ·simp at hp;subst hp;exact hab α f h
 ·obtain⟨y,a1,a2,a3,a4,a5⟩:=h i j x hi hx hv
  refine⟨y,a1,a2,a3,a4,fun α f hf hp=>a5 α f hf fun p q=>?_⟩
  simp at q
  rcases q with rfl|q
  ·exact hab α f hf
  ·exact hp p q
theorem US.link{N:List aH}{L:Lk}(hw:Wf L){a b ra rb n m}(ha:Rt L a ra n)(hb:Rt L b rb m)(hn:ra≠rb){E:List (Nat×Nat)}
 (hE:∀(α:Type) (f:Nat->α),zP N f->f ra=f rb->∀ p∈E,f p.1=f p.2)
 (hC:∀ x,N[rb]? = some x->x.v=false->∃ y,N[ra]? = some y/\y.v=false/\x.n=y.n/\x.a.length=y.a.length/\∀(α:Type) (f:Nat->α),(∀ p∈E,f p.1=f p.2)->x.a.map f=y.a.map f)
 (hlo:∀ y,N[ra]? = some y->y.v=true->∃ x,N[rb]? = some x/\x.v=true/\y.o<=x.o)
 {res L'} (k:US N (L.set rb (some ra)) E res L'):US N L [(a,b)] res L'/\kO (L.set rb (some ra))<kO L:=by
 have h1:=ha.root
 have h2:=hb.root
 have hl:=ao h2
 have hr:=wy (a:=ra) h2
 refine⟨⟨by simpa using k.len,k.wf,by have:=k.rc;omega,fun α f c1 c2 c3=>?_,fun q=>?_,fun q=>k.lo (q.link h2 hlo)⟩,by omega⟩
 ·have e:f ra=f rb:=by rw[<- c2.rt ha,<- c2.rt hb];exact c3 (a,b) (by simp)
  exact k.snd α f c1 ((bT.link h2 f).2 ⟨c2,e.symm⟩) (hE α f c1 e)
 ·obtain⟨q1,q2⟩:=k.cpl q
  refine⟨fun α f hf=>?_,fun P hP=>q2 P fun i j x hi hx hv=>?_⟩
  ·obtain⟨s1,s2⟩:=q1 α f hf
   obtain⟨s3,s4⟩:=(bT.link h2 f).1 s1
   refine⟨s3,fun p hp=>?_⟩
   simp at hp;subst hp
   show f a=f b
   rw[s3.rt ha,s3.rt hb,s4]
  ·rw[dE hl]at hi
   split at hi
   ·rename_i e;subst e;cases hi
    obtain⟨y,a1,a2,a3,a4,a5⟩:=hC x hx hv
    exact⟨y,a1,a2,a3,a4,fun α f _ hp=>a5 α f fun p hp'=>hp p (List.mem_append_left _ hp')⟩
   ·obtain⟨y,a1,a2,a3,a4,a5⟩:=hP i j x hi hx hv
    refine⟨y,a1,a2,a3,a4,fun α f hf hp=>?_⟩
    obtain⟨s3,s4⟩:=(bT.link h2 f).1 hf
    refine a5 α f s3 fun p hp'=>?_
    simp at hp'
    rcases hp' with rfl|hp'
    ·show f a=f b
     rw[s3.rt ha,s3.rt hb,s4]
    ·exact hp p (List.mem_append_right _ hp')
theorem US.clash{N:List aH}{L:Lk}(hw:Wf L){a b ra rb n m}(ha:Rt L a ra n)(hb:Rt L b rb m){x y:aH}(hx:N[ra]? = some x)(hy:N[rb]? = some y)(vx:x.v=false)(vy:y.v=false)(h:x.n≠y.n\/x.a.length≠y.a.length):US N L [(a,b)] false L :=
 ⟨rfl,hw,Nat.le_refl _,fun α f h1 h2 h3=>by
  have e:f ra=f rb:=by rw[<- h2.rt ha,<- h2.rt hb];exact h3 (a,b) (by simp)
  obtain⟨e1,e2⟩:=h1 _ _ _ _ hx hy vx vy e
  have:=congrArg List.length e2
  simp at this
  rcases h with h|h
  ·exact(h e1).elim
  ·exact(h this).elim,fun q=>(nomatch q),fun h=>h⟩
theorem US.cons{N:List aH}{L L1 L':Lk}{e:Nat×Nat}{E:List (Nat×Nat)}{res}(h:US N L [e] true L1)(k:US N L1 E res L'):US N L (e::E) res L' :=
 ⟨by rw[k.len,h.len],k.wf,Nat.le_trans k.rc h.rc,fun α f h1 h2 h3=>k.snd α f h1 (h.snd α f h1 h2 fun p hp=>h3 p (by simp at hp;simp[hp])).2 fun p hp=>h3 p (List.mem_cons_of_mem _ hp),fun q=>by
  obtain⟨k1,k2⟩:=k.cpl q
  obtain⟨h1,h2⟩:=h.cpl rfl
  refine⟨fun α f hf=>?_,fun P hP=>k2 P (h2 _ hP)⟩
  obtain⟨s1,s2⟩:=k1 α f hf
  obtain⟨s3,s4⟩:=h1 α f s1
  refine⟨s3,fun p hp=>?_⟩
  rcases List.mem_cons.1 hp with rfl|hp
  ·exact s4 _ (by simp)
  ·exact s2 p hp,fun q=>k.lo (h.lo q)⟩
theorem US.stop{N:List aH}{L L':Lk}{e:Nat×Nat}{E:List (Nat×Nat)}(h:US N L [e] false L'):US N L (e::E) false L' :=
 ⟨h.len,h.wf,h.rc,fun α f h1 h2 h3=>(by have:=(h.snd α f h1 h2 fun p hp=>h3 p (by simp at hp;simp[hp])).1;cases this),fun q=>(nomatch q),h.lo⟩
theorem US.symm{N:List aH}{L L':Lk}{a b:Nat}{res}(h:US N L [(b,a)] res L'):US N L [(a,b)] res L' :=
 ⟨h.len,h.wf,h.rc,fun α f h1 h2 h3=>h.snd α f h1 h2 fun p hp=>(by simp at hp;subst hp;exact(h3 (a,b) (by simp)).symm),fun q=>⟨fun α f hf=>⟨((h.cpl q).1 α f hf).1,fun p hp=>(by simp at hp;subst hp;exact(((h.cpl q).1 α f hf).2 (b,a) (by simp)).symm)⟩,fun P hP=>(h.cpl q).2 P fun i j x hi hx hv=>by
  obtain⟨y,a1,a2,a3,a4,a5⟩:=hP i j x hi hx hv
  refine⟨y,a1,a2,a3,a4,fun α f hf hp=>a5 α f hf fun p hp'=>?_⟩
  simp at hp'
  rcases hp' with rfl|hp'
  ·exact(hp (b,a) (by simp)).symm
  ·exact hp p (by simp[hp'])⟩,h.lo⟩
theorem qw{α:Type}{f:Nat->α}:∀ {l m:List Nat},l.length=m.length->((∀ p∈l.zip m,f p.1=f p.2)↔l.map f=m.map f)
 |[],[],_=>by simp
 |a::l,b::m,h=>by
  rw[List.zip_cons_cons,List.forall_mem_cons,qw (f:=f) (l:=l) (m:=m) (by simpa using h)]
  simp
 |[],_::_,h=>by simp at h
 |_::_,[],h=>by simp at h
theorem US.var{N:List aH}{L:Lk}(hw:Wf L){a b ra rb n m}(ha:Rt L a ra n)(hb:Rt L b rb m)(hn:ra≠rb){x:aH}(hx:N[ra]? = some x)(hv:x.v=true)(ho:∀ y,N[rb]? = some y->y.v=true->y.o<=x.o):US N L [(a,b)] true (L.set ra (some rb)) :=
 .symm (US.link (E:=[]) hw hb ha (fun q=>hn q.symm) (fun _ _ _ _ p q=>nomatch q) (fun y hy vy=>by rw[hx]at hy;cases hy;rw[hv]at vy;cases vy) (fun y hy vy=>⟨x,hx,hv,ho y hy vy⟩) (.nil (hw.link ha.root hb.root (fun q=>hn q.symm)))).1
theorem US.con{N:List aH}{L:Lk}(hw:Wf L){a b ra rb n m}(ha:Rt L a ra n)(hb:Rt L b rb m)(hn:ra≠rb){x y:aH}(hx:N[ra]? = some x)(hy:N[rb]? = some y)(vx:x.v=false)(vy:y.v=false)(h:x.n=y.n)(h':x.a.length=y.a.length){res L'}(k:US N (L.set rb (some ra)) (x.a.zip y.a) res L'):US N L [(a,b)] res L' :=
 (US.link hw ha hb hn (fun α f hc e=>(qw h').2 (hc _ _ _ _ hx hy vx vy e).2) (fun z hz _=>by
  rw[hy]at hz;cases hz
  exact⟨x,hx,vx,h.symm,h'.symm,fun α f hp=>((qw h').1 hp).symm⟩) (fun z hz vz=>by rw[hx]at hz;cases hz;rw[vx]at vz;cases vz) k).1
mutual
inductive Tr(N:List aH)(L:Lk):Nat->Ty->Prop
 |var {i r n x}:Rt L i r n->N[r]? = some x->x.v=true->Tr N L i (.mk x.n [])
 |con {i r n x ts}:Rt L i r n->N[r]? = some x->x.v=false->oo N L x.a ts->Tr N L i (.mk x.n ts)
inductive oo(N:List aH)(L:Lk):List Nat->List Ty->Prop
 |nil:oo N L [] []
 |cons {i l t ts}:Tr N L i t->oo N L l ts->oo N L (i::l) (t::ts)
end
mutual
theorem Tr.det{N L}:∀ {i t t'},Tr N L i t->Tr N L i t'->t=t'
 |_,_,_,.var h1 h2 h3,.var k1 k2 k3=>by
  obtain⟨rfl,rfl⟩:=h1.det k1;rw[h2]at k2;cases k2;rfl
 |_,_,_,.var h1 h2 h3,.con k1 k2 k3 _=>by
  obtain⟨rfl,rfl⟩:=h1.det k1;rw[h2]at k2;cases k2;rw[h3]at k3;cases k3
 |_,_,_,.con h1 h2 h3 _,.var k1 k2 k3=>by
  obtain⟨rfl,rfl⟩:=h1.det k1;rw[h2]at k2;cases k2;rw[h3]at k3;cases k3
 |_,_,_,.con h1 h2 h3 h4,.con k1 k2 k3 k4=>by
  obtain⟨rfl,rfl⟩:=h1.det k1;rw[h2]at k2;cases k2
  rw[h4.det k4]
theorem oo.det{N L}:∀ {l ts ts'},oo N L l ts->oo N L l ts'->ts=ts'
 |_,_,_,.nil,.nil=>rfl
 |_,_,_,.cons h1 h2,.cons k1 k2=>by rw[h1.det k1,h2.det k2]
end
mutual
theorem Tr.eqv{N L L'}(h:mu N L L'):∀ {i t},Tr N L i t->Tr N L' i t
 |_,_,.var h1 h2 h3=>by
  obtain⟨m,_,h1⟩:=h.rt _ _ _ h1
  exact .var h1 h2 h3
 |_,_,.con h1 h2 h3 h4=>by
  obtain⟨m,_,h1⟩:=h.rt _ _ _ h1
  exact .con h1 h2 h3 (h4.eqv h)
theorem oo.eqv{N L L'}(h:mu N L L'):∀ {l ts},oo N L l ts->oo N L' l ts
 |_,_,.nil=>.nil
 |_,_,.cons h1 h2=>.cons (h1.eqv h) (h2.eqv h)
end
theorem Tr.rt{N L}{i r n t}(k:Rt L i r n)(h:Tr N L i t):Tr N L r t:=by
 have z:=Rt.z k.root
 cases h with
 |var h1 h2 h3=>obtain⟨rfl,_⟩:=h1.det k;exact .var z h2 h3
 |con h1 h2 h3 h4=>obtain⟨rfl,_⟩:=h1.det k;exact .con z h2 h3 h4
theorem Tr.of_rt{N L}{i r n t}(k:Rt L i r n)(h:Tr N L r t):Tr N L i t:=by
 have z:=Rt.z k.root
 cases h with
 |var h1 h2 h3=>obtain⟨rfl,_⟩:=h1.det z;exact .var k h2 h3
 |con h1 h2 h3 h4=>obtain⟨rfl,_⟩:=h1.det z;exact .con k h2 h3 h4
def sH(N:List aH)(L:Lk)(i:Nat):Ty:=open Classical in if h:∃ t,Tr N L i t then h.choose else .mk [] []
theorem iM{N L i t}(h:Tr N L i t):sH N L i=t:=by
 have q:∃ t,Tr N L i t:=⟨t,h⟩
 unfold sH
 rw[dif_pos q]
 exact q.choose_spec.det h
theorem oo.map{N L}:∀ {l ts},oo N L l ts->l.map (sH N L)=ts
 |_,_,.nil=>rfl
 |_,_,.cons h1 h2=>by rw[List.map_cons,iM h1,h2.map]
theorem zT{N L}(h:∀ i,i<L.length->∃ t,Tr N L i t):bT L (sH N L):=fun i j hij=>by
 obtain⟨t,ht⟩:=h i (ao hij)
 rw[iM ht]
 have:∃ r n,Rt L i r n:=by cases ht with
  |var k _ _=>exact⟨_,_,k⟩
  |con k _ _ _=>exact⟨_,_,k⟩
 obtain⟨r,n,k⟩:=this
 cases k with
 |z k=>rw[k]at hij;cases hij
 |s k k2 =>
  rw[k]at hij;cases hij
  rw[iM (.of_rt k2 (ht.rt (.s k k2)))]
def LI(N:List aH)(f:Nat->Ty):Prop:=∀(i:Nat) (x:aH),N[i]? = some x->x.v=false->f i=.mk x.n (x.a.map f)
theorem LI.comp{N f}(h:LI N f):zP N f:=fun i j x y hx hy vx vy e=>by
 rw[h i x hx vx,h j y hy vy]at e
 injection e with e1 e2
 exact⟨e1,e2⟩
theorem zc.mod{N L}(hc:zc N L [])(h:∀ i,i<L.length->∃ t,Tr N L i t)(hl:N.length=L.length):LI N (sH N L):=fun i x hx hv=>by
 have hr:=zT h
 obtain⟨t,ht⟩:=h i (by rw[<- hl];exact ao hx)
 have key:∀(i r n:Nat),Rt L i r n->∀(x:aH),N[i]? = some x->x.v=false->∃ y,N[r]? = some y/\y.v=false/\x.n=y.n/\x.a.map (sH N L)=y.a.map (sH N L):=fun i r n h=>by
  induction h with
  |z _=>exact fun x hx hv=>⟨x,hx,hv,rfl,rfl⟩
  |s h _ ih =>
   intro x hx hv
   obtain⟨y,a1,a2,a3,_,a5⟩:=hc _ _ _ h hx hv
   obtain⟨z,b1,b2,b3,b4⟩:=ih y a1 a2
   exact⟨z,b1,b2,a3.trans b3,(a5 _ _ hr (fun _ q=>nomatch q)).trans b4⟩
 rw[iM ht]
 cases ht with
 |var h1 h2 h3 =>
  obtain⟨y,a1,a2,_⟩:=key _ _ _ h1 x hx hv
  rw[h2]at a1;cases a1;rw[h3]at a2;cases a2
 |con h1 h2 h3 h4 =>
  obtain⟨y,a1,a2,a3,a4⟩:=key _ _ _ h1 x hx hv
  rw[h2]at a1;cases a1
  rw[<- a3,a4,h4.map]
mutual
def sub(s:af->Option Ty):Ty->Ty
 |.mk n l=>match l,s n with
  |[],some t=>t
  |_,_=>.mk n (DI s l)
def DI(s:af->Option Ty):List Ty->List Ty
 |[]=>[]
 |t::r=>sub s t::DI s r
end
theorem DG(s:af->Option Ty):∀ l,DI s l=l.map (sub s)
 |[]=>rfl
 |t::r=>by simp[DI,DG s r]
structure GN(N:List aH)(T:List Ty)(isV:af->Bool):Prop where
 len:T.length=N.length
 var:∀(i:Nat) (x:aH),N[i]? = some x->x.v=true->T[i]? = some (.mk x.n [])/\isV x.n=true/\x.a=[]
 con:∀(i:Nat) (x:aH),N[i]? = some x->x.v=false->isV x.n=false/\(∀ a∈x.a,a<i)/\∃ ts,T[i]? = some (.mk x.n ts)/\x.a.map (fun a=>T[a]?)=ts.map some
 inj:∀(i j:Nat) (x y:aH),N[i]? = some x->N[j]? = some y->x.v=true->y.v=true->x.n=y.n->i=j
def sE(T:List Ty)(i:Nat):Ty:=(T[i]?).getD (.mk [] [])
theorem gt{T:List Ty}{i t}(h:T[i]? = some t):sE T i=t:=by unfold sE;rw[h];rfl
theorem IQ{T:List Ty}:∀ {l:List Nat} {ts:List Ty},l.map (fun a=>T[a]?)=ts.map some->l.map (sE T)=ts
 |[],[],_=>rfl
 |a::l,t::ts,h=>by
  simp only[List.map_cons,List.cons.injEq]at h
  rw[List.map_cons,gt h.1,IQ h.2]
 |[],_::_,h=>by simp at h
 |_::_,[],h=>by simp at h
def Vs(isV:af->Bool)(s:af->Option Ty):Prop:=∀ n t,s n=some t->isV n=true
theorem Vs.no{isV s}(h:Vs isV s){n}(k:isV n=false):s n=none:=by
 cases q:s n with
 |none=>rfl
 |some t=>rw[h n t q]at k;cases k
theorem lz{isV s}(h:Vs isV s){n l}(k:isV n=false):sub s (.mk n l)=.mk n (l.map (sub s)):=by
 unfold sub
 rw[h.no k,DG]
 split
 ·rename_i q;cases q
 ·rfl
theorem It{s:af->Option Ty}{n}:sub s (.mk n [])=(s n).getD (.mk n []):=by
 unfold sub
 cases s n<;>rfl
theorem GN.con'{N T isV}(g:GN N T isV){i x}(h:N[i]? = some x)(hv:x.v=false):sE T i=.mk x.n (x.a.map (sE T)):=by
 obtain⟨_,_,ts,h2,h3⟩:=g.con i x h hv
 rw[gt h2,IQ h3]
theorem GN.mod{N T isV}(g:GN N T isV){s}(hs:Vs isV s):LI N fun i=>sub s (sE T i):=fun i x h hv=>by
 show sub s (sE T i)=_
 rw[g.con' h hv,lz hs (g.con i x h hv).1,List.map_map]
 rfl
structure YY(N:List aH)(L:Lk)(isV:af->Bool)(s:af->Option Ty):Prop where
 out:∀(i:Nat) (x:aH),N[i]? = some x->x.v=true->s x.n=if L[i]? = some none then none else some (sH N L i)
 vs:Vs isV s
theorem YY.ap{N L T isV s}(g:GN N T isV)(h:YY N L isV s)(hc:zc N L [])(hT:∀ i,i<L.length->∃ t,Tr N L i t)(hl:N.length=L.length)(i:Nat)(hi:i<N.length):sub s (sE T i)=sH N L i:=by
 induction i using Nat.strongRecOn with
 |ind i ih =>
  have hx:=List.getElem?_eq_getElem hi
  generalize N[i]=x at hx
  cases hv:x.v with
  |true =>
   obtain⟨a1,a2,a3⟩:=g.var i x hx hv
   rw[gt a1,It,h.out i x hx hv]
   split
   ·rename_i q
    exact(iM (.var (.z q) hx hv)).symm
   ·rfl
  |false =>
   obtain⟨a1,a2,ts,a3,a4⟩:=g.con i x hx hv
   rw[g.con' hx hv,lz h.vs a1,hc.mod hT hl i x hx hv,List.map_map]
   congr 1
   refine List.map_congr_left fun a ha=>?_
   have:=a2 a ha
   exact ih a this (by omega)
mutual
theorem Tr.gen{N L T isV s}(g:GN N T isV)(hs:Vs isV s)(hr:bT L fun i=>sub s (sE T i)):∀ {i t},Tr N L i t->sub s t=sub s (sE T i)
 |_,_,.var h1 h2 h3=>by
  have:=hr.rt h1
  rw[this,gt (g.var _ _ h2 h3).1]
 |_,_,.con h1 h2 h3 h4=>by
  have:=hr.rt h1
  rw[this,g.con' h2 h3,lz hs (g.con _ _ h2 h3).1,lz hs (g.con _ _ h2 h3).1,oo.gen g hs hr h4,List.map_map]
  rfl
theorem oo.gen{N L T isV s}(g:GN N T isV)(hs:Vs isV s)(hr:bT L fun i=>sub s (sE T i)):∀ {l ts},oo N L l ts->ts.map (sub s)=l.map fun i=>sub s (sE T i)
 |_,_,.nil=>rfl
 |_,_,.cons h1 h2=>by rw[List.map_cons,List.map_cons,Tr.gen g hs hr h1,oo.gen g hs hr h2]
end
theorem Zy{R:be}{p0:dB}{H:DH}:aO R 14 [.row 2 p0] H =
 cond (decide ((p0.length:Int)>16)) (ret (.agg [.row 3 [],.i 1]) H) (ae R 14 200005 [.g (.row 2 p0),.lp 0 0,.g .nilrow,.n 0] [(0,[.nilrow,.i 0])] H):=by kernel_rfl
theorem qf{R:be}{v0:dB}{v3:D}{v4:Int}{a:D}{b:Int}{H:DH}:bm R 14 200005 [.g (.row 2 v0),.lp 0 0,.g v3,.n v4] [(0,[a,.i b])] H =
 cond (decide (v4<v0.length)) (cY v4 fun c=>dM v0 c fun c=>aA c 0 fun d=>aA c 1 fun c=>C R 36 [.agg [d,c]] H fun c H=>sF .not c fun c=>brD c (ret (.agg [.row 3 [],.i 32]) H) (cY v4 fun c=>dM v0 c fun c=>aA c 0 fun d=>aA c 1 fun c=>C R 37 [.agg [d,c],v3] H fun c H=>ae R 14 200005 [.g (.row 2 v0),.lp 0 0,.g c,.n (cq (v4+1))] [(0,[a,.i b])] H)) (let c:=H++[.cells 0 [.nilrow,.nilrow,.nilrow,.bool false,.nilrow,.i 0]];ae R 14 200013 [.g (.row 2 v0),.lp 0 0,.g v3,.g (.ptr H.length 0),.g .nilrow,.n 0] [(0,[a,.i b])] c):=by kernel_rfl
theorem yh{R:be}{v0:dB}{v3:D}{v5:Nat}{v6:D}{v7:Int}{a:D}{b:Int}{H:DH}:bm R 14 200013 [.g (.row 2 v0),.lp 0 0,.g v3,.g (.ptr v5 0),.g v6,.n v7] [(0,[a,.i b])] H =
 bJ ab 35 v3 H fun c=>av ab .lss 3 false (.i v7) c fun c=>brD c (C R 38 [.ptr v5 0] H fun c H=>ai 1 c fun c=>cE (aJ ab 3) 1 v6 [c] H fun c H=>ae R 14 200013 [.g (.row 2 v0),.lp 0 0,.g v3,.g (.ptr v5 0),.g c,.n (cq (v7+1))] [(0,[a,.i b])] H) (ae R 14 200018 [.g (.row 2 v0),.lp 0 0,.g v3,.g (.ptr v5 0),.g v6,.n (-1),.n 0] [(0,[a,.i b])] H):=by kernel_rfl
theorem yg{R:be}{v0:dB}{v3:D}{v5:Nat}{v6:D}{v8 v9:Int}{a:D}{b:Int}{H:DH}:bm R 14 200018 [.g (.row 2 v0),.lp 0 0,.g v3,.g (.ptr v5 0),.g v6,.n v8,.n v9] [(0,[a,.i b])] H =
 cond (decide (v9<v0.length)) (cY v9 fun c=>dM v0 c fun c=>aA c 0 fun d=>aA c 1 fun c=>C R 39 [.ptr v5 0,.agg [d,c],v3,v6] H fun c H=>cond (decide (v8<0)) (C R 40 [.ptr v5 0,c,c] H fun _ H=>ae R 14 200018 [.g (.row 2 v0),.lp 0 0,.g v3,.g (.ptr v5 0),.g v6,.g c,.n (cq (v9+1))] [(0,[a,.i b])] H) (C R 40 [.ptr v5 0,.i v8,c] H fun _ H=>ae R 14 200018 [.g (.row 2 v0),.lp 0 0,.g v3,.g (.ptr v5 0),.g v6,.n v8,.n (cq (v9+1))] [(0,[a,.i b])] H)) (au H v5 fun _ c=>aA c 3 fun c=>brD c (ret (.agg [.row 3 [],.i 30]) H) (ae R 14 200027 [.lp 0 0,.g v3,.g (.ptr v5 0),.g v6,.n 0] [(0,[a,.i b])] H)):=by kernel_rfl
theorem qe{R:be}{v3:D}{v5:Nat}{v6:D}{a:Int}{b:D}{c:Int}{H:DH}:bm R 14 200027 [.lp 0 0,.g v3,.g (.ptr v5 0),.g v6,.n a] [(0,[b,.i c])] H =
 bJ ab 59 v6 H fun d=>av ab .lss 3 false (.i a) d fun d=>brD d (aq ab 59 v6 (.i a) fun d=>bQ ab 3 d H fun d=>C R 41 [.ptr v5 0,d] H fun d H=>brD d (ret (.agg [.row 3 [],.i 31]) H) (ae R 14 200027 [.lp 0 0,.g v3,.g (.ptr v5 0),.g v6,.n (cq (a+1))] [(0,[b,.i c])] H)) (au H v5 fun _ a=>aA a 2 fun a=>bJ ab 59 a H fun a=>Zj a fun a=>cY a fun a=>boK (Nat.ble a 2199023255552&&iD ab 102 a) (let d:=H++[.buf 2 true true (List.replicate a [.i 0,.i 0])];ae R 14 200034 [.lp 0 0,.g v3,.g (.ptr v5 0),.g v6,.g .nilrow,.g (.buf 2 H.length a),.n 0] [(0,[b,.i c])] d)):=by kernel_rfl
theorem qd{R:be}{v3:D}{v5:Nat}{v6 a:D}{b c:Nat}{e:Int}{h:D}{j:Int}{H:DH}:bm R 14 200034 [.lp 0 0,.g v3,.g (.ptr v5 0),.g v6,.g a,.g (.buf 2 b c),.n e] [(0,[h,.i j])] H =
 bJ ab 59 v6 H fun d=>av ab .lss 3 false (.i e) d fun d=>brD d (aq ab 59 v6 (.i e) fun d=>bQ ab 3 d H fun d=>dw (R (.call 42 [.ptr v5 0,d] none) H) (fun d f=>aq ab 59 v6 (.i e) fun g=>th ab 3 g f [H] fun g=>av ab .eql 3 false d g fun d=>brD d (ae R 14 200034 [.lp 0 0,.g v3,.g (.ptr v5 0),.g v6,.g a,.g (.buf 2 b c),.n (cq (e+1))] [(0,[h,.i j])] f) (aq ab 59 v6 (.i e) fun d=>bQ ab 3 d f fun d=>C R 43 [.ptr v5 0,d,.buf 2 b c] f fun d H=>let f:=H++[.cells 0 [.i 0,.i 0]];ai 2 d fun d=>au f H.length fun g i=>az i 0 d fun d=>let d:=f.set H.length (.cells (g+1) d);au d H.length fun _ f=>aA f 0 fun f=>av ab .gtr 3 true f (.i 2000) fun f=>brD f (ret (.agg [.row 3 [],.i 39]) d) (au d H.length fun _ f=>aA f 1 fun f=>av ab .gtr 3 true f (.i 100) fun f=>brD f (ret (.agg [.row 3 [],.i 39]) d) (ae R 14 200034 [.lp 0 0,.g v3,.g (.ptr v5 0),.g v6,.g a,.g (.buf 2 b c),.n (cq (e+1))] [(0,[h,.i j])] d)))) fun _ _=>none) (ae R 14 200041 [.lp 0 0,.g v3,.g (.ptr v5 0),.g v6,.g a,.n 0] [(0,[h,.i j])] H):=by kernel_rfl
theorem lY{R:be}{v3:D}{v5:Nat}{v6 a:D}{b:Int}{c:D}{e:Int}{H:DH}:bm R 14 200041 [.lp 0 0,.g v3,.g (.ptr v5 0),.g v6,.g a,.n b] [(0,[c,.i e])] H =
 bJ ab 59 v6 H fun d=>av ab .lss 3 false (.i b) d fun d=>brD d (aq ab 59 v6 (.i b) fun d=>bQ ab 3 d H fun d=>dw (R (.call 42 [.ptr v5 0,d] none) H) (fun d f=>aq ab 59 v6 (.i b) fun g=>th ab 3 g f [H] fun g=>av ab .neq 3 false d g fun d=>brD d (EY v6 f 1 fun d=>cE (aJ ab 3) 1 .nilrow d f fun d H=>let f:=H++[.cells 0 [.nilrow]];ai 1 d fun d=>au f H.length fun g h=>az h 0 d fun d=>let d:=f.set H.length (.cells (g+1) d);aq ab 59 v6 (.i b) fun f=>bQ ab 3 f d fun f=>dw (R (.call 44 [.ptr v5 0,f,.ptr H.length 0,v3] none) d) (fun f H=>aq ab 35 v3 (.i b) fun g=>th ab 9 g H [d] fun d=>ai 1 d fun d=>az [.str [],.str [],.nilrow] 0 d fun d=>ai 2 f fun f=>az d 1 f fun d=>ai 3 (.agg d) fun d=>cE (aJ ab 52) 3 a [d] H fun a H=>ae R 14 200041 [.lp 0 0,.g v3,.g (.ptr v5 0),.g v6,.g a,.n (cq (b+1))] [(0,[c,.i e])] H) fun _ _=>none) (ae R 14 200041 [.lp 0 0,.g v3,.g (.ptr v5 0),.g v6,.g a,.n (cq (b+1))] [(0,[c,.i e])] f)) fun _ _=>none) (ai 1 a fun a=>az [.nilrow,.i 0] 0 a fun a=>ai 2 (.agg a) fun a=>az [c,.i e] 0 a fun a=>aA a 0 fun b=>aA a 1 fun a=>fK (.fz 3) b H fun b H=>ret (.agg [b,a]) H):=by kernel_rfl
theorem Zw{R:be}{p0:Nat}{a:af}{b:dB}{ns vv:D}{H:DH}:aO R 39 [.ptr p0 0,.agg [.str a,.row 2 b],ns,vv] H =
 C R 63 [.agg [.str a,.row 2 b]] H fun c H=>brD c (C R 66 [ns,.str a] H fun c H=>av ab .geq 3 true c (.i 0) fun d=>brD d (aq ab 59 vv c fun a=>bQ ab 3 a H fun a=>ret a H) (ae R 39 200007 [.g (.ptr p0 0),.g ns,.g vv,.lp 0 0,.g .nilrow,.n 0] [(0,[.str a,.row 2 b])] H)) (ae R 39 200007 [.g (.ptr p0 0),.g ns,.g vv,.lp 0 0,.g .nilrow,.n 0] [(0,[.str a,.row 2 b])] H):=by kernel_rfl
theorem xZ{R:be}{v0:Nat}{v2 v3 a:D}{b:Int}{c:af}{e:dB}{H:DH}:bm R 39 200007 [.g (.ptr v0 0),.g v2,.g v3,.lp 0 0,.g a,.n b] [(0,[.str c,.row 2 e])] H =
 cond (decide (b<e.length)) (cY b fun d=>dM e d fun d=>aA d 0 fun f=>aA d 1 fun d=>C R 39 [.ptr v0 0,.agg [f,d],v2,v3] H fun d H=>ai 1 d fun d=>cE (aJ ab 3) 1 a [d] H fun a H=>ae R 39 200007 [.g (.ptr v0 0),.g v2,.g v3,.lp 0 0,.g a,.n (cq (b+1))] [(0,[.str c,.row 2 e])] H) (jt (.fz 1) 0 a H fun a H=>C R 65 [.ptr v0 0,.str c,a] H fun a H=>ret a H):=by kernel_rfl
theorem f25{R:be}{x:D}{H:DH}:aO R 25 [x] H =
 let a:=H++[.map []];let b:=a++[.cells 0 [.nilmap]];au b a.length fun c d=>az d 0 [.map H.length] fun d=>let H:=b.set a.length (.cells (c+1) d);let b:=H++[.cells 0 [.nilFunc]];au b H.length fun c d=>az d 0 [.func 56 [] [.ptr a.length 0,.ptr H.length 0]] fun a=>let a:=b.set H.length (.cells (c+1) a);bJ ab 71 x a fun b=>ae R 25 200005 [.g (.ptr H.length 0),.g x,.g b,.n 0] [] a:=by kernel_rfl
theorem yb{R:be}{v4:Nat}{v9:D}{a b:Int}{H:DH}:bm R 25 200005 [.g (.ptr v4 0),.g v9,.n a,.n b] [] H =
 cond (decide (b<a)) (aq ab 71 v9 (.i b) fun c=>bQ ab 74 c H fun c=>au H v4 fun _ d=>aA d 0 fun d=>Hf mc d fun d e f=>C R d (e++([c]++f)) H fun c H=>sF .not c fun c=>brD c (ret (.bool false) H) (ae R 25 200005 [.g (.ptr v4 0),.g v9,.n a,.n (cq (b+1))] [] H)) (ret (.bool true) H):=by kernel_rfl
theorem f60{R:be}{a:af}{b:dB}{p1:Int}{H:DH}:aO R 60 [.agg [.str a,.row 2 b],.i p1] H =
 ae R 60 200003 [.n p1,.lp 0 0,.n 1,.n 0] [(0,[.str a,.row 2 b])] H:=by kernel_rfl
theorem xQ{R:be}{v1 v5 v6:Int}{a:af}{b:dB}{H:DH}:bm R 60 200003 [.n v1,.lp 0 0,.n v5,.n v6] [(0,[.str a,.row 2 b])] H =
 cond (decide (v6<b.length)) (cond (decide (v5<=v1)) (cY v6 fun c=>dM b c fun c=>aA c 0 fun d=>aA c 1 fun c=>C R 60 [.agg [d,c],.i (cq (v1 - v5))] H fun c H=>av ab .add 3 false (.i v5) c fun c=>ae R 60 200003 [.n v1,.lp 0 0,.g c,.n (cq (v6+1))] [(0,[.str a,.row 2 b])] H) (ret (.i v5) H)) (ret (.i v5) H):=by kernel_rfl
theorem ZT{R:be}{p0:Int}{ns:D}{H:DH}:aO R 68 [.i p0,ns] H =
 bJ ab 35 ns H fun a=>av ab .lss 3 false (.i p0) a fun a=>brD a (aq ab 35 ns (.i p0) fun a=>bQ ab 9 a H fun a=>ret a H) (C R 91 [.i p0] H fun a H=>ret a H):=by kernel_rfl
theorem f3{R:be}{p0 p1:dB}{H:DH}:aO R 3 [.row 2 p0,.row 3 p1] H =
 C R 6 [] H fun a H=>cond (decide ((p0.length:Int)>6)) (ret a H) (ae R 3 200005 [.g (.row 2 p0),.g (.row 3 p1),.g a,.n 0] [] H):=by kernel_rfl
theorem f5{R:be}{p0:dB}{H:DH}:aO R 5 [.row 2 p0] H =
 C R 6 [] H fun a H=>C R 8 [.row 2 p0] H fun b H=>gY b 0 fun c=>gY b 1 fun b=>C R 14 [.row 2 p0] H fun d H=>ai 2 d fun d=>az [.nilrow,.i 0] 0 d fun d=>sF .not a fun a=>brD a (ret (.bool false) H) (aA d 1 fun a=>av ab .neq 28 false b a fun a=>brD a (ret (.bool false) H) (aA d 0 fun a=>C R 15 [c,a] H fun a H=>sF .not a fun a=>brD a (ret (.bool false) H) (cond (decide ((p0.length:Int)<2)) (ret (.bool true) H) (dM p0 0 fun a=>aA a 0 fun b=>aA a 1 fun a=>dM p0 1 fun c=>aA c 0 fun d=>aA c 1 fun c=>dw (R (.call 16 [.agg [b,a],.agg [d,c]] none) H) (fun a H=>gY a 0 fun b=>gY a 1 fun a=>dM p0 0 fun c=>aA c 0 fun d=>aA c 1 fun c=>dM p0 1 fun e=>aA e 0 fun f=>aA e 1 fun e=>dw (R (.call 17 [.agg [d,c],.agg [f,e]] none) H) (fun c H=>ai 2 c fun c=>az [.nilrow,.i 0] 0 c fun c=>aA c 1 fun d=>av ab .eql 28 false a d fun a=>brD a (aA c 0 fun a=>C R 15 [b,a] H fun a H=>ret a H) (ret (.bool false) H)) fun _ _=>none) fun _ _=>none)))):=by kernel_rfl
theorem f37{R:be}{a:af}{b:dB}{o:D}{H:DH}:aO R 37 [.agg [.str a,.row 2 b],o] H =
 C R 63 [.agg [.str a,.row 2 b]] H fun c H=>brD c (C R 64 [o,.str a] H fun c H=>sF .not c fun c=>brD c (cE (aJ ab 9) 1 o [[.str a]] H fun a H=>ret a H) (ae R 37 200005 [.lp 0 0,.g o,.n 0] [(0,[.str a,.row 2 b])] H)) (ae R 37 200005 [.lp 0 0,.g o,.n 0] [(0,[.str a,.row 2 b])] H):=by kernel_rfl
theorem qb{R:be}{v5:D}{v6:Int}{a:af}{b:dB}{H:DH}:bm R 37 200005 [.lp 0 0,.g v5,.n v6] [(0,[.str a,.row 2 b])] H =
 cond (decide (v6<b.length)) (cY v6 fun c=>dM b c fun c=>aA c 0 fun d=>aA c 1 fun c=>C R 37 [.agg [d,c],v5] H fun c H=>ae R 37 200005 [.lp 0 0,.g c,.n (cq (v6+1))] [(0,[.str a,.row 2 b])] H) (ret v5 H):=by kernel_rfl
theorem f36{R:be}{a:af}{b:dB}{H:DH}:aO R 36 [.agg [.str a,.row 2 b]] H =
 C R 60 [.agg [.str a,.row 2 b],.i 2000] H fun c H=>av ab .leq 3 true c (.i 2000) fun c=>brD c (C R 61 [.agg [.str a,.row 2 b]] H fun c H=>av ab .leq 3 true c (.i 100) fun c=>brD c (C R 62 [.agg [.str a,.row 2 b]] H fun a H=>ret a H) (ret (.bool false) H)) (ret (.bool false) H):=by kernel_rfl
theorem ZX{R:be}{a:af}{b:dB}{H:DH}:aO R 63 [.agg [.str a,.row 2 b]] H =
 cond (decide ((a.length:Int)>0)) (eI a 0 fun a=>av ab .eql 5 true a (.int .u8 39) fun a=>ret a H) (ret (.bool false) H):=by kernel_rfl
theorem f40{R:be}{p0:Nat}{p1 p2:Int}{H:DH}:aO R 40 [.ptr p0 0,.i p1,.i p2] H =
 let a:=H++[.buf 1 true false [[.i p1],[.i p2]]];ae R 40 200001 [.g (.ptr p0 0),.g (.buf 1 H.length 2)] [] a:=by kernel_rfl
theorem xY{R:be}{v0:Nat}{x6:D}{H:DH}:bm R 40 200001 [.g (.ptr v0 0),.g x6] [] H =
 bJ ab 59 x6 H fun a=>av ab .gtr 3 true a (.i 0) fun a=>brD a (bJ ab 59 x6 H fun a=>av ab .sub 3 true a (.i 2) fun a=>aq ab 59 x6 a fun a=>bQ ab 3 a H fun a=>C R 42 [.ptr v0 0,a] H fun a H=>bJ ab 59 x6 H fun b=>av ab .sub 3 true b (.i 1) fun b=>aq ab 59 x6 b fun b=>bQ ab 3 b H fun b=>C R 42 [.ptr v0 0,b] H fun b H=>bJ ab 59 x6 H fun c=>av ab .sub 3 true c (.i 2) fun c=>Me ab 59 x6 none (some c) none H fun c H=>av ab .eql 3 false a b fun d=>brD d (ae R 40 200001 [.g (.ptr v0 0),.g c] [] H) (au H v0 fun _ d=>aA d 0 fun d=>aq ab 35 d a fun d=>bQ ab 9 d H fun d=>av ab .eql 9 true d (.str []) fun d=>brD d (au H v0 fun _ d=>aA d 0 fun d=>aq ab 35 d b fun d=>bQ ab 9 d H fun d=>av ab .eql 9 true d (.str []) fun d=>brD d (au H v0 fun _ d=>aA d 2 fun d=>fX true a [b] fun e=>fX false a [b] fun a=>aq ab 59 d e fun b=>ai 1 a fun a=>sK b a H fun H=>ae R 40 200001 [.g (.ptr v0 0),.g c] [] H) (au H v0 fun _ d=>aA d 0 fun d=>aq ab 35 d b fun d=>bQ ab 9 d H fun d=>av ab .eql 9 true d (.str []) fun d=>brD d (ae R 40 10 [.g (.ptr v0 0),.g c,.g b,.g a] [] H) (ae R 40 10 [.g (.ptr v0 0),.g c,.g a,.g b] [] H))) (au H v0 fun _ d=>aA d 0 fun d=>aq ab 35 d b fun d=>bQ ab 9 d H fun d=>av ab .eql 9 true d (.str []) fun d=>brD d (ae R 40 10 [.g (.ptr v0 0),.g c,.g b,.g a] [] H) (ae R 40 10 [.g (.ptr v0 0),.g c,.g a,.g b] [] H)))) (ret (.tuple []) H):=by kernel_rfl
theorem Oa{R:be}{v0:Nat}{x6:D}{v7 v8:Int}{H:DH}:bm R 40 10 [.g (.ptr v0 0),.g x6,.n v7,.n v8] [] H =
 au H v0 fun _ a=>aA a 0 fun a=>aq ab 35 a (.i v7) fun a=>bQ ab 9 a H fun a=>av ab .eql 9 true a (.str []) fun a=>brD a (au H v0 fun _ a=>aA a 2 fun a=>aq ab 59 a (.i v7) fun a=>sK a [.i v8] H fun H=>ae R 40 200001 [.g (.ptr v0 0),.g x6] [] H) (au H v0 fun _ a=>aA a 0 fun a=>aq ab 35 a (.i v7) fun a=>bQ ab 9 a H fun a=>au H v0 fun _ b=>aA b 0 fun b=>aq ab 35 b (.i v8) fun b=>bQ ab 9 b H fun b=>av ab .neq 9 false a b fun a=>brD a (au H v0 fun a b=>az b 3 [.bool true] fun b=>let H:=H.set v0 (.cells (a+1) b);ae R 40 200001 [.g (.ptr v0 0),.g x6] [] H) (au H v0 fun _ a=>aA a 1 fun a=>aq ab 93 a (.i v7) fun a=>bQ ab 59 a H fun a=>bJ ab 59 a H fun a=>au H v0 fun _ b=>aA b 1 fun b=>aq ab 93 b (.i v8) fun b=>bQ ab 59 b H fun b=>bJ ab 59 b H fun b=>av ab .neq 3 false a b fun a=>brD a (au H v0 fun a b=>az b 3 [.bool true] fun b=>let H:=H.set v0 (.cells (a+1) b);ae R 40 200001 [.g (.ptr v0 0),.g x6] [] H) (au H v0 fun _ a=>aA a 2 fun a=>aq ab 59 a (.i v8) fun a=>sK a [.i v7] H fun H=>ae R 40 200016 [.g (.ptr v0 0),.g x6,.n v7,.n v8,.n 0] [] H))):=by kernel_rfl
theorem xX{R:be}{v0:Nat}{x6:D}{v7 v8 v9:Int}{H:DH}:bm R 40 200016 [.g (.ptr v0 0),.g x6,.n v7,.n v8,.n v9] [] H =
 au H v0 fun _ a=>aA a 1 fun a=>aq ab 93 a (.i v7) fun a=>bQ ab 59 a H fun a=>bJ ab 59 a H fun a=>av ab .lss 3 false (.i v9) a fun a=>brD a (au H v0 fun _ a=>aA a 1 fun a=>aq ab 93 a (.i v7) fun a=>bQ ab 59 a H fun a=>aq ab 59 a (.i v9) fun a=>bQ ab 3 a H fun a=>au H v0 fun _ b=>aA b 1 fun b=>aq ab 93 b (.i v8) fun b=>bQ ab 59 b H fun b=>aq ab 59 b (.i v9) fun b=>bQ ab 3 b H fun b=>ai 1 a fun a=>ai 1 b fun b=>cE (aJ ab 3) 1 x6 [a,b] H fun a H=>ae R 40 200016 [.g (.ptr v0 0),.g a,.n v7,.n v8,.n (cq (v9+1))] [] H) (ae R 40 200001 [.g (.ptr v0 0),.g x6] [] H):=by kernel_rfl
theorem ZY{R:be}{a:af}{b:dB}{H:DH}:aO R 62 [.agg [.str a,.row 2 b]] H =
 ae R 62 200002 [.lp 0 0,.n 0] [(0,[.str a,.row 2 b])] H:=by kernel_rfl
theorem xO{R:be}{v3:Int}{a:af}{b:dB}{H:DH}:bm R 62 200002 [.lp 0 0,.n v3] [(0,[.str a,.row 2 b])] H =
 cond (decide (v3<b.length)) (cY v3 fun c=>dM b c fun c=>aA c 0 fun d=>aA c 1 fun c=>C R 62 [.agg [d,c]] H fun c H=>sF .not c fun c=>brD c (ret (.bool false) H) (ae R 62 200002 [.lp 0 0,.n (cq (v3+1))] [(0,[.str a,.row 2 b])] H)) (cond (a==[45,62]) (ret (.bool ((b.length:Int)==2)) H) (cond (a==[44]) (cond (decide ((b.length:Int)>=2)) (ret (.bool (decide ((b.length:Int)<=4))) H) (ret (.bool false) H)) (cond (a==[73,110,116]) (ret (.bool ((b.length:Int)==0)) H) (C R 90 [.str a] H fun a H=>av ab .eql 3 true a (.i 4) fun c=>brD c (cond ((b.length:Int)==0) (ret (.bool true) H) (av ab .eql 3 true a (.i 3) fun a=>brD a (ret (.bool (decide ((b.length:Int)<=16))) H) (ret (.bool false) H))) (av ab .eql 3 true a (.i 3) fun a=>brD a (ret (.bool (decide ((b.length:Int)<=16))) H) (ret (.bool false) H)))))):=by kernel_rfl
theorem f42{R:be}{p0:Nat}{p1:Int}{H:DH}:aO R 42 [.ptr p0 0,.i p1] H =
 ae R 42 200001 [.g (.ptr p0 0),.n p1] [] H:=by kernel_rfl
theorem xW{R:be}{v0:Nat}{v1:Int}{H:DH}:bm R 42 200001 [.g (.ptr v0 0),.n v1] [] H =
 au H v0 fun _ a=>aA a 2 fun a=>aq ab 59 a (.i v1) fun a=>bQ ab 3 a H fun a=>av ab .neq 3 false a (.i v1) fun a=>brD a (au H v0 fun _ a=>aA a 2 fun a=>au H v0 fun _ b=>aA b 2 fun b=>au H v0 fun _ c=>aA c 2 fun c=>aq ab 59 c (.i v1) fun c=>bQ ab 3 c H fun c=>aq ab 59 b c fun b=>bQ ab 3 b H fun b=>aq ab 59 a (.i v1) fun a=>ai 1 b fun b=>sK a b H fun H=>au H v0 fun _ a=>aA a 2 fun a=>aq ab 59 a (.i v1) fun a=>bQ ab 3 a H fun a=>ae R 42 200001 [.g (.ptr v0 0),.g a] [] H) (ret (.i v1) H):=by kernel_rfl
theorem f7{R:be}{a:af}{b:dB}{H:DH}:aO R 7 [.agg [.str a,.row 2 b]] H =
 let a:=H++[.cells 0 [.str a,.row 2 b]];let b:=a++[.cells 0 [.i 0]];au b a.length fun c d=>az d 0 [.i 0] fun d=>let b:=b.set a.length (.cells (c+1) d);C R 22 [.ptr H.length 0,.i 1,.ptr a.length 0] b fun b H=>sF .not b fun b=>brD b (ret (.i 0) H) (au H a.length fun _ a=>aA a 0 fun a=>ret a H):=by kernel_rfl
theorem f28{R:be}{p0:Nat}{H:DH}:aO R 28 [.ptr p0 0] H =
 au H p0 fun _ a=>aA a 1 fun a=>ai 1 a fun a=>az [.str [],.nilrow] 0 a fun a=>ai 2 (.agg a) fun a=>az [.str [],.nilrow] 0 a fun a=>aA a 0 fun b=>aA a 1 fun a=>ret (.agg [b,a]) H:=by kernel_rfl
theorem f8{R:be}{p0:dB}{H:DH}:aO R 8 [.row 2 p0] H =
 cond (decide ((p0.length:Int)>16)) (ret (.tuple [.row 3 [],.i 1]) H) (ae R 8 200004 [.g (.row 2 p0),.g (.row 2 p0),.n p0.length,.n 0] [] H):=by kernel_rfl
theorem Be{R:be}{v0 a:dB}{b c:Int}{H:DH}:bm R 8 200004 [.g (.row 2 v0),.g (.row 2 a),.n b,.n c] [] H =
 cond (decide (c<b)) (cY c fun d=>dM a d fun d=>aA d 0 fun e=>aA d 1 fun d=>C R 7 [.agg [e,d]] H fun d H=>av ab .eql 3 true d (.i 0) fun d=>brD d (ret (.tuple [.row 3 [],.i 32]) H) (ae R 8 200004 [.g (.row 2 v0),.g (.row 2 a),.n b,.n (cq (c+1))] [] H)) (let a:=H++[.map []];let H:=a++[.cells 0 [.map H.length,.nilrow]];ae R 8 200012 [.g (.ptr a.length 0),.g .nilrow,.g (.row 2 v0),.n v0.length,.n 0] [] H):=by kernel_rfl
theorem Bd{R:be}{v6:Nat}{v7:D}{a:dB}{b c:Int}{H:DH}:bm R 8 200012 [.g (.ptr v6 0),.g v7,.g (.row 2 a),.n b,.n c] [] H =
 cond (decide (c<b)) (cY c fun d=>dM a d fun d=>aA d 0 fun e=>aA d 1 fun d=>C R 23 [.ptr v6 0,.agg [e,d]] H fun d H=>ai 1 d fun d=>cE (aJ ab 74) 1 v7 [d] H fun d H=>ae R 8 200012 [.g (.ptr v6 0),.g d,.g (.row 2 a),.n b,.n (cq (c+1))] [] H) (bJ ab 71 v7 H fun a=>ae R 8 200017 [.g (.ptr v6 0),.g v7,.g v7,.g a,.n 0] [] H):=by kernel_rfl
theorem tG{R:be}{v6:Nat}{v7 a:D}{b c:Int}{H:DH}:bm R 8 200017 [.g (.ptr v6 0),.g v7,.g a,.n b,.n c] [] H =
 cond (decide (c<b)) (aq ab 71 a (.i c) fun d=>bQ ab 74 d H fun d=>aq ab 71 v7 (.i 0) fun e=>bQ ab 74 e H fun e=>C R 24 [e,d] H fun d H=>sF .not d fun d=>brD d (ret (.tuple [.row 3 [],.i 30]) H) (ae R 8 200017 [.g (.ptr v6 0),.g v7,.g a,.n b,.n (cq (c+1))] [] H)) (C R 25 [v7] H fun a H=>sF .not a fun a=>brD a (ret (.tuple [.row 3 [],.i 31]) H) (au H v6 fun _ a=>aA a 1 fun a=>bJ ab 71 a H fun b=>ae R 8 200026 [.g .nilrow,.g a,.g b,.n 0] [] H)):=by kernel_rfl
theorem Bc{R:be}{a b:D}{c e:Int}{H:DH}:bm R 8 200026 [.g a,.g b,.n c,.n e] [] H =
 cond (decide (e<c)) (aq ab 71 b (.i e) fun d=>bQ ab 74 d H fun d=>C R 26 [d] H fun f H=>yK ab .eql 74 false f d H fun f=>brD f (ae R 8 200026 [.g a,.g b,.n c,.n (cq (e+1))] [] H) (let f:=H++[.cells 0 [.i 0]];au f H.length fun g h=>az h 0 [.i 0] fun h=>let f:=f.set H.length (.cells (g+1) h);C R 27 [d,.i 1,.ptr H.length 0,.func 28 [] []] f fun f g=>ai 2 f fun f=>az [.str [],.nilrow] 0 f fun f=>au g H.length fun _ h=>aA h 0 fun h=>av ab .gtr 3 true h (.i 2000) fun h=>brD h (ret (.tuple [.row 3 [],.i 39]) g) (eR d fun d=>dz d 1 fun d=>bQ ab 9 d g fun d=>aA f 0 fun h=>aA f 1 fun f=>ai 1 d fun d=>az [.str [],.str [],.nilrow] 0 d fun d=>az d 1 [h,f] fun d=>ai 3 (.agg d) fun d=>cE (aJ ab 52) 3 a [d] g fun a H=>ae R 8 200026 [.g a,.g b,.n c,.n (cq (e+1))] [] H))) (jt (.fz 3) 0 a H fun a H=>ret (.tuple [a,.i 0]) H):=by kernel_rfl
theorem f27{R:be}{p0:Nat}{p1:Int}{p2:Nat}{p3:D}{H:DH}:aO R 27 [.ptr p0 0,.i p1,.ptr p2 0,p3] H =
 C R 26 [.ptr p0 0] H fun a H=>au H p2 fun _ b=>aA b 0 fun b=>av ab .add 3 true b (.i 1) fun b=>ai 1 b fun b=>au H p2 fun c d=>az d 0 b fun b=>let H:=H.set p2 (.cells (c+1) b);au H p2 fun _ b=>aA b 0 fun b=>av ab .gtr 3 true b (.i 2000) fun b=>brD b (au H p2 fun a b=>az b 0 [.i 2001] fun b=>let H:=H.set p2 (.cells (a+1) b);ret (.agg [.str [],.row 2 []]) H) (cond (decide (p1>100)) (au H p2 fun a b=>az b 0 [.i 2001] fun b=>let H:=H.set p2 (.cells (a+1) b);ret (.agg [.str [],.row 2 []]) H) (eR a fun b=>dz b 0 fun b=>bQ ab 4 b H fun b=>brD b (Hf mc p3 fun b c d=>C R b (c++([a]++d)) H fun a H=>ai 2 a fun a=>az [.str [],.nilrow] 0 a fun a=>aA a 0 fun b=>aA a 1 fun a=>fK (.fz 2) a H fun a H=>ret (.agg [b,a]) H) (eR a fun b=>dz b 1 fun b=>bQ ab 9 b H fun b=>ai 1 b fun b=>az [.str [],.nilrow] 0 b fun b=>ai 2 (.agg b) fun b=>az [.str [],.nilrow] 0 b fun b=>eR a fun a=>dz a 3 fun a=>bQ ab 71 a H fun a=>bJ ab 71 a H fun c=>ae R 27 200010 [.n p1,.g (.ptr p2 0),.g p3,.lp 0 0,.lp 1 0,.g a,.g c,.n 0] [(0,[.str [],.nilrow]),(0,b)] H))):=by kernel_rfl
theorem ya{R:be}{v1:Int}{v2:Nat}{v3 a:D}{b c:Int}{e:af}{h:D}{w1:List D}{H:DH}:bm R 27 200010 [.n v1,.g (.ptr v2 0),.g v3,.lp 0 0,.lp 1 0,.g a,.n b,.n c] [(0,[.str e,h]),(0,w1)] H =
 cond (decide (c<b)) (aq ab 71 a (.i c) fun d=>bQ ab 74 d H fun d=>dw (R (.call 27 [d,.i (cq (v1+1)),.ptr v2 0,v3] none) H) (fun d H=>aA w1 1 fun f=>ai 2 d fun d=>cE (aJ ab 27) 2 f [d] H fun d H=>ai 1 d fun d=>az w1 1 d fun d=>ae R 27 200010 [.n v1,.g (.ptr v2 0),.g v3,.lp 0 0,.lp 1 0,.g a,.n b,.n (cq (c+1))] [(0,[.str e,h]),(0,d)] H) fun _ _=>none) (aA w1 0 fun a=>aA w1 1 fun b=>fK (.fz 2) b H fun b H=>ret (.agg [a,b]) H):=by kernel_rfl
theorem ZU{R:be}{p0:Nat}{p1:Int}{H:DH}:aO R 67 [.ptr p0 0,.i p1] H =
 C R 42 [.ptr p0 0,.i p1] H fun a H=>au H p0 fun _ b=>aA b 4 fun b=>aq ab 59 b a fun b=>bQ ab 3 b H fun b=>au H p0 fun _ c=>aA c 5 fun c=>av ab .geq 3 false b c fun b=>brD b (au H p0 fun _ b=>aA b 4 fun b=>aq ab 59 b a fun a=>bQ ab 3 a H fun a=>au H p0 fun _ b=>aA b 5 fun b=>av ab .eql 3 false a b fun a=>ret a H) (au H p0 fun _ b=>aA b 4 fun b=>au H p0 fun _ c=>aA c 5 fun c=>aq ab 59 b a fun b=>ai 1 c fun c=>sK b c H fun H=>ae R 67 200006 [.g (.ptr p0 0),.g a,.n 0] [] H):=by kernel_rfl
theorem xM{R:be}{v0:Nat}{v1 v5:Int}{H:DH}:bm R 67 200006 [.g (.ptr v0 0),.n v1,.n v5] [] H =
 au H v0 fun _ a=>aA a 1 fun a=>aq ab 93 a (.i v1) fun a=>bQ ab 59 a H fun a=>bJ ab 59 a H fun a=>av ab .lss 3 false (.i v5) a fun a=>brD a (au H v0 fun _ a=>aA a 1 fun a=>aq ab 93 a (.i v1) fun a=>bQ ab 59 a H fun a=>aq ab 59 a (.i v5) fun a=>bQ ab 3 a H fun a=>C R 67 [.ptr v0 0,a] H fun a H=>brD a (ret (.bool true) H) (ae R 67 200006 [.g (.ptr v0 0),.n v1,.n (cq (v5+1))] [] H)) (au H v0 fun _ a=>aA a 4 fun a=>au H v0 fun _ b=>aA b 5 fun b=>av ab .add 3 true b (.i 1) fun b=>aq ab 59 a (.i v1) fun a=>ai 1 b fun b=>sK a b H fun H=>ret (.bool false) H):=by kernel_rfl
theorem f15{R:be}{p0 p1:dB}{H:DH}:aO R 15 [.row 3 p0,.row 3 p1] H =
 cond ((p0.length:Int) !=(p1.length:Int)) (ret (.bool false) H) (ae R 15 200004 [.g (.row 3 p0),.g (.row 3 p1),.n 0] [] H):=by kernel_rfl
theorem yf{R:be}{v0 v1:dB}{v5:Int}{H:DH}:bm R 15 200004 [.g (.row 3 v0),.g (.row 3 v1),.n v5] [] H =
 cond (decide (v5<v0.length)) (cY v5 fun a=>dM v0 a fun a=>aA a 0 fun a=>cY v5 fun b=>dM v1 b fun b=>aA b 0 fun b=>av ab .neq 9 false a b fun a=>brD a (ret (.bool false) H) (cY v5 fun a=>dM v0 a fun a=>aA a 1 fun b=>aA a 2 fun a=>cY v5 fun c=>dM v1 c fun c=>aA c 1 fun d=>aA c 2 fun c=>dw (R (.call 10 [.agg [b,a],.agg [d,c]] none) H) (fun a H=>sF .not a fun a=>brD a (ret (.bool false) H) (ae R 15 200004 [.g (.row 3 v0),.g (.row 3 v1),.n (cq (v5+1))] [] H)) fun _ _=>none)) (ret (.bool true) H):=by kernel_rfl
theorem ZZ{R:be}{a:af}{b:dB}{H:DH}:aO R 61 [.agg [.str a,.row 2 b]] H =
 ae R 61 200003 [.lp 0 0,.n 0,.n 0] [(0,[.str a,.row 2 b])] H:=by kernel_rfl
theorem xP{R:be}{v3 v4:Int}{a:af}{b:dB}{H:DH}:bm R 61 200003 [.lp 0 0,.n v3,.n v4] [(0,[.str a,.row 2 b])] H =
 cond (decide (v4<b.length)) (cY v4 fun c=>dM b c fun c=>aA c 0 fun d=>aA c 1 fun c=>C R 61 [.agg [d,c]] H fun c H=>fX true (.i v3) [c] fun c=>ae R 61 200003 [.lp 0 0,.g c,.n (cq (v4+1))] [(0,[.str a,.row 2 b])] H) (ret (.i (cq (v3+1))) H):=by kernel_rfl
theorem f41{R:be}{p0:Nat}{p1:Int}{H:DH}:aO R 41 [.ptr p0 0,.i p1] H =
 au H p0 fun _ a=>aA a 5 fun a=>av ab .add 3 true a (.i 2) fun a=>ai 1 a fun a=>au H p0 fun b c=>az c 5 a fun a=>let H:=H.set p0 (.cells (b+1) a);C R 67 [.ptr p0 0,.i p1] H fun a H=>ret a H:=by kernel_rfl
theorem f38{R:be}{p0:Nat}{H:DH}:aO R 38 [.ptr p0 0] H =
 C R 65 [.ptr p0 0,.str [],.nilrow] H fun a H=>ret a H:=by kernel_rfl
theorem f44{R:be}{p0:Nat}{p1:Int}{p2:Nat}{ns:D}{H:DH}:aO R 44 [.ptr p0 0,.i p1,.ptr p2 0,ns] H =
 C R 42 [.ptr p0 0,.i p1] H fun a H=>au H p0 fun _ b=>aA b 0 fun b=>aq ab 35 b a fun b=>bQ ab 9 b H fun b=>av ab .eql 9 true b (.str []) fun b=>brD b (ae R 44 200004 [.g a,.g (.ptr p2 0),.g ns,.lp 0 0,.n 0] [(0,[.str [],.nilrow])] H) (au H p0 fun _ b=>aA b 0 fun b=>aq ab 35 b a fun b=>bQ ab 9 b H fun b=>ai 1 b fun b=>az [.str [],.nilrow] 0 b fun b=>ai 2 (.agg b) fun b=>az [.str [],.nilrow] 0 b fun b=>ae R 44 200012 [.g (.ptr p0 0),.g a,.g (.ptr p2 0),.g ns,.lp 0 0,.lp 1 0,.n 0] [(0,[.str [],.nilrow]),(0,b)] H):=by kernel_rfl
theorem xU{R:be}{v1:Int}{v2:Nat}{v3:D}{v9:Int}{a:af}{b:D}{H:DH}:bm R 44 200004 [.n v1,.g (.ptr v2 0),.g v3,.lp 0 0,.n v9] [(0,[.str a,b])] H =
 au H v2 fun _ c=>aA c 0 fun c=>bJ ab 59 c H fun c=>av ab .lss 3 false (.i v9) c fun c=>brD c (au H v2 fun _ c=>aA c 0 fun c=>aq ab 59 c (.i v9) fun c=>bQ ab 3 c H fun c=>av ab .eql 3 false c (.i v1) fun c=>brD c (C R 68 [.i v9,v3] H fun c H=>ai 1 c fun c=>az [.str [],.nilrow] 0 c fun c=>ai 2 (.agg c) fun c=>az [.str a,b] 0 c fun a=>aA a 0 fun b=>aA a 1 fun a=>fK (.fz 2) a H fun a H=>ret (.agg [b,a]) H) (ae R 44 200004 [.n v1,.g (.ptr v2 0),.g v3,.lp 0 0,.n (cq (v9+1))] [(0,[.str a,b])] H)) (au H v2 fun _ c=>aA c 0 fun c=>cE (aJ ab 3) 1 c [[.i v1]] H fun c H=>ai 1 c fun c=>au H v2 fun d e=>az e 0 c fun c=>let H:=H.set v2 (.cells (d+1) c);au H v2 fun _ c=>aA c 0 fun c=>bJ ab 59 c H fun c=>av ab .sub 3 true c (.i 1) fun c=>C R 68 [c,v3] H fun c H=>ai 1 c fun c=>az [.str [],.nilrow] 0 c fun c=>ai 2 (.agg c) fun c=>az [.str a,b] 0 c fun a=>aA a 0 fun b=>aA a 1 fun a=>fK (.fz 2) a H fun a H=>ret (.agg [b,a]) H):=by kernel_rfl
theorem xS{R:be}{v0:Nat}{v1:Int}{v2:Nat}{v3:D}{a:Int}{b:af}{c:D}{w1:List D}{H:DH}:bm R 44 200012 [.g (.ptr v0 0),.n v1,.g (.ptr v2 0),.g v3,.lp 0 0,.lp 1 0,.n a] [(0,[.str b,c]),(0,w1)] H =
 au H v0 fun _ d=>aA d 1 fun d=>aq ab 93 d (.i v1) fun d=>bQ ab 59 d H fun d=>bJ ab 59 d H fun d=>av ab .lss 3 false (.i a) d fun d=>brD d (au H v0 fun _ d=>aA d 1 fun d=>aq ab 93 d (.i v1) fun d=>bQ ab 59 d H fun d=>aq ab 59 d (.i a) fun d=>bQ ab 3 d H fun d=>dw (R (.call 44 [.ptr v0 0,d,.ptr v2 0,v3] none) H) (fun d H=>aA w1 1 fun e=>ai 2 d fun d=>cE (aJ ab 27) 2 e [d] H fun d H=>ai 1 d fun d=>az w1 1 d fun d=>ae R 44 200012 [.g (.ptr v0 0),.n v1,.g (.ptr v2 0),.g v3,.lp 0 0,.lp 1 0,.n (cq (a+1))] [(0,[.str b,c]),(0,d)] H) fun _ _=>none) (aA w1 0 fun a=>aA w1 1 fun b=>fK (.fz 2) b H fun b H=>ret (.agg [a,b]) H):=by kernel_rfl
theorem Zx{R:be}{p0 p1:Nat}{H:DH}:aO R 24 [.ptr p0 0,.ptr p1 0] H =
 C R 26 [.ptr p0 0] H fun a H=>C R 26 [.ptr p1 0] H fun b H=>yK ab .eql 74 false a b H fun c=>brD c (ret (.bool true) H) (eR a fun c=>dz c 0 fun c=>bQ ab 4 c H fun c=>brD c (eR b fun c=>dz c 0 fun c=>bQ ab 4 c H fun c=>brD c (eR a fun c=>dz c 2 fun c=>bQ ab 3 c H fun c=>eR b fun d=>dz d 2 fun d=>bQ ab 3 d H fun d=>av ab .gtr 3 false c d fun c=>brD c (eR a fun a=>dz a 4 fun a=>ai 1 b fun b=>sK a b H fun H=>ret (.bool true) H) (ae R 24 5 [.g a,.g b] [] H)) (ae R 24 5 [.g a,.g b] [] H)) (ae R 24 5 [.g a,.g b] [] H)):=by kernel_rfl
theorem Ws{R:be}{v0 v1:Nat}{H:DH}:bm R 24 5 [.g (.ptr v0 0),.g (.ptr v1 0)] [] H =
 au H v0 fun _ a=>aA a 0 fun a=>brD a (au H v1 fun _ a=>aA a 0 fun a=>sF .not a fun a=>brD a (au H v0 fun a b=>az b 4 [.ptr v1 0] fun b=>let H:=H.set v0 (.cells (a+1) b);ret (.bool true) H) (ae R 24 8 [.g (.ptr v0 0),.g (.ptr v1 0)] [] H)) (ae R 24 8 [.g (.ptr v0 0),.g (.ptr v1 0)] [] H):=by kernel_rfl
theorem Jp{R:be}{v0 v1:Nat}{H:DH}:bm R 24 8 [.g (.ptr v0 0),.g (.ptr v1 0)] [] H =
 au H v1 fun _ a=>aA a 0 fun a=>brD a (au H v1 fun a b=>az b 4 [.ptr v0 0] fun b=>let H:=H.set v1 (.cells (a+1) b);ret (.bool true) H) (au H v0 fun _ a=>aA a 1 fun a=>au H v1 fun _ b=>aA b 1 fun b=>av ab .neq 9 false a b fun a=>brD a (ret (.bool false) H) (au H v0 fun _ a=>aA a 3 fun a=>bJ ab 71 a H fun a=>au H v1 fun _ b=>aA b 3 fun b=>bJ ab 71 b H fun b=>av ab .neq 3 false a b fun a=>brD a (ret (.bool false) H) (au H v1 fun a b=>az b 4 [.ptr v0 0] fun b=>let H:=H.set v1 (.cells (a+1) b);au H v0 fun _ a=>aA a 3 fun a=>bJ ab 71 a H fun a=>ae R 24 200015 [.g (.ptr v0 0),.g (.ptr v1 0),.g a,.n 0] [] H))):=by kernel_rfl
theorem yc{R:be}{v0 v1:Nat}{a b:Int}{H:DH}:bm R 24 200015 [.g (.ptr v0 0),.g (.ptr v1 0),.n a,.n b] [] H =
 cond (decide (b<a)) (au H v0 fun _ c=>aA c 3 fun c=>aq ab 71 c (.i b) fun c=>bQ ab 74 c H fun c=>au H v1 fun _ d=>aA d 3 fun d=>aq ab 71 d (.i b) fun d=>bQ ab 74 d H fun d=>dw (R (.call 24 [c,d] none) H) (fun c H=>sF .not c fun c=>brD c (ret (.bool false) H) (ae R 24 200015 [.g (.ptr v0 0),.g (.ptr v1 0),.n a,.n (cq (b+1))] [] H)) fun _ _=>none) (ret (.bool true) H):=by kernel_rfl
theorem XZ{R:be}{p0 a b:Nat}{H:DH}:aO R 56 [.ptr p0 0,.ptr a 0,.ptr b 0] H =
 C R 26 [.ptr p0 0] H fun c H=>au H a fun _ d=>aA d 0 fun d=>jm ab 131 d c false H fun d=>av ab .eql 3 true d (.i 1) fun e=>brD e (ret (.bool false) H) (av ab .eql 3 true d (.i 2) fun d=>brD d (ret (.bool true) H) (au H a fun _ d=>aA d 0 fun d=>jY ab 131 d c (.i 1) H fun H=>eR c fun d=>dz d 3 fun d=>bQ ab 71 d H fun d=>bJ ab 71 d H fun e=>ae R 56 200009 [.g c,.g (.ptr a 0),.g (.ptr b 0),.g d,.g e,.n 0] [] H)):=by kernel_rfl
theorem xR{R:be}{v0 v1 v2:Nat}{a:D}{b c:Int}{H:DH}:bm R 56 200009 [.g (.ptr v0 0),.g (.ptr v1 0),.g (.ptr v2 0),.g a,.n b,.n c] [] H =
 cond (decide (c<b)) (aq ab 71 a (.i c) fun d=>bQ ab 74 d H fun d=>au H v2 fun _ e=>aA e 0 fun e=>Hf mc e fun e f g=>C R e (f++([d]++g)) H fun d H=>sF .not d fun d=>brD d (ret (.bool false) H) (ae R 56 200009 [.g (.ptr v0 0),.g (.ptr v1 0),.g (.ptr v2 0),.g a,.n b,.n (cq (c+1))] [] H)) (au H v1 fun _ a=>aA a 0 fun a=>jY ab 131 a (.ptr v0 0) (.i 2) H fun H=>ret (.bool true) H):=by kernel_rfl
theorem Zv{R:be}{p0:Nat}{p1:af}{a:D}{H:DH}:aO R 65 [.ptr p0 0,.str p1,a] H =
 au H p0 fun _ b=>aA b 0 fun b=>cE (aJ ab 9) 1 b [[.str p1]] H fun b H=>ai 1 b fun b=>au H p0 fun c d=>az d 0 b fun b=>let H:=H.set p0 (.cells (c+1) b);au H p0 fun _ b=>aA b 1 fun b=>ai 1 a fun a=>cE (aJ ab 59) 1 b [a] H fun a H=>ai 1 a fun a=>au H p0 fun b c=>az c 1 a fun a=>let H:=H.set p0 (.cells (b+1) a);au H p0 fun _ a=>aA a 2 fun a=>au H p0 fun _ b=>aA b 2 fun b=>bJ ab 59 b H fun b=>ai 1 b fun b=>cE (aJ ab 3) 1 a [b] H fun a H=>ai 1 a fun a=>au H p0 fun b c=>az c 2 a fun a=>let H:=H.set p0 (.cells (b+1) a);au H p0 fun _ a=>aA a 4 fun a=>cE (aJ ab 3) 1 a [[.i 0]] H fun a H=>ai 1 a fun a=>au H p0 fun b c=>az c 4 a fun a=>let H:=H.set p0 (.cells (b+1) a);au H p0 fun _ a=>aA a 2 fun a=>bJ ab 59 a H fun a=>av ab .sub 3 true a (.i 1) fun a=>ret a H:=by kernel_rfl
theorem f26{R:be}{p0:Nat}{H:DH}:aO R 26 [.ptr p0 0] H =
 ae R 26 200001 [.g (.ptr p0 0)] [] H:=by kernel_rfl
theorem qc{R:be}{v0:Nat}{H:DH}:bm R 26 200001 [.g (.ptr v0 0)] [] H =
 au H v0 fun _ a=>aA a 4 fun a=>av ab .neq 74 true a .nilptr fun a=>brD a (au H v0 fun _ a=>aA a 4 fun a=>eR a fun a=>dz a 4 fun a=>bQ ab 74 a H fun a=>av ab .neq 74 true a .nilptr fun a=>brD a (au H v0 fun _ a=>aA a 4 fun a=>eR a fun a=>dz a 4 fun a=>bQ ab 74 a H fun a=>ai 1 a fun a=>au H v0 fun b c=>az c 4 a fun a=>let H:=H.set v0 (.cells (b+1) a);au H v0 fun _ a=>aA a 4 fun a=>ae R 26 200001 [.g a] [] H) (au H v0 fun _ a=>aA a 4 fun a=>ae R 26 200001 [.g a] [] H)) (ret (.ptr v0 0) H):=by kernel_rfl
theorem f16{R:be}{a:af}{b:dB}{c:af}{e:dB}{H:DH}:aO R 16 [.agg [.str a,.row 2 b],.agg [.str c,.row 2 e]] H =
 C R 8 [.row 2 [[.str a,.row 2 b],[.str c,.row 2 e]]] H fun a H=>gY a 0 fun b=>gY a 1 fun a=>ret (.tuple [b,a]) H:=by kernel_rfl
theorem f22{R:be}{x:D}{p1:Int}{p2:Nat}{H:DH}:aO R 22 [x,.i p1,.ptr p2 0] H =
 au H p2 fun _ a=>aA a 0 fun a=>av ab .add 3 true a (.i 1) fun a=>ai 1 a fun a=>au H p2 fun b c=>az c 0 a fun a=>let H:=H.set p2 (.cells (b+1) a);eR x fun a=>dz a 1 fun a=>bQ ab 22 a H fun a=>bJ ab 22 a H fun a=>eR x fun b=>dz b 0 fun b=>bQ ab 9 b H fun b=>av ab .eql 9 true b (.str [73,110,116]) fun c=>brD c (av ab .eql 3 true a (.i 0) fun a=>ae R 22 12 [.g x,.n p1,.g (.ptr p2 0),.g a] [] H) (av ab .eql 9 true b (.str [45,62]) fun c=>brD c (av ab .eql 3 true a (.i 2) fun a=>ae R 22 12 [.g x,.n p1,.g (.ptr p2 0),.g a] [] H) (av ab .eql 9 true b (.str [44]) fun b=>brD b (av ab .geq 3 true a (.i 2) fun b=>brD b (av ab .leq 3 true a (.i 4) fun a=>ae R 22 12 [.g x,.n p1,.g (.ptr p2 0),.g a] [] H) (ae R 22 12 [.g x,.n p1,.g (.ptr p2 0),.g (.bool false)] [] H)) (eR x fun b=>dz b 0 fun b=>bQ ab 9 b H fun b=>C R 29 [b] H fun b H=>brD b (av ab .eql 3 true a (.i 0) fun b=>brD b (ae R 22 12 [.g x,.n p1,.g (.ptr p2 0),.g (.bool true)] [] H) (eR x fun b=>dz b 0 fun b=>bQ ab 9 b H fun b=>C R 55 [b] H fun b H=>brD b (av ab .leq 3 true a (.i 16) fun a=>ae R 22 12 [.g x,.n p1,.g (.ptr p2 0),.g a] [] H) (ae R 22 12 [.g x,.n p1,.g (.ptr p2 0),.g (.bool false)] [] H))) (eR x fun b=>dz b 0 fun b=>bQ ab 9 b H fun b=>C R 55 [b] H fun b H=>brD b (av ab .leq 3 true a (.i 16) fun a=>ae R 22 12 [.g x,.n p1,.g (.ptr p2 0),.g a] [] H) (ae R 22 12 [.g x,.n p1,.g (.ptr p2 0),.g (.bool false)] [] H))))):=by kernel_rfl
theorem CJ{R:be}{v0:D}{v1:Int}{v2:Nat}{v8:Bool}{H:DH}:bm R 22 12 [.g v0,.n v1,.g (.ptr v2 0),.g (.bool v8)] [] H =
 cond (!v8) (ret (.bool false) H) (au H v2 fun _ a=>aA a 0 fun a=>av ab .gtr 3 true a (.i 2000) fun a=>brD a (ret (.bool false) H) (cond (decide (v1>100)) (ret (.bool false) H) (eR v0 fun a=>dz a 1 fun a=>bQ ab 22 a H fun a=>bJ ab 22 a H fun a=>ae R 22 200015 [.g v0,.n v1,.g (.ptr v2 0),.g a,.n 0] [] H))):=by kernel_rfl
theorem ye{R:be}{v0:D}{v1:Int}{v2:Nat}{a b:Int}{H:DH}:bm R 22 200015 [.g v0,.n v1,.g (.ptr v2 0),.n a,.n b] [] H =
 cond (decide (b<a)) (eR v0 fun c=>dz c 1 fun c=>bQ ab 22 c H fun c=>aq ab 22 c (.i b) fun c=>C R 22 [c,.i (cq (v1+1)),.ptr v2 0] H fun c H=>sF .not c fun c=>brD c (ret (.bool false) H) (ae R 22 200015 [.g v0,.n v1,.g (.ptr v2 0),.n a,.n (cq (b+1))] [] H)) (ret (.bool true) H):=by kernel_rfl
theorem f43{R:be}{p0:Nat}{p1:Int}{dn:D}{H:DH}:aO R 43 [.ptr p0 0,.i p1,dn] H =
 C R 42 [.ptr p0 0,.i p1] H fun a H=>aq ab 100 dn a fun b=>dz b 0 fun b=>bQ ab 3 b H fun b=>av ab .gtr 3 true b (.i 0) fun b=>brD b (aq ab 100 dn a fun a=>bQ ab 102 a H fun a=>ai 2 a fun a=>az [.i 0,.i 0] 0 a fun a=>aA a 0 fun b=>aA a 1 fun a=>ret (.agg [b,a]) H) (let b:=H++[.cells 0 [.i 0,.i 0]];au b H.length fun c d=>az d 0 [.i 1,.i 0] fun d=>let b:=b.set H.length (.cells (c+1) d);ae R 43 200006 [.g (.ptr p0 0),.g a,.g dn,.lp 0 0,.g (.ptr H.length 0),.n 0] [(0,[.i 0,.i 0])] b):=by kernel_rfl
theorem xV{R:be}{v0:Nat}{v1:Int}{v2:D}{v7:Nat}{v8 a b:Int}{H:DH}:bm R 43 200006 [.g (.ptr v0 0),.n v1,.g v2,.lp 0 0,.g (.ptr v7 0),.n v8] [(0,[.i a,.i b])] H =
 au H v0 fun _ c=>aA c 1 fun c=>aq ab 93 c (.i v1) fun c=>bQ ab 59 c H fun c=>bJ ab 59 c H fun c=>av ab .lss 3 false (.i v8) c fun c=>brD c (au H v0 fun _ c=>aA c 1 fun c=>aq ab 93 c (.i v1) fun c=>bQ ab 59 c H fun c=>aq ab 59 c (.i v8) fun c=>bQ ab 3 c H fun c=>C R 43 [.ptr v0 0,c,v2] H fun c H=>let d:=H++[.cells 0 [.i 0,.i 0]];ai 2 c fun c=>au d H.length fun e f=>az f 0 c fun c=>let c:=d.set H.length (.cells (e+1) c);au c v7 fun _ d=>aA d 0 fun d=>au c H.length fun _ e=>aA e 0 fun e=>av ab .add 3 false d e fun d=>fX false d [.i 2001] fun d=>ai 1 d fun d=>au c v7 fun e f=>az f 0 d fun d=>let c:=c.set v7 (.cells (e+1) d);au c v7 fun _ d=>aA d 1 fun d=>au c H.length fun _ e=>aA e 1 fun e=>fX true d [e] fun d=>ai 1 d fun d=>au c v7 fun e f=>az f 1 d fun d=>let H:=c.set v7 (.cells (e+1) d);ae R 43 200006 [.g (.ptr v0 0),.n v1,.g v2,.lp 0 0,.g (.ptr v7 0),.n (cq (v8+1))] [(0,[.i a,.i b])] H) (au H v7 fun _ a=>aA a 1 fun a=>av ab .add 3 true a (.i 1) fun a=>fX false a [.i 101] fun a=>ai 1 a fun a=>au H v7 fun b c=>az c 1 a fun a=>let H:=H.set v7 (.cells (b+1) a);au H v7 fun _ a=>aA a 0 fun b=>aA a 1 fun a=>aq ab 100 v2 (.i v1) fun c=>sK c [b,a] H fun H=>au H v7 fun _ a=>aA a 0 fun b=>aA a 1 fun a=>ret (.agg [b,a]) H):=by kernel_rfl
theorem Yk{R:be}{p0:Nat}{a:af}{b:dB}{H:DH}:aO R 23 [.ptr p0 0,.agg [.str a,.row 2 b]] H =
 C R 29 [.str a] H fun c H=>sF .not c fun c=>brD c (let a:=H++[.cells 0 [.bool false,.str a,.i 0,.nilrow,.nilptr]];ae R 23 200004 [.g (.ptr p0 0),.g (.ptr H.length 0),.g (.row 2 b),.n b.length,.n 0] [] a) (au H p0 fun _ b=>aA b 0 fun b=>jm ab 70 b (.str a) false H fun b=>av ab .eql 74 true b .nilptr fun c=>brD c (au H p0 fun _ b=>aA b 1 fun b=>bJ ab 71 b H fun b=>ai 1 b fun b=>az [.bool true,.str a,.i 0,.nilrow,.nilptr] 2 b fun b=>ai 5 (.agg b) fun b=>let b:=H++[.cells 0 b];au b p0 fun _ c=>aA c 0 fun c=>jY ab 70 c (.str a) (.ptr H.length 0) b fun a=>au a p0 fun _ b=>aA b 1 fun b=>cE (aJ ab 74) 1 b [[.ptr H.length 0]] a fun a b=>ai 1 a fun a=>au b p0 fun c d=>az d 1 a fun a=>let a:=b.set p0 (.cells (c+1) a);ret (.ptr H.length 0) a) (ret b H)):=by kernel_rfl
theorem yd{R:be}{v0 v5:Nat}{a:dB}{b c:Int}{H:DH}:bm R 23 200004 [.g (.ptr v0 0),.g (.ptr v5 0),.g (.row 2 a),.n b,.n c] [] H =
 cond (decide (c<b)) (cY c fun d=>dM a d fun d=>aA d 0 fun e=>aA d 1 fun d=>dw (R (.call 23 [.ptr v0 0,.agg [e,d]] none) H) (fun d e=>au (cR e [H]) v5 fun _ f=>aA f 3 fun f=>ai 1 d fun d=>cE (aJ ab 74) 1 f [d] e fun d H=>ai 1 d fun d=>au H v5 fun e f=>az f 3 d fun d=>let H:=H.set v5 (.cells (e+1) d);ae R 23 200004 [.g (.ptr v0 0),.g (.ptr v5 0),.g (.row 2 a),.n b,.n (cq (c+1))] [] H) fun _ _=>none) (ret (.ptr v5 0) H):=by kernel_rfl
theorem f10{R:be}{a:af}{b:dB}{c:af}{e:dB}{H:DH}:aO R 10 [.agg [.str a,.row 2 b],.agg [.str c,.row 2 e]] H =
 cond (!(a==c)) (ret (.bool false) H) (cond ((b.length:Int) !=(e.length:Int)) (ret (.bool false) H) (ae R 10 200004 [.lp 0 0,.lp 1 0,.n 0] [(0,[.str a,.row 2 b]),(0,[.str c,.row 2 e])] H)):=by kernel_rfl
theorem yi{R:be}{v5:Int}{a:af}{b:dB}{c:af}{e:dB}{H:DH}:bm R 10 200004 [.lp 0 0,.lp 1 0,.n v5] [(0,[.str a,.row 2 b]),(0,[.str c,.row 2 e])] H =
 cond (decide (v5<b.length)) (cY v5 fun d=>dM b d fun d=>aA d 0 fun f=>aA d 1 fun d=>cY v5 fun g=>dM e g fun g=>aA g 0 fun h=>aA g 1 fun g=>dw (R (.call 10 [.agg [f,d],.agg [h,g]] none) H) (fun d H=>sF .not d fun d=>brD d (ret (.bool false) H) (ae R 10 200004 [.lp 0 0,.lp 1 0,.n (cq (v5+1))] [(0,[.str a,.row 2 b]),(0,[.str c,.row 2 e])] H)) fun _ _=>none) (ret (.bool true) H):=by kernel_rfl
theorem ZV{R:be}{x:D}{p1:af}{H:DH}:aO R 66 [x,.str p1] H =
 ae R 66 200002 [.g x,.g (.str p1),.n 0] [] H:=by kernel_rfl
theorem xN{R:be}{v0:D}{v1:af}{v5:Int}{H:DH}:bm R 66 200002 [.g v0,.g (.str v1),.n v5] [] H =
 bJ ab 35 v0 H fun a=>av ab .lss 3 false (.i v5) a fun a=>brD a (aq ab 35 v0 (.i v5) fun a=>bQ ab 9 a H fun a=>av ab .eql 9 false a (.str v1) fun a=>brD a (ret (.i v5) H) (ae R 66 200002 [.g v0,.g (.str v1),.n (cq (v5+1))] [] H)) (ret (.i (-1)) H):=by kernel_rfl
theorem f17{R:be}{a:af}{b:dB}{c:af}{e:dB}{H:DH}:aO R 17 [.agg [.str a,.row 2 b],.agg [.str c,.row 2 e]] H =
 C R 14 [.row 2 [[.str a,.row 2 b],[.str c,.row 2 e]]] H fun a H=>ai 2 a fun a=>az [.nilrow,.i 0] 0 a fun a=>aA a 0 fun b=>aA a 1 fun a=>ret (.agg [b,a]) H:=by kernel_rfl
theorem ZW{R:be}{x:D}{p1:af}{H:DH}:aO R 64 [x,.str p1] H =
 C R 66 [x,.str p1] H fun a H=>av ab .geq 3 true a (.i 0) fun a=>ret a H:=by kernel_rfl
theorem Vy(o c:Nat)(κ:D->ah):av ab .neq 74 true (.ptr o c) .nilptr κ=κ (.bool true):=by kernel_rfl
theorem Vz(κ:D->ah):av ab .neq 74 true .nilptr .nilptr κ=κ (.bool false):=by kernel_rfl
theorem VF(o c:Nat)(H:DH)(κ:D->ah):bQ ab 74 (.ptr o c) H κ=au H o fun _ cs=>aA cs c κ:=by kernel_rfl
theorem Hq(o c k:Nat)(κ:D->ah):dz (.ptr o c) k κ=κ (.ptr o (c+k)):=rfl
theorem HG(o c:Nat)(κ:D->ah):eR (.ptr o c) κ=κ (.ptr o c):=rfl
theorem Fs(o c:Nat)(κ:List D->ah):ai 1 (.ptr o c) κ=κ [.ptr o c]:=rfl
abbrev fH(v:Bool)(n:af)(o:Int)(d k:D):List D:=[.bool v,.str n,.i o,d,k]
theorem MZ(v:Bool)(n:af)(o:Int)(d k x:D)(κ:List D->ah):az (fH v n o d k) 4 [x] κ=κ (fH v n o d x):=rfl
def oN(os:List Nat)(i:Nat):Nat:=(os[i]?).getD 0
def Vb(os:List Nat):Option (Option Nat)->D
 |some (some j)=>.ptr (oN os j) 0
 |_=>.nilptr
def bM(H:DH)(d:D)(l:List Nat):Prop:=(d=.nilrow/\l=[])\/∃ o st cp,d=.buf 1 o l.length/\H[o]? = some (.buf 1 st cp (l.map fun o=>[.ptr o 0]))
theorem Ng{os:List Nat}{i:Nat}(h:i<os.length):os[i]? = some (oN os i):=by
 unfold oN;rw[List.getElem?_eq_getElem h];rfl
theorem sW{os:List Nat}(h:os.Nodup){i j:Nat}(hi:i<os.length)(hj:j<os.length)(e:oN os i=oN os j):i=j:=by
 have h1:=Ng hi
 have h2:=Ng hj
 rw[e]at h1
 exact(List.getElem?_inj hi h).1 (h1.trans h2.symm)
structure cC(H:DH)(os:List Nat)(N:List aH)(L:Lk):Prop where
 len:os.length=N.length
 lenL:L.length=N.length
 nd:os.Nodup
 ob:∀(i:Nat) (x:aH),N[i]? = some x->∃ s d,H[oN os i]? = some (.cells s (fH x.v x.n x.o d (Vb os L[i]?)))/\bM H d (x.a.map (oN os))
 kid:∀(i:Nat) (x:aH),N[i]? = some x->∀ a∈x.a,a<N.length
 lk:∀ i j:Nat,L[i]? = some (some j)->j<N.length
 sm:∀(i:Nat) (x:aH),N[i]? = some x->x.a.length<=16
structure vO(H H':DH)(os:List Nat):Prop where
 len:H.length<=H'.length
 at':∀ o:Nat,o<H.length->o∉os->H'[o]? = H[o]?
theorem vO.refl(H:DH)(os:List Nat):vO H H os:=⟨Nat.le_refl _,fun _ _ _=>rfl⟩
theorem vO.trans{H H' H'':DH}{os:List Nat}(h:vO H H' os)(k:vO H' H'' os):vO H H'' os:=⟨Nat.le_trans h.len k.len,fun o h1 h2=>by rw[k.at' o (Nat.lt_of_lt_of_le h1 h.len) h2,h.at' o h1 h2]⟩
theorem Ce{os:List Nat}{i:Nat}(h:i<os.length):oN os i∈os:=List.mem_of_getElem? (Ng h)
theorem bM.set{H:DH}{d:D}{l:List Nat}{o s s':Nat}{c c':List D}(h:bM H d l)(k:H[o]? = some (.cells s c)):bM (H.set o (.cells s' c')) d l:=by
 rcases h with⟨rfl,rfl⟩|⟨b,st,cp,rfl,h⟩
 ·exact .inl ⟨rfl,rfl⟩
 ·refine .inr ⟨b,st,cp,rfl,?_⟩
  rw[List.getElem?_set_ne (fun e=>by subst e;rw[h]at k;cases k),h]
theorem cC.link{H os N L}(g:cC H os N L){i j:Nat}{x:aH}{s:Nat}{d:D}(hx:N[i]? = some x)(hj:j<N.length)(ho:H[oN os i]? = some (.cells s (fH x.v x.n x.o d (Vb os L[i]?))))(hd:bM H d (x.a.map (oN os)))(s':Nat) :
 cC (H.set (oN os i) (.cells s' (fH x.v x.n x.o d (.ptr (oN os j) 0)))) os N (L.set i (some j))/\vO H (H.set (oN os i) (.cells s' (fH x.v x.n x.o d (.ptr (oN os j) 0)))) os:=by
 have hi:=ao hx
 have hi2:i<os.length:=by rw[g.len];exact hi
 have hl:i<L.length:=by rw[g.lenL];exact hi
 refine⟨⟨g.len,by rw[List.length_set,g.lenL],g.nd,fun k y hy=>?_,g.kid,fun a b h=>?_,g.sm⟩,by simp,fun o _ hn=>List.getElem?_set_ne (fun e=>hn (by rw[<- e];exact Ce hi2))⟩
 ·by_cases e:i=k
  ·subst e
   rw[hx]at hy;cases hy
   refine⟨s',d,?_,hd.set ho⟩
   rw[aN _ ho,dE hl,if_pos rfl]
   rfl
  ·obtain⟨s2,d2,h1,h2⟩:=g.ob k y hy
   refine⟨s2,d2,?_,h2.set ho⟩
   rw[List.getElem?_set_ne (fun q=>e (sW g.nd hi2 (by rw[g.len];exact ao hy) q)),h1,dE hl,if_neg e]
 ·rw[dE hl]at h
  split at h
  ·cases h;exact hj
  ·exact g.lk a b h
theorem MM:∀(n:Nat) {H:DH} {os N L} (g:cC H os N L) {i r:Nat} (h:Rt L i r n),∃ H' L',ae am 26 200001 [.g (.ptr (oN os i) 0)] [] H=ret (.ptr (oN os r) 0) H'/\cC H' os N L'/\mu N L L'/\vO H H' os:=by
 intro n
 induction n using Nat.strongRecOn with
 |ind n ih =>
  intro H os N L g i r h
  cases h with
  |z h =>
   have hi:i<N.length:=by rw[<- g.lenL];exact ao h
   obtain⟨s,d,h1,h2⟩:=g.ob i _ (List.getElem?_eq_getElem hi)
   refine⟨H,L,cM (qc) ?_,g,.refl _ _,.refl _ _⟩
   rw[h]at h1
   simp only[ac h1,fH,aj,ar,Vb,Vz,ak,cond_false]
  |s h k =>
   rename_i j m
   have hi:i<N.length:=by rw[<- g.lenL];exact ao h
   have hj:=g.lk i j h
   obtain⟨s,d,h1,h2⟩:=g.ob i _ (List.getElem?_eq_getElem hi)
   rw[h]at h1
   obtain⟨s2,d2,k1,k2⟩:=g.ob j _ (List.getElem?_eq_getElem hj)
   cases k with
   |z k =>
    rw[k]at k1
    obtain⟨H',L',e1,e2,e3,e4⟩:=ih 0 (by omega) g (.z k)
    refine⟨H',L',cM (qc) ?_,e2,e3,e4⟩
    simp only[ac h1,fH,aj,ar,Vb,Vy,ak,cond_true,HG,Hq,VF,Nat.zero_add,ac k1,Vz,cond_false]
    exact e1
   |s k k' =>
    rename_i j2 m
    rw[k]at k1
    obtain⟨g2,l2⟩:=g.link (List.getElem?_eq_getElem hi) (g.lk j j2 k) (by rw[h];exact h1) h2 (s+1)
    have q:=mu.halve (N:=N) h k k'
    obtain⟨m',hm,q2⟩:=q.rt _ _ _ k'
    obtain⟨H',L',e1,e2,e3,e4⟩:=ih m' (by omega) g2 q2
    refine⟨H',L',cM (qc) ?_,e2,q.trans e3,l2.trans e4⟩
    have h3:=aN (.cells (s+1) (fH N[i].v N[i].n N[i].o d (.ptr (oN os j2) 0))) h1
    simp only[ac h1,fH,aj,ar,Vb,Vy,ak,cond_true,HG,Hq,VF,Nat.zero_add,ac k1,Fs]
    rw[show([.bool N[i].v,.str N[i].n,.i N[i].o,d,.ptr (oN os j) 0]:List D)=fH N[i].v N[i].n N[i].o d (.ptr (oN os j) 0)from rfl,MZ]
    simp only[ac h3,fH,aj,ar]
    exact e1
theorem Vo{H:DH}{os N L}(g:cC H os N L){i r n:Nat}(h:Rt L i r n):∃ H' L',ay 26 [.ptr (oN os i) 0] H=ret (.ptr (oN os r) 0) H'/\cC H' os N L'/\mu N L L'/\vO H H' os:=by
 obtain⟨H',L',e1,e2⟩:=MM n g h
 exact⟨H',L',ev (f26) e1,e2⟩
theorem XL(o c:Nat)(H:DH)(κ:D->ah):bQ ab 4 (.ptr o c) H κ=au H o fun _ cs=>aA cs c κ:=by kernel_rfl
theorem XM(o c:Nat)(H:DH)(κ:D->ah):bQ ab 3 (.ptr o c) H κ=au H o fun _ cs=>aA cs c κ:=by kernel_rfl
theorem Xu:SP ab 74=true:=by kernel_rfl
theorem YI{H:DH}{o1 o2:Nat}(h1:IK H o1=true)(h2:IK H o2=true)(κ:D->ah):yK ab .eql 74 false (.ptr o1 0) (.ptr o2 0) H κ=κ (.bool (Nat.beq o1 o2)):=by
 simp only[yK,GC,Xu,h1,h2,Bool.and_self,cond_true,Nat.beq_refl,Bool.and_true]
theorem gm{H:DH}{o s:Nat}{cs:List D}(h:H[o]? = some (.cells s cs)):IK H o=true:=by simp only[IK,h]
theorem UX{o c:Nat}{new:List D}{H:DH}{s:Nat}{cs:List D}(h:H[o]? = some (.cells s cs))(κ:DH->ah):sK (.ptr o c) new H κ=az cs c new fun cs=>κ (H.set o (.cells (s+1) cs)):=by rw[sK,ac h]
theorem Zh:ab.underlying 71=some (.slice 74):=by kernel_rfl
theorem WY:size ab 74=some 1:=by kernel_rfl
theorem XN(o:Nat)(κ:D->ah):ci ab 74 [.ptr o 0] 0 κ=κ (.ptr o 0):=by kernel_rfl
theorem LF{x:ah}{d:D}{H:DH}{k:D->DH->ah}{kp:List fB->DH->ah}(h:x=ret d H):dw x k kp=k d H:=by rw[h];rfl
theorem bM.len{H:DH}{d:D}{l:List Nat}(h:bM H d l)(κ:D->ah):bJ ab 71 d H κ=κ (.i l.length):=by
 rcases h with⟨rfl,rfl⟩|⟨o,st,cp,rfl,_⟩<;>(simp only[bJ,Zh];try rfl)
theorem bM.at'{H:DH}{d:D}{l:List Nat}(h:bM H d l){i o:Nat}(hi:l[i]? = some o)(κ:D->ah):(aq ab 71 d (.i i) fun a=>bQ ab 74 a H κ)=κ (.ptr o 0):=by
 rcases h with⟨rfl,rfl⟩|⟨b,st,cp,rfl,hb⟩
 ·cases hi
 ·have hl:(List.map (fun o=>[D.ptr o 0]) l).length=l.length:=List.length_map _
  have h2:(List.map (fun o=>[D.ptr o 0]) l)[i]? = some [.ptr o 0]:=by rw[List.getElem?_map,hi];rfl
  have h3:=bH hb (κ:=fun _ _ _ l=>dM l i fun cs=>ci ab 74 cs 0 κ)
  rw[hl]at h3
  rw[aq,Zh]
  simp only[WY,mI,Nat.beq_refl,cond_true,aP,show Nat.blt i l.length=true from Nat.ble_eq_true_of_le (ao hi),boK,bQ,h3,aI h2,XN]
theorem Dh{a b:Nat}(h:a≠b):Nat.beq a b=false:=by cases q:Nat.beq a b with
 |false=>rfl
 |true=>exact(h (Nat.eq_of_beq_eq_true q)).elim
variable{H:DH}{os:List Nat}{N:List aH}{L:Lk}
def UA(k:Nat):Prop:=∀(H:DH) (os:List Nat) (N:List aH) (L:Lk),cC H os N L->Wf L->kO L<k->∀(a b:Nat),a<N.length->b<N.length ->
 ∃ q H' L',ay 24 [.ptr (oN os a) 0,.ptr (oN os b) 0] H=ret (.bool q) H'/\cC H' os N L'/\US N L [(a,b)] q L'/\vO H H' os
theorem Il{k:Nat}(hk:UA k){ra rb:Nat}{x y:aH}:∀(l1 l2 p1 p2:List Nat) {H:DH} {os:List Nat} {N:List aH} {L:Lk},cC H os N L->Wf L->kO L<k->N[ra]? = some x->N[rb]? = some y->x.a=p1++l1->y.a=p2++l2->p1.length=p2.length->l1.length=l2.length ->
 ∃ q H' L',ae am 24 200015 [.g (.ptr (oN os ra) 0),.g (.ptr (oN os rb) 0),.n (x.a.length:Nat),.n (p1.length:Nat)] [] H=ret (.bool q) H'/\cC H' os N L'/\US N L (l1.zip l2) q L'/\vO H H' os
 |[],[],p1,p2,H,os,N,L,g,hw,hn,hx,hy,e1,e2,e3,_=>by
  refine⟨true,H,L,cM (yc) ?_,g,.nil hw,.refl _ _⟩
  rw[e1]
  simp
 |[],b::l2,_,_,_,_,_,_,_,_,_,_,_,_,_,_,h=>by simp at h
 |a::l1,[],_,_,_,_,_,_,_,_,_,_,_,_,_,_,h=>by simp at h
 |a::l1,b::l2,p1,p2,H,os,N,L,g,hw,hn,hx,hy,e1,e2,e3,e4=>by
  obtain⟨s1,d1,h1,h2⟩:=g.ob ra x hx
  obtain⟨s2,d2,k1,k2⟩:=g.ob rb y hy
  have ia:(x.a.map (oN os))[p1.length]? = some (oN os a):=by rw[List.getElem?_map,e1];simp
  have ib:(y.a.map (oN os))[p1.length]? = some (oN os b):=by rw[List.getElem?_map,e2,e3];simp
  have la:a<N.length:=g.kid ra x hx a (by rw[e1];simp)
  have lb:b<N.length:=g.kid rb y hy b (by rw[e2];simp)
  have hlt:decide ((p1.length:Int)<(x.a.length:Int))=true:=by rw[e1];simp;omega
  have hs:=g.sm ra x hx
  have hw2:cq ((p1.length:Int)+1)=(((p1++[a]).length:Nat):Int):=by
   rw[aS (by
    have:x.a.length=p1.length+(l1.length+1):=by rw[e1];simp
    omega)]
   simp
  obtain⟨q,H1,L1,r1,r2,r3,r4⟩:=hk _ _ _ _ g hw hn _ _ la lb
  have st:∀ z,(match q with|true=>ae am 24 200015 [.g (.ptr (oN os ra) 0),.g (.ptr (oN os rb) 0),.n (x.a.length:Nat),.n ((p1++[a]).length:Nat)] [] H1|false=>ret (.bool false) H1)=z->ae am 24 200015 [.g (.ptr (oN os ra) 0),.g (.ptr (oN os rb) 0),.n (x.a.length:Nat),.n (p1.length:Nat)] [] H=z:=fun z hz=>by
   refine cM (yc) ?_
   rw[hlt,cond_true,ac h1]
   simp only[fH,aj,ar]
   rw[h2.at' ia,ac k1]
   simp only[fH,aj,ar]
   rw[k2.at' ib,LF r1]
   simp only[ct,ak]
   rw[hw2]
   rw[<- hz]
   cases q<;>simp only[Bool.not_true,Bool.not_false,cond_true,cond_false]
  cases q with
  |false=>exact⟨false,H1,L1,st _ rfl,r2,.stop r3,r4⟩
  |true =>
   obtain⟨q',H2,L2,t1,t2,t3,t4⟩:=Il hk l1 l2 (p1++[a]) (p2++[b]) r2 r3.wf (Nat.lt_of_le_of_lt r3.rc hn) hx hy (by rw[e1];simp) (by rw[e2];simp) (by simp[e3]) (by simpa using e4)
   exact⟨q',H2,L2,st _ t1,t2,.cons r3 t3,r4.trans t4⟩
theorem WW{k:Nat}(hk:UA k){H:DH}{os:List Nat}{N:List aH}{L:Lk}(g:cC H os N L)(hw:Wf L)(hn:kO L<=k){a b:Nat}(ha:L[a]? = some none)(hb:L[b]? = some none)(hab:a≠b){x y:aH}(hx:N[a]? = some x)(hy:N[b]? = some y)(hv:y.v=false->x.v=false)(ho:x.v=true->y.v=true->x.o<=y.o) :
 ∃ q H' L',ae am 24 8 [.g (.ptr (oN os a) 0),.g (.ptr (oN os b) 0)] [] H=ret (.bool q) H'/\cC H' os N L'/\US N L [(a,b)] q L'/\vO H H' os:=by
 obtain⟨s1,d1,h1,h2⟩:=g.ob a x hx
 obtain⟨s2,d2,k1,k2⟩:=g.ob b y hy
 obtain⟨g2,l2⟩:=g.link hy (ao hx) k1 k2 (s2+1)
 have hne:oN os b≠oN os a:=fun e=>hab (sW g.nd (by rw[g.len];exact ao hy) (by rw[g.len];exact ao hx) e).symm
 cases vy:y.v with
 |true =>
  refine⟨true,_,_,cM (Jp) ?_,g2,.symm (.var hw (.z hb) (.z ha) (fun e=>hab e.symm) hy vy fun z hz vz=>by rw[hx]at hz;cases hz;exact ho vz vy),l2⟩
  rw[ac k1]
  simp only[fH,aj,vy,ak,cond_true]
  rw[ac k1,MZ]
  simp only[fH,vy]
 |false =>
  have vx:=hv vy
  have hs1:(x.a.map (oN os)).length=x.a.length:=List.length_map _
  have hs2:(y.a.map (oN os)).length=y.a.length:=List.length_map _
  by_cases hnm:x.n=y.n
  ·by_cases hl:x.a.length=y.a.length
   ·have hw':=hw.link hb ha hab
    obtain⟨q,H',L',r1,r2,r3,r4⟩:=Il hk x.a y.a [] [] g2 hw' (by have:=wy (a:=a) hb;omega) hx hy rfl rfl rfl hl
    refine⟨q,H',L',cM (Jp) ?_,r2,.con hw (.z ha) (.z hb) hab hx hy vx vy hnm hl r3,l2.trans r4⟩
    have h3:(H.set (oN os b) (.cells (s2+1) (fH y.v y.n y.o d2 (.ptr (oN os a) 0))))[oN os a]? = some (.cells s1 (fH x.v x.n x.o d1 (Vb os L[a]?))):=by
     rw[List.getElem?_set_ne hne,h1]
    have h4:bM (H.set (oN os b) (.cells (s2+1) (fH y.v y.n y.o d2 (.ptr (oN os a) 0)))) d1 (x.a.map (oN os)):=h2.set k1
    rw[ac k1]
    simp only[fH,aj,vy,ak,cond_false]
    rw[ac h1]
    simp only[fH,aj,ar]
    rw[ac k1]
    simp only[fH,aj,ar]
    rw[rZ]
    have e0:(x.n==y.n)=true:=by rw[hnm];exact beq_self_eq_true _
    simp only[e0,Bool.not_true,ak,cond_false]
    rw[ac h1]
    simp only[fH,aj,ar]
    rw[h2.len,ac k1]
    simp only[fH,aj,ar]
    rw[k2.len,kC,hs1,hs2,hl]
    simp only[bne_self_eq_false,ak,cond_false]
    rw[ac k1,MZ]
    rw[ac h3]
    simp only[fH,aj,ar]
    rw[h4.len,hs1]
    exact r1
   ·refine⟨false,H,L,cM (Jp) ?_,g,.clash hw (.z ha) (.z hb) hx hy vx vy (.inr hl),.refl _ _⟩
    rw[ac k1]
    simp only[fH,aj,vy,ak,cond_false]
    rw[ac h1]
    simp only[fH,aj,ar]
    rw[ac k1]
    simp only[fH,aj,ar]
    rw[rZ]
    have e0:(x.n==y.n)=true:=by rw[hnm];exact beq_self_eq_true _
    simp only[e0,Bool.not_true,ak,cond_false]
    rw[ac h1]
    simp only[fH,aj,ar]
    rw[h2.len,ac k1]
    simp only[fH,aj,ar]
    rw[k2.len,kC,hs1,hs2]
    have e1:(((x.a.length:Nat):Int) !=((y.a.length:Nat):Int))=true:=by simp;omega
    simp only[e1,ak,cond_true]
  ·refine⟨false,H,L,cM (Jp) ?_,g,.clash hw (.z ha) (.z hb) hx hy vx vy (.inl hnm),.refl _ _⟩
   rw[ac k1]
   simp only[fH,aj,vy,ak,cond_false]
   rw[ac h1]
   simp only[fH,aj,ar]
   rw[ac k1]
   simp only[fH,aj,ar]
   rw[rZ]
   have e0:(x.n==y.n)=false:=by simpa using hnm
   simp only[e0,Bool.not_false,ak,cond_true]
theorem US.res{N:List aH}{L L1 L':Lk}{a b ra rb n m:Nat}{q:Bool}(ha:Rt L a ra n)(hb:Rt L b rb m)(h:US N L [(ra,rb)] q L'):US N L [(a,b)] q L':=by
 have e:∀(α:Type) (f:Nat->α),bT L f->((∀ p∈[(a,b)],f p.1=f p.2)↔(∀ p∈[(ra,rb)],f p.1=f p.2)):=fun α f hf=>by
  simp only[List.mem_singleton,forall_eq]
  rw[hf.rt ha,hf.rt hb]
 refine⟨h.len,h.wf,h.rc,fun α f h1 h2 h3=>h.snd α f h1 h2 ((e α f h2).1 h3),fun hq=>⟨fun α f hf=>?_,fun P hP=>(h.cpl hq).2 P fun i j x hi hx hv=>?_⟩,h.lo⟩
 ·obtain⟨s1,s2⟩:=(h.cpl hq).1 α f hf
  exact⟨s1,(e α f s1).2 s2⟩
 ·obtain⟨y,a1,a2,a3,a4,a5⟩:=hP i j x hi hx hv
  refine⟨y,a1,a2,a3,a4,fun α f hf hp=>a5 α f hf fun p hp'=>?_⟩
  rcases List.mem_append.1 hp' with hp'|hp'
  ·exact(e α f hf).2 (fun p hp2=>hp p (List.mem_append_left _ hp2)) p hp'
  ·exact hp p (List.mem_append_right _ hp')
theorem DD:∀ k,UA k
 |0=>fun _ _ _ _ _ _ h=>by omega
 |k+1=>by
  intro H os N L g hw hn a b ha hb
  obtain⟨ra,n,hra⟩:=hw a (by rw[g.lenL];exact ha)
  obtain⟨rb,m,hrb⟩:=hw b (by rw[g.lenL];exact hb)
  obtain⟨H1,L1,r1,g1,q1,l1⟩:=Vo g hra
  obtain⟨m1,_,hrb1⟩:=q1.rt _ _ _ hrb
  obtain⟨H2,L2,r2,g2,q2,l2⟩:=Vo g1 hrb1
  have q:=q1.trans q2
  have l:=l1.trans l2
  obtain⟨n2,_,a2⟩:=q.rt _ _ _ hra
  obtain⟨m2,_,b2⟩:=q.rt _ _ _ hrb
  have hw2:=hw.eqv q
  have ka:=ao a2.root
  have kb:=ao b2.root
  rw[g2.lenL]at ka kb
  have hx:=List.getElem?_eq_getElem ka
  have hy:=List.getElem?_eq_getElem kb
  generalize N[ra]=x at hx
  generalize N[rb]=y at hy
  obtain⟨s1,d1,h1,h2⟩:=g2.ob ra x hx
  obtain⟨s2,d2,k1,k2⟩:=g2.ob rb y hy
  have hnr:kO L2<=k:=by rw[q.rc];omega
  by_cases e:ra=rb
  ·subst e
   refine⟨true,H2,L2,ev (Zx) ?_,g2,.pre q (.same hw2 a2 b2),l⟩
   rw[aw r1,aw r2,YI (gm h1) (gm h1),Nat.beq_refl]
   rfl
  ·have hne:Nat.beq (oN os ra) (oN os rb)=false:=Dh fun e'=>e (sW g2.nd (by rw[g2.len];exact ka) (by rw[g2.len];exact kb) e')
   have st:∀ z,(cond x.v (cond y.v (cond (decide (x.o>y.o)) (ret (.bool true) (H2.set (oN os ra) (.cells (s1+1) (fH x.v x.n x.o d1 (.ptr (oN os rb) 0))))) (ae am 24 5 [.g (.ptr (oN os ra) 0),.g (.ptr (oN os rb) 0)] [] H2)) (ae am 24 5 [.g (.ptr (oN os ra) 0),.g (.ptr (oN os rb) 0)] [] H2)) (ae am 24 5 [.g (.ptr (oN os ra) 0),.g (.ptr (oN os rb) 0)] [] H2))=z->ay 24 [.ptr (oN os a) 0,.ptr (oN os b) 0] H=z:=fun z hz=>by
    refine ev (Zx) ?_
    rw[aw r1,aw r2,YI (gm h1) (gm k1),hne]
    simp only[ak,cond_false,HG,Hq,XL,XM,Nat.zero_add]
    rw[ac h1]
    simp only[fH,aj,ar,ak]
    rw[ac k1]
    simp only[fH,aj,ar,ak]
    rw[ac h1]
    simp only[fH,aj,ar,ac k1,ff,ak,Fs,UX h1,MZ]
    exact hz
   have st5:∀ z,(cond x.v (cond (!y.v) (ret (.bool true) (H2.set (oN os ra) (.cells (s1+1) (fH x.v x.n x.o d1 (.ptr (oN os rb) 0))))) (ae am 24 8 [.g (.ptr (oN os ra) 0),.g (.ptr (oN os rb) 0)] [] H2)) (ae am 24 8 [.g (.ptr (oN os ra) 0),.g (.ptr (oN os rb) 0)] [] H2))=z->ae am 24 5 [.g (.ptr (oN os ra) 0),.g (.ptr (oN os rb) 0)] [] H2=z:=fun z hz=>by
    refine cM (Ws) ?_
    rw[ac h1]
    simp only[fH,aj,ar,ak]
    rw[ac k1]
    simp only[fH,aj,ar,ak,ct]
    rw[ac h1,MZ]
    exact hz
   obtain⟨g3,l3⟩:=g2.link hx kb h1 h2 (s1+1)
   have fin8:(y.v=false->x.v=false)->(x.v=true->y.v=true->x.o<=y.o)->(ay 24 [.ptr (oN os a) 0,.ptr (oN os b) 0] H=ae am 24 8 [.g (.ptr (oN os ra) 0),.g (.ptr (oN os rb) 0)] [] H2)->∃ q H' L',ay 24 [.ptr (oN os a) 0,.ptr (oN os b) 0] H=ret (.bool q) H'/\cC H' os N L'/\US N L [(a,b)] q L'/\vO H H' os:=fun hv ho he=>by
    obtain⟨q',H',L',t1,t2,t3,t4⟩:=WW (DD k) g2 hw2 hnr a2.root b2.root e hx hy hv ho
    exact⟨q',H',L',he.trans t1,t2,.pre q (.res (L1:=L) a2 b2 t3),l.trans t4⟩
   have fin5:x.v=true->(y.v=true->y.o<=x.o)->(ay 24 [.ptr (oN os a) 0,.ptr (oN os b) 0] H=ret (.bool true) (H2.set (oN os ra) (.cells (s1+1) (fH x.v x.n x.o d1 (.ptr (oN os rb) 0)))))->∃ q H' L',ay 24 [.ptr (oN os a) 0,.ptr (oN os b) 0] H=ret (.bool q) H'/\cC H' os N L'/\US N L [(a,b)] q L'/\vO H H' os:=fun hv ho he =>
    ⟨true,_,_,he,g3,.pre q (.res (L1:=L) a2 b2 (.var hw2 (.z a2.root) (.z b2.root) e hx hv fun z hz vz=>by rw[hy]at hz;cases hz;exact ho vz)),l.trans l3⟩
   cases vx:x.v with
   |false =>
    refine fin8 (fun _=>vx) (fun q=>by rw[vx]at q;cases q) (st _ ?_)
    rw[vx,cond_false]
    exact st5 _ (by rw[vx,cond_false])
   |true =>
    cases vy:y.v with
    |false =>
     refine fin5 vx (fun q=>by rw[vy]at q;cases q) (st _ ?_)
     rw[vx,vy]
     simp only[cond_true,cond_false]
     exact st5 _ (by rw[vx,vy];simp only[Bool.not_false,cond_true])
    |true =>
     cases ho:decide (x.o>y.o)with
     |true =>
      refine fin5 vx (fun _=>by have:=of_decide_eq_true ho;omega) (st _ ?_)
      rw[vx,vy,ho]
      simp only[cond_true]
     |false =>
      refine fin8 (fun q=>by rw[vy]at q;cases q) (fun _ _=>by have:=of_decide_eq_false ho;omega) (st _ ?_)
      rw[vx,vy,ho]
      simp only[cond_true,cond_false]
      exact st5 _ (by rw[vx,vy];simp only[Bool.not_true,cond_true,cond_false])
theorem unify{H:DH}{os:List Nat}{N:List aH}{L:Lk}(g:cC H os N L)(hw:Wf L){a b:Nat}(ha:a<N.length)(hb:b<N.length) :
 ∃ q H' L',ay 24 [.ptr (oN os a) 0,.ptr (oN os b) 0] H=ret (.bool q) H'/\cC H' os N L'/\US N L [(a,b)] q L'/\vO H H' os:=DD _ _ _ _ _ g hw (Nat.lt_succ_self _) _ _ ha hb
end Go.Proofs.YtenibcfppefobaaGreatDoor
namespace Go.Proofs.YtenibcfppefobaaGreatDoor
open Go.AI
def gO:List (Nat×Int)->Nat->Option Int
 |[],_=>none
 |(j,v)::r,i=>if i=j then some v else gO r i
def gS(S:List (Nat×Int))(i:Nat):Int:=(gO S i).getD 0
def pS:List (Nat×Int)->Nat->Int->List (Nat×Int)
 |[],i,v=>[(i,v)]
 |(j,w)::r,i,v=>if i=j then(i,v)::r else(j,w)::pS r i v
theorem RX:∀(S:List (Nat×Int)) (i j:Nat) (v:Int),gO (pS S i v) j=if j=i then some v else gO S j
 |[],i,j,v=>by simp[pS,gO]
 |(k,w)::r,i,j,v=>by
  unfold pS
  split
  ·rename_i e;subst e
   unfold gO
   split<;>simp_all
  ·rename_i e
   unfold gO
   rw[RX r i j v]
   by_cases h:j=k
   ·subst h;rw[if_pos rfl,if_pos rfl,if_neg (fun q=>e q.symm)]
   ·rw[if_neg h,if_neg h]
theorem AP(S:List (Nat×Int))(i j:Nat)(v:Int):gS (pS S i v) j=if j=i then v else gS S j:=by
 unfold gS;rw[RX];split<;>rfl
theorem RN{n:Nat}:∀ {S:List (Nat×Int)} {i:Nat} {v:Int},(∀ p∈S,p.1<n)->i<n->∀ p∈pS S i v,p.1<n
 |[],i,v,_,hi,p,hp=>by simp[pS]at hp;subst hp;exact hi
 |(j,w)::r,i,v,h,hi,p,hp=>by
  unfold pS at hp
  split at hp
  ·rcases List.mem_cons.1 hp with rfl|hp
   ·exact hi
   ·exact h p (List.mem_cons_of_mem _ hp)
  ·rcases List.mem_cons.1 hp with rfl|hp
   ·exact h _ List.mem_cons_self
   ·exact RN (fun p hp=>h p (List.mem_cons_of_mem _ hp)) hi p hp
def cz(S:List (Nat×Int)):Nat->Nat
 |0=>0
 |n+1=>cz S n+if gS S n=0 then 1 else 0
theorem Jy{S S':List (Nat×Int)}:∀ {n:Nat},(∀ j,j<n->gS S' j=0->gS S j=0)->cz S' n<=cz S n
 |0,_=>Nat.le_refl _
 |n+1,h=>by
  have:=Jy (n:=n) fun j hj=>h j (by omega)
  have:=h n (by omega)
  unfold cz
  split<;>split<;>first|omega|(exfalso;simp_all)
theorem On{S S':List (Nat×Int)}{r:Nat}:∀ {n:Nat},(∀ j,j<n->gS S' j=0->gS S j=0)->r<n->gS S r=0->gS S' r≠0->cz S' n<cz S n
 |0,_,h,_,_=>by omega
 |n+1,h,hr,h1,h2=>by
  unfold cz
  by_cases e:r=n
  ·subst e
   have:=Jy (n:=r) fun j hj=>h j (by omega)
   rw[if_pos h1,if_neg h2];omega
  ·have:=On (n:=n) (fun j hj=>h j (by omega)) (by omega) h1 h2
   have:=h n (by omega)
   split<;>split<;>first|omega|(exfalso;simp_all)
def sM(os:List Nat)(S:List (Nat×Int)):List (D×D):=S.map fun p=>(.ptr (oN os p.1) 0,.i p.2)
theorem Jc{os:List Nat}(hn:os.Nodup){i:Nat}(hi:i<os.length):∀ {S:List (Nat×Int)},(∀ p∈S,p.1<os.length)->zr (.ptr (oN os i) 0) (sM os S)=some ((gO S i).map .i)
 |[],_=>rfl
 |(j,v)::r,h=>by
  have ih:=Jc hn hi (S:=r) fun p hp=>h p (List.mem_cons_of_mem _ hp)
  have hj:=h _ List.mem_cons_self
  simp only[sM,List.map_cons,zr,nI,Nat.beq_refl,Bool.and_true]
  by_cases e:i=j
  ·subst e;simp only[Nat.beq_refl,gO,if_true,Option.map]
  ·have:Nat.beq (oN os i) (oN os j)=false:=Dh fun q=>e (sW hn hi hj q)
   simp only[this,gO,if_neg e]
   exact ih
theorem IZ{os:List Nat}(hn:os.Nodup){i:Nat}(hi:i<os.length)(v:Int):∀ {S:List (Nat×Int)},(∀ p∈S,p.1<os.length)->Cj (.ptr (oN os i) 0) (.i v) (sM os S)=some (sM os (pS S i v))
 |[],_=>rfl
 |(j,w)::r,h=>by
  have ih:=IZ hn hi v (S:=r) fun p hp=>h p (List.mem_cons_of_mem _ hp)
  have hj:=h _ List.mem_cons_self
  simp only[sM,List.map_cons,Cj,nI,Nat.beq_refl,Bool.and_true]
  by_cases e:i=j
  ·subst e;simp only[Nat.beq_refl,pS,if_true,List.map_cons]
  ·have:Nat.beq (oN os i) (oN os j)=false:=Dh fun q=>e (sW hn hi hj q)
   simp only[sM]at ih
   simp only[this,pS,if_neg e,ih,List.map_cons]
theorem Ct{H:DH}{os:List Nat}{N:List aH}{L:Lk}(g:cC H os N L):∀ {S:List (Nat×Int)},(∀ p∈S,p.1<os.length)->jr H (sM os S)=true
 |[],_=>rfl
 |(j,v)::r,h=>by
  have hj:j<N.length:=by rw[<- g.len];exact h _ List.mem_cons_self
  obtain⟨s,d,h1,_⟩:=g.ob j _ (List.getElem?_eq_getElem hj)
  simp only[sM,List.map_cons,jr,gm h1,Bool.true_and]
  exact Ct g fun p hp=>h p (List.mem_cons_of_mem _ hp)
structure Vi(H:DH)(m v1 v2:Nat)(os:List Nat)(N:List aH)(L:Lk)(S:List (Nat×Int)):Prop where
 g:cC H os N L
 mp:H[m]? = some (.map (sM os S))
 a:∃ s,H[v1]? = some (.cells s [.map m])
 b:∃ s,H[v2]? = some (.cells s [.func 56 [] [.ptr v1 0,.ptr v2 0]])
 na:v1∉os
 nb:v2∉os
 lt:∀ p∈S,p.1<os.length
structure Em(H H':DH)(os:List Nat)(m:Nat):Prop where
 len:H.length<=H'.length
 at':∀ o:Nat,o<H.length->o∉os->o≠m->H'[o]? = H[o]?
theorem Em.refl(H:DH)(os:List Nat)(m:Nat):Em H H os m:=⟨Nat.le_refl _,fun _ _ _ _=>rfl⟩
theorem Em.trans{H H' H'':DH}{os:List Nat}{m:Nat}(h:Em H H' os m)(k:Em H' H'' os m):Em H H'' os m:=⟨Nat.le_trans h.len k.len,fun o h1 h2 h3=>by rw[k.at' o (Nat.lt_of_lt_of_le h1 h.len) h2 h3,h.at' o h1 h2 h3]⟩
theorem vO.em{H H':DH}{os:List Nat}{m:Nat}(h:vO H H' os):Em H H' os m:=⟨h.len,fun o h1 h2 _=>h.at' o h1 h2⟩
theorem cC.nm{H:DH}{os:List Nat}{N:List aH}{L:Lk}(g:cC H os N L){o:Nat}(h:o∈os):∃ s c,H[o]? = some (.cells s c):=by
 obtain⟨i,hi⟩:=List.getElem?_of_mem h
 have hl:i<N.length:=by rw[<- g.len];exact ao hi
 obtain⟨s,d,h1,_⟩:=g.ob i _ (List.getElem?_eq_getElem hl)
 have e:o=oN os i:=by unfold oN;rw[hi];rfl
 rw[e]
 exact⟨s,_,h1⟩
theorem bM.em{H H':DH}{os:List Nat}{N:List aH}{L:Lk}{m:Nat}{es:List (D×D)}(g:cC H os N L)(hm:H[m]? = some (.map es))(k:Em H H' os m){d:D}{l:List Nat}(h:bM H d l):bM H' d l:=by
 rcases h with⟨rfl,rfl⟩|⟨b,st,cp,rfl,h⟩
 ·exact .inl ⟨rfl,rfl⟩
 ·refine .inr ⟨b,st,cp,rfl,?_⟩
  rw[k.at' b (ao h) (fun q=>by obtain⟨s,c,e⟩:=g.nm q;rw[e]at h;cases h) (fun q=>by subst q;rw[hm]at h;cases h),h]
variable{H H':DH}{m v1 v2:Nat}{os:List Nat}{N:List aH}{L L':Lk}{S:List (Nat×Int)}
theorem XY(κ:D->ah):fS ab 3 false none κ=κ (.i 0):=by kernel_rfl
theorem Vi.lkm(h:Vi H m v1 v2 os N L S){i:Nat}(hi:i<N.length)(κ:D->ah):jm ab 131 (.map m) (.ptr (oN os i) 0) false H κ=κ (.i (gS S i)):=by
 obtain⟨s,d,h1,_⟩:=h.g.ob i _ (List.getElem?_eq_getElem hi)
 have e:jm ab 131 (.map m) (.ptr (oN os i) 0) false H κ=nF H m fun es=>(bif IK H (oN os i)&&jr H es then mC (.ptr (oN os i) 0) es fun r=>fS ab 3 false r κ else none):=by kernel_rfl
 rw[e,jd h.mp,gm h1,Ct h.g h.lt,mC,Jc h.g.nd (by rw[h.g.len];exact hi) h.lt]
 unfold gS
 cases gO S i with
 |none=>simp only[Option.map,Option.getD,XY,Bool.and_self,cond_true]
 |some v=>rfl
theorem Vi.upd(h:Vi H m v1 v2 os N L S){i:Nat}(hi:i<N.length)(v:Int):∃ H',(∀ κ:DH->ah,jY ab 131 (.map m) (.ptr (oN os i) 0) (.i v) H κ=κ H')/\Vi H' m v1 v2 os N L (pS S i v)/\Em H H' os m:=by
 obtain⟨s,d,h1,_⟩:=h.g.ob i _ (List.getElem?_eq_getElem hi)
 have hi':i<os.length:=by rw[h.g.len];exact hi
 have em:Em H (H.set m (.map (sM os (pS S i v)))) os m:=⟨by simp,fun o _ _ hn=>List.getElem?_set_ne (fun q=>hn q.symm)⟩
 refine⟨H.set m (.map (sM os (pS S i v))),fun κ=>?_,⟨⟨h.g.len,h.g.lenL,h.g.nd,fun k y hy=>?_,h.g.kid,h.g.lk,h.g.sm⟩,aN _ h.mp,?_,?_,h.na,h.nb,RN h.lt hi'⟩,em⟩
 ·have e:jY ab 131 (.map m) (.ptr (oN os i) 0) (.i v) H κ=nF H m fun es=>(bif IK H (oN os i)&&jr H es then mB (.ptr (oN os i) 0) (.i v) es fun es=>κ (H.set m (.map es))else none):=by kernel_rfl
  rw[e,jd h.mp,gm h1,Ct h.g h.lt,mB,IZ h.g.nd hi' v h.lt]
  rfl
 ·obtain⟨s2,d2,k1,k2⟩:=h.g.ob k y hy
  refine⟨s2,d2,?_,k2.em h.g h.mp em⟩
  rw[List.getElem?_set_ne (fun q=>by rw[<- q,h.mp]at k1;cases k1),k1]
 ·obtain⟨s,k⟩:=h.a
  exact⟨s,by rw[List.getElem?_set_ne (fun q=>by rw[<- q,h.mp]at k;cases k),k]⟩
 ·obtain⟨s,k⟩:=h.b
  exact⟨s,by rw[List.getElem?_set_ne (fun q=>by rw[<- q,h.mp]at k;cases k),k]⟩
theorem Vi.els(h:Vi H m v1 v2 os N L S)(g:cC H' os N L')(e:vO H H' os):Vi H' m v1 v2 os N L' S:=by
 have hm:m∉os:=fun q=>by obtain⟨s,c,e⟩:=h.g.nm q;have:=h.mp;rw[e]at this;cases this
 obtain⟨s1,k1⟩:=h.a
 obtain⟨s2,k2⟩:=h.b
 exact⟨g,by rw[e.at' m (ao h.mp) hm,h.mp],⟨s1,by rw[e.at' _ (ao k1) h.na,k1]⟩,⟨s2,by rw[e.at' _ (ao k2) h.nb,k2]⟩,h.na,h.nb,h.lt⟩
def bE:Ty->Nat
 |.mk _ xs=>1+tszs xs
 where tszs:List Ty->Nat
  |[]=>0
  |t::r=>bE t+tszs r
theorem vU{t:Ty}:∀ {l:List Ty},t∈l->bE t<=bE.tszs l
 |x::r,h=>by
  unfold bE.tszs
  rcases List.mem_cons.1 h with rfl|h
  ·omega
  ·have:=vU h;omega
structure FT(N:List aH)(L:Lk)(S S':List (Nat×Int)):Prop where
 old:∀ j,gS S j≠0->gS S' j=gS S j
 new:∀ j,gS S j=0->gS S' j≠0->gS S' j=2/\∃ t,Tr N L j t
theorem FT.refl{N:List aH}{L:Lk}(S:List (Nat×Int)):FT N L S S:=⟨fun _ _=>rfl,fun _ h k=>(k h).elim⟩
theorem FT.trans{N:List aH}{L:Lk}{S S' S'':List (Nat×Int)}(h:FT N L S S')(k:FT N L S' S''):FT N L S S'' :=
 ⟨fun j hj=>by rw[k.old j (by rw[h.old j hj];exact hj),h.old j hj],fun j hj hk=>by
  by_cases e:gS S' j=0
  ·exact k.new j e hk
  ·rw[k.old j e];exact h.new j hj e⟩
theorem FT.eqv{N:List aH}{L L':Lk}{S S':List (Nat×Int)}(h:FT N L S S')(k:mu N L L'):FT N L' S S':=⟨h.old,fun j h1 h2=>⟨(h.new j h1 h2).1,by obtain⟨t,ht⟩:=(h.new j h1 h2).2;exact⟨t,ht.eqv k⟩⟩⟩
theorem FT.zero{N:List aH}{L:Lk}{S S':List (Nat×Int)}(h:FT N L S S')(j:Nat)(k:gS S' j=0):gS S j=0:=by
 by_cases e:gS S j=0
 ·exact e
 ·rw[h.old j e]at k;exact(e k).elim
def Dn(N:List aH)(L:Lk)(S:List (Nat×Int)):Prop:=∀ j,gS S j≠0->gS S j≠1->gS S j=2/\∃ t,Tr N L j t
theorem Dn.eqv{N:List aH}{L L':Lk}{S:List (Nat×Int)}(h:Dn N L S)(k:mu N L L'):Dn N L' S:=fun j h1 h2=>⟨(h j h1 h2).1,by obtain⟨t,ht⟩:=(h j h1 h2).2;exact⟨t,ht.eqv k⟩⟩
theorem Dn.vs{N:List aH}{L:Lk}{S S':List (Nat×Int)}(h:Dn N L S)(k:FT N L S S'):Dn N L S':=fun j h1 h2=>by
 by_cases e:gS S j=0
 ·exact k.new j e h1
 ·rw[k.old j e]at h1 h2 ⊢;exact h j h1 h2
def WG(f:Nat->Ty)(S:List (Nat×Int))(i:Nat):Prop:=∀ j,gS S j=1->bE (f i)<bE (f j)
def VA(m v1 v2 k:Nat):Prop:=∀(H:DH) (os:List Nat) (N:List aH) (L:Lk) (S:List (Nat×Int)),Vi H m v1 v2 os N L S->Wf L->Dn N L S->(∀(i:Nat) (x:aH),N[i]? = some x->x.v=true->x.a=[])->cz S N.length<k->∀ i,i<N.length ->
 ∃ q H' L' S',ay 56 [.ptr (oN os i) 0,.ptr v1 0,.ptr v2 0] H=ret (.bool q) H'/\cC H' os N L'/\mu N L L'/\Em H H' os m/\(∀ f:Nat->Ty,LI N f->bT L f->WG f S i->q=true) /\
  (q=true->Vi H' m v1 v2 os N L' S'/\FT N L' S S'/\∃ t,Tr N L' i t)
theorem Ii{m v1 v2 k:Nat}(hk:VA m v1 v2 k){r:Nat}{x:aH}{d:D}:∀(l p:List Nat) (H:DH) (os:List Nat) (N:List aH) (L:Lk) (S:List (Nat×Int)),Vi H m v1 v2 os N L S->Wf L->Dn N L S->(∀(i:Nat) (x:aH),N[i]? = some x->x.v=true->x.a=[])->cz S N.length<k->N[r]? = some x->x.a=p++l->bM H d (x.a.map (oN os)) ->
 ∃ q H' L' S',ae am 56 200009 [.g (.ptr (oN os r) 0),.g (.ptr v1 0),.g (.ptr v2 0),.g d,.n (x.a.length:Nat),.n (p.length:Nat)] [] H=ret (.bool q) H'/\cC H' os N L'/\mu N L L'/\Em H H' os m/\(∀ f:Nat->Ty,LI N f->bT L f->(∀ a∈l,WG f S a)->q=true) /\
  (q=true->Vi H' m v1 v2 os N L' (pS S' r 2)/\FT N L' S S'/\∃ ts,oo N L' l ts)
 |[],p,H,os,N,L,S,h,hw,hd,hv,hc,hx,e,ha=>by
  obtain⟨H',u1,u2,u3⟩:=h.upd (ao hx) 2
  obtain⟨s1,k1⟩:=h.a
  refine⟨true,H',L,S,cM (xR) ?_,u2.g,.refl _ _,u3,fun _ _ _ _=>rfl,fun _=>⟨u2,.refl S,[],.nil⟩⟩
  have hlt:decide ((p.length:Int)<(x.a.length:Int))=false:=by rw[e];simp
  rw[hlt,cond_false,ac k1,aj,u1]
 |a::l,p,H,os,N,L,S,h,hw,hd,hv,hc,hx,e,ha=>by
  obtain⟨s2,k2⟩:=h.b
  have la:a<N.length:=h.g.kid r x hx a (by rw[e];simp)
  have ia:(x.a.map (oN os))[p.length]? = some (oN os a):=by rw[List.getElem?_map,e];simp
  have hlt:decide ((p.length:Int)<(x.a.length:Int))=true:=by rw[e];simp;omega
  have hs:=h.g.sm r x hx
  have hw2:cq ((p.length:Int)+1)=(((p++[a]).length:Nat):Int):=by
   rw[aS (by
    have:x.a.length=p.length+(l.length+1):=by rw[e];simp
    omega)]
   simp
  obtain⟨q,H1,L1,S1,r1,r2,r3,r4,r5,r6⟩:=hk H os N L S h hw hd hv hc a la
  have hf:eK mc 56=true:=by kernel_rfl
  have st:∀ z,(match q with|true=>ae am 56 200009 [.g (.ptr (oN os r) 0),.g (.ptr v1 0),.g (.ptr v2 0),.g d,.n (x.a.length:Nat),.n ((p++[a]).length:Nat)] [] H1|false=>ret (.bool false) H1)=z->ae am 56 200009 [.g (.ptr (oN os r) 0),.g (.ptr v1 0),.g (.ptr v2 0),.g d,.n (x.a.length:Nat),.n (p.length:Nat)] [] H=z:=fun z hz=>by
   refine cM (xR) ?_
   rw[hlt,cond_true,ha.at' ia,ac k2,aj,Cz hf]
   rw[show(([]:List D)++([D.ptr (oN os a) 0]++[.ptr v1 0,.ptr v2 0]))=[.ptr (oN os a) 0,.ptr v1 0,.ptr v2 0] from rfl,aw r1]
   simp only[ct,ak]
   rw[hw2,<- hz]
   cases q<;>simp only[Bool.not_true,Bool.not_false,cond_true,cond_false]
  cases q with
  |false=>exact⟨false,H1,L1,S1,st _ rfl,r2,r3,r4,fun f h1 h2 h3=>r5 f h1 h2 (h3 a List.mem_cons_self),fun q=>nomatch q⟩
  |true =>
   obtain⟨t1,t2,t,t3⟩:=r6 rfl
   have hc':cz S1 N.length<=cz S N.length:=Jy fun j _=>t2.zero j
   obtain⟨q',H2,L2,S2,w1,w2,w3,w4,w5,w6⟩:=Ii hk l (p++[a]) H1 os N L1 S1 t1 (hw.eqv r3) ((hd.eqv r3).vs t2) hv (by omega) hx (by rw[e];simp) (ha.em h.g h.mp r4)
   refine⟨q',H2,L2,S2,st _ w1,w2,r3.trans w3,r4.trans w4,fun f h1 h2 h3=>w5 f h1 ((r3.rs _ f).1 h2) fun a' ha' j hj=>?_,fun hq=>?_⟩
   ·refine h3 a' (List.mem_cons_of_mem _ ha') j ?_
    by_cases e0:gS S j=0
    ·have:=(t2.new j e0 (by rw[hj];decide)).1
     rw[hj]at this;cases this
    ·rw[<- t2.old j e0,hj]
   ·obtain⟨z1,z2,ts,z3⟩:=w6 hq
    exact⟨z1,(t2.eqv w3).trans z2,t::ts,.cons (t3.eqv w3) z3⟩
theorem VG(o c:Nat)(H:DH)(κ:D->ah):bQ ab 71 (.ptr o c) H κ=au H o fun _ cs=>aA cs c κ:=by kernel_rfl
theorem Dy{m v1 v2:Nat}:∀ k,VA m v1 v2 k
 |0=>fun _ _ _ _ _ _ _ _ _ h=>by omega
 |k+1=>by
  intro H os N L S h hw hd hv hc i hi
  obtain⟨r,n,hr⟩:=hw i (by rw[h.g.lenL];exact hi)
  obtain⟨H1,L1,r1,g1,q1,l1⟩:=Vo h.g hr
  obtain⟨n1,_,hr1⟩:=q1.rt _ _ _ hr
  have hrl:r<N.length:=by rw[<- g1.lenL];exact ao hr1.root
  have h1:=h.els g1 l1
  have hd1:=hd.eqv q1
  obtain⟨s1,k1⟩:=h1.a
  have hx:=List.getElem?_eq_getElem hrl
  generalize N[r]=x at hx
  have fr:∀ f:Nat->Ty,bT L f->f i=f r:=fun f hf=>hf.rt hr
  by_cases e1:gS S r=1
  ·refine⟨false,H1,L1,S,ev (XZ) ?_,g1,q1,l1.em,fun f _ h2 h3=>?_,fun q=>nomatch q⟩
   ·rw[aw r1,ac k1,aj,h1.lkm hrl,e1]
    rfl
   ·have:=h3 r e1
    rw[fr f h2]at this
    omega
  ·by_cases e2:gS S r=2
   ·obtain⟨_,t,ht⟩:=hd1 r (by rw[e2];decide) e1
    refine⟨true,H1,L1,S,ev (XZ) ?_,g1,q1,l1.em,fun _ _ _ _=>rfl,fun _=>⟨h1,.refl S,t,.of_rt hr1 ht⟩⟩
    rw[aw r1,ac k1,aj,h1.lkm hrl,e2]
    rfl
   ·have e0:gS S r=0:=by
     by_cases e0:gS S r=0
     ·exact e0
     ·exact(e2 (hd1 r e0 e1).1).elim
    obtain⟨H2,u1,u2,u3⟩:=h1.upd hrl 1
    obtain⟨s2,d,w1,w2⟩:=u2.g.ob r x hx
    have g1':∀ j,gS (pS S r 1) j=if j=r then 1 else gS S j:=fun j=>AP _ _ _ _
    have hd2:Dn N L1 (pS S r 1):=fun j a b=>by
     rw[g1']at a b ⊢
     by_cases ej:j=r
     ·rw[if_pos ej]at b;exact(b rfl).elim
     ·rw[if_neg ej]at a b ⊢;exact hd1 j a b
    have hc2:cz (pS S r 1) N.length<k:=by
     have:cz (pS S r 1) N.length<cz S N.length:=On (r:=r) (fun j _ hj=>by
      rw[g1']at hj
      split at hj
      ·cases hj
      ·exact hj) hrl e0 (by rw[g1',if_pos rfl];decide)
     omega
    obtain⟨q,H3,L3,S3,t1,t2,t3,t4,t5,t6⟩:=Ii (Dy k) x.a [] H2 os N L1 (pS S r 1) u2 (hw.eqv q1) hd2 hv hc2 hx rfl w2
    refine⟨q,H3,L3,pS S3 r 2,ev (XZ) ?_,t2,q1.trans t3,(l1.em.trans u3).trans t4,fun f hm h2 h3=>?_,fun hq=>?_⟩
    ·rw[aw r1,ac k1,aj,h1.lkm hrl,e0]
     rw[show(∀ κ:D->ah,av ab .eql 3 true (.i 0) (.i 1) κ=κ (.bool false))from fun κ=>rfl]
     simp only[ak,cond_false]
     rw[show(∀ κ:D->ah,av ab .eql 3 true (.i 0) (.i 2) κ=κ (.bool false))from fun κ=>rfl]
     simp only[ak,cond_false]
     rw[ac k1,aj,u1]
     simp only[HG,Hq,VG,Nat.zero_add]
     rw[ac w1]
     simp only[fH,aj,ar]
     rw[w2.len,List.length_map]
     exact t1
    ·refine t5 f hm ((q1.rs _ f).1 h2) fun a ha j hj=>?_
     have hxv:x.v=false:=by
      cases vx:x.v with
      |false=>rfl
      |true=>rw[hv r x hx vx]at ha;cases ha
     have lt1:bE (f a)<bE (f r):=by
      rw[hm r x hx hxv]
      have:=vU (List.mem_map_of_mem (f:=f) ha)
      simp only[bE];omega
     rw[g1']at hj
     split at hj
     ·rename_i ej;rw[ej];exact lt1
     ·have:=h3 j hj
      rw[fr f h2]at this
      omega
    ·obtain⟨z1,z2,ts,z3⟩:=t6 hq
     have hr3:L3[r]? = some none:=(t3.ro r).1 hr1.root
     have tr:∃ t,Tr N L3 r t:=by
      cases vx:x.v with
      |true=>exact⟨_,.var (.z hr3) hx vx⟩
      |false =>
       have z4:∃ ts,oo N L3 x.a ts:=⟨ts,z3⟩
       obtain⟨ts,z4⟩:=z4
       exact⟨_,.con (.z hr3) hx vx z4⟩
     have hr3':=(q1.trans t3).rt _ _ _ hr
     obtain⟨n3,_,hr3'⟩:=hr3'
     have g3:∀ j,gS (pS S3 r 2) j=if j=r then 2 else gS S3 j:=fun j=>AP _ _ _ _
     obtain⟨t,ht⟩:=tr
     refine⟨z1,⟨fun j hj=>?_,fun j hj hj2=>?_⟩,t,.of_rt hr3' ht⟩
     ·have ej:j≠r:=fun q=>by subst q;exact hj e0
      have:gS (pS S r 1) j=gS S j:=by rw[g1',if_neg ej]
      rw[g3,if_neg ej,z2.old j (by rw[this];exact hj),this]
     ·rw[g3]at hj2 ⊢
      by_cases ej:j=r
      ·subst ej;rw[if_pos rfl];exact⟨rfl,t,ht⟩
      ·rw[if_neg ej]at hj2 ⊢
       exact z2.new j (by rw[g1',if_neg ej];exact hj) hj2
theorem iO(l:DH)(x y:DB):(l++[x]).set l.length y=l++[y]:=by simp
theorem cW{H X:DH}{o:Nat}{b:DB}(h:H[o]? = some b):(H++X)[o]? = some b:=by rw[List.getElem?_append_left (ao h),h]
theorem bM.app{H X:DH}{d:D}{l:List Nat}(h:bM H d l):bM (H++X) d l:=by
 rcases h with⟨rfl,rfl⟩|⟨b,st,cp,rfl,h⟩
 ·exact .inl ⟨rfl,rfl⟩
 ·exact .inr ⟨b,st,cp,rfl,cW h⟩
theorem cC.app{H X:DH}{os:List Nat}{N:List aH}{L:Lk}(g:cC H os N L):cC (H++X) os N L :=
 ⟨g.len,g.lenL,g.nd,fun i x hx=>by
  obtain⟨s,d,h1,h2⟩:=g.ob i x hx
  exact⟨s,d,cW h1,h2.app⟩,g.kid,g.lk,g.sm⟩
theorem cC.ltm{H:DH}{os:List Nat}{N:List aH}{L:Lk}(g:cC H os N L){o:Nat}(h:o∈os):o<H.length:=by
 obtain⟨s,c,e⟩:=g.nm h
 exact ao e
theorem EK{m v1 v2:Nat}{d:D}{all:List Nat}(h16:all.length<=16):∀(l p:List Nat) (H:DH) (os:List Nat) (N:List aH) (L:Lk) (S:List (Nat×Int)),Vi H m v1 v2 os N L S->Wf L->Dn N L S->(∀ j,gS S j≠1)->(∀(i:Nat) (x:aH),N[i]? = some x->x.v=true->x.a=[])->(∀ a∈all,a<N.length)->all=p++l->bM H d (all.map (oN os)) ->
 ∃ q H' L',ae am 25 200005 [.g (.ptr v2 0),.g d,.n (all.length:Nat),.n (p.length:Nat)] [] H=ret (.bool q) H'/\cC H' os N L'/\mu N L L'/\Em H H' os m/\(∀ f:Nat->Ty,LI N f->bT L f->q=true)/\(q=true->∀ a∈l,∃ t,Tr N L' a t)
 |[],p,H,os,N,L,S,h,hw,hd,h1,hv,hl,e,ha=>by
  refine⟨true,H,L,cM (yb) ?_,h.g,.refl _ _,.refl _ _ _,fun _ _ _=>rfl,fun _ a q=>nomatch q⟩
  have hlt:decide ((p.length:Int)<(all.length:Int))=false:=by rw[e];simp
  rw[hlt,cond_false]
 |a::l,p,H,os,N,L,S,h,hw,hd,h1,hv,hl,e,ha=>by
  obtain⟨s2,k2⟩:=h.b
  have la:a<N.length:=hl a (by rw[e];simp)
  have ia:(all.map (oN os))[p.length]? = some (oN os a):=by rw[List.getElem?_map,e];simp
  have hlt:decide ((p.length:Int)<(all.length:Int))=true:=by rw[e];simp;omega
  have hw2:cq ((p.length:Int)+1)=(((p++[a]).length:Nat):Int):=by
   rw[aS (by
    have:all.length=p.length+(l.length+1):=by rw[e];simp
    omega)]
   simp
  obtain⟨q,H1,L1,S1,r1,r2,r3,r4,r5,r6⟩:=Dy _ H os N L S h hw hd hv (Nat.lt_succ_self _) a la
  have hf:eK mc 56=true:=by kernel_rfl
  have st:∀ z,(match q with|true=>ae am 25 200005 [.g (.ptr v2 0),.g d,.n (all.length:Nat),.n ((p++[a]).length:Nat)] [] H1|false=>ret (.bool false) H1)=z->ae am 25 200005 [.g (.ptr v2 0),.g d,.n (all.length:Nat),.n (p.length:Nat)] [] H=z:=fun z hz=>by
   refine cM (yb) ?_
   rw[hlt,cond_true,ha.at' ia,ac k2,aj,Cz hf]
   rw[show(([]:List D)++([D.ptr (oN os a) 0]++[.ptr v1 0,.ptr v2 0]))=[.ptr (oN os a) 0,.ptr v1 0,.ptr v2 0] from rfl,aw r1]
   simp only[ct,ak]
   rw[hw2,<- hz]
   cases q<;>simp only[Bool.not_true,Bool.not_false,cond_true,cond_false]
  have op:∀ f:Nat->Ty,WG f S a:=fun f j hj=>(h1 j hj).elim
  cases q with
  |false=>exact⟨false,H1,L1,st _ rfl,r2,r3,r4,fun f h2 h3=>r5 f h2 h3 (op f),fun q=>nomatch q⟩
  |true =>
   obtain⟨t1,t2,t,t3⟩:=r6 rfl
   have h1':∀ j,gS S1 j≠1:=fun j hj=>by
    by_cases e0:gS S j=0
    ·have:=(t2.new j e0 (by rw[hj];decide)).1
     rw[hj]at this;cases this
    ·exact h1 j (by rw[<- t2.old j e0,hj])
   obtain⟨q',H2,L2,w1,w2,w3,w4,w5,w6⟩:=EK h16 l (p++[a]) H1 os N L1 S1 t1 (hw.eqv r3) ((hd.eqv r3).vs t2) h1' hv hl (by rw[e];simp) (ha.em h.g h.mp r4)
   refine⟨q',H2,L2,st _ w1,w2,r3.trans w3,r4.trans w4,fun f h2 h3=>w5 f h2 ((r3.rs _ f).1 h3),fun hq a' ha'=>?_⟩
   rcases List.mem_cons.1 ha' with rfl|ha'
   ·exact⟨t,t3.eqv w3⟩
   ·exact w6 hq a' ha'
theorem VY{H:DH}{os:List Nat}{N:List aH}{L:Lk}(g:cC H os N L)(hw:Wf L)(hv:∀(i:Nat) (x:aH),N[i]? = some x->x.v=true->x.a=[]){d:D}{l:List Nat}(h16:l.length<=16)(ha:bM H d (l.map (oN os)))(hl:∀ a∈l,a<N.length) :
 ∃ q H' L',ay 25 [d] H=ret (.bool q) H'/\cC H' os N L'/\mu N L L'/\vO H H' os/\(∀ f:Nat->Ty,LI N f->bT L f->q=true)/\(q=true->∀ a∈l,∃ t,Tr N L' a t):=by
 let X:DH:=[.map [],.cells 1 [.map H.length],.cells 1 [.func 56 [] [.ptr (H.length+1) 0,.ptr (H.length+2) 0]]]
 have hX:(H++[DB.map []]++[DB.cells 1 [.map H.length]]++[DB.cells 1 [.func 56 [] [.ptr (H.length+1) 0,.ptr (H.length+2) 0]]])=H++X:=by simp[X]
 have gX:cC (H++X) os N L:=g.app
 have at0:(H++X)[H.length]? = some (.map (sM os [])):=by simp[X,sM]
 have at1:(H++X)[H.length+1]? = some (.cells 1 [.map H.length]):=by rw[List.getElem?_append_right (by omega)];simp[X]
 have at2:(H++X)[H.length+2]? = some (.cells 1 [.func 56 [] [.ptr (H.length+1) 0,.ptr (H.length+2) 0]]):=by rw[List.getElem?_append_right (by omega)];simp[X]
 have vi:Vi (H++X) H.length (H.length+1) (H.length+2) os N L []:=⟨gX,at0,⟨1,at1⟩,⟨1,at2⟩,fun q=>by have:=g.ltm q;omega,fun q=>by have:=g.ltm q;omega,fun _ q=>nomatch q⟩
 obtain⟨q,H',L',r1,r2,r3,r4,r5,r6⟩:=EK h16 l [] (H++X) os N L [] vi hw (fun j h=>(h rfl).elim) (fun j=>by show(0:Int)≠1;decide) hv hl rfl ha.app
 refine⟨q,H',L',ev (f25) ?_,r2,r3,⟨Nat.le_trans (by simp) r4.len,fun o h1 h2=>?_⟩,r5,r6⟩
 ·have o0:∀(κ:List D->ah),az [D.nilmap] 0 [.map H.length] κ=κ [.map H.length]:=fun _=>rfl
  have o1:∀(a b:Nat) (κ:List D->ah),az [D.nilFunc] 0 [.func 56 [] [.ptr a 0,.ptr b 0]] κ=κ [.func 56 [] [.ptr a 0,.ptr b 0]]:=fun _ _ _=>rfl
  dsimp only
  rw[ac (bk _ _),o0,iO,ac (bk _ _),o1,iO]
  have hl1:(H++[DB.map []]).length=H.length+1:=by simp
  have hl2:(H++[DB.map []]++[DB.cells (0+1) [.map H.length]]).length=H.length+2:=by simp
  rw[hl1,hl2,Nat.zero_add,hX,(ha.app (X:=X)).len,List.length_map]
  exact r1
 ·rw[r4.at' o (by simp;omega) h2 (by omega),List.getElem?_append_left h1]
theorem Gw{m:Nat}(h:m<=4194304):aJ ab 74 m=true:=by
 have e:aJ ab 74 m=(Nat.ble (8*(m+Nat.div m 4+600)) 281474976710656&&Nat.ble m 4611686018427387904):=by kernel_rfl
 rw[e,Bool.and_eq_true]
 have h1:Nat.div m 4<=m:=Nat.div_le_self m 4
 exact⟨Nat.ble_eq_true_of_le (by omega),Nat.ble_eq_true_of_le (by omega)⟩
theorem UH{H:DH}{d:D}{l:List Nat}(h:bM H d l)(hl:l.length<4194304)(o:Nat):∃ d' H',(∀ κ:D->DH->ah,cE (aJ ab 74) 1 d [[.ptr o 0]] H κ=κ d' H')/\bM H' d' (l++[o])/\H.length<=H'.length /\
 (∀ b,b<H.length->(∀ n,d≠.buf 1 b n)->H'[b]? = H[b]?)/\(∃ b n,d'=.buf 1 b n/\((∃ n',d=.buf 1 b n')\/H.length<=b))/\(∀ b n,d'=.buf 1 b n->b<H'.length):=by
 rcases h with⟨rfl,rfl⟩|⟨b,st,cp,rfl,hb⟩
 ·refine⟨.buf 1 H.length 1,H++[.buf 1 true false [[.ptr o 0]]],fun κ=>?_,.inr ⟨H.length,true,false,rfl,bk _ _⟩,by simp,fun b hb _=>List.getElem?_append_left hb,⟨_,_,rfl,.inr (Nat.le_refl _)⟩,fun b n e=>by cases e;simp⟩
  simp only[cE,List.length_singleton,Gw (show 1<=4194304 by decide),boK,cond_true]
  rfl
 ·have hm:(List.map (fun o=>[D.ptr o 0]) l).length=l.length:=List.length_map _
  have hs:∀ κ:D->DH->ah,cE (aJ ab 74) 1 (.buf 1 b l.length) [[.ptr o 0]] H κ=grow b 1 st cp (l.map fun o=>[.ptr o 0]) [[.ptr o 0]] H κ:=fun κ=>by
   have h4:=bH hb (κ:=fun _ st cap l2=>boK (aJ ab 74 (l2.length+1)&&!(cap&&List.isEmpty [[D.ptr o 0]])) (grow b 1 st cap l2 [[.ptr o 0]] H κ))
   rw[hm]at h4
   simp only[cE,List.length_singleton,Gw (show 1<=4194304 by decide),boK,cond_true,Nat.beq_refl]
   refine Eq.trans h4 ?_
   rw[Gw (by omega)]
   simp only[List.isEmpty_cons,Bool.and_false,Bool.not_false,Bool.and_self,boK,cond_true]
  have e2:(List.map (fun o=>[D.ptr o 0]) l)++[[.ptr o 0]]=(l++[o]).map fun o=>[.ptr o 0]:=by simp
  cases cp with
  |true =>
   refine⟨.buf 1 H.length (l++[o]).length,H++[.buf 1 true false ((l++[o]).map fun o=>[.ptr o 0])],fun κ=>?_,.inr ⟨H.length,true,false,rfl,bk _ _⟩,by simp,fun b hb _=>List.getElem?_append_left hb,⟨_,_,rfl,.inr (Nat.le_refl _)⟩,fun b n e=>by cases e;simp⟩
   rw[hs,grow,cond_true,e2,hm]
   simp
  |false =>
   refine⟨.buf 1 b (l++[o]).length,H.set b (.buf 1 st false ((l++[o]).map fun o=>[.ptr o 0])),fun κ=>?_,.inr ⟨b,st,false,rfl,aN _ hb⟩,by simp,fun b' hb' hn=>List.getElem?_set_ne (fun q=>hn l.length (by rw[q])),⟨_,_,rfl,.inl ⟨_,rfl⟩⟩,fun b n e=>by cases e;simp;exact ao hb⟩
   rw[hs,grow,cond_false,e2,hm]
   simp
theorem Cf{os X:List Nat}{i:Nat}(h:i<os.length):oN (os++X) i=oN os i:=by unfold oN;rw[List.getElem?_append_left h]
theorem fR{os X:List Nat}{l:List Nat}(h:∀ a∈l,a<os.length):l.map (oN (os++X))=l.map (oN os):=List.map_congr_left fun a ha=>Cf (h a ha)
theorem sX(os:List Nat)(o:Nat):oN (os++[o]) os.length=o:=by simp[oN]
def gH(N:List aH)(v:Nat):af:=((N[v]?).map (·.n)).getD []
def vM(os:List Nat)(N:List aH)(vs:List Nat):List (D×D):=vs.map fun v=>(.str (gH N v),.ptr (oN os v) 0)
theorem Nt(os:List Nat)(N:List aH)(s:af):∀ vs,zr (.str s) (vM os N vs)=some ((vs.find? fun v=>s==gH N v).map fun v=>.ptr (oN os v) 0)
 |[]=>rfl
 |v::r=>by
  have ih:=Nt os N s r
  simp only[vM,List.map_cons,zr,nI]
  cases q:s==gH N v with
  |true=>simp only[List.find?_cons,q,Option.map]
  |false=>simp only[List.find?_cons,q];exact ih
theorem Nr(os:List Nat)(N:List aH)(s:af)(x:D):∀ vs,(vs.find? fun v=>s==gH N v)=none->Cj (.str s) x (vM os N vs)=some (vM os N vs++[(.str s,x)])
 |[],_=>rfl
 |v::r,h=>by
  simp only[List.find?_cons]at h
  cases q:s==gH N v with
  |true=>rw[q]at h;cases h
  |false =>
   rw[q]at h
   have ih:=Nr os N s x r h
   simp only[vM,List.map_cons,Cj,nI,q,List.cons_append]
   simp only[vM]at ih
   rw[ih]
mutual
def BD(kind:af->Int):Ty->List af->List af
 |.mk n xs,o=>dO kind xs (if(kind n==4)=true/\n∉o then o++[n] else o)
def dO(kind:af->Int):List Ty->List af->List af
 |[],o=>o
 |t::r,o=>dO kind r (BD kind t o)
end
theorem oz{kind:af->Int}(t:Ty):∀(l:List Ty) (o:List af),dO kind (l++[t]) o=BD kind t (dO kind l o)
 |[],o=>rfl
 |x::r,o=>by simp only[List.cons_append,dO];exact oz t r _
def vN(N:List aH)(vs:List Nat):List af:=vs.map (gH N)
theorem LP{N:List aH}{vs:List Nat}(N':List aH)(h:∀ i∈vs,i<N.length):vN (N++N') vs=vN N vs:=by
 refine List.map_congr_left fun v hv=>?_
 unfold gH;rw[List.getElem?_append_left (h v hv)]
structure GT(isV:af->Bool)(H:DH)(p mo:Nat)(dl:D)(os bs:List Nat)(N:List aH)(T:List Ty)(vs:List Nat):Prop where
 len:os.length=N.length
 nd:os.Nodup
 ob:∀(i:Nat) (x:aH),N[i]? = some x->∃ s d,H[oN os i]? = some (.cells s (fH x.v x.n x.o d .nilptr))/\bM H d (x.a.map (oN os))/\∀ o n,d=.buf 1 o n->o∈bs
 sm:∀(i:Nat) (x:aH),N[i]? = some x->x.a.length<=16
 gn:GN N T isV
 pg:∃ s,H[p]? = some (.cells s [.map mo,dl])
 al:bM H dl (vs.map (oN os))
 lb:∀ o n,dl=.buf 1 o n->o∉bs
 mp:H[mo]? = some (.map (vM os N vs))
 vs1:∀(i:Nat) (x:aH),N[i]? = some x->x.v=true->i∈vs
 vs2:∀ i∈vs,∃ x,N[i]? = some x/\x.v=true
 np:p∉os
 bb:∀ o∈bs,o<H.length
 vl:vs.length<=N.length
 vn:vs.Nodup
 vo:∀ k v:Nat,vs[k]? = some v->∃ x,N[v]? = some x/\x.o=k
variable{isV:af->Bool}{H H':DH}{p mo:Nat}{dl dl':D}{os bs:List Nat}{N:List aH}{T:List Ty}{vs:List Nat}
theorem GN.kid(g:GN N T isV)(i:Nat)(x:aH)(h:N[i]? = some x):∀ a∈x.a,a<i:=fun a ha=>by
 cases hv:x.v with
 |true=>rw[(g.var i x h hv).2.2]at ha;cases ha
 |false=>exact(g.con i x h hv).2.1 a ha
theorem bM.chg{d:D}{l:List Nat}(h:bM H d l)(k:∀ o n,d=.buf 1 o n->H'[o]? = H[o]?):bM H' d l:=by
 rcases h with⟨rfl,rfl⟩|⟨b,st,cp,rfl,h⟩
 ·exact .inl ⟨rfl,rfl⟩
 ·exact .inr ⟨b,st,cp,rfl,by rw[k _ _ rfl,h]⟩
theorem GT.chg(g:GT isV H p mo dl os bs N T vs)(h1:∀ o∈os,H'[o]? = H[o]?)(h2:∀ o∈bs,H'[o]? = H[o]?)(h3:∃ s,H'[p]? = some (.cells s [.map mo,dl]))(h4:∀ o n,dl=.buf 1 o n->H'[o]? = H[o]?)(h5:H'[mo]? = H[mo]?)(h6:H.length<=H'.length):GT isV H' p mo dl os bs N T vs :=
 ⟨g.len,g.nd,fun i x hx=>by
  obtain⟨s,d,k1,k2,k3⟩:=g.ob i x hx
  exact⟨s,d,by rw[h1 _ (Ce (by rw[g.len];exact ao hx)),k1],k2.chg fun o n e=>h2 o (k3 o n e),k3⟩,g.sm,g.gn,h3,g.al.chg h4,g.lb,by rw[h5,g.mp],g.vs1,g.vs2,g.np,fun o ho=>Nat.lt_of_lt_of_le (g.bb o ho) h6,g.vl,g.vn,g.vo⟩
theorem dP{α:Type}{l:List α}{x y:α}{i:Nat}(h:(l++[x])[i]? = some y):l[i]? = some y\/(i=l.length/\y=x):=by
 rcases Nat.lt_trichotomy i l.length with q|q|q
 ·rw[List.getElem?_append_left q]at h;exact .inl h
 ·subst q;simp at h;exact .inr ⟨rfl,h.symm⟩
 ·rw[List.getElem?_eq_none (by simp;omega)]at h;cases h
theorem cD{α:Type}{l X:List α}{y:α}{i:Nat}(h:l[i]? = some y):(l++X)[i]? = some y:=by rw[List.getElem?_append_left (ao h),h]
theorem wV{T:List Ty}{t:Ty}{ks:List Nat}{ts:List Ty}(h:ks.map (fun a=>T[a]?)=ts.map some):ks.map (fun a=>(T++[t])[a]?)=ts.map some:=by
 rw[<- h]
 refine List.map_congr_left fun a ha=>?_
 have:T[a]?∈ts.map some:=by rw[<- h];exact List.mem_map_of_mem (f:=fun a=>T[a]?) ha
 obtain⟨t',_,e⟩:=List.mem_map.1 this
 rw[<- e];exact cD e.symm
theorem GN.snocC(g:GN N T isV){nm:af}{ks:List Nat}{ts:List Ty}{o:Int}(hv:isV nm=false)(ha:∀ a∈ks,a<N.length)(ht:ks.map (fun a=>T[a]?)=ts.map some):GN (N++[⟨false,nm,o,ks⟩]) (T++[.mk nm ts]) isV:=by
 refine⟨by simp[g.len],fun i x hx vx=>?_,fun i x hx vx=>?_,fun i j x y hx hy vx vy e=>?_⟩
 ·rcases dP hx with hx|⟨rfl,rfl⟩
  ·obtain⟨a1,a2,a3⟩:=g.var i x hx vx
   exact⟨cD a1,a2,a3⟩
  ·cases vx
 ·rcases dP hx with hx|⟨rfl,rfl⟩
  ·obtain⟨a1,a2,ts',a3,a4⟩:=g.con i x hx vx
   exact⟨a1,a2,ts',cD a3,wV a4⟩
  ·exact⟨hv,ha,ts,by rw[<- g.len];simp,wV ht⟩
 ·rcases dP hx with hx|⟨rfl,rfl⟩
  ·rcases dP hy with hy|⟨rfl,rfl⟩
   ·exact g.inj i j x y hx hy vx vy e
   ·cases vy
  ·cases vx
theorem GN.snocV(g:GN N T isV){nm:af}{o:Int}(hv:isV nm=true)(hn:∀(i:Nat) (x:aH),N[i]? = some x->x.v=true->x.n≠nm):GN (N++[⟨true,nm,o,[]⟩]) (T++[.mk nm []]) isV:=by
 refine⟨by simp[g.len],fun i x hx vx=>?_,fun i x hx vx=>?_,fun i j x y hx hy vx vy e=>?_⟩
 ·rcases dP hx with hx|⟨rfl,rfl⟩
  ·obtain⟨a1,a2,a3⟩:=g.var i x hx vx
   exact⟨cD a1,a2,a3⟩
  ·exact⟨by rw[<- g.len];simp,hv,rfl⟩
 ·rcases dP hx with hx|⟨rfl,rfl⟩
  ·obtain⟨a1,a2,ts',a3,a4⟩:=g.con i x hx vx
   exact⟨a1,a2,ts',cD a3,wV a4⟩
  ·cases vx
 ·rcases dP hx with hx|⟨rfl,rfl⟩
  ·rcases dP hy with hy|⟨rfl,rfl⟩
   ·exact g.inj i j x y hx hy vx vy e
   ·exact(hn i x hx vx e).elim
  ·rcases dP hy with hy|⟨rfl,rfl⟩
   ·exact(hn j y hy vy e.symm).elim
   ·rfl
theorem GT.vs_lt(g:GT isV H p mo dl os bs N T vs):∀ i∈vs,i<os.length:=fun i hi=>by
 obtain⟨x,hx,_⟩:=g.vs2 i hi
 rw[g.len];exact ao hx
theorem GT.vs_lN(g:GT isV H p mo dl os bs N T vs):∀ i∈vs,i<N.length:=fun i hi=>by rw[<- g.len];exact g.vs_lt i hi
theorem LQ{os':List Nat}{N':List aH}(h:∀ i∈vs,i<os.length)(hl:os.length=N.length):vM (os++os') (N++N') vs=vM os N vs:=by
 refine List.map_congr_left fun v hv=>?_
 rw[Cf (h v hv)]
 have:gH (N++N') v=gH N v:=by unfold gH;rw[List.getElem?_append_left (by rw[<- hl];exact h v hv)]
 rw[this]
theorem GT.snocC(g:GT isV H p mo dl os bs N T vs){nm:af}{ks:List Nat}{ts:List Ty}{o s:Nat}{d:D}{B:List Nat}(hv:isV nm=false)(ho:H[o]? = some (.cells s (fH false nm 0 d .nilptr)))(hd:bM H d (ks.map (oN os)))(hn:o∉os)(hp:o≠p)
 (ha:∀ a∈ks,a<N.length) (h16:ks.length<=16) (ht:ks.map (fun a=>T[a]?)=ts.map some) (hB:∀ b n,d=.buf 1 b n->b∈B) (hB2:∀ b∈B,b<H.length/\∀ n,dl≠.buf 1 b n) :
 GT isV H p mo dl (os++[o]) (bs++B) (N++[⟨false,nm,0,ks⟩]) (T++[.mk nm ts]) vs:=by
 have hk:∀(i:Nat) (x:aH),N[i]? = some x->∀ a∈x.a,a<os.length:=fun i x hx a ha=>by
  have:=g.gn.kid i x hx a ha
  have:=ao hx
  rw[g.len];omega
 refine⟨by simp[g.len],?_,fun i x hx=>?_,fun i x hx=>?_,g.gn.snocC hv ha ht,g.pg,by rw[fR g.vs_lt];exact g.al,fun b n e hb=>?_,by rw[LQ g.vs_lt g.len];exact g.mp,fun i x hx vx=>?_,fun i hi=>?_,fun q=>?_,fun b hb=>?_,by simp;have:=g.vl;omega,g.vn,fun k v h=>by obtain⟨x,a,b⟩:=g.vo k v h;exact⟨x,cD a,b⟩⟩
 ·rw[List.nodup_append]
  exact⟨g.nd,by simp,fun a ha b hb=>by simp at hb;subst hb;intro e;subst e;exact hn ha⟩
 ·rcases dP hx with hx|⟨rfl,rfl⟩
  ·obtain⟨s,d,k1,k2,k3⟩:=g.ob i x hx
   exact⟨s,d,by rw[Cf (by rw[g.len];exact ao hx)];exact k1,by rw[fR (hk i x hx)];exact k2,fun o n e=>List.mem_append_left _ (k3 o n e)⟩
  ·exact⟨s,d,by rw[<- g.len,sX];exact ho,by rw[fR fun a h=>by rw[g.len];exact ha a h];exact hd,fun o n e=>List.mem_append_right _ (hB o n e)⟩
 ·rcases dP hx with hx|⟨rfl,rfl⟩
  ·exact g.sm i x hx
  ·exact h16
 ·rcases List.mem_append.1 hb with hb|hb
  ·exact g.lb b n e hb
  ·exact(hB2 b hb).2 n e
 ·rcases dP hx with hx|⟨rfl,rfl⟩
  ·exact g.vs1 i x hx vx
  ·cases vx
 ·obtain⟨x,hx,vx⟩:=g.vs2 i hi
  exact⟨x,cD hx,vx⟩
 ·rcases List.mem_append.1 q with q|q
  ·exact g.np q
  ·simp at q;exact hp q.symm
 ·rcases List.mem_append.1 hb with hb|hb
  ·exact g.bb b hb
  ·exact(hB2 b hb).1
def Cv(N N':List aH)(ks:List Nat):Prop:=∀ j,N.length<=j->j<N'.length->j∈ks\/∃(m:Nat) (x:aH),N'[m]? = some x/\j∈x.a
theorem Cv.refl(N:List aH)(ks:List Nat):Cv N N ks:=fun j h k=>(by omega)
theorem Cv.snoc{N0 N N1:List aH}{ks:List Nat}{i:Nat}(h:Cv N0 N ks)(k:Cv N N1 [i])(e:∃ X,N1=N++X):Cv N0 N1 (ks++[i]):=fun j h1 h2=>by
 rcases Nat.lt_or_ge j N.length with q|q
 ·rcases h j h1 q with h|⟨m,x,h,hx⟩
  ·exact .inl (List.mem_append_left _ h)
  ·obtain⟨X,rfl⟩:=e
   exact .inr ⟨m,x,by rw[List.getElem?_append_left (ao h),h],hx⟩
 ·rcases k j q h2 with h|h
  ·exact .inl (List.mem_append_right _ h)
  ·exact .inr h
theorem Cv.con{N0 N:List aH}{ks:List Nat}(h:Cv N0 N ks)(v:Bool)(n:af)(o:Int):Cv N0 (N++[⟨v,n,o,ks⟩]) [N.length]:=fun j h1 h2=>by
 rcases Nat.lt_or_ge j N.length with q|q
 ·rcases h j h1 q with h|⟨m,x,h,hx⟩
  ·exact .inr ⟨N.length,⟨v,n,o,ks⟩,by simp,h⟩
  ·exact .inr ⟨m,x,by rw[List.getElem?_append_left (ao h),h],hx⟩
 ·simp at h2
  exact .inl (by simp;omega)
structure Lz(H H':DH)(p mo:Nat)(dl dl':D)(os os' bs bs':List Nat)(N N':List aH)(T T':List Ty)(vs vs':List Nat)(k:Nat):Prop where
 eos:∃ X,os'=os++X/\∀ o∈X,H.length<=o
 ebs:∃ X,bs'=bs++X/\∀ o∈X,H.length<=o
 eN:∃ X,N'=N++X
 eT:∃ X,T'=T++X
 evs:∃ X,vs'=vs++X
 ek:N'.length<=N.length+k
 elen:H.length<=H'.length
 efr:∀ o:Nat,o<H.length->o≠p->o≠mo->(∀ n,dl≠.buf 1 o n)->H'[o]? = H[o]?
 edl:∀ b n,dl'=.buf 1 b n->(∃ n',dl=.buf 1 b n')\/H.length<=b
variable{isV:af->Bool}{H H' H'':DH}{p mo:Nat}{dl dl' dl'':D}{os bs os' bs' os'' bs'':List Nat}{N N' N'':List aH}{T T' T'':List Ty}{vs vs' vs'':List Nat}
theorem Lz.refl(H:DH)(p mo:Nat)(dl:D)(os bs:List Nat)(N:List aH)(T:List Ty)(vs:List Nat):Lz H H p mo dl dl os os bs bs N N T T vs vs 0 :=
 ⟨⟨[],by simp,fun _ h=>nomatch h⟩,⟨[],by simp,fun _ h=>nomatch h⟩,⟨[],by simp⟩,⟨[],by simp⟩,⟨[],by simp⟩,Nat.le_refl _,Nat.le_refl _,fun _ _ _ _ _=>rfl,fun b n e=>.inl ⟨n,e⟩⟩
theorem Lz.trans{k k':Nat}(h:Lz H H' p mo dl dl' os os' bs bs' N N' T T' vs vs' k)(g:Lz H' H'' p mo dl' dl'' os' os'' bs' bs'' N' N'' T' T'' vs' vs'' k'):Lz H H'' p mo dl dl'' os os'' bs bs'' N N'' T T'' vs vs'' (k+k'):=by
 obtain⟨⟨X1,rfl,x1⟩,⟨X2,rfl,x2⟩,⟨X3,rfl⟩,⟨X4,rfl⟩,⟨X5,rfl⟩,a1,a2,a3,a4⟩:=h
 obtain⟨⟨Y1,rfl,y1⟩,⟨Y2,rfl,y2⟩,⟨Y3,rfl⟩,⟨Y4,rfl⟩,⟨Y5,rfl⟩,b1,b2,b3,b4⟩:=g
 refine⟨⟨X1++Y1,by simp,fun o ho=>?_⟩,⟨X2++Y2,by simp,fun o ho=>?_⟩,⟨X3++Y3,by simp⟩,⟨X4++Y4,by simp⟩,⟨X5++Y5,by simp⟩,by omega,by omega,fun o h1 h2 h3 h4=>?_,fun b n e=>?_⟩
 ·rcases List.mem_append.1 ho with ho|ho
  ·exact x1 o ho
  ·exact Nat.le_trans a2 (y1 o ho)
 ·rcases List.mem_append.1 ho with ho|ho
  ·exact x2 o ho
  ·exact Nat.le_trans a2 (y2 o ho)
 ·rw[b3 o (by omega) h2 h3 (fun n e=>?_),a3 o h1 h2 h3 h4]
  rcases a4 o n e with⟨n',e⟩|e
  ·exact h4 n' e
  ·omega
 ·rcases b4 b n e with⟨n',e⟩|e
  ·exact a4 b n' e
  ·exact .inr (by omega)
theorem YJ(o c:Nat)(κ:D->ah):av ab .eql 74 true (.ptr o c) .nilptr κ=κ (.bool false):=by kernel_rfl
theorem YK(κ:D->ah):av ab .eql 74 true .nilptr .nilptr κ=κ (.bool true):=by kernel_rfl
theorem Tu(m:Nat)(s:af)(H:DH)(κ:D->ah):jm ab 70 (.map m) (.str s) false H κ=nF H m fun es=>mC (.str s) es fun r=>fS ab 74 false r κ:=by kernel_rfl
theorem Tg(m:Nat)(s:af)(v:D)(H:DH)(κ:DH->ah):jY ab 70 (.map m) (.str s) v H κ=nF H m fun es=>mB (.str s) v es fun es=>κ (H.set m (.map es)):=by kernel_rfl
theorem We(κ:D->ah):fS ab 74 false none κ=κ .nilptr:=by kernel_rfl
theorem c5(s:af)(n:Int)(κ:List D->ah):(az [.bool true,.str s,.i 0,.nilrow,.nilptr] 2 [.i n] fun b=>ai 5 (.agg b) κ)=κ (fH true s n .nilrow .nilptr):=rfl
theorem YR(n:Int)(κ:List D->ah):ai 1 (.i n) κ=κ [.i n]:=rfl
theorem YS(s o n:Nat)(κ:List D->ah):ai 1 (.buf s o n) κ=κ [.buf s o n]:=rfl
theorem ZI(mo:Nat)(d x:D)(κ:List D->ah):az [.map mo,d] 1 [x] κ=κ [.map mo,x]:=rfl
theorem Ss{kind:af->Int}(K:FW kind)(g:GT (fun n=>kind n==4) H p mo dl os bs N T vs){a:af}(hv:(kind a==4)=true)(hN:N.length<1000000)(b:dB):∃ H' dl' os' N' T' vs' i,ay 23 [.ptr p 0,.agg [.str a,.row 2 b]] H=ret (.ptr (oN os' i) 0) H'/\GT (fun n=>kind n==4) H' p mo dl' os' bs N' T' vs'/\T'[i]? = some (.mk a [])/\Lz H H' p mo dl dl' os os' bs bs N N' T T' vs vs' 1/\Cv N N' [i]/\vN N' vs'=BD kind (.mk a []) (vN N vs):=by
 obtain⟨s,hp⟩:=g.pg
 have base:∀ {κ:D->ah} {z},(∀ κ':D->ah,fS ab 74 false ((vs.find? fun v=>a==gH N v).map fun v=>.ptr (oN os v) 0) κ'=κ' z)->(jm ab 70 (.map mo) (.str a) false H κ)=κ z:=fun {κ z} h=>by
  rw[Tu,jd g.mp,mC,Nt]
  exact h κ
 cases hf:vs.find? fun v=>a==gH N v with
 |some v =>
  have hm:=List.mem_of_find?_eq_some hf
  have hq:=List.find?_some hf
  obtain⟨x,hx,vx⟩:=g.vs2 v hm
  have hn:x.n=a:=by
   have:a=gH N v:=by simpa using hq
   rw[this];simp[gH,hx]
  refine⟨H,dl,os,N,T,vs,v,ev (Yk) ?_,g,by rw[(g.gn.var v x hx vx).1,hn],?_,.refl _ _,?_⟩
  ·rw[aw (vA K a H),hv]
   simp only[ct,Bool.not_true,ak,cond_false]
   rw[ac hp,aj,base (z:=.ptr (oN os v) 0) (fun κ'=>by rw[hf];rfl),YJ]
   simp only[ak,cond_false]
  ·have e:=Lz.refl H p mo dl os bs N T vs
   exact { e with ek:=by omega }
  ·have hin:a∈vN N vs:=List.mem_map.2 ⟨v,hm,Eq.symm (by simpa using hq)⟩
   simp only[BD,dO]
   rw[if_neg fun q=>q.2 hin]
 |none =>
  have hlt:p<H.length:=ao hp
  have hmo:mo<H.length:=ao g.mp
  have hpm:p≠mo:=fun e=>by rw[e,g.mp]at hp;cases hp
  obtain⟨dl',H3,u1,u2,u3,u4,u5,u6⟩:=UH (H:=(H++[DB.cells 0 (fH true a (vs.length:Nat) .nilrow .nilptr)]).set mo (DB.map (vM os N vs++[(D.str a,D.ptr H.length 0)]))) (d:=dl) (l:=vs.map (oN os)) (g.al.chg fun o n e=>by
   have:o<H.length:=by
    rcases g.al with⟨e',_⟩|⟨o',st,cp,e',hb⟩
    ·rw[e']at e;cases e
    ·rw[e']at e;cases e;exact ao hb
   rw[List.getElem?_set_ne (fun q=>by
    rcases g.al with⟨e',_⟩|⟨o',st,cp,e',hb⟩
    ·rw[e']at e;cases e
    ·rw[e']at e;cases e;rw[<- q,g.mp]at hb;cases hb),List.getElem?_append_left this]) (by rw[List.length_map];have:=g.vl;omega) H.length
  have hpl:∀ n,dl≠.buf 1 p n:=fun n e=>by
   rcases g.al with⟨e',_⟩|⟨o',st,cp,e',hb⟩
   ·rw[e']at e;cases e
   ·rw[e']at e;cases e;rw[hp]at hb;cases hb
  have hml:∀ n,dl≠.buf 1 mo n:=fun n e=>by
   rcases g.al with⟨e',_⟩|⟨o',st,cp,e',hb⟩
   ·rw[e']at e;cases e
   ·rw[e']at e;cases e;rw[g.mp]at hb;cases hb
  have hdl:∀ b n,dl=.buf 1 b n->b<H.length:=fun b n e=>by
   rcases g.al with⟨e',_⟩|⟨o',st,cp,e',hb⟩
   ·rw[e']at e;cases e
   ·rw[e']at e;cases e;exact ao hb
  have hlen2:((H++[DB.cells 0 (fH true a (vs.length:Nat) .nilrow .nilptr)]).set mo (DB.map (vM os N vs++[(D.str a,D.ptr H.length 0)]))).length=H.length+1:=by simp
  rw[hlen2]at u3 u4 u5
  have k3:∀ o,o<H.length->o≠mo->(∀ n,dl≠.buf 1 o n)->H3[o]? = H[o]?:=fun o h1 h2 h3=>by
   rw[u4 o (by omega) h3,List.getElem?_set_ne (fun q=>h2 q.symm),List.getElem?_append_left h1]
  have p3:H3[p]? = some (.cells s [.map mo,dl]):=by rw[k3 p hlt hpm hpl,hp]
  have m3:H3[mo]? = some (.map (vM os N vs++[(.str a,.ptr H.length 0)])):=by
   rw[u4 mo (by omega) hml]
   exact aN _ (cW g.mp)
  have n3:H3[H.length]? = some (.cells 0 (fH true a (vs.length:Nat) .nilrow .nilptr)):=by
   rw[u4 H.length (by omega) (fun n e=>by have:=hdl _ _ e;omega),List.getElem?_set_ne (by omega)]
   exact bk _ _
  have k4:∀ o,o<H.length->o≠p->o≠mo->(∀ n,dl≠.buf 1 o n)->(H3.set p (.cells (s+1) [.map mo,dl']))[o]? = H[o]?:=fun o h1 h2 h3 h4=>by
   rw[List.getElem?_set_ne (fun q=>h2 q.symm),k3 o h1 h3 h4]
  obtain⟨lb,ln,hdl',hlb⟩:=u5
  have hp3:p<H3.length:=ao p3
  have nb:∀ b n,dl'=.buf 1 b n->(∃ n',dl=.buf 1 b n')\/H.length+1<=b:=fun b n e=>by
   rw[hdl']at e;cases e;exact hlb
  have osl:∀ o∈os,o<H.length:=fun o ho=>by
   obtain⟨i,hi⟩:=List.getElem?_of_mem ho
   have hl:=ao hi
   obtain⟨s,d,h1,_⟩:=g.ob i _ (List.getElem?_eq_getElem (by rw[<- g.len];exact hl))
   rw[show oN os i=o by unfold oN;rw[hi];rfl]at h1
   exact ao h1
  have osk:∀ o∈os,(H3.set p (.cells (s+1) [.map mo,dl']))[o]? = H[o]?:=fun o ho=>by
   obtain⟨i,hi⟩:=List.getElem?_of_mem ho
   have hl:=ao hi
   obtain⟨s',d,h1,_⟩:=g.ob i _ (List.getElem?_eq_getElem (by rw[<- g.len];exact hl))
   rw[show oN os i=o by unfold oN;rw[hi];rfl]at h1
   refine k4 o (osl o ho) (fun q=>g.np (q▸ho)) (fun q=>by rw[q,g.mp]at h1;cases h1) fun n e=>?_
   rcases g.al with⟨e',_⟩|⟨o',st,cp,e',hb⟩
   ·rw[e']at e;cases e
   ·rw[e']at e;cases e;rw[h1]at hb;cases hb
  have bsk:∀ o∈bs,(∀(i:Nat) (x:aH) d n,d=D.buf 1 o n->True)->True:=fun _ _ _=>trivial
  have fresh:∀(i:Nat) (x:aH),N[i]? = some x->x.v=true->x.n≠a:=fun i x hx vx e=>by
   have hi:=g.vs1 i x hx vx
   have:=List.find?_eq_none.1 hf i hi
   simp[gH,hx,e]at this
  refine⟨H3.set p (.cells (s+1) [.map mo,dl']),dl',os++[H.length],N++[⟨true,a,(vs.length:Nat),[]⟩],T++[.mk a []],vs++[N.length],N.length,ev (Yk) ?_,?_,by rw[<- g.gn.len];simp,?_,(Cv.refl N []).con true a (vs.length:Nat),?_⟩
  ·rw[aw (vA K a H),hv]
   simp only[ct,Bool.not_true,ak,cond_false]
   rw[ac hp,aj,base (z:=.nilptr) (fun κ'=>by rw[hf];exact We κ'),YK]
   simp only[ak,cond_true]
   rw[ac hp,ar,aj,g.al.len,List.length_map,YR,c5]
   have hp2:(H++[DB.cells 0 (fH true a (vs.length:Nat) .nilrow .nilptr)])[p]? = some (.cells s [.map mo,dl]):=cW hp
   rw[ac hp2,aj,Tg,jd (cW g.mp),mB,Nr os N a _ vs hf]
   dsimp only
   rw[ac (ag _ (fun q=>hpm q.symm) hp2),ar,aj,u1,hdl',YS,ac p3,ZI,<- hdl']
   rw[<- g.len,sX]
  ·refine⟨by simp[g.len],?_,fun i x hx=>?_,fun i x hx=>?_,g.gn.snocV hv fresh,⟨s+1,aN _ p3⟩,?_,fun b n e hb=>?_,?_,fun i x hx vx=>?_,fun i hi=>?_,fun q=>?_,fun b hb=>?_,by simp;exact g.vl,?_,fun k v h=>?_⟩
   ·rw[List.nodup_append]
    exact⟨g.nd,by simp,fun a ha b hb=>by simp at hb;subst hb;intro e;have:=osl a ha;omega⟩
   ·rcases dP hx with hx|⟨rfl,rfl⟩
    ·obtain⟨s',d,h1,h2,h3⟩:=g.ob i x hx
     have hi:i<os.length:=by rw[g.len];exact ao hx
     refine⟨s',d,by rw[Cf hi,osk _ (Ce hi)];exact h1,?_,h3⟩
     have hk:∀ a∈x.a,a<os.length:=fun a ha=>by
      have:=g.gn.kid i x hx a ha
      omega
     rw[fR hk]
     rcases h2 with⟨rfl,e⟩|⟨b,st,cp,rfl,hb⟩
     ·exact .inl ⟨rfl,e⟩
     ·refine .inr ⟨b,st,cp,rfl,?_⟩
      rw[k4 b (ao hb) (fun q=>by rw[q,hp]at hb;cases hb) (fun q=>by rw[q,g.mp]at hb;cases hb) (fun n e=>g.lb b n e (h3 b _ rfl)),hb]
    ·refine⟨0,.nilrow,?_,.inl ⟨rfl,rfl⟩,fun _ _ e=>by cases e⟩
     rw[<- g.len,sX,List.getElem?_set_ne (by omega)]
     exact n3
   ·rcases dP hx with hx|⟨rfl,rfl⟩
    ·exact g.sm i x hx
    ·exact Nat.zero_le _
   ·rw[List.map_append,fR g.vs_lt]
    have:List.map (oN (os++[H.length])) [N.length]=[H.length]:=by rw[<- g.len];simp[sX]
    rw[this]
    refine u2.chg fun o n e=>List.getElem?_set_ne fun q=>?_
    subst q
    rcases nb p n e with⟨n',e⟩|e
    ·exact hpl n' e
    ·omega
   ·rcases nb b n e with⟨n',e⟩|e
    ·exact g.lb b n' e hb
    ·have:=g.bb b hb;omega
   ·rw[List.getElem?_set_ne hpm,m3]
    congr 2
    unfold vM
    rw[List.map_append]
    have e1:=LQ (os':=[H.length]) (N':=[⟨true,a,(vs.length:Nat),[]⟩]) g.vs_lt g.len
    unfold vM at e1
    rw[e1]
    congr 1
    simp[gH,<- g.len,sX]
   ·rcases dP hx with hx|⟨rfl,rfl⟩
    ·exact List.mem_append_left _ (g.vs1 i x hx vx)
    ·simp
   ·rcases List.mem_append.1 hi with hi|hi
    ·obtain⟨x,hx,vx⟩:=g.vs2 i hi
     exact⟨x,cD hx,vx⟩
    ·simp at hi;subst hi
     exact⟨⟨true,a,(vs.length:Nat),[]⟩,by simp,rfl⟩
   ·rcases List.mem_append.1 q with q|q
    ·exact g.np q
    ·simp at q;omega
   ·have:=g.bb b hb
    simp;omega
   ·rw[List.nodup_append]
    exact⟨g.vn,by simp,fun a ha b hb=>by simp at hb;subst hb;intro e;have:=g.vs_lt a ha;rw[g.len]at this;omega⟩
   ·rcases dP h with h|⟨rfl,rfl⟩
    ·obtain⟨x,a1,a2⟩:=g.vo k v h
     exact⟨x,cD a1,a2⟩
    ·exact⟨⟨true,a,(vs.length:Nat),[]⟩,by simp,rfl⟩
  ·refine⟨⟨[H.length],rfl,fun o ho=>by simp at ho;omega⟩,⟨[],by simp,fun _ h=>nomatch h⟩,⟨_,rfl⟩,⟨_,rfl⟩,⟨_,rfl⟩,by simp,by simp;omega,k4,fun b n e=>?_⟩
   rcases nb b n e with h|h
   ·exact .inl h
   ·exact .inr (by omega)
  ·have hin:a∉vN N vs:=fun h=>by
    obtain⟨v,h1,h2⟩:=List.mem_map.1 h
    have:=List.find?_eq_none.1 hf v h1
    exact this (by simp[h2])
   simp only[BD,dO]
   rw[if_pos ⟨hv,hin⟩]
   have e1:=LP [⟨true,a,(vs.length:Nat),[]⟩] g.vs_lN
   unfold vN at e1 ⊢
   rw[List.map_append,e1]
   congr 1
   simp[gH]
mutual
def FZ(isV:af->Bool):Ty->Prop
 |.mk n xs=>xs.length<=16/\(isV n=true->xs=[])/\qC isV xs
def qC(isV:af->Bool):List Ty->Prop
 |[]=>True
 |t::r=>FZ isV t/\qC isV r
end
theorem JB(o c:Nat)(κ:List D->ah):ai 1 (.ptr o c) κ=κ [.ptr o c]:=rfl
theorem Xx(v:Bool)(n:af)(o:Int)(d k x:D)(κ:List D->ah):az (fH v n o d k) 3 [x] κ=κ (fH v n o x k):=rfl
theorem bM.lt{H:DH}{d:D}{l:List Nat}(h:bM H d l){b n:Nat}(e:d=.buf 1 b n):b<H.length/\∃ st cp l,H[b]? = some (.buf 1 st cp l):=by
 rcases h with⟨rfl,_⟩|⟨o',st,cp,rfl,hb⟩
 ·cases e
 ·cases e;exact⟨ao hb,_,_,_,hb⟩
structure Ze(kind:af->Int)(isV:af->Bool)(H0 H:DH)(p mo o s:Nat)(nm:af)(d dl0 dl:D)(os0 os bs0 bs:List Nat)(N0 N:List aH)(T0 T:List Ty)(vs0 vs ks:List Nat)(pre:List Ty)(k:Nat):Prop where
 g:GT isV H p mo dl os bs N T vs
 e:Lz H0 H p mo dl0 dl os0 os bs0 bs N0 N T0 T vs0 vs k
 ho:H[o]? = some (.cells s (fH false nm 0 d .nilptr))
 hd:bM H d (ks.map (oN os))
 ha:∀ a∈ks,a<N.length
 ht:ks.map (fun a=>T[a]?)=pre.map some
 no:o∉os
 nb:o∉bs
 np:o≠p
 o0:H0.length<=o
 b1:∀ b n,d=.buf 1 b n->b∉bs/\H0.length<=b/\∀ n,dl≠.buf 1 b n
 cv:Cv N0 N ks
 vq:vN N vs=dO kind pre (vN N0 vs0)
mutual
theorem Iq{kind:af->Int}(K:FW kind):∀(t:Ty) (H:DH) (p mo:Nat) (dl:D) (os bs:List Nat) (N:List aH) (T:List Ty) (vs:List Nat),GT (fun n=>kind n==4) H p mo dl os bs N T vs->FZ (fun n=>kind n==4) t->N.length+bE t<1000000 ->
 ∃ H' dl' os' bs' N' T' vs' i,ay 23 [.ptr p 0,.agg (cG t)] H=ret (.ptr (oN os' i) 0) H'/\GT (fun n=>kind n==4) H' p mo dl' os' bs' N' T' vs'/\T'[i]? = some t/\Lz H H' p mo dl dl' os os' bs bs' N N' T T' vs vs' (bE t)/\Cv N N' [i]/\vN N' vs'=BD kind t (vN N vs)
 |.mk n xs,H,p,mo,dl,os,bs,N,T,vs,g,hw,hN=>by
  simp only[FZ]at hw
  obtain⟨w1,w2,w3⟩:=hw
  simp only[bE]at hN
  cases hv:kind n==4 with
  |true =>
   obtain rfl:=w2 hv
   obtain⟨H',dl',os',N',T',vs',i,r1,r2,r3,r4,r5,r6⟩:=Ss K g hv (by omega) (aM [])
   exact⟨H',dl',os',bs,N',T',vs',i,r1,r2,r3,by simpa[bE,bE.tszs]using r4,r5,r6⟩
  |false =>
   have hl:∀ o∈os,o<H.length:=fun o ho=>by
    obtain⟨i,hi⟩:=List.getElem?_of_mem ho
    obtain⟨s,d,h1,_⟩:=g.ob i _ (List.getElem?_eq_getElem (by rw[<- g.len];exact ao hi))
    rw[show oN os i=o by unfold oN;rw[hi];rfl]at h1
    exact ao h1
   obtain⟨s,hp⟩:=g.pg
   have g':GT (fun n=>kind n==4) (H++[.cells 0 (fH false n 0 .nilrow .nilptr)]) p mo dl os bs N T vs :=
    g.chg (fun o ho=>List.getElem?_append_left (hl o ho)) (fun o ho=>List.getElem?_append_left (g.bb o ho)) ⟨s,cW hp⟩ (fun o n e=>List.getElem?_append_left (g.al.lt e).1) (List.getElem?_append_left (ao g.mp)) (by simp)
   have e0:=Lz.refl H p mo dl os bs N T vs
   have e':Lz H (H++[.cells 0 (fH false n 0 .nilrow .nilptr)]) p mo dl dl os os bs bs N N T T vs vs 0:={ e0 with elen:=by simp,efr:=fun o ho _ _ _=>List.getElem?_append_left ho }
   have I:Ze kind (fun n=>kind n==4) H (H++[.cells 0 (fH false n 0 .nilrow .nilptr)]) p mo H.length 0 n .nilrow dl dl os os bs bs N N T T vs vs [] [] 0 :=
    ⟨g',e',bk _ _,.inl ⟨rfl,rfl⟩,fun _ h=>(nomatch h),rfl,fun h=>Nat.lt_irrefl _ (hl _ h),fun h=>Nat.lt_irrefl _ (g.bb _ h),fun q=>by have:=ao hp;omega,Nat.le_refl _,fun _ _ e=>(by cases e),.refl _ _,rfl⟩
   obtain⟨H',dl',os',bs',N',T',vs',i,r1,r2,r3,r4,r5,r6⟩:=zX K n hv xs w1 xs [] H _ p mo H.length 0 .nilrow dl dl os os bs bs N N T T vs vs [] 0 I rfl w3 (by omega)
   have hk:0+(1+bE.tszs xs)=bE (.mk n xs):=by simp only[bE];omega
   rw[hk]at r4
   refine⟨H',dl',os',bs',N',T',vs',i,ev (by simp only[cG];exact Yk) ?_,r2,r3,r4,r5,by simp only[BD];rw[if_neg (fun q=>by rw[hv]at q;cases q.1)];exact r6⟩
   rw[aw (vA K n H),hv]
   simp only[ct,Bool.not_false,ak,cond_true]
   rw[aT]
   exact r1
theorem zX{kind:af->Int}(K:FW kind)(nm:af)(hv:(kind nm==4)=false)(xs:List Ty)(h16:xs.length<=16):∀(l pre:List Ty) (H0 H:DH) (p mo o s:Nat) (d dl0 dl:D) (os0 os bs0 bs:List Nat) (N0 N:List aH) (T0 T:List Ty) (vs0 vs ks:List Nat) (k:Nat),
 Ze kind (fun n=>kind n==4) H0 H p mo o s nm d dl0 dl os0 os bs0 bs N0 N T0 T vs0 vs ks pre k->xs=pre++l->qC (fun n=>kind n==4) l->N.length+bE.tszs l<1000000 ->
 ∃ H' dl' os' bs' N' T' vs' i,ae am 23 200004 [.g (.ptr p 0),.g (.ptr o 0),.g (.row 2 (aM xs)),.n (xs.length:Nat),.n (pre.length:Nat)] [] H=ret (.ptr (oN os' i) 0) H'/\GT (fun n=>kind n==4) H' p mo dl' os' bs' N' T' vs'/\T'[i]? = some (.mk nm xs)/\Lz H0 H' p mo dl0 dl' os0 os' bs0 bs' N0 N' T0 T' vs0 vs' (k+(1+bE.tszs l))/\Cv N0 N' [i]/\vN N' vs'=dO kind xs (vN N0 vs0)
 |[],pre,H0,H,p,mo,o,s,d,dl0,dl,os0,os,bs0,bs,N0,N,T0,T,vs0,vs,ks,k,I,e,hw,hN=>by
  have hks:ks.length=pre.length:=by have:=congrArg List.length I.ht;simpa using this
  have hxs:xs=pre:=by rw[e];simp
  obtain⟨B,hB1,hB2⟩:∃ B:List Nat,(∀ b n,d=.buf 1 b n->b∈B)/\∀ b∈B,∃ n,d=.buf 1 b n:=by
   rcases I.hd with⟨rfl,_⟩|⟨b,st,cp,rfl,hb⟩
   ·exact⟨[],(fun _ _ e=>by cases e),(fun _ h=>nomatch h)⟩
   ·exact⟨[b],⟨fun _ _ e=>by cases e;simp,fun b' h=>by simp at h;subst h;exact⟨_,rfl⟩⟩⟩
  have g2:=I.g.snocC (o:=o) hv I.ho I.hd I.no I.np I.ha (by rw[hks,<- hxs];exact h16) I.ht hB1 fun b hb=>by
   obtain⟨n,e⟩:=hB2 b hb
   exact⟨(I.hd.lt e).1,(I.b1 b n e).2.2⟩
  refine⟨H,dl,os++[o],bs++B,_,_,vs,N.length,cM (yd) ?_,g2,by rw[<- I.g.gn.len,hxs];simp,?_,I.cv.con false nm 0,by rw[LP _ I.g.vs_lN,hxs];exact I.vq⟩
  ·have hlt:decide ((pre.length:Int)<(xs.length:Int))=false:=by rw[hxs];simp
   rw[hlt,cond_false,<- I.g.len,sX]
  ·obtain⟨⟨X1,q1,x1⟩,⟨X2,q2,x2⟩,⟨X3,q3⟩,⟨X4,q4⟩,q5,q6,q7,q8,q9⟩:=I.e
   refine⟨⟨X1++[o],by rw[q1];simp,fun o' ho'=>?_⟩,⟨X2++B,by rw[q2];simp,fun b hb=>?_⟩,⟨X3++[⟨false,nm,0,ks⟩],by rw[q3];simp⟩,⟨X4++[.mk nm pre],by rw[q4];simp⟩,q5,by simp[bE.tszs];omega,q7,q8,q9⟩
   ·rcases List.mem_append.1 ho' with h|h
    ·exact x1 o' h
    ·simp at h;rw[h];exact I.o0
   ·rcases List.mem_append.1 hb with h|h
    ·exact x2 b h
    ·obtain⟨n,e⟩:=hB2 b h
     exact(I.b1 b n e).2.1
 |t::l,pre,H0,H,p,mo,o,s,d,dl0,dl,os0,os,bs0,bs,N0,N,T0,T,vs0,vs,ks,k,I,e,hw,hN=>by
  simp only[qC]at hw
  simp only[bE.tszs]at hN
  obtain⟨H1,dl1,os1,bs1,N1,T1,vs1,i,r1,g1,r3,e1,c1,q1⟩:=Iq K t H p mo dl os bs N T vs I.g hw.1 (by omega)
  have hks:ks.length=pre.length:=by have:=congrArg List.length I.ht;simpa using this
  have hxl:xs.length=pre.length+(l.length+1):=by rw[e];simp
  have hoH:=ao I.ho
  have omo:o≠mo:=fun q=>by have:=I.ho;rw[q,I.g.mp]at this;cases this
  have dlo:∀ n,dl≠.buf 1 o n:=fun n q=>by obtain⟨_,st,cp,l,hb⟩:=I.g.al.lt q;rw[I.ho]at hb;cases hb
  have o1:H1[o]? = some (.cells s (fH false nm 0 d .nilptr)):=by rw[e1.efr o hoH I.np omo dlo,I.ho]
  have dk:∀ b n,d=.buf 1 b n->H1[b]? = H[b]?/\b<H.length:=fun b n q=>by
   obtain⟨hbl,st,cp,l,hb⟩:=I.hd.lt q
   obtain⟨s',hp⟩:=I.g.pg
   exact⟨e1.efr b hbl (fun q'=>by rw[q',hp]at hb;cases hb) (fun q'=>by rw[q',I.g.mp]at hb;cases hb) (I.b1 b n q).2.2,hbl⟩
  have hko:∀ a∈ks,a<os.length:=fun a h=>by rw[I.g.len];exact I.ha a h
  have osm:ks.map (oN os1)=ks.map (oN os):=by
   obtain⟨X,q,_⟩:=e1.eos
   rw[q];exact fR hko
  have d1:bM H1 d (ks.map (oN os1)):=by rw[osm];exact I.hd.chg fun b n q=>(dk b n q).1
  obtain⟨d2,H2,u1,u2,u3,u4,⟨b2,n2,hd2,hb2⟩,u6⟩:=UH d1 (by rw[List.length_map];omega) (oN os1 i)
  have kp:∀ x:Nat,x<H1.length->(∀ n,d≠.buf 1 x n)->x≠o->(H2.set o (.cells (s+1) (fH false nm 0 d2 .nilptr)))[x]? = H1[x]?:=fun x h1 h2 h3=>by
   rw[List.getElem?_set_ne (fun q=>h3 q.symm),u4 x h1 h2]
  have o2:H2[o]? = some (.cells s (fH false nm 0 d .nilptr)):=by
   rw[u4 o (ao o1) (fun n q=>by obtain⟨_,st,cp,l,hb⟩:=I.hd.lt q;rw[I.ho]at hb;cases hb),o1]
  have no1:o∉os1:=fun h=>by
   obtain⟨X,q,x⟩:=e1.eos
   rw[q]at h
   rcases List.mem_append.1 h with h|h
   ·exact I.no h
   ·have:=x o h;omega
  have nb1:o∉bs1:=fun h=>by
   obtain⟨X,q,x⟩:=e1.ebs
   rw[q]at h
   rcases List.mem_append.1 h with h|h
   ·exact I.nb h
   ·have:=x o h;omega
  have db:∀ b n,d=.buf 1 b n->b∉bs1:=fun b n q h=>by
   obtain⟨X,q',x⟩:=e1.ebs
   rw[q']at h
   rcases List.mem_append.1 h with h|h
   ·exact(I.b1 b n q).1 h
   ·have:=x b h;have:=(dk b n q).2;omega
  have dd:∀ b n,d=.buf 1 b n->∀ n',dl1≠.buf 1 b n':=fun b n q n' q'=>by
   rcases e1.edl b n' q' with⟨n2,h⟩|h
   ·exact(I.b1 b n q).2.2 n2 h
   ·have:=(dk b n q).2;omega
  obtain⟨sp,hp1⟩:=g1.pg
  have cellsNe:∀ x:Nat,(∃ s c,H1[x]? = some (.cells s c))->∀ n,d≠.buf 1 x n:=fun x ⟨s,c,h⟩ n q=>by
   obtain⟨_,st,cp,l,hb⟩:=d1.lt q
   rw[h]at hb;cases hb
  have osc:∀ x∈os1,∃ s c,H1[x]? = some (.cells s c):=fun x hx=>by
   obtain⟨j,hj⟩:=List.getElem?_of_mem hx
   obtain⟨s,d,h1,_⟩:=g1.ob j _ (List.getElem?_eq_getElem (by rw[<- g1.len];exact ao hj))
   rw[show oN os1 j=x by unfold oN;rw[hj];rfl]at h1
   exact⟨s,_,h1⟩
  have g2:GT (fun n=>kind n==4) (H2.set o (.cells (s+1) (fH false nm 0 d2 .nilptr))) p mo dl1 os1 bs1 N1 T1 vs1:=by
   refine g1.chg (fun x hx=>?_) (fun x hx=>?_) ⟨sp,?_⟩ (fun x n q=>?_) ?_ (by simp;exact u3)
   ·obtain⟨s,c,h⟩:=osc x hx
    exact kp x (ao h) (cellsNe x ⟨s,c,h⟩) fun q=>no1 (q▸hx)
   ·exact kp x (g1.bb x hx) (fun n q=>db x n q hx) fun q=>nb1 (q▸hx)
   ·rw[kp p (ao hp1) (cellsNe p ⟨_,_,hp1⟩) fun q=>I.np q.symm,hp1]
   ·obtain⟨h1,st,cp,l,hb⟩:=g1.al.lt q
    exact kp x h1 (fun n' q'=>dd x n' q' n q) fun q'=>by rw[q',o1]at hb;cases hb
   ·exact kp mo (ao g1.mp) (fun n q=>by obtain⟨_,st,cp,l,hb⟩:=d1.lt q;rw[g1.mp]at hb;cases hb) fun q=>omo q.symm
  have i1:i<N1.length:=by rw[<- g1.gn.len];exact ao r3
  have I2:Ze kind (fun n=>kind n==4) H0 (H2.set o (.cells (s+1) (fH false nm 0 d2 .nilptr))) p mo o (s+1) nm d2 dl0 dl1 os0 os1 bs0 bs1 N0 N1 T0 T1 vs0 vs1 (ks++[i]) (pre++[t]) (k+bE t):=by
   have e2:=I.e.trans e1
   refine⟨g2,{ e2 with elen:=by have:=e2.elen;simp;omega,efr:=fun x h1 h2 h3 h4=>?_ },aN _ o2,?_,fun a h=>?_,?_,no1,nb1,I.np,I.o0,fun b n q=>?_,I.cv.snoc c1 e1.eN,by rw[q1,I.vq,oz]⟩
   ·have l0:=I.e.elen
    have l1:=e1.elen
    have l2:=I.o0
    rw[kp x (by omega) (fun n q=>by have:=(I.b1 x n q).2.1;omega) (by omega),e2.efr x h1 h2 h3 h4]
   ·rw[List.map_append]
    refine bM.chg (H:=H2) u2 fun b n q=>List.getElem?_set_ne fun q'=>?_
    obtain⟨_,st,cp,l,hb⟩:=u2.lt q
    rw[<- q',o2]at hb;cases hb
   ·rcases List.mem_append.1 h with h|h
    ·obtain⟨X,q⟩:=e1.eN
     have:=I.ha a h
     rw[q];simp;omega
    ·simp at h;rw[h];exact i1
   ·obtain⟨X,q⟩:=e1.eT
    rw[List.map_append,List.map_append]
    congr 1
    ·rw[<- I.ht,q]
     refine List.map_congr_left fun a ha=>List.getElem?_append_left ?_
     rw[I.g.gn.len];exact I.ha a ha
    ·simp[r3]
   ·rw[hd2]at q;cases q
    rcases hb2 with⟨n',q⟩|q
    ·exact⟨db _ n' q,(I.b1 _ n' q).2.1,dd _ n' q⟩
    ·refine⟨fun h=>by have:=g1.bb _ h;omega,by have:=I.e.elen;have:=e1.elen;omega,fun n q'=>?_⟩
     have:=(g1.al.lt q').1
     omega
  obtain⟨H',dl',os',bs',N',T',vs',j,w1,w2,w3,w4,w5,w6⟩:=zX K nm hv xs h16 l (pre++[t]) H0 _ p mo o (s+1) d2 dl0 dl1 os0 os1 bs0 bs1 N0 N1 T0 T1 vs0 vs1 (ks++[i]) (k+bE t) I2 (by rw[e];simp) hw.2 (by have:=e1.ek;omega)
  have hk:k+(1+bE.tszs (t::l))=k+bE t+(1+bE.tszs l):=by simp only[bE.tszs];omega
  refine⟨H',dl',os',bs',N',T',vs',j,cM (yd) ?_,w2,w3,(by rw[hk];exact w4),w5,w6⟩
  have hlt:decide ((pre.length:Int)<(xs.length:Int))=true:=by rw[hxl];simp;omega
  have h2:(aM xs)[pre.length]? = some (cG t):=by rw[e];exact fq _ _ _
  have hw2:cq ((pre.length:Int)+1)=(((pre++[t]).length:Nat):Int):=by
   rw[aS (by omega)];simp
  obtain⟨tn,ts⟩:=t
  simp only[cG]at h2 r1
  rw[hlt,cond_true,aP,aI h2]
  simp only[aj,ar]
  rw[LF r1,ac (nZ o1 (fun H3 h=>by simp at h;subst h;exact I.ho))]
  simp only[fH,aj,ar]
  rw[JB,u1,hd2,YS,ac o2,Xx,<- hd2,hw2]
  exact w1
end
def fF(kind:af->Int)(n:af)(k:Nat):Bool:=if n==[73,110,116] then k==0 else if n==[45,62] then k==2 else if n==[44] then decide (2<=k)&&decide (k<=4)else if kind n==4&&k==0 then true else kind n==3&&decide (k<=16)
mutual
def zA(kind:af->Int)(d:Nat):Ty->Nat->Option Nat
 |.mk n xs,c=>if fF kind n xs.length=true/\c+1<=2000/\d<=100 then rC kind (d+1) xs (c+1)else none
def rC(kind:af->Int)(d:Nat):List Ty->Nat->Option Nat
 |[],c=>some c
 |t::r,c=>match zA kind d t c with
  |some c'=>rC kind d r c'
  |none=>none
end
def Dq(H:DH)(p:Nat)(x:D)(t:Ty):Prop:=x=.eptr (cG t) 0\/∃ o s,x=.ptr o 0/\o≠p/\H[o]? = some (.cells s (cG t))
theorem ZK(cs:List D)(c:Nat)(H:DH)(κ:D->ah):bQ ab 9 (.eptr cs c) H κ=aA cs c κ:=by kernel_rfl
theorem XG(o c:Nat)(H:DH)(κ:D->ah):bQ ab 9 (.ptr o c) H κ=au H o fun _ cs=>aA cs c κ:=by kernel_rfl
theorem XI(cs:List D)(c:Nat)(H:DH)(κ:D->ah):bQ ab 22 (.eptr cs c) H κ=aA cs c κ:=by kernel_rfl
theorem XH(o c:Nat)(H:DH)(κ:D->ah):bQ ab 22 (.ptr o c) H κ=au H o fun _ cs=>aA cs c κ:=by kernel_rfl
theorem Dq.n{H:DH}{p:Nat}{x:D}{n:af}{xs:List Ty}(h:Dq H p x (.mk n xs))(κ:D->ah):(eR x fun a=>dz a 0 fun a=>bQ ab 9 a H κ)=κ (.str n):=by
 rcases h with rfl|⟨o,s,rfl,_,h⟩
 ·simp only[eR,dz,ZK,cG,Nat.add_zero,aj]
 ·simp only[eR,dz,XG,Nat.add_zero,ac h,cG,aj]
theorem Dq.a{H:DH}{p:Nat}{x:D}{n:af}{xs:List Ty}(h:Dq H p x (.mk n xs))(κ:D->ah):(eR x fun a=>dz a 1 fun a=>bQ ab 22 a H κ)=κ (.row 2 (aM xs)):=by
 rcases h with rfl|⟨o,s,rfl,_,h⟩
 ·simp only[eR,dz,XI,cG,Nat.zero_add,aj,ar]
 ·simp only[eR,dz,XH,Nat.zero_add,ac h,cG,aj,ar]
theorem Dq.set{H:DH}{p:Nat}{x:D}{t:Ty}(h:Dq H p x t)(y:DB):Dq (H.set p y) p x t:=by
 rcases h with rfl|⟨o,s,rfl,hn,h⟩
 ·exact .inl rfl
 ·exact .inr ⟨o,s,rfl,hn,by rw[List.getElem?_set_ne (fun q=>hn q.symm),h]⟩
theorem RQ(l:dB)(H:DH)(κ:D->ah):bJ ab 22 (.row 2 l) H κ=κ (.i l.length):=by kernel_rfl
theorem ZE:ab.underlying 22=some (.slice 27):=by kernel_rfl
theorem Xc:size ab 27=some 2:=by kernel_rfl
theorem XW{l:dB}{i:Nat}{cs:List D}(h:l[i]? = some cs)(κ:D->ah):aq ab 22 (.row 2 l) (.i i) κ=κ (.eptr cs 0):=by
 rw[aq,ZE]
 simp only[Xc,mI,Nat.beq_refl,cond_true,aP,aI h]
theorem Ie{n:Nat}(h:n<2^62):cq ((n:Int)+1)=((n+1:Nat):Int):=aS h
mutual
theorem NN{kind:af->Int}(K:FW kind):∀(t:Ty) (H:DH) (x:D) (d c p s:Nat),Dq H p x t->H[p]? = some (.cells s [.i (c:Nat)])->c<=2000->d<=101->t.ok ->
 ∃ s' c':Nat,ay 22 [x,.i (d:Nat),.ptr p 0] H=ret (.bool (zA kind d t c).isSome) (H.set p (.cells s' [.i (c':Nat)]))/\∀ k,zA kind d t c=some k->c'=k/\k<=2000
 |.mk n xs,H,x,d,c,p,s,hx,hp,hc,hd,hok=>by
  simp only[Ty.ok]at hok
  have hx1:=hx.set (.cells (s+1) [.i ((c+1:Nat):Int)])
  have hp1:=aN (.cells (s+1) [.i ((c+1:Nat):Int)]) hp
  have hl:(aM xs).length=xs.length:=aT xs
  have o1:∀(v w:Int) (κ:List D->ah),az [D.i v] 0 [.i w] κ=κ [.i w]:=fun _ _ _=>rfl
  have f1:∀ z,ae am 22 12 [.g x,.n (d:Nat),.g (.ptr p 0),.g (.bool (fF kind n xs.length))] [] (H.set p (.cells (s+1) [.i ((c+1:Nat):Int)]))=z->ay 22 [x,.i (d:Nat),.ptr p 0] H=z:=fun z hz=>by
   refine ev (f22) ?_
   rw[ac hp,aj,eO,Ie (by omega),YR,ac hp,o1]
   dsimp only
   rw[hx1.a,RQ,hx1.n,hl,<- hz,lj]
   unfold fF
   by_cases e1:n=[73,110,116]
   ·have:(n==[73,110,116])=true:=by rw[e1];rfl
    simp only[this,ak,cond_true,if_true,di]
    rw[show(((xs.length:Nat):Int)==0)=(xs.length==0)from by rw[Bool.eq_iff_iff];simp]
   ·have:(n==[73,110,116])=false:=by simpa using e1
    rw[this]
    simp only[ak,cond_false,Bool.false_eq_true,if_false,lj]
    by_cases e2:n=[45,62]
    ·have:(n==[45,62])=true:=by rw[e2];rfl
     simp only[this,ak,cond_true,if_true,di]
     rw[show(((xs.length:Nat):Int)==2)=(xs.length==2)from by rw[Bool.eq_iff_iff];simp;omega]
    ·have:(n==[45,62])=false:=by simpa using e2
     rw[this]
     simp only[ak,cond_false,Bool.false_eq_true,if_false]
     by_cases e3:n=[44]
     ·have:(n==[44])=true:=by rw[e3];rfl
      simp only[this,ak,cond_true,if_true,vG,JJ]
      by_cases e4:2<=xs.length
      ·have h1:decide ((xs.length:Int)>=2)=true:=by simp;omega
       have h2:decide (2<=xs.length)=true:=by simpa using e4
       rw[h1,h2]
       simp only[cond_true,Bool.true_and]
       rw[show decide (((xs.length:Nat):Int)<=4)=decide (xs.length<=4)from by rw[Bool.eq_iff_iff];simp;omega]
      ·have h1:decide ((xs.length:Int)>=2)=false:=by simp;omega
       have h2:decide (2<=xs.length)=false:=by simpa using e4
       rw[h1,h2]
       simp only[cond_false,Bool.false_and]
     ·have:(n==[44])=false:=by simpa using e3
      rw[this]
      simp only[ak,cond_false,Bool.false_eq_true,if_false]
      rw[hx1.n,aw (vA K n _)]
      have c2:(eR x fun b=>dz b 0 fun b=>bQ ab 9 b (H.set p (.cells (s+1) [.i ((c+1:Nat):Int)])) fun b=>C am 55 [b] (H.set p (.cells (s+1) [.i ((c+1:Nat):Int)])) fun b H_1=>brD b (av ab .leq 3 true (.i (xs.length:Nat)) (.i 16) fun a=>ae am 22 12 [.g x,.n (d:Nat),.g (.ptr p 0),.g a] [] H_1) (ae am 22 12 [.g x,.n (d:Nat),.g (.ptr p 0),.g (.bool false)] [] H_1))=ae am 22 12 [.g x,.n (d:Nat),.g (.ptr p 0),.g (.bool (kind n==3&&decide (xs.length<=16)))] [] (H.set p (.cells (s+1) [.i ((c+1:Nat):Int)])):=by
       rw[hx1.n,aw (Qu K n _),ak,JJ]
       cases kind n==3 with
       |false=>simp only[cond_false,Bool.false_and]
       |true =>
        simp only[cond_true,Bool.true_and]
        rw[show decide (((xs.length:Nat):Int)<=16)=decide (xs.length<=16)from by rw[Bool.eq_iff_iff];simp;omega]
      cases hv:kind n==4 with
      |false =>
       simp only[ak,cond_false,Bool.false_and,Bool.false_eq_true,if_false]
       exact c2
      |true =>
       simp only[ak,cond_true,Bool.true_and,di]
       by_cases e4:xs.length=0
       ·have h1:(((xs.length:Nat):Int)==0)=true:=by simp[e4]
        have h2:(xs.length==0)=true:=by simp[e4]
        rw[h1,h2]
        simp only[cond_true,if_true]
       ·have h1:(((xs.length:Nat):Int)==0)=false:=by simp;intro q;rw[q]at e4;exact e4 rfl
        have h2:(xs.length==0)=false:=by simp;intro q;rw[q]at e4;exact e4 rfl
        rw[h1,h2]
        simp only[cond_false,Bool.false_eq_true,if_false]
        exact c2
  unfold zA
  by_cases h1:fF kind n xs.length=true
  ·by_cases h2:c+1<=2000
   ·by_cases h3:d<=100
    ·rw[if_pos ⟨h1,h2,h3⟩]
     obtain⟨s',c',r1,r2⟩:=Ew K n xs hok.1 xs [] (H.set p (.cells (s+1) [.i ((c+1:Nat):Int)])) x d (c+1) p (s+1) hx1 hp1 h2 h3 rfl hok.2
     refine⟨s',c',f1 _ (cM (CJ) ?_),r2⟩
     rw[h1]
     have g1:decide ((((c+1:Nat)):Int)>2000)=false:=by simp;omega
     have g2:decide (((d:Nat):Int)>100)=false:=by simp;omega
     simp only[Bool.not_true,cond_false]
     rw[ac hp1,aj,ff,g1]
     simp only[ak,cond_false]
     rw[g2,cond_false,hx1.a,RQ,hl]
     rw[List.set_set]at r1
     exact r1
    ·rw[if_neg (fun q=>h3 q.2.2)]
     refine⟨s+1,c+1,f1 _ (cM (CJ) ?_),fun k e=>by cases e⟩
     rw[h1]
     have g1:decide ((((c+1:Nat)):Int)>2000)=false:=by simp;omega
     have g2:decide (((d:Nat):Int)>100)=true:=by simp;omega
     simp only[Bool.not_true,cond_false]
     rw[ac hp1,aj,ff,g1]
     simp only[ak,cond_false]
     rw[g2,cond_true]
     rfl
   ·rw[if_neg (fun q=>h2 q.2.1)]
    refine⟨s+1,c+1,f1 _ (cM (CJ) ?_),fun k e=>by cases e⟩
    rw[h1]
    have g1:decide ((((c+1:Nat)):Int)>2000)=true:=by simp;omega
    simp only[Bool.not_true,cond_false]
    rw[ac hp1,aj,ff,g1]
    simp only[ak,cond_true]
    rfl
  ·rw[if_neg (fun q=>h1 q.1)]
   refine⟨s+1,c+1,f1 _ (cM (CJ) ?_),fun k e=>by cases e⟩
   have:fF kind n xs.length=false:=by simpa using h1
   rw[this]
   simp only[Bool.not_false,cond_true]
   rfl
theorem Ew{kind:af->Int}(K:FW kind)(n:af)(xs:List Ty)(h62:xs.length<2^62):∀(l pre:List Ty) (H:DH) (x:D) (d c p s:Nat),Dq H p x (.mk n xs)->H[p]? = some (.cells s [.i (c:Nat)])->c<=2000->d<=100->xs=pre++l->Ty.oks l ->
 ∃ s' c':Nat,ae am 22 200015 [.g x,.n (d:Nat),.g (.ptr p 0),.n (xs.length:Nat),.n (pre.length:Nat)] [] H=ret (.bool (rC kind (d+1) l c).isSome) (H.set p (.cells s' [.i (c':Nat)]))/\∀ k,rC kind (d+1) l c=some k->c'=k/\k<=2000
 |[],pre,H,x,d,c,p,s,hx,hp,hc,hd,e,hok=>by
  refine⟨s,c,cM (ye) ?_,fun k e=>by cases e;exact⟨rfl,hc⟩⟩
  have hlt:decide ((pre.length:Int)<(xs.length:Int))=false:=by rw[e];simp
  rw[hlt,cond_false,XF hp]
  rfl
 |t::l,pre,H,x,d,c,p,s,hx,hp,hc,hd,e,hok=>by
  simp only[Ty.oks]at hok
  have hlt:decide ((pre.length:Int)<(xs.length:Int))=true:=by rw[e];simp;omega
  have h2:(aM xs)[pre.length]? = some (cG t):=by rw[e];exact fq _ _ _
  have hw2:cq ((pre.length:Int)+1)=(((pre++[t]).length:Nat):Int):=by
   rw[aS (by
    have:xs.length=pre.length+(l.length+1):=by rw[e];simp
    omega)];simp
  obtain⟨s1,c1,r1,r2⟩:=NN K t H (.eptr (cG t) 0) (d+1) c p s (.inl rfl) hp hc (by omega) hok.1
  have st:∀ z,(cond (zA kind (d+1) t c).isSome (ae am 22 200015 [.g x,.n (d:Nat),.g (.ptr p 0),.n (xs.length:Nat),.n ((pre++[t]).length:Nat)] [] (H.set p (.cells s1 [.i (c1:Nat)]))) (ret (.bool false) (H.set p (.cells s1 [.i (c1:Nat)]))))=z->ae am 22 200015 [.g x,.n (d:Nat),.g (.ptr p 0),.n (xs.length:Nat),.n (pre.length:Nat)] [] H=z:=fun z hz=>by
   refine cM (ye) ?_
   rw[hlt,cond_true,hx.a,XW h2,Ie (by omega),aw r1]
   simp only[ct,ak]
   rw[hw2,<- hz]
   cases (zA kind (d+1) t c).isSome<;>simp only[Bool.not_true,Bool.not_false,cond_true,cond_false]
  unfold rC
  cases q:zA kind (d+1) t c with
  |none =>
   refine⟨s1,c1,st _ ?_,fun k e=>by cases e⟩
   rw[q]
   rfl
  |some c2 =>
   obtain⟨e1,e2⟩:=r2 c2 q
   subst e1
   obtain⟨s3,c3,t1,t2⟩:=Ew K n xs h62 l (pre++[t]) (H.set p (.cells s1 [.i (c1:Nat)])) x d c1 p s1 (hx.set _) (aN _ hp) e2 hd (by rw[e];simp) hok.2
   refine⟨s3,c3,st _ ?_,t2⟩
   rw[q,Option.isSome_some,cond_true]
   rw[List.set_set]at t1
   exact t1
end
def ee(kind:af->Int)(t:Ty):Nat:=(zA kind 1 t 0).getD 0
theorem PE{kind:af->Int}(K:FW kind)(t:Ty)(H:DH)(hok:t.ok):∃ X,ay 7 [.agg (cG t)] H=ret (.i (ee kind t:Nat)) (H++X):=by
 obtain⟨n,xs⟩:=t
 have o1:∀(v w:Int) (κ:List D->ah),az [D.i v] 0 [.i w] κ=κ [.i w]:=fun _ _ _=>rfl
 have hl:(H++[DB.cells 0 (cG (.mk n xs))]).length=H.length+1:=by simp
 have a1:(H++[DB.cells 0 (cG (.mk n xs))]++[DB.cells (0+1) [.i ((0:Nat):Int)]])[H.length]? = some (.cells 0 (cG (.mk n xs))):=cW (bk _ _)
 have a2:(H++[DB.cells 0 (cG (.mk n xs))]++[DB.cells (0+1) [.i ((0:Nat):Int)]])[H.length+1]? = some (.cells (0+1) [.i ((0:Nat):Int)]):=by rw[<- hl];exact bk _ _
 obtain⟨s',c',r1,r2⟩:=NN K (.mk n xs) _ (.ptr H.length 0) 1 0 (H.length+1) (0+1) (.inr ⟨H.length,0,rfl,by omega,a1⟩) a2 (by omega) (by omega) hok
 have hs:∀ y:DB,(H++[DB.cells 0 (cG (.mk n xs))]++[DB.cells (0+1) [.i ((0:Nat):Int)]]).set (H.length+1) y=H++[DB.cells 0 (cG (.mk n xs)),y]:=fun y=>by
  rw[<- hl,iO];simp
 refine⟨[DB.cells 0 (cG (.mk n xs)),.cells s' [.i (c':Nat)]],ev (by simp only[cG];exact f7) ?_⟩
 dsimp only
 rw[ac (bk _ _),o1,iO]
 simp only[cG]at hl r1
 rw[show((1:Nat):Int)=1 from rfl,show((0:Nat):Int)=0 from rfl]at r1
 rw[hl]
 rw[aw r1]
 simp only[ct,ak]
 have hs:=hs (.cells s' [.i (c':Nat)])
 simp only[cG]at hs
 rw[show((0:Nat):Int)=0 from rfl]at hs
 rw[hs]
 unfold ee
 cases q:zA kind 1 (.mk n xs) 0 with
 |none=>rfl
 |some k =>
  obtain⟨rfl,_⟩:=r2 k q
  simp only[Option.isSome_some,Bool.not_true,cond_false,Option.getD_some]
  rw[ac (show(H++[DB.cells 0 [.str n,.row 2 (aM xs)],.cells s' [.i (c':Nat)]])[H.length+1]? = some (.cells s' [.i (c':Nat)])from by rw[List.getElem?_append_right (by omega)];simp),aj]
  simp only[cG]
def Ac(H:DH)(b sz:Nat)(l:dB)(d:D):Prop:=(d=.nilrow/\l=[])\/∃ o,b<=o/\d=.buf sz o l.length/\H[o]? = some (.buf sz true false l)
structure UT(b:Nat)(H H':DH):Prop where
 len:H.length<=H'.length
 at':∀ o,o<b->H'[o]? = H[o]?
 nb:∀ o,o<H.length->(∀ st cp l,H[o]?≠some (.buf 2 st cp l))->H'[o]? = H[o]?
theorem Gy{m:Nat}(h:m<=4194304):aJ ab 27 m=true:=by
 have e:aJ ab 27 m=(Nat.ble (40*(m+Nat.div m 4+600)) 281474976710656&&Nat.ble m 4611686018427387904):=by kernel_rfl
 rw[e,Bool.and_eq_true]
 have h1:Nat.div m 4<=m:=Nat.div_le_self m 4
 exact⟨Nat.ble_eq_true_of_le (by omega),Nat.ble_eq_true_of_le (by omega)⟩
theorem Ac.add{H:DH}{b:Nat}{l:dB}{d:D}(h:Ac H b 2 l d)(hb:b<=H.length)(hl:l.length<4194304)(x:List D):∃ d' H',(∀ κ:D->DH->ah,cE (aJ ab 27) 2 d [x] H κ=κ d' H')/\Ac H' b 2 (l++[x]) d'/\UT b H H'/\∃ o n,d'=.buf 2 o n:=by
 rcases h with⟨rfl,rfl⟩|⟨o,ho,rfl,h⟩
 ·refine⟨.buf 2 H.length 1,H++[.buf 2 true false [x]],fun κ=>?_,.inr ⟨H.length,hb,rfl,bk _ _⟩,⟨by simp,fun o h=>List.getElem?_append_left (by omega),fun o h _=>List.getElem?_append_left h⟩,_,_,rfl⟩
  simp only[cE,List.length_singleton,Gy (show 1<=4194304 by decide),boK,cond_true]
  rfl
 ·refine⟨.buf 2 o (l++[x]).length,H.set o (.buf 2 true false (l++[x])),fun κ=>?_,.inr ⟨o,ho,rfl,aN _ h⟩,⟨by simp,fun o' h=>List.getElem?_set_ne (by omega),fun o' _ q=>List.getElem?_set_ne (fun e=>q _ _ _ (e▸h))⟩,_,_,rfl⟩
  have h4:=bH h (κ:=fun _ st cap l2=>boK (aJ ab 27 (l2.length+1)&&!(cap&&List.isEmpty [x])) (grow o 2 st cap l2 [x] H κ))
  simp only[cE,List.length_singleton,Gy (show 1<=4194304 by decide),boK,cond_true,Nat.beq_refl]
  refine Eq.trans h4 ?_
  rw[Gy (by omega)]
  simp only[List.isEmpty_cons,Bool.and_false,Bool.not_false,Bool.and_self,boK,cond_true,grow,cond_false]
  simp
theorem Ac.fz{H:DH}{b:Nat}{l:dB}{d:D}(h:Ac H b 2 l d):∃ H',(∀ κ:D->DH->ah,fK (.fz 2) d H κ=κ (.row 2 l) H')/\UT b H H':=by
 rcases h with⟨rfl,rfl⟩|⟨o,ho,rfl,h⟩
 ·exact⟨H,fun _=>rfl,Nat.le_refl _,fun _ _=>rfl,fun _ _ _=>rfl⟩
 ·refine⟨H.set o (.buf 2 false false l),fun κ=>?_,by simp,fun o' h=>List.getElem?_set_ne (by omega),fun o' _ q=>List.getElem?_set_ne (fun e=>q _ _ _ (e▸h))⟩
  rw[fK,bH h]
  rfl
mutual
def mM:Ty->Nat
 |.mk _ xs=>1+gc xs
def gc:List Ty->Nat
 |[]=>0
 |t::r=>max (mM t) (gc r)
end
structure Ep(H H':DH)(os:List Nat)(p:Nat):Prop where
 len:H.length<=H'.length
 at':∀ o:Nat,o<H.length->o∉os->o≠p->H'[o]? = H[o]?
theorem Ep.trans{H H' H'':DH}{os:List Nat}{p:Nat}(h:Ep H H' os p)(k:Ep H' H'' os p):Ep H H'' os p:=⟨Nat.le_trans h.len k.len,fun o h1 h2 h3=>by rw[k.at' o (Nat.lt_of_lt_of_le h1 h.len) h2 h3,h.at' o h1 h2 h3]⟩
theorem vO.ep{H H':DH}{os:List Nat}{p:Nat}(h:vO H H' os):Ep H H' os p:=⟨h.len,fun o h1 h2 _=>h.at' o h1 h2⟩
theorem cC.kp{H H':DH}{os:List Nat}{N:List aH}{L:Lk}(g:cC H os N L){b:Nat}(k:UT b H H'):cC H' os N L :=
 ⟨g.len,g.lenL,g.nd,fun i x hx=>by
  obtain⟨s,d,h1,h2⟩:=g.ob i x hx
  exact⟨s,d,by rw[k.nb _ (ao h1) (fun _ _ _ e=>by rw[h1]at e;cases e),h1],by
   rcases h2 with⟨rfl,e⟩|⟨o,st,cp,rfl,h⟩
   ·exact .inl ⟨rfl,e⟩
   ·exact .inr ⟨o,st,cp,rfl,by rw[k.nb _ (ao h) (fun _ _ _ e=>by rw[h]at e;cases e),h]⟩⟩,g.kid,g.lk,g.sm⟩
theorem cC.cnt{H:DH}{os:List Nat}{N:List aH}{L:Lk}(g:cC H os N L){p s:Nat}{c:List D}(hp:H[p]? = some (.cells s c))(hn:p∉os)(s':Nat)(c':List D):cC (H.set p (.cells s' c')) os N L/\Ep H (H.set p (.cells s' c')) os p :=
 ⟨⟨g.len,g.lenL,g.nd,fun i x hx=>by
  obtain⟨s,d,h1,h2⟩:=g.ob i x hx
  refine⟨s,d,?_,h2.set hp⟩
  rw[List.getElem?_set_ne (fun q=>hn (by rw[q];exact Ce (by rw[g.len];exact ao hx))),h1],g.kid,g.lk,g.sm⟩,by simp,fun o _ _ h=>List.getElem?_set_ne (fun q=>h q.symm)⟩
theorem ST{H:DH}{o s:Nat}{v:Bool}{n:af}{q:Int}{d k:D}(h:H[o]? = some (.cells s (fH v n q d k))):ay 28 [.ptr o 0] H=ret (.agg [.str n,.nilrow]) H:=by
 refine ev (f28) ?_
 rw[ac h]
 rfl
def YZ(H:DH)(os:List Nat)(N:List aH)(L:Lk)(p d c:Nat)(t:Ty)(w:ah):Prop :=
 ∃ H' L' s' c' t',w=ret (.agg (cG t')) H'/\cC H' os N L'/\mu N L L'/\Ep H H' os p/\H'[p]? = some (.cells s' [.i ((c':Nat):Int)])/\c'<=2001/\(c'<=2000->t'=t/\c'=c+bE t/\d+mM t<=101)/\(2000<c'->2000<c+bE t\/101<d+mM t)
mutual
theorem Ao:∀(t:Ty) (H:DH) (os:List Nat) (N:List aH) (L:Lk) (i p d c s:Nat),cC H os N L->(∀(i:Nat) (x:aH),N[i]? = some x->x.v=true->x.a=[])->Tr N L i t->H[p]? = some (.cells s [.i ((c:Nat):Int)])->p∉os->c<=2001->d<=101 ->
 YZ H os N L p d c t (ay 27 [.ptr (oN os i) 0,.i (d:Nat),.ptr p 0,.func 28 [] []] H)
 |.mk n xs,H,os,N,L,i,p,d,c,s,g,hv,ht,hp,hpo,hc,hd=>by
  have hrt:∃ r m,Rt L i r m:=by cases ht with
   |var h _ _=>exact⟨_,_,h⟩
   |con h _ _ _=>exact⟨_,_,h⟩
  obtain⟨r,m,hr⟩:=hrt
  obtain⟨H1,L1,r1,g1,q1,l1⟩:=Vo g hr
  obtain⟨m1,_,hr1⟩:=q1.rt _ _ _ hr
  have ht1:=ht.eqv q1
  have hp1:H1[p]? = some (.cells s [.i ((c:Nat):Int)]):=by rw[l1.at' p (ao hp) hpo,hp]
  have hrl:r<N.length:=by rw[<- g1.lenL];exact ao hr1.root
  have o1:∀(v w:Int) (κ:List D->ah),az [D.i v] 0 [.i w] κ=κ [.i w]:=fun _ _ _=>rfl
  obtain⟨g2,p2⟩:=g1.cnt hp1 hpo (s+1) [.i ((c+1:Nat):Int)]
  have hp2:=aN (.cells (s+1) [.i ((c+1:Nat):Int)]) hp1
  have stop:(2000<c+1\/100<d)->YZ H os N L p d c (.mk n xs) (ret (.agg [.str [],.row 2 []]) ((H1.set p (.cells (s+1) [.i ((c+1:Nat):Int)])).set p (.cells (s+1+1) [.i 2001]))):=fun hst=>by
   obtain⟨g3,p3⟩:=g2.cnt hp2 hpo (s+1+1) [.i 2001]
   exact⟨_,L1,s+1+1,2001,.mk [] [],by simp only[cG,aM],g3,q1,(l1.ep.trans p2).trans p3,aN _ hp2,Nat.le_refl _,fun q=>(by omega),fun _=>by simp only[bE,mM];omega⟩
  have pre:∀ z,(cond (decide (((c+1:Nat):Int)>2000)) (ret (.agg [.str [],.row 2 []]) ((H1.set p (.cells (s+1) [.i ((c+1:Nat):Int)])).set p (.cells (s+1+1) [.i 2001]))) (cond (decide (((d:Nat):Int)>100)) (ret (.agg [.str [],.row 2 []]) ((H1.set p (.cells (s+1) [.i ((c+1:Nat):Int)])).set p (.cells (s+1+1) [.i 2001])))
   (eR (.ptr (oN os r) 0) fun b=>dz b 0 fun b=>bQ ab 4 b (H1.set p (.cells (s+1) [.i ((c+1:Nat):Int)])) fun b=>brD b (Hf mc (.func 28 [] []) fun b c' d'=>C am b (c'++([.ptr (oN os r) 0]++d')) (H1.set p (.cells (s+1) [.i ((c+1:Nat):Int)])) fun a H=>ai 2 a fun a=>az [.str [],.nilrow] 0 a fun a=>aA a 0 fun b=>aA a 1 fun a=>fK (.fz 2) a H fun a H=>ret (.agg [b,a]) H) (eR (.ptr (oN os r) 0) fun b=>dz b 1 fun b=>bQ ab 9 b (H1.set p (.cells (s+1) [.i ((c+1:Nat):Int)])) fun b=>ai 1 b fun b=>az [.str [],.nilrow] 0 b fun b=>ai 2 (.agg b) fun b=>az [.str [],.nilrow] 0 b fun b=>eR (.ptr (oN os r) 0) fun a=>dz a 3 fun a=>bQ ab 71 a (H1.set p (.cells (s+1) [.i ((c+1:Nat):Int)])) fun a=>bJ ab 71 a (H1.set p (.cells (s+1) [.i ((c+1:Nat):Int)])) fun c'=>ae am 27 200010 [.n (d:Nat),.g (.ptr p 0),.g (.func 28 [] []),.lp 0 0,.lp 1 0,.g a,.g c',.n 0] [(0,[.str [],.nilrow]),(0,b)] (H1.set p (.cells (s+1) [.i ((c+1:Nat):Int)]))))))=z->ay 27 [.ptr (oN os i) 0,.i (d:Nat),.ptr p 0,.func 28 [] []] H=z:=fun z hz=>by
   refine ev (f27) ?_
   rw[aw r1,ac hp1,aj,eO,Ie (by omega),YR,ac hp1,o1]
   dsimp only
   rw[ac hp2,aj,ff,ak,ac hp2,o1]
   exact hz
  by_cases h1:c+1<=2000
  ·by_cases h2:d<=100
   ·have e1:decide (((c+1:Nat):Int)>2000)=false:=by simp;omega
    have e2:decide (((d:Nat):Int)>100)=false:=by simp;omega
    have hx:=List.getElem?_eq_getElem hrl
    generalize N[r]=x at hx
    obtain⟨s2,da,k1,k2⟩:=g2.ob r x hx
    have ht2:=ht1.rt hr1
    cases hxv:x.v with
    |true =>
     have:xs=[]/\n=x.n:=by
      cases ht1 with
      |var z1 z2 z3=>obtain⟨rfl,_⟩:=z1.det hr1;rw[hx]at z2;cases z2;exact⟨rfl,rfl⟩
      |con z1 z2 z3 _=>obtain⟨rfl,_⟩:=z1.det hr1;rw[hx]at z2;cases z2;rw[hxv]at z3;cases z3
     obtain⟨rfl,rfl⟩:=this
     have hf:eK mc 28=true:=by kernel_rfl
     refine(show YZ H os N L p d c (.mk x.n []) _ from ?_)
     rw[pre _ rfl,e1,cond_false,e2,cond_false]
     simp only[HG,Hq,XL,Nat.zero_add]
     rw[ac k1]
     simp only[fH,aj,hxv,ak,cond_true]
     rw[Cz hf,show(([]:List D)++([D.ptr (oN os r) 0]++[]))=[.ptr (oN os r) 0] from rfl,aw (ST k1)]
     refine⟨_,L1,s+1,c+1,.mk x.n [],by simp only[cG,aM];rfl,g2,q1,l1.ep.trans p2,hp2,by omega,fun _=>⟨rfl,by simp[bE,bE.tszs],by simp only[mM,gc];omega⟩,fun q=>by simp only[bE];omega⟩
    |false =>
     have:∃ ys,oo N L1 x.a xs/\n=x.n/\ys=xs:=by
      cases ht1 with
      |var z1 z2 z3=>obtain⟨rfl,_⟩:=z1.det hr1;rw[hx]at z2;cases z2;rw[hxv]at z3;cases z3
      |con z1 z2 z3 z4=>obtain⟨rfl,_⟩:=z1.det hr1;rw[hx]at z2;cases z2;exact⟨_,z4,rfl,rfl⟩
     obtain⟨_,hts,rfl,_⟩:=this
     rw[pre _ rfl,e1,cond_false,e2,cond_false]
     simp only[HG,Hq,XL,XG,VG,Nat.zero_add]
     rw[ac k1]
     simp only[fH,aj,hxv,ak,cond_false]
     rw[ac k1]
     simp only[fH,aj,ar]
     rw[show ∀ κ:List D->ah,(ai 1 (.str x.n) fun b=>az [.str [],.nilrow] 0 b fun b=>ai 2 (.agg b) fun b=>az [.str [],.nilrow] 0 b κ)=κ [.str x.n,.nilrow] from fun _=>rfl]
     rw[ac k1]
     simp only[fH,aj,ar]
     rw[k2.len,List.length_map]
     obtain⟨H',L',s',c',ts',w1,w2,w3,w4,w5,w6,w7,w8⟩:=wA xs (H1.set p (.cells (s+1) [.i ((c+1:Nat):Int)])) os N L1 x.n x.a [] da p d (c+1) (s+1) (H1.set p (.cells (s+1) [.i ((c+1:Nat):Int)])).length [] .nilrow g2 hv hts (by have:=g.sm r x hx;simpa using this) rfl k2 hp2 hpo (by omega) h2 (.inl ⟨rfl,rfl⟩) (Nat.le_refl _)
     refine⟨H',L',s',c',.mk x.n ts',w1,w2,q1.trans w3,(l1.ep.trans p2).trans ⟨w4.1,w4.2⟩,w5,w6,fun q=>?_,fun q=>?_⟩
     ·obtain⟨z1,z2,z3⟩:=w7 q
      exact⟨by rw[z1];simp,by rw[z2];simp only[bE];omega,by simp only[mM];omega⟩
     ·have:=w8 q
      simp only[bE,mM]
      omega
   ·rw[pre _ rfl]
    have e1:decide (((c+1:Nat):Int)>2000)=false:=by simp;omega
    have e2:decide (((d:Nat):Int)>100)=true:=by simp;omega
    rw[e1,cond_false,e2,cond_true]
    exact stop (.inr (by omega))
  ·rw[pre _ rfl]
   have e1:decide (((c+1:Nat):Int)>2000)=true:=by simp;omega
   rw[e1,cond_true]
   exact stop (.inl (by omega))
theorem wA:∀(l:List Ty) (H:DH) (os:List Nat) (N:List aH) (L:Lk) (nm:af) (rest pn:List Nat) (da:D) (p d c s b:Nat) (done:List Ty) (dr:D),cC H os N L->(∀(i:Nat) (x:aH),N[i]? = some x->x.v=true->x.a=[])->oo N L rest l->(pn++rest).length<=16->done.length=pn.length->bM H da ((pn++rest).map (oN os))->H[p]? = some (.cells s [.i ((c:Nat):Int)])->p∉os->c<=2001->d<=100->Ac H b 2 (aM done) dr->b<=H.length ->
 ∃ H' L' s' c' ts',ae am 27 200010 [.n (d:Nat),.g (.ptr p 0),.g (.func 28 [] []),.lp 0 0,.lp 1 0,.g da,.n ((pn++rest).length:Nat),.n (pn.length:Nat)] [(0,[.str [],.nilrow]),(0,[.str nm,dr])] H=ret (.agg (cG (.mk nm ts'))) H'/\cC H' os N L'/\mu N L L'/\(H.length<=H'.length/\∀ o,o<b->o∉os->o≠p->H'[o]? = H[o]?)/\H'[p]? = some (.cells s' [.i ((c':Nat):Int)])/\c'<=2001/\(c'<=2000->ts'=done++l/\c'=c+bE.tszs l/\d+gc l<=100)/\(2000<c'->2000<c+bE.tszs l\/100<d+gc l)
 |[],H,os,N,L,nm,rest,pn,da,p,d,c,s,b,done,dr,g,hv,ht,h16,hdn,ha,hp,hpo,hc,hd,hr,hb=>by
  cases ht
  obtain⟨H',u1,u2⟩:=hr.fz
  have hlt:decide ((pn.length:Int)<((pn++[]).length:Int))=false:=by simp
  refine⟨H',L,s,c,done,cM (ya) ?_,g.kp u2,.refl _ _,⟨u2.len,fun o h _ _=>u2.at' o h⟩,?_,hc,fun _=>⟨by simp,by simp[bE.tszs],by simp only[gc];omega⟩,fun q=>by simp only[bE.tszs];omega⟩
  ·rw[hlt,cond_false,aj,ar,aj,u1]
   simp only[cG]
  ·rw[u2.nb p (ao hp) (fun _ _ _ e=>by rw[hp]at e;cases e),hp]
 |t::l,H,os,N,L,nm,rest,pn,da,p,d,c,s,b,done,dr,g,hv,ht,h16,hdn,ha,hp,hpo,hc,hd,hr,hb=>by
  cases ht with
  |cons t1 t2 =>
  rename_i a rest
  obtain⟨H1,L1,s1,c1,t',r1,r2,r3,r4,r5,r6,r7,r8⟩:=Ao t H os N L a p (d+1) c s g hv t1 hp hpo hc (by omega)
  have hr1:Ac H1 b 2 (aM done) dr:=by
   rcases hr with⟨rfl,e⟩|⟨o,ho,rfl,h⟩
   ·exact .inl ⟨rfl,e⟩
   ·refine .inr ⟨o,ho,rfl,?_⟩
    rw[r4.at' o (ao h) (fun q=>by obtain⟨s,c,e⟩:=g.nm q;rw[e]at h;cases h) (fun q=>by rw[q,hp]at h;cases h),h]
  have hb1:b<=H1.length:=Nat.le_trans hb r4.len
  obtain⟨tn,tx⟩:=t'
  obtain⟨d2,H2,u1,u2,u3,ob,nb,hd2⟩:=hr1.add hb1 (by rw[aT];simp at h16;omega) (cG (.mk tn tx))
  have e2:aM done++[cG (.mk tn tx)]=aM (done++[.mk tn tx]):=by rw[fg,fg];simp
  rw[e2]at u2
  have e3:pn++a::rest=(pn++[a])++rest:=by simp
  have ha2:bM H2 da (((pn++[a])++rest).map (oN os)):=by
   rw[<- e3]
   refine ha.chg fun o n q=>?_
   obtain⟨h1,st,cp,l,h2⟩:=ha.lt q
   have h3:H1[o]? = H[o]?:=r4.at' o h1 (fun q=>by obtain⟨s,c,e⟩:=g.nm q;rw[e]at h2;cases h2) (fun q=>by rw[q,hp]at h2;cases h2)
   rw[u3.nb o (by have:=r4.len;omega) (fun _ _ _ e=>by rw[h3,h2]at e;cases e),h3]
  have hp2:H2[p]? = some (.cells s1 [.i ((c1:Nat):Int)]):=by rw[u3.nb p (ao r5) (fun _ _ _ e=>by rw[r5]at e;cases e),r5]
  obtain⟨H',L',s',c',ts',w1,w2,w3,w4,w5,w6,w7,w8⟩:=wA l H2 os N L1 nm rest (pn++[a]) da p d c1 s1 b (done++[.mk tn tx]) d2 (r2.kp u3) hv (t2.eqv r3) (by rw[<- e3];exact h16) (by simp[hdn]) ha2 hp2 hpo r6 hd u2 (Nat.le_trans hb1 u3.len)
  have hlt:decide ((pn.length:Int)<((pn++a::rest).length:Int))=true:=by simp;omega
  have ia:((pn++a::rest).map (oN os))[pn.length]? = some (oN os a):=by rw[List.getElem?_map];simp
  have hw2:cq ((pn.length:Int)+1)=(((pn++[a]).length:Nat):Int):=by
   rw[aS (by simp at h16;omega)];simp
  refine⟨H',L',s',c',ts',cM (ya) ?_,w2,r3.trans w3,⟨by have:=r4.len;have:=u3.len;have:=w4.1;omega,fun o h1 h2 h3=>?_⟩,w5,w6,fun q=>?_,fun q=>?_⟩
  ·rw[hlt,cond_true,ha.at' ia,Ie (by omega),LF r1]
   simp only[aj,ar]
   rw[show ∀ κ:List D->ah,ai 2 (.agg (cG (.mk tn tx))) κ=κ (cG (.mk tn tx))from fun κ=>by simp only[cG];rfl]
   rw[u1,hd2,YS,show ∀(x:D) (κ:List D->ah),az [.str nm,dr] 1 [x] κ=κ [.str nm,x] from fun _ _=>rfl,<- hd2,hw2,e3]
   exact w1
  ·rw[w4.2 o h1 h2 h3,u3.at' o h1,r4.at' o (by omega) h2 h3]
  ·obtain⟨z1,z2,z3⟩:=w7 q
   obtain⟨y1,y2,y3⟩:=r7 (by omega)
   exact⟨by rw[z1,y1];simp,by rw[z2,y2];simp only[bE.tszs];omega,by simp only[gc];omega⟩
  ·have h1:=w8 q
   simp only[bE.tszs,gc]
   rcases Nat.lt_or_ge 2000 c1 with h2|h2
   ·have:=r8 h2;omega
   ·obtain⟨_,y2,_⟩:=r7 h2
    omega
end
def cP:List (af×Ty)->af->Option Ty
 |[],_=>none
 |(n,t)::r,s=>if s=n then some t else cP r s
theorem UB(n:af)(a:D)(κ:List D->ah):ai 2 (.agg [.str n,a]) κ=κ [.str n,a]:=rfl
theorem Xw(n:af)(a:D)(κ:List D->ah):az [.str [],.nilrow] 0 [.str n,a] κ=κ [.str n,a]:=rfl
mutual
def JZ:Ty->Ty->Bool
 |.mk n xs,.mk m ys=>n==m&&my xs ys
def my:List Ty->List Ty->Bool
 |[],[]=>true
 |x::xs,y::ys=>JZ x y&&my xs ys
 |_,_=>false
end
mutual
theorem DE:∀(t u:Ty),JZ t u=true↔t=u
 |.mk n xs,.mk m ys=>by
  simp only[JZ,Bool.and_eq_true,beq_iff_eq,sG xs ys,Ty.mk.injEq]
theorem sG:∀(l k:List Ty),my l k=true↔l=k
 |[],[]=>by simp[my]
 |x::xs,y::ys=>by simp only[my,Bool.and_eq_true,DE x y,sG xs ys,List.cons.injEq]
 |[],_::_=>by simp[my]
 |_::_,[]=>by simp[my]
end
theorem JY:∀ {l k:List Ty},l.length≠k.length->my l k=false:=fun {l k} h=>by
 cases q:my l k with
 |false=>rfl
 |true=>exact(h (by rw[(sG l k).1 q])).elim
mutual
theorem Ix:∀(t u:Ty) (H:DH),t.ok->ay 10 [.agg (cG t),.agg (cG u)] H=ret (.bool (JZ t u)) H
 |.mk n xs,.mk m ys,H,hok=>by
  simp only[Ty.ok]at hok
  refine ev (by simp only[cG];exact f10) ?_
  simp only[JZ]
  by_cases h1:n=m
  ·have e1:(n==m)=true:=by simpa using h1
   rw[e1,Bool.not_true,cond_false,aT,aT,Bool.true_and]
   by_cases h2:xs.length=ys.length
   ·have e2:(((xs.length:Nat):Int) !=((ys.length:Nat):Int))=false:=by simp[h2]
    rw[e2,cond_false]
    exact Ai n m xs ys H hok.1 xs ys [] [] rfl rfl rfl h2 hok.2
   ·have e2:(((xs.length:Nat):Int) !=((ys.length:Nat):Int))=true:=by simp;omega
    rw[e2,cond_true,JY h2]
  ·have e1:(n==m)=false:=by simpa using h1
   rw[e1,Bool.not_false,cond_true,Bool.false_and]
theorem Ai(n m:af)(xs ys:List Ty)(H:DH)(h62:xs.length<2^62):∀(l k p q:List Ty),xs=p++l->ys=q++k->p.length=q.length->l.length=k.length->Ty.oks l ->
 ae am 10 200004 [.lp 0 0,.lp 1 0,.n (p.length:Nat)] [(0,[.str n,.row 2 (aM xs)]),(0,[.str m,.row 2 (aM ys)])] H=ret (.bool (my l k)) H
 |[],[],p,q,e1,e2,e3,_,_=>by
  refine cM (yi) ?_
  have hlt:decide ((p.length:Int)<((aM xs).length:Int))=false:=by rw[aT,e1];simp
  rw[hlt,cond_false]
  simp only[my]
 |[],_::_,_,_,_,_,_,h,_=>by simp at h
 |_::_,[],_,_,_,_,_,h,_=>by simp at h
 |t::l,u::k,p,q,e1,e2,e3,e4,hok=>by
  simp only[Ty.oks]at hok
  have hlt:decide ((p.length:Int)<((aM xs).length:Int))=true:=by rw[aT,e1];simp;omega
  have h1:(aM xs)[p.length]? = some (cG t):=by rw[e1];exact fq _ _ _
  have h2:(aM ys)[p.length]? = some (cG u):=by rw[e2,e3];exact fq _ _ _
  have hw2:cq ((p.length:Int)+1)=(((p++[t]).length:Nat):Int):=by
   rw[aS (by
    have:xs.length=p.length+(l.length+1):=by rw[e1];simp
    omega)];simp
  have r1:=Ix t u H hok.1
  have ih:=Ai n m xs ys H h62 l k (p++[t]) (q++[u]) (by rw[e1];simp) (by rw[e2];simp) (by simp[e3]) (by simpa using e4) hok.2
  refine cM (yi) ?_
  obtain⟨tn,tx⟩:=t
  obtain⟨un,ux⟩:=u
  simp only[cG]at h1 h2 r1
  rw[hlt,cond_true,aP,aI h1]
  simp only[aj,ar]
  rw[aP,aI h2]
  simp only[aj,ar]
  rw[LF r1]
  simp only[ct,ak,my]
  rw[hw2,ih]
  cases JZ (.mk tn tx) (.mk un ux)<;>simp only[Bool.not_true,Bool.not_false,cond_true,cond_false,Bool.true_and,Bool.false_and]
end
mutual
theorem NM{kind:af->Int}:∀ {t:Ty} {d c k:Nat},zA kind d t c=some k->k=c+bE t/\d+mM t<=101/\k<=2000
 |.mk n xs,d,c,k,h=>by
  unfold zA at h
  split at h
  ·rename_i q
   have:=Jg h (by omega) (by omega)
   simp only[bE,mM];omega
  ·cases h
theorem Jg{kind:af->Int}:∀ {l:List Ty} {d c k:Nat},rC kind d l c=some k->c<=2000->d<=101->k=c+bE.tszs l/\d+gc l<=101/\k<=2000
 |[],d,c,k,h,hc,hd=>by cases h;simp only[bE.tszs,gc];omega
 |t::r,d,c,k,h,hc,hd=>by
  unfold rC at h
  split at h
  ·rename_i k1 hk
   have h1:=NM hk
   have h2:=Jg h (by omega) hd
   simp only[bE.tszs,gc];omega
  ·cases h
end
mutual
theorem RV{kind:af->Int}:∀ {t:Ty} {d c k:Nat},zA kind d t c=some k->FZ (fun _=>false) t
 |.mk n xs,d,c,k,h=>by
  unfold zA at h
  split at h
  ·rename_i q
   simp only[FZ]
   refine⟨?_,(fun q=>by cases q),NK h⟩
   have:=q.1
   unfold fF at this
   repeat' split at this
   all_goals simp_all
   all_goals omega
  ·cases h
theorem NK{kind:af->Int}:∀ {l:List Ty} {d c k:Nat},rC kind d l c=some k->qC (fun _=>false) l
 |[],_,_,_,_=>trivial
 |t::r,d,c,k,h=>by
  unfold rC at h
  split at h
  ·rename_i k1 hk
   exact⟨RV hk,NK h⟩
  ·cases h
end
theorem pI{kind:af->Int}{t:Ty}(h:ee kind t≠0):FZ (fun _=>false) t/\bE t<=2000/\ee kind t=bE t/\mM t<=100:=by
 unfold ee at h ⊢
 cases q:zA kind 1 t 0 with
 |none=>rw[q]at h;exact(h rfl).elim
 |some k =>
  have:=NM q
  exact⟨RV q,by omega,by simp only[Option.getD_some];omega,by omega⟩
def oT(b:af×Ty):List D:=.str b.1::cG b.2
theorem Mx{kind:af->Int}(K:FW kind)(all:List Ty)(h16:all.length<=16):∀(l pre:List Ty) (H:DH),all=pre++l->Ty.oks l ->
 ∃ X,ae am 8 200004 [.g (.row 2 (aM all)),.g (.row 2 (aM all)),.n (all.length:Nat),.n (pre.length:Nat)] [] H=(if ∃ t∈l,ee kind t=0 then ret (.tuple [.row 3 [],.i 32]) (H++X)else ae am 8 200012 [.g (.ptr ((H++X).length+1) 0),.g .nilrow,.g (.row 2 (aM all)),.n (all.length:Nat),.n 0] [] (H++X++[.map []]++[.cells 0 [.map (H++X).length,.nilrow]]))
 |[],pre,H,e,_=>by
  refine⟨[],cM (Be) ?_⟩
  have hlt:decide ((pre.length:Int)<(all.length:Int))=false:=by rw[e];simp
  rw[hlt,cond_false,if_neg (fun⟨_,h,_⟩=>nomatch h)]
  simp only[List.append_nil,aT]
  rw[show(H++[DB.map []]).length=H.length+1 from by simp]
 |t::l,pre,H,e,hok=>by
  simp only[Ty.oks]at hok
  obtain⟨X,z1⟩:=PE K t H hok.1
  obtain⟨Y,ih⟩:=Mx K all h16 l (pre++[t]) (H++X) (by rw[e];simp) hok.2
  have hlt:decide ((pre.length:Int)<(all.length:Int))=true:=by rw[e];simp;omega
  have h2:(aM all)[pre.length]? = some (cG t):=by rw[e];exact fq _ _ _
  have hw2:cq ((pre.length:Int)+1)=(((pre++[t]).length:Nat):Int):=by
   rw[aS (by
    have:all.length=pre.length+(l.length+1):=by rw[e];simp
    omega)];simp
  have st:∀ z,(cond (((ee kind t:Nat):Int)==0) (ret (.tuple [.row 3 [],.i 32]) (H++X)) (ae am 8 200004 [.g (.row 2 (aM all)),.g (.row 2 (aM all)),.n (all.length:Nat),.n ((pre++[t]).length:Nat)] [] (H++X)))=z->ae am 8 200004 [.g (.row 2 (aM all)),.g (.row 2 (aM all)),.n (all.length:Nat),.n (pre.length:Nat)] [] H=z:=fun z hz=>by
   refine cM (Be) ?_
   obtain⟨tn,tx⟩:=t
   simp only[cG]at h2 z1
   rw[hlt,cond_true,aP,aI h2]
   simp only[aj,ar]
   rw[aw z1,di,ak,hw2]
   exact hz
  by_cases q:ee kind t=0
  ·refine⟨X,st _ ?_⟩
   rw[if_pos ⟨t,List.mem_cons_self,q⟩,q]
   rfl
  ·have e1:(((ee kind t:Nat):Int)==0)=false:=by simp;omega
   refine⟨X++Y,st _ ?_⟩
   rw[e1,cond_false,ih]
   have eq:(∃ t'∈t::l,ee kind t'=0)↔∃ t'∈l,ee kind t'=0:=by
    constructor
    ·intro⟨t',h,h0⟩
     rcases List.mem_cons.1 h with rfl|h
     ·exact(q h0).elim
     ·exact⟨t',h,h0⟩
    ·intro⟨t',h,h0⟩
     exact⟨t',List.mem_cons_of_mem _ h,h0⟩
   simp only[eq,List.append_assoc]
theorem Mw{kind:af->Int}(K:FW kind)(all:List Ty)(h16:all.length<=16)(h0 p mo:Nat)(hp0:h0<=p)(hm0:h0<=mo):∀(l pre:List Ty) (H:DH) (d dl:D) (os bs:List Nat) (N:List aH) (T:List Ty) (vs ks:List Nat),GT (fun n=>kind n==4) H p mo dl os bs N T vs->bM H d (ks.map (oN os))->(∀ a∈ks,a<N.length)->ks.map (fun a=>T[a]?)=pre.map some ->
 (∀ b n,d=.buf 1 b n->b∉bs/\h0<=b/\∀ n,dl≠.buf 1 b n)->(∀ b n,dl=.buf 1 b n->h0<=b)->h0<=H.length->all=pre++l->qC (fun n=>kind n==4) l->N.length+bE.tszs l<1000000->Cv [] N ks->vN N vs=dO kind pre [] ->
 ∃(H':DH) (d' dl':D) (os' bs':List Nat) (N':List aH) (T':List Ty) (vs' ks':List Nat),ae am 8 200012 [.g (.ptr p 0),.g d,.g (.row 2 (aM all)),.n (all.length:Nat),.n (pre.length:Nat)] [] H=ae am 8 200017 [.g (.ptr p 0),.g d',.g d',.n (all.length:Nat),.n 0] [] H' /\
  GT (fun n=>kind n==4) H' p mo dl' os' bs' N' T' vs'/\bM H' d' (ks'.map (oN os'))/\(∀ a∈ks',a<N'.length)/\ks'.map (fun a=>T'[a]?)=all.map some/\Cv [] N' ks'/\N'.length<=N.length+bE.tszs l/\(H.length<=H'.length/\∀ o,o<h0->H'[o]? = H[o]?)/\vN N' vs'=dO kind all []
 |[],pre,H,d,dl,os,bs,N,T,vs,ks,g,hd,ha,ht,b1,b2,hh,e,hw,hN,hcv,hvq=>by
  have hks:ks.length=pre.length:=by have:=congrArg List.length ht;simpa using this
  have hpre:all=pre:=by rw[e];simp
  refine⟨H,d,dl,os,bs,N,T,vs,ks,cM (Bd) ?_,g,hd,ha,by rw[hpre];exact ht,hcv,Nat.le_add_right _ _,⟨Nat.le_refl _,fun _ _=>rfl⟩,by rw[hpre];exact hvq⟩
  have hlt:decide ((pre.length:Int)<(all.length:Int))=false:=by rw[hpre];simp
  rw[hlt,cond_false,hd.len,List.length_map,hks,hpre]
 |t::l,pre,H,d,dl,os,bs,N,T,vs,ks,g,hd,ha,ht,b1,b2,hh,e,hw,hN,hcv,hvq=>by
  simp only[qC]at hw
  simp only[bE.tszs]at hN
  obtain⟨H1,dl1,os1,bs1,N1,T1,vs1,i,r1,g1,r3,e1,c1,q1⟩:=Iq K t H p mo dl os bs N T vs g hw.1 (by omega)
  have hks:ks.length=pre.length:=by have:=congrArg List.length ht;simpa using this
  have hxl:all.length=pre.length+(l.length+1):=by rw[e];simp
  have dk:∀ b n,d=.buf 1 b n->H1[b]? = H[b]?/\b<H.length:=fun b n q=>by
   obtain⟨hbl,st,cp,l,hb⟩:=hd.lt q
   obtain⟨s',hp⟩:=g.pg
   exact⟨e1.efr b hbl (fun q'=>by rw[q',hp]at hb;cases hb) (fun q'=>by rw[q',g.mp]at hb;cases hb) (b1 b n q).2.2,hbl⟩
  have hko:∀ a∈ks,a<os.length:=fun a h=>by rw[g.len];exact ha a h
  have osm:ks.map (oN os1)=ks.map (oN os):=by
   obtain⟨X,q,_⟩:=e1.eos
   rw[q];exact fR hko
  have d1:bM H1 d (ks.map (oN os1)):=by rw[osm];exact hd.chg fun b n q=>(dk b n q).1
  obtain⟨d2,H2,u1,u2,u3,u4,⟨b2',n2,hd2,hb2⟩,u6⟩:=UH d1 (by rw[List.length_map];omega) (oN os1 i)
  have db:∀ b n,d=.buf 1 b n->b∉bs1:=fun b n q h=>by
   obtain⟨X,q',x⟩:=e1.ebs
   rw[q']at h
   rcases List.mem_append.1 h with h|h
   ·exact(b1 b n q).1 h
   ·have:=x b h;have:=(dk b n q).2;omega
  have dd:∀ b n,d=.buf 1 b n->∀ n',dl1≠.buf 1 b n':=fun b n q n' q'=>by
   rcases e1.edl b n' q' with⟨n2,h⟩|h
   ·exact(b1 b n q).2.2 n2 h
   ·have:=(dk b n q).2;omega
  obtain⟨sp,hp1⟩:=g1.pg
  have cellsNe:∀ x:Nat,(∃ s c,H1[x]? = some (.cells s c))->∀ n,d≠.buf 1 x n:=fun x ⟨s,c,h⟩ n q=>by
   obtain⟨_,st,cp,l,hb⟩:=d1.lt q
   rw[h]at hb;cases hb
  have osc:∀ x∈os1,∃ s c,H1[x]? = some (.cells s c):=fun x hx=>by
   obtain⟨j,hj⟩:=List.getElem?_of_mem hx
   obtain⟨s,d,h1,_⟩:=g1.ob j _ (List.getElem?_eq_getElem (by rw[<- g1.len];exact ao hj))
   rw[show oN os1 j=x by unfold oN;rw[hj];rfl]at h1
   exact⟨s,_,h1⟩
  have g2:GT (fun n=>kind n==4) H2 p mo dl1 os1 bs1 N1 T1 vs1:=by
   refine g1.chg (fun x hx=>?_) (fun x hx=>?_) ⟨sp,?_⟩ (fun x n q=>?_) ?_ u3
   ·obtain⟨s,c,h⟩:=osc x hx
    exact u4 x (ao h) (cellsNe x ⟨s,c,h⟩)
   ·exact u4 x (g1.bb x hx) (fun n q=>db x n q hx)
   ·rw[u4 p (ao hp1) (cellsNe p ⟨_,_,hp1⟩),hp1]
   ·obtain⟨h1,st,cp,l,hb⟩:=g1.al.lt q
    exact u4 x h1 (fun n' q'=>dd x n' q' n q)
   ·exact u4 mo (ao g1.mp) (fun n q=>by obtain⟨_,st,cp,l,hb⟩:=d1.lt q;rw[g1.mp]at hb;cases hb)
  have i1:i<N1.length:=by rw[<- g1.gn.len];exact ao r3
  obtain⟨H',d',dl',os',bs',N',T',vs',ks',w1,w2,w3,w4,w5,wcv,wl,w6,w7⟩:=Mw K all h16 h0 p mo hp0 hm0 l (pre++[t]) H2 d2 dl1 os1 bs1 N1 T1 vs1 (ks++[i]) g2 (by rw[List.map_append];exact u2) (fun a h=>by
   rcases List.mem_append.1 h with h|h
   ·obtain⟨X,q⟩:=e1.eN
    have:=ha a h
    rw[q];simp;omega
   ·simp at h;rw[h];exact i1) (by
   obtain⟨X,q⟩:=e1.eT
   rw[List.map_append,List.map_append]
   congr 1
   ·rw[<- ht,q]
    refine List.map_congr_left fun a h=>List.getElem?_append_left ?_
    rw[g.gn.len];exact ha a h
   ·simp[r3]) (fun b n q=>by
   rw[hd2]at q;cases q
   rcases hb2 with⟨n',q⟩|q
   ·exact⟨db _ n' q,(b1 _ n' q).2.1,dd _ n' q⟩
   ·refine⟨fun h=>by have:=g1.bb _ h;omega,by have:=e1.elen;omega,fun n q'=>?_⟩
    have:=(g1.al.lt q').1
    omega) (fun b n q=>by
   rcases e1.edl b n q with⟨n',h⟩|h
   ·exact b2 b n' h
   ·omega) (by have:=e1.elen;omega) (by rw[e];simp) hw.2 (by have:=e1.ek;omega) (hcv.snoc c1 e1.eN) (by rw[q1,hvq,oz])
  refine⟨H',d',dl',os',bs',N',T',vs',ks',cM (Bd) ?_,w2,w3,w4,w5,wcv,(by have:=e1.ek;simp only[bE.tszs];omega),⟨by have:=e1.elen;have:=w6.1;omega,fun o h=>?_⟩,w7⟩
  ·have hlt:decide ((pre.length:Int)<(all.length:Int))=true:=by rw[hxl];simp;omega
   have h2:(aM all)[pre.length]? = some (cG t):=by rw[e];exact fq _ _ _
   have hw2:cq ((pre.length:Int)+1)=(((pre++[t]).length:Nat):Int):=by
    rw[aS (by omega)];simp
   obtain⟨tn,ts⟩:=t
   simp only[cG]at h2 r1
   rw[hlt,cond_true,aP,aI h2]
   simp only[aj,ar]
   rw[aw r1,JB,u1,hw2]
   exact w1
  ·rw[w6.2 o h,u4 o (by have:=e1.elen;omega) (fun n q=>by have:=(b1 o n q).2.1;omega),e1.efr o (by omega) (by omega) (by omega) (fun n q=>by have:=b2 o n q;omega)]
theorem GT.gr{isV:af->Bool}{H:DH}{p mo:Nat}{dl:D}{os bs:List Nat}{N:List aH}{T:List Ty}{vs:List Nat}(g:GT isV H p mo dl os bs N T vs):cC H os N (N.map fun _=>none)/\Wf (N.map fun _=>none)/\zc N (N.map fun _=>none) []:=by
 have hl:∀(i:Nat) (x:Option Nat),(N.map fun _=>(none:Option Nat))[i]? = some x->x=none:=fun i x h=>by
  rw[List.getElem?_map]at h
  cases q:N[i]? with
  |none=>rw[q]at h;cases h
  |some y=>rw[q]at h;cases h;rfl
 refine⟨⟨g.len,by simp,g.nd,fun i x hx=>?_,fun i x hx a ha=>?_,(fun i j h=>by cases hl i _ h),g.sm⟩,fun i h=>⟨i,0,.z ?_⟩,(fun i j x h=>by cases hl i _ h)⟩
 ·obtain⟨s,d,h1,h2,_⟩:=g.ob i x hx
  have:(N.map fun _=>(none:Option Nat))[i]? = some none:=by rw[List.getElem?_map,hx];rfl
  exact⟨s,d,by rw[this];exact h1,h2⟩
 ·have:=g.gn.kid i x hx a ha
  have:=ao hx
  omega
 ·have h':i<N.length:=by simpa using h
  rw[List.getElem?_map,List.getElem?_eq_getElem h'];rfl
theorem bM.els{H H':DH}{os:List Nat}{N:List aH}{L:Lk}(g:cC H os N L)(k:vO H H' os){d:D}{l:List Nat}(h:bM H d l):bM H' d l:=by
 refine h.chg fun o n e=>?_
 obtain⟨h1,st,cp,l',h2⟩:=h.lt e
 exact k.at' o h1 fun q=>by obtain⟨s,c,e⟩:=g.nm q;rw[e]at h2;cases h2
def Ke(d:D)(p:Nat)(H:DH):ah:=C am 25 [d] H fun a H=>sF .not a fun a=>brD a (ret (.tuple [.row 3 [],.i 31]) H) (au H p fun _ a=>aA a 1 fun a=>bJ ab 71 a H fun b=>ae am 8 200026 [.g .nilrow,.g a,.g b,.n 0] [] H)
theorem Mu{os:List Nat}{N:List aH}{d:D}{p:Nat}{ks:List Nat}(h16:ks.length<=16){a0:Nat}(h0:ks[0]? = some a0)(hk:∀ a∈ks,a<N.length):∀(l pre:List Nat) (H:DH) (L:Lk),cC H os N L->Wf L->bM H d (ks.map (oN os))->ks=pre++l ->
 ∃ q H' L',ae am 8 200017 [.g (.ptr p 0),.g d,.g d,.n (ks.length:Nat),.n (pre.length:Nat)] [] H=(match q with|true=>Ke d p H'|false=>ret (.tuple [.row 3 [],.i 30]) H')/\cC H' os N L'/\US N L (l.map fun a=>(a0,a)) q L'/\vO H H' os
 |[],pre,H,L,g,hw,hd,e=>by
  refine⟨true,H,L,cM (tG) ?_,g,.nil hw,.refl _ _⟩
  have hlt:decide ((pre.length:Int)<(ks.length:Int))=false:=by rw[e];simp
  rw[hlt,cond_false]
  rfl
 |a::l,pre,H,L,g,hw,hd,e=>by
  have ia:(ks.map (oN os))[pre.length]? = some (oN os a):=by rw[List.getElem?_map,e];simp
  have i0:(ks.map (oN os))[0]? = some (oN os a0):=by rw[List.getElem?_map,h0];rfl
  have hlt:decide ((pre.length:Int)<(ks.length:Int))=true:=by rw[e];simp;omega
  have hw2:cq ((pre.length:Int)+1)=(((pre++[a]).length:Nat):Int):=by
   rw[aS (by
    have:ks.length=pre.length+(l.length+1):=by rw[e];simp
    omega)];simp
  obtain⟨q,H1,L1,r1,r2,r3,r4⟩:=unify g hw (hk a0 (List.mem_of_getElem? h0)) (hk a (by rw[e];simp))
  have st:∀ z,(match q with|true=>ae am 8 200017 [.g (.ptr p 0),.g d,.g d,.n (ks.length:Nat),.n ((pre++[a]).length:Nat)] [] H1|false=>ret (.tuple [.row 3 [],.i 30]) H1)=z->ae am 8 200017 [.g (.ptr p 0),.g d,.g d,.n (ks.length:Nat),.n (pre.length:Nat)] [] H=z:=fun z hz=>by
   refine cM (tG) ?_
   have at0:=hd.at' i0 (κ:=fun e=>C am 24 [e,.ptr (oN os a) 0] H fun d_1 H=>sF .not d_1 fun d_1=>brD d_1 (ret (.tuple [.row 3 [],.i 30]) H) (ae am 8 200017 [.g (.ptr p 0),.g d,.g d,.n (ks.length:Nat),.n (cq ((pre.length:Nat)+1))] [] H))
   rw[show((0:Nat):Int)=0 from rfl]at at0
   rw[hlt,cond_true,hd.at' ia,at0,aw r1]
   simp only[ct,ak]
   rw[hw2,<- hz]
   cases q<;>simp only[Bool.not_true,Bool.not_false,cond_true,cond_false]
  cases q with
  |false=>exact⟨false,H1,L1,st _ rfl,r2,.stop r3,r4⟩
  |true =>
   obtain⟨q',H2,L2,w1,w2,w3,w4⟩:=Mu h16 h0 hk l (pre++[a]) H1 L1 r2 r3.wf (hd.els g r4) (by rw[e];simp)
   exact⟨q',H2,L2,st _ w1,w2,.cons r3 w3,r4.trans w4⟩
theorem Gx{m:Nat}(h:m<=4194304):aJ ab 52 m=true:=by
 have e:aJ ab 52 m=(Nat.ble (56*(m+Nat.div m 4+600)) 281474976710656&&Nat.ble m 4611686018427387904):=by kernel_rfl
 rw[e,Bool.and_eq_true]
 have h1:Nat.div m 4<=m:=Nat.div_le_self m 4
 exact⟨Nat.ble_eq_true_of_le (by omega),Nat.ble_eq_true_of_le (by omega)⟩
structure Kq(H H':DH):Prop where
 len:H.length<=H'.length
 nb:∀ o,o<H.length->(∀ st cp l,H[o]?≠some (.buf 3 st cp l))->H'[o]? = H[o]?
theorem Ac.add3{H:DH}{l:dB}{d:D}(h:Ac H 0 3 l d)(hl:l.length<4194304)(x:List D):∃ d' H',(∀ κ:D->DH->ah,cE (aJ ab 52) 3 d [x] H κ=κ d' H')/\Ac H' 0 3 (l++[x]) d'/\Kq H H':=by
 rcases h with⟨rfl,rfl⟩|⟨o,ho,rfl,h⟩
 ·refine⟨.buf 3 H.length 1,H++[.buf 3 true false [x]],fun κ=>?_,.inr ⟨H.length,Nat.zero_le _,rfl,bk _ _⟩,⟨by simp,fun o h _=>List.getElem?_append_left h⟩⟩
  simp only[cE,List.length_singleton,Gx (show 1<=4194304 by decide),boK,cond_true]
  rfl
 ·refine⟨.buf 3 o (l++[x]).length,H.set o (.buf 3 true false (l++[x])),fun κ=>?_,.inr ⟨o,ho,rfl,aN _ h⟩,⟨by simp,fun o' _ q=>List.getElem?_set_ne (fun e=>q _ _ _ (e▸h))⟩⟩
  have h4:=bH h (κ:=fun _ st cap l2=>boK (aJ ab 52 (l2.length+1)&&!(cap&&List.isEmpty [x])) (grow o 3 st cap l2 [x] H κ))
  simp only[cE,List.length_singleton,Gx (show 1<=4194304 by decide),boK,cond_true,Nat.beq_refl]
  refine Eq.trans h4 ?_
  rw[Gx (by omega)]
  simp only[List.isEmpty_cons,Bool.and_false,Bool.not_false,Bool.and_self,boK,cond_true,grow,cond_false]
  simp
theorem Ac.fz3{H:DH}{l:dB}{d:D}(h:Ac H 0 3 l d):∃ H',∀ κ:D->DH->ah,jt (.fz 3) 0 d H κ=κ (.row 3 l) H':=by
 rcases h with⟨rfl,rfl⟩|⟨o,ho,rfl,h⟩
 ·exact⟨H,fun _=>rfl⟩
 ·refine⟨H.set o (.buf 3 false false l),fun κ=>?_⟩
  show fK (.fz 3) (.buf 3 o l.length) H κ=_
  rw[fK,bH h]
  rfl
theorem Ac.mv{H H':DH}{l:dB}{d:D}{z:Nat}(h:Ac H 0 z l d)(k:∀(o:Nat) (st cp:Bool) (l:dB),H[o]? = some (DB.buf z st cp l)->H'[o]? = H[o]?):Ac H' 0 z l d:=by
 rcases h with⟨rfl,rfl⟩|⟨o,ho,rfl,h⟩
 ·exact .inl ⟨rfl,rfl⟩
 ·exact .inr ⟨o,ho,rfl,by rw[k o _ _ _ h,h]⟩
theorem cC.kq{H H':DH}{os:List Nat}{N:List aH}{L:Lk}(g:cC H os N L)(k:Kq H H'):cC H' os N L :=
 ⟨g.len,g.lenL,g.nd,fun i x hx=>by
  obtain⟨s,d,h1,h2⟩:=g.ob i x hx
  exact⟨s,d,by rw[k.nb _ (ao h1) (fun _ _ _ e=>by rw[h1]at e;cases e),h1],by
   rcases h2 with⟨rfl,e⟩|⟨o,st,cp,rfl,h⟩
   ·exact .inl ⟨rfl,e⟩
   ·exact .inr ⟨o,st,cp,rfl,by rw[k.nb _ (ao h) (fun _ _ _ e=>by rw[h]at e;cases e),h]⟩⟩,g.kid,g.lk,g.sm⟩
theorem Tr.hasRt{N:List aH}{L:Lk}{i:Nat}{t:Ty}(h:Tr N L i t):∃ r m,Rt L i r m:=by cases h with
 |var h _ _=>exact⟨_,_,h⟩
 |con h _ _ _=>exact⟨_,_,h⟩
def mN(N:List aH)(rt:Nat->Bool)(ty:Nat->Ty):List Nat->List (af×Ty)
 |[]=>[]
 |v::r=>if rt v then mN N rt ty r else(gH N v,ty v)::mN N rt ty r
def BdR(N:List aH)(rt:Nat->Bool)(ty:Nat->Ty)(done:List (af×Ty))(l:List Nat)(w:ah):Prop :=
 ((∃ H',w=ret (.tuple [.row 3 [],.i 39]) H')/\∃ v∈l,rt v=false/\(2000<bE (ty v)\/100<mM (ty v)))\/(∃ H',w=ret (.tuple [.row 3 ((done++mN N rt ty l).map oT),.i 0]) H')/\∀ v∈l,rt v=false->bE (ty v)<=2000/\mM (ty v)<=100
theorem Gk{os:List Nat}{N:List aH}{d:D}{all:List Nat}(hall:all.length<4194304)(rt:Nat->Bool)(ty:Nat->Ty)(hv:∀(i:Nat) (x:aH),N[i]? = some x->x.v=true->x.a=[])(hk:∀ a∈all,a<N.length):∀(l pre:List Nat) (H:DH) (L:Lk) (done:List (af×Ty)) (a:D),cC H os N L->(∀ i,i<N.length->Tr N L i (ty i))->(∀ i,i<N.length->(rt i=true↔L[i]? = some none))->bM H d (all.map (oN os))->Ac H 0 3 (done.map oT) a->all=pre++l->done.length<=pre.length ->
 BdR N rt ty done l (ae am 8 200026 [.g a,.g d,.n (all.length:Nat),.n (pre.length:Nat)] [] H)
 |[],pre,H,L,done,a,g,ht,hr,hd,ha,e,hl=>by
  have hlt:decide ((pre.length:Int)<(all.length:Int))=false:=by rw[e];simp
  obtain⟨H',u⟩:=ha.fz3
  refine .inr ⟨⟨H',cM (Bc) ?_⟩,fun _ h=>nomatch h⟩
  rw[hlt,cond_false,u]
  simp[mN]
 |v::l,pre,H,L,done,a,g,ht,hr,hd,ha,e,hl=>by
  have hlt:decide ((pre.length:Int)<(all.length:Int))=true:=by rw[e];simp;omega
  have hw2:cq ((pre.length:Int)+1)=(((pre++[v]).length:Nat):Int):=by
   rw[aS (by
    have:all.length=pre.length+(l.length+1):=by rw[e];simp
    omega)];simp
  have iv:(all.map (oN os))[pre.length]? = some (oN os v):=by rw[List.getElem?_map,e];simp
  have lv:v<N.length:=hk v (by rw[e];simp)
  have hrt:=(ht v lv).hasRt
  obtain⟨r,m,hrt⟩:=hrt
  obtain⟨H1,L1,r1,g1,q1,l1⟩:=Vo g hrt
  obtain⟨m1,_,hr1⟩:=q1.rt _ _ _ hrt
  have lr:r<N.length:=by rw[<- g1.lenL];exact ao hr1.root
  have x0:=List.getElem?_eq_getElem lv
  generalize N[v]=x at x0
  have y0:=List.getElem?_eq_getElem lr
  generalize N[r]=y at y0
  obtain⟨s0,dx,ox,_⟩:=g1.ob v x x0
  obtain⟨s1,dy,oy,_⟩:=g1.ob r y y0
  have ht1:∀ i,i<N.length->Tr N L1 i (ty i):=fun i hi=>(ht i hi).eqv q1
  have hr1':∀ i,i<N.length->(rt i=true↔L1[i]? = some none):=fun i hi=>(hr i hi).trans (q1.ro i)
  have hd1:=hd.els g l1
  have ha1:Ac H1 0 3 (done.map oT) a:=ha.mv fun o st cp l h=>l1.at' o (ao h) fun q=>(by obtain⟨s,c,e⟩:=g.nm q;rw[e]at h;cases h)
  have nmo:gH N v=x.n:=by simp[gH,x0]
  have beqo:Nat.beq (oN os r) (oN os v)=rt v:=by
   cases q:rt v with
   |true =>
    have:r=v:=((hr1.det (.z ((hr1' v lv).1 q))).1)
    rw[this,Nat.beq_refl]
   |false =>
    refine Dh fun e'=>?_
    have e2:r=v:=sW g1.nd (by rw[g1.len];exact lr) (by rw[g1.len];exact lv) e'
    have:=(hr1' v lv).2 (by rw[<- e2];exact hr1.root)
    rw[this]at q;cases q
  have o1:∀(v w:Int) (κ:List D->ah),az [D.i v] 0 [.i w] κ=κ [.i w]:=fun _ _ _=>rfl
  have base:∀ z,(cond (rt v) (ae am 8 200026 [.g a,.g d,.n (all.length:Nat),.n ((pre++[v]).length:Nat)] [] H1) (C am 27 [.ptr (oN os v) 0,.i (1:Nat),.ptr H1.length 0,.func 28 [] []] (H1++[.cells 1 [.i ((0:Nat):Int)]]) fun f g=>ai 2 f fun f=>az [.str [],.nilrow] 0 f fun f=>au g H1.length fun _ h=>aA h 0 fun h=>av ab .gtr 3 true h (.i 2000) fun h=>brD h (ret (.tuple [.row 3 [],.i 39]) g) (eR (.ptr (oN os v) 0) fun n=>dz n 1 fun n=>bQ ab 9 n g fun n=>aA f 0 fun h=>aA f 1 fun f=>ai 1 n fun n=>az [.str [],.str [],.nilrow] 0 n fun n=>az n 1 [h,f] fun n=>ai 3 (.agg n) fun n=>cE (aJ ab 52) 3 a [n] g fun a H=>ae am 8 200026 [.g a,.g d,.n (all.length:Nat),.n ((pre++[v]).length:Nat)] [] H)))=z->ae am 8 200026 [.g a,.g d,.n (all.length:Nat),.n (pre.length:Nat)] [] H=z:=fun z hz=>by
   refine cM (Bc) ?_
   rw[hlt,cond_true,hd.at' iv,aw r1,YI (gm oy) (gm ox),beqo,ak,hw2,ac (bk _ _),o1,iO]
   exact hz
  cases hq:rt v with
  |true =>
   have ih:=Gk hall rt ty hv hk l (pre++[v]) H1 L1 done a g1 ht1 hr1' hd1 ha1 (by rw[e];simp) (by simp;omega)
   rw[base _ (by rw[hq,cond_true])]
   rcases ih with⟨ih,v',hv',hw'⟩|⟨⟨H',ih⟩,ih2⟩
   ·exact .inl ⟨ih,v',List.mem_cons_of_mem _ hv',hw'⟩
   ·refine .inr ⟨⟨H',by rw[ih];simp[mN,hq]⟩,fun v' h h0=>?_⟩
    rcases List.mem_cons.1 h with rfl|h
    ·rw[hq]at h0;cases h0
    ·exact ih2 v' h h0
  |false =>
   have gX:cC (H1++[.cells 1 [.i ((0:Nat):Int)]]) os N L1:=g1.app
   have pX:(H1++[DB.cells 1 [.i ((0:Nat):Int)]])[H1.length]? = some (.cells 1 [.i ((0:Nat):Int)]):=bk _ _
   obtain⟨H2,L2,s2,c2,t2,w1,w2,w3,w4,w5,w6,w7,w8⟩:=Ao (ty v) _ os N L1 v H1.length 1 0 1 gX hv (ht1 v lv) pX (fun q=>by have:=g1.ltm q;omega) (by omega) (by omega)
   rw[base _ rfl,hq,cond_false,aw w1]
   obtain⟨tn,tx⟩:=t2
   rw[show ∀ κ:List D->ah,(ai 2 (.agg (cG (.mk tn tx))) fun f=>az [.str [],.nilrow] 0 f κ)=κ (cG (.mk tn tx))from fun κ=>by simp only[cG];rfl]
   rw[ac w5,aj,ff]
   by_cases h2:c2<=2000
   ·have e1:decide (((c2:Nat):Int)>2000)=false:=by simp;omega
    obtain⟨z1,z2,z3⟩:=w7 h2
    obtain⟨s3,d3,o3,_⟩:=w2.ob v x x0
    rw[e1]
    simp only[ak,cond_false,HG,Hq,XG,Nat.zero_add]
    rw[ac o3]
    simp only[fH,aj,ar,cG]
    obtain⟨a',H3,u1,u2,u3⟩:=(show Ac H2 0 3 (done.map oT) a from ha1.mv fun o st cp l h=>by rw[w4.at' o (by have:=ao h;simp;omega) (fun q=>by obtain⟨s,c,e⟩:=g1.nm q;rw[e]at h;cases h) (by have:=ao h;omega),List.getElem?_append_left (ao h)]).add3 (by rw[List.length_map];have:all.length=pre.length+(l.length+1):=(by rw[e];simp);omega) (oT (gH N v,ty v))
    rw[show ∀ κ:List D->ah,(ai 1 (.str x.n) fun n=>az [.str [],.str [],.nilrow] 0 n fun n=>az n 1 [.str tn,.row 2 (aM tx)] fun n=>ai 3 (.agg n) κ)=κ (oT (gH N v,ty v))from fun κ=>by rw[<- z1,nmo];simp only[oT,cG];rfl]
    rw[u1]
    have ih:=Gk hall rt ty hv hk l (pre++[v]) H3 L2 (done++[(gH N v,ty v)]) a' (w2.kq u3) (fun i hi=>(ht1 i hi).eqv w3) (fun i hi=>(hr1' i hi).trans (w3.ro i)) (by
     refine hd1.chg fun o n q=>?_
     obtain⟨h1,st,cp,l,h2⟩:=hd1.lt q
     have h3:H2[o]? = H1[o]?:=by rw[w4.at' o (by simp;omega) (fun q=>by obtain⟨s,c,e⟩:=g1.nm q;rw[e]at h2;cases h2) (by omega),List.getElem?_append_left h1]
     rw[u3.nb o (by have:=w4.len;simp at this;omega) (fun _ _ _ e=>by rw[h3,h2]at e;cases e),h3]) (by simpa using u2) (by rw[e];simp) (by simp;omega)
    rcases ih with⟨ih,v',hv',hw'⟩|⟨⟨H',ih⟩,ih2⟩
    ·exact .inl ⟨ih,v',List.mem_cons_of_mem _ hv',hw'⟩
    ·refine .inr ⟨⟨H',by rw[ih];simp[mN,hq]⟩,fun v' h h0=>?_⟩
     rcases List.mem_cons.1 h with rfl|h
     ·exact⟨by omega,by omega⟩
     ·exact ih2 v' h h0
   ·have e1:decide (((c2:Nat):Int)>2000)=true:=by simp;omega
    rw[e1]
    simp only[ak,cond_true]
    exact .inl ⟨⟨_,rfl⟩,v,List.mem_cons_self,hq,(by have:=w8 (by omega);omega)⟩
theorem Cv.all{N:List aH}{ks:List Nat}{P:Nat->Prop}(h:Cv [] N ks)(kid:∀(i:Nat) (x:aH),N[i]? = some x->∀ a∈x.a,a<i)(h1:∀ a∈ks,P a)(h2:∀(i:Nat) (x:aH),N[i]? = some x->P i->∀ a∈x.a,P a):∀ i,i<N.length->P i:=by
 have key:∀ n i,i<N.length->N.length - i<=n->P i:=fun n=>by
  induction n with
  |zero=>intro i hi hn;omega
  |succ n ih =>
   intro i hi hn
   rcases h i (Nat.zero_le _) hi with h|⟨m,x,hx,ha⟩
   ·exact h1 i h
   ·have:=kid m x hx i ha
    have:=ao hx
    exact h2 m x hx (ih m (by omega) (by omega)) i ha
 exact fun i hi=>key _ i hi (Nat.le_refl _)
theorem zc.rt{N:List aH}{L:Lk}(hc:zc N L []){i r n:Nat}(h:Rt L i r n):∀(x:aH),N[i]? = some x->x.v=false->∃ y,N[r]? = some y/\y.v=false/\x.n=y.n/\x.a.length=y.a.length/\∀(α:Type) (f:Nat->α),bT L f->x.a.map f=y.a.map f:=by
 induction h with
 |z _=>exact fun x hx hv=>⟨x,hx,hv,rfl,rfl,fun _ _ _=>rfl⟩
 |s h _ ih =>
  intro x hx hv
  obtain⟨y,a1,a2,a3,a4,a5⟩:=hc _ _ _ h hx hv
  obtain⟨z,b1,b2,b3,b4,b5⟩:=ih y a1 a2
  exact⟨z,b1,b2,a3.trans b3,a4.trans b4,fun α f hf=>(a5 α f hf (fun _ q=>nomatch q)).trans (b5 α f hf)⟩
theorem Tr.resp(N:List aH)(L:Lk)(hw:Wf L)(hl:∀ i j:Nat,L[i]? = some (some j)->j<L.length):bT L fun i=>∃ t,Tr N L i t:=fun i j h=>by
 obtain⟨r,n,k⟩:=hw j (hl i j h)
 refine propext ⟨fun⟨t,ht⟩=>⟨t,.of_rt k (ht.rt (.s h k))⟩,fun⟨t,ht⟩=>⟨t,.of_rt (.s h k) (ht.rt k)⟩⟩
theorem Tr.kid{N:List aH}{L:Lk}(hc:zc N L [])(hw:Wf L)(hl:∀ i j:Nat,L[i]? = some (some j)->j<L.length)(hv:∀(i:Nat) (x:aH),N[i]? = some x->x.v=true->x.a=[]){i:Nat}{x:aH}(hx:N[i]? = some x){t:Ty}(ht:Tr N L i t):∀ a∈x.a,∃ t,Tr N L a t:=fun a ha=>by
 cases q:x.v with
 |true=>rw[hv i x hx q]at ha;cases ha
 |false =>
  obtain⟨r,n,hr⟩:=ht.hasRt
  obtain⟨y,y1,y2,y3,_,y4⟩:=hc.rt hr x hx q
  have ht':=ht.rt hr
  have hts:∃ ts,oo N L y.a ts:=by
   cases ht' with
   |var k1 k2 k3=>obtain⟨rfl,_⟩:=k1.det (.z hr.root);rw[y1]at k2;cases k2;rw[y2]at k3;cases k3
   |con k1 k2 k3 k4=>obtain⟨rfl,_⟩:=k1.det (.z hr.root);rw[y1]at k2;cases k2;exact⟨_,k4⟩
  obtain⟨ts,hts⟩:=hts
  have e:=y4 Prop _ (Tr.resp N L hw hl)
  have all:∀ {l ts},oo N L l ts->∀ p∈l.map (fun i=>∃ t,Tr N L i t),p:=fun {l ts} h=>by
   induction l generalizing ts with
   |nil=>intro p hp;cases hp
   |cons b l ih =>
    cases h with
    |cons h1 h2 =>
    intro p hp
    rw[List.map_cons]at hp
    rcases List.mem_cons.1 hp with rfl|hp
    ·exact⟨_,h1⟩
    ·exact ih h2 p hp
  have:=all hts
  rw[<- e]at this
  exact this _ (List.mem_map_of_mem ha)
mutual
def uS(kind:af->Int):Ty->Prop
 |.mk n xs=>fF kind n xs.length=true/\ji kind xs
def ji(kind:af->Int):List Ty->Prop
 |[]=>True
 |t::r=>uS kind t/\ji kind r
end
theorem kJ{kind:af->Int}:∀ {l:List Ty},ji kind l↔∀ t∈l,uS kind t
 |[]=>by simp[ji]
 |t::r=>by rw[ji,kJ (l:=r)];simp
mutual
theorem RW{kind:af->Int}:∀ {t:Ty} {d c k:Nat},zA kind d t c=some k->uS kind t
 |.mk n xs,d,c,k,h=>by
  unfold zA at h
  split at h
  ·rename_i q
   exact⟨q.1,NL h⟩
  ·cases h
theorem NL{kind:af->Int}:∀ {l:List Ty} {d c k:Nat},rC kind d l c=some k->ji kind l
 |[],_,_,_,_=>trivial
 |t::r,d,c,k,h=>by
  unfold rC at h
  cases q:zA kind d t c with
  |none=>rw[q]at h;cases h
  |some c'=>rw[q]at h;exact⟨RW q,NL h⟩
end
mutual
theorem Sg{kind:af->Int}:∀ {t:Ty} {d c:Nat},uS kind t->c+bE t<=2000->d+mM t<=101->zA kind d t c=some (c+bE t)
 |.mk n xs,d,c,h,h1,h2=>by
  simp only[uS]at h
  simp only[bE]at h1 ⊢
  simp only[mM]at h2
  unfold zA
  rw[if_pos ⟨h.1,by omega,by omega⟩,OR h.2 (by omega) (by omega)]
  congr 1;omega
theorem OR{kind:af->Int}:∀ {l:List Ty} {d c:Nat},ji kind l->c+bE.tszs l<=2000->d+gc l<=101->rC kind d l c=some (c+bE.tszs l)
 |[],_,_,_,_,_=>by simp[rC,bE.tszs]
 |t::r,d,c,h,h1,h2=>by
  simp only[ji]at h
  simp only[bE.tszs]at h1 ⊢
  simp only[gc]at h2
  unfold rC
  rw[Sg h.1 (by omega) (by omega)]
  simp only
  rw[OR h.2 (by omega) (by omega)]
  congr 1;omega
end
theorem uT{kind:af->Int}{n:af}{k:Nat}(h:fF kind n k=true):k<=16:=by
 unfold fF at h
 split at h
 ·simp at h;omega
 ·split at h
  ·simp at h;omega
  ·split at h
   ·simp at h;omega
   ·split at h
    ·rename_i q;simp at q;omega
    ·simp at h;omega
theorem Ga{kind:af->Int}(k1:(kind [45,62]==4)=false)(k2:(kind [44]==4)=false){n:af}{k:Nat}(h:fF kind n k=true)(hv:(kind n==4)=true):k=0:=by
 unfold fF at h
 split at h
 ·simp at h;omega
 ·split at h
  ·rename_i q;have:n=[45,62]:=by simpa using q
   rw[this,k1]at hv;cases hv
  ·split at h
   ·rename_i q;have:n=[44]:=by simpa using q
    rw[this,k2]at hv;cases hv
   ·split at h
    ·rename_i q;simp at q;omega
    ·have e:kind n=4:=by simpa using hv
     rw[e]at h;simp at h
mutual
theorem RF{kind:af->Int}(k1:(kind [45,62]==4)=false)(k2:(kind [44]==4)=false):∀ {t:Ty},uS kind t->FZ (fun n=>kind n==4) t
 |.mk n xs,h=>by
  simp only[uS]at h
  exact⟨uT h.1,fun hv=>List.length_eq_zero_iff.1 (Ga k1 k2 h.1 hv),BC k1 k2 h.2⟩
theorem BC{kind:af->Int}(k1:(kind [45,62]==4)=false)(k2:(kind [44]==4)=false):∀ {l:List Ty},ji kind l->qC (fun n=>kind n==4) l
 |[],_=>trivial
 |t::r,h=>⟨RF k1 k2 h.1,BC k1 k2 h.2⟩
end
mutual
theorem Ma{kind:af->Int}:∀ {t:Ty},uS kind t->t.ok
 |.mk n xs,h=>by
  simp only[uS]at h
  exact⟨by have:=uT h.1;omega,Im h.2⟩
theorem Im{kind:af->Int}:∀ {l:List Ty},ji kind l->Ty.oks l
 |[],_=>trivial
 |t::r,h=>⟨Ma h.1,Im h.2⟩
end
theorem UO{kind:af->Int}{t:Ty}(h:uS kind t)(h1:bE t<=2000)(h2:mM t<=100):ee kind t≠0:=by
 unfold ee
 rw[Sg h (by omega) (by omega),Option.getD_some]
 cases t;simp only[bE];omega
theorem wi{kind:af->Int}{t:Ty}(h:ee kind t≠0):uS kind t:=by
 unfold ee at h
 cases q:zA kind 1 t 0 with
 |none=>rw[q]at h;exact(h rfl).elim
 |some k=>exact RW q
theorem rq{N:List aH}{rt:Nat->Bool}{ty:Nat->Ty}{n:af}{t:Ty}:∀ {l:List Nat},cP (mN N rt ty l) n=some t->∃ w∈l,rt w=false/\gH N w=n/\ty w=t
 |[],h=>by simp[mN,cP]at h
 |v::l,h=>by
  unfold mN at h
  cases q:rt v with
  |true =>
   rw[q]at h
   obtain⟨w,a1,a2⟩:=rq (l:=l) h
   exact⟨w,List.mem_cons_of_mem _ a1,a2⟩
  |false =>
   rw[q]at h
   simp only[Bool.false_eq_true,if_false,cP]at h
   split at h
   ·rename_i e
    cases h
    exact⟨v,List.mem_cons_self,q,by simpa using Eq.symm (by simpa using e),rfl⟩
   ·obtain⟨w,a1,a2⟩:=rq (l:=l) h
    exact⟨w,List.mem_cons_of_mem _ a1,a2⟩
theorem ta{N:List aH}{rt:Nat->Bool}{ty:Nat->Ty}:∀ {l:List Nat},(∀ v∈l,∀ w∈l,gH N v=gH N w->v=w)->∀ v∈l,cP (mN N rt ty l) (gH N v)=if rt v then none else some (ty v)
 |[],_,v,h=>nomatch h
 |u::l,hi,v,h=>by
  have ih:=ta (N:=N) (rt:=rt) (ty:=ty) (l:=l) fun v hv w hw=>hi v (List.mem_cons_of_mem _ hv) w (List.mem_cons_of_mem _ hw)
  cases q:rt v with
  |true =>
   rw[if_pos rfl]
   cases e:cP (mN N rt ty (u::l)) (gH N v)with
   |none=>rfl
   |some t =>
    obtain⟨w,a1,a2,a3,_⟩:=rq e
    rw[hi w a1 v h a3,q]at a2;cases a2
  |false =>
   rw[if_neg (by simp)]
   by_cases e:v=u
   ·subst e
    simp[mN,q,cP]
   ·have hv:v∈l:=by rcases List.mem_cons.1 h with h|h;exact(e h).elim;exact h
    have hn:gH N v≠gH N u:=fun k=>e (hi v h u List.mem_cons_self k)
    have hn':(gH N v==gH N u)=false:=by simpa using hn
    have:=ih v hv
    rw[q,if_neg (by simp)]at this
    unfold mN
    cases rt u with
    |true=>simpa using this
    |false=>simp only[Bool.false_eq_true,if_false,cP,if_neg hn];exact this
theorem Di{N:List aH}{rt:Nat->Bool}{ty:Nat->Ty}{q:af×Ty}:∀ {l:List Nat},q∈mN N rt ty l->∃ v∈l,rt v=false/\q.2=ty v
 |[],h=>nomatch h
 |v::l,h=>by
  unfold mN at h
  split at h
  ·obtain⟨w,a,b⟩:=Di h
   exact⟨w,List.mem_cons_of_mem _ a,b⟩
  ·rename_i e
   rcases List.mem_cons.1 h with rfl|h
   ·exact⟨v,List.mem_cons_self,by simpa using e,rfl⟩
   ·obtain⟨w,a,b⟩:=Di h
    exact⟨w,List.mem_cons_of_mem _ a,b⟩
mutual
theorem Tr.V{kind:af->Int}{N:List aH}{L:Lk}(h:∀(i:Nat) (x:aH),N[i]? = some x->fF kind x.n x.a.length=true)(hv:∀(i:Nat) (x:aH),N[i]? = some x->x.v=true->x.a=[]):∀ {i t},Tr N L i t->uS kind t
 |_,_,.var h1 h2 h3=>by
  have:=h _ _ h2
  rw[hv _ _ h2 h3]at this
  exact⟨this,trivial⟩
 |_,_,.con h1 h2 h3 h4=>by
  have:=h _ _ h2
  obtain⟨e,k⟩:=oo.V h hv h4
  rw[<- e]at this
  exact⟨this,k⟩
theorem oo.V{kind:af->Int}{N:List aH}{L:Lk}(h:∀(i:Nat) (x:aH),N[i]? = some x->fF kind x.n x.a.length=true)(hv:∀(i:Nat) (x:aH),N[i]? = some x->x.v=true->x.a=[]):∀ {l ts},oo N L l ts->ts.length=l.length/\ji kind ts
 |_,_,.nil=>⟨rfl,trivial⟩
 |_,_,.cons h1 h2=>by
  obtain⟨e,k⟩:=oo.V h hv h2
  exact⟨by simp[e],Tr.V h hv h1,k⟩
end
end Go.Proofs.YtenibcfppefobaaGreatDoor
namespace Go.Proofs.YtenibcfppefobaaGreatDoor
open Go.AI
abbrev mL:=List Nat->Option (af×Nat)
def vV(n:af)(ts:List mL):mL
 |[]=>some (n,ts.length)
 |k::p=>match ts[k]? with
  |some t=>t p
  |none=>none
theorem Mg{n m:af}{ts us:List mL}(h:vV n ts=vV m us):n=m/\ts=us:=by
 have h0:=congrFun h []
 simp only[vV,Option.some.injEq,Prod.mk.injEq]at h0
 refine⟨h0.1,List.ext_getElem? fun k=>?_⟩
 rcases Nat.lt_or_ge k ts.length with q|q
 ·have q2:k<us.length:=by omega
  rw[List.getElem?_eq_getElem q,List.getElem?_eq_getElem q2]
  congr 1
  funext p
  have:=congrFun h (k::p)
  simpa[vV,List.getElem?_eq_getElem q,List.getElem?_eq_getElem q2]using this
 ·rw[List.getElem?_eq_none q,List.getElem?_eq_none (by omega)]
mutual
def Oe(isV:af->Bool)(θ:af->mL):Ty->mL
 |.mk n xs=>if isV n=true/\xs=[] then θ n else vV n (QN isV θ xs)
def QN(isV:af->Bool)(θ:af->mL):List Ty->List mL
 |[]=>[]
 |t::r=>Oe isV θ t::QN isV θ r
end
theorem EW(isV:af->Bool)(θ:af->mL):∀ l,QN isV θ l=l.map (Oe isV θ)
 |[]=>rfl
 |t::r=>by simp[QN,EW isV θ r]
theorem CL{isV:af->Bool}{θ:af->mL}{n:af}{xs:List Ty}(h:isV n=false):Oe isV θ (.mk n xs)=vV n (xs.map (Oe isV θ)):=by
 rw[Oe,if_neg (fun q=>by rw[h]at q;cases q.1),EW]
theorem QO{isV:af->Bool}{θ:af->mL}{n:af}(h:isV n=true):Oe isV θ (.mk n [])=θ n:=by
 rw[Oe,if_pos ⟨h,rfl⟩]
def Lv(isV:af->Bool)(all:List Ty):Prop:=∃ θ:af->mL,∀ t∈all,∀ t'∈all,Oe isV θ t=Oe isV θ t'
theorem QM{N:List aH}{T:List Ty}{isV:af->Bool}(g:GN N T isV)(θ:af->mL):zP N fun i=>Oe isV θ (sE T i):=fun i j x y hx hy vx vy e=>by
 simp only at e
 rw[g.con' hx vx,g.con' hy vy,CL (g.con i x hx vx).1,CL (g.con j y hy vy).1]at e
 obtain⟨e1,e2⟩:=Mg e
 exact⟨e1,by rw[List.map_map,List.map_map]at e2;exact e2⟩
section
variable(N:List aH)(L:Lk)
open Classical in
def Vl(i:Nat):Nat:=if h:∃ r n,Rt L i r n then h.choose else i
theorem Gv{L:Lk}{i r n:Nat}(h:Rt L i r n):Vl L i=r:=by
 have q:∃ r n,Rt L i r n:=⟨r,n,h⟩
 unfold Vl
 rw[dif_pos q]
 obtain⟨m,hm⟩:=q.choose_spec
 exact(hm.det h).1
def Sr:List Nat->Nat->Option (af×Nat)
 |[],i=>(N[Vl L i]?).map fun y=>(y.n,y.a.length)
 |k::p,i=>match(N[Vl L i]?).bind fun y=>y.a[k]? with
  |some c=>Sr p c
  |none=>none
def Pf(i:Nat):mL:=fun p=>Sr N L p i
end
variable{N:List aH}{L:Lk}
theorem TN{i:Nat}{y:aH}(h:N[Vl L i]? = some y):Pf N L i=vV y.n (y.a.map (Pf N L)):=by
 funext p
 cases p with
 |nil=>simp[Pf,Sr,vV,h]
 |cons k p =>
  show Sr N L (k::p) i=_
  rw[Sr,h]
  simp only[Option.bind_some,vV,List.getElem?_map]
  cases y.a[k]? with
  |none=>rfl
  |some c=>rfl
theorem EE(hw:Wf L)(hl:∀ i j:Nat,L[i]? = some (some j)->j<L.length):bT L (Pf N L):=fun i j h=>by
 obtain⟨r,n,k⟩:=hw j (hl i j h)
 have e1:=Gv k
 have e2:=Gv (.s h k)
 funext p
 cases p with
 |nil=>simp only[Pf,Sr,e1,e2]
 |cons q p=>simp only[Pf,Sr,e1,e2]
theorem QC(hc:zc N L [])(hw:Wf L)(hl:∀ i j:Nat,L[i]? = some (some j)->j<L.length)(hN:N.length=L.length){i:Nat}{x:aH}(hx:N[i]? = some x)(hv:x.v=false):Pf N L i=vV x.n (x.a.map (Pf N L)):=by
 obtain⟨r,n,k⟩:=hw i (by rw[<- hN];exact ao hx)
 obtain⟨y,a1,a2,a3,a4,a5⟩:=hc.rt k x hx hv
 rw[TN (y:=y) (by rw[Gv k];exact a1),a5 _ _ (EE hw hl),a3]
open Classical in
def WX(N:List aH)(L:Lk)(n:af):mL:=if h:∃ i,∃ x:aH,N[i]? = some x/\x.v=true/\x.n=n then Pf N L h.choose else fun _=>none
theorem Od{T:List Ty}{isV:af->Bool}(g:GN N T isV)(hc:zc N L [])(hw:Wf L)(hl:∀ i j:Nat,L[i]? = some (some j)->j<L.length)(hN:N.length=L.length)(i:Nat)(hi:i<N.length):Oe isV (WX N L) (sE T i)=Pf N L i:=by
 induction i using Nat.strongRecOn with
 |ind i ih =>
  have hx:=List.getElem?_eq_getElem hi
  generalize N[i]=x at hx
  cases hv:x.v with
  |true =>
   obtain⟨a1,a2,_⟩:=g.var i x hx hv
   rw[gt a1,QO a2]
   have q:∃ j,∃ y:aH,N[j]? = some y/\y.v=true/\y.n=x.n:=⟨i,x,hx,hv,rfl⟩
   unfold WX
   rw[dif_pos q]
   obtain⟨y,b1,b2,b3⟩:=q.choose_spec
   rw[g.inj _ _ _ _ b1 hx b2 hv b3]
  |false =>
   rw[g.con' hx hv,CL (g.con i x hx hv).1,QC hc hw hl hN hx hv,List.map_map]
   congr 1
   refine List.map_congr_left fun a ha=>?_
   have:=(g.con i x hx hv).2.1 a ha
   exact ih a this (by omega)
inductive jJ:Ty->Ty->Prop
 |refl (t:Ty):jJ t t
 |step {s u:Ty} {n:af} {xs:List Ty}:u∈xs->jJ s u->jJ s (.mk n xs)
def jK(all:List Ty)(u:Ty):Prop:=∃ t∈all,jJ u t
theorem jJ.kid{n:af}{ts:List Ty}{t c:Ty}(h:jJ (.mk n ts) t)(hc:c∈ts):jJ c t:=by
 generalize e:Ty.mk n ts=w at h
 induction h with
 |refl=>subst e;exact .step hc (.refl _)
 |step h1 h2 ih=>exact .step h1 ih
theorem jJ.node{T:List Ty}{isV:af->Bool}(g:GN N T isV){u t:Ty}(h:jJ u t):∀ i,i<N.length->sE T i=t->∃ j,j<N.length/\sE T j=u:=by
 induction h with
 |refl=>exact fun i hi e=>⟨i,hi,e⟩
 |step h1 _ ih =>
  intro i hi e
  have hx:=List.getElem?_eq_getElem hi
  generalize N[i]=x at hx
  cases hv:x.v with
  |true =>
   rw[gt (g.var i x hx hv).1]at e
   injection e with _ e
   rw[<- e]at h1;cases h1
  |false =>
   rw[g.con' hx hv]at e
   injection e with _ e
   rw[<- e]at h1
   obtain⟨a,ha,rfl⟩:=List.mem_map.1 h1
   have:=(g.con i x hx hv).2.1 a ha
   exact ih a (by omega) rfl
end Go.Proofs.YtenibcfppefobaaGreatDoor
namespace Go.Proofs.YtenibcfppefobaaGreatDoor
open Go.AI
structure Pk(kind:af->Int)(all:List Ty)(μ:af->Option Ty):Prop where
 vs:Vs (fun n=>kind n==4) μ
 eq:∀ t∈all,∀ t'∈all,sub μ t=sub μ t'
 gen:∀ s,Vs (fun n=>kind n==4) s->(∀ t∈all,∀ t'∈all,sub s t=sub s t')->∀ u,jK all u->sub s (sub μ u)=sub s u
theorem mgu{kind:af->Int}{N:List aH}{L:Lk}{T:List Ty}{vs ks:List Nat}{all:List Ty}{rt:Nat->Bool}{ty:Nat->Ty}(gn:GN N T (fun n=>kind n==4))(hc:zc N L [])(hl:N.length=L.length)
 (hTr:∀ i,i<N.length->Tr N L i (ty i)) (vs1:∀(i:Nat) (x:aH),N[i]? = some x->x.v=true->i∈vs) (vs2:∀ i∈vs,∃ x,N[i]? = some x/\x.v=true) (hk:∀ a∈ks,a<N.length) (hT:ks.map (fun a=>T[a]?)=all.map some)
 (heq:∀ f:Nat->Ty,bT L f->∀ a∈ks,∀ b∈ks,f a=f b) (hgen:∀ f:Nat->Ty,zP N f->(∀ a∈ks,∀ b∈ks,f a=f b)->bT L f)
 (isSub:∀ i,i<N.length->jK all (sE T i)) (hrt:∀ i,i<N.length->(rt i=true↔L[i]? = some none)) :
 Pk kind all (cP (mN N rt ty vs))/\(∀ v∈vs,rt v=false->∃ n,(kind n==4)=true/\jK all (.mk n [])/\sub (cP (mN N rt ty vs)) (.mk n [])=ty v)/\∀ n,(kind n==4)=true->jK all (.mk n [])->sub (cP (mN N rt ty vs)) (.mk n [])=.mk n []\/∃ v∈vs,rt v=false/\sub (cP (mN N rt ty vs)) (.mk n [])=ty v:=by
 have hTe:∀ i,i<N.length->sH N L i=ty i:=fun i hi=>iM (hTr i hi)
 have vlt:∀ v∈vs,v<N.length:=fun v h=>by obtain⟨x,hx,_⟩:=vs2 v h;exact ao hx
 have nmv:∀(v:Nat) (x:aH),N[v]? = some x->gH N v=x.n:=fun v x h=>by simp[gH,h]
 have inj:∀ v∈vs,∀ w∈vs,gH N v=gH N w->v=w:=fun v hv w hw e=>by
  obtain⟨x,hx,vx⟩:=vs2 v hv
  obtain⟨y,hy,vy⟩:=vs2 w hw
  rw[nmv v x hx,nmv w y hy]at e
  exact gn.inj v w x y hx hy vx vy e
 have kv:∀ v∈vs,(kind (gH N v)==4)=true:=fun v hv=>by
  obtain⟨x,hx,vx⟩:=vs2 v hv
  rw[nmv v x hx]
  exact(gn.var v x hx vx).2.1
 have hVs:Vs (fun n=>kind n==4) (cP (mN N rt ty vs)):=fun n t h=>by
  obtain⟨w,a1,_,a2,_⟩:=rq h
  rw[<- a2];exact kv w a1
 have sol:YY N L (fun n=>kind n==4) (cP (mN N rt ty vs)):=⟨fun i x hx vx=>by
  have hi:=ao hx
  rw[<- nmv i x hx,ta inj i (vs1 i x hx vx)]
  cases q:rt i with
  |true=>rw[if_pos rfl,if_pos ((hrt i hi).1 q)]
  |false =>
   rw[if_neg (by simp),if_neg (fun k=>by rw[(hrt i hi).2 k]at q;cases q),hTe i hi],hVs⟩
 have ofAll:∀ t∈all,∃ k∈ks,sE T k=t/\k<N.length:=fun t ht=>by
  have:some t∈ks.map (fun a=>T[a]?):=by rw[hT];exact List.mem_map_of_mem ht
  obtain⟨k,h1,h2⟩:=List.mem_map.1 this
  exact⟨k,h1,gt h2,hk k h1⟩
 have toAll:∀ k∈ks,sE T k∈all:=fun k hk=>by
  have:T[k]?∈all.map some:=by rw[<- hT];exact List.mem_map_of_mem (f:=fun a=>T[a]?) hk
  obtain⟨t,h1,h2⟩:=List.mem_map.1 this
  rw[gt h2.symm];exact h1
 have hT':∀ i,i<L.length->∃ t,Tr N L i t:=fun i hi=>⟨_,hTr i (by rw[hl];exact hi)⟩
 have ap:∀ k,k<N.length->sub (cP (mN N rt ty vs)) (sE T k)=ty k:=fun k hk=>(sol.ap gn hc hT' hl k hk).trans (hTe k hk)
 have node:∀ u,jK all u->∃ j,j<N.length/\sE T j=u:=fun u ⟨t,ht,hu⟩=>by
  obtain⟨k,_,e,hk⟩:=ofAll t ht
  exact hu.node gn k hk e
 refine⟨⟨hVs,fun t ht t' ht'=>?_,fun s hs he u hu=>?_⟩,fun v hv q=>?_,fun n hn hu=>?_⟩
 ·obtain⟨k,a1,rfl,a2⟩:=ofAll t ht
  obtain⟨k',b1,rfl,b2⟩:=ofAll t' ht'
  rw[ap k a2,ap k' b2,<- hTe k a2,<- hTe k' b2]
  exact heq _ (zT hT') k a1 k' b1
 ·obtain⟨j,hj,rfl⟩:=node u hu
  rw[ap j hj]
  have hr:bT L fun i=>sub s (sE T i):=hgen _ (gn.mod hs).comp fun a ha b hb=>he _ (toAll a ha) _ (toAll b hb)
  exact Tr.gen gn hs hr (hTr j hj)
 ·obtain⟨x,hx,vx⟩:=vs2 v hv
  obtain⟨a1,a2,_⟩:=gn.var v x hx vx
  have e:=gt a1
  refine⟨x.n,a2,by rw[<- e];exact isSub v (ao hx),?_⟩
  rw[<- e];exact ap v (ao hx)
 ·obtain⟨j,hj,e⟩:=node _ hu
  have hx:=List.getElem?_eq_getElem hj
  generalize N[j]=x at hx
  cases vx:x.v with
  |false =>
   rw[gn.con' hx vx]at e
   injection e with e1 e2
   have:=(gn.con j x hx vx).1
   rw[e1,hn]at this;cases this
  |true =>
   cases q:rt j with
   |true =>
    refine .inl ?_
    have h1:=ap j hj
    rw[e]at h1
    rw[h1,<- e,gt (gn.var j x hx vx).1,<- hTe j hj]
    exact iM (.var (.z ((hrt j hj).1 q)) hx vx)
   |false=>exact .inr ⟨j,vs1 j x hx vx,q,by rw[<- e];exact ap j hj⟩
def Zd(kind:af->Int)(all:List Ty):Prop:=∀ s,Vs (fun n=>kind n==4) s->¬ ∀ t∈all,∀ t'∈all,sub s t=sub s t'
def OZ(t:Ty):Prop:=2000<bE t\/100<mM t
theorem GT.nil{isV:af->Bool}(H:DH):GT isV (H++[.map []]++[.cells 0 [.map H.length,.nilrow]]) (H.length+1) H.length .nilrow [] [] [] [] []:=by
 have h1:(H++[DB.map []]++[.cells 0 [.map H.length,.nilrow]])[H.length+1]? = some (.cells 0 [.map H.length,.nilrow]):=by
  have:=bk (H++[DB.map []]) (.cells 0 [.map H.length,.nilrow])
  simpa using this
 have no:∀(i:Nat) (x:aH),([]:List aH)[i]? = some x->False:=fun i x h=>by simp at h
 exact⟨rfl,List.nodup_nil,fun i x h=>(no i x h).elim,fun i x h=>(no i x h).elim,⟨rfl,fun i x h=>(no i x h).elim,fun i x h=>(no i x h).elim,fun i _ x _ h=>(no i x h).elim⟩,⟨0,h1⟩,.inl ⟨rfl,rfl⟩,fun _ _ h=>(by cases h),cW (bk _ _),fun i x h=>(no i x h).elim,fun _ h=>(nomatch h),fun h=>(nomatch h),fun _ h=>(nomatch h),Nat.le_refl _,List.nodup_nil,fun k v h=>by simp at h⟩
theorem PD{os:List Nat}{N:List aH}{d:D}{p:Nat}{ks:List Nat}(h16:ks.length<=16)(hk:∀ a∈ks,a<N.length){H:DH}{L:Lk}(g:cC H os N L)(hw:Wf L)(hd:bM H d (ks.map (oN os))) :
 ∃ q H' L' E,ae am 8 200017 [.g (.ptr p 0),.g d,.g d,.n (ks.length:Nat),.n 0] [] H=(match q with|true=>Ke d p H'|false=>ret (.tuple [.row 3 [],.i 30]) H')/\cC H' os N L'/\US N L E q L'/\vO H H' os/\∀(α:Type) (f:Nat->α),(∀ p∈E,f p.1=f p.2)↔∀ a∈ks,∀ b∈ks,f a=f b:=by
 cases ks with
 |nil =>
  refine⟨true,H,L,[],cM (tG) ?_,g,.nil hw,.refl _ _,fun α f=>by simp⟩
  have hlt:decide ((0:Int)<((([]:List Nat).length:Nat):Int))=false:=by simp
  rw[hlt,cond_false]
  rfl
 |cons a0 r =>
  obtain⟨q,H',L',r1,r2,r3,r4⟩:=Mu (p:=p) h16 (a0:=a0) rfl hk (a0::r) [] H L g hw hd rfl
  refine⟨q,H',L',_,r1,r2,r3,r4,fun α f=>⟨fun h a ha b hb=>?_,fun h p hp=>?_⟩⟩
  ·have h1:=h (a0,a) (List.mem_map_of_mem ha)
   have h2:=h (a0,b) (List.mem_map_of_mem hb)
   exact h1.symm.trans h2
  ·obtain⟨a,ha,rfl⟩:=List.mem_map.1 hp
   exact h a0 List.mem_cons_self a ha
end Go.Proofs.YtenibcfppefobaaGreatDoor
namespace Go.Proofs.YtenibcfppefobaaGreatDoor
open Go.AI
mutual
theorem Mj(s:af->Option Ty):∀ t,bE t<=bE (sub s t)/\mM t<=mM (sub s t)
 |.mk n xs=>by
  have h:=Is s xs
  unfold sub
  split
  ·rename_i u _
   cases u
   simp only[bE,bE.tszs,mM,gc]
   omega
  ·simp only[bE,mM]
   omega
theorem Is(s:af->Option Ty):∀ l,bE.tszs l<=bE.tszs (DI s l)/\gc l<=gc (DI s l)
 |[]=>by simp[DI]
 |t::r=>by
  have h1:=Mj s t
  have h2:=Is s r
  simp only[DI,bE.tszs,gc]
  omega
end
variable{kind:af->Int}{all all':List Ty}(hm:∀ t,t∈all↔t∈all')
include hm
theorem Zd.no{μ:af->Option Ty}(h:Zd kind all)(k:Pk kind all' μ):False :=
 h μ k.vs fun t ht t' ht'=>k.eq t ((hm t).1 ht) t' ((hm t').1 ht')
theorem Pk.to{μ ν:af->Option Ty}(h:Pk kind all μ)(k:Pk kind all' ν){u:Ty}(hu:jK all u):sub ν (sub μ u)=sub ν u :=
 h.gen ν k.vs (fun t ht t' ht'=>k.eq t ((hm t).1 ht) t' ((hm t').1 ht')) u hu
theorem Pk.fat{μ ν:af->Option Ty}(h:Pk kind all μ)(k:Pk kind all' ν){u:Ty}(hu:jK all u)(hf:OZ (sub μ u)):OZ (sub ν u):=by
 have:=Mj ν (sub μ u)
 rw[h.to hm k hu]at this
 unfold OZ at hf ⊢
 omega
end Go.Proofs.YtenibcfppefobaaGreatDoor
namespace Go.Proofs.YtenibcfppefobaaGreatDoor
open Go.AI
mutual
theorem Gb{kind:af->Int}:∀(t:Ty) (o:List af),o.Nodup->(BD kind t o).Nodup/\(∀ n∈o,n∈BD kind t o)/\(BD kind t o).length<=o.length+bE t
 |.mk n xs,o,h=>by
  simp only[BD,bE]
  split
  ·rename_i q
   obtain⟨h1,h2,h3⟩:=ij xs (o++[n]) (by
    rw[List.nodup_append]
    exact⟨h,by simp,fun a ha b hb=>by simp at hb;subst hb;intro e;subst e;exact q.2 ha⟩)
   refine⟨h1,fun m hm=>h2 m (List.mem_append_left _ hm),?_⟩
   simp at h3;omega
  ·obtain⟨h1,h2,h3⟩:=ij xs o h
   exact⟨h1,h2,by omega⟩
theorem ij{kind:af->Int}:∀(l:List Ty) (o:List af),o.Nodup->(dO kind l o).Nodup/\(∀ n∈o,n∈dO kind l o)/\(dO kind l o).length<=o.length+bE.tszs l
 |[],o,h=>⟨h,fun _ h=>h,Nat.le_add_right _ _⟩
 |t::r,o,h=>by
  obtain⟨h1,h2,h3⟩:=Gb t o h
  obtain⟨k1,k2,k3⟩:=ij r _ h1
  simp only[dO,bE.tszs]
  exact⟨k1,fun n hn=>k2 n (h2 n hn),by omega⟩
end
mutual
def KD(kind:af->Int)(L:List af):Ty->Prop
 |.mk n xs=>((kind n==4)=true->n∈L)/\rE kind L xs
def rE(kind:af->Int)(L:List af):List Ty->Prop
 |[]=>True
 |t::r=>KD kind L t/\rE kind L r
end
mutual
theorem Ey{kind:af->Int}{L L':List af}(h:∀ n∈L,n∈L'):∀ t,KD kind L t->KD kind L' t
 |.mk n xs,k=>by
  simp only[KD]at k ⊢
  exact⟨fun q=>h n (k.1 q),AM h xs k.2⟩
theorem AM{kind:af->Int}{L L':List af}(h:∀ n∈L,n∈L'):∀ l,rE kind L l->rE kind L' l
 |[],_=>trivial
 |t::r,k=>⟨Ey h t k.1,AM h r k.2⟩
end
mutual
theorem Qw{kind:af->Int}:∀(t:Ty) (o:List af),o.Nodup->KD kind (BD kind t o) t
 |.mk n xs,o,h=>by
  simp only[KD,BD]
  split
  ·rename_i q
   have hn:(o++[n]).Nodup:=by
    rw[List.nodup_append]
    exact⟨h,by simp,fun a ha b hb=>by simp at hb;subst hb;intro e;subst e;exact q.2 ha⟩
   exact⟨fun _=>(ij xs _ hn).2.1 n (by simp),rD xs _ hn⟩
  ·rename_i q
   refine⟨fun k=>(ij xs o h).2.1 n ?_,rD xs o h⟩
   exact Classical.byContradiction fun hh=>q ⟨k,hh⟩
theorem rD{kind:af->Int}:∀(l:List Ty) (o:List af),o.Nodup->rE kind (dO kind l o) l
 |[],_,_=>trivial
 |t::r,o,h=>by
  have h1:=Gb (kind:=kind) t o h
  exact⟨Ey (ij r _ h1.1).2.1 t (Qw t o h),rD r _ h1.1⟩
end
section
variable{kind:af->Int}{σ τ:af->Option Ty}(hσ:Vs (fun n=>kind n==4) σ)(hτ:Vs (fun n=>kind n==4) τ)
include hσ hτ
end
section
variable{kind:af->Int}{σ τ:af->Option Ty}(hσ:Vs (fun n=>kind n==4) σ)(hτ:Vs (fun n=>kind n==4) τ)
include hσ hτ
end
end Go.Proofs.YtenibcfppefobaaGreatDoor
