/- Evaluators by which runs of the program are reckoned, that they are sound, and what the functions answer: part 5. No conditions beyond those of the row. -/
import Derived.Test.YtenibcfppefobaaGreatDoorA4
import Derived.Test.YtenibcfppefobaaGreatDoorT1
import Derived.Lib.QuietBelow
set_option linter.all false
noncomputable section
set_option linter.all false
noncomputable section
namespace Go.Proofs.YtenibcfppefobaaGreatDoor
open Go.AI
variable{l:ac}{K p A B bx y m oc:Nat}
def Sz(T:eA):Prop:=∀ cs r,T=cs::r->∃(k v:Int) (t:ac) (a:Int),cs=(xT k v t a)
theorem Er.f{at2:Nat}{T:eA}(h0:at2=l.length->T=[])(hF:Er l at2 T)(h1:at2<=l.length):Sz T:=fun cs r e=>by
 rcases Nat.lt_or_ge at2 l.length with q|q
 ·obtain⟨k,v,n,r',h,_⟩:=hF q
  grind
 grind
theorem Nw(hl:l.length<=24)(kp:K<=p)(ko:K<=oc){H:DH}(hS:Ex H p l 0 m oc [])(hT:TA K H l p A B bx y []) :
 (∃ H2 T,az 183 [.yld (y+1),.ptr bx 0] H=ret (.tuple []) H2/\TA K H2 l p A B bx y T/\rD l (oD l T)/\Kp K H H2/\Sz T) \/
 (∃(a e:Int) (H2:DH) (T:eA),e≠0/\az 183 [.yld (y+1),.ptr bx 0] H=pan (wr a e) H2/\TA K H2 l p A B bx y T/\rD l 0/\Kp K H H2):=by
 rw[show az 183 [.yld (y+1),.ptr bx 0] H=_ from ev (VI) rfl]
 obtain⟨sb,hb⟩:=hT.hb
 simp only[ae hb,aj]
 rcases Hj hl (Nat.zero_le _) (by simp;omega) hS with⟨at2,c2,H2,j1,j2,j3,j4,j5,j6,j7,j8⟩|⟨a,e,H2,j1,j2,j3,j4⟩
 ·have hT2:=hT.fr hS.hc j6 (by obtain⟨st,h⟩:=hS.hp;exact⟨_,_,h⟩)
  rw[ao j1]
  rcases yE hl kp ko _ at2 H2 c2 [] rfl j4 j5 (by simp;omega) j2 hT2 with⟨H3,r,i1,i2,i3,i4,i5⟩|⟨a,e,H3,T,i1,i2,i3,i4,i5⟩
  ·exact .inl ⟨H3,r,i1,i2,LT hl i3 i4 j4 j7 j8,(Kp.of j6 kp ko).trans i5,Er.f i3 i4 j4⟩
  ·refine .inr ⟨a,e,H3,T,i1,i2,i3,CU hl ?_,(Kp.of j6 kp ko).trans i5⟩
   by_cases hs:skip l 0
   ·exact .inl hs
   ·rw[j7 hs]at i4;exact .inr i4
 ·rw[zZ j2]
  exact .inr ⟨a,e,H2,[],j1,rfl,hT.fr hS.hc j3 (by obtain⟨st,h⟩:=hS.hp;exact⟨_,_,h⟩),CU hl (.inl j4),Kp.of j3 kp ko⟩
theorem Ri(s o n:Nat)(H:DH)(κ:D->ag):eC ab 141 (.buf s o n) H κ=κ (.i (n:Int)):=by kernel_rfl
theorem Ou(H:DH)(κ:D->ag):eC ab 141 .nilrow H κ=κ (.i 0):=by kernel_rfl
theorem TD(o n i:Nat)(κ:D->ag):cE ab 141 (.buf 4 o n) (.i i) κ=boK (Nat.blt i n) (κ (.bptr o n i 0)):=by kernel_rfl
theorem TJ(o n i c k:Nat)(κ:D->ag):dt (.bptr o n i c) k κ=κ (.bptr o n i (c+k)):=rfl
theorem UX(o n i c:Nat)(H:DH)(κ:D->ag):eZ ab 3 (.bptr o n i c) H κ=gF H o n fun _ _ _ l=>eP l i fun cs=>aF cs c κ:=by kernel_rfl
theorem UW(o n i c:Nat)(H:DH)(κ:D->ag):eZ ab 9 (.bptr o n i c) H κ=gF H o n fun _ _ _ l=>eP l i fun cs=>aF cs c κ:=by kernel_rfl
def VW(H:DH)(v:D)(T:eA):Prop:=(T=[]/\v=.nilrow)\/(T≠[]/\∃ X,v=.buf 4 X T.length/\H[X]? = some (DB.buf 4 true false T))
theorem EN(hl:l.length<=24)(H:DH):∃(H2:DH) (d v:D) (a e:Int) (T:eA),az 87 [.str l] H=ret (.tuple [d,v,.agg [.i a,.i e]]) H2/\VW H2 v T/\rD l (if e=0 then oD l T else 0)/\Kp H.length H H2/\Sz T:=by
 rw[show az 87 [.str l] H=_ from ev (WL) rfl]
 have hA0:=aK (.cells 0 [.i 0,.i 0]) (bD H (.cells 0 [.nilrow]))
 have hB0:=bD (H++[DB.cells 0 [.nilrow]]) (.cells 0 [.i 0,.i 0])
 have hl1:(H++[DB.cells 0 [.nilrow]]).length=H.length+1:=by simp
 dsimp only
 rw[hl1]at hB0 ⊢
 have k0:Kp H.length H (H++[DB.cells 0 [.nilrow]]++[DB.cells 0 [.i 0,.i 0]]):=fun o b _ h=>aK _ (aK _ h)
 have hl2:(H++[DB.cells 0 [.nilrow]]++[DB.cells 0 [.i 0,.i 0]]).length=H.length+2:=by simp
 generalize H++[DB.cells 0 [.nilrow]]++[DB.cells 0 [.i 0,.i 0]]=H1 at hA0 hB0 k0 hl2 ⊢
 obtain⟨H2,e1,hS,kS⟩:=QQ l H1
 rw[ao e1]
 rw[hl2]at hS
 have e2:az 134 [.ptr (H1.length+2) 0] H2=ret (.func 183 [] [.ptr H2.length 0]) (H2++[.cells 0 [.ptr (H1.length+2) 0]]):=ev (VK) rfl
 rw[iO e2]
 have hA2:=aK (.cells 0 [.ptr (H1.length+2) 0]) (kS _ _ hA0)
 have hB2:=aK (.cells 0 [.ptr (H1.length+2) 0]) (kS _ _ hB0)
 have hb2:=bD H2 (.cells 0 [.ptr (H1.length+2) 0])
 have hS2:Ex (H2++[.cells 0 [.ptr (H1.length+2) 0]]) (H.length+2+2) l 0 (H.length+2) (H.length+2+1) []:=⟨by obtain⟨st,h⟩:=hS.hp;exact⟨st,aK _ h⟩,aK _ hS.hm,aK _ hS.hc⟩
 have lt2:H.length+2+2<H2.length:=by
  obtain⟨st,h⟩:=hS.hp
  grind
 have k2:Kp H.length H (H2++[.cells 0 [.ptr (H1.length+2) 0]]):=fun o b h1 h2=>aK _ (kS _ _ (k0 o b h1 h2))
 have hbx:H2.length<(H2++[DB.cells 0 [.ptr (H1.length+2) 0]]).length:=by simp
 rw[hl2]at hA2 hB2 hb2 hS2 k2 hbx ⊢
 generalize H2++[DB.cells 0 [.ptr (H.length+2+2) 0]]=H3 at hA2 hB2 hb2 hS2 k2 hbx ⊢
 generalize H2.length=bx at hb2 lt2 hbx ⊢
 show ∃(H2:DH) (d v:D) (a e:Int) (T:eA),IX (.func 183 [] [.ptr bx 0]) _=_/\_
 simp only[IX,List.nil_append]
 have ey:H3++[DB.coll,Re de 87 [0,2,3,4,6,7,8,9,10] [.g (.str l),.g (.ptr (H.length+2+2) 0),.g (.ptr H.length 0),.g (.ptr (H.length+1) 0),.g (.str l),.g (.ptr (H.length+2+2) 0),.g (.func 133 [] [.ptr H.length 0,.ptr (H.length+1) 0]),.g (.ptr (H.length+2+2) 0),.g (.func 183 [] [.ptr bx 0])]]=(H3++[DB.coll])++[HB l (H.length+2+2) H.length (H.length+1) bx]:=by rw[List.append_assoc];rfl
 rw[ey]
 have hly:(H3++[DB.coll]).length=H3.length+1:=by simp
 have hS3:Ex ((H3++[DB.coll])++[HB l (H.length+2+2) H.length (H.length+1) bx]) (H.length+2+2) l 0 (H.length+2) (H.length+2+1) []:=⟨by obtain⟨st,h⟩:=hS2.hp;exact⟨st,aK _ (aK _ h)⟩,aK _ (aK _ hS2.hm),aK _ (aK _ hS2.hc)⟩
 have hT3:TA H.length ((H3++[DB.coll])++[HB l (H.length+2+2) H.length (H.length+1) bx]) l (H.length+2+2) H.length (H.length+1) bx H3.length [] :=
  ⟨⟨0,.nilrow,aK _ (aK _ hA2),.inl ⟨rfl,rfl⟩⟩,⟨0,aK _ (aK _ hB2)⟩,⟨0,aK _ (aK _ hb2)⟩,by rw[<- hly];exact bD _ _,aK _ (bD _ _),by omega,by omega,by omega,by omega,by omega,Nat.le_refl _,by omega⟩
 have k3:Kp H.length H ((H3++[DB.coll])++[HB l (H.length+2+2) H.length (H.length+1) bx]):=fun o b h1 h2=>aK _ (aK _ (k2 o b h1 h2))
 rcases Nw hl (by omega) (by omega) hS3 hT3 with⟨H4,T,e3,hT4,hK,k4,hF⟩|⟨a,e,H4,T,he,e3,hT4,hK,k4⟩
 ·rw[iO e3,Ol hT4.hy]
  obtain⟨sA,v,hA,hW⟩:=hT4.hA
  obtain⟨sB,hB⟩:=hT4.hB
  have nyA:H3.length+1≠H.length:=by omega
  have nyB:H3.length+1≠H.length+1:=by omega
  have hA5:=am .opq nyA hA
  have hB5:=am .opq nyB hB
  have hk5:=am .opq (show H3.length+1≠H3.length by omega) hT4.hk
  have hv:∀ κ:List D->ag,ah 1 v κ=κ [v]:=fun κ=>by rcases hW with⟨_,rfl⟩|⟨_,X,rfl,_⟩<;>rfl
  have hv2:∀(z:D) (κ:List D->ag),ar [z] 0 [v] κ=κ [v]:=fun _ _=>rfl
  have hX5:∀ X:Nat,H4[X]? = some (DB.buf 4 true false T)->(H4.set (H3.length+1) .opq)[X]? = some (DB.buf 4 true false T):=fun X hX=>am _ (fun q=>by rw[<- q,hT4.hy]at hX;exact AW _ rfl (Option.some.inj hX)) hX
  have k5:Kp H.length H (H4.set (H3.length+1) .opq):=(k3.trans k4).trans fun o b h1 h2=>am _ (by omega) h2
  generalize H4.set (H3.length+1) .opq=H5 at hA5 hB5 hk5 hX5 k5 ⊢
  simp only[ae hA5,aj,hv,hv2]
  have hB6:=am (.cells (sA+1) [v]) (show H.length≠H.length+1 by omega) hB5
  have hA6:=bC (.cells (sA+1) [v]) hA5
  have hk6:=am (.cells (sA+1) [v]) (show H.length≠H3.length by omega) hk5
  have hcm:(cH (H5.set H.length (.cells (sA+1) [v])) [H5])[H.length+1]? = some (.cells sB [.i 0,.i 0]):=nj hB6 (fun H2 h2=>by simp at h2;subst h2;exact hB5)
  have hX6:∀ X:Nat,H4[X]? = some (DB.buf 4 true false T)->(H5.set H.length (.cells (sA+1) [v]))[X]? = some (DB.buf 4 true false T):=fun X hX=>am _ (fun q=>by rw[<- q,hA]at hX;cases hX) (hX5 X hX)
  have k6:Kp H.length H (H5.set H.length (.cells (sA+1) [v])):=k5.trans fun o b h1 h2=>am _ (by omega) h2
  generalize H5.set H.length (.cells (sA+1) [v])=H6 at hA6 hB6 hk6 hcm hX6 k6 ⊢
  simp only[ae hcm,ae hB6,aj,aA,NU]
  have hA7:=am (.cells (sB+1) [.i 0,.i 0]) (show H.length+1≠H.length by omega) hA6
  have hB7:=bC (.cells (sB+1) [.i 0,.i 0]) hB6
  have hk7:=am (.cells (sB+1) [.i 0,.i 0]) (show H.length+1≠H3.length by omega) hk6
  have hX7:∀ X:Nat,H4[X]? = some (DB.buf 4 true false T)->(H6.set (H.length+1) (.cells (sB+1) [.i 0,.i 0]))[X]? = some (DB.buf 4 true false T):=fun X hX=>am _ (fun q=>by rw[<- q,hB]at hX;cases hX) (hX6 X hX)
  have k7:Kp H.length H (H6.set (H.length+1) (.cells (sB+1) [.i 0,.i 0])):=k6.trans fun o b h1 h2=>am _ (by omega) h2
  generalize H6.set (H.length+1) (.cells (sB+1) [.i 0,.i 0])=H7 at hA7 hB7 hk7 hX7 k7 ⊢
  rw[show ∀ κ:DH->ag,rg H7 H3.length κ=κ (H7.set H3.length .opq)from fun κ=>by rw[rg,hk7]]
  have hA8:=am .opq (show H3.length≠H.length by omega) hA7
  have hB8:=am .opq (show H3.length≠H.length+1 by omega) hB7
  have hX8:∀ X:Nat,H4[X]? = some (DB.buf 4 true false T)->(H7.set H3.length .opq)[X]? = some (DB.buf 4 true false T):=fun X hX=>am _ (fun q=>by rw[<- q,hT4.hk]at hX;cases hX) (hX7 X hX)
  have k8:Kp H.length H (H7.set H3.length .opq):=k7.trans fun o b h1 h2=>am _ (by omega) h2
  generalize H7.set H3.length .opq=H8 at hA8 hB8 hX8 k8 ⊢
  have e5:dZ de (.call 133 [.ptr H.length 0,.ptr (H.length+1) 0] (some .returning)) H8=some ⟨.ret (.tuple []),some .returning,H8⟩:=ev (Sg) rfl
  rw[e5]
  simp only[Ga,ae hA8,ae hB8,aj,aA]
  refine⟨H8,_,v,0,0,T,rfl,?_,by rw[if_pos rfl];exact hK,k8,hF⟩
  rcases hW with hW|⟨q1,X,q2,q3,_⟩
  ·exact .inl hW
  ·exact .inr ⟨q1,X,q2,hX8 X q3⟩
 ·rw[Jo e3]
  obtain⟨sA,v,hA,hW⟩:=hT4.hA
  obtain⟨sB,hB⟩:=hT4.hB
  rw[show ∀ κ:DH->ag,rg H4 H3.length κ=κ (H4.set H3.length .opq)from fun κ=>by rw[rg,hT4.hk]]
  have hA5:=am .opq (show H3.length≠H.length by omega) hA
  have hB5:=am .opq (show H3.length≠H.length+1 by omega) hB
  have k5:Kp H.length H (H4.set H3.length .opq):=(k3.trans k4).trans fun o b h1 h2=>am _ (by omega) h2
  generalize H4.set H3.length .opq=H5 at hA5 hB5 k5 ⊢
  have ea:∀(d:D) (κ:D->ag),lS ab (.iface 180 d) 180 true κ=κ (.tuple [d,.bool true]):=fun d κ=>by kernel_rfl
  have hv2:∀(z:D) (κ:List D->ag),ar [z] 0 [.nilrow] κ=κ [.nilrow]:=fun _ _=>rfl
  have e5:dZ de (.call 133 [.ptr H.length 0,.ptr (H.length+1) 0] (some (.panicking [⟨wr a e,false⟩]))) H5=_:=ev (@Sh _ _ _ a e _) rfl
  simp only[ea,dn,aj,aA,ai,cond_true,VR,NU,ae hA5,hv2]at e5
  have hA6:=bC (.cells (sA+1) [.nilrow]) hA5
  have hB6:=am (.cells (sA+1) [.nilrow]) (show H.length≠H.length+1 by omega) hB5
  have k6:Kp H.length H (H5.set H.length (.cells (sA+1) [.nilrow])):=k5.trans fun o b h1 h2=>am _ (by omega) h2
  generalize H5.set H.length (.cells (sA+1) [.nilrow])=H6 at e5 hA6 hB6 k6
  simp only[ae hB6,NU]at e5
  have hA7:=am (.cells (sB+1) [.i a,.i e]) (show H.length+1≠H.length by omega) hA6
  have hB7:=bC (.cells (sB+1) [.i a,.i e]) hB6
  have k7:Kp H.length H (H6.set (H.length+1) (.cells (sB+1) [.i a,.i e])):=k6.trans fun o b h1 h2=>am _ (by omega) h2
  generalize H6.set (H.length+1) (.cells (sB+1) [.i a,.i e])=H7 at e5 hA7 hB7 k7
  rw[e5]
  simp only[Ga,Fd,ae hA7,ae hB7,aj,aA]
  exact⟨H7,_,.nilrow,a,e,[],rfl,.inl ⟨rfl,rfl⟩,by rw[if_neg he];exact hK,k7,fun _ _ q=>by cases q⟩
end Go.Proofs.YtenibcfppefobaaGreatDoor
set_option linter.all false
noncomputable section
namespace Go.Proofs.YtenibcfppefobaaGreatDoor
open Go.AI
theorem yD{H H2:DH}(h:Kp H.length H H2){d:D}(hd:d.bel H.length):pU H (ret d H2)=ret d H:=by
 have hle:H.length<=H2.length:=by
  rcases Nat.lt_or_ge H2.length H.length with q|q
  ·have:=h H2.length H[H2.length] q (List.getElem?_eq_getElem q)
   grind
  ·exact q
 have hat:∀ i,i<H.length->H2[i]? = H[i]?:=fun i hi=>by rw[h i H[i] hi (List.getElem?_eq_getElem hi),List.getElem?_eq_getElem hi]
 have ht:Nc H ⟨.ret d,none,H2⟩:=⟨hd,rfl,hle,fun i x hi hx=>.inl (by rw[<- hat i hi];exact hx)⟩
 simp only[pU,ret]
 rw[if_pos ht]
 have:H2.take H.length=H:=by
  apply List.ext_getElem?
  grind
 rw[this]
theorem Rk(l:ac)(H:DH):∃ k,az 57 [.str l] H=ret (.i k) H/\rD l k:=by
 rw[show az 57 [.str l] H=_ from ev (WN) rfl]
 rw[show(24:Int)=((24:Nat):Int)from rfl,Lr]
 by_cases hc:24<l.length
 ·rw[decide_eq_true hc,cond_true]
  exact⟨0,yD (fun _ _ _ h=>h) trivial,.inl (fB (.inr (.inl hc))).symm⟩
 ·rw[decide_eq_false hc,cond_false]
  obtain⟨H2,d,v,a,e,T,e1,hW,hK,kp,hF⟩:=EN (l:=l) (by omega) H
  rw[ao e1]
  have fin:∀ k:Int,pU H (ret (.i k) H2)=ret (.i k) H:=fun k=>yD kp trivial
  simp only[dn,aj,aA,VR,NU,jT,ai]
  by_cases he:e=0
  ·subst he
   rw[if_pos rfl]at hK
   simp only[bne_self_eq_false,cond_false]
   rcases hW with⟨rfl,rfl⟩|⟨q1,X,rfl,q3⟩
   ·simp only[Ou,jT,ai]
    rw[show((0:Int) != 1)=true from rfl,cond_true]
    exact⟨0,fin 0,hK⟩
   ·simp only[Ri,jT,ai]
    by_cases h1:T.length=1
    ·obtain⟨cs,rfl⟩:∃ cs,T=[cs]:=by
      match T,h1 with
      |[c],_=>exact⟨c,rfl⟩
     obtain⟨k,v,t,a',rfl⟩:=hF cs [] rfl
     rw[show(((([(xT k v t a')]:eA).length:Nat):Int) != 1)=false from rfl,cond_false]
     have h2:∀ κ:Nat->Bool->Bool->eA->ag,gF H2 X 1 κ=κ 4 true false [(xT k v t a')]:=fun κ=>dA (l:=[(xT k v t a')]) q3
     simp only[show(0:Int)=((0:Nat):Int)from rfl,List.length_singleton,TD,show Nat.blt 0 1=true from rfl,boK,cond_true,TJ,UX,UW,Nat.zero_add,h2,bt (show([(xT k v t a')]:eA)[0]? = some _ from rfl),aj,aA,rj,ai]
     grind [oD]
    ·rw[show(((T.length:Nat):Int) != 1)=true by simp;omega,cond_true]
     refine⟨0,fin 0,?_⟩
     have:oD l T=0:=by
      unfold oD
      grind
     grind
  grind
end Go.Proofs.YtenibcfppefobaaGreatDoor
set_option linter.all false
noncomputable section
namespace Go.Proofs.YtenibcfppefobaaGreatDoor
open Go.AI
theorem Hh(l:ac)(hl:l.length<2^60)(H:DH):∀(n i:Nat),n=l.length - i->i<2^60->af ak 191 200002 [.g (.str l),.n i] [] H=ret (.i (i+rn aP l i:Nat)) H
 |n,i,hn,hi=>by
  refine ez (Du) ?_
  rw[Hr]
  by_cases hc:i<l.length
  ·rw[decide_eq_true hc,cond_true,bH,cI hc,ao (Fb _ _),ai,jv aP hc]
   cases hq:aP (pk l i)with
   |false=>simp
   |true =>
    rw[cond_true,bE (show i<2^62 by omega),Hh l hl H (n - 1) (i+1) (by omega) (by omega),if_pos rfl,show i+1+rn aP l (i+1)=i+(rn aP l (i+1)+1)by omega]
  grind [Az]
 termination_by n=>n
theorem Lb(l:ac)(hl:l.length<2^59)(H:DH)(i:Nat)(hi:i<2^59):az 191 [.str l,.i i] H=ret (.i (i+rn aP l i:Nat)) H :=
 ev (VB) (Hh l (by omega) H _ i rfl (by omega))
theorem AQ(l:ac)(hl:l.length<2^59)(H:DH)(j:Nat)(hj:j<=l.length):∀(n k:Nat),n=l.length - k->j+1<=k->k<2^60->k+rn aW l k=j+1+rn aW l (j+1) ->
 af ak 193 200005 [.g (.str l),.n j,.n k] [] H=ret (.i ((if pk l j=39/\0<rn aW l (j+1)then j+(1+rn aW l (j+1))else j:Nat):Nat)) H
 |n,k,hn,hk,hk2,he=>by
  refine ez (Ds) ?_
  have fin:rn aW l k=0->cond (decide ((j:Int)<(l.length:Int))) (dJ (j:Int) fun i10=>eE l i10 fun d9=>ay ab .eql 5 true d9 (.int .u8 39) fun d11=>brD d11 (cond (decide ((k:Int)>(cS ((j:Int)+1)))) (ret (.i k) H) (ret (.i j) H)) (ret (.i j) H)) (ret (.i j) H)=ret (.i ((if pk l j=39/\0<rn aW l (j+1)then j+(1+rn aW l (j+1))else j:Nat):Nat)) H:=fun hz=>by
   rw[hz]at he
   rw[Hr]
   by_cases hc:j<l.length
   ·rw[decide_eq_true hc,cond_true,bH,cI hc]
    simp only[bJ,show(39:Int)=((39:Nat):Int)from rfl,neq,ai,bE (show j<2^62 by omega),Lr]
    grind
   grind [mG]
  rw[Hr]
  by_cases hc:k<l.length
  ·rw[decide_eq_true hc,cond_true,bH,cI hc,ao (qY _ _),ai]
   have hs:=jv aW hc
   cases hq:aW (pk l k)with
   |false =>
    grind
   |true =>
    rw[hq,if_pos rfl]at hs
    rw[cond_true,bE (show k<2^62 by omega)]
    exact AQ l hl H j hj (n - 1) (k+1) (by omega) (by omega) (by omega) (by omega)
  grind [Az]
 termination_by n=>n
theorem Ht(l:ac)(hl:l.length<2^59)(H:DH):∀(n i:Nat),n=l.length - i->i<=l.length->af ak 193 200002 [.g (.str l),.n i] [] H=ret (.i ((if pk l (i+rn aP l i)=39/\0<rn aW l (i+rn aP l i+1)then i+rn aP l i+(1+rn aW l (i+rn aP l i+1))else i+rn aP l i:Nat):Nat)) H
 |n,i,hn,hi=>by
  refine ez (Dt) ?_
  rw[Hr]
  by_cases hc:i<l.length
  ·rw[decide_eq_true hc,cond_true,bH,cI hc,ao (Fb _ _),ai]
   have hs:=jv aP hc
   cases hq:aP (pk l i)with
   |false =>
    rw[hq,if_neg (by decide)]at hs
    rw[cond_false,bE (show i<2^62 by omega),hs,Nat.add_zero]
    exact AQ l hl H i hi _ (i+1) rfl (Nat.le_refl _) (by omega) rfl
   |true =>
    rw[hq,if_pos rfl]at hs
    rw[cond_true,bE (show i<2^62 by omega),hs,Ht l hl H (n - 1) (i+1) (by omega) (by omega),show i+1+rn aP l (i+1)=i+(rn aP l (i+1)+1)by omega]
  ·rw[decide_eq_false hc,cond_false,bE (show i<2^62 by omega),Az aP (show l.length<=i by omega),Nat.add_zero]
   exact AQ l hl H i hi _ (i+1) rfl (Nat.le_refl _) (by omega) rfl
 termination_by n=>n
theorem Lt(l:ac)(hl:l.length<2^59)(H:DH)(i:Nat)(hi:i<=l.length):az 193 [.str l,.i i] H=ret (.i (i+cD l i:Nat)) H:=by
 refine ev (Vy) ((Ht l hl H _ i rfl hi).trans ?_)
 grind [cD]
theorem yz(t:ac)(H:DH):∀(pre suf:List ac),uc=pre++suf->af ak 194 200003 [.g (.str t),.g (.row 1 (uc.map fun w=>[.str w])),.n pre.length] [] H=ret (.bool (decide (t∈suf))) H
 |pre,[],e=>by
  refine ez (tF) ?_
  grind
 |pre,w::suf,e=>by
  refine ez (tF) ?_
  have hi:pre.length<uc.length:=by rw[e];simp
  have hat:(uc.map fun w=>([.str w]:List D))[pre.length]? = some [.str w]:=by rw[e];simp
  have ih:=yz t H (pre++[w]) suf (by rw[e];simp)
  simp only[List.length_append,List.length_singleton]at ih
  have h15:uc.length=15:=rfl
  grind [Hr,bH,bt,aj,kL,ai,bE]
theorem Nu(t:ac)(H:DH):az 194 [.str t] H=ret (.bool (decide (t∈uc))) H:=ev (Vx) (yz t H [] uc rfl)
theorem yN(l:ac)(i:Nat)(hi:i<l.length)(H:DH):∀(pre suf:ac),EL=pre++suf->af ak 195 200005 [.g (.str l),.n i,.g (.str EL),.n pre.length] [] H=ret (.i (if pk l i∈suf then 1 else 0)) H
 |pre,[],e=>by
  refine ez (tE) ?_
  grind
 |pre,w::suf,e=>by
  refine ez (tE) ?_
  have hp:pre.length<EL.length:=by rw[e];simp
  have ih:=yN l i hi H (pre++[w]) suf (by rw[e];simp)
  simp only[List.length_append,List.length_singleton]at ih
  have h15:EL.length=14:=rfl
  have hw:pk EL pre.length=w:=by
   have h1:EL[pre.length]? = some w:=by rw[e];simp
   unfold pk
   rw[h1,Option.getD_some]
   have h2:∀ c∈EL,c%256=c:=by decide
   simp_all
  rw[Hr,decide_eq_true hp,cond_true,bH,cI hp,bH,cI hi,hw]
  simp only[bJ,neq,ai,bE (show pre.length<2^62 by omega),ih]
  grind
theorem Qy(l:ac)(hl:l.length<2^59)(i:Nat)(hi:i<l.length)(H:DH):az 195 [.str l,.i i] H=ret (.i (rG l i:Nat)) H:=by
 refine ev (f195) ?_
 have j:=yN l i hi H [] EL rfl
 have two:∀ {a b:Nat},(l.drop i).take 2=[a,b]->i+2<=l.length:=fun h=>by
  grind [List.length_take]
 have k:¬(l.drop i).take 2=[61,62]->¬(l.drop i).take 2=[45,62]->(ret (.i (if pk l i∈EL then 1 else 0)) H:ag)=ret (.i (rG l i:Nat)) H:=fun h1 h2=>by
  grind [rG]
 rw[bE (show i<2^62 by omega),Hr]
 by_cases hc:i+1<l.length
 ·rw[decide_eq_true hc,cond_true,show((i:Nat):Int)+2=((i:Nat):Int)+((2:Nat):Int)from rfl,wN (show i+2<2^62 by omega),Nq l i (i+2) H _ (by omega) (by omega),Nq l i (i+2) H _ (by omega) (by omega),show i+2 - i=2 by omega]
  simp only[kL,ai]
  by_cases h1:(l.drop i).take 2=[61,62]
  ·grind [rG]
  ·rw[show((l.drop i).take 2==[61,62])=false from beq_eq_false_iff_ne.2 h1,cond_false]
   by_cases h2:(l.drop i).take 2=[45,62]
   ·grind [rG]
   ·rw[show((l.drop i).take 2==[45,62])=false from beq_eq_false_iff_ne.2 h2,cond_false]
    exact j.trans (k h1 h2)
 ·rw[decide_eq_false hc,cond_false]
  exact j.trans (k (fun h=>by have:=two h;omega) (fun h=>by have:=two h;omega))
end Go.Proofs.YtenibcfppefobaaGreatDoor
set_option linter.all false
noncomputable section
namespace Go.Proofs.YtenibcfppefobaaGreatDoor
open Go.AI
theorem Js(t:TypeId)(c:Bool)(a:Int)(κ:D->ag):ay ab .quo t c (.i a) (.i 10) κ=κ (.i (cS (a.tdiv 10))):=rfl
theorem MJ(t:TypeId)(c:Bool)(a b:Int)(κ:D->ag):ay ab .sub t c (.int .u8 a) (.int .u8 b) κ=κ (.int .u8 (IntKind.wrap .u8 (a - b))):=rfl
theorem Sm(a:Int)(κ:D->ag):oO ab 5 3 (.int .u8 a) κ=κ (.i (cS a)):=by kernel_rfl
theorem vN(x:ac)(hx:x.length<2^60)(H:DH)(v4 v6:Int):∀(n i:Nat) (v5:Int),n=x.length - i->i<=x.length ->
 ∃ a e:Int,af ak 188 200009 [.g (.str x),.n v4,.n v5,.n v6,.n i] [] H=ret (.tuple [.i a,.i e]) H
 |n,i,v5,hn,hi=>by
  rw[show af ak 188 200009 [.g (.str x),.n v4,.n v5,.n v6,.n i] [] H=_ from ez (Dv) rfl]
  rw[Hr]
  by_cases hc:i<x.length
  ·rw[decide_eq_true hc,cond_true,bH,cI hc,ao (qY _ _)]
   simp only[ck,ai]
   cases aW (pk x i)with
   |false=>exact⟨_,_,rfl⟩
   |true =>
    rw[Bool.not_true,cond_false,bH,cI hc]
    simp only[MJ,Sm,dD,Js,BL,BK,ai]
    cases decide (v5<_)with
    |true=>exact⟨_,_,rfl⟩
    |false =>
     rw[cond_false,bE (show i<2^62 by omega)]
     exact vN x hx H v4 v6 (n - 1) (i+1) _ (by omega) (by omega)
  ·rw[decide_eq_false hc,cond_false]
   cases v4==1 with
   |true=>exact⟨_,_,rfl⟩
   |false =>
    rw[cond_false]
    cases v5==v6 with
    |true=>exact⟨_,_,rfl⟩
    |false=>exact⟨_,_,rfl⟩
 termination_by n=>n
theorem Lm(x:ac)(hx:x.length<2^60)(H:DH)(i:Nat)(hi:i<=x.length):∃ a e:Int,af ak 188 4 [.g (.str x),.n i] [] H=ret (.tuple [.i a,.i e]) H:=by
 rw[show af ak 188 4 [.g (.str x),.n i] [] H=_ from ez (Se) rfl]
 rw[neq]
 by_cases h:x.length=i
 ·simp_all
 ·rw[show(x.length==i)=false from beq_eq_false_iff_ne.2 h,cond_false]
  cases decide ((x.length:Int)>30)with
  |true=>exact⟨_,_,rfl⟩
  |false =>
   rw[cond_false,bH,cI (by omega)]
   simp only[bJ,ai]
   cases ((pk x i:Int)==48)with
   |true =>
    rw[cond_true]
    cases decide ((x.length:Int)>1)with
    |true=>exact⟨_,_,rfl⟩
    |false=>rw[cond_false];exact vN x hx H i _ _ i 0 rfl hi
   |false=>rw[cond_false];exact vN x hx H i _ _ i 0 rfl hi
theorem SY(x:ac)(hx:x.length<2^60)(H:DH):∃ a e:Int,az 188 [.str x] H=ret (.tuple [.i a,.i e]) H:=by
 rw[show az 188 [.str x] H=_ from ev (VE) rfl]
 rw[show(0:Int)=((0:Nat):Int)from rfl,Lr]
 by_cases h:0<x.length
 ·rw[decide_eq_true h,cond_true,cI h]
  simp only[bJ,ai]
  cases ((pk x 0:Int)==126)with
  |true=>rw[cond_true];exact Lm x hx H 1 h
  |false=>rw[cond_false];exact Lm x hx H 0 (Nat.zero_le _)
 ·rw[decide_eq_false h,cond_false];exact Lm x hx H 0 (Nat.zero_le _)
def xL(l:ac)(H:DH)(r:ag):Prop:=∃(k v e a:Int) (t:ac),r=ret (.tuple [.agg (xT k v t a),.i e]) H/\(fq l 0->e=0->k=1) /\
 (¬ fq l 0->match fD l 0 with|none=>e≠0|some (k',n)=>e=0/\k=k'/\t=l.take n)
variable{l:ac}
theorem KS(hl:l.length<=100)(H:DH)(hn:fq l 0)(i:Nat)(hi:i<=l.length) :
 xL l H (af ak 137 8 [.g (.str l),.n ((0:Nat):Int),.lp 0 0,.n i] [(0,(xT 0 0 [] 0))] H):=by
 rw[show af ak 137 8 [.g (.str l),.n ((0:Nat):Int),.lp 0 0,.n i] [(0,(xT 0 0 [] 0))] H=_ from ez (Sf) rfl]
 rw[Nq l 0 i H _ (Nat.zero_le _) hi]
 obtain⟨a,e,h⟩:=SY ((l.drop 0).take (i - 0)) (by rw[List.length_take,List.length_drop];omega) H
 rw[ao h]
 simp only[dn,aj,aA,jT,ai]
 have bad:xL l H (ret (.tuple [.agg (xT 0 0 [] 0),.i 13]) H):=⟨0,0,13,0,[],rfl,(fun _ q=>by cases q),fun q=>(q hn).elim⟩
 have good:xL l H (af ak 137 11 [.g (.str l),.n ((0:Nat):Int),.lp 0 0,.n i,.n a] [(0,(xT 0 0 [] 0))] H):=by
  rw[show af ak 137 11 [.g (.str l),.n ((0:Nat):Int),.lp 0 0,.n i,.n a] [(0,(xT 0 0 [] 0))] H=_ from ez (OS) rfl]
  rw[Nq l 0 i H _ (Nat.zero_le _) hi]
  exact⟨1,a,0,0,_,rfl,fun _ _=>rfl,fun q=>(q hn).elim⟩
 cases (e != 0)with
 |true=>rw[cond_true];exact bad
 |false =>
  rw[cond_false,Hr]
  by_cases hc:i<l.length
  ·rw[decide_eq_true hc,cond_true,bH,cI hc,ao (Fb _ _),ai]
   cases aP (pk l i)with
   |true=>rw[cond_true];exact bad
   |false =>
    rw[cond_false,bH,cI hc]
    simp only[bJ,ai]
    cases ((pk l i:Int)==39)with
    |true=>rw[cond_true];exact bad
    |false=>rw[cond_false];exact good
  ·rw[decide_eq_false hc,cond_false];exact good
theorem EV(hl:l.length<=100)(H:DH)(hn:fq l 0):∀(n i:Nat),n=l.length - i->i<=l.length ->
 xL l H (af ak 137 200006 [.g (.str l),.n ((0:Nat):Int),.lp 0 0,.n i] [(0,(xT 0 0 [] 0))] H)
 |n,i,hq,hi=>by
  rw[show af ak 137 200006 [.g (.str l),.n ((0:Nat):Int),.lp 0 0,.n i] [(0,(xT 0 0 [] 0))] H=_ from ez (Dy) rfl]
  rw[Hr]
  by_cases hc:i<l.length
  ·rw[decide_eq_true hc,cond_true,bH,cI hc,ao (qY _ _),ai]
   cases aW (pk l i)with
   |true =>
    rw[cond_true,bE (show i<2^62 by omega)]
    exact EV hl H hn (n - 1) (i+1) (by omega) (by omega)
   |false=>rw[cond_false];exact KS hl H hn i hi
  grind [KS]
 termination_by n=>n
end Go.Proofs.YtenibcfppefobaaGreatDoor
set_option linter.all false
noncomputable section
namespace Go.Proofs.YtenibcfppefobaaGreatDoor
open Go.AI
variable{l:ac}
theorem AA(H:DH)(i:Nat)(hi:i<=l.length)(k:Int):af ak 137 26 [.g (.str l),.n ((0:Nat):Int),.lp 0 0,.n i,.n k] [(0,(xT 0 0 [] 0))] H=ret (.tuple [.agg (xT k 0 (l.take i) ((0:Nat):Int)),.i 0]) H:=by
 refine ez (OP) ?_
 rw[Nq l 0 i H _ (Nat.zero_le _) hi,List.drop_zero,Nat.sub_zero]
 rfl
theorem Hb(hl:l.length<=100)(h0:0<l.length)(H:DH)(hn:¬ fq l 0)(h:eQ (pk l 0)=true\/io (pk l 0)=true):xL l H (af ak 137 18 [.g (.str l),.n ((0:Nat):Int),.lp 0 0,.g (.int .u8 (pk l 0:Nat))] [(0,(xT 0 0 [] 0))] H):=by
 rw[show af ak 137 18 [.g (.str l),.n ((0:Nat):Int),.lp 0 0,.g (.int .u8 (pk l 0:Nat))] [(0,(xT 0 0 [] 0))] H=_ from ez (OQ) rfl]
 rw[ao (Lt l (by omega) H 0 (Nat.zero_le _)),Nat.zero_add]
 have hle:=qx l 0 (Nat.zero_le _)
 have hw:cS (((cD l 0:Nat):Int) - ((0:Nat):Int))=((cD l 0:Nat):Int):=by rw[Ae]<;>omega
 simp only[BK,hw,fC,show(24:Int)=((24:Nat):Int)from rfl,Lr,ai]
 by_cases hc:24<cD l 0
 ·rw[decide_eq_true hc,cond_true]
  refine⟨0,0,2,0,[],rfl,fun q=>(hn q).elim,fun _=>?_⟩
  grind [fD]
 ·rw[decide_eq_false hc,cond_false,ao (Bf _ _),ai]
  cases hg:io (pk l 0)with
  |true =>
   rw[cond_true,AA H _ (by omega) 3]
   have hs:¬ eQ (pk l 0)=true:=fun hs=>by
    unfold eQ at hs;unfold io at hg
    grind
   have:fD l 0=some (3,cD l 0):=by unfold fD;rw[if_neg hs,if_pos hg,if_neg hc]
   refine⟨3,0,0,_,_,rfl,fun q=>(hn q).elim,fun _=>?_⟩
   grind
  |false =>
   have hs:eQ (pk l 0)=true:=h.resolve_right (by rw[hg];decide)
   rw[cond_false,Nq l 0 _ H _ (Nat.zero_le _) (show cD l 0<=l.length by omega),ao (Nu _ _),ai]
   rw[List.drop_zero,Nat.sub_zero]
   by_cases hw:l.take (cD l 0)∈uc
   ·rw[decide_eq_true hw,cond_true,AA H _ (by omega) 5]
    have:fD l 0=some (5,cD l 0):=by unfold fD;rw[if_pos hs,if_neg hc,List.drop_zero,if_pos hw]
    refine⟨5,0,0,_,_,rfl,fun q=>(hn q).elim,fun _=>?_⟩
    grind
   ·rw[decide_eq_false hw,cond_false,AA H _ (by omega) 2]
    have:fD l 0=some (2,cD l 0):=by unfold fD;rw[if_pos hs,if_neg hc,List.drop_zero,if_neg hw]
    refine⟨2,0,0,_,_,rfl,fun q=>(hn q).elim,fun _=>?_⟩
    grind
theorem AC(hl:l.length<=100)(h0:0<l.length)(H:DH)(hn:¬ fq l 0)(hq:¬(pk l 0=39/\eQ (pk l 1)=true)):xL l H (af ak 137 17 [.g (.str l),.n ((0:Nat):Int),.lp 0 0,.g (.int .u8 (pk l 0:Nat))] [(0,(xT 0 0 [] 0))] H):=by
 rw[show af ak 137 17 [.g (.str l),.n ((0:Nat):Int),.lp 0 0,.g (.int .u8 (pk l 0:Nat))] [(0,(xT 0 0 [] 0))] H=_ from ez (OR) rfl]
 rw[ao (Ai _ _),ai]
 cases hs:eQ (pk l 0)with
 |true=>rw[cond_true];exact Hb hl h0 H hn (.inl hs)
 |false =>
  rw[cond_false,ao (Bf _ _),ai]
  cases hg:io (pk l 0)with
  |true=>rw[cond_true];exact Hb hl h0 H hn (.inr hg)
  |false =>
   have ht:fD l 0=if rG l 0=0 then none else some (6,rG l 0):=by
    grind [fD]
   have hle:rG l 0<=l.length:=by
    grind [rG,List.drop,List.length_take,List.length_drop]
   rw[cond_false,ao (Qy l (by omega) 0 h0 H)]
   simp only[bJ,ai]
   by_cases hz:rG l 0=0
   ·rw[if_pos hz]at ht
    rw[hz,show(((0:Nat):Int)==0)=true from rfl,cond_true]
    refine⟨0,0,11,0,[],rfl,fun q=>(hn q).elim,fun _=>?_⟩
    rw[ht];simp
   ·rw[if_neg hz]at ht
    rw[show(((rG l 0:Nat):Int)==0)=false by simp;omega,cond_false]
    simp only[dD,wN (show 0+rG l 0<2^62 by omega),Nat.zero_add]
    rw[Nq l 0 _ H _ (Nat.zero_le _) hle,List.drop_zero,Nat.sub_zero]
    refine⟨6,0,0,_,_,rfl,fun q=>(hn q).elim,fun _=>?_⟩
    grind
theorem NR(hl:l.length<=100)(h0:0<l.length)(H:DH):xL l H (az 137 [.str l,.i ((0:Nat):Int)] H):=by
 rw[show az 137 [.str l,.i ((0:Nat):Int)] H=_ from ev (f137) rfl]
 rw[bH,cI h0]
 have w1:cS (((0:Nat):Int)+1)=((1:Nat):Int):=bE (n:=0) (by omega)
 simp only[bJ,show(126:Int)=((126:Nat):Int)from rfl,show(39:Int)=((39:Nat):Int)from rfl,neq,ai,ao (qY _ _),w1]
 by_cases h126:pk l 0=126
 ·rw[h126,BEq.rfl,cond_true,cond_true]
  exact EV hl H (.inr h126) _ 1 rfl h0
 rw[show(pk l 0==126)=false from beq_eq_false_iff_ne.2 h126,cond_false,cond_false]
 cases hd:aW (pk l 0)with
 |true=>rw[cond_true];exact EV hl H (.inl hd) _ 0 rfl (Nat.zero_le _)
 |false =>
 rw[cond_false]
 have hnn:¬ fq l 0:=fun h=>by rcases h with h|h;exact(by rw[hd]at h;cases h);exact h126 h
 by_cases h39:pk l 0=39
 ·have h39b:(pk l 0==39)=true:=by rw[h39];rfl
  rw[h39b,cond_true,Hr]
  by_cases h1:1<l.length
  ·rw[decide_eq_true h1,cond_true,bH,cI h1,ao (Ai _ _),ai]
   cases hs:eQ (pk l 1)with
   |true =>
    have hr:=qf aP l 1 (by omega)
    have hw:cS (((1+rn aP l 1:Nat):Int) - ((0:Nat):Int))=((1+rn aP l 1:Nat):Int):=by rw[Ae]<;>omega
    have hs0:eQ (pk l 0)=false:=by rw[h39];rfl
    have hg0:io (pk l 0)=false:=by rw[h39];rfl
    have ht:fD l 0=if 1+rn aP l 1>24 then none else some (4,1+rn aP l 1):=by
     grind [fD]
    rw[cond_true,ao (Lb l (by omega) H 1 (by omega))]
    simp only[BK,hw,fC,show(24:Int)=((24:Nat):Int)from rfl,Lr,ai]
    by_cases hc:24<1+rn aP l 1
    ·rw[if_pos hc]at ht
     rw[decide_eq_true hc,cond_true]
     refine⟨0,0,2,0,[],rfl,fun q=>(hnn q).elim,fun _=>?_⟩
     rw[ht];simp
    ·rw[if_neg hc]at ht
     rw[decide_eq_false hc,cond_false,Nq l 0 _ H _ (Nat.zero_le _) (by omega),List.drop_zero,Nat.sub_zero]
     refine⟨4,0,0,_,_,rfl,fun q=>(hnn q).elim,fun _=>?_⟩
     grind
   |false =>
    grind [AC]
  ·rw[decide_eq_false h1,cond_false]
   exact AC hl h0 H hnn (fun h=>by rw[mG (show l.length<=1 by omega)]at h;cases h.2)
 grind [AC]
theorem Co{k:Int}{n:Nat}(h:fD l 0=some (k,n))(h0:0<l.length):n<=24/\n<=l.length:=by
 have a1:=qx l 0 (Nat.zero_le _)
 unfold fD at h
 split at h
 ·grind
 ·split at h
  ·grind
  ·split at h
   ·rename_i hq
    have h1:1<l.length:=by
     rcases Nat.lt_or_ge 1 l.length with q|q
     ·exact q
     ·rw[mG (show l.length<=0+1 by omega)]at hq;cases hq.2
    have a2:=qf aP l (0+1) (by omega)
    grind
   grind [rG,List.drop,List.length_take,List.length_drop]
theorem LQ(hl:l.length<=100)(h0:0<l.length)(hs:¬ skip l 0)(H:DH):∃ k,af ak 90 5 [.g (.str l)] [] H=ret (.i k) H/\rD l k:=by
 rw[show af ak 90 5 [.g (.str l)] [] H=_ from ez (TV) rfl]
 obtain⟨k,v,e,a,t,h1,h2,h3⟩:=NR hl h0 H
 have h1:az 137 [.str l,.i 0] H=_:=h1
 rw[ao h1]
 simp only[dn,aj,aA,TZ,SH,jT,ai,IR]
 by_cases he:e=0
 ·subst he
  rw[show((0:Int) != 0)=false from rfl,cond_false]
  by_cases ht:t.length=l.length
  ·rw[ht,show(((l.length:Nat):Int) !=((l.length:Nat):Int))=false by simp,cond_false]
   refine⟨k,rfl,?_⟩
   by_cases hn:fq l 0
   ·exact .inr ⟨hn,h2 hn rfl⟩
   ·have h3:=h3 hn
    cases hq:fD l 0 with
    |none=>rw[hq]at h3;exact(h3 rfl).elim
    |some p =>
     obtain⟨k',n⟩:=p
     rw[hq]at h3
     obtain⟨_,rfl,rfl⟩:=h3
     rw[List.length_take]at ht
     refine .inl ?_
     unfold fx
     by_cases h24:24<l.length
     ·exfalso
      have:=Co hq h0
      omega
     ·rw[if_neg (by rintro(q|q|q|q);omega;exact h24 q;exact hs q;exact hn q),hq]
      simp_all[Co]
  ·rw[show(((t.length:Nat):Int) !=((l.length:Nat):Int))=true by simp;omega,cond_true]
   refine⟨0,rfl,.inl ?_⟩
   grind [fx]
 ·rw[show(e != 0)=true by simp[he],cond_true]
  refine⟨0,rfl,.inl ?_⟩
  grind [fx]
theorem Rj(l:ac)(H:DH):∃ k,az 90 [.str l] H=ret (.i k) H/\rD l k:=by
 rw[show az 90 [.str l] H=_ from ev (WK) rfl]
 rw[show(0:Int)=((0:Nat):Int)from rfl,show(100:Int)=((100:Nat):Int)from rfl,show(1:Int)=((1:Nat):Int)from rfl,neq,Lr,Lr]
 by_cases h0:l.length=0
 ·rw[h0,BEq.rfl,cond_true]
  exact⟨0,rfl,.inl (fB (.inl h0)).symm⟩
 rw[show(l.length==0)=false from beq_eq_false_iff_ne.2 h0,cond_false]
 by_cases h100:100<l.length
 ·rw[decide_eq_true h100,cond_true]
  exact⟨0,rfl,.inl (fB (.inr (.inl (by omega)))).symm⟩
 rw[decide_eq_false h100,cond_false,cI (show 0<l.length by omega),ao (NJ _ _),ai]
 cases hs:dw (pk l 0)with
 |true =>
  rw[cond_true]
  exact⟨0,rfl,.inl (fB (.inr (.inr (.inl (.inl hs))))).symm⟩
 |false =>
  rw[cond_false]
  by_cases h1:1<l.length
  ·rw[decide_eq_true h1,cond_true,show(.i 2:D)=.i ((2:Nat):Int)from rfl,SP l 2 H _ (by omega)]
   simp only[kL,ai]
   by_cases h2:l.take 2=[40,42]
   ·rw[h2,BEq.rfl,cond_true]
    exact⟨0,rfl,.inl (fB (.inr (.inr (.inl (.inr h2))))).symm⟩
   ·rw[show(l.take 2==[40,42])=false from beq_eq_false_iff_ne.2 h2,cond_false]
    exact LQ (by omega) (by omega) (fun h=>by rcases h with h|h;exact(by rw[hs]at h;cases h);exact h2 h) H
  ·rw[decide_eq_false h1,cond_false]
   refine LQ (by omega) (by omega) (fun h=>?_) H
   rcases h with h|h
   ·grind
   grind [List.length_take]
end Go.Proofs.YtenibcfppefobaaGreatDoor
set_option linter.all false
noncomputable section
namespace Go.Proofs.YtenibcfppefobaaGreatDoor
open Go.AI
theorem UR{α:Type}{l:List α}{i:Nat}{x:α}(h:l[i]? = some x):l.set i x=l:=@jX ⟨fun _=>True,[],fun _ _ _ h=>h⟩ α l i x h
inductive Ty where
 |mk (n:ac) (xs:List Ty)
mutual
def cu:Ty->List D
 |.mk n xs=>[.str n,.row 2 (aI xs)]
def aI:List Ty->eA
 |[]=>[]
 |t::r=>cu t::aI r
end
theorem dB:∀ l,aI l=l.map cu
 |[]=>rfl
 |t::r=>by simp[aI,dB r]
mutual
def Ty.ok:Ty->Prop
 |.mk _ xs=>xs.length<2^62/\Ty.oks xs
def Ty.oks:List Ty->Prop
 |[]=>True
 |t::r=>t.ok/\Ty.oks r
end
theorem Ty.oks_iff:∀ {l},Ty.oks l↔∀ t∈l,Ty.ok t
 |[]=>by simp[Ty.oks]
 |t::r=>by simp[Ty.oks,Ty.oks_iff (l:=r)]
theorem QZ{α β:Type}(f:α->β)(pre:List α)(t:α)(suf:List α):((pre++t::suf).map f)[pre.length]? = some (f t):=by simp
end Go.Proofs.YtenibcfppefobaaGreatDoor
set_option linter.all false
noncomputable section
namespace Go.Proofs.YtenibcfppefobaaGreatDoor
open Go.AI
structure ua(kind:ac->Int):Prop where
 a:∀ s H,∃ k,az 57 [.str s] H=ret (.i k) H/\(k=kind s\/(kind s=0/\k=1))
 b:∀ s H,∃ k,az 90 [.str s] H=ret (.i k) H/\(k=kind s\/(kind s=0/\k=1))
 c:kind [44]≠3
theorem kq{k n j:Int}(h:k=n\/(n=0/\k=1))(hj:2<=j):(k==j)=(n==j):=by
 grind
variable{kind:ac->Int}(K:ua kind)
include K
theorem OC(s:ac)(H:DH):az 55 [.str s] H=ret (.bool (kind s==3)) H:=by
 obtain⟨k,h1,h2⟩:=K.a s H
 exact ev (WO) (by simp only[ao h1,bJ,kq h2 (show(2:Int)<=3 by decide)])
theorem jI(s:ac)(H:DH):az 29 [.str s] H=ret (.bool (kind s==4)) H:=by
 obtain⟨k,h1,h2⟩:=K.a s H
 exact ev (WU) (by simp only[ao h1,bJ,kq h2 (show(2:Int)<=4 by decide)])
omit K
section
variable(kind:ac->Int)
end
theorem bf:∀ l,(aI l).length=l.length:=fun l=>by rw[dB,List.length_map]
theorem iu(pre:List Ty)(t:Ty)(suf:List Ty):(aI (pre++t::suf))[pre.length]? = some (cu t):=by rw[dB];exact QZ _ _ _ _
include K
end Go.Proofs.YtenibcfppefobaaGreatDoor
set_option linter.all false
noncomputable section
namespace Go.Proofs.YtenibcfppefobaaGreatDoor
open Go.AI
theorem WI:ua fx:=by
 have w:∀ {l:ac} {k:Int},rD l k->k=fx l\/(fx l=0/\k=1):=fun h=>by
  rcases h with h|⟨h1,h2⟩
  ·exact .inl h
  grind [fB]
 refine⟨fun s H=>?_,fun s H=>?_,?_⟩
 ·obtain⟨k,h1,h2⟩:=Rk s H;exact⟨k,h1,w h2⟩
 ·obtain⟨k,h1,h2⟩:=Rj s H;exact⟨k,h1,w h2⟩
 ·unfold fx
  split
  ·decide
  ·have:fD [44] 0=some (6,1):=by decide
   grind
end Go.Proofs.YtenibcfppefobaaGreatDoor
set_option linter.all false
noncomputable section
namespace Go.Proofs.YtenibcfppefobaaGreatDoor
open Go.RowKit Go.Lib
structure oh(w:World):Prop where
 mx:∃ m,w.cell? ⟨1,0,none⟩=some (.int .i64 m)
 syn:∃ ev,w.cell? ⟨4,0,none⟩=some ev/\(ev=.nilIface\/∃ te pe,ev=.iface te pe)
 rng:∃ ev,w.cell? ⟨5,0,none⟩=some ev/\(ev=.nilIface\/∃ te pe,ev=.iface te pe)
 pow:Lib.TabIs Tryz.prog w "internal/strconv.uint64pow10" .u64 Lib.pow10Tab
 sz:6<=w.heap.size
 pw:∀ w',Below w.heap.size w w'->Lib.TabIs Tryz.prog w' "internal/strconv.uint64pow10" .u64 Lib.pow10Tab
theorem oh.below{w w':World}(h:oh w)(b:Below w.heap.size w w'):oh w':=by
 have hs:=h.sz
 refine⟨?_,?_,?_,h.pw w' b,Nat.le_trans h.sz b.size,fun w2 b2=>h.pw w2 (b.trans ⟨b2.os,b2.tape,b2.output,b2.size,fun k hk=>b2.block k (Nat.lt_of_lt_of_le hk b.size)⟩)⟩
 ·obtain⟨m,hm⟩:=h.mx;exact⟨m,(b.cell (p:=⟨1,0,none⟩) (show 1<w.heap.size by omega)).trans hm⟩
 ·obtain⟨m,hm,h2⟩:=h.syn;exact⟨m,(b.cell (p:=⟨4,0,none⟩) (show 4<w.heap.size by omega)).trans hm,h2⟩
 ·obtain⟨m,hm,h2⟩:=h.rng;exact⟨m,(b.cell (p:=⟨5,0,none⟩) (show 5<w.heap.size by omega)).trans hm,h2⟩
theorem Below.up{a b c:World}(h:Below a.heap.size a b)(k:Below b.heap.size b c):Below a.heap.size a c :=
 h.trans ⟨k.os,k.tape,k.output,k.size,fun i hi=>k.block i (Nat.lt_of_lt_of_le hi h.size)⟩
theorem qi(old new:List UInt8):∀(k:Nat) (s:List UInt8),(Lib.replaceK old new k s).length<=s.length+k*new.length
 |0,s=>by simp[Lib.replaceK]
 |k+1,s=>by
  rw[Lib.replaceK]
  split
  ·omega
  ·have ih:=qi old new k (s.drop ((Lib.index s old).toNat+old.length))
   grind
theorem CA(s old new:List UInt8):(Lib.replace s old new 1).length<=s.length+new.length:=by
 unfold Lib.replace
 split
 ·omega
 ·have h1:=qi old new (Lib.replaceNum s old 1) s
  have h2:Lib.replaceNum s old 1<=1:=by unfold Lib.replaceNum;split<;>simp_all;omega
  have h3:Lib.replaceNum s old 1*new.length<=1*new.length:=Nat.mul_le_mul_right _ h2
  omega
theorem BA(n:Int)(h0:-9223372036854775808<=n)(h1:n<=9223372036854775807)(w:World)(hw:oh w) :
 Calls Tryz.prog 279 #[.int .i64 n] w fun e w'=>e=.returned (.string (OZ n))/\Below w.heap.size w w':=by
 go_enter Tryz.func279,Tryz.ntmps279
 go_wp2_with (first
  |(go_at_call 89;refine(Tryz.strconv_Itoa n h0 h1 _ hw.pow).mono ?_;rintro e W1 ⟨rfl,k,os,rfl⟩))
 have hb1:Below w.heap.size w (Go.Sort.grow (w.drewN k) os):=below_regrown w _ os
 have hw1:=hw.below hb1
 obtain⟨m,hm⟩:=hw1.mx
 have hlen:=Lib.itoa_length_le n h0 h1
 have hsz:(ByteArray.mk (Lib.itoa n).toArray).size=(Lib.itoa n).length:=by simp[ByteArray.size]
 have hcb:=Lib.countB_mul_le (ByteArray.mk #[45]) (by decide) _ (ByteArray.mk (Lib.itoa n).toArray) (Nat.le_refl _)
 refine(Tryz.strings_Replace ⟨(Lib.itoa n).toArray⟩ ⟨#[45]⟩ ⟨#[126]⟩ 1 m _ (by omega) hm (by decide) ?_).mono ?_
 ·have:(ByteArray.mk #[126]).size=1:=rfl
  have h45:(ByteArray.mk #[45]).size=1:=rfl
  rw[this];rw[h45]at hcb;omega
 rintro e W2 ⟨rfl,hb2⟩
 go_wp2
 go_ret
 exact⟨rfl,Below.up hb1 hb2⟩
theorem AN(s:ByteArray)(hs:s.size<=1000)(w:World)(hw:oh w) :
 Calls Tryz.prog 262 #[.string s] w fun e w'=>e=.returned (.tuple #[.int .i64 (pc s).1,.int .i64 (pc s).2])/\Below w.heap.size w w':=by
 obtain⟨m,hm⟩:=hw.mx
 have hcb:=Lib.countB_mul_le (ByteArray.mk #[126]) (by decide) _ s (Nat.le_refl _)
 have h126:(ByteArray.mk #[126]).size=1:=rfl
 have h45:(ByteArray.mk #[45]).size=1:=rfl
 rw[h126]at hcb
 go_enter Tryz.func262,Tryz.ntmps262
 go_wp2_with (first
  |(go_at_call 278;refine(Tryz.strings_Replace s ⟨#[126]⟩ ⟨#[45]⟩ 1 m _ (by omega) hm (by decide) (by rw[h45];omega)).mono ?_;rintro e W1 ⟨rfl,hb1⟩))
 have hw1:=hw.below hb1
 have hrl:=CA s.data.toList [126] [45]
 have hrs:(ya s).size=(Lib.replace s.data.toList [126] [45] 1).length:=by simp[ya,ByteArray.size]
 have hsl:s.size=s.data.toList.length:=by rw[Array.length_toList];rfl
 have hr2:(ya s).size<=1001:=by rw[hrs];have:[(45:UInt8)].length=1:=rfl;omega
 change Calls Tryz.prog 277 #[.string (ya s)] W1 _
 rcases ha:Lib.atoiAll (ya s).data.toList with v|_|_
 ·obtain⟨g0,g1⟩:=Lib.atoiAll_bounds ha
  refine(Tryz.strconv_Atoi_ok (ya s) (by omega) v ha W1).mono ?_
  rintro e W2 ⟨rfl,hb2⟩
  have hb2:Below W1.heap.size W1 W2:=by
   rcases hb2 with rfl|⟨t,rfl⟩
   ·exact Below.refl _ _
   ·exact Lib.bytesWorld_below _ _ _
  have hw2:=hw1.below hb2
  go_wp2_with (first
   |(go_at_call 279;refine(BA v g0 g1 _ hw2).mono ?_;rintro e W3 ⟨rfl,hb3⟩))
  ·rename_i hq
   go_ret2
   refine⟨?_,Below.up (Below.up hb1 hb2) hb3⟩
   have hq2:((OZ v).toList==s.toList)=false:=by simpa using hq
   simp only[pc,ha];rw[hq2];rfl
  ·rename_i hq
   have hq2:((OZ v).toList==s.toList)=true:=by simpa using hq
   go_wp2
   go_ret2
   refine⟨?_,Below.up (Below.up hb1 hb2) hb3⟩
   simp only[pc,ha];rw[hq2];rfl
 ·obtain⟨ev,hv,hev⟩:=hw1.syn
  refine(show Calls Tryz.prog 277 #[.string (ya s)] W1 _ from Any.strconv_Atoi_syntax Tryz.laysC172 (ya s) (by omega) ha ev W1 hv hev).mono ?_
  rintro e W2 ⟨N,rfl,hN,hcell,hb2⟩
  go_wp2
  go_ret2
  refine⟨?_,Below.up hb1 hb2⟩
  simp only[pc,ha]
  rfl
 ·obtain⟨ev,hv,hev⟩:=hw1.rng
  refine(Tryz.strconv_Atoi_range (ya s) (by omega) ha ev W1 hv hev).mono ?_
  rintro e W2 ⟨N,rfl,hN,hcell,hb2⟩
  go_wp2
  go_ret2
  refine⟨?_,Below.up hb1 hb2⟩
  simp only[pc,ha]
  rfl
end Go.Proofs.YtenibcfppefobaaGreatDoor
set_option linter.all false
noncomputable section
namespace Go.AI
open Go.RowKit
theorem kV{P:Program}{f:FuncId}{args:List V}{s:S}{v:V} (he:∀ ρ w ys,HR ρ s w->aL ρ args=some ys->(∀ w,(callFunc f ys.toArray).run P w=.ok (.enter f ys.toArray) w) /\
 Calls P f ys.toArray w fun e w'=>∃ y,e=.returned y/\(∀ ρ,den ρ v=some y)/\Below w.heap.size w w'):fv P f args none s ⟨.returned v,none,s⟩:=by
 intro ρ w ys hr hd
 obtain⟨h1,h2⟩:=he ρ w ys hr hd
 refine⟨h1,fun cs hup=>?_⟩
 obtain⟨e,w',fr,⟨y,rfl,h3,h4⟩,h5,h6,h7⟩:=h2 cs
 exact⟨ρ,w',hr.frame h4.size h4.block,⟨ρ.le_refl,h4.size,h4.os,h4.tape,h4.output,fun b hb _=>h4.block b hb,fun f v l e _=>⟨f,v,l,e,rfl,id⟩⟩,fr,.returned y,h3 ρ,h5,h6,h7⟩
theorem kP{ρ:aw}{s:S}{w:World}(h:HR ρ s w){g:Nat}{cs:List V}(hc:fA s g=some cs):∃(c:Array Value) (e:TypeId) (fz:Nat×Nat),w.heap[g]? = some (.cells c e fz)/\aL ρ cs=some c.toList:=by
 unfold fA at hc
 split at hc
 ·rename_i vers hg
  split at hc
  ·rename_i u hu
   cases hc
   obtain⟨hm,hv⟩:=ew hu
   obtain⟨⟨l,c,e,fz,h1,h2,h3,h4⟩,l',c',e',fz',g1,g2,g3,g4⟩:=h.blk _ _ hg u hm
   rw[h1]at g1;cases g1
   rw[g2,g3]at h2;cases h2
   obtain⟨k1,k2⟩:=g4 hv
   refine⟨c,e,fz,g3,jQ (by rw[<- k2];simp) fun i x hx=>?_⟩
   obtain⟨y,hy,hy'⟩:=h4 i x hx
   refine⟨y,hy,?_⟩
   rw[k1]at hy'
   rw[Array.getElem?_toList]
   simpa using hy'
  ·cases hc
 ·cases hc
end Go.AI
namespace Go.Proofs.YtenibcfppefobaaGreatDoor
open Go.AI Go.RowKit
theorem Qe{w:World}{g:Nat}{c:Array Value}{e:TypeId}{fz:Nat×Nat}{v:Value}(h:w.heap[g]? = some (.cells c e fz))(hc:c.toList=[v]):w.cell? ⟨g,0,none⟩=some v:=by
 unfold World.cell?
 simp only[h]
 have:c[0]? = some v:=by rw[<- Array.getElem?_toList,hc];rfl
 grind
theorem Ms{ρ:aw}{s:S}{w:World}(h:HR ρ s w){g:Nat}(hc:∃ c,fA s g=some c/\uy c=true):∃ ev,w.cell? ⟨g,0,none⟩=some ev/\(ev=.nilIface\/∃ te pe,ev=.iface te pe):=by
 obtain⟨c,h1,h2⟩:=hc
 obtain⟨ca,e,fz,h3,h4⟩:=kP h h1
 unfold uy at h2
 grind [aL,den,Qe]
theorem Pb(ρ:aw):aL ρ CH=some (Lib.pow10Tab.map fun z=>Value.int .u64 z):=by rfl
theorem vO{ρ:aw}{s:S}{w:World}(h:HR ρ s w)(hg:pF s):oh w:=by
 have htab:∀ w':World,w'.heap[0]? = w.heap[0]?->Lib.TabIs Tryz.prog w' "internal/strconv.uint64pow10" .u64 Lib.pow10Tab:=by
  intro w' hw'
  obtain⟨c,e,fz,h1,h2⟩:=kP h hg.pow
  rw[Pb]at h2
  unfold Lib.TabIs World.var?
  have hn:Tryz.prog.globalNamed "internal/strconv.uint64pow10" = some 0:=by kernel_rfl
  simp_all
 have hsz:6<=w.heap.size:=by
  obtain⟨c,h1,_⟩:=hg.rng
  obtain⟨ca,e,fz,h3,_⟩:=kP h h1
  grind
 refine⟨?_,Ms h hg.syn,Ms h hg.rng,htab w rfl,hsz,fun w' b=>htab w' (b.block 0 (by omega))⟩
 obtain⟨c,h1,h2⟩:=hg.mx
 obtain⟨ca,e,fz,h3,h4⟩:=kP h h1
 unfold HG at h2
 grind [aL,den,Qe]
theorem AO{args:List V}{s:S}{v:V}{s':S}(h:vP args s=some (v,s')):fv Tryz.prog 262 args none s ⟨.returned v,none,s'⟩:=by
 unfold vP at h
 split at h
 ·rename_i l
  split at h
  ·rename_i hg
   cases h
   refine kV fun ρ w ys hr hd=>?_
   simp only[aL,den]at hd
   cases hd
   refine⟨fun w=>enters_of Tryz.func262 (by kernel_rfl) rfl _ w,(AN (av l) ?_ w (vO hr hg.1)).mono ?_⟩
   ·have:(av l).size=l.length:=by unfold av ByteArray.size;simp
    omega
   ·rintro e w' ⟨rfl,hb⟩
    exact⟨_,rfl,fun ρ=>rfl,hb⟩
  ·cases h
 ·cases h
theorem Dd(c:Nat)(hc:c<256):∀(l:List Nat) (n:Int),0<=n->(∀ x∈l,x<256)->tS l c n=if Lib.indexByte (l.map UInt8.ofNat) (UInt8.ofNat c)=-1 then -1 else Lib.indexByte (l.map UInt8.ofNat) (UInt8.ofNat c)+n
 |[],n,_,_=>rfl
 |x::l,n,hn,h=>by
  have ih:=Dd c hc l (n+1) (by omega) fun y hy=>h y (List.mem_cons_of_mem _ hy)
  have hx:=h x List.mem_cons_self
  have hge:=Lib.indexByte_ge (l.map UInt8.ofNat) (UInt8.ofNat c)
  have he:(UInt8.ofNat x==UInt8.ofNat c)=Nat.beq x c:=by
   rw[Bool.eq_iff_iff]
   simp only[beq_iff_eq,Nat.beq_eq]
   constructor
   ·intro h
    have:=congrArg UInt8.toNat h
    simp at this;omega
   ·rintro rfl;rfl
  simp only[tS,List.map_cons,Lib.indexByte,he]
  cases hb:Nat.beq x c with
  |true=>simp
  |false =>
   simp only[cond_false,Bool.false_eq_true,if_false]
   rw[ih]
   by_cases hq:Lib.indexByte (l.map UInt8.ofNat) (UInt8.ofNat c)=-1
   ·simp[hq]
   ·have h1:(Lib.indexByte (l.map UInt8.ofNat) (UInt8.ofNat c)==-1)=false:=by simpa using hq
    rw[if_neg hq,h1]
    simp only[Bool.false_eq_true,if_false]
    rw[if_neg (by omega)]
    omega
theorem Bd{args:List V}{s:S}{v:V}{s':S}(h:wp args s=some (v,s')):fv Tryz.prog 236 args none s ⟨.returned v,none,s'⟩:=by
 unfold wp at h
 split at h
 ·rename_i l c
  cases hb:Nat.blt c 256&&l.all (fun x=>Nat.blt x 256)with
  |false=>rw[hb,cond_false]at h;cases h
  |true =>
   rw[hb,cond_true]at h
   cases h
   simp only[Bool.and_eq_true,List.all_eq_true]at hb
   have hc:c<256:=Nat.lt_of_succ_le (Nat.le_of_ble_eq_true hb.1)
   have hl:∀ x∈l,x<256:=fun x hx=>Nat.lt_of_succ_le (Nat.le_of_ble_eq_true (hb.2 x hx))
   refine kV fun ρ w ys hr hd=>?_
   simp only[aL,den]at hd
   cases hd
   refine⟨fun w=>enters_of Tryz.func236 (by kernel_rfl) rfl _ w,(Tryz.strings_IndexByte (av l) (Int.ofNat c) w).mono ?_⟩
   rintro e w' ⟨rfl,rfl⟩
   refine⟨_,rfl,fun ρ=>?_,Below.refl _ _⟩
   have e1:(av l).data.toList=l.map UInt8.ofNat:=by simp[av]
   have e2:tS l c 0=Lib.indexByte (l.map UInt8.ofNat) (UInt8.ofNat c):=by
    simp_all[Dd]
   rw[e1]
   show some (Value.int .i64 (tS l c 0))=_
   rw[e2]
   rfl
 ·cases h
theorem Bc{args:List V}{s:S}{v:V}{s':S}(h:wj args s=some (v,s')):fv Tryz.prog 89 args none s ⟨.returned v,none,s'⟩:=by
 unfold wj at h
 split at h
 ·rename_i k
  split at h
  ·rename_i hg
   cases h
   refine kV fun ρ w ys hr hd=>?_
   simp only[aL,den]at hd
   cases hd
   refine⟨fun w=>enters_of Tryz.func89 (by kernel_rfl) rfl _ w,(Tryz.strconv_Itoa ((k:Nat):Int) (by omega) (by have:=hg.2;omega) w (vO hr hg.1).pow).mono ?_⟩
   rintro e w' ⟨rfl,j,os,rfl⟩
   refine⟨_,rfl,fun ρ=>?_,below_regrown w _ os⟩
   simp only[den]
   have:av (JP k)=⟨(Lib.itoa ((k:Nat):Int)).toArray⟩:=by
    have e:(UInt8.ofNat ∘ UInt8.toNat)=id:=by funext x;simp
    simp[av,JP,List.map_map,e]
   rw[this]
  ·cases h
 ·cases h
end Go.Proofs.YtenibcfppefobaaGreatDoor
set_option linter.all false
noncomputable section
namespace Go.Proofs.YtenibcfppefobaaGreatDoor
open Go.AI
theorem nb{f n:Nat}(h:Nat.beq f n=true):f=n:=Nat.eq_of_beq_eq_true h
theorem UO:rB lK:=⟨fun f args s v s' h=>by
 change sI f args s=some (v,s')at h
 unfold sI at h
 cases h1:Nat.beq f 236 with
 |true=>rw[h1]at h;have:=nb h1;subst this;exact Bd h
 |false =>
  rw[h1,cond_false]at h
  cases h2:Nat.beq f 262 with
  |true=>rw[h2]at h;have:=nb h2;subst this;exact AO h
  |false =>
   rw[h2,cond_false]at h
   cases h3:Nat.beq f 6 with
   |false =>
    rw[h3,cond_false]at h
    cases h4:Nat.beq f 89 with
    |false=>rw[h4]at h;cases h
    |true=>rw[h4]at h;have:=nb h4;subst this;exact Bc h
   |true =>
    rw[h3,cond_true]at h;have:=nb h3;subst this
    cases args with
    |cons a r=>cases h
    |nil=>cases h;exact EO s⟩
theorem kQ{s s':S}{g:Nat}(h:s'.get g=s.get g):fA s' g=fA s g:=by unfold fA;rw[h]
theorem OH(s s':S)(h:∀ f∈[0,1,4,5],s'.get f=s.get f)(k:pF s):pF s':=by
 obtain⟨⟨c1,h1,k1⟩,⟨c2,h2,k2⟩,⟨c3,h3,k3⟩,h4⟩:=k
 exact⟨⟨c1,(kQ (h 1 (by simp))).trans h1,k1⟩,⟨c2,(kQ (h 4 (by simp))).trans h2,k2⟩,⟨c3,(kQ (h 5 (by simp))).trans h3,k3⟩,(kQ (h 0 (by simp))).trans h4⟩
instance Wn:ft:=⟨pF,[0,1,4,5],OH⟩
theorem uv{f:FuncId}{vs:List V}{s:S}{v:V}(h:sI f vs s=some (v,s)):lim lK (.call f vs none) s=some ⟨.returned v,none,s⟩:=by
 rw[LH]
 have ho:lK.orc f vs s=some (v,s):=h
 grind [eS,xp]
theorem nM{g:Gh}(hok:Ok g){d:D}{v:V}(h:RD g d v):iJ g.s.next g.Pv g ⟨.ret d,none,g.H⟩ ⟨.returned v,none,g.s⟩ :=
 ⟨g,rfl,rfl,rfl,hok,.refl _ _,⟨v,rfl,h⟩,rfl⟩
theorem UM:Nj de:=by
 refine⟨fun f h vs s=>?_,fun f args H d H' e g hH hok vs hr=>?_⟩
 ·change VP f=false at h
  unfold VP at h
  simp only[Bool.or_eq_false_iff]at h
  show sI f vs s=none
  grind [sI]
 ·change My f args H=some (d,H')at e
  subst hH
  unfold My at e
  cases h1:Nat.beq f 236 with
  |true =>
   rw[h1,cond_true]at e;have:=nb h1;subst this
   split at e
   ·rename_i l c
    cases hb:Nat.blt c 256&&Nat.ble l.length 1000 with
    |false=>rw[hb]at e;cases e
    |true =>
     rw[hb]at e;cases e
     simp only[Go.AI.RL,RD]at hr
     obtain⟨_,_,rfl,⟨rfl,hl⟩,_,_,rfl,rfl,rfl⟩:=hr
     simp only[Bool.and_eq_true]at hb
     refine⟨_,uv (v:=.int .i64 (tS l c 0)) ?_,nM hok (by simp only[RD])⟩
     show wp [V.str l,V.int IntKind.u8 (Int.ofNat c)] g.s=_
     have:(Nat.blt c 256&&l.all fun x=>Nat.blt x 256)=true:=by
      simp_all
     grind [wp]
   ·cases e
  |false =>
   rw[h1,cond_false]at e
   cases h2:Nat.beq f 262 with
   |true =>
    rw[h2,cond_true]at e;have:=nb h2;subst this
    split at e
    ·rename_i l
     cases hb:Nat.ble l.length 1000 with
     |false=>rw[hb]at e;cases e
     |true =>
      rw[hb]at e;cases e
      simp only[Go.AI.RL,RD]at hr
      obtain⟨_,_,rfl,⟨rfl,hl⟩,rfl⟩:=hr
      refine⟨_,uv (v:=.tuple [.int .i64 (pc (av l)).1,.int .i64 (pc (av l)).2]) ?_,nM hok ?_⟩
      ·show vP [V.str l] g.s=_
       simp only[vP]
       rw[if_pos ⟨hok.gl.i,Nat.le_of_ble_eq_true hb⟩]
      ·simp only[RD,Go.AI.RL]
       grind
    ·cases e
   |false =>
    rw[h2,cond_false]at e
    cases h3:Nat.beq f 6 with
    |false =>
     rw[h3,cond_false]at e
     cases h4:Nat.beq f 89 with
     |false=>rw[h4]at e;cases e
     |true =>
      rw[h4,cond_true]at e;have:=nb h4;subst this
      split at e
      ·rename_i k
       cases hb:Nat.blt k 4000 with
       |false=>rw[hb]at e;cases e
       |true =>
        rw[hb]at e;cases e
        simp only[Go.AI.RL,RD]at hr
        obtain⟨_,_,rfl,rfl,rfl⟩:=hr
        refine⟨_,uv (v:=.str (JP k)) ?_,nM hok ?_⟩
        ·show wj [V.int IntKind.i64 (Int.ofNat k)] g.s=_
         simp only[wj]
         rw[if_pos ⟨hok.gl.i,Nat.le_of_ble_eq_true hb⟩]
        ·simp only[RD]
         refine⟨trivial,fun x hx=>?_⟩
         obtain⟨y,_,rfl⟩:=List.mem_map.1 hx
         exact y.toNat_lt
      ·cases e
    |true =>
     rw[h3,cond_true]at e;have:=nb h3;subst this
     split at e
     ·cases e
      simp only[Go.AI.RL]at hr
      subst hr
      exact⟨_,uv (v:=.bool true) rfl,nM hok (by simp only[RD])⟩
     ·cases e
theorem Oy{f:FuncId}{args:List D}{X:DH}(h:dZ de (.call f args none) []=ret (.bool true) X){g:Gh}(hg:g.H=[])(hok:Ok g){vs:List V}(hr:Go.AI.RL g args vs) :
 ∃ s',lim lK (.call f vs none) g.s=some ⟨.returned (.bool true),none,s'⟩:=by
 obtain⟨vout,h1,g',_,h2,_,_,_,⟨v,h3,h4⟩,h5⟩:=(FZ UM).call.c f args none [] _ h g hg hok vs none hr rfl
 obtain⟨e,up,s⟩:=vout
 simp only[RD]at h3 h4 h5
 cases h4
 simp only[JG]at h5
 cases h5
 cases h3
 exact⟨s,h1⟩
end Go.Proofs.YtenibcfppefobaaGreatDoor
set_option linter.all false
noncomputable section
namespace Go.Proofs.YtenibcfppefobaaGreatDoor
open Go.AI
structure bu where
 v:Bool
 n:ac
 o:Int
 a:List Nat
abbrev Lk:=List (Option Nat)
inductive Rt(L:Lk):Nat->Nat->Nat->Prop
 |z {i}:L[i]? = some none->Rt L i i 0
 |s {i j r n}:L[i]? = some (some j)->Rt L j r n->Rt L i r (n+1)
theorem Rt.root{L:Lk}{i r n}(h:Rt L i r n):L[r]? = some none:=by induction h with
 |z h=>exact h
 |s _ _ ih=>exact ih
theorem Rt.det{L:Lk}{i r n r' n'}(h:Rt L i r n)(k:Rt L i r' n'):r=r'/\n=n':=by
 induction h generalizing r' n' with
 |z h=>cases k with
  |z _=>exact⟨rfl,rfl⟩
  |s k _=>rw[h]at k;cases k
 |s h _ ih=>cases k with
  |z k=>rw[h]at k;cases k
  |s k k2=>rw[h]at k;cases k;exact⟨(ih k2).1,by rw[(ih k2).2]⟩
def dF{α:Type}(L:Lk)(f:Nat->α):Prop:=∀(i j:Nat),L[i]? = some (some j)->f i=f j
theorem dF.rt{α:Type}{L:Lk}{f:Nat->α}(h:dF L f){i r n}(k:Rt L i r n):f i=f r:=by induction k with
 |z _=>rfl
 |s k _ ih=>rw[h _ _ k,ih]
def Et{α:Type}(N:List bu)(f:Nat->α):Prop:=∀(i j:Nat) (x y:bu),N[i]? = some x->N[j]? = some y->x.v=false->y.v=false->f i=f j->x.n=y.n/\x.a.map f=y.a.map f
def Eu(N:List bu)(L:Lk)(P:List (Nat×Nat)):Prop:=∀(i j:Nat) (x:bu),L[i]? = some (some j)->N[i]? = some x->x.v=false->∃ y,N[j]? = some y/\y.v=false/\x.n=y.n/\x.a.length=y.a.length/\∀(α:Type) (f:Nat->α),dF L f->(∀ p∈P,f p.1=f p.2)->x.a.map f=y.a.map f
structure ub(N:List bu)(L L':Lk):Prop where
 len:L'.length=L.length
 rt:∀ x r n,Rt L x r n->∃ m,m<=n/\Rt L' x r m
 rs:∀(α:Type) (f:Nat->α),dF L f↔dF L' f
 cl:∀ P,Eu N L P->Eu N L' P
 ro:∀ i:Nat,L[i]? = some none↔L'[i]? = some none
theorem ub.refl(N:List bu)(L:Lk):ub N L L:=⟨rfl,fun x r n h=>⟨n,Nat.le_refl _,h⟩,fun _ _=>.rfl,fun _ h=>h,fun _=>.rfl⟩
theorem ub.trans{N:List bu}{L L' L'':Lk}(h:ub N L L')(k:ub N L' L''):ub N L L'' :=
 ⟨by rw[k.len,h.len],fun x r n q=>by
  obtain⟨m,h1,h2⟩:=h.rt x r n q
  obtain⟨m',k1,k2⟩:=k.rt x r m h2
  exact⟨m',by omega,k2⟩,fun α f=>(h.rs α f).trans (k.rs α f),fun P q=>k.cl P (h.cl P q),fun i=>(h.ro i).trans (k.ro i)⟩
theorem Rt.ne{L:Lk}{i j r n}(h:L[i]? = some (some j))(k:Rt L j r n):i≠j:=fun q=>by
 subst q
 have:=(k.det (.s h k)).2
 omega
theorem dU{L:Lk}{i:Nat}{x:Option Nat}(h:i<L.length)(j:Nat):(L.set i x)[j]? = if i=j then some x else L[j]?:=by
 rw[List.getElem?_set]
 by_cases q:i=j
 ·rw[if_pos q,if_pos q]
  split
  ·rfl
  ·omega
 ·rw[if_neg q,if_neg q]
theorem aB{α:Type}{l:List α}{i:Nat}{x:α}(h:l[i]? = some x):i<l.length:=by
 rcases Nat.lt_or_ge i l.length with q|q
 ·exact q
 ·rw[List.getElem?_eq_none q]at h;cases h
theorem dF.halve{α:Type}{L:Lk}{i j k:Nat}(h1:L[i]? = some (some j))(h2:L[j]? = some (some k))(hn:i≠j)(f:Nat->α):dF L f↔dF (L.set i (some k)) f:=by
 have hl:=aB h1
 constructor
 ·intro h x y hx
  rw[dU hl]at hx
  split at hx
  ·rename_i q;subst q;cases hx;rw[h _ _ h1,h _ _ h2]
  ·exact h _ _ hx
 ·intro h x y hx
  have hk:f i=f k:=h i k (by rw[dU hl,if_pos rfl])
  have hj:f j=f k:=h j k (by rw[dU hl,if_neg hn,h2])
  by_cases q:i=x
  ·subst q;rw[h1]at hx;cases hx;rw[hk,hj]
  ·exact h x y (by rw[dU hl,if_neg q,hx])
theorem ub.halve{N:List bu}{L:Lk}{i j k r n:Nat}(h1:L[i]? = some (some j))(h2:L[j]? = some (some k))(h3:Rt L k r n):ub N L (L.set i (some k)):=by
 have hl:=aB h1
 have hn:i≠j:=Rt.ne h1 (.s h2 h3)
 refine⟨by simp,?_,fun α f=>dF.halve h1 h2 hn f,?_,fun x=>?_⟩
 ·intro x r' m
  induction m using Nat.strongRecOn generalizing x r' with
  |ind m ih =>
   intro q
   cases q with
   |z q=>exact⟨0,Nat.le_refl _,.z (by rw[dU hl,if_neg (fun e=>by subst e;rw[h1]at q;cases q),q])⟩
   |s q q2 =>
    rename_i y m
    by_cases e:i=x
    ·subst e
     rw[h1]at q;cases q
     cases q2 with
     |z q2=>rw[h2]at q2;cases q2
     |s q2 q3 =>
      rename_i y' m
      rw[h2]at q2;cases q2
      obtain⟨m',a,b⟩:=ih m (by omega) _ _ q3
      exact⟨m'+1,by omega,.s (by rw[dU hl,if_pos rfl]) b⟩
    ·obtain⟨m',a,b⟩:=ih m (by omega) _ _ q2
     exact⟨m'+1,by omega,.s (by rw[dU hl,if_neg e,q]) b⟩
 ·intro P h x y z hx hz hv
  rw[dU hl]at hx
  split at hx
  ·rename_i q;subst q;cases hx
   obtain⟨y1,a1,a2,a3,a4,a5⟩:=h i j z h1 hz hv
   obtain⟨y2,b1,b2,b3,b4,b5⟩:=h j k y1 h2 a1 a2
   refine⟨y2,b1,b2,a3.trans b3,a4.trans b4,fun α f hf hp=>?_⟩
   have hf:=(dF.halve h1 h2 hn f).2 hf
   rw[a5 α f hf hp,b5 α f hf hp]
  ·obtain⟨y1,a1,a2,a3,a4,a5⟩:=h x y z hx hz hv
   exact⟨y1,a1,a2,a3,a4,fun α f hf hp=>a5 α f ((dF.halve h1 h2 hn f).2 hf) hp⟩
 ·rw[dU hl]
  split
  ·rename_i q;subst q;rw[h1];simp
  ·rfl
theorem dF.link{α:Type}{L:Lk}{a b:Nat}(hb:L[b]? = some none)(f:Nat->α):dF (L.set b (some a)) f↔dF L f/\f b=f a:=by
 have hl:=aB hb
 constructor
 ·intro h
  refine⟨fun x y hx=>h x y ?_,h b a (by rw[dU hl,if_pos rfl])⟩
  rw[dU hl,if_neg (fun e=>by subst e;rw[hb]at hx;cases hx),hx]
 ·intro⟨h,e⟩ x y hx
  rw[dU hl]at hx
  split at hx
  ·rename_i q;subst q;cases hx;exact e
  ·exact h x y hx
theorem Rt.link{L:Lk}{a b:Nat}(hb:L[b]? = some none)(ha:L[a]? = some none)(hn:a≠b){x r n}(h:Rt L x r n):∃ m,m<=n+1/\Rt (L.set b (some a)) x (if r=b then a else r) m:=by
 have hl:=aB hb
 induction h with
 |z h =>
  rename_i i
  by_cases e:i=b
  ·subst e
   rw[if_pos rfl]
   exact⟨1,by omega,.s (by rw[dU hl,if_pos rfl]) (.z (by rw[dU hl,if_neg (fun q=>hn q.symm),ha]))⟩
  ·rw[if_neg e]
   exact⟨0,by omega,.z (by rw[dU hl,if_neg (fun q=>e q.symm),h])⟩
 |s h _ ih =>
  obtain⟨m,h1,h2⟩:=ih
  exact⟨m+1,by omega,.s (by rw[dU hl,if_neg (fun q=>by subst q;rw[hb]at h;cases h),h]) h2⟩
def Wf(L:Lk):Prop:=∀ i,i<L.length->∃ r n,Rt L i r n
theorem Wf.eqv{N:List bu}{L L':Lk}(h:Wf L)(k:ub N L L'):Wf L':=fun i hi=>by
 obtain⟨r,n,q⟩:=h i (by rw[<- k.len];exact hi)
 obtain⟨m,_,q⟩:=k.rt _ _ _ q
 exact⟨r,m,q⟩
theorem Wf.link{L:Lk}{a b:Nat}(h:Wf L)(hb:L[b]? = some none)(ha:L[a]? = some none)(hn:a≠b):Wf (L.set b (some a)):=fun i hi=>by
 obtain⟨r,n,q⟩:=h i (by simpa using hi)
 obtain⟨m,_,q⟩:=q.link hb ha hn
 exact⟨_,m,q⟩
def Cg:Lk->Nat
 |[]=>0
 |none::r=>Cg r+1
 |some _::r=>Cg r
theorem EX:∀ {L:Lk} {b a:Nat},L[b]? = some none->Cg (L.set b (some a))+1=Cg L
 |[],b,a,h=>by simp at h
 |x::r,0,a,h=>by simp at h;subst h;rfl
 |x::r,b+1,a,h=>by
  have:=EX (L:=r) (b:=b) (a:=a) (by simpa using h)
  cases x<;>simp only[List.set_cons_succ,Cg]<;>omega
theorem PK:∀ {L L':Lk},L'.length=L.length->(∀ i:Nat,L[i]? = some none↔L'[i]? = some none)->Cg L'=Cg L
 |[],[],_,_=>rfl
 |[],_::_,h,_=>by simp at h
 |_::_,[],h,_=>by simp at h
 |x::r,y::r',h,k=>by
  have:=PK (L:=r) (L':=r') (by simpa using h) (fun i=>by simpa using k (i+1))
  have k0:=k 0
  simp at k0
  cases x<;>cases y<;>simp_all[Cg]
theorem ub.rc{N:List bu}{L L':Lk}(h:ub N L L'):Cg L'=Cg L:=PK h.len h.ro
structure US(N:List bu)(L:Lk)(E:List (Nat×Nat))(res:Bool)(L':Lk):Prop where
 len:L'.length=L.length
 wf:Wf L'
 rc:Cg L'<=Cg L
 snd:∀(α:Type) (f:Nat->α),Et N f->dF L f->(∀ p∈E,f p.1=f p.2)->res=true/\dF L' f
 cpl:res=true->(∀(α:Type) (f:Nat->α),dF L' f->dF L f/\∀ p∈E,f p.1=f p.2)/\∀ P,Eu N L (E++P)->Eu N L' P
theorem US.nil{N:List bu}{L:Lk}(h:Wf L):US N L [] true L:=⟨rfl,h,Nat.le_refl _,fun _ _ _ h _=>⟨rfl,h⟩,fun _=>⟨fun _ _ h=>⟨h,fun _ q=>nomatch q⟩,fun _ h=>h⟩⟩
theorem US.pre{N:List bu}{L L1 L':Lk}{E res}(h:ub N L L1)(k:US N L1 E res L'):US N L E res L' :=
 ⟨by rw[k.len,h.len],k.wf,by have:=k.rc;have:=h.rc;omega,fun α f h1 h2 h3=>k.snd α f h1 ((h.rs α f).1 h2) h3,fun q=>⟨fun α f h1=>⟨(h.rs α f).2 ((k.cpl q).1 α f h1).1,((k.cpl q).1 α f h1).2⟩,fun P h1=>(k.cpl q).2 P (h.cl _ h1)⟩⟩
theorem US.same{N:List bu}{L:Lk}(hw:Wf L){a b r n m}(ha:Rt L a r n)(hb:Rt L b r m):US N L [(a,b)] true L:=by
 have hab:∀(α:Type) (f:Nat->α),dF L f->f a=f b:=fun α f h=>by rw[h.rt ha,h.rt hb]
 refine⟨rfl,hw,Nat.le_refl _,fun _ _ _ h _=>⟨rfl,h⟩,fun _=>⟨fun α f h=>⟨h,fun p hp=>?_⟩,fun P h i j x hi hx hv=>?_⟩⟩
 ·simp at hp;subst hp;exact hab α f h
 ·obtain⟨y,a1,a2,a3,a4,a5⟩:=h i j x hi hx hv
  refine⟨y,a1,a2,a3,a4,fun α f hf hp=>a5 α f hf fun p q=>?_⟩
  simp at q
  rcases q with rfl|q
  ·exact hab α f hf
  ·exact hp p q
theorem US.link{N:List bu}{L:Lk}(hw:Wf L){a b ra rb n m}(ha:Rt L a ra n)(hb:Rt L b rb m)(hn:ra≠rb){E:List (Nat×Nat)}
 (hE:∀(α:Type) (f:Nat->α),Et N f->f ra=f rb->∀ p∈E,f p.1=f p.2)
 (hC:∀ x,N[rb]? = some x->x.v=false->∃ y,N[ra]? = some y/\y.v=false/\x.n=y.n/\x.a.length=y.a.length/\∀(α:Type) (f:Nat->α),(∀ p∈E,f p.1=f p.2)->x.a.map f=y.a.map f)
 {res L'} (k:US N (L.set rb (some ra)) E res L'):US N L [(a,b)] res L'/\Cg (L.set rb (some ra))<Cg L:=by
 have h1:=ha.root
 have h2:=hb.root
 have hl:=aB h2
 have hr:=EX (a:=ra) h2
 refine⟨⟨by simpa using k.len,k.wf,by have:=k.rc;omega,fun α f c1 c2 c3=>?_,fun q=>?_⟩,by omega⟩
 ·have e:f ra=f rb:=by rw[<- c2.rt ha,<- c2.rt hb];exact c3 (a,b) (by simp)
  exact k.snd α f c1 ((dF.link h2 f).2 ⟨c2,e.symm⟩) (hE α f c1 e)
 ·obtain⟨q1,q2⟩:=k.cpl q
  refine⟨fun α f hf=>?_,fun P hP=>q2 P fun i j x hi hx hv=>?_⟩
  ·obtain⟨s1,s2⟩:=q1 α f hf
   obtain⟨s3,s4⟩:=(dF.link h2 f).1 s1
   refine⟨s3,fun p hp=>?_⟩
   simp at hp;subst hp
   show f a=f b
   rw[s3.rt ha,s3.rt hb,s4]
  ·rw[dU hl]at hi
   split at hi
   ·rename_i e;subst e;cases hi
    obtain⟨y,a1,a2,a3,a4,a5⟩:=hC x hx hv
    exact⟨y,a1,a2,a3,a4,fun α f _ hp=>a5 α f fun p hp'=>hp p (List.mem_append_left _ hp')⟩
   ·obtain⟨y,a1,a2,a3,a4,a5⟩:=hP i j x hi hx hv
    refine⟨y,a1,a2,a3,a4,fun α f hf hp=>?_⟩
    obtain⟨s3,s4⟩:=(dF.link h2 f).1 hf
    refine a5 α f s3 fun p hp'=>?_
    simp at hp'
    rcases hp' with rfl|hp'
    ·show f a=f b
     rw[s3.rt ha,s3.rt hb,s4]
    ·exact hp p (List.mem_append_right _ hp')
theorem US.clash{N:List bu}{L:Lk}(hw:Wf L){a b ra rb n m}(ha:Rt L a ra n)(hb:Rt L b rb m){x y:bu}(hx:N[ra]? = some x)(hy:N[rb]? = some y)(vx:x.v=false)(vy:y.v=false)(h:x.n≠y.n\/x.a.length≠y.a.length):US N L [(a,b)] false L :=
 ⟨rfl,hw,Nat.le_refl _,fun α f h1 h2 h3=>by
  have e:f ra=f rb:=by rw[<- h2.rt ha,<- h2.rt hb];exact h3 (a,b) (by simp)
  obtain⟨e1,e2⟩:=h1 _ _ _ _ hx hy vx vy e
  have:=congrArg List.length e2
  simp at this
  rcases h with h|h
  ·exact(h e1).elim
  ·exact(h this).elim,fun q=>nomatch q⟩
theorem US.cons{N:List bu}{L L1 L':Lk}{e:Nat×Nat}{E:List (Nat×Nat)}{res}(h:US N L [e] true L1)(k:US N L1 E res L'):US N L (e::E) res L' :=
 ⟨by rw[k.len,h.len],k.wf,Nat.le_trans k.rc h.rc,fun α f h1 h2 h3=>k.snd α f h1 (h.snd α f h1 h2 fun p hp=>h3 p (by simp at hp;simp[hp])).2 fun p hp=>h3 p (List.mem_cons_of_mem _ hp),fun q=>by
  obtain⟨k1,k2⟩:=k.cpl q
  obtain⟨h1,h2⟩:=h.cpl rfl
  refine⟨fun α f hf=>?_,fun P hP=>k2 P (h2 _ hP)⟩
  obtain⟨s1,s2⟩:=k1 α f hf
  obtain⟨s3,s4⟩:=h1 α f s1
  refine⟨s3,fun p hp=>?_⟩
  rcases List.mem_cons.1 hp with rfl|hp
  ·exact s4 _ (by simp)
  ·exact s2 p hp⟩
theorem US.stop{N:List bu}{L L':Lk}{e:Nat×Nat}{E:List (Nat×Nat)}(h:US N L [e] false L'):US N L (e::E) false L' :=
 ⟨h.len,h.wf,h.rc,fun α f h1 h2 h3=>(by have:=(h.snd α f h1 h2 fun p hp=>h3 p (by simp at hp;simp[hp])).1;cases this),fun q=>nomatch q⟩
end Go.Proofs.YtenibcfppefobaaGreatDoor
set_option linter.all false
noncomputable section
namespace Go.Proofs.YtenibcfppefobaaGreatDoor
open Go.AI
theorem US.symm{N:List bu}{L L':Lk}{a b:Nat}{res}(h:US N L [(b,a)] res L'):US N L [(a,b)] res L' :=
 ⟨h.len,h.wf,h.rc,fun α f h1 h2 h3=>h.snd α f h1 h2 fun p hp=>(by simp at hp;subst hp;exact(h3 (a,b) (by simp)).symm),fun q=>⟨fun α f hf=>⟨((h.cpl q).1 α f hf).1,fun p hp=>(by simp at hp;subst hp;exact(((h.cpl q).1 α f hf).2 (b,a) (by simp)).symm)⟩,fun P hP=>(h.cpl q).2 P fun i j x hi hx hv=>by
  obtain⟨y,a1,a2,a3,a4,a5⟩:=hP i j x hi hx hv
  refine⟨y,a1,a2,a3,a4,fun α f hf hp=>a5 α f hf fun p hp'=>?_⟩
  simp at hp'
  rcases hp' with rfl|hp'
  ·exact(hp (b,a) (by simp)).symm
  ·exact hp p (by simp[hp'])⟩⟩
theorem Aa{α:Type}{f:Nat->α}:∀ {l m:List Nat},l.length=m.length->((∀ p∈l.zip m,f p.1=f p.2)↔l.map f=m.map f)
 |[],[],_=>by simp
 |a::l,b::m,h=>by
  rw[List.zip_cons_cons,List.forall_mem_cons,Aa (f:=f) (l:=l) (m:=m) (by simpa using h)]
  simp
 |[],_::_,h=>by simp at h
 |_::_,[],h=>by simp at h
theorem US.var{N:List bu}{L:Lk}(hw:Wf L){a b ra rb n m}(ha:Rt L a ra n)(hb:Rt L b rb m)(hn:ra≠rb){x:bu}(hx:N[ra]? = some x)(hv:x.v=true):US N L [(a,b)] true (L.set ra (some rb)) :=
 .symm (US.link (E:=[]) hw hb ha (fun q=>hn q.symm) (fun _ _ _ _ p q=>nomatch q) (fun y hy vy=>by rw[hx]at hy;cases hy;rw[hv]at vy;cases vy) (.nil (hw.link ha.root hb.root (fun q=>hn q.symm)))).1
theorem US.con{N:List bu}{L:Lk}(hw:Wf L){a b ra rb n m}(ha:Rt L a ra n)(hb:Rt L b rb m)(hn:ra≠rb){x y:bu}(hx:N[ra]? = some x)(hy:N[rb]? = some y)(vx:x.v=false)(vy:y.v=false)(h:x.n=y.n)(h':x.a.length=y.a.length){res L'}(k:US N (L.set rb (some ra)) (x.a.zip y.a) res L'):US N L [(a,b)] res L' :=
 (US.link hw ha hb hn (fun α f hc e=>(Aa h').2 (hc _ _ _ _ hx hy vx vy e).2) (fun z hz _=>by
  rw[hy]at hz;cases hz
  exact⟨x,hx,vx,h.symm,h'.symm,fun α f hp=>((Aa h').1 hp).symm⟩) k).1
mutual
inductive Tr(N:List bu)(L:Lk):Nat->Ty->Prop
 |var {i r n x}:Rt L i r n->N[r]? = some x->x.v=true->Tr N L i (.mk x.n [])
 |con {i r n x ts}:Rt L i r n->N[r]? = some x->x.v=false->sX N L x.a ts->Tr N L i (.mk x.n ts)
inductive sX(N:List bu)(L:Lk):List Nat->List Ty->Prop
 |nil:sX N L [] []
 |cons {i l t ts}:Tr N L i t->sX N L l ts->sX N L (i::l) (t::ts)
end
mutual
theorem Tr.det{N L}:∀ {i t t'},Tr N L i t->Tr N L i t'->t=t'
 |_,_,_,.var h1 h2 h3,.var k1 k2 k3=>by
  obtain⟨rfl,rfl⟩:=h1.det k1;rw[h2]at k2;cases k2;rfl
 |_,_,_,.var h1 h2 h3,.con k1 k2 k3 _=>by
  obtain⟨rfl,rfl⟩:=h1.det k1;rw[h2]at k2;cases k2;rw[h3]at k3;cases k3
 |_,_,_,.con h1 h2 h3 _,.var k1 k2 k3=>by
  obtain⟨rfl,rfl⟩:=h1.det k1;rw[h2]at k2;cases k2;rw[h3]at k3;cases k3
 |_,_,_,.con h1 h2 h3 h4,.con k1 k2 k3 k4=>by
  obtain⟨rfl,rfl⟩:=h1.det k1;rw[h2]at k2;cases k2
  rw[h4.det k4]
theorem sX.det{N L}:∀ {l ts ts'},sX N L l ts->sX N L l ts'->ts=ts'
 |_,_,_,.nil,.nil=>rfl
 |_,_,_,.cons h1 h2,.cons k1 k2=>by rw[h1.det k1,h2.det k2]
end
mutual
theorem Tr.eqv{N L L'}(h:ub N L L'):∀ {i t},Tr N L i t->Tr N L' i t
 |_,_,.var h1 h2 h3=>by
  obtain⟨m,_,h1⟩:=h.rt _ _ _ h1
  exact .var h1 h2 h3
 |_,_,.con h1 h2 h3 h4=>by
  obtain⟨m,_,h1⟩:=h.rt _ _ _ h1
  exact .con h1 h2 h3 (h4.eqv h)
theorem sX.eqv{N L L'}(h:ub N L L'):∀ {l ts},sX N L l ts->sX N L' l ts
 |_,_,.nil=>.nil
 |_,_,.cons h1 h2=>.cons (h1.eqv h) (h2.eqv h)
end
theorem Tr.rt{N L}{i r n t}(k:Rt L i r n)(h:Tr N L i t):Tr N L r t:=by
 have z:=Rt.z k.root
 cases h with
 |var h1 h2 h3=>obtain⟨rfl,_⟩:=h1.det k;exact .var z h2 h3
 |con h1 h2 h3 h4=>obtain⟨rfl,_⟩:=h1.det k;exact .con z h2 h3 h4
theorem Tr.of_rt{N L}{i r n t}(k:Rt L i r n)(h:Tr N L r t):Tr N L i t:=by
 have z:=Rt.z k.root
 cases h with
 |var h1 h2 h3=>obtain⟨rfl,_⟩:=h1.det z;exact .var k h2 h3
 |con h1 h2 h3 h4=>obtain⟨rfl,_⟩:=h1.det z;exact .con k h2 h3 h4
def pR(N:List bu)(L:Lk)(i:Nat):Ty:=open Classical in if h:∃ t,Tr N L i t then h.choose else .mk [] []
theorem iw{N L i t}(h:Tr N L i t):pR N L i=t:=by
 have q:∃ t,Tr N L i t:=⟨t,h⟩
 unfold pR
 rw[dif_pos q]
 exact q.choose_spec.det h
theorem sX.map{N L}:∀ {l ts},sX N L l ts->l.map (pR N L)=ts
 |_,_,.nil=>rfl
 |_,_,.cons h1 h2=>by rw[List.map_cons,iw h1,h2.map]
theorem rK{N L}(h:∀ i,i<L.length->∃ t,Tr N L i t):dF L (pR N L):=fun i j hij=>by
 obtain⟨t,ht⟩:=h i (aB hij)
 rw[iw ht]
 have:∃ r n,Rt L i r n:=by cases ht with
  |var k _ _=>exact⟨_,_,k⟩
  |con k _ _ _=>exact⟨_,_,k⟩
 obtain⟨r,n,k⟩:=this
 cases k with
 |z k=>rw[k]at hij;cases hij
 |s k k2 =>
  rw[k]at hij;cases hij
  rw[iw (.of_rt k2 (ht.rt (.s k k2)))]
def Qh(N:List bu)(f:Nat->Ty):Prop:=∀(i:Nat) (x:bu),N[i]? = some x->x.v=false->f i=.mk x.n (x.a.map f)
theorem Qh.comp{N f}(h:Qh N f):Et N f:=fun i j x y hx hy vx vy e=>by
 rw[h i x hx vx,h j y hy vy]at e
 injection e with e1 e2
 exact⟨e1,e2⟩
theorem Eu.mod{N L}(hc:Eu N L [])(h:∀ i,i<L.length->∃ t,Tr N L i t)(hl:N.length=L.length):Qh N (pR N L):=fun i x hx hv=>by
 have hr:=rK h
 obtain⟨t,ht⟩:=h i (by rw[<- hl];exact aB hx)
 have key:∀(i r n:Nat),Rt L i r n->∀(x:bu),N[i]? = some x->x.v=false->∃ y,N[r]? = some y/\y.v=false/\x.n=y.n/\x.a.map (pR N L)=y.a.map (pR N L):=fun i r n h=>by
  induction h with
  |z _=>exact fun x hx hv=>⟨x,hx,hv,rfl,rfl⟩
  |s h _ ih =>
   intro x hx hv
   obtain⟨y,a1,a2,a3,_,a5⟩:=hc _ _ _ h hx hv
   obtain⟨z,b1,b2,b3,b4⟩:=ih y a1 a2
   exact⟨z,b1,b2,a3.trans b3,(a5 _ _ hr (fun _ q=>nomatch q)).trans b4⟩
 rw[iw ht]
 cases ht with
 |var h1 h2 h3 =>
  obtain⟨y,a1,a2,_⟩:=key _ _ _ h1 x hx hv
  rw[h2]at a1;cases a1;rw[h3]at a2;cases a2
 |con h1 h2 h3 h4 =>
  obtain⟨y,a1,a2,a3,a4⟩:=key _ _ _ h1 x hx hv
  rw[h2]at a1;cases a1
  rw[<- a3,a4,h4.map]
mutual
def sub(s:ac->Option Ty):Ty->Ty
 |.mk n l=>match l,s n with
  |[],some t=>t
  |_,_=>.mk n (fT s l)
def fT(s:ac->Option Ty):List Ty->List Ty
 |[]=>[]
 |t::r=>sub s t::fT s r
end
theorem mu(s:ac->Option Ty):∀ l,fT s l=l.map (sub s)
 |[]=>rfl
 |t::r=>by simp[fT,mu s r]
end Go.Proofs.YtenibcfppefobaaGreatDoor
set_option linter.all false
noncomputable section
namespace Go.Proofs.YtenibcfppefobaaGreatDoor
open Go.AI
structure GN(N:List bu)(T:List Ty)(isV:ac->Bool):Prop where
 len:T.length=N.length
 var:∀(i:Nat) (x:bu),N[i]? = some x->x.v=true->T[i]? = some (.mk x.n [])/\isV x.n=true/\x.a=[]
 con:∀(i:Nat) (x:bu),N[i]? = some x->x.v=false->isV x.n=false/\(∀ a∈x.a,a<i)/\∃ ts,T[i]? = some (.mk x.n ts)/\x.a.map (fun a=>T[a]?)=ts.map some
 inj:∀(i j:Nat) (x y:bu),N[i]? = some x->N[j]? = some y->x.v=true->y.v=true->x.n=y.n->i=j
def nN(T:List Ty)(i:Nat):Ty:=(T[i]?).getD (.mk [] [])
theorem fG{T:List Ty}{i t}(h:T[i]? = some t):nN T i=t:=by unfold nN;rw[h];rfl
theorem Ho{T:List Ty}:∀ {l:List Nat} {ts:List Ty},l.map (fun a=>T[a]?)=ts.map some->l.map (nN T)=ts
 |[],[],_=>rfl
 |a::l,t::ts,h=>by
  simp only[List.map_cons,List.cons.injEq]at h
  rw[List.map_cons,fG h.1,Ho h.2]
 |[],_::_,h=>by simp at h
 |_::_,[],h=>by simp at h
def Vs(isV:ac->Bool)(s:ac->Option Ty):Prop:=∀ n t,s n=some t->isV n=true
theorem Vs.no{isV s}(h:Vs isV s){n}(k:isV n=false):s n=none:=by
 cases q:s n with
 |none=>rfl
 |some t=>rw[h n t q]at k;cases k
theorem fc{isV s}(h:Vs isV s){n l}(k:isV n=false):sub s (.mk n l)=.mk n (l.map (sub s)):=by
 unfold sub
 rw[h.no k,mu]
 split
 ·rename_i q;cases q
 ·rfl
theorem nI{s:ac->Option Ty}{n}:sub s (.mk n [])=(s n).getD (.mk n []):=by
 unfold sub
 cases s n<;>rfl
theorem GN.con'{N T isV}(g:GN N T isV){i x}(h:N[i]? = some x)(hv:x.v=false):nN T i=.mk x.n (x.a.map (nN T)):=by
 obtain⟨_,_,ts,h2,h3⟩:=g.con i x h hv
 rw[fG h2,Ho h3]
theorem GN.mod{N T isV}(g:GN N T isV){s}(hs:Vs isV s):Qh N fun i=>sub s (nN T i):=fun i x h hv=>by
 show sub s (nN T i)=_
 rw[g.con' h hv,fc hs (g.con i x h hv).1,List.map_map]
 rfl
structure Nh(N:List bu)(L:Lk)(isV:ac->Bool)(s:ac->Option Ty):Prop where
 out:∀(i:Nat) (x:bu),N[i]? = some x->x.v=true->s x.n=if L[i]? = some none then none else some (pR N L i)
 vs:Vs isV s
theorem Nh.ap{N L T isV s}(g:GN N T isV)(h:Nh N L isV s)(hc:Eu N L [])(hT:∀ i,i<L.length->∃ t,Tr N L i t)(hl:N.length=L.length)(i:Nat)(hi:i<N.length):sub s (nN T i)=pR N L i:=by
 induction i using Nat.strongRecOn with
 |ind i ih =>
  have hx:=List.getElem?_eq_getElem hi
  generalize N[i]=x at hx
  cases hv:x.v with
  |true =>
   obtain⟨a1,a2,a3⟩:=g.var i x hx hv
   rw[fG a1,nI,h.out i x hx hv]
   split
   ·rename_i q
    exact(iw (.var (.z q) hx hv)).symm
   ·rfl
  |false =>
   obtain⟨a1,a2,ts,a3,a4⟩:=g.con i x hx hv
   rw[g.con' hx hv,fc h.vs a1,hc.mod hT hl i x hx hv,List.map_map]
   congr 1
   refine List.map_congr_left fun a ha=>?_
   have:=a2 a ha
   exact ih a this (by omega)
mutual
theorem Nh.idem{N L T isV s}(g:GN N T isV)(h:Nh N L isV s):∀ {i t},Tr N L i t->sub s t=t
 |_,_,.var h1 h2 h3=>by
  rw[nI,h.out _ _ h2 h3,if_pos h1.root]
  rfl
 |_,_,.con h1 h2 h3 h4=>by
  rw[fc h.vs (g.con _ _ h2 h3).1,Nh.idems g h h4]
theorem Nh.idems{N L T isV s}(g:GN N T isV)(h:Nh N L isV s):∀ {l ts},sX N L l ts->ts.map (sub s)=ts
 |_,_,.nil=>rfl
 |_,_,.cons h1 h2=>by rw[List.map_cons,Nh.idem g h h1,Nh.idems g h h2]
end
mutual
theorem Tr.gen{N L T isV s}(g:GN N T isV)(hs:Vs isV s)(hr:dF L fun i=>sub s (nN T i)):∀ {i t},Tr N L i t->sub s t=sub s (nN T i)
 |_,_,.var h1 h2 h3=>by
  have:=hr.rt h1
  rw[this,fG (g.var _ _ h2 h3).1]
 |_,_,.con h1 h2 h3 h4=>by
  have:=hr.rt h1
  rw[this,g.con' h2 h3,fc hs (g.con _ _ h2 h3).1,fc hs (g.con _ _ h2 h3).1,sX.gen g hs hr h4,List.map_map]
  rfl
theorem sX.gen{N L T isV s}(g:GN N T isV)(hs:Vs isV s)(hr:dF L fun i=>sub s (nN T i)):∀ {l ts},sX N L l ts->ts.map (sub s)=l.map fun i=>sub s (nN T i)
 |_,_,.nil=>rfl
 |_,_,.cons h1 h2=>by rw[List.map_cons,List.map_cons,Tr.gen g hs hr h1,sX.gen g hs hr h2]
end
end Go.Proofs.YtenibcfppefobaaGreatDoor
set_option linter.all false
noncomputable section
namespace Go.Proofs.YtenibcfppefobaaGreatDoor
open Go.AI
theorem f3{R:bm}{p0 p1:eA}{H:DH}:aR R 3 [.row 2 p0,.row 3 p1] H =
 C R 6 [] H fun a H=>cond (decide ((p0.length:Int)>6)) (ret a H) (af R 3 200005 [.g (.row 2 p0),.g (.row 3 p1),.g a,.n 0] [] H):=by kernel_rfl
theorem WS{R:bm}{a:eA}{b:ac}{c:eA}{H:DH}:aR R 32 [.agg [.row 1 a,.str b,.row 2 c]] H =
 C R 7 [.agg [.str b,.row 2 c]] H fun d H=>ay ab .eql 3 true d (.i 0) fun d=>brD d (ret (.bool false) H) (cond (decide ((a.length:Int)>2000)) (ret (.bool false) H) (C R 31 [.agg [.str b,.row 2 c],.nilrow] H fun b H=>let c:=H++[.map []];af R 32 200006 [.g b,.g (.map H.length),.g (.row 1 a),.n a.length,.n 0] [] c)):=by kernel_rfl
theorem wK{R:bm}{v3:D}{v4:Nat}{a:eA}{b c:Int}{H:DH}:bA R 32 200006 [.g v3,.g (.map v4),.g (.row 1 a),.n b,.n c] [] H =
 cond (decide (c<b)) (dJ c fun d=>eP a d fun d=>aF d 0 fun d=>eR ab 135 (.map v4) d false H fun e=>ay ab .add 3 true e (.i 1) fun e=>fM ab 135 (.map v4) d e H fun H=>eR ab 135 (.map v4) d false H fun e=>ay ab .gtr 3 true e (.i 1) fun e=>brD e (ret (.bool false) H) (C R 58 [v3,d] H fun d H=>rI .not d fun d=>brD d (ret (.bool false) H) (af R 32 200006 [.g v3,.g (.map v4),.g (.row 1 a),.n b,.n (cS (c+1))] [] H))) (ret (.bool true) H):=by kernel_rfl
end Go.Proofs.YtenibcfppefobaaGreatDoor
set_option linter.all false
noncomputable section
namespace Go.Proofs.YtenibcfppefobaaGreatDoor
open Go.AI
theorem f4{R:bm}{p0:eA}{H:DH}:aR R 4 [.row 2 p0] H =
 C R 6 [] H fun a H=>cond (decide ((p0.length:Int)<2)) (ret a H) (cond (decide ((p0.length:Int)>6)) (ret a H) (af R 4 200005 [.g (.row 2 p0),.g a,.n 0] [] H)):=by kernel_rfl
theorem zJ{R:bm}{v0:eA}{v3:Bool}{v4:Int}{H:DH}:bA R 4 200005 [.g (.row 2 v0),.g (.bool v3),.n v4] [] H =
 cond (decide (v4<v0.length)) (dJ v4 fun a=>eP v0 a fun a=>aF a 0 fun b=>aF a 1 fun a=>C R 7 [.agg [b,a]] H fun a H=>ay ab .gtr 3 true a (.i 60) fun a=>brD a (ret (.bool v3) H) (af R 4 200005 [.g (.row 2 v0),.g (.bool v3),.n (cS (v4+1))] [] H)) (af R 4 200011 [.g (.row 2 v0),.g (.bool v3),.g .nilrow,.n 0] [] H):=by kernel_rfl
theorem sH{R:bm}{v0:eA}{v3:Bool}{v5:D}{v6:Int}{H:DH}:bA R 4 200011 [.g (.row 2 v0),.g (.bool v3),.g v5,.n v6] [] H =
 cond (decide (v6<v0.length)) (dJ (cS ((cS ((v0.length:Int) - 1)) - v6)) fun a=>eP v0 a fun a=>aF a 0 fun b=>aF a 1 fun a=>eG (aT ab 27) 2 v5 [[b,a]] H fun a H=>af R 4 200011 [.g (.row 2 v0),.g (.bool v3),.g a,.n (cS (v6+1))] [] H) (eP v0 0 fun a=>aF a 0 fun b=>aF a 1 fun a=>eG (aT ab 27) 2 v5 [[b,a]] H fun a H=>il (.fz 2) 0 a H fun a H=>C R 8 [.row 2 v0] H fun b H=>cO b 0 fun c=>cO b 1 fun b=>C R 8 [a] H fun a H=>cO a 0 fun d=>cO a 1 fun a=>cond (!v3) (ret (.bool false) H) (ay ab .neq 28 false b a fun a=>brD a (ret (.bool false) H) (ay ab .neq 28 true b (.i 0) fun a=>brD a (ret (.bool true) H) (eP v0 0 fun a=>aF a 0 fun b=>aF a 1 fun a=>C R 9 [c,.agg [b,a]] H fun a H=>cO a 0 fun b=>cO a 1 fun a=>ah 2 b fun b=>ar [.str [],.nilrow] 0 b fun b=>eP v0 0 fun c=>aF c 0 fun e=>aF c 1 fun c=>C R 9 [d,.agg [e,c]] H fun c H=>cO c 0 fun d=>cO c 1 fun c=>ah 2 d fun d=>ar [.str [],.nilrow] 0 d fun d=>ay ab .neq 28 true a (.i 0) fun e=>brD e (ay ab .eql 28 false a c fun a=>ret a H) (ay ab .neq 28 true c (.i 0) fun e=>brD e (ay ab .eql 28 false a c fun a=>ret a H) (aF b 0 fun a=>aF b 1 fun b=>C R 11 [.agg [a,b]] H fun a H=>cO a 0 fun b=>cO a 1 fun a=>ah 3 b fun b=>ar [.nilrow,.str [],.nilrow] 0 b fun b=>aF d 0 fun c=>aF d 1 fun d=>C R 11 [.agg [c,d]] H fun c H=>cO c 0 fun d=>cO c 1 fun c=>ah 3 d fun d=>ar [.nilrow,.str [],.nilrow] 0 d fun d=>ay ab .neq 28 true a (.i 0) fun a=>brD a (ret (.bool false) H) (ay ab .neq 28 true c (.i 0) fun a=>brD a (ret (.bool false) H) (aF b 0 fun a=>aF b 1 fun c=>aF b 2 fun b=>C R 12 [.agg [a,c,b]] H fun a H=>cO a 0 fun b=>cO a 1 fun a=>ah 3 b fun b=>ar [.nilrow,.str [],.nilrow] 0 b fun b=>aF d 0 fun c=>aF d 1 fun e=>aF d 2 fun d=>C R 12 [.agg [c,e,d]] H fun c H=>cO c 0 fun d=>cO c 1 fun c=>ah 3 d fun d=>ar [.nilrow,.str [],.nilrow] 0 d fun d=>ay ab .eql 28 true a (.i 0) fun a=>brD a (ay ab .eql 28 true c (.i 0) fun a=>brD a (aF b 0 fun a=>aF b 1 fun c=>aF b 2 fun b=>aF d 0 fun e=>aF d 1 fun f=>aF d 2 fun d=>C R 13 [.agg [a,c,b],.agg [e,f,d]] H fun a H=>ret a H) (ret (.bool false) H)) (ret (.bool false) H))))))))):=by kernel_rfl
theorem Vj{R:bm}{p0 a b:Nat}{H:DH}:aR R 56 [.ptr p0 0,.ptr a 0,.ptr b 0] H =
 C R 26 [.ptr p0 0] H fun c H=>aG H a fun _ d=>aF d 0 fun d=>eR ab 131 d c false H fun d=>ay ab .eql 3 true d (.i 1) fun e=>brD e (ret (.bool false) H) (ay ab .eql 3 true d (.i 2) fun d=>brD d (ret (.bool true) H) (aG H a fun _ d=>aF d 0 fun d=>fM ab 131 d c (.i 1) H fun H=>eD c fun d=>dt d 3 fun d=>eZ ab 71 d H fun d=>eC ab 71 d H fun e=>af R 56 200009 [.g c,.g (.ptr a 0),.g (.ptr b 0),.g d,.g e,.n 0] [] H)):=by kernel_rfl
theorem wG{R:bm}{v0 v1 v2:Nat}{a:D}{b c:Int}{H:DH}:bA R 56 200009 [.g (.ptr v0 0),.g (.ptr v1 0),.g (.ptr v2 0),.g a,.n b,.n c] [] H =
 cond (decide (c<b)) (cE ab 71 a (.i c) fun d=>eZ ab 74 d H fun d=>aG H v2 fun _ e=>aF e 0 fun e=>FF lK e fun e f g=>C R e (f++([d]++g)) H fun d H=>rI .not d fun d=>brD d (ret (.bool false) H) (af R 56 200009 [.g (.ptr v0 0),.g (.ptr v1 0),.g (.ptr v2 0),.g a,.n b,.n (cS (c+1))] [] H)) (aG H v1 fun _ a=>aF a 0 fun a=>fM ab 131 a (.ptr v0 0) (.i 2) H fun H=>ret (.bool true) H):=by kernel_rfl
theorem Xe{R:bm}{a:ac}{b:eA}{H:DH}:aR R 11 [.agg [.str a,.row 2 b]] H =
 C R 7 [.agg [.str a,.row 2 b]] H fun c H=>ay ab .eql 3 true c (.i 0) fun c=>brD c (ret (.tuple [.agg [.row 1 [],.str [],.nilrow],.i 32]) H) (let c:=H++[.cells 0 [.i 0]];aG c H.length fun d e=>ar e 0 [.i 0] fun e=>let c:=c.set H.length (.cells (d+1) e);dP (R (.call 31 [.agg [.str a,.row 2 b],.nilrow] none) c) (fun c d=>dP (R (.call 30 [.nilmap,.agg [.str a,.row 2 b],.ptr H.length 0] none) d) (fun a H=>ah 1 c fun b=>ar [.nilrow,.str [],.nilrow] 0 b fun b=>ah 2 a fun a=>ar b 1 a fun a=>ah 3 (.agg a) fun a=>ar [.nilrow,.str [],.nilrow] 0 a fun a=>aF a 0 fun b=>aF a 1 fun c=>aF a 2 fun a=>fN (.fz 1) b H fun b H=>ret (.tuple [.agg [b,c,a],.i 0]) H) fun _ _=>none) fun _ _=>none):=by kernel_rfl
theorem f7{R:bm}{a:ac}{b:eA}{H:DH}:aR R 7 [.agg [.str a,.row 2 b]] H =
 let a:=H++[.cells 0 [.str a,.row 2 b]];let b:=a++[.cells 0 [.i 0]];aG b a.length fun c d=>ar d 0 [.i 0] fun d=>let b:=b.set a.length (.cells (c+1) d);C R 22 [.ptr H.length 0,.i 1,.ptr a.length 0] b fun b H=>rI .not b fun b=>brD b (ret (.i 0) H) (aG H a.length fun _ a=>aF a 0 fun a=>ret a H):=by kernel_rfl
theorem WV{R:bm}{p0:Nat}{H:DH}:aR R 28 [.ptr p0 0] H =
 aG H p0 fun _ a=>aF a 1 fun a=>ah 1 a fun a=>ar [.str [],.nilrow] 0 a fun a=>ah 2 (.agg a) fun a=>ar [.str [],.nilrow] 0 a fun a=>aF a 0 fun b=>aF a 1 fun a=>ret (.agg [b,a]) H:=by kernel_rfl
end Go.Proofs.YtenibcfppefobaaGreatDoor
set_option linter.all false
noncomputable section
namespace Go.Proofs.YtenibcfppefobaaGreatDoor
open Go.AI
theorem f8{R:bm}{p0:eA}{H:DH}:aR R 8 [.row 2 p0] H =
 cond (decide ((p0.length:Int)>16)) (ret (.tuple [.row 3 [],.i 1]) H) (af R 8 200004 [.g (.row 2 p0),.g (.row 2 p0),.n p0.length,.n 0] [] H):=by kernel_rfl
theorem zI{R:bm}{v0 a:eA}{b c:Int}{H:DH}:bA R 8 200004 [.g (.row 2 v0),.g (.row 2 a),.n b,.n c] [] H =
 cond (decide (c<b)) (dJ c fun d=>eP a d fun d=>aF d 0 fun e=>aF d 1 fun d=>C R 7 [.agg [e,d]] H fun d H=>ay ab .eql 3 true d (.i 0) fun d=>brD d (ret (.tuple [.row 3 [],.i 32]) H) (af R 8 200004 [.g (.row 2 v0),.g (.row 2 a),.n b,.n (cS (c+1))] [] H)) (let a:=H++[.map []];let H:=a++[.cells 0 [.map H.length,.nilrow]];af R 8 200012 [.g (.ptr a.length 0),.g .nilrow,.g (.row 2 v0),.n v0.length,.n 0] [] H):=by kernel_rfl
theorem zH{R:bm}{v6:Nat}{v7:D}{a:eA}{b c:Int}{H:DH}:bA R 8 200012 [.g (.ptr v6 0),.g v7,.g (.row 2 a),.n b,.n c] [] H =
 cond (decide (c<b)) (dJ c fun d=>eP a d fun d=>aF d 0 fun e=>aF d 1 fun d=>C R 23 [.ptr v6 0,.agg [e,d]] H fun d H=>ah 1 d fun d=>eG (aT ab 74) 1 v7 [d] H fun d H=>af R 8 200012 [.g (.ptr v6 0),.g d,.g (.row 2 a),.n b,.n (cS (c+1))] [] H) (eC ab 71 v7 H fun a=>af R 8 200017 [.g (.ptr v6 0),.g v7,.g v7,.g a,.n 0] [] H):=by kernel_rfl
theorem sG{R:bm}{v6:Nat}{v7 a:D}{b c:Int}{H:DH}:bA R 8 200017 [.g (.ptr v6 0),.g v7,.g a,.n b,.n c] [] H =
 cond (decide (c<b)) (cE ab 71 a (.i c) fun d=>eZ ab 74 d H fun d=>cE ab 71 v7 (.i 0) fun e=>eZ ab 74 e H fun e=>C R 24 [e,d] H fun d H=>rI .not d fun d=>brD d (ret (.tuple [.row 3 [],.i 30]) H) (af R 8 200017 [.g (.ptr v6 0),.g v7,.g a,.n b,.n (cS (c+1))] [] H)) (C R 25 [v7] H fun a H=>rI .not a fun a=>brD a (ret (.tuple [.row 3 [],.i 31]) H) (aG H v6 fun _ a=>aF a 1 fun a=>eC ab 71 a H fun b=>af R 8 200026 [.g .nilrow,.g a,.g b,.n 0] [] H)):=by kernel_rfl
theorem zG{R:bm}{a b:D}{c e:Int}{H:DH}:bA R 8 200026 [.g a,.g b,.n c,.n e] [] H =
 cond (decide (e<c)) (cE ab 71 b (.i e) fun d=>eZ ab 74 d H fun d=>C R 26 [d] H fun f H=>xA ab .eql 74 false f d H fun f=>brD f (af R 8 200026 [.g a,.g b,.n c,.n (cS (e+1))] [] H) (let f:=H++[.cells 0 [.i 0]];aG f H.length fun g h=>ar h 0 [.i 0] fun h=>let f:=f.set H.length (.cells (g+1) h);C R 27 [d,.i 1,.ptr H.length 0,.func 28 [] []] f fun f g=>ah 2 f fun f=>ar [.str [],.nilrow] 0 f fun f=>aG g H.length fun _ h=>aF h 0 fun h=>ay ab .gtr 3 true h (.i 2000) fun h=>brD h (ret (.tuple [.row 3 [],.i 39]) g) (eD d fun d=>dt d 1 fun d=>eZ ab 9 d g fun d=>aF f 0 fun h=>aF f 1 fun f=>ah 1 d fun d=>ar [.str [],.str [],.nilrow] 0 d fun d=>ar d 1 [h,f] fun d=>ah 3 (.agg d) fun d=>eG (aT ab 52) 3 a [d] g fun a H=>af R 8 200026 [.g a,.g b,.n c,.n (cS (e+1))] [] H))) (il (.fz 3) 0 a H fun a H=>ret (.tuple [a,.i 0]) H):=by kernel_rfl
theorem WQ{R:bm}{a:ac}{b:eA}{H:DH}:aR R 34 [.agg [.str a,.row 2 b]] H =
 let c:=H++[.map []];C R 31 [.agg [.str a,.row 2 b],.nilrow] c fun c d=>eC ab 35 c d fun e=>af R 34 200004 [.lp 0 0,.lp 1 0,.g (.map H.length),.lp 2 0,.g c,.g e,.n 0] [(0,[.str a,.row 2 b]),(0,[.nilrow,.str [],.nilrow]),(0,[.nilrow,.str [],.nilrow])] d:=by kernel_rfl
theorem wJ{R:bm}{v3:Nat}{a:D}{b c:Int}{e:ac}{h:eA}{j:D}{k:ac}{l m:D}{p:ac}{q:D}{H:DH}:bA R 34 200004 [.lp 0 0,.lp 1 0,.g (.map v3),.lp 2 0,.g a,.n b,.n c] [(0,[.str e,.row 2 h]),(0,[j,.str k,l]),(0,[m,.str p,q])] H =
 cond (decide (c<b)) (cE ab 35 a (.i c) fun d=>eZ ab 9 d H fun d=>C R 59 [.i c] H fun f H=>ah 1 f fun f=>ar [.str [],.nilrow] 0 f fun f=>il (.fz 2) 1 (.agg f) H fun f H=>fM ab 83 (.map v3) d f H fun H=>dP (R (.call 59 [.i c] none) H) (fun d H=>ah 1 d fun d=>eG (aT ab 9) 1 m [d] H fun d H=>ah 1 d fun d=>ar [m,.str p,q] 0 d fun d=>af R 34 200004 [.lp 0 0,.lp 1 0,.g (.map v3),.lp 2 0,.g a,.n b,.n (cS (c+1))] [(0,[.str e,.row 2 h]),(0,[j,.str k,l]),(0,d)] H) fun _ _=>none) (let a:=H++[.cells 0 [.i 0]];aG a H.length fun b c=>ar c 0 [.i 0] fun c=>let a:=a.set H.length (.cells (b+1) c);C R 30 [.map v3,.agg [.str e,.row 2 h],.ptr H.length 0] a fun a H=>ah 2 a fun a=>ar [m,.str p,q] 1 a fun a=>aF a 0 fun b=>aF a 1 fun c=>aF a 2 fun a=>fN (.fz 1) b H fun b H=>ret (.agg [b,c,a]) H):=by kernel_rfl
theorem WX{R:bm}{p0:Nat}{H:DH}:aR R 26 [.ptr p0 0] H =
 af R 26 200001 [.g (.ptr p0 0)] [] H:=by kernel_rfl
theorem py{R:bm}{v0:Nat}{H:DH}:bA R 26 200001 [.g (.ptr v0 0)] [] H =
 aG H v0 fun _ a=>aF a 4 fun a=>ay ab .neq 74 true a .nilptr fun a=>brD a (aG H v0 fun _ a=>aF a 4 fun a=>eD a fun a=>dt a 4 fun a=>eZ ab 74 a H fun a=>ay ab .neq 74 true a .nilptr fun a=>brD a (aG H v0 fun _ a=>aF a 4 fun a=>eD a fun a=>dt a 4 fun a=>eZ ab 74 a H fun a=>ah 1 a fun a=>aG H v0 fun b c=>ar c 4 a fun a=>let H:=H.set v0 (.cells (b+1) a);aG H v0 fun _ a=>aF a 4 fun a=>af R 26 200001 [.g a] [] H) (aG H v0 fun _ a=>aF a 4 fun a=>af R 26 200001 [.g a] [] H)) (ret (.ptr v0 0) H):=by kernel_rfl
theorem Xc{R:bm}{a:eA}{b:ac}{c e:eA}{g:ac}{h:eA}{H:DH}:aR R 13 [.agg [.row 1 a,.str b,.row 2 c],.agg [.row 1 e,.str g,.row 2 h]] H =
 C R 35 [.row 1 a,.row 1 e] H fun a H=>brD a (C R 10 [.agg [.str b,.row 2 c],.agg [.str g,.row 2 h]] H fun a H=>ret a H) (ret (.bool false) H):=by kernel_rfl
end Go.Proofs.YtenibcfppefobaaGreatDoor
set_option linter.all false
noncomputable section
namespace Go.Proofs.YtenibcfppefobaaGreatDoor
open Go.AI
theorem WZ{R:bm}{x:D}{p1:Int}{p2:Nat}{H:DH}:aR R 22 [x,.i p1,.ptr p2 0] H =
 aG H p2 fun _ a=>aF a 0 fun a=>ay ab .add 3 true a (.i 1) fun a=>ah 1 a fun a=>aG H p2 fun b c=>ar c 0 a fun a=>let H:=H.set p2 (.cells (b+1) a);eD x fun a=>dt a 1 fun a=>eZ ab 22 a H fun a=>eC ab 22 a H fun a=>eD x fun b=>dt b 0 fun b=>eZ ab 9 b H fun b=>ay ab .eql 9 true b (.str [73,110,116]) fun c=>brD c (ay ab .eql 3 true a (.i 0) fun a=>af R 22 12 [.g x,.n p1,.g (.ptr p2 0),.g a] [] H) (ay ab .eql 9 true b (.str [45,62]) fun c=>brD c (ay ab .eql 3 true a (.i 2) fun a=>af R 22 12 [.g x,.n p1,.g (.ptr p2 0),.g a] [] H) (ay ab .eql 9 true b (.str [44]) fun b=>brD b (ay ab .geq 3 true a (.i 2) fun b=>brD b (ay ab .leq 3 true a (.i 4) fun a=>af R 22 12 [.g x,.n p1,.g (.ptr p2 0),.g a] [] H) (af R 22 12 [.g x,.n p1,.g (.ptr p2 0),.g (.bool false)] [] H)) (eD x fun b=>dt b 0 fun b=>eZ ab 9 b H fun b=>C R 29 [b] H fun b H=>brD b (ay ab .eql 3 true a (.i 0) fun b=>brD b (af R 22 12 [.g x,.n p1,.g (.ptr p2 0),.g (.bool true)] [] H) (eD x fun b=>dt b 0 fun b=>eZ ab 9 b H fun b=>C R 55 [b] H fun b H=>brD b (ay ab .leq 3 true a (.i 16) fun a=>af R 22 12 [.g x,.n p1,.g (.ptr p2 0),.g a] [] H) (af R 22 12 [.g x,.n p1,.g (.ptr p2 0),.g (.bool false)] [] H))) (eD x fun b=>dt b 0 fun b=>eZ ab 9 b H fun b=>C R 55 [b] H fun b H=>brD b (ay ab .leq 3 true a (.i 16) fun a=>af R 22 12 [.g x,.n p1,.g (.ptr p2 0),.g a] [] H) (af R 22 12 [.g x,.n p1,.g (.ptr p2 0),.g (.bool false)] [] H))))):=by kernel_rfl
theorem Bp{R:bm}{v0:D}{v1:Int}{v2:Nat}{v8:Bool}{H:DH}:bA R 22 12 [.g v0,.n v1,.g (.ptr v2 0),.g (.bool v8)] [] H =
 cond (!v8) (ret (.bool false) H) (aG H v2 fun _ a=>aF a 0 fun a=>ay ab .gtr 3 true a (.i 2000) fun a=>brD a (ret (.bool false) H) (cond (decide (v1>100)) (ret (.bool false) H) (eD v0 fun a=>dt a 1 fun a=>eZ ab 22 a H fun a=>eC ab 22 a H fun a=>af R 22 200015 [.g v0,.n v1,.g (.ptr v2 0),.g a,.n 0] [] H))):=by kernel_rfl
theorem wS{R:bm}{v0:D}{v1:Int}{v2:Nat}{a b:Int}{H:DH}:bA R 22 200015 [.g v0,.n v1,.g (.ptr v2 0),.n a,.n b] [] H =
 cond (decide (b<a)) (eD v0 fun c=>dt c 1 fun c=>eZ ab 22 c H fun c=>cE ab 22 c (.i b) fun c=>C R 22 [c,.i (cS (v1+1)),.ptr v2 0] H fun c H=>rI .not c fun c=>brD c (ret (.bool false) H) (af R 22 200015 [.g v0,.n v1,.g (.ptr v2 0),.n a,.n (cS (b+1))] [] H)) (ret (.bool true) H):=by kernel_rfl
theorem Vr{R:bm}{p0:Nat}{a:ac}{b:eA}{H:DH}:aR R 23 [.ptr p0 0,.agg [.str a,.row 2 b]] H =
 C R 29 [.str a] H fun c H=>rI .not c fun c=>brD c (let a:=H++[.cells 0 [.bool false,.str a,.i 0,.nilrow,.nilptr]];af R 23 200004 [.g (.ptr p0 0),.g (.ptr H.length 0),.g (.row 2 b),.n b.length,.n 0] [] a) (aG H p0 fun _ b=>aF b 0 fun b=>eR ab 70 b (.str a) false H fun b=>ay ab .eql 74 true b .nilptr fun c=>brD c (aG H p0 fun _ b=>aF b 1 fun b=>eC ab 71 b H fun b=>ah 1 b fun b=>ar [.bool true,.str a,.i 0,.nilrow,.nilptr] 2 b fun b=>ah 5 (.agg b) fun b=>let b:=H++[.cells 0 b];aG b p0 fun _ c=>aF c 0 fun c=>fM ab 70 c (.str a) (.ptr H.length 0) b fun a=>aG a p0 fun _ b=>aF b 1 fun b=>eG (aT ab 74) 1 b [[.ptr H.length 0]] a fun a b=>ah 1 a fun a=>aG b p0 fun c d=>ar d 1 a fun a=>let a:=b.set p0 (.cells (c+1) a);ret (.ptr H.length 0) a) (ret b H)):=by kernel_rfl
theorem wR{R:bm}{v0 v5:Nat}{a:eA}{b c:Int}{H:DH}:bA R 23 200004 [.g (.ptr v0 0),.g (.ptr v5 0),.g (.row 2 a),.n b,.n c] [] H =
 cond (decide (c<b)) (dJ c fun d=>eP a d fun d=>aF d 0 fun e=>aF d 1 fun d=>dP (R (.call 23 [.ptr v0 0,.agg [e,d]] none) H) (fun d e=>aG (cH e [H]) v5 fun _ f=>aF f 3 fun f=>ah 1 d fun d=>eG (aT ab 74) 1 f [d] e fun d H=>ah 1 d fun d=>aG H v5 fun e f=>ar f 3 d fun d=>let H:=H.set v5 (.cells (e+1) d);af R 23 200004 [.g (.ptr v0 0),.g (.ptr v5 0),.g (.row 2 a),.n b,.n (cS (c+1))] [] H) fun _ _=>none) (ret (.ptr v5 0) H):=by kernel_rfl
theorem WT{R:bm}{a:ac}{b:eA}{o:D}{H:DH}:aR R 31 [.agg [.str a,.row 2 b],o] H =
 C R 29 [.str a] H fun c H=>brD c (C R 58 [o,.str a] H fun c H=>rI .not c fun c=>brD c (eG (aT ab 9) 1 o [[.str a]] H fun a H=>af R 31 200004 [.g a,.g (.row 2 b),.n b.length,.n 0] [] H) (af R 31 200004 [.g o,.g (.row 2 b),.n b.length,.n 0] [] H)) (af R 31 200004 [.g o,.g (.row 2 b),.n b.length,.n 0] [] H):=by kernel_rfl
theorem wL{R:bm}{v1:D}{a:eA}{b c:Int}{H:DH}:bA R 31 200004 [.g v1,.g (.row 2 a),.n b,.n c] [] H =
 cond (decide (c<b)) (dJ c fun d=>eP a d fun d=>aF d 0 fun e=>aF d 1 fun d=>C R 31 [.agg [e,d],v1] H fun d H=>af R 31 200004 [.g d,.g (.row 2 a),.n b,.n (cS (c+1))] [] H) (ret v1 H):=by kernel_rfl
theorem Xd{R:bm}{a:eA}{b:ac}{c:eA}{H:DH}:aR R 12 [.agg [.row 1 a,.str b,.row 2 c]] H =
 C R 32 [.agg [.row 1 a,.str b,.row 2 c]] H fun d H=>rI .not d fun d=>brD d (ret (.tuple [.agg [.nilrow,.str [],.nilrow],.i 32]) H) (C R 33 [.agg [.row 1 a,.str b,.row 2 c]] H fun a H=>rI .not a fun a=>brD a (ret (.tuple [.agg [.nilrow,.str [],.nilrow],.i 1]) H) (C R 34 [.agg [.str b,.row 2 c]] H fun a H=>ah 3 a fun a=>ar [.nilrow,.str [],.nilrow] 0 a fun a=>aF a 0 fun b=>aF a 1 fun c=>aF a 2 fun a=>ret (.tuple [.agg [b,c,a],.i 0]) H)):=by kernel_rfl
end Go.Proofs.YtenibcfppefobaaGreatDoor
set_option linter.all false
noncomputable section
namespace Go.Proofs.YtenibcfppefobaaGreatDoor
open Go.AI
theorem Wr{R:bm}{p0 p1:Nat}{H:DH}:aR R 24 [.ptr p0 0,.ptr p1 0] H =
 C R 26 [.ptr p0 0] H fun a H=>C R 26 [.ptr p1 0] H fun b H=>xA ab .eql 74 false a b H fun c=>brD c (ret (.bool true) H) (eD a fun c=>dt c 0 fun c=>eZ ab 4 c H fun c=>brD c (eD b fun c=>dt c 0 fun c=>eZ ab 4 c H fun c=>brD c (eD a fun c=>dt c 2 fun c=>eZ ab 3 c H fun c=>eD b fun d=>dt d 2 fun d=>eZ ab 3 d H fun d=>ay ab .gtr 3 false c d fun c=>brD c (eD a fun a=>dt a 4 fun a=>ah 1 b fun b=>NI a b H fun H=>ret (.bool true) H) (af R 24 5 [.g a,.g b] [] H)) (af R 24 5 [.g a,.g b] [] H)) (af R 24 5 [.g a,.g b] [] H)):=by kernel_rfl
theorem TX{R:bm}{v0 v1:Nat}{H:DH}:bA R 24 5 [.g (.ptr v0 0),.g (.ptr v1 0)] [] H =
 aG H v0 fun _ a=>aF a 0 fun a=>brD a (aG H v1 fun _ a=>aF a 0 fun a=>rI .not a fun a=>brD a (aG H v0 fun a b=>ar b 4 [.ptr v1 0] fun b=>let H:=H.set v0 (.cells (a+1) b);ret (.bool true) H) (af R 24 8 [.g (.ptr v0 0),.g (.ptr v1 0)] [] H)) (af R 24 8 [.g (.ptr v0 0),.g (.ptr v1 0)] [] H):=by kernel_rfl
theorem HM{R:bm}{v0 v1:Nat}{H:DH}:bA R 24 8 [.g (.ptr v0 0),.g (.ptr v1 0)] [] H =
 aG H v1 fun _ a=>aF a 0 fun a=>brD a (aG H v1 fun a b=>ar b 4 [.ptr v0 0] fun b=>let H:=H.set v1 (.cells (a+1) b);ret (.bool true) H) (aG H v0 fun _ a=>aF a 1 fun a=>aG H v1 fun _ b=>aF b 1 fun b=>ay ab .neq 9 false a b fun a=>brD a (ret (.bool false) H) (aG H v0 fun _ a=>aF a 3 fun a=>eC ab 71 a H fun a=>aG H v1 fun _ b=>aF b 3 fun b=>eC ab 71 b H fun b=>ay ab .neq 3 false a b fun a=>brD a (ret (.bool false) H) (aG H v1 fun a b=>ar b 4 [.ptr v0 0] fun b=>let H:=H.set v1 (.cells (a+1) b);aG H v0 fun _ a=>aF a 3 fun a=>eC ab 71 a H fun a=>af R 24 200015 [.g (.ptr v0 0),.g (.ptr v1 0),.g a,.n 0] [] H))):=by kernel_rfl
theorem wQ{R:bm}{v0 v1:Nat}{a b:Int}{H:DH}:bA R 24 200015 [.g (.ptr v0 0),.g (.ptr v1 0),.n a,.n b] [] H =
 cond (decide (b<a)) (aG H v0 fun _ c=>aF c 3 fun c=>cE ab 71 c (.i b) fun c=>eZ ab 74 c H fun c=>aG H v1 fun _ d=>aF d 3 fun d=>cE ab 71 d (.i b) fun d=>eZ ab 74 d H fun d=>dP (R (.call 24 [c,d] none) H) (fun c H=>rI .not c fun c=>brD c (ret (.bool false) H) (af R 24 200015 [.g (.ptr v0 0),.g (.ptr v1 0),.n a,.n (cS (b+1))] [] H)) fun _ _=>none) (ret (.bool true) H):=by kernel_rfl
theorem f9{R:bm}{p0:eA}{a:ac}{b:eA}{H:DH}:aR R 9 [.row 3 p0,.agg [.str a,.row 2 b]] H =
 C R 7 [.agg [.str a,.row 2 b]] H fun c H=>ay ab .eql 3 true c (.i 0) fun c=>brD c (ret (.tuple [.agg [.str [],.nilrow],.i 32]) H) (cond (decide ((p0.length:Int)>2000)) (ret (.tuple [.agg [.str [],.nilrow],.i 1]) H) (let c:=H++[.map []];af R 9 200007 [.lp 0 0,.lp 1 0,.g (.map H.length),.g (.row 3 p0),.n p0.length,.n 0] [(0,[.str a,.row 2 b]),(0,[.str [],.nilrow])] c)):=by kernel_rfl
theorem zF{R:bm}{v6:Nat}{a:eA}{b c:Int}{e:ac}{h:eA}{j:ac}{k:D}{H:DH}:bA R 9 200007 [.lp 0 0,.lp 1 0,.g (.map v6),.g (.row 3 a),.n b,.n c] [(0,[.str e,.row 2 h]),(0,[.str j,k])] H =
 cond (decide (c<b)) (dJ c fun d=>eP a d fun d=>aF d 0 fun f=>aF d 1 fun g=>aF d 2 fun d=>eR ab 83 (.map v6) f true H fun i=>cO i 0 fun l=>cO i 1 fun i=>ah 2 l fun l=>ar [.str [],.nilrow] 0 l fun _=>brD i (ret (.tuple [.agg [.str [],.nilrow],.i 1]) H) (C R 29 [f] H fun i H=>rI .not i fun i=>brD i (ret (.tuple [.agg [.str [],.nilrow],.i 1]) H) (C R 7 [.agg [g,d]] H fun i H=>ay ab .eql 3 true i (.i 0) fun i=>brD i (ret (.tuple [.agg [.str [],.nilrow],.i 1]) H) (fM ab 83 (.map v6) f (.agg [g,d]) H fun H=>af R 9 200007 [.lp 0 0,.lp 1 0,.g (.map v6),.g (.row 3 a),.n b,.n (cS (c+1))] [(0,[.str e,.row 2 h]),(0,[.str j,k])] H)))) (let a:=H++[.cells 0 [.i 0]];aG a H.length fun b c=>ar c 0 [.i 0] fun c=>let a:=a.set H.length (.cells (b+1) c);C R 30 [.map v6,.agg [.str e,.row 2 h],.ptr H.length 0] a fun a H=>ah 2 a fun a=>ar [.str [],.nilrow] 0 a fun a=>aF a 0 fun b=>aF a 1 fun c=>C R 7 [.agg [b,c]] H fun b H=>ay ab .eql 3 true b (.i 0) fun b=>brD b (ret (.tuple [.agg [.str [],.nilrow],.i 39]) H) (aF a 0 fun b=>aF a 1 fun a=>ret (.tuple [.agg [b,a],.i 0]) H)):=by kernel_rfl
theorem Xf{R:bm}{a:ac}{b:eA}{c:ac}{e:eA}{H:DH}:aR R 10 [.agg [.str a,.row 2 b],.agg [.str c,.row 2 e]] H =
 cond (!(a==c)) (ret (.bool false) H) (cond ((b.length:Int) !=(e.length:Int)) (ret (.bool false) H) (af R 10 200004 [.lp 0 0,.lp 1 0,.n 0] [(0,[.str a,.row 2 b]),(0,[.str c,.row 2 e])] H)):=by kernel_rfl
theorem wT{R:bm}{v5:Int}{a:ac}{b:eA}{c:ac}{e:eA}{H:DH}:bA R 10 200004 [.lp 0 0,.lp 1 0,.n v5] [(0,[.str a,.row 2 b]),(0,[.str c,.row 2 e])] H =
 cond (decide (v5<b.length)) (dJ v5 fun d=>eP b d fun d=>aF d 0 fun f=>aF d 1 fun d=>dJ v5 fun g=>eP e g fun g=>aF g 0 fun h=>aF g 1 fun g=>dP (R (.call 10 [.agg [f,d],.agg [h,g]] none) H) (fun d H=>rI .not d fun d=>brD d (ret (.bool false) H) (af R 10 200004 [.lp 0 0,.lp 1 0,.n (cS (v5+1))] [(0,[.str a,.row 2 b]),(0,[.str c,.row 2 e])] H)) fun _ _=>none) (ret (.bool true) H):=by kernel_rfl
theorem WM{R:bm}{p0:Int}{H:DH}:aR R 59 [.i p0] H =
 boK (Nat.ble (1+(vd (IntKind.wrap .i32 (cS (97+(Int.tmod p0 26))))).length) 1000000) (cond (decide (p0>=26)) (C R 89 [.i (cS (Int.tdiv p0 26))] H fun a H=>ay ab .add 9 false (.str ([39]++(vd (IntKind.wrap .i32 (cS (97+(Int.tmod p0 26))))))) a fun a=>ret a H) (ret (.str ([39]++(vd (IntKind.wrap .i32 (cS (97+(Int.tmod p0 26))))))) H)):=by kernel_rfl
end Go.Proofs.YtenibcfppefobaaGreatDoor
set_option linter.all false
noncomputable section
namespace Go.Proofs.YtenibcfppefobaaGreatDoor
open Go.AI
theorem WW{R:bm}{p0:Nat}{p1:Int}{p2:Nat}{p3:D}{H:DH}:aR R 27 [.ptr p0 0,.i p1,.ptr p2 0,p3] H =
 C R 26 [.ptr p0 0] H fun a H=>aG H p2 fun _ b=>aF b 0 fun b=>ay ab .add 3 true b (.i 1) fun b=>ah 1 b fun b=>aG H p2 fun c d=>ar d 0 b fun b=>let H:=H.set p2 (.cells (c+1) b);aG H p2 fun _ b=>aF b 0 fun b=>ay ab .gtr 3 true b (.i 2000) fun b=>brD b (aG H p2 fun a b=>ar b 0 [.i 2001] fun b=>let H:=H.set p2 (.cells (a+1) b);ret (.agg [.str [],.row 2 []]) H) (cond (decide (p1>100)) (aG H p2 fun a b=>ar b 0 [.i 2001] fun b=>let H:=H.set p2 (.cells (a+1) b);ret (.agg [.str [],.row 2 []]) H) (eD a fun b=>dt b 0 fun b=>eZ ab 4 b H fun b=>brD b (FF lK p3 fun b c d=>C R b (c++([a]++d)) H fun a H=>ah 2 a fun a=>ar [.str [],.nilrow] 0 a fun a=>aF a 0 fun b=>aF a 1 fun a=>fN (.fz 2) a H fun a H=>ret (.agg [b,a]) H) (eD a fun b=>dt b 1 fun b=>eZ ab 9 b H fun b=>ah 1 b fun b=>ar [.str [],.nilrow] 0 b fun b=>ah 2 (.agg b) fun b=>ar [.str [],.nilrow] 0 b fun b=>eD a fun a=>dt a 3 fun a=>eZ ab 71 a H fun a=>eC ab 71 a H fun c=>af R 27 200010 [.n p1,.g (.ptr p2 0),.g p3,.lp 0 0,.lp 1 0,.g a,.g c,.n 0] [(0,[.str [],.nilrow]),(0,b)] H))):=by kernel_rfl
theorem wO{R:bm}{v1:Int}{v2:Nat}{v3 a:D}{b c:Int}{e:ac}{h:D}{w1:List D}{H:DH}:bA R 27 200010 [.n v1,.g (.ptr v2 0),.g v3,.lp 0 0,.lp 1 0,.g a,.n b,.n c] [(0,[.str e,h]),(0,w1)] H =
 cond (decide (c<b)) (cE ab 71 a (.i c) fun d=>eZ ab 74 d H fun d=>dP (R (.call 27 [d,.i (cS (v1+1)),.ptr v2 0,v3] none) H) (fun d H=>aF w1 1 fun f=>ah 2 d fun d=>eG (aT ab 27) 2 f [d] H fun d H=>ah 1 d fun d=>ar w1 1 d fun d=>af R 27 200010 [.n v1,.g (.ptr v2 0),.g v3,.lp 0 0,.lp 1 0,.g a,.n b,.n (cS (c+1))] [(0,[.str e,h]),(0,d)] H) fun _ _=>none) (aF w1 0 fun a=>aF w1 1 fun b=>fN (.fz 2) b H fun b H=>ret (.agg [a,b]) H):=by kernel_rfl
theorem Wq{R:bm}{m:D}{a:ac}{b:eA}{p2:Nat}{H:DH}:aR R 30 [m,.agg [.str a,.row 2 b],.ptr p2 0] H =
 eR ab 83 m (.str a) true H fun c=>cO c 0 fun d=>cO c 1 fun c=>ah 2 d fun d=>ar [.str [],.nilrow] 0 d fun d=>brD c (cond ((b.length:Int)==0) (aF d 0 fun a=>aF d 1 fun b=>C R 30 [.nilmap,.agg [a,b],.ptr p2 0] H fun a H=>ah 2 a fun a=>ar [.str [],.nilrow] 0 a fun a=>aF a 0 fun b=>aF a 1 fun a=>fN (.fz 2) a H fun a H=>ret (.agg [b,a]) H) (af R 30 4 [.g m,.g (.ptr p2 0),.lp 0 0,.lp 1 0] [(0,[.str a,.row 2 b]),(0,[.str [],.nilrow])] H)) (af R 30 4 [.g m,.g (.ptr p2 0),.lp 0 0,.lp 1 0] [(0,[.str a,.row 2 b]),(0,[.str [],.nilrow])] H):=by kernel_rfl
theorem TW{R:bm}{v0:D}{v2:Nat}{a:ac}{b:eA}{c:ac}{e:D}{H:DH}:bA R 30 4 [.g v0,.g (.ptr v2 0),.lp 0 0,.lp 1 0] [(0,[.str a,.row 2 b]),(0,[.str c,e])] H =
 aG H v2 fun _ d=>aF d 0 fun d=>ay ab .add 3 true d (.i 1) fun d=>ah 1 d fun d=>aG H v2 fun f g=>ar g 0 d fun d=>let H:=H.set v2 (.cells (f+1) d);aG H v2 fun _ d=>aF d 0 fun d=>ay ab .gtr 3 true d (.i 2000) fun d=>brD d (ret (.agg [.str [],.row 2 []]) H) (af R 30 200009 [.g v0,.g (.ptr v2 0),.lp 1 0,.lp 2 0,.g (.row 2 b),.n b.length,.n 0] [(0,[]),(0,[.str c,e]),(0,[.str a,.nilrow])] H):=by kernel_rfl
theorem wM{R:bm}{v0:D}{v2:Nat}{a:eA}{b c:Int}{e:ac}{h:D}{j:ac}{k:D}{H:DH}:bA R 30 200009 [.g v0,.g (.ptr v2 0),.lp 1 0,.lp 2 0,.g (.row 2 a),.n b,.n c] [(0,[]),(0,[.str e,h]),(0,[.str j,k])] H =
 cond (decide (c<b)) (dJ c fun d=>eP a d fun d=>aF d 0 fun f=>aF d 1 fun d=>dP (R (.call 30 [v0,.agg [f,d],.ptr v2 0] none) H) (fun d H=>ah 2 d fun d=>eG (aT ab 27) 2 k [d] H fun d H=>ah 1 d fun d=>ar [.str j,k] 1 d fun d=>af R 30 200009 [.g v0,.g (.ptr v2 0),.lp 1 0,.lp 2 0,.g (.row 2 a),.n b,.n (cS (c+1))] [(0,[]),(0,[.str e,h]),(0,d)] H) fun _ _=>none) (fN (.fz 2) k H fun a H=>ret (.agg [.str j,a]) H):=by kernel_rfl
theorem WY{R:bm}{x:D}{H:DH}:aR R 25 [x] H =
 let a:=H++[.map []];let b:=a++[.cells 0 [.nilmap]];aG b a.length fun c d=>ar d 0 [.map H.length] fun d=>let H:=b.set a.length (.cells (c+1) d);let b:=H++[.cells 0 [.nilFunc]];aG b H.length fun c d=>ar d 0 [.func 56 [] [.ptr a.length 0,.ptr H.length 0]] fun a=>let a:=b.set H.length (.cells (c+1) a);eC ab 71 x a fun b=>af R 25 200005 [.g (.ptr H.length 0),.g x,.g b,.n 0] [] a:=by kernel_rfl
theorem wP{R:bm}{v4:Nat}{v9:D}{a b:Int}{H:DH}:bA R 25 200005 [.g (.ptr v4 0),.g v9,.n a,.n b] [] H =
 cond (decide (b<a)) (cE ab 71 v9 (.i b) fun c=>eZ ab 74 c H fun c=>aG H v4 fun _ d=>aF d 0 fun d=>FF lK d fun d e f=>C R d (e++([c]++f)) H fun c H=>rI .not c fun c=>brD c (ret (.bool false) H) (af R 25 200005 [.g (.ptr v4 0),.g v9,.n a,.n (cS (b+1))] [] H)) (ret (.bool true) H):=by kernel_rfl
theorem WP{R:bm}{p0 p1:eA}{H:DH}:aR R 35 [.row 1 p0,.row 1 p1] H =
 cond ((p0.length:Int) !=(p1.length:Int)) (ret (.bool false) H) (af R 35 200004 [.g (.row 1 p0),.g (.row 1 p1),.n 0] [] H):=by kernel_rfl
theorem wH{R:bm}{v0 v1:eA}{v5:Int}{H:DH}:bA R 35 200004 [.g (.row 1 v0),.g (.row 1 v1),.n v5] [] H =
 cond (decide (v5<v0.length)) (dJ v5 fun a=>eP v0 a fun a=>aF a 0 fun a=>dJ v5 fun b=>eP v1 b fun b=>aF b 0 fun b=>ay ab .neq 9 false a b fun a=>brD a (ret (.bool false) H) (af R 35 200004 [.g (.row 1 v0),.g (.row 1 v1),.n (cS (v5+1))] [] H)) (ret (.bool true) H):=by kernel_rfl
theorem WR{R:bm}{a:eA}{b:ac}{c:eA}{H:DH}:aR R 33 [.agg [.row 1 a,.str b,.row 2 c]] H =
 dP (R (.call 31 [.agg [.str b,.row 2 c],.nilrow] none) H) (fun b H=>eC ab 35 b H fun b=>ay ab .eql 3 false (.i a.length) b fun a=>ret a H) fun _ _=>none:=by kernel_rfl
end Go.Proofs.YtenibcfppefobaaGreatDoor
set_option linter.all false
noncomputable section
namespace Go.Proofs.YtenibcfppefobaaGreatDoor
open Go.AI
theorem Tb(o c:Nat)(κ:D->ag):ay ab .neq 74 true (.ptr o c) .nilptr κ=κ (.bool true):=by kernel_rfl
theorem Tc(κ:D->ag):ay ab .neq 74 true .nilptr .nilptr κ=κ (.bool false):=by kernel_rfl
theorem Ti(o c:Nat)(H:DH)(κ:D->ag):eZ ab 74 (.ptr o c) H κ=aG H o fun _ cs=>aF cs c κ:=by kernel_rfl
theorem FQ(o c k:Nat)(κ:D->ag):dt (.ptr o c) k κ=κ (.ptr o (c+k)):=rfl
theorem Gg(o c:Nat)(κ:D->ag):eD (.ptr o c) κ=κ (.ptr o c):=rfl
theorem DV(o c:Nat)(κ:List D->ag):ah 1 (.ptr o c) κ=κ [.ptr o c]:=rfl
abbrev fu(v:Bool)(n:ac)(o:Int)(d k:D):List D:=[.bool v,.str n,.i o,d,k]
theorem Ld(v:Bool)(n:ac)(o:Int)(d k x:D)(κ:List D->ag):ar (fu v n o d k) 4 [x] κ=κ (fu v n o d x):=rfl
def oN(os:List Nat)(i:Nat):Nat:=(os[i]?).getD 0
def SJ(os:List Nat):Option (Option Nat)->D
 |some (some j)=>.ptr (oN os j) 0
 |_=>.nilptr
def bK(H:DH)(d:D)(l:List Nat):Prop:=(d=.nilrow/\l=[])\/∃ o st cp,d=.buf 1 o l.length/\H[o]? = some (.buf 1 st cp (l.map fun o=>[.ptr o 0]))
theorem Lj{os:List Nat}{i:Nat}(h:i<os.length):os[i]? = some (oN os i):=by
 unfold oN;rw[List.getElem?_eq_getElem h];rfl
theorem rW{os:List Nat}(h:os.Nodup){i j:Nat}(hi:i<os.length)(hj:j<os.length)(e:oN os i=oN os j):i=j:=by
 have h1:=Lj hi
 have h2:=Lj hj
 rw[e]at h1
 exact(List.getElem?_inj hi h).1 (h1.trans h2.symm)
structure ct(H:DH)(os:List Nat)(N:List bu)(L:Lk):Prop where
 len:os.length=N.length
 lenL:L.length=N.length
 nd:os.Nodup
 ob:∀(i:Nat) (x:bu),N[i]? = some x->∃ s d,H[oN os i]? = some (.cells s (fu x.v x.n x.o d (SJ os L[i]?)))/\bK H d (x.a.map (oN os))
 kid:∀(i:Nat) (x:bu),N[i]? = some x->∀ a∈x.a,a<N.length
 lk:∀ i j:Nat,L[i]? = some (some j)->j<N.length
 sm:∀(i:Nat) (x:bu),N[i]? = some x->x.a.length<=16
structure uK(H H':DH)(os:List Nat):Prop where
 len:H.length<=H'.length
 at':∀ o:Nat,o<H.length->o∉os->H'[o]? = H[o]?
theorem uK.refl(H:DH)(os:List Nat):uK H H os:=⟨Nat.le_refl _,fun _ _ _=>rfl⟩
theorem uK.trans{H H' H'':DH}{os:List Nat}(h:uK H H' os)(k:uK H' H'' os):uK H H'' os:=⟨Nat.le_trans h.len k.len,fun o h1 h2=>by rw[k.at' o (Nat.lt_of_lt_of_le h1 h.len) h2,h.at' o h1 h2]⟩
theorem AL{os:List Nat}{i:Nat}(h:i<os.length):oN os i∈os:=List.mem_of_getElem? (Lj h)
theorem bK.set{H:DH}{d:D}{l:List Nat}{o s s':Nat}{c c':List D}(h:bK H d l)(k:H[o]? = some (.cells s c)):bK (H.set o (.cells s' c')) d l:=by
 rcases h with⟨rfl,rfl⟩|⟨b,st,cp,rfl,h⟩
 ·exact .inl ⟨rfl,rfl⟩
 ·refine .inr ⟨b,st,cp,rfl,?_⟩
  rw[List.getElem?_set_ne (fun e=>by subst e;rw[h]at k;cases k),h]
theorem ct.link{H os N L}(g:ct H os N L){i j:Nat}{x:bu}{s:Nat}{d:D}(hx:N[i]? = some x)(hj:j<N.length)(ho:H[oN os i]? = some (.cells s (fu x.v x.n x.o d (SJ os L[i]?))))(hd:bK H d (x.a.map (oN os)))(s':Nat) :
 ct (H.set (oN os i) (.cells s' (fu x.v x.n x.o d (.ptr (oN os j) 0)))) os N (L.set i (some j))/\uK H (H.set (oN os i) (.cells s' (fu x.v x.n x.o d (.ptr (oN os j) 0)))) os:=by
 have hi:=aB hx
 have hi2:i<os.length:=by rw[g.len];exact hi
 have hl:i<L.length:=by rw[g.lenL];exact hi
 refine⟨⟨g.len,by rw[List.length_set,g.lenL],g.nd,fun k y hy=>?_,g.kid,fun a b h=>?_,g.sm⟩,by simp,fun o _ hn=>List.getElem?_set_ne (fun e=>hn (by rw[<- e];exact AL hi2))⟩
 ·by_cases e:i=k
  ·subst e
   rw[hx]at hy;cases hy
   refine⟨s',d,?_,hd.set ho⟩
   rw[bC _ ho,dU hl,if_pos rfl]
   rfl
  ·obtain⟨s2,d2,h1,h2⟩:=g.ob k y hy
   refine⟨s2,d2,?_,h2.set ho⟩
   rw[List.getElem?_set_ne (fun q=>e (rW g.nd hi2 (by rw[g.len];exact aB hy) q)),h1,dU hl,if_neg e]
 ·rw[dU hl]at h
  split at h
  ·cases h;exact hj
  ·exact g.lk a b h
theorem KN:∀(n:Nat) {H:DH} {os N L} (g:ct H os N L) {i r:Nat} (h:Rt L i r n),∃ H' L',af ak 26 200001 [.g (.ptr (oN os i) 0)] [] H=ret (.ptr (oN os r) 0) H'/\ct H' os N L'/\ub N L L'/\uK H H' os:=by
 intro n
 induction n using Nat.strongRecOn with
 |ind n ih =>
  intro H os N L g i r h
  cases h with
  |z h =>
   have hi:i<N.length:=by rw[<- g.lenL];exact aB h
   obtain⟨s,d,h1,h2⟩:=g.ob i _ (List.getElem?_eq_getElem hi)
   refine⟨H,L,ez (py) ?_,g,.refl _ _,.refl _ _⟩
   rw[h]at h1
   simp only[ae h1,fu,aj,aA,SJ,Tc,ai,cond_false]
  |s h k =>
   rename_i j m
   have hi:i<N.length:=by rw[<- g.lenL];exact aB h
   have hj:=g.lk i j h
   obtain⟨s,d,h1,h2⟩:=g.ob i _ (List.getElem?_eq_getElem hi)
   rw[h]at h1
   obtain⟨s2,d2,k1,k2⟩:=g.ob j _ (List.getElem?_eq_getElem hj)
   cases k with
   |z k =>
    rw[k]at k1
    obtain⟨H',L',e1,e2,e3,e4⟩:=ih 0 (by omega) g (.z k)
    refine⟨H',L',ez (py) ?_,e2,e3,e4⟩
    simp only[ae h1,fu,aj,aA,SJ,Tb,ai,cond_true,Gg,FQ,Ti,Nat.zero_add,ae k1,Tc,cond_false]
    exact e1
   |s k k' =>
    rename_i j2 m
    rw[k]at k1
    obtain⟨g2,l2⟩:=g.link (List.getElem?_eq_getElem hi) (g.lk j j2 k) (by rw[h];exact h1) h2 (s+1)
    have q:=ub.halve (N:=N) h k k'
    obtain⟨m',hm,q2⟩:=q.rt _ _ _ k'
    obtain⟨H',L',e1,e2,e3,e4⟩:=ih m' (by omega) g2 q2
    refine⟨H',L',ez (py) ?_,e2,q.trans e3,l2.trans e4⟩
    have h3:=bC (.cells (s+1) (fu N[i].v N[i].n N[i].o d (.ptr (oN os j2) 0))) h1
    simp only[ae h1,fu,aj,aA,SJ,Tb,ai,cond_true,Gg,FQ,Ti,Nat.zero_add,ae k1,DV]
    rw[show([.bool N[i].v,.str N[i].n,.i N[i].o,d,.ptr (oN os j) 0]:List D)=fu N[i].v N[i].n N[i].o d (.ptr (oN os j) 0)from rfl,Ld]
    simp only[ae h3,fu,aj,aA]
    exact e1
theorem SS{H:DH}{os N L}(g:ct H os N L){i r n:Nat}(h:Rt L i r n):∃ H' L',az 26 [.ptr (oN os i) 0] H=ret (.ptr (oN os r) 0) H'/\ct H' os N L'/\ub N L L'/\uK H H' os:=by
 obtain⟨H',L',e1,e2⟩:=KN n g h
 exact⟨H',L',ev (WX) e1,e2⟩
end Go.Proofs.YtenibcfppefobaaGreatDoor
set_option linter.all false
noncomputable section
namespace Go.Proofs.YtenibcfppefobaaGreatDoor
open Go.AI
theorem UY(o c:Nat)(H:DH)(κ:D->ag):eZ ab 4 (.ptr o c) H κ=aG H o fun _ cs=>aF cs c κ:=by kernel_rfl
theorem UZ(o c:Nat)(H:DH)(κ:D->ag):eZ ab 3 (.ptr o c) H κ=aG H o fun _ cs=>aF cs c κ:=by kernel_rfl
theorem UJ:QF ab 74=true:=by kernel_rfl
theorem VM{H:DH}{o1 o2:Nat}(h1:Hi H o1=true)(h2:Hi H o2=true)(κ:D->ag):xA ab .eql 74 false (.ptr o1 0) (.ptr o2 0) H κ=κ (.bool (Nat.beq o1 o2)):=by
 simp only[xA,Fa,UJ,h1,h2,Bool.and_self,cond_true,Nat.beq_refl,Bool.and_true]
theorem fX{H:DH}{o s:Nat}{cs:List D}(h:H[o]? = some (.cells s cs)):Hi H o=true:=by simp only[Hi,h]
theorem SG{o c:Nat}{new:List D}{H:DH}{s:Nat}{cs:List D}(h:H[o]? = some (.cells s cs))(κ:DH->ag):NI (.ptr o c) new H κ=ar cs c new fun cs=>κ (H.set o (.cells (s+1) cs)):=by rw[NI,ae h]
theorem Wi:ab.underlying 71=some (.slice 74):=by kernel_rfl
theorem Ut:size ab 74=some 1:=by kernel_rfl
theorem Va(o:Nat)(κ:D->ag):cN ab 74 [.ptr o 0] 0 κ=κ (.ptr o 0):=by kernel_rfl
theorem Ph{x:ag}{d:D}{H:DH}{k:D->DH->ag}{kp:List fo->DH->ag}(h:x=ret d H):dP x k kp=k d H:=by rw[h];rfl
theorem bK.len{H:DH}{d:D}{l:List Nat}(h:bK H d l)(κ:D->ag):eC ab 71 d H κ=κ (.i l.length):=by
 rcases h with⟨rfl,rfl⟩|⟨o,st,cp,rfl,_⟩<;>(simp only[eC,Wi];try rfl)
theorem bK.at'{H:DH}{d:D}{l:List Nat}(h:bK H d l){i o:Nat}(hi:l[i]? = some o)(κ:D->ag):(cE ab 71 d (.i i) fun a=>eZ ab 74 a H κ)=κ (.ptr o 0):=by
 rcases h with⟨rfl,rfl⟩|⟨b,st,cp,rfl,hb⟩
 ·cases hi
 ·have hl:(List.map (fun o=>[D.ptr o 0]) l).length=l.length:=List.length_map _
  have h2:(List.map (fun o=>[D.ptr o 0]) l)[i]? = some [.ptr o 0]:=by rw[List.getElem?_map,hi];rfl
  have h3:=dA hb (κ:=fun _ _ _ l=>eP l i fun cs=>cN ab 74 cs 0 κ)
  rw[hl]at h3
  rw[cE,Wi]
  simp only[Ut,FC,Nat.beq_refl,cond_true,bH,show Nat.blt i l.length=true from Nat.ble_eq_true_of_le (aB hi),boK,eZ,h3,bt h2,Va]
theorem BO{a b:Nat}(h:a≠b):Nat.beq a b=false:=by cases q:Nat.beq a b with
 |false=>rfl
 |true=>exact(h (Nat.eq_of_beq_eq_true q)).elim
variable{H:DH}{os:List Nat}{N:List bu}{L:Lk}
def UA(k:Nat):Prop:=∀(H:DH) (os:List Nat) (N:List bu) (L:Lk),ct H os N L->Wf L->Cg L<k->∀(a b:Nat),a<N.length->b<N.length ->
 ∃ q H' L',az 24 [.ptr (oN os a) 0,.ptr (oN os b) 0] H=ret (.bool q) H'/\ct H' os N L'/\US N L [(a,b)] q L'/\uK H H' os
theorem GJ{k:Nat}(hk:UA k){ra rb:Nat}{x y:bu}:∀(l1 l2 p1 p2:List Nat) {H:DH} {os:List Nat} {N:List bu} {L:Lk},ct H os N L->Wf L->Cg L<k->N[ra]? = some x->N[rb]? = some y->x.a=p1++l1->y.a=p2++l2->p1.length=p2.length->l1.length=l2.length ->
 ∃ q H' L',af ak 24 200015 [.g (.ptr (oN os ra) 0),.g (.ptr (oN os rb) 0),.n (x.a.length:Nat),.n (p1.length:Nat)] [] H=ret (.bool q) H'/\ct H' os N L'/\US N L (l1.zip l2) q L'/\uK H H' os
 |[],[],p1,p2,H,os,N,L,g,hw,hn,hx,hy,e1,e2,e3,_=>by
  refine⟨true,H,L,ez (wQ) ?_,g,.nil hw,.refl _ _⟩
  rw[e1]
  simp
 |[],b::l2,_,_,_,_,_,_,_,_,_,_,_,_,_,_,h=>by simp at h
 |a::l1,[],_,_,_,_,_,_,_,_,_,_,_,_,_,_,h=>by simp at h
 |a::l1,b::l2,p1,p2,H,os,N,L,g,hw,hn,hx,hy,e1,e2,e3,e4=>by
  obtain⟨s1,d1,h1,h2⟩:=g.ob ra x hx
  obtain⟨s2,d2,k1,k2⟩:=g.ob rb y hy
  have ia:(x.a.map (oN os))[p1.length]? = some (oN os a):=by rw[List.getElem?_map,e1];simp
  have ib:(y.a.map (oN os))[p1.length]? = some (oN os b):=by rw[List.getElem?_map,e2,e3];simp
  have la:a<N.length:=g.kid ra x hx a (by rw[e1];simp)
  have lb:b<N.length:=g.kid rb y hy b (by rw[e2];simp)
  have hlt:decide ((p1.length:Int)<(x.a.length:Int))=true:=by rw[e1];simp;omega
  have hs:=g.sm ra x hx
  have hw2:cS ((p1.length:Int)+1)=(((p1++[a]).length:Nat):Int):=by
   rw[bE (by
    have:x.a.length=p1.length+(l1.length+1):=by rw[e1];simp
    omega)]
   simp
  obtain⟨q,H1,L1,r1,r2,r3,r4⟩:=hk _ _ _ _ g hw hn _ _ la lb
  have st:∀ z,(match q with|true=>af ak 24 200015 [.g (.ptr (oN os ra) 0),.g (.ptr (oN os rb) 0),.n (x.a.length:Nat),.n ((p1++[a]).length:Nat)] [] H1|false=>ret (.bool false) H1)=z->af ak 24 200015 [.g (.ptr (oN os ra) 0),.g (.ptr (oN os rb) 0),.n (x.a.length:Nat),.n (p1.length:Nat)] [] H=z:=fun z hz=>by
   refine ez (wQ) ?_
   rw[hlt,cond_true,ae h1]
   simp only[fu,aj,aA]
   rw[h2.at' ia,ae k1]
   simp only[fu,aj,aA]
   rw[k2.at' ib,Ph r1]
   simp only[ck,ai]
   rw[hw2]
   rw[<- hz]
   cases q<;>simp only[Bool.not_true,Bool.not_false,cond_true,cond_false]
  cases q with
  |false=>exact⟨false,H1,L1,st _ rfl,r2,.stop r3,r4⟩
  |true =>
   obtain⟨q',H2,L2,t1,t2,t3,t4⟩:=GJ hk l1 l2 (p1++[a]) (p2++[b]) r2 r3.wf (Nat.lt_of_le_of_lt r3.rc hn) hx hy (by rw[e1];simp) (by rw[e2];simp) (by simp[e3]) (by simpa using e4)
   exact⟨q',H2,L2,st _ t1,t2,.cons r3 t3,r4.trans t4⟩
theorem Ur{k:Nat}(hk:UA k){H:DH}{os:List Nat}{N:List bu}{L:Lk}(g:ct H os N L)(hw:Wf L)(hn:Cg L<=k){a b:Nat}(ha:L[a]? = some none)(hb:L[b]? = some none)(hab:a≠b){x y:bu}(hx:N[a]? = some x)(hy:N[b]? = some y)(hv:y.v=false->x.v=false) :
 ∃ q H' L',af ak 24 8 [.g (.ptr (oN os a) 0),.g (.ptr (oN os b) 0)] [] H=ret (.bool q) H'/\ct H' os N L'/\US N L [(a,b)] q L'/\uK H H' os:=by
 obtain⟨s1,d1,h1,h2⟩:=g.ob a x hx
 obtain⟨s2,d2,k1,k2⟩:=g.ob b y hy
 obtain⟨g2,l2⟩:=g.link hy (aB hx) k1 k2 (s2+1)
 have hne:oN os b≠oN os a:=fun e=>hab (rW g.nd (by rw[g.len];exact aB hy) (by rw[g.len];exact aB hx) e).symm
 cases vy:y.v with
 |true =>
  refine⟨true,_,_,ez (HM) ?_,g2,.symm (.var hw (.z hb) (.z ha) (fun e=>hab e.symm) hy vy),l2⟩
  rw[ae k1]
  simp only[fu,aj,vy,ai,cond_true]
  rw[ae k1,Ld]
  simp only[fu,vy]
 |false =>
  have vx:=hv vy
  have hs1:(x.a.map (oN os)).length=x.a.length:=List.length_map _
  have hs2:(y.a.map (oN os)).length=y.a.length:=List.length_map _
  by_cases hnm:x.n=y.n
  ·by_cases hl:x.a.length=y.a.length
   ·have hw':=hw.link hb ha hab
    obtain⟨q,H',L',r1,r2,r3,r4⟩:=GJ hk x.a y.a [] [] g2 hw' (by have:=EX (a:=a) hb;omega) hx hy rfl rfl rfl hl
    refine⟨q,H',L',ez (HM) ?_,r2,.con hw (.z ha) (.z hb) hab hx hy vx vy hnm hl r3,l2.trans r4⟩
    have h3:(H.set (oN os b) (.cells (s2+1) (fu y.v y.n y.o d2 (.ptr (oN os a) 0))))[oN os a]? = some (.cells s1 (fu x.v x.n x.o d1 (SJ os L[a]?))):=by
     rw[List.getElem?_set_ne hne,h1]
    have h4:bK (H.set (oN os b) (.cells (s2+1) (fu y.v y.n y.o d2 (.ptr (oN os a) 0)))) d1 (x.a.map (oN os)):=h2.set k1
    rw[ae k1]
    simp only[fu,aj,vy,ai,cond_false]
    rw[ae h1]
    simp only[fu,aj,aA]
    rw[ae k1]
    simp only[fu,aj,aA]
    rw[rj]
    have e0:(x.n==y.n)=true:=by rw[hnm];exact beq_self_eq_true _
    simp only[e0,Bool.not_true,ai,cond_false]
    rw[ae h1]
    simp only[fu,aj,aA]
    rw[h2.len,ae k1]
    simp only[fu,aj,aA]
    rw[k2.len,jT,hs1,hs2,hl]
    simp only[bne_self_eq_false,ai,cond_false]
    rw[ae k1,Ld]
    rw[ae h3]
    simp only[fu,aj,aA]
    rw[h4.len,hs1]
    exact r1
   ·refine⟨false,H,L,ez (HM) ?_,g,.clash hw (.z ha) (.z hb) hx hy vx vy (.inr hl),.refl _ _⟩
    rw[ae k1]
    simp only[fu,aj,vy,ai,cond_false]
    rw[ae h1]
    simp only[fu,aj,aA]
    rw[ae k1]
    simp only[fu,aj,aA]
    rw[rj]
    have e0:(x.n==y.n)=true:=by rw[hnm];exact beq_self_eq_true _
    simp only[e0,Bool.not_true,ai,cond_false]
    rw[ae h1]
    simp only[fu,aj,aA]
    rw[h2.len,ae k1]
    simp only[fu,aj,aA]
    rw[k2.len,jT,hs1,hs2]
    have e1:(((x.a.length:Nat):Int) !=((y.a.length:Nat):Int))=true:=by simp;omega
    simp only[e1,ai,cond_true]
  ·refine⟨false,H,L,ez (HM) ?_,g,.clash hw (.z ha) (.z hb) hx hy vx vy (.inl hnm),.refl _ _⟩
   rw[ae k1]
   simp only[fu,aj,vy,ai,cond_false]
   rw[ae h1]
   simp only[fu,aj,aA]
   rw[ae k1]
   simp only[fu,aj,aA]
   rw[rj]
   have e0:(x.n==y.n)=false:=by simpa using hnm
   simp only[e0,Bool.not_false,ai,cond_true]
theorem US.res{N:List bu}{L L1 L':Lk}{a b ra rb n m:Nat}{q:Bool}(ha:Rt L a ra n)(hb:Rt L b rb m)(h:US N L [(ra,rb)] q L'):US N L [(a,b)] q L':=by
 have e:∀(α:Type) (f:Nat->α),dF L f->((∀ p∈[(a,b)],f p.1=f p.2)↔(∀ p∈[(ra,rb)],f p.1=f p.2)):=fun α f hf=>by
  simp only[List.mem_singleton,forall_eq]
  rw[hf.rt ha,hf.rt hb]
 refine⟨h.len,h.wf,h.rc,fun α f h1 h2 h3=>h.snd α f h1 h2 ((e α f h2).1 h3),fun hq=>⟨fun α f hf=>?_,fun P hP=>(h.cpl hq).2 P fun i j x hi hx hv=>?_⟩⟩
 ·obtain⟨s1,s2⟩:=(h.cpl hq).1 α f hf
  exact⟨s1,(e α f s1).2 s2⟩
 ·obtain⟨y,a1,a2,a3,a4,a5⟩:=hP i j x hi hx hv
  refine⟨y,a1,a2,a3,a4,fun α f hf hp=>a5 α f hf fun p hp'=>?_⟩
  rcases List.mem_append.1 hp' with hp'|hp'
  ·exact(e α f hf).2 (fun p hp2=>hp p (List.mem_append_left _ hp2)) p hp'
  ·exact hp p (List.mem_append_right _ hp')
theorem Cl:∀ k,UA k
 |0=>fun _ _ _ _ _ _ h=>by omega
 |k+1=>by
  intro H os N L g hw hn a b ha hb
  obtain⟨ra,n,hra⟩:=hw a (by rw[g.lenL];exact ha)
  obtain⟨rb,m,hrb⟩:=hw b (by rw[g.lenL];exact hb)
  obtain⟨H1,L1,r1,g1,q1,l1⟩:=SS g hra
  obtain⟨m1,_,hrb1⟩:=q1.rt _ _ _ hrb
  obtain⟨H2,L2,r2,g2,q2,l2⟩:=SS g1 hrb1
  have q:=q1.trans q2
  have l:=l1.trans l2
  obtain⟨n2,_,a2⟩:=q.rt _ _ _ hra
  obtain⟨m2,_,b2⟩:=q.rt _ _ _ hrb
  have hw2:=hw.eqv q
  have ka:=aB a2.root
  have kb:=aB b2.root
  rw[g2.lenL]at ka kb
  have hx:=List.getElem?_eq_getElem ka
  have hy:=List.getElem?_eq_getElem kb
  generalize N[ra]=x at hx
  generalize N[rb]=y at hy
  obtain⟨s1,d1,h1,h2⟩:=g2.ob ra x hx
  obtain⟨s2,d2,k1,k2⟩:=g2.ob rb y hy
  have hnr:Cg L2<=k:=by rw[q.rc];omega
  by_cases e:ra=rb
  ·subst e
   refine⟨true,H2,L2,ev (Wr) ?_,g2,.pre q (.same hw2 a2 b2),l⟩
   rw[ao r1,ao r2,VM (fX h1) (fX h1),Nat.beq_refl]
   rfl
  ·have hne:Nat.beq (oN os ra) (oN os rb)=false:=BO fun e'=>e (rW g2.nd (by rw[g2.len];exact ka) (by rw[g2.len];exact kb) e')
   have st:∀ z,(cond x.v (cond y.v (cond (decide (x.o>y.o)) (ret (.bool true) (H2.set (oN os ra) (.cells (s1+1) (fu x.v x.n x.o d1 (.ptr (oN os rb) 0))))) (af ak 24 5 [.g (.ptr (oN os ra) 0),.g (.ptr (oN os rb) 0)] [] H2)) (af ak 24 5 [.g (.ptr (oN os ra) 0),.g (.ptr (oN os rb) 0)] [] H2)) (af ak 24 5 [.g (.ptr (oN os ra) 0),.g (.ptr (oN os rb) 0)] [] H2))=z->az 24 [.ptr (oN os a) 0,.ptr (oN os b) 0] H=z:=fun z hz=>by
    refine ev (Wr) ?_
    rw[ao r1,ao r2,VM (fX h1) (fX k1),hne]
    simp only[ai,cond_false,Gg,FQ,UY,UZ,Nat.zero_add]
    rw[ae h1]
    simp only[fu,aj,aA,ai]
    rw[ae k1]
    simp only[fu,aj,aA,ai]
    rw[ae h1]
    simp only[fu,aj,aA,ae k1,fC,ai,DV,SG h1,Ld]
    exact hz
   have st5:∀ z,(cond x.v (cond (!y.v) (ret (.bool true) (H2.set (oN os ra) (.cells (s1+1) (fu x.v x.n x.o d1 (.ptr (oN os rb) 0))))) (af ak 24 8 [.g (.ptr (oN os ra) 0),.g (.ptr (oN os rb) 0)] [] H2)) (af ak 24 8 [.g (.ptr (oN os ra) 0),.g (.ptr (oN os rb) 0)] [] H2))=z->af ak 24 5 [.g (.ptr (oN os ra) 0),.g (.ptr (oN os rb) 0)] [] H2=z:=fun z hz=>by
    refine ez (TX) ?_
    rw[ae h1]
    simp only[fu,aj,aA,ai]
    rw[ae k1]
    simp only[fu,aj,aA,ai,ck]
    rw[ae h1,Ld]
    exact hz
   obtain⟨g3,l3⟩:=g2.link hx kb h1 h2 (s1+1)
   have fin8:(y.v=false->x.v=false)->(az 24 [.ptr (oN os a) 0,.ptr (oN os b) 0] H=af ak 24 8 [.g (.ptr (oN os ra) 0),.g (.ptr (oN os rb) 0)] [] H2)->∃ q H' L',az 24 [.ptr (oN os a) 0,.ptr (oN os b) 0] H=ret (.bool q) H'/\ct H' os N L'/\US N L [(a,b)] q L'/\uK H H' os:=fun hv he=>by
    obtain⟨q',H',L',t1,t2,t3,t4⟩:=Ur (Cl k) g2 hw2 hnr a2.root b2.root e hx hy hv
    exact⟨q',H',L',he.trans t1,t2,.pre q (.res (L1:=L) a2 b2 t3),l.trans t4⟩
   have fin5:x.v=true->(az 24 [.ptr (oN os a) 0,.ptr (oN os b) 0] H=ret (.bool true) (H2.set (oN os ra) (.cells (s1+1) (fu x.v x.n x.o d1 (.ptr (oN os rb) 0)))))->∃ q H' L',az 24 [.ptr (oN os a) 0,.ptr (oN os b) 0] H=ret (.bool q) H'/\ct H' os N L'/\US N L [(a,b)] q L'/\uK H H' os:=fun hv he =>
    ⟨true,_,_,he,g3,.pre q (.res (L1:=L) a2 b2 (.var hw2 (.z a2.root) (.z b2.root) e hx hv)),l.trans l3⟩
   cases vx:x.v with
   |false =>
    refine fin8 (fun _=>vx) (st _ ?_)
    rw[vx,cond_false]
    exact st5 _ (by rw[vx,cond_false])
   |true =>
    cases vy:y.v with
    |false =>
     refine fin5 vx (st _ ?_)
     rw[vx,vy]
     simp only[cond_true,cond_false]
     exact st5 _ (by rw[vx,vy];simp only[Bool.not_false,cond_true])
    |true =>
     cases ho:decide (x.o>y.o)with
     |true =>
      refine fin5 vx (st _ ?_)
      rw[vx,vy,ho]
      simp only[cond_true]
     |false =>
      refine fin8 (fun q=>by rw[vy]at q;cases q) (st _ ?_)
      rw[vx,vy,ho]
      simp only[cond_true,cond_false]
      exact st5 _ (by rw[vx,vy];simp only[Bool.not_true,cond_true,cond_false])
theorem SO{H:DH}{os:List Nat}{N:List bu}{L:Lk}(g:ct H os N L)(hw:Wf L){a b:Nat}(ha:a<N.length)(hb:b<N.length) :
 ∃ q H' L',az 24 [.ptr (oN os a) 0,.ptr (oN os b) 0] H=ret (.bool q) H'/\ct H' os N L'/\US N L [(a,b)] q L'/\uK H H' os:=Cl _ _ _ _ _ g hw (Nat.lt_succ_self _) _ _ ha hb
end Go.Proofs.YtenibcfppefobaaGreatDoor
set_option linter.all false
noncomputable section
namespace Go.Proofs.YtenibcfppefobaaGreatDoor
open Go.AI
def gO:List (Nat×Int)->Nat->Option Int
 |[],_=>none
 |(j,v)::r,i=>if i=j then some v else gO r i
def gS(S:List (Nat×Int))(i:Nat):Int:=(gO S i).getD 0
def pS:List (Nat×Int)->Nat->Int->List (Nat×Int)
 |[],i,v=>[(i,v)]
 |(j,w)::r,i,v=>if i=j then(i,v)::r else(j,w)::pS r i v
theorem PX:∀(S:List (Nat×Int)) (i j:Nat) (v:Int),gO (pS S i v) j=if j=i then some v else gO S j
 |[],i,j,v=>by simp[pS,gO]
 |(k,w)::r,i,j,v=>by
  unfold pS
  split
  ·rename_i e;subst e
   unfold gO
   split<;>simp_all
  ·rename_i e
   unfold gO
   rw[PX r i j v]
   by_cases h:j=k
   ·subst h;rw[if_pos rfl,if_pos rfl,if_neg (fun q=>e q.symm)]
   ·rw[if_neg h,if_neg h]
theorem PW(S:List (Nat×Int))(i j:Nat)(v:Int):gS (pS S i v) j=if j=i then v else gS S j:=by
 unfold gS;rw[PX];split<;>rfl
theorem PN{n:Nat}:∀ {S:List (Nat×Int)} {i:Nat} {v:Int},(∀ p∈S,p.1<n)->i<n->∀ p∈pS S i v,p.1<n
 |[],i,v,_,hi,p,hp=>by simp[pS]at hp;subst hp;exact hi
 |(j,w)::r,i,v,h,hi,p,hp=>by
  unfold pS at hp
  split at hp
  ·rcases List.mem_cons.1 hp with rfl|hp
   ·exact hi
   ·exact h p (List.mem_cons_of_mem _ hp)
  ·rcases List.mem_cons.1 hp with rfl|hp
   ·exact h _ List.mem_cons_self
   ·exact PN (fun p hp=>h p (List.mem_cons_of_mem _ hp)) hi p hp
def cz(S:List (Nat×Int)):Nat->Nat
 |0=>0
 |n+1=>cz S n+if gS S n=0 then 1 else 0
theorem MC{S S':List (Nat×Int)}:∀ {n:Nat},(∀ j,j<n->gS S' j=0->gS S j=0)->cz S' n<=cz S n
 |0,_=>Nat.le_refl _
 |n+1,h=>by
  have:=MC (n:=n) fun j hj=>h j (by omega)
  have:=h n (by omega)
  unfold cz
  split<;>split<;>first|omega|(exfalso;simp_all)
theorem Qb{S S':List (Nat×Int)}{r:Nat}:∀ {n:Nat},(∀ j,j<n->gS S' j=0->gS S j=0)->r<n->gS S r=0->gS S' r≠0->cz S' n<cz S n
 |0,_,h,_,_=>by omega
 |n+1,h,hr,h1,h2=>by
  unfold cz
  by_cases e:r=n
  ·subst e
   have:=MC (n:=r) fun j hj=>h j (by omega)
   rw[if_pos h1,if_neg h2];omega
  ·have:=Qb (n:=n) (fun j hj=>h j (by omega)) (by omega) h1 h2
   have:=h n (by omega)
   split<;>split<;>first|omega|(exfalso;simp_all)
def sM(os:List Nat)(S:List (Nat×Int)):List (D×D):=S.map fun p=>(.ptr (oN os p.1) 0,.i p.2)
theorem HA{os:List Nat}(hn:os.Nodup){i:Nat}(hi:i<os.length):∀ {S:List (Nat×Int)},(∀ p∈S,p.1<os.length)->qB (.ptr (oN os i) 0) (sM os S)=some ((gO S i).map .i)
 |[],_=>rfl
 |(j,v)::r,h=>by
  have ih:=HA hn hi (S:=r) fun p hp=>h p (List.mem_cons_of_mem _ hp)
  have hj:=h _ List.mem_cons_self
  simp only[sM,List.map_cons,qB,iY,Nat.beq_refl,Bool.and_true]
  by_cases e:i=j
  ·subst e;simp only[Nat.beq_refl,gO,if_true,Option.map]
  ·have:Nat.beq (oN os i) (oN os j)=false:=BO fun q=>e (rW hn hi hj q)
   simp only[this,gO,if_neg e]
   exact ih
theorem Hv{os:List Nat}(hn:os.Nodup){i:Nat}(hi:i<os.length)(v:Int):∀ {S:List (Nat×Int)},(∀ p∈S,p.1<os.length)->rZ (.ptr (oN os i) 0) (.i v) (sM os S)=some (sM os (pS S i v))
 |[],_=>rfl
 |(j,w)::r,h=>by
  have ih:=Hv hn hi v (S:=r) fun p hp=>h p (List.mem_cons_of_mem _ hp)
  have hj:=h _ List.mem_cons_self
  simp only[sM,List.map_cons,rZ,iY,Nat.beq_refl,Bool.and_true]
  by_cases e:i=j
  ·subst e;simp only[Nat.beq_refl,pS,if_true,List.map_cons]
  ·have:Nat.beq (oN os i) (oN os j)=false:=BO fun q=>e (rW hn hi hj q)
   simp only[sM]at ih
   simp only[this,pS,if_neg e,ih,List.map_cons]
theorem Bb{H:DH}{os:List Nat}{N:List bu}{L:Lk}(g:ct H os N L):∀ {S:List (Nat×Int)},(∀ p∈S,p.1<os.length)->iX H (sM os S)=true
 |[],_=>rfl
 |(j,v)::r,h=>by
  have hj:j<N.length:=by rw[<- g.len];exact h _ List.mem_cons_self
  obtain⟨s,d,h1,_⟩:=g.ob j _ (List.getElem?_eq_getElem hj)
  simp only[sM,List.map_cons,iX,fX h1,Bool.true_and]
  exact Bb g fun p hp=>h p (List.mem_cons_of_mem _ hp)
structure Vi(H:DH)(m v1 v2:Nat)(os:List Nat)(N:List bu)(L:Lk)(S:List (Nat×Int)):Prop where
 g:ct H os N L
 mp:H[m]? = some (.map (sM os S))
 a:∃ s,H[v1]? = some (.cells s [.map m])
 b:∃ s,H[v2]? = some (.cells s [.func 56 [] [.ptr v1 0,.ptr v2 0]])
 na:v1∉os
 nb:v2∉os
 lt:∀ p∈S,p.1<os.length
structure Em(H H':DH)(os:List Nat)(m:Nat):Prop where
 len:H.length<=H'.length
 at':∀ o:Nat,o<H.length->o∉os->o≠m->H'[o]? = H[o]?
theorem Em.refl(H:DH)(os:List Nat)(m:Nat):Em H H os m:=⟨Nat.le_refl _,fun _ _ _ _=>rfl⟩
theorem Em.trans{H H' H'':DH}{os:List Nat}{m:Nat}(h:Em H H' os m)(k:Em H' H'' os m):Em H H'' os m:=⟨Nat.le_trans h.len k.len,fun o h1 h2 h3=>by rw[k.at' o (Nat.lt_of_lt_of_le h1 h.len) h2 h3,h.at' o h1 h2 h3]⟩
theorem uK.em{H H':DH}{os:List Nat}{m:Nat}(h:uK H H' os):Em H H' os m:=⟨h.len,fun o h1 h2 _=>h.at' o h1 h2⟩
theorem ct.nm{H:DH}{os:List Nat}{N:List bu}{L:Lk}(g:ct H os N L){o:Nat}(h:o∈os):∃ s c,H[o]? = some (.cells s c):=by
 obtain⟨i,hi⟩:=List.getElem?_of_mem h
 have hl:i<N.length:=by rw[<- g.len];exact aB hi
 obtain⟨s,d,h1,_⟩:=g.ob i _ (List.getElem?_eq_getElem hl)
 have e:o=oN os i:=by unfold oN;rw[hi];rfl
 rw[e]
 exact⟨s,_,h1⟩
theorem bK.em{H H':DH}{os:List Nat}{N:List bu}{L:Lk}{m:Nat}{es:List (D×D)}(g:ct H os N L)(hm:H[m]? = some (.map es))(k:Em H H' os m){d:D}{l:List Nat}(h:bK H d l):bK H' d l:=by
 rcases h with⟨rfl,rfl⟩|⟨b,st,cp,rfl,h⟩
 ·exact .inl ⟨rfl,rfl⟩
 ·refine .inr ⟨b,st,cp,rfl,?_⟩
  rw[k.at' b (aB h) (fun q=>by obtain⟨s,c,e⟩:=g.nm q;rw[e]at h;cases h) (fun q=>by subst q;rw[hm]at h;cases h),h]
variable{H H':DH}{m v1 v2:Nat}{os:List Nat}{N:List bu}{L L':Lk}{S:List (Nat×Int)}
theorem Vh(κ:D->ag):dL ab 3 false none κ=κ (.i 0):=by kernel_rfl
theorem Vi.lkm(h:Vi H m v1 v2 os N L S){i:Nat}(hi:i<N.length)(κ:D->ag):eR ab 131 (.map m) (.ptr (oN os i) 0) false H κ=κ (.i (gS S i)):=by
 obtain⟨s,d,h1,_⟩:=h.g.ob i _ (List.getElem?_eq_getElem hi)
 have e:eR ab 131 (.map m) (.ptr (oN os i) 0) false H κ=jW H m fun es=>(bif Hi H (oN os i)&&iX H es then gR (.ptr (oN os i) 0) es fun r=>dL ab 3 false r κ else none):=by kernel_rfl
 rw[e,dz h.mp,fX h1,Bb h.g h.lt,gR,HA h.g.nd (by rw[h.g.len];exact hi) h.lt]
 unfold gS
 cases gO S i with
 |none=>simp only[Option.map,Option.getD,Vh,Bool.and_self,cond_true]
 |some v=>rfl
theorem Vi.upd(h:Vi H m v1 v2 os N L S){i:Nat}(hi:i<N.length)(v:Int):∃ H',(∀ κ:DH->ag,fM ab 131 (.map m) (.ptr (oN os i) 0) (.i v) H κ=κ H')/\Vi H' m v1 v2 os N L (pS S i v)/\Em H H' os m:=by
 obtain⟨s,d,h1,_⟩:=h.g.ob i _ (List.getElem?_eq_getElem hi)
 have hi':i<os.length:=by rw[h.g.len];exact hi
 have em:Em H (H.set m (.map (sM os (pS S i v)))) os m:=⟨by simp,fun o _ _ hn=>List.getElem?_set_ne (fun q=>hn q.symm)⟩
 refine⟨H.set m (.map (sM os (pS S i v))),fun κ=>?_,⟨⟨h.g.len,h.g.lenL,h.g.nd,fun k y hy=>?_,h.g.kid,h.g.lk,h.g.sm⟩,bC _ h.mp,?_,?_,h.na,h.nb,PN h.lt hi'⟩,em⟩
 ·have e:fM ab 131 (.map m) (.ptr (oN os i) 0) (.i v) H κ=jW H m fun es=>(bif Hi H (oN os i)&&iX H es then gQ (.ptr (oN os i) 0) (.i v) es fun es=>κ (H.set m (.map es))else none):=by kernel_rfl
  rw[e,dz h.mp,fX h1,Bb h.g h.lt,gQ,Hv h.g.nd hi' v h.lt]
  rfl
 ·obtain⟨s2,d2,k1,k2⟩:=h.g.ob k y hy
  refine⟨s2,d2,?_,k2.em h.g h.mp em⟩
  rw[List.getElem?_set_ne (fun q=>by rw[<- q,h.mp]at k1;cases k1),k1]
 ·obtain⟨s,k⟩:=h.a
  exact⟨s,by rw[List.getElem?_set_ne (fun q=>by rw[<- q,h.mp]at k;cases k),k]⟩
 ·obtain⟨s,k⟩:=h.b
  exact⟨s,by rw[List.getElem?_set_ne (fun q=>by rw[<- q,h.mp]at k;cases k),k]⟩
theorem Vi.els(h:Vi H m v1 v2 os N L S)(g:ct H' os N L')(e:uK H H' os):Vi H' m v1 v2 os N L' S:=by
 have hm:m∉os:=fun q=>by obtain⟨s,c,e⟩:=h.g.nm q;have:=h.mp;rw[e]at this;cases this
 obtain⟨s1,k1⟩:=h.a
 obtain⟨s2,k2⟩:=h.b
 exact⟨g,by rw[e.at' m (aB h.mp) hm,h.mp],⟨s1,by rw[e.at' _ (aB k1) h.na,k1]⟩,⟨s2,by rw[e.at' _ (aB k2) h.nb,k2]⟩,h.na,h.nb,h.lt⟩
def bL:Ty->Nat
 |.mk _ xs=>1+tszs xs
 where tszs:List Ty->Nat
  |[]=>0
  |t::r=>bL t+tszs r
theorem uO{t:Ty}:∀ {l:List Ty},t∈l->bL t<=bL.tszs l
 |x::r,h=>by
  unfold bL.tszs
  rcases List.mem_cons.1 h with rfl|h
  ·omega
  ·have:=uO h;omega
structure Im(N:List bu)(L:Lk)(S S':List (Nat×Int)):Prop where
 old:∀ j,gS S j≠0->gS S' j=gS S j
 new:∀ j,gS S j=0->gS S' j≠0->gS S' j=2/\∃ t,Tr N L j t
theorem Im.refl{N:List bu}{L:Lk}(S:List (Nat×Int)):Im N L S S:=⟨fun _ _=>rfl,fun _ h k=>(k h).elim⟩
theorem Im.trans{N:List bu}{L:Lk}{S S' S'':List (Nat×Int)}(h:Im N L S S')(k:Im N L S' S''):Im N L S S'' :=
 ⟨fun j hj=>by rw[k.old j (by rw[h.old j hj];exact hj),h.old j hj],fun j hj hk=>by
  by_cases e:gS S' j=0
  ·exact k.new j e hk
  ·rw[k.old j e];exact h.new j hj e⟩
theorem Im.eqv{N:List bu}{L L':Lk}{S S':List (Nat×Int)}(h:Im N L S S')(k:ub N L L'):Im N L' S S':=⟨h.old,fun j h1 h2=>⟨(h.new j h1 h2).1,by obtain⟨t,ht⟩:=(h.new j h1 h2).2;exact⟨t,ht.eqv k⟩⟩⟩
theorem Im.zero{N:List bu}{L:Lk}{S S':List (Nat×Int)}(h:Im N L S S')(j:Nat)(k:gS S' j=0):gS S j=0:=by
 by_cases e:gS S j=0
 ·exact e
 ·rw[h.old j e]at k;exact(e k).elim
def Dn(N:List bu)(L:Lk)(S:List (Nat×Int)):Prop:=∀ j,gS S j≠0->gS S j≠1->gS S j=2/\∃ t,Tr N L j t
theorem Dn.eqv{N:List bu}{L L':Lk}{S:List (Nat×Int)}(h:Dn N L S)(k:ub N L L'):Dn N L' S:=fun j h1 h2=>⟨(h j h1 h2).1,by obtain⟨t,ht⟩:=(h j h1 h2).2;exact⟨t,ht.eqv k⟩⟩
theorem Dn.vs{N:List bu}{L:Lk}{S S':List (Nat×Int)}(h:Dn N L S)(k:Im N L S S'):Dn N L S':=fun j h1 h2=>by
 by_cases e:gS S j=0
 ·exact k.new j e h1
 ·rw[k.old j e]at h1 h2 ⊢;exact h j h1 h2
def Wa(f:Nat->Ty)(S:List (Nat×Int))(i:Nat):Prop:=∀ j,gS S j=1->bL (f i)<bL (f j)
def VA(m v1 v2 k:Nat):Prop:=∀(H:DH) (os:List Nat) (N:List bu) (L:Lk) (S:List (Nat×Int)),Vi H m v1 v2 os N L S->Wf L->Dn N L S->(∀(i:Nat) (x:bu),N[i]? = some x->x.v=true->x.a=[])->cz S N.length<k->∀ i,i<N.length ->
 ∃ q H' L' S',az 56 [.ptr (oN os i) 0,.ptr v1 0,.ptr v2 0] H=ret (.bool q) H'/\ct H' os N L'/\ub N L L'/\Em H H' os m/\(∀ f:Nat->Ty,Qh N f->dF L f->Wa f S i->q=true) /\
  (q=true->Vi H' m v1 v2 os N L' S'/\Im N L' S S'/\∃ t,Tr N L' i t)
theorem GH{m v1 v2 k:Nat}(hk:VA m v1 v2 k){r:Nat}{x:bu}{d:D}:∀(l p:List Nat) (H:DH) (os:List Nat) (N:List bu) (L:Lk) (S:List (Nat×Int)),Vi H m v1 v2 os N L S->Wf L->Dn N L S->(∀(i:Nat) (x:bu),N[i]? = some x->x.v=true->x.a=[])->cz S N.length<k->N[r]? = some x->x.a=p++l->bK H d (x.a.map (oN os)) ->
 ∃ q H' L' S',af ak 56 200009 [.g (.ptr (oN os r) 0),.g (.ptr v1 0),.g (.ptr v2 0),.g d,.n (x.a.length:Nat),.n (p.length:Nat)] [] H=ret (.bool q) H'/\ct H' os N L'/\ub N L L'/\Em H H' os m/\(∀ f:Nat->Ty,Qh N f->dF L f->(∀ a∈l,Wa f S a)->q=true) /\
  (q=true->Vi H' m v1 v2 os N L' (pS S' r 2)/\Im N L' S S'/\∃ ts,sX N L' l ts)
 |[],p,H,os,N,L,S,h,hw,hd,hv,hc,hx,e,ha=>by
  obtain⟨H',u1,u2,u3⟩:=h.upd (aB hx) 2
  obtain⟨s1,k1⟩:=h.a
  refine⟨true,H',L,S,ez (wG) ?_,u2.g,.refl _ _,u3,fun _ _ _ _=>rfl,fun _=>⟨u2,.refl S,[],.nil⟩⟩
  have hlt:decide ((p.length:Int)<(x.a.length:Int))=false:=by rw[e];simp
  rw[hlt,cond_false,ae k1,aj,u1]
 |a::l,p,H,os,N,L,S,h,hw,hd,hv,hc,hx,e,ha=>by
  obtain⟨s2,k2⟩:=h.b
  have la:a<N.length:=h.g.kid r x hx a (by rw[e];simp)
  have ia:(x.a.map (oN os))[p.length]? = some (oN os a):=by rw[List.getElem?_map,e];simp
  have hlt:decide ((p.length:Int)<(x.a.length:Int))=true:=by rw[e];simp;omega
  have hs:=h.g.sm r x hx
  have hw2:cS ((p.length:Int)+1)=(((p++[a]).length:Nat):Int):=by
   rw[bE (by
    have:x.a.length=p.length+(l.length+1):=by rw[e];simp
    omega)]
   simp
  obtain⟨q,H1,L1,S1,r1,r2,r3,r4,r5,r6⟩:=hk H os N L S h hw hd hv hc a la
  have hf:et lK 56=true:=by kernel_rfl
  have st:∀ z,(match q with|true=>af ak 56 200009 [.g (.ptr (oN os r) 0),.g (.ptr v1 0),.g (.ptr v2 0),.g d,.n (x.a.length:Nat),.n ((p++[a]).length:Nat)] [] H1|false=>ret (.bool false) H1)=z->af ak 56 200009 [.g (.ptr (oN os r) 0),.g (.ptr v1 0),.g (.ptr v2 0),.g d,.n (x.a.length:Nat),.n (p.length:Nat)] [] H=z:=fun z hz=>by
   refine ez (wG) ?_
   rw[hlt,cond_true,ha.at' ia,ae k2,aj,Bg hf]
   rw[show(([]:List D)++([D.ptr (oN os a) 0]++[.ptr v1 0,.ptr v2 0]))=[.ptr (oN os a) 0,.ptr v1 0,.ptr v2 0] from rfl,ao r1]
   simp only[ck,ai]
   rw[hw2,<- hz]
   cases q<;>simp only[Bool.not_true,Bool.not_false,cond_true,cond_false]
  cases q with
  |false=>exact⟨false,H1,L1,S1,st _ rfl,r2,r3,r4,fun f h1 h2 h3=>r5 f h1 h2 (h3 a List.mem_cons_self),fun q=>nomatch q⟩
  |true =>
   obtain⟨t1,t2,t,t3⟩:=r6 rfl
   have hc':cz S1 N.length<=cz S N.length:=MC fun j _=>t2.zero j
   obtain⟨q',H2,L2,S2,w1,w2,w3,w4,w5,w6⟩:=GH hk l (p++[a]) H1 os N L1 S1 t1 (hw.eqv r3) ((hd.eqv r3).vs t2) hv (by omega) hx (by rw[e];simp) (ha.em h.g h.mp r4)
   refine⟨q',H2,L2,S2,st _ w1,w2,r3.trans w3,r4.trans w4,fun f h1 h2 h3=>w5 f h1 ((r3.rs _ f).1 h2) fun a' ha' j hj=>?_,fun hq=>?_⟩
   ·refine h3 a' (List.mem_cons_of_mem _ ha') j ?_
    by_cases e0:gS S j=0
    ·have:=(t2.new j e0 (by rw[hj];decide)).1
     rw[hj]at this;cases this
    ·rw[<- t2.old j e0,hj]
   ·obtain⟨z1,z2,ts,z3⟩:=w6 hq
    exact⟨z1,(t2.eqv w3).trans z2,t::ts,.cons (t3.eqv w3) z3⟩
theorem Tj(o c:Nat)(H:DH)(κ:D->ag):eZ ab 71 (.ptr o c) H κ=aG H o fun _ cs=>aF cs c κ:=by kernel_rfl
theorem Ch{m v1 v2:Nat}:∀ k,VA m v1 v2 k
 |0=>fun _ _ _ _ _ _ _ _ _ h=>by omega
 |k+1=>by
  intro H os N L S h hw hd hv hc i hi
  obtain⟨r,n,hr⟩:=hw i (by rw[h.g.lenL];exact hi)
  obtain⟨H1,L1,r1,g1,q1,l1⟩:=SS h.g hr
  obtain⟨n1,_,hr1⟩:=q1.rt _ _ _ hr
  have hrl:r<N.length:=by rw[<- g1.lenL];exact aB hr1.root
  have h1:=h.els g1 l1
  have hd1:=hd.eqv q1
  obtain⟨s1,k1⟩:=h1.a
  have hx:=List.getElem?_eq_getElem hrl
  generalize N[r]=x at hx
  have fr:∀ f:Nat->Ty,dF L f->f i=f r:=fun f hf=>hf.rt hr
  by_cases e1:gS S r=1
  ·refine⟨false,H1,L1,S,ev (Vj) ?_,g1,q1,l1.em,fun f _ h2 h3=>?_,fun q=>nomatch q⟩
   ·rw[ao r1,ae k1,aj,h1.lkm hrl,e1]
    rfl
   ·have:=h3 r e1
    rw[fr f h2]at this
    omega
  ·by_cases e2:gS S r=2
   ·obtain⟨_,t,ht⟩:=hd1 r (by rw[e2];decide) e1
    refine⟨true,H1,L1,S,ev (Vj) ?_,g1,q1,l1.em,fun _ _ _ _=>rfl,fun _=>⟨h1,.refl S,t,.of_rt hr1 ht⟩⟩
    rw[ao r1,ae k1,aj,h1.lkm hrl,e2]
    rfl
   ·have e0:gS S r=0:=by
     by_cases e0:gS S r=0
     ·exact e0
     ·exact(e2 (hd1 r e0 e1).1).elim
    obtain⟨H2,u1,u2,u3⟩:=h1.upd hrl 1
    obtain⟨s2,d,w1,w2⟩:=u2.g.ob r x hx
    have g1':∀ j,gS (pS S r 1) j=if j=r then 1 else gS S j:=fun j=>PW _ _ _ _
    have hd2:Dn N L1 (pS S r 1):=fun j a b=>by
     rw[g1']at a b ⊢
     by_cases ej:j=r
     ·rw[if_pos ej]at b;exact(b rfl).elim
     ·rw[if_neg ej]at a b ⊢;exact hd1 j a b
    have hc2:cz (pS S r 1) N.length<k:=by
     have:cz (pS S r 1) N.length<cz S N.length:=Qb (r:=r) (fun j _ hj=>by
      rw[g1']at hj
      split at hj
      ·cases hj
      ·exact hj) hrl e0 (by rw[g1',if_pos rfl];decide)
     omega
    obtain⟨q,H3,L3,S3,t1,t2,t3,t4,t5,t6⟩:=GH (Ch k) x.a [] H2 os N L1 (pS S r 1) u2 (hw.eqv q1) hd2 hv hc2 hx rfl w2
    refine⟨q,H3,L3,pS S3 r 2,ev (Vj) ?_,t2,q1.trans t3,(l1.em.trans u3).trans t4,fun f hm h2 h3=>?_,fun hq=>?_⟩
    ·rw[ao r1,ae k1,aj,h1.lkm hrl,e0]
     rw[show(∀ κ:D->ag,ay ab .eql 3 true (.i 0) (.i 1) κ=κ (.bool false))from fun κ=>rfl]
     simp only[ai,cond_false]
     rw[show(∀ κ:D->ag,ay ab .eql 3 true (.i 0) (.i 2) κ=κ (.bool false))from fun κ=>rfl]
     simp only[ai,cond_false]
     rw[ae k1,aj,u1]
     simp only[Gg,FQ,Tj,Nat.zero_add]
     rw[ae w1]
     simp only[fu,aj,aA]
     rw[w2.len,List.length_map]
     exact t1
    ·refine t5 f hm ((q1.rs _ f).1 h2) fun a ha j hj=>?_
     have hxv:x.v=false:=by
      cases vx:x.v with
      |false=>rfl
      |true=>rw[hv r x hx vx]at ha;cases ha
     have lt1:bL (f a)<bL (f r):=by
      rw[hm r x hx hxv]
      have:=uO (List.mem_map_of_mem (f:=f) ha)
      simp only[bL];omega
     rw[g1']at hj
     split at hj
     ·rename_i ej;rw[ej];exact lt1
     ·have:=h3 j hj
      rw[fr f h2]at this
      omega
    ·obtain⟨z1,z2,ts,z3⟩:=t6 hq
     have hr3:L3[r]? = some none:=(t3.ro r).1 hr1.root
     have tr:∃ t,Tr N L3 r t:=by
      cases vx:x.v with
      |true=>exact⟨_,.var (.z hr3) hx vx⟩
      |false =>
       have z4:∃ ts,sX N L3 x.a ts:=⟨ts,z3⟩
       obtain⟨ts,z4⟩:=z4
       exact⟨_,.con (.z hr3) hx vx z4⟩
     have hr3':=(q1.trans t3).rt _ _ _ hr
     obtain⟨n3,_,hr3'⟩:=hr3'
     have g3:∀ j,gS (pS S3 r 2) j=if j=r then 2 else gS S3 j:=fun j=>PW _ _ _ _
     obtain⟨t,ht⟩:=tr
     refine⟨z1,⟨fun j hj=>?_,fun j hj hj2=>?_⟩,t,.of_rt hr3' ht⟩
     ·have ej:j≠r:=fun q=>by subst q;exact hj e0
      have:gS (pS S r 1) j=gS S j:=by rw[g1',if_neg ej]
      rw[g3,if_neg ej,z2.old j (by rw[this];exact hj),this]
     ·rw[g3]at hj2 ⊢
      by_cases ej:j=r
      ·subst ej;rw[if_pos rfl];exact⟨rfl,t,ht⟩
      ·rw[if_neg ej]at hj2 ⊢
       exact z2.new j (by rw[g1',if_neg ej];exact hj) hj2
end Go.Proofs.YtenibcfppefobaaGreatDoor
set_option linter.all false
noncomputable section
namespace Go.Proofs.YtenibcfppefobaaGreatDoor
open Go.AI
theorem ju(l:DH)(x y:DB):(l++[x]).set l.length y=l++[y]:=by simp
theorem jk{H X:DH}{o:Nat}{b:DB}(h:H[o]? = some b):(H++X)[o]? = some b:=by rw[List.getElem?_append_left (aB h),h]
theorem bK.app{H X:DH}{d:D}{l:List Nat}(h:bK H d l):bK (H++X) d l:=by
 rcases h with⟨rfl,rfl⟩|⟨b,st,cp,rfl,h⟩
 ·exact .inl ⟨rfl,rfl⟩
 ·exact .inr ⟨b,st,cp,rfl,jk h⟩
theorem ct.app{H X:DH}{os:List Nat}{N:List bu}{L:Lk}(g:ct H os N L):ct (H++X) os N L :=
 ⟨g.len,g.lenL,g.nd,fun i x hx=>by
  obtain⟨s,d,h1,h2⟩:=g.ob i x hx
  exact⟨s,d,jk h1,h2.app⟩,g.kid,g.lk,g.sm⟩
theorem ct.ltm{H:DH}{os:List Nat}{N:List bu}{L:Lk}(g:ct H os N L){o:Nat}(h:o∈os):o<H.length:=by
 obtain⟨s,c,e⟩:=g.nm h
 exact aB e
theorem Dp{m v1 v2:Nat}{d:D}{all:List Nat}(h16:all.length<=16):∀(l p:List Nat) (H:DH) (os:List Nat) (N:List bu) (L:Lk) (S:List (Nat×Int)),Vi H m v1 v2 os N L S->Wf L->Dn N L S->(∀ j,gS S j≠1)->(∀(i:Nat) (x:bu),N[i]? = some x->x.v=true->x.a=[])->(∀ a∈all,a<N.length)->all=p++l->bK H d (all.map (oN os)) ->
 ∃ q H' L',af ak 25 200005 [.g (.ptr v2 0),.g d,.n (all.length:Nat),.n (p.length:Nat)] [] H=ret (.bool q) H'/\ct H' os N L'/\ub N L L'/\Em H H' os m/\(∀ f:Nat->Ty,Qh N f->dF L f->q=true)/\(q=true->∀ a∈l,∃ t,Tr N L' a t)
 |[],p,H,os,N,L,S,h,hw,hd,h1,hv,hl,e,ha=>by
  refine⟨true,H,L,ez (wP) ?_,h.g,.refl _ _,.refl _ _ _,fun _ _ _=>rfl,fun _ a q=>nomatch q⟩
  have hlt:decide ((p.length:Int)<(all.length:Int))=false:=by rw[e];simp
  rw[hlt,cond_false]
 |a::l,p,H,os,N,L,S,h,hw,hd,h1,hv,hl,e,ha=>by
  obtain⟨s2,k2⟩:=h.b
  have la:a<N.length:=hl a (by rw[e];simp)
  have ia:(all.map (oN os))[p.length]? = some (oN os a):=by rw[List.getElem?_map,e];simp
  have hlt:decide ((p.length:Int)<(all.length:Int))=true:=by rw[e];simp;omega
  have hw2:cS ((p.length:Int)+1)=(((p++[a]).length:Nat):Int):=by
   rw[bE (by
    have:all.length=p.length+(l.length+1):=by rw[e];simp
    omega)]
   simp
  obtain⟨q,H1,L1,S1,r1,r2,r3,r4,r5,r6⟩:=Ch _ H os N L S h hw hd hv (Nat.lt_succ_self _) a la
  have hf:et lK 56=true:=by kernel_rfl
  have st:∀ z,(match q with|true=>af ak 25 200005 [.g (.ptr v2 0),.g d,.n (all.length:Nat),.n ((p++[a]).length:Nat)] [] H1|false=>ret (.bool false) H1)=z->af ak 25 200005 [.g (.ptr v2 0),.g d,.n (all.length:Nat),.n (p.length:Nat)] [] H=z:=fun z hz=>by
   refine ez (wP) ?_
   rw[hlt,cond_true,ha.at' ia,ae k2,aj,Bg hf]
   rw[show(([]:List D)++([D.ptr (oN os a) 0]++[.ptr v1 0,.ptr v2 0]))=[.ptr (oN os a) 0,.ptr v1 0,.ptr v2 0] from rfl,ao r1]
   simp only[ck,ai]
   rw[hw2,<- hz]
   cases q<;>simp only[Bool.not_true,Bool.not_false,cond_true,cond_false]
  have op:∀ f:Nat->Ty,Wa f S a:=fun f j hj=>(h1 j hj).elim
  cases q with
  |false=>exact⟨false,H1,L1,st _ rfl,r2,r3,r4,fun f h2 h3=>r5 f h2 h3 (op f),fun q=>nomatch q⟩
  |true =>
   obtain⟨t1,t2,t,t3⟩:=r6 rfl
   have h1':∀ j,gS S1 j≠1:=fun j hj=>by
    by_cases e0:gS S j=0
    ·have:=(t2.new j e0 (by rw[hj];decide)).1
     rw[hj]at this;cases this
    ·exact h1 j (by rw[<- t2.old j e0,hj])
   obtain⟨q',H2,L2,w1,w2,w3,w4,w5,w6⟩:=Dp h16 l (p++[a]) H1 os N L1 S1 t1 (hw.eqv r3) ((hd.eqv r3).vs t2) h1' hv hl (by rw[e];simp) (ha.em h.g h.mp r4)
   refine⟨q',H2,L2,st _ w1,w2,r3.trans w3,r4.trans w4,fun f h2 h3=>w5 f h2 ((r3.rs _ f).1 h3),fun hq a' ha'=>?_⟩
   rcases List.mem_cons.1 ha' with rfl|ha'
   ·exact⟨t,t3.eqv w3⟩
   ·exact w6 hq a' ha'
theorem TB{H:DH}{os:List Nat}{N:List bu}{L:Lk}(g:ct H os N L)(hw:Wf L)(hv:∀(i:Nat) (x:bu),N[i]? = some x->x.v=true->x.a=[]){d:D}{l:List Nat}(h16:l.length<=16)(ha:bK H d (l.map (oN os)))(hl:∀ a∈l,a<N.length) :
 ∃ q H' L',az 25 [d] H=ret (.bool q) H'/\ct H' os N L'/\ub N L L'/\uK H H' os/\(∀ f:Nat->Ty,Qh N f->dF L f->q=true)/\(q=true->∀ a∈l,∃ t,Tr N L' a t):=by
 let X:DH:=[.map [],.cells 1 [.map H.length],.cells 1 [.func 56 [] [.ptr (H.length+1) 0,.ptr (H.length+2) 0]]]
 have hX:(H++[DB.map []]++[DB.cells 1 [.map H.length]]++[DB.cells 1 [.func 56 [] [.ptr (H.length+1) 0,.ptr (H.length+2) 0]]])=H++X:=by simp[X]
 have gX:ct (H++X) os N L:=g.app
 have at0:(H++X)[H.length]? = some (.map (sM os [])):=by simp[X,sM]
 have at1:(H++X)[H.length+1]? = some (.cells 1 [.map H.length]):=by rw[List.getElem?_append_right (by omega)];simp[X]
 have at2:(H++X)[H.length+2]? = some (.cells 1 [.func 56 [] [.ptr (H.length+1) 0,.ptr (H.length+2) 0]]):=by rw[List.getElem?_append_right (by omega)];simp[X]
 have vi:Vi (H++X) H.length (H.length+1) (H.length+2) os N L []:=⟨gX,at0,⟨1,at1⟩,⟨1,at2⟩,fun q=>by have:=g.ltm q;omega,fun q=>by have:=g.ltm q;omega,fun _ q=>nomatch q⟩
 obtain⟨q,H',L',r1,r2,r3,r4,r5,r6⟩:=Dp h16 l [] (H++X) os N L [] vi hw (fun j h=>(h rfl).elim) (fun j=>by show(0:Int)≠1;decide) hv hl rfl ha.app
 refine⟨q,H',L',ev (WY) ?_,r2,r3,⟨Nat.le_trans (by simp) r4.len,fun o h1 h2=>?_⟩,r5,r6⟩
 ·have o0:∀(κ:List D->ag),ar [D.nilmap] 0 [.map H.length] κ=κ [.map H.length]:=fun _=>rfl
  have o1:∀(a b:Nat) (κ:List D->ag),ar [D.nilFunc] 0 [.func 56 [] [.ptr a 0,.ptr b 0]] κ=κ [.func 56 [] [.ptr a 0,.ptr b 0]]:=fun _ _ _=>rfl
  dsimp only
  rw[ae (bD _ _),o0,ju,ae (bD _ _),o1,ju]
  have hl1:(H++[DB.map []]).length=H.length+1:=by simp
  have hl2:(H++[DB.map []]++[DB.cells (0+1) [.map H.length]]).length=H.length+2:=by simp
  rw[hl1,hl2,Nat.zero_add,hX,(ha.app (X:=X)).len,List.length_map]
  exact r1
 ·rw[r4.at' o (by simp;omega) h2 (by omega),List.getElem?_append_left h1]
end Go.Proofs.YtenibcfppefobaaGreatDoor
set_option linter.all false
noncomputable section
namespace Go.Proofs.YtenibcfppefobaaGreatDoor
open Go.AI
theorem ER{m:Nat}(h:m<=4194304):aT ab 74 m=true:=by
 have e:aT ab 74 m=(Nat.ble (8*(m+Nat.div m 4+600)) 281474976710656&&Nat.ble m 4611686018427387904):=by kernel_rfl
 rw[e,Bool.and_eq_true]
 have h1:Nat.div m 4<=m:=Nat.div_le_self m 4
 exact⟨Nat.ble_eq_true_of_le (by omega),Nat.ble_eq_true_of_le (by omega)⟩
theorem Ss{H:DH}{d:D}{l:List Nat}(h:bK H d l)(hl:l.length<4194304)(o:Nat):∃ d' H',(∀ κ:D->DH->ag,eG (aT ab 74) 1 d [[.ptr o 0]] H κ=κ d' H')/\bK H' d' (l++[o])/\H.length<=H'.length /\
 (∀ b,b<H.length->(∀ n,d≠.buf 1 b n)->H'[b]? = H[b]?)/\(∃ b n,d'=.buf 1 b n/\((∃ n',d=.buf 1 b n')\/H.length<=b))/\(∀ b n,d'=.buf 1 b n->b<H'.length):=by
 rcases h with⟨rfl,rfl⟩|⟨b,st,cp,rfl,hb⟩
 ·refine⟨.buf 1 H.length 1,H++[.buf 1 true false [[.ptr o 0]]],fun κ=>?_,.inr ⟨H.length,true,false,rfl,bD _ _⟩,by simp,fun b hb _=>List.getElem?_append_left hb,⟨_,_,rfl,.inr (Nat.le_refl _)⟩,fun b n e=>by cases e;simp⟩
  simp only[eG,List.length_singleton,ER (show 1<=4194304 by decide),boK,cond_true]
  rfl
 ·have hm:(List.map (fun o=>[D.ptr o 0]) l).length=l.length:=List.length_map _
  have hs:∀ κ:D->DH->ag,eG (aT ab 74) 1 (.buf 1 b l.length) [[.ptr o 0]] H κ=grow b 1 st cp (l.map fun o=>[.ptr o 0]) [[.ptr o 0]] H κ:=fun κ=>by
   have h4:=dA hb (κ:=fun _ st cap l2=>boK (aT ab 74 (l2.length+1)&&!(cap&&List.isEmpty [[D.ptr o 0]])) (grow b 1 st cap l2 [[.ptr o 0]] H κ))
   rw[hm]at h4
   simp only[eG,List.length_singleton,ER (show 1<=4194304 by decide),boK,cond_true,Nat.beq_refl]
   refine Eq.trans h4 ?_
   rw[ER (by omega)]
   simp only[List.isEmpty_cons,Bool.and_false,Bool.not_false,Bool.and_self,boK,cond_true]
  have e2:(List.map (fun o=>[D.ptr o 0]) l)++[[.ptr o 0]]=(l++[o]).map fun o=>[.ptr o 0]:=by simp
  cases cp with
  |true =>
   refine⟨.buf 1 H.length (l++[o]).length,H++[.buf 1 true false ((l++[o]).map fun o=>[.ptr o 0])],fun κ=>?_,.inr ⟨H.length,true,false,rfl,bD _ _⟩,by simp,fun b hb _=>List.getElem?_append_left hb,⟨_,_,rfl,.inr (Nat.le_refl _)⟩,fun b n e=>by cases e;simp⟩
   rw[hs,grow,cond_true,e2,hm]
   simp
  |false =>
   refine⟨.buf 1 b (l++[o]).length,H.set b (.buf 1 st false ((l++[o]).map fun o=>[.ptr o 0])),fun κ=>?_,.inr ⟨b,st,false,rfl,bC _ hb⟩,by simp,fun b' hb' hn=>List.getElem?_set_ne (fun q=>hn l.length (by rw[q])),⟨_,_,rfl,.inl ⟨_,rfl⟩⟩,fun b n e=>by cases e;simp;exact aB hb⟩
   rw[hs,grow,cond_false,e2,hm]
   simp
theorem AM{os X:List Nat}{i:Nat}(h:i<os.length):oN (os++X) i=oN os i:=by unfold oN;rw[List.getElem?_append_left h]
theorem fF{os X:List Nat}{l:List Nat}(h:∀ a∈l,a<os.length):l.map (oN (os++X))=l.map (oN os):=List.map_congr_left fun a ha=>AM (h a ha)
theorem rX(os:List Nat)(o:Nat):oN (os++[o]) os.length=o:=by simp[oN]
def iS(N:List bu)(v:Nat):ac:=((N[v]?).map (·.n)).getD []
def vM(os:List Nat)(N:List bu)(vs:List Nat):List (D×D):=vs.map fun v=>(.str (iS N v),.ptr (oN os v) 0)
theorem Lz(os:List Nat)(N:List bu)(s:ac):∀ vs,qB (.str s) (vM os N vs)=some ((vs.find? fun v=>s==iS N v).map fun v=>.ptr (oN os v) 0)
 |[]=>rfl
 |v::r=>by
  have ih:=Lz os N s r
  simp only[vM,List.map_cons,qB,iY]
  cases q:s==iS N v with
  |true=>simp only[List.find?_cons,q,Option.map]
  |false=>simp only[List.find?_cons,q];exact ih
theorem Lx(os:List Nat)(N:List bu)(s:ac)(x:D):∀ vs,(vs.find? fun v=>s==iS N v)=none->rZ (.str s) x (vM os N vs)=some (vM os N vs++[(.str s,x)])
 |[],_=>rfl
 |v::r,h=>by
  simp only[List.find?_cons]at h
  cases q:s==iS N v with
  |true=>rw[q]at h;cases h
  |false =>
   rw[q]at h
   have ih:=Lx os N s x r h
   simp only[vM,List.map_cons,rZ,iY,q,List.cons_append]
   simp only[vM]at ih
   rw[ih]
structure GT(isV:ac->Bool)(H:DH)(p mo:Nat)(dl:D)(os bs:List Nat)(N:List bu)(T:List Ty)(vs:List Nat):Prop where
 len:os.length=N.length
 nd:os.Nodup
 ob:∀(i:Nat) (x:bu),N[i]? = some x->∃ s d,H[oN os i]? = some (.cells s (fu x.v x.n x.o d .nilptr))/\bK H d (x.a.map (oN os))/\∀ o n,d=.buf 1 o n->o∈bs
 sm:∀(i:Nat) (x:bu),N[i]? = some x->x.a.length<=16
 gn:GN N T isV
 pg:∃ s,H[p]? = some (.cells s [.map mo,dl])
 al:bK H dl (vs.map (oN os))
 lb:∀ o n,dl=.buf 1 o n->o∉bs
 mp:H[mo]? = some (.map (vM os N vs))
 vs1:∀(i:Nat) (x:bu),N[i]? = some x->x.v=true->i∈vs
 vs2:∀ i∈vs,∃ x,N[i]? = some x/\x.v=true
 np:p∉os
 bb:∀ o∈bs,o<H.length
 vl:vs.length<=N.length
 vn:vs.Nodup
variable{isV:ac->Bool}{H H':DH}{p mo:Nat}{dl dl':D}{os bs:List Nat}{N:List bu}{T:List Ty}{vs:List Nat}
theorem GN.kid(g:GN N T isV)(i:Nat)(x:bu)(h:N[i]? = some x):∀ a∈x.a,a<i:=fun a ha=>by
 cases hv:x.v with
 |true=>rw[(g.var i x h hv).2.2]at ha;cases ha
 |false=>exact(g.con i x h hv).2.1 a ha
theorem bK.chg{d:D}{l:List Nat}(h:bK H d l)(k:∀ o n,d=.buf 1 o n->H'[o]? = H[o]?):bK H' d l:=by
 rcases h with⟨rfl,rfl⟩|⟨b,st,cp,rfl,h⟩
 ·exact .inl ⟨rfl,rfl⟩
 ·exact .inr ⟨b,st,cp,rfl,by rw[k _ _ rfl,h]⟩
theorem GT.chg(g:GT isV H p mo dl os bs N T vs)(h1:∀ o∈os,H'[o]? = H[o]?)(h2:∀ o∈bs,H'[o]? = H[o]?)(h3:∃ s,H'[p]? = some (.cells s [.map mo,dl]))(h4:∀ o n,dl=.buf 1 o n->H'[o]? = H[o]?)(h5:H'[mo]? = H[mo]?)(h6:H.length<=H'.length):GT isV H' p mo dl os bs N T vs :=
 ⟨g.len,g.nd,fun i x hx=>by
  obtain⟨s,d,k1,k2,k3⟩:=g.ob i x hx
  exact⟨s,d,by rw[h1 _ (AL (by rw[g.len];exact aB hx)),k1],k2.chg fun o n e=>h2 o (k3 o n e),k3⟩,g.sm,g.gn,h3,g.al.chg h4,g.lb,by rw[h5,g.mp],g.vs1,g.vs2,g.np,fun o ho=>Nat.lt_of_lt_of_le (g.bb o ho) h6,g.vl,g.vn⟩
theorem er{α:Type}{l:List α}{x y:α}{i:Nat}(h:(l++[x])[i]? = some y):l[i]? = some y\/(i=l.length/\y=x):=by
 rcases Nat.lt_trichotomy i l.length with q|q|q
 ·rw[List.getElem?_append_left q]at h;exact .inl h
 ·subst q;simp at h;exact .inr ⟨rfl,h.symm⟩
 ·rw[List.getElem?_eq_none (by simp;omega)]at h;cases h
theorem lB{α:Type}{l X:List α}{y:α}{i:Nat}(h:l[i]? = some y):(l++X)[i]? = some y:=by rw[List.getElem?_append_left (aB h),h]
theorem vT{T:List Ty}{t:Ty}{ks:List Nat}{ts:List Ty}(h:ks.map (fun a=>T[a]?)=ts.map some):ks.map (fun a=>(T++[t])[a]?)=ts.map some:=by
 rw[<- h]
 refine List.map_congr_left fun a ha=>?_
 have:T[a]?∈ts.map some:=by rw[<- h];exact List.mem_map_of_mem (f:=fun a=>T[a]?) ha
 obtain⟨t',_,e⟩:=List.mem_map.1 this
 rw[<- e];exact lB e.symm
theorem GN.snocC(g:GN N T isV){nm:ac}{ks:List Nat}{ts:List Ty}{o:Int}(hv:isV nm=false)(ha:∀ a∈ks,a<N.length)(ht:ks.map (fun a=>T[a]?)=ts.map some):GN (N++[⟨false,nm,o,ks⟩]) (T++[.mk nm ts]) isV:=by
 refine⟨by simp[g.len],fun i x hx vx=>?_,fun i x hx vx=>?_,fun i j x y hx hy vx vy e=>?_⟩
 ·rcases er hx with hx|⟨rfl,rfl⟩
  ·obtain⟨a1,a2,a3⟩:=g.var i x hx vx
   exact⟨lB a1,a2,a3⟩
  ·cases vx
 ·rcases er hx with hx|⟨rfl,rfl⟩
  ·obtain⟨a1,a2,ts',a3,a4⟩:=g.con i x hx vx
   exact⟨a1,a2,ts',lB a3,vT a4⟩
  ·exact⟨hv,ha,ts,by rw[<- g.len];simp,vT ht⟩
 ·rcases er hx with hx|⟨rfl,rfl⟩
  ·rcases er hy with hy|⟨rfl,rfl⟩
   ·exact g.inj i j x y hx hy vx vy e
   ·cases vy
  ·cases vx
theorem GN.snocV(g:GN N T isV){nm:ac}{o:Int}(hv:isV nm=true)(hn:∀(i:Nat) (x:bu),N[i]? = some x->x.v=true->x.n≠nm):GN (N++[⟨true,nm,o,[]⟩]) (T++[.mk nm []]) isV:=by
 refine⟨by simp[g.len],fun i x hx vx=>?_,fun i x hx vx=>?_,fun i j x y hx hy vx vy e=>?_⟩
 ·rcases er hx with hx|⟨rfl,rfl⟩
  ·obtain⟨a1,a2,a3⟩:=g.var i x hx vx
   exact⟨lB a1,a2,a3⟩
  ·exact⟨by rw[<- g.len];simp,hv,rfl⟩
 ·rcases er hx with hx|⟨rfl,rfl⟩
  ·obtain⟨a1,a2,ts',a3,a4⟩:=g.con i x hx vx
   exact⟨a1,a2,ts',lB a3,vT a4⟩
  ·cases vx
 ·rcases er hx with hx|⟨rfl,rfl⟩
  ·rcases er hy with hy|⟨rfl,rfl⟩
   ·exact g.inj i j x y hx hy vx vy e
   ·exact(hn i x hx vx e).elim
  ·rcases er hy with hy|⟨rfl,rfl⟩
   ·exact(hn j y hy vy e.symm).elim
   ·rfl
theorem GT.vs_lt(g:GT isV H p mo dl os bs N T vs):∀ i∈vs,i<os.length:=fun i hi=>by
 obtain⟨x,hx,_⟩:=g.vs2 i hi
 rw[g.len];exact aB hx
theorem JX{os':List Nat}{N':List bu}(h:∀ i∈vs,i<os.length)(hl:os.length=N.length):vM (os++os') (N++N') vs=vM os N vs:=by
 refine List.map_congr_left fun v hv=>?_
 rw[AM (h v hv)]
 have:iS (N++N') v=iS N v:=by unfold iS;rw[List.getElem?_append_left (by rw[<- hl];exact h v hv)]
 rw[this]
theorem GT.snocC(g:GT isV H p mo dl os bs N T vs){nm:ac}{ks:List Nat}{ts:List Ty}{o s:Nat}{d:D}{B:List Nat}(hv:isV nm=false)(ho:H[o]? = some (.cells s (fu false nm 0 d .nilptr)))(hd:bK H d (ks.map (oN os)))(hn:o∉os)(hp:o≠p)
 (ha:∀ a∈ks,a<N.length) (h16:ks.length<=16) (ht:ks.map (fun a=>T[a]?)=ts.map some) (hB:∀ b n,d=.buf 1 b n->b∈B) (hB2:∀ b∈B,b<H.length/\∀ n,dl≠.buf 1 b n) :
 GT isV H p mo dl (os++[o]) (bs++B) (N++[⟨false,nm,0,ks⟩]) (T++[.mk nm ts]) vs:=by
 have hk:∀(i:Nat) (x:bu),N[i]? = some x->∀ a∈x.a,a<os.length:=fun i x hx a ha=>by
  have:=g.gn.kid i x hx a ha
  have:=aB hx
  rw[g.len];omega
 refine⟨by simp[g.len],?_,fun i x hx=>?_,fun i x hx=>?_,g.gn.snocC hv ha ht,g.pg,by rw[fF g.vs_lt];exact g.al,fun b n e hb=>?_,by rw[JX g.vs_lt g.len];exact g.mp,fun i x hx vx=>?_,fun i hi=>?_,fun q=>?_,fun b hb=>?_,by simp;have:=g.vl;omega,g.vn⟩
 ·rw[List.nodup_append]
  exact⟨g.nd,by simp,fun a ha b hb=>by simp at hb;subst hb;intro e;subst e;exact hn ha⟩
 ·rcases er hx with hx|⟨rfl,rfl⟩
  ·obtain⟨s,d,k1,k2,k3⟩:=g.ob i x hx
   exact⟨s,d,by rw[AM (by rw[g.len];exact aB hx)];exact k1,by rw[fF (hk i x hx)];exact k2,fun o n e=>List.mem_append_left _ (k3 o n e)⟩
  ·exact⟨s,d,by rw[<- g.len,rX];exact ho,by rw[fF fun a h=>by rw[g.len];exact ha a h];exact hd,fun o n e=>List.mem_append_right _ (hB o n e)⟩
 ·rcases er hx with hx|⟨rfl,rfl⟩
  ·exact g.sm i x hx
  ·exact h16
 ·rcases List.mem_append.1 hb with hb|hb
  ·exact g.lb b n e hb
  ·exact(hB2 b hb).2 n e
 ·rcases er hx with hx|⟨rfl,rfl⟩
  ·exact g.vs1 i x hx vx
  ·cases vx
 ·obtain⟨x,hx,vx⟩:=g.vs2 i hi
  exact⟨x,lB hx,vx⟩
 ·rcases List.mem_append.1 q with q|q
  ·exact g.np q
  ·simp at q;exact hp q.symm
 ·rcases List.mem_append.1 hb with hb|hb
  ·exact g.bb b hb
  ·exact(hB2 b hb).1
end Go.Proofs.YtenibcfppefobaaGreatDoor
set_option linter.all false
noncomputable section
namespace Go.Proofs.YtenibcfppefobaaGreatDoor
open Go.AI
def Cv(N N':List bu)(ks:List Nat):Prop:=∀ j,N.length<=j->j<N'.length->j∈ks\/∃(m:Nat) (x:bu),N'[m]? = some x/\j∈x.a
theorem Cv.refl(N:List bu)(ks:List Nat):Cv N N ks:=fun j h k=>(by omega)
theorem Cv.snoc{N0 N N1:List bu}{ks:List Nat}{i:Nat}(h:Cv N0 N ks)(k:Cv N N1 [i])(e:∃ X,N1=N++X):Cv N0 N1 (ks++[i]):=fun j h1 h2=>by
 rcases Nat.lt_or_ge j N.length with q|q
 ·rcases h j h1 q with h|⟨m,x,h,hx⟩
  ·exact .inl (List.mem_append_left _ h)
  ·obtain⟨X,rfl⟩:=e
   exact .inr ⟨m,x,by rw[List.getElem?_append_left (aB h),h],hx⟩
 ·rcases k j q h2 with h|h
  ·exact .inl (List.mem_append_right _ h)
  ·exact .inr h
theorem Cv.con{N0 N:List bu}{ks:List Nat}(h:Cv N0 N ks)(v:Bool)(n:ac)(o:Int):Cv N0 (N++[⟨v,n,o,ks⟩]) [N.length]:=fun j h1 h2=>by
 rcases Nat.lt_or_ge j N.length with q|q
 ·rcases h j h1 q with h|⟨m,x,h,hx⟩
  ·exact .inr ⟨N.length,⟨v,n,o,ks⟩,by simp,h⟩
  ·exact .inr ⟨m,x,by rw[List.getElem?_append_left (aB h),h],hx⟩
 ·simp at h2
  exact .inl (by simp;omega)
structure JK(H H':DH)(p mo:Nat)(dl dl':D)(os os' bs bs':List Nat)(N N':List bu)(T T':List Ty)(vs vs':List Nat)(k:Nat):Prop where
 eos:∃ X,os'=os++X/\∀ o∈X,H.length<=o
 ebs:∃ X,bs'=bs++X/\∀ o∈X,H.length<=o
 eN:∃ X,N'=N++X
 eT:∃ X,T'=T++X
 evs:∃ X,vs'=vs++X
 ek:N'.length<=N.length+k
 elen:H.length<=H'.length
 efr:∀ o:Nat,o<H.length->o≠p->o≠mo->(∀ n,dl≠.buf 1 o n)->H'[o]? = H[o]?
 edl:∀ b n,dl'=.buf 1 b n->(∃ n',dl=.buf 1 b n')\/H.length<=b
variable{isV:ac->Bool}{H H' H'':DH}{p mo:Nat}{dl dl' dl'':D}{os bs os' bs' os'' bs'':List Nat}{N N' N'':List bu}{T T' T'':List Ty}{vs vs' vs'':List Nat}
theorem JK.refl(H:DH)(p mo:Nat)(dl:D)(os bs:List Nat)(N:List bu)(T:List Ty)(vs:List Nat):JK H H p mo dl dl os os bs bs N N T T vs vs 0 :=
 ⟨⟨[],by simp,fun _ h=>nomatch h⟩,⟨[],by simp,fun _ h=>nomatch h⟩,⟨[],by simp⟩,⟨[],by simp⟩,⟨[],by simp⟩,Nat.le_refl _,Nat.le_refl _,fun _ _ _ _ _=>rfl,fun b n e=>.inl ⟨n,e⟩⟩
theorem JK.trans{k k':Nat}(h:JK H H' p mo dl dl' os os' bs bs' N N' T T' vs vs' k)(g:JK H' H'' p mo dl' dl'' os' os'' bs' bs'' N' N'' T' T'' vs' vs'' k'):JK H H'' p mo dl dl'' os os'' bs bs'' N N'' T T'' vs vs'' (k+k'):=by
 obtain⟨⟨X1,rfl,x1⟩,⟨X2,rfl,x2⟩,⟨X3,rfl⟩,⟨X4,rfl⟩,⟨X5,rfl⟩,a1,a2,a3,a4⟩:=h
 obtain⟨⟨Y1,rfl,y1⟩,⟨Y2,rfl,y2⟩,⟨Y3,rfl⟩,⟨Y4,rfl⟩,⟨Y5,rfl⟩,b1,b2,b3,b4⟩:=g
 refine⟨⟨X1++Y1,by simp,fun o ho=>?_⟩,⟨X2++Y2,by simp,fun o ho=>?_⟩,⟨X3++Y3,by simp⟩,⟨X4++Y4,by simp⟩,⟨X5++Y5,by simp⟩,by omega,by omega,fun o h1 h2 h3 h4=>?_,fun b n e=>?_⟩
 ·rcases List.mem_append.1 ho with ho|ho
  ·exact x1 o ho
  ·exact Nat.le_trans a2 (y1 o ho)
 ·rcases List.mem_append.1 ho with ho|ho
  ·exact x2 o ho
  ·exact Nat.le_trans a2 (y2 o ho)
 ·rw[b3 o (by omega) h2 h3 (fun n e=>?_),a3 o h1 h2 h3 h4]
  rcases a4 o n e with⟨n',e⟩|e
  ·exact h4 n' e
  ·omega
 ·rcases b4 b n e with⟨n',e⟩|e
  ·exact a4 b n' e
  ·exact .inr (by omega)
theorem VN(o c:Nat)(κ:D->ag):ay ab .eql 74 true (.ptr o c) .nilptr κ=κ (.bool false):=by kernel_rfl
theorem VO(κ:D->ag):ay ab .eql 74 true .nilptr .nilptr κ=κ (.bool true):=by kernel_rfl
theorem Rh(m:Nat)(s:ac)(H:DH)(κ:D->ag):eR ab 70 (.map m) (.str s) false H κ=jW H m fun es=>gR (.str s) es fun r=>dL ab 74 false r κ:=by kernel_rfl
theorem QU(m:Nat)(s:ac)(v:D)(H:DH)(κ:DH->ag):fM ab 70 (.map m) (.str s) v H κ=jW H m fun es=>gQ (.str s) v es fun es=>κ (H.set m (.map es)):=by kernel_rfl
theorem TG(κ:D->ag):dL ab 74 false none κ=κ .nilptr:=by kernel_rfl
theorem c5(s:ac)(n:Int)(κ:List D->ag):(ar [.bool true,.str s,.i 0,.nilrow,.nilptr] 2 [.i n] fun b=>ah 5 (.agg b) κ)=κ (fu true s n .nilrow .nilptr):=rfl
theorem Uk(n:Int)(κ:List D->ag):ah 1 (.i n) κ=κ [.i n]:=rfl
theorem Ul(s o n:Nat)(κ:List D->ag):ah 1 (.buf s o n) κ=κ [.buf s o n]:=rfl
theorem WA(mo:Nat)(d x:D)(κ:List D->ag):ar [.map mo,d] 1 [x] κ=κ [.map mo,x]:=rfl
theorem Qq{kind:ac->Int}(K:ua kind)(g:GT (fun n=>kind n==4) H p mo dl os bs N T vs){a:ac}(hv:(kind a==4)=true)(hN:N.length<1000000)(b:eA):∃ H' dl' os' N' T' vs' i,az 23 [.ptr p 0,.agg [.str a,.row 2 b]] H=ret (.ptr (oN os' i) 0) H'/\GT (fun n=>kind n==4) H' p mo dl' os' bs N' T' vs'/\T'[i]? = some (.mk a [])/\JK H H' p mo dl dl' os os' bs bs N N' T T' vs vs' 1/\Cv N N' [i]:=by
 obtain⟨s,hp⟩:=g.pg
 have base:∀ {κ:D->ag} {z},(∀ κ':D->ag,dL ab 74 false ((vs.find? fun v=>a==iS N v).map fun v=>.ptr (oN os v) 0) κ'=κ' z)->(eR ab 70 (.map mo) (.str a) false H κ)=κ z:=fun {κ z} h=>by
  rw[Rh,dz g.mp,gR,Lz]
  exact h κ
 cases hf:vs.find? fun v=>a==iS N v with
 |some v =>
  have hm:=List.mem_of_find?_eq_some hf
  have hq:=List.find?_some hf
  obtain⟨x,hx,vx⟩:=g.vs2 v hm
  have hn:x.n=a:=by
   have:a=iS N v:=by simpa using hq
   rw[this];simp[iS,hx]
  refine⟨H,dl,os,N,T,vs,v,ev (Vr) ?_,g,by rw[(g.gn.var v x hx vx).1,hn],?_,.refl _ _⟩
  ·rw[ao (jI K a H),hv]
   simp only[ck,Bool.not_true,ai,cond_false]
   rw[ae hp,aj,base (z:=.ptr (oN os v) 0) (fun κ'=>by rw[hf];rfl),VN]
   simp only[ai,cond_false]
  ·have e:=JK.refl H p mo dl os bs N T vs
   exact { e with ek:=by omega }
 |none =>
  have hlt:p<H.length:=aB hp
  have hmo:mo<H.length:=aB g.mp
  have hpm:p≠mo:=fun e=>by rw[e,g.mp]at hp;cases hp
  obtain⟨dl',H3,u1,u2,u3,u4,u5,u6⟩:=Ss (H:=(H++[DB.cells 0 (fu true a (vs.length:Nat) .nilrow .nilptr)]).set mo (DB.map (vM os N vs++[(D.str a,D.ptr H.length 0)]))) (d:=dl) (l:=vs.map (oN os)) (g.al.chg fun o n e=>by
   have:o<H.length:=by
    rcases g.al with⟨e',_⟩|⟨o',st,cp,e',hb⟩
    ·rw[e']at e;cases e
    ·rw[e']at e;cases e;exact aB hb
   rw[List.getElem?_set_ne (fun q=>by
    rcases g.al with⟨e',_⟩|⟨o',st,cp,e',hb⟩
    ·rw[e']at e;cases e
    ·rw[e']at e;cases e;rw[<- q,g.mp]at hb;cases hb),List.getElem?_append_left this]) (by rw[List.length_map];have:=g.vl;omega) H.length
  have hpl:∀ n,dl≠.buf 1 p n:=fun n e=>by
   rcases g.al with⟨e',_⟩|⟨o',st,cp,e',hb⟩
   ·rw[e']at e;cases e
   ·rw[e']at e;cases e;rw[hp]at hb;cases hb
  have hml:∀ n,dl≠.buf 1 mo n:=fun n e=>by
   rcases g.al with⟨e',_⟩|⟨o',st,cp,e',hb⟩
   ·rw[e']at e;cases e
   ·rw[e']at e;cases e;rw[g.mp]at hb;cases hb
  have hdl:∀ b n,dl=.buf 1 b n->b<H.length:=fun b n e=>by
   rcases g.al with⟨e',_⟩|⟨o',st,cp,e',hb⟩
   ·rw[e']at e;cases e
   ·rw[e']at e;cases e;exact aB hb
  have hlen2:((H++[DB.cells 0 (fu true a (vs.length:Nat) .nilrow .nilptr)]).set mo (DB.map (vM os N vs++[(D.str a,D.ptr H.length 0)]))).length=H.length+1:=by simp
  rw[hlen2]at u3 u4 u5
  have k3:∀ o,o<H.length->o≠mo->(∀ n,dl≠.buf 1 o n)->H3[o]? = H[o]?:=fun o h1 h2 h3=>by
   rw[u4 o (by omega) h3,List.getElem?_set_ne (fun q=>h2 q.symm),List.getElem?_append_left h1]
  have p3:H3[p]? = some (.cells s [.map mo,dl]):=by rw[k3 p hlt hpm hpl,hp]
  have m3:H3[mo]? = some (.map (vM os N vs++[(.str a,.ptr H.length 0)])):=by
   rw[u4 mo (by omega) hml]
   exact bC _ (jk g.mp)
  have n3:H3[H.length]? = some (.cells 0 (fu true a (vs.length:Nat) .nilrow .nilptr)):=by
   rw[u4 H.length (by omega) (fun n e=>by have:=hdl _ _ e;omega),List.getElem?_set_ne (by omega)]
   exact bD _ _
  have k4:∀ o,o<H.length->o≠p->o≠mo->(∀ n,dl≠.buf 1 o n)->(H3.set p (.cells (s+1) [.map mo,dl']))[o]? = H[o]?:=fun o h1 h2 h3 h4=>by
   rw[List.getElem?_set_ne (fun q=>h2 q.symm),k3 o h1 h3 h4]
  obtain⟨lb,ln,hdl',hlb⟩:=u5
  have hp3:p<H3.length:=aB p3
  have nb:∀ b n,dl'=.buf 1 b n->(∃ n',dl=.buf 1 b n')\/H.length+1<=b:=fun b n e=>by
   rw[hdl']at e;cases e;exact hlb
  have osl:∀ o∈os,o<H.length:=fun o ho=>by
   obtain⟨i,hi⟩:=List.getElem?_of_mem ho
   have hl:=aB hi
   obtain⟨s,d,h1,_⟩:=g.ob i _ (List.getElem?_eq_getElem (by rw[<- g.len];exact hl))
   rw[show oN os i=o by unfold oN;rw[hi];rfl]at h1
   exact aB h1
  have osk:∀ o∈os,(H3.set p (.cells (s+1) [.map mo,dl']))[o]? = H[o]?:=fun o ho=>by
   obtain⟨i,hi⟩:=List.getElem?_of_mem ho
   have hl:=aB hi
   obtain⟨s',d,h1,_⟩:=g.ob i _ (List.getElem?_eq_getElem (by rw[<- g.len];exact hl))
   rw[show oN os i=o by unfold oN;rw[hi];rfl]at h1
   refine k4 o (osl o ho) (fun q=>g.np (q▸ho)) (fun q=>by rw[q,g.mp]at h1;cases h1) fun n e=>?_
   rcases g.al with⟨e',_⟩|⟨o',st,cp,e',hb⟩
   ·rw[e']at e;cases e
   ·rw[e']at e;cases e;rw[h1]at hb;cases hb
  have bsk:∀ o∈bs,(∀(i:Nat) (x:bu) d n,d=D.buf 1 o n->True)->True:=fun _ _ _=>trivial
  have fresh:∀(i:Nat) (x:bu),N[i]? = some x->x.v=true->x.n≠a:=fun i x hx vx e=>by
   have hi:=g.vs1 i x hx vx
   have:=List.find?_eq_none.1 hf i hi
   simp[iS,hx,e]at this
  refine⟨H3.set p (.cells (s+1) [.map mo,dl']),dl',os++[H.length],N++[⟨true,a,(vs.length:Nat),[]⟩],T++[.mk a []],vs++[N.length],N.length,ev (Vr) ?_,?_,by rw[<- g.gn.len];simp,?_,(Cv.refl N []).con true a (vs.length:Nat)⟩
  ·rw[ao (jI K a H),hv]
   simp only[ck,Bool.not_true,ai,cond_false]
   rw[ae hp,aj,base (z:=.nilptr) (fun κ'=>by rw[hf];exact TG κ'),VO]
   simp only[ai,cond_true]
   rw[ae hp,aA,aj,g.al.len,List.length_map,Uk,c5]
   have hp2:(H++[DB.cells 0 (fu true a (vs.length:Nat) .nilrow .nilptr)])[p]? = some (.cells s [.map mo,dl]):=jk hp
   rw[ae hp2,aj,QU,dz (jk g.mp),gQ,Lx os N a _ vs hf]
   dsimp only
   rw[ae (am _ (fun q=>hpm q.symm) hp2),aA,aj,u1,hdl',Ul,ae p3,WA,<- hdl']
   rw[<- g.len,rX]
  ·refine⟨by simp[g.len],?_,fun i x hx=>?_,fun i x hx=>?_,g.gn.snocV hv fresh,⟨s+1,bC _ p3⟩,?_,fun b n e hb=>?_,?_,fun i x hx vx=>?_,fun i hi=>?_,fun q=>?_,fun b hb=>?_,by simp;exact g.vl,?_⟩
   ·rw[List.nodup_append]
    exact⟨g.nd,by simp,fun a ha b hb=>by simp at hb;subst hb;intro e;have:=osl a ha;omega⟩
   ·rcases er hx with hx|⟨rfl,rfl⟩
    ·obtain⟨s',d,h1,h2,h3⟩:=g.ob i x hx
     have hi:i<os.length:=by rw[g.len];exact aB hx
     refine⟨s',d,by rw[AM hi,osk _ (AL hi)];exact h1,?_,h3⟩
     have hk:∀ a∈x.a,a<os.length:=fun a ha=>by
      have:=g.gn.kid i x hx a ha
      omega
     rw[fF hk]
     rcases h2 with⟨rfl,e⟩|⟨b,st,cp,rfl,hb⟩
     ·exact .inl ⟨rfl,e⟩
     ·refine .inr ⟨b,st,cp,rfl,?_⟩
      rw[k4 b (aB hb) (fun q=>by rw[q,hp]at hb;cases hb) (fun q=>by rw[q,g.mp]at hb;cases hb) (fun n e=>g.lb b n e (h3 b _ rfl)),hb]
    ·refine⟨0,.nilrow,?_,.inl ⟨rfl,rfl⟩,fun _ _ e=>by cases e⟩
     rw[<- g.len,rX,List.getElem?_set_ne (by omega)]
     exact n3
   ·rcases er hx with hx|⟨rfl,rfl⟩
    ·exact g.sm i x hx
    ·exact Nat.zero_le _
   ·rw[List.map_append,fF g.vs_lt]
    have:List.map (oN (os++[H.length])) [N.length]=[H.length]:=by rw[<- g.len];simp[rX]
    rw[this]
    refine u2.chg fun o n e=>List.getElem?_set_ne fun q=>?_
    subst q
    rcases nb p n e with⟨n',e⟩|e
    ·exact hpl n' e
    ·omega
   ·rcases nb b n e with⟨n',e⟩|e
    ·exact g.lb b n' e hb
    ·have:=g.bb b hb;omega
   ·rw[List.getElem?_set_ne hpm,m3]
    congr 2
    unfold vM
    rw[List.map_append]
    have e1:=JX (os':=[H.length]) (N':=[⟨true,a,(vs.length:Nat),[]⟩]) g.vs_lt g.len
    unfold vM at e1
    rw[e1]
    congr 1
    simp[iS,<- g.len,rX]
   ·rcases er hx with hx|⟨rfl,rfl⟩
    ·exact List.mem_append_left _ (g.vs1 i x hx vx)
    ·simp
   ·rcases List.mem_append.1 hi with hi|hi
    ·obtain⟨x,hx,vx⟩:=g.vs2 i hi
     exact⟨x,lB hx,vx⟩
    ·simp at hi;subst hi
     exact⟨⟨true,a,(vs.length:Nat),[]⟩,by simp,rfl⟩
   ·rcases List.mem_append.1 q with q|q
    ·exact g.np q
    ·simp at q;omega
   ·have:=g.bb b hb
    simp;omega
   ·rw[List.nodup_append]
    exact⟨g.vn,by simp,fun a ha b hb=>by simp at hb;subst hb;intro e;have:=g.vs_lt a ha;rw[g.len]at this;omega⟩
  ·refine⟨⟨[H.length],rfl,fun o ho=>by simp at ho;omega⟩,⟨[],by simp,fun _ h=>nomatch h⟩,⟨_,rfl⟩,⟨_,rfl⟩,⟨_,rfl⟩,by simp,by simp;omega,k4,fun b n e=>?_⟩
   rcases nb b n e with h|h
   ·exact .inl h
   ·exact .inr (by omega)
end Go.Proofs.YtenibcfppefobaaGreatDoor
set_option linter.all false
noncomputable section
namespace Go.Proofs.YtenibcfppefobaaGreatDoor
open Go.AI
mutual
def yC(isV:ac->Bool):Ty->Prop
 |.mk n xs=>xs.length<=16/\(isV n=true->xs=[])/\tN isV xs
def tN(isV:ac->Bool):List Ty->Prop
 |[]=>True
 |t::r=>yC isV t/\tN isV r
end
theorem HT(o c:Nat)(κ:List D->ag):ah 1 (.ptr o c) κ=κ [.ptr o c]:=rfl
theorem UK(v:Bool)(n:ac)(o:Int)(d k x:D)(κ:List D->ag):ar (fu v n o d k) 3 [x] κ=κ (fu v n o x k):=rfl
theorem bK.lt{H:DH}{d:D}{l:List Nat}(h:bK H d l){b n:Nat}(e:d=.buf 1 b n):b<H.length/\∃ st cp l,H[b]? = some (.buf 1 st cp l):=by
 rcases h with⟨rfl,_⟩|⟨o',st,cp,rfl,hb⟩
 ·cases e
 ·cases e;exact⟨aB hb,_,_,_,hb⟩
structure Wd(isV:ac->Bool)(H0 H:DH)(p mo o s:Nat)(nm:ac)(d dl0 dl:D)(os0 os bs0 bs:List Nat)(N0 N:List bu)(T0 T:List Ty)(vs0 vs ks:List Nat)(pre:List Ty)(k:Nat):Prop where
 g:GT isV H p mo dl os bs N T vs
 e:JK H0 H p mo dl0 dl os0 os bs0 bs N0 N T0 T vs0 vs k
 ho:H[o]? = some (.cells s (fu false nm 0 d .nilptr))
 hd:bK H d (ks.map (oN os))
 ha:∀ a∈ks,a<N.length
 ht:ks.map (fun a=>T[a]?)=pre.map some
 no:o∉os
 nb:o∉bs
 np:o≠p
 o0:H0.length<=o
 b1:∀ b n,d=.buf 1 b n->b∉bs/\H0.length<=b/\∀ n,dl≠.buf 1 b n
 cv:Cv N0 N ks
mutual
theorem GP{kind:ac->Int}(K:ua kind):∀(t:Ty) (H:DH) (p mo:Nat) (dl:D) (os bs:List Nat) (N:List bu) (T:List Ty) (vs:List Nat),GT (fun n=>kind n==4) H p mo dl os bs N T vs->yC (fun n=>kind n==4) t->N.length+bL t<1000000 ->
 ∃ H' dl' os' bs' N' T' vs' i,az 23 [.ptr p 0,.agg (cu t)] H=ret (.ptr (oN os' i) 0) H'/\GT (fun n=>kind n==4) H' p mo dl' os' bs' N' T' vs'/\T'[i]? = some t/\JK H H' p mo dl dl' os os' bs bs' N N' T T' vs vs' (bL t)/\Cv N N' [i]
 |.mk n xs,H,p,mo,dl,os,bs,N,T,vs,g,hw,hN=>by
  simp only[yC]at hw
  obtain⟨w1,w2,w3⟩:=hw
  simp only[bL]at hN
  cases hv:kind n==4 with
  |true =>
   obtain rfl:=w2 hv
   obtain⟨H',dl',os',N',T',vs',i,r1,r2,r3,r4,r5⟩:=Qq K g hv (by omega) (aI [])
   exact⟨H',dl',os',bs,N',T',vs',i,r1,r2,r3,by simpa[bL,bL.tszs]using r4,r5⟩
  |false =>
   have hl:∀ o∈os,o<H.length:=fun o ho=>by
    obtain⟨i,hi⟩:=List.getElem?_of_mem ho
    obtain⟨s,d,h1,_⟩:=g.ob i _ (List.getElem?_eq_getElem (by rw[<- g.len];exact aB hi))
    rw[show oN os i=o by unfold oN;rw[hi];rfl]at h1
    exact aB h1
   obtain⟨s,hp⟩:=g.pg
   have g':GT (fun n=>kind n==4) (H++[.cells 0 (fu false n 0 .nilrow .nilptr)]) p mo dl os bs N T vs :=
    g.chg (fun o ho=>List.getElem?_append_left (hl o ho)) (fun o ho=>List.getElem?_append_left (g.bb o ho)) ⟨s,jk hp⟩ (fun o n e=>List.getElem?_append_left (g.al.lt e).1) (List.getElem?_append_left (aB g.mp)) (by simp)
   have e0:=JK.refl H p mo dl os bs N T vs
   have e':JK H (H++[.cells 0 (fu false n 0 .nilrow .nilptr)]) p mo dl dl os os bs bs N N T T vs vs 0:={ e0 with elen:=by simp,efr:=fun o ho _ _ _=>List.getElem?_append_left ho }
   have I:Wd (fun n=>kind n==4) H (H++[.cells 0 (fu false n 0 .nilrow .nilptr)]) p mo H.length 0 n .nilrow dl dl os os bs bs N N T T vs vs [] [] 0 :=
    ⟨g',e',bD _ _,.inl ⟨rfl,rfl⟩,fun _ h=>(nomatch h),rfl,fun h=>Nat.lt_irrefl _ (hl _ h),fun h=>Nat.lt_irrefl _ (g.bb _ h),fun q=>by have:=aB hp;omega,Nat.le_refl _,fun _ _ e=>(by cases e),.refl _ _⟩
   obtain⟨H',dl',os',bs',N',T',vs',i,r1,r2,r3,r4,r5⟩:=yG K n hv xs w1 xs [] H _ p mo H.length 0 .nilrow dl dl os os bs bs N N T T vs vs [] 0 I rfl w3 (by omega)
   have hk:0+(1+bL.tszs xs)=bL (.mk n xs):=by simp only[bL];omega
   rw[hk]at r4
   refine⟨H',dl',os',bs',N',T',vs',i,ev (by simp only[cu];exact Vr) ?_,r2,r3,r4,r5⟩
   rw[ao (jI K n H),hv]
   simp only[ck,Bool.not_false,ai,cond_true]
   rw[bf]
   exact r1
theorem yG{kind:ac->Int}(K:ua kind)(nm:ac)(hv:(kind nm==4)=false)(xs:List Ty)(h16:xs.length<=16):∀(l pre:List Ty) (H0 H:DH) (p mo o s:Nat) (d dl0 dl:D) (os0 os bs0 bs:List Nat) (N0 N:List bu) (T0 T:List Ty) (vs0 vs ks:List Nat) (k:Nat),
 Wd (fun n=>kind n==4) H0 H p mo o s nm d dl0 dl os0 os bs0 bs N0 N T0 T vs0 vs ks pre k->xs=pre++l->tN (fun n=>kind n==4) l->N.length+bL.tszs l<1000000 ->
 ∃ H' dl' os' bs' N' T' vs' i,af ak 23 200004 [.g (.ptr p 0),.g (.ptr o 0),.g (.row 2 (aI xs)),.n (xs.length:Nat),.n (pre.length:Nat)] [] H=ret (.ptr (oN os' i) 0) H'/\GT (fun n=>kind n==4) H' p mo dl' os' bs' N' T' vs'/\T'[i]? = some (.mk nm xs)/\JK H0 H' p mo dl0 dl' os0 os' bs0 bs' N0 N' T0 T' vs0 vs' (k+(1+bL.tszs l))/\Cv N0 N' [i]
 |[],pre,H0,H,p,mo,o,s,d,dl0,dl,os0,os,bs0,bs,N0,N,T0,T,vs0,vs,ks,k,I,e,hw,hN=>by
  have hks:ks.length=pre.length:=by have:=congrArg List.length I.ht;simpa using this
  have hxs:xs=pre:=by rw[e];simp
  obtain⟨B,hB1,hB2⟩:∃ B:List Nat,(∀ b n,d=.buf 1 b n->b∈B)/\∀ b∈B,∃ n,d=.buf 1 b n:=by
   rcases I.hd with⟨rfl,_⟩|⟨b,st,cp,rfl,hb⟩
   ·exact⟨[],(fun _ _ e=>by cases e),(fun _ h=>nomatch h)⟩
   ·exact⟨[b],⟨fun _ _ e=>by cases e;simp,fun b' h=>by simp at h;subst h;exact⟨_,rfl⟩⟩⟩
  have g2:=I.g.snocC (o:=o) hv I.ho I.hd I.no I.np I.ha (by rw[hks,<- hxs];exact h16) I.ht hB1 fun b hb=>by
   obtain⟨n,e⟩:=hB2 b hb
   exact⟨(I.hd.lt e).1,(I.b1 b n e).2.2⟩
  refine⟨H,dl,os++[o],bs++B,_,_,vs,N.length,ez (wR) ?_,g2,by rw[<- I.g.gn.len,hxs];simp,?_,I.cv.con false nm 0⟩
  ·have hlt:decide ((pre.length:Int)<(xs.length:Int))=false:=by rw[hxs];simp
   rw[hlt,cond_false,<- I.g.len,rX]
  ·obtain⟨⟨X1,q1,x1⟩,⟨X2,q2,x2⟩,⟨X3,q3⟩,⟨X4,q4⟩,q5,q6,q7,q8,q9⟩:=I.e
   refine⟨⟨X1++[o],by rw[q1];simp,fun o' ho'=>?_⟩,⟨X2++B,by rw[q2];simp,fun b hb=>?_⟩,⟨X3++[⟨false,nm,0,ks⟩],by rw[q3];simp⟩,⟨X4++[.mk nm pre],by rw[q4];simp⟩,q5,by simp[bL.tszs];omega,q7,q8,q9⟩
   ·rcases List.mem_append.1 ho' with h|h
    ·exact x1 o' h
    ·simp at h;rw[h];exact I.o0
   ·rcases List.mem_append.1 hb with h|h
    ·exact x2 b h
    ·obtain⟨n,e⟩:=hB2 b h
     exact(I.b1 b n e).2.1
 |t::l,pre,H0,H,p,mo,o,s,d,dl0,dl,os0,os,bs0,bs,N0,N,T0,T,vs0,vs,ks,k,I,e,hw,hN=>by
  simp only[tN]at hw
  simp only[bL.tszs]at hN
  obtain⟨H1,dl1,os1,bs1,N1,T1,vs1,i,r1,g1,r3,e1,c1⟩:=GP K t H p mo dl os bs N T vs I.g hw.1 (by omega)
  have hks:ks.length=pre.length:=by have:=congrArg List.length I.ht;simpa using this
  have hxl:xs.length=pre.length+(l.length+1):=by rw[e];simp
  have hoH:=aB I.ho
  have omo:o≠mo:=fun q=>by have:=I.ho;rw[q,I.g.mp]at this;cases this
  have dlo:∀ n,dl≠.buf 1 o n:=fun n q=>by obtain⟨_,st,cp,l,hb⟩:=I.g.al.lt q;rw[I.ho]at hb;cases hb
  have o1:H1[o]? = some (.cells s (fu false nm 0 d .nilptr)):=by rw[e1.efr o hoH I.np omo dlo,I.ho]
  have dk:∀ b n,d=.buf 1 b n->H1[b]? = H[b]?/\b<H.length:=fun b n q=>by
   obtain⟨hbl,st,cp,l,hb⟩:=I.hd.lt q
   obtain⟨s',hp⟩:=I.g.pg
   exact⟨e1.efr b hbl (fun q'=>by rw[q',hp]at hb;cases hb) (fun q'=>by rw[q',I.g.mp]at hb;cases hb) (I.b1 b n q).2.2,hbl⟩
  have hko:∀ a∈ks,a<os.length:=fun a h=>by rw[I.g.len];exact I.ha a h
  have osm:ks.map (oN os1)=ks.map (oN os):=by
   obtain⟨X,q,_⟩:=e1.eos
   rw[q];exact fF hko
  have d1:bK H1 d (ks.map (oN os1)):=by rw[osm];exact I.hd.chg fun b n q=>(dk b n q).1
  obtain⟨d2,H2,u1,u2,u3,u4,⟨b2,n2,hd2,hb2⟩,u6⟩:=Ss d1 (by rw[List.length_map];omega) (oN os1 i)
  have kp:∀ x:Nat,x<H1.length->(∀ n,d≠.buf 1 x n)->x≠o->(H2.set o (.cells (s+1) (fu false nm 0 d2 .nilptr)))[x]? = H1[x]?:=fun x h1 h2 h3=>by
   rw[List.getElem?_set_ne (fun q=>h3 q.symm),u4 x h1 h2]
  have o2:H2[o]? = some (.cells s (fu false nm 0 d .nilptr)):=by
   rw[u4 o (aB o1) (fun n q=>by obtain⟨_,st,cp,l,hb⟩:=I.hd.lt q;rw[I.ho]at hb;cases hb),o1]
  have no1:o∉os1:=fun h=>by
   obtain⟨X,q,x⟩:=e1.eos
   rw[q]at h
   rcases List.mem_append.1 h with h|h
   ·exact I.no h
   ·have:=x o h;omega
  have nb1:o∉bs1:=fun h=>by
   obtain⟨X,q,x⟩:=e1.ebs
   rw[q]at h
   rcases List.mem_append.1 h with h|h
   ·exact I.nb h
   ·have:=x o h;omega
  have db:∀ b n,d=.buf 1 b n->b∉bs1:=fun b n q h=>by
   obtain⟨X,q',x⟩:=e1.ebs
   rw[q']at h
   rcases List.mem_append.1 h with h|h
   ·exact(I.b1 b n q).1 h
   ·have:=x b h;have:=(dk b n q).2;omega
  have dd:∀ b n,d=.buf 1 b n->∀ n',dl1≠.buf 1 b n':=fun b n q n' q'=>by
   rcases e1.edl b n' q' with⟨n2,h⟩|h
   ·exact(I.b1 b n q).2.2 n2 h
   ·have:=(dk b n q).2;omega
  obtain⟨sp,hp1⟩:=g1.pg
  have cellsNe:∀ x:Nat,(∃ s c,H1[x]? = some (.cells s c))->∀ n,d≠.buf 1 x n:=fun x ⟨s,c,h⟩ n q=>by
   obtain⟨_,st,cp,l,hb⟩:=d1.lt q
   rw[h]at hb;cases hb
  have osc:∀ x∈os1,∃ s c,H1[x]? = some (.cells s c):=fun x hx=>by
   obtain⟨j,hj⟩:=List.getElem?_of_mem hx
   obtain⟨s,d,h1,_⟩:=g1.ob j _ (List.getElem?_eq_getElem (by rw[<- g1.len];exact aB hj))
   rw[show oN os1 j=x by unfold oN;rw[hj];rfl]at h1
   exact⟨s,_,h1⟩
  have g2:GT (fun n=>kind n==4) (H2.set o (.cells (s+1) (fu false nm 0 d2 .nilptr))) p mo dl1 os1 bs1 N1 T1 vs1:=by
   refine g1.chg (fun x hx=>?_) (fun x hx=>?_) ⟨sp,?_⟩ (fun x n q=>?_) ?_ (by simp;exact u3)
   ·obtain⟨s,c,h⟩:=osc x hx
    exact kp x (aB h) (cellsNe x ⟨s,c,h⟩) fun q=>no1 (q▸hx)
   ·exact kp x (g1.bb x hx) (fun n q=>db x n q hx) fun q=>nb1 (q▸hx)
   ·rw[kp p (aB hp1) (cellsNe p ⟨_,_,hp1⟩) fun q=>I.np q.symm,hp1]
   ·obtain⟨h1,st,cp,l,hb⟩:=g1.al.lt q
    exact kp x h1 (fun n' q'=>dd x n' q' n q) fun q'=>by rw[q',o1]at hb;cases hb
   ·exact kp mo (aB g1.mp) (fun n q=>by obtain⟨_,st,cp,l,hb⟩:=d1.lt q;rw[g1.mp]at hb;cases hb) fun q=>omo q.symm
  have i1:i<N1.length:=by rw[<- g1.gn.len];exact aB r3
  have I2:Wd (fun n=>kind n==4) H0 (H2.set o (.cells (s+1) (fu false nm 0 d2 .nilptr))) p mo o (s+1) nm d2 dl0 dl1 os0 os1 bs0 bs1 N0 N1 T0 T1 vs0 vs1 (ks++[i]) (pre++[t]) (k+bL t):=by
   have e2:=I.e.trans e1
   refine⟨g2,{ e2 with elen:=by have:=e2.elen;simp;omega,efr:=fun x h1 h2 h3 h4=>?_ },bC _ o2,?_,fun a h=>?_,?_,no1,nb1,I.np,I.o0,fun b n q=>?_,I.cv.snoc c1 e1.eN⟩
   ·have l0:=I.e.elen
    have l1:=e1.elen
    have l2:=I.o0
    rw[kp x (by omega) (fun n q=>by have:=(I.b1 x n q).2.1;omega) (by omega),e2.efr x h1 h2 h3 h4]
   ·rw[List.map_append]
    refine bK.chg (H:=H2) u2 fun b n q=>List.getElem?_set_ne fun q'=>?_
    obtain⟨_,st,cp,l,hb⟩:=u2.lt q
    rw[<- q',o2]at hb;cases hb
   ·rcases List.mem_append.1 h with h|h
    ·obtain⟨X,q⟩:=e1.eN
     have:=I.ha a h
     rw[q];simp;omega
    ·simp at h;rw[h];exact i1
   ·obtain⟨X,q⟩:=e1.eT
    rw[List.map_append,List.map_append]
    congr 1
    ·rw[<- I.ht,q]
     refine List.map_congr_left fun a ha=>List.getElem?_append_left ?_
     rw[I.g.gn.len];exact I.ha a ha
    ·simp[r3]
   ·rw[hd2]at q;cases q
    rcases hb2 with⟨n',q⟩|q
    ·exact⟨db _ n' q,(I.b1 _ n' q).2.1,dd _ n' q⟩
    ·refine⟨fun h=>by have:=g1.bb _ h;omega,by have:=I.e.elen;have:=e1.elen;omega,fun n q'=>?_⟩
     have:=(g1.al.lt q').1
     omega
  obtain⟨H',dl',os',bs',N',T',vs',j,w1,w2,w3,w4,w5⟩:=yG K nm hv xs h16 l (pre++[t]) H0 _ p mo o (s+1) d2 dl0 dl1 os0 os1 bs0 bs1 N0 N1 T0 T1 vs0 vs1 (ks++[i]) (k+bL t) I2 (by rw[e];simp) hw.2 (by have:=e1.ek;omega)
  have hk:k+(1+bL.tszs (t::l))=k+bL t+(1+bL.tszs l):=by simp only[bL.tszs];omega
  refine⟨H',dl',os',bs',N',T',vs',j,ez (wR) ?_,w2,w3,(by rw[hk];exact w4),w5⟩
  have hlt:decide ((pre.length:Int)<(xs.length:Int))=true:=by rw[hxl];simp;omega
  have h2:(aI xs)[pre.length]? = some (cu t):=by rw[e];exact iu _ _ _
  have hw2:cS ((pre.length:Int)+1)=(((pre++[t]).length:Nat):Int):=by
   rw[bE (by omega)];simp
  obtain⟨tn,ts⟩:=t
  simp only[cu]at h2 r1
  rw[hlt,cond_true,bH,bt h2]
  simp only[aj,aA]
  rw[Ph r1,ae (nj o1 (fun H3 h=>by simp at h;subst h;exact I.ho))]
  simp only[fu,aj,aA]
  rw[HT,u1,hd2,Ul,ae o2,UK,<- hd2,hw2]
  exact w1
end
end Go.Proofs.YtenibcfppefobaaGreatDoor
set_option linter.all false
noncomputable section
namespace Go.Proofs.YtenibcfppefobaaGreatDoor
open Go.AI
def oi(kind:ac->Int)(n:ac)(k:Nat):Bool:=if n==[73,110,116] then k==0 else if n==[45,62] then k==2 else if n==[44] then decide (2<=k)&&decide (k<=4)else if kind n==4&&k==0 then true else kind n==3&&decide (k<=16)
mutual
def lX(kind:ac->Int)(d:Nat):Ty->Nat->Option Nat
 |.mk n xs,c=>if oi kind n xs.length=true/\c+1<=2000/\d<=100 then iZ kind (d+1) xs (c+1)else none
def iZ(kind:ac->Int)(d:Nat):List Ty->Nat->Option Nat
 |[],c=>some c
 |t::r,c=>match lX kind d t c with
  |some c'=>iZ kind d r c'
  |none=>none
end
def BW(H:DH)(p:Nat)(x:D)(t:Ty):Prop:=x=.eptr (cu t) 0\/∃ o s,x=.ptr o 0/\o≠p/\H[o]? = some (.cells s (cu t))
theorem WD(cs:List D)(c:Nat)(H:DH)(κ:D->ag):eZ ab 9 (.eptr cs c) H κ=aF cs c κ:=by kernel_rfl
theorem UT(o c:Nat)(H:DH)(κ:D->ag):eZ ab 9 (.ptr o c) H κ=aG H o fun _ cs=>aF cs c κ:=by kernel_rfl
theorem UV(cs:List D)(c:Nat)(H:DH)(κ:D->ag):eZ ab 22 (.eptr cs c) H κ=aF cs c κ:=by kernel_rfl
theorem UU(o c:Nat)(H:DH)(κ:D->ag):eZ ab 22 (.ptr o c) H κ=aG H o fun _ cs=>aF cs c κ:=by kernel_rfl
theorem BW.n{H:DH}{p:Nat}{x:D}{n:ac}{xs:List Ty}(h:BW H p x (.mk n xs))(κ:D->ag):(eD x fun a=>dt a 0 fun a=>eZ ab 9 a H κ)=κ (.str n):=by
 rcases h with rfl|⟨o,s,rfl,_,h⟩
 ·simp only[eD,dt,WD,cu,Nat.add_zero,aj]
 ·simp only[eD,dt,UT,Nat.add_zero,ae h,cu,aj]
theorem BW.a{H:DH}{p:Nat}{x:D}{n:ac}{xs:List Ty}(h:BW H p x (.mk n xs))(κ:D->ag):(eD x fun a=>dt a 1 fun a=>eZ ab 22 a H κ)=κ (.row 2 (aI xs)):=by
 rcases h with rfl|⟨o,s,rfl,_,h⟩
 ·simp only[eD,dt,UV,cu,Nat.zero_add,aj,aA]
 ·simp only[eD,dt,UU,Nat.zero_add,ae h,cu,aj,aA]
theorem BW.set{H:DH}{p:Nat}{x:D}{t:Ty}(h:BW H p x t)(y:DB):BW (H.set p y) p x t:=by
 rcases h with rfl|⟨o,s,rfl,hn,h⟩
 ·exact .inl rfl
 ·exact .inr ⟨o,s,rfl,hn,by rw[List.getElem?_set_ne (fun q=>hn q.symm),h]⟩
theorem PR(l:eA)(H:DH)(κ:D->ag):eC ab 22 (.row 2 l) H κ=κ (.i l.length):=by kernel_rfl
theorem Wv:ab.underlying 22=some (.slice 27):=by kernel_rfl
theorem Uu:size ab 27=some 2:=by kernel_rfl
theorem Vg{l:eA}{i:Nat}{cs:List D}(h:l[i]? = some cs)(κ:D->ag):cE ab 22 (.row 2 l) (.i i) κ=κ (.eptr cs 0):=by
 rw[cE,Wv]
 simp only[Uu,FC,Nat.beq_refl,cond_true,bH,bt h]
theorem tc{n:Nat}(h:n<2^62):cS ((n:Int)+1)=((n+1:Nat):Int):=bE h
mutual
theorem LY{kind:ac->Int}(K:ua kind):∀(t:Ty) (H:DH) (x:D) (d c p s:Nat),BW H p x t->H[p]? = some (.cells s [.i (c:Nat)])->c<=2000->d<=101->t.ok ->
 ∃ s' c':Nat,az 22 [x,.i (d:Nat),.ptr p 0] H=ret (.bool (lX kind d t c).isSome) (H.set p (.cells s' [.i (c':Nat)]))/\∀ k,lX kind d t c=some k->c'=k/\k<=2000
 |.mk n xs,H,x,d,c,p,s,hx,hp,hc,hd,hok=>by
  simp only[Ty.ok]at hok
  have hx1:=hx.set (.cells (s+1) [.i ((c+1:Nat):Int)])
  have hp1:=bC (.cells (s+1) [.i ((c+1:Nat):Int)]) hp
  have hl:(aI xs).length=xs.length:=bf xs
  have o1:∀(v w:Int) (κ:List D->ag),ar [D.i v] 0 [.i w] κ=κ [.i w]:=fun _ _ _=>rfl
  have f1:∀ z,af ak 22 12 [.g x,.n (d:Nat),.g (.ptr p 0),.g (.bool (oi kind n xs.length))] [] (H.set p (.cells (s+1) [.i ((c+1:Nat):Int)]))=z->az 22 [x,.i (d:Nat),.ptr p 0] H=z:=fun z hz=>by
   refine ev (WZ) ?_
   rw[ae hp,aj,dD,tc (by omega),Uk,ae hp,o1]
   dsimp only
   rw[hx1.a,PR,hx1.n,hl,<- hz,kL]
   unfold oi
   by_cases e1:n=[73,110,116]
   ·have:(n==[73,110,116])=true:=by rw[e1];rfl
    simp only[this,ai,cond_true,if_true,bJ]
    rw[show(((xs.length:Nat):Int)==0)=(xs.length==0)from by rw[Bool.eq_iff_iff];simp]
   ·have:(n==[73,110,116])=false:=by simpa using e1
    rw[this]
    simp only[ai,cond_false,Bool.false_eq_true,if_false,kL]
    by_cases e2:n=[45,62]
    ·have:(n==[45,62])=true:=by rw[e2];rfl
     simp only[this,ai,cond_true,if_true,bJ]
     rw[show(((xs.length:Nat):Int)==2)=(xs.length==2)from by rw[Bool.eq_iff_iff];simp;omega]
    ·have:(n==[45,62])=false:=by simpa using e2
     rw[this]
     simp only[ai,cond_false,Bool.false_eq_true,if_false]
     by_cases e3:n=[44]
     ·have:(n==[44])=true:=by rw[e3];rfl
      simp only[this,ai,cond_true,if_true,uD,Ib]
      by_cases e4:2<=xs.length
      ·have h1:decide ((xs.length:Int)>=2)=true:=by simp;omega
       have h2:decide (2<=xs.length)=true:=by simpa using e4
       rw[h1,h2]
       simp only[cond_true,Bool.true_and]
       rw[show decide (((xs.length:Nat):Int)<=4)=decide (xs.length<=4)from by rw[Bool.eq_iff_iff];simp;omega]
      ·have h1:decide ((xs.length:Int)>=2)=false:=by simp;omega
       have h2:decide (2<=xs.length)=false:=by simpa using e4
       rw[h1,h2]
       simp only[cond_false,Bool.false_and]
     ·have:(n==[44])=false:=by simpa using e3
      rw[this]
      simp only[ai,cond_false,Bool.false_eq_true,if_false]
      rw[hx1.n,ao (jI K n _)]
      have c2:(eD x fun b=>dt b 0 fun b=>eZ ab 9 b (H.set p (.cells (s+1) [.i ((c+1:Nat):Int)])) fun b=>C ak 55 [b] (H.set p (.cells (s+1) [.i ((c+1:Nat):Int)])) fun b H_1=>brD b (ay ab .leq 3 true (.i (xs.length:Nat)) (.i 16) fun a=>af ak 22 12 [.g x,.n (d:Nat),.g (.ptr p 0),.g a] [] H_1) (af ak 22 12 [.g x,.n (d:Nat),.g (.ptr p 0),.g (.bool false)] [] H_1))=af ak 22 12 [.g x,.n (d:Nat),.g (.ptr p 0),.g (.bool (kind n==3&&decide (xs.length<=16)))] [] (H.set p (.cells (s+1) [.i ((c+1:Nat):Int)])):=by
       rw[hx1.n,ao (OC K n _),ai,Ib]
       cases kind n==3 with
       |false=>simp only[cond_false,Bool.false_and]
       |true =>
        simp only[cond_true,Bool.true_and]
        rw[show decide (((xs.length:Nat):Int)<=16)=decide (xs.length<=16)from by rw[Bool.eq_iff_iff];simp;omega]
      cases hv:kind n==4 with
      |false =>
       simp only[ai,cond_false,Bool.false_and,Bool.false_eq_true,if_false]
       exact c2
      |true =>
       simp only[ai,cond_true,Bool.true_and,bJ]
       by_cases e4:xs.length=0
       ·have h1:(((xs.length:Nat):Int)==0)=true:=by simp[e4]
        have h2:(xs.length==0)=true:=by simp[e4]
        rw[h1,h2]
        simp only[cond_true,if_true]
       ·have h1:(((xs.length:Nat):Int)==0)=false:=by simp;intro q;rw[q]at e4;exact e4 rfl
        have h2:(xs.length==0)=false:=by simp;intro q;rw[q]at e4;exact e4 rfl
        rw[h1,h2]
        simp only[cond_false,Bool.false_eq_true,if_false]
        exact c2
  unfold lX
  by_cases h1:oi kind n xs.length=true
  ·by_cases h2:c+1<=2000
   ·by_cases h3:d<=100
    ·rw[if_pos ⟨h1,h2,h3⟩]
     obtain⟨s',c',r1,r2⟩:=CZ K n xs hok.1 xs [] (H.set p (.cells (s+1) [.i ((c+1:Nat):Int)])) x d (c+1) p (s+1) hx1 hp1 h2 h3 rfl hok.2
     refine⟨s',c',f1 _ (ez (Bp) ?_),r2⟩
     rw[h1]
     have g1:decide ((((c+1:Nat)):Int)>2000)=false:=by simp;omega
     have g2:decide (((d:Nat):Int)>100)=false:=by simp;omega
     simp only[Bool.not_true,cond_false]
     rw[ae hp1,aj,fC,g1]
     simp only[ai,cond_false]
     rw[g2,cond_false,hx1.a,PR,hl]
     rw[List.set_set]at r1
     exact r1
    ·rw[if_neg (fun q=>h3 q.2.2)]
     refine⟨s+1,c+1,f1 _ (ez (Bp) ?_),fun k e=>by cases e⟩
     rw[h1]
     have g1:decide ((((c+1:Nat)):Int)>2000)=false:=by simp;omega
     have g2:decide (((d:Nat):Int)>100)=true:=by simp;omega
     simp only[Bool.not_true,cond_false]
     rw[ae hp1,aj,fC,g1]
     simp only[ai,cond_false]
     rw[g2,cond_true]
     rfl
   ·rw[if_neg (fun q=>h2 q.2.1)]
    refine⟨s+1,c+1,f1 _ (ez (Bp) ?_),fun k e=>by cases e⟩
    rw[h1]
    have g1:decide ((((c+1:Nat)):Int)>2000)=true:=by simp;omega
    simp only[Bool.not_true,cond_false]
    rw[ae hp1,aj,fC,g1]
    simp only[ai,cond_true]
    rfl
  ·rw[if_neg (fun q=>h1 q.1)]
   refine⟨s+1,c+1,f1 _ (ez (Bp) ?_),fun k e=>by cases e⟩
   have:oi kind n xs.length=false:=by simpa using h1
   rw[this]
   simp only[Bool.not_false,cond_true]
   rfl
theorem CZ{kind:ac->Int}(K:ua kind)(n:ac)(xs:List Ty)(h62:xs.length<2^62):∀(l pre:List Ty) (H:DH) (x:D) (d c p s:Nat),BW H p x (.mk n xs)->H[p]? = some (.cells s [.i (c:Nat)])->c<=2000->d<=100->xs=pre++l->Ty.oks l ->
 ∃ s' c':Nat,af ak 22 200015 [.g x,.n (d:Nat),.g (.ptr p 0),.n (xs.length:Nat),.n (pre.length:Nat)] [] H=ret (.bool (iZ kind (d+1) l c).isSome) (H.set p (.cells s' [.i (c':Nat)]))/\∀ k,iZ kind (d+1) l c=some k->c'=k/\k<=2000
 |[],pre,H,x,d,c,p,s,hx,hp,hc,hd,e,hok=>by
  refine⟨s,c,ez (wS) ?_,fun k e=>by cases e;exact⟨rfl,hc⟩⟩
  have hlt:decide ((pre.length:Int)<(xs.length:Int))=false:=by rw[e];simp
  rw[hlt,cond_false,UR hp]
  rfl
 |t::l,pre,H,x,d,c,p,s,hx,hp,hc,hd,e,hok=>by
  simp only[Ty.oks]at hok
  have hlt:decide ((pre.length:Int)<(xs.length:Int))=true:=by rw[e];simp;omega
  have h2:(aI xs)[pre.length]? = some (cu t):=by rw[e];exact iu _ _ _
  have hw2:cS ((pre.length:Int)+1)=(((pre++[t]).length:Nat):Int):=by
   rw[bE (by
    have:xs.length=pre.length+(l.length+1):=by rw[e];simp
    omega)];simp
  obtain⟨s1,c1,r1,r2⟩:=LY K t H (.eptr (cu t) 0) (d+1) c p s (.inl rfl) hp hc (by omega) hok.1
  have st:∀ z,(cond (lX kind (d+1) t c).isSome (af ak 22 200015 [.g x,.n (d:Nat),.g (.ptr p 0),.n (xs.length:Nat),.n ((pre++[t]).length:Nat)] [] (H.set p (.cells s1 [.i (c1:Nat)]))) (ret (.bool false) (H.set p (.cells s1 [.i (c1:Nat)]))))=z->af ak 22 200015 [.g x,.n (d:Nat),.g (.ptr p 0),.n (xs.length:Nat),.n (pre.length:Nat)] [] H=z:=fun z hz=>by
   refine ez (wS) ?_
   rw[hlt,cond_true,hx.a,Vg h2,tc (by omega),ao r1]
   simp only[ck,ai]
   rw[hw2,<- hz]
   cases (lX kind (d+1) t c).isSome<;>simp only[Bool.not_true,Bool.not_false,cond_true,cond_false]
  unfold iZ
  cases q:lX kind (d+1) t c with
  |none =>
   refine⟨s1,c1,st _ ?_,fun k e=>by cases e⟩
   rw[q]
   rfl
  |some c2 =>
   obtain⟨e1,e2⟩:=r2 c2 q
   subst e1
   obtain⟨s3,c3,t1,t2⟩:=CZ K n xs h62 l (pre++[t]) (H.set p (.cells s1 [.i (c1:Nat)])) x d c1 p s1 (hx.set _) (bC _ hp) e2 hd (by rw[e];simp) hok.2
   refine⟨s3,c3,st _ ?_,t2⟩
   rw[q,Option.isSome_some,cond_true]
   rw[List.set_set]at t1
   exact t1
end
def aS(kind:ac->Int)(t:Ty):Nat:=(lX kind 1 t 0).getD 0
theorem kX{kind:ac->Int}(K:ua kind)(t:Ty)(H:DH)(hok:t.ok):∃ X,az 7 [.agg (cu t)] H=ret (.i (aS kind t:Nat)) (H++X):=by
 obtain⟨n,xs⟩:=t
 have o1:∀(v w:Int) (κ:List D->ag),ar [D.i v] 0 [.i w] κ=κ [.i w]:=fun _ _ _=>rfl
 have hl:(H++[DB.cells 0 (cu (.mk n xs))]).length=H.length+1:=by simp
 have a1:(H++[DB.cells 0 (cu (.mk n xs))]++[DB.cells (0+1) [.i ((0:Nat):Int)]])[H.length]? = some (.cells 0 (cu (.mk n xs))):=jk (bD _ _)
 have a2:(H++[DB.cells 0 (cu (.mk n xs))]++[DB.cells (0+1) [.i ((0:Nat):Int)]])[H.length+1]? = some (.cells (0+1) [.i ((0:Nat):Int)]):=by rw[<- hl];exact bD _ _
 obtain⟨s',c',r1,r2⟩:=LY K (.mk n xs) _ (.ptr H.length 0) 1 0 (H.length+1) (0+1) (.inr ⟨H.length,0,rfl,by omega,a1⟩) a2 (by omega) (by omega) hok
 have hs:∀ y:DB,(H++[DB.cells 0 (cu (.mk n xs))]++[DB.cells (0+1) [.i ((0:Nat):Int)]]).set (H.length+1) y=H++[DB.cells 0 (cu (.mk n xs)),y]:=fun y=>by
  rw[<- hl,ju];simp
 refine⟨[DB.cells 0 (cu (.mk n xs)),.cells s' [.i (c':Nat)]],ev (by simp only[cu];exact f7) ?_⟩
 dsimp only
 rw[ae (bD _ _),o1,ju]
 simp only[cu]at hl r1
 rw[show((1:Nat):Int)=1 from rfl,show((0:Nat):Int)=0 from rfl]at r1
 rw[hl]
 rw[ao r1]
 simp only[ck,ai]
 have hs:=hs (.cells s' [.i (c':Nat)])
 simp only[cu]at hs
 rw[show((0:Nat):Int)=0 from rfl]at hs
 rw[hs]
 unfold aS
 cases q:lX kind 1 (.mk n xs) 0 with
 |none=>rfl
 |some k =>
  obtain⟨rfl,_⟩:=r2 k q
  simp only[Option.isSome_some,Bool.not_true,cond_false,Option.getD_some]
  rw[ae (show(H++[DB.cells 0 [.str n,.row 2 (aI xs)],.cells s' [.i (c':Nat)]])[H.length+1]? = some (.cells s' [.i (c':Nat)])from by rw[List.getElem?_append_right (by omega)];simp),aj]
  simp only[cu]
end Go.Proofs.YtenibcfppefobaaGreatDoor
set_option linter.all false
noncomputable section
namespace Go.Proofs.YtenibcfppefobaaGreatDoor
open Go.AI
def Ac(H:DH)(b sz:Nat)(l:eA)(d:D):Prop:=(d=.nilrow/\l=[])\/∃ o,b<=o/\d=.buf sz o l.length/\H[o]? = some (.buf sz true false l)
structure We(b:Nat)(H H':DH):Prop where
 len:H.length<=H'.length
 at':∀ o,o<b->H'[o]? = H[o]?
 nb:∀ o,o<H.length->(∀ st cp l,H[o]?≠some (.buf 2 st cp l))->H'[o]? = H[o]?
theorem ET{m:Nat}(h:m<=4194304):aT ab 27 m=true:=by
 have e:aT ab 27 m=(Nat.ble (40*(m+Nat.div m 4+600)) 281474976710656&&Nat.ble m 4611686018427387904):=by kernel_rfl
 rw[e,Bool.and_eq_true]
 have h1:Nat.div m 4<=m:=Nat.div_le_self m 4
 exact⟨Nat.ble_eq_true_of_le (by omega),Nat.ble_eq_true_of_le (by omega)⟩
theorem Ac.add{H:DH}{b:Nat}{l:eA}{d:D}(h:Ac H b 2 l d)(hb:b<=H.length)(hl:l.length<4194304)(x:List D):∃ d' H',(∀ κ:D->DH->ag,eG (aT ab 27) 2 d [x] H κ=κ d' H')/\Ac H' b 2 (l++[x]) d'/\We b H H'/\∃ o n,d'=.buf 2 o n:=by
 rcases h with⟨rfl,rfl⟩|⟨o,ho,rfl,h⟩
 ·refine⟨.buf 2 H.length 1,H++[.buf 2 true false [x]],fun κ=>?_,.inr ⟨H.length,hb,rfl,bD _ _⟩,⟨by simp,fun o h=>List.getElem?_append_left (by omega),fun o h _=>List.getElem?_append_left h⟩,_,_,rfl⟩
  simp only[eG,List.length_singleton,ET (show 1<=4194304 by decide),boK,cond_true]
  rfl
 ·refine⟨.buf 2 o (l++[x]).length,H.set o (.buf 2 true false (l++[x])),fun κ=>?_,.inr ⟨o,ho,rfl,bC _ h⟩,⟨by simp,fun o' h=>List.getElem?_set_ne (by omega),fun o' _ q=>List.getElem?_set_ne (fun e=>q _ _ _ (e▸h))⟩,_,_,rfl⟩
  have h4:=dA h (κ:=fun _ st cap l2=>boK (aT ab 27 (l2.length+1)&&!(cap&&List.isEmpty [x])) (grow o 2 st cap l2 [x] H κ))
  simp only[eG,List.length_singleton,ET (show 1<=4194304 by decide),boK,cond_true,Nat.beq_refl]
  refine Eq.trans h4 ?_
  rw[ET (by omega)]
  simp only[List.isEmpty_cons,Bool.and_false,Bool.not_false,Bool.and_self,boK,cond_true,grow,cond_false]
  simp
theorem Ac.fz{H:DH}{b:Nat}{l:eA}{d:D}(h:Ac H b 2 l d):∃ H',(∀ κ:D->DH->ag,fN (.fz 2) d H κ=κ (.row 2 l) H')/\We b H H':=by
 rcases h with⟨rfl,rfl⟩|⟨o,ho,rfl,h⟩
 ·exact⟨H,fun _=>rfl,Nat.le_refl _,fun _ _=>rfl,fun _ _ _=>rfl⟩
 ·refine⟨H.set o (.buf 2 false false l),fun κ=>?_,by simp,fun o' h=>List.getElem?_set_ne (by omega),fun o' _ q=>List.getElem?_set_ne (fun e=>q _ _ _ (e▸h))⟩
  rw[fN,dA h]
  rfl
mutual
def xQ:Ty->Nat
 |.mk _ xs=>1+me xs
def me:List Ty->Nat
 |[]=>0
 |t::r=>max (xQ t) (me r)
end
structure Ep(H H':DH)(os:List Nat)(p:Nat):Prop where
 len:H.length<=H'.length
 at':∀ o:Nat,o<H.length->o∉os->o≠p->H'[o]? = H[o]?
theorem Ep.trans{H H' H'':DH}{os:List Nat}{p:Nat}(h:Ep H H' os p)(k:Ep H' H'' os p):Ep H H'' os p:=⟨Nat.le_trans h.len k.len,fun o h1 h2 h3=>by rw[k.at' o (Nat.lt_of_lt_of_le h1 h.len) h2 h3,h.at' o h1 h2 h3]⟩
theorem uK.ep{H H':DH}{os:List Nat}{p:Nat}(h:uK H H' os):Ep H H' os p:=⟨h.len,fun o h1 h2 _=>h.at' o h1 h2⟩
theorem ct.kp{H H':DH}{os:List Nat}{N:List bu}{L:Lk}(g:ct H os N L){b:Nat}(k:We b H H'):ct H' os N L :=
 ⟨g.len,g.lenL,g.nd,fun i x hx=>by
  obtain⟨s,d,h1,h2⟩:=g.ob i x hx
  exact⟨s,d,by rw[k.nb _ (aB h1) (fun _ _ _ e=>by rw[h1]at e;cases e),h1],by
   rcases h2 with⟨rfl,e⟩|⟨o,st,cp,rfl,h⟩
   ·exact .inl ⟨rfl,e⟩
   ·exact .inr ⟨o,st,cp,rfl,by rw[k.nb _ (aB h) (fun _ _ _ e=>by rw[h]at e;cases e),h]⟩⟩,g.kid,g.lk,g.sm⟩
theorem ct.cnt{H:DH}{os:List Nat}{N:List bu}{L:Lk}(g:ct H os N L){p s:Nat}{c:List D}(hp:H[p]? = some (.cells s c))(hn:p∉os)(s':Nat)(c':List D):ct (H.set p (.cells s' c')) os N L/\Ep H (H.set p (.cells s' c')) os p :=
 ⟨⟨g.len,g.lenL,g.nd,fun i x hx=>by
  obtain⟨s,d,h1,h2⟩:=g.ob i x hx
  refine⟨s,d,?_,h2.set hp⟩
  rw[List.getElem?_set_ne (fun q=>hn (by rw[q];exact AL (by rw[g.len];exact aB hx))),h1],g.kid,g.lk,g.sm⟩,by simp,fun o _ _ h=>List.getElem?_set_ne (fun q=>h q.symm)⟩
end Go.Proofs.YtenibcfppefobaaGreatDoor
set_option linter.all false
noncomputable section
namespace Go.Proofs.YtenibcfppefobaaGreatDoor
open Go.AI
theorem QI{H:DH}{o s:Nat}{v:Bool}{n:ac}{q:Int}{d k:D}(h:H[o]? = some (.cells s (fu v n q d k))):az 28 [.ptr o 0] H=ret (.agg [.str n,.nilrow]) H:=by
 refine ev (WV) ?_
 rw[ae h]
 rfl
def VZ(H:DH)(os:List Nat)(N:List bu)(L:Lk)(p d c:Nat)(t:Ty)(w:ag):Prop :=
 ∃ H' L' s' c' t',w=ret (.agg (cu t')) H'/\ct H' os N L'/\ub N L L'/\Ep H H' os p/\H'[p]? = some (.cells s' [.i ((c':Nat):Int)])/\c'<=2001/\(c'<=2000->t'=t/\c'=c+bL t/\d+xQ t<=101)/\(2000<c'->2000<c+bL t\/101<d+xQ t)
mutual
theorem yU:∀(t:Ty) (H:DH) (os:List Nat) (N:List bu) (L:Lk) (i p d c s:Nat),ct H os N L->(∀(i:Nat) (x:bu),N[i]? = some x->x.v=true->x.a=[])->Tr N L i t->H[p]? = some (.cells s [.i ((c:Nat):Int)])->p∉os->c<=2001->d<=101 ->
 VZ H os N L p d c t (az 27 [.ptr (oN os i) 0,.i (d:Nat),.ptr p 0,.func 28 [] []] H)
 |.mk n xs,H,os,N,L,i,p,d,c,s,g,hv,ht,hp,hpo,hc,hd=>by
  have hrt:∃ r m,Rt L i r m:=by cases ht with
   |var h _ _=>exact⟨_,_,h⟩
   |con h _ _ _=>exact⟨_,_,h⟩
  obtain⟨r,m,hr⟩:=hrt
  obtain⟨H1,L1,r1,g1,q1,l1⟩:=SS g hr
  obtain⟨m1,_,hr1⟩:=q1.rt _ _ _ hr
  have ht1:=ht.eqv q1
  have hp1:H1[p]? = some (.cells s [.i ((c:Nat):Int)]):=by rw[l1.at' p (aB hp) hpo,hp]
  have hrl:r<N.length:=by rw[<- g1.lenL];exact aB hr1.root
  have o1:∀(v w:Int) (κ:List D->ag),ar [D.i v] 0 [.i w] κ=κ [.i w]:=fun _ _ _=>rfl
  obtain⟨g2,p2⟩:=g1.cnt hp1 hpo (s+1) [.i ((c+1:Nat):Int)]
  have hp2:=bC (.cells (s+1) [.i ((c+1:Nat):Int)]) hp1
  have stop:(2000<c+1\/100<d)->VZ H os N L p d c (.mk n xs) (ret (.agg [.str [],.row 2 []]) ((H1.set p (.cells (s+1) [.i ((c+1:Nat):Int)])).set p (.cells (s+1+1) [.i 2001]))):=fun hst=>by
   obtain⟨g3,p3⟩:=g2.cnt hp2 hpo (s+1+1) [.i 2001]
   exact⟨_,L1,s+1+1,2001,.mk [] [],by simp only[cu,aI],g3,q1,(l1.ep.trans p2).trans p3,bC _ hp2,Nat.le_refl _,fun q=>(by omega),fun _=>by simp only[bL,xQ];omega⟩
  have pre:∀ z,(cond (decide (((c+1:Nat):Int)>2000)) (ret (.agg [.str [],.row 2 []]) ((H1.set p (.cells (s+1) [.i ((c+1:Nat):Int)])).set p (.cells (s+1+1) [.i 2001]))) (cond (decide (((d:Nat):Int)>100)) (ret (.agg [.str [],.row 2 []]) ((H1.set p (.cells (s+1) [.i ((c+1:Nat):Int)])).set p (.cells (s+1+1) [.i 2001])))
   (eD (.ptr (oN os r) 0) fun b=>dt b 0 fun b=>eZ ab 4 b (H1.set p (.cells (s+1) [.i ((c+1:Nat):Int)])) fun b=>brD b (FF lK (.func 28 [] []) fun b c' d'=>C ak b (c'++([.ptr (oN os r) 0]++d')) (H1.set p (.cells (s+1) [.i ((c+1:Nat):Int)])) fun a H=>ah 2 a fun a=>ar [.str [],.nilrow] 0 a fun a=>aF a 0 fun b=>aF a 1 fun a=>fN (.fz 2) a H fun a H=>ret (.agg [b,a]) H) (eD (.ptr (oN os r) 0) fun b=>dt b 1 fun b=>eZ ab 9 b (H1.set p (.cells (s+1) [.i ((c+1:Nat):Int)])) fun b=>ah 1 b fun b=>ar [.str [],.nilrow] 0 b fun b=>ah 2 (.agg b) fun b=>ar [.str [],.nilrow] 0 b fun b=>eD (.ptr (oN os r) 0) fun a=>dt a 3 fun a=>eZ ab 71 a (H1.set p (.cells (s+1) [.i ((c+1:Nat):Int)])) fun a=>eC ab 71 a (H1.set p (.cells (s+1) [.i ((c+1:Nat):Int)])) fun c'=>af ak 27 200010 [.n (d:Nat),.g (.ptr p 0),.g (.func 28 [] []),.lp 0 0,.lp 1 0,.g a,.g c',.n 0] [(0,[.str [],.nilrow]),(0,b)] (H1.set p (.cells (s+1) [.i ((c+1:Nat):Int)]))))))=z->az 27 [.ptr (oN os i) 0,.i (d:Nat),.ptr p 0,.func 28 [] []] H=z:=fun z hz=>by
   refine ev (WW) ?_
   rw[ao r1,ae hp1,aj,dD,tc (by omega),Uk,ae hp1,o1]
   dsimp only
   rw[ae hp2,aj,fC,ai,ae hp2,o1]
   exact hz
  by_cases h1:c+1<=2000
  ·by_cases h2:d<=100
   ·have e1:decide (((c+1:Nat):Int)>2000)=false:=by simp;omega
    have e2:decide (((d:Nat):Int)>100)=false:=by simp;omega
    have hx:=List.getElem?_eq_getElem hrl
    generalize N[r]=x at hx
    obtain⟨s2,da,k1,k2⟩:=g2.ob r x hx
    have ht2:=ht1.rt hr1
    cases hxv:x.v with
    |true =>
     have:xs=[]/\n=x.n:=by
      cases ht1 with
      |var z1 z2 z3=>obtain⟨rfl,_⟩:=z1.det hr1;rw[hx]at z2;cases z2;exact⟨rfl,rfl⟩
      |con z1 z2 z3 _=>obtain⟨rfl,_⟩:=z1.det hr1;rw[hx]at z2;cases z2;rw[hxv]at z3;cases z3
     obtain⟨rfl,rfl⟩:=this
     have hf:et lK 28=true:=by kernel_rfl
     refine(show VZ H os N L p d c (.mk x.n []) _ from ?_)
     rw[pre _ rfl,e1,cond_false,e2,cond_false]
     simp only[Gg,FQ,UY,Nat.zero_add]
     rw[ae k1]
     simp only[fu,aj,hxv,ai,cond_true]
     rw[Bg hf,show(([]:List D)++([D.ptr (oN os r) 0]++[]))=[.ptr (oN os r) 0] from rfl,ao (QI k1)]
     refine⟨_,L1,s+1,c+1,.mk x.n [],by simp only[cu,aI];rfl,g2,q1,l1.ep.trans p2,hp2,by omega,fun _=>⟨rfl,by simp[bL,bL.tszs],by simp only[xQ,me];omega⟩,fun q=>by simp only[bL];omega⟩
    |false =>
     have:∃ ys,sX N L1 x.a xs/\n=x.n/\ys=xs:=by
      cases ht1 with
      |var z1 z2 z3=>obtain⟨rfl,_⟩:=z1.det hr1;rw[hx]at z2;cases z2;rw[hxv]at z3;cases z3
      |con z1 z2 z3 z4=>obtain⟨rfl,_⟩:=z1.det hr1;rw[hx]at z2;cases z2;exact⟨_,z4,rfl,rfl⟩
     obtain⟨_,hts,rfl,_⟩:=this
     rw[pre _ rfl,e1,cond_false,e2,cond_false]
     simp only[Gg,FQ,UY,UT,Tj,Nat.zero_add]
     rw[ae k1]
     simp only[fu,aj,hxv,ai,cond_false]
     rw[ae k1]
     simp only[fu,aj,aA]
     rw[show ∀ κ:List D->ag,(ah 1 (.str x.n) fun b=>ar [.str [],.nilrow] 0 b fun b=>ah 2 (.agg b) fun b=>ar [.str [],.nilrow] 0 b κ)=κ [.str x.n,.nilrow] from fun _=>rfl]
     rw[ae k1]
     simp only[fu,aj,aA]
     rw[k2.len,List.length_map]
     obtain⟨H',L',s',c',ts',w1,w2,w3,w4,w5,w6,w7,w8⟩:=vz xs (H1.set p (.cells (s+1) [.i ((c+1:Nat):Int)])) os N L1 x.n x.a [] da p d (c+1) (s+1) (H1.set p (.cells (s+1) [.i ((c+1:Nat):Int)])).length [] .nilrow g2 hv hts (by have:=g.sm r x hx;simpa using this) rfl k2 hp2 hpo (by omega) h2 (.inl ⟨rfl,rfl⟩) (Nat.le_refl _)
     refine⟨H',L',s',c',.mk x.n ts',w1,w2,q1.trans w3,(l1.ep.trans p2).trans ⟨w4.1,w4.2⟩,w5,w6,fun q=>?_,fun q=>?_⟩
     ·obtain⟨z1,z2,z3⟩:=w7 q
      exact⟨by rw[z1];simp,by rw[z2];simp only[bL];omega,by simp only[xQ];omega⟩
     ·have:=w8 q
      simp only[bL,xQ]
      omega
   ·rw[pre _ rfl]
    have e1:decide (((c+1:Nat):Int)>2000)=false:=by simp;omega
    have e2:decide (((d:Nat):Int)>100)=true:=by simp;omega
    rw[e1,cond_false,e2,cond_true]
    exact stop (.inr (by omega))
  ·rw[pre _ rfl]
   have e1:decide (((c+1:Nat):Int)>2000)=true:=by simp;omega
   rw[e1,cond_true]
   exact stop (.inl (by omega))
theorem vz:∀(l:List Ty) (H:DH) (os:List Nat) (N:List bu) (L:Lk) (nm:ac) (rest pn:List Nat) (da:D) (p d c s b:Nat) (done:List Ty) (dr:D),ct H os N L->(∀(i:Nat) (x:bu),N[i]? = some x->x.v=true->x.a=[])->sX N L rest l->(pn++rest).length<=16->done.length=pn.length->bK H da ((pn++rest).map (oN os))->H[p]? = some (.cells s [.i ((c:Nat):Int)])->p∉os->c<=2001->d<=100->Ac H b 2 (aI done) dr->b<=H.length ->
 ∃ H' L' s' c' ts',af ak 27 200010 [.n (d:Nat),.g (.ptr p 0),.g (.func 28 [] []),.lp 0 0,.lp 1 0,.g da,.n ((pn++rest).length:Nat),.n (pn.length:Nat)] [(0,[.str [],.nilrow]),(0,[.str nm,dr])] H=ret (.agg (cu (.mk nm ts'))) H'/\ct H' os N L'/\ub N L L'/\(H.length<=H'.length/\∀ o,o<b->o∉os->o≠p->H'[o]? = H[o]?)/\H'[p]? = some (.cells s' [.i ((c':Nat):Int)])/\c'<=2001/\(c'<=2000->ts'=done++l/\c'=c+bL.tszs l/\d+me l<=100)/\(2000<c'->2000<c+bL.tszs l\/100<d+me l)
 |[],H,os,N,L,nm,rest,pn,da,p,d,c,s,b,done,dr,g,hv,ht,h16,hdn,ha,hp,hpo,hc,hd,hr,hb=>by
  cases ht
  obtain⟨H',u1,u2⟩:=hr.fz
  have hlt:decide ((pn.length:Int)<((pn++[]).length:Int))=false:=by simp
  refine⟨H',L,s,c,done,ez (wO) ?_,g.kp u2,.refl _ _,⟨u2.len,fun o h _ _=>u2.at' o h⟩,?_,hc,fun _=>⟨by simp,by simp[bL.tszs],by simp only[me];omega⟩,fun q=>by simp only[bL.tszs];omega⟩
  ·rw[hlt,cond_false,aj,aA,aj,u1]
   simp only[cu]
  ·rw[u2.nb p (aB hp) (fun _ _ _ e=>by rw[hp]at e;cases e),hp]
 |t::l,H,os,N,L,nm,rest,pn,da,p,d,c,s,b,done,dr,g,hv,ht,h16,hdn,ha,hp,hpo,hc,hd,hr,hb=>by
  cases ht with
  |cons t1 t2 =>
  rename_i a rest
  obtain⟨H1,L1,s1,c1,t',r1,r2,r3,r4,r5,r6,r7,r8⟩:=yU t H os N L a p (d+1) c s g hv t1 hp hpo hc (by omega)
  have hr1:Ac H1 b 2 (aI done) dr:=by
   rcases hr with⟨rfl,e⟩|⟨o,ho,rfl,h⟩
   ·exact .inl ⟨rfl,e⟩
   ·refine .inr ⟨o,ho,rfl,?_⟩
    rw[r4.at' o (aB h) (fun q=>by obtain⟨s,c,e⟩:=g.nm q;rw[e]at h;cases h) (fun q=>by rw[q,hp]at h;cases h),h]
  have hb1:b<=H1.length:=Nat.le_trans hb r4.len
  obtain⟨tn,tx⟩:=t'
  obtain⟨d2,H2,u1,u2,u3,ob,nb,hd2⟩:=hr1.add hb1 (by rw[bf];simp at h16;omega) (cu (.mk tn tx))
  have e2:aI done++[cu (.mk tn tx)]=aI (done++[.mk tn tx]):=by rw[dB,dB];simp
  rw[e2]at u2
  have e3:pn++a::rest=(pn++[a])++rest:=by simp
  have ha2:bK H2 da (((pn++[a])++rest).map (oN os)):=by
   rw[<- e3]
   refine ha.chg fun o n q=>?_
   obtain⟨h1,st,cp,l,h2⟩:=ha.lt q
   have h3:H1[o]? = H[o]?:=r4.at' o h1 (fun q=>by obtain⟨s,c,e⟩:=g.nm q;rw[e]at h2;cases h2) (fun q=>by rw[q,hp]at h2;cases h2)
   rw[u3.nb o (by have:=r4.len;omega) (fun _ _ _ e=>by rw[h3,h2]at e;cases e),h3]
  have hp2:H2[p]? = some (.cells s1 [.i ((c1:Nat):Int)]):=by rw[u3.nb p (aB r5) (fun _ _ _ e=>by rw[r5]at e;cases e),r5]
  obtain⟨H',L',s',c',ts',w1,w2,w3,w4,w5,w6,w7,w8⟩:=vz l H2 os N L1 nm rest (pn++[a]) da p d c1 s1 b (done++[.mk tn tx]) d2 (r2.kp u3) hv (t2.eqv r3) (by rw[<- e3];exact h16) (by simp[hdn]) ha2 hp2 hpo r6 hd u2 (Nat.le_trans hb1 u3.len)
  have hlt:decide ((pn.length:Int)<((pn++a::rest).length:Int))=true:=by simp;omega
  have ia:((pn++a::rest).map (oN os))[pn.length]? = some (oN os a):=by rw[List.getElem?_map];simp
  have hw2:cS ((pn.length:Int)+1)=(((pn++[a]).length:Nat):Int):=by
   rw[bE (by simp at h16;omega)];simp
  refine⟨H',L',s',c',ts',ez (wO) ?_,w2,r3.trans w3,⟨by have:=r4.len;have:=u3.len;have:=w4.1;omega,fun o h1 h2 h3=>?_⟩,w5,w6,fun q=>?_,fun q=>?_⟩
  ·rw[hlt,cond_true,ha.at' ia,tc (by omega),Ph r1]
   simp only[aj,aA]
   rw[show ∀ κ:List D->ag,ah 2 (.agg (cu (.mk tn tx))) κ=κ (cu (.mk tn tx))from fun κ=>by simp only[cu];rfl]
   rw[u1,hd2,Ul,show ∀(x:D) (κ:List D->ag),ar [.str nm,dr] 1 [x] κ=κ [.str nm,x] from fun _ _=>rfl,<- hd2,hw2,e3]
   exact w1
  ·rw[w4.2 o h1 h2 h3,u3.at' o h1,r4.at' o (by omega) h2 h3]
  ·obtain⟨z1,z2,z3⟩:=w7 q
   obtain⟨y1,y2,y3⟩:=r7 (by omega)
   exact⟨by rw[z1,y1];simp,by rw[z2,y2];simp only[bL.tszs];omega,by simp only[me];omega⟩
  ·have h1:=w8 q
   simp only[bL.tszs,me]
   rcases Nat.lt_or_ge 2000 c1 with h2|h2
   ·have:=r8 h2;omega
   ·obtain⟨_,y2,_⟩:=r7 h2
    omega
end
end Go.Proofs.YtenibcfppefobaaGreatDoor
set_option linter.all false
noncomputable section
namespace Go.Proofs.YtenibcfppefobaaGreatDoor
open Go.AI
def aE:List (ac×Ty)->ac->Option Ty
 |[],_=>none
 |(n,t)::r,s=>if s=n then some t else aE r s
def bM(es:List (ac×Ty)):List (D×D):=es.map fun p=>(.str p.1,.agg (cu p.2))
def BM(H:DH)(m:D)(σ:ac->Option Ty):Prop:=(m=.nilmap/\σ=fun _=>none)\/∃ mo es,m=.map mo/\H[mo]? = some (.map (bM es))/\σ=aE es
theorem LA(s:ac):∀ es,qB (.str s) (bM es)=some ((aE es s).map fun t=>.agg (cu t))
 |[]=>rfl
 |(n,t)::r=>by
  have ih:=LA s r
  simp only[bM,List.map_cons,qB,iY]
  by_cases q:s=n
  ·have:(s==n)=true:=by simpa using q
   simp only[this,aE,if_pos q,Option.map]
  ·have:(s==n)=false:=by simpa using q
   simp only[this,aE,if_neg q]
   exact ih
theorem Rg(m:Nat)(s:ac)(H:DH)(κ:D->ag):eR ab 83 (.map m) (.str s) true H κ=jW H m fun es=>gR (.str s) es fun r=>dL ab 27 true r κ:=by kernel_rfl
theorem On(s:ac)(H:DH)(κ:D->ag):eR ab 83 .nilmap (.str s) true H κ=κ (.tuple [.agg [.str [],.nilrow],.bool false]):=by kernel_rfl
theorem RB(κ:D->ag):dL ab 27 true none κ=κ (.tuple [.agg [.str [],.nilrow],.bool false]):=by kernel_rfl
theorem RA(d:D)(κ:D->ag):dL ab 27 true (some d) κ=κ (.tuple [d,.bool true]):=rfl
theorem BM.look{H:DH}{m:D}{σ:ac->Option Ty}(h:BM H m σ)(s:ac)(κ:D->ag):eR ab 83 m (.str s) true H κ=match σ s with
 |some t=>κ (.tuple [.agg (cu t),.bool true])
 |none=>κ (.tuple [.agg [.str [],.nilrow],.bool false]):=by
 rcases h with⟨rfl,rfl⟩|⟨mo,es,rfl,h,rfl⟩
 ·exact On s H κ
 ·rw[Rg,dz h,gR,LA]
  cases aE es s with
  |none=>simp only[Option.map,RB]
  |some t=>simp only[Option.map,RA]
theorem BM.fr{H H':DH}{m:D}{σ:ac->Option Ty}(h:BM H m σ){p s:Nat}{c:List D}(hp:H[p]? = some (.cells s c)){b:Nat}(hb:∀ mo es,H[mo]? = some (.map es)->mo<b)(k:∀ o,o<b->o≠p->H'[o]? = H[o]?):BM H' m σ:=by
 rcases h with⟨rfl,rfl⟩|⟨mo,es,rfl,h,rfl⟩
 ·exact .inl ⟨rfl,rfl⟩
 ·exact .inr ⟨mo,es,rfl,by rw[k mo (hb _ _ h) (fun q=>by rw[q,hp]at h;cases h),h],rfl⟩
theorem CY(kind:ac->Int)(d:Nat):∀(a b:List Ty) (k:Nat),iZ kind d (a++b) k=(match iZ kind d a k with
 |some k'=>iZ kind d b k'
 |none=>none)
 |[],_,_=>by simp[iZ]
 |t::r,b,k=>by
  simp only[List.cons_append,iZ]
  cases lX kind d t k with
  |none=>rfl
  |some k'=>exact CY kind d r b k'
def VX(kind:ac->Int)(H:DH)(p c:Nat)(t:Ty)(w:ag):Prop :=
 ∃ H' s' c' t',w=ret (.agg (cu t')) H'/\(H.length<=H'.length/\∀ o,o<H.length->o≠p->H'[o]? = H[o]?)/\H'[p]? = some (.cells s' [.i ((c':Nat):Int)])/\c'<=c+bL t/\(c'<=2000->t'=t/\c'=c+bL t)/\(2000<c'->∀ d k,lX kind d t' k=none)/\t'.ok
def VY(kind:ac->Int)(x:Ty):Prop:=∀(H:DH) (p c s:Nat),H[p]? = some (.cells s [.i ((c:Nat):Int)])->c+bL x<2^60->VX kind H p c x (az 30 [.nilmap,.agg (cu x),.ptr p 0] H)
theorem gC(n:ac)(a:D)(κ:List D->ag):ah 2 (.agg [.str n,a]) κ=κ [.str n,a]:=rfl
theorem vD(n:ac)(a:D)(κ:List D->ag):ar [.str [],.nilrow] 0 [.str n,a] κ=κ [.str n,a]:=rfl
theorem WJ(l:eA)(H:DH)(κ:D->DH->ag):fN (.fz 2) (.row 2 l) H κ=κ (.row 2 l) H:=rfl
mutual
theorem EZ{kind:ac->Int}(h0:∀ d k,lX kind d (.mk [] []) k=none){σ:ac->Option Ty}(hx:∀ s x,σ s=some x->VY kind x):∀(t:Ty) (H:DH) (m:D) (p c s:Nat),yC (fun _=>false) t->BM H m σ->H[p]? = some (.cells s [.i ((c:Nat):Int)])->c+bL (sub σ t)<2^60->VX kind H p c (sub σ t) (az 30 [m,.agg (cu t),.ptr p 0] H)
 |.mk n xs,H,m,p,c,s,hw,hm,hp,hc=>by
  simp only[yC]at hw
  have o1:∀(v w:Int) (κ:List D->ag),ar [D.i v] 0 [.i w] κ=κ [.i w]:=fun _ _ _=>rfl
  by_cases hq:xs=[]/\∃ x,σ n=some x
  ·obtain⟨rfl,x,hn⟩:=hq
   have hs:sub σ (.mk n [])=x:=by rw[nI,hn];rfl
   rw[hs]at hc ⊢
   obtain⟨H',s',c',t',r1,r2,r3,r4,r5,r6,r7⟩:=hx n x hn H p c s hp hc
   obtain⟨xn,xx⟩:=x
   obtain⟨tn,tx⟩:=t'
   refine⟨H',s',c',.mk tn tx,ev (by simp only[cu];exact Wq) ?_,r2,r3,r4,r5,r6,r7⟩
   rw[hm.look n,hn]
   simp only[dn,aj,aA,cu,gC,vD,ai,cond_true,aI,List.length_nil]
   simp only[cu]at r1
   rw[show((((0:Nat):Int)==0)=true)from rfl,cond_true,ao r1,gC,vD]
   simp only[aj,aA,WJ]
  ·have hs:sub σ (.mk n xs)=.mk n (fT σ xs):=by
    unfold sub
    split
    ·rename_i q1 q2;exact(hq ⟨rfl,_,q2⟩).elim
    ·rfl
   rw[hs]at hc ⊢
   simp only[bL]at hc
   have st:∀ z,af ak 30 4 [.g m,.g (.ptr p 0),.lp 0 0,.lp 1 0] [(0,[.str n,.row 2 (aI xs)]),(0,[.str [],.nilrow])] H=z->az 30 [m,.agg (cu (.mk n xs)),.ptr p 0] H=z:=fun z hz=>by
    refine ev (by simp only[cu];exact Wq) ?_
    rw[hm.look n]
    cases hn:σ n with
    |none =>
     simp only[dn,aj,aA,gC,vD,ai,cond_false]
     exact hz
    |some x =>
     obtain⟨xn,xx⟩:=x
     have hl:(((aI xs).length:Int)==0)=false:=by
      rw[bf]
      cases xs with
      |nil=>exact(hq ⟨rfl,_,hn⟩).elim
      |cons y ys=>simp;omega
     simp only[dn,aj,aA,cu,gC,vD,ai,cond_true]
     rw[hl,cond_false]
     exact hz
   have hp2:=bC (.cells (s+1) [.i ((c+1:Nat):Int)]) hp
   have k2:∀ o,o<H.length->o≠p->(H.set p (.cells (s+1) [.i ((c+1:Nat):Int)]))[o]? = H[o]?:=fun o _ h=>List.getElem?_set_ne (fun q=>h q.symm)
   have st2:∀ z,(cond (decide (((c+1:Nat):Int)>2000)) (ret (.agg [.str [],.row 2 []]) (H.set p (.cells (s+1) [.i ((c+1:Nat):Int)]))) (af ak 30 200009 [.g m,.g (.ptr p 0),.lp 1 0,.lp 2 0,.g (.row 2 (aI xs)),.n ((aI xs).length:Nat),.n 0] [(0,[]),(0,[.str [],.nilrow]),(0,[.str n,.nilrow])] (H.set p (.cells (s+1) [.i ((c+1:Nat):Int)]))))=z->az 30 [m,.agg (cu (.mk n xs)),.ptr p 0] H=z:=fun z hz=>by
    refine st _ (ez (TW) ?_)
    rw[ae hp,aj,dD,tc (by omega),Uk,ae hp,o1]
    dsimp only
    rw[ae hp2,aj,fC,ai]
    exact hz
   by_cases h1:c+1<=2000
   ·have e1:decide (((c+1:Nat):Int)>2000)=false:=by simp;omega
    have hm2:BM (H.set p (.cells (s+1) [.i ((c+1:Nat):Int)])) m σ:=hm.fr hp (b:=H.length) (fun _ _ h=>aB h) k2
    obtain⟨H',s',c',ts',w1,w2,w3,w4,w5,w6,w7,w8⟩:=CC h0 hx n xs hw.1 xs [] (H.set p (.cells (s+1) [.i ((c+1:Nat):Int)])) m p (c+1) (s+1) H.length [] .nilrow rfl hw.2.2 hm2 hp2 (by omega) (.inl ⟨rfl,rfl⟩) (by simp) rfl (fun q=>by omega) trivial
    refine⟨H',s',c',.mk n ts',st2 _ ?_,⟨by have:=w2.1;simp at this;omega,fun o h2 h3=>by rw[w2.2 o h2 h3,k2 o h2 h3]⟩,w3,by simp only[bL];omega,fun q=>?_,fun q d k=>?_,by simp only[Ty.ok];exact⟨by rw[w7];have:=hw.1;simp;omega,w8⟩⟩
    ·rw[e1,cond_false,bf]
     exact w1
    ·obtain⟨z1,z2⟩:=w5 q
     exact⟨by rw[z1];simp,by rw[z2];simp only[bL];omega⟩
    ·unfold lX
     split
     ·exact w6 q _ _
     ·rfl
   ·have e1:decide (((c+1:Nat):Int)>2000)=true:=by simp;omega
    refine⟨H.set p (.cells (s+1) [.i ((c+1:Nat):Int)]),s+1,c+1,.mk [] [],st2 _ ?_,⟨by simp,k2⟩,hp2,by simp only[bL];omega,fun q=>(h1 q).elim,fun _=>h0,by simp only[Ty.ok,Ty.oks];exact⟨by decide,trivial⟩⟩
    rw[e1,cond_true]
    simp only[cu,aI]
theorem CC{kind:ac->Int}(h0:∀ d k,lX kind d (.mk [] []) k=none){σ:ac->Option Ty}(hx:∀ s x,σ s=some x->VY kind x)(n:ac)(xs:List Ty)(h16:xs.length<=16):∀(l pre:List Ty) (H:DH) (m:D) (p c s b:Nat) (done:List Ty) (dr:D),xs=pre++l->tN (fun _=>false) l->BM H m σ->H[p]? = some (.cells s [.i ((c:Nat):Int)])->c+bL.tszs (fT σ l)<2^60->Ac H b 2 (aI done) dr->b<=H.length->done.length=pre.length->(2000<c->∀ d k,iZ kind d done k=none)->Ty.oks done ->
 ∃ H' s' c' ts',af ak 30 200009 [.g m,.g (.ptr p 0),.lp 1 0,.lp 2 0,.g (.row 2 (aI xs)),.n (xs.length:Nat),.n (pre.length:Nat)] [(0,[]),(0,[.str [],.nilrow]),(0,[.str n,dr])] H=ret (.agg (cu (.mk n ts'))) H'/\(H.length<=H'.length/\∀ o,o<b->o≠p->H'[o]? = H[o]?)/\H'[p]? = some (.cells s' [.i ((c':Nat):Int)])/\c'<=c+bL.tszs (fT σ l)/\(c'<=2000->ts'=done++fT σ l/\c'=c+bL.tszs (fT σ l))/\(2000<c'->∀ d k,iZ kind d ts' k=none)/\ts'.length=done.length+l.length/\Ty.oks ts'
 |[],pre,H,m,p,c,s,b,done,dr,e,hw,hm,hp,hc,hr,hb,hd,hn,hk=>by
  obtain⟨H',u1,u2⟩:=hr.fz
  have hlt:decide ((pre.length:Int)<(xs.length:Int))=false:=by rw[e];simp
  refine⟨H',s,c,done,ez (wM) ?_,⟨u2.len,fun o h _=>u2.at' o h⟩,?_,by omega,fun _=>⟨by simp[fT],by simp[fT,bL.tszs]⟩,hn,by simp,hk⟩
  ·rw[hlt,cond_false,u1]
   simp only[cu]
  ·rw[u2.nb p (aB hp) (fun _ _ _ e=>by rw[hp]at e;cases e),hp]
 |t::l,pre,H,m,p,c,s,b,done,dr,e,hw,hm,hp,hc,hr,hb,hd,hn,hk=>by
  simp only[tN]at hw
  simp only[fT,bL.tszs]at hc
  obtain⟨H1,s1,c1,t',r1,r2,r3,r4,r5,r6,r7⟩:=EZ h0 hx t H m p c s hw.1 hm hp (by omega)
  have hr1:Ac H1 b 2 (aI done) dr:=by
   rcases hr with⟨rfl,e⟩|⟨o,ho,rfl,h⟩
   ·exact .inl ⟨rfl,e⟩
   ·exact .inr ⟨o,ho,rfl,by rw[r2.2 o (aB h) (fun q=>by rw[q,hp]at h;cases h),h]⟩
  have hxl:xs.length=pre.length+(l.length+1):=by rw[e];simp
  have hb1:b<=H1.length:=Nat.le_trans hb r2.1
  obtain⟨tn,tx⟩:=t'
  obtain⟨d2,H2,u1,u2,u3,ob,nb,hd2⟩:=hr1.add hb1 (by rw[bf];omega) (cu (.mk tn tx))
  have e2:aI done++[cu (.mk tn tx)]=aI (done++[.mk tn tx]):=by rw[dB,dB];simp
  rw[e2]at u2
  have hp2:H2[p]? = some (.cells s1 [.i ((c1:Nat):Int)]):=by rw[u3.nb p (aB r3) (fun _ _ _ e=>by rw[r3]at e;cases e),r3]
  have hm2:BM H2 m σ:=by
   have hm1:=hm.fr hp (b:=H.length) (fun _ _ h=>aB h) r2.2
   rcases hm1 with⟨q1,q2⟩|⟨mo,es,q1,h,q2⟩
   ·exact .inl ⟨q1,q2⟩
   ·exact .inr ⟨mo,es,q1,by rw[u3.nb mo (aB h) (fun _ _ _ e=>by rw[h]at e;cases e),h],q2⟩
  obtain⟨H',s',c',ts',w1,w2,w3,w4,w5,w6,w7,w8⟩:=CC h0 hx n xs h16 l (pre++[t]) H2 m p c1 s1 b (done++[.mk tn tx]) d2 (by rw[e];simp) hw.2 hm2 hp2 (by omega) u2 (Nat.le_trans hb1 u3.len) (by simp[hd]) (fun q d k=>by
   rw[CY]
   by_cases hq:2000<c
   ·rw[hn hq d k]
   ·cases iZ kind d done k with
    |none=>rfl
    |some k' =>
     simp only[iZ]
     rw[r6 q d k']) (Ty.oks_iff.2 fun u hu=>by
   rcases List.mem_append.1 hu with hu|hu
   ·exact Ty.oks_iff.1 hk u hu
   ·simp at hu;rw[hu];exact r7)
  have hlt:decide ((pre.length:Int)<(xs.length:Int))=true:=by rw[hxl];simp;omega
  have h2:(aI xs)[pre.length]? = some (cu t):=by rw[e];exact iu _ _ _
  have hw2:cS ((pre.length:Int)+1)=(((pre++[t]).length:Nat):Int):=by
   rw[bE (by omega)];simp
  refine⟨H',s',c',ts',ez (wM) ?_,⟨by have:=r2.1;have:=u3.len;have:=w2.1;omega,fun o h1 h3=>by rw[w2.2 o h1 h3,u3.at' o h1,r2.2 o (by omega) h3]⟩,w3,by simp only[fT,bL.tszs];omega,fun q=>?_,w6,by rw[w7];simp;omega,w8⟩
  ·obtain⟨tn',ts''⟩:=t
   simp only[cu]at h2 r1
   rw[hlt,cond_true,bH,bt h2]
   simp only[aj,aA]
   rw[Ph r1,gC]
   simp only[cu]at u1
   rw[u1,hd2,Ul,show ∀(x:D) (κ:List D->ag),ar [.str n,dr] 1 [x] κ=κ [.str n,x] from fun _ _=>rfl,<- hd2,hw2]
   exact w1
  ·obtain⟨z1,z2⟩:=w5 q
   obtain⟨y1,y2⟩:=r5 (by omega)
   exact⟨by rw[z1,y1];simp[fT],by rw[z2,y2];simp only[fT,bL.tszs];omega⟩
end
mutual
theorem uQ:∀ t,sub (fun _=>none) t=t
 |.mk n []=>rfl
 |.mk n (y::ys)=>by rw[show sub (fun _=>none) (.mk n (y::ys))=.mk n (fT (fun _=>none) (y::ys))from rfl,yI (y::ys)]
theorem yI:∀ l,fT (fun _=>none) l=l
 |[]=>rfl
 |t::r=>by rw[fT,uQ t,yI r]
end
theorem Hd{kind:ac->Int}(h0:∀ d k,lX kind d (.mk [] []) k=none)(x:Ty)(hw:yC (fun _=>false) x):VY kind x:=fun H p c s hp hc=>by
 have:=EZ h0 (σ:=fun _=>none) (fun s x h=>by cases h) x H .nilmap p c s hw (.inl ⟨rfl,rfl⟩) hp (by rw[uQ];exact hc)
 rw[uQ]at this
 exact this
theorem PL{kind:ac->Int}(h0:∀ d k,lX kind d (.mk [] []) k=none){es:List (ac×Ty)}(he:∀ p∈es,yC (fun _=>false) p.2){t:Ty}(hw:yC (fun _=>false) t){H:DH}{mo p c s:Nat}(hm:H[mo]? = some (.map (bM es)))(hp:H[p]? = some (.cells s [.i ((c:Nat):Int)]))(hc:c+bL (sub (aE es) t)<2^60):VX kind H p c (sub (aE es) t) (az 30 [.map mo,.agg (cu t),.ptr p 0] H) :=
 EZ h0 (fun s x h=>Hd h0 x (by
  have:∀ {es:List (ac×Ty)},aE es s=some x->(∃ p∈es,p.2=x):=fun {es} h=>by
   induction es with
   |nil=>cases h
   |cons q r ih =>
    obtain⟨n,t⟩:=q
    unfold aE at h
    split at h
    ·cases h;exact⟨_,List.mem_cons_self,rfl⟩
    ·obtain⟨p,h1,h2⟩:=ih h
     exact⟨p,List.mem_cons_of_mem _ h1,h2⟩
  obtain⟨p,h1,h2⟩:=this h
  rw[<- h2];exact he p h1)) t H (.map mo) p c s hw (.inr ⟨mo,es,rfl,hm,rfl⟩) hp hc
end Go.Proofs.YtenibcfppefobaaGreatDoor
set_option linter.all false
noncomputable section
namespace Go.Proofs.YtenibcfppefobaaGreatDoor
open Go.AI
mutual
def EA:Ty->Ty->Bool
 |.mk n xs,.mk m ys=>n==m&&lU xs ys
def lU:List Ty->List Ty->Bool
 |[],[]=>true
 |x::xs,y::ys=>EA x y&&lU xs ys
 |_,_=>false
end
mutual
theorem Cm:∀(t u:Ty),EA t u=true↔t=u
 |.mk n xs,.mk m ys=>by
  simp only[EA,Bool.and_eq_true,beq_iff_eq,rJ xs ys,Ty.mk.injEq]
theorem rJ:∀(l k:List Ty),lU l k=true↔l=k
 |[],[]=>by simp[lU]
 |x::xs,y::ys=>by simp only[lU,Bool.and_eq_true,Cm x y,rJ xs ys,List.cons.injEq]
 |[],_::_=>by simp[lU]
 |_::_,[]=>by simp[lU]
end
theorem It:∀ {l k:List Ty},l.length≠k.length->lU l k=false:=fun {l k} h=>by
 cases q:lU l k with
 |false=>rfl
 |true=>exact(h (by rw[(rJ l k).1 q])).elim
mutual
theorem GU:∀(t u:Ty) (H:DH),t.ok->az 10 [.agg (cu t),.agg (cu u)] H=ret (.bool (EA t u)) H
 |.mk n xs,.mk m ys,H,hok=>by
  simp only[Ty.ok]at hok
  refine ev (by simp only[cu];exact Xf) ?_
  simp only[EA]
  by_cases h1:n=m
  ·have e1:(n==m)=true:=by simpa using h1
   rw[e1,Bool.not_true,cond_false,bf,bf,Bool.true_and]
   by_cases h2:xs.length=ys.length
   ·have e2:(((xs.length:Nat):Int) !=((ys.length:Nat):Int))=false:=by simp[h2]
    rw[e2,cond_false]
    exact yO n m xs ys H hok.1 xs ys [] [] rfl rfl rfl h2 hok.2
   ·have e2:(((xs.length:Nat):Int) !=((ys.length:Nat):Int))=true:=by simp;omega
    rw[e2,cond_true,It h2]
  ·have e1:(n==m)=false:=by simpa using h1
   rw[e1,Bool.not_false,cond_true,Bool.false_and]
theorem yO(n m:ac)(xs ys:List Ty)(H:DH)(h62:xs.length<2^62):∀(l k p q:List Ty),xs=p++l->ys=q++k->p.length=q.length->l.length=k.length->Ty.oks l ->
 af ak 10 200004 [.lp 0 0,.lp 1 0,.n (p.length:Nat)] [(0,[.str n,.row 2 (aI xs)]),(0,[.str m,.row 2 (aI ys)])] H=ret (.bool (lU l k)) H
 |[],[],p,q,e1,e2,e3,_,_=>by
  refine ez (wT) ?_
  have hlt:decide ((p.length:Int)<((aI xs).length:Int))=false:=by rw[bf,e1];simp
  rw[hlt,cond_false]
  simp only[lU]
 |[],_::_,_,_,_,_,_,h,_=>by simp at h
 |_::_,[],_,_,_,_,_,h,_=>by simp at h
 |t::l,u::k,p,q,e1,e2,e3,e4,hok=>by
  simp only[Ty.oks]at hok
  have hlt:decide ((p.length:Int)<((aI xs).length:Int))=true:=by rw[bf,e1];simp;omega
  have h1:(aI xs)[p.length]? = some (cu t):=by rw[e1];exact iu _ _ _
  have h2:(aI ys)[p.length]? = some (cu u):=by rw[e2,e3];exact iu _ _ _
  have hw2:cS ((p.length:Int)+1)=(((p++[t]).length:Nat):Int):=by
   rw[bE (by
    have:xs.length=p.length+(l.length+1):=by rw[e1];simp
    omega)];simp
  have r1:=GU t u H hok.1
  have ih:=yO n m xs ys H h62 l k (p++[t]) (q++[u]) (by rw[e1];simp) (by rw[e2];simp) (by simp[e3]) (by simpa using e4) hok.2
  refine ez (wT) ?_
  obtain⟨tn,tx⟩:=t
  obtain⟨un,ux⟩:=u
  simp only[cu]at h1 h2 r1
  rw[hlt,cond_true,bH,bt h1]
  simp only[aj,aA]
  rw[bH,bt h2]
  simp only[aj,aA]
  rw[Ph r1]
  simp only[ck,ai,lU]
  rw[hw2,ih]
  cases EA (.mk tn tx) (.mk un ux)<;>simp only[Bool.not_true,Bool.not_false,cond_true,cond_false,Bool.true_and,Bool.false_and]
end
end Go.Proofs.YtenibcfppefobaaGreatDoor
set_option linter.all false
noncomputable section
namespace Go.Proofs.YtenibcfppefobaaGreatDoor
open Go.AI
mutual
theorem LX{kind:ac->Int}:∀ {t:Ty} {d c k:Nat},lX kind d t c=some k->k=c+bL t/\d+xQ t<=101/\k<=2000
 |.mk n xs,d,c,k,h=>by
  unfold lX at h
  split at h
  ·rename_i q
   have:=HF h (by omega) (by omega)
   simp only[bL,xQ];omega
  ·cases h
theorem HF{kind:ac->Int}:∀ {l:List Ty} {d c k:Nat},iZ kind d l c=some k->c<=2000->d<=101->k=c+bL.tszs l/\d+me l<=101/\k<=2000
 |[],d,c,k,h,hc,hd=>by cases h;simp only[bL.tszs,me];omega
 |t::r,d,c,k,h,hc,hd=>by
  unfold iZ at h
  split at h
  ·rename_i k1 hk
   have h1:=LX hk
   have h2:=HF h (by omega) hd
   simp only[bL.tszs,me];omega
  ·cases h
end
mutual
theorem PT{kind:ac->Int}:∀ {t:Ty} {d c k:Nat},lX kind d t c=some k->yC (fun _=>false) t
 |.mk n xs,d,c,k,h=>by
  unfold lX at h
  split at h
  ·rename_i q
   simp only[yC]
   refine⟨?_,(fun q=>by cases q),LV h⟩
   have:=q.1
   unfold oi at this
   repeat' split at this
   all_goals simp_all
   all_goals omega
  ·cases h
theorem LV{kind:ac->Int}:∀ {l:List Ty} {d c k:Nat},iZ kind d l c=some k->tN (fun _=>false) l
 |[],_,_,_,_=>trivial
 |t::r,d,c,k,h=>by
  unfold iZ at h
  split at h
  ·rename_i k1 hk
   exact⟨PT hk,LV h⟩
  ·cases h
end
theorem ig{kind:ac->Int}{t:Ty}(h:aS kind t≠0):yC (fun _=>false) t/\bL t<=2000/\aS kind t=bL t/\xQ t<=100:=by
 unfold aS at h ⊢
 cases q:lX kind 1 t 0 with
 |none=>rw[q]at h;exact(h rfl).elim
 |some k =>
  have:=LX q
  exact⟨PT q,by omega,by simp only[Option.getD_some];omega,by omega⟩
def Ew(kind:ac->Int):List (ac×Ty)->List (ac×Ty)->Bool
 |_,[]=>true
 |done,(n,t)::r=>(aE done n).isNone&&(kind n==4)&&!(aS kind t==0)&&Ew kind (done++[(n,t)]) r
def tK(b:ac×Ty):List D:=.str b.1::cu b.2
theorem Fq(s:ac)(x:D):∀ es,aE es s=none->rZ (.str s) x (bM es)=some (bM es++[(.str s,x)])
 |[],_=>rfl
 |(n,t)::r,h=>by
  unfold aE at h
  split at h
  ·cases h
  ·rename_i q
   have e:(s==n)=false:=by simpa using q
   have ih:=Fq s x r h
   simp only[bM]at ih
   simp only[bM,List.map_cons,rZ,iY,e,ih,List.cons_append]
theorem Lw(m:Nat)(s:ac)(v:D)(H:DH)(κ:DH->ag):fM ab 83 (.map m) (.str s) v H κ=jW H m fun es=>gQ (.str s) v es fun es=>κ (H.set m (.map es)):=by kernel_rfl
def Wu(kind:ac->Int)(H:DH)(b:Nat)(es:List (ac×Ty))(good:Bool)(t:Ty)(w:ag):Prop :=
 ∃ H' ds e,w=ret (.tuple [.agg ds,.i e]) H'/\(H.length<=H'.length/\∀ o,o<b->H'[o]? = H[o]?) /\
  ((good=false/\e=1/\ds=[.str [],.nilrow])\/(good=true/\aS kind (sub (aE es) t)=0/\e=39/\ds=[.str [],.nilrow])\/(good=true/\aS kind (sub (aE es) t)≠0/\e=0/\ds=cu (sub (aE es) t)))
theorem WB{σ:ac->Option Ty}(hσ:∀ s x,σ s=some x->x.ok):∀ t:Ty,t.ok->(sub σ t).ok:=by
 have h:∀ n,(∀ t:Ty,bL t<=n->t.ok->(sub σ t).ok):=fun n=>by
  induction n with
  |zero=>intro t h;obtain⟨m,xs⟩:=t;simp only[bL]at h;omega
  |succ n ih =>
   intro t h hok
   obtain⟨m,xs⟩:=t
   simp only[Ty.ok]at hok
   unfold sub
   split
   ·rename_i x hx;exact hσ _ _ hx
   ·simp only[Ty.ok]
    rw[mu,List.length_map,Ty.oks_iff]
    refine⟨hok.1,fun u hu=>?_⟩
    obtain⟨v,hv,rfl⟩:=List.mem_map.1 hu
    have:=uO hv
    simp only[bL]at h
    exact ih v (by omega) (Ty.oks_iff.1 hok.2 v hv)
 exact fun t=>h _ t (Nat.le_refl _)
theorem Nv{σ:ac->Option Ty}(hσ:∀ s x,σ s=some x->bL x<=2000):∀ n (t:Ty),bL t<=n->bL (sub σ t)<=2000*bL t:=fun n=>by
 induction n with
 |zero=>intro t h;obtain⟨m,xs⟩:=t;simp only[bL]at h;omega
 |succ n ih =>
  intro t h
  obtain⟨m,xs⟩:=t
  have hl:∀ l:List Ty,bL.tszs l<=n->bL.tszs (fT σ l)<=2000*bL.tszs l:=fun l=>by
   induction l with
   |nil=>intro _;simp[fT,bL.tszs]
   |cons x r ih2 =>
    intro hl
    simp only[bL.tszs]at hl
    have h1:=ih x (by omega)
    have h2:=ih2 (by omega)
    simp only[fT,bL.tszs];omega
  have hs:=hl xs (by simp only[bL]at h;omega)
  unfold sub
  split
  ·rename_i x hx
   have:=hσ _ _ hx
   simp only[bL];omega
  ·simp only[bL]at h ⊢
   omega
theorem se{s:ac}{x:Ty}:∀ {es:List (ac×Ty)},aE es s=some x->∃ p∈es,p.2=x
 |[],h=>by cases h
 |(n,t)::r,h=>by
  unfold aE at h
  split at h
  ·cases h;exact⟨_,List.mem_cons_self,rfl⟩
  ·obtain⟨p,h1,h2⟩:=se h
   exact⟨p,List.mem_cons_of_mem _ h1,h2⟩
theorem If{kind:ac->Int}(K:ua kind)(h0:∀ d k,lX kind d (.mk [] []) k=none)(n:ac)(xs:List Ty)(bs:List (ac×Ty))(h62:bs.length<=2000)(hW:yC (fun _=>false) (.mk n xs))(hok:(Ty.mk n xs).ok)(hts:bL (.mk n xs)<=2000)(hbs:∀ q∈bs,q.2.ok)(mo b:Nat):∀(l done:List (ac×Ty)) (H:DH),bs=done++l->H[mo]? = some (.map (bM done))->b<=mo->b<=H.length->(∀ q∈done,yC (fun _=>false) q.2/\bL q.2<=2000) ->
 Wu kind H b bs (Ew kind done l) (.mk n xs) (af ak 9 200007 [.lp 0 0,.lp 1 0,.g (.map mo),.g (.row 3 (bs.map tK)),.n (bs.length:Nat),.n (done.length:Nat)] [(0,[.str n,.row 2 (aI xs)]),(0,[.str [],.nilrow])] H)
 |[],done,H,e,hm,hbm,hb,hd=>by
  have hbd:bs=done:=by rw[e];simp
  have hlt:decide ((done.length:Int)<(bs.length:Int))=false:=by rw[hbd];simp
  have o1:∀(v w:Int) (κ:List D->ag),ar [D.i v] 0 [.i w] κ=κ [.i w]:=fun _ _ _=>rfl
  have a1:(H++[DB.cells (0+1) [.i ((0:Nat):Int)]])[mo]? = some (.map (bM done)):=jk hm
  have a2:(H++[DB.cells (0+1) [.i ((0:Nat):Int)]])[H.length]? = some (.cells (0+1) [.i ((0:Nat):Int)]):=bD _ _
  have hsz:=Nv (σ:=aE done) (fun s x h=>by obtain⟨q,h1,h2⟩:=se h;rw[<- h2];exact(hd q h1).2) _ (.mk n xs) (Nat.le_refl _)
  obtain⟨H',s',c',t',r1,r2,r3,r4,r5,r6,r7⟩:=PL h0 (fun q h=>(hd q h).1) hW a1 a2 (by omega)
  obtain⟨X,z1⟩:=kX K t' H' r7
  obtain⟨tn,tx⟩:=t'
  have fin:∀ z,(cond (((aS kind (.mk tn tx):Nat):Int)==0) (ret (.tuple [.agg [.str [],.nilrow],.i 39]) (H'++X)) (ret (.tuple [.agg (cu (.mk tn tx)),.i 0]) (H'++X)))=z->af ak 9 200007 [.lp 0 0,.lp 1 0,.g (.map mo),.g (.row 3 (bs.map tK)),.n (bs.length:Nat),.n (done.length:Nat)] [(0,[.str n,.row 2 (aI xs)]),(0,[.str [],.nilrow])] H=z:=fun z hz=>by
   refine ez (zF) ?_
   rw[hlt,cond_false]
   dsimp only
   rw[ae (bD _ _),o1,ju]
   simp only[cu]at r1 z1 hz
   rw[show((0:Nat):Int)=0 from rfl]at r1
   rw[ao r1,gC,vD]
   simp only[aj,aA]
   rw[ao z1,bJ,ai]
   exact hz
  have fr:∀ o,o<b->(H'++X)[o]? = H[o]?:=fun o h=>by
   have h1:o<H.length:=by omega
   have:=r2.1
   simp at this
   rw[List.getElem?_append_left (by omega),r2.2 o (by simp;omega) (by omega),List.getElem?_append_left h1]
  have len:H.length<=(H'++X).length:=by have:=r2.1;simp at this ⊢;omega
  by_cases q:aS kind (.mk tn tx)=0
  ·have e1:(((aS kind (.mk tn tx):Nat):Int)==0)=true:=by rw[q];rfl
   refine⟨H'++X,_,_,fin _ (by rw[e1,cond_true]),⟨len,fr⟩,.inr (.inl ⟨rfl,?_,rfl,rfl⟩)⟩
   rw[hbd]
   by_cases hs:aS kind (sub (aE done) (.mk n xs))=0
   ·exact hs
   ·obtain⟨_,w2,_⟩:=ig hs
    obtain⟨y1,_⟩:=r5 (by omega)
    rw[<- y1,q]
  ·have e1:(((aS kind (.mk tn tx):Nat):Int)==0)=false:=by simp;omega
   have hc:c'<=2000:=by
    rcases Nat.lt_or_ge 2000 c' with h|h
    ·exfalso
     apply q
     unfold aS
     rw[r6 h]
     rfl
    ·exact h
   obtain⟨y1,_⟩:=r5 hc
   refine⟨H'++X,_,_,fin _ (by rw[e1,cond_false]),⟨len,fr⟩,.inr (.inr ⟨rfl,?_,rfl,?_⟩)⟩
   ·rw[hbd,<- y1];exact q
   ·rw[hbd,<- y1]
 |(f,u)::l,done,H,e,hm,hbm,hb,hd=>by
  have hlt:decide ((done.length:Int)<(bs.length:Int))=true:=by rw[e];simp;omega
  have h2:(bs.map tK)[done.length]? = some (tK (f,u)):=by rw[e];simp
  have hw2:cS ((done.length:Int)+1)=(((done++[(f,u)]).length:Nat):Int):=by
   rw[bE (by
    have:bs.length=done.length+(l.length+1):=by rw[e];simp
    omega)];simp
  obtain⟨X,z1⟩:=kX K u H (hbs (f,u) (by rw[e];simp))
  obtain⟨un,ux⟩:=u
  have lk:=BM.look (H:=H) (m:=.map mo) (σ:=aE done) (.inr ⟨mo,done,rfl,hm,rfl⟩) f
  have err:∀(z:DH),H.length<=z.length->(∀ o,o<b->z[o]? = H[o]?)->af ak 9 200007 [.lp 0 0,.lp 1 0,.g (.map mo),.g (.row 3 (bs.map tK)),.n (bs.length:Nat),.n (done.length:Nat)] [(0,[.str n,.row 2 (aI xs)]),(0,[.str [],.nilrow])] H=ret (.tuple [.agg [.str [],.nilrow],.i 1]) z->Ew kind done ((f,.mk un ux)::l)=false->Wu kind H b bs (Ew kind done ((f,.mk un ux)::l)) (.mk n xs) (af ak 9 200007 [.lp 0 0,.lp 1 0,.g (.map mo),.g (.row 3 (bs.map tK)),.n (bs.length:Nat),.n (done.length:Nat)] [(0,[.str n,.row 2 (aI xs)]),(0,[.str [],.nilrow])] H):=fun z h1 h2 h3 h4=>⟨z,_,_,h3,⟨h1,h2⟩,.inl ⟨h4,rfl,rfl⟩⟩
  have start:∀ z,(eR ab 83 (.map mo) (.str f) true H fun i=>cO i 0 fun l=>cO i 1 fun i=>ah 2 l fun l=>ar [.str [],.nilrow] 0 l fun _=>brD i (ret (.tuple [.agg [.str [],.nilrow],.i 1]) H) (C ak 29 [.str f] H fun i H=>rI .not i fun i=>brD i (ret (.tuple [.agg [.str [],.nilrow],.i 1]) H) (C ak 7 [.agg [.str un,.row 2 (aI ux)]] H fun i H=>ay ab .eql 3 true i (.i 0) fun i=>brD i (ret (.tuple [.agg [.str [],.nilrow],.i 1]) H) (fM ab 83 (.map mo) (.str f) (.agg [.str un,.row 2 (aI ux)]) H fun H=>af ak 9 200007 [.lp 0 0,.lp 1 0,.g (.map mo),.g (.row 3 (bs.map tK)),.n (bs.length:Nat),.n (cS ((done.length:Nat)+1))] [(0,[.str n,.row 2 (aI xs)]),(0,[.str [],.nilrow])] H))))=z->af ak 9 200007 [.lp 0 0,.lp 1 0,.g (.map mo),.g (.row 3 (bs.map tK)),.n (bs.length:Nat),.n (done.length:Nat)] [(0,[.str n,.row 2 (aI xs)]),(0,[.str [],.nilrow])] H=z:=fun z hz=>by
   refine ez (zF) ?_
   simp only[tK,cu]at h2
   rw[hlt,cond_true,bH,bt h2]
   simp only[aj,aA]
   exact hz
  simp only[cu]at z1
  cases hn:aE done f with
  |some x =>
   obtain⟨xn,xx⟩:=x
   refine err H (Nat.le_refl _) (fun _ _=>rfl) (start _ ?_) (by simp[Ew,hn])
   rw[lk,hn]
   simp only[dn,aj,aA,cu,gC,vD,ai,cond_true]
  |none =>
   cases hv:kind f==4 with
   |false =>
    refine err H (Nat.le_refl _) (fun _ _=>rfl) (start _ ?_) (by simp[Ew,hv])
    rw[lk,hn]
    simp only[dn,aj,aA,gC,vD,ai,cond_false]
    rw[ao (jI K f H),hv]
    simp only[ck,Bool.not_false,ai,cond_true]
   |true =>
    by_cases hs:aS kind (.mk un ux)=0
    ·refine err (H++X) (by simp) (fun o h=>List.getElem?_append_left (by omega)) (start _ ?_) (by simp[Ew,hs])
     rw[lk,hn]
     simp only[dn,aj,aA,gC,vD,ai,cond_false]
     rw[ao (jI K f H),hv]
     simp only[ck,Bool.not_true,ai,cond_false]
     rw[ao z1,hs,bJ]
     rfl
    ·obtain⟨s1,s2,_⟩:=ig hs
     have m1:(H++X)[mo]? = some (.map (bM done)):=jk hm
     have eb:bM done++[(D.str f,D.agg [.str un,.row 2 (aI ux)])]=bM (done++[(f,.mk un ux)]):=by simp[bM,cu]
     have ih:=If K h0 n xs bs h62 hW hok hts hbs mo b l (done++[(f,.mk un ux)]) ((H++X).set mo (.map (bM (done++[(f,.mk un ux)])))) (by rw[e];simp) (bC _ m1) hbm (by simp;omega) (fun q hq=>by
      rcases List.mem_append.1 hq with hq|hq
      ·exact hd q hq
      ·simp at hq;rw[hq];exact⟨s1,s2⟩)
     have ea:Ew kind done ((f,.mk un ux)::l)=Ew kind (done++[(f,.mk un ux)]) l:=by
      have:(aS kind (.mk un ux)==0)=false:=by simpa using hs
      simp[Ew,hn,hv,this]
     rw[ea]
     obtain⟨H',ds,e',w1,w2,w3⟩:=ih
     refine⟨H',ds,e',start _ ?_,⟨by have:=w2.1;simp at this;omega,fun o h=>by rw[w2.2 o h,List.getElem?_set_ne (by omega),List.getElem?_append_left (by omega)]⟩,w3⟩
     rw[lk,hn]
     simp only[dn,aj,aA,gC,vD,ai,cond_false]
     rw[ao (jI K f H),hv]
     simp only[ck,Bool.not_true,ai,cond_false]
     have e0:(((aS kind (.mk un ux):Nat):Int)==0)=false:=by simp;omega
     rw[ao z1,bJ,e0]
     simp only[ai,cond_false]
     rw[Lw,dz m1,gQ,Fq f _ done hn]
     dsimp only
     rw[eb,hw2]
     exact w1
def kz(kind:ac->Int)(bs:List (ac×Ty)):Bool:=decide (bs.length<=2000)&&Ew kind [] bs
theorem MP{kind:ac->Int}(K:ua kind)(h0:∀ d k,lX kind d (.mk [] []) k=none)(bs:List (ac×Ty))(t:Ty)(H:DH)(hbs:∀ q∈bs,q.2.ok)(hok:t.ok):∃ H' ds e,az 9 [.row 3 (bs.map tK),.agg (cu t)] H=ret (.tuple [.agg ds,.i e]) H'/\(H.length<=H'.length/\∀ o,o<H.length->H'[o]? = H[o]?) /\
 ((aS kind t=0/\e=32/\ds=[.str [],.nilrow])\/(aS kind t≠0/\((kz kind bs=false/\e=1/\ds=[.str [],.nilrow])\/(kz kind bs=true/\aS kind (sub (aE bs) t)=0/\e=39/\ds=[.str [],.nilrow])\/(kz kind bs=true/\aS kind (sub (aE bs) t)≠0/\e=0/\ds=cu (sub (aE bs) t))))):=by
 obtain⟨X,z1⟩:=kX K t H hok
 obtain⟨n,xs⟩:=t
 have z2:=z1
 simp only[cu]at z2
 by_cases q:aS kind (.mk n xs)=0
 ·refine⟨H++X,[.str [],.nilrow],32,ev (by simp only[cu];exact f9) ?_,⟨by simp,fun o h=>List.getElem?_append_left h⟩,.inl ⟨q,rfl,rfl⟩⟩
  rw[ao z2,bJ,q]
  rfl
 ·have e1:(((aS kind (.mk n xs):Nat):Int)==0)=false:=by simp;omega
  have hl:(bs.map tK).length=bs.length:=List.length_map _
  by_cases h1:bs.length<=2000
  ·have e2:decide (((bs.map tK).length:Int)>2000)=false:=by rw[hl];simp;omega
   obtain⟨w1,w2,_⟩:=ig q
   have m1:(H++X++[DB.map []])[(H++X).length]? = some (.map (bM [])):=bD _ _
   obtain⟨H',ds,e,r1,r2,r3⟩:=If K h0 n xs bs h1 w1 hok w2 hbs (H++X).length H.length bs [] (H++X++[.map []]) rfl m1 (by simp) (by simp) (fun _ h=>nomatch h)
   refine⟨H',ds,e,ev (by simp only[cu];exact f9) ?_,⟨by have:=r2.1;simp at this;omega,fun o h=>?_⟩,.inr ⟨q,?_⟩⟩
   ·rw[ao z2,bJ,e1]
    simp only[ai,cond_false]
    rw[e2,cond_false,hl]
    exact r1
   ·rw[r2.2 o h,List.getElem?_append_left (by simp;omega),List.getElem?_append_left h]
   ·have:kz kind bs=Ew kind [] bs:=by simp[kz,h1]
    rw[this]
    exact r3
  ·have e2:decide (((bs.map tK).length:Int)>2000)=true:=by rw[hl];simp;omega
   refine⟨H++X,[.str [],.nilrow],1,ev (by simp only[cu];exact f9) ?_,⟨by simp,fun o h=>List.getElem?_append_left h⟩,.inr ⟨q,.inl ⟨by simp[kz,h1],rfl,rfl⟩⟩⟩
   rw[ao z2,bJ,e1]
   simp only[ai,cond_false]
   rw[e2,cond_true]
end Go.Proofs.YtenibcfppefobaaGreatDoor
set_option linter.all false
noncomputable section
namespace Go.Proofs.YtenibcfppefobaaGreatDoor
open Go.AI
theorem EH{kind:ac->Int}(K:ua kind)(all:List Ty)(h16:all.length<=16):∀(l pre:List Ty) (H:DH),all=pre++l->Ty.oks l ->
 ∃ X,af ak 8 200004 [.g (.row 2 (aI all)),.g (.row 2 (aI all)),.n (all.length:Nat),.n (pre.length:Nat)] [] H=(if ∃ t∈l,aS kind t=0 then ret (.tuple [.row 3 [],.i 32]) (H++X)else af ak 8 200012 [.g (.ptr ((H++X).length+1) 0),.g .nilrow,.g (.row 2 (aI all)),.n (all.length:Nat),.n 0] [] (H++X++[.map []]++[.cells 0 [.map (H++X).length,.nilrow]]))
 |[],pre,H,e,_=>by
  refine⟨[],ez (zI) ?_⟩
  have hlt:decide ((pre.length:Int)<(all.length:Int))=false:=by rw[e];simp
  rw[hlt,cond_false,if_neg (fun⟨_,h,_⟩=>nomatch h)]
  simp only[List.append_nil,bf]
  rw[show(H++[DB.map []]).length=H.length+1 from by simp]
 |t::l,pre,H,e,hok=>by
  simp only[Ty.oks]at hok
  obtain⟨X,z1⟩:=kX K t H hok.1
  obtain⟨Y,ih⟩:=EH K all h16 l (pre++[t]) (H++X) (by rw[e];simp) hok.2
  have hlt:decide ((pre.length:Int)<(all.length:Int))=true:=by rw[e];simp;omega
  have h2:(aI all)[pre.length]? = some (cu t):=by rw[e];exact iu _ _ _
  have hw2:cS ((pre.length:Int)+1)=(((pre++[t]).length:Nat):Int):=by
   rw[bE (by
    have:all.length=pre.length+(l.length+1):=by rw[e];simp
    omega)];simp
  have st:∀ z,(cond (((aS kind t:Nat):Int)==0) (ret (.tuple [.row 3 [],.i 32]) (H++X)) (af ak 8 200004 [.g (.row 2 (aI all)),.g (.row 2 (aI all)),.n (all.length:Nat),.n ((pre++[t]).length:Nat)] [] (H++X)))=z->af ak 8 200004 [.g (.row 2 (aI all)),.g (.row 2 (aI all)),.n (all.length:Nat),.n (pre.length:Nat)] [] H=z:=fun z hz=>by
   refine ez (zI) ?_
   obtain⟨tn,tx⟩:=t
   simp only[cu]at h2 z1
   rw[hlt,cond_true,bH,bt h2]
   simp only[aj,aA]
   rw[ao z1,bJ,ai,hw2]
   exact hz
  by_cases q:aS kind t=0
  ·refine⟨X,st _ ?_⟩
   rw[if_pos ⟨t,List.mem_cons_self,q⟩,q]
   rfl
  ·have e1:(((aS kind t:Nat):Int)==0)=false:=by simp;omega
   refine⟨X++Y,st _ ?_⟩
   rw[e1,cond_false,ih]
   have eq:(∃ t'∈t::l,aS kind t'=0)↔∃ t'∈l,aS kind t'=0:=by
    constructor
    ·intro⟨t',h,h0⟩
     rcases List.mem_cons.1 h with rfl|h
     ·exact(q h0).elim
     ·exact⟨t',h,h0⟩
    ·intro⟨t',h,h0⟩
     exact⟨t',List.mem_cons_of_mem _ h,h0⟩
   simp only[eq,List.append_assoc]
end Go.Proofs.YtenibcfppefobaaGreatDoor
set_option linter.all false
noncomputable section
namespace Go.Proofs.YtenibcfppefobaaGreatDoor
open Go.AI
theorem Kz{kind:ac->Int}(K:ua kind)(all:List Ty)(h16:all.length<=16)(h0 p mo:Nat)(hp0:h0<=p)(hm0:h0<=mo):∀(l pre:List Ty) (H:DH) (d dl:D) (os bs:List Nat) (N:List bu) (T:List Ty) (vs ks:List Nat),GT (fun n=>kind n==4) H p mo dl os bs N T vs->bK H d (ks.map (oN os))->(∀ a∈ks,a<N.length)->ks.map (fun a=>T[a]?)=pre.map some ->
 (∀ b n,d=.buf 1 b n->b∉bs/\h0<=b/\∀ n,dl≠.buf 1 b n)->(∀ b n,dl=.buf 1 b n->h0<=b)->h0<=H.length->all=pre++l->tN (fun n=>kind n==4) l->N.length+bL.tszs l<1000000->Cv [] N ks ->
 ∃(H':DH) (d' dl':D) (os' bs':List Nat) (N':List bu) (T':List Ty) (vs' ks':List Nat),af ak 8 200012 [.g (.ptr p 0),.g d,.g (.row 2 (aI all)),.n (all.length:Nat),.n (pre.length:Nat)] [] H=af ak 8 200017 [.g (.ptr p 0),.g d',.g d',.n (all.length:Nat),.n 0] [] H' /\
  GT (fun n=>kind n==4) H' p mo dl' os' bs' N' T' vs'/\bK H' d' (ks'.map (oN os'))/\(∀ a∈ks',a<N'.length)/\ks'.map (fun a=>T'[a]?)=all.map some/\Cv [] N' ks'/\N'.length<=N.length+bL.tszs l/\(H.length<=H'.length/\∀ o,o<h0->H'[o]? = H[o]?)
 |[],pre,H,d,dl,os,bs,N,T,vs,ks,g,hd,ha,ht,b1,b2,hh,e,hw,hN,hcv=>by
  have hks:ks.length=pre.length:=by have:=congrArg List.length ht;simpa using this
  have hpre:all=pre:=by rw[e];simp
  refine⟨H,d,dl,os,bs,N,T,vs,ks,ez (zH) ?_,g,hd,ha,by rw[hpre];exact ht,hcv,Nat.le_add_right _ _,Nat.le_refl _,fun _ _=>rfl⟩
  have hlt:decide ((pre.length:Int)<(all.length:Int))=false:=by rw[hpre];simp
  rw[hlt,cond_false,hd.len,List.length_map,hks,hpre]
 |t::l,pre,H,d,dl,os,bs,N,T,vs,ks,g,hd,ha,ht,b1,b2,hh,e,hw,hN,hcv=>by
  simp only[tN]at hw
  simp only[bL.tszs]at hN
  obtain⟨H1,dl1,os1,bs1,N1,T1,vs1,i,r1,g1,r3,e1,c1⟩:=GP K t H p mo dl os bs N T vs g hw.1 (by omega)
  have hks:ks.length=pre.length:=by have:=congrArg List.length ht;simpa using this
  have hxl:all.length=pre.length+(l.length+1):=by rw[e];simp
  have dk:∀ b n,d=.buf 1 b n->H1[b]? = H[b]?/\b<H.length:=fun b n q=>by
   obtain⟨hbl,st,cp,l,hb⟩:=hd.lt q
   obtain⟨s',hp⟩:=g.pg
   exact⟨e1.efr b hbl (fun q'=>by rw[q',hp]at hb;cases hb) (fun q'=>by rw[q',g.mp]at hb;cases hb) (b1 b n q).2.2,hbl⟩
  have hko:∀ a∈ks,a<os.length:=fun a h=>by rw[g.len];exact ha a h
  have osm:ks.map (oN os1)=ks.map (oN os):=by
   obtain⟨X,q,_⟩:=e1.eos
   rw[q];exact fF hko
  have d1:bK H1 d (ks.map (oN os1)):=by rw[osm];exact hd.chg fun b n q=>(dk b n q).1
  obtain⟨d2,H2,u1,u2,u3,u4,⟨b2',n2,hd2,hb2⟩,u6⟩:=Ss d1 (by rw[List.length_map];omega) (oN os1 i)
  have db:∀ b n,d=.buf 1 b n->b∉bs1:=fun b n q h=>by
   obtain⟨X,q',x⟩:=e1.ebs
   rw[q']at h
   rcases List.mem_append.1 h with h|h
   ·exact(b1 b n q).1 h
   ·have:=x b h;have:=(dk b n q).2;omega
  have dd:∀ b n,d=.buf 1 b n->∀ n',dl1≠.buf 1 b n':=fun b n q n' q'=>by
   rcases e1.edl b n' q' with⟨n2,h⟩|h
   ·exact(b1 b n q).2.2 n2 h
   ·have:=(dk b n q).2;omega
  obtain⟨sp,hp1⟩:=g1.pg
  have cellsNe:∀ x:Nat,(∃ s c,H1[x]? = some (.cells s c))->∀ n,d≠.buf 1 x n:=fun x ⟨s,c,h⟩ n q=>by
   obtain⟨_,st,cp,l,hb⟩:=d1.lt q
   rw[h]at hb;cases hb
  have osc:∀ x∈os1,∃ s c,H1[x]? = some (.cells s c):=fun x hx=>by
   obtain⟨j,hj⟩:=List.getElem?_of_mem hx
   obtain⟨s,d,h1,_⟩:=g1.ob j _ (List.getElem?_eq_getElem (by rw[<- g1.len];exact aB hj))
   rw[show oN os1 j=x by unfold oN;rw[hj];rfl]at h1
   exact⟨s,_,h1⟩
  have g2:GT (fun n=>kind n==4) H2 p mo dl1 os1 bs1 N1 T1 vs1:=by
   refine g1.chg (fun x hx=>?_) (fun x hx=>?_) ⟨sp,?_⟩ (fun x n q=>?_) ?_ u3
   ·obtain⟨s,c,h⟩:=osc x hx
    exact u4 x (aB h) (cellsNe x ⟨s,c,h⟩)
   ·exact u4 x (g1.bb x hx) (fun n q=>db x n q hx)
   ·rw[u4 p (aB hp1) (cellsNe p ⟨_,_,hp1⟩),hp1]
   ·obtain⟨h1,st,cp,l,hb⟩:=g1.al.lt q
    exact u4 x h1 (fun n' q'=>dd x n' q' n q)
   ·exact u4 mo (aB g1.mp) (fun n q=>by obtain⟨_,st,cp,l,hb⟩:=d1.lt q;rw[g1.mp]at hb;cases hb)
  have i1:i<N1.length:=by rw[<- g1.gn.len];exact aB r3
  obtain⟨H',d',dl',os',bs',N',T',vs',ks',w1,w2,w3,w4,w5,wcv,wl,w6⟩:=Kz K all h16 h0 p mo hp0 hm0 l (pre++[t]) H2 d2 dl1 os1 bs1 N1 T1 vs1 (ks++[i]) g2 (by rw[List.map_append];exact u2) (fun a h=>by
   rcases List.mem_append.1 h with h|h
   ·obtain⟨X,q⟩:=e1.eN
    have:=ha a h
    rw[q];simp;omega
   ·simp at h;rw[h];exact i1) (by
   obtain⟨X,q⟩:=e1.eT
   rw[List.map_append,List.map_append]
   congr 1
   ·rw[<- ht,q]
    refine List.map_congr_left fun a h=>List.getElem?_append_left ?_
    rw[g.gn.len];exact ha a h
   ·simp[r3]) (fun b n q=>by
   rw[hd2]at q;cases q
   rcases hb2 with⟨n',q⟩|q
   ·exact⟨db _ n' q,(b1 _ n' q).2.1,dd _ n' q⟩
   ·refine⟨fun h=>by have:=g1.bb _ h;omega,by have:=e1.elen;omega,fun n q'=>?_⟩
    have:=(g1.al.lt q').1
    omega) (fun b n q=>by
   rcases e1.edl b n q with⟨n',h⟩|h
   ·exact b2 b n' h
   ·omega) (by have:=e1.elen;omega) (by rw[e];simp) hw.2 (by have:=e1.ek;omega) (hcv.snoc c1 e1.eN)
  refine⟨H',d',dl',os',bs',N',T',vs',ks',ez (zH) ?_,w2,w3,w4,w5,wcv,(by have:=e1.ek;simp only[bL.tszs];omega),⟨by have:=e1.elen;have:=w6.1;omega,fun o h=>?_⟩⟩
  ·have hlt:decide ((pre.length:Int)<(all.length:Int))=true:=by rw[hxl];simp;omega
   have h2:(aI all)[pre.length]? = some (cu t):=by rw[e];exact iu _ _ _
   have hw2:cS ((pre.length:Int)+1)=(((pre++[t]).length:Nat):Int):=by
    rw[bE (by omega)];simp
   obtain⟨tn,ts⟩:=t
   simp only[cu]at h2 r1
   rw[hlt,cond_true,bH,bt h2]
   simp only[aj,aA]
   rw[ao r1,HT,u1,hw2]
   exact w1
  ·rw[w6.2 o h,u4 o (by have:=e1.elen;omega) (fun n q=>by have:=(b1 o n q).2.1;omega),e1.efr o (by omega) (by omega) (by omega) (fun n q=>by have:=b2 o n q;omega)]
end Go.Proofs.YtenibcfppefobaaGreatDoor
set_option linter.all false
noncomputable section
namespace Go.Proofs.YtenibcfppefobaaGreatDoor
open Go.AI
theorem GT.gr{isV:ac->Bool}{H:DH}{p mo:Nat}{dl:D}{os bs:List Nat}{N:List bu}{T:List Ty}{vs:List Nat}(g:GT isV H p mo dl os bs N T vs):ct H os N (N.map fun _=>none)/\Wf (N.map fun _=>none)/\Eu N (N.map fun _=>none) []:=by
 have hl:∀(i:Nat) (x:Option Nat),(N.map fun _=>(none:Option Nat))[i]? = some x->x=none:=fun i x h=>by
  rw[List.getElem?_map]at h
  cases q:N[i]? with
  |none=>rw[q]at h;cases h
  |some y=>rw[q]at h;cases h;rfl
 refine⟨⟨g.len,by simp,g.nd,fun i x hx=>?_,fun i x hx a ha=>?_,(fun i j h=>by cases hl i _ h),g.sm⟩,fun i h=>⟨i,0,.z ?_⟩,(fun i j x h=>by cases hl i _ h)⟩
 ·obtain⟨s,d,h1,h2,_⟩:=g.ob i x hx
  have:(N.map fun _=>(none:Option Nat))[i]? = some none:=by rw[List.getElem?_map,hx];rfl
  exact⟨s,d,by rw[this];exact h1,h2⟩
 ·have:=g.gn.kid i x hx a ha
  have:=aB hx
  omega
 ·have h':i<N.length:=by simpa using h
  rw[List.getElem?_map,List.getElem?_eq_getElem h'];rfl
theorem bK.els{H H':DH}{os:List Nat}{N:List bu}{L:Lk}(g:ct H os N L)(k:uK H H' os){d:D}{l:List Nat}(h:bK H d l):bK H' d l:=by
 refine h.chg fun o n e=>?_
 obtain⟨h1,st,cp,l',h2⟩:=h.lt e
 exact k.at' o h1 fun q=>by obtain⟨s,c,e⟩:=g.nm q;rw[e]at h2;cases h2
def Iy(d:D)(p:Nat)(H:DH):ag:=C ak 25 [d] H fun a H=>rI .not a fun a=>brD a (ret (.tuple [.row 3 [],.i 31]) H) (aG H p fun _ a=>aF a 1 fun a=>eC ab 71 a H fun b=>af ak 8 200026 [.g .nilrow,.g a,.g b,.n 0] [] H)
theorem Ky{os:List Nat}{N:List bu}{d:D}{p:Nat}{ks:List Nat}(h16:ks.length<=16){a0:Nat}(h0:ks[0]? = some a0)(hk:∀ a∈ks,a<N.length):∀(l pre:List Nat) (H:DH) (L:Lk),ct H os N L->Wf L->bK H d (ks.map (oN os))->ks=pre++l ->
 ∃ q H' L',af ak 8 200017 [.g (.ptr p 0),.g d,.g d,.n (ks.length:Nat),.n (pre.length:Nat)] [] H=(match q with|true=>Iy d p H'|false=>ret (.tuple [.row 3 [],.i 30]) H')/\ct H' os N L'/\US N L (l.map fun a=>(a0,a)) q L'/\uK H H' os
 |[],pre,H,L,g,hw,hd,e=>by
  refine⟨true,H,L,ez (sG) ?_,g,.nil hw,.refl _ _⟩
  have hlt:decide ((pre.length:Int)<(ks.length:Int))=false:=by rw[e];simp
  rw[hlt,cond_false]
  rfl
 |a::l,pre,H,L,g,hw,hd,e=>by
  have ia:(ks.map (oN os))[pre.length]? = some (oN os a):=by rw[List.getElem?_map,e];simp
  have i0:(ks.map (oN os))[0]? = some (oN os a0):=by rw[List.getElem?_map,h0];rfl
  have hlt:decide ((pre.length:Int)<(ks.length:Int))=true:=by rw[e];simp;omega
  have hw2:cS ((pre.length:Int)+1)=(((pre++[a]).length:Nat):Int):=by
   rw[bE (by
    have:ks.length=pre.length+(l.length+1):=by rw[e];simp
    omega)];simp
  obtain⟨q,H1,L1,r1,r2,r3,r4⟩:=SO g hw (hk a0 (List.mem_of_getElem? h0)) (hk a (by rw[e];simp))
  have st:∀ z,(match q with|true=>af ak 8 200017 [.g (.ptr p 0),.g d,.g d,.n (ks.length:Nat),.n ((pre++[a]).length:Nat)] [] H1|false=>ret (.tuple [.row 3 [],.i 30]) H1)=z->af ak 8 200017 [.g (.ptr p 0),.g d,.g d,.n (ks.length:Nat),.n (pre.length:Nat)] [] H=z:=fun z hz=>by
   refine ez (sG) ?_
   have at0:=hd.at' i0 (κ:=fun e=>C ak 24 [e,.ptr (oN os a) 0] H fun d_1 H=>rI .not d_1 fun d_1=>brD d_1 (ret (.tuple [.row 3 [],.i 30]) H) (af ak 8 200017 [.g (.ptr p 0),.g d,.g d,.n (ks.length:Nat),.n (cS ((pre.length:Nat)+1))] [] H))
   rw[show((0:Nat):Int)=0 from rfl]at at0
   rw[hlt,cond_true,hd.at' ia,at0,ao r1]
   simp only[ck,ai]
   rw[hw2,<- hz]
   cases q<;>simp only[Bool.not_true,Bool.not_false,cond_true,cond_false]
  cases q with
  |false=>exact⟨false,H1,L1,st _ rfl,r2,.stop r3,r4⟩
  |true =>
   obtain⟨q',H2,L2,w1,w2,w3,w4⟩:=Ky h16 h0 hk l (pre++[a]) H1 L1 r2 r3.wf (hd.els g r4) (by rw[e];simp)
   exact⟨q',H2,L2,st _ w1,w2,.cons r3 w3,r4.trans w4⟩
end Go.Proofs.YtenibcfppefobaaGreatDoor
set_option linter.all false
noncomputable section
namespace Go.Proofs.YtenibcfppefobaaGreatDoor
open Go.AI
theorem ES{m:Nat}(h:m<=4194304):aT ab 52 m=true:=by
 have e:aT ab 52 m=(Nat.ble (56*(m+Nat.div m 4+600)) 281474976710656&&Nat.ble m 4611686018427387904):=by kernel_rfl
 rw[e,Bool.and_eq_true]
 have h1:Nat.div m 4<=m:=Nat.div_le_self m 4
 exact⟨Nat.ble_eq_true_of_le (by omega),Nat.ble_eq_true_of_le (by omega)⟩
structure Kq(H H':DH):Prop where
 len:H.length<=H'.length
 nb:∀ o,o<H.length->(∀ st cp l,H[o]?≠some (.buf 3 st cp l))->H'[o]? = H[o]?
theorem Ac.add3{H:DH}{l:eA}{d:D}(h:Ac H 0 3 l d)(hl:l.length<4194304)(x:List D):∃ d' H',(∀ κ:D->DH->ag,eG (aT ab 52) 3 d [x] H κ=κ d' H')/\Ac H' 0 3 (l++[x]) d'/\Kq H H':=by
 rcases h with⟨rfl,rfl⟩|⟨o,ho,rfl,h⟩
 ·refine⟨.buf 3 H.length 1,H++[.buf 3 true false [x]],fun κ=>?_,.inr ⟨H.length,Nat.zero_le _,rfl,bD _ _⟩,⟨by simp,fun o h _=>List.getElem?_append_left h⟩⟩
  simp only[eG,List.length_singleton,ES (show 1<=4194304 by decide),boK,cond_true]
  rfl
 ·refine⟨.buf 3 o (l++[x]).length,H.set o (.buf 3 true false (l++[x])),fun κ=>?_,.inr ⟨o,ho,rfl,bC _ h⟩,⟨by simp,fun o' _ q=>List.getElem?_set_ne (fun e=>q _ _ _ (e▸h))⟩⟩
  have h4:=dA h (κ:=fun _ st cap l2=>boK (aT ab 52 (l2.length+1)&&!(cap&&List.isEmpty [x])) (grow o 3 st cap l2 [x] H κ))
  simp only[eG,List.length_singleton,ES (show 1<=4194304 by decide),boK,cond_true,Nat.beq_refl]
  refine Eq.trans h4 ?_
  rw[ES (by omega)]
  simp only[List.isEmpty_cons,Bool.and_false,Bool.not_false,Bool.and_self,boK,cond_true,grow,cond_false]
  simp
theorem Ac.fz3{H:DH}{l:eA}{d:D}(h:Ac H 0 3 l d):∃ H',∀ κ:D->DH->ag,il (.fz 3) 0 d H κ=κ (.row 3 l) H':=by
 rcases h with⟨rfl,rfl⟩|⟨o,ho,rfl,h⟩
 ·exact⟨H,fun _=>rfl⟩
 ·refine⟨H.set o (.buf 3 false false l),fun κ=>?_⟩
  show fN (.fz 3) (.buf 3 o l.length) H κ=_
  rw[fN,dA h]
  rfl
theorem Ac.mv{H H':DH}{l:eA}{d:D}{z:Nat}(h:Ac H 0 z l d)(k:∀(o:Nat) (st cp:Bool) (l:eA),H[o]? = some (DB.buf z st cp l)->H'[o]? = H[o]?):Ac H' 0 z l d:=by
 rcases h with⟨rfl,rfl⟩|⟨o,ho,rfl,h⟩
 ·exact .inl ⟨rfl,rfl⟩
 ·exact .inr ⟨o,ho,rfl,by rw[k o _ _ _ h,h]⟩
theorem ct.kq{H H':DH}{os:List Nat}{N:List bu}{L:Lk}(g:ct H os N L)(k:Kq H H'):ct H' os N L :=
 ⟨g.len,g.lenL,g.nd,fun i x hx=>by
  obtain⟨s,d,h1,h2⟩:=g.ob i x hx
  exact⟨s,d,by rw[k.nb _ (aB h1) (fun _ _ _ e=>by rw[h1]at e;cases e),h1],by
   rcases h2 with⟨rfl,e⟩|⟨o,st,cp,rfl,h⟩
   ·exact .inl ⟨rfl,e⟩
   ·exact .inr ⟨o,st,cp,rfl,by rw[k.nb _ (aB h) (fun _ _ _ e=>by rw[h]at e;cases e),h]⟩⟩,g.kid,g.lk,g.sm⟩
theorem Tr.hasRt{N:List bu}{L:Lk}{i:Nat}{t:Ty}(h:Tr N L i t):∃ r m,Rt L i r m:=by cases h with
 |var h _ _=>exact⟨_,_,h⟩
 |con h _ _ _=>exact⟨_,_,h⟩
def pE(N:List bu)(rt:Nat->Bool)(ty:Nat->Ty):List Nat->List (ac×Ty)
 |[]=>[]
 |v::r=>if rt v then pE N rt ty r else(iS N v,ty v)::pE N rt ty r
def Xj(N:List bu)(rt:Nat->Bool)(ty:Nat->Ty)(done:List (ac×Ty))(l:List Nat)(w:ag):Prop :=
 ((∃ H',w=ret (.tuple [.row 3 [],.i 39]) H')/\∃ v∈l,rt v=false/\(2000<bL (ty v)\/100<xQ (ty v)))\/(∃ H',w=ret (.tuple [.row 3 ((done++pE N rt ty l).map tK),.i 0]) H')/\∀ v∈l,rt v=false->bL (ty v)<=2000/\xQ (ty v)<=100
theorem EI{os:List Nat}{N:List bu}{d:D}{all:List Nat}(hall:all.length<4194304)(rt:Nat->Bool)(ty:Nat->Ty)(hv:∀(i:Nat) (x:bu),N[i]? = some x->x.v=true->x.a=[])(hk:∀ a∈all,a<N.length):∀(l pre:List Nat) (H:DH) (L:Lk) (done:List (ac×Ty)) (a:D),ct H os N L->(∀ i,i<N.length->Tr N L i (ty i))->(∀ i,i<N.length->(rt i=true↔L[i]? = some none))->bK H d (all.map (oN os))->Ac H 0 3 (done.map tK) a->all=pre++l->done.length<=pre.length ->
 Xj N rt ty done l (af ak 8 200026 [.g a,.g d,.n (all.length:Nat),.n (pre.length:Nat)] [] H)
 |[],pre,H,L,done,a,g,ht,hr,hd,ha,e,hl=>by
  have hlt:decide ((pre.length:Int)<(all.length:Int))=false:=by rw[e];simp
  obtain⟨H',u⟩:=ha.fz3
  refine .inr ⟨⟨H',ez (zG) ?_⟩,fun _ h=>nomatch h⟩
  rw[hlt,cond_false,u]
  simp[pE]
 |v::l,pre,H,L,done,a,g,ht,hr,hd,ha,e,hl=>by
  have hlt:decide ((pre.length:Int)<(all.length:Int))=true:=by rw[e];simp;omega
  have hw2:cS ((pre.length:Int)+1)=(((pre++[v]).length:Nat):Int):=by
   rw[bE (by
    have:all.length=pre.length+(l.length+1):=by rw[e];simp
    omega)];simp
  have iv:(all.map (oN os))[pre.length]? = some (oN os v):=by rw[List.getElem?_map,e];simp
  have lv:v<N.length:=hk v (by rw[e];simp)
  have hrt:=(ht v lv).hasRt
  obtain⟨r,m,hrt⟩:=hrt
  obtain⟨H1,L1,r1,g1,q1,l1⟩:=SS g hrt
  obtain⟨m1,_,hr1⟩:=q1.rt _ _ _ hrt
  have lr:r<N.length:=by rw[<- g1.lenL];exact aB hr1.root
  have x0:=List.getElem?_eq_getElem lv
  generalize N[v]=x at x0
  have y0:=List.getElem?_eq_getElem lr
  generalize N[r]=y at y0
  obtain⟨s0,dx,ox,_⟩:=g1.ob v x x0
  obtain⟨s1,dy,oy,_⟩:=g1.ob r y y0
  have ht1:∀ i,i<N.length->Tr N L1 i (ty i):=fun i hi=>(ht i hi).eqv q1
  have hr1':∀ i,i<N.length->(rt i=true↔L1[i]? = some none):=fun i hi=>(hr i hi).trans (q1.ro i)
  have hd1:=hd.els g l1
  have ha1:Ac H1 0 3 (done.map tK) a:=ha.mv fun o st cp l h=>l1.at' o (aB h) fun q=>(by obtain⟨s,c,e⟩:=g.nm q;rw[e]at h;cases h)
  have nmo:iS N v=x.n:=by simp[iS,x0]
  have beqo:Nat.beq (oN os r) (oN os v)=rt v:=by
   cases q:rt v with
   |true =>
    have:r=v:=((hr1.det (.z ((hr1' v lv).1 q))).1)
    rw[this,Nat.beq_refl]
   |false =>
    refine BO fun e'=>?_
    have e2:r=v:=rW g1.nd (by rw[g1.len];exact lr) (by rw[g1.len];exact lv) e'
    have:=(hr1' v lv).2 (by rw[<- e2];exact hr1.root)
    rw[this]at q;cases q
  have o1:∀(v w:Int) (κ:List D->ag),ar [D.i v] 0 [.i w] κ=κ [.i w]:=fun _ _ _=>rfl
  have base:∀ z,(cond (rt v) (af ak 8 200026 [.g a,.g d,.n (all.length:Nat),.n ((pre++[v]).length:Nat)] [] H1) (C ak 27 [.ptr (oN os v) 0,.i (1:Nat),.ptr H1.length 0,.func 28 [] []] (H1++[.cells 1 [.i ((0:Nat):Int)]]) fun f g=>ah 2 f fun f=>ar [.str [],.nilrow] 0 f fun f=>aG g H1.length fun _ h=>aF h 0 fun h=>ay ab .gtr 3 true h (.i 2000) fun h=>brD h (ret (.tuple [.row 3 [],.i 39]) g) (eD (.ptr (oN os v) 0) fun n=>dt n 1 fun n=>eZ ab 9 n g fun n=>aF f 0 fun h=>aF f 1 fun f=>ah 1 n fun n=>ar [.str [],.str [],.nilrow] 0 n fun n=>ar n 1 [h,f] fun n=>ah 3 (.agg n) fun n=>eG (aT ab 52) 3 a [n] g fun a H=>af ak 8 200026 [.g a,.g d,.n (all.length:Nat),.n ((pre++[v]).length:Nat)] [] H)))=z->af ak 8 200026 [.g a,.g d,.n (all.length:Nat),.n (pre.length:Nat)] [] H=z:=fun z hz=>by
   refine ez (zG) ?_
   rw[hlt,cond_true,hd.at' iv,ao r1,VM (fX oy) (fX ox),beqo,ai,hw2,ae (bD _ _),o1,ju]
   exact hz
  cases hq:rt v with
  |true =>
   have ih:=EI hall rt ty hv hk l (pre++[v]) H1 L1 done a g1 ht1 hr1' hd1 ha1 (by rw[e];simp) (by simp;omega)
   rw[base _ (by rw[hq,cond_true])]
   rcases ih with⟨ih,v',hv',hw'⟩|⟨⟨H',ih⟩,ih2⟩
   ·exact .inl ⟨ih,v',List.mem_cons_of_mem _ hv',hw'⟩
   ·refine .inr ⟨⟨H',by rw[ih];simp[pE,hq]⟩,fun v' h h0=>?_⟩
    rcases List.mem_cons.1 h with rfl|h
    ·rw[hq]at h0;cases h0
    ·exact ih2 v' h h0
  |false =>
   have gX:ct (H1++[.cells 1 [.i ((0:Nat):Int)]]) os N L1:=g1.app
   have pX:(H1++[DB.cells 1 [.i ((0:Nat):Int)]])[H1.length]? = some (.cells 1 [.i ((0:Nat):Int)]):=bD _ _
   obtain⟨H2,L2,s2,c2,t2,w1,w2,w3,w4,w5,w6,w7,w8⟩:=yU (ty v) _ os N L1 v H1.length 1 0 1 gX hv (ht1 v lv) pX (fun q=>by have:=g1.ltm q;omega) (by omega) (by omega)
   rw[base _ rfl,hq,cond_false,ao w1]
   obtain⟨tn,tx⟩:=t2
   rw[show ∀ κ:List D->ag,(ah 2 (.agg (cu (.mk tn tx))) fun f=>ar [.str [],.nilrow] 0 f κ)=κ (cu (.mk tn tx))from fun κ=>by simp only[cu];rfl]
   rw[ae w5,aj,fC]
   by_cases h2:c2<=2000
   ·have e1:decide (((c2:Nat):Int)>2000)=false:=by simp;omega
    obtain⟨z1,z2,z3⟩:=w7 h2
    obtain⟨s3,d3,o3,_⟩:=w2.ob v x x0
    rw[e1]
    simp only[ai,cond_false,Gg,FQ,UT,Nat.zero_add]
    rw[ae o3]
    simp only[fu,aj,aA,cu]
    obtain⟨a',H3,u1,u2,u3⟩:=(show Ac H2 0 3 (done.map tK) a from ha1.mv fun o st cp l h=>by rw[w4.at' o (by have:=aB h;simp;omega) (fun q=>by obtain⟨s,c,e⟩:=g1.nm q;rw[e]at h;cases h) (by have:=aB h;omega),List.getElem?_append_left (aB h)]).add3 (by rw[List.length_map];have:all.length=pre.length+(l.length+1):=(by rw[e];simp);omega) (tK (iS N v,ty v))
    rw[show ∀ κ:List D->ag,(ah 1 (.str x.n) fun n=>ar [.str [],.str [],.nilrow] 0 n fun n=>ar n 1 [.str tn,.row 2 (aI tx)] fun n=>ah 3 (.agg n) κ)=κ (tK (iS N v,ty v))from fun κ=>by rw[<- z1,nmo];simp only[tK,cu];rfl]
    rw[u1]
    have ih:=EI hall rt ty hv hk l (pre++[v]) H3 L2 (done++[(iS N v,ty v)]) a' (w2.kq u3) (fun i hi=>(ht1 i hi).eqv w3) (fun i hi=>(hr1' i hi).trans (w3.ro i)) (by
     refine hd1.chg fun o n q=>?_
     obtain⟨h1,st,cp,l,h2⟩:=hd1.lt q
     have h3:H2[o]? = H1[o]?:=by rw[w4.at' o (by simp;omega) (fun q=>by obtain⟨s,c,e⟩:=g1.nm q;rw[e]at h2;cases h2) (by omega),List.getElem?_append_left h1]
     rw[u3.nb o (by have:=w4.len;simp at this;omega) (fun _ _ _ e=>by rw[h3,h2]at e;cases e),h3]) (by simpa using u2) (by rw[e];simp) (by simp;omega)
    rcases ih with⟨ih,v',hv',hw'⟩|⟨⟨H',ih⟩,ih2⟩
    ·exact .inl ⟨ih,v',List.mem_cons_of_mem _ hv',hw'⟩
    ·refine .inr ⟨⟨H',by rw[ih];simp[pE,hq]⟩,fun v' h h0=>?_⟩
     rcases List.mem_cons.1 h with rfl|h
     ·exact⟨by omega,by omega⟩
     ·exact ih2 v' h h0
   ·have e1:decide (((c2:Nat):Int)>2000)=true:=by simp;omega
    rw[e1]
    simp only[ai,cond_true]
    exact .inl ⟨⟨_,rfl⟩,v,List.mem_cons_self,hq,(by have:=w8 (by omega);omega)⟩
end Go.Proofs.YtenibcfppefobaaGreatDoor
set_option linter.all false
noncomputable section
namespace Go.Proofs.YtenibcfppefobaaGreatDoor
open Go.AI
theorem Cv.all{N:List bu}{ks:List Nat}{P:Nat->Prop}(h:Cv [] N ks)(kid:∀(i:Nat) (x:bu),N[i]? = some x->∀ a∈x.a,a<i)(h1:∀ a∈ks,P a)(h2:∀(i:Nat) (x:bu),N[i]? = some x->P i->∀ a∈x.a,P a):∀ i,i<N.length->P i:=by
 have key:∀ n i,i<N.length->N.length - i<=n->P i:=fun n=>by
  induction n with
  |zero=>intro i hi hn;omega
  |succ n ih =>
   intro i hi hn
   rcases h i (Nat.zero_le _) hi with h|⟨m,x,hx,ha⟩
   ·exact h1 i h
   ·have:=kid m x hx i ha
    have:=aB hx
    exact h2 m x hx (ih m (by omega) (by omega)) i ha
 exact fun i hi=>key _ i hi (Nat.le_refl _)
theorem Eu.rt{N:List bu}{L:Lk}(hc:Eu N L []){i r n:Nat}(h:Rt L i r n):∀(x:bu),N[i]? = some x->x.v=false->∃ y,N[r]? = some y/\y.v=false/\x.n=y.n/\x.a.length=y.a.length/\∀(α:Type) (f:Nat->α),dF L f->x.a.map f=y.a.map f:=by
 induction h with
 |z _=>exact fun x hx hv=>⟨x,hx,hv,rfl,rfl,fun _ _ _=>rfl⟩
 |s h _ ih =>
  intro x hx hv
  obtain⟨y,a1,a2,a3,a4,a5⟩:=hc _ _ _ h hx hv
  obtain⟨z,b1,b2,b3,b4,b5⟩:=ih y a1 a2
  exact⟨z,b1,b2,a3.trans b3,a4.trans b4,fun α f hf=>(a5 α f hf (fun _ q=>nomatch q)).trans (b5 α f hf)⟩
theorem Tr.resp(N:List bu)(L:Lk)(hw:Wf L)(hl:∀ i j:Nat,L[i]? = some (some j)->j<L.length):dF L fun i=>∃ t,Tr N L i t:=fun i j h=>by
 obtain⟨r,n,k⟩:=hw j (hl i j h)
 refine propext ⟨fun⟨t,ht⟩=>⟨t,.of_rt k (ht.rt (.s h k))⟩,fun⟨t,ht⟩=>⟨t,.of_rt (.s h k) (ht.rt k)⟩⟩
theorem Tr.kid{N:List bu}{L:Lk}(hc:Eu N L [])(hw:Wf L)(hl:∀ i j:Nat,L[i]? = some (some j)->j<L.length)(hv:∀(i:Nat) (x:bu),N[i]? = some x->x.v=true->x.a=[]){i:Nat}{x:bu}(hx:N[i]? = some x){t:Ty}(ht:Tr N L i t):∀ a∈x.a,∃ t,Tr N L a t:=fun a ha=>by
 cases q:x.v with
 |true=>rw[hv i x hx q]at ha;cases ha
 |false =>
  obtain⟨r,n,hr⟩:=ht.hasRt
  obtain⟨y,y1,y2,y3,_,y4⟩:=hc.rt hr x hx q
  have ht':=ht.rt hr
  have hts:∃ ts,sX N L y.a ts:=by
   cases ht' with
   |var k1 k2 k3=>obtain⟨rfl,_⟩:=k1.det (.z hr.root);rw[y1]at k2;cases k2;rw[y2]at k3;cases k3
   |con k1 k2 k3 k4=>obtain⟨rfl,_⟩:=k1.det (.z hr.root);rw[y1]at k2;cases k2;exact⟨_,k4⟩
  obtain⟨ts,hts⟩:=hts
  have e:=y4 Prop _ (Tr.resp N L hw hl)
  have all:∀ {l ts},sX N L l ts->∀ p∈l.map (fun i=>∃ t,Tr N L i t),p:=fun {l ts} h=>by
   induction l generalizing ts with
   |nil=>intro p hp;cases hp
   |cons b l ih =>
    cases h with
    |cons h1 h2 =>
    intro p hp
    rw[List.map_cons]at hp
    rcases List.mem_cons.1 hp with rfl|hp
    ·exact⟨_,h1⟩
    ·exact ih h2 p hp
  have:=all hts
  rw[<- e]at this
  exact this _ (List.mem_map_of_mem ha)
mutual
def tO(kind:ac->Int):Ty->Prop
 |.mk n xs=>oi kind n xs.length=true/\pQ kind xs
def pQ(kind:ac->Int):List Ty->Prop
 |[]=>True
 |t::r=>tO kind t/\pQ kind r
end
theorem pP{kind:ac->Int}:∀ {l:List Ty},pQ kind l↔∀ t∈l,tO kind t
 |[]=>by simp[pQ]
 |t::r=>by rw[pQ,pP (l:=r)];simp
mutual
theorem PU{kind:ac->Int}:∀ {t:Ty} {d c k:Nat},lX kind d t c=some k->tO kind t
 |.mk n xs,d,c,k,h=>by
  unfold lX at h
  split at h
  ·rename_i q
   exact⟨q.1,LW h⟩
  ·cases h
theorem LW{kind:ac->Int}:∀ {l:List Ty} {d c k:Nat},iZ kind d l c=some k->pQ kind l
 |[],_,_,_,_=>trivial
 |t::r,d,c,k,h=>by
  unfold iZ at h
  cases q:lX kind d t c with
  |none=>rw[q]at h;cases h
  |some c'=>rw[q]at h;exact⟨PU q,LW h⟩
end
mutual
theorem Qf{kind:ac->Int}:∀ {t:Ty} {d c:Nat},tO kind t->c+bL t<=2000->d+xQ t<=101->lX kind d t c=some (c+bL t)
 |.mk n xs,d,c,h,h1,h2=>by
  simp only[tO]at h
  simp only[bL]at h1 ⊢
  simp only[xQ]at h2
  unfold lX
  rw[if_pos ⟨h.1,by omega,by omega⟩,Nb h.2 (by omega) (by omega)]
  congr 1;omega
theorem Nb{kind:ac->Int}:∀ {l:List Ty} {d c:Nat},pQ kind l->c+bL.tszs l<=2000->d+me l<=101->iZ kind d l c=some (c+bL.tszs l)
 |[],_,_,_,_,_=>by simp[iZ,bL.tszs]
 |t::r,d,c,h,h1,h2=>by
  simp only[pQ]at h
  simp only[bL.tszs]at h1 ⊢
  simp only[me]at h2
  unfold iZ
  rw[Qf h.1 (by omega) (by omega)]
  simp only
  rw[Nb h.2 (by omega) (by omega)]
  congr 1;omega
end
theorem GK{kind:ac->Int}{n:ac}{k:Nat}(h:oi kind n k=true):k<=16:=by
 unfold oi at h
 split at h
 ·simp at h;omega
 ·split at h
  ·simp at h;omega
  ·split at h
   ·simp at h;omega
   ·split at h
    ·rename_i q;simp at q;omega
    ·simp at h;omega
theorem Qm{kind:ac->Int}(k1:(kind [45,62]==4)=false)(k2:(kind [44]==4)=false){n:ac}{k:Nat}(h:oi kind n k=true)(hv:(kind n==4)=true):k=0:=by
 unfold oi at h
 split at h
 ·simp at h;omega
 ·split at h
  ·rename_i q;have:n=[45,62]:=by simpa using q
   rw[this,k1]at hv;cases hv
  ·split at h
   ·rename_i q;have:n=[44]:=by simpa using q
    rw[this,k2]at hv;cases hv
   ·split at h
    ·rename_i q;simp at q;omega
    ·have e:kind n=4:=by simpa using hv
     rw[e]at h;simp at h
mutual
theorem PJ{kind:ac->Int}(k1:(kind [45,62]==4)=false)(k2:(kind [44]==4)=false):∀ {t:Ty},tO kind t->yC (fun n=>kind n==4) t
 |.mk n xs,h=>by
  simp only[tO]at h
  exact⟨GK h.1,fun hv=>List.length_eq_zero_iff.1 (Qm k1 k2 h.1 hv),Ez k1 k2 h.2⟩
theorem Ez{kind:ac->Int}(k1:(kind [45,62]==4)=false)(k2:(kind [44]==4)=false):∀ {l:List Ty},pQ kind l->tN (fun n=>kind n==4) l
 |[],_=>trivial
 |t::r,h=>⟨PJ k1 k2 h.1,Ez k1 k2 h.2⟩
end
mutual
theorem oT{kind:ac->Int}:∀ {t:Ty},tO kind t->t.ok
 |.mk n xs,h=>by
  simp only[tO]at h
  exact⟨by have:=GK h.1;omega,Af h.2⟩
theorem Af{kind:ac->Int}:∀ {l:List Ty},pQ kind l->Ty.oks l
 |[],_=>trivial
 |t::r,h=>⟨oT h.1,Af h.2⟩
end
theorem Gx{kind:ac->Int}{t:Ty}(h:tO kind t)(h1:bL t<=2000)(h2:xQ t<=100):aS kind t≠0:=by
 unfold aS
 rw[Qf h (by omega) (by omega),Option.getD_some]
 cases t;simp only[bL];omega
theorem kY{kind:ac->Int}{t:Ty}(h:aS kind t≠0):tO kind t:=by
 unfold aS at h
 cases q:lX kind 1 t 0 with
 |none=>rw[q]at h;exact(h rfl).elim
 |some k=>exact PU q
end Go.Proofs.YtenibcfppefobaaGreatDoor
set_option linter.all false
noncomputable section
namespace Go.Proofs.YtenibcfppefobaaGreatDoor
open Go.AI
structure SM(kind:ac->Int)(all:List Ty)(bs:List (ac×Ty)):Prop where
 good:kz kind bs=true
 ok:∀ q∈bs,q.2.ok
 eq:∀ t∈all,∀ t'∈all,sub (aE bs) t=sub (aE bs) t'
 idem:∀ t∈all,sub (aE bs) (sub (aE bs) t)=sub (aE bs) t
 gen:∀ s,Vs (fun n=>kind n==4) s->(∀ t∈all,∀ t'∈all,sub s t=sub s t')->∀ t∈all,sub s (sub (aE bs) t)=sub s t
theorem mO{N:List bu}{rt:Nat->Bool}{ty:Nat->Ty}{n:ac}{t:Ty}:∀ {l:List Nat},aE (pE N rt ty l) n=some t->∃ w∈l,rt w=false/\iS N w=n/\ty w=t
 |[],h=>by simp[pE,aE]at h
 |v::l,h=>by
  unfold pE at h
  cases q:rt v with
  |true =>
   rw[q]at h
   obtain⟨w,a1,a2⟩:=mO (l:=l) h
   exact⟨w,List.mem_cons_of_mem _ a1,a2⟩
  |false =>
   rw[q]at h
   simp only[Bool.false_eq_true,if_false,aE]at h
   split at h
   ·rename_i e
    cases h
    exact⟨v,List.mem_cons_self,q,by simpa using Eq.symm (by simpa using e),rfl⟩
   ·obtain⟨w,a1,a2⟩:=mO (l:=l) h
    exact⟨w,List.mem_cons_of_mem _ a1,a2⟩
theorem sf{N:List bu}{rt:Nat->Bool}{ty:Nat->Ty}:∀ {l:List Nat},(∀ v∈l,∀ w∈l,iS N v=iS N w->v=w)->∀ v∈l,aE (pE N rt ty l) (iS N v)=if rt v then none else some (ty v)
 |[],_,v,h=>nomatch h
 |u::l,hi,v,h=>by
  have ih:=sf (N:=N) (rt:=rt) (ty:=ty) (l:=l) fun v hv w hw=>hi v (List.mem_cons_of_mem _ hv) w (List.mem_cons_of_mem _ hw)
  cases q:rt v with
  |true =>
   rw[if_pos rfl]
   cases e:aE (pE N rt ty (u::l)) (iS N v)with
   |none=>rfl
   |some t =>
    obtain⟨w,a1,a2,a3,_⟩:=mO e
    rw[hi w a1 v h a3,q]at a2;cases a2
  |false =>
   rw[if_neg (by simp)]
   by_cases e:v=u
   ·subst e
    simp[pE,q,aE]
   ·have hv:v∈l:=by rcases List.mem_cons.1 h with h|h;exact(e h).elim;exact h
    have hn:iS N v≠iS N u:=fun k=>e (hi v h u List.mem_cons_self k)
    have hn':(iS N v==iS N u)=false:=by simpa using hn
    have:=ih v hv
    rw[q,if_neg (by simp)]at this
    unfold pE
    cases rt u with
    |true=>simpa using this
    |false=>simp only[Bool.false_eq_true,if_false,aE,if_neg hn];exact this
theorem zh{n:ac}{x:ac×Ty}:∀ {done:List (ac×Ty)},aE done n=none->x.1≠n->aE (done++[x]) n=none
 |[],_,h=>by
  obtain⟨a,b⟩:=x
  simp only[List.nil_append,aE]
  rw[if_neg (fun q=>h q.symm)]
 |(a,b)::r,h,k=>by
  simp only[aE]at h
  split at h
  ·cases h
  ·rename_i q
   simp only[List.cons_append,aE]
   rw[if_neg q]
   exact zh h k
theorem Gt{kind:ac->Int}{N:List bu}{rt:Nat->Bool}{ty:Nat->Ty}:∀(l:List Nat) (done:List (ac×Ty)),l.Nodup->(∀ v∈l,∀ w∈l,iS N v=iS N w->v=w)->(∀ v∈l,(kind (iS N v)==4)=true)->(∀ v∈l,rt v=false->aS kind (ty v)≠0)->(∀ v∈l,aE done (iS N v)=none)->Ew kind done (pE N rt ty l)=true
 |[],_,_,_,_,_,_=>rfl
 |v::l,done,hn,hi,hk,hs,hd=>by
  rw[List.nodup_cons]at hn
  have hi':∀ v∈l,∀ w∈l,iS N v=iS N w->v=w:=fun v hv w hw=>hi v (List.mem_cons_of_mem _ hv) w (List.mem_cons_of_mem _ hw)
  have hk':∀ v∈l,(kind (iS N v)==4)=true:=fun v hv=>hk v (List.mem_cons_of_mem _ hv)
  have hs':∀ v∈l,rt v=false->aS kind (ty v)≠0:=fun v hv=>hs v (List.mem_cons_of_mem _ hv)
  unfold pE
  cases q:rt v with
  |true=>exact Gt l done hn.2 hi' hk' hs' fun v hv=>hd v (List.mem_cons_of_mem _ hv)
  |false =>
   simp only[Bool.false_eq_true,if_false,Ew]
   have h1:=hd v List.mem_cons_self
   have h2:=hk v List.mem_cons_self
   have h3:=hs v List.mem_cons_self q
   have h4:(aS kind (ty v)==0)=false:=by simpa using h3
   rw[h1,h2,h4,Gt l (done++[(iS N v,ty v)]) hn.2 hi' hk' hs' fun w hw=>zh (hd w (List.mem_cons_of_mem _ hw)) fun e=>?_]
   ·rfl
   ·have:=hi v List.mem_cons_self w (List.mem_cons_of_mem _ hw) e
    rw[this]at hn
    exact hn.1 hw
theorem Id{N:List bu}{rt:Nat->Bool}{ty:Nat->Ty}:∀ l:List Nat,(pE N rt ty l).length<=l.length
 |[]=>Nat.le_refl _
 |v::l=>by
  have:=Id (N:=N) (rt:=rt) (ty:=ty) l
  unfold pE
  split<;>simp<;>omega
theorem BP{N:List bu}{rt:Nat->Bool}{ty:Nat->Ty}{q:ac×Ty}:∀ {l:List Nat},q∈pE N rt ty l->∃ v∈l,rt v=false/\q.2=ty v
 |[],h=>nomatch h
 |v::l,h=>by
  unfold pE at h
  split at h
  ·obtain⟨w,a,b⟩:=BP h
   exact⟨w,List.mem_cons_of_mem _ a,b⟩
  ·rename_i e
   rcases List.mem_cons.1 h with rfl|h
   ·exact⟨v,List.mem_cons_self,by simpa using e,rfl⟩
   ·obtain⟨w,a,b⟩:=BP h
    exact⟨w,List.mem_cons_of_mem _ a,b⟩
mutual
theorem Tr.V{kind:ac->Int}{N:List bu}{L:Lk}(h:∀(i:Nat) (x:bu),N[i]? = some x->oi kind x.n x.a.length=true)(hv:∀(i:Nat) (x:bu),N[i]? = some x->x.v=true->x.a=[]):∀ {i t},Tr N L i t->tO kind t
 |_,_,.var h1 h2 h3=>by
  have:=h _ _ h2
  rw[hv _ _ h2 h3]at this
  exact⟨this,trivial⟩
 |_,_,.con h1 h2 h3 h4=>by
  have:=h _ _ h2
  obtain⟨e,k⟩:=sX.V h hv h4
  rw[<- e]at this
  exact⟨this,k⟩
theorem sX.V{kind:ac->Int}{N:List bu}{L:Lk}(h:∀(i:Nat) (x:bu),N[i]? = some x->oi kind x.n x.a.length=true)(hv:∀(i:Nat) (x:bu),N[i]? = some x->x.v=true->x.a=[]):∀ {l ts},sX N L l ts->ts.length=l.length/\pQ kind ts
 |_,_,.nil=>⟨rfl,trivial⟩
 |_,_,.cons h1 h2=>by
  obtain⟨e,k⟩:=sX.V h hv h2
  exact⟨by simp[e],Tr.V h hv h1,k⟩
end
theorem Wz{kind:ac->Int}{N:List bu}{L:Lk}{T:List Ty}{vs ks:List Nat}{all:List Ty}{rt:Nat->Bool}{ty:Nat->Ty}(gn:GN N T (fun n=>kind n==4))(hc:Eu N L [])(hl:N.length=L.length)
 (hTr:∀ i,i<N.length->Tr N L i (ty i)) (vs1:∀(i:Nat) (x:bu),N[i]? = some x->x.v=true->i∈vs) (vs2:∀ i∈vs,∃ x,N[i]? = some x/\x.v=true) (vn:vs.Nodup) (hk:∀ a∈ks,a<N.length) (hT:ks.map (fun a=>T[a]?)=all.map some)
 (hX:∀(i:Nat) (x:bu),N[i]? = some x->oi kind x.n x.a.length=true) (heq:∀ f:Nat->Ty,dF L f->∀ a∈ks,∀ b∈ks,f a=f b) (hgen:∀ f:Nat->Ty,Et N f->(∀ a∈ks,∀ b∈ks,f a=f b)->dF L f)
 (hvl:vs.length<=2000) (hrt:∀ i,i<N.length->(rt i=true↔L[i]? = some none)) (hb:∀ v∈vs,rt v=false->bL (ty v)<=2000/\xQ (ty v)<=100):SM kind all (pE N rt ty vs):=by
 have hv:∀(i:Nat) (x:bu),N[i]? = some x->x.v=true->x.a=[]:=fun i x h k=>(gn.var i x h k).2.2
 have hTV:∀ i,i<N.length->tO kind (ty i):=fun i hi=>(hTr i hi).V hX hv
 have hTe:∀ i,i<N.length->pR N L i=ty i:=fun i hi=>iw (hTr i hi)
 have vlt:∀ v∈vs,v<N.length:=fun v h=>by obtain⟨x,hx,_⟩:=vs2 v h;exact aB hx
 have nmv:∀(v:Nat) (x:bu),N[v]? = some x->iS N v=x.n:=fun v x h=>by simp[iS,h]
 have inj:∀ v∈vs,∀ w∈vs,iS N v=iS N w->v=w:=fun v hv w hw e=>by
  obtain⟨x,hx,vx⟩:=vs2 v hv
  obtain⟨y,hy,vy⟩:=vs2 w hw
  rw[nmv v x hx,nmv w y hy]at e
  exact gn.inj v w x y hx hy vx vy e
 have kv:∀ v∈vs,(kind (iS N v)==4)=true:=fun v hv=>by
  obtain⟨x,hx,vx⟩:=vs2 v hv
  rw[nmv v x hx]
  exact(gn.var v x hx vx).2.1
 have hVs:Vs (fun n=>kind n==4) (aE (pE N rt ty vs)):=fun n t h=>by
  obtain⟨w,a1,_,a2,_⟩:=mO h
  rw[<- a2];exact kv w a1
 have sol:Nh N L (fun n=>kind n==4) (aE (pE N rt ty vs)):=⟨fun i x hx vx=>by
  have hi:=aB hx
  rw[<- nmv i x hx,sf inj i (vs1 i x hx vx)]
  cases q:rt i with
  |true=>rw[if_pos rfl,if_pos ((hrt i hi).1 q)]
  |false =>
   rw[if_neg (by simp),if_neg (fun k=>by rw[(hrt i hi).2 k]at q;cases q),hTe i hi],hVs⟩
 have ofAll:∀ t∈all,∃ k∈ks,nN T k=t/\k<N.length:=fun t ht=>by
  have:some t∈ks.map (fun a=>T[a]?):=by rw[hT];exact List.mem_map_of_mem ht
  obtain⟨k,h1,h2⟩:=List.mem_map.1 this
  exact⟨k,h1,fG h2,hk k h1⟩
 have toAll:∀ k∈ks,nN T k∈all:=fun k hk=>by
  have:T[k]?∈all.map some:=by rw[<- hT];exact List.mem_map_of_mem (f:=fun a=>T[a]?) hk
  obtain⟨t,h1,h2⟩:=List.mem_map.1 this
  rw[fG h2.symm];exact h1
 have hT':∀ i,i<L.length->∃ t,Tr N L i t:=fun i hi=>⟨_,hTr i (by rw[hl];exact hi)⟩
 have ap:∀ k,k<N.length->sub (aE (pE N rt ty vs)) (nN T k)=pR N L k:=fun k hk=>sol.ap gn hc hT' hl k hk
 refine⟨?_,fun q hq=>?_,fun t ht t' ht'=>?_,fun t ht=>?_,fun s hs he t ht=>?_⟩
 ·have h1:(pE N rt ty vs).length<=2000:=Nat.le_trans (Id vs) hvl
  rw[kz,Gt vs [] vn inj kv (fun v hv q=>Gx (hTV v (vlt v hv)) (hb v hv q).1 (hb v hv q).2) (fun _ _=>rfl)]
  simpa using h1
 ·obtain⟨v,a1,_,a2⟩:=BP hq
  rw[a2];exact oT (hTV v (vlt v a1))
 ·obtain⟨k,a1,rfl,a2⟩:=ofAll t ht
  obtain⟨k',b1,rfl,b2⟩:=ofAll t' ht'
  rw[ap k a2,ap k' b2]
  exact heq _ (rK hT') k a1 k' b1
 ·obtain⟨k,a1,rfl,a2⟩:=ofAll t ht
  rw[ap k a2,hTe k a2]
  exact sol.idem gn (hTr k a2)
 ·obtain⟨k,a1,rfl,a2⟩:=ofAll t ht
  rw[ap k a2,hTe k a2]
  have hr:dF L fun i=>sub s (nN T i):=hgen _ (gn.mod hs).comp fun a ha b hb=>he _ (toAll a ha) _ (toAll b hb)
  exact Tr.gen gn hs hr (hTr k a2)
end Go.Proofs.YtenibcfppefobaaGreatDoor
