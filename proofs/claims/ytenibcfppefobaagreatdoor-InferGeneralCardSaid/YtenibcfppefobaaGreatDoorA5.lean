/- Evaluators by which runs of the program are reckoned, that they are sound, and what the functions answer: part 5. No conditions beyond those of the row. -/
import Derived.Test.YtenibcfppefobaaGreatDoorA4
import Derived.Test.YtenibcfppefobaaGreatDoorT1
import Derived.Lib.QuietBelow
set_option linter.all false
noncomputable section
set_option linter.all false
noncomputable section
namespace Go.Proofs.YtenibcfppefobaaGreatDoor
open Go.AI
variable{l:af}{K p A B bx y m oc:Nat}
def QD(T:gi):Prop:=∀ cs r,T=cs::r->∃(k v:Int) (t:af) (a:Int),cs=(xT k v t a)
theorem Dz.f{at2:Nat}{T:gi}(h0:at2=l.length->T=[])(hF:Dz l at2 T)(h1:at2<=l.length):QD T:=fun cs r e=>by
 rcases Nat.lt_or_ge at2 l.length with q|q
 ·obtain⟨k,v,n,r',h,_⟩:=hF q
  grind
 grind
theorem LQ(hl:l.length<=24)(kp:K<=p)(ko:K<=oc){H:DH}(hS:DD H p l 0 m oc [])(hT:TA K H l p A B bx y []) :
 (∃ H2 T,aD 183 [.yld (y+1),.ptr bx 0] H=ret (.tuple []) H2/\TA K H2 l p A B bx y T/\rg l (oi l T)/\Kp K H H2/\QD T) \/
 (∃(a e:Int) (H2:DH) (T:gi),e≠0/\aD 183 [.yld (y+1),.ptr bx 0] H=pan (wr a e) H2/\TA K H2 l p A B bx y T/\rg l 0/\Kp K H H2):=by
 rw[show aD 183 [.yld (y+1),.ptr bx 0] H=_ from ev (TL) rfl]
 obtain⟨sb,hb⟩:=hT.hb
 simp only[ac hb,ak]
 rcases Gf hl (Nat.zero_le _) (by simp;omega) hS with⟨at2,c2,H2,j1,j2,j3,j4,j5,j6,j7,j8⟩|⟨a,e,H2,j1,j2,j3,j4⟩
 ·have hT2:=hT.fr hS.hc j6 (by obtain⟨st,h⟩:=hS.hp;exact⟨_,_,h⟩)
  rw[aq j1]
  rcases xX hl kp ko _ at2 H2 c2 [] rfl j4 j5 (by simp;omega) j2 hT2 with⟨H3,r,i1,i2,i3,i4,i5⟩|⟨a,e,H3,T,i1,i2,i3,i4,i5⟩
  ·exact .inl ⟨H3,r,i1,i2,Kz hl i3 i4 j4 j7 j8,(Kp.of j6 kp ko).trans i5,Dz.f i3 i4 j4⟩
  ·refine .inr ⟨a,e,H3,T,i1,i2,i3,Cl hl ?_,(Kp.of j6 kp ko).trans i5⟩
   by_cases hs:skip l 0
   ·exact .inl hs
   ·rw[j7 hs]at i4;exact .inr i4
 ·rw[zq j2]
  exact .inr ⟨a,e,H2,[],j1,rfl,hT.fr hS.hc j3 (by obtain⟨st,h⟩:=hS.hp;exact⟨_,_,h⟩),Cl hl (.inl j4),Kp.of j3 kp ko⟩
theorem Pu(s o n:Nat)(H:DH)(κ:D->ag):fq ab 141 (.buf s o n) H κ=κ (.i (n:Int)):=by kernel_rfl
theorem MN(H:DH)(κ:D->ag):fq ab 141 .nilrow H κ=κ (.i 0):=by kernel_rfl
theorem RH(o n i:Nat)(κ:D->ag):dF ab 141 (.buf 4 o n) (.i i) κ=boK (Nat.blt i n) (κ (.bptr o n i 0)):=by kernel_rfl
theorem RN(o n i c k:Nat)(κ:D->ag):dt (.bptr o n i c) k κ=κ (.bptr o n i (c+k)):=rfl
theorem SY(o n i c:Nat)(H:DH)(κ:D->ag):ft ab 3 (.bptr o n i c) H κ=gB H o n fun _ _ _ l=>eO l i fun cs=>aC cs c κ:=by kernel_rfl
theorem SX(o n i c:Nat)(H:DH)(κ:D->ag):ft ab 9 (.bptr o n i c) H κ=gB H o n fun _ _ _ l=>eO l i fun cs=>aC cs c κ:=by kernel_rfl
def TZ(H:DH)(v:D)(T:gi):Prop:=(T=[]/\v=.nilrow)\/(T≠[]/\∃ X,v=.buf 4 X T.length/\H[X]? = some (DB.buf 4 true false T))
theorem DT(hl:l.length<=24)(H:DH):∃(H2:DH) (d v:D) (a e:Int) (T:gi),aD 87 [.str l] H=ret (.tuple [d,v,.agg [.i a,.i e]]) H2/\TZ H2 v T/\rg l (if e=0 then oi l T else 0)/\Kp H.length H H2/\QD T:=by
 rw[show aD 87 [.str l] H=_ from ev (UF) rfl]
 have hA0:=aI (.cells 0 [.i 0,.i 0]) (ci H (.cells 0 [.nilrow]))
 have hB0:=ci (H++[DB.cells 0 [.nilrow]]) (.cells 0 [.i 0,.i 0])
 have hl1:(H++[DB.cells 0 [.nilrow]]).length=H.length+1:=by simp
 dsimp only
 rw[hl1]at hB0 ⊢
 have k0:Kp H.length H (H++[DB.cells 0 [.nilrow]]++[DB.cells 0 [.i 0,.i 0]]):=fun o b _ h=>aI _ (aI _ h)
 have hl2:(H++[DB.cells 0 [.nilrow]]++[DB.cells 0 [.i 0,.i 0]]).length=H.length+2:=by simp
 generalize H++[DB.cells 0 [.nilrow]]++[DB.cells 0 [.i 0,.i 0]]=H1 at hA0 hB0 k0 hl2 ⊢
 obtain⟨H2,e1,hS,kS⟩:=Pe l H1
 rw[aq e1]
 rw[hl2]at hS
 have e2:aD 134 [.ptr (H1.length+2) 0] H2=ret (.func 183 [] [.ptr H2.length 0]) (H2++[.cells 0 [.ptr (H1.length+2) 0]]):=ev (TN) rfl
 rw[iI e2]
 have hA2:=aI (.cells 0 [.ptr (H1.length+2) 0]) (kS _ _ hA0)
 have hB2:=aI (.cells 0 [.ptr (H1.length+2) 0]) (kS _ _ hB0)
 have hb2:=ci H2 (.cells 0 [.ptr (H1.length+2) 0])
 have hS2:DD (H2++[.cells 0 [.ptr (H1.length+2) 0]]) (H.length+2+2) l 0 (H.length+2) (H.length+2+1) []:=⟨by obtain⟨st,h⟩:=hS.hp;exact⟨st,aI _ h⟩,aI _ hS.hm,aI _ hS.hc⟩
 have lt2:H.length+2+2<H2.length:=by
  obtain⟨st,h⟩:=hS.hp
  grind
 have k2:Kp H.length H (H2++[.cells 0 [.ptr (H1.length+2) 0]]):=fun o b h1 h2=>aI _ (kS _ _ (k0 o b h1 h2))
 have hbx:H2.length<(H2++[DB.cells 0 [.ptr (H1.length+2) 0]]).length:=by simp
 rw[hl2]at hA2 hB2 hb2 hS2 k2 hbx ⊢
 generalize H2++[DB.cells 0 [.ptr (H.length+2+2) 0]]=H3 at hA2 hB2 hb2 hS2 k2 hbx ⊢
 generalize H2.length=bx at hb2 lt2 hbx ⊢
 show ∃(H2:DH) (d v:D) (a e:Int) (T:gi),HP (.func 183 [] [.ptr bx 0]) _=_/\_
 simp only[HP,List.nil_append]
 have ey:H3++[DB.coll,Pr de 87 [0,2,3,4,6,7,8,9,10] [.g (.str l),.g (.ptr (H.length+2+2) 0),.g (.ptr H.length 0),.g (.ptr (H.length+1) 0),.g (.str l),.g (.ptr (H.length+2+2) 0),.g (.func 133 [] [.ptr H.length 0,.ptr (H.length+1) 0]),.g (.ptr (H.length+2+2) 0),.g (.func 183 [] [.ptr bx 0])]]=(H3++[DB.coll])++[Gx l (H.length+2+2) H.length (H.length+1) bx]:=by rw[List.append_assoc];rfl
 rw[ey]
 have hly:(H3++[DB.coll]).length=H3.length+1:=by simp
 have hS3:DD ((H3++[DB.coll])++[Gx l (H.length+2+2) H.length (H.length+1) bx]) (H.length+2+2) l 0 (H.length+2) (H.length+2+1) []:=⟨by obtain⟨st,h⟩:=hS2.hp;exact⟨st,aI _ (aI _ h)⟩,aI _ (aI _ hS2.hm),aI _ (aI _ hS2.hc)⟩
 have hT3:TA H.length ((H3++[DB.coll])++[Gx l (H.length+2+2) H.length (H.length+1) bx]) l (H.length+2+2) H.length (H.length+1) bx H3.length [] :=
  ⟨⟨0,.nilrow,aI _ (aI _ hA2),.inl ⟨rfl,rfl⟩⟩,⟨0,aI _ (aI _ hB2)⟩,⟨0,aI _ (aI _ hb2)⟩,by rw[<- hly];exact ci _ _,aI _ (ci _ _),by omega,by omega,by omega,by omega,by omega,Nat.le_refl _,by omega⟩
 have k3:Kp H.length H ((H3++[DB.coll])++[Gx l (H.length+2+2) H.length (H.length+1) bx]):=fun o b h1 h2=>aI _ (aI _ (k2 o b h1 h2))
 rcases LQ hl (by omega) (by omega) hS3 hT3 with⟨H4,T,e3,hT4,hK,k4,hF⟩|⟨a,e,H4,T,he,e3,hT4,hK,k4⟩
 ·rw[iI e3,MH hT4.hy]
  obtain⟨sA,v,hA,hW⟩:=hT4.hA
  obtain⟨sB,hB⟩:=hT4.hB
  have nyA:H3.length+1≠H.length:=by omega
  have nyB:H3.length+1≠H.length+1:=by omega
  have hA5:=am .opq nyA hA
  have hB5:=am .opq nyB hB
  have hk5:=am .opq (show H3.length+1≠H3.length by omega) hT4.hk
  have hv:∀ κ:List D->ag,ah 1 v κ=κ [v]:=fun κ=>by rcases hW with⟨_,rfl⟩|⟨_,X,rfl,_⟩<;>rfl
  have hv2:∀(z:D) (κ:List D->ag),az [z] 0 [v] κ=κ [v]:=fun _ _=>rfl
  have hX5:∀ X:Nat,H4[X]? = some (DB.buf 4 true false T)->(H4.set (H3.length+1) .opq)[X]? = some (DB.buf 4 true false T):=fun X hX=>am _ (fun q=>by rw[<- q,hT4.hy]at hX;exact Am _ rfl (Option.some.inj hX)) hX
  have k5:Kp H.length H (H4.set (H3.length+1) .opq):=(k3.trans k4).trans fun o b h1 h2=>am _ (by omega) h2
  generalize H4.set (H3.length+1) .opq=H5 at hA5 hB5 hk5 hX5 k5 ⊢
  simp only[ac hA5,ak,hv,hv2]
  have hB6:=am (.cells (sA+1) [v]) (show H.length≠H.length+1 by omega) hB5
  have hA6:=bK (.cells (sA+1) [v]) hA5
  have hk6:=am (.cells (sA+1) [v]) (show H.length≠H3.length by omega) hk5
  have hcm:(cH (H5.set H.length (.cells (sA+1) [v])) [H5])[H.length+1]? = some (.cells sB [.i 0,.i 0]):=mT hB6 (fun H2 h2=>by simp at h2;subst h2;exact hB5)
  have hX6:∀ X:Nat,H4[X]? = some (DB.buf 4 true false T)->(H5.set H.length (.cells (sA+1) [v]))[X]? = some (DB.buf 4 true false T):=fun X hX=>am _ (fun q=>by rw[<- q,hA]at hX;cases hX) (hX5 X hX)
  have k6:Kp H.length H (H5.set H.length (.cells (sA+1) [v])):=k5.trans fun o b h1 h2=>am _ (by omega) h2
  generalize H5.set H.length (.cells (sA+1) [v])=H6 at hA6 hB6 hk6 hcm hX6 k6 ⊢
  simp only[ac hcm,ac hB6,ak,aw,Mr]
  have hA7:=am (.cells (sB+1) [.i 0,.i 0]) (show H.length+1≠H.length by omega) hA6
  have hB7:=bK (.cells (sB+1) [.i 0,.i 0]) hB6
  have hk7:=am (.cells (sB+1) [.i 0,.i 0]) (show H.length+1≠H3.length by omega) hk6
  have hX7:∀ X:Nat,H4[X]? = some (DB.buf 4 true false T)->(H6.set (H.length+1) (.cells (sB+1) [.i 0,.i 0]))[X]? = some (DB.buf 4 true false T):=fun X hX=>am _ (fun q=>by rw[<- q,hB]at hX;cases hX) (hX6 X hX)
  have k7:Kp H.length H (H6.set (H.length+1) (.cells (sB+1) [.i 0,.i 0])):=k6.trans fun o b h1 h2=>am _ (by omega) h2
  generalize H6.set (H.length+1) (.cells (sB+1) [.i 0,.i 0])=H7 at hA7 hB7 hk7 hX7 k7 ⊢
  rw[show ∀ κ:DH->ag,qO H7 H3.length κ=κ (H7.set H3.length .opq)from fun κ=>by rw[qO,hk7]]
  have hA8:=am .opq (show H3.length≠H.length by omega) hA7
  have hB8:=am .opq (show H3.length≠H.length+1 by omega) hB7
  have hX8:∀ X:Nat,H4[X]? = some (DB.buf 4 true false T)->(H7.set H3.length .opq)[X]? = some (DB.buf 4 true false T):=fun X hX=>am _ (fun q=>by rw[<- q,hT4.hk]at hX;cases hX) (hX7 X hX)
  have k8:Kp H.length H (H7.set H3.length .opq):=k7.trans fun o b h1 h2=>am _ (by omega) h2
  generalize H7.set H3.length .opq=H8 at hA8 hB8 hX8 k8 ⊢
  have e5:ed de (.call 133 [.ptr H.length 0,.ptr (H.length+1) 0] (some .returning)) H8=some ⟨.ret (.tuple []),some .returning,H8⟩:=ev (Qj) rfl
  rw[e5]
  simp only[Fa,ac hA8,ac hB8,ak,aw]
  refine⟨H8,_,v,0,0,T,rfl,?_,by rw[if_pos rfl];exact hK,k8,hF⟩
  rcases hW with hW|⟨q1,X,q2,q3,_⟩
  ·exact .inl hW
  ·exact .inr ⟨q1,X,q2,hX8 X q3⟩
 ·rw[Ii e3]
  obtain⟨sA,v,hA,hW⟩:=hT4.hA
  obtain⟨sB,hB⟩:=hT4.hB
  rw[show ∀ κ:DH->ag,qO H4 H3.length κ=κ (H4.set H3.length .opq)from fun κ=>by rw[qO,hT4.hk]]
  have hA5:=am .opq (show H3.length≠H.length by omega) hA
  have hB5:=am .opq (show H3.length≠H.length+1 by omega) hB
  have k5:Kp H.length H (H4.set H3.length .opq):=(k3.trans k4).trans fun o b h1 h2=>am _ (by omega) h2
  generalize H4.set H3.length .opq=H5 at hA5 hB5 k5 ⊢
  have ea:∀(d:D) (κ:D->ag),lN ab (.iface 180 d) 180 true κ=κ (.tuple [d,.bool true]):=fun d κ=>by kernel_rfl
  have hv2:∀(z:D) (κ:List D->ag),az [z] 0 [.nilrow] κ=κ [.nilrow]:=fun _ _=>rfl
  have e5:ed de (.call 133 [.ptr H.length 0,.ptr (H.length+1) 0] (some (.panicking [⟨wr a e,false⟩]))) H5=_:=ev (@Qk _ _ _ a e _) rfl
  simp only[ea,cM,ak,aw,aj,cond_true,TV,Mr,ac hA5,hv2]at e5
  have hA6:=bK (.cells (sA+1) [.nilrow]) hA5
  have hB6:=am (.cells (sA+1) [.nilrow]) (show H.length≠H.length+1 by omega) hB5
  have k6:Kp H.length H (H5.set H.length (.cells (sA+1) [.nilrow])):=k5.trans fun o b h1 h2=>am _ (by omega) h2
  generalize H5.set H.length (.cells (sA+1) [.nilrow])=H6 at e5 hA6 hB6 k6
  simp only[ac hB6,Mr]at e5
  have hA7:=am (.cells (sB+1) [.i a,.i e]) (show H.length+1≠H.length by omega) hA6
  have hB7:=bK (.cells (sB+1) [.i a,.i e]) hB6
  have k7:Kp H.length H (H6.set (H.length+1) (.cells (sB+1) [.i a,.i e])):=k6.trans fun o b h1 h2=>am _ (by omega) h2
  generalize H6.set (H.length+1) (.cells (sB+1) [.i a,.i e])=H7 at e5 hA7 hB7 k7
  rw[e5]
  simp only[Fa,Eh,ac hA7,ac hB7,ak,aw]
  exact⟨H7,_,.nilrow,a,e,[],rfl,.inl ⟨rfl,rfl⟩,by rw[if_neg he];exact hK,k7,fun _ _ q=>by cases q⟩
end Go.Proofs.YtenibcfppefobaaGreatDoor
set_option linter.all false
noncomputable section
namespace Go.Proofs.YtenibcfppefobaaGreatDoor
open Go.AI
theorem xW{H H2:DH}(h:Kp H.length H H2){d:D}(hd:d.bel H.length):pF H (ret d H2)=ret d H:=by
 have hle:H.length<=H2.length:=by
  rcases Nat.lt_or_ge H2.length H.length with q|q
  ·have:=h H2.length H[H2.length] q (List.getElem?_eq_getElem q)
   grind
  ·exact q
 have hat:∀ i,i<H.length->H2[i]? = H[i]?:=fun i hi=>by rw[h i H[i] hi (List.getElem?_eq_getElem hi),List.getElem?_eq_getElem hi]
 have ht:Lx H ⟨.ret d,none,H2⟩:=⟨hd,rfl,hle,fun i x hi hx=>.inl (by rw[<- hat i hi];exact hx)⟩
 simp only[pF,ret]
 rw[if_pos ht]
 have:H2.take H.length=H:=by
  apply List.ext_getElem?
  grind
 rw[this]
theorem Px(l:af)(H:DH):∃ k,aD 57 [.str l] H=ret (.i k) H/\rg l k:=by
 rw[show aD 57 [.str l] H=_ from ev (UG) rfl]
 rw[show(24:Int)=((24:Nat):Int)from rfl,Ka]
 by_cases hc:24<l.length
 ·rw[decide_eq_true hc,cond_true]
  exact⟨0,xW (fun _ _ _ h=>h) trivial,.inl (fx (.inr (.inl hc))).symm⟩
 ·rw[decide_eq_false hc,cond_false]
  obtain⟨H2,d,v,a,e,T,e1,hW,hK,kp,hF⟩:=DT (l:=l) (by omega) H
  rw[aq e1]
  have fin:∀ k:Int,pF H (ret (.i k) H2)=ret (.i k) H:=fun k=>xW kp trivial
  simp only[cM,ak,aw,TV,Mr,jK,aj]
  by_cases he:e=0
  ·subst he
   rw[if_pos rfl]at hK
   simp only[bne_self_eq_false,cond_false]
   rcases hW with⟨rfl,rfl⟩|⟨q1,X,rfl,q3⟩
   ·simp only[MN,jK,aj]
    rw[show((0:Int) != 1)=true from rfl,cond_true]
    exact⟨0,fin 0,hK⟩
   ·simp only[Pu,jK,aj]
    by_cases h1:T.length=1
    ·obtain⟨cs,rfl⟩:∃ cs,T=[cs]:=by
      match T,h1 with
      |[c],_=>exact⟨c,rfl⟩
     obtain⟨k,v,t,a',rfl⟩:=hF cs [] rfl
     rw[show(((([(xT k v t a')]:gi).length:Nat):Int) != 1)=false from rfl,cond_false]
     have h2:∀ κ:Nat->Bool->Bool->gi->ag,gB H2 X 1 κ=κ 4 true false [(xT k v t a')]:=fun κ=>fc (l:=[(xT k v t a')]) q3
     simp only[show(0:Int)=((0:Nat):Int)from rfl,List.length_singleton,RH,show Nat.blt 0 1=true from rfl,boK,cond_true,RN,SY,SX,Nat.zero_add,h2,bm (show([(xT k v t a')]:gi)[0]? = some _ from rfl),ak,aw,qQ,aj]
     grind [oi]
    ·rw[show(((T.length:Nat):Int) != 1)=true by simp;omega,cond_true]
     refine⟨0,fin 0,?_⟩
     have:oi l T=0:=by
      unfold oi
      grind
     grind
  grind
end Go.Proofs.YtenibcfppefobaaGreatDoor
set_option linter.all false
noncomputable section
namespace Go.Proofs.YtenibcfppefobaaGreatDoor
open Go.AI
theorem Gd(l:af)(hl:l.length<2^60)(H:DH):∀(n i:Nat),n=l.length - i->i<2^60->ae ai 191 200002 [.g (.str l),.n i] [] H=ret (.i (i+rn aP l i:Nat)) H
 |n,i,hn,hi=>by
  refine eL (CI) ?_
  rw[Gn]
  by_cases hc:i<l.length
  ·rw[decide_eq_true hc,cond_true,bC,cI hc,aq (Ef _ _),aj,jl aP hc]
   cases hq:aP (pk l i)with
   |false=>simp
   |true =>
    rw[cond_true,bT (show i<2^62 by omega),Gd l hl H (n - 1) (i+1) (by omega) (by omega),if_pos rfl,show i+1+rn aP l (i+1)=i+(rn aP l (i+1)+1)by omega]
  grind [zR]
 termination_by n=>n
theorem JN(l:af)(hl:l.length<2^59)(H:DH)(i:Nat)(hi:i<2^59):aD 191 [.str l,.i i] H=ret (.i (i+rn aP l i:Nat)) H :=
 ev (TE) (Gd l (by omega) H _ i rfl (by omega))
theorem Ah(l:af)(hl:l.length<2^59)(H:DH)(j:Nat)(hj:j<=l.length):∀(n k:Nat),n=l.length - k->j+1<=k->k<2^60->k+rn aT l k=j+1+rn aT l (j+1) ->
 ae ai 193 200005 [.g (.str l),.n j,.n k] [] H=ret (.i ((if pk l j=39/\0<rn aT l (j+1)then j+(1+rn aT l (j+1))else j:Nat):Nat)) H
 |n,k,hn,hk,hk2,he=>by
  refine eL (CG) ?_
  have fin:rn aT l k=0->cond (decide ((j:Int)<(l.length:Int))) (dE (j:Int) fun i10=>ew l i10 fun d9=>aB ab .eql 5 true d9 (.int .u8 39) fun d11=>brD d11 (cond (decide ((k:Int)>(eg ((j:Int)+1)))) (ret (.i k) H) (ret (.i j) H)) (ret (.i j) H)) (ret (.i j) H)=ret (.i ((if pk l j=39/\0<rn aT l (j+1)then j+(1+rn aT l (j+1))else j:Nat):Nat)) H:=fun hz=>by
   rw[hz]at he
   rw[Gn]
   by_cases hc:j<l.length
   ·rw[decide_eq_true hc,cond_true,bC,cI hc]
    simp only[bS,show(39:Int)=((39:Nat):Int)from rfl,neq,aj,bT (show j<2^62 by omega),Ka]
    grind
   grind [mq]
  rw[Gn]
  by_cases hc:k<l.length
  ·rw[decide_eq_true hc,cond_true,bC,cI hc,aq (qL _ _),aj]
   have hs:=jl aT hc
   cases hq:aT (pk l k)with
   |false =>
    grind
   |true =>
    rw[hq,if_pos rfl]at hs
    rw[cond_true,bT (show k<2^62 by omega)]
    exact Ah l hl H j hj (n - 1) (k+1) (by omega) (by omega) (by omega) (by omega)
  grind [zR]
 termination_by n=>n
theorem Gq(l:af)(hl:l.length<2^59)(H:DH):∀(n i:Nat),n=l.length - i->i<=l.length->ae ai 193 200002 [.g (.str l),.n i] [] H=ret (.i ((if pk l (i+rn aP l i)=39/\0<rn aT l (i+rn aP l i+1)then i+rn aP l i+(1+rn aT l (i+rn aP l i+1))else i+rn aP l i:Nat):Nat)) H
 |n,i,hn,hi=>by
  refine eL (CH) ?_
  rw[Gn]
  by_cases hc:i<l.length
  ·rw[decide_eq_true hc,cond_true,bC,cI hc,aq (Ef _ _),aj]
   have hs:=jl aP hc
   cases hq:aP (pk l i)with
   |false =>
    rw[hq,if_neg (by decide)]at hs
    rw[cond_false,bT (show i<2^62 by omega),hs,Nat.add_zero]
    exact Ah l hl H i hi _ (i+1) rfl (Nat.le_refl _) (by omega) rfl
   |true =>
    rw[hq,if_pos rfl]at hs
    rw[cond_true,bT (show i<2^62 by omega),hs,Gq l hl H (n - 1) (i+1) (by omega) (by omega),show i+1+rn aP l (i+1)=i+(rn aP l (i+1)+1)by omega]
  ·rw[decide_eq_false hc,cond_false,bT (show i<2^62 by omega),zR aP (show l.length<=i by omega),Nat.add_zero]
   exact Ah l hl H i hi _ (i+1) rfl (Nat.le_refl _) (by omega) rfl
 termination_by n=>n
theorem Kc(l:af)(hl:l.length<2^59)(H:DH)(i:Nat)(hi:i<=l.length):aD 193 [.str l,.i i] H=ret (.i (i+cE l i:Nat)) H:=by
 refine ev (TC) ((Gq l hl H _ i rfl hi).trans ?_)
 grind [cE]
theorem xR(t:af)(H:DH):∀(pre suf:List af),tJ=pre++suf->ae ai 194 200003 [.g (.str t),.g (.row 1 (tJ.map fun w=>[.str w])),.n pre.length] [] H=ret (.bool (decide (t∈suf))) H
 |pre,[],e=>by
  refine eL (ta) ?_
  grind
 |pre,w::suf,e=>by
  refine eL (ta) ?_
  have hi:pre.length<tJ.length:=by rw[e];simp
  have hat:(tJ.map fun w=>([.str w]:List D))[pre.length]? = some [.str w]:=by rw[e];simp
  have ih:=xR t H (pre++[w]) suf (by rw[e];simp)
  simp only[List.length_append,List.length_singleton]at ih
  have h15:tJ.length=15:=rfl
  grind [Gn,bC,bm,ak,kG,aj,bT]
theorem LM(t:af)(H:DH):aD 194 [.str t] H=ret (.bool (decide (t∈tJ))) H:=ev (TB) (xR t H [] tJ rfl)
theorem yf(l:af)(i:Nat)(hi:i<l.length)(H:DH):∀(pre suf:af),DR=pre++suf->ae ai 195 200005 [.g (.str l),.n i,.g (.str DR),.n pre.length] [] H=ret (.i (if pk l i∈suf then 1 else 0)) H
 |pre,[],e=>by
  refine eL (sZ) ?_
  grind
 |pre,w::suf,e=>by
  refine eL (sZ) ?_
  have hp:pre.length<DR.length:=by rw[e];simp
  have ih:=yf l i hi H (pre++[w]) suf (by rw[e];simp)
  simp only[List.length_append,List.length_singleton]at ih
  have h15:DR.length=14:=rfl
  have hw:pk DR pre.length=w:=by
   have h1:DR[pre.length]? = some w:=by rw[e];simp
   unfold pk
   rw[h1,Option.getD_some]
   have h2:∀ c∈DR,c%256=c:=by decide
   simp_all
  rw[Gn,decide_eq_true hp,cond_true,bC,cI hp,bC,cI hi,hw]
  simp only[bS,neq,aj,bT (show pre.length<2^62 by omega),ih]
  grind
theorem ON(l:af)(hl:l.length<2^59)(i:Nat)(hi:i<l.length)(H:DH):aD 195 [.str l,.i i] H=ret (.i (rm l i:Nat)) H:=by
 refine ev (f195) ?_
 have j:=yf l i hi H [] DR rfl
 have two:∀ {a b:Nat},(l.drop i).take 2=[a,b]->i+2<=l.length:=fun h=>by
  grind [List.length_take]
 have k:¬(l.drop i).take 2=[61,62]->¬(l.drop i).take 2=[45,62]->(ret (.i (if pk l i∈DR then 1 else 0)) H:ag)=ret (.i (rm l i:Nat)) H:=fun h1 h2=>by
  grind [rm]
 rw[bT (show i<2^62 by omega),Gn]
 by_cases hc:i+1<l.length
 ·rw[decide_eq_true hc,cond_true,show((i:Nat):Int)+2=((i:Nat):Int)+((2:Nat):Int)from rfl,wN (show i+2<2^62 by omega),LJ l i (i+2) H _ (by omega) (by omega),LJ l i (i+2) H _ (by omega) (by omega),show i+2 - i=2 by omega]
  simp only[kG,aj]
  by_cases h1:(l.drop i).take 2=[61,62]
  ·grind [rm]
  ·rw[show((l.drop i).take 2==[61,62])=false from beq_eq_false_iff_ne.2 h1,cond_false]
   by_cases h2:(l.drop i).take 2=[45,62]
   ·grind [rm]
   ·rw[show((l.drop i).take 2==[45,62])=false from beq_eq_false_iff_ne.2 h2,cond_false]
    exact j.trans (k h1 h2)
 ·rw[decide_eq_false hc,cond_false]
  exact j.trans (k (fun h=>by have:=two h;omega) (fun h=>by have:=two h;omega))
end Go.Proofs.YtenibcfppefobaaGreatDoor
set_option linter.all false
noncomputable section
namespace Go.Proofs.YtenibcfppefobaaGreatDoor
open Go.AI
theorem Im(t:TypeId)(c:Bool)(a:Int)(κ:D->ag):aB ab .quo t c (.i a) (.i 10) κ=κ (.i (eg (a.tdiv 10))):=rfl
theorem Lg(t:TypeId)(c:Bool)(a b:Int)(κ:D->ag):aB ab .sub t c (.int .u8 a) (.int .u8 b) κ=κ (.int .u8 (IntKind.wrap .u8 (a - b))):=rfl
theorem Qq(a:Int)(κ:D->ag):oD ab 5 3 (.int .u8 a) κ=κ (.i (eg a)):=by kernel_rfl
theorem vf(x:af)(hx:x.length<2^60)(H:DH)(v4 v6:Int):∀(n i:Nat) (v5:Int),n=x.length - i->i<=x.length ->
 ∃ a e:Int,ae ai 188 200009 [.g (.str x),.n v4,.n v5,.n v6,.n i] [] H=ret (.tuple [.i a,.i e]) H
 |n,i,v5,hn,hi=>by
  rw[show ae ai 188 200009 [.g (.str x),.n v4,.n v5,.n v6,.n i] [] H=_ from eL (CJ) rfl]
  rw[Gn]
  by_cases hc:i<x.length
  ·rw[decide_eq_true hc,cond_true,bC,cI hc,aq (qL _ _)]
   simp only[ct,aj]
   cases aT (pk x i)with
   |false=>exact⟨_,_,rfl⟩
   |true =>
    rw[Bool.not_true,cond_false,bC,cI hc]
    simp only[Lg,Qq,dN,Im,Bd,Bc,aj]
    cases decide (v5<_)with
    |true=>exact⟨_,_,rfl⟩
    |false =>
     rw[cond_false,bT (show i<2^62 by omega)]
     exact vf x hx H v4 v6 (n - 1) (i+1) _ (by omega) (by omega)
  ·rw[decide_eq_false hc,cond_false]
   cases v4==1 with
   |true=>exact⟨_,_,rfl⟩
   |false =>
    rw[cond_false]
    cases v5==v6 with
    |true=>exact⟨_,_,rfl⟩
    |false=>exact⟨_,_,rfl⟩
 termination_by n=>n
theorem JX(x:af)(hx:x.length<2^60)(H:DH)(i:Nat)(hi:i<=x.length):∃ a e:Int,ae ai 188 4 [.g (.str x),.n i] [] H=ret (.tuple [.i a,.i e]) H:=by
 rw[show ae ai 188 4 [.g (.str x),.n i] [] H=_ from eL (Qh) rfl]
 rw[neq]
 by_cases h:x.length=i
 ·simp_all
 ·rw[show(x.length==i)=false from beq_eq_false_iff_ne.2 h,cond_false]
  cases decide ((x.length:Int)>30)with
  |true=>exact⟨_,_,rfl⟩
  |false =>
   rw[cond_false,bC,cI (by omega)]
   simp only[bS,aj]
   cases ((pk x i:Int)==48)with
   |true =>
    rw[cond_true]
    cases decide ((x.length:Int)>1)with
    |true=>exact⟨_,_,rfl⟩
    |false=>rw[cond_false];exact vf x hx H i _ _ i 0 rfl hi
   |false=>rw[cond_false];exact vf x hx H i _ _ i 0 rfl hi
theorem Rc(x:af)(hx:x.length<2^60)(H:DH):∃ a e:Int,aD 188 [.str x] H=ret (.tuple [.i a,.i e]) H:=by
 rw[show aD 188 [.str x] H=_ from ev (TH) rfl]
 rw[show(0:Int)=((0:Nat):Int)from rfl,Ka]
 by_cases h:0<x.length
 ·rw[decide_eq_true h,cond_true,cI h]
  simp only[bS,aj]
  cases ((pk x 0:Int)==126)with
  |true=>rw[cond_true];exact JX x hx H 1 h
  |false=>rw[cond_false];exact JX x hx H 0 (Nat.zero_le _)
 ·rw[decide_eq_false h,cond_false];exact JX x hx H 0 (Nat.zero_le _)
def wY(l:af)(H:DH)(r:ag):Prop:=∃(k v e a:Int) (t:af),r=ret (.tuple [.agg (xT k v t a),.i e]) H/\(fh l 0->e=0->k=1) /\
 (¬ fh l 0->match fA l 0 with|none=>e≠0|some (k',n)=>e=0/\k=k'/\t=l.take n)
variable{l:af}
theorem JF(hl:l.length<=100)(H:DH)(hn:fh l 0)(i:Nat)(hi:i<=l.length) :
 wY l H (ae ai 137 8 [.g (.str l),.n ((0:Nat):Int),.lp 0 0,.n i] [(0,(xT 0 0 [] 0))] H):=by
 rw[show ae ai 137 8 [.g (.str l),.n ((0:Nat):Int),.lp 0 0,.n i] [(0,(xT 0 0 [] 0))] H=_ from eL (Qi) rfl]
 rw[LJ l 0 i H _ (Nat.zero_le _) hi]
 obtain⟨a,e,h⟩:=Rc ((l.drop 0).take (i - 0)) (by rw[List.length_take,List.length_drop];omega) H
 rw[aq h]
 simp only[cM,ak,aw,jK,aj]
 have bad:wY l H (ret (.tuple [.agg (xT 0 0 [] 0),.i 13]) H):=⟨0,0,13,0,[],rfl,(fun _ q=>by cases q),fun q=>(q hn).elim⟩
 have good:wY l H (ae ai 137 11 [.g (.str l),.n ((0:Nat):Int),.lp 0 0,.n i,.n a] [(0,(xT 0 0 [] 0))] H):=by
  rw[show ae ai 137 11 [.g (.str l),.n ((0:Nat):Int),.lp 0 0,.n i,.n a] [(0,(xT 0 0 [] 0))] H=_ from eL (Nl) rfl]
  rw[LJ l 0 i H _ (Nat.zero_le _) hi]
  exact⟨1,a,0,0,_,rfl,fun _ _=>rfl,fun q=>(q hn).elim⟩
 cases (e != 0)with
 |true=>rw[cond_true];exact bad
 |false =>
  rw[cond_false,Gn]
  by_cases hc:i<l.length
  ·rw[decide_eq_true hc,cond_true,bC,cI hc,aq (Ef _ _),aj]
   cases aP (pk l i)with
   |true=>rw[cond_true];exact bad
   |false =>
    rw[cond_false,bC,cI hc]
    simp only[bS,aj]
    cases ((pk l i:Int)==39)with
    |true=>rw[cond_true];exact bad
    |false=>rw[cond_false];exact good
  ·rw[decide_eq_false hc,cond_false];exact good
theorem DZ(hl:l.length<=100)(H:DH)(hn:fh l 0):∀(n i:Nat),n=l.length - i->i<=l.length ->
 wY l H (ae ai 137 200006 [.g (.str l),.n ((0:Nat):Int),.lp 0 0,.n i] [(0,(xT 0 0 [] 0))] H)
 |n,i,hq,hi=>by
  rw[show ae ai 137 200006 [.g (.str l),.n ((0:Nat):Int),.lp 0 0,.n i] [(0,(xT 0 0 [] 0))] H=_ from eL (CM) rfl]
  rw[Gn]
  by_cases hc:i<l.length
  ·rw[decide_eq_true hc,cond_true,bC,cI hc,aq (qL _ _),aj]
   cases aT (pk l i)with
   |true =>
    rw[cond_true,bT (show i<2^62 by omega)]
    exact DZ hl H hn (n - 1) (i+1) (by omega) (by omega)
   |false=>rw[cond_false];exact JF hl H hn i hi
  grind [JF]
 termination_by n=>n
end Go.Proofs.YtenibcfppefobaaGreatDoor
set_option linter.all false
noncomputable section
namespace Go.Proofs.YtenibcfppefobaaGreatDoor
open Go.AI
variable{l:af}
theorem zS(H:DH)(i:Nat)(hi:i<=l.length)(k:Int):ae ai 137 26 [.g (.str l),.n ((0:Nat):Int),.lp 0 0,.n i,.n k] [(0,(xT 0 0 [] 0))] H=ret (.tuple [.agg (xT k 0 (l.take i) ((0:Nat):Int)),.i 0]) H:=by
 refine eL (Ni) ?_
 rw[LJ l 0 i H _ (Nat.zero_le _) hi,List.drop_zero,Nat.sub_zero]
 rfl
theorem FY(hl:l.length<=100)(h0:0<l.length)(H:DH)(hn:¬ fh l 0)(h:eI (pk l 0)=true\/ii (pk l 0)=true):wY l H (ae ai 137 18 [.g (.str l),.n ((0:Nat):Int),.lp 0 0,.g (.int .u8 (pk l 0:Nat))] [(0,(xT 0 0 [] 0))] H):=by
 rw[show ae ai 137 18 [.g (.str l),.n ((0:Nat):Int),.lp 0 0,.g (.int .u8 (pk l 0:Nat))] [(0,(xT 0 0 [] 0))] H=_ from eL (Nj) rfl]
 rw[aq (Kc l (by omega) H 0 (Nat.zero_le _)),Nat.zero_add]
 have hle:=qh l 0 (Nat.zero_le _)
 have hw:eg (((cE l 0:Nat):Int) - ((0:Nat):Int))=((cE l 0:Nat):Int):=by rw[zt]<;>omega
 simp only[Bc,hw,gh,show(24:Int)=((24:Nat):Int)from rfl,Ka,aj]
 by_cases hc:24<cE l 0
 ·rw[decide_eq_true hc,cond_true]
  refine⟨0,0,2,0,[],rfl,fun q=>(hn q).elim,fun _=>?_⟩
  grind [fA]
 ·rw[decide_eq_false hc,cond_false,aq (Aw _ _),aj]
  cases hg:ii (pk l 0)with
  |true =>
   rw[cond_true,zS H _ (by omega) 3]
   have hs:¬ eI (pk l 0)=true:=fun hs=>by
    unfold eI at hs;unfold ii at hg
    grind
   have:fA l 0=some (3,cE l 0):=by unfold fA;rw[if_neg hs,if_pos hg,if_neg hc]
   refine⟨3,0,0,_,_,rfl,fun q=>(hn q).elim,fun _=>?_⟩
   grind
  |false =>
   have hs:eI (pk l 0)=true:=h.resolve_right (by rw[hg];decide)
   rw[cond_false,LJ l 0 _ H _ (Nat.zero_le _) (show cE l 0<=l.length by omega),aq (LM _ _),aj]
   rw[List.drop_zero,Nat.sub_zero]
   by_cases hw:l.take (cE l 0)∈tJ
   ·rw[decide_eq_true hw,cond_true,zS H _ (by omega) 5]
    have:fA l 0=some (5,cE l 0):=by unfold fA;rw[if_pos hs,if_neg hc,List.drop_zero,if_pos hw]
    refine⟨5,0,0,_,_,rfl,fun q=>(hn q).elim,fun _=>?_⟩
    grind
   ·rw[decide_eq_false hw,cond_false,zS H _ (by omega) 2]
    have:fA l 0=some (2,cE l 0):=by unfold fA;rw[if_pos hs,if_neg hc,List.drop_zero,if_neg hw]
    refine⟨2,0,0,_,_,rfl,fun q=>(hn q).elim,fun _=>?_⟩
    grind
theorem zT(hl:l.length<=100)(h0:0<l.length)(H:DH)(hn:¬ fh l 0)(hq:¬(pk l 0=39/\eI (pk l 1)=true)):wY l H (ae ai 137 17 [.g (.str l),.n ((0:Nat):Int),.lp 0 0,.g (.int .u8 (pk l 0:Nat))] [(0,(xT 0 0 [] 0))] H):=by
 rw[show ae ai 137 17 [.g (.str l),.n ((0:Nat):Int),.lp 0 0,.g (.int .u8 (pk l 0:Nat))] [(0,(xT 0 0 [] 0))] H=_ from eL (Nk) rfl]
 rw[aq (zA _ _),aj]
 cases hs:eI (pk l 0)with
 |true=>rw[cond_true];exact FY hl h0 H hn (.inl hs)
 |false =>
  rw[cond_false,aq (Aw _ _),aj]
  cases hg:ii (pk l 0)with
  |true=>rw[cond_true];exact FY hl h0 H hn (.inr hg)
  |false =>
   have ht:fA l 0=if rm l 0=0 then none else some (6,rm l 0):=by
    grind [fA]
   have hle:rm l 0<=l.length:=by
    grind [rm,List.drop,List.length_take,List.length_drop]
   rw[cond_false,aq (ON l (by omega) 0 h0 H)]
   simp only[bS,aj]
   by_cases hz:rm l 0=0
   ·rw[if_pos hz]at ht
    rw[hz,show(((0:Nat):Int)==0)=true from rfl,cond_true]
    refine⟨0,0,11,0,[],rfl,fun q=>(hn q).elim,fun _=>?_⟩
    rw[ht];simp
   ·rw[if_neg hz]at ht
    rw[show(((rm l 0:Nat):Int)==0)=false by simp;omega,cond_false]
    simp only[dN,wN (show 0+rm l 0<2^62 by omega),Nat.zero_add]
    rw[LJ l 0 _ H _ (Nat.zero_le _) hle,List.drop_zero,Nat.sub_zero]
    refine⟨6,0,0,_,_,rfl,fun q=>(hn q).elim,fun _=>?_⟩
    grind
theorem Mn(hl:l.length<=100)(h0:0<l.length)(H:DH):wY l H (aD 137 [.str l,.i ((0:Nat):Int)] H):=by
 rw[show aD 137 [.str l,.i ((0:Nat):Int)] H=_ from ev (f137) rfl]
 rw[bC,cI h0]
 have w1:eg (((0:Nat):Int)+1)=((1:Nat):Int):=bT (n:=0) (by omega)
 simp only[bS,show(126:Int)=((126:Nat):Int)from rfl,show(39:Int)=((39:Nat):Int)from rfl,neq,aj,aq (qL _ _),w1]
 by_cases h126:pk l 0=126
 ·rw[h126,BEq.rfl,cond_true,cond_true]
  exact DZ hl H (.inr h126) _ 1 rfl h0
 rw[show(pk l 0==126)=false from beq_eq_false_iff_ne.2 h126,cond_false,cond_false]
 cases hd:aT (pk l 0)with
 |true=>rw[cond_true];exact DZ hl H (.inl hd) _ 0 rfl (Nat.zero_le _)
 |false =>
 rw[cond_false]
 have hnn:¬ fh l 0:=fun h=>by rcases h with h|h;exact(by rw[hd]at h;cases h);exact h126 h
 by_cases h39:pk l 0=39
 ·have h39b:(pk l 0==39)=true:=by rw[h39];rfl
  rw[h39b,cond_true,Gn]
  by_cases h1:1<l.length
  ·rw[decide_eq_true h1,cond_true,bC,cI h1,aq (zA _ _),aj]
   cases hs:eI (pk l 1)with
   |true =>
    have hr:=pR aP l 1 (by omega)
    have hw:eg (((1+rn aP l 1:Nat):Int) - ((0:Nat):Int))=((1+rn aP l 1:Nat):Int):=by rw[zt]<;>omega
    have hs0:eI (pk l 0)=false:=by rw[h39];rfl
    have hg0:ii (pk l 0)=false:=by rw[h39];rfl
    have ht:fA l 0=if 1+rn aP l 1>24 then none else some (4,1+rn aP l 1):=by
     grind [fA]
    rw[cond_true,aq (JN l (by omega) H 1 (by omega))]
    simp only[Bc,hw,gh,show(24:Int)=((24:Nat):Int)from rfl,Ka,aj]
    by_cases hc:24<1+rn aP l 1
    ·rw[if_pos hc]at ht
     rw[decide_eq_true hc,cond_true]
     refine⟨0,0,2,0,[],rfl,fun q=>(hnn q).elim,fun _=>?_⟩
     rw[ht];simp
    ·rw[if_neg hc]at ht
     rw[decide_eq_false hc,cond_false,LJ l 0 _ H _ (Nat.zero_le _) (by omega),List.drop_zero,Nat.sub_zero]
     refine⟨4,0,0,_,_,rfl,fun q=>(hnn q).elim,fun _=>?_⟩
     grind
   |false =>
    grind [zT]
  ·rw[decide_eq_false h1,cond_false]
   exact zT hl h0 H hnn (fun h=>by rw[mq (show l.length<=1 by omega)]at h;cases h.2)
 grind [zT]
theorem BD{k:Int}{n:Nat}(h:fA l 0=some (k,n))(h0:0<l.length):n<=24/\n<=l.length:=by
 have a1:=qh l 0 (Nat.zero_le _)
 unfold fA at h
 split at h
 ·grind
 ·split at h
  ·grind
  ·split at h
   ·rename_i hq
    have h1:1<l.length:=by
     rcases Nat.lt_or_ge 1 l.length with q|q
     ·exact q
     ·rw[mq (show l.length<=0+1 by omega)]at hq;cases hq.2
    have a2:=pR aP l (0+1) (by omega)
    grind
   grind [rm,List.drop,List.length_take,List.length_drop]
theorem Ky(hl:l.length<=100)(h0:0<l.length)(hs:¬ skip l 0)(H:DH):∃ k,ae ai 90 5 [.g (.str l)] [] H=ret (.i k) H/\rg l k:=by
 rw[show ae ai 90 5 [.g (.str l)] [] H=_ from eL (Sa) rfl]
 obtain⟨k,v,e,a,t,h1,h2,h3⟩:=Mn hl h0 H
 have h1:aD 137 [.str l,.i 0] H=_:=h1
 rw[aq h1]
 simp only[cM,ak,aw,Se,QK,jK,aj,HK]
 by_cases he:e=0
 ·subst he
  rw[show((0:Int) != 0)=false from rfl,cond_false]
  by_cases ht:t.length=l.length
  ·rw[ht,show(((l.length:Nat):Int) !=((l.length:Nat):Int))=false by simp,cond_false]
   refine⟨k,rfl,?_⟩
   by_cases hn:fh l 0
   ·exact .inr ⟨hn,h2 hn rfl⟩
   ·have h3:=h3 hn
    cases hq:fA l 0 with
    |none=>rw[hq]at h3;exact(h3 rfl).elim
    |some p =>
     obtain⟨k',n⟩:=p
     rw[hq]at h3
     obtain⟨_,rfl,rfl⟩:=h3
     rw[List.length_take]at ht
     refine .inl ?_
     unfold fu
     by_cases h24:24<l.length
     ·exfalso
      have:=BD hq h0
      omega
     ·rw[if_neg (by rintro(q|q|q|q);omega;exact h24 q;exact hs q;exact hn q),hq]
      simp_all[BD]
  ·rw[show(((t.length:Nat):Int) !=((l.length:Nat):Int))=true by simp;omega,cond_true]
   refine⟨0,rfl,.inl ?_⟩
   grind [fu]
 ·rw[show(e != 0)=true by simp[he],cond_true]
  refine⟨0,rfl,.inl ?_⟩
  grind [fu]
theorem Pw(l:af)(H:DH):∃ k,aD 90 [.str l] H=ret (.i k) H/\rg l k:=by
 rw[show aD 90 [.str l] H=_ from ev (UE) rfl]
 rw[show(0:Int)=((0:Nat):Int)from rfl,show(100:Int)=((100:Nat):Int)from rfl,show(1:Int)=((1:Nat):Int)from rfl,neq,Ka,Ka]
 by_cases h0:l.length=0
 ·rw[h0,BEq.rfl,cond_true]
  exact⟨0,rfl,.inl (fx (.inl h0)).symm⟩
 rw[show(l.length==0)=false from beq_eq_false_iff_ne.2 h0,cond_false]
 by_cases h100:100<l.length
 ·rw[decide_eq_true h100,cond_true]
  exact⟨0,rfl,.inl (fx (.inr (.inl (by omega)))).symm⟩
 rw[decide_eq_false h100,cond_false,cI (show 0<l.length by omega),aq (Mf _ _),aj]
 cases hs:dw (pk l 0)with
 |true =>
  rw[cond_true]
  exact⟨0,rfl,.inl (fx (.inr (.inr (.inl (.inl hs))))).symm⟩
 |false =>
  rw[cond_false]
  by_cases h1:1<l.length
  ·rw[decide_eq_true h1,cond_true,show(.i 2:D)=.i ((2:Nat):Int)from rfl,QS l 2 H _ (by omega)]
   simp only[kG,aj]
   by_cases h2:l.take 2=[40,42]
   ·rw[h2,BEq.rfl,cond_true]
    exact⟨0,rfl,.inl (fx (.inr (.inr (.inl (.inr h2))))).symm⟩
   ·rw[show(l.take 2==[40,42])=false from beq_eq_false_iff_ne.2 h2,cond_false]
    exact Ky (by omega) (by omega) (fun h=>by rcases h with h|h;exact(by rw[hs]at h;cases h);exact h2 h) H
  ·rw[decide_eq_false h1,cond_false]
   refine Ky (by omega) (by omega) (fun h=>?_) H
   rcases h with h|h
   ·grind
   grind [List.length_take]
end Go.Proofs.YtenibcfppefobaaGreatDoor
set_option linter.all false
noncomputable section
namespace Go.Proofs.YtenibcfppefobaaGreatDoor
open Go.AI
theorem ST{α:Type}{l:List α}{i:Nat}{x:α}(h:l[i]? = some x):l.set i x=l:=@jO ⟨fun _=>True,[],fun _ _ _ h=>h⟩ α l i x h
inductive Ty where
 |mk (n:af) (xs:List Ty)
mutual
def cw:Ty->List D
 |.mk n xs=>[.str n,.row 2 (aJ xs)]
def aJ:List Ty->gi
 |[]=>[]
 |t::r=>cw t::aJ r
end
theorem fl:∀ l,aJ l=l.map cw
 |[]=>rfl
 |t::r=>by simp[aJ,fl r]
mutual
def Ty.ok:Ty->Prop
 |.mk _ xs=>xs.length<2^62/\Ty.oks xs
def Ty.oks:List Ty->Prop
 |[]=>True
 |t::r=>t.ok/\Ty.oks r
end
theorem Ty.oks_iff:∀ {l},Ty.oks l↔∀ t∈l,Ty.ok t
 |[]=>by simp[Ty.oks]
 |t::r=>by simp[Ty.oks,Ty.oks_iff (l:=r)]
theorem Pn{α β:Type}(f:α->β)(pre:List α)(t:α)(suf:List α):((pre++t::suf).map f)[pre.length]? = some (f t):=by simp
end Go.Proofs.YtenibcfppefobaaGreatDoor
set_option linter.all false
noncomputable section
namespace Go.Proofs.YtenibcfppefobaaGreatDoor
open Go.AI
structure Dy(kind:af->Int):Prop where
 a:∀ s H,∃ k,aD 57 [.str s] H=ret (.i k) H/\(k=kind s\/(kind s=0/\k=1))
 b:∀ s H,∃ k,aD 90 [.str s] H=ret (.i k) H/\(k=kind s\/(kind s=0/\k=1))
 c:kind [44]≠3
theorem kq{k n j:Int}(h:k=n\/(n=0/\k=1))(hj:2<=j):(k==j)=(n==j):=by
 grind
variable{kind:af->Int}(K:Dy kind)
include K
theorem MU(s:af)(H:DH):aD 55 [.str s] H=ret (.bool (kind s==3)) H:=by
 obtain⟨k,h1,h2⟩:=K.a s H
 exact ev (UH) (by simp only[aq h1,bS,kq h2 (show(2:Int)<=3 by decide)])
theorem lu(s:af)(H:DH):aD 29 [.str s] H=ret (.bool (kind s==4)) H:=by
 obtain⟨k,h1,h2⟩:=K.a s H
 exact ev (UI) (by simp only[aq h1,bS,kq h2 (show(2:Int)<=4 by decide)])
omit K
section
variable(kind:af->Int)
end
theorem bH:∀ l,(aJ l).length=l.length:=fun l=>by rw[fl,List.length_map]
theorem gG(pre:List Ty)(t:Ty)(suf:List Ty):(aJ (pre++t::suf))[pre.length]? = some (cw t):=by rw[fl];exact Pn _ _ _ _
include K
end Go.Proofs.YtenibcfppefobaaGreatDoor
set_option linter.all false
noncomputable section
namespace Go.Proofs.YtenibcfppefobaaGreatDoor
open Go.AI
theorem UC:Dy fu:=by
 have w:∀ {l:af} {k:Int},rg l k->k=fu l\/(fu l=0/\k=1):=fun h=>by
  rcases h with h|⟨h1,h2⟩
  ·exact .inl h
  grind [fx]
 refine⟨fun s H=>?_,fun s H=>?_,?_⟩
 ·obtain⟨k,h1,h2⟩:=Px s H;exact⟨k,h1,w h2⟩
 ·obtain⟨k,h1,h2⟩:=Pw s H;exact⟨k,h1,w h2⟩
 ·unfold fu
  split
  ·decide
  ·have:fA [44] 0=some (6,1):=by decide
   grind
end Go.Proofs.YtenibcfppefobaaGreatDoor
set_option linter.all false
noncomputable section
namespace Go.Proofs.YtenibcfppefobaaGreatDoor
open Go.RowKit Go.Lib
structure nP(w:World):Prop where
 mx:∃ m,w.cell? ⟨1,0,none⟩=some (.int .i64 m)
 syn:∃ ev,w.cell? ⟨4,0,none⟩=some ev/\(ev=.nilIface\/∃ te pe,ev=.iface te pe)
 rng:∃ ev,w.cell? ⟨5,0,none⟩=some ev/\(ev=.nilIface\/∃ te pe,ev=.iface te pe)
 pow:Lib.TabIs Tryz.prog w "internal/strconv.uint64pow10" .u64 Lib.pow10Tab
 sz:6<=w.heap.size
 pw:∀ w',Below w.heap.size w w'->Lib.TabIs Tryz.prog w' "internal/strconv.uint64pow10" .u64 Lib.pow10Tab
theorem nP.below{w w':World}(h:nP w)(b:Below w.heap.size w w'):nP w':=by
 have hs:=h.sz
 refine⟨?_,?_,?_,h.pw w' b,Nat.le_trans h.sz b.size,fun w2 b2=>h.pw w2 (b.trans ⟨b2.os,b2.tape,b2.output,b2.size,fun k hk=>b2.block k (Nat.lt_of_lt_of_le hk b.size)⟩)⟩
 ·obtain⟨m,hm⟩:=h.mx;exact⟨m,(b.cell (p:=⟨1,0,none⟩) (show 1<w.heap.size by omega)).trans hm⟩
 ·obtain⟨m,hm,h2⟩:=h.syn;exact⟨m,(b.cell (p:=⟨4,0,none⟩) (show 4<w.heap.size by omega)).trans hm,h2⟩
 ·obtain⟨m,hm,h2⟩:=h.rng;exact⟨m,(b.cell (p:=⟨5,0,none⟩) (show 5<w.heap.size by omega)).trans hm,h2⟩
theorem Below.up{a b c:World}(h:Below a.heap.size a b)(k:Below b.heap.size b c):Below a.heap.size a c :=
 h.trans ⟨k.os,k.tape,k.output,k.size,fun i hi=>k.block i (Nat.lt_of_lt_of_le hi h.size)⟩
theorem pU(old new:List UInt8):∀(k:Nat) (s:List UInt8),(Lib.replaceK old new k s).length<=s.length+k*new.length
 |0,s=>by simp[Lib.replaceK]
 |k+1,s=>by
  rw[Lib.replaceK]
  split
  ·omega
  ·have ih:=pU old new k (s.drop ((Lib.index s old).toNat+old.length))
   grind
theorem BP(s old new:List UInt8):(Lib.replace s old new 1).length<=s.length+new.length:=by
 unfold Lib.replace
 split
 ·omega
 ·have h1:=pU old new (Lib.replaceNum s old 1) s
  have h2:Lib.replaceNum s old 1<=1:=by unfold Lib.replaceNum;split<;>simp_all;omega
  have h3:Lib.replaceNum s old 1*new.length<=1*new.length:=Nat.mul_le_mul_right _ h2
  omega
theorem AS(n:Int)(h0:-9223372036854775808<=n)(h1:n<=9223372036854775807)(w:World)(hw:nP w) :
 Calls Tryz.prog 279 #[.int .i64 n] w fun e w'=>e=.returned (.string (Nq n))/\Below w.heap.size w w':=by
 go_enter Tryz.func279,Tryz.ntmps279
 go_wp2_with (first
  |(go_at_call 89;refine(Tryz.strconv_Itoa n h0 h1 _ hw.pow).mono ?_;rintro e W1 ⟨rfl,k,os,rfl⟩))
 have hb1:Below w.heap.size w (Go.Sort.grow (w.drewN k) os):=below_regrown w _ os
 have hw1:=hw.below hb1
 obtain⟨m,hm⟩:=hw1.mx
 have hlen:=Lib.itoa_length_le n h0 h1
 have hsz:(ByteArray.mk (Lib.itoa n).toArray).size=(Lib.itoa n).length:=by simp[ByteArray.size]
 have hcb:=Lib.countB_mul_le (ByteArray.mk #[45]) (by decide) _ (ByteArray.mk (Lib.itoa n).toArray) (Nat.le_refl _)
 refine(Tryz.strings_Replace ⟨(Lib.itoa n).toArray⟩ ⟨#[45]⟩ ⟨#[126]⟩ 1 m _ (by omega) hm (by decide) ?_).mono ?_
 ·have:(ByteArray.mk #[126]).size=1:=rfl
  have h45:(ByteArray.mk #[45]).size=1:=rfl
  rw[this];rw[h45]at hcb;omega
 rintro e W2 ⟨rfl,hb2⟩
 go_wp2
 go_ret
 exact⟨rfl,Below.up hb1 hb2⟩
theorem Af(s:ByteArray)(hs:s.size<=1000)(w:World)(hw:nP w) :
 Calls Tryz.prog 262 #[.string s] w fun e w'=>e=.returned (.tuple #[.int .i64 (oQ s).1,.int .i64 (oQ s).2])/\Below w.heap.size w w':=by
 obtain⟨m,hm⟩:=hw.mx
 have hcb:=Lib.countB_mul_le (ByteArray.mk #[126]) (by decide) _ s (Nat.le_refl _)
 have h126:(ByteArray.mk #[126]).size=1:=rfl
 have h45:(ByteArray.mk #[45]).size=1:=rfl
 rw[h126]at hcb
 go_enter Tryz.func262,Tryz.ntmps262
 go_wp2_with (first
  |(go_at_call 278;refine(Tryz.strings_Replace s ⟨#[126]⟩ ⟨#[45]⟩ 1 m _ (by omega) hm (by decide) (by rw[h45];omega)).mono ?_;rintro e W1 ⟨rfl,hb1⟩))
 have hw1:=hw.below hb1
 have hrl:=BP s.data.toList [126] [45]
 have hrs:(xu s).size=(Lib.replace s.data.toList [126] [45] 1).length:=by simp[xu,ByteArray.size]
 have hsl:s.size=s.data.toList.length:=by rw[Array.length_toList];rfl
 have hr2:(xu s).size<=1001:=by rw[hrs];have:[(45:UInt8)].length=1:=rfl;omega
 change Calls Tryz.prog 277 #[.string (xu s)] W1 _
 rcases ha:Lib.atoiAll (xu s).data.toList with v|_|_
 ·obtain⟨g0,g1⟩:=Lib.atoiAll_bounds ha
  refine(Tryz.strconv_Atoi_ok (xu s) (by omega) v ha W1).mono ?_
  rintro e W2 ⟨rfl,hb2⟩
  have hb2:Below W1.heap.size W1 W2:=by
   rcases hb2 with rfl|⟨t,rfl⟩
   ·exact Below.refl _ _
   ·exact Lib.bytesWorld_below _ _ _
  have hw2:=hw1.below hb2
  go_wp2_with (first
   |(go_at_call 279;refine(AS v g0 g1 _ hw2).mono ?_;rintro e W3 ⟨rfl,hb3⟩))
  ·rename_i hq
   go_ret2
   refine⟨?_,Below.up (Below.up hb1 hb2) hb3⟩
   have hq2:((Nq v).toList==s.toList)=false:=by simpa using hq
   simp only[oQ,ha];rw[hq2];rfl
  ·rename_i hq
   have hq2:((Nq v).toList==s.toList)=true:=by simpa using hq
   go_wp2
   go_ret2
   refine⟨?_,Below.up (Below.up hb1 hb2) hb3⟩
   simp only[oQ,ha];rw[hq2];rfl
 ·obtain⟨ev,hv,hev⟩:=hw1.syn
  refine(show Calls Tryz.prog 277 #[.string (xu s)] W1 _ from Any.strconv_Atoi_syntax Tryz.laysC172 (xu s) (by omega) ha ev W1 hv hev).mono ?_
  rintro e W2 ⟨N,rfl,hN,hcell,hb2⟩
  go_wp2
  go_ret2
  refine⟨?_,Below.up hb1 hb2⟩
  simp only[oQ,ha]
  rfl
 ·obtain⟨ev,hv,hev⟩:=hw1.rng
  refine(Tryz.strconv_Atoi_range (xu s) (by omega) ha ev W1 hv hev).mono ?_
  rintro e W2 ⟨N,rfl,hN,hcell,hb2⟩
  go_wp2
  go_ret2
  refine⟨?_,Below.up hb1 hb2⟩
  simp only[oQ,ha]
  rfl
end Go.Proofs.YtenibcfppefobaaGreatDoor
set_option linter.all false
noncomputable section
namespace Go.AI
open Go.RowKit
theorem pK{P:Program}{f:FuncId}{args:List V}{s:S}{v:V} (he:∀ ρ w ys,HR ρ s w->aM ρ args=some ys->(∀ w,(callFunc f ys.toArray).run P w=.ok (.enter f ys.toArray) w) /\
 Calls P f ys.toArray w fun e w'=>∃ y,e=.returned y/\(∀ ρ,den ρ v=some y)/\Below w.heap.size w w'):fE P f args none s ⟨.returned v,none,s⟩:=by
 intro ρ w ys hr hd
 obtain⟨h1,h2⟩:=he ρ w ys hr hd
 refine⟨h1,fun cs hup=>?_⟩
 obtain⟨e,w',fr,⟨y,rfl,h3,h4⟩,h5,h6,h7⟩:=h2 cs
 exact⟨ρ,w',hr.frame h4.size h4.block,⟨ρ.le_refl,h4.size,h4.os,h4.tape,h4.output,fun b hb _=>h4.block b hb,fun f v l e _=>⟨f,v,l,e,rfl,id⟩⟩,fr,.returned y,h3 ρ,h5,h6,h7⟩
theorem kJ{ρ:au}{s:S}{w:World}(h:HR ρ s w){g:Nat}{cs:List V}(hc:fw s g=some cs):∃(c:Array Value) (e:TypeId) (fz:Nat×Nat),w.heap[g]? = some (.cells c e fz)/\aM ρ cs=some c.toList:=by
 unfold fw at hc
 split at hc
 ·rename_i vers hg
  split at hc
  ·rename_i u hu
   cases hc
   obtain⟨hm,hv⟩:=er hu
   obtain⟨⟨l,c,e,fz,h1,h2,h3,h4⟩,l',c',e',fz',g1,g2,g3,g4⟩:=h.blk _ _ hg u hm
   rw[h1]at g1;cases g1
   rw[g2,g3]at h2;cases h2
   obtain⟨k1,k2⟩:=g4 hv
   refine⟨c,e,fz,g3,jH (by rw[<- k2];simp) fun i x hx=>?_⟩
   obtain⟨y,hy,hy'⟩:=h4 i x hx
   refine⟨y,hy,?_⟩
   rw[k1]at hy'
   rw[Array.getElem?_toList]
   simpa using hy'
  ·cases hc
 ·cases hc
end Go.AI
namespace Go.Proofs.YtenibcfppefobaaGreatDoor
open Go.AI Go.RowKit
theorem Ot{w:World}{g:Nat}{c:Array Value}{e:TypeId}{fz:Nat×Nat}{v:Value}(h:w.heap[g]? = some (.cells c e fz))(hc:c.toList=[v]):w.cell? ⟨g,0,none⟩=some v:=by
 unfold World.cell?
 simp only[h]
 have:c[0]? = some v:=by rw[<- Array.getElem?_toList,hc];rfl
 grind
theorem KR{ρ:au}{s:S}{w:World}(h:HR ρ s w){g:Nat}(hc:∃ c,fw s g=some c/\tZ c=true):∃ ev,w.cell? ⟨g,0,none⟩=some ev/\(ev=.nilIface\/∃ te pe,ev=.iface te pe):=by
 obtain⟨c,h1,h2⟩:=hc
 obtain⟨ca,e,fz,h3,h4⟩:=kJ h h1
 unfold tZ at h2
 grind [aM,den,Ot]
theorem Ns(ρ:au):aM ρ BV=some (Lib.pow10Tab.map fun z=>Value.int .u64 z):=by rfl
theorem Eo{ρ:au}{s:S}{w:World}(h:HR ρ s w)(hg:sH s):nP w:=by
 have htab:∀ w':World,w'.heap[0]? = w.heap[0]?->Lib.TabIs Tryz.prog w' "internal/strconv.uint64pow10" .u64 Lib.pow10Tab:=by
  intro w' hw'
  obtain⟨c,e,fz,h1,h2⟩:=kJ h hg.pow
  rw[Ns]at h2
  unfold Lib.TabIs World.var?
  have hn:Tryz.prog.globalNamed "internal/strconv.uint64pow10" = some 0:=by kernel_rfl
  simp_all
 have hsz:6<=w.heap.size:=by
  obtain⟨c,h1,_⟩:=hg.rng
  obtain⟨ca,e,fz,h3,_⟩:=kJ h h1
  grind
 refine⟨?_,KR h hg.syn,KR h hg.rng,htab w rfl,hsz,fun w' b=>htab w' (b.block 0 (by omega))⟩
 obtain⟨c,h1,h2⟩:=hg.mx
 obtain⟨ca,e,fz,h3,h4⟩:=kJ h h1
 unfold GB at h2
 grind [aM,den,Ot]
theorem Ag{args:List V}{s:S}{v:V}{s':S}(h:vg args s=some (v,s')):fE Tryz.prog 262 args none s ⟨.returned v,none,s'⟩:=by
 unfold vg at h
 split at h
 ·rename_i l
  split at h
  ·rename_i hg
   cases h
   refine pK fun ρ w ys hr hd=>?_
   simp only[aM,den]at hd
   cases hd
   refine⟨fun w=>enters_of Tryz.func262 (by kernel_rfl) rfl _ w,(Af (av l) ?_ w (Eo hr hg.1)).mono ?_⟩
   ·have:(av l).size=l.length:=by unfold av ByteArray.size;simp
    omega
   ·rintro e w' ⟨rfl,hb⟩
    exact⟨_,rfl,fun ρ=>rfl,hb⟩
  ·cases h
 ·cases h
theorem Cs(c:Nat)(hc:c<256):∀(l:List Nat) (n:Int),0<=n->(∀ x∈l,x<256)->tA l c n=if Lib.indexByte (l.map UInt8.ofNat) (UInt8.ofNat c)=-1 then -1 else Lib.indexByte (l.map UInt8.ofNat) (UInt8.ofNat c)+n
 |[],n,_,_=>rfl
 |x::l,n,hn,h=>by
  have ih:=Cs c hc l (n+1) (by omega) fun y hy=>h y (List.mem_cons_of_mem _ hy)
  have hx:=h x List.mem_cons_self
  have hge:=Lib.indexByte_ge (l.map UInt8.ofNat) (UInt8.ofNat c)
  have he:(UInt8.ofNat x==UInt8.ofNat c)=Nat.beq x c:=by
   rw[Bool.eq_iff_iff]
   simp only[beq_iff_eq,Nat.beq_eq]
   constructor
   ·intro h
    have:=congrArg UInt8.toNat h
    simp at this;omega
   ·rintro rfl;rfl
  simp only[tA,List.map_cons,Lib.indexByte,he]
  cases hb:Nat.beq x c with
  |true=>simp
  |false =>
   simp only[cond_false,Bool.false_eq_true,if_false]
   rw[ih]
   by_cases hq:Lib.indexByte (l.map UInt8.ofNat) (UInt8.ofNat c)=-1
   ·simp[hq]
   ·have h1:(Lib.indexByte (l.map UInt8.ofNat) (UInt8.ofNat c)==-1)=false:=by simpa using hq
    rw[if_neg hq,h1]
    simp only[Bool.false_eq_true,if_false]
    rw[if_neg (by omega)]
    omega
theorem Au{args:List V}{s:S}{v:V}{s':S}(h:vN args s=some (v,s')):fE Tryz.prog 236 args none s ⟨.returned v,none,s'⟩:=by
 unfold vN at h
 split at h
 ·rename_i l c
  cases hb:Nat.blt c 256&&l.all (fun x=>Nat.blt x 256)with
  |false=>rw[hb,cond_false]at h;cases h
  |true =>
   rw[hb,cond_true]at h
   cases h
   simp only[Bool.and_eq_true,List.all_eq_true]at hb
   have hc:c<256:=Nat.lt_of_succ_le (Nat.le_of_ble_eq_true hb.1)
   have hl:∀ x∈l,x<256:=fun x hx=>Nat.lt_of_succ_le (Nat.le_of_ble_eq_true (hb.2 x hx))
   refine pK fun ρ w ys hr hd=>?_
   simp only[aM,den]at hd
   cases hd
   refine⟨fun w=>enters_of Tryz.func236 (by kernel_rfl) rfl _ w,(Tryz.strings_IndexByte (av l) (Int.ofNat c) w).mono ?_⟩
   rintro e w' ⟨rfl,rfl⟩
   refine⟨_,rfl,fun ρ=>?_,Below.refl _ _⟩
   have e1:(av l).data.toList=l.map UInt8.ofNat:=by simp[av]
   have e2:tA l c 0=Lib.indexByte (l.map UInt8.ofNat) (UInt8.ofNat c):=by
    simp_all[Cs]
   rw[e1]
   show some (Value.int .i64 (tA l c 0))=_
   rw[e2]
   rfl
 ·cases h
end Go.Proofs.YtenibcfppefobaaGreatDoor
set_option linter.all false
noncomputable section
namespace Go.Proofs.YtenibcfppefobaaGreatDoor
open Go.AI
theorem nb{f n:Nat}(h:Nat.beq f n=true):f=n:=Nat.eq_of_beq_eq_true h
theorem SR:qZ lF:=⟨fun f args s v s' h=>by
 change sj f args s=some (v,s')at h
 unfold sj at h
 cases h1:Nat.beq f 236 with
 |true=>rw[h1]at h;have:=nb h1;subst this;exact Au h
 |false =>
  rw[h1,cond_false]at h
  cases h2:Nat.beq f 262 with
  |true=>rw[h2]at h;have:=nb h2;subst this;exact Ag h
  |false =>
   rw[h2,cond_false]at h
   cases h3:Nat.beq f 6 with
   |false=>rw[h3]at h;cases h
   |true =>
    rw[h3,cond_true]at h;have:=nb h3;subst this
    cases args with
    |cons a r=>cases h
    |nil=>cases h;exact DU s⟩
theorem kK{s s':S}{g:Nat}(h:s'.get g=s.get g):fw s' g=fw s g:=by unfold fw;rw[h]
theorem MZ(s s':S)(h:∀ f∈[0,1,4,5],s'.get f=s.get f)(k:sH s):sH s':=by
 obtain⟨⟨c1,h1,k1⟩,⟨c2,h2,k2⟩,⟨c3,h3,k3⟩,h4⟩:=k
 exact⟨⟨c1,(kK (h 1 (by simp))).trans h1,k1⟩,⟨c2,(kK (h 4 (by simp))).trans h2,k2⟩,⟨c3,(kK (h 5 (by simp))).trans h3,k3⟩,(kK (h 0 (by simp))).trans h4⟩
instance Up:fj:=⟨sH,[0,1,4,5],MZ⟩
theorem Ao{f:FuncId}{vs:List V}{s:S}{v:V}(h:sj f vs s=some (v,s)):lim lF (.call f vs none) s=some ⟨.returned v,none,s⟩:=by
 rw[Ko]
 have ho:lF.orc f vs s=some (v,s):=h
 grind [eJ,wF]
theorem rH{g:Gh}(hok:Ok g){d:D}{v:V}(h:RD g d v):iD g.s.next g.Pv g ⟨.ret d,none,g.H⟩ ⟨.returned v,none,g.s⟩ :=
 ⟨g,rfl,rfl,rfl,hok,.refl _ _,⟨v,rfl,h⟩,rfl⟩
theorem SP:LB de:=by
 refine⟨fun f h vs s=>?_,fun f args H d H' e g hH hok vs hr=>?_⟩
 ·change TT f=false at h
  unfold TT at h
  simp only[Bool.or_eq_false_iff]at h
  show sj f vs s=none
  grind [sj]
 ·change Qn f args H=some (d,H')at e
  subst hH
  unfold Qn at e
  cases h1:Nat.beq f 236 with
  |true =>
   rw[h1,cond_true]at e;have:=nb h1;subst this
   split at e
   ·rename_i l c
    cases hb:Nat.blt c 256&&Nat.ble l.length 1000 with
    |false=>rw[hb]at e;cases e
    |true =>
     rw[hb]at e;cases e
     simp only[Go.AI.RL,RD]at hr
     obtain⟨_,_,rfl,⟨rfl,hl⟩,_,_,rfl,rfl,rfl⟩:=hr
     simp only[Bool.and_eq_true]at hb
     refine⟨_,Ao (v:=.int .i64 (tA l c 0)) ?_,rH hok (by simp only[RD])⟩
     show vN [V.str l,V.int IntKind.u8 (Int.ofNat c)] g.s=_
     have:(Nat.blt c 256&&l.all fun x=>Nat.blt x 256)=true:=by
      simp_all
     grind [vN]
   ·cases e
  |false =>
   rw[h1,cond_false]at e
   cases h2:Nat.beq f 262 with
   |true =>
    rw[h2,cond_true]at e;have:=nb h2;subst this
    split at e
    ·rename_i l
     cases hb:Nat.ble l.length 1000 with
     |false=>rw[hb]at e;cases e
     |true =>
      rw[hb]at e;cases e
      simp only[Go.AI.RL,RD]at hr
      obtain⟨_,_,rfl,⟨rfl,hl⟩,rfl⟩:=hr
      refine⟨_,Ao (v:=.tuple [.int .i64 (oQ (av l)).1,.int .i64 (oQ (av l)).2]) ?_,rH hok ?_⟩
      ·show vg [V.str l] g.s=_
       simp only[vg]
       rw[if_pos ⟨hok.gl.i,Nat.le_of_ble_eq_true hb⟩]
      ·simp only[RD,Go.AI.RL]
       grind
    ·cases e
   |false =>
    rw[h2,cond_false]at e
    cases h3:Nat.beq f 6 with
    |false=>rw[h3]at e;cases e
    |true =>
     rw[h3,cond_true]at e;have:=nb h3;subst this
     split at e
     ·cases e
      simp only[Go.AI.RL]at hr
      subst hr
      exact⟨_,Ao (v:=.bool true) rfl,rH hok (by simp only[RD])⟩
     ·cases e
theorem MR{f:FuncId}{args:List D}{X:DH}(h:ed de (.call f args none) []=ret (.bool true) X){g:Gh}(hg:g.H=[])(hok:Ok g){vs:List V}(hr:Go.AI.RL g args vs) :
 ∃ s',lim lF (.call f vs none) g.s=some ⟨.returned (.bool true),none,s'⟩:=by
 obtain⟨vout,h1,g',_,h2,_,_,_,⟨v,h3,h4⟩,h5⟩:=(EY SP).call.c f args none [] _ h g hg hok vs none hr rfl
 obtain⟨e,up,s⟩:=vout
 simp only[RD]at h3 h4 h5
 cases h4
 simp only[IA]at h5
 cases h5
 cases h3
 exact⟨s,h1⟩
end Go.Proofs.YtenibcfppefobaaGreatDoor
set_option linter.all false
noncomputable section
namespace Go.Proofs.YtenibcfppefobaaGreatDoor
open Go.AI
structure bw where
 v:Bool
 n:af
 o:Int
 a:List Nat
abbrev Lk:=List (Option Nat)
inductive Rt(L:Lk):Nat->Nat->Nat->Prop
 |z {i}:L[i]? = some none->Rt L i i 0
 |s {i j r n}:L[i]? = some (some j)->Rt L j r n->Rt L i r (n+1)
theorem Rt.root{L:Lk}{i r n}(h:Rt L i r n):L[r]? = some none:=by induction h with
 |z h=>exact h
 |s _ _ ih=>exact ih
theorem Rt.det{L:Lk}{i r n r' n'}(h:Rt L i r n)(k:Rt L i r' n'):r=r'/\n=n':=by
 induction h generalizing r' n' with
 |z h=>cases k with
  |z _=>exact⟨rfl,rfl⟩
  |s k _=>rw[h]at k;cases k
 |s h _ ih=>cases k with
  |z k=>rw[h]at k;cases k
  |s k k2=>rw[h]at k;cases k;exact⟨(ih k2).1,by rw[(ih k2).2]⟩
def eA{α:Type}(L:Lk)(f:Nat->α):Prop:=∀(i j:Nat),L[i]? = some (some j)->f i=f j
theorem eA.rt{α:Type}{L:Lk}{f:Nat->α}(h:eA L f){i r n}(k:Rt L i r n):f i=f r:=by induction k with
 |z _=>rfl
 |s k _ ih=>rw[h _ _ k,ih]
def LH{α:Type}(N:List bw)(f:Nat->α):Prop:=∀(i j:Nat) (x y:bw),N[i]? = some x->N[j]? = some y->x.v=false->y.v=false->f i=f j->x.n=y.n/\x.a.map f=y.a.map f
def Hm(N:List bw)(L:Lk)(P:List (Nat×Nat)):Prop:=∀(i j:Nat) (x:bw),L[i]? = some (some j)->N[i]? = some x->x.v=false->∃ y,N[j]? = some y/\y.v=false/\x.n=y.n/\x.a.length=y.a.length/\∀(α:Type) (f:Nat->α),eA L f->(∀ p∈P,f p.1=f p.2)->x.a.map f=y.a.map f
structure tI(N:List bw)(L L':Lk):Prop where
 len:L'.length=L.length
 rt:∀ x r n,Rt L x r n->∃ m,m<=n/\Rt L' x r m
 rs:∀(α:Type) (f:Nat->α),eA L f↔eA L' f
 cl:∀ P,Hm N L P->Hm N L' P
 ro:∀ i:Nat,L[i]? = some none↔L'[i]? = some none
theorem tI.refl(N:List bw)(L:Lk):tI N L L:=⟨rfl,fun x r n h=>⟨n,Nat.le_refl _,h⟩,fun _ _=>.rfl,fun _ h=>h,fun _=>.rfl⟩
theorem tI.trans{N:List bw}{L L' L'':Lk}(h:tI N L L')(k:tI N L' L''):tI N L L'' :=
 ⟨by rw[k.len,h.len],fun x r n q=>by
  obtain⟨m,h1,h2⟩:=h.rt x r n q
  obtain⟨m',k1,k2⟩:=k.rt x r m h2
  exact⟨m',by omega,k2⟩,fun α f=>(h.rs α f).trans (k.rs α f),fun P q=>k.cl P (h.cl P q),fun i=>(h.ro i).trans (k.ro i)⟩
theorem Rt.ne{L:Lk}{i j r n}(h:L[i]? = some (some j))(k:Rt L j r n):i≠j:=fun q=>by
 subst q
 have:=(k.det (.s h k)).2
 omega
theorem dQ{L:Lk}{i:Nat}{x:Option Nat}(h:i<L.length)(j:Nat):(L.set i x)[j]? = if i=j then some x else L[j]?:=by
 rw[List.getElem?_set]
 by_cases q:i=j
 ·rw[if_pos q,if_pos q]
  split
  ·rfl
  ·omega
 ·rw[if_neg q,if_neg q]
theorem aE{α:Type}{l:List α}{i:Nat}{x:α}(h:l[i]? = some x):i<l.length:=by
 rcases Nat.lt_or_ge i l.length with q|q
 ·exact q
 ·rw[List.getElem?_eq_none q]at h;cases h
theorem eA.halve{α:Type}{L:Lk}{i j k:Nat}(h1:L[i]? = some (some j))(h2:L[j]? = some (some k))(hn:i≠j)(f:Nat->α):eA L f↔eA (L.set i (some k)) f:=by
 have hl:=aE h1
 constructor
 ·intro h x y hx
  rw[dQ hl]at hx
  split at hx
  ·rename_i q;subst q;cases hx;rw[h _ _ h1,h _ _ h2]
  ·exact h _ _ hx
 ·intro h x y hx
  have hk:f i=f k:=h i k (by rw[dQ hl,if_pos rfl])
  have hj:f j=f k:=h j k (by rw[dQ hl,if_neg hn,h2])
  by_cases q:i=x
  ·subst q;rw[h1]at hx;cases hx;rw[hk,hj]
  ·exact h x y (by rw[dQ hl,if_neg q,hx])
theorem tI.halve{N:List bw}{L:Lk}{i j k r n:Nat}(h1:L[i]? = some (some j))(h2:L[j]? = some (some k))(h3:Rt L k r n):tI N L (L.set i (some k)):=by
 have hl:=aE h1
 have hn:i≠j:=Rt.ne h1 (.s h2 h3)
 refine⟨by simp,?_,fun α f=>eA.halve h1 h2 hn f,?_,fun x=>?_⟩
 ·intro x r' m
  induction m using Nat.strongRecOn generalizing x r' with
  |ind m ih =>
   intro q
   cases q with
   |z q=>exact⟨0,Nat.le_refl _,.z (by rw[dQ hl,if_neg (fun e=>by subst e;rw[h1]at q;cases q),q])⟩
   |s q q2 =>
    rename_i y m
    by_cases e:i=x
    ·subst e
     rw[h1]at q;cases q
     cases q2 with
     |z q2=>rw[h2]at q2;cases q2
     |s q2 q3 =>
      rename_i y' m
      rw[h2]at q2;cases q2
      obtain⟨m',a,b⟩:=ih m (by omega) _ _ q3
      exact⟨m'+1,by omega,.s (by rw[dQ hl,if_pos rfl]) b⟩
    ·obtain⟨m',a,b⟩:=ih m (by omega) _ _ q2
     exact⟨m'+1,by omega,.s (by rw[dQ hl,if_neg e,q]) b⟩
 ·intro P h x y z hx hz hv
  rw[dQ hl]at hx
  split at hx
  ·rename_i q;subst q;cases hx
   obtain⟨y1,a1,a2,a3,a4,a5⟩:=h i j z h1 hz hv
   obtain⟨y2,b1,b2,b3,b4,b5⟩:=h j k y1 h2 a1 a2
   refine⟨y2,b1,b2,a3.trans b3,a4.trans b4,fun α f hf hp=>?_⟩
   have hf:=(eA.halve h1 h2 hn f).2 hf
   rw[a5 α f hf hp,b5 α f hf hp]
  ·obtain⟨y1,a1,a2,a3,a4,a5⟩:=h x y z hx hz hv
   exact⟨y1,a1,a2,a3,a4,fun α f hf hp=>a5 α f ((eA.halve h1 h2 hn f).2 hf) hp⟩
 ·rw[dQ hl]
  split
  ·rename_i q;subst q;rw[h1];simp
  ·rfl
theorem eA.link{α:Type}{L:Lk}{a b:Nat}(hb:L[b]? = some none)(f:Nat->α):eA (L.set b (some a)) f↔eA L f/\f b=f a:=by
 have hl:=aE hb
 constructor
 ·intro h
  refine⟨fun x y hx=>h x y ?_,h b a (by rw[dQ hl,if_pos rfl])⟩
  rw[dQ hl,if_neg (fun e=>by subst e;rw[hb]at hx;cases hx),hx]
 ·intro⟨h,e⟩ x y hx
  rw[dQ hl]at hx
  split at hx
  ·rename_i q;subst q;cases hx;exact e
  ·exact h x y hx
theorem Rt.link{L:Lk}{a b:Nat}(hb:L[b]? = some none)(ha:L[a]? = some none)(hn:a≠b){x r n}(h:Rt L x r n):∃ m,m<=n+1/\Rt (L.set b (some a)) x (if r=b then a else r) m:=by
 have hl:=aE hb
 induction h with
 |z h =>
  rename_i i
  by_cases e:i=b
  ·subst e
   rw[if_pos rfl]
   exact⟨1,by omega,.s (by rw[dQ hl,if_pos rfl]) (.z (by rw[dQ hl,if_neg (fun q=>hn q.symm),ha]))⟩
  ·rw[if_neg e]
   exact⟨0,by omega,.z (by rw[dQ hl,if_neg (fun q=>e q.symm),h])⟩
 |s h _ ih =>
  obtain⟨m,h1,h2⟩:=ih
  exact⟨m+1,by omega,.s (by rw[dQ hl,if_neg (fun q=>by subst q;rw[hb]at h;cases h),h]) h2⟩
def Wf(L:Lk):Prop:=∀ i,i<L.length->∃ r n,Rt L i r n
theorem Wf.eqv{N:List bw}{L L':Lk}(h:Wf L)(k:tI N L L'):Wf L':=fun i hi=>by
 obtain⟨r,n,q⟩:=h i (by rw[<- k.len];exact hi)
 obtain⟨m,_,q⟩:=k.rt _ _ _ q
 exact⟨r,m,q⟩
theorem Wf.link{L:Lk}{a b:Nat}(h:Wf L)(hb:L[b]? = some none)(ha:L[a]? = some none)(hn:a≠b):Wf (L.set b (some a)):=fun i hi=>by
 obtain⟨r,n,q⟩:=h i (by simpa using hi)
 obtain⟨m,_,q⟩:=q.link hb ha hn
 exact⟨_,m,q⟩
def Bv:Lk->Nat
 |[]=>0
 |none::r=>Bv r+1
 |some _::r=>Bv r
theorem Eb:∀ {L:Lk} {b a:Nat},L[b]? = some none->Bv (L.set b (some a))+1=Bv L
 |[],b,a,h=>by simp at h
 |x::r,0,a,h=>by simp at h;subst h;rfl
 |x::r,b+1,a,h=>by
  have:=Eb (L:=r) (b:=b) (a:=a) (by simpa using h)
  cases x<;>simp only[List.set_cons_succ,Bv]<;>omega
theorem NX:∀ {L L':Lk},L'.length=L.length->(∀ i:Nat,L[i]? = some none↔L'[i]? = some none)->Bv L'=Bv L
 |[],[],_,_=>rfl
 |[],_::_,h,_=>by simp at h
 |_::_,[],h,_=>by simp at h
 |x::r,y::r',h,k=>by
  have:=NX (L:=r) (L':=r') (by simpa using h) (fun i=>by simpa using k (i+1))
  have k0:=k 0
  simp at k0
  cases x<;>cases y<;>simp_all[Bv]
theorem tI.rc{N:List bw}{L L':Lk}(h:tI N L L'):Bv L'=Bv L:=NX h.len h.ro
structure US(N:List bw)(L:Lk)(E:List (Nat×Nat))(res:Bool)(L':Lk):Prop where
 len:L'.length=L.length
 wf:Wf L'
 rc:Bv L'<=Bv L
 snd:∀(α:Type) (f:Nat->α),LH N f->eA L f->(∀ p∈E,f p.1=f p.2)->res=true/\eA L' f
 cpl:res=true->(∀(α:Type) (f:Nat->α),eA L' f->eA L f/\∀ p∈E,f p.1=f p.2)/\∀ P,Hm N L (E++P)->Hm N L' P
theorem US.nil{N:List bw}{L:Lk}(h:Wf L):US N L [] true L:=⟨rfl,h,Nat.le_refl _,fun _ _ _ h _=>⟨rfl,h⟩,fun _=>⟨fun _ _ h=>⟨h,fun _ q=>nomatch q⟩,fun _ h=>h⟩⟩
theorem US.pre{N:List bw}{L L1 L':Lk}{E res}(h:tI N L L1)(k:US N L1 E res L'):US N L E res L' :=
 ⟨by rw[k.len,h.len],k.wf,by have:=k.rc;have:=h.rc;omega,fun α f h1 h2 h3=>k.snd α f h1 ((h.rs α f).1 h2) h3,fun q=>⟨fun α f h1=>⟨(h.rs α f).2 ((k.cpl q).1 α f h1).1,((k.cpl q).1 α f h1).2⟩,fun P h1=>(k.cpl q).2 P (h.cl _ h1)⟩⟩
theorem US.same{N:List bw}{L:Lk}(hw:Wf L){a b r n m}(ha:Rt L a r n)(hb:Rt L b r m):US N L [(a,b)] true L:=by
 have hab:∀(α:Type) (f:Nat->α),eA L f->f a=f b:=fun α f h=>by rw[h.rt ha,h.rt hb]
 refine⟨rfl,hw,Nat.le_refl _,fun _ _ _ h _=>⟨rfl,h⟩,fun _=>⟨fun α f h=>⟨h,fun p hp=>?_⟩,fun P h i j x hi hx hv=>?_⟩⟩
 ·simp at hp;subst hp;exact hab α f h
 ·obtain⟨y,a1,a2,a3,a4,a5⟩:=h i j x hi hx hv
  refine⟨y,a1,a2,a3,a4,fun α f hf hp=>a5 α f hf fun p q=>?_⟩
  simp at q
  rcases q with rfl|q
  ·exact hab α f hf
  ·exact hp p q
theorem US.link{N:List bw}{L:Lk}(hw:Wf L){a b ra rb n m}(ha:Rt L a ra n)(hb:Rt L b rb m)(hn:ra≠rb){E:List (Nat×Nat)}
 (hE:∀(α:Type) (f:Nat->α),LH N f->f ra=f rb->∀ p∈E,f p.1=f p.2)
 (hC:∀ x,N[rb]? = some x->x.v=false->∃ y,N[ra]? = some y/\y.v=false/\x.n=y.n/\x.a.length=y.a.length/\∀(α:Type) (f:Nat->α),(∀ p∈E,f p.1=f p.2)->x.a.map f=y.a.map f)
 {res L'} (k:US N (L.set rb (some ra)) E res L'):US N L [(a,b)] res L'/\Bv (L.set rb (some ra))<Bv L:=by
 have h1:=ha.root
 have h2:=hb.root
 have hl:=aE h2
 have hr:=Eb (a:=ra) h2
 refine⟨⟨by simpa using k.len,k.wf,by have:=k.rc;omega,fun α f c1 c2 c3=>?_,fun q=>?_⟩,by omega⟩
 ·have e:f ra=f rb:=by rw[<- c2.rt ha,<- c2.rt hb];exact c3 (a,b) (by simp)
  exact k.snd α f c1 ((eA.link h2 f).2 ⟨c2,e.symm⟩) (hE α f c1 e)
 ·obtain⟨q1,q2⟩:=k.cpl q
  refine⟨fun α f hf=>?_,fun P hP=>q2 P fun i j x hi hx hv=>?_⟩
  ·obtain⟨s1,s2⟩:=q1 α f hf
   obtain⟨s3,s4⟩:=(eA.link h2 f).1 s1
   refine⟨s3,fun p hp=>?_⟩
   simp at hp;subst hp
   show f a=f b
   rw[s3.rt ha,s3.rt hb,s4]
  ·rw[dQ hl]at hi
   split at hi
   ·rename_i e;subst e;cases hi
    obtain⟨y,a1,a2,a3,a4,a5⟩:=hC x hx hv
    exact⟨y,a1,a2,a3,a4,fun α f _ hp=>a5 α f fun p hp'=>hp p (List.mem_append_left _ hp')⟩
   ·obtain⟨y,a1,a2,a3,a4,a5⟩:=hP i j x hi hx hv
    refine⟨y,a1,a2,a3,a4,fun α f hf hp=>?_⟩
    obtain⟨s3,s4⟩:=(eA.link h2 f).1 hf
    refine a5 α f s3 fun p hp'=>?_
    simp at hp'
    rcases hp' with rfl|hp'
    ·show f a=f b
     rw[s3.rt ha,s3.rt hb,s4]
    ·exact hp p (List.mem_append_right _ hp')
theorem US.clash{N:List bw}{L:Lk}(hw:Wf L){a b ra rb n m}(ha:Rt L a ra n)(hb:Rt L b rb m){x y:bw}(hx:N[ra]? = some x)(hy:N[rb]? = some y)(vx:x.v=false)(vy:y.v=false)(h:x.n≠y.n\/x.a.length≠y.a.length):US N L [(a,b)] false L :=
 ⟨rfl,hw,Nat.le_refl _,fun α f h1 h2 h3=>by
  have e:f ra=f rb:=by rw[<- h2.rt ha,<- h2.rt hb];exact h3 (a,b) (by simp)
  obtain⟨e1,e2⟩:=h1 _ _ _ _ hx hy vx vy e
  have:=congrArg List.length e2
  simp at this
  rcases h with h|h
  ·exact(h e1).elim
  ·exact(h this).elim,fun q=>nomatch q⟩
theorem US.cons{N:List bw}{L L1 L':Lk}{e:Nat×Nat}{E:List (Nat×Nat)}{res}(h:US N L [e] true L1)(k:US N L1 E res L'):US N L (e::E) res L' :=
 ⟨by rw[k.len,h.len],k.wf,Nat.le_trans k.rc h.rc,fun α f h1 h2 h3=>k.snd α f h1 (h.snd α f h1 h2 fun p hp=>h3 p (by simp at hp;simp[hp])).2 fun p hp=>h3 p (List.mem_cons_of_mem _ hp),fun q=>by
  obtain⟨k1,k2⟩:=k.cpl q
  obtain⟨h1,h2⟩:=h.cpl rfl
  refine⟨fun α f hf=>?_,fun P hP=>k2 P (h2 _ hP)⟩
  obtain⟨s1,s2⟩:=k1 α f hf
  obtain⟨s3,s4⟩:=h1 α f s1
  refine⟨s3,fun p hp=>?_⟩
  rcases List.mem_cons.1 hp with rfl|hp
  ·exact s4 _ (by simp)
  ·exact s2 p hp⟩
theorem US.stop{N:List bw}{L L':Lk}{e:Nat×Nat}{E:List (Nat×Nat)}(h:US N L [e] false L'):US N L (e::E) false L' :=
 ⟨h.len,h.wf,h.rc,fun α f h1 h2 h3=>(by have:=(h.snd α f h1 h2 fun p hp=>h3 p (by simp at hp;simp[hp])).1;cases this),fun q=>nomatch q⟩
end Go.Proofs.YtenibcfppefobaaGreatDoor
set_option linter.all false
noncomputable section
namespace Go.Proofs.YtenibcfppefobaaGreatDoor
open Go.AI
theorem US.symm{N:List bw}{L L':Lk}{a b:Nat}{res}(h:US N L [(b,a)] res L'):US N L [(a,b)] res L' :=
 ⟨h.len,h.wf,h.rc,fun α f h1 h2 h3=>h.snd α f h1 h2 fun p hp=>(by simp at hp;subst hp;exact(h3 (a,b) (by simp)).symm),fun q=>⟨fun α f hf=>⟨((h.cpl q).1 α f hf).1,fun p hp=>(by simp at hp;subst hp;exact(((h.cpl q).1 α f hf).2 (b,a) (by simp)).symm)⟩,fun P hP=>(h.cpl q).2 P fun i j x hi hx hv=>by
  obtain⟨y,a1,a2,a3,a4,a5⟩:=hP i j x hi hx hv
  refine⟨y,a1,a2,a3,a4,fun α f hf hp=>a5 α f hf fun p hp'=>?_⟩
  simp at hp'
  rcases hp' with rfl|hp'
  ·exact(hp (b,a) (by simp)).symm
  ·exact hp p (by simp[hp'])⟩⟩
theorem zr{α:Type}{f:Nat->α}:∀ {l m:List Nat},l.length=m.length->((∀ p∈l.zip m,f p.1=f p.2)↔l.map f=m.map f)
 |[],[],_=>by simp
 |a::l,b::m,h=>by
  rw[List.zip_cons_cons,List.forall_mem_cons,zr (f:=f) (l:=l) (m:=m) (by simpa using h)]
  simp
 |[],_::_,h=>by simp at h
 |_::_,[],h=>by simp at h
theorem US.var{N:List bw}{L:Lk}(hw:Wf L){a b ra rb n m}(ha:Rt L a ra n)(hb:Rt L b rb m)(hn:ra≠rb){x:bw}(hx:N[ra]? = some x)(hv:x.v=true):US N L [(a,b)] true (L.set ra (some rb)) :=
 .symm (US.link (E:=[]) hw hb ha (fun q=>hn q.symm) (fun _ _ _ _ p q=>nomatch q) (fun y hy vy=>by rw[hx]at hy;cases hy;rw[hv]at vy;cases vy) (.nil (hw.link ha.root hb.root (fun q=>hn q.symm)))).1
theorem US.con{N:List bw}{L:Lk}(hw:Wf L){a b ra rb n m}(ha:Rt L a ra n)(hb:Rt L b rb m)(hn:ra≠rb){x y:bw}(hx:N[ra]? = some x)(hy:N[rb]? = some y)(vx:x.v=false)(vy:y.v=false)(h:x.n=y.n)(h':x.a.length=y.a.length){res L'}(k:US N (L.set rb (some ra)) (x.a.zip y.a) res L'):US N L [(a,b)] res L' :=
 (US.link hw ha hb hn (fun α f hc e=>(zr h').2 (hc _ _ _ _ hx hy vx vy e).2) (fun z hz _=>by
  rw[hy]at hz;cases hz
  exact⟨x,hx,vx,h.symm,h'.symm,fun α f hp=>((zr h').1 hp).symm⟩) k).1
mutual
inductive Tr(N:List bw)(L:Lk):Nat->Ty->Prop
 |var {i r n x}:Rt L i r n->N[r]? = some x->x.v=true->Tr N L i (.mk x.n [])
 |con {i r n x ts}:Rt L i r n->N[r]? = some x->x.v=false->sE N L x.a ts->Tr N L i (.mk x.n ts)
inductive sE(N:List bw)(L:Lk):List Nat->List Ty->Prop
 |nil:sE N L [] []
 |cons {i l t ts}:Tr N L i t->sE N L l ts->sE N L (i::l) (t::ts)
end
mutual
theorem Tr.det{N L}:∀ {i t t'},Tr N L i t->Tr N L i t'->t=t'
 |_,_,_,.var h1 h2 h3,.var k1 k2 k3=>by
  obtain⟨rfl,rfl⟩:=h1.det k1;rw[h2]at k2;cases k2;rfl
 |_,_,_,.var h1 h2 h3,.con k1 k2 k3 _=>by
  obtain⟨rfl,rfl⟩:=h1.det k1;rw[h2]at k2;cases k2;rw[h3]at k3;cases k3
 |_,_,_,.con h1 h2 h3 _,.var k1 k2 k3=>by
  obtain⟨rfl,rfl⟩:=h1.det k1;rw[h2]at k2;cases k2;rw[h3]at k3;cases k3
 |_,_,_,.con h1 h2 h3 h4,.con k1 k2 k3 k4=>by
  obtain⟨rfl,rfl⟩:=h1.det k1;rw[h2]at k2;cases k2
  rw[h4.det k4]
theorem sE.det{N L}:∀ {l ts ts'},sE N L l ts->sE N L l ts'->ts=ts'
 |_,_,_,.nil,.nil=>rfl
 |_,_,_,.cons h1 h2,.cons k1 k2=>by rw[h1.det k1,h2.det k2]
end
mutual
theorem Tr.eqv{N L L'}(h:tI N L L'):∀ {i t},Tr N L i t->Tr N L' i t
 |_,_,.var h1 h2 h3=>by
  obtain⟨m,_,h1⟩:=h.rt _ _ _ h1
  exact .var h1 h2 h3
 |_,_,.con h1 h2 h3 h4=>by
  obtain⟨m,_,h1⟩:=h.rt _ _ _ h1
  exact .con h1 h2 h3 (h4.eqv h)
theorem sE.eqv{N L L'}(h:tI N L L'):∀ {l ts},sE N L l ts->sE N L' l ts
 |_,_,.nil=>.nil
 |_,_,.cons h1 h2=>.cons (h1.eqv h) (h2.eqv h)
end
theorem Tr.rt{N L}{i r n t}(k:Rt L i r n)(h:Tr N L i t):Tr N L r t:=by
 have z:=Rt.z k.root
 cases h with
 |var h1 h2 h3=>obtain⟨rfl,_⟩:=h1.det k;exact .var z h2 h3
 |con h1 h2 h3 h4=>obtain⟨rfl,_⟩:=h1.det k;exact .con z h2 h3 h4
theorem Tr.of_rt{N L}{i r n t}(k:Rt L i r n)(h:Tr N L r t):Tr N L i t:=by
 have z:=Rt.z k.root
 cases h with
 |var h1 h2 h3=>obtain⟨rfl,_⟩:=h1.det z;exact .var k h2 h3
 |con h1 h2 h3 h4=>obtain⟨rfl,_⟩:=h1.det z;exact .con k h2 h3 h4
def ry(N:List bw)(L:Lk)(i:Nat):Ty:=open Classical in if h:∃ t,Tr N L i t then h.choose else .mk [] []
theorem kL{N L i t}(h:Tr N L i t):ry N L i=t:=by
 have q:∃ t,Tr N L i t:=⟨t,h⟩
 unfold ry
 rw[dif_pos q]
 exact q.choose_spec.det h
theorem sE.map{N L}:∀ {l ts},sE N L l ts->l.map (ry N L)=ts
 |_,_,.nil=>rfl
 |_,_,.cons h1 h2=>by rw[List.map_cons,kL h1,h2.map]
theorem xU{N L}(h:∀ i,i<L.length->∃ t,Tr N L i t):eA L (ry N L):=fun i j hij=>by
 obtain⟨t,ht⟩:=h i (aE hij)
 rw[kL ht]
 have:∃ r n,Rt L i r n:=by cases ht with
  |var k _ _=>exact⟨_,_,k⟩
  |con k _ _ _=>exact⟨_,_,k⟩
 obtain⟨r,n,k⟩:=this
 cases k with
 |z k=>rw[k]at hij;cases hij
 |s k k2 =>
  rw[k]at hij;cases hij
  rw[kL (.of_rt k2 (ht.rt (.s k k2)))]
def Ox(N:List bw)(f:Nat->Ty):Prop:=∀(i:Nat) (x:bw),N[i]? = some x->x.v=false->f i=.mk x.n (x.a.map f)
theorem Ox.comp{N f}(h:Ox N f):LH N f:=fun i j x y hx hy vx vy e=>by
 rw[h i x hx vx,h j y hy vy]at e
 injection e with e1 e2
 exact⟨e1,e2⟩
theorem Hm.mod{N L}(hc:Hm N L [])(h:∀ i,i<L.length->∃ t,Tr N L i t)(hl:N.length=L.length):Ox N (ry N L):=fun i x hx hv=>by
 have hr:=xU h
 obtain⟨t,ht⟩:=h i (by rw[<- hl];exact aE hx)
 have key:∀(i r n:Nat),Rt L i r n->∀(x:bw),N[i]? = some x->x.v=false->∃ y,N[r]? = some y/\y.v=false/\x.n=y.n/\x.a.map (ry N L)=y.a.map (ry N L):=fun i r n h=>by
  induction h with
  |z _=>exact fun x hx hv=>⟨x,hx,hv,rfl,rfl⟩
  |s h _ ih =>
   intro x hx hv
   obtain⟨y,a1,a2,a3,_,a5⟩:=hc _ _ _ h hx hv
   obtain⟨z,b1,b2,b3,b4⟩:=ih y a1 a2
   exact⟨z,b1,b2,a3.trans b3,(a5 _ _ hr (fun _ q=>nomatch q)).trans b4⟩
 rw[kL ht]
 cases ht with
 |var h1 h2 h3 =>
  obtain⟨y,a1,a2,_⟩:=key _ _ _ h1 x hx hv
  rw[h2]at a1;cases a1;rw[h3]at a2;cases a2
 |con h1 h2 h3 h4 =>
  obtain⟨y,a1,a2,a3,a4⟩:=key _ _ _ h1 x hx hv
  rw[h2]at a1;cases a1
  rw[<- a3,a4,h4.map]
mutual
def sub(s:af->Option Ty):Ty->Ty
 |.mk n l=>match l,s n with
  |[],some t=>t
  |_,_=>.mk n (jN s l)
def jN(s:af->Option Ty):List Ty->List Ty
 |[]=>[]
 |t::r=>sub s t::jN s r
end
theorem BE(s:af->Option Ty):∀ l,jN s l=l.map (sub s)
 |[]=>rfl
 |t::r=>by simp[jN,BE s r]
end Go.Proofs.YtenibcfppefobaaGreatDoor
set_option linter.all false
noncomputable section
namespace Go.Proofs.YtenibcfppefobaaGreatDoor
open Go.AI
structure GN(N:List bw)(T:List Ty)(isV:af->Bool):Prop where
 len:T.length=N.length
 var:∀(i:Nat) (x:bw),N[i]? = some x->x.v=true->T[i]? = some (.mk x.n [])/\isV x.n=true/\x.a=[]
 con:∀(i:Nat) (x:bw),N[i]? = some x->x.v=false->isV x.n=false/\(∀ a∈x.a,a<i)/\∃ ts,T[i]? = some (.mk x.n ts)/\x.a.map (fun a=>T[a]?)=ts.map some
 inj:∀(i j:Nat) (x y:bw),N[i]? = some x->N[j]? = some y->x.v=true->y.v=true->x.n=y.n->i=j
def rp(T:List Ty)(i:Nat):Ty:=(T[i]?).getD (.mk [] [])
theorem my{T:List Ty}{i t}(h:T[i]? = some t):rp T i=t:=by unfold rp;rw[h];rfl
theorem Gk{T:List Ty}:∀ {l:List Nat} {ts:List Ty},l.map (fun a=>T[a]?)=ts.map some->l.map (rp T)=ts
 |[],[],_=>rfl
 |a::l,t::ts,h=>by
  simp only[List.map_cons,List.cons.injEq]at h
  rw[List.map_cons,my h.1,Gk h.2]
 |[],_::_,h=>by simp at h
 |_::_,[],h=>by simp at h
def Vs(isV:af->Bool)(s:af->Option Ty):Prop:=∀ n t,s n=some t->isV n=true
theorem Vs.no{isV s}(h:Vs isV s){n}(k:isV n=false):s n=none:=by
 cases q:s n with
 |none=>rfl
 |some t=>rw[h n t q]at k;cases k
theorem pG{isV s}(h:Vs isV s){n l}(k:isV n=false):sub s (.mk n l)=.mk n (l.map (sub s)):=by
 unfold sub
 rw[h.no k,BE]
 split
 ·rename_i q;cases q
 ·rfl
theorem zw{s:af->Option Ty}{n}:sub s (.mk n [])=(s n).getD (.mk n []):=by
 unfold sub
 cases s n<;>rfl
theorem GN.con'{N T isV}(g:GN N T isV){i x}(h:N[i]? = some x)(hv:x.v=false):rp T i=.mk x.n (x.a.map (rp T)):=by
 obtain⟨_,_,ts,h2,h3⟩:=g.con i x h hv
 rw[my h2,Gk h3]
theorem GN.mod{N T isV}(g:GN N T isV){s}(hs:Vs isV s):Ox N fun i=>sub s (rp T i):=fun i x h hv=>by
 show sub s (rp T i)=_
 rw[g.con' h hv,pG hs (g.con i x h hv).1,List.map_map]
 rfl
structure LK(N:List bw)(L:Lk)(isV:af->Bool)(s:af->Option Ty):Prop where
 out:∀(i:Nat) (x:bw),N[i]? = some x->x.v=true->s x.n=if L[i]? = some none then none else some (ry N L i)
 vs:Vs isV s
theorem LK.ap{N L T isV s}(g:GN N T isV)(h:LK N L isV s)(hc:Hm N L [])(hT:∀ i,i<L.length->∃ t,Tr N L i t)(hl:N.length=L.length)(i:Nat)(hi:i<N.length):sub s (rp T i)=ry N L i:=by
 induction i using Nat.strongRecOn with
 |ind i ih =>
  have hx:=List.getElem?_eq_getElem hi
  generalize N[i]=x at hx
  cases hv:x.v with
  |true =>
   obtain⟨a1,a2,a3⟩:=g.var i x hx hv
   rw[my a1,zw,h.out i x hx hv]
   split
   ·rename_i q
    exact(kL (.var (.z q) hx hv)).symm
   ·rfl
  |false =>
   obtain⟨a1,a2,ts,a3,a4⟩:=g.con i x hx hv
   rw[g.con' hx hv,pG h.vs a1,hc.mod hT hl i x hx hv,List.map_map]
   congr 1
   refine List.map_congr_left fun a ha=>?_
   have:=a2 a ha
   exact ih a this (by omega)
mutual
theorem LK.idem{N L T isV s}(g:GN N T isV)(h:LK N L isV s):∀ {i t},Tr N L i t->sub s t=t
 |_,_,.var h1 h2 h3=>by
  rw[zw,h.out _ _ h2 h3,if_pos h1.root]
  rfl
 |_,_,.con h1 h2 h3 h4=>by
  rw[pG h.vs (g.con _ _ h2 h3).1,LK.idems g h h4]
theorem LK.idems{N L T isV s}(g:GN N T isV)(h:LK N L isV s):∀ {l ts},sE N L l ts->ts.map (sub s)=ts
 |_,_,.nil=>rfl
 |_,_,.cons h1 h2=>by rw[List.map_cons,LK.idem g h h1,LK.idems g h h2]
end
mutual
theorem Tr.gen{N L T isV s}(g:GN N T isV)(hs:Vs isV s)(hr:eA L fun i=>sub s (rp T i)):∀ {i t},Tr N L i t->sub s t=sub s (rp T i)
 |_,_,.var h1 h2 h3=>by
  have:=hr.rt h1
  rw[this,my (g.var _ _ h2 h3).1]
 |_,_,.con h1 h2 h3 h4=>by
  have:=hr.rt h1
  rw[this,g.con' h2 h3,pG hs (g.con _ _ h2 h3).1,pG hs (g.con _ _ h2 h3).1,sE.gen g hs hr h4,List.map_map]
  rfl
theorem sE.gen{N L T isV s}(g:GN N T isV)(hs:Vs isV s)(hr:eA L fun i=>sub s (rp T i)):∀ {l ts},sE N L l ts->ts.map (sub s)=l.map fun i=>sub s (rp T i)
 |_,_,.nil=>rfl
 |_,_,.cons h1 h2=>by rw[List.map_cons,List.map_cons,Tr.gen g hs hr h1,sE.gen g hs hr h2]
end
end Go.Proofs.YtenibcfppefobaaGreatDoor
set_option linter.all false
noncomputable section
namespace Go.Proofs.YtenibcfppefobaaGreatDoor
open Go.AI
theorem UN{R:bv}{x:D}{p1:Int}{p2:Nat}{H:DH}:bu R 22 [x,.i p1,.ptr p2 0] H =
 aF H p2 fun _ a=>aC a 0 fun a=>aB ab .add 3 true a (.i 1) fun a=>ah 1 a fun a=>aF H p2 fun b c=>az c 0 a fun a=>let H:=H.set p2 (.cells (b+1) a);eu x fun a=>dt a 1 fun a=>ft ab 22 a H fun a=>fq ab 22 a H fun a=>eu x fun b=>dt b 0 fun b=>ft ab 9 b H fun b=>aB ab .eql 9 true b (.str [73,110,116]) fun c=>brD c (aB ab .eql 3 true a (.i 0) fun a=>ae R 22 12 [.g x,.n p1,.g (.ptr p2 0),.g a] [] H) (aB ab .eql 9 true b (.str [45,62]) fun c=>brD c (aB ab .eql 3 true a (.i 2) fun a=>ae R 22 12 [.g x,.n p1,.g (.ptr p2 0),.g a] [] H) (aB ab .eql 9 true b (.str [44]) fun b=>brD b (aB ab .geq 3 true a (.i 2) fun b=>brD b (aB ab .leq 3 true a (.i 4) fun a=>ae R 22 12 [.g x,.n p1,.g (.ptr p2 0),.g a] [] H) (ae R 22 12 [.g x,.n p1,.g (.ptr p2 0),.g (.bool false)] [] H)) (eu x fun b=>dt b 0 fun b=>ft ab 9 b H fun b=>C R 29 [b] H fun b H=>brD b (aB ab .eql 3 true a (.i 0) fun b=>brD b (ae R 22 12 [.g x,.n p1,.g (.ptr p2 0),.g (.bool true)] [] H) (eu x fun b=>dt b 0 fun b=>ft ab 9 b H fun b=>C R 55 [b] H fun b H=>brD b (aB ab .leq 3 true a (.i 16) fun a=>ae R 22 12 [.g x,.n p1,.g (.ptr p2 0),.g a] [] H) (ae R 22 12 [.g x,.n p1,.g (.ptr p2 0),.g (.bool false)] [] H))) (eu x fun b=>dt b 0 fun b=>ft ab 9 b H fun b=>C R 55 [b] H fun b H=>brD b (aB ab .leq 3 true a (.i 16) fun a=>ae R 22 12 [.g x,.n p1,.g (.ptr p2 0),.g a] [] H) (ae R 22 12 [.g x,.n p1,.g (.ptr p2 0),.g (.bool false)] [] H))))):=by kernel_rfl
theorem AJ{R:bv}{v0:D}{v1:Int}{v2:Nat}{v8:Bool}{H:DH}:bG R 22 12 [.g v0,.n v1,.g (.ptr v2 0),.g (.bool v8)] [] H =
 cond (!v8) (ret (.bool false) H) (aF H v2 fun _ a=>aC a 0 fun a=>aB ab .gtr 3 true a (.i 2000) fun a=>brD a (ret (.bool false) H) (cond (decide (v1>100)) (ret (.bool false) H) (eu v0 fun a=>dt a 1 fun a=>ft ab 22 a H fun a=>fq ab 22 a H fun a=>ae R 22 200015 [.g v0,.n v1,.g (.ptr v2 0),.g a,.n 0] [] H))):=by kernel_rfl
theorem wi{R:bv}{v0:D}{v1:Int}{v2:Nat}{a b:Int}{H:DH}:bG R 22 200015 [.g v0,.n v1,.g (.ptr v2 0),.n a,.n b] [] H =
 cond (decide (b<a)) (eu v0 fun c=>dt c 1 fun c=>ft ab 22 c H fun c=>dF ab 22 c (.i b) fun c=>C R 22 [c,.i (eg (v1+1)),.ptr v2 0] H fun c H=>rl .not c fun c=>brD c (ret (.bool false) H) (ae R 22 200015 [.g v0,.n v1,.g (.ptr v2 0),.n a,.n (eg (b+1))] [] H)) (ret (.bool true) H):=by kernel_rfl
theorem UM{R:bv}{x:D}{H:DH}:bu R 25 [x] H =
 let a:=H++[.map []];let b:=a++[.cells 0 [.nilmap]];aF b a.length fun c d=>az d 0 [.map H.length] fun d=>let H:=b.set a.length (.cells (c+1) d);let b:=H++[.cells 0 [.nilFunc]];aF b H.length fun c d=>az d 0 [.func 56 [] [.ptr a.length 0,.ptr H.length 0]] fun a=>let a:=b.set H.length (.cells (c+1) a);fq ab 71 x a fun b=>ae R 25 200005 [.g (.ptr H.length 0),.g x,.g b,.n 0] [] a:=by kernel_rfl
theorem we{R:bv}{v4:Nat}{v9:D}{a b:Int}{H:DH}:bG R 25 200005 [.g (.ptr v4 0),.g v9,.n a,.n b] [] H =
 cond (decide (b<a)) (dF ab 71 v9 (.i b) fun c=>ft ab 74 c H fun c=>aF H v4 fun _ d=>aC d 0 fun d=>EH lF d fun d e f=>C R d (e++([c]++f)) H fun c H=>rl .not c fun c=>brD c (ret (.bool false) H) (ae R 25 200005 [.g (.ptr v4 0),.g v9,.n a,.n (eg (b+1))] [] H)) (ret (.bool true) H):=by kernel_rfl
theorem f7{R:bv}{a:af}{b:gi}{H:DH}:bu R 7 [.agg [.str a,.row 2 b]] H =
 let a:=H++[.cells 0 [.str a,.row 2 b]];let b:=a++[.cells 0 [.i 0]];aF b a.length fun c d=>az d 0 [.i 0] fun d=>let b:=b.set a.length (.cells (c+1) d);C R 22 [.ptr H.length 0,.i 1,.ptr a.length 0] b fun b H=>rl .not b fun b=>brD b (ret (.i 0) H) (aF H a.length fun _ a=>aC a 0 fun a=>ret a H):=by kernel_rfl
end Go.Proofs.YtenibcfppefobaaGreatDoor
set_option linter.all false
noncomputable section
namespace Go.Proofs.YtenibcfppefobaaGreatDoor
open Go.AI
theorem Ur{R:bv}{p0 p1:Nat}{H:DH}:bu R 24 [.ptr p0 0,.ptr p1 0] H =
 C R 26 [.ptr p0 0] H fun a H=>C R 26 [.ptr p1 0] H fun b H=>wM ab .eql 74 false a b H fun c=>brD c (ret (.bool true) H) (eu a fun c=>dt c 0 fun c=>ft ab 4 c H fun c=>brD c (eu b fun c=>dt c 0 fun c=>ft ab 4 c H fun c=>brD c (eu a fun c=>dt c 2 fun c=>ft ab 3 c H fun c=>eu b fun d=>dt d 2 fun d=>ft ab 3 d H fun d=>aB ab .gtr 3 false c d fun c=>brD c (eu a fun a=>dt a 4 fun a=>ah 1 b fun b=>Me a b H fun H=>ret (.bool true) H) (ae R 24 5 [.g a,.g b] [] H)) (ae R 24 5 [.g a,.g b] [] H)) (ae R 24 5 [.g a,.g b] [] H)):=by kernel_rfl
theorem Sc{R:bv}{v0 v1:Nat}{H:DH}:bG R 24 5 [.g (.ptr v0 0),.g (.ptr v1 0)] [] H =
 aF H v0 fun _ a=>aC a 0 fun a=>brD a (aF H v1 fun _ a=>aC a 0 fun a=>rl .not a fun a=>brD a (aF H v0 fun a b=>az b 4 [.ptr v1 0] fun b=>let H:=H.set v0 (.cells (a+1) b);ret (.bool true) H) (ae R 24 8 [.g (.ptr v0 0),.g (.ptr v1 0)] [] H)) (ae R 24 8 [.g (.ptr v0 0),.g (.ptr v1 0)] [] H):=by kernel_rfl
theorem GH{R:bv}{v0 v1:Nat}{H:DH}:bG R 24 8 [.g (.ptr v0 0),.g (.ptr v1 0)] [] H =
 aF H v1 fun _ a=>aC a 0 fun a=>brD a (aF H v1 fun a b=>az b 4 [.ptr v0 0] fun b=>let H:=H.set v1 (.cells (a+1) b);ret (.bool true) H) (aF H v0 fun _ a=>aC a 1 fun a=>aF H v1 fun _ b=>aC b 1 fun b=>aB ab .neq 9 false a b fun a=>brD a (ret (.bool false) H) (aF H v0 fun _ a=>aC a 3 fun a=>fq ab 71 a H fun a=>aF H v1 fun _ b=>aC b 3 fun b=>fq ab 71 b H fun b=>aB ab .neq 3 false a b fun a=>brD a (ret (.bool false) H) (aF H v1 fun a b=>az b 4 [.ptr v0 0] fun b=>let H:=H.set v1 (.cells (a+1) b);aF H v0 fun _ a=>aC a 3 fun a=>fq ab 71 a H fun a=>ae R 24 200015 [.g (.ptr v0 0),.g (.ptr v1 0),.g a,.n 0] [] H))):=by kernel_rfl
theorem wg{R:bv}{v0 v1:Nat}{a b:Int}{H:DH}:bG R 24 200015 [.g (.ptr v0 0),.g (.ptr v1 0),.n a,.n b] [] H =
 cond (decide (b<a)) (aF H v0 fun _ c=>aC c 3 fun c=>dF ab 71 c (.i b) fun c=>ft ab 74 c H fun c=>aF H v1 fun _ d=>aC d 3 fun d=>dF ab 71 d (.i b) fun d=>ft ab 74 d H fun d=>eK (R (.call 24 [c,d] none) H) (fun c H=>rl .not c fun c=>brD c (ret (.bool false) H) (ae R 24 200015 [.g (.ptr v0 0),.g (.ptr v1 0),.n a,.n (eg (b+1))] [] H)) fun _ _=>none) (ret (.bool true) H):=by kernel_rfl
theorem Tk{R:bv}{p0 a b:Nat}{H:DH}:bu R 56 [.ptr p0 0,.ptr a 0,.ptr b 0] H =
 C R 26 [.ptr p0 0] H fun c H=>aF H a fun _ d=>aC d 0 fun d=>fp ab 131 d c false H fun d=>aB ab .eql 3 true d (.i 1) fun e=>brD e (ret (.bool false) H) (aB ab .eql 3 true d (.i 2) fun d=>brD d (ret (.bool true) H) (aF H a fun _ d=>aC d 0 fun d=>gL ab 131 d c (.i 1) H fun H=>eu c fun d=>dt d 3 fun d=>ft ab 71 d H fun d=>fq ab 71 d H fun e=>ae R 56 200009 [.g c,.g (.ptr a 0),.g (.ptr b 0),.g d,.g e,.n 0] [] H)):=by kernel_rfl
theorem wb{R:bv}{v0 v1 v2:Nat}{a:D}{b c:Int}{H:DH}:bG R 56 200009 [.g (.ptr v0 0),.g (.ptr v1 0),.g (.ptr v2 0),.g a,.n b,.n c] [] H =
 cond (decide (c<b)) (dF ab 71 a (.i c) fun d=>ft ab 74 d H fun d=>aF H v2 fun _ e=>aC e 0 fun e=>EH lF e fun e f g=>C R e (f++([d]++g)) H fun d H=>rl .not d fun d=>brD d (ret (.bool false) H) (ae R 56 200009 [.g (.ptr v0 0),.g (.ptr v1 0),.g (.ptr v2 0),.g a,.n b,.n (eg (c+1))] [] H)) (aF H v1 fun _ a=>aC a 0 fun a=>gL ab 131 a (.ptr v0 0) (.i 2) H fun H=>ret (.bool true) H):=by kernel_rfl
theorem UL{R:bv}{p0:Nat}{H:DH}:bu R 26 [.ptr p0 0] H =
 ae R 26 200001 [.g (.ptr p0 0)] [] H:=by kernel_rfl
theorem pd{R:bv}{v0:Nat}{H:DH}:bG R 26 200001 [.g (.ptr v0 0)] [] H =
 aF H v0 fun _ a=>aC a 4 fun a=>aB ab .neq 74 true a .nilptr fun a=>brD a (aF H v0 fun _ a=>aC a 4 fun a=>eu a fun a=>dt a 4 fun a=>ft ab 74 a H fun a=>aB ab .neq 74 true a .nilptr fun a=>brD a (aF H v0 fun _ a=>aC a 4 fun a=>eu a fun a=>dt a 4 fun a=>ft ab 74 a H fun a=>ah 1 a fun a=>aF H v0 fun b c=>az c 4 a fun a=>let H:=H.set v0 (.cells (b+1) a);aF H v0 fun _ a=>aC a 4 fun a=>ae R 26 200001 [.g a] [] H) (aF H v0 fun _ a=>aC a 4 fun a=>ae R 26 200001 [.g a] [] H)) (ret (.ptr v0 0) H):=by kernel_rfl
end Go.Proofs.YtenibcfppefobaaGreatDoor
set_option linter.all false
noncomputable section
namespace Go.Proofs.YtenibcfppefobaaGreatDoor
open Go.AI
theorem Rg(o c:Nat)(κ:D->ag):aB ab .neq 74 true (.ptr o c) .nilptr κ=κ (.bool true):=by kernel_rfl
theorem Rh(κ:D->ag):aB ab .neq 74 true .nilptr .nilptr κ=κ (.bool false):=by kernel_rfl
theorem Rl(o c:Nat)(H:DH)(κ:D->ag):ft ab 74 (.ptr o c) H κ=aF H o fun _ cs=>aC cs c κ:=by kernel_rfl
theorem ER(o c k:Nat)(κ:D->ag):dt (.ptr o c) k κ=κ (.ptr o (c+k)):=rfl
theorem Ff(o c:Nat)(κ:D->ag):eu (.ptr o c) κ=κ (.ptr o c):=rfl
theorem Df(o c:Nat)(κ:List D->ag):ah 1 (.ptr o c) κ=κ [.ptr o c]:=rfl
abbrev fk(v:Bool)(n:af)(o:Int)(d k:D):List D:=[.bool v,.str n,.i o,d,k]
theorem JP(v:Bool)(n:af)(o:Int)(d k x:D)(κ:List D->ag):az (fk v n o d k) 4 [x] κ=κ (fk v n o d x):=rfl
def oN(os:List Nat)(i:Nat):Nat:=(os[i]?).getD 0
def QM(os:List Nat):Option (Option Nat)->D
 |some (some j)=>.ptr (oN os j) 0
 |_=>.nilptr
def bE(H:DH)(d:D)(l:List Nat):Prop:=(d=.nilrow/\l=[])\/∃ o st cp,d=.buf 1 o l.length/\H[o]? = some (.buf 1 st cp (l.map fun o=>[.ptr o 0]))
theorem JV{os:List Nat}{i:Nat}(h:i<os.length):os[i]? = some (oN os i):=by
 unfold oN;rw[List.getElem?_eq_getElem h];rfl
theorem rK{os:List Nat}(h:os.Nodup){i j:Nat}(hi:i<os.length)(hj:j<os.length)(e:oN os i=oN os j):i=j:=by
 have h1:=JV hi
 have h2:=JV hj
 rw[e]at h1
 exact(List.getElem?_inj hi h).1 (h1.trans h2.symm)
structure cr(H:DH)(os:List Nat)(N:List bw)(L:Lk):Prop where
 len:os.length=N.length
 lenL:L.length=N.length
 nd:os.Nodup
 ob:∀(i:Nat) (x:bw),N[i]? = some x->∃ s d,H[oN os i]? = some (.cells s (fk x.v x.n x.o d (QM os L[i]?)))/\bE H d (x.a.map (oN os))
 kid:∀(i:Nat) (x:bw),N[i]? = some x->∀ a∈x.a,a<N.length
 lk:∀ i j:Nat,L[i]? = some (some j)->j<N.length
 sm:∀(i:Nat) (x:bw),N[i]? = some x->x.a.length<=16
structure uo(H H':DH)(os:List Nat):Prop where
 len:H.length<=H'.length
 at':∀ o:Nat,o<H.length->o∉os->H'[o]? = H[o]?
theorem uo.refl(H:DH)(os:List Nat):uo H H os:=⟨Nat.le_refl _,fun _ _ _=>rfl⟩
theorem uo.trans{H H' H'':DH}{os:List Nat}(h:uo H H' os)(k:uo H' H'' os):uo H H'' os:=⟨Nat.le_trans h.len k.len,fun o h1 h2=>by rw[k.at' o (Nat.lt_of_lt_of_le h1 h.len) h2,h.at' o h1 h2]⟩
theorem Aa{os:List Nat}{i:Nat}(h:i<os.length):oN os i∈os:=List.mem_of_getElem? (JV h)
theorem bE.set{H:DH}{d:D}{l:List Nat}{o s s':Nat}{c c':List D}(h:bE H d l)(k:H[o]? = some (.cells s c)):bE (H.set o (.cells s' c')) d l:=by
 rcases h with⟨rfl,rfl⟩|⟨b,st,cp,rfl,h⟩
 ·exact .inl ⟨rfl,rfl⟩
 ·refine .inr ⟨b,st,cp,rfl,?_⟩
  rw[List.getElem?_set_ne (fun e=>by subst e;rw[h]at k;cases k),h]
theorem cr.link{H os N L}(g:cr H os N L){i j:Nat}{x:bw}{s:Nat}{d:D}(hx:N[i]? = some x)(hj:j<N.length)(ho:H[oN os i]? = some (.cells s (fk x.v x.n x.o d (QM os L[i]?))))(hd:bE H d (x.a.map (oN os)))(s':Nat) :
 cr (H.set (oN os i) (.cells s' (fk x.v x.n x.o d (.ptr (oN os j) 0)))) os N (L.set i (some j))/\uo H (H.set (oN os i) (.cells s' (fk x.v x.n x.o d (.ptr (oN os j) 0)))) os:=by
 have hi:=aE hx
 have hi2:i<os.length:=by rw[g.len];exact hi
 have hl:i<L.length:=by rw[g.lenL];exact hi
 refine⟨⟨g.len,by rw[List.length_set,g.lenL],g.nd,fun k y hy=>?_,g.kid,fun a b h=>?_,g.sm⟩,by simp,fun o _ hn=>List.getElem?_set_ne (fun e=>hn (by rw[<- e];exact Aa hi2))⟩
 ·by_cases e:i=k
  ·subst e
   rw[hx]at hy;cases hy
   refine⟨s',d,?_,hd.set ho⟩
   rw[bK _ ho,dQ hl,if_pos rfl]
   rfl
  ·obtain⟨s2,d2,h1,h2⟩:=g.ob k y hy
   refine⟨s2,d2,?_,h2.set ho⟩
   rw[List.getElem?_set_ne (fun q=>e (rK g.nd hi2 (by rw[g.len];exact aE hy) q)),h1,dQ hl,if_neg e]
 ·rw[dQ hl]at h
  split at h
  ·cases h;exact hj
  ·exact g.lk a b h
theorem JC:∀(n:Nat) {H:DH} {os N L} (g:cr H os N L) {i r:Nat} (h:Rt L i r n),∃ H' L',ae ai 26 200001 [.g (.ptr (oN os i) 0)] [] H=ret (.ptr (oN os r) 0) H'/\cr H' os N L'/\tI N L L'/\uo H H' os:=by
 intro n
 induction n using Nat.strongRecOn with
 |ind n ih =>
  intro H os N L g i r h
  cases h with
  |z h =>
   have hi:i<N.length:=by rw[<- g.lenL];exact aE h
   obtain⟨s,d,h1,h2⟩:=g.ob i _ (List.getElem?_eq_getElem hi)
   refine⟨H,L,eL (pd) ?_,g,.refl _ _,.refl _ _⟩
   rw[h]at h1
   simp only[ac h1,fk,ak,aw,QM,Rh,aj,cond_false]
  |s h k =>
   rename_i j m
   have hi:i<N.length:=by rw[<- g.lenL];exact aE h
   have hj:=g.lk i j h
   obtain⟨s,d,h1,h2⟩:=g.ob i _ (List.getElem?_eq_getElem hi)
   rw[h]at h1
   obtain⟨s2,d2,k1,k2⟩:=g.ob j _ (List.getElem?_eq_getElem hj)
   cases k with
   |z k =>
    rw[k]at k1
    obtain⟨H',L',e1,e2,e3,e4⟩:=ih 0 (by omega) g (.z k)
    refine⟨H',L',eL (pd) ?_,e2,e3,e4⟩
    simp only[ac h1,fk,ak,aw,QM,Rg,aj,cond_true,Ff,ER,Rl,Nat.zero_add,ac k1,Rh,cond_false]
    exact e1
   |s k k' =>
    rename_i j2 m
    rw[k]at k1
    obtain⟨g2,l2⟩:=g.link (List.getElem?_eq_getElem hi) (g.lk j j2 k) (by rw[h];exact h1) h2 (s+1)
    have q:=tI.halve (N:=N) h k k'
    obtain⟨m',hm,q2⟩:=q.rt _ _ _ k'
    obtain⟨H',L',e1,e2,e3,e4⟩:=ih m' (by omega) g2 q2
    refine⟨H',L',eL (pd) ?_,e2,q.trans e3,l2.trans e4⟩
    have h3:=bK (.cells (s+1) (fk N[i].v N[i].n N[i].o d (.ptr (oN os j2) 0))) h1
    simp only[ac h1,fk,ak,aw,QM,Rg,aj,cond_true,Ff,ER,Rl,Nat.zero_add,ac k1,Df]
    rw[show([.bool N[i].v,.str N[i].n,.i N[i].o,d,.ptr (oN os j) 0]:List D)=fk N[i].v N[i].n N[i].o d (.ptr (oN os j) 0)from rfl,JP]
    simp only[ac h3,fk,ak,aw]
    exact e1
theorem QV{H:DH}{os N L}(g:cr H os N L){i r n:Nat}(h:Rt L i r n):∃ H' L',aD 26 [.ptr (oN os i) 0] H=ret (.ptr (oN os r) 0) H'/\cr H' os N L'/\tI N L L'/\uo H H' os:=by
 obtain⟨H',L',e1,e2⟩:=JC n g h
 exact⟨H',L',ev (UL) e1,e2⟩
end Go.Proofs.YtenibcfppefobaaGreatDoor
set_option linter.all false
noncomputable section
namespace Go.Proofs.YtenibcfppefobaaGreatDoor
open Go.AI
theorem SZ(o c:Nat)(H:DH)(κ:D->ag):ft ab 4 (.ptr o c) H κ=aF H o fun _ cs=>aC cs c κ:=by kernel_rfl
theorem Ta(o c:Nat)(H:DH)(κ:D->ag):ft ab 3 (.ptr o c) H κ=aF H o fun _ cs=>aC cs c κ:=by kernel_rfl
theorem SM:OT ab 74=true:=by kernel_rfl
theorem TP{H:DH}{o1 o2:Nat}(h1:Ge H o1=true)(h2:Ge H o2=true)(κ:D->ag):wM ab .eql 74 false (.ptr o1 0) (.ptr o2 0) H κ=κ (.bool (Nat.beq o1 o2)):=by
 simp only[wM,Ee,SM,h1,h2,Bool.and_self,cond_true,Nat.beq_refl,Bool.and_true]
theorem fT{H:DH}{o s:Nat}{cs:List D}(h:H[o]? = some (.cells s cs)):Ge H o=true:=by simp only[Ge,h]
theorem QJ{o c:Nat}{new:List D}{H:DH}{s:Nat}{cs:List D}(h:H[o]? = some (.cells s cs))(κ:DH->ag):Me (.ptr o c) new H κ=az cs c new fun cs=>κ (H.set o (.cells (s+1) cs)):=by rw[Me,ac h]
theorem Ul:ab.underlying 71=some (.slice 74):=by kernel_rfl
theorem Sx:size ab 74=some 1:=by kernel_rfl
theorem Tb(o:Nat)(κ:D->ag):dq ab 74 [.ptr o 0] 0 κ=κ (.ptr o 0):=by kernel_rfl
theorem Sg{x:ag}{d:D}{H:DH}{k:D->DH->ag}{kp:List ff->DH->ag}(h:x=ret d H):eK x k kp=k d H:=by rw[h];rfl
theorem bE.len{H:DH}{d:D}{l:List Nat}(h:bE H d l)(κ:D->ag):fq ab 71 d H κ=κ (.i l.length):=by
 rcases h with⟨rfl,rfl⟩|⟨o,st,cp,rfl,_⟩<;>(simp only[fq,Ul];try rfl)
theorem bE.at'{H:DH}{d:D}{l:List Nat}(h:bE H d l){i o:Nat}(hi:l[i]? = some o)(κ:D->ag):(dF ab 71 d (.i i) fun a=>ft ab 74 a H κ)=κ (.ptr o 0):=by
 rcases h with⟨rfl,rfl⟩|⟨b,st,cp,rfl,hb⟩
 ·cases hi
 ·have hl:(List.map (fun o=>[D.ptr o 0]) l).length=l.length:=List.length_map _
  have h2:(List.map (fun o=>[D.ptr o 0]) l)[i]? = some [.ptr o 0]:=by rw[List.getElem?_map,hi];rfl
  have h3:=fc hb (κ:=fun _ _ _ l=>eO l i fun cs=>dq ab 74 cs 0 κ)
  rw[hl]at h3
  rw[dF,Ul]
  simp only[Sx,HL,Nat.beq_refl,cond_true,bC,show Nat.blt i l.length=true from Nat.ble_eq_true_of_le (aE hi),boK,ft,h3,bm h2,Tb]
theorem Bf{a b:Nat}(h:a≠b):Nat.beq a b=false:=by cases q:Nat.beq a b with
 |false=>rfl
 |true=>exact(h (Nat.eq_of_beq_eq_true q)).elim
variable{H:DH}{os:List Nat}{N:List bw}{L:Lk}
def UA(k:Nat):Prop:=∀(H:DH) (os:List Nat) (N:List bw) (L:Lk),cr H os N L->Wf L->Bv L<k->∀(a b:Nat),a<N.length->b<N.length ->
 ∃ q H' L',aD 24 [.ptr (oN os a) 0,.ptr (oN os b) 0] H=ret (.bool q) H'/\cr H' os N L'/\US N L [(a,b)] q L'/\uo H H' os
theorem FK{k:Nat}(hk:UA k){ra rb:Nat}{x y:bw}:∀(l1 l2 p1 p2:List Nat) {H:DH} {os:List Nat} {N:List bw} {L:Lk},cr H os N L->Wf L->Bv L<k->N[ra]? = some x->N[rb]? = some y->x.a=p1++l1->y.a=p2++l2->p1.length=p2.length->l1.length=l2.length ->
 ∃ q H' L',ae ai 24 200015 [.g (.ptr (oN os ra) 0),.g (.ptr (oN os rb) 0),.n (x.a.length:Nat),.n (p1.length:Nat)] [] H=ret (.bool q) H'/\cr H' os N L'/\US N L (l1.zip l2) q L'/\uo H H' os
 |[],[],p1,p2,H,os,N,L,g,hw,hn,hx,hy,e1,e2,e3,_=>by
  refine⟨true,H,L,eL (wg) ?_,g,.nil hw,.refl _ _⟩
  rw[e1]
  simp
 |[],b::l2,_,_,_,_,_,_,_,_,_,_,_,_,_,_,h=>by simp at h
 |a::l1,[],_,_,_,_,_,_,_,_,_,_,_,_,_,_,h=>by simp at h
 |a::l1,b::l2,p1,p2,H,os,N,L,g,hw,hn,hx,hy,e1,e2,e3,e4=>by
  obtain⟨s1,d1,h1,h2⟩:=g.ob ra x hx
  obtain⟨s2,d2,k1,k2⟩:=g.ob rb y hy
  have ia:(x.a.map (oN os))[p1.length]? = some (oN os a):=by rw[List.getElem?_map,e1];simp
  have ib:(y.a.map (oN os))[p1.length]? = some (oN os b):=by rw[List.getElem?_map,e2,e3];simp
  have la:a<N.length:=g.kid ra x hx a (by rw[e1];simp)
  have lb:b<N.length:=g.kid rb y hy b (by rw[e2];simp)
  have hlt:decide ((p1.length:Int)<(x.a.length:Int))=true:=by rw[e1];simp;omega
  have hs:=g.sm ra x hx
  have hw2:eg ((p1.length:Int)+1)=(((p1++[a]).length:Nat):Int):=by
   rw[bT (by
    have:x.a.length=p1.length+(l1.length+1):=by rw[e1];simp
    omega)]
   simp
  obtain⟨q,H1,L1,r1,r2,r3,r4⟩:=hk _ _ _ _ g hw hn _ _ la lb
  have st:∀ z,(match q with|true=>ae ai 24 200015 [.g (.ptr (oN os ra) 0),.g (.ptr (oN os rb) 0),.n (x.a.length:Nat),.n ((p1++[a]).length:Nat)] [] H1|false=>ret (.bool false) H1)=z->ae ai 24 200015 [.g (.ptr (oN os ra) 0),.g (.ptr (oN os rb) 0),.n (x.a.length:Nat),.n (p1.length:Nat)] [] H=z:=fun z hz=>by
   refine eL (wg) ?_
   rw[hlt,cond_true,ac h1]
   simp only[fk,ak,aw]
   rw[h2.at' ia,ac k1]
   simp only[fk,ak,aw]
   rw[k2.at' ib,Sg r1]
   simp only[ct,aj]
   rw[hw2]
   rw[<- hz]
   cases q<;>simp only[Bool.not_true,Bool.not_false,cond_true,cond_false]
  cases q with
  |false=>exact⟨false,H1,L1,st _ rfl,r2,.stop r3,r4⟩
  |true =>
   obtain⟨q',H2,L2,t1,t2,t3,t4⟩:=FK hk l1 l2 (p1++[a]) (p2++[b]) r2 r3.wf (Nat.lt_of_le_of_lt r3.rc hn) hx hy (by rw[e1];simp) (by rw[e2];simp) (by simp[e3]) (by simpa using e4)
   exact⟨q',H2,L2,st _ t1,t2,.cons r3 t3,r4.trans t4⟩
theorem Sv{k:Nat}(hk:UA k){H:DH}{os:List Nat}{N:List bw}{L:Lk}(g:cr H os N L)(hw:Wf L)(hn:Bv L<=k){a b:Nat}(ha:L[a]? = some none)(hb:L[b]? = some none)(hab:a≠b){x y:bw}(hx:N[a]? = some x)(hy:N[b]? = some y)(hv:y.v=false->x.v=false) :
 ∃ q H' L',ae ai 24 8 [.g (.ptr (oN os a) 0),.g (.ptr (oN os b) 0)] [] H=ret (.bool q) H'/\cr H' os N L'/\US N L [(a,b)] q L'/\uo H H' os:=by
 obtain⟨s1,d1,h1,h2⟩:=g.ob a x hx
 obtain⟨s2,d2,k1,k2⟩:=g.ob b y hy
 obtain⟨g2,l2⟩:=g.link hy (aE hx) k1 k2 (s2+1)
 have hne:oN os b≠oN os a:=fun e=>hab (rK g.nd (by rw[g.len];exact aE hy) (by rw[g.len];exact aE hx) e).symm
 cases vy:y.v with
 |true =>
  refine⟨true,_,_,eL (GH) ?_,g2,.symm (.var hw (.z hb) (.z ha) (fun e=>hab e.symm) hy vy),l2⟩
  rw[ac k1]
  simp only[fk,ak,vy,aj,cond_true]
  rw[ac k1,JP]
  simp only[fk,vy]
 |false =>
  have vx:=hv vy
  have hs1:(x.a.map (oN os)).length=x.a.length:=List.length_map _
  have hs2:(y.a.map (oN os)).length=y.a.length:=List.length_map _
  by_cases hnm:x.n=y.n
  ·by_cases hl:x.a.length=y.a.length
   ·have hw':=hw.link hb ha hab
    obtain⟨q,H',L',r1,r2,r3,r4⟩:=FK hk x.a y.a [] [] g2 hw' (by have:=Eb (a:=a) hb;omega) hx hy rfl rfl rfl hl
    refine⟨q,H',L',eL (GH) ?_,r2,.con hw (.z ha) (.z hb) hab hx hy vx vy hnm hl r3,l2.trans r4⟩
    have h3:(H.set (oN os b) (.cells (s2+1) (fk y.v y.n y.o d2 (.ptr (oN os a) 0))))[oN os a]? = some (.cells s1 (fk x.v x.n x.o d1 (QM os L[a]?))):=by
     rw[List.getElem?_set_ne hne,h1]
    have h4:bE (H.set (oN os b) (.cells (s2+1) (fk y.v y.n y.o d2 (.ptr (oN os a) 0)))) d1 (x.a.map (oN os)):=h2.set k1
    rw[ac k1]
    simp only[fk,ak,vy,aj,cond_false]
    rw[ac h1]
    simp only[fk,ak,aw]
    rw[ac k1]
    simp only[fk,ak,aw]
    rw[qQ]
    have e0:(x.n==y.n)=true:=by rw[hnm];exact beq_self_eq_true _
    simp only[e0,Bool.not_true,aj,cond_false]
    rw[ac h1]
    simp only[fk,ak,aw]
    rw[h2.len,ac k1]
    simp only[fk,ak,aw]
    rw[k2.len,jK,hs1,hs2,hl]
    simp only[bne_self_eq_false,aj,cond_false]
    rw[ac k1,JP]
    rw[ac h3]
    simp only[fk,ak,aw]
    rw[h4.len,hs1]
    exact r1
   ·refine⟨false,H,L,eL (GH) ?_,g,.clash hw (.z ha) (.z hb) hx hy vx vy (.inr hl),.refl _ _⟩
    rw[ac k1]
    simp only[fk,ak,vy,aj,cond_false]
    rw[ac h1]
    simp only[fk,ak,aw]
    rw[ac k1]
    simp only[fk,ak,aw]
    rw[qQ]
    have e0:(x.n==y.n)=true:=by rw[hnm];exact beq_self_eq_true _
    simp only[e0,Bool.not_true,aj,cond_false]
    rw[ac h1]
    simp only[fk,ak,aw]
    rw[h2.len,ac k1]
    simp only[fk,ak,aw]
    rw[k2.len,jK,hs1,hs2]
    have e1:(((x.a.length:Nat):Int) !=((y.a.length:Nat):Int))=true:=by simp;omega
    simp only[e1,aj,cond_true]
  ·refine⟨false,H,L,eL (GH) ?_,g,.clash hw (.z ha) (.z hb) hx hy vx vy (.inl hnm),.refl _ _⟩
   rw[ac k1]
   simp only[fk,ak,vy,aj,cond_false]
   rw[ac h1]
   simp only[fk,ak,aw]
   rw[ac k1]
   simp only[fk,ak,aw]
   rw[qQ]
   have e0:(x.n==y.n)=false:=by simpa using hnm
   simp only[e0,Bool.not_false,aj,cond_true]
theorem US.res{N:List bw}{L L1 L':Lk}{a b ra rb n m:Nat}{q:Bool}(ha:Rt L a ra n)(hb:Rt L b rb m)(h:US N L [(ra,rb)] q L'):US N L [(a,b)] q L':=by
 have e:∀(α:Type) (f:Nat->α),eA L f->((∀ p∈[(a,b)],f p.1=f p.2)↔(∀ p∈[(ra,rb)],f p.1=f p.2)):=fun α f hf=>by
  simp only[List.mem_singleton,forall_eq]
  rw[hf.rt ha,hf.rt hb]
 refine⟨h.len,h.wf,h.rc,fun α f h1 h2 h3=>h.snd α f h1 h2 ((e α f h2).1 h3),fun hq=>⟨fun α f hf=>?_,fun P hP=>(h.cpl hq).2 P fun i j x hi hx hv=>?_⟩⟩
 ·obtain⟨s1,s2⟩:=(h.cpl hq).1 α f hf
  exact⟨s1,(e α f s1).2 s2⟩
 ·obtain⟨y,a1,a2,a3,a4,a5⟩:=hP i j x hi hx hv
  refine⟨y,a1,a2,a3,a4,fun α f hf hp=>a5 α f hf fun p hp'=>?_⟩
  rcases List.mem_append.1 hp' with hp'|hp'
  ·exact(e α f hf).2 (fun p hp2=>hp p (List.mem_append_left _ hp2)) p hp'
  ·exact hp p (List.mem_append_right _ hp')
theorem BA:∀ k,UA k
 |0=>fun _ _ _ _ _ _ h=>by omega
 |k+1=>by
  intro H os N L g hw hn a b ha hb
  obtain⟨ra,n,hra⟩:=hw a (by rw[g.lenL];exact ha)
  obtain⟨rb,m,hrb⟩:=hw b (by rw[g.lenL];exact hb)
  obtain⟨H1,L1,r1,g1,q1,l1⟩:=QV g hra
  obtain⟨m1,_,hrb1⟩:=q1.rt _ _ _ hrb
  obtain⟨H2,L2,r2,g2,q2,l2⟩:=QV g1 hrb1
  have q:=q1.trans q2
  have l:=l1.trans l2
  obtain⟨n2,_,a2⟩:=q.rt _ _ _ hra
  obtain⟨m2,_,b2⟩:=q.rt _ _ _ hrb
  have hw2:=hw.eqv q
  have ka:=aE a2.root
  have kb:=aE b2.root
  rw[g2.lenL]at ka kb
  have hx:=List.getElem?_eq_getElem ka
  have hy:=List.getElem?_eq_getElem kb
  generalize N[ra]=x at hx
  generalize N[rb]=y at hy
  obtain⟨s1,d1,h1,h2⟩:=g2.ob ra x hx
  obtain⟨s2,d2,k1,k2⟩:=g2.ob rb y hy
  have hnr:Bv L2<=k:=by rw[q.rc];omega
  by_cases e:ra=rb
  ·subst e
   refine⟨true,H2,L2,ev (Ur) ?_,g2,.pre q (.same hw2 a2 b2),l⟩
   rw[aq r1,aq r2,TP (fT h1) (fT h1),Nat.beq_refl]
   rfl
  ·have hne:Nat.beq (oN os ra) (oN os rb)=false:=Bf fun e'=>e (rK g2.nd (by rw[g2.len];exact ka) (by rw[g2.len];exact kb) e')
   have st:∀ z,(cond x.v (cond y.v (cond (decide (x.o>y.o)) (ret (.bool true) (H2.set (oN os ra) (.cells (s1+1) (fk x.v x.n x.o d1 (.ptr (oN os rb) 0))))) (ae ai 24 5 [.g (.ptr (oN os ra) 0),.g (.ptr (oN os rb) 0)] [] H2)) (ae ai 24 5 [.g (.ptr (oN os ra) 0),.g (.ptr (oN os rb) 0)] [] H2)) (ae ai 24 5 [.g (.ptr (oN os ra) 0),.g (.ptr (oN os rb) 0)] [] H2))=z->aD 24 [.ptr (oN os a) 0,.ptr (oN os b) 0] H=z:=fun z hz=>by
    refine ev (Ur) ?_
    rw[aq r1,aq r2,TP (fT h1) (fT k1),hne]
    simp only[aj,cond_false,Ff,ER,SZ,Ta,Nat.zero_add]
    rw[ac h1]
    simp only[fk,ak,aw,aj]
    rw[ac k1]
    simp only[fk,ak,aw,aj]
    rw[ac h1]
    simp only[fk,ak,aw,ac k1,gh,aj,Df,QJ h1,JP]
    exact hz
   have st5:∀ z,(cond x.v (cond (!y.v) (ret (.bool true) (H2.set (oN os ra) (.cells (s1+1) (fk x.v x.n x.o d1 (.ptr (oN os rb) 0))))) (ae ai 24 8 [.g (.ptr (oN os ra) 0),.g (.ptr (oN os rb) 0)] [] H2)) (ae ai 24 8 [.g (.ptr (oN os ra) 0),.g (.ptr (oN os rb) 0)] [] H2))=z->ae ai 24 5 [.g (.ptr (oN os ra) 0),.g (.ptr (oN os rb) 0)] [] H2=z:=fun z hz=>by
    refine eL (Sc) ?_
    rw[ac h1]
    simp only[fk,ak,aw,aj]
    rw[ac k1]
    simp only[fk,ak,aw,aj,ct]
    rw[ac h1,JP]
    exact hz
   obtain⟨g3,l3⟩:=g2.link hx kb h1 h2 (s1+1)
   have fin8:(y.v=false->x.v=false)->(aD 24 [.ptr (oN os a) 0,.ptr (oN os b) 0] H=ae ai 24 8 [.g (.ptr (oN os ra) 0),.g (.ptr (oN os rb) 0)] [] H2)->∃ q H' L',aD 24 [.ptr (oN os a) 0,.ptr (oN os b) 0] H=ret (.bool q) H'/\cr H' os N L'/\US N L [(a,b)] q L'/\uo H H' os:=fun hv he=>by
    obtain⟨q',H',L',t1,t2,t3,t4⟩:=Sv (BA k) g2 hw2 hnr a2.root b2.root e hx hy hv
    exact⟨q',H',L',he.trans t1,t2,.pre q (.res (L1:=L) a2 b2 t3),l.trans t4⟩
   have fin5:x.v=true->(aD 24 [.ptr (oN os a) 0,.ptr (oN os b) 0] H=ret (.bool true) (H2.set (oN os ra) (.cells (s1+1) (fk x.v x.n x.o d1 (.ptr (oN os rb) 0)))))->∃ q H' L',aD 24 [.ptr (oN os a) 0,.ptr (oN os b) 0] H=ret (.bool q) H'/\cr H' os N L'/\US N L [(a,b)] q L'/\uo H H' os:=fun hv he =>
    ⟨true,_,_,he,g3,.pre q (.res (L1:=L) a2 b2 (.var hw2 (.z a2.root) (.z b2.root) e hx hv)),l.trans l3⟩
   cases vx:x.v with
   |false =>
    refine fin8 (fun _=>vx) (st _ ?_)
    rw[vx,cond_false]
    exact st5 _ (by rw[vx,cond_false])
   |true =>
    cases vy:y.v with
    |false =>
     refine fin5 vx (st _ ?_)
     rw[vx,vy]
     simp only[cond_true,cond_false]
     exact st5 _ (by rw[vx,vy];simp only[Bool.not_false,cond_true])
    |true =>
     cases ho:decide (x.o>y.o)with
     |true =>
      refine fin5 vx (st _ ?_)
      rw[vx,vy,ho]
      simp only[cond_true]
     |false =>
      refine fin8 (fun q=>by rw[vy]at q;cases q) (st _ ?_)
      rw[vx,vy,ho]
      simp only[cond_true,cond_false]
      exact st5 _ (by rw[vx,vy];simp only[Bool.not_true,cond_true,cond_false])
theorem QQ{H:DH}{os:List Nat}{N:List bw}{L:Lk}(g:cr H os N L)(hw:Wf L){a b:Nat}(ha:a<N.length)(hb:b<N.length) :
 ∃ q H' L',aD 24 [.ptr (oN os a) 0,.ptr (oN os b) 0] H=ret (.bool q) H'/\cr H' os N L'/\US N L [(a,b)] q L'/\uo H H' os:=BA _ _ _ _ _ g hw (Nat.lt_succ_self _) _ _ ha hb
end Go.Proofs.YtenibcfppefobaaGreatDoor
set_option linter.all false
noncomputable section
namespace Go.Proofs.YtenibcfppefobaaGreatDoor
open Go.AI
def gO:List (Nat×Int)->Nat->Option Int
 |[],_=>none
 |(j,v)::r,i=>if i=j then some v else gO r i
def gS(S:List (Nat×Int))(i:Nat):Int:=(gO S i).getD 0
def pS:List (Nat×Int)->Nat->Int->List (Nat×Int)
 |[],i,v=>[(i,v)]
 |(j,w)::r,i,v=>if i=j then(i,v)::r else(j,w)::pS r i v
theorem Oi:∀(S:List (Nat×Int)) (i j:Nat) (v:Int),gO (pS S i v) j=if j=i then some v else gO S j
 |[],i,j,v=>by simp[pS,gO]
 |(k,w)::r,i,j,v=>by
  unfold pS
  split
  ·rename_i e;subst e
   unfold gO
   split<;>simp_all
  ·rename_i e
   unfold gO
   rw[Oi r i j v]
   by_cases h:j=k
   ·subst h;rw[if_pos rfl,if_pos rfl,if_neg (fun q=>e q.symm)]
   ·rw[if_neg h,if_neg h]
theorem Oh(S:List (Nat×Int))(i j:Nat)(v:Int):gS (pS S i v) j=if j=i then v else gS S j:=by
 unfold gS;rw[Oi];split<;>rfl
theorem NZ{n:Nat}:∀ {S:List (Nat×Int)} {i:Nat} {v:Int},(∀ p∈S,p.1<n)->i<n->∀ p∈pS S i v,p.1<n
 |[],i,v,_,hi,p,hp=>by simp[pS]at hp;subst hp;exact hi
 |(j,w)::r,i,v,h,hi,p,hp=>by
  unfold pS at hp
  split at hp
  ·rcases List.mem_cons.1 hp with rfl|hp
   ·exact hi
   ·exact h p (List.mem_cons_of_mem _ hp)
  ·rcases List.mem_cons.1 hp with rfl|hp
   ·exact h _ List.mem_cons_self
   ·exact NZ (fun p hp=>h p (List.mem_cons_of_mem _ hp)) hi p hp
def cz(S:List (Nat×Int)):Nat->Nat
 |0=>0
 |n+1=>cz S n+if gS S n=0 then 1 else 0
theorem KZ{S S':List (Nat×Int)}:∀ {n:Nat},(∀ j,j<n->gS S' j=0->gS S j=0)->cz S' n<=cz S n
 |0,_=>Nat.le_refl _
 |n+1,h=>by
  have:=KZ (n:=n) fun j hj=>h j (by omega)
  have:=h n (by omega)
  unfold cz
  split<;>split<;>first|omega|(exfalso;simp_all)
theorem On{S S':List (Nat×Int)}{r:Nat}:∀ {n:Nat},(∀ j,j<n->gS S' j=0->gS S j=0)->r<n->gS S r=0->gS S' r≠0->cz S' n<cz S n
 |0,_,h,_,_=>by omega
 |n+1,h,hr,h1,h2=>by
  unfold cz
  by_cases e:r=n
  ·subst e
   have:=KZ (n:=r) fun j hj=>h j (by omega)
   rw[if_pos h1,if_neg h2];omega
  ·have:=On (n:=n) (fun j hj=>h j (by omega)) (by omega) h1 h2
   have:=h n (by omega)
   split<;>split<;>first|omega|(exfalso;simp_all)
def sM(os:List Nat)(S:List (Nat×Int)):List (D×D):=S.map fun p=>(.ptr (oN os p.1) 0,.i p.2)
theorem Gw{os:List Nat}(hn:os.Nodup){i:Nat}(hi:i<os.length):∀ {S:List (Nat×Int)},(∀ p∈S,p.1<os.length)->tz (.ptr (oN os i) 0) (sM os S)=some ((gO S i).map .i)
 |[],_=>rfl
 |(j,v)::r,h=>by
  have ih:=Gw hn hi (S:=r) fun p hp=>h p (List.mem_cons_of_mem _ hp)
  have hj:=h _ List.mem_cons_self
  simp only[sM,List.map_cons,tz,ki,Nat.beq_refl,Bool.and_true]
  by_cases e:i=j
  ·subst e;simp only[Nat.beq_refl,gO,if_true,Option.map]
  ·have:Nat.beq (oN os i) (oN os j)=false:=Bf fun q=>e (rK hn hi hj q)
   simp only[this,gO,if_neg e]
   exact ih
theorem Gs{os:List Nat}(hn:os.Nodup){i:Nat}(hi:i<os.length)(v:Int):∀ {S:List (Nat×Int)},(∀ p∈S,p.1<os.length)->vh (.ptr (oN os i) 0) (.i v) (sM os S)=some (sM os (pS S i v))
 |[],_=>rfl
 |(j,w)::r,h=>by
  have ih:=Gs hn hi v (S:=r) fun p hp=>h p (List.mem_cons_of_mem _ hp)
  have hj:=h _ List.mem_cons_self
  simp only[sM,List.map_cons,vh,ki,Nat.beq_refl,Bool.and_true]
  by_cases e:i=j
  ·subst e;simp only[Nat.beq_refl,pS,if_true,List.map_cons]
  ·have:Nat.beq (oN os i) (oN os j)=false:=Bf fun q=>e (rK hn hi hj q)
   simp only[sM]at ih
   simp only[this,pS,if_neg e,ih,List.map_cons]
theorem At{H:DH}{os:List Nat}{N:List bw}{L:Lk}(g:cr H os N L):∀ {S:List (Nat×Int)},(∀ p∈S,p.1<os.length)->iP H (sM os S)=true
 |[],_=>rfl
 |(j,v)::r,h=>by
  have hj:j<N.length:=by rw[<- g.len];exact h _ List.mem_cons_self
  obtain⟨s,d,h1,_⟩:=g.ob j _ (List.getElem?_eq_getElem hj)
  simp only[sM,List.map_cons,iP,fT h1,Bool.true_and]
  exact At g fun p hp=>h p (List.mem_cons_of_mem _ hp)
structure Vi(H:DH)(m v1 v2:Nat)(os:List Nat)(N:List bw)(L:Lk)(S:List (Nat×Int)):Prop where
 g:cr H os N L
 mp:H[m]? = some (.map (sM os S))
 a:∃ s,H[v1]? = some (.cells s [.map m])
 b:∃ s,H[v2]? = some (.cells s [.func 56 [] [.ptr v1 0,.ptr v2 0]])
 na:v1∉os
 nb:v2∉os
 lt:∀ p∈S,p.1<os.length
structure Em(H H':DH)(os:List Nat)(m:Nat):Prop where
 len:H.length<=H'.length
 at':∀ o:Nat,o<H.length->o∉os->o≠m->H'[o]? = H[o]?
theorem Em.refl(H:DH)(os:List Nat)(m:Nat):Em H H os m:=⟨Nat.le_refl _,fun _ _ _ _=>rfl⟩
theorem Em.trans{H H' H'':DH}{os:List Nat}{m:Nat}(h:Em H H' os m)(k:Em H' H'' os m):Em H H'' os m:=⟨Nat.le_trans h.len k.len,fun o h1 h2 h3=>by rw[k.at' o (Nat.lt_of_lt_of_le h1 h.len) h2 h3,h.at' o h1 h2 h3]⟩
theorem uo.em{H H':DH}{os:List Nat}{m:Nat}(h:uo H H' os):Em H H' os m:=⟨h.len,fun o h1 h2 _=>h.at' o h1 h2⟩
theorem cr.nm{H:DH}{os:List Nat}{N:List bw}{L:Lk}(g:cr H os N L){o:Nat}(h:o∈os):∃ s c,H[o]? = some (.cells s c):=by
 obtain⟨i,hi⟩:=List.getElem?_of_mem h
 have hl:i<N.length:=by rw[<- g.len];exact aE hi
 obtain⟨s,d,h1,_⟩:=g.ob i _ (List.getElem?_eq_getElem hl)
 have e:o=oN os i:=by unfold oN;rw[hi];rfl
 rw[e]
 exact⟨s,_,h1⟩
theorem bE.em{H H':DH}{os:List Nat}{N:List bw}{L:Lk}{m:Nat}{es:List (D×D)}(g:cr H os N L)(hm:H[m]? = some (.map es))(k:Em H H' os m){d:D}{l:List Nat}(h:bE H d l):bE H' d l:=by
 rcases h with⟨rfl,rfl⟩|⟨b,st,cp,rfl,h⟩
 ·exact .inl ⟨rfl,rfl⟩
 ·refine .inr ⟨b,st,cp,rfl,?_⟩
  rw[k.at' b (aE h) (fun q=>by obtain⟨s,c,e⟩:=g.nm q;rw[e]at h;cases h) (fun q=>by subst q;rw[hm]at h;cases h),h]
variable{H H':DH}{m v1 v2:Nat}{os:List Nat}{N:List bw}{L L':Lk}{S:List (Nat×Int)}
theorem Tj(κ:D->ag):eH ab 3 false none κ=κ (.i 0):=by kernel_rfl
theorem Vi.lkm(h:Vi H m v1 v2 os N L S){i:Nat}(hi:i<N.length)(κ:D->ag):fp ab 131 (.map m) (.ptr (oN os i) 0) false H κ=κ (.i (gS S i)):=by
 obtain⟨s,d,h1,_⟩:=h.g.ob i _ (List.getElem?_eq_getElem hi)
 have e:fp ab 131 (.map m) (.ptr (oN os i) 0) false H κ=lm H m fun es=>(bif Ge H (oN os i)&&iP H es then jv (.ptr (oN os i) 0) es fun r=>eH ab 3 false r κ else none):=by kernel_rfl
 rw[e,fJ h.mp,fT h1,At h.g h.lt,jv,Gw h.g.nd (by rw[h.g.len];exact hi) h.lt]
 unfold gS
 cases gO S i with
 |none=>simp only[Option.map,Option.getD,Tj,Bool.and_self,cond_true]
 |some v=>rfl
theorem Vi.upd(h:Vi H m v1 v2 os N L S){i:Nat}(hi:i<N.length)(v:Int):∃ H',(∀ κ:DH->ag,gL ab 131 (.map m) (.ptr (oN os i) 0) (.i v) H κ=κ H')/\Vi H' m v1 v2 os N L (pS S i v)/\Em H H' os m:=by
 obtain⟨s,d,h1,_⟩:=h.g.ob i _ (List.getElem?_eq_getElem hi)
 have hi':i<os.length:=by rw[h.g.len];exact hi
 have em:Em H (H.set m (.map (sM os (pS S i v)))) os m:=⟨by simp,fun o _ _ hn=>List.getElem?_set_ne (fun q=>hn q.symm)⟩
 refine⟨H.set m (.map (sM os (pS S i v))),fun κ=>?_,⟨⟨h.g.len,h.g.lenL,h.g.nd,fun k y hy=>?_,h.g.kid,h.g.lk,h.g.sm⟩,bK _ h.mp,?_,?_,h.na,h.nb,NZ h.lt hi'⟩,em⟩
 ·have e:gL ab 131 (.map m) (.ptr (oN os i) 0) (.i v) H κ=lm H m fun es=>(bif Ge H (oN os i)&&iP H es then ju (.ptr (oN os i) 0) (.i v) es fun es=>κ (H.set m (.map es))else none):=by kernel_rfl
  rw[e,fJ h.mp,fT h1,At h.g h.lt,ju,Gs h.g.nd hi' v h.lt]
  rfl
 ·obtain⟨s2,d2,k1,k2⟩:=h.g.ob k y hy
  refine⟨s2,d2,?_,k2.em h.g h.mp em⟩
  rw[List.getElem?_set_ne (fun q=>by rw[<- q,h.mp]at k1;cases k1),k1]
 ·obtain⟨s,k⟩:=h.a
  exact⟨s,by rw[List.getElem?_set_ne (fun q=>by rw[<- q,h.mp]at k;cases k),k]⟩
 ·obtain⟨s,k⟩:=h.b
  exact⟨s,by rw[List.getElem?_set_ne (fun q=>by rw[<- q,h.mp]at k;cases k),k]⟩
theorem Vi.els(h:Vi H m v1 v2 os N L S)(g:cr H' os N L')(e:uo H H' os):Vi H' m v1 v2 os N L' S:=by
 have hm:m∉os:=fun q=>by obtain⟨s,c,e⟩:=h.g.nm q;have:=h.mp;rw[e]at this;cases this
 obtain⟨s1,k1⟩:=h.a
 obtain⟨s2,k2⟩:=h.b
 exact⟨g,by rw[e.at' m (aE h.mp) hm,h.mp],⟨s1,by rw[e.at' _ (aE k1) h.na,k1]⟩,⟨s2,by rw[e.at' _ (aE k2) h.nb,k2]⟩,h.na,h.nb,h.lt⟩
def dn:Ty->Nat
 |.mk _ xs=>1+tszs xs
 where tszs:List Ty->Nat
  |[]=>0
  |t::r=>dn t+tszs r
theorem BC{t:Ty}:∀ {l:List Ty},t∈l->dn t<=dn.tszs l
 |x::r,h=>by
  unfold dn.tszs
  rcases List.mem_cons.1 h with rfl|h
  ·omega
  ·have:=BC h;omega
structure Hg(N:List bw)(L:Lk)(S S':List (Nat×Int)):Prop where
 old:∀ j,gS S j≠0->gS S' j=gS S j
 new:∀ j,gS S j=0->gS S' j≠0->gS S' j=2/\∃ t,Tr N L j t
theorem Hg.refl{N:List bw}{L:Lk}(S:List (Nat×Int)):Hg N L S S:=⟨fun _ _=>rfl,fun _ h k=>(k h).elim⟩
theorem Hg.trans{N:List bw}{L:Lk}{S S' S'':List (Nat×Int)}(h:Hg N L S S')(k:Hg N L S' S''):Hg N L S S'' :=
 ⟨fun j hj=>by rw[k.old j (by rw[h.old j hj];exact hj),h.old j hj],fun j hj hk=>by
  by_cases e:gS S' j=0
  ·exact k.new j e hk
  ·rw[k.old j e];exact h.new j hj e⟩
theorem Hg.eqv{N:List bw}{L L':Lk}{S S':List (Nat×Int)}(h:Hg N L S S')(k:tI N L L'):Hg N L' S S':=⟨h.old,fun j h1 h2=>⟨(h.new j h1 h2).1,by obtain⟨t,ht⟩:=(h.new j h1 h2).2;exact⟨t,ht.eqv k⟩⟩⟩
theorem Hg.zero{N:List bw}{L:Lk}{S S':List (Nat×Int)}(h:Hg N L S S')(j:Nat)(k:gS S' j=0):gS S j=0:=by
 by_cases e:gS S j=0
 ·exact e
 ·rw[h.old j e]at k;exact(e k).elim
def Dn(N:List bw)(L:Lk)(S:List (Nat×Int)):Prop:=∀ j,gS S j≠0->gS S j≠1->gS S j=2/\∃ t,Tr N L j t
theorem Dn.eqv{N:List bw}{L L':Lk}{S:List (Nat×Int)}(h:Dn N L S)(k:tI N L L'):Dn N L' S:=fun j h1 h2=>⟨(h j h1 h2).1,by obtain⟨t,ht⟩:=(h j h1 h2).2;exact⟨t,ht.eqv k⟩⟩
theorem Dn.vs{N:List bw}{L:Lk}{S S':List (Nat×Int)}(h:Dn N L S)(k:Hg N L S S'):Dn N L S':=fun j h1 h2=>by
 by_cases e:gS S j=0
 ·exact k.new j e h1
 ·rw[k.old j e]at h1 h2 ⊢;exact h j h1 h2
def Uf(f:Nat->Ty)(S:List (Nat×Int))(i:Nat):Prop:=∀ j,gS S j=1->dn (f i)<dn (f j)
def VA(m v1 v2 k:Nat):Prop:=∀(H:DH) (os:List Nat) (N:List bw) (L:Lk) (S:List (Nat×Int)),Vi H m v1 v2 os N L S->Wf L->Dn N L S->(∀(i:Nat) (x:bw),N[i]? = some x->x.v=true->x.a=[])->cz S N.length<k->∀ i,i<N.length ->
 ∃ q H' L' S',aD 56 [.ptr (oN os i) 0,.ptr v1 0,.ptr v2 0] H=ret (.bool q) H'/\cr H' os N L'/\tI N L L'/\Em H H' os m/\(∀ f:Nat->Ty,Ox N f->eA L f->Uf f S i->q=true) /\
  (q=true->Vi H' m v1 v2 os N L' S'/\Hg N L' S S'/\∃ t,Tr N L' i t)
theorem FH{m v1 v2 k:Nat}(hk:VA m v1 v2 k){r:Nat}{x:bw}{d:D}:∀(l p:List Nat) (H:DH) (os:List Nat) (N:List bw) (L:Lk) (S:List (Nat×Int)),Vi H m v1 v2 os N L S->Wf L->Dn N L S->(∀(i:Nat) (x:bw),N[i]? = some x->x.v=true->x.a=[])->cz S N.length<k->N[r]? = some x->x.a=p++l->bE H d (x.a.map (oN os)) ->
 ∃ q H' L' S',ae ai 56 200009 [.g (.ptr (oN os r) 0),.g (.ptr v1 0),.g (.ptr v2 0),.g d,.n (x.a.length:Nat),.n (p.length:Nat)] [] H=ret (.bool q) H'/\cr H' os N L'/\tI N L L'/\Em H H' os m/\(∀ f:Nat->Ty,Ox N f->eA L f->(∀ a∈l,Uf f S a)->q=true) /\
  (q=true->Vi H' m v1 v2 os N L' (pS S' r 2)/\Hg N L' S S'/\∃ ts,sE N L' l ts)
 |[],p,H,os,N,L,S,h,hw,hd,hv,hc,hx,e,ha=>by
  obtain⟨H',u1,u2,u3⟩:=h.upd (aE hx) 2
  obtain⟨s1,k1⟩:=h.a
  refine⟨true,H',L,S,eL (wb) ?_,u2.g,.refl _ _,u3,fun _ _ _ _=>rfl,fun _=>⟨u2,.refl S,[],.nil⟩⟩
  have hlt:decide ((p.length:Int)<(x.a.length:Int))=false:=by rw[e];simp
  rw[hlt,cond_false,ac k1,ak,u1]
 |a::l,p,H,os,N,L,S,h,hw,hd,hv,hc,hx,e,ha=>by
  obtain⟨s2,k2⟩:=h.b
  have la:a<N.length:=h.g.kid r x hx a (by rw[e];simp)
  have ia:(x.a.map (oN os))[p.length]? = some (oN os a):=by rw[List.getElem?_map,e];simp
  have hlt:decide ((p.length:Int)<(x.a.length:Int))=true:=by rw[e];simp;omega
  have hs:=h.g.sm r x hx
  have hw2:eg ((p.length:Int)+1)=(((p++[a]).length:Nat):Int):=by
   rw[bT (by
    have:x.a.length=p.length+(l.length+1):=by rw[e];simp
    omega)]
   simp
  obtain⟨q,H1,L1,S1,r1,r2,r3,r4,r5,r6⟩:=hk H os N L S h hw hd hv hc a la
  have hf:ei lF 56=true:=by kernel_rfl
  have st:∀ z,(match q with|true=>ae ai 56 200009 [.g (.ptr (oN os r) 0),.g (.ptr v1 0),.g (.ptr v2 0),.g d,.n (x.a.length:Nat),.n ((p++[a]).length:Nat)] [] H1|false=>ret (.bool false) H1)=z->ae ai 56 200009 [.g (.ptr (oN os r) 0),.g (.ptr v1 0),.g (.ptr v2 0),.g d,.n (x.a.length:Nat),.n (p.length:Nat)] [] H=z:=fun z hz=>by
   refine eL (wb) ?_
   rw[hlt,cond_true,ha.at' ia,ac k2,ak,Ax hf]
   rw[show(([]:List D)++([D.ptr (oN os a) 0]++[.ptr v1 0,.ptr v2 0]))=[.ptr (oN os a) 0,.ptr v1 0,.ptr v2 0] from rfl,aq r1]
   simp only[ct,aj]
   rw[hw2,<- hz]
   cases q<;>simp only[Bool.not_true,Bool.not_false,cond_true,cond_false]
  cases q with
  |false=>exact⟨false,H1,L1,S1,st _ rfl,r2,r3,r4,fun f h1 h2 h3=>r5 f h1 h2 (h3 a List.mem_cons_self),fun q=>nomatch q⟩
  |true =>
   obtain⟨t1,t2,t,t3⟩:=r6 rfl
   have hc':cz S1 N.length<=cz S N.length:=KZ fun j _=>t2.zero j
   obtain⟨q',H2,L2,S2,w1,w2,w3,w4,w5,w6⟩:=FH hk l (p++[a]) H1 os N L1 S1 t1 (hw.eqv r3) ((hd.eqv r3).vs t2) hv (by omega) hx (by rw[e];simp) (ha.em h.g h.mp r4)
   refine⟨q',H2,L2,S2,st _ w1,w2,r3.trans w3,r4.trans w4,fun f h1 h2 h3=>w5 f h1 ((r3.rs _ f).1 h2) fun a' ha' j hj=>?_,fun hq=>?_⟩
   ·refine h3 a' (List.mem_cons_of_mem _ ha') j ?_
    by_cases e0:gS S j=0
    ·have:=(t2.new j e0 (by rw[hj];decide)).1
     rw[hj]at this;cases this
    ·rw[<- t2.old j e0,hj]
   ·obtain⟨z1,z2,ts,z3⟩:=w6 hq
    exact⟨z1,(t2.eqv w3).trans z2,t::ts,.cons (t3.eqv w3) z3⟩
theorem Rm(o c:Nat)(H:DH)(κ:D->ag):ft ab 71 (.ptr o c) H κ=aF H o fun _ cs=>aC cs c κ:=by kernel_rfl
theorem Bx{m v1 v2:Nat}:∀ k,VA m v1 v2 k
 |0=>fun _ _ _ _ _ _ _ _ _ h=>by omega
 |k+1=>by
  intro H os N L S h hw hd hv hc i hi
  obtain⟨r,n,hr⟩:=hw i (by rw[h.g.lenL];exact hi)
  obtain⟨H1,L1,r1,g1,q1,l1⟩:=QV h.g hr
  obtain⟨n1,_,hr1⟩:=q1.rt _ _ _ hr
  have hrl:r<N.length:=by rw[<- g1.lenL];exact aE hr1.root
  have h1:=h.els g1 l1
  have hd1:=hd.eqv q1
  obtain⟨s1,k1⟩:=h1.a
  have hx:=List.getElem?_eq_getElem hrl
  generalize N[r]=x at hx
  have fr:∀ f:Nat->Ty,eA L f->f i=f r:=fun f hf=>hf.rt hr
  by_cases e1:gS S r=1
  ·refine⟨false,H1,L1,S,ev (Tk) ?_,g1,q1,l1.em,fun f _ h2 h3=>?_,fun q=>nomatch q⟩
   ·rw[aq r1,ac k1,ak,h1.lkm hrl,e1]
    rfl
   ·have:=h3 r e1
    rw[fr f h2]at this
    omega
  ·by_cases e2:gS S r=2
   ·obtain⟨_,t,ht⟩:=hd1 r (by rw[e2];decide) e1
    refine⟨true,H1,L1,S,ev (Tk) ?_,g1,q1,l1.em,fun _ _ _ _=>rfl,fun _=>⟨h1,.refl S,t,.of_rt hr1 ht⟩⟩
    rw[aq r1,ac k1,ak,h1.lkm hrl,e2]
    rfl
   ·have e0:gS S r=0:=by
     by_cases e0:gS S r=0
     ·exact e0
     ·exact(e2 (hd1 r e0 e1).1).elim
    obtain⟨H2,u1,u2,u3⟩:=h1.upd hrl 1
    obtain⟨s2,d,w1,w2⟩:=u2.g.ob r x hx
    have g1':∀ j,gS (pS S r 1) j=if j=r then 1 else gS S j:=fun j=>Oh _ _ _ _
    have hd2:Dn N L1 (pS S r 1):=fun j a b=>by
     rw[g1']at a b ⊢
     by_cases ej:j=r
     ·rw[if_pos ej]at b;exact(b rfl).elim
     ·rw[if_neg ej]at a b ⊢;exact hd1 j a b
    have hc2:cz (pS S r 1) N.length<k:=by
     have:cz (pS S r 1) N.length<cz S N.length:=On (r:=r) (fun j _ hj=>by
      rw[g1']at hj
      split at hj
      ·cases hj
      ·exact hj) hrl e0 (by rw[g1',if_pos rfl];decide)
     omega
    obtain⟨q,H3,L3,S3,t1,t2,t3,t4,t5,t6⟩:=FH (Bx k) x.a [] H2 os N L1 (pS S r 1) u2 (hw.eqv q1) hd2 hv hc2 hx rfl w2
    refine⟨q,H3,L3,pS S3 r 2,ev (Tk) ?_,t2,q1.trans t3,(l1.em.trans u3).trans t4,fun f hm h2 h3=>?_,fun hq=>?_⟩
    ·rw[aq r1,ac k1,ak,h1.lkm hrl,e0]
     rw[show(∀ κ:D->ag,aB ab .eql 3 true (.i 0) (.i 1) κ=κ (.bool false))from fun κ=>rfl]
     simp only[aj,cond_false]
     rw[show(∀ κ:D->ag,aB ab .eql 3 true (.i 0) (.i 2) κ=κ (.bool false))from fun κ=>rfl]
     simp only[aj,cond_false]
     rw[ac k1,ak,u1]
     simp only[Ff,ER,Rm,Nat.zero_add]
     rw[ac w1]
     simp only[fk,ak,aw]
     rw[w2.len,List.length_map]
     exact t1
    ·refine t5 f hm ((q1.rs _ f).1 h2) fun a ha j hj=>?_
     have hxv:x.v=false:=by
      cases vx:x.v with
      |false=>rfl
      |true=>rw[hv r x hx vx]at ha;cases ha
     have lt1:dn (f a)<dn (f r):=by
      rw[hm r x hx hxv]
      have:=BC (List.mem_map_of_mem (f:=f) ha)
      simp only[dn];omega
     rw[g1']at hj
     split at hj
     ·rename_i ej;rw[ej];exact lt1
     ·have:=h3 j hj
      rw[fr f h2]at this
      omega
    ·obtain⟨z1,z2,ts,z3⟩:=t6 hq
     have hr3:L3[r]? = some none:=(t3.ro r).1 hr1.root
     have tr:∃ t,Tr N L3 r t:=by
      cases vx:x.v with
      |true=>exact⟨_,.var (.z hr3) hx vx⟩
      |false =>
       have z4:∃ ts,sE N L3 x.a ts:=⟨ts,z3⟩
       obtain⟨ts,z4⟩:=z4
       exact⟨_,.con (.z hr3) hx vx z4⟩
     have hr3':=(q1.trans t3).rt _ _ _ hr
     obtain⟨n3,_,hr3'⟩:=hr3'
     have g3:∀ j,gS (pS S3 r 2) j=if j=r then 2 else gS S3 j:=fun j=>Oh _ _ _ _
     obtain⟨t,ht⟩:=tr
     refine⟨z1,⟨fun j hj=>?_,fun j hj hj2=>?_⟩,t,.of_rt hr3' ht⟩
     ·have ej:j≠r:=fun q=>by subst q;exact hj e0
      have:gS (pS S r 1) j=gS S j:=by rw[g1',if_neg ej]
      rw[g3,if_neg ej,z2.old j (by rw[this];exact hj),this]
     ·rw[g3]at hj2 ⊢
      by_cases ej:j=r
      ·subst ej;rw[if_pos rfl];exact⟨rfl,t,ht⟩
      ·rw[if_neg ej]at hj2 ⊢
       exact z2.new j (by rw[g1',if_neg ej];exact hj) hj2
end Go.Proofs.YtenibcfppefobaaGreatDoor
set_option linter.all false
noncomputable section
namespace Go.Proofs.YtenibcfppefobaaGreatDoor
open Go.AI
theorem nl(l:DH)(x y:DB):(l++[x]).set l.length y=l++[y]:=by simp
theorem jS{H X:DH}{o:Nat}{b:DB}(h:H[o]? = some b):(H++X)[o]? = some b:=by rw[List.getElem?_append_left (aE h),h]
theorem bE.app{H X:DH}{d:D}{l:List Nat}(h:bE H d l):bE (H++X) d l:=by
 rcases h with⟨rfl,rfl⟩|⟨b,st,cp,rfl,h⟩
 ·exact .inl ⟨rfl,rfl⟩
 ·exact .inr ⟨b,st,cp,rfl,jS h⟩
theorem cr.app{H X:DH}{os:List Nat}{N:List bw}{L:Lk}(g:cr H os N L):cr (H++X) os N L :=
 ⟨g.len,g.lenL,g.nd,fun i x hx=>by
  obtain⟨s,d,h1,h2⟩:=g.ob i x hx
  exact⟨s,d,jS h1,h2.app⟩,g.kid,g.lk,g.sm⟩
theorem cr.ltm{H:DH}{os:List Nat}{N:List bw}{L:Lk}(g:cr H os N L){o:Nat}(h:o∈os):o<H.length:=by
 obtain⟨s,c,e⟩:=g.nm h
 exact aE e
theorem CD{m v1 v2:Nat}{d:D}{all:List Nat}(h16:all.length<=16):∀(l p:List Nat) (H:DH) (os:List Nat) (N:List bw) (L:Lk) (S:List (Nat×Int)),Vi H m v1 v2 os N L S->Wf L->Dn N L S->(∀ j,gS S j≠1)->(∀(i:Nat) (x:bw),N[i]? = some x->x.v=true->x.a=[])->(∀ a∈all,a<N.length)->all=p++l->bE H d (all.map (oN os)) ->
 ∃ q H' L',ae ai 25 200005 [.g (.ptr v2 0),.g d,.n (all.length:Nat),.n (p.length:Nat)] [] H=ret (.bool q) H'/\cr H' os N L'/\tI N L L'/\Em H H' os m/\(∀ f:Nat->Ty,Ox N f->eA L f->q=true)/\(q=true->∀ a∈l,∃ t,Tr N L' a t)
 |[],p,H,os,N,L,S,h,hw,hd,h1,hv,hl,e,ha=>by
  refine⟨true,H,L,eL (we) ?_,h.g,.refl _ _,.refl _ _ _,fun _ _ _=>rfl,fun _ a q=>nomatch q⟩
  have hlt:decide ((p.length:Int)<(all.length:Int))=false:=by rw[e];simp
  rw[hlt,cond_false]
 |a::l,p,H,os,N,L,S,h,hw,hd,h1,hv,hl,e,ha=>by
  obtain⟨s2,k2⟩:=h.b
  have la:a<N.length:=hl a (by rw[e];simp)
  have ia:(all.map (oN os))[p.length]? = some (oN os a):=by rw[List.getElem?_map,e];simp
  have hlt:decide ((p.length:Int)<(all.length:Int))=true:=by rw[e];simp;omega
  have hw2:eg ((p.length:Int)+1)=(((p++[a]).length:Nat):Int):=by
   rw[bT (by
    have:all.length=p.length+(l.length+1):=by rw[e];simp
    omega)]
   simp
  obtain⟨q,H1,L1,S1,r1,r2,r3,r4,r5,r6⟩:=Bx _ H os N L S h hw hd hv (Nat.lt_succ_self _) a la
  have hf:ei lF 56=true:=by kernel_rfl
  have st:∀ z,(match q with|true=>ae ai 25 200005 [.g (.ptr v2 0),.g d,.n (all.length:Nat),.n ((p++[a]).length:Nat)] [] H1|false=>ret (.bool false) H1)=z->ae ai 25 200005 [.g (.ptr v2 0),.g d,.n (all.length:Nat),.n (p.length:Nat)] [] H=z:=fun z hz=>by
   refine eL (we) ?_
   rw[hlt,cond_true,ha.at' ia,ac k2,ak,Ax hf]
   rw[show(([]:List D)++([D.ptr (oN os a) 0]++[.ptr v1 0,.ptr v2 0]))=[.ptr (oN os a) 0,.ptr v1 0,.ptr v2 0] from rfl,aq r1]
   simp only[ct,aj]
   rw[hw2,<- hz]
   cases q<;>simp only[Bool.not_true,Bool.not_false,cond_true,cond_false]
  have op:∀ f:Nat->Ty,Uf f S a:=fun f j hj=>(h1 j hj).elim
  cases q with
  |false=>exact⟨false,H1,L1,st _ rfl,r2,r3,r4,fun f h2 h3=>r5 f h2 h3 (op f),fun q=>nomatch q⟩
  |true =>
   obtain⟨t1,t2,t,t3⟩:=r6 rfl
   have h1':∀ j,gS S1 j≠1:=fun j hj=>by
    by_cases e0:gS S j=0
    ·have:=(t2.new j e0 (by rw[hj];decide)).1
     rw[hj]at this;cases this
    ·exact h1 j (by rw[<- t2.old j e0,hj])
   obtain⟨q',H2,L2,w1,w2,w3,w4,w5,w6⟩:=CD h16 l (p++[a]) H1 os N L1 S1 t1 (hw.eqv r3) ((hd.eqv r3).vs t2) h1' hv hl (by rw[e];simp) (ha.em h.g h.mp r4)
   refine⟨q',H2,L2,st _ w1,w2,r3.trans w3,r4.trans w4,fun f h2 h3=>w5 f h2 ((r3.rs _ f).1 h3),fun hq a' ha'=>?_⟩
   rcases List.mem_cons.1 ha' with rfl|ha'
   ·exact⟨t,t3.eqv w3⟩
   ·exact w6 hq a' ha'
theorem RF{H:DH}{os:List Nat}{N:List bw}{L:Lk}(g:cr H os N L)(hw:Wf L)(hv:∀(i:Nat) (x:bw),N[i]? = some x->x.v=true->x.a=[]){d:D}{l:List Nat}(h16:l.length<=16)(ha:bE H d (l.map (oN os)))(hl:∀ a∈l,a<N.length) :
 ∃ q H' L',aD 25 [d] H=ret (.bool q) H'/\cr H' os N L'/\tI N L L'/\uo H H' os/\(∀ f:Nat->Ty,Ox N f->eA L f->q=true)/\(q=true->∀ a∈l,∃ t,Tr N L' a t):=by
 let X:DH:=[.map [],.cells 1 [.map H.length],.cells 1 [.func 56 [] [.ptr (H.length+1) 0,.ptr (H.length+2) 0]]]
 have hX:(H++[DB.map []]++[DB.cells 1 [.map H.length]]++[DB.cells 1 [.func 56 [] [.ptr (H.length+1) 0,.ptr (H.length+2) 0]]])=H++X:=by simp[X]
 have gX:cr (H++X) os N L:=g.app
 have at0:(H++X)[H.length]? = some (.map (sM os [])):=by simp[X,sM]
 have at1:(H++X)[H.length+1]? = some (.cells 1 [.map H.length]):=by rw[List.getElem?_append_right (by omega)];simp[X]
 have at2:(H++X)[H.length+2]? = some (.cells 1 [.func 56 [] [.ptr (H.length+1) 0,.ptr (H.length+2) 0]]):=by rw[List.getElem?_append_right (by omega)];simp[X]
 have vi:Vi (H++X) H.length (H.length+1) (H.length+2) os N L []:=⟨gX,at0,⟨1,at1⟩,⟨1,at2⟩,fun q=>by have:=g.ltm q;omega,fun q=>by have:=g.ltm q;omega,fun _ q=>nomatch q⟩
 obtain⟨q,H',L',r1,r2,r3,r4,r5,r6⟩:=CD h16 l [] (H++X) os N L [] vi hw (fun j h=>(h rfl).elim) (fun j=>by show(0:Int)≠1;decide) hv hl rfl ha.app
 refine⟨q,H',L',ev (UM) ?_,r2,r3,⟨Nat.le_trans (by simp) r4.len,fun o h1 h2=>?_⟩,r5,r6⟩
 ·have o0:∀(κ:List D->ag),az [D.nilmap] 0 [.map H.length] κ=κ [.map H.length]:=fun _=>rfl
  have o1:∀(a b:Nat) (κ:List D->ag),az [D.nilFunc] 0 [.func 56 [] [.ptr a 0,.ptr b 0]] κ=κ [.func 56 [] [.ptr a 0,.ptr b 0]]:=fun _ _ _=>rfl
  dsimp only
  rw[ac (ci _ _),o0,nl,ac (ci _ _),o1,nl]
  have hl1:(H++[DB.map []]).length=H.length+1:=by simp
  have hl2:(H++[DB.map []]++[DB.cells (0+1) [.map H.length]]).length=H.length+2:=by simp
  rw[hl1,hl2,Nat.zero_add,hX,(ha.app (X:=X)).len,List.length_map]
  exact r1
 ·rw[r4.at' o (by simp;omega) h2 (by omega),List.getElem?_append_left h1]
end Go.Proofs.YtenibcfppefobaaGreatDoor
set_option linter.all false
noncomputable section
namespace Go.Proofs.YtenibcfppefobaaGreatDoor
open Go.AI
theorem UK{R:bv}{p0:Nat}{p1:Int}{p2:Nat}{p3:D}{H:DH}:bu R 27 [.ptr p0 0,.i p1,.ptr p2 0,p3] H =
 C R 26 [.ptr p0 0] H fun a H=>aF H p2 fun _ b=>aC b 0 fun b=>aB ab .add 3 true b (.i 1) fun b=>ah 1 b fun b=>aF H p2 fun c d=>az d 0 b fun b=>let H:=H.set p2 (.cells (c+1) b);aF H p2 fun _ b=>aC b 0 fun b=>aB ab .gtr 3 true b (.i 2000) fun b=>brD b (aF H p2 fun a b=>az b 0 [.i 2001] fun b=>let H:=H.set p2 (.cells (a+1) b);ret (.agg [.str [],.row 2 []]) H) (cond (decide (p1>100)) (aF H p2 fun a b=>az b 0 [.i 2001] fun b=>let H:=H.set p2 (.cells (a+1) b);ret (.agg [.str [],.row 2 []]) H) (eu a fun b=>dt b 0 fun b=>ft ab 4 b H fun b=>brD b (EH lF p3 fun b c d=>C R b (c++([a]++d)) H fun a H=>ah 2 a fun a=>az [.str [],.nilrow] 0 a fun a=>aC a 0 fun b=>aC a 1 fun a=>ij (.fz 2) a H fun a H=>ret (.agg [b,a]) H) (eu a fun b=>dt b 1 fun b=>ft ab 9 b H fun b=>ah 1 b fun b=>az [.str [],.nilrow] 0 b fun b=>ah 2 (.agg b) fun b=>az [.str [],.nilrow] 0 b fun b=>eu a fun a=>dt a 3 fun a=>ft ab 71 a H fun a=>fq ab 71 a H fun c=>ae R 27 200010 [.n p1,.g (.ptr p2 0),.g p3,.lp 0 0,.lp 1 0,.g a,.g c,.n 0] [(0,[.str [],.nilrow]),(0,b)] H))):=by kernel_rfl
theorem wd{R:bv}{v1:Int}{v2:Nat}{v3 a:D}{b c:Int}{e:af}{h:D}{w1:List D}{H:DH}:bG R 27 200010 [.n v1,.g (.ptr v2 0),.g v3,.lp 0 0,.lp 1 0,.g a,.n b,.n c] [(0,[.str e,h]),(0,w1)] H =
 cond (decide (c<b)) (dF ab 71 a (.i c) fun d=>ft ab 74 d H fun d=>eK (R (.call 27 [d,.i (eg (v1+1)),.ptr v2 0,v3] none) H) (fun d H=>aC w1 1 fun f=>ah 2 d fun d=>fN (br ab 27) 2 f [d] H fun d H=>ah 1 d fun d=>az w1 1 d fun d=>ae R 27 200010 [.n v1,.g (.ptr v2 0),.g v3,.lp 0 0,.lp 1 0,.g a,.n b,.n (eg (c+1))] [(0,[.str e,h]),(0,d)] H) fun _ _=>none) (aC w1 0 fun a=>aC w1 1 fun b=>ij (.fz 2) b H fun b H=>ret (.agg [a,b]) H):=by kernel_rfl
theorem Tu{R:bv}{p0:Nat}{a:af}{b:gi}{H:DH}:bu R 23 [.ptr p0 0,.agg [.str a,.row 2 b]] H =
 C R 29 [.str a] H fun c H=>rl .not c fun c=>brD c (let a:=H++[.cells 0 [.bool false,.str a,.i 0,.nilrow,.nilptr]];ae R 23 200004 [.g (.ptr p0 0),.g (.ptr H.length 0),.g (.row 2 b),.n b.length,.n 0] [] a) (aF H p0 fun _ b=>aC b 0 fun b=>fp ab 70 b (.str a) false H fun b=>aB ab .eql 74 true b .nilptr fun c=>brD c (aF H p0 fun _ b=>aC b 1 fun b=>fq ab 71 b H fun b=>ah 1 b fun b=>az [.bool true,.str a,.i 0,.nilrow,.nilptr] 2 b fun b=>ah 5 (.agg b) fun b=>let b:=H++[.cells 0 b];aF b p0 fun _ c=>aC c 0 fun c=>gL ab 70 c (.str a) (.ptr H.length 0) b fun a=>aF a p0 fun _ b=>aC b 1 fun b=>fN (br ab 74) 1 b [[.ptr H.length 0]] a fun a b=>ah 1 a fun a=>aF b p0 fun c d=>az d 1 a fun a=>let a:=b.set p0 (.cells (c+1) a);ret (.ptr H.length 0) a) (ret b H)):=by kernel_rfl
theorem wh{R:bv}{v0 v5:Nat}{a:gi}{b c:Int}{H:DH}:bG R 23 200004 [.g (.ptr v0 0),.g (.ptr v5 0),.g (.row 2 a),.n b,.n c] [] H =
 cond (decide (c<b)) (dE c fun d=>eO a d fun d=>aC d 0 fun e=>aC d 1 fun d=>eK (R (.call 23 [.ptr v0 0,.agg [e,d]] none) H) (fun d e=>aF (cH e [H]) v5 fun _ f=>aC f 3 fun f=>ah 1 d fun d=>fN (br ab 74) 1 f [d] e fun d H=>ah 1 d fun d=>aF H v5 fun e f=>az f 3 d fun d=>let H:=H.set v5 (.cells (e+1) d);ae R 23 200004 [.g (.ptr v0 0),.g (.ptr v5 0),.g (.row 2 a),.n b,.n (eg (c+1))] [] H) fun _ _=>none) (ret (.ptr v5 0) H):=by kernel_rfl
theorem UJ{R:bv}{p0:Nat}{H:DH}:bu R 28 [.ptr p0 0] H =
 aF H p0 fun _ a=>aC a 1 fun a=>ah 1 a fun a=>az [.str [],.nilrow] 0 a fun a=>ah 2 (.agg a) fun a=>az [.str [],.nilrow] 0 a fun a=>aC a 0 fun b=>aC a 1 fun a=>ret (.agg [b,a]) H:=by kernel_rfl
end Go.Proofs.YtenibcfppefobaaGreatDoor
set_option linter.all false
noncomputable section
namespace Go.Proofs.YtenibcfppefobaaGreatDoor
open Go.AI
theorem DV{m:Nat}(h:m<=4194304):br ab 74 m=true:=by
 have e:br ab 74 m=(Nat.ble (8*(m+Nat.div m 4+600)) 281474976710656&&Nat.ble m 4611686018427387904):=by kernel_rfl
 rw[e,Bool.and_eq_true]
 have h1:Nat.div m 4<=m:=Nat.div_le_self m 4
 exact⟨Nat.ble_eq_true_of_le (by omega),Nat.ble_eq_true_of_le (by omega)⟩
theorem Qw{H:DH}{d:D}{l:List Nat}(h:bE H d l)(hl:l.length<4194304)(o:Nat):∃ d' H',(∀ κ:D->DH->ag,fN (br ab 74) 1 d [[.ptr o 0]] H κ=κ d' H')/\bE H' d' (l++[o])/\H.length<=H'.length /\
 (∀ b,b<H.length->(∀ n,d≠.buf 1 b n)->H'[b]? = H[b]?)/\(∃ b n,d'=.buf 1 b n/\((∃ n',d=.buf 1 b n')\/H.length<=b))/\(∀ b n,d'=.buf 1 b n->b<H'.length):=by
 rcases h with⟨rfl,rfl⟩|⟨b,st,cp,rfl,hb⟩
 ·refine⟨.buf 1 H.length 1,H++[.buf 1 true false [[.ptr o 0]]],fun κ=>?_,.inr ⟨H.length,true,false,rfl,ci _ _⟩,by simp,fun b hb _=>List.getElem?_append_left hb,⟨_,_,rfl,.inr (Nat.le_refl _)⟩,fun b n e=>by cases e;simp⟩
  simp only[fN,List.length_singleton,DV (show 1<=4194304 by decide),boK,cond_true]
  rfl
 ·have hm:(List.map (fun o=>[D.ptr o 0]) l).length=l.length:=List.length_map _
  have hs:∀ κ:D->DH->ag,fN (br ab 74) 1 (.buf 1 b l.length) [[.ptr o 0]] H κ=grow b 1 st cp (l.map fun o=>[.ptr o 0]) [[.ptr o 0]] H κ:=fun κ=>by
   have h4:=fc hb (κ:=fun _ st cap l2=>boK (br ab 74 (l2.length+1)&&!(cap&&List.isEmpty [[D.ptr o 0]])) (grow b 1 st cap l2 [[.ptr o 0]] H κ))
   rw[hm]at h4
   simp only[fN,List.length_singleton,DV (show 1<=4194304 by decide),boK,cond_true,Nat.beq_refl]
   refine Eq.trans h4 ?_
   rw[DV (by omega)]
   simp only[List.isEmpty_cons,Bool.and_false,Bool.not_false,Bool.and_self,boK,cond_true]
  have e2:(List.map (fun o=>[D.ptr o 0]) l)++[[.ptr o 0]]=(l++[o]).map fun o=>[.ptr o 0]:=by simp
  cases cp with
  |true =>
   refine⟨.buf 1 H.length (l++[o]).length,H++[.buf 1 true false ((l++[o]).map fun o=>[.ptr o 0])],fun κ=>?_,.inr ⟨H.length,true,false,rfl,ci _ _⟩,by simp,fun b hb _=>List.getElem?_append_left hb,⟨_,_,rfl,.inr (Nat.le_refl _)⟩,fun b n e=>by cases e;simp⟩
   rw[hs,grow,cond_true,e2,hm]
   simp
  |false =>
   refine⟨.buf 1 b (l++[o]).length,H.set b (.buf 1 st false ((l++[o]).map fun o=>[.ptr o 0])),fun κ=>?_,.inr ⟨b,st,false,rfl,bK _ hb⟩,by simp,fun b' hb' hn=>List.getElem?_set_ne (fun q=>hn l.length (by rw[q])),⟨_,_,rfl,.inl ⟨_,rfl⟩⟩,fun b n e=>by cases e;simp;exact aE hb⟩
   rw[hs,grow,cond_false,e2,hm]
   simp
theorem Ae{os X:List Nat}{i:Nat}(h:i<os.length):oN (os++X) i=oN os i:=by unfold oN;rw[List.getElem?_append_left h]
theorem fC{os X:List Nat}{l:List Nat}(h:∀ a∈l,a<os.length):l.map (oN (os++X))=l.map (oN os):=List.map_congr_left fun a ha=>Ae (h a ha)
theorem rL(os:List Nat)(o:Nat):oN (os++[o]) os.length=o:=by simp[oN]
def jU(N:List bw)(v:Nat):af:=((N[v]?).map (·.n)).getD []
def vM(os:List Nat)(N:List bw)(vs:List Nat):List (D×D):=vs.map fun v=>(.str (jU N v),.ptr (oN os v) 0)
theorem Kh(os:List Nat)(N:List bw)(s:af):∀ vs,tz (.str s) (vM os N vs)=some ((vs.find? fun v=>s==jU N v).map fun v=>.ptr (oN os v) 0)
 |[]=>rfl
 |v::r=>by
  have ih:=Kh os N s r
  simp only[vM,List.map_cons,tz,ki]
  cases q:s==jU N v with
  |true=>simp only[List.find?_cons,q,Option.map]
  |false=>simp only[List.find?_cons,q];exact ih
theorem Ke(os:List Nat)(N:List bw)(s:af)(x:D):∀ vs,(vs.find? fun v=>s==jU N v)=none->vh (.str s) x (vM os N vs)=some (vM os N vs++[(.str s,x)])
 |[],_=>rfl
 |v::r,h=>by
  simp only[List.find?_cons]at h
  cases q:s==jU N v with
  |true=>rw[q]at h;cases h
  |false =>
   rw[q]at h
   have ih:=Ke os N s x r h
   simp only[vM,List.map_cons,vh,ki,q,List.cons_append]
   simp only[vM]at ih
   rw[ih]
structure GT(isV:af->Bool)(H:DH)(p mo:Nat)(dl:D)(os bs:List Nat)(N:List bw)(T:List Ty)(vs:List Nat):Prop where
 len:os.length=N.length
 nd:os.Nodup
 ob:∀(i:Nat) (x:bw),N[i]? = some x->∃ s d,H[oN os i]? = some (.cells s (fk x.v x.n x.o d .nilptr))/\bE H d (x.a.map (oN os))/\∀ o n,d=.buf 1 o n->o∈bs
 sm:∀(i:Nat) (x:bw),N[i]? = some x->x.a.length<=16
 gn:GN N T isV
 pg:∃ s,H[p]? = some (.cells s [.map mo,dl])
 al:bE H dl (vs.map (oN os))
 lb:∀ o n,dl=.buf 1 o n->o∉bs
 mp:H[mo]? = some (.map (vM os N vs))
 vs1:∀(i:Nat) (x:bw),N[i]? = some x->x.v=true->i∈vs
 vs2:∀ i∈vs,∃ x,N[i]? = some x/\x.v=true
 np:p∉os
 bb:∀ o∈bs,o<H.length
 vl:vs.length<=N.length
 vn:vs.Nodup
variable{isV:af->Bool}{H H':DH}{p mo:Nat}{dl dl':D}{os bs:List Nat}{N:List bw}{T:List Ty}{vs:List Nat}
theorem GN.kid(g:GN N T isV)(i:Nat)(x:bw)(h:N[i]? = some x):∀ a∈x.a,a<i:=fun a ha=>by
 cases hv:x.v with
 |true=>rw[(g.var i x h hv).2.2]at ha;cases ha
 |false=>exact(g.con i x h hv).2.1 a ha
theorem bE.chg{d:D}{l:List Nat}(h:bE H d l)(k:∀ o n,d=.buf 1 o n->H'[o]? = H[o]?):bE H' d l:=by
 rcases h with⟨rfl,rfl⟩|⟨b,st,cp,rfl,h⟩
 ·exact .inl ⟨rfl,rfl⟩
 ·exact .inr ⟨b,st,cp,rfl,by rw[k _ _ rfl,h]⟩
theorem GT.chg(g:GT isV H p mo dl os bs N T vs)(h1:∀ o∈os,H'[o]? = H[o]?)(h2:∀ o∈bs,H'[o]? = H[o]?)(h3:∃ s,H'[p]? = some (.cells s [.map mo,dl]))(h4:∀ o n,dl=.buf 1 o n->H'[o]? = H[o]?)(h5:H'[mo]? = H[mo]?)(h6:H.length<=H'.length):GT isV H' p mo dl os bs N T vs :=
 ⟨g.len,g.nd,fun i x hx=>by
  obtain⟨s,d,k1,k2,k3⟩:=g.ob i x hx
  exact⟨s,d,by rw[h1 _ (Aa (by rw[g.len];exact aE hx)),k1],k2.chg fun o n e=>h2 o (k3 o n e),k3⟩,g.sm,g.gn,h3,g.al.chg h4,g.lb,by rw[h5,g.mp],g.vs1,g.vs2,g.np,fun o ho=>Nat.lt_of_lt_of_le (g.bb o ho) h6,g.vl,g.vn⟩
theorem eh{α:Type}{l:List α}{x y:α}{i:Nat}(h:(l++[x])[i]? = some y):l[i]? = some y\/(i=l.length/\y=x):=by
 rcases Nat.lt_trichotomy i l.length with q|q|q
 ·rw[List.getElem?_append_left q]at h;exact .inl h
 ·subst q;simp at h;exact .inr ⟨rfl,h.symm⟩
 ·rw[List.getElem?_eq_none (by simp;omega)]at h;cases h
theorem lq{α:Type}{l X:List α}{y:α}{i:Nat}(h:l[i]? = some y):(l++X)[i]? = some y:=by rw[List.getElem?_append_left (aE h),h]
theorem vp{T:List Ty}{t:Ty}{ks:List Nat}{ts:List Ty}(h:ks.map (fun a=>T[a]?)=ts.map some):ks.map (fun a=>(T++[t])[a]?)=ts.map some:=by
 rw[<- h]
 refine List.map_congr_left fun a ha=>?_
 have:T[a]?∈ts.map some:=by rw[<- h];exact List.mem_map_of_mem (f:=fun a=>T[a]?) ha
 obtain⟨t',_,e⟩:=List.mem_map.1 this
 rw[<- e];exact lq e.symm
theorem GN.snocC(g:GN N T isV){nm:af}{ks:List Nat}{ts:List Ty}{o:Int}(hv:isV nm=false)(ha:∀ a∈ks,a<N.length)(ht:ks.map (fun a=>T[a]?)=ts.map some):GN (N++[⟨false,nm,o,ks⟩]) (T++[.mk nm ts]) isV:=by
 refine⟨by simp[g.len],fun i x hx vx=>?_,fun i x hx vx=>?_,fun i j x y hx hy vx vy e=>?_⟩
 ·rcases eh hx with hx|⟨rfl,rfl⟩
  ·obtain⟨a1,a2,a3⟩:=g.var i x hx vx
   exact⟨lq a1,a2,a3⟩
  ·cases vx
 ·rcases eh hx with hx|⟨rfl,rfl⟩
  ·obtain⟨a1,a2,ts',a3,a4⟩:=g.con i x hx vx
   exact⟨a1,a2,ts',lq a3,vp a4⟩
  ·exact⟨hv,ha,ts,by rw[<- g.len];simp,vp ht⟩
 ·rcases eh hx with hx|⟨rfl,rfl⟩
  ·rcases eh hy with hy|⟨rfl,rfl⟩
   ·exact g.inj i j x y hx hy vx vy e
   ·cases vy
  ·cases vx
theorem GN.snocV(g:GN N T isV){nm:af}{o:Int}(hv:isV nm=true)(hn:∀(i:Nat) (x:bw),N[i]? = some x->x.v=true->x.n≠nm):GN (N++[⟨true,nm,o,[]⟩]) (T++[.mk nm []]) isV:=by
 refine⟨by simp[g.len],fun i x hx vx=>?_,fun i x hx vx=>?_,fun i j x y hx hy vx vy e=>?_⟩
 ·rcases eh hx with hx|⟨rfl,rfl⟩
  ·obtain⟨a1,a2,a3⟩:=g.var i x hx vx
   exact⟨lq a1,a2,a3⟩
  ·exact⟨by rw[<- g.len];simp,hv,rfl⟩
 ·rcases eh hx with hx|⟨rfl,rfl⟩
  ·obtain⟨a1,a2,ts',a3,a4⟩:=g.con i x hx vx
   exact⟨a1,a2,ts',lq a3,vp a4⟩
  ·cases vx
 ·rcases eh hx with hx|⟨rfl,rfl⟩
  ·rcases eh hy with hy|⟨rfl,rfl⟩
   ·exact g.inj i j x y hx hy vx vy e
   ·exact(hn i x hx vx e).elim
  ·rcases eh hy with hy|⟨rfl,rfl⟩
   ·exact(hn j y hy vy e.symm).elim
   ·rfl
theorem GT.vs_lt(g:GT isV H p mo dl os bs N T vs):∀ i∈vs,i<os.length:=fun i hi=>by
 obtain⟨x,hx,_⟩:=g.vs2 i hi
 rw[g.len];exact aE hx
theorem IS{os':List Nat}{N':List bw}(h:∀ i∈vs,i<os.length)(hl:os.length=N.length):vM (os++os') (N++N') vs=vM os N vs:=by
 refine List.map_congr_left fun v hv=>?_
 rw[Ae (h v hv)]
 have:jU (N++N') v=jU N v:=by unfold jU;rw[List.getElem?_append_left (by rw[<- hl];exact h v hv)]
 rw[this]
theorem GT.snocC(g:GT isV H p mo dl os bs N T vs){nm:af}{ks:List Nat}{ts:List Ty}{o s:Nat}{d:D}{B:List Nat}(hv:isV nm=false)(ho:H[o]? = some (.cells s (fk false nm 0 d .nilptr)))(hd:bE H d (ks.map (oN os)))(hn:o∉os)(hp:o≠p)
 (ha:∀ a∈ks,a<N.length) (h16:ks.length<=16) (ht:ks.map (fun a=>T[a]?)=ts.map some) (hB:∀ b n,d=.buf 1 b n->b∈B) (hB2:∀ b∈B,b<H.length/\∀ n,dl≠.buf 1 b n) :
 GT isV H p mo dl (os++[o]) (bs++B) (N++[⟨false,nm,0,ks⟩]) (T++[.mk nm ts]) vs:=by
 have hk:∀(i:Nat) (x:bw),N[i]? = some x->∀ a∈x.a,a<os.length:=fun i x hx a ha=>by
  have:=g.gn.kid i x hx a ha
  have:=aE hx
  rw[g.len];omega
 refine⟨by simp[g.len],?_,fun i x hx=>?_,fun i x hx=>?_,g.gn.snocC hv ha ht,g.pg,by rw[fC g.vs_lt];exact g.al,fun b n e hb=>?_,by rw[IS g.vs_lt g.len];exact g.mp,fun i x hx vx=>?_,fun i hi=>?_,fun q=>?_,fun b hb=>?_,by simp;have:=g.vl;omega,g.vn⟩
 ·rw[List.nodup_append]
  exact⟨g.nd,by simp,fun a ha b hb=>by simp at hb;subst hb;intro e;subst e;exact hn ha⟩
 ·rcases eh hx with hx|⟨rfl,rfl⟩
  ·obtain⟨s,d,k1,k2,k3⟩:=g.ob i x hx
   exact⟨s,d,by rw[Ae (by rw[g.len];exact aE hx)];exact k1,by rw[fC (hk i x hx)];exact k2,fun o n e=>List.mem_append_left _ (k3 o n e)⟩
  ·exact⟨s,d,by rw[<- g.len,rL];exact ho,by rw[fC fun a h=>by rw[g.len];exact ha a h];exact hd,fun o n e=>List.mem_append_right _ (hB o n e)⟩
 ·rcases eh hx with hx|⟨rfl,rfl⟩
  ·exact g.sm i x hx
  ·exact h16
 ·rcases List.mem_append.1 hb with hb|hb
  ·exact g.lb b n e hb
  ·exact(hB2 b hb).2 n e
 ·rcases eh hx with hx|⟨rfl,rfl⟩
  ·exact g.vs1 i x hx vx
  ·cases vx
 ·obtain⟨x,hx,vx⟩:=g.vs2 i hi
  exact⟨x,lq hx,vx⟩
 ·rcases List.mem_append.1 q with q|q
  ·exact g.np q
  ·simp at q;exact hp q.symm
 ·rcases List.mem_append.1 hb with hb|hb
  ·exact g.bb b hb
  ·exact(hB2 b hb).1
end Go.Proofs.YtenibcfppefobaaGreatDoor
set_option linter.all false
noncomputable section
namespace Go.Proofs.YtenibcfppefobaaGreatDoor
open Go.AI
def Cv(N N':List bw)(ks:List Nat):Prop:=∀ j,N.length<=j->j<N'.length->j∈ks\/∃(m:Nat) (x:bw),N'[m]? = some x/\j∈x.a
theorem Cv.refl(N:List bw)(ks:List Nat):Cv N N ks:=fun j h k=>(by omega)
theorem Cv.snoc{N0 N N1:List bw}{ks:List Nat}{i:Nat}(h:Cv N0 N ks)(k:Cv N N1 [i])(e:∃ X,N1=N++X):Cv N0 N1 (ks++[i]):=fun j h1 h2=>by
 rcases Nat.lt_or_ge j N.length with q|q
 ·rcases h j h1 q with h|⟨m,x,h,hx⟩
  ·exact .inl (List.mem_append_left _ h)
  ·obtain⟨X,rfl⟩:=e
   exact .inr ⟨m,x,by rw[List.getElem?_append_left (aE h),h],hx⟩
 ·rcases k j q h2 with h|h
  ·exact .inl (List.mem_append_right _ h)
  ·exact .inr h
theorem Cv.con{N0 N:List bw}{ks:List Nat}(h:Cv N0 N ks)(v:Bool)(n:af)(o:Int):Cv N0 (N++[⟨v,n,o,ks⟩]) [N.length]:=fun j h1 h2=>by
 rcases Nat.lt_or_ge j N.length with q|q
 ·rcases h j h1 q with h|⟨m,x,h,hx⟩
  ·exact .inr ⟨N.length,⟨v,n,o,ks⟩,by simp,h⟩
  ·exact .inr ⟨m,x,by rw[List.getElem?_append_left (aE h),h],hx⟩
 ·simp at h2
  exact .inl (by simp;omega)
structure IE(H H':DH)(p mo:Nat)(dl dl':D)(os os' bs bs':List Nat)(N N':List bw)(T T':List Ty)(vs vs':List Nat)(k:Nat):Prop where
 eos:∃ X,os'=os++X/\∀ o∈X,H.length<=o
 ebs:∃ X,bs'=bs++X/\∀ o∈X,H.length<=o
 eN:∃ X,N'=N++X
 eT:∃ X,T'=T++X
 evs:∃ X,vs'=vs++X
 ek:N'.length<=N.length+k
 elen:H.length<=H'.length
 efr:∀ o:Nat,o<H.length->o≠p->o≠mo->(∀ n,dl≠.buf 1 o n)->H'[o]? = H[o]?
 edl:∀ b n,dl'=.buf 1 b n->(∃ n',dl=.buf 1 b n')\/H.length<=b
variable{isV:af->Bool}{H H' H'':DH}{p mo:Nat}{dl dl' dl'':D}{os bs os' bs' os'' bs'':List Nat}{N N' N'':List bw}{T T' T'':List Ty}{vs vs' vs'':List Nat}
theorem IE.refl(H:DH)(p mo:Nat)(dl:D)(os bs:List Nat)(N:List bw)(T:List Ty)(vs:List Nat):IE H H p mo dl dl os os bs bs N N T T vs vs 0 :=
 ⟨⟨[],by simp,fun _ h=>nomatch h⟩,⟨[],by simp,fun _ h=>nomatch h⟩,⟨[],by simp⟩,⟨[],by simp⟩,⟨[],by simp⟩,Nat.le_refl _,Nat.le_refl _,fun _ _ _ _ _=>rfl,fun b n e=>.inl ⟨n,e⟩⟩
theorem IE.trans{k k':Nat}(h:IE H H' p mo dl dl' os os' bs bs' N N' T T' vs vs' k)(g:IE H' H'' p mo dl' dl'' os' os'' bs' bs'' N' N'' T' T'' vs' vs'' k'):IE H H'' p mo dl dl'' os os'' bs bs'' N N'' T T'' vs vs'' (k+k'):=by
 obtain⟨⟨X1,rfl,x1⟩,⟨X2,rfl,x2⟩,⟨X3,rfl⟩,⟨X4,rfl⟩,⟨X5,rfl⟩,a1,a2,a3,a4⟩:=h
 obtain⟨⟨Y1,rfl,y1⟩,⟨Y2,rfl,y2⟩,⟨Y3,rfl⟩,⟨Y4,rfl⟩,⟨Y5,rfl⟩,b1,b2,b3,b4⟩:=g
 refine⟨⟨X1++Y1,by simp,fun o ho=>?_⟩,⟨X2++Y2,by simp,fun o ho=>?_⟩,⟨X3++Y3,by simp⟩,⟨X4++Y4,by simp⟩,⟨X5++Y5,by simp⟩,by omega,by omega,fun o h1 h2 h3 h4=>?_,fun b n e=>?_⟩
 ·rcases List.mem_append.1 ho with ho|ho
  ·exact x1 o ho
  ·exact Nat.le_trans a2 (y1 o ho)
 ·rcases List.mem_append.1 ho with ho|ho
  ·exact x2 o ho
  ·exact Nat.le_trans a2 (y2 o ho)
 ·rw[b3 o (by omega) h2 h3 (fun n e=>?_),a3 o h1 h2 h3 h4]
  rcases a4 o n e with⟨n',e⟩|e
  ·exact h4 n' e
  ·omega
 ·rcases b4 b n e with⟨n',e⟩|e
  ·exact a4 b n' e
  ·exact .inr (by omega)
theorem TQ(o c:Nat)(κ:D->ag):aB ab .eql 74 true (.ptr o c) .nilptr κ=κ (.bool false):=by kernel_rfl
theorem TS(κ:D->ag):aB ab .eql 74 true .nilptr .nilptr κ=κ (.bool true):=by kernel_rfl
theorem Pt(m:Nat)(s:af)(H:DH)(κ:D->ag):fp ab 70 (.map m) (.str s) false H κ=lm H m fun es=>jv (.str s) es fun r=>eH ab 74 false r κ:=by kernel_rfl
theorem Pj(m:Nat)(s:af)(v:D)(H:DH)(κ:DH->ag):gL ab 70 (.map m) (.str s) v H κ=lm H m fun es=>ju (.str s) v es fun es=>κ (H.set m (.map es)):=by kernel_rfl
theorem RM(κ:D->ag):eH ab 74 false none κ=κ .nilptr:=by kernel_rfl
theorem c5(s:af)(n:Int)(κ:List D->ag):(az [.bool true,.str s,.i 0,.nilrow,.nilptr] 2 [.i n] fun b=>ah 5 (.agg b) κ)=κ (fk true s n .nilrow .nilptr):=rfl
theorem So(n:Int)(κ:List D->ag):ah 1 (.i n) κ=κ [.i n]:=rfl
theorem Sp(s o n:Nat)(κ:List D->ag):ah 1 (.buf s o n) κ=κ [.buf s o n]:=rfl
theorem Ux(mo:Nat)(d x:D)(κ:List D->ag):az [.map mo,d] 1 [x] κ=κ [.map mo,x]:=rfl
theorem OF{kind:af->Int}(K:Dy kind)(g:GT (fun n=>kind n==4) H p mo dl os bs N T vs){a:af}(hv:(kind a==4)=true)(hN:N.length<1000000)(b:gi):∃ H' dl' os' N' T' vs' i,aD 23 [.ptr p 0,.agg [.str a,.row 2 b]] H=ret (.ptr (oN os' i) 0) H'/\GT (fun n=>kind n==4) H' p mo dl' os' bs N' T' vs'/\T'[i]? = some (.mk a [])/\IE H H' p mo dl dl' os os' bs bs N N' T T' vs vs' 1/\Cv N N' [i]:=by
 obtain⟨s,hp⟩:=g.pg
 have base:∀ {κ:D->ag} {z},(∀ κ':D->ag,eH ab 74 false ((vs.find? fun v=>a==jU N v).map fun v=>.ptr (oN os v) 0) κ'=κ' z)->(fp ab 70 (.map mo) (.str a) false H κ)=κ z:=fun {κ z} h=>by
  rw[Pt,fJ g.mp,jv,Kh]
  exact h κ
 cases hf:vs.find? fun v=>a==jU N v with
 |some v =>
  have hm:=List.mem_of_find?_eq_some hf
  have hq:=List.find?_some hf
  obtain⟨x,hx,vx⟩:=g.vs2 v hm
  have hn:x.n=a:=by
   have:a=jU N v:=by simpa using hq
   rw[this];simp[jU,hx]
  refine⟨H,dl,os,N,T,vs,v,ev (Tu) ?_,g,by rw[(g.gn.var v x hx vx).1,hn],?_,.refl _ _⟩
  ·rw[aq (lu K a H),hv]
   simp only[ct,Bool.not_true,aj,cond_false]
   rw[ac hp,ak,base (z:=.ptr (oN os v) 0) (fun κ'=>by rw[hf];rfl),TQ]
   simp only[aj,cond_false]
  ·have e:=IE.refl H p mo dl os bs N T vs
   exact { e with ek:=by omega }
 |none =>
  have hlt:p<H.length:=aE hp
  have hmo:mo<H.length:=aE g.mp
  have hpm:p≠mo:=fun e=>by rw[e,g.mp]at hp;cases hp
  obtain⟨dl',H3,u1,u2,u3,u4,u5,u6⟩:=Qw (H:=(H++[DB.cells 0 (fk true a (vs.length:Nat) .nilrow .nilptr)]).set mo (DB.map (vM os N vs++[(D.str a,D.ptr H.length 0)]))) (d:=dl) (l:=vs.map (oN os)) (g.al.chg fun o n e=>by
   have:o<H.length:=by
    rcases g.al with⟨e',_⟩|⟨o',st,cp,e',hb⟩
    ·rw[e']at e;cases e
    ·rw[e']at e;cases e;exact aE hb
   rw[List.getElem?_set_ne (fun q=>by
    rcases g.al with⟨e',_⟩|⟨o',st,cp,e',hb⟩
    ·rw[e']at e;cases e
    ·rw[e']at e;cases e;rw[<- q,g.mp]at hb;cases hb),List.getElem?_append_left this]) (by rw[List.length_map];have:=g.vl;omega) H.length
  have hpl:∀ n,dl≠.buf 1 p n:=fun n e=>by
   rcases g.al with⟨e',_⟩|⟨o',st,cp,e',hb⟩
   ·rw[e']at e;cases e
   ·rw[e']at e;cases e;rw[hp]at hb;cases hb
  have hml:∀ n,dl≠.buf 1 mo n:=fun n e=>by
   rcases g.al with⟨e',_⟩|⟨o',st,cp,e',hb⟩
   ·rw[e']at e;cases e
   ·rw[e']at e;cases e;rw[g.mp]at hb;cases hb
  have hdl:∀ b n,dl=.buf 1 b n->b<H.length:=fun b n e=>by
   rcases g.al with⟨e',_⟩|⟨o',st,cp,e',hb⟩
   ·rw[e']at e;cases e
   ·rw[e']at e;cases e;exact aE hb
  have hlen2:((H++[DB.cells 0 (fk true a (vs.length:Nat) .nilrow .nilptr)]).set mo (DB.map (vM os N vs++[(D.str a,D.ptr H.length 0)]))).length=H.length+1:=by simp
  rw[hlen2]at u3 u4 u5
  have k3:∀ o,o<H.length->o≠mo->(∀ n,dl≠.buf 1 o n)->H3[o]? = H[o]?:=fun o h1 h2 h3=>by
   rw[u4 o (by omega) h3,List.getElem?_set_ne (fun q=>h2 q.symm),List.getElem?_append_left h1]
  have p3:H3[p]? = some (.cells s [.map mo,dl]):=by rw[k3 p hlt hpm hpl,hp]
  have m3:H3[mo]? = some (.map (vM os N vs++[(.str a,.ptr H.length 0)])):=by
   rw[u4 mo (by omega) hml]
   exact bK _ (jS g.mp)
  have n3:H3[H.length]? = some (.cells 0 (fk true a (vs.length:Nat) .nilrow .nilptr)):=by
   rw[u4 H.length (by omega) (fun n e=>by have:=hdl _ _ e;omega),List.getElem?_set_ne (by omega)]
   exact ci _ _
  have k4:∀ o,o<H.length->o≠p->o≠mo->(∀ n,dl≠.buf 1 o n)->(H3.set p (.cells (s+1) [.map mo,dl']))[o]? = H[o]?:=fun o h1 h2 h3 h4=>by
   rw[List.getElem?_set_ne (fun q=>h2 q.symm),k3 o h1 h3 h4]
  obtain⟨lb,ln,hdl',hlb⟩:=u5
  have hp3:p<H3.length:=aE p3
  have nb:∀ b n,dl'=.buf 1 b n->(∃ n',dl=.buf 1 b n')\/H.length+1<=b:=fun b n e=>by
   rw[hdl']at e;cases e;exact hlb
  have osl:∀ o∈os,o<H.length:=fun o ho=>by
   obtain⟨i,hi⟩:=List.getElem?_of_mem ho
   have hl:=aE hi
   obtain⟨s,d,h1,_⟩:=g.ob i _ (List.getElem?_eq_getElem (by rw[<- g.len];exact hl))
   rw[show oN os i=o by unfold oN;rw[hi];rfl]at h1
   exact aE h1
  have osk:∀ o∈os,(H3.set p (.cells (s+1) [.map mo,dl']))[o]? = H[o]?:=fun o ho=>by
   obtain⟨i,hi⟩:=List.getElem?_of_mem ho
   have hl:=aE hi
   obtain⟨s',d,h1,_⟩:=g.ob i _ (List.getElem?_eq_getElem (by rw[<- g.len];exact hl))
   rw[show oN os i=o by unfold oN;rw[hi];rfl]at h1
   refine k4 o (osl o ho) (fun q=>g.np (q▸ho)) (fun q=>by rw[q,g.mp]at h1;cases h1) fun n e=>?_
   rcases g.al with⟨e',_⟩|⟨o',st,cp,e',hb⟩
   ·rw[e']at e;cases e
   ·rw[e']at e;cases e;rw[h1]at hb;cases hb
  have bsk:∀ o∈bs,(∀(i:Nat) (x:bw) d n,d=D.buf 1 o n->True)->True:=fun _ _ _=>trivial
  have fresh:∀(i:Nat) (x:bw),N[i]? = some x->x.v=true->x.n≠a:=fun i x hx vx e=>by
   have hi:=g.vs1 i x hx vx
   have:=List.find?_eq_none.1 hf i hi
   simp[jU,hx,e]at this
  refine⟨H3.set p (.cells (s+1) [.map mo,dl']),dl',os++[H.length],N++[⟨true,a,(vs.length:Nat),[]⟩],T++[.mk a []],vs++[N.length],N.length,ev (Tu) ?_,?_,by rw[<- g.gn.len];simp,?_,(Cv.refl N []).con true a (vs.length:Nat)⟩
  ·rw[aq (lu K a H),hv]
   simp only[ct,Bool.not_true,aj,cond_false]
   rw[ac hp,ak,base (z:=.nilptr) (fun κ'=>by rw[hf];exact RM κ'),TS]
   simp only[aj,cond_true]
   rw[ac hp,aw,ak,g.al.len,List.length_map,So,c5]
   have hp2:(H++[DB.cells 0 (fk true a (vs.length:Nat) .nilrow .nilptr)])[p]? = some (.cells s [.map mo,dl]):=jS hp
   rw[ac hp2,ak,Pj,fJ (jS g.mp),ju,Ke os N a _ vs hf]
   dsimp only
   rw[ac (am _ (fun q=>hpm q.symm) hp2),aw,ak,u1,hdl',Sp,ac p3,Ux,<- hdl']
   rw[<- g.len,rL]
  ·refine⟨by simp[g.len],?_,fun i x hx=>?_,fun i x hx=>?_,g.gn.snocV hv fresh,⟨s+1,bK _ p3⟩,?_,fun b n e hb=>?_,?_,fun i x hx vx=>?_,fun i hi=>?_,fun q=>?_,fun b hb=>?_,by simp;exact g.vl,?_⟩
   ·rw[List.nodup_append]
    exact⟨g.nd,by simp,fun a ha b hb=>by simp at hb;subst hb;intro e;have:=osl a ha;omega⟩
   ·rcases eh hx with hx|⟨rfl,rfl⟩
    ·obtain⟨s',d,h1,h2,h3⟩:=g.ob i x hx
     have hi:i<os.length:=by rw[g.len];exact aE hx
     refine⟨s',d,by rw[Ae hi,osk _ (Aa hi)];exact h1,?_,h3⟩
     have hk:∀ a∈x.a,a<os.length:=fun a ha=>by
      have:=g.gn.kid i x hx a ha
      omega
     rw[fC hk]
     rcases h2 with⟨rfl,e⟩|⟨b,st,cp,rfl,hb⟩
     ·exact .inl ⟨rfl,e⟩
     ·refine .inr ⟨b,st,cp,rfl,?_⟩
      rw[k4 b (aE hb) (fun q=>by rw[q,hp]at hb;cases hb) (fun q=>by rw[q,g.mp]at hb;cases hb) (fun n e=>g.lb b n e (h3 b _ rfl)),hb]
    ·refine⟨0,.nilrow,?_,.inl ⟨rfl,rfl⟩,fun _ _ e=>by cases e⟩
     rw[<- g.len,rL,List.getElem?_set_ne (by omega)]
     exact n3
   ·rcases eh hx with hx|⟨rfl,rfl⟩
    ·exact g.sm i x hx
    ·exact Nat.zero_le _
   ·rw[List.map_append,fC g.vs_lt]
    have:List.map (oN (os++[H.length])) [N.length]=[H.length]:=by rw[<- g.len];simp[rL]
    rw[this]
    refine u2.chg fun o n e=>List.getElem?_set_ne fun q=>?_
    subst q
    rcases nb p n e with⟨n',e⟩|e
    ·exact hpl n' e
    ·omega
   ·rcases nb b n e with⟨n',e⟩|e
    ·exact g.lb b n' e hb
    ·have:=g.bb b hb;omega
   ·rw[List.getElem?_set_ne hpm,m3]
    congr 2
    unfold vM
    rw[List.map_append]
    have e1:=IS (os':=[H.length]) (N':=[⟨true,a,(vs.length:Nat),[]⟩]) g.vs_lt g.len
    unfold vM at e1
    rw[e1]
    congr 1
    simp[jU,<- g.len,rL]
   ·rcases eh hx with hx|⟨rfl,rfl⟩
    ·exact List.mem_append_left _ (g.vs1 i x hx vx)
    ·simp
   ·rcases List.mem_append.1 hi with hi|hi
    ·obtain⟨x,hx,vx⟩:=g.vs2 i hi
     exact⟨x,lq hx,vx⟩
    ·simp at hi;subst hi
     exact⟨⟨true,a,(vs.length:Nat),[]⟩,by simp,rfl⟩
   ·rcases List.mem_append.1 q with q|q
    ·exact g.np q
    ·simp at q;omega
   ·have:=g.bb b hb
    simp;omega
   ·rw[List.nodup_append]
    exact⟨g.vn,by simp,fun a ha b hb=>by simp at hb;subst hb;intro e;have:=g.vs_lt a ha;rw[g.len]at this;omega⟩
  ·refine⟨⟨[H.length],rfl,fun o ho=>by simp at ho;omega⟩,⟨[],by simp,fun _ h=>nomatch h⟩,⟨_,rfl⟩,⟨_,rfl⟩,⟨_,rfl⟩,by simp,by simp;omega,k4,fun b n e=>?_⟩
   rcases nb b n e with h|h
   ·exact .inl h
   ·exact .inr (by omega)
end Go.Proofs.YtenibcfppefobaaGreatDoor
set_option linter.all false
noncomputable section
namespace Go.Proofs.YtenibcfppefobaaGreatDoor
open Go.AI
mutual
def FL(isV:af->Bool):Ty->Prop
 |.mk n xs=>xs.length<=16/\(isV n=true->xs=[])/\xj isV xs
def xj(isV:af->Bool):List Ty->Prop
 |[]=>True
 |t::r=>FL isV t/\xj isV r
end
theorem GO(o c:Nat)(κ:List D->ag):ah 1 (.ptr o c) κ=κ [.ptr o c]:=rfl
theorem SN(v:Bool)(n:af)(o:Int)(d k x:D)(κ:List D->ag):az (fk v n o d k) 3 [x] κ=κ (fk v n o x k):=rfl
theorem bE.lt{H:DH}{d:D}{l:List Nat}(h:bE H d l){b n:Nat}(e:d=.buf 1 b n):b<H.length/\∃ st cp l,H[b]? = some (.buf 1 st cp l):=by
 rcases h with⟨rfl,_⟩|⟨o',st,cp,rfl,hb⟩
 ·cases e
 ·cases e;exact⟨aE hb,_,_,_,hb⟩
structure Uh(isV:af->Bool)(H0 H:DH)(p mo o s:Nat)(nm:af)(d dl0 dl:D)(os0 os bs0 bs:List Nat)(N0 N:List bw)(T0 T:List Ty)(vs0 vs ks:List Nat)(pre:List Ty)(k:Nat):Prop where
 g:GT isV H p mo dl os bs N T vs
 e:IE H0 H p mo dl0 dl os0 os bs0 bs N0 N T0 T vs0 vs k
 ho:H[o]? = some (.cells s (fk false nm 0 d .nilptr))
 hd:bE H d (ks.map (oN os))
 ha:∀ a∈ks,a<N.length
 ht:ks.map (fun a=>T[a]?)=pre.map some
 no:o∉os
 nb:o∉bs
 np:o≠p
 o0:H0.length<=o
 b1:∀ b n,d=.buf 1 b n->b∉bs/\H0.length<=b/\∀ n,dl≠.buf 1 b n
 cv:Cv N0 N ks
mutual
theorem FO{kind:af->Int}(K:Dy kind):∀(t:Ty) (H:DH) (p mo:Nat) (dl:D) (os bs:List Nat) (N:List bw) (T:List Ty) (vs:List Nat),GT (fun n=>kind n==4) H p mo dl os bs N T vs->FL (fun n=>kind n==4) t->N.length+dn t<1000000 ->
 ∃ H' dl' os' bs' N' T' vs' i,aD 23 [.ptr p 0,.agg (cw t)] H=ret (.ptr (oN os' i) 0) H'/\GT (fun n=>kind n==4) H' p mo dl' os' bs' N' T' vs'/\T'[i]? = some t/\IE H H' p mo dl dl' os os' bs bs' N N' T T' vs vs' (dn t)/\Cv N N' [i]
 |.mk n xs,H,p,mo,dl,os,bs,N,T,vs,g,hw,hN=>by
  simp only[FL]at hw
  obtain⟨w1,w2,w3⟩:=hw
  simp only[dn]at hN
  cases hv:kind n==4 with
  |true =>
   obtain rfl:=w2 hv
   obtain⟨H',dl',os',N',T',vs',i,r1,r2,r3,r4,r5⟩:=OF K g hv (by omega) (aJ [])
   exact⟨H',dl',os',bs,N',T',vs',i,r1,r2,r3,by simpa[dn,dn.tszs]using r4,r5⟩
  |false =>
   have hl:∀ o∈os,o<H.length:=fun o ho=>by
    obtain⟨i,hi⟩:=List.getElem?_of_mem ho
    obtain⟨s,d,h1,_⟩:=g.ob i _ (List.getElem?_eq_getElem (by rw[<- g.len];exact aE hi))
    rw[show oN os i=o by unfold oN;rw[hi];rfl]at h1
    exact aE h1
   obtain⟨s,hp⟩:=g.pg
   have g':GT (fun n=>kind n==4) (H++[.cells 0 (fk false n 0 .nilrow .nilptr)]) p mo dl os bs N T vs :=
    g.chg (fun o ho=>List.getElem?_append_left (hl o ho)) (fun o ho=>List.getElem?_append_left (g.bb o ho)) ⟨s,jS hp⟩ (fun o n e=>List.getElem?_append_left (g.al.lt e).1) (List.getElem?_append_left (aE g.mp)) (by simp)
   have e0:=IE.refl H p mo dl os bs N T vs
   have e':IE H (H++[.cells 0 (fk false n 0 .nilrow .nilptr)]) p mo dl dl os os bs bs N N T T vs vs 0:={ e0 with elen:=by simp,efr:=fun o ho _ _ _=>List.getElem?_append_left ho }
   have I:Uh (fun n=>kind n==4) H (H++[.cells 0 (fk false n 0 .nilrow .nilptr)]) p mo H.length 0 n .nilrow dl dl os os bs bs N N T T vs vs [] [] 0 :=
    ⟨g',e',ci _ _,.inl ⟨rfl,rfl⟩,fun _ h=>(nomatch h),rfl,fun h=>Nat.lt_irrefl _ (hl _ h),fun h=>Nat.lt_irrefl _ (g.bb _ h),fun q=>by have:=aE hp;omega,Nat.le_refl _,fun _ _ e=>(by cases e),.refl _ _⟩
   obtain⟨H',dl',os',bs',N',T',vs',i,r1,r2,r3,r4,r5⟩:=xZ K n hv xs w1 xs [] H _ p mo H.length 0 .nilrow dl dl os os bs bs N N T T vs vs [] 0 I rfl w3 (by omega)
   have hk:0+(1+dn.tszs xs)=dn (.mk n xs):=by simp only[dn];omega
   rw[hk]at r4
   refine⟨H',dl',os',bs',N',T',vs',i,ev (by simp only[cw];exact Tu) ?_,r2,r3,r4,r5⟩
   rw[aq (lu K n H),hv]
   simp only[ct,Bool.not_false,aj,cond_true]
   rw[bH]
   exact r1
theorem xZ{kind:af->Int}(K:Dy kind)(nm:af)(hv:(kind nm==4)=false)(xs:List Ty)(h16:xs.length<=16):∀(l pre:List Ty) (H0 H:DH) (p mo o s:Nat) (d dl0 dl:D) (os0 os bs0 bs:List Nat) (N0 N:List bw) (T0 T:List Ty) (vs0 vs ks:List Nat) (k:Nat),
 Uh (fun n=>kind n==4) H0 H p mo o s nm d dl0 dl os0 os bs0 bs N0 N T0 T vs0 vs ks pre k->xs=pre++l->xj (fun n=>kind n==4) l->N.length+dn.tszs l<1000000 ->
 ∃ H' dl' os' bs' N' T' vs' i,ae ai 23 200004 [.g (.ptr p 0),.g (.ptr o 0),.g (.row 2 (aJ xs)),.n (xs.length:Nat),.n (pre.length:Nat)] [] H=ret (.ptr (oN os' i) 0) H'/\GT (fun n=>kind n==4) H' p mo dl' os' bs' N' T' vs'/\T'[i]? = some (.mk nm xs)/\IE H0 H' p mo dl0 dl' os0 os' bs0 bs' N0 N' T0 T' vs0 vs' (k+(1+dn.tszs l))/\Cv N0 N' [i]
 |[],pre,H0,H,p,mo,o,s,d,dl0,dl,os0,os,bs0,bs,N0,N,T0,T,vs0,vs,ks,k,I,e,hw,hN=>by
  have hks:ks.length=pre.length:=by have:=congrArg List.length I.ht;simpa using this
  have hxs:xs=pre:=by rw[e];simp
  obtain⟨B,hB1,hB2⟩:∃ B:List Nat,(∀ b n,d=.buf 1 b n->b∈B)/\∀ b∈B,∃ n,d=.buf 1 b n:=by
   rcases I.hd with⟨rfl,_⟩|⟨b,st,cp,rfl,hb⟩
   ·exact⟨[],(fun _ _ e=>by cases e),(fun _ h=>nomatch h)⟩
   ·exact⟨[b],⟨fun _ _ e=>by cases e;simp,fun b' h=>by simp at h;subst h;exact⟨_,rfl⟩⟩⟩
  have g2:=I.g.snocC (o:=o) hv I.ho I.hd I.no I.np I.ha (by rw[hks,<- hxs];exact h16) I.ht hB1 fun b hb=>by
   obtain⟨n,e⟩:=hB2 b hb
   exact⟨(I.hd.lt e).1,(I.b1 b n e).2.2⟩
  refine⟨H,dl,os++[o],bs++B,_,_,vs,N.length,eL (wh) ?_,g2,by rw[<- I.g.gn.len,hxs];simp,?_,I.cv.con false nm 0⟩
  ·have hlt:decide ((pre.length:Int)<(xs.length:Int))=false:=by rw[hxs];simp
   rw[hlt,cond_false,<- I.g.len,rL]
  ·obtain⟨⟨X1,q1,x1⟩,⟨X2,q2,x2⟩,⟨X3,q3⟩,⟨X4,q4⟩,q5,q6,q7,q8,q9⟩:=I.e
   refine⟨⟨X1++[o],by rw[q1];simp,fun o' ho'=>?_⟩,⟨X2++B,by rw[q2];simp,fun b hb=>?_⟩,⟨X3++[⟨false,nm,0,ks⟩],by rw[q3];simp⟩,⟨X4++[.mk nm pre],by rw[q4];simp⟩,q5,by simp[dn.tszs];omega,q7,q8,q9⟩
   ·rcases List.mem_append.1 ho' with h|h
    ·exact x1 o' h
    ·simp at h;rw[h];exact I.o0
   ·rcases List.mem_append.1 hb with h|h
    ·exact x2 b h
    ·obtain⟨n,e⟩:=hB2 b h
     exact(I.b1 b n e).2.1
 |t::l,pre,H0,H,p,mo,o,s,d,dl0,dl,os0,os,bs0,bs,N0,N,T0,T,vs0,vs,ks,k,I,e,hw,hN=>by
  simp only[xj]at hw
  simp only[dn.tszs]at hN
  obtain⟨H1,dl1,os1,bs1,N1,T1,vs1,i,r1,g1,r3,e1,c1⟩:=FO K t H p mo dl os bs N T vs I.g hw.1 (by omega)
  have hks:ks.length=pre.length:=by have:=congrArg List.length I.ht;simpa using this
  have hxl:xs.length=pre.length+(l.length+1):=by rw[e];simp
  have hoH:=aE I.ho
  have omo:o≠mo:=fun q=>by have:=I.ho;rw[q,I.g.mp]at this;cases this
  have dlo:∀ n,dl≠.buf 1 o n:=fun n q=>by obtain⟨_,st,cp,l,hb⟩:=I.g.al.lt q;rw[I.ho]at hb;cases hb
  have o1:H1[o]? = some (.cells s (fk false nm 0 d .nilptr)):=by rw[e1.efr o hoH I.np omo dlo,I.ho]
  have dk:∀ b n,d=.buf 1 b n->H1[b]? = H[b]?/\b<H.length:=fun b n q=>by
   obtain⟨hbl,st,cp,l,hb⟩:=I.hd.lt q
   obtain⟨s',hp⟩:=I.g.pg
   exact⟨e1.efr b hbl (fun q'=>by rw[q',hp]at hb;cases hb) (fun q'=>by rw[q',I.g.mp]at hb;cases hb) (I.b1 b n q).2.2,hbl⟩
  have hko:∀ a∈ks,a<os.length:=fun a h=>by rw[I.g.len];exact I.ha a h
  have osm:ks.map (oN os1)=ks.map (oN os):=by
   obtain⟨X,q,_⟩:=e1.eos
   rw[q];exact fC hko
  have d1:bE H1 d (ks.map (oN os1)):=by rw[osm];exact I.hd.chg fun b n q=>(dk b n q).1
  obtain⟨d2,H2,u1,u2,u3,u4,⟨b2,n2,hd2,hb2⟩,u6⟩:=Qw d1 (by rw[List.length_map];omega) (oN os1 i)
  have kp:∀ x:Nat,x<H1.length->(∀ n,d≠.buf 1 x n)->x≠o->(H2.set o (.cells (s+1) (fk false nm 0 d2 .nilptr)))[x]? = H1[x]?:=fun x h1 h2 h3=>by
   rw[List.getElem?_set_ne (fun q=>h3 q.symm),u4 x h1 h2]
  have o2:H2[o]? = some (.cells s (fk false nm 0 d .nilptr)):=by
   rw[u4 o (aE o1) (fun n q=>by obtain⟨_,st,cp,l,hb⟩:=I.hd.lt q;rw[I.ho]at hb;cases hb),o1]
  have no1:o∉os1:=fun h=>by
   obtain⟨X,q,x⟩:=e1.eos
   rw[q]at h
   rcases List.mem_append.1 h with h|h
   ·exact I.no h
   ·have:=x o h;omega
  have nb1:o∉bs1:=fun h=>by
   obtain⟨X,q,x⟩:=e1.ebs
   rw[q]at h
   rcases List.mem_append.1 h with h|h
   ·exact I.nb h
   ·have:=x o h;omega
  have db:∀ b n,d=.buf 1 b n->b∉bs1:=fun b n q h=>by
   obtain⟨X,q',x⟩:=e1.ebs
   rw[q']at h
   rcases List.mem_append.1 h with h|h
   ·exact(I.b1 b n q).1 h
   ·have:=x b h;have:=(dk b n q).2;omega
  have dd:∀ b n,d=.buf 1 b n->∀ n',dl1≠.buf 1 b n':=fun b n q n' q'=>by
   rcases e1.edl b n' q' with⟨n2,h⟩|h
   ·exact(I.b1 b n q).2.2 n2 h
   ·have:=(dk b n q).2;omega
  obtain⟨sp,hp1⟩:=g1.pg
  have cellsNe:∀ x:Nat,(∃ s c,H1[x]? = some (.cells s c))->∀ n,d≠.buf 1 x n:=fun x ⟨s,c,h⟩ n q=>by
   obtain⟨_,st,cp,l,hb⟩:=d1.lt q
   rw[h]at hb;cases hb
  have osc:∀ x∈os1,∃ s c,H1[x]? = some (.cells s c):=fun x hx=>by
   obtain⟨j,hj⟩:=List.getElem?_of_mem hx
   obtain⟨s,d,h1,_⟩:=g1.ob j _ (List.getElem?_eq_getElem (by rw[<- g1.len];exact aE hj))
   rw[show oN os1 j=x by unfold oN;rw[hj];rfl]at h1
   exact⟨s,_,h1⟩
  have g2:GT (fun n=>kind n==4) (H2.set o (.cells (s+1) (fk false nm 0 d2 .nilptr))) p mo dl1 os1 bs1 N1 T1 vs1:=by
   refine g1.chg (fun x hx=>?_) (fun x hx=>?_) ⟨sp,?_⟩ (fun x n q=>?_) ?_ (by simp;exact u3)
   ·obtain⟨s,c,h⟩:=osc x hx
    exact kp x (aE h) (cellsNe x ⟨s,c,h⟩) fun q=>no1 (q▸hx)
   ·exact kp x (g1.bb x hx) (fun n q=>db x n q hx) fun q=>nb1 (q▸hx)
   ·rw[kp p (aE hp1) (cellsNe p ⟨_,_,hp1⟩) fun q=>I.np q.symm,hp1]
   ·obtain⟨h1,st,cp,l,hb⟩:=g1.al.lt q
    exact kp x h1 (fun n' q'=>dd x n' q' n q) fun q'=>by rw[q',o1]at hb;cases hb
   ·exact kp mo (aE g1.mp) (fun n q=>by obtain⟨_,st,cp,l,hb⟩:=d1.lt q;rw[g1.mp]at hb;cases hb) fun q=>omo q.symm
  have i1:i<N1.length:=by rw[<- g1.gn.len];exact aE r3
  have I2:Uh (fun n=>kind n==4) H0 (H2.set o (.cells (s+1) (fk false nm 0 d2 .nilptr))) p mo o (s+1) nm d2 dl0 dl1 os0 os1 bs0 bs1 N0 N1 T0 T1 vs0 vs1 (ks++[i]) (pre++[t]) (k+dn t):=by
   have e2:=I.e.trans e1
   refine⟨g2,{ e2 with elen:=by have:=e2.elen;simp;omega,efr:=fun x h1 h2 h3 h4=>?_ },bK _ o2,?_,fun a h=>?_,?_,no1,nb1,I.np,I.o0,fun b n q=>?_,I.cv.snoc c1 e1.eN⟩
   ·have l0:=I.e.elen
    have l1:=e1.elen
    have l2:=I.o0
    rw[kp x (by omega) (fun n q=>by have:=(I.b1 x n q).2.1;omega) (by omega),e2.efr x h1 h2 h3 h4]
   ·rw[List.map_append]
    refine bE.chg (H:=H2) u2 fun b n q=>List.getElem?_set_ne fun q'=>?_
    obtain⟨_,st,cp,l,hb⟩:=u2.lt q
    rw[<- q',o2]at hb;cases hb
   ·rcases List.mem_append.1 h with h|h
    ·obtain⟨X,q⟩:=e1.eN
     have:=I.ha a h
     rw[q];simp;omega
    ·simp at h;rw[h];exact i1
   ·obtain⟨X,q⟩:=e1.eT
    rw[List.map_append,List.map_append]
    congr 1
    ·rw[<- I.ht,q]
     refine List.map_congr_left fun a ha=>List.getElem?_append_left ?_
     rw[I.g.gn.len];exact I.ha a ha
    ·simp[r3]
   ·rw[hd2]at q;cases q
    rcases hb2 with⟨n',q⟩|q
    ·exact⟨db _ n' q,(I.b1 _ n' q).2.1,dd _ n' q⟩
    ·refine⟨fun h=>by have:=g1.bb _ h;omega,by have:=I.e.elen;have:=e1.elen;omega,fun n q'=>?_⟩
     have:=(g1.al.lt q').1
     omega
  obtain⟨H',dl',os',bs',N',T',vs',j,w1,w2,w3,w4,w5⟩:=xZ K nm hv xs h16 l (pre++[t]) H0 _ p mo o (s+1) d2 dl0 dl1 os0 os1 bs0 bs1 N0 N1 T0 T1 vs0 vs1 (ks++[i]) (k+dn t) I2 (by rw[e];simp) hw.2 (by have:=e1.ek;omega)
  have hk:k+(1+dn.tszs (t::l))=k+dn t+(1+dn.tszs l):=by simp only[dn.tszs];omega
  refine⟨H',dl',os',bs',N',T',vs',j,eL (wh) ?_,w2,w3,(by rw[hk];exact w4),w5⟩
  have hlt:decide ((pre.length:Int)<(xs.length:Int))=true:=by rw[hxl];simp;omega
  have h2:(aJ xs)[pre.length]? = some (cw t):=by rw[e];exact gG _ _ _
  have hw2:eg ((pre.length:Int)+1)=(((pre++[t]).length:Nat):Int):=by
   rw[bT (by omega)];simp
  obtain⟨tn,ts⟩:=t
  simp only[cw]at h2 r1
  rw[hlt,cond_true,bC,bm h2]
  simp only[ak,aw]
  rw[Sg r1,ac (mT o1 (fun H3 h=>by simp at h;subst h;exact I.ho))]
  simp only[fk,ak,aw]
  rw[GO,u1,hd2,Sp,ac o2,SN,<- hd2,hw2]
  exact w1
end
end Go.Proofs.YtenibcfppefobaaGreatDoor
set_option linter.all false
noncomputable section
namespace Go.Proofs.YtenibcfppefobaaGreatDoor
open Go.AI
def nQ(kind:af->Int)(n:af)(k:Nat):Bool:=if n==[73,110,116] then k==0 else if n==[45,62] then k==2 else if n==[44] then decide (2<=k)&&decide (k<=4)else if kind n==4&&k==0 then true else kind n==3&&decide (k<=16)
mutual
def mD(kind:af->Int)(d:Nat):Ty->Nat->Option Nat
 |.mk n xs,c=>if nQ kind n xs.length=true/\c+1<=2000/\d<=100 then iQ kind (d+1) xs (c+1)else none
def iQ(kind:af->Int)(d:Nat):List Ty->Nat->Option Nat
 |[],c=>some c
 |t::r,c=>match mD kind d t c with
  |some c'=>iQ kind d r c'
  |none=>none
end
def Bm(H:DH)(p:Nat)(x:D)(t:Ty):Prop:=x=.eptr (cw t) 0\/∃ o s,x=.ptr o 0/\o≠p/\H[o]? = some (.cells s (cw t))
theorem Uy(cs:List D)(c:Nat)(H:DH)(κ:D->ag):ft ab 9 (.eptr cs c) H κ=aC cs c κ:=by kernel_rfl
theorem SU(o c:Nat)(H:DH)(κ:D->ag):ft ab 9 (.ptr o c) H κ=aF H o fun _ cs=>aC cs c κ:=by kernel_rfl
theorem SW(cs:List D)(c:Nat)(H:DH)(κ:D->ag):ft ab 22 (.eptr cs c) H κ=aC cs c κ:=by kernel_rfl
theorem SV(o c:Nat)(H:DH)(κ:D->ag):ft ab 22 (.ptr o c) H κ=aF H o fun _ cs=>aC cs c κ:=by kernel_rfl
theorem Bm.n{H:DH}{p:Nat}{x:D}{n:af}{xs:List Ty}(h:Bm H p x (.mk n xs))(κ:D->ag):(eu x fun a=>dt a 0 fun a=>ft ab 9 a H κ)=κ (.str n):=by
 rcases h with rfl|⟨o,s,rfl,_,h⟩
 ·simp only[eu,dt,Uy,cw,Nat.add_zero,ak]
 ·simp only[eu,dt,SU,Nat.add_zero,ac h,cw,ak]
theorem Bm.a{H:DH}{p:Nat}{x:D}{n:af}{xs:List Ty}(h:Bm H p x (.mk n xs))(κ:D->ag):(eu x fun a=>dt a 1 fun a=>ft ab 22 a H κ)=κ (.row 2 (aJ xs)):=by
 rcases h with rfl|⟨o,s,rfl,_,h⟩
 ·simp only[eu,dt,SW,cw,Nat.zero_add,ak,aw]
 ·simp only[eu,dt,SV,Nat.zero_add,ac h,cw,ak,aw]
theorem Bm.set{H:DH}{p:Nat}{x:D}{t:Ty}(h:Bm H p x t)(y:DB):Bm (H.set p y) p x t:=by
 rcases h with rfl|⟨o,s,rfl,hn,h⟩
 ·exact .inl rfl
 ·exact .inr ⟨o,s,rfl,hn,by rw[List.getElem?_set_ne (fun q=>hn q.symm),h]⟩
theorem Od(l:gi)(H:DH)(κ:D->ag):fq ab 22 (.row 2 l) H κ=κ (.i l.length):=by kernel_rfl
theorem Uu:ab.underlying 22=some (.slice 27):=by kernel_rfl
theorem Sy:size ab 27=some 2:=by kernel_rfl
theorem Ti{l:gi}{i:Nat}{cs:List D}(h:l[i]? = some cs)(κ:D->ag):dF ab 22 (.row 2 l) (.i i) κ=κ (.eptr cs 0):=by
 rw[dF,Uu]
 simp only[Sy,HL,Nat.beq_refl,cond_true,bC,bm h]
theorem Bw{n:Nat}(h:n<2^62):eg ((n:Int)+1)=((n+1:Nat):Int):=bT h
mutual
theorem KE{kind:af->Int}(K:Dy kind):∀(t:Ty) (H:DH) (x:D) (d c p s:Nat),Bm H p x t->H[p]? = some (.cells s [.i (c:Nat)])->c<=2000->d<=101->t.ok ->
 ∃ s' c':Nat,aD 22 [x,.i (d:Nat),.ptr p 0] H=ret (.bool (mD kind d t c).isSome) (H.set p (.cells s' [.i (c':Nat)]))/\∀ k,mD kind d t c=some k->c'=k/\k<=2000
 |.mk n xs,H,x,d,c,p,s,hx,hp,hc,hd,hok=>by
  simp only[Ty.ok]at hok
  have hx1:=hx.set (.cells (s+1) [.i ((c+1:Nat):Int)])
  have hp1:=bK (.cells (s+1) [.i ((c+1:Nat):Int)]) hp
  have hl:(aJ xs).length=xs.length:=bH xs
  have o1:∀(v w:Int) (κ:List D->ag),az [D.i v] 0 [.i w] κ=κ [.i w]:=fun _ _ _=>rfl
  have f1:∀ z,ae ai 22 12 [.g x,.n (d:Nat),.g (.ptr p 0),.g (.bool (nQ kind n xs.length))] [] (H.set p (.cells (s+1) [.i ((c+1:Nat):Int)]))=z->aD 22 [x,.i (d:Nat),.ptr p 0] H=z:=fun z hz=>by
   refine ev (UN) ?_
   rw[ac hp,ak,dN,Bw (by omega),So,ac hp,o1]
   dsimp only
   rw[hx1.a,Od,hx1.n,hl,<- hz,kG]
   unfold nQ
   by_cases e1:n=[73,110,116]
   ·have:(n==[73,110,116])=true:=by rw[e1];rfl
    simp only[this,aj,cond_true,if_true,bS]
    rw[show(((xs.length:Nat):Int)==0)=(xs.length==0)from by rw[Bool.eq_iff_iff];simp]
   ·have:(n==[73,110,116])=false:=by simpa using e1
    rw[this]
    simp only[aj,cond_false,Bool.false_eq_true,if_false,kG]
    by_cases e2:n=[45,62]
    ·have:(n==[45,62])=true:=by rw[e2];rfl
     simp only[this,aj,cond_true,if_true,bS]
     rw[show(((xs.length:Nat):Int)==2)=(xs.length==2)from by rw[Bool.eq_iff_iff];simp;omega]
    ·have:(n==[45,62])=false:=by simpa using e2
     rw[this]
     simp only[aj,cond_false,Bool.false_eq_true,if_false]
     by_cases e3:n=[44]
     ·have:(n==[44])=true:=by rw[e3];rfl
      simp only[this,aj,cond_true,if_true,ue,GX]
      by_cases e4:2<=xs.length
      ·have h1:decide ((xs.length:Int)>=2)=true:=by simp;omega
       have h2:decide (2<=xs.length)=true:=by simpa using e4
       rw[h1,h2]
       simp only[cond_true,Bool.true_and]
       rw[show decide (((xs.length:Nat):Int)<=4)=decide (xs.length<=4)from by rw[Bool.eq_iff_iff];simp;omega]
      ·have h1:decide ((xs.length:Int)>=2)=false:=by simp;omega
       have h2:decide (2<=xs.length)=false:=by simpa using e4
       rw[h1,h2]
       simp only[cond_false,Bool.false_and]
     ·have:(n==[44])=false:=by simpa using e3
      rw[this]
      simp only[aj,cond_false,Bool.false_eq_true,if_false]
      rw[hx1.n,aq (lu K n _)]
      have c2:(eu x fun b=>dt b 0 fun b=>ft ab 9 b (H.set p (.cells (s+1) [.i ((c+1:Nat):Int)])) fun b=>C ai 55 [b] (H.set p (.cells (s+1) [.i ((c+1:Nat):Int)])) fun b H_1=>brD b (aB ab .leq 3 true (.i (xs.length:Nat)) (.i 16) fun a=>ae ai 22 12 [.g x,.n (d:Nat),.g (.ptr p 0),.g a] [] H_1) (ae ai 22 12 [.g x,.n (d:Nat),.g (.ptr p 0),.g (.bool false)] [] H_1))=ae ai 22 12 [.g x,.n (d:Nat),.g (.ptr p 0),.g (.bool (kind n==3&&decide (xs.length<=16)))] [] (H.set p (.cells (s+1) [.i ((c+1:Nat):Int)])):=by
       rw[hx1.n,aq (MU K n _),aj,GX]
       cases kind n==3 with
       |false=>simp only[cond_false,Bool.false_and]
       |true =>
        simp only[cond_true,Bool.true_and]
        rw[show decide (((xs.length:Nat):Int)<=16)=decide (xs.length<=16)from by rw[Bool.eq_iff_iff];simp;omega]
      cases hv:kind n==4 with
      |false =>
       simp only[aj,cond_false,Bool.false_and,Bool.false_eq_true,if_false]
       exact c2
      |true =>
       simp only[aj,cond_true,Bool.true_and,bS]
       by_cases e4:xs.length=0
       ·have h1:(((xs.length:Nat):Int)==0)=true:=by simp[e4]
        have h2:(xs.length==0)=true:=by simp[e4]
        rw[h1,h2]
        simp only[cond_true,if_true]
       ·have h1:(((xs.length:Nat):Int)==0)=false:=by simp;intro q;rw[q]at e4;exact e4 rfl
        have h2:(xs.length==0)=false:=by simp;intro q;rw[q]at e4;exact e4 rfl
        rw[h1,h2]
        simp only[cond_false,Bool.false_eq_true,if_false]
        exact c2
  unfold mD
  by_cases h1:nQ kind n xs.length=true
  ·by_cases h2:c+1<=2000
   ·by_cases h3:d<=100
    ·rw[if_pos ⟨h1,h2,h3⟩]
     obtain⟨s',c',r1,r2⟩:=Cq K n xs hok.1 xs [] (H.set p (.cells (s+1) [.i ((c+1:Nat):Int)])) x d (c+1) p (s+1) hx1 hp1 h2 h3 rfl hok.2
     refine⟨s',c',f1 _ (eL (AJ) ?_),r2⟩
     rw[h1]
     have g1:decide ((((c+1:Nat)):Int)>2000)=false:=by simp;omega
     have g2:decide (((d:Nat):Int)>100)=false:=by simp;omega
     simp only[Bool.not_true,cond_false]
     rw[ac hp1,ak,gh,g1]
     simp only[aj,cond_false]
     rw[g2,cond_false,hx1.a,Od,hl]
     rw[List.set_set]at r1
     exact r1
    ·rw[if_neg (fun q=>h3 q.2.2)]
     refine⟨s+1,c+1,f1 _ (eL (AJ) ?_),fun k e=>by cases e⟩
     rw[h1]
     have g1:decide ((((c+1:Nat)):Int)>2000)=false:=by simp;omega
     have g2:decide (((d:Nat):Int)>100)=true:=by simp;omega
     simp only[Bool.not_true,cond_false]
     rw[ac hp1,ak,gh,g1]
     simp only[aj,cond_false]
     rw[g2,cond_true]
     rfl
   ·rw[if_neg (fun q=>h2 q.2.1)]
    refine⟨s+1,c+1,f1 _ (eL (AJ) ?_),fun k e=>by cases e⟩
    rw[h1]
    have g1:decide ((((c+1:Nat)):Int)>2000)=true:=by simp;omega
    simp only[Bool.not_true,cond_false]
    rw[ac hp1,ak,gh,g1]
    simp only[aj,cond_true]
    rfl
  ·rw[if_neg (fun q=>h1 q.1)]
   refine⟨s+1,c+1,f1 _ (eL (AJ) ?_),fun k e=>by cases e⟩
   have:nQ kind n xs.length=false:=by simpa using h1
   rw[this]
   simp only[Bool.not_false,cond_true]
   rfl
theorem Cq{kind:af->Int}(K:Dy kind)(n:af)(xs:List Ty)(h62:xs.length<2^62):∀(l pre:List Ty) (H:DH) (x:D) (d c p s:Nat),Bm H p x (.mk n xs)->H[p]? = some (.cells s [.i (c:Nat)])->c<=2000->d<=100->xs=pre++l->Ty.oks l ->
 ∃ s' c':Nat,ae ai 22 200015 [.g x,.n (d:Nat),.g (.ptr p 0),.n (xs.length:Nat),.n (pre.length:Nat)] [] H=ret (.bool (iQ kind (d+1) l c).isSome) (H.set p (.cells s' [.i (c':Nat)]))/\∀ k,iQ kind (d+1) l c=some k->c'=k/\k<=2000
 |[],pre,H,x,d,c,p,s,hx,hp,hc,hd,e,hok=>by
  refine⟨s,c,eL (wi) ?_,fun k e=>by cases e;exact⟨rfl,hc⟩⟩
  have hlt:decide ((pre.length:Int)<(xs.length:Int))=false:=by rw[e];simp
  rw[hlt,cond_false,ST hp]
  rfl
 |t::l,pre,H,x,d,c,p,s,hx,hp,hc,hd,e,hok=>by
  simp only[Ty.oks]at hok
  have hlt:decide ((pre.length:Int)<(xs.length:Int))=true:=by rw[e];simp;omega
  have h2:(aJ xs)[pre.length]? = some (cw t):=by rw[e];exact gG _ _ _
  have hw2:eg ((pre.length:Int)+1)=(((pre++[t]).length:Nat):Int):=by
   rw[bT (by
    have:xs.length=pre.length+(l.length+1):=by rw[e];simp
    omega)];simp
  obtain⟨s1,c1,r1,r2⟩:=KE K t H (.eptr (cw t) 0) (d+1) c p s (.inl rfl) hp hc (by omega) hok.1
  have st:∀ z,(cond (mD kind (d+1) t c).isSome (ae ai 22 200015 [.g x,.n (d:Nat),.g (.ptr p 0),.n (xs.length:Nat),.n ((pre++[t]).length:Nat)] [] (H.set p (.cells s1 [.i (c1:Nat)]))) (ret (.bool false) (H.set p (.cells s1 [.i (c1:Nat)]))))=z->ae ai 22 200015 [.g x,.n (d:Nat),.g (.ptr p 0),.n (xs.length:Nat),.n (pre.length:Nat)] [] H=z:=fun z hz=>by
   refine eL (wi) ?_
   rw[hlt,cond_true,hx.a,Ti h2,Bw (by omega),aq r1]
   simp only[ct,aj]
   rw[hw2,<- hz]
   cases (mD kind (d+1) t c).isSome<;>simp only[Bool.not_true,Bool.not_false,cond_true,cond_false]
  unfold iQ
  cases q:mD kind (d+1) t c with
  |none =>
   refine⟨s1,c1,st _ ?_,fun k e=>by cases e⟩
   rw[q]
   rfl
  |some c2 =>
   obtain⟨e1,e2⟩:=r2 c2 q
   subst e1
   obtain⟨s3,c3,t1,t2⟩:=Cq K n xs h62 l (pre++[t]) (H.set p (.cells s1 [.i (c1:Nat)])) x d c1 p s1 (hx.set _) (bK _ hp) e2 hd (by rw[e];simp) hok.2
   refine⟨s3,c3,st _ ?_,t2⟩
   rw[q,Option.isSome_some,cond_true]
   rw[List.set_set]at t1
   exact t1
end
def bh(kind:af->Int)(t:Ty):Nat:=(mD kind 1 t 0).getD 0
theorem nj{kind:af->Int}(K:Dy kind)(t:Ty)(H:DH)(hok:t.ok):∃ X,aD 7 [.agg (cw t)] H=ret (.i (bh kind t:Nat)) (H++X):=by
 obtain⟨n,xs⟩:=t
 have o1:∀(v w:Int) (κ:List D->ag),az [D.i v] 0 [.i w] κ=κ [.i w]:=fun _ _ _=>rfl
 have hl:(H++[DB.cells 0 (cw (.mk n xs))]).length=H.length+1:=by simp
 have a1:(H++[DB.cells 0 (cw (.mk n xs))]++[DB.cells (0+1) [.i ((0:Nat):Int)]])[H.length]? = some (.cells 0 (cw (.mk n xs))):=jS (ci _ _)
 have a2:(H++[DB.cells 0 (cw (.mk n xs))]++[DB.cells (0+1) [.i ((0:Nat):Int)]])[H.length+1]? = some (.cells (0+1) [.i ((0:Nat):Int)]):=by rw[<- hl];exact ci _ _
 obtain⟨s',c',r1,r2⟩:=KE K (.mk n xs) _ (.ptr H.length 0) 1 0 (H.length+1) (0+1) (.inr ⟨H.length,0,rfl,by omega,a1⟩) a2 (by omega) (by omega) hok
 have hs:∀ y:DB,(H++[DB.cells 0 (cw (.mk n xs))]++[DB.cells (0+1) [.i ((0:Nat):Int)]]).set (H.length+1) y=H++[DB.cells 0 (cw (.mk n xs)),y]:=fun y=>by
  rw[<- hl,nl];simp
 refine⟨[DB.cells 0 (cw (.mk n xs)),.cells s' [.i (c':Nat)]],ev (by simp only[cw];exact f7) ?_⟩
 dsimp only
 rw[ac (ci _ _),o1,nl]
 simp only[cw]at hl r1
 rw[show((1:Nat):Int)=1 from rfl,show((0:Nat):Int)=0 from rfl]at r1
 rw[hl]
 rw[aq r1]
 simp only[ct,aj]
 have hs:=hs (.cells s' [.i (c':Nat)])
 simp only[cw]at hs
 rw[show((0:Nat):Int)=0 from rfl]at hs
 rw[hs]
 unfold bh
 cases q:mD kind 1 (.mk n xs) 0 with
 |none=>rfl
 |some k =>
  obtain⟨rfl,_⟩:=r2 k q
  simp only[Option.isSome_some,Bool.not_true,cond_false,Option.getD_some]
  rw[ac (show(H++[DB.cells 0 [.str n,.row 2 (aJ xs)],.cells s' [.i (c':Nat)]])[H.length+1]? = some (.cells s' [.i (c':Nat)])from by rw[List.getElem?_append_right (by omega)];simp),ak]
  simp only[cw]
end Go.Proofs.YtenibcfppefobaaGreatDoor
set_option linter.all false
noncomputable section
namespace Go.Proofs.YtenibcfppefobaaGreatDoor
open Go.AI
def Ac(H:DH)(b sz:Nat)(l:gi)(d:D):Prop:=(d=.nilrow/\l=[])\/∃ o,b<=o/\d=.buf sz o l.length/\H[o]? = some (.buf sz true false l)
structure Ui(b:Nat)(H H':DH):Prop where
 len:H.length<=H'.length
 at':∀ o,o<b->H'[o]? = H[o]?
 nb:∀ o,o<H.length->(∀ st cp l,H[o]?≠some (.buf 2 st cp l))->H'[o]? = H[o]?
theorem DX{m:Nat}(h:m<=4194304):br ab 27 m=true:=by
 have e:br ab 27 m=(Nat.ble (40*(m+Nat.div m 4+600)) 281474976710656&&Nat.ble m 4611686018427387904):=by kernel_rfl
 rw[e,Bool.and_eq_true]
 have h1:Nat.div m 4<=m:=Nat.div_le_self m 4
 exact⟨Nat.ble_eq_true_of_le (by omega),Nat.ble_eq_true_of_le (by omega)⟩
theorem Ac.add{H:DH}{b:Nat}{l:gi}{d:D}(h:Ac H b 2 l d)(hb:b<=H.length)(hl:l.length<4194304)(x:List D):∃ d' H',(∀ κ:D->DH->ag,fN (br ab 27) 2 d [x] H κ=κ d' H')/\Ac H' b 2 (l++[x]) d'/\Ui b H H'/\∃ o n,d'=.buf 2 o n:=by
 rcases h with⟨rfl,rfl⟩|⟨o,ho,rfl,h⟩
 ·refine⟨.buf 2 H.length 1,H++[.buf 2 true false [x]],fun κ=>?_,.inr ⟨H.length,hb,rfl,ci _ _⟩,⟨by simp,fun o h=>List.getElem?_append_left (by omega),fun o h _=>List.getElem?_append_left h⟩,_,_,rfl⟩
  simp only[fN,List.length_singleton,DX (show 1<=4194304 by decide),boK,cond_true]
  rfl
 ·refine⟨.buf 2 o (l++[x]).length,H.set o (.buf 2 true false (l++[x])),fun κ=>?_,.inr ⟨o,ho,rfl,bK _ h⟩,⟨by simp,fun o' h=>List.getElem?_set_ne (by omega),fun o' _ q=>List.getElem?_set_ne (fun e=>q _ _ _ (e▸h))⟩,_,_,rfl⟩
  have h4:=fc h (κ:=fun _ st cap l2=>boK (br ab 27 (l2.length+1)&&!(cap&&List.isEmpty [x])) (grow o 2 st cap l2 [x] H κ))
  simp only[fN,List.length_singleton,DX (show 1<=4194304 by decide),boK,cond_true,Nat.beq_refl]
  refine Eq.trans h4 ?_
  rw[DX (by omega)]
  simp only[List.isEmpty_cons,Bool.and_false,Bool.not_false,Bool.and_self,boK,cond_true,grow,cond_false]
  simp
theorem Ac.fz{H:DH}{b:Nat}{l:gi}{d:D}(h:Ac H b 2 l d):∃ H',(∀ κ:D->DH->ag,ij (.fz 2) d H κ=κ (.row 2 l) H')/\Ui b H H':=by
 rcases h with⟨rfl,rfl⟩|⟨o,ho,rfl,h⟩
 ·exact⟨H,fun _=>rfl,Nat.le_refl _,fun _ _=>rfl,fun _ _ _=>rfl⟩
 ·refine⟨H.set o (.buf 2 false false l),fun κ=>?_,by simp,fun o' h=>List.getElem?_set_ne (by omega),fun o' _ q=>List.getElem?_set_ne (fun e=>q _ _ _ (e▸h))⟩
  rw[ij,fc h]
  rfl
mutual
def IK:Ty->Nat
 |.mk _ xs=>1+wt xs
def wt:List Ty->Nat
 |[]=>0
 |t::r=>max (IK t) (wt r)
end
structure Ep(H H':DH)(os:List Nat)(p:Nat):Prop where
 len:H.length<=H'.length
 at':∀ o:Nat,o<H.length->o∉os->o≠p->H'[o]? = H[o]?
theorem Ep.trans{H H' H'':DH}{os:List Nat}{p:Nat}(h:Ep H H' os p)(k:Ep H' H'' os p):Ep H H'' os p:=⟨Nat.le_trans h.len k.len,fun o h1 h2 h3=>by rw[k.at' o (Nat.lt_of_lt_of_le h1 h.len) h2 h3,h.at' o h1 h2 h3]⟩
theorem uo.ep{H H':DH}{os:List Nat}{p:Nat}(h:uo H H' os):Ep H H' os p:=⟨h.len,fun o h1 h2 _=>h.at' o h1 h2⟩
theorem cr.kp{H H':DH}{os:List Nat}{N:List bw}{L:Lk}(g:cr H os N L){b:Nat}(k:Ui b H H'):cr H' os N L :=
 ⟨g.len,g.lenL,g.nd,fun i x hx=>by
  obtain⟨s,d,h1,h2⟩:=g.ob i x hx
  exact⟨s,d,by rw[k.nb _ (aE h1) (fun _ _ _ e=>by rw[h1]at e;cases e),h1],by
   rcases h2 with⟨rfl,e⟩|⟨o,st,cp,rfl,h⟩
   ·exact .inl ⟨rfl,e⟩
   ·exact .inr ⟨o,st,cp,rfl,by rw[k.nb _ (aE h) (fun _ _ _ e=>by rw[h]at e;cases e),h]⟩⟩,g.kid,g.lk,g.sm⟩
theorem cr.cnt{H:DH}{os:List Nat}{N:List bw}{L:Lk}(g:cr H os N L){p s:Nat}{c:List D}(hp:H[p]? = some (.cells s c))(hn:p∉os)(s':Nat)(c':List D):cr (H.set p (.cells s' c')) os N L/\Ep H (H.set p (.cells s' c')) os p :=
 ⟨⟨g.len,g.lenL,g.nd,fun i x hx=>by
  obtain⟨s,d,h1,h2⟩:=g.ob i x hx
  refine⟨s,d,?_,h2.set hp⟩
  rw[List.getElem?_set_ne (fun q=>hn (by rw[q];exact Aa (by rw[g.len];exact aE hx))),h1],g.kid,g.lk,g.sm⟩,by simp,fun o _ _ h=>List.getElem?_set_ne (fun q=>h q.symm)⟩
end Go.Proofs.YtenibcfppefobaaGreatDoor
set_option linter.all false
noncomputable section
namespace Go.Proofs.YtenibcfppefobaaGreatDoor
open Go.AI
theorem OW{H:DH}{o s:Nat}{v:Bool}{n:af}{q:Int}{d k:D}(h:H[o]? = some (.cells s (fk v n q d k))):aD 28 [.ptr o 0] H=ret (.agg [.str n,.nilrow]) H:=by
 refine ev (UJ) ?_
 rw[ac h]
 rfl
def Ue(H:DH)(os:List Nat)(N:List bw)(L:Lk)(p d c:Nat)(t:Ty)(w:ag):Prop :=
 ∃ H' L' s' c' t',w=ret (.agg (cw t')) H'/\cr H' os N L'/\tI N L L'/\Ep H H' os p/\H'[p]? = some (.cells s' [.i ((c':Nat):Int)])/\c'<=2001/\(c'<=2000->t'=t/\c'=c+dn t/\d+IK t<=101)
mutual
theorem yl:∀(t:Ty) (H:DH) (os:List Nat) (N:List bw) (L:Lk) (i p d c s:Nat),cr H os N L->(∀(i:Nat) (x:bw),N[i]? = some x->x.v=true->x.a=[])->Tr N L i t->H[p]? = some (.cells s [.i ((c:Nat):Int)])->p∉os->c<=2001->d<=101 ->
 Ue H os N L p d c t (aD 27 [.ptr (oN os i) 0,.i (d:Nat),.ptr p 0,.func 28 [] []] H)
 |.mk n xs,H,os,N,L,i,p,d,c,s,g,hv,ht,hp,hpo,hc,hd=>by
  have hrt:∃ r m,Rt L i r m:=by cases ht with
   |var h _ _=>exact⟨_,_,h⟩
   |con h _ _ _=>exact⟨_,_,h⟩
  obtain⟨r,m,hr⟩:=hrt
  obtain⟨H1,L1,r1,g1,q1,l1⟩:=QV g hr
  obtain⟨m1,_,hr1⟩:=q1.rt _ _ _ hr
  have ht1:=ht.eqv q1
  have hp1:H1[p]? = some (.cells s [.i ((c:Nat):Int)]):=by rw[l1.at' p (aE hp) hpo,hp]
  have hrl:r<N.length:=by rw[<- g1.lenL];exact aE hr1.root
  have o1:∀(v w:Int) (κ:List D->ag),az [D.i v] 0 [.i w] κ=κ [.i w]:=fun _ _ _=>rfl
  obtain⟨g2,p2⟩:=g1.cnt hp1 hpo (s+1) [.i ((c+1:Nat):Int)]
  have hp2:=bK (.cells (s+1) [.i ((c+1:Nat):Int)]) hp1
  have stop:Ue H os N L p d c (.mk n xs) (ret (.agg [.str [],.row 2 []]) ((H1.set p (.cells (s+1) [.i ((c+1:Nat):Int)])).set p (.cells (s+1+1) [.i 2001]))):=by
   obtain⟨g3,p3⟩:=g2.cnt hp2 hpo (s+1+1) [.i 2001]
   exact⟨_,L1,s+1+1,2001,.mk [] [],by simp only[cw,aJ],g3,q1,(l1.ep.trans p2).trans p3,bK _ hp2,Nat.le_refl _,fun q=>by omega⟩
  have pre:∀ z,(cond (decide (((c+1:Nat):Int)>2000)) (ret (.agg [.str [],.row 2 []]) ((H1.set p (.cells (s+1) [.i ((c+1:Nat):Int)])).set p (.cells (s+1+1) [.i 2001]))) (cond (decide (((d:Nat):Int)>100)) (ret (.agg [.str [],.row 2 []]) ((H1.set p (.cells (s+1) [.i ((c+1:Nat):Int)])).set p (.cells (s+1+1) [.i 2001])))
   (eu (.ptr (oN os r) 0) fun b=>dt b 0 fun b=>ft ab 4 b (H1.set p (.cells (s+1) [.i ((c+1:Nat):Int)])) fun b=>brD b (EH lF (.func 28 [] []) fun b c' d'=>C ai b (c'++([.ptr (oN os r) 0]++d')) (H1.set p (.cells (s+1) [.i ((c+1:Nat):Int)])) fun a H=>ah 2 a fun a=>az [.str [],.nilrow] 0 a fun a=>aC a 0 fun b=>aC a 1 fun a=>ij (.fz 2) a H fun a H=>ret (.agg [b,a]) H) (eu (.ptr (oN os r) 0) fun b=>dt b 1 fun b=>ft ab 9 b (H1.set p (.cells (s+1) [.i ((c+1:Nat):Int)])) fun b=>ah 1 b fun b=>az [.str [],.nilrow] 0 b fun b=>ah 2 (.agg b) fun b=>az [.str [],.nilrow] 0 b fun b=>eu (.ptr (oN os r) 0) fun a=>dt a 3 fun a=>ft ab 71 a (H1.set p (.cells (s+1) [.i ((c+1:Nat):Int)])) fun a=>fq ab 71 a (H1.set p (.cells (s+1) [.i ((c+1:Nat):Int)])) fun c'=>ae ai 27 200010 [.n (d:Nat),.g (.ptr p 0),.g (.func 28 [] []),.lp 0 0,.lp 1 0,.g a,.g c',.n 0] [(0,[.str [],.nilrow]),(0,b)] (H1.set p (.cells (s+1) [.i ((c+1:Nat):Int)]))))))=z->aD 27 [.ptr (oN os i) 0,.i (d:Nat),.ptr p 0,.func 28 [] []] H=z:=fun z hz=>by
   refine ev (UK) ?_
   rw[aq r1,ac hp1,ak,dN,Bw (by omega),So,ac hp1,o1]
   dsimp only
   rw[ac hp2,ak,gh,aj,ac hp2,o1]
   exact hz
  by_cases h1:c+1<=2000
  ·by_cases h2:d<=100
   ·have e1:decide (((c+1:Nat):Int)>2000)=false:=by simp;omega
    have e2:decide (((d:Nat):Int)>100)=false:=by simp;omega
    have hx:=List.getElem?_eq_getElem hrl
    generalize N[r]=x at hx
    obtain⟨s2,da,k1,k2⟩:=g2.ob r x hx
    have ht2:=ht1.rt hr1
    cases hxv:x.v with
    |true =>
     have:xs=[]/\n=x.n:=by
      cases ht1 with
      |var z1 z2 z3=>obtain⟨rfl,_⟩:=z1.det hr1;rw[hx]at z2;cases z2;exact⟨rfl,rfl⟩
      |con z1 z2 z3 _=>obtain⟨rfl,_⟩:=z1.det hr1;rw[hx]at z2;cases z2;rw[hxv]at z3;cases z3
     obtain⟨rfl,rfl⟩:=this
     have hf:ei lF 28=true:=by kernel_rfl
     refine(show Ue H os N L p d c (.mk x.n []) _ from ?_)
     rw[pre _ rfl,e1,cond_false,e2,cond_false]
     simp only[Ff,ER,SZ,Nat.zero_add]
     rw[ac k1]
     simp only[fk,ak,hxv,aj,cond_true]
     rw[Ax hf,show(([]:List D)++([D.ptr (oN os r) 0]++[]))=[.ptr (oN os r) 0] from rfl,aq (OW k1)]
     refine⟨_,L1,s+1,c+1,.mk x.n [],by simp only[cw,aJ];rfl,g2,q1,l1.ep.trans p2,hp2,by omega,fun _=>⟨rfl,by simp[dn,dn.tszs],by simp only[IK,wt];omega⟩⟩
    |false =>
     have:∃ ys,sE N L1 x.a xs/\n=x.n/\ys=xs:=by
      cases ht1 with
      |var z1 z2 z3=>obtain⟨rfl,_⟩:=z1.det hr1;rw[hx]at z2;cases z2;rw[hxv]at z3;cases z3
      |con z1 z2 z3 z4=>obtain⟨rfl,_⟩:=z1.det hr1;rw[hx]at z2;cases z2;exact⟨_,z4,rfl,rfl⟩
     obtain⟨_,hts,rfl,_⟩:=this
     rw[pre _ rfl,e1,cond_false,e2,cond_false]
     simp only[Ff,ER,SZ,SU,Rm,Nat.zero_add]
     rw[ac k1]
     simp only[fk,ak,hxv,aj,cond_false]
     rw[ac k1]
     simp only[fk,ak,aw]
     rw[show ∀ κ:List D->ag,(ah 1 (.str x.n) fun b=>az [.str [],.nilrow] 0 b fun b=>ah 2 (.agg b) fun b=>az [.str [],.nilrow] 0 b κ)=κ [.str x.n,.nilrow] from fun _=>rfl]
     rw[ac k1]
     simp only[fk,ak,aw]
     rw[k2.len,List.length_map]
     obtain⟨H',L',s',c',ts',w1,w2,w3,w4,w5,w6,w7⟩:=uS xs (H1.set p (.cells (s+1) [.i ((c+1:Nat):Int)])) os N L1 x.n x.a [] da p d (c+1) (s+1) (H1.set p (.cells (s+1) [.i ((c+1:Nat):Int)])).length [] .nilrow g2 hv hts (by have:=g.sm r x hx;simpa using this) rfl k2 hp2 hpo (by omega) h2 (.inl ⟨rfl,rfl⟩) (Nat.le_refl _)
     refine⟨H',L',s',c',.mk x.n ts',w1,w2,q1.trans w3,(l1.ep.trans p2).trans ⟨w4.1,w4.2⟩,w5,w6,fun q=>?_⟩
     obtain⟨z1,z2,z3⟩:=w7 q
     exact⟨by rw[z1];simp,by rw[z2];simp only[dn];omega,by simp only[IK];omega⟩
   ·rw[pre _ rfl]
    have e1:decide (((c+1:Nat):Int)>2000)=false:=by simp;omega
    have e2:decide (((d:Nat):Int)>100)=true:=by simp;omega
    rw[e1,cond_false,e2,cond_true]
    exact stop
  ·rw[pre _ rfl]
   have e1:decide (((c+1:Nat):Int)>2000)=true:=by simp;omega
   rw[e1,cond_true]
   exact stop
theorem uS:∀(l:List Ty) (H:DH) (os:List Nat) (N:List bw) (L:Lk) (nm:af) (rest pn:List Nat) (da:D) (p d c s b:Nat) (done:List Ty) (dr:D),cr H os N L->(∀(i:Nat) (x:bw),N[i]? = some x->x.v=true->x.a=[])->sE N L rest l->(pn++rest).length<=16->done.length=pn.length->bE H da ((pn++rest).map (oN os))->H[p]? = some (.cells s [.i ((c:Nat):Int)])->p∉os->c<=2001->d<=100->Ac H b 2 (aJ done) dr->b<=H.length ->
 ∃ H' L' s' c' ts',ae ai 27 200010 [.n (d:Nat),.g (.ptr p 0),.g (.func 28 [] []),.lp 0 0,.lp 1 0,.g da,.n ((pn++rest).length:Nat),.n (pn.length:Nat)] [(0,[.str [],.nilrow]),(0,[.str nm,dr])] H=ret (.agg (cw (.mk nm ts'))) H'/\cr H' os N L'/\tI N L L'/\(H.length<=H'.length/\∀ o,o<b->o∉os->o≠p->H'[o]? = H[o]?)/\H'[p]? = some (.cells s' [.i ((c':Nat):Int)])/\c'<=2001/\(c'<=2000->ts'=done++l/\c'=c+dn.tszs l/\d+wt l<=100)
 |[],H,os,N,L,nm,rest,pn,da,p,d,c,s,b,done,dr,g,hv,ht,h16,hdn,ha,hp,hpo,hc,hd,hr,hb=>by
  cases ht
  obtain⟨H',u1,u2⟩:=hr.fz
  have hlt:decide ((pn.length:Int)<((pn++[]).length:Int))=false:=by simp
  refine⟨H',L,s,c,done,eL (wd) ?_,g.kp u2,.refl _ _,⟨u2.len,fun o h _ _=>u2.at' o h⟩,?_,hc,fun _=>⟨by simp,by simp[dn.tszs],by simp only[wt];omega⟩⟩
  ·rw[hlt,cond_false,ak,aw,ak,u1]
   simp only[cw]
  ·rw[u2.nb p (aE hp) (fun _ _ _ e=>by rw[hp]at e;cases e),hp]
 |t::l,H,os,N,L,nm,rest,pn,da,p,d,c,s,b,done,dr,g,hv,ht,h16,hdn,ha,hp,hpo,hc,hd,hr,hb=>by
  cases ht with
  |cons t1 t2 =>
  rename_i a rest
  obtain⟨H1,L1,s1,c1,t',r1,r2,r3,r4,r5,r6,r7⟩:=yl t H os N L a p (d+1) c s g hv t1 hp hpo hc (by omega)
  have hr1:Ac H1 b 2 (aJ done) dr:=by
   rcases hr with⟨rfl,e⟩|⟨o,ho,rfl,h⟩
   ·exact .inl ⟨rfl,e⟩
   ·refine .inr ⟨o,ho,rfl,?_⟩
    rw[r4.at' o (aE h) (fun q=>by obtain⟨s,c,e⟩:=g.nm q;rw[e]at h;cases h) (fun q=>by rw[q,hp]at h;cases h),h]
  have hb1:b<=H1.length:=Nat.le_trans hb r4.len
  obtain⟨tn,tx⟩:=t'
  obtain⟨d2,H2,u1,u2,u3,ob,nb,hd2⟩:=hr1.add hb1 (by rw[bH];simp at h16;omega) (cw (.mk tn tx))
  have e2:aJ done++[cw (.mk tn tx)]=aJ (done++[.mk tn tx]):=by rw[fl,fl];simp
  rw[e2]at u2
  have e3:pn++a::rest=(pn++[a])++rest:=by simp
  have ha2:bE H2 da (((pn++[a])++rest).map (oN os)):=by
   rw[<- e3]
   refine ha.chg fun o n q=>?_
   obtain⟨h1,st,cp,l,h2⟩:=ha.lt q
   have h3:H1[o]? = H[o]?:=r4.at' o h1 (fun q=>by obtain⟨s,c,e⟩:=g.nm q;rw[e]at h2;cases h2) (fun q=>by rw[q,hp]at h2;cases h2)
   rw[u3.nb o (by have:=r4.len;omega) (fun _ _ _ e=>by rw[h3,h2]at e;cases e),h3]
  have hp2:H2[p]? = some (.cells s1 [.i ((c1:Nat):Int)]):=by rw[u3.nb p (aE r5) (fun _ _ _ e=>by rw[r5]at e;cases e),r5]
  obtain⟨H',L',s',c',ts',w1,w2,w3,w4,w5,w6,w7⟩:=uS l H2 os N L1 nm rest (pn++[a]) da p d c1 s1 b (done++[.mk tn tx]) d2 (r2.kp u3) hv (t2.eqv r3) (by rw[<- e3];exact h16) (by simp[hdn]) ha2 hp2 hpo r6 hd u2 (Nat.le_trans hb1 u3.len)
  have hlt:decide ((pn.length:Int)<((pn++a::rest).length:Int))=true:=by simp;omega
  have ia:((pn++a::rest).map (oN os))[pn.length]? = some (oN os a):=by rw[List.getElem?_map];simp
  have hw2:eg ((pn.length:Int)+1)=(((pn++[a]).length:Nat):Int):=by
   rw[bT (by simp at h16;omega)];simp
  refine⟨H',L',s',c',ts',eL (wd) ?_,w2,r3.trans w3,⟨by have:=r4.len;have:=u3.len;have:=w4.1;omega,fun o h1 h2 h3=>?_⟩,w5,w6,fun q=>?_⟩
  ·rw[hlt,cond_true,ha.at' ia,Bw (by omega),Sg r1]
   simp only[ak,aw]
   rw[show ∀ κ:List D->ag,ah 2 (.agg (cw (.mk tn tx))) κ=κ (cw (.mk tn tx))from fun κ=>by simp only[cw];rfl]
   rw[u1,hd2,Sp,show ∀(x:D) (κ:List D->ag),az [.str nm,dr] 1 [x] κ=κ [.str nm,x] from fun _ _=>rfl,<- hd2,hw2,e3]
   exact w1
  ·rw[w4.2 o h1 h2 h3,u3.at' o h1,r4.at' o (by omega) h2 h3]
  ·obtain⟨z1,z2,z3⟩:=w7 q
   obtain⟨y1,y2,y3⟩:=r7 (by omega)
   exact⟨by rw[z1,y1];simp,by rw[z2,y2];simp only[dn.tszs];omega,by simp only[wt];omega⟩
end
end Go.Proofs.YtenibcfppefobaaGreatDoor
set_option linter.all false
noncomputable section
namespace Go.Proofs.YtenibcfppefobaaGreatDoor
open Go.AI
theorem Uq{R:bv}{m:D}{a:af}{b:gi}{p2:Nat}{H:DH}:bu R 30 [m,.agg [.str a,.row 2 b],.ptr p2 0] H =
 fp ab 83 m (.str a) true H fun c=>di c 0 fun d=>di c 1 fun c=>ah 2 d fun d=>az [.str [],.nilrow] 0 d fun d=>brD c (cond ((b.length:Int)==0) (aC d 0 fun a=>aC d 1 fun b=>C R 30 [.nilmap,.agg [a,b],.ptr p2 0] H fun a H=>ah 2 a fun a=>az [.str [],.nilrow] 0 a fun a=>aC a 0 fun b=>aC a 1 fun a=>ij (.fz 2) a H fun a H=>ret (.agg [b,a]) H) (ae R 30 4 [.g m,.g (.ptr p2 0),.lp 0 0,.lp 1 0] [(0,[.str a,.row 2 b]),(0,[.str [],.nilrow])] H)) (ae R 30 4 [.g m,.g (.ptr p2 0),.lp 0 0,.lp 1 0] [(0,[.str a,.row 2 b]),(0,[.str [],.nilrow])] H):=by kernel_rfl
theorem Sb{R:bv}{v0:D}{v2:Nat}{a:af}{b:gi}{c:af}{e:D}{H:DH}:bG R 30 4 [.g v0,.g (.ptr v2 0),.lp 0 0,.lp 1 0] [(0,[.str a,.row 2 b]),(0,[.str c,e])] H =
 aF H v2 fun _ d=>aC d 0 fun d=>aB ab .add 3 true d (.i 1) fun d=>ah 1 d fun d=>aF H v2 fun f g=>az g 0 d fun d=>let H:=H.set v2 (.cells (f+1) d);aF H v2 fun _ d=>aC d 0 fun d=>aB ab .gtr 3 true d (.i 2000) fun d=>brD d (ret (.agg [.str [],.row 2 []]) H) (ae R 30 200009 [.g v0,.g (.ptr v2 0),.lp 1 0,.lp 2 0,.g (.row 2 b),.n b.length,.n 0] [(0,[]),(0,[.str c,e]),(0,[.str a,.nilrow])] H):=by kernel_rfl
theorem wc{R:bv}{v0:D}{v2:Nat}{a:gi}{b c:Int}{e:af}{h:D}{j:af}{k:D}{H:DH}:bG R 30 200009 [.g v0,.g (.ptr v2 0),.lp 1 0,.lp 2 0,.g (.row 2 a),.n b,.n c] [(0,[]),(0,[.str e,h]),(0,[.str j,k])] H =
 cond (decide (c<b)) (dE c fun d=>eO a d fun d=>aC d 0 fun f=>aC d 1 fun d=>eK (R (.call 30 [v0,.agg [f,d],.ptr v2 0] none) H) (fun d H=>ah 2 d fun d=>fN (br ab 27) 2 k [d] H fun d H=>ah 1 d fun d=>az [.str j,k] 1 d fun d=>ae R 30 200009 [.g v0,.g (.ptr v2 0),.lp 1 0,.lp 2 0,.g (.row 2 a),.n b,.n (eg (c+1))] [(0,[]),(0,[.str e,h]),(0,d)] H) fun _ _=>none) (ij (.fz 2) k H fun a H=>ret (.agg [.str j,a]) H):=by kernel_rfl
theorem f9{R:bv}{p0:gi}{a:af}{b:gi}{H:DH}:bu R 9 [.row 3 p0,.agg [.str a,.row 2 b]] H =
 C R 7 [.agg [.str a,.row 2 b]] H fun c H=>aB ab .eql 3 true c (.i 0) fun c=>brD c (ret (.tuple [.agg [.str [],.nilrow],.i 32]) H) (cond (decide ((p0.length:Int)>2000)) (ret (.tuple [.agg [.str [],.nilrow],.i 1]) H) (let c:=H++[.map []];ae R 9 200007 [.lp 0 0,.lp 1 0,.g (.map H.length),.g (.row 3 p0),.n p0.length,.n 0] [(0,[.str a,.row 2 b]),(0,[.str [],.nilrow])] c)):=by kernel_rfl
theorem yV{R:bv}{v6:Nat}{a:gi}{b c:Int}{e:af}{h:gi}{j:af}{k:D}{H:DH}:bG R 9 200007 [.lp 0 0,.lp 1 0,.g (.map v6),.g (.row 3 a),.n b,.n c] [(0,[.str e,.row 2 h]),(0,[.str j,k])] H =
 cond (decide (c<b)) (dE c fun d=>eO a d fun d=>aC d 0 fun f=>aC d 1 fun g=>aC d 2 fun d=>fp ab 83 (.map v6) f true H fun i=>di i 0 fun l=>di i 1 fun i=>ah 2 l fun l=>az [.str [],.nilrow] 0 l fun _=>brD i (ret (.tuple [.agg [.str [],.nilrow],.i 1]) H) (C R 29 [f] H fun i H=>rl .not i fun i=>brD i (ret (.tuple [.agg [.str [],.nilrow],.i 1]) H) (C R 7 [.agg [g,d]] H fun i H=>aB ab .eql 3 true i (.i 0) fun i=>brD i (ret (.tuple [.agg [.str [],.nilrow],.i 1]) H) (gL ab 83 (.map v6) f (.agg [g,d]) H fun H=>ae R 9 200007 [.lp 0 0,.lp 1 0,.g (.map v6),.g (.row 3 a),.n b,.n (eg (c+1))] [(0,[.str e,.row 2 h]),(0,[.str j,k])] H)))) (let a:=H++[.cells 0 [.i 0]];aF a H.length fun b c=>az c 0 [.i 0] fun c=>let a:=a.set H.length (.cells (b+1) c);C R 30 [.map v6,.agg [.str e,.row 2 h],.ptr H.length 0] a fun a H=>ah 2 a fun a=>az [.str [],.nilrow] 0 a fun a=>aC a 0 fun b=>aC a 1 fun c=>C R 7 [.agg [b,c]] H fun b H=>aB ab .eql 3 true b (.i 0) fun b=>brD b (ret (.tuple [.agg [.str [],.nilrow],.i 39]) H) (aC a 0 fun b=>aC a 1 fun a=>ret (.tuple [.agg [b,a],.i 0]) H)):=by kernel_rfl
end Go.Proofs.YtenibcfppefobaaGreatDoor
set_option linter.all false
noncomputable section
namespace Go.Proofs.YtenibcfppefobaaGreatDoor
open Go.AI
def aK:List (af×Ty)->af->Option Ty
 |[],_=>none
 |(n,t)::r,s=>if s=n then some t else aK r s
def bM(es:List (af×Ty)):List (D×D):=es.map fun p=>(.str p.1,.agg (cw p.2))
def BM(H:DH)(m:D)(σ:af->Option Ty):Prop:=(m=.nilmap/\σ=fun _=>none)\/∃ mo es,m=.map mo/\H[mo]? = some (.map (bM es))/\σ=aK es
theorem Ki(s:af):∀ es,tz (.str s) (bM es)=some ((aK es s).map fun t=>.agg (cw t))
 |[]=>rfl
 |(n,t)::r=>by
  have ih:=Ki s r
  simp only[bM,List.map_cons,tz,ki]
  by_cases q:s=n
  ·have:(s==n)=true:=by simpa using q
   simp only[this,aK,if_pos q,Option.map]
  ·have:(s==n)=false:=by simpa using q
   simp only[this,aK,if_neg q]
   exact ih
theorem Ps(m:Nat)(s:af)(H:DH)(κ:D->ag):fp ab 83 (.map m) (.str s) true H κ=lm H m fun es=>jv (.str s) es fun r=>eH ab 27 true r κ:=by kernel_rfl
theorem MJ(s:af)(H:DH)(κ:D->ag):fp ab 83 .nilmap (.str s) true H κ=κ (.tuple [.agg [.str [],.nilrow],.bool false]):=by kernel_rfl
theorem PJ(κ:D->ag):eH ab 27 true none κ=κ (.tuple [.agg [.str [],.nilrow],.bool false]):=by kernel_rfl
theorem PI(d:D)(κ:D->ag):eH ab 27 true (some d) κ=κ (.tuple [d,.bool true]):=rfl
theorem BM.look{H:DH}{m:D}{σ:af->Option Ty}(h:BM H m σ)(s:af)(κ:D->ag):fp ab 83 m (.str s) true H κ=match σ s with
 |some t=>κ (.tuple [.agg (cw t),.bool true])
 |none=>κ (.tuple [.agg [.str [],.nilrow],.bool false]):=by
 rcases h with⟨rfl,rfl⟩|⟨mo,es,rfl,h,rfl⟩
 ·exact MJ s H κ
 ·rw[Ps,fJ h,jv,Ki]
  cases aK es s with
  |none=>simp only[Option.map,PJ]
  |some t=>simp only[Option.map,PI]
theorem BM.fr{H H':DH}{m:D}{σ:af->Option Ty}(h:BM H m σ){p s:Nat}{c:List D}(hp:H[p]? = some (.cells s c)){b:Nat}(hb:∀ mo es,H[mo]? = some (.map es)->mo<b)(k:∀ o,o<b->o≠p->H'[o]? = H[o]?):BM H' m σ:=by
 rcases h with⟨rfl,rfl⟩|⟨mo,es,rfl,h,rfl⟩
 ·exact .inl ⟨rfl,rfl⟩
 ·exact .inr ⟨mo,es,rfl,by rw[k mo (hb _ _ h) (fun q=>by rw[q,hp]at h;cases h),h],rfl⟩
theorem Cp(kind:af->Int)(d:Nat):∀(a b:List Ty) (k:Nat),iQ kind d (a++b) k=(match iQ kind d a k with
 |some k'=>iQ kind d b k'
 |none=>none)
 |[],_,_=>by simp[iQ]
 |t::r,b,k=>by
  simp only[List.cons_append,iQ]
  cases mD kind d t k with
  |none=>rfl
  |some k'=>exact Cp kind d r b k'
def Uc(kind:af->Int)(H:DH)(p c:Nat)(t:Ty)(w:ag):Prop :=
 ∃ H' s' c' t',w=ret (.agg (cw t')) H'/\(H.length<=H'.length/\∀ o,o<H.length->o≠p->H'[o]? = H[o]?)/\H'[p]? = some (.cells s' [.i ((c':Nat):Int)])/\c'<=c+dn t/\(c'<=2000->t'=t/\c'=c+dn t)/\(2000<c'->∀ d k,mD kind d t' k=none)/\t'.ok
def Ud(kind:af->Int)(x:Ty):Prop:=∀(H:DH) (p c s:Nat),H[p]? = some (.cells s [.i ((c:Nat):Int)])->c+dn x<2^60->Uc kind H p c x (aD 30 [.nilmap,.agg (cw x),.ptr p 0] H)
theorem dG(n:af)(a:D)(κ:List D->ag):ah 2 (.agg [.str n,a]) κ=κ [.str n,a]:=rfl
theorem kf(n:af)(a:D)(κ:List D->ag):az [.str [],.nilrow] 0 [.str n,a] κ=κ [.str n,a]:=rfl
theorem UD(l:gi)(H:DH)(κ:D->DH->ag):ij (.fz 2) (.row 2 l) H κ=κ (.row 2 l) H:=rfl
mutual
theorem Ed{kind:af->Int}(h0:∀ d k,mD kind d (.mk [] []) k=none){σ:af->Option Ty}(hx:∀ s x,σ s=some x->Ud kind x):∀(t:Ty) (H:DH) (m:D) (p c s:Nat),FL (fun _=>false) t->BM H m σ->H[p]? = some (.cells s [.i ((c:Nat):Int)])->c+dn (sub σ t)<2^60->Uc kind H p c (sub σ t) (aD 30 [m,.agg (cw t),.ptr p 0] H)
 |.mk n xs,H,m,p,c,s,hw,hm,hp,hc=>by
  simp only[FL]at hw
  have o1:∀(v w:Int) (κ:List D->ag),az [D.i v] 0 [.i w] κ=κ [.i w]:=fun _ _ _=>rfl
  by_cases hq:xs=[]/\∃ x,σ n=some x
  ·obtain⟨rfl,x,hn⟩:=hq
   have hs:sub σ (.mk n [])=x:=by rw[zw,hn];rfl
   rw[hs]at hc ⊢
   obtain⟨H',s',c',t',r1,r2,r3,r4,r5,r6,r7⟩:=hx n x hn H p c s hp hc
   obtain⟨xn,xx⟩:=x
   obtain⟨tn,tx⟩:=t'
   refine⟨H',s',c',.mk tn tx,ev (by simp only[cw];exact Uq) ?_,r2,r3,r4,r5,r6,r7⟩
   rw[hm.look n,hn]
   simp only[cM,ak,aw,cw,dG,kf,aj,cond_true,aJ,List.length_nil]
   simp only[cw]at r1
   rw[show((((0:Nat):Int)==0)=true)from rfl,cond_true,aq r1,dG,kf]
   simp only[ak,aw,UD]
  ·have hs:sub σ (.mk n xs)=.mk n (jN σ xs):=by
    unfold sub
    split
    ·rename_i q1 q2;exact(hq ⟨rfl,_,q2⟩).elim
    ·rfl
   rw[hs]at hc ⊢
   simp only[dn]at hc
   have st:∀ z,ae ai 30 4 [.g m,.g (.ptr p 0),.lp 0 0,.lp 1 0] [(0,[.str n,.row 2 (aJ xs)]),(0,[.str [],.nilrow])] H=z->aD 30 [m,.agg (cw (.mk n xs)),.ptr p 0] H=z:=fun z hz=>by
    refine ev (by simp only[cw];exact Uq) ?_
    rw[hm.look n]
    cases hn:σ n with
    |none =>
     simp only[cM,ak,aw,dG,kf,aj,cond_false]
     exact hz
    |some x =>
     obtain⟨xn,xx⟩:=x
     have hl:(((aJ xs).length:Int)==0)=false:=by
      rw[bH]
      cases xs with
      |nil=>exact(hq ⟨rfl,_,hn⟩).elim
      |cons y ys=>simp;omega
     simp only[cM,ak,aw,cw,dG,kf,aj,cond_true]
     rw[hl,cond_false]
     exact hz
   have hp2:=bK (.cells (s+1) [.i ((c+1:Nat):Int)]) hp
   have k2:∀ o,o<H.length->o≠p->(H.set p (.cells (s+1) [.i ((c+1:Nat):Int)]))[o]? = H[o]?:=fun o _ h=>List.getElem?_set_ne (fun q=>h q.symm)
   have st2:∀ z,(cond (decide (((c+1:Nat):Int)>2000)) (ret (.agg [.str [],.row 2 []]) (H.set p (.cells (s+1) [.i ((c+1:Nat):Int)]))) (ae ai 30 200009 [.g m,.g (.ptr p 0),.lp 1 0,.lp 2 0,.g (.row 2 (aJ xs)),.n ((aJ xs).length:Nat),.n 0] [(0,[]),(0,[.str [],.nilrow]),(0,[.str n,.nilrow])] (H.set p (.cells (s+1) [.i ((c+1:Nat):Int)]))))=z->aD 30 [m,.agg (cw (.mk n xs)),.ptr p 0] H=z:=fun z hz=>by
    refine st _ (eL (Sb) ?_)
    rw[ac hp,ak,dN,Bw (by omega),So,ac hp,o1]
    dsimp only
    rw[ac hp2,ak,gh,aj]
    exact hz
   by_cases h1:c+1<=2000
   ·have e1:decide (((c+1:Nat):Int)>2000)=false:=by simp;omega
    have hm2:BM (H.set p (.cells (s+1) [.i ((c+1:Nat):Int)])) m σ:=hm.fr hp (b:=H.length) (fun _ _ h=>aE h) k2
    obtain⟨H',s',c',ts',w1,w2,w3,w4,w5,w6,w7,w8⟩:=BQ h0 hx n xs hw.1 xs [] (H.set p (.cells (s+1) [.i ((c+1:Nat):Int)])) m p (c+1) (s+1) H.length [] .nilrow rfl hw.2.2 hm2 hp2 (by omega) (.inl ⟨rfl,rfl⟩) (by simp) rfl (fun q=>by omega) trivial
    refine⟨H',s',c',.mk n ts',st2 _ ?_,⟨by have:=w2.1;simp at this;omega,fun o h2 h3=>by rw[w2.2 o h2 h3,k2 o h2 h3]⟩,w3,by simp only[dn];omega,fun q=>?_,fun q d k=>?_,by simp only[Ty.ok];exact⟨by rw[w7];have:=hw.1;simp;omega,w8⟩⟩
    ·rw[e1,cond_false,bH]
     exact w1
    ·obtain⟨z1,z2⟩:=w5 q
     exact⟨by rw[z1];simp,by rw[z2];simp only[dn];omega⟩
    ·unfold mD
     split
     ·exact w6 q _ _
     ·rfl
   ·have e1:decide (((c+1:Nat):Int)>2000)=true:=by simp;omega
    refine⟨H.set p (.cells (s+1) [.i ((c+1:Nat):Int)]),s+1,c+1,.mk [] [],st2 _ ?_,⟨by simp,k2⟩,hp2,by simp only[dn];omega,fun q=>(h1 q).elim,fun _=>h0,by simp only[Ty.ok,Ty.oks];exact⟨by decide,trivial⟩⟩
    rw[e1,cond_true]
    simp only[cw,aJ]
theorem BQ{kind:af->Int}(h0:∀ d k,mD kind d (.mk [] []) k=none){σ:af->Option Ty}(hx:∀ s x,σ s=some x->Ud kind x)(n:af)(xs:List Ty)(h16:xs.length<=16):∀(l pre:List Ty) (H:DH) (m:D) (p c s b:Nat) (done:List Ty) (dr:D),xs=pre++l->xj (fun _=>false) l->BM H m σ->H[p]? = some (.cells s [.i ((c:Nat):Int)])->c+dn.tszs (jN σ l)<2^60->Ac H b 2 (aJ done) dr->b<=H.length->done.length=pre.length->(2000<c->∀ d k,iQ kind d done k=none)->Ty.oks done ->
 ∃ H' s' c' ts',ae ai 30 200009 [.g m,.g (.ptr p 0),.lp 1 0,.lp 2 0,.g (.row 2 (aJ xs)),.n (xs.length:Nat),.n (pre.length:Nat)] [(0,[]),(0,[.str [],.nilrow]),(0,[.str n,dr])] H=ret (.agg (cw (.mk n ts'))) H'/\(H.length<=H'.length/\∀ o,o<b->o≠p->H'[o]? = H[o]?)/\H'[p]? = some (.cells s' [.i ((c':Nat):Int)])/\c'<=c+dn.tszs (jN σ l)/\(c'<=2000->ts'=done++jN σ l/\c'=c+dn.tszs (jN σ l))/\(2000<c'->∀ d k,iQ kind d ts' k=none)/\ts'.length=done.length+l.length/\Ty.oks ts'
 |[],pre,H,m,p,c,s,b,done,dr,e,hw,hm,hp,hc,hr,hb,hd,hn,hk=>by
  obtain⟨H',u1,u2⟩:=hr.fz
  have hlt:decide ((pre.length:Int)<(xs.length:Int))=false:=by rw[e];simp
  refine⟨H',s,c,done,eL (wc) ?_,⟨u2.len,fun o h _=>u2.at' o h⟩,?_,by omega,fun _=>⟨by simp[jN],by simp[jN,dn.tszs]⟩,hn,by simp,hk⟩
  ·rw[hlt,cond_false,u1]
   simp only[cw]
  ·rw[u2.nb p (aE hp) (fun _ _ _ e=>by rw[hp]at e;cases e),hp]
 |t::l,pre,H,m,p,c,s,b,done,dr,e,hw,hm,hp,hc,hr,hb,hd,hn,hk=>by
  simp only[xj]at hw
  simp only[jN,dn.tszs]at hc
  obtain⟨H1,s1,c1,t',r1,r2,r3,r4,r5,r6,r7⟩:=Ed h0 hx t H m p c s hw.1 hm hp (by omega)
  have hr1:Ac H1 b 2 (aJ done) dr:=by
   rcases hr with⟨rfl,e⟩|⟨o,ho,rfl,h⟩
   ·exact .inl ⟨rfl,e⟩
   ·exact .inr ⟨o,ho,rfl,by rw[r2.2 o (aE h) (fun q=>by rw[q,hp]at h;cases h),h]⟩
  have hxl:xs.length=pre.length+(l.length+1):=by rw[e];simp
  have hb1:b<=H1.length:=Nat.le_trans hb r2.1
  obtain⟨tn,tx⟩:=t'
  obtain⟨d2,H2,u1,u2,u3,ob,nb,hd2⟩:=hr1.add hb1 (by rw[bH];omega) (cw (.mk tn tx))
  have e2:aJ done++[cw (.mk tn tx)]=aJ (done++[.mk tn tx]):=by rw[fl,fl];simp
  rw[e2]at u2
  have hp2:H2[p]? = some (.cells s1 [.i ((c1:Nat):Int)]):=by rw[u3.nb p (aE r3) (fun _ _ _ e=>by rw[r3]at e;cases e),r3]
  have hm2:BM H2 m σ:=by
   have hm1:=hm.fr hp (b:=H.length) (fun _ _ h=>aE h) r2.2
   rcases hm1 with⟨q1,q2⟩|⟨mo,es,q1,h,q2⟩
   ·exact .inl ⟨q1,q2⟩
   ·exact .inr ⟨mo,es,q1,by rw[u3.nb mo (aE h) (fun _ _ _ e=>by rw[h]at e;cases e),h],q2⟩
  obtain⟨H',s',c',ts',w1,w2,w3,w4,w5,w6,w7,w8⟩:=BQ h0 hx n xs h16 l (pre++[t]) H2 m p c1 s1 b (done++[.mk tn tx]) d2 (by rw[e];simp) hw.2 hm2 hp2 (by omega) u2 (Nat.le_trans hb1 u3.len) (by simp[hd]) (fun q d k=>by
   rw[Cp]
   by_cases hq:2000<c
   ·rw[hn hq d k]
   ·cases iQ kind d done k with
    |none=>rfl
    |some k' =>
     simp only[iQ]
     rw[r6 q d k']) (Ty.oks_iff.2 fun u hu=>by
   rcases List.mem_append.1 hu with hu|hu
   ·exact Ty.oks_iff.1 hk u hu
   ·simp at hu;rw[hu];exact r7)
  have hlt:decide ((pre.length:Int)<(xs.length:Int))=true:=by rw[hxl];simp;omega
  have h2:(aJ xs)[pre.length]? = some (cw t):=by rw[e];exact gG _ _ _
  have hw2:eg ((pre.length:Int)+1)=(((pre++[t]).length:Nat):Int):=by
   rw[bT (by omega)];simp
  refine⟨H',s',c',ts',eL (wc) ?_,⟨by have:=r2.1;have:=u3.len;have:=w2.1;omega,fun o h1 h3=>by rw[w2.2 o h1 h3,u3.at' o h1,r2.2 o (by omega) h3]⟩,w3,by simp only[jN,dn.tszs];omega,fun q=>?_,w6,by rw[w7];simp;omega,w8⟩
  ·obtain⟨tn',ts''⟩:=t
   simp only[cw]at h2 r1
   rw[hlt,cond_true,bC,bm h2]
   simp only[ak,aw]
   rw[Sg r1,dG]
   simp only[cw]at u1
   rw[u1,hd2,Sp,show ∀(x:D) (κ:List D->ag),az [.str n,dr] 1 [x] κ=κ [.str n,x] from fun _ _=>rfl,<- hd2,hw2]
   exact w1
  ·obtain⟨z1,z2⟩:=w5 q
   obtain⟨y1,y2⟩:=r5 (by omega)
   exact⟨by rw[z1,y1];simp[jN],by rw[z2,y2];simp only[jN,dn.tszs];omega⟩
end
mutual
theorem uw:∀ t,sub (fun _=>none) t=t
 |.mk n []=>rfl
 |.mk n (y::ys)=>by rw[show sub (fun _=>none) (.mk n (y::ys))=.mk n (jN (fun _=>none) (y::ys))from rfl,yb (y::ys)]
theorem yb:∀ l,jN (fun _=>none) l=l
 |[]=>rfl
 |t::r=>by rw[jN,uw t,yb r]
end
theorem Mo{kind:af->Int}(h0:∀ d k,mD kind d (.mk [] []) k=none)(x:Ty)(hw:FL (fun _=>false) x):Ud kind x:=fun H p c s hp hc=>by
 have:=Ed h0 (σ:=fun _=>none) (fun s x h=>by cases h) x H .nilmap p c s hw (.inl ⟨rfl,rfl⟩) hp (by rw[uw];exact hc)
 rw[uw]at this
 exact this
theorem QY{kind:af->Int}(h0:∀ d k,mD kind d (.mk [] []) k=none){es:List (af×Ty)}(he:∀ p∈es,FL (fun _=>false) p.2){t:Ty}(hw:FL (fun _=>false) t){H:DH}{mo p c s:Nat}(hm:H[mo]? = some (.map (bM es)))(hp:H[p]? = some (.cells s [.i ((c:Nat):Int)]))(hc:c+dn (sub (aK es) t)<2^60):Uc kind H p c (sub (aK es) t) (aD 30 [.map mo,.agg (cw t),.ptr p 0] H) :=
 Ed h0 (fun s x h=>Mo h0 x (by
  have:∀ {es:List (af×Ty)},aK es s=some x->(∃ p∈es,p.2=x):=fun {es} h=>by
   induction es with
   |nil=>cases h
   |cons q r ih =>
    obtain⟨n,t⟩:=q
    unfold aK at h
    split at h
    ·cases h;exact⟨_,List.mem_cons_self,rfl⟩
    ·obtain⟨p,h1,h2⟩:=ih h
     exact⟨p,List.mem_cons_of_mem _ h1,h2⟩
  obtain⟨p,h1,h2⟩:=this h
  rw[<- h2];exact he p h1)) t H (.map mo) p c s hw (.inr ⟨mo,es,rfl,hm,rfl⟩) hp hc
end Go.Proofs.YtenibcfppefobaaGreatDoor
set_option linter.all false
noncomputable section
namespace Go.Proofs.YtenibcfppefobaaGreatDoor
open Go.AI
theorem f8{R:bv}{p0:gi}{H:DH}:bu R 8 [.row 2 p0] H =
 cond (decide ((p0.length:Int)>16)) (ret (.tuple [.row 3 [],.i 1]) H) (ae R 8 200004 [.g (.row 2 p0),.g (.row 2 p0),.n p0.length,.n 0] [] H):=by kernel_rfl
theorem yY{R:bv}{v0 a:gi}{b c:Int}{H:DH}:bG R 8 200004 [.g (.row 2 v0),.g (.row 2 a),.n b,.n c] [] H =
 cond (decide (c<b)) (dE c fun d=>eO a d fun d=>aC d 0 fun e=>aC d 1 fun d=>C R 7 [.agg [e,d]] H fun d H=>aB ab .eql 3 true d (.i 0) fun d=>brD d (ret (.tuple [.row 3 [],.i 32]) H) (ae R 8 200004 [.g (.row 2 v0),.g (.row 2 a),.n b,.n (eg (c+1))] [] H)) (let a:=H++[.map []];let H:=a++[.cells 0 [.map H.length,.nilrow]];ae R 8 200012 [.g (.ptr a.length 0),.g .nilrow,.g (.row 2 v0),.n v0.length,.n 0] [] H):=by kernel_rfl
theorem yX{R:bv}{v6:Nat}{v7:D}{a:gi}{b c:Int}{H:DH}:bG R 8 200012 [.g (.ptr v6 0),.g v7,.g (.row 2 a),.n b,.n c] [] H =
 cond (decide (c<b)) (dE c fun d=>eO a d fun d=>aC d 0 fun e=>aC d 1 fun d=>C R 23 [.ptr v6 0,.agg [e,d]] H fun d H=>ah 1 d fun d=>fN (br ab 74) 1 v7 [d] H fun d H=>ae R 8 200012 [.g (.ptr v6 0),.g d,.g (.row 2 a),.n b,.n (eg (c+1))] [] H) (fq ab 71 v7 H fun a=>ae R 8 200017 [.g (.ptr v6 0),.g v7,.g v7,.g a,.n 0] [] H):=by kernel_rfl
theorem si{R:bv}{v6:Nat}{v7 a:D}{b c:Int}{H:DH}:bG R 8 200017 [.g (.ptr v6 0),.g v7,.g a,.n b,.n c] [] H =
 cond (decide (c<b)) (dF ab 71 a (.i c) fun d=>ft ab 74 d H fun d=>dF ab 71 v7 (.i 0) fun e=>ft ab 74 e H fun e=>C R 24 [e,d] H fun d H=>rl .not d fun d=>brD d (ret (.tuple [.row 3 [],.i 30]) H) (ae R 8 200017 [.g (.ptr v6 0),.g v7,.g a,.n b,.n (eg (c+1))] [] H)) (C R 25 [v7] H fun a H=>rl .not a fun a=>brD a (ret (.tuple [.row 3 [],.i 31]) H) (aF H v6 fun _ a=>aC a 1 fun a=>fq ab 71 a H fun b=>ae R 8 200026 [.g .nilrow,.g a,.g b,.n 0] [] H)):=by kernel_rfl
theorem yW{R:bv}{a b:D}{c e:Int}{H:DH}:bG R 8 200026 [.g a,.g b,.n c,.n e] [] H =
 cond (decide (e<c)) (dF ab 71 b (.i e) fun d=>ft ab 74 d H fun d=>C R 26 [d] H fun f H=>wM ab .eql 74 false f d H fun f=>brD f (ae R 8 200026 [.g a,.g b,.n c,.n (eg (e+1))] [] H) (let f:=H++[.cells 0 [.i 0]];aF f H.length fun g h=>az h 0 [.i 0] fun h=>let f:=f.set H.length (.cells (g+1) h);C R 27 [d,.i 1,.ptr H.length 0,.func 28 [] []] f fun f g=>ah 2 f fun f=>az [.str [],.nilrow] 0 f fun f=>aF g H.length fun _ h=>aC h 0 fun h=>aB ab .gtr 3 true h (.i 2000) fun h=>brD h (ret (.tuple [.row 3 [],.i 39]) g) (eu d fun d=>dt d 1 fun d=>ft ab 9 d g fun d=>aC f 0 fun h=>aC f 1 fun f=>ah 1 d fun d=>az [.str [],.str [],.nilrow] 0 d fun d=>az d 1 [h,f] fun d=>ah 3 (.agg d) fun d=>fN (br ab 52) 3 a [d] g fun a H=>ae R 8 200026 [.g a,.g b,.n c,.n (eg (e+1))] [] H))) (mE (.fz 3) 0 a H fun a H=>ret (.tuple [a,.i 0]) H):=by kernel_rfl
theorem UO{R:bv}{a:af}{b:gi}{c:af}{e:gi}{H:DH}:bu R 10 [.agg [.str a,.row 2 b],.agg [.str c,.row 2 e]] H =
 cond (!(a==c)) (ret (.bool false) H) (cond ((b.length:Int) !=(e.length:Int)) (ret (.bool false) H) (ae R 10 200004 [.lp 0 0,.lp 1 0,.n 0] [(0,[.str a,.row 2 b]),(0,[.str c,.row 2 e])] H)):=by kernel_rfl
theorem wj{R:bv}{v5:Int}{a:af}{b:gi}{c:af}{e:gi}{H:DH}:bG R 10 200004 [.lp 0 0,.lp 1 0,.n v5] [(0,[.str a,.row 2 b]),(0,[.str c,.row 2 e])] H =
 cond (decide (v5<b.length)) (dE v5 fun d=>eO b d fun d=>aC d 0 fun f=>aC d 1 fun d=>dE v5 fun g=>eO e g fun g=>aC g 0 fun h=>aC g 1 fun g=>eK (R (.call 10 [.agg [f,d],.agg [h,g]] none) H) (fun d H=>rl .not d fun d=>brD d (ret (.bool false) H) (ae R 10 200004 [.lp 0 0,.lp 1 0,.n (eg (v5+1))] [(0,[.str a,.row 2 b]),(0,[.str c,.row 2 e])] H)) fun _ _=>none) (ret (.bool true) H):=by kernel_rfl
end Go.Proofs.YtenibcfppefobaaGreatDoor
set_option linter.all false
noncomputable section
namespace Go.Proofs.YtenibcfppefobaaGreatDoor
open Go.AI
mutual
def pE:Ty->Ty->Bool
 |.mk n xs,.mk m ys=>n==m&&lP xs ys
def lP:List Ty->List Ty->Bool
 |[],[]=>true
 |x::xs,y::ys=>pE x y&&lP xs ys
 |_,_=>false
end
mutual
theorem pD:∀(t u:Ty),pE t u=true↔t=u
 |.mk n xs,.mk m ys=>by
  simp only[pE,Bool.and_eq_true,beq_iff_eq,rx xs ys,Ty.mk.injEq]
theorem rx:∀(l k:List Ty),lP l k=true↔l=k
 |[],[]=>by simp[lP]
 |x::xs,y::ys=>by simp only[lP,Bool.and_eq_true,pD x y,rx xs ys,List.cons.injEq]
 |[],_::_=>by simp[lP]
 |_::_,[]=>by simp[lP]
end
theorem Hn:∀ {l k:List Ty},l.length≠k.length->lP l k=false:=fun {l k} h=>by
 cases q:lP l k with
 |false=>rfl
 |true=>exact(h (by rw[(rx l k).1 q])).elim
mutual
theorem tP:∀(t u:Ty) (H:DH),t.ok->aD 10 [.agg (cw t),.agg (cw u)] H=ret (.bool (pE t u)) H
 |.mk n xs,.mk m ys,H,hok=>by
  simp only[Ty.ok]at hok
  refine ev (by simp only[cw];exact UO) ?_
  simp only[pE]
  by_cases h1:n=m
  ·have e1:(n==m)=true:=by simpa using h1
   rw[e1,Bool.not_true,cond_false,bH,bH,Bool.true_and]
   by_cases h2:xs.length=ys.length
   ·have e2:(((xs.length:Nat):Int) !=((ys.length:Nat):Int))=false:=by simp[h2]
    rw[e2,cond_false]
    exact yg n m xs ys H hok.1 xs ys [] [] rfl rfl rfl h2 hok.2
   ·have e2:(((xs.length:Nat):Int) !=((ys.length:Nat):Int))=true:=by simp;omega
    rw[e2,cond_true,Hn h2]
  ·have e1:(n==m)=false:=by simpa using h1
   rw[e1,Bool.not_false,cond_true,Bool.false_and]
theorem yg(n m:af)(xs ys:List Ty)(H:DH)(h62:xs.length<2^62):∀(l k p q:List Ty),xs=p++l->ys=q++k->p.length=q.length->l.length=k.length->Ty.oks l ->
 ae ai 10 200004 [.lp 0 0,.lp 1 0,.n (p.length:Nat)] [(0,[.str n,.row 2 (aJ xs)]),(0,[.str m,.row 2 (aJ ys)])] H=ret (.bool (lP l k)) H
 |[],[],p,q,e1,e2,e3,_,_=>by
  refine eL (wj) ?_
  have hlt:decide ((p.length:Int)<((aJ xs).length:Int))=false:=by rw[bH,e1];simp
  rw[hlt,cond_false]
  simp only[lP]
 |[],_::_,_,_,_,_,_,h,_=>by simp at h
 |_::_,[],_,_,_,_,_,h,_=>by simp at h
 |t::l,u::k,p,q,e1,e2,e3,e4,hok=>by
  simp only[Ty.oks]at hok
  have hlt:decide ((p.length:Int)<((aJ xs).length:Int))=true:=by rw[bH,e1];simp;omega
  have h1:(aJ xs)[p.length]? = some (cw t):=by rw[e1];exact gG _ _ _
  have h2:(aJ ys)[p.length]? = some (cw u):=by rw[e2,e3];exact gG _ _ _
  have hw2:eg ((p.length:Int)+1)=(((p++[t]).length:Nat):Int):=by
   rw[bT (by
    have:xs.length=p.length+(l.length+1):=by rw[e1];simp
    omega)];simp
  have r1:=tP t u H hok.1
  have ih:=yg n m xs ys H h62 l k (p++[t]) (q++[u]) (by rw[e1];simp) (by rw[e2];simp) (by simp[e3]) (by simpa using e4) hok.2
  refine eL (wj) ?_
  obtain⟨tn,tx⟩:=t
  obtain⟨un,ux⟩:=u
  simp only[cw]at h1 h2 r1
  rw[hlt,cond_true,bC,bm h1]
  simp only[ak,aw]
  rw[bC,bm h2]
  simp only[ak,aw]
  rw[Sg r1]
  simp only[ct,aj,lP]
  rw[hw2,ih]
  cases pE (.mk tn tx) (.mk un ux)<;>simp only[Bool.not_true,Bool.not_false,cond_true,cond_false,Bool.true_and,Bool.false_and]
end
end Go.Proofs.YtenibcfppefobaaGreatDoor
set_option linter.all false
noncomputable section
namespace Go.Proofs.YtenibcfppefobaaGreatDoor
open Go.AI
mutual
theorem KD{kind:af->Int}:∀ {t:Ty} {d c k:Nat},mD kind d t c=some k->k=c+dn t/\d+IK t<=101/\k<=2000
 |.mk n xs,d,c,k,h=>by
  unfold mD at h
  split at h
  ·rename_i q
   have:=GA h (by omega) (by omega)
   simp only[dn,IK];omega
  ·cases h
theorem GA{kind:af->Int}:∀ {l:List Ty} {d c k:Nat},iQ kind d l c=some k->c<=2000->d<=101->k=c+dn.tszs l/\d+wt l<=101/\k<=2000
 |[],d,c,k,h,hc,hd=>by cases h;simp only[dn.tszs,wt];omega
 |t::r,d,c,k,h,hc,hd=>by
  unfold iQ at h
  split at h
  ·rename_i k1 hk
   have h1:=KD hk
   have h2:=GA h (by omega) hd
   simp only[dn.tszs,wt];omega
  ·cases h
end
mutual
theorem Of{kind:af->Int}:∀ {t:Ty} {d c k:Nat},mD kind d t c=some k->FL (fun _=>false) t
 |.mk n xs,d,c,k,h=>by
  unfold mD at h
  split at h
  ·rename_i q
   simp only[FL]
   refine⟨?_,(fun q=>by cases q),KB h⟩
   have:=q.1
   unfold nQ at this
   repeat' split at this
   all_goals simp_all
   all_goals omega
  ·cases h
theorem KB{kind:af->Int}:∀ {l:List Ty} {d c k:Nat},iQ kind d l c=some k->xj (fun _=>false) l
 |[],_,_,_,_=>trivial
 |t::r,d,c,k,h=>by
  unfold iQ at h
  split at h
  ·rename_i k1 hk
   exact⟨Of hk,KB h⟩
  ·cases h
end
theorem zD{kind:af->Int}{t:Ty}(h:bh kind t≠0):FL (fun _=>false) t/\dn t<=2000/\bh kind t=dn t/\IK t<=100:=by
 unfold bh at h ⊢
 cases q:mD kind 1 t 0 with
 |none=>rw[q]at h;exact(h rfl).elim
 |some k =>
  have:=KD q
  exact⟨Of q,by omega,by simp only[Option.getD_some];omega,by omega⟩
def DC(kind:af->Int):List (af×Ty)->List (af×Ty)->Bool
 |_,[]=>true
 |done,(n,t)::r=>(aK done n).isNone&&(kind n==4)&&!(bh kind t==0)&&DC kind (done++[(n,t)]) r
def fy(b:af×Ty):List D:=.str b.1::cw b.2
theorem Kf(s:af)(x:D):∀ es,aK es s=none->vh (.str s) x (bM es)=some (bM es++[(.str s,x)])
 |[],_=>rfl
 |(n,t)::r,h=>by
  unfold aK at h
  split at h
  ·cases h
  ·rename_i q
   have e:(s==n)=false:=by simpa using q
   have ih:=Kf s x r h
   simp only[bM]at ih
   simp only[bM,List.map_cons,vh,ki,e,ih,List.cons_append]
theorem Ph(m:Nat)(s:af)(v:D)(H:DH)(κ:DH->ag):gL ab 83 (.map m) (.str s) v H κ=lm H m fun es=>ju (.str s) v es fun es=>κ (H.set m (.map es)):=by kernel_rfl
def Ut(kind:af->Int)(H:DH)(b:Nat)(es:List (af×Ty))(good:Bool)(t:Ty)(w:ag):Prop :=
 ∃ H' ds e,w=ret (.tuple [.agg ds,.i e]) H'/\(H.length<=H'.length/\∀ o,o<b->H'[o]? = H[o]?) /\
  ((good=false/\e=1/\ds=[.str [],.nilrow])\/(good=true/\bh kind (sub (aK es) t)=0/\e=39/\ds=[.str [],.nilrow])\/(good=true/\bh kind (sub (aK es) t)≠0/\e=0/\ds=cw (sub (aK es) t)))
theorem LP{σ:af->Option Ty}(hσ:∀ s x,σ s=some x->dn x<=2000):∀ n (t:Ty),dn t<=n->dn (sub σ t)<=2000*dn t:=fun n=>by
 induction n with
 |zero=>intro t h;obtain⟨m,xs⟩:=t;simp only[dn]at h;omega
 |succ n ih =>
  intro t h
  obtain⟨m,xs⟩:=t
  have hl:∀ l:List Ty,dn.tszs l<=n->dn.tszs (jN σ l)<=2000*dn.tszs l:=fun l=>by
   induction l with
   |nil=>intro _;simp[jN,dn.tszs]
   |cons x r ih2 =>
    intro hl
    simp only[dn.tszs]at hl
    have h1:=ih x (by omega)
    have h2:=ih2 (by omega)
    simp only[jN,dn.tszs];omega
  have hs:=hl xs (by simp only[dn]at h;omega)
  unfold sub
  split
  ·rename_i x hx
   have:=hσ _ _ hx
   simp only[dn];omega
  ·simp only[dn]at h ⊢
   omega
theorem yB{s:af}{x:Ty}:∀ {es:List (af×Ty)},aK es s=some x->∃ p∈es,p.2=x
 |[],h=>by cases h
 |(n,t)::r,h=>by
  unfold aK at h
  split at h
  ·cases h;exact⟨_,List.mem_cons_self,rfl⟩
  ·obtain⟨p,h1,h2⟩:=yB h
   exact⟨p,List.mem_cons_of_mem _ h1,h2⟩
theorem Ha{kind:af->Int}(K:Dy kind)(h0:∀ d k,mD kind d (.mk [] []) k=none)(n:af)(xs:List Ty)(bs:List (af×Ty))(h62:bs.length<=2000)(hW:FL (fun _=>false) (.mk n xs))(hok:(Ty.mk n xs).ok)(hts:dn (.mk n xs)<=2000)(hbs:∀ q∈bs,q.2.ok)(mo b:Nat):∀(l done:List (af×Ty)) (H:DH),bs=done++l->H[mo]? = some (.map (bM done))->b<=mo->b<=H.length->(∀ q∈done,FL (fun _=>false) q.2/\dn q.2<=2000) ->
 Ut kind H b bs (DC kind done l) (.mk n xs) (ae ai 9 200007 [.lp 0 0,.lp 1 0,.g (.map mo),.g (.row 3 (bs.map fy)),.n (bs.length:Nat),.n (done.length:Nat)] [(0,[.str n,.row 2 (aJ xs)]),(0,[.str [],.nilrow])] H)
 |[],done,H,e,hm,hbm,hb,hd=>by
  have hbd:bs=done:=by rw[e];simp
  have hlt:decide ((done.length:Int)<(bs.length:Int))=false:=by rw[hbd];simp
  have o1:∀(v w:Int) (κ:List D->ag),az [D.i v] 0 [.i w] κ=κ [.i w]:=fun _ _ _=>rfl
  have a1:(H++[DB.cells (0+1) [.i ((0:Nat):Int)]])[mo]? = some (.map (bM done)):=jS hm
  have a2:(H++[DB.cells (0+1) [.i ((0:Nat):Int)]])[H.length]? = some (.cells (0+1) [.i ((0:Nat):Int)]):=ci _ _
  have hsz:=LP (σ:=aK done) (fun s x h=>by obtain⟨q,h1,h2⟩:=yB h;rw[<- h2];exact(hd q h1).2) _ (.mk n xs) (Nat.le_refl _)
  obtain⟨H',s',c',t',r1,r2,r3,r4,r5,r6,r7⟩:=QY h0 (fun q h=>(hd q h).1) hW a1 a2 (by omega)
  obtain⟨X,z1⟩:=nj K t' H' r7
  obtain⟨tn,tx⟩:=t'
  have fin:∀ z,(cond (((bh kind (.mk tn tx):Nat):Int)==0) (ret (.tuple [.agg [.str [],.nilrow],.i 39]) (H'++X)) (ret (.tuple [.agg (cw (.mk tn tx)),.i 0]) (H'++X)))=z->ae ai 9 200007 [.lp 0 0,.lp 1 0,.g (.map mo),.g (.row 3 (bs.map fy)),.n (bs.length:Nat),.n (done.length:Nat)] [(0,[.str n,.row 2 (aJ xs)]),(0,[.str [],.nilrow])] H=z:=fun z hz=>by
   refine eL (yV) ?_
   rw[hlt,cond_false]
   dsimp only
   rw[ac (ci _ _),o1,nl]
   simp only[cw]at r1 z1 hz
   rw[show((0:Nat):Int)=0 from rfl]at r1
   rw[aq r1,dG,kf]
   simp only[ak,aw]
   rw[aq z1,bS,aj]
   exact hz
  have fr:∀ o,o<b->(H'++X)[o]? = H[o]?:=fun o h=>by
   have h1:o<H.length:=by omega
   have:=r2.1
   simp at this
   rw[List.getElem?_append_left (by omega),r2.2 o (by simp;omega) (by omega),List.getElem?_append_left h1]
  have len:H.length<=(H'++X).length:=by have:=r2.1;simp at this ⊢;omega
  by_cases q:bh kind (.mk tn tx)=0
  ·have e1:(((bh kind (.mk tn tx):Nat):Int)==0)=true:=by rw[q];rfl
   refine⟨H'++X,_,_,fin _ (by rw[e1,cond_true]),⟨len,fr⟩,.inr (.inl ⟨rfl,?_,rfl,rfl⟩)⟩
   rw[hbd]
   by_cases hs:bh kind (sub (aK done) (.mk n xs))=0
   ·exact hs
   ·obtain⟨_,w2,_⟩:=zD hs
    obtain⟨y1,_⟩:=r5 (by omega)
    rw[<- y1,q]
  ·have e1:(((bh kind (.mk tn tx):Nat):Int)==0)=false:=by simp;omega
   have hc:c'<=2000:=by
    rcases Nat.lt_or_ge 2000 c' with h|h
    ·exfalso
     apply q
     unfold bh
     rw[r6 h]
     rfl
    ·exact h
   obtain⟨y1,_⟩:=r5 hc
   refine⟨H'++X,_,_,fin _ (by rw[e1,cond_false]),⟨len,fr⟩,.inr (.inr ⟨rfl,?_,rfl,?_⟩)⟩
   ·rw[hbd,<- y1];exact q
   ·rw[hbd,<- y1]
 |(f,u)::l,done,H,e,hm,hbm,hb,hd=>by
  have hlt:decide ((done.length:Int)<(bs.length:Int))=true:=by rw[e];simp;omega
  have h2:(bs.map fy)[done.length]? = some (fy (f,u)):=by rw[e];simp
  have hw2:eg ((done.length:Int)+1)=(((done++[(f,u)]).length:Nat):Int):=by
   rw[bT (by
    have:bs.length=done.length+(l.length+1):=by rw[e];simp
    omega)];simp
  obtain⟨X,z1⟩:=nj K u H (hbs (f,u) (by rw[e];simp))
  obtain⟨un,ux⟩:=u
  have lk:=BM.look (H:=H) (m:=.map mo) (σ:=aK done) (.inr ⟨mo,done,rfl,hm,rfl⟩) f
  have err:∀(z:DH),H.length<=z.length->(∀ o,o<b->z[o]? = H[o]?)->ae ai 9 200007 [.lp 0 0,.lp 1 0,.g (.map mo),.g (.row 3 (bs.map fy)),.n (bs.length:Nat),.n (done.length:Nat)] [(0,[.str n,.row 2 (aJ xs)]),(0,[.str [],.nilrow])] H=ret (.tuple [.agg [.str [],.nilrow],.i 1]) z->DC kind done ((f,.mk un ux)::l)=false->Ut kind H b bs (DC kind done ((f,.mk un ux)::l)) (.mk n xs) (ae ai 9 200007 [.lp 0 0,.lp 1 0,.g (.map mo),.g (.row 3 (bs.map fy)),.n (bs.length:Nat),.n (done.length:Nat)] [(0,[.str n,.row 2 (aJ xs)]),(0,[.str [],.nilrow])] H):=fun z h1 h2 h3 h4=>⟨z,_,_,h3,⟨h1,h2⟩,.inl ⟨h4,rfl,rfl⟩⟩
  have start:∀ z,(fp ab 83 (.map mo) (.str f) true H fun i=>di i 0 fun l=>di i 1 fun i=>ah 2 l fun l=>az [.str [],.nilrow] 0 l fun _=>brD i (ret (.tuple [.agg [.str [],.nilrow],.i 1]) H) (C ai 29 [.str f] H fun i H=>rl .not i fun i=>brD i (ret (.tuple [.agg [.str [],.nilrow],.i 1]) H) (C ai 7 [.agg [.str un,.row 2 (aJ ux)]] H fun i H=>aB ab .eql 3 true i (.i 0) fun i=>brD i (ret (.tuple [.agg [.str [],.nilrow],.i 1]) H) (gL ab 83 (.map mo) (.str f) (.agg [.str un,.row 2 (aJ ux)]) H fun H=>ae ai 9 200007 [.lp 0 0,.lp 1 0,.g (.map mo),.g (.row 3 (bs.map fy)),.n (bs.length:Nat),.n (eg ((done.length:Nat)+1))] [(0,[.str n,.row 2 (aJ xs)]),(0,[.str [],.nilrow])] H))))=z->ae ai 9 200007 [.lp 0 0,.lp 1 0,.g (.map mo),.g (.row 3 (bs.map fy)),.n (bs.length:Nat),.n (done.length:Nat)] [(0,[.str n,.row 2 (aJ xs)]),(0,[.str [],.nilrow])] H=z:=fun z hz=>by
   refine eL (yV) ?_
   simp only[fy,cw]at h2
   rw[hlt,cond_true,bC,bm h2]
   simp only[ak,aw]
   exact hz
  simp only[cw]at z1
  cases hn:aK done f with
  |some x =>
   obtain⟨xn,xx⟩:=x
   refine err H (Nat.le_refl _) (fun _ _=>rfl) (start _ ?_) (by simp[DC,hn])
   rw[lk,hn]
   simp only[cM,ak,aw,cw,dG,kf,aj,cond_true]
  |none =>
   cases hv:kind f==4 with
   |false =>
    refine err H (Nat.le_refl _) (fun _ _=>rfl) (start _ ?_) (by simp[DC,hv])
    rw[lk,hn]
    simp only[cM,ak,aw,dG,kf,aj,cond_false]
    rw[aq (lu K f H),hv]
    simp only[ct,Bool.not_false,aj,cond_true]
   |true =>
    by_cases hs:bh kind (.mk un ux)=0
    ·refine err (H++X) (by simp) (fun o h=>List.getElem?_append_left (by omega)) (start _ ?_) (by simp[DC,hs])
     rw[lk,hn]
     simp only[cM,ak,aw,dG,kf,aj,cond_false]
     rw[aq (lu K f H),hv]
     simp only[ct,Bool.not_true,aj,cond_false]
     rw[aq z1,hs,bS]
     rfl
    ·obtain⟨s1,s2,_⟩:=zD hs
     have m1:(H++X)[mo]? = some (.map (bM done)):=jS hm
     have eb:bM done++[(D.str f,D.agg [.str un,.row 2 (aJ ux)])]=bM (done++[(f,.mk un ux)]):=by simp[bM,cw]
     have ih:=Ha K h0 n xs bs h62 hW hok hts hbs mo b l (done++[(f,.mk un ux)]) ((H++X).set mo (.map (bM (done++[(f,.mk un ux)])))) (by rw[e];simp) (bK _ m1) hbm (by simp;omega) (fun q hq=>by
      rcases List.mem_append.1 hq with hq|hq
      ·exact hd q hq
      ·simp at hq;rw[hq];exact⟨s1,s2⟩)
     have ea:DC kind done ((f,.mk un ux)::l)=DC kind (done++[(f,.mk un ux)]) l:=by
      have:(bh kind (.mk un ux)==0)=false:=by simpa using hs
      simp[DC,hn,hv,this]
     rw[ea]
     obtain⟨H',ds,e',w1,w2,w3⟩:=ih
     refine⟨H',ds,e',start _ ?_,⟨by have:=w2.1;simp at this;omega,fun o h=>by rw[w2.2 o h,List.getElem?_set_ne (by omega),List.getElem?_append_left (by omega)]⟩,w3⟩
     rw[lk,hn]
     simp only[cM,ak,aw,dG,kf,aj,cond_false]
     rw[aq (lu K f H),hv]
     simp only[ct,Bool.not_true,aj,cond_false]
     have e0:(((bh kind (.mk un ux):Nat):Int)==0)=false:=by simp;omega
     rw[aq z1,bS,e0]
     simp only[aj,cond_false]
     rw[Ph,fJ m1,ju,Kf f _ done hn]
     dsimp only
     rw[eb,hw2]
     exact w1
def km(kind:af->Int)(bs:List (af×Ty)):Bool:=decide (bs.length<=2000)&&DC kind [] bs
theorem Ll{kind:af->Int}(K:Dy kind)(h0:∀ d k,mD kind d (.mk [] []) k=none)(bs:List (af×Ty))(t:Ty)(H:DH)(hbs:∀ q∈bs,q.2.ok)(hok:t.ok):∃ H' ds e,aD 9 [.row 3 (bs.map fy),.agg (cw t)] H=ret (.tuple [.agg ds,.i e]) H'/\(H.length<=H'.length/\∀ o,o<H.length->H'[o]? = H[o]?) /\
 ((bh kind t=0/\e=32/\ds=[.str [],.nilrow])\/(bh kind t≠0/\((km kind bs=false/\e=1/\ds=[.str [],.nilrow])\/(km kind bs=true/\bh kind (sub (aK bs) t)=0/\e=39/\ds=[.str [],.nilrow])\/(km kind bs=true/\bh kind (sub (aK bs) t)≠0/\e=0/\ds=cw (sub (aK bs) t))))):=by
 obtain⟨X,z1⟩:=nj K t H hok
 obtain⟨n,xs⟩:=t
 have z2:=z1
 simp only[cw]at z2
 by_cases q:bh kind (.mk n xs)=0
 ·refine⟨H++X,[.str [],.nilrow],32,ev (by simp only[cw];exact f9) ?_,⟨by simp,fun o h=>List.getElem?_append_left h⟩,.inl ⟨q,rfl,rfl⟩⟩
  rw[aq z2,bS,q]
  rfl
 ·have e1:(((bh kind (.mk n xs):Nat):Int)==0)=false:=by simp;omega
  have hl:(bs.map fy).length=bs.length:=List.length_map _
  by_cases h1:bs.length<=2000
  ·have e2:decide (((bs.map fy).length:Int)>2000)=false:=by rw[hl];simp;omega
   obtain⟨w1,w2,_⟩:=zD q
   have m1:(H++X++[DB.map []])[(H++X).length]? = some (.map (bM [])):=ci _ _
   obtain⟨H',ds,e,r1,r2,r3⟩:=Ha K h0 n xs bs h1 w1 hok w2 hbs (H++X).length H.length bs [] (H++X++[.map []]) rfl m1 (by simp) (by simp) (fun _ h=>nomatch h)
   refine⟨H',ds,e,ev (by simp only[cw];exact f9) ?_,⟨by have:=r2.1;simp at this;omega,fun o h=>?_⟩,.inr ⟨q,?_⟩⟩
   ·rw[aq z2,bS,e1]
    simp only[aj,cond_false]
    rw[e2,cond_false,hl]
    exact r1
   ·rw[r2.2 o h,List.getElem?_append_left (by simp;omega),List.getElem?_append_left h]
   ·have:km kind bs=DC kind [] bs:=by simp[km,h1]
    rw[this]
    exact r3
  ·have e2:decide (((bs.map fy).length:Int)>2000)=true:=by rw[hl];simp;omega
   refine⟨H++X,[.str [],.nilrow],1,ev (by simp only[cw];exact f9) ?_,⟨by simp,fun o h=>List.getElem?_append_left h⟩,.inr ⟨q,.inl ⟨by simp[km,h1],rfl,rfl⟩⟩⟩
   rw[aq z2,bS,e1]
   simp only[aj,cond_false]
   rw[e2,cond_true]
end Go.Proofs.YtenibcfppefobaaGreatDoor
set_option linter.all false
noncomputable section
namespace Go.Proofs.YtenibcfppefobaaGreatDoor
open Go.AI
theorem Jp{kind:af->Int}(K:Dy kind)(all:List Ty)(h16:all.length<=16):∀(l pre:List Ty) (H:DH),all=pre++l->Ty.oks l ->
 ∃ X,ae ai 8 200004 [.g (.row 2 (aJ all)),.g (.row 2 (aJ all)),.n (all.length:Nat),.n (pre.length:Nat)] [] H=(if ∃ t∈l,bh kind t=0 then ret (.tuple [.row 3 [],.i 32]) (H++X)else ae ai 8 200012 [.g (.ptr ((H++X).length+1) 0),.g .nilrow,.g (.row 2 (aJ all)),.n (all.length:Nat),.n 0] [] (H++X++[.map []]++[.cells 0 [.map (H++X).length,.nilrow]]))
 |[],pre,H,e,_=>by
  refine⟨[],eL (yY) ?_⟩
  have hlt:decide ((pre.length:Int)<(all.length:Int))=false:=by rw[e];simp
  rw[hlt,cond_false,if_neg (fun⟨_,h,_⟩=>nomatch h)]
  simp only[List.append_nil,bH]
  rw[show(H++[DB.map []]).length=H.length+1 from by simp]
 |t::l,pre,H,e,hok=>by
  simp only[Ty.oks]at hok
  obtain⟨X,z1⟩:=nj K t H hok.1
  obtain⟨Y,ih⟩:=Jp K all h16 l (pre++[t]) (H++X) (by rw[e];simp) hok.2
  have hlt:decide ((pre.length:Int)<(all.length:Int))=true:=by rw[e];simp;omega
  have h2:(aJ all)[pre.length]? = some (cw t):=by rw[e];exact gG _ _ _
  have hw2:eg ((pre.length:Int)+1)=(((pre++[t]).length:Nat):Int):=by
   rw[bT (by
    have:all.length=pre.length+(l.length+1):=by rw[e];simp
    omega)];simp
  have st:∀ z,(cond (((bh kind t:Nat):Int)==0) (ret (.tuple [.row 3 [],.i 32]) (H++X)) (ae ai 8 200004 [.g (.row 2 (aJ all)),.g (.row 2 (aJ all)),.n (all.length:Nat),.n ((pre++[t]).length:Nat)] [] (H++X)))=z->ae ai 8 200004 [.g (.row 2 (aJ all)),.g (.row 2 (aJ all)),.n (all.length:Nat),.n (pre.length:Nat)] [] H=z:=fun z hz=>by
   refine eL (yY) ?_
   obtain⟨tn,tx⟩:=t
   simp only[cw]at h2 z1
   rw[hlt,cond_true,bC,bm h2]
   simp only[ak,aw]
   rw[aq z1,bS,aj,hw2]
   exact hz
  by_cases q:bh kind t=0
  ·refine⟨X,st _ ?_⟩
   rw[if_pos ⟨t,List.mem_cons_self,q⟩,q]
   rfl
  ·have e1:(((bh kind t:Nat):Int)==0)=false:=by simp;omega
   refine⟨X++Y,st _ ?_⟩
   rw[e1,cond_false,ih]
   have eq:(∃ t'∈t::l,bh kind t'=0)↔∃ t'∈l,bh kind t'=0:=by
    constructor
    ·intro⟨t',h,h0⟩
     rcases List.mem_cons.1 h with rfl|h
     ·exact(q h0).elim
     ·exact⟨t',h,h0⟩
    ·intro⟨t',h,h0⟩
     exact⟨t',List.mem_cons_of_mem _ h,h0⟩
   simp only[eq,List.append_assoc]
end Go.Proofs.YtenibcfppefobaaGreatDoor
set_option linter.all false
noncomputable section
namespace Go.Proofs.YtenibcfppefobaaGreatDoor
open Go.AI
theorem Jo{kind:af->Int}(K:Dy kind)(all:List Ty)(h16:all.length<=16)(h0 p mo:Nat)(hp0:h0<=p)(hm0:h0<=mo):∀(l pre:List Ty) (H:DH) (d dl:D) (os bs:List Nat) (N:List bw) (T:List Ty) (vs ks:List Nat),GT (fun n=>kind n==4) H p mo dl os bs N T vs->bE H d (ks.map (oN os))->(∀ a∈ks,a<N.length)->ks.map (fun a=>T[a]?)=pre.map some ->
 (∀ b n,d=.buf 1 b n->b∉bs/\h0<=b/\∀ n,dl≠.buf 1 b n)->(∀ b n,dl=.buf 1 b n->h0<=b)->h0<=H.length->all=pre++l->xj (fun n=>kind n==4) l->N.length+dn.tszs l<1000000->Cv [] N ks ->
 ∃(H':DH) (d' dl':D) (os' bs':List Nat) (N':List bw) (T':List Ty) (vs' ks':List Nat),ae ai 8 200012 [.g (.ptr p 0),.g d,.g (.row 2 (aJ all)),.n (all.length:Nat),.n (pre.length:Nat)] [] H=ae ai 8 200017 [.g (.ptr p 0),.g d',.g d',.n (all.length:Nat),.n 0] [] H' /\
  GT (fun n=>kind n==4) H' p mo dl' os' bs' N' T' vs'/\bE H' d' (ks'.map (oN os'))/\(∀ a∈ks',a<N'.length)/\ks'.map (fun a=>T'[a]?)=all.map some/\Cv [] N' ks'/\N'.length<=N.length+dn.tszs l/\(H.length<=H'.length/\∀ o,o<h0->H'[o]? = H[o]?)
 |[],pre,H,d,dl,os,bs,N,T,vs,ks,g,hd,ha,ht,b1,b2,hh,e,hw,hN,hcv=>by
  have hks:ks.length=pre.length:=by have:=congrArg List.length ht;simpa using this
  have hpre:all=pre:=by rw[e];simp
  refine⟨H,d,dl,os,bs,N,T,vs,ks,eL (yX) ?_,g,hd,ha,by rw[hpre];exact ht,hcv,Nat.le_add_right _ _,Nat.le_refl _,fun _ _=>rfl⟩
  have hlt:decide ((pre.length:Int)<(all.length:Int))=false:=by rw[hpre];simp
  rw[hlt,cond_false,hd.len,List.length_map,hks,hpre]
 |t::l,pre,H,d,dl,os,bs,N,T,vs,ks,g,hd,ha,ht,b1,b2,hh,e,hw,hN,hcv=>by
  simp only[xj]at hw
  simp only[dn.tszs]at hN
  obtain⟨H1,dl1,os1,bs1,N1,T1,vs1,i,r1,g1,r3,e1,c1⟩:=FO K t H p mo dl os bs N T vs g hw.1 (by omega)
  have hks:ks.length=pre.length:=by have:=congrArg List.length ht;simpa using this
  have hxl:all.length=pre.length+(l.length+1):=by rw[e];simp
  have dk:∀ b n,d=.buf 1 b n->H1[b]? = H[b]?/\b<H.length:=fun b n q=>by
   obtain⟨hbl,st,cp,l,hb⟩:=hd.lt q
   obtain⟨s',hp⟩:=g.pg
   exact⟨e1.efr b hbl (fun q'=>by rw[q',hp]at hb;cases hb) (fun q'=>by rw[q',g.mp]at hb;cases hb) (b1 b n q).2.2,hbl⟩
  have hko:∀ a∈ks,a<os.length:=fun a h=>by rw[g.len];exact ha a h
  have osm:ks.map (oN os1)=ks.map (oN os):=by
   obtain⟨X,q,_⟩:=e1.eos
   rw[q];exact fC hko
  have d1:bE H1 d (ks.map (oN os1)):=by rw[osm];exact hd.chg fun b n q=>(dk b n q).1
  obtain⟨d2,H2,u1,u2,u3,u4,⟨b2',n2,hd2,hb2⟩,u6⟩:=Qw d1 (by rw[List.length_map];omega) (oN os1 i)
  have db:∀ b n,d=.buf 1 b n->b∉bs1:=fun b n q h=>by
   obtain⟨X,q',x⟩:=e1.ebs
   rw[q']at h
   rcases List.mem_append.1 h with h|h
   ·exact(b1 b n q).1 h
   ·have:=x b h;have:=(dk b n q).2;omega
  have dd:∀ b n,d=.buf 1 b n->∀ n',dl1≠.buf 1 b n':=fun b n q n' q'=>by
   rcases e1.edl b n' q' with⟨n2,h⟩|h
   ·exact(b1 b n q).2.2 n2 h
   ·have:=(dk b n q).2;omega
  obtain⟨sp,hp1⟩:=g1.pg
  have cellsNe:∀ x:Nat,(∃ s c,H1[x]? = some (.cells s c))->∀ n,d≠.buf 1 x n:=fun x ⟨s,c,h⟩ n q=>by
   obtain⟨_,st,cp,l,hb⟩:=d1.lt q
   rw[h]at hb;cases hb
  have osc:∀ x∈os1,∃ s c,H1[x]? = some (.cells s c):=fun x hx=>by
   obtain⟨j,hj⟩:=List.getElem?_of_mem hx
   obtain⟨s,d,h1,_⟩:=g1.ob j _ (List.getElem?_eq_getElem (by rw[<- g1.len];exact aE hj))
   rw[show oN os1 j=x by unfold oN;rw[hj];rfl]at h1
   exact⟨s,_,h1⟩
  have g2:GT (fun n=>kind n==4) H2 p mo dl1 os1 bs1 N1 T1 vs1:=by
   refine g1.chg (fun x hx=>?_) (fun x hx=>?_) ⟨sp,?_⟩ (fun x n q=>?_) ?_ u3
   ·obtain⟨s,c,h⟩:=osc x hx
    exact u4 x (aE h) (cellsNe x ⟨s,c,h⟩)
   ·exact u4 x (g1.bb x hx) (fun n q=>db x n q hx)
   ·rw[u4 p (aE hp1) (cellsNe p ⟨_,_,hp1⟩),hp1]
   ·obtain⟨h1,st,cp,l,hb⟩:=g1.al.lt q
    exact u4 x h1 (fun n' q'=>dd x n' q' n q)
   ·exact u4 mo (aE g1.mp) (fun n q=>by obtain⟨_,st,cp,l,hb⟩:=d1.lt q;rw[g1.mp]at hb;cases hb)
  have i1:i<N1.length:=by rw[<- g1.gn.len];exact aE r3
  obtain⟨H',d',dl',os',bs',N',T',vs',ks',w1,w2,w3,w4,w5,wcv,wl,w6⟩:=Jo K all h16 h0 p mo hp0 hm0 l (pre++[t]) H2 d2 dl1 os1 bs1 N1 T1 vs1 (ks++[i]) g2 (by rw[List.map_append];exact u2) (fun a h=>by
   rcases List.mem_append.1 h with h|h
   ·obtain⟨X,q⟩:=e1.eN
    have:=ha a h
    rw[q];simp;omega
   ·simp at h;rw[h];exact i1) (by
   obtain⟨X,q⟩:=e1.eT
   rw[List.map_append,List.map_append]
   congr 1
   ·rw[<- ht,q]
    refine List.map_congr_left fun a h=>List.getElem?_append_left ?_
    rw[g.gn.len];exact ha a h
   ·simp[r3]) (fun b n q=>by
   rw[hd2]at q;cases q
   rcases hb2 with⟨n',q⟩|q
   ·exact⟨db _ n' q,(b1 _ n' q).2.1,dd _ n' q⟩
   ·refine⟨fun h=>by have:=g1.bb _ h;omega,by have:=e1.elen;omega,fun n q'=>?_⟩
    have:=(g1.al.lt q').1
    omega) (fun b n q=>by
   rcases e1.edl b n q with⟨n',h⟩|h
   ·exact b2 b n' h
   ·omega) (by have:=e1.elen;omega) (by rw[e];simp) hw.2 (by have:=e1.ek;omega) (hcv.snoc c1 e1.eN)
  refine⟨H',d',dl',os',bs',N',T',vs',ks',eL (yX) ?_,w2,w3,w4,w5,wcv,(by have:=e1.ek;simp only[dn.tszs];omega),⟨by have:=e1.elen;have:=w6.1;omega,fun o h=>?_⟩⟩
  ·have hlt:decide ((pre.length:Int)<(all.length:Int))=true:=by rw[hxl];simp;omega
   have h2:(aJ all)[pre.length]? = some (cw t):=by rw[e];exact gG _ _ _
   have hw2:eg ((pre.length:Int)+1)=(((pre++[t]).length:Nat):Int):=by
    rw[bT (by omega)];simp
   obtain⟨tn,ts⟩:=t
   simp only[cw]at h2 r1
   rw[hlt,cond_true,bC,bm h2]
   simp only[ak,aw]
   rw[aq r1,GO,u1,hw2]
   exact w1
  ·rw[w6.2 o h,u4 o (by have:=e1.elen;omega) (fun n q=>by have:=(b1 o n q).2.1;omega),e1.efr o (by omega) (by omega) (by omega) (fun n q=>by have:=b2 o n q;omega)]
end Go.Proofs.YtenibcfppefobaaGreatDoor
set_option linter.all false
noncomputable section
namespace Go.Proofs.YtenibcfppefobaaGreatDoor
open Go.AI
theorem GT.gr{isV:af->Bool}{H:DH}{p mo:Nat}{dl:D}{os bs:List Nat}{N:List bw}{T:List Ty}{vs:List Nat}(g:GT isV H p mo dl os bs N T vs):cr H os N (N.map fun _=>none)/\Wf (N.map fun _=>none)/\Hm N (N.map fun _=>none) []:=by
 have hl:∀(i:Nat) (x:Option Nat),(N.map fun _=>(none:Option Nat))[i]? = some x->x=none:=fun i x h=>by
  rw[List.getElem?_map]at h
  cases q:N[i]? with
  |none=>rw[q]at h;cases h
  |some y=>rw[q]at h;cases h;rfl
 refine⟨⟨g.len,by simp,g.nd,fun i x hx=>?_,fun i x hx a ha=>?_,(fun i j h=>by cases hl i _ h),g.sm⟩,fun i h=>⟨i,0,.z ?_⟩,(fun i j x h=>by cases hl i _ h)⟩
 ·obtain⟨s,d,h1,h2,_⟩:=g.ob i x hx
  have:(N.map fun _=>(none:Option Nat))[i]? = some none:=by rw[List.getElem?_map,hx];rfl
  exact⟨s,d,by rw[this];exact h1,h2⟩
 ·have:=g.gn.kid i x hx a ha
  have:=aE hx
  omega
 ·have h':i<N.length:=by simpa using h
  rw[List.getElem?_map,List.getElem?_eq_getElem h'];rfl
theorem bE.els{H H':DH}{os:List Nat}{N:List bw}{L:Lk}(g:cr H os N L)(k:uo H H' os){d:D}{l:List Nat}(h:bE H d l):bE H' d l:=by
 refine h.chg fun o n e=>?_
 obtain⟨h1,st,cp,l',h2⟩:=h.lt e
 exact k.at' o h1 fun q=>by obtain⟨s,c,e⟩:=g.nm q;rw[e]at h2;cases h2
def Hs(d:D)(p:Nat)(H:DH):ag:=C ai 25 [d] H fun a H=>rl .not a fun a=>brD a (ret (.tuple [.row 3 [],.i 31]) H) (aF H p fun _ a=>aC a 1 fun a=>fq ab 71 a H fun b=>ae ai 8 200026 [.g .nilrow,.g a,.g b,.n 0] [] H)
theorem Jn{os:List Nat}{N:List bw}{d:D}{p:Nat}{ks:List Nat}(h16:ks.length<=16){a0:Nat}(h0:ks[0]? = some a0)(hk:∀ a∈ks,a<N.length):∀(l pre:List Nat) (H:DH) (L:Lk),cr H os N L->Wf L->bE H d (ks.map (oN os))->ks=pre++l ->
 ∃ q H' L',ae ai 8 200017 [.g (.ptr p 0),.g d,.g d,.n (ks.length:Nat),.n (pre.length:Nat)] [] H=(match q with|true=>Hs d p H'|false=>ret (.tuple [.row 3 [],.i 30]) H')/\cr H' os N L'/\US N L (l.map fun a=>(a0,a)) q L'/\uo H H' os
 |[],pre,H,L,g,hw,hd,e=>by
  refine⟨true,H,L,eL (si) ?_,g,.nil hw,.refl _ _⟩
  have hlt:decide ((pre.length:Int)<(ks.length:Int))=false:=by rw[e];simp
  rw[hlt,cond_false]
  rfl
 |a::l,pre,H,L,g,hw,hd,e=>by
  have ia:(ks.map (oN os))[pre.length]? = some (oN os a):=by rw[List.getElem?_map,e];simp
  have i0:(ks.map (oN os))[0]? = some (oN os a0):=by rw[List.getElem?_map,h0];rfl
  have hlt:decide ((pre.length:Int)<(ks.length:Int))=true:=by rw[e];simp;omega
  have hw2:eg ((pre.length:Int)+1)=(((pre++[a]).length:Nat):Int):=by
   rw[bT (by
    have:ks.length=pre.length+(l.length+1):=by rw[e];simp
    omega)];simp
  obtain⟨q,H1,L1,r1,r2,r3,r4⟩:=QQ g hw (hk a0 (List.mem_of_getElem? h0)) (hk a (by rw[e];simp))
  have st:∀ z,(match q with|true=>ae ai 8 200017 [.g (.ptr p 0),.g d,.g d,.n (ks.length:Nat),.n ((pre++[a]).length:Nat)] [] H1|false=>ret (.tuple [.row 3 [],.i 30]) H1)=z->ae ai 8 200017 [.g (.ptr p 0),.g d,.g d,.n (ks.length:Nat),.n (pre.length:Nat)] [] H=z:=fun z hz=>by
   refine eL (si) ?_
   have at0:=hd.at' i0 (κ:=fun e=>C ai 24 [e,.ptr (oN os a) 0] H fun d_1 H=>rl .not d_1 fun d_1=>brD d_1 (ret (.tuple [.row 3 [],.i 30]) H) (ae ai 8 200017 [.g (.ptr p 0),.g d,.g d,.n (ks.length:Nat),.n (eg ((pre.length:Nat)+1))] [] H))
   rw[show((0:Nat):Int)=0 from rfl]at at0
   rw[hlt,cond_true,hd.at' ia,at0,aq r1]
   simp only[ct,aj]
   rw[hw2,<- hz]
   cases q<;>simp only[Bool.not_true,Bool.not_false,cond_true,cond_false]
  cases q with
  |false=>exact⟨false,H1,L1,st _ rfl,r2,.stop r3,r4⟩
  |true =>
   obtain⟨q',H2,L2,w1,w2,w3,w4⟩:=Jn h16 h0 hk l (pre++[a]) H1 L1 r2 r3.wf (hd.els g r4) (by rw[e];simp)
   exact⟨q',H2,L2,st _ w1,w2,.cons r3 w3,r4.trans w4⟩
end Go.Proofs.YtenibcfppefobaaGreatDoor
set_option linter.all false
noncomputable section
namespace Go.Proofs.YtenibcfppefobaaGreatDoor
open Go.AI
theorem DW{m:Nat}(h:m<=4194304):br ab 52 m=true:=by
 have e:br ab 52 m=(Nat.ble (56*(m+Nat.div m 4+600)) 281474976710656&&Nat.ble m 4611686018427387904):=by kernel_rfl
 rw[e,Bool.and_eq_true]
 have h1:Nat.div m 4<=m:=Nat.div_le_self m 4
 exact⟨Nat.ble_eq_true_of_le (by omega),Nat.ble_eq_true_of_le (by omega)⟩
structure Kq(H H':DH):Prop where
 len:H.length<=H'.length
 nb:∀ o,o<H.length->(∀ st cp l,H[o]?≠some (.buf 3 st cp l))->H'[o]? = H[o]?
theorem Ac.add3{H:DH}{l:gi}{d:D}(h:Ac H 0 3 l d)(hl:l.length<4194304)(x:List D):∃ d' H',(∀ κ:D->DH->ag,fN (br ab 52) 3 d [x] H κ=κ d' H')/\Ac H' 0 3 (l++[x]) d'/\Kq H H':=by
 rcases h with⟨rfl,rfl⟩|⟨o,ho,rfl,h⟩
 ·refine⟨.buf 3 H.length 1,H++[.buf 3 true false [x]],fun κ=>?_,.inr ⟨H.length,Nat.zero_le _,rfl,ci _ _⟩,⟨by simp,fun o h _=>List.getElem?_append_left h⟩⟩
  simp only[fN,List.length_singleton,DW (show 1<=4194304 by decide),boK,cond_true]
  rfl
 ·refine⟨.buf 3 o (l++[x]).length,H.set o (.buf 3 true false (l++[x])),fun κ=>?_,.inr ⟨o,ho,rfl,bK _ h⟩,⟨by simp,fun o' _ q=>List.getElem?_set_ne (fun e=>q _ _ _ (e▸h))⟩⟩
  have h4:=fc h (κ:=fun _ st cap l2=>boK (br ab 52 (l2.length+1)&&!(cap&&List.isEmpty [x])) (grow o 3 st cap l2 [x] H κ))
  simp only[fN,List.length_singleton,DW (show 1<=4194304 by decide),boK,cond_true,Nat.beq_refl]
  refine Eq.trans h4 ?_
  rw[DW (by omega)]
  simp only[List.isEmpty_cons,Bool.and_false,Bool.not_false,Bool.and_self,boK,cond_true,grow,cond_false]
  simp
theorem Ac.fz3{H:DH}{l:gi}{d:D}(h:Ac H 0 3 l d):∃ H',∀ κ:D->DH->ag,mE (.fz 3) 0 d H κ=κ (.row 3 l) H':=by
 rcases h with⟨rfl,rfl⟩|⟨o,ho,rfl,h⟩
 ·exact⟨H,fun _=>rfl⟩
 ·refine⟨H.set o (.buf 3 false false l),fun κ=>?_⟩
  show ij (.fz 3) (.buf 3 o l.length) H κ=_
  rw[ij,fc h]
  rfl
theorem Ac.mv{H H':DH}{l:gi}{d:D}{z:Nat}(h:Ac H 0 z l d)(k:∀(o:Nat) (st cp:Bool) (l:gi),H[o]? = some (DB.buf z st cp l)->H'[o]? = H[o]?):Ac H' 0 z l d:=by
 rcases h with⟨rfl,rfl⟩|⟨o,ho,rfl,h⟩
 ·exact .inl ⟨rfl,rfl⟩
 ·exact .inr ⟨o,ho,rfl,by rw[k o _ _ _ h,h]⟩
theorem cr.kq{H H':DH}{os:List Nat}{N:List bw}{L:Lk}(g:cr H os N L)(k:Kq H H'):cr H' os N L :=
 ⟨g.len,g.lenL,g.nd,fun i x hx=>by
  obtain⟨s,d,h1,h2⟩:=g.ob i x hx
  exact⟨s,d,by rw[k.nb _ (aE h1) (fun _ _ _ e=>by rw[h1]at e;cases e),h1],by
   rcases h2 with⟨rfl,e⟩|⟨o,st,cp,rfl,h⟩
   ·exact .inl ⟨rfl,e⟩
   ·exact .inr ⟨o,st,cp,rfl,by rw[k.nb _ (aE h) (fun _ _ _ e=>by rw[h]at e;cases e),h]⟩⟩,g.kid,g.lk,g.sm⟩
theorem Tr.hasRt{N:List bw}{L:Lk}{i:Nat}{t:Ty}(h:Tr N L i t):∃ r m,Rt L i r m:=by cases h with
 |var h _ _=>exact⟨_,_,h⟩
 |con h _ _ _=>exact⟨_,_,h⟩
def ug(N:List bw)(rt:Nat->Bool)(ty:Nat->Ty):List Nat->List (af×Ty)
 |[]=>[]
 |v::r=>if rt v then ug N rt ty r else(jU N v,ty v)::ug N rt ty r
def UU(N:List bw)(rt:Nat->Bool)(ty:Nat->Ty)(done:List (af×Ty))(l:List Nat)(w:ag):Prop :=
 (∃ H',w=ret (.tuple [.row 3 [],.i 39]) H')\/(∃ H',w=ret (.tuple [.row 3 ((done++ug N rt ty l).map fy),.i 0]) H')/\∀ v∈l,rt v=false->dn (ty v)<=2000/\IK (ty v)<=100
theorem DN{os:List Nat}{N:List bw}{d:D}{all:List Nat}(hall:all.length<4194304)(rt:Nat->Bool)(ty:Nat->Ty)(hv:∀(i:Nat) (x:bw),N[i]? = some x->x.v=true->x.a=[])(hk:∀ a∈all,a<N.length):∀(l pre:List Nat) (H:DH) (L:Lk) (done:List (af×Ty)) (a:D),cr H os N L->(∀ i,i<N.length->Tr N L i (ty i))->(∀ i,i<N.length->(rt i=true↔L[i]? = some none))->bE H d (all.map (oN os))->Ac H 0 3 (done.map fy) a->all=pre++l->done.length<=pre.length ->
 UU N rt ty done l (ae ai 8 200026 [.g a,.g d,.n (all.length:Nat),.n (pre.length:Nat)] [] H)
 |[],pre,H,L,done,a,g,ht,hr,hd,ha,e,hl=>by
  have hlt:decide ((pre.length:Int)<(all.length:Int))=false:=by rw[e];simp
  obtain⟨H',u⟩:=ha.fz3
  refine .inr ⟨⟨H',eL (yW) ?_⟩,fun _ h=>nomatch h⟩
  rw[hlt,cond_false,u]
  simp[ug]
 |v::l,pre,H,L,done,a,g,ht,hr,hd,ha,e,hl=>by
  have hlt:decide ((pre.length:Int)<(all.length:Int))=true:=by rw[e];simp;omega
  have hw2:eg ((pre.length:Int)+1)=(((pre++[v]).length:Nat):Int):=by
   rw[bT (by
    have:all.length=pre.length+(l.length+1):=by rw[e];simp
    omega)];simp
  have iv:(all.map (oN os))[pre.length]? = some (oN os v):=by rw[List.getElem?_map,e];simp
  have lv:v<N.length:=hk v (by rw[e];simp)
  have hrt:=(ht v lv).hasRt
  obtain⟨r,m,hrt⟩:=hrt
  obtain⟨H1,L1,r1,g1,q1,l1⟩:=QV g hrt
  obtain⟨m1,_,hr1⟩:=q1.rt _ _ _ hrt
  have lr:r<N.length:=by rw[<- g1.lenL];exact aE hr1.root
  have x0:=List.getElem?_eq_getElem lv
  generalize N[v]=x at x0
  have y0:=List.getElem?_eq_getElem lr
  generalize N[r]=y at y0
  obtain⟨s0,dx,ox,_⟩:=g1.ob v x x0
  obtain⟨s1,dy,oy,_⟩:=g1.ob r y y0
  have ht1:∀ i,i<N.length->Tr N L1 i (ty i):=fun i hi=>(ht i hi).eqv q1
  have hr1':∀ i,i<N.length->(rt i=true↔L1[i]? = some none):=fun i hi=>(hr i hi).trans (q1.ro i)
  have hd1:=hd.els g l1
  have ha1:Ac H1 0 3 (done.map fy) a:=ha.mv fun o st cp l h=>l1.at' o (aE h) fun q=>(by obtain⟨s,c,e⟩:=g.nm q;rw[e]at h;cases h)
  have nmo:jU N v=x.n:=by simp[jU,x0]
  have beqo:Nat.beq (oN os r) (oN os v)=rt v:=by
   cases q:rt v with
   |true =>
    have:r=v:=((hr1.det (.z ((hr1' v lv).1 q))).1)
    rw[this,Nat.beq_refl]
   |false =>
    refine Bf fun e'=>?_
    have e2:r=v:=rK g1.nd (by rw[g1.len];exact lr) (by rw[g1.len];exact lv) e'
    have:=(hr1' v lv).2 (by rw[<- e2];exact hr1.root)
    rw[this]at q;cases q
  have o1:∀(v w:Int) (κ:List D->ag),az [D.i v] 0 [.i w] κ=κ [.i w]:=fun _ _ _=>rfl
  have base:∀ z,(cond (rt v) (ae ai 8 200026 [.g a,.g d,.n (all.length:Nat),.n ((pre++[v]).length:Nat)] [] H1) (C ai 27 [.ptr (oN os v) 0,.i (1:Nat),.ptr H1.length 0,.func 28 [] []] (H1++[.cells 1 [.i ((0:Nat):Int)]]) fun f g=>ah 2 f fun f=>az [.str [],.nilrow] 0 f fun f=>aF g H1.length fun _ h=>aC h 0 fun h=>aB ab .gtr 3 true h (.i 2000) fun h=>brD h (ret (.tuple [.row 3 [],.i 39]) g) (eu (.ptr (oN os v) 0) fun n=>dt n 1 fun n=>ft ab 9 n g fun n=>aC f 0 fun h=>aC f 1 fun f=>ah 1 n fun n=>az [.str [],.str [],.nilrow] 0 n fun n=>az n 1 [h,f] fun n=>ah 3 (.agg n) fun n=>fN (br ab 52) 3 a [n] g fun a H=>ae ai 8 200026 [.g a,.g d,.n (all.length:Nat),.n ((pre++[v]).length:Nat)] [] H)))=z->ae ai 8 200026 [.g a,.g d,.n (all.length:Nat),.n (pre.length:Nat)] [] H=z:=fun z hz=>by
   refine eL (yW) ?_
   rw[hlt,cond_true,hd.at' iv,aq r1,TP (fT oy) (fT ox),beqo,aj,hw2,ac (ci _ _),o1,nl]
   exact hz
  cases hq:rt v with
  |true =>
   have ih:=DN hall rt ty hv hk l (pre++[v]) H1 L1 done a g1 ht1 hr1' hd1 ha1 (by rw[e];simp) (by simp;omega)
   rw[base _ (by rw[hq,cond_true])]
   rcases ih with ih|⟨⟨H',ih⟩,ih2⟩
   ·exact .inl ih
   ·refine .inr ⟨⟨H',by rw[ih];simp[ug,hq]⟩,fun v' h h0=>?_⟩
    rcases List.mem_cons.1 h with rfl|h
    ·rw[hq]at h0;cases h0
    ·exact ih2 v' h h0
  |false =>
   have gX:cr (H1++[.cells 1 [.i ((0:Nat):Int)]]) os N L1:=g1.app
   have pX:(H1++[DB.cells 1 [.i ((0:Nat):Int)]])[H1.length]? = some (.cells 1 [.i ((0:Nat):Int)]):=ci _ _
   obtain⟨H2,L2,s2,c2,t2,w1,w2,w3,w4,w5,w6,w7⟩:=yl (ty v) _ os N L1 v H1.length 1 0 1 gX hv (ht1 v lv) pX (fun q=>by have:=g1.ltm q;omega) (by omega) (by omega)
   rw[base _ rfl,hq,cond_false,aq w1]
   obtain⟨tn,tx⟩:=t2
   rw[show ∀ κ:List D->ag,(ah 2 (.agg (cw (.mk tn tx))) fun f=>az [.str [],.nilrow] 0 f κ)=κ (cw (.mk tn tx))from fun κ=>by simp only[cw];rfl]
   rw[ac w5,ak,gh]
   by_cases h2:c2<=2000
   ·have e1:decide (((c2:Nat):Int)>2000)=false:=by simp;omega
    obtain⟨z1,z2,z3⟩:=w7 h2
    obtain⟨s3,d3,o3,_⟩:=w2.ob v x x0
    rw[e1]
    simp only[aj,cond_false,Ff,ER,SU,Nat.zero_add]
    rw[ac o3]
    simp only[fk,ak,aw,cw]
    obtain⟨a',H3,u1,u2,u3⟩:=(show Ac H2 0 3 (done.map fy) a from ha1.mv fun o st cp l h=>by rw[w4.at' o (by have:=aE h;simp;omega) (fun q=>by obtain⟨s,c,e⟩:=g1.nm q;rw[e]at h;cases h) (by have:=aE h;omega),List.getElem?_append_left (aE h)]).add3 (by rw[List.length_map];have:all.length=pre.length+(l.length+1):=(by rw[e];simp);omega) (fy (jU N v,ty v))
    rw[show ∀ κ:List D->ag,(ah 1 (.str x.n) fun n=>az [.str [],.str [],.nilrow] 0 n fun n=>az n 1 [.str tn,.row 2 (aJ tx)] fun n=>ah 3 (.agg n) κ)=κ (fy (jU N v,ty v))from fun κ=>by rw[<- z1,nmo];simp only[fy,cw];rfl]
    rw[u1]
    have ih:=DN hall rt ty hv hk l (pre++[v]) H3 L2 (done++[(jU N v,ty v)]) a' (w2.kq u3) (fun i hi=>(ht1 i hi).eqv w3) (fun i hi=>(hr1' i hi).trans (w3.ro i)) (by
     refine hd1.chg fun o n q=>?_
     obtain⟨h1,st,cp,l,h2⟩:=hd1.lt q
     have h3:H2[o]? = H1[o]?:=by rw[w4.at' o (by simp;omega) (fun q=>by obtain⟨s,c,e⟩:=g1.nm q;rw[e]at h2;cases h2) (by omega),List.getElem?_append_left h1]
     rw[u3.nb o (by have:=w4.len;simp at this;omega) (fun _ _ _ e=>by rw[h3,h2]at e;cases e),h3]) (by simpa using u2) (by rw[e];simp) (by simp;omega)
    rcases ih with ih|⟨⟨H',ih⟩,ih2⟩
    ·exact .inl ih
    ·refine .inr ⟨⟨H',by rw[ih];simp[ug,hq]⟩,fun v' h h0=>?_⟩
     rcases List.mem_cons.1 h with rfl|h
     ·exact⟨by omega,by omega⟩
     ·exact ih2 v' h h0
   ·have e1:decide (((c2:Nat):Int)>2000)=true:=by simp;omega
    rw[e1]
    simp only[aj,cond_true]
    exact .inl ⟨_,rfl⟩
end Go.Proofs.YtenibcfppefobaaGreatDoor
set_option linter.all false
noncomputable section
namespace Go.Proofs.YtenibcfppefobaaGreatDoor
open Go.AI
theorem Cv.all{N:List bw}{ks:List Nat}{P:Nat->Prop}(h:Cv [] N ks)(kid:∀(i:Nat) (x:bw),N[i]? = some x->∀ a∈x.a,a<i)(h1:∀ a∈ks,P a)(h2:∀(i:Nat) (x:bw),N[i]? = some x->P i->∀ a∈x.a,P a):∀ i,i<N.length->P i:=by
 have key:∀ n i,i<N.length->N.length - i<=n->P i:=fun n=>by
  induction n with
  |zero=>intro i hi hn;omega
  |succ n ih =>
   intro i hi hn
   rcases h i (Nat.zero_le _) hi with h|⟨m,x,hx,ha⟩
   ·exact h1 i h
   ·have:=kid m x hx i ha
    have:=aE hx
    exact h2 m x hx (ih m (by omega) (by omega)) i ha
 exact fun i hi=>key _ i hi (Nat.le_refl _)
theorem Hm.rt{N:List bw}{L:Lk}(hc:Hm N L []){i r n:Nat}(h:Rt L i r n):∀(x:bw),N[i]? = some x->x.v=false->∃ y,N[r]? = some y/\y.v=false/\x.n=y.n/\x.a.length=y.a.length/\∀(α:Type) (f:Nat->α),eA L f->x.a.map f=y.a.map f:=by
 induction h with
 |z _=>exact fun x hx hv=>⟨x,hx,hv,rfl,rfl,fun _ _ _=>rfl⟩
 |s h _ ih =>
  intro x hx hv
  obtain⟨y,a1,a2,a3,a4,a5⟩:=hc _ _ _ h hx hv
  obtain⟨z,b1,b2,b3,b4,b5⟩:=ih y a1 a2
  exact⟨z,b1,b2,a3.trans b3,a4.trans b4,fun α f hf=>(a5 α f hf (fun _ q=>nomatch q)).trans (b5 α f hf)⟩
theorem Tr.resp(N:List bw)(L:Lk)(hw:Wf L)(hl:∀ i j:Nat,L[i]? = some (some j)->j<L.length):eA L fun i=>∃ t,Tr N L i t:=fun i j h=>by
 obtain⟨r,n,k⟩:=hw j (hl i j h)
 refine propext ⟨fun⟨t,ht⟩=>⟨t,.of_rt k (ht.rt (.s h k))⟩,fun⟨t,ht⟩=>⟨t,.of_rt (.s h k) (ht.rt k)⟩⟩
theorem Tr.kid{N:List bw}{L:Lk}(hc:Hm N L [])(hw:Wf L)(hl:∀ i j:Nat,L[i]? = some (some j)->j<L.length)(hv:∀(i:Nat) (x:bw),N[i]? = some x->x.v=true->x.a=[]){i:Nat}{x:bw}(hx:N[i]? = some x){t:Ty}(ht:Tr N L i t):∀ a∈x.a,∃ t,Tr N L a t:=fun a ha=>by
 cases q:x.v with
 |true=>rw[hv i x hx q]at ha;cases ha
 |false =>
  obtain⟨r,n,hr⟩:=ht.hasRt
  obtain⟨y,y1,y2,y3,_,y4⟩:=hc.rt hr x hx q
  have ht':=ht.rt hr
  have hts:∃ ts,sE N L y.a ts:=by
   cases ht' with
   |var k1 k2 k3=>obtain⟨rfl,_⟩:=k1.det (.z hr.root);rw[y1]at k2;cases k2;rw[y2]at k3;cases k3
   |con k1 k2 k3 k4=>obtain⟨rfl,_⟩:=k1.det (.z hr.root);rw[y1]at k2;cases k2;exact⟨_,k4⟩
  obtain⟨ts,hts⟩:=hts
  have e:=y4 Prop _ (Tr.resp N L hw hl)
  have all:∀ {l ts},sE N L l ts->∀ p∈l.map (fun i=>∃ t,Tr N L i t),p:=fun {l ts} h=>by
   induction l generalizing ts with
   |nil=>intro p hp;cases hp
   |cons b l ih =>
    cases h with
    |cons h1 h2 =>
    intro p hp
    rw[List.map_cons]at hp
    rcases List.mem_cons.1 hp with rfl|hp
    ·exact⟨_,h1⟩
    ·exact ih h2 p hp
  have:=all hts
  rw[<- e]at this
  exact this _ (List.mem_map_of_mem ha)
mutual
def BB(kind:af->Int):Ty->Prop
 |.mk n xs=>nQ kind n xs.length=true/\tp kind xs
def tp(kind:af->Int):List Ty->Prop
 |[]=>True
 |t::r=>BB kind t/\tp kind r
end
theorem pC{kind:af->Int}:∀ {l:List Ty},tp kind l↔∀ t∈l,BB kind t
 |[]=>by simp[tp]
 |t::r=>by rw[tp,pC (l:=r)];simp
mutual
theorem Og{kind:af->Int}:∀ {t:Ty} {d c k:Nat},mD kind d t c=some k->BB kind t
 |.mk n xs,d,c,k,h=>by
  unfold mD at h
  split at h
  ·rename_i q
   exact⟨q.1,KC h⟩
  ·cases h
theorem KC{kind:af->Int}:∀ {l:List Ty} {d c k:Nat},iQ kind d l c=some k->tp kind l
 |[],_,_,_,_=>trivial
 |t::r,d,c,k,h=>by
  unfold iQ at h
  cases q:mD kind d t c with
  |none=>rw[q]at h;cases h
  |some c'=>rw[q]at h;exact⟨Og q,KC h⟩
end
mutual
theorem Ov{kind:af->Int}:∀ {t:Ty} {d c:Nat},BB kind t->c+dn t<=2000->d+IK t<=101->mD kind d t c=some (c+dn t)
 |.mk n xs,d,c,h,h1,h2=>by
  simp only[BB]at h
  simp only[dn]at h1 ⊢
  simp only[IK]at h2
  unfold mD
  rw[if_pos ⟨h.1,by omega,by omega⟩,Lw h.2 (by omega) (by omega)]
  congr 1;omega
theorem Lw{kind:af->Int}:∀ {l:List Ty} {d c:Nat},tp kind l->c+dn.tszs l<=2000->d+wt l<=101->iQ kind d l c=some (c+dn.tszs l)
 |[],_,_,_,_,_=>by simp[iQ,dn.tszs]
 |t::r,d,c,h,h1,h2=>by
  simp only[tp]at h
  simp only[dn.tszs]at h1 ⊢
  simp only[wt]at h2
  unfold iQ
  rw[Ov h.1 (by omega) (by omega)]
  simp only
  rw[Lw h.2 (by omega) (by omega)]
  congr 1;omega
end
theorem FM{kind:af->Int}{n:af}{k:Nat}(h:nQ kind n k=true):k<=16:=by
 unfold nQ at h
 split at h
 ·simp at h;omega
 ·split at h
  ·simp at h;omega
  ·split at h
   ·simp at h;omega
   ·split at h
    ·rename_i q;simp at q;omega
    ·simp at h;omega
theorem OC{kind:af->Int}(k1:(kind [45,62]==4)=false)(k2:(kind [44]==4)=false){n:af}{k:Nat}(h:nQ kind n k=true)(hv:(kind n==4)=true):k=0:=by
 unfold nQ at h
 split at h
 ·simp at h;omega
 ·split at h
  ·rename_i q;have:n=[45,62]:=by simpa using q
   rw[this,k1]at hv;cases hv
  ·split at h
   ·rename_i q;have:n=[44]:=by simpa using q
    rw[this,k2]at hv;cases hv
   ·split at h
    ·rename_i q;simp at q;omega
    ·have e:kind n=4:=by simpa using hv
     rw[e]at h;simp at h
mutual
theorem QR{kind:af->Int}(k1:(kind [45,62]==4)=false)(k2:(kind [44]==4)=false):∀ {t:Ty},BB kind t->FL (fun n=>kind n==4) t
 |.mk n xs,h=>by
  simp only[BB]at h
  exact⟨FM h.1,fun hv=>List.length_eq_zero_iff.1 (OC k1 k2 h.1 hv),DF k1 k2 h.2⟩
theorem DF{kind:af->Int}(k1:(kind [45,62]==4)=false)(k2:(kind [44]==4)=false):∀ {l:List Ty},tp kind l->xj (fun n=>kind n==4) l
 |[],_=>trivial
 |t::r,h=>⟨QR k1 k2 h.1,DF k1 k2 h.2⟩
end
mutual
theorem uu{kind:af->Int}:∀ {t:Ty},BB kind t->t.ok
 |.mk n xs,h=>by
  simp only[BB]at h
  exact⟨by have:=FM h.1;omega,zu h.2⟩
theorem zu{kind:af->Int}:∀ {l:List Ty},tp kind l->Ty.oks l
 |[],_=>trivial
 |t::r,h=>⟨uu h.1,zu h.2⟩
end
theorem QC{kind:af->Int}{t:Ty}(h:BB kind t)(h1:dn t<=2000)(h2:IK t<=100):bh kind t≠0:=by
 unfold bh
 rw[Ov h (by omega) (by omega),Option.getD_some]
 cases t;simp only[dn];omega
theorem zE{kind:af->Int}{t:Ty}(h:bh kind t≠0):BB kind t:=by
 unfold bh at h
 cases q:mD kind 1 t 0 with
 |none=>rw[q]at h;exact(h rfl).elim
 |some k=>exact Og q
end Go.Proofs.YtenibcfppefobaaGreatDoor
set_option linter.all false
noncomputable section
namespace Go.Proofs.YtenibcfppefobaaGreatDoor
open Go.AI
structure Ub(kind:af->Int)(all:List Ty)(bs:List (af×Ty)):Prop where
 good:km kind bs=true
 ok:∀ q∈bs,q.2.ok
 eq:∀ t∈all,∀ t'∈all,sub (aK bs) t=sub (aK bs) t'
 idem:∀ t∈all,sub (aK bs) (sub (aK bs) t)=sub (aK bs) t
 gen:∀ s,Vs (fun n=>kind n==4) s->(∀ t∈all,∀ t'∈all,sub s t=sub s t')->∀ t∈all,sub s (sub (aK bs) t)=sub s t
theorem qm{N:List bw}{rt:Nat->Bool}{ty:Nat->Ty}{n:af}{t:Ty}:∀ {l:List Nat},aK (ug N rt ty l) n=some t->∃ w∈l,rt w=false/\jU N w=n/\ty w=t
 |[],h=>by simp[ug,aK]at h
 |v::l,h=>by
  unfold ug at h
  cases q:rt v with
  |true =>
   rw[q]at h
   obtain⟨w,a1,a2⟩:=qm (l:=l) h
   exact⟨w,List.mem_cons_of_mem _ a1,a2⟩
  |false =>
   rw[q]at h
   simp only[Bool.false_eq_true,if_false,aK]at h
   split at h
   ·rename_i e
    cases h
    exact⟨v,List.mem_cons_self,q,by simpa using Eq.symm (by simpa using e),rfl⟩
   ·obtain⟨w,a1,a2⟩:=qm (l:=l) h
    exact⟨w,List.mem_cons_of_mem _ a1,a2⟩
theorem yC{N:List bw}{rt:Nat->Bool}{ty:Nat->Ty}:∀ {l:List Nat},(∀ v∈l,∀ w∈l,jU N v=jU N w->v=w)->∀ v∈l,aK (ug N rt ty l) (jU N v)=if rt v then none else some (ty v)
 |[],_,v,h=>nomatch h
 |u::l,hi,v,h=>by
  have ih:=yC (N:=N) (rt:=rt) (ty:=ty) (l:=l) fun v hv w hw=>hi v (List.mem_cons_of_mem _ hv) w (List.mem_cons_of_mem _ hw)
  cases q:rt v with
  |true =>
   rw[if_pos rfl]
   cases e:aK (ug N rt ty (u::l)) (jU N v)with
   |none=>rfl
   |some t =>
    obtain⟨w,a1,a2,a3,_⟩:=qm e
    rw[hi w a1 v h a3,q]at a2;cases a2
  |false =>
   rw[if_neg (by simp)]
   by_cases e:v=u
   ·subst e
    simp[ug,q,aK]
   ·have hv:v∈l:=by rcases List.mem_cons.1 h with h|h;exact(e h).elim;exact h
    have hn:jU N v≠jU N u:=fun k=>e (hi v h u List.mem_cons_self k)
    have hn':(jU N v==jU N u)=false:=by simpa using hn
    have:=ih v hv
    rw[q,if_neg (by simp)]at this
    unfold ug
    cases rt u with
    |true=>simpa using this
    |false=>simp only[Bool.false_eq_true,if_false,aK,if_neg hn];exact this
theorem yD{n:af}{x:af×Ty}:∀ {done:List (af×Ty)},aK done n=none->x.1≠n->aK (done++[x]) n=none
 |[],_,h=>by
  obtain⟨a,b⟩:=x
  simp only[List.nil_append,aK]
  rw[if_neg (fun q=>h q.symm)]
 |(a,b)::r,h,k=>by
  simp only[aK]at h
  split at h
  ·cases h
  ·rename_i q
   simp only[List.cons_append,aK]
   rw[if_neg q]
   exact yD h k
theorem Fs{kind:af->Int}{N:List bw}{rt:Nat->Bool}{ty:Nat->Ty}:∀(l:List Nat) (done:List (af×Ty)),l.Nodup->(∀ v∈l,∀ w∈l,jU N v=jU N w->v=w)->(∀ v∈l,(kind (jU N v)==4)=true)->(∀ v∈l,rt v=false->bh kind (ty v)≠0)->(∀ v∈l,aK done (jU N v)=none)->DC kind done (ug N rt ty l)=true
 |[],_,_,_,_,_,_=>rfl
 |v::l,done,hn,hi,hk,hs,hd=>by
  rw[List.nodup_cons]at hn
  have hi':∀ v∈l,∀ w∈l,jU N v=jU N w->v=w:=fun v hv w hw=>hi v (List.mem_cons_of_mem _ hv) w (List.mem_cons_of_mem _ hw)
  have hk':∀ v∈l,(kind (jU N v)==4)=true:=fun v hv=>hk v (List.mem_cons_of_mem _ hv)
  have hs':∀ v∈l,rt v=false->bh kind (ty v)≠0:=fun v hv=>hs v (List.mem_cons_of_mem _ hv)
  unfold ug
  cases q:rt v with
  |true=>exact Fs l done hn.2 hi' hk' hs' fun v hv=>hd v (List.mem_cons_of_mem _ hv)
  |false =>
   simp only[Bool.false_eq_true,if_false,DC]
   have h1:=hd v List.mem_cons_self
   have h2:=hk v List.mem_cons_self
   have h3:=hs v List.mem_cons_self q
   have h4:(bh kind (ty v)==0)=false:=by simpa using h3
   rw[h1,h2,h4,Fs l (done++[(jU N v,ty v)]) hn.2 hi' hk' hs' fun w hw=>yD (hd w (List.mem_cons_of_mem _ hw)) fun e=>?_]
   ·rfl
   ·have:=hi v List.mem_cons_self w (List.mem_cons_of_mem _ hw) e
    rw[this]at hn
    exact hn.1 hw
theorem GY{N:List bw}{rt:Nat->Bool}{ty:Nat->Ty}:∀ l:List Nat,(ug N rt ty l).length<=l.length
 |[]=>Nat.le_refl _
 |v::l=>by
  have:=GY (N:=N) (rt:=rt) (ty:=ty) l
  unfold ug
  split<;>simp<;>omega
theorem Bg{N:List bw}{rt:Nat->Bool}{ty:Nat->Ty}{q:af×Ty}:∀ {l:List Nat},q∈ug N rt ty l->∃ v∈l,rt v=false/\q.2=ty v
 |[],h=>nomatch h
 |v::l,h=>by
  unfold ug at h
  split at h
  ·obtain⟨w,a,b⟩:=Bg h
   exact⟨w,List.mem_cons_of_mem _ a,b⟩
  ·rename_i e
   rcases List.mem_cons.1 h with rfl|h
   ·exact⟨v,List.mem_cons_self,by simpa using e,rfl⟩
   ·obtain⟨w,a,b⟩:=Bg h
    exact⟨w,List.mem_cons_of_mem _ a,b⟩
mutual
theorem Tr.V{kind:af->Int}{N:List bw}{L:Lk}(h:∀(i:Nat) (x:bw),N[i]? = some x->nQ kind x.n x.a.length=true)(hv:∀(i:Nat) (x:bw),N[i]? = some x->x.v=true->x.a=[]):∀ {i t},Tr N L i t->BB kind t
 |_,_,.var h1 h2 h3=>by
  have:=h _ _ h2
  rw[hv _ _ h2 h3]at this
  exact⟨this,trivial⟩
 |_,_,.con h1 h2 h3 h4=>by
  have:=h _ _ h2
  obtain⟨e,k⟩:=sE.V h hv h4
  rw[<- e]at this
  exact⟨this,k⟩
theorem sE.V{kind:af->Int}{N:List bw}{L:Lk}(h:∀(i:Nat) (x:bw),N[i]? = some x->nQ kind x.n x.a.length=true)(hv:∀(i:Nat) (x:bw),N[i]? = some x->x.v=true->x.a=[]):∀ {l ts},sE N L l ts->ts.length=l.length/\tp kind ts
 |_,_,.nil=>⟨rfl,trivial⟩
 |_,_,.cons h1 h2=>by
  obtain⟨e,k⟩:=sE.V h hv h2
  exact⟨by simp[e],Tr.V h hv h1,k⟩
end
theorem Uw{kind:af->Int}{N:List bw}{L:Lk}{T:List Ty}{vs ks:List Nat}{all:List Ty}{rt:Nat->Bool}{ty:Nat->Ty}(gn:GN N T (fun n=>kind n==4))(hc:Hm N L [])(hl:N.length=L.length)
 (hTr:∀ i,i<N.length->Tr N L i (ty i)) (vs1:∀(i:Nat) (x:bw),N[i]? = some x->x.v=true->i∈vs) (vs2:∀ i∈vs,∃ x,N[i]? = some x/\x.v=true) (vn:vs.Nodup) (hk:∀ a∈ks,a<N.length) (hT:ks.map (fun a=>T[a]?)=all.map some)
 (hX:∀(i:Nat) (x:bw),N[i]? = some x->nQ kind x.n x.a.length=true) (heq:∀ f:Nat->Ty,eA L f->∀ a∈ks,∀ b∈ks,f a=f b) (hgen:∀ f:Nat->Ty,LH N f->(∀ a∈ks,∀ b∈ks,f a=f b)->eA L f)
 (hvl:vs.length<=2000) (hrt:∀ i,i<N.length->(rt i=true↔L[i]? = some none)) (hb:∀ v∈vs,rt v=false->dn (ty v)<=2000/\IK (ty v)<=100):Ub kind all (ug N rt ty vs):=by
 have hv:∀(i:Nat) (x:bw),N[i]? = some x->x.v=true->x.a=[]:=fun i x h k=>(gn.var i x h k).2.2
 have hTV:∀ i,i<N.length->BB kind (ty i):=fun i hi=>(hTr i hi).V hX hv
 have hTe:∀ i,i<N.length->ry N L i=ty i:=fun i hi=>kL (hTr i hi)
 have vlt:∀ v∈vs,v<N.length:=fun v h=>by obtain⟨x,hx,_⟩:=vs2 v h;exact aE hx
 have nmv:∀(v:Nat) (x:bw),N[v]? = some x->jU N v=x.n:=fun v x h=>by simp[jU,h]
 have inj:∀ v∈vs,∀ w∈vs,jU N v=jU N w->v=w:=fun v hv w hw e=>by
  obtain⟨x,hx,vx⟩:=vs2 v hv
  obtain⟨y,hy,vy⟩:=vs2 w hw
  rw[nmv v x hx,nmv w y hy]at e
  exact gn.inj v w x y hx hy vx vy e
 have kv:∀ v∈vs,(kind (jU N v)==4)=true:=fun v hv=>by
  obtain⟨x,hx,vx⟩:=vs2 v hv
  rw[nmv v x hx]
  exact(gn.var v x hx vx).2.1
 have hVs:Vs (fun n=>kind n==4) (aK (ug N rt ty vs)):=fun n t h=>by
  obtain⟨w,a1,_,a2,_⟩:=qm h
  rw[<- a2];exact kv w a1
 have sol:LK N L (fun n=>kind n==4) (aK (ug N rt ty vs)):=⟨fun i x hx vx=>by
  have hi:=aE hx
  rw[<- nmv i x hx,yC inj i (vs1 i x hx vx)]
  cases q:rt i with
  |true=>rw[if_pos rfl,if_pos ((hrt i hi).1 q)]
  |false =>
   rw[if_neg (by simp),if_neg (fun k=>by rw[(hrt i hi).2 k]at q;cases q),hTe i hi],hVs⟩
 have ofAll:∀ t∈all,∃ k∈ks,rp T k=t/\k<N.length:=fun t ht=>by
  have:some t∈ks.map (fun a=>T[a]?):=by rw[hT];exact List.mem_map_of_mem ht
  obtain⟨k,h1,h2⟩:=List.mem_map.1 this
  exact⟨k,h1,my h2,hk k h1⟩
 have toAll:∀ k∈ks,rp T k∈all:=fun k hk=>by
  have:T[k]?∈all.map some:=by rw[<- hT];exact List.mem_map_of_mem (f:=fun a=>T[a]?) hk
  obtain⟨t,h1,h2⟩:=List.mem_map.1 this
  rw[my h2.symm];exact h1
 have hT':∀ i,i<L.length->∃ t,Tr N L i t:=fun i hi=>⟨_,hTr i (by rw[hl];exact hi)⟩
 have ap:∀ k,k<N.length->sub (aK (ug N rt ty vs)) (rp T k)=ry N L k:=fun k hk=>sol.ap gn hc hT' hl k hk
 refine⟨?_,fun q hq=>?_,fun t ht t' ht'=>?_,fun t ht=>?_,fun s hs he t ht=>?_⟩
 ·have h1:(ug N rt ty vs).length<=2000:=Nat.le_trans (GY vs) hvl
  rw[km,Fs vs [] vn inj kv (fun v hv q=>QC (hTV v (vlt v hv)) (hb v hv q).1 (hb v hv q).2) (fun _ _=>rfl)]
  simpa using h1
 ·obtain⟨v,a1,_,a2⟩:=Bg hq
  rw[a2];exact uu (hTV v (vlt v a1))
 ·obtain⟨k,a1,rfl,a2⟩:=ofAll t ht
  obtain⟨k',b1,rfl,b2⟩:=ofAll t' ht'
  rw[ap k a2,ap k' b2]
  exact heq _ (xU hT') k a1 k' b1
 ·obtain⟨k,a1,rfl,a2⟩:=ofAll t ht
  rw[ap k a2,hTe k a2]
  exact sol.idem gn (hTr k a2)
 ·obtain⟨k,a1,rfl,a2⟩:=ofAll t ht
  rw[ap k a2,hTe k a2]
  have hr:eA L fun i=>sub s (rp T i):=hgen _ (gn.mod hs).comp fun a ha b hb=>he _ (toAll a ha) _ (toAll b hb)
  exact Tr.gen gn hs hr (hTr k a2)
end Go.Proofs.YtenibcfppefobaaGreatDoor
set_option linter.all false
noncomputable section
namespace Go.Proofs.YtenibcfppefobaaGreatDoor
open Go.AI
def UT(kind:af->Int)(all:List Ty):Prop:=∀ s,Vs (fun n=>kind n==4) s->¬ ∀ t∈all,∀ t'∈all,sub s t=sub s t'
def Ua(kind:af->Int)(all:List Ty)(w:D):Prop :=
 w=.tuple [.row 3 [],.i 39]\/(∃ e:Int,(e=30\/e=31)/\w=.tuple [.row 3 [],.i e]/\UT kind all)\/∃ bs:List (af×Ty),w=.tuple [.row 3 (bs.map fy),.i 0]/\Ub kind all bs
theorem GT.nil{isV:af->Bool}(H:DH):GT isV (H++[.map []]++[.cells 0 [.map H.length,.nilrow]]) (H.length+1) H.length .nilrow [] [] [] [] []:=by
 have h1:(H++[DB.map []]++[.cells 0 [.map H.length,.nilrow]])[H.length+1]? = some (.cells 0 [.map H.length,.nilrow]):=by
  have:=ci (H++[DB.map []]) (.cells 0 [.map H.length,.nilrow])
  simpa using this
 have no:∀(i:Nat) (x:bw),([]:List bw)[i]? = some x->False:=fun i x h=>by simp at h
 exact⟨rfl,List.nodup_nil,fun i x h=>(no i x h).elim,fun i x h=>(no i x h).elim,⟨rfl,fun i x h=>(no i x h).elim,fun i x h=>(no i x h).elim,fun i _ x _ h=>(no i x h).elim⟩,⟨0,h1⟩,.inl ⟨rfl,rfl⟩,fun _ _ h=>(by cases h),jS (ci _ _),fun i x h=>(no i x h).elim,fun _ h=>(nomatch h),fun h=>(nomatch h),fun _ h=>(nomatch h),Nat.le_refl _,List.nodup_nil⟩
theorem Mh{os:List Nat}{N:List bw}{d:D}{p:Nat}{ks:List Nat}(h16:ks.length<=16)(hk:∀ a∈ks,a<N.length){H:DH}{L:Lk}(g:cr H os N L)(hw:Wf L)(hd:bE H d (ks.map (oN os))) :
 ∃ q H' L' E,ae ai 8 200017 [.g (.ptr p 0),.g d,.g d,.n (ks.length:Nat),.n 0] [] H=(match q with|true=>Hs d p H'|false=>ret (.tuple [.row 3 [],.i 30]) H')/\cr H' os N L'/\US N L E q L'/\uo H H' os/\∀(α:Type) (f:Nat->α),(∀ p∈E,f p.1=f p.2)↔∀ a∈ks,∀ b∈ks,f a=f b:=by
 cases ks with
 |nil =>
  refine⟨true,H,L,[],eL (si) ?_,g,.nil hw,.refl _ _,fun α f=>by simp⟩
  have hlt:decide ((0:Int)<((([]:List Nat).length:Nat):Int))=false:=by simp
  rw[hlt,cond_false]
  rfl
 |cons a0 r =>
  obtain⟨q,H',L',r1,r2,r3,r4⟩:=Jn (p:=p) h16 (a0:=a0) rfl hk (a0::r) [] H L g hw hd rfl
  refine⟨q,H',L',_,r1,r2,r3,r4,fun α f=>⟨fun h a ha b hb=>?_,fun h p hp=>?_⟩⟩
  ·have h1:=h (a0,a) (List.mem_map_of_mem ha)
   have h2:=h (a0,b) (List.mem_map_of_mem hb)
   exact h1.symm.trans h2
  ·obtain⟨a,ha,rfl⟩:=List.mem_map.1 hp
   exact h a0 List.mem_cons_self a ha
theorem Jm{kind:af->Int}(K:Dy kind)(k1:(kind [45,62]==4)=false)(k2:(kind [44]==4)=false)(all:List Ty)(H:DH)(h16:all.length<=16)(h60:dn.tszs all<=2000)(hsz:∀ t∈all,bh kind t≠0) :
 ∃ w H',aD 8 [.row 2 (aJ all)] H=ret w H'/\Ua kind all w:=by
 have hV:tp kind all:=pC.2 fun t ht=>zE (hsz t ht)
 obtain⟨X,z1⟩:=Jp K all h16 all [] H rfl (zu hV)
 rw[if_neg (fun⟨t,h,e⟩=>hsz t h e)]at z1
 obtain⟨H1,d,dl,os,bs,N,T,vs,ks,w1,g1,hd,hk,hT,hcv,hNl,_⟩:=Jo K all h16 0 ((H++X).length+1) (H++X).length (Nat.zero_le _) (Nat.zero_le _) all [] _ .nilrow .nilrow [] [] [] [] [] [] (GT.nil (H++X)) (.inl ⟨rfl,rfl⟩) (fun _ h=>nomatch h) rfl (fun _ _ h=>by cases h) (fun _ _ h=>by cases h) (Nat.zero_le _) rfl (DF k1 k2 hV) (by simp only[List.length_nil];omega) (fun j _ h=>by simp at h)
 simp only[List.length_nil,Nat.zero_add]at hNl
 have hkl:ks.length=all.length:=by have:=congrArg List.length hT;simpa using this
 obtain⟨g2,wf2,cl2⟩:=g1.gr
 obtain⟨q,H2,L2,E,w2,g3,us,l3,hE⟩:=Mh (p:=(H++X).length+1) (by rw[hkl];exact h16) hk g2 wf2 hd
 have gn:=g1.gn
 have pre:∀ z,ae ai 8 200017 [.g (.ptr ((H++X).length+1) 0),.g d,.g d,.n (ks.length:Nat),.n 0] [] H1=z->aD 8 [.row 2 (aJ all)] H=z:=fun z hz=>by
  refine ev (f8) ?_
  have e1:decide (((aJ all).length:Int)>16)=false:=by rw[bH];simp;omega
  rw[e1,cond_false,bH]
  refine Eq.trans z1 ?_
  refine Eq.trans w1 ?_
  rw[<- hkl]
  exact hz
 have hL0:∀(α:Type) (f:Nat->α),eA (N.map fun _=>(none:Option Nat)) f:=fun α f i j h=>by
  rw[List.getElem?_map]at h
  cases q:N[i]? with
  |none=>rw[q]at h;cases h
  |some y=>rw[q]at h;cases h
 have toAll:∀ k∈ks,rp T k∈all:=fun k hk=>by
  have:T[k]?∈all.map some:=by rw[<- hT];exact List.mem_map_of_mem (f:=fun a=>T[a]?) hk
  obtain⟨t,h1,h2⟩:=List.mem_map.1 this
  rw[my h2.symm];exact h1
 have hgen:∀ f:Nat->Ty,LH N f->(∀ a∈ks,∀ b∈ks,f a=f b)->q=true/\eA L2 f:=fun f h1 h2=>us.snd Ty f h1 (hL0 _ _) ((hE Ty f).2 h2)
 cases q with
 |false =>
  refine⟨_,H2,pre _ w2,.inr (.inl ⟨30,.inl rfl,rfl,fun s hs he=>?_⟩)⟩
  have:=(hgen _ (gn.mod hs).comp fun a ha b hb=>he _ (toAll a ha) _ (toAll b hb)).1
  cases this
 |true =>
  have hv:∀(i:Nat) (x:bw),N[i]? = some x->x.v=true->x.a=[]:=fun i x h k=>(gn.var i x h k).2.2
  have hd2:=hd.els g2 l3
  obtain⟨c1,c2⟩:=us.cpl rfl
  have cl3:Hm N L2 []:=c2 [] fun i j x h=>by
   have h:=h
   rw[List.getElem?_map]at h
   cases q:N[i]? with
   |none=>rw[q]at h;cases h
   |some y=>rw[q]at h;cases h
  obtain⟨q2,H3,L3,f1,g4,q4,l4,n1,n2⟩:=RF g3 us.wf hv (by rw[hkl];exact h16) hd2 hk
  cases q2 with
  |false =>
   refine⟨.tuple [.row 3 [],.i 31],H3,pre _ ?_,.inr (.inl ⟨31,.inr rfl,rfl,fun s hs he=>?_⟩)⟩
   ·rw[w2]
    show Hs d _ H2=_
    rw[Hs,aq f1]
    rfl
   ·have:=n1 _ (gn.mod hs) (hgen _ (gn.mod hs).comp fun a ha b hb=>he _ (toAll a ha) _ (toAll b hb)).2
    cases this
  |true =>
   have hl:N.length=L3.length:=g4.lenL.symm
   have cl4:Hm N L3 []:=q4.cl [] cl3
   have wf4:Wf L3:=us.wf.eqv q4
   have hlk:∀ i j:Nat,L3[i]? = some (some j)->j<L3.length:=fun i j h=>by rw[<- hl];exact g4.lk i j h
   have hTr:∀ i,i<N.length->∃ t,Tr N L3 i t:=hcv.all (fun i x h=>gn.kid i x h) (fun a ha=>n2 rfl a ha) fun i x hx ⟨t,ht⟩=>ht.kid cl4 wf4 hlk hv hx
   have hTr':∀ i,i<N.length->Tr N L3 i (ry N L3 i):=fun i hi=>by
    obtain⟨t,ht⟩:=hTr i hi
    rw[kL ht];exact ht
   have hP:∀ i,i<N.length->BB kind (rp T i):=hcv.all (fun i x h=>gn.kid i x h) (fun a ha=>pC.1 hV _ (toAll a ha)) fun i x hx h a ha=>by
    cases vx:x.v with
    |true=>rw[hv i x hx vx]at ha;cases ha
    |false =>
     rw[gn.con' hx vx,BB]at h
     exact pC.1 h.2 _ (List.mem_map_of_mem ha)
   have hX:∀(i:Nat) (x:bw),N[i]? = some x->nQ kind x.n x.a.length=true:=fun i x hx=>by
    have h:=hP i (aE hx)
    cases vx:x.v with
    |true =>
     rw[my (gn.var i x hx vx).1,BB]at h
     rw[hv i x hx vx];exact h.1
    |false =>
     rw[gn.con' hx vx,BB]at h
     simpa using h.1
   have rtE:∀ i,i<N.length->((fun i=>decide (L3[i]? = some none)) i=true↔L3[i]? = some none):=fun i _=>by simp
   have vlt:∀ v∈vs,v<N.length:=fun v h=>by obtain⟨x,hx,_⟩:=g1.vs2 v h;exact aE hx
   obtain⟨s,hp⟩:=g1.pg
   have p3:H3[(H++X).length+1]? = some (.cells s [.map (H++X).length,dl]):=by
    have e2:=l3.at' _ (aE hp) g1.np
    have e3:=l4.at' _ (Nat.lt_of_lt_of_le (aE hp) l3.len) g1.np
    rw[e3,e2,hp]
   have dl3:bE H3 dl (vs.map (oN os)):=(g1.al.els g2 l3).els g3 l4
   have bd:=DN (d:=dl) (all:=vs) (by have:=g1.vl;omega) (fun i=>decide (L3[i]? = some none)) (ry N L3) hv vlt vs [] H3 L3 [] .nilrow g4 hTr' rtE dl3 (.inl ⟨rfl,rfl⟩) rfl (Nat.le_refl _)
   have fin:∀ z,ae ai 8 200026 [.g .nilrow,.g dl,.n (vs.length:Nat),.n 0] [] H3=z->aD 8 [.row 2 (aJ all)] H=z:=fun z hz=>pre _ (by
    rw[w2]
    show Hs d _ H2=_
    rw[Hs,aq f1]
    simp only[ct,Bool.not_true,aj,cond_false]
    rw[ac p3,aw,ak,dl3.len,List.length_map]
    exact hz)
   rcases bd with⟨H4,bd⟩|⟨⟨H4,bd⟩,hb⟩
   ·exact⟨_,H4,fin _ bd,.inl rfl⟩
   ·refine⟨_,H4,fin _ bd,.inr (.inr ⟨_,rfl,?_⟩)⟩
    rw[List.nil_append]
    exact Uw gn cl4 hl hTr' g1.vs1 g1.vs2 g1.vn hk hT hX (fun f hf a ha b hb=>(hE Ty f).1 (c1 Ty f ((q4.rs Ty f).2 hf)).2 a ha b hb) (fun f h1 h2=>(q4.rs Ty f).1 (hgen f h1 h2).2) (by have:=g1.vl;omega) rtE hb
end Go.Proofs.YtenibcfppefobaaGreatDoor
set_option linter.all false
noncomputable section
namespace Go.Proofs.YtenibcfppefobaaGreatDoor
open Go.AI
theorem f3{R:bv}{p0 p1:gi}{H:DH}:bu R 3 [.row 2 p0,.row 3 p1] H =
 C R 6 [] H fun a H=>cond (decide ((p0.length:Int)>6)) (ret a H) (ae R 3 200005 [.g (.row 2 p0),.g (.row 3 p1),.g a,.n 0] [] H):=by kernel_rfl
theorem za{R:bv}{v0 v1:gi}{v5:Bool}{v6:Int}{H:DH}:bG R 3 200005 [.g (.row 2 v0),.g (.row 3 v1),.g (.bool v5),.n v6] [] H =
 cond (decide (v6<v0.length)) (dE v6 fun a=>eO v0 a fun a=>aC a 0 fun b=>aC a 1 fun a=>C R 7 [.agg [b,a]] H fun a H=>aB ab .eql 3 true a (.i 0) fun a=>brD a (ret (.bool v5) H) (dE v6 fun a=>eO v0 a fun a=>aC a 0 fun b=>aC a 1 fun a=>C R 7 [.agg [b,a]] H fun a H=>aB ab .gtr 3 true a (.i 60) fun a=>brD a (ret (.bool v5) H) (ae R 3 200005 [.g (.row 2 v0),.g (.row 3 v1),.g (.bool v5),.n (eg (v6+1))] [] H))) (C R 8 [.row 2 v0] H fun a H=>di a 0 fun b=>di a 1 fun a=>cond (!v5) (ret (.bool false) H) (ae R 3 200014 [.g (.row 2 v0),.g (.row 3 v1),.g b,.g a,.g (.bool true),.n 0] [] H)):=by kernel_rfl
theorem yZ{R:bv}{v0 v1:gi}{v7:D}{v8:Int}{v9:Bool}{a:Int}{H:DH}:bG R 3 200014 [.g (.row 2 v0),.g (.row 3 v1),.g v7,.n v8,.g (.bool v9),.n a] [] H =
 cond (decide (a<v0.length)) (dE a fun b=>eO v0 b fun b=>aC b 0 fun c=>aC b 1 fun b=>C R 9 [.row 3 v1,.agg [c,b]] H fun b H=>di b 0 fun c=>di b 1 fun b=>ah 2 c fun c=>az [.str [],.nilrow] 0 c fun c=>eO v0 0 fun d=>aC d 0 fun e=>aC d 1 fun d=>C R 9 [.row 3 v1,.agg [e,d]] H fun d H=>di d 0 fun e=>di d 1 fun d=>ah 2 e fun e=>az [.str [],.nilrow] 0 e fun e=>aB ab .neq 28 true b (.i 0) fun b=>brD b (ret (.bool true) H) (aB ab .neq 28 true d (.i 0) fun b=>brD b (ret (.bool true) H) (cond v9 (aC c 0 fun b=>aC c 1 fun c=>aC e 0 fun d=>aC e 1 fun e=>C R 10 [.agg [b,c],.agg [d,e]] H fun b H=>ae R 3 200014 [.g (.row 2 v0),.g (.row 3 v1),.g v7,.n v8,.g b,.n (eg (a+1))] [] H) (ae R 3 200014 [.g (.row 2 v0),.g (.row 3 v1),.g v7,.n v8,.g (.bool false),.n (eg (a+1))] [] H)))) (cond (v8 != 0) (cond (!v9) (ret (.bool true) H) (ret (.bool (v8==39)) H)) (ae R 3 200024 [.g (.row 2 v0),.g (.row 3 v1),.g v7,.g (.bool v9),.n 0] [] H)):=by kernel_rfl
theorem nH{R:bv}{v0 v1:gi}{v7:D}{v9:Bool}{a:Int}{H:DH}:bG R 3 200024 [.g (.row 2 v0),.g (.row 3 v1),.g v7,.g (.bool v9),.n a] [] H =
 cond (decide (a<v0.length)) (dE a fun b=>eO v0 b fun b=>aC b 0 fun c=>aC b 1 fun b=>C R 9 [v7,.agg [c,b]] H fun b H=>di b 0 fun c=>di b 1 fun b=>ah 2 c fun c=>az [.str [],.nilrow] 0 c fun c=>eO v0 0 fun d=>aC d 0 fun e=>aC d 1 fun d=>C R 9 [v7,.agg [e,d]] H fun d H=>di d 0 fun e=>di d 1 fun d=>ah 2 e fun e=>az [.str [],.nilrow] 0 e fun e=>aB ab .eql 28 true b (.i 39) fun f=>brD f (ret (.bool true) H) (aB ab .eql 28 true d (.i 39) fun f=>brD f (ret (.bool true) H) (aC c 0 fun f=>aC c 1 fun g=>C R 9 [v7,.agg [f,g]] H fun f H=>di f 0 fun g=>di f 1 fun f=>ah 2 g fun g=>az [.str [],.nilrow] 0 g fun g=>aB ab .neq 28 true b (.i 0) fun b=>brD b (ret (.bool false) H) (aB ab .neq 28 true d (.i 0) fun b=>brD b (ret (.bool false) H) (aB ab .neq 28 true f (.i 0) fun b=>brD b (ret (.bool false) H) (aC c 0 fun b=>aC c 1 fun d=>aC e 0 fun f=>aC e 1 fun e=>C R 10 [.agg [b,d],.agg [f,e]] H fun b H=>rl .not b fun b=>brD b (ret (.bool false) H) (aC c 0 fun b=>aC c 1 fun d=>aC g 0 fun e=>aC g 1 fun f=>C R 10 [.agg [b,d],.agg [e,f]] H fun b H=>rl .not b fun b=>brD b (ret (.bool false) H) (cond v9 (aC c 0 fun b=>aC c 1 fun c=>C R 9 [.row 3 v1,.agg [b,c]] H fun b H=>di b 0 fun c=>di b 1 fun b=>ah 2 c fun c=>az [.str [],.nilrow] 0 c fun c=>dE a fun d=>eO v0 d fun d=>aC d 0 fun e=>aC d 1 fun d=>C R 9 [.row 3 v1,.agg [e,d]] H fun d H=>di d 0 fun e=>di d 1 fun d=>ah 2 e fun e=>az [.str [],.nilrow] 0 e fun e=>aB ab .eql 28 true b (.i 39) fun f=>brD f (ae R 3 200024 [.g (.row 2 v0),.g (.row 3 v1),.g v7,.g (.bool v9),.n (eg (a+1))] [] H) (aB ab .neq 28 true b (.i 0) fun b=>brD b (ret (.bool false) H) (aB ab .neq 28 true d (.i 0) fun b=>brD b (ret (.bool false) H) (aC c 0 fun b=>aC c 1 fun c=>aC e 0 fun d=>aC e 1 fun e=>C R 10 [.agg [b,c],.agg [d,e]] H fun b H=>rl .not b fun b=>brD b (ret (.bool false) H) (ae R 3 200024 [.g (.row 2 v0),.g (.row 3 v1),.g v7,.g (.bool v9),.n (eg (a+1))] [] H))))) (ae R 3 200024 [.g (.row 2 v0),.g (.row 3 v1),.g v7,.g (.bool v9),.n (eg (a+1))] [] H))))))))) (ret (.bool true) H):=by kernel_rfl
end Go.Proofs.YtenibcfppefobaaGreatDoor
