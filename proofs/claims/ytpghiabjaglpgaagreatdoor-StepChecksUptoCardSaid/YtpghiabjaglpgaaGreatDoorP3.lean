/- Lemmas. No conditions. -/
import Derived.Test.YtpghiabjaglpgaaGreatDoorP2
set_option linter.all false
noncomputable section
namespace Go.Proofs.YtpghiabjaglpgaaGreatDoor
open Go.AI
variable{l:af}{K p A B bx y m oc:Nat}
def abp(T:aR):Prop:=∀ cs r,T=cs::r->∃(k v:Int) (t:af) (a:Int),cs=[.i k,.i v,.str t,.i a]
def Jw.f{at2:Nat}{T:aR}(h0:at2=l.length->T=[])(a:Jw l at2 T)(h1:at2<=l.length):abp T:=fun cs r e=>by
 rcases aiA at2 l.length with q|q
 ·obtain⟨k,v,n,r',h,_⟩:=a q;rw[e]at h;cases h;exact⟨_,_,_,_,rfl⟩
 ·rw[h0 (by omega)]at e;cases e
def Us(hl:l.length<=24)(kp:K<=p)(ko:K<=oc){H:DH}(c:JA H p l 0 m oc [])(k:TA K H l p A B bx y []) :
 (∃ b T,am 324 [.yld (y+1),.ptr bx 0] H=ret (.tuple []) b/\TA K b l p A B bx y T/\tQ l (lR l T)/\Kp K H b/\abp T) \/
 (∃(a e:Int) (b:DH) (T:aR),e≠0/\am 324 [.yld (y+1),.ptr bx 0] H=pan (wr a e) b/\TA K b l p A B bx y T/\tQ l 0/\Kp K H b):=by
 rw[show am 324 [.yld (y+1),.ptr bx 0] H=_ from ev (agj _ _ _ _) rfl];obtain⟨sb,hb⟩:=k.hb;simp only[ae hb,ao];rcases Mx hl (aje _) (by simp;omega) c with⟨at2,c2,b,n,o,q,d,F,s,z,G⟩|⟨a,e,b,n,o,q,d⟩
 ·have t:=k.fr c.hc s (by obtain⟨st,h⟩:=c.hp;exact⟨_,_,h⟩);rw[ai n];rcases CU hl kp ko _ at2 b c2 [] rfl d F (by simp;omega) o t with⟨u,r,v,w,j,i,x⟩|⟨a,e,u,T,v,w,j,i,x⟩
  ·exact .inl ⟨u,r,v,w,Sk hl j i d z G,(Kp.of s kp ko).trans x,Jw.f j i d⟩
  ·refine .inr ⟨a,e,u,T,v,w,j,HU hl ?_,(Kp.of s kp ko).trans x⟩;by_cases E:skip l 0
   ·exact .inl E
   ·rw[z E]at i;exact .inr i
 ·rw[Ca o];exact .inr ⟨a,e,b,[],n,rfl,k.fr c.hc q (by obtain⟨st,h⟩:=c.hp;exact⟨_,_,h⟩),HU hl (.inl d),Kp.of q kp ko⟩
def ZL(s o n:Nat)(H:DH)(κ:D->au):aY ab 200 (.buf s o n) H κ=κ (.i (n:Int)):=by kernel_rfl
def VG(H:DH)(κ:D->au):aY ab 200 .nilrow H κ=κ (.i 0):=by kernel_rfl
def adG(o n i:Nat)(κ:D->au):aD ab 200 (.buf 4 o n) (.i i) κ=boK (Nat.blt i n) (κ (.bptr o n i 0)):=by kernel_rfl
def oZ(o n i c k:Nat)(κ:D->au):ct (.bptr o n i c) k κ=κ (.bptr o n i (c+k)):=rfl
def acX(o n i c:Nat)(H:DH)(κ:D->au):cH ab 3 (.bptr o n i c) H κ=ew H o n fun _ _ _ l=>ba l i fun cs=>ah cs c κ:=by kernel_rfl
def acU(o n i c:Nat)(H:DH)(κ:D->au):cH ab 9 (.bptr o n i c) H κ=ew H o n fun _ _ _ l=>ba l i fun cs=>ah cs c κ:=by kernel_rfl
def ail(H:DH)(v:D)(T:aR):Prop:=(T=[]/\v=.nilrow)\/(T≠[]/\∃ X,v=.buf 4 X T.length/\H[X]? = some (DB.buf 4 true false T))
def JQ(hl:l.length<=24)(H:DH):∃(k:DH) (d v:D) (a e:Int) (T:aR),am 233 [.str l] H=ret (.tuple [d,v,.agg [.i a,.i e]]) k/\ail k v T/\tQ l (if e=0 then lR l T else 0)/\Kp H.length H k/\abp T:=by
 rw[show am 233 [.str l] H=_ from ev (agS _ _ _) rfl];have hA0:=aC (.cells 0 [.i 0,.i 0]) (bt H (.cells 0 [.nilrow]));have M:=bt (H++[DB.cells 0 [.nilrow]]) (.cells 0 [.i 0,.i 0]);have hl1:(H++[DB.cells 0 [.nilrow]]).length=H.length+1:=by simp
 dsimp only;rw[hl1]at M ⊢;have k0:Kp H.length H (H++[DB.cells 0 [.nilrow]]++[DB.cells 0 [.i 0,.i 0]]):=fun o b _ h=>aC _ (aC _ h);have N:(H++[DB.cells 0 [.nilrow]]++[DB.cells 0 [.i 0,.i 0]]).length=H.length+2:=by simp
 generalize H++[DB.cells 0 [.nilrow]]++[DB.cells 0 [.i 0,.i 0]]=I at hA0 M k0 N ⊢;obtain⟨k,e1,hS,kS⟩:=Zv l I;rw[ai e1];rw[N]at hS;have e2:am 292 [.ptr (I.length+2) 0] k=ret (.func 324 [] [.ptr k.length 0]) (k++[.cells 0 [.ptr (I.length+2) 0]]):=ev (agA _ _ _) rfl;rw[fj e2];have O:=aC (.cells 0 [.ptr (I.length+2) 0]) (kS _ _ hA0);have Q:=aC (.cells 0 [.ptr (I.length+2) 0]) (kS _ _ M);have J:=bt k (.cells 0 [.ptr (I.length+2) 0]);have w:JA (k++[.cells 0 [.ptr (I.length+2) 0]]) (H.length+2+2) l 0 (H.length+2) (H.length+2+1) []:=⟨by obtain⟨st,h⟩:=hS.hp;exact⟨st,aC _ h⟩,aC _ hS.hm,aC _ hS.hc⟩;have lt2:H.length+2+2<k.length:=by obtain⟨st,h⟩:=hS.hp;exact(aez.1 h).1
 have k2:Kp H.length H (k++[.cells 0 [.ptr (I.length+2) 0]]):=fun o b G j=>aC _ (kS _ _ (k0 o b G j));have R:k.length<(k++[DB.cells 0 [.ptr (I.length+2) 0]]).length:=by simp
 rw[N]at O Q J w k2 R ⊢;generalize k++[DB.cells 0 [.ptr (H.length+2+2) 0]]=c at O Q J w k2 R ⊢;generalize k.length=bx at J lt2 R ⊢;show ∃(k:DH) (d v:D) (a e:Int) (T:aR),OP (.func 324 [] [.ptr bx 0]) _=_/\_;simp only[OP,air];have ey:c++[DB.coll,ZH de 233 [0,2,3,4,6,7,8,9,10] [.g (.str l),.g (.ptr (H.length+2+2) 0),.g (.ptr H.length 0),.g (.ptr (H.length+1) 0),.g (.str l),.g (.ptr (H.length+2+2) 0),.g (.func 291 [] [.ptr H.length 0,.ptr (H.length+1) 0]),.g (.ptr (H.length+2+2) 0),.g (.func 324 [] [.ptr bx 0])]]=(c++[DB.coll])++[MO l (H.length+2+2) H.length (H.length+1) bx]:=by rw[aix];rfl
 rw[ey];have hly:(c++[DB.coll]).length=c.length+1:=by simp
 have hS3:JA ((c++[DB.coll])++[MO l (H.length+2+2) H.length (H.length+1) bx]) (H.length+2+2) l 0 (H.length+2) (H.length+2+1) []:=⟨by obtain⟨st,h⟩:=w.hp;exact⟨st,aC _ (aC _ h)⟩,aC _ (aC _ w.hm),aC _ (aC _ w.hc)⟩
 have hT3:TA H.length ((c++[DB.coll])++[MO l (H.length+2+2) H.length (H.length+1) bx]) l (H.length+2+2) H.length (H.length+1) bx c.length [] :=
  ⟨⟨0,.nilrow,aC _ (aC _ O),.inl ⟨rfl,rfl⟩⟩,⟨0,aC _ (aC _ Q)⟩,⟨0,aC _ (aC _ J)⟩,by rw[<- hly];exact bt _ _,aC _ (bt _ _),by omega,by omega,by omega,by omega,by omega,abD _,by omega⟩
 have k3:Kp H.length H ((c++[DB.coll])++[MO l (H.length+2+2) H.length (H.length+1) bx]):=fun o b G j=>aC _ (aC _ (k2 o b G j));rcases Us hl (by omega) (by omega) hS3 hT3 with⟨u,T,e3,f,hK,k4,hF⟩|⟨a,e,u,T,he,e3,f,hK,k4⟩
 ·rw[fj e3,VB f.hy];obtain⟨sA,v,hA,hW⟩:=f.hA;obtain⟨sB,hB⟩:=f.hB;have nyA:c.length+1≠H.length:=by omega
  have nyB:c.length+1≠H.length+1:=by omega
  have r:=ak .opq nyA hA;have t:=ak .opq nyB hB;have hk5:=ak .opq (show c.length+1≠c.length by omega) f.hk;have hv:∀ κ:List D->au,aj 1 v κ=κ [v]:=fun κ=>by rcases hW with⟨_,rfl⟩|⟨_,X,rfl,_⟩<;>rfl
  have U:∀(z:D) (κ:List D->au),aE [z] 0 [v] κ=κ [v]:=fun _ _=>rfl;have hX5:∀ X:Nat,u[X]? = some (DB.buf 4 true false T)->(u.set (c.length+1) .opq)[X]? = some (DB.buf 4 true false T):=fun X s=>ak _ (fun q=>by rw[<- q,f.hy]at s;exact Fv _ rfl (aiJ s)) s;have k5:Kp H.length H (u.set (c.length+1) .opq):=(k3.trans k4).trans fun o b G j=>ak _ (by omega) j;generalize u.set (c.length+1) .opq=L at r t hk5 hX5 k5 ⊢;simp only[ae r,ao,hv,U];have n:=ak (.cells (sA+1) [v]) (show H.length≠H.length+1 by omega) t;have x:=bJ (.cells (sA+1) [v]) r;have hk6:=ak (.cells (sA+1) [v]) (show H.length≠c.length by omega) hk5;have hcm:(fX (L.set H.length (.cells (sA+1) [v])) [L])[H.length+1]? = some (.cells sB [.i 0,.i 0]):=xo n (fun k j=>by simp at j;subst j;exact t);have hX6:∀ X:Nat,u[X]? = some (DB.buf 4 true false T)->(L.set H.length (.cells (sA+1) [v]))[X]? = some (DB.buf 4 true false T):=fun X s=>ak _ (fun q=>by rw[<- q,hA]at s;cases s) (hX5 X s);have k6:Kp H.length H (L.set H.length (.cells (sA+1) [v])):=k5.trans fun o b G j=>ak _ (by omega) j;generalize L.set H.length (.cells (sA+1) [v])=Z at x n hk6 hcm hX6 k6 ⊢;simp only[ae hcm,ae n,ao,ax,Vg];have E:=ak (.cells (sB+1) [.i 0,.i 0]) (show H.length+1≠H.length by omega) x;have F:=bJ (.cells (sB+1) [.i 0,.i 0]) n;have hk7:=ak (.cells (sB+1) [.i 0,.i 0]) (show H.length+1≠c.length by omega) hk6;have hX7:∀ X:Nat,u[X]? = some (DB.buf 4 true false T)->(Z.set (H.length+1) (.cells (sB+1) [.i 0,.i 0]))[X]? = some (DB.buf 4 true false T):=fun X s=>ak _ (fun q=>by rw[<- q,hB]at s;cases s) (hX6 X s);have k7:Kp H.length H (Z.set (H.length+1) (.cells (sB+1) [.i 0,.i 0])):=k6.trans fun o b G j=>ak _ (by omega) j;generalize Z.set (H.length+1) (.cells (sB+1) [.i 0,.i 0])=W at E F hk7 hX7 k7 ⊢;rw[show ∀ κ:DH->au,tz W c.length κ=κ (W.set c.length .opq)from fun κ=>by rw[tz,hk7]];have hA8:=ak .opq (show c.length≠H.length by omega) E;have hB8:=ak .opq (show c.length≠H.length+1 by omega) F;have hX8:∀ X:Nat,u[X]? = some (DB.buf 4 true false T)->(W.set c.length .opq)[X]? = some (DB.buf 4 true false T):=fun X s=>ak _ (fun q=>by rw[<- q,f.hk]at s;cases s) (hX7 X s);have k8:Kp H.length H (W.set c.length .opq):=k7.trans fun o b G j=>ak _ (by omega) j;generalize W.set c.length .opq=H8 at hA8 hB8 hX8 k8 ⊢;have Y:eP de (.call 291 [.ptr H.length 0,.ptr (H.length+1) 0] (some .returning)) H8=some ⟨.ret (.tuple []),some .returning,H8⟩:=ev (aaG _ _ _ _) rfl;rw[Y];simp only[Lc,ae hA8,ae hB8,ao,ax];refine⟨H8,_,v,0,0,T,rfl,?_,by rw[aeM rfl];exact hK,k8,hF⟩;rcases hW with hW|⟨q1,X,q2,q3,_⟩
  ·exact .inl hW
  ·exact .inr ⟨q1,X,q2,hX8 X q3⟩
 ·rw[Po e3];obtain⟨sA,v,hA,hW⟩:=f.hA;obtain⟨sB,hB⟩:=f.hB;rw[show ∀ κ:DH->au,tz u c.length κ=κ (u.set c.length .opq)from fun κ=>by rw[tz,f.hk]];have r:=ak .opq (show c.length≠H.length by omega) hA;have t:=ak .opq (show c.length≠H.length+1 by omega) hB;have k5:Kp H.length H (u.set c.length .opq):=(k3.trans k4).trans fun o b G j=>ak _ (by omega) j;generalize u.set c.length .opq=L at r t k5 ⊢;have ea:∀(d:D) (κ:D->au),nD ab (.iface 321 d) 321 true κ=κ (.tuple [d,.bool true]):=fun d κ=>by kernel_rfl
  have U:∀(z:D) (κ:List D->au),aE [z] 0 [.nilrow] κ=κ [.nilrow]:=fun _ _=>rfl;have Y:eP de (.call 291 [.ptr H.length 0,.ptr (H.length+1) 0] (some (.panicking [⟨wr a e,false⟩]))) L=_:=ev (aaH _ _ _ a e _) rfl;simp only[ea,gb,ao,ax,aq,ge,ce2,Vg,ae r,U]at Y;have x:=bJ (.cells (sA+1) [.nilrow]) r;have n:=ak (.cells (sA+1) [.nilrow]) (show H.length≠H.length+1 by omega) t;have k6:Kp H.length H (L.set H.length (.cells (sA+1) [.nilrow])):=k5.trans fun o b G j=>ak _ (by omega) j;generalize L.set H.length (.cells (sA+1) [.nilrow])=Z at Y x n k6;simp only[ae n,Vg]at Y;have E:=ak (.cells (sB+1) [.i a,.i e]) (show H.length+1≠H.length by omega) x;have F:=bJ (.cells (sB+1) [.i a,.i e]) n;have k7:Kp H.length H (Z.set (H.length+1) (.cells (sB+1) [.i a,.i e])):=k6.trans fun o b G j=>ak _ (by omega) j;generalize Z.set (H.length+1) (.cells (sB+1) [.i a,.i e])=W at Y E F k7;rw[Y];simp only[Lc,JY,ae E,ae F,ao,ax];exact⟨W,_,.nilrow,a,e,[],rfl,.inl ⟨rfl,rfl⟩,by rw[aeD he];exact hK,k7,fun _ _ q=>by cases q⟩
def CS{H a:DH}(h:Kp H.length H a){d:D}(e:d.bel H.length):aX H (ret d a)=ret d H:=by
 have c:H.length<=a.length:=by
  rcases aiA a.length H.length with q|q
  ·have:=h a.length H[a.length] q (abF q);rw[aeF (abD _)]at this;cases this
  ·exact q
 have b:∀ i,i<H.length->a[i]? = H[i]?:=fun i hi=>by rw[h i H[i] hi (abF hi),abF hi]
 have f:pB H ⟨.ret d,none,a⟩:=⟨e,rfl,c,fun i x hi j=>.inl (by rw[<- b i hi];exact j)⟩;simp only[aX,ret];rw[aeM f];have:a.take H.length=H:=by
  apply akb;intro i;rw[ajW];split
  ·rename_i hi;exact b i hi
  ·rename_i hi;rw[aeF (by omega)]
 rw[this]
def ZP(l:af)(H:DH):∃ k,am 253 [.str l] H=ret (.i k) H/\tQ l k:=by
 rw[show am 253 [.str l] H=_ from ev (agM _ _ _) rfl];rw[show(24:Int)=((24:Nat):Int)from rfl,RB];by_cases hc:24<l.length
 ·rw[abC hc,ge];exact⟨0,CS (fun _ _ _ h=>h) trivial,.inl (eT (.inr (.inl hc))).symm⟩
 ·rw[abz hc,TD];obtain⟨o,d,v,a,e,T,r,s,b,kp,u⟩:=JQ (l:=l) (by omega) H;rw[ai r];have fin:∀ k:Int,aX H (ret (.i k) o)=ret (.i k) H:=fun k=>CS kp trivial;simp only[gb,ao,ax,ce2,Vg,dX,aq];by_cases j:e=0
  ·subst j;rw[aeM rfl]at b;simp only[akm,TD];rcases s with⟨rfl,rfl⟩|⟨q1,X,rfl,w⟩
   ·simp only[VG,dX,aq];rw[show((0:Int) != 1)=true from rfl,ge];exact⟨0,fin 0,b⟩
   ·simp only[ZL,dX,aq];by_cases q:T.length=1
    ·obtain⟨cs,rfl⟩:∃ cs,T=[cs]:=by
      match T,q with
      |[c],_=>exact⟨c,rfl⟩
     obtain⟨k,v,t,f,rfl⟩:=u cs [] rfl;rw[show(((([[.i k,.i v,.str t,.i f]]:aR).length:Nat):Int) != 1)=false from rfl,TD];have x:∀ κ:Nat->Bool->Bool->aR->au,ew o X 1 κ=κ 4 true false [[.i k,.i v,.str t,.i f]]:=fun κ=>du (l:=[[.i k,.i v,.str t,.i f]]) w;simp only[show(0:Int)=((0:Nat):Int)from rfl,aaQ,adG,show Nat.blt 0 1=true from rfl,boK,ge,oZ,acX,acU,aiv,x,aB (show([[.i k,.i v,.str t,.i f]]:aR)[0]? = some _ from rfl),ao,ax,iX,aq];by_cases n:t=l
     ·subst n;simp only[akY,aid,TD];refine⟨k,fin k,?_⟩;have:lR t [[.i k,.i v,.str t,.i f]]=k:=by simp[lR]
      rw[this]at b;exact b
     ·rw[show(t==l)=false from aeA.2 n,aih,ge];refine⟨0,fin 0,?_⟩;have:lR l [[.i k,.i v,.str t,.i f]]=0:=by simp[lR,n]
      rw[this]at b;exact b
    ·rw[show(((T.length:Nat):Int) != 1)=true by simp;omega,ge];refine⟨0,fin 0,?_⟩;have:lR l T=0:=by
      unfold lR;split
      ·exact(q rfl).elim
      ·rfl
     rw[this]at b;exact b
  ·rw[aeD j]at b;rw[show(e != 0)=true by simp[j],ge];exact⟨0,fin 0,b⟩
def Mw(l:af)(hl:l.length<2^60)(H:DH):∀(n i:Nat),n=l.length - i->i<2^60->ac av 285 200002 [.g (.str l),.n i] [] H=ret (.i (i+rn bh l i:Nat)) H
 |n,i,hn,hi=>by
  refine aZ (Ix _ _ _ _) ?_;rw[er];by_cases hc:i<l.length
  ·rw[abC hc,ge,aO,dt hc,ai (JW _ _),aq,kJ bh hc];cases hq:bh (pk l i)with
   |false=>simp
   |true =>rw[ge,aA (show i<2^62 by omega),Mw l hl H (n - 1) (i+1) (by omega) (by omega),aeM rfl,show i+1+rn bh l (i+1)=i+(rn bh l (i+1)+1)by omega]
  ·rw[abz hc,TD,zo _ (by omega)];rfl
 termination_by n=>n
def Rk(l:af)(hl:l.length<2^59)(H:DH)(i:Nat)(hi:i<2^59):am 285 [.str l,.i i] H=ret (.i (i+rn bh l i:Nat)) H :=
 ev (f285 _ _ _ _) (Mw l (by omega) H _ i rfl (by omega))
def Fp(l:af)(hl:l.length<2^59)(H:DH)(j:Nat)(e:j<=l.length):∀(n k:Nat),n=l.length - k->j+1<=k->k<2^60->k+rn bq l k=j+1+rn bq l (j+1) ->
 ac av 287 200005 [.g (.str l),.n j,.n k] [] H=ret (.i ((if pk l j=39/\0<rn bq l (j+1)then j+(1+rn bq l (j+1))else j:Nat):Nat)) H
 |n,k,hn,hk,hk2,f=>by
  refine aZ (Iv _ _ _ _ _) ?_;have fin:rn bq l k=0->cond (decide ((j:Int)<(l.length:Int))) (bk (j:Int) fun i10=>eR l i10 fun o=>aw ab .eql 5 true o (.int .u8 39) fun d11=>brD d11 (cond (decide ((k:Int)>(bD ((j:Int)+1)))) (ret (.i k) H) (ret (.i j) H)) (ret (.i j) H)) (ret (.i j) H)=ret (.i ((if pk l j=39/\0<rn bq l (j+1)then j+(1+rn bq l (j+1))else j:Nat):Nat)) H:=fun q=>by
   rw[q]at f;rw[er];by_cases hc:j<l.length
   ·rw[abC hc,ge,aO,dt hc];simp only[aT,show(39:Int)=((39:Nat):Int)from rfl,neq,aq,aA (show j<2^62 by omega),RB];by_cases a:pk l j=39
    ·rw[a,akY,ge];by_cases c:0<rn bq l (j+1)
     ·rw[aeM ⟨rfl,c⟩,abC (show j+1<k by omega),ge,show j+(1+rn bq l (j+1))=k by omega]
     ·rw[aeD (fun h=>c h.2),abz (show ¬ j+1<k by omega),TD]
    ·rw[aeD (fun h=>a h.1),show(pk l j==39)=false from aeA.2 a,TD]
   ·rw[abz hc,TD,aeD (fun h=>by rw[oz (by omega)]at h;cases h.1)]
  rw[er];by_cases hc:k<l.length
  ·rw[abC hc,ge,aO,dt hc,ai (tp _ _),aq];have b:=kJ bq hc;cases d:bq (pk l k)with
   |false =>rw[d,aeD (by decide)]at b;rw[TD];exact fin b
   |true =>rw[d,aeM rfl]at b;rw[ge,aA (show k<2^62 by omega)];exact Fp l hl H j e (n - 1) (k+1) (by omega) (by omega) (by omega) (by omega)
  ·rw[abz hc,TD];exact fin (zo _ (by omega))
 termination_by n=>n
def MJ(l:af)(hl:l.length<2^59)(H:DH):∀(n i:Nat),n=l.length - i->i<=l.length->ac av 287 200002 [.g (.str l),.n i] [] H=ret (.i ((if pk l (i+rn bh l i)=39/\0<rn bq l (i+rn bh l i+1)then i+rn bh l i+(1+rn bq l (i+rn bh l i+1))else i+rn bh l i:Nat):Nat)) H
 |n,i,hn,hi=>by
  refine aZ (Iw _ _ _ _) ?_;rw[er];by_cases hc:i<l.length
  ·rw[abC hc,ge,aO,dt hc,ai (JW _ _),aq];have a:=kJ bh hc;cases b:bh (pk l i)with
   |false =>rw[b,aeD (by decide)]at a;rw[TD,aA (show i<2^62 by omega),a,aiU];exact Fp l hl H i hi _ (i+1) rfl (abD _) (by omega) rfl
   |true =>rw[b,aeM rfl]at a;rw[ge,aA (show i<2^62 by omega),a,MJ l hl H (n - 1) (i+1) (by omega) (by omega),show i+1+rn bh l (i+1)=i+(rn bh l (i+1)+1)by omega]
  ·rw[abz hc,TD,aA (show i<2^62 by omega),zo bh (show l.length<=i by omega),aiU];exact Fp l hl H i hi _ (i+1) rfl (abD _) (by omega) rfl
 termination_by n=>n
def RF(l:af)(hl:l.length<2^59)(H:DH)(i:Nat)(hi:i<=l.length):am 287 [.str l,.i i] H=ret (.i (i+dg l i:Nat)) H:=by
 refine ev (f287 _ _ _ _) ((MJ l hl H _ i rfl hi).trans ?_);unfold dg;split
 ·rw[ajE]
 ·rfl
def CP(t:af)(H:DH):∀(pre suf:List af),xA=pre++suf->ac av 288 200003 [.g (.str t),.g (.row 1 (xA.map fun w=>[.str w])),.n pre.length] [] H=ret (.bool (decide (t∈suf))) H
 |pre,[],e=>by
  refine aZ (vW _ _ _ _ _) ?_;have b:xA.length=pre.length:=by rw[e];simp
  rw[aby,b,er,abz (aiD _)];rfl
 |pre,w::suf,e=>by
  refine aZ (vW _ _ _ _ _) ?_;have hi:pre.length<xA.length:=by rw[e];simp
  have a:(xA.map fun w=>([.str w]:List D))[pre.length]? = some [.str w]:=by rw[e];simp
  have ih:=CP t H (pre++[w]) suf (by rw[e];simp);simp only[aae,aaQ]at ih;have h15:xA.length=15:=rfl;rw[aby,er,abC hi,ge,aO,aB a,ao];simp only[cF,aq,aA (show pre.length<2^62 by omega),ih];by_cases h:w=t
  ·subst h;simp
  ·rw[show(w==t)=false from aeA.2 h];simp[akX h]
def Uo(t:af)(H:DH):am 288 [.str t] H=ret (.bool (decide (t∈xA))) H:=ev (agD _ _ _) (CP t H [] xA rfl)
def Dd(l:af)(i:Nat)(hi:i<l.length)(H:DH):∀(pre suf:af),Hi=pre++suf->ac av 289 200005 [.g (.str l),.n i,.g (.str Hi),.n pre.length] [] H=ret (.i (if pk l i∈suf then 1 else 0)) H
 |pre,[],e=>by
  refine aZ (vV _ _ _ _ _ _) ?_;have b:Hi.length=pre.length:=by rw[e];simp
  rw[b,er,abz (aiD _)];rfl
 |pre,w::suf,e=>by
  refine aZ (vV _ _ _ _ _ _) ?_;have hp:pre.length<Hi.length:=by rw[e];simp
  have ih:=Dd l i hi H (pre++[w]) suf (by rw[e];simp);simp only[aae,aaQ]at ih;have h15:Hi.length=14:=rfl;have d:pk Hi pre.length=w:=by
   have a:Hi[pre.length]? = some w:=by rw[e];simp
   unfold pk;rw[a,ajG];have f:∀ c∈Hi,c%256=c:=by decide
   exact f w (aiR a)
  rw[er,abC hp,ge,aO,dt hp,aO,dt hi,d];simp only[aT,neq,aq,aA (show pre.length<2^62 by omega),ih];by_cases h:w=pk l i
  ·rw[<- h];simp
  ·rw[show(w==pk l i)=false from aeA.2 h];simp[akX h]
def YX(l:af)(hl:l.length<2^59)(i:Nat)(hi:i<l.length)(H:DH):am 289 [.str l,.i i] H=ret (.i (rE l i:Nat)) H:=by
 refine ev (agC _ _ _ _) ?_;have j:=Dd l i hi H [] Hi rfl;have two:∀ {a b:Nat},(l.drop i).take 2=[a,b]->i+2<=l.length:=fun h=>by have:=aiK List.length h;rw[aiu,aiS]at this;simp at this;omega
 have k:¬(l.drop i).take 2=[61,62]->¬(l.drop i).take 2=[45,62]->(ret (.i (if pk l i∈Hi then 1 else 0)) H:au)=ret (.i (rE l i:Nat)) H:=fun c d=>by by_cases hm:pk l i∈Hi<;>simp[rE,c,d,hm]
 rw[aA (show i<2^62 by omega),er];by_cases hc:i+1<l.length
 ·rw[abC hc,ge,show((i:Nat):Int)+2=((i:Nat):Int)+((2:Nat):Int)from rfl,wN (show i+2<2^62 by omega),Uj l i (i+2) H _ (by omega) (by omega),Uj l i (i+2) H _ (by omega) (by omega),show i+2 - i=2 by omega];simp only[cF,aq];by_cases c:(l.drop i).take 2=[61,62]
  ·have e:rE l i=2:=by unfold rE;rw[aeM (.inl c)]
   rw[c,e];rfl
  ·rw[show((l.drop i).take 2==[61,62])=false from aeA.2 c,TD];by_cases d:(l.drop i).take 2=[45,62]
   ·have e:rE l i=2:=by unfold rE;rw[aeM (.inr d)]
    rw[d,e];rfl
   ·rw[show((l.drop i).take 2==[45,62])=false from aeA.2 d,TD];exact j.trans (k c d)
 ·rw[abz hc,TD];exact j.trans (k (fun h=>by have:=two h;omega) (fun h=>by have:=two h;omega))
def Pt(t:TypeId)(c:Bool)(a:Int)(κ:D->au):aw ab .quo t c (.i a) (.i 10) κ=κ (.i (bD (a.tdiv 10))):=rfl
def TI(t:TypeId)(c:Bool)(a b:Int)(κ:D->au):aw ab .sub t c (.int .u8 a) (.int .u8 b) κ=κ (.int .u8 (IntKind.wrap .u8 (a - b))):=rfl
def aaW(a:Int)(κ:D->au):qI ab 5 3 (.int .u8 a) κ=κ (.i (bD a)):=by kernel_rfl
def zN(x:af)(f:x.length<2^60)(H:DH)(c d:Int):∀(n i:Nat) (b:Int),n=x.length - i->i<=x.length ->
 ∃ a e:Int,ac av 282 200009 [.g (.str x),.n c,.n b,.n d,.n i] [] H=ret (.tuple [.i a,.i e]) H
 |n,i,b,hn,hi=>by
  rw[show ac av 282 200009 [.g (.str x),.n c,.n b,.n d,.n i] [] H=_ from aZ (Iy _ _ _ _ _ _ _) rfl];rw[er];by_cases hc:i<x.length
  ·rw[abC hc,ge,aO,dt hc,ai (tp _ _)];simp only[aH,aq];cases bq (pk x i)with
   |false=>exact⟨_,_,rfl⟩
   |true =>
    rw[aid,TD,aO,dt hc];simp only[TI,aaW,bH,Pt,aS,nz,aq];cases decide (b<_)with
    |true=>exact⟨_,_,rfl⟩
    |false =>rw[TD,aA (show i<2^62 by omega)];exact zN x f H c d (n - 1) (i+1) _ (by omega) (by omega)
  ·rw[abz hc,TD];cases c==1 with
   |true=>exact⟨_,_,rfl⟩
   |false =>
    rw[TD];cases b==d with
    |true=>exact⟨_,_,rfl⟩
    |false=>exact⟨_,_,rfl⟩
 termination_by n=>n
def Rv(x:af)(b:x.length<2^60)(H:DH)(i:Nat)(hi:i<=x.length):∃ a e:Int,ac av 282 4 [.g (.str x),.n i] [] H=ret (.tuple [.i a,.i e]) H:=by
 rw[show ac av 282 4 [.g (.str x),.n i] [] H=_ from aZ (aaI _ _ _ _) rfl];rw[neq];by_cases h:x.length=i
 ·rw[h,akY,ge];exact⟨_,_,rfl⟩
 ·rw[show(x.length==i)=false from aeA.2 h,TD];cases decide ((x.length:Int)>30)with
  |true=>exact⟨_,_,rfl⟩
  |false =>
   rw[TD,aO,dt (by omega)];simp only[aT,aq];cases ((pk x i:Int)==48)with
   |true =>
    rw[ge];cases decide ((x.length:Int)>1)with
    |true=>exact⟨_,_,rfl⟩
    |false=>rw[TD];exact zN x b H i _ _ i 0 rfl hi
   |false=>rw[TD];exact zN x b H i _ _ i 0 rfl hi
def acK(x:af)(b:x.length<2^60)(H:DH):∃ a e:Int,am 282 [.str x] H=ret (.tuple [.i a,.i e]) H:=by
 rw[show am 282 [.str x] H=_ from ev (f282 _ _ _) rfl];rw[show(0:Int)=((0:Nat):Int)from rfl,RB];by_cases h:0<x.length
 ·rw[abC h,ge,dt h];simp only[aT,aq];cases ((pk x 0:Int)==126)with
  |true=>rw[ge];exact Rv x b H 1 h
  |false=>rw[TD];exact Rv x b H 0 (aje _)
 ·rw[abz h,TD];exact Rv x b H 0 (aje _)
def BX(l:af)(H:DH)(r:au):Prop:=∃(k v e a:Int) (t:af),r=ret (.tuple [.agg [.i k,.i v,.str t,.i a],.i e]) H/\(fw l 0->e=0->k=1) /\
 (¬ fw l 0->match gg l 0 with|none=>e≠0|some (b,n)=>e=0/\k=b/\t=l.take n)
variable{l:af}
def QY(hl:l.length<=100)(H:DH)(b:fw l 0)(i:Nat)(hi:i<=l.length) :
 BX l H (ac av 232 8 [.g (.str l),.n ((0:Nat):Int),.lp 0 0,.n i] [(0,[.i 0,.i 0,.str [],.i 0])] H):=by
 rw[show ac av 232 8 [.g (.str l),.n ((0:Nat):Int),.lp 0 0,.n i] [(0,[.i 0,.i 0,.str [],.i 0])] H=_ from aZ (aaK _ _ _ _ _ _ _ _ _) rfl];rw[Uj l 0 i H _ (aje _) hi];obtain⟨a,e,h⟩:=acK ((l.drop 0).take (i - 0)) (by rw[aiu,aiS];omega) H;rw[ai h];simp only[gb,ao,ax,dX,aq];have bad:BX l H (ret (.tuple [.agg [.i 0,.i 0,.str [],.i 0],.i 13]) H):=⟨0,0,13,0,[],rfl,(fun _ q=>by cases q),fun q=>(q b).elim⟩;have good:BX l H (ac av 232 11 [.g (.str l),.n ((0:Nat):Int),.lp 0 0,.n i,.n a] [(0,[.i 0,.i 0,.str [],.i 0])] H):=by rw[show ac av 232 11 [.g (.str l),.n ((0:Nat):Int),.lp 0 0,.n i,.n a] [(0,[.i 0,.i 0,.str [],.i 0])] H=_ from aZ (Wk _ _ _ _ _ _ _ _ _ _) rfl];rw[Uj l 0 i H _ (aje _) hi];exact⟨1,a,0,0,_,rfl,fun _ _=>rfl,fun q=>(q b).elim⟩
 cases (e != 0)with
 |true=>rw[ge];exact bad
 |false =>
  rw[TD,er];by_cases hc:i<l.length
  ·rw[abC hc,ge,aO,dt hc,ai (JW _ _),aq];cases bh (pk l i)with
   |true=>rw[ge];exact bad
   |false =>
    rw[TD,aO,dt hc];simp only[aT,aq];cases ((pk l i:Int)==39)with
    |true=>rw[ge];exact bad
    |false=>rw[TD];exact good
  ·rw[abz hc,TD];exact good
def JT(hl:l.length<=100)(H:DH)(a:fw l 0):∀(n i:Nat),n=l.length - i->i<=l.length ->
 BX l H (ac av 232 200006 [.g (.str l),.n ((0:Nat):Int),.lp 0 0,.n i] [(0,[.i 0,.i 0,.str [],.i 0])] H)
 |n,i,hq,hi=>by
  rw[show ac av 232 200006 [.g (.str l),.n ((0:Nat):Int),.lp 0 0,.n i] [(0,[.i 0,.i 0,.str [],.i 0])] H=_ from aZ (Iz _ _ _ _ _ _ _ _ _) rfl];rw[er];by_cases hc:i<l.length
  ·rw[abC hc,ge,aO,dt hc,ai (tp _ _),aq];cases bq (pk l i)with
   |true =>rw[ge,aA (show i<2^62 by omega)];exact JT hl H a (n - 1) (i+1) (by omega) (by omega)
   |false=>rw[TD];exact QY hl H a i hi
  ·rw[abz hc,TD];exact QY hl H a i hi
 termination_by n=>n
variable{l:af}
def EZ(H:DH)(i:Nat)(hi:i<=l.length)(k:Int):ac av 232 26 [.g (.str l),.n ((0:Nat):Int),.lp 0 0,.n i,.n k] [(0,[.i 0,.i 0,.str [],.i 0])] H=ret (.tuple [.agg [.i k,.i 0,.str (l.take i),.i ((0:Nat):Int)],.i 0]) H:=by refine aZ (Wh _ _ _ _ _ _ _ _ _ _) ?_;rw[Uj l 0 i H _ (aje _) hi,ajA,ajS];rfl
def Mn(hl:l.length<=100)(h0:0<l.length)(H:DH)(c:¬ fw l 0)(h:eY (pk l 0)=true\/jr (pk l 0)=true):BX l H (ac av 232 18 [.g (.str l),.n ((0:Nat):Int),.lp 0 0,.g (.int .u8 (pk l 0:Nat))] [(0,[.i 0,.i 0,.str [],.i 0])] H):=by
 rw[show ac av 232 18 [.g (.str l),.n ((0:Nat):Int),.lp 0 0,.g (.int .u8 (pk l 0:Nat))] [(0,[.i 0,.i 0,.str [],.i 0])] H=_ from aZ (Wi _ _ _ _ _ _ _ _ _) rfl];rw[ai (RF l (by omega) H 0 (aje _)),aiv];have hle:=sw l 0 (aje _);have b:bD (((dg l 0:Nat):Int) - ((0:Nat):Int))=((dg l 0:Nat):Int):=by rw[jf]<;>omega
 simp only[nz,b,ef,show(24:Int)=((24:Nat):Int)from rfl,RB,aq];by_cases hc:24<dg l 0
 ·rw[abC hc,ge];refine⟨0,0,2,0,[],rfl,fun q=>(c q).elim,fun _=>?_⟩;have:gg l 0=none:=by
   unfold gg;rcases h with h|h
   ·rw[aeM h,aeM hc]
   ·by_cases a:eY (pk l 0)=true
    ·rw[aeM a,aeM hc]
    ·rw[aeD a,aeM h,aeM hc]
  rw[this];simp
 ·rw[abz hc,TD,ai (FK _ _),aq];cases d:jr (pk l 0)with
  |true =>
   rw[ge,EZ H _ (by omega) 3];have a:¬ eY (pk l 0)=true:=fun a=>by unfold eY at a;unfold jr at d;simp only[abA,ajJ]at a d;omega
   have:gg l 0=some (3,dg l 0):=by unfold gg;rw[aeD a,aeM d,aeD hc]
   refine⟨3,0,0,_,_,rfl,fun q=>(c q).elim,fun _=>?_⟩;rw[this];exact⟨rfl,rfl,rfl⟩
  |false =>
   have a:eY (pk l 0)=true:=h.resolve_right (by rw[d];decide);rw[TD,Uj l 0 _ H _ (aje _) (show dg l 0<=l.length by omega),ai (Uo _ _),aq];rw[ajA,ajS];by_cases b:l.take (dg l 0)∈xA
   ·rw[abC b,ge,EZ H _ (by omega) 5];have:gg l 0=some (5,dg l 0):=by unfold gg;rw[aeM a,aeD hc,ajA,aeM b]
    refine⟨5,0,0,_,_,rfl,fun q=>(c q).elim,fun _=>?_⟩;rw[this];exact⟨rfl,rfl,rfl⟩
   ·rw[abz b,TD,EZ H _ (by omega) 2];have:gg l 0=some (2,dg l 0):=by unfold gg;rw[aeM a,aeD hc,ajA,aeD b]
    refine⟨2,0,0,_,_,rfl,fun q=>(c q).elim,fun _=>?_⟩;rw[this];exact⟨rfl,rfl,rfl⟩
def Fa(hl:l.length<=100)(h0:0<l.length)(H:DH)(a:¬ fw l 0)(j:¬(pk l 0=39/\eY (pk l 1)=true)):BX l H (ac av 232 17 [.g (.str l),.n ((0:Nat):Int),.lp 0 0,.g (.int .u8 (pk l 0:Nat))] [(0,[.i 0,.i 0,.str [],.i 0])] H):=by
 rw[show ac av 232 17 [.g (.str l),.n ((0:Nat):Int),.lp 0 0,.g (.int .u8 (pk l 0:Nat))] [(0,[.i 0,.i 0,.str [],.i 0])] H=_ from aZ (Wj _ _ _ _ _ _ _ _ _) rfl];rw[ai (EK _ _),aq];cases f:eY (pk l 0)with
 |true=>rw[ge];exact Mn hl h0 H a (.inl f)
 |false =>
  rw[TD,ai (FK _ _),aq];cases h:jr (pk l 0)with
  |true=>rw[ge];exact Mn hl h0 H a (.inr h)
  |false =>
   have b:gg l 0=if rE l 0=0 then none else some (6,rE l 0):=by unfold gg;rw[aeD (by rw[f];decide),aeD (by rw[h];decide),aeD j]
   have d:rE l 0<=l.length:=by
    unfold rE;split
    ·rename_i c;have:=(show(List.take 2 (List.drop 0 l)).length=2 by rcases c with c|c<;>rw[c]<;>rfl);rw[aiu,aiS]at this;omega
    ·split<;>omega
   rw[TD,ai (YX l (by omega) 0 h0 H)];simp only[aT,aq];by_cases e:rE l 0=0
   ·rw[aeM e]at b;rw[e,show(((0:Nat):Int)==0)=true from rfl,ge];refine⟨0,0,11,0,[],rfl,fun q=>(a q).elim,fun _=>?_⟩;rw[b];simp
   ·rw[aeD e]at b;rw[show(((rE l 0:Nat):Int)==0)=false by simp;omega,TD];simp only[bH,wN (show 0+rE l 0<2^62 by omega),aiv];rw[Uj l 0 _ H _ (aje _) d,ajA,ajS];refine⟨6,0,0,_,_,rfl,fun q=>(a q).elim,fun _=>?_⟩;rw[b];exact⟨rfl,rfl,rfl⟩
def UP(hl:l.length<=100)(h0:0<l.length)(H:DH):BX l H (am 232 [.str l,.i ((0:Nat):Int)] H):=by
 rw[show am 232 [.str l,.i ((0:Nat):Int)] H=_ from ev (agT _ _ _ _) rfl];rw[aO,dt h0];have s:bD (((0:Nat):Int)+1)=((1:Nat):Int):=aA (n:=0) (by omega);simp only[aT,show(126:Int)=((126:Nat):Int)from rfl,show(39:Int)=((39:Nat):Int)from rfl,neq,aq,ai (tp _ _),s];by_cases a:pk l 0=126
 ·rw[a,akY,ge,ge];exact JT hl H (.inr a) _ 1 rfl h0
 rw[show(pk l 0==126)=false from aeA.2 a,TD,TD];cases o:bq (pk l 0)with
 |true=>rw[ge];exact JT hl H (.inl o) _ 0 rfl (aje _)
 |false =>
 rw[TD];have c:¬ fw l 0:=fun h=>by rcases h with h|h;exact(by rw[o]at h;cases h);exact a h
 by_cases b:pk l 0=39
 ·have d:(pk l 0==39)=true:=by rw[b];rfl
  rw[d,ge,er];by_cases f:1<l.length
  ·rw[abC f,ge,aO,dt f,ai (EK _ _),aq];cases r:eY (pk l 1)with
   |true =>
    have hr:=sd bh l 1 (by omega);have t:bD (((1+rn bh l 1:Nat):Int) - ((0:Nat):Int))=((1+rn bh l 1:Nat):Int):=by rw[jf]<;>omega
    have j:eY (pk l 0)=false:=by rw[b];rfl
    have k:jr (pk l 0)=false:=by rw[b];rfl
    have e:gg l 0=if 1+rn bh l 1>24 then none else some (4,1+rn bh l 1):=by unfold gg;rw[aeD (by rw[j];decide),aeD (by rw[k];decide),aeM ⟨b,r⟩]
    rw[ge,ai (Rk l (by omega) H 1 (by omega))];simp only[nz,t,ef,show(24:Int)=((24:Nat):Int)from rfl,RB,aq];by_cases hc:24<1+rn bh l 1
    ·rw[aeM hc]at e;rw[abC hc,ge];refine⟨0,0,2,0,[],rfl,fun q=>(c q).elim,fun _=>?_⟩;rw[e];simp
    ·rw[aeD hc]at e;rw[abz hc,TD,Uj l 0 _ H _ (aje _) (by omega),ajA,ajS];refine⟨4,0,0,_,_,rfl,fun q=>(c q).elim,fun _=>?_⟩;rw[e];exact⟨rfl,rfl,rfl⟩
   |false =>rw[TD];exact Fa hl h0 H c (fun h=>by rw[r]at h;cases h.2)
  ·rw[abz f,TD];exact Fa hl h0 H c (fun h=>by rw[oz (show l.length<=1 by omega)]at h;cases h.2)
 ·rw[show(pk l 0==39)=false from aeA.2 b,TD];exact Fa hl h0 H c (fun h=>b h.1)
def GZ{k:Int}{n:Nat}(h:gg l 0=some (k,n))(h0:0<l.length):n<=24/\n<=l.length:=by
 have a1:=sw l 0 (aje _);unfold gg at h;split at h
 ·split at h<;>cases h;omega
 ·split at h
  ·split at h<;>cases h;omega
  ·split at h
   ·rename_i b;have h1:1<l.length:=by
     rcases aiA 1 l.length with q|q
     ·exact q
     ·rw[oz (show l.length<=0+1 by omega)]at b;cases b.2
    have a2:=sd bh l (0+1) (by omega);split at h<;>cases h;omega
   ·split at h
    ·cases h
    ·cases h;unfold rE;split
     ·rename_i a;have:=(show(List.take 2 (List.drop 0 l)).length=2 by rcases a with a|a<;>rw[a]<;>rfl);rw[aiu,aiS]at this;omega
     ·split<;>omega
def Sj(hl:l.length<=100)(h0:0<l.length)(s:¬ skip l 0)(H:DH):∃ k,ac av 170 5 [.g (.str l)] [] H=ret (.i k) H/\tQ l k:=by
 rw[show ac av 170 5 [.g (.str l)] [] H=_ from aZ (aaN _ _ _) rfl];obtain⟨k,v,e,a,t,f,u,b⟩:=UP hl h0 H;have f:am 232 [.str l,.i 0] H=_:=f;rw[ai f];simp only[gb,ao,ax,ce4,ov4,dX,aq,OF];by_cases h:e=0
 ·subst h;rw[show((0:Int) != 0)=false from rfl,TD];by_cases j:t.length=l.length
  ·rw[j,show(((l.length:Nat):Int) !=((l.length:Nat):Int))=false by simp,TD];refine⟨k,rfl,?_⟩;by_cases c:fw l 0
   ·exact .inr ⟨c,u c rfl⟩
   ·have b:=b c;cases d:gg l 0 with
    |none=>rw[d]at b;exact(b rfl).elim
    |some p =>
     obtain⟨r,n⟩:=p;rw[d]at b;obtain⟨_,rfl,rfl⟩:=b;rw[aiu]at j;refine .inl ?_;unfold br;by_cases o:24<l.length
     ·exfalso;have:=GZ d h0;omega
     ·rw[aeD (by rintro(q|q|q|q);omega;exact o q;exact s q;exact c q),d];simp only;have:=GZ d h0;rw[aeM (by omega)]
  ·rw[show(((t.length:Nat):Int) !=((l.length:Nat):Int))=true by simp;omega,ge];refine⟨0,rfl,.inl ?_⟩;by_cases c:fw l 0
   ·exact(eT (.inr (.inr (.inr c)))).symm
   ·have b:=b c;unfold br;split
    ·rfl
    ·cases d:gg l 0 with
     |none=>rfl
     |some p =>obtain⟨r,n⟩:=p;rw[d]at b;obtain⟨_,rfl,rfl⟩:=b;simp only;rw[aeD (fun e=>by rw[aiu]at j;omega)]
 ·rw[show(e != 0)=true by simp[h],ge];refine⟨0,rfl,.inl ?_⟩;by_cases c:fw l 0
  ·exact(eT (.inr (.inr (.inr c)))).symm
  ·have b:=b c;unfold br;split
   ·rfl
   ·cases d:gg l 0 with
    |none=>rfl
    |some p =>obtain⟨r,n⟩:=p;rw[d]at b;exact(h b.1).elim
def ZO(l:af)(H:DH):∃ k,am 170 [.str l] H=ret (.i k) H/\tQ l k:=by
 rw[show am 170 [.str l] H=_ from ev (ahu _ _ _) rfl];rw[show(0:Int)=((0:Nat):Int)from rfl,show(100:Int)=((100:Nat):Int)from rfl,show(1:Int)=((1:Nat):Int)from rfl,neq,RB,RB];by_cases h0:l.length=0
 ·rw[h0,akY,ge];exact⟨0,rfl,.inl (eT (.inl h0)).symm⟩
 rw[show(l.length==0)=false from aeA.2 h0,TD];by_cases a:100<l.length
 ·rw[abC a,ge];exact⟨0,rfl,.inl (eT (.inr (.inl (by omega)))).symm⟩
 rw[abz a,TD,dt (show 0<l.length by omega),ai (UF _ _),aq];cases c:dA (pk l 0)with
 |true =>rw[ge];exact⟨0,rfl,.inl (eT (.inr (.inr (.inl (.inl c))))).symm⟩
 |false =>
  rw[TD];by_cases d:1<l.length
  ·rw[abC d,ge,show(.i 2:D)=.i ((2:Nat):Int)from rfl,abY l 2 H _ (by omega)];simp only[cF,aq];by_cases b:l.take 2=[40,42]
   ·rw[b,akY,ge];exact⟨0,rfl,.inl (eT (.inr (.inr (.inl (.inr b))))).symm⟩
   ·rw[show(l.take 2==[40,42])=false from aeA.2 b,TD];exact Sj (by omega) (by omega) (fun h=>by rcases h with h|h;exact(by rw[c]at h;cases h);exact b h) H
  ·rw[abz d,TD];refine Sj (by omega) (by omega) (fun h=>?_) H;rcases h with h|h
   ·rw[c]at h;cases h
   ·have:=aiK List.length h;rw[aiu,aiS]at this;simp at this;omega
def qa{α:Type}{l:List α}{i:Nat}{x:α}(h:l[i]? = some x):l.set i x=l:=@lr ⟨fun _=>True,[],fun _ _ _ h=>h⟩ α l i x h
inductive Ty where
 |mk (n:af) (xs:List Ty)
inductive Pa where
 |mk (k:Int) (n:af) (xs:List Pa)
inductive Ex where
 |mk (k m:Int) (n a:af) (xs:List Ex) (ps:List Pa)
structure Fu where
 n:af
 a:af
 b:Ex
structure Co where
 n:af
 xs:List Ty
structure Da where
 n:af
 vs:List af
 cs:List Co
structure De where
 k:Int
 d:Da
 n:af
 t:Ty
 fs:List Fu
 b:Ex
mutual
def dJ:Ty->List D
 |.mk n xs=>[.str n,.row 2 (cp xs)]
def cp:List Ty->aR
 |[]=>[]
 |t::r=>dJ t::cp r
end
mutual
def eQ:Pa->List D
 |.mk k n xs=>[.i k,.str n,.row 3 (cr xs)]
def cr:List Pa->aR
 |[]=>[]
 |t::r=>eQ t::cr r
end
mutual
def cP:Ex->List D
 |.mk k m n a xs ps=>[.i k,.i m,.str n,.str a,.row 6 (cm xs),.row 3 (cr ps)]
def cm:List Ex->aR
 |[]=>[]
 |t::r=>cP t::cm r
end
def jQ:Fu->List D
 |⟨n,a,.mk k m en ea xs ps⟩=>[.str n,.str a,.i k,.i m,.str en,.str ea,.row 6 (cm xs),.row 3 (cr ps)]
def fD(s:af):List D:=[.str s]
def km:Co->List D
 |⟨n,xs⟩=>[.str n,.row 2 (cp xs)]
def daC:Da->List D
 |⟨n,vs,cs⟩=>[.str n,.row 1 (vs.map fD),.row 2 (cs.map km)]
def bF:De->List D
 |⟨k,⟨dn,vs,cs⟩,n,.mk tn ts,fs,.mk ek em en ea xs ps⟩=>[.i k,.str dn,.row 1 (vs.map fD),.row 2 (cs.map km),.str n,.str tn,.row 2 (cp ts),.row 8 (fs.map jQ),.i ek,.i em,.str en,.str ea,.row 6 (cm xs),.row 3 (cr ps)]
def iI:∀ l,cp l=l.map dJ
 |[]=>rfl
 |t::r=>by simp[cp,iI r]
def lJ:∀ l,cr l=l.map eQ
 |[]=>rfl
 |t::r=>by simp[cr,lJ r]
def lU:∀ l,cm l=l.map cP
 |[]=>rfl
 |t::r=>by simp[cm,lU r]
mutual
def Ty.ok:Ty->Prop
 |.mk _ xs=>xs.length<2^62/\Ty.oks xs
def Ty.oks:List Ty->Prop
 |[]=>True
 |t::r=>t.ok/\Ty.oks r
end
mutual
def Pa.ok:Pa->Prop
 |.mk _ _ xs=>xs.length<2^62/\Pa.oks xs
def Pa.oks:List Pa->Prop
 |[]=>True
 |t::r=>t.ok/\Pa.oks r
end
mutual
def Ex.ok:Ex->Prop
 |.mk _ _ _ _ xs ps=>xs.length<2^62/\Ex.oks xs/\ps.length<2^62/\Pa.oks ps
def Ex.oks:List Ex->Prop
 |[]=>True
 |t::r=>t.ok/\Ex.oks r
end
def Co.ok(c:Co):Prop:=c.xs.length<2^62/\Ty.oks c.xs
def Da.ok(d:Da):Prop:=d.vs.length<2^62/\d.cs.length<2^62/\∀ c∈d.cs,c.ok
def De.ok(d:De):Prop:=d.d.ok/\d.t.ok/\d.fs.length<2^62/\(∀ f∈d.fs,f.b.ok)/\d.b.ok
def Ty.oks_iff:∀ {l},Ty.oks l↔∀ t∈l,Ty.ok t
 |[]=>by simp[Ty.oks]
 |t::r=>by simp[Ty.oks,Ty.oks_iff (l:=r)]
def Pa.oks_iff:∀ {l},Pa.oks l↔∀ t∈l,Pa.ok t
 |[]=>by simp[Pa.oks]
 |t::r=>by simp[Pa.oks,Pa.oks_iff (l:=r)]
def Ex.oks_iff:∀ {l},Ex.oks l↔∀ t∈l,Ex.ok t
 |[]=>by simp[Ex.oks]
 |t::r=>by simp[Ex.oks,Ex.oks_iff (l:=r)]
def bZ{α β:Type}(f:α->β)(pre:List α)(t:α)(suf:List α):((pre++t::suf).map f)[pre.length]? = some (f t):=by simp
abbrev TO(ix sz cl:Nat)(rows:aR)(c:Nat)(i:Int)(H:DH):au:=ac av ix 200002 [.g (.row sz rows),.g (.func cl [] [.ptr c 0]),.n rows.length,.n i] [] H
def nH{H X:DH}{f:FuncId}{a:List D}{b:Bool}(h:am f a (H++X)=ret (.bool b) (H++X)):aX H (C av f a (H++X) fun d H=>eA .not d fun d=>ret d H)=ret (.bool !b) H:=by rw[ai h];exact xZ _ H _
variable{g:FuncId}
def nG{α:Type}{mk:α->D}{enc:α->List D}{sz al ix cl:Nat}{p:α->Bool}(l:List α)(hl:l.length<2^62)
 (h:∀(H:DH) (c i:Nat) (t:α) (b:Bool),H[c]? = some (.cells 0 [.func g [] []])->(l.map enc)[i]? = some (enc t)->decide ((i:Int)<((l.map enc).length:Int))=true->am g [mk t] H=ret (.bool b) H ->
  TO ix sz cl (l.map enc) c i H=cond (!b) (ret (.i i) H) (TO ix sz cl (l.map enc) c (bD (i+1)) H))
 (j:∀(H:DH) (c i:Nat),decide ((i:Int)<((l.map enc).length:Int))=false->TO ix sz cl (l.map enc) c i H=ret (.i (-1)) H)
 (o:∀(H:DH) (n:Int),TO ix sz cl (l.map enc) H.length 0 (H++[.cells 0 [.func g [] []]])=ret (.i n) (H++[.cells 0 [.func g [] []]])->am al [.row sz (l.map enc),.func g [] []] H=ret (.bool !(decide (n>=0))) H)
 (q:∀ t∈l,∀ H',am g [mk t] H'=ret (.bool (p t)) H') (H:DH):am al [.row sz (l.map enc),.func g [] []] H=ret (.bool (l.all p)) H:=by
 have main:∀(c:Nat) (H:DH),H[c]? = some (.cells 0 [.func g [] []])->∀ suf pre,l=pre++suf->∃ n:Int,TO ix sz cl (l.map enc) c (pre.length:Nat) H=ret (.i n) H/\decide (n>=0)=!suf.all p:=by
  intro c H hc suf;induction suf with
  |nil=>intro pre e;exact⟨-1,j H c _ (by rw[e];simp),rfl⟩
  |cons t suf ih =>
   intro pre e;obtain⟨n,a,f⟩:=ih (pre++[t]) (by rw[e];simp);have hi:pre.length<l.length:=by rw[e];simp
   have k:=h H c pre.length t _ hc (by rw[e];exact bZ _ _ _ _) (by simpa using hi) (q t (by rw[e];simp) H);rw[aae,aaQ]at a;rw[aA (show pre.length<2^62 by omega),a]at k;cases d:p t with
   |true=>exact⟨n,by rw[k,d];rfl,by rw[f,ajb,d,aeG]⟩
   |false=>exact⟨pre.length,by rw[k,d];rfl,by rw[ajb,d,aeH];simp⟩
 obtain⟨n,a,f⟩:=main H.length (H++[.cells 0 [.func g [] []]]) (bt H _) l [] rfl;rw[o H n a,f,Bool.not_not]
def Yx{p:Ty->Bool}(hb:aW bY g=true)(l:List Ty)(hl:l.length<2^62)(a:∀ t∈l,∀ H',am g [.agg (dJ t)] H'=ret (.bool (p t)) H')(H:DH):am 249 [.row 2 (l.map dJ),.func g [] []] H=ret (.bool (l.all p)) H :=
 nG (mk:=fun t=>.agg (dJ t)) (ix:=332) (cl:=308) l hl (fun H c i t b hc h hi a=>by
  have d:am 308 [.agg (dJ t),.ptr c 0] H=ret (.bool !b) H:=by
   obtain⟨n,xs⟩:=t;try simp only[dJ]at a ⊢
   exact ev (agq _ _ _ _ _) (by simp only[ae hc,ao,eG hb,air,aic,ai a,aH])
  obtain⟨n,xs⟩:=t;try simp only[dJ]at d
  refine aZ (vK _ _ _ _ _ _) ?_;rw[hi,ge,aO,aB h];simp only[dJ,ao,ax,eG (show aW bY 308=true by kernel_rfl),air,aiG,ai d,aH,aq])
  (fun H c i hi=>aZ (vK _ _ _ _ _ _) (by rw[hi];rfl))
  (fun H n h=>ev (agQ _ _ _ _) (nH (ev (agr _ _ _ _) (by simp only[ai (ev (agd _ _ _ _) h),cX])))) a H
def aet{p:af->Bool}(hb:aW bY g=true)(l:List af)(hl:l.length<2^62)(a:∀ t∈l,∀ H',am g [.str t] H'=ret (.bool (p t)) H')(H:DH):am 250 [.row 1 (l.map fD),.func g [] []] H=ret (.bool (l.all p)) H :=
 nG (mk:=fun t=>.str t) (ix:=333) (cl:=310) l hl (fun H c i t b hc h hi a=>by
  have d:am 310 [.str t,.ptr c 0] H=ret (.bool !b) H:=by
   skip
   try simp only[fD]at a ⊢
   exact ev (ago _ _ _ _) (by simp only[ae hc,ao,eG hb,air,aic,ai a,aH])
  skip
  try simp only[fD]at d
  refine aZ (vJ _ _ _ _ _ _) ?_;rw[hi,ge,aO,aB h];simp only[fD,ao,ax,eG (show aW bY 310=true by kernel_rfl),air,aiG,ai d,aH,aq])
  (fun H c i hi=>aZ (vJ _ _ _ _ _ _) (by rw[hi];rfl))
  (fun H n h=>ev (agP _ _ _ _) (nH (ev (agp _ _ _ _) (by simp only[ai (ev (agc _ _ _ _) h),cX])))) a H
def aex{p:Co->Bool}(hb:aW bY g=true)(l:List Co)(hl:l.length<2^62)(a:∀ t∈l,∀ H',am g [.agg (km t)] H'=ret (.bool (p t)) H')(H:DH):am 252 [.row 2 (l.map km),.func g [] []] H=ret (.bool (l.all p)) H :=
 nG (mk:=fun t=>.agg (km t)) (ix:=277) (cl:=312) l hl (fun H c i t b hc h hi a=>by
  have d:am 312 [.agg (km t),.ptr c 0] H=ret (.bool !b) H:=by
   obtain⟨n,xs⟩:=t;try simp only[km]at a ⊢
   exact ev (agm _ _ _ _ _) (by simp only[ae hc,ao,eG hb,air,aic,ai a,aH])
  obtain⟨n,xs⟩:=t;try simp only[km]at d
  refine aZ (vX _ _ _ _ _ _) ?_;rw[hi,ge,aO,aB h];simp only[km,ao,ax,eG (show aW bY 312=true by kernel_rfl),air,aiG,ai d,aH,aq])
  (fun H c i hi=>aZ (vX _ _ _ _ _ _) (by rw[hi];rfl))
  (fun H n h=>ev (agN _ _ _ _) (nH (ev (agn _ _ _ _) (by simp only[ai (ev (f277 _ _ _ _) h),cX])))) a H
def aev{p:Ex->Bool}(hb:aW bY g=true)(l:List Ex)(hl:l.length<2^62)(d:∀ t∈l,∀ H',am g [.agg (cP t)] H'=ret (.bool (p t)) H')(H:DH):am 256 [.row 6 (l.map cP),.func g [] []] H=ret (.bool (l.all p)) H :=
 nG (mk:=fun t=>.agg (cP t)) (ix:=334) (cl:=315) l hl (fun H c i t b hc h hi d=>by
  have e:am 315 [.agg (cP t),.ptr c 0] H=ret (.bool !b) H:=by
   obtain⟨k,m,n,a,xs,ps⟩:=t;try simp only[cP]at d ⊢
   exact ev (agk _ _ _ _ _ _ _ _ _) (by simp only[ae hc,ao,eG hb,air,aic,ai d,aH])
  obtain⟨k,m,n,a,xs,ps⟩:=t;try simp only[cP]at e
  refine aZ (vI _ _ _ _ _ _) ?_;rw[hi,ge,aO,aB h];simp only[cP,ao,ax,eG (show aW bY 315=true by kernel_rfl),air,aiG,ai e,aH,aq])
  (fun H c i hi=>aZ (vI _ _ _ _ _ _) (by rw[hi];rfl))
  (fun H n h=>ev (agJ _ _ _ _) (nH (ev (f314 _ _ _ _) (by simp only[ai (ev (agb _ _ _ _) h),cX])))) d H
def Yy{p:Pa->Bool}(hb:aW bY g=true)(l:List Pa)(hl:l.length<2^62)(a:∀ t∈l,∀ H',am g [.agg (eQ t)] H'=ret (.bool (p t)) H')(H:DH):am 257 [.row 3 (l.map eQ),.func g [] []] H=ret (.bool (l.all p)) H :=
 nG (mk:=fun t=>.agg (eQ t)) (ix:=335) (cl:=317) l hl (fun H c i t b hc h hi a=>by
  have d:am 317 [.agg (eQ t),.ptr c 0] H=ret (.bool !b) H:=by
   obtain⟨k,n,xs⟩:=t;try simp only[eQ]at a ⊢
   exact ev (f317 _ _ _ _ _ _) (by simp only[ae hc,ao,eG hb,air,aic,ai a,aH])
  obtain⟨k,n,xs⟩:=t;try simp only[eQ]at d
  refine aZ (vH _ _ _ _ _ _) ?_;rw[hi,ge,aO,aB h];simp only[eQ,ao,ax,eG (show aW bY 317=true by kernel_rfl),air,aiG,ai d,aH,aq])
  (fun H c i hi=>aZ (vH _ _ _ _ _ _) (by rw[hi];rfl))
  (fun H n h=>ev (agI _ _ _ _) (nH (ev (f316 _ _ _ _) (by simp only[ai (ev (aga _ _ _ _) h),cX])))) a H
def aew{p:De->Bool}(hb:aW bY g=true)(l:List De)(hl:l.length<2^62)(a:∀ t∈l,∀ H',am g [.agg (bF t)] H'=ret (.bool (p t)) H')(H:DH):am 116 [.row 14 (l.map bF),.func g [] []] H=ret (.bool (l.all p)) H :=
 nG (mk:=fun t=>.agg (bF t)) (ix:=247) (cl:=182) l hl (fun H c i t b hc h hi a=>by
  have d:am 182 [.agg (bF t),.ptr c 0] H=ret (.bool !b) H:=by
   obtain⟨k,⟨dn,vs,cs⟩,n,⟨tn,ts⟩,fs,⟨ek,em,en,ea,xs,ps⟩⟩:=t;try simp only[bF]at a ⊢
   exact ev (ahs _ _ _ _ _ _ _ _ _ _ _ _ _ _ _ _ _) (by simp only[ae hc,ao,eG hb,air,aic,ai a,aH])
  obtain⟨k,⟨dn,vs,cs⟩,n,⟨tn,ts⟩,fs,⟨ek,em,en,ea,xs,ps⟩⟩:=t;try simp only[bF]at d
  refine aZ (vZ _ _ _ _ _ _) ?_;rw[hi,ge,aO,aB h];simp only[bF,ao,ax,eG (show aW bY 182=true by kernel_rfl),air,aiG,ai d,aH,aq])
  (fun H c i hi=>aZ (vZ _ _ _ _ _ _) (by rw[hi];rfl))
  (fun H n h=>ev (ahS _ _ _ _) (nH (ev (aht _ _ _ _) (by simp only[ai (ev (f247 _ _ _ _) h),cX])))) a H
def aeu{p:Fu->Bool}(hb:aW bY g=true)(l:List Fu)(hl:l.length<2^62)(d:∀ t∈l,∀ H',am g [.agg (jQ t)] H'=ret (.bool (p t)) H')(H:DH):am 189 [.row 8 (l.map jQ),.func g [] []] H=ret (.bool (l.all p)) H :=
 nG (mk:=fun t=>.agg (jQ t)) (ix:=313) (cl:=255) l hl (fun H c i t b hc h hi d=>by
  have e:am 255 [.agg (jQ t),.ptr c 0] H=ret (.bool !b) H:=by
   obtain⟨n,a,⟨k,m,en,ea,xs,ps⟩⟩:=t;try simp only[jQ]at d ⊢
   exact ev (agK _ _ _ _ _ _ _ _ _ _ _) (by simp only[ae hc,ao,eG hb,air,aic,ai d,aH])
  obtain⟨n,a,⟨k,m,en,ea,xs,ps⟩⟩:=t;try simp only[jQ]at e
  refine aZ (vO _ _ _ _ _ _) ?_;rw[hi,ge,aO,aB h];simp only[jQ,ao,ax,eG (show aW bY 255=true by kernel_rfl),air,aiG,ai e,aH,aq])
  (fun H c i hi=>aZ (vO _ _ _ _ _ _) (by rw[hi];rfl))
  (fun H n h=>ev (ahl _ _ _ _) (nH (ev (agL _ _ _ _) (by simp only[ai (ev (agl _ _ _ _) h),cX])))) d H
end Go.Proofs.YtpghiabjaglpgaaGreatDoor
namespace Go.Proofs.YtpghiabjaglpgaaGreatDoor
open Go.AI
structure YB(kind:af->Int):Prop where
 a:∀ s H,∃ k,am 253 [.str s] H=ret (.i k) H/\(k=kind s\/(kind s=0/\k=1))
 b:∀ s H,∃ k,am 170 [.str s] H=ret (.i k) H/\(k=kind s\/(kind s=0/\k=1))
 c:kind [44]≠3
def kq{k n j:Int}(h:k=n\/(n=0/\k=1))(hj:2<=j):(k==j)=(n==j):=by
 rcases h with rfl|⟨rfl,rfl⟩
 ·rfl
 ·rw[show((1:Int)==j)=false by simp;omega,show((0:Int)==j)=false by simp;omega]
variable{kind:af->Int}(K:YB kind)
include K
def oO(s:af)(H:DH):am 187 [.str s] H=ret (.bool (kind s==2)) H:=by obtain⟨k,b,c⟩:=K.a s H;exact ev (ahn _ _ _) (by simp only[ai b,aT,kq c (show(2:Int)<=2 by decide)])
def sI(s:af)(H:DH):am 129 [.str s] H=ret (.bool (kind s==2)) H:=by obtain⟨k,a,c⟩:=K.b s H;exact ev (f129 _ _ _) (by simp only[ai a,aT,kq c (show(2:Int)<=2 by decide)])
def mT(s:af)(H:DH):am 201 [.str s] H=ret (.bool (kind s==3)) H:=by obtain⟨k,b,c⟩:=K.a s H;exact ev (ahc _ _ _) (by simp only[ai b,aT,kq c (show(2:Int)<=3 by decide)])
def yx(s:af)(H:DH):am 195 [.str s] H=ret (.bool (kind s==3)) H:=by obtain⟨k,a,c⟩:=K.b s H;exact ev (f195 _ _ _) (by simp only[ai a,aT,kq c (show(2:Int)<=3 by decide)])
def MX(s:af)(H:DH):am 251 [.str s] H=ret (.bool (kind s==4)) H:=by obtain⟨k,b,c⟩:=K.a s H;exact ev (agO _ _ _) (by simp only[ai b,aT,kq c (show(2:Int)<=4 by decide)])
def MW(s:af)(H:DH):am 196 [.str s] H=ret (.bool (kind s==4)) H:=by obtain⟨k,a,c⟩:=K.b s H;exact ev (ahf _ _ _) (by simp only[ai a,aT,kq c (show(2:Int)<=4 by decide)])
omit K
section
variable(kind:af->Int)
def EF(n:af)(k:Nat):Bool:=if n==[45,62] then k==2 else if n==[44] then decide (2<=k)&&decide (k<=4)else if kind n==4&&k==0 then true else kind n==3&&decide (k<=16)
mutual
def jg:Ty->Bool
 |.mk n xs=>fN xs&&EF kind n xs.length
def fN:List Ty->Bool
 |[]=>true
 |t::r=>jg t&&fN r
end
end
def nZ:∀ l,fN kind l=l.all (jg kind)
 |[]=>rfl
 |t::r=>by simp[fN,nZ r]
def bP:∀ l,(cp l).length=l.length:=fun l=>by rw[iI,aby]
def gG(pre:List Ty)(t:Ty)(suf:List Ty):(cp (pre++t::suf))[pre.length]? = some (dJ t):=by rw[iI];exact bZ _ _ _ _
include K
mutual
def oR:∀(t:Ty) (H:DH),t.ok->am 130 [.agg (dJ t)] H=ret (.bool (jg kind t)) H
 |.mk n xs,H,h=>by simp only[Ty.ok]at h;refine ev (by simp only[dJ];exact ahF _ _ _ _) ?_;exact qy n xs H h.1 [] xs rfl h.2
def qy(n:af)(xs:List Ty)(H:DH)(hl:xs.length<2^62):∀ pre suf,xs=pre++suf->Ty.oks suf ->
 ac av 130 200002 [.lp 0 0,.n (pre.length:Nat)] [(0,[.str n,.row 2 (cp xs)])] H=ret (.bool (fN kind suf&&EF kind n xs.length)) H
 |pre,[],e,_=>by
  have b:xs.length=pre.length:=by rw[e];simp
  refine aZ (wz _ _ _ _ _) ?_;rw[bP,b];simp only[aio,aip,ai (MW K _ _),ai (yx K _ _),aq,fN,aeG,akM,EF]
  repeat' (first|rfl|split)
  all_goals simp_all
  all_goals first|omega|(rw[aiz];simp<;>omega)
 |pre,t::suf,e,h=>by
  simp only[Ty.oks]at h;refine aZ (wz _ _ _ _ _) ?_;have hi:pre.length<xs.length:=by rw[e];simp
  have c:decide ((pre.length:Int)<((cp xs).length:Int))=true:=by rw[bP];simp;exact hi
  have d:(cp xs)[pre.length]? = some (dJ t):=by rw[e];exact gG _ _ _
  obtain⟨tn,tas⟩:=t;have a:=oR (.mk tn tas) H h.1;simp only[dJ]at a;have ih:=qy n xs H hl (pre++[.mk tn tas]) suf (by rw[e];simp) h.2;rw[c,ge,aO,aB d];simp only[dJ,ao,ax,ai a,aH,aq,aA (show pre.length<2^62 by omega)];simp only[aae,aaQ]at ih;rw[ih];cases f:jg kind (.mk tn tas)<;>simp[fN,f]
end
mutual
def DF:∀(t:Ty) (H:DH),t.ok->am 188 [.agg (dJ t)] H=ret (.bool (jg kind t)) H
 |.mk n xs,H,h=>by
  simp only[Ty.ok]at h;refine ev (by simp only[dJ];exact ahm _ _ _ _) ?_;have b:=rh xs h.2;have c:aW bY 188=true:=by kernel_rfl
  have a:=Yx c (p:=jg kind) xs h.1 b H;rw[<- iI,<- nZ]at a;simp only[ai a,ai (MX K _ _),ai (mT K _ _),aq,aH,bP,akM,jg,EF];clear b a;generalize fN kind xs=q;cases q<;>simp only[aeH,aeG,aid,aih,akC,akG,ajo]
  repeat' (first|rfl|split)
  all_goals simp_all
  all_goals first|omega|(rw[aiz];simp<;>omega)
def rh:∀(l:List Ty),Ty.oks l->∀ t∈l,∀ H',am 188 [.agg (dJ t)] H'=ret (.bool (jg kind t)) H'
 |[],_,t,a,_=>by cases a
 |x::r,h,t,a,H'=>by
  simp only[Ty.oks]at h;rcases aff.mp a with e|a
  ·rw[e];exact DF x H' h.1
  ·exact rh r h.2 t a H'
end
end Go.Proofs.YtpghiabjaglpgaaGreatDoor
namespace Go.Proofs.YtpghiabjaglpgaaGreatDoor
open Go.AI
def ZR:YB br:=by
 have w:∀ {l:af} {k:Int},tQ l k->k=br l\/(br l=0/\k=1):=fun h=>by
  rcases h with h|⟨a,b⟩
  ·exact .inl h
  ·exact .inr ⟨eT (.inr (.inr (.inr a))),b⟩
 refine⟨fun s H=>?_,fun s H=>?_,?_⟩
 ·obtain⟨k,a,b⟩:=ZP s H;exact⟨k,a,w b⟩
 ·obtain⟨k,a,b⟩:=ZO s H;exact⟨k,a,w b⟩
 ·unfold br;split
  ·decide
  ·have:gg [44] 0=some (6,1):=by decide
   rw[this];decide
end Go.Proofs.YtpghiabjaglpgaaGreatDoor
