/- What the functions answer, in deep values: part 5. No conditions beyond those of the row. -/
import Derived.Test.YtpghiabjaglpgaaGreatDoorP4
set_option linter.all false
noncomputable section
namespace Go.Proofs.YtpghiabjaglpgaaGreatDoor
open Go.AI
theorem ld3(o c:Nat)(H:DH)(κ:D->ai):eC Tryz.prog 3 (.ptr o c) H κ=aA H o fun _ cs=>ah cs c κ:=by kernel_rfl
theorem ld9(o c:Nat)(H:DH)(κ:D->ai):eC Tryz.prog 9 (.ptr o c) H κ=aA H o fun _ cs=>ah cs c κ:=by kernel_rfl
theorem Bm(o c:Nat)(κ:D->ai):uR (.ptr o c) κ=κ (.ptr o c):=rfl
theorem Ba(o c n:Nat)(κ:D->ai):dw (.ptr o c) n κ=κ (.ptr o (c+n)):=rfl
theorem XW(o c:Nat)(new:List D)(H:DH)(κ:DH->ai):Su (.ptr o c) new H κ=aA H o fun st cs=>aw cs c new fun cs=>κ (H.set o (.cells (st+1) cs)):=rfl
variable{l:List Nat}{K p A B bx y m oc:Nat}
def Gd(l:List Nat)(at':Nat)(r:List (List D)):Prop:=at'<l.length->∃(k v:Int) (n:Nat) (r':List (List D)),r=[.int .i64 k,.int .i64 v,.str ((l.drop at').take n),.int .i64 (at':Nat)]::r'/\1<=n/\at'+n<=l.length/\(ez l at'->k=1)/\(¬ ez l at'->fg l at'=some (k,n))/\(at'+n=l.length->r'=[])
def lP(l:List Nat)(at':Nat):Prop:=at'<l.length/\(¬ ez l at'->fg l at'=none\/∃ k n,fg l at'=some (k,n)/\at'+n≠l.length)
theorem Qv{l:List Nat}{a:Nat}(h:l.length<=a):¬ skip l a:=fun q=>by
 rcases q with q|q
 ·rw[mu h]at q;cases q
 ·rw[List.drop_eq_nil_of_le h]at q;cases q
set_option maxHeartbeats 2000000 in
theorem zT(hl:l.length<=24)(kp:K<=p)(ko:K<=oc):∀(n at':Nat) (H:DH) (c toks:List (List D)),n=l.length - at'->at'<=l.length->c.length+(l.length - at')<=100->toks.length+(l.length - at')<=100->Gg H p l at' m oc c->TA K H l p A B bx y toks ->
 (∃ H2 r,ao de (ab de) 324 200001 [.g (.yld (y+1)),.g (.ptr bx 0)] [] H=ret (.tuple []) H2/\TA K H2 l p A B bx y (toks++r)/\(at'=l.length->r=[])/\Gd l at' r/\Kp K H H2) \/
 (∃(a e:Int) (H2:DH) (T:List (List D)),e≠0/\ao de (ab de) 324 200001 [.g (.yld (y+1)),.g (.ptr bx 0)] [] H=pan (wr a e) H2/\TA K H2 l p A B bx y T/\lP l at'/\Kp K H H2)
 |n,at',H,c,toks,hn,ha,hcl,htl,hS,hT=>by
  obtain⟨st,hp⟩:=hS.hp
  obtain⟨sb,hb⟩:=hT.hb
  rw[show ao de (ab de) 324 200001 [.g (.yld (y+1)),.g (.ptr bx 0)] [] H=_ from bg (EV _ _ _ _) rfl]
  simp only[ac hb,am,ax,Bm,Ba,ld3,ld9,ac hp,Nat.zero_add,KH,bV,oj,au]
  by_cases hc:at'<l.length
  ·rw[decide_eq_true hc,cond_true]
   rcases Ma hp hS.hm hl hc with⟨k,v,n',h1,h2,h3,h4,h5⟩|⟨a,e,h1,h2,h3⟩
   ·have hlen:((l.drop at').take n').length=n':=by rw[List.length_take,List.length_drop];omega
    rw[af h3]
    simp only[tk,XC,Vz,ac hb,am,ax,Bm,Ba,ld3,ac hp,Nat.zero_add,KH,hlen,cg,wN (show at'+n'<2^62 by omega),om,XW,Kr]
    have hS1:=hS.mv (at'+n') (st+1)
    have kp1:=Kp.of (Fr.set (H:=H) (p:=p) (oc:=oc) (b:=.cells (st+1) (mc l (at'+n') (.map m) (.buf 2 oc c.length)))) kp ko
    have hT1:=hT.fr hS.hc (Fr.set (b:=.cells (st+1) (mc l (at'+n') (.map m) (.buf 2 oc c.length)))) ⟨_,_,hp⟩
    generalize H.set p (.cells (st+1) (mc l (at'+n') (.map m) (.buf 2 oc c.length)))=H1 at hS1 hT1 kp1 ⊢
    obtain⟨H2,r1,hS2,hT2,kp2⟩:=My hS1 hT1 (by omega) k v ((l.drop at').take n') at'
    rw[tk]at r1
    rw[eX r1]
    obtain⟨sb2,hb2⟩:=hT2.hb
    simp only[bp,Bool.not_true,au,cond_false,ac hb2,am]
    rcases IQ hl h2 (by omega) hS2 with⟨at3,c3,H3,j1,j2,j3,j4,j5,j6,_,_⟩|⟨a,e,H3,j1,j2,j3,j4⟩
    ·rw[af j1]
     have hT3:=hT2.fr hS2.hc j6 (by obtain⟨st,h⟩:=hS2.hp;exact⟨_,_,h⟩)
     rcases zT hl kp ko (l.length - at3) at3 H3 c3 _ rfl j4 j5 (by simp;omega) j2 hT3 with⟨H4,r,i1,i2,i3,i4,i5⟩|⟨a,e,H4,T,i1,i2,i3,i4,i5⟩
     ·refine .inl ⟨H4,_::r,i1,by rw[List.append_assoc]at i2;exact i2,fun q=>by omega,fun _=>⟨k,v,n',r,rfl,h1,h2,h4,h5,fun q=>i3 (by omega)⟩,((kp1.trans kp2).trans (Kp.of j6 kp ko)).trans i5⟩
     ·exact .inr ⟨a,e,H4,T,i1,i2,i3,⟨hc,fun q=>.inr ⟨k,n',h5 q,by have:=i4.1;omega⟩⟩,((kp1.trans kp2).trans (Kp.of j6 kp ko)).trans i5⟩
    ·rw[yY j2]
     exact .inr ⟨a,e,H3,_,j1,rfl,hT2.fr hS2.hc j3 (by obtain⟨st,h⟩:=hS2.hp;exact⟨_,_,h⟩),⟨hc,fun q=>.inr ⟨k,n',h5 q,fun q2=>Qv (by omega) j4⟩⟩,(kp1.trans kp2).trans (Kp.of j3 kp ko)⟩
   ·rw[yY h2]
    exact .inr ⟨a,e,H,toks,h1,rfl,hT,⟨hc,fun q=>.inl (h3 q)⟩,fun _ _ _ h=>h⟩
  ·rw[decide_eq_false hc,cond_false]
   exact .inl ⟨H,[],rfl,by rw[List.append_nil];exact hT,fun _=>rfl,fun q=>(hc q).elim,fun _ _ _ h=>h⟩
 termination_by n=>n
open Classical in
def cl(l:List Nat):Int:=if l.length=0\/24<l.length\/skip l 0\/ez l 0 then 0 else match fg l 0 with
 |none=>0
 |some (k,n)=>if n=l.length then k else 0
def kf(l:List Nat):List (List D)->Int
 |[[.int _ k,_,.str t,_]]=>if t=l then k else 0
 |_=>0
def rF(l:List Nat)(k:Int):Prop:=k=cl l\/(ez l 0/\k=1)
theorem eA{l:List Nat}(h:l.length=0\/24<l.length\/skip l 0\/ez l 0):cl l=0:=by unfold cl;rw[if_pos h]
theorem NO(hl:l.length<=24){at2:Nat}{T:List (List D)}(h0:at2=l.length->T=[])(hF:Gd l at2 T)(h1:at2<=l.length)(h2:¬ skip l 0->at2=0)(h3:0<l.length->skip l 0->0<at2):rF l (kf l T):=by
 by_cases hz:l.length=0
 ·rw[h0 (by omega)];exact .inl (eA (.inl hz)).symm
 by_cases hs:skip l 0
 ·have:=h3 (by omega) hs
  refine .inl ?_
  rw[eA (.inr (.inr (.inl hs)))]
  rcases Nat.lt_or_ge at2 l.length with q|q
  ·obtain⟨k,v,n,r',rfl,_,_,_⟩:=hF q
   cases r' with
   |nil =>
    simp only[kf]
    rw[if_neg (fun e=>by have:=congrArg List.length e;rw[List.length_take,List.length_drop]at this;omega)]
   |cons _ _=>rfl
  ·rw[h0 (by omega)];rfl
 ·have e0:=h2 hs
  subst e0
  obtain⟨k,v,n,r',rfl,q1,q2,q3,q4,q5⟩:=hF (by omega)
  by_cases hn:ez l 0
  ·cases r' with
   |nil =>
    simp only[kf]
    split
    ·exact .inr ⟨hn,q3 hn⟩
    ·exact .inl (eA (.inr (.inr (.inr hn)))).symm
   |cons _ _=>exact .inl (eA (.inr (.inr (.inr hn)))).symm
  ·have ht:=q4 hn
   refine .inl ?_
   have hk:cl l=if n=l.length then k else 0:=by
    unfold cl
    rw[if_neg (by rintro(q|q|q|q);exact hz q;omega;exact hs q;exact hn q),ht]
   rw[hk]
   by_cases hnl:n=l.length
   ·rw[q5 (by omega),if_pos hnl]
    simp only[kf]
    rw[if_pos (by rw[hnl,List.drop_zero,List.take_of_length_le (Nat.le_refl _)])]
   ·rw[if_neg hnl]
    cases r' with
    |nil =>
     simp only[kf]
     rw[if_neg (fun e=>by have:=congrArg List.length e;rw[List.length_take,List.length_drop]at this;omega)]
    |cons _ _=>rfl
theorem Ey(hl:l.length<=24)(h:skip l 0\/lP l 0):rF l 0:=by
 refine .inl ?_
 by_cases hs:skip l 0
 ·exact(eA (.inr (.inr (.inl hs)))).symm
 by_cases hn:ez l 0
 ·exact(eA (.inr (.inr (.inr hn)))).symm
 obtain⟨h1,h2⟩:=h.resolve_left hs
 unfold cl
 rw[if_neg (by rintro(q|q|q|q);omega;omega;exact hs q;exact hn q)]
 rcases h2 hn with h2|⟨k,n,h2,h3⟩
 ·rw[h2]
 ·rw[h2];simp only;rw[if_neg (by omega)]
end Go.Proofs.YtpghiabjaglpgaaGreatDoor
