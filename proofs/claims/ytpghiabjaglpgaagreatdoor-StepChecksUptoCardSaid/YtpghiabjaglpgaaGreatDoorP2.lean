/- Lemmas. No conditions. -/
import Derived.Test.YtpghiabjaglpgaaGreatDoorP1
set_option linter.all false
noncomputable section
namespace Go.Proofs.YtpghiabjaglpgaaGreatDoor
open Go.AI
def ld3(o c:Nat)(H:DH)(κ:D->au):cH ab 3 (.ptr o c) H κ=az H o fun _ cs=>ah cs c κ:=by kernel_rfl
def ld9(o c:Nat)(H:DH)(κ:D->au):cH ab 9 (.ptr o c) H κ=az H o fun _ cs=>ah cs c κ:=by kernel_rfl
def Tz(o c:Nat)(κ:D->au):CJ (.ptr o c) κ=κ (.ptr o c):=rfl
def Yo(o c n:Nat)(κ:D->au):ct (.ptr o c) n κ=κ (.ptr o (c+n)):=rfl
def aeP(o c:Nat)(new:List D)(H:DH)(κ:DH->au):XG (.ptr o c) new H κ=az H o fun st cs=>aE cs c new fun cs=>κ (H.set o (.cells (st+1) cs)):=rfl
variable{l:af}{K p A B bx y m oc:Nat}
def Jw(l:af)(at':Nat)(r:aR):Prop:=at'<l.length->∃(k v:Int) (n:Nat) (a:aR),r=[.i k,.i v,.str ((l.drop at').take n),.i at']::a/\1<=n/\at'+n<=l.length/\(fw l at'->k=1)/\(¬ fw l at'->gg l at'=some (k,n))/\(at'+n=l.length->a=[])
def nI(l:af)(at':Nat):Prop:=at'<l.length/\(¬ fw l at'->gg l at'=none\/∃ k n,gg l at'=some (k,n)/\at'+n≠l.length)
def Vn{l:af}{a:Nat}(h:l.length<=a):¬ skip l a:=fun q=>by
 rcases q with q|q
 ·rw[oz h]at q;cases q
 ·rw[List.drop_eq_nil_of_le h]at q;cases q
set_option maxHeartbeats 2000000 in
def CU(hl:l.length<=24)(kp:K<=p)(ko:K<=oc):∀(n at':Nat) (H:DH) (c toks:aR),n=l.length - at'->at'<=l.length->c.length+(l.length - at')<=100->toks.length+(l.length - at')<=100->JA H p l at' m oc c->TA K H l p A B bx y toks ->
 (∃ f r,ac av 324 200001 [.g (.yld (y+1)),.g (.ptr bx 0)] [] H=ret (.tuple []) f/\TA K f l p A B bx y (toks++r)/\(at'=l.length->r=[])/\Jw l at' r/\Kp K H f) \/
 (∃(a e:Int) (f:DH) (T:aR),e≠0/\ac av 324 200001 [.g (.yld (y+1)),.g (.ptr bx 0)] [] H=pan (wr a e) f/\TA K f l p A B bx y T/\nI l at'/\Kp K H f)
 |n,at',H,c,toks,hn,ha,hcl,htl,t,u=>by
  obtain⟨st,hp⟩:=t.hp;obtain⟨sb,hb⟩:=u.hb;rw[show ac av 324 200001 [.g (.yld (y+1)),.g (.ptr bx 0)] [] H=_ from aZ (It _ _ _ _) rfl];simp only[ae hb,ao,ax,Tz,Yo,ld3,ld9,ae hp,aiv,OF,aS,er,aq];by_cases hc:at'<l.length
  ·rw[abC hc,ge];rcases Qk hp t.hm hl hc with⟨k,v,n',z,w,E,h4,F⟩|⟨a,e,z,w,E⟩
   ·have j:((l.drop at').take n').length=n':=by rw[aiu,aiS];omega
    rw[ai E];simp only[tk,ce4,ov4,ae hb,ao,ax,Tz,Yo,ld3,ae hp,aiv,OF,j,bH,wN (show at'+n'<2^62 by omega),qc,aeP,Oq];have o:=t.mv (at'+n') (st+1);have kp1:=Kp.of (Fr.set (H:=H) (p:=p) (oc:=oc) (b:=.cells (st+1) (nX l (at'+n') (.map m) (.buf 2 oc c.length)))) kp ko;have s:=u.fr t.hc (Fr.set (b:=.cells (st+1) (nX l (at'+n') (.map m) (.buf 2 oc c.length)))) ⟨_,_,hp⟩;generalize H.set p (.cells (st+1) (nX l (at'+n') (.map m) (.buf 2 oc c.length)))=H1 at o s kp1 ⊢;obtain⟨f,Y,d,i,kp2⟩:=QI o s (by omega) k v ((l.drop at').take n') at';rw[tk]at Y;rw[fj Y];obtain⟨sb2,G⟩:=i.hb;simp only[aH,aid,aq,TD,ae G,ao,ax];rcases Mx hl w (by omega) d with⟨at3,c3,I,J,L,M,N,j5,O,_,_⟩|⟨a,e,I,J,L,M,N⟩
    ·rw[ai J];have Q:=i.fr d.hc O (by obtain⟨st,h⟩:=d.hp;exact⟨_,_,h⟩);rcases CU hl kp ko (l.length - at3) at3 I c3 _ rfl N j5 (by simp;omega) L Q with⟨R,r,U,x,W,Z,X⟩|⟨a,e,R,T,U,x,W,Z,X⟩
     ·refine .inl ⟨R,_::r,U,by rw[aix]at x;exact x,fun q=>by omega,fun _=>⟨k,v,n',r,rfl,z,w,h4,F,fun q=>W (by omega)⟩,((kp1.trans kp2).trans (Kp.of O kp ko)).trans X⟩
     ·exact .inr ⟨a,e,R,T,U,x,W,⟨hc,fun q=>.inr ⟨k,n',F q,by have:=Z.1;omega⟩⟩,((kp1.trans kp2).trans (Kp.of O kp ko)).trans X⟩
    ·rw[Ca L];exact .inr ⟨a,e,I,_,J,rfl,i.fr d.hc M (by obtain⟨st,h⟩:=d.hp;exact⟨_,_,h⟩),⟨hc,fun q=>.inr ⟨k,n',F q,fun q2=>Vn (by omega) N⟩⟩,(kp1.trans kp2).trans (Kp.of M kp ko)⟩
   ·rw[Ca w];exact .inr ⟨a,e,H,toks,z,rfl,u,⟨hc,fun q=>.inl (E q)⟩,fun _ _ _ h=>h⟩
  ·rw[abz hc,TD];exact .inl ⟨H,[],rfl,by rw[aic];exact u,fun _=>rfl,fun q=>(hc q).elim,fun _ _ _ h=>h⟩
 termination_by n=>n
open Classical in
def br(l:af):Int:=if l.length=0\/24<l.length\/skip l 0\/fw l 0 then 0 else match gg l 0 with
 |none=>0
 |some (k,n)=>if n=l.length then k else 0
def lR(l:af):aR->Int
 |[[.int _ k,_,.str t,_]]=>if t=l then k else 0
 |_=>0
def tQ(l:af)(k:Int):Prop:=k=br l\/(fw l 0/\k=1)
def eT{l:af}(h:l.length=0\/24<l.length\/skip l 0\/fw l 0):br l=0:=by unfold br;rw[aeM h]
def Sk(hl:l.length<=24){at2:Nat}{T:aR}(h0:at2=l.length->T=[])(f:Jw l at2 T)(h1:at2<=l.length)(h:¬ skip l 0->at2=0)(i:0<l.length->skip l 0->0<at2):tQ l (lR l T):=by
 by_cases g:l.length=0
 ·rw[h0 (by omega)];exact .inl (eT (.inl g)).symm
 by_cases c:skip l 0
 ·have:=i (by omega) c;refine .inl ?_;rw[eT (.inr (.inr (.inl c)))];rcases aiA at2 l.length with q|q
  ·obtain⟨k,v,n,d,rfl,_,_,_⟩:=f q;cases d with
   |nil =>simp only[lR];rw[aeD (fun e=>by have:=aiK List.length e;rw[aiu,aiS]at this;omega)]
   |cons _ _=>rfl
  ·rw[h0 (by omega)];rfl
 ·have e0:=h c;subst e0;obtain⟨k,v,n,d,rfl,q1,q2,j,o,r⟩:=f (by omega);by_cases b:fw l 0
  ·cases d with
   |nil =>
    simp only[lR];split
    ·exact .inr ⟨b,j b⟩
    ·exact .inl (eT (.inr (.inr (.inr b)))).symm
   |cons _ _=>exact .inl (eT (.inr (.inr (.inr b)))).symm
  ·have s:=o b;refine .inl ?_;have hk:br l=if n=l.length then k else 0:=by unfold br;rw[aeD (by rintro(q|q|q|q);exact g q;omega;exact c q;exact b q),s]
   rw[hk];by_cases a:n=l.length
   ·rw[r (by omega),aeM a];simp only[lR];rw[aeM (by rw[a,ajA,ajn (abD _)])]
   ·rw[aeD a];cases d with
    |nil =>simp only[lR];rw[aeD (fun e=>by have:=aiK List.length e;rw[aiu,aiS]at this;omega)]
    |cons _ _=>rfl
def HU(hl:l.length<=24)(h:skip l 0\/nI l 0):tQ l 0:=by
 refine .inl ?_;by_cases b:skip l 0
 ·exact(eT (.inr (.inr (.inl b)))).symm
 by_cases c:fw l 0
 ·exact(eT (.inr (.inr (.inr c)))).symm
 obtain⟨h1,a⟩:=h.resolve_left b;unfold br;rw[aeD (by rintro(q|q|q|q);omega;omega;exact b q;exact c q)];rcases a c with a|⟨k,n,a,h3⟩
 ·rw[a]
 ·rw[a];simp only;rw[aeD (by omega)]
end Go.Proofs.YtpghiabjaglpgaaGreatDoor
