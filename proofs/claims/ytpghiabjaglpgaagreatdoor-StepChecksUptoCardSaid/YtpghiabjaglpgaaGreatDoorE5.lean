/- Lemmas. No conditions. -/
import Derived.Test.YtpghiabjaglpgaaGreatDoorP3
import Derived.Test.YtpghiabjaglpgaaGreatDoorE4
import Derived.Test.YtpghiabjaglpgaaGreatDoorS10
set_option linter.all false
noncomputable section
namespace Go.Proofs.YtpghiabjaglpgaaGreatDoor
open Go.AI
def nb{f n:Nat}(h:Nat.beq f n=true):f=n:=abr h
def afu:tN bY:=⟨fun f args s v s' h=>by
 change uH f args s=some (v,s')at h;unfold uH at h;cases b:Nat.beq f 351 with
 |true=>rw[b]at h;have:=nb b;subst this;exact FG h
 |false =>
  rw[b,TD]at h;cases c:Nat.beq f 355 with
  |true=>rw[c]at h;have:=nb c;subst this;exact Fl h
  |false =>
   rw[c,TD]at h;cases d:Nat.beq f 9 with
   |false=>rw[d]at h;cases h
   |true =>
    rw[d,ge]at h;have:=nb d;subst this;cases args with
    |cons a r=>cases h
    |nil=>cases h;exact JR s⟩
def ml{s s':S}{g:Nat}(h:s'.get g=s.get g):gn s' g=gn s g:=by unfold gn;rw[h]
def VX(s s':S)(h:∀ f∈[0,1,2,5],s'.get f=s.get f)(k:uW s):uW s':=by obtain⟨⟨c1,a,b⟩,⟨c2,c,d⟩,⟨c3,e,g⟩,i⟩:=k;exact⟨⟨c1,(ml (h 0 (by simp))).trans a,b⟩,⟨c2,(ml (h 1 (by simp))).trans c,d⟩,⟨c3,(ml (h 2 (by simp))).trans e,g⟩,(ml (h 5 (by simp))).trans i⟩
instance ait:fY:=⟨uW,[0,1,2,5],VX⟩
def Fy{f:FuncId}{vs:List V}{s:S}{v:V}(h:uH f vs s=some (v,s)):lim bY (.call f vs none) s=some ⟨.returned v,none,s⟩:=by rw[RV];have ho:bY.orc f vs s=some (v,s):=h;simp only[fx,ho,BD]
def uf{g:Gh}(a:Ok g){d:D}{v:V}(h:RD g d v):jN g.s.next g.Pv g ⟨.ret d,none,g.H⟩ ⟨.returned v,none,g.s⟩ :=
 ⟨g,rfl,rfl,rfl,a,.refl _ _,⟨v,rfl,h⟩,rfl⟩
def afs:Ue de:=by
 refine⟨fun f h vs s=>?_,fun f args H d H' e g m a vs hr=>?_⟩
 ·change dvo f=false at h;unfold dvo at h;simp only[ajC]at h;show uH f vs s=none;unfold uH;rw[h.1,h.2.1,h.2.2];rfl
 ·change aaR f args H=some (d,H')at e;subst m;unfold aaR at e;cases b:Nat.beq f 351 with
  |true =>
   rw[b,ge]at e;have:=nb b;subst this;split at e
   ·rename_i l c;cases hb:Nat.blt c 256&&Nat.ble l.length 1000 with
    |false=>rw[hb]at e;cases e
    |true =>
     rw[hb]at e;cases e;simp only[Go.AI.RL,RD]at hr;obtain⟨_,_,rfl,⟨rfl,hl⟩,_,_,rfl,rfl,rfl⟩:=hr;simp only[abA]at hb;refine⟨_,Fy (v:=.int .i64 (xJ l c 0)) ?_,uf a (by simp only[RD])⟩;show Ap [V.str l,V.int IntKind.u8 (Int.ofNat c)] g.s=_;have:(Nat.blt c 256&&l.all fun x=>Nat.blt x 256)=true:=by simp only[abA,aiX];exact⟨hb.1,fun x n=>aeI (hl x n)⟩
     simp only[Ap,this,ge]
   ·cases e
  |false =>
   rw[b,TD]at e;cases j:Nat.beq f 355 with
   |true =>
    rw[j,ge]at e;have:=nb j;subst this;split at e
    ·rename_i l;cases hb:Nat.ble l.length 1000 with
     |false=>rw[hb]at e;cases e
     |true =>
      rw[hb]at e;cases e;simp only[Go.AI.RL,RD]at hr;obtain⟨_,_,rfl,⟨rfl,hl⟩,rfl⟩:=hr;refine⟨_,Fy (v:=.tuple [.int .i64 (qT (aK l)).1,.int .i64 (qT (aK l)).2]) ?_,uf a ?_⟩
      ·show zO [V.str l] g.s=_;simp only[zO];rw[aeM ⟨a.gl.i,aeb hb⟩]
      ·simp only[RD,Go.AI.RL];exact⟨_,rfl,_,_,rfl,rfl,_,_,rfl,rfl,rfl⟩
    ·cases e
   |false =>
    rw[j,TD]at e;cases k:Nat.beq f 9 with
    |false=>rw[k]at e;cases e
    |true =>
     rw[k,ge]at e;have:=nb k;subst this;split at e
     ·cases e;simp only[Go.AI.RL]at hr;subst hr;exact⟨_,Fy (v:=.bool true) rfl,uf a (by simp only[RD])⟩
     ·cases e
def VL{f:FuncId}{args:List D}{X:DH}(h:eP de (.call f args none) []=ret (.bool true) X){g:Gh}(j:g.H=[])(a:Ok g){vs:List V}(hr:Go.AI.RL g args vs) :
 ∃ s',lim bY (.call f vs none) g.s=some ⟨.returned (.bool true),none,s'⟩:=by
 obtain⟨vout,k,g',_,h2,_,_,_,⟨v,d,i⟩,b⟩:=(La afs).call.c f args none [] _ h g j a vs none hr rfl;obtain⟨e,up,s⟩:=vout;simp only[RD]at d i b;cases i;simp only[PH]at b;cases b;cases d;exact⟨s,k⟩
end Go.Proofs.YtpghiabjaglpgaaGreatDoor
