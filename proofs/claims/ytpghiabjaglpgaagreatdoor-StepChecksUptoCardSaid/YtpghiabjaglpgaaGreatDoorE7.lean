/- Lemmas. No conditions. -/
import Derived.Test.YtpghiabjaglpgaaGreatDoorE6
import Derived.Test.YtpghiabjaglpgaaGreatDoorP9
set_option linter.all false
noncomputable section
namespace Go.Proofs.YtpghiabjaglpgaaGreatDoor.Rd
open Go.AI Go.Proofs Go.Proofs.YtpghiabjaglpgaaGreatDoor
def adl:tT 109=[.bool,.int]:=by kernel_rfl
def adp:tT 38=[.int,.int,.sl 109]:=by kernel_rfl
def adt:tT 39=[.int,.str,.int,.sl 109,.int]:=by kernel_rfl
def adj:tT 40=[.str,.bool,.int]:=by kernel_rfl
def adn:tT 41=[.str,.str,.int,.sl 70]:=by kernel_rfl
def adh:tT 70=[.str,.int,.sl 70]:=by kernel_rfl
def EO{d:D}(h:xU .bool d):∃ b,d=.bool b:=by cases h;exact⟨_,rfl⟩
def XU{d:D}(h:xU (.sl 109) d):∃ xs:List Re,d=.row 2 (xs.map Jy)/\xs.length<2^61:=by
 obtain⟨l,rfl,hl,c⟩:=mw h;rw[adl]at c ⊢;obtain⟨xs,rfl,_⟩:=pick (f:=Jy) (p:=fun _=>True) (l:=l) fun cs hc=>by obtain⟨a,r,rfl,e,h⟩:=aJ (c cs hc);obtain⟨b,r,rfl,g,h⟩:=aJ h;cases fZ h;obtain⟨x,rfl⟩:=EO e;obtain⟨n,rfl⟩:=dQ g;exact⟨⟨x,n⟩,rfl,trivial⟩
 exact⟨xs,rfl,by rw[aby]at hl;omega⟩
def acF{d:D}(h:xU (.sl 38) d):∃ xs:List Fm,d=.row 3 (xs.map AD)/\xs.length<2^61/\∀ x∈xs,x.dn.length<2^61:=by
 obtain⟨l,rfl,hl,e⟩:=mw h;rw[adp]at e ⊢;obtain⟨xs,rfl,i⟩:=pick (f:=AD) (p:=fun x=>x.dn.length<2^61) (l:=l) fun cs hc=>by obtain⟨a,r,rfl,j,h⟩:=aJ (e cs hc);obtain⟨b,r,rfl,k,h⟩:=aJ h;obtain⟨c,r,rfl,m,h⟩:=aJ h;cases fZ h;obtain⟨x,rfl⟩:=dQ j;obtain⟨n,rfl⟩:=dQ k;obtain⟨rs,rfl,g⟩:=XU m;exact⟨⟨x,n,rs⟩,rfl,g⟩
 exact⟨xs,rfl,by rw[aby]at hl;omega,i⟩
def acI{d:D}(h:xU (.sl 39) d):∃ xs:List Ce,d=.row 5 (xs.map jq)/\xs.length<2^61/\∀ x∈xs,x.refs.length<2^61:=by
 obtain⟨l,rfl,hl,i⟩:=mw h;rw[adt]at i ⊢;obtain⟨xs,rfl,j⟩:=pick (f:=jq) (p:=fun x=>x.refs.length<2^61) (l:=l) fun cs hc=>by obtain⟨a,r,rfl,m,h⟩:=aJ (i cs hc);obtain⟨b,r,rfl,o,h⟩:=aJ h;obtain⟨c,r,rfl,q,h⟩:=aJ h;obtain⟨d,r,rfl,t,h⟩:=aJ h;obtain⟨e,r,rfl,u,h⟩:=aJ h;cases fZ h;obtain⟨k,rfl⟩:=dQ m;obtain⟨s,rfl⟩:=ej o;obtain⟨n,rfl⟩:=dQ q;obtain⟨rs,rfl,g⟩:=XU t;obtain⟨x,rfl⟩:=dQ u;exact⟨⟨k,s,n,rs,x⟩,rfl,g⟩
 exact⟨xs,rfl,by rw[aby]at hl;omega,j⟩
def acA{d:D}(h:xU (.sl 40) d):∃ xs:List To,d=.row 3 (xs.map uZ)/\xs.length<2^61:=by
 obtain⟨l,rfl,hl,e⟩:=mw h;rw[adj]at e ⊢;obtain⟨xs,rfl,_⟩:=pick (f:=uZ) (p:=fun _=>True) (l:=l) fun cs hc=>by obtain⟨a,r,rfl,g,h⟩:=aJ (e cs hc);obtain⟨b,r,rfl,i,h⟩:=aJ h;obtain⟨c,r,rfl,j,h⟩:=aJ h;cases fZ h;obtain⟨s,rfl⟩:=ej g;obtain⟨x,rfl⟩:=EO i;obtain⟨n,rfl⟩:=dQ j;exact⟨⟨s,⟨x,n⟩⟩,rfl,trivial⟩
 exact⟨xs,rfl,by rw[aby]at hl;omega⟩
def YG{l:List Va}:(∀ x∈l,x.ok)->Va.oks l:=by
 induction l with
 |nil=>intro _;rw[Va.oks];trivial
 |cons v r ih =>intro h;rw[Va.oks];exact⟨h v aeK,ih fun x a=>h x (abE _ a)⟩
def acz{k:Ck}{d:D}(h:xU k d):k=.sl 70->∃ xs,d=.row 3 (jz xs)/\xs.length<2^61/\Va.oks xs:=by
 induction h with
 |row t ly l g hl i j ih =>
  intro e;cases e;rw[adh]at g;subst g;obtain⟨xs,rfl,m⟩:=pick (f:=xB) (p:=Va.ok) (l:=l) fun cs hc=>by obtain⟨a,r,rfl,o,h⟩:=aJ (⟨i cs hc,j cs hc⟩:GK [.str,.int,.sl 70] cs);obtain⟨b,r,rfl,q,h⟩:=aJ h;obtain⟨c,r,rfl,h3,h⟩:=aJ h;cases fZ h;obtain⟨s,rfl⟩:=ej o;obtain⟨n,rfl⟩:=dQ q;obtain⟨xs,rfl,u⟩:=ih _ hc 2 _ c rfl rfl rfl;exact⟨.mk s n xs,by rw[xB],by rw[Va.ok];exact u⟩
  refine⟨xs,by rw[rJ];rfl,?_,YG m⟩;rw[aby]at hl;omega
 |_=>intro e;cases e
def acC{d:D}(h:xU (.sl 41) d):∃ xs:List Nv,d=.row 4 (xs.map PO)/\xs.length<2^61/\∀ x∈xs,x.v.ok:=by
 obtain⟨l,rfl,hl,e⟩:=mw h;rw[adn]at e ⊢;obtain⟨xs,rfl,i⟩:=pick (f:=PO) (p:=fun x=>x.v.ok) (l:=l) fun cs hc=>by obtain⟨a,r,rfl,j,h⟩:=aJ (e cs hc);obtain⟨b,r,rfl,k,h⟩:=aJ h;obtain⟨c,r,rfl,m,h⟩:=aJ h;obtain⟨d,r,rfl,o,h⟩:=aJ h;cases fZ h;obtain⟨s,rfl⟩:=ej j;obtain⟨t,rfl⟩:=ej k;obtain⟨n,rfl⟩:=dQ m;obtain⟨xs,rfl,g⟩:=acz o rfl;exact⟨⟨s,.mk t n xs⟩,rfl,by rw[Va.ok];exact g⟩
 exact⟨xs,rfl,by rw[aby]at hl;omega,i⟩
def acD{ds:List D}(h:GK [.int,.int,.int,.bool,.int,.sl 38,.sl 39,.sl 40,.int,.sl 41,.int] ds):∃ m:Mc,ds=bu m/\tP m:=by obtain⟨a0,r,rfl,h0,h⟩:=aJ h;obtain⟨a1,r,rfl,a,h⟩:=aJ h;obtain⟨a2,r,rfl,b,h⟩:=aJ h;obtain⟨a3,r,rfl,c,h⟩:=aJ h;obtain⟨a4,r,rfl,d,h⟩:=aJ h;obtain⟨a5,r,rfl,e,h⟩:=aJ h;obtain⟨a6,r,rfl,f,h⟩:=aJ h;obtain⟨a7,r,rfl,g,h⟩:=aJ h;obtain⟨a8,r,rfl,i,h⟩:=aJ h;obtain⟨a9,r,rfl,j,h⟩:=aJ h;obtain⟨aa,r,rfl,k,h⟩:=aJ h;cases fZ h;obtain⟨n0,rfl⟩:=dQ h0;obtain⟨n1,rfl⟩:=dQ a;obtain⟨n2,rfl⟩:=dQ b;obtain⟨l,rfl⟩:=EO c;obtain⟨n4,rfl⟩:=dQ d;obtain⟨fr,rfl,n,f2⟩:=acF e;obtain⟨ce,rfl,c1,c2⟩:=acI f;obtain⟨to,rfl,o⟩:=acA g;obtain⟨p,rfl⟩:=dQ i;obtain⟨ou,rfl,o1,q⟩:=acC j;obtain⟨na,rfl⟩:=dQ k;exact⟨⟨n0,n1,n2,l,n4,fr,ce,to,p,ou,na⟩,rfl,⟨c1,c2,o,o1,q,n,f2⟩⟩
end Go.Proofs.YtpghiabjaglpgaaGreatDoor.Rd
