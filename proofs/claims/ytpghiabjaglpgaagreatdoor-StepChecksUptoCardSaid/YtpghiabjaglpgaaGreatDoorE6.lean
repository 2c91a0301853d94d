/- Lemmas. No conditions. -/
import Derived.Test.YtpghiabjaglpgaaGreatDoorE1
import Derived.Test.YtpghiabjaglpgaaGreatDoorP5
set_option linter.all false
noncomputable section
namespace Go.Proofs.YtpghiabjaglpgaaGreatDoor.Rd
open Go.AI Go.Proofs.YtpghiabjaglpgaaGreatDoor
def ej{d:D}(h:xU .str d):∃ l,d=.str l:=by cases h;exact⟨_,rfl⟩
def dQ{d:D}(h:xU .int d):∃ n,d=.int .i64 n:=by cases h;exact⟨_,rfl⟩
def mw{t:Nat}{d:D}(h:xU (.sl t) d):∃ l,d=.row (tT t).length l/\l.length<2^50/\∀ cs∈l,GK (tT t) cs:=by
 cases h with
 |row t ly l h0 a b c=>subst h0;exact⟨l,rfl,a,fun cs h=>⟨b cs h,c cs h⟩⟩
def fZ{ds:List D}(h:GK [] ds):ds=[]:=aka.1 h.1
def aJ{k:Ck}{ks:List Ck}{ds:List D}(h:GK (k::ks) ds):∃ d r,ds=d::r/\xU k d/\GK ks r:=by
 cases ds with
 |nil=>have:=h.1;simp at this
 |cons d r=>exact⟨d,r,rfl,h.2 0 k d rfl rfl,by have:=h.1;simpa using this,fun i k d a b=>h.2 (i+1) k d (by simpa using a) (by simpa using b)⟩
def pick{α:Type}{f:α->List D}{p:α->Prop}:∀ {l:List (List D)},(∀ cs∈l,∃ x,cs=f x/\p x)->∃ xs:List α,l=xs.map f/\∀ x∈xs,p x
 |[],_=>⟨[],rfl,fun _ h=>by cases h⟩
 |cs::r,h=>by obtain⟨x,a,b⟩:=h cs aeK;obtain⟨xs,d,g⟩:=pick fun c hc=>h c (abE _ hc);exact⟨x::xs,by rw[a,d];rfl,fun y hy=>(aff.1 hy).elim (fun e=>e▸b) (g y)⟩
def adi:tT 142=[.str,.sl 142]:=by kernel_rfl
def adm:tT 84=[.int,.str,.sl 84]:=by kernel_rfl
def adq:tT 83=[.int,.int,.str,.str,.sl 83,.sl 84]:=by kernel_rfl
def ado:tT 145=[.str,.str,.int,.int,.str,.str,.sl 83,.sl 84]:=by kernel_rfl
def adk:tT 91=[.str]:=by kernel_rfl
def ads:tT 139=[.str,.sl 142]:=by kernel_rfl
def adr:tT 22=[.int,.str,.sl 91,.sl 139,.str,.str,.sl 142,.sl 145,.int,.int,.str,.str,.sl 83,.sl 84]:=by kernel_rfl
def XT{k:Ck}{d:D}(h:xU k d):k=.sl 142->∃ xs,d=.row 2 (cp xs)/\xs.length<2^62/\Ty.oks xs:=by
 induction h with
 |row t ly l c hl g i ih =>
  intro e;cases e;rw[adi]at c;subst c;obtain⟨xs,rfl,j⟩:=pick (f:=dJ) (p:=Ty.ok) (l:=l) fun cs hc=>by obtain⟨a,r,rfl,m,h⟩:=aJ (⟨g cs hc,i cs hc⟩:GK [.str,.sl 142] cs);obtain⟨b,r,rfl,h2,h⟩:=aJ h;cases fZ h;obtain⟨n,rfl⟩:=ej m;obtain⟨xs,rfl,o⟩:=ih _ hc 1 _ b rfl rfl rfl;exact⟨.mk n xs,rfl,by rw[Ty.ok];exact o⟩
  refine⟨xs,by rw[iI];rfl,?_,Ty.oks_iff.2 j⟩;rw[aby]at hl;omega
 |_=>intro e;cases e
def Ru{k:Ck}{d:D}(h:xU k d):k=.sl 84->∃ xs,d=.row 3 (cr xs)/\xs.length<2^62/\Pa.oks xs:=by
 induction h with
 |row t ly l g hl i j ih =>
  intro e;cases e;rw[adm]at g;subst g;obtain⟨xs,rfl,o⟩:=pick (f:=eQ) (p:=Pa.ok) (l:=l) fun cs hc=>by obtain⟨a,r,rfl,q,h⟩:=aJ (⟨i cs hc,j cs hc⟩:GK [.int,.str,.sl 84] cs);obtain⟨b,r,rfl,s,h⟩:=aJ h;obtain⟨c,r,rfl,h3,h⟩:=aJ h;cases fZ h;obtain⟨m,rfl⟩:=dQ q;obtain⟨n,rfl⟩:=ej s;obtain⟨xs,rfl,u⟩:=ih _ hc 2 _ c rfl rfl rfl;exact⟨.mk m n xs,rfl,by rw[Pa.ok];exact u⟩
  refine⟨xs,by rw[lJ];rfl,?_,Pa.oks_iff.2 o⟩;rw[aby]at hl;omega
 |_=>intro e;cases e
def XV{k:Ck}{d:D}(h:xU k d):k=.sl 83->∃ xs,d=.row 6 (cm xs)/\xs.length<2^62/\Ex.oks xs:=by
 induction h with
 |row t ly l g hl i j ih =>
  intro e;cases e;rw[adq]at g;subst g;obtain⟨xs,rfl,o⟩:=pick (f:=cP) (p:=Ex.ok) (l:=l) fun cs hc=>by obtain⟨a,r,rfl,q,h⟩:=aJ (⟨i cs hc,j cs hc⟩:GK [.int,.int,.str,.str,.sl 83,.sl 84] cs);obtain⟨b,r,rfl,s,h⟩:=aJ h;obtain⟨c,r,rfl,u,h⟩:=aJ h;obtain⟨d,r,rfl,v,h⟩:=aJ h;obtain⟨e,r,rfl,h5,h⟩:=aJ h;obtain⟨f,r,rfl,w,h⟩:=aJ h;cases fZ h;obtain⟨k,rfl⟩:=dQ q;obtain⟨m,rfl⟩:=dQ s;obtain⟨n,rfl⟩:=ej u;obtain⟨a,rfl⟩:=ej v;obtain⟨xs,rfl,x,y⟩:=ih _ hc 4 _ e rfl rfl rfl;obtain⟨ps,rfl,z,A⟩:=Ru w rfl;exact⟨.mk k m n a xs ps,rfl,by rw[Ex.ok];exact⟨x,y,z,A⟩⟩
  refine⟨xs,by rw[lU];rfl,?_,Ex.oks_iff.2 o⟩;rw[aby]at hl;omega
 |_=>intro e;cases e
def acB{d:D}(h:xU (.sl 91) d):∃ xs:List (List Nat),d=.row 1 (xs.map fD)/\xs.length<2^62:=by
 obtain⟨l,rfl,hl,b⟩:=mw h;rw[adk]at b ⊢;obtain⟨xs,rfl,_⟩:=pick (f:=fD) (p:=fun _=>True) (l:=l) fun cs hc=>by obtain⟨a,r,rfl,c,h⟩:=aJ (b cs hc);cases fZ h;obtain⟨n,rfl⟩:=ej c;exact⟨n,rfl,trivial⟩
 exact⟨xs,rfl,by rw[aby]at hl;omega⟩
def acH{d:D}(h:xU (.sl 139) d):∃ xs:List Co,d=.row 2 (xs.map km)/\xs.length<2^62/\∀ c∈xs,c.ok:=by
 obtain⟨l,rfl,hl,e⟩:=mw h;rw[ads]at e ⊢;obtain⟨xs,rfl,i⟩:=pick (f:=km) (p:=Co.ok) (l:=l) fun cs hc=>by obtain⟨a,r,rfl,j,h⟩:=aJ (e cs hc);obtain⟨b,r,rfl,k,h⟩:=aJ h;cases fZ h;obtain⟨n,rfl⟩:=ej j;obtain⟨ts,rfl,g⟩:=XT k rfl;exact⟨⟨n,ts⟩,rfl,g⟩
 exact⟨xs,rfl,by rw[aby]at hl;omega,i⟩
def acE{d:D}(h:xU (.sl 145) d):∃ xs:List Fu,d=.row 8 (xs.map jQ)/\xs.length<2^62/\∀ f∈xs,f.b.ok:=by
 obtain⟨l,rfl,hl,j⟩:=mw h;rw[ado]at j ⊢;obtain⟨xs,rfl,o⟩:=pick (f:=jQ) (p:=fun f=>f.b.ok) (l:=l) fun cs hc=>by obtain⟨a,r,rfl,q,h⟩:=aJ (j cs hc);obtain⟨b,r,rfl,s,h⟩:=aJ h;obtain⟨c,r,rfl,t,h⟩:=aJ h;obtain⟨d,r,rfl,u,h⟩:=aJ h;obtain⟨e,r,rfl,v,h⟩:=aJ h;obtain⟨f,r,rfl,w,h⟩:=aJ h;obtain⟨g,r,rfl,x,h⟩:=aJ h;obtain⟨i,r,rfl,y,h⟩:=aJ h;cases fZ h;obtain⟨n,rfl⟩:=ej q;obtain⟨a,rfl⟩:=ej s;obtain⟨k,rfl⟩:=dQ t;obtain⟨m,rfl⟩:=dQ u;obtain⟨en,rfl⟩:=ej v;obtain⟨ea,rfl⟩:=ej w;obtain⟨xs,rfl,z,A⟩:=XV x rfl;obtain⟨ps,rfl,B,E⟩:=Ru y rfl;exact⟨⟨n,a,.mk k m en ea xs ps⟩,rfl,by rw[Ex.ok];exact⟨z,A,B,E⟩⟩
 exact⟨xs,rfl,by rw[aby]at hl;omega,o⟩
def acG{d:D}(h:xU (.sl 22) d):∃ xs:List De,d=.row 14 (xs.map bF)/\xs.length<2^61/\∀ d∈xs,d.ok:=by
 obtain⟨l,rfl,hl,w⟩:=mw h;rw[adr]at w ⊢;obtain⟨xs,rfl,x⟩:=pick (f:=bF) (p:=De.ok) (l:=l) fun cs hc=>by obtain⟨a,r,rfl,y,h⟩:=aJ (w cs hc);obtain⟨b,r,rfl,z,h⟩:=aJ h;obtain⟨c,r,rfl,A,h⟩:=aJ h;obtain⟨d,r,rfl,B,h⟩:=aJ h;obtain⟨e,r,rfl,E,h⟩:=aJ h;obtain⟨f,r,rfl,F,h⟩:=aJ h;obtain⟨g,r,rfl,G,h⟩:=aJ h;obtain⟨i,r,rfl,H,h⟩:=aJ h;obtain⟨j,r,rfl,I,h⟩:=aJ h;obtain⟨k,r,rfl,q,h⟩:=aJ h;obtain⟨m,r,rfl,s,h⟩:=aJ h;obtain⟨n,r,rfl,t,h⟩:=aJ h;obtain⟨o,r,rfl,u,h⟩:=aJ h;obtain⟨p,r,rfl,v,h⟩:=aJ h;cases fZ h;obtain⟨k,rfl⟩:=dQ y;obtain⟨dn,rfl⟩:=ej z;obtain⟨vs,rfl,J⟩:=acB A;obtain⟨cs,rfl,K,L⟩:=acH B;obtain⟨n,rfl⟩:=ej E;obtain⟨tn,rfl⟩:=ej F;obtain⟨ts,rfl,M,N⟩:=XT G rfl;obtain⟨fs,rfl,O,Q⟩:=acE H;obtain⟨ek,rfl⟩:=dQ I;obtain⟨em,rfl⟩:=dQ q;obtain⟨en,rfl⟩:=ej s;obtain⟨ea,rfl⟩:=ej t;obtain⟨xs,rfl,R,U⟩:=XV u rfl;obtain⟨ps,rfl,g10,g11⟩:=Ru v rfl;exact⟨⟨k,⟨dn,vs,cs⟩,n,.mk tn ts,fs,.mk ek em en ea xs ps⟩,rfl,⟨J,K,L⟩,by rw[Ty.ok];exact⟨M,N⟩,O,Q,by rw[Ex.ok];exact⟨R,U,g10,g11⟩⟩
 exact⟨xs,rfl,by rw[aby]at hl;omega,x⟩
def FA:∀ {l:List (List D)},(∀ c∈l,1<=iy c)->l.length<=kn l
 |[],_=>by simp
 |c::r,h=>by have h1:=h c aeK;have h2:=FA fun x a=>h x (abE _ a);simp only[aeJ,kn];omega
def MN{α:Type}{f:α->List D}{x:α}:∀ {l:List α},x∈l->iy (f x)<=kn (l.map f)
 |[],h=>by cases h
 |y::r,h=>by
  simp only[aeL,kn];rcases aff.1 h with rfl|h
  ·omega
  ·have:=MN (f:=f) h;omega
def WJ(d:D):1<=PQ d:=by cases d<;>simp[PQ]
def IY{d:D}{r:List D}:1<=iy (d::r):=by simp only[iy];have:=WJ d;omega
def VZ(l:List Fu):l.length<=kn (l.map jQ):=by
 have:=FA (l:=l.map jQ) fun c hc=>by obtain⟨⟨n,a,⟨k,m,en,ea,xs,ps⟩⟩,_,rfl⟩:=ajt.1 hc;exact IY
 simpa using this
def Uq(l:List Ty):l.length<=kn (cp l):=by
 rw[iI];have:=FA (l:=l.map dJ) fun c hc=>by obtain⟨⟨n,xs⟩,_,rfl⟩:=ajt.1 hc;rw[dJ];exact IY
 simpa using this
def NI:∀ l:List Co,(bW l).length<=kn (l.map km)
 |[]=>by simp[bW]
 |⟨n,xs⟩::r=>by have h1:=NI r;have h2:=Uq xs;simp only[bW,aae,aeL,kn,km,iy,PQ];omega
def aaV(d:De):d.fs.length<=iy (bF d)/\(bW d.d.cs).length<=iy (bF d):=by obtain⟨k,⟨dn,vs,cs⟩,n,⟨tn,ts⟩,fs,⟨ek,em,en,ea,xs,ps⟩⟩:=d;have h1:=VZ fs;have h2:=NI cs;simp only[bF,iy,PQ];omega
def fQ{t b:Nat}(h:(Tryz.prog.info? t).map (·.bytes)=some b)(hb:b<=1000){m:Nat}(hm:m<=1048576):aM Tryz.prog t m=true:=by
 unfold aM;cases hi:Tryz.prog.info? t with
 |none=>rw[hi]at h;cases h
 |some i =>
  rw[hi]at h;simp only[ajl,abB]at h;simp only[abA];refine⟨aeI ?_,aeI (by omega)⟩;have h1:Nat.div m 4<=m:=Nat.div_le_self m 4
  calc i.bytes*(m+Nat.div m 4+600)<=1000*(1048576+1048576+600):=Nat.mul_le_mul (by omega) (by omega)
   _<=281474976710656:=by omega
def WT:(Tryz.prog.info? 86).map (·.bytes)=some 96:=by kernel_rfl
def TF:(Tryz.prog.info? 144).map (·.bytes)=some 40:=by kernel_rfl
def Zq{d:De}(h:d.ok)(hc:iy (bF d)<=1048576):d.ok2:=by obtain⟨h1,h2⟩:=aaV d;exact⟨h,fun m hm=>fQ WT (by omega) (by omega),fun m hm=>fQ TF (by omega) (by omega),by omega⟩
def adv:HT 8 24=some [.sl 22]:=by kernel_rfl
end Go.Proofs.YtpghiabjaglpgaaGreatDoor.Rd
