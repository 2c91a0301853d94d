/- Lemmas. No conditions. -/
import Derived.Test.YtpghiabjaglpgaaGreatDoorA5
import Derived.Test.YtpghiabjaglpgaaGreatDoorCards
import Derived.Test.YtpghiabjaglpgaaGreatDoorTie
import Derived.ProofKit
import Derived.Lay
import Derived.Deep.DeepHandedRow
set_option linter.all false
noncomputable section
namespace Go.Proofs.YtpghiabjaglpgaaGreatDoor
open Go.AI
abbrev Kf(v:Nat):D:=.func 55 [] [.ptr v 0]
abbrev Kg(v:Nat):D:=.func 56 [] [.ptr v 0]
structure zh(m:Mc):Prop where
 ce:m.ce.length<2^61
 refs:∀ c∈m.ce,c.refs.length<2^61
 to:m.to.length<2^61
 ou:m.ou.length<2^61
 v:∀ x∈m.ou,x.v.ok
 fr:m.fr.length<2^61
 dn:∀ f∈m.fr,f.dn.length<2^61
structure SV(G:Pg):Prop where
 ds:G.ds.length<=9000
 rs:G.rs.length<=9000
 cs:G.cs.length<=9000
 rb:∀ r∈G.rs,r<G.bs.length
 cb:∀ r∈G.cs,r<G.bs.length
 ns:∀ x∈G.ns,x.e.ok
def lR(m:Mc)(mp:List (Nat×af)):List Ce->Nat->Bool
 |[],_=>true
 |c::r,i=>yB m mp i c&&lR m mp r (i+1)
def Ar(m:Mc)(G:Pg):Bool:=nZ m G.ns.length G.rs.length&&(EK m G&&m.fr.all λf=>iQ m (G.ns.map (·.e)) f)
def ku(m:Mc)(G:Pg):Bool:=jB (Nc G.bs G.cs) m.ce&&(decide (0<=m.st)&&(decide (m.st<=200000)&&(lR m G.m m.ce 0&&Ar m G)))
def Jz{m:Mc}{a b:Nat}(h:nZ m a b=true):∃ k:Nat,m.bo=(k:Nat)/\k<=b:=by
 unfold nZ at h;have g:0<=m.bo/\m.bo<=(b:Int):=by grind
 exact⟨m.bo.toNat,by omega,by omega⟩
def afA(m:Mc){H:DH}{n:Nat}{G:Pg}(h:fZ H n G)(ok:SV G)(a b sa sb:Nat)(g:H[a]? = some (.cells sa [.ptr (n+5) 0]))(hb:H[b]? = some (.cells sb (bh m)))(f:Fm)(i:f.dn.length<2^61) :
 aq 139 [.agg (eg f),.ptr a 0,.ptr b 0] H=ret (.bool (!iQ m (G.ns.map (·.e)) f)) H:=by
 refine ev (amO) ?_;have:=ZR m h f i ok.ns;simp only[eg]at this;simp only[ae g,ae hb,ai,aw,am this,aK]
def Yo(m:Mc)(mo:zh m){H:DH}{n:Nat}{G:Pg}(h:fZ H n G)(ok:SV G)(a b sa sb:Nat)(i:H[a]? = some (.cells sa [.ptr (n+5) 0]))(hb:H[b]? = some (.cells sb (bh m))) :
 ∃ H',ac au 70 200005 [.g (.ptr a 0),.g (.ptr b 0),.n m.ce.length,.n m.ce.length] [] H=ret (.bool (Ar m G)) H'/\(H'=H\/H'=Fz H n G):=by
 have hm:=adF m h;rw[Ar];cases p:nZ m G.ns.length G.rs.length with
 |false =>refine⟨H,?_,.inl rfl⟩;refine aW (nD) ?_;rw[p]at hm;rw[gI,acz (anz _),Xi];simp only[ae i,ae hb,ai,aw,am hm,ao,Xi,ajI]
 |true =>
  obtain⟨k,hk,q⟩:=Jz p;have u:=acF m H h ok.ds ok.rs ok.rb k hk q mo.to mo.ou mo.v;have hlt:=(acy.1 h.ns).1;obtain⟨st,h0⟩:=h.o;obtain⟨bb,t⟩:=h.rs;have r:(Fz H n G)[a]? = some (.cells sa [.ptr (n+5) 0]):=by rw[Fz,aei (by rintro rfl;rw[t]at i;cases i),i]
  have j:(Fz H n G)[b]? = some (.cells sb (bh m)):=by rw[Fz,aei (by rintro rfl;rw[t]at hb;cases hb),hb]
  refine⟨Fz H n G,?_,.inr rfl⟩;refine aW (nD) ?_;rw[p]at hm;rw[gI,acz (anz _),Xi];have w:aV bF 139=true:=by kernel_rfl
  have s:=aaK 139 [.ptr a 0,.ptr b 0] w (λf=>!iQ m (G.ns.map (·.e)) f) (Fz H n G) m.fr (λf s=>afA m (ZO h) ok a b sa sb r j f (mo.dn f s)) mo.fr;simp only[ae i,ae hb,ae j,ai,aw,am hm,am u,am s,aK,Ae,ao,ge,adG,bp,agb]
def zu(m:Mc)(mo:zh m){H:DH}{n:Nat}{G:Pg}(h:fZ H n G)(ok:SV G)(a b sa sb:Nat)(f:H[a]? = some (.cells sa [.ptr (n+5) 0]))(hb:H[b]? = some (.cells sb (bh m))):∀ suf pre:List Ce,m.ce=pre++suf ->
 ∃ H',ac au 70 200005 [.g (.ptr a 0),.g (.ptr b 0),.n m.ce.length,.n pre.length] [] H=ret (.bool (lR m G.m suf pre.length&&Ar m G)) H'/\(H'=H\/H'=Fz H n G)
 |[],pre,e=>by have:=Yo m mo h ok a b sa sb f hb;simp_all[lR]
 |c::suf,pre,e=>by
  have hi:pre.length<m.ce.length:=by rw[e];simp
  have hc:m.ce[pre.length]? = some c:=by rw[e];simp
  have hcell:=VW m h pre.length c hc mo.ce (mo.refs c (by rw[e];simp));obtain⟨H',ih,j⟩:=zu m mo h ok a b sa sb f hb suf (pre++[c]) (by rw[e];simp);simp only[abg,abf]at ih;rw[lR];have hlen:=mo.ce;cases i:yB m G.m pre.length c with
  |false =>refine⟨H,?_,.inl rfl⟩;refine aW (nD) ?_;rw[gI,acv hi,ge];rw[i]at hcell;simp only[ae f,ae hb,ai,aw,am hcell,aK,ao,ajM,ge,ajI]
  |true =>refine⟨H',?_,j⟩;refine aW (nD) ?_;rw[gI,acv hi,ge];rw[i]at hcell;simp only[ae f,ae hb,ai,aw,am hcell,aK,ao,age,Xi,adG,aE (show pre.length<2^62 by omega),ih]
def ajT(l:aQ)(k:Nat)(hk:k<=l.length)(H:DH)(κ:D->DH->av):cF ab 39 (.row 5 l) none (some (.i k)) none H κ=κ (.row 5 (l.take k)) H:=by
 have e:cF ab 39 (.row 5 l) none (some (.i k)) none H κ=boK (Nat.ble k l.length&&Nat.beq 0 0) (κ (.row 5 (l.take k)) H):=by kernel_rfl
 rw[e,acw hk];rfl
def Wv(bs:List Bo):∀ l,(Nc bs l).length<=l.length
 |[]=>abH _
 |c::r=>by
  have:=Wv bs r
  grind [Nc]
def Rm{H H':DH}{n:Nat}{G:Pg}(h:fZ H n G)(x y:DB)(q:Bool)(hH:H'=H++[x]++[y]\/H'=Fz (H++[x]++[y]) n G):∃ H'',bj H (ret (.bool q) H')=ret (.bool q) H''/\(H''=H\/H''=Fz H n G):=by grind [IP,List.append_assoc,BN,Oe]
def Ym(m:Mc)(mo:zh m)(H:DH){n:Nat}{G:Pg}(h:fZ H n G)(ok:SV G):∃ H',aq 70 [.ptr (n+5) 0,.agg (bh m)] H=ret (.bool (ku m G)) H'/\(H'=H\/H'=Fz H n G):=by
 have u:fZ (H++[.cells 0 [.ptr (n+5) 0]]++[.cells 0 (bh m)]) n G:=(h.app _).app _;have i:=aex (H++[.cells 0 [.ptr (n+5) 0]]++[.cells 0 (bh m)]) u (by have:=ok.cs;omega) ok.cb;have k:(H++[DB.cells 0 [.ptr (n+5) 0]]++[DB.cells 0 (bh m)])[H.length]? = some (.cells 0 [.ptr (n+5) 0]):=cC _ (be _ _);have hb:(H++[DB.cells 0 [.ptr (n+5) 0]]++[DB.cells 0 (bh m)])[(H++[DB.cells 0 [.ptr (n+5) 0]]).length]? = some (.cells 0 (bh m)):=be _ _;obtain⟨H',s,w⟩:=zu m mo u ok _ _ 0 0 k hb m.ce [] rfl;have tr:=fun(q:Bool) (H':DH)=>Rm (H':=H') h (.cells 0 [.ptr (n+5) 0]) (.cells 0 (bh m)) q;have fl:=Wv G.bs G.cs;have fc:=ok.cs;have hce:=mo.ce;have f:(H++[DB.cells 0 [.ptr (n+5) 0]]).length=H.length+1:=by simp
 rw[f]at hb s;generalize j:H++[DB.cells 0 [.ptr (n+5) 0]]++[DB.cells 0 (bh m)]=r at *;rw[ku];generalize hF:Nc G.bs G.cs=F at *;by_cases e:m.ce.length<F.length
 .obtain⟨H'',t,o⟩:=tr false r (.inl rfl);rw[CR e,ajI];refine⟨H'',ev (f70) ((anL (bj H) ?_).trans t),o⟩;dsimp only;rw[f,j];simp only[ae k,ae hb,ai,aw,am i,oZ,abh,aN,ao]
  grind
 have g:=akT F m.ce (by omega) (by omega) r;have p (κ:D->DH->av):=ajT (m.ce.map dw) F.length (by rw[abh];omega) r κ;cases v:jB F m.ce with
 |false =>obtain⟨H'',t,o⟩:=tr false r (.inl rfl);rw[ajI];refine⟨H'',ev (f70) ((anL (bj H) ?_).trans t),o⟩;dsimp only;rw[f,j];rw[v]at g;simp only[ae k,ae hb,ai,aw,am i,oZ,abh,aN,ao];rw[gI,acz e,Xi,p,<- aoJ,am g];rfl
 |true =>
  rw[v]at g;by_cases hs0:m.st<0
  .obtain⟨H'',t,o⟩:=tr false r (.inl rfl);rw[acz (show ¬ 0<=m.st by omega),ajI,aot];refine⟨H'',ev (f70) ((anL (bj H) ?_).trans t),o⟩;dsimp only;rw[f,j];simp only[ae k,ae hb,ai,aw,am i,oZ,abh,aN,ao];rw[gI,acz e,Xi,p,<- aoJ,am g];simp only[ae k,ae hb,ai,aw,oZ,abh,aN,er,aK,ao,age,Xi]
   grind
  by_cases hs1:m.st>200000
  .obtain⟨H'',t,o⟩:=tr false r (.inl rfl);rw[acz (show ¬ m.st<=200000 by omega),ajI,aot,aot];refine⟨H'',ev (f70) ((anL (bj H) ?_).trans t),o⟩;dsimp only;rw[f,j];simp only[ae k,ae hb,ai,aw,am i,oZ,abh,aN,er,ao];rw[gI,acz e,Xi,p,<- aoJ,am g];simp only[ae k,ae hb,ai,aw,oZ,abh,aN,er,aK,ao,age,Xi]
   grind
  obtain⟨H'',t,o⟩:=tr (lR m G.m m.ce 0&&Ar m G) H' w;rw[acv (show 0<=m.st by omega),acv (show m.st<=200000 by omega),adG,adG,adG];refine⟨H'',ev (f70) ((anL (bj H) ?_).trans t),o⟩;dsimp only;rw[f,j];simp only[ae k,ae hb,ai,aw,am i,oZ,abh,aN,er,ao];rw[gI,acz e,Xi,p,<- aoJ,am g];simp only[ae k,ae hb,ai,aw,oZ,abh,aN,er,aK,ao,age,Xi]
  grind
structure afR(G:Rf):Prop where
 ds:G.ds.length<=9000
 rs:G.rs.length<=9000
 fs:G.fs.length<=9000
def MG(s o n:Nat)(H:DH)(κ:D->av):aP ab 39 (.buf s o n) H κ=κ (.i (n:Int)):=by kernel_rfl
def air(o n i:Nat)(κ:D->av):ay ab 39 (.buf 5 o n) (.i i) κ=boK (Nat.blt i n) (κ (.bptr o n i 0)):=by kernel_rfl
def aee(o n i:Nat)(H:DH)(κ:D->av):bJ ab 115 (.bptr o n i 0) H κ=cH H o n λ_ _ _ l=>aX l i λcs=>bL ab 115 cs 0 κ:=by kernel_rfl
def ahQ(a b c d e:D)(κ:D->av):bL ab 115 [a,b,c,d,e] 0 κ=κ (.agg [a,b,c,d,e]):=by kernel_rfl
def pK(m:Mc)(ns:List Fn):List Ce->Nat->Bool
 |[],_=>true
 |c::r,i=>KV m ns i c&&pK m ns r (i+1)
def GI(m:Mc)(G:Rf):Bool:=nZ m G.ns.length G.rs.length&&(decide (0<=m.st)&&(decide (m.st<=200000)&&(IT m G&&(jB G.fs m.ce&&(pK m G.ns m.ce 0&&m.fr.all λf=>iQ m (G.ns.map (·.e)) f)))))
def abs(m:Mc)(mo:zh m){H:DH}{n:Nat}{G:Rf}(h:qC H n G):∀ suf pre:List Fm,m.fr=pre++suf ->
 ac au 51 200014 [.g (.ptr (n+5) 0),.lp 0 0,.n pre.length] [(0,bh m)] H=ret (.bool (suf.all λf=>iQ m (G.ns.map (·.e)) f)) H
 |[],pre,e=>by
  refine aW (Cv) ?_
  grind
 |f::suf,pre,e=>by
  have hi:pre.length<m.fr.length:=by rw[e];simp
  have hc:m.fr[pre.length]? = some f:=by rw[e];simp
  have i:=ZQ m h f (mo.dn f (by rw[e];simp));have ih:=abs m mo h suf (pre++[f]) (by rw[e];simp);have hl:=mo.fr;simp only[abg,abf]at ih;refine aW (Cv) ?_;rw[abh,gI,acv hi,ge];simp only[eg]at i;simp only[aI,cz hc,eg,ai,aw,aH i,aK,ao,aE (show pre.length<2^62 by omega),ih]
  grind
def abt(m:Mc)(mo:zh m){H:DH}{n:Nat}{G:Rf}(h:qC H n G):∀ suf pre:List Ce,m.ce=pre++suf ->
 ac au 51 200009 [.g (.ptr (n+5) 0),.lp 0 0,.n pre.length] [(0,bh m)] H=ret (.bool (pK m G.ns suf pre.length&&m.fr.all λf=>iQ m (G.ns.map (·.e)) f)) H
 |[],pre,e=>by refine aW (Cw) ?_;rw[abh,gI,show m.ce.length=pre.length by rw[e];simp,acz (anz _),Xi,pK,adG];exact abs m mo h m.fr [] rfl
 |c::suf,pre,e=>by
  have hi:pre.length<m.ce.length:=by rw[e];simp
  have hc:m.ce[pre.length]? = some c:=by rw[e];simp
  have hf:=VV m h pre.length c hc mo.ce (mo.refs c (by rw[e];simp));have ih:=abt m mo h suf (pre++[c]) (by rw[e];simp);have hl:=mo.ce;simp only[abg,abf]at ih;refine aW (Cw) ?_
  grind [gI,am,aK,ao,aE,pK]
def abr(m:Mc)(mo:zh m){H:DH}{n:Nat}{G:Rf}(h:qC H n G)(ok:afR G)(hl:G.fs.length<=m.ce.length):∀(sa:List (List Nat×Nat)) (sb:List Ce) (pa:List (List Nat×Nat)) (pb:List Ce),G.fs=pa++sa->m.ce=pb++sb->pa.length=pb.length ->
 ac au 51 200004 [.g (.ptr (n+5) 0),.lp 0 0,.n pa.length] [(0,bh m)] H=ret (.bool (jB sa sb&&(pK m G.ns m.ce 0&&m.fr.all λf=>iQ m (G.ns.map (·.e)) f))) H
 |[],sb,pa,pb,e,_,_=>by obtain⟨st,h0⟩:=h.o;refine aW (Cx) ?_;simp only[ae h0,ai,aw,MG,aN,ao];rw[gI,show G.fs.length=pa.length by rw[e];simp,acz (anz _),Xi,jB,adG];exact abt m mo h m.ce [] rfl
 |x::sa,[],pa,pb,e,i,j=>by grind
 |x::sa,y::sb,pa,pb,e,i,j=>by
  obtain⟨st,h0⟩:=h.o;have hi:pa.length<G.fs.length:=by rw[e];simp
  have ih:=abr m mo h ok hl sa sb (pa++[x]) (pb++[y]) (by rw[e];simp) (by rw[i];simp) (by simp[j]);simp only[abg,abf]at ih;have k:G.fs[pa.length]? = some x:=by rw[e];simp
  have p:m.ce[pa.length]? = some y:=by rw[j,i];simp
  have hc:=aay x y H;have hk:=ok.fs;refine aW (Cx) ?_;simp only[ae h0,ai,aw,MG,aN,ao];rw[gI,acv hi,ge];simp only[dw,wi]at hc;simp only[aI,cz p,dw,ai,aw,air,lH hi,boK,ge,aee,eU h.fs,cz k,wi,ahQ,aH hc,aK,ao,aE (show pa.length<2^62 by omega),ih]
  grind [jB]
def Yl(m:Mc)(mo:zh m)(H:DH){n:Nat}{G:Rf}(h:qC H n G)(ok:afR G):aq 51 [.ptr (n+5) 0,.agg (bh m)] H=ret (.bool (GI m G)) H:=by
 have hm:=adE m h;obtain⟨st,h0⟩:=h.o;refine ev (f51) ?_;rw[GI,aH hm,aK,ao];cases i:nZ m G.ns.length G.rs.length with
 |false=>rfl
 |true =>
  obtain⟨k,hk,e⟩:=Jz i;have j:=acE m H h ok.ds ok.rs k hk e mo.to mo.ou mo.v;rw[age,Xi,adG];by_cases f:m.st<0
  .grind
  by_cases g:m.st>200000
  .grind
  rw[acz f,Xi,acz g,Xi,acv (show 0<=m.st by omega),acv (show m.st<=200000 by omega),adG,adG];simp only[ae h0,ai,aw,MG,abh,aN,ao,aH j,aK];rw[gI];by_cases hl:m.ce.length<G.fs.length
  .simp_all[CR]
  .rw[acz hl,Xi];have:=abr m mo h ok (by omega) G.fs m.ce [] [] rfl rfl rfl
   grind
def lk{β:Type}(f:Bo->β)(bs:List Bo)(c:Nat):Option β:=(bs[c]?).map f
def ni{β:Type}(f:Bo->β)(bs:List Bo)(b:Bo):∀(l:af) (M:List β),l.map (lk f bs)=M.map some->l.map (lk f (bs++[b]))=M.map some
 |[],[],_=>rfl
 |[],_::_,h=>by simp at h
 |_::_,[],h=>by simp at h
 |c::l,v::M,h=>by
  simp only[ads,aou]at h;rw[ads,ads,ni f bs b l M h.2];have e:=h.1;unfold lk at e ⊢;cases q:bs[c]? with
  |none=>rw[q]at e;cases e
  |some x =>rw[q]at e;rw[afZ (acy.1 q).1,q,e]
theorem zK{β:Type}(f:Bo->β)(bs:List Bo)(b:Bo):lk f (bs++[b]) bs.length=some (f b):=by unfold lk;rw[anH (abH _),akN];rfl
def fB(x:Bo):Int×Bool:=(x.decl,decide (x.run<0))
def fC(x:Bo):af×Nat:=(x.arg,x.first)
def fR(x:Bo):af×Int:=(x.name,x.kind)
def qR(q:af×Nat×Nat×Bool):af×Int:=(q.1,if q.2.2.2 then 5 else 4)
def nE(y:Nd):Ex×Int:=(y.e,y.d)
def zE(z:Fn):Ex×Int:=(z.e,z.d)
def zB(z:Fn):Int×Bool:=(z.d,z.fn)
structure Rh(G:Pg)(R:Rf):Prop where
 ds:G.ds=R.ds
 e:G.ns.map nE=R.ns.map zE
 b:(G.ns.map (·.b.toNat)).map (lk fB G.bs)=(R.ns.map zB).map some
 c:G.cs.map (lk fC G.bs)=R.fs.map some
 r:G.rs.map (lk fR G.bs)=(R.rs.map qR).map some
mutual
def adc(d f b:Int)(fn:Bool):∀(e:Ex) (n:Nat) (p par:af),(rH d f b n p e).map nE=(eE d f fn p par e).map zE
 |.mk k m nm a xs ps,n,p,par=>by rw[rH,eE,ads,ads,abq d f b fn xs (n+1) p 0 k a];rfl
def abq(d f b:Int)(fn:Bool):∀(l:List Ex) (n:Nat) (p:af) (i:Nat) (k:Int) (a:af),(lj d f b n p i l).map nE=(dT d f fn p k a i l).map zE
 |[],_,_,_,_,_=>by simp[lj,dT]
 |x::r,n,p,i,k,a=>by rw[lj,dT,aiR,aiR,adc d f b fn x n (p++[i]),abq d f b fn r _ p (i+1) k a]
end
mutual
theorem adh(d f:Int)(j:Nat)(fn:Bool)(bs:List Bo)(hb:lk fB bs j=some (d,fn)):∀(e:Ex) (n:Nat) (p par:af),((rH d f (j:Nat) n p e).map (·.b.toNat)).map (lk fB bs)=((eE d f fn p par e).map zB).map some
 |.mk k m nm a xs ps,n,p,par=>by rw[rH,eE,ads,ads,ads,ads,abx d f j fn bs hb xs (n+1) p 0 k a];simp only[anE,hb];rfl
theorem abx(d f:Int)(j:Nat)(fn:Bool)(bs:List Bo)(hb:lk fB bs j=some (d,fn)):∀(l:List Ex) (n:Nat) (p:af) (i:Nat) (k:Int) (a:af),((lj d f (j:Nat) n p i l).map (·.b.toNat)).map (lk fB bs)=((dT d f fn p k a i l).map zB).map some
 |[],_,_,_,_,_=>by simp[lj,dT]
 |x::r,n,p,i,k,a=>by rw[lj,dT,aiR,aiR,aiR,aiR,adh d f j fn bs hb x n (p++[i]),abx d f j fn bs hb r _ p (i+1) k a]
end
def Rh.len{G:Pg}{R:Rf}(h:Rh G R):G.ns.length=R.ns.length:=by
 have:=anL List.length h.e
 grind
def abv{G:Pg}{R:Rf}(h:Rh G R)(i k:Nat)(f:Fu):Rh (G.addF i 3 k f) ((R.addH ⟨i,k,f.n,true,f.a,f.b⟩).addB ⟨i,k,f.n,true,f.a,f.b⟩):=by
 have hl:=h.len;refine⟨h.ds,?_,?_,?_,?_⟩
 .show(G.ns++rH _ _ _ _ _ _).map nE=(R.ns++eE _ _ _ _ _ _).map zE;rw[aiR,aiR,h.e,adc _ _ _ true f.b _ [] f.a]
 .show((G.ns++rH _ _ _ _ _ _).map (·.b.toNat)).map (lk fB (G.bs++[_]))=((R.ns++eE _ _ _ _ _ _).map zB).map some;rw[aiR,aiR,aiR,aiR,ni fB G.bs _ _ _ h.b,adh (i:Nat) (k:Nat) G.bs.length true _ (zK fB G.bs _) f.b _ [] f.a]
 .show(G.cs++[G.bs.length]).map (lk fC (G.bs++[_]))=(R.fs++[_]).map some;rw[aiR,aiR,ni fC G.bs _ _ _ h.c,aoS,zK,aoS,fC];simp only[hl]
 .show G.rs.map (lk fR (G.bs++[_]))=(R.rs.map qR).map some;exact ni fR G.bs _ _ _ h.r
def abu{G:Pg}{R:Rf}(h:Rh G R)(i:Nat)(d:De)(hd:R.ds[i]? = some d)(hk:d.k=4\/d.k=5):Rh (G.addR i d) ((R.addH ⟨i,0,d.n,false,[],d.b⟩).addB ⟨i,0,d.n,false,[],d.b⟩):=by
 have hl:=h.len;have hrun:decide (((G.rs.length:Nat):Int)<0)=false:=acz (by omega);refine⟨h.ds,?_,?_,?_,?_⟩
 .show(G.ns++rH _ _ _ _ _ _).map nE=(R.ns++eE _ _ _ _ _ _).map zE;rw[aiR,aiR,h.e,adc _ _ _ false d.b _ [] []];rfl
 .show((G.ns++rH _ _ _ _ _ _).map (·.b.toNat)).map (lk fB (G.bs++[_]))=((R.ns++eE _ _ _ _ _ _).map zB).map some;rw[aiR,aiR,aiR,aiR,ni fB G.bs _ _ _ h.b]
  grind [adh,zK,fB]
 .show G.cs.map (lk fC (G.bs++[_]))=R.fs.map some;exact ni fC G.bs _ _ _ h.c
 .show(G.rs++[G.bs.length]).map (lk fR (G.bs++[_]))=((R.rs++[_]).map qR).map some;rw[aiR,aiR,aiR,ni fR G.bs _ _ _ h.r,aoS,zK,aoS,aoS,fR,qR]
  grind [VX]
def vY:∀(a b:List Bd) (R:Rf),R.addXs (a++b)=(R.addXs a).addXs b
 |[],_,_=>rfl
 |x::a,b,R=>by rw[ajo,Rf.addXs,Rf.addXs,vY a b]
def uy:∀(a:List Bd) (R:Rf),(R.addXs a).ds=R.ds
 |[],_=>rfl
 |x::a,R=>by
  rw[Rf.addXs,uy a]
  grind [Rf.addB,Rf.addH]
theorem Un(i:Nat):∀(l:List Fu) (k:Nat) (G:Pg) (R:Rf),Rh G R->Rh (G.addFs i 3 k l) (R.addXs (qA i k l))
 |[],_,_,_,h=>h
 |f::r,k,G,R,h=>Un i r (k+1) _ _ (abv h i k f)
def agK{G:Pg}{R:Rf}(h:Rh G R)(i:Nat)(d:De)(g:R.ds[i]? = some d):Rh (G.addD i d) (R.addXs (Ix i d)):=by
 unfold Pg.addD Ix;by_cases f:d.k=3
 .grind [Un]
 .rw[ajD f,ajD f];by_cases e:d.k=4\/d.k=5
  .rw[akJ e,akJ e];exact abu h i d g e
  .rw[ajD e,ajD e];exact h
def Uo(l:List De):∀(suf pre:List De) (G:Pg) (R:Rf),l=pre++suf->R.ds=l->Rh G R->Rh (G.addDs pre.length suf) (R.addXs (jE pre.length suf))
 |[],_,_,_,_,_,h=>h
 |d::r,pre,G,R,e,f,h=>by
  rw[Pg.addDs,jE,vY];have g:R.ds[pre.length]? = some d:=by rw[f,e];simp
  have:=Uo l r (pre++[d]) _ _ (by rw[e];simp) ((uy (Ix pre.length d) R).trans f) (agK h pre.length d g)
  grind
def rel(l:List De):Rh (eL l) (AM l):=by obtain⟨a,b,c,d,e⟩:=Uo l l [] (⟨l,[],[],[],[],[]⟩:Pg) (⟨l,[],[],[],[],[]⟩:Rf) rfl rfl ⟨rfl,rfl,rfl,rfl,rfl⟩;exact⟨a,b,c,d,e⟩
def Wu(bs:List Bo):∀(l:af) (M:List (List Nat×Nat)),l.map (lk fC bs)=M.map some->Nc bs l=M
 |[],[],_=>rfl
 |[],_::_,h=>by simp at h
 |_::_,[],h=>by simp at h
 |c::l,v::M,h=>by
  simp only[ads,aou]at h;have ih:=Wu bs l M h.2
  grind [lk,Nc,Option.some.injEq,fC]
def Vb(bs:List Bo):∀(l:af) (M:List (List Nat×Nat×Nat×Bool)),l.map (lk fR bs)=(M.map qR).map some->yL bs 4 l=Lu false M/\yL bs 5 l=Lu true M
 |[],[],_=>⟨rfl,rfl⟩
 |[],_::_,h=>by simp at h
 |_::_,[],h=>by simp at h
 |c::l,v::M,h=>by
  simp only[ads,aou]at h;obtain⟨f,g⟩:=Vb bs l M h.2;have e:=h.1;unfold lk at e;rw[yL,yL,Lu,Lu,f,g];cases q:bs[c]? with
  |none=>rw[q]at e;cases e
  |some x =>grind [Option.some.injEq,fR,qR,Prod.mk.injEq]
def gM(m:List (Nat×af))(v:Nat):af:=(jJ m (v:Int)).getD []
def Na(n:Nat)(a:af)(v:Nat):∀ m,gM (gX m n a) v=if v=n then a else gM m v
 |[]=>by grind [gM,gX,jJ,neq]
 |(k,b)::r=>by
  have ih:=Na n a v r
  grind [gM,gX,jJ,neq]
mutual
def qu(par:af):Ex->List af
 |.mk k _ _ a xs _=>par::kx (if k=5\/k=7 then a else []) xs
def kx(a:af):List Ex->List af
 |[]=>[]
 |x::r=>qu a x++kx [] r
end
mutual
theorem oR:∀(e:Ex) (p:af),(qu p e).length=ja e
 |.mk k m nm a xs ps,p=>by rw[qu,aga,Ff xs,ja];omega
theorem Ff:∀(l:List Ex) (a:af),(kx a l).length=eh l
 |[],_=>rfl
 |x::r,a=>by rw[kx,abg,oR x,Ff r,eh]
end
mutual
theorem tY(d f:Int)(fn:Bool):∀(e:Ex) (p par:af),(eE d f fn p par e).map (·.par)=qu par e
 |.mk k m nm a xs ps,p,par=>by simp_all[eE,ads,qu,FU]
theorem FU(d f:Int)(fn:Bool):∀(l:List Ex) (p:af) (k:Int) (a:af) (i:Nat),(dT d f fn p k a i l).map (·.par)=kx (if i=0/\(k=5\/k=7)then a else []) l
 |[],_,_,_,_=>by simp[dT,kx]
 |x::r,p,k,a,i=>by simp_all[dT,aiR,kx,tY,FU]
end
theorem aev{l r:List af}{j:Nat}(h:j<l.length):(l++r).getD j []=l.getD j []:=by grind
theorem Wn{l r:List af}{j:Nat}(h:l.length<=j):(l++r).getD j []=r.getD (j - l.length) []:=by grind
theorem AR(e:Ex)(a:af)(j:Nat):(qu a e).getD j []=if j=0 then a else(qu [] e).getD j []:=by
 obtain⟨k,m,nm,aa,xs,ps⟩:=e
 grind [qu]
def Ry(xs:List Ex)(e:xs≠[])(a:af)(j:Nat):(kx a xs).getD j []=if j=0 then a else(kx [] xs).getD j []:=by
 cases xs with
 |nil=>exact(e rfl).elim
 |cons x r =>grind [kx,oR,sJ,aev,AR,Wn]
def Wm{l:List af}{j:Nat}(h:l.length<=j):l.getD j []=[]:=by grind
mutual
def LJ:∀(e:Ex) (n:Nat) (m:List (Nat×af)),Mk e->(∀ v,n<v->gM m v=[])->∀ v,gM (TP n e m) v=if v<=n then gM m v else(qu [] e).getD (v - n) []
 |.mk k mm nm a xs ps,n,m,ho,g,v=>by
  rw[Mk]at ho;have ih:=Ou xs (n+1) m ho.2 (λv f=>g v (by omega));rw[TP,qu];by_cases hk:k=5\/k=7
  .rw[akJ hk,akJ hk,Na,ih];by_cases f:v<=n
   .grind
   .rw[ajD f,show v - n=(v - (n+1))+1 by omega,List.getD_cons_succ,Ry xs (ho.1 hk) a]
    grind
  grind
def Ou:∀(l:List Ex) (n:Nat) (m:List (Nat×af)),Hm l->(∀ v,n<=v->gM m v=[])->∀ v,gM (yH n l m) v=if v<n then gM m v else(kx [] l).getD (v - n) []
 |[],n,m,_,f,v=>by grind [yH,kx]
 |x::r,n,m,ho,f,v=>by
  rw[Hm]at ho;have e:=LJ x n m ho.1 (λv h=>f v (by omega));have hp:=sJ x
  have g:=Ou r (n+ja x) (TP n x m) ho.2 (λv h=>by rw[e,ajD (by omega)];exact Wm (by rw[oR];omega))
  rw[yH,kx,g];by_cases i:v<n+ja x
  .rw[akJ i,e];by_cases j:v<n
   .grind
   .rw[ajD j,aev (by rw[oR];omega)];by_cases o:v<=n
    .rw[akJ o,f v (by omega)];obtain⟨k,mm,nm,a,xs,ps⟩:=x
     grind [qu]
    grind
  grind [Wn,oR,ja]
end
def Qs(R:Rf):List af:=R.ns.map (·.par)
structure PI(G:Pg)(R:Rf):Prop where
 rel:Rh G R
 m:∀ v,gM G.m v=if v∈R.fs.map (·.2)then [] else(Qs R).getD v []
 f:∀ x∈R.fs,(Qs R).getD x.2 []=x.1/\x.2<R.ns.length
def PI.fresh{G:Pg}{R:Rf}(h:PI G R)(v:Nat)(hv:R.ns.length<=v):gM G.m v=[]:=by
 rw[h.m]
 grind [Qs]
def UO(e:Ex)(a:af):(qu a e).getD 0 []=a:=by rw[AR,akJ rfl]
def akj{G:Pg}{R:Rf}(h:PI G R)(i k:Nat)(f:Fu)(ho:Mk f.b):PI (G.addF i 3 k f) ((R.addH ⟨i,k,f.n,true,f.a,f.b⟩).addB ⟨i,k,f.n,true,f.a,f.b⟩):=by
 have hl:=h.rel.len;have p:Qs ((R.addH ⟨i,k,f.n,true,f.a,f.b⟩).addB ⟨i,k,f.n,true,f.a,f.b⟩)=Qs R++qu f.a f.b:=by show(R.ns++eE _ _ _ _ _ _).map (·.par)=_;rw[aiR,tY];rfl
 have j:(Qs R).length=R.ns.length:=abh ..;have g:((R.addH ⟨i,k,f.n,true,f.a,f.b⟩).addB ⟨i,k,f.n,true,f.a,f.b⟩).ns.length=R.ns.length+ja f.b:=by show(R.ns++eE _ _ _ _ _ _).length=_;rw[abg,iR]
 have hp:=sJ f.b;refine⟨abv h.rel i k f,λv=>?_,λx e=>?_⟩
 .show gM (TP G.ns.length f.b G.m) v=if v∈(R.fs++[(f.a,R.ns.length)]).map (·.2)then [] else _
  rw[LJ f.b _ _ ho (λv o=>h.fresh v (by omega)),p,hl,h.m];simp only[aiR,ads,aoW,ajK,aov];rcases Nat.lt_trichotomy v R.ns.length with o|o|o
  .grind
  .grind
  .have hm:¬ v∈R.fs.map (·.2):=by intro q;obtain⟨x,e,rfl⟩:=anT.1 q;have:=(h.f x e).2;omega
   grind [Wn,AR]
 .rw[p,g];change x∈R.fs++[(f.a,R.ns.length)]at e;rw[ajK,aov]at e;rcases e with e|rfl
  .have:=h.f x e
   grind
  .refine⟨?_,by simp only;omega⟩;simp only;rw[Wn (by omega),j,akN];exact UO _ _
def aki{G:Pg}{R:Rf}(h:PI G R)(i:Nat)(d:De)(r:R.ds[i]? = some d)(hk:d.k=4\/d.k=5)(ho:Mk d.b):PI (G.addR i d) ((R.addH ⟨i,0,d.n,false,[],d.b⟩).addB ⟨i,0,d.n,false,[],d.b⟩):=by
 have hl:=h.rel.len;have p:Qs ((R.addH ⟨i,0,d.n,false,[],d.b⟩).addB ⟨i,0,d.n,false,[],d.b⟩)=Qs R++qu [] d.b:=by show(R.ns++eE _ _ _ _ _ _).map (·.par)=_;rw[aiR,tY];rfl
 have j:(Qs R).length=R.ns.length:=abh ..;have e:((R.addH ⟨i,0,d.n,false,[],d.b⟩).addB ⟨i,0,d.n,false,[],d.b⟩).ns.length=R.ns.length+ja d.b:=by show(R.ns++eE _ _ _ _ _ _).length=_;rw[abg,iR]
 refine⟨abu h.rel i d r hk,λv=>?_,λx g=>?_⟩
 .show gM (TP G.ns.length d.b G.m) v=if v∈R.fs.map (·.2)then [] else _
  rw[LJ d.b _ _ ho (λv s=>h.fresh v (by omega)),p,hl];by_cases s:v<R.ns.length
  .rw[akJ (by omega),aev (by omega),h.m]
  .have hm:¬ v∈R.fs.map (·.2):=by intro q;obtain⟨x,g,rfl⟩:=anT.1 q;have:=(h.f x g).2;omega
   rw[ajD hm,Wn (by omega),j];by_cases o:v<=R.ns.length
   .rw[akJ o,h.fresh v (by omega),show v - R.ns.length=0 by omega,UO]
   grind
 .rw[p,e];change x∈R.fs at g;have:=h.f x g
  grind
def abz(i:Nat):∀(l:List Fu) (k:Nat) (G:Pg) (R:Rf),(∀ f∈l,Mk f.b)->PI G R->PI (G.addFs i 3 k l) (R.addXs (qA i k l))
 |[],_,_,_,_,h=>h
 |f::r,k,G,R,ho,h=>abz i r (k+1) _ _ (λf e=>ho f (acl _ e)) (akj h i k f (ho f adN))
def akk{G:Pg}{R:Rf}(h:PI G R)(i:Nat)(d:De)(g:R.ds[i]? = some d)(ho:okD d):PI (G.addD i d) (R.addXs (Ix i d)):=by
 unfold Pg.addD Ix;by_cases f:d.k=3
 .rw[akJ f,akJ f];exact abz i d.fs 0 G R (ho.fs f) h
 .rw[ajD f,ajD f];by_cases e:d.k=4\/d.k=5
  .rw[akJ e,akJ e];exact aki h i d g e (ho.b e)
  .rw[ajD e,ajD e];exact h
def abA(l:List De)(ho:∀ d∈l,okD d):∀(suf pre:List De) (G:Pg) (R:Rf),l=pre++suf->R.ds=l->PI G R->PI (G.addDs pre.length suf) (R.addXs (jE pre.length suf))
 |[],_,_,_,_,_,h=>h
 |d::r,pre,G,R,e,f,h=>by
  rw[Pg.addDs,jE,vY];have g:R.ds[pre.length]? = some d:=by rw[f,e];simp
  have:=abA l ho r (pre++[d]) _ _ (by rw[e];simp) ((uy (Ix pre.length d) R).trans f) (akk h pre.length d g (ho d (by rw[e];simp)))
  grind
def Qm(bs:List Bo)(Q:Nat->af)(v:Nat):∀(cs:af) (fs:List (List Nat×Nat)) (m:List (Nat×af)),cs.map (lk fC bs)=fs.map some->(∀ x∈fs,Q x.2=x.1)->gM (HV bs cs m) v=if v∈fs.map (·.2)then Q v else gM m v
 |[],[],m,_,_=>by rw[HV,aoW,ajD (by simp)]
 |[],_::_,_,h,_=>by simp at h
 |_::_,[],_,h,_=>by simp at h
 |c::r,x::fs,m,h,f=>by
  simp only[ads,aou]at h;have e:=h.1;unfold lk at e;rw[HV];cases q:bs[c]? with
  |none=>rw[q]at e;cases e
  |some y =>
   rw[q]at e;simp only[aoh,acf,fC]at e;have g:y.arg=x.1:=anL Prod.fst e;have i:y.first=x.2:=anL Prod.snd e
   simp only;rw[Qm bs Q v r fs _ h.2 (λx j=>f x (acl _ j)),Na,g,i,ads]
   grind
def acL(l:List De)(ho:∀ d∈l,okD d)(v:Nat):gM (eL l).m v=(Qs (AM l)).getD v []:=by have h:PI (lg l) (AM l):=abA l ho l [] (⟨l,[],[],[],[],[]⟩:Pg) (⟨l,[],[],[],[],[]⟩:Rf) rfl rfl ⟨⟨rfl,rfl,rfl,rfl,rfl⟩,λv=>by simp[gM,jJ,Qs],λx e=>by cases e⟩;show gM (HV (lg l).bs (lg l).cs (lg l).m) v=_;rw[Qm _ (λv=>(Qs (AM l)).getD v []) v _ _ _ h.rel.c (λx e=>(h.f x e).1),h.m];split<;>rfl
def UE(m:Mc)(r:Re)(i:Nat)(hi:i<=m.ce.length):cg m r i=(cg m r m.ce.length&&!(r.c&&decide (r.n>=(i:Int)))):=by grind [cg]
def Gu(m:Mc)(i:Nat)(hi:i<=m.ce.length):∀ l:List Re,(l.all λr=>cg m r i)=((l.all λr=>cg m r m.ce.length)&&l.all λr=>!(r.c&&decide (r.n>=(i:Int))))
 |[]=>rfl
 |r::l=>by rw[aof,aof,aof,Gu m i hi l,UE m r i hi];cases cg m r m.ce.length<;>cases (r.c&&decide (r.n>=(i:Int)))<;>cases (l.all λr=>cg m r m.ce.length)<;>rfl
def Gb(m:Mc)(n:Int)(i:Nat)(hi:i<=m.ce.length):eM m n i=(eM m n m.ce.length&&decide (n<(i:Int))):=by grind [eM]
def Fv(n:Int)(h:n<0):∀ l,jJ l n=none
 |[]=>rfl
 |(k,a)::r=>by rw[jJ,show(n==(k:Int))=false from ajE.2 (by omega),Xi,Fv n h r]
def Ut(m:Mc)(i:Nat)(hi:i<=m.ce.length)(l:List Re):(l.length==1&&EY m i l)=(l.length==1&&((l.all λr=>cg m r m.ce.length)&&AO m i l)):=by
 match l with
 |[]=>rfl
 |_::_::_=>rfl
 |[r] =>
  rw[EY,AO,aof,apt,aos];refine anL _ ?_;cases hc:r.c with
  |false =>grind [cg]
  |true =>
   rw[adG]
   grind [cg]
def YT(ns:List Fn)(v:Nat):qL ns (v:Int)=(ns.map (·.par)).getD v []:=by rw[qL,anE,List.getD_eq_getElem?_getD,aiE];cases ns[v]?<;>rfl
def aax(m:Mc)(mp:List (Nat×af))(ns:List Fn)(hm:∀ v,gM mp v=(ns.map (·.par)).getD v [])(hp:∀ y∈ns,y.par=[]\/bM y.par=2)(h0:bM []≠2)(i:Nat)(c:Ce)(hi:i<=m.ce.length):yB m mp i c=KV m ns i c:=by
 unfold yB KV;cases k1:c.k==1 with
 |true =>simp only[ge,On];rw[Gu m i hi];cases (c.con==[44]||bM c.con==3)<;>cases decide ((c.refs.length:Int)<=16)<;>cases c.n==0<;>cases c.nx==-1<;>cases (c.refs.all λr=>cg m r m.ce.length)<;>cases (c.refs.all λr=>!(r.c&&decide (r.n>=(i:Int))))<;>rfl
 |false =>
  simp only[Xi];cases k2:c.k==2 with
  |true =>
   simp only[ge];rw[Gb m c.nx i hi];by_cases hr:c.refs=[]
   .rw[hr];simp only[apt,adG,anR];by_cases s:c.n<0
    .rw[Fv c.n s,acz (show ¬ c.n>=0 by omega)];rfl
    .obtain⟨v,t⟩:=anW (show 0<=c.n by omega);rw[acv (show c.n>=0 by omega),adG,t];have f:=hm v;rw[<- YT]at f;unfold gM at f;by_cases g:v<ns.length
     .rw[acv (show((v:Nat):Int)<(ns.length:Int)by omega),adG];have hy:ns[v]? = some ns[v]:=abI g;have o:qL ns (v:Int)=ns[v].par:=by rw[qL,anE,hy]
      have h:=hp _ (aoP g);rw[<- o]at h;generalize qL ns (v:Int)=P at *;cases j:jJ mp (v:Int)with
      |none =>
       rw[j]at f;simp only[Option.getD_none]at f;subst f;by_cases e:c.con=[]
       .rw[e];rfl
       .rw[show(([]:af)==c.con)=false from ajE.2 (λq=>e q.symm)];simp
      |some a =>
       rw[j]at f;simp only[aor]at f;subst f;simp only;by_cases e:a=c.con
       .subst e;rcases h with e|e
        .rw[e,ajE.2 h0];rfl
        .have p:c.con≠[]:=by intro q;rw[q]at e;exact h0 e
         rw[e,ajE.2 p];rfl
       .rw[ajE.2 e];simp
     .have u:qL ns (v:Int)=[]:=by rw[qL,anE,aoF (by omega)]
      rw[acz (show ¬((v:Nat):Int)<(ns.length:Int)by omega)];cases j:jJ mp (v:Int)with
      |none=>rfl
      |some a =>
       rw[j,u]at f;simp only[aor]at f;subst f;simp only;by_cases e:c.con=[]
       .rw[e,ajE.2 h0];rfl
       .rw[show(([]:af)==c.con)=false from ajE.2 (λq=>e q.symm)];simp
   .have hl:((c.refs.length:Int)==0)=false:=ajE.2 (by have:=List.length_pos_iff.2 hr;omega)
    rw[hl];cases jJ mp c.n<;>simp
  |false =>
   simp only[Xi];cases k3:c.k==3 with
   |false=>simp
   |true =>
    simp only[ge];have w:=Ut m i hi c.refs;have hl:((c.refs.length:Int)==1)=(c.refs.length==1):=by rw[ajF];simp;omega
    rw[hl,Gb m c.nx i hi,show(!decide (c.nx>=(i:Int)))=decide (c.nx<(i:Int))by rw[<- decide_not];exact aoI.2 (by omega)];revert w;cases bM c.con==2<;>cases c.n==0<;>cases c.refs.length==1<;>cases eM m c.nx m.ce.length<;>cases decide (c.nx<(i:Int))<;>cases EY m i c.refs<;>cases AO m i c.refs<;>cases (c.refs.all λr=>cg m r m.ce.length)<;>simp
def Ed(y:af):Prop:=y=[]\/bM y=2
mutual
def Ph:∀(e:Ex) (p:af),gL bM e=true->Ed p->∀ y∈qu p e,Ed y
 |.mk k m n a xs ps,p,h,hp=>by
  simp only[gL,abk]at h;obtain⟨f,_,_,h2⟩:=h;have g:Ed (if k=5\/k=7 then a else []):=by
   split
   .rename_i hk;right
    grind [nG]
   .exact .inl rfl
  intro y hy;rw[qu,afS]at hy;rcases hy with rfl|hy
  .exact hp
  .exact Jp xs _ f g y hy
def Jp:∀(l:List Ex) (a:af),iv bM l=true->Ed a->∀ y∈kx a l,Ed y
 |[],_,_,_,y,hy=>by cases hy
 |x::r,a,h,e,y,hy=>by
  simp only[iv,abk]at h;rw[kx,ajK]at hy;rcases hy with hy|hy
  .exact Ph x a h.1 e y hy
  .exact Jp r [] h.2 (.inl rfl) y hy
end
def aaG(x:Bd):Prop:=Ed x.par/\gL bM x.e=true
def Lm:∀(l:List Bd) (R:Rf),(∀ x∈l,aaG x)->(∀ y∈R.ns,Ed y.par)->∀ y∈(R.addXs l).ns,Ed y.par
 |[],_,_,h=>h
 |x::r,R,hl,h=>by
  rw[Rf.addXs];refine Lm r _ (λx g=>hl x (acl _ g)) ?_;have hb:=hl x adN;have f:((R.addH x).addB x).ns=R.ns++eE (x.i:Nat) (x.j:Nat) x.fn [] x.par x.e:=by grind [ID,Rf.addB]
  rw[f];intro y hy;rcases ajK.1 hy with hy|hy
  .exact h y hy
  .refine Ph x.e x.par hb.2 hb.1 y.par ?_
   grind [tY]
theorem QT(i:Nat):∀(l:List Fu) (k:Nat),(∀ f∈l,nu bM f=true)->∀ x∈qA i k l,aaG x
 |[],_,_,x,e=>by cases e
 |f::r,k,h,x,e=>by
  rw[qA,afS]at e;rcases e with rfl|e
  .have:=h f adN;simp only[nu,abk,apG]at this;exact⟨.inr this.2.1,this.2.2⟩
  .exact QT i r (k+1) (λf g=>h f (acl _ g)) x e
theorem afN(i:Nat)(d:De)(h:fp bM d=true):∀ x∈Ix i d,aaG x:=by
 unfold Ix;by_cases g:d.k=3
 .grind [fp,QT]
 .rw[ajD g];by_cases e:d.k=4\/d.k=5
  .rw[akJ e];intro x f;rw[aov]at f;subst f;rcases e with e|e<;>simp[fp,e]at h<;>exact⟨.inl rfl,h.2.2.2.1⟩
  grind
def QU:∀(l:List De) (i:Nat),l.all (fp bM)=true->∀ x∈jE i l,aaG x
 |[],_,_,x,e=>by cases e
 |d::r,i,h,x,e=>by
  rw[aof,abk]at h;rw[jE,ajK]at e;rcases e with e|e
  .grind [afN]
  .exact QU r (i+1) h.2 x e
def RY:bM []=0:=gi (.inl rfl)
def KT(m:Mc)(mp:List (Nat×af))(ns:List Fn)(hm:∀ v,gM mp v=(ns.map (·.par)).getD v [])(hp:∀ y∈ns,Ed y.par):∀(l:List Ce) (i:Nat),i+l.length<=m.ce.length->lR m mp l i=pK m ns l i
 |[],_,_=>rfl
 |c::r,i,h=>by rw[aga]at h;rw[lR,pK,aax m mp ns hm hp (by rw[RY];decide) i c (by omega),KT m mp ns hm hp r (i+1) (by omega)]
def adf(l:List De):(AM l).ds=l:=uy (jE 0 l) (⟨l,[],[],[],[],[]⟩:Rf)
def TI(m:Mc)(l:List De)(h:cW bM l=0):ku m (eL l)=GI m (AM l):=by
 have hr:=rel l;have g:=acL l (tp h).1;have hp:∀ y∈(AM l).ns,Ed y.par:=Lm (jE 0 l) (⟨l,[],[],[],[],[]⟩:Rf) (QU l 0 (sr h).2.2.2) (λy hy=>by cases hy);have f:(eL l).rs.length=(AM l).rs.length:=by
  have:=anL List.length hr.r
  grind
 have i:(eL l).ns.map (·.e)=(AM l).ns.map (·.e):=by have:=anL (List.map Prod.fst) hr.e;simpa[List.map_map,Function.comp_def,nE,zE]using this
 have j:EK m (eL l)=IT m (AM l):=by have hk:=anL (List.take m.bo.toNat) hr.r;rw[<- aoJ,<- aoJ,<- aoJ]at hk;obtain⟨a,b⟩:=Vb _ _ _ hk;rw[EK,IT,a,b,hr.ds]
 rw[ku,GI,Ar,Wu _ _ _ hr.c,KT m _ _ g hp m.ce 0 (by omega),j,i,hr.len,f]
 grind
def Vv{β:Type}(f:Bo->β)(bs:List Bo):∀(l:af) (M:List β),l.map (lk f bs)=M.map some->∀ c∈l,c<bs.length
 |[],_,_,c,hc=>by cases hc
 |_::_,[],h,_,_=>by simp at h
 |c::l,v::M,h,x,e=>by
  simp only[ads,aou]at h;rcases afS.1 e with rfl|e
  .have g:=h.1;unfold lk at g;cases q:bs[x]? with
   |none=>rw[q]at g;cases g
   |some y=>exact(acy.1 q).1
  .exact Vv f bs l M h.2 x e
def Gy:∀(l:List Bd) (R:Rf),(R.addXs l).fs.length+(R.addXs l).rs.length=R.fs.length+R.rs.length+l.length
 |[],_=>rfl
 |x::r,R=>by
  rw[Rf.addXs,Gy r,aga]
  grind [Rf.addB,Rf.addH]
mutual
theorem abZ(d f:Int)(fn:Bool):∀(e:Ex) (p par:af),e.ok->∀ y∈eE d f fn p par e,y.e.ok
 |.mk k m n a xs ps,p,par,h,y,hy=>by
  rw[eE,afS]at hy;rcases hy with rfl|hy
  .exact h
  .rw[Ex.ok]at h;exact Ww d f fn xs p k a 0 (by simp_all) y hy
theorem Ww(d f:Int)(fn:Bool):∀(l:List Ex) (p:af) (k:Int) (a:af) (i:Nat),Ex.oks l->∀ y∈dT d f fn p k a i l,y.e.ok
 |[],_,_,_,_,_,y,hy=>by simp[dT]at hy
 |x::r,p,k,a,i,h,y,hy=>by
  rw[Ex.oks]at h;rw[dT,ajK]at hy;rcases hy with hy|hy
  .exact abZ d f fn x _ _ h.1 y hy
  .exact Ww d f fn r p k a (i+1) h.2 y hy
end
def Gx:∀(l:List Bd) (R:Rf),(∀ x∈l,x.e.ok)->(∀ y∈R.ns,y.e.ok)->∀ y∈(R.addXs l).ns,y.e.ok
 |[],_,_,h=>h
 |x::r,R,hl,h=>by
  rw[Rf.addXs];refine Gx r _ (λx f=>hl x (acl _ f)) ?_
  grind [ID,Rf.addB,abZ]
def OP(l:List De)(h:cW bM l=0):afR (AM l):=by have e:=Gy (jE 0 l) (⟨l,[],[],[],[],[]⟩:Rf);have h2:=(tp h).2.2;rw[kO]at e;simp only[anR,anP,afY]at e;have h3:(AM l).fs.length+(AM l).rs.length=mi l:=e;have h4:=(sr h).2.1;exact⟨by rw[adf];omega,by omega,by omega⟩
def Pe(l:List De)(ho:∀ x∈l,x.ok)(h:cW bM l=0):SV (eL l):=by
 have hr:=rel l;have ro:=OP l h;have f:(eL l).rs.length=(AM l).rs.length:=by
  have:=anL List.length hr.r
  grind
 have g:(eL l).cs.length=(AM l).fs.length:=by
  have:=anL List.length hr.c
  grind
 refine⟨by rw[hr.ds];exact ro.ds,by rw[f];exact ro.rs,by rw[g];exact ro.fs,Vv _ _ _ _ hr.r,Vv _ _ _ _ hr.c,λx i=>?_⟩;have hm:nE x∈(AM l).ns.map zE:=by rw[<- hr.e];exact anT.2 ⟨x,i,rfl⟩
 obtain⟨z,j,e⟩:=anT.1 hm;have k:z.e=x.e:=anL Prod.fst e;rw[<- k];exact Gx (jE 0 l) (⟨l,[],[],[],[],[]⟩:Rf) (λx i=>(Dy l 0 ho x i).2) (λy hy=>by cases hy) z j
def Dj(l:List De)(m:Mc):Int:=bif cW bM l != 0 then cW bM l else bif ku m (eL l)then 0 else 70
def aiA(H:DH)(st:Nat)(G:Pg):∃ X,Fz (PX H st G []) H.length G=H++X :=
 ⟨(PL H.length st G).set 3 (.buf 1 false false (nC G.rs)),by rw[Fz,PX,ajH,ajA _ _ (by omega),show H.length+3 - H.length=3 by omega]⟩
def ND(m:Mc)(mo:zh m)(l:List De)(hl:l.length<2^61)(ho:∀ x∈l,x.ok)(H:DH):∃ X,aq 37 [.agg [.row 14 (l.map bG)],.agg (bh m)] H=ret (.tuple [bif cW bM l != 0 then .nilptr else .ptr (H.length+5) 0,.i (Dj l m)]) (H++X)/\(cW bM l=0->fZ (H++X) H.length (eL l)):=by
 obtain⟨st,h⟩:=adq l hl ho H;unfold Dj;by_cases e:cW bM l=0
 .rw[e]at h ⊢;simp only[akI,Xi]at h ⊢;obtain⟨H',f,g⟩:=Ym m mo (PX H st (eL l) []) (adm H st (eL l)) (Pe l ho e);have j:∃ X,H'=H++X/\fZ H' H.length (eL l):=by
   rcases g with rfl|rfl
   .exact⟨PL H.length st (eL l),by rw[PX,ajH],adm H st (eL l)⟩
   simp_all[aiA,ZO,adm]
  obtain⟨X,rfl,k⟩:=j;refine⟨X,ev (f37) ?_,λ_=>k⟩;simp only[am h,dU,ai,aw,aZ,ao,apw,ge,am f,aK]
  grind
 .have hb:(cW bM l != 0)=true:=by rw[bne,ajE.2 e];rfl
  rw[hb,ge]at h;refine⟨[],ev (f37) ?_,λq=>(e q).elim⟩
  grind [am,dU,ai,aw,aZ,ao]
theorem acm(m:Mc)(mo:zh m)(l:List De)(hl:l.length<2^61)(ho:∀ x∈l,x.ok)(hc:∀ H,aq 35 [.agg [.row 14 (l.map bG)]] H=ret (.i (cW bM l)) H)(H:DH):aq 25 [.agg [.row 14 (l.map bG)],.agg (bh m)] H=ret (.i (Dj l m)) H:=by
 refine ev (f25) ?_;unfold Dj;rw[am (hc H),aZ,ao];by_cases e:cW bM l=0
 .obtain⟨g,j,k⟩:=tp e;obtain⟨st,h⟩:=ahk l hl ho (λd n=>(g d n).fl) j k H;have f:=Yl m mo (RX H st (AM l)) (akh H st (AM l)) (OP l e);rw[<- TI m l e]at f;rw[e];simp only[apw,ge,akI,Xi,aH h,aH f,aK,ao];cases ku m (eL l)<;>exact lK (by trivial)
 .have hb:(cW bM l != 0)=true:=by rw[bne,ajE.2 e];rfl
  rw[hb,ajE.2 e,Xi,ge];have:=lK (H:=H) (X:=[]) (d:=.i (cW bM l)) (by trivial)
  grind
end Go.Proofs.YtpghiabjaglpgaaGreatDoor
namespace Go.Proofs.YtpghiabjaglpgaaGreatDoor.Rd
open Go.AI Go.Proofs Go.Proofs.YtpghiabjaglpgaaGreatDoor
def ahV:uH 109=[.bool,.int]:=by kernel_rfl
def ahZ:uH 38=[.int,.int,.sl 109]:=by kernel_rfl
def aid:uH 39=[.int,.str,.int,.sl 109,.int]:=by kernel_rfl
def ahT:uH 40=[.str,.bool,.int]:=by kernel_rfl
def ahX:uH 41=[.str,.str,.int,.sl 70]:=by kernel_rfl
def ahR:uH 70=[.str,.int,.sl 70]:=by kernel_rfl
def GP{d:D}(h:zf .bool d):∃ b,d=.bool b:=by cases h;exact⟨_,rfl⟩
def abE{d:D}(h:zf (.sl 109) d):∃ xs:List Re,d=.row 2 (xs.map cL)/\xs.length<2^61:=by
 obtain⟨l,rfl,hl,e⟩:=mO h;rw[ahV]at e ⊢;obtain⟨xs,rfl,_⟩:=pick (f:=cL) (p:=λ_=>True) (l:=l) λcs hc=>by obtain⟨a,r,rfl,g,h⟩:=aM (e cs hc);obtain⟨b,r,rfl,i,h⟩:=aM h;cases gK h;obtain⟨x,rfl⟩:=GP g;obtain⟨n,rfl⟩:=dQ i;exact⟨⟨x,n⟩,rfl,trivial⟩
 grind
def ahg{d:D}(h:zf (.sl 38) d):∃ xs:List Fm,d=.row 3 (xs.map eg)/\xs.length<2^61/\∀ x∈xs,x.dn.length<2^61:=by
 obtain⟨l,rfl,hl,e⟩:=mO h;rw[ahZ]at e ⊢;obtain⟨xs,rfl,hx⟩:=pick (f:=eg) (p:=λx=>x.dn.length<2^61) (l:=l) λcs hc=>by obtain⟨a,r,rfl,i,h⟩:=aM (e cs hc);obtain⟨b,r,rfl,j,h⟩:=aM h;obtain⟨c,r,rfl,k,h⟩:=aM h;cases gK h;obtain⟨x,rfl⟩:=dQ i;obtain⟨n,rfl⟩:=dQ j;obtain⟨rs,rfl,g⟩:=abE k;exact⟨⟨x,n,rs⟩,rfl,g⟩
 grind
def ahj{d:D}(h:zf (.sl 39) d):∃ xs:List Ce,d=.row 5 (xs.map dw)/\xs.length<2^61/\∀ x∈xs,x.refs.length<2^61:=by
 obtain⟨l,rfl,hl,i⟩:=mO h;rw[aid]at i ⊢;obtain⟨xs,rfl,j⟩:=pick (f:=dw) (p:=λx=>x.refs.length<2^61) (l:=l) λcs hc=>by obtain⟨a,r,rfl,o,h⟩:=aM (i cs hc);obtain⟨b,r,rfl,q,h⟩:=aM h;obtain⟨c,r,rfl,t,h⟩:=aM h;obtain⟨d,r,rfl,u,h⟩:=aM h;obtain⟨e,r,rfl,v,h⟩:=aM h;cases gK h;obtain⟨k,rfl⟩:=dQ o;obtain⟨s,rfl⟩:=eJ q;obtain⟨n,rfl⟩:=dQ t;obtain⟨rs,rfl,g⟩:=abE u;obtain⟨x,rfl⟩:=dQ v;exact⟨⟨k,s,n,rs,x⟩,rfl,g⟩
 exact⟨xs,rfl,by rw[abh]at hl;omega,j⟩
def ahb{d:D}(h:zf (.sl 40) d):∃ xs:List To,d=.row 3 (xs.map eX)/\xs.length<2^61:=by
 obtain⟨l,rfl,hl,e⟩:=mO h;rw[ahT]at e ⊢;obtain⟨xs,rfl,_⟩:=pick (f:=eX) (p:=λ_=>True) (l:=l) λcs hc=>by obtain⟨a,r,rfl,g,h⟩:=aM (e cs hc);obtain⟨b,r,rfl,i,h⟩:=aM h;obtain⟨c,r,rfl,j,h⟩:=aM h;cases gK h;obtain⟨s,rfl⟩:=eJ g;obtain⟨x,rfl⟩:=GP i;obtain⟨n,rfl⟩:=dQ j;exact⟨⟨s,⟨x,n⟩⟩,rfl,trivial⟩
 grind
def acA{l:List Va}:(∀ x∈l,x.ok)->Va.oks l:=by
 induction l with
 |nil=>intro _;rw[Va.oks];trivial
 |cons v r ih =>grind [Va.oks]
def aha{k:Ck}{d:D}(h:zf k d):k=.sl 70->∃ xs,d=.row 3 (ff xs)/\xs.length<2^61/\Va.oks xs:=by
 induction h with
 |row t ly l g hl i j ih =>
  intro e;cases e;rw[ahR]at g;subst g;obtain⟨xs,rfl,o⟩:=pick (f:=kU) (p:=Va.ok) (l:=l) λcs hc=>by obtain⟨a,r,rfl,q,h⟩:=aM (⟨i cs hc,j cs hc⟩:IG [.str,.int,.sl 70] cs);obtain⟨b,r,rfl,u,h⟩:=aM h;obtain⟨c,r,rfl,h3,h⟩:=aM h;cases gK h;obtain⟨s,rfl⟩:=eJ q;obtain⟨n,rfl⟩:=dQ u;obtain⟨xs,rfl,v⟩:=ih _ hc 2 _ c rfl rfl rfl;exact⟨.mk s n xs,by rw[kU],by rw[Va.ok];exact v⟩
  refine⟨xs,by rw[oz];rfl,?_,acA o⟩
  grind
 |_=>intro e;cases e
def ahd{d:D}(h:zf (.sl 41) d):∃ xs:List Nv,d=.row 4 (xs.map gR)/\xs.length<2^61/\∀ x∈xs,x.v.ok:=by
 obtain⟨l,rfl,hl,e⟩:=mO h;rw[ahX]at e ⊢;obtain⟨xs,rfl,hx⟩:=pick (f:=gR) (p:=λx=>x.v.ok) (l:=l) λcs hc=>by obtain⟨a,r,rfl,i,h⟩:=aM (e cs hc);obtain⟨b,r,rfl,j,h⟩:=aM h;obtain⟨c,r,rfl,k,h⟩:=aM h;obtain⟨d,r,rfl,o,h⟩:=aM h;cases gK h;obtain⟨s,rfl⟩:=eJ i;obtain⟨t,rfl⟩:=eJ j;obtain⟨n,rfl⟩:=dQ k;obtain⟨xs,rfl,g⟩:=aha o rfl;exact⟨⟨s,.mk t n xs⟩,rfl,by rw[Va.ok];exact g⟩
 grind
def ahe{ds:List D}(h:IG [.int,.int,.int,.bool,.int,.sl 38,.sl 39,.sl 40,.int,.sl 41,.int] ds):∃ m:Mc,ds=bh m/\zh m:=by obtain⟨a0,r,rfl,h0,h⟩:=aM h;obtain⟨a1,r,rfl,e,h⟩:=aM h;obtain⟨a2,r,rfl,f,h⟩:=aM h;obtain⟨a3,r,rfl,g,h⟩:=aM h;obtain⟨a4,r,rfl,i,h⟩:=aM h;obtain⟨a5,r,rfl,j,h⟩:=aM h;obtain⟨a6,r,rfl,k,h⟩:=aM h;obtain⟨a7,r,rfl,n,h⟩:=aM h;obtain⟨a8,r,rfl,o,h⟩:=aM h;obtain⟨a9,r,rfl,p,h⟩:=aM h;obtain⟨aa,r,rfl,q,h⟩:=aM h;cases gK h;obtain⟨n0,rfl⟩:=dQ h0;obtain⟨n1,rfl⟩:=dQ e;obtain⟨n2,rfl⟩:=dQ f;obtain⟨b3,rfl⟩:=GP g;obtain⟨n4,rfl⟩:=dQ i;obtain⟨fr,rfl,s,f2⟩:=ahg j;obtain⟨ce,rfl,c1,c2⟩:=ahj k;obtain⟨to,rfl,t⟩:=ahb n;obtain⟨u,rfl⟩:=dQ o;obtain⟨ou,rfl,o1,v⟩:=ahd p;obtain⟨na,rfl⟩:=dQ q;exact⟨⟨n0,n1,n2,b3,n4,fr,ce,to,u,ou,na⟩,rfl,⟨c1,c2,t,o1,v,s,f2⟩⟩
end Go.Proofs.YtpghiabjaglpgaaGreatDoor.Rd
namespace Go.Proofs.YtpghiabjaglpgaaGreatDoor
open Go.AI
section
def f8{R:aJ}{a:aQ}{j:Mc}{H:DH}:az R 8 [.agg [.row 14 a],.agg (bh j)] H =
 C R 9 [] H λb H=>C R 26 [.agg [.row 14 a],.agg (bh j)] H λc H=>fI c 0 λd=>fI c 1 λc=>C R 27 [.agg [.row 14 a],.agg (bh j)] H λe H=>fI e 0 λf=>fI e 1 λe=>C R 28 [.agg [.row 14 a],.agg (bh j)] H λg H=>fI g 0 λh=>fI g 1 λg=>aj 11 h λh=>aC [.i 0,.i 0,.i 0,.bool false,.i 0,.nilrow,.nilrow,.nilrow,.i 0,.nilrow,.i 0] 0 h λh=>C R 29 [.agg [.row 14 a],.agg (bh j)] H λa H=>fI a 0 λi=>fI a 1 λa=>aj 11 i λi=>aC [.i 0,.i 0,.i 0,.bool false,.i 0,.nilrow,.nilrow,.nilrow,.i 0,.nilrow,.i 0] 0 i λi=>aA ab .neq 29 false c e λc=>brD c (ret (.bool false) H) (aA ab .neq 29 false g a λa=>brD a (ret (.bool false) H) (aP ab 60 d H λa=>aP ab 60 f H λc=>aA ab .neq 3 false a c λa=>brD a (ret (.bool false) H) (ac R 8 200009 [.g b,.g d,.g f,.lp 2 0,.lp 3 0,.n 0] [(0,[]),(0,[]),(0,h),(0,i)] H))):=by kernel_rfl
def vL{R:aJ}{y:Bool}{v6 z:D}{a:Int}{w x:List D}{H:DH}:aF R 8 200009 [.g (.bool y),.g v6,.g z,.lp 2 0,.lp 3 0,.n a] [(0,[]),(0,[]),(0,w),(0,x)] H =
 aP ab 60 v6 H λb=>aA ab .lss 3 false (.i a) b λb=>brD b (ay ab 60 v6 (.i a) λb=>bJ ab 4 b H λb=>ay ab 60 z (.i a) λc=>bJ ab 4 c H λc=>aA ab .neq 4 false b c λb=>brD b (ret (.bool false) H) (ac R 8 200009 [.g (.bool y),.g v6,.g z,.lp 2 0,.lp 3 0,.n (bm (a+1))] [(0,[]),(0,[]),(0,w),(0,x)] H)) (cond y (ah w 0 λa=>ah w 1 λb=>ah w 2 λc=>ah w 3 λd=>ah w 4 λe=>ah w 5 λf=>ah w 6 λg=>ah w 7 λh=>ah w 8 λi=>ah w 9 λj=>ah w 10 λk=>ah x 0 λl=>ah x 1 λm=>ah x 2 λn=>ah x 3 λo=>ah x 4 λp=>ah x 5 λq=>ah x 6 λr=>ah x 7 λs=>ah x 8 λt=>ah x 9 λu=>ah x 10 λv=>C R 17 [.agg [a,b,c,d,e,f,g,h,i,j,k],.agg [l,m,n,o,p,q,r,s,t,u,v]] H λa H=>ret a H) (ret (.bool false) H)):=by kernel_rfl
def f26{R:aJ}{a:aQ}{e:Mc}{H:DH}:az R 26 [.agg [.row 14 a],.agg (bh e)] H =
 C R 37 [.agg [.row 14 a],.agg (bh e)] H λa H=>fI a 0 λb=>fI a 1 λa=>aA ab .neq 29 true a (.i 0) λc=>brD c (ret (.tuple [.nilrow,a]) H) (C R 52 [b,.agg (bh e)] H λa H=>ret (.tuple [a,.i 0]) H):=by kernel_rfl
def f27{R:aJ}{a:aQ}{e:Mc}{H:DH}:az R 27 [.agg [.row 14 a],.agg (bh e)] H =
 C R 25 [.agg [.row 14 a],.agg (bh e)] H λb H=>aA ab .neq 29 true b (.i 0) λc=>brD c (ret (.tuple [.nilrow,b]) H) (bg ((e.ce.map dw).length:Int) λb=>boK (Nat.ble b 2199023255552&&fg ab 4 b) (let c:=H++[.buf 1 true true (List.replicate b [.bool false])];ac R 27 200006 [.lp 0 0,.lp 1 0,.g (.buf 1 H.length b),.n 0] [(0,[.row 14 a]),(0,(bh e))] c)):=by kernel_rfl
def CN{R:aJ}{a b:Nat}{k:Int}{c:aQ}{j:Mc}{H:DH}:aF R 27 200006 [.lp 0 0,.lp 1 0,.g (.buf 1 a b),.n k] [(0,[.row 14 c]),(0,(bh j))] H =
 C R 36 [.agg [.row 14 c]] H λd H=>vR d λd=>bI d 2 λd=>bJ ab 39 d H λd=>aP ab 39 d H λd=>aA ab .lss 3 false (.i k) d λd=>brD d (bg k λd=>boK (Nat.blt d b) (cH H a b λe f g h=>boK f (aX h d λi=>aC i 0 [.bool true] λi=>let H:=H.set a (.buf e f g (h.set d i));ac R 27 200006 [.lp 0 0,.lp 1 0,.g (.buf 1 a b),.n (bm (k+1))] [(0,[.row 14 c]),(0,(bh j))] H))) (C R 53 [.agg (bh j),.row 2 [[.bool j.vc,.i j.vn]],.buf 1 a b] H λ_ H=>C R 54 [.agg (bh j),.i j.en,.buf 1 a b] H λ_ H=>ac R 27 200012 [.lp 1 0,.g (.buf 1 a b),.n 0] [(0,[]),(0,(bh j))] H):=by kernel_rfl
def CM{R:aJ}{a b:Nat}{f:Int}{e:Mc}{H:DH}:aF R 27 200012 [.lp 1 0,.g (.buf 1 a b),.n f] [(0,[]),(0,(bh e))] H =
 cond (decide (f<((e.to.map eX).length:Int))) (bg f λc=>aX (e.to.map eX) c λc=>ah c 1 λd=>ah c 2 λc=>bd (R (.call 53 [.agg (bh e),.row 2 [[d,c]],.buf 1 a b] none) H) (λ_ H=>ac R 27 200012 [.lp 1 0,.g (.buf 1 a b),.n (bm (f+1))] [(0,[]),(0,(bh e))] H) λ_ _=>none) (ac R 27 200016 [.lp 1 0,.g (.buf 1 a b),.n 0] [(0,[]),(0,(bh e))] H):=by kernel_rfl
def CL{R:aJ}{a b:Nat}{c:Int}{e:Mc}{H:DH}:aF R 27 200016 [.lp 1 0,.g (.buf 1 a b),.n c] [(0,[]),(0,(bh e))] H =
 cond (decide (c<((e.fr.map eg).length:Int))) (bg c λd=>aX (e.fr.map eg) d λd=>ah d 1 λd=>bd (R (.call 54 [.agg (bh e),d,.buf 1 a b] none) H) (λ_ H=>bg c λd=>aX (e.fr.map eg) d λd=>ah d 2 λd=>bd (R (.call 53 [.agg (bh e),d,.buf 1 a b] none) H) (λ_ H=>ac R 27 200016 [.lp 1 0,.g (.buf 1 a b),.n (bm (c+1))] [(0,[]),(0,(bh e))] H) λ_ _=>none) λ_ _=>none) (ret (.tuple [.buf 1 a b,.i 0]) H):=by kernel_rfl
def f29{R:aJ}{a:aQ}{e:Mc}{H:DH}:az R 29 [.agg [.row 14 a],.agg (bh e)] H =
 C R 27 [.agg [.row 14 a],.agg (bh e)] H λa H=>fI a 0 λb=>fI a 1 λa=>aA ab .neq 29 true a (.i 0) λc=>brD c (ret (.tuple [.agg [.i 0,.i 0,.i 0,.bool false,.i 0,.nilrow,.nilrow,.nilrow,.i 0,.nilrow,.i 0],a]) H) (aP ab 60 b H λa=>szK a λa=>bg a λa=>boK (Nat.ble a 2199023255552&&fg ab 3 a) (let c:=H++[.buf 1 true true (List.replicate a [.i 0])];ac R 29 200007 [.lp 1 0,.lp 2 0,.g b,.g (.buf 1 H.length a),.n 0,.n 0] [(0,[]),(0,(bh e)),(0,[.i 0,.i 0,.i 0,.bool false,.i 0,.nilrow,.nilrow,.nilrow,.i 0,.nilrow,.i 0])] c)):=by kernel_rfl
def CH{R:aJ}{v6:D}{a b:Nat}{v c:Int}{u:Mc}{e h j:Int}{k:Bool}{l:Int}{m p q:D}{r:Int}{s:D}{t:Int}{H:DH}:aF R 29 200007 [.lp 1 0,.lp 2 0,.g v6,.g (.buf 1 a b),.n v,.n c] [(0,[]),(0,(bh u)),(0,xM e h j k l m p q r s t)] H =
 aP ab 60 v6 H λd=>aA ab .lss 3 false (.i c) d λd=>brD d (bg c λd=>boK (Nat.blt d b) (cH H a b λf g i n=>boK g (aX n d λo=>aC o 0 [.i v] λo=>let H:=H.set a (.buf f g i (n.set d o));ay ab 60 v6 (.i c) λd=>bJ ab 4 d H λd=>brD d (ac R 29 200007 [.lp 1 0,.lp 2 0,.g v6,.g (.buf 1 a b),.n (bm (v+1)),.n (bm (c+1))] [(0,[]),(0,(bh u)),(0,xM e h j k l m p q r s t)] H) (ac R 29 200007 [.lp 1 0,.lp 2 0,.g v6,.g (.buf 1 a b),.n v,.n (bm (c+1))] [(0,[]),(0,(bh u)),(0,xM e h j k l m p q r s t)] H)))) (ac R 29 200015 [.lp 1 0,.lp 2 0,.g v6,.g (.buf 1 a b),.lp 3 0,.n 0] [(0,[]),(0,(bh u)),(0,xM e h j k l m p q r s t),(0,(xM u.mo u.ex u.en u.vc u.vn (.row 3 (u.fr.map eg)) .nilrow (.row 3 (u.to.map eX)) u.bo (.row 4 (u.ou.map gR)) u.st))] H):=by kernel_rfl
def sf{R:aJ}{v6:D}{a b:Nat}{c:Int}{o:Mc}{e h j:Int}{k:Bool}{l:Int}{m p q:D}{r:Int}{s:D}{t u v w:Int}{x:Bool}{y:Int}{z:aQ}{A:D}{a22:aQ}{a23:Int}{a24:aQ}{a25:Int}{H:DH}:aF R 29 200015 [.lp 1 0,.lp 2 0,.g v6,.g (.buf 1 a b),.lp 3 0,.n c] [(0,[]),(0,(bh o)),(0,xM e h j k l m p q r s t),(0,(xM u v w x y (.row 3 z) A (.row 3 a22) a23 (.row 4 a24) a25))] H =
 aP ab 60 v6 H λd=>aA ab .lss 3 false (.i c) d λd=>brD d (ay ab 60 v6 (.i c) λd=>bJ ab 4 d H λd=>brD d (bg c λd=>aX (o.ce.map dw) d λd=>ah d 0 λf=>ah d 1 λg=>ah d 2 λi=>ah d 3 λn=>ah d 4 λd=>bd (R (.call 57 [n,.buf 1 a b] none) H) (λn H=>bd (R (.call 58 [d,.buf 1 a b] none) H) (λd H=>aj 1 f λf=>aC [.i 0,.str [],.i 0,.nilrow,.i 0] 0 f λf=>aj 1 g λg=>aC f 1 g λf=>aj 1 i λg=>aC f 2 g λf=>aj 1 n λg=>aC f 3 g λf=>aj 1 d λd=>aC f 4 d λd=>aj 5 (.agg d) λd=>bQ (aG ab 115) 5 A [d] H λd H=>aj 1 d λd=>aC (xM u v w x y (.row 3 z) A (.row 3 a22) a23 (.row 4 a24) a25) 6 d λd=>ac R 29 200015 [.lp 1 0,.lp 2 0,.g v6,.g (.buf 1 a b),.lp 3 0,.n (bm (c+1))] [(0,[]),(0,(bh o)),(0,xM e h j k l m p q r s t),(0,d)] H) λ_ _=>none) λ_ _=>none) (ac R 29 200015 [.lp 1 0,.lp 2 0,.g v6,.g (.buf 1 a b),.lp 3 0,.n (bm (c+1))] [(0,[]),(0,(bh o)),(0,xM e h j k l m p q r s t),(0,(xM u v w x y (.row 3 z) A (.row 3 a22) a23 (.row 4 a24) a25))] H)) (C R 57 [.row 2 [[.bool o.vc,.i o.vn]],.buf 1 a b] H λc H=>ay ab 109 c (.i 0) λc=>bJ ab 37 c H λc=>aj 2 c λc=>aC (xM u v w x y (.row 3 z) A (.row 3 a22) a23 (.row 4 a24) a25) 3 c λc=>C R 58 [.i o.en,.buf 1 a b] H λd H=>aj 1 d λd=>aC c 2 d λc=>aC c 7 [.nilrow] λc=>ac R 29 200024 [.lp 1 0,.lp 2 0,.g (.buf 1 a b),.lp 3 0,.n 0] [(0,[]),(0,(bh o)),(0,xM e h j k l m p q r s t),(0,c)] H):=by kernel_rfl
def CG{R:aJ}{a b:Nat}{c:Int}{o:Mc}{e h j:Int}{k:Bool}{l:Int}{m p q:D}{r:Int}{s:D}{t:Int}{u:List D}{H:DH}:aF R 29 200024 [.lp 1 0,.lp 2 0,.g (.buf 1 a b),.lp 3 0,.n c] [(0,[]),(0,(bh o)),(0,xM e h j k l m p q r s t),(0,u)] H =
 cond (decide (c<((o.to.map eX).length:Int))) (bg c λd=>aX (o.to.map eX) d λd=>ah d 1 λf=>ah d 2 λd=>bd (R (.call 57 [.row 2 [[f,d]],.buf 1 a b] none) H) (λd H=>ah u 7 λf=>bg c λg=>aX (o.to.map eX) g λg=>ah g 0 λg=>ay ab 109 d (.i 0) λd=>bJ ab 37 d H λd=>aj 1 g λg=>aC [.str [],.bool false,.i 0] 0 g λg=>aj 2 d λd=>aC g 1 d λd=>aj 3 (.agg d) λd=>bQ (aG ab 117) 3 f [d] H λd H=>aj 1 d λd=>aC u 7 d λd=>ac R 29 200024 [.lp 1 0,.lp 2 0,.g (.buf 1 a b),.lp 3 0,.n (bm (c+1))] [(0,[]),(0,(bh o)),(0,xM e h j k l m p q r s t),(0,d)] H) λ_ _=>none) (aC u 5 [.nilrow] λc=>ac R 29 200029 [.lp 1 0,.lp 2 0,.g (.buf 1 a b),.lp 3 0,.n 0] [(0,[]),(0,(bh o)),(0,xM e h j k l m p q r s t),(0,c)] H):=by kernel_rfl
def CF{R:aJ}{a b:Nat}{c:Int}{u:Mc}{e h j:Int}{k:Bool}{l:Int}{m p q:D}{r:Int}{s:D}{t:Int}{o:List D}{H:DH}:aF R 29 200029 [.lp 1 0,.lp 2 0,.g (.buf 1 a b),.lp 3 0,.n c] [(0,[]),(0,(bh u)),(0,xM e h j k l m p q r s t),(0,o)] H =
 cond (decide (c<((u.fr.map eg).length:Int))) (bg c λd=>aX (u.fr.map eg) d λd=>ah d 0 λf=>ah d 1 λg=>ah d 2 λd=>bd (R (.call 58 [g,.buf 1 a b] none) H) (λg H=>bd (R (.call 57 [d,.buf 1 a b] none) H) (λd H=>ah o 5 λi=>aj 1 f λf=>aC [.i 0,.i 0,.nilrow] 0 f λf=>aj 1 g λg=>aC f 1 g λf=>aj 1 d λd=>aC f 2 d λd=>aj 3 (.agg d) λd=>bQ (aG ab 111) 3 i [d] H λd H=>aj 1 d λd=>aC o 5 d λd=>ac R 29 200029 [.lp 1 0,.lp 2 0,.g (.buf 1 a b),.lp 3 0,.n (bm (c+1))] [(0,[]),(0,(bh u)),(0,xM e h j k l m p q r s t),(0,d)] H) λ_ _=>none) λ_ _=>none) (ah o 0 λa=>ah o 1 λb=>ah o 2 λc=>ah o 3 λd=>ah o 4 λe=>ah o 5 λf=>ah o 6 λg=>ah o 7 λh=>ah o 8 λi=>ah o 9 λj=>ah o 10 λk=>ret (.tuple [.agg [a,b,c,d,e,f,g,h,i,j,k],.i 0]) H):=by kernel_rfl
def f42{R:aJ}{x y:D}{H:DH}:az R 42 [x,y] H =
 aP ab 41 x H λa=>aP ab 41 y H λb=>aA ab .neq 3 false a b λa=>brD a (ret (.bool false) H) (ac R 42 200004 [.g x,.g y,.n 0] [] H):=by kernel_rfl
def Cy{R:aJ}{f v1:D}{e:Int}{H:DH}:aF R 42 200004 [.g f,.g v1,.n e] [] H =
 aP ab 41 f H λa=>aA ab .lss 3 false (.i e) a λa=>brD a (ay ab 41 f (.i e) λa=>bI a 0 λa=>bJ ab 9 a H λa=>ay ab 41 v1 (.i e) λb=>bI b 0 λb=>bJ ab 9 b H λb=>aA ab .neq 9 false a b λa=>brD a (ret (.bool false) H) (ay ab 41 f (.i e) λa=>bI a 1 λa=>bJ ab 72 a H λa=>ay ab 41 v1 (.i e) λb=>bI b 1 λb=>bJ ab 72 b H λb=>bd (R (.call 91 [a,b] none) H) (λa H=>eD .not a λa=>brD a (ret (.bool false) H) (ac R 42 200004 [.g f,.g v1,.n (bm (e+1))] [] H)) λ_ _=>none)) (ret (.bool true) H):=by kernel_rfl
def f52{R:aJ}{h:Nat}{i:Mc}{H:DH}:az R 52 [.ptr h 0,.agg (bh i)] H =
 let a:=H++[.cells 0 (bh i)];aB a H.length λ_ b=>ah b 6 λb=>aP ab 39 b a λb=>szK b λb=>bg b λb=>boK (Nat.ble b 2199023255552&&fg ab 4 b) (let c:=a++[.buf 1 true true (List.replicate b [.bool false])];let d:=c++[.cells 0 [.nilrow]];aB d c.length λe f=>aC f 0 [.buf 1 a.length b] λa=>let a:=d.set c.length (.cells (e+1) a);let b:=a++[.cells 0 [.nilFunc]];let d:=b++[.cells 0 [.nilFunc]];aB d b.length λe f=>aC f 0 [.func 106 [] [.ptr a.length 0]] λf=>let d:=d.set b.length (.cells (e+1) f);aB d a.length λe f=>aC f 0 [.func 107 [] [.ptr c.length 0,.ptr H.length 0,.ptr b.length 0]] λf=>let d:=d.set a.length (.cells (e+1) f);aB d h λ_ e=>ah e 4 λe=>aP ab 25 e d λe=>ac R 52 200006 [.g (.ptr H.length 0),.g (.ptr c.length 0),.g (.ptr a.length 0),.g (.ptr b.length 0),.g e,.n 0] [] d):=by kernel_rfl
def Cu{R:aJ}{v3 h v6 f:Nat}{a b:Int}{H:DH}:aF R 52 200006 [.g (.ptr v3 0),.g (.ptr h 0),.g (.ptr v6 0),.g (.ptr f 0),.n a,.n b] [] H =
 cond (decide (b<a)) (aB H v6 λ_ c=>ah c 0 λc=>fH bF c λc d e=>C R c (d++([.i b]++e)) H λ_ H=>ac R 52 200006 [.g (.ptr v3 0),.g (.ptr h 0),.g (.ptr v6 0),.g (.ptr f 0),.n a,.n (bm (b+1))] [] H) (aB H f λ_ a=>ah a 0 λa=>aB H v3 λ_ b=>ah b 3 λc=>ah b 4 λb=>fH bF a λa d e=>C R a (d++([.agg [c,b]]++e)) H λ_ H=>aB H v6 λ_ a=>ah a 0 λa=>aB H v3 λ_ b=>ah b 2 λb=>fH bF a λa c d=>C R a (c++([b]++d)) H λ_ H=>aB H v3 λ_ a=>ah a 7 λa=>aP ab 40 a H λb=>ac R 52 200013 [.g (.ptr v3 0),.g (.ptr h 0),.g (.ptr v6 0),.g (.ptr f 0),.g a,.g b,.n 0] [] H):=by kernel_rfl
def Ct{R:aJ}{v3 k v6 j:Nat}{a:D}{b c:Int}{H:DH}:aF R 52 200013 [.g (.ptr v3 0),.g (.ptr k 0),.g (.ptr v6 0),.g (.ptr j 0),.g a,.n b,.n c] [] H =
 cond (decide (c<b)) (ay ab 40 a (.i c) λd=>bJ ab 117 d H λd=>aj 3 d λd=>aC [.str [],.bool false,.i 0] 0 d λd=>aB H j λ_ e=>ah e 0 λe=>ah d 1 λf=>ah d 2 λd=>fH bF e λe g h=>C R e (g++([.agg [f,d]]++h)) H λ_ H=>ac R 52 200013 [.g (.ptr v3 0),.g (.ptr k 0),.g (.ptr v6 0),.g (.ptr j 0),.g a,.n b,.n (bm (c+1))] [] H) (aB H v3 λ_ a=>ah a 5 λa=>aP ab 38 a H λb=>ac R 52 200018 [.g (.ptr k 0),.g (.ptr v6 0),.g (.ptr j 0),.g a,.g b,.n 0] [] H):=by kernel_rfl
def Cs{R:aJ}{j v6 k:Nat}{a:D}{b c:Int}{H:DH}:aF R 52 200018 [.g (.ptr j 0),.g (.ptr v6 0),.g (.ptr k 0),.g a,.n b,.n c] [] H =
 cond (decide (c<b)) (ay ab 38 a (.i c) λd=>bJ ab 111 d H λd=>aj 3 d λd=>aC [.i 0,.i 0,.nilrow] 0 d λd=>aB H v6 λ_ e=>ah e 0 λe=>ah d 1 λf=>fH bF e λe g h=>C R e (g++([f]++h)) H λ_ H=>ah d 2 λd=>aP ab 109 d H λe=>ac R 52 200022 [.g (.ptr j 0),.g (.ptr v6 0),.g (.ptr k 0),.g a,.n b,.n c,.g d,.g e,.n 0] [] H) (aB H j λ_ a=>ah a 0 λa=>ret a H):=by kernel_rfl
def Cr{R:aJ}{p v6 o:Nat}{a:D}{b c:Int}{e:D}{h j:Int}{H:DH}:aF R 52 200022 [.g (.ptr p 0),.g (.ptr v6 0),.g (.ptr o 0),.g a,.n b,.n c,.g e,.n h,.n j] [] H =
 cond (decide (j<h)) (ay ab 109 e (.i j) λd=>bJ ab 37 d H λd=>aj 2 d λd=>aC [.bool false,.i 0] 0 d λd=>aB H o λ_ f=>ah f 0 λf=>ah d 0 λg=>ah d 1 λd=>fH bF f λf i k=>C R f (i++([.agg [g,d]]++k)) H λ_ H=>ac R 52 200022 [.g (.ptr p 0),.g (.ptr v6 0),.g (.ptr o 0),.g a,.n b,.n c,.g e,.n h,.n (bm (j+1))] [] H) (ac R 52 200018 [.g (.ptr p 0),.g (.ptr v6 0),.g (.ptr o 0),.g a,.n b,.n (bm (c+1))] [] H):=by kernel_rfl
def f55{R:aJ}{a:Bool}{b:Int}{c:Nat}{H:DH}:az R 55 [.agg [.bool a,.i b],.ptr c 0] H =
 cond a (aB H c λ_ c=>ah c 0 λc=>ay ab 25 c (.i b) λc=>bJ ab 3 c H λc=>aj 1 c λc=>aC [.bool a,.i b] 1 c λa=>ah a 0 λb=>ah a 1 λa=>ret (.agg [b,a]) H) (ret (.agg [.bool a,.i b]) H):=by kernel_rfl
def f58{R:aJ}{e:Int}{lo ln:Nat}{H:DH}:az R 58 [.i e,.buf 1 lo ln] H =
 cond (decide (e<0)) (ret (.i e) H) (bg e λa=>boK (Nat.blt a ln) (cH H lo ln λ_ _ _ b=>aX b a λa=>ah a 0 λa=>ret a H)):=by kernel_rfl
def f76{R:aJ}{e:aQ}{H:DH}:az R 76 [.row 3 e] H =
 lN .eql e λa=>brD a (ret .nilrow H) (bQ (aG ab 111) 3 .nilrow e H λa H=>ret a H):=by kernel_rfl
def f78{R:aJ}{e:aQ}{H:DH}:az R 78 [.row 3 e] H =
 lN .eql e λa=>brD a (ret .nilrow H) (bQ (aG ab 117) 3 .nilrow e H λa H=>ret a H):=by kernel_rfl
def f80{R:aJ}{e:aQ}{H:DH}:az R 80 [.row 2 e] H =
 lN .eql e λa=>brD a (ret .nilrow H) (bQ (aG ab 37) 2 .nilrow e H λa H=>ret a H):=by kernel_rfl
def f91{R:aJ}{a:af}{b:Int}{c:aQ}{e:af}{h:Int}{j:aQ}{H:DH}:az R 91 [.agg (xV a b c),.agg (xV e h j)] H =
 cond (!(a==e)) (ret (.bool false) H) (cond (b != h) (ret (.bool false) H) (cond ((c.length:Int) !=(j.length:Int)) (ret (.bool false) H) (ac R 91 200004 [.lp 0 0,.lp 1 0,.n 0] [(0,xV a b c),(0,xV e h j)] H))):=by kernel_rfl
def Cb{R:aJ}{o:Int}{a:af}{b:Int}{c:aQ}{e:af}{h:Int}{j:aQ}{H:DH}:aF R 91 200004 [.lp 0 0,.lp 1 0,.n o] [(0,xV a b c),(0,xV e h j)] H =
 cond (decide (o<c.length)) (bg o λd=>aX c d λd=>ah d 0 λf=>ah d 1 λg=>ah d 2 λd=>bg o λi=>aX j i λi=>ah i 0 λk=>ah i 1 λl=>ah i 2 λi=>bd (R (.call 91 [.agg [f,g,d],.agg [k,l,i]] none) H) (λd H=>eD .not d λd=>brD d (ret (.bool false) H) (ac R 91 200004 [.lp 0 0,.lp 1 0,.n (bm (o+1))] [(0,xV a b c),(0,xV e h j)] H)) λ_ _=>none) (ret (.bool true) H):=by kernel_rfl
def aiZ{R:aJ}{e:Int}{a b c:Nat}{H:DH}:az R 107 [.i e,.ptr a 0,.ptr b 0,.ptr c 0] H =
 ac R 107 200000 [.n e,.g (.ptr a 0),.g (.ptr b 0),.g (.ptr c 0)] [] H:=by kernel_rfl
def ym{R:aJ}{e:Int}{v1 v2 v3:Nat}{H:DH}:aF R 107 200000 [.n e,.g (.ptr v1 0),.g (.ptr v2 0),.g (.ptr v3 0)] [] H =
 cond (decide (e>=0)) (aB H v1 λ_ a=>ah a 0 λa=>ay ab 60 a (.i e) λa=>bJ ab 4 a H λa=>eD .not a λa=>brD a (aB H v1 λ_ a=>ah a 0 λa=>ay ab 60 a (.i e) λa=>GK a [.bool true] H λH=>aB H v2 λ_ a=>ah a 6 λa=>ay ab 39 a (.i e) λa=>bI a 3 λa=>bJ ab 109 a H λa=>aP ab 109 a H λb=>ac R 107 200003 [.n e,.g (.ptr v1 0),.g (.ptr v2 0),.g (.ptr v3 0),.g a,.g b,.n 0] [] H) (ret (.tuple []) H)) (ret (.tuple []) H):=by kernel_rfl
def yl{R:aJ}{j:Int}{v1 v2 v3:Nat}{a:D}{b c:Int}{H:DH}:aF R 107 200003 [.n j,.g (.ptr v1 0),.g (.ptr v2 0),.g (.ptr v3 0),.g a,.n b,.n c] [] H =
 cond (decide (c<b)) (ay ab 109 a (.i c) λd=>bJ ab 37 d H λd=>aj 2 d λd=>aC [.bool false,.i 0] 0 d λd=>aB H v3 λ_ e=>ah e 0 λe=>ah d 0 λf=>ah d 1 λd=>fH bF e λe g h=>C R e (g++([.agg [f,d]]++h)) H λ_ H=>ac R 107 200003 [.n j,.g (.ptr v1 0),.g (.ptr v2 0),.g (.ptr v3 0),.g a,.n b,.n (bm (c+1))] [] H) (aB H v2 λ_ a=>ah a 6 λa=>ay ab 39 a (.i j) λa=>bI a 4 λa=>bJ ab 3 a H λa=>ac R 107 200000 [.g a,.g (.ptr v1 0),.g (.ptr v2 0),.g (.ptr v3 0)] [] H):=by kernel_rfl
def f17{R:aJ}{x0 x1 x2:Int}{x3:Bool}{x4:Int}{x5 x6 x7:D}{x8:Int}{x9:D}{xt y0 y1 y2:Int}{e:Bool}{y4:Int}{f g h:D}{i:Int}{j:D}{yt:Int}{H:DH}:az R 17 [.agg (xM x0 x1 x2 x3 x4 x5 x6 x7 x8 x9 xt),.agg (xM y0 y1 y2 e y4 f g h i j yt)] H =
 cond (x0 != y0) (ret (.bool false) H) (cond (x1 != y1) (ret (.bool false) H) (cond (x2 != y2) (ret (.bool false) H) (cond (!((x3==e)&&(x4==y4))) (ret (.bool false) H) (cond (x8 != i) (ret (.bool false) H) (cond (xt != yt) (ret (.bool false) H) (aP ab 38 x5 H λa=>aP ab 38 f H λb=>aA ab .neq 3 false a b λa=>brD a (ret (.bool false) H) (aP ab 39 x6 H λa=>aP ab 39 g H λb=>aA ab .neq 3 false a b λa=>brD a (ret (.bool false) H) (aP ab 40 x7 H λa=>aP ab 40 h H λb=>aA ab .neq 3 false a b λa=>brD a (ret (.bool false) H) (C R 42 [x9,j] H λa H=>eD .not a λa=>brD a (ret (.bool false) H) (ac R 17 200006 [.lp 0 0,.lp 1 0,.n 0] [(0,xM x0 x1 x2 x3 x4 x5 x6 x7 x8 x9 xt),(0,xM y0 y1 y2 e y4 f g h i j yt)] H)))))))))):=by kernel_rfl
def CQ{R:aJ}{g a b c:Int}{e:Bool}{h:Int}{j k l:D}{m:Int}{p:D}{q r s t:Int}{u:Bool}{v:Int}{w x y:D}{z:Int}{A:D}{a22:Int}{H:DH}:aF R 17 200006 [.lp 0 0,.lp 1 0,.n g] [(0,xM a b c e h j k l m p q),(0,xM r s t u v w x y z A a22)] H =
 aP ab 38 j H λd=>aA ab .lss 3 false (.i g) d λd=>brD d (ay ab 38 j (.i g) λd=>bI d 0 λd=>bJ ab 3 d H λd=>ay ab 38 w (.i g) λf=>bI f 0 λf=>bJ ab 3 f H λf=>aA ab .neq 3 false d f λd=>brD d (ret (.bool false) H) (ay ab 38 j (.i g) λd=>bI d 1 λd=>bJ ab 3 d H λd=>ay ab 38 w (.i g) λf=>bI f 1 λf=>bJ ab 3 f H λf=>aA ab .neq 3 false d f λd=>brD d (ret (.bool false) H) (ay ab 38 j (.i g) λd=>bI d 2 λd=>bJ ab 109 d H λd=>ay ab 38 w (.i g) λf=>bI f 2 λf=>bJ ab 109 f H λf=>bd (R (.call 43 [d,f] none) H) (λd H=>eD .not d λd=>brD d (ret (.bool false) H) (ac R 17 200006 [.lp 0 0,.lp 1 0,.n (bm (g+1))] [(0,xM a b c e h j k l m p q),(0,xM r s t u v w x y z A a22)] H)) λ_ _=>none))) (ac R 17 200011 [.lp 0 0,.lp 1 0,.n 0] [(0,xM a b c e h j k l m p q),(0,xM r s t u v w x y z A a22)] H):=by kernel_rfl
def CP{R:aJ}{v6 a b c:Int}{e:Bool}{h:Int}{j k l:D}{m:Int}{p:D}{q r s t:Int}{u:Bool}{v:Int}{w x y:D}{z:Int}{A:D}{a22:Int}{H:DH}:aF R 17 200011 [.lp 0 0,.lp 1 0,.n v6] [(0,xM a b c e h j k l m p q),(0,xM r s t u v w x y z A a22)] H =
 aP ab 39 k H λd=>aA ab .lss 3 false (.i v6) d λd=>brD d (ay ab 39 k (.i v6) λd=>bJ ab 115 d H λd=>ay ab 39 x (.i v6) λf=>bJ ab 115 f H λf=>bd (R (.call 44 [d,f] none) H) (λd H=>eD .not d λd=>brD d (ret (.bool false) H) (ac R 17 200011 [.lp 0 0,.lp 1 0,.n (bm (v6+1))] [(0,xM a b c e h j k l m p q),(0,xM r s t u v w x y z A a22)] H)) λ_ _=>none) (ac R 17 200016 [.lp 0 0,.lp 1 0,.n 0] [(0,xM a b c e h j k l m p q),(0,xM r s t u v w x y z A a22)] H):=by kernel_rfl
def CO{R:aJ}{g a b c:Int}{e:Bool}{h:Int}{j k l:D}{m:Int}{p:D}{q r s t:Int}{u:Bool}{v:Int}{w x y:D}{z:Int}{A:D}{a22:Int}{H:DH}:aF R 17 200016 [.lp 0 0,.lp 1 0,.n g] [(0,xM a b c e h j k l m p q),(0,xM r s t u v w x y z A a22)] H =
 aP ab 40 l H λd=>aA ab .lss 3 false (.i g) d λd=>brD d (ay ab 40 l (.i g) λd=>bJ ab 117 d H λd=>ay ab 40 y (.i g) λf=>bJ ab 117 f H λf=>aA ab .neq 117 false d f λd=>brD d (ret (.bool false) H) (ac R 17 200016 [.lp 0 0,.lp 1 0,.n (bm (g+1))] [(0,xM a b c e h j k l m p q),(0,xM r s t u v w x y z A a22)] H)) (ret (.bool true) H):=by kernel_rfl
def f28{R:aJ}{a:aQ}{h:Mc}{H:DH}:az R 28 [.agg [.row 14 a],.agg (bh h)] H =
 C R 37 [.agg [.row 14 a],.agg (bh h)] H λa H=>fI a 0 λb=>fI a 1 λa=>aA ab .neq 29 true a (.i 0) λc=>brD c (ret (.tuple [.agg [.i 0,.i 0,.i 0,.bool false,.i 0,.nilrow,.nilrow,.nilrow,.i 0,.nilrow,.i 0],a]) H) (bg ((h.ce.map dw).length:Int) λa=>boK (Nat.ble a 2199023255552&&fg ab 3 a) (let c:=H++[.buf 1 true true (List.replicate a [.i 0])];let d:=c++[.cells 0 [.nilrow]];aB d c.length λe f=>aC f 0 [.buf 1 H.length a] λa=>let H:=d.set c.length (.cells (e+1) a);C R 52 [b,.agg (bh h)] H λa H=>aP ab 60 a H λb=>ac R 28 200007 [.lp 1 0,.lp 2 0,.g (.ptr c.length 0),.n 0,.g a,.g a,.g b,.n 0] [(0,[]),(0,(bh h)),(0,[.i 0,.i 0,.i 0,.bool false,.i 0,.nilrow,.nilrow,.nilrow,.i 0,.nilrow,.i 0])] H)):=by kernel_rfl
def sj{R:aJ}{f:Nat}{j:Int}{a b:D}{c e:Int}{h:Mc}{k:List D}{H:DH}:aF R 28 200007 [.lp 1 0,.lp 2 0,.g (.ptr f 0),.n j,.g a,.g b,.n c,.n e] [(0,[]),(0,(bh h)),(0,k)] H =
 cond (decide (e<c)) (ay ab 60 b (.i e) λd=>bJ ab 4 d H λd=>brD d (aB H f λ_ d=>ah d 0 λd=>ay ab 25 d (.i e) λd=>GK d [.i j] H λH=>ac R 28 200007 [.lp 1 0,.lp 2 0,.g (.ptr f 0),.n (bm (j+1)),.g a,.g b,.n c,.n (bm (e+1))] [(0,[]),(0,(bh h)),(0,k)] H) (ac R 28 200007 [.lp 1 0,.lp 2 0,.g (.ptr f 0),.n j,.g a,.g b,.n c,.n (bm (e+1))] [(0,[]),(0,(bh h)),(0,k)] H)) (C R 39 [.agg (bh h)] H λb H=>aj 11 b λb=>aC [.i 0,.i 0,.i 0,.bool false,.i 0,.nilrow,.nilrow,.nilrow,.i 0,.nilrow,.i 0] 0 b λb=>aC b 6 [.nilrow] λb=>C R 39 [.agg (bh h)] H λc H=>rY ab 43 c 5 λc=>aP ab 39 c H λd=>ac R 28 200018 [.lp 2 0,.g a,.g (Kf f),.g (Kg f),.lp 3 0,.g c,.g d,.n 0] [(0,[]),(0,[]),(0,k),(0,b)] H):=by kernel_rfl
def CK{R:aJ}{a b c e:D}{h j:Int}{o k:List D}{H:DH}:aF R 28 200018 [.lp 2 0,.g a,.g b,.g c,.lp 3 0,.g e,.n h,.n j] [(0,[]),(0,[]),(0,o),(0,k)] H =
 cond (decide (j<h)) (ay ab 39 e (.i j) λd=>bJ ab 115 d H λd=>aj 5 d λd=>aC [.i 0,.str [],.i 0,.nilrow,.i 0] 0 d λd=>ay ab 60 a (.i j) λf=>bJ ab 4 f H λf=>brD f (ah d 3 λf=>aP ab 109 f H λf=>ac R 28 200022 [.lp 2 0,.g a,.g b,.g c,.lp 3 0,.lp 4 0,.g e,.n h,.n j,.g f,.n 0] [(0,[]),(0,[]),(0,o),(0,k),(0,d)] H) (ac R 28 200018 [.lp 2 0,.g a,.g b,.g c,.lp 3 0,.g e,.n h,.n (bm (j+1))] [(0,[]),(0,[]),(0,o),(0,k)] H)) (ah k 2 λa=>fH bF c λd e f=>bd (R (.call d (e++([a]++f)) none) H) (λa H=>ah k 3 λd=>ah k 4 λe=>fH bF b λf g h=>bd (R (.call f (g++([.agg [d,e]]++h)) none) H) (λd H=>aj 1 a λa=>aC k 2 a λa=>aj 2 d λd=>aC a 3 d λa=>ah a 5 λd=>aP ab 38 d H λd=>ac R 28 200031 [.lp 2 0,.g b,.g c,.lp 3 0,.g d,.n 0] [(0,[]),(0,[]),(0,o),(0,a)] H) λ_ _=>none) λ_ _=>none):=by kernel_rfl
def CJ{R:aJ}{a b c e:D}{h j k l:Int}{q p o:List D}{H:DH}:aF R 28 200022 [.lp 2 0,.g a,.g b,.g c,.lp 3 0,.lp 4 0,.g e,.n h,.n j,.n k,.n l] [(0,[]),(0,[]),(0,q),(0,p),(0,o)] H =
 cond (decide (l<k)) (ah o 3 λd=>ay ab 109 d (.i l) λd=>bJ ab 37 d H λd=>fH bF b λf g i=>bd (R (.call f (g++([d]++i)) none) H) (λd H=>ah o 3 λf=>ay ab 109 f (.i l) λf=>aj 2 d λd=>GK f d H λH=>ac R 28 200022 [.lp 2 0,.g a,.g b,.g c,.lp 3 0,.lp 4 0,.g e,.n h,.n j,.n k,.n (bm (l+1))] [(0,[]),(0,[]),(0,q),(0,p),(0,o)] H) λ_ _=>none) (ah o 4 λd=>fH bF c λf g i=>C R f (g++([d]++i)) H λd H=>aj 1 d λd=>aC o 4 d λd=>ah p 6 λf=>ah d 0 λg=>ah d 1 λi=>ah d 2 λk=>ah d 3 λl=>ah d 4 λd=>bQ (aG ab 115) 5 f [[g,i,k,l,d]] H λd H=>aj 1 d λd=>aC p 6 d λd=>ac R 28 200018 [.lp 2 0,.g a,.g b,.g c,.lp 3 0,.g e,.n h,.n (bm (j+1))] [(0,[]),(0,[]),(0,q),(0,d)] H):=by kernel_rfl
def CI{R:aJ}{a b:D}{c e:Int}{k j:List D}{H:DH}:aF R 28 200031 [.lp 2 0,.g a,.g b,.lp 3 0,.n c,.n e] [(0,[]),(0,[]),(0,k),(0,j)] H =
 cond (decide (e<c)) (ah j 5 λd=>ay ab 38 d (.i e) λd=>bI d 1 λd=>bJ ab 3 d H λd=>fH bF b λf g h=>bd (R (.call f (g++([d]++h)) none) H) (λd H=>ah j 5 λf=>ay ab 38 f (.i e) λf=>bI f 1 λf=>aj 1 d λd=>GK f d H λH=>ah j 5 λd=>ay ab 38 d (.i e) λd=>bI d 2 λd=>bJ ab 109 d H λd=>aP ab 109 d H λd=>ac R 28 200035 [.lp 2 0,.g a,.g b,.lp 3 0,.n e,.n c,.n e,.g d,.n 0] [(0,[]),(0,[]),(0,k),(0,j)] H) λ_ _=>none) (ah j 7 λb=>aP ab 40 b H λb=>ac R 28 200041 [.lp 2 0,.g a,.lp 3 0,.g b,.n 0] [(0,[]),(0,[]),(0,k),(0,j)] H):=by kernel_rfl
def si{R:aJ}{a b:D}{c e h j k:Int}{p o:List D}{H:DH}:aF R 28 200035 [.lp 2 0,.g a,.g b,.lp 3 0,.n c,.n e,.n h,.n j,.n k] [(0,[]),(0,[]),(0,p),(0,o)] H =
 cond (decide (k<j)) (ah o 5 λd=>ay ab 38 d (.i c) λd=>bI d 2 λd=>bJ ab 109 d H λd=>ay ab 109 d (.i k) λd=>bJ ab 37 d H λd=>fH bF a λf g i=>bd (R (.call f (g++([d]++i)) none) H) (λd f=>ah o 5 λg=>ay ab 38 g (.i c) λg=>bI g 2 λg=>RV ab 109 g f [H] λg=>ay ab 109 g (.i k) λg=>aj 2 d λd=>GK g d f λH=>ac R 28 200035 [.lp 2 0,.g a,.g b,.lp 3 0,.n c,.n e,.n h,.n j,.n (bm (k+1))] [(0,[]),(0,[]),(0,p),(0,o)] H) λ_ _=>none) (ac R 28 200031 [.lp 2 0,.g a,.g b,.lp 3 0,.n e,.n (bm (h+1))] [(0,[]),(0,[]),(0,p),(0,o)] H):=by kernel_rfl
def sh{R:aJ}{a:D}{b c:Int}{p o:List D}{H:DH}:aF R 28 200041 [.lp 2 0,.g a,.lp 3 0,.n b,.n c] [(0,[]),(0,[]),(0,p),(0,o)] H =
 cond (decide (c<b)) (ah o 7 λd=>ay ab 40 d (.i c) λd=>bI d 1 λd=>bJ ab 37 d H λd=>fH bF a λe f g=>bd (R (.call e (f++([d]++g)) none) H) (λd H=>ah o 7 λe=>ay ab 40 e (.i c) λe=>bI e 1 λe=>aj 2 d λd=>GK e d H λH=>ac R 28 200041 [.lp 2 0,.g a,.lp 3 0,.n b,.n (bm (c+1))] [(0,[]),(0,[]),(0,p),(0,o)] H) λ_ _=>none) (ah o 0 λa=>ah o 1 λb=>ah o 2 λc=>ah o 3 λd=>ah o 4 λe=>ah o 5 λf=>ah o 6 λg=>ah o 7 λh=>ah o 8 λi=>ah o 9 λj=>ah o 10 λk=>aC p 0 [a,b,c,d,e,f,g,h,i,j,k] λa=>ah a 0 λb=>ah a 1 λc=>ah a 2 λd=>ah a 3 λe=>ah a 4 λf=>ah a 5 λg=>ah a 6 λh=>ah a 7 λi=>ah a 8 λj=>ah a 9 λk=>ah a 10 λa=>ret (.tuple [.agg [b,c,d,e,f,g,h,i,j,k,a],.i 0]) H):=by kernel_rfl
def f39{R:aJ}{e:Mc}{H:DH}:az R 39 [.agg (bh e)] H =
 bd (R (.call 76 [.row 3 (e.fr.map eg)] none) H) (λa H=>bd (R (.call 77 [.row 5 (e.ce.map dw)] none) H) (λb H=>bd (R (.call 78 [.row 3 (e.to.map eX)] none) H) (λc H=>bd (R (.call 79 [.row 4 (e.ou.map gR)] none) H) (λd H=>aj 1 a λa=>aC (bh e) 5 a λa=>aj 1 b λb=>aC a 6 b λa=>aj 1 c λb=>aC a 7 b λa=>aj 1 d λb=>aC a 9 b λa=>ah a 5 λb=>aP ab 38 b H λb=>ac R 39 200003 [.lp 0 0,.lp 1 0,.g b,.n 0] [(0,a),(0,[.i 0,.i 0,.i 0,.bool false,.i 0,.nilrow,.nilrow,.nilrow,.i 0,.nilrow,.i 0])] H) λ_ _=>none) λ_ _=>none) λ_ _=>none) λ_ _=>none:=by kernel_rfl
def CA{R:aJ}{a b:Int}{w0:List D}{c e h:Int}{j:Bool}{k:Int}{l m p:D}{q:Int}{r:D}{s:Int}{H:DH}:aF R 39 200003 [.lp 0 0,.lp 1 0,.n a,.n b] [(0,w0),(0,xM c e h j k l m p q r s)] H =
 cond (decide (b<a)) (ah w0 5 λd=>ay ab 38 d (.i b) λd=>bI d 2 λd=>bJ ab 109 d H λd=>bd (R (.call 80 [d] none) H) (λd H=>ah w0 5 λf=>ay ab 38 f (.i b) λf=>bI f 2 λf=>aj 1 d λd=>GK f d H λH=>ac R 39 200003 [.lp 0 0,.lp 1 0,.n a,.n (bm (b+1))] [(0,w0),(0,xM c e h j k l m p q r s)] H) λ_ _=>none) (ah w0 6 λa=>aP ab 39 a H λa=>ac R 39 200008 [.lp 0 0,.lp 1 0,.g a,.n 0] [(0,w0),(0,xM c e h j k l m p q r s)] H):=by kernel_rfl
def Cz{R:aJ}{a b:Int}{w0:List D}{c e h:Int}{j:Bool}{k:Int}{l m p:D}{q:Int}{r:D}{s:Int}{H:DH}:aF R 39 200008 [.lp 0 0,.lp 1 0,.n a,.n b] [(0,w0),(0,xM c e h j k l m p q r s)] H =
 cond (decide (b<a)) (ah w0 6 λd=>ay ab 39 d (.i b) λd=>bI d 3 λd=>bJ ab 109 d H λd=>bd (R (.call 80 [d] none) H) (λd H=>ah w0 6 λf=>ay ab 39 f (.i b) λf=>bI f 3 λf=>aj 1 d λd=>GK f d H λH=>ac R 39 200008 [.lp 0 0,.lp 1 0,.n a,.n (bm (b+1))] [(0,w0),(0,xM c e h j k l m p q r s)] H) λ_ _=>none) (ah w0 9 λa=>aP ab 41 a H λa=>ac R 39 200013 [.lp 0 0,.lp 1 0,.g a,.n 0] [(0,w0),(0,xM c e h j k l m p q r s)] H):=by kernel_rfl
def sd{R:aJ}{a b:Int}{w0:List D}{c e h:Int}{j:Bool}{k:Int}{l m p:D}{q:Int}{r:D}{s:Int}{H:DH}:aF R 39 200013 [.lp 0 0,.lp 1 0,.n a,.n b] [(0,w0),(0,xM c e h j k l m p q r s)] H =
 cond (decide (b<a)) (ah w0 9 λd=>ay ab 41 d (.i b) λd=>bI d 1 λd=>bJ ab 72 d H λd=>bd (R (.call 81 [d] none) H) (λd H=>ah w0 9 λf=>ay ab 41 f (.i b) λf=>bI f 1 λf=>aj 3 d λd=>GK f d H λH=>ac R 39 200013 [.lp 0 0,.lp 1 0,.n a,.n (bm (b+1))] [(0,w0),(0,xM c e h j k l m p q r s)] H) λ_ _=>none) (ah w0 0 λa=>ah w0 1 λb=>ah w0 2 λc=>ah w0 3 λd=>ah w0 4 λe=>ah w0 5 λf=>ah w0 6 λg=>ah w0 7 λh=>ah w0 8 λi=>ah w0 9 λj=>ah w0 10 λk=>ret (.agg [a,b,c,d,e,f,g,h,i,j,k]) H):=by kernel_rfl
def f53{R:aJ}{e:Mc}{f:aQ}{lo ln:Nat}{H:DH}:az R 53 [.agg (bh e),.row 2 f,.buf 1 lo ln] H =
 ac R 53 200002 [.g (.row 2 f),.g (.buf 1 lo ln),.lp 0 0,.n 0] [(0,(bh e))] H:=by kernel_rfl
def kH{R:aJ}{v1:aQ}{a b:Nat}{v6:Int}{w0:Mc}{H:DH}:aF R 53 200002 [.g (.row 2 v1),.g (.buf 1 a b),.lp 0 0,.n v6] [(0,(bh w0))] H =
 cond (decide (v6<v1.length)) (bg v6 λc=>aX v1 c λc=>ah c 0 λc=>brD c (bg v6 λc=>aX v1 c λc=>ah c 1 λc=>bd (R (.call 54 [.agg (bh w0),c,.buf 1 a b] none) H) (λ_ H=>ac R 53 200002 [.g (.row 2 v1),.g (.buf 1 a b),.lp 0 0,.n (bm (v6+1))] [(0,(bh w0))] H) λ_ _=>none) (ac R 53 200002 [.g (.row 2 v1),.g (.buf 1 a b),.lp 0 0,.n (bm (v6+1))] [(0,(bh w0))] H)) (ret (.tuple []) H):=by kernel_rfl
def f54{R:aJ}{e:Mc}{f:Int}{lo ln:Nat}{H:DH}:az R 54 [.agg (bh e),.i f,.buf 1 lo ln] H =
 ac R 54 200001 [.n f,.g (.buf 1 lo ln),.lp 0 0] [(0,(bh e))] H:=by kernel_rfl
def rZ{R:aJ}{v1:Int}{a b:Nat}{w0:Mc}{H:DH}:aF R 54 200001 [.n v1,.g (.buf 1 a b),.lp 0 0] [(0,(bh w0))] H =
 cond (decide (v1>=0)) (bg v1 λc=>boK (Nat.blt c b) (cH H a b λ_ _ _ d=>aX d c λc=>ah c 0 λc=>eD .not c λc=>brD c (bg v1 λc=>boK (Nat.blt c b) (cH H a b λd e f g=>boK e (aX g c λh=>aC h 0 [.bool true] λh=>let H:=H.set a (.buf d e f (g.set c h));bg v1 λc=>aX (w0.ce.map dw) c λc=>ah c 0 λd=>ah c 1 λ_=>ah c 2 λ_=>ah c 3 λe=>ah c 4 λc=>C R 53 [.agg (bh w0),e,.buf 1 a b] H λ_ H=>aA ab .neq 3 true d (.i 1) λd=>brD d (ac R 54 200001 [.g c,.g (.buf 1 a b),.lp 0 0] [(0,(bh w0))] H) (ac R 54 200001 [.n (-1),.g (.buf 1 a b),.lp 0 0] [(0,(bh w0))] H)))) (ret (.tuple []) H))) (ret (.tuple []) H):=by kernel_rfl
def f56{R:aJ}{e:Int}{a:Nat}{H:DH}:az R 56 [.i e,.ptr a 0] H =
 cond (decide (e>=0)) (aB H a λ_ a=>ah a 0 λa=>ay ab 25 a (.i e) λa=>bJ ab 3 a H λa=>ret a H) (ret (.i e) H):=by kernel_rfl
def f57{R:aJ}{e:aQ}{lo ln:Nat}{H:DH}:az R 57 [.row 2 e,.buf 1 lo ln] H =
 bj H (let a:=H++[.buf 2 true false []];ac R 57 200003 [.g (.row 2 e),.g (.buf 1 lo ln),.g (.buf 2 H.length 0),.n 0] [] a):=by kernel_rfl
def Cq{R:aJ}{h:aQ}{a b c e:Nat}{v6:Int}{H:DH}:aF R 57 200003 [.g (.row 2 h),.g (.buf 1 a b),.g (.buf 2 c e),.n v6] [] H =
 cond (decide (v6<h.length)) (bg v6 λd=>aX h d λd=>ah d 0 λf=>ah d 1 λd=>brD f (ay ab 25 (.buf 1 a b) d λg=>bJ ab 3 g H λg=>aj 1 g λg=>aC [f,d] 1 g λd=>ah d 0 λf=>ah d 1 λd=>bQ (aG ab 37) 2 (.buf 2 c e) [[f,d]] H λc H=>ct (.acc 2) 0 c H λc H=>ac R 57 200003 [.g (.row 2 h),.g (.buf 1 a b),.g c,.n (bm (v6+1))] [] H) (bQ (aG ab 37) 2 (.buf 2 c e) [[f,d]] H λc H=>ct (.acc 2) 0 c H λc H=>ac R 57 200003 [.g (.row 2 h),.g (.buf 1 a b),.g c,.n (bm (v6+1))] [] H)) (eZ (.fz 2) (.buf 2 c e) H λa H=>ret a H):=by kernel_rfl
def f77{R:aJ}{e:aQ}{H:DH}:az R 77 [.row 5 e] H =
 lN .eql e λa=>brD a (ret .nilrow H) (bQ (aG ab 115) 5 .nilrow e H λa H=>ret a H):=by kernel_rfl
def f79{R:aJ}{e:aQ}{H:DH}:az R 79 [.row 4 e] H =
 lN .eql e λa=>brD a (ret .nilrow H) (bQ (aG ab 74) 4 .nilrow e H λa H=>ret a H):=by kernel_rfl
def f81{R:aJ}{a:af}{b:Int}{c:aQ}{H:DH}:az R 81 [.agg (xV a b c)] H =
 bj H (ac R 81 200003 [.lp 1 0,.lp 2 0,.g (.row 3 c),.n c.length,.n 0] [(0,[]),(0,[.str [],.i 0,.nilrow]),(0,[.str a,.i b,.nilrow])] H):=by kernel_rfl
def Cc{R:aJ}{a:aQ}{b c:Int}{e:af}{h:Int}{j:D}{k:af}{l:Int}{m:D}{H:DH}:aF R 81 200003 [.lp 1 0,.lp 2 0,.g (.row 3 a),.n b,.n c] [(0,[]),(0,[.str e,.i h,j]),(0,[.str k,.i l,m])] H =
 cond (decide (c<b)) (bg c λd=>aX a d λd=>ah d 0 λf=>ah d 1 λg=>ah d 2 λd=>bd (R (.call 81 [.agg [f,g,d]] none) H) (λd H=>aj 3 d λd=>bQ (aG ab 72) 3 m [d] H λd H=>aj 1 d λd=>aC [.str k,.i l,m] 2 d λd=>ac R 81 200003 [.lp 1 0,.lp 2 0,.g (.row 3 a),.n b,.n (bm (c+1))] [(0,[]),(0,[.str e,.i h,j]),(0,d)] H) λ_ _=>none) (eZ (.fz 3) m H λa H=>ret (.agg [.str k,.i l,a]) H):=by kernel_rfl
def anm{R:aJ}{a:Bool}{b:Int}{c:Nat}{H:DH}:az R 106 [.agg [.bool a,.i b],.ptr c 0] H =
 cond a (aB H c λ_ a=>ah a 0 λa=>fH bF a λa c d=>C R a (c++([.i b]++d)) H λ_ H=>ret (.tuple []) H) (ret (.tuple []) H):=by kernel_rfl
def gk{a b:Nat}(h:a<b):decide ((a:Int)<(b:Int))=true:=by simp;exact h
def yV(a:Nat):decide ((a:Int)<(a:Int))=false:=by simp
def uK(k:Nat)(h:k<2^62):bm ((k:Int)+1)=((k+1:Nat):Int):=aE h
def PE(o n i:Nat)(κ:D->av):ay ab 60 (.buf 1 o n) (.i i) κ=boK (Nat.blt i n) (κ (.bptr o n i 0)):=by kernel_rfl
def abK(l:aQ)(i:Nat)(κ:D->av):ay ab 39 (.row 5 l) (.i i) κ=aX l i λcs=>κ (.eptr cs 0):=by kernel_rfl
def VC(l:aQ)(i:Nat)(κ:D->av):ay ab 109 (.row 2 l) (.i i) κ=aX l i λcs=>κ (.eptr cs 0):=by kernel_rfl
def adV(o n i:Nat)(H:DH)(κ:D->av):bJ ab 4 (.bptr o n i 0) H κ=cH H o n λ_ _ _ l=>aX l i λcs=>ah cs 0 κ:=by kernel_rfl
def PC(a b:D)(H:DH)(κ:D->av):bJ ab 37 (.eptr [a,b] 0) H κ=κ (.agg [a,b]):=by kernel_rfl
def adZ(cs:List D)(n:Nat)(H:DH)(κ:D->av):bJ ab 109 (.eptr cs n) H κ=ah cs n κ:=by kernel_rfl
def akL(cs:List D)(n:Nat)(H:DH)(κ:D->av):bJ ab 3 (.eptr cs n) H κ=ah cs n κ:=by kernel_rfl
theorem PB(l:aQ)(H:DH)(κ:D->av):aP ab 109 (.row 2 l) H κ=κ (.i l.length):=by kernel_rfl
theorem gh{a b:Nat}(h:a<b):Nat.blt a b=true:=by unfold Nat.blt;exact acw h
def dY(l:List Bool):aQ:=l.map λb=>[.bool b]
theorem aaE(l:List Bool):(dY l).length=l.length:=abh ..
def lT{l:List Bool}{i:Nat}{b:Bool}(h:l[i]? = some b):(dY l)[i]? = some [.bool b]:=by rw[dY,aiE,h];rfl
def zZ(l:List Bool)(i:Nat)(b:Bool):(dY l).set i [.bool b]=dY (l.set i b):=by rw[dY,dY,List.map_set]
def lS{H:DH}{o:Nat}{l:List Bool}{κ:Nat->Bool->Bool->aQ->av}(h:H[o]? = some (.buf 1 true true (dY l))):cH H o l.length κ=κ 1 true true (dY l):=by grind [cy,aaE]
def Rl(ce:List Ce):Prop:=∀ c∈ce,c.refs.length<2^61/\(∀ r∈c.refs,r.c=true->0<=r.n/\r.n<ce.length)/\(-1<=c.nx/\c.nx<ce.length)/\(c.k=1->c.nx=-1)
structure NT(m:Mc)(H:DH)(o v1 v2 v3 v6:Nat)(l:List Bool):Prop where
 buf:H[o]? = some (.buf 1 true true (dY l))
 c1:∃ s,H[v1]? = some (.cells s [.buf 1 o l.length])
 c2:∃ s,H[v2]? = some (.cells s (bh m))
 c3:∃ s,H[v3]? = some (.cells s [.func 106 [] [.ptr v6 0]])
 c6:∃ s,H[v6]? = some (.cells s [.func 107 [] [.ptr v1 0,.ptr v2 0,.ptr v3 0]])
def NT.set{m:Mc}{H:DH}{o v1 v2 v3 v6:Nat}{l l':List Bool}(h:NT m H o v1 v2 v3 v6 l)(hl:l'.length=l.length):NT m (H.set o (.buf 1 true true (dY l'))) o v1 v2 v3 v6 l':=by
 have k:∀ {v:Nat} {cs:List D},(∃ s,H[v]? = some (.cells s cs))->∃ s,(H.set o (.buf 1 true true (dY l')))[v]? = some (.cells s cs):=λ{v cs} ⟨s,f⟩=>by
  refine⟨s,ax _ (λe=>?_) f⟩;have hb:=h.buf
  grind
 exact⟨ba _ h.buf,hl▸k h.c1,k h.c2,k h.c3,k h.c6⟩
structure Up(ce:List Ce)(l l':List Bool):Prop where
 len:l'.length=l.length
 mono:∀ i:Nat,l[i]? = some true->l'[i]? = some true
 clo:∀(i:Nat) (c:Ce),l'[i]? = some true->l[i]? = some false->ce[i]? = some c->(∀ r∈c.refs,r.c=true->l'[r.n.toNat]? = some true)/\(0<=c.nx->l'[c.nx.toNat]? = some true)
theorem Up.refl(ce:List Ce)(l:List Bool):Up ce l l:=⟨rfl,λ_ h=>h,λi c f e _=>by rw[f]at e;cases e⟩
def Up.trans{ce:List Ce}{a b c:List Bool}(h:Up ce a b)(k:Up ce b c):Up ce a c:=by
 refine⟨k.len.trans h.len,λi q=>k.mono i (h.mono i q),λi x g e f=>?_⟩;cases hb:b[i]? with
 |none=>rw[List.getElem?_eq_none_iff,h.len,<- List.getElem?_eq_none_iff,e]at hb;cases hb
 |some q =>
  cases q with
  |true =>obtain⟨j,n⟩:=h.clo i x hb e f;exact⟨λr hr hc=>k.mono _ (j r hr hc),λo=>k.mono _ (n o)⟩
  |false=>exact k.clo i x g hb f
def NB:∀ {l l':List Bool},l'.length=l.length->(∀ i:Nat,l[i]? = some true->l'[i]? = some true)->l'.count false<=l.count false
 |[],l',h,_=>by rw[aoK.1 h];exact abH _
 |a::l,[],h,_=>by cases h
 |a::l,b::l',h,k=>by
  have ih:=NB (l:=l) (l':=l') (by simpa using h) (λi q=>k (i+1) q);have k0:=k 0
  grind
def aap{l:List Bool}{i:Nat}(h:l[i]? = some false):(l.set i true).count false<l.count false:=by grind
abbrev PM(m:Mc)(n:Int)(l l':List Bool):Prop:=∀(H:DH) (o v1 v2 v3 v6:Nat),NT m H o v1 v2 v3 v6 l->ac au 107 200000 [.n n,.g (.ptr v1 0),.g (.ptr v2 0),.g (.ptr v3 0)] [] H=ret (.tuple []) (H.set o (.buf 1 true true (dY l')))
abbrev RM(m:Mc)(n:Int)(l l':List Bool):Prop:=∀(H:DH) (o:Nat),H[o]? = some (.buf 1 true true (dY l))->ac au 54 200001 [.n n,.g (.buf 1 o l.length),.lp 0 0] [(0,bh m)] H=ret (.tuple []) (H.set o (.buf 1 true true (dY l')))
def wv(m:Mc){n:Int}{l:List Bool}(h:n<0\/∃ i:Nat,n=i/\l[i]? = some true):PM m n l l/\RM m n l l:=by
 constructor
 .intro H o v1 v2 v3 v6 e;obtain⟨s1,f⟩:=e.c1;refine aW (ym) ?_;rw[gB e.buf];rcases h with h|⟨i,rfl,h⟩
  .grind
  .have hi:=(acy.1 h).1;rw[show decide ((i:Int)>=0)=true by simp,ge,ae f,ai,PE,gh hi,boK,ge,adV,lS e.buf,ak (lT h),ai,aK,ao];rfl
 .intro H o hb;refine aW (rZ) ?_;rw[gB hb];rcases h with h|⟨i,rfl,h⟩
  .grind
  .have hi:=(acy.1 h).1;rw[show decide ((i:Int)>=0)=true by simp,ge,aI,gh hi,boK,ge,lS hb,ak (lT h),ai,aK,ao];rfl
def abM(cs:List D)(c k:Nat)(κ:D->av):bI (.eptr cs c) k κ=κ (.eptr cs (c+k)):=rfl
theorem PY:aV bF 106=true:=by kernel_rfl
def PW:aV bF 107=true:=by kernel_rfl
theorem Uw{m:Mc}{H:DH}{o v1 v2 v3 v6:Nat}{l l':List Bool}(e:NT m H o v1 v2 v3 v6 l)(r:Re)(h:r.c=true->PM m r.n l l')(h0:r.c=false->l'=l) :
 aq 106 [.agg [.bool r.c,.i r.n],.ptr v6 0] H=ret (.tuple []) (H.set o (.buf 1 true true (dY l'))):=by
 refine ev (anm) ?_;cases hr:r.c with
 |false=>rw[Xi,h0 hr,gB e.buf]
 |true =>obtain⟨s6,f⟩:=e.c6;have k:aq 107 [.i r.n,.ptr v1 0,.ptr v2 0,.ptr v3 0] H=ret (.tuple []) (H.set o (.buf 1 true true (dY l'))):=ev (aiZ) (h hr H o v1 v2 v3 v6 e);rw[ge,ae f,ai,bZ PW];exact am k
abbrev acs(m:Mc)(k:Nat):Prop:=∀ l:List Bool,l.length=m.ce.length->l.count false<=k->∀ n:Int,-1<=n->n<m.ce.length->∃ l',Up m.ce l l'/\(0<=n->l'[n.toNat]? = some true)/\PM m n l l'/\RM m n l l'
def Fq(m:Mc)(k:Nat)(ih:acs m k)(refs:List Re)(hl:refs.length<2^61)(hr:∀ r∈refs,r.c=true->0<=r.n/\r.n<m.ce.length) :
 ∀(suf pre:List Re),refs=pre++suf->∀ l:List Bool,l.length=m.ce.length->l.count false<=k->∃ l',Up m.ce l l'/\(∀ r∈suf,r.c=true->l'[r.n.toNat]? = some true) /\
  (∀(H:DH) (o v1 v2 v3 v6 i:Nat) (c:Ce),m.ce[i]? = some c->NT m H o v1 v2 v3 v6 l->ac au 107 200003 [.n i,.g (.ptr v1 0),.g (.ptr v2 0),.g (.ptr v3 0),.g (.row 2 (refs.map cL)),.n refs.length,.n pre.length] [] H =
   ac au 107 200000 [.n c.nx,.g (.ptr v1 0),.g (.ptr v2 0),.g (.ptr v3 0)] [] (H.set o (.buf 1 true true (dY l')))) /\
  (∀(H:DH) (o:Nat),H[o]? = some (.buf 1 true true (dY l))->ac au 53 200002 [.g (.row 2 (refs.map cL)),.g (.buf 1 o l.length),.lp 0 0,.n pre.length] [(0,bh m)] H=ret (.tuple []) (H.set o (.buf 1 true true (dY l'))))
 |[],pre,e,l,f,hc=>by
  have y:refs.length=pre.length:=by rw[e];simp
  refine⟨l,Up.refl _ _,λr h=>(by cases h),λH o v1 v2 v3 v6 i c hi p=>?_,λH o hb=>?_⟩
  .obtain⟨s2,z⟩:=p.c2;refine aW (yl) ?_;rw[gB p.buf,y,yV _,Xi,ae z];simp only[ai,aw];rw[abK,ak (show(m.ce.map dw)[i]? = some (dw c)by rw[aiE,hi];rfl)];rw[abM,akL];simp only[dw,afY,aw,ai]
  .refine aW (kH) ?_
   grind [gB]
 |r::suf,pre,e,l,f,hc=>by
  have hi:pre.length<refs.length:=by rw[e];simp
  have j:(refs.map cL)[pre.length]? = some (cL r):=by rw[e];exact bz _ _ _ _
  have hmem:r∈refs:=by rw[e];simp
  obtain⟨l1,q,A,p1,B⟩:∃ l1,Up m.ce l l1/\(r.c=true->l1[r.n.toNat]? = some true)/\((r.c=true->PM m r.n l l1)/\(r.c=false->l1=l))/\(r.c=true->RM m r.n l l1):=by
   cases s:r.c with
   |false=>exact⟨l,Up.refl _ _,λh=>(by cases h),⟨λh=>(by cases h),λ_=>rfl⟩,λh=>(by cases h)⟩
   |true =>grind
  have t:l1.length=m.ce.length:=q.len.trans f;obtain⟨l2,v,t2,E,F⟩:=Fq m k ih refs hl hr suf (pre++[r]) (by rw[e];simp) l1 t (akG (NB q.len q.mono) hc);rw[abg,abf]at E F;have hw:bm ((pre.length:Int)+1)=((pre.length+1:Nat):Int):=aE (by omega);refine⟨l2,q.trans v,λx w u=>?_,λH o v1 v2 v3 v6 i c hi' p=>?_,λH o hb=>?_⟩
  .rcases afS.1 w with rfl|w
   .exact v.mono _ (A u)
   grind
  .obtain⟨s3,G⟩:=p.c3;have hM1:=p.set (l':=l1) q.len;refine aW (yl) ?_;rw[gk hi,ge,VC,ak j,show cL r=[.bool r.c,.i r.n] from rfl,PC];show aB H v3 _=_;rw[ae G,ai]
   grind [ai,aw,bZ,PY,am,Uw,List.set_set]
  .refine aW (kH) ?_;rw[abh,gk hi,ge,aI,ak j,show cL r=[.bool r.c,.i r.n] from rfl,ai,ao];cases s:r.c with
   |false =>grind
   |true =>
    rw[ge,aI,ak j,show cL r=[.bool r.c,.i r.n] from rfl];simp only[ai,aw];have I:aq 54 [.agg (bh m),.i r.n,.buf 1 o l.length] H=ret (.tuple []) (H.set o (.buf 1 true true (dY l1))):=ev (f54) (B s H o hb);refine(aH I).trans ?_
    grind [List.set_set]
def Vp(m:Mc)(hm:Rl m.ce):∀ k:Nat,acs m k
 |0,l,hl,hc,n,h0,O=>by
  refine⟨l,Up.refl _ _,?_⟩;by_cases B:n<0
  .exact⟨λh=>by omega,wv m (.inl B)⟩
  .obtain⟨i,rfl⟩:=anW (show 0<=n by omega);have hi:i<l.length:=by omega
   have f:l[i]? = some true:=by grind
   exact⟨λ_=>by simpa using f,wv m (.inr ⟨i,rfl,f⟩)⟩
 |k+1,l,hl,hc,n,h0,O=>by
  by_cases B:n<0
  .exact⟨l,Up.refl _ _,λh=>by omega,wv m (.inl B)⟩
  obtain⟨i,rfl⟩:=anW (show 0<=n by omega);have hi:i<l.length:=by omega
  cases hb:l[i]with
  |true =>
   have f:l[i]? = some true:=by rw[abI hi,hb]
   exact⟨l,Up.refl _ _,λ_=>by simpa using f,wv m (.inr ⟨i,rfl,f⟩)⟩
  |false =>
   have f:l[i]? = some false:=by rw[abI hi,hb]
   have t:i<m.ce.length:=by omega
   have q:m.ce[i]? = some m.ce[i]:=abI t;obtain⟨K,L,E,Q⟩:=hm _ (aoP t);generalize m.ce[i]=c at q K L E Q;have v:(l.set i true).length=m.ce.length:=by rw[anK];exact hl
   have w:(l.set i true).count false<=k:=by have:=aap f;omega
   obtain⟨l2,y,R,p2,U⟩:=Fq m k (Vp m hm k) c.refs K L c.refs [] rfl (l.set i true) v w;have F:l2.length=m.ce.length:=y.len.trans v;obtain⟨l3,M,W,p3,q3⟩:=Vp m hm k l2 F (akG (NB y.len y.mono) w) c.nx E.1 E.2;have u:=y.trans M;have hself:l3[i]? = some true:=u.mono i (by rw[ape hi]);refine⟨l3,⟨u.len.trans (anK ..),λj hj=>u.mono j ?_,λj x X Y G=>?_⟩,λ_=>by simpa using hself,λH o v1 v2 v3 v6 A=>?_,λH o g=>?_⟩
   .grind
   .by_cases e:i=j
    .subst e;rw[q]at G;cases G;exact⟨λr hr I=>M.mono _ (R r hr I),W⟩
    .exact u.clo j x X (by rw[aei e];exact Y) G
   .obtain⟨s1,N⟩:=A.c1;have z:=A.set (l':=l.set i true) (anK ..);have hM2:=z.set (l':=l2) y.len;obtain⟨s2,Z⟩:=z.c2;have p:(dY l).set i [.bool true]=dY (l.set i true):=zZ _ _ _;have s:aC [D.bool false] 0 [.bool true]=λκ:List D->av=>κ [.bool true]:=rfl;refine aW (ym) ?_;rw[show decide ((i:Int)>=0)=true by simp,ge,ae N,ai,PE,gh hi,boK,ge,adV,lS A.buf,ak (lT f),ai,aK,ao];simp only[ajM,ge];rw[ae N,ai,PE,gh hi,boK,ge,GK,lS A.buf,boK,ge,ak (lT f),s];simp only[p];rw[ae Z];simp only[ai,aw];rw[abK,ak (show(m.ce.map dw)[i]? = some (dw c)by rw[aiE,q];rfl),abM,adZ];simp only[dw,afY,aw,ai]
    grind [PB,List.set_set,List.length_set]
   .have p:(dY l).set i [.bool true]=dY (l.set i true):=zZ _ _ _;have s:aC [D.bool false] 0 [.bool true]=λκ:List D->av=>κ [.bool true]:=rfl;refine aW (rZ) ?_;rw[show decide ((i:Int)>=0)=true by simp,ge,aI,gh hi,boK,ge,lS g,ak (lT f),ai,aK,ao];simp only[ajM,ge];rw[aI,gh hi,boK,ge,lS g,boK,ge,ak (lT f),s];simp only[p];rw[aI,ak (show(m.ce.map dw)[i]? = some (dw c)by rw[aiE,q];rfl)];simp only[dw,aw,ai];have J:=ba (.buf 1 true true (dY (l.set i true))) g;have k53:aq 53 [.agg (bh m),.row 2 (c.refs.map cL),.buf 1 o l.length] (H.set o (.buf 1 true true (dY (l.set i true))))=ret (.tuple []) (H.set o (.buf 1 true true (dY l2))):=by have:=U _ o J;rw[agd,anK]at this;exact ev (f53) this
    grind [am,bu,ao,dY,List.set_set]
structure Lr(m:Mc)(n:Int)(l l':List Bool):Prop where
 up:Up m.ce l l'
 hit:0<=n->l'[n.toNat]? = some true
 neg:n<0->l'=l
 p:PM m n l l'
 r:RM m n l l'
def ahs(m:Mc)(hm:Rl m.ce)(l:List Bool)(hl:l.length=m.ce.length)(n:Int)(h0:-1<=n)(f:n<m.ce.length):∃ l',Lr m n l l':=by
 by_cases e:n<0
 .exact⟨l,Up.refl _ _,λh=>by omega,λ_=>rfl,(wv m (.inl e)).1,(wv m (.inl e)).2⟩
 .obtain⟨l',a,b,c,d⟩:=Vp m hm _ l hl (abH _) n h0 f;exact⟨l',a,b,λh=>absurd h e,c,d⟩
def dZ(m:Mc):List Int->List Bool->List Bool->Prop
 |[],l,l'=>l'=l
 |n::ns,l,l'=>∃ l1,Lr m n l l1/\dZ m ns l1 l'
def Xe(m:Mc)(hm:Rl m.ce):∀(ns:List Int) (l:List Bool),l.length=m.ce.length->(∀ n∈ns,-1<=n/\n<m.ce.length)->∃ l',dZ m ns l l'
 |[],l,_,_=>⟨l,rfl⟩
 |n::ns,l,hl,h=>by obtain⟨l1,e⟩:=ahs m hm l hl n (h n (by simp)).1 (h n (by simp)).2;obtain⟨l2,f⟩:=Xe m hm ns l1 (e.up.len.trans hl) (λx g=>h x (acl _ g));exact⟨l2,l1,e,f⟩
def dZ.up{m:Mc}:∀ {ns:List Int} {l l':List Bool},dZ m ns l l'->Up m.ce l l'/\∀ n∈ns,0<=n->l'[n.toNat]? = some true
 |[],l,l',h=>by rw[show l'=l from h];exact⟨Up.refl _ _,λn h=>by cases h⟩
 |n::ns,l,l',⟨l1,e,g⟩=>by
  obtain⟨u,t⟩:=dZ.up g;refine⟨e.up.trans u,λx f h0=>?_⟩;rcases afS.1 f with rfl|f
  .exact u.mono _ (e.hit h0)
  grind
def dZ.app{m:Mc}:∀ {a b:List Int} {l l':List Bool},dZ m (a++b) l l'->∃ l1,dZ m a l l1/\dZ m b l1 l'
 |[],_,l,_,h=>⟨l,rfl,h⟩
 |_::_,_,_,_,⟨l1,e,f⟩=>by obtain⟨l2,g,i⟩:=dZ.app f;exact⟨l2,⟨l1,e,g⟩,i⟩
def rt(r:Re):Int:=bif r.c then r.n else -1
def LH(H:DH)(m:Mc)(l:List Bool):DH:=H++[.cells 0 (bh m),.buf 1 true true (dY l),.cells 1 [.buf 1 (H.length+1) l.length],.cells 1 [.func 107 [] [.ptr (H.length+2) 0,.ptr H.length 0,.ptr (H.length+4) 0]],.cells 1 [.func 106 [] [.ptr (H.length+3) 0]]]
def Dz(H:DH)(X:List DB)(k:Nat):(H++X)[H.length+k]? = X[k]?:=by rw[anH (by omega)];congr 1;omega
def PF(H:DH)(m:Mc)(l:List Bool):NT m (LH H m l) (H.length+1) (H.length+2) H.length (H.length+4) (H.length+3) l :=
 ⟨Dz H _ 1,⟨1,Dz H _ 2⟩,⟨0,Dz H _ 0⟩,⟨1,Dz H _ 4⟩,⟨1,Dz H _ 3⟩⟩
def VD(H:DH)(m:Mc){l l':List Bool}(h:l'.length=l.length):(LH H m l).set (H.length+1) (.buf 1 true true (dY l'))=LH H m l':=by simp_all[LH]
def It{m:Mc}{n:Int}{l l':List Bool}(h:Lr m n l l')(H:DH):aq 107 [.i n,.ptr (H.length+2) 0,.ptr H.length 0,.ptr (H.length+4) 0] (LH H m l)=ret (.tuple []) (LH H m l'):=by refine ev (aiZ) ((h.p _ _ _ _ _ _ (PF H m l)).trans ?_);rw[VD H m h.up.len]
def Iu{m:Mc}{r:Re}{l l':List Bool}(h:Lr m (rt r) l l')(H:DH):aq 106 [.agg [.bool r.c,.i r.n],.ptr (H.length+3) 0] (LH H m l)=ret (.tuple []) (LH H m l'):=by
 rw[<- VD H m h.up.len];refine Uw (PF H m l) r (λhc=>?_) (λhc=>h.neg (by rw[rt,hc,Xi];decide));have:=h.p
 grind [rt]
def adS(l:aQ)(H:DH)(κ:D->av):aP ab 39 (.row 5 l) H κ=κ (.i l.length):=by kernel_rfl
def adR(l:aQ)(H:DH)(κ:D->av):aP ab 40 (.row 3 l) H κ=κ (.i l.length):=by kernel_rfl
def adT(l:aQ)(H:DH)(κ:D->av):aP ab 38 (.row 3 l) H κ=κ (.i l.length):=by kernel_rfl
def ahy(l:aQ)(i:Nat)(κ:D->av):ay ab 40 (.row 3 l) (.i i) κ=aX l i λcs=>κ (.eptr cs 0):=by kernel_rfl
def ahz(l:aQ)(i:Nat)(κ:D->av):ay ab 38 (.row 3 l) (.i i) κ=aX l i λcs=>κ (.eptr cs 0):=by kernel_rfl
def adX(a b c:D)(H:DH)(κ:D->av):bJ ab 117 (.eptr [a,b,c] 0) H κ=κ (.agg [a,b,c]):=by kernel_rfl
def adY(a b c:D)(H:DH)(κ:D->av):bJ ab 111 (.eptr [a,b,c] 0) H κ=κ (.agg [a,b,c]):=by kernel_rfl
def sm4(n:Nat):fg ab 4 n=Nat.ble (1*n) 100000000000000:=by kernel_rfl
def abp(n:Int)(κ:Int->av):szK (.i n) κ=κ n:=rfl
def RW(a b c:D)(κ:List D->av):aj 3 (.agg [a,b,c]) κ=κ [a,b,c]:=rfl
def ahu(x y z a b c:D)(κ:List D->av):aC [x,y,z] 0 [a,b,c] κ=κ [a,b,c]:=rfl
theorem MO(a b:D)(κ:List D->av):aj 2 (.agg [a,b]) κ=κ [a,b]:=rfl
def adP(x y a b:D)(κ:List D->av):aC [x,y] 0 [a,b] κ=κ [a,b]:=rfl
def RQ(x a:D)(κ:List D->av):aC [x] 0 [a] κ=κ [a]:=rfl
def uO(A:DH)(x y:DB):(A++[x]).set A.length y=A++[y]:=by rw[ajA _ _ (by omega),akN];rfl
def acS(A:DH)(x y z:DB):(A++[x]++[y]).set A.length z=A++[z]++[y]:=by rw[apm _ _ (by simp),uO]
def MD(m:Mc)(hce:m.ce.length<=1048576){H:DH}{n:Nat}{G:Pg}(h:fZ H n G):aq 52 [.ptr (n+5) 0,.agg (bh m)] H =
 ac au 52 200006 [.g (.ptr H.length 0),.g (.ptr (H.length+2) 0),.g (.ptr (H.length+3) 0),.g (.ptr (H.length+4) 0),.n G.cs.length,.n 0] [] (LH H m (List.replicate m.ce.length false)):=by
 obtain⟨st,h0⟩:=h.o;refine ev (f52) ?_;try dsimp only
 rw[ae (be H _)];simp only[bh,ai,aw]
 rw[adS,abh,abp,aI,show(Nat.ble m.ce.length 2199023255552&&fg ab 4 m.ce.length)=true by rw[sm4,abk];exact⟨acw (by omega),acw (by omega)⟩,boK,ge]
 rw[ae (be _ _),RQ];try dsimp only
 rw[uO];generalize e:DB.cells 0 [D.i m.mo,D.i m.ex,D.i m.en,D.bool m.vc,D.i m.vn,D.row 3 (List.map eg m.fr),D.row 5 (List.map dw m.ce),D.row 3 (List.map eX m.to),D.i m.bo,D.row 4 (List.map gR m.ou),D.i m.st]=x;rw[ae (be _ _),RQ];try dsimp only
 rw[uO,ae (aD _ (be _ _)),RQ];try dsimp only
 rw[acS,ae (cC _ (cC _ (cC _ (cC _ (cC _ h0)))))];simp only[ai,aw];rw[MH,LH,dY,apr,aom];subst e;simp only[abg,abf,ajL,ajo,agc];rfl
variable{m:Mc}{H:DH}
def lh0(H:DH)(m:Mc)(l:List Bool):(LH H m l)[H.length]? = some (.cells 0 (bh m)):=Dz H _ 0
theorem lh2(H:DH)(m:Mc)(l:List Bool):(LH H m l)[H.length+2]? = some (.cells 1 [.buf 1 (H.length+1) l.length]):=Dz H _ 2
def lh3(H:DH)(m:Mc)(l:List Bool):(LH H m l)[H.length+3]? = some (.cells 1 [.func 107 [] [.ptr (H.length+2) 0,.ptr H.length 0,.ptr (H.length+4) 0]]):=Dz H _ 3
def lh4(H:DH)(m:Mc)(l:List Bool):(LH H m l)[H.length+4]? = some (.cells 1 [.func 106 [] [.ptr (H.length+3) 0]]):=Dz H _ 4
def Fy(fr:List Fm)(i:Nat)(rs:List Re)(hl:rs.length<2^61):∀(suf pre:List Re) (l l':List Bool),rs=pre++suf->dZ m (suf.map rt) l l' ->
 ac au 52 200022 [.g (.ptr (H.length+2) 0),.g (.ptr (H.length+3) 0),.g (.ptr (H.length+4) 0),.g (.row 3 (fr.map eg)),.n fr.length,.n i,.g (.row 2 (rs.map cL)),.n rs.length,.n pre.length] [] (LH H m l) =
  ac au 52 200018 [.g (.ptr (H.length+2) 0),.g (.ptr (H.length+3) 0),.g (.ptr (H.length+4) 0),.g (.row 3 (fr.map eg)),.n fr.length,.n (bm (i+1))] [] (LH H m l')
 |[],pre,l,l',e,h=>by
  rw[show l'=l from h];have e2:rs.length=pre.length:=by rw[e];simp
  refine aW (Cr) ?_
  grind
 |r::suf,pre,l,l',e,⟨l1,j,k⟩=>by
  have hi:pre.length<rs.length:=by rw[e];simp
  have f:(rs.map cL)[pre.length]? = some (cL r):=by rw[e];exact bz _ _ _ _
  have ih:=Fy fr i rs hl suf (pre++[r]) l1 l' (by rw[e];simp) k;rw[abg,abf]at ih;refine aW (Cr) ?_;rw[gk hi,ge,VC,ak f,show cL r=[.bool r.c,.i r.n] from rfl,PC,MO,adP,ae (lh4 H m l)];simp only[ai,aw];rw[bZ PY];refine(am (Iu j H)).trans ?_;rw[uK pre.length (by omega)];exact ih
def Sg(f:Fm):List Int:=f.en::f.dn.map rt
def JF(fr:List Fm)(hl:fr.length<2^61)(k:∀ f∈fr,f.dn.length<2^61):∀(suf pre:List Fm) (l l':List Bool),fr=pre++suf->dZ m (suf.flatMap Sg) l l' ->
 ac au 52 200018 [.g (.ptr (H.length+2) 0),.g (.ptr (H.length+3) 0),.g (.ptr (H.length+4) 0),.g (.row 3 (fr.map eg)),.n fr.length,.n pre.length] [] (LH H m l)=ret (.buf 1 (H.length+1) l.length) (LH H m l')
 |[],pre,l,l',e,h=>by
  rw[show l'=l from h];have e2:fr.length=pre.length:=by rw[e];simp
  refine aW (Cs) ?_
  grind [ae,lh2,ai]
 |f::suf,pre,l,l',e,h=>by
  have hi:pre.length<fr.length:=by rw[e];simp
  have j:(fr.map eg)[pre.length]? = some (eg f):=by rw[e];exact bz _ _ _ _
  have p:=k f (by rw[e];simp);rw[List.flatMap_cons]at h;obtain⟨l1,⟨l0,h0,o⟩,q⟩:=dZ.app h;have ih:=JF fr hl k suf (pre++[f]) l1 l' (by rw[e];simp) q;rw[abg,abf,(dZ.up o).1.len,h0.up.len]at ih;refine aW (Cs) ?_;rw[gk hi,ge,ahz,ak j,show eg f=[.i f.ex,.i f.en,.row 2 (f.dn.map cL)] from rfl,adY,RW,ahu,ae (lh3 H m l)];simp only[ai,aw];rw[bZ PW];refine(am (It h0 H)).trans ?_;rw[PB,abh];refine(Fy fr pre.length f.dn p f.dn [] l0 l1 rfl o).trans ?_;rw[uK pre.length (by omega)];exact ih
def JE(j:m.to.length<2^61)(hl:m.fr.length<2^61)(o:∀ f∈m.fr,f.dn.length<2^61):∀(suf pre:List To) (l l':List Bool),m.to=pre++suf->dZ m (suf.map (λt=>rt t.r)++m.fr.flatMap Sg) l l' ->
 ac au 52 200013 [.g (.ptr H.length 0),.g (.ptr (H.length+2) 0),.g (.ptr (H.length+3) 0),.g (.ptr (H.length+4) 0),.g (.row 3 (m.to.map eX)),.n m.to.length,.n pre.length] [] (LH H m l)=ret (.buf 1 (H.length+1) l.length) (LH H m l')
 |[],pre,l,l',e,h=>by
  have q:m.to.length=pre.length:=by rw[e];simp
  refine aW (Ct) ?_;rw[q,yV _,Xi,ae (lh0 H m l)];simp only[bh,ai,aw];rw[adT,abh];exact JF m.fr hl o m.fr [] l l' rfl h
 |t::suf,pre,l,l',e,h=>by
  have hi:pre.length<m.to.length:=by rw[e];simp
  have k:(m.to.map eX)[pre.length]? = some (eX t):=by rw[e];exact bz _ _ _ _
  obtain⟨l1,p,s⟩:=h;have ih:=JE j hl o suf (pre++[t]) l1 l' (by rw[e];simp) s;rw[abg,abf,p.up.len]at ih;refine aW (Ct) ?_;rw[gk hi,ge,ahy,ak k,show eX t=[.str t.nm,.bool t.r.c,.i t.r.n] from rfl,adX,RW,ahu,ae (lh4 H m l)];simp only[ai,aw];rw[bZ PY];refine(am (Iu p H)).trans ?_;rw[uK pre.length (by omega)];exact ih
def fnI(a b:Nat):List Int:=(List.range' a b).map λi:Nat=>(i:Int)
def kw(m:Mc)(nf:Nat):List Int:=fnI 0 nf++(rt ⟨m.vc,m.vn⟩::m.en::(m.to.map (λt=>rt t.r)++m.fr.flatMap Sg))
def JG(i:m.to.length<2^61)(hl:m.fr.length<2^61)(q:∀ f∈m.fr,f.dn.length<2^61):∀(b a nf:Nat) (l l':List Bool),a+b=nf->nf<2^61->dZ m (fnI a b++(rt ⟨m.vc,m.vn⟩::m.en::(m.to.map (λt=>rt t.r)++m.fr.flatMap Sg))) l l' ->
 ac au 52 200006 [.g (.ptr H.length 0),.g (.ptr (H.length+2) 0),.g (.ptr (H.length+3) 0),.g (.ptr (H.length+4) 0),.n nf,.n a] [] (LH H m l)=ret (.buf 1 (H.length+1) l.length) (LH H m l')
 |0,a,nf,l,l',e,_,h=>by
  obtain⟨l1,j,l2,o,s⟩:dZ m (rt ⟨m.vc,m.vn⟩::m.en::(m.to.map (λt=>rt t.r)++m.fr.flatMap Sg)) l l':=h;have u:nf=a:=by omega
  have k:=JE (H:=H) i hl q m.to [] l2 l' rfl s;rw[o.up.len,j.up.len]at k;refine aW (Cu) ?_;rw[u,yV _,Xi,ae (lh4 H m l)];simp only[ai];rw[ae (lh0 H m l)];simp only[bh,ai,aw];rw[bZ PY];refine(am (Iu j H)).trans ?_;rw[ae (lh3 H m l1),ai,ae (lh0 H m l1)];simp only[bh,ai,aw];rw[bZ PW];refine(am (It o H)).trans ?_;rw[ae (lh0 H m l2)];simp only[bh,ai,aw];rw[adR,abh];exact k
 |b+1,a,nf,l,l',e,p,h=>by
  have hi:a<nf:=by omega
  rw[fnI,List.range'_succ,ads,ajo]at h;obtain⟨l1,j,o⟩:=h;have ih:=JG i hl q b (a+1) nf l1 l' (by omega) p o;rw[j.up.len]at ih;refine aW (Cu) ?_;rw[gk hi,ge,ae (lh3 H m l),ai,bZ PW];refine(am (It j H)).trans ?_;rw[uK a (by omega)];exact ih
def Vw(m:Mc)(e:m.ce.length<=1048576)(g:m.to.length<2^61)(hl:m.fr.length<2^61)(i:∀ f∈m.fr,f.dn.length<2^61){n:Nat}{G:Pg}(h:fZ H n G)(j:G.cs.length<2^61){l':List Bool}(hc:dZ m (kw m G.cs.length) (List.replicate m.ce.length false) l') :
 aq 52 [.ptr (n+5) 0,.agg (bh m)] H=ret (.buf 1 (H.length+1) m.ce.length) (LH H m l'):=by
 rw[MD m e h];have:=JG (H:=H) g hl i G.cs.length 0 G.cs.length _ l' (by omega) j hc;rw[aom]at this;exact this
variable{m:Mc}{H:DH}
def Iw:∀ {a b:List Bool},dY a=dY b->a=b
 |[],[],_=>rfl
 |[],_::_,h=>by cases h
 |_::_,[],h=>by cases h
 |x::a,y::b,h=>by simp only[dY,ads,aou,D.bool.injEq,apg]at h;rw[h.1,Iw h.2]
def UW(m:Mc){n:Int}{l l':List Bool}(h:RM m n l l'){o:Nat}(hb:H[o]? = some (.buf 1 true true (dY l))):aq 54 [.agg (bh m),.i n,.buf 1 o l.length] H=ret (.tuple []) (H.set o (.buf 1 true true (dY l'))):=ev (f54) (h H o hb)
def Zn(m:Mc){i:Nat}{c:Ce}(j:m.ce[i]? = some c)(hr:c.refs=[])(hn:c.nx=-1){l l':List Bool}(hl:l.length=m.ce.length)(h:Lr m i l l'):l'=l.set i true:=by
 have hi:i<l.length:=by rw[hl];exact(acy.1 j).1
 cases hb:l[i]with
 |true =>
  have k:l[i]? = some true:=by rw[abI hi,hb]
  have p:=h.r [.buf 1 true true (dY l)] 0 rfl;have f:=(wv m (n:=(i:Int)) (.inr ⟨i,rfl,k⟩)).2 [.buf 1 true true (dY l)] 0 rfl;rw[p]at f;simp only[ret,apf,acf,iY.mk.injEq,aou,DB.buf.injEq,aoU,apg]at f;rw[Iw f,gB k]
 |false =>
  have k:l[i]? = some false:=by rw[abI hi,hb]
  have o:(dY l).set i [.bool true]=dY (l.set i true):=zZ _ _ _;have q:aC [D.bool false] 0 [.bool true]=λκ:List D->av=>κ [.bool true]:=rfl;have p:=h.r [.buf 1 true true (dY l)] 0 rfl;have f:ac au 54 200001 [.n i,.g (.buf 1 0 l.length),.lp 0 0] [(0,bh m)] [.buf 1 true true (dY l)]=ret (.tuple []) [.buf 1 true true (dY (l.set i true))]:=by
   have e:([.buf 1 true true (dY l)]:DH)[0]? = some (.buf 1 true true (dY l)):=rfl;refine aW (rZ) ?_;rw[show decide ((i:Int)>=0)=true by simp,ge,aI,gh hi,boK,ge,lS e,ak (lT k),ai,aK,ao];simp only[ajM,ge];rw[aI,gh hi,boK,ge,lS e,boK,ge,ak (lT k),q];simp only[o];rw[aI,ak (show(m.ce.map dw)[i]? = some (dw c)by rw[aiE,j];rfl)];simp only[dw,aw,ai,apf];have k53:aq 53 [.agg (bh m),.row 2 (c.refs.map cL),.buf 1 0 l.length] [.buf 1 true true (dY (l.set i true))]=ret (.tuple []) [.buf 1 true true (dY (l.set i true))]:=by rw[hr];refine ev (f53) (aW (kH) ?_);rfl
   refine(am k53).trans ?_;have hm:=(wv m (n:=(-1:Int)) (l:=l.set i true) (.inl (by decide))).2 [.buf 1 true true (dY (l.set i true))] 0 rfl
   grind [bu,ao]
  rw[p]at f;simp only[ret,apf,acf,iY.mk.injEq,aou,DB.buf.injEq,aoU,apg]at f;exact Iw f
variable{m:Mc}
def OQ(rs:List Re)(hl:rs.length<2^61):∀(suf pre:List Re) (l l':List Bool),rs=pre++suf->dZ m (suf.map rt) l l'->∀(H:DH) (o:Nat),H[o]? = some (.buf 1 true true (dY l)) ->
 ac au 53 200002 [.g (.row 2 (rs.map cL)),.g (.buf 1 o l.length),.lp 0 0,.n pre.length] [(0,bh m)] H=ret (.tuple []) (H.set o (.buf 1 true true (dY l')))
 |[],pre,l,l',e,h,H,o,hb=>by
  rw[show l'=l from h,gB hb];have e2:rs.length=pre.length:=by rw[e];simp
  refine aW (kH) ?_
  grind
 |r::suf,pre,l,l',e,⟨l1,k,p⟩,H,o,hb=>by
  have hi:pre.length<rs.length:=by rw[e];simp
  have f:(rs.map cL)[pre.length]? = some (cL r):=by rw[e];exact bz _ _ _ _
  have ih:=OQ rs hl suf (pre++[r]) l1 l' (by rw[e];simp) p (H.set o (.buf 1 true true (dY l1))) o (ba _ hb);rw[abg,abf,k.up.len,agd]at ih;have hw:bm ((pre.length:Int)+1)=((pre.length+1:Nat):Int):=aE (by omega);refine aW (kH) ?_;rw[abh,gk hi,ge,aI,ak f,show cL r=[.bool r.c,.i r.n] from rfl,ai,ao];cases j:r.c with
  |false =>
   have e1:=k.neg (by rw[rt,j,Xi];decide)
   grind [gB]
  |true =>
   have hr:=k.r;rw[rt,j]at hr;rw[ge,aI,ak f,show cL r=[.bool r.c,.i r.n] from rfl];simp only[ai,aw];refine(aH (UW m hr hb)).trans ?_
   grind
def XD(rs:List Re)(hl:rs.length<2^61){l l':List Bool}(h:dZ m (rs.map rt) l l'){H:DH}{o:Nat}(hb:H[o]? = some (.buf 1 true true (dY l))):aq 53 [.agg (bh m),.row 2 (rs.map cL),.buf 1 o l.length] H=ret (.tuple []) (H.set o (.buf 1 true true (dY l'))) :=
 ev (f53) (OQ rs hl rs [] l l' rfl h H o hb)
def abV(hl:m.fr.length<2^61)(p:∀ f∈m.fr,f.dn.length<2^61):∀(suf pre:List Fm) (l l':List Bool),m.fr=pre++suf->dZ m (suf.flatMap Sg) l l'->∀(H:DH) (o:Nat),H[o]? = some (.buf 1 true true (dY l)) ->
 ac au 27 200016 [.lp 1 0,.g (.buf 1 o l.length),.n pre.length] [(0,[]),(0,bh m)] H=ret (.tuple [.buf 1 o l.length,.i 0]) (H.set o (.buf 1 true true (dY l')))
 |[],pre,l,l',e,h,H,o,hb=>by
  rw[show l'=l from h,gB hb];have e2:m.fr.length=pre.length:=by rw[e];simp
  refine aW (CL) ?_
  grind
 |f::suf,pre,l,l',e,h,H,o,hb=>by
  have hi:pre.length<m.fr.length:=by rw[e];simp
  have j:(m.fr.map eg)[pre.length]? = some (eg f):=by rw[e];exact bz _ _ _ _
  rw[List.flatMap_cons]at h;obtain⟨l1,⟨l0,h0,q⟩,t⟩:=dZ.app h;have k:=ba (.buf 1 true true (dY l0)) hb;have k53:=XD f.dn (p f (by rw[e];simp)) q k;have ih:=abV hl p suf (pre++[f]) l1 l' (by rw[e];simp) t (H.set o (.buf 1 true true (dY l1))) o (ba _ hb);rw[abg,abf,(dZ.up q).1.len,h0.up.len,agd]at ih;rw[h0.up.len,agd]at k53;have s:eg f=[.i f.ex,.i f.en,.row 2 (f.dn.map cL)]:=rfl;refine aW (CL) ?_;rw[abh,gk hi,ge,aI,ak j,s];simp only[ai,aw];refine(aH (UW m h0.r hb)).trans ?_;rw[aI,ak j,s];simp only[ai,aw];refine(aH k53).trans ?_;rw[uK pre.length (by omega)];exact ih
def abl(j:m.to.length<2^61)(hl:m.fr.length<2^61)(p:∀ f∈m.fr,f.dn.length<2^61):∀(suf pre:List To) (l l':List Bool),m.to=pre++suf->dZ m (suf.map (λt=>rt t.r)++m.fr.flatMap Sg) l l'->∀(H:DH) (o:Nat),H[o]? = some (.buf 1 true true (dY l)) ->
 ac au 27 200012 [.lp 1 0,.g (.buf 1 o l.length),.n pre.length] [(0,[]),(0,bh m)] H=ret (.tuple [.buf 1 o l.length,.i 0]) (H.set o (.buf 1 true true (dY l')))
 |[],pre,l,l',e,h,H,o,hb=>by
  have s:m.to.length=pre.length:=by rw[e];simp
  refine aW (CM) ?_;rw[abh,s,yV _,Xi];exact abV hl p m.fr [] l l' rfl h H o hb
 |t::suf,pre,l,l',e,⟨l1,q,u⟩,H,o,hb=>by
  have hi:pre.length<m.to.length:=by rw[e];simp
  have k:(m.to.map eX)[pre.length]? = some (eX t):=by rw[e];exact bz _ _ _ _
  have ih:=abl j hl p suf (pre++[t]) l1 l' (by rw[e];simp) u (H.set o (.buf 1 true true (dY l1))) o (ba _ hb);rw[abg,abf,q.up.len,agd]at ih;have k53:=XD (m:=m) [t.r] (by simp) (l':=l1) ⟨l1,q,rfl⟩ hb;refine aW (CM) ?_;rw[abh,gk hi,ge,aI,ak k,show eX t=[.str t.nm,.bool t.r.c,.i t.r.n] from rfl];simp only[ai,aw];refine(aH k53).trans ?_;rw[uK pre.length (by omega)];exact ih
def aiG(o c k:Nat)(κ:D->av):bI (.ptr o c) k κ=κ (.ptr o (c+k)):=rfl
def abN(o c:Nat)(H:DH)(κ:D->av):bJ ab 39 (.ptr o c) H κ=aB H o λ_ cs=>ah cs c κ:=by kernel_rfl
def PA(s o n:Nat)(H:DH)(κ:D->av):aP ab 39 (.buf s o n) H κ=κ (.i (n:Int)):=by kernel_rfl
def abX(L:List De)(G:Rf)(p:∀ H:DH,∃ st,aq 36 [.agg [.row 14 (L.map bG)]] H=ret (.ptr (H.length+5) 0) (RX H st G))(B:G.fs.length<2^61)(u:∀ i:Nat,i<G.fs.length->∃ c,m.ce[i]? = some c/\c.refs=[]/\c.nx=-1)
 (v:m.to.length<2^61) (hl:m.fr.length<2^61) (A:∀ f∈m.fr,f.dn.length<2^61) :
 ∀(b a:Nat) (l l':List Bool),a+b=G.fs.length->l.length=m.ce.length->dZ m (fnI a b++(rt ⟨m.vc,m.vn⟩::m.en::(m.to.map (λt=>rt t.r)++m.fr.flatMap Sg))) l l'->∀(H:DH) (o:Nat),H[o]? = some (.buf 1 true true (dY l)) ->
 ∃ J,ac au 27 200006 [.lp 0 0,.lp 1 0,.g (.buf 1 o l.length),.n a] [(0,[.row 14 (L.map bG)]),(0,bh m)] H=ret (.tuple [.buf 1 o l.length,.i 0]) (H.set o (.buf 1 true true (dY l'))++J)
 |0,a,l,l',e,j,h,H,o,hb=>by obtain⟨l1,q,l2,x,E⟩:dZ m (rt ⟨m.vc,m.vn⟩::m.en::(m.to.map (λt=>rt t.r)++m.fr.flatMap Sg)) l l':=h;obtain⟨st,y⟩:=p H;have k:(RX H st G)[o]? = some (.buf 1 true true (dY l)):=cC _ hb;have s:=ba (.buf 1 true true (dY l1)) k;have z:=ba (.buf 1 true true (dY l2)) k;have k53:=XD (m:=m) [⟨m.vc,m.vn⟩] (by simp) (l':=l1) ⟨l1,q,rfl⟩ k;have k54:=UW m x.r s;have kt:=abl v hl A m.to [] l2 l' rfl E _ o z;rw[q.up.len,agd]at k54;rw[x.up.len,q.up.len,agd]at kt;refine⟨RL H.length st G,?_⟩;refine aW (CN) ?_;refine(am y).trans ?_;rw[vR,aiG,abN,ae (uP H st G)];simp only[afY,ai,aw];rw[PA,aN,ao,show decide ((a:Int)<(G.fs.length:Int))=false by rw[<- e];simp,Xi];refine(am k53).trans ((am k54).trans (kt.trans ?_));rw[RX,apm _ _ (dl hb)]
 |b+1,a,l,l',e,j,h,H,o,hb=>by
  rw[fnI,List.range'_succ,ads,ajo]at h;obtain⟨l1,q,x⟩:=h;have hi:a<G.fs.length:=by omega
  obtain⟨c,c1,c2,c3⟩:=u a hi;have F:l1=l.set a true:=Zn m c1 c2 c3 j q;have w:a<l.length:=by rw[j];exact(acy.1 c1).1
  obtain⟨st,y⟩:=p H;have k:(RX H st G)[o]? = some (.buf 1 true true (dY l)):=cC _ hb;have s:=ba (.buf 1 true true (dY l1)) k;obtain⟨J,ih⟩:=abX L G p B u v hl A b (a+1) l1 l' (by omega) (q.up.len.trans j) x _ o s;rw[q.up.len,agd]at ih;refine⟨RL H.length st G++J,?_⟩;refine aW (CN) ?_;refine(am y).trans ?_;rw[vR,aiG,abN,ae (uP H st G)];simp only[afY,ai,aw];rw[PA,aN,ao,gk hi,ge,aI,gh w,boK,ge,lS k,boK,ge,ak (lT (abI w)),RQ];rw[zZ,<- F,uK a (by omega)]
  grind [RX]
def aht(m:Mc)(hce:m.ce.length<=1048576)(e:m.to.length<2^61)(g:m.fr.length<2^61)(o:∀ f∈m.fr,f.dn.length<2^61)(l:List De)(G:Rf)(j:∀ H:DH,∃ st,aq 36 [.agg [.row 14 (l.map bG)]] H=ret (.ptr (H.length+5) 0) (RX H st G))(p:G.fs.length<2^61)
 (k:∀ i:Nat,i<G.fs.length->∃ c,m.ce[i]? = some c/\c.refs=[]/\c.nx=-1) {lv:List Bool} (hc:dZ m (kw m G.fs.length) (List.replicate m.ce.length false) lv) (H:DH) (n:aq 25 [.agg [.row 14 (l.map bG)],.agg (bh m)] H=ret (.i 0) H) :
 ∃ J,aq 27 [.agg [.row 14 (l.map bG)],.agg (bh m)] H=ret (.tuple [.buf 1 H.length m.ce.length,.i 0]) (H++[.buf 1 true true (dY lv)]++J):=by
 have hb:(H++[.buf 1 true true (List.replicate m.ce.length [.bool false])])[H.length]? = some (.buf 1 true true (dY (List.replicate m.ce.length false))):=by rw[be,dY,apr]
 obtain⟨J,h⟩:=abX (m:=m) l G j p k e g o G.fs.length 0 (List.replicate m.ce.length false) lv (by omega) (aom ..) hc _ H.length hb;rw[aom,uO]at h;refine⟨J,ev (f27) ?_⟩
 rw[am n,bu,ao,show((0:Int) != 0)=false from rfl,Xi,abh,aI,show(Nat.ble m.ce.length 2199023255552&&fg ab 4 m.ce.length)=true by rw[sm4,abk];exact⟨acw (by omega),acw (by omega)⟩,boK,ge]
 exact h
def akK(m:Mc)(e:m.ce.length<=1048576)(g:m.to.length<2^61)(h:m.fr.length<2^61)(k:∀ f∈m.fr,f.dn.length<2^61)(l:List De)(G:Pg)(n:G.cs.length<2^61){lv:List Bool}(hc:dZ m (kw m G.cs.length) (List.replicate m.ce.length false) lv)(H X:DH)
 (j:aq 37 [.agg [.row 14 (l.map bG)],.agg (bh m)] H=ret (.tuple [.ptr (H.length+5) 0,.i 0]) (H++X)) (o:fZ (H++X) H.length G) :
 aq 26 [.agg [.row 14 (l.map bG)],.agg (bh m)] H=ret (.tuple [.buf 1 ((H++X).length+1) m.ce.length,.i 0]) (LH (H++X) m lv):=by
 refine ev (f26) ?_;rw[am j];simp only[dU,ai,aw];rw[bu,ao,show((0:Int) != 0)=false from rfl,Xi];exact am (Vw m e g h k o n hc)
def EW{P:Program}{t:TypeId}{m b:Nat}(h:aG P t m=(Nat.ble (b*(m+Nat.div m 4+600)) 281474976710656&&Nat.ble m 4611686018427387904))(hb:b<=1000)(hm:m<=4194304):aG P t m=true:=by rw[h,abk];refine⟨acw ?_,acw (by omega)⟩;have h1:Nat.div m 4<=m:=Nat.div_le_self m 4;have h2:b*(m+Nat.div m 4+600)<=1000*(4194304+4194304+600):=Nat.mul_le_mul hb (by omega);omega
def YE{m:Nat}(h:m<=4194304):aG ab 37 m=true:=EW (b:=16) (by kernel_rfl) (by decide) h
def OM{m:Nat}(h:m<=4194304):aG ab 111 m=true:=EW (b:=40) (by kernel_rfl) (by decide) h
def EX{m:Nat}(h:m<=4194304):aG ab 115 m=true:=EW (b:=64) (by kernel_rfl) (by decide) h
def OL{m:Nat}(h:m<=4194304):aG ab 117 m=true:=EW (b:=32) (by kernel_rfl) (by decide) h
def agI{m:Nat}(h:m<=4194304):aG ab 74 m=true:=EW (b:=64) (by kernel_rfl) (by decide) h
def agJ{m:Nat}(h:m<=4194304):aG ab 72 m=true:=EW (b:=48) (by kernel_rfl) (by decide) h
def eF(H:DH)(sz:Nat)(l:aQ)(d:D):Prop:=d=.row sz l\/(d=.nilrow/\l=[])\/∃ o st cp,d=.buf sz o l.length/\H[o]? = some (.buf sz st cp l)
def SY(H:DH)(cs:List D)(c:Nat)(a:D):Prop:=a=.eptr cs c\/∃ o i sz st cp l,a=.bptr o (List.length l) i c/\H[o]? = some (.buf sz st cp l)/\l[i]? = some cs
variable{H:DH}{sz:Nat}{l:aQ}{d a:D}{cs:List D}{c:Nat}{P:Program}{ty el:TypeId}
def eF.len(h:eF H sz l d)(e:P.underlying ty=some (.slice el))(κ:D->av):aP P ty d H κ=κ (.i l.length):=by rcases h with rfl|⟨rfl,rfl⟩|⟨o,st,cp,rfl,_⟩<;>(rw[aP,e];try rfl)
def eF.ix(h:eF H sz l d)(e:P.underlying ty=some (.slice el))(f:size P el=some sz){i:Nat}(hi:l[i]? = some cs):∃ a,SY H cs 0 a/\∀ κ:D->av,ay P ty d (.i i) κ=κ a:=by
 rcases h with rfl|⟨rfl,rfl⟩|⟨o,st,cp,rfl,hb⟩
 .refine⟨.eptr cs 0,.inl rfl,λκ=>?_⟩;rw[ay,e];simp only[f,MT,ajG,ge,aI,ak hi]
 .cases hi
 .refine⟨.bptr o l.length i 0,.inr ⟨o,i,sz,st,cp,l,rfl,hb,hi⟩,λκ=>?_⟩;rw[ay,e];simp only[f,MT,ajG,ge,aI,gh (acy.1 hi).1,boK]
def SY.fad(h:SY H cs c a)(k:Nat):∃ e,SY H cs (c+k) e/\∀ κ:D->av,bI a k κ=κ e:=by
 rcases h with rfl|⟨o,i,sz,st,cp,l,rfl,hb,hi⟩
 .exact⟨.eptr cs (c+k),.inl rfl,λ_=>rfl⟩
 .exact⟨.bptr o l.length i (c+k),.inr ⟨o,i,sz,st,cp,l,rfl,hb,hi⟩,λ_=>rfl⟩
def SY.ld(h:SY H cs c a)(κ:D->av):bJ P ty a H κ=bL P ty cs c κ:=by
 rcases h with rfl|⟨o,i,sz,st,cp,l,rfl,hb,hi⟩
 .rfl
 .rw[bJ,cy hb,ak hi]
def cU(sz n:Nat)(l:aQ):D:=match l with
 |[]=>.nilrow
 |_::_=>.buf sz n l.length
def jW(sz:Nat)(l:aQ):DH:=match l with
 |[]=>[]
 |_::_=>[.buf sz true false l]
def uq{ok:Nat->Bool}(sz:Nat)(l:aQ)(h0:ok 0=true)(h:ok l.length=true)(H:DH):(lN .eql l λa=>brD a (ret .nilrow H) (bQ ok sz .nilrow l H λa H=>ret a H))=ret (cU sz H.length l) (H++jW sz l):=by
 cases l with
 |nil =>
  rw[Bi,brD,Gr,jW,ajH];have:bQ ok sz .nilrow [] H (λa H=>ret a H)=ret .nilrow H:=by simp only[bQ,anR,h0,boK,ge]
  rw[this,akJ rfl];rfl
 |cons x r =>rw[wq,ao,Xi,qm h];rfl
def ajj(l:aQ)(hl:l.length<=4194304)(H:DH):aq 76 [.row 3 l] H=ret (cU 3 H.length l) (H++jW 3 l):=ev (f76) (uq 3 l (OM (by omega)) (OM hl) H)
def aji(l:aQ)(hl:l.length<=4194304)(H:DH):aq 77 [.row 5 l] H=ret (cU 5 H.length l) (H++jW 5 l):=ev (f77) (uq 5 l (EX (by omega)) (EX hl) H)
def ajh(l:aQ)(hl:l.length<=4194304)(H:DH):aq 78 [.row 3 l] H=ret (cU 3 H.length l) (H++jW 3 l):=ev (f78) (uq 3 l (OL (by omega)) (OL hl) H)
def ajg(l:aQ)(hl:l.length<=4194304)(H:DH):aq 79 [.row 4 l] H=ret (cU 4 H.length l) (H++jW 4 l):=ev (f79) (uq 4 l (agI (by omega)) (agI hl) H)
def ack(l:aQ)(hl:l.length<=4194304)(H:DH):aq 80 [.row 2 l] H=ret (cU 2 H.length l) (H++jW 2 l):=ev (f80) (uq 2 l (YE (by omega)) (YE hl) H)
def uJ(H:DH)(b sz:Nat)(l:aQ)(d:D):Prop:=(d=.nilrow/\l=[])\/∃ o,d=.buf sz o l.length/\b<=o/\H[o]? = some (.buf sz true false l)
def uJ.is{b:Nat}(h:uJ H b sz l d):eF H sz l d:=by
 rcases h with h|⟨o,e,_,hb⟩
 .exact .inr (.inl h)
 .exact .inr (.inr ⟨o,true,false,e,hb⟩)
def dI(b:Nat)(H H':DH):Prop:=H.length<=H'.length/\∀ i,i<b->H'[i]? = H[i]?
theorem dI.refl(b:Nat)(H:DH):dI b H H:=⟨abH _,λ_ _=>rfl⟩
def dI.trans{b:Nat}{e f g:DH}(h:dI b e f)(k:dI b f g):dI b e g:=⟨akG h.1 k.1,λi hi=>(k.2 i hi).trans (h.2 i hi)⟩
theorem uJ.put{b:Nat}{ok:Nat->Bool}(h:uJ H b sz l d)(g:b<=H.length)(e:ok 1=true)(j:ok (l.length+1)=true)(x:List D):∃ f H',(∀ κ:D->DH->av,bQ ok sz d [x] H κ=κ f H')/\uJ H' b sz (l++[x]) f/\dI b H H':=by
 rcases h with⟨rfl,rfl⟩|⟨o,rfl,ho,hb⟩
 .refine⟨.buf sz H.length 1,H++[.buf sz true false [x]],λκ=>qm (r:=[]) e,.inr ⟨H.length,rfl,g,be H _⟩,by simp,λi hi=>?_⟩
  grind
 .refine⟨.buf sz o (l.length+1),H.set o (.buf sz true false (l++[x])),λκ=>lU hb e j,.inr ⟨o,by simp,ho,ba _ hb⟩,by simp,λi hi=>?_⟩
  grind
mutual
def Va.sm:Va->Prop
 |.mk _ _ xs=>xs.length<=1048576/\Va.sms xs
def Va.sms:List Va->Prop
 |[]=>True
 |v::r=>v.sm/\Va.sms r
end
mutual
theorem acB(n:Nat):∀ v:Va,eB n (kU v)
 |.mk c k xs=>by simp only[kU,eB,D.bel,aoU,apg];exact GE n xs
theorem GE(n:Nat):∀ l:List Va,dH n (ff l)
 |[]=>trivial
 |v::r=>⟨acB n v,GE n r⟩
end
def Ao{H H':DH}{d:D}(h:dI H.length H H')(g:d.bel H.length):bj H (ret d H')=ret d H:=by
 have e:H'.take H.length=H:=by
  refine aoC λi=>?_;rw[apc];split
  .rename_i hi;exact h.2 i hi
  grind
 have ht:nU H ⟨.ret d,none,H'⟩:=⟨by simpa only[EF.bel]using g,rfl,h.1,λi b hi f=>.inl (by rw[h.2 i hi]at f;exact f)⟩;simp_all[bj]
def uJ.fz{H:DH}{b sz:Nat}{l:aQ}{d:D}(h:uJ H b sz l d)(hb:b<=H.length):∃ H',(∀ κ:D->DH->av,eZ (.fz sz) d H κ=κ (.row sz l) H')/\dI b H H':=by
 rcases h with⟨rfl,rfl⟩|⟨o,rfl,ho,e⟩
 .exact⟨H,λ_=>rfl,dI.refl _ _⟩
 .refine⟨H.set o (.buf sz false false l),λκ=>wz e,by simp,λi hi=>?_⟩
  grind
def uJ.c1{H:DH}{b sz:Nat}{l:aQ}{d:D}(h:uJ H b sz l d)(κ:List D->av):aj 1 d κ=κ [d]:=by rcases h with⟨rfl,_⟩|⟨o,rfl,_⟩<;>rfl
def NC(sz n:Nat)(l:aQ)(κ:List D->av):aj 1 (cU sz n l) κ=κ [cU sz n l]:=by cases l<;>rfl
def abJ(x y z a:D)(κ:List D->av):aC [x,y,z] 2 [a] κ=κ [x,y,a]:=rfl
mutual
def ajb:∀ v:Va,v.sm->∀ H:DH,aq 81 [.agg (kU v)] H=ret (.agg (kU v)) H
 |.mk c n xs,h,H=>by
  obtain⟨H',k,e⟩:=acd c n xs h.1 xs [] rfl h.2 H .nilrow H.length [] 0 .nilrow (.inl ⟨rfl,rfl⟩) (abH _);refine ev (f81) ?_;rw[dM];refine(anL (bj H) e).trans (Ao k ?_)
  grind [D.bel,eB,GE]
def acd(c:af)(n:Int)(xs:List Va)(hl:xs.length<=1048576):∀(suf pre:List Va),xs=pre++suf->Va.sms suf->∀(H:DH) (m:D) (b:Nat) (e:af) (h:Int) (j:D),uJ H b 3 (ff pre) m->b<=H.length ->
 ∃ H',dI b H H'/\ac au 81 200003 [.lp 1 0,.lp 2 0,.g (.row 3 (ff xs)),.n xs.length,.n pre.length] [(0,[]),(0,[.str e,.i h,j]),(0,[.str c,.i n,m])] H=ret (.agg (xV c n (ff xs))) H'
 |[],pre,o,_,H,m,b,e,h,j,q,hb=>by
  have e2:xs=pre:=by rw[o];simp
  obtain⟨H',hf,k⟩:=q.fz hb;refine⟨H',k,aW (Cc) ?_⟩
  grind
 |v::suf,pre,o,s,H,m,b,e,h,j,q,hb=>by
  have hi:pre.length<xs.length:=by rw[o];simp
  have r:(ff xs)[pre.length]? = some (kU v):=by rw[o];exact sE _ _ _
  obtain⟨w,x,hp,f,t⟩:=q.put (ok:=aG ab 72) hb (agJ (by omega)) (agJ (by rw[dM];omega)) (kU v);have p:ff pre++[kU v]=ff (pre++[v]):=by simp[oz]
  rw[p]at f;obtain⟨y,z,ih⟩:=acd c n xs hl suf (pre++[v]) (by rw[o];simp) s.2 x w b e h j f (akG hb t.1);rw[abg,abf]at ih;have u:=ajb v s.1 H;obtain⟨vc,vn,vx⟩:=v;refine⟨y,t.trans z,aW (Cc) ?_⟩;rw[gk hi,ge,aI,ak r];simp only[kU]at u ⊢;simp only[ai,aw];refine(aH u).trans ?_;rw[RW];simp only[kU]at hp;rw[hp,f.c1,abJ,uK pre.length (by omega)];exact ih
end
def dC(l:List Int):aQ:=l.map λn=>[.i n]
theorem Wa(l:List Int):(dC l).length=l.length:=abh ..
theorem zQ{l:List Int}{i:Nat}{n:Int}(h:l[i]? = some n):(dC l)[i]? = some [.i n]:=by rw[dC,aiE,h];rfl
def LE(to:List Int)(n:Int):Int:=(to[n.toNat]?).getD 0
def et(to:List Int)(r:Re):Re:=bif r.c then⟨r.c,LE to r.n⟩else r
def qw(to:List Int)(n:Int):Int:=bif decide (n<0)then n else LE to n
abbrev iK(k:Nat)(r:Re):Prop:=r.c=true->0<=r.n/\r.n<k
def NI{H:DH}{o:Nat}{st cp:Bool}{l:List Int}{κ:Nat->Bool->Bool->aQ->av}(h:H[o]? = some (.buf 1 st cp (dC l))):cH H o l.length κ=κ 1 st cp (dC l):=by grind [cy,Wa]
def abL(o n i:Nat)(κ:D->av):ay ab 25 (.buf 1 o n) (.i i) κ=boK (Nat.blt i n) (κ (.bptr o n i 0)):=by kernel_rfl
def ahx(o n i:Nat)(H:DH)(κ:D->av):bJ ab 3 (.bptr o n i 0) H κ=cH H o n λ_ _ _ l=>aX l i λcs=>ah cs 0 κ:=by kernel_rfl
def UA{H:DH}{o:Nat}{st cp:Bool}{to:List Int}(hb:H[o]? = some (.buf 1 st cp (dC to))){n:Int}(h0:0<=n)(h1:n<to.length)(κ:D->av):(ay ab 25 (.buf 1 o to.length) (.i n) λa=>bJ ab 3 a H κ)=κ (.i (LE to n)):=by
 obtain⟨i,rfl⟩:=anW h0;have hi:i<to.length:=by omega
 have e:to[i]? = some (to[i]):=abI hi;rw[abL,gh hi,boK,ge,ahx,NI hb,ak (zQ e),ai,LE,anE,e];rfl
def WH{H:DH}{o:Nat}{st cp:Bool}{to:List Int}(hb:H[o]? = some (.buf 1 st cp (dC to))){n:Int}(h1:n<to.length):aq 58 [.i n,.buf 1 o to.length] H=ret (.i (qw to n)) H:=by
 refine ev (f58) ?_;rw[qw];by_cases f:n<0
 .grind
 .obtain⟨i,rfl⟩:=anW (show 0<=n by omega);have hi:i<to.length:=by omega
  have e:to[i]? = some (to[i]):=abI hi;rw[acz f,Xi,Xi,aI,gh hi,boK,ge,NI hb,ak (zQ e),ai,LE,anE,e];rfl
def JR(n:Nat):∀ l:List Re,dH n (l.map cL)
 |[]=>trivial
 |r::l=>⟨by simp[cL,eB,D.bel],JR n l⟩
def aiw(sz s o n:Nat)(H:DH)(κ:D->DH->av):ct (.acc sz) 0 (.buf s o n) H κ=κ (.buf s o n) H:=rfl
theorem ci1(n:Int)(κ:List D->av):aj 1 (.i n) κ=κ [.i n]:=rfl
theorem agX(a b w:D)(κ:List D->av):aC [a,b] 1 [w] κ=κ [a,w]:=rfl
def abG(to:List Int)(rs:List Re)(hl:rs.length<=1048576)(hr:∀ r∈rs,iK to.length r)(o:Nat)(st cp:Bool):∀(suf pre:List Re),rs=pre++suf->∀(H:DH) (e b:Nat),b<=e->H[o]? = some (.buf 1 st cp (dC to))->b<=H.length->H[e]? = some (.buf 2 true false ((pre.map (et to)).map cL))->o<b ->
 ∃ H',dI b H H'/\ac au 57 200003 [.g (.row 2 (rs.map cL)),.g (.buf 1 o to.length),.g (.buf 2 e pre.length),.n pre.length] [] H=ret (.row 2 ((rs.map (et to)).map cL)) H'
 |[],pre,h,H,e,b,j,f,hb,s,p=>by
  have e2:rs=pre:=by rw[h];simp
  have y:=wz (κ:=λd H=>ret d H) s;rw[abh,abh]at y;refine⟨H.set e (.buf 2 false false ((pre.map (et to)).map cL)),⟨by simp,λi hi=>by rw[aei (by omega)]⟩,aW (Cq) ?_⟩
  grind
 |r::suf,pre,h,H,e,b,j,f,hb,s,p=>by
  have hi:pre.length<rs.length:=by rw[h];simp
  have t:(rs.map cL)[pre.length]? = some (cL r):=by rw[h];exact bz _ _ _ _
  have u:=hr r (by rw[h];simp);have v:((pre.map (et to)).map cL).length=pre.length:=by simp
  have q:(H.set e (.buf 2 true false (((pre++[r]).map (et to)).map cL)))[o]? = some (.buf 1 st cp (dC to)):=by rw[aei (by omega)];exact f
  obtain⟨H',k,ih⟩:=abG to rs hl hr o st cp suf (pre++[r]) (by rw[h];simp) _ e b j q (by simpa using hb) (ba _ s) p;rw[abg,abf]at ih;have w:((pre++[r]).map (et to)).map cL=(pre.map (et to)).map cL++[cL (et to r)]:=by simp
  refine⟨H',(dI.trans ⟨by simp,λi hi=>by rw[aei (by omega)]⟩ k),aW (Cq) ?_⟩;rw[abh,gk hi,ge,aI,ak t,show cL r=[.bool r.c,.i r.n] from rfl];simp only[ai,aw];rw[ao];have fin:∀ x:Re,x=et to r->(bQ (aG ab 37) 2 (.buf 2 e pre.length) [[.bool x.c,.i x.n]] H λd H=>ct (.acc 2) 0 d H λd H=>ac au 57 200003 [.g (.row 2 (rs.map cL)),.g (.buf 1 o to.length),.g d,.n (bm ((pre.length:Int)+1))] [] H)=ret (.row 2 ((rs.map (et to)).map cL)) H':=by intro x z;rw[jY s v (YE (by omega)) (YE (by omega)),uK pre.length (by omega),show [D.bool x.c,.i x.n]=cL (et to r)by rw[<- z];rfl,<- w,aiw];exact ih
  cases hc:r.c with
  |true =>
   obtain⟨g0,A⟩:=u hc;rw[ge];refine(UA f g0 A _).trans ?_
   grind [ci1,agX,ai,aw,et]
  |false =>grind [et]
def mov(to:List Int)(rs:List Re)(hl:rs.length<=1048576)(hr:∀ r∈rs,iK to.length r){o:Nat}{st cp:Bool}{H:DH}(e:H[o]? = some (.buf 1 st cp (dC to))) :
 aq 57 [.row 2 (rs.map cL),.buf 1 o to.length] H=ret (.row 2 ((rs.map (et to)).map cL)) H:=by
 have ho:o<H.length:=dl e;obtain⟨H',k,h⟩:=abG to rs hl hr o st cp rs [] rfl (H++[.buf 2 true false []]) H.length H.length (abH _) (aD _ e) (by simp) (be H _) ho;refine ev (f57) ?_;refine(anL (bj H) h).trans (Ao ⟨akG (by simp) k.1,λi hi=>?_⟩ ?_)
 .rw[k.2 i hi,afZ hi]
 .exact JR _ _
def eF.keep{H H':DH}{sz:Nat}{l:aQ}{d:D}(h:eF H sz l d)(k:dI H.length H H'):eF H' sz l d:=by
 rcases h with h|h|⟨o,st,cp,e,hb⟩
 .exact .inl h
 .exact .inr (.inl h)
 .exact .inr (.inr ⟨o,st,cp,e,by rw[k.2 o (dl hb)];exact hb⟩)
def dI.le{a b:Nat}{H H':DH}(h:dI b H H')(hab:a<=b):dI a H H':=⟨h.1,λi hi=>h.2 i (by omega)⟩
def dI.app(H X:DH):dI H.length H (H++X):=⟨by simp,λi hi=>afZ hi⟩
def VS{H:DH}{o b:Nat}(h:b<=o)(x:DB):dI b H (H.set o x):=⟨by simp,λi hi=>by rw[aei (by omega)]⟩
def Gk:Nat->List Bool->List Int
 |_,[]=>[]
 |k,b::r=>(k:Int)::Gk (bif b then k+1 else k) r
def QC:∀(l:List Bool) (k:Nat),(Gk k l).length=l.length
 |[],_=>rfl
 |_::r,_=>by rw[Gk,aga,aga,QC r]
def sm3(n:Nat):fg ab 3 n=Nat.ble (8*n) 100000000000000:=by kernel_rfl
theorem kz(s o n:Nat)(H:DH)(κ:D->av):aP ab 60 (.buf s o n) H κ=κ (.i (n:Int)):=by kernel_rfl
def JQ(l:List Int)(i:Nat)(n:Int):(dC l).set i [.i n]=dC (l.set i n):=by rw[dC,dC,List.map_set]
def Xo{H:DH}{o n:Nat}{st cp:Bool}{l:List Int}{κ:Nat->Bool->Bool->aQ->av}(h:H[o]? = some (.buf 1 st cp (dC l)))(e:l.length=n):cH H o n κ=κ 1 st cp (dC l):=by subst e;exact NI h
def lq{H:DH}{o:Nat}{l:List Bool}(hb:H[o]? = some (.buf 1 true true (dY l))){i:Nat}{b:Bool}(h:l[i]? = some b)(κ:D->av):(ay ab 60 (.buf 1 o l.length) (.i i) λa=>bJ ab 4 a H κ)=κ (.bool b):=by rw[PE,gh (acy.1 h).1,boK,ge,adV,lS hb,ak (lT h),ai]
abbrev iG:List D:=[.i 0,.i 0,.i 0,.bool false,.i 0,.nilrow,.nilrow,.nilrow,.i 0,.nilrow,.i 0]
def KL(m:Mc)(lv:List Bool)(hl:lv.length<=1048576)(lo a:Nat)(f:lo≠a):∀(suf pre:List Bool) (k:Nat) (dn:List Int) (H:DH),lv=pre++suf->dn.length=pre.length->k<=pre.length->H[lo]? = some (.buf 1 true true (dY lv))->H[a]? = some (.buf 1 true true (dC (dn++List.replicate suf.length 0))) ->
 ac au 29 200007 [.lp 1 0,.lp 2 0,.g (.buf 1 lo lv.length),.g (.buf 1 a lv.length),.n k,.n pre.length] [(0,[]),(0,bh m),(0,iG)] H =
  ac au 29 200015 [.lp 1 0,.lp 2 0,.g (.buf 1 lo lv.length),.g (.buf 1 a lv.length),.lp 3 0,.n 0] [(0,[]),(0,bh m),(0,iG),(0,(xM m.mo m.ex m.en m.vc m.vn (.row 3 (m.fr.map eg)) .nilrow (.row 3 (m.to.map eX)) m.bo (.row 4 (m.ou.map gR)) m.st))] (H.set a (.buf 1 true true (dC (dn++Gk k suf))))
 |[],pre,k,dn,H,e,o,hk,h,p=>by
  have e2:lv.length=pre.length:=by rw[e];simp
  rw[Gk,ajH,show H.set a (.buf 1 true true (dC dn))=H from gB (by simpa using p)];refine aW (CH) ?_
  grind [kz,aN,ao]
 |b::suf,pre,k,dn,H,e,o,hk,h,p=>by
  have hi:pre.length<lv.length:=by rw[e];simp
  have t:lv[pre.length]? = some b:=by rw[e];simp
  have q:(dn++List.replicate (b::suf).length (0:Int)).length=lv.length:=by rw[e];simp[o]
  have j:(dC (dn++List.replicate (b::suf).length (0:Int))).set pre.length [.i k]=dC (dn++[(k:Int)]++List.replicate suf.length 0):=by rw[JQ,<- o,ajA _ _ (abH _),akN,aga,aok,apf];simp
  have r:(dC (dn++List.replicate (b::suf).length (0:Int)))[pre.length]? = some [.i 0]:=by grind [zQ]
  have s (x:Nat) (hx:x<=pre.length):bm ((x:Int)+1)=((x+1:Nat):Int):=aE (by omega);have ih:=KL m lv hl lo a f suf (pre++[b]) (bif b then k+1 else k) (dn++[(k:Int)]) (H.set a (.buf 1 true true (dC (dn++[(k:Int)]++List.replicate suf.length 0)))) (by rw[e];simp) (by simp[o]) (by cases b<;>simp<;>omega) (by rw[aei f.symm];exact h) (ba _ p);rw[abg,abf,agd]at ih;rw[Gk];refine aW (CH) ?_;rw[kz,aN,ao,gk hi,ge,aI,gh hi,boK,ge,Xo p q,boK,ge,ak r,RQ];dsimp only;rw[j];refine(lq (l:=lv) (by rw[aei f.symm];exact h) t _).trans ?_;rw[ao,s _ hk,s _ (abH _)]
  grind
end
section
def rK(to:List Int)(c:Ce):Ce:=⟨c.k,c.con,c.n,c.refs.map (et to),qw to c.nx⟩
def ng(to:List Int)(f:Fm):Fm:=⟨f.ex,qw to f.en,f.dn.map (et to)⟩
def Ef(to:List Int)(t:To):To:=⟨t.nm,et to t.r⟩
def vh:List Bool->List Ce->List Ce
 |b::l,c::r=>bif b then c::vh l r else vh l r
 |_,_=>[]
def PD:∀(a b:List Bool) (x y:List Ce),a.length=x.length->vh (a++b) (x++y)=vh a x++vh b y
 |[],_,[],_,_=>rfl
 |[],_,_::_,_,h=>by cases h
 |_::_,_,[],_,h=>by cases h
 |p::a,b,c::x,y,h=>by
  have ih:=PD a b x y (by simpa using h)
  grind [vh]
def Hy:∀(a:List Bool) (x:List Ce),(vh a x).length<=x.length
 |[],_=>by simp[vh]
 |_::_,[]=>by simp[vh]
 |p::a,c::x=>by
  have ih:=Hy a x
  grind [vh]
structure iF(m:Mc):Prop where
 ce:m.ce.length<=1048576
 refs:∀ c∈m.ce,c.refs.length<=1048576
 fr:m.fr.length<=1048576
 dn:∀ f∈m.fr,f.dn.length<=1048576
 to:m.to.length<=1048576
 ou:m.ou.length<=1048576
 v:∀ x∈m.ou,x.v.sm
structure uE(m:Mc):Prop where
 ces:Rl m.ce
 v:iK m.ce.length ⟨m.vc,m.vn⟩
 en:m.en<m.ce.length
 to:∀ t∈m.to,iK m.ce.length t.r
 fr:∀ f∈m.fr,f.en<m.ce.length/\∀ r∈f.dn,iK m.ce.length r
def abw(to:List Int)(r:Re)(hr:iK to.length r){o:Nat}{st cp:Bool}{H:DH}(e:H[o]? = some (.buf 1 st cp (dC to))):aq 57 [.row 2 [[.bool r.c,.i r.n]],.buf 1 o to.length] H=ret (.row 2 [cL (et to r)]) H:=mov to [r] (by simp) (λx f=>by rw[aov.1 f];exact hr) e
def ahA(x:List D)(κ:D->av):ay ab 109 (.row 2 [x]) (.i 0) κ=κ (.eptr x 0):=by kernel_rfl
def cr1(z:Nat)(l:aQ)(κ:List D->av):aj 1 (.row z l) κ=κ [.row z l]:=rfl
def cs1(l:af)(κ:List D->av):aj 1 (.str l) κ=κ [.str l]:=rfl
def YW(x y z a:D)(κ:List D->av):aC [x,y,z] 0 [a] κ=κ [a,y,z]:=rfl
def ado(x y z a:D)(κ:List D->av):aC [x,y,z] 1 [a] κ=κ [x,a,z]:=rfl
def agW(x y z a b:D)(κ:List D->av):aC [x,y,z] 1 [a,b] κ=κ [x,a,b]:=rfl
def akv(x y z u v a:D)(κ:List D->av):aC [x,y,z,u,v] 0 [a] κ=κ [a,y,z,u,v]:=rfl
def aku(x y z u v a:D)(κ:List D->av):aC [x,y,z,u,v] 1 [a] κ=κ [x,a,z,u,v]:=rfl
def akt(x y z u v a:D)(κ:List D->av):aC [x,y,z,u,v] 2 [a] κ=κ [x,y,a,u,v]:=rfl
def aks(x y z u v a:D)(κ:List D->av):aC [x,y,z,u,v] 3 [a] κ=κ [x,y,z,a,v]:=rfl
def agU(x y z u v a:D)(κ:List D->av):aC [x,y,z,u,v] 4 [a] κ=κ [x,y,z,u,a]:=rfl
def ahP(a b c d e:D)(κ:List D->av):aj 5 (.agg [a,b,c,d,e]) κ=κ [a,b,c,d,e]:=rfl
section
variable(x0 x1 x2 x3 x4 x5 x6 x7 x8 x9 xt a b:D)(κ:List D->av)
theorem om2:aC [x0,x1,x2,x3,x4,x5,x6,x7,x8,x9,xt] 2 [a] κ=κ [x0,x1,a,x3,x4,x5,x6,x7,x8,x9,xt]:=rfl
theorem om3:aC [x0,x1,x2,x3,x4,x5,x6,x7,x8,x9,xt] 3 [a,b] κ=κ [x0,x1,x2,a,b,x5,x6,x7,x8,x9,xt]:=rfl
theorem om5:aC [x0,x1,x2,x3,x4,x5,x6,x7,x8,x9,xt] 5 [a] κ=κ [x0,x1,x2,x3,x4,a,x6,x7,x8,x9,xt]:=rfl
def om6:aC [x0,x1,x2,x3,x4,x5,x6,x7,x8,x9,xt] 6 [a] κ=κ [x0,x1,x2,x3,x4,x5,a,x7,x8,x9,xt]:=rfl
theorem om7:aC [x0,x1,x2,x3,x4,x5,x6,x7,x8,x9,xt] 7 [a] κ=κ [x0,x1,x2,x3,x4,x5,x6,a,x8,x9,xt]:=rfl
def om9:aC [x0,x1,x2,x3,x4,x5,x6,x7,x8,x9,xt] 9 [a] κ=κ [x0,x1,x2,x3,x4,x5,x6,x7,x8,a,xt]:=rfl
end
def abW(m:Mc)(ok:iF m)(ik:uE m)(to:List Int)(h:to.length=m.ce.length)(a o:Nat)(w:List D)(x0 x1 x2 x3 x4 x6 x7 x8 x9 xt:D)(p:a<o):∀(suf pre:List Fm) (A:D) (H:DH),m.fr=pre++suf->w=[x0,x1,x2,x3,x4,A,x6,x7,x8,x9,xt]->o<=H.length->H[a]? = some (.buf 1 true true (dC to))->uJ H o 3 ((pre.map (ng to)).map eg) A ->
 ∃ H' A',dI o H H'/\uJ H' o 3 ((m.fr.map (ng to)).map eg) A'/\ac au 29 200029 [.lp 1 0,.lp 2 0,.g (.buf 1 a m.ce.length),.lp 3 0,.n pre.length] [(0,[]),(0,bh m),(0,iG),(0,w)] H=ret (.tuple [.agg [x0,x1,x2,x3,x4,A',x6,x7,x8,x9,xt],.i 0]) H'
 |[],pre,A,H,e,u,hb,t,hA=>by
  have B:m.fr=pre:=by rw[e];simp
  subst u;refine⟨H,A,dI.refl _ _,B▸hA,aW (CF) ?_⟩;simp_all[ai,aw]
 |f::suf,pre,A,H,e,u,hb,t,hA=>by
  have hi:pre.length<m.fr.length:=by rw[e];simp
  have v:(m.fr.map eg)[pre.length]? = some (eg f):=by rw[e];exact bz _ _ _ _
  have hm:f∈m.fr:=by rw[e];simp
  have hfr:=ok.fr;obtain⟨E,F,hp,j,x⟩:=hA.put (ok:=aG ab 111) hb (OM (by omega)) (OM (by simp;omega)) (eg (ng to f));have y:(pre.map (ng to)).map eg++[eg (ng to f)]=((pre++[f]).map (ng to)).map eg:=by simp
  rw[y]at j;have q:=WH t (n:=f.en) (by rw[h];exact(ik.fr f hm).1);have s:=mov to f.dn (ok.dn f hm) (λr hr=>by rw[h];exact(ik.fr f hm).2 r hr) t;rw[h]at q s;subst u;obtain⟨H',A',k,z,ih⟩:=abW m ok ik to h a o _ x0 x1 x2 x3 x4 x6 x7 x8 x9 xt p suf (pre++[f]) E F (by rw[e];simp) rfl (akG hb x.1) (by rw[x.2 a p];exact t) j;rw[abg,abf]at ih;refine⟨H',A',x.trans k,z,aW (CF) ?_⟩;rw[abh,gk hi,ge,aI,ak v,show eg f=[.i f.ex,.i f.en,.row 2 (f.dn.map cL)] from rfl];simp only[ai,aw];refine(aH q).trans ((aH s).trans ?_);simp only[eg,ng]at hp;simp only[ai,aw,ci1,cr1,YW,ado,abJ,RW];rw[hp,j.c1,om5,uK pre.length (by omega)];exact ih
def abm(m:Mc)(ok:iF m)(ik:uE m)(to:List Int)(f:to.length=m.ce.length)(a j:Nat)(x0 x1 x2 x3 x4 x5 x6 x8 x9 xt:D)(o:a<j):∀(suf pre:List To) (A:D) (H:DH),m.to=pre++suf->j<=H.length->H[a]? = some (.buf 1 true true (dC to))->uJ H j 3 ((pre.map (Ef to)).map eX) A ->
 ∃ H' A',dI j H H'/\uJ H' j 3 ((m.to.map (Ef to)).map eX) A'/\ac au 29 200024 [.lp 1 0,.lp 2 0,.g (.buf 1 a m.ce.length),.lp 3 0,.n pre.length] [(0,[]),(0,bh m),(0,iG),(0,[x0,x1,x2,x3,x4,x5,x6,A,x8,x9,xt])] H =
  ac au 29 200029 [.lp 1 0,.lp 2 0,.g (.buf 1 a m.ce.length),.lp 3 0,.n 0] [(0,[]),(0,bh m),(0,iG),(0,[x0,x1,x2,x3,x4,.nilrow,x6,A',x8,x9,xt])] H'
 |[],pre,A,H,e,hb,s,hA=>by
  have x:m.to=pre:=by rw[e];simp
  refine⟨H,A,dI.refl _ _,x▸hA,aW (CG) ?_⟩
  grind [om5]
 |t::suf,pre,A,H,e,hb,s,hA=>by
  have hi:pre.length<m.to.length:=by rw[e];simp
  have p:(m.to.map eX)[pre.length]? = some (eX t):=by rw[e];exact bz _ _ _ _
  have hm:t∈m.to:=by rw[e];simp
  have hln:=ok.to;obtain⟨y,z,hp,h,u⟩:=hA.put (ok:=aG ab 117) hb (OL (by omega)) (OL (by simp;omega)) (eX (Ef to t));have v:(pre.map (Ef to)).map eX++[eX (Ef to t)]=((pre++[t]).map (Ef to)).map eX:=by simp
  rw[v]at h;have q:=abw to t.r (by rw[f];exact ik.to t hm) s;rw[f]at q;obtain⟨H',A',k,w,ih⟩:=abm m ok ik to f a j x0 x1 x2 x3 x4 x5 x6 x8 x9 xt o suf (pre++[t]) y z (by rw[e];simp) (akG hb u.1) (by rw[u.2 a o];exact s) h;rw[abg,abf]at ih;refine⟨H',A',u.trans k,w,aW (CG) ?_⟩;rw[abh,gk hi,ge,aI,ak p,show eX t=[.str t.nm,.bool t.r.c,.i t.r.n] from rfl];simp only[ai,aw];refine(aH q).trans ?_;rw[aI,ak p,show eX t=[.str t.nm,.bool t.r.c,.i t.r.n] from rfl];simp only[ai,aw];rw[ahA,show cL (et to t.r)=[.bool (et to t.r).c,.i (et to t.r).n] from rfl,PC];simp only[eX,Ef]at hp;simp only[cs1,YW,MO,agW,RW];rw[hp,h.c1,om7,uK pre.length (by omega)];exact ih
def Xf(m:Mc)(ok:iF m)(ik:uE m)(lv:List Bool)(y:lv.length=m.ce.length)(to:List Int)(f:to.length=m.ce.length)(lo a p:Nat)(t:a<p)(u:lo<p):∀(sl pl:List Bool) (sc pc:List Ce) (A:D) (H:DH),lv=pl++sl->m.ce=pc++sc->pl.length=pc.length->p<=H.length->H[lo]? = some (.buf 1 true true (dY lv))->H[a]? = some (.buf 1 true true (dC to))->uJ H p 5 (((vh pl pc).map (rK to)).map dw) A ->
 ∃ H' A',dI p H H'/\uJ H' p 5 (((vh lv m.ce).map (rK to)).map dw) A'/\ac au 29 200015 [.lp 1 0,.lp 2 0,.g (.buf 1 lo lv.length),.g (.buf 1 a m.ce.length),.lp 3 0,.n pl.length] [(0,[]),(0,bh m),(0,iG),(0,(xM m.mo m.ex m.en m.vc m.vn (.row 3 (m.fr.map eg)) A (.row 3 (m.to.map eX)) m.bo (.row 4 (m.ou.map gR)) m.st))] H =
  ac au 29 200024 [.lp 1 0,.lp 2 0,.g (.buf 1 a m.ce.length),.lp 3 0,.n 0] [(0,[]),(0,bh m),(0,iG),(0,[.i m.mo,.i m.ex,.i (qw to m.en),.bool (et to ⟨m.vc,m.vn⟩).c,.i (et to ⟨m.vc,m.vn⟩).n,.row 3 (m.fr.map eg),A',.nilrow,.i m.bo,.row 4 (m.ou.map gR),.i m.st])] H'
 |[],pl,sc,pc,A,H,e,ec,h,hb,j,s,hA=>by
  have J:lv=pl:=by rw[e];simp
  have E:sc=[]:=by simp_all
  have L:m.ce=pc:=by rw[ec,E];simp
  have o:=abw to ⟨m.vc,m.vn⟩ (by rw[f];exact ik.v) s;have q:=WH s (n:=m.en) (by rw[f];exact ik.en);rw[f]at o q;refine⟨H,A,dI.refl _ _,by rw[J,L];exact hA,aW (sf) ?_⟩;rw[kz,aN,ao,J,yV _,Xi];refine(am o).trans ?_;rw[ahA,show cL (et to ⟨m.vc,m.vn⟩)=[.bool (et to ⟨m.vc,m.vn⟩).c,.i (et to ⟨m.vc,m.vn⟩).n] from rfl,PC]
  grind [MO,om3,am,ci1,om2,om7]
 |b::sl,pl,[],pc,A,H,e,ec,h,hb,j,s,hA=>by grind
 |b::sl,pl,c::sc,pc,A,H,e,ec,h,hb,j,s,hA=>by
  have hi:pl.length<lv.length:=by rw[e];simp
  have K:lv[pl.length]? = some b:=by rw[e];simp
  have F:(m.ce.map dw)[pl.length]? = some (dw c):=by rw[ec,h];exact bz _ _ _ _
  have hm:c∈m.ce:=by rw[ec];simp
  have hcl:=ok.ce;have M:bm ((pl.length:Int)+1)=((pl.length+1:Nat):Int):=aE (by omega);have z:=PD pl [b] pc [c] h;cases b with
  |false =>
   have G:uJ H p 5 (((vh (pl++[false]) (pc++[c])).map (rK to)).map dw) A:=by rw[z];simpa[vh]using hA
   obtain⟨H',A',k,w,ih⟩:=Xf m ok ik lv y to f lo a p t u sl (pl++[false]) sc (pc++[c]) A H (by rw[e];simp) (by rw[ec];simp) (by simp[h]) hb j s G;rw[abg,abf]at ih;refine⟨H',A',k,w,aW (sf) ?_⟩;rw[kz,aN,ao,gk hi,ge];refine(lq j K _).trans ?_
   grind [ao]
  |true =>
   have hc:=ik.ces c hm;have hl1:=Hy pl pc;have hpc:pc.length<=m.ce.length:=by rw[ec];simp
   obtain⟨N,O,hp,x,B⟩:=hA.put (ok:=aG ab 115) hb (EX (by omega)) (EX (by simp only[abh];omega)) (dw (rK to c));have I:((vh pl pc).map (rK to)).map dw++[dw (rK to c)]=((vh (pl++[true]) (pc++[c])).map (rK to)).map dw:=by rw[z];simp[vh]
   rw[I]at x;have q:=WH s (n:=c.nx) (by rw[f];exact hc.2.2.1.2);have o:=mov to c.refs (ok.refs c hm) (λr hr=>by rw[f];exact hc.2.1 r hr) s;rw[f]at q o;obtain⟨H',A',k,w,ih⟩:=Xf m ok ik lv y to f lo a p t u sl (pl++[true]) sc (pc++[c]) N O (by rw[e];simp) (by rw[ec];simp) (by simp[h]) (akG hb B.1) (by rw[B.2 lo u];exact j) (by rw[B.2 a t];exact s) x;rw[abg,abf]at ih;refine⟨H',A',B.trans k,w,aW (sf) ?_⟩;rw[kz,aN,ao,gk hi,ge];refine(lq j K _).trans ?_;rw[ao,ge,aI,ak F,show dw c=[.i c.k,.str c.con,.i c.n,.row 2 (c.refs.map cL),.i c.nx] from rfl];simp only[ai,aw];refine(aH o).trans ((aH q).trans ?_);simp only[dw,rK]at hp;simp only[ci1,cs1,cr1,akv,aku,akt,aks,agU,ahP];rw[hp,x.c1,om6,M];exact ih
end
section
def XS(H:DH)(rf:aQ)(fs:List Fm):Prop:=rf.length=fs.length/\∀(i:Nat) (f:Fm),fs[i]? = some f->∃ dd,rf[i]? = some [.i f.ex,.i f.en,dd]/\eF H 2 (f.dn.map cL) dd
def NW(H:DH)(rc:aQ)(cs:List Ce):Prop:=rc.length=cs.length/\∀(i:Nat) (c:Ce),cs[i]? = some c->∃ dd,rc[i]? = some [.i c.k,.str c.con,.i c.n,dd,.i c.nx]/\eF H 2 (c.refs.map cL) dd
def Wr(H:DH)(fs:List Fm):XS H (fs.map eg) fs:=⟨abh ..,λi f h=>⟨.row 2 (f.dn.map cL),by rw[aiE,h];rfl,.inl rfl⟩⟩
def Xh(H:DH)(cs:List Ce):NW H (cs.map dw) cs:=⟨abh ..,λi c h=>⟨.row 2 (c.refs.map cL),by rw[aiE,h];rfl,.inl rfl⟩⟩
structure qD(H:DH)(m:Mc)(dfr dce dto dou:D):Prop where
 fr:∃ rf,eF H 3 rf dfr/\XS H rf m.fr
 ce:∃ rc,eF H 5 rc dce/\NW H rc m.ce
 to:eF H 3 (m.to.map eX) dto
 ou:eF H 4 (m.ou.map gR) dou
def qD.keep{H H':DH}{m:Mc}{a b c d:D}(h:qD H m a b c d)(k:dI H.length H H'):qD H' m a b c d:=by
 obtain⟨⟨rf,g,l1,j⟩,⟨rc,n,l3,o⟩,p,q⟩:=h;refine⟨⟨rf,g.keep k,l1,λi f s=>?_⟩,⟨rc,n.keep k,l3,λi c hc=>?_⟩,p.keep k,q.keep k⟩
 .obtain⟨dd,e,r⟩:=j i f s;exact⟨dd,e,r.keep k⟩
 .obtain⟨dd,e,r⟩:=o i c hc;exact⟨dd,e,r.keep k⟩
def yO(m:Mc)(dfr dce dto dou:D):List D:=(xM m.mo m.ex m.en m.vc m.vn dfr dce dto m.bo dou m.st)
def SZ:ab.underlying 38=some (.slice 111):=by kernel_rfl
def w39:ab.underlying 39=some (.slice 115):=by kernel_rfl
def w40:ab.underlying 40=some (.slice 117):=by kernel_rfl
def Yd:ab.underlying 41=some (.slice 74):=by kernel_rfl
def IM:ab.underlying 109=some (.slice 37):=by kernel_rfl
def Rs:size ab 111=some 3:=by kernel_rfl
def agy:size ab 115=some 5:=by kernel_rfl
def agx:size ab 117=some 3:=by kernel_rfl
def s74:size ab 74=some 4:=by kernel_rfl
def s37:size ab 37=some 2:=by kernel_rfl
def c3i(cs:List D)(c:Nat)(κ:D->av):bL ab 3 cs c κ=ah cs c κ:=by kernel_rfl
def c9i(cs:List D)(c:Nat)(κ:D->av):bL ab 9 cs c κ=ah cs c κ:=by kernel_rfl
def Xk(cs:List D)(c:Nat)(κ:D->av):bL ab 109 cs c κ=ah cs c κ:=by kernel_rfl
def aaA(a b:D)(κ:D->av):bL ab 37 [a,b] 0 κ=κ (.agg [a,b]):=by kernel_rfl
def Xj(a b c d e:D)(κ:D->av):bL ab 115 [a,b,c,d,e] 0 κ=κ (.agg [a,b,c,d,e]):=by kernel_rfl
def aco(a b c:D)(κ:D->av):bL ab 117 [a,b,c] 0 κ=κ (.agg [a,b,c]):=by kernel_rfl
def afJ(z a b c:D)(κ:D->av):bL ab 72 [z,a,b,c] 1 κ=κ (.agg [a,b,c]):=by kernel_rfl
def akH(a:Bool)(b:Int)(κ:D->av):aA ab .neq 37 false (.agg [.bool a,.i b]) (.agg [.bool a,.i b]) κ=κ (.bool false):=by
 have h:∀(a c:Bool) (b d:Int),aA ab .neq 37 false (.agg [.bool a,.i b]) (.agg [.bool c,.i d]) κ=κ (.bool (!((a==c)&&(b==d)))):=by intros;kernel_rfl
 rw[h];simp
def ahm(s:af)(a:Bool)(b:Int)(κ:D->av):aA ab .neq 117 false (.agg [.str s,.bool a,.i b]) (.agg [.str s,.bool a,.i b]) κ=κ (.bool false):=by
 have h:∀(s t:af) (a c:Bool) (b d:Int),aA ab .neq 117 false (.agg [.str s,.bool a,.i b]) (.agg [.str t,.bool c,.i d]) κ=κ (.bool (!((s==t)&&((a==c)&&(b==d))))):=by intros;kernel_rfl
 rw[h];simp
def uU{H:DH}{sz:Nat}{l:aQ}{d:D}(h:eF H sz l d){ty el:TypeId}(f:ab.underlying ty=some (.slice el))(g:size ab el=some sz){i:Nat}{cs:List D}(hi:l[i]? = some cs)(t:TypeId)(κ:D->av):(ay ab ty d (.i i) λa=>bJ ab t a H κ)=bL ab t cs 0 κ:=by obtain⟨a,j,e⟩:=h.ix f g hi;rw[e,j.ld]
def lL{H:DH}{sz:Nat}{l:aQ}{d:D}(h:eF H sz l d){ty el:TypeId}(g:ab.underlying ty=some (.slice el))(j:size ab el=some sz){i:Nat}{cs:List D}(hi:l[i]? = some cs)(k:Nat)(t:TypeId)(κ:D->av):(ay ab ty d (.i i) λa=>bI a k λa=>bJ ab t a H κ)=bL ab t cs k κ:=by obtain⟨a,n,e⟩:=h.ix g j hi;obtain⟨a',f,o⟩:=n.fad k;rw[e,o,f.ld,afY]
def Ox{H:DH}(rs:List Re)(hl:rs.length<2^61){x y:D}(h:eF H 2 (rs.map cL) x)(hy:eF H 2 (rs.map cL) y):∀(suf pre:List Re),rs=pre++suf->ac au 43 200004 [.g x,.g y,.n pre.length] [] H=ret (.bool true) H
 |[],pre,e=>by
  have j:rs.length=pre.length:=by rw[e];simp
  refine aW (wG) ?_;rw[h.len IM,aN,ao,abh,j,yV _,Xi]
 |r::suf,pre,e=>by
  have hi:pre.length<rs.length:=by rw[e];simp
  have f:(rs.map cL)[pre.length]? = some (cL r):=by rw[e];exact bz _ _ _ _
  have ih:=Ox rs hl h hy suf (pre++[r]) (by rw[e];simp);rw[abg,abf]at ih;refine aW (wG) ?_;rw[h.len IM,aN,ao,abh,gk hi,ge,uU h IM s37 f,show cL r=[.bool r.c,.i r.n] from rfl,aaA,uU hy IM s37 f,show cL r=[.bool r.c,.i r.n] from rfl,aaA,akH,ao,Xi,uK pre.length (by omega)];exact ih
theorem Ub{H:DH}(rs:List Re)(hl:rs.length<2^61){x y:D}(e:eF H 2 (rs.map cL) x)(hy:eF H 2 (rs.map cL) y):aq 43 [x,y] H=ret (.bool true) H:=by refine ev (akY) ?_;rw[e.len IM,hy.len IM,bu,ao,akI,Xi];exact Ox rs hl e hy rs [] rfl
mutual
def QZ(H:DH):∀ v:Va,v.sm->aq 91 [.agg (kU v),.agg (kU v)] H=ret (.bool true) H
 |.mk c n xs,h=>by refine ev (f91) ?_;rw[show(c==c)=true by simp,age,Xi,akI,Xi,akI,Xi];exact Lf H c n xs h.1 xs [] rfl h.2
def Lf(H:DH)(c:af)(n:Int)(xs:List Va)(hl:xs.length<=1048576):∀(suf pre:List Va),xs=pre++suf->Va.sms suf->ac au 91 200004 [.lp 0 0,.lp 1 0,.n pre.length] [(0,(xV c n (ff xs))),(0,(xV c n (ff xs)))] H=ret (.bool true) H
 |[],pre,e,_=>by
  have e2:xs.length=pre.length:=by rw[e];simp
  refine aW (Cb) ?_
  grind [dM]
 |v::suf,pre,e,g=>by
  have hi:pre.length<xs.length:=by rw[e];simp
  have f:(ff xs)[pre.length]? = some (kU v):=by rw[e];exact sE _ _ _
  have ih:=Lf H c n xs hl suf (pre++[v]) (by rw[e];simp) g.2;rw[abg,abf]at ih;have h:=QZ H v g.1;obtain⟨vc,vn,vx⟩:=v;refine aW (Cb) ?_;rw[dM,gk hi,ge,aI,ak f];simp only[kU]at h ⊢;simp only[ai,aw];rw[aI,ak f];simp only[kU,ai,aw];refine(aH h).trans ?_;rw[aK,ao,age,Xi,uK pre.length (by omega)];exact ih
end
def SF(a:af)(κ:D->av):aA ab .neq 9 false (.str a) (.str a) κ=κ (.bool false):=by rw[iB];simp
def Oy{H:DH}(ou:List Nv)(hl:ou.length<=1048576)(j:∀ x∈ou,x.v.sm){x y:D}(h:eF H 4 (ou.map gR) x)(hy:eF H 4 (ou.map gR) y):∀(suf pre:List Nv),ou=pre++suf->ac au 42 200004 [.g x,.g y,.n pre.length] [] H=ret (.bool true) H
 |[],pre,e=>by
  have k:ou.length=pre.length:=by rw[e];simp
  refine aW (Cy) ?_;rw[h.len Yd,aN,ao,abh,k,yV _,Xi]
 |v::suf,pre,e=>by
  have hi:pre.length<ou.length:=by rw[e];simp
  have f:(ou.map gR)[pre.length]? = some (gR v):=by rw[e];exact bz _ _ _ _
  have ih:=Oy ou hl j h hy suf (pre++[v]) (by rw[e];simp);rw[abg,abf]at ih;have i:=QZ H v.v (j v (by rw[e];simp));obtain⟨nm,⟨vc,vn,vx⟩⟩:=v;simp only[gR,kU]at f i;refine aW (Cy) ?_;rw[h.len Yd,aN,ao,abh,gk hi,ge,lL h Yd s74 f,c9i,ai,lL hy Yd s74 f,c9i,ai,SF,ao,Xi,lL h Yd s74 f,afJ,lL hy Yd s74 f,afJ];refine(aH i).trans ?_;rw[aK,ao,age,Xi,uK pre.length (by omega)];exact ih
def acU{H:DH}(ou:List Nv)(hl:ou.length<=1048576)(f:∀ x∈ou,x.v.sm){x y:D}(e:eF H 4 (ou.map gR) x)(hy:eF H 4 (ou.map gR) y):aq 42 [x,y] H=ret (.bool true) H:=by refine ev (f42) ?_;rw[e.len Yd,hy.len Yd,bu,ao,akI,Xi];exact Oy ou hl f e hy ou [] rfl
variable{H:DH}{m:Mc}{a1 a2 a3 a4 b1 b2 b3 b4:D}
def acT(c:Ce)(hl:c.refs.length<2^61){x y:D}(hx:eF H 2 (c.refs.map cL) x)(hy:eF H 2 (c.refs.map cL) y):aq 44 [.agg [.i c.k,.str c.con,.i c.n,x,.i c.nx],.agg [.i c.k,.str c.con,.i c.n,y,.i c.nx]] H=ret (.bool true) H:=by
 refine ev (akW) ?_
 grind [am,Ub]
def Ud(ok:iF m)(g:qD H m a1 a2 a3 a4)(hy:qD H m b1 b2 b3 b4):∀(j k:Nat),k+j=m.to.length->ac au 17 200016 [.lp 0 0,.lp 1 0,.n k] [(0,yO m a1 a2 a3 a4),(0,yO m b1 b2 b3 b4)] H=ret (.bool true) H
 |0,k,e=>by refine aW (CO) ?_;rw[g.to.len w40,aN,ao,abh,<- e,show decide ((k:Int)<((k+0:Nat):Int))=false by simp,Xi]
 |j+1,k,e=>by
  have hi:k<m.to.length:=by omega
  have f:(m.to.map eX)[k]? = some (eX m.to[k]):=by rw[aiE,abI hi];rfl
  have hl:=ok.to;have ih:=Ud ok g hy j (k+1) (by omega);generalize m.to[k]=t at f;refine aW (CO) ?_;rw[g.to.len w40,aN,ao,abh,gk hi,ge,uU g.to w40 agx f,show eX t=[.str t.nm,.bool t.r.c,.i t.r.n] from rfl,aco,uU hy.to w40 agx f,show eX t=[.str t.nm,.bool t.r.c,.i t.r.n] from rfl,aco,ahm,ao,Xi,uK k (by omega)];exact ih
def Uf(ok:iF m)(g:qD H m a1 a2 a3 a4)(hy:qD H m b1 b2 b3 b4):∀(j k:Nat),k+j=m.ce.length->ac au 17 200011 [.lp 0 0,.lp 1 0,.n k] [(0,yO m a1 a2 a3 a4),(0,yO m b1 b2 b3 b4)] H=ret (.bool true) H
 |0,k,e=>by obtain⟨rx,x1,x2,x3⟩:=g.ce;refine aW (CP) ?_;rw[x1.len w39,x2,aN,ao,<- e,show decide ((k:Int)<((k+0:Nat):Int))=false by simp,Xi];exact Ud ok g hy m.to.length 0 (afY _)
 |j+1,k,e=>by
  have hi:k<m.ce.length:=by omega
  have f:m.ce[k]? = some m.ce[k]:=abI hi;have h:=ok.refs _ (aoP hi);have hl:=ok.ce;have ih:=Uf ok g hy j (k+1) (by omega);obtain⟨rx,x1,x2,x3⟩:=g.ce;obtain⟨ry,y1,y2,i⟩:=hy.ce;generalize m.ce[k]=c at f h;obtain⟨dx,ex,qx⟩:=x3 k c f;obtain⟨dy,ey,qy⟩:=i k c f;refine aW (CP) ?_;rw[x1.len w39,x2,aN,ao,gk hi,ge,uU x1 w39 agy ex,Xj,uU y1 w39 agy ey,Xj];refine(aH (acT c (by omega) qx qy)).trans ?_;rw[aK,ao,age,Xi,uK k (by omega)];exact ih
def Ue(ok:iF m)(h:qD H m a1 a2 a3 a4)(hy:qD H m b1 b2 b3 b4):∀(j k:Nat),k+j=m.fr.length->ac au 17 200006 [.lp 0 0,.lp 1 0,.n k] [(0,yO m a1 a2 a3 a4),(0,yO m b1 b2 b3 b4)] H=ret (.bool true) H
 |0,k,e=>by obtain⟨rx,x1,x2,x3⟩:=h.fr;refine aW (CQ) ?_;rw[x1.len SZ,x2,aN,ao,<- e,show decide ((k:Int)<((k+0:Nat):Int))=false by simp,Xi];exact Uf ok h hy m.ce.length 0 (afY _)
 |j+1,k,e=>by
  have hi:k<m.fr.length:=by omega
  have g:m.fr[k]? = some m.fr[k]:=abI hi;have i:=ok.dn _ (aoP hi);have hl:=ok.fr;have ih:=Ue ok h hy j (k+1) (by omega);obtain⟨rx,x1,x2,x3⟩:=h.fr;obtain⟨ry,y1,y2,o⟩:=hy.fr;generalize m.fr[k]=f at g i;obtain⟨dx,ex,qx⟩:=x3 k f g;obtain⟨dy,ey,qy⟩:=o k f g;refine aW (CQ) ?_;rw[x1.len SZ,x2,aN,ao,gk hi,ge,lL x1 SZ Rs ex,c3i,ai,lL y1 SZ Rs ey,c3i,ai,bu,akI,ao,Xi];rw[lL x1 SZ Rs ex,c3i,aw,ai,lL y1 SZ Rs ey,c3i,aw,ai,bu,akI,ao,Xi];rw[lL x1 SZ Rs ex,Xk,aw,aw,ai,lL y1 SZ Rs ey,Xk,aw,aw,ai];refine(aH (Ub f.dn (by omega) qx qy)).trans ?_;rw[aK,ao,age,Xi,uK k (by omega)];exact ih
def Uc(ok:iF m)(e:qD H m a1 a2 a3 a4)(hy:qD H m b1 b2 b3 b4):aq 17 [.agg (yO m a1 a2 a3 a4),.agg (yO m b1 b2 b3 b4)] H=ret (.bool true) H:=by obtain⟨rx,x1,x2,x3⟩:=e.fr;obtain⟨ry,y1,y2,y3⟩:=hy.fr;obtain⟨sx,f,g,u3⟩:=e.ce;obtain⟨sy,v1,v2,v3⟩:=hy.ce;refine ev (f17) ?_;simp only[akI,Xi,apw,anQ,age];rw[x1.len SZ,y1.len SZ,x2,y2,bu,akI,ao,Xi,f.len w39,v1.len w39,g,v2,bu,akI,ao,Xi,e.to.len w40,hy.to.len w40,bu,akI,ao,Xi];refine(am (acU m.ou ok.ou ok.v e.ou hy.ou)).trans ?_;rw[aK,ao,age,Xi];exact Ue ok e hy m.fr.length 0 (afY _)
def Jx(to:List Int)(lv:List Bool)(m:Mc):Mc:={ m with en:=qw to m.en,vc:=(et to ⟨m.vc,m.vn⟩).c,vn:=(et to ⟨m.vc,m.vn⟩).n,fr:=m.fr.map (ng to),ce:=(vh lv m.ce).map (rK to),to:=m.to.map (Ef to) }
def ajc(m:Mc)(ok:iF m)(ik:uE m)(l:List De){lv:List Bool}(f:lv.length=m.ce.length)(H J:DH)
 (p:aq 27 [.agg [.row 14 (l.map bG)],.agg (bh m)] H=ret (.tuple [.buf 1 H.length m.ce.length,.i 0]) (H++[.buf 1 true true (dY lv)]++J)) :
 ∃ H' a1 a2 a3 a4,aq 29 [.agg [.row 14 (l.map bG)],.agg (bh m)] H=ret (.tuple [.agg (yO (Jx (Gk 0 lv) lv m) a1 a2 a3 a4),.i 0]) H'/\dI H.length H H'/\qD H' (Jx (Gk 0 lv) lv m) a1 a2 a3 a4:=by
 have hce:=ok.ce;have g:(Gk 0 lv).length=m.ce.length:=by rw[QC,f]
 generalize q:H++[DB.buf 1 true true (dY lv)]++J=e at p;have o:e[H.length]? = some (.buf 1 true true (dY lv)):=by rw[<- q];exact cC J (be H _)
 have hl1:H.length<e.length:=dl o;have y:dI H.length H e:=by rw[<- q,ajL];exact dI.app H _
 have G:(e++[DB.buf 1 true true (List.replicate m.ce.length [.i 0])])[e.length]? = some (.buf 1 true true (dC ([]++List.replicate lv.length 0))):=by rw[be,agc,dC,apr,f]
 have r:(e++[DB.buf 1 true true (List.replicate m.ce.length [.i 0])])[H.length]? = some (.buf 1 true true (dY lv)):=aD _ o;have hc:=KL m lv (by omega) H.length e.length (by omega) lv [] 0 [] _ rfl rfl (abH _) r G;rw[uO,agc,f]at hc;generalize hto':Gk 0 lv=to at hc g;have h:(e++[DB.buf 1 true true (dC to)])[e.length]? = some (.buf 1 true true (dC to)):=be e _;have k:(e++[DB.buf 1 true true (dC to)])[H.length]? = some (.buf 1 true true (dY lv)):=aD _ o;have s:dI e.length e (e++[DB.buf 1 true true (dC to)]):=dI.app e _;generalize e++[DB.buf 1 true true (dC to)]=z at hc h k s;have j:e.length<z.length:=dl h;obtain⟨x,A3,t,I,F⟩:=Xf m ok ik lv f to g H.length e.length z.length j (by omega) lv [] m.ce [] .nilrow z rfl rfl rfl (abH _) k h (.inl ⟨rfl,rfl⟩);have u:x[e.length]? = some (.buf 1 true true (dC to)):=by rw[t.2 _ j];exact h
 obtain⟨A,A4,v,K,L⟩:=abm m ok ik to g e.length x.length (.i m.mo) (.i m.ex) (.i (qw to m.en)) (.bool (et to ⟨m.vc,m.vn⟩).c) (.i (et to ⟨m.vc,m.vn⟩).n) (.row 3 (m.fr.map eg)) A3 (.i m.bo) (.row 4 (m.ou.map gR)) (.i m.st) (ajN j t.1) m.to [] .nilrow x rfl (abH _) u (.inl ⟨rfl,rfl⟩);have w:e.length<x.length:=ajN j t.1;have B:A[e.length]? = some (.buf 1 true true (dC to)):=by rw[v.2 _ w];exact u
 obtain⟨M,A5,E,N,O⟩:=abW m ok ik to g e.length A.length _ (.i m.mo) (.i m.ex) (.i (qw to m.en)) (.bool (et to ⟨m.vc,m.vn⟩).c) (.i (et to ⟨m.vc,m.vn⟩).n) A3 A4 (.i m.bo) (.row 4 (m.ou.map gR)) (.i m.st) (ajN w v.1) m.fr [] .nilrow A rfl rfl (abH _) B (.inl ⟨rfl,rfl⟩);refine⟨M,A5,A3,A4,.row 4 (m.ou.map gR),?_,?_,?_⟩
 .refine ev (f29) ?_;rw[am p];simp only[dU,ai,aw]
  rw[bu,ao,show((0:Int) != 0)=false from rfl,Xi,kz,abp,aI,show(Nat.ble m.ce.length 2199023255552&&fg ab 3 m.ce.length)=true by rw[sm3,abk];exact⟨acw (by omega),acw (by omega)⟩,boK,ge]
  refine hc.trans ?_;rw[f]at F;exact F.trans (L.trans O)
 .have g3:=t.1;have g4:=v.1;exact y.trans ((s.le (by omega)).trans ((t.le (by omega)).trans ((v.le (by omega)).trans (E.le (by omega)))))
 .have Q:=(I.is.keep v).keep E;have R:=K.is.keep E;exact⟨⟨_,N.is,Wr _ _⟩,⟨_,Q,Xh _ _⟩,R,.inl rfl⟩
end
section
def cd(o:Nat)(rs:List Re):D:=cU 2 o (rs.map cL)
section
variable{α:Type}(mk:α->D->List D)(inn:α->List Re)
def cw(fs:List α)(os:List Nat):aQ:=List.zipWith (λf o=>mk f (cd o (inn f))) fs os
structure ka(H:DH)(b:Nat)(fs:List α)(os:List Nat):Prop where
 len:os.length=fs.length
 own:∀(i:Nat) (f:α) (o:Nat),fs[i]? = some f->os[i]? = some o->inn f≠[]->b<=o/\H[o]? = some (.buf 2 true false ((inn f).map cL))
 inj:∀(i j:Nat) (f g:α) (o:Nat),i≠j->fs[i]? = some f->fs[j]? = some g->os[i]? = some o->os[j]? = some o->inn f≠[]->inn g≠[]->False
variable{mk inn}
def ka.nil(H:DH)(b:Nat):ka inn H b [] []:=⟨rfl,λi f o h=>by simp at h,λi j f g o _ h=>by simp at h⟩
def ka.keep{H H':DH}{b:Nat}{fs:List α}{os:List Nat}(h:ka inn H b fs os)(k:∀(o:Nat) (x:DB),b<=o->H[o]? = some x->H'[o]? = some x):ka inn H' b fs os :=
 ⟨h.len,λi f o e g j=>⟨(h.own i f o e g j).1,k _ _ (h.own i f o e g j).1 (h.own i f o e g j).2⟩,h.inj⟩
def OA{β:Type}{l:List β}{x y:β}{i:Nat}(h:(l++[x])[i]? = some y):l[i]? = some y\/(i=l.length/\y=x):=by grind
theorem ka.put{H:DH}{b:Nat}{fs:List α}{os:List Nat}(h:ka inn H b fs os)(hb:b<=H.length)(f:α):ka inn (H++jW 2 ((inn f).map cL)) b (fs++[f]) (os++[H.length]):=by
 refine⟨by simp[h.len],λi g o t n k=>?_,λi j g g' o p t n k s u v=>?_⟩
 .rcases OA t with q|⟨q,rfl⟩
  .have hi:=(acy.1 q).1;rw[afZ (by rw[h.len];exact hi)]at n;obtain⟨p1,p2⟩:=h.own i g o q n k
   grind
  .have e:o=H.length:=by
    rw[q,<- h.len]at n
    grind
   subst e;refine⟨hb,?_⟩;cases w:(inn g).map cL with
   |nil=>exact absurd (List.map_eq_nil_iff.1 w) k
   |cons x r=>exact be H _
 .have key:∀(i j:Nat) (g g':α),i≠j->(fs++[f])[i]? = some g->(fs++[f])[j]? = some g'->(os++[H.length])[i]? = some o->(os++[H.length])[j]? = some o->inn g≠[]->inn g'≠[]->fs[i]? = some g->False:=by
   intro i j g g' p t n k s u v q;have hi:=(acy.1 q).1;rw[afZ (by rw[h.len];exact hi)]at k;have hlt:=dl (h.own i g o q k u).2;rcases OA n with r|⟨r,_⟩
   .have y:=(acy.1 r).1;rw[afZ (by rw[h.len];exact y)]at s;exact h.inj i j g g' o p q r k s u v
   .rw[r,<- h.len]at s
    grind
  grind
def ka.upd{H:DH}{b:Nat}{fs:List α}{os:List Nat}(h:ka inn H b fs os){i:Nat}{f:α}{o:Nat}(q:fs[i]? = some f)(s:os[i]? = some o)(u:inn f≠[])(f':α)(h4:inn f'≠[]):ka inn (H.set o (.buf 2 true false ((inn f').map cL))) b (fs.set i f') os:=by
 have hi:=(acy.1 q).1;have old:∀ {j:Nat} {g:α},(fs.set i f')[j]? = some g->(j=i/\g=f')\/(j≠i/\fs[j]? = some g):=by grind
 have orig:∀ {j:Nat} {g:α},(fs.set i f')[j]? = some g->inn g≠[]->∃ g',fs[j]? = some g'/\inn g'≠[]:=by grind
 refine⟨by simpa using h.len,λj g p v n t=>?_,λj k g g' p w v n t z A B=>?_⟩
 .rcases old v with⟨rfl,rfl⟩|⟨E,r⟩
  .rw[s]at n;cases n;exact⟨(h.own _ _ _ q s u).1,ba _ (h.own _ _ _ q s u).2⟩
  .obtain⟨F,G⟩:=h.own j g p r n t;refine⟨F,?_⟩;rw[aei (λe=>?_)]
   .exact G
   .subst e;exact h.inj i j f g o (apz E) q r s n u t
 .obtain⟨x,x1,x2⟩:=orig v A;obtain⟨y,y1,y2⟩:=orig n B;exact h.inj j k x y p w x1 y1 t z x2 y2
end
end
section
def yM(f:Fm)(d:D):List D:=[.i f.ex,.i f.en,d]
def yN(c:Ce)(d:D):List D:=[.i c.k,.str c.con,.i c.n,d,.i c.nx]
def rP(o n i:Nat)(κ:D->av):ay ab 38 (.buf 3 o n) (.i i) κ=boK (Nat.blt i n) (κ (.bptr o n i 0)):=by kernel_rfl
def MF(o n i:Nat)(κ:D->av):ay ab 39 (.buf 5 o n) (.i i) κ=boK (Nat.blt i n) (κ (.bptr o n i 0)):=by kernel_rfl
def VA(o n i:Nat)(κ:D->av):ay ab 41 (.buf 4 o n) (.i i) κ=boK (Nat.blt i n) (κ (.bptr o n i 0)):=by kernel_rfl
def zJ(o n i c:Nat)(H:DH)(κ:D->av):bJ ab 109 (.bptr o n i c) H κ=cH H o n λ_ _ _ l=>aX l i λcs=>ah cs c κ:=by kernel_rfl
def adU(o n i:Nat)(H:DH)(κ:D->av):bJ ab 72 (.bptr o n i 1) H κ=cH H o n λ_ _ _ l=>aX l i λcs=>bL ab 72 cs 1 κ:=by kernel_rfl
def mt(o n i c k:Nat)(κ:D->av):bI (.bptr o n i c) k κ=κ (.bptr o n i (c+k)):=rfl
def lst(o n i c:Nat)(new:List D)(H:DH)(κ:DH->av):GK (.bptr o n i c) new H κ=cH H o n λsz st cap l=>boK st (aX l i λcs=>aC cs c new λcs=>κ (H.set o (.buf sz st cap (l.set i cs)))):=rfl
def fJ{H:DH}{o n sz:Nat}{st cp:Bool}{l:aQ}{κ:Nat->Bool->Bool->aQ->av}(h:H[o]? = some (.buf sz st cp l))(e:l.length=n):cH H o n κ=κ sz st cp l:=by subst e;exact cy h
def fA{α:Type}{mk:α->D->List D}{inn:α->List Re}{fs:List α}{os:List Nat}(h:os.length=fs.length):(cw mk inn fs os).length=fs.length:=by simp[cw,h]
def EU{α:Type}{mk:α->D->List D}{inn:α->List Re}{fs:List α}{os:List Nat}(h:os.length=fs.length)(f:α)(o:Nat):cw mk inn (fs++[f]) (os++[o])=cw mk inn fs os++[mk f (cd o (inn f))]:=by simp_all[cw,List.zipWith_append]
def ach(m:Mc)(ok:iF m)(x0 x1 x2 x3 x4 x6 x7 x8 x9 xt:D)(ofr b:Nat)(r:ofr<b):∀(suf pre:List Fm) (os:List Nat) (H:DH),m.fr=pre++suf->b<=H.length->ka Fm.dn H b pre os->(m.fr≠[]->H[ofr]? = some (.buf 3 true false (cw yM Fm.dn pre os++suf.map eg))) ->
 ∃ os' H',dI ofr H H'/\(∀ i,i<b->i≠ofr->H'[i]? = H[i]?)/\ka Fm.dn H' b m.fr os'/\(m.fr≠[]->H'[ofr]? = some (.buf 3 true false (cw yM Fm.dn m.fr os'))) /\
  ac au 39 200003 [.lp 0 0,.lp 1 0,.n m.fr.length,.n pre.length] [(0,[x0,x1,x2,x3,x4,.buf 3 ofr m.fr.length,x6,x7,x8,x9,xt]),(0,iG)] H =
  ac au 39 200003 [.lp 0 0,.lp 1 0,.n m.fr.length,.n m.fr.length] [(0,[x0,x1,x2,x3,x4,.buf 3 ofr m.fr.length,x6,x7,x8,x9,xt]),(0,iG)] H'
 |[],pre,os,H,e,hb,j,v=>by grind [dI.refl]
 |f::suf,pre,os,H,e,hb,j,v=>by
  have s:m.fr≠[]:=by rw[e];simp
  have hi:pre.length<m.fr.length:=by rw[e];simp
  have hm:f∈m.fr:=by rw[e];simp
  have hfl:=ok.fr;have g:=v s;have p:(cw yM Fm.dn pre os++(f::suf).map eg).length=m.fr.length:=by rw[abg,fA j.len,e];simp
  have h:(cw yM Fm.dn pre os++(f::suf).map eg)[pre.length]? = some (eg f):=by grind
  have t:=ack (f.dn.map cL) (by rw[abh];exact akG (ok.dn f hm) (by decide)) H;have hbuf1:(H++jW 2 (f.dn.map cL))[ofr]? = some (.buf 3 true false (cw yM Fm.dn pre os++(f::suf).map eg)):=cC _ g;have q:(cw yM Fm.dn pre os++(f::suf).map eg).set pre.length (yM f (cd H.length f.dn))=cw yM Fm.dn (pre++[f]) (os++[H.length])++suf.map eg:=by rw[EU j.len,ajA _ _ (by rw[fA j.len];exact abH _),fA j.len,akN];simp
  have u:=(j.put hb f).keep (H':=(H++jW 2 (f.dn.map cL)).set ofr (.buf 3 true false (cw yM Fm.dn (pre++[f]) (os++[H.length])++suf.map eg))) (λo x ho w=>by rw[aei (by omega)];exact w);obtain⟨os',H',k,kk,y,z,ih⟩:=ach m ok x0 x1 x2 x3 x4 x6 x7 x8 x9 xt ofr b r suf (pre++[f]) (os++[H.length]) _ (by rw[e];simp) (by simp;omega) u (λ_=>ba _ hbuf1);rw[abg,abf]at ih;refine⟨os',H',dI.trans ⟨by simp,λi hi=>?_⟩ k,λi hi hn=>?_,y,z,aW (CA) ?_⟩
  .grind
  .grind
  rw[gk hi,ge];simp only[ai,aw];rw[rP,gh hi,boK,ge,mt,zJ,fJ g p,ak h];simp only[eg,afY,ai,aw];refine(aH t).trans ?_;rw[rP,gh hi,boK,ge,mt,NC,lst,fJ hbuf1 p,boK,ge,ak h,show ∀ κ:List D->av,aC (eg f) (0+2) [cU 2 H.length (f.dn.map cL)] κ=κ (yM f (cd H.length f.dn))from λ_=>rfl,q,uK pre.length (by omega)];exact ih
def aci(m:Mc)(ok:iF m)(x0 x1 x2 x3 x4 x5 x7 x8 x9 xt:D)(ofr b:Nat)(r:ofr<b):∀(suf pre:List Ce) (os:List Nat) (H:DH),m.ce=pre++suf->b<=H.length->ka Ce.refs H b pre os->(m.ce≠[]->H[ofr]? = some (.buf 5 true false (cw yN Ce.refs pre os++suf.map dw))) ->
 ∃ os' H',H.length<=H'.length/\(∀ i,i<H.length->i≠ofr->H'[i]? = H[i]?)/\ka Ce.refs H' b m.ce os'/\(m.ce≠[]->H'[ofr]? = some (.buf 5 true false (cw yN Ce.refs m.ce os'))) /\
  ac au 39 200008 [.lp 0 0,.lp 1 0,.n m.ce.length,.n pre.length] [(0,[x0,x1,x2,x3,x4,x5,.buf 5 ofr m.ce.length,x7,x8,x9,xt]),(0,iG)] H =
  ac au 39 200008 [.lp 0 0,.lp 1 0,.n m.ce.length,.n m.ce.length] [(0,[x0,x1,x2,x3,x4,x5,.buf 5 ofr m.ce.length,x7,x8,x9,xt]),(0,iG)] H'
 |[],pre,os,H,e,hb,j,v=>by grind
 |f::suf,pre,os,H,e,hb,j,v=>by
  have s:m.ce≠[]:=by rw[e];simp
  have hi:pre.length<m.ce.length:=by rw[e];simp
  have hm:f∈m.ce:=by rw[e];simp
  have hfl:=ok.ce;have g:=v s;have p:(cw yN Ce.refs pre os++(f::suf).map dw).length=m.ce.length:=by rw[abg,fA j.len,e];simp
  have h:(cw yN Ce.refs pre os++(f::suf).map dw)[pre.length]? = some (dw f):=by grind
  have t:=ack (f.refs.map cL) (by rw[abh];exact akG (ok.refs f hm) (by decide)) H;have hbuf1:(H++jW 2 (f.refs.map cL))[ofr]? = some (.buf 5 true false (cw yN Ce.refs pre os++(f::suf).map dw)):=cC _ g;have q:(cw yN Ce.refs pre os++(f::suf).map dw).set pre.length (yN f (cd H.length f.refs))=cw yN Ce.refs (pre++[f]) (os++[H.length])++suf.map dw:=by rw[EU j.len,ajA _ _ (by rw[fA j.len];exact abH _),fA j.len,akN];simp
  have u:=(j.put hb f).keep (H':=(H++jW 2 (f.refs.map cL)).set ofr (.buf 5 true false (cw yN Ce.refs (pre++[f]) (os++[H.length])++suf.map dw))) (λo x ho w=>by rw[aei (by omega)];exact w);obtain⟨os',H',k,y,z,A,ih⟩:=aci m ok x0 x1 x2 x3 x4 x5 x7 x8 x9 xt ofr b r suf (pre++[f]) (os++[H.length]) _ (by rw[e];simp) (by simp;omega) u (λ_=>ba _ hbuf1);rw[abg,abf]at ih;simp only[anK,abg]at k y;refine⟨os',H',by omega,λi hi hn=>?_,z,A,aW (Cz) ?_⟩
  .grind
  rw[gk hi,ge];simp only[ai,aw];rw[MF,gh hi,boK,ge,mt,zJ,fJ g p,ak h];simp only[dw,afY,ai,aw];refine(aH t).trans ?_;rw[MF,gh hi,boK,ge,mt,NC,lst,fJ hbuf1 p,boK,ge,ak h,show ∀ κ:List D->av,aC (dw f) (0+3) [cU 2 H.length (f.refs.map cL)] κ=κ (yN f (cd H.length f.refs))from λ_=>rfl,q,uK pre.length (by omega)];exact ih
def acg(m:Mc)(ok:iF m)(x0 x1 x2 x3 x4 x5 x6 x7 x8 xt:D)(oou:Nat)(H:DH)(hb:H[oou]? = some (.buf 4 true false (m.ou.map gR))):∀(suf pre:List Nv),m.ou=pre++suf ->
 ac au 39 200013 [.lp 0 0,.lp 1 0,.n m.ou.length,.n pre.length] [(0,[x0,x1,x2,x3,x4,x5,x6,x7,x8,.buf 4 oou m.ou.length,xt]),(0,iG)] H =
  ret (.agg [x0,x1,x2,x3,x4,x5,x6,x7,x8,.buf 4 oou m.ou.length,xt]) H
 |[],pre,e=>by
  have j:m.ou=pre:=by rw[e];simp
  refine aW (sd) ?_;rw[j,yV _,Xi];rfl
 |v::suf,pre,e=>by
  have hi:pre.length<m.ou.length:=by rw[e];simp
  have g:(m.ou.map gR)[pre.length]? = some (gR v):=by rw[e];exact bz _ _ _ _
  have hm:v∈m.ou:=by rw[e];simp
  have hol:=ok.ou;have ih:=acg m ok x0 x1 x2 x3 x4 x5 x6 x7 x8 xt oou H hb suf (pre++[v]) (by rw[e];simp);rw[abg,abf]at ih;have i:=ajb v.v (ok.v v hm) H;have h:(m.ou.map gR).set pre.length (gR v)=m.ou.map gR:=gB g;have f:(m.ou.map gR).length=m.ou.length:=abh ..;obtain⟨nm,⟨vc,vn,vx⟩⟩:=v;simp only[kU]at i;refine aW (sd) ?_;rw[gk hi,ge];simp only[ai,aw];rw[VA,gh hi,boK,ge,mt,adU,fJ hb f,ak g];simp only[gR];rw[afJ];refine(aH i).trans ?_;rw[VA,gh hi,boK,ge,mt,RW,lst,fJ hb f,boK,ge,ak g];rw[show ∀ κ:List D->av,aC (gR ⟨nm,.mk vc vn vx⟩) (0+1) (xV vc vn (ff vx)) κ=κ (gR ⟨nm,.mk vc vn vx⟩)from λ_=>rfl,h,gB hb,uK pre.length (by omega)];exact ih
variable{x0 x1 x2 x3 x4 x5 x6 x7 x8 x9 xt:D}
def ex3(n:Nat)(H:DH):ac au 39 200003 [.lp 0 0,.lp 1 0,.n n,.n n] [(0,[x0,x1,x2,x3,x4,x5,x6,x7,x8,x9,xt]),(0,iG)] H=aP ab 39 x6 H λa=>ac au 39 200008 [.lp 0 0,.lp 1 0,.g a,.n 0] [(0,[x0,x1,x2,x3,x4,x5,x6,x7,x8,x9,xt]),(0,iG)] H:=by refine aW (CA) ?_;simp_all[ai,aw]
def ex8(n:Nat)(H:DH):ac au 39 200008 [.lp 0 0,.lp 1 0,.n n,.n n] [(0,[x0,x1,x2,x3,x4,x5,x6,x7,x8,x9,xt]),(0,iG)] H=aP ab 41 x9 H λa=>ac au 39 200013 [.lp 0 0,.lp 1 0,.g a,.n 0] [(0,[x0,x1,x2,x3,x4,x5,x6,x7,x8,x9,xt]),(0,iG)] H:=by refine aW (Cz) ?_;simp_all[ai,aw]
def iT{sz n:Nat}{l:aQ}(h:l≠[]):cU sz n l=.buf sz n l.length/\jW sz l=[.buf sz true false l]:=by
 cases l with
 |nil=>exact absurd rfl h
 |cons x r=>exact⟨rfl,rfl⟩
def aft(m:Mc)(ok:iF m)(ofr b:Nat)(f:m.fr≠[]->ofr<b)(H:DH)(hb:b<=H.length)(g:m.fr≠[]->H[ofr]? = some (.buf 3 true false (m.fr.map eg))) :
 ∃ os H',H.length<=H'.length/\(∀ i,i<b->(i=ofr->m.fr=[])->H'[i]? = H[i]?)/\ka Fm.dn H' b m.fr os/\(m.fr≠[]->H'[ofr]? = some (.buf 3 true false (cw yM Fm.dn m.fr os))) /\
  ac au 39 200003 [.lp 0 0,.lp 1 0,.n m.fr.length,.n 0] [(0,[x0,x1,x2,x3,x4,cU 3 ofr (m.fr.map eg),x6,x7,x8,x9,xt]),(0,iG)] H =
  ac au 39 200003 [.lp 0 0,.lp 1 0,.n m.fr.length,.n m.fr.length] [(0,[x0,x1,x2,x3,x4,cU 3 ofr (m.fr.map eg),x6,x7,x8,x9,xt]),(0,iG)] H':=by
 by_cases h:m.fr=[]
 .exact⟨[],H,abH _,λ_ _ _=>rfl,by rw[h];exact ka.nil H b,λq=>absurd h q,by rw[h];rfl⟩
 .have hc:=(iT (sz:=3) (n:=ofr) (l:=m.fr.map eg) (by simpa using h)).1;rw[abh]at hc;obtain⟨os,H',k,j,o,p,e⟩:=ach m ok x0 x1 x2 x3 x4 x6 x7 x8 x9 xt ofr b (f h) m.fr [] [] H rfl hb (ka.nil H b) (λq=>g q);exact⟨os,H',k.1,λi hi r=>j i hi (λq=>h (r q)),o,p,by rw[hc];exact e⟩
def afu(m:Mc)(ok:iF m)(ofr b:Nat)(f:m.ce≠[]->ofr<b)(H:DH)(hb:b<=H.length)(g:m.ce≠[]->H[ofr]? = some (.buf 5 true false (m.ce.map dw))) :
 ∃ os H',H.length<=H'.length/\(∀ i,i<H.length->(i=ofr->m.ce=[])->H'[i]? = H[i]?)/\ka Ce.refs H' b m.ce os/\(m.ce≠[]->H'[ofr]? = some (.buf 5 true false (cw yN Ce.refs m.ce os))) /\
  ac au 39 200008 [.lp 0 0,.lp 1 0,.n m.ce.length,.n 0] [(0,[x0,x1,x2,x3,x4,x5,cU 5 ofr (m.ce.map dw),x7,x8,x9,xt]),(0,iG)] H =
  ac au 39 200008 [.lp 0 0,.lp 1 0,.n m.ce.length,.n m.ce.length] [(0,[x0,x1,x2,x3,x4,x5,cU 5 ofr (m.ce.map dw),x7,x8,x9,xt]),(0,iG)] H':=by
 by_cases h:m.ce=[]
 .exact⟨[],H,abH _,λ_ _ _=>rfl,by rw[h];exact ka.nil H b,λq=>absurd h q,by rw[h];rfl⟩
 .have hc:=(iT (sz:=5) (n:=ofr) (l:=m.ce.map dw) (by simpa using h)).1;rw[abh]at hc;obtain⟨os,H',k,j,o,p,e⟩:=aci m ok x0 x1 x2 x3 x4 x5 x7 x8 x9 xt ofr b (f h) m.ce [] [] H rfl hb (ka.nil H b) (λq=>g q);exact⟨os,H',k,λi hi r=>j i hi (λq=>h (r q)),o,p,by rw[hc];exact e⟩
def afs(m:Mc)(ok:iF m)(oou:Nat)(H:DH)(e:m.ou≠[]->H[oou]? = some (.buf 4 true false (m.ou.map gR))) :
 ac au 39 200013 [.lp 0 0,.lp 1 0,.n m.ou.length,.n 0] [(0,[x0,x1,x2,x3,x4,x5,x6,x7,x8,cU 4 oou (m.ou.map gR),xt]),(0,iG)] H=ret (.agg [x0,x1,x2,x3,x4,x5,x6,x7,x8,cU 4 oou (m.ou.map gR),xt]) H:=by
 by_cases h:m.ou=[]
 .rw[h];refine aW (sd) ?_;rfl
 .have hc:=(iT (sz:=4) (n:=oou) (l:=m.ou.map gR) (by simpa using h)).1;rw[abh]at hc;rw[hc];exact acg m ok x0 x1 x2 x3 x4 x5 x6 x7 x8 xt oou H (e h) m.ou [] rfl
def lG(ty el:TypeId)(e:ab.underlying ty=some (.slice el))(sz n:Nat)(l:aQ)(H:DH)(κ:D->av):aP ab ty (cU sz n l) H κ=κ (.i l.length):=by cases l<;>(rw[cU,aP,e];try rfl)
structure anG(H:DH)(m:Mc)(p q r s b:Nat)(os oc:List Nat):Prop where
 fr:m.fr≠[]->H[p]? = some (.buf 3 true false (cw yM Fm.dn m.fr os))
 ce:m.ce≠[]->H[q]? = some (.buf 5 true false (cw yN Ce.refs m.ce oc))
 to:m.to≠[]->H[r]? = some (.buf 3 true false (m.to.map eX))
 ou:m.ou≠[]->H[s]? = some (.buf 4 true false (m.ou.map gR))
 own:ka Fm.dn H b m.fr os
 ownc:ka Ce.refs H b m.ce oc
 pq:p<=q/\(m.fr≠[]->p<q)
 qr:q<=r/\(m.ce≠[]->q<r)
 rs:r<=s/\(m.to≠[]->r<s)
 sb:s<=b/\(m.ou≠[]->s<b)
 bH:b<=H.length
def Il{H:DH}{sz:Nat}{l:aQ}:H.length<=(H++jW sz l).length/\(l≠[]->H.length<(H++jW sz l).length):=by refine⟨by simp,λh=>?_⟩;rw[(iT (sz:=sz) (n:=0) h).2];simp
def zW{H:DH}{sz:Nat}{l:aQ}(h:l≠[]):(H++jW sz l)[H.length]? = some (.buf sz true false l):=by rw[(iT (sz:=sz) (n:=0) h).2];exact be H _
def KM(m:Mc)(ok:iF m)(H:DH):∃ q r s b os oc H',aq 39 [.agg (bh m)] H=ret (.agg (yO m (cU 3 H.length (m.fr.map eg)) (cU 5 q (m.ce.map dw)) (cU 3 r (m.to.map eX)) (cU 4 s (m.ou.map gR)))) H'/\dI H.length H H'/\anG H' m H.length q r s b os oc:=by
 have ne1 {α:Type} {f:α->List D} {l:List α} (h:l≠[]):l.map f≠[]:=by simpa using h
 have l1:=ok.fr;have l2:=ok.ce;have l3:=ok.to;have l4:=ok.ou;have c1:=ajj (m.fr.map eg) (by rw[abh];omega) H;have t:=Il (H:=H) (sz:=3) (l:=m.fr.map eg);have G (h:m.fr≠[]):=zW (H:=H) (sz:=3) (ne1 (f:=eg) h);have y:=dI.app H (jW 3 (m.fr.map eg));generalize hH1:H++jW 3 (m.fr.map eg)=g at c1 t G y;have c2:=aji (m.ce.map dw) (by rw[abh];omega) g;have u:=Il (H:=g) (sz:=5) (l:=m.ce.map dw);have I (h:m.ce≠[]):=zW (H:=g) (sz:=5) (ne1 (f:=dw) h);have z:=dI.app g (jW 5 (m.ce.map dw));generalize hH2:g++jW 5 (m.ce.map dw)=j at c2 u I z;have c3:=ajh (m.to.map eX) (by rw[abh];omega) j;have v:=Il (H:=j) (sz:=3) (l:=m.to.map eX);have J (h:m.to≠[]):=zW (H:=j) (sz:=3) (ne1 (f:=eX) h);have A:=dI.app j (jW 3 (m.to.map eX));generalize hH3:j++jW 3 (m.to.map eX)=k at c3 v J A;have B:=ajg (m.ou.map gR) (by rw[abh];omega) k;have w:=Il (H:=k) (sz:=4) (l:=m.ou.map gR);have K (h:m.ou≠[]):=zW (H:=k) (sz:=4) (ne1 (f:=gR) h);have E:=dI.app k (jW 4 (m.ou.map gR));generalize hH4:k++jW 4 (m.ou.map gR)=n at B w K E;have n1 (h:m.fr≠[]):H.length<g.length:=t.2 (ne1 h);have n2 (h:m.ce≠[]):g.length<j.length:=u.2 (ne1 h);have n3 (h:m.to≠[]):j.length<k.length:=v.2 (ne1 h);have n4 (h:m.ou≠[]):k.length<n.length:=w.2 (ne1 h);have g1' (h:m.fr≠[]):n[H.length]? = some (.buf 3 true false (m.fr.map eg)):=by grind
 have g2' (h:m.ce≠[]):n[g.length]? = some (.buf 5 true false (m.ce.map dw)):=by grind
 have g3' (h:m.to≠[]):n[j.length]? = some (.buf 3 true false (m.to.map eX)):=by grind
 have L {i:Nat} (h:g.length<=i):i=H.length->m.fr=[]:=λe=>anZ λq=>by have:=n1 q;omega
 have z2 {i:Nat} (h:j.length<=i):i=g.length->m.ce=[]:=λe=>anZ λq=>by have:=n2 q;omega
 obtain⟨os,M,N,kk5,own,fv5,O⟩:=aft (x0:=.i m.mo) (x1:=.i m.ex) (x2:=.i m.en) (x3:=.bool m.vc) (x4:=.i m.vn) (x6:=cU 5 g.length (m.ce.map dw)) (x7:=cU 3 j.length (m.to.map eX)) (x8:=.i m.bo) (x9:=cU 4 k.length (m.ou.map gR)) (xt:=.i m.st) m ok H.length n.length (λh=>by have:=n1 h;omega) n (abH _) g1'
 obtain⟨oc,p,b6,kk6,ownc,fv6,Q⟩:=afu (x0:=.i m.mo) (x1:=.i m.ex) (x2:=.i m.en) (x3:=.bool m.vc) (x4:=.i m.vn) (x5:=cU 3 H.length (m.fr.map eg)) (x7:=cU 3 j.length (m.to.map eX)) (x8:=.i m.bo) (x9:=cU 4 k.length (m.ou.map gR)) (xt:=.i m.st) m ok g.length n.length (λh=>by have:=n2 h;omega) M N (λh=>by have:=n2 h;rw[kk5 _ (by omega) (L (by omega))];exact g2' h)
 have R:∀ i,i<n.length->(i=H.length->m.fr=[])->(i=g.length->m.ce=[])->p[i]? = n[i]?:=λi hi U W=>(kk6 i (by omega) W).trans (kk5 i hi U);have X (h:m.to≠[]):p[j.length]? = some (.buf 3 true false (m.to.map eX)):=by grind
 have F (h:m.ou≠[]):p[k.length]? = some (.buf 4 true false (m.ou.map gR)):=by grind
 refine⟨g.length,j.length,k.length,n.length,os,oc,p,ev (f39) ?_,⟨by omega,λi hi=>?_⟩,?_⟩
 .refine(aH c1).trans ((aH c2).trans ((aH c3).trans ((aH B).trans ?_)));simp only[NC,bh,om5,om6,om7,om9,ai,aw];rw[lG 38 111 SZ,abh];refine O.trans ((ex3 _ _).trans ?_);rw[lG 39 115 w39,abh];refine Q.trans ((ex8 _ _).trans ?_);rw[lG 41 74 Yd,abh];exact afs m ok k.length p F
 .rw[R i (by omega) (λe=>by omega) (λe=>by omega),E.2 _ (by omega),A.2 _ (by omega),z.2 _ (by omega),y.2 _ hi]
 .refine⟨λh=>?_,fv6,X,F,own.keep (λo x ho hx=>?_),ownc,⟨t.1,n1⟩,⟨u.1,n2⟩,⟨v.1,n3⟩,⟨w.1,n4⟩,by omega⟩
  .grind
  grind
structure lV(H:DH)(v a:Nat)(to:List Int):Prop where
 c:∃ s,H[v]? = some (.cells s [.buf 1 a to.length])
 b:H[a]? = some (.buf 1 true true (dC to))
def NG{H:DH}{v a:Nat}{to:List Int}(h:lV H v a to){n:Int}(e:n<to.length):aq 56 [.i n,.ptr v 0] H=ret (.i (qw to n)) H:=by
 obtain⟨s,hc⟩:=h.c;refine ev (f56) ?_;rw[qw];by_cases f:n<0
 .grind
 .rw[show decide (n>=0)=true by simp;omega,acz f,ge,Xi,ae hc,ai];exact UA h.b (by omega) e _
def Is{H:DH}{v a:Nat}{to:List Int}(h:lV H v a to){r:Re}(hr:iK to.length r):aq 55 [.agg [.bool r.c,.i r.n],.ptr v 0] H=ret (.agg (cL (et to r))) H:=by
 obtain⟨s,hc⟩:=h.c;refine ev (f55) ?_;cases e:r.c with
 |false=>rw[Xi,et,e,Xi,cL,e]
 |true =>obtain⟨g0,f⟩:=hr e;rw[ge,ae hc,ai];refine(UA h.b g0 f _).trans ?_;rw[ci1,agX,et,e];rfl
def Ez:Nat->List Bool->List Int
 |_,[]=>[]
 |k,b::r=>(bif b then(k:Int)else 0)::Ez (bif b then k+1 else k) r
def QD:∀(l:List Bool) (k:Nat),(Ez k l).length=l.length
 |[],_=>rfl
 |_::r,_=>by rw[Ez,aga,aga,QD r]
theorem WR:∀(l:List Bool) (k i:Nat),l[i]? = some true->(Ez k l)[i]? =(Gk k l)[i]?
 |[],_,_,h=>by simp at h
 |b::r,k,0,h=>by simp only[aox,acf]at h;subst h;rfl
 |b::r,k,i+1,h=>by rw[Ez,Gk,anU,anU];exact WR r _ i h
def Df(m:Mc)(lv:List Bool)(hl:lv.length<=1048576)(lo v a:Nat)(h:lo≠a)(s:Nat):∀(suf pre:List Bool) (k:Nat) (dn:List Int) (H:DH),lv=pre++suf->dn.length=pre.length->k<=pre.length->H[lo]? = some (.buf 1 true true (dY lv))->H[v]? = some (.cells s [.buf 1 a lv.length])->H[a]? = some (.buf 1 true true (dC (dn++List.replicate suf.length 0))) ->
 ∃ o:Nat,ac au 28 200007 [.lp 1 0,.lp 2 0,.g (.ptr v 0),.n k,.g (.buf 1 lo lv.length),.g (.buf 1 lo lv.length),.n lv.length,.n pre.length] [(0,[]),(0,bh m),(0,iG)] H =
  ac au 28 200007 [.lp 1 0,.lp 2 0,.g (.ptr v 0),.n o,.g (.buf 1 lo lv.length),.g (.buf 1 lo lv.length),.n lv.length,.n lv.length] [(0,[]),(0,bh m),(0,iG)] (H.set a (.buf 1 true true (dC (dn++Ez k suf))))
 |[],pre,k,dn,H,e,p,hk,f,j,r=>by grind [Ez,dC,gB]
 |b::suf,pre,k,dn,H,e,p,hk,f,j,r=>by
  have hi:pre.length<lv.length:=by rw[e];simp
  have t:lv[pre.length]? = some b:=by rw[e];simp
  have u:(dn++List.replicate (b::suf).length (0:Int)).length=lv.length:=by rw[e];simp[p]
  have hset (x:Int):(dC (dn++List.replicate (b::suf).length (0:Int))).set pre.length [.i x]=dC (dn++[x]++List.replicate suf.length 0):=by rw[JQ,<- p,ajA _ _ (abH _),akN,aga,aok,apf];simp
  have w:(dC (dn++List.replicate (b::suf).length (0:Int)))[pre.length]? = some [.i 0]:=by grind [zQ]
  have hw (x:Nat) (hx:x<=pre.length):bm ((x:Int)+1)=((x+1:Nat):Int):=aE (by omega);have y:v≠a:=λq=>by rw[q,r]at j;cases j
  cases b with
  |true =>obtain⟨o,ih⟩:=Df m lv hl lo v a h s suf (pre++[true]) (k+1) (dn++[(k:Int)]) (H.set a (.buf 1 true true (dC (dn++[(k:Int)]++List.replicate suf.length 0)))) (by rw[e];simp) (by simp[p]) (by simp;omega) (by rw[aei h.symm];exact f) (by rw[aei y.symm];exact j) (ba _ r);rw[abg,abf,agd]at ih;refine⟨o,aW (sj) ?_⟩;rw[gk hi,ge];refine(lq f t _).trans ?_;rw[ao,ge,ae j,ai,abL,gh hi,boK,ge,lst,Xo r u,boK,ge,ak w,RQ];simp_all[Ez]
  |false =>obtain⟨o,ih⟩:=Df m lv hl lo v a h s suf (pre++[false]) k (dn++[0]) H (by rw[e];simp) (by simp[p]) (by simp;omega) f j (by rw[r];simp[aok]);rw[abg,abf]at ih;refine⟨o,aW (sj) ?_⟩;rw[gk hi,ge];refine(lq f t _).trans ?_;simp_all[ao,Ez,ajL,ans]
def zM(o n i:Nat)(κ:D->av):ay ab 109 (.buf 2 o n) (.i i) κ=boK (Nat.blt i n) (κ (.bptr o n i 0)):=by kernel_rfl
def Vu(o n i:Nat)(H:DH)(κ:D->av):bJ ab 37 (.bptr o n i 0) H κ=cH H o n λ_ _ _ l=>aX l i λcs=>bL ab 37 cs 0 κ:=by kernel_rfl
def ZM:aV bF 55=true:=by kernel_rfl
def aep:aV bF 56=true:=by kernel_rfl
def lV.set{H:DH}{v a:Nat}{to:List Int}(h:lV H v a to){o:Nat}(e:o≠v)(f:o≠a)(x:DB):lV (H.set o x) v a to:=by obtain⟨⟨s,hc⟩,hb⟩:=h;exact⟨⟨s,by rw[aei e];exact hc⟩,by rw[aei f];exact hb⟩
variable{x0 x1 x2 x3 x4 x5 x6 x7 x8 x9 xt y0 y1 y2 y4:D}
def OO{v a:Nat}{to:List Int}(lvd e:D)(h j:Int)(rs:List Re)(hl:rs.length<=1048576)(hr:∀ r∈rs,iK to.length r)(o:Nat)(u:o≠v)(w:o≠a):∀(suf pre:List Re) (H:DH),rs=pre++suf->lV H v a to->H[o]? = some (.buf 2 true false ((pre.map (et to)++suf).map cL)) ->
 ac au 28 200022 [.lp 2 0,.g lvd,.g (Kf v),.g (Kg v),.lp 3 0,.lp 4 0,.g e,.n h,.n j,.n rs.length,.n pre.length] [(0,[]),(0,[]),(0,iG),(0,[x0,x1,x2,x3,x4,x5,x6,x7,x8,x9,xt]),(0,[y0,y1,y2,.buf 2 o rs.length,y4])] H =
  ac au 28 200022 [.lp 2 0,.g lvd,.g (Kf v),.g (Kg v),.lp 3 0,.lp 4 0,.g e,.n h,.n j,.n rs.length,.n rs.length] [(0,[]),(0,[]),(0,iG),(0,[x0,x1,x2,x3,x4,x5,x6,x7,x8,x9,xt]),(0,[y0,y1,y2,.buf 2 o rs.length,y4])] (H.set o (.buf 2 true false ((rs.map (et to)).map cL)))
 |[],pre,H,k,f,hb=>by grind [gB]
 |r::suf,pre,H,k,f,hb=>by
  have hi:pre.length<rs.length:=by rw[k];simp
  have p:((pre.map (et to)++r::suf).map cL).length=rs.length:=by rw[k];simp
  have q:((pre.map (et to)++r::suf).map cL)[pre.length]? = some (cL r):=by grind
  have s:((pre.map (et to)++r::suf).map cL).set pre.length (cL (et to r))=((pre++[r]).map (et to)++suf).map cL:=by grind
  have t:=Is f (hr r (by rw[k];simp));have ih:=OO lvd e h j rs hl hr o u w suf (pre++[r]) _ (by rw[k];simp) (f.set u w _) (ba (.buf 2 true false (((pre++[r]).map (et to)++suf).map cL)) hb);rw[abg,abf,agd]at ih;refine aoQ (aW (CJ) ?_) ih;rw[gk hi,ge];simp only[ai,aw];rw[zM,gh hi,boK,ge,Vu,fJ hb p,ak q,show cL r=[.bool r.c,.i r.n] from rfl,aaA,bZ ZM];refine(aH t).trans ?_;rw[zM,gh hi,boK,ge,show cL (et to r)=[.bool (et to r).c,.i (et to r).n] from rfl,MO,lst,fJ hb p,boK,ge,ak q,show cL r=[.bool r.c,.i r.n] from rfl,adP,show [D.bool (et to r).c,.i (et to r).n]=cL (et to r)from rfl,s,uK pre.length (by omega)]
variable{x0 x1 x2 x3 x4 x5 x7 x8 x9 xt:D}
def ade{v a:Nat}{to:List Int}(lvd e p A:D)(h:Int)(j n:Nat)(hj:j<2^61)(k nn nx:Int)(con:af)(R:aQ)(hR:R.length<=1048576)(o:Nat)(H:DH)(hb:o<=H.length)(q:lV H v a to)(r:nx<to.length)(hA:uJ H o 5 R A) :
 ∃ A' H',dI o H H'/\uJ H' o 5 (R++[[.i k,.str con,.i nn,p,.i (qw to nx)]]) A' /\
  ac au 28 200022 [.lp 2 0,.g lvd,.g (Kf v),.g (Kg v),.lp 3 0,.lp 4 0,.g e,.n h,.n j,.n n,.n n] [(0,[]),(0,[]),(0,iG),(0,[x0,x1,x2,x3,x4,x5,A,x7,x8,x9,xt]),(0,[.i k,.str con,.i nn,p,.i nx])] H =
  ac au 28 200018 [.lp 2 0,.g lvd,.g (Kf v),.g (Kg v),.lp 3 0,.g e,.n h,.n ((j+1:Nat):Int)] [(0,[]),(0,[]),(0,iG),(0,[x0,x1,x2,x3,x4,x5,A',x7,x8,x9,xt])] H':=by
 obtain⟨A',H',hp,f,s⟩:=hA.put (ok:=aG ab 115) hb (EX (by omega)) (EX (by omega)) [.i k,.str con,.i nn,p,.i (qw to nx)];refine⟨A',H',s,f,aW (CJ) ?_⟩;rw[yV _,Xi];simp only[ai,aw];rw[bZ aep];refine(am (NG q r)).trans ?_;rw[ci1,agU];simp only[ai,aw];rw[hp,f.c1,om6,uK j (by omega)]
def Zv(o n i:Nat)(H:DH)(κ:D->av):bJ ab 115 (.bptr o n i 0) H κ=cH H o n λ_ _ _ l=>aX l i λcs=>bL ab 115 cs 0 κ:=by kernel_rfl
def akr(x y z u v a b c d e:D)(κ:List D->av):aC [x,y,z,u,v] 0 [a,b,c,d,e] κ=κ [a,b,c,d,e]:=rfl
def ka.keep2{α:Type}{inn:α->List Re}{H H':DH}{b:Nat}{fs:List α}{os:List Nat}(h:ka inn H b fs os)(k:∀(i:Nat) (f:α) (o:Nat),fs[i]? = some f->os[i]? = some o->inn f≠[]->H'[o]? = H[o]?):ka inn H' b fs os :=
 ⟨h.len,λi f o e g j=>⟨(h.own i f o e g j).1,(k i f o e g j).trans (h.own i f o e g j).2⟩,h.inj⟩
def uJ.set{H:DH}{f sz:Nat}{l:aQ}{A:D}(h:uJ H f sz l A){o:Nat}(ho:o<f)(x:DB):uJ (H.set o x) f sz l A:=by
 rcases h with h|⟨p,e,hp,hb⟩
 .exact .inl h
 .exact .inr ⟨p,e,hp,by rw[aei (by omega)];exact hb⟩
def pT(to:List Int):List Bool->List Ce->List Ce
 |b::l,c::r=>(bif b then rK to c else c)::pT to l r
 |_,_=>[]
def gr:List Bool->List Ce->List Nat->aQ
 |b::l,c::F,o::os=>bif b then yN c (cd o c.refs)::gr l F os else gr l F os
 |_,_,_=>[]
def Pc(to:List Int):∀(l:List Bool) (c:List Ce),l.length=c.length->(pT to l c).length=l.length
 |[],[],_=>rfl
 |[],_::_,h=>by cases h
 |_::_,[],h=>by cases h
 |_::l,_::c,h=>by rw[pT,aga,aga,Pc to l c (by simpa using h)]
def Hh(to:List Int):∀(l:List Bool) (c:List Ce) (b:Bool) (x:Ce),l.length=c.length->pT to (l++[b]) (c++[x])=pT to l c++[bif b then rK to x else x]
 |[],[],_,_,_=>rfl
 |[],_::_,_,_,h=>by cases h
 |_::_,[],_,_,h=>by cases h
 |_::l,_::c,b,x,h=>by rw[ajo,ajo,pT,Hh to l c b x (by simpa using h),pT,ajo]
def Pb(to:List Int):∀(l:List Bool) (c sc:List Ce) (i:Nat) (f:Ce),l.length=c.length->(pT to l c++sc)[i]? = some f->∃ x,(c++sc)[i]? = some x/\(f.refs≠[]->x.refs≠[])
 |[],[],sc,i,f,_,h=>⟨f,h,λq=>q⟩
 |[],_::_,_,_,_,h,_=>by cases h
 |_::_,[],_,_,_,h,_=>by cases h
 |b::l,c::cs,sc,0,f,_,h=>by
  simp only[pT,ajo,aox,acf]at h;refine⟨c,rfl,λq=>?_⟩;subst h;cases b with
  |true=>simpa[rK]using q
  |false=>exact q
 |b::l,c::cs,sc,i+1,f,hl,h=>by simp only[pT,ajo,anU]at h ⊢;exact Pb to l cs sc i f (by simpa using hl) h
theorem uR:∀(l:List Bool) (F:List Ce) (os:List Nat) (b:Bool) (x:Ce) (o:Nat),l.length=F.length->os[l.length]? = some o->gr (l++[b]) (F++[x]) os=gr l F os++(bif b then [yN x (cd o x.refs)] else [])
 |[],[],p::os,b,x,o,_,h=>by grind [gr]
 |[],[],[],_,_,_,_,h=>by simp at h
 |[],_::_,_,_,_,_,h,_=>by cases h
 |_::_,[],_,_,_,_,h,_=>by cases h
 |_::_,_::_,[],_,_,_,_,h=>by simp at h
 |a::l,y::F,p::os,b,x,o,h,ho=>by
  have ih:=uR l F os b x o (by simpa using h) (by simpa using ho)
  grind [gr]
def EV:∀(l:List Bool) (F:List Ce) (os:List Nat),(gr l F os).length<=l.length
 |[],_,_=>by simp[gr]
 |_::_,[],_=>by simp[gr]
 |_::_,_::_,[]=>by simp[gr]
 |a::l,y::F,p::os=>by
  have ih:=EV l F os
  grind [gr]
variable{x0 x1 x2 x3 x4 x5 x7 x8 x9 xt:D}
def In(m:Mc)(ok:iF m)(ik:uE m)(lv:List Bool)(Q:lv.length=m.ce.length)(to:List Int)(B:to.length=m.ce.length)(lo v a q b u:Nat)(oc:List Nat)(I:lo<b)(hv:v<b)(ha:a<b)(hq:q<b)(R:b<=u)(hU:∀(i:Nat) (c:Ce) (o:Nat),m.ce[i]? = some c->oc[i]? = some o->c.refs≠[]->o<u) :
 ∀(sl pl:List Bool) (sc pc:List Ce) (A:D) (H:DH),lv=pl++sl->m.ce=pc++sc->pl.length=pc.length->u<=H.length->H[lo]? = some (.buf 1 true true (dY lv))->lV H v a to->H[q]? = some (.buf 5 true false (cw yN Ce.refs m.ce oc))->ka Ce.refs H b (pT to pl pc++sc) oc->uJ H u 5 (gr pl (pT to pl pc) oc) A ->
 ∃ A' H',H.length<=H'.length/\(∀ i,i<b->H'[i]? = H[i]?)/\ka Ce.refs H' b (pT to lv m.ce) oc/\uJ H' u 5 (gr lv (pT to lv m.ce) oc) A' /\
  ac au 28 200018 [.lp 2 0,.g (.buf 1 lo lv.length),.g (Kf v),.g (Kg v),.lp 3 0,.g (.buf 5 q m.ce.length),.n m.ce.length,.n pl.length] [(0,[]),(0,[]),(0,iG),(0,[x0,x1,x2,x3,x4,x5,A,x7,x8,x9,xt])] H =
  ac au 28 200018 [.lp 2 0,.g (.buf 1 lo lv.length),.g (Kf v),.g (Kg v),.lp 3 0,.g (.buf 5 q m.ce.length),.n m.ce.length,.n m.ce.length] [(0,[]),(0,[]),(0,iG),(0,[x0,x1,x2,x3,x4,x5,A',x7,x8,x9,xt])] H'
 |[],pl,sc,pc,A,H,e,ec,h,hb,hl,M,w,z,hA=>by
  have e2:lv=pl:=by rw[e];simp
  have hsc:sc=[]:=by simp_all
  grind
 |bb::sl,pl,[],pc,A,H,e,ec,h,hb,hl,M,w,z,hA=>by grind
 |bb::sl,pl,c::sc,pc,A,H,e,ec,h,hb,hl,M,w,z,hA=>by
  have hi:pl.length<m.ce.length:=by rw[ec,h];simp
  have hvb:lv[pl.length]? = some bb:=by rw[e];simp
  have U:m.ce[pl.length]? = some c:=by rw[ec,h];simp
  have hm:c∈m.ce:=by rw[ec];simp
  have hcl:=ok.ce;have hplen:=Pc to pl pc h;have hol:pl.length<oc.length:=by rw[z.len];simp[hplen]
  obtain⟨o,ho⟩:∃ o,oc[pl.length]? = some o:=⟨oc[pl.length],abI hol⟩;have E:(pT to pl pc++c::sc)[pl.length]? = some c:=by rw[anH (by rw[hplen];exact abH _),hplen,akN];rfl
  have W:(cw yN Ce.refs m.ce oc)[pl.length]? = some (yN c (cd o c.refs)):=by rw[cw,List.getElem?_zipWith,U,ho]
  have hrl:(cw yN Ce.refs m.ce oc).length=m.ce.length:=fA (by rw[z.len,abg,hplen,h,ec,abg]);have hw:bm ((pl.length:Int)+1)=((pl.length+1:Nat):Int):=aE (by omega)
  have start:∀ X:av,(brD (.bool bb) (ac au 28 200022 [.lp 2 0,.g (.buf 1 lo lv.length),.g (Kf v),.g (Kg v),.lp 3 0,.lp 4 0,.g (.buf 5 q m.ce.length),.n m.ce.length,.n pl.length,.n c.refs.length,.n 0] [(0,[]),(0,[]),(0,iG),(0,[x0,x1,x2,x3,x4,x5,A,x7,x8,x9,xt]),(0,yN c (cd o c.refs))] H) (ac au 28 200018 [.lp 2 0,.g (.buf 1 lo lv.length),.g (Kf v),.g (Kg v),.lp 3 0,.g (.buf 5 q m.ce.length),.n m.ce.length,.n ((pl.length+1:Nat):Int)] [(0,[]),(0,[]),(0,iG),(0,[x0,x1,x2,x3,x4,x5,A,x7,x8,x9,xt])] H))=X ->
   ac au 28 200018 [.lp 2 0,.g (.buf 1 lo lv.length),.g (Kf v),.g (Kg v),.lp 3 0,.g (.buf 5 q m.ce.length),.n m.ce.length,.n pl.length] [(0,[]),(0,[]),(0,iG),(0,[x0,x1,x2,x3,x4,x5,A,x7,x8,x9,xt])] H=X:=by
   intro X hX;refine aW (CK) ?_;rw[gk hi,ge,MF,gh hi,boK,ge,Zv,fJ w hrl,ak W,show yN c (cd o c.refs)=[.i c.k,.str c.con,.i c.n,cd o c.refs,.i c.nx] from rfl,Xj,ahP,akr];refine(lq hl hvb _).trans ?_;simp only[ai,aw];rw[show cd o c.refs=cU 2 o (c.refs.map cL)from rfl,lG 109 37 IM,abh,hw];exact hX
  cases bb with
  |false =>
   have J:=Hh to pl pc false c h;have hO2:ka Ce.refs H b (pT to (pl++[false]) (pc++[c])++sc) oc:=by rw[J];simpa using z
   have hA2:uJ H u 5 (gr (pl++[false]) (pT to (pl++[false]) (pc++[c])) oc) A:=by grind [uR]
   obtain⟨A',H',k1,k2,k3,k4,ih⟩:=In m ok ik lv Q to B lo v a q b u oc I hv ha hq R hU sl (pl++[false]) sc (pc++[c]) A H (by rw[e];simp) (by rw[ec];simp) (by simp[h]) hb hl M w hO2 hA2
   grind [ao]
  |true =>
   have hc:=ik.ces c hm;have J:=Hh to pl pc true c h;have hRl:(gr pl (pT to pl pc) oc).length<=1048576:=akG (EV _ _ _) (by omega)
   obtain⟨F,g1,g2,g3,g4,g5⟩:∃ F:DH,F.length=H.length/\(∀ i,i<b->F[i]? = H[i]?)/\uJ F u 5 (gr pl (pT to pl pc) oc) A/\ka Ce.refs F b (pT to (pl++[true]) (pc++[c])++sc) oc /\
    ac au 28 200022 [.lp 2 0,.g (.buf 1 lo lv.length),.g (Kf v),.g (Kg v),.lp 3 0,.lp 4 0,.g (.buf 5 q m.ce.length),.n m.ce.length,.n pl.length,.n c.refs.length,.n 0] [(0,[]),(0,[]),(0,iG),(0,[x0,x1,x2,x3,x4,x5,A,x7,x8,x9,xt]),(0,yN c (cd o c.refs))] H =
    ac au 28 200022 [.lp 2 0,.g (.buf 1 lo lv.length),.g (Kf v),.g (Kg v),.lp 3 0,.lp 4 0,.g (.buf 5 q m.ce.length),.n m.ce.length,.n pl.length,.n c.refs.length,.n c.refs.length] [(0,[]),(0,[]),(0,iG),(0,[x0,x1,x2,x3,x4,x5,A,x7,x8,x9,xt]),(0,yN c (cd o c.refs))] F:=by
    have G:(pT to pl pc++c::sc).set pl.length (rK to c)=pT to (pl++[true]) (pc++[c])++sc:=by grind
    by_cases K:c.refs=[]
    .refine⟨H,rfl,λ_ _=>rfl,hA,?_,by rw[K];rfl⟩;rw[<- G];have Y:(rK to c).refs=[]:=by simp[rK,K]
     have old:∀ {i:Nat} {g:Ce},((pT to pl pc++c::sc).set pl.length (rK to c))[i]? = some g->g.refs≠[]->(pT to pl pc++c::sc)[i]? = some g:=by grind
     exact⟨by simpa using z.len,λi g p N O L=>z.own i g p (old N L) O L,λi j g g' p hij N O L h4 h5 h6=>z.inj i j g g' p hij (old N h5) (old O h6) L h4 h5 h6⟩
    .obtain⟨hbo,hco⟩:=z.own pl.length c o E ho K;have hob:=hU pl.length c o U ho K;have Y:(rK to c).refs≠[]:=by simpa[rK]using K
     have hdo:cd o c.refs=.buf 2 o c.refs.length:=by
      have:=(iT (sz:=2) (n:=o) (l:=c.refs.map cL) (by simpa using K)).1
      rwa [abh]at this
     refine⟨H.set o (.buf 2 true false ((c.refs.map (et to)).map cL)),by simp,λi hi=>by rw[aei (by omega)],hA.set hob _,?_,?_⟩
     .rw[<- G];exact z.upd E ho K (rK to c) Y
     .rw[show yN c (cd o c.refs)=[.i c.k,.str c.con,.i c.n,cd o c.refs,.i c.nx] from rfl,hdo];exact OO _ _ _ _ c.refs (ok.refs c hm) (λr hr=>by rw[B];exact hc.2.1 r hr) o (by omega) (by omega) c.refs [] H rfl M hco
   have ht1:lV F v a to:=by obtain⟨⟨s,t1⟩,t2⟩:=M;exact⟨⟨s,by rw[g2 v hv];exact t1⟩,by rw[g2 a ha];exact t2⟩
   obtain⟨A1,H2,k0,a1,e1⟩:=ade (x0:=x0) (x1:=x1) (x2:=x2) (x3:=x3) (x4:=x4) (x5:=x5) (x7:=x7) (x8:=x8) (x9:=x9) (xt:=xt) (.buf 1 lo lv.length) (.buf 5 q m.ce.length) (cd o c.refs) A (m.ce.length:Int) pl.length c.refs.length (by omega) c.k c.n c.nx c.con (gr pl (pT to pl pc) oc) hRl u F (by omega) ht1 (by rw[B];exact hc.2.2.1.2) g3;have t:∀ i,i<b->H2[i]? = H[i]?:=λi hi=>(k0.2 i (by omega)).trans (g2 i hi)
   have hO3:ka Ce.refs H2 b (pT to (pl++[true]) (pc++[c])++sc) oc:=g4.keep2 (λi f p N O L=>by have hx:=(g4.own i f p N O L).2;refine k0.2 p ?_;obtain⟨x,Z,hx2⟩:=Pb to (pl++[true]) (pc++[c]) sc i f (by simp[h]) N;rw[ajL,ans,<- ec]at Z;exact hU i x p Z O (hx2 L))
   have hA3:uJ H2 u 5 (gr (pl++[true]) (pT to (pl++[true]) (pc++[c])) oc) A1:=by
    rw[J,uR pl _ oc true _ o (by rw[hplen]) ho];have hcd:cd o (rK to c).refs=cd o c.refs:=by
     cases hr:c.refs with
     |nil=>simp[rK,hr]
     |cons y r=>simp[rK,hr,cd,cU]
    grind [yN,rK]
   obtain⟨A',H',k1,k2,k3,k4,ih⟩:=In m ok ik lv Q to B lo v a q b u oc I hv ha hq R hU sl (pl++[true]) sc (pc++[c]) A1 H2 (by rw[e];simp) (by rw[ec];simp) (by simp[h]) (by have:=k0.1;omega) (by rw[t lo I];exact hl) (by obtain⟨⟨s,t1⟩,t2⟩:=M;exact⟨⟨s,by rw[t v hv];exact t1⟩,by rw[t a ha];exact t2⟩) (by rw[t q hq];exact w) hO3 hA3;rw[abg,abf]at ih;refine⟨A',H',by have:=k0.1;omega,λi hi=>(k2 i hi).trans (t i hi),k3,k4,start _ ?_⟩;rw[ao,ge];exact g5.trans (e1.trans ih)
def adM(H:DH)(r:List DH)(o n i c:Nat)(κ:D->av):Hd ab 109 H r o n i c κ=cH H o n λsz st cap l=>aX l i λcs=>ah cs c λd=>open Classical in if(∀ e∈r,e[o]? = some (.buf sz st cap l))/\∀ e∈H::r,Tb e d=true then κ d else none:=by unfold Hd;simp only[Xk]
def ahw(o n i c:Nat)(H:DH)(κ:D->av):bJ ab 3 (.bptr o n i c) H κ=cH H o n λ_ _ _ l=>aX l i λcs=>ah cs c κ:=by kernel_rfl
theorem afH{o:Nat}{rs:List Re}(H:DH)(κ:D->av):aP ab 109 (cd o rs) H κ=κ (.i rs.length):=by rw[cd,lG 109 37 IM,abh]
theorem afG(to:List Int)(o:Nat)(rs:List Re):cd o (rs.map (et to))=cd o rs:=by cases rs<;>simp[cd,cU]
theorem QJ{o:Nat}{rs:List Re}(h:rs≠[]):cd o rs=.buf 2 o rs.length:=by
 have:=(iT (sz:=2) (n:=o) (l:=rs.map cL) (by simpa using h)).1
 rwa [abh]at this
variable{x0 x1 x2 x3 x4 x6 x7 x8 x9 xt:D}
def Qo{v a:Nat}{to:List Int}(i n:Nat)(x:i<n)(y:n<=1048576)(R:aQ)(z:R.length=n)(ex en:Int)(rs:List Re)(hl:rs.length<=1048576)(hr:∀ r∈rs,iK to.length r)(h:rs≠[])(ofr o:Nat)(B:o≠v)(E:o≠a)(p:o≠ofr)(e:R[i]? = some [.i ex,.i en,cd o rs]):∀(suf pre:List Re) (H:DH),rs=pre++suf->lV H v a to->H[ofr]? = some (.buf 3 true false R)->H[o]? = some (.buf 2 true false ((pre.map (et to)++suf).map cL)) ->
 ac au 28 200035 [.lp 2 0,.g (Kf v),.g (Kg v),.lp 3 0,.n i,.n n,.n i,.n rs.length,.n pre.length] [(0,[]),(0,[]),(0,iG),(0,[x0,x1,x2,x3,x4,.buf 3 ofr n,x6,x7,x8,x9,xt])] H =
  ac au 28 200031 [.lp 2 0,.g (Kf v),.g (Kg v),.lp 3 0,.n n,.n ((i+1:Nat):Int)] [(0,[]),(0,[]),(0,iG),(0,[x0,x1,x2,x3,x4,.buf 3 ofr n,x6,x7,x8,x9,xt])] (H.set o (.buf 2 true false ((rs.map (et to)).map cL)))
 |[],pre,H,k,j,f,hb=>by
  have F:rs=pre:=by rw[k];simp
  rw[ajH]at hb;refine aW (si) ?_;rw[F,gB hb,yV _,Xi,uK i (by omega)]
 |r::suf,pre,H,k,j,f,hb=>by
  have hi:pre.length<rs.length:=by rw[k];simp
  have q:((pre.map (et to)++r::suf).map cL).length=rs.length:=by rw[k];simp
  have s:((pre.map (et to)++r::suf).map cL)[pre.length]? = some (cL r):=by grind
  have t:((pre.map (et to)++r::suf).map cL).set pre.length (cL (et to r))=((pre++[r]).map (et to)++suf).map cL:=by grind
  have A:=Is j (hr r (by rw[k];simp));have ih:=Qo (v:=v) (a:=a) (to:=to) i n x y R z ex en rs hl hr h ofr o B E p e suf (pre++[r]) _ (by rw[k];simp) (j.set B E _) (by rw[aei p];exact f) (ba (.buf 2 true false (((pre++[r]).map (et to)++suf).map cL)) hb);rw[abg,abf,agd]at ih;have u:Tb H (cd o rs)=true:=by grind [QJ,Tb,Nat.beq_refl,gh]
  refine aoQ (aW (si) ?_) ih;rw[gk hi,ge];simp only[ai,aw];rw[rP,gh x,boK,ge,mt,zJ,fJ f z,ak e];simp only[afY,ai,aw];rw[QJ h,zM,gh hi,boK,ge,Vu,fJ hb q,ak s,show cL r=[.bool r.c,.i r.n] from rfl,aaA,bZ ZM];refine(aH A).trans ?_;rw[rP,gh x,boK,ge,mt,RV,adM,fJ f z,ak e];simp only[afY,ai,aw]
  rw[akJ ⟨λG w=>by rw[aov.1 w];exact f,λG w=>by
   rcases afS.1 w with rfl|w
   .exact u
   .rw[aov.1 w];exact u⟩,QJ h,zM,gh hi,boK,ge,show cL (et to r)=[.bool (et to r).c,.i (et to r).n] from rfl,MO,lst,fJ hb q,boK,ge,ak s,show cL r=[.bool r.c,.i r.n] from rfl,adP,show [D.bool (et to r).c,.i (et to r).n]=cL (et to r)from rfl,t,uK pre.length (by omega)]
def Ji{α:Type}{mk:α->D->List D}{inn:α->List Re}{fs:List α}{os:List Nat}{i:Nat}{f:α}{o:Nat}(e:fs[i]? = some f)(g:os[i]? = some o):(cw mk inn fs os)[i]? = some (mk f (cd o (inn f))):=by rw[cw,List.getElem?_zipWith,e,g]
theorem ET{α:Type}{mk:α->D->List D}{inn:α->List Re}:∀ {fs:List α} {os:List Nat} {i:Nat} {f:α} {o:Nat} (_:os[i]? = some o),cw mk inn (fs.set i f) os=(cw mk inn fs os).set i (mk f (cd o (inn f)))
 |[],_,_,_,_,_=>rfl
 |_::_,[],_,_,_,h=>by simp at h
 |_::_,o::os,0,_,_,h=>by simp at h;subst h;rfl
 |_::_,_::os,i+1,_,_,h=>by simp only[List.set_cons_succ,cw,List.zipWith_cons_cons];congr 1;exact ET (by simpa using h)
def Qc(m:Mc)(ok:iF m)(ik:uE m)(to:List Int)(J:to.length=m.ce.length)(v a ofr b:Nat)(os:List Nat)(e0:Nat)(hv:v<b)(ha:a<b)(Q:ofr<b)(k:ofr≠v)(t:ofr≠a)(hE:∀(j:Nat) (f:Fm) (o:Nat),m.fr[j]? = some f->os[j]? = some o->f.dn≠[]->o<e0):∀(suf pre:List Fm) (H:DH),m.fr=pre++suf->lV H v a to->H[ofr]? = some (.buf 3 true false (cw yM Fm.dn (pre.map (ng to)++suf) os))->ka Fm.dn H b (pre.map (ng to)++suf) os ->
 ∃ H',H'.length=H.length/\(∀ i,i≠ofr->(i<b\/e0<=i)->H'[i]? = H[i]?)/\H'[ofr]? = some (.buf 3 true false (cw yM Fm.dn (m.fr.map (ng to)) os))/\ka Fm.dn H' b (m.fr.map (ng to)) os /\
  ac au 28 200031 [.lp 2 0,.g (Kf v),.g (Kg v),.lp 3 0,.n m.fr.length,.n pre.length] [(0,[]),(0,[]),(0,iG),(0,[x0,x1,x2,x3,x4,.buf 3 ofr m.fr.length,x6,x7,x8,x9,xt])] H =
  ac au 28 200031 [.lp 2 0,.g (Kf v),.g (Kg v),.lp 3 0,.n m.fr.length,.n m.fr.length] [(0,[]),(0,[]),(0,iG),(0,[x0,x1,x2,x3,x4,.buf 3 ofr m.fr.length,x6,x7,x8,x9,xt])] H'
 |[],pre,H,e,O,u,N=>by grind
 |f::suf,pre,H,e,O,u,N=>by
  have hi:pre.length<m.fr.length:=by rw[e];simp
  have hm:f∈m.fr:=by rw[e];simp
  have U:=ok.fr;have W:=ok.dn f hm;obtain⟨Y,Z⟩:=ik.fr f hm;have w:(pre.map (ng to)++f::suf)[pre.length]? = some f:=by rw[anH (by simp),abh,akN];rfl
  have hol:pre.length<os.length:=by rw[N.len];simp
  obtain⟨o,ho⟩:∃ o,os[pre.length]? = some o:=⟨os[pre.length],abI hol⟩;have hfm:m.fr[pre.length]? = some f:=by rw[e];simp
  have E:(pre.map (ng to)++f::suf).set pre.length (ng to f)=(pre++[f]).map (ng to)++suf:=by simp_all
  have x:=Ji (mk:=yM) (inn:=Fm.dn) w ho;have A:(cw yM Fm.dn (pre.map (ng to)++f::suf) os).length=m.fr.length:=by rw[fA N.len,e];simp
  have F:cw yM Fm.dn ((pre++[f]).map (ng to)++suf) os=(cw yM Fm.dn (pre.map (ng to)++f::suf) os).set pre.length [.i f.ex,.i (qw to f.en),cd o f.dn]:=by grind [ET,yM,ng,afG]
  have h56:=NG O (n:=f.en) (by rw[J];exact Y);generalize hR:cw yM Fm.dn (pre.map (ng to)++f::suf) os=R at u x A F;have y:(R.set pre.length [.i f.ex,.i (qw to f.en),cd o f.dn])[pre.length]? = some [.i f.ex,.i (qw to f.en),cd o f.dn]:=ape (by omega);have G:(R.set pre.length [.i f.ex,.i (qw to f.en),cd o f.dn]).length=m.fr.length:=by simpa using A
  have K:(H.set ofr (.buf 3 true false (R.set pre.length [.i f.ex,.i (qw to f.en),cd o f.dn])))[ofr]? = some (.buf 3 true false (R.set pre.length [.i f.ex,.i (qw to f.en),cd o f.dn])):=ba _ u
  have start:∀ X:av,ac au 28 200035 [.lp 2 0,.g (Kf v),.g (Kg v),.lp 3 0,.n pre.length,.n m.fr.length,.n pre.length,.n f.dn.length,.n 0] [(0,[]),(0,[]),(0,iG),(0,[x0,x1,x2,x3,x4,.buf 3 ofr m.fr.length,x6,x7,x8,x9,xt])] (H.set ofr (.buf 3 true false (R.set pre.length [.i f.ex,.i (qw to f.en),cd o f.dn])))=X ->
   ac au 28 200031 [.lp 2 0,.g (Kf v),.g (Kg v),.lp 3 0,.n m.fr.length,.n pre.length] [(0,[]),(0,[]),(0,iG),(0,[x0,x1,x2,x3,x4,.buf 3 ofr m.fr.length,x6,x7,x8,x9,xt])] H=X:=by
   intro X hX;refine aW (CI) ?_;rw[gk hi,ge];simp only[ai,aw];rw[rP,gh hi,boK,ge,mt,ahw,fJ u A,ak x];simp only[yM,afY,ai,aw];rw[bZ aep];refine(aH h56).trans ?_;rw[rP,gh hi,boK,ge,mt,ci1,lst,fJ u A,boK,ge,ak x];simp only[yM,afY];rw[show ∀(p q r s:D) (κ:List D->av),aC [p,q,r] 1 [s] κ=κ [p,s,r] from λ_ _ _ _ _=>rfl,rP,gh hi,boK,ge,mt,zJ,fJ K G,ak y];simp only[afY,ai,aw]
   grind [afH]
  have ht1:=O.set k t (.buf 3 true false (R.set pre.length [.i f.ex,.i (qw to f.en),cd o f.dn]))
  obtain⟨I,g1,g2,g3,g4,g5⟩:∃ I:DH,I.length=H.length/\(∀ i,i≠ofr->(i<b\/e0<=i)->I[i]? = H[i]?)/\I[ofr]? = some (.buf 3 true false (R.set pre.length [.i f.ex,.i (qw to f.en),cd o f.dn]))/\ka Fm.dn I b ((pre++[f]).map (ng to)++suf) os /\
   ac au 28 200035 [.lp 2 0,.g (Kf v),.g (Kg v),.lp 3 0,.n pre.length,.n m.fr.length,.n pre.length,.n f.dn.length,.n 0] [(0,[]),(0,[]),(0,iG),(0,[x0,x1,x2,x3,x4,.buf 3 ofr m.fr.length,x6,x7,x8,x9,xt])] (H.set ofr (.buf 3 true false (R.set pre.length [.i f.ex,.i (qw to f.en),cd o f.dn]))) =
   ac au 28 200031 [.lp 2 0,.g (Kf v),.g (Kg v),.lp 3 0,.n m.fr.length,.n ((pre.length+1:Nat):Int)] [(0,[]),(0,[]),(0,iG),(0,[x0,x1,x2,x3,x4,.buf 3 ofr m.fr.length,x6,x7,x8,x9,xt])] I:=by
   have z:ka Fm.dn (H.set ofr (.buf 3 true false (R.set pre.length [.i f.ex,.i (qw to f.en),cd o f.dn]))) b (pre.map (ng to)++f::suf) os:=N.keep2 λi g p h B M=>by
    have:=(N.own i g p h B M).1
    grind
   by_cases L:f.dn=[]
   .refine⟨_,by simp,λi h _=>by rw[aei (apz h)],K,?_,?_⟩
    .rw[<- E];have hmz:(ng to f).dn=[]:=by simp[ng,L]
     have old:∀ {i:Nat} {g:Fm},((pre.map (ng to)++f::suf).set pre.length (ng to f))[i]? = some g->g.dn≠[]->(pre.map (ng to)++f::suf)[i]? = some g:=by grind
     exact⟨by simpa using z.len,λi g p h B M=>z.own i g p (old h M) B M,λi j g g' p hij h B M h4 h5 h6=>z.inj i j g g' p hij (old h h5) (old B h6) M h4 h5 h6⟩
    .refine aW (si) ?_;rw[L,show decide ((0:Int)<(([]:List Re).length:Int))=false from rfl,Xi,uK pre.length (by omega)]
   .obtain⟨hbo,hco⟩:=z.own pre.length f o w ho L;have hoe:=hE pre.length f o hfm ho L;refine⟨_,by simp,λi h B=>?_,?_,?_,Qo (x0:=x0) (x1:=x1) (x2:=x2) (x3:=x3) (x4:=x4) (x6:=x6) (x7:=x7) (x8:=x8) (x9:=x9) (xt:=xt) pre.length m.fr.length hi U _ G f.ex (qw to f.en) f.dn W (λr hr=>by rw[J];exact Z r hr) L ofr o (by omega) (by omega) (by omega) y f.dn [] _ rfl ht1 K hco⟩
    .rw[aei (by omega),aei (apz h)]
    .grind
    .rw[<- E];exact z.upd w ho L (ng to f) (by simpa[ng]using L)
  rw[<- F]at g3;have ht2:lV I v a to:=by obtain⟨⟨s,t1⟩,t2⟩:=O;exact⟨⟨s,by rw[g2 v (apz k) (.inl hv)];exact t1⟩,by rw[g2 a (apz t) (.inl ha)];exact t2⟩
  obtain⟨H',k1,k2,k3,k4,ih⟩:=Qc m ok ik to J v a ofr b os e0 hv ha Q k t hE suf (pre++[f]) I (by rw[e];simp) ht2 g3 g4;rw[abg,abf]at ih;exact⟨H',k1.trans g1,λi h B=>(k2 i h B).trans (g2 i h B),k3,k4,start _ (g5.trans ih)⟩
def VB(o n i:Nat)(κ:D->av):ay ab 40 (.buf 3 o n) (.i i) κ=boK (Nat.blt i n) (κ (.bptr o n i 0)):=by kernel_rfl
def adW(o n i:Nat)(H:DH)(κ:D->av):bJ ab 37 (.bptr o n i 1) H κ=cH H o n λ_ _ _ l=>aX l i λcs=>bL ab 37 cs 1 κ:=by kernel_rfl
def anx(z a b:D)(κ:D->av):bL ab 37 [z,a,b] 1 κ=κ (.agg [a,b]):=by kernel_rfl
variable{x0 x1 x2 x3 x4 x5 x6 x7 x8 x9 xt:D}
def Om(m:Mc)(ok:iF m)(ik:uE m)(to:List Int)(f:to.length=m.ce.length)(v a p:Nat)(w:p≠v)(x:p≠a):∀(suf pre:List To) (H:DH),m.to=pre++suf->lV H v a to->H[p]? = some (.buf 3 true false ((pre.map (Ef to)++suf).map eX)) ->
 ac au 28 200041 [.lp 2 0,.g (Kf v),.lp 3 0,.n m.to.length,.n pre.length] [(0,[]),(0,[]),(0,iG),(0,[x0,x1,x2,x3,x4,x5,x6,.buf 3 p m.to.length,x8,x9,xt])] H =
  ret (.tuple [.agg [x0,x1,x2,x3,x4,x5,x6,.buf 3 p m.to.length,x8,x9,xt],.i 0]) (H.set p (.buf 3 true false ((m.to.map (Ef to)).map eX)))
 |[],pre,H,e,o,hb=>by
  have e2:m.to=pre:=by rw[e];simp
  rw[ajH]at hb;refine aW (sh) ?_;simp_all[gB,ai,aw];rfl
 |t::suf,pre,H,e,o,hb=>by
  have hi:pre.length<m.to.length:=by rw[e];simp
  have htl:=ok.to;have h:((pre.map (Ef to)++t::suf).map eX).length=m.to.length:=by rw[e];simp
  have j:((pre.map (Ef to)++t::suf).map eX)[pre.length]? = some [.str t.nm,.bool t.r.c,.i t.r.n]:=by rw[aiE,anH (by simp),abh,akN];rfl
  have k:((pre.map (Ef to)++t::suf).map eX).set pre.length [.str t.nm,.bool (et to t.r).c,.i (et to t.r).n]=((pre++[t]).map (Ef to)++suf).map eX:=by rw[show [D.str t.nm,.bool (et to t.r).c,.i (et to t.r).n]=eX (Ef to t)from rfl,<- List.map_set,ajA _ _ (by simp),abh,akN];simp
  have u:=Is o (r:=t.r) (by rw[f];exact ik.to t (by rw[e];simp));have ih:=Om m ok ik to f v a p w x suf (pre++[t]) _ (by rw[e];simp) (o.set w x _) (ba (.buf 3 true false (((pre++[t]).map (Ef to)++suf).map eX)) hb);rw[abg,abf,agd]at ih;refine aoQ (aW (sh) ?_) ih;rw[gk hi,ge];simp only[ai,aw];rw[VB,gh hi,boK,ge,mt,adW,fJ hb h,ak j,anx,bZ ZM];refine(aH u).trans ?_;rw[VB,gh hi,boK,ge,mt,show cL (et to t.r)=[.bool (et to t.r).c,.i (et to t.r).n] from rfl,MO,lst,fJ hb h,boK,ge,ak j,show ∀(q r s b c:D) (κ:List D->av),aC [q,r,s] (0+1) [b,c] κ=κ [q,b,c] from λ_ _ _ _ _ _=>rfl,k,uK pre.length (by omega)]
def afC{v a:Nat}{to:List Int}(lvd e:D)(n:Nat)(en:Int)(r:Re)(H:DH)(h:lV H v a to)(f:en<to.length)(hr:iK to.length r) :
 ac au 28 200018 [.lp 2 0,.g lvd,.g (Kf v),.g (Kg v),.lp 3 0,.g e,.n n,.n n] [(0,[]),(0,[]),(0,iG),(0,[x0,x1,.i en,.bool r.c,.i r.n,x5,x6,x7,x8,x9,xt])] H =
  aP ab 38 x5 H λd=>ac au 28 200031 [.lp 2 0,.g (Kf v),.g (Kg v),.lp 3 0,.g d,.n 0] [(0,[]),(0,[]),(0,iG),(0,[x0,x1,.i (qw to en),.bool (et to r).c,.i (et to r).n,x5,x6,x7,x8,x9,xt])] H:=by
 refine aW (CK) ?_;rw[yV _,Xi];simp only[ai,aw];rw[bZ aep];refine(aH (NG h f)).trans ?_;rw[bZ ZM];refine(aH (Is h hr)).trans ?_;rw[ci1,om2,show cL (et to r)=[.bool (et to r).c,.i (et to r).n] from rfl,MO,om3];simp only[ai,aw]
def aey{b55 b56:D}(n:Nat)(H:DH) :
 ac au 28 200031 [.lp 2 0,.g b55,.g b56,.lp 3 0,.n n,.n n] [(0,[]),(0,[]),(0,iG),(0,[x0,x1,x2,x3,x4,x5,x6,x7,x8,x9,xt])] H =
  aP ab 40 x7 H λd=>ac au 28 200041 [.lp 2 0,.g b55,.lp 3 0,.g d,.n 0] [(0,[]),(0,[]),(0,iG),(0,[x0,x1,x2,x3,x4,x5,x6,x7,x8,x9,xt])] H:=by
 refine aW (CI) ?_;rw[yV _,Xi];simp only[ai,aw]
def afr(m:Mc){v:Nat}(k n:Int)(lvd:D)(H w s:DH){f t h i x u y z:D}(A:aq 39 [.agg (bh m)] H=ret (.agg (yO m f t h i)) w)(B:aq 39 [.agg (bh m)] w=ret (.agg (yO m x u y z)) s) :
 ac au 28 200007 [.lp 1 0,.lp 2 0,.g (.ptr v 0),.n k,.g lvd,.g lvd,.n n,.n n] [(0,[]),(0,bh m),(0,iG)] H =
  aP ab 39 u s λd=>ac au 28 200018 [.lp 2 0,.g lvd,.g (Kf v),.g (Kg v),.lp 3 0,.g u,.g d,.n 0] [(0,[]),(0,[]),(0,iG),(0,xM m.mo m.ex m.en m.vc m.vn f .nilrow h m.bo i m.st)] s:=by
 refine aW (sj) ?_;rw[show decide (n<n)=false by simp,Xi];refine(am A).trans ?_;rw[show ∀ κ:List D->av,aj 11 (.agg (yO m f t h i)) κ=κ (yO m f t h i)from λ_=>rfl,yO,show ∀(y0 y1 y2 j y4 o e p q r yt:D) (κ:List D->av),aC iG 0 [y0,y1,y2,j,y4,o,e,p,q,r,yt] κ=κ [y0,y1,y2,j,y4,o,e,p,q,r,yt] from λ_ _ _ _ _ _ _ _ _ _ _ _=>rfl,om6];refine(am B).trans ?_;rw[yO,show ∀(y0 y1 y2 j y4 o e p q r yt:D) (κ:D->av),rY ab 43 (.agg [y0,y1,y2,j,y4,o,e,p,q,r,yt]) 5 κ=κ e by intros;kernel_rfl]
variable{x0 x1 x2 x3 x4 x5 x6 x7 x8 x9 xt:D}
def afD(m:Mc)(ok:iF m)(ik:uE m)(lv:List Bool)(e:lv.length=m.ce.length)(to:List Int)(j:to.length=m.ce.length)(lo v a q b f:Nat)(oc:List Nat)(k:lo<b)(u:v<b)(w:a<b)(x:m.ce≠[]->q<b)(p:b<=f)(y:∀(i:Nat) (c:Ce) (o:Nat),m.ce[i]? = some c->oc[i]? = some o->c.refs≠[]->o<f)(H:DH)(hb:f<=H.length)(hl:H[lo]? = some (.buf 1 true true (dY lv)))(z:lV H v a to)(r:m.ce≠[]->H[q]? = some (.buf 5 true false (cw yN Ce.refs m.ce oc)))(s:ka Ce.refs H b m.ce oc) :
 ∃ A' H',H.length<=H'.length/\(∀ i,i<b->H'[i]? = H[i]?)/\ka Ce.refs H' b (pT to lv m.ce) oc/\uJ H' f 5 (gr lv (pT to lv m.ce) oc) A' /\
  ac au 28 200018 [.lp 2 0,.g (.buf 1 lo m.ce.length),.g (Kf v),.g (Kg v),.lp 3 0,.g (cU 5 q (m.ce.map dw)),.n m.ce.length,.n 0] [(0,[]),(0,[]),(0,iG),(0,[x0,x1,x2,x3,x4,x5,.nilrow,x7,x8,x9,xt])] H =
  ac au 28 200018 [.lp 2 0,.g (.buf 1 lo m.ce.length),.g (Kf v),.g (Kg v),.lp 3 0,.g (cU 5 q (m.ce.map dw)),.n m.ce.length,.n m.ce.length] [(0,[]),(0,[]),(0,iG),(0,[x0,x1,x2,x3,x4,x5,A',x7,x8,x9,xt])] H':=by
 by_cases h:m.ce=[]
 .have t:lv=[]:=aoK.1 (by rw[e,h];rfl);subst t;refine⟨.nilrow,H,abH _,λ_ _=>rfl,?_,.inl ⟨rfl,rfl⟩,by rw[h];rfl⟩;rw[h]at s ⊢;exact s
 .have hc:=(iT (sz:=5) (n:=q) (l:=m.ce.map dw) (by simpa using h)).1;rw[abh]at hc;have:=In (x0:=x0) (x1:=x1) (x2:=x2) (x3:=x3) (x4:=x4) (x5:=x5) (x7:=x7) (x8:=x8) (x9:=x9) (xt:=xt) m ok ik lv e to j lo v a q b f oc k u w (x h) p y lv [] m.ce [] .nilrow H rfl rfl rfl hb hl z (r h) s (.inl ⟨rfl,rfl⟩);rw[e]at this;rw[hc];exact this
def aez(m:Mc)(ok:iF m)(ik:uE m)(to:List Int)(r:to.length=m.ce.length)(v a p b:Nat)(os:List Nat)(e0:Nat)(w:v<b)(x:a<b)(s:m.fr≠[]->p<b)(e:p≠v)(k:p≠a)(y:∀(j:Nat) (f:Fm) (o:Nat),m.fr[j]? = some f->os[j]? = some o->f.dn≠[]->o<e0)(H:DH)(z:lV H v a to)(t:m.fr≠[]->H[p]? = some (.buf 3 true false (cw yM Fm.dn m.fr os)))(u:ka Fm.dn H b m.fr os) :
 ∃ H',H'.length=H.length/\(∀ i,(i=p->m.fr=[])->(i<b\/e0<=i)->H'[i]? = H[i]?)/\(m.fr≠[]->H'[p]? = some (.buf 3 true false (cw yM Fm.dn (m.fr.map (ng to)) os)))/\ka Fm.dn H' b (m.fr.map (ng to)) os /\
  (aP ab 38 (cU 3 p (m.fr.map eg)) H λd=>ac au 28 200031 [.lp 2 0,.g (Kf v),.g (Kg v),.lp 3 0,.g d,.n 0] [(0,[]),(0,[]),(0,iG),(0,[x0,x1,x2,x3,x4,cU 3 p (m.fr.map eg),x6,x7,x8,x9,xt])] H) =
  ac au 28 200031 [.lp 2 0,.g (Kf v),.g (Kg v),.lp 3 0,.n m.fr.length,.n m.fr.length] [(0,[]),(0,[]),(0,iG),(0,[x0,x1,x2,x3,x4,cU 3 p (m.fr.map eg),x6,x7,x8,x9,xt])] H':=by
 rw[lG 38 111 SZ,abh];by_cases h:m.fr=[]
 .refine⟨H,rfl,λ_ _ _=>rfl,λq=>absurd h q,?_,by rw[h];rfl⟩;rw[h]at u ⊢;exact u
 .have hc:=(iT (sz:=3) (n:=p) (l:=m.fr.map eg) (by simpa using h)).1;rw[abh]at hc;obtain⟨H',A,B,E,F,G⟩:=Qc (x0:=x0) (x1:=x1) (x2:=x2) (x3:=x3) (x4:=x4) (x6:=x6) (x7:=x7) (x8:=x8) (x9:=x9) (xt:=xt) m ok ik to r v a p b os e0 w x (s h) e k y m.fr [] H rfl z (t h) u;rw[hc];exact⟨H',A,λi I J=>B i (λq=>h (I q)) J,λ_=>E,F,G⟩
def to_all(m:Mc)(ok:iF m)(ik:uE m)(to:List Int)(f:to.length=m.ce.length)(v a p:Nat)(j:p≠v)(o:p≠a)(H:DH)(r:lV H v a to)(hb:m.to≠[]->H[p]? = some (.buf 3 true false (m.to.map eX))) :
 ∃ H',H'.length=H.length/\(∀ i,(i=p->m.to=[])->H'[i]? = H[i]?)/\(m.to≠[]->H'[p]? = some (.buf 3 true false ((m.to.map (Ef to)).map eX))) /\
  (aP ab 40 (cU 3 p (m.to.map eX)) H λd=>ac au 28 200041 [.lp 2 0,.g (Kf v),.lp 3 0,.g d,.n 0] [(0,[]),(0,[]),(0,iG),(0,[x0,x1,x2,x3,x4,x5,x6,cU 3 p (m.to.map eX),x8,x9,xt])] H) =
  ret (.tuple [.agg [x0,x1,x2,x3,x4,x5,x6,cU 3 p (m.to.map eX),x8,x9,xt],.i 0]) H':=by
 rw[lG 40 117 w40,abh];by_cases h:m.to=[]
 .refine⟨H,rfl,λ_ _=>rfl,λq=>absurd h q,?_⟩;rw[h];refine aW (sh) ?_;rfl
 .have hc:=(iT (sz:=3) (n:=p) (l:=m.to.map eX) (by simpa using h)).1;rw[abh]at hc;have k:=Om (x0:=x0) (x1:=x1) (x2:=x2) (x3:=x3) (x4:=x4) (x5:=x5) (x6:=x6) (x8:=x8) (x9:=x9) (xt:=xt) m ok ik to f v a p j o m.to [] H rfl r (hb h);rw[hc];exact⟨_,by simp,λi q=>by rw[aei (λe=>h (q e.symm))],λ_=>ba _ (hb h),k⟩
def QH{H:DH}(to:List Int):∀(lv:List Bool) (ce:List Ce) (os:List Nat),lv.length=ce.length->os.length=ce.length->(∀(i:Nat) (f:Ce) (o:Nat),(pT to lv ce)[i]? = some f->os[i]? = some o->eF H 2 (f.refs.map cL) (cd o f.refs))->NW H (gr lv (pT to lv ce) os) ((vh lv ce).map (rK to))
 |[],[],_,_,_,_=>⟨rfl,λi c h=>by simp[vh]at h⟩
 |[],_::_,_,h,_,_=>by cases h
 |_::_,[],_,h,_,_=>by cases h
 |_::_,_::_,[],_,h,_=>by cases h
 |b::lv,c::ce,o::os,j,k,g=>by
  have ih:=QH to lv ce os (by simpa using j) (by simpa using k) (λi f o n p=>g (i+1) f o n p);cases b with
  |false=>exact ih
  |true =>
   have h0:=g 0 (rK to c) o rfl rfl;simp only[pT,gr,vh,ge,ads];refine⟨by simp only[aga,ih.1],λi f e=>?_⟩;cases i with
   |zero =>
    have e:rK to c=f:=by simpa using e
    subst e;exact⟨cd o (rK to c).refs,rfl,h0⟩
   |succ i =>
    obtain⟨dd,e1,e2⟩:=ih.2 i f (by simpa using e)
    grind
def Pj{α:Type}{inn:α->List Re}{H:DH}{b:Nat}{fs:List α}{os:List Nat}(h:ka inn H b fs os){i:Nat}{f:α}{o:Nat}(g:fs[i]? = some f)(j:os[i]? = some o):eF H 2 ((inn f).map cL) (cd o (inn f)):=by
 by_cases e:inn f=[]
 .rw[e];exact .inr (.inl ⟨rfl,rfl⟩)
 .rw[QJ e];exact .inr (.inr ⟨o,true,false,by rw[abh],(h.own i f o g j e).2⟩)
def ajd(m:Mc)(ok:iF m)(ik:uE m)(l:List De)(G:Pg)(hg:G.cs.length<2^61){lv:List Bool}(hc:dZ m (kw m G.cs.length) (List.replicate m.ce.length false) lv)(H X:DH)
 (L:aq 37 [.agg [.row 14 (l.map bG)],.agg (bh m)] H=ret (.tuple [.ptr (H.length+5) 0,.i 0]) (H++X)) (hP:fZ (H++X) H.length G) :
 ∃ H' a1 a2 a3 a4,aq 28 [.agg [.row 14 (l.map bG)],.agg (bh m)] H=ret (.tuple [.agg (yO (Jx (Ez 0 lv) lv m) a1 a2 a3 a4),.i 0]) H'/\dI H.length H H'/\qD H' (Jx (Ez 0 lv) lv m) a1 a2 a3 a4:=by
 have hce:=ok.ce;have hfr:=ok.fr;have hto0:=ok.to;have t:lv.length=m.ce.length:=by rw[hc.up.1.len,aom]
 generalize hG0:H++X=G0 at L hP;have M:dI H.length H G0:=by rw[<- hG0];exact dI.app H X
 have N:=M.1;have hlen1:(G0++[DB.buf 1 true true (List.replicate m.ce.length [.i 0])]++[DB.cells 0 [.nilrow]]).length=G0.length+2:=by simp
 have J:(G0++[DB.buf 1 true true (List.replicate m.ce.length [.i 0])]++[DB.cells 0 [.nilrow]]).set (G0++[DB.buf 1 true true (List.replicate m.ce.length [.i 0])]).length (.cells 1 [.buf 1 G0.length m.ce.length])=G0++[.buf 1 true true (List.replicate m.ce.length [.i 0]),.cells 1 [.buf 1 G0.length m.ce.length]]:=by rw[uO,ajL];rfl
 have O:=hP.app [.buf 1 true true (List.replicate m.ce.length [.i 0]),.cells 1 [.buf 1 G0.length m.ce.length]];have Q:=Vw m hce (by omega) (by omega) (λf hf=>by have:=ok.dn f hf;omega) O hg hc;generalize E:G0++[.buf 1 true true (List.replicate m.ce.length [.i 0]),.cells 1 [.buf 1 G0.length m.ce.length]]=G1 at J Q O;have hG1l:G1.length=G0.length+2:=by rw[<- E];simp
 have ha1:G1[G0.length]? = some (.buf 1 true true (List.replicate m.ce.length [.i 0])):=by rw[<- E];exact Dz G0 _ 0
 have hv1:G1[G0.length+1]? = some (.cells 1 [.buf 1 G0.length m.ce.length]):=by rw[<- E];exact Dz G0 _ 1
 have hk1:dI H.length H G1:=by rw[<- E];exact M.trans ((dI.app G0 _).le N)
 have hM:=PF G1 m lv;have R:(LH G1 m lv).length=G1.length+5:=by simp[LH]
 have U:(LH G1 m lv)[G0.length]? = some (.buf 1 true true (dC ([]++List.replicate lv.length 0))):=by rw[LH,afZ (by omega),ha1,agc,dC,apr,t]
 have W:(LH G1 m lv)[G0.length+1]? = some (.cells 1 [.buf 1 G0.length lv.length]):=by rw[LH,afZ (by omega),hv1,t]
 have hk2:dI H.length H (LH G1 m lv):=hk1.trans ((dI.app G1 _).le (by omega));obtain⟨k',e1⟩:=Df m lv (by omega) (G1.length+1) (G0.length+1) G0.length (by omega) 1 lv [] 0 [] _ rfl rfl (abH _) hM.buf W U;rw[agc,t]at e1;have u:(Ez 0 lv).length=m.ce.length:=by rw[QD,t]
 generalize hto':Ez 0 lv=to at e1 u;have K:((LH G1 m lv).set G0.length (.buf 1 true true (dC to)))[G1.length+1]? = some (.buf 1 true true (dY lv)):=by rw[aei (by omega)];exact hM.buf
 have F:lV ((LH G1 m lv).set G0.length (.buf 1 true true (dC to))) (G0.length+1) G0.length to :=
  ⟨⟨1,by rw[aei (by omega),W,u,t]⟩,ba _ U⟩
 have Y:((LH G1 m lv).set G0.length (.buf 1 true true (dC to))).length=G0.length+7:=by rw[anK,R];omega
 have Z:dI H.length H ((LH G1 m lv).set G0.length (.buf 1 true true (dC to))):=hk2.trans (VS N _);generalize(LH G1 m lv).set G0.length (.buf 1 true true (dC to))=G3 at e1 K F Y Z;obtain⟨q1,x,s1,b1,os,oc1,G4,c4,k4,z⟩:=KM m ok G3;obtain⟨q,r,s,b,os2,oc,G5,c5,k5,I⟩:=KM m ok G4;have e2:=afr m (v:=G0.length+1) (k':Int) (m.ce.length:Int) (.buf 1 (G1.length+1) m.ce.length) G3 G4 G5 c4 c5;rw[lG 39 115 w39,abh]at e2;have hG4:=k4.1;have hG5:=k5.1;have hb5:=I.bH;have hqb:G4.length<=q/\q<=b/\(m.ce≠[]->q<b):=by have g:=I.pq;have p:=I.qr;have w:=I.rs;have h4:=I.sb;exact⟨g.1,by omega,λh=>by have:=p.2 h;omega⟩
 have B {i:Nat} (hi:i<G3.length):G5[i]? = G3[i]?:=(k5.2 i (by omega)).trans (k4.2 i hi);have ht5:lV G5 (G0.length+1) G0.length to:=by obtain⟨⟨s',t1⟩,t2⟩:=F;exact⟨⟨s',by rw[B (by omega)];exact t1⟩,by rw[B (by omega)];exact t2⟩
 obtain⟨A,G6,k6,u6,o6,a6,e3⟩:=afD (x0:=.i m.mo) (x1:=.i m.ex) (x2:=.i m.en) (x3:=.bool m.vc) (x4:=.i m.vn) (x5:=cU 3 G3.length (m.fr.map eg)) (x7:=cU 3 x (m.to.map eX)) (x8:=.i m.bo) (x9:=cU 4 s1 (m.ou.map gR)) (xt:=.i m.st) m ok ik lv t to u (G1.length+1) (G0.length+1) G0.length q b G5.length oc (by omega) (by omega) (by omega) hqb.2.2 hb5 (λi c o g p w=>dl (I.ownc.own i c o g p w).2) G5 (abH _) (by rw[B (by omega)];exact K) ht5 I.ce I.ownc;have low6 {i:Nat} (hi:i<G4.length):G6[i]? = G4[i]?:=(u6 i (by omega)).trans (k5.2 i hi);have low63 {i:Nat} (hi:i<G3.length):G6[i]? = G3[i]?:=(low6 (by omega)).trans (k4.2 i hi);have ht6:lV G6 (G0.length+1) G0.length to:=by obtain⟨⟨s',t1⟩,t2⟩:=F;exact⟨⟨s',by rw[low63 (by omega)];exact t1⟩,by rw[low63 (by omega)];exact t2⟩
 have e4:=afC (x0:=.i m.mo) (x1:=.i m.ex) (x5:=cU 3 G3.length (m.fr.map eg)) (x6:=A) (x7:=cU 3 x (m.to.map eX)) (x8:=.i m.bo) (x9:=cU 4 s1 (m.ou.map gR)) (xt:=.i m.st) (.buf 1 (G1.length+1) m.ce.length) (cU 5 q (m.ce.map dw)) m.ce.length m.en ⟨m.vc,m.vn⟩ G6 ht6 (by rw[u];exact ik.en) (by rw[u];exact ik.v);have hb4:=z.bH;have k:G3.length<=q1/\q1<=x/\x<=s1/\s1<=b1/\(m.fr≠[]->G3.length<q1)/\(m.to≠[]->x<s1)/\(m.ou≠[]->s1<b1):=by have g:=z.pq;have p:=z.qr;have w:=z.rs;have h4:=z.sb;exact⟨g.1,p.1,w.1,h4.1,g.2,w.2,h4.2⟩
 have own6:ka Fm.dn G6 b1 m.fr os:=z.own.keep2 λi f o g p w=>low6 (dl (z.own.own i f o g p w).2);obtain⟨G7,l7,u7,fv7,o7,e5⟩:=aez (x0:=.i m.mo) (x1:=.i m.ex) (x2:=.i (qw to m.en)) (x3:=.bool (et to ⟨m.vc,m.vn⟩).c) (x4:=.i (et to ⟨m.vc,m.vn⟩).n) (x6:=A) (x7:=cU 3 x (m.to.map eX)) (x8:=.i m.bo) (x9:=cU 4 s1 (m.ou.map gR)) (xt:=.i m.st) m ok ik to u (G0.length+1) G0.length G3.length b1 os G4.length (by omega) (by omega) (λh=>by have:=k.2.2.2.2.1 h;omega) (by omega) (by omega) (λj f o g p w=>dl (z.own.own j f o g p w).2) G6 ht6 (λh=>by have:=k.2.2.2.2.1 h;rw[low6 (by omega)];exact z.fr h) own6;have e6:=aey (x0:=.i m.mo) (x1:=.i m.ex) (x2:=.i (qw to m.en)) (x3:=.bool (et to ⟨m.vc,m.vn⟩).c) (x4:=.i (et to ⟨m.vc,m.vn⟩).n) (x5:=cU 3 G3.length (m.fr.map eg)) (x6:=A) (x7:=cU 3 x (m.to.map eX)) (x8:=.i m.bo) (x9:=cU 4 s1 (m.ou.map gR)) (xt:=.i m.st) (b55:=.func 55 [] [.ptr (G0.length+1) 0]) (b56:=.func 56 [] [.ptr (G0.length+1) 0]) m.fr.length G7;have low7 {i:Nat} (hi:i<G3.length):G7[i]? = G3[i]?:=(u7 i (λe=>by omega) (.inl (by omega))).trans (low63 hi);have ht7:lV G7 (G0.length+1) G0.length to:=by obtain⟨⟨s',t1⟩,t2⟩:=F;exact⟨⟨s',by rw[low7 (by omega)];exact t1⟩,by rw[low7 (by omega)];exact t2⟩
 have hr7 (h:m.to≠[]):G7[x]? = some (.buf 3 true false (m.to.map eX)):=by have g:=k.2.2.2.2.2.1 h;rw[u7 x (λe=>anZ λq=>by have:=k.2.2.2.2.1 q;omega) (.inl (by omega)),low6 (by omega)];exact z.to h
 obtain⟨G8,l8,u8,t8,e7⟩:=to_all (x0:=.i m.mo) (x1:=.i m.ex) (x2:=.i (qw to m.en)) (x3:=.bool (et to ⟨m.vc,m.vn⟩).c) (x4:=.i (et to ⟨m.vc,m.vn⟩).n) (x5:=cU 3 G3.length (m.fr.map eg)) (x6:=A) (x8:=.i m.bo) (x9:=cU 4 s1 (m.ou.map gR)) (xt:=.i m.st) m ok ik to u (G0.length+1) G0.length x (by omega) (by omega) G7 ht7 hr7;refine⟨G8,cU 3 G3.length (m.fr.map eg),A,cU 3 x (m.to.map eX),cU 4 s1 (m.ou.map gR),?_,?_,?_⟩
 .refine ev (f28) ?_;rw[am L];simp only[dU,ai,aw]
  rw[bu,ao,show((0:Int) != 0)=false from rfl,Xi,abh,aI,show(Nat.ble m.ce.length 2199023255552&&fg ab 3 m.ce.length)=true by rw[sm3,abk];exact⟨acw (by omega),acw (by omega)⟩,boK,ge]
  rw[ae (be _ _),show ∀(y:D) (κ:List D->av),aC [.nilrow] 0 [y] κ=κ [y] from λ_ _=>rfl,afY,J];refine(am Q).trans ?_;rw[kz,show(G0++[DB.buf 1 true true (List.replicate m.ce.length [.i 0])]).length=G0.length+1 by simp];exact e1.trans (e2.trans (e3.trans (e4.trans (e5.trans (e6.trans e7)))))
 .refine⟨by omega,λi hi=>?_⟩;rw[u8 i (λe=>by omega),low7 (by omega),Z.2 i hi]
 .have keep8 {i:Nat} (hi:G4.length<=i):G8[i]? = G6[i]?:=by rw[u8 i (λe=>anZ λq=>by have:=k.2.2.2.2.2.1 q;omega),u7 i (λe=>anZ λq=>by have:=k.2.2.2.2.1 q;omega) (.inr hi)]
  have own8:ka Fm.dn G8 b1 (m.fr.map (ng to)) os:=o7.keep2 λi f o g p w=>u8 o λe=>anZ λq=>by have:=(o7.own i f o g p w).1;have:=k.2.2.2.2.2.1 q;omega
  have ownc8:ka Ce.refs G8 b (pT to lv m.ce) oc:=o6.keep2 λi f o g p w=>keep8 (by have:=(o6.own i f o g p w).1;omega);refine⟨?_,⟨gr lv (pT to lv m.ce) oc,?_,QH to lv m.ce oc t I.ownc.len λi f o g p=>Pj ownc8 g p⟩,?_,?_⟩
  .refine⟨cw yM Fm.dn (m.fr.map (ng to)) os,?_,fA own8.len,λi f h=>?_⟩
   .by_cases h:m.fr=[]
    .rw[h];exact .inr (.inl ⟨rfl,rfl⟩)
    .have g:=k.2.2.2.2.1 h;have hc:=(iT (sz:=3) (n:=G3.length) (l:=m.fr.map eg) (by simpa using h)).1;rw[hc];refine .inr (.inr ⟨G3.length,true,false,by rw[fA own8.len,abh,abh],?_⟩);rw[u8 _ (λe=>by omega)];exact fv7 h
   .obtain⟨o,ho⟩:∃ o,os[i]? = some o:=by
     have:i<os.length:=by rw[own8.len];exact(acy.1 h).1
     exact⟨os[i],abI this⟩
    exact⟨cd o f.dn,Ji h ho,Pj own8 h ho⟩
  .rcases a6 with⟨g,p⟩|⟨o,g,p,w⟩
   .exact .inr (.inl ⟨g,p⟩)
   .exact .inr (.inr ⟨o,true,false,g,by rw[keep8 (by omega)];exact w⟩)
  .by_cases h:m.to=[]
   .rw[h];exact .inr (.inl ⟨rfl,by simp[Jx,h]⟩)
   .have hc:=(iT (sz:=3) (n:=x) (l:=m.to.map eX) (by simpa using h)).1;rw[hc];exact .inr (.inr ⟨x,true,false,by simp[Jx],t8 h⟩)
  .by_cases h:m.ou=[]
   .rw[h];exact .inr (.inl ⟨rfl,by simp[Jx,h]⟩)
   .have hc:=(iT (sz:=4) (n:=s1) (l:=m.ou.map gR) (by simpa using h)).1;have g:=k.2.2.2.2.2.2 h;rw[hc];refine .inr (.inr ⟨s1,true,false,by simp[Jx],?_⟩);rw[u8 _ (λe=>anZ λq=>by have:=k.2.2.2.2.2.1 q;omega),u7 s1 (λe=>anZ λq=>by have:=k.2.2.2.2.1 q;omega) (.inl (by omega)),low6 (by omega)];exact z.ou h
theorem Vi{lv:List Bool}{r:Re}(h:r.c=true->lv[r.n.toNat]? = some true):et (Ez 0 lv) r=et (Gk 0 lv) r:=by grind [et,LE,WR]
theorem Vj{lv:List Bool}{n:Int}(h:0<=n->lv[n.toNat]? = some true):qw (Ez 0 lv) n=qw (Gk 0 lv) n:=by grind [qw,LE,WR]
def zL{c:Ce}:∀ {lv:List Bool} {ce:List Ce},c∈vh lv ce->∃ i:Nat,lv[i]? = some true/\ce[i]? = some c
 |[],_,h=>by simp[vh]at h
 |_::_,[],h=>by simp[vh]at h
 |b::lv,x::ce,h=>by
  cases b with
  |false =>obtain⟨i,e,f⟩:=zL (lv:=lv) (ce:=ce) h;exact⟨i+1,e,f⟩
  |true =>
   simp only[vh,ge]at h;rcases afS.1 h with rfl|h
   .exact⟨0,rfl,rfl⟩
   .obtain⟨i,e,f⟩:=zL h;exact⟨i+1,e,f⟩
def acV{lv:List Bool}{r:Re}(h:0<=rt r->lv[(rt r).toNat]? = some true)(hr:r.c=true->0<=r.n):r.c=true->lv[r.n.toNat]? = some true:=λhc=>by grind [rt]
def ahr(m:Mc)(ik:uE m){n:Nat}{lv:List Bool}(hc:dZ m (kw m n) (List.replicate m.ce.length false) lv):Jx (Ez 0 lv) lv m=Jx (Gk 0 lv) lv m:=by
 obtain⟨u,hit⟩:=hc.up;have j (x:Int) (h:x∈kw m n):qw (Ez 0 lv) x=qw (Gk 0 lv) x:=Vj (hit x h);have e (r:Re) (h:rt r∈kw m n) (hr:iK m.ce.length r):et (Ez 0 lv) r=et (Gk 0 lv) r:=Vi (acV (hit _ h) λc=>(hr c).1);have e1:=j m.en (by simp[kw]);have e2:=e ⟨m.vc,m.vn⟩ (by simp[kw]) ik.v;have e3:m.fr.map (ng (Ez 0 lv))=m.fr.map (ng (Gk 0 lv)):=aoE λf o=>by
  have hm:∀ x∈Sg f,x∈kw m n:=λx hx=>by grind [kw]
  rw[ng,ng,j f.en (hm _ (by simp[Sg]))];congr 1;exact aoE λr hr=>e r (hm _ (by rw[Sg];exact acl _ (anT.2 ⟨r,hr,rfl⟩))) ((ik.fr f o).2 r hr)
 have e4:m.to.map (Ef (Ez 0 lv))=m.to.map (Ef (Gk 0 lv)):=aoE λt p=>by
  rw[Ef,Ef,e t.r ?_ (ik.to t p)]
  grind [kw]
 have e5:(vh lv m.ce).map (rK (Ez 0 lv))=(vh lv m.ce).map (rK (Gk 0 lv)):=aoE λc g=>by
  obtain⟨i,q,k⟩:=zL g;have hi:=(acy.1 k).1;obtain⟨g1,g2⟩:=u.clo i c q (List.getElem?_replicate_of_lt hi) k
  grind [rK,Vj,List.map_congr_left,Vi]
 grind [Jx]
def AN{m:Mc}{r:Re}{b:Int}(h:cg m r b=true)(hb:b<=m.ce.length):iK m.ce.length r:=λhc=>by grind [cg]
def HS{m:Mc}{n b:Int}(h:eM m n b=true)(hb:b<=m.ce.length):-1<=n/\n<m.ce.length:=by grind [eM]
def ajl{m:Mc}{mp:List (Nat×af)}{i:Nat}{c:Ce}(hi:i<m.ce.length)(h:yB m mp i c=true):(∀ r∈c.refs,iK m.ce.length r)/\(-1<=c.nx/\c.nx<m.ce.length)/\(c.k=1->c.nx=-1):=by
 rw[yB]at h;by_cases g:c.k=1
 .rw[show(c.k==1)=true by simp[g],ge]at h;simp only[abk,anN]at h;obtain⟨_,_,_,e,f⟩:=h;have e:c.nx=-1:=by simpa using e
  exact⟨λr hr=>AN (f r hr) (by omega),by omega,λ_=>e⟩
 .rw[show(c.k==1)=false by simp[g],Xi]at h;by_cases o:c.k=2
  .rw[show(c.k==2)=true by simp[o],ge]at h;split at h
   .cases h
   .simp only[abk]at h;obtain⟨_,_,j,e⟩:=h;have j:c.refs=[]:=aoK.1 (by have:=eq_of_beq j;omega);exact⟨λr hr=>(by rw[j]at hr;cases hr),HS e (by omega),λq=>absurd q g⟩
  .rw[show(c.k==2)=false by simp[o],Xi]at h;by_cases p:c.k=3
   .rw[show(c.k==3)=true by simp[p],ge]at h;simp only[abk]at h;obtain⟨_,_,_,e,f⟩:=h;refine⟨λr hr=>?_,HS e (by omega),λq=>absurd q g⟩;unfold EY at f;split at f
    .rename_i x s;rw[s,aov]at hr;subst hr;cases t:(r.c&&r.n==((i+1:Nat):Int))with
     |false=>rw[t,Xi]at f;exact AN f (by omega)
     |true =>grind
    .cases f
   grind
def KS{m:Mc}{mp:List (Nat×af)}:∀(suf pre:List Ce),m.ce=pre++suf->lR m mp suf pre.length=true->∀ c∈suf,(∀ r∈c.refs,iK m.ce.length r)/\(-1<=c.nx/\c.nx<m.ce.length)/\(c.k=1->c.nx=-1)
 |[],_,_,_,_,h=>by cases h
 |x::suf,pre,e,h,c,hc=>by
  rw[lR,abk]at h;rcases afS.1 hc with rfl|hc
  .exact ajl (by rw[e];simp) h.1
  .exact KS suf (pre++[x]) (by rw[e];simp) (by rw[abg,abf];exact h.2) c hc
def Tz{m:Mc}:∀ {a:List To} {b:List af},sI m a b=true->∀ t∈a,iK m.ce.length t.r
 |[],_,_,_,h=>by cases h
 |_::_,[],h,_,_=>by simp[sI]at h
 |x::a,s::b,h,t,e=>by
  simp only[sI,abk]at h;rcases afS.1 e with rfl|e
  .exact AN h.2.1 (aoO _)
  .exact Tz h.2.2 t e
def Zk{m:Mc}{a b:Nat}(h:nZ m a b=true):iK m.ce.length ⟨m.vc,m.vn⟩/\-1<=m.en/\m.en<m.ce.length:=by
 unfold nZ at h;cases f:m.mo==1 with
 |true =>
  rw[f,ge]at h;simp only[abk]at h;obtain⟨_,_,e,g,_⟩:=h;refine⟨λhc=>?_,HS e (aoO _)⟩
  grind
 |false =>
  rw[f,Xi]at h;cases i:m.mo==2 with
  |true =>
   rw[i,ge]at h;simp only[abk]at h;obtain⟨_,e,g,_⟩:=h;have:m.en=-1:=by simpa using e
   exact⟨AN g (aoO _),by omega,by omega⟩
  |false =>grind
def BP{m:Mc}{es:List Ex}{f:Fm}(h:iQ m es f=true):(-1<=f.en/\f.en<m.ce.length)/\∀ r∈f.dn,iK m.ce.length r:=by
 rw[iQ]at h;cases e:decide (f.ex<0)with
 |true=>rw[e]at h;cases h
 |false =>
  rw[e,Xi]at h;split at h
  .cases h
  .simp only[abk,anN]at h;exact⟨HS h.1 (aoO _),λr hr=>AN (h.2.1 r hr) (aoO _)⟩
def TG{m:Mc}(mo:zh m){G:Pg}(h:ku m G=true):uE m/\-1<=m.en/\∀ f∈m.fr,-1<=f.en:=by rw[ku,Ar,EK]at h;simp only[abk,anN]at h;obtain⟨_,_,_,n,o,p,g⟩:=h;have i:=KS (m:=m) m.ce [] rfl n;obtain⟨q,j,k⟩:=Zk o;exact⟨⟨λc hc=>⟨mo.refs c hc,i c hc⟩,q,k,Tz p.1,λf e=>⟨(BP (g f e)).1.2,(BP (g f e)).2⟩⟩,j,λf e=>(BP (g f e)).1.1⟩
def Ql:∀ {l:List (List Nat×Nat)} {ce:List Ce},jB l ce=true->∀ i:Nat,i<l.length->∃ c,ce[i]? = some c/\c.refs=[]/\c.nx=-1
 |[],_,_,i,h=>by simp at h
 |_::_,[],h,_,_=>by simp[jB]at h
 |x::l,c::ce,h,i,hi=>by
  simp only[jB,abk]at h;cases i with
  |zero =>simp_all[eqF]
  |succ i=>exact Ql h.2 i (by simpa using hi)
def Qf{bs:List Bo}:∀ {cs:af},(∀ r∈cs,r<bs.length)->(Nc bs cs).length=cs.length
 |[],_=>rfl
 |c::r,h=>by have hc:=h c (by simp);rw[Nc,abI hc,aga,aga,Qf λx e=>h x (acl _ e)]
def TH{m:Mc}{G:Pg}(ok:SV G)(h:ku m G=true):∀ i:Nat,i<G.cs.length->∃ c,m.ce[i]? = some c/\c.refs=[]/\c.nx=-1:=λi hi=>by rw[ku]at h;simp only[abk]at h;exact Ql h.1 i (by rw[Qf ok.cb];exact hi)
def Uj{m:Mc}{n:Nat}(hn:n<=m.ce.length)(ik:uE m)(k:-1<=m.en)(o:∀ f∈m.fr,-1<=f.en):∀ x∈kw m n,-1<=x/\x<m.ce.length:=by
 have hr (r:Re) (h:iK m.ce.length r):-1<=rt r/\rt r<m.ce.length:=by grind [rt]
 intro x e;rw[kw]at e;rcases ajK.1 e with e|e
 .obtain⟨i,hi,rfl⟩:=anT.1 e
  grind
 .rcases afS.1 e with rfl|e
  .exact hr _ ik.v
  .rcases afS.1 e with rfl|e
   .exact⟨k,ik.en⟩
   .rcases ajK.1 e with e|e
    .obtain⟨t,p,rfl⟩:=anT.1 e;exact hr _ (ik.to t p)
    .obtain⟨f,g,e⟩:=List.mem_flatMap.1 e;rw[Sg]at e;rcases afS.1 e with rfl|e
     .exact⟨o f g,(ik.fr f g).1⟩
     .obtain⟨r,j,rfl⟩:=anT.1 e;exact hr r ((ik.fr f g).2 r j)
def TZ(H:DH):aq 9 [] H=ret (.bool true) H:=by show eW de (.call 9 [] none) H=_;rw[Ns];rfl
def nq4(b:Bool)(κ:D->av):aA ab .neq 4 false (.bool b) (.bool b) κ=κ (.bool false):=by cases b<;>kernel_rfl
def ajf{m:Mc}(ok:iF m){H:DH}{a1 a2 a3 a4 b1 b2 b3 b4:D}(i:qD H m a1 a2 a3 a4)(hy:qD H m b1 b2 b3 b4)(lv:List Bool)(hl:lv.length<=1048576)(o1 h:Nat)(o:H[o1]? = some (.buf 1 true true (dY lv)))(p:H[h]? = some (.buf 1 true true (dY lv))):∀ j k:Nat,k+j=lv.length ->
 ac au 8 200009 [.g (.bool true),.g (.buf 1 o1 lv.length),.g (.buf 1 h lv.length),.lp 2 0,.lp 3 0,.n k] [(0,[]),(0,[]),(0,yO m a1 a2 a3 a4),(0,yO m b1 b2 b3 b4)] H=ret (.bool true) H
 |0,k,e=>by refine aW (vL) ?_;rw[kz,aN,ao,<- e,show decide ((k:Int)<((k+0:Nat):Int))=false by simp,Xi,ge];simp only[yO,ai,aw];exact am (Uc ok i hy)
 |j+1,k,e=>by
  have hi:k<lv.length:=by omega
  have f:lv[k]? = some lv[k]:=abI hi;have ih:=ajf ok i hy lv hl o1 h o p j (k+1) (by omega);generalize lv[k]=b at f;refine aW (vL) ?_;rw[kz,aN,ao,gk hi,ge];refine(lq o f _).trans ?_;refine(lq p f _).trans ?_;rw[nq4,ao,Xi,uK k (by omega)];exact ih
abbrev mc0:Mc:=⟨0,0,0,false,0,[],[],[],0,[],0⟩
def adJ:iF mc0:=⟨by simp,by simp,by simp,by simp,by simp,by simp,by simp⟩
def Vn(H:DH):qD H mc0 .nilrow .nilrow .nilrow .nilrow:=⟨⟨[],.inr (.inl ⟨rfl,rfl⟩),Wr H []⟩,⟨[],.inr (.inl ⟨rfl,rfl⟩),Xh H []⟩,.inr (.inl ⟨rfl,rfl⟩),.inr (.inl ⟨rfl,rfl⟩)⟩
def adD{to:List Int}{lv:List Bool}{m:Mc}(ok:iF m):iF (Jx to lv m):=by
 refine⟨by simp only[Jx,abh];exact akG (Hy _ _) ok.ce,λc hc=>?_,by simpa[Jx]using ok.fr,λf g=>?_,by simpa[Jx]using ok.to,ok.ou,ok.v⟩
 .simp only[Jx,anT]at hc;obtain⟨x,e,rfl⟩:=hc;obtain⟨i,_,h⟩:=zL e;simpa[rK]using ok.refs x (akV h)
 .simp only[Jx,anT]at g;obtain⟨x,e,rfl⟩:=g;simpa[ng]using ok.dn x e
def Px(m:Mc)(a b c d:D)(κ:List D->av):(aj 11 (.agg (yO m a b c d)) λl=>aC iG 0 l κ)=κ (yO m a b c d):=rfl
def akR(m:Mc)(mo:zh m)(ok:iF m)(l:List De)(hl:l.length<2^61)(ho:∀ x∈l,x.ok2)(H:DH) :
 ∃ H',aq 8 [.agg [.row 14 (l.map bG)],.agg (bh m)] H=ret (.bool true) H':=by
 have e:∀ x∈l,x.ok:=λx Y=>(ho x Y).ok;have hc:=aat kOk l (by omega) ho;have hfr:=ok.fr;have hto:=ok.to;have o:∀ f∈m.fr,f.dn.length<2^61:=λf A=>by have:=ok.dn f A;omega
 by_cases M:Dj l m=0
 .
  have hk:cW bM l=0/\ku m (eL l)=true:=by grind [Dj]
  obtain⟨hk,N⟩:=hk;have pg:=Pe l e hk;obtain⟨Z,q2,q3⟩:=tp hk;have r:∀ H:DH,∃ st,aq 36 [.agg [.row 14 (l.map bG)]] H=ret (.ptr (H.length+5) 0) (RX H st (AM l)):=λH=>ahk l hl e (λd hd=>(Z d hd).fl) q2 q3 H;have g:(AM l).fs.length=(eL l).cs.length:=by
   have:=anL List.length (rel l).c
   grind
  obtain⟨ik,he,A⟩:=TG mo N;have s:=TH pg N;have B:(eL l).cs.length<=m.ce.length:=by grind
  have O:(eL l).cs.length<2^61:=by have:=pg.cs;omega
  obtain⟨lv,h⟩:=Xe m ik.ces (kw m (eL l).cs.length) (List.replicate m.ce.length false) (aom ..) (Uj B ik he A);have p:lv.length=m.ce.length:=by rw[h.up.1.len,aom]
  have j:=h;rw[<- g]at j;have t:∀ H:DH,∃ X,aq 37 [.agg [.row 14 (l.map bG)],.agg (bh m)] H=ret (.tuple [.ptr (H.length+5) 0,.i 0]) (H++X)/\fZ (H++X) H.length (eL l):=λH=>by
   obtain⟨X,q,Q⟩:=ND m mo l hl e H
   grind
  have u:∀ H:DH,aq 25 [.agg [.row 14 (l.map bG)],.agg (bh m)] H=ret (.i 0) H:=λH=>by rw[acm m mo l hl e hc H,M]
  obtain⟨X1,g1,p1⟩:=t H;have v:=akK m ok.ce (by omega) (by omega) o l (eL l) O h H X1 g1 p1;have b1:=(PF (H++X1) m lv).buf;generalize LH (H++X1) m lv=k at v b1;generalize(H++X1).length+1=o1 at v b1;obtain⟨J1,E⟩:=aht m ok.ce (by omega) (by omega) o l (AM l) r (by omega) (by rw[g];exact s) j k (u k);have b2:(k++[DB.buf 1 true true (dY lv)]++J1)[k.length]? = some (.buf 1 true true (dY lv)):=cC J1 (be k _);have b1':(k++[DB.buf 1 true true (dY lv)]++J1)[o1]? = some (.buf 1 true true (dY lv)):=cC _ (aD _ b1);generalize k++[DB.buf 1 true true (dY lv)]++J1=R at E b2 b1';generalize k.length=U at E b2;obtain⟨X2,g2,p2⟩:=t R;obtain⟨F,a1,a2,a3,a4,y,z,W⟩:=ajd m ok ik l (eL l) O h R X2 g2 p2;obtain⟨J3,e4'⟩:=aht m ok.ce (by omega) (by omega) o l (AM l) r (by omega) (by rw[g];exact s) j F (u F);obtain⟨G,c1,c2,c3,c4,e4,I,m4⟩:=ajc m ok ik l p F J3 e4';rw[ahr m ik h]at y W;have m3':=W.keep I;have z1:G[o1]? = some (.buf 1 true true (dY lv)):=by have q:=dl b1';have Q:=z.1;rw[I.2 _ (by omega),z.2 _ q];exact b1'
  have z2:G[U]? = some (.buf 1 true true (dY lv)):=by have q:=dl b2;have Q:=z.1;rw[I.2 _ (by omega),z.2 _ q];exact b2
  have n:=ajf (adD ok) m3' m4 lv (by rw[p];exact ok.ce) o1 U z1 z2 lv.length 0 (by omega);rw[p]at n;refine⟨G,ev (f8) ?_⟩;rw[am (TZ H),am v];simp only[dU,ai,aw];rw[am E];simp only[dU,ai,aw];rw[am y];simp only[dU,ai,aw];rw[Px,am e4];simp only[dU,ai,aw];rw[Px,bu,ao,akI,Xi,bu,ao,akI,Xi,kz,kz,bu,ao,akI,Xi];exact n
 .
  have hb:(Dj l m != 0)=true:=by simp[bne,M]
  have J:∀ H:DH,∃ X,aq 26 [.agg [.row 14 (l.map bG)],.agg (bh m)] H=ret (.tuple [.nilrow,.i (Dj l m)]) (H++X):=λH=>by
   obtain⟨X,q,_⟩:=ND m mo l hl e H;refine⟨X,ev (f26) ?_⟩
   grind [am,dU,ai,aw,bu,ao]
  have w:∀ H:DH,aq 27 [.agg [.row 14 (l.map bG)],.agg (bh m)] H=ret (.tuple [.nilrow,.i (Dj l m)]) H:=λH=>by
   refine ev (f27) ?_
   grind [am,acm,bu,ao]
  have K:∀ H:DH,∃ X,aq 28 [.agg [.row 14 (l.map bG)],.agg (bh m)] H=ret (.tuple [.agg (yO mc0 .nilrow .nilrow .nilrow .nilrow),.i (Dj l m)]) (H++X):=λH=>by obtain⟨X,q,_⟩:=ND m mo l hl e H;refine⟨X,ev (f28) ?_⟩;rw[am q];simp only[dU,ai,aw];rw[bu,ao,hb,ge];rfl
  have L:∀ H:DH,aq 29 [.agg [.row 14 (l.map bG)],.agg (bh m)] H=ret (.tuple [.agg (yO mc0 .nilrow .nilrow .nilrow .nilrow),.i (Dj l m)]) H:=λH=>by refine ev (f29) ?_;rw[am (w H)];simp only[dU,ai,aw];rw[bu,ao,hb,ge];rfl
  obtain⟨X1,v⟩:=J H;obtain⟨X2,y⟩:=K (H++X1);refine⟨H++X1++X2,ev (f8) ?_⟩;rw[am (TZ H),am v];simp only[dU,ai,aw];rw[am (w _)];simp only[dU,ai,aw];rw[am y];simp only[dU,ai,aw];rw[Px,am (L _)];simp only[dU,ai,aw];rw[Px,bu,ao,akI,Xi,bu,ao,akI,Xi,show ∀ κ:D->av,aP ab 60 .nilrow (H++X1++X2) κ=κ (.i 0)by intros;kernel_rfl,show ∀ κ:D->av,aP ab 60 .nilrow (H++X1++X2) κ=κ (.i 0)by intros;kernel_rfl,bu,ao,akI,Xi];refine aW (vL) ?_;rw[show ∀ κ:D->av,aP ab 60 .nilrow (H++X1++X2) κ=κ (.i 0)by intros;kernel_rfl,aN,ao,show decide ((0:Int)<0)=false from rfl,Xi,ge];simp only[yO,ai,aw];exact am (Uc adJ (Vn _) (Vn _))
end
end Go.Proofs.YtpghiabjaglpgaaGreatDoor
namespace Go.Proofs.YtpghiabjaglpgaaGreatDoor.Rd
section
open Go.AI Go.Proofs Go.Proofs.YtpghiabjaglpgaaGreatDoor
def Ob:∀ l:List Va,l.length<=gV (ff l)
 |[]=>anI _
 |.mk _ _ _::r=>by have:=Ob r;simp only[ff,kU,gV,fO,KQ,aga];omega
mutual
theorem abi:∀ v:Va,fO (kU v)<=1048576->v.sm
 |.mk c n xs,h=>by simp only[kU,fO,KQ]at h;have:=Ob xs;exact⟨by omega,Tj xs (by omega)⟩
theorem Tj:∀ l:List Va,gV (ff l)<=1048576->Va.sms l
 |[],_=>trivial
 |v::r,h=>by simp only[ff,gV]at h;exact⟨abi v (by omega),Tj r (by omega)⟩
end
def tE{α:Type}{f:α->List D}(h:∀ x,1<=fO (f x))(l:List α):l.length<=gV (l.map f):=by
 have:=zN (l:=l.map f) λc hc=>by grind
 grind
def aje{m:Mc}(h:fO (bh m)<=1048576):iF m:=by
 simp only[bh,fO,KQ]at h;have re (l:List Re):=tE (f:=cL) (λ_=>kN) l;have h1:=tE (f:=eg) (λ_=>kN) m.fr;have h2:=tE (f:=dw) (λ_=>kN) m.ce;have h3:=tE (f:=eX) (λ_=>kN) m.to;have h4:=tE (f:=gR) (λx=>by obtain⟨_,⟨_,_,_⟩⟩:=x;exact kN) m.ou;refine⟨by omega,λc hc=>?_,by omega,λf g=>?_,by omega,by omega,λx hx=>?_⟩
 .have e:=tD (f:=dw) hc;simp only[dw,fO,KQ]at e
  grind
 .have e:=tD (f:=eg) g
  grind [eg,fO,KQ]
 grind [tD,gR,abi,fO,kU]
end
section
open Go.AI Go.Proofs Go.Proofs.YtpghiabjaglpgaaGreatDoor Go.ChangeShapes Go.WideShapes Go.ChangeAt Go.RowKit
def aiy:Go.AI.Good Tryz.prog (lim bF):=Vy (iw rfl rfl) akC (eQ rfl rfl)
def Xs{W W':World}{ρ':aS}(h:FR (Ro W.heap.size) W ρ' W'):Below W.heap.size W W' :=
 ⟨h.os,h.tape,h.output,h.size,λk hk=>h.same k hk λf v l e g=>by
  unfold Ro at e;split at e
  .cases e;exact absurd (show(0:Nat)<1 from Nat.zero_lt_one) g
  .cases e⟩
def Wo{W:World}{o f v:Nat}(h:(Rd.g0 W).O[o]? = some (some (f,v))):False:=by have h:([]:List (Option (Nat×Nat)))[o]? = some (some (f,v)):=h;simp at h
def aiz{W:World}(h:Rj W)(hs:6<=W.heap.size):Ok (Rd.g0 W):=by
 refine⟨rfl,Yt W,λo o' f v v' h=>(Wo h).elim,λo f v h=>(Wo h).elim,?_,?_,Sd h,λf e=>⟨?_,?_,λo v h=>Wo h⟩⟩
 .intro f e;have e:f∈([]:List Nat):=e;simp at e
 .intro o b hb;have hb:([]:List DB)[o]? = some b:=hb;simp at hb
 .show f<(dc W).next;unfold dc;rw[ml];have e:f∈[0,1,2,5]:=e;simp only[afS,apy,or_false]at e;omega
 .show f∉([]:List Nat);simp
def Sz{f:FuncId}{W:World}{args:List D}{X:DH}{vs:List V}{ys:List Value}(k:Ok (g0 W))(h:eW de (.call f args none) []=ret (.bool true) X)(hr:Go.AI.RL (g0 W) args vs)(n:br (Ro W.heap.size) vs=some ys) :
 Calls Tryz.prog f ys.toArray W λe w'=>e=.returned (.bool true)/\Below W.heap.size W w':=by
 obtain⟨s',call⟩:=ZC h (g:=g0 W) rfl k hr;have o:gP Tryz.prog f vs none (dc W) ⟨.returned (.bool true),none,s'⟩:=aiy (.call f _ none) _ _ call;refine(Dm o (Ow W) n).mono λe w' ⟨ρ',z,p,j,_,i⟩=>?_;simp only[den,acf]at j;subst j;exact⟨p,Xs i⟩
def Qt{ρ:aS}{l:List V}{c:Array Value}(h:br ρ l=some c.toList):den ρ (.agg l)=some (.agg c):=by simp only[den,h,Array.toArray_toList]
def own:ownKnob Tryz.prog.godebug=none:=by kernel_rfl
def PO:laidOutB Tryz.prog=true:=by kernel_rfl
def agM:Tryz.prog.readableRec 24=true:=by kernel_rfl
def agH:24<Tryz.prog.types.size:=akM (by kernel_rfl)
def agL:Tryz.prog.readableRec 43=true:=by kernel_rfl
def agG:43<Tryz.prog.types.size:=akM (by kernel_rfl)
def aaw:Tryz.prog.cellsOf 24=1:=by kernel_rfl
def aav:Tryz.prog.cellsOf 43=11:=by kernel_rfl
def aie:MP 8 43=some [.int,.int,.int,.bool,.int,.sl 38,.sl 39,.sl 40,.int,.sl 41,.int]:=by kernel_rfl
end
end Go.Proofs.YtpghiabjaglpgaaGreatDoor.Rd
namespace Go.Proofs.YtpghiabjaglpgaaGreatDoor.stepLives
open Go.AI Go.Proofs Go.Proofs.YtpghiabjaglpgaaGreatDoor Go.ChangeShapes Go.WideShapes Go.ChangeAt Go.RowKit Go.Proofs.YtpghiabjaglpgaaGreatDoor.Rd
def QO{H:Type}{d:DataW H}{l:List (DataW H)}{n:Nat}(h:Rows.uptoBulkAll l<=n)(e:d∈l):Rows.uptoBulk d<=n:=by
 induction l with
 |nil=>cases e
 |cons x r ih =>
  simp only[Rows.uptoBulkAll]at h;rcases afS.1 e with rfl|e
  .omega
  .exact ih (by omega) e
abbrev Lc:Array Value:=#[.agg #[.slice none 0 0],.agg #[.int .i64 0,.int .i64 0,.int .i64 0,.bool false,.int .i64 0,.slice none 0 0,.slice none 0 0,.slice none 0 0,.int .i64 0,.slice none 0 0,.int .i64 0]]
abbrev w0(os:Os):World:=World.laidAll Tryz.prog os Rows.stepLivesUptoRow.laid
set_option maxRecDepth 100000 in
def Yc(os:Os)(H:Type)(enc:TypeId×Value->H):∃(w:World) (tape:Tape) (i:Input),w.os=os/\(w.forCall tape i).Shaped Tryz.prog/\i.vars=[]/\Input.okWide Tryz.prog (w.forCall tape i) .any w.heap.size 8 i /\
 (Rows.OpenSpec.upto Rows.stepLivesSpec).preRow enc Tryz.prog Tryz.f8 Rows.stepLivesUptoRow.domain false Rows.stepLivesUptoRow.laid (w.forCall tape i).memory i.args/\({}:Assume).holds Tryz.prog (lone (Frame.enter Tryz.prog 8 i.args .normal) [] (w.forCall tape i)):=by
 have f:DataW.whole enc Tryz.prog ((w0 os).forCall (λ_ _=>0) ⟨#[],Lc,[]⟩).memory Tryz.f8.params.toList Rows.stepLivesSpec.vars false Lc.toList 8=some ([.agg [.nil],.agg [.lit (.int .i64 0),.lit (.int .i64 0),.lit (.int .i64 0),.agg [.lit (.bool false),.lit (.int .i64 0)],.nil,.nil,.nil,.lit (.int .i64 0),.nil,.lit (.int .i64 0)]],[],[]):=by kernel_rfl
 have e:Input.okWideB Tryz.prog ((w0 os).forCall (λ_ _=>0) ⟨#[],Lc,[]⟩) 8 ⟨#[],Lc,[]⟩=true:=by kernel_rfl
 refine⟨w0 os,λ_ _=>0,⟨#[],Lc,[]⟩,World.laidAll_os _ _ _,World.shaped_of_ZipB (by kernel_rfl) (by kernel_rfl),(Input.okWide_of_okWideB (base:=0) e).1,(Input.okWide_of_okWideB e).2,?_,?_⟩
 .exact OpenSpec.preRow_of_cond 8 f (by kernel_rfl) (λk hk=>by cases hk;kernel_rfl) (by kernel_rfl) (by rw[MakeChecks.laidMetH_plain _ _ _ (by kernel_rfl)];exact laidMet_laidAll _ (by kernel_rfl) (by kernel_rfl))
 .simp only[Assume.holds];exact⟨by simp,by simp,λh=>by simp at h,by simp,by simp⟩
set_option maxRecDepth 100000 in
def lifted(os:Os)(started:os.Started)(H:Type)(enc:TypeId×Value->H)(F:Stop.Interp) :
 ReturnsInHanded {} Tryz.checked os 8 .any ((Rows.OpenSpec.upto Rows.stepLivesSpec).preRow enc Tryz.prog Tryz.f8 Rows.stepLivesUptoRow.domain false Rows.stepLivesUptoRow.laid) (((Rows.OpenSpec.upto Rows.stepLivesSpec).at F).post enc Tryz.prog Tryz.f8 false true false false):=by
 refine returnsInHanded_of_row (C:=Tryz.checked) (s:=Rows.OpenSpec.upto Rows.stepLivesSpec) own started (by kernel_rfl) Tryz.func8 (Yc os H enc) ?_;intro W base args ds gs before hval0 R _ hcond o hlaid hshaped _;have g:∀(j:Nat) t v,Tryz.f8.params[j]? = some t->args[j]? = some v->Value.okWide Tryz.prog W .any base t v:=hval0;rw[MakeChecks.laidMetH_plain _ _ _ (by kernel_rfl)]at hlaid;have U:Rj W:=Wk hlaid hshaped;have hbulk:Rows.uptoBulkAll (ds++gs)<=1048576:=by simpa[Rows.uptoSmall]using hcond _ rfl
 have r:=R;obtain⟨p,q,G,hV,rfl,hfz,hnd⟩:=R;have hA:DataW.TrodAll enc Tryz.prog W 0 (λ_=>true) true Tryz.f8.params.toList args.toList ds p:=G;have u:(DataW.weightsEach Tryz.prog (Tryz.f8.params.toList++[]) (ds++gs)).all (·<=reachBytes)=true:=o;rw[Tryz.params8]at hA g u;obtain⟨Y,vs0,w,ds0,I,q0,hargs,rfl,rfl,h0,J⟩:=trodAll_cons hA;obtain⟨v1,vs1,y,ds1,K,q1,rfl,rfl,rfl,h1,L⟩:=trodAll_cons J;obtain⟨rfl,rfl,rfl⟩:=trodAll_nil L;obtain rfl:args=#[Y,v1]:=by cases args;simp_all
 obtain⟨rfl,rfl⟩:=trodVars_none hV;obtain⟨Z,rfl,_⟩:=okWide_struct Tryz.underlying24 (g 0 24 Y rfl rfl);obtain⟨c1,rfl,_⟩:=okWide_struct Tryz.underlying43 (g 1 43 v1 rfl rfl);obtain⟨n0,g0'⟩:=h0;obtain⟨n1,g1'⟩:=h1;have A:∀(i:Nat) t (d:DataW H),[24,43][i]? = some t->[w,y][i]? = some d->Wt t d:=λi t d M e2 n hn=>by have:=anN.1 u n (kj (i:=i) (by simpa using M) (by simpa using e2) n hn);simpa using this
 obtain⟨x0,b0,a0,J,s0,k0⟩:=adg (W:=W) n0 8 (x:=(w,I)) (abH _) aif aaw g0' (A 0 24 w rfl rfl);obtain⟨x1,b1,a1,L,s1,k1⟩:=adg (W:=W) n1 8 (x:=(y,K)) (abH _) aie aav g1' (A 1 43 y rfl rfl);obtain⟨y0,z0,rfl,t0,s0⟩:=aM s0;cases gK s0;obtain⟨l,rfl,hl,N⟩:=ahh t0;have hd0:Rows.uptoBulk w<=1048576:=QO hbulk (by simp)
 have B:∀ x∈l,x.ok2:=λx hx=>adt (N x hx) (by have:=tD (f:=bG) hx;simp only[fO,KQ]at k0;omega)
 obtain⟨m,rfl,mo⟩:=ahe s1;have O:Rows.uptoBulk y<=1048576:=QO hbulk (by simp);obtain⟨X,hX⟩:=akR m mo (aje (akG k1 O)) l hl B [];have hsize:6<=W.heap.size:=by obtain⟨c,e,fz,hh,_⟩:=U.pow;have:=(aoR.1 hh).1;omega
 have walk:=Sz (f:=8) (ys:=[.agg Z,.agg c1]) (aiz U hsize) hX (vs:=[.agg x0,.agg x1]) (by
  simp only[Go.AI.RL,RD];exact⟨_,_,rfl,⟨_,rfl,J,jH.one a0⟩,_,_,rfl,⟨_,rfl,L,jH.one a1⟩,rfl⟩) (by
  have e0:=Qt (c:=Z) (jH.den a0);have M:=Qt (c:=c1) (jH.den a1);simp only[br];rw[e0,M])
 refine walk.mono λe W' ⟨he,k⟩=>?_;subst he;have E:=r.lt;refine⟨_,rfl,_,_,_,[],I++(K++[]),[],r,trodAll_mk1 (shut_bool Tryz.underlying4 _),?_,rfl,k.frame _,λh=>by cases h⟩;show DataW.TrodAll enc Tryz.prog W' 0 (λb=>decide (b<W.heap.size)) true Tryz.f8.params.toList _ [w,y] _;rw[Tryz.params8];exact⟨I,_,Below.trod PO agM agH ⟨n0,g0'⟩ k (λz Q=>E z (by simp[Q])),⟨K,_,Below.trod PO agL agG ⟨n1,g1'⟩ k (λz Q=>E z (by simp[Q])),rfl,rfl⟩,rfl⟩
