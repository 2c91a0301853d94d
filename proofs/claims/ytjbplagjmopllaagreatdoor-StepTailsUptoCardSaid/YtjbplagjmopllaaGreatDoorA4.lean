/- Lemmas. No conditions. -/
import Derived.Test.YtjbplagjmopllaaGreatDoorA3
import Derived.Deep.Slices
import Derived.Test.YtjbplagjmopllaaGreatDoorRows
import Derived.Lib.ItoaLen
import Derived.OpenShut
import Derived.Test.YtjbplagjmopllaaGreatDoorT1
import Derived.Lib.QuietBelow
set_option linter.all false
noncomputable section
namespace Go.AI
section
variable[fZ]
variable{b:Nat}{P0:List Nat}{g:Gh}{LO:List Nat}{t:T LD}{L:LS}{tv:T V}{out:jg}{E:dg}{an:iL}{rec:qU}
structure Tg(E:dg):Prop where
 no:∀ f,E.vo f=false->∀ vs s,E.E.orc f vs s=none
 yes:∀ f args H d H',E.orc f args H=some (d,H')->∀ g:Gh,g.H=H->Ok g->∀ vs,RL g args vs->∃ vout,lim E.E (.call f vs none) g.s=some vout/\jK g.s.next g.Pv g ⟨.ret d,none,H'⟩ vout
def Pj(E:dg)(f:FuncId)(fn:Func)(go:uw):Prop:=∀ t L todo ds m up H out,go t L todo ds m up H=some out->∀ b P0 (g:Gh) tv LO dsv mv upv rdv,g.H=H->FI b P0 g t L tv LO->Je g ds dsv->Ph g m mv->sx g up upv rdv ->
 ∃ vout,lim E.E (.frame f fn tv todo dsv mv upv rdv) g.s=some vout/\jK b P0 g out vout
structure Gg(E:dg)(R:aM):Prop where
 call:KX E.E (yW R)
 frame:∀ f fn,Pj E f fn (Pd R f fn)
theorem jK.trans{g':Gh}{vout:ft}(m:Mv b g g')(h:jK b P0 g' out vout):jK b P0 g out vout:=by obtain⟨a,d,e,i,j,k,n⟩:=h;exact⟨a,d,e,i,j,m.trans k,n⟩
theorem yI:∀ {l:List Nat} {κ:List LD->ai},yJ t l κ=some out->∃ xs,κ xs=some out/\xs.length=l.length/\∀(k:Nat) i,l[k]? = some i->xs[k]? = t.get (eX i)
 |[],κ,h=>⟨[],h,rfl,λk i hk=>by simp at hk⟩
 |j::r,κ,h=>by
  simp only[yJ]at h;unfold lD at h;split at h
  .rename_i x hx;obtain⟨xs,h1,h2,h3⟩:=yI h
   grind
  .cases h
theorem Ml:∀ {l:List Nat} {xs:List LD} {u:T LD} {i:Nat} {x:LD},(Xe l xs u).get (eX i)=some x->(∃(k:Nat),l[k]? = some i/\xs[k]? = some x)\/u.get (eX i)=some x
 |[],xs,u,i,x,h=>by cases xs<;>exact .inr h
 |j::r,[],u,i,x,h=>.inr h
 |j::r,y::xs,u,i,x,h=>by
  simp only[Xe]at h;rcases Ml h with⟨k,a,d⟩|h
  .exact .inl ⟨k+1,by simpa using a,by simpa using d⟩
  .rw[T.setQ_eq,id,T.get_setN]at h;split at h
   .rename_i e;cases h;exact .inl ⟨0,by simp[e],rfl⟩
   grind
theorem Hp{ks:List Nat}:∀ {L:LS} {i k:Nat} {x:Nat×List D},(tI ks i L)[k]? = some x->∃ st cs,L[k]? = some (st,cs)/\(x.2=[]\/x.2=cs)
 |[],i,k,x,h=>by simp[tI]at h
 |(st,cs)::r,i,0,x,h=>by grind [tI]
 |(st,cs)::r,i,k+1,x,h=>by
  simp only[tI,aiP]at h;obtain⟨s2,c2,h1,h2⟩:=Hp h
  grind
theorem Dl{ks:List Nat}:∀ {L:LS} {i:Nat},(tI ks i L).length=L.length
 |[],_=>rfl
 |(_,_)::r,i=>by simp[tI,Dl (L:=r)]
def Gh.pvd(g:Gh)(P0:List Nat):Gh:=⟨g.O,g.H,P0,g.s⟩
theorem EZ(a:∀ f∈P0,f∈g.Pv):oM g (g.pvd P0):=⟨aaW _,λ_ _ v h=>⟨v,h⟩,λ_ _ st cap l h=>.inr ⟨st,cap,l,h,aaW _,id,λ_=>⟨rfl,rfl⟩⟩,λ_ _ s l h=>⟨s,l,h,aaW _,λ_=>⟨rfl,rfl⟩⟩,λ_ h=>⟨h.1,λhm=>h.2.1 (a _ hm),h.2.2⟩,λ_ _ _ _ h=>h,aaW _⟩
theorem Hi{n:Nat}:∀ {xs:List LD} {i k c:Nat},Dd n xs=true->xs[i]? = some (.lp k c)->k<n
 |x::r,0,k,c,h,hi=>by simp_all[Dd,aaV,pY]
 |x::r,i+1,k,c,h,hi=>by simp only[Dd,aaV]at h;exact Hi h.2 (i:=i) (by simpa using hi)
 |[],i,k,c,h,hi=>by simp at hi
theorem Ok.pvd(h:Ok g)(a:∀ f∈P0,f∈g.Pv):Ok (g.pvd P0):=⟨h.len,h.wf,h.inj,λo f v ho=>⟨(h.lt o f v ho).1,λhm=>(h.lt o f v ho).2 (a f hm)⟩,λf d=>h.pv f (a f d),λo x e=>(h.obj o x e).keep (EZ a) rfl λ_ _ _=>rfl,h.gl.to λf i hp ho=>⟨rfl,i,λhm=>hp (a f hm),ho⟩⟩
theorem Mv.pvd(a:∀ f∈P0,f∈g.Pv):Mv b g (g.pvd P0):=⟨EZ a,λ_ _ _=>rfl,λ_ _ v h _=>⟨v,h⟩,λ_ s1 c1 _ _ h _=>⟨s1,c1,h,aaW _,λ_=>⟨rfl,rfl⟩⟩⟩
theorem Ov{f:FuncId}{fn:Func}{ih go:uw}(X:Pj E f fn ih)(Y:Pj E f fn go):Pj E f fn (Im an ih go):=by
 intro t L todo ds m up H out e b P0 g tv LO dsv mv upv rdv N j O hm Q;have r:go t L todo ds m up H=some out->∃ vout,lim E.E (.frame f fn tv todo dsv mv upv rdv) g.s=some vout/\jK b P0 g out vout:=λe=>Y _ _ _ _ _ _ _ _ e b P0 g tv LO dsv mv upv rdv N j O hm Q;unfold Im at e;split at e
 .split at e
  .rename_i live ks _;obtain⟨xs,e,_,Z⟩:=yI e;cases o:Dd (pD ks) xs with
   |false=>rw[o]at e;cases e
   |true =>
   rw[o]at e;dsimp only at e;have I:∀ f∈P0++LO.take (pD ks),f∈g.Pv:=λf a=>by
    rw[j.pv]
    grind
   have h:=EZ (g:=g) I;have J:FI b P0 (g.pvd (P0++LO.take (pD ks))) (Xe live xs .leaf) (tI ks 0 (L.take (pD ks))) tv (LO.take (pD ks)):=by
    refine⟨j.ok.pvd I,λi x hi=>?_,⟨by rw[Dl,agm,agm,j.own.1],λk x f' hk a=>?_⟩,rfl,λf a=>j.low f (ajD a),j.nd.sublist (List.take_sublist _ _),j.bl⟩
    .rcases Ml hi with⟨k,G,n⟩|q
     .have U:=n;rw[Z k i G]at n;obtain⟨v,w,M⟩:=j.slots i x n;refine⟨v,w,?_⟩;cases x with
      |g d=>exact RD.mono h M
      |lp k' c =>obtain⟨f,q6,q7⟩:=M;exact⟨f,by rw[aiI (Hi o U)];exact q6,q7⟩
      |u=>exact M
     grind [T.get_leaf]
    .obtain⟨st,cs,G,n⟩:=Hp hk;have z:k<pD ks:=by grind
     rw[aiI z]at G;have F:=a;rw[aiI z]at F;obtain⟨U,w⟩:=j.own.2 k _ f' G F;refine⟨afv _ (aeE a),?_⟩;rcases n with n|n
     .exact .inl n
     .rw[n];rcases w with w|⟨el,vs,w1,w2,w3⟩
      .exact .inl w
      .exact .inr ⟨el,vs,w1,w2.mono h,w3⟩
   obtain⟨vout,k1,k2⟩:=X _ _ _ _ _ _ _ _ e b P0 (g.pvd (P0++LO.take (pD ks))) tv _ dsv mv upv rdv N J (O.mono h) (hm.mono h) (Q.mono h);exact⟨vout,k1,k2.trans (Mv.pvd I)⟩
  .exact r e
 .exact r e
theorem Uq{up:Option fg}{upv:Option Md}{rdv:Option Nat}(h:sx g up upv rdv):OT g (QA up) upv:=by
 unfold sx at h;unfold QA;split
 .simp only at h;exact h.1
 grind
theorem FI.leave(h:FI b P0 g t L tv LO){e:CB}{ve:End}{up:Option fg}{upv:Option Md}(n:abb g e ve)(o:OT g up upv):jK b P0 g ⟨e,up,g.H⟩ ⟨ve,upv,g.s⟩:=by
 have i:∀ f∈P0,f∈g.Pv:=λf q=>by rw[h.pv];exact aim _ q
 have a:=EZ (g:=g) i;refine⟨g.pvd P0,rfl,rfl,rfl,h.ok.pvd i,Mv.pvd i,?_,o.mono a⟩;cases e with
 |ret d=>obtain⟨v,j,k⟩:=n;exact⟨v,j,k.mono a⟩
 |pan c=>obtain⟨r,j,k⟩:=n;exact⟨r,j,k.mono a⟩
theorem oZ{P:Program}(h:FI b P0 g t L tv LO):∀ {l:List ResultVar} {κ:List D->ai},pc P t L g.H l κ=some out->∃ ds vs,κ ds=some out/\kU P tv g.s l=some vs/\RL g ds vs
 |[],κ,e=>⟨[],[],e,rfl,by simp only[RL]⟩
 |x::r,κ,e=>by
  simp only[pc]at e;cases x with
  |tmp i =>
   simp only at e;unfold gD at e;split at e
   .rename_i d k;obtain⟨v,n,j⟩:=h.slots i _ k;have j:RD g d v:=j;obtain⟨ds,vs,o,q,k3⟩:=oZ h e
    grind [only,kU,ql,RL]
   .cases e
  |cell a ty =>
   simp only at e;unfold lD at e;split at e
   .rename_i y hy;obtain⟨w,n,j⟩:=h.slots a _ hy;obtain⟨d,v,e,o,q⟩:=Hj e (fW.refl g) h.ok h.own.2 j;obtain⟨ds,vs,j1,j2,j3⟩:=oZ h e
    grind [only,RL,jm,Option.some.inj,bL,kU,ql]
   .cases e
theorem LI:∀ {l:List (Nat×Nat×Hk)} {g:Gh} {ds:List D} {vs:List V} {κ:List D->DH->ai},FI b P0 g t L tv LO->TY l ds g.H κ=some out->RL g ds vs->∃ ds' g',κ ds' g'.H=some out/\g'.s=g.s/\FI b P0 g' t L tv LO/\Mv b g g'/\RL g' ds' vs
 |[],g,ds,vs,κ,h,e,r=>⟨ds,g,e,rfl,h,.refl b g,r⟩
 |(i,c,k)::l,g,ds,vs,κ,h,e,r=>by
  simp only[TY]at e;obtain⟨d,j,e⟩:=jH e;obtain⟨v,hv,n⟩:=r.at j;obtain⟨o,g',q,u,w,a,z⟩:=Af h e n;have hr:RL g' (ds.set i o) vs:=by
   have:=(r.mono a.le).set i z
   grind [lP]
  obtain⟨ds2,F,G,I,J,M,N⟩:=LI w q hr;exact⟨ds2,F,G,I.trans u,J,a.trans M,N⟩
theorem YU{ds:List D}{vs:List V}(r:RL g ds vs):RD g (QF ds) (zq vs):=by
 cases ds with
 |nil=>simp only[RL]at r;subst r;simp only[QF,zq,RD];exact⟨[],rfl,by simp only[RL]⟩
 |cons d ds =>
  have r0:=r;simp only[RL]at r;obtain⟨v,vs',rfl,e,a⟩:=r;cases ds with
  |nil=>simp only[RL]at a;subst a;exact e
  |cons d2 ds =>
   simp only[RL]at a;obtain⟨v2,vs2,rfl,_,_⟩:=a
   grind [QF,zq,RD]
def xJ:fg->fg
 |.panicking (⟨_,true⟩::_)=>.returning
 |m=>m
def EG(m:fg)(c:List fX):fg:=match m with
 |.panicking old=>.panicking (c++old)
 |_=>.panicking c
theorem PP{m:fg}{a:Md}(h:Ph g m a):Ph g (xJ m) (js a):=by
 cases m with
 |run=>cases h;rfl
 |returning=>cases h;rfl
 |round _=>exact h.elim
 |panicking c =>
  obtain⟨c',rfl,d⟩:=h;cases c with
  |nil=>cases d;exact⟨[],rfl,rfl⟩
  |cons x xs =>
   obtain⟨y,c2,rfl,i,e,j⟩:=d;obtain⟨xv,xr⟩:=x;obtain⟨yv,yr⟩:=y;simp only at e;subst e;cases xr with
   |true=>rfl
   |false=>exact⟨_,rfl,⟨yv,false⟩,c2,rfl,i,rfl,j⟩
theorem iu.app:∀ {a:List fX} {e:List Gm} {c:List fX} {d:List Gm},iu g a e->iu g c d->iu g (a++c) (e++d)
 |[],_,c,d,h,k=>by cases h;exact k
 |x::r,_,c,d,h,k=>by obtain⟨y,i,rfl,j,n,o⟩:=h;exact⟨y,i++d,rfl,j,n,o.app k⟩
theorem Qm{m:fg}{d:Md}{c:List fX}{a:List Gm}(h:Ph g m d)(k:iu g c a):Ph g (EG m c) (tc d a):=by
 cases m with
 |run=>cases h;exact⟨a,rfl,k⟩
 |returning=>cases h;exact⟨a,rfl,k⟩
 |round _=>exact h.elim
 |panicking old =>obtain⟨o',rfl,e⟩:=h;exact⟨a++o',rfl,k.app e⟩
theorem Zk{m:fg}{a:Md}(h:Ph g m a):m=.run↔a=.run:=by
 cases m with
 |run=>cases h;exact⟨λ_=>rfl,λ_=>rfl⟩
 |returning=>cases h;exact⟨(λq=>by cases q),(λq=>by cases q)⟩
 |panicking c=>obtain⟨c',rfl,_⟩:=h;exact⟨(λq=>by cases q),(λq=>by cases q)⟩
 |round _=>exact h.elim
end
section
variable[fZ]
variable{b:Nat}{P0:List Nat}{g:Gh}{LO:List Nat}{t:T LD}{L:LS}{tv:T V}{out:jg}{E:dg}{an:iL}{rec:qU}
section frame
variable{f:FuncId}{fn:Func}{go:uw}
theorem RZ{j:uv}{s:S}{o:Option ft}(h:fy E.E (lim E.E) j s=o):lim E.E j s=o:=(Rl E.E j s).trans h
def KZ(x:DB):Prop:=(∀ sz st cap l,x≠.buf sz st cap l)/\(∀ st cs,x≠.cells st cs)/\∀ sz s l,x≠.tbuf sz s l
theorem rN{o f ver:Nat}{x0 x:DB}{B0 B:dY}(ho:g.O[o]? = some (some (f,ver)))(e:g.H[o]? = some x0)(d:KZ x0)(h0:g.s.get f=some B0):vQ g o x f ver ver x0 B0 B :=
 ⟨ho,e,h0,⟨(λ_ _ _ _ q=>(d.1 _ _ _ _ q).elim),λ_ _ _ q=>(d.2.2 _ _ _ q).elim⟩,(λa n vs hi q _=>by obtain⟨sz,cap,l,k⟩:=hi.2.2 o ver (by rw[q];exact ho);rw[e]at k;exact(d.1 _ _ _ _ (agn k)).elim),(λ_ _ q=>(d.2.1 _ _ q).elim)⟩
theorem zi{r:Bool}{f nt:Nat}{t:T LD}{ps:Array Tmp}{a b:Code}:KZ (.loop r f nt t ps a b):=⟨(λ_ _ _ _ q=>by cases q),(λ_ _ q=>by cases q),(λ_ _ _ q=>by cases q)⟩
theorem JF:KZ .coll:=⟨(λ_ _ _ _ q=>by cases q),(λ_ _ q=>by cases q),(λ_ _ _ q=>by cases q)⟩
theorem zJ(j:FI b P0 g t L tv LO){o l v:Nat}{r:Bool}{e nt:Nat}{t0:T LD}{ps:Array Tmp}{a h:Code}(ho:g.O[o]? = some (some (l,v)))(k:g.H[o]? = some (.loop r e nt t0 ps a h)) :
 ∃ tv0 d,g.s.get l=some (.loop (bif r then .ready else .busy) none e tv0 ps a h d nt)/\∀ i:Bool,∃ g',g'.H=g.H.set o (.loop i e nt t0 ps a h)/\g'.s=g.s.put l (.loop (bif i then .ready else .busy) none e tv0 ps a h d nt)/\FI b P0 g' t L tv LO/\Mv b g g':=by
 obtain⟨fb,tv0,d,n,q,u⟩:=j.ok.obj o _ k;rw[ho]at n;cases n;refine⟨tv0,d,q,λi=>?_⟩;have c:vQ g o (.loop i e nt t0 ps a h) l 0 0 (.loop r e nt t0 ps a h) _ (.loop (bif i then .ready else .busy) none e tv0 ps a h d nt):=rN ho k zi q;exact⟨_,rfl,rfl,j.oput c ⟨l,tv0,d,bt ho,dS,u.mono (ll j.ok c) aiY⟩,jy j.ok c⟩
theorem Dj(h:Pj E f fn go){ds:List sv}{up:Option fg}{c:Option Code}(e:zS go t L ds up g.H c=some out)(j:FI b P0 g t L tv LO){dsv:List eO}{upv:Option Md}{rdv:Option Nat}(n:Je g ds dsv)(a:sx g up upv rdv) :
 ∃ vout,nH (gC (lim E.E) f fn) tv dsv upv rdv g.s c=some vout/\jK b P0 g out vout:=by
 unfold zS at e;split at e
 .split at e
  .rename_i o;obtain⟨rfl,l,v,rfl,ho⟩:=a;unfold yR at e;split at e
   .rename_i r;cases e;obtain⟨tv0,d,u,w⟩:=zJ j ho r;obtain⟨g',z,F,G,I⟩:=w true;have:=G.leave (e:=.ret (.bool true)) (ve:=.returned (.bool true)) (up:=none) (upv:=none) ⟨_,rfl,by simp only[RD]⟩ rfl;rw[z]at this;refine⟨_,?_,this.trans I⟩;simp only[nH,u,F];rfl
   .cases e
  .rename_i i;have k:=a.nr (λo q=>i o q);clear a;obtain⟨rfl,a⟩:=k;exact h _ _ _ _ _ _ _ _ e b P0 g tv LO dsv .returning upv none rfl j n rfl (sx.mk (λo q=>i o q) a)
 .obtain⟨i,e⟩:=nF e;have k:=a.nr i;clear a;obtain⟨rfl,a⟩:=k;exact h _ _ _ _ _ _ _ _ e b P0 g tv LO dsv .returning upv none rfl j n rfl (sx.mk i a)
 .cases e
theorem Ht(a:Pj E f fn go){ds:List sv}{up:Option fg}{k:Option (List Item)}(c:Code)(e:Dm go t L ds up g.H k=some out)(d:FI b P0 g t L tv LO){dsv:List eO}{upv:Option Md}{rdv:Option Nat}(h:Je g ds dsv)(i:sx g up upv rdv) :
 ∃ vout,rV (gC (lim E.E) f fn) tv dsv upv rdv g.s c k=some vout/\jK b P0 g out vout:=by
 unfold Dm at e;split at e
 .exact a _ _ _ _ _ _ _ _ e b P0 g tv LO dsv .run upv rdv rfl d h rfl i
 .cases e
theorem NL(u:Pj E f fn go)(z:KX E.E rec){k:List Item}{ds:List sv}{up:Option fg}{ps:Array Tmp}{a h:Code}{d:D}{v:V}(e:EE f fn.ntmps go rec k t L ds up g.H ps a h d=some out)(r:FI b P0 g t L tv LO){dsv:List eO}{upv:Option Md}{rdv:Option Nat}(hd:Je g ds dsv)(hu:sx g up upv rdv)(h2:RD g d v) :
 ∃ vout,gx f fn.ntmps (gC (lim E.E) f fn) (bO (lim E.E)) k tv dsv upv rdv g.s ps a h (some v)=some vout/\jK b P0 g out vout:=by
 unfold EE Oe at e;split at e
 .split at e
  .rename_i gf first cap
   obtain⟨X,e⟩:=nF e;obtain⟨rfl,F⟩:=hu.nr X;simp only[RD]at h2;obtain⟨a',G,rfl,j1,j2⟩:=h2;have Y:LO=[]:=air (by rw[<- r.own.1];rfl);subst Y;have j:=r.mkobj (x:=.coll) (B:=.deferred) ⟨g.s.next,pp r.ok _ _,tj⟩;have v1:=rQ r.ok r.bl .coll .deferred;have o1:(g.obj .coll .deferred).O[g.H.length]? = some (some (g.s.next,0)):=pp r.ok _ _;have n:(g.obj .coll .deferred).H=g.H++[.coll]:=rfl;have i:(g.obj .coll .deferred).s=g.s.alloc .deferred:=rfl;generalize g.obj .coll .deferred=o at j v1 o1 n i;have f2:=j.mkobj (x:=.loop true f fn.ntmps t ps a h) (B:=.loop .ready none f tv ps a h g.s.next fn.ntmps) ⟨o.s.next,tv,g.s.next,pp j.ok _ _,tj,j.slots.mono (zT j.ok.len _ _) aiY⟩;have Z:=rQ j.ok j.bl (.loop true f fn.ntmps t ps a h) (.loop .ready none f tv ps a h g.s.next fn.ntmps);have Q:=pp j.ok (.loop true f fn.ntmps t ps a h) (.loop .ready none f tv ps a h g.s.next fn.ntmps);have I:(o.obj (.loop true f fn.ntmps t ps a h) (.loop .ready none f tv ps a h g.s.next fn.ntmps)).H=g.H++[.coll,.loop true f fn.ntmps t ps a h]:=by simp[Gh.obj,n]
   have J:(o.obj (.loop true f fn.ntmps t ps a h) (.loop .ready none f tv ps a h g.s.next fn.ntmps)).s=(g.s.alloc .deferred).alloc (.loop .ready none f tv ps a h g.s.next fn.ntmps):=by rw[<- i];rfl
   have hl1:o.H.length=g.H.length+1:=by rw[n];simp
   rw[hl1]at Q;generalize o.obj (.loop true f fn.ntmps t ps a h) (.loop .ready none f tv ps a h g.s.next fn.ntmps)=g2 at f2 Z Q I J;have v12:=v1.trans Z;obtain⟨oc,hoc,e⟩:=mF e
   obtain⟨vout,m1,m2⟩:=z.c gf _ none _ oc hoc g2 I f2.ok (a'++(.func (.yield o.s.next) [] []::G)) none
    ((j1.mono v12.le).append (by simp only[RL];exact⟨_,_,rfl,by simp only[RD];exact⟨_,_,Q,rfl⟩,j2.mono v12.le⟩)) rfl
   obtain⟨g3,n1,n2,n3,n4,M,n6,_⟩:=mE f2 m2;have v13:=v12.trans n4;obtain⟨w,q1⟩:=(Z.trans n4).le.o1 _ _ _ o1;obtain⟨w2,q2⟩:=n4.le.o1 _ _ _ Q;have N:bO (lim E.E) gf (a'++([.func (.yield (g.s.alloc .deferred).next) [] []]++G)) none ((g.s.alloc .deferred).alloc (.loop .ready none f tv ps a h g.s.next fn.ntmps))=some vout:=by rw[<- J,<- i];exact m1
   obtain⟨ve,vu,vs'⟩:=vout;simp only at n2 M;rcases e with⟨d,q,e⟩|⟨c,q,e⟩
   .rw[q]at M;obtain⟨v,rfl,_⟩:=M;unfold Df at e;split at e
    .rename_i f0 nt0 t0 ps0 a0 b0 hl;rw[<- n1]at hl e;obtain⟨tv0,d0,k2,_⟩:=zJ n3 q2 hl;have c:vQ g3 (g.H.length+1) .opq o.s.next w2 w2 _ _ (.loop .exhausted none f0 tv0 ps0 a0 b0 d0 nt0):=rN q2 hl zi k2;have f4:=n3.oput c ⟨_,_,bt q2⟩;have U:=jy (b:=b) n3.ok c;obtain⟨w3,q3⟩:=U.le.o1 _ _ _ q1;obtain⟨vout,r1,r2⟩:=u _ _ _ _ _ _ _ _ e b P0 _ tv [] (.collected g.s.next::dsv) .run upv none rfl f4 ⟨_,w3,dsv,rfl,q3,hd.mono (v13.trans U).le⟩ rfl (sx.mk X (F.mono (v13.trans U).le));refine⟨vout,?_,r2.trans (v13.trans U)⟩;simp only[gx,N,kV];have k3:vs'.get (g.s.alloc .deferred).next=some (.loop .ready none f0 tv0 ps0 a0 b0 d0 nt0):=by rw[<- n2,<- i];exact k2
     simp only[k3,tC,Option.map,Option.toList,afn];rw[<- n2,<- i];exact r1
    .cases e
   .rw[q]at M;obtain⟨G,rfl,n7⟩:=M;rw[<- n1]at e;obtain⟨vout,r1,r2⟩:=u _ _ _ _ _ _ _ _ e b P0 g3 tv [] (.collected g.s.next::dsv) (.panicking G) upv none rfl n3 ⟨_,w,dsv,rfl,q1,hd.mono v13.le⟩ ⟨G,rfl,n7⟩ (sx.mk X (F.mono v13.le));refine⟨vout,?_,r2.trans v13⟩;simp only[gx,N,kV];rw[<- n2];exact r1
  .cases e
 .cases e
theorem Bf{ds:List sv}{up:Option fg}{r:ai}(h:sr go t L ds up r=some out):∃ u H,(∃ d,r=some ⟨.ret d,some u,H⟩/\u≠.run/\go t L [] ds (xJ u) up H=some out)\/∃ c,r=some ⟨.pan c,some u,H⟩/\go t L [] ds (EG u c) up H=some out:=by
 unfold sr iH at h;split at h
 .rename_i d u H;split at h
  .exact⟨_,_,.inl ⟨d,rfl,(λq=>by cases q),h⟩⟩
  .rename_i c;unfold EH at h;split at h
   .exact⟨_,_,.inl ⟨d,rfl,(λq=>by cases q),h⟩⟩
   .rename_i hn;refine⟨_,_,.inl ⟨d,rfl,(λq=>by cases q),?_⟩⟩;simp_all[xJ]
  .cases h
 .rename_i c u H;split at h
  .exact⟨_,_,.inr ⟨c,rfl,h⟩⟩
  .exact⟨_,_,.inr ⟨c,rfl,h⟩⟩
  .cases h
 .cases h
theorem Sz(h:Pj E f fn go)(n:KX E.E rec):∀ {c:Code} {k:List Item} {t:T LD} {L:LS} {ds:List sv} {up:Option fg},mA c E an f fn go rec k t L ds up g.H=some out->∀ {tv:T V} {LO:List Nat} {dsv:List eO} {upv:Option Md} {rdv:Option Nat},FI b P0 g t L tv LO->Je g ds dsv->sx g up upv rdv ->
 ∃ vout,cW c E.E f fn (gC (lim E.E) f fn) (bO (lim E.E)) (eB (lim E.E)) k tv dsv upv rdv g.s=some vout/\jK b P0 g out vout:=by
 intro c k t L ds up e tv LO dsv upv rdv j o u;have on:∀ {todo:List Item},go t L todo ds .run up g.H=some out->∃ vout,gC (lim E.E) f fn tv todo dsv .run upv rdv g.s=some vout/\jK b P0 g out vout:=λe=>h _ _ _ _ _ _ _ _ e b P0 g tv LO dsv .run upv rdv rfl j o rfl u;cases c with
 |ret=>exact Dj (c:=some .ret) h e j o u
 |skip=>exact on e
 |label _=>exact on e
 |seq _ _=>exact on e
 |block _ _=>exact on e
 |loop _=>exact on e
 |scope _=>exact on e
 |exit id=>exact Ht h (.exit id) e j o u
 |goto l=>exact Ht h (.goto l) e j o u
 |cond c x y =>
  simp only[mA]at e;obtain⟨d,v,e,_,w,z⟩:=bK e (j.slots.op c);obtain⟨q,rfl,e⟩:=FX e z;simp only[cW,w,FO];cases q with
  |true =>simp only[ge,sO]at e ⊢;exact h _ _ _ _ _ _ _ _ e b P0 g tv LO dsv .run upv rdv rfl (j.rf (xL w)) o rfl u
  |false =>simp only[SE,sO]at e ⊢;exact h _ _ _ _ _ _ _ _ e b P0 g tv LO dsv .run upv rdv rfl (j.rf (xL w)) o rfl u
 |region id ops draw =>
  cases draw with
  |true =>
   simp only[mA]at e;split at e
   .cases e
   rename_i i;split at e
   .rename_i sc J;obtain⟨r,w,hr⟩:=rI (b:=b) (P0:=P0) (dsv:=dsv) (upv:=upv) n (cs:=[⟨L,g,LO⟩]) e rfl j ⟨j.cfg,.refl b _,trivial⟩ (us.of j.slots .leaf);have h6:=EA J (bO (lim E.E)) (eB (lim E.E)) tv dsv upv g.s _ w;rcases hr with⟨tv',s',rfl,g',t',L',LO',z,M,N,F⟩|⟨c,tv',s',rfl,g',t',L',LO',c',z,M,N,F,h7⟩
    .obtain⟨vout,G,I⟩:=h _ _ _ _ _ _ _ _ z b P0 g' tv' LO' dsv .run upv rdv rfl N (o.mono F.le) rfl (u.mono F.le);refine⟨vout,?_,I.trans F⟩;simp only[cW,i,ge,h6,gK,<- M];exact G
    .obtain⟨vout,G,I⟩:=h _ _ _ _ _ _ _ _ z b P0 g' tv' LO' dsv (.panicking c) upv rdv rfl N (o.mono F.le) ⟨c,rfl,h7⟩ (u.mono F.le);refine⟨vout,?_,I.trans F⟩;simp only[cW,i,ge,h6,gK,<- M];exact G
   .cases e
  |false =>
   simp only[mA]at e;split at e
   rotate_left
   .cases e
   rename_i i;obtain⟨r,w,z⟩:=fD n e j o u;cases r with
   |on tv' dsv' upv' s' =>obtain⟨g',t',L',LO',ds',up',G,I,O,Q,U,X⟩:=z;obtain⟨vout,Y,Z⟩:=h _ _ _ _ _ _ _ _ G b P0 g' tv' LO' dsv' .run upv' rdv rfl O U rfl X;refine⟨vout,?_,Z.trans Q⟩;simp only[cW,i,ge,w,gK,<- I];exact Y
   |panicked c tv' dsv' upv' s' =>obtain⟨g',t',L',LO',ds',up',c',G,I,O,Q,U,X,k7⟩:=z;obtain⟨vout,Y,Z⟩:=h _ _ _ _ _ _ _ _ G b P0 g' tv' LO' dsv' (.panicking c) upv' rdv rfl O U ⟨c,rfl,k7⟩ X;refine⟨vout,?_,Z.trans Q⟩;simp only[cW,i,ge,w,gK,<- I];exact Y
 |rangeFunc gop ps a b' =>simp only[mA]at e;obtain⟨d,v,e,_,w,z⟩:=bK e (j.slots.op gop);simp only[cW,w];exact NL h n e j o u z
 |refuse _=>cases e
theorem Of(h:Pj E f fn go)(w:KX E.E rec){todo:List Item}{ds:List sv}{m:fg}{up:Option fg}(e:vk E an f fn go rec t L todo ds m up g.H=some out)(j:FI b P0 g t L tv LO){dsv:List eO}{mv:Md}{upv:Option Md}{rdv:Option Nat}(M:Je g ds dsv)(hm:Ph g m mv)(r:sx g up upv rdv) :
 ∃ vout,gz E.E f fn (gC (lim E.E) f fn) (bO (lim E.E)) (eB (lim E.E)) tv todo dsv mv upv rdv g.s=some vout/\jK b P0 g out vout:=by
 have unw:∀ {m:fg} {mv:Md},Ph g m mv->jr ds E an fn go rec t L m up g.H=some out->∃ vout,dJ dsv E.E fn (gC (lim E.E) f fn) (bO (lim E.E)) tv mv upv rdv g.s=some vout/\jK b P0 g out vout:=λ{m mv} hm e=>by
  cases ds with
  |nil =>
   cases M;simp only[jr]at e;simp only[dJ];cases m with
   |run=>simp only[ka]at e;cases e
   |round _=>exact hm.elim
   |returning =>cases hm;simp only[ka]at e;obtain⟨hn,e⟩:=nF e;have hq:=r.nr hn;clear r;obtain⟨rfl,r⟩:=hq;obtain⟨ds,vs,e,n,z⟩:=oZ j e;obtain⟨ds',g',e,O,h4,h5,h6⟩:=LI j e z;cases e;have:=h4.leave (e:=.ret (QF ds')) (ve:=.returned (zq vs)) (up:=up) (upv:=upv) ⟨_,rfl,YU h6⟩ (r.mono h5.le);rw[O]at this;exact⟨_,by simp only[uQ,sW,n,Qc],this.trans h5⟩
   |panicking c =>obtain⟨Q,rfl,n⟩:=hm;simp only[ka]at e;cases e;exact⟨_,rfl,j.leave (e:=.pan c) (ve:=.panicked Q) ⟨_,rfl,n⟩ (Uq r)⟩
  |cons x ds =>
   cases x with
   |coll o =>
    obtain⟨d,v,dsv',rfl,n,z⟩:=M;simp only[jr]at e;simp only[dJ];unfold uf at e;split at e
    .rename_i Y;obtain⟨d',G,I⟩:=j.ok.obj o _ Y;rw[n]at G;cases G;have c:vQ g o .opq d 0 0 .coll _ .gone:=rN n Y JF I;have hf':=j.oput c ⟨_,_,bt n⟩;have F:=jy (b:=b) j.ok c;obtain⟨vout,J,N⟩:=h _ _ _ _ _ _ _ _ e b P0 _ tv LO dsv' mv upv rdv rfl hf' (z.mono F.le) (hm.mono F.le) (r.mono F.le);refine⟨vout,?_,N.trans F⟩;simp only[lF,I];exact J
    .cases e
   |call x =>
   obtain⟨ca,a,dsv',rfl,n,z,O⟩:=M;obtain⟨xf,xc,xa⟩:=x;simp only[jr]at e;simp only at n z;simp only[dJ];obtain⟨u,H',⟨d,hr,hne,e⟩|⟨c,hr,e⟩⟩:=Bf e
   .obtain⟨vout,G,I⟩:=w.c _ _ _ _ _ hr g rfl j.ok (a++ca) (some mv) (z.append n) ⟨mv,rfl,hm⟩;obtain⟨g',n1,n2,n3,n4,U,X,_⟩:=mE j I;obtain⟨ve,vu,vs⟩:=vout;simp only at n1 n2 U X;obtain⟨v,rfl,_⟩:=U;obtain⟨Z,rfl,n7⟩:=X;rw[<- n1]at e;obtain⟨vout,J,N⟩:=h _ _ _ _ _ _ _ _ e b P0 g' tv LO dsv' (js Z) upv rdv rfl n3 (O.mono n4.le) (PP n7) (r.mono n4.le);refine⟨vout,?_,N.trans n4⟩;simp only[bO,G,kw];have:Z≠.run:=λq=>hne ((Zk n7).2 q);split
    .grind
    .rw[<- n2];exact J
   .obtain⟨vout,G,I⟩:=w.c _ _ _ _ _ hr g rfl j.ok (a++ca) (some mv) (z.append n) ⟨mv,rfl,hm⟩;obtain⟨g',n1,n2,n3,n4,U,X,_⟩:=mE j I;obtain⟨ve,vu,vs⟩:=vout;simp only at n1 n2 U X;obtain⟨Q,rfl,n8⟩:=U;obtain⟨Z,rfl,n7⟩:=X;rw[<- n1]at e;obtain⟨vout,J,N⟩:=h _ _ _ _ _ _ _ _ e b P0 g' tv LO dsv' (tc Z Q) upv rdv rfl n3 (O.mono n4.le) (Qm n7 n8) (r.mono n4.le);refine⟨vout,?_,N.trans n4⟩;simp only[bO,G,kw];rw[<- n2];exact J
 cases m with
 |run =>
  cases hm;simp only[vk]at e;simp only[gz];cases todo with
  |nil=>exact Dj (c:=none) h e j M r
  |cons i k =>
   simp only[Lt]at e;simp only[oQ];have on:∀ {todo:List Item},go t L todo ds .run up g.H=some out->∃ vout,gC (lim E.E) f fn tv todo dsv .run upv rdv g.s=some vout/\jK b P0 g out vout:=λe=>h _ _ _ _ _ _ _ _ e b P0 g tv LO dsv .run upv rdv rfl j M rfl r;cases i with
   |code c=>exact Sz h w e j M r
   |inBlock _=>exact on e
   |inScope _=>exact on e
   |inLoop c=>exact on e
   |beginRound =>
    simp only[RH]at e;unfold KR at e;split at e
    .rename_i o;obtain⟨rfl,l,v,rfl,ho⟩:=r;unfold OF at e;split at e
     .rename_i Y;obtain⟨tv0,d,z,O⟩:=zJ j ho Y;obtain⟨g',G,I,k3,k4⟩:=O false;rw[<- G]at e;obtain⟨v',ho'⟩:=k4.le.o1 _ _ _ ho;obtain⟨vout,J,N⟩:=h _ _ _ _ _ _ _ _ e b P0 g' tv LO dsv .run none (some l) rfl k3 (M.mono k4.le) rfl ⟨rfl,l,v',rfl,ho'⟩;refine⟨vout,?_,N.trans k4⟩;simp only[ml,yn,z,ge];rw[I]at J;exact J
     .cases e
    .cases e
   |_=>cases e
 |returning =>cases hm;exact unw (m:=.returning) rfl e
 |panicking c =>obtain⟨Q,rfl,n⟩:=hm;exact unw (m:=.panicking c) ⟨Q,rfl,n⟩ e
 |round _=>exact hm.elim
end frame
mutual
theorem RD.belo:∀ {d:D} {v:V},g.O.length=g.H.length->RD g d v->d.bel g.H.length
 |.bool _,_,_,_=>trivial
 |.int ..,_,_,_=>trivial
 |.str _,_,_,_=>trivial
 |.ptr o c,v,hl,r=>by grind [RD,D.bel,cR]
 |.eptr cs c,v,hl,r=>by simp only[RD]at r;obtain⟨a,vs,_,_,_,h,_⟩:=r;simp only[D.bel];exact RL.belo hl h
 |.bptr o n i c,v,hl,r=>by
  simp only[RD,Cz]at r
  grind [D.bel,cR]
 |.tptr o n i c,v,hl,r=>by grind [RD,D.bel,cR]
 |.tb sz o s k,v,hl,r=>by grind [RD,D.bel,cR]
 |.nilptr,_,_,_=>trivial
 |.row sz l,v,hl,r=>by
  simp only[RD]at r;simp only[D.bel];rcases r with⟨rfl,_⟩|⟨rfl,_⟩|⟨a,z,cap,_,_,_,_,_,j⟩
  .trivial
  .trivial
  .exact RR.belo hl j
 |.buf sz o n,v,hl,r=>by simp only[RD]at r;rcases r with⟨⟨_,_,_,q⟩,_⟩|⟨st,cap,l,q,_⟩<;>grind [D.bel,cR]
 |.nilrow,_,_,_=>trivial
 |.map o,v,hl,r=>by grind [RD,D.bel,cR]
 |.nilmap,_,_,_=>trivial
 |.func fn a c,v,hl,r=>by simp only[RD]at r;obtain⟨a',b',_,e,u⟩:=r;simp only[D.bel];exact⟨RL.belo hl e,RL.belo hl u⟩
 |.nilFunc,_,_,_=>trivial
 |.iface ty d,v,hl,r=>by simp only[RD]at r;obtain⟨v',_,e⟩:=r;simp only[D.bel];exact RD.belo hl e
 |.nilIface,_,_,_=>trivial
 |.yld o,v,hl,r=>by grind [RD,D.bel,cR]
 |.abool,_,_,_=>trivial
 |.agg cs,v,hl,r=>by simp only[RD]at r;obtain⟨vs,_,e,_⟩:=r;simp only[D.bel];exact RL.belo hl e
 |.tuple ds,v,hl,r=>by simp only[RD]at r;obtain⟨vs,_,e⟩:=r;simp only[D.bel];exact RL.belo hl e
theorem RL.belo:∀ {ds:List D} {vs:List V},g.O.length=g.H.length->RL g ds vs->eL g.H.length ds
 |[],_,_,_=>trivial
 |d::l,vs,hl,r=>by simp only[RL]at r;obtain⟨v,vs',_,a,e⟩:=r;simp only[eL];exact⟨RD.belo hl a,RL.belo hl e⟩
theorem RR.belo:∀ {l:List (List D)} {a:Ad} {sz:Nat},g.O.length=g.H.length->RR g a sz l->eo g.H.length l
 |[],_,_,_,_=>trivial
 |x::l,a,sz,hl,r=>by simp only[RR]at r;obtain⟨⟨vs,_,_,d,_⟩,e⟩:=r;simp only[eo];exact⟨RL.belo hl d,RR.belo hl e⟩
end
def Gh.trim(g:Gh)(n:Nat):Gh:=⟨g.O.take n,g.H.take n,g.Pv,g.s⟩
theorem jV{α:Type}{l:List α}{n i:Nat}{x:α}(h:(l.take n)[i]? = some x):i<n/\l[i]? = some x:=by grind
theorem cv{α:Type}{l:List α}{n i:Nat}{x:α}(hi:i<n)(h:l[i]? = some x):(l.take n)[i]? = some x:=by grind
theorem Aa{n f:Nat}(h:g.Imm f):(g.trim n).Imm f:=⟨h.1,h.2.1,λo v ho=>by obtain⟨a,d⟩:=jV ho;obtain⟨sz,cap,l,e⟩:=h.2.2 o v d;exact⟨sz,cap,l,cv a e⟩⟩
theorem Cz.trim{o n:Nat}(h:o<n)(r:Cz g o):Cz (g.trim n) o:=by obtain⟨z,s,l,k⟩:=r;exact⟨z,s,l,cv h k⟩
mutual
theorem RD.trim{n:Nat}:∀ {d:D} {v:V},d.bel n->RD g d v->RD (g.trim n) d v
 |.bool _,_,_,r=>by simpa only[RD]using r
 |.int ..,_,_,r=>by simpa only[RD]using r
 |.str _,_,_,r=>by simpa only[RD]using r
 |.ptr o c,v,hb,r=>by simp only[RD]at r ⊢;simp only[D.bel]at hb;obtain⟨f,ver,e,h⟩:=r;exact⟨f,ver,cv hb e,h⟩
 |.eptr cs c,v,hb,r=>by simp only[RD]at r ⊢;simp only[D.bel]at hb;obtain⟨a,vs,e,h,j,u,w⟩:=r;exact⟨a,vs,e,Aa h,j,RL.trim hb u,w⟩
 |.bptr o n' i c,v,hb,r=>by
  simp only[RD]at r ⊢;simp only[D.bel]at hb;rcases r with⟨r,F⟩|⟨f,ver,sz,st,cap,l,ver',e,h,j⟩
  .exact .inl ⟨r.trim hb,F⟩
  exact .inr ⟨f,ver,sz,st,cap,l,ver',cv hb e,cv hb h,j⟩
 |.tptr o s i c,v,hb,r=>by simp only[RD]at r ⊢;simp only[D.bel]at hb;obtain⟨f,ver,sz,s',l,ver',e,h,j⟩:=r;exact⟨f,ver,sz,s',l,ver',cv hb e,cv hb h,j⟩
 |.tb sz o s k,v,hb,r=>by simp only[RD]at r ⊢;simp only[D.bel]at hb;obtain⟨f,ver,s',l,ver',e,h,j⟩:=r;exact⟨f,ver,s',l,ver',cv hb e,cv hb h,j⟩
 |.nilptr,_,_,r=>by simpa only[RD]using r
 |.row sz l,v,hb,r=>by
  simp only[RD]at r ⊢;simp only[D.bel]at hb;rcases r with r|r|⟨a,z,cap,e,h,j,u,w,G⟩
  .exact .inl r
  .grind
  .exact .inr (.inr ⟨a,z,cap,e,h,j,u,λq=>Aa (w q),RR.trim hb G⟩)
 |.buf sz o n',v,hb,r=>by
  simp only[RD]at r ⊢;simp only[D.bel]at hb;rcases r with⟨r,F⟩|⟨st,cap,l,e,h,j⟩
  .exact .inl ⟨r.trim hb,F⟩
  refine .inr ⟨st,cap,l,cv hb e,h,?_⟩;rcases j with j|⟨j,f,ver,ver',c,u,w⟩
  .exact .inl j
  .exact .inr ⟨j,f,ver,ver',c,cv hb u,w⟩
 |.nilrow,_,_,r=>by simpa only[RD]using r
 |.map o,v,hb,r=>by simp only[RD]at r ⊢;simp only[D.bel]at hb;obtain⟨f,ver,e,h⟩:=r;exact⟨f,ver,cv hb e,h⟩
 |.nilmap,_,_,r=>by simpa only[RD]using r
 |.func fn a c,v,hb,r=>by simp only[RD]at r ⊢;simp only[D.bel]at hb;obtain⟨I,J,e,h,j⟩:=r;exact⟨I,J,e,RL.trim hb.1 h,RL.trim hb.2 j⟩
 |.nilFunc,_,_,r=>by simpa only[RD]using r
 |.iface ty d,v,hb,r=>by simp only[RD]at r ⊢;simp only[D.bel]at hb;obtain⟨v',e,h⟩:=r;simp_all[RD.trim]
 |.nilIface,_,_,r=>by simpa only[RD]using r
 |.yld o,v,hb,r=>by simp only[RD]at r ⊢;simp only[D.bel]at hb;obtain⟨f,ver,e,h⟩:=r;exact⟨f,ver,cv hb e,h⟩
 |.abool,_,_,r=>by simpa only[RD]using r
 |.agg cs,v,hb,r=>by simp only[RD]at r ⊢;simp only[D.bel]at hb;obtain⟨vs,e,h,j⟩:=r;simp_all[RL.trim]
 |.tuple ds,v,hb,r=>by simp only[RD]at r ⊢;simp only[D.bel]at hb;obtain⟨vs,e,h⟩:=r;simp_all[RL.trim]
theorem RL.trim{n:Nat}:∀ {ds:List D} {vs:List V},eL n ds->RL g ds vs->RL (g.trim n) ds vs
 |[],_,_,r=>by simpa only[RL]using r
 |d::l,vs,hb,r=>by simp only[RL]at r ⊢;simp only[eL]at hb;obtain⟨v,vs',a,e,h⟩:=r;exact⟨v,vs',a,RD.trim hb.1 e,RL.trim hb.2 h⟩
theorem RR.trim{n:Nat}:∀ {l:List (List D)} {a:Ad} {sz:Nat},eo n l->RR g a sz l->RR (g.trim n) a sz l
 |[],_,_,_,_=>by simp only[RR]
 |x::l,a,sz,hb,r=>by simp only[RR]at r ⊢;simp only[eo]at hb;obtain⟨⟨vs,d,e,h,i⟩,j⟩:=r;exact⟨⟨vs,d,e,RL.trim hb.1 h,i⟩,RR.trim hb.2 j⟩
end
theorem sC.trim{n:Nat}:∀ {es:List (D×D)} {ents:List qT},(∀ x∈es,x.1.bel n/\x.2.bel n)->sC g es ents->sC (g.trim n) es ents
 |[],_,_,r=>r
 |(k,v)::l,_,hb,r=>by obtain⟨e,es',a,d,h,i,j⟩:=r;obtain⟨o,q⟩:=hb _ aeq;exact⟨e,es',a,d.trim o,h.trim q,i,sC.trim (λx s=>hb x (abi _ s)) j⟩
theorem sC.belo:∀ {es:List (D×D)} {ents:List qT},g.O.length=g.H.length->sC g es ents->∀ x∈es,x.1.bel g.H.length/\x.2.bel g.H.length
 |[],_,_,_,x,a=>by cases a
 |(k,v)::l,_,hl,r,x,a=>by
  obtain⟨e,es',_,d,h,_,i⟩:=r;rcases abn.1 a with rfl|a
  .exact⟨d.belo hl,h.belo hl⟩
  .exact sC.belo hl i x a
theorem kP.belo{o:Nat}{x:DB}(hl:g.O.length=g.H.length)(r:kP g o x):x.bel g.H.length:=by
 cases x with
 |dead=>exact r.elim
 |opq=>trivial
 |coll=>trivial
 |loop _ _ _ _ _ _ _ =>obtain⟨f,tv,d,_,_,a⟩:=r;intro i d hi;obtain⟨v,_,e⟩:=a i _ hi;exact RD.belo hl e
 |cells st cs=>obtain⟨f,el,vs,_,_,a,_⟩:=r;exact a.belo hl
 |map es=>obtain⟨f,ents,c,_,_,a⟩:=r;exact a.belo hl
 |buf sz st cap l =>
  obtain⟨_,⟨rfl,_⟩|⟨_,f,ver,el,nv,vers,cells,_,_,_,_,_,h⟩⟩:=r
  .trivial
  .exact h.belo hl
 |tbuf sz s l =>obtain⟨_,f,ver,el,nv,vers,cells,_,_,_,_,_,h⟩:=r;exact h.belo hl
theorem kP.trim{o n:Nat}{x:DB}(ho:o<n)(hb:x.bel n)(r:kP g o x):kP (g.trim n) o x:=by
 cases x with
 |dead=>exact r.elim
 |opq=>obtain⟨f,v,a⟩:=r;exact⟨f,v,cv ho a⟩
 |coll=>obtain⟨f,a,e⟩:=r;exact⟨f,cv ho a,e⟩
 |loop _ _ _ _ _ _ _ =>
  obtain⟨f,tv,d,a,e,j⟩:=r;refine⟨f,tv,d,cv ho a,e,λi x hi=>?_⟩;obtain⟨v,q,w⟩:=j i x hi;refine⟨v,q,?_⟩;cases x with
  |g d=>exact RD.trim (hb i d hi) w
  |lp k c=>exact w
  |u=>exact w
 |cells st cs=>obtain⟨f,el,vs,a,e,j,q⟩:=r;exact⟨f,el,vs,cv ho a,e,j.trim hb,q⟩
 |map es=>obtain⟨f,ents,c,a,e,j⟩:=r;exact⟨f,ents,c,cv ho a,e,j.trim hb⟩
 |buf sz st cap l =>
  obtain⟨h0,⟨rfl,a⟩|⟨a,f,ver,el,nv,vers,cells,e,j,q,w,z,h⟩⟩:=r
  .exact⟨h0,.inl ⟨rfl,cv ho a⟩⟩
  .exact⟨h0,.inr ⟨a,f,ver,el,nv,vers,cells,cv ho e,j,q,w,z,h.trim hb⟩⟩
 |tbuf sz s l =>obtain⟨h0,f,ver,el,nv,vers,cells,e,j,q,w,z,h⟩:=r;exact⟨h0,f,ver,el,nv,vers,cells,cv ho e,j,q,w,z,h.trim hb⟩
theorem iu.trim{n:Nat}:∀ {c:List fX} {a:List Gm},(∀ x∈c,x.v.bel n)->iu g c a->iu (g.trim n) c a
 |[],_,_,r=>r
 |x::l,_,hb,r=>by obtain⟨y,a,d,e,h,i⟩:=r;exact⟨y,a,d,e.trim (hb x aeq),h,iu.trim (λz j=>hb z (abi _ j)) i⟩
theorem PA{r:ai}(e:aY g.H r=some out)(w:Ok g){j:uv}{s0:S}(hr:∀ o,r=some o->∃ vout,lim E.E j s0=some vout/\jK g.s.next g.Pv g o vout):∃ vout,lim E.E j s0=some vout/\jK g.s.next g.Pv g out vout:=by
 unfold aY at e;split at e
 .rename_i o;split at e
  .rename_i ht;cases e;obtain⟨vout,h1,g',Q,h3,h4,z,u,M,U⟩:=hr o rfl;obtain⟨G,t2,X,Y⟩:=ht;rw[<- Q]at X Y;have J:(g'.trim g.H.length).H.length=g.H.length:=by simp[Gh.trim,X]
   have hold:∀ {o:Nat} {x:DB},o<g.H.length->g'.H[o]? = some x->kP (g'.trim g.H.length) o x:=λ{o x} ho I=>by
    refine(z.obj o x I).trim ho ?_;rcases Y o x ho I with q|q
    .exact(w.obj o x q).belo w.len
    .exact q
   refine⟨vout,h1,g'.trim g.H.length,by simp[Gh.trim,Q],h3,h4,⟨by simp[Gh.trim,z.len],z.wf,λo o' f v v' a c=>z.inj o o' f v v' (jV a).2 (jV c).2,λo f v a=>z.lt o f v (jV a).2,z.pv,λo x I=>?_,z.gl.to λf h i F=>⟨rfl,h,i,λo v k=>F o v (jV k).2⟩⟩,⟨⟨by rw[J];exact aaW _,λo f v ho=>?_,λo sz st cap l ho=>?_,λo sz s l ho=>?_,λf N=>Aa (u.le.imm f N),λa n vs hi I=>u.le.cells a n vs hi I,u.le.next⟩,u.out,λo f v ho N=>u.fresh o f v (jV ho).2 N,λo s1 c1 f v a c=>?_⟩,?_,?_⟩
   .obtain⟨h,i⟩:=jV I
    grind
   .obtain⟨v',q⟩:=u.le.o1 o f v ho;exact⟨v',cv (by rw[<- w.len];exact cR ho) q⟩
   .rcases u.le.buf o sz st cap l ho with h|⟨st',cap',l',h,i,F,q4⟩
    .exact .inl (h.trim (cR ho))
    refine .inr ⟨st',cap',l',cv (cR ho) h,i,F,λq=>⟨(q4 q).1,?_⟩⟩;show(g'.O.take _)[o]? = _
    grind
   .obtain⟨s',l',h,i,F⟩:=u.le.tb o sz s l ho;refine⟨s',l',cv (cR ho) h,i,λq=>⟨(F q).1,?_⟩⟩;show(g'.O.take _)[o]? = _
    grind
   .obtain⟨s2,c2,h,i,F⟩:=u.stm o s1 c1 f v a c;exact⟨s2,c2,cv (cR a) h,i,F⟩
   .have G:=G;cases Z:o.e with
    |ret d =>rw[Z]at M G;obtain⟨v,h,i⟩:=M;exact⟨v,h,i.trim G⟩
    |pan c =>rw[Z]at M G;obtain⟨c',h,i⟩:=M;exact⟨c',h,i.trim G⟩
   .show OT _ o.up _;rw[t2]at U ⊢;exact U
  .cases e
 .cases e
theorem RN:∀ {ds:List D} {vs:List V} {i:Nat} {t:T LD} {tv:T V},RL g ds vs->Cy g [] t tv->Cy g [] (gR ds i t id) (lr vs i tv id)
 |[],vs,i,t,tv,r,h=>by simp only[RL]at r;subst r;exact h
 |d::ds,vs,i,t,tv,r,h=>by simp only[RL]at r;obtain⟨v,vs',rfl,a,e⟩:=r;rw[Kj];simp only[gR,T.setQ_eq];exact RN e (h.put (some i) (x:=.g d) a)
theorem qx{β:Type}:∀(ds:List D) (i:Nat) (t:T LD) (k:T LD->β),gR ds i t k=k (gR ds i t id)
 |[],_,_,_=>rfl
 |d::ds,i,t,k=>by simp only[gR,T.setQ_eq];exact qx ds (i+1) _ k
theorem PI(h:Ok g){ds:List D}{vs:List V}(r:RL g ds vs):FI g.s.next g.Pv g (gR ds 0 .leaf id) [] (lr vs 0 .leaf id) [] :=
 ⟨h,RN r (λi x a=>by rw[T.get_leaf]at a;cases a),⟨rfl,λk x f hk=>by simp at hk⟩,by simp,(λf d=>by cases d),List.nodup_nil,aaW _⟩
theorem uE{β:Type}:∀(t:T LD) (ps:List Tmp) (ds:List D) (k:T LD->β),np t ps ds k=k (np t ps ds id)
 |t,p::ps,d::ds,k=>by simp only[np,T.setQ_eq];exact uE _ ps ds k
 |t,[],[],k=>rfl
 |t,[],_::_,k=>rfl
 |t,_::_,[],k=>rfl
theorem GR{β:Type}:∀(t:T V) (ps:List Tmp) (ds:List V) (k:T V->β),cP t ps ds k=k (cP t ps ds id)
 |t,p::ps,d::ds,k=>by simp only[cP,T.setK_eq];exact GR _ ps ds k
 |t,[],[],k=>rfl
 |t,[],_::_,k=>rfl
 |t,_::_,[],k=>rfl
theorem LP:∀ {ps:List Tmp} {ds:List D} {vs:List V} {t:T LD} {tv:T V},RL g ds vs->Cy g [] t tv->Cy g [] (np t ps ds id) (cP tv ps vs id)
 |[],ds,vs,t,tv,r,h=>by cases ds<;>cases vs<;>exact h
 |p::ps,[],vs,t,tv,r,h=>by simp only[RL]at r;subst r;exact h
 |p::ps,d::ds,vs,t,tv,r,h=>by simp only[RL]at r;obtain⟨v,vs',rfl,a,e⟩:=r;simp only[np,cP,T.setQ_eq,T.setK_eq];exact LP e (h.put (some p) (x:=.g d) a)
theorem NJ{go:FuncId->Func->uw}(i:∀ f fn,Pj E f fn (go f fn)){o:Nat}{args:List D}(e:uD E go o args g.H=some out)(h:Ok g){vs:List V}{l v:Nat}(hr:RL g args vs)(ho:g.O[o]? = some (some (l,v))) :
 ∃ vout,lim E.E (.round l vs) g.s=some vout/\jK g.s.next g.Pv g out vout:=by
 unfold uD at e;split at e
 .rename_i r f nt t ps a b' u;split at e
  .rename_i fn j;obtain⟨hc,e⟩:=aN e;obtain⟨fb,tv0,d,q,w,z⟩:=h.obj o _ u;rw[ho]at q;cases q;rw[uE]at e
   have n:FI g.s.next g.Pv g (np t ps.toList args id) [] (cP tv0 ps.toList vs id) [] :=
    ⟨h,LP hr z,⟨rfl,λk x f hk=>by simp at hk⟩,by simp,(λf j=>by cases j),List.nodup_nil,aaW _⟩
   obtain⟨vout,F,G⟩:=i f fn _ _ _ _ _ _ _ _ e g.s.next g.Pv g _ _ [] .run none (some l) rfl n rfl rfl ⟨rfl,l,0,rfl,ho⟩;refine⟨vout,RZ ?_,G⟩;rw[<- hr.len]at hc;simp only[fy,w,yQ,j,hc,ge];rw[GR];exact F
  .cases e
 .cases e
theorem OB(F:Tg E){go:FuncId->Func->uw}(k:∀ f fn,Pj E f fn (go f fn)):KX E.E (Nf E go):=by
 refine⟨?_,λo args H out e g r a vs l v hr ho=>by subst r;exact NJ k e a hr ho⟩;intro f args up H out e g r a vs upv hr n;subst r;have ent:AY E go f args up g.H=some out->∃ vout,lim E.E (.call f vs upv) g.s=some vout/\jK g.s.next g.Pv g out vout:=λe=>by
  unfold AY at e;split at e
  .rename_i fn I;split at e
   .rename_i c hb;cases j:(fn.name == "runtime.NumGoroutine" || E.vo f)with
    |true=>rw[j]at e;cases e
    |false =>
     rw[j]at e;simp only[SE]at e;obtain⟨w,z⟩:=aiX.1 j;have hstep:∀ o,gR args 0 .leaf (λt=>go f fn t [] [.code c] [] .run up g.H)=some o->∃ vout,lim E.E (.call f vs upv) g.s=some vout/\jK g.s.next g.Pv g o vout:=λo e=>by
      rw[qx]at e;obtain⟨vout,J,M⟩:=k f fn _ _ _ _ _ _ _ _ e g.s.next g.Pv g _ _ [] .run upv none rfl (PI a hr) rfl rfl (sx.mk (λo q=>by subst q;obtain⟨_,_,h⟩:=n;exact h) n);refine⟨vout,RZ ?_,M⟩;have i:vt (lim E.E) f vs upv g.s (E.E.P.funcs[f]?)=some vout:=by simp only[vt,I,hb,w,SE];rw[tJ];exact J
      cases upv with
      |none=>simp only[fy,F.no f z vs g.s,Bp];exact i
      |some u=>exact i
     cases G:(E.ann f).trim with
     |true=>rw[G]at e;exact PA e a hstep
     |false=>rw[G]at e;exact hstep _ e
   .cases e
  .cases e
 unfold Nf at e;split at e
 .obtain⟨_,_,h⟩:=n;exact h.elim
 rename_i hn;unfold QB at e;split at e
 .rename_i d H' ho;cases e;cases up with
  |none =>cases n;exact F.yes f args g.H d H' ho g rfl a vs hr
  |some m=>cases ho
 .exact ent e
theorem Jn(h:Tg E){R:aM}(d:Gg E R){go:FuncId->Func->uw}(a:∀ f fn,Pj E f fn (go f fn)):Gg E (sK E R go):=by refine⟨OB h a,λf fn=>?_⟩;intro t L todo ds m up H out e b P0 g tv LO dsv mv upv rdv i j k hm n;subst i;obtain⟨vout,o,q⟩:=Of (Ov (d.frame f fn) (a f fn)) d.call e j k hm n;exact⟨vout,RZ o,q⟩
theorem pV(a:Tg E):∀ n,Gg E (dK E n)
 |0=>⟨⟨(λ_ _ _ _ _ e=>by cases e),(λ_ _ _ _ e=>by cases e)⟩,(λ_ _ _ _ _ _ _ _ _ _ e=>by cases e)⟩
 |n+1=>Jn a (pV a n) (pV a n).frame
end
section
variable[fZ]
def BM(c:Nat->aM)(R:aM):Prop:=∀ j H o,R j H=some o->∃ n,∀ m,n<=m->c m j H=some o
def bB(c:Nat->aM)(R:aM)(Φ:aM->ai):Prop:=∀ x,Φ R=some x->∃ n,∀ m,n<=m->Φ (c m)=some x
section
variable{c:Nat->aM}{R:aM}{α β:Type}{E:dg}{an:iL}
theorem bB.const(x:ai):bB c R (λ_=>x):=λ_ h=>⟨0,λ_ _=>h⟩
theorem bB.al{d:(α->ai)->ai}(h:Al d){κ:aM->α->ai}(hk:∀ a,bB c R (λih=>κ ih a)):bB c R (λih=>d (κ ih)):=λx e=>by obtain⟨a,i⟩:=h (κ R) x e;obtain⟨n,j⟩:=hk a x ((i (κ R)).symm.trans e);exact⟨n,λm hm=>(i (κ (c m))).trans (j m hm)⟩
theorem bB.al2{d:(α->β->ai)->ai}(h:gw d){κ:aM->α->β->ai}(hk:∀ a b,bB c R (λih=>κ ih a b)):bB c R (λih=>d (κ ih)):=λx e=>by obtain⟨a,b,i⟩:=h (κ R) x e;obtain⟨n,j⟩:=hk a b x ((i (κ R)).symm.trans e);exact⟨n,λm hm=>(i (κ (c m))).trans (j m hm)⟩
theorem bB.cond(b:Bool){p q:aM->ai}(hp:bB c R p)(a:bB c R q):bB c R (λih=>cond b (p ih) (q ih)):=by
 cases b
 .exact a
 .exact hp
theorem bB.both{p q:aM->ai}(hp:bB c R p)(a:bB c R q):bB c R (λih=>wT (p ih) (q ih)):=λx e=>by
 obtain⟨d,h⟩:=DQ e;obtain⟨n1,k1⟩:=hp x d;obtain⟨n2,k2⟩:=a x h;refine⟨max n1 n2,λm hm=>?_⟩
 grind
theorem bB.notRnd(up:Option fg){p:aM->ai}(hp:bB c R p):bB c R (λih=>notRnd up (p ih)):=by
 unfold Go.AI.notRnd;split
 .exact .const _
 .exact hp
theorem bB.brD(d:D){p q:aM->ai}(hp:bB c R p)(a:bB c R q):bB c R (λih=>brD d (p ih) (q ih)):=by cases d<;>first|exact .const _|exact bB.cond _ hp a|exact bB.both hp a
theorem bB.ih(h:BM c R)(j:CA)(H:DH):bB c R (λih=>ih j H):=λo ho=>h j H o ho
theorem bB.callK2{x:aM->ai}(j:bB c R x){kr:aM->D->DH->ai}{kp:aM->List fX->DH->ai}(k:∀ d H,bB c R (λih=>kr ih d H))(n:∀ p H,bB c R (λih=>kp ih p H)):bB c R (λih=>aU (x ih) (kr ih) (kp ih)):=λy e=>by
 obtain⟨o,ho,q⟩:=mF e;obtain⟨n1,h⟩:=j o ho;obtain⟨oe,ou,oH⟩:=o;rcases q with⟨d,i,e⟩|⟨p,i,e⟩
 .simp only at i e;subst i;obtain⟨n2,a⟩:=k d oH y e;exact⟨max n1 n2,λm hm=>by show aU (x (c m)) _ _=_;rw[h m (by omega)];exact a m (by omega)⟩
 .simp only at i e;subst i;obtain⟨n2,a⟩:=n p oH y e;exact⟨max n1 n2,λm hm=>by show aU (x (c m)) _ _=_;rw[h m (by omega)];exact a m (by omega)⟩
theorem bB.want{ops:Array Oper}{t:T LD}{o:Oper}{kT kF:aM->T LD->ai}(a:∀ t,bB c R (λih=>kT ih t))(d:∀ t,bB c R (λih=>kF ih t)):bB c R (λih=>yy ops t o (kT ih) (kF ih)):=by
 unfold yy;split
 .exact a t
 .split
  .split
   .split
    .simp only[T.setQ_eq];exact .brD _ (a _) (d _)
    .simp only[T.setQ_eq];exact .brD _ (d _) (a _)
   .exact d t
   .exact .const _
  .exact .const _
theorem bB.put{t:T LD}{d:Option Tmp}{x:LD}{κ:aM->T LD->ai}(h:∀ t,bB c R (λih=>κ ih t)):bB c R (λih=>kW t d x (κ ih)):=by simp_all[cU]
theorem Vq(h:BM c R){d:Option Tmp}{t:T LD}{ds:List sv}{up:Option fg}{k:aM->IU}{kp:aM->List fX->IU}(hk:∀ t L ds up H,bB c R (λih=>k ih t L ds up H))(hp:∀ p t L ds up H,bB c R (λih=>kp ih p t L ds up H))(x:BS) :
 bB c R (λih=>JJ an (yW ih) d t ds up (k ih) (kp ih) x):=by
 cases x with
 |val x L H=>simp only[JJ];exact bB.al2 (qb) λx H=>.put λt=>hk _ _ _ _ _
 |skip L H=>simp only[JJ];exact .put λt=>hk _ _ _ _ _
 |enter f args L H=>simp only[JJ];exact .callK2 (.ih h _ _) (λx H=>bB.al2 (qb) λx H=>.put λt=>hk _ _ _ _ _) λp H=>hp _ _ _ _ _ _
 |defer df L H=>simp only[JJ];exact .notRnd _ (.put λt=>hk _ _ _ _ _)
 |round o args L H=>simp only[JJ];exact .callK2 (.ih h _ _) (λx H=>bB.al2 (qb) λx H=>.put λt=>hk _ _ _ _ _) λp H=>hp _ _ _ _ _ _
 |recover L H =>
  simp only[JJ];unfold mZ;split
  .exact .const _
  .exact .put λt=>hk _ _ _ _ _
  .exact .put λt=>hk _ _ _ _ _
  .exact .const _
 |panic v L H=>exact hp _ _ _ _ _ _
theorem pH(h:BM c R){ops:Array Oper}{k:aM->IU}{kp:aM->List fX->IU}(hk:∀ t L ds up H,bB c R (λih=>k ih t L ds up H))(hp:∀ p t L ds up H,bB c R (λih=>kp ih p t L ds up H)):∀(l:List Oper) t L ds up H,
 bB c R (λih=>qk E an ops (yW ih) l (k ih) (kp ih) t L ds up H)
 |[],t,L,ds,up,H=>hk _ _ _ _ _
 |o::l,t,L,ds,up,H=>.want (λt=>bB.al2 (vL) λt x=>Vq h (λt L ds up H=>pH h hk hp l t L ds up H) hp x) (λt=>.put λt=>pH h hk hp l t L ds up H)
theorem tQ{κ:aM->T LD->LD->LS->DH->ai}(h:∀ t x L H,bB c R (λih=>κ ih t x L H))(t:T LD)(x:BS):bB c R (λih=>rG (κ ih) t x):=by
 unfold rG;split
 .simp_all
 .exact .const _
theorem Kt{o:Oper}{a:List (LS×DH)}{n w:Nat}{bs:T Nat}{t:T LD}{L:LS}{H:DH}{κ:aM->T LD->LD->LS->DH->Nat->ai}(h:∀ t x L H b,bB c R (λih=>κ ih t x L H b))(kd:Nat):bB c R (λih=>sf E an o a n w bs t L H (κ ih) kd):=by
 unfold sf;split
 .split<;>simp_all[bB.al2,vL,tQ]
 .refine .cond _ ?_ (.const _);unfold CO;split
  .exact .const _
  .split
   .simp_all[bB.al2,vL,tQ]
   .have q (M G r):bB c R (λih=>lX o.op E false t (fL M r) (cK G (r.map (·.2))) λt x=>rG (λt x _ _=>κ ih t x L H (bif vi an o.dst then n else n - w)) t x):=bB.al2 (vL) λt x=>tQ (λt x _ _=>h _ _ _ _ _) t x;unfold Ql;split
    .simp_all[bB.al,rD,OJ]
    .exact q _ _ _
 .simp_all[bB.al2,vL,tQ]
 .exact .const _
theorem bB.drop{t:T LD}{d:Option Tmp}{κ:aM->T LD->ai}(h:∀ t,bB c R (λih=>κ ih t)):bB c R (λih=>MN t d (κ ih)):=by
 cases d with
 |none=>exact h _
 |some d=>simp only[MN,T.setQ_eq];exact h _
theorem Sg(h:BM c R){t:T LD}{κ:aM->T LD->LD->LS->DH->ai}(hk:∀ t x L H,bB c R (λih=>κ ih t x L H)){kp:aM->List fX->LS->DH->ai}(hp:∀ p L H,bB c R (λih=>kp ih p L H))(x:BS):bB c R (λih=>FC (yW ih) t (κ ih) (kp ih) x):=by
 cases x with
 |val x L H=>exact hk _ _ _ _
 |skip L H=>exact hk _ _ _ _
 |enter f args L H=>exact .callK2 (.ih h _ _) (λx H=>hk _ _ _ _) λp H=>hp _ _ _
 |_=>exact .const _
theorem iY(h:BM c R){ops:Array Oper}{k:aM->T LD->LS->DH->ai}(hk:∀ t L H,bB c R (λih=>k ih t L H)){kp:aM->List fX->T LD->LS->DH->ai}(hp:∀ p t L H,bB c R (λih=>kp ih p t L H)):∀(sc:List (Option Nat×Nat)) a n bs t L H,bB c R (λih=>gI E an ops (yW ih) (k ih) (kp ih) sc a n bs t L H)
 |[],a,n,bs,t,L,H=>hk _ _ _
 |(w,i)::sc,a,n,bs,t,L,H=>by
  simp only[gI];split
  .exact .const _
  .split
   .refine .want (λt=>Kt (λt x L H b=>?_) _) (λt=>.put λt=>?_)
    .exact bB.al2 (qb) λx H=>.put λt=>by simp only[fP];exact iY h hk hp sc _ _ _ _ _ _
    .simp only[fP];exact iY h hk hp sc _ _ _ _ _ _
   .refine .want (λt=>bB.al2 (vL) λt x=>Sg h (λt x L H=>?_) (λp L H=>?_) x) (λt=>.put λt=>?_)
    .exact bB.al2 (qb) λx H=>.put λt=>by simp only[fP];exact iY h hk hp sc _ _ _ _ _ _
    .cases sc with
     |nil =>
      simp only;split
      .exact bB.drop λt=>hp _ _ _ _
      .exact .const _
     |cons x sc=>exact .const _
    .simp only[fP];exact iY h hk hp sc _ _ _ _ _ _
variable{f:FuncId}{fn:Func}{go:aM->uw}
theorem Oh(h:BM c R)(e:∀ t L todo ds m up H,bB c R (λih=>go ih t L todo ds m up H))(cd:Code)(k:List Item)(t:T LD)(L:LS)(ds:List sv)(up:Option fg)(H:DH):bB c R (λih=>mA cd E an f fn (go ih) (yW ih) k t L ds up H):=by
 cases cd with
 |ret=>exact .notRnd _ (e _ _ _ _ _ _ _)
 |skip=>exact e _ _ _ _ _ _ _
 |label _=>exact e _ _ _ _ _ _ _
 |seq _ _=>exact e _ _ _ _ _ _ _
 |block _ _=>exact e _ _ _ _ _ _ _
 |loop _=>exact e _ _ _ _ _ _ _
 |scope _=>exact e _ _ _ _ _ _ _
 |exit id =>
  simp only[mA];unfold Dm;split;· exact e _ _ _ _ _ _ _
  .exact .const _
 |goto l =>
  simp only[mA];unfold Dm;split;· exact e _ _ _ _ _ _ _
  .exact .const _
 |cond cc a b =>simp only[mA,sO];exact bB.al (dt) λd=>.brD _ (e _ _ _ _ _ _ _) (e _ _ _ _ _ _ _)
 |region id ops draw =>
  cases draw with
  |true =>
   simp only[mA];split
   .exact .const _
   split
   .exact iY h (λ_ _ _=>e _ _ _ _ _ _ _) (λ_ _ _ _=>e _ _ _ _ _ _ _) _ _ _ _ _ _ _
   .exact .const _
  |false =>
   simp only[mA];split
   rotate_left
   .exact .const _
   .exact pH h (λt L ds up H=>e _ _ _ _ _ _ _) (λp t L ds up H=>e _ _ _ _ _ _ _) _ _ _ _ _ _
 |rangeFunc g ps a b =>
  simp only[mA];refine bB.al (dt) λd=>?_;unfold EE Oe;split
  .split
   .refine .notRnd _ (.callK2 (.ih h _ _) (λx H=>?_) λp H=>e _ _ _ _ _ _ _);unfold Df;split
    .simp_all
    .exact .const _
   .exact .const _
  .exact .const _
 |refuse _=>exact .const _
theorem aau{go1 go2:uw}{t:T LD}{L:LS}{ds:List sv}{up:Option fg}{d:D}{u:fg}{H:DH}{y z:jg}(e:sr go1 t L ds up (some ⟨.ret d,some u,H⟩)=some z)(h:go2 t L [] ds (xJ u) up H=some y):sr go2 t L ds up (some ⟨.ret d,some u,H⟩)=some y:=by
 cases u with
 |run=>cases e
 |round _=>cases e
 |returning=>exact h
 |panicking c =>
  cases c with
  |nil=>exact h
  |cons x r=>obtain⟨v,q⟩:=x;cases q<;>exact h
theorem VI{go1 go2:uw}{t:T LD}{L:LS}{ds:List sv}{up:Option fg}{c:List fX}{u:fg}{H:DH}{y z:jg}(e:sr go1 t L ds up (some ⟨.pan c,some u,H⟩)=some z)(h:go2 t L [] ds (EG u c) up H=some y):sr go2 t L ds up (some ⟨.pan c,some u,H⟩)=some y:=by
 cases u with
 |run=>cases e
 |round _=>cases e
 |returning=>exact h
 |panicking o=>exact h
theorem Ar(t:T LD)(L:LS)(up:Option fg)(H:DH)(m:fg):bB c R (λ_=>ka E an fn t L up H m):=.const _
theorem Ks(h:BM c R)(a:∀ t L todo ds m up H,bB c R (λih=>go ih t L todo ds m up H))(t:T LD)(L:LS)(todo:List Item)(ds:List sv)(m:fg)(up:Option fg)(H:DH):bB c R (λih=>vk E an f fn (go ih) (yW ih) t L todo ds m up H):=by
 have unw:∀ m,bB c R (λih=>jr ds E an fn (go ih) (yW ih) t L m up H):=λm=>by
  cases ds with
  |nil=>exact Ar t L up H m
  |cons x ds =>
   cases x with
   |coll o =>
    simp only[jr];unfold uf;split
    .simp_all
    .exact .const _
   |call x =>
   obtain⟨f,cap,args⟩:=x;intro y e;simp only[jr]at e ⊢;obtain⟨u,H',⟨d,hr,hne,j⟩|⟨c',hr,j⟩⟩:=Bf e
   .obtain⟨n1,n⟩:=bB.ih h (.call f (args++cap) (some m)) H _ hr;obtain⟨n2,r⟩:=a _ _ _ _ _ _ _ y j;refine⟨max n1 n2,λq s=>?_⟩
    grind [yW,aau]
   .obtain⟨n1,n⟩:=bB.ih h (.call f (args++cap) (some m)) H _ hr;obtain⟨n2,r⟩:=a _ _ _ _ _ _ _ y j;refine⟨max n1 n2,λq s=>?_⟩
    grind [yW,VI]
 cases m with
 |run =>
  cases todo with
  |nil =>
   simp only[vk,Lt,zS];split
   .exact .const _
   simp_all
  |cons i k =>
   cases i with
   |code cd=>exact Oh h a cd _ _ _ _ _ _
   |inBlock _=>exact a _ _ _ _ _ _ _
   |inScope _=>exact a _ _ _ _ _ _ _
   |inLoop _=>exact a _ _ _ _ _ _ _
   |beginRound =>
    simp only[vk,Lt,RH];unfold KR;split
    .unfold OF;split
     .simp_all
     .exact .const _
    .exact .const _
   |_=>exact .const _
 |returning=>exact unw _
 |panicking p=>exact unw _
 |round _=>exact .const _
theorem CL(t:T LD):∀ l,Al (yJ t l)
 |[]=>.ret []
 |i::r=>(rD).bind λx=>(CL t r).map (x::·)
theorem Vr{ih' go':aM->uw}(d:∀ t L todo ds m up H,bB c R (λih=>ih' ih t L todo ds m up H))(a:∀ t L todo ds m up H,bB c R (λih=>go' ih t L todo ds m up H))(t:T LD)(L:LS)(todo:List Item)(ds:List sv)(m:fg)(up:Option fg)(H:DH) :
 bB c R (λih=>Im an (ih' ih) (go' ih) t L todo ds m up H):=by
 unfold Im;split
 .split
  .exact bB.al (CL _ _) λxs=>.cond _ (d _ _ _ _ _ _ _) (.const _)
  .exact a _ _ _ _ _ _ _
 .exact a _ _ _ _ _ _ _
theorem vm(h:BM c R){go':aM->FuncId->Func->uw}(a:∀ f fn t L todo ds m up H,bB c R (λih=>go' ih f fn t L todo ds m up H))(j:CA)(H:DH):bB c R (λih=>sK E ih (go' ih) j H):=by
 cases j with
 |frame f fn t L todo ds m up=>exact Ks h (λt L todo ds m up H=>Vr (λt L todo ds m up H=>.ih h _ _) (a f fn) t L todo ds m up H) _ _ _ _ _ _ _
 |call f args up =>
  simp only[sK];have ent:bB c R (λih=>AY E (go' ih) f args up H):=by
   unfold AY;split
   .split
    .refine .cond _ (.const _) (.cond _ ?_ ?_)
     .simp only[qx args 0 .leaf (λt=>go' _ _ _ t _ _ _ _ _ _)];intro y e;change aY H (go' R f _ (gR args 0 T.leaf id) [] _ [] fg.run up H)=some y at e;cases ho:go' R f ‹Func› (gR args 0 T.leaf id) [] [Item.code ‹Code›] [] fg.run up H with
      |none=>rw[ho]at e;cases e
      |some o =>obtain⟨n,d⟩:=a _ _ _ _ _ _ _ _ _ o ho;refine⟨n,λm hm=>?_⟩;show aY H (go' (c m) f _ (gR args 0 T.leaf id) [] _ [] fg.run up H)=some y;rw[show go' (c m) f _ (gR args 0 T.leaf id) [] _ [] fg.run up H=some o from d m hm,<- ho];exact e
     .simp only[qx args 0 .leaf (λt=>go' _ _ _ t _ _ _ _ _ _)];exact a _ _ _ _ _ _ _ _ _
    .exact .const _
   .exact .const _
  unfold Nf;split
  .unfold uD;split
   .split
    .refine .cond _ ?_ (.const _);simp only[uE _ _ _ (λt=>go' _ _ _ t _ _ _ _ _ _)];exact a _ _ _ _ _ _ _ _ _
    .exact .const _
   .exact .const _
  .unfold QB;split
   .exact .const _
   .exact ent
end
def eP(E:dg):aM:=λj H=>open Classical in if h:∃ o n,dK E n j H=some o then some h.choose else none
theorem Ik(E:dg):∀ n j H o,dK E n j H=some o->dK E (n+1) j H=some o
 |0,_,_,_,h=>by cases h
 |n+1,j,H,o,h=>by have hl:BM (λ_=>dK E (n+1)) (dK E n):=λj H o h=>⟨0,λ_ _=>Ik E n j H o h⟩;obtain⟨k,hk⟩:=vm (E:=E) hl (go':=λih=>Pd ih) (λf fn t L todo ds m up H=>.ih hl _ _) j H o h;exact hk k (aaW _)
theorem FN(E:dg){n m:Nat}(hm:n<=m){j:CA}{H:DH}{o:jg}(h:dK E n j H=some o):dK E m j H=some o:=by
 induction hm with
 |refl=>exact h
 |step _ ih=>exact Ik E _ j H o ih
theorem Sv{E:dg}{n:Nat}{j:CA}{H:DH}{o:jg}(h:dK E n j H=some o):eP E j H=some o:=by
 have a:∃ o n,dK E n j H=some o:=⟨o,n,h⟩;unfold eP;rw[dif_pos a];obtain⟨m,hm⟩:=a.choose_spec;have h1:=FN E (Nat.le_max_left n m) h
 grind [FN,Nat.le_max_right,Option.some.inj]
theorem zP{E:dg}{j:CA}{H:DH}{o:jg}(h:eP E j H=some o):∃ n,dK E n j H=some o:=by
 unfold eP at h;split at h
 .grind
 .cases h
theorem Hl(E:dg):BM (dK E) (eP E):=λj H o h=>by obtain⟨n,a⟩:=zP h;exact⟨n,λm hm=>FN E hm a⟩
theorem MO(E:dg)(j:CA)(H:DH):eP E j H=sK E (eP E) (Pd (eP E)) j H:=by
 cases h:sK E (eP E) (Pd (eP E)) j H with
 |some o =>obtain⟨n,a⟩:=vm (E:=E) (Hl E) (go':=λih=>Pd ih) (λf fn t L todo ds m up H=>.ih (Hl E) _ _) j H o h;exact Sv (n:=n+1) (a n (aaW _))
 |none =>
  cases d:eP E j H with
  |none=>rfl
  |some o =>
   obtain⟨n,a⟩:=zP d;cases n with
   |zero=>cases a
   |succ n =>
    have hl:BM (λ_=>eP E) (dK E n):=λj H o h=>⟨0,λ_ _=>Sv h⟩;obtain⟨k,hk⟩:=vm (E:=E) hl (go':=λih=>Pd ih) (λf fn t L todo ds m up H=>.ih hl _ _) j H o a;have h3:sK E (eP E) (Pd (eP E)) j H=some o:=hk k (aaW _)
    grind
theorem HZ(E:dg):∀ n,NB E (eP E) n=eP E
 |0=>rfl
 |n+1=>by funext j H;simp_all[NB,HZ,MO]
theorem KD{E:dg}(i:Tg E):Gg E (eP E):=by
 refine⟨⟨λf args up H out e g d a vs upv hr j=>?_,λo args H out e g d a vs l v hr ho=>?_⟩,λf fn t L todo ds m up H out e b P0 g tv LO dsv mv upv rdv d k q hm j=>?_⟩
 .obtain⟨n,h⟩:=zP e;exact(pV i n).call.c f args up H out h g d a vs upv hr j
 .obtain⟨n,h⟩:=zP e;exact(pV i n).call.r o args H out h g d a vs l v hr ho
 .obtain⟨n,h⟩:=zP e;exact(pV i n).frame f fn t L todo ds m up H out h b P0 g tv LO dsv mv upv rdv d k q hm j
end
end Go.AI
namespace Go.Proofs.YtjbplagjmopllaaGreatDoor.Rd
open Go.AI Go.Proofs Go.ChangeShapes Go.Proofs.YtjbplagjmopllaaGreatDoor
inductive Ck where
 |bool|int|str|sl (t:Nat)
def Pw:List Nat:=[22,40,27,28,29,30,71,45,46,95,37,96,99,102]
def RB(P:Program)(uy:Nat->Option (List Ck)):List Field->Nat->Option (List Ck)
 |[],_=>some []
 |f::r,off=>bif Nat.beq f.offset off then(match uy f.type with
  |some l=>bif Nat.beq l.length (P.cellsOf f.type)then(match RB P uy r (off+l.length)with
   |some m=>some (l++m)
   |none=>none)else none
  |none=>none)else none
def Kh(P:Program):Nat->TypeId->Option (List Ck)
 |0,_=>none
 |n+1,t=>match P.underlying t with
  |some .bool=>some [.bool]
  |some (.int .i64)=>some [.int]
  |some .string=>some [.str]
  |some (.slice _)=>bif Pw.contains t then some [.sl t] else none
  |some (.struct fs)=>RB P (Kh P n) fs.toList 0
  |_=>none
noncomputable abbrev Kg(n:Nat)(t:TypeId):Option (List Ck):=Kh Tryz.prog n t
def uy(t:Nat):List Ck:=match Tryz.prog.underlying t with
 |some (.slice e)=>(Kg 8 e).getD []
 |_=>[]
def okT(t:Nat):Bool:=match Tryz.prog.underlying t with
 |some (.slice e)=>(match Kg 8 e with
  |some l=>Nat.blt 0 l.length&&(Nat.beq (Tryz.prog.cellsOf e) l.length&&((match size Tryz.prog e with
   |some n=>Nat.beq n l.length
   |none=>false)&&Nat.blt 0 (Tryz.prog.bytesOf e)))
  |none=>false)
 |_=>false
theorem PG:(Pw.all λt=>(Nat.blt t 512&&!Nat.beq t 127)&&okT t)=true:=by kernel_rfl
def vd(t i:Nat):Ck:=(uy t).getD (i%(uy t).length) .bool
def bytesOf(s:ByteArray):List Nat:=s.data.toList.map UInt8.toNat
theorem OC(s:ByteArray):aK (bytesOf s)=s:=by
 obtain⟨a⟩:=s;simp only[aK,bytesOf,ako];congr 1;have:(UInt8.ofNat ∘ UInt8.toNat)=id:=by funext x;simp
 simp_all
theorem SG(s:ByteArray):∀ b∈bytesOf s,b<256:=by intro b hb;simp only[bytesOf,aiH]at hb;obtain⟨x,_,rfl⟩:=hb;exact x.toNat_lt
def Jq:Option Nat->Nat
 |none=>0
 |some n=>n+1
theorem JB(o:Option Nat):LK (Jq o)=o:=by cases o<;>rfl
def IP(N t:Nat)(a:Addr)(len cap:Nat):Option V :=
 if cap=0 then(if len=0 then some (.slice ⟨a.block,Jq a.spot,a.off⟩ 0 0 (some 0) 0)else none)
 else if a.spot=none/\len<=cap/\a.block<N/\0<(uy t).length then some (.slice ⟨a.block,a.off*512+t,1+a.off⟩ 0 len (some cap) (uy t).length)else none
def vN(N:Nat):Ck->Value->Option V
 |.bool,.bool b=>some (.bool b)
 |.int,.int .i64 n=>some (.int .i64 n)
 |.str,.string s=>some (.str (bytesOf s))
 |.sl _,.slice none 0 0=>some .nilslice
 |.sl t,.slice (some a) len cap=>IP N t a len cap
 |_,_=>none
def Ro(N:Nat):aJ:=λf _=>if f<N then some ⟨f,1,0⟩else none
theorem Ib{N:Nat}{k:Ck}{v:Value}{x:V}(h:vN N k v=some x):den (Ro N) x=some v:=by
 unfold vN at h;split at h
 .cases h;rfl
 .cases h;rfl
 .cases h;simp only[den,OC]
 .cases h;rfl
 .rename_i t a len cap;unfold IP at h;split at h
  .rename_i hc;split at h
   .rename_i hl;cases h;subst hc;subst hl;simp only[den,ir,ajY,and_self,JB]
   .cases h
  .split at h
   .rename_i hc;obtain⟨d,e,i,j⟩:=hc;cases h;have hr:Ro N a.block (a.off*512+t)=some ⟨a.block,1,0⟩:=by simp[Ro,i]
    have:=dL (ρ:=Ro N) (a:=⟨a.block,a.off*512+t,1+a.off⟩) (z:=0) (len:=len) (cap:=some cap) (sz:=(uy t).length) hr (by simp[bD]) (by simp) (by simpa[cG]using e) j;rw[this];obtain⟨b,o,sp⟩:=a;simp only at d;subst d;simp[bD,cG]
   .cases h
 .cases h
def iJ(N:Nat)(t:Nat->Ck):Nat->List Value->List V
 |_,[]=>[]
 |i,c::r=>match vN N (t i) c with
  |some x=>x::iJ N t (i+1) r
  |none=>[]
theorem BI{N:Nat}{t:Nat->Ck}:∀(i:Nat) (cs:List Value) (j:Nat) (x:V),(iJ N t i cs)[j]? = some x->∃ y,den (Ro N) x=some y/\cs[j]? = some y
 |i,[],j,x,h=>by simp[iJ]at h
 |i,c::r,j,x,h=>by
  simp only[iJ]at h;split at h
  .rename_i x' a;cases j with
   |zero=>simp at h;subst h;exact⟨c,Ib a,rfl⟩
   |succ j=>exact BI (i+1) r j x (by simpa using h)
  .simp at h
def OS(N:Nat):Value->Option V
 |.int k n=>some (.int k n)
 |.nilIface=>some .nilIface
 |.iface te (.pointer (some ⟨b,off,none⟩))=>if b<N then some (.iface te (.ptr ⟨b,0,1+off⟩))else none
 |_=>none
theorem Ss{N:Nat}{v:Value}{x:V}(h:OS N v=some x):den (Ro N) x=some v:=by
 unfold OS at h
 grind [Ro,den,jb]
def kH(N:Nat):List Value->Option (List V)
 |[]=>some []
 |c::r=>match OS N c with
  |some x=>match kH N r with
   |some l=>some (x::l)
   |none=>none
  |none=>none
theorem BK{N:Nat}:∀ {l:List Value} {m:List V},kH N l=some m->m.length=l.length/\∀(i:Nat) (x:V),m[i]? = some x->∃ y,den (Ro N) x=some y/\l[i]? = some y
 |[],m,h=>by cases h;exact⟨rfl,λi x h=>by simp at h⟩
 |c::r,m,h=>by
  simp only[kH]at h;split at h
  .rename_i x d;split at h
   .rename_i l hl;cases h;obtain⟨e,j⟩:=BK hl;refine⟨by simp[e],λi z a=>?_⟩;cases i with
    |zero=>simp at a;subst a;exact⟨c,Ss d,rfl⟩
    |succ i=>simpa using j i z (by simpa using a)
   .cases h
  .cases h
def yw(N:Nat)(c:List Value):List oJ:=match kH N c with
 |some l=>[⟨127,1,l⟩]
 |none=>[]
def rF(N:Nat)(c:List Value):List oJ:=yw N c++(List.range c.length).flatMap λoff=>Pw.map λt=>⟨off*512+t,1+off,iJ N (vd t) 0 (c.drop off)⟩
def DR(N:Nat):Option Obj->dY
 |some (.cells c _ _)=>.ro (rF N c.toList)
 |_=>.ro []
theorem Ao{v:Nat}{u:oJ}:∀ {vers:List oJ},u∈vers->u.v=v->(∀ a∈vers,a.v=v->a=u)->bI vers v=some u
 |[],h,_,_=>by cases h
 |w::r,h,i,e=>by
  simp only[bI];cases hb:Nat.beq w.v v with
  |true=>rw[e w (by simp) (aaO hb)];rfl
  |false =>
   rcases abn.1 h with rfl|h
   .simp_all
   .exact Ao h i λa d=>e a (abi _ d)
theorem Pt{t:Nat}(h:t∈Pw):t<512/\t≠127:=by have:=afx.1 PG t h;simp only[aaV,aiG]at this;refine⟨ajV (abh this.1.1),λe=>?_⟩;simp_all
theorem Pu{t:Nat}(h:t∈Pw):t<512:=(Pt h).1
theorem Lh{N:Nat}{c:List Value}{u:oJ}(h:u∈yw N c):u.v=127/\u.lo=1/\kH N c=some u.cells:=by grind [yw]
theorem Qd{N:Nat}{c:List Value}{u:oJ}(h:u∈(List.range c.length).flatMap λoff=>Pw.map λt=>(⟨off*512+t,1+off,iJ N (vd t) 0 (c.drop off)⟩:oJ)):∃ off t,off<c.length/\t∈Pw/\u=⟨off*512+t,1+off,iJ N (vd t) 0 (c.drop off)⟩:=by grind
theorem Ps{t off:Nat}(h:t∈Pw):off*512+t≠127:=by have:=Pt h;omega
theorem Fo{N:Nat}{c:List Value}{off t:Nat}(h:off<c.length)(i:t∈Pw):bI (rF N c) (off*512+t)=some ⟨off*512+t,1+off,iJ N (vd t) 0 (c.drop off)⟩:=by
 refine Ao (afv _ ?_) rfl ?_
 .simp only[List.mem_flatMap,List.mem_range,aiH]
  grind
 .intro u' a d;rcases aeS.1 a with a|a
  .rw[(Lh a).1]at d;exact absurd d.symm (Ps i)
  .obtain⟨o,t',ho,e,rfl⟩:=Qd a;simp only at d;have h1:=Pu i;have h2:=Pu e
   grind
theorem Cm{N:Nat}{c:List Value}{l:List V}(h:kH N c=some l):bI (rF N c) 127=some ⟨127,1,l⟩:=by
 have:yw N c=[⟨127,1,l⟩]:=by unfold yw;rw[h]
 unfold rF;rw[this];rfl
def Zi(N:Nat)(W:World):Nat->S
 |0=>⟨.leaf,0⟩
 |n+1=>(Zi N W n).alloc (DR N W.heap[n]?)
theorem mi(N:Nat)(W:World):∀ n,(Zi N W n).next=n
 |0=>rfl
 |n+1=>by simp only[Zi,S.next_alloc,mi N W n]
theorem xR(N:Nat)(W:World):∀ n f,(Zi N W n).get f=if f<n then some (DR N W.heap[f]?)else none
 |0,f=>by simp only[Zi,S.get_eq,T.get_leaf];simp
 |n+1,f=>by
  simp only[Zi,S.get_alloc,mi,xR N W n f]
  grind
def cy(W:World):S:=Zi W.heap.size W W.heap.size
theorem yH{W:World}{f:Nat}{B:dY}(h:(cy W).get f=some B):f<W.heap.size/\B=DR W.heap.size W.heap[f]?:=by grind [cy,xR]
theorem SI(N:Nat)(o:Option Obj):∃ vs,DR N o=.ro vs:=by
 unfold DR;split
 .grind
 grind
theorem Ly(W:World):HR (Ro W.heap.size) (cy W) W:=by
 refine⟨?_,?_,?_,?_,?_,?_⟩
 .intro f v d;unfold cy at d;rw[mi]at d;simp[Ro,show ¬ f<W.heap.size by omega]
 .intro f v l f' v' l' e j hb;unfold Ro at e j;split at e
  .split at j
   .cases e;cases j;exact⟨hb,rfl⟩
   .cases j
  .cases e
 .intro f v l e;unfold Ro at e;split at e
  .rename_i d;cases e;exact d
  .cases e
 .intro f B hB;obtain⟨d,rfl⟩:=yH hB;unfold DR;split
  .rename_i c e fz ho;intro u a;have hr:∀ v,Ro W.heap.size f v=some ⟨f,1,0⟩:=λv=>by simp[Ro,d]
   rcases aeS.1 a with a|a
   .obtain⟨o,h,r⟩:=Lh a;obtain⟨s,w⟩:=BK r;refine⟨⟨⟨f,1,0⟩,c,e,fz,hr _,ho,by simp[h],λi x k=>?_⟩,⟨⟨f,1,0⟩,c,e,fz,hr _,rfl,ho,λ_=>⟨h.symm,by rw[s,aiu]⟩⟩⟩;obtain⟨y,z,q⟩:=w i x k;refine⟨y,z,?_⟩;rw[afo]at q;rw[h];simpa using q
   .obtain⟨off,t,hoff,F,rfl⟩:=Qd a;refine⟨⟨⟨f,1,0⟩,c,e,fz,hr _,ho,by simp,λi x k=>?_⟩,⟨⟨f,1,0⟩,c,e,fz,hr _,rfl,ho,λn=>absurd n (Ps F)⟩⟩;obtain⟨y,o,h⟩:=BI 0 _ i x k;refine⟨y,o,?_⟩;rw[ajK,afo]at h;simp only;rw[show 1+off - 1+i=off+i by omega];exact h
  .intro u a;cases a
 .intro f B hB;have:=(yH hB).1;unfold cy;rw[mi];exact this
 .intro f B hB G;obtain⟨_,rfl⟩:=yH hB;obtain⟨vs,n⟩:=SI W.heap.size W.heap[f]?;exact absurd n (G vs)
theorem TM(W:World):WF (cy W):=(Ly W).dom
def jo(N:Nat):List Ck->List Value->List V->Prop
 |[],[],[]=>True
 |k::ks,c::cs,x::xs=>vN N k c=some x/\jo N ks cs xs
 |_,_,_=>False
theorem jo.get{N:Nat}:∀ {ks:List Ck} {cs:List Value} {l:List V},jo N ks cs l->ks.length=l.length/\cs.length=l.length/\∀(j:Nat) (x:V),l[j]? = some x->∃ y,cs[j]? = some y/\vN N (ks.getD j .bool) y=some x
 |[],[],[],_=>⟨rfl,rfl,λj x h=>by simp at h⟩
 |k::ks,c::cs,x::xs,h=>by
  obtain⟨d,e,i⟩:=jo.get h.2;refine⟨by simp[d],by simp[e],λj z a=>?_⟩;cases j with
  |zero=>simp at a;subst a;exact⟨c,rfl,h.1⟩
  |succ j=>simpa using i j z (by simpa using a)
 |[],[],_::_,h=>h.elim
 |[],_::_,_,h=>h.elim
 |_::_,[],_,h=>h.elim
 |_::_,_::_,[],h=>h.elim
theorem jo.den{N:Nat}:∀ {ks:List Ck} {cs:List Value} {l:List V},jo N ks cs l->bg (Ro N) l=some cs
 |[],[],[],_=>rfl
 |k::ks,c::cs,x::xs,h=>by simp only[bg,Ib h.1,jo.den h.2]
 |[],[],_::_,h=>h.elim
 |[],_::_,_,h=>h.elim
 |_::_,[],_,h=>h.elim
 |_::_,_::_,[],h=>h.elim
theorem Ta{N:Nat}{k:Ck}{v:Value}{x:V}(h:vN N k v=some x):x.one=true:=by
 unfold vN at h;split at h
 .cases h;rfl
 .cases h;rfl
 .cases h;rfl
 .cases h;rfl
 .unfold IP at h
  (repeat' split at h)<;>first|(cases h;done)|(cases h;rfl)
 .cases h
theorem jo.one{N:Nat}:∀ {ks:List Ck} {cs:List Value} {l:List V},jo N ks cs l->l.all V.one=true
 |[],[],[],_=>rfl
 |k::ks,c::cs,x::xs,h=>by simp only[akc,Ta h.1,jo.one h.2,afX]
 |[],[],_::_,h=>h.elim
 |[],_::_,_,h=>h.elim
 |_::_,[],_,h=>h.elim
 |_::_,_::_,[],h=>h.elim
theorem Br{α:Type}{Q:Nat->α->Prop}:∀(n:Nat),(∀ k,k<n->∃ z,Q k z)->∃ xs:List α,xs.length=n/\∀ k z,xs[k]? = some z->Q k z
 |0,_=>⟨[],rfl,λk z h=>by simp at h⟩
 |n+1,h=>by
  obtain⟨xs,a,h2⟩:=Br n λk hk=>h k (by omega);obtain⟨z,hz⟩:=h n (by omega);refine⟨xs++[z],by simp[a],λk y hy=>?_⟩
  grind
section
variable{H:Type}{enc:TypeId×Value->H}{W:World}{fuel:Nat}{t:TypeId}{cs:List Value}{x:DataW H×List MemPlace}
noncomputable abbrev Td(enc:TypeId×Value->H)(W:World)(fuel:Nat)(t:TypeId)(cs:List Value):Option (DataW H×List MemPlace):=DataW.trod enc Tryz.prog W 0 (λ_=>true) true fuel t cs
def Wt(t:TypeId)(d:DataW H):Prop:=∀ n∈DataW.weights Tryz.prog t d,n<=reachBytes
theorem oN{e:TypeId}:∀ {ds:List (DataW H)} {d:DataW H},d∈ds->∀ n∈DataW.weights Tryz.prog e d,n∈DataW.weightsAll Tryz.prog e ds
 |[],_,h,_,_=>by cases h
 |x::r,d,h,n,a=>by
  rw[DataW.weightsAll];rcases abn.1 h with rfl|h
  .grind
  .exact afv _ (oN h n a)
theorem jS:∀ {ts:List TypeId} {ds:List (DataW H)} {i:Nat} {t:TypeId} {d:DataW H},ts[i]? = some t->ds[i]? = some d->∀ n∈DataW.weights Tryz.prog t d,n∈DataW.weightsEach Tryz.prog ts ds
 |[],_,i,_,_,h,_,_,_=>by simp at h
 |_::_,[],i,_,_,_,h,_,_=>by simp at h
 |t::ts,d::ds,0,_,_,h,k,n,a=>by
  simp at h k;subst h;subst k;rw[DataW.weightsEach]
  grind
 |t::ts,d::ds,i+1,_,_,h,k,n,a=>by rw[DataW.weightsEach];exact afv _ (jS (ts:=ts) (ds:=ds) (i:=i) (by simpa using h) (by simpa using k) n a)
theorem DX{N:Nat}{t:Nat->Ck}:∀(m i:Nat) (cs:List Value),(∀ j,j<m->∃ y x,cs[j]? = some y/\vN N (t (i+j)) y=some x) ->
 ∀ j,j<m->∀ y x,cs[j]? = some y->vN N (t (i+j)) y=some x->(iJ N t i cs)[j]? = some x
 |0,i,cs,_,j,a,_,_,_,_=>by omega
 |m+1,i,[],h,j,a,_,_,e,_=>by simp at e
 |m+1,i,c::cs,h,j,a,y,x,e,k=>by
  obtain⟨y0,x0,d,n⟩:=h 0 (by omega);simp at d;subst d;simp only[aiM]at n;simp only[iJ,n];cases j with
  |zero =>grind
  |succ j =>
   have ih:=DX m (i+1) cs (λj a=>by obtain⟨y,x,o,q⟩:=h (j+1) (by omega);exact⟨y,x,by simpa using o,by rw[show i+1+j=i+(j+1)by omega];exact q⟩) j (by omega) y x (by simpa using e) (by rw[show i+1+j=i+(j+1)by omega];exact k)
   simpa using ih
theorem It{w:World}{a:Addr}{v:Value}(h:w.cell? a=some v):∃ c e fz,w.heap[a.block]? = some (.cells c e fz)/\a.spot=none/\c[a.off]? = some v:=by
 unfold World.cell? at h;split at h
 .simp_all
 .cases h
theorem oR:∀(l:List V) (n:Nat),n<=l.length->bj n l=some (l.take n)
 |l,0,_=>by cases l<;>rfl
 |[],n+1,h=>by simp at h
 |x::r,n+1,h=>by simp only[bj,oR r n (by simpa using h),Option.map,aiL]
end
theorem jo.app{N:Nat}:∀ {ks:List Ck} {cs:List Value} {l:List V} {ks':List Ck} {cs':List Value} {l':List V},jo N ks cs l->jo N ks' cs' l'->jo N (ks++ks') (cs++cs') (l++l')
 |[],[],[],_,_,_,_,h=>h
 |k::ks,c::cs,x::xs,_,_,_,h,a=>⟨h.1,jo.app h.2 a⟩
 |[],[],_::_,_,_,_,h,_=>h.elim
 |[],_::_,_,_,_,_,h,_=>h.elim
 |_::_,[],_,_,_,_,h,_=>h.elim
 |_::_,_::_,[],_,_,_,h,_=>h.elim
mutual
def Iq:D->Nat
 |.row _ l=>gA l+1
 |_=>1
def fA:List D->Nat
 |[]=>0
 |d::r=>Iq d+fA r
def gA:List (List D)->Nat
 |[]=>0
 |c::r=>fA c+gA r
end
theorem Ip:∀(a b:List D),fA (a++b)=fA a+fA b
 |[],b=>by simp[fA]
 |d::r,b=>by simp only[agp,fA,Ip r b];omega
theorem zo{H:Type}(d:DataW H):1<=Rows.uptoBulk d:=by
 cases d with
 |lit l=>cases l<;>simp[Rows.uptoBulk]
 |nil=>simp[Rows.uptoBulk]
 |ptr d=>simp[Rows.uptoBulk]
 |slice elems spare=>simp[Rows.uptoBulk]
 |agg parts=>simp[Rows.uptoBulk]
 |iface t d=>simp[Rows.uptoBulk]
 |map entries=>simp[Rows.uptoBulk]
 |held h=>simp[Rows.uptoBulk]
theorem Io{H:Type}:∀(l:List (List D)) (ds:List (DataW H)),l.length=ds.length->(∀(i:Nat) a d,l[i]? = some a->ds[i]? = some d->fA a<=Rows.uptoBulk d)->gA l<=Rows.uptoBulkAll ds
 |[],ds,_,_=>by simp[gA]
 |a::l,[],h,_=>by simp at h
 |a::l,d::ds,h,k=>by have h1:=k 0 a d rfl rfl;have h2:=Io l ds (by simpa using h) λi a d e j=>k (i+1) a d (by simpa using e) (by simpa using j);simp only[gA,Rows.uptoBulkAll];omega
inductive xz:Ck->D->Prop
 |bool (b:Bool):xz .bool (.bool b)
 |int (n:Int):xz .int (.int .i64 n)
 |str (l:List Nat):xz .str (.str l)
 |row (t:Nat) (ly:List Ck) (l:List (List D)):uy t=ly->l.length<2^50->(∀ cs∈l,cs.length=ly.length)->(∀ cs∈l,∀(i:Nat) k d,ly[i]? = some k->cs[i]? = some d->xz k d)->xz (.sl t) (.row ly.length l)
def Gj(ks:List Ck)(ds:List D):Prop:=ds.length=ks.length/\∀(i:Nat) k d,ks[i]? = some k->ds[i]? = some d->xz k d
theorem Gj.nil:Gj [] []:=⟨rfl,λi k d h=>by simp at h⟩
theorem Gj.one{k:Ck}{d:D}(h:xz k d):Gj [k] [d]:=⟨rfl,λi k' d' a e=>by
 cases i with
 |zero=>simp at a e;subst a;subst e;exact h
 |succ i=>simp at a⟩
theorem Gj.app{ks ks':List Ck}{ds ds':List D}(h:Gj ks ds)(j:Gj ks' ds'):Gj (ks++ks') (ds++ds'):=by
 refine⟨by simp[h.1,j.1],λi k d a e=>?_⟩;by_cases hi:i<ks.length
 .rw[abo hi]at a;rw[abo (by rw[h.1];exact hi)]at e;exact h.2 i k d a e
 .rw[aiN (by omega)]at a;rw[aiN (by rw[h.1];omega),h.1]at e;exact j.2 _ k d a e
def g0(W:World):Gh:=⟨[],[],[],cy W⟩
theorem ZG{W:World}{f:Nat}(h:f<W.heap.size):(g0 W).Imm f:=by
 refine⟨?_,?_,λo v h=>?_⟩
 .show f<(cy W).next
  grind [cy,mi]
 .show f∉([]:List Nat);simp
 .have h:([]:List (Option (Nat×Nat)))[o]? = some (some (f,v)):=h;simp at h
section
variable{H:Type}{enc:TypeId×Value->H}{W:World}
def Rd(W:World)(ks:List Ck)(cs:List Value)(b:Nat):Prop:=∃(vs:List V) (ds:List D),jo W.heap.size ks cs vs/\RL (g0 W) ds vs/\Gj ks ds/\fA ds<=b
theorem RL.one{g:Gh}{d:D}{v:V}(h:RD g d v):RL g [d] [v]:=by grind [RL]
theorem Ub{ty e:Nat}{ly:List Ck}{kd:Nat->Ck}(w:uy ty=ly)(hkd:∀ i,kd i=ly.getD (i%ly.length) .bool)(hfv:∀ {N:Nat} {c:List Value} {off:Nat},off<c.length->bI (rF N c) (off*512+ty)=some ⟨off*512+ty,1+off,iJ N kd 0 (c.drop off)⟩)(hu:Tryz.prog.underlying ty=some (.slice e))(hc:Tryz.prog.cellsOf e=ly.length)
 (h0:0<ly.length) (hb:0<Tryz.prog.bytesOf e) {fuel:Nat} {cs:List Value} {x:DataW H×List MemPlace} (h:Td enc W fuel ty cs=some x) (hw:Wt ty x.1)
 (hel:∀ n cells y,fuel=n+1->Td enc W n e cells=some y->Wt e y.1->Rd W ly cells (Rows.uptoBulk y.1)):Rd W [.sl ty] cs (Rows.uptoBulk x.1):=by
 rcases DataW.trod_slice hu h with⟨rfl,_⟩|⟨a,len,cap,elems,rest,n,hn,rfl,hx,_,U,_,X,F,hsp,_⟩
 .exact⟨[.nilslice],[.row ly.length []],⟨rfl,trivial⟩,RL.one (by rw[RD];exact .inl ⟨rfl,rfl⟩),.one (.row ty ly [] w (by simp) (λ_ h=>by cases h) (λ_ h=>by cases h)),by simpa[fA,Iq,gA]using zo x.1⟩
 .subst hn;by_cases G:cap=0
  .obtain rfl:len=0:=by omega
   subst G;exact⟨[.slice ⟨a.block,Jq a.spot,a.off⟩ 0 0 (some 0) 0],[.row ly.length []],⟨by simp only[vN,IP,ajY,and_self],trivial⟩,RL.one (by rw[RD];exact .inr (.inl ⟨rfl,_,_,_,rfl⟩)),.one (.row ty ly [] w (by simp) (λ_ h=>by cases h) (λ_ h=>by cases h)),by simpa[fA,Iq,gA]using zo x.1⟩
  .obtain⟨hrl,hre⟩:=hsp rfl;have hwe:∀ y,y∈elems->Wt e y.1:=λy hy m hm=>by refine hw m ?_;rw[hx];simp only[DataW.weights,hu];exact abi _ (aim _ (oN (List.mem_map_of_mem hy) m hm))
   have hbn:len*Tryz.prog.bytesOf e<=reachBytes:=by
    have:=hw ((elems.length+rest.length)*Tryz.prog.bytesOf e) (by rw[hx];simp only[DataW.weights,hu,abe];exact aeq)
    grind
   have hfirst:∃ cells,W.cells? 0 (a.add 0) ly.length=some cells:=by
    by_cases r:0<len
    .have:=F 0 r;rw[ajM,hc,abg (by omega)]at this;obtain⟨cells,o,_⟩:=aji.1 this
     grind
    .have:=hre 0 (by omega);rw[show(len+0)*Tryz.prog.cellsOf e=0 by rw[show len=0 by omega];simp,hc,abg (by omega)]at this;obtain⟨cells,o,_⟩:=aji.1 this
     grind
   obtain⟨c0,hc0⟩:=hfirst;obtain⟨_,hc1,hc2⟩:=World.cells?_some hc0;have hcell:=hc2 0 h0;rw[abg (by omega)]at hcell;simp only[Addr.add,ajY]at hcell;obtain⟨carr,e',fz,hheap,hspot,hcell⟩:=It hcell;obtain⟨b,off,spot⟩:=a;simp only at hspot hheap hcell;subst hspot;have s:b<W.heap.size:=by grind
   have Y:off<carr.size:=(ajA.1 hcell).1
   obtain⟨zs,u,Z⟩:=Br (Q:=λk (z:List D×List V)=>∃ cells,W.cells? 0 ((⟨b,off,none⟩:Addr).add (k*ly.length)) ly.length=some cells/\jo W.heap.size ly cells z.2/\RL (g0 W) z.1 z.2/\Gj ly z.1/\∀ y,elems[k]? = some y->fA z.1<=Rows.uptoBulk y.1) len (λk hk=>by have:=F k hk;rw[hc,abg (by omega)]at this;obtain⟨cells,o,v⟩:=aji.1 this;obtain⟨l,z,q,h5,h6,h7⟩:=hel n cells _ rfl v (hwe _ (ajx _));exact⟨(z,l),cells,o,q,h5,h6,λy hy=>by rw[abg (by omega)]at hy;cases hy;exact h7⟩)
   have hcellat:∀ k,k<len->∀ cells,W.cells? 0 ((⟨b,off,none⟩:Addr).add (k*ly.length)) ly.length=some cells->∀ i,i<ly.length->carr.toList[off+(k*ly.length+i)]? = cells[i]?:=λk hk cells hcl i hi=>by
    obtain⟨_,r,o⟩:=World.cells?_some hcl;have v:=o i hi;have q:((⟨b,off,none⟩:Addr).add (k*ly.length)).add i=⟨b,off+(k*ly.length+i),none⟩:=by
     simp only[Addr.add];by_cases hk0:k*ly.length=0
     .simp_all
     .by_cases hi0:i=0
      .simp_all
      .simp[hk0,hi0];omega
    rw[q]at v;simp only[World.cell?,hheap]at v
    grind
   have I:∀ k,k<len->∀ cells l,W.cells? 0 ((⟨b,off,none⟩:Addr).add (k*ly.length)) ly.length=some cells->jo W.heap.size ly cells l->∀ i,i<ly.length->∃ y x,(carr.toList.drop off)[k*ly.length+i]? = some y/\l[i]? = some x/\vN W.heap.size (kd (0+(k*ly.length+i))) y=some x:=λk hk cells l hcl hab i hi=>by
    obtain⟨r,o,v⟩:=jo.get hab;have hi':i<l.length:=by omega
    obtain⟨y,hy1,hy2⟩:=v i l[i] (abg hi');refine⟨y,l[i],?_,abg hi',?_⟩
    .grind
    .rw[hkd,adO,Nat.add_comm,Nat.add_mul_mod_self_right,Nat.mod_eq_of_lt hi];exact hy2
   have hall:∀ j,j<len*ly.length->∃ y x,(carr.toList.drop off)[j]? = some y/\vN W.heap.size (kd (0+j)) y=some x:=λj hj=>by
    have hk:j / ly.length<len:=Nat.div_lt_of_lt_mul (by rw[Nat.mul_comm];exact hj);obtain⟨cells,r,o,_⟩:=Z (j / ly.length) _ (abg (by omega));obtain⟨y,x,v,_,q⟩:=I _ hk cells _ r o (j%ly.length) (Nat.mod_lt _ h0)
    grind [Nat.div_add_mod]
   have hn50:len<2^50:=by have:len<=reachBytes:=acd (Nat.le_mul_of_pos_right _ hb) hbn;unfold reachBytes at this;omega
   refine⟨[.slice ⟨b,off*512+ty,1+off⟩ 0 len (some cap) ly.length],[.row ly.length (zs.map (·.1))],⟨by simp only[vN,IP];rw[afp G,w,agC ⟨trivial,U,s,h0⟩],trivial⟩,RL.one ?_,.one (.row ty ly _ w (by simp[u,hn50]) ?_ ?_),?_⟩
   .rw[RD];refine .inr (.inr ⟨⟨b,off*512+ty,1+off⟩,0,some cap,by simp[u],h0,.inl rfl,λc hc=>by cases hc;simp[u,U],λ_=>ZG s,RR.of λk l0 hk=>?_⟩);rw[afd]at hk;obtain⟨z,hkz,hz0⟩:∃ z,zs[k]? = some z/\z.1=l0:=by simp_all
    have hkl:k<len:=by rw[<- u];exact(abj.1 hkz).1
    obtain⟨cells,r,o,v,q,_⟩:=Z k z hkz;obtain⟨_,l⟩:=z;simp only at hz0 o v q;subst hz0;refine⟨l,q.1,?_,v,o.one⟩;have hg:(cy W).get b=some (.ro (rF W.heap.size carr.toList)):=by unfold cy;rw[xR,agC s,hheap];rfl
    show Go.AI.loadCells (cy W) (cq ⟨b,off*512+ty,1+off⟩ (k*ly.length)) ly.length=some l;simp only[Go.AI.loadCells,cq,hg,hfv (N:=W.heap.size) (c:=carr.toList) (off:=off) (by simpa using Y)];rw[abk (show 1+off<=1+off+k*ly.length by omega),ge,show 1+off+k*ly.length - (1+off)=k*ly.length by omega];obtain⟨k1,k2,k3⟩:=jo.get o;have J:∀ i,i<ly.length->((iJ W.heap.size kd 0 (carr.toList.drop off)).drop (k*ly.length))[i]? = l[i]?:=λi hi=>by
     obtain⟨y,x,q,h5,h6⟩:=I k hkl cells l r o i hi;rw[ajK,h5];refine DX (len*ly.length) 0 _ hall _ ?_ y x q h6
     calc k*ly.length+i<k*ly.length+ly.length:=by omega
      _=(k+1)*ly.length:=by rw[Nat.succ_mul]
      _<=len*ly.length:=ajs _ hkl
    have hlen2:ly.length<=((iJ W.heap.size kd 0 (carr.toList.drop off)).drop (k*ly.length)).length:=by
     have:=J (ly.length - 1) (by omega)
     grind
    rw[oR _ _ hlen2];refine aib some ?_;refine ajl λi=>?_;by_cases hi:i<ly.length
    .rw[aiI hi,J i hi]
    .rw[aiT (by rw[agm];omega),aiT (by omega)]
   .intro cs M;obtain⟨z,O,rfl⟩:=aiH.1 M;obtain⟨k,hk,rfl⟩:=List.mem_iff_getElem.1 O;obtain⟨_,_,_,_,q,_⟩:=Z k _ (abg hk);exact q.1
   .intro cs M;obtain⟨z,O,rfl⟩:=aiH.1 M;obtain⟨k,hk,rfl⟩:=List.mem_iff_getElem.1 O;obtain⟨_,_,_,_,q,_⟩:=Z k _ (abg hk);exact q.2
   .have:=Io (zs.map (·.1)) (elems.map (·.1)) (by simp[u,X]) λi a d e1 e2=>by
     rw[afd]at e1 e2;cases r:zs[i]? with
     |none=>rw[r]at e1;cases e1
     |some z =>
      cases o:elems[i]? with
      |none=>rw[o]at e2;cases e2
      |some y =>rw[r]at e1;rw[o]at e2;cases e1;cases e2;obtain⟨_,_,_,_,_,h5⟩:=Z i z r;exact h5 y o
    rw[hx];simp only[fA,Iq,Rows.uptoBulk];omega
theorem LJ{m:Nat}{P:TypeId->List Value->DataW H->Prop}{cs:List Value}(e:∀ t ks c y,Kg m t=some ks->Tryz.prog.cellsOf t=ks.length->P t c y->Rd W ks c (Rows.uptoBulk y)):∀(fs:List Field) (ys:List (DataW H)) (off:Nat) (ks:List Ck),RB Tryz.prog (Kh Tryz.prog m) fs off=some ks->fs.length=ys.length ->
 (∀(i:Nat) f y,fs[i]? = some f->ys[i]? = some y->P f.type ((cs.drop f.offset).take (Tryz.prog.cellsOf f.type)) y)->Rd W ks ((cs.drop off).take ks.length) (Rows.uptoBulkAll ys)
 |[],ys,off,ks,h,_,_=>by simp only[RB,abf]at h;subst h;exact⟨[],[],by simp[jo],by simp only[RL],.nil,by simp[fA]⟩
 |f::r,[],off,ks,_,hl,_=>by simp at hl
 |f::r,y::ys,off,ks,h,a,j=>by
  simp only[RB]at h;cases ho:Nat.beq f.offset off with
  |false=>rw[ho,SE]at h;cases h
  |true =>
   rw[ho,ge]at h;have ho:=aaO ho;split at h
   .rename_i l hl;cases hc:Nat.beq l.length (Tryz.prog.cellsOf f.type)with
    |false=>rw[hc,SE]at h;cases h
    |true =>
     rw[hc,ge]at h;have hc:=aaO hc;split at h
     .rename_i d hm;cases h;obtain⟨k,n,o,q,s,a4⟩:=e f.type l _ y hl hc.symm (j 0 f y rfl rfl);obtain⟨u,v,w,F,G,b4⟩:=LJ e r ys (off+l.length) d hm (by simpa using a) λi g z I J=>j (i+1) g z (by simpa using I) (by simpa using J);refine⟨k++u,n++v,?_,RL.append q F,s.app G,by rw[Ip];simp only[Rows.uptoBulkAll];omega⟩;have:(cs.drop off).take (l++d).length=(cs.drop f.offset).take (Tryz.prog.cellsOf f.type)++(cs.drop (off+l.length)).take d.length:=by rw[ho,<- hc,aaY,<- akr,<- List.take_add]
      rw[this];exact o.app w
     .cases h
   .cases h
theorem YG:∀(N m:Nat) {fuel:Nat} {t:TypeId} {cs:List Value} {ks:List Ck} {x:DataW H×List MemPlace},fuel<=N->Kg m t=some ks->Tryz.prog.cellsOf t=ks.length->Td enc W fuel t cs=some x->Wt t x.1->Rd W ks cs (Rows.uptoBulk x.1):=by
 intro N;induction N with
 |zero =>
  intro m fuel t cs ks x Y _ _ h _;obtain rfl:fuel=0:=by omega
  simp[Td,DataW.trod]at h
 |succ N ih =>
  intro m fuel t cs ks x Y hk hcl h M;cases m with
  |zero=>change Kh Tryz.prog 0 t=_ at hk;rw[Kh]at hk;cases hk
  |succ m =>
   change Kh Tryz.prog (m+1) t=_ at hk;rw[Kh]at hk;split at hk
   .rename_i j;cases hk;obtain⟨b,rfl,_⟩:=DataW.trod_bool j h;exact⟨[.bool b],[.bool b],⟨rfl,trivial⟩,RL.one (by simp only[RD]),.one (.bool b),by simpa[fA,Iq]using zo x.1⟩
   .rename_i j;cases hk;obtain⟨n,rfl,_⟩:=DataW.trod_int j h;exact⟨[.int .i64 n],[.int .i64 n],⟨rfl,trivial⟩,RL.one (by simp only[RD]),.one (.int n),by simpa[fA,Iq]using zo x.1⟩
   .rename_i j;cases hk;obtain⟨s,rfl,_⟩:=DataW.trod_string j h;exact⟨[.str (bytesOf s)],[.str (bytesOf s)],⟨rfl,trivial⟩,RL.one (by simp only[RD];exact⟨trivial,SG s⟩),.one (.str _),by simpa[fA,Iq]using zo x.1⟩
   .rename_i e j;cases hc:Pw.contains t with
    |false=>rw[hc,SE]at hk;cases hk
    |true =>
     rw[hc,ge]at hk;cases hk;have o:t∈Pw:=by simpa using hc
     have a:=afx.1 PG t o;simp only[aaV]at a;have a:=a.2;unfold okT at a;rw[j]at a;simp only at a;have k:uy t=(Kg 8 e).getD []:=by unfold uy;rw[j]
     split at a
     .rename_i l O;rw[O]at k;have k:uy t=l:=k;simp only[aaV]at a;obtain⟨w,u,k3,F⟩:=a;have w:0<l.length:=ajV (abh w);have u:=aaO u;have F:0<Tryz.prog.bytesOf e:=ajV (abh F);exact Ub (kd:=vd t) k (λi=>by unfold vd;rw[k]) (λh=>Fo h o) j u w F h M λn cells y Q hy G=>ih 8 (by omega) O u hy G
     .cases a
   .rename_i fs j;obtain⟨xs,n,hn,U,hl,I,Q⟩:=DataW.trod_struct j h
    have hr:=LJ (W:=W) (m:=m) (cs:=cs) (P:=λt c y=>∃ z,Td enc W n t c=some z/\z.1=y/\Wt t z.1) (λt ks c y J h0 ⟨z,Z,h2,h3⟩=>by rw[<- h2];exact ih m (by omega) J h0 Z h3) fs.toList (xs.map (·.1)) 0 ks hk (by simp[I]) (λi f y e1 r=>by
     have X:fs[i]? = some f:=by rw[<- afo];exact e1
     rw[afd]at r;cases v:xs[i]? with
     |none=>rw[v]at r;cases r
     |some z =>
      rw[v]at r;cases r;refine⟨z,(Q i f X).trans v,rfl,λq hq=>M q ?_⟩;rw[U];simp only[DataW.weights,j];refine jS (i:=i) (t:=f.type) (d:=z.1) ?_ ?_ q hq
      .rw[afd,afo,X];rfl
      .rw[afd,v];rfl)
    rw[ajt,aiR (by omega)]at hr;obtain⟨vs,ds,r1,r2,r3,r4⟩:=hr;exact⟨vs,ds,r1,r2,r3,by rw[U];simp only[Rows.uptoBulk];omega⟩
   .cases hk
end
end Go.Proofs.YtjbplagjmopllaaGreatDoor.Rd
namespace Go.AI
theorem FG(E:dg)(n:Nat):NB E (eP E) n=eP E:=@HZ ⟨λ_=>True,[],λ_ _ _ h=>h⟩ E n
theorem KE(E:dg)(j:CA)(H:DH):eP E j H=sK E (eP E) (Pd (eP E)) j H:=@MO ⟨λ_=>True,[],λ_ _ _ h=>h⟩ E j H
def wh(key:Nat):Code->List Item->Option (List Item)
 |.seq a b,k=>Ci key (.code (.seq a b)::k) (match wh key a (.code b::k)with
  |some l=>some l
  |none=>wh key b k)
 |.cond c a b,k=>Ci key (.code (.cond c a b)::k) (match wh key a k with
  |some l=>some l
  |none=>wh key b k)
 |.block id c,k=>Ci key (.code (.block id c)::k) (wh key c (.inBlock id::k))
 |.loop c,k=>Ci key (.code (.loop c)::k) (wh key c (.inLoop c::k))
 |.scope c,k=>Ci key (.code (.scope c)::k) (wh key c (.inScope c::k))
 |c,k=>Ci key (.code c::k) none
 where Ci (key:Nat) (l:List Item) (r:Option (List Item)):Option (List Item):=match Xm l with
  |some i=>bif Nat.beq i key then some l else r
  |none=>r
def jmp(E:dg)(R:aM)(f key:Nat)(xs:List LD)(L:LS)(H:DH):ai:=match E.E.P.funcs[f]? with
 |some fn=>match fn.body with
  |some c=>match wh key c []with
   |some todo=>match XD (E.ann f) todo with
    |some (live,_)=>R (.frame f fn (Xe live xs .leaf) L todo [] .run none) H
    |none=>none
   |none=>none
  |none=>none
 |none=>none
def Vb(E:dg)(R:aM)(n f key:Nat)(xs:List LD)(L:LS)(H:DH):ai:=jmp E (NB E R n) f key xs L H
theorem UZ(E:dg)(n f key:Nat)(xs:List LD)(L:LS)(H:DH):Vb E (eP E) n f key xs L H=jmp E (eP E) f key xs L H:=by rw[Vb,FG]
def C(R:aM)(f:FuncId)(args:List D)(H:DH)(k:D->DH->ai):ai:=aU (R (.call f args none) H) k λc H=>some ⟨.pan c,none,H⟩
def tP:Code->Option (Array Tmp×Code×Code)
 |.rangeFunc _ ps a b=>some (ps,a,b)
 |.seq a b=>(tP a).or (tP b)
 |.cond _ a b=>(tP a).or (tP b)
 |.block _ c=>tP c
 |.loop c=>tP c
 |.scope c=>tP c
 |_=>none
def Zo(E:dg)(f:FuncId)(is:List Nat)(xs:List LD):DB:=match E.E.P.funcs[f]? with
 |some fn=>match fn.body with
  |some c=>match tP c with
   |some (ps,a,b)=>.loop true f fn.ntmps (Xe is xs .leaf) ps a b
   |none=>.dead
  |none=>.dead
 |none=>.dead
def rnd(E:dg)(R:aM)(f o:Nat)(is:List Nat)(xs:List LD)(args:List D)(H:DH):ai:=match E.E.P.funcs[f]? with
 |some fn=>match fn.body with
  |some c=>match tP c with
   |some (ps,a,b)=>R (.frame f fn (np (Xe is xs .leaf) ps.toList args id) [] [.code a,.beginRound,.code b] [] .run (some (.round o))) H
   |none=>none
  |none=>none
 |none=>none
def YD(E:dg)(R:aM)(n f o:Nat)(is:List Nat)(xs:List LD)(args:List D)(H:DH):ai:=rnd E (NB E R n) f o is xs args H
def jC(E:dI)(f:D)(κ:FuncId->List D->List D->ai):ai:=match f with
 |.func g a b=>bif aQ E g then κ g a b else none
 |_=>none
abbrev ret(d:D)(H:DH):ai:=some ⟨.ret d,none,H⟩
abbrev pan(d:D)(H:DH):ai:=some ⟨.pan [⟨d,false⟩],none,H⟩
end Go.AI
noncomputable section
namespace Go.AI
def gn(s:S)(g:Nat):Option (List V):=match s.get g with
 |some (.ro vers)=>match bI vers 127 with
  |some u=>some u.cells
  |none=>none
 |_=>none
end Go.AI
namespace Go.Proofs.YtjbplagjmopllaaGreatDoor
open Go.AI
def VF(n:Int):ByteArray:=⟨(Lib.replace (Lib.itoa n) [45] [126] 1).toArray⟩
def BZ(s:ByteArray):ByteArray:=⟨(Lib.replace s.data.toList [126] [45] 1).toArray⟩
def rP(s:ByteArray):Int×Int:=match Lib.atoiAll (BZ s).data.toList with
 |.ok v=>bif (VF v).toList==s.toList then(v,0)else(0,13)
 |_=>(0,13)
def yc:List V->Bool
 |[.nilIface]=>true
 |[.iface _ _]=>true
 |_=>false
def MA:List V->Bool
 |[.int .i64 _]=>true
 |_=>false
def GU:List V:=Lib.pow10Tab.map λz=>.int .u64 z
structure vS(s:S):Prop where
 mx:∃ c,gn s 0=some c/\MA c=true
 syn:∃ c,gn s 1=some c/\yc c=true
 rng:∃ c,gn s 2=some c/\yc c=true
 pow:gn s 5=some GU
open Classical in
def zz(args:List V)(s:S):Option (V×S):=match args with
 |[.str l]=>if vS s/\l.length<=1000 then some (.tuple [.int .i64 (rP (aK l)).1,.int .i64 (rP (aK l)).2],s)else none
 |_=>none
def xj:List Nat->Nat->Int->Int
 |[],_,_=>-1
 |x::r,c,n=>bif Nat.beq x c then n else xj r c (n+1)
def Ac(args:List V)(s:S):Option (V×S):=match args with
 |[.str l,.int .u8 (.ofNat c)]=>bif Nat.blt c 256&&l.all (λx=>Nat.blt x 256)then some (.int .i64 (xj l c 0),s)else none
 |_=>none
def aas(f:FuncId)(args:List D)(H:DH):Option (D×DH) :=
 bif Nat.beq f 242 then(match args with
  |[.str l,.int .u8 (.ofNat c)]=>bif Nat.blt c 256&&Nat.ble l.length 1000 then some (.int .i64 (xj l c 0),H)else none
  |_=>none)
 else bif Nat.beq f 249 then(match args with
  |[.str l]=>bif Nat.ble l.length 1000 then some (.tuple [.int .i64 (rP (aK l)).1,.int .i64 (rP (aK l)).2],H)else none
  |_=>none)
 else bif Nat.beq f 6 then(match args with
  |[]=>some (.bool true,H)
  |_=>none)
 else none
def dvo(f:FuncId):Bool:=Nat.beq f 249||(Nat.beq f 6||Nat.beq f 242)
def vq(f:FuncId)(args:List V)(s:S):Option (V×S) :=
 bif Nat.beq f 242 then Ac args s else bif Nat.beq f 249 then zz args s else bif Nat.beq f 6 then(match args with
  |[]=>some (.bool true,s)
  |_=>none)else none
noncomputable def bV:dI:={ P:=Tryz.prog,ext:=λf=>bif Nat.beq f 257 then some .indexByte else bif Nat.beq f 274 then some .count else none,orc:=vq }
end Go.Proofs.YtjbplagjmopllaaGreatDoor
namespace Go.Proofs.YtjbplagjmopllaaGreatDoor.Rd
section
open Go.AI Go.Proofs Go.Proofs.YtjbplagjmopllaaGreatDoor
theorem sD{W:World}{g:Nat}{c:Array Value}{e:TypeId}{fz:Nat×Nat}{l:List V}(h:W.heap[g]? = some (.cells c e fz))(ha:kH W.heap.size c.toList=some l):gn (cy W) g=some l:=by
 have a:g<W.heap.size:=(ajA.1 h).1;have hst:(cy W).get g=some (.ro (rF W.heap.size c.toList)):=by unfold cy;rw[xR,agC a,h];rfl
 simp_all[gn,Cm]
theorem BJ{N:Nat}:∀(l:List Int),kH N (l.map λz=>Value.int .u64 z)=some (l.map λz=>V.int .u64 z)
 |[]=>rfl
 |x::r=>by simp only[acg,kH,OS,BJ r]
structure Ny(W:World):Prop where
 mx:∃ m e fz,W.heap[0]? = some (.cells #[.int .i64 m] e fz)
 syn:∃ te b off e fz,W.heap[1]? = some (.cells #[.iface te (.pointer (some ⟨b,off,none⟩))] e fz)/\b<W.heap.size
 rng:∃ te b off e fz,W.heap[2]? = some (.cells #[.iface te (.pointer (some ⟨b,off,none⟩))] e fz)/\b<W.heap.size
 pow:∃ c e fz,W.heap[5]? = some (.cells c e fz)/\c.toList=Lib.pow10Tab.map λz=>Value.int .u64 z
theorem Od{W:World}(h:Ny W):vS (cy W):=by obtain⟨⟨m,e1,f1,a⟩,⟨d,e,i,e2,f2,j,k⟩,⟨n,o,q,e3,f3,r,s⟩,⟨c,e4,f4,u,v⟩⟩:=h;refine⟨⟨[.int .i64 m],sD a rfl,rfl⟩,⟨[.iface d (.ptr ⟨e,0,1+i⟩)],sD j (by simp[kH,OS,k]),rfl⟩,⟨[.iface n (.ptr ⟨o,0,1+q⟩)],sD r (by simp[kH,OS,s]),rfl⟩,sD u (by rw[v];exact BJ _)⟩
end
section
open Go.AI Go.Proofs Go.Proofs.YtjbplagjmopllaaGreatDoor Go.ChangeShapes
section
variable{W:World}{t:TypeId}{fuel:Nat}{cs:List Value}{ps:List MemPlace}
noncomputable abbrev Tl(W:World)(fuel:Nat)(t:TypeId)(cs:List Value):Option (DataW Unit×List MemPlace):=DataW.trod (λ_=>()) Tryz.prog W 0 (λ_=>true) false fuel t cs
theorem Ym{e n:Nat}{l:List Int}(q:Tryz.prog.underlying t=some (.array n e))(r:Tryz.prog.underlying e=some (.int .u64))(hc:Tryz.prog.cellsOf e=1)(a:Tryz.prog.cellsOf t=n)(h:Tl W fuel t cs=some (.agg (l.map λz=>.lit (.int .u64 z)),ps)) :
 cs=l.map λz=>Value.int .u64 z:=by
 obtain⟨xs,m,_,hx,hl,hxl,d⟩:=DataW.trod_array q h;have hm:xs.map (·.1)=l.map λz=>DataW.lit (.int .u64 z):=by grind
 have hll:l.length=n:=by grind [List.length_map]
 rw[a]at hl;refine List.ext_getElem (by rw[abe];omega) λi hi j=>?_;rw[abe]at j;have o:=d i (by omega);rw[hc,Nat.mul_one,akb hi,aiL,List.take_zero,abg (by omega)]at o;obtain⟨z,s,u,_⟩:=DataW.trod_int r o;have k:(xs.map (·.1))[i]'(by rw[abe];omega)=(l.map λz=>DataW.lit (H:=Unit) (.int .u64 z))[i]'(by rw[abe];omega):=by simp only[hm]
 rw[List.getElem_map,List.getElem_map,u]at k;simp only[DataW.lit.injEq,Lit.int.injEq,ajR]at k;rw[List.getElem_map,<- k];simpa using s
end
section
variable{W:World}{t:TypeId}{fuel:Nat}{cs:List Value}{ps:List MemPlace}
theorem QI{s:List UInt8}(h:Tl W fuel t []=some (.lit (.string s),ps)):False:=by
 cases fuel with
 |zero=>simp[Tl,DataW.trod]at h
 |succ n =>unfold Tl DataW.trod at h;split at h<;>simp_all
theorem YX{s:List UInt8}(h:Tl W fuel t []=some (.agg [.lit (.string s)],ps)):False:=by
 cases j:Tryz.prog.underlying t with
 |none =>
  cases fuel with
  |zero=>simp[Tl,DataW.trod]at h
  |succ n=>unfold Tl DataW.trod at h;rw[j]at h;simp at h
 |some d =>
  cases d with
  |struct fs =>
   obtain⟨xs,n,_,q,_,hl,k⟩:=DataW.trod_struct j h;have a:xs.map (·.1)=[.lit (.string s)]:=by grind
   obtain⟨x,rfl⟩:∃ x,xs=[x]:=List.length_eq_one_iff.1 (by have:=aib List.length a;simpa using this);have o:0<fs.size:=by simp at hl;omega
   have i:=k 0 fs[0] (agq o);simp only[List.drop_nil,List.take_nil,ajh]at i;simp at a;exact QI (W:=W) (s:=s) (ps:=x.2) (by unfold Tl;rw[i,<- a])
  |array m e =>
   obtain⟨xs,n,_,q,_,hl,k⟩:=DataW.trod_array j h;have a:xs.map (·.1)=[.lit (.string s)]:=by grind
   obtain⟨x,rfl⟩:∃ x,xs=[x]:=List.length_eq_one_iff.1 (by have:=aib List.length a;simpa using this);have o:0<m:=by simp at hl;omega
   have i:=k 0 o;simp only[List.drop_nil,List.take_nil,ajh]at i;simp at a;exact QI (W:=W) (s:=s) (ps:=x.2) (by unfold Tl;rw[i,<- a])
  |_ =>
   cases fuel with
   |zero=>simp[Tl,DataW.trod]at h
   |succ n=>unfold Tl DataW.trod at h;rw[j]at h;simp at h
theorem YK{s:List UInt8}(h:Tl W fuel t cs=some (.ptr (.agg [.lit (.string s)]),ps)):∃ a,cs=[.pointer (some a)]/\a.spot=none/\a.block<W.heap.size/\∃ e,Tryz.prog.underlying t=some (.pointer e):=by
 have key:∃ e,Tryz.prog.underlying t=some (.pointer e):=by
  cases fuel with
  |zero=>simp[Tl,DataW.trod]at h
  |succ n =>
   unfold Tl DataW.trod at h;split at h<;>simp_all
   all_goals first
    |(simp[aji,ajP]at h;done)
    |(split at h<;>simp[aji,ajP]at h;done)
    |(repeat' split at h)<;>simp_all[aji,ajP]
 obtain⟨e,j⟩:=key;rcases DataW.trod_pointer j h with⟨_,k⟩|⟨a,cs',y,n,_,rfl,k,o,q⟩
 .simp at k
 .have hy:y.1=.agg [.lit (.string s)]:=by grind
  have d:cs'≠[]:=λr=>by subst r;exact YX (W:=W) (s:=s) (ps:=y.2) (by unfold Tl;rw[q,<- hy])
  obtain⟨_,hc1,i⟩:=World.cells?_some o;have h0:0<cs'.length:=List.length_pos_iff.2 d;have hcell:=i 0 (by omega);rw[abg h0]at hcell;obtain⟨c,e',fz,u,v,h6⟩:=It hcell;refine⟨a,rfl,?_,?_,e,j⟩
  .simpa[Addr.add]using v
  .have:=(ajA.1 u).1;simpa[Addr.add]using this
theorem RP{name:String}{ms:Array (String×TypeId)}{s:List UInt8}(i:Tryz.prog.underlying t=some (.interface ms))(h:Tl W fuel t cs=some (.iface name (.ptr (.agg [.lit (.string s)])),ps)) :
 ∃ u v a,cs=[.iface u v]/\v.cells.toList=[.pointer (some a)]/\a.spot=none/\a.block<W.heap.size/\∃ e,Tryz.prog.underlying u=some (.pointer e):=by
 cases fuel with
 |zero=>simp[Tl,DataW.trod]at h
 |succ n =>
  unfold Tl DataW.trod at h;rw[i]at h;split at h<;>simp_all;rename_i u v _;split at h
  .cases h
  .simp only[ajP]at h;obtain⟨y,hy,d⟩:=h;simp only[aiQ,DataW.iface.injEq]at d;obtain⟨a,j,k,o,q⟩:=YK (W:=W) (s:=s) (ps:=y.2) (by unfold Tl;rw[hy,<- d.1.2]);exact⟨u,v,⟨rfl,rfl⟩,a,j,k,o,q⟩
  .cases h
end
end
section
open Go.AI Go.Proofs Go.Proofs.YtjbplagjmopllaaGreatDoor Go.ChangeShapes
set_option maxRecDepth 10000
theorem zU{P:Program}{w:World}:∀ {l:List (String×DataW Unit)} {ps:List MemPlace} {n:String} {d:DataW Unit},DataW.LaidVars P w l ps->(n,d)∈l ->
 ∃ g t cs fuel p,P.globalNamed n=some g/\(P.globals[g]?).map (·.type)=some t/\w.var? P n=some cs/\DataW.trod (λ_=>()) P w 0 (λ_=>true) false fuel t cs.toList=some (d,p)/\∀ x∈MemPlace.row ⟨g,0,none⟩ cs.size++p,x∈ps
 |[],ps,n,d,_,h=>by cases h
 |(m,c)::r,ps,n,d,hl,h=>by
  obtain⟨g,t,cs,fuel,p,q,e1,e2,e3,e4,hr,rfl⟩:=hl;rcases abn.1 h with h|h
  .grind
  .obtain⟨g',t',cs',fuel',p',a,b,c',d',e⟩:=zU hr h
   grind
theorem CD{P:Program}{w:World}{n:String}{g:Nat}{cs:Array Value}(hg:P.globalNamed n=some g)(h:w.var? P n=some cs):∃ e fz,w.heap[g]? = some (.cells cs e fz):=by
 unfold World.var? at h
 grind
theorem RU:Tryz.prog.globalNamed "internal/strconv.uint64pow10" = some 5:=by kernel_rfl
theorem ZE:Tryz.prog.globalNamed "strconv.ErrSyntax" = some 1:=by kernel_rfl
theorem ZF:Tryz.prog.globalNamed "strconv.ErrRange" = some 2:=by kernel_rfl
theorem ML{W:World}{l:List (String×DataW Unit)}{n:String}{g:Nat}{t:TypeId}{name:String}{ms:Array (String×TypeId)}{s:List UInt8}(hl:laidMet Tryz.prog l W)(hm:(n,.iface name (.ptr (.agg [.lit (.string s)])))∈l)
 (r:Tryz.prog.globalNamed n=some g) (I:(Tryz.prog.globals[g]?).map (·.type)=some t) (J:Tryz.prog.underlying t=some (.interface ms)) :
 ∃ te b off e fz,W.heap[g]? = some (.cells #[.iface te (.pointer (some ⟨b,off,none⟩))] e fz)/\b<W.heap.size:=by
 obtain⟨ps,M,_,h⟩:=hl;obtain⟨g',t',cs,fuel,p,w,z,N,O,Q⟩:=zU M hm;rw[r]at w;cases w;rw[I]at z;cases z;obtain⟨e,fz,U⟩:=CD r N;obtain⟨u,v,a,h1,X,F,G,e',j⟩:=RP J O;have k:cs=#[.iface u v]:=by grind
 subst k;have hcell:W.cell? ⟨g,0,none⟩=some (.iface u v):=by
  unfold World.cell?
  grind
 have o:MemPlace.cell g 0∈MemPlace.row ⟨g,0,none⟩ (#[Value.iface u v]).size:=by
  unfold MemPlace.row
  grind
 have i:=Q _ (aim _ o);have d:=(h g 0 i).2 u v hcell;have q:v=.pointer (some a):=by
  unfold Value.okWide at d;rw[j]at d;simp only[]at d;unfold Cell.okWide at d;rw[j]at d;cases v with
  |agg c=>simp only[Value.cells]at X;simp[Cell.ok,j]at d
  |_=>simp_all[Value.cells]
 subst q;obtain⟨b,off,spot⟩:=a;simp only at F G;subst F;exact⟨u,b,off,e,fz,U,G⟩
theorem ZD:(Tryz.prog.globals[5]?).map (·.type)=some 385:=by kernel_rfl
theorem ZB:(Tryz.prog.globals[1]?).map (·.type)=some 335:=by kernel_rfl
theorem ZC:(Tryz.prog.globals[2]?).map (·.type)=some 335:=by kernel_rfl
theorem Yo{W:World}(hl:laidMet Tryz.prog Rows.stepTailsUptoRow.laid W):∃ te b off e fz,W.heap[1]? = some (.cells #[.iface te (.pointer (some ⟨b,off,none⟩))] e fz)/\b<W.heap.size :=
 ML hl (n := "strconv.ErrSyntax") (name := "*errors.errorString") (s:=[105,110,118,97,108,105,100,32,115,121,110,116,97,120]) (ajk _ (ajk _ (ajk _ (ajk _ (ajk _ (List.Mem.head _)))))) ZE ZB Tryz.underlying335
theorem YB{W:World}(hl:laidMet Tryz.prog Rows.stepTailsUptoRow.laid W):∃ te b off e fz,W.heap[2]? = some (.cells #[.iface te (.pointer (some ⟨b,off,none⟩))] e fz)/\b<W.heap.size :=
 ML hl (n := "strconv.ErrRange") (name := "*errors.errorString") (s:=[118,97,108,117,101,32,111,117,116,32,111,102,32,114,97,110,103,101]) (ajk _ (ajk _ (ajk _ (ajk _ (List.Mem.head _))))) ZF ZC Tryz.underlying335
theorem RC:Rows.laid_internal_strconv_uint64pow10 (H:=Unit)=DataW.agg (Lib.pow10Tab.map λz=>.lit (.int .u64 z)):=by rfl
theorem YM{W:World}(hl:laidMet Tryz.prog Rows.stepTailsUptoRow.laid W):∃ c e fz,W.heap[5]? = some (.cells c e fz)/\c.toList=Lib.pow10Tab.map λz=>Value.int .u64 z:=by obtain⟨ps,j,_,_⟩:=hl;obtain⟨g',t',cs,fuel,p,a,h,k,i,e5⟩:=zU j (n := "internal/strconv.uint64pow10") (d:=Rows.laid_internal_strconv_uint64pow10) (ajk _ (ajk _ (List.Mem.head _)));rw[RU]at a;cases a;rw[ZD]at h;cases h;obtain⟨e,fz,o⟩:=CD RU k;rw[RC]at i;exact⟨cs,e,fz,o,Ym Tryz.underlying385 (by kernel_rfl) (by kernel_rfl) (by kernel_rfl) i⟩
theorem acJ{W:World}(k:W.ShapedOpen Tryz.prog):∃ m e fz,W.heap[0]? = some (.cells #[.int .i64 m] e fz):=by
 obtain⟨cs,h1,n,o⟩:=k.1 0 #[.int .i64 0] 3 (agj (by kernel_rfl)) (by kernel_rfl);obtain⟨ts,h,_,q⟩:=o (by kernel_rfl);have a:Tryz.prog.cellTypes Tryz.prog.depth 3=some [3]:=by kernel_rfl
 rw[a]at h;cases h;have d:cs.size=1:=n;have h0:cs[0]? = some (cs[0]'(by omega)):=agq (by omega);obtain⟨u,r,j⟩:=q 0 _ h0;cases r;unfold Cell.ok at j;rw[Tryz.underlying3]at j
 have hcs:cs=#[cs[0]'(by omega)]:=Array.ext (by simp[d]) (λi hi hi'=>by
  have:i=0:=by omega
  subst this;rfl)
 grind
end
section
open Go.AI Go.Proofs Go.Proofs.YtjbplagjmopllaaGreatDoor Go.ChangeShapes
theorem RV{W:World}(hl:laidMet Tryz.prog Rows.stepTailsUptoRow.laid W)(a:W.ShapedOpen Tryz.prog):Ny W:=⟨acJ a,Yo hl,YB hl,YM hl⟩
end
end Go.Proofs.YtjbplagjmopllaaGreatDoor.Rd
namespace Go.AI
abbrev D.i(n:Int):D:=.int .i64 n
abbrev LD.n(n:Int):LD:=.g (.int .i64 n)
abbrev aO:=List (List D)
abbrev ak:=List Nat
abbrev cV(o:Nat):DB:=.cells 0 [.ptr o 0]
abbrev jh(n:Int):DB:=.cells 0 [.i n]
abbrev di(n:Int):Int:=IntKind.wrap .i64 n
abbrev xE(a:Int)(b:Int)(c:List Nat)(d:List Nat)(e:List (List D))(f:List (List D)):List D:=[.i a,.i b,.str c,.str d,.row 6 e,.row 3 f]
abbrev xD(a:Int)(b:List Nat)(c:List (List D))(d:List (List D))(e:List Nat)(f:List Nat)(g:List (List D))(h:List (List D))(i:Int)(j:Int)(k:List Nat)(l:List Nat)(m:List (List D))(n:List (List D)):List D:=[.i a,.str b,.row 1 c,.row 2 d,.str e,.str f,.row 2 g,.row 8 h,.i i,.i j,.str k,.str l,.row 6 m,.row 3 n]
abbrev xM(a:Int)(b:Int)(c:Int)(d:Bool)(e:Int)(f:D)(g:D)(h:D)(i:Int)(j:D)(k:Int):List D:=[.i a,.i b,.i c,.bool d,.i e,f,g,h,.i i,j,.i k]
abbrev xT(a:Int)(b:Int)(c:List Nat)(d:Int):List D:=[.i a,.i b,.str c,.i d]
abbrev xV(a:List Nat)(b:Int)(c:List (List D)):List D:=[.str a,.i b,.row 3 c]
variable{R:aM}{P:Program}{H H':DH}{κ:D->ai}
theorem ev{E:dg}{n:Nat}{j:CA}{x y:ai}(h:NB E (eP E) n j H=x)(k:x=y):eP E j H=y:=by rw[<- k,<- h,FG]
theorem cj{E:dg}{n f key:Nat}{xs:List LD}{L:LS}{x y:ai}(h:Vb E (eP E) n f key xs L H=x)(k:x=y):jmp E (eP E) f key xs L H=y:=by rw[<- k,<- h,UZ]
theorem av{f:FuncId}{args:List D}{d:D}{k:D->DH->ai}(h:R (.call f args none) H=ret d H'):C R f args H k=k d H':=by rw[C,h];rfl
theorem ax(q:Bool)(a b:ai):brD (.bool q) a b=cond q a b:=rfl
theorem bS(n:Nat){κ:Nat->ai}:dV (n:Int) κ=κ n:=rfl
theorem aD{l:List (List D)}{i:Nat}{cs:List D}{κ:List D->ai}(h:l[i]? = some cs):bZ l i κ=κ cs:=by rw[bZ,h]
theorem aj(a:D)(l:List D):af (a::l) 0 κ=κ a:=rfl
theorem au(a:D)(l:List D)(n:Nat):af (a::l) (n+1) κ=af l n κ:=rfl
theorem aP(b:Bool):ib .not (.bool b) κ=κ (.bool !b):=rfl
theorem dB(l:List D)(i:Nat):ei (.tuple l) i κ=af l i κ:=rfl
theorem bJ(t:TypeId)(c:Bool)(a b:Int):aC P .add t c (.int .i64 a) (.int .i64 b) κ=κ (.int .i64 (di (a+b))):=rfl
theorem qH(t:TypeId)(c:Bool)(a b:Int):aC P .sub t c (.int .i64 a) (.int .i64 b) κ=κ (.int .i64 (di (a - b))):=rfl
theorem ba(t:TypeId)(c:Bool)(k:IntKind)(a b:Int):aC P .eql t c (.int k a) (.int k b) κ=κ (.bool (a==b)):=by cases k<;>rfl
theorem bE(t:TypeId)(c:Bool)(k:IntKind)(a b:Int):aC P .neq t c (.int k a) (.int k b) κ=κ (.bool (a != b)):=by cases k<;>rfl
theorem cE(t:TypeId)(c:Bool)(k:IntKind)(a b:Int):aC P .lss t c (.int k a) (.int k b) κ=κ (.bool (decide (a<b))):=by cases k<;>rfl
theorem FZ(t:TypeId)(c:Bool)(k:IntKind)(a b:Int):aC P .leq t c (.int k a) (.int k b) κ=κ (.bool (decide (a<=b))):=by cases k<;>rfl
theorem eT(t:TypeId)(c:Bool)(k:IntKind)(a b:Int):aC P .gtr t c (.int k a) (.int k b) κ=κ (.bool (decide (a>b))):=by cases k<;>rfl
theorem cM(t:TypeId)(c:Bool)(k:IntKind)(a b:Int):aC P .geq t c (.int k a) (.int k b) κ=κ (.bool (decide (a>=b))):=by cases k<;>rfl
theorem ff(t:TypeId)(c:Bool)(a b:List Nat):aC P .eql t c (.str a) (.str b) κ=κ (.bool (a==b)):=rfl
theorem mH(t:TypeId)(c:Bool)(a b:List Nat):aC P .neq t c (.str a) (.str b) κ=κ (.bool !(a==b)):=rfl
theorem Rb(g:Bool)(x:D):pz g x [] κ=κ x:=rfl
theorem Xf(k:IntKind)(a b:Int)(l:List D):pz true (.int k a) (.int k b::l) κ=pz true (.int k (max a b)) l κ:=by
 have h:(bif decide (b>a)then b else a)=max a b:=by grind
 have h2:dy k k=true:=by cases k<;>rfl
 show JW true (.int k a) (.int k b) _=_
 grind [JW]
theorem cY(q a b:Bool)(H:DH):cond q (ret (.bool a) H) (ret (.bool b) H)=ret (.bool (cond q a b)) H:=by cases q<;>rfl
theorem mM{n:Int}(a:-9223372036854775808<=n)(d:n<=9223372036854775807):di n=n:=Lg n ⟨a,d⟩
theorem aX{n:Nat}(h:n<2^62):di ((n:Int)+1)=((n+1:Nat):Int):=by rw[mM]<;>omega
theorem dX{E:dI}{g:FuncId}{a b:List D}{κ:FuncId->List D->List D->ai}(h:aQ E g=true):jC E (.func g a b) κ=κ g a b:=by rw[jC,h];rfl
theorem Ef(b:Bool)(H X:DH):aY H (ret (.bool b) (H++X))=ret (.bool b) H:=by have h:ol H ⟨.ret (.bool b),none,H++X⟩:=⟨by simp[CB.bel,D.bel],rfl,by simp,λi x hi a=>.inl (by rwa [abo hi]at a)⟩;simp_all[aY,ret]
theorem ac{o st:Nat}{cs:List D}{κ:Nat->List D->ai}(h:H[o]? = some (.cells st cs)):am H o κ=κ st cs:=by rw[am,h]
theorem cD{o sz:Nat}{st cap:Bool}{l:List (List D)}{κ:Nat->Bool->Bool->List (List D)->ai}(h:H[o]? = some (.buf sz st cap l)):dl H o l.length κ=κ sz st cap l:=by rw[dl,h];simp[acD]
theorem lE{r:List DH}{o st:Nat}{cs:List D}(h:H[o]? = some (.cells st cs))(hr:∀ a∈r,a[o]? = some (.cells st cs)):(cK H r)[o]? = some (.cells st cs):=by
 rw[cK,@FQ ⟨λ_=>True,[],λ_ _ _ h=>h⟩,h,adO]
 grind [Hq]
theorem fT{o:Nat}{es:List (D×D)}{κ:List (D×D)->ai}(h:H[o]? = some (.map es)):ig H o κ=κ es:=by rw[ig,h]
theorem aZ(H:DH)(x:DB):(H++[x])[H.length]? = some x:=by simp
theorem az{H:DH}{o:Nat}{b:DB}(x:DB)(h:H[o]? = some b):(H++[x])[o]? = some b:=by grind
theorem aT{H:DH}{o:Nat}{b:DB}(x:DB)(h:H[o]? = some b):(H.set o x)[o]? = some x:=by grind
theorem ao{H:DH}{o o':Nat}{b:DB}(x:DB)(a:o≠o')(h:H[o']? = some b):(H.set o x)[o']? = some b:=by rw[afA a];exact h
end Go.AI
namespace Go.Proofs.YtjbplagjmopllaaGreatDoor
section
open Go.AI
def ain:T iL :=
 (.node (.node (.node (.node (.node (.node (.node (.node .leaf (some ⟨[(14,[2,3,8,10,11,13,14,15,16,17,36,37,38,48,49,50],[0,1,2]),(15,[2,3,8,10,11,12,13,14,15,16,17,36,37,38,48,49,50],[0,1,2]),(20,[2,3,8,10,11,12,13,14,15,16,36,37,38],[0,1,2]),(25,[2,3,8,10,11,12,13,14,15,16,36,37,38],[0,1,2]),(200006,[2,3,8,10,11,12,13,14,15,16,36,37,38],[0,1,2]),(200011,[2,3,8,10,11,12,13,14,15,16,17,36,37,38,48,49,50],[0,1,2])],[],[],[],true⟩) .leaf) none (.node .leaf (some ⟨[(200003,[3,11,12],[])],[10],[(9,[(3,.acc 2)])],[],false⟩) .leaf)) none .leaf) none (.node (.node .leaf (some ⟨[(200005,[0,3,5,24,25,26],[0]),(200014,[5,60,61,62],[])],[],[],[],true⟩) .leaf) (some ⟨[(200003,[2,3,12,13,14],[1,2])],[],[],[(0,2,.fz 3)],true⟩) .leaf)) none (.node (.node (.node (.node .leaf (some ⟨[],[3,4,5],[],[],true⟩) .leaf) none .leaf) none .leaf) (some ⟨[(18,[5,6,7,22,23,24],[0]),(200006,[5,22,23,24],[]),(200011,[5,6,7,22,23,24,34,35,36],[0]),(200022,[5,112,113,114],[])],[20],[(19,[(1,.acc 11),(2,.acc 7),(3,.acc 1),(4,.acc 1)])],[],false⟩) (.node (.node (.node .leaf (some ⟨[],[3,4,5],[],[],false⟩) .leaf) (some ⟨[(200010,[0,1,7,76,77,78],[1])],[],[],[],false⟩) (.node .leaf (some ⟨[(200002,[0,1,7,8],[])],[],[],[],false⟩) .leaf)) (some ⟨[(200003,[3,9,10,11],[])],[7],[],[],true⟩) .leaf))) none (.node (.node .leaf none (.node (.node .leaf none (.node .leaf (some ⟨[(200002,[0,1,7,8],[])],[],[],[],false⟩) .leaf)) none .leaf)) none (.node (.node (.node (.node .leaf (some ⟨[],[3],[],[],true⟩) .leaf) (some ⟨[(200004,[1,2,15,16,17],[])],[],[],[],false⟩) .leaf) none .leaf) none (.node (.node .leaf (some ⟨[(200004,[0,16,17,18],[]),(200007,[0,16,17,18,23,24,25],[]),(200016,[0,43,44,45],[])],[],[],[],false⟩) (.node .leaf (some ⟨[(200001,[0,1],[])],[36],[],[],false⟩) .leaf)) none (.node .leaf (some ⟨[(200003,[0,1,7,15,16,17],[])],[],[(7,[(0,.acc 1)])],[],false⟩) .leaf))))) none (.node (.node (.node (.node (.node (.node .leaf (some ⟨[(200013,[0,4,6,50,51,52],[1,3])],[],[],[(0,2,.fz 3)],false⟩) .leaf) (some ⟨[(200004,[2,3,5],[0,1])],[],[],[],false⟩) (.node .leaf (some ⟨[],[1],[],[],false⟩) .leaf)) none .leaf) none (.node (.node (.node .leaf (some ⟨[],[3],[],[],true⟩) .leaf) none .leaf) none (.node (.node .leaf (some ⟨[(200001,[0,1,2,8,9,10],[]),(200006,[1,2,21,22,23],[])],[],[],[],false⟩) .leaf) none .leaf))) (some ⟨[(11,[3,4,7,8],[1,2,3,4]),(13,[3,4,8],[1,2,4]),(200014,[4,8,77,78,79],[2,4])],[],[],[],false⟩) (.node (.node (.node .leaf (some ⟨[(200005,[0,4,5,18,19,20],[1,2])],[],[],[],false⟩) .leaf) none (.node (.node .leaf (some ⟨[(200013,[0,1,71,72],[])],[],[],[],false⟩) .leaf) none (.node .leaf (some ⟨[(200002,[0,2,3],[])],[],[],[],false⟩) .leaf))) (some ⟨[(200003,[1,2,15,16],[0,1]),(200008,[1,2,32,33],[0,1])],[],[],[],false⟩) (.node (.node .leaf (some ⟨[(200005,[0,3,5,6,9,10,33,34,35],[0,1])],[],[(46,[(0,.fz 1)]),(10,[(0,.acc 1)]),(62,[(0,.fz 1)])],[],true⟩) (.node .leaf (some ⟨[(200002,[0,1,7,8],[])],[],[],[],false⟩) .leaf)) none (.node (.node .leaf (some ⟨[(200002,[0,1,7,8],[])],[],[],[],false⟩) .leaf) none .leaf)))) none (.node (.node (.node (.node (.node .leaf (some ⟨[],[3,4,5],[],[],true⟩) .leaf) none .leaf) none .leaf) (some ⟨[(200003,[1,2,24,25],[0,1]),(200008,[1,2,43,44],[0,1]),(200013,[1,2,62,63],[0,1])],[],[],[],false⟩) (.node (.node .leaf none (.node .leaf (some ⟨[(200001,[1,2,6,7,8],[])],[],[],[],false⟩) .leaf)) none .leaf)) none (.node (.node (.node (.node .leaf (some ⟨[],[3],[],[],true⟩) .leaf) (some ⟨[],[4,5],[],[],true⟩) .leaf) none (.node (.node .leaf (some ⟨[(200001,[0,1,2,8,9,10],[]),(200006,[1,2,21,22,23],[])],[],[],[],false⟩) .leaf) none .leaf)) (some ⟨[(200004,[0,1,5],[])],[],[],[],false⟩) (.node (.node .leaf none (.node .leaf (some ⟨[(11,[0,2,3],[0])],[],[],[],false⟩) .leaf)) none (.node .leaf (some ⟨[(200002,[0,1,7,8],[])],[],[],[],false⟩) .leaf)))))) none (.node (.node (.node (.node (.node (.node (.node .leaf (some ⟨[(3,[2,3,4],[])],[3,4],[],[],false⟩) .leaf) (some ⟨[(200000,[0,1,2,3],[]),(200003,[0,1,2,3,24,25,26],[])],[],[],[],false⟩) .leaf) none .leaf) none (.node .leaf none (.node (.node .leaf (some ⟨[(200001,[1,2,6,7,8],[])],[],[],[],false⟩) .leaf) none .leaf))) none (.node (.node (.node (.node .leaf (some ⟨[(200002,[0,1,7,8],[])],[],[],[],false⟩) .leaf) (some ⟨[(200003,[0,3,9,10,11],[])],[],[(3,[(0,.acc 5)])],[(0,0,.fz 5)],true⟩) .leaf) none (.node (.node .leaf (some ⟨[(200002,[0,1,7,8],[])],[],[],[],false⟩) .leaf) none .leaf)) none (.node (.node .leaf (some ⟨[(20,[6,8],[0])],[],[],[],false⟩) (.node .leaf (some ⟨[(200002,[0,1,7,8],[])],[],[],[],false⟩) .leaf)) (some ⟨[(200003,[3,9,10,11],[])],[7],[],[],true⟩) .leaf))) none (.node (.node (.node (.node (.node .leaf (some ⟨[],[3,4,5],[],[],true⟩) .leaf) none .leaf) (some ⟨[(200005,[2,3,37,38],[])],[2,3],[],[],true⟩) (.node .leaf (some ⟨[],[3],[],[],true⟩) .leaf)) (some ⟨[],[10],[],[],false⟩) (.node (.node .leaf (some ⟨[(200001,[0,2,3,4,6,10],[0,1])],[],[],[],false⟩) .leaf) (some ⟨[(200002,[0,4,5,15,16,17],[0,1]),(200008,[0,5,6,10,37,38,39],[1])],[],[],[],false⟩) (.node .leaf (some ⟨[(200004,[0,1,12,13],[])],[],[],[],false⟩) .leaf))) (some ⟨[(200006,[2,3,5],[0,1]),(200011,[2,3,6],[0,1]),(200016,[2,3,7],[0,1])],[],[],[],false⟩) (.node (.node .leaf none (.node (.node .leaf (some ⟨[(200001,[1,2,6,7,8],[])],[],[],[],false⟩) .leaf) none (.node .leaf (some ⟨[(4,[0,2,3],[0])],[],[],[],false⟩) .leaf))) none (.node (.node .leaf none (.node .leaf (some ⟨[(200000,[0],[])],[],[],[],false⟩) .leaf)) none (.node .leaf (some ⟨[],[1,3],[],[],true⟩) .leaf))))) none (.node (.node (.node .leaf none (.node (.node (.node .leaf (some ⟨[],[3],[],[],true⟩) .leaf) (some ⟨[(13,[4,5,8],[0])],[4],[],[],true⟩) .leaf) none (.node (.node .leaf (some ⟨[],[3,4,5],[],[],true⟩) .leaf) none .leaf))) (some ⟨[(200007,[3,4,8,9,10,39,40,41],[1,2]),(200018,[4,10,13,14,15,61,62,63],[2,3]),(200022,[4,10,13,14,15,17,61,62,63,74,75],[2,3,4]),(200031,[4,13,14,15,114,115],[2,3]),(200035,[4,13,14,15,19,114,115,137,138],[2,3]),(200041,[4,13,15,164,165],[2,3])],[8],[],[],false⟩) (.node (.node (.node (.node .leaf (some ⟨[],[3],[],[],true⟩) .leaf) none .leaf) none .leaf) (some ⟨[(200006,[3,5,6,7,25,26],[]),(200013,[3,5,6,7,42,43,44],[]),(200018,[5,6,7,54,55,56],[]),(200022,[5,6,7,54,55,56,65,66,67],[])],[3,5,6,7],[],[],false⟩) (.node (.node .leaf (some ⟨[(200004,[0,16,17,18],[]),(200007,[0,16,17,18,23,24,25],[]),(200016,[0,43,44,45],[])],[],[],[],false⟩) (.node .leaf (some ⟨[(200002,[0,1,7,8],[])],[],[],[],false⟩) .leaf)) (some ⟨[],[3],[],[],true⟩) (.node .leaf (some ⟨[(200003,[3,10,11,12],[])],[],[(3,[(0,.acc 1)])],[],false⟩) .leaf)))) none (.node (.node (.node (.node (.node .leaf (some ⟨[],[3,4,5],[],[],true⟩) .leaf) none .leaf) none (.node .leaf (some ⟨[(6,[1,3],[0]),(7,[1,3,52],[0])],[],[],[],false⟩) (.node .leaf (some ⟨[(200002,[0,1,2,7],[])],[],[],[],false⟩) .leaf))) (some ⟨[],[2,95,200058],[],[],false⟩) (.node (.node .leaf (some ⟨[(3,[2,3,4],[0,1,2])],[28],[],[],true⟩) (.node .leaf (some ⟨[(200001,[1,2,6,7,8],[])],[],[],[],false⟩) .leaf)) (some ⟨[],[],[(29,[(2,.fz 1)])],[],true⟩) .leaf)) none (.node (.node (.node (.node .leaf (some ⟨[],[],[],[],true⟩) .leaf) none .leaf) none (.node (.node .leaf (some ⟨[],[3,4,5],[],[],true⟩) .leaf) none (.node .leaf (some ⟨[(6,[0,1,4,5],[0])],[],[],[],false⟩) .leaf))) (some ⟨[(200004,[0,1,5],[])],[],[],[],false⟩) (.node .leaf (some ⟨[(200003,[1,2,10,11],[0,1])],[],[],[],false⟩) (.node (.node .leaf (some ⟨[(200002,[0,1,7,8],[])],[],[],[],false⟩) .leaf) none .leaf)))))))
def de:dg:=⟨bV,ain,aas,dvo⟩
abbrev aA(R:aM)(f:Nat)(a:List D)(H:DH):ai:=NB de R 200 (.call f a none) H
abbrev aV(R:aM)(f k:Nat)(x:List LD)(L:LS)(H:DH):ai:=Vb de R 200 f k x L H
abbrev ae(R:aM)(f k:Nat)(x:List LD)(L:LS)(H:DH):ai:=jmp de R f k x L H
abbrev aB:aM:=eP de
abbrev aq(f:Nat)(a:List D)(H:DH):ai:=eP de (.call f a none) H
noncomputable abbrev ab:=Tryz.prog
theorem f23{R:aM}{a:aO}{H:DH}:aA R 23 [.agg [.row 14 a]] H =
 C R 24 [.agg [.row 14 a]] H λb H=>aC ab .neq 34 true b (.i 0) λc=>brD c (ret (.tuple [.nilptr,b]) H) (let b:=H++[.map []];let c:=b++[.buf 11 true false []];let d:=c++[.buf 7 true false []];let e:=d++[.buf 1 true false []];let f:=e++[.buf 1 true false []];let H:=f++[.cells 0 [.row 14 a,.buf 11 b.length 0,.buf 7 c.length 0,.buf 1 d.length 0,.buf 1 e.length 0,.map H.length]];ae R 23 200006 [.g (.ptr f.length 0),.g (.row 14 a),.n a.length,.n 0] [] H):=by kernel_rfl
theorem AT{R:aM}{s:Nat}{a:aO}{b c:Int}{H:DH}:aV R 23 200006 [.g (.ptr s 0),.g (.row 14 a),.n b,.n c] [] H =
 cond (decide (c<b)) (dV c λd=>bZ a d λd=>af d 0 λe=>af d 1 λf=>af d 2 λg=>af d 3 λh=>af d 4 λi=>af d 5 λj=>af d 6 λk=>af d 7 λl=>af d 8 λm=>af d 9 λn=>af d 10 λo=>af d 11 λp=>af d 12 λq=>af d 13 λd=>aC ab .eql 3 true e (.i 3) λr=>brD r (aS ab 102 l H λr=>ae R 23 200011 [.g (.ptr s 0),.n c,.lp 0 0,.g (.row 14 a),.n b,.n c,.g l,.g r,.n 0] [(0,[e,f,g,h,i,j,k,l,m,n,o,p,q,d])] H) (aC ab .eql 3 true e (.i 4) λr=>brD r (ae R 23 18 [.g (.ptr s 0),.n c,.lp 0 0,.g (.row 14 a),.n b,.n c] [(0,[e,f,g,h,i,j,k,l,m,n,o,p,q,d])] H) (aC ab .eql 3 true e (.i 5) λr=>brD r (ae R 23 18 [.g (.ptr s 0),.n c,.lp 0 0,.g (.row 14 a),.n b,.n c] [(0,[e,f,g,h,i,j,k,l,m,n,o,p,q,d])] H) (ae R 23 200006 [.g (.ptr s 0),.g (.row 14 a),.n b,.n (di (c+1))] [] H)))) (am H s λ_ a=>af a 4 λa=>aS ab 40 a H λb=>ae R 23 200022 [.g (.ptr s 0),.g a,.g b,.n 0] [] H):=by kernel_rfl
theorem AS{R:aM}{F:Nat}{G:Int}{a:aO}{b c:Int}{e:D}{h j:Int}{k l m p q r s t u v w x y z:D}{H:DH}:aV R 23 200011 [.g (.ptr F 0),.n G,.lp 0 0,.g (.row 14 a),.n b,.n c,.g e,.n h,.n j] [(0,[k,l,m,p,q,r,s,t,u,v,w,x,y,z])] H =
 cond (decide (j<h)) (ay ab 102 e (.i j) λd=>bW ab 106 d H λd=>ah 8 d λd=>aw [.str [],.str [],.i 0,.i 0,.str [],.str [],.nilrow,.nilrow] 0 d λd=>am H F λ_ f=>af f 4 λf=>am H F λ_ g=>af g 2 λg=>aS ab 88 g H λg=>ah 1 g λg=>bX (aF ab 3) 1 f [g] H λf H=>ah 1 f λf=>am H F λg i=>aw i 4 f λf=>let H:=H.set F (.cells (g+1) f);am H F λ_ f=>af f 4 λf=>aS ab 40 f H λf=>aC ab .sub 3 true f (.i 1) λf=>af d 0 λg=>af d 1 λi=>ah 1 f λf=>aw [.i 0,.i G,.i (-1),.i 0,.str [],.str [],.i 0] 3 f λf=>ah 1 g λg=>aw f 4 g λf=>ah 1 i λg=>aw f 5 g λf=>ah 1 k λg=>aw f 6 g λf=>af d 2 λg=>af d 3 λi=>af d 4 λn=>af d 5 λo=>af d 6 λA=>af d 7 λd=>aU (R (.call 54 [.ptr F 0,.agg f,.agg [g,i,n,o,A,d],.i j] none) H) (λ_ H=>ae R 23 200011 [.g (.ptr F 0),.n G,.lp 0 0,.g (.row 14 a),.n b,.n c,.g e,.n h,.n (di (j+1))] [(0,[k,l,m,p,q,r,s,t,u,v,w,x,y,z])] H) λ_ _=>none) (ae R 23 200006 [.g (.ptr F 0),.g (.row 14 a),.n b,.n (di (c+1))] [] H):=by kernel_rfl
theorem aai{R:aM}{o:Nat}{z:Int}{a:aO}{b c:Int}{e h j k l m p q r s t u v w:D}{H:DH}:aV R 23 18 [.g (.ptr o 0),.n z,.lp 0 0,.g (.row 14 a),.n b,.n c] [(0,[e,h,j,k,l,m,p,q,r,s,t,u,v,w])] H =
 am H o λ_ d=>af d 3 λd=>am H o λ_ f=>af f 2 λf=>aS ab 88 f H λf=>ah 1 f λf=>bX (aF ab 3) 1 d [f] H λd H=>ah 1 d λd=>am H o λf g=>aw g 3 d λd=>let H:=H.set o (.cells (f+1) d);am H o λ_ d=>af d 3 λd=>aS ab 40 d H λd=>aC ab .sub 3 true d (.i 1) λd=>ah 1 d λd=>aw [.i 0,.i z,.i 0,.i 0,.str [],.str [],.i 0] 2 d λd=>aw d 3 [.i (-1)] λd=>ah 1 l λf=>aw d 4 f λd=>ah 1 e λe=>aw d 6 e λd=>aU (R (.call 54 [.ptr o 0,.agg d,.agg [r,s,t,u,v,w],.i 0] none) H) (λ_ H=>ae R 23 200006 [.g (.ptr o 0),.g (.row 14 a),.n b,.n (di (c+1))] [] H) λ_ _=>none:=by kernel_rfl
theorem AR{R:aM}{h:Nat}{a:D}{b c:Int}{H:DH}:aV R 23 200022 [.g (.ptr h 0),.g a,.n b,.n c] [] H =
 cond (decide (c<b)) (ay ab 40 a (.i c) λd=>bW ab 3 d H λd=>am H h λ_ e=>af e 5 λe=>am H h λ_ f=>af f 2 λf=>ay ab 88 f d λf=>ct f 0 λf=>bW ab 3 f H λf=>am H h λ_ g=>af g 2 λg=>ay ab 88 g d λd=>ct d 5 λd=>bW ab 9 d H λd=>jp ab 89 e f d H λH=>ae R 23 200022 [.g (.ptr h 0),.g a,.n b,.n (di (c+1))] [] H) (ret (.tuple [.ptr h 0,.i 0]) H):=by kernel_rfl
theorem agV{R:aM}{a b c:Nat}{H:DH}:aA R 213 [.ptr a 0,.ptr b 0,.ptr c 0] H =
 am H a λ_ a=>af a 2 λa=>aS ab 46 a H λd=>ae R 213 200001 [.g (.ptr b 0),.g (.ptr c 0),.g a,.g d,.n 0] [] H:=by kernel_rfl
theorem wq{R:aM}{j k:Nat}{o:D}{q h:Int}{H:DH}:aV R 213 200001 [.g (.ptr j 0),.g (.ptr k 0),.g o,.n q,.n h] [] H =
 cond (decide (h<q)) (ay ab 46 o (.i h) λa=>bW ab 148 a H λa=>ah 3 a λa=>aw [.i 0,.str [],.nilrow] 0 a λa=>am H j λ_ b=>af b 0 λb=>af a 0 λc=>af a 1 λd=>af a 2 λa=>am H k λ_ e=>af e 0 λe=>aC ab .add 3 true e (.i 1) λe=>C R 174 [b,.agg [c,d,a],e] H λ_ H=>ae R 213 200001 [.g (.ptr j 0),.g (.ptr k 0),.g o,.n q,.n (di (h+1))] [] H) (ret (.tuple []) H):=by kernel_rfl
theorem f24{R:aM}{a:aO}{H:DH}:aA R 24 [.agg [.row 14 a]] H =
 aU (R (.call 55 [.agg [.row 14 a]] none) H) (λb H=>aU (R (.call 56 [.agg [.row 14 a]] none) H) (λc H=>cond (decide ((a.length:Int)>60)) (aC ab .leq 3 true b (.i 100) λa=>brD a (C R 57 [b,.i 2001,.bool false] H λa H=>ret a H) (C R 57 [b,.i 2001,.bool false] H λa H=>ret a H)) (aC ab .leq 3 true b (.i 100) λd=>brD d (aC ab .leq 3 true c (.i 2000) λd=>brD d (C R 58 [.row 14 a,.func 59 [] []] H λa H=>C R 57 [b,c,a] H λa H=>ret a H) (C R 57 [b,c,.bool false] H λa H=>ret a H)) (C R 57 [b,c,.bool false] H λa H=>ret a H))) λ_ _=>none) λ_ _=>none:=by kernel_rfl
theorem f93{R:aM}{a:Int}{b:ak}{c e:aO}{g h:ak}{j k:aO}{l m:Int}{p q:ak}{r s:aO}{t:Nat}{H:DH}:aA R 93 [.agg (xD a b c e g h j k l m p q r s),.ptr t 0] H =
 am H t λ_ d=>af d 0 λd=>jC bV d λd f i=>C R d (f++([.agg (xD a b c e g h j k l m p q r s)]++i)) H λa H=>ib .not a λa=>ret a H:=by kernel_rfl
theorem f97{R:aM}{a:ak}{b c:aO}{H:DH}:aA R 97 [.agg [.str a,.row 1 b,.row 2 c]] H =
 C R 117 [.str a] H λa H=>brD a (cond (decide ((b.length:Int)<=16)) (C R 139 [.row 1 b,.func 140 [] []] H λa H=>brD a (cond (decide ((c.length:Int)>=1)) (cond (decide ((c.length:Int)<=16)) (C R 141 [.row 2 c,.func 137 [] []] H λa H=>ret a H) (ret (.bool false) H)) (ret (.bool false) H)) (ret (.bool false) H)) (ret (.bool false) H)) (ret (.bool false) H):=by kernel_rfl
theorem ahc{R:aM}{a b:Int}{c e:ak}{g h:aO}{j:Nat}{H:DH}:aA R 187 [.agg (xE a b c e g h),.ptr j 0] H =
 am H j λ_ d=>af d 0 λd=>jC bV d λd f i=>C R d (f++([.agg (xE a b c e g h)]++i)) H λa H=>ib .not a λa=>ret a H:=by kernel_rfl
theorem f57{R:aM}{a d:Int}{e:Bool}{H:DH}:aA R 57 [.i a,.i d,.bool e] H =
 cond (decide (a>100)) (ret (.i 6) H) (cond (decide (d>2000)) (ret (.i 2) H) (cond (!e) (ret (.i 21) H) (ret (.i 0) H))):=by kernel_rfl
theorem f94{R:aM}{a:ak}{b c:aO}{H:DH}:aA R 94 [.agg [.str a,.row 1 b,.row 2 c]] H =
 cond (a==[]) (cond ((b.length:Int)==0) (ret (.bool ((c.length:Int)==0)) H) (ret (.bool false) H)) (ret (.bool false) H):=by kernel_rfl
theorem f92{R:aM}{d:aO}{a:Nat}{H:DH}:aA R 92 [.row 14 d,.func 93 [] [.ptr a 0]] H =
 C R 136 [.row 14 d,.func 93 [] [.ptr a 0]] H λa H=>aC ab .geq 3 true a (.i 0) λa=>ret a H:=by kernel_rfl
theorem agI{R:aM}{a:Int}{H:DH}:aA R 237 [.int .u8 a] H =
 cond (decide ((97:Int)<=a)) (ret (.bool (decide (a<=122))) H) (ret (.bool false) H):=by kernel_rfl
theorem ahX{R:aM}{a b:Int}{c e:ak}{h j:aO}{H:DH}:aA R 102 [.agg (xE a b c e h j)] H =
 C R 145 [.row 6 h,.func 102 [] []] H λd H=>ib .not d λd=>brD d (ret (.bool false) H) (C R 146 [.row 3 j,.func 147 [] []] H λd H=>ib .not d λd=>brD d (ret (.bool false) H) (cond (a != 1) (cond (b != 0) (ret (.bool false) H) (cond (a != 5) (cond (a != 7) (cond (!(e==[])) (ret (.bool false) H) (cond (a != 8) (cond (decide ((j.length:Int)>0)) (ret (.bool false) H) (ae R 102 6 [.lp 0 0,.n h.length] [(0,xE a b c e h j)] H)) (ae R 102 6 [.lp 0 0,.n h.length] [(0,xE a b c e h j)] H))) (cond (a != 8) (cond (decide ((j.length:Int)>0)) (ret (.bool false) H) (ae R 102 6 [.lp 0 0,.n h.length] [(0,xE a b c e h j)] H)) (ae R 102 6 [.lp 0 0,.n h.length] [(0,xE a b c e h j)] H))) (cond (a != 8) (cond (decide ((j.length:Int)>0)) (ret (.bool false) H) (ae R 102 6 [.lp 0 0,.n h.length] [(0,xE a b c e h j)] H)) (ae R 102 6 [.lp 0 0,.n h.length] [(0,xE a b c e h j)] H)))) (cond (a != 5) (cond (a != 7) (cond (!(e==[])) (ret (.bool false) H) (cond (a != 8) (cond (decide ((j.length:Int)>0)) (ret (.bool false) H) (ae R 102 6 [.lp 0 0,.n h.length] [(0,xE a b c e h j)] H)) (ae R 102 6 [.lp 0 0,.n h.length] [(0,xE a b c e h j)] H))) (cond (a != 8) (cond (decide ((j.length:Int)>0)) (ret (.bool false) H) (ae R 102 6 [.lp 0 0,.n h.length] [(0,xE a b c e h j)] H)) (ae R 102 6 [.lp 0 0,.n h.length] [(0,xE a b c e h j)] H))) (cond (a != 8) (cond (decide ((j.length:Int)>0)) (ret (.bool false) H) (ae R 102 6 [.lp 0 0,.n h.length] [(0,xE a b c e h j)] H)) (ae R 102 6 [.lp 0 0,.n h.length] [(0,xE a b c e h j)] H))))):=by kernel_rfl
theorem aao{R:aM}{d a b:Int}{c e:ak}{h j:aO}{H:DH}:aV R 102 6 [.lp 0 0,.n d] [(0,xE a b c e h j)] H =
 ae R 102 7 [.lp 0 0,.n d,.n a] [(0,xE a b c e h j)] H:=by kernel_rfl
theorem aan{R:aM}{d a b c:Int}{e h:ak}{j k:aO}{H:DH}:aV R 102 7 [.lp 0 0,.n d,.n a] [(0,xE b c e h j k)] H =
 cond (a==1) (cond (e==[]) (ret (.bool (d==0)) H) (ret (.bool false) H)) (cond (a==2) (C R 98 [.str e] H λa H=>brD a (ret (.bool (d==0)) H) (ret (.bool false) H)) (cond (a==3) (C R 148 [.str e,.i d] H λa H=>ret a H) (cond (a==4) (cond (e==[]) (ret (.bool (d==2)) H) (ret (.bool false) H)) (cond (a==5) (cond (e==[]) (C R 98 [.str h] H λa H=>brD a (ret (.bool (d==1)) H) (ret (.bool false) H)) (ret (.bool false) H)) (cond (a==6) (C R 98 [.str e] H λa H=>brD a (ret (.bool (d==2)) H) (ret (.bool false) H)) (cond (a==7) (C R 98 [.str e] H λa H=>brD a (C R 98 [.str h] H λa H=>brD a (ret (.bool (d==2)) H) (ret (.bool false) H)) (ret (.bool false) H)) (cond (a==8) (cond (e==[]) (cond (decide ((k.length:Int)>=1)) (cond (decide ((k.length:Int)<=16)) (ret (.bool (d==(di ((k.length:Int)+1)))) H) (ret (.bool false) H)) (ret (.bool false) H)) (ret (.bool false) H)) (cond (a==9) (aU (R (.call 150 [] none) H) (λa H=>aU (R (.call 149 [a,.str e] none) H) (λa H=>brD a (ret (.bool (d==2)) H) (ret (.bool false) H)) λ_ _=>none) λ_ _=>none) (ret (.bool false) H))))))))):=by kernel_rfl
theorem agY{R:aM}{d:ak}{H:DH}:aA R 191 [.str d] H =
 let a:=H++[.map []];let b:=a++[.buf 2 true false []];let H:=b++[.cells 0 [.str d,.i 0,.map H.length,.buf 2 a.length 0]];ae R 191 200003 [.g (.ptr b.length 0),.g (.agg [.str [97,110,100],.str [99,97,115,101],.str [100,97,116,97],.str [101,108,115,101],.str [101,110,100],.str [102,110],.str [102,117,110],.str [105,102],.str [105,110],.str [105,110,112,117,116],.str [108,101,116],.str [111,102],.str [111,117,116,112,117,116],.str [116,104,101,110],.str [118,97,108]]),.n 0] [] H:=by kernel_rfl
theorem HO{R:aM}{o:Nat}{a b c e h j k l m p q r s t u:ak}{v:Int}{H:DH}:aV R 191 200003 [.g (.ptr o 0),.g (.agg [.str a,.str b,.str c,.str e,.str h,.str j,.str k,.str l,.str m,.str p,.str q,.str r,.str s,.str t,.str u]),.n v] [] H =
 cond (decide (v<15)) (kb ab 306 (.agg [.str a,.str b,.str c,.str e,.str h,.str j,.str k,.str l,.str m,.str p,.str q,.str r,.str s,.str t,.str u]) (.i v) λd=>am H o λ_ f=>af f 2 λf=>jp ab 302 f d (.i 5) H λH=>ae R 191 200003 [.g (.ptr o 0),.g (.agg [.str a,.str b,.str c,.str e,.str h,.str j,.str k,.str l,.str m,.str p,.str q,.str r,.str s,.str t,.str u]),.n (di (v+1))] [] H) (ret (.ptr o 0) H):=by kernel_rfl
theorem agU{R:aM}{a b c:Nat}{H:DH}:aA R 214 [.ptr a 0,.ptr b 0,.ptr c 0] H =
 am H a λ_ a=>af a 2 λa=>aS ab 46 a H λd=>ae R 214 200001 [.g (.ptr b 0),.g (.ptr c 0),.g a,.g d,.n 0] [] H:=by kernel_rfl
theorem wp{R:aM}{j k:Nat}{o:D}{q h:Int}{H:DH}:aV R 214 200001 [.g (.ptr j 0),.g (.ptr k 0),.g o,.n q,.n h] [] H =
 cond (decide (h<q)) (ay ab 46 o (.i h) λa=>bW ab 148 a H λa=>ah 3 a λa=>aw [.i 0,.str [],.nilrow] 0 a λa=>am H j λ_ b=>af b 0 λb=>af a 0 λc=>af a 1 λd=>af a 2 λa=>am H k λ_ e=>af e 0 λe=>aC ab .add 3 true e (.i 1) λe=>C R 178 [b,.agg [c,d,a],e] H λ_ H=>ae R 214 200001 [.g (.ptr j 0),.g (.ptr k 0),.g o,.n q,.n (di (h+1))] [] H) (ret (.tuple []) H):=by kernel_rfl
theorem ahB{R:aM}{d:ak}{H:DH}:aA R 142 [.str d] H =
 aY H (cond (decide ((d.length:Int)>24)) (ret (.i 0) H) (C R 151 [.str d] H λa H=>ei a 0 λ_=>ei a 1 λb=>ei a 2 λa=>ah 2 a λa=>aw [.i 0,.i 0] 0 a λa=>af a 1 λa=>aC ab .neq 34 true a (.i 0) λa=>brD a (ret (.i 0) H) (aS ab 153 b H λa=>aC ab .neq 3 true a (.i 1) λa=>brD a (ret (.i 0) H) (ay ab 153 b (.i 0) λa=>ct a 2 λa=>bW ab 9 a H λa=>aC ab .neq 9 false a (.str d) λa=>brD a (ret (.i 0) H) (ay ab 153 b (.i 0) λa=>ct a 0 λa=>bW ab 3 a H λa=>ret a H))))):=by kernel_rfl
theorem ahI{R:aM}{j:Nat}{a b:Int}{c e:ak}{g h:aO}{k:Int}{H:DH}:aA R 133 [.ptr j 0,.agg (xE a b c e g h),.i k] H =
 aY H (let d:=H++[.cells 0 [.ptr j 0]];let a:=d++[.cells 0 (xE a b c e g h)];let b:=a++[.cells 0 [.i k]];am b H.length λ_ c=>af c 0 λc=>am b a.length λ_ e=>af e 0 λe=>C R 171 [c,e,.func 173 [] [.ptr d.length 0,.ptr H.length 0,.ptr a.length 0]] b λ_ H=>ret (.tuple []) H):=by kernel_rfl
theorem ahJ{R:aM}{h:Nat}{a:ak}{b:aO}{j:Int}{H:DH}:aA R 132 [.ptr h 0,.agg [.str a,.row 2 b],.i j] H =
 aY H (let c:=H++[.cells 0 [.ptr h 0]];let a:=c++[.cells 0 [.str a,.row 2 b]];let b:=a++[.cells 0 [.i j]];am b H.length λ_ d=>af d 0 λd=>am b a.length λ_ e=>af e 0 λe=>C R 171 [d,e,.func 172 [] [.ptr c.length 0,.ptr H.length 0,.ptr a.length 0]] b λ_ H=>ret (.tuple []) H):=by kernel_rfl
theorem aha{R:aM}{a:Int}{b:ak}{c:aO}{e:Nat}{H:DH}:aA R 189 [.agg [.i a,.str b,.row 3 c],.ptr e 0] H =
 am H e λ_ d=>af d 0 λd=>jC bV d λd e f=>C R d (e++([.agg [.i a,.str b,.row 3 c]]++f)) H λa H=>ib .not a λa=>ret a H:=by kernel_rfl
theorem ahZ{R:aM}{d:aO}{e:D}{H:DH}:aA R 100 [.row 8 d,e] H =
 aY H (ah 1 e λa=>let a:=H++[.cells 0 a];C R 143 [.row 8 d,.func 144 [] [.ptr H.length 0]] a λa H=>ib .not a λa=>ret a H):=by kernel_rfl
theorem ahh{R:aM}{d:ak}{a:Nat}{H:DH}:aA R 182 [.str d,.ptr a 0] H =
 am H a λ_ a=>af a 0 λa=>jC bV a λa b c=>C R a (b++([.str d]++c)) H λa H=>ib .not a λa=>ret a H:=by kernel_rfl
theorem ahv{R:aM}{d:aO}{e:ak}{H:DH}:aA R 149 [.row 1 d,.str e] H =
 C R 190 [.row 1 d,.str e] H λa H=>aC ab .geq 3 true a (.i 0) λa=>ret a H:=by kernel_rfl
theorem agK{R:aM}{a:Int}{H:DH}:aA R 235 [.int .u8 a] H =
 cond (decide ((48:Int)<=a)) (ret (.bool (decide (a<=57))) H) (ret (.bool false) H):=by kernel_rfl
theorem agQ{R:aM}{e:Nat}{H:DH}:aA R 221 [.ptr e 0] H =
 C R 234 [.ptr e 0,.i 0] H λa H=>C R 235 [a] H λb H=>brD b (C R 236 [.ptr e 0] H λa H=>ah 4 a λa=>aw (xT 0 0 [] 0) 0 a λa=>af a 0 λb=>af a 1 λc=>af a 2 λd=>af a 3 λa=>ret (.agg [b,c,d,a]) H) (aC ab .eql 5 true a (.int .u8 126) λb=>brD b (C R 236 [.ptr e 0] H λa H=>ah 4 a λa=>aw (xT 0 0 [] 0) 0 a λa=>af a 0 λb=>af a 1 λc=>af a 2 λd=>af a 3 λa=>ret (.agg [b,c,d,a]) H) (C R 237 [a] H λb H=>brD b (C R 238 [.ptr e 0,.i 2] H λa H=>ah 4 a λa=>aw (xT 0 0 [] 0) 0 a λa=>af a 0 λb=>af a 1 λc=>af a 2 λd=>af a 3 λa=>ret (.agg [b,c,d,a]) H) (C R 239 [a] H λb H=>brD b (C R 238 [.ptr e 0,.i 3] H λa H=>ah 4 a λa=>aw (xT 0 0 [] 0) 0 a λa=>af a 0 λb=>af a 1 λc=>af a 2 λd=>af a 3 λa=>ret (.agg [b,c,d,a]) H) (aC ab .eql 5 true a (.int .u8 39) λb=>brD b (C R 234 [.ptr e 0,.i 1] H λb H=>C R 237 [b] H λb H=>brD b (C R 230 [.ptr e 0,.i 1,.func 241 [] []] H λa H=>aC ab .add 3 true (.i 1) a λa=>C R 240 [.ptr e 0,.i 4,a] H λa H=>ah 4 a λa=>aw (xT 0 0 [] 0) 0 a λa=>af a 0 λb=>af a 1 λc=>af a 2 λd=>af a 3 λa=>ret (.agg [b,c,d,a]) H) (ae R 221 11 [.g (.ptr e 0),.lp 0 0,.g a] [(0,(xT 0 0 [] 0))] H)) (ae R 221 11 [.g (.ptr e 0),.lp 0 0,.g a] [(0,(xT 0 0 [] 0))] H))))):=by kernel_rfl
theorem Vu{R:aM}{h:Nat}{j a b:Int}{c:ak}{e:Int}{H:DH}:aV R 221 11 [.g (.ptr h 0),.lp 0 0,.g (.int .u8 j)] [(0,xT a b c e)] H =
 C R 232 [.ptr h 0,.str [61,62]] H λd H=>brD d (C R 240 [.ptr h 0,.i 6,.i 2] H λd H=>ah 4 d λd=>aw (xT a b c e) 0 d λa=>af a 0 λb=>af a 1 λc=>af a 2 λd=>af a 3 λa=>ret (.agg [b,c,d,a]) H) (C R 232 [.ptr h 0,.str [45,62]] H λd H=>brD d (C R 240 [.ptr h 0,.i 6,.i 2] H λd H=>ah 4 d λd=>aw (xT a b c e) 0 d λa=>af a 0 λb=>af a 1 λc=>af a 2 λd=>af a 3 λa=>ret (.agg [b,c,d,a]) H) (C R 242 [.str [40,41,44,59,58,124,61,60,43,45,42,47,37,95],.int .u8 j] H λd H=>aC ab .geq 3 true d (.i 0) λd=>brD d (C R 240 [.ptr h 0,.i 6,.i 1] H λd H=>ah 4 d λd=>aw (xT a b c e) 0 d λa=>af a 0 λb=>af a 1 λc=>af a 2 λd=>af a 3 λa=>ret (.agg [b,c,d,a]) H) (am H h λ_ a=>af a 1 λa=>ah 1 a λa=>aw [.i 0,.i 0] 0 a λa=>aw a 1 [.i 11] λa=>pan (.iface 246 (.agg a)) H))):=by kernel_rfl
theorem f219{R:aM}{y a:Nat}{H:DH}:aA R 219 [.yld y,.ptr a 0] H =
 am H a λ_ b=>af b 0 λb=>C R 220 [b] H λ_ H=>ae R 219 200001 [.g (.yld y),.g (.ptr a 0)] [] H:=by kernel_rfl
theorem HN{R:aM}{h e:Nat}{H:DH}:aV R 219 200001 [.g (.yld h),.g (.ptr e 0)] [] H =
 am H e λ_ a=>af a 0 λa=>kC a λa=>ct a 0 λa=>ct a 1 λa=>bW ab 3 a H λa=>am H e λ_ b=>af b 0 λb=>kC b λb=>ct b 0 λb=>ct b 0 λb=>bW ab 9 b H λb=>aS ab 9 b H λb=>aC ab .lss 3 false a b λa=>brD a (am H e λ_ a=>af a 0 λa=>C R 221 [a] H λa H=>ah 4 a λa=>aw (xT 0 0 [] 0) 0 a λa=>am H e λ_ b=>af b 0 λb=>kC b λc=>ct c 0 λc=>ct c 1 λc=>bW ab 3 c H λc=>af a 2 λd=>aS ab 9 d H λd=>aC ab .add 3 false c d λc=>kC b λb=>ct b 0 λb=>ct b 1 λb=>ah 1 c λc=>IY b c H λH=>af a 0 λb=>af a 1 λc=>af a 2 λd=>af a 3 λa=>aU (R (.call 0 [.agg [b,c,d,a]] (some (.round h))) H) (λa H=>ib .not a λa=>brD a (ret (.tuple []) H) (am H e λ_ a=>af a 0 λa=>C R 220 [a] H λ_ H=>ae R 219 200001 [.g (.yld h),.g (.ptr e 0)] [] H)) λa H=>some ⟨.pan a,none,H⟩) (ret (.tuple []) H):=by kernel_rfl
theorem f55{R:aM}{a:aO}{H:DH}:aA R 55 [.agg [.row 14 a]] H =
 aY H (let b:=H++[.cells 0 [.i 0]];ae R 55 200003 [.g (.ptr H.length 0),.g (.row 14 a),.n a.length,.n 0] [] b):=by kernel_rfl
theorem AL{R:aM}{q:Nat}{r:aO}{a b:Int}{H:DH}:aV R 55 200003 [.g (.ptr q 0),.g (.row 14 r),.n a,.n b] [] H =
 cond (decide (b<a)) (dV b λc=>bZ r c λc=>af c 0 λd=>af c 1 λe=>af c 2 λf=>af c 3 λg=>af c 4 λh=>af c 5 λi=>af c 6 λj=>af c 7 λk=>af c 8 λl=>af c 9 λm=>af c 10 λn=>af c 11 λo=>af c 12 λp=>af c 13 λc=>C R 90 [.ptr q 0,.agg [d,e,f,g,h,i,j,k,l,m,n,o,p,c]] H λ_ H=>ae R 55 200003 [.g (.ptr q 0),.g (.row 14 r),.n a,.n (di (b+1))] [] H) (am H q λ_ a=>af a 0 λa=>ret a H):=by kernel_rfl
theorem f217{R:aM}{d:aO}{a:Nat}{H:DH}:aA R 217 [.row 6 d,.func 187 [] [.ptr a 0]] H =
 ae R 217 200002 [.g (.row 6 d),.g (.func 187 [] [.ptr a 0]),.n d.length,.n 0] [] H:=by kernel_rfl
theorem wm{R:aM}{k:aO}{o:D}{q j:Int}{H:DH}:aV R 217 200002 [.g (.row 6 k),.g o,.n q,.n j] [] H =
 cond (decide (j<q)) (dV j λa=>bZ k a λa=>af a 0 λb=>af a 1 λc=>af a 2 λd=>af a 3 λe=>af a 4 λf=>af a 5 λa=>jC bV o λg h i=>C R g (h++([.agg [b,c,d,e,f,a]]++i)) H λa H=>brD a (ret (.i j) H) (ae R 217 200002 [.g (.row 6 k),.g o,.n q,.n (di (j+1))] [] H)) (ret (.i (-1)) H):=by kernel_rfl
theorem agZ{R:aM}{a:aO}{d:ak}{H:DH}:aA R 190 [.row 1 a,.str d] H =
 ae R 190 200002 [.g (.row 1 a),.g (.str d),.n a.length,.n 0] [] H:=by kernel_rfl
theorem wu{R:aM}{e:aO}{h:ak}{j d:Int}{H:DH}:aV R 190 200002 [.g (.row 1 e),.g (.str h),.n j,.n d] [] H =
 cond (decide (d<j)) (dV d λa=>bZ e a λa=>af a 0 λa=>aC ab .eql 9 false (.str h) a λa=>brD a (ret (.i d) H) (ae R 190 200002 [.g (.row 1 e),.g (.str h),.n j,.n (di (d+1))] [] H)) (ret (.i (-1)) H):=by kernel_rfl
theorem agL{R:aM}{d:Nat}{e:Int}{H:DH}:aA R 234 [.ptr d 0,.i e] H =
 am H d λ_ a=>af a 1 λa=>aC ab .add 3 false a (.i e) λa=>am H d λ_ b=>af b 0 λb=>aS ab 9 b H λb=>aC ab .geq 3 false a b λa=>brD a (ret (.int .u8 0) H) (am H d λ_ a=>af a 0 λa=>am H d λ_ b=>af b 1 λb=>aC ab .add 3 false b (.i e) λb=>kb ab 9 a b λa=>ret a H):=by kernel_rfl
theorem ahY{R:aM}{a b:ak}{c e:Int}{g h:ak}{j k:aO}{H:DH}:aA R 101 [.agg [.str a,.str b,.i c,.i e,.str g,.str h,.row 6 j,.row 3 k]] H =
 C R 98 [.str a] H λa H=>brD a (C R 98 [.str b] H λa H=>brD a (C R 102 [.agg (xE c e g h j k)] H λa H=>ret a H) (ret (.bool false) H)) (ret (.bool false) H):=by kernel_rfl
theorem f241{R:aM}{d:Int}{H:DH}:aA R 241 [.int .u8 d] H =
 C R 237 [.int .u8 d] H λa H=>brD a (ret (.bool true) H) (C R 239 [.int .u8 d] H λa H=>brD a (ret (.bool true) H) (C R 235 [.int .u8 d] H λa H=>brD a (ret (.bool true) H) (ret (.bool (d==95)) H))):=by kernel_rfl
theorem f138{R:aM}{d:aO}{e:D}{H:DH}:aA R 138 [.row 2 d,e] H =
 aY H (ah 1 e λa=>let a:=H++[.cells 0 a];C R 179 [.row 2 d,.func 180 [] [.ptr H.length 0]] a λa H=>ib .not a λa=>ret a H):=by kernel_rfl
theorem f143{R:aM}{d:aO}{a:Nat}{H:DH}:aA R 143 [.row 8 d,.func 144 [] [.ptr a 0]] H =
 C R 185 [.row 8 d,.func 144 [] [.ptr a 0]] H λa H=>aC ab .geq 3 true a (.i 0) λa=>ret a H:=by kernel_rfl
theorem agO{R:aM}{a:Int}{H:DH}:aA R 231 [.int .u8 a] H =
 cond (a==32) (ret (.bool true) H) (cond (a==9) (ret (.bool true) H) (cond (a==10) (ret (.bool true) H) (ret (.bool (a==13)) H))):=by kernel_rfl
theorem f89{R:aM}{o:Nat}{a b:Int}{c e:ak}{h j:aO}{k l:Int}{m:aO}{q:Int}{H:DH}:aA R 89 [.ptr o 0,.agg (xE a b c e h j),.agg [.i k,.i l,.row 1 m],.i q] H =
 aY H (am H o λ_ d=>af d 1 λd=>aS ab 87 d H λd=>am H o λ_ f=>af f 1 λf=>bX (aF ab 93) 11 f [[.i a,.i b,.str c,.str e,.row 6 h,.row 3 j,.i k,.i l,.row 1 m,.i q,.nilrow]] H λf H=>ah 1 f λf=>am H o λg i=>aw i 1 f λf=>let H:=H.set o (.cells (g+1) f);let f:=H++[.buf 1 true false []];ae R 89 200005 [.g (.ptr o 0),.n q,.lp 0 0,.lp 1 0,.g d,.g (.buf 1 H.length 0),.g (.row 6 h),.n h.length,.n 0] [(0,xE a b c e h j),(0,[.i k,.i l,.row 1 m])] f):=by kernel_rfl
theorem AC{R:aM}{z:Nat}{G F:Int}{a b:Nat}{c:aO}{e h j k:Int}{l m:ak}{p q:aO}{r s:Int}{t:aO}{H:DH}:aV R 89 200005 [.g (.ptr z 0),.n G,.lp 0 0,.lp 1 0,.n F,.g (.buf 1 a b),.g (.row 6 c),.n e,.n h] [(0,xE j k l m p q),(0,[.i r,.i s,.row 1 t])] H =
 cond (decide (h<e)) (dV h λd=>bZ c d λd=>af d 0 λf=>af d 1 λg=>af d 2 λi=>af d 3 λn=>af d 4 λo=>af d 5 λd=>C R 131 [.row 1 t] H λu H=>bX (aF ab 3) 1 u [[.i h]] H λu H=>fH (.fz 1) 0 u H λu H=>ah 1 u λu=>aw [.i r,.i s,.row 1 t] 2 u λu=>af u 0 λv=>af u 1 λw=>af u 2 λu=>C R 89 [.ptr z 0,.agg [f,g,i,n,o,d],.agg [v,w,u],.i G] H λd H=>ah 1 d λd=>bX (aF ab 3) 1 (.buf 1 a b) [d] H λa H=>fH (.acc 1) 0 a H λa H=>ae R 89 200005 [.g (.ptr z 0),.n G,.lp 0 0,.lp 1 0,.n F,.g a,.g (.row 6 c),.n e,.n (di (h+1))] [(0,xE j k l m p q),(0,[.i r,.i s,.row 1 t])] H) (am H z λ_ c=>af c 1 λc=>iW (.fz 1) (.buf 1 a b) H λd H=>ay ab 87 c (.i F) λc=>ct c 10 λc=>ah 1 d λd=>IY c d H λH=>cond (j==5) (am H z λ_ c=>af c 5 λc=>boK (Nat.blt 0 b) (dl H a b λ_ _ _ a=>bZ a 0 λa=>af a 0 λa=>jp ab 89 c a (.str m) H λH=>ret (.i F) H)) (cond (j==7) (am H z λ_ c=>af c 5 λc=>boK (Nat.blt 0 b) (dl H a b λ_ _ _ a=>bZ a 0 λa=>af a 0 λa=>jp ab 89 c a (.str m) H λH=>ret (.i F) H)) (ret (.i F) H))):=by kernel_rfl
theorem agH{R:aM}{d:Nat}{e:Int}{H:DH}:aA R 238 [.ptr d 0,.i e] H =
 C R 230 [.ptr d 0,.i 0,.func 241 [] []] H λa H=>C R 234 [.ptr d 0,a] H λb H=>aC ab .eql 5 true b (.int .u8 39) λb=>brD b (aC ab .add 3 true a (.i 1) λb=>C R 230 [.ptr d 0,b,.func 235 [] []] H λb H=>aC ab .gtr 3 true b (.i 0) λc=>brD c (aC ab .add 3 true (.i 1) b λb=>aC ab .add 3 false a b λa=>ae R 238 6 [.g (.ptr d 0),.n e,.lp 0 0,.g a] [(0,(xT 0 0 [] 0))] H) (ae R 238 6 [.g (.ptr d 0),.n e,.lp 0 0,.g a] [(0,(xT 0 0 [] 0))] H)) (ae R 238 6 [.g (.ptr d 0),.n e,.lp 0 0,.g a] [(0,(xT 0 0 [] 0))] H):=by kernel_rfl
theorem aaj{R:aM}{h:Nat}{j k a b:Int}{c:ak}{e:Int}{H:DH}:aV R 238 6 [.g (.ptr h 0),.n j,.lp 0 0,.n k] [(0,xT a b c e)] H =
 C R 240 [.ptr h 0,.i j,.i k] H λa H=>ah 4 a λa=>aw (xT 0 0 [] 0) 0 a λa=>am H h λ_ b=>af b 2 λb=>af a 2 λc=>ip ab 302 b c true H λb=>ei b 0 λc=>ei b 1 λb=>brD b (ah 1 c λb=>aw a 0 b λa=>af a 0 λb=>af a 1 λc=>af a 2 λd=>af a 3 λa=>ret (.agg [b,c,d,a]) H) (af a 0 λb=>af a 1 λc=>af a 2 λd=>af a 3 λa=>ret (.agg [b,c,d,a]) H):=by kernel_rfl
theorem agP{R:aM}{a:Nat}{d:Int}{e:D}{H:DH}:aA R 230 [.ptr a 0,.i d,e] H =
 ae R 230 200002 [.g (.ptr a 0),.n d,.g e,.n 0] [] H:=by kernel_rfl
theorem HL{R:aM}{e:Nat}{j:Int}{k:D}{h:Int}{H:DH}:aV R 230 200002 [.g (.ptr e 0),.n j,.g k,.n h] [] H =
 am H e λ_ a=>af a 1 λa=>aC ab .add 3 false a (.i j) λa=>aC ab .add 3 false a (.i h) λa=>am H e λ_ b=>af b 0 λb=>aS ab 9 b H λb=>aC ab .lss 3 false a b λa=>brD a (am H e λ_ a=>af a 0 λa=>am H e λ_ b=>af b 1 λb=>aC ab .add 3 false b (.i j) λb=>aC ab .add 3 false b (.i h) λb=>kb ab 9 a b λa=>jC bV k λb c d=>aU (R (.call b (c++([a]++d)) none) H) (λa H=>brD a (ae R 230 200002 [.g (.ptr e 0),.n j,.g k,.n (di (h+1))] [] H) (ret (.i h) H)) λ_ _=>none) (ret (.i h) H):=by kernel_rfl
theorem ahn{R:aM}{a b c:Nat}{H:DH}:aA R 176 [.ptr a 0,.ptr b 0,.ptr c 0] H =
 am H a λ_ a=>af a 1 λa=>aS ab 99 a H λd=>ae R 176 200001 [.g (.ptr b 0),.g (.ptr c 0),.g a,.g d,.n 0] [] H:=by kernel_rfl
theorem wy{R:aM}{h j:Nat}{k:D}{o e:Int}{H:DH}:aV R 176 200001 [.g (.ptr h 0),.g (.ptr j 0),.g k,.n o,.n e] [] H =
 cond (decide (e<o)) (ay ab 99 k (.i e) λa=>bW ab 101 a H λa=>ah 2 a λa=>aw [.str [],.nilrow] 0 a λa=>am H h λ_ b=>af b 0 λb=>af a 0 λc=>af a 1 λa=>am H j λ_ d=>af d 0 λd=>aC ab .add 3 true d (.i 1) λd=>C R 134 [b,.agg [c,a],d] H λ_ H=>ae R 176 200001 [.g (.ptr h 0),.g (.ptr j 0),.g k,.n o,.n (di (e+1))] [] H) (ret (.tuple []) H):=by kernel_rfl
theorem agS{R:aM}{d:aO}{a:Nat}{H:DH}:aA R 216 [.row 1 d,.func 182 [] [.ptr a 0]] H =
 ae R 216 200002 [.g (.row 1 d),.g (.func 182 [] [.ptr a 0]),.n d.length,.n 0] [] H:=by kernel_rfl
theorem wn{R:aM}{h:aO}{j:D}{k e:Int}{H:DH}:aV R 216 200002 [.g (.row 1 h),.g j,.n k,.n e] [] H =
 cond (decide (e<k)) (dV e λa=>bZ h a λa=>af a 0 λa=>jC bV j λb c d=>C R b (c++([a]++d)) H λa H=>brD a (ret (.i e) H) (ae R 216 200002 [.g (.row 1 h),.g j,.n k,.n (di (e+1))] [] H)) (ret (.i (-1)) H):=by kernel_rfl
theorem ahp{R:aM}{h:Nat}{a:Int}{b:ak}{c:aO}{j:Int}{H:DH}:aA R 174 [.ptr h 0,.agg [.i a,.str b,.row 3 c],.i j] H =
 aY H (let d:=H++[.cells 0 [.ptr h 0]];let a:=d++[.cells 0 [.i a,.str b,.row 3 c]];let b:=a++[.cells 0 [.i j]];am b H.length λ_ c=>af c 0 λc=>am b a.length λ_ e=>af e 0 λe=>C R 171 [c,e,.func 213 [] [.ptr d.length 0,.ptr H.length 0,.ptr a.length 0]] b λ_ H=>ret (.tuple []) H):=by kernel_rfl
theorem ahw{R:aM}{e:ak}{d:Int}{H:DH}:aA R 148 [.str e,.i d] H =
 cond (e==[44]) (cond (decide (d>=2)) (cond (decide (d<=4)) (ret (.bool true) H) (C R 117 [.str e] H λa H=>brD a (ret (.bool (decide (d<=16))) H) (ret (.bool false) H))) (C R 117 [.str e] H λa H=>brD a (ret (.bool (decide (d<=16))) H) (ret (.bool false) H))) (C R 117 [.str e] H λa H=>brD a (ret (.bool (decide (d<=16))) H) (ret (.bool false) H)):=by kernel_rfl
theorem ahf{R:aM}{a:ak}{b:aO}{c:Nat}{H:DH}:aA R 184 [.agg [.str a,.row 2 b],.ptr c 0] H =
 am H c λ_ c=>af c 0 λc=>jC bV c λc d e=>C R c (d++([.agg [.str a,.row 2 b]]++e)) H λa H=>ib .not a λa=>ret a H:=by kernel_rfl
theorem f58{R:aM}{d:aO}{e:D}{H:DH}:aA R 58 [.row 14 d,e] H =
 aY H (ah 1 e λa=>let a:=H++[.cells 0 a];C R 92 [.row 14 d,.func 93 [] [.ptr H.length 0]] a λa H=>ib .not a λa=>ret a H):=by kernel_rfl
theorem ahb{R:aM}{d:aO}{a:Nat}{H:DH}:aA R 188 [.row 3 d,.func 189 [] [.ptr a 0]] H =
 C R 218 [.row 3 d,.func 189 [] [.ptr a 0]] H λa H=>aC ab .geq 3 true a (.i 0) λa=>ret a H:=by kernel_rfl
theorem f98{R:aM}{d:ak}{H:DH}:aA R 98 [.str d] H =
 C R 142 [.str d] H λa H=>aC ab .eql 3 true a (.i 2) λa=>ret a H:=by kernel_rfl
theorem aht{R:aM}{j:ak}{H:DH}:aA R 151 [.str j] H =
 let a:=H++[.cells 0 [.nilrow]];let b:=a++[.cells 0 [.i 0,.i 0]];C R 191 [.str j] b λb c=>aU (R (.call 193 [b] none) c) (λc d=>Oe c λe f g=>aU (R (.call e (f++(.yld (d.length+1)::g)) none) (d++[.coll,Zo de 151 [0,2,3,4,6,7,8,9,10] [.g (.str j),.g b,.g (.ptr H.length 0),.g (.ptr a.length 0),.g (.str j),.g b,.g (.func 192 [] [.ptr H.length 0,.ptr a.length 0]),.g b,.g c]])) (λ_ c=>Df c (d.length+1) λc=>am c H.length λ_ e=>af e 0 λe=>ah 1 e λe=>am c H.length λf g=>aw g 0 e λe=>let e:=c.set H.length (.cells (f+1) e);am (cK e [c]) a.length λ_ c=>af c 0 λf=>af c 1 λc=>am e a.length λg h=>aw h 0 [f,c] λc=>let c:=e.set a.length (.cells (g+1) c);uf c d.length λc=>iH (R (.call 192 [.ptr H.length 0,.ptr a.length 0] (some .returning)) c) (λc=>am c H.length λ_ d=>af d 0 λd=>am c a.length λ_ a=>af a 0 λe=>af a 1 λa=>ret (.tuple [b,d,.agg [e,a]]) c) λa H=>some ⟨.pan a,none,H⟩) λc e=>uf e d.length λd=>iH (R (.call 192 [.ptr H.length 0,.ptr a.length 0] (some (.panicking c))) d) (λc=>am c H.length λ_ d=>af d 0 λd=>am c a.length λ_ a=>af a 0 λe=>af a 1 λa=>ret (.tuple [b,d,.agg [e,a]]) c) λa H=>some ⟨.pan a,none,H⟩) λc d=>iH (R (.call 192 [.ptr H.length 0,.ptr a.length 0] (some (.panicking c))) d) (λc=>am c H.length λ_ d=>af d 0 λd=>am c a.length λ_ a=>af a 0 λe=>af a 1 λa=>ret (.tuple [b,d,.agg [e,a]]) c) λa H=>some ⟨.pan a,none,H⟩:=by kernel_rfl
theorem Sj{R:aM}{j:ak}{k:D}{i n:Nat}{q:ak}{r s u a:D}{b c:Int}{e:ak}{h:Int}{o:Nat}{H:DH}:YD de R 200 151 o [0,2,3,4,6,7,8,9,10] [.g (.str j),.g k,.g (.ptr i 0),.g (.ptr n 0),.g (.str q),.g r,.g s,.g u,.g a] [.agg (xT b c e h)] H =
 let a:=H++[.cells 0 (xT 0 0 [] 0)];am a H.length λd f=>aw f 0 (xT b c e h) λb=>let a:=a.set H.length (.cells (d+1) b);OF a o λa=>am a i λ_ b=>af b 0 λb=>am a H.length λ_ c=>af c 0 λd=>af c 1 λe=>af c 2 λf=>af c 3 λc=>bX (aF ab 162) 4 b [[d,e,f,c]] a λa H=>ah 1 a λa=>am H i λb c=>aw c 0 a λa=>let H:=H.set i (.cells (b+1) a);yR H o:=by kernel_rfl
theorem agM{R:aM}{d:Nat}{H:DH}:aA R 233 [.ptr d 0] H =
 am H d λ_ a=>af a 1 λa=>ae R 233 200002 [.g (.ptr d 0),.g a,.n 0] [] H:=by kernel_rfl
theorem HK{R:aM}{d:Nat}{h e:Int}{H:DH}:aV R 233 200002 [.g (.ptr d 0),.n h,.n e] [] H =
 am H d λ_ a=>af a 1 λa=>am H d λ_ b=>af b 0 λb=>aS ab 9 b H λb=>aC ab .geq 3 false a b λa=>brD a (pan (.iface 246 (.agg [.i h,.i 12])) H) (C R 232 [.ptr d 0,.str [40,42]] H λa H=>brD a (cond (decide (e>=100)) (am H d λ_ a=>af a 1 λa=>ah 1 a λa=>aw [.i 0,.i 0] 0 a λa=>aw a 1 [.i 6] λa=>pan (.iface 246 (.agg a)) H) (am H d λ_ a=>af a 1 λa=>aC ab .add 3 true a (.i 2) λa=>ah 1 a λa=>am H d λb c=>aw c 1 a λa=>let H:=H.set d (.cells (b+1) a);ae R 233 200002 [.g (.ptr d 0),.n h,.n (di (e+1))] [] H)) (C R 232 [.ptr d 0,.str [42,41]] H λa H=>brD a (am H d λ_ a=>af a 1 λa=>aC ab .add 3 true a (.i 2) λa=>ah 1 a λa=>am H d λb c=>aw c 1 a λa=>let H:=H.set d (.cells (b+1) a);cond ((di (e - 1))==0) (ret (.tuple []) H) (ae R 233 200002 [.g (.ptr d 0),.n h,.n (di (e - 1))] [] H)) (am H d λ_ a=>af a 1 λa=>aC ab .add 3 true a (.i 1) λa=>ah 1 a λa=>am H d λb c=>aw c 1 a λa=>let H:=H.set d (.cells (b+1) a);ae R 233 200002 [.g (.ptr d 0),.n h,.n e] [] H))):=by kernel_rfl
theorem agR{R:aM}{a:Nat}{H:DH}:aA R 220 [.ptr a 0] H =
 ae R 220 200000 [.g (.ptr a 0)] [] H:=by kernel_rfl
theorem HM{R:aM}{e:Nat}{H:DH}:aV R 220 200000 [.g (.ptr e 0)] [] H =
 aU (R (.call 230 [.ptr e 0,.i 0,.func 231 [] []] none) H) (λa b=>am (cK b [H]) e λ_ c=>af c 1 λc=>aC ab .add 3 false c a λa=>ah 1 a λa=>am b e λc d=>aw d 1 a λa=>let H:=b.set e (.cells (c+1) a);C R 232 [.ptr e 0,.str [40,42]] H λa H=>ib .not a λa=>brD a (ret (.tuple []) H) (am H e λ_ a=>af a 1 λa=>C R 233 [.ptr e 0] H λ_ H=>am H e λ_ b=>af b 3 λb=>am H e λ_ c=>af c 1 λc=>ah 1 a λa=>aw [.i 0,.i 0] 0 a λa=>ah 1 c λc=>aw a 1 c λa=>ah 2 (.agg a) λa=>bX (aF ab 322) 2 b [a] H λa H=>ah 1 a λa=>am H e λb c=>aw c 3 a λa=>let H:=H.set e (.cells (b+1) a);ae R 220 200000 [.g (.ptr e 0)] [] H)) λ_ _=>none:=by kernel_rfl
theorem f172{R:aM}{a b c:Nat}{H:DH}:aA R 172 [.ptr a 0,.ptr b 0,.ptr c 0] H =
 am H a λ_ a=>af a 1 λa=>aS ab 99 a H λd=>ae R 172 200001 [.g (.ptr b 0),.g (.ptr c 0),.g a,.g d,.n 0] [] H:=by kernel_rfl
theorem wB{R:aM}{h j:Nat}{k:D}{o e:Int}{H:DH}:aV R 172 200001 [.g (.ptr h 0),.g (.ptr j 0),.g k,.n o,.n e] [] H =
 cond (decide (e<o)) (ay ab 99 k (.i e) λa=>bW ab 101 a H λa=>ah 2 a λa=>aw [.str [],.nilrow] 0 a λa=>am H h λ_ b=>af b 0 λb=>af a 0 λc=>af a 1 λa=>am H j λ_ d=>af d 0 λd=>aC ab .add 3 true d (.i 1) λd=>C R 132 [b,.agg [c,a],d] H λ_ H=>ae R 172 200001 [.g (.ptr h 0),.g (.ptr j 0),.g k,.n o,.n (di (e+1))] [] H) (ret (.tuple []) H):=by kernel_rfl
theorem agT{R:aM}{d:aO}{a:Nat}{H:DH}:aA R 215 [.row 2 d,.func 180 [] [.ptr a 0]] H =
 ae R 215 200002 [.g (.row 2 d),.g (.func 180 [] [.ptr a 0]),.n d.length,.n 0] [] H:=by kernel_rfl
theorem wo{R:aM}{j:aO}{k:D}{o h:Int}{H:DH}:aV R 215 200002 [.g (.row 2 j),.g k,.n o,.n h] [] H =
 cond (decide (h<o)) (dV h λa=>bZ j a λa=>af a 0 λb=>af a 1 λa=>jC bV k λc d e=>C R c (d++([.agg [b,a]]++e)) H λa H=>brD a (ret (.i h) H) (ae R 215 200002 [.g (.row 2 j),.g k,.n o,.n (di (h+1))] [] H)) (ret (.i (-1)) H):=by kernel_rfl
theorem ahl{R:aM}{h:Nat}{a:Int}{b:ak}{c:aO}{j:Int}{H:DH}:aA R 178 [.ptr h 0,.agg [.i a,.str b,.row 3 c],.i j] H =
 aY H (let d:=H++[.cells 0 [.ptr h 0]];let a:=d++[.cells 0 [.i a,.str b,.row 3 c]];let b:=a++[.cells 0 [.i j]];am b H.length λ_ c=>af c 0 λc=>am b a.length λ_ e=>af e 0 λe=>C R 175 [c,e,.func 214 [] [.ptr d.length 0,.ptr H.length 0,.ptr a.length 0]] b λ_ H=>ret (.tuple []) H):=by kernel_rfl
theorem ahA{R:aM}{a b:ak}{c e:Int}{g h:ak}{j k:aO}{l:Nat}{H:DH}:aA R 144 [.agg [.str a,.str b,.i c,.i e,.str g,.str h,.row 6 j,.row 3 k],.ptr l 0] H =
 am H l λ_ d=>af d 0 λd=>jC bV d λd f i=>C R d (f++([.agg [.str a,.str b,.i c,.i e,.str g,.str h,.row 6 j,.row 3 k]]++i)) H λa H=>ib .not a λa=>ret a H:=by kernel_rfl
theorem ahj{R:aM}{a:ak}{b:aO}{c:Nat}{H:DH}:aA R 180 [.agg [.str a,.row 2 b],.ptr c 0] H =
 am H c λ_ c=>af c 0 λc=>jC bV c λc d e=>C R c (d++([.agg [.str a,.row 2 b]]++e)) H λa H=>ib .not a λa=>ret a H:=by kernel_rfl
theorem ahC{R:aM}{d:aO}{e:D}{H:DH}:aA R 141 [.row 2 d,e] H =
 aY H (ah 1 e λa=>let a:=H++[.cells 0 a];C R 183 [.row 2 d,.func 184 [] [.ptr H.length 0]] a λa H=>ib .not a λa=>ret a H):=by kernel_rfl
theorem ahi{R:aM}{d:aO}{a:Nat}{H:DH}:aA R 181 [.row 1 d,.func 182 [] [.ptr a 0]] H =
 C R 216 [.row 1 d,.func 182 [] [.ptr a 0]] H λa H=>aC ab .geq 3 true a (.i 0) λa=>ret a H:=by kernel_rfl
theorem f95{R:aM}{a:ak}{b:aO}{H:DH}:aA R 95 [.agg [.str a,.row 2 b]] H =
 cond (a==[]) (ret (.bool ((b.length:Int)==0)) H) (ret (.bool false) H):=by kernel_rfl
theorem agX{R:aM}{d:Nat}{H:DH}:aA R 193 [.ptr d 0] H =
 let a:=H++[.cells 0 [.ptr d 0]];ret (.func 219 [] [.ptr H.length 0]) a:=by kernel_rfl
theorem f90{R:aM}{d:Nat}{a:Int}{b:ak}{c e:aO}{h j:ak}{k l:aO}{m p:Int}{q r:ak}{s t:aO}{H:DH}:aA R 90 [.ptr d 0,.agg (xD a b c e h j k l m p q r s t)] H =
 cond (a==1) (ae R 90 200004 [.g (.ptr d 0),.g (.row 2 e),.n e.length,.n 0] [] H) (cond (a==2) (C R 132 [.ptr d 0,.agg [.str j,.row 2 k],.i 1] H λ_ H=>ret (.tuple []) H) (cond (a==3) (ae R 90 200016 [.g (.ptr d 0),.g (.row 8 l),.n l.length,.n 0] [] H) (cond (a==4) (C R 133 [.ptr d 0,.agg (xE m p q r s t),.i 1] H λ_ H=>ret (.tuple []) H) (cond (a==5) (C R 133 [.ptr d 0,.agg (xE m p q r s t),.i 1] H λ_ H=>ret (.tuple []) H) (ret (.tuple []) H))))):=by kernel_rfl
theorem AA{R:aM}{h:Nat}{a:aO}{b c:Int}{H:DH}:aV R 90 200004 [.g (.ptr h 0),.g (.row 2 a),.n b,.n c] [] H =
 cond (decide (c<b)) (dV c λd=>bZ a d λd=>af d 0 λ_=>af d 1 λd=>aS ab 99 d H λe=>ae R 90 200007 [.g (.ptr h 0),.g (.row 2 a),.n b,.n c,.g d,.g e,.n 0] [] H) (ret (.tuple []) H):=by kernel_rfl
theorem Ax{R:aM}{j:Nat}{a:aO}{b c:Int}{H:DH}:aV R 90 200016 [.g (.ptr j 0),.g (.row 8 a),.n b,.n c] [] H =
 cond (decide (c<b)) (dV c λd=>bZ a d λd=>af d 0 λ_=>af d 1 λ_=>af d 2 λe=>af d 3 λf=>af d 4 λg=>af d 5 λh=>af d 6 λi=>af d 7 λd=>C R 133 [.ptr j 0,.agg [e,f,g,h,i,d],.i 1] H λ_ H=>ae R 90 200016 [.g (.ptr j 0),.g (.row 8 a),.n b,.n (di (c+1))] [] H) (ret (.tuple []) H):=by kernel_rfl
theorem Az{R:aM}{k:Nat}{a:aO}{b c:Int}{e:D}{h j:Int}{H:DH}:aV R 90 200007 [.g (.ptr k 0),.g (.row 2 a),.n b,.n c,.g e,.n h,.n j] [] H =
 cond (decide (j<h)) (ay ab 99 e (.i j) λd=>bW ab 101 d H λd=>ah 2 d λd=>aw [.str [],.nilrow] 0 d λd=>af d 0 λf=>af d 1 λd=>C R 132 [.ptr k 0,.agg [f,d],.i 1] H λ_ H=>ae R 90 200007 [.g (.ptr k 0),.g (.row 2 a),.n b,.n c,.g e,.n h,.n (di (j+1))] [] H) (ae R 90 200004 [.g (.ptr k 0),.g (.row 2 a),.n b,.n (di (c+1))] [] H):=by kernel_rfl
theorem ahq{R:aM}{a b c:Nat}{H:DH}:aA R 173 [.ptr a 0,.ptr b 0,.ptr c 0] H =
 am H a λ_ d=>af d 4 λd=>aS ab 45 d H λe=>ae R 173 200001 [.g (.ptr a 0),.g (.ptr b 0),.g (.ptr c 0),.g d,.g e,.n 0] [] H:=by kernel_rfl
theorem wA{R:aM}{o j k:Nat}{q:D}{r a:Int}{H:DH}:aV R 173 200001 [.g (.ptr o 0),.g (.ptr j 0),.g (.ptr k 0),.g q,.n r,.n a] [] H =
 cond (decide (a<r)) (ay ab 45 q (.i a) λb=>bW ab 48 b H λb=>ah 6 b λb=>aw [.i 0,.i 0,.str [],.str [],.nilrow,.nilrow] 0 b λb=>am H j λ_ c=>af c 0 λc=>af b 0 λd=>af b 1 λe=>af b 2 λf=>af b 3 λg=>af b 4 λh=>af b 5 λb=>am H k λ_ i=>af i 0 λi=>aC ab .add 3 true i (.i 1) λi=>C R 133 [c,.agg [d,e,f,g,h,b],i] H λ_ H=>ae R 173 200001 [.g (.ptr o 0),.g (.ptr j 0),.g (.ptr k 0),.g q,.n r,.n (di (a+1))] [] H) (am H o λ_ a=>af a 5 λa=>aS ab 46 a H λb=>ae R 173 200006 [.g (.ptr j 0),.g (.ptr k 0),.g a,.g b,.n 0] [] H):=by kernel_rfl
theorem wz{R:aM}{j k:Nat}{a:D}{b c:Int}{H:DH}:aV R 173 200006 [.g (.ptr j 0),.g (.ptr k 0),.g a,.n b,.n c] [] H =
 cond (decide (c<b)) (ay ab 46 a (.i c) λd=>bW ab 148 d H λd=>ah 3 d λd=>aw [.i 0,.str [],.nilrow] 0 d λd=>am H j λ_ e=>af e 0 λe=>af d 0 λf=>af d 1 λg=>af d 2 λd=>am H k λ_ h=>af h 0 λh=>aC ab .add 3 true h (.i 1) λh=>C R 174 [e,.agg [f,g,d],h] H λ_ H=>ae R 173 200006 [.g (.ptr j 0),.g (.ptr k 0),.g a,.n b,.n (di (c+1))] [] H) (ret (.tuple []) H):=by kernel_rfl
theorem ahF{R:aM}{d:aO}{a:Nat}{H:DH}:aA R 136 [.row 14 d,.func 93 [] [.ptr a 0]] H =
 ae R 136 200002 [.g (.row 14 d),.g (.func 93 [] [.ptr a 0]),.n d.length,.n 0] [] H:=by kernel_rfl
theorem wD{R:aM}{s:aO}{u:D}{v r:Int}{H:DH}:aV R 136 200002 [.g (.row 14 s),.g u,.n v,.n r] [] H =
 cond (decide (r<v)) (dV r λa=>bZ s a λa=>af a 0 λb=>af a 1 λc=>af a 2 λd=>af a 3 λe=>af a 4 λf=>af a 5 λg=>af a 6 λh=>af a 7 λi=>af a 8 λj=>af a 9 λk=>af a 10 λl=>af a 11 λm=>af a 12 λn=>af a 13 λa=>jC bV u λo p q=>C R o (p++([.agg [b,c,d,e,f,g,h,i,j,k,l,m,n,a]]++q)) H λa H=>brD a (ret (.i r) H) (ae R 136 200002 [.g (.row 14 s),.g u,.n v,.n (di (r+1))] [] H)) (ret (.i (-1)) H):=by kernel_rfl
theorem ahe{R:aM}{d:aO}{a:Nat}{H:DH}:aA R 185 [.row 8 d,.func 144 [] [.ptr a 0]] H =
 ae R 185 200002 [.g (.row 8 d),.g (.func 144 [] [.ptr a 0]),.n d.length,.n 0] [] H:=by kernel_rfl
theorem wv{R:aM}{q:aO}{r:D}{s o:Int}{H:DH}:aV R 185 200002 [.g (.row 8 q),.g r,.n s,.n o] [] H =
 cond (decide (o<s)) (dV o λa=>bZ q a λa=>af a 0 λb=>af a 1 λc=>af a 2 λd=>af a 3 λe=>af a 4 λf=>af a 5 λg=>af a 6 λh=>af a 7 λa=>jC bV r λi j k=>C R i (j++([.agg [b,c,d,e,f,g,h,a]]++k)) H λa H=>brD a (ret (.i o) H) (ae R 185 200002 [.g (.row 8 q),.g r,.n s,.n (di (o+1))] [] H)) (ret (.i (-1)) H):=by kernel_rfl
theorem aho{R:aM}{d:Nat}{e:Int}{h:D}{H:DH}:aA R 175 [.ptr d 0,.i e,h] H =
 am H d λ_ a=>af a 1 λa=>pz true a [.i e] λa=>ah 1 a λa=>am H d λb c=>aw c 1 a λa=>let H:=H.set d (.cells (b+1) a);cond (decide (e>100)) (ret (.tuple []) H) (am H d λ_ a=>af a 0 λa=>aC ab .gtr 3 true a (.i 2000) λa=>brD a (ret (.tuple []) H) (am H d λ_ a=>af a 0 λa=>aC ab .add 3 true a (.i 1) λa=>ah 1 a λa=>am H d λb c=>aw c 0 a λa=>let H:=H.set d (.cells (b+1) a);jC bV h λa b c=>C R a (b++([]++c)) H λ_ H=>ret (.tuple []) H)):=by kernel_rfl
theorem f99{R:aM}{a:ak}{b:aO}{H:DH}:aA R 99 [.agg [.str a,.row 2 b]] H =
 C R 138 [.row 2 b,.func 99 [] []] H λc H=>ib .not c λc=>brD c (ret (.bool false) H) (cond (a==[45,62]) (ret (.bool ((b.length:Int)==2)) H) (cond (a==[44]) (cond (decide ((b.length:Int)>=2)) (ret (.bool (decide ((b.length:Int)<=4))) H) (ret (.bool false) H)) (C R 140 [.str a] H λc H=>brD c (ret (.bool ((b.length:Int)==0)) H) (C R 117 [.str a] H λa H=>brD a (ret (.bool (decide ((b.length:Int)<=16))) H) (ret (.bool false) H))))):=by kernel_rfl
theorem f96{R:aM}{a b:Int}{c e:ak}{g h:aO}{H:DH}:aA R 96 [.agg (xE a b c e g h)] H =
 cond (a==0) (cond (b==0) (cond (c==[]) (cond (e==[]) (cond ((g.length:Int)==0) (ret (.bool ((h.length:Int)==0)) H) (ret (.bool false) H)) (ret (.bool false) H)) (ret (.bool false) H)) (ret (.bool false) H)) (ret (.bool false) H):=by kernel_rfl
theorem agE{R:aM}{e d:ak}{H:DH}:aA R 253 [.str e,.str d] H =
 cond (decide ((e.length:Int)>=(d.length:Int))) (dW ab 9 (.str e) none (some (.i d.length)) none H λa H=>aC ab .eql 9 false a (.str d) λa=>ret a H) (ret (.bool false) H):=by kernel_rfl
theorem ahy{R:aM}{d:aO}{e:D}{H:DH}:aA R 146 [.row 3 d,e] H =
 aY H (ah 1 e λa=>let a:=H++[.cells 0 a];C R 188 [.row 3 d,.func 189 [] [.ptr H.length 0]] a λa H=>ib .not a λa=>ret a H):=by kernel_rfl
theorem ahd{R:aM}{d:aO}{a:Nat}{H:DH}:aA R 186 [.row 6 d,.func 187 [] [.ptr a 0]] H =
 C R 217 [.row 6 d,.func 187 [] [.ptr a 0]] H λa H=>aC ab .geq 3 true a (.i 0) λa=>ret a H:=by kernel_rfl
theorem ahD{R:aM}{d:ak}{H:DH}:aA R 140 [.str d] H =
 C R 142 [.str d] H λa H=>aC ab .eql 3 true a (.i 4) λa=>ret a H:=by kernel_rfl
theorem ahu{R:aM}{H:DH}:aA R 150 [] H =
 ret (.row 1 [[.str [43]],[.str [45]],[.str [42]],[.str [47]],[.str [37]],[.str [60]],[.str [61]]]) H:=by kernel_rfl
theorem f91{R:aM}{d:Nat}{a:Int}{b:ak}{c e:aO}{h j:ak}{k l:aO}{m p:Int}{q r:ak}{s t:aO}{H:DH}:aA R 91 [.ptr d 0,.agg (xD a b c e h j k l m p q r s t)] H =
 cond (a==1) (ae R 91 200004 [.g (.ptr d 0),.g (.row 2 e),.n e.length,.n 0] [] H) (cond (a==2) (C R 134 [.ptr d 0,.agg [.str j,.row 2 k],.i 1] H λ_ H=>ret (.tuple []) H) (cond (a==3) (ae R 91 200016 [.g (.ptr d 0),.g (.row 8 l),.n l.length,.n 0] [] H) (cond (a==4) (C R 135 [.ptr d 0,.agg (xE m p q r s t),.i 1] H λ_ H=>ret (.tuple []) H) (cond (a==5) (C R 135 [.ptr d 0,.agg (xE m p q r s t),.i 1] H λ_ H=>ret (.tuple []) H) (ret (.tuple []) H))))):=by kernel_rfl
theorem Aw{R:aM}{h:Nat}{a:aO}{b c:Int}{H:DH}:aV R 91 200004 [.g (.ptr h 0),.g (.row 2 a),.n b,.n c] [] H =
 cond (decide (c<b)) (dV c λd=>bZ a d λd=>af d 0 λ_=>af d 1 λd=>aS ab 99 d H λe=>ae R 91 200007 [.g (.ptr h 0),.g (.row 2 a),.n b,.n c,.g d,.g e,.n 0] [] H) (ret (.tuple []) H):=by kernel_rfl
theorem Au{R:aM}{j:Nat}{a:aO}{b c:Int}{H:DH}:aV R 91 200016 [.g (.ptr j 0),.g (.row 8 a),.n b,.n c] [] H =
 cond (decide (c<b)) (dV c λd=>bZ a d λd=>af d 0 λ_=>af d 1 λ_=>af d 2 λe=>af d 3 λf=>af d 4 λg=>af d 5 λh=>af d 6 λi=>af d 7 λd=>C R 135 [.ptr j 0,.agg [e,f,g,h,i,d],.i 1] H λ_ H=>ae R 91 200016 [.g (.ptr j 0),.g (.row 8 a),.n b,.n (di (c+1))] [] H) (ret (.tuple []) H):=by kernel_rfl
theorem Av{R:aM}{k:Nat}{a:aO}{b c:Int}{e:D}{h j:Int}{H:DH}:aV R 91 200007 [.g (.ptr k 0),.g (.row 2 a),.n b,.n c,.g e,.n h,.n j] [] H =
 cond (decide (j<h)) (ay ab 99 e (.i j) λd=>bW ab 101 d H λd=>ah 2 d λd=>aw [.str [],.nilrow] 0 d λd=>af d 0 λf=>af d 1 λd=>C R 134 [.ptr k 0,.agg [f,d],.i 1] H λ_ H=>ae R 91 200007 [.g (.ptr k 0),.g (.row 2 a),.n b,.n c,.g e,.n h,.n (di (j+1))] [] H) (ae R 91 200004 [.g (.ptr k 0),.g (.row 2 a),.n b,.n (di (c+1))] [] H):=by kernel_rfl
theorem ahm{R:aM}{a b c:Nat}{H:DH}:aA R 177 [.ptr a 0,.ptr b 0,.ptr c 0] H =
 am H a λ_ d=>af d 4 λd=>aS ab 45 d H λe=>ae R 177 200001 [.g (.ptr a 0),.g (.ptr b 0),.g (.ptr c 0),.g d,.g e,.n 0] [] H:=by kernel_rfl
theorem wx{R:aM}{o j k:Nat}{q:D}{r a:Int}{H:DH}:aV R 177 200001 [.g (.ptr o 0),.g (.ptr j 0),.g (.ptr k 0),.g q,.n r,.n a] [] H =
 cond (decide (a<r)) (ay ab 45 q (.i a) λb=>bW ab 48 b H λb=>ah 6 b λb=>aw [.i 0,.i 0,.str [],.str [],.nilrow,.nilrow] 0 b λb=>am H j λ_ c=>af c 0 λc=>af b 0 λd=>af b 1 λe=>af b 2 λf=>af b 3 λg=>af b 4 λh=>af b 5 λb=>am H k λ_ i=>af i 0 λi=>aC ab .add 3 true i (.i 1) λi=>C R 135 [c,.agg [d,e,f,g,h,b],i] H λ_ H=>ae R 177 200001 [.g (.ptr o 0),.g (.ptr j 0),.g (.ptr k 0),.g q,.n r,.n (di (a+1))] [] H) (am H o λ_ a=>af a 5 λa=>aS ab 46 a H λb=>ae R 177 200006 [.g (.ptr j 0),.g (.ptr k 0),.g a,.g b,.n 0] [] H):=by kernel_rfl
theorem ww{R:aM}{j k:Nat}{a:D}{b c:Int}{H:DH}:aV R 177 200006 [.g (.ptr j 0),.g (.ptr k 0),.g a,.n b,.n c] [] H =
 cond (decide (c<b)) (ay ab 46 a (.i c) λd=>bW ab 148 d H λd=>ah 3 d λd=>aw [.i 0,.str [],.nilrow] 0 d λd=>am H j λ_ e=>af e 0 λe=>af d 0 λf=>af d 1 λg=>af d 2 λd=>am H k λ_ h=>af h 0 λh=>aC ab .add 3 true h (.i 1) λh=>C R 178 [e,.agg [f,g,d],h] H λ_ H=>ae R 177 200006 [.g (.ptr j 0),.g (.ptr k 0),.g a,.n b,.n (di (c+1))] [] H) (ret (.tuple []) H):=by kernel_rfl
theorem f56{R:aM}{a:aO}{H:DH}:aA R 56 [.agg [.row 14 a]] H =
 aY H (let b:=H++[.cells 0 [.i 0,.i 0]];ae R 56 200003 [.g (.ptr H.length 0),.g (.row 14 a),.n a.length,.n 0] [] b):=by kernel_rfl
theorem AK{R:aM}{q:Nat}{r:aO}{a b:Int}{H:DH}:aV R 56 200003 [.g (.ptr q 0),.g (.row 14 r),.n a,.n b] [] H =
 cond (decide (b<a)) (dV b λc=>bZ r c λc=>af c 0 λd=>af c 1 λe=>af c 2 λf=>af c 3 λg=>af c 4 λh=>af c 5 λi=>af c 6 λj=>af c 7 λk=>af c 8 λl=>af c 9 λm=>af c 10 λn=>af c 11 λo=>af c 12 λp=>af c 13 λc=>C R 91 [.ptr q 0,.agg [d,e,f,g,h,i,j,k,l,m,n,o,p,c]] H λ_ H=>ae R 56 200003 [.g (.ptr q 0),.g (.row 14 r),.n a,.n (di (b+1))] [] H) (am H q λ_ a=>af a 0 λa=>ret a H):=by kernel_rfl
theorem f240{R:aM}{e:Nat}{j h:Int}{H:DH}:aA R 240 [.ptr e 0,.i j,.i h] H =
 cond (decide (h>24)) (am H e λ_ a=>af a 1 λa=>ah 1 a λa=>aw [.i 0,.i 0] 0 a λa=>aw a 1 [.i 2] λa=>pan (.iface 246 (.agg a)) H) (am H e λ_ a=>af a 0 λa=>am H e λ_ b=>af b 1 λb=>am H e λ_ c=>af c 1 λc=>aC ab .add 3 false c (.i h) λc=>dW ab 9 a (some b) (some c) none H λa _=>am H e λ_ b=>af b 1 λb=>ah 1 a λa=>aw (xT j 0 [] 0) 2 a λa=>ah 1 b λb=>aw a 3 b λa=>ah 4 (.agg a) λa=>aw (xT 0 0 [] 0) 0 a λa=>af a 0 λb=>af a 1 λc=>af a 2 λd=>af a 3 λa=>ret (.agg [b,c,d,a]) H):=by kernel_rfl
theorem agW{R:aM}{d:aO}{a:Nat}{H:DH}:aA R 211 [.row 2 d,.func 184 [] [.ptr a 0]] H =
 ae R 211 200002 [.g (.row 2 d),.g (.func 184 [] [.ptr a 0]),.n d.length,.n 0] [] H:=by kernel_rfl
theorem wt{R:aM}{j:aO}{k:D}{o h:Int}{H:DH}:aV R 211 200002 [.g (.row 2 j),.g k,.n o,.n h] [] H =
 cond (decide (h<o)) (dV h λa=>bZ j a λa=>af a 0 λb=>af a 1 λa=>jC bV k λc d e=>C R c (d++([.agg [b,a]]++e)) H λa H=>brD a (ret (.i h) H) (ae R 211 200002 [.g (.row 2 j),.g k,.n o,.n (di (h+1))] [] H)) (ret (.i (-1)) H):=by kernel_rfl
theorem ahx{R:aM}{a:Int}{b:ak}{c:aO}{H:DH}:aA R 147 [.agg [.i a,.str b,.row 3 c]] H =
 C R 146 [.row 3 c,.func 147 [] []] H λd H=>ib .not d λd=>brD d (ret (.bool false) H) (cond (a==1) (cond (b==[]) (ret (.bool ((c.length:Int)==0)) H) (ret (.bool false) H)) (cond (a==2) (C R 98 [.str b] H λa H=>brD a (ret (.bool ((c.length:Int)==0)) H) (ret (.bool false) H)) (cond (a==3) (C R 148 [.str b,.i c.length] H λa H=>ret a H) (ret (.bool false) H)))):=by kernel_rfl
theorem f171{R:aM}{d:Nat}{e:Int}{h:D}{H:DH}:aA R 171 [.ptr d 0,.i e,h] H =
 am H d λ_ a=>af a 0 λa=>pz true a [.i e] λa=>ah 1 a λa=>am H d λb c=>aw c 0 a λa=>let H:=H.set d (.cells (b+1) a);cond (decide (e<=100)) (jC bV h λa b c=>C R a (b++([]++c)) H λ_ H=>ret (.tuple []) H) (ret (.tuple []) H):=by kernel_rfl
theorem f137{R:aM}{a:ak}{b:aO}{H:DH}:aA R 137 [.agg [.str a,.row 2 b]] H =
 C R 117 [.str a] H λa H=>brD a (cond (decide ((b.length:Int)<=16)) (C R 138 [.row 2 b,.func 99 [] []] H λa H=>ret a H) (ret (.bool false) H)) (ret (.bool false) H):=by kernel_rfl
theorem ahz{R:aM}{d:aO}{e:D}{H:DH}:aA R 145 [.row 6 d,e] H =
 aY H (ah 1 e λa=>let a:=H++[.cells 0 a];C R 186 [.row 6 d,.func 187 [] [.ptr H.length 0]] a λa H=>ib .not a λa=>ret a H):=by kernel_rfl
theorem ahg{R:aM}{d:aO}{a:Nat}{H:DH}:aA R 183 [.row 2 d,.func 184 [] [.ptr a 0]] H =
 C R 211 [.row 2 d,.func 184 [] [.ptr a 0]] H λa H=>aC ab .geq 3 true a (.i 0) λa=>ret a H:=by kernel_rfl
theorem ahW{R:aM}{d:ak}{H:DH}:aA R 117 [.str d] H =
 C R 142 [.str d] H λa H=>aC ab .eql 3 true a (.i 3) λa=>ret a H:=by kernel_rfl
theorem agG{R:aM}{a:Int}{H:DH}:aA R 239 [.int .u8 a] H =
 cond (decide ((65:Int)<=a)) (ret (.bool (decide (a<=90))) H) (ret (.bool false) H):=by kernel_rfl
theorem agJ{R:aM}{d:Nat}{H:DH}:aA R 236 [.ptr d 0] H =
 C R 234 [.ptr d 0,.i 0] H λa H=>aC ab .eql 5 true a (.int .u8 126) λa=>brD a (ae R 236 4 [.g (.ptr d 0),.lp 0 0,.n 1] [(0,(xT 0 0 [] 0))] H) (ae R 236 4 [.g (.ptr d 0),.lp 0 0,.n 0] [(0,(xT 0 0 [] 0))] H):=by kernel_rfl
theorem Si{R:aM}{j:Nat}{k a b:Int}{c:ak}{e:Int}{H:DH}:aV R 236 4 [.g (.ptr j 0),.lp 0 0,.n k] [(0,xT a b c e)] H =
 C R 230 [.ptr j 0,.i k,.func 235 [] []] H λd H=>aC ab .add 3 false (.i k) d λf=>C R 234 [.ptr j 0,f] H λf H=>am H j λ_ g=>af g 0 λg=>am H j λ_ h=>af h 1 λh=>am H j λ_ i=>af i 1 λi=>aC ab .add 3 false i (.i k) λi=>aC ab .add 3 false i d λd=>dW ab 9 g (some h) (some d) none H λd _=>C R 249 [d] H λg H=>ei g 0 λh=>ei g 1 λg=>aC ab .neq 34 true g (.i 0) λg=>brD g (am H j λ_ a=>af a 1 λa=>ah 1 a λa=>aw [.i 0,.i 0] 0 a λa=>aw a 1 [.i 13] λa=>pan (.iface 246 (.agg a)) H) (C R 241 [f] H λg H=>brD g (am H j λ_ a=>af a 1 λa=>ah 1 a λa=>aw [.i 0,.i 0] 0 a λa=>aw a 1 [.i 13] λa=>pan (.iface 246 (.agg a)) H) (aC ab .eql 5 true f (.int .u8 39) λf=>brD f (am H j λ_ a=>af a 1 λa=>ah 1 a λa=>aw [.i 0,.i 0] 0 a λa=>aw a 1 [.i 13] λa=>pan (.iface 246 (.agg a)) H) (am H j λ_ f=>af f 1 λf=>ah 1 h λg=>aw (xT 1 0 [] 0) 1 g λg=>ah 1 d λd=>aw g 2 d λd=>ah 1 f λf=>aw d 3 f λd=>ah 4 (.agg d) λd=>aw (xT a b c e) 0 d λa=>af a 0 λb=>af a 1 λc=>af a 2 λd=>af a 3 λa=>ret (.agg [b,c,d,a]) H))):=by kernel_rfl
theorem f59{R:aM}{a:Int}{b:ak}{c e:aO}{g h:ak}{j k:aO}{l m:Int}{p q:ak}{r s:aO}{H:DH}:aA R 59 [.agg (xD a b c e g h j k l m p q r s)] H =
 aU (R (.call 94 [.agg [.str b,.row 1 c,.row 2 e]] none) H) (λd H=>aU (R (.call 95 [.agg [.str h,.row 2 j]] none) H) (λf H=>aU (R (.call 96 [.agg (xE l m p q r s)] none) H) (λi H=>cond (a==1) (C R 97 [.agg [.str b,.row 1 c,.row 2 e]] H λa H=>brD a (cond (g==[]) (brD f (brD i (ret (.bool ((k.length:Int)==0)) H) (ret (.bool false) H)) (ret (.bool false) H)) (ret (.bool false) H)) (ret (.bool false) H)) (cond (a==2) (brD d (C R 98 [.str g] H λa H=>brD a (C R 99 [.agg [.str h,.row 2 j]] H λa H=>brD a (brD i (ret (.bool ((k.length:Int)==0)) H) (ret (.bool false) H)) (ret (.bool false) H)) (ret (.bool false) H)) (ret (.bool false) H)) (cond (a==3) (brD d (cond (g==[]) (brD f (brD i (cond (decide ((k.length:Int)>=1)) (cond (decide ((k.length:Int)<=16)) (C R 100 [.row 8 k,.func 101 [] []] H λa H=>ret a H) (ret (.bool false) H)) (ret (.bool false) H)) (ret (.bool false) H)) (ret (.bool false) H)) (ret (.bool false) H)) (ret (.bool false) H)) (cond (a==4) (brD d (C R 98 [.str g] H λa H=>brD a (brD f (C R 102 [.agg (xE l m p q r s)] H λa H=>brD a (ret (.bool ((k.length:Int)==0)) H) (ret (.bool false) H)) (ret (.bool false) H)) (ret (.bool false) H)) (ret (.bool false) H)) (cond (a==5) (brD d (C R 98 [.str g] H λa H=>brD a (brD f (C R 102 [.agg (xE l m p q r s)] H λa H=>brD a (ret (.bool ((k.length:Int)==0)) H) (ret (.bool false) H)) (ret (.bool false) H)) (ret (.bool false) H)) (ret (.bool false) H)) (ret (.bool false) H)))))) λ_ _=>none) λ_ _=>none) λ_ _=>none:=by kernel_rfl
theorem f54{R:aM}{n:Nat}{a b c e:Int}{g h:ak}{j k l:Int}{m p:ak}{q r:aO}{o:Int}{H:DH}:aA R 54 [.ptr n 0,.agg [.i a,.i b,.i c,.i e,.str g,.str h,.i j],.agg (xE k l m p q r),.i o] H =
 aY H (am H n λ_ d=>af d 1 λd=>aS ab 87 d H λd=>ah 1 d λd=>aw [.i a,.i b,.i c,.i e,.str g,.str h,.i j] 0 d λa=>am H n λ_ b=>af b 2 λb=>af a 0 λc=>af a 1 λd=>af a 2 λe=>af a 3 λf=>af a 4 λg=>af a 5 λh=>af a 6 λi=>bX (aF ab 140) 7 b [[c,d,e,f,g,h,i]] H λb H=>ah 1 b λb=>am H n λc d=>aw d 2 b λb=>let H:=H.set n (.cells (c+1) b);af a 1 λa=>ah 1 a λa=>aw [.i 0,.i 0,.nilrow] 0 a λa=>aw a 1 [.i o] λa=>fH (.fz 1) 2 (.agg a) H λa b=>am H n λ_ c=>af c 2 λc=>aS ab 88 c H λc=>aC ab .sub 3 true c (.i 1) λc=>aU (R (.call 89 [.ptr n 0,.agg (xE k l m p q r),a,c] none) b) (λ_ H=>ret (.tuple []) H) λ_ _=>none):=by kernel_rfl
theorem aak{R:aM}{a b:Nat}{H:DH}:NB de R 200 (.call 192 [.ptr a 0,.ptr b 0] (some .returning)) H =
 some ⟨.ret (.tuple []),(some .returning),H⟩:=by kernel_rfl
theorem aal{R:aM}{b c:Nat}{a e:Int}{H:DH}:NB de R 200 (.call 192 [.ptr b 0,.ptr c 0] (some (.panicking [⟨.iface 246 (.agg [.i a,.i e]),false⟩]))) H =
 jI ab (.iface 246 (.agg [.i a,.i e])) 246 true λd=>ei d 1 λf=>ei d 0 λd=>brD f (ah 2 d λd=>aw [.i 0,.i 0] 0 d λd=>am H b λf g=>aw g 0 [.nilrow] λg=>let H:=H.set b (.cells (f+1) g);af d 0 λb=>af d 1 λd=>am H c λf g=>aw g 0 [b,d] λb=>let H:=H.set c (.cells (f+1) b);some ⟨.ret (.tuple []),(some (.panicking [⟨.iface 246 (.agg [.i a,.i e]),true⟩])),H⟩) (some ⟨.pan [⟨.iface 246 (.agg [.i a,.i e]),false⟩],(some (.panicking [⟨.iface 246 (.agg [.i a,.i e]),true⟩])),H⟩):=by kernel_rfl
theorem f218{R:aM}{d:aO}{a:Nat}{H:DH}:aA R 218 [.row 3 d,.func 189 [] [.ptr a 0]] H =
 ae R 218 200002 [.g (.row 3 d),.g (.func 189 [] [.ptr a 0]),.n d.length,.n 0] [] H:=by kernel_rfl
theorem wl{R:aM}{j:aO}{k:D}{o h:Int}{H:DH}:aV R 218 200002 [.g (.row 3 j),.g k,.n o,.n h] [] H =
 cond (decide (h<o)) (dV h λa=>bZ j a λa=>af a 0 λb=>af a 1 λc=>af a 2 λa=>jC bV k λd e f=>C R d (e++([.agg [b,c,a]]++f)) H λa H=>brD a (ret (.i h) H) (ae R 218 200002 [.g (.row 3 j),.g k,.n o,.n (di (h+1))] [] H)) (ret (.i (-1)) H):=by kernel_rfl
theorem ahG{R:aM}{j:Nat}{a b:Int}{c e:ak}{g h:aO}{k:Int}{H:DH}:aA R 135 [.ptr j 0,.agg (xE a b c e g h),.i k] H =
 aY H (let d:=H++[.cells 0 [.ptr j 0]];let a:=d++[.cells 0 (xE a b c e g h)];let b:=a++[.cells 0 [.i k]];am b H.length λ_ c=>af c 0 λc=>am b a.length λ_ e=>af e 0 λe=>C R 175 [c,e,.func 177 [] [.ptr d.length 0,.ptr H.length 0,.ptr a.length 0]] b λ_ H=>ret (.tuple []) H):=by kernel_rfl
theorem ahH{R:aM}{h:Nat}{a:ak}{b:aO}{j:Int}{H:DH}:aA R 134 [.ptr h 0,.agg [.str a,.row 2 b],.i j] H =
 aY H (let c:=H++[.cells 0 [.ptr h 0]];let a:=c++[.cells 0 [.str a,.row 2 b]];let b:=a++[.cells 0 [.i j]];am b H.length λ_ d=>af d 0 λd=>am b a.length λ_ e=>af e 0 λe=>C R 175 [d,e,.func 176 [] [.ptr c.length 0,.ptr H.length 0,.ptr a.length 0]] b λ_ H=>ret (.tuple []) H):=by kernel_rfl
theorem agN{R:aM}{d:Nat}{e:ak}{H:DH}:aA R 232 [.ptr d 0,.str e] H =
 am H d λ_ a=>af a 0 λa=>am H d λ_ b=>af b 1 λb=>dW ab 9 a (some b) none none H λa _=>aU (R (.call 248 [a,.str e] none) H) (λa H=>ret a H) λ_ _=>none:=by kernel_rfl
theorem ahE{R:aM}{d:aO}{e:D}{H:DH}:aA R 139 [.row 1 d,e] H =
 aY H (ah 1 e λa=>let a:=H++[.cells 0 a];C R 181 [.row 1 d,.func 182 [] [.ptr H.length 0]] a λa H=>ib .not a λa=>ret a H):=by kernel_rfl
theorem ahk{R:aM}{d:aO}{a:Nat}{H:DH}:aA R 179 [.row 2 d,.func 180 [] [.ptr a 0]] H =
 C R 215 [.row 2 d,.func 180 [] [.ptr a 0]] H λa H=>aC ab .geq 3 true a (.i 0) λa=>ret a H:=by kernel_rfl
theorem ahK{R:aM}{d:aO}{H:DH}:aA R 131 [.row 1 d] H =
 iC .eql d λa=>brD a (ret .nilrow H) (bX (aF ab 3) 1 .nilrow d H λa H=>ret a H):=by kernel_rfl
theorem agF{R:aM}{d e:ak}{H:DH}:aA R 248 [.str d,.str e] H =
 C R 253 [.str d,.str e] H λa H=>ret a H:=by kernel_rfl
end
section
open Go.AI
def pk(l:ak)(i:Nat):Nat:=(l[i]?).getD 0%256
def pZ(c:Nat):Bool:=decide (97<=c)&&decide (c<=122)
def BA(c:Nat):Bool:=decide (65<=c)&&decide (c<=90)
def cO(c:Nat):Bool:=decide (48<=c)&&decide (c<=57)
def cN(c:Nat):Bool:=pZ c||BA c||cO c||c==95
def eU(c:Nat):Bool:=c==32||c==9||c==10||c==13
def rn(q:Nat->Bool)(l:ak)(i:Nat):Nat:=((l.drop i).takeWhile λc=>q (c%256)).length
theorem YE(q:Nat->Bool){l:ak}{i:Nat}(h:l.length<=i):rn q l i=0:=by simp[rn,List.drop_eq_nil_of_le h]
theorem sV(q:Nat->Bool){l:ak}{i:Nat}(h:i<l.length):rn q l i=if q (pk l i)=true then rn q l (i+1)+1 else 0:=by unfold rn pk;rw[akb h,List.takeWhile_cons,abg h,ajv];split<;>rfl
theorem yS(q:Nat->Bool)(l:ak)(i:Nat)(h:i<=l.length):i+rn q l i<=l.length:=by grind [rn,List.takeWhile_sublist]
theorem abU(l:ak)(i:Nat):pk l i<256:=Nat.mod_lt _ (by decide)
theorem zf{l:ak}{i:Nat}(h:l.length<=i):pk l i=0:=by simp[pk,aiT h]
theorem yl{l:ak}{i:Nat}(h:i<l.length)(κ:D->ai):Bq l i κ=κ (.int .u8 (pk l i:Nat)):=by unfold Bq pk;rw[abg h,ajv];rfl
theorem Rr(l:ak)(H:DH)(κ:D->ai):aS ab 9 (.str l) H κ=κ (.i l.length):=by kernel_rfl
theorem adt(l:ak)(k:IntKind)(i:Int)(κ:D->ai):kb ab 9 (.str l) (.int k i) κ=dV i λi=>Bq l i κ:=by kernel_rfl
theorem sl9(l:ak)(a b:Nat)(H:DH)(κ:D->DH->ai)(h:a<=b)(d:b<=l.length):dW ab 9 (.str l) (some (.i a)) (some (.i b)) none H κ=κ (.str ((l.drop a).take (b - a))) H:=by
 have e:dW ab 9 (.str l) (some (.i a)) (some (.i b)) none H κ=boK (Nat.ble b l.length&&Nat.ble a b) (κ (.str ((l.drop a).take (b - a))) H):=by kernel_rfl
 rw[e,abk h,abk d];rfl
theorem afH(l:ak)(a:Nat)(H:DH)(κ:D->DH->ai)(h:a<=l.length):dW ab 9 (.str l) (some (.i a)) none none H κ=κ (.str (l.drop a)) H:=by
 have e:dW ab 9 (.str l) (some (.i a)) none none H κ=boK (Nat.ble l.length l.length&&Nat.ble a l.length) (κ (.str ((l.drop a).take (l.length - a))) H):=by kernel_rfl
 rw[e,abk h,abk (aaW _),aiR (by simp)];rfl
theorem afG(l:ak)(b:Nat)(H:DH)(κ:D->DH->ai)(h:b<=l.length):dW ab 9 (.str l) none (some (.i b)) none H κ=κ (.str (l.take b)) H:=by
 have e:dW ab 9 (.str l) none (some (.i b)) none H κ=boK (Nat.ble b l.length&&Nat.ble 0 b) (κ (.str ((l.drop 0).take (b - 0))) H):=by kernel_rfl
 rw[e,abk h,abk (ajg _)];rfl
theorem fq{x:ai}{d:D}{H:DH}{k:D->DH->ai}{kp:List fX->DH->ai}(h:x=ret d H):aU x k kp=k d H:=by rw[h];rfl
theorem OA{x:ai}{c:List fX}{u:Option fg}{H:DH}{k:D->DH->ai}{kp:List fX->DH->ai}(h:x=some ⟨.pan c,u,H⟩):aU x k kp=kp c H:=by rw[h];rfl
theorem Eb{R:aM}{f:FuncId}{args:List D}{d:D}{H H':DH}{k:D->DH->ai}(h:R (.call f args none) H=pan d H'):C R f args H k=pan d H':=by rw[C,h];rfl
theorem JH{H:DH}{o st:Nat}{cs:List D}{κ:Nat->List D->ai}(h:H[o]? = some (.cells st cs)):am (cK H [H]) o κ=κ st cs:=ac (lE h (λH2 a=>by simp at a;subst a;exact h))
section bytes
variable(H:DH)(c:Nat)
theorem nle(a:Nat):decide ((a:Int)<=(c:Int))=decide (a<=c):=ajy.2 (by omega)
theorem YY(a:Nat):decide ((c:Int)<=(a:Int))=decide (c<=a):=ajy.2 (by omega)
theorem nge(a:Nat):decide ((c:Int)>=(a:Int))=decide (a<=c):=ajy.2 (by omega)
theorem neq(a:Nat):((c:Int)==(a:Int))=(c==a):=by rw[afw];simp only[ajX];omega
theorem mK(a b:Nat):decide ((a:Int)<(b:Int))=decide (a<b):=ajy.2 (by omega)
theorem rng(a b:Nat):cond (decide (a<=c)) (ret (.bool (decide (c<=b))) H) (ret (.bool false) H)=ret (.bool (decide (a<=c)&&decide (c<=b))) H:=by cases decide (a<=c)<;>rfl
theorem Ek:aq 237 [.int .u8 (c:Nat)] H=ret (.bool (pZ c)) H:=ev (agI) (by rw[show(97:Int)=((97:Nat):Int)from rfl,show(122:Int)=((122:Nat):Int)from rfl,nle,YY,rng];rfl)
theorem MD:aq 239 [.int .u8 (c:Nat)] H=ret (.bool (BA c)) H:=ev (agG) (by rw[show(65:Int)=((65:Nat):Int)from rfl,show(90:Int)=((90:Nat):Int)from rfl,nle,YY,rng];rfl)
theorem yg:aq 235 [.int .u8 (c:Nat)] H=ret (.bool (cO c)) H:=ev (agK) (by rw[show(48:Int)=((48:Nat):Int)from rfl,show(57:Int)=((57:Nat):Int)from rfl,nle,YY,rng];rfl)
theorem JD:aq 241 [.int .u8 (c:Nat)] H=ret (.bool (cN c)) H:=ev (f241) (by simp only[av (Ek _ _),av (MD _ _),av (yg _ _),ax,show(95:Int)=((95:Nat):Int)from rfl,neq,cN];cases pZ c<;>cases BA c<;>cases cO c<;>rfl)
theorem TO:aq 231 [.int .u8 (c:Nat)] H=ret (.bool (eU c)) H:=ev (agO) (by simp only[show(32:Int)=((32:Nat):Int)from rfl,show(9:Int)=((9:Nat):Int)from rfl,show(10:Int)=((10:Nat):Int)from rfl,show(13:Int)=((13:Nat):Int)from rfl,neq,eU];cases c==32<;>cases c==9<;>cases c==10<;>cases c==13<;>rfl)
end bytes
end
section
open Go.AI
theorem wN{a b:Nat}(h:a+b<2^62):di ((a:Int)+(b:Int))=((a+b:Nat):Int):=by rw[mM]<;>omega
variable{H:DH}{p at' st:Nat}{l:ak}{x y:D}
abbrev oL(l:ak)(at':Nat)(x y:D):List D:=[.str l,.i at',x,y]
theorem tg(hp:H[p]? = some (.cells st (oL l at' x y)))(k:Nat)(h:at'+k<2^62):aq 234 [.ptr p 0,.i k] H=ret (.int .u8 (pk l (at'+k):Nat)) H:=by
 refine ev (agL) ?_;simp only[ac hp,aj,au,bJ,wN h,Rr,cM,nge,adt,ax,bS]
 grind [zf,yl]
theorem GM{g:Nat}{q:Nat->Bool}(hb:aQ bV g=true)(a:∀ c H,aq g [.int .u8 (c:Nat)] H=ret (.bool (q c)) H)(hp:H[p]? = some (.cells st (oL l at' x y)))(hl:l.length<2^60)(k:Nat)(hk:at'+k<2^60):∀(d n:Nat),d=l.length - (at'+k+n)->n<2^60 ->
 ae aB 230 200002 [.g (.ptr p 0),.n k,.g (.func g [] []),.n n] [] H=ret (.i (n+rn q l (at'+k+n):Nat)) H
 |d,n,hd,hn=>by
  refine cj (HL) ?_;simp only[ac hp,aj,au,bJ,wN (show at'+k<2^62 by omega),wN (show at'+k+n<2^62 by omega),Rr,cE,mK,adt,ax,bS,dX hb,afn,afq];cases hc:decide (at'+k+n<l.length)with
  |false =>grind [YE]
  |true =>
   have hc:at'+k+n<l.length:=by simpa using hc
   rw[ge,yl hc,fq (a _ _),sV q hc];cases hq:q (pk l (at'+k+n))with
   |false=>simp[ax]
   |true =>
    have ih:=GM hb a hp hl k hk (d - 1) (n+1) (by omega) (by omega)
    grind [ax,aX]
 termination_by d=>d
theorem yO{g:Nat}{q:Nat->Bool}(hb:aQ bV g=true)(a:∀ c H,aq g [.int .u8 (c:Nat)] H=ret (.bool (q c)) H)(hp:H[p]? = some (.cells st (oL l at' x y)))(hl:l.length<2^60)(k:Nat)(hk:at'+k<2^60) :
 aq 230 [.ptr p 0,.i k,.func g [] []] H=ret (.i (rn q l (at'+k):Nat)) H:=by
 refine ev (agP) ?_;have:=GM hb a hp hl k hk _ 0 rfl (by omega);simp only[adO,aiM]at this;exact this
theorem YL(s t:ak)(H:DH):aq 248 [.str s,.str t] H=ret (.bool (s.take t.length==t)) H:=by
 have h:aq 253 [.str s,.str t] H=ret (.bool (s.take t.length==t)) H:=by
  refine ev (agE) ?_;rw[nge];cases hc:decide (t.length<=s.length)with
  |true =>grind [afG,ff]
  |false =>
   have hc:¬ t.length<=s.length:=by simpa using hc
   have:(s.take t.length==t)=false:=by grind
   rw[this];rfl
 refine ev (agF) ?_;rw[av h]
theorem me(hp:H[p]? = some (.cells st (oL l at' x y)))(ha:at'<=l.length)(t:ak):aq 232 [.ptr p 0,.str t] H=ret (.bool ((l.drop at').take t.length==t)) H:=by
 refine ev (agN) ?_
 grind [ac,aj,au,afH,fq,YL]
def IW:List ak:=[[97,110,100],[99,97,115,101],[100,97,116,97],[101,108,115,101],[101,110,100],[102,110],[102,117,110],[105,102],[105,110],[105,110,112,117,116],[108,101,116],[111,102],[111,117,116,112,117,116],[116,104,101,110],[118,97,108]]
def sgs:ak:=[40,41,44,59,58,124,61,60,43,45,42,47,37,95]
def eY(l:ak)(p:Nat):Nat:=if pk l (p+rn cN l p)=39/\0<rn cO l (p+rn cN l p+1)then rn cN l p+(1+rn cO l (p+rn cN l p+1))else rn cN l p
def Ju(l:ak)(p:Nat):Nat:=if(l.drop p).take 2=[61,62]\/(l.drop p).take 2=[45,62] then 2 else if pk l p∈sgs then 1 else 0
def lg(l:ak)(p:Nat):Prop:=cO (pk l p)=true\/pk l p=126
def sH(l:ak)(p:Nat):Option (Int×Nat) :=
 if pZ (pk l p)=true then(if eY l p>24 then none else some (if(l.drop p).take (eY l p)∈IW then 5 else 2,eY l p))
 else if BA (pk l p)=true then(if eY l p>24 then none else some (3,eY l p))
 else if pk l p=39/\pZ (pk l (p+1))=true then(if 1+rn cN l (p+1)>24 then none else some (4,1+rn cN l (p+1)))
 else if Ju l p=0 then none else some (6,Ju l p)
def tk(k n:Int)(t:ak)(a:Nat):D:=.agg (xT k n t a)
def wr(a e:Int):D:=.iface 246 (.agg [.i a,.i e])
def Li:List (D×D):=IW.map λw=>(.str w,.i 5)
theorem ov4(a b c d e f g h:D)(κ:List D->ai):aw [a,b,c,d] 0 [e,f,g,h] κ=κ [e,f,g,h]:=rfl
theorem NM(a b c d e:D)(κ:List D->ai):aw [a,b,c,d] 1 [e] κ=κ [a,e,c,d]:=rfl
theorem agd(a b c d e:D)(κ:List D->ai):aw [a,b,c,d] 0 [e] κ=κ [e,b,c,d]:=rfl
theorem acf(a b c d e:D)(κ:List D->ai):aw [a,b,c,d] 2 [e] κ=κ [a,b,e,d]:=rfl
theorem YQ(a b c d e:D)(κ:List D->ai):aw [a,b,c,d] 3 [e] κ=κ [a,b,c,e]:=rfl
theorem Qz(a b e:D)(κ:List D->ai):aw [a,b] 0 [e] κ=κ [e,b]:=rfl
theorem Qy(a b e:D)(κ:List D->ai):aw [a,b] 1 [e] κ=κ [a,e]:=rfl
theorem Up(a b e f:D)(κ:List D->ai):aw [a,b] 0 [e,f] κ=κ [e,f]:=rfl
theorem ce4(a b c d:D)(κ:List D->ai):ah 4 (.agg [a,b,c,d]) κ=κ [a,b,c,d]:=rfl
theorem ce2(a b:D)(κ:List D->ai):ah 2 (.agg [a,b]) κ=κ [a,b]:=rfl
theorem qQ(k:IntKind)(n:Int)(κ:List D->ai):ah 1 (.int k n) κ=κ [.int k n]:=rfl
theorem VT(l:ak)(κ:List D->ai):ah 1 (.str l) κ=κ [.str l]:=rfl
theorem KM(a b c:Nat)(κ:List D->ai):ah 1 (.buf a b c) κ=κ [.buf a b c]:=rfl
variable{H:DH}{p at' st m:Nat}{l:ak}{x y:D}
theorem ngt(a b:Nat):decide ((a:Int)>(b:Int))=decide (b<a):=ajy.2 (by omega)
theorem tB(hp:H[p]? = some (.cells st (oL l at' x y)))(k:Int)(n:Nat)(a:at'+n<=l.length)(hl:l.length<2^60):aq 240 [.ptr p 0,.i k,.i n] H=if n>24 then pan (wr at' 2) H else ret (tk k 0 ((l.drop at').take n) at') H:=by
 refine ev (f240) ?_;rw[show(24:Int)=((24:Nat):Int)from rfl,ngt];cases hc:decide (24<n)with
 |true =>grind [ac,aj,au,qQ,Qz,Qy,wr]
 |false =>
  have hc:¬ 24<n:=by simpa using hc
  rw[afp hc];simp only[SE,ac hp,aj,au,bJ,wN (show at'+n<2^62 by omega),sl9 l at' (at'+n) H _ (by omega) a,qQ,VT,acf,YQ,ce4,ov4,tk,show at'+n - at'=n by omega]
theorem Mn(t:ak):∀ ws:List ak,Cf (.str t) (ws.map λw=>((.str w:D),(.i 5:D)))=some (if t∈ws then some (.i 5)else none)
 |[]=>rfl
 |w::r=>by
  simp only[acg,Cf,tH,Mn t r]
  grind
theorem UQ(hm:H[m]? = some (.map Li))(t:ak)(κ:D->ai):ip ab 302 (.map m) (.str t) true H κ=κ (.tuple [.i (if t∈IW then 5 else 0),.bool (decide (t∈IW))]):=by
 have e:ip ab 302 (.map m) (.str t) true H κ=ig H m λes=>py (.str t) es λr=>iE ab 3 true r κ:=by kernel_rfl
 have e2:iE ab 3 true none κ=κ (.tuple [.i 0,.bool false]):=by kernel_rfl
 rw[e,fT hm,py,Li,Mn];by_cases h:t∈IW
 .simp only[h,ajY,decide_true];rfl
 grind
theorem Nk:aQ bV 241=true:=by kernel_rfl
theorem Nl:aQ bV 235=true:=by kernel_rfl
theorem VW:aQ bV 231=true:=by kernel_rfl
theorem He(l:ak)(p:Nat)(h:p<=l.length):p+eY l p<=l.length:=by
 have a:=yS cN l p h;unfold eY;split
 .rename_i hc;have h3:p+rn cN l p<l.length:=by grind [zf]
  have:=yS cO l (p+rn cN l p+1) (by omega);omega
 .exact a
theorem Ze(hp:H[p]? = some (.cells st (oL l at' (.map m) y)))(hm:H[m]? = some (.map Li))(k:Int)(n:Nat)(d:at'+n<=l.length)(hl:l.length<2^60) :
 ae aB 238 6 [.g (.ptr p 0),.n k,.lp 0 0,.n n] [(0,(xT 0 0 [] 0))] H=if n>24 then pan (wr at' 2) H else ret (tk (if(l.drop at').take n∈IW then 5 else k) 0 ((l.drop at').take n) at') H:=by
 refine cj (aaj) ?_;have h:=tB hp k n d hl;by_cases hc:n>24
 .rw[agC hc]at h ⊢;rw[Eb h]
 .rw[afp hc]at h ⊢;simp only[av h,tk,ce4,ov4,ac hp,aj,au,UQ hm,dB,ax];by_cases a:(l.drop at').take n∈IW
  .simp only[a,decide_true,ge,ajY,qQ,agd,aj,au]
  .simp only[a,ajE,SE,akp,aj,au]
theorem Uy(hp:H[p]? = some (.cells st (oL l at' (.map m) y)))(hm:H[m]? = some (.map Li))(k:Int)(hl:l.length<2^59)(q:at'<=l.length) :
 aq 238 [.ptr p 0,.i k] H=if eY l at'>24 then pan (wr at' 2) H else ret (tk (if(l.drop at').take (eY l at')∈IW then 5 else k) 0 ((l.drop at').take (eY l at')) at') H:=by
 refine ev (agH) ?_;have r:=yO Nk (λc H=>JD H c) hp (by omega) 0 (by omega);have hr:=yS cN l at' q;have a:=He l at' q;rw[aiM]at r;have u:=tg hp (rn cN l at') (by omega);have j:=λn v=>Ze hp hm k n v (by omega);rw[show(.i 0:D)=.i ((0:Nat):Int)from rfl,av r,av u];simp only[ba,show(39:Int)=((39:Nat):Int)from rfl,neq,ax];by_cases d:pk l (at'+rn cN l at')=39
 .have hlt:at'+rn cN l at'<l.length:=by grind [zf]
  have s:=yO Nl (λc H=>yg H c) hp (by omega) (rn cN l at'+1) (by omega);have hd:=yS cO l (at'+rn cN l at'+1) (by omega);rw[<- ajH]at s;rw[d];simp only[BEq.rfl,ge,bJ,show(1:Int)=((1:Nat):Int)from rfl,wN (show rn cN l at'+1<2^62 by omega),av s,eT,ngt,ax];by_cases o:0<rn cO l (at'+rn cN l at'+1)
  .simp only[show((0:Int))=((0:Nat):Int)from rfl,ngt,o,decide_true,ge,wN (show 1+rn cO l (at'+rn cN l at'+1)<2^62 by omega),wN (show rn cN l at'+(1+rn cO l (at'+rn cN l at'+1))<2^62 by omega)];have e:eY l at'=rn cN l at'+(1+rn cO l (at'+rn cN l at'+1)):=by unfold eY;rw[agC ⟨d,o⟩]
   rw[<- e];exact j _ a
  .simp only[show((0:Int))=((0:Nat):Int)from rfl,ngt,o,ajE,SE];have e:eY l at'=rn cN l at':=by unfold eY;rw[afp (λh=>o h.2)]
   rw[<- e];exact j _ a
 .rw[show(pk l (at'+rn cN l at')==39)=false from aiS.2 d,SE];have e:eY l at'=rn cN l at':=by unfold eY;rw[afp (λh=>d h.1)]
  rw[<- e];exact j _ a
theorem Ma{f:FuncId}{args:List D}{d:D}{H':DH}(h:de.orc f args H=some (d,H')):aq f args H=ret d H':=by
 show eP de (.call f args none) H=_;rw[KE];show QB de f args H none _=_
 grind [QB]
def aaX(l:ak)(at':Nat)(H:DH)(r:ai):Prop:=(∃(v:Int) (n:Nat),1<=n/\at'+n<=l.length/\r=ret (tk 1 v ((l.drop at').take n) at') H)\/r=pan (wr at' 13) H
theorem Hb(hp:H[p]? = some (.cells st (oL l at' x y)))(hl:l.length<=24)(ha:at'<l.length)(n:Nat)(d:at'+n<=l.length)(h:1<=n+rn cO l (at'+n)) :
 aaX l at' H (ae aB 236 4 [.g (.ptr p 0),.lp 0 0,.n n] [(0,(xT 0 0 [] 0))] H):=by
 have j:=yO Nl (λc H=>yg H c) hp (by omega) n (by omega);have k:=yS cO l (at'+n) d;have q:=tg hp (n+rn cO l (at'+n)) (by omega);have a:((l.drop at').take (n+rn cO l (at'+n))).length<=1000:=by rw[agm];rw[ajf];omega
 have o:∀ H,aq 249 [.str ((l.drop at').take (n+rn cO l (at'+n)))] H=ret (.tuple [.i (rP (aK ((l.drop at').take (n+rn cO l (at'+n))))).1,.i (rP (aK ((l.drop at').take (n+rn cO l (at'+n))))).2]) H:=λH=>Ma (by show(bif Nat.ble _ 1000 then _ else _)=_;rw[abk a];rfl)
 have e:=@Si (NB de aB 0) p (n:Nat) 0 0 [] 0 H;unfold aaX;rw[show ae aB 236 4 [.g (.ptr p 0),.lp 0 0,.n n] [(0,(xT 0 0 [] 0))] H=_ from cj (Si) rfl]
 simp only[av j,bJ,wN (show n+rn cO l (at'+n)<2^62 by omega),av q,ac hp,aj,au,wN (show at'+n<2^62 by omega),wN (show at'+n+rn cO l (at'+n)<2^62 by omega),sl9 l at' (at'+n+rn cO l (at'+n)) H _ (by omega) k,
  show at'+n+rn cO l (at'+n) - at'=n+rn cO l (at'+n)by omega,av (o _),dB,bE,ax,qQ,VT,Qz,Qy,NM,acf,YQ,ce4,ov4,av (JD _ _),ba]
 cases ((rP (aK ((l.drop at').take (n+rn cO l (at'+n))))).2 != 0)with
 |true=>exact .inr rfl
 |false =>
  rw[SE];cases cN (pk l (at'+(n+rn cO l (at'+n))))with
  |true=>exact .inr rfl
  |false =>
   rw[SE];cases ((pk l (at'+(n+rn cO l (at'+n))):Int)==39)with
   |true=>exact .inr rfl
   |false=>exact .inl ⟨_,_,h,by omega,rfl⟩
theorem NR(hp:H[p]? = some (.cells st (oL l at' x y)))(hl:l.length<=24)(a:at'<l.length)(d:lg l at'):aaX l at' H (aq 236 [.ptr p 0] H):=by
 have e:=tg hp 0 (by omega);rw[show aq 236 [.ptr p 0] H=_ from ev (agJ) rfl];rw[show(.i 0:D)=.i ((0:Nat):Int)from rfl,av e,aiM];simp only[ba,show(126:Int)=((126:Nat):Int)from rfl,neq,ax];by_cases h:pk l at'=126
 .rw[h,BEq.rfl,ge];exact Hb hp hl a 1 (by omega) (by omega)
 .rw[show(pk l at'==126)=false from aiS.2 h,SE];have hd:cO (pk l at')=true:=d.resolve_right h;refine Hb hp hl a 0 (by omega) ?_;simp_all[sV]
variable{H:DH}{p at' st m:Nat}{l:ak}{x y:D}
theorem MB(c:Nat):∀(l:ak) (n:Int),0<=n->decide (xj l c n>=0)=decide (c∈l)
 |[],n,_=>by simp[xj]
 |z::r,n,h=>by
  rw[xj];by_cases e:z=c
  .simp_all
  .have hb:Nat.beq z c=false:=by grind [Nat.eq_of_beq_eq_true]
   rw[hb,SE,MB c r (n+1) (by omega)]
   grind
theorem RO(c:Nat)(hc:c<256)(H:DH):aq 242 [.str sgs,.int .u8 (c:Nat)] H=ret (.i (xj sgs c 0)) H:=Ma (by
 show(bif Nat.blt c 256&&_ then _ else _)=_;have:Nat.blt c 256=true:=by unfold Nat.blt;exact abk hc
 rw[this];rfl)
def Wz(l:ak)(at':Nat)(H:DH)(r:ai):Prop :=
 (∃(k v:Int) (n:Nat),1<=n/\at'+n<=l.length/\r=ret (tk k v ((l.drop at').take n) at') H/\(lg l at'->k=1)/\(¬ lg l at'->sH l at'=some (k,n)))\/(∃ a e:Int,e≠0/\r=pan (wr a e) H/\(¬ lg l at'->sH l at'=none))
theorem CZ{l:ak}{p:Nat}(hp:p<l.length)(h:cN (pk l p)=true):1<=eY l p:=by grind [sV,eY]
theorem TP(hp:H[p]? = some (.cells st (oL l at' (.map m) y)))(hl:l.length<=24)(o:at'<l.length) :
 ae aB 221 11 [.g (.ptr p 0),.lp 0 0,.g (.int .u8 (pk l at':Nat))] [(0,(xT 0 0 [] 0))] H=if Ju l at'=0 then pan (wr at' 11) H else ret (tk 6 0 ((l.drop at').take (Ju l at')) at') H:=by
 refine cj (Vu) ?_;have s1:=me hp (Nat.le_of_lt o) [61,62];have s2:=me hp (Nat.le_of_lt o) [45,62];rw[av s1];have two:∀ {a b:Nat},(l.drop at').take 2=[a,b]->at'+2<=l.length:=λh=>by grind [List.length_take]
 by_cases j:(l.drop at').take 2=[61,62]
 .have e:Ju l at'=2:=by unfold Ju;rw[agC (.inl j)]
  have d:=tB hp 6 2 (two j) (by omega);rw[afp (by omega)]at d;rw[e,afp (by omega),show(List.take [61,62].length (l.drop at')==[61,62])=true by simp[j],ax,ge];rw[show(.i 2:D)=.i ((2:Nat):Int)from rfl,av d];rfl
 .rw[show(List.take [61,62].length (l.drop at')==[61,62])=false by simp[j],ax,SE,av s2];by_cases k:(l.drop at').take 2=[45,62]
  .have e:Ju l at'=2:=by unfold Ju;rw[agC (.inr k)]
   have d:=tB hp 6 2 (two k) (by omega);rw[afp (by omega)]at d;rw[e,afp (by omega),show(List.take [45,62].length (l.drop at')==[45,62])=true by simp[k],ax,ge];rw[show(.i 2:D)=.i ((2:Nat):Int)from rfl,av d];rfl
  .rw[show(List.take [45,62].length (l.drop at')==[45,62])=false by simp[k],ax,SE];have q:=RO (pk l at') (abU _ _) H;rw[show([40,41,44,59,58,124,61,60,43,45,42,47,37,95]:ak)=sgs from rfl,av q];simp only[cM,MB _ _ 0 (ajd 0),ax];have e:Ju l at'=if pk l at'∈sgs then 1 else 0:=by unfold Ju;rw[afp (by simp[j,k])]
   by_cases n:pk l at'∈sgs
   .rw[agC n]at e;have d:=tB hp 6 1 (by omega) (by omega);rw[afp (by omega)]at d;rw[e,afp (by omega),abt n,ge,show(.i 1:D)=.i ((1:Nat):Int)from rfl,av d];rfl
   .rw[afp n]at e;rw[e,agC rfl,abl n,SE];simp only[ac hp,aj,au,qQ,Qz,Qy,wr]
theorem PE(hp:H[p]? = some (.cells st (oL l at' (.map m) y)))(hm:H[m]? = some (.map Li))(hl:l.length<=24)(j:at'<l.length):Wz l at' H (aq 221 [.ptr p 0] H):=by
 have O:=tg hp 0 (by omega);rw[show aq 221 [.ptr p 0] H=_ from ev (agQ) rfl];rw[show(.i 0:D)=.i ((0:Nat):Int)from rfl,av O,aiM,av (yg _ _)];simp only[ba,show(126:Int)=((126:Nat):Int)from rfl,show(39:Int)=((39:Nat):Int)from rfl,neq,ax,av (Ek _ _),av (MD _ _)];have num:lg l at'->Wz l at' H (C aB 236 [.ptr p 0] H λQ U=>ah 4 Q λl7=>aw (xT ((0:Nat):Int) ((0:Nat):Int) [] ((0:Nat):Int)) 0 l7 λl8=>af l8 0 λX=>af l8 1 λd10=>af l8 2 λd11=>af l8 3 λd12=>ret (.agg [X,d10,d11,d12]) U):=λo=>by
  rcases NR hp hl j o with⟨v,n,u,q,w⟩|w
  .rw[av w];exact .inl ⟨1,v,n,u,q,rfl,λ_=>rfl,λh=>(h o).elim⟩
  .rw[Eb w];exact .inr ⟨at',13,by decide,rfl,λh=>(h o).elim⟩
 cases M:cO (pk l at')with
 |true=>rw[ge];exact num (.inl M)
 |false =>
 rw[SE];by_cases a:pk l at'=126
 .rw[a,BEq.rfl,ge];exact num (.inr a)
 rw[show(pk l at'==126)=false from aiS.2 a,SE];have e:¬ lg l at':=λh=>by rcases h with h|h;exact(by rw[M]at h;cases h);exact a h
 have nm:∀ k:Int,(sH l at'=if eY l at'>24 then none else some (if(l.drop at').take (eY l at')∈IW then 5 else k,eY l at'))->cN (pk l at')=true ->
  Wz l at' H (C aB 238 [.ptr p 0,.i k] H λd24 H25=>ah 4 d24 λl26=>aw (xT ((0:Nat):Int) ((0:Nat):Int) [] ((0:Nat):Int)) 0 l26 λl27=>af l27 0 λd28=>af l27 1 λd29=>af l27 2 λd30=>af l27 3 λd31=>ret (.agg [d28,d29,d30,d31]) H25):=λk d z=>by
  have o:=Uy hp hm k (by omega) (Nat.le_of_lt j);have u:=CZ j z;have q:=He l at' (Nat.le_of_lt j);by_cases hc:eY l at'>24
  .grind
  .rw[afp hc]at o d;rw[av o];exact .inl ⟨_,0,_,u,q,rfl,λh=>(e h).elim,λ_=>d⟩
 cases F:pZ (pk l at')with
 |true =>grind [sH,cN]
 |false =>
 rw[SE];cases G:BA (pk l at')with
 |true =>
  rw[ge];refine nm 3 ?_ (by unfold cN;rw[G];simp);unfold sH;rw[afp (by rw[F];decide),agC G];have r:(l.drop at').take (eY l at')∉IW:=λr=>by
   have N:((l.drop at').take (eY l at'))[0]? = l[at']?:=by
    have u:=CZ j (by unfold cN;rw[G];simp)
    grind
   generalize(l.drop at').take (eY l at')=t at r N;have I:pk l at'=(t[0]?).getD 0%256:=by unfold pk;rw[N]
   rw[I]at F;simp only[IW,abn,akh,or_false]at r;rcases r with rfl|rfl|rfl|rfl|rfl|rfl|rfl|rfl|rfl|rfl|rfl|rfl|rfl|rfl|rfl<;>exact absurd F (by decide)
  rw[afp r]
 |false =>
 rw[SE];have sg:(pk l at'=39/\pZ (pk l (at'+1))=true->False)->Wz l at' H (ae aB 221 11 [.g (.ptr p 0),.lp 0 0,.g (.int .u8 (pk l at':Nat))] [(0,(xT ((0:Nat):Int) ((0:Nat):Int) [] ((0:Nat):Int)))] H):=λhq=>by
  have h:=TP hp hl j;have d:sH l at'=if Ju l at'=0 then none else some (6,Ju l at'):=by grind [sH]
  by_cases hc:Ju l at'=0
  .rw[agC hc]at h d;exact .inr ⟨at',11,by decide,h,λ_=>d⟩
  .rw[afp hc]at h d;refine .inl ⟨6,0,Ju l at',by omega,?_,h,λh=>(e h).elim,λ_=>d⟩
   grind [Ju,List.drop,List.length_take,List.length_drop]
 by_cases J:pk l at'=39
 .rw[J,BEq.rfl,ge];have Y:=tg hp 1 (by omega);rw[show(1:Int)=((1:Nat):Int)from rfl,av Y,av (Ek _ _),ax];cases q:pZ (pk l (at'+1))with
  |true =>
   rw[ge];have hlt:at'+1<l.length:=by
    rcases aiU (at'+1) l.length with h|h
    .exact h
    .rw[zf h]at q;cases q
   have Z:=yO Nk (λc H=>JD H c) hp (by omega) 1 (by omega);have hr:=yS cN l (at'+1) (by omega);have s:=tB hp 4 (1+rn cN l (at'+1)) (by omega) (by omega);rw[av Z];simp only[bJ,wN (show 1+rn cN l (at'+1)<2^62 by omega)];have d:sH l at'=if 1+rn cN l (at'+1)>24 then none else some (4,1+rn cN l (at'+1)):=by grind [sH]
   rw[afp (by omega)]at s d;rw[av s];exact .inl ⟨4,0,_,by omega,by omega,rfl,λh=>(e h).elim,λ_=>d⟩
  |false =>grind
 grind
theorem iM{P:Program}{t:TypeId}{m b:Nat}(h:aF P t m=(Nat.ble (b*(m+Nat.div m 4+600)) 281474976710656&&Nat.ble m 4611686018427387904))(hb:b<=1000)(hm:m<=100000):aF P t m=true:=by rw[h,aaV];refine⟨abk ?_,abk (by omega)⟩;have h1:Nat.div m 4<=m:=Nat.div_le_self m 4;have h2:b*(m+Nat.div m 4+600)<=1000*(100000+100000+600):=Nat.mul_le_mul hb (by omega);omega
theorem LE{m:Nat}(h:m<=100000):aF ab 322 m=true:=iM (b:=16) (by kernel_rfl) (by decide) h
theorem ED{m:Nat}(h:m<=100000):aF ab 162 m=true:=iM (b:=40) (by kernel_rfl) (by decide) h
theorem Jv{H:DH}{p:Nat}{b:DB}(h:H[p]? = some b):H.set p b=H:=by
 apply ajl
 grind
variable{p:Nat}{l:ak}{x y:D}
theorem Py{a b at':Nat}(h:((l.drop at').take 2==[a,b])=true):at'+2<=l.length:=by grind [List.length_take]
theorem Ir(hl:l.length<=24):∀(n at' st:Nat) (H:DH) (v d:Int),n=l.length - at'->at'<=l.length->H[p]? = some (.cells st (oL l at' x y)) ->
 (∃ at2 st2,at'<at2/\at2<=l.length/\ae aB 233 200002 [.g (.ptr p 0),.n v,.n d] [] H=ret (.tuple []) (H.set p (.cells st2 (oL l at2 x y)))) \/
 (∃(a e:Int) (at2 st2:Nat),e≠0/\ae aB 233 200002 [.g (.ptr p 0),.n v,.n d] [] H=pan (wr a e) (H.set p (.cells st2 (oL l at2 x y))))
 |n,at',st,H,v,d,hn,o,hp=>by
  have s1:=me hp o [40,42];have s2:=me hp o [42,41]
  have step:∀ k (i:Int),1<=k->k<=2->at'+k<=l.length ->
   (∃ at2 st2,at'<at2/\at2<=l.length/\ae aB 233 200002 [.g (.ptr p 0),.n v,.n i] [] (H.set p (.cells (st+1) (oL l (at'+k) x y)))=ret (.tuple []) (H.set p (.cells st2 (oL l at2 x y)))) \/
   (∃(a e:Int) (at2 st2:Nat),e≠0/\ae aB 233 200002 [.g (.ptr p 0),.n v,.n i] [] (H.set p (.cells (st+1) (oL l (at'+k) x y)))=pan (wr a e) (H.set p (.cells st2 (oL l at2 x y)))):=λk i j h q=>by
   rcases Ir hl (l.length - (at'+k)) (at'+k) (st+1) (H.set p (.cells (st+1) (oL l (at'+k) x y))) v i rfl q (aT _ hp)with⟨at2,st2,r,s,k3⟩|⟨a,e,at2,st2,r,s⟩
   .grind [List.set_set]
   grind [List.set_set]
  rw[show ae aB 233 200002 [.g (.ptr p 0),.n v,.n d] [] H=_ from cj (HK) rfl];simp only[ac hp,aj,au,Rr,cM,nge,ax];cases hc:decide (l.length<=at')with
  |true=>exact .inr ⟨v,12,at',st,by decide,by rw[ge,Jv hp];rfl⟩
  |false =>
   have hc:¬ l.length<=at':=by simpa using hc
   rw[SE,av s1,ax];cases j:((l.drop at').take [40,42].length==[40,42])with
   |true =>
    have h:=Py j;rw[ge];cases decide (d>=100)with
    |true =>simp only[ge,ac hp,aj,au,qQ,Qz,Qy];exact .inr ⟨at',6,at',st,by decide,by rw[Jv hp];rfl⟩
    |false =>simp only[SE,ac hp,aj,au,bJ,show(2:Int)=((2:Nat):Int)from rfl,wN (show at'+2<2^62 by omega),qQ,NM];exact step 2 _ (by omega) (by omega) h
   |false =>
    rw[SE,av s2,ax];cases j:((l.drop at').take [42,41].length==[42,41])with
    |true =>
     have h:=Py j;simp only[ge,ac hp,aj,au,bJ,show(2:Int)=((2:Nat):Int)from rfl,wN (show at'+2<2^62 by omega),qQ,NM];cases (di (d - 1)==0)with
     |true=>exact .inl ⟨at'+2,st+1,by omega,h,rfl⟩
     |false=>rw[SE];exact step 2 _ (by omega) (by omega) h
    |false =>simp only[SE,ac hp,aj,au,bJ,show(1:Int)=((1:Nat):Int)from rfl,wN (show at'+1<2^62 by omega),qQ,NM];exact step 1 _ (by omega) (by omega) (by omega)
 termination_by n=>n
theorem aaB(hl:l.length<=24){at' st:Nat}{H:DH}(d:at'<=l.length)(hp:H[p]? = some (.cells st (oL l at' x y))) :
 (∃ at2 st2,at'<at2/\at2<=l.length/\aq 233 [.ptr p 0] H=ret (.tuple []) (H.set p (.cells st2 (oL l at2 x y)))) \/
 (∃(a e:Int) (at2 st2:Nat),e≠0/\aq 233 [.ptr p 0] H=pan (wr a e) (H.set p (.cells st2 (oL l at2 x y)))):=by
 rw[show aq 233 [.ptr p 0] H=_ from ev (agM) rfl];simp only[ac hp,aj,au];exact Ir hl _ at' st H at' 0 rfl d hp
structure Jc(H:DH)(p:Nat)(l:ak)(at' m oc:Nat)(c:aO):Prop where
 hp:∃ st,H[p]? = some (.cells st (oL l at' (.map m) (.buf 2 oc c.length)))
 hm:H[m]? = some (.map Li)
 hc:H[oc]? = some (.buf 2 true false c)
def Fr(p oc:Nat)(H a:DH):Prop:=∀(o:Nat) b,o≠p->o≠oc->H[o]? = some b->a[o]? = some b
theorem Fr.trans{oc:Nat}{A B C:DH}(h:Fr p oc A B)(k:Fr p oc B C):Fr p oc A C:=λo b a d e=>k o b a d (h o b a d e)
theorem Fr.set{oc:Nat}{H:DH}{b:DB}:Fr p oc H (H.set p b):=λo c a _ d=>by rw[afA (aks a)];exact d
theorem Fr.set2{oc:Nat}{H:DH}{b:DB}:Fr p oc H (H.set oc b):=λo c _ a d=>by rw[afA (aks a)];exact d
def skip(l:ak)(at':Nat):Prop:=eU (pk l at')=true\/(l.drop at').take 2=[40,42]
theorem Jc.mv{H:DH}{at' m oc:Nat}{c:aO}(h:Jc H p l at' m oc c)(at2 st2:Nat):Jc (H.set p (.cells st2 (oL l at2 (.map m) (.buf 2 oc c.length)))) p l at2 m oc c:=by
 obtain⟨st,hp⟩:=h.hp;have a:p≠m:=λe=>by subst e;rw[h.hm]at hp;cases hp
 have d:p≠oc:=λe=>by subst e;rw[h.hc]at hp;cases hp
 exact⟨⟨st2,aT _ hp⟩,ao _ a h.hm,ao _ d h.hc⟩
theorem CS(hl:l.length<=24){m oc:Nat}:∀(n at':Nat) (H:DH) (c:aO),n=l.length - at'->at'<=l.length->c.length+(l.length - at')<=100->Jc H p l at' m oc c ->
 (∃ at2 c2 k,ae aB 220 200000 [.g (.ptr p 0)] [] H=ret (.tuple []) k/\Jc k p l at2 m oc c2/\at'<=at2/\at2<=l.length/\c2.length+(l.length - at2)<=100/\Fr p oc H k/\(¬ skip l at'->at2=at')/\(at'<l.length->skip l at'->at'<at2)) \/
 (∃(a e:Int) (k:DH),e≠0/\ae aB 220 200000 [.g (.ptr p 0)] [] H=pan (wr a e) k/\Fr p oc H k/\skip l at')
 |n,at',H,c,hn,ha,hcl,Y=>by
  obtain⟨st,hp⟩:=Y.hp;have Z:=yO VW (λc H=>TO H c) hp (by omega) 0 (by omega);rw[aiM]at Z;have hr:=yS eU l at' ha;rw[show ae aB 220 200000 [.g (.ptr p 0)] [] H=_ from cj (HM) rfl];rw[show(.i 0:D)=.i ((0:Nat):Int)from rfl,fq Z];simp only[JH hp,ac hp,aj,au,bJ,wN (show at'+rn eU l at'<2^62 by omega),qQ,NM];have o:=Y.mv (at'+rn eU l at') (st+1);have r:Fr p oc H (H.set p (.cells (st+1) (oL l (at'+rn eU l at') (.map m) (.buf 2 oc c.length)))):=.set;generalize H.set p (.cells (st+1) (oL l (at'+rn eU l at') (.map m) (.buf 2 oc c.length)))=I at o r ⊢;obtain⟨gH,s⟩:=o.hp;have s1:=me s hr [40,42];rw[av s1];simp only[aP,ax];have v:¬ eU (pk l at')=true->rn eU l at'=0:=λh=>by grind [sV]
  have hyes:at'<l.length->eU (pk l at')=true->1<=rn eU l at':=λh q=>by rw[sV eU h,agC q];omega
  cases h2:((l.drop (at'+rn eU l at')).take [40,42].length==[40,42])with
  |false =>
   rw[aeH,ge];refine .inl ⟨_,c,I,rfl,o,by omega,hr,by omega,r,λh=>?_,λhlt h=>?_⟩
   .rw[v (λq=>h (.inl q)),aiM]
   .rcases h with h|h
    .grind
    grind
  |true =>
   have u:skip l at':=by
    by_cases hq:eU (pk l at')=true
    .exact .inl hq
    .rw[v hq,aiM]at h2;exact .inr (eq_of_beq h2)
   rw[aep,SE];simp only[ac s,aj,au];rcases aaB hl hr s with⟨at2,st2,k1,J,k3⟩|⟨a,e,at2,st2,k1,J⟩
   .rw[av k3];have d:=o.mv at2 st2;have w:Fr p oc H (I.set p (.cells st2 (oL l at2 (.map m) (.buf 2 oc c.length)))):=r.trans .set;generalize I.set p (.cells st2 (oL l at2 (.map m) (.buf 2 oc c.length)))=k at d w ⊢;obtain⟨st3,j⟩:=d.hp;have z:oc≠p:=λe=>by subst e;rw[d.hc]at j;cases j
    have M:oc≠m:=λe=>by have:=d.hm;rw[<- e,d.hc]at this;cases this
    simp only[ac j,aj,au,qQ,Qz,Qy,ce2];have N:∀(κ:D->DH->ai) (e:List D),bX (aF ab 322) 2 (.buf 2 oc c.length) [e] k κ=κ (.buf 2 oc (c.length+1)) (k.set oc (.buf 2 true false (c++[e]))):=λκ e=>by simp only[bX,abc,LE (show 1<=100000 by omega),boK,ge,acD,cD d.hc,LE (show c.length+1<=100000 by omega),aeo,aeH,aiJ,grow,SE]
    rw[N];have F:=ao (.buf 2 true false (c++[[.i ((at'+rn eU l at':Nat):Int),.i ((at2:Nat):Int)]])) z j;simp only[KM,ac F,YQ]
    have O:Jc ((k.set oc (.buf 2 true false (c++[[.i ((at'+rn eU l at':Nat):Int),.i ((at2:Nat):Int)]]))).set p (.cells (st3+1) [.str l,.i ((at2:Nat):Int),.map m,.buf 2 oc (c.length+1)])) p l at2 m oc (c++[[.i ((at'+rn eU l at':Nat):Int),.i ((at2:Nat):Int)]]) :=
     ⟨⟨st3+1,by rw[aT _ F];simp⟩,ao _ (λe=>by subst e;rw[d.hm]at j;cases j) (ao _ M d.hm),ao _ z.symm (aT _ d.hc)⟩
    have G:=(w.trans (Fr.set2 (p:=p) (oc:=oc) (b:=.buf 2 true false (c++[[.i ((at'+rn eU l at':Nat):Int),.i ((at2:Nat):Int)]])))).trans (Fr.set (p:=p) (oc:=oc) (b:=.cells (st3+1) [.str l,.i ((at2:Nat):Int),.map m,.buf 2 oc (c.length+1)]));rcases CS hl (l.length - at2) at2 _ _ rfl J (by simp;omega) O with⟨at4,c4,Q,U,X,j3,j4,j5,j6,_⟩|⟨a,e,Q,U,X,j3,_⟩
    .exact .inl ⟨at4,c4,Q,U,X,by omega,j4,j5,G.trans j6,λh=>(h u).elim,λ_ _=>by omega⟩
    .exact .inr ⟨a,e,Q,U,X,G.trans j3,u⟩
   .rw[Eb J];exact .inr ⟨a,e,_,k1,rfl,r.trans .set,u⟩
 termination_by n=>n
theorem LW(hl:l.length<=24){m oc at':Nat}{H:DH}{c:aO}(h:at'<=l.length)(hc:c.length+(l.length - at')<=100)(i:Jc H p l at' m oc c) :
 (∃ at2 c2 d,aq 220 [.ptr p 0] H=ret (.tuple []) d/\Jc d p l at2 m oc c2/\at'<=at2/\at2<=l.length/\c2.length+(l.length - at2)<=100/\Fr p oc H d/\(¬ skip l at'->at2=at')/\(at'<l.length->skip l at'->at'<at2)) \/
 (∃(a e:Int) (d:DH),e≠0/\aq 220 [.ptr p 0] H=pan (wr a e) d/\Fr p oc H d/\skip l at'):=by
 rw[show aq 220 [.ptr p 0] H=_ from ev (agR) rfl];exact CS hl _ at' H c rfl h hc i
def Yc:List D:=IW.map .str
theorem acL(cs:List D)(c:Nat)(κ:D->ai):br ab 9 cs c κ=af cs c κ:=by kernel_rfl
theorem adq{k:Nat}{w:ak}(h:IW[k]? = some w)(κ:D->ai):kb ab 306 (.agg Yc) (.i (k:Nat)) κ=κ (.str w):=by
 have e:kb ab 306 (.agg Yc) (.i (k:Nat)) κ=bif Nat.blt k 15 then br ab 9 Yc (Nat.mul k 1) κ else none:=by kernel_rfl
 have hk:k<15:=(abj.1 h).1;have hb:Nat.blt k 15=true:=by unfold Nat.blt;exact abk hk
 rw[e,hb,ge,acL,show Nat.mul k 1=k from Nat.mul_one k,af,Yc,afd,h];rfl
theorem UA(m:Nat)(w:ak)(v:D)(H:DH)(κ:DH->ai):jp ab 302 (.map m) (.str w) v H κ=ig H m λes=>fY (.str w) v es λes=>κ (H.set m (.map es)):=by kernel_rfl
theorem UC:∀ k,k<15->∃ w,IW[k]? = some w/\Cd (.str w) (.i 5) (Li.take k)=some (Li.take (k+1))
 |0,_=>⟨_,rfl,rfl⟩
 |1,_=>⟨_,rfl,rfl⟩
 |2,_=>⟨_,rfl,rfl⟩
 |3,_=>⟨_,rfl,rfl⟩
 |4,_=>⟨_,rfl,rfl⟩
 |5,_=>⟨_,rfl,rfl⟩
 |6,_=>⟨_,rfl,rfl⟩
 |7,_=>⟨_,rfl,rfl⟩
 |8,_=>⟨_,rfl,rfl⟩
 |9,_=>⟨_,rfl,rfl⟩
 |10,_=>⟨_,rfl,rfl⟩
 |11,_=>⟨_,rfl,rfl⟩
 |12,_=>⟨_,rfl,rfl⟩
 |13,_=>⟨_,rfl,rfl⟩
 |14,_=>⟨_,rfl,rfl⟩
 |n+15,h=>by omega
theorem Hf{p m oc:Nat}{l:ak}:∀(n k st:Nat) (H:DH),n=15 - k->k<=15->H[p]? = some (.cells st (oL l 0 (.map m) (.buf 2 oc 0)))->H[m]? = some (.map (Li.take k)) ->
 ae aB 191 200003 [.g (.ptr p 0),.g (.agg Yc),.n (k:Nat)] [] H=ret (.ptr p 0) (H.set m (.map Li))
 |n,k,st,H,hn,hk,hp,hm=>by
  refine cj (by unfold Yc IW;exact HO) ?_;rw[show(15:Int)=((15:Nat):Int)from rfl,mK];by_cases hc:k<15
  .rw[abt hc,ge];obtain⟨w,d,h⟩:=UC k hc;have e:=adq d;unfold Yc IW at e;simp only[acg,List.map_nil]at e;have a:m≠p:=λe=>by subst e;rw[hm]at hp;cases hp
   have ih:=Hf (n - 1) (k+1) st (H.set m (.map (Li.take (k+1)))) (by omega) hc (ao _ a hp) (aT _ hm);rw[afu]at ih;simp only[e,ac hp,aj,au,UA,fT hm,fY,h,show(1:Int)=((1:Nat):Int)from rfl,wN (show k+1<2^62 by omega)];exact ih
  .rw[abl hc,SE];have:k=15:=by omega
   subst this;rw[show Li.take 15=Li from rfl]at hm;rw[Jv hm]
 termination_by n=>n
theorem Zb(l:ak)(H:DH):∃ H',aq 191 [.str l] H=ret (.ptr (H.length+2) 0) H'/\Jc H' (H.length+2) l 0 H.length (H.length+1) []/\∀(o:Nat) b,H[o]? = some b->H'[o]? = some b:=by
 have e:aq 191 [.str l] H=_:=ev (agY) rfl;have a:(H++[DB.map []]).length=H.length+1:=by simp
 have d:(H++[DB.map []]++[DB.buf 2 true false []]).length=H.length+2:=by simp
 simp only[a,d]at e;have hp:((H++[DB.map []]++[DB.buf 2 true false []])++[DB.cells 0 (oL l 0 (.map H.length) (.buf 2 (H.length+1) 0))])[H.length+2]? = some (.cells 0 (oL l 0 (.map H.length) (.buf 2 (H.length+1) 0))):=by rw[<- d];exact aZ _ _
 have hm:((H++[DB.map []]++[DB.buf 2 true false []])++[DB.cells 0 (oL l 0 (.map H.length) (.buf 2 (H.length+1) 0))])[H.length]? = some (.map (Li.take 0)):=az _ (az _ (aZ _ _));have hc:((H++[DB.map []]++[DB.buf 2 true false []])++[DB.cells 0 (oL l 0 (.map H.length) (.buf 2 (H.length+1) 0))])[H.length+1]? = some (.buf 2 true false []):=az _ (by rw[<- a];exact aZ _ _);have h:=Hf 15 0 0 _ rfl (by omega) hp hm;refine⟨_,e.trans h,⟨⟨0,ao _ (by omega) hp⟩,aT _ hm,ao _ (by omega) hc⟩,λo b hb=>?_⟩
 grind
def UM:ak:=[0,2,3,4,6,7,8,9,10]
def UL(l:ak)(p A B bx:Nat):List LD:=[.g (.str l),.g (.ptr p 0),.g (.ptr A 0),.g (.ptr B 0),.g (.str l),.g (.ptr p 0),.g (.func 192 [] [.ptr A 0,.ptr B 0]),.g (.ptr p 0),.g (.func 219 [] [.ptr bx 0])]
def Mo(l:ak)(p A B bx:Nat):DB:=Zo de 151 UM (UL l p A B bx)
def Zn(l:ak)(p A B bx:Nat):DB:=match Mo l p A B bx with
 |.loop _ f nt t ps a b=>.loop false f nt t ps a b
 |b=>b
variable{H:DH}{l:ak}{K p A B bx y:Nat}
theorem aaN{κ:DH->ai}(h:H[y]? = some (Mo l p A B bx)):OF H y κ=κ (H.set y (Zn l p A B bx)):=by rw[OF,h];kernel_rfl
theorem So(h:H[y]? = some (Zn l p A B bx)):yR H y=ret (.bool true) (H.set y (Mo l p A B bx)):=by rw[yR,h];kernel_rfl
theorem UP{κ:DH->ai}(h:H[y]? = some (Mo l p A B bx)):Df H y κ=κ (H.set y .opq):=by rw[Df,h];kernel_rfl
theorem YC{d:D}(h:H[y]? = some (Mo l p A B bx)):eP de (.call 0 [d] (some (.round y))) H=rnd de aB 151 y UM (UL l p A B bx) [d] H:=by rw[KE];show uD de (Pd aB) y [d] H=_;rw[uD,h];kernel_rfl
theorem EW(b:DB)(h:(match b with|.loop ..=>false|_=>true)=true):Mo l p A B bx≠b:=by
 have:(match Mo l p A B bx with|.loop ..=>false|_=>true)=false:=by kernel_rfl
 grind
structure TA(K:Nat)(H:DH)(l:ak)(p A B bx y:Nat)(toks:aO):Prop where
 hA:∃ st v,H[A]? = some (.cells st [v])/\((toks=[]/\v=.nilrow)\/(toks≠[]/\∃ X,v=.buf 4 X toks.length/\H[X]? = some (.buf 4 true false toks)/\K<=X))
 hB:∃ st,H[B]? = some (.cells st [.i 0,.i 0])
 hb:∃ st,H[bx]? = some (.cells st [.ptr p 0])
 hy:H[y+1]? = some (Mo l p A B bx)
 hk:H[y]? = some .coll
 nA:A≠p
 nB:B≠p
 nb:bx≠p
 AB:A≠B
 Ab:A≠bx
 kA:K<=A
 ky:K<=y
def Kp(K:Nat)(H a:DH):Prop:=∀(o:Nat) b,o<K->H[o]? = some b->a[o]? = some b
theorem Kp.trans{K:Nat}{a b c:DH}(h:Kp K a b)(k:Kp K b c):Kp K a c:=λo x d e=>k o x d (h o x d e)
theorem Kp.of{K p oc:Nat}{H a:DH}(h:Fr p oc H a)(h1:K<=p)(h2:K<=oc):Kp K H a:=λo b h3 d=>h o b (by omega) (by omega) d
theorem TA.fr{a:DH}{oc:Nat}{c:aO}{toks:aO}(h:TA K H l p A B bx y toks)(d:H[oc]? = some (.buf 2 true false c))(k:Fr p oc H a)(hp:∃ st cs,H[p]? = some (.cells st cs)):TA K a l p A B bx y toks:=by
 obtain⟨stp,csp,hp⟩:=hp
 have kc:∀ {o:Nat} {b:DB},o≠p->H[o]? = some b->(∀ sz q r l,b≠.buf sz q r l\/sz≠2)->a[o]? = some b:=λ{o b} j i n=>k o b j (λe=>by
  subst e;rw[d]at i;rcases n 2 true false c with q|q
  .exact q (agn i).symm
  .exact q rfl) i
 obtain⟨sA,v,hA,hA2⟩:=h.hA;obtain⟨sB,hB⟩:=h.hB;obtain⟨sb,hb⟩:=h.hb;have ny:y+1≠p:=λe=>by have:=h.hy;rw[e,hp]at this;exact EW (.cells stp csp) rfl (agn this).symm
 have nk:y≠p:=λe=>by have:=h.hk;rw[e,hp]at this;cases this
 refine⟨⟨sA,v,kc h.nA hA (λ_ _ _ _=>.inl (λq=>by cases q)),?_⟩,⟨sB,kc h.nB hB (λ_ _ _ _=>.inl (λq=>by cases q))⟩,⟨sb,kc h.nb hb (λ_ _ _ _=>.inl (λq=>by cases q))⟩,kc ny h.hy (λ_ _ _ _=>.inl (EW _ rfl)),kc nk h.hk (λ_ _ _ _=>.inl (λq=>by cases q)),h.nA,h.nB,h.nb,h.AB,h.Ab,h.kA,h.ky⟩
 grind
theorem PZ{m oc at':Nat}{c toks:aO}(j:Jc H p l at' m oc c)(d:TA K H l p A B bx y toks)(hn:toks.length<=1000)(k v:Int)(t:ak)(a:Nat) :
 ∃ i,eP de (.call 0 [tk k v t a] (some (.round (y+1)))) H=ret (.bool true) i/\Jc i p l at' m oc c/\TA K i l p A B bx y (toks++[(xT k v t a)])/\Kp K H i:=by
 obtain⟨stp,hp⟩:=j.hp;obtain⟨sA,w,hA,Y⟩:=d.hA;obtain⟨sB,hB⟩:=d.hB;obtain⟨sb,hb⟩:=d.hb;have e:eP de (.call 0 [tk k v t a] (some (.round (y+1)))) H=_:=(YC d.hy).trans ((show rnd de aB 151 (y+1) UM (UL l p A B bx) [tk k v t a] H=YD de aB 200 151 (y+1) UM (UL l p A B bx) [tk k v t a] H by rw[YD,FG]).trans (Sj));have J:∀ {o:Nat} {b:DB},H[o]? = some b->o<H.length:=λ{o b} h=>by grind
 have hN:=aZ H (.cells 0 (xT 0 0 [] 0));have O:∀ {o:Nat} {b:DB},H[o]? = some b->((H++[DB.cells 0 (xT 0 0 [] 0)]).set H.length (.cells (0+1) (xT k v t a)))[o]? = some b:=λ{o b} h=>ao _ (by have:=J h;omega) (az _ h);have gN:=aT (.cells (0+1) (xT k v t a)) hN;simp only[ac hN,ov4]at e;generalize(H++[DB.cells 0 (xT 0 0 [] 0)]).set H.length (.cells (0+1) (xT k v t a))=Q at e O gN;rw[aaN (O d.hy)]at e;have ny:∀ {o:Nat} {b:DB},H[o]? = some b->(match b with|.loop ..=>false|_=>true)=true->y+1≠o:=λ{o b} U Z q=>by subst q;have:=d.hy;rw[U]at this;exact EW b Z (agn this).symm
 have M:∀ {o:Nat} {b:DB},H[o]? = some b->y+1≠o->(Q.set (y+1) (Zn l p A B bx))[o]? = some b:=λh q=>ao _ q (O h);have gN2:(Q.set (y+1) (Zn l p A B bx))[H.length]? = _:=ao _ (by have:=J d.hy;omega) gN;have gy2:(Q.set (y+1) (Zn l p A B bx))[y+1]? = _:=aT (Zn l p A B bx) (O d.hy);generalize Q.set (y+1) (Zn l p A B bx)=i at e M gN2 gy2;have r:=M hA (ny hA rfl);simp only[ac r,ac gN2,aj,au]at e;have Ay:A≠y+1:=(ny hA rfl).symm;have nil (toksE:toks=[]) (wE:w=.nilrow):∃ i,eP de (.call 0 [tk k v t a] (some (.round (y+1)))) H=ret (.bool true) i/\Jc i p l at' m oc c/\TA K i l p A B bx y (toks++[(xT k v t a)])/\Kp K H i:=by
  subst toksE wE;have I:∀(κ:D->DH->ai) (e:List D),bX (aF ab 162) 4 .nilrow [e] i κ=κ (.buf 4 i.length 1) (i++[.buf 4 true false [e]]):=λκ e=>by grind [bX,List.length_singleton,ED,boK]
  rw[I]at e;have s:=az (.buf 4 true false [(xT k v t a)]) r;simp only[KM,ac s]at e;rw[show ∀ κ:List D->ai,aw [D.nilrow] 0 [.buf 4 i.length 1] κ=κ [.buf 4 i.length 1] from λ_=>rfl]at e;rw[So (ao _ Ay (az _ gy2))]at e;have u:∀ {o:Nat} {b:DB},i[o]? = some b->o<i.length:=λ{o b} h=>by grind
  have n:∀ {o:Nat} {b:DB},H[o]? = some b->y+1≠o->A≠o->(((i++[DB.buf 4 true false [(xT k v t a)]]).set A (.cells (sA+1) [.buf 4 i.length 1])).set (y+1) (Mo l p A B bx))[o]? = some b:=λh F N=>ao _ F (ao _ N (az _ (M h F)))
  refine⟨_,e,⟨⟨stp,n hp (ny hp rfl) d.nA⟩,n j.hm (ny j.hm rfl) (λq=>by have:=j.hm;rw[<- q,hA]at this;cases this),n j.hc (ny j.hc rfl) (λq=>by have:=j.hc;rw[<- q,hA]at this;cases this)⟩,
   ⟨⟨sA+1,_,ao _ Ay.symm (aT _ s),.inr ⟨by simp,i.length,rfl,ao _ (by have:=u gy2;omega) (ao _ (by have:=u r;omega) (aZ _ _)),by have:=u r;have:=d.kA;omega⟩⟩,⟨sB,n hB (ny hB rfl) d.AB⟩,⟨sb,n hb (ny hb rfl) d.Ab⟩,aT _ (ao _ Ay (az _ gy2)),n d.hk (by omega) (λq=>by have:=d.hk;rw[<- q,hA]at this;cases this),d.nA,d.nB,d.nb,d.AB,d.Ab,d.kA,d.ky⟩,λo b ho hb=>n hb (by have:=d.ky;omega) (by have:=d.kA;omega)⟩
 rcases Y with⟨F,N⟩|⟨F,X,rfl,G,q4⟩
 .exact nil F N
 .have hX:=M G (ny G rfl);have XA:X≠A:=λq=>by rw[q,hA]at G;cases G
  have Xy:X≠y+1:=(ny G rfl).symm;have I:∀(κ:D->DH->ai) (e:List D),bX (aF ab 162) 4 (.buf 4 X toks.length) [e] i κ=κ (.buf 4 X (toks.length+1)) (i.set X (.buf 4 true false (toks++[e]))):=λκ e=>by simp only[bX,abc,ED (show 1<=100000 by omega),boK,ge,acD,cD hX,ED (show toks.length+1<=100000 by omega),aeo,aeH,aiJ,grow,SE]
  rw[I]at e;have s:=ao (.buf 4 true false (toks++[(xT k v t a)])) XA r;simp only[KM,ac s]at e;rw[show ∀(z:D) (κ:List D->ai),aw [z] 0 [.buf 4 X (toks.length+1)] κ=κ [.buf 4 X (toks.length+1)] from λ_ _=>rfl]at e;rw[So (ao _ Ay (ao _ Xy gy2))]at e;have n:∀ {o:Nat} {b:DB},H[o]? = some b->y+1≠o->A≠o->X≠o->(((i.set X (.buf 4 true false (toks++[(xT k v t a)]))).set A (.cells (sA+1) [.buf 4 X (toks.length+1)])).set (y+1) (Mo l p A B bx))[o]? = some b:=λh F N G=>ao _ F (ao _ N (ao _ G (M h F)));have Xn:∀ {o:Nat} {b:DB},H[o]? = some b->b≠.buf 4 true false toks->X≠o:=λU Z q=>by subst q;rw[G]at U;exact Z (agn U).symm
  refine⟨_,e,⟨⟨stp,n hp (ny hp rfl) d.nA (Xn hp (λq=>by cases q))⟩,n j.hm (ny j.hm rfl) (λq=>by have:=j.hm;rw[<- q,hA]at this;cases this) (Xn j.hm (λq=>by cases q)),n j.hc (ny j.hc rfl) (λq=>by have:=j.hc;rw[<- q,hA]at this;cases this) (Xn j.hc (λq=>by cases q))⟩,
   ⟨⟨sA+1,_,ao _ Ay.symm (aT _ s),.inr ⟨by simp,X,by simp,ao _ Xy.symm (ao _ XA.symm (aT _ hX)),q4⟩⟩,⟨sB,n hB (ny hB rfl) d.AB (Xn hB (λq=>by cases q))⟩,⟨sb,n hb (ny hb rfl) d.Ab (Xn hb (λq=>by cases q))⟩,aT _ (ao _ Ay (ao _ Xy gy2)),n d.hk (by omega) (λq=>by have:=d.hk;rw[<- q,hA]at this;cases this) (Xn d.hk (λq=>by cases q)),d.nA,d.nB,d.nb,d.AB,d.Ab,d.kA,d.ky⟩,λo b ho hb=>n hb (by have:=d.ky;omega) (by have:=d.kA;omega) (by omega)⟩
theorem ld3(o c:Nat)(H:DH)(κ:D->ai):bW ab 3 (.ptr o c) H κ=am H o λ_ cs=>af cs c κ:=by kernel_rfl
theorem ld9(o c:Nat)(H:DH)(κ:D->ai):bW ab 9 (.ptr o c) H κ=am H o λ_ cs=>af cs c κ:=by kernel_rfl
theorem mB(o c:Nat)(κ:D->ai):kC (.ptr o c) κ=κ (.ptr o c):=rfl
theorem oA(o c n:Nat)(κ:D->ai):ct (.ptr o c) n κ=κ (.ptr o (c+n)):=rfl
theorem afF(o c:Nat)(new:List D)(H:DH)(κ:DH->ai):IY (.ptr o c) new H κ=am H o λst cs=>aw cs c new λcs=>κ (H.set o (.cells (st+1) cs)):=rfl
variable{l:ak}{K p A B bx y m oc:Nat}
def IT(l:ak)(at':Nat)(r:aO):Prop:=at'<l.length->∃(k v:Int) (n:Nat) (a:aO),r=(xT k v ((l.drop at').take n) at')::a/\1<=n/\at'+n<=l.length/\(lg l at'->k=1)/\(¬ lg l at'->sH l at'=some (k,n))/\(at'+n=l.length->a=[])
def om(l:ak)(at':Nat):Prop:=at'<l.length/\(¬ lg l at'->sH l at'=none\/∃ k n,sH l at'=some (k,n)/\at'+n≠l.length)
theorem Uw{l:ak}{a:Nat}(h:l.length<=a):¬ skip l a:=λq=>by
 rcases q with q|q
 .rw[zf h]at q;cases q
 grind [List.drop_eq_nil_of_le]
set_option maxHeartbeats 2000000 in
theorem CF(hl:l.length<=24)(kp:K<=p)(ko:K<=oc):∀(n at':Nat) (H:DH) (c toks:aO),n=l.length - at'->at'<=l.length->c.length+(l.length - at')<=100->toks.length+(l.length - at')<=100->Jc H p l at' m oc c->TA K H l p A B bx y toks ->
 (∃ i r,ae aB 219 200001 [.g (.yld (y+1)),.g (.ptr bx 0)] [] H=ret (.tuple []) i/\TA K i l p A B bx y (toks++r)/\(at'=l.length->r=[])/\IT l at' r/\Kp K H i) \/
 (∃(a e:Int) (i:DH) (T:aO),e≠0/\ae aB 219 200001 [.g (.yld (y+1)),.g (.ptr bx 0)] [] H=pan (wr a e) i/\TA K i l p A B bx y T/\om l at'/\Kp K H i)
 |n,at',H,c,toks,hn,ha,hcl,htl,w,z=>by
  obtain⟨st,hp⟩:=w.hp;obtain⟨sb,hb⟩:=z.hb;rw[show ae aB 219 200001 [.g (.yld (y+1)),.g (.ptr bx 0)] [] H=_ from cj (HN) rfl];simp only[ac hb,aj,au,mB,oA,ld3,ld9,ac hp,adO,Rr,cE,mK,ax];by_cases hc:at'<l.length
  .rw[abt hc,ge];rcases PE hp w.hm hl hc with⟨k,v,n',I,F,J,h4,M⟩|⟨a,e,I,F,J⟩
   .have o:((l.drop at').take n').length=n':=by rw[agm,ajf];omega
    rw[av J];simp only[tk,ce4,ov4,ac hb,aj,au,mB,oA,ld3,ac hp,adO,Rr,o,bJ,wN (show at'+n'<2^62 by omega),qQ,afF,NM];have s:=w.mv (at'+n') (st+1);have kp1:=Kp.of (Fr.set (H:=H) (p:=p) (oc:=oc) (b:=.cells (st+1) (oL l (at'+n') (.map m) (.buf 2 oc c.length)))) kp ko;have u:=z.fr w.hc (Fr.set (b:=.cells (st+1) (oL l (at'+n') (.map m) (.buf 2 oc c.length)))) ⟨_,_,hp⟩;generalize H.set p (.cells (st+1) (oL l (at'+n') (.map m) (.buf 2 oc c.length)))=H1 at s u kp1 ⊢;obtain⟨i,r1,d,j,kp2⟩:=PZ s u (by omega) k v ((l.drop at').take n') at';rw[tk]at r1;rw[fq r1];obtain⟨sb2,N⟩:=j.hb;simp only[aP,aep,ax,SE,ac N,aj,au];rcases LW hl F (by omega) d with⟨at3,c3,O,Q,U,X,Y,j5,Z,_,_⟩|⟨a,e,O,Q,U,X,Y⟩
    .rw[av Q];have hT3:=j.fr d.hc Z (by obtain⟨st,h⟩:=d.hp;exact⟨_,_,h⟩);rcases CF hl kp ko (l.length - at3) at3 O c3 _ rfl Y j5 (by simp;omega) U hT3 with⟨H4,r,i1,G,i3,i4,i5⟩|⟨a,e,H4,T,i1,G,i3,i4,i5⟩
     .refine .inl ⟨H4,_::r,i1,by rw[aft]at G;exact G,λq=>by omega,λ_=>⟨k,v,n',r,rfl,I,F,h4,M,λq=>i3 (by omega)⟩,((kp1.trans kp2).trans (Kp.of Z kp ko)).trans i5⟩
     .exact .inr ⟨a,e,H4,T,i1,G,i3,⟨hc,λq=>.inr ⟨k,n',M q,by have:=i4.1;omega⟩⟩,((kp1.trans kp2).trans (Kp.of Z kp ko)).trans i5⟩
    .rw[Eb U];exact .inr ⟨a,e,O,_,Q,rfl,j.fr d.hc X (by obtain⟨st,h⟩:=d.hp;exact⟨_,_,h⟩),⟨hc,λq=>.inr ⟨k,n',M q,λq2=>Uw (by omega) Y⟩⟩,(kp1.trans kp2).trans (Kp.of X kp ko)⟩
   .rw[Eb F];exact .inr ⟨a,e,H,toks,I,rfl,z,⟨hc,λq=>.inl (J q)⟩,λ_ _ _ h=>h⟩
  .rw[abl hc,SE];exact .inl ⟨H,[],rfl,by rw[afq];exact z,λ_=>rfl,λq=>(hc q).elim,λ_ _ _ h=>h⟩
 termination_by n=>n
open Classical in
def bY(l:ak):Int:=if l.length=0\/24<l.length\/skip l 0\/lg l 0 then 0 else match sH l 0 with
 |none=>0
 |some (k,n)=>if n=l.length then k else 0
def rl(l:ak):aO->Int
 |[[.int _ k,_,.str t,_]]=>if t=l then k else 0
 |_=>0
def BN(l:ak)(k:Int):Prop:=k=bY l\/(lg l 0/\k=1)
theorem lm{l:ak}(h:l.length=0\/24<l.length\/skip l 0\/lg l 0):bY l=0:=by unfold bY;rw[agC h]
theorem RF(hl:l.length<=24){at2:Nat}{T:aO}(h0:at2=l.length->T=[])(i:IT l at2 T)(h1:at2<=l.length)(j:¬ skip l 0->at2=0)(o:0<l.length->skip l 0->0<at2):BN l (rl l T):=by
 by_cases r:l.length=0
 .rw[h0 (by omega)];exact .inl (lm (.inl r)).symm
 by_cases e:skip l 0
 .have:=o (by omega) e;refine .inl ?_;rw[lm (.inr (.inr (.inl e)))];rcases aiU at2 l.length with q|q
  .obtain⟨k,v,n,d,rfl,_,_,_⟩:=i q;cases d with
   |nil =>grind [rl,List.length,List.length_take,List.length_drop]
   |cons _ _=>rfl
  .rw[h0 (by omega)];rfl
 .have e0:=j e;subst e0;obtain⟨k,v,n,d,rfl,q1,q2,s,u,q5⟩:=i (by omega);by_cases a:lg l 0
  .cases d with
   |nil =>
    simp only[rl];split
    .exact .inr ⟨a,s a⟩
    .exact .inl (lm (.inr (.inr (.inr a)))).symm
   |cons _ _=>exact .inl (lm (.inr (.inr (.inr a)))).symm
  .have ht:=u a;refine .inl ?_;have hk:bY l=if n=l.length then k else 0:=by grind [bY]
   rw[hk];by_cases h:n=l.length
   .simp_all[rl,ajt,aiR,aaW]
   .rw[afp h];cases d with
    |nil =>grind [rl,List.length,List.length_take,List.length_drop]
    |cons _ _=>rfl
theorem Hn(hl:l.length<=24)(h:skip l 0\/om l 0):BN l 0:=by
 refine .inl ?_;by_cases a:skip l 0
 .grind [lm]
 by_cases hn:lg l 0
 .grind [lm]
 obtain⟨h1,h2⟩:=h.resolve_left a
 grind [bY]
variable{l:ak}{K p A B bx y m oc:Nat}
def aaU(T:aO):Prop:=∀ cs r,T=cs::r->∃(k v:Int) (t:ak) (a:Int),cs=(xT k v t a)
theorem IT.f{at2:Nat}{T:aO}(h0:at2=l.length->T=[])(a:IT l at2 T)(h1:at2<=l.length):aaU T:=λcs r e=>by
 rcases aiU at2 l.length with q|q
 .obtain⟨k,v,n,r',h,_⟩:=a q
  grind
 grind
theorem Tz(hl:l.length<=24)(kp:K<=p)(ko:K<=oc){H:DH}(i:Jc H p l 0 m oc [])(o:TA K H l p A B bx y []) :
 (∃ d T,aq 219 [.yld (y+1),.ptr bx 0] H=ret (.tuple []) d/\TA K d l p A B bx y T/\BN l (rl l T)/\Kp K H d/\aaU T) \/
 (∃(a e:Int) (d:DH) (T:aO),e≠0/\aq 219 [.yld (y+1),.ptr bx 0] H=pan (wr a e) d/\TA K d l p A B bx y T/\BN l 0/\Kp K H d):=by
 rw[show aq 219 [.yld (y+1),.ptr bx 0] H=_ from ev (f219) rfl];obtain⟨sb,hb⟩:=o.hb;simp only[ac hb,aj];rcases LW hl (ajg _) (by simp;omega) i with⟨at2,c2,d,q,s,u,j,N,v,J,O⟩|⟨a,e,d,q,s,u,j⟩
 .have w:=o.fr i.hc v (by obtain⟨st,h⟩:=i.hp;exact⟨_,_,h⟩);rw[av q];rcases CF hl kp ko _ at2 d c2 [] rfl j N (by simp;omega) s w with⟨z,r,F,G,n,k,I⟩|⟨a,e,z,T,F,G,n,k,I⟩
  .exact .inl ⟨z,r,F,G,RF hl n k j J O,(Kp.of v kp ko).trans I,IT.f n k j⟩
  .refine .inr ⟨a,e,z,T,F,G,n,Hn hl ?_,(Kp.of v kp ko).trans I⟩;by_cases M:skip l 0
   .exact .inl M
   .rw[J M]at k;exact .inr k
 .rw[Eb s];exact .inr ⟨a,e,d,[],q,rfl,o.fr i.hc u (by obtain⟨st,h⟩:=i.hp;exact⟨_,_,h⟩),Hn hl (.inl j),Kp.of u kp ko⟩
theorem Zt(s o n:Nat)(H:DH)(κ:D->ai):aS ab 153 (.buf s o n) H κ=κ (.i (n:Int)):=by kernel_rfl
theorem UV(H:DH)(κ:D->ai):aS ab 153 .nilrow H κ=κ (.i 0):=by kernel_rfl
theorem adA(o n i:Nat)(κ:D->ai):ay ab 153 (.buf 4 o n) (.i i) κ=boK (Nat.blt i n) (κ (.bptr o n i 0)):=by kernel_rfl
theorem DC(o n i c k:Nat)(κ:D->ai):ct (.bptr o n i c) k κ=κ (.bptr o n i (c+k)):=rfl
theorem acQ(o n i c:Nat)(H:DH)(κ:D->ai):bW ab 3 (.bptr o n i c) H κ=dl H o n λ_ _ _ l=>bZ l i λcs=>af cs c κ:=by kernel_rfl
theorem acO(o n i c:Nat)(H:DH)(κ:D->ai):bW ab 9 (.bptr o n i c) H κ=dl H o n λ_ _ _ l=>bZ l i λcs=>af cs c κ:=by kernel_rfl
def aiz(H:DH)(v:D)(T:aO):Prop:=(T=[]/\v=.nilrow)\/(T≠[]/\∃ X,v=.buf 4 X T.length/\H[X]? = some (DB.buf 4 true false T))
theorem Jw(hl:l.length<=24)(H:DH):∃(r:DH) (d v:D) (a e:Int) (T:aO),aq 151 [.str l] H=ret (.tuple [d,v,.agg [.i a,.i e]]) r/\aiz r v T/\BN l (if e=0 then rl l T else 0)/\Kp H.length H r/\aaU T:=by
 rw[show aq 151 [.str l] H=_ from ev (aht) rfl];have hA0:=az (.cells 0 [.i 0,.i 0]) (aZ H (.cells 0 [.nilrow]));have Z:=aZ (H++[DB.cells 0 [.nilrow]]) (.cells 0 [.i 0,.i 0]);have hl1:(H++[DB.cells 0 [.nilrow]]).length=H.length+1:=by simp
 dsimp only;rw[hl1]at Z ⊢;have k0:Kp H.length H (H++[DB.cells 0 [.nilrow]]++[DB.cells 0 [.i 0,.i 0]]):=λo b _ h=>az _ (az _ h);have hl2:(H++[DB.cells 0 [.nilrow]]++[DB.cells 0 [.i 0,.i 0]]).length=H.length+2:=by simp
 generalize H++[DB.cells 0 [.nilrow]]++[DB.cells 0 [.i 0,.i 0]]=Q at hA0 Z k0 hl2 ⊢;obtain⟨r,e1,hS,kS⟩:=Zb l Q;rw[av e1];rw[hl2]at hS;have e2:aq 193 [.ptr (Q.length+2) 0] r=ret (.func 219 [] [.ptr r.length 0]) (r++[.cells 0 [.ptr (Q.length+2) 0]]):=ev (agX) rfl;rw[fq e2];have hA2:=az (.cells 0 [.ptr (Q.length+2) 0]) (kS _ _ hA0);have hB2:=az (.cells 0 [.ptr (Q.length+2) 0]) (kS _ _ Z);have U:=aZ r (.cells 0 [.ptr (Q.length+2) 0]);have I:Jc (r++[.cells 0 [.ptr (Q.length+2) 0]]) (H.length+2+2) l 0 (H.length+2) (H.length+2+1) []:=⟨by obtain⟨st,h⟩:=hS.hp;exact⟨st,az _ h⟩,az _ hS.hm,az _ hS.hc⟩;have lt2:H.length+2+2<r.length:=by
  obtain⟨st,h⟩:=hS.hp
  grind
 have k2:Kp H.length H (r++[.cells 0 [.ptr (Q.length+2) 0]]):=λo b O n=>az _ (kS _ _ (k0 o b O n));have hbx:r.length<(r++[DB.cells 0 [.ptr (Q.length+2) 0]]).length:=by simp
 rw[hl2]at hA2 hB2 U I k2 hbx ⊢;generalize r++[DB.cells 0 [.ptr (H.length+2+2) 0]]=j at hA2 hB2 U I k2 hbx ⊢;generalize r.length=bx at U lt2 hbx ⊢;show ∃(r:DH) (d v:D) (a e:Int) (T:aO),Oe (.func 219 [] [.ptr bx 0]) _=_/\_;simp only[Oe,afn];have ey:j++[DB.coll,Zo de 151 [0,2,3,4,6,7,8,9,10] [.g (.str l),.g (.ptr (H.length+2+2) 0),.g (.ptr H.length 0),.g (.ptr (H.length+1) 0),.g (.str l),.g (.ptr (H.length+2+2) 0),.g (.func 192 [] [.ptr H.length 0,.ptr (H.length+1) 0]),.g (.ptr (H.length+2+2) 0),.g (.func 219 [] [.ptr bx 0])]]=(j++[DB.coll])++[Mo l (H.length+2+2) H.length (H.length+1) bx]:=by rw[aft];rfl
 rw[ey];have hly:(j++[DB.coll]).length=j.length+1:=by simp
 have hS3:Jc ((j++[DB.coll])++[Mo l (H.length+2+2) H.length (H.length+1) bx]) (H.length+2+2) l 0 (H.length+2) (H.length+2+1) []:=⟨by obtain⟨st,h⟩:=I.hp;exact⟨st,az _ (az _ h)⟩,az _ (az _ I.hm),az _ (az _ I.hc)⟩
 have hT3:TA H.length ((j++[DB.coll])++[Mo l (H.length+2+2) H.length (H.length+1) bx]) l (H.length+2+2) H.length (H.length+1) bx j.length [] :=
  ⟨⟨0,.nilrow,az _ (az _ hA2),.inl ⟨rfl,rfl⟩⟩,⟨0,az _ (az _ hB2)⟩,⟨0,az _ (az _ U)⟩,by rw[<- hly];exact aZ _ _,az _ (aZ _ _),by omega,by omega,by omega,by omega,by omega,aaW _,by omega⟩
 have k3:Kp H.length H ((j++[DB.coll])++[Mo l (H.length+2+2) H.length (H.length+1) bx]):=λo b O n=>az _ (az _ (k2 o b O n));rcases Tz hl (by omega) (by omega) hS3 hT3 with⟨G,T,e3,k,hK,k4,hF⟩|⟨a,e,G,T,he,e3,k,hK,k4⟩
 .rw[fq e3,UP k.hy];obtain⟨sA,v,hA,hW⟩:=k.hA;obtain⟨sB,hB⟩:=k.hB;have nyA:j.length+1≠H.length:=by omega
  have nyB:j.length+1≠H.length+1:=by omega
  have u:=ao .opq nyA hA;have F:=ao .opq nyB hB;have hk5:=ao .opq (show j.length+1≠j.length by omega) k.hk;have hv:∀ κ:List D->ai,ah 1 v κ=κ [v]:=λκ=>by rcases hW with⟨_,rfl⟩|⟨_,X,rfl,_⟩<;>rfl
  have hv2:∀(z:D) (κ:List D->ai),aw [z] 0 [v] κ=κ [v]:=λ_ _=>rfl;have hX5:∀ X:Nat,G[X]? = some (DB.buf 4 true false T)->(G.set (j.length+1) .opq)[X]? = some (DB.buf 4 true false T):=λX w=>ao _ (λq=>by rw[<- q,k.hy]at w;exact EW _ rfl (agn w)) w;have k5:Kp H.length H (G.set (j.length+1) .opq):=(k3.trans k4).trans λo b O n=>ao _ (by omega) n;generalize G.set (j.length+1) .opq=Y at u F hk5 hX5 k5 ⊢;simp only[ac u,aj,hv,hv2];have s:=ao (.cells (sA+1) [v]) (show H.length≠H.length+1 by omega) F;have J:=aT (.cells (sA+1) [v]) u;have hk6:=ao (.cells (sA+1) [v]) (show H.length≠j.length by omega) hk5;have hcm:(cK (Y.set H.length (.cells (sA+1) [v])) [Y])[H.length+1]? = some (.cells sB [.i 0,.i 0]):=lE s (λr n=>by simp at n;subst n;exact F);have hX6:∀ X:Nat,G[X]? = some (DB.buf 4 true false T)->(Y.set H.length (.cells (sA+1) [v]))[X]? = some (DB.buf 4 true false T):=λX w=>ao _ (λq=>by rw[<- q,hA]at w;cases w) (hX5 X w);have k6:Kp H.length H (Y.set H.length (.cells (sA+1) [v])):=k5.trans λo b O n=>ao _ (by omega) n;generalize Y.set H.length (.cells (sA+1) [v])=H6 at J s hk6 hcm hX6 k6 ⊢;simp only[ac hcm,ac s,aj,au,Up];have M:=ao (.cells (sB+1) [.i 0,.i 0]) (show H.length+1≠H.length by omega) J;have N:=aT (.cells (sB+1) [.i 0,.i 0]) s;have hk7:=ao (.cells (sB+1) [.i 0,.i 0]) (show H.length+1≠j.length by omega) hk6;have hX7:∀ X:Nat,G[X]? = some (DB.buf 4 true false T)->(H6.set (H.length+1) (.cells (sB+1) [.i 0,.i 0]))[X]? = some (DB.buf 4 true false T):=λX w=>ao _ (λq=>by rw[<- q,hB]at w;cases w) (hX6 X w);have k7:Kp H.length H (H6.set (H.length+1) (.cells (sB+1) [.i 0,.i 0])):=k6.trans λo b O n=>ao _ (by omega) n;generalize H6.set (H.length+1) (.cells (sB+1) [.i 0,.i 0])=H7 at M N hk7 hX7 k7 ⊢;rw[show ∀ κ:DH->ai,uf H7 j.length κ=κ (H7.set j.length .opq)from λκ=>by rw[uf,hk7]];have hA8:=ao .opq (show j.length≠H.length by omega) M;have hB8:=ao .opq (show j.length≠H.length+1 by omega) N;have hX8:∀ X:Nat,G[X]? = some (DB.buf 4 true false T)->(H7.set j.length .opq)[X]? = some (DB.buf 4 true false T):=λX w=>ao _ (λq=>by rw[<- q,k.hk]at w;cases w) (hX7 X w);have k8:Kp H.length H (H7.set j.length .opq):=k7.trans λo b O n=>ao _ (by omega) n;generalize H7.set j.length .opq=H8 at hA8 hB8 hX8 k8 ⊢;have e5:eP de (.call 192 [.ptr H.length 0,.ptr (H.length+1) 0] (some .returning)) H8=some ⟨.ret (.tuple []),some .returning,H8⟩:=ev (aak) rfl;rw[e5];simp only[iH,ac hA8,ac hB8,aj,au];refine⟨H8,_,v,0,0,T,rfl,?_,by rw[agC rfl];exact hK,k8,hF⟩;rcases hW with hW|⟨q1,X,q2,q3,_⟩
  .exact .inl hW
  .exact .inr ⟨q1,X,q2,hX8 X q3⟩
 .rw[OA e3];obtain⟨sA,v,hA,hW⟩:=k.hA;obtain⟨sB,hB⟩:=k.hB;rw[show ∀ κ:DH->ai,uf G j.length κ=κ (G.set j.length .opq)from λκ=>by rw[uf,k.hk]];have u:=ao .opq (show j.length≠H.length by omega) hA;have F:=ao .opq (show j.length≠H.length+1 by omega) hB;have k5:Kp H.length H (G.set j.length .opq):=(k3.trans k4).trans λo b O n=>ao _ (by omega) n;generalize G.set j.length .opq=Y at u F k5 ⊢;have ea:∀(d:D) (κ:D->ai),jI ab (.iface 246 d) 246 true κ=κ (.tuple [d,.bool true]):=λd κ=>by kernel_rfl
  have hv2:∀(z:D) (κ:List D->ai),aw [z] 0 [.nilrow] κ=κ [.nilrow]:=λ_ _=>rfl;have e5:eP de (.call 192 [.ptr H.length 0,.ptr (H.length+1) 0] (some (.panicking [⟨wr a e,false⟩]))) Y=_:=ev (@aal _ _ _ a e _) rfl;simp only[ea,dB,aj,au,ax,ge,ce2,Up,ac u,hv2]at e5;have J:=aT (.cells (sA+1) [.nilrow]) u;have s:=ao (.cells (sA+1) [.nilrow]) (show H.length≠H.length+1 by omega) F;have k6:Kp H.length H (Y.set H.length (.cells (sA+1) [.nilrow])):=k5.trans λo b O n=>ao _ (by omega) n;generalize Y.set H.length (.cells (sA+1) [.nilrow])=H6 at e5 J s k6;simp only[ac s,Up]at e5;have M:=ao (.cells (sB+1) [.i a,.i e]) (show H.length+1≠H.length by omega) J;have N:=aT (.cells (sB+1) [.i a,.i e]) s;have k7:Kp H.length H (H6.set (H.length+1) (.cells (sB+1) [.i a,.i e])):=k6.trans λo b O n=>ao _ (by omega) n;generalize H6.set (H.length+1) (.cells (sB+1) [.i a,.i e])=H7 at e5 M N k7;rw[e5];simp only[iH,EH,ac M,ac N,aj,au];exact⟨H7,_,.nilrow,a,e,[],rfl,.inl ⟨rfl,rfl⟩,by rw[afp he];exact hK,k7,λ_ _ q=>by cases q⟩
theorem CE{H a:DH}(h:Kp H.length H a){d:D}(k:d.bel H.length):aY H (ret d a)=ret d H:=by
 have e:H.length<=a.length:=by
  rcases aiU a.length H.length with q|q
  .have:=h a.length H[a.length] q (abg q)
   grind
  .exact q
 have j:∀ i,i<H.length->a[i]? = H[i]?:=λi hi=>by rw[h i H[i] hi (abg hi),abg hi]
 have n:ol H ⟨.ret d,none,a⟩:=⟨k,rfl,e,λi x hi o=>.inl (by rw[<- j i hi];exact o)⟩;simp only[aY,ret];rw[agC n];have:a.take H.length=H:=by
  apply ajl
  grind
 rw[this]
theorem Zv(l:ak)(H:DH):∃ k,aq 142 [.str l] H=ret (.i k) H/\BN l k:=by
 rw[show aq 142 [.str l] H=_ from ev (ahB) rfl];rw[show(24:Int)=((24:Nat):Int)from rfl,ngt];by_cases hc:24<l.length
 .rw[abt hc,ge];exact⟨0,CE (λ_ _ _ h=>h) trivial,.inl (lm (.inr (.inl hc))).symm⟩
 .rw[abl hc,SE];obtain⟨n,d,v,a,e,T,q,r,o,kp,s⟩:=Jw (l:=l) (by omega) H;rw[av q];have fin:∀ k:Int,aY H (ret (.i k) n)=ret (.i k) H:=λk=>CE kp trivial;simp only[dB,aj,au,ce2,Up,bE,ax];by_cases u:e=0
  .subst u;rw[agC rfl]at o;simp only[agk,SE];rcases r with⟨rfl,rfl⟩|⟨q1,X,rfl,w⟩
   .simp only[UV,bE,ax];rw[show((0:Int) != 1)=true from rfl,ge];exact⟨0,fin 0,o⟩
   .simp only[Zt,bE,ax];by_cases z:T.length=1
    .obtain⟨cs,rfl⟩:∃ cs,T=[cs]:=by
      match T,z with
      |[c],_=>exact⟨c,rfl⟩
     obtain⟨k,v,t,j,rfl⟩:=s cs [] rfl;rw[show(((([(xT k v t j)]:aO).length:Nat):Int) != 1)=false from rfl,SE];have F:∀ κ:Nat->Bool->Bool->aO->ai,dl n X 1 κ=κ 4 true false [(xT k v t j)]:=λκ=>cD (l:=[(xT k v t j)]) w;simp only[show(0:Int)=((0:Nat):Int)from rfl,abc,adA,show Nat.blt 0 1=true from rfl,boK,ge,DC,acQ,acO,adO,F,aD (show([(xT k v t j)]:aO)[0]? = some _ from rfl),aj,au,mH,ax]
     grind [rl]
    .rw[show(((T.length:Nat):Int) != 1)=true by simp;omega,ge];refine⟨0,fin 0,?_⟩;have:rl l T=0:=by
      unfold rl
      grind
     grind
  grind
theorem oF{α:Type}{l:List α}{i:Nat}{x:α}(h:l[i]? = some x):l.set i x=l:=@lP ⟨λ_=>True,[],λ_ _ _ h=>h⟩ α l i x h
inductive Ty where
 |mk (n:ak) (xs:List Ty)
inductive Pa where
 |mk (k:Int) (n:ak) (xs:List Pa)
inductive Ex where
 |mk (k m:Int) (n a:ak) (xs:List Ex) (ps:List Pa)
structure Fu where
 n:ak
 a:ak
 b:Ex
structure Co where
 n:ak
 xs:List Ty
structure Da where
 n:ak
 vs:List ak
 cs:List Co
structure De where
 k:Int
 d:Da
 n:ak
 t:Ty
 fs:List Fu
 b:Ex
mutual
def ga:Ty->List D
 |.mk n xs=>[.str n,.row 2 (iQ xs)]
def iQ:List Ty->aO
 |[]=>[]
 |t::r=>ga t::iQ r
end
mutual
def fQ:Pa->List D
 |.mk k n xs=>[.i k,.str n,.row 3 (bQ xs)]
def bQ:List Pa->aO
 |[]=>[]
 |t::r=>fQ t::bQ r
end
mutual
def er:Ex->List D
 |.mk k m n a xs ps=>(xE k m n a (cw xs) (bQ ps))
def cw:List Ex->aO
 |[]=>[]
 |t::r=>er t::cw r
end
def nL:Fu->List D
 |⟨n,a,.mk k m en ea xs ps⟩=>[.str n,.str a,.i k,.i m,.str en,.str ea,.row 6 (cw xs),.row 3 (bQ ps)]
def lW(s:ak):List D:=[.str s]
def sw:Co->List D
 |⟨n,xs⟩=>[.str n,.row 2 (iQ xs)]
def daC:Da->List D
 |⟨n,vs,cs⟩=>[.str n,.row 1 (vs.map lW),.row 2 (cs.map sw)]
def ed:De->List D
 |⟨k,⟨dn,vs,cs⟩,n,.mk tn ts,fs,.mk ek em en ea xs ps⟩=>(xD k dn (vs.map lW) (cs.map sw) n tn (iQ ts) (fs.map nL) ek em en ea (cw xs) (bQ ps))
theorem jT:∀ l,iQ l=l.map ga
 |[]=>rfl
 |t::r=>by simp[iQ,jT r]
theorem iT:∀ l,bQ l=l.map fQ
 |[]=>rfl
 |t::r=>by simp[bQ,iT r]
theorem mt:∀ l,cw l=l.map er
 |[]=>rfl
 |t::r=>by simp[cw,mt r]
mutual
def Ty.ok:Ty->Prop
 |.mk _ xs=>xs.length<2^62/\Ty.oks xs
def Ty.oks:List Ty->Prop
 |[]=>True
 |t::r=>t.ok/\Ty.oks r
end
mutual
def Pa.ok:Pa->Prop
 |.mk _ _ xs=>xs.length<2^62/\Pa.oks xs
def Pa.oks:List Pa->Prop
 |[]=>True
 |t::r=>t.ok/\Pa.oks r
end
mutual
def Ex.ok:Ex->Prop
 |.mk _ _ _ _ xs ps=>xs.length<2^62/\Ex.oks xs/\ps.length<2^62/\Pa.oks ps
def Ex.oks:List Ex->Prop
 |[]=>True
 |t::r=>t.ok/\Ex.oks r
end
def Co.ok(c:Co):Prop:=c.xs.length<2^62/\Ty.oks c.xs
def Da.ok(d:Da):Prop:=d.vs.length<2^62/\d.cs.length<2^62/\∀ c∈d.cs,c.ok
def De.ok(d:De):Prop:=d.d.ok/\d.t.ok/\d.fs.length<2^62/\(∀ f∈d.fs,f.b.ok)/\d.b.ok
theorem Ty.oks_iff:∀ {l},Ty.oks l↔∀ t∈l,Ty.ok t
 |[]=>by simp[Ty.oks]
 |t::r=>by simp[Ty.oks,Ty.oks_iff (l:=r)]
theorem Pa.oks_iff:∀ {l},Pa.oks l↔∀ t∈l,Pa.ok t
 |[]=>by simp[Pa.oks]
 |t::r=>by simp[Pa.oks,Pa.oks_iff (l:=r)]
theorem Ex.oks_iff:∀ {l},Ex.oks l↔∀ t∈l,Ex.ok t
 |[]=>by simp[Ex.oks]
 |t::r=>by simp[Ex.oks,Ex.oks_iff (l:=r)]
theorem cT{α β:Type}(f:α->β)(pre:List α)(t:α)(suf:List α):((pre++t::suf).map f)[pre.length]? = some (f t):=by simp
abbrev SQ(ix sz cl:Nat)(rows:aO)(c:Nat)(i:Int)(H:DH):ai:=ae aB ix 200002 [.g (.row sz rows),.g (.func cl [] [.ptr c 0]),.n rows.length,.n i] [] H
theorem oj{H X:DH}{f:FuncId}{a:List D}{b:Bool}(h:aq f a (H++X)=ret (.bool b) (H++X)):aY H (C aB f a (H++X) λd H=>ib .not d λd=>ret d H)=ret (.bool !b) H:=by rw[av h];exact Ef _ H _
variable{g:FuncId}
theorem oi{α:Type}{mk:α->D}{enc:α->List D}{sz al ix cl:Nat}{p:α->Bool}(l:List α)(hl:l.length<2^62)
 (h:∀(H:DH) (c i:Nat) (t:α) (b:Bool),H[c]? = some (.cells 0 [.func g [] []])->(l.map enc)[i]? = some (enc t)->decide ((i:Int)<((l.map enc).length:Int))=true->aq g [mk t] H=ret (.bool b) H ->
  SQ ix sz cl (l.map enc) c i H=cond (!b) (ret (.i i) H) (SQ ix sz cl (l.map enc) c (di (i+1)) H))
 (j:∀(H:DH) (c i:Nat),decide ((i:Int)<((l.map enc).length:Int))=false->SQ ix sz cl (l.map enc) c i H=ret (.i (-1)) H)
 (o:∀(H:DH) (n:Int),SQ ix sz cl (l.map enc) H.length 0 (H++[.cells 0 [.func g [] []]])=ret (.i n) (H++[.cells 0 [.func g [] []]])->aq al [.row sz (l.map enc),.func g [] []] H=ret (.bool !(decide (n>=0))) H)
 (q:∀ t∈l,∀ H',aq g [mk t] H'=ret (.bool (p t)) H') (H:DH):aq al [.row sz (l.map enc),.func g [] []] H=ret (.bool (l.all p)) H:=by
 have main:∀(c:Nat) (H:DH),H[c]? = some (.cells 0 [.func g [] []])->∀ suf pre,l=pre++suf->∃ n:Int,SQ ix sz cl (l.map enc) c (pre.length:Nat) H=ret (.i n) H/\decide (n>=0)=!suf.all p:=by
  intro c H hc suf;induction suf with
  |nil=>intro pre e;exact⟨-1,j H c _ (by rw[e];simp),rfl⟩
  |cons t suf ih =>
   intro pre e;obtain⟨n,a,d⟩:=ih (pre++[t]) (by rw[e];simp);have hi:pre.length<l.length:=by rw[e];simp
   have k:=h H c pre.length t _ hc (by rw[e];exact cT _ _ _ _) (by simpa using hi) (q t (by rw[e];simp) H);rw[aaY,abc]at a;rw[aX (show pre.length<2^62 by omega),a]at k
   grind
 obtain⟨n,a,d⟩:=main H.length (H++[.cells 0 [.func g [] []]]) (aZ H _) l [] rfl;rw[o H n a,d,Bool.not_not]
theorem XT{p:Ty->Bool}(hb:aQ bV g=true)(l:List Ty)(hl:l.length<2^62)(a:∀ t∈l,∀ H',aq g [.agg (ga t)] H'=ret (.bool (p t)) H')(H:DH):aq 138 [.row 2 (l.map ga),.func g [] []] H=ret (.bool (l.all p)) H :=
 oi (mk:=λt=>.agg (ga t)) (ix:=215) (cl:=180) l hl (λH c i t b hc h hi a=>by
  have d:aq 180 [.agg (ga t),.ptr c 0] H=ret (.bool !b) H:=by
   obtain⟨n,xs⟩:=t;try simp only[ga]at a ⊢
   exact ev (ahj) (by simp only[ac hc,aj,dX hb,afn,afq,av a,aP])
  obtain⟨n,xs⟩:=t;try simp only[ga]at d
  refine cj (wo) ?_;rw[hi,ge,bS,aD h];simp only[ga,aj,au,dX (show aQ bV 180=true by kernel_rfl),afn,afL,av d,aP,ax])
  (λH c i hi=>cj (wo) (by rw[hi];rfl))
  (λH n h=>ev (f138) (oj (ev (ahk) (by simp only[av (ev (agT) h),cM])))) a H
theorem aeW{p:ak->Bool}(hb:aQ bV g=true)(l:List ak)(hl:l.length<2^62)(a:∀ t∈l,∀ H',aq g [.str t] H'=ret (.bool (p t)) H')(H:DH):aq 139 [.row 1 (l.map lW),.func g [] []] H=ret (.bool (l.all p)) H :=
 oi (mk:=λt=>.str t) (ix:=216) (cl:=182) l hl (λH c i t b hc h hi a=>by
  have d:aq 182 [.str t,.ptr c 0] H=ret (.bool !b) H:=by
   skip
   try simp only[lW]at a ⊢
   exact ev (ahh) (by simp only[ac hc,aj,dX hb,afn,afq,av a,aP])
  skip
  try simp only[lW]at d
  refine cj (wn) ?_;rw[hi,ge,bS,aD h];simp only[lW,aj,au,dX (show aQ bV 182=true by kernel_rfl),afn,afL,av d,aP,ax])
  (λH c i hi=>cj (wn) (by rw[hi];rfl))
  (λH n h=>ev (ahE) (oj (ev (ahi) (by simp only[av (ev (agS) h),cM])))) a H
theorem afa{p:Co->Bool}(hb:aQ bV g=true)(l:List Co)(hl:l.length<2^62)(a:∀ t∈l,∀ H',aq g [.agg (sw t)] H'=ret (.bool (p t)) H')(H:DH):aq 141 [.row 2 (l.map sw),.func g [] []] H=ret (.bool (l.all p)) H :=
 oi (mk:=λt=>.agg (sw t)) (ix:=211) (cl:=184) l hl (λH c i t b hc h hi a=>by
  have d:aq 184 [.agg (sw t),.ptr c 0] H=ret (.bool !b) H:=by
   obtain⟨n,xs⟩:=t;try simp only[sw]at a ⊢
   exact ev (ahf) (by simp only[ac hc,aj,dX hb,afn,afq,av a,aP])
  obtain⟨n,xs⟩:=t;try simp only[sw]at d
  refine cj (wt) ?_;rw[hi,ge,bS,aD h];simp only[sw,aj,au,dX (show aQ bV 184=true by kernel_rfl),afn,afL,av d,aP,ax])
  (λH c i hi=>cj (wt) (by rw[hi];rfl))
  (λH n h=>ev (ahC) (oj (ev (ahg) (by simp only[av (ev (agW) h),cM])))) a H
theorem aeY{p:Ex->Bool}(hb:aQ bV g=true)(l:List Ex)(hl:l.length<2^62)(d:∀ t∈l,∀ H',aq g [.agg (er t)] H'=ret (.bool (p t)) H')(H:DH):aq 145 [.row 6 (l.map er),.func g [] []] H=ret (.bool (l.all p)) H :=
 oi (mk:=λt=>.agg (er t)) (ix:=217) (cl:=187) l hl (λH c i t b hc h hi d=>by
  have e:aq 187 [.agg (er t),.ptr c 0] H=ret (.bool !b) H:=by
   obtain⟨k,m,n,a,xs,ps⟩:=t;try simp only[er]at d ⊢
   exact ev (ahc) (by simp only[ac hc,aj,dX hb,afn,afq,av d,aP])
  obtain⟨k,m,n,a,xs,ps⟩:=t;try simp only[er]at e
  refine cj (wm) ?_;rw[hi,ge,bS,aD h];simp only[er,aj,au,dX (show aQ bV 187=true by kernel_rfl),afn,afL,av e,aP,ax])
  (λH c i hi=>cj (wm) (by rw[hi];rfl))
  (λH n h=>ev (ahz) (oj (ev (ahd) (by simp only[av (ev (f217) h),cM])))) d H
theorem XU{p:Pa->Bool}(hb:aQ bV g=true)(l:List Pa)(hl:l.length<2^62)(a:∀ t∈l,∀ H',aq g [.agg (fQ t)] H'=ret (.bool (p t)) H')(H:DH):aq 146 [.row 3 (l.map fQ),.func g [] []] H=ret (.bool (l.all p)) H :=
 oi (mk:=λt=>.agg (fQ t)) (ix:=218) (cl:=189) l hl (λH c i t b hc h hi a=>by
  have d:aq 189 [.agg (fQ t),.ptr c 0] H=ret (.bool !b) H:=by
   obtain⟨k,n,xs⟩:=t;try simp only[fQ]at a ⊢
   exact ev (aha) (by simp only[ac hc,aj,dX hb,afn,afq,av a,aP])
  obtain⟨k,n,xs⟩:=t;try simp only[fQ]at d
  refine cj (wl) ?_;rw[hi,ge,bS,aD h];simp only[fQ,aj,au,dX (show aQ bV 189=true by kernel_rfl),afn,afL,av d,aP,ax])
  (λH c i hi=>cj (wl) (by rw[hi];rfl))
  (λH n h=>ev (ahy) (oj (ev (ahb) (by simp only[av (ev (f218) h),cM])))) a H
theorem aeZ{p:De->Bool}(hb:aQ bV g=true)(l:List De)(hl:l.length<2^62)(a:∀ t∈l,∀ H',aq g [.agg (ed t)] H'=ret (.bool (p t)) H')(H:DH):aq 58 [.row 14 (l.map ed),.func g [] []] H=ret (.bool (l.all p)) H :=
 oi (mk:=λt=>.agg (ed t)) (ix:=136) (cl:=93) l hl (λH c i t b hc h hi a=>by
  have d:aq 93 [.agg (ed t),.ptr c 0] H=ret (.bool !b) H:=by
   obtain⟨k,⟨dn,vs,cs⟩,n,⟨tn,ts⟩,fs,⟨ek,em,en,ea,xs,ps⟩⟩:=t;try simp only[ed]at a ⊢
   exact ev (f93) (by simp only[ac hc,aj,dX hb,afn,afq,av a,aP])
  obtain⟨k,⟨dn,vs,cs⟩,n,⟨tn,ts⟩,fs,⟨ek,em,en,ea,xs,ps⟩⟩:=t;try simp only[ed]at d
  refine cj (wD) ?_;rw[hi,ge,bS,aD h];simp only[ed,aj,au,dX (show aQ bV 93=true by kernel_rfl),afn,afL,av d,aP,ax])
  (λH c i hi=>cj (wD) (by rw[hi];rfl))
  (λH n h=>ev (f58) (oj (ev (f92) (by simp only[av (ev (ahF) h),cM])))) a H
theorem aeX{p:Fu->Bool}(hb:aQ bV g=true)(l:List Fu)(hl:l.length<2^62)(d:∀ t∈l,∀ H',aq g [.agg (nL t)] H'=ret (.bool (p t)) H')(H:DH):aq 100 [.row 8 (l.map nL),.func g [] []] H=ret (.bool (l.all p)) H :=
 oi (mk:=λt=>.agg (nL t)) (ix:=185) (cl:=144) l hl (λH c i t b hc h hi d=>by
  have e:aq 144 [.agg (nL t),.ptr c 0] H=ret (.bool !b) H:=by
   obtain⟨n,a,⟨k,m,en,ea,xs,ps⟩⟩:=t;try simp only[nL]at d ⊢
   exact ev (ahA) (by simp only[ac hc,aj,dX hb,afn,afq,av d,aP])
  obtain⟨n,a,⟨k,m,en,ea,xs,ps⟩⟩:=t;try simp only[nL]at e
  refine cj (wv) ?_;rw[hi,ge,bS,aD h];simp only[nL,aj,au,dX (show aQ bV 144=true by kernel_rfl),afn,afL,av e,aP,ax])
  (λH c i hi=>cj (wv) (by rw[hi];rfl))
  (λH n h=>ev (ahZ) (oj (ev (f143) (by simp only[av (ev (ahe) h),cM])))) d H
end
section
open Go.AI
structure KOk(kind:ak->Int):Prop where
 a:∀ s H,∃ k,aq 142 [.str s] H=ret (.i k) H/\(k=kind s\/(kind s=0/\k=1))
 c:kind [44]≠3
theorem kq{k n j:Int}(h:k=n\/(n=0/\k=1))(hj:2<=j):(k==j)=(n==j):=by grind
variable{kind:ak->Int}(K:KOk kind)
include K
theorem pE(s:ak)(H:DH):aq 98 [.str s] H=ret (.bool (kind s==2)) H:=by obtain⟨k,d,e⟩:=K.a s H;exact ev (f98) (by simp only[av d,ba,kq e (show(2:Int)<=2 by decide)])
theorem nK(s:ak)(H:DH):aq 117 [.str s] H=ret (.bool (kind s==3)) H:=by obtain⟨k,d,e⟩:=K.a s H;exact ev (ahW) (by simp only[av d,ba,kq e (show(2:Int)<=3 by decide)])
theorem Mz(s:ak)(H:DH):aq 140 [.str s] H=ret (.bool (kind s==4)) H:=by obtain⟨k,d,e⟩:=K.a s H;exact ev (ahD) (by simp only[av d,ba,kq e (show(2:Int)<=4 by decide)])
omit K
section
variable(kind:ak->Int)
def Px(n:ak)(k:Nat):Bool:=if n==[45,62] then k==2 else if n==[44] then decide (2<=k)&&decide (k<=4)else if kind n==4&&k==0 then true else kind n==3&&decide (k<=16)
mutual
def oP:Ty->Bool
 |.mk n xs=>qi xs&&Px kind n xs.length
def qi:List Ty->Bool
 |[]=>true
 |t::r=>oP t&&qi r
end
end
theorem oO:∀ l,qi kind l=l.all (oP kind)
 |[]=>rfl
 |t::r=>by simp[qi,oO r]
theorem jU:∀ l,(iQ l).length=l.length:=λl=>by rw[jT,abe]
theorem xC(pre:List Ty)(t:Ty)(suf:List Ty):(iQ (pre++t::suf))[pre.length]? = some (ga t):=by rw[jT];exact cT _ _ _ _
include K
mutual
theorem Dn:∀(t:Ty) (H:DH),t.ok->aq 99 [.agg (ga t)] H=ret (.bool (oP kind t)) H
 |.mk n xs,H,h=>by
  simp only[Ty.ok]at h;refine ev (by simp only[ga];exact f99) ?_;have d:=rW xs h.2;have e:aQ bV 99=true:=by kernel_rfl
  have a:=XT e (p:=oP kind) xs h.1 d H;rw[<- jT,<- oO]at a;simp only[av a,av (Mz K _ _),av (nK K _ _),ax,aP,jU,cond_eq_ite,oP,Px];clear d a;generalize qi kind xs=q;cases q<;>simp only[aeo,afz,aep,aeH,ajY,akp,aiW]
  repeat' (first|rfl|split)
  all_goals simp_all
  all_goals first|omega|(rw[afw];simp<;>omega)
theorem rW:∀(l:List Ty),Ty.oks l->∀ t∈l,∀ H',aq 99 [.agg (ga t)] H'=ret (.bool (oP kind t)) H'
 |[],_,t,a,_=>by cases a
 |x::r,h,t,a,H'=>by
  simp only[Ty.oks]at h;rcases abn.mp a with e|a
  .simp_all[Dn]
  .exact rW r h.2 t a H'
end
end
section
open Go.AI
theorem kOk:KOk bY:=by
 have w:∀ {l:ak} {k:Int},BN l k->k=bY l\/(bY l=0/\k=1):=λh=>by
  rcases h with h|⟨a,d⟩
  .exact .inl h
  grind [lm]
 refine⟨λs H=>?_,?_⟩
 .obtain⟨k,a,d⟩:=Zv s H;exact⟨k,a,w d⟩
 .unfold bY;split
  .decide
  .have:sH [44] 0=some (6,1):=by decide
   grind
end
section
open Go.RowKit Go.Lib
structure qM(w:World):Prop where
 mx:∃ m,w.cell? ⟨0,0,none⟩=some (.int .i64 m)
 syn:∃ ev,w.cell? ⟨1,0,none⟩=some ev/\(ev=.nilIface\/∃ te pe,ev=.iface te pe)
 rng:∃ ev,w.cell? ⟨2,0,none⟩=some ev/\(ev=.nilIface\/∃ te pe,ev=.iface te pe)
 pow:Lib.TabIs Tryz.prog w "internal/strconv.uint64pow10" .u64 Lib.pow10Tab
 sz:6<=w.heap.size
 pw:∀ w',Below w.heap.size w w'->Lib.TabIs Tryz.prog w' "internal/strconv.uint64pow10" .u64 Lib.pow10Tab
theorem qM.below{w w':World}(h:qM w)(b:Below w.heap.size w w'):qM w':=by
 have hs:=h.sz;refine⟨?_,?_,?_,h.pw w' b,Nat.le_trans h.sz b.size,λe a=>h.pw e (b.trans ⟨a.os,a.tape,a.output,a.size,λk hk=>a.block k (Nat.lt_of_lt_of_le hk b.size)⟩)⟩
 .obtain⟨m,hm⟩:=h.mx;exact⟨m,(b.cell (p:=⟨0,0,none⟩) (show 0<w.heap.size by omega)).trans hm⟩
 .obtain⟨m,hm,d⟩:=h.syn;exact⟨m,(b.cell (p:=⟨1,0,none⟩) (show 1<w.heap.size by omega)).trans hm,d⟩
 .obtain⟨m,hm,d⟩:=h.rng;exact⟨m,(b.cell (p:=⟨2,0,none⟩) (show 2<w.heap.size by omega)).trans hm,d⟩
theorem Below.up{a b c:World}(h:Below a.heap.size a b)(k:Below b.heap.size b c):Below a.heap.size a c :=
 h.trans ⟨k.os,k.tape,k.output,k.size,λi hi=>k.block i (Nat.lt_of_lt_of_le hi h.size)⟩
theorem sX(old new:List UInt8):∀(k:Nat) (s:List UInt8),(Lib.replaceK old new k s).length<=s.length+k*new.length
 |0,s=>by simp[Lib.replaceK]
 |k+1,s=>by
  rw[Lib.replaceK];split
  .omega
  .have ih:=sX old new k (s.drop ((Lib.index s old).toNat+old.length))
   grind
theorem GP(s old new:List UInt8):(Lib.replace s old new 1).length<=s.length+new.length:=by
 unfold Lib.replace;split
 .omega
 .have h1:=sX old new (Lib.replaceNum s old 1) s;have a:Lib.replaceNum s old 1<=1:=by unfold Lib.replaceNum;split<;>simp_all;omega
  have h3:Lib.replaceNum s old 1*new.length<=1*new.length:=Nat.mul_le_mul_right _ a;omega
theorem FH(n:Int)(h0:-9223372036854775808<=n)(o:n<=9223372036854775807)(w:World)(q:qM w) :
 Calls Tryz.prog 256 #[.int .i64 n] w λe w'=>e=.returned (.string (VF n))/\Below w.heap.size w w':=by
 go_enter Tryz.func256,Tryz.ntmps256
 go_wp2_with (first
  |(go_at_call 267;refine(Tryz.strconv_Itoa n h0 o _ q.pow).mono ?_;rintro e W1 ⟨rfl,k,os,rfl⟩))
 have a:Below w.heap.size w (Go.Sort.grow (w.drewN k) os):=below_regrown w _ os;have d:=q.below a;obtain⟨m,hm⟩:=d.mx;have hlen:=Lib.itoa_length_le n h0 o;have hsz:(ByteArray.mk (Lib.itoa n).toArray).size=(Lib.itoa n).length:=by simp[ByteArray.size]
 have h:=Lib.countB_mul_le (ByteArray.mk #[45]) (by decide) _ (ByteArray.mk (Lib.itoa n).toArray) (Nat.le_refl _);refine(Tryz.strings_Replace ⟨(Lib.itoa n).toArray⟩ ⟨#[45]⟩ ⟨#[126]⟩ 1 m _ (by omega) hm (by decide) ?_).mono ?_
 .have:(ByteArray.mk #[126]).size=1:=rfl;have i:(ByteArray.mk #[45]).size=1:=rfl;rw[this];rw[i]at h;omega
 rintro e W2 ⟨rfl,j⟩
 go_wp2
 go_ret
 exact⟨rfl,Below.up a j⟩
theorem EN(s:ByteArray)(hs:s.size<=1000)(w:World)(I:qM w) :
 Calls Tryz.prog 249 #[.string s] w λe w'=>e=.returned (.tuple #[.int .i64 (rP s).1,.int .i64 (rP s).2])/\Below w.heap.size w w':=by
 obtain⟨m,hm⟩:=I.mx;have q:=Lib.countB_mul_le (ByteArray.mk #[126]) (by decide) _ s (Nat.le_refl _);have n:(ByteArray.mk #[126]).size=1:=rfl;have r:(ByteArray.mk #[45]).size=1:=rfl;rw[n]at q
 go_enter Tryz.func249,Tryz.ntmps249
 go_wp2_with (first
  |(go_at_call 255;refine(Tryz.strings_Replace s ⟨#[126]⟩ ⟨#[45]⟩ 1 m _ (by omega) hm (by decide) (by rw[r];omega)).mono ?_;rintro e W1 ⟨rfl,d⟩))
 have i:=I.below d;have hrl:=GP s.data.toList [126] [45];have u:(BZ s).size=(Lib.replace s.data.toList [126] [45] 1).length:=by simp[BZ,ByteArray.size]
 have hsl:s.size=s.data.toList.length:=by rw[Array.length_toList];rfl
 have hr2:(BZ s).size<=1001:=by rw[u];have:[(45:UInt8)].length=1:=rfl;omega
 change Calls Tryz.prog 254 #[.string (BZ s)] W1 _;rcases h:Lib.atoiAll (BZ s).data.toList with v|_|_
 .obtain⟨g0,J⟩:=Lib.atoiAll_bounds h;refine(Tryz.strconv_Atoi_ok (BZ s) (by omega) v h W1).mono ?_;rintro e W2 ⟨rfl,a⟩;have a:Below W1.heap.size W1 W2:=by
   rcases a with rfl|⟨t,rfl⟩
   .exact Below.refl _ _
   .exact Lib.bytesWorld_below _ _ _
  have z:=i.below a
  go_wp2_with (first
   |(go_at_call 256;refine(FH v g0 J _ z).mono ?_;rintro e W3 ⟨rfl,o⟩))
  .rename_i F
   go_ret2
   refine⟨?_,Below.up (Below.up d a) o⟩;have j:((VF v).toList==s.toList)=false:=by simpa using F
   simp only[rP,h];rw[j];rfl
  .rename_i F;have j:((VF v).toList==s.toList)=true:=by simpa using F
   go_wp2
   go_ret2
   refine⟨?_,Below.up (Below.up d a) o⟩;simp only[rP,h];rw[j];rfl
 .obtain⟨ev,G,k⟩:=i.syn;refine(show Calls Tryz.prog 254 #[.string (BZ s)] W1 _ from Any.strconv_Atoi_syntax Tryz.laysC172 (BZ s) (by omega) h ev W1 G k).mono ?_;rintro e W2 ⟨N,rfl,M,hcell,a⟩
  go_wp2
  go_ret2
  refine⟨?_,Below.up d a⟩;simp only[rP,h];rfl
 .obtain⟨ev,G,k⟩:=i.rng;refine(Tryz.strconv_Atoi_range (BZ s) (by omega) h ev W1 G k).mono ?_;rintro e W2 ⟨N,rfl,M,hcell,a⟩
  go_wp2
  go_ret2
  refine⟨?_,Below.up d a⟩;simp only[rP,h];rfl
end
end Go.Proofs.YtjbplagjmopllaaGreatDoor
namespace Go.AI
open Go.RowKit
theorem sM{P:Program}{f:FuncId}{args:List V}{s:S}{v:V} (d:∀ ρ w ys,HR ρ s w->bg ρ args=some ys->(∀ w,(callFunc f ys.toArray).run P w=.ok (.enter f ys.toArray) w) /\
 Calls P f ys.toArray w λe w'=>∃ y,e=.returned y/\(∀ ρ,den ρ v=some y)/\Below w.heap.size w w'):gu P f args none s ⟨.returned v,none,s⟩:=by
 intro ρ w ys hr h;obtain⟨i,j⟩:=d ρ w ys hr h;refine⟨i,λcs hup=>?_⟩;obtain⟨e,w',fr,⟨y,rfl,k,a⟩,n,o,q⟩:=j cs;exact⟨ρ,w',hr.frame a.size a.block,⟨ρ.le_refl,a.size,a.os,a.tape,a.output,λb hb _=>a.block b hb,λf v l e _=>⟨f,v,l,e,rfl,id⟩⟩,fr,.returned y,k ρ,n,o,q⟩
theorem mN{ρ:aJ}{s:S}{w:World}(h:HR ρ s w){g:Nat}{cs:List V}(hc:gn s g=some cs):∃(c:Array Value) (e:TypeId) (fz:Nat×Nat),w.heap[g]? = some (.cells c e fz)/\bg ρ cs=some c.toList:=by
 unfold gn at hc;split at hc
 .rename_i vers n;split at hc
  .rename_i u o;cases hc;obtain⟨hm,q⟩:=eS o;obtain⟨⟨l,c,e,fz,r,d,h3,v⟩,l',c',e',fz',j,z,k,F⟩:=h.blk _ _ n u hm;rw[r]at j;cases j;rw[z,k]at d;cases d;obtain⟨G,I⟩:=F q;refine⟨c,e,fz,k,lC (by rw[<- I];simp) λi x J=>?_⟩;obtain⟨y,hy,a⟩:=v i x J;refine⟨y,hy,?_⟩;rw[G]at a;rw[afo];simpa using a
  .cases hc
 .cases hc
end Go.AI
namespace Go.Proofs.YtjbplagjmopllaaGreatDoor
section
open Go.AI Go.RowKit
theorem XN{w:World}{g:Nat}{c:Array Value}{e:TypeId}{fz:Nat×Nat}{v:Value}(h:w.heap[g]? = some (.cells c e fz))(hc:c.toList=[v]):w.cell? ⟨g,0,none⟩=some v:=by
 unfold World.cell?;simp only[h];have:c[0]? = some v:=by rw[<- afo,hc];rfl
 grind
theorem Sl{ρ:aJ}{s:S}{w:World}(h:HR ρ s w){g:Nat}(hc:∃ c,gn s g=some c/\yc c=true):∃ ev,w.cell? ⟨g,0,none⟩=some ev/\(ev=.nilIface\/∃ te pe,ev=.iface te pe):=by
 obtain⟨c,a,d⟩:=hc;obtain⟨ca,e,fz,h3,h4⟩:=mN h a;unfold yc at d
 grind [bg,den,XN]
theorem VK(ρ:aJ):bg ρ GU=some (Lib.pow10Tab.map λz=>Value.int .u64 z):=by rfl
theorem JK{ρ:aJ}{s:S}{w:World}(h:HR ρ s w)(d:vS s):qM w:=by
 have a:∀ w':World,w'.heap[5]? = w.heap[5]?->Lib.TabIs Tryz.prog w' "internal/strconv.uint64pow10" .u64 Lib.pow10Tab:=by
  intro w' hw';obtain⟨c,e,fz,k,i⟩:=mN h d.pow;rw[VK]at i;unfold Lib.TabIs World.var?;have hn:Tryz.prog.globalNamed "internal/strconv.uint64pow10" = some 5:=by kernel_rfl
  simp_all
 have j:6<=w.heap.size:=by
  obtain⟨ca,e,fz,n,_⟩:=mN h d.pow
  grind
 refine⟨?_,Sl h d.syn,Sl h d.rng,a w rfl,j,λw' b=>a w' (b.block 5 (by omega))⟩;obtain⟨c,k,i⟩:=d.mx;obtain⟨ca,e,fz,n,h4⟩:=mN h k;unfold MA at i
 grind [bg,den,XN]
theorem EO{args:List V}{s:S}{v:V}{s':S}(h:zz args s=some (v,s')):gu Tryz.prog 249 args none s ⟨.returned v,none,s'⟩:=by
 unfold zz at h;split at h
 .rename_i l;split at h
  .rename_i d;cases h;refine sM λρ w ys hr a=>?_;simp only[bg,den]at a;cases a;refine⟨λw=>enters_of Tryz.func249 (by kernel_rfl) rfl _ w,(EN (aK l) ?_ w (JK hr d.1)).mono ?_⟩
   .have:(aK l).size=l.length:=by unfold aK ByteArray.size;simp
    omega
   .rintro e w' ⟨rfl,hb⟩;exact⟨_,rfl,λρ=>rfl,hb⟩
  .cases h
 .cases h
theorem Hx(c:Nat)(hc:c<256):∀(l:List Nat) (n:Int),0<=n->(∀ x∈l,x<256)->xj l c n=if Lib.indexByte (l.map UInt8.ofNat) (UInt8.ofNat c)=-1 then -1 else Lib.indexByte (l.map UInt8.ofNat) (UInt8.ofNat c)+n
 |[],n,_,_=>rfl
 |x::l,n,hn,h=>by
  have ih:=Hx c hc l (n+1) (by omega) λy hy=>h y (abi _ hy);have hx:=h x aeq;have hge:=Lib.indexByte_ge (l.map UInt8.ofNat) (UInt8.ofNat c);have d:(UInt8.ofNat x==UInt8.ofNat c)=Nat.beq x c:=by
   rw[afw];simp only[ajX,Nat.beq_eq];constructor
   .intro h;have:=aib UInt8.toNat h;simp at this;omega
   .rintro rfl;rfl
  simp only[xj,acg,Lib.indexByte,d];cases hb:Nat.beq x c with
  |true=>simp
  |false =>
   simp only[SE,aiW,akp];rw[ih];by_cases a:Lib.indexByte (l.map UInt8.ofNat) (UInt8.ofNat c)=-1
   .simp[a]
   .have e:(Lib.indexByte (l.map UInt8.ofNat) (UInt8.ofNat c)==-1)=false:=by simpa using a
    rw[afp a,e];simp only[aiW,akp];rw[afp (by omega)];omega
theorem Fe{args:List V}{s:S}{v:V}{s':S}(h:Ac args s=some (v,s')):gu Tryz.prog 242 args none s ⟨.returned v,none,s'⟩:=by
 unfold Ac at h;split at h
 .rename_i l c;cases hb:Nat.blt c 256&&l.all (λx=>Nat.blt x 256)with
  |false=>rw[hb,SE]at h;cases h
  |true =>
   rw[hb,ge]at h;cases h;simp only[aaV,afx]at hb;have hc:c<256:=ajV (abh hb.1);have hl:∀ x∈l,x<256:=λx d=>ajV (abh (hb.2 x d));refine sM λρ w ys hr a=>?_;simp only[bg,den]at a;cases a;refine⟨λw=>enters_of Tryz.func242 (by kernel_rfl) rfl _ w,(Tryz.strings_IndexByte (aK l) (Int.ofNat c) w).mono ?_⟩;rintro e w' ⟨rfl,rfl⟩;refine⟨_,rfl,λρ=>?_,Below.refl _ _⟩;have i:(aK l).data.toList=l.map UInt8.ofNat:=by simp[aK]
   have j:xj l c 0=Lib.indexByte (l.map UInt8.ofNat) (UInt8.ofNat c):=by simp_all[Hx]
   rw[i];show some (Value.int .i64 (xj l c 0))=_;rw[j];rfl
 .cases h
end
section
open Go.AI
theorem nb{f n:Nat}(h:Nat.beq f n=true):f=n:=aaO h
theorem agh:ut bV:=⟨λf args s v s' h=>by
 change vq f args s=some (v,s')at h;unfold vq at h;cases d:Nat.beq f 242 with
 |true=>rw[d]at h;have:=nb d;subst this;exact Fe h
 |false =>
  rw[d,SE]at h;cases e:Nat.beq f 249 with
  |true=>rw[e]at h;have:=nb e;subst this;exact EO h
  |false =>
   rw[e,SE]at h;cases i:Nat.beq f 6 with
   |false=>rw[i]at h;cases h
   |true =>
    rw[i,ge]at h;have:=nb i;subst this;cases args with
    |cons a r=>cases h
    |nil=>cases h;exact Jx s⟩
theorem mO{s s':S}{g:Nat}(h:s'.get g=s.get g):gn s' g=gn s g:=by unfold gn;rw[h]
theorem Vk(s s':S)(h:∀ f∈[0,1,2,5],s'.get f=s.get f)(k:vS s):vS s':=by obtain⟨⟨c1,a,d⟩,⟨c2,e,i⟩,⟨c3,j,n⟩,o⟩:=k;exact⟨⟨c1,(mO (h 0 (by simp))).trans a,d⟩,⟨c2,(mO (h 1 (by simp))).trans e,i⟩,⟨c3,(mO (h 2 (by simp))).trans j,n⟩,(mO (h 5 (by simp))).trans o⟩
instance aiO:fZ:=⟨vS,[0,1,2,5],Vk⟩
theorem EY{f:FuncId}{vs:List V}{s:S}{v:V}(h:vq f vs s=some (v,s)):lim bV (.call f vs none) s=some ⟨.returned v,none,s⟩:=by
 rw[Rl];have ho:bV.orc f vs s=some (v,s):=h
 grind [fy,Bp]
theorem uI{g:Gh}(a:Ok g){d:D}{v:V}(h:RD g d v):jK g.s.next g.Pv g ⟨.ret d,none,g.H⟩ ⟨.returned v,none,g.s⟩ :=
 ⟨g,rfl,rfl,rfl,a,.refl _ _,⟨v,rfl,h⟩,rfl⟩
theorem age:Tg de:=by
 refine⟨λf h vs s=>?_,λf args H d H' e g o a vs hr=>?_⟩
 .change dvo f=false at h;unfold dvo at h;simp only[aiX]at h;show vq f vs s=none
  grind [vq]
 .change aas f args H=some (d,H')at e;subst o;unfold aas at e;cases j:Nat.beq f 242 with
  |true =>
   rw[j,ge]at e;have:=nb j;subst this;split at e
   .rename_i l c;cases hb:Nat.blt c 256&&Nat.ble l.length 1000 with
    |false=>rw[hb]at e;cases e
    |true =>
     rw[hb]at e;cases e;simp only[Go.AI.RL,RD]at hr;obtain⟨_,_,rfl,⟨rfl,hl⟩,_,_,rfl,rfl,rfl⟩:=hr;simp only[aaV]at hb;refine⟨_,EY (v:=.int .i64 (xj l c 0)) ?_,uI a (by simp only[RD])⟩;show Ac [V.str l,V.int IntKind.u8 (Int.ofNat c)] g.s=_;have:(Nat.blt c 256&&l.all λx=>Nat.blt x 256)=true:=by simp_all
     grind [Ac]
   .cases e
  |false =>
   rw[j,SE]at e;cases k:Nat.beq f 249 with
   |true =>
    rw[k,ge]at e;have:=nb k;subst this;split at e
    .rename_i l;cases hb:Nat.ble l.length 1000 with
     |false=>rw[hb]at e;cases e
     |true =>
      rw[hb]at e;cases e;simp only[Go.AI.RL,RD]at hr;obtain⟨_,_,rfl,⟨rfl,hl⟩,rfl⟩:=hr;refine⟨_,EY (v:=.tuple [.int .i64 (rP (aK l)).1,.int .i64 (rP (aK l)).2]) ?_,uI a ?_⟩
      .show zz [V.str l] g.s=_;simp only[zz];rw[agC ⟨a.gl.i,abh hb⟩]
      .simp only[RD,Go.AI.RL]
       grind
    .cases e
   |false =>
    rw[k,SE]at e;cases n:Nat.beq f 6 with
    |false=>rw[n]at e;cases e
    |true =>
     rw[n,ge]at e;have:=nb n;subst this;split at e
     .cases e;simp only[Go.AI.RL]at hr;subst hr;exact⟨_,EY (v:=.bool true) rfl,uI a (by simp only[RD])⟩
     .cases e
theorem UY{f:FuncId}{args:List D}{X:DH}(h:eP de (.call f args none) []=ret (.bool true) X){g:Gh}(k:g.H=[])(a:Ok g){vs:List V}(hr:Go.AI.RL g args vs) :
 ∃ s',lim bV (.call f vs none) g.s=some ⟨.returned (.bool true),none,s'⟩:=by
 obtain⟨vout,n,g',_,h2,_,_,_,⟨v,i,j⟩,d⟩:=(KD age).call.c f args none [] _ h g k a vs none hr rfl;obtain⟨e,up,s⟩:=vout;simp only[RD]at i j d;cases j;simp only[OT]at d;cases d;cases i;exact⟨s,n⟩
end
section
open Go.AI
variable{kind:ak->Int}(K:KOk kind)
def EV(kind:ak->Int)(n:ak)(m:Nat):Bool:=if n==[44] then decide (2<=m)&&decide (m<=4)else kind n==3&&decide (m<=16)
include K
theorem Rh(n:ak)(m:Nat)(H:DH):aq 148 [.str n,.i m] H=ret (.bool (EV kind n m)) H:=by
 refine ev (ahw) ?_;have hc:=K.c;simp only[av (nK K _ _),ax,cond_eq_ite,EV]
 repeat' (first|rfl|split)
 all_goals simp_all
 all_goals first|omega|(rw[afw];simp<;>omega)
omit K
section
variable(kind:ak->Int)
def Qu(k:Int)(n:ak)(m:Nat):Bool:=if k==1 then n==[]&&m==0 else if k==2 then kind n==2&&m==0 else if k==3 then EV kind n m else false
mutual
def rM:Pa->Bool
 |.mk k n xs=>qm xs&&Qu kind k n xs.length
def qm:List Pa->Bool
 |[]=>true
 |t::r=>rM t&&qm r
end
end
theorem pm:∀ l,qm kind l=l.all (rM kind)
 |[]=>rfl
 |t::r=>by simp[qm,pm r]
theorem dz:∀ l,(bQ l).length=l.length:=λl=>by rw[iT,abe]
theorem xP(pre:List Pa)(t:Pa)(suf:List Pa):(bQ (pre++t::suf))[pre.length]? = some (fQ t):=by rw[iT];exact cT _ _ _ _
include K
mutual
theorem RJ:∀(t:Pa) (H:DH),t.ok->aq 147 [.agg (fQ t)] H=ret (.bool (rM kind t)) H
 |.mk k n xs,H,h=>by
  simp only[Pa.ok]at h;refine ev (by simp only[fQ];exact ahx) ?_;have d:=vf xs h.2;have e:aQ bV 147=true:=by kernel_rfl
  have a:=XU e (p:=rM kind) xs h.1 d H;rw[<- iT,<- pm]at a;simp only[av a,av (pE K _ _),dz,av (Rh K _ _ _),ax,aP,cond_eq_ite,rM,Qu];clear d a;generalize qm kind xs=q;cases q<;>simp only[aeo,afz,aep,aeH,ajY,akp,aiW]
  repeat' (first|rfl|split)
  all_goals simp_all
  all_goals first|omega|(rw[afw];simp<;>omega)
theorem vf:∀(l:List Pa),Pa.oks l->∀ t∈l,∀ H',aq 147 [.agg (fQ t)] H'=ret (.bool (rM kind t)) H'
 |[],_,t,a,_=>by cases a
 |x::r,h,t,a,H'=>by
  simp only[Pa.oks]at h;rcases abn.mp a with e|a
  .simp_all[RJ]
  .exact vf r h.2 t a H'
end
end
section
open Go.AI
variable{kind:ak->Int}(K:KOk kind)
theorem Vj(a b:Nat):((a:Int)==(b:Int))=(a==b):=by rw[afw];simp only[ajX];omega
theorem Hy(a:Nat):((a:Int)==0)=(a==0):=Vj a 0
theorem adE(a:Nat):((a:Int)==1)=(a==1):=Vj a 1
theorem adD(a:Nat):((a:Int)==2)=(a==2):=Vj a 2
theorem RQ(a:Nat):decide ((a:Int)>=1)=decide (1<=a):=by rw[afw];simp;omega
theorem Ff(a:Nat):decide ((a:Int)<=16)=decide (a<=16):=by rw[afw];simp;omega
theorem aG{R:aM}{j:CA}{H H':DH}{d:D}{k:D->DH->ai}{kp:List fX->DH->ai}(h:R j H=ret d H'):aU (R j H) k kp=k d H':=by rw[h];rfl
theorem Dq(l:List ak)(hl:l.length<2^62)(s:ak)(H:DH):∀ pre suf,l=pre++suf ->
 ∃ n:Int,ae aB 190 200002 [.g (.row 1 (l.map lW)),.g (.str s),.n (l.length:Nat),.n (pre.length:Nat)] [] H=ret (.i n) H/\decide (n>=0)=suf.any (λx=>s==x)
 |pre,[],e=>by
  refine⟨-1,cj (wu) ?_,rfl⟩
  grind
 |pre,t::suf,e=>by
  have hi:pre.length<l.length:=by rw[e];simp
  have h1:decide ((pre.length:Int)<(l.length:Int))=true:=by simp;exact hi
  have h2:(l.map lW)[pre.length]? = some (lW t):=by rw[e];exact cT _ _ _ _
  obtain⟨n,ih,hn⟩:=Dq l hl s H (pre++[t]) suf (by rw[e];simp);rw[aaY,abc]at ih;have key:ae aB 190 200002 [.g (.row 1 (l.map lW)),.g (.str s),.n (l.length:Nat),.n (pre.length:Nat)] [] H=cond (s==t) (ret (.i (pre.length:Nat)) H) (ret (.i n) H):=by
   refine cj (wu) ?_
   grind [bS,aD,lW,aj,ff,ax,aX]
  grind
def NN:List ak:=[[43],[45],[42],[47],[37],[60],[61]]
def ads(n:ak):Bool:=NN.any (λx=>n==x)
theorem agi(n:ak)(H:DH):aq 149 [.row 1 (NN.map lW),.str n] H=ret (.bool (ads n)) H:=by obtain⟨i,a,d⟩:=Dq NN (by decide) n H [] NN rfl;have e:aq 190 [.row 1 (NN.map lW),.str n] H=ret (.i i) H:=ev (agZ) a;exact ev (ahv) (by simp only[av e,cM,d];rfl)
theorem acj(H:DH):aq 150 [] H=ret (.row 1 (NN.map lW)) H:=ev (ahu) rfl
section
variable(kind:ak->Int)
def Xz(k m:Int)(a:ak)(p:Nat):Bool:=!(k != 1&&m != 0)&&!(k != 5&&k != 7&&!(a==[]))&&!(k != 8&&decide (p>0))
def vp(k:Int)(n a:ak)(m p:Nat):Bool :=
 cond (k==1) (n==[]&&m==0) (cond (k==2) (kind n==2&&m==0) (cond (k==3) (EV kind n m) (cond (k==4) (n==[]&&m==2) (cond (k==5) (n==[]&&(kind a==2&&m==1))
 (cond (k==6) (kind n==2&&m==2) (cond (k==7) (kind n==2&&(kind a==2&&m==2)) (cond (k==8) (n==[]&&(decide (1<=p)&&(decide (p<=16)&&m==p+1))) (cond (k==9) (ads n&&m==2) false))))))))
mutual
def fw:Ex->Bool
 |.mk k m n a xs ps=>qz xs&&(qm kind ps&&(Xz k m a ps.length&&vp kind k n a xs.length ps.length))
def qz:List Ex->Bool
 |[]=>true
 |t::r=>fw t&&qz r
end
end
theorem pK:∀ l,qz kind l=l.all (fw kind)
 |[]=>rfl
 |t::r=>by simp[qz,pK r]
theorem fJ:∀ l,(cw l).length=l.length:=λl=>by rw[mt,abe]
theorem Fv(pre:List Ex)(t:Ex)(suf:List Ex):(cw (pre++t::suf))[pre.length]? = some (er t):=by rw[mt];exact cT _ _ _ _
include K
theorem Sk(k m:Int)(n a:ak)(xs:List Ex)(ps:List Pa)(hp:ps.length<2^62)(H:DH) :
 ae aB 102 6 [.lp 0 0,.n xs.length] [(0,(xE k m n a (cw xs) (bQ ps)))] H=ret (.bool (vp kind k n a xs.length ps.length)) H:=by
 refine cj (aao) (cj (aan) ?_);simp only[av (pE K _ _),av (Rh K _ _ _),aG (acj H),aG (agi _ _),ax,dz,aX hp,cY,afM,Vj,Hy,adE,adD,RQ,Ff,vp];try simp only[akq,Bool.and_comm,Bool.and_left_comm]
mutual
theorem vg:∀(t:Ex) (H:DH),t.ok->aq 102 [.agg (er t)] H=ret (.bool (fw kind t)) H
 |.mk k m n a xs ps,H,h=>by
  simp only[Ex.ok]at h;refine ev (by simp only[er];exact ahX) ?_;have d:=zZ xs h.2.1;have e:aQ bV 102=true:=by kernel_rfl
  have i:=aeY e (p:=fw kind) xs h.1 d H;have j:aQ bV 147=true:=by kernel_rfl
  have h5:=XU j (p:=rM kind) ps h.2.2.1 (vf K ps h.2.2.2) H;rw[<- mt,<- pK]at i
  grind [iT,pm,Sk,av,ax,aP,dz,fJ,fw,Xz]
theorem zZ:∀(l:List Ex),Ex.oks l->∀ t∈l,∀ H',aq 102 [.agg (er t)] H'=ret (.bool (fw kind t)) H'
 |[],_,t,a,_=>by cases a
 |x::r,h,t,a,H'=>by
  simp only[Ex.oks]at h;rcases abn.mp a with e|a
  .simp_all[vg]
  .exact zZ r h.2 t a H'
end
end
section
open Go.AI
variable{kind:ak->Int}(K:KOk kind)
section
variable(kind:ak->Int)
def FP(c:Co):Bool:=kind c.n==3&&(decide (c.xs.length<=16)&&qi kind c.xs)
def KH(d:Da):Bool:=kind d.n==3&&(decide (d.vs.length<=16)&&(d.vs.all (λs=>kind s==4)&&(decide (1<=d.cs.length)&&(decide (d.cs.length<=16)&&d.cs.all (FP kind)))))
end
theorem rm{P:Program}{ty el:TypeId}{sz:Nat}(h1:P.underlying ty=some (.slice el))(h2:size P el=some sz){l:aO}{i:Nat}{cs:List D}{κ:D->ai}(h:l[i]? = some cs):ay P ty (.row sz l) (.i i) κ=κ (.eptr cs 0):=by grind [ay,Hu,Nat.beq_refl,bS,aD]
theorem lQ{P:Program}{ty el:TypeId}(a:P.underlying ty=some (.slice el))(sz:Nat)(l:aO)(H:DH){κ:D->ai}:aS P ty (.row sz l) H κ=κ (.i l.length):=by rw[aS,a]
theorem Gu:Tryz.prog.underlying 99=some (.slice 101):=by kernel_rfl
theorem TT:size ab 101=some 2:=by kernel_rfl
theorem Mw(a b:D)(H:DH){κ:D->ai}:bW ab 101 (.eptr [a,b] 0) H κ=κ (.agg [a,b]):=by kernel_rfl
include K
theorem Vc(c:Co)(H:DH)(h:c.ok):aq 137 [.agg (sw c)] H=ret (.bool (FP kind c)) H:=by
 obtain⟨n,xs⟩:=c;obtain⟨d,e⟩:=h;refine ev (f137) ?_;have i:aQ bV 99=true:=by kernel_rfl
 have a:=XT i (p:=oP kind) xs d (rW K xs e) H;rw[<- jT,<- oO]at a;simp only[av (nK K _ _),av a,ax,jU,cY,afM,Ff,FP]
theorem Oa(d:Da)(H:DH)(h:d.ok):aq 97 [.agg (daC d)] H=ret (.bool (KH kind d)) H:=by
 obtain⟨n,vs,cs⟩:=d;obtain⟨a,e,i⟩:=h;refine ev (f97) ?_;have j:aQ bV 140=true:=by kernel_rfl
 have k:aQ bV 137=true:=by kernel_rfl
 have o:=aeW j (p:=λs=>kind s==4) vs a (λt _ H'=>Mz K t H') H;have q:=afa k (p:=FP kind) cs e (λt r H'=>Vc K t H' (i t r)) H;simp only[av (nK K _ _),av o,av q,ax,abe,cY,afM,Ff,RQ,KH]
end
section
open Go.AI
variable{kind:ak->Int}(K:KOk kind)
def zDa(d:Da):Bool:=d.n==[]&&(d.vs.length==0&&d.cs.length==0)
def zTy:Ty->Bool
 |.mk n xs=>n==[]&&xs.length==0
def zEx:Ex->Bool
 |.mk k m n a xs ps=>k==0&&(m==0&&(n==[]&&(a==[]&&(xs.length==0&&ps.length==0))))
theorem abs(d:Da)(H:DH):aq 94 [.agg (daC d)] H=ret (.bool (zDa d)) H:=by obtain⟨n,vs,cs⟩:=d;exact ev (f94) (by simp only[abe,Hy,cY,afM,zDa])
theorem abp(t:Ty)(H:DH):aq 95 [.agg (ga t)] H=ret (.bool (zTy t)) H:=by obtain⟨n,xs⟩:=t;refine ev (by simp only[ga];exact f95) (by simp only[jU,Hy,cY,afM,zTy])
theorem abq(t:Ex)(H:DH):aq 96 [.agg (er t)] H=ret (.bool (zEx t)) H:=by obtain⟨k,m,n,a,xs,ps⟩:=t;refine ev (by simp only[er];exact f96) (by simp only[fJ,dz,Hy,cY,afM,zEx])
section
variable(kind:ak->Int)
def vj(f:Fu):Bool:=kind f.n==2&&(kind f.a==2&&fw kind f.b)
def hJ(d:De):Bool :=
 cond (d.k==1) (KH kind d.d&&(d.n==[]&&(zTy d.t&&(zEx d.b&&d.fs.length==0))))
 (cond (d.k==2) (zDa d.d&&(kind d.n==2&&(oP kind d.t&&(zEx d.b&&d.fs.length==0))))
 (cond (d.k==3) (zDa d.d&&(d.n==[]&&(zTy d.t&&(zEx d.b&&(decide (1<=d.fs.length)&&(decide (d.fs.length<=16)&&d.fs.all (vj kind)))))))
 (cond (d.k==4) (zDa d.d&&(kind d.n==2&&(zTy d.t&&(fw kind d.b&&d.fs.length==0))))
 (cond (d.k==5) (zDa d.d&&(kind d.n==2&&(zTy d.t&&(fw kind d.b&&d.fs.length==0)))) false))))
end
include K
theorem RM(f:Fu)(H:DH)(h:f.b.ok):aq 101 [.agg (nL f)] H=ret (.bool (vj kind f)) H:=by obtain⟨n,a,⟨k,m,en,ea,xs,ps⟩⟩:=f;refine ev (ahY) ?_;have d:=vg K (.mk k m en ea xs ps) H h;simp only[er]at d;simp only[av (pE K _ _),av d,ax,cY,afM,vj]
theorem NZ(d:De)(H:DH)(h:d.ok):aq 59 [.agg (ed d)] H=ret (.bool (hJ kind d)) H:=by
 obtain⟨k,⟨dn,vs,cs⟩,n,⟨tn,ts⟩,fs,⟨ek,em,en,ea,xs,ps⟩⟩:=d;obtain⟨r,s,u,v,w⟩:=h;refine ev (f59) ?_;have a:=abs ⟨dn,vs,cs⟩ H;have e:=abp (.mk tn ts) H;have i:=abq (.mk ek em en ea xs ps) H;have j:=Oa K ⟨dn,vs,cs⟩ H r;have o:=Dn K (.mk tn ts) H s;have q:=vg K (.mk ek em en ea xs ps) H w;have hb:aQ bV 101=true:=by kernel_rfl
 have z:=aeX hb (p:=vj kind) fs u (λt F H'=>RM K t H' (v t F)) H;simp only[ga,er,daC]at a e i j o q;simp only[aG a,aG e,aG i,av j,av o,av q,av z,av (pE K _ _),ax,abe,Hy,RQ,Ff,cY,afM,hJ,akq]
end
section
open Go.AI
theorem Xs(a b:Nat):max (a:Int) (b:Int)=((max a b:Nat):Int):=by omega
theorem agy(a:Nat):decide ((a:Int)>100)=decide (a>100):=by rw[afw];simp;omega
mutual
def MW:Ty->Nat->Nat
 |.mk _ xs,p=>bif decide (p>100)then p else max p (ij xs (p+1))
def ij:List Ty->Nat->Nat
 |[],_=>0
 |t::r,q=>max (MW t q) (ij r q)
end
mutual
def Jb:Pa->Nat->Nat
 |.mk _ _ xs,p=>bif decide (p>100)then p else max p (pU xs (p+1))
def pU:List Pa->Nat->Nat
 |[],_=>0
 |t::r,q=>max (Jb t q) (pU r q)
end
mutual
def Il:Ex->Nat->Nat
 |.mk _ _ _ _ xs ps,p=>bif decide (p>100)then p else max (max p (pU ps (p+1))) (lT xs (p+1))
def lT:List Ex->Nat->Nat
 |[],_=>0
 |t::r,q=>max (Il t q) (lT r q)
end
theorem bu{H:DH}{o:Nat}{b:DB}(h:H[o]? = some b):o<H.length:=by grind
theorem lZ{H X:DH}{o:Nat}{b:DB}(ho:o<H.length)(hb:b.bel H.length):aY H (ret (.tuple []) ((H++X).set o b))=ret (.tuple []) (H.set o b):=by
 have e:(H++X).set o b=H.set o b++X:=by rw[List.set_append,agC ho]
 have h:ol H ⟨.ret (.tuple []),none,(H++X).set o b⟩:=by
  refine⟨by simp[CB.bel,D.bel,eL],rfl,by simp,λi x hi hx=>?_⟩
  grind
 simp_all[aY,ret]
theorem JM{H:DH}{o st d p:Nat}(g:FuncId)(cap:List D)(hb:aQ bV g=true)(ho:H[o]? = some (.cells st [.i d])) :
 aq 171 [.ptr o 0,.i p,.func g [] cap] H=bif decide (p<=100)then C aB g cap (H.set o (.cells (st+1) [.i (max d p:Nat)])) (λ_ H=>ret (.tuple []) H)else ret (.tuple []) (H.set o (.cells (st+1) [.i (max d p:Nat)])):=by
 refine ev (f171) ?_;have a:decide ((p:Int)<=100)=decide (p<=100):=by rw[afw];simp;omega
 simp only[ac ho,aj,Xf,Rb,Xs,a,dX hb,afn];rfl
theorem jn(a b:D)(κ:List D->ai):ah 2 (.agg [a,b]) κ=κ [a,b]:=rfl
theorem Uo(a b x y:D)(κ:List D->ai):aw [a,b] 0 [x,y] κ=κ [x,y]:=rfl
mutual
theorem FK:∀(t:Ty) (p d st o:Nat) (H:DH),H[o]? = some (.cells st [.i d])->t.ok->p<=101 ->
 ∃ st',aq 132 [.ptr o 0,.agg (ga t),.i p] H=ret (.tuple []) (H.set o (.cells st' [.i (max d (MW t p):Nat)]))
 |.mk n xs,p,d,st,o,H,ho,h,hp=>by
  simp only[Ty.ok]at h;have hlt:=bu ho;have k:((H++[cV o])++[DB.cells 0 (ga (.mk n xs))]++[jh p])[H.length]? = some (.cells 0 [.ptr o 0]):=az _ (az _ (aZ _ _));have r:((H++[cV o])++[DB.cells 0 (ga (.mk n xs))]++[jh p])[(H++[cV o]).length]? = some (.cells 0 (ga (.mk n xs))):=az _ (aZ _ _);have q:((H++[cV o])++[DB.cells 0 (ga (.mk n xs))]++[jh p])[((H++[cV o])++[DB.cells 0 (ga (.mk n xs))]).length]? = some (.cells 0 [.i p]):=aZ _ _;have e:((H++[cV o])++[DB.cells 0 (ga (.mk n xs))]++[jh p])[o]? = some (.cells st [.i d]):=az _ (az _ (az _ ho));have s:(H++[cV o])++[DB.cells 0 (ga (.mk n xs))]++[jh p]=H++([cV o]++[DB.cells 0 (ga (.mk n xs))]++[jh p]):=by simp only[aft]
  have n1:(H++[cV o]).length≠o:=by simp;omega
  have n2:H.length≠o:=by omega
  have n3:((H++[cV o])++[DB.cells 0 (ga (.mk n xs))]).length≠o:=by simp;omega
  have hb:aQ bV 172=true:=by kernel_rfl
  have nd:=JM (p:=p) 172 [.ptr (H++[cV o]).length 0,.ptr H.length 0,.ptr ((H++[cV o])++[DB.cells 0 (ga (.mk n xs))]).length 0] hb e;generalize hG:(H++[cV o])++[DB.cells 0 (ga (.mk n xs))]++[jh p]=G at k r q e s nd;have a:∃ st',aq 171 [.ptr o 0,.i p,.func 172 [] [.ptr (H++[cV o]).length 0,.ptr H.length 0,.ptr ((H++[cV o])++[DB.cells 0 (ga (.mk n xs))]).length 0]] G=ret (.tuple []) (G.set o (.cells st' [.i (max d (MW (.mk n xs) p):Nat)])):=by
   cases u:decide (p<=100)with
   |false =>grind [MW]
   |true =>
    have j:p<=100:=by simpa using u
    obtain⟨st',hl⟩:=Ic xs p j o H.length ((H++[cV o])++[DB.cells 0 (ga (.mk n xs))]).length 0 0 h.1 n2 n3 [] xs (st+1) (max d p) (G.set o (.cells (st+1) [.i (max d p:Nat)])) (aT _ e) (ao _ n2.symm k) (ao _ n3.symm q) rfl h.2;refine⟨st',?_⟩;have hc:aq 172 [.ptr (H++[cV o]).length 0,.ptr H.length 0,.ptr ((H++[cV o])++[DB.cells 0 (ga (.mk n xs))]).length 0] (G.set o (.cells (st+1) [.i (max d p:Nat)]))=ret (.tuple []) (G.set o (.cells st' [.i (max d (MW (.mk n xs) p):Nat)])):=by
     refine ev (f172) ?_
     grind [ac,ao,ga,aj,au,lQ,Gu,jU,List.set_set,MW,Nat.max_assoc]
    grind [av]
  obtain⟨st',hf⟩:=a;refine⟨st',ev (by simp only[ga];exact ahJ) ?_⟩
  grind [ga,ac,aj,av,lZ,DB.bel,eL,D.bel]
theorem Ic(xs:List Ty)(p:Nat)(hp:p<=100)(o a j s1 s2:Nat)(hl:xs.length<2^62)(n1:a≠o)(n2:j≠o):∀(pre suf:List Ty) (st d:Nat) (H:DH),H[o]? = some (.cells st [.i d])->H[a]? = some (.cells s1 [.ptr o 0])->H[j]? = some (.cells s2 [.i p])->xs=pre++suf->Ty.oks suf ->
 ∃ st',ae aB 172 200001 [.g (.ptr a 0),.g (.ptr j 0),.g (.row 2 (iQ xs)),.n xs.length,.n pre.length] [] H=ret (.tuple []) (H.set o (.cells st' [.i (max d (ij suf (p+1)):Nat)]))
 |pre,[],st,d,H,ho,k,r,e,_=>by
  have e2:xs.length=pre.length:=by rw[e];simp
  refine⟨st,cj (wB) ?_⟩;simp_all[aiZ,ij,ajF,oF]
 |pre,t::suf,st,d,H,ho,k,r,e,h=>by
  simp only[Ty.oks]at h;have hi:pre.length<xs.length:=by rw[e];simp
  have v:decide ((pre.length:Int)<(xs.length:Int))=true:=by simp;exact hi
  have u:(iQ xs)[pre.length]? = some (ga t):=by rw[e];exact xC _ _ _
  obtain⟨gH,hc⟩:=FK t (p+1) d st o H ho h.1 (by omega);obtain⟨st',ih⟩:=Ic xs p hp o a j s1 s2 hl n1 n2 (pre++[t]) suf gH (max d (MW t (p+1))) (H.set o (.cells gH [.i (max d (MW t (p+1)):Nat)])) (aT _ ho) (ao _ n1.symm k) (ao _ n2.symm r) (by rw[e];simp) h.2;refine⟨st',cj (wB) ?_⟩;have s:ij (t::suf) (p+1)=max (MW t (p+1)) (ij suf (p+1)):=by rw[ij]
  rw[s,<- ajr];generalize MW t (p+1)=q at hc ih ⊢;obtain⟨tn,tas⟩:=t;simp only[ga]at u hc;simp only[aaY,abc,afu]at ih;simp only[v,ge,rm Gu TT u,Mw,jn,Uo,ac k,ac r,aj,au,bJ,aX (show p<2^62 by omega),av hc,aX (show pre.length<2^62 by omega)];exact ih
end
theorem WG:Tryz.prog.underlying 46=some (.slice 148):=by kernel_rfl
theorem TQ:size ab 148=some 3:=by kernel_rfl
theorem Mu(a b c:D)(H:DH){κ:D->ai}:bW ab 148 (.eptr [a,b,c] 0) H κ=κ (.agg [a,b,c]):=by kernel_rfl
theorem FU(a b c:D)(κ:List D->ai):ah 3 (.agg [a,b,c]) κ=κ [a,b,c]:=rfl
theorem Un(a b c x y z:D)(κ:List D->ai):aw [a,b,c] 0 [x,y,z] κ=κ [x,y,z]:=rfl
mutual
theorem MS:∀(t:Pa) (p d st o:Nat) (H:DH),H[o]? = some (.cells st [.i d])->t.ok->p<=101 ->
 ∃ st',aq 174 [.ptr o 0,.agg (fQ t),.i p] H=ret (.tuple []) (H.set o (.cells st' [.i (max d (Jb t p):Nat)]))
 |.mk k n xs,p,d,st,o,H,ho,h,hp=>by
  simp only[Pa.ok]at h;have hlt:=bu ho;have q:((H++[cV o])++[DB.cells 0 (fQ (.mk k n xs))]++[jh p])[H.length]? = some (.cells 0 [.ptr o 0]):=az _ (az _ (aZ _ _));have s:((H++[cV o])++[DB.cells 0 (fQ (.mk k n xs))]++[jh p])[(H++[cV o]).length]? = some (.cells 0 (fQ (.mk k n xs))):=az _ (aZ _ _);have r:((H++[cV o])++[DB.cells 0 (fQ (.mk k n xs))]++[jh p])[((H++[cV o])++[DB.cells 0 (fQ (.mk k n xs))]).length]? = some (.cells 0 [.i p]):=aZ _ _;have e:((H++[cV o])++[DB.cells 0 (fQ (.mk k n xs))]++[jh p])[o]? = some (.cells st [.i d]):=az _ (az _ (az _ ho));have u:(H++[cV o])++[DB.cells 0 (fQ (.mk k n xs))]++[jh p]=H++([cV o]++[DB.cells 0 (fQ (.mk k n xs))]++[jh p]):=by simp only[aft]
  have n1:(H++[cV o]).length≠o:=by simp;omega
  have n2:H.length≠o:=by omega
  have n3:((H++[cV o])++[DB.cells 0 (fQ (.mk k n xs))]).length≠o:=by simp;omega
  have hb:aQ bV 213=true:=by kernel_rfl
  have nd:=JM (p:=p) 213 [.ptr (H++[cV o]).length 0,.ptr H.length 0,.ptr ((H++[cV o])++[DB.cells 0 (fQ (.mk k n xs))]).length 0] hb e;generalize hG:(H++[cV o])++[DB.cells 0 (fQ (.mk k n xs))]++[jh p]=G at q s r e u nd;have a:∃ st',aq 171 [.ptr o 0,.i p,.func 213 [] [.ptr (H++[cV o]).length 0,.ptr H.length 0,.ptr ((H++[cV o])++[DB.cells 0 (fQ (.mk k n xs))]).length 0]] G=ret (.tuple []) (G.set o (.cells st' [.i (max d (Jb (.mk k n xs) p):Nat)])):=by
   cases v:decide (p<=100)with
   |false =>grind [Jb]
   |true =>
    have j:p<=100:=by simpa using v
    obtain⟨st',hl⟩:=Id xs p j o H.length ((H++[cV o])++[DB.cells 0 (fQ (.mk k n xs))]).length 0 0 h.1 n2 n3 [] xs (st+1) (max d p) (G.set o (.cells (st+1) [.i (max d p:Nat)])) (aT _ e) (ao _ n2.symm q) (ao _ n3.symm r) rfl h.2;refine⟨st',?_⟩;have hc:aq 213 [.ptr (H++[cV o]).length 0,.ptr H.length 0,.ptr ((H++[cV o])++[DB.cells 0 (fQ (.mk k n xs))]).length 0] (G.set o (.cells (st+1) [.i (max d p:Nat)]))=ret (.tuple []) (G.set o (.cells st' [.i (max d (Jb (.mk k n xs) p):Nat)])):=by
     refine ev (agV) ?_
     grind [ac,ao,fQ,aj,au,lQ,WG,dz,List.set_set,Jb,Nat.max_assoc]
    grind [av]
  obtain⟨st',hf⟩:=a;refine⟨st',ev (by simp only[fQ];exact ahp) ?_⟩
  grind [fQ,ac,aj,av,lZ,DB.bel,eL,D.bel]
theorem Id(xs:List Pa)(p:Nat)(hp:p<=100)(o a j s1 s2:Nat)(hl:xs.length<2^62)(n1:a≠o)(n2:j≠o):∀(pre suf:List Pa) (st d:Nat) (H:DH),H[o]? = some (.cells st [.i d])->H[a]? = some (.cells s1 [.ptr o 0])->H[j]? = some (.cells s2 [.i p])->xs=pre++suf->Pa.oks suf ->
 ∃ st',ae aB 213 200001 [.g (.ptr a 0),.g (.ptr j 0),.g (.row 3 (bQ xs)),.n xs.length,.n pre.length] [] H=ret (.tuple []) (H.set o (.cells st' [.i (max d (pU suf (p+1)):Nat)]))
 |pre,[],st,d,H,ho,k,r,e,_=>by
  have e2:xs.length=pre.length:=by rw[e];simp
  refine⟨st,cj (wq) ?_⟩;simp_all[aiZ,pU,ajF,oF]
 |pre,t::suf,st,d,H,ho,k,r,e,h=>by
  simp only[Pa.oks]at h;have hi:pre.length<xs.length:=by rw[e];simp
  have v:decide ((pre.length:Int)<(xs.length:Int))=true:=by simp;exact hi
  have u:(bQ xs)[pre.length]? = some (fQ t):=by rw[e];exact xP _ _ _
  obtain⟨gH,hc⟩:=MS t (p+1) d st o H ho h.1 (by omega);obtain⟨st',ih⟩:=Id xs p hp o a j s1 s2 hl n1 n2 (pre++[t]) suf gH (max d (Jb t (p+1))) (H.set o (.cells gH [.i (max d (Jb t (p+1)):Nat)])) (aT _ ho) (ao _ n1.symm k) (ao _ n2.symm r) (by rw[e];simp) h.2;refine⟨st',cj (wq) ?_⟩;have s:pU (t::suf) (p+1)=max (Jb t (p+1)) (pU suf (p+1)):=by rw[pU]
  rw[s,<- ajr];generalize Jb t (p+1)=q at hc ih ⊢;obtain⟨tk,tn,tas⟩:=t;simp only[fQ]at u hc;simp only[aaY,abc,afu]at ih;simp only[v,ge,rm WG TQ u,Mu,FU,Un,ac k,ac r,aj,au,bJ,aX (show p<2^62 by omega),av hc,aX (show pre.length<2^62 by omega)];exact ih
end
theorem u83:Tryz.prog.underlying 45=some (.slice 48):=by kernel_rfl
theorem s86:size ab 48=some 6:=by kernel_rfl
theorem acR(a b c d e f:D)(H:DH){κ:D->ai}:bW ab 48 (.eptr [a,b,c,d,e,f] 0) H κ=κ (.agg [a,b,c,d,e,f]):=by kernel_rfl
theorem SC(a b c d e f:D)(κ:List D->ai):ah 6 (.agg [a,b,c,d,e,f]) κ=κ [a,b,c,d,e,f]:=rfl
theorem abW(a b c d e f x y z u v w:D)(κ:List D->ai):aw [a,b,c,d,e,f] 0 [x,y,z,u,v,w] κ=κ [x,y,z,u,v,w]:=rfl
theorem DO(xs:List Pa)(p:Nat)(hp:p<=100)(o a j s1 s2:Nat)(hl:xs.length<2^62)(n1:a≠o)(n2:j≠o):∀(pre suf:List Pa) (st d:Nat) (H:DH),H[o]? = some (.cells st [.i (d:Nat)])->H[a]? = some (.cells s1 [.ptr o 0])->H[j]? = some (.cells s2 [.i p])->xs=pre++suf->Pa.oks suf ->
 ∃ st',ae aB 173 200006 [.g (.ptr a 0),.g (.ptr j 0),.g (.row 3 (bQ xs)),.n xs.length,.n pre.length] [] H=ret (.tuple []) (H.set o (.cells st' [.i (max d (pU suf (p+1)):Nat)]))
 |pre,[],st,d,H,ho,k,r,e,_=>by
  have e2:xs.length=pre.length:=by rw[e];simp
  refine⟨st,cj (wz) ?_⟩;simp_all[aiZ,pU,ajF,oF]
 |pre,t::suf,st,d,H,ho,k,r,e,h=>by
  simp only[Pa.oks]at h;have hi:pre.length<xs.length:=by rw[e];simp
  have v:decide ((pre.length:Int)<(xs.length:Int))=true:=by simp;exact hi
  have u:(bQ xs)[pre.length]? = some (fQ t):=by rw[e];exact xP _ _ _
  obtain⟨gH,hc⟩:=MS t (p+1) d st o H ho h.1 (by omega);obtain⟨st',ih⟩:=DO xs p hp o a j s1 s2 hl n1 n2 (pre++[t]) suf gH (max d (Jb t (p+1))) (H.set o (.cells gH [.i (max d (Jb t (p+1)):Nat)])) (aT _ ho) (ao _ n1.symm k) (ao _ n2.symm r) (by rw[e];simp) h.2;refine⟨st',cj (wz) ?_⟩;have s:pU (t::suf) (p+1)=max (Jb t (p+1)) (pU suf (p+1)):=by rw[pU]
  rw[s,<- ajr];generalize Jb t (p+1)=q at hc ih ⊢;obtain⟨tk,tn,tas⟩:=t;simp only[fQ]at u hc;simp only[aaY,abc,afu]at ih;simp only[v,ge,rm WG TQ u,Mu,FU,Un,ac k,ac r,aj,au,bJ,aX (show p<2^62 by omega),av hc,aX (show pre.length<2^62 by omega)];exact ih
mutual
theorem FL:∀(t:Ex) (p d st o:Nat) (H:DH),H[o]? = some (.cells st [.i (d:Nat)])->t.ok->p<=101 ->
 ∃ st',aq 133 [.ptr o 0,.agg (er t),.i p] H=ret (.tuple []) (H.set o (.cells st' [.i (max d (Il t p):Nat)]))
 |.mk k m n b xs ps,p,d,st,o,H,ho,h,hp=>by
  simp only[Ex.ok]at h;have hlt:=bu ho;have q:((H++[cV o])++[DB.cells 0 (er (.mk k m n b xs ps))]++[jh p])[H.length]? = some (.cells 0 [.ptr o 0]):=az _ (az _ (aZ _ _));have r:((H++[cV o])++[DB.cells 0 (er (.mk k m n b xs ps))]++[jh p])[(H++[cV o]).length]? = some (.cells 0 (er (.mk k m n b xs ps))):=az _ (aZ _ _);have s:((H++[cV o])++[DB.cells 0 (er (.mk k m n b xs ps))]++[jh p])[((H++[cV o])++[DB.cells 0 (er (.mk k m n b xs ps))]).length]? = some (.cells 0 [.i p]):=aZ _ _;have j:((H++[cV o])++[DB.cells 0 (er (.mk k m n b xs ps))]++[jh p])[o]? = some (.cells st [.i (d:Nat)]):=az _ (az _ (az _ ho));have u:(H++[cV o])++[DB.cells 0 (er (.mk k m n b xs ps))]++[jh p]=H++([cV o]++[DB.cells 0 (er (.mk k m n b xs ps))]++[jh p]):=by simp only[aft]
  have n1:(H++[cV o]).length≠o:=by simp;omega
  have n2:H.length≠o:=by omega
  have n3:((H++[cV o])++[DB.cells 0 (er (.mk k m n b xs ps))]).length≠o:=by simp;omega
  have hb:aQ bV 173=true:=by kernel_rfl
  have nd:=JM (p:=p) 173 [.ptr (H++[cV o]).length 0,.ptr H.length 0,.ptr ((H++[cV o])++[DB.cells 0 (er (.mk k m n b xs ps))]).length 0] hb j;generalize hG:(H++[cV o])++[DB.cells 0 (er (.mk k m n b xs ps))]++[jh p]=G at q r s j u nd;have a:∃ st',aq 171 [.ptr o 0,.i p,.func 173 [] [.ptr (H++[cV o]).length 0,.ptr H.length 0,.ptr ((H++[cV o])++[DB.cells 0 (er (.mk k m n b xs ps))]).length 0]] G=ret (.tuple []) (G.set o (.cells st' [.i (max d (Il (.mk k m n b xs ps) p):Nat)])):=by
   cases v:decide (p<=100)with
   |false =>grind [Il]
   |true =>
    have e:p<=100:=by simpa using v
    obtain⟨st',hl⟩:=If k m n b xs ps 0 xs p e o (H++[cV o]).length H.length ((H++[cV o])++[DB.cells 0 (er (.mk k m n b xs ps))]).length 0 0 _ (λst d H w z F _=>DO ps p e o _ _ 0 0 h.2.2.1 n2 n3 [] ps st d H w z F rfl h.2.2.2) h.1 n2 n3 n1 [] xs (st+1) (max d p) (G.set o (.cells (st+1) [.i (max d p:Nat)])) (aT _ j) (ao _ n2.symm q) (ao _ n3.symm s) (ao _ n1.symm r) rfl h.2.1;refine⟨st',?_⟩;have hc:aq 173 [.ptr (H++[cV o]).length 0,.ptr H.length 0,.ptr ((H++[cV o])++[DB.cells 0 (er (.mk k m n b xs ps))]).length 0] (G.set o (.cells (st+1) [.i (max d p:Nat)]))=ret (.tuple []) (G.set o (.cells st' [.i (max d (Il (.mk k m n b xs ps) p):Nat)])):=by
     refine ev (ahq) ?_
     grind [ac,ao,er,aj,au,lQ,u83,fJ,List.set_set,Il,lT,pU]
    grind [av]
  obtain⟨st',hf⟩:=a;refine⟨st',ev (by simp only[er];exact ahI) ?_⟩
  grind [er,ac,aj,av,lZ,DB.bel,eL,D.bel]
theorem If(zk zm:Int)(zn za:ak)(zx:List Ex)(zp:List Pa)(s0:Nat)(xs:List Ex)(p:Nat)(hp:p<=100)(o k a j s1 s2:Nat)(X:Nat)(v:∀(st d:Nat) (H:DH),H[o]? = some (.cells st [.i (d:Nat)])->H[a]? = some (.cells s1 [.ptr o 0])->H[j]? = some (.cells s2 [.i p])->H[k]? = some (.cells s0 (er (.mk zk zm zn za zx zp)))->∃ st',ae aB 173 200006 [.g (.ptr a 0),.g (.ptr j 0),.g (.row 3 (bQ zp)),.n zp.length,.n 0] [] H=ret (.tuple []) (H.set o (.cells st' [.i (max d X:Nat)])))(hl:xs.length<2^62)(n1:a≠o)(n2:j≠o)(n0:k≠o):∀(pre suf:List Ex) (st d:Nat) (H:DH),H[o]? = some (.cells st [.i (d:Nat)])->H[a]? = some (.cells s1 [.ptr o 0])->H[j]? = some (.cells s2 [.i p])->H[k]? = some (.cells s0 (er (.mk zk zm zn za zx zp)))->xs=pre++suf->Ex.oks suf ->
 ∃ st',ae aB 173 200001 [.g (.ptr k 0),.g (.ptr a 0),.g (.ptr j 0),.g (.row 6 (cw xs)),.n xs.length,.n pre.length] [] H=ret (.tuple []) (H.set o (.cells st' [.i (max (max d (lT suf (p+1))) X:Nat)]))
 |pre,[],st,d,H,ho,r,s,h0,e,_=>by
  have z:xs.length=pre.length:=by rw[e];simp
  obtain⟨st',F⟩:=v st d H ho r s h0;refine⟨st',cj (wA) ?_⟩;simp only[er]at h0;simp only[z,aiZ,ajE,SE,lT,ajF,ac h0,aj,au,lQ WG,dz,F]
 |pre,t::suf,st,d,H,ho,r,s,h0,e,h=>by
  simp only[Ex.oks]at h;have hi:pre.length<xs.length:=by rw[e];simp
  have G:decide ((pre.length:Int)<(xs.length:Int))=true:=by simp;exact hi
  have w:(cw xs)[pre.length]? = some (er t):=by rw[e];exact Fv _ _ _
  obtain⟨gH,hc⟩:=FL t (p+1) d st o H ho h.1 (by omega);obtain⟨st',ih⟩:=If zk zm zn za zx zp s0 xs p hp o k a j s1 s2 X v hl n1 n2 n0 (pre++[t]) suf gH (max d (Il t (p+1))) (H.set o (.cells gH [.i (max d (Il t (p+1)):Nat)])) (aT _ ho) (ao _ n1.symm r) (ao _ n2.symm s) (ao _ n0.symm h0) (by rw[e];simp) h.2;refine⟨st',cj (wA) ?_⟩;have u:lT (t::suf) (p+1)=max (Il t (p+1)) (lT suf (p+1)):=by rw[lT]
  rw[u,<- ajr d];generalize Il t (p+1)=q at hc ih ⊢;obtain⟨tk,tm,tn,ta,tas,tps⟩:=t;simp only[er]at w hc;simp only[aaY,abc,afu]at ih;simp only[G,ge,rm u83 s86 w,acR,SC,abW,ac r,ac s,aj,au,bJ,aX (show p<2^62 by omega),av hc,aX (show pre.length<2^62 by omega)];exact ih
end
theorem adC(a:Nat):decide ((a:Int)>2000)=decide (a>2000):=by rw[afw];simp;omega
mutual
def My:Ty->Nat->Nat
 |.mk _ xs,p=>bif decide (p>100)then 0 else 1+gi xs (p+1)
def gi:List Ty->Nat->Nat
 |[],_=>0
 |t::r,q=>My t q+gi r q
end
mutual
def Ja:Pa->Nat->Nat
 |.mk _ _ xs,p=>bif decide (p>100)then 0 else 1+kN xs (p+1)
def kN:List Pa->Nat->Nat
 |[],_=>0
 |t::r,q=>Ja t q+kN r q
end
mutual
def Fc:Ex->Nat->Nat
 |.mk _ _ _ _ xs ps,p=>bif decide (p>100)then 0 else 1+(kN ps (p+1)+jl xs (p+1))
def jl:List Ex->Nat->Nat
 |[],_=>0
 |t::r,q=>Fc t q+jl r q
end
theorem JL{H:DH}{o st c d p:Nat}(g:FuncId)(cap:List D)(hb:aQ bV g=true)(ho:H[o]? = some (.cells st [.i c,.i d]))(hc:c<=2001) :
 aq 175 [.ptr o 0,.i p,.func g [] cap] H=bif decide (p>100)||decide (c>2000)then ret (.tuple []) (H.set o (.cells (st+1) [.i c,.i (max d p:Nat)]))else C aB g cap (H.set o (.cells (st+1+1) [.i (c+1:Nat),.i (max d p:Nat)])) (λ_ H=>ret (.tuple []) H):=by
 refine ev (aho) ?_;have a:(H.set o (.cells (st+1) [.i c,.i (max d p:Nat)]))[o]? = some (.cells (st+1) [.i c,.i (max d p:Nat)]):=aT _ ho;have ow (x:D) (κ:List D->ai):aw [.i c,.i d] 1 [x] κ=κ [.i c,x]:=rfl;have ow2 (x:D) (κ:List D->ai):aw [.i c,.i (max d p:Nat)] 0 [x] κ=κ [x,.i (max d p:Nat)]:=rfl;have c1 (k:Int) (κ:List D->ai):ah 1 (.i k) κ=κ [.i k]:=rfl;simp only[ac ho,aj,au,Xf,Rb,Xs,c1,ow,agy,ac a,eT,adC,ax,bJ,ow2,afu,dX hb,afn,aX (show c<2^62 by omega)];cases decide (p>100)<;>cases decide (c>2000)<;>rfl
mutual
theorem Jj:∀(t:Ty) (p c d st o:Nat) (H:DH),H[o]? = some (.cells st [.i c,.i d])->t.ok->p<=101->c<=2001 ->
 ∃ st' a,aq 134 [.ptr o 0,.agg (ga t),.i p] H=ret (.tuple []) (H.set o (.cells st' [.i (min (c+My t p) 2001:Nat),.i (a:Nat)]))
 |.mk n xs,p,c,d,st,o,H,ho,h,hp,hc=>by
  simp only[Ty.ok]at h;have u:=bu ho;have r:((H++[cV o])++[DB.cells 0 (ga (.mk n xs))]++[jh p])[H.length]? = some (.cells 0 [.ptr o 0]):=az _ (az _ (aZ _ _));have F:((H++[cV o])++[DB.cells 0 (ga (.mk n xs))]++[jh p])[(H++[cV o]).length]? = some (.cells 0 (ga (.mk n xs))):=az _ (aZ _ _);have s:((H++[cV o])++[DB.cells 0 (ga (.mk n xs))]++[jh p])[((H++[cV o])++[DB.cells 0 (ga (.mk n xs))]).length]? = some (.cells 0 [.i p]):=aZ _ _;have v:((H++[cV o])++[DB.cells 0 (ga (.mk n xs))]++[jh p])[o]? = some (.cells st [.i c,.i d]):=az _ (az _ (az _ ho));have I:(H++[cV o])++[DB.cells 0 (ga (.mk n xs))]++[jh p]=H++([cV o]++[DB.cells 0 (ga (.mk n xs))]++[jh p]):=by simp only[aft]
  have n1:(H++[cV o]).length≠o:=by simp;omega
  have n2:H.length≠o:=by omega
  have n3:((H++[cV o])++[DB.cells 0 (ga (.mk n xs))]).length≠o:=by simp;omega
  have hb:aQ bV 176=true:=by kernel_rfl
  have nd:=JL (p:=p) 176 [.ptr (H++[cV o]).length 0,.ptr H.length 0,.ptr ((H++[cV o])++[DB.cells 0 (ga (.mk n xs))]).length 0] hb v hc;generalize J:(H++[cV o])++[DB.cells 0 (ga (.mk n xs))]++[jh p]=G at r F s v I nd;have j:∃ st' a,aq 175 [.ptr o 0,.i p,.func 176 [] [.ptr (H++[cV o]).length 0,.ptr H.length 0,.ptr ((H++[cV o])++[DB.cells 0 (ga (.mk n xs))]).length 0]] G=ret (.tuple []) (G.set o (.cells st' [.i (min (c+My (.mk n xs) p) 2001:Nat),.i (a:Nat)])):=by
   cases k:decide (p>100)||decide (c>2000)with
   |true =>
    refine⟨st+1,max d p,?_⟩;rw[nd,k,ge,My];cases e:decide (p>100)with
    |true=>rw[ge,show min (c+0) 2001=c by omega]
    |false =>
     rw[e,ajj]at k;have w:c>2000:=by simpa using k
     rw[SE,show min (c+(1+gi xs (p+1))) 2001=c by omega]
   |false =>
    obtain⟨q,e⟩:=aiX.mp k;have z:p<=100:=by
     have:¬ p>100:=by simpa using q
     omega
    have w:¬ c>2000:=by simpa using e
    obtain⟨st',a,hl⟩:=Lo xs p z o H.length ((H++[cV o])++[DB.cells 0 (ga (.mk n xs))]).length 0 0 h.1 n2 n3 [] xs (st+1+1) (c+1) (max d p) (G.set o (.cells (st+1+1) [.i (c+1:Nat),.i (max d p:Nat)])) (aT _ v) (ao _ n2.symm r) (ao _ n3.symm s) rfl h.2 (by omega);refine⟨st',a,?_⟩;have hc:aq 176 [.ptr (H++[cV o]).length 0,.ptr H.length 0,.ptr ((H++[cV o])++[DB.cells 0 (ga (.mk n xs))]).length 0] (G.set o (.cells (st+1+1) [.i (c+1:Nat),.i (max d p:Nat)]))=ret (.tuple []) (G.set o (.cells st' [.i (min (c+My (.mk n xs) p) 2001:Nat),.i (a:Nat)])):=by refine ev (ahn) ?_;rw[ac (ao _ n1.symm F)];simp only[ga,aj,au,lQ Gu,jU];refine aki hl ?_;rw[afu,My,q,SE,show min (c+1+gi xs (p+1)) 2001=min (c+(1+gi xs (p+1))) 2001 by omega]
    rw[nd,k,SE,av hc]
  obtain⟨st',a,M⟩:=j;refine⟨st',a,ev (by simp only[ga];exact ahH) ?_⟩;simp only[ga]at J r s M ⊢;show aY H (am ((H++[cV o])++[DB.cells 0 [.str n,.row 2 (iQ xs)]]++[jh p]) H.length _)=_;rw[J,ac r];simp only[aj];rw[ac s];simp only[aj];rw[av M];rw[I];exact lZ u (by simp[DB.bel,eL,D.bel])
theorem Lo(xs:List Ty)(p:Nat)(hp:p<=100)(o a j s1 s2:Nat)(hl:xs.length<2^62)(n1:a≠o)(n2:j≠o):∀(pre suf:List Ty) (st c d:Nat) (H:DH),H[o]? = some (.cells st [.i c,.i d])->H[a]? = some (.cells s1 [.ptr o 0])->H[j]? = some (.cells s2 [.i p])->xs=pre++suf->Ty.oks suf->c<=2001 ->
 ∃ st' k,ae aB 176 200001 [.g (.ptr a 0),.g (.ptr j 0),.g (.row 2 (iQ xs)),.n xs.length,.n pre.length] [] H=ret (.tuple []) (H.set o (.cells st' [.i (min (c+gi suf (p+1)) 2001:Nat),.i (k:Nat)]))
 |pre,[],st,c,d,H,ho,r,s,e,_,hc=>by
  have F:xs.length=pre.length:=by rw[e];simp
  refine⟨st,d,cj (wy) ?_⟩;simp only[F,aiZ,ajE,SE,gi,show min (c+0) 2001=c by omega,oF ho]
 |pre,t::suf,st,c,d,H,ho,r,s,e,h,u=>by
  simp only[Ty.oks]at h;have hi:pre.length<xs.length:=by rw[e];simp
  have G:decide ((pre.length:Int)<(xs.length:Int))=true:=by simp;exact hi
  have w:(iQ xs)[pre.length]? = some (ga t):=by rw[e];exact xC _ _ _
  obtain⟨gH,z,hc⟩:=Jj t (p+1) c d st o H ho h.1 (by omega) u;obtain⟨st',k,ih⟩:=Lo xs p hp o a j s1 s2 hl n1 n2 (pre++[t]) suf gH (min (c+My t (p+1)) 2001) z (H.set o (.cells gH [.i (min (c+My t (p+1)) 2001:Nat),.i z])) (aT _ ho) (ao _ n1.symm r) (ao _ n2.symm s) (by rw[e];simp) h.2 (by omega);refine⟨st',k,cj (wy) ?_⟩;have v:min (c+gi (t::suf) (p+1)) 2001=min (min (c+My t (p+1)) 2001+gi suf (p+1)) 2001:=by rw[gi];omega
  rw[v];generalize My t (p+1)=q at hc ih ⊢;obtain⟨tn,tas⟩:=t;simp only[ga]at w hc;simp only[aaY,abc,afu]at ih;simp only[G,ge,rm Gu TT w,Mw,jn,Uo,ac r,ac s,aj,au,bJ,aX (show p<2^62 by omega),av hc,aX (show pre.length<2^62 by omega)];exact ih

end
