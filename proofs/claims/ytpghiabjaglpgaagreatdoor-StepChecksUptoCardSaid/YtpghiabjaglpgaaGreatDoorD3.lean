/- Lemmas. No conditions. -/
import Derived.Test.YtpghiabjaglpgaaGreatDoorD2
set_option linter.all false
noncomputable section
namespace Go.AI
variable[fY]
variable{b:Nat}{P0:List Nat}{g:Gh}{LO:List Nat}{t:T LD}{L:LS}{tv:T V}{P:Program}{out:js}
def PR(g:Gh)(L:LS)(LO:List Nat)(g':Gh)(L':LS):Prop:=∀(k:Nat) st cs f,L[k]? = some (st,cs)->LO[k]? = some f->∃ st' cs',L'[k]? = some (st',cs')/\st<=st'/\(st=st'->cs'=cs/\g'.s.get f=g.s.get f)
structure GL(g:Gh)(L:LS)(LO:List Nat)(g':Gh)(L':LS)(LO':List Nat):Prop where
 pre:LO <+: LO'
 pvn:PR g L LO g' L'
theorem PR.of{L:LS}{g g':Gh}{LO:List Nat}(a:∀ f∈LO,g'.s.get f=g.s.get f):PR g L LO g' L:=fun _ st cs f c d=>⟨st,cs,c,abD _,fun _=>⟨rfl,a f (aiR d)⟩⟩
theorem PR.trans{x y z:Gh}{L M N:LS}{LO LO':List Nat}(h:PR x L LO y M)(hp:LO <+: LO')(k:PR y M LO' z N):PR x L LO z N:=fun i st cs f c a=>by obtain⟨st',cs',d,j,l⟩:=h i st cs f c a;obtain⟨q,rfl⟩:=hp;obtain⟨s2,c2,m,n,o⟩:=k i st' cs' f d (fH q a);refine⟨s2,c2,m,ajd j n,fun e=>?_⟩;obtain⟨p,r⟩:=l (by omega);obtain⟨s,u⟩:=o (by omega);exact⟨s.trans p,u.trans r⟩
theorem GL.refl(g:Gh)(L:LS)(LO:List Nat):GL g L LO g L LO:=⟨ajF,PR.of fun _ _=>rfl⟩
theorem GL.trans{x y z:Gh}{L M N:LS}{A B C:List Nat}(h:GL x L A y M B)(k:GL y M B z N C):GL x L A z N C:=⟨h.pre.trans k.pre,h.pvn.trans h.pre k.pvn⟩
theorem GL.ps{g g':Gh}{L:LS}{LO:List Nat}(a:g'.s=g.s):GL g L LO g' L LO:=⟨ajF,PR.of fun _ _=>by rw[a]⟩
theorem GL.al(h:FI b P0 g t L tv LO){g':Gh}(B:eh)(a:g'.s=g.s.alloc B):GL g L LO g' L LO:=⟨ajF,PR.of fun f c=>by rw[a];exact aV (h.lo_lt c)⟩
theorem GL.op(h:FI b P0 g t L tv LO){g':Gh}{o f ver:Nat}{B:eh}(ho:g.O[o]? = some (some (f,ver)))(a:g'.s=g.s.put f B):GL g L LO g' L LO:=⟨ajF,PR.of fun f' c=>by rw[a];exact cT fun e=>h.lo_out c o ver (by rw[<- e];exact ho)⟩
theorem GL.new(h:FI b P0 g t L tv LO){g':Gh}{B:eh}(x:Nat×List D)(f:Nat)(a:g'.s=g.s.alloc B):GL g L LO g' (L++[x]) (LO++[f]):=⟨List.prefix_append _ _,fun _ st cs f c d=>⟨st,cs,fH _ c,abD _,fun _=>⟨rfl,by rw[a];exact aV (h.lo_lt (aiR d))⟩⟩⟩
theorem GL.put(h:FI b P0 g t L tv LO){g':Gh}{B:eh}{k f st:Nat}{cs0:List D}(hk:L[k]? = some (st,cs0))(c:LO[k]? = some f)(cs:List D)(d:g'.s=g.s.put f B):GL g L LO g' (L.set k (st+1,cs)) LO:=⟨ajF,fun i st' cs' f' a j=>by
 by_cases e:k=i
 ·subst e;rw[hk]at a;cases a;exact⟨st+1,cs,cg hk,Nat.le_succ _,fun q=>by omega⟩
 ·exact⟨st',cs',by rw[ga e];exact a,abD _,fun _=>⟨rfl,by rw[d];exact cT fun q=>e (uj h.nd c (by rw[q];exact j))⟩⟩⟩
def xS(b:Nat)(P0:List Nat)(g:Gh)(t:T LD)(L:LS)(tv:T V)(LO:List Nat)(L':LS)(H':DH)(s':S)(Q:Gh->List Nat->Prop):Prop :=
 ∃ g' LO',g'.H=H'/\g'.s=s'/\FI b P0 g' t L' tv LO'/\Mv b g g'/\GL g L LO g' L' LO'/\Q g' LO'
theorem xS.same(h:FI b P0 g t L tv LO){Q:Gh->List Nat->Prop}(q:Q g LO):xS b P0 g t L tv LO L g.H g.s Q:=⟨g,LO,rfl,rfl,h,.refl b g,.refl g L LO,q⟩
theorem MG(h:FI b P0 g t L tv LO){esc:Bool}{cs:List D}{κ:CN->au}(e:Oz esc cs L g.H κ=some out){vs:List V}(hr:RL g cs vs)(ho:bc vs)(el:TypeId) :
 ∃ x L' H',κ (.val x L' H')=some out/\xS b P0 g t L tv LO L' H' (g.s.alloc (.cells el false 1 [⟨0,0,vs⟩])) fun g' LO'=>RS g' LO' x (.ptr ⟨g.s.next,0,0⟩):=by
 unfold Oz at e;cases esc with
 |true =>
  refine⟨_,_,_,e,g.obj (.cells 0 cs) (.cells el false 1 [⟨0,0,vs⟩]),LO,rfl,rfl,?_,qV h.ok h.bl _ _,.al h _ rfl,?_⟩
  ·exact h.mkobj ⟨g.s.next,el,vs,oG h.ok _ _,su _ _,hr.mono (Af h.ok.len _ _),ho⟩
  ·show RD _ _ _;simp only[RD];exact⟨g.s.next,0,oG h.ok _ _,rfl⟩
 |false =>refine⟨_,_,_,e,g.prv (.cells el false 1 [⟨0,0,vs⟩]),LO++[g.s.next],rfl,rfl,h.prv hr ho,Zz h.ok h.bl _,.new h _ _ rfl,?_⟩;exact⟨g.s.next,by rw[h.own.1];exact gT _ _,rfl⟩
theorem ym:∀(l:List D) (c:Nat),mK l c []=some l
 |[],0=>rfl
 |[],_+1=>rfl
 |_::_,0=>rfl
 |_::_,_+1=>rfl
theorem Mz:∀(x r new:List D),new.length=x.length->mK (x++r) 0 new=some (new++r)
 |[],r,[],_=>ym r 0
 |a::x,r,b::new,h=>by simp only[aiL,mK,Mz x r new (by simpa using h)]
 |[],_,_::_,h=>by simp at h
 |_::_,_,[],h=>by simp at h
theorem HB:∀(x r new:List D) (k:Nat),mK (x++r) (x.length+k) new=(mK r k new).map (x++·)
 |[],r,new,k=>by simp
 |a::x,r,[],k=>by rw[ym,ym];rfl
 |a::x,r,b::new,k=>by rw[aiL,aeJ,show x.length+1+k=(x.length+k)+1 by omega];simp only[mK,HB x r (b::new) k];cases mK r k (b::new)<;>rfl
theorem JZ:∀(x r new:List D) (k:Nat) (c:List D),mK x k new=some c->mK (x++r) k new=some (c++r)
 |x,r,[],k,c,h=>by rw[ym]at h ⊢;cases h;rfl
 |a::x,r,b::new,k+1,c,h=>by
  simp only[mK]at h;split at h
  ·rename_i l hl;cases h;simp only[aiL,mK,JZ x r (b::new) k l hl]
  ·cases h
 |a::x,r,b::new,0,c,h=>by
  simp only[mK]at h;split at h
  ·rename_i l hl;cases h;simp only[aiL,mK,JZ x r new 0 l hl]
  ·cases h
 |[],r,b::new,k,c,h=>by cases k<;>(simp only[mK]at h;cases h)
theorem zz{n:Nat}:∀ {l:List (List D)} {i c:Nat} {cs cs' new:List D},(∀ x∈l,x.length=n)->l[i]? = some cs->mK cs c new=some cs'->mK l.flatten (i*n+c) new=some (l.set i cs').flatten
 |[],i,c,cs,cs',new,_,h,_=>by simp at h
 |x::l,0,c,cs,cs',new,a,h,e=>by simp at h;subst h;simp only[ajw,List.set_cons_zero,akk,aiv];exact JZ x _ new c cs' e
 |x::l,i+1,c,cs,cs',new,a,h,e=>by simp only[ajw,List.set_cons_succ];have d:=a x aeK;rw[show(i+1)*n+c=x.length+(i*n+c)by rw[d,akf];omega,HB,zz (fun y hy=>a y (abE _ hy)) (by simpa using h) e];rfl
theorem Nl{n:Nat}:∀ {l:List (List D)} {i:Nat} {cs:List D},(∀ x∈l,x.length=n)->l[i]? = some cs->(l.flatten.drop (i*n)).take n=cs
 |[],i,cs,_,h=>by simp at h
 |x::l,0,cs,a,h=>by simp at h;subst h;have c:=a x aeK;simp[ajw,<- c]
 |x::l,i+1,cs,a,h=>by have c:=a x aeK;rw[ajw,show(i+1)*n=x.length+i*n by rw[c,akf];omega,<- ala,List.drop_left];exact Nl (fun y hy=>a y (abE _ hy)) (by simpa using h)
theorem lT{n:Nat}:∀ {l:List (List D)},(∀ x∈l,x.length=n)->l.flatten.length=l.length*n
 |[],_=>by simp
 |x::l,a=>by rw[ajw,aae,lT (fun y hy=>a y (abE _ hy)),a x aeK,aeJ,akf];omega
theorem RR.flat{a:Ad}{n:Nat}{l:List (List D)}{vs:List V}(e:∀ x∈l,x.length=n)(hl:loadCells g.s a (l.length*n)=some vs)(hr:RL g l.flatten vs)(ho:bc vs):RR g a n l:=RR.of fun i cs c=>by
 have hi:i<l.length:=by
  rcases aiA i l.length with q|q
  ·exact q
  ·rw[aeF q]at c;cases c
 have d:i*n+n<=l.length*n:=by have:=ajY n (show i+1<=l.length from hi);rw[akf]at this;omega
 refine⟨_,e cs (aiR c),iF hl d,?_,ug (uh ho _) _⟩;have:=(hr.drop (i*n)).take n
 rwa [Nl e c]at this
theorem RR.lens:∀ {l:List (List D)} {a:Ad} {n:Nat},RR g a n l->∀ x∈l,x.length=n
 |[],_,_,_,x,c=>by cases c
 |y::l,a,n,r,x,c=>by
  simp only[RR]at r;rcases aff.1 c with rfl|c
  ·obtain⟨⟨vs,d,_⟩,_⟩:=r;exact d
  ·exact RR.lens r.2 x c
theorem Cv{s:S}{a:Ad}{m n:Nat}{x y:List V}(e:loadCells s a m=some x)(d:loadCells s (cM a m) n=some y):loadCells s a (m+n)=some (x++y):=by
 have key:∀(u:nW),(bif Nat.ble u.lo a.c then bv m (u.cells.drop (a.c - u.lo))else none)=some x->(bif Nat.ble u.lo (a.c+m)then bv n (u.cells.drop (a.c+m - u.lo))else none)=some y->(bif Nat.ble u.lo a.c then bv (m+n) (u.cells.drop (a.c - u.lo))else none)=some (x++y):=fun u f h=>by
  cases hb:Nat.ble u.lo a.c with
  |false=>rw[hb]at f;cases f
  |true =>rw[hb]at f;have hle:=aeb hb;rw[show Nat.ble u.lo (a.c+m)=true from aeI (by omega)]at h;simp only[ge]at f h ⊢;obtain⟨rfl,k⟩:=dN f;obtain⟨rfl,l⟩:=dN h;simp only[aiS]at k l;rw[mr (by rw[aiS];omega)];congr 1;rw[List.take_add,ala,show a.c - u.lo+m=a.c+m - u.lo by omega]
 unfold loadCells at e d ⊢;simp only[cM]at d;split at e
 ·rename_i i;rw[i]at d;simp only at d;split at e
  ·rename_i u j;rw[j]at d;exact key u e d
  ·cases e
 ·rename_i i;rw[i]at d;simp only at d;split at e
  ·rename_i u j;rw[j]at d;exact key u e d
  ·cases e
 ·cases e
theorem RR.cells:∀ {l:List (List D)} {a:Ad} {n:Nat},RR g a n l->l≠[]->∃ vs,loadCells g.s a (l.length*n)=some vs/\RL g l.flatten vs/\bc vs
 |[],_,_,_,h=>(h rfl).elim
 |[x],a,n,r,_=>by simp only[RR]at r;obtain⟨⟨vs,f,c,d,e⟩,_⟩:=r;exact⟨vs,by simpa using c,by simpa using d,e⟩
 |x::y::l,a,n,r,_=>by
  rw[RR]at r;obtain⟨⟨vs,f,c,d,e⟩,r⟩:=r;obtain⟨ws,i,j,k⟩:=RR.cells r (by simp);refine⟨vs++ws,?_,?_,zG e k⟩
  ·have:=Cv c i
   rwa [show n+(y::l).length*n=(x::y::l).length*n by simp only[aeJ,akf];omega]at this
  ·rw[ajw];exact d.append j
theorem rZ{n len:Nat}(a:0<n):∀ {parts:List (Nat×Operand)} {l:List (List D)} {κ:List (List D)->au} {vs:List V},ol t n len parts l κ=some out->(∀ x∈parts,EA g LO t tv x.2)->l.length=len->(∀ x∈l,x.length=n)->RL g l.flatten vs->bc vs ->
 ∃ l' vs' ws,κ l'=some out/\eI tv parts=some ws/\qD (fun i=>some (i*n,n)) vs ws=some vs'/\l'.length=len/\(∀ x∈l',x.length=n)/\RL g l'.flatten vs'/\bc vs'
 |[],l,κ,vs,h,_,k,e,m,o=>⟨l,vs,[],h,rfl,rfl,k,e,m,o⟩
 |(i,x)::r,l,κ,vs,h,ho,k,e,m,o=>by
  simp only[ol]at h;obtain⟨d,v,h,_,w,z⟩:=bI h (ho (i,x) aeK);obtain⟨hb,h⟩:=aQ h;have hi:i<l.length:=by rw[k];exact aeb hb
  obtain⟨new,h,q,A,s⟩:=np h z;have f:new.length=n:=by rw[<- s,q.len]
  have B:l[i]? = some l[i]:=abF hi;have p:=zz (c:=0) (new:=new) e B (by have:=Mz l[i] [] new (by rw[f,e _ (akg hi)]);simpa using this);obtain⟨vs1,u,F,G,_⟩:=pG p m o q A;have j:∀ y∈l.set i new,y.length=n:=fun y hy=>by
   rcases List.mem_or_eq_of_mem_set hy with hy|rfl
   ·exact e y hy
   ·exact f
  obtain⟨l',vs',ws,H,I,J,K⟩:=rZ a h (fun y hy=>ho y (abE _ hy)) (by rw[ajz];exact k) j F G;refine⟨l',vs',(i,v)::ws,H,by simp only[eI,w,I],?_,K⟩;simp only[qD,s,aiw,Lm a,ajc,ge,Option.bind];rw[show i*n+0=i*n from rfl]at u;rw[u];exact J
theorem RL.flat_rep{z:List D}{zv:List V}(h:RL g z zv):∀ n,RL g (List.replicate n z).flatten (List.replicate n zv).flatten
 |0=>by simp[RL]
 |n+1=>by simp only[ajU,ajw];exact h.append (RL.flat_rep h n)
theorem zF{zv:List V}(h:bc zv):∀ n,bc (List.replicate n zv).flatten
 |0=>rfl
 |n+1=>by simp only[ajU,ajw];exact zG h (zF h n)
theorem KD{s:S}{el n:Nat}{vs:List V}(h:n=vs.length):loadCells (s.alloc (.cells el false 1 [⟨0,0,vs⟩])) ⟨s.next,0,0⟩ n=some vs:=by subst h;exact KC (gU _ _)
theorem BF(h:FI b P0 g t L tv LO){ty:TypeId}{len:Nat}{parts:List (Nat×Operand)}{κ:D->au}(e:iW P t ty len parts κ=some out)(ho:∀ x∈parts,EA g LO t tv x.2) :
 ∃ d v s',κ d=some out/\cL P g.s ty len (eI tv parts)=some (.val v s')/\xS b P0 g t L tv LO L g.H s' fun g' _=>RD g' d v:=by
 unfold iW at e;split at e
 ·rename_i el A;split at e
  ·rename_i z B;obtain⟨zv,F,_,u,G⟩:=jO (g:=g) B;split at e
   ·rename_i n I;obtain⟨hc,e⟩:=aQ e;simp only[abA,ajv]at hc;obtain⟨⟨j,a⟩,k⟩:=hc;have f:0<n:=akq fun q=>by subst q;simp at a
    have i:z.cells.length=n:=abr k;have l:zv.cells.length=n:=by rw[u.len,i]
    obtain⟨l',vs',ws,J,K,M,m,w,y,N⟩:=rZ f e ho (List.length_replicate ..) (fun x O=>by rw[List.eq_of_mem_replicate O];exact i) (u.flat_rep len) (zF G len);have Q:cL P g.s ty len (eI tv parts)=some (.val (.slice ⟨g.s.next,0,0⟩ 0 len (some len) n) (g.s.alloc (.cells el false 1 [⟨0,0,vs'⟩]))):=by simp only[cL,A,K,F,I,j,a,l,aiw,aih,ajc,ge,M,lH,bz,bw]
    refine⟨_,_,_,J,Q,g.blk (.cells el false 1 [⟨0,0,vs'⟩]),LO,rfl,rfl,h.blk _,Kr h.ok h.bl _,.al h _ rfl,?_⟩;have p:vs'.length=l'.length*n:=by rw[y.len,lT w]
    cases l' with
    |nil =>simp only[QH,RD];exact .inr ⟨_,_,_,by rw[<- m];rfl⟩
    |cons x r =>
     simp only[QH,RD];refine .inr (.inr ⟨⟨g.s.next,0,0⟩,0,some len,by rw[m],f,.inl rfl,fun c hc=>by cases hc;rw[m];exact abD _,fun _=>⟨?_,fun hp=>?_,fun o v ho=>?_⟩,?_⟩)
     ·show _<(g.s.alloc _).next;rw[S.next_alloc];exact akp _
     ·exact aiD _ (h.ok.pv _ hp)
     ·exact(aiD _ (h.ok.lt o _ v ho).1).elim
     ·exact RR.flat w (KD p.symm) (y.mono (KB _)) N
   ·cases e
  ·cases e
 ·cases e
theorem OB(h:FI b P0 g t L tv LO):xS b P0 g t L tv LO L (g.H++[.map []]) (g.s.alloc (.map [] 0)) fun g' _=>RD g' (.map g.H.length) (.map g.s.next):=by refine⟨g.obj (.map []) (.map [] 0),LO,rfl,rfl,h.mkobj ⟨g.s.next,[],0,oG h.ok _ _,su _ _,rfl⟩,qV h.ok h.bl _ _,.al h _ rfl,?_⟩;simp only[RD];exact⟨g.s.next,0,oG h.ok _ _,rfl⟩
end Go.AI
namespace Go.AI
variable[fY]
variable{b:Nat}{P0:List Nat}{g:Gh}{LO:List Nat}{t:T LD}{L:LS}{tv:T V}{P:Program}{out:js}
theorem vf{s:S}{ty n:Nat}{a:Ad}{v:V}(c:size P ty=some n)(hl:v.cells.length=n):storeVar P s ty a v=storeCells s a v.cells:=by unfold storeVar;rw[c];simp only[hl,aiw,ge]
theorem oI(h:Ok g){o f ver:Nat}(ho:g.O[o]? = some (some (f,ver))){x:DB}(c:g.H[o]? = some x)(d:∀ sz cap l,x≠.buf sz false cap l):¬ g.Imm f:=fun hi=>by obtain⟨sz,cap,l,a⟩:=hi.2.2 o ver ho;rw[c]at a;exact d sz cap l (aiJ a)
theorem Vm{l:List (List D)}{i:Nat}{κ:List D->au}(h:ba l i κ=some out):∃ cs,l[i]? = some cs/\κ cs=some out:=by
 unfold ba at h;split at h
 ·rename_i cs hc;exact⟨cs,hc,h⟩
 ·cases h
theorem Dl{cs new:List D}{c:Nat}{κ:List D->au}(h:aE cs c new κ=some out):∃ cs',mK cs c new=some cs'/\κ cs'=some out:=by
 unfold aE at h;split at h
 ·rename_i l hl;exact⟨l,hl,h⟩
 ·cases h
theorem UE(h:FI b P0 g t L tv LO){d:D}{new:List D}{κ:DH->au}(e:XG d new g.H κ=some out){v:V}(r:RD g d v){ws:List V}(J:RL g new ws)(x:bc ws) :
 ∃ a s' H',v=.ptr a/\κ H'=some out/\storeCells g.s a ws=some s'/\xS b P0 g t L tv LO L H' s' fun _ _=>True:=by
 unfold XG at e;split at e
 ·rename_i o c;simp only[RD]at r;obtain⟨f,ver,j,rfl⟩:=r;obtain⟨st,cs,f',el,vs,e,_,hc,w,z,K,M⟩:=Fj e (hQ.refl g) h.ok;rw[j]at w;cases w;obtain⟨cs',vs',e,N,G,O,_⟩:=zA e K M J x;have hst:=ib z c ws x N
  have cc:xV g o (.cells (st+1) cs') f 0 0 (.cells st cs) (.cells el false 1 [⟨0,0,vs⟩]) (.cells el false 1 [⟨0,0,vs'⟩]) :=
   ⟨j,hc,z,fun _ _ _ _ q=>by(cases q),fun a n ws hi Q=>by rw[Q]at hi;exact(oI h.ok j hc (fun _ _ _ q=>by(cases q)) hi).elim,fun s1 c1 q=>by cases q;exact⟨_,rfl⟩⟩
  refine⟨_,_,_,rfl,e,hst,g.oput o (.cells (st+1) cs') f 0 (.cells el false 1 [⟨0,0,vs'⟩]),LO,rfl,rfl,h.oput cc ?_,kQ h.ok cc,.op h j rfl,trivial⟩;exact⟨f,el,vs',cg j,eV,G.mono (mR h.ok cc),O⟩
 ·rename_i o n i c;simp only[RD]at r;obtain⟨f,ver,sz,st,cap,l,ver',j,w,h5,h6,rfl,h7⟩:=r;obtain⟨sz',st',cap',l',e,hc,A,hn⟩:=nu e (hQ.refl g);rw[w]at A;cases A;obtain⟨hst,e⟩:=eX e;subst hst;obtain⟨cs,k,e⟩:=Vm e
  ·obtain⟨i0,I|⟨I,f',ver2,el,nv,vers,cells,i2,R,U,i5,i6,W⟩⟩:=h.ok.obj o _ w
   ·rw[I.1]at k;simp at k
   rw[j]at i2;cases i2;rw[h7 hn];obtain⟨ks,z,K,M⟩:=W.cells I;have hlens:=W.lens;have hcells:ks=cells:=by
    have:loadCells g.s ⟨f,ver,0⟩ (l.length*sz)=some cells:=by unfold loadCells;simp only[R,U,xP,ge,ajS,ajA];exact ei _ _ i5
    rw[this]at z;exact(aiJ z).symm
   subst hcells;obtain⟨cs',m,e⟩:=Dl e
   ·have X:=zz hlens k m;obtain⟨vs',N,G,O,j4⟩:=pG X K M J x;have Y:cs'.length=sz:=by obtain⟨x1,Z⟩:=W.at k;obtain⟨y1,y2,y3,y4,y5⟩:=pG m Z.2.2.1 Z.2.2.2 J x;rw[y5];exact Z.1
    have p:∀ y∈l.set i cs',y.length=sz:=fun y hy=>by
     rcases List.mem_or_eq_of_mem_set hy with hy|rfl
     ·exact hlens y hy
     ·exact Y
    have hst:storeCells g.s ⟨f,ver,i*sz+c⟩ ws=some (g.s.put f (.cells el false nv [⟨ver,0,vs'⟩])):=by unfold storeCells;simp only[R,U,xP,aeG,ajS,N];rw[show ws.all V.one=true from x];rfl
    have cc:xV g o (.buf sz true cap (l.set i cs')) f ver ver (.buf sz true cap l) (.cells el false nv vers) (.cells el false nv [⟨ver,0,vs'⟩]) :=
     ⟨j,w,R,fun sz1 ib cap1 l1 q=>by cases q;exact⟨true,cap,_,rfl,by rw[ajz];exact abD _,id,fun _=>⟨rfl,rfl⟩⟩,fun a n ws hi Q=>by rw[Q]at hi;exact(oI h.ok j w (fun _ _ _ q=>by(cases q)) hi).elim,fun _ _ q=>by cases q⟩
    refine⟨_,_,_,rfl,e,hst,g.oput o (.buf sz true cap (l.set i cs')) f ver (.cells el false nv [⟨ver,0,vs'⟩]),LO,rfl,rfl,h.oput cc ?_,kQ h.ok cc,.op h j rfl,trivial⟩;have hle:=mR h.ok cc;have B:vs'.length=(l.set i cs').length*sz:=by rw[G.len,lT p]
    have F:(⟨ver,0,ks⟩:nW)∈vers:=(eW U).1;refine⟨i0,.inr ⟨fun q=>I (by have:=aiK List.length q;rw[ajz]at this;exact aji (by simpa using this)),f,ver,el,nv,[⟨ver,0,vs'⟩],vs',cg j,eV,?_,B,fun u hu=>?_,?_⟩⟩
    ·simp only[bV,aiw,ge]
    ·simp at hu;subst hu;exact⟨(i6 _ F).1,by simp⟩
    ·refine RR.flat p ?_ (G.mono hle) O;unfold loadCells;simp only[eV,Gh.oput,bV,aiw,ge,xP,ajS,ajA];exact ei _ _ B
 ·cases e
theorem Og(h:FI b P0 g t L tv LO){ty:TypeId}{x:LD}{y:D}{κ:LS->DH->au}(e:yU P ty x y L g.H κ=some out){v w:V}(m:RS g LO x v)(G:RD g y w) :
 ∃ s' L' H',κ L' H'=some out/\tc P g.s ty (some v) (some w)=some (.skip s')/\xS b P0 g t L tv LO L' H' s' fun _ _=>True:=by
 unfold yU at e;split at e
 ·rename_i n F;obtain⟨p,e⟩:=aQ e;obtain⟨new,e,o,q,i⟩:=np e G;cases x with
  |u=>cases e
  |g d =>simp only at e;have m:RD g d v:=m;obtain⟨a,s',H',rfl,e,z,A⟩:=UE h e m o q;exact⟨s',L,H',e,by rw[xh,vf F i,z];rfl,A⟩
  |lp k c =>
   obtain⟨f,j,rfl⟩:=m;simp only at e;split at e
   ·rename_i st cs hc;obtain⟨_,l|⟨el,vs,l,B,I⟩⟩:=h.own.2 k _ f hc j
    ·simp only at l;subst l;obtain⟨cs',B,_⟩:=Dl e;cases new with
     |nil=>simp only[RL]at o;rw[o]at i;simp at i;subst i;cases p
     |cons a r=>cases c<;>cases B
    ·obtain⟨cs',vs',e,z,A,J,_⟩:=zA e B I o q;have hst:=ib l c w.cells q z;have hp:f∈g.Pv:=by rw[h.pv];exact aiH _ (aiR j)
     refine⟨_,_,_,e,by rw[xh,vf F i,hst];rfl,g.pput f (.cells el false 1 [⟨0,0,vs'⟩]),LO,rfl,rfl,h.pput j l A J,Vq h.ok hp (h.low f (aiR j)) _,.put h hc j _ rfl,trivial⟩
   ·cases e
 ·cases e
theorem rG.upd{kt:TypeId}{td:TypeDesc}(c:P.underlying kt=some td)(okf:Ad->Bool){k v:D}{kv vv:V}(d:re td k=true)(rk:RD g k kv)(rv:RD g v vv)(ho:kv.one=true)(clock:Nat):∀ {es es':List (D×D)} {ents:List qi},rG g es ents->Ku k v es=some es' ->
 ∃ u,dp (dq P okf 20 kt) kv vv ents=some u/\∃ ents',(match u with|some e=>ents'=e|none=>ents'=ents++[⟨kv,vv,clock⟩])/\rG g es' ents'
 |[],es',ents,h,e=>by simp only[rG]at h;subst h;cases e;exact⟨none,rfl,_,rfl,⟨_,_,rfl,rk,rv,ho,rfl⟩⟩
 |(x,w)::l,es',ents,h,e=>by
  simp only[rG]at h;obtain⟨⟨ke,ve,born⟩,m,rfl,f,n,o,j⟩:=h;simp only[Ku]at e;split at e
  ·rename_i i;cases e;exact⟨some (⟨kv,vv,born⟩::m),by simp only[dp,pJ c okf i d rk f,dp.setKey],_,rfl,⟨_,_,rfl,rk,rv,ho,j⟩⟩
  ·rename_i i;split at e
   ·rename_i r hr;cases e;obtain⟨u,p,ents',a,q⟩:=rG.upd c okf d rk rv ho clock j hr;refine⟨u.map (⟨ke,ve,born⟩::·),?_,⟨ke,ve,born⟩::ents',?_,⟨_,_,rfl,f,n,o,q⟩⟩
    ·simp only[dp,pJ c okf i d rk f,dp.setKey,p];cases u<;>rfl
    ·cases u with
     |none=>simp only at a;rw[a];rfl
     |some e=>simp only at a;rw[a];rfl
   ·cases e
  ·cases e
theorem Ai{td:TypeDesc}{k:D}(h:re td k=true):Tc k≠12/\Tc k≠13:=by
 unfold re at h;split at h
 ·split at h
  ·exact⟨(fun e=>by cases e),(fun e=>by cases e)⟩
  ·cases h
 ·split at h
  ·exact⟨(fun e=>by cases e),(fun e=>by cases e)⟩
  ·cases h
 ·split at h
  ·exact⟨(fun e=>by cases e),(fun e=>by cases e)⟩
  ·cases h
 ·cases h
theorem HK(h:FI b P0 g t L tv LO){ty:TypeId}{m k v:D}{κ:DH->au}(e:lM P ty m k v g.H κ=some out){mv kv vv:V}(r:RD g m mv)(w:RD g k kv)(A:RD g v vv) :
 ∃ s' H',κ H'=some out/\fJ P g.s ty (some mv) (some kv) (some vv)=some (.skip s')/\xS b P0 g t L tv LO L H' s' fun _ _=>True:=by
 unfold lM at e;split at e
 ·rename_i td el hm;obtain⟨kt,x,hk,_,d⟩:=oK hm;split at e
  ·rename_i o;obtain⟨l,e⟩:=aQ e;simp only[RD]at r;obtain⟨f,ver,i,rfl⟩:=r;obtain⟨es,f',ents,clock,e,_,h0,y,p,B⟩:=Bu e (hQ.refl g) h.ok;rw[i]at y;cases y;unfold sC at e;split at e
   ·rename_i es' F;obtain⟨u,z,ents',j,G⟩:=B.upd hk (bU g.s) l w A (w.one (Ai l).1 (Ai l).2) clock F;have cc:∀ c,xV g o (.map es') f 0 0 (.map es) (.map ents clock) (.map ents' c):=fun c =>⟨i,h0,p,fun _ _ _ _ q=>by(cases q),fun a n ws hi I=>by rw[I]at hi;exact(oI h.ok i h0 (fun _ _ _ q=>by(cases q)) hi).elim,fun _ _ q=>by cases q⟩
    have fin:∀ c,xS b P0 g t L tv LO L (g.H.set o (.map es')) (g.s.put f (.map ents' c)) fun _ _=>True:=fun c =>⟨g.oput o (.map es') f 0 (.map ents' c),LO,rfl,rfl,h.oput (cc c) ⟨f,ents',c,cg i,eV,G.mono (mR h.ok (cc c))⟩,kQ h.ok (cc c),.op h i rfl,trivial⟩
    cases u with
    |some q =>simp only at j;subst j;exact⟨_,_,e,by simp only[fJ,x,p,d,ge,z,xY],fin clock⟩
    |none =>simp only at j;subst j;exact⟨_,_,e,by simp only[fJ,x,p,d,ge,z,xY],fin (clock+1)⟩
   ·cases e
  ·cases e
 ·cases e
end Go.AI
namespace Go.AI
variable[fY]
variable{b:Nat}{P0:List Nat}{g:Gh}{LO:List Nat}{t:T LD}{L:LS}{tv:T V}{P:Program}{out:js}
theorem En{sz:Nat}{st cap:Bool}{l:List (List D)}{B:eh}{el:Nat}{vs:List V}(h:Ok g)(h0:0<sz)(hl:l≠[])(c:∀ x∈l,x.length=sz)(hB:B=.cells el false 1 [⟨0,0,vs⟩])(hr:RL g l.flatten vs)(ho:bc vs) :
 nJ (g.obj (.buf sz st cap l) B) g.H.length (.buf sz st cap l):=by
 subst hB;have a:vs.length=l.length*sz:=by rw[hr.len,lT c]
 refine⟨h0,.inr ⟨hl,g.s.next,0,el,1,_,vs,oG h _ _,su _ _,by simp only[bV,aiw,ge],a,fun u d=>?_,RR.flat c (KD a.symm) (hr.mono (Af h.len _ _)) ho⟩⟩;simp at d;subst d;exact⟨akp _,by simp⟩
theorem Vt(h:FI b P0 g t L tv LO){el ty n:Nat}(w:P.underlying ty=some (.slice el)){κ:List (List D)->Nat->au}(e:RH P el n κ=some out) :
 ∃ l sz v s',κ l sz=some out/\eK P g.s ty (some n) (some n)=some (.val v s')/\xS b P0 g t L tv LO L (g.H++[.buf sz true true l]) s' fun g' _=>RD g' (.buf sz g.H.length n) v:=by
 unfold RH at e;split at e
 ·rename_i z y;obtain⟨zv,A,_,p,B⟩:=jO (g:=g) y;split at e
  ·rename_i sz F;obtain⟨hc,e⟩:=aQ e;obtain⟨r,e⟩:=eX e;simp only[abA,ajv]at hc r;obtain⟨a,i⟩:=hc;obtain⟨j,k⟩:=r;have c:0<sz:=akq fun q=>by subst q;simp at a
   have d:z.cells.length=sz:=abr i;have m:zv.cells.length=sz:=by rw[p.len,d]
   have f:∀ x∈List.replicate n z.cells,x.length=sz:=fun x G=>by rw[List.eq_of_mem_replicate G];exact d
   have I:eK P g.s ty (some n) (some n)=some (.val (.slice ⟨g.s.next,0,0⟩ 0 n (some n) sz) (g.s.alloc (.cells el false 1 [⟨0,0,(List.replicate n zv.cells).flatten⟩]))):=by simp only[eK,w,A,F,aeI (abD n),j,k,a,m,aiw,aih,ajc,ge,bz,bw]
   refine⟨_,sz,_,_,e,I,?_⟩;cases n with
   |zero =>have u:=h.blk (.cells el false 1 [⟨0,0,(List.replicate 0 zv.cells).flatten⟩]);refine⟨(g.blk (.cells el false 1 [⟨0,0,(List.replicate 0 zv.cells).flatten⟩])).acc sz true,LO,rfl,rfl,u.acc c true,(Kr h.ok h.bl _).trans (Ks u.ok sz true),.al h _ rfl,?_⟩;simp only[RD];exact⟨true,true,[],gT _ _,abD _,.inl ⟨rfl,.inr ⟨_,_,_,rfl⟩⟩⟩
   |succ n =>
    have o:List.replicate (n+1) z.cells≠[]:=by simp[ajU]
    refine⟨g.obj (.buf sz true true (List.replicate (n+1) z.cells)) (.cells el false 1 [⟨0,0,(List.replicate (n+1) zv.cells).flatten⟩]),LO,rfl,rfl,h.mkobj (En h.ok c o f rfl (p.flat_rep _) (zF B _)),qV h.ok h.bl _ _,.al h _ rfl,?_⟩;simp only[RD];exact⟨true,true,_,gT _ _,by simp,.inr ⟨Nat.succ_pos _,g.s.next,0,0,_,oG h.ok _ _,rfl,fun _=>⟨rfl,rfl⟩⟩⟩
  ·cases e
 ·cases e
theorem WA(h:Ok g){y:D}{sz:Nat}{κ:List (List D)->au}(e:Bp y g.H sz κ=some out){v:V}(r:RD g y v)(hsz:0<sz) :
 ∃ els vs,κ els=some out/\iZ g.s sz v=some (vs,els.length)/\RL g els.flatten vs/\bc vs/\∀ x∈els,x.length=sz:=by
 have emp:∀ {v:V},(v=.nilslice\/∃ a z cap sz',v=.slice a z 0 cap sz')->iZ g.s sz v=some ([],0):=fun {v} B=>by rcases B with rfl|⟨a,z,cap,sz',rfl⟩<;>rfl
 have full:∀ {a:Ad} {z:Nat} {cap:Option Nat} {l:List (List D)},RR g a sz l->l≠[]->∃ vs,iZ g.s sz (.slice a z l.length cap sz)=some (vs,l.length)/\RL g l.flatten vs/\bc vs/\∀ x∈l,x.length=sz:=fun {a z cap l} hr hl=>by
  obtain⟨vs,i,j,F⟩:=hr.cells hl;have h0:Nat.beq l.length 0=false:=by cases l with|nil=>exact(hl rfl).elim|cons _ _=>rfl
  have m:Nat.beq sz 0=false:=by cases sz with|zero=>omega|succ _=>rfl
  exact⟨vs,by simp only[iZ,h0,m,aiw,ge,TD,i],j,F,hr.lens⟩
 unfold Bp at e;split at e
 ·rename_i s l;obtain⟨hb,k⟩:=aQ e;clear e;have e:=k;clear k;obtain rfl:=abr hb;simp only[RD]at r;rcases r with⟨rfl,rfl⟩|⟨rfl,a,z,sz',rfl⟩|⟨a,z,cap,rfl,_,_,_,_,G⟩
  ·exact⟨[],[],e,emp (.inl rfl),by simp[RL],rfl,fun x d=>by cases d⟩
  ·exact⟨[],[],e,emp (.inr ⟨_,_,_,_,rfl⟩),by simp[RL],rfl,fun x d=>by cases d⟩
  ·by_cases hl:l=[]
   ·subst hl;exact⟨[],[],e,emp (.inr ⟨_,_,_,_,rfl⟩),by simp[RL],rfl,fun x d=>by cases d⟩
   ·obtain⟨vs,i,j⟩:=full (z:=z) (cap:=cap) G hl;exact⟨l,vs,e,i,j⟩
 ·simp only[RD]at r;refine⟨[],[],e,emp ?_,by simp[RL],rfl,fun x d=>by cases d⟩;rcases r with rfl|⟨a,z,sz',rfl⟩
  ·exact .inl rfl
  ·exact .inr ⟨_,_,_,_,rfl⟩
 ·rename_i s o n;obtain⟨hb,k⟩:=aQ e;clear e;obtain rfl:=abr hb;obtain⟨sz',st,cap,l,e,_,w,p⟩:=nu k (hQ.refl g);clear k;simp only[RD]at r;obtain⟨st',cap',l',m,_,q⟩:=r;rw[w]at m;cases m;rcases q with⟨hn0,q⟩|⟨q,f,ver,ver',c,I,rfl,J⟩
  ·have:l=[]:=aji (by omega);subst this;refine⟨[],[],e,emp ?_,by simp[RL],rfl,fun x d=>by cases d⟩;rcases q with rfl|⟨a,z,sz',rfl⟩
   ·exact .inl rfl
   ·exact .inr ⟨_,_,_,_,rfl⟩
  ·obtain⟨rfl,rfl⟩:=J p;obtain⟨_,u|⟨u,f',ver2,el,nv,vers,cells,A,_,_,_,_,K⟩⟩:=h.obj o _ w
   ·rw[u.1]at p;simp at p;omega
   ·rw[I]at A;cases A;subst p;obtain⟨vs,i,j⟩:=full (z:=0) (cap:=Lj cap l.length) K u;exact⟨l,vs,e,i,j⟩
 ·cases e
theorem SP(a c:List (List D)):(a++c).flatten=a.flatten++c.flatten:=by simp
theorem RW{a c:List (List D)}{sz:Nat}(h:∀ x∈a,x.length=sz)(k:∀ x∈c,x.length=sz):∀ x∈a++c,x.length=sz:=fun x d=>by
 rcases aiq.1 d with d|d
 ·exact h x d
 ·exact k x d
theorem oU{p:nW->Bool}:∀ {vers:List nW},(∀ u∈vers,p u=true)->vers.filter p=vers
 |[],_=>rfl
 |u::r,h=>by rw[List.filter_cons_of_pos (h u aeK),oU fun w a=>h w (abE _ a)]
theorem Xd(h:FI b P0 g t L tv LO){ok:Nat->Bool}{sz:Nat}{x:D}{els:List (List D)}{κ:D->DH->au}(e:cv ok sz x els g.H κ=some out){xv:V}(r:RD g x xv){vs:List V}(Y:RL g els.flatten vs)(Z:bc vs)(h3:∀ x∈els,x.length=sz)(h0:0<sz)(el:TypeId) :
 ∃ d H' v s',κ d H'=some out/\eO ok g.s el sz xv (some (vs,els.length))=some (v,s')/\xS b P0 g t L tv LO L H' s' fun g' _=>RD g' d v:=by
 unfold cv at e;obtain⟨hm,e⟩:=eX e;have emp:els=[]->∀ {v:V},(v=.nilslice\/∃ a z sz',v=.slice a z 0 (some 0) sz')->eO ok g.s el sz v (some (vs,els.length))=some (v,g.s):=fun he {v} hv=>by
  subst he;have G:ok 0=true:=hm;rcases hv with rfl|⟨a,z,sz',rfl⟩
  ·simp only[eO,G,aiC,aiw,ge]
  ·simp only[eO,G,aiC,aiw,jv,ajc,ge]
 have p:els≠[]->∀ {v:V},(v=.nilslice\/∃ a z sz',v=.slice a z 0 (some 0) sz')->eO ok g.s el sz v (some (vs,els.length))=some (.slice ⟨g.s.next,0,0⟩ 0 els.length none sz,g.s.alloc (.cells el false 1 [⟨0,0,vs⟩])):=fun he {v} hv=>by
  have m:Nat.beq els.length 0=false:=by cases els with|nil=>exact(he rfl).elim|cons _ _=>rfl
  rcases hv with rfl|⟨a,z,sz',rfl⟩
  ·simp only[eO,hm,m,ge,TD,jG,bz,bw]
  ·simp only[eO,hm,m,ge,TD,jv,aiw,ajc,jG,bz,bw]
 have mk:∀ {st cap:Bool} {l:List (List D)} {ws:List V},l≠[]->(∀ x∈l,x.length=sz)->RL g l.flatten ws->bc ws->xS b P0 g t L tv LO L (g.H++[.buf sz st cap l]) (g.s.alloc (.cells el false 1 [⟨0,0,ws⟩])) fun g' _=>∀ c,c=Lj cap l.length->RD g' (.buf sz g.H.length l.length) (.slice ⟨g.s.next,0,0⟩ 0 l.length c sz):=fun {st cap l ws} hl J hr ho=>by
  refine⟨g.obj (.buf sz st cap l) (.cells el false 1 [⟨0,0,ws⟩]),LO,rfl,rfl,h.mkobj (En h.ok h0 hl J rfl hr ho),qV h.ok h.bl _ _,.al h _ rfl,fun c hc=>?_⟩;simp only[RD];refine⟨st,cap,l,gT _ _,abD _,.inr ⟨?_,g.s.next,0,0,c,oG h.ok _ _,rfl,fun _=>⟨rfl,hc⟩⟩⟩;cases l with
  |nil=>exact(hl rfl).elim
  |cons _ _=>simp
 split at e
 ·
  simp only[RD]at r;split at e
  ·exact⟨_,_,xv,_,e,emp rfl r,xS.same h (by simp only[RD];exact r)⟩
  ·rename_i y ys;obtain⟨g',LO',W,k2,k3,k4,k5,k6⟩:=mk (st:=true) (cap:=false) (by simp) h3 Y Z;exact⟨_,_,_,_,e,p (by simp) r,g',LO',W,k2,k3,k4,k5,k6 none rfl⟩
 ·
  rename_i s o n _;obtain⟨hb,e1⟩:=aQ e;clear e;obtain rfl:=abr hb;obtain⟨sz',st,cap,l,e2,hc,j,J⟩:=nu e1 (hQ.refl g);clear e1;obtain⟨hk,e⟩:=eX e2;clear e2;simp only[abA,ajv]at hk;obtain⟨hk1,hk2⟩:=hk;simp only[RD]at r;obtain⟨st',cap',l',j1,_,K⟩:=r;rw[j]at j1;cases j1;unfold grow at e;by_cases m:els=[]
  ·subst m;have hcap:cap=false:=by cases cap with|false=>rfl|true=>simp at hk2
   subst hcap;simp only[TD,aic,aiC,aiU]at e;have hH:g.H.set o (.buf s st false l)=g.H:=by
    apply akb;intro i;rw[akl];split
    ·rename_i hi;subst hi;split
     ·rw[j]
     ·rename_i q;rw[aeF (by omega)]
    ·rfl
   rw[hH,<- J]at e;have hv:eO ok g.s el s xv (some (vs,0))=some (xv,g.s):=by
    rcases K with⟨_,K⟩|⟨j3,f,ver,ver',c,X,rfl,j5⟩
    ·exact emp rfl K
    ·have Q:Nat.beq n 0=false:=by cases n with|zero=>omega|succ _=>rfl
     have G:ok 0=true:=hm;have hk0:ok (n+0)=true:=by rw[J];exact hk1
     simp only[eO,G,hk0,Q,aeH,TD,aiw,aeG,ge]
   exact⟨_,_,xv,_,e,hv,xS.same h (by simp only[RD];exact⟨st,false,l,j,by omega,K⟩)⟩
  ·have hel:0<els.length:=by cases els with|nil=>exact(m rfl).elim|cons _ _=>simp
   rcases K with⟨hn0,K⟩|⟨j3,f,ver,ver',c,X,rfl,j5⟩
   ·have hl:l=[]:=aji (by omega);subst hl;simp only[air,aiC,aiv]at e;cases cap with
    |true =>simp only[ge]at e;obtain⟨g',LO',W,k2,k3,k4,k5,k6⟩:=mk (st:=true) (cap:=false) m h3 Y Z;exact⟨_,_,_,_,e,p m K,g',LO',W,k2,k3,k4,k5,k6 none rfl⟩
    |false =>
     simp only[TD]at e;have hO:g.O[o]? = some none:=by
      obtain⟨_,I|⟨I,_⟩⟩:=h.ok.obj o _ j
      ·exact I.2
      ·exact(I rfl).elim
     have w:vs.length=els.length*s:=by rw[Y.len,lT h3]
     have R:=FE (B:=.cells el false 1 [⟨0,0,vs⟩]) h.ok hO j rfl (st':=st) (cap':=false) id m;have A:nJ (g.bnew o (.buf s st false els) (.cells el false 1 [⟨0,0,vs⟩])) o (.buf s st false els):=by refine⟨h0,.inr ⟨m,g.s.next,0,el,1,_,vs,cg hO,gU _ _,by simp only[bV,aiw,ge],w,fun u F=>?_,RR.flat h3 (KD w.symm) (Y.mono R) Z⟩⟩;simp at F;subst F;exact⟨akp _,by simp⟩
     refine⟨_,_,_,_,e,p m K,g.bnew o (.buf s st false els) (.cells el false 1 [⟨0,0,vs⟩]),LO,rfl,rfl,h.bnew hO j rfl id m A,MK h.ok h.bl hO j rfl id m,.al h _ rfl,?_⟩;simp only[RD];exact⟨st,false,els,cg j,abD _,.inr ⟨hel,g.s.next,0,0,none,cg hO,rfl,fun _=>⟨rfl,rfl⟩⟩⟩
   ·obtain⟨rfl,rfl⟩:=j5 J;obtain⟨_,I|⟨I,f',ver2,el0,nv,vers,cells,i2,i3,i4,i5,i6,i7⟩⟩:=h.ok.obj o _ j
    ·rw[I.1]at J;simp at J;omega
    rw[X]at i2;cases i2;subst J;have Q:Nat.beq l.length 0=false:=by cases l with|nil=>exact(I rfl).elim|cons _ _=>rfl
    have hez:Nat.beq els.length 0=false:=by cases els with|nil=>exact(m rfl).elim|cons _ _=>rfl
    obtain⟨ks,W,k2,k3⟩:=i7.cells I;have hcells:ks=cells:=by
     have:loadCells g.s ⟨f,ver',0⟩ (l.length*s)=some cells:=by unfold loadCells;simp only[i3,i4,xP,ge,ajS,ajA];exact ei _ _ i5
     rw[this]at W;exact(aiJ W).symm
    subst hcells;have htk:bv (l.length*s) (ks.drop (0 - 0))=some ks:=by simpa using ei _ _ i5
    have hstart:eO ok g.s el s (.slice ⟨f,ver',0⟩ 0 l.length (Lj cap l.length) s) (some (vs,els.length))=Au g.s el ⟨f,ver',0⟩ 0 l.length (Lj cap l.length) s vs els.length:=by simp only[eO,hm,Q,hez,aeH,TD,aiw,hk1,ajc,ge]
    have hlen2:=RW i7.lens h3;have U:RL g (l++els).flatten (ks++vs):=by rw[SP];exact k2.append Y
    have ho2:=zG k3 Z;have M:l++els≠[]:=by simp[I]
    cases cap with
    |true =>
     simp only[ge]at e;obtain⟨g',LO',m1,m2,m3,m4,m5,m6⟩:=mk (st:=true) (cap:=false) M hlen2 U ho2;have hno:Nat.ble (l.length+els.length) l.length=false:=by
      cases hq:Nat.ble (l.length+els.length) l.length with
      |false=>rfl
      |true=>have:=aeb hq;omega
     refine⟨_,_,_,_,e,?_,g',LO',m1,m2,m3,m4,m5,by have:=m6 none rfl;rwa [aae]at this⟩;rw[hstart];simp only[Au,i3,i4,xP,ge,htk,Lj,FJ,hno,TD,jG,bz,bw]
    |false =>
     simp only[TD]at e;have hfil:vers.filter (fun u=>Nat.ble (u.lo+u.cells.length) (0+l.length*s))=vers:=oU fun u F=>aeI (by have:=(i6 u F).2;omega);have hgrow:Au g.s el ⟨f,ver',0⟩ 0 l.length none s vs els.length=some (.slice ⟨f,nv,0⟩ 0 (l.length+els.length) none s,g.s.put f (.cells el0 false (nv+1) (⟨nv,0,ks++vs⟩::vers))):=by simp only[Au,i3,i4,xP,ge,htk,Av,hfil];rw[show vs.all V.one=true from Z];rfl
     have hold:∀ a n ws,a.f=f->loadCells g.s a n=some ws->loadCells (g.s.put f (.cells el0 false (nv+1) (⟨nv,0,ks++vs⟩::vers))) a n=some ws:=fun a n ws ha k=>by
      unfold loadCells at k ⊢;rw[ha,i3]at k;rw[ha,eV];simp only at k ⊢;split at k
      ·rename_i u F;have N:=eW F;have hne:Nat.beq nv a.v=false:=by
        cases hq:Nat.beq nv a.v with
        |false=>rfl
        |true=>have:=abr hq;have:=(i6 u N.1).1;have:=N.2;omega
       simp only[bV,hne,TD,F];exact k
      ·cases k
     have cc:xV g o (.buf s st false (l++els)) f ver' nv (.buf s st false l) (.cells el0 false nv vers) (.cells el0 false (nv+1) (⟨nv,0,ks++vs⟩::vers)) :=
      ⟨X,j,i3,fun sz1 ib cap1 l1 q=>by cases q;exact⟨st,false,_,rfl,by rw[aae];omega,id,fun q=>by rw[aae]at q;omega⟩,fun a n ws _ ha k=>hold a n ws ha k,fun _ _ q=>by cases q⟩
     have R:=mR h.ok cc;have w:(ks++vs).length=(l++els).length*s:=by rw[U.len,lT hlen2]
     have A:nJ (g.oput o (.buf s st false (l++els)) f nv (.cells el0 false (nv+1) (⟨nv,0,ks++vs⟩::vers))) o (.buf s st false (l++els)):=by
      refine⟨h0,.inr ⟨M,f,nv,el0,nv+1,_,ks++vs,cg X,eV,by simp only[bV,aiw,ge],w,fun u F=>?_,?_⟩⟩
      ·rcases aff.1 F with rfl|F
       ·exact⟨akp _,by simp⟩
       ·have:=i6 u F;exact⟨by omega,by rw[aae];omega⟩
      ·refine RR.flat hlen2 ?_ (U.mono R) ho2;unfold loadCells;simp only[eV,Gh.oput,bV,aiw,ge,xP,ajS,ajA];exact ei _ _ w
     refine⟨_,_,_,_,e,by rw[hstart];exact hgrow,g.oput o (.buf s st false (l++els)) f nv (.cells el0 false (nv+1) (⟨nv,0,ks++vs⟩::vers)),LO,rfl,rfl,h.oput cc A,kQ h.ok cc,.op h X rfl,?_⟩;simp only[RD];exact⟨st,false,l++els,cg j,by rw[aae];exact abD _,.inr ⟨by omega,f,nv,nv,none,cg X,rfl,fun _=>⟨rfl,rfl⟩⟩⟩
 ·cases e
theorem Lp(h:FI b P0 g t L tv LO){sT xT:TypeId}{x y:D}{κ:D->DH->au}(e:tF P sT xT x y g.H κ=some out){xv yv:V}(f:RD g x xv)(j:RD g y yv) :
 ∃ d H' v s',κ d H'=some out/\tE P sT xT g.s xv yv=some (v,s')/\xS b P0 g t L tv LO L H' s' fun g' _=>RD g' d v:=by
 unfold tF at e;split at e
 ·rename_i elem k;obtain⟨c,e⟩:=aQ e;split at e
  ·rename_i sz l;obtain⟨a,e⟩:=aQ e;have h0:0<sz:=by obtain⟨z,i,_,_,_,h0,_⟩:=pj a;exact h0
   obtain⟨els,vs,e,m,n,o,p⟩:=WA h.ok e j h0;obtain⟨d,H',v,s',e,q,r⟩:=Xd h e f n o p h0 elem;exact⟨d,H',v,s',e,by simp only[tE,k,c,ge,l,a,m];exact q,r⟩
  ·cases e
 ·cases e
end Go.AI
namespace Go.AI
variable[fY]
variable{b:Nat}{P0:List Nat}{g:Gh}{LO:List Nat}{t:T LD}{L:LS}{tv:T V}{P:Program}{out:js}
def tO(g:Gh):Option D->Option V->Prop
 |none,none=>True
 |some d,some v=>RD g d v
 |_,_=>False
theorem pN{x:Option Operand}{κ:Option D->au}(h:Pb t x κ=some out)(hr:∀ y,x=some y->EA g LO t tv y):∃ d v,κ d=some out/\lV tv x=some v/\tO g d v:=by
 cases x with
 |none=>exact⟨none,none,h,rfl,trivial⟩
 |some x =>simp only[Pb]at h;obtain⟨d,v,a,_,c,e⟩:=bI h (hr x rfl);exact⟨some d,some v,a,by simp only[lV,c],e⟩
theorem ez{o:Option D}{d:Nat}{κ:Nat->au}(h:uQ o d κ=some out){ov:Option V}(hr:tO g o ov):∃ n,κ n=some out/\ft ov d=some n/\(o=none->n=d):=by
 unfold uQ at h;split at h
 ·cases ov with
  |none=>exact hr.elim
  |some v =>have hr:RD g _ v:=hr;simp only[RD]at hr;subst hr;obtain⟨m,rfl,h⟩:=pH h;exact⟨m,h,rfl,fun e=>by cases e⟩
 ·cases h
 ·cases ov with
  |none=>exact⟨d,h,rfl,fun _=>rfl⟩
  |some _=>exact hr.elim
theorem tO.isSome{o:Option D}{ov:Option V}(h:tO g o ov):ov.isSome=o.isSome:=by cases o<;>cases ov<;>first|rfl|exact h.elim
theorem RR.take:∀ {l:List (List D)} {a:Ad} {sz:Nat} (n:Nat),RR g a sz l->RR g a sz (l.take n)
 |[],_,_,n,_=>by simp[RR]
 |x::l,a,sz,0,_=>by simp[RR]
 |x::l,a,sz,n+1,r=>by simp only[RR,ajs]at r ⊢;exact⟨r.1,RR.take n r.2⟩
theorem tW{sz:Nat}{l:List (List D)}{lo hi:Option D}{κ:D->au}(h:Hh sz l lo hi κ=some out){v:V}(r:RD g (.row sz l) v){lov i:Option V}(M:tO g lo lov)(N:tO g hi i){ty e:TypeId}(n:P.underlying ty=some (.slice e))(o:size P e=some sz) :
 ∃ d v',κ d=some out/\dP P ty v lov i none=some v'/\RD g d v':=by
 unfold Hh at h;obtain⟨j,F,s,_⟩:=ez h N;obtain⟨bn,G,u,_⟩:=ez F M;clear F h;obtain⟨hb,h⟩:=eX G;clear G;simp only[abA]at hb;have p:=aeb hb.1;obtain rfl:=abr hb.2;have zero:l=[]->(cq (ft lov 0)&&cq (ft i 0)&&cq (ft none 0))=true:=fun hl=>by
  subst hl;have:j=0:=by simpa using p
  subst this;simp only[aiC]at s;rw[s,u];rfl
 simp only[RD]at r;rcases r with⟨rfl,rfl⟩|⟨rfl,a,z,sz',rfl⟩|⟨a,z,cap,rfl,w,H,O,I,J⟩
 ·refine⟨_,.nilslice,h,?_,by simp only[RD];exact .inl ⟨by simp,trivial⟩⟩;simp only[dP,n,o,zero rfl,ge,ajp,aeH,TD]
 ·refine⟨_,.slice a z 0 (some 0) sz',h,?_,by simp only[RD];exact .inr (.inl ⟨by simp,a,z,sz',rfl⟩)⟩;simp only[dP,n,o,jv,aiw,ajc,aks,ge,zero rfl,ajp,aeH,aih]
 ·by_cases f:(Nat.beq l.length 0&&jv cap)=true
  ·simp only[abA]at f;have hl:l=[]:=aji (abr f.1);subst hl;refine⟨_,.slice a z 0 cap sz,h,?_,?_⟩
   ·simp only[dP,n,o,aiC,aiw,f.2,ajc,aks,ge,zero rfl,ajp,aeH,aih]
   ·simp only[RD];exact .inr (.inr ⟨a,z,cap,by simp,w,H,fun c hc=>by simp,fun q=>by simp at q,by simp[RR]⟩)
  ·have K:(Nat.beq sz 0||(Nat.beq l.length 0&&jv cap))=false:=by
    cases sz with
    |zero=>omega
    |succ _=>cases x:(Nat.beq l.length 0&&jv cap)with
     |true=>exact(f x).elim
     |false=>rfl
   have k:(l.take j).length=j:=by rw[aiu];omega
   cases cap with
   |some c =>
    have hc:=O c rfl;have y:Nat.beq c 0=false:=by
     cases x:Nat.beq c 0 with
     |false=>rfl
     |true =>
      have:=abr x;subst this;have A:l.length=0:=by omega
      rw[A]at f;exact(f rfl).elim
    refine⟨_,.slice (cM a (0*sz)) 0 (j - 0) (some (c - 0)) sz,h,?_,?_⟩
    ·simp only[dP,n,o,K,TD,aiw,ajp,aeH,aih,ajc,ge,s,u,aeI (ajd p hc),xP,y]
    ·simp only[RD];refine .inr (.inr ⟨cM a (0*sz),0,some (c - 0),by rw[k];rfl,w,.inl rfl,fun Q m=>by cases m;rw[k];omega,fun q=>I (fun e=>by subst e;simp at q),?_⟩);rw[show cM a (0*sz)=a by simp[cM]];exact J.take j
   |none =>
    have B:z=a.c:=H.elim (fun q=>by cases q) id;refine⟨_,.slice a z j none sz,h,?_,?_⟩
    ·simp only[dP,n,o,K,TD,aiw,ajp,aeH,aih,ajc,ge,s,u,hb.1,xP]
    ·simp only[RD];exact .inr (.inr ⟨a,z,none,by rw[k],w,.inr B,(fun Q m=>by cases m),fun q=>I (fun e=>by subst e;simp at q),J.take j⟩)
theorem rT{ty e sz:TypeId}(n:P.underlying ty=some (.slice e))(o:size P e=some sz){v:V}(r:RD g .nilrow v\/∃ l,RD g (.row sz l) v){lov f:Option V}{m:V}(p:ft lov 0=some 0)(s:ft f 0=some 0)(u:qu m=some 0)(k:f.isSome=true) :
 ∃ v',dP P ty v lov f (some m)=some v'/\RD g .nilrow v':=by
 have zero:(cq (ft lov 0)&&cq (ft f 0)&&cq (ft (some m) 0))=true:=by rw[p,s];simp only[ft,u];rfl
 have w:∀ d,ft f d=some 0:=fun d=>by
  cases f with
  |none=>cases k
  |some q=>exact s
 have i:dP P ty .nilslice lov f (some m)=some .nilslice:=by simp only[dP,n,o,zero,ge,k,akK,aid,aiM,TD]
 have j:∀ a z sz',dP P ty (.slice a z 0 (some 0) sz') lov f (some m)=some (.slice a z 0 (some 0) sz'):=fun a z sz'=>by simp only[dP,n,o,jv,aiw,ajc,aks,ge,zero,k,akK,aid,aiM,aih]
 rcases r with r|⟨l,r⟩
 ·simp only[RD]at r;rcases r with rfl|⟨a,z,sz',rfl⟩
  ·exact⟨_,i,by simp only[RD];exact .inl trivial⟩
  ·exact⟨_,j a z sz',by simp only[RD];exact .inr ⟨a,z,sz',rfl⟩⟩
 ·simp only[RD]at r;rcases r with⟨rfl,rfl⟩|⟨rfl,a,z,sz',rfl⟩|⟨a,z,cap,rfl,x,y,k3,k4,k5⟩
  ·exact⟨_,i,by simp only[RD];exact .inl trivial⟩
  ·exact⟨_,j a z sz',by simp only[RD];exact .inr ⟨a,z,sz',rfl⟩⟩
  ·by_cases h:(Nat.beq l.length 0&&jv cap)=true
   ·simp only[abA]at h;have hl:=abr h.1;rw[hl];have hc:cap=some 0:=by
     cases cap with
     |none=>cases h.2
     |some c=>rw[abr h.2]
    subst hc;exact⟨_,j a z sz,by simp only[RD];exact .inr ⟨a,z,sz,rfl⟩⟩
   ·have A:(Nat.beq sz 0||(Nat.beq l.length 0&&jv cap))=false:=by
     cases sz with
     |zero=>exact(aiD _ x).elim
     |succ _=>cases B:(Nat.beq l.length 0&&jv cap)with
      |true=>exact(h B).elim
      |false=>rfl
    have hk:(cap.isSome||Nat.blt 0 l.length||Nat.beq z a.c)=true:=by
     rcases y with q|q
     ·rw[q];rfl
     ·rw[q,aiw];simp
    refine⟨.slice a 0 (0 - 0) (some 0) sz,?_,by simp only[RD];exact .inr ⟨a,0,sz,rfl⟩⟩;simp only[dP,n,o,A,TD,aiw,k,akK,aid,aiM,aih,ajc,ge,p,w,u,xP,hk]
theorem JN(h:FI b P0 g t L tv LO){ty:TypeId}{x:D}{lo hi mx:Option D}{κ:D->DH->au}(e:cy P ty x lo hi mx g.H κ=some out){v:V}(r:RD g x v){lov j mxv:Option V}(G:tO g lo lov)(q:tO g hi j)(J:tO g mx mxv) :
 ∃ d H' v',κ d H'=some out/\dP P ty v lov j mxv=some v'/\xS b P0 g t L tv LO L H' g.s fun g' _=>RD g' d v':=by
 unfold cy at e;split at e
 ·rename_i m;split at e
  ·rename_i l;simp only[RD]at r;obtain⟨rfl,hb⟩:=r;split at e
   ·cases mxv with
    |some _=>exact J.elim
    |none =>
    obtain⟨u,e,w,_⟩:=ez e q;obtain⟨bn,e,y,_⟩:=ez e G;obtain⟨hc,e⟩:=eX e;refine⟨_,_,.str ((l.drop bn).take (u - bn)),e,by simp only[dP,m,w,y,hc,ge],xS.same h ?_⟩;simp only[RD];exact⟨trivial,fun c hc=>hb c (akU (ajZ hc))⟩
   ·cases e
  ·cases e
 ·rename_i el m;split at e
  ·rename_i sz A;split at e
   ·cases mxv with
    |some _=>exact J.elim
    |none =>
    split at e
    ·rename_i s l;obtain⟨hb,i⟩:=aQ e;clear e;have hb:=abr hb;subst hb;obtain⟨d,v',e,p,k⟩:=tW i r G q m A;exact⟨d,_,v',e,p,xS.same h k⟩
    ·rename_i s o n;obtain⟨sz',st,cap,l,i,hc,f,u⟩:=nu e (hQ.refl g);clear e;obtain⟨hb,e⟩:=eX i;clear i;have hb:=abr hb;subst hb;simp only[RD]at r;have B:sz'=s:=by obtain⟨st',cap',l',I,_⟩:=r;rw[f]at I;cases I;rfl
     subst B;have hr:=FL h.ok f u r;have r1':tO (g.frz o sz' cap l) lo lov:=by cases lo<;>cases lov<;>first|exact G|exact RD.mono (uq f) G
     have r2':tO (g.frz o sz' cap l) hi j:=by cases hi<;>cases j<;>first|exact q|exact RD.mono (uq f) q
     obtain⟨d,v',F,p,k⟩:=tW e hr r1' r2' m A;exact⟨d,_,v',F,p,g.frz o sz' cap l,LO,rfl,rfl,h.frz f,Kq f,.ps rfl,k⟩
    ·obtain⟨u,i,w,_⟩:=ez e q;obtain⟨bn,F,y,_⟩:=ez i G;clear e i;obtain⟨hc,e⟩:=eX F;clear F;simp only[abA]at hc;obtain rfl:=abr hc.1;obtain rfl:=abr hc.2;have zero:(cq (ft lov 0)&&cq (ft j 0)&&cq (ft none 0))=true:=by rw[w,y];rfl
     have U:=r;simp only[RD]at r;refine⟨_,_,v,e,?_,xS.same h U⟩;rcases r with rfl|⟨a,z,sz',rfl⟩
     ·simp only[dP,m,A,zero,ge,ajp,aeH,TD]
     ·simp only[dP,m,A,jv,aiw,ajc,aks,ge,zero,ajp,aeH,aih]
    ·cases e
   ·rename_i md;cases mxv with
    |none=>exact J.elim
    |some mv =>
    obtain⟨mn,i,K,_⟩:=ez (o:=some md) (ov:=some mv) e J;obtain⟨u,F,w,_⟩:=ez i q;obtain⟨bn,R,y,_⟩:=ez F G;clear e i F;obtain⟨hc,e⟩:=aQ R;clear R;simp only[abA]at hc;obtain⟨M,⟨f,N⟩,O⟩:=hc;obtain rfl:=abr f;obtain rfl:=abr N;obtain rfl:=abr O;have Q:j.isSome=true:=by rw[q.isSome];exact M
    split at e
    ·rename_i s l;obtain⟨hb,i⟩:=aQ e;clear e;have hb:=abr hb;subst hb;obtain⟨v',p,k⟩:=rT (g:=g) m A (.inr ⟨_,r⟩) y w K Q;exact⟨_,_,v',i,p,xS.same h k⟩
    ·rename_i s o n;obtain⟨sz',st,cap,l,i,hc,f,u⟩:=nu e (hQ.refl g);clear e;obtain⟨hb,e⟩:=eX i;clear i;have hb:=abr hb;subst hb;simp only[RD]at r;have B:sz'=s:=by obtain⟨st',cap',l',I,_⟩:=r;rw[f]at I;cases I;rfl
     subst B;have hr:=FL h.ok f u r;obtain⟨v',p,k⟩:=rT m A (.inr ⟨_,hr⟩) y w K Q;simp only[RD]at k;exact⟨_,_,v',e,p,xS.same h (by simp only[RD];exact k)⟩
    ·obtain⟨v',p,k⟩:=rT (g:=g) m A (.inl r) y w K Q;exact⟨_,_,v',e,p,xS.same h k⟩
    ·cases e
  ·cases e
 ·cases e
theorem JO{ty:TypeId}{x:D}{lo hi mx:Option D}{κ:D->DH->au}(e:cy P ty x lo hi mx [] κ=some out){v:V}(r:RD g x v){lov f mxv:Option V}(B:tO g lo lov)(q:tO g hi f)(F:tO g mx mxv) :
 ∃ d v',κ d []=some out/\dP P ty v lov f mxv=some v'/\RD g d v':=by
 have nob:∀ {o n:Nat} {k:Nat->Bool->Bool->List (List D)->au},ew [] o n k=some out->False:=fun h=>by simp[ew]at h
 unfold cy at e;split at e
 ·rename_i j;split at e
  ·rename_i l;simp only[RD]at r;obtain⟨rfl,hb⟩:=r;split at e
   ·cases mxv with
    |some _=>exact F.elim
    |none =>
    obtain⟨G,e,m,_⟩:=ez e q;obtain⟨bn,e,p,_⟩:=ez e B;obtain⟨hc,e⟩:=eX e;refine⟨_,.str ((l.drop bn).take (G - bn)),e,by simp only[dP,j,m,p,hc,ge],?_⟩;simp only[RD];exact⟨trivial,fun c hc=>hb c (akU (ajZ hc))⟩
   ·cases e
  ·cases e
 ·rename_i el j;split at e
  ·rename_i sz u;split at e
   ·cases mxv with
    |some _=>exact F.elim
    |none =>
    split at e
    ·rename_i s l;obtain⟨hb,i⟩:=aQ e;clear e;have hb:=abr hb;subst hb;obtain⟨d,v',e,w,y⟩:=tW i r B q j u;exact⟨d,v',e,w,y⟩
    ·exact(nob e).elim
    ·obtain⟨G,i,m,_⟩:=ez e q;obtain⟨bn,A,p,_⟩:=ez i B;clear e i;obtain⟨hc,e⟩:=eX A;clear A;simp only[abA]at hc;obtain rfl:=abr hc.1;obtain rfl:=abr hc.2;have zero:(cq (ft lov 0)&&cq (ft f 0)&&cq (ft none 0))=true:=by rw[m,p];rfl
     have Q:=r;simp only[RD]at r;refine⟨_,v,e,?_,Q⟩;rcases r with rfl|⟨a,z,sz',rfl⟩
     ·simp only[dP,j,u,zero,ge,ajp,aeH,TD]
     ·simp only[dP,j,u,jv,aiw,ajc,aks,ge,zero,ajp,aeH,aih]
    ·cases e
   ·rename_i md;cases mxv with
    |none=>exact F.elim
    |some mv =>
    obtain⟨mn,i,M,_⟩:=ez (o:=some md) (ov:=some mv) e F;obtain⟨G,A,m,_⟩:=ez i q;obtain⟨bn,N,p,_⟩:=ez A B;clear e i A;obtain⟨hc,e⟩:=aQ N;clear N;simp only[abA]at hc;obtain⟨H,⟨I,J⟩,K⟩:=hc;obtain rfl:=abr I;obtain rfl:=abr J;obtain rfl:=abr K;have O:f.isSome=true:=by rw[q.isSome];exact H
    split at e
    ·rename_i s l;obtain⟨hb,i⟩:=aQ e;clear e;have hb:=abr hb;subst hb;obtain⟨v',w,y⟩:=rT (g:=g) j u (.inr ⟨_,r⟩) p m M O;exact⟨_,v',i,w,y⟩
    ·exact(nob e).elim
    ·obtain⟨v',w,y⟩:=rT (g:=g) j u (.inl r) p m M O;exact⟨_,v',e,w,y⟩
    ·cases e
  ·cases e
 ·cases e
end Go.AI
namespace Go.AI
variable[fY]
variable{b:Nat}{P0:List Nat}{g:Gh}{LO:List Nat}{t:T LD}{L:LS}{tv:T V}{P:Program}{out:js}{E:dl}
def Rf(t t':T LD)(tv:T V):Prop:=∀(Q:Nat->LD->V->Prop),(∀ i q,Q i (.g (.bool q)) (.bool q))->(∀ i x,t.get (fu i)=some x->∃ v,tv.get (fu i)=some v/\Q i x v)->∀ i x,t'.get (fu i)=some x->∃ v,tv.get (fu i)=some v/\Q i x v
theorem Rf.refl(t:T LD)(tv:T V):Rf t t tv:=fun _ _ h=>h
theorem Rf.rt{t t':T LD}(r:Rf t t' tv)(h:CM g LO t tv):CM g LO t' tv:=r (fun _ x v=>RS g LO x v) (fun _ q=>by show RD _ _ _;simp only[RD]) h
theorem zq{i:Nat}{q:Bool}(d:tv.get (fu i)=some (.bool q)):Rf t (T.set (some (.g (.bool q))) (fu i) t) tv:=fun Q e h j x a=>by
 by_cases c:i=j
 ·subst c;rw[T.get_set_same]at a;cases a;exact⟨_,d,e i q⟩
 ·rw[T.get_setN,aeD c]at a;exact h j x a
theorem yi{x:Operand}{q:Bool}(a:eval tv x=some (.bool q)):Rf t (Me t x q) tv:=by
 cases x with
 |tmp i=>exact zq a
 |_=>exact Rf.refl t tv
theorem WV{d:D}{x y:au}(h:brS d x y=some out):∃ q,d=.bool q/\(bif q then x else y)=some out:=by
 unfold brS at h;split at h
 ·exact⟨_,rfl,h⟩
 ·cases h
theorem Eo{x y:au}(h:BJ x y=some out):x=some out/\y=some out:=by
 unfold BJ at h;split at h
 ·rename_i e;exact⟨h,e▸h⟩
 ·cases h
theorem Gy{d:D}{x y:au}(h:brD d x y=some out){v:V}(r:RD g d v):∃ q,v=.bool q/\(bif q then x else y)=some out:=by
 unfold brD at h;split at h
 ·simp only[RD]at r;exact⟨_,r,h⟩
 ·simp only[RD]at r;obtain⟨q,rfl⟩:=r;obtain⟨a,c⟩:=Eo h;cases q
  ·exact⟨_,rfl,c⟩
  ·exact⟨_,rfl,a⟩
 ·cases h
theorem Vo{P:Program}{op:BinOp}{ty el:TypeId}{x y:Operand}{d:D}{κ:D->au}(h:Oy op d κ=some out)(k:P.underlying ty=some (.slice el)){v w:V}(r:RD g d v)(hy:uB y=true)(m:eval tv y=some w)(s:S) :
 ∃ o v',κ o=some out/\gk P s op ty x y (some v) (some w)=some v'/\RD g o v':=by
 have i:w=.nilslice:=by
  unfold uB at hy;split at hy
  ·rename_i c;split at hy
   ·rename_i hc;simp only[eval,hc]at m;exact(aiJ m).symm
   ·cases hy
  ·cases hy
 subst i;unfold Oy at h;obtain⟨j,h⟩:=aQ h;have key:∀ {v:V},(v=.nilslice\/∃ a z n c sz,v=.slice a z n c sz)->∃ q,gk P s op ty x y (some v) (some .nilslice)=some (.bool q)/\((∃ a z n c sz,v=.slice a z n c sz)->q=acN op):=fun {v} p=>by
  have u:fU P op ty x y v .nilslice=true:=by unfold fU;rcases p with rfl|⟨a,z,n,c,sz,rfl⟩<;>simp[j]
  simp only[gk,u,ge];rcases p with rfl|⟨a,z,n,c,sz,rfl⟩
  ·cases op<;>first|(cases j;done)|(simp only[gc,dq,k,Option.map];exact⟨_,rfl,fun⟨a,z,n,c,sz,q⟩=>by cases q⟩)
  ·cases op<;>first|(cases j;done)|(simp only[gc,dq,k,Option.map];exact⟨_,rfl,fun _=>rfl⟩)
 split at h
 ·simp only[RD]at r;obtain⟨q,f,_⟩:=key (v:=v) (by rcases r with rfl|⟨a,z,sz,rfl⟩;exact .inl rfl;exact .inr ⟨_,_,_,_,_,rfl⟩);exact⟨_,_,h,f,by simp only[RD];exact⟨q,rfl⟩⟩
 ·rename_i sz l _;simp only[RD]at r;cases l with
  |nil =>obtain⟨q,f,_⟩:=key (v:=v) (by rcases r with⟨_,rfl⟩|⟨_,a,z,sz,rfl⟩|⟨a,z,cap,rfl,_⟩;exact .inl rfl;exact .inr ⟨_,_,_,_,_,rfl⟩;exact .inr ⟨_,_,_,_,_,rfl⟩);exact⟨_,_,h,f,by simp only[RD];exact⟨q,rfl⟩⟩
  |cons e l =>
   rcases r with⟨q,_⟩|⟨q,_⟩|⟨a,z,cap,rfl,_⟩
   ·cases q
   ·cases q
   ·obtain⟨q,f,A⟩:=key (v:=.slice a z (e::l).length cap sz) (.inr ⟨_,_,_,_,_,rfl⟩);refine⟨_,_,h,f,?_⟩;rw[A ⟨_,_,_,_,_,rfl⟩];show RD _ _ _;simp only[RD]
 ·cases h
theorem EA.set{x:Operand}{q:Bool}{c:Operand}(hc:eval tv c=some (.bool q))(h:EA g LO t tv x):EA g LO (Me t c q) tv x:=by
 intro y hy;cases x with
 |tmp j =>
  cases c with
  |tmp i =>
   simp only[jx,Me]at hy;by_cases a:i=j
   ·subst a;rw[T.get_set_same]at hy;cases hy;exact⟨_,hc,by show RD _ _ _;simp only[RD]⟩
   ·rw[T.get_setN,aeD a]at hy;exact h y hy
  |_=>exact h y hy
 |_=>exact h y hy
theorem ss(o:Op){esc:Bool}{H:DH}{κ:T LD->CN->au}(hk:aP E.E.P o<=1)(M:(∀ ty x lo hi mx,o≠.slice ty x lo hi mx)\/H=[])(ho:∀ x∈o.operands.toList,EA g LO t tv x)(F:Ok g)(hl:LRw g L LO)(N:hQ H g)(e:oE o E esc t L H κ=some out) :
 ∃ t' d v,κ t' (.val d L H)=some out/\dH o E.E tv g.s=some (.val v g.s)/\RS g LO d v/\Rf t t' tv:=by
 have fin:∀ {d:D} {v:V} {r:Option V},κ t (.val (.g d) L H)=some out->r=some v->RD g d v->∃ t' d v,κ t' (.val d L H)=some out/\bM g.s r=some (.val v g.s)/\RS g LO d v/\Rf t t' tv:=fun h l j=>⟨t,_,_,h,by rw[l];rfl,j,.refl t tv⟩;cases o with
 |move x =>obtain⟨d,v,h,_,l,j⟩:=mS e (ho x (by simp[Op.operands]));exact⟨t,d,v,h,by simp only[dH,l];rfl,j,.refl t tv⟩
 |assign x =>obtain⟨d,v,h,_,l,j⟩:=mS e (ho x (by simp[Op.operands]));exact⟨t,d,v,h,by simp only[dH,l];rfl,j,.refl t tv⟩
 |pick c x y =>
  simp only[oE,XO,rV]at e;obtain⟨d,v,h,_,l,j⟩:=bI e (ho c (by simp[Op.operands]));obtain⟨q,rfl,u⟩:=WV h;simp only[RD]at j;subst j;cases q with
  |true =>obtain⟨G,v',m,_,n,p⟩:=mS (x:=x) u ((ho x (by simp[Op.operands])).set l);exact⟨_,G,v',m,by simp only[dH,nc,l,ge,n];rfl,p,yi l⟩
  |false =>obtain⟨G,v',m,_,n,p⟩:=mS (x:=y) u ((ho y (by simp[Op.operands])).set l);exact⟨_,G,v',m,by simp only[dH,nc,l,TD,n];rfl,p,yi l⟩
 |build ty parts =>simp only[oE]at e;obtain⟨d,v,h,l,j⟩:=Pr (LO:=LO) (tv:=tv) (g:=g) e (fun x B=>ho x.2 (by simp only[Op.operands,ajt];exact⟨x,B,rfl⟩));exact fin h l j
 |load ty x =>obtain⟨d,v,h,_,l,j⟩:=mS e (ho x (by simp[Op.operands]));obtain⟨G,v',m,n,p⟩:=HP h N F hl j;exact⟨t,_,v',m,by simp only[dH,l];exact n,p,.refl t tv⟩
 |nilCheck x =>obtain⟨d,v,h,_,l,j⟩:=mS e (ho x (by simp[Op.operands]));obtain⟨m,n⟩:=WK h j;exact⟨t,d,v,m,by simp only[dH,l,n];rfl,j,.refl t tv⟩
 |binOp op ty x y yT =>
  obtain⟨a,v,h,_,l,j⟩:=bI e (ho x (by simp[Op.operands]));obtain⟨c,w,u,_,z,A⟩:=bI h (ho y (by simp[Op.operands]));cases O:uB y with
  |true =>
   rw[O,ge]at u;split at u
   ·rename_i Q;obtain⟨d,v',m,n,p⟩:=Vo (x:=x) u Q j O z g.s;exact fin m (by rw[l,z];exact n) p
   ·cases u
  |false =>
  rw[O,TD]at u;obtain⟨d,v',m,n,p⟩:=WX u j A g.s;exact fin m (by rw[l,z];exact n) p
 |unOp op ty x =>obtain⟨a,v,h,_,l,j⟩:=bI e (ho x (by simp[Op.operands]));obtain⟨d,v',m,n,p⟩:=YH h j;exact fin m (by rw[l];exact n) p
 |convert src dst x =>obtain⟨a,v,h,_,l,j⟩:=bI e (ho x (by simp[Op.operands]));obtain⟨d,v',m,n,p⟩:=Tp h j g.s;exact⟨t,_,v',m,by simp only[dH,l,gY,n];rfl,p,.refl t tv⟩
 |makeInterface ty x =>
  obtain⟨a,v,h,_,l,j⟩:=bI e (ho x (by simp[Op.operands]));split at h
  ·cases h
  ·rename_i R Q;refine fin (v:=.iface ty v) h ?_ (by simp only[RD];exact⟨v,rfl,j⟩);rw[l];unfold pO;rw[Q];split
   ·rename_i q;exact(R _ (aiJ q)).elim
   ·rfl
   ·rename_i q;cases q
  ·cases h
 |makeFunc fn first cap =>
  simp only[oE]at e;split at e
  ·obtain⟨ds,vs,h,l,j⟩:=kg e (fun x B=>ho x (by simp[Op.operands]at B ⊢;exact .inl B));obtain⟨es,ws,u,z,A⟩:=kg h (fun x B=>ho x (by simp[Op.operands]at B ⊢;exact .inr B));refine fin (v:=.func (.func _) vs ws) u ?_ (by simp only[RD];exact⟨vs,ws,rfl,j,A⟩);simp only[tg,l,z,Fq]
  ·cases e
 |fieldAddr ty x f =>obtain⟨d,v,h,_,l,j⟩:=mS e (ho x (by simp[Op.operands]));obtain⟨G,v',m,n,p⟩:=OX h j;exact⟨t,G,v',m,by simp only[dH,l,n];rfl,p,.refl t tv⟩
 |field ty x f =>obtain⟨a,v,h,_,l,j⟩:=bI e (ho x (by simp[Op.operands]));obtain⟨d,v',m,n,p⟩:=OW h j;exact fin m (by rw[l];exact n) p
 |indexAddr ty x i =>obtain⟨a,v,h,_,l,j⟩:=bI e (ho x (by simp[Op.operands]));obtain⟨c,w,u,_,z,A⟩:=bI h (ho i (by simp[Op.operands]));obtain⟨d,v',m,n,p⟩:=OM u j A;exact fin m (by rw[l,z];exact n) p
 |index ty x i =>obtain⟨a,v,h,_,l,j⟩:=bI e (ho x (by simp[Op.operands]));obtain⟨c,w,u,_,z,A⟩:=bI h (ho i (by simp[Op.operands]));obtain⟨d,v',m,n,p⟩:=OL u j A;exact fin m (by rw[l,z];exact n) p
 |lookup ty x k ok =>obtain⟨a,v,h,_,l,j⟩:=bI e (ho x (by simp[Op.operands]));obtain⟨c,w,u,_,z,A⟩:=bI h (ho k (by simp[Op.operands]));obtain⟨d,v',m,n,p⟩:=RP u N F j A;exact fin m (by rw[l,z];exact n) p
 |typeAssert x xT ty ok =>obtain⟨a,v,h,_,l,j⟩:=bI e (ho x (by simp[Op.operands]));obtain⟨d,v',m,n,p⟩:=Lo h j;exact fin m (by rw[l];exact n) p
 |extract x i =>obtain⟨a,v,h,_,l,j⟩:=bI e (ho x (by simp[Op.operands]));obtain⟨d,v',m,n,p⟩:=Wy h j;exact fin m (by rw[l];exact n) p
 |slice ty x lo hi mx =>
  rcases M with M|rfl
  ·exact(M _ _ _ _ _ rfl).elim
  obtain⟨d,v,h,_,l,j⟩:=bI e (ho x (by simp[Op.operands]));obtain⟨d1,v1,u,z,A⟩:=pN h (fun y hy=>ho y (by subst hy;simp[Op.operands]));obtain⟨d2,v2,U,W,X⟩:=pN u (fun y hy=>ho y (by subst hy;simp[Op.operands]));obtain⟨d3,v3,Y,Z,i3⟩:=pN U (fun y hy=>ho y (by subst hy;simp[Op.operands]));obtain⟨G,v',m,n,p⟩:=JO Y j A X i3;exact fin m (by rw[l,z,W,Z];exact n) p
 |call c =>
  simp only[oE]at e;obtain⟨ds,vs,h,l,j⟩:=kg e (fun x B=>ho x (by simp[Op.operands,Call.operands]at B ⊢;exact .inr B));simp only[dH,l,iA];split at h
  ·rename_i bi hc;rw[hc];simp only[aP,hc]at hk;simp only;cases bi<;>first|(simp at hk;done)|skip
   case len =>
    simp only[nq]at h;simp only[jy];split at h
    ·rename_i a ha;split at h
     ·rename_i x;simp only[RL]at j;obtain⟨v,vs',rfl,m,rfl⟩:=j;obtain⟨d,v',I,J,K⟩:=VF h N F m;rw[ha];exact fin I J K
     ·cases h
    ·cases h
   case max =>
    simp only[nq]at h;simp only[jy];split at h
    ·simp only[RL]at j;obtain⟨v,vs',rfl,m,n⟩:=j;obtain⟨d,v',I,J,K⟩:=zR h m n;exact fin I J K
    ·cases h
   case min =>
    simp only[nq]at h;simp only[jy];split at h
    ·simp only[RL]at j;obtain⟨v,vs',rfl,m,n⟩:=j;obtain⟨d,v',I,J,K⟩:=zR h m n;exact fin I J K
    ·cases h
   case cap=>cases h
  ·rename_i f hc;simp[aP,hc]at hk
  ·cases h
 |_=>first|(cases e;done)|(simp[aP]at hk;done)
def OpS(E:dL)(b:Nat)(P0:List Nat)(g:Gh)(t:T LD)(tv:T V)(L:LS)(LO:List Nat)(x:CN)(nx:Nx):Prop:=match x with
 |.val d L' H'=>∃ v s',nx=.val v s'/\xS b P0 g t L tv LO L' H' s' fun g' LO'=>RS g' LO' d v
 |.skip L' H'=>∃ s',nx=.skip s'/\xS b P0 g t L tv LO L' H' s' fun _ _=>True
 |.enter f args L' H'=>∃ vs,nx=.enter f vs g.s/\L'=L/\H'=g.H/\RL g args vs/\aW E f=true
 |.defer df L' H'=>∃ c a,nx=.defer (.call (.func df.fn) c a) g.s/\L'=L/\H'=g.H/\RL g df.captured c/\RL g df.args a/\aW E df.fn=true
 |.recover L' H'=>nx=.recover g.s/\L'=L/\H'=g.H
 |.panic d L' H'=>∃ v,nx=.panic v g.s/\L'=L/\H'=g.H/\RD g d v
 |.round o args L' H'=>∃ vs l v,nx=.round l vs g.s/\L'=L/\H'=g.H/\RL g args vs/\g.O[o]? = some (some (l,v))
theorem FI.rf(h:FI b P0 g t L tv LO){t':T LD}(r:Rf t t' tv):FI b P0 g t' L tv LO:=⟨h.ok,r.rt h.slots,h.own,h.pv,h.low,h.nd,h.bl⟩
theorem CM.ops(h:CM g LO t tv)(l:List Operand):∀ x∈l,EA g LO t tv x:=fun x _=>h.op x
theorem Kc(o:Op){esc:Bool}{κ:T LD->CN->au}(h:FI b P0 g t L tv LO)(e:oE o E esc t L g.H κ=some out) :
 ∃ t' x nx,κ t' x=some out/\dH o E.E tv g.s=some nx/\Rf t t' tv/\OpS E.E b P0 g t tv L LO x nx:=by
 have rd:aP E.E.P o<=1->(∀ ty x lo hi mx,o≠.slice ty x lo hi mx)->∃ t' x nx,κ t' x=some out/\dH o E.E tv g.s=some nx/\Rf t t' tv/\OpS E.E b P0 g t tv L LO x nx:=fun hk hs=>by obtain⟨t',d,v,p,A,u,G⟩:=ss o hk (.inl hs) (h.slots.ops _) h.ok h.own.2 (hQ.refl g) e;exact⟨t',_,_,p,A,G,v,g.s,rfl,xS.same h u⟩
 cases o with
 |alloc elem =>
  simp only[oE]at e;split at e
  ·rename_i z hz;obtain⟨zv,p,_,u,G⟩:=jO (g:=g) hz;obtain⟨x,L',H',r,B⟩:=MG h e u G elem;exact⟨t,_,_,r,by simp only[dH,jK,p,qt,bz,bw],.refl t tv,_,_,rfl,B⟩
  ·cases e
 |box elem x =>
  simp only[oE]at e;split at e
  ·obtain⟨d,v,p,_,A,u⟩:=bI e (h.slots.op x);obtain⟨cs,G,I,J,_⟩:=np p u;obtain⟨x,L',H',r,B⟩:=MG h G I J elem;exact⟨t,_,_,r,by simp only[dH,tj,A,qt,bz,bw],.refl t tv,_,_,rfl,B⟩
  ·cases e
 |buildSlice ty len parts =>simp only[oE]at e;obtain⟨d,v,s',p,A,u⟩:=BF h e (fun x _=>h.slots.op x.2);exact⟨t,_,_,p,by simp only[dH];exact A,.refl t tv,v,s',rfl,u⟩
 |store ty x y =>obtain⟨d,v,p,_,A,u⟩:=mS e (h.slots.op x);obtain⟨c,w,G,_,I,J⟩:=bI p (h.slots.op y);obtain⟨s',L',H',r,B,F⟩:=Og h G u J;exact⟨t,_,_,r,by simp only[dH,A,I];exact B,.refl t tv,s',rfl,F⟩
 |makeMap ty n =>
  cases n with
  |some _=>cases e
  |none=>exact⟨t,_,_,e,rfl,.refl t tv,_,_,rfl,OB h⟩
 |makeSlice ty l c =>
  simp only[oE]at e;split at e
  ·rename_i el M;split at e
   ·rename_i i;split at e
    ·rename_i j;obtain⟨hb,e1⟩:=aQ e;clear e;have hb:=abr hb;subst hb;obtain⟨d,v,p,_,A,u⟩:=bI e1 (h.slots.op _);split at p
     ·simp only[RD]at u;subst u;obtain⟨m,hm,G⟩:=pH p;subst hm;obtain⟨l,sz,v,s',r,B,F⟩:=Vt h M G;exact⟨t,_,_,r,by simp only[dH,A,et,qu];exact B,.refl t tv,v,s',rfl,F⟩
     ·cases p
    ·cases e
   ·cases e
  ·cases e
 |slice ty x lo hi mx =>obtain⟨d,v,p,_,A,u⟩:=bI e (h.slots.op x);obtain⟨d1,U,G,I,J⟩:=pN p (fun y _=>h.slots.op y);obtain⟨d2,W,N,O,Q⟩:=pN G (fun y _=>h.slots.op y);obtain⟨d3,v3,i1,i2,i3⟩:=pN N (fun y _=>h.slots.op y);obtain⟨d',H',v',r,B,F⟩:=JN h i1 u J Q i3;exact⟨t,_,_,r,by simp only[dH,A,I,O,i2,yz,B];rfl,.refl t tv,v',g.s,rfl,F⟩
 |mapUpdate ty m k x =>obtain⟨d1,U,p,_,A,u⟩:=bI e (h.slots.op m);obtain⟨d2,W,G,_,I,J⟩:=bI p (h.slots.op k);obtain⟨d3,v3,N,_,O,Q⟩:=bI G (h.slots.op x);obtain⟨s',H',r,B,F⟩:=HK h N u J Q;exact⟨t,_,_,r,by simp only[dH,A,I,O];exact B,.refl t tv,s',rfl,F⟩
 |insert ty m k x =>obtain⟨d1,U,p,_,A,u⟩:=bI e (h.slots.op m);obtain⟨d2,W,G,_,I,J⟩:=bI p (h.slots.op k);obtain⟨d3,v3,N,_,O,Q⟩:=bI G (h.slots.op x);obtain⟨s',H',r,B,F⟩:=HK h N u J Q;exact⟨t,_,_,r,by simp only[dH,A,I,O];exact B,.refl t tv,s',rfl,F⟩
 |call c =>
  have e0:=e;simp only[oE]at e;obtain⟨ds,vs,p,A,u⟩:=kg e (fun x _=>h.slots.op x);split at p
  ·rename_i bi hc;have pure:(bi=.len\/bi=.max\/bi=.min)->∃ t' x nx,κ t' x=some out/\dH (.call c) E.E tv g.s=some nx/\Rf t t' tv/\OpS E.E b P0 g t tv L LO x nx:=fun hb=>by refine rd ?_ (fun _ _ _ _ _ q=>by cases q);rcases hb with rfl|rfl|rfl<;>simp[aP,hc]
   cases bi<;>first|(cases p;done)|exact pure (.inl rfl)|exact pure (.inr (.inl rfl))|exact pure (.inr (.inr rfl))|skip
   case append =>
    simp only[nq]at p;split at p
    ·rename_i a ha;split at p
     ·rename_i c2 hb;split at p
      ·simp only[RL]at u;obtain⟨U,vs1,rfl,r,W,vs2,rfl,B,rfl⟩:=u;obtain⟨d,H',v,s',K,R,j3⟩:=Lp h p r B;exact⟨t,_,_,K,by simp only[dH,A,iA,hc,jy,ha,hb,R,ji],.refl t tv,v,s',rfl,j3⟩
      ·cases p
     ·cases p
    ·cases p
   case recover=>exact⟨t,_,_,p,by simp only[dH,A,iA,hc,jy],.refl t tv,rfl,rfl,rfl⟩
   case panic =>
    simp only[nq]at p;split at p
    ·simp only[RL,RD]at u;obtain⟨U,vs1,rfl,⟨v',rfl,r⟩,rfl⟩:=u;exact⟨t,_,.panic (.iface _ v') g.s,p,by simp only[dH,A,iA,hc,jy];rfl,.refl t tv,_,rfl,rfl,rfl,by simp only[RD];exact⟨v',rfl,r⟩⟩
    ·cases p
  ·rename_i f hc;obtain⟨d,v,r,_,B,F⟩:=bI p (h.slots.op f);split at r
   ·unfold Lx at r;split at r
    ·simp only[RD]at F;obtain⟨l,v',K,rfl⟩:=F;exact⟨t,_,.round l vs g.s,r,by simp only[dH,A,iA,hc,B,NK,air],.refl t tv,vs,l,v',rfl,rfl,rfl,u,K⟩
    ·cases r
   unfold Gw at r;split at r
   ·rename_i gf first cap
    obtain⟨hb,r⟩:=aQ r;simp only[RD]at F;obtain⟨X,Y,rfl,K,R⟩:=F;refine⟨t,_,_,r,?_,.refl t tv,X++(vs++Y),rfl,rfl,rfl,K.append (u.append R),hb⟩;simp only[dH,A,iA,hc,B,NK,NL];unfold aW at hb;split at hb
    ·rename_i fn hf;rw[hf];simp only;split
     ·rename_i q;rw[q]at hb;cases hb
     ·rfl
    ·cases hb
   ·cases r
  ·cases p
 |defer c =>
  simp only[oE]at e;obtain⟨ds,vs,p,A,u⟩:=kg e (fun x _=>h.slots.op x);split at p
  ·rename_i f hc;obtain⟨d,v,r,_,B,F⟩:=bI p (h.slots.op f);split at r
   ·obtain⟨hb,r⟩:=aQ r;simp only[RD]at F;obtain⟨X,Y,rfl,K,R⟩:=F;exact⟨t,_,_,r,by simp only[dH,A,pS,hc,B,Gi],.refl t tv,Y,X++vs,rfl,rfl,rfl,R,K.append u,hb⟩
   ·cases r
  ·cases p
 |panic x =>
  simp only[oE]at e;obtain⟨d,v,r,_,B,F⟩:=bI e (h.slots.op x);split at r
  ·simp only[RD]at F;obtain⟨v',rfl,K⟩:=F;exact⟨t,_,.panic (.iface _ v') g.s,r,by simp only[dH,B,yA];rfl,.refl t tv,_,rfl,rfl,rfl,by simp only[RD];exact⟨v',rfl,K⟩⟩
  ·cases r
 |convert Z dst x =>
  refine rd ?_ (fun _ _ _ _ _ q=>by cases q);obtain⟨a,v,p,_,A,u⟩:=bI e (h.slots.op x);unfold qI at p;revert p;cases (E.E.P.underlying Z).isNone with
  |true=>intro p;cases p
  |false =>
   intro p;simp only[TD]at p;split at p
   ·rename_i M;simp[aP,M]
   ·rename_i M;simp[aP,M]
   ·cases p
 |binOp op ty x y yT=>exact rd (by simp only[aP];cases oP op<;>simp) (fun _ _ _ _ _ q=>by cases q)
 |_=>first
  |(cases e;done)
  |exact rd (by simp[aP]) (fun _ _ _ _ _ q=>by cases q)
end Go.AI
namespace Go.AI
variable[fY]
variable{b:Nat}{P0:List Nat}{g g':Gh}{LO:List Nat}{t:T LD}{L:LS}{tv:T V}{P:Program}{out:js}{E:dl}
theorem gP{s s':S}{r:Option V}{v:V}(h:bM s r=some (.val v s)):bM s' r=some (.val v s'):=by
 unfold bM at h ⊢;split at h
 ·cases h;rfl
 ·cases h
theorem qY{ty:TypeId}{cs:List D}{c:Nat}{κ:D->au}(h:cR P ty cs c κ=some out){s s':S}{a:Ad}{vs:List V}(f:loadCells s a cs.length=some vs)(l:loadCells s' a cs.length=some vs):loadVar P s ty (cM a c)=loadVar P s' ty (cM a c):=by
 unfold cR at h;unfold loadVar;split at h
 ·rename_i i;split at h
  ·rename_i n p;obtain⟨e,h⟩:=aQ h;obtain⟨_,h4⟩:=im h;have e:=aeb e;rw[i,p];simp only[Option.bind];rw[iF f (by omega),iF l (by omega)]
  ·cases h
 ·rename_i i;obtain⟨d,m,_⟩:=jL h;have j:c<cs.length:=by
   rcases aiA c cs.length with q|q
   ·exact q
   ·rw[aeF q]at m;cases m
  have k:c<vs.length:=by rw[Cu f];exact j
  have o:vs[c]? = some vs[c]:=abF k;rw[i];simp only;rw[mO f o,mO l o]
 ·cases h
def xy(H:DH):Prop:=∀(o:Nat) b,H[o]? = some b->b=.dead\/∃ st cs,b=.cells st cs
theorem xy.nil:xy []:=fun o b h=>by simp at h
theorem Zs{H:DH}(h:xy H){o n:Nat}{k:Nat->Bool->Bool->List (List D)->au}:ew H o n k≠some out:=fun e=>by
 unfold ew at e;split at e
 ·rename_i sz st cap l hc;rcases h o _ hc with q|⟨_,_,q⟩<;>cases q
 ·cases e
theorem Rx{H:DH}(h:xy H){o:Nat}{k:List (D×D)->au}:qX H o k≠some out:=fun e=>by
 unfold qX at e;split at e
 ·rename_i es hc;rcases h o _ hc with q|⟨_,_,q⟩<;>cases q
 ·cases e
theorem Bk{d:Nat}{ty:TypeId}{x y:D}{κ:Bool->au}{v w:V}(h:IC P d ty x y κ=some out)(e:RD g x v)(f:RD g y w):∃ q,∀ okf,dq P okf d ty v w=some q:=by
 obtain⟨q,i⟩:=GE P d ty x y κ out h;refine⟨q,fun okf=>?_⟩;obtain⟨a,c,j⟩:=FW (κ:=fun p=>bif p==q then some out else none) okf (by rw[i];simp;rfl) e f;have:a=q:=by
  cases hp:(a==q)with
  |true=>exact akj hp
  |false=>simp only[hp,TD]at c;cases c
 rw[<- this];exact j
theorem abi{op:BinOp}{ty:TypeId}{x y:Operand}{c d:D}{κ:D->au}(h:aw P op ty (fF x||fF y) c d κ=some out){v w:V}(a:RD g c v)(e:RD g d w){s s':S}:gk P s op ty x y (some v) (some w)=gk P s' op ty x y (some v) (some w):=by
 simp only[gk];congr 1;unfold gc;split
 ·rfl
 ·rfl
 ·rename_i n1 n2;unfold aw at h;split at h
  ·simp only[RD]at a e;subst a e;exact(n1 _ _ _ _ rfl rfl).elim
  ·simp only[RD]at a e;obtain⟨rfl,_⟩:=a;obtain⟨rfl,_⟩:=e;exact(n2 _ _ rfl rfl).elim
  ·obtain⟨_,h⟩:=aQ h;split at h
   ·obtain⟨q,f⟩:=Bk h a e;simp only[f]
   ·obtain⟨q,f⟩:=Bk h a e;simp only[f]
   ·cases h
theorem Zu{op:BinOp}{ty el:TypeId}{x y:Operand}{d:D}{κ:D->au}(h:Oy op d κ=some out)(a:P.underlying ty=some (.slice el)){v w:V}(r:RD g d v)(hy:uB y=true)(hw:eval tv y=some w){s s':S}:gk P s op ty x y (some v) (some w)=gk P s' op ty x y (some v) (some w):=by
 simp only[gk];congr 1;unfold gc;split
 ·rfl
 ·rfl
 ·simp only[dq,a]
theorem WI{a dst:TypeId}{x:D}{κ:D->au}(h:qI P a dst x κ=some out){v:V}(r:RD g x v){s s':S}{y:V}(hy:iU P s a dst v=some (y,s)):iU P s' a dst v=some (y,s'):=by
 unfold qI at h;cases c:P.underlying a with
 |none=>rw[c]at h;cases h
 |some ds =>
 rw[c]at h;simp only[Option.isNone_some,TD]at h;split at h
 ·rename_i k d;split at h
  ·simp only[RD]at r;subst r;simp only[iU,c,d]at hy ⊢;cases hy;rfl
  ·cases h
 ·rename_i d;split at h
  ·simp only[RD]at r;obtain⟨rfl,_⟩:=r;simp only[iU,c,d,CV]at hy ⊢;cases hy;rfl
  ·cases h
 ·cases h
theorem VD{ty:TypeId}{x:LD}{H:DH}{κ:D->au}(h:qx P ty x L H κ=some out)(B:hQ H g)(hc:xy H)(n:Ok g)(hl:LRw g L LO){v:V}(r:RS g LO x v)(hm:qh g g')
 (hp:∀(k:Nat) y f,L[k]? = some y->LO[k]? = some f->y.2≠[]->g'.s.get f=g.s.get f) (p:∀(o:Nat) st cs f v,H[o]? = some (.cells st cs)->g.O[o]? = some (some (f,v))->g'.s.get f=g.s.get f) :
 ∀ w,jn P g.s ty (some v)=some (.val w g.s)->jn P g'.s ty (some v)=some (.val w g'.s):=by
 have key:∀ {a:Ad},v=.ptr a->loadVar P g.s ty a=loadVar P g'.s ty a->∀ w,jn P g.s ty (some v)=some (.val w g.s)->jn P g'.s ty (some v)=some (.val w g'.s):=fun {a} F G w z=>by subst F;rw[ki]at z ⊢;rw[<- G];exact gP z
 cases x with
 |u=>cases h
 |lp k c =>
  simp only[qx]at h;obtain⟨f,i,rfl⟩:=r;split at h
  ·rename_i st cs hk;by_cases j:cs=[]
   ·subst j;exfalso;unfold cR at h;split at h
    ·split at h
     ·obtain⟨I,h⟩:=aQ h;obtain⟨_,q⟩:=im h;have:=aeb I;simp at q;omega
     ·cases h
    ·obtain⟨d,q,_⟩:=jL h;simp at q
    ·cases h
   ·obtain⟨_,e|⟨el,vs,e,l,m⟩⟩:=hl k _ f hk i
    ·exact(j e).elim
    ·have A:=hp k _ f hk i j;refine key (a:=cM ⟨f,0,0⟩ c) (by simp[cM]) (qY (vs:=vs) h ?_ ?_)
     ·rw[<- l.len];exact KC e
     ·rw[<- l.len];exact KC (by rw[A];exact e)
  ·cases h
 |g d =>
  have r:RD g d v:=r;simp only[qx]at h;unfold cH at h;split at h
  ·simp only[RD]at r;obtain⟨a,vs,rfl,i,e,l,m⟩:=r;exact key rfl (qY h e (hm.cells _ _ _ i e))
  ·rename_i o c _;simp only[RD]at r;obtain⟨f,ver,i,rfl⟩:=r;obtain⟨st,cs,f',el,vs,h,h0,_,e,l,m,A⟩:=Fj h B n;rw[i]at e;cases e;refine key (a:=cM ⟨f,0,0⟩ c) (by simp[cM]) (qY (vs:=vs) h ?_ ?_)
   ·rw[<- m.len];exact KC l
   ·rw[<- m.len];exact KC (by rw[p _ st cs f 0 h0 i];exact l)
  ·exact(Zs hc h).elim
  ·cases h
theorem Dm(o:Op){esc:Bool}{H:DH}{κ:T LD->CN->au}(hk:aP E.E.P o<=1)(ho:∀ x∈o.operands.toList,EA g LO t tv x)(A:Ok g)(hl:LRw g L LO)(K:hQ H g)(hc:xy H)(e:oE o E esc t L H κ=some out)(hm:qh g g')
 (hp:∀(k:Nat) y f,L[k]? = some y->LO[k]? = some f->y.2≠[]->g'.s.get f=g.s.get f) (B:∀(o:Nat) st cs f v,H[o]? = some (.cells st cs)->g.O[o]? = some (some (f,v))->g'.s.get f=g.s.get f) :
 ∀ w,dH o E.E tv g.s=some (.val w g.s)->dH o E.E tv g'.s=some (.val w g'.s):=by
 intro w h;cases o with
 |load ty x =>obtain⟨d,v,i,_,m,l⟩:=mS e (ho x (by simp[Op.operands]));simp only[dH,m]at h ⊢;exact VD i K hc A hl l hm hp B w h
 |binOp op ty x y yT =>
  obtain⟨a,v,i,_,m,l⟩:=bI e (ho x (by simp[Op.operands]));obtain⟨c,w',j,_,z,I⟩:=bI i (ho y (by simp[Op.operands]));simp only[dH,m,z]at h ⊢;cases F:uB y with
  |true =>
   rw[F,ge]at j;split at j
   ·rename_i q;have M:gk E.E.P g.s op ty x y (some v) (some w')=gk E.E.P g'.s op ty x y (some v) (some w'):=Zu j q l F z;rw[<- M];exact gP h
   ·cases j
  |false =>
  rw[F,TD]at j;rw[abi j l I (s:=g'.s) (s':=g.s)];exact gP h
 |convert u dst x =>
  obtain⟨a,v,i,_,m,l⟩:=bI e (ho x (by simp[Op.operands]));simp only[dH,m,gY]at h ⊢;have:iU E.E.P g.s u dst v=some (w,g.s):=by
   revert h;cases iU E.E.P g.s u dst v with
   |none=>intro h;cases h
   |some p=>intro h;obtain⟨p1,p2⟩:=p;simp only[ji,abB,Nx.val.injEq]at h;rw[h.1,h.2]
  rw[WI i l this];rfl
 |lookup ty x k ok =>
  obtain⟨a,v,i,_,m,l⟩:=bI e (ho x (by simp[Op.operands]));obtain⟨c,w',j,_,z,I⟩:=bI i (ho k (by simp[Op.operands]));simp only[dH,m,z]at h ⊢;unfold nN at j;split at j
  ·rename_i td el G;obtain⟨kt,q,_,_,hsk⟩:=oK G;split at j
   ·obtain⟨_,j⟩:=aQ j;exact(Rx hc j).elim
   ·simp only[RD]at l;subst l;simp only[kh,q,Bm,cD]at h ⊢;exact gP h
   ·cases j
  ·cases j
 |call c =>
  simp only[oE]at e;obtain⟨ds,vs,i,m,l⟩:=kg e (fun x J=>ho x (by simp[Op.operands,Call.operands]at J ⊢;exact .inr J));simp only[dH,m,iA]at h ⊢;split at i
  ·rename_i bi n;rw[n]at h ⊢;simp only[aP,n]at hk;simp only at h ⊢;cases bi<;>first|(simp at hk;done)|skip
   case len =>
    simp only[nq]at i;simp only[jy]at h ⊢;split at i
    ·rename_i a N;split at i
     ·simp only[RL]at l;obtain⟨v,vs',rfl,Q,rfl⟩:=l;rw[N]at h ⊢;simp only at h ⊢;have R:lQ E.E.P a g.s v=lQ E.E.P a g'.s v:=by
       unfold lQ;split<;>first|rfl|skip
       rename_i r _ q;exfalso;unfold aY at i;rw[q]at i;simp only at i;have U:=Q.tag;split at i
       ·exact Rx hc i
       ·cases U
       ·cases i
      rw[<- R];exact gP h
     ·cases i
    ·cases i
   case max=>exact gP h
   case min=>exact gP h
   case cap=>cases i
  ·rename_i f n;simp[aP,n]at hk
  ·cases i
 |pick c x y =>
  simp only[dH,nc]at h ⊢;split at h
  ·exact gP h
  ·cases h
 |_=>first|(cases e;done)|(simp[aP]at hk;done)|(simp only[dH]at h ⊢;exact gP h)
end Go.AI
