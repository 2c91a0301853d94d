/- Deep values: an evaluator over what rows hold, and that it is sound: part 3. No conditions beyond those of the row. -/
import Derived.Test.YtpghiabjaglpgaaGreatDoorD2
set_option linter.all false
noncomputable section
namespace Go.AI
variable[fc]
variable{b:Nat}{P0:List Nat}{g:Gh}{LO:List Nat}{t:T LD}{L:LS}{tv:T V}{P:Program}{out:il}
def LI(g:Gh)(L:LS)(LO:List Nat)(g':Gh)(L':LS):Prop:=∀(k:Nat) st cs f,L[k]? = some (st,cs)->LO[k]? = some f->∃ st' cs',L'[k]? = some (st',cs')/\st<=st'/\(st=st'->cs'=cs/\g'.s.get f=g.s.get f)
structure Dr(g:Gh)(L:LS)(LO:List Nat)(g':Gh)(L':LS)(LO':List Nat):Prop where
 pre:LO <+: LO'
 pvn:LI g L LO g' L'
theorem LI.of{L:LS}{g g':Gh}{LO:List Nat}(hs:∀ f∈LO,g'.s.get f=g.s.get f):LI g L LO g' L:=fun _ st cs f h1 h2=>⟨st,cs,h1,Nat.le_refl _,fun _=>⟨rfl,hs f (List.mem_of_getElem? h2)⟩⟩
theorem LI.trans{x y z:Gh}{L M N:LS}{LO LO':List Nat}(h:LI x L LO y M)(hp:LO <+: LO')(k:LI y M LO' z N):LI x L LO z N:=fun i st cs f h1 h2=>by
 obtain⟨st',cs',h3,h4,h5⟩:=h i st cs f h1 h2
 obtain⟨q,rfl⟩:=hp
 obtain⟨s2,c2,k1,k2,k3⟩:=k i st' cs' f h3 (eG q h2)
 refine⟨s2,c2,k1,Nat.le_trans h4 k2,fun e=>?_⟩
 obtain⟨j1,j2⟩:=h5 (by omega)
 obtain⟨j3,j4⟩:=k3 (by omega)
 exact⟨j3.trans j1,j4.trans j2⟩
theorem Dr.refl(g:Gh)(L:LS)(LO:List Nat):Dr g L LO g L LO:=⟨List.prefix_rfl,LI.of fun _ _=>rfl⟩
theorem Dr.trans{x y z:Gh}{L M N:LS}{A B C:List Nat}(h:Dr x L A y M B)(k:Dr y M B z N C):Dr x L A z N C:=⟨h.pre.trans k.pre,h.pvn.trans h.pre k.pvn⟩
theorem Dr.ps{g g':Gh}{L:LS}{LO:List Nat}(hg:g'.s=g.s):Dr g L LO g' L LO:=⟨List.prefix_rfl,LI.of fun _ _=>by rw[hg]⟩
theorem Dr.al(h:FI b P0 g t L tv LO){g':Gh}(B:dB)(hg:g'.s=g.s.alloc B):Dr g L LO g' L LO:=⟨List.prefix_rfl,LI.of fun f hf=>by rw[hg];exact aH (h.lo_lt hf)⟩
theorem Dr.op(h:FI b P0 g t L tv LO){g':Gh}{o f ver:Nat}{B:dB}(ho:g.O[o]? = some (some (f,ver)))(hg:g'.s=g.s.put f B):Dr g L LO g' L LO:=⟨List.prefix_rfl,LI.of fun f' hf=>by rw[hg];exact cm fun e=>h.lo_out hf o ver (by rw[<- e];exact ho)⟩
theorem Dr.new(h:FI b P0 g t L tv LO){g':Gh}{B:dB}(x:Nat×List D)(f:Nat)(hg:g'.s=g.s.alloc B):Dr g L LO g' (L++[x]) (LO++[f]):=⟨List.prefix_append _ _,fun _ st cs f h1 h2=>⟨st,cs,eG _ h1,Nat.le_refl _,fun _=>⟨rfl,by rw[hg];exact aH (h.lo_lt (List.mem_of_getElem? h2))⟩⟩⟩
theorem Dr.put(h:FI b P0 g t L tv LO){g':Gh}{B:dB}{k f st:Nat}{cs0:List D}(hk:L[k]? = some (st,cs0))(hf:LO[k]? = some f)(cs:List D)(hg:g'.s=g.s.put f B):Dr g L LO g' (L.set k (st+1,cs)) LO:=⟨List.prefix_rfl,fun k' st' cs' f' h1 h2=>by
 by_cases e:k=k'
 ·subst e
  rw[hk]at h1;cases h1
  exact⟨st+1,cs,bF hk,Nat.le_succ _,fun q=>by omega⟩
 ·exact⟨st',cs',by rw[fe e];exact h1,Nat.le_refl _,fun _=>⟨rfl,by rw[hg];exact cm fun q=>e (rZ h.nd hf (by rw[q];exact h2))⟩⟩⟩
def uW(b:Nat)(P0:List Nat)(g:Gh)(t:T LD)(L:LS)(tv:T V)(LO:List Nat)(L':LS)(H':DH)(s':S)(Q:Gh->List Nat->Prop):Prop :=
 ∃ g' LO',g'.H=H'/\g'.s=s'/\FI b P0 g' t L' tv LO'/\Mv b g g'/\Dr g L LO g' L' LO'/\Q g' LO'
theorem uW.same(h:FI b P0 g t L tv LO){Q:Gh->List Nat->Prop}(q:Q g LO):uW b P0 g t L tv LO L g.H g.s Q:=⟨g,LO,rfl,rfl,h,.refl b g,.refl g L LO,q⟩
theorem IX(h:FI b P0 g t L tv LO){esc:Bool}{cs:List D}{κ:zO->ai}(e:KA esc cs L g.H κ=some out){vs:List V}(hr:RL g cs vs)(ho:aK vs)(el:TypeId) :
 ∃ x L' H',κ (.val x L' H')=some out/\uW b P0 g t L tv LO L' H' (g.s.alloc (.cells el false 1 [⟨0,0,vs⟩])) fun g' LO'=>RS g' LO' x (.ptr ⟨g.s.next,0,0⟩):=by
 unfold KA at e
 cases esc with
 |true =>
  refine⟨_,_,_,e,g.obj (.cells 0 cs) (.cells el false 1 [⟨0,0,vs⟩]),LO,rfl,rfl,?_,pm h.ok h.bl _ _,.al h _ rfl,?_⟩
  ·exact h.mkobj ⟨g.s.next,el,vs,mD h.ok _ _,qt _ _,hr.mono (wP h.ok.len _ _),ho⟩
  ·show RD _ _ _
   simp only[RD]
   exact⟨g.s.next,0,mD h.ok _ _,rfl⟩
 |false =>
  refine⟨_,_,_,e,g.prv (.cells el false 1 [⟨0,0,vs⟩]),LO++[g.s.next],rfl,rfl,h.prv hr ho,TU h.ok h.bl _,.new h _ _ rfl,?_⟩
  exact⟨g.s.next,by rw[h.own.1];exact fU _ _,rfl⟩
theorem vj:∀(l:List D) (c:Nat),lZ l c []=some l
 |[],0=>rfl
 |[],_+1=>rfl
 |_::_,0=>rfl
 |_::_,_+1=>rfl
theorem IR:∀(x r new:List D),new.length=x.length->lZ (x++r) 0 new=some (new++r)
 |[],r,[],_=>vj r 0
 |a::x,r,b::new,h=>by simp only[List.cons_append,lZ,IR x r new (by simpa using h)]
 |[],_,_::_,h=>by simp at h
 |_::_,_,[],h=>by simp at h
theorem Ef:∀(x r new:List D) (k:Nat),lZ (x++r) (x.length+k) new=(lZ r k new).map (x++·)
 |[],r,new,k=>by simp
 |a::x,r,[],k=>by rw[vj,vj];rfl
 |a::x,r,b::new,k=>by
  rw[List.cons_append,List.length_cons,show x.length+1+k=(x.length+k)+1 by omega]
  simp only[lZ,Ef x r (b::new) k]
  cases lZ r k (b::new)<;>rfl
theorem GF:∀(x r new:List D) (k:Nat) (x':List D),lZ x k new=some x'->lZ (x++r) k new=some (x'++r)
 |x,r,[],k,x',h=>by rw[vj]at h ⊢;cases h;rfl
 |a::x,r,b::new,k+1,x',h=>by
  simp only[lZ]at h
  split at h
  ·rename_i l hl;cases h;simp only[List.cons_append,lZ,GF x r (b::new) k l hl]
  ·cases h
 |a::x,r,b::new,0,x',h=>by
  simp only[lZ]at h
  split at h
  ·rename_i l hl;cases h;simp only[List.cons_append,lZ,GF x r new 0 l hl]
  ·cases h
 |[],r,b::new,k,x',h=>by cases k<;>(simp only[lZ]at h;cases h)
theorem wi{n:Nat}:∀ {l:List (List D)} {i c:Nat} {cs cs' new:List D},(∀ x∈l,x.length=n)->l[i]? = some cs->lZ cs c new=some cs'->lZ l.flatten (i*n+c) new=some (l.set i cs').flatten
 |[],i,c,cs,cs',new,_,h,_=>by simp at h
 |x::l,0,c,cs,cs',new,hn,h,e=>by
  simp at h;subst h
  simp only[List.flatten_cons,List.set_cons_zero,Nat.zero_mul,Nat.zero_add]
  exact GF x _ new c cs' e
 |x::l,i+1,c,cs,cs',new,hn,h,e=>by
  simp only[List.flatten_cons,List.set_cons_succ]
  have hx:=hn x List.mem_cons_self
  rw[show(i+1)*n+c=x.length+(i*n+c)by rw[hx,Nat.add_mul];omega,Ef,wi (fun y hy=>hn y (List.mem_cons_of_mem _ hy)) (by simpa using h) e]
  rfl
theorem Jw{n:Nat}:∀ {l:List (List D)} {i:Nat} {cs:List D},(∀ x∈l,x.length=n)->l[i]? = some cs->(l.flatten.drop (i*n)).take n=cs
 |[],i,cs,_,h=>by simp at h
 |x::l,0,cs,hn,h=>by
  simp at h;subst h
  have hx:=hn x List.mem_cons_self
  simp[List.flatten_cons,<- hx]
 |x::l,i+1,cs,hn,h=>by
  have hx:=hn x List.mem_cons_self
  rw[List.flatten_cons,show(i+1)*n=x.length+i*n by rw[hx,Nat.add_mul];omega,<- List.drop_drop,List.drop_left]
  exact Jw (fun y hy=>hn y (List.mem_cons_of_mem _ hy)) (by simpa using h)
theorem kh{n:Nat}:∀ {l:List (List D)},(∀ x∈l,x.length=n)->l.flatten.length=l.length*n
 |[],_=>by simp
 |x::l,hn=>by
  rw[List.flatten_cons,List.length_append,kh (fun y hy=>hn y (List.mem_cons_of_mem _ hy)),hn x List.mem_cons_self,List.length_cons,Nat.add_mul];omega
theorem RR.flat{a:Ad}{n:Nat}{l:List (List D)}{vs:List V}(hn:∀ x∈l,x.length=n)(hl:loadCells g.s a (l.length*n)=some vs)(hr:RL g l.flatten vs)(ho:aK vs):RR g a n l:=RR.of fun i cs hx=>by
 have hi:i<l.length:=by
  rcases Nat.lt_or_ge i l.length with q|q
  ·exact q
  ·rw[List.getElem?_eq_none q]at hx;cases hx
 have hle:i*n+n<=l.length*n:=by
  have:=Nat.mul_le_mul_right n (show i+1<=l.length from hi)
  rw[Nat.add_mul]at this;omega
 refine⟨_,hn cs (List.mem_of_getElem? hx),gE hl hle,?_,rW (rX ho _) _⟩
 have:=(hr.drop (i*n)).take n
 rwa [Jw hn hx]at this
theorem RR.lens:∀ {l:List (List D)} {a:Ad} {n:Nat},RR g a n l->∀ x∈l,x.length=n
 |[],_,_,_,x,hx=>by cases hx
 |y::l,a,n,r,x,hx=>by
  simp only[RR]at r
  rcases List.mem_cons.1 hx with rfl|hx
  ·obtain⟨⟨vs,h1,_⟩,_⟩:=r;exact h1
  ·exact RR.lens r.2 x hx
theorem zu{s:S}{a:Ad}{m n:Nat}{x y:List V}(h1:loadCells s a m=some x)(h2:loadCells s (ci a m) n=some y):loadCells s a (m+n)=some (x++y):=by
 have key:∀(u:mb),(bif Nat.ble u.lo a.c then aU m (u.cells.drop (a.c - u.lo))else none)=some x->(bif Nat.ble u.lo (a.c+m)then aU n (u.cells.drop (a.c+m - u.lo))else none)=some y->(bif Nat.ble u.lo a.c then aU (m+n) (u.cells.drop (a.c - u.lo))else none)=some (x++y):=fun u e1 e2=>by
  cases hb:Nat.ble u.lo a.c with
  |false=>rw[hb]at e1;cases e1
  |true =>
   rw[hb]at e1
   have hle:=Nat.le_of_ble_eq_true hb
   rw[show Nat.ble u.lo (a.c+m)=true from Nat.ble_eq_true_of_le (by omega)]at e2
   simp only[cond_true]at e1 e2 ⊢
   obtain⟨rfl,h3⟩:=cW e1
   obtain⟨rfl,h4⟩:=cW e2
   simp only[List.length_drop]at h3 h4
   rw[kM (by rw[List.length_drop];omega)]
   congr 1
   rw[List.take_add,List.drop_drop,show a.c - u.lo+m=a.c+m - u.lo by omega]
 unfold loadCells at h1 h2 ⊢
 simp only[ci]at h2
 split at h1
 ·rename_i hg
  rw[hg]at h2
  simp only at h2
  split at h1
  ·rename_i u hu
   rw[hu]at h2
   exact key u h1 h2
  ·cases h1
 ·rename_i hg
  rw[hg]at h2
  simp only at h2
  split at h1
  ·rename_i u hu
   rw[hu]at h2
   exact key u h1 h2
  ·cases h1
 ·cases h1
theorem RR.cells:∀ {l:List (List D)} {a:Ad} {n:Nat},RR g a n l->l≠[]->∃ vs,loadCells g.s a (l.length*n)=some vs/\RL g l.flatten vs/\aK vs
 |[],_,_,_,h=>(h rfl).elim
 |[x],a,n,r,_=>by
  simp only[RR]at r
  obtain⟨⟨vs,h1,h2,h3,h4⟩,_⟩:=r
  exact⟨vs,by simpa using h2,by simpa using h3,h4⟩
 |x::y::l,a,n,r,_=>by
  rw[RR]at r
  obtain⟨⟨vs,h1,h2,h3,h4⟩,r⟩:=r
  obtain⟨ws,k1,k2,k3⟩:=RR.cells r (by simp)
  refine⟨vs++ws,?_,?_,wm h4 k3⟩
  ·have:=zu h2 k1
   rwa [show n+(y::l).length*n=(x::y::l).length*n by simp only[List.length_cons,Nat.add_mul];omega]at this
  ·rw[List.flatten_cons];exact h3.append k2
theorem qc{n len:Nat}(hn0:0<n):∀ {parts:List (Nat×Operand)} {l:List (List D)} {κ:List (List D)->ai} {vs:List V},mo t n len parts l κ=some out->(∀ x∈parts,Bx g LO t tv x.2)->l.length=len->(∀ x∈l,x.length=n)->RL g l.flatten vs->aK vs ->
 ∃ l' vs' ws,κ l'=some out/\dP tv parts=some ws/\oQ (fun i=>some (i*n,n)) vs ws=some vs'/\l'.length=len/\(∀ x∈l',x.length=n)/\RL g l'.flatten vs'/\aK vs'
 |[],l,κ,vs,h,_,h1,h2,h3,h4=>⟨l,vs,[],h,rfl,rfl,h1,h2,h3,h4⟩
 |(i,x)::r,l,κ,vs,h,ho,h1,h2,h3,h4=>by
  simp only[mo]at h
  obtain⟨d,v,h,_,k1,k2⟩:=bd h (ho (i,x) List.mem_cons_self)
  obtain⟨hb,h⟩:=aG h
  have hi:i<l.length:=by rw[h1];exact Nat.le_of_ble_eq_true hb
  obtain⟨new,h,k3,k4,k5⟩:=lI h k2
  have hnl:new.length=n:=by rw[<- k5,k3.len]
  have hx:l[i]? = some l[i]:=List.getElem?_eq_getElem hi
  have hov:=wi (c:=0) (new:=new) h2 hx (by have:=IR l[i] [] new (by rw[hnl,h2 _ (List.getElem_mem hi)]);simpa using this)
  obtain⟨vs1,j1,j2,j3,_⟩:=nI hov h3 h4 k3 k4
  have hset:∀ y∈l.set i new,y.length=n:=fun y hy=>by
   rcases List.mem_or_eq_of_mem_set hy with hy|rfl
   ·exact h2 y hy
   ·exact hnl
  obtain⟨l',vs',ws,i1,i2,i3,i4⟩:=qc hn0 h (fun y hy=>ho y (List.mem_cons_of_mem _ hy)) (by rw[List.length_set];exact h1) hset j2 j3
  refine⟨l',vs',(i,v)::ws,i1,by simp only[dP,k1,i2],?_,i4⟩
  simp only[oQ,k5,Nat.beq_refl,HL hn0,Bool.and_self,cond_true,Option.bind]
  rw[show i*n+0=i*n from rfl]at j1
  rw[j1];exact i3
theorem RL.flat_rep{z:List D}{zv:List V}(h:RL g z zv):∀ n,RL g (List.replicate n z).flatten (List.replicate n zv).flatten
 |0=>by simp[RL]
 |n+1=>by simp only[List.replicate_succ,List.flatten_cons];exact h.append (RL.flat_rep h n)
theorem wl{zv:List V}(h:aK zv):∀ n,aK (List.replicate n zv).flatten
 |0=>rfl
 |n+1=>by simp only[List.replicate_succ,List.flatten_cons];exact wm h (wl h n)
theorem Hg{s:S}{el n:Nat}{vs:List V}(h:n=vs.length):loadCells (s.alloc (.cells el false 1 [⟨0,0,vs⟩])) ⟨s.next,0,0⟩ n=some vs:=by
 subst h;exact Hf (fV _ _)
theorem yD(h:FI b P0 g t L tv LO){ty:TypeId}{len:Nat}{parts:List (Nat×Operand)}{κ:D->ai}(e:gV P t ty len parts κ=some out)(ho:∀ x∈parts,Bx g LO t tv x.2) :
 ∃ d v s',κ d=some out/\ce P g.s ty len (dP tv parts)=some (.val v s')/\uW b P0 g t L tv LO L g.H s' fun g' _=>RD g' d v:=by
 unfold gV at e
 split at e
 ·rename_i el hu
  split at e
  ·rename_i z hz
   obtain⟨zv,h1,_,h3,h4⟩:=iK (g:=g) hz
   split at e
   ·rename_i n hn
    obtain⟨hc,e⟩:=aG e
    simp only[Bool.and_eq_true,Bool.not_eq_true']at hc
    obtain⟨⟨hc1,hc2⟩,hc3⟩:=hc
    have hn0:0<n:=Nat.pos_of_ne_zero fun q=>by subst q;simp at hc2
    have hzl:z.cells.length=n:=Nat.eq_of_beq_eq_true hc3
    have hzv:zv.cells.length=n:=by rw[h3.len,hzl]
    obtain⟨l',vs',ws,k1,k2,k3,k4,k5,k6,k7⟩:=qc hn0 e ho (List.length_replicate ..) (fun x hx=>by rw[List.eq_of_mem_replicate hx];exact hzl) (h3.flat_rep len) (wl h4 len)
    have hv:ce P g.s ty len (dP tv parts)=some (.val (.slice ⟨g.s.next,0,0⟩ 0 len (some len) n) (g.s.alloc (.cells el false 1 [⟨0,0,vs'⟩]))):=by
     simp only[ce,hu,k2,h1,hn,hc1,hc2,hzv,Nat.beq_refl,Bool.not_false,Bool.and_self,cond_true,k3,jV,aW,aV]
    refine⟨_,_,_,k1,hv,g.blk (.cells el false 1 [⟨0,0,vs'⟩]),LO,rfl,rfl,h.blk _,GV h.ok h.bl _,.al h _ rfl,?_⟩
    have hfl:vs'.length=l'.length*n:=by rw[k6.len,kh k5]
    cases l' with
    |nil =>
     simp only[Mx,RD]
     exact .inr ⟨_,_,_,by rw[<- k4];rfl⟩
    |cons x r =>
     simp only[Mx,RD]
     refine .inr (.inr ⟨⟨g.s.next,0,0⟩,0,some len,by rw[k4],hn0,.inl rfl,fun c hc=>by cases hc;rw[k4];exact Nat.le_refl _,fun _=>⟨?_,fun hp=>?_,fun o v ho=>?_⟩,?_⟩)
     ·show _<(g.s.alloc _).next;rw[S.next_alloc];exact Nat.lt_succ_self _
     ·exact Nat.lt_irrefl _ (h.ok.pv _ hp)
     ·exact(Nat.lt_irrefl _ (h.ok.lt o _ v ho).1).elim
     ·exact RR.flat k5 (Hg hfl.symm) (k6.mono (He _)) k7
   ·cases e
  ·cases e
 ·cases e
theorem KC(h:FI b P0 g t L tv LO):uW b P0 g t L tv LO L (g.H++[.map []]) (g.s.alloc (.map [] 0)) fun g' _=>RD g' (.map g.H.length) (.map g.s.next):=by
 refine⟨g.obj (.map []) (.map [] 0),LO,rfl,rfl,h.mkobj ⟨g.s.next,[],0,mD h.ok _ _,qt _ _,rfl⟩,pm h.ok h.bl _ _,.al h _ rfl,?_⟩
 simp only[RD]
 exact⟨g.s.next,0,mD h.ok _ _,rfl⟩
end Go.AI
namespace Go.AI
variable[fc]
variable{b:Nat}{P0:List Nat}{g:Gh}{LO:List Nat}{t:T LD}{L:LS}{tv:T V}{P:Program}{out:il}
theorem sY{s:S}{ty n:Nat}{a:Ad}{v:V}(hn:size P ty=some n)(hl:v.cells.length=n):storeVar P s ty a v=storeCells s a v.cells:=by
 unfold storeVar
 rw[hn]
 simp only[hl,Nat.beq_refl,cond_true]
theorem mE(h:Ok g){o f ver:Nat}(ho:g.O[o]? = some (some (f,ver))){x:DB}(hx:g.H[o]? = some x)(hn:∀ sz cap l,x≠.buf sz false cap l):¬ g.Imm f:=fun hi=>by
 obtain⟨sz,cap,l,h1⟩:=hi.2.2 o ver ho
 rw[hx]at h1
 exact hn sz cap l (Option.some.inj h1)
theorem Qu{l:List (List D)}{i:Nat}{κ:List D->ai}(h:bC l i κ=some out):∃ cs,l[i]? = some cs/\κ cs=some out:=by
 unfold bC at h
 split at h
 ·rename_i cs hc;exact⟨cs,hc,h⟩
 ·cases h
theorem Am{cs new:List D}{c:Nat}{κ:List D->ai}(h:aw cs c new κ=some out):∃ cs',lZ cs c new=some cs'/\κ cs'=some out:=by
 unfold aw at h
 split at h
 ·rename_i l hl;exact⟨l,hl,h⟩
 ·cases h
theorem PR(h:FI b P0 g t L tv LO){d:D}{new:List D}{κ:DH->ai}(e:Su d new g.H κ=some out){v:V}(r:RD g d v){ws:List V}(h3:RL g new ws)(h4:aK ws) :
 ∃ a s' H',v=.ptr a/\κ H'=some out/\storeCells g.s a ws=some s'/\uW b P0 g t L tv LO L H' s' fun _ _=>True:=by
 unfold Su at e
 split at e
 ·rename_i o c
  simp only[RD]at r
  obtain⟨f,ver,h1,rfl⟩:=r
  obtain⟨st,cs,f',el,vs,e,_,hc,h2,k1,k2,k3⟩:=Cd e (gg.refl g) h.ok
  rw[h1]at h2;cases h2
  obtain⟨cs',vs',e,j1,j2,j3,_⟩:=wj e k2 k3 h3 h4
  have hst:=gi k1 c ws h4 j1
  have cc:uX g o (.cells (st+1) cs') f 0 0 (.cells st cs) (.cells el false 1 [⟨0,0,vs⟩]) (.cells el false 1 [⟨0,0,vs'⟩]) :=
   ⟨h1,hc,k1,fun _ _ _ _ q=>by(cases q),fun a n ws hi ha=>by rw[ha]at hi;exact(mE h.ok h1 hc (fun _ _ _ q=>by(cases q)) hi).elim,fun s1 c1 q=>by cases q;exact⟨_,rfl⟩⟩
  refine⟨_,_,_,rfl,e,hst,g.oput o (.cells (st+1) cs') f 0 (.cells el false 1 [⟨0,0,vs'⟩]),LO,rfl,rfl,h.oput cc ?_,ju h.ok cc,.op h h1 rfl,trivial⟩
  exact⟨f,el,vs',bF h1,dZ,j2.mono (ls h.ok cc),j3⟩
 ·rename_i o n i c
  simp only[RD]at r
  obtain⟨f,ver,sz,st,cap,l,ver',h1,h2,h5,h6,rfl,h7⟩:=r
  obtain⟨sz',st',cap',l',e,hc,hc2,hn⟩:=lK e (gg.refl g)
  rw[h2]at hc2;cases hc2
  obtain⟨hst,e⟩:=ec e
  subst hst
  obtain⟨cs,hcs,e⟩:=Qu e
  ·obtain⟨i0,i1|⟨i1,f',ver2,el,nv,vers,cells,i2,i3,i4,i5,i6,i7⟩⟩:=h.ok.obj o _ h2
   ·rw[i1.1]at hcs;simp at hcs
   rw[h1]at i2;cases i2
   rw[h7 hn]
   obtain⟨ks,k1,k2,k3⟩:=i7.cells i1
   have hlens:=i7.lens
   have hcells:ks=cells:=by
    have:loadCells g.s ⟨f,ver,0⟩ (l.length*sz)=some cells:=by
     unfold loadCells
     simp only[i3,i4,uT,cond_true,Nat.sub_zero,List.drop_zero]
     exact dC _ _ i5
    rw[this]at k1;exact(Option.some.inj k1).symm
   subst hcells
   obtain⟨cs',hcs',e⟩:=Am e
   ·have hov:=wi hlens hcs hcs'
    obtain⟨vs',j1,j2,j3,j4⟩:=nI hov k2 k3 h3 h4
    have hcl:cs'.length=sz:=by
     obtain⟨x1,x2⟩:=i7.at hcs
     obtain⟨y1,y2,y3,y4,y5⟩:=nI hcs' x2.2.2.1 x2.2.2.2 h3 h4
     rw[y5];exact x2.1
    have hset:∀ y∈l.set i cs',y.length=sz:=fun y hy=>by
     rcases List.mem_or_eq_of_mem_set hy with hy|rfl
     ·exact hlens y hy
     ·exact hcl
    have hst:storeCells g.s ⟨f,ver,i*sz+c⟩ ws=some (g.s.put f (.cells el false nv [⟨ver,0,vs'⟩])):=by
     unfold storeCells
     simp only[i3,i4,uT,Bool.true_and,Nat.sub_zero,j1]
     rw[show ws.all V.one=true from h4]
     rfl
    have cc:uX g o (.buf sz true cap (l.set i cs')) f ver ver (.buf sz true cap l) (.cells el false nv vers) (.cells el false nv [⟨ver,0,vs'⟩]) :=
     ⟨h1,h2,i3,fun sz1 gi cap1 l1 q=>by cases q;exact⟨true,cap,_,rfl,by rw[List.length_set];exact Nat.le_refl _,id,fun _=>⟨rfl,rfl⟩⟩,fun a n ws hi ha=>by rw[ha]at hi;exact(mE h.ok h1 h2 (fun _ _ _ q=>by(cases q)) hi).elim,fun _ _ q=>by cases q⟩
    refine⟨_,_,_,rfl,e,hst,g.oput o (.buf sz true cap (l.set i cs')) f ver (.cells el false nv [⟨ver,0,vs'⟩]),LO,rfl,rfl,h.oput cc ?_,ju h.ok cc,.op h h1 rfl,trivial⟩
    have hle:=ls h.ok cc
    have hvl:vs'.length=(l.set i cs').length*sz:=by rw[j2.len,kh hset]
    have hmem:(⟨ver,0,ks⟩:mb)∈vers:=(eb i4).1
    refine⟨i0,.inr ⟨fun q=>i1 (by have:=congrArg List.length q;rw[List.length_set]at this;exact List.eq_nil_of_length_eq_zero (by simpa using this)),f,ver,el,nv,[⟨ver,0,vs'⟩],vs',bF h1,dZ,?_,hvl,fun u hu=>?_,?_⟩⟩
    ·simp only[bA,Nat.beq_refl,cond_true]
    ·simp at hu;subst hu
     exact⟨(i6 _ hmem).1,by simp⟩
    ·refine RR.flat hset ?_ (j2.mono hle) j3
     unfold loadCells
     simp only[dZ,Gh.oput,bA,Nat.beq_refl,cond_true,uT,Nat.sub_zero,List.drop_zero]
     exact dC _ _ hvl
 ·cases e
theorem Kj(h:FI b P0 g t L tv LO){ty:TypeId}{x:LD}{y:D}{κ:LS->DH->ai}(e:vQ P ty x y L g.H κ=some out){v w:V}(r1:RS g LO x v)(r2:RD g y w) :
 ∃ s' L' H',κ L' H'=some out/\qU P g.s ty (some v) (some w)=some (.skip s')/\uW b P0 g t L tv LO L' H' s' fun _ _=>True:=by
 unfold vQ at e
 split at e
 ·rename_i n hn
  obtain⟨hn0,e⟩:=aG e
  obtain⟨new,e,k1,k2,k3⟩:=lI e r2
  cases x with
  |u=>cases e
  |g d =>
   simp only at e
   have r1:RD g d v:=r1
   obtain⟨a,s',H',rfl,e,j1,j2⟩:=PR h e r1 k1 k2
   exact⟨s',L,H',e,by rw[uC,sY hn k3,j1];rfl,j2⟩
  |lp k c =>
   obtain⟨f,h1,rfl⟩:=r1
   simp only at e
   split at e
   ·rename_i st cs hc
    obtain⟨_,h2|⟨el,vs,h2,h3,h4⟩⟩:=h.own.2 k _ f hc h1
    ·simp only at h2
     subst h2
     obtain⟨cs',h3,_⟩:=Am e
     cases new with
     |nil=>simp only[RL]at k1;rw[k1]at k3;simp at k3;subst k3;cases hn0
     |cons a r=>cases c<;>cases h3
    ·obtain⟨cs',vs',e,j1,j2,j3,_⟩:=wj e h3 h4 k1 k2
     have hst:=gi h2 c w.cells k2 j1
     have hp:f∈g.Pv:=by rw[h.pv];exact List.mem_append_right _ (List.mem_of_getElem? h1)
     refine⟨_,_,_,e,by rw[uC,sY hn k3,hst];rfl,g.pput f (.cells el false 1 [⟨0,0,vs'⟩]),LO,rfl,rfl,h.pput h1 h2 j2 j3,Qz h.ok hp (h.low f (List.mem_of_getElem? h1)) _,.put h hc h1 _ rfl,trivial⟩
   ·cases e
 ·cases e
theorem pM.upd{kt:TypeId}{td:TypeDesc}(hu:P.underlying kt=some td)(okf:Ad->Bool){k v:D}{kv vv:V}(hf:pq td k=true)(rk:RD g k kv)(rv:RD g v vv)(ho:kv.one=true)(clock:Nat):∀ {es es':List (D×D)} {ents:List oz},pM g es ents->GY k v es=some es' ->
 ∃ u,cE (cF P okf 20 kt) kv vv ents=some u/\∃ ents',(match u with|some e=>ents'=e|none=>ents'=ents++[⟨kv,vv,clock⟩])/\pM g es' ents'
 |[],es',ents,h,e=>by
  simp only[pM]at h;subst h
  cases e
  exact⟨none,rfl,_,rfl,⟨_,_,rfl,rk,rv,ho,rfl⟩⟩
 |(x,w)::l,es',ents,h,e=>by
  simp only[pM]at h
  obtain⟨⟨ke,ve,born⟩,r',rfl,h1,h2,h3,h4⟩:=h
  simp only[GY]at e
  split at e
  ·rename_i hq
   cases e
   exact⟨some (⟨kv,vv,born⟩::r'),by simp only[cE,nM hu okf hq hf rk h1,cE.setKey],_,rfl,⟨_,_,rfl,rk,rv,ho,h4⟩⟩
  ·rename_i hq
   split at e
   ·rename_i r hr
    cases e
    obtain⟨u,k1,ents',k2,k3⟩:=pM.upd hu okf hf rk rv ho clock h4 hr
    refine⟨u.map (⟨ke,ve,born⟩::·),?_,⟨ke,ve,born⟩::ents',?_,⟨_,_,rfl,h1,h2,h3,k3⟩⟩
    ·simp only[cE,nM hu okf hq hf rk h1,cE.setKey,k1]
     cases u<;>rfl
    ·cases u with
     |none=>simp only at k2;rw[k2];rfl
     |some e=>simp only at k2;rw[k2];rfl
   ·cases e
  ·cases e
theorem wT{td:TypeDesc}{k:D}(h:pq td k=true):Oy k≠12/\Oy k≠13:=by
 unfold pq at h
 split at h
 ·split at h
  ·exact⟨(fun e=>by cases e),(fun e=>by cases e)⟩
  ·cases h
 ·split at h
  ·exact⟨(fun e=>by cases e),(fun e=>by cases e)⟩
  ·cases h
 ·split at h
  ·exact⟨(fun e=>by cases e),(fun e=>by cases e)⟩
  ·cases h
 ·cases h
theorem Ep(h:FI b P0 g t L tv LO){ty:TypeId}{m k v:D}{κ:DH->ai}(e:jY P ty m k v g.H κ=some out){mv kv vv:V}(r1:RD g m mv)(r2:RD g k kv)(r3:RD g v vv) :
 ∃ s' H',κ H'=some out/\eJ P g.s ty (some mv) (some kv) (some vv)=some (.skip s')/\uW b P0 g t L tv LO L H' s' fun _ _=>True:=by
 unfold jY at e
 split at e
 ·rename_i td el hm
  obtain⟨kt,hu,hk,_,hsk⟩:=mG hm
  split at e
  ·rename_i o
   obtain⟨hf,e⟩:=aG e
   simp only[RD]at r1
   obtain⟨f,ver,h1,rfl⟩:=r1
   obtain⟨es,f',ents,clock,e,_,h0,h2,h3,h4⟩:=yn e (gg.refl g) h.ok
   rw[h1]at h2;cases h2
   unfold qx at e
   split at e
   ·rename_i es' he
    obtain⟨u,k1,ents',k2,k3⟩:=h4.upd hk (bz g.s) hf r2 r3 (r2.one (wT hf).1 (wT hf).2) clock he
    have cc:∀ c',uX g o (.map es') f 0 0 (.map es) (.map ents clock) (.map ents' c'):=fun c' =>
     ⟨h1,h0,h3,fun _ _ _ _ q=>by(cases q),fun a n ws hi ha=>by rw[ha]at hi;exact(mE h.ok h1 h0 (fun _ _ _ q=>by(cases q)) hi).elim,fun _ _ q=>by cases q⟩
    have fin:∀ c',uW b P0 g t L tv LO L (g.H.set o (.map es')) (g.s.put f (.map ents' c')) fun _ _=>True:=fun c' =>
     ⟨g.oput o (.map es') f 0 (.map ents' c'),LO,rfl,rfl,h.oput (cc c') ⟨f,ents',c',bF h1,dZ,k3.mono (ls h.ok (cc c'))⟩,ju h.ok (cc c'),.op h h1 rfl,trivial⟩
    cases u with
    |some q =>
     simp only at k2;subst k2
     exact⟨_,_,e,by simp only[eJ,hu,h3,hsk,cond_true,k1,vc],fin clock⟩
    |none =>
     simp only at k2;subst k2
     exact⟨_,_,e,by simp only[eJ,hu,h3,hsk,cond_true,k1,vc],fin (clock+1)⟩
   ·cases e
  ·cases e
 ·cases e
end Go.AI
namespace Go.AI
variable[fc]
variable{b:Nat}{P0:List Nat}{g:Gh}{LO:List Nat}{t:T LD}{L:LS}{tv:T V}{P:Program}{out:il}
theorem Bn{sz:Nat}{st cap:Bool}{l:List (List D)}{B:dB}{el:Nat}{vs:List V}(h:Ok g)(h0:0<sz)(hl:l≠[])(hn:∀ x∈l,x.length=sz)(hB:B=.cells el false 1 [⟨0,0,vs⟩])(hr:RL g l.flatten vs)(ho:aK vs) :
 lQ (g.obj (.buf sz st cap l) B) g.H.length (.buf sz st cap l):=by
 subst hB
 have hfl:vs.length=l.length*sz:=by rw[hr.len,kh hn]
 refine⟨h0,.inr ⟨hl,g.s.next,0,el,1,_,vs,mD h _ _,qt _ _,by simp only[bA,Nat.beq_refl,cond_true],hfl,fun u hu=>?_,RR.flat hn (Hg hfl.symm) (hr.mono (wP h.len _ _)) ho⟩⟩
 simp at hu;subst hu;exact⟨Nat.lt_succ_self _,by simp⟩
theorem QC(h:FI b P0 g t L tv LO){el ty n:Nat}(hu:P.underlying ty=some (.slice el)){κ:List (List D)->Nat->ai}(e:Nt P el n κ=some out) :
 ∃ l sz v s',κ l sz=some out/\dR P g.s ty (some n) (some n)=some (.val v s')/\uW b P0 g t L tv LO L (g.H++[.buf sz true true l]) s' fun g' _=>RD g' (.buf sz g.H.length n) v:=by
 unfold Nt at e
 split at e
 ·rename_i z hz
  obtain⟨zv,h1,_,h3,h4⟩:=iK (g:=g) hz
  split at e
  ·rename_i sz hs
   obtain⟨hc,e⟩:=aG e
   obtain⟨hd,e⟩:=ec e
   simp only[Bool.and_eq_true,Bool.not_eq_true']at hc hd
   obtain⟨hc1,hc2⟩:=hc
   obtain⟨hd1,hd2⟩:=hd
   have hn0:0<sz:=Nat.pos_of_ne_zero fun q=>by subst q;simp at hc1
   have hzl:z.cells.length=sz:=Nat.eq_of_beq_eq_true hc2
   have hzv:zv.cells.length=sz:=by rw[h3.len,hzl]
   have hlen:∀ x∈List.replicate n z.cells,x.length=sz:=fun x hx=>by rw[List.eq_of_mem_replicate hx];exact hzl
   have hv:dR P g.s ty (some n) (some n)=some (.val (.slice ⟨g.s.next,0,0⟩ 0 n (some n) sz) (g.s.alloc (.cells el false 1 [⟨0,0,(List.replicate n zv.cells).flatten⟩]))):=by
    simp only[dR,hu,h1,hs,Nat.ble_eq_true_of_le (Nat.le_refl n),hd1,hd2,hc1,hzv,Nat.beq_refl,Bool.not_false,Bool.and_self,cond_true,aW,aV]
   refine⟨_,sz,_,_,e,hv,?_⟩
   cases n with
   |zero =>
    have h':=h.blk (.cells el false 1 [⟨0,0,(List.replicate 0 zv.cells).flatten⟩])
    refine⟨(g.blk (.cells el false 1 [⟨0,0,(List.replicate 0 zv.cells).flatten⟩])).acc sz true,LO,rfl,rfl,h'.acc hn0 true,(GV h.ok h.bl _).trans (GW h'.ok sz true),.al h _ rfl,?_⟩
    simp only[RD]
    exact⟨true,true,[],fU _ _,Nat.le_refl _,.inl ⟨rfl,.inr ⟨_,_,_,rfl⟩⟩⟩
   |succ n =>
    have hne:List.replicate (n+1) z.cells≠[]:=by simp[List.replicate_succ]
    refine⟨g.obj (.buf sz true true (List.replicate (n+1) z.cells)) (.cells el false 1 [⟨0,0,(List.replicate (n+1) zv.cells).flatten⟩]),LO,rfl,rfl,h.mkobj (Bn h.ok hn0 hne hlen rfl (h3.flat_rep _) (wl h4 _)),pm h.ok h.bl _ _,.al h _ rfl,?_⟩
    simp only[RD]
    exact⟨true,true,_,fU _ _,by simp,.inr ⟨Nat.succ_pos _,g.s.next,0,0,_,mD h.ok _ _,rfl,fun _=>⟨rfl,rfl⟩⟩⟩
  ·cases e
 ·cases e
theorem Rt(h:Ok g){y:D}{sz:Nat}{κ:List (List D)->ai}(e:Fh y g.H sz κ=some out){v:V}(r:RD g y v)(hsz:0<sz) :
 ∃ els vs,κ els=some out/\gW g.s sz v=some (vs,els.length)/\RL g els.flatten vs/\aK vs/\∀ x∈els,x.length=sz:=by
 have emp:∀ {v:V},(v=.nilslice\/∃ a z cap sz',v=.slice a z 0 cap sz')->gW g.s sz v=some ([],0):=fun {v} hv=>by
  rcases hv with rfl|⟨a,z,cap,sz',rfl⟩<;>rfl
 have full:∀ {a:Ad} {z:Nat} {cap:Option Nat} {l:List (List D)},RR g a sz l->l≠[]->∃ vs,gW g.s sz (.slice a z l.length cap sz)=some (vs,l.length)/\RL g l.flatten vs/\aK vs/\∀ x∈l,x.length=sz:=fun {a z cap l} hr hl=>by
  obtain⟨vs,k1,k2,k3⟩:=hr.cells hl
  have h0:Nat.beq l.length 0=false:=by cases l with|nil=>exact(hl rfl).elim|cons _ _=>rfl
  have h1:Nat.beq sz 0=false:=by cases sz with|zero=>omega|succ _=>rfl
  exact⟨vs,by simp only[gW,h0,h1,Nat.beq_refl,cond_true,cond_false,k1],k2,k3,hr.lens⟩
 unfold Fh at e
 split at e
 ·rename_i s l
  obtain⟨hb,e1⟩:=aG e
  clear e
  have e:=e1
  clear e1
  obtain rfl:=Nat.eq_of_beq_eq_true hb
  simp only[RD]at r
  rcases r with⟨rfl,rfl⟩|⟨rfl,a,z,sz',rfl⟩|⟨a,z,cap,rfl,_,_,_,_,h6⟩
  ·exact⟨[],[],e,emp (.inl rfl),by simp[RL],rfl,fun x hx=>by cases hx⟩
  ·exact⟨[],[],e,emp (.inr ⟨_,_,_,_,rfl⟩),by simp[RL],rfl,fun x hx=>by cases hx⟩
  ·by_cases hl:l=[]
   ·subst hl;exact⟨[],[],e,emp (.inr ⟨_,_,_,_,rfl⟩),by simp[RL],rfl,fun x hx=>by cases hx⟩
   ·obtain⟨vs,k1,k2⟩:=full (z:=z) (cap:=cap) h6 hl
    exact⟨l,vs,e,k1,k2⟩
 ·simp only[RD]at r
  refine⟨[],[],e,emp ?_,by simp[RL],rfl,fun x hx=>by cases hx⟩
  rcases r with rfl|⟨a,z,sz',rfl⟩
  ·exact .inl rfl
  ·exact .inr ⟨_,_,_,_,rfl⟩
 ·rename_i s o n
  obtain⟨hb,e1⟩:=aG e
  clear e
  obtain rfl:=Nat.eq_of_beq_eq_true hb
  obtain⟨sz',st,cap,l,e,_,h2,hn⟩:=lK e1 (gg.refl g)
  clear e1
  simp only[RD]at r
  obtain⟨st',cap',l',h1,_,h3⟩:=r
  rw[h2]at h1;cases h1
  rcases h3 with⟨hn0,h3⟩|⟨h3,f,ver,ver',c,h4,rfl,h5⟩
  ·have:l=[]:=List.eq_nil_of_length_eq_zero (by omega)
   subst this
   refine⟨[],[],e,emp ?_,by simp[RL],rfl,fun x hx=>by cases hx⟩
   rcases h3 with rfl|⟨a,z,sz',rfl⟩
   ·exact .inl rfl
   ·exact .inr ⟨_,_,_,_,rfl⟩
  ·obtain⟨rfl,rfl⟩:=h5 hn
   obtain⟨_,i1|⟨i1,f',ver2,el,nv,vers,cells,i2,_,_,_,_,i7⟩⟩:=h.obj o _ h2
   ·rw[i1.1]at hn;simp at hn;omega
   ·rw[h4]at i2;cases i2
    subst hn
    obtain⟨vs,k1,k2⟩:=full (z:=0) (cap:=HI cap l.length) i7 i1
    exact⟨l,vs,e,k1,k2⟩
 ·cases e
theorem Ol(a c:List (List D)):(a++c).flatten=a.flatten++c.flatten:=by simp
theorem ND{a c:List (List D)}{sz:Nat}(h:∀ x∈a,x.length=sz)(k:∀ x∈c,x.length=sz):∀ x∈a++c,x.length=sz:=fun x hx=>by
 rcases List.mem_append.1 hx with hx|hx
 ·exact h x hx
 ·exact k x hx
theorem mP{p:mb->Bool}:∀ {vers:List mb},(∀ u∈vers,p u=true)->vers.filter p=vers
 |[],_=>rfl
 |u::r,h=>by rw[List.filter_cons_of_pos (h u List.mem_cons_self),mP fun w hw=>h w (List.mem_cons_of_mem _ hw)]
theorem RZ(h:FI b P0 g t L tv LO){ok:Nat->Bool}{sz:Nat}{x:D}{els:List (List D)}{κ:D->DH->ai}(e:cC ok sz x els g.H κ=some out){xv:V}(r:RD g x xv){vs:List V}(h1:RL g els.flatten vs)(h2:aK vs)(h3:∀ x∈els,x.length=sz)(h0:0<sz)(el:TypeId) :
 ∃ d H' v s',κ d H'=some out/\dV ok g.s el sz xv (some (vs,els.length))=some (v,s')/\uW b P0 g t L tv LO L H' s' fun g' _=>RD g' d v:=by
 unfold cC at e
 obtain⟨hm,e⟩:=ec e
 have emp:els=[]->∀ {v:V},(v=.nilslice\/∃ a z sz',v=.slice a z 0 (some 0) sz')->dV ok g.s el sz v (some (vs,els.length))=some (v,g.s):=fun he {v} hv=>by
  subst he
  have hm0:ok 0=true:=hm
  rcases hv with rfl|⟨a,z,sz',rfl⟩
  ·simp only[dV,hm0,List.length_nil,Nat.beq_refl,cond_true]
  ·simp only[dV,hm0,List.length_nil,Nat.beq_refl,ip,Bool.and_self,cond_true]
 have hnew:els≠[]->∀ {v:V},(v=.nilslice\/∃ a z sz',v=.slice a z 0 (some 0) sz')->dV ok g.s el sz v (some (vs,els.length))=some (.slice ⟨g.s.next,0,0⟩ 0 els.length none sz,g.s.alloc (.cells el false 1 [⟨0,0,vs⟩])):=fun he {v} hv=>by
  have hz:Nat.beq els.length 0=false:=by cases els with|nil=>exact(he rfl).elim|cons _ _=>rfl
  rcases hv with rfl|⟨a,z,sz',rfl⟩
  ·simp only[dV,hm,hz,cond_true,cond_false,iD,aW,aV]
  ·simp only[dV,hm,hz,cond_true,cond_false,ip,Nat.beq_refl,Bool.and_self,iD,aW,aV]
 have mk:∀ {st cap:Bool} {l:List (List D)} {ws:List V},l≠[]->(∀ x∈l,x.length=sz)->RL g l.flatten ws->aK ws->uW b P0 g t L tv LO L (g.H++[.buf sz st cap l]) (g.s.alloc (.cells el false 1 [⟨0,0,ws⟩])) fun g' _=>∀ c,c=HI cap l.length->RD g' (.buf sz g.H.length l.length) (.slice ⟨g.s.next,0,0⟩ 0 l.length c sz):=fun {st cap l ws} hl hn hr ho=>by
  refine⟨g.obj (.buf sz st cap l) (.cells el false 1 [⟨0,0,ws⟩]),LO,rfl,rfl,h.mkobj (Bn h.ok h0 hl hn rfl hr ho),pm h.ok h.bl _ _,.al h _ rfl,fun c hc=>?_⟩
  simp only[RD]
  refine⟨st,cap,l,fU _ _,Nat.le_refl _,.inr ⟨?_,g.s.next,0,0,c,mD h.ok _ _,rfl,fun _=>⟨rfl,hc⟩⟩⟩
  cases l with
  |nil=>exact(hl rfl).elim
  |cons _ _=>simp
 split at e
 ·
  simp only[RD]at r
  split at e
  ·exact⟨_,_,xv,_,e,emp rfl r,uW.same h (by simp only[RD];exact r)⟩
  ·rename_i y ys
   obtain⟨g',LO',k1,k2,k3,k4,k5,k6⟩:=mk (st:=true) (cap:=false) (by simp) h3 h1 h2
   exact⟨_,_,_,_,e,hnew (by simp) r,g',LO',k1,k2,k3,k4,k5,k6 none rfl⟩
 ·
  rename_i s o n _
  obtain⟨hb,e1⟩:=aG e
  clear e
  obtain rfl:=Nat.eq_of_beq_eq_true hb
  obtain⟨sz',st,cap,l,e2,hc,hc2,hn⟩:=lK e1 (gg.refl g)
  clear e1
  obtain⟨hk,e⟩:=ec e2
  clear e2
  simp only[Bool.and_eq_true,Bool.not_eq_true']at hk
  obtain⟨hk1,hk2⟩:=hk
  simp only[RD]at r
  obtain⟨st',cap',l',j1,_,j2⟩:=r
  rw[hc2]at j1;cases j1
  unfold grow at e
  by_cases hz:els=[]
  ·subst hz
   have hcap:cap=false:=by cases cap with|false=>rfl|true=>simp at hk2
   subst hcap
   simp only[cond_false,List.append_nil,List.length_nil,Nat.add_zero]at e
   have hH:g.H.set o (.buf s st false l)=g.H:=by
    apply List.ext_getElem?
    intro i
    rw[List.getElem?_set]
    split
    ·rename_i hi;subst hi
     split
     ·rw[hc2]
     ·rename_i q;rw[List.getElem?_eq_none (by omega)]
    ·rfl
   rw[hH,<- hn]at e
   have hv:dV ok g.s el s xv (some (vs,0))=some (xv,g.s):=by
    rcases j2 with⟨_,j2⟩|⟨j3,f,ver,ver',c,j4,rfl,j5⟩
    ·exact emp rfl j2
    ·have hnz:Nat.beq n 0=false:=by cases n with|zero=>omega|succ _=>rfl
     have hm0:ok 0=true:=hm
     have hk0:ok (n+0)=true:=by rw[hn];exact hk1
     simp only[dV,hm0,hk0,hnz,Bool.false_and,cond_false,Nat.beq_refl,Bool.true_and,cond_true]
   exact⟨_,_,xv,_,e,hv,uW.same h (by simp only[RD];exact⟨st,false,l,hc2,by omega,j2⟩)⟩
  ·have hel:0<els.length:=by cases els with|nil=>exact(hz rfl).elim|cons _ _=>simp
   rcases j2 with⟨hn0,j2⟩|⟨j3,f,ver,ver',c,j4,rfl,j5⟩
   ·have hl:l=[]:=List.eq_nil_of_length_eq_zero (by omega)
    subst hl
    simp only[List.nil_append,List.length_nil,Nat.zero_add]at e
    cases cap with
    |true =>
     simp only[cond_true]at e
     obtain⟨g',LO',k1,k2,k3,k4,k5,k6⟩:=mk (st:=true) (cap:=false) hz h3 h1 h2
     exact⟨_,_,_,_,e,hnew hz j2,g',LO',k1,k2,k3,k4,k5,k6 none rfl⟩
    |false =>
     simp only[cond_false]at e
     have hO:g.O[o]? = some none:=by
      obtain⟨_,i1|⟨i1,_⟩⟩:=h.ok.obj o _ hc2
      ·exact i1.2
      ·exact(i1 rfl).elim
     have hfl:vs.length=els.length*s:=by rw[h1.len,kh h3]
     have hle:=Ct (B:=.cells el false 1 [⟨0,0,vs⟩]) h.ok hO hc2 rfl (st':=st) (cap':=false) id hz
     have hobj:lQ (g.bnew o (.buf s st false els) (.cells el false 1 [⟨0,0,vs⟩])) o (.buf s st false els):=by
      refine⟨h0,.inr ⟨hz,g.s.next,0,el,1,_,vs,bF hO,fV _ _,by simp only[bA,Nat.beq_refl,cond_true],hfl,fun u hu=>?_,RR.flat h3 (Hg hfl.symm) (h1.mono hle) h2⟩⟩
      simp at hu;subst hu;exact⟨Nat.lt_succ_self _,by simp⟩
     refine⟨_,_,_,_,e,hnew hz j2,g.bnew o (.buf s st false els) (.cells el false 1 [⟨0,0,vs⟩]),LO,rfl,rfl,h.bnew hO hc2 rfl id hz hobj,Jc h.ok h.bl hO hc2 rfl id hz,.al h _ rfl,?_⟩
     simp only[RD]
     exact⟨st,false,els,bF hc2,Nat.le_refl _,.inr ⟨hel,g.s.next,0,0,none,bF hO,rfl,fun _=>⟨rfl,rfl⟩⟩⟩
   ·obtain⟨rfl,rfl⟩:=j5 hn
    obtain⟨_,i1|⟨i1,f',ver2,el0,nv,vers,cells,i2,i3,i4,i5,i6,i7⟩⟩:=h.ok.obj o _ hc2
    ·rw[i1.1]at hn;simp at hn;omega
    rw[j4]at i2;cases i2
    subst hn
    have hnz:Nat.beq l.length 0=false:=by cases l with|nil=>exact(i1 rfl).elim|cons _ _=>rfl
    have hez:Nat.beq els.length 0=false:=by cases els with|nil=>exact(hz rfl).elim|cons _ _=>rfl
    obtain⟨ks,k1,k2,k3⟩:=i7.cells i1
    have hcells:ks=cells:=by
     have:loadCells g.s ⟨f,ver',0⟩ (l.length*s)=some cells:=by
      unfold loadCells
      simp only[i3,i4,uT,cond_true,Nat.sub_zero,List.drop_zero]
      exact dC _ _ i5
     rw[this]at k1;exact(Option.some.inj k1).symm
    subst hcells
    have htk:aU (l.length*s) (ks.drop (0 - 0))=some ks:=by simpa using dC _ _ i5
    have hstart:dV ok g.s el s (.slice ⟨f,ver',0⟩ 0 l.length (HI cap l.length) s) (some (vs,els.length))=xh g.s el ⟨f,ver',0⟩ 0 l.length (HI cap l.length) s vs els.length:=by
     simp only[dV,hm,hnz,hez,Bool.false_and,cond_false,Nat.beq_refl,hk1,Bool.and_self,cond_true]
    have hlen2:=ND i7.lens h3
    have hr2:RL g (l++els).flatten (ks++vs):=by rw[Ol];exact k2.append h1
    have ho2:=wm k3 h2
    have hne2:l++els≠[]:=by simp[i1]
    cases cap with
    |true =>
     simp only[cond_true]at e
     obtain⟨g',LO',m1,m2,m3,m4,m5,m6⟩:=mk (st:=true) (cap:=false) hne2 hlen2 hr2 ho2
     have hno:Nat.ble (l.length+els.length) l.length=false:=by
      cases hq:Nat.ble (l.length+els.length) l.length with
      |false=>rfl
      |true=>have:=Nat.le_of_ble_eq_true hq;omega
     refine⟨_,_,_,_,e,?_,g',LO',m1,m2,m3,m4,m5,by have:=m6 none rfl;rwa [List.length_append]at this⟩
     rw[hstart]
     simp only[xh,i3,i4,uT,cond_true,htk,HI,Cx,hno,cond_false,iD,aW,aV]
    |false =>
     simp only[cond_false]at e
     have hfil:vers.filter (fun u=>Nat.ble (u.lo+u.cells.length) (0+l.length*s))=vers:=mP fun u hu=>Nat.ble_eq_true_of_le (by have:=(i6 u hu).2;omega)
     have hgrow:xh g.s el ⟨f,ver',0⟩ 0 l.length none s vs els.length=some (.slice ⟨f,nv,0⟩ 0 (l.length+els.length) none s,g.s.put f (.cells el0 false (nv+1) (⟨nv,0,ks++vs⟩::vers))):=by
      simp only[xh,i3,i4,uT,cond_true,htk,xl,hfil]
      rw[show vs.all V.one=true from h2];rfl
     have hold:∀ a n ws,a.f=f->loadCells g.s a n=some ws->loadCells (g.s.put f (.cells el0 false (nv+1) (⟨nv,0,ks++vs⟩::vers))) a n=some ws:=fun a n ws ha hld=>by
      unfold loadCells at hld ⊢
      rw[ha,i3]at hld
      rw[ha,dZ]
      simp only at hld ⊢
      split at hld
      ·rename_i u hu
       have hmem:=eb hu
       have hne:Nat.beq nv a.v=false:=by
        cases hq:Nat.beq nv a.v with
        |false=>rfl
        |true=>have:=Nat.eq_of_beq_eq_true hq;have:=(i6 u hmem.1).1;have:=hmem.2;omega
       simp only[bA,hne,cond_false,hu]
       exact hld
      ·cases hld
     have cc:uX g o (.buf s st false (l++els)) f ver' nv (.buf s st false l) (.cells el0 false nv vers) (.cells el0 false (nv+1) (⟨nv,0,ks++vs⟩::vers)) :=
      ⟨j4,hc2,i3,fun sz1 gi cap1 l1 q=>by cases q;exact⟨st,false,_,rfl,by rw[List.length_append];omega,id,fun q=>by rw[List.length_append]at q;omega⟩,fun a n ws _ ha hld=>hold a n ws ha hld,fun _ _ q=>by cases q⟩
     have hle:=ls h.ok cc
     have hfl:(ks++vs).length=(l++els).length*s:=by rw[hr2.len,kh hlen2]
     have hobj:lQ (g.oput o (.buf s st false (l++els)) f nv (.cells el0 false (nv+1) (⟨nv,0,ks++vs⟩::vers))) o (.buf s st false (l++els)):=by
      refine⟨h0,.inr ⟨hne2,f,nv,el0,nv+1,_,ks++vs,bF j4,dZ,by simp only[bA,Nat.beq_refl,cond_true],hfl,fun u hu=>?_,?_⟩⟩
      ·rcases List.mem_cons.1 hu with rfl|hu
       ·exact⟨Nat.lt_succ_self _,by simp⟩
       ·have:=i6 u hu
        exact⟨by omega,by rw[List.length_append];omega⟩
      ·refine RR.flat hlen2 ?_ (hr2.mono hle) ho2
       unfold loadCells
       simp only[dZ,Gh.oput,bA,Nat.beq_refl,cond_true,uT,Nat.sub_zero,List.drop_zero]
       exact dC _ _ hfl
     refine⟨_,_,_,_,e,by rw[hstart];exact hgrow,g.oput o (.buf s st false (l++els)) f nv (.cells el0 false (nv+1) (⟨nv,0,ks++vs⟩::vers)),LO,rfl,rfl,h.oput cc hobj,ju h.ok cc,.op h j4 rfl,?_⟩
     simp only[RD]
     exact⟨st,false,l++els,bF hc2,by rw[List.length_append];exact Nat.le_refl _,.inr ⟨by omega,f,nv,nv,none,bF j4,rfl,fun _=>⟨rfl,rfl⟩⟩⟩
 ·cases e
theorem HO(h:FI b P0 g t L tv LO){sT xT:TypeId}{x y:D}{κ:D->DH->ai}(e:rq P sT xT x y g.H κ=some out){xv yv:V}(r1:RD g x xv)(r2:RD g y yv) :
 ∃ d H' v s',κ d H'=some out/\rm P sT xT g.s xv yv=some (v,s')/\uW b P0 g t L tv LO L H' s' fun g' _=>RD g' d v:=by
 unfold rq at e
 split at e
 ·rename_i elem hu
  obtain⟨hni,e⟩:=aG e
  split at e
  ·rename_i sz hs
   obtain⟨hok,e⟩:=aG e
   have h0:0<sz:=by
    obtain⟨z,i,_,_,_,h0,_⟩:=mY hok
    exact h0
   obtain⟨els,vs,e,k1,k2,k3,k4⟩:=Rt h.ok e r2 h0
   obtain⟨d,H',v,s',e,j1,j2⟩:=RZ h e r1 k2 k3 k4 h0 elem
   exact⟨d,H',v,s',e,by simp only[rm,hu,hni,cond_true,hs,hok,k1];exact j1,j2⟩
  ·cases e
 ·cases e
end Go.AI
namespace Go.AI
variable[fc]
variable{b:Nat}{P0:List Nat}{g:Gh}{LO:List Nat}{t:T LD}{L:LS}{tv:T V}{P:Program}{out:il}
def rE(g:Gh):Option D->Option V->Prop
 |none,none=>True
 |some d,some v=>RD g d v
 |_,_=>False
theorem nQ{x:Option Operand}{κ:Option D->ai}(h:KW t x κ=some out)(hr:∀ y,x=some y->Bx g LO t tv y):∃ d v,κ d=some out/\kl tv x=some v/\rE g d v:=by
 cases x with
 |none=>exact⟨none,none,h,rfl,trivial⟩
 |some x =>
  simp only[KW]at h
  obtain⟨d,v,h1,_,h2,h3⟩:=bd h (hr x rfl)
  exact⟨some d,some v,h1,by simp only[kl,h2],h3⟩
theorem dI{o:Option D}{d:Nat}{κ:Nat->ai}(h:sP o d κ=some out){ov:Option V}(hr:rE g o ov):∃ n,κ n=some out/\er ov d=some n/\(o=none->n=d):=by
 unfold sP at h
 split at h
 ·cases ov with
  |none=>exact hr.elim
  |some v =>
   have hr:RD g _ v:=hr
   simp only[RD]at hr
   subst hr
   obtain⟨m,rfl,h⟩:=nJ h
   exact⟨m,h,rfl,fun e=>by cases e⟩
 ·cases h
 ·cases ov with
  |none=>exact⟨d,h,rfl,fun _=>rfl⟩
  |some _=>exact hr.elim
theorem rE.isSome{o:Option D}{ov:Option V}(h:rE g o ov):ov.isSome=o.isSome:=by
 cases o<;>cases ov<;>first|rfl|exact h.elim
theorem RR.take:∀ {l:List (List D)} {a:Ad} {sz:Nat} (n:Nat),RR g a sz l->RR g a sz (l.take n)
 |[],_,_,n,_=>by simp[RR]
 |x::l,a,sz,0,_=>by simp[RR]
 |x::l,a,sz,n+1,r=>by
  simp only[RR,List.take_succ_cons]at r ⊢
  exact⟨r.1,RR.take n r.2⟩
theorem rM{sz:Nat}{l:List (List D)}{lo hi:Option D}{κ:D->ai}(h:DM sz l lo hi κ=some out){v:V}(r:RD g (.row sz l) v){lov hiv:Option V}(r1:rE g lo lov)(r2:rE g hi hiv){ty e:TypeId}(hu:P.underlying ty=some (.slice e))(hs:size P e=some sz) :
 ∃ d v',κ d=some out/\cY P ty v lov hiv none=some v'/\RD g d v':=by
 unfold DM at h
 obtain⟨hn,e1,h1,_⟩:=dI h r2
 obtain⟨bn,e2,h2,_⟩:=dI e1 r1
 clear e1 h
 obtain⟨hb,h⟩:=ec e2
 clear e2
 simp only[Bool.and_eq_true]at hb
 have hle:=Nat.le_of_ble_eq_true hb.1
 obtain rfl:=Nat.eq_of_beq_eq_true hb.2
 have zero:l=[]->(bK (er lov 0)&&bK (er hiv 0)&&bK (er none 0))=true:=fun hl=>by
  subst hl
  have:hn=0:=by simpa using hle
  subst this
  simp only[List.length_nil]at h1
  rw[h1,h2];rfl
 simp only[RD]at r
 rcases r with⟨rfl,rfl⟩|⟨rfl,a,z,sz',rfl⟩|⟨a,z,cap,rfl,k1,k2,k3,k4,k5⟩
 ·refine⟨_,.nilslice,h,?_,by simp only[RD];exact .inl ⟨by simp,trivial⟩⟩
  simp only[cY,hu,hs,zero rfl,cond_true,Option.isSome_none,Bool.false_and,cond_false]
 ·refine⟨_,.slice a z 0 (some 0) sz',h,?_,by simp only[RD];exact .inr (.inl ⟨by simp,a,z,sz',rfl⟩)⟩
  simp only[cY,hu,hs,ip,Nat.beq_refl,Bool.and_self,Bool.or_true,cond_true,zero rfl,Option.isSome_none,Bool.false_and,Bool.not_false]
 ·by_cases hnc:(Nat.beq l.length 0&&ip cap)=true
  ·simp only[Bool.and_eq_true]at hnc
   have hl:l=[]:=List.eq_nil_of_length_eq_zero (Nat.eq_of_beq_eq_true hnc.1)
   subst hl
   refine⟨_,.slice a z 0 cap sz,h,?_,?_⟩
   ·simp only[cY,hu,hs,List.length_nil,Nat.beq_refl,hnc.2,Bool.and_self,Bool.or_true,cond_true,zero rfl,Option.isSome_none,Bool.false_and,Bool.not_false]
   ·simp only[RD];exact .inr (.inr ⟨a,z,cap,by simp,k1,k2,fun c hc=>by simp,fun q=>by simp at q,by simp[RR]⟩)
  ·have hz:(Nat.beq sz 0||(Nat.beq l.length 0&&ip cap))=false:=by
    cases sz with
    |zero=>omega
    |succ _=>cases hq:(Nat.beq l.length 0&&ip cap)with
     |true=>exact(hnc hq).elim
     |false=>rfl
   have hlt:(l.take hn).length=hn:=by rw[List.length_take];omega
   cases cap with
   |some c =>
    have hc:=k3 c rfl
    have hc0:Nat.beq c 0=false:=by
     cases hq:Nat.beq c 0 with
     |false=>rfl
     |true =>
      have:=Nat.eq_of_beq_eq_true hq
      subst this
      have hl0:l.length=0:=by omega
      rw[hl0]at hnc
      exact(hnc rfl).elim
    refine⟨_,.slice (ci a (0*sz)) 0 (hn - 0) (some (c - 0)) sz,h,?_,?_⟩
    ·simp only[cY,hu,hs,hz,cond_false,Nat.beq_refl,Option.isSome_none,Bool.false_and,Bool.not_false,Bool.and_self,cond_true,h1,h2,Nat.ble_eq_true_of_le (Nat.le_trans hle hc),uT,hc0]
    ·simp only[RD]
     refine .inr (.inr ⟨ci a (0*sz),0,some (c - 0),by rw[hlt];rfl,k1,.inl rfl,fun c' hc'=>by cases hc';rw[hlt];omega,fun q=>k4 (fun e=>by subst e;simp at q),?_⟩)
     rw[show ci a (0*sz)=a by simp[ci]]
     exact k5.take hn
   |none =>
    have hza:z=a.c:=k2.elim (fun q=>by cases q) id
    refine⟨_,.slice a z hn none sz,h,?_,?_⟩
    ·simp only[cY,hu,hs,hz,cond_false,Nat.beq_refl,Option.isSome_none,Bool.false_and,Bool.not_false,Bool.and_self,cond_true,h1,h2,hb.1,uT]
    ·simp only[RD]
     exact .inr (.inr ⟨a,z,none,by rw[hlt],k1,.inr hza,(fun c' hc'=>by cases hc'),fun q=>k4 (fun e=>by subst e;simp at q),k5.take hn⟩)
theorem pW{ty e sz:TypeId}(hu:P.underlying ty=some (.slice e))(hs:size P e=some sz){v:V}(r:RD g .nilrow v\/∃ l,RD g (.row sz l) v){lov hiv:Option V}{m:V}(h1:er lov 0=some 0)(h2:er hiv 0=some 0)(h3:oI m=some 0)(h4:hiv.isSome=true) :
 ∃ v',cY P ty v lov hiv (some m)=some v'/\RD g .nilrow v':=by
 have zero:(bK (er lov 0)&&bK (er hiv 0)&&bK (er (some m) 0))=true:=by
  rw[h1,h2];simp only[er,h3];rfl
 have hd:∀ d,er hiv d=some 0:=fun d=>by
  cases hiv with
  |none=>cases h4
  |some q=>exact h2
 have hnil:cY P ty .nilslice lov hiv (some m)=some .nilslice:=by
  simp only[cY,hu,hs,zero,cond_true,h4,Option.isSome_some,Bool.not_true,Bool.and_false,cond_false]
 have hno:∀ a z sz',cY P ty (.slice a z 0 (some 0) sz') lov hiv (some m)=some (.slice a z 0 (some 0) sz'):=fun a z sz'=>by
  simp only[cY,hu,hs,ip,Nat.beq_refl,Bool.and_self,Bool.or_true,cond_true,zero,h4,Option.isSome_some,Bool.not_true,Bool.and_false,Bool.not_false]
 rcases r with r|⟨l,r⟩
 ·simp only[RD]at r
  rcases r with rfl|⟨a,z,sz',rfl⟩
  ·exact⟨_,hnil,by simp only[RD];exact .inl trivial⟩
  ·exact⟨_,hno a z sz',by simp only[RD];exact .inr ⟨a,z,sz',rfl⟩⟩
 ·simp only[RD]at r
  rcases r with⟨rfl,rfl⟩|⟨rfl,a,z,sz',rfl⟩|⟨a,z,cap,rfl,k1,k2,k3,k4,k5⟩
  ·exact⟨_,hnil,by simp only[RD];exact .inl trivial⟩
  ·exact⟨_,hno a z sz',by simp only[RD];exact .inr ⟨a,z,sz',rfl⟩⟩
  ·by_cases hnc:(Nat.beq l.length 0&&ip cap)=true
   ·simp only[Bool.and_eq_true]at hnc
    have hl:=Nat.eq_of_beq_eq_true hnc.1
    rw[hl]
    have hc:cap=some 0:=by
     cases cap with
     |none=>cases hnc.2
     |some c=>rw[Nat.eq_of_beq_eq_true hnc.2]
    subst hc
    exact⟨_,hno a z sz,by simp only[RD];exact .inr ⟨a,z,sz,rfl⟩⟩
   ·have hz:(Nat.beq sz 0||(Nat.beq l.length 0&&ip cap))=false:=by
     cases sz with
     |zero=>exact(Nat.lt_irrefl _ k1).elim
     |succ _=>cases hq:(Nat.beq l.length 0&&ip cap)with
      |true=>exact(hnc hq).elim
      |false=>rfl
    have hk:(cap.isSome||Nat.blt 0 l.length||Nat.beq z a.c)=true:=by
     rcases k2 with q|q
     ·rw[q];rfl
     ·rw[q,Nat.beq_refl];simp
    refine⟨.slice a 0 (0 - 0) (some 0) sz,?_,by simp only[RD];exact .inr ⟨a,0,sz,rfl⟩⟩
    simp only[cY,hu,hs,hz,cond_false,Nat.beq_refl,h4,Option.isSome_some,Bool.not_true,Bool.and_false,Bool.not_false,Bool.and_self,cond_true,h1,hd,h3,uT,hk]
theorem Gt(h:FI b P0 g t L tv LO){ty:TypeId}{x:D}{lo hi mx:Option D}{κ:D->DH->ai}(e:cu P ty x lo hi mx g.H κ=some out){v:V}(r:RD g x v){lov hiv mxv:Option V}(r1:rE g lo lov)(r2:rE g hi hiv)(r3:rE g mx mxv) :
 ∃ d H' v',κ d H'=some out/\cY P ty v lov hiv mxv=some v'/\uW b P0 g t L tv LO L H' g.s fun g' _=>RD g' d v':=by
 unfold cu at e
 split at e
 ·rename_i hu
  split at e
  ·rename_i l
   simp only[RD]at r
   obtain⟨rfl,hb⟩:=r
   split at e
   ·cases mxv with
    |some _=>exact r3.elim
    |none =>
    obtain⟨hn,e,h1,_⟩:=dI e r2
    obtain⟨bn,e,h2,_⟩:=dI e r1
    obtain⟨hc,e⟩:=ec e
    refine⟨_,_,.str ((l.drop bn).take (hn - bn)),e,by simp only[cY,hu,h1,h2,hc,cond_true],uW.same h ?_⟩
    simp only[RD]
    exact⟨trivial,fun c hc=>hb c (List.mem_of_mem_drop (List.mem_of_mem_take hc))⟩
   ·cases e
  ·cases e
 ·rename_i el hu
  split at e
  ·rename_i sz hs
   split at e
   ·cases mxv with
    |some _=>exact r3.elim
    |none =>
    split at e
    ·rename_i s l
     obtain⟨hb,e1⟩:=aG e
     clear e
     have hb:=Nat.eq_of_beq_eq_true hb
     subst hb
     obtain⟨d,v',e,k1,k2⟩:=rM e1 r r1 r2 hu hs
     exact⟨d,_,v',e,k1,uW.same h k2⟩
    ·rename_i s o n
     obtain⟨sz',st,cap,l,e1,hc,hc2,hn⟩:=lK e (gg.refl g)
     clear e
     obtain⟨hb,e⟩:=ec e1
     clear e1
     have hb:=Nat.eq_of_beq_eq_true hb
     subst hb
     simp only[RD]at r
     have hsz:sz'=s:=by
      obtain⟨st',cap',l',j1,_⟩:=r
      rw[hc2]at j1;cases j1;rfl
     subst hsz
     have hr:=Cz h.ok hc2 hn r
     have r1':rE (g.frz o sz' cap l) lo lov:=by cases lo<;>cases lov<;>first|exact r1|exact RD.mono (sj hc2) r1
     have r2':rE (g.frz o sz' cap l) hi hiv:=by cases hi<;>cases hiv<;>first|exact r2|exact RD.mono (sj hc2) r2
     obtain⟨d,v',e2,k1,k2⟩:=rM e hr r1' r2' hu hs
     exact⟨d,_,v',e2,k1,g.frz o sz' cap l,LO,rfl,rfl,h.frz hc2,GU hc2,.ps rfl,k2⟩
    ·obtain⟨hn,e1,h1,_⟩:=dI e r2
     obtain⟨bn,e2,h2,_⟩:=dI e1 r1
     clear e e1
     obtain⟨hc,e⟩:=ec e2
     clear e2
     simp only[Bool.and_eq_true]at hc
     obtain rfl:=Nat.eq_of_beq_eq_true hc.1
     obtain rfl:=Nat.eq_of_beq_eq_true hc.2
     have zero:(bK (er lov 0)&&bK (er hiv 0)&&bK (er none 0))=true:=by rw[h1,h2];rfl
     have r0:=r
     simp only[RD]at r
     refine⟨_,_,v,e,?_,uW.same h r0⟩
     rcases r with rfl|⟨a,z,sz',rfl⟩
     ·simp only[cY,hu,hs,zero,cond_true,Option.isSome_none,Bool.false_and,cond_false]
     ·simp only[cY,hu,hs,ip,Nat.beq_refl,Bool.and_self,Bool.or_true,cond_true,zero,Option.isSome_none,Bool.false_and,Bool.not_false]
    ·cases e
   ·rename_i md
    cases mxv with
    |none=>exact r3.elim
    |some mv =>
    obtain⟨mn,e1,h3,_⟩:=dI (o:=some md) (ov:=some mv) e r3
    obtain⟨hn,e2,h1,_⟩:=dI e1 r2
    obtain⟨bn,e3,h2,_⟩:=dI e2 r1
    clear e e1 e2
    obtain⟨hc,e⟩:=aG e3
    clear e3
    simp only[Bool.and_eq_true]at hc
    obtain⟨hc1,⟨hc2,hc3⟩,hc4⟩:=hc
    obtain rfl:=Nat.eq_of_beq_eq_true hc2
    obtain rfl:=Nat.eq_of_beq_eq_true hc3
    obtain rfl:=Nat.eq_of_beq_eq_true hc4
    have h4:hiv.isSome=true:=by rw[r2.isSome];exact hc1
    split at e
    ·rename_i s l
     obtain⟨hb,e1⟩:=aG e
     clear e
     have hb:=Nat.eq_of_beq_eq_true hb
     subst hb
     obtain⟨v',k1,k2⟩:=pW (g:=g) hu hs (.inr ⟨_,r⟩) h2 h1 h3 h4
     exact⟨_,_,v',e1,k1,uW.same h k2⟩
    ·rename_i s o n
     obtain⟨sz',st,cap,l,e1,hc,hc2,hn⟩:=lK e (gg.refl g)
     clear e
     obtain⟨hb,e⟩:=ec e1
     clear e1
     have hb:=Nat.eq_of_beq_eq_true hb
     subst hb
     simp only[RD]at r
     have hsz:sz'=s:=by
      obtain⟨st',cap',l',j1,_⟩:=r
      rw[hc2]at j1;cases j1;rfl
     subst hsz
     have hr:=Cz h.ok hc2 hn r
     obtain⟨v',k1,k2⟩:=pW hu hs (.inr ⟨_,hr⟩) h2 h1 h3 h4
     simp only[RD]at k2
     exact⟨_,_,v',e,k1,uW.same h (by simp only[RD];exact k2)⟩
    ·obtain⟨v',k1,k2⟩:=pW (g:=g) hu hs (.inl r) h2 h1 h3 h4
     exact⟨_,_,v',e,k1,uW.same h k2⟩
    ·cases e
  ·cases e
 ·cases e
theorem Gu{ty:TypeId}{x:D}{lo hi mx:Option D}{κ:D->DH->ai}(e:cu P ty x lo hi mx [] κ=some out){v:V}(r:RD g x v){lov hiv mxv:Option V}(r1:rE g lo lov)(r2:rE g hi hiv)(r3:rE g mx mxv) :
 ∃ d v',κ d []=some out/\cY P ty v lov hiv mxv=some v'/\RD g d v':=by
 have nob:∀ {o n:Nat} {k:Nat->Bool->Bool->List (List D)->ai},eD [] o n k=some out->False:=fun h=>by simp[eD]at h
 unfold cu at e
 split at e
 ·rename_i hu
  split at e
  ·rename_i l
   simp only[RD]at r
   obtain⟨rfl,hb⟩:=r
   split at e
   ·cases mxv with
    |some _=>exact r3.elim
    |none =>
    obtain⟨hn,e,h1,_⟩:=dI e r2
    obtain⟨bn,e,h2,_⟩:=dI e r1
    obtain⟨hc,e⟩:=ec e
    refine⟨_,.str ((l.drop bn).take (hn - bn)),e,by simp only[cY,hu,h1,h2,hc,cond_true],?_⟩
    simp only[RD]
    exact⟨trivial,fun c hc=>hb c (List.mem_of_mem_drop (List.mem_of_mem_take hc))⟩
   ·cases e
  ·cases e
 ·rename_i el hu
  split at e
  ·rename_i sz hs
   split at e
   ·cases mxv with
    |some _=>exact r3.elim
    |none =>
    split at e
    ·rename_i s l
     obtain⟨hb,e1⟩:=aG e
     clear e
     have hb:=Nat.eq_of_beq_eq_true hb
     subst hb
     obtain⟨d,v',e,k1,k2⟩:=rM e1 r r1 r2 hu hs
     exact⟨d,v',e,k1,k2⟩
    ·exact(nob e).elim
    ·obtain⟨hn,e1,h1,_⟩:=dI e r2
     obtain⟨bn,e2,h2,_⟩:=dI e1 r1
     clear e e1
     obtain⟨hc,e⟩:=ec e2
     clear e2
     simp only[Bool.and_eq_true]at hc
     obtain rfl:=Nat.eq_of_beq_eq_true hc.1
     obtain rfl:=Nat.eq_of_beq_eq_true hc.2
     have zero:(bK (er lov 0)&&bK (er hiv 0)&&bK (er none 0))=true:=by rw[h1,h2];rfl
     have r0:=r
     simp only[RD]at r
     refine⟨_,v,e,?_,r0⟩
     rcases r with rfl|⟨a,z,sz',rfl⟩
     ·simp only[cY,hu,hs,zero,cond_true,Option.isSome_none,Bool.false_and,cond_false]
     ·simp only[cY,hu,hs,ip,Nat.beq_refl,Bool.and_self,Bool.or_true,cond_true,zero,Option.isSome_none,Bool.false_and,Bool.not_false]
    ·cases e
   ·rename_i md
    cases mxv with
    |none=>exact r3.elim
    |some mv =>
    obtain⟨mn,e1,h3,_⟩:=dI (o:=some md) (ov:=some mv) e r3
    obtain⟨hn,e2,h1,_⟩:=dI e1 r2
    obtain⟨bn,e3,h2,_⟩:=dI e2 r1
    clear e e1 e2
    obtain⟨hc,e⟩:=aG e3
    clear e3
    simp only[Bool.and_eq_true]at hc
    obtain⟨hc1,⟨hc2,hc3⟩,hc4⟩:=hc
    obtain rfl:=Nat.eq_of_beq_eq_true hc2
    obtain rfl:=Nat.eq_of_beq_eq_true hc3
    obtain rfl:=Nat.eq_of_beq_eq_true hc4
    have h4:hiv.isSome=true:=by rw[r2.isSome];exact hc1
    split at e
    ·rename_i s l
     obtain⟨hb,e1⟩:=aG e
     clear e
     have hb:=Nat.eq_of_beq_eq_true hb
     subst hb
     obtain⟨v',k1,k2⟩:=pW (g:=g) hu hs (.inr ⟨_,r⟩) h2 h1 h3 h4
     exact⟨_,v',e1,k1,k2⟩
    ·exact(nob e).elim
    ·obtain⟨v',k1,k2⟩:=pW (g:=g) hu hs (.inl r) h2 h1 h3 h4
     exact⟨_,v',e,k1,k2⟩
    ·cases e
  ·cases e
 ·cases e
end Go.AI
namespace Go.AI
variable[fc]
variable{b:Nat}{P0:List Nat}{g:Gh}{LO:List Nat}{t:T LD}{L:LS}{tv:T V}{P:Program}{out:il}{E:cD}
def Rf(t t':T LD)(tv:T V):Prop:=∀(Q:Nat->LD->V->Prop),(∀ i q,Q i (.g (.bool q)) (.bool q))->(∀ i x,t.get (et i)=some x->∃ v,tv.get (et i)=some v/\Q i x v)->∀ i x,t'.get (et i)=some x->∃ v,tv.get (et i)=some v/\Q i x v
theorem Rf.refl(t:T LD)(tv:T V):Rf t t tv:=fun _ _ h=>h
theorem Rf.rt{t t':T LD}(r:Rf t t' tv)(h:zN g LO t tv):zN g LO t' tv:=r (fun _ x v=>RS g LO x v) (fun _ q=>by show RD _ _ _;simp only[RD]) h
theorem we{i:Nat}{q:Bool}(hv:tv.get (et i)=some (.bool q)):Rf t (T.set (some (.g (.bool q))) (et i) t) tv:=fun Q hq h j x hx=>by
 by_cases hd:i=j
 ·subst hd
  rw[T.get_set_same]at hx
  cases hx
  exact⟨_,hv,hq i q⟩
 ·rw[T.get_setN,if_neg hd]at hx
  exact h j x hx
theorem vh{x:Operand}{q:Bool}(hv:eval tv x=some (.bool q)):Rf t (Ix t x q) tv:=by
 cases x with
 |tmp i=>exact we hv
 |_=>exact Rf.refl t tv
theorem RN{d:D}{x y:ai}(h:brS d x y=some out):∃ q,d=.bool q/\(bif q then x else y)=some out:=by
 unfold brS at h
 split at h
 ·exact⟨_,rfl,h⟩
 ·cases h
theorem Bp{x y:ai}(h:yH x y=some out):x=some out/\y=some out:=by
 unfold yH at h
 split at h
 ·rename_i e;exact⟨h,e▸h⟩
 ·cases h
theorem Df{d:D}{x y:ai}(h:brD d x y=some out){v:V}(r:RD g d v):∃ q,v=.bool q/\(bif q then x else y)=some out:=by
 unfold brD at h
 split at h
 ·simp only[RD]at r;exact⟨_,r,h⟩
 ·simp only[RD]at r
  obtain⟨q,rfl⟩:=r
  obtain⟨h1,h2⟩:=Bp h
  cases q
  ·exact⟨_,rfl,h2⟩
  ·exact⟨_,rfl,h1⟩
 ·cases h
theorem Qw{P:Program}{op:BinOp}{ty el:TypeId}{x y:Operand}{d:D}{κ:D->ai}(h:Kz op d κ=some out)(hu:P.underlying ty=some (.slice el)){v w:V}(r:RD g d v)(hy:sC y=true)(hw:eval tv y=some w)(s:S) :
 ∃ d' v',κ d'=some out/\fp P s op ty x y (some v) (some w)=some v'/\RD g d' v':=by
 have hw2:w=.nilslice:=by
  unfold sC at hy
  split at hy
  ·rename_i c
   split at hy
   ·rename_i hc
    simp only[eval,hc]at hw
    exact(Option.some.inj hw).symm
   ·cases hy
  ·cases hy
 subst hw2
 unfold Kz at h
 obtain⟨hq,h⟩:=aG h
 have key:∀ {v:V},(v=.nilslice\/∃ a z n c sz,v=.slice a z n c sz)->∃ q,fp P s op ty x y (some v) (some .nilslice)=some (.bool q)/\((∃ a z n c sz,v=.slice a z n c sz)->q=Wu op):=fun {v} hv=>by
  have hg:eT P op ty x y v .nilslice=true:=by
   unfold eT
   rcases hv with rfl|⟨a,z,n,c,sz,rfl⟩<;>simp[hq]
  simp only[fp,hg,cond_true]
  rcases hv with rfl|⟨a,z,n,c,sz,rfl⟩
  ·cases op<;>first|(cases hq;done)|(simp only[ff,cF,hu,Option.map];exact⟨_,rfl,fun⟨a,z,n,c,sz,q⟩=>by cases q⟩)
  ·cases op<;>first|(cases hq;done)|(simp only[ff,cF,hu,Option.map];exact⟨_,rfl,fun _=>rfl⟩)
 split at h
 ·simp only[RD]at r
  obtain⟨q,h1,_⟩:=key (v:=v) (by rcases r with rfl|⟨a,z,sz,rfl⟩;exact .inl rfl;exact .inr ⟨_,_,_,_,_,rfl⟩)
  exact⟨_,_,h,h1,by simp only[RD];exact⟨q,rfl⟩⟩
 ·rename_i sz l _
  simp only[RD]at r
  cases l with
  |nil =>
   obtain⟨q,h1,_⟩:=key (v:=v) (by rcases r with⟨_,rfl⟩|⟨_,a,z,sz,rfl⟩|⟨a,z,cap,rfl,_⟩;exact .inl rfl;exact .inr ⟨_,_,_,_,_,rfl⟩;exact .inr ⟨_,_,_,_,_,rfl⟩)
   exact⟨_,_,h,h1,by simp only[RD];exact⟨q,rfl⟩⟩
  |cons e l =>
   rcases r with⟨q,_⟩|⟨q,_⟩|⟨a,z,cap,rfl,_⟩
   ·cases q
   ·cases q
   ·obtain⟨q,h1,h2⟩:=key (v:=.slice a z (e::l).length cap sz) (.inr ⟨_,_,_,_,_,rfl⟩)
    refine⟨_,_,h,h1,?_⟩
    rw[h2 ⟨_,_,_,_,_,rfl⟩]
    show RD _ _ _
    simp only[RD]
 ·cases h
theorem Bx.set{x:Operand}{q:Bool}{c:Operand}(hc:eval tv c=some (.bool q))(h:Bx g LO t tv x):Bx g LO (Ix t c q) tv x:=by
 intro y hy
 cases x with
 |tmp j =>
  cases c with
  |tmp i =>
   simp only[iu,Ix]at hy
   by_cases hd:i=j
   ·subst hd
    rw[T.get_set_same]at hy
    cases hy
    exact⟨_,hc,by show RD _ _ _;simp only[RD]⟩
   ·rw[T.get_setN,if_neg hd]at hy
    exact h y hy
  |_=>exact h y hy
 |_=>exact h y hy
theorem qp(o:Op){esc:Bool}{H:DH}{κ:T LD->zO->ai}(hk:aD E.E.P o<=1)(hs:(∀ ty x lo hi mx,o≠.slice ty x lo hi mx)\/H=[])(ho:∀ x∈o.operands.toList,Bx g LO t tv x)(hok:Ok g)(hl:VF g L LO)(hH:gg H g)(e:mA o E esc t L H κ=some out) :
 ∃ t' d v,κ t' (.val d L H)=some out/\cS o E.E tv g.s=some (.val v g.s)/\RS g LO d v/\Rf t t' tv:=by
 have fin:∀ {d:D} {v:V} {r:Option V},κ t (.val (.g d) L H)=some out->r=some v->RD g d v->∃ t' d v,κ t' (.val d L H)=some out/\bj g.s r=some (.val v g.s)/\RS g LO d v/\Rf t t' tv:=fun h1 h2 h3=>⟨t,_,_,h1,by rw[h2];rfl,h3,.refl t tv⟩
 cases o with
 |move x =>
  obtain⟨d,v,h1,_,h2,h3⟩:=lu e (ho x (by simp[Op.operands]))
  exact⟨t,d,v,h1,by simp only[cS,h2];rfl,h3,.refl t tv⟩
 |assign x =>
  obtain⟨d,v,h1,_,h2,h3⟩:=lu e (ho x (by simp[Op.operands]))
  exact⟨t,d,v,h1,by simp only[cS,h2];rfl,h3,.refl t tv⟩
 |pick c x y =>
  simp only[mA,Sx,pY]at e
  obtain⟨d,v,h1,_,h2,h3⟩:=bd e (ho c (by simp[Op.operands]))
  obtain⟨q,rfl,h4⟩:=RN h1
  simp only[RD]at h3
  subst h3
  cases q with
  |true =>
   obtain⟨d',v',k1,_,k2,k3⟩:=lu (x:=x) h4 ((ho x (by simp[Op.operands])).set h2)
   exact⟨_,d',v',k1,by simp only[cS,lC,h2,cond_true,k2];rfl,k3,vh h2⟩
  |false =>
   obtain⟨d',v',k1,_,k2,k3⟩:=lu (x:=y) h4 ((ho y (by simp[Op.operands])).set h2)
   exact⟨_,d',v',k1,by simp only[cS,lC,h2,cond_false,k2];rfl,k3,vh h2⟩
 |build ty parts =>
  simp only[mA]at e
  obtain⟨d,v,h1,h2,h3⟩:=Ll (LO:=LO) (tv:=tv) (g:=g) e (fun x hx=>ho x.2 (by simp only[Op.operands,List.mem_map];exact⟨x,hx,rfl⟩))
  exact fin h1 h2 h3
 |load ty x =>
  obtain⟨d,v,h1,_,h2,h3⟩:=lu e (ho x (by simp[Op.operands]))
  obtain⟨d',v',k1,k2,k3⟩:=Et h1 hH hok hl h3
  exact⟨t,_,v',k1,by simp only[cS,h2];exact k2,k3,.refl t tv⟩
 |nilCheck x =>
  obtain⟨d,v,h1,_,h2,h3⟩:=lu e (ho x (by simp[Op.operands]))
  obtain⟨k1,k2⟩:=RC h1 h3
  exact⟨t,d,v,k1,by simp only[cS,h2,k2];rfl,h3,.refl t tv⟩
 |binOp op ty x y yT =>
  obtain⟨a,v,h1,_,h2,h3⟩:=bd e (ho x (by simp[Op.operands]))
  obtain⟨c,w,h4,_,h5,h6⟩:=bd h1 (ho y (by simp[Op.operands]))
  cases hn:sC y with
  |true =>
   rw[hn,cond_true]at h4
   split at h4
   ·rename_i hu
    obtain⟨d,v',k1,k2,k3⟩:=Qw (x:=x) h4 hu h3 hn h5 g.s
    exact fin k1 (by rw[h2,h5];exact k2) k3
   ·cases h4
  |false =>
  rw[hn,cond_false]at h4
  obtain⟨d,v',k1,k2,k3⟩:=RU h4 h3 h6 g.s
  exact fin k1 (by rw[h2,h5];exact k2) k3
 |unOp op ty x =>
  obtain⟨a,v,h1,_,h2,h3⟩:=bd e (ho x (by simp[Op.operands]))
  obtain⟨d,v',k1,k2,k3⟩:=Tc h1 h3
  exact fin k1 (by rw[h2];exact k2) k3
 |convert src dst x =>
  obtain⟨a,v,h1,_,h2,h3⟩:=bd e (ho x (by simp[Op.operands]))
  obtain⟨d,v',k1,k2,k3⟩:=OH h1 h3 g.s
  exact⟨t,_,v',k1,by simp only[cS,h2,ga,k2];rfl,k3,.refl t tv⟩
 |makeInterface ty x =>
  obtain⟨a,v,h1,_,h2,h3⟩:=bd e (ho x (by simp[Op.operands]))
  split at h1
  ·cases h1
  ·rename_i hni hu
   refine fin (v:=.iface ty v) h1 ?_ (by simp only[RD];exact⟨v,rfl,h3⟩)
   rw[h2]
   unfold nR
   rw[hu]
   split
   ·rename_i q;exact(hni _ (Option.some.inj q)).elim
   ·rfl
   ·rename_i q;cases q
  ·cases h1
 |makeFunc fn first cap =>
  simp only[mA]at e
  split at e
  ·obtain⟨ds,vs,h1,h2,h3⟩:=jb e (fun x hx=>ho x (by simp[Op.operands]at hx ⊢;exact .inl hx))
   obtain⟨es,ws,h4,h5,h6⟩:=jb h1 (fun x hx=>ho x (by simp[Op.operands]at hx ⊢;exact .inr hx))
   refine fin (v:=.func (.func _) vs ws) h4 ?_ (by simp only[RD];exact⟨vs,ws,rfl,h3,h6⟩)
   simp only[qW,h2,h5,Ci]
  ·cases e
 |fieldAddr ty x f =>
  obtain⟨d,v,h1,_,h2,h3⟩:=lu e (ho x (by simp[Op.operands]))
  obtain⟨d',v',k1,k2,k3⟩:=KT h1 h3
  exact⟨t,d',v',k1,by simp only[cS,h2,k2];rfl,k3,.refl t tv⟩
 |field ty x f =>
  obtain⟨a,v,h1,_,h2,h3⟩:=bd e (ho x (by simp[Op.operands]))
  obtain⟨d,v',k1,k2,k3⟩:=KS h1 h3
  exact fin k1 (by rw[h2];exact k2) k3
 |indexAddr ty x i =>
  obtain⟨a,v,h1,_,h2,h3⟩:=bd e (ho x (by simp[Op.operands]))
  obtain⟨c,w,h4,_,h5,h6⟩:=bd h1 (ho i (by simp[Op.operands]))
  obtain⟨d,v',k1,k2,k3⟩:=KL h4 h3 h6
  exact fin k1 (by rw[h2,h5];exact k2) k3
 |index ty x i =>
  obtain⟨a,v,h1,_,h2,h3⟩:=bd e (ho x (by simp[Op.operands]))
  obtain⟨c,w,h4,_,h5,h6⟩:=bd h1 (ho i (by simp[Op.operands]))
  obtain⟨d,v',k1,k2,k3⟩:=KK h4 h3 h6
  exact fin k1 (by rw[h2,h5];exact k2) k3
 |lookup ty x k ok =>
  obtain⟨a,v,h1,_,h2,h3⟩:=bd e (ho x (by simp[Op.operands]))
  obtain⟨c,w,h4,_,h5,h6⟩:=bd h1 (ho k (by simp[Op.operands]))
  obtain⟨d,v',k1,k2,k3⟩:=Nz h4 hH hok h3 h6
  exact fin k1 (by rw[h2,h5];exact k2) k3
 |typeAssert x xT ty ok =>
  obtain⟨a,v,h1,_,h2,h3⟩:=bd e (ho x (by simp[Op.operands]))
  obtain⟨d,v',k1,k2,k3⟩:=HN h1 h3
  exact fin k1 (by rw[h2];exact k2) k3
 |extract x i =>
  obtain⟨a,v,h1,_,h2,h3⟩:=bd e (ho x (by simp[Op.operands]))
  obtain⟨d,v',k1,k2,k3⟩:=Rr h1 h3
  exact fin k1 (by rw[h2];exact k2) k3
 |slice ty x lo hi mx =>
  rcases hs with hs|rfl
  ·exact(hs _ _ _ _ _ rfl).elim
  obtain⟨d,v,h1,_,h2,h3⟩:=bd e (ho x (by simp[Op.operands]))
  obtain⟨d1,v1,h4,h5,h6⟩:=nQ h1 (fun y hy=>ho y (by subst hy;simp[Op.operands]))
  obtain⟨d2,v2,h7,h8,h9⟩:=nQ h4 (fun y hy=>ho y (by subst hy;simp[Op.operands]))
  obtain⟨d3,v3,i1,i2,i3⟩:=nQ h7 (fun y hy=>ho y (by subst hy;simp[Op.operands]))
  obtain⟨d',v',k1,k2,k3⟩:=Gu i1 h3 h6 h9 i3
  exact fin k1 (by rw[h2,h5,h8,i2];exact k2) k3
 |call c =>
  simp only[mA]at e
  obtain⟨ds,vs,h1,h2,h3⟩:=jb e (fun x hx=>ho x (by simp[Op.operands,Call.operands]at hx ⊢;exact .inr hx))
  simp only[cS,h2,gy]
  split at h1
  ·rename_i bi hc
   rw[hc]
   simp only[aD,hc]at hk
   simp only
   cases bi<;>first|(simp at hk;done)|skip
   case len =>
    simp only[lJ]at h1
    simp only[iv]
    split at h1
    ·rename_i a ha
     split at h1
     ·rename_i x
      simp only[RL]at h3
      obtain⟨v,vs',rfl,k1,rfl⟩:=h3
      obtain⟨d,v',j1,j2,j3⟩:=QN h1 hH hok k1
      rw[ha]
      exact fin j1 j2 j3
     ·cases h1
    ·cases h1
   case max =>
    simp only[lJ]at h1
    simp only[iv]
    split at h1
    ·simp only[RL]at h3
     obtain⟨v,vs',rfl,k1,k2⟩:=h3
     obtain⟨d,v',j1,j2,j3⟩:=wA h1 k1 k2
     exact fin j1 j2 j3
    ·cases h1
   case min =>
    simp only[lJ]at h1
    simp only[iv]
    split at h1
    ·simp only[RL]at h3
     obtain⟨v,vs',rfl,k1,k2⟩:=h3
     obtain⟨d,v',j1,j2,j3⟩:=wA h1 k1 k2
     exact fin j1 j2 j3
    ·cases h1
   case cap=>cases h1
  ·rename_i f hc
   simp[aD,hc]at hk
  ·cases h1
 |_=>first|(cases e;done)|(simp[aD]at hk;done)
def OpS(E:cU)(b:Nat)(P0:List Nat)(g:Gh)(t:T LD)(tv:T V)(L:LS)(LO:List Nat)(x:zO)(nx:Nx):Prop:=match x with
 |.val d L' H'=>∃ v s',nx=.val v s'/\uW b P0 g t L tv LO L' H' s' fun g' LO'=>RS g' LO' d v
 |.skip L' H'=>∃ s',nx=.skip s'/\uW b P0 g t L tv LO L' H' s' fun _ _=>True
 |.enter f args L' H'=>∃ vs,nx=.enter f vs g.s/\L'=L/\H'=g.H/\RL g args vs/\aT E f=true
 |.defer df L' H'=>∃ c a,nx=.defer (.call (.func df.fn) c a) g.s/\L'=L/\H'=g.H/\RL g df.captured c/\RL g df.args a/\aT E df.fn=true
 |.recover L' H'=>nx=.recover g.s/\L'=L/\H'=g.H
 |.panic d L' H'=>∃ v,nx=.panic v g.s/\L'=L/\H'=g.H/\RD g d v
 |.round o args L' H'=>∃ vs l v,nx=.round l vs g.s/\L'=L/\H'=g.H/\RL g args vs/\g.O[o]? = some (some (l,v))
theorem FI.rf(h:FI b P0 g t L tv LO){t':T LD}(r:Rf t t' tv):FI b P0 g t' L tv LO:=⟨h.ok,r.rt h.slots,h.own,h.pv,h.low,h.nd,h.bl⟩
theorem zN.ops(h:zN g LO t tv)(l:List Operand):∀ x∈l,Bx g LO t tv x:=fun x _=>h.op x
theorem GI(o:Op){esc:Bool}{κ:T LD->zO->ai}(h:FI b P0 g t L tv LO)(e:mA o E esc t L g.H κ=some out) :
 ∃ t' x nx,κ t' x=some out/\cS o E.E tv g.s=some nx/\Rf t t' tv/\OpS E.E b P0 g t tv L LO x nx:=by
 have rd:aD E.E.P o<=1->(∀ ty x lo hi mx,o≠.slice ty x lo hi mx)->∃ t' x nx,κ t' x=some out/\cS o E.E tv g.s=some nx/\Rf t t' tv/\OpS E.E b P0 g t tv L LO x nx:=fun hk hs=>by
  obtain⟨t',d,v,h1,h2,h3,h4⟩:=qp o hk (.inl hs) (h.slots.ops _) h.ok h.own.2 (gg.refl g) e
  exact⟨t',_,_,h1,h2,h4,v,g.s,rfl,uW.same h h3⟩
 cases o with
 |alloc elem =>
  simp only[mA]at e
  split at e
  ·rename_i z hz
   obtain⟨zv,h1,_,h3,h4⟩:=iK (g:=g) hz
   obtain⟨x,L',H',k1,k2⟩:=IX h e h3 h4 elem
   exact⟨t,_,_,k1,by simp only[cS,iG,h1,oG,aW,aV],.refl t tv,_,_,rfl,k2⟩
  ·cases e
 |box elem x =>
  simp only[mA]at e
  split at e
  ·obtain⟨d,v,h1,_,h2,h3⟩:=bd e (h.slots.op x)
   obtain⟨cs,h4,h5,h6,_⟩:=lI h1 h3
   obtain⟨x,L',H',k1,k2⟩:=IX h h4 h5 h6 elem
   exact⟨t,_,_,k1,by simp only[cS,qZ,h2,oG,aW,aV],.refl t tv,_,_,rfl,k2⟩
  ·cases e
 |buildSlice ty len parts =>
  simp only[mA]at e
  obtain⟨d,v,s',h1,h2,h3⟩:=yD h e (fun x _=>h.slots.op x.2)
  exact⟨t,_,_,h1,by simp only[cS];exact h2,.refl t tv,v,s',rfl,h3⟩
 |store ty x y =>
  obtain⟨d,v,h1,_,h2,h3⟩:=lu e (h.slots.op x)
  obtain⟨c,w,h4,_,h5,h6⟩:=bd h1 (h.slots.op y)
  obtain⟨s',L',H',k1,k2,k3⟩:=Kj h h4 h3 h6
  exact⟨t,_,_,k1,by simp only[cS,h2,h5];exact k2,.refl t tv,s',rfl,k3⟩
 |makeMap ty n =>
  cases n with
  |some _=>cases e
  |none=>exact⟨t,_,_,e,rfl,.refl t tv,_,_,rfl,KC h⟩
 |makeSlice ty l c =>
  simp only[mA]at e
  split at e
  ·rename_i el hu
   split at e
   ·rename_i i
    split at e
    ·rename_i j
     obtain⟨hb,e1⟩:=aG e
     clear e
     have hb:=Nat.eq_of_beq_eq_true hb
     subst hb
     obtain⟨d,v,h1,_,h2,h3⟩:=bd e1 (h.slots.op _)
     split at h1
     ·simp only[RD]at h3
      subst h3
      obtain⟨m,hm,h4⟩:=nJ h1
      subst hm
      obtain⟨l,sz,v,s',k1,k2,k3⟩:=QC h hu h4
      exact⟨t,_,_,k1,by simp only[cS,h2,dG,oI];exact k2,.refl t tv,v,s',rfl,k3⟩
     ·cases h1
    ·cases e
   ·cases e
  ·cases e
 |slice ty x lo hi mx =>
  obtain⟨d,v,h1,_,h2,h3⟩:=bd e (h.slots.op x)
  obtain⟨d1,v1,h4,h5,h6⟩:=nQ h1 (fun y _=>h.slots.op y)
  obtain⟨d2,v2,h7,h8,h9⟩:=nQ h4 (fun y _=>h.slots.op y)
  obtain⟨d3,v3,i1,i2,i3⟩:=nQ h7 (fun y _=>h.slots.op y)
  obtain⟨d',H',v',k1,k2,k3⟩:=Gt h i1 h3 h6 h9 i3
  exact⟨t,_,_,k1,by simp only[cS,h2,h5,h8,i2,vw,k2];rfl,.refl t tv,v',g.s,rfl,k3⟩
 |mapUpdate ty m k x =>
  obtain⟨d1,v1,h1,_,h2,h3⟩:=bd e (h.slots.op m)
  obtain⟨d2,v2,h4,_,h5,h6⟩:=bd h1 (h.slots.op k)
  obtain⟨d3,v3,h7,_,h8,h9⟩:=bd h4 (h.slots.op x)
  obtain⟨s',H',k1,k2,k3⟩:=Ep h h7 h3 h6 h9
  exact⟨t,_,_,k1,by simp only[cS,h2,h5,h8];exact k2,.refl t tv,s',rfl,k3⟩
 |insert ty m k x =>
  obtain⟨d1,v1,h1,_,h2,h3⟩:=bd e (h.slots.op m)
  obtain⟨d2,v2,h4,_,h5,h6⟩:=bd h1 (h.slots.op k)
  obtain⟨d3,v3,h7,_,h8,h9⟩:=bd h4 (h.slots.op x)
  obtain⟨s',H',k1,k2,k3⟩:=Ep h h7 h3 h6 h9
  exact⟨t,_,_,k1,by simp only[cS,h2,h5,h8];exact k2,.refl t tv,s',rfl,k3⟩
 |call c =>
  have e0:=e
  simp only[mA]at e
  obtain⟨ds,vs,h1,h2,h3⟩:=jb e (fun x _=>h.slots.op x)
  split at h1
  ·rename_i bi hc
   have pure:(bi=.len\/bi=.max\/bi=.min)->∃ t' x nx,κ t' x=some out/\cS (.call c) E.E tv g.s=some nx/\Rf t t' tv/\OpS E.E b P0 g t tv L LO x nx:=fun hb=>by
    refine rd ?_ (fun _ _ _ _ _ q=>by cases q)
    rcases hb with rfl|rfl|rfl<;>simp[aD,hc]
   cases bi<;>first|(cases h1;done)|exact pure (.inl rfl)|exact pure (.inr (.inl rfl))|exact pure (.inr (.inr rfl))|skip
   case append =>
    simp only[lJ]at h1
    split at h1
    ·rename_i a ha
     split at h1
     ·rename_i c2 hb
      split at h1
      ·simp only[RL]at h3
       obtain⟨v1,vs1,rfl,k1,v2,vs2,rfl,k2,rfl⟩:=h3
       obtain⟨d,H',v,s',j1,j2,j3⟩:=HO h h1 k1 k2
       exact⟨t,_,_,j1,by simp only[cS,h2,gy,hc,iv,ha,hb,j2,ia],.refl t tv,v,s',rfl,j3⟩
      ·cases h1
     ·cases h1
    ·cases h1
   case recover=>exact⟨t,_,_,h1,by simp only[cS,h2,gy,hc,iv],.refl t tv,rfl,rfl,rfl⟩
   case panic =>
    simp only[lJ]at h1
    split at h1
    ·simp only[RL,RD]at h3
     obtain⟨v1,vs1,rfl,⟨v',rfl,k1⟩,rfl⟩:=h3
     exact⟨t,_,.panic (.iface _ v') g.s,h1,by simp only[cS,h2,gy,hc,iv];rfl,.refl t tv,_,rfl,rfl,rfl,by simp only[RD];exact⟨v',rfl,k1⟩⟩
    ·cases h1
  ·rename_i f hc
   obtain⟨d,v,k1,_,k2,k3⟩:=bd h1 (h.slots.op f)
   split at k1
   ·unfold HX at k1
    split at k1
    ·simp only[RD]at k3
     obtain⟨l,v',j1,rfl⟩:=k3
     exact⟨t,_,.round l vs g.s,k1,by simp only[cS,h2,gy,hc,k2,JP,List.nil_append],.refl t tv,vs,l,v',rfl,rfl,rfl,h3,j1⟩
    ·cases k1
   unfold Dc at k1
   split at k1
   ·rename_i gf first cap
    obtain⟨hb,k1⟩:=aG k1
    simp only[RD]at k3
    obtain⟨a',b',rfl,j1,j2⟩:=k3
    refine⟨t,_,_,k1,?_,.refl t tv,a'++(vs++b'),rfl,rfl,rfl,j1.append (h3.append j2),hb⟩
    simp only[cS,h2,gy,hc,k2,JP,JQ]
    unfold aT at hb
    split at hb
    ·rename_i fn hf
     rw[hf]
     simp only
     split
     ·rename_i q;rw[q]at hb;cases hb
     ·rfl
    ·cases hb
   ·cases k1
  ·cases h1
 |defer c =>
  simp only[mA]at e
  obtain⟨ds,vs,h1,h2,h3⟩:=jb e (fun x _=>h.slots.op x)
  split at h1
  ·rename_i f hc
   obtain⟨d,v,k1,_,k2,k3⟩:=bd h1 (h.slots.op f)
   split at k1
   ·obtain⟨hb,k1⟩:=aG k1
    simp only[RD]at k3
    obtain⟨a',b',rfl,j1,j2⟩:=k3
    exact⟨t,_,_,k1,by simp only[cS,h2,nW,hc,k2,CS],.refl t tv,b',a'++vs,rfl,rfl,rfl,j2,j1.append h3,hb⟩
   ·cases k1
  ·cases h1
 |panic x =>
  simp only[mA]at e
  obtain⟨d,v,k1,_,k2,k3⟩:=bd e (h.slots.op x)
  split at k1
  ·simp only[RD]at k3
   obtain⟨v',rfl,j1⟩:=k3
   exact⟨t,_,.panic (.iface _ v') g.s,k1,by simp only[cS,k2,vz];rfl,.refl t tv,_,rfl,rfl,rfl,by simp only[RD];exact⟨v',rfl,j1⟩⟩
  ·cases k1
 |convert src dst x =>
  refine rd ?_ (fun _ _ _ _ _ q=>by cases q)
  obtain⟨a,v,h1,_,h2,h3⟩:=bd e (h.slots.op x)
  unfold oV at h1
  revert h1
  cases (E.E.P.underlying src).isNone with
  |true=>intro h1;cases h1
  |false =>
   intro h1
   simp only[cond_false]at h1
   split at h1
   ·rename_i hu;simp[aD,hu]
   ·rename_i hu;simp[aD,hu]
   ·cases h1
 |binOp op ty x y yT=>exact rd (by simp only[aD];cases mJ op<;>simp) (fun _ _ _ _ _ q=>by cases q)
 |_=>first
  |(cases e;done)
  |exact rd (by simp[aD]) (fun _ _ _ _ _ q=>by cases q)
end Go.AI
namespace Go.AI
variable[fc]
variable{b:Nat}{P0:List Nat}{g g':Gh}{LO:List Nat}{t:T LD}{L:LS}{tv:T V}{P:Program}{out:il}{E:cD}
theorem fQ{s s':S}{r:Option V}{v:V}(h:bj s r=some (.val v s)):bj s' r=some (.val v s'):=by
 unfold bj at h ⊢
 split at h
 ·cases h;rfl
 ·cases h
theorem po{ty:TypeId}{cs:List D}{c:Nat}{κ:D->ai}(h:cZ P ty cs c κ=some out){s s':S}{a:Ad}{vs:List V}(h1:loadCells s a cs.length=some vs)(h2:loadCells s' a cs.length=some vs):loadVar P s ty (ci a c)=loadVar P s' ty (ci a c):=by
 unfold cZ at h
 unfold loadVar
 split at h
 ·rename_i ha
  split at h
  ·rename_i n hn
   obtain⟨hn0,h⟩:=aG h
   obtain⟨_,h4⟩:=gq h
   have hn0:=Nat.le_of_ble_eq_true hn0
   rw[ha,hn]
   simp only[Option.bind]
   rw[gE h1 (by omega),gE h2 (by omega)]
  ·cases h
 ·rename_i ha
  obtain⟨d,h3,_⟩:=iH h
  have hlt:c<cs.length:=by
   rcases Nat.lt_or_ge c cs.length with q|q
   ·exact q
   ·rw[List.getElem?_eq_none q]at h3;cases h3
  have hlv:c<vs.length:=by rw[zt h1];exact hlt
  have hv:vs[c]? = some vs[c]:=List.getElem?_eq_getElem hlv
  rw[ha]
  simp only
  rw[lq h1 hv,lq h2 hv]
 ·cases h
def uH(H:DH):Prop:=∀(o:Nat) b,H[o]? = some b->b=.dead\/∃ st cs,b=.cells st cs
theorem uH.nil:uH []:=fun o b h=>by simp at h
theorem TM{H:DH}(h:uH H){o n:Nat}{k:Nat->Bool->Bool->List (List D)->ai}:eD H o n k≠some out:=fun e=>by
 unfold eD at e
 split at e
 ·rename_i sz st cap l hc
  rcases h o _ hc with q|⟨_,_,q⟩<;>cases q
 ·cases e
theorem Nl{H:DH}(h:uH H){o:Nat}{k:List (D×D)->ai}:qz H o k≠some out:=fun e=>by
 unfold qz at e
 split at e
 ·rename_i es hc
  rcases h o _ hc with q|⟨_,_,q⟩<;>cases q
 ·cases e
theorem yc{d:Nat}{ty:TypeId}{x y:D}{κ:Bool->ai}{v w:V}(h:KX P d ty x y κ=some out)(r1:RD g x v)(r2:RD g y w):∃ q,∀ okf,cF P okf d ty v w=some q:=by
 obtain⟨q,hq⟩:=Dl P d ty x y κ out h
 refine⟨q,fun okf=>?_⟩
 obtain⟨q',h1,h2⟩:=CI (κ:=fun p=>bif p==q then some out else none) okf (by rw[hq];simp;rfl) r1 r2
 have:q'=q:=by
  cases hp:(q'==q)with
  |true=>exact eq_of_beq hp
  |false=>simp only[hp,cond_false]at h1;cases h1
 rw[<- this];exact h2
theorem Vl{op:BinOp}{ty:TypeId}{x y:Operand}{c d:D}{κ:D->ai}(h:aC P op ty (eF x||eF y) c d κ=some out){v w:V}(r1:RD g c v)(r2:RD g d w){s s':S}:fp P s op ty x y (some v) (some w)=fp P s' op ty x y (some v) (some w):=by
 simp only[fp]
 congr 1
 unfold ff
 split
 ·rfl
 ·rfl
 ·rename_i n1 n2
  unfold aC at h
  split at h
  ·simp only[RD]at r1 r2;subst r1 r2;exact(n1 _ _ _ _ rfl rfl).elim
  ·simp only[RD]at r1 r2;obtain⟨rfl,_⟩:=r1;obtain⟨rfl,_⟩:=r2;exact(n2 _ _ rfl rfl).elim
  ·obtain⟨_,h⟩:=aG h
   split at h
   ·obtain⟨q,hq⟩:=yc h r1 r2
    simp only[hq]
   ·obtain⟨q,hq⟩:=yc h r1 r2
    simp only[hq]
   ·cases h
theorem TO{op:BinOp}{ty el:TypeId}{x y:Operand}{d:D}{κ:D->ai}(h:Kz op d κ=some out)(hu:P.underlying ty=some (.slice el)){v w:V}(r:RD g d v)(hy:sC y=true)(hw:eval tv y=some w){s s':S}:fp P s op ty x y (some v) (some w)=fp P s' op ty x y (some v) (some w):=by
 simp only[fp]
 congr 1
 unfold ff
 split
 ·rfl
 ·rfl
 ·simp only[cF,hu]
theorem RA{src dst:TypeId}{x:D}{κ:D->ai}(h:oV P src dst x κ=some out){v:V}(r:RD g x v){s s':S}{y:V}(hy:gU P s src dst v=some (y,s)):gU P s' src dst v=some (y,s'):=by
 unfold oV at h
 cases hs:P.underlying src with
 |none=>rw[hs]at h;cases h
 |some ds =>
 rw[hs]at h
 simp only[Option.isNone_some,cond_false]at h
 split at h
 ·rename_i k hu
  split at h
  ·simp only[RD]at r;subst r
   simp only[gU,hs,hu]at hy ⊢
   cases hy;rfl
  ·cases h
 ·rename_i hu
  split at h
  ·simp only[RD]at r
   obtain⟨rfl,_⟩:=r
   simp only[gU,hs,hu,zU]at hy ⊢
   cases hy;rfl
  ·cases h
 ·cases h
theorem QL{ty:TypeId}{x:LD}{H:DH}{κ:D->ai}(h:oK P ty x L H κ=some out)(hs:gg H g)(hc:uH H)(hok:Ok g)(hl:VF g L LO){v:V}(r:RS g LO x v)(hm:ot g g')
 (hp:∀(k:Nat) y f,L[k]? = some y->LO[k]? = some f->y.2≠[]->g'.s.get f=g.s.get f) (hob:∀(o:Nat) st cs f v,H[o]? = some (.cells st cs)->g.O[o]? = some (some (f,v))->g'.s.get f=g.s.get f) :
 ∀ w,ii P g.s ty (some v)=some (.val w g.s)->ii P g'.s ty (some v)=some (.val w g'.s):=by
 have key:∀ {a:Ad},v=.ptr a->loadVar P g.s ty a=loadVar P g'.s ty a->∀ w,ii P g.s ty (some v)=some (.val w g.s)->ii P g'.s ty (some v)=some (.val w g'.s):=fun {a} hv he w hw=>by
  subst hv
  rw[jd]at hw ⊢
  rw[<- he];exact fQ hw
 cases x with
 |u=>cases h
 |lp k c =>
  simp only[oK]at h
  obtain⟨f,h1,rfl⟩:=r
  split at h
  ·rename_i st cs hk
   by_cases hne:cs=[]
   ·subst hne
    exfalso
    unfold cZ at h
    split at h
    ·split at h
     ·obtain⟨hn,h⟩:=aG h
      obtain⟨_,q⟩:=gq h
      have:=Nat.le_of_ble_eq_true hn
      simp at q
      omega
     ·cases h
    ·obtain⟨d,q,_⟩:=iH h
     simp at q
    ·cases h
   ·obtain⟨_,h2|⟨el,vs,h2,h3,h4⟩⟩:=hl k _ f hk h1
    ·exact(hne h2).elim
    ·have h5:=hp k _ f hk h1 hne
     refine key (a:=ci ⟨f,0,0⟩ c) (by simp[ci]) (po (vs:=vs) h ?_ ?_)
     ·rw[<- h3.len];exact Hf h2
     ·rw[<- h3.len];exact Hf (by rw[h5];exact h2)
  ·cases h
 |g d =>
  have r:RD g d v:=r
  simp only[oK]at h
  unfold eC at h
  split at h
  ·simp only[RD]at r
   obtain⟨a,vs,rfl,h1,h2,h3,h4⟩:=r
   exact key rfl (po h h2 (hm.cells _ _ _ h1 h2))
  ·rename_i o c _
   simp only[RD]at r
   obtain⟨f,ver,h1,rfl⟩:=r
   obtain⟨st,cs,f',el,vs,h,h0,_,h2,h3,h4,h5⟩:=Cd h hs hok
   rw[h1]at h2;cases h2
   refine key (a:=ci ⟨f,0,0⟩ c) (by simp[ci]) (po (vs:=vs) h ?_ ?_)
   ·rw[<- h4.len];exact Hf h3
   ·rw[<- h4.len];exact Hf (by rw[hob _ st cs f 0 h0 h1];exact h3)
  ·exact(TM hc h).elim
  ·cases h
theorem An(o:Op){esc:Bool}{H:DH}{κ:T LD->zO->ai}(hk:aD E.E.P o<=1)(ho:∀ x∈o.operands.toList,Bx g LO t tv x)(hok:Ok g)(hl:VF g L LO)(hH:gg H g)(hc:uH H)(e:mA o E esc t L H κ=some out)(hm:ot g g')
 (hp:∀(k:Nat) y f,L[k]? = some y->LO[k]? = some f->y.2≠[]->g'.s.get f=g.s.get f) (hob:∀(o:Nat) st cs f v,H[o]? = some (.cells st cs)->g.O[o]? = some (some (f,v))->g'.s.get f=g.s.get f) :
 ∀ w,cS o E.E tv g.s=some (.val w g.s)->cS o E.E tv g'.s=some (.val w g'.s):=by
 intro w hw
 cases o with
 |load ty x =>
  obtain⟨d,v,h1,_,h2,h3⟩:=lu e (ho x (by simp[Op.operands]))
  simp only[cS,h2]at hw ⊢
  exact QL h1 hH hc hok hl h3 hm hp hob w hw
 |binOp op ty x y yT =>
  obtain⟨a,v,h1,_,h2,h3⟩:=bd e (ho x (by simp[Op.operands]))
  obtain⟨c,w',h4,_,h5,h6⟩:=bd h1 (ho y (by simp[Op.operands]))
  simp only[cS,h2,h5]at hw ⊢
  cases hn:sC y with
  |true =>
   rw[hn,cond_true]at h4
   split at h4
   ·rename_i hu
    have e1:fp E.E.P g.s op ty x y (some v) (some w')=fp E.E.P g'.s op ty x y (some v) (some w'):=TO h4 hu h3 hn h5
    rw[<- e1]
    exact fQ hw
   ·cases h4
  |false =>
  rw[hn,cond_false]at h4
  rw[Vl h4 h3 h6 (s:=g'.s) (s':=g.s)]
  exact fQ hw
 |convert src dst x =>
  obtain⟨a,v,h1,_,h2,h3⟩:=bd e (ho x (by simp[Op.operands]))
  simp only[cS,h2,ga]at hw ⊢
  have:gU E.E.P g.s src dst v=some (w,g.s):=by
   revert hw
   cases gU E.E.P g.s src dst v with
   |none=>intro hw;cases hw
   |some p=>intro hw;obtain⟨p1,p2⟩:=p;simp only[ia,Option.some.injEq,Nx.val.injEq]at hw;rw[hw.1,hw.2]
  rw[RA h1 h3 this];rfl
 |lookup ty x k ok =>
  obtain⟨a,v,h1,_,h2,h3⟩:=bd e (ho x (by simp[Op.operands]))
  obtain⟨c,w',h4,_,h5,h6⟩:=bd h1 (ho k (by simp[Op.operands]))
  simp only[cS,h2,h5]at hw ⊢
  unfold qC at h4
  split at h4
  ·rename_i td el hme
   obtain⟨kt,hu,_,_,hsk⟩:=mG hme
   split at h4
   ·obtain⟨_,h4⟩:=aG h4
    exact(Nl hc h4).elim
   ·simp only[RD]at h3;subst h3
    simp only[jc,hu,yg,bS]at hw ⊢
    exact fQ hw
   ·cases h4
  ·cases h4
 |call c =>
  simp only[mA]at e
  obtain⟨ds,vs,h1,h2,h3⟩:=jb e (fun x hx=>ho x (by simp[Op.operands,Call.operands]at hx ⊢;exact .inr hx))
  simp only[cS,h2,gy]at hw ⊢
  split at h1
  ·rename_i bi hcc
   rw[hcc]at hw ⊢
   simp only[aD,hcc]at hk
   simp only at hw ⊢
   cases bi<;>first|(simp at hk;done)|skip
   case len =>
    simp only[lJ]at h1
    simp only[iv]at hw ⊢
    split at h1
    ·rename_i a ha
     split at h1
     ·simp only[RL]at h3
      obtain⟨v,vs',rfl,k1,rfl⟩:=h3
      rw[ha]at hw ⊢
      simp only at hw ⊢
      have hv:kb E.E.P a g.s v=kb E.E.P a g'.s v:=by
       unfold kb
       split<;>first|rfl|skip
       rename_i r _ hu
       exfalso
       unfold bY at h1
       rw[hu]at h1
       simp only at h1
       have ht:=k1.tag
       split at h1
       ·exact Nl hc h1
       ·cases ht
       ·cases h1
      rw[<- hv];exact fQ hw
     ·cases h1
    ·cases h1
   case max=>exact fQ hw
   case min=>exact fQ hw
   case cap=>cases h1
  ·rename_i f hcc
   simp[aD,hcc]at hk
  ·cases h1
 |pick c x y =>
  simp only[cS,lC]at hw ⊢
  split at hw
  ·exact fQ hw
  ·cases hw
 |_=>first|(cases e;done)|(simp[aD]at hk;done)|(simp only[cS]at hw ⊢;exact fQ hw)
end Go.AI
