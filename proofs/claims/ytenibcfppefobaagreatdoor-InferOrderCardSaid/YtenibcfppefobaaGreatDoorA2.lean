/- Evaluators by which runs of the program are reckoned, that they are sound, and what the functions answer: part 2. No conditions beyond those of the row. -/
import Derived.Test.YtenibcfppefobaaGreatDoorA1
import Derived.Orders
import Derived.Test.YtenibcfppefobaaGreatDoorChecked
import Derived.KernelRfl
set_option linter.all false
noncomputable section
set_option linter.all false
noncomputable section
namespace Go.AI
theorem Ao{ρ:aw}{u:Md}{fm:FrameMode}(h:Nk ρ u fm):Nk ρ (ix u) (settle fm):=by
 cases u with
 |run=>cases fm<;>first|exact h|exact h.elim
 |returning=>cases fm<;>first|exact h|exact h.elim
 |panicking c=>cases fm with
  |run=>exact h.elim
  |returning=>exact h.elim
  |panicking ch =>
   cases c with
   |nil=>cases ch with
    |nil=>exact h
    |cons _ _=>exact h.elim
   |cons p ps=>cases ch with
    |nil=>exact h.elim
    |cons q qs =>
     obtain⟨⟨h1,h2,h3⟩,h4⟩:=h
     obtain⟨pv,pr⟩:=p
     obtain⟨qv,qr,qg⟩:=q
     simp only at h1 h2 h3
     subst h2;subst h3
     cases pr with
     |false=>exact⟨⟨h1,rfl,rfl⟩,h4⟩
     |true =>
      have hno:∀(ps:List Cb) (qs:List PanicEntry),lT ρ ps qs->qs.dropWhile (fun e=>!e.goexit)=[]:=by
       intro ps
       induction ps with
       |nil=>intro qs hq;cases qs with
        |nil=>rfl
        |cons _ _=>exact hq.elim
       |cons p ps ih=>intro qs hq;cases qs with
        |nil=>exact hq.elim
        |cons q qs =>
         obtain⟨⟨_,_,g3⟩,g4⟩:=hq
         rw[List.dropWhile_cons,g3]
         simpa using ih qs g4
      simp only[ix,settle,hno ps qs h4]
      trivial
theorem AE{ρ:aw}{u:Md}{fm:FrameMode}{c:List Cb}{ch:List PanicEntry}(h:Nk ρ u fm)(hc:lT ρ c ch):Nk ρ (ql u c) (raised fm ch):=by
 cases u with
 |run=>cases fm<;>first|exact hc|exact h.elim
 |returning=>cases fm<;>first|exact hc|exact h.elim
 |panicking d=>cases fm with
  |run=>exact h.elim
  |returning=>exact h.elim
  |panicking dh=>exact lT.append hc h
section
variable{E:cV}{ih:rE->S->Option eO}{f:FuncId}{fn:Func}
def NP(tm:Array Value):ResultVar->Sem Value
 |.tmp t=>pure (tm.getD t undef)
 |.cell a t=>do Go.loadVar t (<- asAddr (tm.getD a undef))
theorem EU(fn:Func)(tm:Array Value):results fn tm=(do let vs <- fn.results.mapM (NP tm);pure (if h:vs.size=1 then vs[0] else .tuple vs)):=by
 unfold results
 congr 1
theorem xZ{P:Program}{ρ:aw}{s:S}{w:World}(h:HR ρ s w){t:T V}{tm:Array Value}(ht:TR ρ t tm){x:ResultVar}{v:V}(e:nK P t s x=some v) :
 ∃ y,den ρ v=some y/\(NP tm x).run P w=.ok y w:=by
 have at_:∀ i u,t.get (eB i)=some u->den ρ u=some (tm.getD i undef):=fun i u hu=>by
  obtain⟨y,h1,h2⟩:=ht i u hu
  simp_all
 cases x with
 |tmp i=>exact⟨_,at_ _ _ e,rfl⟩
 |cell a ty =>
  simp only[nK]at e
  split at e
  ·rename_i ad hp
   obtain⟨a1,y,h1,h2,h3⟩:=oC h e
   have:=at_ _ _ hp
   simp only[den,h1,Option.some.injEq]at this
   refine⟨y,h2,?_⟩
   simp only[NP,Sem.run_bind,<- this,asAddr,Sem.run_pure,Result.andThen_ok,h3]
  ·cases e
theorem oA{P:Program}{ρ:aw}{s:S}{w:World}(h:HR ρ s w){t:T V}{tm:Array Value}(ht:TR ρ t tm):∀ {l:List ResultVar} {vs:List V},jw P t s l=some vs ->
 ∃ ys,aL ρ vs=some ys/\(l.mapM (NP tm)).run P w=.ok ys w
 |[],vs,e=>by cases e;exact⟨[],rfl,rfl⟩
 |x::l,vs,e=>by
  simp only[jw]at e
  cases hx:nK P t s x with
  |none=>simp[hx]at e
  |some v =>
   cases hl:jw P t s l with
   |none=>simp[hx,hl]at e
   |some q =>
    simp only[hx,hl,Option.some.injEq]at e
    subst e
    obtain⟨y,h1,h2⟩:=xZ (P:=P) (w:=w) h ht hx
    obtain⟨ys,h3,h4⟩:=oA h ht hl
    refine⟨y::ys,aO.2 ⟨y,ys,h1,h3,rfl⟩,?_⟩
    simp_all
theorem xY{P:Program}{ρ:aw}{s:S}{w:World}(h:HR ρ s w){t:T V}{tm:Array Value}(ht:TR ρ t tm){v:V}(e:qh P fn t s=some v):∃ y,den ρ v=some y/\(results fn tm).run P w=.ok y w:=by
 unfold qh at e
 split at e
 ·rename_i l hl
  cases e
  obtain⟨ys,h1,h2⟩:=oA (P:=P) (w:=w) h ht hl
  have hr:(results fn tm).run P w=.ok (if h:ys.toArray.size=1 then ys.toArray[0] else .tuple ys.toArray) w:=by
   rw[EU,Array.mapM_eq_mapM_toList]
   simp[h2]
  refine⟨_,?_,hr⟩
  have hlen:=bw h1
  cases l with
  |nil =>
   cases h1
   rfl
  |cons v l=>cases l with
   |nil =>
    obtain⟨y,hy,rfl⟩:=lO h1
    simpa[vJ]using hy
   |cons v2 l =>
    obtain⟨y,q,hy,hq,rfl⟩:=aO.1 h1
    obtain⟨y2,q,hy2,hq2,rfl⟩:=aO.1 hq
    simp only[vJ,den,h1]
    simp
 ·cases e
theorem zk{P:Program}{ρ:aw}{s:S}{w:World}(h:HR ρ s w){t:T V}{todo:List Item}{m:Md}{up:Option Md}{rd:Option Nat}{fr:Frame}{cs:List Frame}(hF:jp P ρ f fn t todo [] m up rd fr cs){e:Uh}{en:Ending}(he:Nl ρ e en)
 (hgo:fr.going P w en):oQ P f up.isSome rd.isSome cs (lone fr cs w) ρ w ⟨e,up,s⟩:=by
 refine⟨ρ,w,h,FR.refl ρ w,?_⟩
 have hleave:up=none->fr.leaving P w en:=by
  intro hu
  have hk:fr.kind=.normal:=by have:=hF.up;rw[hu]at this;exact this
  cases en with
  |returned v=>obtain⟨a,b,c⟩:=hgo;exact⟨a,b,hk,c⟩
  |panicked ch=>exact hgo
  |outgrown=>trivial
 cases rd with
 |some l =>
  have hu:up=none:=hF.rd.1
  intro c cs' hc
  subst hc
  refine⟨en,he,.one ?_⟩
  cases en with
  |returned v=>exact step_leave_returned (hleave hu)
  |panicked ch=>exact step_leave_panicked (hleave hu)
  |outgrown=>cases e<;>exact he.elim
 |none =>
  cases up with
  |none=>exact⟨fr,en,he,Steps.refl _ _,hF.name,hleave rfl⟩
  |some u =>
   obtain⟨hk,c0,cs0,rfl,hmd⟩:=hF.up
   intro c cs' hc
   cases hc
   exact⟨fr,en,u,c0.mode,rfl,hmd,he,Steps.refl _ _,hk,hgo⟩
theorem pO(hg:Good E.P ih){t:T V}{todo:List Item}{ds:List eh}{m:Md}(hm:m≠.run){up:Option Md}{rd:Option Nat}{s:S}{out:eO}
 (e:cW ds E fn (fQ ih f fn) (bv ih) t m up rd s=some out) {ρ:aw} {w:World} {fr:Frame} {cs:List Frame} (h:HR ρ s w) (hF:jp E.P ρ f fn t todo ds m up rd fr cs):oQ E.P f up.isSome rd.isSome cs (lone fr cs w) ρ w out:=by
 have hfm:fr.mode≠.run:=by
  intro hq
  have:=hF.md
  rw[hq]at this
  cases m<;>first|exact hm rfl|exact this.elim
 unfold cW at e
 split at e
 ·rename_i d ds'
  have hds:=hF.ds
  cases hfd:fr.defers with
  |nil=>rw[hfd]at hds;exact hds.elim
  |cons r rs =>
   rw[hfd]at hds
   obtain⟨⟨l,h1,h2⟩,h3⟩:=hds
   subst h2
   unfold jR at e
   split at e
   ·rename_i hs
    obtain⟨l',g1,g2⟩:=h.blk _ _ hs
    rw[h1]at g1;cases g1
    have hrun:=run_takeDeferred (P:=E.P) g2
    obtain⟨j1,j2⟩:=h.turn h1 hs (fun _ h=>by cases h) (uC w l.b (.deferred none)) .gone trivial
    have hstep:=Ah (P:=E.P) (cs:=cs) rfl hfm hfd hrun
    have hF':jp E.P ρ f fn t [] ds' m up rd { fr with defers:=[]++rs } cs:=⟨hF.name,hF.func,hF.tr,hF.size,fun q=>absurd q hm,h3,hF.md,hF.rd,hF.up⟩
    exact oQ.of_steps (.one hstep) j2 (bG hg e _ _ _ _ j1 hF')
   ·cases e
 ·rename_i g captured args ds'
  have hds:=hF.ds
  cases hfd:fr.defers with
  |nil=>rw[hfd]at hds;exact hds.elim
  |cons r rs =>
   rw[hfd]at hds
   obtain⟨⟨gf,cc,aa,h1,h2,h3,h4⟩,h5⟩:=hds
   cases h1
   subst h4
   cases hr:bv ih g (args++captured) (some m) s with
   |none=>rw[hr]at e;cases e
   |some o1 =>
    rw[hr]at e
    obtain⟨hcall,hfin⟩:=hg (.call g (args++captured) (some m)) s o1 hr ρ w _ h (cU h3 h2)
    obtain⟨ρ1,w1,j1,j2,j3⟩:=hfin ({ fr with defers:=rs }::cs) (fun u hu=>by cases hu;exact⟨_,_,rfl,hF.md⟩)
    obtain⟨frX,en,u,u',k1,k2,k3,k4,k5,k6⟩:=j3 _ _ rfl
    have hs1:=step_defer (P:=E.P) (cs:=cs) (f:=g) (args:=(aa++cc).toArray) (w:=w) hfm hfd rfl (by
     have:=hcall w
     simpa[invoke]using this)
    have hF1:=hF.mono j2.ext
    obtain⟨oe,oup,os⟩:=o1
    simp only at k1 k3 j1
    subst k1
    cases oe with
    |returned v =>
     cases en with
     |panicked _=>exact k3.elim
     |outgrown=>exact k3.elim
     |returned y =>
      simp only[ji]at e
      have hs2:=step_going_returned (c:={ fr with defers:=rs,mode:=u' }) (cs:=cs) k5 k6
      have hgo:u≠.run/\fQ ih f fn t [] ds' (ix u) up rd os=some out:=by
       grind
      have hnr:ix u≠.run:=by
       obtain⟨hu,_⟩:=hgo
       unfold ix
       grind
      have hF2:jp E.P ρ1 f fn t [] ds' (ix u) up rd { fr with defers:=rs,mode:=settle u' } cs :=
       ⟨hF1.name,hF1.func,hF1.tr,hF1.size,fun q=>absurd q hnr,h5.mono j2.ext,Ao k2,hF1.rd,hF1.up⟩
      exact oQ.of_steps (.head hs1 (k4.trans (.one hs2))) j2 (bG hg hgo.2 _ _ _ _ j1 hF2)
    |panicked c =>
     cases en with
     |returned _=>exact k3.elim
     |outgrown=>exact k3.elim
     |panicked ch =>
      simp only[ji]at e
      have hs2:=step_going_panicked (c:={ fr with defers:=rs,mode:=u' }) (cs:=cs) k6
      have hF2:jp E.P ρ1 f fn t [] ds' (ql u c) up rd { fr with defers:=rs,mode:=raised u' ch } cs :=
       ⟨hF1.name,hF1.func,hF1.tr,hF1.size,(fun q=>by cases u<;>cases q),h5.mono j2.ext,AE k2 k3,hF1.rd,hF1.up⟩
      exact oQ.of_steps (.head hs1 (k4.trans (.one hs2))) j2 (bG hg e _ _ _ _ j1 hF2)
 ·cases e
 ·have hds:=hF.ds
  have hfd:fr.defers=[]:=by
   cases hq:fr.defers with
   |nil=>rfl
   |cons _ _=>rw[hq]at hds;exact hds.elim
  unfold si at e
  split at e
  ·unfold KL at e
   split at e
   ·rename_i v hv
    cases e
    obtain⟨y,y1,y2⟩:=xY (P:=E.P) (fn:=fn) h hF.tr hv
    refine zk h hF (en:=.returned y) y1 ⟨?_,hfd,fn,hF.name▸hF.func,y2⟩
    have:=hF.md
    cases hq:fr.mode<;>rw[hq]at this<;>first|rfl|exact this.elim
   ·cases e
  ·rename_i c
   cases e
   have:=hF.md
   cases hq:fr.mode with
   |run=>exact absurd hq hfm
   |returning=>rw[hq]at this;exact this.elim
   |panicking ch =>
    rw[hq]at this
    exact zk h hF (en:=.panicked ch) this ⟨hq,hfd,fn,hF.name▸hF.func⟩
  ·cases e
end
end Go.AI
set_option linter.all false
noncomputable section
namespace Go.AI
section
variable{E:cV}{ih:rE->S->Option eO}{f:FuncId}{fn:Func}
theorem xj(hE:ic E)(hD:dN E)(hg:Good E.P ih){c:Code}{k:List Item}{t:T V}{ds:List eh}{up:Option Md}{rd:Option Nat}{s:S}{out:eO}
 (e:cq c E f fn (fQ ih f fn) (bv ih) (dV ih) k t ds up rd s=some out) {ρ:aw} {w:World} {fr:Frame} {cs:List Frame} (h:HR ρ s w) (hF:jp E.P ρ f fn t (.code c::k) ds .run up rd fr cs) :
 oQ E.P f up.isSome rd.isSome cs (lone fr cs w) ρ w out:=by
 have hm:=ww hF
 have ht:=hF.todo rfl
 cases c with
 |ret =>
  simp only[cq]at e
  exact iB hg e h hF (fun _ hro=>Qv hm ht hro) (fun l v w' hro hk hr c cs' hc=>by subst hc;exact Ra hm hk hro ht hr)
 |skip=>exact dC h (NB hm ht) (hF.to k) (bG hg e)
 |label l=>exact dC h (Kt hm ht) (hF.to k) (bG hg e)
 |seq a b=>exact dC h (Qu hm ht) (hF.to _) (bG hg e)
 |cond c a b =>
  simp only[cq]at e
  cases hv:eval t c with
  |none=>rw[hv]at e;cases e
  |some v =>
   rw[hv]at e
   have hd:=au hF.tr hv
   unfold BF at e
   split at e
   ·rename_i q hq
    cases hq
    simp only[den,Option.some.injEq]at hd
    refine dC h (NF hm ht hd.symm) (hF.to _) ?_
    have hb:(bif q then a else b)=if q then a else b:=by cases q<;>rfl
    rw[<- hb]
    exact bG hg e
   ·cases e
 |block id c=>exact dC h (Kv hm ht) (hF.to _) (bG hg e)
 |loop c=>exact dC h (NC hm ht) (hF.to _) (bG hg e)
 |scope c=>exact dC h (Ko hm ht) (hF.to _) (bG hg e)
 |exit id =>
  simp only[cq]at e
  cases hx:exitTo id k with
  |none =>
   rw[hx]at e
   simp only[pm]at e
   exact iB (jump:=some (.exit id)) hg e h hF (fun hj=>by rcases hj with hj|hj<;>cases hj) (fun l v w' hro hk hr c cs' hc=>by subst hc;exact Oh hm hk hro ht hx hr)
  |some k'=>rw[hx]at e;exact dC h (NE hm ht hx) (hF.to _) (bG hg e)
 |goto id =>
  simp only[cq]at e
  cases hx:gotoIn id k with
  |none =>
   rw[hx]at e
   simp only[pm]at e
   exact iB (jump:=some (.goto id)) hg e h hF (fun hj=>by rcases hj with hj|hj<;>cases hj) (fun l v w' hro hk hr c cs' hc=>by subst hc;exact Og hm hk hro ht hx hr)
  |some k'=>rw[hx]at e;exact dC h (ND hm ht hx) (hF.to _) (bG hg e)
 |rangeFunc g ps a b=>exact tP hg e h hF
 |region id ops draw =>
  cases draw with
  |true =>
   simp only[cq]at e
   cases hd:kD ops fn.ntmps with
   |false=>rw[hd]at e;cases e
   |true =>
    rw[hd]at e
    exact mE hg e hF.lone_up fun r hr=>hD ih hg f fn id ops k rd t ds up s r hd hr ρ w fr cs h hF
  |false =>
   simp only[cq]at e
   cases hd:kD ops fn.ntmps with
   |false=>rw[hd]at e;cases e
   |true =>
    rw[hd]at e
    refine mE hg e hF.lone_up fun r hr=>?_
    have:=qd (k:=k) (rd:=rd) hE hg hd ops.toList (List.range ops.size) (OG ops) t ds up s r hr ρ w _ cs h (hF.to _)
    exact this.of_steps (.one (Iw hm ht)) (FR.refl ρ w) (rz.refl hF) rfl
 |refuse why=>cases e
theorem wk(hE:ic E)(hD:dN E)(hg:Good E.P ih){i:Item}{k:List Item}{t:T V}{ds:List eh}{up:Option Md}{rd:Option Nat}{s:S}{out:eO}
 (e:kw i E f fn (fQ ih f fn) (bv ih) (dV ih) k t ds up rd s=some out) {ρ:aw} {w:World} {fr:Frame} {cs:List Frame} (h:HR ρ s w) (hF:jp E.P ρ f fn t (i::k) ds .run up rd fr cs) :
 oQ E.P f up.isSome rd.isSome cs (lone fr cs w) ρ w out:=by
 have hm:=ww hF
 have ht:=hF.todo rfl
 cases i<;>try(cases e;done)
 case code c=>exact xj hE hD hg e h hF
 case inBlock id=>exact dC h (EE hm ht) (hF.to k) (bG hg e)
 case inScope c=>exact dC h (ED hm ht) (hF.to k) (bG hg e)
 case inLoop c=>exact dC h (Ix hm ht) (hF.to _) (bG hg e)
 case beginRound =>
  simp only[kw]at e
  cases rd with
  |none=>cases e
  |some l =>
   simp only at e
   unfold uE at e
   split at e
   ·rename_i pend f' t' ps a b d nt hs
    obtain⟨hu,lb,hl,hro⟩:=hF.rd
    obtain⟨r,r1,r2,r3,r4,r5,r6,r7,r8,r9,r10⟩:=uu h hs hl
    obtain⟨j1,j2⟩:=r10 .busy pend
    have hrun:=run_beginRound (P:=E.P) r1 r2
    have hst:=xW (P:=E.P) (cs:=cs) hm hro ht hrun
    have hpe:({ r with state:=LoopState.busy }:Loop)={ r with state:=.busy,pending:=pend }:=by rw[<- r3]
    rw[hpe]at hst
    exact oQ.of_steps (.one hst) j2 (bG hg e _ _ _ _ j1 (hF.to k))
   ·cases e
theorem tT(hE:ic E)(hD:dN E)(hg:Good E.P ih){t:T V}{todo:List Item}{ds:List eh}{m:Md}{up:Option Md}{rd:Option Nat}{s:S}{out:eO}
 (e:fO E f fn (fQ ih f fn) (bv ih) (dV ih) t todo ds m up rd s=some out):BZ E.P f fn t todo ds m up rd s out:=by
 intro ρ w fr cs h hF
 cases m with
 |run =>
  simp only[fO]at e
  cases todo with
  |nil =>
   simp only[mr]at e
   have hm:=ww hF
   have ht:=hF.todo rfl
   exact iB hg e h hF (fun _ hro=>Qw hm ht hro) (fun l v w' hro hk hr c cs' hc=>by subst hc;exact Rb hm hk hro ht hr)
  |cons i k=>exact wk hE hD hg e h hF
 |returning=>exact pO hg (by intro q;cases q) e h hF
 |panicking c=>exact pO hg (by intro q;cases q) e h hF
theorem qJ{β:Type}:∀(l:List V) (i:Nat) (t:T V) (k:T V->β),jJ l i t k=k (jJ l i t id)
 |[],_,_,_=>rfl
 |x::r,i,t,k=>by
  simp only[jJ,T.setK_eq]
  exact qJ r (i+1) _ k
theorem zp:∀(l:List V) (i:Nat) (t:T V) (j:Nat),(jJ l i t id).get (eB j)=if i<=j/\j<i+l.length then l[j - i]? else t.get (eB j)
 |[],i,t,j=>by rw[if_neg (by simp)];rfl
 |x::r,i,t,j=>by
  simp only[jJ,T.setK_eq]
  rw[zp r (i+1) _ j,T.get_setN]
  grind
theorem lq{β:Type}:∀(ps:List Tmp) (l:List V) (t:T V) (k:T V->β),ce t ps l k=k (ce t ps l id)
 |[],l,t,k=>by cases l<;>rfl
 |p::ps,[],t,k=>rfl
 |p::ps,x::l,t,k=>by
  simp only[ce,T.setK_eq]
  exact lq ps l _ k
theorem lW{ρ:aw}:∀(ps:List Tmp) (l:List V) (ys:List Value) (t:T V) (tm:Array Value),TR ρ t tm->aL ρ l=some ys->(∀ p∈ps,p<tm.size) ->
 TR ρ (ce t ps l id) ((ps.zip ys).foldl (fun tmps x=>tmps.setIfInBounds x.1 x.2) tm)/\((ps.zip ys).foldl (fun tmps x=>tmps.setIfInBounds x.1 x.2) tm).size=tm.size
 |[],l,ys,t,tm,ht,_,_=>by
  have:ce t [] l id=t:=by cases l<;>rfl
  simp_all
 |p::ps,[],ys,t,tm,ht,hd,_=>by cases hd;exact⟨ht,rfl⟩
 |p::ps,x::l,ys,t,tm,ht,hd,hp=>by
  obtain⟨y,q,h1,h2,rfl⟩:=aO.1 hd
  simp only[ce,T.setK_eq,List.zip_cons_cons,List.foldl_cons]
  obtain⟨k1,k2⟩:=lW ps l q _ (tm.setIfInBounds p y) (ht.put h1 (hp p (by simp))) h2 (fun p' hp'=>by simpa using hp p' (by simp[hp']))
  grind
structure rB(E:cV):Prop where
 call:∀ f args s v s',E.orc f args s=some (v,s')->fv E.P f args none s ⟨.returned v,none,s'⟩
theorem Bt(hg:Good E.P ih){args:List V}{up:Option Md}{s:S}{out:eO}(e:sJ ih f args up s (E.P.funcs[f]?)=some out):fv E.P f args up s out:=by
 unfold sJ at e
 split at e
 ·rename_i fn hf
  split at e
  ·rename_i c hb
   cases hn:(fn.name == "runtime.NumGoroutine")with
   |true=>rw[hn]at e;cases e
   |false =>
    rw[hn]at e
    simp only[cond_false]at e
    rw[qJ]at e
    intro ρ w ys h hd
    have hne:fn.name ≠ "runtime.NumGoroutine" := by simpa using hn
    refine⟨fun w=>by simp[callFunc,hf,hne,hb],fun cs hup=>?_⟩
    refine hg _ s out e ρ w _ cs h ⟨rfl,hf,?_,?_,fun _=>?_,trivial,trivial,rfl,?_⟩
    ·intro i v hv
     rw[zp]at hv
     have hl:=bw hd
     split at hv
     ·rename_i hi
      obtain⟨y,h1,h2⟩:=ed _ hd hv
      refine⟨y,h1,?_⟩
      have hi2:i<ys.length:=(List.getElem?_eq_some_iff.1 h2).1
      simp only[Nat.sub_zero]at h2
      show(ys.toArray++Array.replicate _ undef)[i]? = some y
      grind
     grind [T.get_leaf]
    ·show fn.ntmps<=(ys.toArray++Array.replicate _ undef).size
     grind
    ·simp[Frame.enter,hf,hb]
    ·cases up with
     |none=>rfl
     |some u =>
      obtain⟨c,cs',h1,h2⟩:=hup u rfl
      exact⟨rfl,c,cs',h1,h2⟩
  ·cases e
 ·cases e
theorem Aw(hg:Good E.P ih){l:Nat}{args:List V}{s:S}{out:eO}(e:vj E ih l args s (s.get l)=some out):Nf E.P l args s out:=by
 intro ρ w lb ys h hl hd
 unfold vj at e
 split at e
 ·rename_i st pend f' t' ps a b d nt hs
  split at e
  ·rename_i fn hf
   cases hb:(Nat.ble fn.ntmps nt&&Nat.beq ps.size args.length&&ps.toList.all (fun p=>Nat.blt p nt))with
   |false=>rw[hb]at e;cases e
   |true =>
    rw[hb]at e
    simp only[cond_true]at e
    simp only[Bool.and_eq_true]at hb
    rw[lq]at e
    obtain⟨r,r1,r2,r3,r4,r5,r6,r7,r8,r9,r10⟩:=uu h hs hl
    have hlen:=bw hd
    have hsz:ys.toArray.size=r.params.size:=by
     have:=Nat.eq_of_beq_eq_true hb.1.2
     rw[r5,this];simpa using hlen
    have hy:=run_yield (P:=E.P) (args:=ys.toArray) r1 hsz
    have hfold:(r.params.zip ys.toArray).foldl (fun tmps (t,a)=>tmps.setIfInBounds t a) r.tmps=(ps.toList.zip ys).foldl (fun tmps x=>tmps.setIfInBounds x.1 x.2) r.tmps:=by
     rw[<- Array.foldl_toList,r5]
     simp
    obtain⟨k1,k2⟩:=lW ps.toList args ys t' r.tmps r8 hd (fun p hp=>Nat.lt_of_lt_of_le (nu (List.all_eq_true.1 hb.2 p hp)) r9)
    rw[hfold]at hy
    refine⟨_,_,_,_,hy,fun cs=>?_⟩
    rw[r4,r6,r7]
    refine hg _ s out e ρ w _ cs h ⟨rfl,hf,k1,?_,fun _=>rfl,trivial,trivial,⟨rfl,lb,hl,rfl⟩,rfl⟩
    exact Nat.le_trans (Nat.le_trans (Nat.le_of_ble_eq_true hb.1.1) r9) (Nat.le_of_eq k2.symm)
  ·cases e
 ·cases e
theorem yh(hE:ic E)(hO:rB E)(hD:dN E)(hg:Good E.P ih):Good E.P (eS E ih):=by
 intro j s out e
 cases j with
 |frame f fn t todo ds m up rd=>exact tT hE hD hg e
 |call f args up =>
  simp only[eS]at e
  unfold xp at e
  split at e
  ·rename_i v s' hv
   cases up with
   |some u=>cases hv
   |none =>
    cases e
    exact hO.call f args s v s' hv
  ·exact Bt hg e
 |round l args=>exact Aw hg e
theorem lj(hE:ic E)(hO:rB E)(hD:dN E):∀ n,Good E.P (oW E n)
 |0=>fun j s out e=>by cases e
 |n+1=>yh hE hO hD (lj hE hO hD n)
end
end Go.AI
set_option linter.all false
noncomputable section
namespace Go.AI
abbrev Ih:=rE->S->Option eO
def zX(c:Nat->Ih)(R:Ih):Prop:=∀ j s o,R j s=some o->∃ n,∀ m,n<=m->c m j s=some o
def br{α:Type}(c:Nat->Ih)(R:Ih)(Φ:Ih->Option α):Prop:=∀ x,Φ R=some x->∃ n,∀ m,n<=m->Φ (c m)=some x
section
variable{c:Nat->Ih}{R:Ih}{α β:Type}
theorem br.const(x:Option α):br c R (fun _=>x):=fun _ h=>⟨0,fun _ _=>h⟩
theorem br.bind{Φ:Ih->Option α}{Ψ:Ih->Option α->Option β}(h:br c R Φ)(hn:∀ ih,Ψ ih none=none)(hs:∀ x,br c R (fun ih=>Ψ ih (some x))):br c R (fun ih=>Ψ ih (Φ ih)):=by
 intro y hy
 cases hx:Φ R with
 |none=>simp only[hx,hn]at hy;cases hy
 |some x =>
  simp only[hx]at hy
  obtain⟨n1,h1⟩:=h x hx
  obtain⟨n2,h2⟩:=hs x y hy
  refine⟨max n1 n2,fun m hm=>?_⟩
  grind
theorem br.ih(h:zX c R)(j:rE)(s:S):br c R (fun ih=>ih j s):=fun o ho=>h j s o ho
theorem tC(h:zX c R){Φ:Ih->Option eO}(hΦ:br c R Φ)(d:Option Tmp)(t:T V)(ds:List eh)(up:Option Md){k:Ih->RK}(hk:∀ t ds up s,br c R (fun ih=>k ih t ds up s)):br c R (fun ih=>fh d t ds up (k ih) (Φ ih)):=by
 refine hΦ.bind (Ψ:=fun ih x=>fh d t ds up (k ih) x) (fun _=>rfl) fun o=>?_
 obtain⟨e,u,s⟩:=o
 cases e with
 |returned v=>simp only[fh,bZ];exact hk _ _ _ _
 |panicked c=>exact br.const _
theorem FM(h:zX c R)(rd:Option Nat)(d:Option Tmp)(t:T V)(ds:List eh)(up:Option Md){k:Ih->RK}(hk:∀ t ds up s,br c R (fun ih=>k ih t ds up s))(x:Option Nx) :
 br c R (fun ih=>dH (bv ih) (dV ih) rd d t ds up (k ih) x):=by
 cases x with
 |none=>exact br.const _
 |some x =>
  cases x with
  |val v s=>simp only[dH,bZ];exact hk _ _ _ _
  |skip s=>simp only[dH,bZ];exact hk _ _ _ _
  |enter f args s=>exact tC h (br.ih h _ _) d t ds up hk
  |round l args s=>exact tC h (br.ih h _ _) d t ds up hk
  |defer df s=>cases rd<;>simp only[dH,bZ,Option.isSome_some,Option.isSome_none,cond_true,cond_false]<;>first|exact hk _ _ _ _|exact br.const _
  |recover s =>
   simp only[dH]
   unfold recovered
   split
   ·simp only[bZ];exact hk _ _ _ _
   ·simp only[bZ];exact hk _ _ _ _
   ·exact br.const _
  |panic v s=>exact br.const _
theorem FL(h:zX c R){E:cV}(rd:Option Nat)(o:Oper)(t:T V)(ds:List eh)(up:Option Md)(s:S){k:Ih->RK}(hk:∀ t ds up s,br c R (fun ih=>k ih t ds up s))(b:Option Bool) :
 br c R (fun ih=>oZ E (bv ih) (dV ih) rd o t ds up s (k ih) b):=by
 cases b with
 |none=>exact br.const _
 |some b=>cases b with
  |true=>exact FM h rd _ t ds up hk _
  |false=>simp only[oZ,bZ];exact hk _ _ _ _
theorem wA(h:zX c R){E:cV}{ops:Array Oper}(rd:Option Nat):∀(l:List Oper) (t:T V) (ds:List eh) (up:Option Md) (s:S),br c R (fun ih=>oV E ops (bv ih) (dV ih) rd l t ds up s)
 |[],_,_,_,_=>br.const _
 |o::l,t,ds,up,s=>FL h rd o t ds up s (fun t ds up s=>wA h rd l t ds up s) _
theorem FP(h:zX c R){E:cV}(t:T V)(s:S)(o:Oper)(b:Option Bool):br c R (fun ih=>gh E (bv ih) t s o b):=by
 cases b with
 |none=>exact br.const _
 |some b=>cases b with
  |false=>exact br.const _
  |true =>
   simp only[gh]
   cases cQ E t s o with
   |none=>exact br.const _
   |some x=>cases x with
    |enter f args s =>
     simp only[jg]
     refine(br.ih h (.call f args none) s).bind (Ψ:=fun _ x=>lL x) (fun _=>rfl) fun o=>br.const _
    |_=>exact br.const _
theorem tB(h:zX c R){E:cV}{ops:Array Oper}{ms:List Nat}{effs:Nat}{all:List (Nat×Oper)}(ds:List eh)(up:Option Md):∀(es:List (Nat×Oper)) (hist:List (Nat×S)) (done:Nat) (t:T V) (s:S),
 br c R (fun ih=>fV E ops ms effs all (bv ih) ds up es hist done t s)
 |[],_,_,_,_=>br.const _
 |(i,o)::r,hist,done,t,s=>by
  simp only[fV]
  cases bT E ops ms effs hist (ms.getD i 0) all done t s with
  |none=>exact br.const _
  |some x =>
   obtain⟨d1,t1,s1⟩:=x
   simp only
   refine(FP h t1 s1 o (bz ops t1 o)).bind (Ψ:=fun ih (x:Option JL)=>match x with
    |some (.val v s')=>bif Nat.ble s1.next s'.next&&!(d1.testBit i)&&effs.testBit i then mb t1 o.dst (some v) fun t=>fV E ops ms effs all (bv ih) ds up r ((i,s')::hist) (Nat.lor d1 (Nat.pow 2 i)) t s' else none
    |some (.pan c s')=>bif d1.testBit i then none else Hl ds up d1 all t1 c s' (bT E ops ms effs hist (dj ms i all) all d1 t1 s1)
    |none=>none) (fun _=>rfl) fun x=>?_
   cases x with
   |val v s' =>
    simp only
    cases (Nat.ble s1.next s'.next&&!(d1.testBit i)&&effs.testBit i)with
    |false=>exact br.const _
    |true=>simp only[cond_true,bZ];exact tB h ds up r _ _ _ _
   |pan c s'=>exact br.const _
theorem Bm(h:zX c R){E:cV}{ops:Array Oper}(t:T V)(ds:List eh)(up:Option Md)(s:S):br c R (fun ih=>gP E ops (bv ih) (dV ih) t ds up s):=by
 unfold gP
 cases La E.P ops with
 |none=>exact br.const _
 |some p=>exact tB h ds up _ _ _ _ _
variable{f:FuncId}{fn:Func}
theorem gg(h:zX c R)(t:T V)(todo:List Item)(ds:List eh)(m:Md)(up:Option Md)(rd:Option Nat)(s:S):br c R (fun ih=>fQ ih f fn t todo ds m up rd s):=br.ih h _ _
theorem lH(h:zX c R)(t:T V)(ds:List eh)(up:Option Md)(rd:Option Nat)(s:S)(jump:Option Code):br c R (fun ih=>lC (fQ ih f fn) t ds up rd s jump):=by
 unfold lC
 split
 ·split
  ·simp_all[gg]
  ·simp_all[gg]
  ·exact br.const _
 simp_all[br.const]
theorem qP(h:zX c R){Φ:Ih->Option jq}(hΦ:br c R Φ)(k:List Item)(rd:Option Nat):br c R (fun ih=>fW (fQ ih f fn) k rd (Φ ih)):=by
 refine hΦ.bind (Ψ:=fun ih x=>fW (fQ ih f fn) k rd x) (fun _=>rfl) fun x=>?_
 cases x<;>exact gg h _ _ _ _ _ _ _
theorem Do(h:zX c R){Φ:Ih->Option eO}(hΦ:br c R Φ)(k:List Item)(t:T V)(ds:List eh)(up:Option Md)(rd:Option Nat)(d l:Nat):br c R (fun ih=>jy (fQ ih f fn) k t ds up rd d l (Φ ih)):=by
 refine hΦ.bind (Ψ:=fun ih x=>jy (fQ ih f fn) k t ds up rd d l x) (fun _=>rfl) fun x=>?_
 obtain⟨e,u,s⟩:=x
 cases e with
 |panicked c=>exact gg h _ _ _ _ _ _ _
 |returned v =>
  simp only[jy]
  unfold qD
  split
  ·split
   ·exact br.const _
   simp_all[gg]
  ·exact br.const _
theorem yl(h:zX c R)(nt:Nat)(k:List Item)(t:T V)(ds:List eh)(up:Option Md)(rd:Option Nat)(s:S)(ps:Array Tmp)(a b:Code)(x:Option V):br c R (fun ih=>fK f nt (fQ ih f fn) (bv ih) k t ds up rd s ps a b x):=by
 unfold fK
 split
 ·split
  ·split
   ·exact Do h (br.ih h _ _) _ _ _ _ _ _ _
   ·exact br.const _
  ·exact br.const _
 ·exact br.const _
theorem Bo(h:zX c R){E:cV}(co:Code)(k:List Item)(t:T V)(ds:List eh)(up:Option Md)(rd:Option Nat)(s:S):br c R (fun ih=>cq co E f fn (fQ ih f fn) (bv ih) (dV ih) k t ds up rd s):=by
 cases co<;>simp only[cq]<;>try exact gg h _ _ _ _ _ _ _
 case ret=>exact lH h _ _ _ _ _ _
 case cond q a b =>
  unfold BF
  split
  ·exact gg h _ _ _ _ _ _ _
  ·exact br.const _
 case exit id =>
  unfold pm
  split
  ·exact gg h _ _ _ _ _ _ _
  ·exact lH h _ _ _ _ _ _
 case goto l =>
  unfold pm
  split
  ·exact gg h _ _ _ _ _ _ _
  ·exact lH h _ _ _ _ _ _
 case rangeFunc g ps a b=>exact yl h _ _ _ _ _ _ _ _ _ _ _
 case region id ops draws =>
  cases draws<;>simp only[cq]<;>cases kD ops fn.ntmps<;>simp only[cond_true,cond_false]<;>first|exact br.const _|exact qP h (wA h _ _ _ _ _ _) _ _|exact qP h (Bm h _ _ _ _) _ _
 simp_all[br.const]
theorem Bn(h:zX c R){E:cV}(i:Item)(k:List Item)(t:T V)(ds:List eh)(up:Option Md)(rd:Option Nat)(s:S):br c R (fun ih=>kw i E f fn (fQ ih f fn) (bv ih) (dV ih) k t ds up rd s):=by
 cases i<;>simp only[kw]<;>try(first|exact gg h _ _ _ _ _ _ _|exact br.const _)
 case code co=>exact Bo h co _ _ _ _ _ _
 case beginRound =>
  cases rd with
  |none=>exact br.const _
  |some l =>
   simp only
   unfold uE
   split
   ·exact gg h _ _ _ _ _ _ _
   ·exact br.const _
theorem wz(h:zX c R){E:cV}(ds:List eh)(t:T V)(m:Md)(up:Option Md)(rd:Option Nat)(s:S):br c R (fun ih=>cW ds E fn (fQ ih f fn) (bv ih) t m up rd s):=by
 cases ds with
 |nil=>exact br.const _
 |cons d ds =>
  cases d with
  |collected b =>
   simp only[cW]
   unfold jR
   split
   ·simp_all[gg]
   ·exact br.const _
  |call fn cap args =>
   cases fn with
   |func g =>
    simp only[cW]
    refine(br.ih h (.call g (args++cap) (some m)) s).bind (Ψ:=fun ih x=>ji (fQ ih f _) t ds up rd x) (fun _=>rfl) fun x=>?_
    unfold ji
    split
    ·split
     ·exact br.const _
     simp_all[gg]
    ·simp_all[gg]
    ·exact br.const _
   |_=>exact br.const _
theorem mU(h:zX c R){E:cV}(j:rE)(s:S):br c R (fun ih=>eS E ih j s):=by
 cases j with
 |frame f fn t todo ds m up rd =>
  simp only[eS]
  cases m with
  |run =>
   simp only[fO]
   cases todo with
   |nil=>simp only[mr];exact lH h _ _ _ _ _ _
   |cons i k=>simp only[mr];exact Bn h i _ _ _ _ _ _
  |returning=>simp only[fO];exact wz h _ _ _ _ _ _
  |panicking c=>simp only[fO];exact wz h _ _ _ _ _ _
 |call f args up =>
  simp only[eS]
  unfold xp
  split
  ·exact br.const _
  ·unfold sJ
   split
   ·split
    ·rename_i fn _ _ co _
     cases hn:(fn.name == "runtime.NumGoroutine")with
     |true=>exact br.const _
     |false =>
      have:(fun ih:Ih=>bif false then none else jJ args 0 .leaf fun t=>ih (.frame f fn t [.code co] [] .run up none) s)=fun ih=>ih (.frame f fn (jJ args 0 .leaf id) [.code co] [] .run up none) s:=funext fun ih=>qJ args 0 .leaf _
      rw[this]
      exact br.ih h _ _
    ·exact br.const _
   ·exact br.const _
 |round l args =>
  simp only[eS]
  unfold vj
  split
  ·split
   ·rename_i _ _ f0 t0 ps assign body _ nt _ _ fn _
    cases hn:(Nat.ble fn.ntmps nt&&Nat.beq ps.size args.length&&ps.toList.all (fun p=>Nat.blt p nt))with
    |false=>exact br.const _
    |true =>
     have:(fun ih:Ih=>bif true then ce t0 ps.toList args fun t=>ih (.frame f0 fn t [.code assign,.beginRound,.code body] [] .run none (some l)) s else none)=fun ih=>ih (.frame f0 fn (ce t0 ps.toList args id) [.code assign,.beginRound,.code body] [] .run none (some l)) s:=funext fun ih=>lq ps.toList args t0 _
     rw[this]
     exact br.ih h _ _
   ·exact br.const _
  ·exact br.const _
end
def lim(E:cV):Ih:=fun j s=>open Classical in if h:∃ o n,oW E n j s=some o then some h.choose else none
theorem vh(E:cV):∀ n j s o,oW E n j s=some o->oW E (n+1) j s=some o
 |0,_,_,_,h=>by cases h
 |n+1,j,s,o,h=>by
  have hl:zX (fun _=>oW E (n+1)) (oW E n):=fun j s o h=>⟨0,fun _ _=>vh E n j s o h⟩
  obtain⟨k,hk⟩:=mU hl (E:=E) j s o h
  exact hk k (Nat.le_refl _)
theorem rP(E:cV){n m:Nat}(hm:n<=m){j:rE}{s:S}{o:eO}(h:oW E n j s=some o):oW E m j s=some o:=by
 induction hm with
 |refl=>exact h
 |step _ ih=>exact vh E _ j s o ih
theorem Cz{E:cV}{n:Nat}{j:rE}{s:S}{o:eO}(h:oW E n j s=some o):lim E j s=some o:=by
 have hex:∃ o n,oW E n j s=some o:=⟨o,n,h⟩
 unfold lim
 rw[dif_pos hex]
 obtain⟨m,hm⟩:=hex.choose_spec
 have h1:=rP E (Nat.le_max_left n m) h
 grind [rP,Nat.le_max_right]
theorem vZ{E:cV}{j:rE}{s:S}{o:eO}(h:lim E j s=some o):∃ n,oW E n j s=some o:=by
 unfold lim at h
 split at h
 ·grind
 ·cases h
theorem Oq(E:cV):zX (oW E) (lim E):=fun j s o h=>by
 obtain⟨n,hn⟩:=vZ h
 exact⟨n,fun m hm=>rP E hm hn⟩
theorem LH(E:cV)(j:rE)(s:S):lim E j s=eS E (lim E) j s:=by
 cases h:eS E (lim E) j s with
 |some o =>
  obtain⟨n,hn⟩:=mU (Oq E) j s o h
  exact Cz (n:=n+1) (hn n (Nat.le_refl _))
 |none =>
  cases h2:lim E j s with
  |none=>rfl
  |some o =>
   obtain⟨n,hn⟩:=vZ h2
   cases n with
   |zero=>cases hn
   |succ n =>
    have hl:zX (fun _=>lim E) (oW E n):=fun j s o h=>⟨0,fun _ _=>Cz h⟩
    obtain⟨k,hk⟩:=mU hl (E:=E) j s o hn
    have h3:eS E (lim E) j s=some o:=hk k (Nat.le_refl _)
    grind
theorem LG{E:cV}(hE:ic E)(hO:rB E)(hD:dN E):Good E.P (lim E):=fun j s o h=>by
 obtain⟨n,hn⟩:=vZ h
 exact lj hE hO hD n j s o hn
end Go.AI
set_option linter.all false
noncomputable section
namespace Go.AI
section ops
variable{P:Program}{ρ:aw}{s:S}{w:World}{t:T V}{tm:Array Value}
theorem Gj(h:HR ρ s w){b:Builtin}(hb:b=.len\/b=.cap\/b=.max\/b=.min){ts:Array TypeId}{ty:TypeId}{consts:Array Bool}{args:List V}{ys:List Value}(hd:aL ρ args=some ys){nx:Nx}(e:ip P b ts args s=some nx) :
 xM P ρ w s nx ((Go.builtin b ts ty consts ys.toArray).run P w):=by
 rcases hb with rfl|rfl|rfl|rfl
 ·simp only[ip]at e
  split at e
  ·rename_i t0 h0
   split at e
   ·rename_i x
    obtain⟨X,hx,rfl⟩:=lO hd
    exact aM h e fun v hv=>wb h h0 hx hv
   ·cases e
  ·cases e
 ·simp only[ip]at e
  split at e
  ·rename_i t0 h0
   split at e
   ·rename_i x
    obtain⟨X,hx,rfl⟩:=lO hd
    exact aM h e fun v hv=>xl h0 hx hv
   ·cases e
  ·cases e
 ·simp only[ip]at e
  refine aM (m:=Builtin.max_ ts ty ys.toArray) h e fun v hv=>?_
  cases args with
  |nil=>cases hv
  |cons x r =>
   obtain⟨X,q,hx,hr,rfl⟩:=aO.1 hd
   exact jb vS r q x X v hr hx hv
 ·simp only[ip]at e
  refine aM (m:=Builtin.min_ ts ty ys.toArray) h e fun v hv=>?_
  cases args with
  |nil=>cases hv
  |cons x r =>
   obtain⟨X,q,hx,hr,rfl⟩:=aO.1 hd
   exact jb vQ r q x X v hr hx hv
theorem Ge(h:HR ρ s w)(ht:TR ρ t tm){src dst:TypeId}(hdst:∀ el,P.underlying dst≠some (.slice el)){x:Operand}{nx:Nx}(e:gj P s src dst (eval t x)=some nx) :
 xM P ρ w s nx ((do pure (Next.value (<- convert src dst (rv tm x))):Sem Next).run P w):=by
 unfold gj at e
 split at e
 ·rename_i v hv
  have dv:=au ht hv
  generalize rv tm x=X at *
  unfold ii at e
  split at e
  ·rename_i y s' hc
   cases e
   unfold jj at hc
   split at hc
   ·rename_i ds hs
    split at hc
    ·rename_i k hd
     split at hc
     ·rename_i j n
      cases hc;cases dv
      have:(convert src dst (.int j n)).run P w=.ok (.int k (k.wrap n)) w:=by
       cases ds<;>simp[convert,aq hs,aq hd,Conv.intToInt]
      exact⟨_,.int k (k.wrap n),rfl,by simp[this],by rw[bO];rfl⟩
     ·cases hc
    ·rename_i hd
     obtain⟨rfl,y',h1,h2⟩:=tf h hs hd dv hc
     exact⟨_,y',rfl,by simp[h2],h1⟩
    ·rename_i el hd
     exact absurd hd (hdst el)
    ·cases hc
   ·cases hc
  ·cases e
 ·cases e
theorem yZ{E:cV}(h:HR ρ s w)(ht:TR ρ t tm)(o:Oper)(hk:aD E.P o.op<=1){nx:Nx}(e:cQ E t s o=some nx):xM E.P ρ w s nx ((execOp (rv tm) o).run E.P w):=by
 obtain⟨dst,op,type,pos,after,guard⟩:=o
 unfold cQ at e
 simp only at e hk
 cases op<;>simp only[cC]at e<;>try(cases e;done)
 case move x=>exact qA h ht e
 case assign x=>exact qA h ht e
 case pick c a b=>exact qT h ht e
 case alloc elem=>simp[aD]at hk
 case box elem x=>simp[aD]at hk
 case build ty parts=>exact oM h ht e
 case buildSlice ty len parts=>simp[aD]at hk
 case load ty x=>exact qV h ht e
 case store ty x y=>simp[aD]at hk
 case nilCheck x=>exact kE h ht e
 case binOp op ty x y z=>exact tI h ht e
 case unOp op ty x=>exact wX h ht e
 case convert src dst x =>
  refine Ge h ht (fun el hu=>?_) e
  simp[aD,hu]at hk
 case makeInterface ty x=>exact lY h ht e
 case makeFunc fn first cap=>exact nf h ht e
 case makeMap ty r=>simp[aD]at hk
 case makeSlice ty l c=>simp[aD]at hk
 case slice ty x lo hi mx=>exact oJ h ht e
 case fieldAddr ty x f=>exact jO h ht e
 case field ty x f=>exact oL h ht e
 case indexAddr ty x i=>exact jN h ht e
 case index ty x i=>exact oK h ht e
 case lookup ty x k ok=>exact ng h ht e
 case mapUpdate ty m k x=>simp[aD]at hk
 case insert ty m k x=>simp[aD]at hk
 case typeAssert x xt ty ok=>exact nh h ht e
 case extract x i=>exact lZ h ht e
 case call c =>
  unfold gE at e
  split at e
  ·rename_i args ha
   obtain⟨ys,y1,y2⟩:=xC ht ha
   split at e
   ·rename_i b hc
    have hb:b=.len\/b=.cap\/b=.max\/b=.min:=by
     grind [aD]
    simp only[execOp,resolve,hc,Sem.run_bind,Sem.run_pure,Result.andThen_ok,invoke,y2]
    exact Gj h hb y1 e
   ·rename_i f hc
    simp[aD,hc]at hk
   ·cases e
  ·cases e
 case defer c=>simp[aD]at hk
 grind [aD]
end ops
end Go.AI
set_option linter.all false
noncomputable section
namespace Go.AI
section ops
variable{P:Program}{ρ:aw}{s:S}{w:World}{t:T V}{tm:Array Value}
def JJ(P:Program)(ρ:aw)(w:World)(mk:Nat->V)(B:dG)(m:Sem Next):Prop :=
 ∃ y obj lim n,m.run P w=.ok (.value y) ({ w with drawn:=n }.alloc obj) /\
  ∀ ρ' f,ρ.le ρ'->ρ' f 0=some ⟨w.heap.size,0,lim⟩->(∀ v,1<=v->ρ' f v=none)->den ρ' (mk f)=some y/\∀ w':World,w'.heap[w.heap.size]? = some obj->xP ρ' w' f B
theorem sO{ρ':aw}{f:Nat}{lim b:Nat}{cs:List V}{ys:Array Value}{sb:Bool}{el e':TypeId}{fz:Nat×Nat}(hd:aL ρ cs=some (ys.toList.take cs.length))(hfz:(sb=false->fz=(0,0))/\∀ i,i<ys.size->¬(fz.1<=i/\i<fz.2))
 (hl:ρ.le ρ') (h0:ρ' f 0=some ⟨b,0,lim⟩) (h1:∀ v,1<=v->ρ' f v=none) (hlim:lim=ys.size) {w':World} (hw:w'.heap[b]? = some (.cells ys e' fz)):xP ρ' w' f (.cells el sb 1 [⟨0,0,cs⟩]):=by
 refine⟨h1,fun u hu=>?_⟩
 simp at hu;subst hu
 refine⟨Nat.zero_lt_one,_,ys,e',fz,h0,hw,Nat.le_refl _,by simp[hlim],hfz,fun i x hx=>?_⟩
 obtain⟨y,hy,hy'⟩:=ed i hd hx
 refine⟨y,bq hl _ _ hy,?_⟩
 have hi:i<cs.length:=(List.getElem?_eq_some_iff.1 hx).1
 rw[List.getElem?_take_of_lt hi,Array.getElem?_toList]at hy'
 simpa using hy'
theorem CP{elem:TypeId}{v:V}{y:Value}(hv:den ρ v=some y):JJ P ρ w (fun f=>.ptr ⟨f,0,0⟩) (.cells elem false 1 [⟨0,0,v.cells⟩]) (do pure (Next.value (.pointer (some (<- newVar elem y))))):=by
 refine⟨_,_,y.cells.size,w.drawn,by simp[newVar,newRow];exact⟨rfl,rfl⟩,fun ρ' f hl h0 h1=>⟨by simp[den,gZ,h0],fun w' hw=>?_⟩⟩
 exact sO (by rw[ec hv,<- lP hv,List.take_of_length_le (by simp)]) ⟨fun _=>rfl,by simp⟩ hl h0 h1 rfl hw
theorem LE{elem:TypeId}{cs:List V}{ys:Array Value}(hd:aL ρ cs=some ys.toList){len sz cap:Nat}(hl:len<=cap)(hsz:0<sz) :
 JJ P ρ w (fun f=>.slice ⟨f,0,0⟩ 0 len (some cap) sz) (.cells elem false 1 [⟨0,0,cs⟩]) (do pure (Next.value (.slice (some (<- newRow elem ys)) len cap))):=by
 have hlen:cs.length=ys.size:=by have:=bw hd;simpa using this.symm
 refine⟨_,_,ys.size,w.drawn,by simp[newRow];exact⟨rfl,rfl⟩,fun ρ' f hle h0 h1=>⟨?_,fun w' hw=>?_⟩⟩
 ·exact cX (a:=⟨f,0,0⟩) (cap:=some cap) h0 (Nat.zero_le _) (Nat.zero_le _) hl hsz
 ·exact sO (by rw[hd,hlen,List.take_of_length_le (by simp)]) ⟨fun _=>rfl,by simp⟩ hle h0 h1 rfl hw
def sZ(P:Program)(ρ:aw)(w:World)(d:S->Option Nx)(m:Sem Next):Prop :=
 ∃ mk B,(∀ s',d s'=some (.val (mk s'.next) (s'.alloc B)))/\JJ P ρ w mk B m
theorem JJ.congr{mk:Nat->V}{B:dG}{m m':Sem Next}(h:JJ P ρ w mk B m)(e:m'.run P w=m.run P w):JJ P ρ w mk B m':=by
 obtain⟨y,obj,lim,n,h1,h2⟩:=h
 exact⟨y,obj,lim,n,e.trans h1,h2⟩
theorem Bx{elem:TypeId}{nx:Nx}(e:iG P s elem=some nx):sZ P ρ w (fun s=>iG P s elem) (do pure (Next.value (<- Instr.alloc elem true (.tuple #[])))):=by
 unfold iG at e
 split at e
 ·rename_i z hz
  obtain⟨y,i,hi,hzi,hd⟩:=eI hz
  refine⟨_,_,fun s'=>by simp only[iG,hz,oB,aZ,aY],(CP (P:=P) (w:=w) (elem:=elem) (hd ρ)).congr ?_⟩
  simp only[Instr.alloc,Sem.run_bind,fw hi hzi,Result.andThen_ok,Sem.run_pure]
  simp[newVar,newRow]
 ·cases e
theorem FY(ht:TR ρ t tm){elem:TypeId}{x:Operand}{nx:Nx}(e:qX s elem (eval t x)=some nx):sZ P ρ w (fun s=>qX s elem (eval t x)) (do pure (Next.value (<- Instr.box elem (rv tm x)))):=by
 unfold qX at e
 split at e
 ·rename_i z hz
  refine⟨_,_,fun s'=>by simp only[qX,hz,oB,aZ,aY],(CP (P:=P) (w:=w) (elem:=elem) (au ht hz)).congr ?_⟩
  simp only[Instr.box,Sem.run_bind,Sem.run_pure]
  simp[newVar,newRow]
 ·cases e
theorem wY{ty:TypeId}:sZ P ρ w (fun s=>some (.val (.map s.next) (s.alloc (.map [] 0)))) (do pure (Next.value (<- Instr.makeMap ty none))):=by
 refine⟨fun f=>.map f,.map [] 0,fun s'=>rfl,.map (some w.heap.size),.map #[] 0,0,w.drawn,by simp[Instr.makeMap],fun ρ' f hl h0 h1=>⟨by simp[den,h0],fun w' hw=>⟨_,#[],h0,hw,trivial⟩⟩⟩
def Io(P:Program)(ρ:aw)(w:World)(d:S->Option Nx)(m:Sem Value):Prop :=
 ∃(el:TypeId) (cs:List V) (ys:Array Value) (len cap sz:Nat),(∀ s',d s'=some (.val (.slice (aZ s' el cs).1 0 len (some cap) sz) (aZ s' el cs).2))/\aL ρ cs=some ys.toList/\len<=cap/\0<sz /\
  m.run P w=(do pure (.slice (some (<- newRow el ys)) len cap):Sem Value).run P w
theorem Io.made{d:S->Option Nx}{m:Sem Value}(h:Io P ρ w d m):sZ P ρ w d (do pure (Next.value (<- m))):=by
 obtain⟨el,cs,ys,len,cap,sz,h1,h2,h3,h4,h5⟩:=h
 refine⟨_,_,fun s'=>by rw[h1];simp only[aZ,aY],(LE (P:=P) (w:=w) (elem:=el) h2 h3 h4).congr ?_⟩
 simp only[Sem.run_bind]at h5 ⊢
 rw[h5]
 simp[newRow]
theorem yp(ht:TR ρ t tm){ty:TypeId}{l c:Operand}{nx:Nx}(e:dY P s ty (cZ (eval t l)) (cZ (eval t c))=some nx) :
 Io P ρ w (fun s=>dY P s ty (cZ (eval t l)) (cZ (eval t c))) (Instr.makeSlice ty (rv tm l) (rv tm c)):=by
 unfold dY at e
 split at e
 ·rename_i el hu
  split at e
  ·rename_i l' hl
   split at e
   ·rename_i c' hc
    obtain⟨k1,e1⟩:=fL ht hl
    obtain⟨k2,e2⟩:=fL ht hc
    split at e
    ·rename_i z hz
     obtain⟨zv,i,hi,hzi,hden⟩:=eI hz
     split at e
     ·rename_i n hn
      cases hb:(Nat.ble l' c'&&Nat.ble c' 2199023255552&&!(Nat.beq n 0)&&Nat.beq z.cells.length n&&kW P el c')with
      |false=>simp[hb]at e
      |true =>
       have hbb:=hb
       simp only[hb,cond_true]at e
       simp only[Bool.and_eq_true]at hb
       obtain⟨⟨⟨⟨b1,b2⟩,b3⟩,b4⟩,b5⟩:=hb
       have b1:=Nat.le_of_ble_eq_true b1
       have b2:=Nat.le_of_ble_eq_true b2
       have b4:=Nat.eq_of_beq_eq_true b4
       have b3:0<n:=by
        grind
       have b5:i.bytes*c'<=100000000000000:=by
        simp_all[kW]
       have hzc:=ec (hden ρ)
       have hzl:zv.cells.toList.length=n:=by have:=bw hzc;omega
       have hrow:=xh zv.cells.toList n hzl b3 c'
       have hd:aL ρ (List.replicate c' z.cells).flatten=some ((List.replicate c' zv.cells.toList).flatten.toArray).toList:=by simpa using gk hzc c'
       have hrun:(Instr.makeSlice ty (rv tm l) (rv tm c)).run P w=(do pure (.slice (some (<- newRow el (List.replicate c' zv.cells.toList).flatten.toArray)) l' c'):Sem Value).run P w:=by
        have hsz:=bY hn w
        have w1:=kO l' (by omega)
        have w2:=kO c' b2
        simp only[Int.ofNat_eq_natCast]at w1 w2
        have hA:∀ k n,(asInt (.int k n)).run P w=.ok n w:=fun k n=>by simp[asInt,asIntOf]
        have hrow2:Array.map (fun x=>zv.cells[x%zv.cells.size]!) (Array.range (c'*n))=(List.replicate c' zv.cells.toList).flatten.toArray:=by
         grind
        have hbig:(decide ((c':Int)<0)||decide ((i.bytes:Int)*(c':Int)>2 ^ 48))=false:=by
         grind
        have hl0:decide ((l':Int)<0)=false:=by simp
        have hlc:decide ((l':Int)>(c':Int))=false:=by simp;omega
        have hti:(typeInfo el).run P w=.ok i w:=by simp[typeInfo,hi]
        have hzr:=fw hi hzi w
        simp only[Instr.makeSlice,Sem.run_bind,aq hu,Result.andThen_ok,e1,e2,hA,Sem.run_pure,hti,Int.ofNat_eq_natCast,w1,w2,run_askRoom,hsz,Int.toNat_natCast]
        rw[if_neg (by rw[hbig,hl0,hlc];simp)]
        simp only[Sem.run_bind,run_askRoom,Result.andThen_ok,hsz]
        by_cases hc0:c'*n=0
        ·rw[if_pos hc0]
         have g:∀ f:Nat->Value,Array.map f (Array.range 0)=#[]:=fun f=>by simp
         simp only[Sem.run_bind,Sem.run_pure,Result.andThen_ok,<- hrow2,hc0,g]
        simp_all
       have hb':(Nat.ble l' c'&&Nat.ble c' 2199023255552&&!(Nat.beq n 0)&&Nat.beq z.cells.length n&&kW P el c')=true:=hbb
       exact⟨el,_,_,l',c',n,fun s'=>by simp only[dY,hu,hl,hc,hz,hn,hb',cond_true,aZ,aY],hd,b1,b3,hrun⟩
     ·cases e
    ·cases e
   ·cases e
  ·cases e
 ·cases e
theorem sL(ht:TR ρ t tm){ty:TypeId}{len:Nat}{parts:Array (Nat×Operand)}{nx:Nx}(e:cb P s ty len (du t parts.toList)=some nx) :
 Io P ρ w (fun s=>cb P s ty len (du t parts.toList)) (Instr.buildSlice ty len (parts.map fun(i,x)=>(i,rv tm x))):=by
 unfold cb at e
 split at e
 ·rename_i el hu
  split at e
  ·rename_i l hl
   have hl0:=hl
   have hp:=iD ht hl
   have hpl:(parts.toList.map fun(i,x)=>(i,rv tm x))=(parts.map fun(i,x)=>(i,rv tm x)).toList:=by simp
   rw[hpl]at hp
   split at e
   ·rename_i z hz
    obtain⟨zv,it,hi,hzi,hden⟩:=eI hz
    have hzc:=ec (hden ρ)
    split at e
    ·rename_i n hn
     cases hb:(Nat.ble (len*n) 10000&&!(Nat.beq n 0)&&Nat.beq z.cells.length n)with
     |false=>rw[hb]at e;cases e
     |true =>
      have hbb:=hb
      rw[hb]at e
      simp only[cond_true]at e
      simp only[Bool.and_eq_true]at hb
      have b1:=Nat.le_of_ble_eq_true hb.1.1
      have b2:0<n:=by
       rcases Nat.eq_zero_or_pos n with h0|h0
       ·subst h0;simp at hb
       ·exact h0
      have b3:=Nat.eq_of_beq_eq_true hb.2
      unfold kl at e
      split at e
      ·rename_i cs hcs
       have hzl:zv.cells.toList.length=n:=by have:=bw hzc;omega
       have hrow:=xh zv.cells.toList n hzl b2 len
       have hd:aL ρ (List.replicate len z.cells).flatten=some ((List.replicate len zv.cells.toList).flatten.toArray).toList:=by simpa using gk hzc len
       obtain⟨zs,hz1,hz2⟩:=je (place:=fun i=>some (i*n,n)) (fun i x hx=>hx) hp hd hcs
       have hrow2:Array.map (fun x=>zv.cells[x%zv.cells.size]!) (Array.range (len*n))=(List.replicate len zv.cells.toList).flatten.toArray:=by
        grind
       have hrun:(Instr.buildSlice ty len (parts.map fun(i,x)=>(i,rv tm x))).run P w=(do pure (.slice (some (<- newRow el zs)) len len):Sem Value).run P w:=by
        simp only[Instr.buildSlice,Sem.run_bind,aq hu,Result.andThen_ok,bY hn]
        rw[if_neg (by omega)]
        by_cases hc0:len*n=0
        ·rw[if_pos hc0]
         have g:∀ f:Nat->Value,Array.map f (Array.range 0)=#[]:=fun f=>by simp
         rw[<- hrow2,hc0,g]at hz1
         simp only[Sem.run_bind,Sem.run_pure,Result.andThen_ok,hc0,g,hz1]
        ·rw[if_neg hc0]
         simp only[Sem.run_bind,fw hi hzi,Result.andThen_ok,Sem.run_pure,hrow2,hz1]
       exact⟨el,_,_,len,len,n,fun s'=>by simp only[cb,hu,hl0,hz,hn,hbb,cond_true,kl,hcs,aZ,aY],hz2,Nat.le_refl _,b2,hrun⟩
      ·cases e
    ·cases e
   ·cases e
  ·cases e
 ·cases e
theorem DI(ht:TR ρ t tm){src dst el:TypeId}(hdst:P.underlying dst=some (.slice el)){x:Operand}{nx:Nx}(e:gj P s src dst (eval t x)=some nx) :
 sZ P ρ w (fun s=>gj P s src dst (eval t x)) (do pure (Next.value (<- convert src dst (rv tm x)))):=by
 unfold gj at e
 split at e
 ·rename_i v hv
  have dv:=au ht hv
  generalize rv tm x=X at *
  unfold ii jj at e
  cases hs:P.underlying src with
  |none=>simp[hs]at e
  |some ds =>
   simp only[hs,hdst]at e
   cases v<;>simp only[nH]at e<;>try(cases e;done)
   rename_i l
   cases ds<;>simp only at e<;>try(cases e;done)
   cases hb:gb P el with
   |false=>rw[hb]at e;cases e
   |true =>
    cases dv
    have hrun:=run_bytes_of_string w src dst el (av l) hs hdst (iC hb)
    rw[eo]at hrun
    have hge:=grownCap_ge w l.length 0 el
    generalize hc:grownCap w l.length 0 el=cap at *
    have hsz:(bytesRow (av l) cap).size=cap:=by
     simp only[bytesRow,Array.size_append,Array.size_map,Array.size_replicate,eo]
     simp_all[eo]
    rw[hsz]at hrun
    have hd':aL ρ (l.map ns)=some ((bytesRow (av l) cap).toList.take (l.map ns).length):=by
     rw[sP]
     have:(av l).data.toList.length=l.length:=by simp[av]
     simp[bytesRow,this]
    refine⟨fun f=>.slice ⟨f,0,0⟩ 0 l.length none 1,.cells el true 1 [⟨0,0,l.map ns⟩],fun s'=>?_,_,_,cap,w.drawn+1,by simp only[Sem.run_bind,hrun,Result.andThen_ok,Sem.run_pure];rfl,fun ρ' f hl h0 h1=>⟨?_,fun w' hw=>?_⟩⟩
    ·simp only[gj,hv,ii,jj,hs,hdst,nH,hb,cond_true,aY]
    ·have:=cX (a:=⟨f,0,0⟩) (z:=0) (len:=l.length) (cap:=none) (sz:=1) h0 (by simp) (Nat.zero_le _) (by simpa[bX]using hge) Nat.one_pos
     rw[this]
     simp[bX,be]
    ·exact sO hd' ⟨(fun h=>by cases h),fun i hi=>by rw[hsz]at hi;simp;omega⟩ hl h0 h1 hsz.symm hw
 ·cases e
theorem IE{E:cV}(ht:TR ρ t tm)(o:Oper)(hk:aD E.P o.op=2){nx:Nx}(e:cQ E t s o=some nx):sZ E.P ρ w (fun s=>cQ E t s o) (execOp (rv tm) o):=by
 obtain⟨dst,op,type,pos,after,guard⟩:=o
 unfold cQ at e ⊢
 simp only at e hk ⊢
 cases op<;>simp only[cC]at e ⊢<;>try(cases e;done)
 case alloc elem=>exact Bx e
 case box elem x=>exact FY ht e
 case buildSlice ty len parts=>exact(sL ht e).made
 case makeMap ty r =>
  cases r with
  |none=>exact wY
  |some _=>cases e
 case makeSlice ty l c=>exact(yp ht e).made
 case convert src dst x =>
  cases hu:E.P.underlying dst with
  |none=>simp[aD,hu]at hk
  |some d=>cases d<;>simp[aD,hu]at hk;exact DI ht hu e
 case binOp op ty x y z=>simp only[aD]at hk;cases hb:lE op<;>simp[hb]at hk
 case call c=>simp only[aD]at hk;split at hk<;>simp at hk
 all_goals simp[aD]at hk
end ops
end Go.AI
set_option linter.all false
noncomputable section
namespace Go.AI
section ops
variable{s:S}{t t':T V}
theorem gW:∀ {l:List Operand},(∀ x∈l,eval t x=eval t' x)->gp t l=gp t' l
 |[],_=>rfl
 |x::r,h=>by
  simp_all[gW,List.mem_cons_of_mem,gp]
theorem lI:∀ {l:List (Nat×Operand)},(∀ x∈l,eval t x.2=eval t' x.2)->du t l=du t' l
 |[],_=>rfl
 |(i,x)::r,h=>by
  have ih:=lI (l:=r) fun y hy=>h y (List.mem_cons_of_mem _ hy)
  simp_all[du]
theorem mX{x:Option Operand}(h:∀ y,x=some y->eval t y=eval t' y):kC t x=kC t' x:=by
 cases x with
 |none=>rfl
 |some y=>simp only[kC,h y rfl]
theorem FW{E:cV}(o:Oper)(h:∀ x∈o.op.operands,eval t x=eval t' x):cQ E t s o=cQ E t' s o:=by
 obtain⟨dst,op,type,pos,after,guard⟩:=o
 unfold cQ
 simp only at h ⊢
 cases op<;>simp only[Op.operands]at h<;>simp only[cC]<;>try rfl
 case move x=>rw[h x (by simp)]
 case assign x=>rw[h x (by simp)]
 case pick c a b =>
  have h1:∀ q:Bool,eval t (bif q then a else b)=eval t' (bif q then a else b):=fun q=>by cases q<;>exact h _ (by simp)
  simp only[lM,h c (by simp),h1]
 case box elem x=>rw[h x (by simp)]
 case build ty parts=>rw[lI fun x hx=>h x.2 (by simp;exact⟨x.1,by simpa using hx⟩)]
 case buildSlice ty len parts=>rw[lI fun x hx=>h x.2 (by simp;exact⟨x.1,by simpa using hx⟩)]
 case load ty x=>rw[h x (by simp)]
 case store ty x y=>rw[h x (by simp),h y (by simp)]
 case nilCheck x=>rw[h x (by simp)]
 case binOp op ty x y z=>rw[h x (by simp),h y (by simp)]
 case unOp op ty x=>rw[h x (by simp)]
 case convert src dst x=>rw[h x (by simp)]
 case makeInterface ty x=>rw[h x (by simp)]
 case makeFunc fn first cap=>rw[gW fun x hx=>h x (by simp;left;simpa using hx),gW (l:=cap.toList) fun x hx=>h x (by simp;right;simpa using hx)]
 case makeMap ty r=>cases r<;>rfl
 case makeSlice ty l c=>rw[h l (by simp),h c (by simp)]
 case slice ty x lo hi mx =>
  rw[h x (by simp),mX (x:=lo) fun y hy=>h y (by subst hy;simp),mX (x:=hi) fun y hy=>h y (by subst hy;simp),mX (x:=mx) fun y hy=>h y (by subst hy;simp)]
 case fieldAddr ty x f=>rw[h x (by simp)]
 case field ty x f=>rw[h x (by simp)]
 case indexAddr ty x i=>rw[h x (by simp),h i (by simp)]
 case index ty x i=>rw[h x (by simp),h i (by simp)]
 case lookup ty x k ok=>rw[h x (by simp),h k (by simp)]
 case mapUpdate ty m k x=>rw[h m (by simp),h k (by simp),h x (by simp)]
 case insert ty m k x=>rw[h m (by simp),h k (by simp),h x (by simp)]
 case typeAssert x xt ty ok=>rw[h x (by simp)]
 case extract x i=>rw[h x (by simp)]
 case call c =>
  rw[gW fun x hx=>h x (by simp only[Call.operands];exact Array.mem_append.2 (.inr (by simpa using hx)))]
  unfold gE
  split
  ·split
   ·rfl
   ·rename_i f hc;rw[h f (by simp[Call.operands,hc])]
   ·rfl
  ·rfl
 case defer c =>
  rw[gW fun x hx=>h x (by simp only[Call.operands];exact Array.mem_append.2 (.inr (by simpa using hx)))]
  unfold nZ
  split
  ·split
   ·rename_i f hc;rw[h f (by simp[Call.operands,hc])]
   ·rfl
  ·rfl
 grind
end ops
end Go.AI
set_option linter.all false
noncomputable section
namespace Go.AI
variable{t:T V}{h:T dG}{n n':Nat}
theorem aV{x y:Option V}(hxy:x=y){v:V}{s1:S}(e:bp ⟨h,n⟩ x=some (.val v s1)):bp ⟨h,n'⟩ y=some (.val v ⟨h,n'⟩):=by
 subst hxy
 cases x with
 |none=>cases e
 |some u=>cases e;rfl
theorem AX{P:Program}{ty:TypeId}{a:Ad}:loadVar P ⟨h,n⟩ ty a=loadVar P ⟨h,n'⟩ ty a:=rfl
theorem vW{a:Ad}{k:Nat}:loadCells ⟨h,n⟩ a k=loadCells ⟨h,n'⟩ a k:=rfl
theorem IQ{P:Program}{ty:TypeId}{x:V}:ik P ty ⟨h,n⟩ x=ik P ty ⟨h,n'⟩ x:=rfl
theorem Jg{E:cV}(o:Oper)(hk:aD E.P o.op<=1){v:V}{s1:S}(e:cQ E t ⟨h,n⟩ o=some (.val v s1)):cQ E t ⟨h,n'⟩ o=some (.val v ⟨h,n'⟩):=by
 obtain⟨dst,op,type,pos,after,guard⟩:=o
 unfold cQ at e ⊢
 simp only at e hk ⊢
 cases op<;>simp only[cC]at e ⊢<;>try(cases e;done)
 case move x=>exact aV rfl e
 case assign x=>exact aV rfl e
 case pick c a b =>
  unfold lM at e ⊢
  split at e
  ·exact aV rfl e
  ·cases e
 case build ty parts=>exact aV rfl e
 case load ty x =>
  unfold im at e ⊢
  split at e
  ·exact aV AX e
  ·cases e
 case nilCheck x=>exact aV rfl e
 case binOp op ty x y z=>exact aV rfl e
 case unOp op ty x=>exact aV rfl e
 case convert src dst x =>
  unfold gj at e ⊢
  split at e
  ·rename_i x' hx'
   unfold ii at e ⊢
   unfold jj at e ⊢
   cases hs:E.P.underlying src with
   |none=>simp[hs]at e
   |some ds =>
    cases hd:E.P.underlying dst with
    |none=>simp[hs,hd]at e
    |some dd =>
     simp only[hs,hd]at e ⊢
     cases dd<;>simp only at e ⊢<;>try(cases e;done)
     case int k=>cases x'<;>simp only at e ⊢<;>first|(cases e;done)|(cases e;rfl)
     case string =>
      unfold yF at e ⊢
      cases x'<;>simp only at e ⊢<;>try(first|(cases e;done)|(cases e;rfl))
      case slice a z len cap sz =>
       rw[vW (n':=n')]at e
       cases ds<;>simp only at e ⊢<;>try(cases e;done)
       rename_i el
       split at e
       ·rename_i y s2 hy
        cases hb:gb E.P el with
        |false=>rw[hb]at hy;cases hy
        |true =>
         rw[hb]at hy
         simp only[cond_true]at hy ⊢
         cases hz0:Nat.beq sz 0 with
         |true=>rw[hz0]at hy;cases hy
         |false =>
         rw[hz0]at hy
         simp only[cond_false]at hy ⊢
         split at hy
         ·rename_i l hl;cases hy;cases e;rfl
         ·cases hy
       ·cases e
      case nilslice =>
       cases ds<;>simp only at e ⊢<;>try(cases e;done)
       rename_i el
       cases hb:gb E.P el with
       |false=>rw[hb]at e;cases e
       |true=>rw[hb]at e;cases e;rfl
     case slice el=>simp[aD,hd]at hk
  ·cases e
 case makeInterface ty x=>exact aV rfl e
 case makeFunc fn first cap=>exact aV rfl e
 case slice ty x lo hi mx=>exact aV rfl e
 case fieldAddr ty x f=>exact aV rfl e
 case field ty x f=>exact aV rfl e
 case indexAddr ty x i=>exact aV rfl e
 case index ty x i=>exact aV rfl e
 case lookup ty x k ok=>exact aV rfl e
 case typeAssert x xt ty ok=>exact aV rfl e
 case extract x i=>exact aV rfl e
 case call c =>
  unfold gE at e ⊢
  split at e
  ·rename_i args ha
   split at e
   ·rename_i b hc
    have hb:b=.len\/b=.cap\/b=.max\/b=.min:=by
     grind [aD]
    rcases hb with rfl|rfl|rfl|rfl<;>simp only[ip]at e ⊢
    ·split at e
     ·split at e
      ·exact aV IQ e
      ·cases e
     ·cases e
    ·split at e
     ·split at e
      ·exact aV rfl e
      ·cases e
     ·cases e
    ·exact aV rfl e
    ·exact aV rfl e
   ·rename_i f hc
    simp[aD,hc]at hk
   ·cases e
  ·cases e
 all_goals (first|(simp[aD]at hk;done)|(exfalso;revert hk;simp[aD]))
end Go.AI
set_option linter.all false
noncomputable section
namespace Go.AI
theorem zw(acc:List Nat)(k:Nat):∀(l:List Edge) (s:Nat),(l.foldl (fun s e=>bif Region.binds .any e then Nat.lor s (Nat.lor (Nat.pow 2 e.on) (acc.getD e.on 0))else s) s).testBit k=true ↔
 s.testBit k=true\/∃ e∈l,Region.binds .any e=true/\(k=e.on\/(acc.getD e.on 0).testBit k=true)
 |[],s=>by simp
 |e::l,s=>by
  rw[List.foldl_cons,zw acc k l]
  cases hb:Region.binds .any e with
  |false =>
   grind
  |true =>
   simp only[cond_true,List.mem_cons,exists_eq_or_imp,hb,true_and]
   have:(Nat.lor s (Nat.lor (Nat.pow 2 e.on) (acc.getD e.on 0))).testBit k=(s.testBit k||(decide (e.on=k)||(acc.getD e.on 0).testBit k)):=by
    simp_all[Nat.testBit_two_pow]
   grind
theorem Ft(o:Oper)(acc:List Nat)(k:Nat):(pf o acc).testBit k=true↔∃ e∈o.after,Region.binds .any e=true/\(k=e.on\/(acc.getD e.on 0).testBit k=true):=by
 unfold pf
 rw[zw]
 simp
theorem sd:∀(l:List Oper) (acc:List Nat),∃ r,jE l acc=acc++r/\r.length=l.length/\∀ j o,l[j]? = some o->r[j]? = some (pf o (acc++r.take j))
 |[],acc=>⟨[],by simp[jE],rfl,fun j o h=>by simp at h⟩
 |o::l,acc=>by
  obtain⟨r,h1,h2,h3⟩:=sd l (acc++[pf o acc])
  refine⟨pf o acc::r,by simp[jE,h1],by simp[h2],fun j o' hj=>?_⟩
  cases j with
  |zero=>simp at hj;subst hj;simp
  |succ j =>
   grind
def kM(ops:Array Oper)(i k:Nat):Prop:=((jE ops.toList []).getD i 0).testBit k=true
theorem LC{ops:Array Oper}{i:Nat}{o:Oper}(ho:ops[i]? = some o):(jE ops.toList []).getD i 0=pf o ((jE ops.toList []).take i):=by
 obtain⟨r,h1,h2,h3⟩:=sd ops.toList []
 simp_all
def fP(ops:Array Oper):Prop:=∀ i o,ops[i]? = some o->∀ e∈o.after,Region.binds .any e=true->e.on<i
theorem Iu{l:List Nat}{i j:Nat}(h:j<i):(l.take i).getD j 0=l.getD j 0:=by
 grind
theorem uk{ops:Array Oper}(hE:fP ops){i k:Nat}{o:Oper}(ho:ops[i]? = some o):kM ops i k↔∃ e∈o.after,Region.binds .any e=true/\(k=e.on\/kM ops e.on k):=by
 unfold kM
 rw[LC ho,Ft]
 constructor
 ·grind
 ·rintro⟨e,h1,h2,h3⟩
  refine⟨e,h1,h2,?_⟩
  rw[Iu (hE i o ho e h1 h2)]
  exact h3
theorem Hg{ops:Array Oper}{i k:Nat}(h:kM ops i k):∃ o,ops[i]? = some o:=by
 cases ho:ops[i]? with
 |some o=>exact⟨o,rfl⟩
 |none =>
  exfalso
  unfold kM at h
  obtain⟨r,h1,h2,h3⟩:=sd ops.toList []
  grind
theorem rT{ops:Array Oper}(hE:fP ops):∀(i k:Nat),kM ops i k->k<i:=by
 intro i
 induction i using Nat.strongRecOn with
 |ind i ih =>
  intro k h
  obtain⟨o,ho⟩:=Hg h
  obtain⟨e,h1,h2,h3⟩:=(uk hE ho).1 h
  have hb:=hE i o ho e h1 h2
  grind
theorem rS{ops:Array Oper}(hE:fP ops):∀(i k m:Nat),kM ops i k->kM ops k m->kM ops i m:=by
 intro i
 induction i using Nat.strongRecOn with
 |ind i ih =>
  intro k m h hm
  obtain⟨o,ho⟩:=Hg h
  obtain⟨e,h1,h2,h3⟩:=(uk hE ho).1 h
  refine(uk hE ho).2 ⟨e,h1,h2,.inr ?_⟩
  rcases h3 with rfl|h3
  ·exact hm
  ·exact ih e.on (hE i o ho e h1 h2) k m h3 hm
end Go.AI
set_option linter.all false
noncomputable section
namespace Go.AI
theorem vL:∀ {l:List Oper} {i k:Nat} {o:Oper},(k,o)∈cj l i↔i<=k/\l[k - i]? = some o
 |[],i,k,o=>by simp[cj]
 |x::l,i,k,o=>by
  simp only[cj,List.mem_cons,Prod.mk.injEq]
  rw[vL (l:=l) (i:=i+1)]
  grind
theorem dI{ops:Array Oper}{k:Nat}{o:Oper}:(k,o)∈cj ops.toList 0↔ops[k]? = some o:=by
 rw[vL];simp
structure kg(ops:Array Oper):Prop where
 back:fP ops
 guard:∀(i:Nat) (o:Oper) (g:Nat) (b:Bool),ops[i]? = some o->o.guard=some (g,b)->kM ops i g
 dst:∀(i j:Nat) (o q:Oper) (d:Tmp),ops[i]? = some o->ops[j]? = some q->i≠j->q.dst=some d->o.dst≠some d
 sees:∀(i j:Nat) (o q:Oper) (d:Tmp),ops[i]? = some o->ops[j]? = some q->i≠j->q.dst=some d->d∈sees o->kM ops i j\/kM ops j i
theorem DN{ops:Array Oper}(h:Gd (jE ops.toList []) (cj ops.toList 0)=true):kg ops:=by
 have key:∀ i o,ops[i]? = some o->_:=fun i o ho=>List.all_eq_true.1 h (i,o) (dI.2 ho)
 refine⟨fun i o ho e he hb=>?_,fun i o g b ho hg=>?_,fun i j o q d ho hq hij hd=>?_,fun i j o q d ho hq hij hd hs=>?_⟩
 ·have:=key i o ho
  simp only[Bool.and_eq_true]at this
  have h2:=List.all_eq_true.1 this.1.1 e (by simpa using he)
  simp_all
 ·have:=key i o ho
  simp only[Bool.and_eq_true]at this
  have h2:=this.1.2
  rw[hg]at h2
  exact h2
 ·have:=key i o ho
  simp only[Bool.and_eq_true]at this
  have h2:=List.all_eq_true.1 this.2 (j,q) (dI.2 hq)
  simp_all
 ·have:=key i o ho
  simp only[Bool.and_eq_true]at this
  have h2:=List.all_eq_true.1 this.2 (j,q) (dI.2 hq)
  have hb:Nat.beq i j=false:=by
   grind [Nat.eq_of_beq_eq_true]
  simp only[hb,hd,Bool.false_or,Bool.and_eq_true]at h2
  have h3:=h2.2
  have hc:(sees o).contains d=true:=by simpa using hs
  rw[hc]at h3
  simp only[Bool.not_true,Bool.false_or,Bool.or_eq_true]at h3
  exact h3
end Go.AI
set_option linter.all false
noncomputable section
namespace Go.AI
def fI(ops:Array Oper)(R:Nat->Prop):Prop:=∀ i k,R i->kM ops i k->R k
def with1(R:Nat->Prop)(i:Nat):Nat->Prop:=fun k=>R k\/k=i
theorem fI.with1{ops:Array Oper}{R:Nat->Prop}(h:fI ops R){i:Nat}(hi:∀ k,kM ops i k->R k):fI ops (with1 R i):=by
 intro a k ha hk
 rcases ha with ha|rfl
 ·exact .inl (h a k ha hk)
 ·exact .inl (hi k hk)
theorem Dh(t:T V)(d:Option Tmp)(v:V)(i:Nat):(putD t d v).get (eB i)=if d=some i then some v else t.get (eB i):=Mk t d (some v) i
end Go.AI
set_option linter.all false
noncomputable section
namespace Go.AI
mutual
theorem vc:∀ {x y:V},aQ.sameV x y=true->x=y
 |.bool a,y,h=>by cases y<;>simp[aQ.sameV]at h;rw[h]
 |.int j a,y,h=>by cases y<;>simp[aQ.sameV]at h;rw[h.1,h.2]
 |.str a,y,h=>by cases y<;>simp[aQ.sameV]at h;rw[h]
 |.ptr a,y,h=>by
  cases y<;>simp[aQ.sameV]at h
  rename_i b
  obtain⟨⟨h1,h2⟩,h3⟩:=h
  cases a;cases b;simp_all
 |.nilptr,y,h=>by cases y<;>simp[aQ.sameV]at h;rfl
 |.slice a z n c sz,y,h=>by
  cases y<;>simp[aQ.sameV]at h
  rename_i b y m d sy
  cases a;cases b;simp_all
 |.nilslice,y,h=>by cases y<;>simp[aQ.sameV]at h;rfl
 |.map a,y,h=>by cases y<;>simp[aQ.sameV]at h;rw[h]
 |.nilmap,y,h=>by cases y<;>simp[aQ.sameV]at h;rfl
 |.nilFunc,y,h=>by cases y<;>simp[aQ.sameV]at h;rfl
 |.nilIface,y,h=>by cases y<;>simp[aQ.sameV]at h;rfl
 |.func f a b,y,h=>by
  cases y<;>simp[aQ.sameV]at h
  rename_i g c d
  obtain⟨⟨h1,h2⟩,h3⟩:=h
  rw[h1,cA h2,cA h3]
 |.iface t v,y,h=>by
  cases y<;>simp[aQ.sameV]at h
  rw[h.1,vc h.2]
 |.agg a,y,h=>by
  cases y<;>simp[aQ.sameV]at h
  rw[cA h]
 |.atom a,y,h=>by cases y<;>simp[aQ.sameV]at h;rw[h]
 |.tuple a,y,h=>by
  cases y<;>simp[aQ.sameV]at h
  rw[cA h]
theorem cA:∀ {x y:List V},aQ x y=true->x=y
 |[],y,h=>by cases y<;>simp[aQ]at h;rfl
 |v::x,y,h=>by
  cases y with
  |nil=>simp[aQ]at h
  |cons u y =>
   simp only[aQ,Bool.and_eq_true]at h
   rw[vc h.1,cA h.2]
end
theorem qk{E:cV}{t:T V}{o:Oper}:∀ {l:List S} {v:V},ff E t o l=some v->∀ s∈l,∃ s1,cQ E t s o=some (.val v s1)
 |[],v,h=>by cases h
 |[s],v,h=>fun s' hs=>by
  grind [ff]
 |s::s2::r,v,h=>fun s' hs=>by
  simp only[ff]at h
  split at h
  ·rename_i u s1 hu
   split at h
   ·rename_i y hy
    cases hb:aQ [u] [y]with
    |false=>rw[hb]at h;cases h
    |true =>
     rw[hb]at h
     cases h
     have:=cA hb
     simp at this
     subst this
     rcases List.mem_cons.1 hs with rfl|hs
     ·grind
     ·exact qk hy s' hs
   ·cases h
  ·cases h
theorem FV{E:cV}{rec:gH}{t:T V}{s:S}{o:Oper}{b:Option Bool}{v:V}{s':S}:gh E rec t s o b=some (.val v s')↔iE E rec t s o b=some (v,s'):=by
 cases b with
 |none=>simp[gh,iE]
 |some b=>cases b with
  |false=>simp[gh,iE]
  |true =>
   simp only[gh,iE]
   cases cQ E t s o with
   |none=>simp[jg,oI]
   |some x=>cases x with
    |enter f args s1 =>
     simp only[jg,oI]
     cases rec f args none s1 with
     |none=>simp[lL,wW]
     |some out=>obtain⟨e,u,s2⟩:=out;cases e<;>simp[lL,wW]
    |_=>simp[jg,oI]
structure Ev where
 i:Nat
 o:Oper
 v:V
 t:T V
 a:S
 b:S
section
variable(E:cV)(rec:gH)(ops:Array Oper)(t0:T V)(s0:S)
def jo(o:Oper):Prop:=aD E.P o.op=3
def bS:List Ev->S
 |[]=>s0
 |e::_=>e.b
def Is:List Ev->Prop
 |[]=>True
 |e::_=>jo E e.o
def nE(Y:List Ev)(t:T V):Prop:=∀ d,(∃ q∈Y,q.o.dst=some d/\t.get (eB d)=some q.v)\/((∀ q∈Y,q.o.dst≠some d)/\t.get (eB d)=t0.get (eB d))
def SC(Y:List Ev)(e:Ev):Prop :=
 (aD E.P e.o.op=0/\e.b=e.a/\∃ s1,cQ E e.t e.a e.o=some (.val e.v s1)) \/
 (aD E.P e.o.op=1/\e.b=e.a/\∀ Z F,Y=Z++F->Is E F->(∀ q∈Z,jo E q.o->¬ kM ops e.i q.i)->∃ s1,cQ E e.t (bS s0 F) e.o=some (.val e.v s1)) \/
 (aD E.P e.o.op=2/\cQ E e.t e.a e.o=some (.val e.v e.b))
def Nd(Y:List Ev)(e:Ev):Prop :=
 (¬ jo E e.o/\((bz ops e.t e.o=some false/\e.v=V.undef/\e.b=e.a)\/(bz ops e.t e.o=some true/\SC E ops s0 Y e))) \/
 (jo E e.o/\iE E rec e.t e.a e.o (bz ops e.t e.o)=some (e.v,e.b)/\e.a.next<=e.b.next/\∀ q∈Y,kM ops e.i q.i)
structure Cc(Y:List Ev)(e:Ev):Prop where
 op:ops[e.i]? = some e.o
 pre:∀ k,kM ops e.i k->∃ q∈Y,q.i=k
 new:∀ q∈Y,q.i≠e.i
 slots:nE t0 Y e.t
 st:e.a=bS s0 Y
 step:Nd E rec ops s0 Y e
def dE:List Ev->Prop
 |[]=>True
 |e::Y=>Cc E rec ops t0 s0 Y e/\dE Y
def dg(n:Nat):List Ev->List (Nat×S)
 |[]=>[(n,s0)]
 |e::Y=>if aD E.P e.o.op=3 then(e.i,e.b)::dg n Y else dg n Y
end
section
variable{E:cV}{rec:gH}{ops:Array Oper}{t0:T V}{s0:S}
theorem nE.put{Y:List Ev}{t:T V}(h:nE t0 Y t)(e:Ev):nE t0 (e::Y) (putD t e.o.dst e.v):=by
 intro d
 rw[Dh]
 by_cases hd:e.o.dst=some d
 ·grind
 ·rw[if_neg hd]
  rcases h d with⟨q,h1,h2,h3⟩|⟨h1,h2⟩
  ·grind
  grind
theorem wu{m n:Nat}:∀ {Z F:List Ev},Is E F->(∀ q∈Z,jo E q.o->¬ m.testBit q.i=true)->bS s0 F∈mR m (dg E s0 n (Z++F))
 |[],[],_,_=>by simp[dg,mR,bS]
 |[],e::F,h,_=>by
  have h:aD E.P e.o.op=3:=h
  simp[dg,h,mR,bS]
 |z::Z,F,h,hz=>by
  have ih:=wu (n:=n) (Z:=Z) h (fun q hq=>hz q (List.mem_cons_of_mem _ hq))
  simp only[List.cons_append,dg]
  split
  ·rename_i hk
   have:=hz z (by simp) hk
   grind [mR]
  ·exact ih
theorem Bj{ms:List Nat}(hms:ms=jE ops.toList []){Y:List Ev}{t:T V}{s:S}{i n:Nat}{o:Oper}{v:V}{s':S}(hk:¬ jo E o)
 (hs:s=bS s0 Y) (e:iM E (dg E s0 n Y) (ms.getD i 0) t s o (bz ops t o)=some (v,s')):Nd E rec ops s0 Y ⟨i,o,v,t,s,s'⟩:=by
 left
 refine⟨hk,?_⟩
 unfold iM at e
 split at e
 ·rename_i hw
  right
  refine⟨hw,?_⟩
  unfold Bk at e
  split at e
  ·rename_i hk0
   left
   unfold pN at e
   split at e
   ·rename_i u s1 hu;cases e;exact⟨hk0,rfl,s1,hu⟩
   ·cases e
  ·rename_i hk1
   right;left
   unfold qj at e
   split at e
   ·rename_i u hu
    cases e
    refine⟨hk1,rfl,fun Z F hY hF hZ=>?_⟩
    subst hY
    refine qk hu _ (wu hF fun q hq ha hb=>hZ q hq ha ?_)
    subst hms
    exact hb
   ·cases e
  ·rename_i hk2
   right;right
   unfold ud at e
   split at e
   ·rename_i u s1 hu;cases e;exact⟨hk2,hu⟩
   ·cases e
  ·cases e
 ·rename_i hw
  cases e
  exact .inl ⟨hw,rfl,rfl⟩
 ·cases e
theorem fS(d i k:Nat):(Nat.lor d (Nat.pow 2 i)).testBit k=(d.testBit k||decide (i=k)):=by
 simp_all[Nat.testBit_two_pow]
def ta(done:Nat)(Y:List Ev):Prop:=∀ k,done.testBit k=true↔∃ q∈Y,q.i=k
theorem ta.cons{done:Nat}{Y:List Ev}(h:ta done Y)(e:Ev):ta (Nat.lor done (Nat.pow 2 e.i)) (e::Y):=by
 intro k
 rw[fS,Bool.or_eq_true,h k]
 grind
structure St(E:cV)(rec:gH)(ops:Array Oper)(t0:T V)(s0:S)(Y:List Ev)(done:Nat)(t:T V)(s:S):Prop where
 run:dE E rec ops t0 s0 Y
 done:ta done Y
 slots:nE t0 Y t
 st:s=bS s0 Y
theorem jZ{n:Nat}:∀ {Z Y:List Ev},(∀ q∈Z,¬ jo E q.o)->dg E s0 n (Z++Y)=dg E s0 n Y
 |[],_,_=>rfl
 |z::Z,Y,h=>by
  have hz:¬ aD E.P z.o.op=3:=h z (by simp)
  simp_all[dg,jZ,List.mem_cons_of_mem]
theorem mH(hE:fP ops){ms:List Nat}(hms:ms=jE ops.toList []){effs:Nat}(heffs:∀ i o,ops[i]? = some o->jo E o->effs.testBit i=true){m n:Nat}(hm:∀ i k,m.testBit i=true->kM ops i k->m.testBit k=true){Y0:List Ev} :
 ∀(l:List Oper) (i:Nat),ops.toList.drop i=l->∀(Y:List Ev) (done:Nat) (t:T V) (s:S),St E rec ops t0 s0 Y done t s->dg E s0 n Y=dg E s0 n Y0->(∀ k,k<i->m.testBit k=true->done.testBit k=true) ->
  ∀ done' t' s',bT E ops ms effs (dg E s0 n Y0) m (cj l i) done t s=some (done',t',s') ->
   ∃ Z,St E rec ops t0 s0 (Z++Y) done' t' s'/\(∀ q∈Z,¬ jo E q.o/\m.testBit q.i=true)/\∀ k,k<ops.size->m.testBit k=true->done'.testBit k=true
 |[],i,hl,Y,done,t,s,hS,hh,hd,done',t',s',e=>by
  simp only[cj,bT,Option.some.injEq,Prod.mk.injEq]at e
  obtain⟨rfl,rfl,rfl⟩:=e
  refine⟨[],hS,by simp,fun k hk hb=>hd k ?_ hb⟩
  have:=List.drop_eq_nil_iff.1 hl
  grind
 |o::l,i,hl,Y,done,t,s,hS,hh,hd,done',t',s',e=>by
  have ho:ops[i]? = some o:=by
   have:(ops.toList.drop i)[0]? = some o:=by rw[hl];rfl
   grind
  have hl':ops.toList.drop (i+1)=l:=by
   grind [List.tail_drop]
  simp only[cj,bT]at e
  cases hb:(!(m.testBit i)||done.testBit i)with
  |true =>
   rw[hb]at e
   simp only[cond_true]at e
   refine mH hE hms heffs hm l (i+1) hl' Y done t s hS hh (fun k hk hkb=>?_) done' t' s' e
   grind
  |false =>
   rw[hb]at e
   simp only[cond_false]at e
   simp only[Bool.or_eq_false_iff,Bool.not_eq_false']at hb
   cases hf:effs.testBit i with
   |true=>rw[hf]at e;cases e
   |false =>
    rw[hf]at e
    simp only[cond_false]at e
    have hk:¬ jo E o:=fun h=>by have:=heffs i o ho h;rw[hf]at this;cases this
    split at e
    ·rename_i v s1 hfl
     rw[bZ]at e
     have hev:Cc E rec ops t0 s0 Y ⟨i,o,v,t,s,s1⟩:=by
      refine⟨ho,fun k hk=>(hS.done k).1 (hd k (rT hE i k hk) (hm i k hb.1 hk)),fun q hq hqi=>?_,hS.slots,hS.st,?_⟩
      ·have:=(hS.done i).2 ⟨q,hq,hqi⟩
       grind
      ·rw[<- hh]at hfl
       exact Bj hms hk hS.st hfl
     have hS':St E rec ops t0 s0 (⟨i,o,v,t,s,s1⟩::Y) (Nat.lor done (Nat.pow 2 i)) (putD t o.dst v) s1:=⟨⟨hev,hS.run⟩,hS.done.cons ⟨i,o,v,t,s,s1⟩,hS.slots.put ⟨i,o,v,t,s,s1⟩,rfl⟩
     have hhist:dg E s0 n (⟨i,o,v,t,s,s1⟩::Y)=dg E s0 n Y0:=by
      have hk':¬ aD E.P o.op=3:=hk
      grind [dg]
     obtain⟨Z,h1,h2,h3⟩:=mH hE hms heffs hm l (i+1) hl' _ _ _ _ hS' hhist (fun k hk' hkb=>by
      rw[fS]
      by_cases hki:i=k
      ·simp[hki]
      ·rw[hd k (by omega) hkb];rfl) done' t' s' e
     refine⟨Z++[⟨i,o,v,t,s,s1⟩],by simpa using h1,fun q hq=>?_,h3⟩
     grind
    ·cases e
def SF(ops:Array Oper):List Ev->Prop
 |[]=>True
 |e::Y=>∀ q∈Y,kM ops e.i q.i
theorem dE.at:∀ {X:List Ev} {e:Ev} {Y:List Ev},dE E rec ops t0 s0 (X++e::Y)->Cc E rec ops t0 s0 Y e/\dE E rec ops t0 s0 Y
 |[],_,_,h=>h
 |_::_,_,_,h=>dE.at h.2
def Ni(E:cV)(rec:gH)(ops:Array Oper)(t0:T V)(s0:S)(ds:List eh)(up:Option Md)(r:jq):Prop :=
 ∃(i:Nat) (o:Oper) (Z Y:List Ev) (done:Nat) (t1:T V) (c:List Cb) (s2:S),
  r=.panicked c (dq done (cj ops.toList 0) t1) ds up s2/\ops[i]? = some o/\jo E o/\dE E rec ops t0 s0 (Z++Y)/\ta done Y/\nE t0 Y t1 /\
  gh E rec t1 (bS s0 Y) o (bz ops t1 o)=some (.pan c s2)/\(∀ q∈Y,kM ops i q.i)/\(∀ k,kM ops i k->∃ q∈Y,q.i=k)/\(∀ q∈Z,¬ jo E q.o)/\(∀ q∈Z++Y,q.i≠i) /\
  ∀ k,k<ops.size->k≠i->¬ kM ops k i->∃ q∈Z++Y,q.i=k
theorem lG{ms:List Nat}{i k:Nat}:∀ {l:List (Nat×Oper)},(dj ms i l).testBit k=true↔(∃ x∈l,x.1=k)/\(ms.getD k 0).testBit i=false/\k≠i
 |[]=>by simp[dj]
 |(a,o)::r=>by
  simp only[dj]
  have ih:=lG (ms:=ms) (i:=i) (k:=k) (l:=r)
  cases hb:((ms.getD a 0).testBit i||Nat.beq a i)with
  |true =>
   simp only[cond_true]
   rw[ih]
   constructor
   ·rintro⟨⟨x,h1,h2⟩,h3⟩
    exact⟨⟨x,List.mem_cons_of_mem _ h1,h2⟩,h3⟩
   ·rintro⟨⟨x,h1,h2⟩,h3,h4⟩
    rcases List.mem_cons.1 h1 with rfl|h1
    ·exfalso
     simp only at h2
     subst h2
     simp only[Bool.or_eq_true]at hb
     rcases hb with hb|hb
     ·rw[h3]at hb;cases hb
     ·exact h4 (Nat.eq_of_beq_eq_true hb)
    ·exact⟨⟨x,h1,h2⟩,h3,h4⟩
  |false =>
   simp only[cond_false]
   have hor:(Nat.lor (Nat.pow 2 a) (dj ms i r)).testBit k=(decide (a=k)||(dj ms i r).testBit k):=by
    show(2 ^ a ||| dj ms i r).testBit k=_
    rw[Nat.testBit_or,Nat.testBit_two_pow]
   rw[hor,Bool.or_eq_true,ih]
   simp only[Bool.or_eq_false_iff]at hb
   constructor
   ·rintro(h|⟨⟨x,h1,h2⟩,h3⟩)
    ·have h:a=k:=by simpa using h
     subst h
     refine⟨⟨(a,o),by simp,rfl⟩,hb.1,fun h=>?_⟩
     have h2:=hb.2
     rw[h,Nat.beq_refl]at h2;cases h2
    ·exact⟨⟨x,List.mem_cons_of_mem _ h1,h2⟩,h3⟩
   ·rintro⟨⟨x,h1,h2⟩,h3⟩
    rcases List.mem_cons.1 h1 with rfl|h1
    ·exact .inl (by simpa using h2)
    ·exact .inr ⟨⟨x,h1,h2⟩,h3⟩
theorem HO(hE:fP ops){ms:List Nat}(hms:ms=jE ops.toList []){effs n:Nat}(heffs:∀ i o,ops[i]? = some o->jo E o->effs.testBit i=true){ds:List eh}{up:Option Md} :
 ∀(es:List (Nat×Oper)),(∀ x∈es,ops[x.1]? = some x.2/\jo E x.2)->zL ms (es.map (·.1))=true->∀(Y:List Ev) (done:Nat) (t:T V) (s:S),St E rec ops t0 s0 Y done t s->Is E Y->SF ops Y ->
  (∀ e Y' x r,Y=e::Y'->es=x::r->kM ops x.1 e.i)->∀ r,fV E ops ms effs (cj ops.toList 0) rec ds up es (dg E s0 n Y) done t s=some r ->
   (∃ L t' s',r=.on t' ds up s'/\dE E rec ops t0 s0 L/\nE t0 L t'/\s'=bS s0 L/\∀ k,k<ops.size->∃ q∈L,q.i=k)\/Ni E rec ops t0 s0 ds up r
 |[],hes,hef,Y,done,t,s,hS,hF,hB,hP,r,e=>by
  simp only[fV]at e
  split at e
  ·rename_i d1 t1 s1 hp
   cases e
   have hbits:∀ k,(Nat.pow 2 ops.size - 1).testBit k=decide (k<ops.size):=fun k=>by
    show(2 ^ ops.size - 1).testBit k=_
    rw[Nat.testBit_two_pow_sub_one]
   obtain⟨Z,h1,h2,h3⟩:=mH hE hms heffs (m:=Nat.pow 2 ops.size - 1) (n:=n) (fun i k hi hk=>by
    rw[hbits]at hi ⊢
    have:=rT hE i k hk
    simp at hi ⊢;omega) ops.toList 0 rfl Y done t s hS rfl (fun k hk=>absurd hk (Nat.not_lt_zero _)) _ _ _ hp
   refine .inl ⟨_,t1,s1,rfl,h1.run,h1.slots,h1.st,fun k hk=>(h1.done k).1 (h3 k hk ?_)⟩
   rw[hbits];simpa using hk
  ·cases e
 |(i,o)::r',hes,hef,Y,done,t,s,hS,hF,hB,hP,r,e=>by
  simp only[fV]at e
  obtain⟨ho,hk⟩:=hes (i,o) (by simp)
  simp only at ho hk
  have hpre:∀ k,(ms.getD i 0).testBit k=true↔kM ops i k:=fun k=>by subst hms;rfl
  split at e
  ·rename_i d1 t1 s1 hp
   obtain⟨Z,h1,h2,h3⟩:=mH hE hms heffs (m:=ms.getD i 0) (n:=n) (fun a k ha hk=>by
    rw[hpre]at ha ⊢
    exact rS hE i a k ha hk) ops.toList 0 rfl Y done t s hS rfl (fun k hk=>absurd hk (Nat.not_lt_zero _)) _ _ _ hp
   have hall:∀ q∈Z++Y,kM ops i q.i:=by
    intro q hq
    rcases List.mem_append.1 hq with hq|hq
    ·exact(hpre _).1 (h2 q hq).2
    ·cases Y with
     |nil=>cases hq
     |cons e0 Y' =>
      have h0:=hP e0 Y' (i,o) r' rfl rfl
      rcases List.mem_cons.1 hq with rfl|hq
      ·exact h0
      ·exact rS hE i e0.i q.i h0 (hB q hq)
   have hisz:i<ops.size:=by
    rcases Nat.lt_or_ge i ops.size with h|h
    ·exact h
    ·rw[Array.getElem?_eq_none h]at ho;cases ho
   split at e
   ·rename_i v s2 hst0
    have hst:=FV.1 hst0
    cases hc:(Nat.ble s1.next s2.next&&!(d1.testBit i)&&effs.testBit i)with
    |false=>rw[hc]at e;cases e
    |true =>
     rw[hc]at e
     simp only[cond_true]at e
     rw[bZ]at e
     simp only[Bool.and_eq_true,Bool.not_eq_true']at hc
     have hev:Cc E rec ops t0 s0 (Z++Y) ⟨i,o,v,t1,s1,s2⟩:=by
      refine⟨ho,fun k hk=>(h1.done k).1 (h3 k ?_ ((hpre k).2 hk)),fun q hq hqi=>?_,h1.slots,h1.st,.inr ⟨hk,hst,Nat.le_of_ble_eq_true hc.1.1,hall⟩⟩
      ·have:=rT hE i k hk
       have:i<ops.size:=by
        rcases Nat.lt_or_ge i ops.size with h|h
        ·exact h
        ·rw[Array.getElem?_eq_none h]at ho;cases ho
       omega
      ·have:=(h1.done i).2 ⟨q,hq,hqi⟩
       rw[hc.1.2]at this;cases this
     have hhist:dg E s0 n (⟨i,o,v,t1,s1,s2⟩::(Z++Y))=(i,s2)::dg E s0 n Y:=by
      have hk':aD E.P o.op=3:=hk
      simp only[dg,if_pos hk']
      rw[jZ fun q hq=>(h2 q hq).1]
     rw[<- hhist]at e
     refine HO hE hms heffs r' (fun x hx=>hes x (List.mem_cons_of_mem _ hx)) ?_ (⟨i,o,v,t1,s1,s2⟩::(Z++Y)) _ _ _ ⟨⟨hev,h1.run⟩,h1.done.cons ⟨i,o,v,t1,s1,s2⟩,h1.slots.put ⟨i,o,v,t1,s1,s2⟩,rfl⟩ hk hall ?_ r e
     ·cases r' with
      |nil=>rfl
      |cons x r'' =>
       simp only[List.map_cons,zL,Bool.and_eq_true]at hef
       exact hef.2
     ·intro e1 Y1 x r1 hY hr
      cases hY;subst hr
      simp only[List.map_cons,zL,Bool.and_eq_true]at hef
      have:=hef.1
      subst hms
      exact this
   ·rename_i c s2 hst
    cases hdi:d1.testBit i with
    |true=>rw[hdi]at e;cases e
    |false =>
     rw[hdi]at e
     simp only[cond_false]at e
     cases hph:bT E ops ms effs (dg E s0 n Y) (dj ms i (cj ops.toList 0)) (cj ops.toList 0) d1 t1 s1 with
     |none=>rw[hph]at e;cases e
     |some x =>
      rw[hph]at e
      obtain⟨d2,t2,s3⟩:=x
      simp only[Hl,Option.some.injEq]at e
      have hfm:∀ k,(dj ms i (cj ops.toList 0)).testBit k=true↔(∃ x∈cj ops.toList 0,x.1=k)/\¬ kM ops k i/\k≠i:=fun k=>by
       rw[lG]
       have:(ms.getD k 0).testBit i=false↔¬ kM ops k i:=by
        rw[<- Bool.not_eq_true];subst hms;exact Iff.rfl
       rw[this]
      have hh1:dg E s0 n (Z++Y)=dg E s0 n Y:=jZ fun q hq=>(h2 q hq).1
      obtain⟨Z2,g1,g2,g3⟩:=mH hE hms heffs (m:=dj ms i (cj ops.toList 0)) (n:=n) (Y0:=Y) (fun a k ha hk=>by
       rw[hfm]at ha ⊢
       obtain⟨⟨x,x1,x2⟩,p1,p2⟩:=ha
       have hka:=rT hE a k hk
       refine⟨?_,fun hki=>p1 (rS hE a k i hk hki),fun hki=>p1 (by rw[<- hki];exact hk)⟩
       have hxa:ops[a]? = some x.2:=by rw[<- x2];exact dI.1 x1
       have:a<ops.size:=by
        rcases Nat.lt_or_ge a ops.size with h|h
        ·exact h
        ·rw[Array.getElem?_eq_none h]at hxa;cases hxa
       exact⟨(k,ops[k]'(by omega)),dI.2 (by simp),rfl⟩) ops.toList 0 rfl (Z++Y) d1 t1 s1 h1 hh1 (fun k hk=>absurd hk (Nat.not_lt_zero _)) _ _ _ hph
      refine .inr ⟨i,o,Z2,Z++Y,d1,t1,c,s2,e.symm,ho,hk,g1.run,h1.done,h1.slots,by rw[<- h1.st];exact hst,hall,fun k hk=>(h1.done k).1 (h3 k ?_ ((hpre k).2 hk)),fun q hq=>(g2 q hq).1,fun q hq=>?_,fun k hks hki hp=>?_⟩
      ·have:=rT hE i k hk
       omega
      ·rcases List.mem_append.1 hq with hq|hq
       ·exact((hfm _).1 (g2 q hq).2).2.2
       ·have:=rT hE i q.i (hall q hq)
        omega
      ·refine(g1.done k).1 (g3 k hks ((hfm k).2 ⟨⟨(k,ops[k]'hks),dI.2 (by simp[hks]),rfl⟩,hp,hki⟩))
   ·cases e
  ·cases e
theorem wx(k:Nat):∀(es:List (Nat×Oper)) (s:Nat),(es.foldl (fun s x=>Nat.lor s (Nat.pow 2 x.1)) s).testBit k=true↔s.testBit k=true\/∃ x∈es,x.1=k
 |[],s=>by simp
 |x::es,s=>by
  rw[List.foldl_cons,wx k es,fS]
  grind
theorem Bv{t:T V}{ds:List eh}{up:Option Md}{s:S}{recR:yw}{r:jq}(e:gP E ops rec recR t ds up s=some r) :
 kg ops/\((∃ L t' s',r=.on t' ds up s'/\dE E rec ops t s L/\nE t L t'/\s'=bS s L/\∀ k,k<ops.size->∃ q∈L,q.i=k)\/Ni E rec ops t s ds up r):=by
 unfold gP at e
 split at e
 ·rename_i ms l es mask hp
  simp only[La]at hp
  cases hc:(Gd (jE ops.toList []) (cj ops.toList 0)&&zL (jE ops.toList []) ((qQ E.P (cj ops.toList 0)).map (·.1)))with
  |false=>rw[hc]at hp;cases hp
  |true =>
   rw[hc]at hp
   simp only[cond_true,Option.some.injEq,Ue.mk.injEq]at hp
   obtain⟨rfl,rfl,rfl,rfl⟩:=hp
   simp only[Bool.and_eq_true]at hc
   have hD:=DN hc.1
   refine⟨hD,?_⟩
   refine HO (n:=ops.size) hD.back rfl (fun i o ho hk=>?_) _ (fun x hx=>?_) hc.2 [] 0 t s ⟨trivial,fun k=>by simp,fun d=>.inr ⟨by simp,rfl⟩,rfl⟩ trivial trivial (fun e Y' x r h=>by cases h) r e
   ·rw[wx]
    refine .inr ⟨(i,o),?_,rfl⟩
    unfold qQ
    rw[List.mem_filter]
    have hk:aD E.P o.op=3:=hk
    exact⟨dI.2 ho,by simp[hk]⟩
   ·unfold qQ at hx
    rw[List.mem_filter]at hx
    obtain⟨x1,x2⟩:=x
    exact⟨dI.1 hx.1,by have h:=hx.2;simp at h;exact h⟩
 ·cases e
end
end Go.AI
set_option linter.all false
noncomputable section
namespace Go.AI
def aw.to(ρ:aw)(n:Nat):aw:=fun f v=>if f<n then ρ f v else none
theorem aw.to_le(ρ:aw){n m:Nat}(h:n<=m):(ρ.to n).le (ρ.to m):=fun f v l e=>by
 grind [aw.to]
theorem aw.to_le_self(ρ:aw)(n:Nat):(ρ.to n).le ρ:=fun f v l e=>by
 grind [aw.to]
theorem aw.to_mono{ρ ρ':aw}(h:ρ.le ρ')(n:Nat):(ρ.to n).le (ρ'.to n):=fun f v l e=>by
 unfold aw.to at e ⊢
 split at e
 ·rename_i hf;rw[if_pos hf];exact h _ _ _ e
 ·cases e
theorem aw.to_lt{ρ:aw}{n f v:Nat}{l:xS}(e:ρ.to n f v=some l):f<n/\ρ f v=some l:=by
 grind [aw.to]
theorem aw.to_of{ρ:aw}{n f v:Nat}(h:f<n):ρ.to n f v=ρ f v:=by unfold aw.to;rw[if_pos h]
theorem aw.to_ge{ρ:aw}{n f v:Nat}(h:n<=f):ρ.to n f v=none:=by unfold aw.to;rw[if_neg (by omega)]
theorem aw.to_all{ρ:aw}{n:Nat}(h:∀ f v,n<=f->ρ f v=none):ρ.to n=ρ:=by
 grind [aw.to_of,aw.to_ge]
theorem HR.frame{ρ:aw}{s:S}{w w':World}(h:HR ρ s w)(hs:w.heap.size<=w'.heap.size)(hh:∀ b,b<w.heap.size->w'.heap[b]? = w.heap[b]?):HR ρ s w' :=
 ⟨h.fresh,h.inj,fun f v l e=>Nat.lt_of_lt_of_le (h.low f v l e) hs,fun f B hB=>(h.blk f B hB).keep ρ.le_refl (fun _ hv=>hv) (fun v l e=>hh _ (h.low _ _ _ e)),h.dom,h.rw⟩
def Uo(ρ:aw):Prop:=∀ f v l f' v' l',ρ f v=some l->ρ f' v'=some l'->l.b=l'.b->f=f'/\l.base=l'.base
def Un(ρ:aw)(w:World):Prop:=∀ f v l,ρ f v=some l->l.b<w.heap.size
theorem HR.widen{ρ:aw}{s:S}{w:World}{n:Nat}(h:HR (ρ.to s.next) s w)(hi:Uo ρ)(hl:Un ρ w)(hn:s.next<=n):HR (ρ.to n) ⟨s.h,n⟩ w:=by
 refine⟨fun f v hf=>aw.to_ge hf,fun f v l f' v' l' e e'=>hi _ _ _ _ _ _ (aw.to_lt e).2 (aw.to_lt e').2,fun f v l e=>hl _ _ _ (aw.to_lt e).2,fun f B hB=>?_,fun f B hB=>Nat.lt_of_lt_of_le (h.dom f B (by rw[S.get_eq]at hB ⊢;exact hB)) hn,fun f B hB hnr v l hl=>?_⟩
 rotate_left
 ·have hB':s.get f=some B:=by rw[S.get_eq]at hB ⊢;exact hB
  exact h.rw f B hB' hnr v l (by rw[aw.to_of (h.dom f B hB')];exact(aw.to_lt hl).2)
 have hB':s.get f=some B:=by rw[S.get_eq]at hB ⊢;exact hB
 have hf:=h.dom f B hB'
 refine(h.blk f B hB').keep (aw.to_le ρ hn) (fun v hv=>?_) (fun _ _ _=>rfl)
 grind [aw.to_of]
theorem HR.bare{ρ:aw}{w:World}{n:Nat}(hi:Uo ρ)(hl:Un ρ w):HR (ρ.to n) ⟨.leaf,n⟩ w :=
 ⟨fun f v hf=>aw.to_ge hf,fun f v l f' v' l' e e'=>hi _ _ _ _ _ _ (aw.to_lt e).2 (aw.to_lt e').2,fun f v l e=>hl _ _ _ (aw.to_lt e).2,fun f B hB=>by(rw[S.get_eq,T.get_leaf]at hB;cases hB),fun f B hB=>by(rw[S.get_eq,T.get_leaf]at hB;cases hB),fun f B hB=>by(rw[S.get_eq,T.get_leaf]at hB;cases hB)⟩
theorem cg{s s':S}{x:Option V}{v:V}{s1:S}(e:bp s x=some (.val v s1)):bp s' x=some (.val v s'):=by
 cases x with
 |none=>cases e
 |some u=>cases e;rfl
theorem Jh{E:cV}{t:T V}{s:S}(s':S)(o:Oper)(hk:aD E.P o.op=0){v:V}{s1:S}(e:cQ E t s o=some (.val v s1)):cQ E t s' o=some (.val v s'):=by
 obtain⟨dst,op,type,pos,after,guard⟩:=o
 unfold cQ at e ⊢
 simp only at e hk ⊢
 cases op<;>simp only[cC]at e ⊢<;>try(cases e;done)
 case move x=>exact cg e
 case assign x=>exact cg e
 case pick c a b =>
  unfold lM at e ⊢
  split at e
  ·exact cg e
  ·cases e
 case build ty parts=>exact cg e
 case nilCheck x=>exact cg e
 case binOp op ty x y z =>
  have hq:lE op=false:=by
   grind [aD]
  unfold dO at e ⊢
  cases hx:eval t x with
  |none=>rw[hx]at e;cases e
  |some a =>
   cases hy:eval t y with
   |none=>rw[hx,hy]at e;cases e
   |some b =>
    rw[hx,hy]at e
    simp only at e ⊢
    cases hg:eu E.P op ty x y a b with
    |false=>rw[hg]at e;cases e
    |true =>
     rw[hg]at e
     simp only[cond_true]at e ⊢
     have:∀ ok ok',ee E.P ok op ty a b=ee E.P ok' op ty a b:=by
      intro ok ok'
      unfold ee
      grind [lE]
     rw[this (bg s') (bg s)]
     exact cg e
 case unOp op ty x=>exact cg e
 case convert src dst x =>
  unfold gj at e ⊢
  split at e
  ·rename_i x' hx'
   unfold ii at e ⊢
   unfold jj at e ⊢
   cases hs:E.P.underlying src with
   |none=>simp[hs]at e
   |some ds =>
    cases hd:E.P.underlying dst with
    |none=>simp[hs,hd]at e
    |some dd =>
     simp only[hs,hd]at e ⊢
     cases dd<;>simp only at e ⊢<;>try(cases e;done)
     case int k=>cases x'<;>simp only at e ⊢<;>first|(cases e;done)|(cases e;rfl)
     case string=>simp[aD,hd]at hk
     case slice el=>simp[aD,hd]at hk
  ·cases e
 case makeInterface ty x=>exact cg e
 case makeFunc fn first cap=>exact cg e
 case slice ty x lo hi mx=>exact cg e
 case fieldAddr ty x f=>exact cg e
 case field ty x f=>exact cg e
 case indexAddr ty x i=>exact cg e
 case index ty x i=>exact cg e
 case typeAssert x xt ty ok=>exact cg e
 case extract x i=>exact cg e
 case call c =>
  simp only[aD]at hk
  split at hk<;>cases hk
 all_goals (first|(simp[aD]at hk;done)|(exfalso;revert hk;simp[aD]))
def only(t:T V):List Tmp->T V
 |[]=>.leaf
 |d::r=>(only t r).set (t.get (eB d)) (eB d)
theorem mJ(t:T V):∀(l:List Tmp) (d:Tmp),(only t l).get (eB d)=if d∈l then t.get (eB d)else none
 |[],d=>by simp[only,T.get_leaf]
 |x::r,d=>by
  simp only[only]
  rw[T.get_setN,mJ t r d]
  grind
def nU(ops:Array Oper)(o:Oper):List Tmp:=match o.guard with
 |some (j,_)=>((ops[j]?).bind (·.dst)).toList
 |none=>[]
def looks(ops:Array Oper)(o:Oper):List Tmp:=sees o++nU ops o
theorem IF{t:T V}{ops:Array Oper}{o:Oper}{x:Operand}(hx:x∈o.op.operands):eval t x=eval (only t (looks ops o)) x:=by
 cases x with
 |tmp d =>
  simp only[eval]
  rw[mJ,if_pos]
  unfold looks sees
  refine List.mem_append.2 (.inl ?_)
  rw[List.mem_filterMap]
  exact⟨.tmp d,by simpa using hx,rfl⟩
 |const v=>rfl
 |global g=>rfl
 |func f=>rfl
theorem iL{E:cV}{ops:Array Oper}{t:T V}{s:S}{o:Oper}:cQ E (only t (looks ops o)) s o=cQ E t s o :=
 (FW o fun _ hx=>IF hx).symm
theorem jC{ops:Array Oper}{t:T V}{o:Oper}:bz ops (only t (looks ops o)) o=bz ops t o:=by
 grind [bz,mJ,looks,nU]
theorem xB{α:Type}{c:Bool}{x:Option α}{y:α}(h:(bif c then x else none)=some y):x=some y:=by cases c<;>first|(cases h;done)|exact h
theorem FX{E:cV}{t:T V}{s:S}(o:Oper)(hk:aD E.P o.op=2){v:V}{s1:S}(e:cQ E t s o=some (.val v s1)):∃ B,s1=s.alloc B:=by
 obtain⟨dst,op,type,pos,after,guard⟩:=o
 unfold cQ at e
 simp only at e hk
 cases op<;>simp only[cC]at e<;>try(cases e;done)
 case alloc elem =>
  unfold iG oB aZ aY at e
  split at e
  ·cases e;exact⟨_,rfl⟩
  ·cases e
 case box elem x =>
  unfold qX oB aZ aY at e
  split at e
  ·cases e;exact⟨_,rfl⟩
  ·cases e
 case buildSlice ty len parts =>
  unfold cb at e
  split at e
  ·split at e
   ·split at e
    ·split at e
     ·have e:=xB e
      unfold kl aZ aY at e
      split at e
      ·cases e;exact⟨_,rfl⟩
      ·cases e
     ·cases e
    ·cases e
   ·cases e
  ·cases e
 case makeMap ty r =>
  cases r with
  |none=>cases e;exact⟨_,rfl⟩
  |some _=>cases e
 case makeSlice ty l c =>
  unfold dY aZ aY at e
  split at e
  ·split at e
   ·split at e
    ·split at e
     ·split at e
      ·have e:=xB e
       cases e;exact⟨_,rfl⟩
      ·cases e
     ·cases e
    ·cases e
   ·cases e
  ·cases e
 case convert src dst x =>
  unfold gj ii jj at e
  split at e
  ·rename_i x' hx'
   cases hd:E.P.underlying dst with
   |none=>simp[aD,hd]at hk
   |some d =>
    cases d<;>simp[aD,hd]at hk
    cases hs:E.P.underlying src with
    |none=>simp[hs]at e
    |some ds =>
     simp only[hs,hd]at e
     cases x'<;>simp only[nH]at e<;>try(cases e;done)
     cases ds<;>simp only[aY]at e<;>try(cases e;done)
     split at e
     ·rename_i hh
      have hh:=xB hh
      cases hh;cases e;exact⟨_,rfl⟩
     ·cases e
  ·cases e
 case binOp op ty x y z=>simp only[aD]at hk;cases hb:lE op<;>simp[hb]at hk
 case call c=>simp only[aD]at hk;split at hk<;>simp at hk
 all_goals simp[aD]at hk
section
variable{E:cV}{rec:gH}{ops:Array Oper}{t0:T V}{s0:S}
theorem Cc.next_le{Y:List Ev}{e:Ev}(h:Cc E rec ops t0 s0 Y e):e.a.next<=e.b.next:=by
 rcases h.step with⟨_,⟨_,_,hb⟩|⟨_,⟨_,hb,_⟩|⟨_,hb,_⟩|⟨hk,hb⟩⟩⟩|⟨_,_,hb,_⟩
 ·grind
 ·grind
 ·grind
 ·grind [FX,S.next_alloc]
 ·exact hb
theorem dE.next_le:∀ {X Y:List Ev},dE E rec ops t0 s0 (X++Y)->(bS s0 Y).next<=(bS s0 (X++Y)).next
 |[],_,_=>Nat.le_refl _
 |e::X,Y,h=>by
  refine Nat.le_trans (dE.next_le h.2) ?_
  have:=h.1.next_le
  rw[h.1.st]at this
  exact this
theorem dE.suf:∀ {X Y:List Ev},dE E rec ops t0 s0 (X++Y)->dE E rec ops t0 s0 Y
 |[],_,h=>h
 |_::X,_,h=>dE.suf (X:=X) h.2
theorem dE.before{Y:List Ev}{e:Ev}(h:Cc E rec ops t0 s0 Y e)(hR:dE E rec ops t0 s0 Y){q:Ev}(hq:q∈Y):q.b.next<=e.a.next:=by
 obtain⟨Y1,Y2,rfl⟩:=List.append_of_mem hq
 rw[h.st]
 exact dE.next_le (Y:=q::Y2) hR
theorem dE.start{Y:List Ev}{e:Ev}(h:Cc E rec ops t0 s0 Y e)(hR:dE E rec ops t0 s0 Y):s0.next<=e.a.next:=by
 rw[h.st]
 have h1:dE E rec ops t0 s0 (Y++[]):=by simpa using hR
 have h2:=dE.next_le h1
 rw[List.append_nil]at h2
 exact h2
theorem dE.ok{L:List Ev}(h:dE E rec ops t0 s0 L){e:Ev}(he:e∈L):∃ X Y,L=X++e::Y/\Cc E rec ops t0 s0 Y e/\dE E rec ops t0 s0 Y:=by
 obtain⟨X,Y,rfl⟩:=List.append_of_mem he
 grind [dE.at]
theorem dE.uniq{L:List Ev}(h:dE E rec ops t0 s0 L){a b:Ev}(ha:a∈L)(hb:b∈L)(hi:a.i=b.i):a=b:=by
 induction L with
 |nil=>cases ha
 |cons e Y ih =>
  rcases List.mem_cons.1 ha with rfl|ha'
  ·rcases List.mem_cons.1 hb with rfl|hb'
   ·rfl
   ·exact absurd hi.symm (h.1.new b hb')
  ·rcases List.mem_cons.1 hb with rfl|hb'
   ·exact absurd hi (h.1.new a ha')
   ·exact ih h.2 ha' hb'
structure uJ(E:cV)(t0:T V)(s0:S)(ρ0:aw)(w0:World)(X F:List Ev)(R:Nat->Prop)(ρ:aw)(w:World)(tm:Array Value):Prop where
 front:Is E F
 inF:∀ e∈F,R e.i
 noE:∀ e∈X,R e.i->¬ jo E e.o
 vals:∀ e∈X++F,R e.i->∃ y,den (ρ.to e.b.next) e.v=some y/\∀ d,e.o.dst=some d->tm[d]? = some y
 olds:∀ d x,t0.get (eB d)=some x->(∀ e∈X++F,R e.i->e.o.dst≠some d)->∃ y,den (ρ.to s0.next) x=some y/\tm[d]? = some y
 blks:∀ e∈X,R e.i->e.b=e.a\/∃ B,e.b=e.a.alloc B/\xP (ρ.to e.b.next) w e.a.next B/\∀ v l,ρ e.a.next v=some l->¬ l.ro
 hr:HR (ρ.to (bS s0 F).next) (bS s0 F) w
 inj:Uo ρ
 low:Un ρ w
 fresh:∀ f v,ρ f v≠none->f<(bS s0 F).next\/∃ e∈X,R e.i/\f=e.a.next/\f<e.b.next
 fr:FR ρ0 w0 ρ w
theorem uJ.reg{ρ0:aw}{w0:World}{X F:List Ev}{R:Nat->Prop}{ρ:aw}{w:World}{tm:Array Value}(h:uJ E t0 s0 ρ0 w0 X F R ρ w tm) :
 ∀ {X1 Z:List Ev},X=X1++Z->dE E rec ops t0 s0 (Z++F)->(∀ e∈Z,R e.i)->HR (ρ.to (bS s0 (Z++F)).next) (bS s0 (Z++F)) w
 |_,[],_,_,_=>h.hr
 |X1,e::Z,hX,hR,hin=>by
  have ih:=uJ.reg h (X1:=X1++[e]) (Z:=Z) (by simpa using hX) hR.2 fun q hq=>hin q (List.mem_cons_of_mem _ hq)
  have hst:e.a=bS s0 (Z++F):=hR.1.st
  rw[<- hst]at ih
  show HR (ρ.to e.b.next) e.b w
  rcases h.blks e (by rw[hX];simp) (hin e (by simp))with hb|⟨B,hb,hB,hro⟩
  ·grind
  ·rw[hb]at hB ⊢
   rw[S.next_alloc]at hB ⊢
   refine⟨fun f v hf=>aw.to_ge (by rw[S.next_alloc]at hf;exact hf),fun f v l f' v' l' e1 e2=>h.inj _ _ _ _ _ _ (aw.to_lt e1).2 (aw.to_lt e2).2,fun f v l e1=>h.low _ _ _ (aw.to_lt e1).2,fun f B' hg=>?_,fun f B' hg=>?_,fun f B' hg hnr v l hl=>?_⟩
   ·rw[S.get_alloc]at hg
    split at hg
    ·grind
    ·rename_i he
     have hf:=ih.dom f B' hg
     refine(ih.blk f B' hg).keep (aw.to_le ρ (Nat.le_succ _)) (fun v hv=>?_) (fun _ _ _=>rfl)
     grind [aw.to_of]
   ·rw[S.get_alloc]at hg
    rw[S.next_alloc]
    split at hg
    ·omega
    ·have:=ih.dom f B' hg;omega
   ·rw[S.get_alloc]at hg
    split at hg
    ·rename_i he;subst he;exact hro v l (aw.to_lt hl).2
    ·exact ih.rw f B' hg hnr v l (by rw[aw.to_of (ih.dom f B' hg)];exact(aw.to_lt hl).2)
theorem uJ.env{ρ0:aw}{w0:World}{X1 X2 F:List Ev}{e:Ev}{R:Nat->Prop}{ρ:aw}{w:World}{tm:Array Value}(hD:kg ops)(h:uJ E t0 s0 ρ0 w0 (X1++e::X2) F R ρ w tm)
 (hR:dE E rec ops t0 s0 (X1++e::(X2++F))) (hn:¬ R e.i) (hcl:fI ops R) (hpre:∀ k,kM ops e.i k->R k):TR (ρ.to e.a.next) (only e.t (looks ops e.o)) tm:=by
 obtain⟨hev,hRY⟩:=dE.at hR
 have hL:X1++e::X2++F=X1++e::(X2++F):=by simp
 intro d x hx
 rw[mJ]at hx
 split at hx
 ·rename_i hd
  have hord:∀ q oq,ops[q]? = some oq->oq.dst=some d->q≠e.i->kM ops e.i q\/kM ops q e.i:=by
   intro q oq hq hdq hqi
   rcases List.mem_append.1 hd with hd|hd
   ·exact hD.sees e.i q e.o oq d hev.op hq (fun h=>hqi h.symm) hdq hd
   ·unfold nU at hd
    split at hd
    ·rename_i g b hg
     have hgd:((ops[g]?).bind (·.dst))=some d:=by simpa using hd
     cases hog:ops[g]? with
     |none=>rw[hog]at hgd;cases hgd
     |some og =>
      rw[hog]at hgd
      by_cases hgq:g=q
      ·subst hgq;exact .inl (hD.guard e.i e.o g b hev.op hg)
      ·exact absurd hgd (hD.dst g q og oq d hog hq hgq hdq)
    ·simp at hd
  rcases hev.slots d with⟨q,q1,q2,q3⟩|⟨q1,q2⟩
  ·rw[q3]at hx;cases hx
   obtain⟨Ya,Yb,hY,hqev,_⟩:=dE.ok hRY q1
   have hqi:q.i≠e.i:=hev.new q q1
   rcases hord q.i q.o hqev.op q2 hqi with p|p
   ·obtain⟨y,y1,y2⟩:=h.vals q (by rw[hL];simp;right;right;simpa using q1) (hpre _ p)
    exact⟨y,bq (aw.to_le ρ (dE.before hev hRY q1)) _ _ y1,y2 d q2⟩
   ·obtain⟨z,z1,z2⟩:=hqev.pre e.i p
    exact absurd z2 (hev.new z (by rw[hY];simp;right;right;exact z1))
  ·rw[q2]at hx
   obtain⟨y,y1,y2⟩:=h.olds d x hx (fun q hq hr hdq=>by
    rw[hL]at hq
    obtain⟨_,Y',_,k1,_⟩:=dE.ok hR hq
    by_cases hqi:q.i=e.i
    ·rw[hqi]at hr;exact hn hr
    ·rcases hord q.i q.o k1.op hdq hqi with p|p
     ·obtain⟨z,z1,z2⟩:=hev.pre _ p
      have hz:z=q:=dE.uniq hR (by simp;right;right;simpa using z1) hq z2
      subst hz
      exact q1 z z1 hdq
     ·exact hn (hcl q.i e.i hr p))
   exact⟨y,bq (aw.to_le ρ (dE.start hev hRY)) _ _ y1,y2⟩
 ·cases hx
end
end Go.AI
set_option linter.all false
noncomputable section
namespace Go.AI
section
variable{E:cV}{rec:gH}{ops:Array Oper}{t0:T V}{s0:S}{ρ0:aw}{w0:World}
theorem yR{tm:Array Value}{o:Option Tmp}{y:Value}{d:Tmp}(h:o=some d)(hd:d<tm.size):(mF tm o y)[d]? = some y:=by
 grind [mF]
theorem ls{tm:Array Value}{o:Option Tmp}{y:Value}{d:Tmp}(h:o≠some d):(mF tm o y)[d]? = tm[d]?:=by
 cases o with
 |none=>rfl
 |some i =>
  unfold mF
  exact Array.getElem?_setIfInBounds_ne (fun e=>h (by rw[e]))
section
variable{X1 X2 F:List Ev}{e:Ev}{R:Nat->Prop}{ρ:aw}{w:World}{tm:Array Value}
theorem nO{q:Ev}:q∈X1++e::X2++F↔q∈X1++e::(X2++F):=by simp
theorem zM(hD:kg ops)(hR:dE E rec ops t0 s0 (X1++e::(X2++F))){q:Ev}(hq:q∈X1++e::(X2++F))(hi:q.i≠e.i){d:Tmp}(hd:q.o.dst=some d):e.o.dst≠some d:=by
 obtain⟨_,_,_,k1,_⟩:=dE.ok hR hq
 have k2:=(dE.at hR).1
 exact hD.dst e.i q.i e.o q.o d k2.op k1.op (fun h=>hi h.symm) hd
theorem after(hR:dE E rec ops t0 s0 (X1++e::(X2++F))){q:Ev}(hq:q∈X1):e.b.next<=q.a.next:=by
 obtain⟨Xa,Xb,rfl⟩:=List.append_of_mem hq
 have h2:dE E rec ops t0 s0 (Xa++q::(Xb++e::(X2++F))):=by simpa using hR
 obtain⟨k1,k2⟩:=dE.at h2
 exact dE.before k1 k2 (by simp)
theorem uJ.step(hD:kg ops)(h:uJ E t0 s0 ρ0 w0 (X1++e::X2) F R ρ w tm)(hR:dE E rec ops t0 s0 (X1++e::(X2++F)))(hk:¬ jo E e.o)(hn:¬ R e.i){ρ':aw}{w':World}{y:Value}
 (hle:ρ.le ρ') (hkeep:∀ f v,ρ' f v≠none->ρ f v≠none\/(f=e.a.next/\f<e.b.next)) (hsame:∀ f v,f≠e.a.next->ρ' f v=ρ f v)
 (hwh:∀ b,b<w.heap.size->w'.heap[b]? = w.heap[b]?) (hinj:Uo ρ') (hlow:Un ρ' w') (hfr:FR ρ w ρ' w')
 (hv:den (ρ'.to e.b.next) e.v=some y) (hb:e.b=e.a\/∃ B,e.b=e.a.alloc B/\xP (ρ'.to e.b.next) w' e.a.next B/\∀ v l,ρ' e.a.next v=some l->¬ l.ro) (hdst:∀ d,e.o.dst=some d->d<tm.size) :
 uJ E t0 s0 ρ0 w0 (X1++e::X2) F (with1 R e.i) ρ' w' (mF tm e.o.dst y):=by
 obtain⟨hev,hRY⟩:=dE.at hR
 have hNF:(bS s0 F).next<=e.a.next:=by rw[hev.st];exact dE.next_le hRY
 have uniq:∀ q,q∈X1++e::(X2++F)->q.i=e.i->q=e:=fun q hq hi=>dE.uniq hR hq (by simp) hi
 refine⟨h.front,fun q hq=>.inl (h.inF q hq),fun q hq hr=>?_,fun q hq hr=>?_,fun d x hx hno=>?_,fun q hq hr=>?_,?_,hinj,hlow,fun f v hf=>?_,h.fr.trans hfr⟩
 ·rcases hr with hr|hr
  ·exact h.noE q hq hr
  ·have:=uniq q (by rw[<- nO];exact List.mem_append_left _ hq) hr
   subst this;exact hk
 ·by_cases hi:q.i=e.i
  ·have:=uniq q (nO.1 hq) hi
   subst this
   exact⟨y,hv,fun d hd=>yR hd (hdst d hd)⟩
  ·have hr:R q.i:=hr.resolve_right hi
   obtain⟨z,z1,z2⟩:=h.vals q hq hr
   exact⟨z,bq (aw.to_mono hle _) _ _ z1,fun d hd=>by rw[ls (zM hD hR (nO.1 hq) hi hd)];exact z2 d hd⟩
 ·obtain⟨z,z1,z2⟩:=h.olds d x hx fun q hq hr=>hno q hq (.inl hr)
  refine⟨z,bq (aw.to_mono hle _) _ _ z1,?_⟩
  rw[ls (hno e (by simp) (.inr rfl))];exact z2
 ·by_cases hi:q.i=e.i
  ·have:=uniq q (nO.1 (List.mem_append_left _ hq)) hi
   subst this;exact hb
  ·have hr:R q.i:=hr.resolve_right hi
   rcases h.blks q hq hr with hqb|⟨B,hqb,hB,hro⟩
   ·exact .inl hqb
   ·have hne0:q.a.next=e.a.next->∀ v l,ρ' q.a.next v=some l->ρ q.a.next v≠none:=by
     intro hne v l hl hv
     have hqn:q.b.next=q.a.next+1:=by rw[hqb,S.next_alloc]
     rcases hkeep q.a.next v (by rw[hl];exact fun h=>by cases h)with hc|⟨_,hc⟩
     ·exact hc hv
     ·rcases List.mem_append.1 hq with hq1|hq1
      ·have:=after hR hq1;omega
      ·rcases List.mem_cons.1 hq1 with rfl|hq1
       ·exact hi rfl
       ·have:=dE.before hev hRY (List.mem_append_left F hq1);omega
    refine .inr ⟨B,hqb,hB.keep (aw.to_mono hle _) (fun v hv=>?_) (fun v l hl=>hwh _ (h.low _ _ _ (aw.to_lt hl).2)),fun v l hl=>?_⟩
    rotate_left
    ·cases hq0:ρ q.a.next v with
     |none =>
      exfalso
      by_cases hne:q.a.next=e.a.next
      ·exact hne0 hne v l hl hq0
      ·rw[hsame _ _ hne,hq0]at hl;cases hl
     |some l0 =>
      have:=hle _ _ _ hq0
      rw[hl]at this;cases this
      exact hro v l hq0
    have hqn:q.b.next=q.a.next+1:=by rw[hqb,S.next_alloc]
    rw[aw.to_of (by omega)]at hv ⊢
    by_cases hne:q.a.next=e.a.next
    ·cases hq':ρ' q.a.next v with
     |none=>rfl
     |some l =>
      exfalso
      rcases hkeep q.a.next v (by rw[hq'];exact fun h=>by cases h)with hc|⟨_,hc⟩
      ·exact hc hv
      ·rcases List.mem_append.1 hq with hq1|hq1
       ·have:=after hR hq1;omega
       ·rcases List.mem_cons.1 hq1 with rfl|hq1
        ·exact hi rfl
        ·have:=dE.before hev hRY (List.mem_append_left F hq1);omega
    ·rw[hsame _ _ hne];exact hv
 ·have:ρ'.to (bS s0 F).next=ρ.to (bS s0 F).next:=by
   grind [aw.to_of,aw.to_ge]
  rw[this]
  exact h.hr.frame hfr.size hwh
 ·rcases hkeep f v hf with hf|⟨h1,h2⟩
  ·rcases h.fresh f v hf with hf|⟨q,q1,q2,q3⟩
   ·exact .inl hf
   ·exact .inr ⟨q,q1,.inl q2,q3⟩
  ·exact .inr ⟨e,by simp,.inr rfl,h1,h2⟩
theorem uJ.float(hD:kg ops)(h:uJ E t0 s0 ρ0 w0 (X1++e::X2) F R ρ w tm)(hR:dE E rec ops t0 s0 (X1++e::(X2++F)))(hk:¬ jo E e.o)(hn:¬ R e.i)(hcl:fI ops R)(hpre:∀ k,kM ops e.i k->R k)
 (hdst:∀ d,e.o.dst=some d->d<tm.size) :
 (Region.wanted e.o (yielded ops tm)=false/\uJ E t0 s0 ρ0 w0 (X1++e::X2) F (with1 R e.i) ρ w (mF tm e.o.dst undef)) \/
 (Region.wanted e.o (yielded ops tm)=true/\∃ y w' ρ',(execOp (rv tm) e.o).run E.P w=.ok (.value y) w'/\uJ E t0 s0 ρ0 w0 (X1++e::X2) F (with1 R e.i) ρ' w' (mF tm e.o.dst y)):=by
 obtain⟨hev,hRY⟩:=dE.at hR
 have hT:=h.env hD hR hn hcl hpre
 have hNF:(bS s0 F).next<=e.a.next:=by rw[hev.st];exact dE.next_le hRY
 have wsp:∀ b,bz ops e.t e.o=some b->Region.wanted e.o (yielded ops tm)=b:=fun b hb=>by
  rw[<- jC]at hb
  exact eJ (fr:={ (default:Frame)with tmps:=tm }) hT hb
 have plain:∀ y,den (ρ.to e.b.next) e.v=some y->e.b=e.a->uJ E t0 s0 ρ0 w0 (X1++e::X2) F (with1 R e.i) ρ w (mF tm e.o.dst y):=fun y hv hb =>
  uJ.step hD h hR hk hn ρ.le_refl (fun f v hf=>.inl hf) (fun _ _ _=>rfl) (fun _ _=>rfl) h.inj h.low (FR.refl ρ w) hv (.inl hb) hdst
 rcases hev.step with⟨_,⟨hw,hv,hb⟩|⟨hw,hf⟩⟩|⟨hk',_⟩
 ·left
  refine⟨wsp _ hw,plain undef ?_ hb⟩
  rw[hv];rfl
 ·right
  refine⟨wsp _ hw,?_⟩
  rcases hf with⟨hk0,hb,s1,hd⟩|⟨hk1,hb,hd⟩|⟨hk2,hd⟩
  ·rw[<- iL (ops:=ops)]at hd
   have hd':=Jh ⟨.leaf,e.a.next⟩ e.o hk0 hd
   obtain⟨v,y,h1,h2,h3⟩:=yZ (HR.bare h.inj h.low) hT e.o (by omega) hd'
   cases h1
   exact⟨y,w,ρ,h2,plain y (by rw[hb];exact h3) hb⟩
  ·obtain⟨s1,hd⟩:=hd X2 F rfl h.front fun q hq hqe hp=>h.noE q (by simp[hq]) (hpre _ hp) hqe
   rw[<- iL (ops:=ops)]at hd
   have hd':=Jg (n':=e.a.next) (h:=(bS s0 F).h) (n:=(bS s0 F).next) e.o (by omega) hd
   obtain⟨v,y,h1,h2,h3⟩:=yZ (h.hr.widen h.inj h.low hNF) hT e.o (by omega) hd'
   cases h1
   exact⟨y,w,ρ,h2,plain y (by rw[hb];exact h3) hb⟩
  ·rw[<- iL (ops:=ops)]at hd
   obtain⟨mk,B,hm,y,obj,lim,n,hrun,hmk⟩:=IE (w:=w) hT e.o hk2 hd
   have hm':=hm e.a
   simp only at hm'
   rw[hm']at hd
   injection hd with hd;injection hd with hd1 hd2
   have hbn:e.b.next=e.a.next+1:=by rw[<- hd2,S.next_alloc]
   have hfree:∀ v,ρ e.a.next v=none:=by
    intro v
    cases hr:ρ e.a.next v with
    |none=>rfl
    |some l =>
     exfalso
     rcases h.fresh e.a.next v (by rw[hr];exact fun h=>by cases h)with hf|⟨q,q1,q2,q3,q4⟩
     ·omega
     ·rcases List.mem_append.1 q1 with hq1|hq1
      ·have:=after hR hq1;omega
      ·rcases List.mem_cons.1 hq1 with rfl|hq1
       ·exact hn q2
       ·have:=dE.before hev hRY (List.mem_append_left F hq1);omega
   let ρ':=ρ.put e.a.next 0 ⟨w.heap.size,0,lim⟩
   have hle:ρ.le ρ':=aw.le_put _ (hfree 0)
   have hto:(ρ.to e.a.next).le (ρ'.to e.b.next):=aw.le_trans (aw.to_mono hle _) (aw.to_le ρ' (by omega))
   obtain⟨hv,hblk⟩:=hmk (ρ'.to e.b.next) e.a.next hto (by rw[aw.to_of (by omega)];exact aw.put_same _ _ _ _) (fun v hv=>by
    rw[aw.to_of (by omega)]
    show ρ.put _ _ _ _ _=none
    unfold aw.put;rw[if_neg (by omega)];exact hfree v)
   have hhp:∀ b,b<w.heap.size->(({ w with drawn:=n }:World).alloc obj).heap[b]? = w.heap[b]?:=fun b hb=>gL { w with drawn:=n } obj hb
   refine⟨y,_,ρ',hrun,uJ.step hD h hR hk hn hle (fun f v hf=>?_) (fun f v hf=>?_) hhp ?_ ?_ ?_ (by rw[<- hd1];exact hv) (.inr ⟨B,hd2.symm,hblk _ ?_,fun v l hl=>?_⟩) hdst⟩
   ·cases hr:ρ' f v with
    |none=>exact absurd hr hf
    |some l =>
     rcases aw.of_put hr with⟨h1,_,_⟩|h1
     ·exact .inr ⟨h1,by omega⟩
     ·exact .inl (by rw[h1];exact fun h=>by cases h)
   ·show ρ.put _ _ _ _ _=_
    unfold aw.put;rw[if_neg (fun h=>hf h.1)]
   ·intro f v l f' v' l' e1 e2 hb
    rcases aw.of_put e1 with⟨rfl,rfl,rfl⟩|e1
    ·rcases aw.of_put e2 with⟨rfl,rfl,rfl⟩|e2
     ·exact⟨rfl,rfl⟩
     ·have:=h.low _ _ _ e2;simp at hb;omega
    ·rcases aw.of_put e2 with⟨rfl,rfl,rfl⟩|e2
     ·have:=h.low _ _ _ e1;simp at hb;omega
     ·exact h.inj _ _ _ _ _ _ e1 e2 hb
   ·intro f v l e1
    rcases aw.of_put e1 with⟨rfl,rfl,rfl⟩|e1
    ·simp
    ·have:=h.low _ _ _ e1;simp;omega
   ·refine⟨hle,by simp,rfl,rfl,rfl,fun b hb _=>hhp b hb,fun f v l e1 hl=>?_⟩
    rcases aw.of_put e1 with⟨rfl,rfl,rfl⟩|e1
    ·simp at hl
    ·exact⟨f,v,l,e1,rfl,id⟩
   ·exact dW { w with drawn:=n } obj
   ·rcases aw.of_put hl with⟨_,rfl,rfl⟩|hl
    ·show ¬(lim<0);omega
    ·rw[hfree v]at hl;cases hl
 ·exact absurd hk' hk
theorem uJ.effect(hD:kg ops)(h:uJ E t0 s0 ρ0 w0 (X1++e::X2) F R ρ w tm)(hR:dE E rec ops t0 s0 (X1++e::(X2++F)))(hk:jo E e.o)(hn:¬ R e.i)(hX2:∀ q∈X2,R q.i){ρ1:aw}{w':World}{y:Value}
 (h1:HR ρ1 e.b w') (h2:FR (ρ.to e.a.next) w ρ1 w') (hv:den ρ1 e.v=some y) (hdst:∀ d,e.o.dst=some d->d<tm.size) :
 ∃ ρ',uJ E t0 s0 ρ0 w0 X1 (e::(X2++F)) (with1 R e.i) ρ' w' (mF tm e.o.dst y):=by
 obtain⟨hev,hRY⟩:=dE.at hR
 have hNF:(bS s0 F).next<=e.a.next:=by rw[hev.st];exact dE.next_le hRY
 have hab:=hev.next_le
 have uniq:∀ q,q∈X1++e::(X2++F)->q.i=e.i->q=e:=fun q hq hi=>dE.uniq hR hq (by simp) hi
 have notX1:∀ q∈X1,q.i≠e.i:=by
  intro q hq hi
  have:=uniq q (by simp[hq]) hi
  subst this
  obtain⟨Xa,Xb,rfl⟩:=List.append_of_mem hq
  have h2:dE E rec ops t0 s0 (Xa++q::(Xb++q::(X2++F))):=by simpa using hR
  exact(dE.at h2).1.new q (by simp) rfl
 have early:∀ f v,ρ f v≠none->f<e.a.next\/(e.b.next<=f/\∃ q∈X1,R q.i/\f=q.a.next/\f<q.b.next):=by
  intro f v hf
  rcases h.fresh f v hf with hf|⟨q,q1,q2,q3,q4⟩
  ·grind
  ·rcases List.mem_append.1 q1 with hq1|hq1
   ·have:=after hR hq1
    grind
   ·rcases List.mem_cons.1 hq1 with rfl|hq1
    ·grind
    ·have:=dE.before hev hRY (List.mem_append_left F hq1)
     grind
 let ρ':aw:=fun f v=>if f<e.b.next then ρ1 f v else ρ f v
 have ρlt:∀ {f v},f<e.b.next->ρ' f v=ρ1 f v:=fun {f v} hf=>by show(if _ then _ else _)=_;rw[if_pos hf]
 have ρge:∀ {f v},e.b.next<=f->ρ' f v=ρ f v:=fun {f v} hf=>by show(if _ then _ else _)=_;rw[if_neg (by omega)]
 have hto:ρ'.to e.b.next=ρ1:=by
  funext f v
  by_cases hf:f<e.b.next
  ·grind [aw.to_of]
  ·rw[aw.to_ge (by omega),h1.fresh f v (by omega)]
 have hle:ρ.le ρ':=fun f v l hl=>by
  rcases early f v (by rw[hl];exact fun h=>by cases h)with hf|⟨hf,_⟩
  ·rw[ρlt (by omega)]
   exact h2.ext f v l (by rw[aw.to_of hf];exact hl)
  grind
 have hfr:FR ρ w ρ' w':=by
  refine⟨hle,h2.size,h2.os,h2.tape,h2.output,fun b hb hno=>h2.same b hb fun f v l hl hro=>hno f v l (aw.to_lt hl).2 hro,fun f v l hl hb=>?_⟩
  by_cases hf:f<e.b.next
  ·rw[ρlt hf]at hl
   obtain⟨f',v',l',k1,k2⟩:=h2.new f v l hl hb
   exact⟨f',v',l',(aw.to_lt k1).2,k2⟩
  grind
 have apart:∀ f v l f' v' l',f<e.b.next->e.b.next<=f'->ρ' f v=some l->ρ' f' v'=some l'->l.b≠l'.b:=by
  intro f v l f' v' l' hf hf' e1 e2 hb
  rw[ρlt hf]at e1
  rw[ρge hf']at e2
  have hl:=h.low _ _ _ e2
  obtain⟨f2,v2,l2,k1,k2,_⟩:=h2.new f v l e1 (by omega)
  obtain⟨k3,k4⟩:=aw.to_lt k1
  have:=(h.inj _ _ _ _ _ _ k4 e2 (by omega)).1
  omega
 refine⟨ρ',hk,fun q hq=>?_,fun q hq hr=>?_,fun q hq hr=>?_,fun d x hx hno=>?_,fun q hq hr=>?_,?_,?_,?_,fun f v hf=>?_,h.fr.trans hfr⟩
 ·rcases List.mem_cons.1 hq with rfl|hq
  ·exact .inr rfl
  ·rcases List.mem_append.1 hq with hq|hq
   ·exact .inl (hX2 q hq)
   ·exact .inl (h.inF q hq)
 ·exact h.noE q (by simp[hq]) (hr.resolve_right (notX1 q hq))
 ·by_cases hi:q.i=e.i
  ·have:=uniq q hq hi
   subst this
   exact⟨y,by rw[hto];exact hv,fun d hd=>yR hd (hdst d hd)⟩
  ·have hr:R q.i:=hr.resolve_right hi
   obtain⟨z,z1,z2⟩:=h.vals q (nO.2 hq) hr
   exact⟨z,bq (aw.to_mono hle _) _ _ z1,fun d hd=>by rw[ls (zM hD hR hq hi hd)];exact z2 d hd⟩
 ·obtain⟨z,z1,z2⟩:=h.olds d x hx fun q hq hr=>hno q (nO.1 hq) (.inl hr)
  refine⟨z,bq (aw.to_mono hle _) _ _ z1,?_⟩
  rw[ls (hno e (by simp) (.inr rfl))];exact z2
 ·have hr:R q.i:=hr.resolve_right (notX1 q hq)
  have haf:=after hR hq
  rcases h.blks q (by simp[hq]) hr with hqb|⟨B,hqb,hB,hro⟩
  ·exact .inl hqb
  ·have hqn:q.b.next=q.a.next+1:=by rw[hqb,S.next_alloc]
   refine .inr ⟨B,hqb,hB.keep (aw.to_mono hle _) (fun v hv=>?_) (fun v l hl=>?_),fun v l hl=>hro v l (by rw[ρge haf]at hl;exact hl)⟩
   ·rw[aw.to_of (by omega)]at hv ⊢
    rw[ρge haf];exact hv
   ·have hl':=(aw.to_lt hl).2
    refine h2.same _ (h.low _ _ _ hl') fun f v' l' hf _ hb=>?_
    obtain⟨k1,k2⟩:=aw.to_lt hf
    have:=(h.inj _ _ _ _ _ _ k2 hl' hb).1
    omega
 ·show HR (ρ'.to e.b.next) e.b w'
  rw[hto];exact h1
 ·intro f v l f' v' l' e1 e2 hb
  by_cases hf:f<e.b.next
  ·by_cases hf':f'<e.b.next
   ·rw[ρlt hf]at e1;rw[ρlt hf']at e2
    exact h1.inj _ _ _ _ _ _ e1 e2 hb
   ·exact absurd hb (apart _ _ _ _ _ _ hf (by omega) e1 e2)
  ·by_cases hf':f'<e.b.next
   ·exact absurd hb.symm (apart _ _ _ _ _ _ hf' (by omega) e2 e1)
   ·rw[ρge (by omega)]at e1 e2
    exact h.inj _ _ _ _ _ _ e1 e2 hb
 ·intro f v l e1
  by_cases hf:f<e.b.next
  ·rw[ρlt hf]at e1;exact h1.low _ _ _ e1
  ·rw[ρge (by omega)]at e1
   exact Nat.lt_of_lt_of_le (h.low _ _ _ e1) h2.size
 ·show f<e.b.next\/_
  by_cases hfe:f<e.b.next
  ·exact .inl hfe
  ·rw[ρge (by omega)]at hf
   rcases early f v hf with hf|⟨_,q,q1,q2,q3⟩
   ·exact absurd (Nat.lt_of_lt_of_le hf hab) hfe
   ·exact .inr ⟨q,q1,.inl q2,q3⟩
end
end
end Go.AI
set_option linter.all false
noncomputable section
namespace Go.AI
def left:List Bool->Nat
 |[]=>0
 |true::r=>left r
 |false::r=>left r+1
theorem wc:∀(l:List Bool) (i:Nat),l[i]? = some false->left (l.set i true)+1=left l
 |[],i,h=>by simp at h
 |b::r,0,h=>by simp at h;subst h;simp[left]
 |b::r,i+1,h=>by
  have:=wc r i (by simpa using h)
  cases b<;>simp[left]<;>omega
theorem sh:∀(l:List Bool),left l=0->∀ i:Nat,l[i]?≠some false
 |[],_,i=>by simp
 |true::r,h,0=>by simp
 |false::r,h,_=>by simp[left]at h
 |true::r,h,i+1=>by simpa using sh r h i
theorem iU:∀ n,left (List.replicate n false)=n
 |0=>rfl
 |n+1=>by simp[List.replicate_succ,left,iU n]
def bR(listed:Array Bool):Nat->Prop:=fun i=>listed[i]? = some true
section
variable{P:Program}{ops:Array Oper}{listed:Array Bool}
theorem vY{i:Nat}(hs:i<listed.size):bR (listed.setIfInBounds i true)=with1 (bR listed) i:=by
 funext k
 unfold bR with1
 apply propext
 by_cases h:i=k
 ·subst h;simp[hs]
 ·rw[Array.getElem?_setIfInBounds_ne h]
  constructor
  ·exact fun h=>.inl h
  ·rintro(h1|h1)
   ·exact h1
   ·exact absurd h1.symm h
theorem zc{i:Nat}(hs:listed.size=ops.size)(h:i∈Region.ready .any ops listed):∃ o,ops[i]? = some o/\listed[i]? = some false/\∀ e∈o.after,Region.binds .any e=true->bR listed e.on:=by
 unfold Region.ready at h
 rw[List.mem_filter]at h
 obtain⟨h1,h2⟩:=h
 have hi:i<ops.size:=by simpa using h1
 simp only[Bool.and_eq_true,Bool.not_eq_true']at h2
 obtain⟨h2,h3⟩:=h2
 refine⟨ops[i],by simp[hi],?_,?_⟩
 ·simp_all
 ·rw[Array.getElem?_eq_getElem hi]at h3
  simp only[Option.map_some,Option.getD_some]at h3
  rw[Array.all_eq_true']at h3
  intro e he hb
  have:=h3 e he
  rw[hb]at this
  simp only[Bool.not_true,Bool.false_or]at this
  unfold bR
  rw[Array.getD_eq_getD_getElem?]at this
  grind
theorem yQ(hE:fP ops)(hs:listed.size=ops.size)(h:Region.ready .any ops listed=[]):∀ i,i<ops.size->bR listed i:=by
 intro i
 induction i using Nat.strongRecOn with
 |ind i ih =>
  intro hi
  have hi':i<listed.size:=by omega
  cases hb:listed[i]with
  |true=>unfold bR;rw[Array.getElem?_eq_getElem hi',hb]
  |false =>
   exfalso
   have:i∈Region.ready .any ops listed:=by
    unfold Region.ready
    rw[List.mem_filter]
    refine⟨by simpa using hi,?_⟩
    simp only[Bool.and_eq_true,Bool.not_eq_true']
    refine⟨by rw[Array.getD_eq_getD_getElem?,Array.getElem?_eq_getElem hi',hb];rfl,?_⟩
    rw[Array.getElem?_eq_getElem hi]
    simp only[Option.map_some,Option.getD_some]
    rw[Array.all_eq_true']
    intro e he
    cases hbi:Region.binds .any e with
    |false=>rfl
    |true =>
     have hlt:=hE i ops[i] (by simp[hi]) e he hbi
     have:=ih e.on hlt (by omega)
     unfold bR at this
     simp_all
   grind
theorem vw(hE:fP ops){R:Nat->Prop}(hcl:fI ops R){i:Nat}{o:Oper}(ho:ops[i]? = some o)(h:∀ e∈o.after,Region.binds .any e=true->R e.on):∀ k,kM ops i k->R k:=by
 intro k hk
 obtain⟨e,h1,h2,h3⟩:=(uk hE ho).1 hk
 rcases h3 with rfl|h3
 ·grind
 ·exact hcl e.on k (h e h1 h2) h3
end
section
variable{E:cV}{ih:rE->S->Option eO}{ops:Array Oper}{t0:T V}{s0:S}{ρ0:aw}{w0:World}{f:FuncId}{fn:Func}{k:List Item}{rd:Option Nat}{ds:List eh}{up:Option Md}{cs:List Frame}
theorem Jb{fr:Frame}{i:Nat}{rest:List Nat}{o:Oper}(hF:jp E.P ρ0 f fn .leaf (.inRegion ops (i::rest)::k) ds .run up rd fr cs)(ho:ops[i]? = some o)(y:Value) :
 jp E.P ρ0 f fn .leaf (.inRegion ops rest::k) ds .run up rd (fr.finish y) cs/\(fr.finish y).tmps=mF fr.tmps o.dst y:=by
 rw[zC (hF.todo rfl) ho]
 refine⟨⟨hF.name,hF.func,TR.leaf _ _,?_,fun _=>rfl,hF.ds,hF.md,hF.rd,hF.up⟩,rfl⟩
 show fn.ntmps<=(mF fr.tmps o.dst y).size
 have:=hF.size
 unfold mF
 split<;>simpa using this
theorem KQ(hE:ic E)(hg:Good E.P ih)(hD:kg ops)(hdst:kD ops fn.ntmps=true){L:List Ev}(hR:dE E (bv ih) ops t0 s0 L)(hall:∀ k,k<ops.size->∃ q∈L,q.i=k){t':T V}(hS:nE t0 L t') :
 ∀(fuel τ:Nat) (listed:Array Bool) (X F:List Ev) (ρ:aw) (w:World) (fr:Frame),L=X++F->listed.size=ops.size->left listed.toList<=fuel->fI ops (bR listed) ->
  uJ E t0 s0 ρ0 w0 X F (bR listed) ρ w fr.tmps->jp E.P ρ0 f fn .leaf (.inRegion ops (Region.linearise.go .any ops fuel τ listed [])::k) ds .run up rd fr cs ->
  ∃ ρ' w' fr',Steps E.P (lone fr cs w) (lone fr' cs w')/\FR ρ0 w0 ρ' w'/\HR ρ' (bS s0 L) w'/\jp E.P ρ' f fn t' k ds .run up rd fr' cs:=by
 have fin:∀(listed:Array Bool) (X F:List Ev) (ρ:aw) (w:World) (fr:Frame),L=X++F->(∀ i,i<ops.size->bR listed i)->uJ E t0 s0 ρ0 w0 X F (bR listed) ρ w fr.tmps ->
  jp E.P ρ0 f fn .leaf (.inRegion ops []::k) ds .run up rd fr cs->∃ ρ' w' fr',Steps E.P (lone fr cs w) (lone fr' cs w')/\FR ρ0 w0 ρ' w'/\HR ρ' (bS s0 L) w'/\jp E.P ρ' f fn t' k ds .run up rd fr' cs:=by
  intro listed X F ρ w fr hL hfull hI hF
  have hin:∀ e∈L,bR listed e.i:=fun e he=>by
   obtain⟨_,_,_,k1,_⟩:=dE.ok hR he
   exact hfull e.i (by
    rcases Nat.lt_or_ge e.i ops.size with h|h
    ·exact h
    ·have:=k1.op;rw[Array.getElem?_eq_none h]at this;cases this)
  have hreg:=hI.reg (X1:=[]) (Z:=X) (by simp) (by rw[<- hL];exact hR) fun e he=>hin e (by rw[hL];simp[he])
  rw[<- hL]at hreg
  have hfresh:∀ f v,(bS s0 L).next<=f->ρ f v=none:=by
   intro f v hf
   cases hr:ρ f v with
   |none=>rfl
   |some l =>
    exfalso
    have hFn:(bS s0 F).next<=(bS s0 L).next:=by rw[hL]at hR ⊢;exact dE.next_le hR
    rcases hI.fresh f v (by rw[hr];exact fun h=>by cases h)with h1|⟨q,q1,q2,q3,q4⟩
    ·omega
    ·have hq:q∈L:=by rw[hL];simp[q1]
     obtain⟨Xa,Y,hLa,k1,k2⟩:=dE.ok hR hq
     have:(bS s0 (q::Y)).next<=(bS s0 L).next:=by rw[hLa]at hR ⊢;exact dE.next_le hR
     have:q.b.next<=(bS s0 L).next:=this
     omega
  rw[aw.to_all hfresh]at hreg
  refine⟨ρ,w,_,.one (pY (ww hF) (hF.todo rfl)),hI.fr,hreg,?_⟩
  have hF':=(hF.mono hI.fr.ext).to k
  refine⟨hF'.name,hF'.func,fun d x hx=>?_,hF'.size,hF'.todo,hF'.ds,hF'.md,hF'.rd,hF'.up⟩
  rcases hS d with⟨q,q1,q2,q3⟩|⟨q1,q2⟩
  ·rw[q3]at hx;cases hx
   obtain⟨y,y1,y2⟩:=hI.vals q (by rw[<- hL];exact q1) (hin q q1)
   exact⟨y,bq (aw.to_le_self ρ _) _ _ y1,y2 d q2⟩
  ·rw[q2]at hx
   obtain⟨y,y1,y2⟩:=hI.olds d x hx fun q hq _=>q1 q (by rw[hL];exact hq)
   exact⟨y,bq (aw.to_le_self ρ _) _ _ y1,y2⟩
 intro fuel
 induction fuel with
 |zero =>
  intro τ listed X F ρ w fr hL hs hleft hcl hI hF
  refine fin listed X F ρ w fr hL (fun i hi=>?_) hI (by simpa[Region.linearise.go]using hF)
  have:=sh listed.toList (by omega) i
  have hi':i<listed.size:=by omega
  unfold bR
  rw[Array.getElem?_eq_getElem hi']
  cases hb:listed[i]with
  |true=>rfl
  |false=>exfalso;apply this;rw[Array.getElem?_toList,Array.getElem?_eq_getElem hi',hb]
 |succ fuel ihf =>
  intro τ listed X F ρ w fr hL hs hleft hcl hI hF
  simp only[Region.linearise.go]at hF
  change jp E.P ρ0 f fn .leaf (.inRegion ops (match(Region.ready .any ops listed)[τ%(Region.ready .any ops listed).length]? with
   |some i=>Region.linearise.go .any ops fuel (τ / (Region.ready .any ops listed).length) (listed.setIfInBounds i true) [i]
   |none=>[].reverse)::k) ds .run up rd fr cs at hF
  cases hi:(Region.ready .any ops listed)[τ%(Region.ready .any ops listed).length]? with
  |none =>
   have hnil:Region.ready .any ops listed=[]:=by
    cases hr:Region.ready .any ops listed with
    |nil=>rfl
    |cons x xs =>
     grind [Nat.mod_lt]
   rw[hi]at hF
   exact fin listed X F ρ w fr hL (yQ hD.back hs hnil) hI hF
  |some i =>
   rw[hi]at hF
   simp only at hF
   rw[linearise_go_acc,List.reverse_singleton,List.singleton_append]at hF
   obtain⟨o,ho,hfalse,hed⟩:=zc hs (List.mem_of_getElem? hi)
   have hn:¬ bR listed i:=fun h=>by unfold bR at h;rw[hfalse]at h;cases h
   have hpre:=vw hD.back hcl ho hed
   have hisz:i<listed.size:=by
    grind
   obtain⟨e,heL,hei⟩:=hall i (by omega)
   subst hei
   obtain⟨_,_,_,hev0,_⟩:=dE.ok hR heL
   have heo:e.o=o:=by have:=hev0.op;rw[ho]at this;cases this;rfl
   subst heo
   have heX:e∈X:=by
    rw[hL]at heL
    rcases List.mem_append.1 heL with h|h
    ·exact h
    ·exact absurd (hI.inF e h) hn
   obtain⟨X1,X2,rfl⟩:=List.append_of_mem heX
   have hL':L=X1++e::(X2++F):=by rw[hL];simp
   have hR':=hR
   rw[hL']at hR'
   obtain⟨hev,hRY⟩:=dE.at hR'
   have hdst':∀ d,e.o.dst=some d->d<fr.tmps.size:=fun d hd=>Nat.lt_of_lt_of_le (pA hdst ho d hd) hF.size
   have hm:=ww hF
   have htd:=hF.todo rfl
   have hsz':(listed.setIfInBounds e.i true).size=ops.size:=by simpa using hs
   have hleft':left (listed.setIfInBounds e.i true).toList<=fuel:=by
    have:=wc listed.toList e.i (by rw[Array.getElem?_toList];exact hfalse)
    grind
   have hset:=vY hisz
   have hcl':fI ops (bR (listed.setIfInBounds e.i true)):=by rw[hset];exact hcl.with1 hpre
   by_cases hk:jo E e.o
   ·
    have hstep:iE E (bv ih) e.t e.a e.o (bz ops e.t e.o)=some (e.v,e.b)/\∀ q∈X2++F,kM ops e.i q.i:=by
     rcases hev.step with⟨hk',_⟩|⟨_,h1,_,h2⟩
     ·grind
     grind
    obtain⟨hst,hXF⟩:=hstep
    have hX2:∀ q∈X2,bR listed q.i:=fun q hq=>hpre _ (hXF q (by simp[hq]))
    have hreg:=hI.reg (X1:=X1++[e]) (Z:=X2) (by simp) hRY hX2
    rw[<- hev.st]at hreg
    have hT:=hI.env hD hR' hn hcl hpre
    have wsp:∀ b,bz ops e.t e.o=some b->Region.wanted e.o (yielded ops fr.tmps)=b:=fun b hb=>by
     grind [jC,eJ]
    have go:∀(ρ1:aw) (w1:World) (y:Value),Steps E.P (lone fr cs w) (lone (fr.finish y) cs w1)->HR ρ1 e.b w1->FR (ρ.to e.a.next) w ρ1 w1->den ρ1 e.v=some y ->
     ∃ ρ' w' fr',Steps E.P (lone fr cs w) (lone fr' cs w')/\FR ρ0 w0 ρ' w'/\HR ρ' (bS s0 L) w'/\jp E.P ρ' f fn t' k ds .run up rd fr' cs:=by
     intro ρ1 w1 y hsteps h1 h2 h3
     obtain⟨ρ',hI'⟩:=hI.effect hD hR' hk hn hX2 h1 h2 h3 hdst'
     obtain⟨hF',htm⟩:=Jb hF ho y
     rw[<- hset,<- htm]at hI'
     obtain⟨ρ2,w2,fr2,a1,a2⟩:=ihf (τ / (Region.ready .any ops listed).length) _ X1 (e::(X2++F)) ρ' w1 (fr.finish y) hL' hsz' hleft' hcl' hI' hF'
     exact⟨ρ2,w2,fr2,hsteps.trans a1,a2⟩
    unfold iE at hst
    split at hst
    ·rename_i hw
     have hwant:=wsp _ hw
     rw[<- iL (ops:=ops)]at hst
     cases hdo:cQ E (only e.t (looks ops e.o)) e.a e.o with
     |none=>rw[hdo]at hst;cases hst
     |some nx =>
      rw[hdo]at hst
      have hop:=lz hE hreg hT e.o hdo
      have hstg:(∀ c,e.o.op≠.defer c)->stepG E.P true { frame:=fr,callers:=cs,status:=.running,dying:=none } w=stepG.apply E.P true fr cs none (execOp (rv fr.tmps) e.o) w:=fun q=>gw hm htd ho hwant (.inr q)
      cases nx with
      |val v s1 =>
       simp only[oI,Option.some.injEq,Prod.mk.injEq]at hst
       obtain⟨hst1,hst2⟩:=hst
       obtain⟨ρ1,y,w1,h1,h2,h3,h4⟩:=hop
       have hst:=hstg (cG hdo (fun d s'=>by intro h;cases h))
       exact go ρ1 w1 y (.one (nw hst h1)) (by rw[<- hst2];exact h3) h4 (by rw[<- hst1];exact h2)
      |skip s1 =>
       simp only[oI,Option.some.injEq,Prod.mk.injEq]at hst
       obtain⟨hst1,hst2⟩:=hst
       obtain⟨ρ1,w1,h1,h3,h4⟩:=hop
       have hst:=hstg (cG hdo (fun d s'=>by intro h;cases h))
       exact go ρ1 w1 undef (.one (BQ hst h1)) (by rw[<- hst2];exact h3) h4 (by rw[<- hst1];rfl)
      |enter g args s1 =>
       obtain⟨ys,h1,h2,h3⟩:=hop
       have hstx:=hstg (cG hdo (fun d s'=>by intro h;cases h))
       simp only[oI]at hst
       cases hr:bv ih g args none s1 with
       |none=>rw[hr]at hst;cases hst
       |some out =>
        rw[hr]at hst
        obtain⟨hcall,hfin⟩:=km hg h3 h1 hr
        rw[hcall]at h2
        obtain⟨ρ1,w1,en,j1,j2,j3,j4⟩:=hfin fr cs
        have hsteps:Steps E.P (lone fr cs w) (lone (bW fr en) cs w1):=.head (rq htd hstx h2) j4
        obtain⟨oe,oup,os⟩:=out
        cases oe with
        |panicked c=>cases hst
        |returned v =>
         simp only[wW,Option.some.injEq,Prod.mk.injEq]at hst
         obtain⟨hst1,hst2⟩:=hst
         cases en with
         |returned y=>exact go ρ1 w1 y hsteps (by rw[<- hst2];exact j1) j2 (by rw[<- hst1];exact j3)
         |panicked _=>exact j3.elim
         |outgrown=>exact j3.elim
      |round l args s1=>cases hst
      |defer df s1=>cases hst
      |recover s1=>cases hst
      |panic v s1=>cases hst
    ·rename_i hw
     have hwant:=wsp _ hw
     simp only[Option.some.injEq,Prod.mk.injEq]at hst
     obtain⟨hst1,hst2⟩:=hst
     exact go (ρ.to e.a.next) w undef (.one (gM hm htd (by simp[ho,hwant]))) (by rw[<- hst2];exact hreg) (FR.refl _ _) (by rw[<- hst1];rfl)
    ·cases hst
   ·
    rcases hI.float hD hR' hk hn hcl hpre hdst' with⟨hwant,hI'⟩|⟨hwant,y,w1,ρ1,hrun,hI'⟩
    ·obtain⟨hF',htm⟩:=Jb hF ho undef
     rw[<- hset,<- htm]at hI'
     obtain⟨ρ2,w2,fr2,a1,a2⟩:=ihf (τ / (Region.ready .any ops listed).length) _ (X1++e::X2) F ρ w (fr.finish undef) hL hsz' hleft' hcl' hI' hF'
     exact⟨ρ2,w2,fr2,(Steps.one (gM hm htd (by simp[ho,hwant]))).trans a1,a2⟩
    ·obtain⟨hF',htm⟩:=Jb hF ho y
     rw[<- hset,<- htm]at hI'
     obtain⟨ρ2,w2,fr2,a1,a2⟩:=ihf (τ / (Region.ready .any ops listed).length) _ (X1++e::X2) F ρ1 w1 (fr.finish y) hL hsz' hleft' hcl' hI' hF'
     have hnd:∀ c,e.o.op≠.defer c:=fun c hc=>by
      apply hk
      show aD E.P e.o.op=3
      rw[hc];rfl
     exact⟨ρ2,w2,fr2,(Steps.one (nw (gw hm htd ho hwant (.inr hnd)) hrun)).trans a1,a2⟩
theorem Ku{P:Program}{fr:Frame}{cs:List Frame}{w:World}{id:Nat}(hm:fr.mode=.run)(ht:fr.todo=.code (.region id ops true)::k) :
 step P (lone fr cs w)=.next (lone { fr with todo:=.inRegion ops (Region.schedule (P.follows .mixedOrders) ops (w.tape w.drawn (.order fr.fn id)))::k } cs { w with drawn:=w.drawn+1 }) :=
 step_lone_go (by simp[stepG,stepG.exec,hm,ht,choose,Sem.run,Question.forced,Question.cut])
end
end Go.AI
set_option linter.all false
noncomputable section
namespace Go.AI
section
variable{E:cV}{ih:rE->S->Option eO}{ops:Array Oper}{t0:T V}{s0:S}{ρ0:aw}{w0:World}{f:FuncId}{fn:Func}{k:List Item}{rd:Option Nat}{ds:List eh}{up:Option Md}{cs:List Frame}
theorem iF{done:Nat}{d:Tmp}{x:V}:∀ {l:List (Nat×Oper)} {t:T V},(dq done l t).get (eB d)=some x->t.get (eB d)=some x/\∀ a o,(a,o)∈l->o.dst=some d->done.testBit a=true
 |[],t,h=>⟨h,fun _ _ h=>by cases h⟩
 |(a,o)::r,t,h=>by
  simp only[dq]at h
  cases hb:done.testBit a with
  |true =>
   rw[hb]at h
   obtain⟨h1,h2⟩:=iF h
   refine⟨h1,fun a' o' hm hd=>?_⟩
   rcases List.mem_cons.1 hm with hm|hm
   ·cases hm;exact hb
   ·exact h2 a' o' hm hd
  |false =>
   rw[hb]at h
   simp only[cond_false]at h
   cases ho:o.dst with
   |none =>
    rw[ho]at h
    obtain⟨h1,h2⟩:=iF h
    refine⟨h1,fun a' o' hm hd=>?_⟩
    rcases List.mem_cons.1 hm with hm|hm
    ·cases hm;rw[ho]at hd;cases hd
    ·exact h2 a' o' hm hd
   |some e =>
    rw[ho]at h
    simp only at h
    rw[T.setK_eq]at h
    obtain⟨h1,h2⟩:=iF h
    rw[T.get_setN]at h1
    by_cases hed:e=d
    ·rw[if_pos hed]at h1;cases h1
    ·rw[if_neg hed]at h1
     refine⟨h1,fun a' o' hm hd=>?_⟩
     rcases List.mem_cons.1 hm with hm|hm
     ·cases hm;rw[ho]at hd;cases hd;exact absurd rfl hed
     ·exact h2 a' o' hm hd
theorem FR.to_start{ρ:aw}{w:World}{n:Nat}(h:FR ρ0 w0 ρ w)(h0:∀ f v,n<=f->ρ0 f v=none):FR ρ0 w0 (ρ.to n) w :=
 ⟨fun f v l e=>by
  have hf:f<n:=Nat.lt_of_not_le fun hc=>by rw[h0 f v hc]at e;cases e
  rw[aw.to_of hf];exact h.ext f v l e,h.size,h.os,h.tape,h.output,h.same,fun f v l e hl=>h.new f v l (aw.to_lt e).2 hl⟩
theorem uJ.envP{rec:gH}{Z X2 F:List Ev}{i:Nat}{o:Oper}{t1:T V}{R:Nat->Prop}{ρ:aw}{w:World}{tm:Array Value}(hD:kg ops)(h:uJ E t0 s0 ρ0 w0 (Z++X2) F R ρ w tm)
 (hR:dE E rec ops t0 s0 (Z++(X2++F))) (ho:ops[i]? = some o) (hpY:∀ k,kM ops i k->∃ q∈X2++F,q.i=k) (hnew:∀ q∈Z++(X2++F),q.i≠i) (hslots:nE t0 (X2++F) t1)
 (hn:¬ R i) (hcl:fI ops R) (hpre:∀ k,kM ops i k->R k):TR (ρ.to (bS s0 (X2++F)).next) (only t1 (looks ops o)) tm:=by
 have hL:Z++X2++F=Z++(X2++F):=by simp
 have hRY:dE E rec ops t0 s0 (X2++F):=dE.suf hR
 intro d x hx
 rw[mJ]at hx
 split at hx
 ·rename_i hd
  have hord:∀ q oq,ops[q]? = some oq->oq.dst=some d->q≠i->kM ops i q\/kM ops q i:=by
   intro q oq hq hdq hqi
   rcases List.mem_append.1 hd with hd|hd
   ·exact hD.sees i q o oq d ho hq (fun h=>hqi h.symm) hdq hd
   ·unfold nU at hd
    split at hd
    ·rename_i g b hg
     have hgd:((ops[g]?).bind (·.dst))=some d:=by simpa using hd
     cases hog:ops[g]? with
     |none=>rw[hog]at hgd;cases hgd
     |some og =>
      rw[hog]at hgd
      by_cases hgq:g=q
      ·subst hgq;exact .inl (hD.guard i o g b ho hg)
      ·exact absurd hgd (hD.dst g q og oq d hog hq hgq hdq)
    ·simp at hd
  have hle:∀ q∈X2++F,q.b.next<=(bS s0 (X2++F)).next:=fun q hq=>by
   obtain⟨Y1,Y2,hY⟩:=List.append_of_mem hq
   rw[hY]at hRY ⊢
   exact dE.next_le (Y:=q::Y2) hRY
  rcases hslots d with⟨q,q1,q2,q3⟩|⟨q1,q2⟩
  ·rw[q3]at hx;cases hx
   obtain⟨Ya,Yb,hY,hqev,_⟩:=dE.ok hRY q1
   have hqi:q.i≠i:=hnew q (List.mem_append_right _ q1)
   rcases hord q.i q.o hqev.op q2 hqi with p|p
   ·obtain⟨y,y1,y2⟩:=h.vals q (by rw[hL];exact List.mem_append_right _ q1) (hpre _ p)
    exact⟨y,bq (aw.to_le ρ (hle q q1)) _ _ y1,y2 d q2⟩
   ·obtain⟨z,z1,z2⟩:=hqev.pre i p
    exact absurd z2 (hnew z (List.mem_append_right _ (by rw[hY];simp[z1])))
  ·rw[q2]at hx
   obtain⟨y,y1,y2⟩:=h.olds d x hx (fun q hq hr hdq=>by
    rw[hL]at hq
    obtain⟨_,Y',_,k1,_⟩:=dE.ok hR hq
    rcases hord q.i q.o k1.op hdq (hnew q hq)with p|p
    ·obtain⟨z,z1,z2⟩:=hpY _ p
     have hz:z=q:=dE.uniq hR (List.mem_append_right _ z1) hq z2
     subst hz
     exact q1 z z1 hdq
    ·exact hn (hcl q.i i hr p))
   refine⟨y,bq (aw.to_le ρ ?_) _ _ y1,y2⟩
   have h1:dE E rec ops t0 s0 ((X2++F)++[]):=by simpa using hRY
   have h2:=dE.next_le h1
   rw[List.append_nil]at h2
   exact h2
 ·cases hx
theorem KR(hE:ic E)(hg:Good E.P ih)(hD:kg ops)(hdst:kD ops fn.ntmps=true)(h0:∀ f v,s0.next<=f->ρ0 f v=none){i0:Nat}{o0:Oper}{Z0 Y0:List Ev}{done:Nat}{t1:T V}{c:List Cb}{s2:S}
 (ho0:ops[i0]? = some o0) (hk0:jo E o0) (hR:dE E (bv ih) ops t0 s0 (Z0++Y0)) (hdone:ta done Y0) (hS:nE t0 Y0 t1) (hpan:gh E (bv ih) t1 (bS s0 Y0) o0 (bz ops t1 o0)=some (.pan c s2))
 (hpY1:∀ q∈Y0,kM ops i0 q.i) (hpY:∀ k,kM ops i0 k->∃ q∈Y0,q.i=k) (hZ:∀ q∈Z0,¬ jo E q.o) (hnew:∀ q∈Z0++Y0,q.i≠i0) (hall:∀ k,k<ops.size->k≠i0->¬ kM ops k i0->∃ q∈Z0++Y0,q.i=k) :
 ∀(fuel τ:Nat) (listed:Array Bool) (X F:List Ev) (ρ:aw) (w:World) (fr:Frame),Z0++Y0=X++F->listed.size=ops.size->left listed.toList<=fuel->fI ops (bR listed)->¬ bR listed i0 ->
  uJ E t0 s0 ρ0 w0 X F (bR listed) ρ w fr.tmps->jp E.P ρ0 f fn .leaf (.inRegion ops (Region.linearise.go .any ops fuel τ listed [])::k) ds .run up rd fr cs ->
  ∃ ρ' w' fr',Steps E.P (lone fr cs w) (lone fr' cs w')/\FR ρ0 w0 ρ' w'/\HR ρ' s2 w'/\jp E.P ρ' f fn (dq done (cj ops.toList 0) t1) k ds (.panicking c) up rd fr' cs:=by
 have hi0:i0<ops.size:=by
  rcases Nat.lt_or_ge i0 ops.size with h|h
  ·exact h
  ·rw[Array.getElem?_eq_none h]at ho0;cases ho0
 intro fuel
 induction fuel with
 |zero =>
  intro τ listed X F ρ w fr hL hs hleft hcl hni hI hF
  exfalso
  have:=sh listed.toList (by omega) i0
  have hi':i0<listed.size:=by omega
  apply hni
  unfold bR
  rw[Array.getElem?_eq_getElem hi']
  cases hb:listed[i0]with
  |true=>rfl
  |false=>exfalso;apply this;rw[Array.getElem?_toList,Array.getElem?_eq_getElem hi',hb]
 |succ fuel ihf =>
  intro τ listed X F ρ w fr hL hs hleft hcl hni hI hF
  simp only[Region.linearise.go]at hF
  change jp E.P ρ0 f fn .leaf (.inRegion ops (match(Region.ready .any ops listed)[τ%(Region.ready .any ops listed).length]? with
   |some i=>Region.linearise.go .any ops fuel (τ / (Region.ready .any ops listed).length) (listed.setIfInBounds i true) [i]
   |none=>[].reverse)::k) ds .run up rd fr cs at hF
  cases hi:(Region.ready .any ops listed)[τ%(Region.ready .any ops listed).length]? with
  |none =>
   exfalso
   have hnil:Region.ready .any ops listed=[]:=by
    cases hr:Region.ready .any ops listed with
    |nil=>rfl
    |cons x xs =>
     rw[hr]at hi
     have hlt:τ%(x::xs).length<(x::xs).length:=Nat.mod_lt _ (by simp)
     simp at hi
     simp at hlt
     omega
   exact hni (yQ hD.back hs hnil i0 hi0)
  |some i =>
   rw[hi]at hF
   simp only at hF
   rw[linearise_go_acc,List.reverse_singleton,List.singleton_append]at hF
   obtain⟨o,ho,hfalse,hed⟩:=zc hs (List.mem_of_getElem? hi)
   have hn:¬ bR listed i:=fun h=>by unfold bR at h;rw[hfalse]at h;cases h
   have hpre:=vw hD.back hcl ho hed
   have hisz:i<listed.size:=by
    rcases Nat.lt_or_ge i listed.size with h|h
    ·exact h
    ·rw[Array.getElem?_eq_none h]at hfalse;cases hfalse
   have hm:=ww hF
   have htd:=hF.todo rfl
   by_cases hii:i=i0
   ·
    subst hii
    rw[ho0]at ho
    cases ho
    obtain⟨X2,hX2,hY0⟩:∃ X2,X=Z0++X2/\Y0=X2++F:=by
     rcases List.append_eq_append_iff.1 hL with⟨a,h1,h2⟩|⟨a,h1,h2⟩
     ·exact⟨a,h1,h2⟩
     ·cases a with
      |nil=>exact⟨[],by simpa using h1.symm,by simpa using h2.symm⟩
      |cons e a =>
       exfalso
       subst h2
       have hfe:jo E e.o:=hI.front
       exact hZ e (by rw[h1];simp) hfe
    subst hX2;subst hY0
    have hRY:dE E (bv ih) ops t0 s0 (X2++F):=dE.suf hR
    have hreg:=hI.reg (X1:=Z0) (Z:=X2) rfl hRY fun q hq=>hpre _ (hpY1 q (List.mem_append_left _ hq))
    have hT:=hI.envP hD hR ho0 hpY hnew hS hn hcl hpre
    have wsp:∀ b,bz ops t1 o0=some b->Region.wanted o0 (yielded ops fr.tmps)=b:=fun b hb=>by
     rw[<- jC]at hb
     exact eJ hT hb
    have hFR0:FR ρ0 w0 (ρ.to (bS s0 (X2++F)).next) w:=hI.fr.to_start fun f v hf=>h0 f v (by
     have h1:dE E (bv ih) ops t0 s0 ((X2++F)++[]):=by simpa using hRY
     have h2:=dE.next_le h1
     rw[List.append_nil]at h2
     exact Nat.le_trans h2 hf)
    have tr:∀ ρ1:aw,(ρ.to (bS s0 (X2++F)).next).le ρ1->TR ρ1 (dq done (cj ops.toList 0) t1) fr.tmps:=fun ρ1 hle d x hx=>by
     obtain⟨hx1,hx2⟩:=iF hx
     have hle2:∀ q∈X2++F,q.b.next<=(bS s0 (X2++F)).next:=fun q hq=>by
      obtain⟨Y1,Y2,hY⟩:=List.append_of_mem hq
      rw[hY]at hRY ⊢
      exact dE.next_le (Y:=q::Y2) hRY
     rcases hS d with⟨q,q1,q2,q3⟩|⟨q1,q2⟩
     ·rw[q3]at hx1;cases hx1
      obtain⟨y,y1,y2⟩:=hI.vals q (by rw[List.append_assoc];exact List.mem_append_right _ q1) (hpre _ (hpY1 q q1))
      exact⟨y,bq (aw.le_trans (aw.to_le ρ (hle2 q q1)) hle) _ _ y1,y2 d q2⟩
     ·rw[q2]at hx1
      obtain⟨y,y1,y2⟩:=hI.olds d x hx1 fun q hq hr hdq=>by
       rw[List.append_assoc]at hq
       obtain⟨_,_,_,k1,_⟩:=dE.ok hR hq
       have:=hx2 q.i q.o (dI.2 k1.op) hdq
       obtain⟨z,z1,z2⟩:=(hdone q.i).1 this
       have hz:z=q:=dE.uniq hR (List.mem_append_right _ z1) hq z2
       subst hz
       exact q1 z z1 hdq
      have h1:dE E (bv ih) ops t0 s0 ((X2++F)++[]):=by simpa using hRY
      have h2:=dE.next_le h1
      rw[List.append_nil]at h2
      exact⟨y,bq (aw.le_trans (aw.to_le ρ h2) hle) _ _ y1,y2⟩
    unfold gh at hpan
    split at hpan
    ·rename_i hw
     have hwant:=wsp _ hw
     rw[<- iL (ops:=ops)]at hpan
     cases hdo:cQ E (only t1 (looks ops o0)) (bS s0 (X2++F)) o0 with
     |none=>rw[hdo]at hpan;cases hpan
     |some nx =>
      rw[hdo]at hpan
      have hop:=lz hE hreg hT o0 hdo
      have hstg:(∀ c,o0.op≠.defer c)->stepG E.P true { frame:=fr,callers:=cs,status:=.running,dying:=none } w=stepG.apply E.P true fr cs none (execOp (rv fr.tmps) o0) w:=fun q=>gw hm htd ho0 hwant (.inr q)
      cases nx with
      |enter g args s1 =>
       obtain⟨ys,h1,h2,h3⟩:=hop
       have hstx:=hstg (cG hdo (fun d s'=>by intro h;cases h))
       simp only[jg]at hpan
       cases hr:bv ih g args none s1 with
       |none=>rw[hr]at hpan;cases hpan
       |some out =>
        rw[hr]at hpan
        obtain⟨hcall,hfin⟩:=km hg h3 h1 hr
        rw[hcall]at h2
        obtain⟨ρ1,w1,en,j1,j2,j3,j4⟩:=hfin fr cs
        have hsteps:Steps E.P (lone fr cs w) (lone (bW fr en) cs w1):=.head (rq htd hstx h2) j4
        obtain⟨oe,oup,os⟩:=out
        cases oe with
        |returned v=>cases hpan
        |panicked c' =>
         simp only[lL,Option.some.injEq,JL.pan.injEq]at hpan
         obtain⟨rfl,rfl⟩:=hpan
         cases en with
         |returned _=>exact j3.elim
         |outgrown=>exact j3.elim
         |panicked ch =>
          have hfr:=hFR0.trans j2
          have hF1:=hF.mono hfr.ext
          exact⟨ρ1,w1,_,hsteps,hfr,j1,⟨hF1.name.symm▸(by rw[bW,ba hm]),hF1.func,by rw[bW,ba hm];exact tr ρ1 j2.ext,by rw[bW,ba hm];exact hF1.size,(fun q=>by cases q),by rw[bW,ba hm];exact hF1.ds,by rw[bW,ba hm];exact j3,by rw[bW,ba hm];exact hF1.rd,by rw[bW,ba hm];exact hF1.up⟩⟩
      |panic v s1 =>
       simp only[jg,Option.some.injEq,JL.pan.injEq]at hpan
       obtain⟨rfl,rfl⟩:=hpan
       obtain⟨y,h1,h2,h3⟩:=hop
       have hstx:=hstg (cG hdo (fun d s'=>by intro h;cases h))
       refine⟨ρ.to (bS s0 (X2++F)).next,w,_,.one (Eb hstx h2),hFR0,h3,?_⟩
       rw[ba hm]
       have hF1:=hF.mono hFR0.ext
       exact⟨hF1.name,hF1.func,tr _ (aw.le_refl _),hF1.size,(fun q=>by cases q),hF1.ds,⟨⟨h1,rfl,rfl⟩,trivial⟩,hF1.rd,hF1.up⟩
      |val v s1=>cases hpan
      |skip s1=>cases hpan
      |round l args s1=>cases hpan
      |defer df s1=>cases hpan
      |recover s1=>cases hpan
    ·cases hpan
    ·cases hpan
   ·
    obtain⟨e,heL,hei⟩:=hall i (by omega) hii fun h=>hni (hpre _ h)
    subst hei
    have hL0:=hL
    obtain⟨_,_,_,hev0,_⟩:=dE.ok hR heL
    have heo:e.o=o:=by have:=hev0.op;rw[ho]at this;cases this;rfl
    subst heo
    have heX:e∈X:=by
     rw[hL]at heL
     rcases List.mem_append.1 heL with h|h
     ·exact h
     ·exact absurd (hI.inF e h) hn
    obtain⟨X1,X2,rfl⟩:=List.append_of_mem heX
    have hL':Z0++Y0=X1++e::(X2++F):=by rw[hL];simp
    have hR':=hR
    rw[hL']at hR'
    obtain⟨hev,hRY⟩:=dE.at hR'
    have hdst':∀ d,e.o.dst=some d->d<fr.tmps.size:=fun d hd=>Nat.lt_of_lt_of_le (pA hdst ho d hd) hF.size
    have hsz':(listed.setIfInBounds e.i true).size=ops.size:=by simpa using hs
    have hleft':left (listed.setIfInBounds e.i true).toList<=fuel:=by
     have:=wc listed.toList e.i (by rw[Array.getElem?_toList];exact hfalse)
     rw[Array.toList_setIfInBounds];omega
    have hset:=vY hisz
    have hcl':fI ops (bR (listed.setIfInBounds e.i true)):=by rw[hset];exact hcl.with1 hpre
    have hni':¬ bR (listed.setIfInBounds e.i true) i0:=by
     rw[hset]
     rintro(h|h)
     ·exact hni h
     ·exact hii h.symm
    by_cases hk:jo E e.o
    ·
     have hstep:iE E (bv ih) e.t e.a e.o (bz ops e.t e.o)=some (e.v,e.b)/\∀ q∈X2++F,kM ops e.i q.i:=by
      rcases hev.step with⟨hk',_⟩|⟨_,h1,_,h2⟩
      ·exact absurd hk hk'
      ·exact⟨h1,h2⟩
     obtain⟨hst,hXF⟩:=hstep
     have hX2:∀ q∈X2,bR listed q.i:=fun q hq=>hpre _ (hXF q (by simp[hq]))
     have hreg:=hI.reg (X1:=X1++[e]) (Z:=X2) (by simp) hRY hX2
     rw[<- hev.st]at hreg
     have hT:=hI.env hD hR' hn hcl hpre
     have wsp:∀ b,bz ops e.t e.o=some b->Region.wanted e.o (yielded ops fr.tmps)=b:=fun b hb=>by
      rw[<- jC]at hb
      exact eJ hT hb
     have go:∀(ρ1:aw) (w1:World) (y:Value),Steps E.P (lone fr cs w) (lone (fr.finish y) cs w1)->HR ρ1 e.b w1->FR (ρ.to e.a.next) w ρ1 w1->den ρ1 e.v=some y ->
      ∃ ρ' w' fr',Steps E.P (lone fr cs w) (lone fr' cs w')/\FR ρ0 w0 ρ' w'/\HR ρ' s2 w'/\jp E.P ρ' f fn (dq done (cj ops.toList 0) t1) k ds (.panicking c) up rd fr' cs:=by
      intro ρ1 w1 y hsteps h1 h2 h3
      obtain⟨ρ',hI'⟩:=hI.effect hD hR' hk hn hX2 h1 h2 h3 hdst'
      obtain⟨hF',htm⟩:=Jb hF ho y
      rw[<- hset,<- htm]at hI'
      obtain⟨ρ2,w2,fr2,a1,a2⟩:=ihf (τ / (Region.ready .any ops listed).length) _ X1 (e::(X2++F)) ρ' w1 (fr.finish y) hL' hsz' hleft' hcl' hni' hI' hF'
      exact⟨ρ2,w2,fr2,hsteps.trans a1,a2⟩
     unfold iE at hst
     split at hst
     ·rename_i hw
      have hwant:=wsp _ hw
      rw[<- iL (ops:=ops)]at hst
      cases hdo:cQ E (only e.t (looks ops e.o)) e.a e.o with
      |none=>rw[hdo]at hst;cases hst
      |some nx =>
       rw[hdo]at hst
       have hop:=lz hE hreg hT e.o hdo
       have hstg:(∀ c,e.o.op≠.defer c)->stepG E.P true { frame:=fr,callers:=cs,status:=.running,dying:=none } w=stepG.apply E.P true fr cs none (execOp (rv fr.tmps) e.o) w:=fun q=>gw hm htd ho hwant (.inr q)
       cases nx with
       |val v s1 =>
        simp only[oI,Option.some.injEq,Prod.mk.injEq]at hst
        obtain⟨hst1,hst2⟩:=hst
        obtain⟨ρ1,y,w1,h1,h2,h3,h4⟩:=hop
        have hst:=hstg (cG hdo (fun d s'=>by intro h;cases h))
        exact go ρ1 w1 y (.one (nw hst h1)) (by rw[<- hst2];exact h3) h4 (by rw[<- hst1];exact h2)
       |skip s1 =>
        simp only[oI,Option.some.injEq,Prod.mk.injEq]at hst
        obtain⟨hst1,hst2⟩:=hst
        obtain⟨ρ1,w1,h1,h3,h4⟩:=hop
        have hst:=hstg (cG hdo (fun d s'=>by intro h;cases h))
        exact go ρ1 w1 undef (.one (BQ hst h1)) (by rw[<- hst2];exact h3) h4 (by rw[<- hst1];rfl)
       |enter g args s1 =>
        obtain⟨ys,h1,h2,h3⟩:=hop
        have hstx:=hstg (cG hdo (fun d s'=>by intro h;cases h))
        simp only[oI]at hst
        cases hr:bv ih g args none s1 with
        |none=>rw[hr]at hst;cases hst
        |some out =>
         rw[hr]at hst
         obtain⟨hcall,hfin⟩:=km hg h3 h1 hr
         rw[hcall]at h2
         obtain⟨ρ1,w1,en,j1,j2,j3,j4⟩:=hfin fr cs
         have hsteps:Steps E.P (lone fr cs w) (lone (bW fr en) cs w1):=.head (rq htd hstx h2) j4
         obtain⟨oe,oup,os⟩:=out
         cases oe with
         |panicked c=>cases hst
         |returned v =>
          simp only[wW,Option.some.injEq,Prod.mk.injEq]at hst
          obtain⟨hst1,hst2⟩:=hst
          cases en with
          |returned y=>exact go ρ1 w1 y hsteps (by rw[<- hst2];exact j1) j2 (by rw[<- hst1];exact j3)
          |panicked _=>exact j3.elim
          |outgrown=>exact j3.elim
       |round l args s1=>cases hst
       |defer df s1=>cases hst
       |recover s1=>cases hst
       |panic v s1=>cases hst
     ·rename_i hw
      have hwant:=wsp _ hw
      simp only[Option.some.injEq,Prod.mk.injEq]at hst
      obtain⟨hst1,hst2⟩:=hst
      exact go (ρ.to e.a.next) w undef (.one (gM hm htd (by simp[ho,hwant]))) (by rw[<- hst2];exact hreg) (FR.refl _ _) (by rw[<- hst1];rfl)
     ·cases hst
    ·
     rcases hI.float hD hR' hk hn hcl hpre hdst' with⟨hwant,hI'⟩|⟨hwant,y,w1,ρ1,hrun,hI'⟩
     ·obtain⟨hF',htm⟩:=Jb hF ho undef
      rw[<- hset,<- htm]at hI'
      obtain⟨ρ2,w2,fr2,a1,a2⟩:=ihf (τ / (Region.ready .any ops listed).length) _ (X1++e::X2) F ρ w (fr.finish undef) hL hsz' hleft' hcl' hni' hI' hF'
      exact⟨ρ2,w2,fr2,(Steps.one (gM hm htd (by simp[ho,hwant]))).trans a1,a2⟩
     ·obtain⟨hF',htm⟩:=Jb hF ho y
      rw[<- hset,<- htm]at hI'
      obtain⟨ρ2,w2,fr2,a1,a2⟩:=ihf (τ / (Region.ready .any ops listed).length) _ (X1++e::X2) F ρ1 w1 (fr.finish y) hL hsz' hleft' hcl' hni' hI' hF'
      have hnd:∀ c,e.o.op≠.defer c:=fun c hc=>by
       apply hk
       show aD E.P e.o.op=3
       rw[hc];rfl
      exact⟨ρ2,w2,fr2,(Steps.one (nw (gw hm htd ho hwant (.inr hnd)) hrun)).trans a1,a2⟩
theorem DG(hE:ic E)(hmix:E.P.follows .mixedOrders=true):dN E:=by
 intro ih hg f fn id ops k rd t ds up s r hdst e ρ w fr cs h hF
 obtain⟨hD,hcase⟩:=Bv e
 have hm:=ww hF
 have ht:=hF.todo rfl
 have hstep:=Ku (P:=E.P) (cs:=cs) (w:=w) hm ht
 rw[hmix]at hstep
 simp only[Region.schedule,Bool.true_or,if_true,Region.linearise]at hstep
 have hno:∀ i,¬ bR (Array.replicate ops.size false) i:=by
  intro i hi
  unfold bR at hi
  rw[Array.getElem?_replicate]at hi
  split at hi<;>cases hi
 have hI0:∀ L,uJ E t s ρ w L [] (bR (Array.replicate ops.size false)) ρ { w with drawn:=w.drawn+1 } fr.tmps:=by
  intro L
  have hto:ρ.to s.next=ρ:=aw.to_all fun f v hf=>h.fresh f v hf
  refine⟨trivial,by simp,fun e _ hr=>absurd hr (hno _),fun e _ hr=>absurd hr (hno _),fun d x hx _=>?_,fun e _ hr=>absurd hr (hno _),?_,h.inj,h.low,fun f v hf=>.inl ?_,FR.drawn w _⟩
  ·rw[hto];exact hF.tr d x hx
  ·show HR (ρ.to s.next) s _
   rw[hto];exact h.drawn _
  ·show f<s.next
   exact Nat.lt_of_not_le fun hc=>hf (h.fresh f v hc)
 have hF0:jp E.P ρ f fn .leaf (.inRegion ops (Region.linearise.go .any ops ops.size (w.tape w.drawn (.order fr.fn id)) (Array.replicate ops.size false) [])::k) ds .run up rd { fr with todo:=.inRegion ops (Region.linearise.go .any ops ops.size (w.tape w.drawn (.order fr.fn id)) (Array.replicate ops.size false) [])::k } cs :=
  ⟨hF.name,hF.func,TR.leaf _ _,hF.size,fun _=>rfl,hF.ds,hF.md,hF.rd,hF.up⟩
 have hcl0:fI ops (bR (Array.replicate ops.size false)):=fun i k hi=>absurd hi (hno _)
 rcases hcase with⟨L,t',s',rfl,hR,hS,rfl,hall⟩|⟨i0,o0,Z0,Y0,done,t1,c,s2,rfl,ho0,hk0,hR,hdone,hS,hpan,hpY1,hpY,hZ,hnew,hall⟩
 ·obtain⟨ρ',w',fr',a1,a2,a3,a4⟩:=KQ (ih:=ih) (f:=f) (fn:=fn) (k:=k) (rd:=rd) (ds:=ds) (up:=up) (cs:=cs) (ρ0:=ρ) (w0:=w) hE hg hD hdst hR hall hS ops.size _ (Array.replicate ops.size false) L [] ρ { w with drawn:=w.drawn+1 } { fr with todo:=.inRegion ops (Region.linearise.go .any ops ops.size (w.tape w.drawn (.order fr.fn id)) (Array.replicate ops.size false) [])::k } (by simp) (by simp)
   (by simp[iU]) hcl0 (hI0 L) hF0
  exact⟨ρ',w',fr',cs,.head hstep a1,a2,rz.refl hF,a3,a4,rfl⟩
 ·obtain⟨ρ',w',fr',a1,a2,a3,a4⟩:=KR (ih:=ih) (f:=f) (fn:=fn) (k:=k) (rd:=rd) (ds:=ds) (up:=up) (cs:=cs) (ρ0:=ρ) (w0:=w) hE hg hD hdst (fun f v hf=>h.fresh f v hf) ho0 hk0 hR hdone hS hpan hpY1 hpY hZ hnew hall ops.size _ (Array.replicate ops.size false) (Z0++Y0) [] ρ { w with drawn:=w.drawn+1 } { fr with todo:=.inRegion ops (Region.linearise.go .any ops ops.size (w.tape w.drawn (.order fr.fn id)) (Array.replicate ops.size false) [])::k } (by simp) (by simp)
   (by simp[iU]) hcl0 (hno _) (hI0 _) hF0
  exact⟨ρ',w',fr',cs,.head hstep a1,a2,rz.refl hF,a3,a4,rfl⟩
end
end Go.AI
set_option linter.all false
noncomputable section
namespace Go.AI
def aw.no:aw:=fun _ _=>none
theorem HR.empty(w:World)(n:Nat):HR aw.no ⟨.leaf,n⟩ w :=
 ⟨fun _ _ _=>rfl,fun _ _ _ _ _ _ e=>(by cases e),fun _ _ _ e=>(by cases e),fun f B hB=>by(rw[S.get_eq,T.get_leaf]at hB;cases hB),fun f B hB=>by(rw[S.get_eq,T.get_leaf]at hB;cases hB),fun f B hB=>by(rw[S.get_eq,T.get_leaf]at hB;cases hB)⟩
theorem xm{P:Program}{f:FuncId}{args:List V}{s:S}{v:V}{u:Option Md}{s':S}(h:fv P f args none s ⟨.returned v,u,s'⟩){ρ:aw}{w:World}{ys:List Value}(hr:HR ρ s w)(hd:aL ρ args=some ys) :
 Calls P f ys.toArray w fun e w'=>∃ ρ' y,e=.returned y/\den ρ' v=some y/\HR ρ' s' w'/\FR ρ w ρ' w':=by
 intro cs
 obtain⟨_,h2⟩:=h ρ w ys hr hd
 obtain⟨ρ',w',k1,k2,fr',e,k3,k4,k5,k6⟩:=h2 cs (fun u hu=>by cases hu)
 cases e with
 |panicked _=>exact k3.elim
 |outgrown=>exact k3.elim
 |returned y=>exact⟨.returned y,w',fr',⟨ρ',y,rfl,k3,k1,k2⟩,k4,k5,k6⟩
theorem FR.keeps{w:World}{ρ':aw}{w':World}(h:FR aw.no w ρ' w'):∀ b,b<w.heap.size->w'.heap[b]? = w.heap[b]?:=fun b hb=>h.same b hb fun f v l e=>by cases e
theorem Cr{P:Program}{f:FuncId}{args:List V}{v:V}{n:Nat}{s1:S}(h:fv P f args none ⟨.leaf,n⟩ ⟨.returned v,none,s1⟩)
 (ha:∀ ρ ys,aL ρ args=some ys->aL aw.no args=some ys) (hv:∀ ρ y,den ρ v=some y->∀ ρ',den ρ' v=some y) (s:S):fv P f args none s ⟨.returned v,none,s⟩:=by
 intro ρ w ys hr hd
 obtain⟨h1,h2⟩:=h aw.no w ys (HR.empty w n) (ha ρ ys hd)
 refine⟨h1,fun cs hup=>?_⟩
 obtain⟨ρ',w',k1,k2,fr',e,k3,k4,k5,k6⟩:=h2 cs (fun u hu=>by cases hu)
 refine⟨ρ,w',hr.frame k2.size k2.keeps,⟨ρ.le_refl,k2.size,k2.os,k2.tape,k2.output,fun b hb _=>k2.keeps b hb,fun f v l e _=>⟨f,v,l,e,rfl,id⟩⟩,fr',e,?_,k4,k5,k6⟩
 cases e with
 |panicked _=>exact k3.elim
 |outgrown=>exact k3.elim
 |returned y=>exact hv _ _ k3 _
def SL(a s:S):Prop:=(∀ f B,a.get f=some B->s.get f=some B)/\s.next<=a.next
theorem HR.sub{ρ:aw}{a s:S}{w:World}(h:HR ρ s w)(hs:SL a s):HR ρ a w :=
 ⟨fun f v hf=>h.fresh f v (Nat.le_trans hs.2 hf),h.inj,h.low,fun f B hB=>h.blk f B (hs.1 f B hB),fun f B hB=>Nat.lt_of_lt_of_le (h.dom f B (hs.1 f B hB)) hs.2,fun f B hB=>h.rw f B (hs.1 f B hB)⟩
theorem EG{P:Program}{f:FuncId}{args:List V}{v:V}{a a' s b:S}(h:fv P f args none a ⟨.returned v,none,a'⟩)(h1:SL a s)(h2:SL b a'):fv P f args none s ⟨.returned v,none,b⟩:=by
 intro ρ w ys hr hd
 obtain⟨k1,k2⟩:=h ρ w ys (hr.sub h1) hd
 refine⟨k1,fun cs hup=>?_⟩
 obtain⟨ρ',w',j1,j2,fr',e,j3,j4,j5,j6⟩:=k2 cs (fun u hu=>by cases hu)
 exact⟨ρ',w',j1.sub h2,j2,fr',e,j3,j4,j5,j6⟩
def Aq(u v:mf):Bool:=Nat.beq u.v v.v&&Nat.beq u.lo v.lo&&aQ u.cells v.cells
def qb:List mf->List mf->Bool
 |[],[]=>true
 |u::r,v::q=>Aq u v&&qb r q
 |_,_=>false
def As(x y:ol):Bool:=aQ [x.key,x.val] [y.key,y.val]&&Nat.beq x.born y.born
def qc:List ol->List ol->Bool
 |[],[]=>true
 |u::r,v::q=>As u v&&qc r q
 |_,_=>false
def Au:dG->dG->Bool
 |.cells e sb nv vs,.cells e' sb' nv' vs'=>Nat.beq e e'&&(sb==sb')&&Nat.beq nv nv'&&qb vs vs'
 |.map es c,.map es' c'=>qc es es'&&Nat.beq c c'
 |.gone,.gone=>true
 |_,_=>false
def KG:Option dG->Option dG->Bool
 |none,_=>true
 |some a,some b=>Au a b
 |some _,none=>false
def Km:T dG->T dG->Bool
 |.leaf,_=>true
 |.node l v r,.node l' v' r'=>KG v v'&&Km l l'&&Km r r'
 |.node _ _ _,.leaf=>false
def Nz(a s:S):Bool:=Nat.ble s.next a.next&&Km a.h s.h
theorem Ap{u v:mf}(h:Aq u v=true):u=v:=by
 unfold Aq at h
 simp only[Bool.and_eq_true]at h
 cases u;cases v
 grind [Nat.eq_of_beq_eq_true,cA]
theorem ot:∀ {a b:List mf},qb a b=true->a=b
 |[],[],_=>rfl
 |[],_::_,h=>by cases h
 |_::_,[],h=>by cases h
 |u::r,v::q,h=>by
  simp only[qb,Bool.and_eq_true]at h
  rw[Ap h.1,ot h.2]
theorem Ar{u v:ol}(h:As u v=true):u=v:=by
 unfold As at h
 simp only[Bool.and_eq_true]at h
 have h1:=cA h.1
 have h2:=Nat.eq_of_beq_eq_true h.2
 cases u;cases v
 grind
theorem ow:∀ {a b:List ol},qc a b=true->a=b
 |[],[],_=>rfl
 |[],_::_,h=>by cases h
 |_::_,[],h=>by cases h
 |u::r,v::q,h=>by
  simp only[qc,Bool.and_eq_true]at h
  rw[Ar h.1,ow h.2]
theorem At:∀ {a b:dG},Au a b=true->a=b:=by
 intro a b h
 unfold Au at h
 split at h
 ·simp only[Bool.and_eq_true,beq_iff_eq]at h
  grind [Nat.eq_of_beq_eq_true,ot]
 ·simp only[Bool.and_eq_true]at h
  rw[ow h.1,Nat.eq_of_beq_eq_true h.2]
 ·rfl
 ·cases h
theorem rM:∀ {a b:T dG},Km a b=true->∀ p B,a.get p=some B->b.get p=some B
 |.leaf,_,_,p,B,e=>by rw[T.get_leaf]at e;cases e
 |.node _ _ _,.leaf,h,_,_,_=>by cases h
 |.node l v r,.node l' v' r',h,p,B,e=>by
  simp only[Km,Bool.and_eq_true]at h
  cases p with
  |o =>
   rw[T.get_o]at e ⊢
   subst e
   cases v' with
   |none=>have:=h.1.1;cases this
   |some B'=>rw[At (a:=B) (b:=B') h.1.1]
  |l p=>rw[T.get_l]at e ⊢;exact rM h.1.2 p B e
  |r p=>rw[T.get_r]at e ⊢;exact rM h.2 p B e
theorem yJ{a s:S}(h:Nz a s=true):SL a s:=by
 unfold Nz at h
 simp only[Bool.and_eq_true]at h
 exact⟨fun f B hB=>by rw[S.get_eq]at hB ⊢;exact rM h.2 _ B hB,Nat.le_of_ble_eq_true h.1⟩
end Go.AI
set_option linter.all false
noncomputable section
namespace Go.AI
def iR(E:cV)(n:Nat)(f:FuncId)(args:List V)(a:S)(v:V)(b:S):Bool :=
 match oW E n (.call f args none) a with
 |some ⟨.returned v',none,s'⟩=>aQ [v] [v']&&Nz b s'
 |_=>false
theorem cM{E:cV}(hE:ic E)(hO:rB E)(hD:dN E){n:Nat}{f:FuncId}{args:List V}{a:S}{v:V}{b:S}(h:iR E n f args a v b=true){s:S}(hs:SL a s):fv E.P f args none s ⟨.returned v,none,b⟩:=by
 unfold iR at h
 split at h
 ·rename_i v' s' hr
  simp only[Bool.and_eq_true]at h
  have h1:=cA h.1
  simp at h1
  subst h1
  exact EG (lj hE hO hD n _ _ _ hr) hs (yJ h.2)
 ·cases h
def fE(E:cV)(n:Nat)(f:FuncId)(args:List V)(v:V):Bool :=
 match oW E n (.call f args none) ⟨.leaf,0⟩with
 |some ⟨.returned v',none,_⟩=>aQ [v] [v']
 |_=>false
def V.flat:V->Bool
 |.bool _=>true
 |.int _ _=>true
 |.str _=>true
 |.nilptr=>true
 |.nilslice=>true
 |.nilmap=>true
 |.nilFunc=>true
 |.nilIface=>true
 |_=>false
theorem Dk{v:V}(h:v.flat=true):∀ ρ y,den ρ v=some y->∀ ρ',den ρ' v=some y:=by
 intro ρ y e ρ'
 cases v<;>simp[V.flat]at h<;>exact e
theorem zz:∀ {l:List V},l.all V.flat=true->∀ ρ ys,aL ρ l=some ys->aL aw.no l=some ys
 |[],_,_,_,e=>e
 |v::l,h,ρ,ys,e=>by
  simp only[List.all_cons,Bool.and_eq_true]at h
  obtain⟨y,q,h1,h2,rfl⟩:=aO.1 e
  exact aO.2 ⟨y,q,Dk h.1 _ _ h1 _,zz h.2 _ _ h2,rfl⟩
theorem bF{E:cV}(hE:ic E)(hO:rB E)(hD:dN E){n:Nat}{f:FuncId}{args:List V}{v:V}(h:fE E n f args v=true)(ha:args.all V.flat=true)(hv:v.flat=true)(s:S):fv E.P f args none s ⟨.returned v,none,s⟩:=by
 unfold fE at h
 split at h
 ·rename_i v' s' hr
  have h1:=cA h
  simp at h1
  subst h1
  exact Cr (lj hE hO hD n _ _ _ hr) (zz ha) (Dk hv) s
 ·cases h
structure jn where
 f:FuncId
 args:List V
 a:S
 v:V
 b:S
def jn.fits(k:jn)(f:FuncId)(args:List V)(s:S):Bool:=Nat.beq f k.f&&(aQ args k.args&&Nz k.a s)
def uw:List jn->FuncId->List V->S->Option (V×S)
 |[],_,_,_=>none
 |k::r,f,args,s=>bif k.fits f args s then some (k.v,k.b)else uw r f args s
theorem qG:∀ {l:List jn} {f:FuncId} {args:List V} {s:S} {v:V} {s':S},uw l f args s=some (v,s')->∃ k∈l,k.f=f/\k.args=args/\SL k.a s/\k.v=v/\k.b=s'
 |[],_,_,_,_,_,h=>by cases h
 |k::r,f,args,s,v,s',h=>by
  simp only[uw]at h
  cases hb:k.fits f args s with
  |true =>
   rw[hb]at h
   cases h
   unfold jn.fits at hb
   simp only[Bool.and_eq_true]at hb
   exact⟨k,by simp,(Nat.eq_of_beq_eq_true hb.1).symm,(cA hb.2.1).symm,yJ hb.2.2,rfl,rfl⟩
  |false =>
   rw[hb]at h
   obtain⟨k',h1,h2⟩:=qG h
   exact⟨k',List.mem_cons_of_mem _ h1,h2⟩
def gA(f0:FuncId)(l:List (List Nat×V))(f:FuncId)(args:List V)(s:S):Option (V×S):=bif Nat.beq f f0 then look args l else none
 where
  look:List V->List (List Nat×V)->Option (V×S)
   |[.str x],(y,v)::r=>bif x==y then some (v,s)else look [.str x] r
   |_,_=>none
theorem zg{s:S}:∀ {l:List (List Nat×V)} {args:List V} {v:V} {s':S},gA.look s args l=some (v,s')->∃ x,args=[.str x]/\(x,v)∈l/\s'=s
 |[],args,v,s',h=>by
  have:gA.look s args []=none:=by cases args with
   |nil=>rfl
   |cons a r=>cases a<;>cases r<;>rfl
  rw[this]at h;cases h
 |(y,u)::r,args,v,s',h=>by
  unfold gA.look at h
  split at h
  ·rename_i x y' u' r' he
   cases he
   cases hb:(x==y)with
   |true =>
    rw[hb]at h
    cases h
    have:x=y:=by simpa using hb
    subst this
    exact⟨x,rfl,by simp,rfl⟩
   |false =>
    rw[hb]at h
    obtain⟨x',h1,h2,h3⟩:=zg h
    exact⟨x',h1,List.mem_cons_of_mem _ h2,h3⟩
  ·cases h
theorem wh{f0:FuncId}{l:List (List Nat×V)}{f:FuncId}{args:List V}{s:S}{v:V}{s':S}(h:gA f0 l f args s=some (v,s')):f=f0/\∃ x,args=[.str x]/\(x,v)∈l/\s'=s:=by
 unfold gA at h
 cases hb:Nat.beq f f0 with
 |false=>rw[hb]at h;cases h
 |true=>rw[hb]at h;exact⟨Nat.eq_of_beq_eq_true hb,zg h⟩
end Go.AI
namespace Go.Proofs.YtenibcfppefobaaGreatDoor
open Go.AI
def mc:cV:={ P:=Tryz.prog,ext:=fun f=>bif Nat.beq f 280 then some .indexByte else bif Nat.beq f 301 then some .count else none,orc:=fun _ _ _=>none }
def kinds:List (List Nat×V):=[([39,97],.int .i64 4),([39,98],.int .i64 4),([39,99],.int .i64 4),([39,120],.int .i64 4),([73,110,116],.int .i64 3),([66,111,111,108],.int .i64 3),([76,105,115,116],.int .i64 3),([45,62],.int .i64 6),([105,100],.int .i64 2),([120],.int .i64 2),([102],.int .i64 2),([111],.int .i64 2)]
def lJ:cV:={ P:=Tryz.prog,ext:=mc.ext,orc:=gA 57 kinds }
theorem mixed:Tryz.prog.follows .mixedOrders=true:=by kernel_rfl
theorem Si:(Tryz.f280.name == "runtime.NumGoroutine")=false/\Extern.findNext Tryz.f280=none/\Extern.find Tryz.f280=some GB.indexByte.entry:=⟨by kernel_rfl,by kernel_rfl,by kernel_rfl⟩
theorem Sj:(Tryz.f301.name == "runtime.NumGoroutine")=false/\Extern.findNext Tryz.f301=none/\Extern.find Tryz.f301=some GB.count.entry:=⟨by kernel_rfl,by kernel_rfl,by kernel_rfl⟩
theorem cP{E:cV}(hP:E.P=Tryz.prog)(hx:E.ext=mc.ext):ic E:=by
 refine⟨fun f k fn h hf _=>?_⟩
 rw[hx]at h
 rw[hP]at hf
 simp only[mc]at h
 cases h1:Nat.beq f 280 with
 |true =>
  rw[h1]at h;cases h
  have:=Nat.eq_of_beq_eq_true h1;subst this
  rw[Tryz.func280]at hf;cases hf
  exact Si
 |false =>
  rw[h1]at h
  cases h2:Nat.beq f 301 with
  |true =>
   rw[h2]at h;cases h
   have:=Nat.eq_of_beq_eq_true h2;subst this
   rw[Tryz.func301]at hf;cases hf
   exact Sj
  |false=>rw[h2]at h;cases h
theorem bB{E:cV}(hP:E.P=Tryz.prog)(hx:E.ext=mc.ext):dN E:=DG (cP hP hx) (by rw[hP];exact mixed)
theorem tR:rB mc:=⟨fun _ _ _ _ _ h=>by cases h⟩
theorem Tx:fE mc 4000 57 [.str [39,97]] (.int .i64 4)=true:=by kernel_rfl
theorem Tw:fE mc 4000 57 [.str [39,98]] (.int .i64 4)=true:=by kernel_rfl
theorem Tv:fE mc 4000 57 [.str [39,99]] (.int .i64 4)=true:=by kernel_rfl
theorem Tu:fE mc 4000 57 [.str [39,120]] (.int .i64 4)=true:=by kernel_rfl
theorem Tt:fE mc 4000 57 [.str [73,110,116]] (.int .i64 3)=true:=by kernel_rfl
theorem Ts:fE mc 4000 57 [.str [66,111,111,108]] (.int .i64 3)=true:=by kernel_rfl
theorem Tq:fE mc 4000 57 [.str [76,105,115,116]] (.int .i64 3)=true:=by kernel_rfl
theorem Tp:fE mc 4000 57 [.str [45,62]] (.int .i64 6)=true:=by kernel_rfl
theorem To:fE mc 4000 57 [.str [105,100]] (.int .i64 2)=true:=by kernel_rfl
theorem Tn:fE mc 4000 57 [.str [120]] (.int .i64 2)=true:=by kernel_rfl
theorem Rn:fE mc 4000 57 [.str [102]] (.int .i64 2)=true:=by kernel_rfl
theorem Rm:fE mc 4000 57 [.str [111]] (.int .i64 2)=true:=by kernel_rfl
theorem ye:rB lJ:=by
 refine⟨fun f args s v s' h=>?_⟩
 obtain⟨rfl,x,rfl,hm,rfl⟩:=wh h
 simp only[kinds,List.mem_cons,List.mem_nil_iff,or_false,Prod.mk.injEq]at hm
 rcases hm with⟨rfl,rfl⟩|⟨rfl,rfl⟩|⟨rfl,rfl⟩|⟨rfl,rfl⟩|⟨rfl,rfl⟩|⟨rfl,rfl⟩|⟨rfl,rfl⟩|⟨rfl,rfl⟩|⟨rfl,rfl⟩|⟨rfl,rfl⟩|⟨rfl,rfl⟩|⟨rfl,rfl⟩
 ·exact bF (cP rfl rfl) tR (bB rfl rfl) Tx rfl rfl _
 ·exact bF (cP rfl rfl) tR (bB rfl rfl) Tw rfl rfl _
 ·exact bF (cP rfl rfl) tR (bB rfl rfl) Tv rfl rfl _
 ·exact bF (cP rfl rfl) tR (bB rfl rfl) Tu rfl rfl _
 ·exact bF (cP rfl rfl) tR (bB rfl rfl) Tt rfl rfl _
 ·exact bF (cP rfl rfl) tR (bB rfl rfl) Ts rfl rfl _
 ·exact bF (cP rfl rfl) tR (bB rfl rfl) Tq rfl rfl _
 ·exact bF (cP rfl rfl) tR (bB rfl rfl) Tp rfl rfl _
 ·exact bF (cP rfl rfl) tR (bB rfl rfl) To rfl rfl _
 ·exact bF (cP rfl rfl) tR (bB rfl rfl) Tn rfl rfl _
 ·exact bF (cP rfl rfl) tR (bB rfl rfl) Rn rfl rfl _
 ·exact bF (cP rfl rfl) tR (bB rfl rfl) Rm rfl rfl _
end Go.Proofs.YtenibcfppefobaaGreatDoor
