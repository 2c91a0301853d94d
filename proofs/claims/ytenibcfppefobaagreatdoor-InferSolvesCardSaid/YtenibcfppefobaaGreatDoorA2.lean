/- Evaluators by which runs of the program are reckoned, that they are sound, and what the functions answer: part 2. No conditions beyond those of the row. -/
import Derived.Test.YtenibcfppefobaaGreatDoorA1
import Derived.Orders
import Derived.Test.YtenibcfppefobaaGreatDoorChecked
import Derived.KernelRfl
set_option linter.all false
noncomputable section
namespace Go.AI
theorem BK{ρ:aD}{u:Md}{fm:FrameMode}(h:OY ρ u fm):OY ρ (iN u) (settle fm):=by
 cases u with
 |run=>cases fm<;>first|exact h|exact h.elim
 |returning=>cases fm<;>first|exact h|exact h.elim
 |panicking c=>cases fm with
  |run=>exact h.elim
  |returning=>exact h.elim
  |panicking ch =>
   cases c with
   |nil=>cases ch with
    |nil=>exact h
    |cons _ _=>exact h.elim
   |cons p ps=>cases ch with
    |nil=>exact h.elim
    |cons q qs =>
     obtain⟨⟨h1,h2,h3⟩,h4⟩:=h
     obtain⟨pv,pr⟩:=p
     obtain⟨qv,qr,qg⟩:=q
     simp only at h1 h2 h3
     subst h2;subst h3
     cases pr with
     |false=>exact⟨⟨h1,rfl,rfl⟩,h4⟩
     |true =>
      have hno:∀(ps:List Du) (qs:List PanicEntry),mr ρ ps qs->qs.dropWhile (fun e=>!e.goexit)=[]:=by
       intro ps
       induction ps with
       |nil=>intro qs hq;cases qs with
        |nil=>rfl
        |cons _ _=>exact hq.elim
       |cons p ps ih=>intro qs hq;cases qs with
        |nil=>exact hq.elim
        |cons q qs =>
         obtain⟨⟨_,_,g3⟩,g4⟩:=hq
         rw[List.dropWhile_cons,g3]
         simpa using ih qs g4
      simp only[iN,settle,hno ps qs h4]
      trivial
theorem BZ{ρ:aD}{u:Md}{fm:FrameMode}{c:List Du}{ch:List PanicEntry}(h:OY ρ u fm)(hc:mr ρ c ch):OY ρ (qS u c) (raised fm ch):=by
 cases u with
 |run=>cases fm<;>first|exact hc|exact h.elim
 |returning=>cases fm<;>first|exact hc|exact h.elim
 |panicking d=>cases fm with
  |run=>exact h.elim
  |returning=>exact h.elim
  |panicking dh=>exact mr.append hc h
section
variable{E:dA}{ih:sx->S->Option fc}{f:FuncId}{fn:Func}
def PI(tm:Array Value):ResultVar->Sem Value
 |.tmp t=>pure (tm.getD t undef)
 |.cell a t=>do Go.loadVar t (<- asAddr (tm.getD a undef))
theorem Gz(fn:Func)(tm:Array Value):results fn tm=(do let vs <- fn.results.mapM (PI tm);pure (if h:vs.size=1 then vs[0] else .tuple vs)):=by
 unfold results
 congr 1
theorem zl{P:Program}{ρ:aD}{s:S}{w:World}(h:HR ρ s w){t:T V}{tm:Array Value}(ht:TR ρ t tm){x:ResultVar}{v:V}(e:oC P t s x=some v) :
 ∃ y,den ρ v=some y/\(PI tm x).run P w=.ok y w:=by
 have at_:∀ i u,t.get (eQ i)=some u->den ρ u=some (tm.getD i undef):=fun i u hu=>by
  obtain⟨y,h1,h2⟩:=ht i u hu
  simp_all
 cases x with
 |tmp i=>exact⟨_,at_ _ _ e,rfl⟩
 |cell a ty =>
  simp only[oC]at e
  split at e
  ·rename_i ad hp
   obtain⟨a1,y,h1,h2,h3⟩:=po h e
   have:=at_ _ _ hp
   simp only[den,h1,Option.some.injEq]at this
   refine⟨y,h2,?_⟩
   simp only[PI,Sem.run_bind,<- this,asAddr,Sem.run_pure,Result.andThen_ok,h3]
  ·cases e
theorem pi{P:Program}{ρ:aD}{s:S}{w:World}(h:HR ρ s w){t:T V}{tm:Array Value}(ht:TR ρ t tm):∀ {l:List ResultVar} {vs:List V},jQ P t s l=some vs ->
 ∃ ys,aQ ρ vs=some ys/\(l.mapM (PI tm)).run P w=.ok ys w
 |[],vs,e=>by cases e;exact⟨[],rfl,rfl⟩
 |x::l,vs,e=>by
  simp only[jQ]at e
  cases hx:oC P t s x with
  |none=>simp[hx]at e
  |some v =>
   cases hl:jQ P t s l with
   |none=>simp[hx,hl]at e
   |some q =>
    simp only[hx,hl,Option.some.injEq]at e
    subst e
    obtain⟨y,h1,h2⟩:=zl (P:=P) (w:=w) h ht hx
    obtain⟨ys,h3,h4⟩:=pi h ht hl
    refine⟨y::ys,aV.2 ⟨y,ys,h1,h3,rfl⟩,?_⟩
    simp_all
theorem zk{P:Program}{ρ:aD}{s:S}{w:World}(h:HR ρ s w){t:T V}{tm:Array Value}(ht:TR ρ t tm){v:V}(e:qO P fn t s=some v):∃ y,den ρ v=some y/\(results fn tm).run P w=.ok y w:=by
 unfold qO at e
 split at e
 ·rename_i l hl
  cases e
  obtain⟨ys,h1,h2⟩:=pi (P:=P) (w:=w) h ht hl
  have hr:(results fn tm).run P w=.ok (if h:ys.toArray.size=1 then ys.toArray[0] else .tuple ys.toArray) w:=by
   rw[Gz,Array.mapM_eq_mapM_toList]
   simp[h2]
  refine⟨_,?_,hr⟩
  have hlen:=bB h1
  cases l with
  |nil =>
   cases h1
   rfl
  |cons v l=>cases l with
   |nil =>
    obtain⟨y,hy,rfl⟩:=mi h1
    simpa[wH]using hy
   |cons v2 l =>
    obtain⟨y,q,hy,hq,rfl⟩:=aV.1 h1
    obtain⟨y2,q,hy2,hq2,rfl⟩:=aV.1 hq
    simp only[wH,den,h1]
    simp
 ·cases e
theorem AH{P:Program}{ρ:aD}{s:S}{w:World}(h:HR ρ s w){t:T V}{todo:List Item}{m:Md}{up:Option Md}{rd:Option Nat}{fr:Frame}{cs:List Frame}(hF:jI P ρ f fn t todo [] m up rd fr cs){e:WK}{en:Ending}(he:Pa ρ e en)
 (hgo:fr.going P w en):pF P f up.isSome rd.isSome cs (lone fr cs w) ρ w ⟨e,up,s⟩:=by
 refine⟨ρ,w,h,FR.refl ρ w,?_⟩
 have hleave:up=none->fr.leaving P w en:=by
  intro hu
  have hk:fr.kind=.normal:=by have:=hF.up;rw[hu]at this;exact this
  cases en with
  |returned v=>obtain⟨a,b,c⟩:=hgo;exact⟨a,b,hk,c⟩
  |panicked ch=>exact hgo
  |outgrown=>trivial
 cases rd with
 |some l =>
  have hu:up=none:=hF.rd.1
  intro c cs' hc
  subst hc
  refine⟨en,he,.one ?_⟩
  cases en with
  |returned v=>exact step_leave_returned (hleave hu)
  |panicked ch=>exact step_leave_panicked (hleave hu)
  |outgrown=>cases e<;>exact he.elim
 |none =>
  cases up with
  |none=>exact⟨fr,en,he,Steps.refl _ _,hF.name,hleave rfl⟩
  |some u =>
   obtain⟨hk,c0,cs0,rfl,hmd⟩:=hF.up
   intro c cs' hc
   cases hc
   exact⟨fr,en,u,c0.mode,rfl,hmd,he,Steps.refl _ _,hk,hgo⟩
theorem qB(hg:Good E.P ih){t:T V}{todo:List Item}{ds:List eD}{m:Md}(hm:m≠.run){up:Option Md}{rd:Option Nat}{s:S}{out:fc}
 (e:dC ds E fn (gb ih f fn) (bA ih) t m up rd s=some out) {ρ:aD} {w:World} {fr:Frame} {cs:List Frame} (h:HR ρ s w) (hF:jI E.P ρ f fn t todo ds m up rd fr cs):pF E.P f up.isSome rd.isSome cs (lone fr cs w) ρ w out:=by
 have hfm:fr.mode≠.run:=by
  intro hq
  have:=hF.md
  rw[hq]at this
  cases m<;>first|exact hm rfl|exact this.elim
 unfold dC at e
 split at e
 ·rename_i d ds'
  have hds:=hF.ds
  cases hfd:fr.defers with
  |nil=>rw[hfd]at hds;exact hds.elim
  |cons r rs =>
   rw[hfd]at hds
   obtain⟨⟨l,h1,h2⟩,h3⟩:=hds
   subst h2
   unfold kz at e
   split at e
   ·rename_i hs
    obtain⟨l',g1,g2⟩:=h.blk _ _ hs
    rw[h1]at g1;cases g1
    have hrun:=run_takeDeferred (P:=E.P) g2
    obtain⟨j1,j2⟩:=h.turn h1 hs (fun _ h=>by cases h) (vF w l.b (.deferred none)) .gone trivial
    have hstep:=BE (P:=E.P) (cs:=cs) rfl hfm hfd hrun
    have hF':jI E.P ρ f fn t [] ds' m up rd { fr with defers:=[]++rs } cs:=⟨hF.name,hF.func,hF.tr,hF.size,fun q=>absurd q hm,h3,hF.md,hF.rd,hF.up⟩
    exact pF.of_steps (.one hstep) j2 (bI hg e _ _ _ _ j1 hF')
   ·cases e
 ·rename_i g captured args ds'
  have hds:=hF.ds
  cases hfd:fr.defers with
  |nil=>rw[hfd]at hds;exact hds.elim
  |cons r rs =>
   rw[hfd]at hds
   obtain⟨⟨gf,cc,aa,h1,h2,h3,h4⟩,h5⟩:=hds
   cases h1
   subst h4
   cases hr:bA ih g (args++captured) (some m) s with
   |none=>rw[hr]at e;cases e
   |some o1 =>
    rw[hr]at e
    obtain⟨hcall,hfin⟩:=hg (.call g (args++captured) (some m)) s o1 hr ρ w _ h (du h3 h2)
    obtain⟨ρ1,w1,j1,j2,j3⟩:=hfin ({ fr with defers:=rs }::cs) (fun u hu=>by cases hu;exact⟨_,_,rfl,hF.md⟩)
    obtain⟨frX,en,u,u',k1,k2,k3,k4,k5,k6⟩:=j3 _ _ rfl
    have hs1:=step_defer (P:=E.P) (cs:=cs) (f:=g) (args:=(aa++cc).toArray) (w:=w) hfm hfd rfl (by
     have:=hcall w
     simpa[invoke]using this)
    have hF1:=hF.mono j2.ext
    obtain⟨oe,oup,os⟩:=o1
    simp only at k1 k3 j1
    subst k1
    cases oe with
    |returned v =>
     cases en with
     |panicked _=>exact k3.elim
     |outgrown=>exact k3.elim
     |returned y =>
      simp only[jA]at e
      have hs2:=step_going_returned (c:={ fr with defers:=rs,mode:=u' }) (cs:=cs) k5 k6
      have hgo:u≠.run/\gb ih f fn t [] ds' (iN u) up rd os=some out:=by
       grind
      have hnr:iN u≠.run:=by
       obtain⟨hu,_⟩:=hgo
       unfold iN
       grind
      have hF2:jI E.P ρ1 f fn t [] ds' (iN u) up rd { fr with defers:=rs,mode:=settle u' } cs :=
       ⟨hF1.name,hF1.func,hF1.tr,hF1.size,fun q=>absurd q hnr,h5.mono j2.ext,BK k2,hF1.rd,hF1.up⟩
      exact pF.of_steps (.head hs1 (k4.trans (.one hs2))) j2 (bI hg hgo.2 _ _ _ _ j1 hF2)
    |panicked c =>
     cases en with
     |returned _=>exact k3.elim
     |outgrown=>exact k3.elim
     |panicked ch =>
      simp only[jA]at e
      have hs2:=step_going_panicked (c:={ fr with defers:=rs,mode:=u' }) (cs:=cs) k6
      have hF2:jI E.P ρ1 f fn t [] ds' (qS u c) up rd { fr with defers:=rs,mode:=raised u' ch } cs :=
       ⟨hF1.name,hF1.func,hF1.tr,hF1.size,(fun q=>by cases u<;>cases q),h5.mono j2.ext,BZ k2 k3,hF1.rd,hF1.up⟩
      exact pF.of_steps (.head hs1 (k4.trans (.one hs2))) j2 (bI hg e _ _ _ _ j1 hF2)
 ·cases e
 ·have hds:=hF.ds
  have hfd:fr.defers=[]:=by
   cases hq:fr.defers with
   |nil=>rfl
   |cons _ _=>rw[hq]at hds;exact hds.elim
  unfold tf at e
  split at e
  ·unfold MK at e
   split at e
   ·rename_i v hv
    cases e
    obtain⟨y,y1,y2⟩:=zk (P:=E.P) (fn:=fn) h hF.tr hv
    refine AH h hF (en:=.returned y) y1 ⟨?_,hfd,fn,hF.name▸hF.func,y2⟩
    have:=hF.md
    cases hq:fr.mode<;>rw[hq]at this<;>first|rfl|exact this.elim
   ·cases e
  ·rename_i c
   cases e
   have:=hF.md
   cases hq:fr.mode with
   |run=>exact absurd hq hfm
   |returning=>rw[hq]at this;exact this.elim
   |panicking ch =>
    rw[hq]at this
    exact AH h hF (en:=.panicked ch) this ⟨hq,hfd,fn,hF.name▸hF.func⟩
  ·cases e
end
section
variable{E:dA}{ih:sx->S->Option fc}{f:FuncId}{fn:Func}
theorem yA(hE:iB E)(hD:dW E)(hg:Good E.P ih){c:Code}{k:List Item}{t:T V}{ds:List eD}{up:Option Md}{rd:Option Nat}{s:S}{out:fc}
 (e:cx c E f fn (gb ih f fn) (bA ih) (eg ih) k t ds up rd s=some out) {ρ:aD} {w:World} {fr:Frame} {cs:List Frame} (h:HR ρ s w) (hF:jI E.P ρ f fn t (.code c::k) ds .run up rd fr cs) :
 pF E.P f up.isSome rd.isSome cs (lone fr cs w) ρ w out:=by
 have hm:=xD hF
 have ht:=hF.todo rfl
 cases c with
 |ret =>
  simp only[cx]at e
  exact iR hg e h hF (fun _ hro=>SA hm ht hro) (fun l v w' hro hk hr c cs' hc=>by subst hc;exact Tp hm hk hro ht hr)
 |skip=>exact dQ h (Ps hm ht) (hF.to k) (bI hg e)
 |label l=>exact dQ h (Mq hm ht) (hF.to k) (bI hg e)
 |seq a b=>exact dQ h (Sz hm ht) (hF.to _) (bI hg e)
 |cond c a b =>
  simp only[cx]at e
  cases hv:eval t c with
  |none=>rw[hv]at e;cases e
  |some v =>
   rw[hv]at e
   have hd:=aB hF.tr hv
   unfold CY at e
   split at e
   ·rename_i q hq
    cases hq
    simp only[den,Option.some.injEq]at hd
    refine dQ h (Px hm ht hd.symm) (hF.to _) ?_
    have hb:(bif q then a else b)=if q then a else b:=by cases q<;>rfl
    rw[<- hb]
    exact bI hg e
   ·cases e
 |block id c=>exact dQ h (Ms hm ht) (hF.to _) (bI hg e)
 |loop c=>exact dQ h (Pt hm ht) (hF.to _) (bI hg e)
 |scope c=>exact dQ h (Mo hm ht) (hF.to _) (bI hg e)
 |exit id =>
  simp only[cx]at e
  cases hx:exitTo id k with
  |none =>
   rw[hx]at e
   simp only[pV]at e
   exact iR (jump:=some (.exit id)) hg e h hF (fun hj=>by rcases hj with hj|hj<;>cases hj) (fun l v w' hro hk hr c cs' hc=>by subst hc;exact Qe hm hk hro ht hx hr)
  |some k'=>rw[hx]at e;exact dQ h (Pw hm ht hx) (hF.to _) (bI hg e)
 |goto id =>
  simp only[cx]at e
  cases hx:gotoIn id k with
  |none =>
   rw[hx]at e
   simp only[pV]at e
   exact iR (jump:=some (.goto id)) hg e h hF (fun hj=>by rcases hj with hj|hj<;>cases hj) (fun l v w' hro hk hr c cs' hc=>by subst hc;exact Qd hm hk hro ht hx hr)
  |some k'=>rw[hx]at e;exact dQ h (Pu hm ht hx) (hF.to _) (bI hg e)
 |rangeFunc g ps a b=>exact uC hg e h hF
 |region id ops draw =>
  cases draw with
  |true =>
   simp only[cx]at e
   cases hd:kX ops fn.ntmps with
   |false=>rw[hd]at e;cases e
   |true =>
    rw[hd]at e
    exact ng hg e hF.lone_up fun r hr=>hD ih hg f fn id ops k rd t ds up s r hd hr ρ w fr cs h hF
  |false =>
   simp only[cx]at e
   cases hd:kX ops fn.ntmps with
   |false=>rw[hd]at e;cases e
   |true =>
    rw[hd]at e
    refine ng hg e hF.lone_up fun r hr=>?_
    have:=qL (k:=k) (rd:=rd) hE hg hd ops.toList (List.range ops.size) (Qz ops) t ds up s r hr ρ w _ cs h (hF.to _)
    exact this.of_steps (.one (Kc hm ht)) (FR.refl ρ w) (sq.refl hF) rfl
 |refuse why=>cases e
theorem xw(hE:iB E)(hD:dW E)(hg:Good E.P ih){i:Item}{k:List Item}{t:T V}{ds:List eD}{up:Option Md}{rd:Option Nat}{s:S}{out:fc}
 (e:kR i E f fn (gb ih f fn) (bA ih) (eg ih) k t ds up rd s=some out) {ρ:aD} {w:World} {fr:Frame} {cs:List Frame} (h:HR ρ s w) (hF:jI E.P ρ f fn t (i::k) ds .run up rd fr cs) :
 pF E.P f up.isSome rd.isSome cs (lone fr cs w) ρ w out:=by
 have hm:=xD hF
 have ht:=hF.todo rfl
 cases i<;>try(cases e;done)
 case code c=>exact yA hE hD hg e h hF
 case inBlock id=>exact dQ h (Gf hm ht) (hF.to k) (bI hg e)
 case inScope c=>exact dQ h (Ge hm ht) (hF.to k) (bI hg e)
 case inLoop c=>exact dQ h (Kd hm ht) (hF.to _) (bI hg e)
 case beginRound =>
  simp only[kR]at e
  cases rd with
  |none=>cases e
  |some l =>
   simp only at e
   unfold vH at e
   split at e
   ·rename_i pend f' t' ps a b d nt hs
    obtain⟨hu,lb,hl,hro⟩:=hF.rd
    obtain⟨r,r1,r2,r3,r4,r5,r6,r7,r8,r9,r10⟩:=vm h hs hl
    obtain⟨j1,j2⟩:=r10 .busy pend
    have hrun:=run_beginRound (P:=E.P) r1 r2
    have hst:=zi (P:=E.P) (cs:=cs) hm hro ht hrun
    have hpe:({ r with state:=LoopState.busy }:Loop)={ r with state:=.busy,pending:=pend }:=by rw[<- r3]
    rw[hpe]at hst
    exact pF.of_steps (.one hst) j2 (bI hg e _ _ _ _ j1 (hF.to k))
   ·cases e
theorem uG(hE:iB E)(hD:dW E)(hg:Good E.P ih){t:T V}{todo:List Item}{ds:List eD}{m:Md}{up:Option Md}{rd:Option Nat}{s:S}{out:fc}
 (e:fY E f fn (gb ih f fn) (bA ih) (eg ih) t todo ds m up rd s=some out):Ds E.P f fn t todo ds m up rd s out:=by
 intro ρ w fr cs h hF
 cases m with
 |run =>
  simp only[fY]at e
  cases todo with
  |nil =>
   simp only[mS]at e
   have hm:=xD hF
   have ht:=hF.todo rfl
   exact iR hg e h hF (fun _ hro=>SC hm ht hro) (fun l v w' hro hk hr c cs' hc=>by subst hc;exact Tq hm hk hro ht hr)
  |cons i k=>exact xw hE hD hg e h hF
 |returning=>exact qB hg (by intro q;cases q) e h hF
 |panicking c=>exact qB hg (by intro q;cases q) e h hF
theorem rF{β:Type}:∀(l:List V) (i:Nat) (t:T V) (k:T V->β),ki l i t k=k (ki l i t id)
 |[],_,_,_=>rfl
 |x::r,i,t,k=>by
  simp only[ki,T.setK_eq]
  exact rF r (i+1) _ k
theorem AN:∀(l:List V) (i:Nat) (t:T V) (j:Nat),(ki l i t id).get (eQ j)=if i<=j/\j<i+l.length then l[j - i]? else t.get (eQ j)
 |[],i,t,j=>by rw[if_neg (by simp)];rfl
 |x::r,i,t,j=>by
  simp only[ki,T.setK_eq]
  rw[AN r (i+1) _ j,T.get_setN]
  grind
theorem lM{β:Type}:∀(ps:List Tmp) (l:List V) (t:T V) (k:T V->β),cj t ps l k=k (cj t ps l id)
 |[],l,t,k=>by cases l<;>rfl
 |p::ps,[],t,k=>rfl
 |p::ps,x::l,t,k=>by
  simp only[cj,T.setK_eq]
  exact lM ps l _ k
theorem mz{ρ:aD}:∀(ps:List Tmp) (l:List V) (ys:List Value) (t:T V) (tm:Array Value),TR ρ t tm->aQ ρ l=some ys->(∀ p∈ps,p<tm.size) ->
 TR ρ (cj t ps l id) ((ps.zip ys).foldl (fun tmps x=>tmps.setIfInBounds x.1 x.2) tm)/\((ps.zip ys).foldl (fun tmps x=>tmps.setIfInBounds x.1 x.2) tm).size=tm.size
 |[],l,ys,t,tm,ht,_,_=>by
  have:cj t [] l id=t:=by cases l<;>rfl
  simp_all
 |p::ps,[],ys,t,tm,ht,hd,_=>by cases hd;exact⟨ht,rfl⟩
 |p::ps,x::l,ys,t,tm,ht,hd,hp=>by
  obtain⟨y,q,h1,h2,rfl⟩:=aV.1 hd
  simp only[cj,T.setK_eq,List.zip_cons_cons,List.foldl_cons]
  obtain⟨k1,k2⟩:=mz ps l q _ (tm.setIfInBounds p y) (ht.put h1 (hp p (by simp))) h2 (fun p' hp'=>by simpa using hp p' (by simp[hp']))
  grind
structure ss(E:dA):Prop where
 call:∀ f args s v s',E.orc f args s=some (v,s')->fI E.P f args none s ⟨.returned v,none,s'⟩
theorem CN(hg:Good E.P ih){args:List V}{up:Option Md}{s:S}{out:fc}(e:tI ih f args up s (E.P.funcs[f]?)=some out):fI E.P f args up s out:=by
 unfold tI at e
 split at e
 ·rename_i fn hf
  split at e
  ·rename_i c hb
   cases hn:(fn.name == "runtime.NumGoroutine")with
   |true=>rw[hn]at e;cases e
   |false =>
    rw[hn]at e
    simp only[cond_false]at e
    rw[rF]at e
    intro ρ w ys h hd
    have hne:fn.name ≠ "runtime.NumGoroutine" := by simpa using hn
    refine⟨fun w=>by simp[callFunc,hf,hne,hb],fun cs hup=>?_⟩
    refine hg _ s out e ρ w _ cs h ⟨rfl,hf,?_,?_,fun _=>?_,trivial,trivial,rfl,?_⟩
    ·intro i v hv
     rw[AN]at hv
     have hl:=bB hd
     split at hv
     ·rename_i hi
      obtain⟨y,h1,h2⟩:=eu _ hd hv
      refine⟨y,h1,?_⟩
      have hi2:i<ys.length:=(List.getElem?_eq_some_iff.1 h2).1
      simp only[Nat.sub_zero]at h2
      show(ys.toArray++Array.replicate _ undef)[i]? = some y
      grind
     grind [T.get_leaf]
    ·show fn.ntmps<=(ys.toArray++Array.replicate _ undef).size
     grind
    ·simp[Frame.enter,hf,hb]
    ·cases up with
     |none=>rfl
     |some u =>
      obtain⟨c,cs',h1,h2⟩:=hup u rfl
      exact⟨rfl,c,cs',h1,h2⟩
  ·cases e
 ·cases e
theorem BS(hg:Good E.P ih){l:Nat}{args:List V}{s:S}{out:fc}(e:wq E ih l args s (s.get l)=some out):OU E.P l args s out:=by
 intro ρ w lb ys h hl hd
 unfold wq at e
 split at e
 ·rename_i st pend f' t' ps a b d nt hs
  split at e
  ·rename_i fn hf
   cases hb:(Nat.ble fn.ntmps nt&&Nat.beq ps.size args.length&&ps.toList.all (fun p=>Nat.blt p nt))with
   |false=>rw[hb]at e;cases e
   |true =>
    rw[hb]at e
    simp only[cond_true]at e
    simp only[Bool.and_eq_true]at hb
    rw[lM]at e
    obtain⟨r,r1,r2,r3,r4,r5,r6,r7,r8,r9,r10⟩:=vm h hs hl
    have hlen:=bB hd
    have hsz:ys.toArray.size=r.params.size:=by
     have:=Nat.eq_of_beq_eq_true hb.1.2
     rw[r5,this];simpa using hlen
    have hy:=run_yield (P:=E.P) (args:=ys.toArray) r1 hsz
    have hfold:(r.params.zip ys.toArray).foldl (fun tmps (t,a)=>tmps.setIfInBounds t a) r.tmps=(ps.toList.zip ys).foldl (fun tmps x=>tmps.setIfInBounds x.1 x.2) r.tmps:=by
     rw[<- Array.foldl_toList,r5]
     simp
    obtain⟨k1,k2⟩:=mz ps.toList args ys t' r.tmps r8 hd (fun p hp=>Nat.lt_of_lt_of_le (ez (List.all_eq_true.1 hb.2 p hp)) r9)
    rw[hfold]at hy
    refine⟨_,_,_,_,hy,fun cs=>?_⟩
    rw[r4,r6,r7]
    refine hg _ s out e ρ w _ cs h ⟨rfl,hf,k1,?_,fun _=>rfl,trivial,trivial,⟨rfl,lb,hl,rfl⟩,rfl⟩
    exact Nat.le_trans (Nat.le_trans (Nat.le_of_ble_eq_true hb.1.1) r9) (Nat.le_of_eq k2.symm)
  ·cases e
 ·cases e
theorem zz(hE:iB E)(hO:ss E)(hD:dW E)(hg:Good E.P ih):Good E.P (fe E ih):=by
 intro j s out e
 cases j with
 |frame f fn t todo ds m up rd=>exact uG hE hD hg e
 |call f args up =>
  simp only[fe]at e
  unfold yE at e
  split at e
  ·rename_i v s' hv
   cases up with
   |some u=>cases hv
   |none =>
    cases e
    exact hO.call f args s v s' hv
  ·exact CN hg e
 |round l args=>exact BS hg e
theorem lI(hE:iB E)(hO:ss E)(hD:dW E):∀ n,Good E.P (pL E n)
 |0=>fun j s out e=>by cases e
 |n+1=>zz hE hO hD (lI hE hO hD n)
end
abbrev Ih:=sx->S->Option fc
def Bx(c:Nat->Ih)(R:Ih):Prop:=∀ j s o,R j s=some o->∃ n,∀ m,n<=m->c m j s=some o
def bz{α:Type}(c:Nat->Ih)(R:Ih)(Φ:Ih->Option α):Prop:=∀ x,Φ R=some x->∃ n,∀ m,n<=m->Φ (c m)=some x
section
variable{c:Nat->Ih}{R:Ih}{α β:Type}
theorem bz.const(x:Option α):bz c R (fun _=>x):=fun _ h=>⟨0,fun _ _=>h⟩
theorem bz.bind{Φ:Ih->Option α}{Ψ:Ih->Option α->Option β}(h:bz c R Φ)(hn:∀ ih,Ψ ih none=none)(hs:∀ x,bz c R (fun ih=>Ψ ih (some x))):bz c R (fun ih=>Ψ ih (Φ ih)):=by
 intro y hy
 cases hx:Φ R with
 |none=>simp only[hx,hn]at hy;cases hy
 |some x =>
  simp only[hx]at hy
  obtain⟨n1,h1⟩:=h x hx
  obtain⟨n2,h2⟩:=hs x y hy
  refine⟨max n1 n2,fun m hm=>?_⟩
  grind
theorem bz.ih(h:Bx c R)(j:sx)(s:S):bz c R (fun ih=>ih j s):=fun o ho=>h j s o ho
theorem uo(h:Bx c R){Φ:Ih->Option fc}(hΦ:bz c R Φ)(d:Option Tmp)(t:T V)(ds:List eD)(up:Option Md){k:Ih->RK}(hk:∀ t ds up s,bz c R (fun ih=>k ih t ds up s)):bz c R (fun ih=>fw d t ds up (k ih) (Φ ih)):=by
 refine hΦ.bind (Ψ:=fun ih x=>fw d t ds up (k ih) x) (fun _=>rfl) fun o=>?_
 obtain⟨e,u,s⟩:=o
 cases e with
 |returned v=>simp only[fw,cg];exact hk _ _ _ _
 |panicked c=>exact bz.const _
theorem Hm(h:Bx c R)(rd:Option Nat)(d:Option Tmp)(t:T V)(ds:List eD)(up:Option Md){k:Ih->RK}(hk:∀ t ds up s,bz c R (fun ih=>k ih t ds up s))(x:Option Nx) :
 bz c R (fun ih=>dT (bA ih) (eg ih) rd d t ds up (k ih) x):=by
 cases x with
 |none=>exact bz.const _
 |some x =>
  cases x with
  |val v s=>simp only[dT,cg];exact hk _ _ _ _
  |skip s=>simp only[dT,cg];exact hk _ _ _ _
  |enter f args s=>exact uo h (bz.ih h _ _) d t ds up hk
  |round l args s=>exact uo h (bz.ih h _ _) d t ds up hk
  |defer df s=>cases rd<;>simp only[dT,cg,Option.isSome_some,Option.isSome_none,cond_true,cond_false]<;>first|exact hk _ _ _ _|exact bz.const _
  |recover s =>
   simp only[dT]
   unfold recovered
   split
   ·simp only[cg];exact hk _ _ _ _
   ·simp only[cg];exact hk _ _ _ _
   ·exact bz.const _
  |panic v s=>exact bz.const _
theorem Hl(h:Bx c R){E:dA}(rd:Option Nat)(o:Oper)(t:T V)(ds:List eD)(up:Option Md)(s:S){k:Ih->RK}(hk:∀ t ds up s,bz c R (fun ih=>k ih t ds up s))(b:Option Bool) :
 bz c R (fun ih=>pO E (bA ih) (eg ih) rd o t ds up s (k ih) b):=by
 cases b with
 |none=>exact bz.const _
 |some b=>cases b with
  |true=>exact Hm h rd _ t ds up hk _
  |false=>simp only[pO,cg];exact hk _ _ _ _
theorem xH(h:Bx c R){E:dA}{ops:Array Oper}(rd:Option Nat):∀(l:List Oper) (t:T V) (ds:List eD) (up:Option Md) (s:S),bz c R (fun ih=>pK E ops (bA ih) (eg ih) rd l t ds up s)
 |[],_,_,_,_=>bz.const _
 |o::l,t,ds,up,s=>Hl h rd o t ds up s (fun t ds up s=>xH h rd l t ds up s) _
theorem Hp(h:Bx c R){E:dA}(t:T V)(s:S)(o:Oper)(b:Option Bool):bz c R (fun ih=>gB E (bA ih) t s o b):=by
 cases b with
 |none=>exact bz.const _
 |some b=>cases b with
  |false=>exact bz.const _
  |true =>
   simp only[gB]
   cases dg E t s o with
   |none=>exact bz.const _
   |some x=>cases x with
    |enter f args s =>
     simp only[jy]
     refine(bz.ih h (.call f args none) s).bind (Ψ:=fun _ x=>me x) (fun _=>rfl) fun o=>bz.const _
    |_=>exact bz.const _
theorem um(h:Bx c R){E:dA}{ops:Array Oper}{ms:List Nat}{effs:Nat}{all:List (Nat×Oper)}(ds:List eD)(up:Option Md):∀(es:List (Nat×Oper)) (hist:List (Nat×S)) (done:Nat) (t:T V) (s:S),
 bz c R (fun ih=>gj E ops ms effs all (bA ih) ds up es hist done t s)
 |[],_,_,_,_=>bz.const _
 |(i,o)::r,hist,done,t,s=>by
  simp only[gj]
  cases bW E ops ms effs hist (ms.getD i 0) all done t s with
  |none=>exact bz.const _
  |some x =>
   obtain⟨d1,t1,s1⟩:=x
   simp only
   refine(Hp h t1 s1 o (bC ops t1 o)).bind (Ψ:=fun ih (x:Option LA)=>match x with
    |some (.val v s')=>bif Nat.ble s1.next s'.next&&!(d1.testBit i)&&effs.testBit i then mH t1 o.dst (some v) fun t=>gj E ops ms effs all (bA ih) ds up r ((i,s')::hist) (Nat.lor d1 (Nat.pow 2 i)) t s' else none
    |some (.pan c s')=>bif d1.testBit i then none else IM ds up d1 all t1 c s' (bW E ops ms effs hist (dJ ms i all) all d1 t1 s1)
    |none=>none) (fun _=>rfl) fun x=>?_
   cases x with
   |val v s' =>
    simp only
    cases (Nat.ble s1.next s'.next&&!(d1.testBit i)&&effs.testBit i)with
    |false=>exact bz.const _
    |true=>simp only[cond_true,cg];exact um h ds up r _ _ _ _
   |pan c s'=>exact bz.const _
theorem CG(h:Bx c R){E:dA}{ops:Array Oper}(t:T V)(ds:List eD)(up:Option Md)(s:S):bz c R (fun ih=>ip E ops (bA ih) (eg ih) t ds up s):=by
 unfold ip
 cases MW E.P ops with
 |none=>exact bz.const _
 |some p=>exact um h ds up _ _ _ _ _
variable{f:FuncId}{fn:Func}
theorem gA(h:Bx c R)(t:T V)(todo:List Item)(ds:List eD)(m:Md)(up:Option Md)(rd:Option Nat)(s:S):bz c R (fun ih=>gb ih f fn t todo ds m up rd s):=bz.ih h _ _
theorem lX(h:Bx c R)(t:T V)(ds:List eD)(up:Option Md)(rd:Option Nat)(s:S)(jump:Option Code):bz c R (fun ih=>lS (gb ih f fn) t ds up rd s jump):=by
 unfold lS
 split
 ·split
  ·simp_all[gA]
  ·simp_all[gA]
  ·exact bz.const _
 simp_all[bz.const]
theorem rL(h:Bx c R){Φ:Ih->Option jL}(hΦ:bz c R Φ)(k:List Item)(rd:Option Nat):bz c R (fun ih=>gk (gb ih f fn) k rd (Φ ih)):=by
 refine hΦ.bind (Ψ:=fun ih x=>gk (gb ih f fn) k rd x) (fun _=>rfl) fun x=>?_
 cases x<;>exact gA h _ _ _ _ _ _ _
theorem EJ(h:Bx c R){Φ:Ih->Option fc}(hΦ:bz c R Φ)(k:List Item)(t:T V)(ds:List eD)(up:Option Md)(rd:Option Nat)(d l:Nat):bz c R (fun ih=>jS (gb ih f fn) k t ds up rd d l (Φ ih)):=by
 refine hΦ.bind (Ψ:=fun ih x=>jS (gb ih f fn) k t ds up rd d l x) (fun _=>rfl) fun x=>?_
 obtain⟨e,u,s⟩:=x
 cases e with
 |panicked c=>exact gA h _ _ _ _ _ _ _
 |returned v =>
  simp only[jS]
  unfold rp
  split
  ·split
   ·exact bz.const _
   simp_all[gA]
  ·exact bz.const _
theorem zD(h:Bx c R)(nt:Nat)(k:List Item)(t:T V)(ds:List eD)(up:Option Md)(rd:Option Nat)(s:S)(ps:Array Tmp)(a b:Code)(x:Option V):bz c R (fun ih=>fV f nt (gb ih f fn) (bA ih) k t ds up rd s ps a b x):=by
 unfold fV
 split
 ·split
  ·split
   ·exact EJ h (bz.ih h _ _) _ _ _ _ _ _ _
   ·exact bz.const _
  ·exact bz.const _
 ·exact bz.const _
theorem CI(h:Bx c R){E:dA}(co:Code)(k:List Item)(t:T V)(ds:List eD)(up:Option Md)(rd:Option Nat)(s:S):bz c R (fun ih=>cx co E f fn (gb ih f fn) (bA ih) (eg ih) k t ds up rd s):=by
 cases co<;>simp only[cx]<;>try exact gA h _ _ _ _ _ _ _
 case ret=>exact lX h _ _ _ _ _ _
 case cond q a b =>
  unfold CY
  split
  ·exact gA h _ _ _ _ _ _ _
  ·exact bz.const _
 case exit id =>
  unfold pV
  split
  ·exact gA h _ _ _ _ _ _ _
  ·exact lX h _ _ _ _ _ _
 case goto l =>
  unfold pV
  split
  ·exact gA h _ _ _ _ _ _ _
  ·exact lX h _ _ _ _ _ _
 case rangeFunc g ps a b=>exact zD h _ _ _ _ _ _ _ _ _ _ _
 case region id ops draws =>
  cases draws<;>simp only[cx]<;>cases kX ops fn.ntmps<;>simp only[cond_true,cond_false]<;>first|exact bz.const _|exact rL h (xH h _ _ _ _ _ _) _ _|exact rL h (CG h _ _ _ _) _ _
 simp_all[bz.const]
theorem CH(h:Bx c R){E:dA}(i:Item)(k:List Item)(t:T V)(ds:List eD)(up:Option Md)(rd:Option Nat)(s:S):bz c R (fun ih=>kR i E f fn (gb ih f fn) (bA ih) (eg ih) k t ds up rd s):=by
 cases i<;>simp only[kR]<;>try(first|exact gA h _ _ _ _ _ _ _|exact bz.const _)
 case code co=>exact CI h co _ _ _ _ _ _
 case beginRound =>
  cases rd with
  |none=>exact bz.const _
  |some l =>
   simp only
   unfold vH
   split
   ·exact gA h _ _ _ _ _ _ _
   ·exact bz.const _
theorem xG(h:Bx c R){E:dA}(ds:List eD)(t:T V)(m:Md)(up:Option Md)(rd:Option Nat)(s:S):bz c R (fun ih=>dC ds E fn (gb ih f fn) (bA ih) t m up rd s):=by
 cases ds with
 |nil=>exact bz.const _
 |cons d ds =>
  cases d with
  |collected b =>
   simp only[dC]
   unfold kz
   split
   ·simp_all[gA]
   ·exact bz.const _
  |call fn cap args =>
   cases fn with
   |func g =>
    simp only[dC]
    refine(bz.ih h (.call g (args++cap) (some m)) s).bind (Ψ:=fun ih x=>jA (gb ih f _) t ds up rd x) (fun _=>rfl) fun x=>?_
    unfold jA
    split
    ·split
     ·exact bz.const _
     simp_all[gA]
    ·simp_all[gA]
    ·exact bz.const _
   |_=>exact bz.const _
theorem nN(h:Bx c R){E:dA}(j:sx)(s:S):bz c R (fun ih=>fe E ih j s):=by
 cases j with
 |frame f fn t todo ds m up rd =>
  simp only[fe]
  cases m with
  |run =>
   simp only[fY]
   cases todo with
   |nil=>simp only[mS];exact lX h _ _ _ _ _ _
   |cons i k=>simp only[mS];exact CH h i _ _ _ _ _ _
  |returning=>simp only[fY];exact xG h _ _ _ _ _ _
  |panicking c=>simp only[fY];exact xG h _ _ _ _ _ _
 |call f args up =>
  simp only[fe]
  unfold yE
  split
  ·exact bz.const _
  ·unfold tI
   split
   ·split
    ·rename_i fn _ _ co _
     cases hn:(fn.name == "runtime.NumGoroutine")with
     |true=>exact bz.const _
     |false =>
      have:(fun ih:Ih=>bif false then none else ki args 0 .leaf fun t=>ih (.frame f fn t [.code co] [] .run up none) s)=fun ih=>ih (.frame f fn (ki args 0 .leaf id) [.code co] [] .run up none) s:=funext fun ih=>rF args 0 .leaf _
      rw[this]
      exact bz.ih h _ _
    ·exact bz.const _
   ·exact bz.const _
 |round l args =>
  simp only[fe]
  unfold wq
  split
  ·split
   ·rename_i _ _ f0 t0 ps assign body _ nt _ _ fn _
    cases hn:(Nat.ble fn.ntmps nt&&Nat.beq ps.size args.length&&ps.toList.all (fun p=>Nat.blt p nt))with
    |false=>exact bz.const _
    |true =>
     have:(fun ih:Ih=>bif true then cj t0 ps.toList args fun t=>ih (.frame f0 fn t [.code assign,.beginRound,.code body] [] .run none (some l)) s else none)=fun ih=>ih (.frame f0 fn (cj t0 ps.toList args id) [.code assign,.beginRound,.code body] [] .run none (some l)) s:=funext fun ih=>lM ps.toList args t0 _
     rw[this]
     exact bz.ih h _ _
   ·exact bz.const _
  ·exact bz.const _
end
def lim(E:dA):Ih:=fun j s=>open Classical in if h:∃ o n,pL E n j s=some o then some h.choose else none
theorem wp(E:dA):∀ n j s o,pL E n j s=some o->pL E (n+1) j s=some o
 |0,_,_,_,h=>by cases h
 |n+1,j,s,o,h=>by
  have hl:Bx (fun _=>pL E (n+1)) (pL E n):=fun j s o h=>⟨0,fun _ _=>wp E n j s o h⟩
  obtain⟨k,hk⟩:=nN hl (E:=E) j s o h
  exact hk k (Nat.le_refl _)
theorem sO(E:dA){n m:Nat}(hm:n<=m){j:sx}{s:S}{o:fc}(h:pL E n j s=some o):pL E m j s=some o:=by
 induction hm with
 |refl=>exact h
 |step _ ih=>exact wp E _ j s o ih
theorem DU{E:dA}{n:Nat}{j:sx}{s:S}{o:fc}(h:pL E n j s=some o):lim E j s=some o:=by
 have hex:∃ o n,pL E n j s=some o:=⟨o,n,h⟩
 unfold lim
 rw[dif_pos hex]
 obtain⟨m,hm⟩:=hex.choose_spec
 have h1:=sO E (Nat.le_max_left n m) h
 grind [sO,Nat.le_max_right]
theorem xd{E:dA}{j:sx}{s:S}{o:fc}(h:lim E j s=some o):∃ n,pL E n j s=some o:=by
 unfold lim at h
 split at h
 ·grind
 ·cases h
theorem Qk(E:dA):Bx (pL E) (lim E):=fun j s o h=>by
 obtain⟨n,hn⟩:=xd h
 exact⟨n,fun m hm=>sO E hm hn⟩
theorem NB(E:dA)(j:sx)(s:S):lim E j s=fe E (lim E) j s:=by
 cases h:fe E (lim E) j s with
 |some o =>
  obtain⟨n,hn⟩:=nN (Qk E) j s o h
  exact DU (n:=n+1) (hn n (Nat.le_refl _))
 |none =>
  cases h2:lim E j s with
  |none=>rfl
  |some o =>
   obtain⟨n,hn⟩:=xd h2
   cases n with
   |zero=>cases hn
   |succ n =>
    have hl:Bx (fun _=>lim E) (pL E n):=fun j s o h=>⟨0,fun _ _=>DU h⟩
    obtain⟨k,hk⟩:=nN hl (E:=E) j s o hn
    have h3:fe E (lim E) j s=some o:=hk k (Nat.le_refl _)
    grind
theorem NA{E:dA}(hE:iB E)(hO:ss E)(hD:dW E):Good E.P (lim E):=fun j s o h=>by
 obtain⟨n,hn⟩:=xd h
 exact lI hE hO hD n j s o hn
section ops
variable{P:Program}{ρ:aD}{s:S}{w:World}{t:T V}{tm:Array Value}
theorem HI(h:HR ρ s w){b:Builtin}(hb:b=.len\/b=.cap\/b=.max\/b=.min){ts:Array TypeId}{ty:TypeId}{consts:Array Bool}{args:List V}{ys:List Value}(hd:aQ ρ args=some ys){nx:Nx}(e:iJ P b ts args s=some nx) :
 yZ P ρ w s nx ((Go.builtin b ts ty consts ys.toArray).run P w):=by
 rcases hb with rfl|rfl|rfl|rfl
 ·simp only[iJ]at e
  split at e
  ·rename_i t0 h0
   split at e
   ·rename_i x
    obtain⟨X,hx,rfl⟩:=mi hd
    exact aR h e fun v hv=>xg h h0 hx hv
   ·cases e
  ·cases e
 ·simp only[iJ]at e
  split at e
  ·rename_i t0 h0
   split at e
   ·rename_i x
    obtain⟨X,hx,rfl⟩:=mi hd
    exact aR h e fun v hv=>yC h0 hx hv
   ·cases e
  ·cases e
 ·simp only[iJ]at e
  refine aR (m:=Builtin.max_ ts ty ys.toArray) h e fun v hv=>?_
  cases args with
  |nil=>cases hv
  |cons x r =>
   obtain⟨X,q,hx,hr,rfl⟩:=aV.1 hd
   exact ju wU r q x X v hr hx hv
 ·simp only[iJ]at e
  refine aR (m:=Builtin.min_ ts ty ys.toArray) h e fun v hv=>?_
  cases args with
  |nil=>cases hv
  |cons x r =>
   obtain⟨X,q,hx,hr,rfl⟩:=aV.1 hd
   exact ju wS r q x X v hr hx hv
theorem HE(h:HR ρ s w)(ht:TR ρ t tm){src dst:TypeId}(hdst:∀ el,P.underlying dst≠some (.slice el)){x:Operand}{nx:Nx}(e:gE P s src dst (eval t x)=some nx) :
 yZ P ρ w s nx ((do pure (Next.value (<- convert src dst (rv tm x))):Sem Next).run P w):=by
 unfold gE at e
 split at e
 ·rename_i v hv
  have dv:=aB ht hv
  generalize rv tm x=X at *
  unfold iE at e
  split at e
  ·rename_i y s' hc
   cases e
   unfold jB at hc
   split at hc
   ·rename_i ds hs
    split at hc
    ·rename_i k hd
     split at hc
     ·rename_i j n
      cases hc;cases dv
      have:(convert src dst (.int j n)).run P w=.ok (.int k (k.wrap n)) w:=by
       cases ds<;>simp[convert,ax hs,ax hd,Conv.intToInt]
      exact⟨_,.int k (k.wrap n),rfl,by simp[this],by rw[bO];rfl⟩
     ·cases hc
    ·rename_i hd
     obtain⟨rfl,y',h1,h2⟩:=tZ h hs hd dv hc
     exact⟨_,y',rfl,by simp[h2],h1⟩
    ·rename_i el hd
     exact absurd hd (hdst el)
    ·cases hc
   ·cases hc
  ·cases e
 ·cases e
theorem At{E:dA}(h:HR ρ s w)(ht:TR ρ t tm)(o:Oper)(hk:aF E.P o.op<=1){nx:Nx}(e:dg E t s o=some nx):yZ E.P ρ w s nx ((execOp (rv tm) o).run E.P w):=by
 obtain⟨dst,op,type,pos,after,guard⟩:=o
 unfold dg at e
 simp only at e hk
 cases op<;>simp only[cy]at e<;>try(cases e;done)
 case move x=>exact rl h ht e
 case assign x=>exact rl h ht e
 case pick c a b=>exact rP h ht e
 case alloc elem=>simp[aF]at hk
 case box elem x=>simp[aF]at hk
 case build ty parts=>exact pC h ht e
 case buildSlice ty len parts=>simp[aF]at hk
 case load ty x=>exact rR h ht e
 case store ty x y=>simp[aF]at hk
 case nilCheck x=>exact kY h ht e
 case binOp op ty x y z=>exact uw h ht e
 case unOp op ty x=>exact yo h ht e
 case convert src dst x =>
  refine HE h ht (fun el hu=>?_) e
  simp[aF,hu]at hk
 case makeInterface ty x=>exact mD h ht e
 case makeFunc fn first cap=>exact nV h ht e
 case makeMap ty r=>simp[aF]at hk
 case makeSlice ty l c=>simp[aF]at hk
 case slice ty x lo hi mx=>exact pz h ht e
 case fieldAddr ty x f=>exact ku h ht e
 case field ty x f=>exact pB h ht e
 case indexAddr ty x i=>exact kn h ht e
 case index ty x i=>exact pA h ht e
 case lookup ty x k ok=>exact nW h ht e
 case mapUpdate ty m k x=>simp[aF]at hk
 case insert ty m k x=>simp[aF]at hk
 case typeAssert x xt ty ok=>exact nX h ht e
 case extract x i=>exact mE h ht e
 case call c =>
  unfold hJ at e
  split at e
  ·rename_i args ha
   obtain⟨ys,y1,y2⟩:=yN ht ha
   split at e
   ·rename_i b hc
    have hb:b=.len\/b=.cap\/b=.max\/b=.min:=by
     grind [aF]
    simp only[execOp,resolve,hc,Sem.run_bind,Sem.run_pure,Result.andThen_ok,invoke,y2]
    exact HI h hb y1 e
   ·rename_i f hc
    simp[aF,hc]at hk
   ·cases e
  ·cases e
 case defer c=>simp[aF]at hk
 grind [aF]
end ops
section ops
variable{P:Program}{ρ:aD}{s:S}{w:World}{t:T V}{tm:Array Value}
def Ly(P:Program)(ρ:aD)(w:World)(mk:Nat->V)(B:dS)(m:Sem Next):Prop :=
 ∃ y obj lim n,m.run P w=.ok (.value y) ({ w with drawn:=n }.alloc obj) /\
  ∀ ρ' f,ρ.le ρ'->ρ' f 0=some ⟨w.heap.size,0,lim⟩->(∀ v,1<=v->ρ' f v=none)->den ρ' (mk f)=some y/\∀ w':World,w'.heap[w.heap.size]? = some obj->zd ρ' w' f B
theorem tM{ρ':aD}{f:Nat}{lim b:Nat}{cs:List V}{ys:Array Value}{sb:Bool}{el e':TypeId}{fz:Nat×Nat}(hd:aQ ρ cs=some (ys.toList.take cs.length))(hfz:(sb=false->fz=(0,0))/\∀ i,i<ys.size->¬(fz.1<=i/\i<fz.2))
 (hl:ρ.le ρ') (h0:ρ' f 0=some ⟨b,0,lim⟩) (h1:∀ v,1<=v->ρ' f v=none) (hlim:lim=ys.size) {w':World} (hw:w'.heap[b]? = some (.cells ys e' fz)):zd ρ' w' f (.cells el sb 1 [⟨0,0,cs⟩]):=by
 refine⟨h1,fun u hu=>?_⟩
 simp at hu;subst hu
 refine⟨Nat.zero_lt_one,_,ys,e',fz,h0,hw,Nat.le_refl _,by simp[hlim],hfz,fun i x hx=>?_⟩
 obtain⟨y,hy,hy'⟩:=eu i hd hx
 refine⟨y,bw hl _ _ hy,?_⟩
 have hi:i<cs.length:=(List.getElem?_eq_some_iff.1 hx).1
 rw[List.getElem?_take_of_lt hi,Array.getElem?_toList]at hy'
 simpa using hy'
theorem Ej{elem:TypeId}{v:V}{y:Value}(hv:den ρ v=some y):Ly P ρ w (fun f=>.ptr ⟨f,0,0⟩) (.cells elem false 1 [⟨0,0,v.cells⟩]) (do pure (Next.value (.pointer (some (<- newVar elem y))))):=by
 refine⟨_,_,y.cells.size,w.drawn,by simp[newVar,newRow];exact⟨rfl,rfl⟩,fun ρ' f hl h0 h1=>⟨by simp[den,iy,h0],fun w' hw=>?_⟩⟩
 exact tM (by rw[et hv,<- mj hv,List.take_of_length_le (by simp)]) ⟨fun _=>rfl,by simp⟩ hl h0 h1 rfl hw
theorem Nw{elem:TypeId}{cs:List V}{ys:Array Value}(hd:aQ ρ cs=some ys.toList){len sz cap:Nat}{co:Option Nat}(hco:co=some cap\/(co=none/\cs.length=cap*sz))(hl:len<=cap)(hsz:0<sz) :
 Ly P ρ w (fun f=>.slice ⟨f,0,0⟩ 0 len co sz) (.cells elem false 1 [⟨0,0,cs⟩]) (do pure (Next.value (.slice (some (<- newRow elem ys)) len cap))):=by
 have hlen:cs.length=ys.size:=by have:=bB hd;simpa using this.symm
 refine⟨_,_,ys.size,w.drawn,by simp[newRow];exact⟨rfl,rfl⟩,fun ρ' f hle h0 h1=>⟨?_,fun w' hw=>?_⟩⟩
 ·exact Af h0 hl hsz (by rw[<- hlen];exact hco)
 ·exact tM (by rw[hd,hlen,List.take_of_length_le (by simp)]) ⟨fun _=>rfl,by simp⟩ hle h0 h1 rfl hw
def tX(P:Program)(ρ:aD)(w:World)(d:S->Option Nx)(m:Sem Next):Prop :=
 ∃ mk B,(∀ s',d s'=some (.val (mk s'.next) (s'.alloc B)))/\Ly P ρ w mk B m
theorem Ly.congr{mk:Nat->V}{B:dS}{m m':Sem Next}(h:Ly P ρ w mk B m)(e:m'.run P w=m.run P w):Ly P ρ w mk B m':=by
 obtain⟨y,obj,lim,n,h1,h2⟩:=h
 exact⟨y,obj,lim,n,e.trans h1,h2⟩
theorem CR{elem:TypeId}{nx:Nx}(e:iX P s elem=some nx):tX P ρ w (fun s=>iX P s elem) (do pure (Next.value (<- Instr.alloc elem true (.tuple #[])))):=by
 unfold iX at e
 split at e
 ·rename_i z hz
  obtain⟨y,i,hi,hzi,hd⟩:=eV hz
  refine⟨_,_,fun s'=>by simp only[iX,hz,pj,ba,aY],(Ej (P:=P) (w:=w) (elem:=elem) (hd ρ)).congr ?_⟩
  simp only[Instr.alloc,Sem.run_bind,fJ hi hzi,Result.andThen_ok,Sem.run_pure]
  simp[newVar,newRow]
 ·cases e
theorem Hw(ht:TR ρ t tm){elem:TypeId}{x:Operand}{nx:Nx}(e:rT s elem (eval t x)=some nx):tX P ρ w (fun s=>rT s elem (eval t x)) (do pure (Next.value (<- Instr.box elem (rv tm x)))):=by
 unfold rT at e
 split at e
 ·rename_i z hz
  refine⟨_,_,fun s'=>by simp only[rT,hz,pj,ba,aY],(Ej (P:=P) (w:=w) (elem:=elem) (aB ht hz)).congr ?_⟩
  simp only[Instr.box,Sem.run_bind,Sem.run_pure]
  simp[newVar,newRow]
 ·cases e
theorem yp{ty:TypeId}:tX P ρ w (fun s=>some (.val (.map s.next) (s.alloc (.map [] 0)))) (do pure (Next.value (<- Instr.makeMap ty none))):=by
 refine⟨fun f=>.map f,.map [] 0,fun s'=>rfl,.map (some w.heap.size),.map #[] 0,0,w.drawn,by simp[Instr.makeMap],fun ρ' f hl h0 h1=>⟨by simp[den,h0],fun w' hw=>⟨_,#[],h0,hw,trivial⟩⟩⟩
def JT(P:Program)(ρ:aD)(w:World)(d:S->Option Nx)(m:Sem Value):Prop :=
 ∃(el:TypeId) (cs:List V) (ys:Array Value) (len cap sz:Nat) (co:Option Nat),(co=some cap\/(co=none/\cs.length=cap*sz))/\(∀ s',d s'=some (.val (.slice (ba s' el cs).1 0 len co sz) (ba s' el cs).2))/\aQ ρ cs=some ys.toList/\len<=cap/\0<sz /\
  m.run P w=(do pure (.slice (some (<- newRow el ys)) len cap):Sem Value).run P w
theorem JT.made{d:S->Option Nx}{m:Sem Value}(h:JT P ρ w d m):tX P ρ w d (do pure (Next.value (<- m))):=by
 obtain⟨el,cs,ys,len,cap,sz,co,hco,h1,h2,h3,h4,h5⟩:=h
 refine⟨_,_,fun s'=>by rw[h1];simp only[ba,aY],(Nw (P:=P) (w:=w) (elem:=el) h2 hco h3 h4).congr ?_⟩
 simp only[Sem.run_bind]at h5 ⊢
 rw[h5]
 simp[newRow]
theorem zH(ht:TR ρ t tm){ty:TypeId}{l c:Operand}{nx:Nx}(e:eo P s ty (cL (eval t l)) (cL (eval t c))=some nx) :
 JT P ρ w (fun s=>eo P s ty (cL (eval t l)) (cL (eval t c))) (Instr.makeSlice ty (rv tm l) (rv tm c)):=by
 unfold eo at e
 split at e
 ·rename_i el hu
  split at e
  ·rename_i l' hl
   split at e
   ·rename_i c' hc
    obtain⟨k1,e1⟩:=fW ht hl
    obtain⟨k2,e2⟩:=fW ht hc
    split at e
    ·rename_i z hz
     obtain⟨zv,i,hi,hzi,hden⟩:=eV hz
     split at e
     ·rename_i n hn
      cases hb:(Nat.ble l' c'&&Nat.ble c' 2199023255552&&!(Nat.beq n 0)&&Nat.beq z.cells.length n&&iD P el c')with
      |false=>simp[hb]at e
      |true =>
       have hbb:=hb
       simp only[hb,cond_true]at e
       simp only[Bool.and_eq_true]at hb
       obtain⟨⟨⟨⟨b1,b2⟩,b3⟩,b4⟩,b5⟩:=hb
       have b1:=Nat.le_of_ble_eq_true b1
       have b2:=Nat.le_of_ble_eq_true b2
       have b4:=Nat.eq_of_beq_eq_true b4
       have b3:0<n:=by
        grind
       have b5:i.bytes*c'<=100000000000000:=by
        simp_all[iD]
       have hzc:=et (hden ρ)
       have hzl:zv.cells.toList.length=n:=by have:=bB hzc;omega
       have hrow:=yz zv.cells.toList n hzl b3 c'
       have hd:aQ ρ (List.replicate c' z.cells).flatten=some ((List.replicate c' zv.cells.toList).flatten.toArray).toList:=by simpa using gF hzc c'
       have hrun:(Instr.makeSlice ty (rv tm l) (rv tm c)).run P w=(do pure (.slice (some (<- newRow el (List.replicate c' zv.cells.toList).flatten.toArray)) l' c'):Sem Value).run P w:=by
        have hsz:=ce hn w
        have w1:=lq l' (by omega)
        have w2:=lq c' b2
        simp only[Int.ofNat_eq_natCast]at w1 w2
        have hA:∀ k n,(asInt (.int k n)).run P w=.ok n w:=fun k n=>by simp[asInt,asIntOf]
        have hrow2:Array.map (fun x=>zv.cells[x%zv.cells.size]!) (Array.range (c'*n))=(List.replicate c' zv.cells.toList).flatten.toArray:=by
         grind
        have hbig:(decide ((c':Int)<0)||decide ((i.bytes:Int)*(c':Int)>2 ^ 48))=false:=by
         grind
        have hl0:decide ((l':Int)<0)=false:=by simp
        have hlc:decide ((l':Int)>(c':Int))=false:=by simp;omega
        have hti:(typeInfo el).run P w=.ok i w:=by simp[typeInfo,hi]
        have hzr:=fJ hi hzi w
        simp only[Instr.makeSlice,Sem.run_bind,ax hu,Result.andThen_ok,e1,e2,hA,Sem.run_pure,hti,Int.ofNat_eq_natCast,w1,w2,run_askRoom,hsz,Int.toNat_natCast]
        rw[if_neg (by rw[hbig,hl0,hlc];simp)]
        simp only[Sem.run_bind,run_askRoom,Result.andThen_ok,hsz]
        by_cases hc0:c'*n=0
        ·rw[if_pos hc0]
         have g:∀ f:Nat->Value,Array.map f (Array.range 0)=#[]:=fun f=>by simp
         simp only[Sem.run_bind,Sem.run_pure,Result.andThen_ok,<- hrow2,hc0,g]
        simp_all
       have hb':(Nat.ble l' c'&&Nat.ble c' 2199023255552&&!(Nat.beq n 0)&&Nat.beq z.cells.length n&&iD P el c')=true:=hbb
       exact⟨el,_,_,l',c',n,some c',.inl rfl,fun s'=>by simp only[eo,hu,hl,hc,hz,hn,hb',cond_true,ba,aY],hd,b1,b3,hrun⟩
     ·cases e
    ·cases e
   ·cases e
  ·cases e
 ·cases e
theorem tK(ht:TR ρ t tm){ty:TypeId}{len:Nat}{parts:Array (Nat×Operand)}{nx:Nx}(e:bD P s ty len (cZ t parts.toList)=some nx) :
 JT P ρ w (fun s=>bD P s ty len (cZ t parts.toList)) (Instr.buildSlice ty len (parts.map fun(i,x)=>(i,rv tm x))):=by
 unfold bD at e
 split at e
 ·rename_i el hu
  split at e
  ·rename_i l hl
   have hl0:=hl
   have hp:=iT ht hl
   have hpl:(parts.toList.map fun(i,x)=>(i,rv tm x))=(parts.map fun(i,x)=>(i,rv tm x)).toList:=by simp
   rw[hpl]at hp
   split at e
   ·rename_i z hz
    obtain⟨zv,it,hi,hzi,hden⟩:=eV hz
    have hzc:=et (hden ρ)
    split at e
    ·rename_i n hn
     cases hb:(Nat.ble (len*n) 10000&&!(Nat.beq n 0)&&Nat.beq z.cells.length n)with
     |false=>rw[hb]at e;cases e
     |true =>
      have hbb:=hb
      rw[hb]at e
      simp only[cond_true]at e
      simp only[Bool.and_eq_true]at hb
      have b1:=Nat.le_of_ble_eq_true hb.1.1
      have b2:0<n:=by
       rcases Nat.eq_zero_or_pos n with h0|h0
       ·subst h0;simp at hb
       ·exact h0
      have b3:=Nat.eq_of_beq_eq_true hb.2
      unfold jk at e
      split at e
      ·rename_i cs hcs
       have hzl:zv.cells.toList.length=n:=by have:=bB hzc;omega
       have hrow:=yz zv.cells.toList n hzl b2 len
       have hd:aQ ρ (List.replicate len z.cells).flatten=some ((List.replicate len zv.cells.toList).flatten.toArray).toList:=by simpa using gF hzc len
       obtain⟨zs,hz1,hz2⟩:=jw (place:=fun i=>some (i*n,n)) (fun i x hx=>hx) hp hd hcs
       have hrow2:Array.map (fun x=>zv.cells[x%zv.cells.size]!) (Array.range (len*n))=(List.replicate len zv.cells.toList).flatten.toArray:=by
        grind
       have hrun:(Instr.buildSlice ty len (parts.map fun(i,x)=>(i,rv tm x))).run P w=(do pure (.slice (some (<- newRow el zs)) len len):Sem Value).run P w:=by
        simp only[Instr.buildSlice,Sem.run_bind,ax hu,Result.andThen_ok,ce hn]
        rw[if_neg (by omega)]
        by_cases hc0:len*n=0
        ·rw[if_pos hc0]
         have g:∀ f:Nat->Value,Array.map f (Array.range 0)=#[]:=fun f=>by simp
         rw[<- hrow2,hc0,g]at hz1
         simp only[Sem.run_bind,Sem.run_pure,Result.andThen_ok,hc0,g,hz1]
        ·rw[if_neg hc0]
         simp only[Sem.run_bind,fJ hi hzi,Result.andThen_ok,Sem.run_pure,hrow2,hz1]
       exact⟨el,cs,_,len,len,n,tN len n cs,Da len n cs,fun s'=>by simp only[bD,hu,hl0,hz,hn,hbb,cond_true,jk,hcs,ba,aY],hz2,Nat.le_refl _,b2,hrun⟩
      ·cases e
    ·cases e
   ·cases e
  ·cases e
 ·cases e
theorem Fc(ht:TR ρ t tm){src dst el:TypeId}(hdst:P.underlying dst=some (.slice el)){x:Operand}{nx:Nx}(e:gE P s src dst (eval t x)=some nx) :
 tX P ρ w (fun s=>gE P s src dst (eval t x)) (do pure (Next.value (<- convert src dst (rv tm x)))):=by
 unfold gE at e
 split at e
 ·rename_i v hv
  have dv:=aB ht hv
  generalize rv tm x=X at *
  unfold iE jB at e
  cases hs:P.underlying src with
  |none=>simp[hs]at e
  |some ds =>
   simp only[hs,hdst]at e
   cases v<;>simp only[oA]at e<;>try(cases e;done)
   rename_i l
   cases ds<;>simp only at e<;>try(cases e;done)
   cases hb:gw P el with
   |false=>rw[hb]at e;cases e
   |true =>
    cases dv
    have hrun:=run_bytes_of_string w src dst el (aC l) hs hdst (iS hb)
    rw[eH]at hrun
    have hge:=grownCap_ge w l.length 0 el
    generalize hc:grownCap w l.length 0 el=cap at *
    have hsz:(bytesRow (aC l) cap).size=cap:=by
     simp only[bytesRow,Array.size_append,Array.size_map,Array.size_replicate,eH]
     simp_all[eH]
    rw[hsz]at hrun
    have hd':aQ ρ (l.map oi)=some ((bytesRow (aC l) cap).toList.take (l.map oi).length):=by
     rw[tO]
     have:(aC l).data.toList.length=l.length:=by simp[aC]
     simp[bytesRow,this]
    refine⟨fun f=>.slice ⟨f,0,0⟩ 0 l.length none 1,.cells el true 1 [⟨0,0,l.map oi⟩],fun s'=>?_,_,_,cap,w.drawn+1,by simp only[Sem.run_bind,hrun,Result.andThen_ok,Sem.run_pure];rfl,fun ρ' f hl h0 h1=>⟨?_,fun w' hw=>?_⟩⟩
    ·simp only[gE,hv,iE,jB,hs,hdst,oA,hb,cond_true,aY]
    ·have:=dD (a:=⟨f,0,0⟩) (z:=0) (len:=l.length) (cap:=none) (sz:=1) h0 (by simp) (Nat.zero_le _) (by simpa[bS]using hge) Nat.one_pos
     rw[this]
     simp[bS,bj]
    ·exact tM hd' ⟨(fun h=>by cases h),fun i hi=>by rw[hsz]at hi;simp;omega⟩ hl h0 h1 hsz.symm hw
 ·cases e
theorem Kl{E:dA}(ht:TR ρ t tm)(o:Oper)(hk:aF E.P o.op=2){nx:Nx}(e:dg E t s o=some nx):tX E.P ρ w (fun s=>dg E t s o) (execOp (rv tm) o):=by
 obtain⟨dst,op,type,pos,after,guard⟩:=o
 unfold dg at e ⊢
 simp only at e hk ⊢
 cases op<;>simp only[cy]at e ⊢<;>try(cases e;done)
 case alloc elem=>exact CR e
 case box elem x=>exact Hw ht e
 case buildSlice ty len parts=>exact(tK ht e).made
 case makeMap ty r =>
  cases r with
  |none=>exact yp
  |some _=>cases e
 case makeSlice ty l c=>exact(zH ht e).made
 case convert src dst x =>
  cases hu:E.P.underlying dst with
  |none=>simp[aF,hu]at hk
  |some d=>cases d<;>simp[aF,hu]at hk;exact Fc ht hu e
 case binOp op ty x y z=>simp only[aF]at hk;cases hb:lU op<;>simp[hb]at hk
 case call c=>simp only[aF]at hk;split at hk<;>simp at hk
 all_goals simp[aF]at hk
end ops
section ops
variable{s:S}{t t':T V}
theorem iw:∀ {l:List Operand},(∀ x∈l,eval t x=eval t' x)->gK t l=gK t' l
 |[],_=>rfl
 |x::r,h=>by
  simp_all[iw,List.mem_cons_of_mem,gK]
theorem ma:∀ {l:List (Nat×Operand)},(∀ x∈l,eval t x.2=eval t' x.2)->cZ t l=cZ t' l
 |[],_=>rfl
 |(i,x)::r,h=>by
  have ih:=ma (l:=r) fun y hy=>h y (List.mem_cons_of_mem _ hy)
  simp_all[cZ]
theorem nQ{x:Option Operand}(h:∀ y,x=some y->eval t y=eval t' y):kW t x=kW t' x:=by
 cases x with
 |none=>rfl
 |some y=>simp only[kW,h y rfl]
theorem Hu{E:dA}(o:Oper)(h:∀ x∈o.op.operands,eval t x=eval t' x):dg E t s o=dg E t' s o:=by
 obtain⟨dst,op,type,pos,after,guard⟩:=o
 unfold dg
 simp only at h ⊢
 cases op<;>simp only[Op.operands]at h<;>simp only[cy]<;>try rfl
 case move x=>rw[h x (by simp)]
 case assign x=>rw[h x (by simp)]
 case pick c a b =>
  have h1:∀ q:Bool,eval t (bif q then a else b)=eval t' (bif q then a else b):=fun q=>by cases q<;>exact h _ (by simp)
  simp only[mf,h c (by simp),h1]
 case box elem x=>rw[h x (by simp)]
 case build ty parts=>rw[ma fun x hx=>h x.2 (by simp;exact⟨x.1,by simpa using hx⟩)]
 case buildSlice ty len parts=>rw[ma fun x hx=>h x.2 (by simp;exact⟨x.1,by simpa using hx⟩)]
 case load ty x=>rw[h x (by simp)]
 case store ty x y=>rw[h x (by simp),h y (by simp)]
 case nilCheck x=>rw[h x (by simp)]
 case binOp op ty x y z=>rw[h x (by simp),h y (by simp)]
 case unOp op ty x=>rw[h x (by simp)]
 case convert src dst x=>rw[h x (by simp)]
 case makeInterface ty x=>rw[h x (by simp)]
 case makeFunc fn first cap=>rw[iw fun x hx=>h x (by simp;left;simpa using hx),iw (l:=cap.toList) fun x hx=>h x (by simp;right;simpa using hx)]
 case makeMap ty r=>cases r<;>rfl
 case makeSlice ty l c=>rw[h l (by simp),h c (by simp)]
 case slice ty x lo hi mx =>
  rw[h x (by simp),nQ (x:=lo) fun y hy=>h y (by subst hy;simp),nQ (x:=hi) fun y hy=>h y (by subst hy;simp),nQ (x:=mx) fun y hy=>h y (by subst hy;simp)]
 case fieldAddr ty x f=>rw[h x (by simp)]
 case field ty x f=>rw[h x (by simp)]
 case indexAddr ty x i=>rw[h x (by simp),h i (by simp)]
 case index ty x i=>rw[h x (by simp),h i (by simp)]
 case lookup ty x k ok=>rw[h x (by simp),h k (by simp)]
 case mapUpdate ty m k x=>rw[h m (by simp),h k (by simp),h x (by simp)]
 case insert ty m k x=>rw[h m (by simp),h k (by simp),h x (by simp)]
 case typeAssert x xt ty ok=>rw[h x (by simp)]
 case extract x i=>rw[h x (by simp)]
 case call c =>
  rw[iw fun x hx=>h x (by simp only[Call.operands];exact Array.mem_append.2 (.inr (by simpa using hx)))]
  unfold hJ
  split
  ·split
   ·rfl
   ·rename_i f hc;rw[h f (by simp[Call.operands,hc])]
   ·rfl
  ·rfl
 case defer c =>
  rw[iw fun x hx=>h x (by simp only[Call.operands];exact Array.mem_append.2 (.inr (by simpa using hx)))]
  unfold oR
  split
  ·split
   ·rename_i f hc;rw[h f (by simp[Call.operands,hc])]
   ·rfl
  ·rfl
 grind
end ops
variable{t:T V}{h:T dS}{n n':Nat}
theorem bf{x y:Option V}(hxy:x=y){v:V}{s1:S}(e:bv ⟨h,n⟩ x=some (.val v s1)):bv ⟨h,n'⟩ y=some (.val v ⟨h,n'⟩):=by
 subst hxy
 cases x with
 |none=>cases e
 |some u=>cases e;rfl
theorem Cp{P:Program}{ty:TypeId}{a:Ad}:loadVar P ⟨h,n⟩ ty a=loadVar P ⟨h,n'⟩ ty a:=rfl
theorem wY{a:Ad}{k:Nat}:loadCells ⟨h,n⟩ a k=loadCells ⟨h,n'⟩ a k:=rfl
theorem KA{P:Program}{ty:TypeId}{x:V}:iH P ty ⟨h,n⟩ x=iH P ty ⟨h,n'⟩ x:=rfl
theorem KR{E:dA}(o:Oper)(hk:aF E.P o.op<=1){v:V}{s1:S}(e:dg E t ⟨h,n⟩ o=some (.val v s1)):dg E t ⟨h,n'⟩ o=some (.val v ⟨h,n'⟩):=by
 obtain⟨dst,op,type,pos,after,guard⟩:=o
 unfold dg at e ⊢
 simp only at e hk ⊢
 cases op<;>simp only[cy]at e ⊢<;>try(cases e;done)
 case move x=>exact bf rfl e
 case assign x=>exact bf rfl e
 case pick c a b =>
  unfold mf at e ⊢
  split at e
  ·exact bf rfl e
  ·cases e
 case build ty parts=>exact bf rfl e
 case load ty x =>
  unfold iI at e ⊢
  split at e
  ·exact bf Cp e
  ·cases e
 case nilCheck x=>exact bf rfl e
 case binOp op ty x y z=>exact bf rfl e
 case unOp op ty x=>exact bf rfl e
 case convert src dst x =>
  unfold gE at e ⊢
  split at e
  ·rename_i x' hx'
   unfold iE at e ⊢
   unfold jB at e ⊢
   cases hs:E.P.underlying src with
   |none=>simp[hs]at e
   |some ds =>
    cases hd:E.P.underlying dst with
    |none=>simp[hs,hd]at e
    |some dd =>
     simp only[hs,hd]at e ⊢
     cases dd<;>simp only at e ⊢<;>try(cases e;done)
     case int k=>cases x'<;>simp only at e ⊢<;>first|(cases e;done)|(cases e;rfl)
     case string =>
      unfold zW at e ⊢
      cases x'<;>simp only at e ⊢<;>try(first|(cases e;done)|(cases e;rfl))
      case slice a z len cap sz =>
       rw[wY (n':=n')]at e
       cases ds<;>simp only at e ⊢<;>try(cases e;done)
       rename_i el
       split at e
       ·rename_i y s2 hy
        cases hb:gw E.P el with
        |false=>rw[hb]at hy;cases hy
        |true =>
         rw[hb]at hy
         simp only[cond_true]at hy ⊢
         cases hz0:Nat.beq sz 0 with
         |true=>rw[hz0]at hy;cases hy
         |false =>
         rw[hz0]at hy
         simp only[cond_false]at hy ⊢
         split at hy
         ·rename_i l hl;cases hy;cases e;rfl
         ·cases hy
       ·cases e
      case nilslice =>
       cases ds<;>simp only at e ⊢<;>try(cases e;done)
       rename_i el
       cases hb:gw E.P el with
       |false=>rw[hb]at e;cases e
       |true=>rw[hb]at e;cases e;rfl
     case slice el=>simp[aF,hd]at hk
  ·cases e
 case makeInterface ty x=>exact bf rfl e
 case makeFunc fn first cap=>exact bf rfl e
 case slice ty x lo hi mx=>exact bf rfl e
 case fieldAddr ty x f=>exact bf rfl e
 case field ty x f=>exact bf rfl e
 case indexAddr ty x i=>exact bf rfl e
 case index ty x i=>exact bf rfl e
 case lookup ty x k ok=>exact bf rfl e
 case typeAssert x xt ty ok=>exact bf rfl e
 case extract x i=>exact bf rfl e
 case call c =>
  unfold hJ at e ⊢
  split at e
  ·rename_i args ha
   split at e
   ·rename_i b hc
    have hb:b=.len\/b=.cap\/b=.max\/b=.min:=by
     grind [aF]
    rcases hb with rfl|rfl|rfl|rfl<;>simp only[iJ]at e ⊢
    ·split at e
     ·split at e
      ·exact bf KA e
      ·cases e
     ·cases e
    ·split at e
     ·split at e
      ·exact bf rfl e
      ·cases e
     ·cases e
    ·exact bf rfl e
    ·exact bf rfl e
   ·rename_i f hc
    simp[aF,hc]at hk
   ·cases e
  ·cases e
 all_goals (first|(simp[aF]at hk;done)|(exfalso;revert hk;simp[aF]))
theorem AV(acc:List Nat)(k:Nat):∀(l:List Edge) (s:Nat),(l.foldl (fun s e=>bif Region.binds .any e then Nat.lor s (Nat.lor (Nat.pow 2 e.on) (acc.getD e.on 0))else s) s).testBit k=true ↔
 s.testBit k=true\/∃ e∈l,Region.binds .any e=true/\(k=e.on\/(acc.getD e.on 0).testBit k=true)
 |[],s=>by simp
 |e::l,s=>by
  rw[List.foldl_cons,AV acc k l]
  cases hb:Region.binds .any e with
  |false =>
   grind
  |true =>
   simp only[cond_true,List.mem_cons,exists_eq_or_imp,hb,true_and]
   have:(Nat.lor s (Nat.lor (Nat.pow 2 e.on) (acc.getD e.on 0))).testBit k=(s.testBit k||(decide (e.on=k)||(acc.getD e.on 0).testBit k)):=by
    simp_all[Nat.testBit_two_pow]
   grind
theorem GW(o:Oper)(acc:List Nat)(k:Nat):(pQ o acc).testBit k=true↔∃ e∈o.after,Region.binds .any e=true/\(k=e.on\/(acc.getD e.on 0).testBit k=true):=by
 unfold pQ
 rw[AV]
 simp
theorem sZ:∀(l:List Oper) (acc:List Nat),∃ r,jZ l acc=acc++r/\r.length=l.length/\∀ j o,l[j]? = some o->r[j]? = some (pQ o (acc++r.take j))
 |[],acc=>⟨[],by simp[jZ],rfl,fun j o h=>by simp at h⟩
 |o::l,acc=>by
  obtain⟨r,h1,h2,h3⟩:=sZ l (acc++[pQ o acc])
  refine⟨pQ o acc::r,by simp[jZ,h1],by simp[h2],fun j o' hj=>?_⟩
  cases j with
  |zero=>simp at hj;subst hj;simp
  |succ j =>
   grind
def ll(ops:Array Oper)(i k:Nat):Prop:=((jZ ops.toList []).getD i 0).testBit k=true
theorem Nv{ops:Array Oper}{i:Nat}{o:Oper}(ho:ops[i]? = some o):(jZ ops.toList []).getD i 0=pQ o ((jZ ops.toList []).take i):=by
 obtain⟨r,h1,h2,h3⟩:=sZ ops.toList []
 simp_all
def fZ(ops:Array Oper):Prop:=∀ i o,ops[i]? = some o->∀ e∈o.after,Region.binds .any e=true->e.on<i
theorem Ka{l:List Nat}{i j:Nat}(h:j<i):(l.take i).getD j 0=l.getD j 0:=by
 grind
theorem vc{ops:Array Oper}(hE:fZ ops){i k:Nat}{o:Oper}(ho:ops[i]? = some o):ll ops i k↔∃ e∈o.after,Region.binds .any e=true/\(k=e.on\/ll ops e.on k):=by
 unfold ll
 rw[Nv ho,GW]
 constructor
 ·grind
 ·rintro⟨e,h1,h2,h3⟩
  refine⟨e,h1,h2,?_⟩
  rw[Ka (hE i o ho e h1 h2)]
  exact h3
theorem IH{ops:Array Oper}{i k:Nat}(h:ll ops i k):∃ o,ops[i]? = some o:=by
 cases ho:ops[i]? with
 |some o=>exact⟨o,rfl⟩
 |none =>
  exfalso
  unfold ll at h
  obtain⟨r,h1,h2,h3⟩:=sZ ops.toList []
  grind
theorem sS{ops:Array Oper}(hE:fZ ops):∀(i k:Nat),ll ops i k->k<i:=by
 intro i
 induction i using Nat.strongRecOn with
 |ind i ih =>
  intro k h
  obtain⟨o,ho⟩:=IH h
  obtain⟨e,h1,h2,h3⟩:=(vc hE ho).1 h
  have hb:=hE i o ho e h1 h2
  grind
theorem sR{ops:Array Oper}(hE:fZ ops):∀(i k m:Nat),ll ops i k->ll ops k m->ll ops i m:=by
 intro i
 induction i using Nat.strongRecOn with
 |ind i ih =>
  intro k m h hm
  obtain⟨o,ho⟩:=IH h
  obtain⟨e,h1,h2,h3⟩:=(vc hE ho).1 h
  refine(vc hE ho).2 ⟨e,h1,h2,.inr ?_⟩
  rcases h3 with rfl|h3
  ·exact hm
  ·exact ih e.on (hE i o ho e h1 h2) k m h3 hm
theorem wL:∀ {l:List Oper} {i k:Nat} {o:Oper},(k,o)∈cr l i↔i<=k/\l[k - i]? = some o
 |[],i,k,o=>by simp[cr]
 |x::l,i,k,o=>by
  simp only[cr,List.mem_cons,Prod.mk.injEq]
  rw[wL (l:=l) (i:=i+1)]
  grind
theorem dU{ops:Array Oper}{k:Nat}{o:Oper}:(k,o)∈cr ops.toList 0↔ops[k]? = some o:=by
 rw[wL];simp
structure kI(ops:Array Oper):Prop where
 back:fZ ops
 guard:∀(i:Nat) (o:Oper) (g:Nat) (b:Bool),ops[i]? = some o->o.guard=some (g,b)->ll ops i g
 dst:∀(i j:Nat) (o q:Oper) (d:Tmp),ops[i]? = some o->ops[j]? = some q->i≠j->q.dst=some d->o.dst≠some d
 sees:∀(i j:Nat) (o q:Oper) (d:Tmp),ops[i]? = some o->ops[j]? = some q->i≠j->q.dst=some d->d∈sees o->ll ops i j\/ll ops j i
theorem Fi{ops:Array Oper}(h:HD (jZ ops.toList []) (cr ops.toList 0)=true):kI ops:=by
 have key:∀ i o,ops[i]? = some o->_:=fun i o ho=>List.all_eq_true.1 h (i,o) (dU.2 ho)
 refine⟨fun i o ho e he hb=>?_,fun i o g b ho hg=>?_,fun i j o q d ho hq hij hd=>?_,fun i j o q d ho hq hij hd hs=>?_⟩
 ·have:=key i o ho
  simp only[Bool.and_eq_true]at this
  have h2:=List.all_eq_true.1 this.1.1 e (by simpa using he)
  simp_all
 ·have:=key i o ho
  simp only[Bool.and_eq_true]at this
  have h2:=this.1.2
  rw[hg]at h2
  exact h2
 ·have:=key i o ho
  simp only[Bool.and_eq_true]at this
  have h2:=List.all_eq_true.1 this.2 (j,q) (dU.2 hq)
  simp_all
 ·have:=key i o ho
  simp only[Bool.and_eq_true]at this
  have h2:=List.all_eq_true.1 this.2 (j,q) (dU.2 hq)
  have hb:Nat.beq i j=false:=by
   grind [Nat.eq_of_beq_eq_true]
  simp only[hb,hd,Bool.false_or,Bool.and_eq_true]at h2
  have h3:=h2.2
  have hc:(sees o).contains d=true:=by simpa using hs
  rw[hc]at h3
  simp only[Bool.not_true,Bool.false_or,Bool.or_eq_true]at h3
  exact h3
def fU(ops:Array Oper)(R:Nat->Prop):Prop:=∀ i k,R i->ll ops i k->R k
def with1(R:Nat->Prop)(i:Nat):Nat->Prop:=fun k=>R k\/k=i
theorem fU.with1{ops:Array Oper}{R:Nat->Prop}(h:fU ops R){i:Nat}(hi:∀ k,ll ops i k->R k):fU ops (with1 R i):=by
 intro a k ha hk
 rcases ha with ha|rfl
 ·exact .inl (h a k ha hk)
 ·exact .inl (hi k hk)
theorem ED(t:T V)(d:Option Tmp)(v:V)(i:Nat):(putD t d v).get (eQ i)=if d=some i then some v else t.get (eQ i):=NU t d (some v) i
end Go.AI
namespace Go.AI
mutual
theorem wm:∀ {x y:V},aX.sameV x y=true->x=y
 |.bool a,y,h=>by cases y<;>simp[aX.sameV]at h;rw[h]
 |.int j a,y,h=>by cases y<;>simp[aX.sameV]at h;rw[h.1,h.2]
 |.str a,y,h=>by cases y<;>simp[aX.sameV]at h;rw[h]
 |.ptr a,y,h=>by
  cases y<;>simp[aX.sameV]at h
  rename_i b
  obtain⟨⟨h1,h2⟩,h3⟩:=h
  cases a;cases b;simp_all
 |.nilptr,y,h=>by cases y<;>simp[aX.sameV]at h;rfl
 |.slice a z n c sz,y,h=>by
  cases y<;>simp[aX.sameV]at h
  rename_i b y m d sy
  cases a;cases b;simp_all
 |.nilslice,y,h=>by cases y<;>simp[aX.sameV]at h;rfl
 |.map a,y,h=>by cases y<;>simp[aX.sameV]at h;rw[h]
 |.nilmap,y,h=>by cases y<;>simp[aX.sameV]at h;rfl
 |.nilFunc,y,h=>by cases y<;>simp[aX.sameV]at h;rfl
 |.nilIface,y,h=>by cases y<;>simp[aX.sameV]at h;rfl
 |.func f a b,y,h=>by
  cases y<;>simp[aX.sameV]at h
  rename_i g c d
  obtain⟨⟨h1,h2⟩,h3⟩:=h
  rw[h1,cJ h2,cJ h3]
 |.iface t v,y,h=>by
  cases y<;>simp[aX.sameV]at h
  rw[h.1,wm h.2]
 |.agg a,y,h=>by
  cases y<;>simp[aX.sameV]at h
  rw[cJ h]
 |.atom a,y,h=>by cases y<;>simp[aX.sameV]at h;rw[h]
 |.tuple a,y,h=>by
  cases y<;>simp[aX.sameV]at h
  rw[cJ h]
theorem cJ:∀ {x y:List V},aX x y=true->x=y
 |[],y,h=>by cases y<;>simp[aX]at h;rfl
 |v::x,y,h=>by
  cases y with
  |nil=>simp[aX]at h
  |cons u y =>
   simp only[aX,Bool.and_eq_true]at h
   rw[wm h.1,cJ h.2]
end
theorem qR{E:dA}{t:T V}{o:Oper}:∀ {l:List S} {v:V},fu E t o l=some v->∀ s∈l,∃ s1,dg E t s o=some (.val v s1)
 |[],v,h=>by cases h
 |[s],v,h=>fun s' hs=>by
  grind [fu]
 |s::s2::r,v,h=>fun s' hs=>by
  simp only[fu]at h
  split at h
  ·rename_i u s1 hu
   split at h
   ·rename_i y hy
    cases hb:aX [u] [y]with
    |false=>rw[hb]at h;cases h
    |true =>
     rw[hb]at h
     cases h
     have:=cJ hb
     simp at this
     subst this
     rcases List.mem_cons.1 hs with rfl|hs
     ·grind
     ·exact qR hy s' hs
   ·cases h
  ·cases h
theorem Ht{E:dA}{rec:ig}{t:T V}{s:S}{o:Oper}{b:Option Bool}{v:V}{s':S}:gB E rec t s o b=some (.val v s')↔iU E rec t s o b=some (v,s'):=by
 cases b with
 |none=>simp[gB,iU]
 |some b=>cases b with
  |false=>simp[gB,iU]
  |true =>
   simp only[gB,iU]
   cases dg E t s o with
   |none=>simp[jy,py]
   |some x=>cases x with
    |enter f args s1 =>
     simp only[jy,py]
     cases rec f args none s1 with
     |none=>simp[me,ym]
     |some out=>obtain⟨e,u,s2⟩:=out;cases e<;>simp[me,ym]
    |_=>simp[jy,py]
structure Ev where
 i:Nat
 o:Oper
 v:V
 t:T V
 a:S
 b:S
section
variable(E:dA)(rec:ig)(ops:Array Oper)(t0:T V)(s0:S)
def jG(o:Oper):Prop:=aF E.P o.op=3
def bV:List Ev->S
 |[]=>s0
 |e::_=>e.b
def JW:List Ev->Prop
 |[]=>True
 |e::_=>jG E e.o
def ot(Y:List Ev)(t:T V):Prop:=∀ d,(∃ q∈Y,q.o.dst=some d/\t.get (eQ d)=some q.v)\/((∀ q∈Y,q.o.dst≠some d)/\t.get (eQ d)=t0.get (eQ d))
def UU(Y:List Ev)(e:Ev):Prop :=
 (aF E.P e.o.op=0/\e.b=e.a/\∃ s1,dg E e.t e.a e.o=some (.val e.v s1)) \/
 (aF E.P e.o.op=1/\e.b=e.a/\∀ Z F,Y=Z++F->JW E F->(∀ q∈Z,jG E q.o->¬ ll ops e.i q.i)->∃ s1,dg E e.t (bV s0 F) e.o=some (.val e.v s1)) \/
 (aF E.P e.o.op=2/\dg E e.t e.a e.o=some (.val e.v e.b))
def OT(Y:List Ev)(e:Ev):Prop :=
 (¬ jG E e.o/\((bC ops e.t e.o=some false/\e.v=V.undef/\e.b=e.a)\/(bC ops e.t e.o=some true/\UU E ops s0 Y e))) \/
 (jG E e.o/\iU E rec e.t e.a e.o (bC ops e.t e.o)=some (e.v,e.b)/\e.a.next<=e.b.next/\∀ q∈Y,ll ops e.i q.i)
structure Dv(Y:List Ev)(e:Ev):Prop where
 op:ops[e.i]? = some e.o
 pre:∀ k,ll ops e.i k->∃ q∈Y,q.i=k
 new:∀ q∈Y,q.i≠e.i
 slots:ot t0 Y e.t
 st:e.a=bV s0 Y
 step:OT E rec ops s0 Y e
def dR:List Ev->Prop
 |[]=>True
 |e::Y=>Dv E rec ops t0 s0 Y e/\dR Y
def dH(n:Nat):List Ev->List (Nat×S)
 |[]=>[(n,s0)]
 |e::Y=>if aF E.P e.o.op=3 then(e.i,e.b)::dH n Y else dH n Y
end
section
variable{E:dA}{rec:ig}{ops:Array Oper}{t0:T V}{s0:S}
theorem ot.put{Y:List Ev}{t:T V}(h:ot t0 Y t)(e:Ev):ot t0 (e::Y) (putD t e.o.dst e.v):=by
 intro d
 rw[ED]
 by_cases hd:e.o.dst=some d
 ·grind
 ·rw[if_neg hd]
  rcases h d with⟨q,h1,h2,h3⟩|⟨h1,h2⟩
  ·grind
  grind
theorem xB{m n:Nat}:∀ {Z F:List Ev},JW E F->(∀ q∈Z,jG E q.o->¬ m.testBit q.i=true)->bV s0 F∈nK m (dH E s0 n (Z++F))
 |[],[],_,_=>by simp[dH,nK,bV]
 |[],e::F,h,_=>by
  have h:aF E.P e.o.op=3:=h
  simp[dH,h,nK,bV]
 |z::Z,F,h,hz=>by
  have ih:=xB (n:=n) (Z:=Z) h (fun q hq=>hz q (List.mem_cons_of_mem _ hq))
  simp only[List.cons_append,dH]
  split
  ·rename_i hk
   have:=hz z (by simp) hk
   grind [nK]
  ·exact ih
theorem CD{ms:List Nat}(hms:ms=jZ ops.toList []){Y:List Ev}{t:T V}{s:S}{i n:Nat}{o:Oper}{v:V}{s':S}(hk:¬ jG E o)
 (hs:s=bV s0 Y) (e:je E (dH E s0 n Y) (ms.getD i 0) t s o (bC ops t o)=some (v,s')):OT E rec ops s0 Y ⟨i,o,v,t,s,s'⟩:=by
 left
 refine⟨hk,?_⟩
 unfold je at e
 split at e
 ·rename_i hw
  right
  refine⟨hw,?_⟩
  unfold CE at e
  split at e
  ·rename_i hk0
   left
   unfold qA at e
   split at e
   ·rename_i u s1 hu;cases e;exact⟨hk0,rfl,s1,hu⟩
   ·cases e
  ·rename_i hk1
   right;left
   unfold qQ at e
   split at e
   ·rename_i u hu
    cases e
    refine⟨hk1,rfl,fun Z F hY hF hZ=>?_⟩
    subst hY
    refine qR hu _ (xB hF fun q hq ha hb=>hZ q hq ha ?_)
    subst hms
    exact hb
   ·cases e
  ·rename_i hk2
   right;right
   unfold uQ at e
   split at e
   ·rename_i u s1 hu;cases e;exact⟨hk2,hu⟩
   ·cases e
  ·cases e
 ·rename_i hw
  cases e
  exact .inl ⟨hw,rfl,rfl⟩
 ·cases e
theorem gh(d i k:Nat):(Nat.lor d (Nat.pow 2 i)).testBit k=(d.testBit k||decide (i=k)):=by
 simp_all[Nat.testBit_two_pow]
def tY(done:Nat)(Y:List Ev):Prop:=∀ k,done.testBit k=true↔∃ q∈Y,q.i=k
theorem tY.cons{done:Nat}{Y:List Ev}(h:tY done Y)(e:Ev):tY (Nat.lor done (Nat.pow 2 e.i)) (e::Y):=by
 intro k
 rw[gh,Bool.or_eq_true,h k]
 grind
structure St(E:dA)(rec:ig)(ops:Array Oper)(t0:T V)(s0:S)(Y:List Ev)(done:Nat)(t:T V)(s:S):Prop where
 run:dR E rec ops t0 s0 Y
 done:tY done Y
 slots:ot t0 Y t
 st:s=bV s0 Y
theorem kG{n:Nat}:∀ {Z Y:List Ev},(∀ q∈Z,¬ jG E q.o)->dH E s0 n (Z++Y)=dH E s0 n Y
 |[],_,_=>rfl
 |z::Z,Y,h=>by
  have hz:¬ aF E.P z.o.op=3:=h z (by simp)
  simp_all[dH,kG,List.mem_cons_of_mem]
theorem nj(hE:fZ ops){ms:List Nat}(hms:ms=jZ ops.toList []){effs:Nat}(heffs:∀ i o,ops[i]? = some o->jG E o->effs.testBit i=true){m n:Nat}(hm:∀ i k,m.testBit i=true->ll ops i k->m.testBit k=true){Y0:List Ev} :
 ∀(l:List Oper) (i:Nat),ops.toList.drop i=l->∀(Y:List Ev) (done:Nat) (t:T V) (s:S),St E rec ops t0 s0 Y done t s->dH E s0 n Y=dH E s0 n Y0->(∀ k,k<i->m.testBit k=true->done.testBit k=true) ->
  ∀ done' t' s',bW E ops ms effs (dH E s0 n Y0) m (cr l i) done t s=some (done',t',s') ->
   ∃ Z,St E rec ops t0 s0 (Z++Y) done' t' s'/\(∀ q∈Z,¬ jG E q.o/\m.testBit q.i=true)/\∀ k,k<ops.size->m.testBit k=true->done'.testBit k=true
 |[],i,hl,Y,done,t,s,hS,hh,hd,done',t',s',e=>by
  simp only[cr,bW,Option.some.injEq,Prod.mk.injEq]at e
  obtain⟨rfl,rfl,rfl⟩:=e
  refine⟨[],hS,by simp,fun k hk hb=>hd k ?_ hb⟩
  have:=List.drop_eq_nil_iff.1 hl
  grind
 |o::l,i,hl,Y,done,t,s,hS,hh,hd,done',t',s',e=>by
  have ho:ops[i]? = some o:=by
   have:(ops.toList.drop i)[0]? = some o:=by rw[hl];rfl
   grind
  have hl':ops.toList.drop (i+1)=l:=by
   grind [List.tail_drop]
  simp only[cr,bW]at e
  cases hb:(!(m.testBit i)||done.testBit i)with
  |true =>
   rw[hb]at e
   simp only[cond_true]at e
   refine nj hE hms heffs hm l (i+1) hl' Y done t s hS hh (fun k hk hkb=>?_) done' t' s' e
   grind
  |false =>
   rw[hb]at e
   simp only[cond_false]at e
   simp only[Bool.or_eq_false_iff,Bool.not_eq_false']at hb
   cases hf:effs.testBit i with
   |true=>rw[hf]at e;cases e
   |false =>
    rw[hf]at e
    simp only[cond_false]at e
    have hk:¬ jG E o:=fun h=>by have:=heffs i o ho h;rw[hf]at this;cases this
    split at e
    ·rename_i v s1 hfl
     rw[cg]at e
     have hev:Dv E rec ops t0 s0 Y ⟨i,o,v,t,s,s1⟩:=by
      refine⟨ho,fun k hk=>(hS.done k).1 (hd k (sS hE i k hk) (hm i k hb.1 hk)),fun q hq hqi=>?_,hS.slots,hS.st,?_⟩
      ·have:=(hS.done i).2 ⟨q,hq,hqi⟩
       grind
      ·rw[<- hh]at hfl
       exact CD hms hk hS.st hfl
     have hS':St E rec ops t0 s0 (⟨i,o,v,t,s,s1⟩::Y) (Nat.lor done (Nat.pow 2 i)) (putD t o.dst v) s1:=⟨⟨hev,hS.run⟩,hS.done.cons ⟨i,o,v,t,s,s1⟩,hS.slots.put ⟨i,o,v,t,s,s1⟩,rfl⟩
     have hhist:dH E s0 n (⟨i,o,v,t,s,s1⟩::Y)=dH E s0 n Y0:=by
      have hk':¬ aF E.P o.op=3:=hk
      grind [dH]
     obtain⟨Z,h1,h2,h3⟩:=nj hE hms heffs hm l (i+1) hl' _ _ _ _ hS' hhist (fun k hk' hkb=>by
      rw[gh]
      by_cases hki:i=k
      ·simp[hki]
      ·rw[hd k (by omega) hkb];rfl) done' t' s' e
     refine⟨Z++[⟨i,o,v,t,s,s1⟩],by simpa using h1,fun q hq=>?_,h3⟩
     grind
    ·cases e
def UW(ops:Array Oper):List Ev->Prop
 |[]=>True
 |e::Y=>∀ q∈Y,ll ops e.i q.i
theorem dR.at:∀ {X:List Ev} {e:Ev} {Y:List Ev},dR E rec ops t0 s0 (X++e::Y)->Dv E rec ops t0 s0 Y e/\dR E rec ops t0 s0 Y
 |[],_,_,h=>h
 |_::_,_,_,h=>dR.at h.2
def OV(E:dA)(rec:ig)(ops:Array Oper)(t0:T V)(s0:S)(ds:List eD)(up:Option Md)(r:jL):Prop :=
 ∃(i:Nat) (o:Oper) (Z Y:List Ev) (done:Nat) (t1:T V) (c:List Du) (s2:S),
  r=.panicked c (dL done (cr ops.toList 0) t1) ds up s2/\ops[i]? = some o/\jG E o/\dR E rec ops t0 s0 (Z++Y)/\tY done Y/\ot t0 Y t1 /\
  gB E rec t1 (bV s0 Y) o (bC ops t1 o)=some (.pan c s2)/\(∀ q∈Y,ll ops i q.i)/\(∀ k,ll ops i k->∃ q∈Y,q.i=k)/\(∀ q∈Z,¬ jG E q.o)/\(∀ q∈Z++Y,q.i≠i) /\
  ∀ k,k<ops.size->k≠i->¬ ll ops k i->∃ q∈Z++Y,q.i=k
theorem lW{ms:List Nat}{i k:Nat}:∀ {l:List (Nat×Oper)},(dJ ms i l).testBit k=true↔(∃ x∈l,x.1=k)/\(ms.getD k 0).testBit i=false/\k≠i
 |[]=>by simp[dJ]
 |(a,o)::r=>by
  simp only[dJ]
  have ih:=lW (ms:=ms) (i:=i) (k:=k) (l:=r)
  cases hb:((ms.getD a 0).testBit i||Nat.beq a i)with
  |true =>
   simp only[cond_true]
   rw[ih]
   constructor
   ·rintro⟨⟨x,h1,h2⟩,h3⟩
    exact⟨⟨x,List.mem_cons_of_mem _ h1,h2⟩,h3⟩
   ·rintro⟨⟨x,h1,h2⟩,h3,h4⟩
    rcases List.mem_cons.1 h1 with rfl|h1
    ·exfalso
     simp only at h2
     subst h2
     simp only[Bool.or_eq_true]at hb
     rcases hb with hb|hb
     ·rw[h3]at hb;cases hb
     ·exact h4 (Nat.eq_of_beq_eq_true hb)
    ·exact⟨⟨x,h1,h2⟩,h3,h4⟩
  |false =>
   simp only[cond_false]
   have hor:(Nat.lor (Nat.pow 2 a) (dJ ms i r)).testBit k=(decide (a=k)||(dJ ms i r).testBit k):=by
    show(2 ^ a ||| dJ ms i r).testBit k=_
    rw[Nat.testBit_or,Nat.testBit_two_pow]
   rw[hor,Bool.or_eq_true,ih]
   simp only[Bool.or_eq_false_iff]at hb
   constructor
   ·rintro(h|⟨⟨x,h1,h2⟩,h3⟩)
    ·have h:a=k:=by simpa using h
     subst h
     refine⟨⟨(a,o),by simp,rfl⟩,hb.1,fun h=>?_⟩
     have h2:=hb.2
     rw[h,Nat.beq_refl]at h2;cases h2
    ·exact⟨⟨x,List.mem_cons_of_mem _ h1,h2⟩,h3⟩
   ·rintro⟨⟨x,h1,h2⟩,h3⟩
    rcases List.mem_cons.1 h1 with rfl|h1
    ·exact .inl (by simpa using h2)
    ·exact .inr ⟨⟨x,h1,h2⟩,h3⟩
theorem Jr(hE:fZ ops){ms:List Nat}(hms:ms=jZ ops.toList []){effs n:Nat}(heffs:∀ i o,ops[i]? = some o->jG E o->effs.testBit i=true){ds:List eD}{up:Option Md} :
 ∀(es:List (Nat×Oper)),(∀ x∈es,ops[x.1]? = some x.2/\jG E x.2)->Bg ms (es.map (·.1))=true->∀(Y:List Ev) (done:Nat) (t:T V) (s:S),St E rec ops t0 s0 Y done t s->JW E Y->UW ops Y ->
  (∀ e Y' x r,Y=e::Y'->es=x::r->ll ops x.1 e.i)->∀ r,gj E ops ms effs (cr ops.toList 0) rec ds up es (dH E s0 n Y) done t s=some r ->
   (∃ L t' s',r=.on t' ds up s'/\dR E rec ops t0 s0 L/\ot t0 L t'/\s'=bV s0 L/\∀ k,k<ops.size->∃ q∈L,q.i=k)\/OV E rec ops t0 s0 ds up r
 |[],hes,hef,Y,done,t,s,hS,hF,hB,hP,r,e=>by
  simp only[gj]at e
  split at e
  ·rename_i d1 t1 s1 hp
   cases e
   have hbits:∀ k,(Nat.pow 2 ops.size - 1).testBit k=decide (k<ops.size):=fun k=>by
    show(2 ^ ops.size - 1).testBit k=_
    rw[Nat.testBit_two_pow_sub_one]
   obtain⟨Z,h1,h2,h3⟩:=nj hE hms heffs (m:=Nat.pow 2 ops.size - 1) (n:=n) (fun i k hi hk=>by
    rw[hbits]at hi ⊢
    have:=sS hE i k hk
    simp at hi ⊢;omega) ops.toList 0 rfl Y done t s hS rfl (fun k hk=>absurd hk (Nat.not_lt_zero _)) _ _ _ hp
   refine .inl ⟨_,t1,s1,rfl,h1.run,h1.slots,h1.st,fun k hk=>(h1.done k).1 (h3 k hk ?_)⟩
   rw[hbits];simpa using hk
  ·cases e
 |(i,o)::r',hes,hef,Y,done,t,s,hS,hF,hB,hP,r,e=>by
  simp only[gj]at e
  obtain⟨ho,hk⟩:=hes (i,o) (by simp)
  simp only at ho hk
  have hpre:∀ k,(ms.getD i 0).testBit k=true↔ll ops i k:=fun k=>by subst hms;rfl
  split at e
  ·rename_i d1 t1 s1 hp
   obtain⟨Z,h1,h2,h3⟩:=nj hE hms heffs (m:=ms.getD i 0) (n:=n) (fun a k ha hk=>by
    rw[hpre]at ha ⊢
    exact sR hE i a k ha hk) ops.toList 0 rfl Y done t s hS rfl (fun k hk=>absurd hk (Nat.not_lt_zero _)) _ _ _ hp
   have hall:∀ q∈Z++Y,ll ops i q.i:=by
    intro q hq
    rcases List.mem_append.1 hq with hq|hq
    ·exact(hpre _).1 (h2 q hq).2
    ·cases Y with
     |nil=>cases hq
     |cons e0 Y' =>
      have h0:=hP e0 Y' (i,o) r' rfl rfl
      rcases List.mem_cons.1 hq with rfl|hq
      ·exact h0
      ·exact sR hE i e0.i q.i h0 (hB q hq)
   have hisz:i<ops.size:=by
    rcases Nat.lt_or_ge i ops.size with h|h
    ·exact h
    ·rw[Array.getElem?_eq_none h]at ho;cases ho
   split at e
   ·rename_i v s2 hst0
    have hst:=Ht.1 hst0
    cases hc:(Nat.ble s1.next s2.next&&!(d1.testBit i)&&effs.testBit i)with
    |false=>rw[hc]at e;cases e
    |true =>
     rw[hc]at e
     simp only[cond_true]at e
     rw[cg]at e
     simp only[Bool.and_eq_true,Bool.not_eq_true']at hc
     have hev:Dv E rec ops t0 s0 (Z++Y) ⟨i,o,v,t1,s1,s2⟩:=by
      refine⟨ho,fun k hk=>(h1.done k).1 (h3 k ?_ ((hpre k).2 hk)),fun q hq hqi=>?_,h1.slots,h1.st,.inr ⟨hk,hst,Nat.le_of_ble_eq_true hc.1.1,hall⟩⟩
      ·have:=sS hE i k hk
       have:i<ops.size:=by
        rcases Nat.lt_or_ge i ops.size with h|h
        ·exact h
        ·rw[Array.getElem?_eq_none h]at ho;cases ho
       omega
      ·have:=(h1.done i).2 ⟨q,hq,hqi⟩
       rw[hc.1.2]at this;cases this
     have hhist:dH E s0 n (⟨i,o,v,t1,s1,s2⟩::(Z++Y))=(i,s2)::dH E s0 n Y:=by
      have hk':aF E.P o.op=3:=hk
      simp only[dH,if_pos hk']
      rw[kG fun q hq=>(h2 q hq).1]
     rw[<- hhist]at e
     refine Jr hE hms heffs r' (fun x hx=>hes x (List.mem_cons_of_mem _ hx)) ?_ (⟨i,o,v,t1,s1,s2⟩::(Z++Y)) _ _ _ ⟨⟨hev,h1.run⟩,h1.done.cons ⟨i,o,v,t1,s1,s2⟩,h1.slots.put ⟨i,o,v,t1,s1,s2⟩,rfl⟩ hk hall ?_ r e
     ·cases r' with
      |nil=>rfl
      |cons x r'' =>
       simp only[List.map_cons,Bg,Bool.and_eq_true]at hef
       exact hef.2
     ·intro e1 Y1 x r1 hY hr
      cases hY;subst hr
      simp only[List.map_cons,Bg,Bool.and_eq_true]at hef
      have:=hef.1
      subst hms
      exact this
   ·rename_i c s2 hst
    cases hdi:d1.testBit i with
    |true=>rw[hdi]at e;cases e
    |false =>
     rw[hdi]at e
     simp only[cond_false]at e
     cases hph:bW E ops ms effs (dH E s0 n Y) (dJ ms i (cr ops.toList 0)) (cr ops.toList 0) d1 t1 s1 with
     |none=>rw[hph]at e;cases e
     |some x =>
      rw[hph]at e
      obtain⟨d2,t2,s3⟩:=x
      simp only[IM,Option.some.injEq]at e
      have hfm:∀ k,(dJ ms i (cr ops.toList 0)).testBit k=true↔(∃ x∈cr ops.toList 0,x.1=k)/\¬ ll ops k i/\k≠i:=fun k=>by
       rw[lW]
       have:(ms.getD k 0).testBit i=false↔¬ ll ops k i:=by
        rw[<- Bool.not_eq_true];subst hms;exact Iff.rfl
       rw[this]
      have hh1:dH E s0 n (Z++Y)=dH E s0 n Y:=kG fun q hq=>(h2 q hq).1
      obtain⟨Z2,g1,g2,g3⟩:=nj hE hms heffs (m:=dJ ms i (cr ops.toList 0)) (n:=n) (Y0:=Y) (fun a k ha hk=>by
       rw[hfm]at ha ⊢
       obtain⟨⟨x,x1,x2⟩,p1,p2⟩:=ha
       have hka:=sS hE a k hk
       refine⟨?_,fun hki=>p1 (sR hE a k i hk hki),fun hki=>p1 (by rw[<- hki];exact hk)⟩
       have hxa:ops[a]? = some x.2:=by rw[<- x2];exact dU.1 x1
       have:a<ops.size:=by
        rcases Nat.lt_or_ge a ops.size with h|h
        ·exact h
        ·rw[Array.getElem?_eq_none h]at hxa;cases hxa
       exact⟨(k,ops[k]'(by omega)),dU.2 (by simp),rfl⟩) ops.toList 0 rfl (Z++Y) d1 t1 s1 h1 hh1 (fun k hk=>absurd hk (Nat.not_lt_zero _)) _ _ _ hph
      refine .inr ⟨i,o,Z2,Z++Y,d1,t1,c,s2,e.symm,ho,hk,g1.run,h1.done,h1.slots,by rw[<- h1.st];exact hst,hall,fun k hk=>(h1.done k).1 (h3 k ?_ ((hpre k).2 hk)),fun q hq=>(g2 q hq).1,fun q hq=>?_,fun k hks hki hp=>?_⟩
      ·have:=sS hE i k hk
       omega
      ·rcases List.mem_append.1 hq with hq|hq
       ·exact((hfm _).1 (g2 q hq).2).2.2
       ·have:=sS hE i q.i (hall q hq)
        omega
      ·refine(g1.done k).1 (g3 k hks ((hfm k).2 ⟨⟨(k,ops[k]'hks),dU.2 (by simp[hks]),rfl⟩,hp,hki⟩))
   ·cases e
  ·cases e
theorem xE(k:Nat):∀(es:List (Nat×Oper)) (s:Nat),(es.foldl (fun s x=>Nat.lor s (Nat.pow 2 x.1)) s).testBit k=true↔s.testBit k=true\/∃ x∈es,x.1=k
 |[],s=>by simp
 |x::es,s=>by
  rw[List.foldl_cons,xE k es,gh]
  grind
theorem CP{t:T V}{ds:List eD}{up:Option Md}{s:S}{recR:zM}{r:jL}(e:ip E ops rec recR t ds up s=some r) :
 kI ops/\((∃ L t' s',r=.on t' ds up s'/\dR E rec ops t s L/\ot t L t'/\s'=bV s L/\∀ k,k<ops.size->∃ q∈L,q.i=k)\/OV E rec ops t s ds up r):=by
 unfold ip at e
 split at e
 ·rename_i ms l es mask hp
  simp only[MW]at hp
  cases hc:(HD (jZ ops.toList []) (cr ops.toList 0)&&Bg (jZ ops.toList []) ((rM E.P (cr ops.toList 0)).map (·.1)))with
  |false=>rw[hc]at hp;cases hp
  |true =>
   rw[hc]at hp
   simp only[cond_true,Option.some.injEq,WE.mk.injEq]at hp
   obtain⟨rfl,rfl,rfl,rfl⟩:=hp
   simp only[Bool.and_eq_true]at hc
   have hD:=Fi hc.1
   refine⟨hD,?_⟩
   refine Jr (n:=ops.size) hD.back rfl (fun i o ho hk=>?_) _ (fun x hx=>?_) hc.2 [] 0 t s ⟨trivial,fun k=>by simp,fun d=>.inr ⟨by simp,rfl⟩,rfl⟩ trivial trivial (fun e Y' x r h=>by cases h) r e
   ·rw[xE]
    refine .inr ⟨(i,o),?_,rfl⟩
    unfold rM
    rw[List.mem_filter]
    have hk:aF E.P o.op=3:=hk
    exact⟨dU.2 ho,by simp[hk]⟩
   ·unfold rM at hx
    rw[List.mem_filter]at hx
    obtain⟨x1,x2⟩:=x
    exact⟨dU.1 hx.1,by have h:=hx.2;simp at h;exact h⟩
 ·cases e
end
end Go.AI
namespace Go.AI
def aD.to(ρ:aD)(n:Nat):aD:=fun f v=>if f<n then ρ f v else none
theorem aD.to_le(ρ:aD){n m:Nat}(h:n<=m):(ρ.to n).le (ρ.to m):=fun f v l e=>by
 grind [aD.to]
theorem aD.to_le_self(ρ:aD)(n:Nat):(ρ.to n).le ρ:=fun f v l e=>by
 grind [aD.to]
theorem aD.to_mono{ρ ρ':aD}(h:ρ.le ρ')(n:Nat):(ρ.to n).le (ρ'.to n):=fun f v l e=>by
 unfold aD.to at e ⊢
 split at e
 ·rename_i hf;rw[if_pos hf];exact h _ _ _ e
 ·cases e
theorem aD.to_lt{ρ:aD}{n f v:Nat}{l:zg}(e:ρ.to n f v=some l):f<n/\ρ f v=some l:=by
 grind [aD.to]
theorem aD.to_of{ρ:aD}{n f v:Nat}(h:f<n):ρ.to n f v=ρ f v:=by unfold aD.to;rw[if_pos h]
theorem aD.to_ge{ρ:aD}{n f v:Nat}(h:n<=f):ρ.to n f v=none:=by unfold aD.to;rw[if_neg (by omega)]
theorem aD.to_all{ρ:aD}{n:Nat}(h:∀ f v,n<=f->ρ f v=none):ρ.to n=ρ:=by
 grind [aD.to_of,aD.to_ge]
theorem HR.frame{ρ:aD}{s:S}{w w':World}(h:HR ρ s w)(hs:w.heap.size<=w'.heap.size)(hh:∀ b,b<w.heap.size->w'.heap[b]? = w.heap[b]?):HR ρ s w' :=
 ⟨h.fresh,h.inj,fun f v l e=>Nat.lt_of_lt_of_le (h.low f v l e) hs,fun f B hB=>(h.blk f B hB).keep ρ.le_refl (fun _ hv=>hv) (fun v l e=>hh _ (h.low _ _ _ e)),h.dom,h.rw⟩
def WT(ρ:aD):Prop:=∀ f v l f' v' l',ρ f v=some l->ρ f' v'=some l'->l.b=l'.b->f=f'/\l.base=l'.base
def WS(ρ:aD)(w:World):Prop:=∀ f v l,ρ f v=some l->l.b<w.heap.size
theorem HR.widen{ρ:aD}{s:S}{w:World}{n:Nat}(h:HR (ρ.to s.next) s w)(hi:WT ρ)(hl:WS ρ w)(hn:s.next<=n):HR (ρ.to n) ⟨s.h,n⟩ w:=by
 refine⟨fun f v hf=>aD.to_ge hf,fun f v l f' v' l' e e'=>hi _ _ _ _ _ _ (aD.to_lt e).2 (aD.to_lt e').2,fun f v l e=>hl _ _ _ (aD.to_lt e).2,fun f B hB=>?_,fun f B hB=>Nat.lt_of_lt_of_le (h.dom f B (by rw[S.get_eq]at hB ⊢;exact hB)) hn,fun f B hB hnr v l hl=>?_⟩
 rotate_left
 ·have hB':s.get f=some B:=by rw[S.get_eq]at hB ⊢;exact hB
  exact h.rw f B hB' hnr v l (by rw[aD.to_of (h.dom f B hB')];exact(aD.to_lt hl).2)
 have hB':s.get f=some B:=by rw[S.get_eq]at hB ⊢;exact hB
 have hf:=h.dom f B hB'
 refine(h.blk f B hB').keep (aD.to_le ρ hn) (fun v hv=>?_) (fun _ _ _=>rfl)
 grind [aD.to_of]
theorem HR.bare{ρ:aD}{w:World}{n:Nat}(hi:WT ρ)(hl:WS ρ w):HR (ρ.to n) ⟨.leaf,n⟩ w :=
 ⟨fun f v hf=>aD.to_ge hf,fun f v l f' v' l' e e'=>hi _ _ _ _ _ _ (aD.to_lt e).2 (aD.to_lt e').2,fun f v l e=>hl _ _ _ (aD.to_lt e).2,fun f B hB=>by(rw[S.get_eq,T.get_leaf]at hB;cases hB),fun f B hB=>by(rw[S.get_eq,T.get_leaf]at hB;cases hB),fun f B hB=>by(rw[S.get_eq,T.get_leaf]at hB;cases hB)⟩
theorem ck{s s':S}{x:Option V}{v:V}{s1:S}(e:bv s x=some (.val v s1)):bv s' x=some (.val v s'):=by
 cases x with
 |none=>cases e
 |some u=>cases e;rfl
theorem KS{E:dA}{t:T V}{s:S}(s':S)(o:Oper)(hk:aF E.P o.op=0){v:V}{s1:S}(e:dg E t s o=some (.val v s1)):dg E t s' o=some (.val v s'):=by
 obtain⟨dst,op,type,pos,after,guard⟩:=o
 unfold dg at e ⊢
 simp only at e hk ⊢
 cases op<;>simp only[cy]at e ⊢<;>try(cases e;done)
 case move x=>exact ck e
 case assign x=>exact ck e
 case pick c a b =>
  unfold mf at e ⊢
  split at e
  ·exact ck e
  ·cases e
 case build ty parts=>exact ck e
 case nilCheck x=>exact ck e
 case binOp op ty x y z =>
  have hq:lU op=false:=by
   grind [aF]
  unfold dX at e ⊢
  cases hx:eval t x with
  |none=>rw[hx]at e;cases e
  |some a =>
   cases hy:eval t y with
   |none=>rw[hx,hy]at e;cases e
   |some b =>
    rw[hx,hy]at e
    simp only at e ⊢
    cases hg:eL E.P op ty x y a b with
    |false=>rw[hg]at e;cases e
    |true =>
     rw[hg]at e
     simp only[cond_true]at e ⊢
     have:∀ ok ok',eA E.P ok op ty a b=eA E.P ok' op ty a b:=by
      intro ok ok'
      unfold eA
      grind [lU]
     rw[this (br s') (br s)]
     exact ck e
 case unOp op ty x=>exact ck e
 case convert src dst x =>
  unfold gE at e ⊢
  split at e
  ·rename_i x' hx'
   unfold iE at e ⊢
   unfold jB at e ⊢
   cases hs:E.P.underlying src with
   |none=>simp[hs]at e
   |some ds =>
    cases hd:E.P.underlying dst with
    |none=>simp[hs,hd]at e
    |some dd =>
     simp only[hs,hd]at e ⊢
     cases dd<;>simp only at e ⊢<;>try(cases e;done)
     case int k=>cases x'<;>simp only at e ⊢<;>first|(cases e;done)|(cases e;rfl)
     case string=>simp[aF,hd]at hk
     case slice el=>simp[aF,hd]at hk
  ·cases e
 case makeInterface ty x=>exact ck e
 case makeFunc fn first cap=>exact ck e
 case slice ty x lo hi mx=>exact ck e
 case fieldAddr ty x f=>exact ck e
 case field ty x f=>exact ck e
 case indexAddr ty x i=>exact ck e
 case index ty x i=>exact ck e
 case typeAssert x xt ty ok=>exact ck e
 case extract x i=>exact ck e
 case call c =>
  simp only[aF]at hk
  split at hk<;>cases hk
 all_goals (first|(simp[aF]at hk;done)|(exfalso;revert hk;simp[aF]))
def only(t:T V):List Tmp->T V
 |[]=>.leaf
 |d::r=>(only t r).set (t.get (eQ d)) (eQ d)
theorem nu(t:T V):∀(l:List Tmp) (d:Tmp),(only t l).get (eQ d)=if d∈l then t.get (eQ d)else none
 |[],d=>by simp[only,T.get_leaf]
 |x::r,d=>by
  simp only[only]
  rw[T.get_setN,nu t r d]
  grind
def oL(ops:Array Oper)(o:Oper):List Tmp:=match o.guard with
 |some (j,_)=>((ops[j]?).bind (·.dst)).toList
 |none=>[]
def looks(ops:Array Oper)(o:Oper):List Tmp:=sees o++oL ops o
theorem Km{t:T V}{ops:Array Oper}{o:Oper}{x:Operand}(hx:x∈o.op.operands):eval t x=eval (only t (looks ops o)) x:=by
 cases x with
 |tmp d =>
  simp only[eval]
  rw[nu,if_pos]
  unfold looks sees
  refine List.mem_append.2 (.inl ?_)
  rw[List.mem_filterMap]
  exact⟨.tmp d,by simpa using hx,rfl⟩
 |const v=>rfl
 |global g=>rfl
 |func f=>rfl
theorem jc{E:dA}{ops:Array Oper}{t:T V}{s:S}{o:Oper}:dg E (only t (looks ops o)) s o=dg E t s o :=
 (Hu o fun _ hx=>Km hx).symm
theorem jV{ops:Array Oper}{t:T V}{o:Oper}:bC ops (only t (looks ops o)) o=bC ops t o:=by
 grind [bC,nu,looks,oL]
theorem yM{α:Type}{c:Bool}{x:Option α}{y:α}(h:(bif c then x else none)=some y):x=some y:=by cases c<;>first|(cases h;done)|exact h
theorem Hv{E:dA}{t:T V}{s:S}(o:Oper)(hk:aF E.P o.op=2){v:V}{s1:S}(e:dg E t s o=some (.val v s1)):∃ B,s1=s.alloc B:=by
 obtain⟨dst,op,type,pos,after,guard⟩:=o
 unfold dg at e
 simp only at e hk
 cases op<;>simp only[cy]at e<;>try(cases e;done)
 case alloc elem =>
  unfold iX pj ba aY at e
  split at e
  ·cases e;exact⟨_,rfl⟩
  ·cases e
 case box elem x =>
  unfold rT pj ba aY at e
  split at e
  ·cases e;exact⟨_,rfl⟩
  ·cases e
 case buildSlice ty len parts =>
  unfold bD at e
  split at e
  ·split at e
   ·split at e
    ·split at e
     ·have e:=yM e
      unfold jk ba aY at e
      split at e
      ·cases e;exact⟨_,rfl⟩
      ·cases e
     ·cases e
    ·cases e
   ·cases e
  ·cases e
 case makeMap ty r =>
  cases r with
  |none=>cases e;exact⟨_,rfl⟩
  |some _=>cases e
 case makeSlice ty l c =>
  unfold eo ba aY at e
  split at e
  ·split at e
   ·split at e
    ·split at e
     ·split at e
      ·have e:=yM e
       cases e;exact⟨_,rfl⟩
      ·cases e
     ·cases e
    ·cases e
   ·cases e
  ·cases e
 case convert src dst x =>
  unfold gE iE jB at e
  split at e
  ·rename_i x' hx'
   cases hd:E.P.underlying dst with
   |none=>simp[aF,hd]at hk
   |some d =>
    cases d<;>simp[aF,hd]at hk
    cases hs:E.P.underlying src with
    |none=>simp[hs]at e
    |some ds =>
     simp only[hs,hd]at e
     cases x'<;>simp only[oA]at e<;>try(cases e;done)
     cases ds<;>simp only[aY]at e<;>try(cases e;done)
     split at e
     ·rename_i hh
      have hh:=yM hh
      cases hh;cases e;exact⟨_,rfl⟩
     ·cases e
  ·cases e
 case binOp op ty x y z=>simp only[aF]at hk;cases hb:lU op<;>simp[hb]at hk
 case call c=>simp only[aF]at hk;split at hk<;>simp at hk
 all_goals simp[aF]at hk
section
variable{E:dA}{rec:ig}{ops:Array Oper}{t0:T V}{s0:S}
theorem Dv.next_le{Y:List Ev}{e:Ev}(h:Dv E rec ops t0 s0 Y e):e.a.next<=e.b.next:=by
 rcases h.step with⟨_,⟨_,_,hb⟩|⟨_,⟨_,hb,_⟩|⟨_,hb,_⟩|⟨hk,hb⟩⟩⟩|⟨_,_,hb,_⟩
 ·grind
 ·grind
 ·grind
 ·grind [Hv,S.next_alloc]
 ·exact hb
theorem dR.next_le:∀ {X Y:List Ev},dR E rec ops t0 s0 (X++Y)->(bV s0 Y).next<=(bV s0 (X++Y)).next
 |[],_,_=>Nat.le_refl _
 |e::X,Y,h=>by
  refine Nat.le_trans (dR.next_le h.2) ?_
  have:=h.1.next_le
  rw[h.1.st]at this
  exact this
theorem dR.suf:∀ {X Y:List Ev},dR E rec ops t0 s0 (X++Y)->dR E rec ops t0 s0 Y
 |[],_,h=>h
 |_::X,_,h=>dR.suf (X:=X) h.2
theorem dR.before{Y:List Ev}{e:Ev}(h:Dv E rec ops t0 s0 Y e)(hR:dR E rec ops t0 s0 Y){q:Ev}(hq:q∈Y):q.b.next<=e.a.next:=by
 obtain⟨Y1,Y2,rfl⟩:=List.append_of_mem hq
 rw[h.st]
 exact dR.next_le (Y:=q::Y2) hR
theorem dR.start{Y:List Ev}{e:Ev}(h:Dv E rec ops t0 s0 Y e)(hR:dR E rec ops t0 s0 Y):s0.next<=e.a.next:=by
 rw[h.st]
 have h1:dR E rec ops t0 s0 (Y++[]):=by simpa using hR
 have h2:=dR.next_le h1
 rw[List.append_nil]at h2
 exact h2
theorem dR.ok{L:List Ev}(h:dR E rec ops t0 s0 L){e:Ev}(he:e∈L):∃ X Y,L=X++e::Y/\Dv E rec ops t0 s0 Y e/\dR E rec ops t0 s0 Y:=by
 obtain⟨X,Y,rfl⟩:=List.append_of_mem he
 grind [dR.at]
theorem dR.uniq{L:List Ev}(h:dR E rec ops t0 s0 L){a b:Ev}(ha:a∈L)(hb:b∈L)(hi:a.i=b.i):a=b:=by
 induction L with
 |nil=>cases ha
 |cons e Y ih =>
  rcases List.mem_cons.1 ha with rfl|ha'
  ·rcases List.mem_cons.1 hb with rfl|hb'
   ·rfl
   ·exact absurd hi.symm (h.1.new b hb')
  ·rcases List.mem_cons.1 hb with rfl|hb'
   ·exact absurd hi (h.1.new a ha')
   ·exact ih h.2 ha' hb'
structure vL(E:dA)(t0:T V)(s0:S)(ρ0:aD)(w0:World)(X F:List Ev)(R:Nat->Prop)(ρ:aD)(w:World)(tm:Array Value):Prop where
 front:JW E F
 inF:∀ e∈F,R e.i
 noE:∀ e∈X,R e.i->¬ jG E e.o
 vals:∀ e∈X++F,R e.i->∃ y,den (ρ.to e.b.next) e.v=some y/\∀ d,e.o.dst=some d->tm[d]? = some y
 olds:∀ d x,t0.get (eQ d)=some x->(∀ e∈X++F,R e.i->e.o.dst≠some d)->∃ y,den (ρ.to s0.next) x=some y/\tm[d]? = some y
 blks:∀ e∈X,R e.i->e.b=e.a\/∃ B,e.b=e.a.alloc B/\zd (ρ.to e.b.next) w e.a.next B/\∀ v l,ρ e.a.next v=some l->¬ l.ro
 hr:HR (ρ.to (bV s0 F).next) (bV s0 F) w
 inj:WT ρ
 low:WS ρ w
 fresh:∀ f v,ρ f v≠none->f<(bV s0 F).next\/∃ e∈X,R e.i/\f=e.a.next/\f<e.b.next
 fr:FR ρ0 w0 ρ w
theorem vL.reg{ρ0:aD}{w0:World}{X F:List Ev}{R:Nat->Prop}{ρ:aD}{w:World}{tm:Array Value}(h:vL E t0 s0 ρ0 w0 X F R ρ w tm) :
 ∀ {X1 Z:List Ev},X=X1++Z->dR E rec ops t0 s0 (Z++F)->(∀ e∈Z,R e.i)->HR (ρ.to (bV s0 (Z++F)).next) (bV s0 (Z++F)) w
 |_,[],_,_,_=>h.hr
 |X1,e::Z,hX,hR,hin=>by
  have ih:=vL.reg h (X1:=X1++[e]) (Z:=Z) (by simpa using hX) hR.2 fun q hq=>hin q (List.mem_cons_of_mem _ hq)
  have hst:e.a=bV s0 (Z++F):=hR.1.st
  rw[<- hst]at ih
  show HR (ρ.to e.b.next) e.b w
  rcases h.blks e (by rw[hX];simp) (hin e (by simp))with hb|⟨B,hb,hB,hro⟩
  ·grind
  ·rw[hb]at hB ⊢
   rw[S.next_alloc]at hB ⊢
   refine⟨fun f v hf=>aD.to_ge (by rw[S.next_alloc]at hf;exact hf),fun f v l f' v' l' e1 e2=>h.inj _ _ _ _ _ _ (aD.to_lt e1).2 (aD.to_lt e2).2,fun f v l e1=>h.low _ _ _ (aD.to_lt e1).2,fun f B' hg=>?_,fun f B' hg=>?_,fun f B' hg hnr v l hl=>?_⟩
   ·rw[S.get_alloc]at hg
    split at hg
    ·grind
    ·rename_i he
     have hf:=ih.dom f B' hg
     refine(ih.blk f B' hg).keep (aD.to_le ρ (Nat.le_succ _)) (fun v hv=>?_) (fun _ _ _=>rfl)
     grind [aD.to_of]
   ·rw[S.get_alloc]at hg
    rw[S.next_alloc]
    split at hg
    ·omega
    ·have:=ih.dom f B' hg;omega
   ·rw[S.get_alloc]at hg
    split at hg
    ·rename_i he;subst he;exact hro v l (aD.to_lt hl).2
    ·exact ih.rw f B' hg hnr v l (by rw[aD.to_of (ih.dom f B' hg)];exact(aD.to_lt hl).2)
theorem vL.env{ρ0:aD}{w0:World}{X1 X2 F:List Ev}{e:Ev}{R:Nat->Prop}{ρ:aD}{w:World}{tm:Array Value}(hD:kI ops)(h:vL E t0 s0 ρ0 w0 (X1++e::X2) F R ρ w tm)
 (hR:dR E rec ops t0 s0 (X1++e::(X2++F))) (hn:¬ R e.i) (hcl:fU ops R) (hpre:∀ k,ll ops e.i k->R k):TR (ρ.to e.a.next) (only e.t (looks ops e.o)) tm:=by
 obtain⟨hev,hRY⟩:=dR.at hR
 have hL:X1++e::X2++F=X1++e::(X2++F):=by simp
 intro d x hx
 rw[nu]at hx
 split at hx
 ·rename_i hd
  have hord:∀ q oq,ops[q]? = some oq->oq.dst=some d->q≠e.i->ll ops e.i q\/ll ops q e.i:=by
   intro q oq hq hdq hqi
   rcases List.mem_append.1 hd with hd|hd
   ·exact hD.sees e.i q e.o oq d hev.op hq (fun h=>hqi h.symm) hdq hd
   ·unfold oL at hd
    split at hd
    ·rename_i g b hg
     have hgd:((ops[g]?).bind (·.dst))=some d:=by simpa using hd
     cases hog:ops[g]? with
     |none=>rw[hog]at hgd;cases hgd
     |some og =>
      rw[hog]at hgd
      by_cases hgq:g=q
      ·subst hgq;exact .inl (hD.guard e.i e.o g b hev.op hg)
      ·exact absurd hgd (hD.dst g q og oq d hog hq hgq hdq)
    ·simp at hd
  rcases hev.slots d with⟨q,q1,q2,q3⟩|⟨q1,q2⟩
  ·rw[q3]at hx;cases hx
   obtain⟨Ya,Yb,hY,hqev,_⟩:=dR.ok hRY q1
   have hqi:q.i≠e.i:=hev.new q q1
   rcases hord q.i q.o hqev.op q2 hqi with p|p
   ·obtain⟨y,y1,y2⟩:=h.vals q (by rw[hL];simp;right;right;simpa using q1) (hpre _ p)
    exact⟨y,bw (aD.to_le ρ (dR.before hev hRY q1)) _ _ y1,y2 d q2⟩
   ·obtain⟨z,z1,z2⟩:=hqev.pre e.i p
    exact absurd z2 (hev.new z (by rw[hY];simp;right;right;exact z1))
  ·rw[q2]at hx
   obtain⟨y,y1,y2⟩:=h.olds d x hx (fun q hq hr hdq=>by
    rw[hL]at hq
    obtain⟨_,Y',_,k1,_⟩:=dR.ok hR hq
    by_cases hqi:q.i=e.i
    ·rw[hqi]at hr;exact hn hr
    ·rcases hord q.i q.o k1.op hdq hqi with p|p
     ·obtain⟨z,z1,z2⟩:=hev.pre _ p
      have hz:z=q:=dR.uniq hR (by simp;right;right;simpa using z1) hq z2
      subst hz
      exact q1 z z1 hdq
     ·exact hn (hcl q.i e.i hr p))
   exact⟨y,bw (aD.to_le ρ (dR.start hev hRY)) _ _ y1,y2⟩
 ·cases hx
end
section
variable{E:dA}{rec:ig}{ops:Array Oper}{t0:T V}{s0:S}{ρ0:aD}{w0:World}
theorem Ak{tm:Array Value}{o:Option Tmp}{y:Value}{d:Tmp}(h:o=some d)(hd:d<tm.size):(nh tm o y)[d]? = some y:=by
 grind [nh]
theorem lN{tm:Array Value}{o:Option Tmp}{y:Value}{d:Tmp}(h:o≠some d):(nh tm o y)[d]? = tm[d]?:=by
 cases o with
 |none=>rfl
 |some i =>
  unfold nh
  exact Array.getElem?_setIfInBounds_ne (fun e=>h (by rw[e]))
section
variable{X1 X2 F:List Ev}{e:Ev}{R:Nat->Prop}{ρ:aD}{w:World}{tm:Array Value}
theorem oF{q:Ev}:q∈X1++e::X2++F↔q∈X1++e::(X2++F):=by simp
theorem Bh(hD:kI ops)(hR:dR E rec ops t0 s0 (X1++e::(X2++F))){q:Ev}(hq:q∈X1++e::(X2++F))(hi:q.i≠e.i){d:Tmp}(hd:q.o.dst=some d):e.o.dst≠some d:=by
 obtain⟨_,_,_,k1,_⟩:=dR.ok hR hq
 have k2:=(dR.at hR).1
 exact hD.dst e.i q.i e.o q.o d k2.op k1.op (fun h=>hi h.symm) hd
theorem after(hR:dR E rec ops t0 s0 (X1++e::(X2++F))){q:Ev}(hq:q∈X1):e.b.next<=q.a.next:=by
 obtain⟨Xa,Xb,rfl⟩:=List.append_of_mem hq
 have h2:dR E rec ops t0 s0 (Xa++q::(Xb++e::(X2++F))):=by simpa using hR
 obtain⟨k1,k2⟩:=dR.at h2
 exact dR.before k1 k2 (by simp)
theorem vL.step(hD:kI ops)(h:vL E t0 s0 ρ0 w0 (X1++e::X2) F R ρ w tm)(hR:dR E rec ops t0 s0 (X1++e::(X2++F)))(hk:¬ jG E e.o)(hn:¬ R e.i){ρ':aD}{w':World}{y:Value}
 (hle:ρ.le ρ') (hkeep:∀ f v,ρ' f v≠none->ρ f v≠none\/(f=e.a.next/\f<e.b.next)) (hsame:∀ f v,f≠e.a.next->ρ' f v=ρ f v)
 (hwh:∀ b,b<w.heap.size->w'.heap[b]? = w.heap[b]?) (hinj:WT ρ') (hlow:WS ρ' w') (hfr:FR ρ w ρ' w')
 (hv:den (ρ'.to e.b.next) e.v=some y) (hb:e.b=e.a\/∃ B,e.b=e.a.alloc B/\zd (ρ'.to e.b.next) w' e.a.next B/\∀ v l,ρ' e.a.next v=some l->¬ l.ro) (hdst:∀ d,e.o.dst=some d->d<tm.size) :
 vL E t0 s0 ρ0 w0 (X1++e::X2) F (with1 R e.i) ρ' w' (nh tm e.o.dst y):=by
 obtain⟨hev,hRY⟩:=dR.at hR
 have hNF:(bV s0 F).next<=e.a.next:=by rw[hev.st];exact dR.next_le hRY
 have uniq:∀ q,q∈X1++e::(X2++F)->q.i=e.i->q=e:=fun q hq hi=>dR.uniq hR hq (by simp) hi
 refine⟨h.front,fun q hq=>.inl (h.inF q hq),fun q hq hr=>?_,fun q hq hr=>?_,fun d x hx hno=>?_,fun q hq hr=>?_,?_,hinj,hlow,fun f v hf=>?_,h.fr.trans hfr⟩
 ·rcases hr with hr|hr
  ·exact h.noE q hq hr
  ·have:=uniq q (by rw[<- oF];exact List.mem_append_left _ hq) hr
   subst this;exact hk
 ·by_cases hi:q.i=e.i
  ·have:=uniq q (oF.1 hq) hi
   subst this
   exact⟨y,hv,fun d hd=>Ak hd (hdst d hd)⟩
  ·have hr:R q.i:=hr.resolve_right hi
   obtain⟨z,z1,z2⟩:=h.vals q hq hr
   exact⟨z,bw (aD.to_mono hle _) _ _ z1,fun d hd=>by rw[lN (Bh hD hR (oF.1 hq) hi hd)];exact z2 d hd⟩
 ·obtain⟨z,z1,z2⟩:=h.olds d x hx fun q hq hr=>hno q hq (.inl hr)
  refine⟨z,bw (aD.to_mono hle _) _ _ z1,?_⟩
  rw[lN (hno e (by simp) (.inr rfl))];exact z2
 ·by_cases hi:q.i=e.i
  ·have:=uniq q (oF.1 (List.mem_append_left _ hq)) hi
   subst this;exact hb
  ·have hr:R q.i:=hr.resolve_right hi
   rcases h.blks q hq hr with hqb|⟨B,hqb,hB,hro⟩
   ·exact .inl hqb
   ·have hne0:q.a.next=e.a.next->∀ v l,ρ' q.a.next v=some l->ρ q.a.next v≠none:=by
     intro hne v l hl hv
     have hqn:q.b.next=q.a.next+1:=by rw[hqb,S.next_alloc]
     rcases hkeep q.a.next v (by rw[hl];exact fun h=>by cases h)with hc|⟨_,hc⟩
     ·exact hc hv
     ·rcases List.mem_append.1 hq with hq1|hq1
      ·have:=after hR hq1;omega
      ·rcases List.mem_cons.1 hq1 with rfl|hq1
       ·exact hi rfl
       ·have:=dR.before hev hRY (List.mem_append_left F hq1);omega
    refine .inr ⟨B,hqb,hB.keep (aD.to_mono hle _) (fun v hv=>?_) (fun v l hl=>hwh _ (h.low _ _ _ (aD.to_lt hl).2)),fun v l hl=>?_⟩
    rotate_left
    ·cases hq0:ρ q.a.next v with
     |none =>
      exfalso
      by_cases hne:q.a.next=e.a.next
      ·exact hne0 hne v l hl hq0
      ·rw[hsame _ _ hne,hq0]at hl;cases hl
     |some l0 =>
      have:=hle _ _ _ hq0
      rw[hl]at this;cases this
      exact hro v l hq0
    have hqn:q.b.next=q.a.next+1:=by rw[hqb,S.next_alloc]
    rw[aD.to_of (by omega)]at hv ⊢
    by_cases hne:q.a.next=e.a.next
    ·cases hq':ρ' q.a.next v with
     |none=>rfl
     |some l =>
      exfalso
      rcases hkeep q.a.next v (by rw[hq'];exact fun h=>by cases h)with hc|⟨_,hc⟩
      ·exact hc hv
      ·rcases List.mem_append.1 hq with hq1|hq1
       ·have:=after hR hq1;omega
       ·rcases List.mem_cons.1 hq1 with rfl|hq1
        ·exact hi rfl
        ·have:=dR.before hev hRY (List.mem_append_left F hq1);omega
    ·rw[hsame _ _ hne];exact hv
 ·have:ρ'.to (bV s0 F).next=ρ.to (bV s0 F).next:=by
   grind [aD.to_of,aD.to_ge]
  rw[this]
  exact h.hr.frame hfr.size hwh
 ·rcases hkeep f v hf with hf|⟨h1,h2⟩
  ·rcases h.fresh f v hf with hf|⟨q,q1,q2,q3⟩
   ·exact .inl hf
   ·exact .inr ⟨q,q1,.inl q2,q3⟩
  ·exact .inr ⟨e,by simp,.inr rfl,h1,h2⟩
theorem vL.float(hD:kI ops)(h:vL E t0 s0 ρ0 w0 (X1++e::X2) F R ρ w tm)(hR:dR E rec ops t0 s0 (X1++e::(X2++F)))(hk:¬ jG E e.o)(hn:¬ R e.i)(hcl:fU ops R)(hpre:∀ k,ll ops e.i k->R k)
 (hdst:∀ d,e.o.dst=some d->d<tm.size) :
 (Region.wanted e.o (yielded ops tm)=false/\vL E t0 s0 ρ0 w0 (X1++e::X2) F (with1 R e.i) ρ w (nh tm e.o.dst undef)) \/
 (Region.wanted e.o (yielded ops tm)=true/\∃ y w' ρ',(execOp (rv tm) e.o).run E.P w=.ok (.value y) w'/\vL E t0 s0 ρ0 w0 (X1++e::X2) F (with1 R e.i) ρ' w' (nh tm e.o.dst y)):=by
 obtain⟨hev,hRY⟩:=dR.at hR
 have hT:=h.env hD hR hn hcl hpre
 have hNF:(bV s0 F).next<=e.a.next:=by rw[hev.st];exact dR.next_le hRY
 have wsp:∀ b,bC ops e.t e.o=some b->Region.wanted e.o (yielded ops tm)=b:=fun b hb=>by
  rw[<- jV]at hb
  exact eW (fr:={ (default:Frame)with tmps:=tm }) hT hb
 have plain:∀ y,den (ρ.to e.b.next) e.v=some y->e.b=e.a->vL E t0 s0 ρ0 w0 (X1++e::X2) F (with1 R e.i) ρ w (nh tm e.o.dst y):=fun y hv hb =>
  vL.step hD h hR hk hn ρ.le_refl (fun f v hf=>.inl hf) (fun _ _ _=>rfl) (fun _ _=>rfl) h.inj h.low (FR.refl ρ w) hv (.inl hb) hdst
 rcases hev.step with⟨_,⟨hw,hv,hb⟩|⟨hw,hf⟩⟩|⟨hk',_⟩
 ·left
  refine⟨wsp _ hw,plain undef ?_ hb⟩
  rw[hv];rfl
 ·right
  refine⟨wsp _ hw,?_⟩
  rcases hf with⟨hk0,hb,s1,hd⟩|⟨hk1,hb,hd⟩|⟨hk2,hd⟩
  ·rw[<- jc (ops:=ops)]at hd
   have hd':=KS ⟨.leaf,e.a.next⟩ e.o hk0 hd
   obtain⟨v,y,h1,h2,h3⟩:=At (HR.bare h.inj h.low) hT e.o (by omega) hd'
   cases h1
   exact⟨y,w,ρ,h2,plain y (by rw[hb];exact h3) hb⟩
  ·obtain⟨s1,hd⟩:=hd X2 F rfl h.front fun q hq hqe hp=>h.noE q (by simp[hq]) (hpre _ hp) hqe
   rw[<- jc (ops:=ops)]at hd
   have hd':=KR (n':=e.a.next) (h:=(bV s0 F).h) (n:=(bV s0 F).next) e.o (by omega) hd
   obtain⟨v,y,h1,h2,h3⟩:=At (h.hr.widen h.inj h.low hNF) hT e.o (by omega) hd'
   cases h1
   exact⟨y,w,ρ,h2,plain y (by rw[hb];exact h3) hb⟩
  ·rw[<- jc (ops:=ops)]at hd
   obtain⟨mk,B,hm,y,obj,lim,n,hrun,hmk⟩:=Kl (w:=w) hT e.o hk2 hd
   have hm':=hm e.a
   simp only at hm'
   rw[hm']at hd
   injection hd with hd;injection hd with hd1 hd2
   have hbn:e.b.next=e.a.next+1:=by rw[<- hd2,S.next_alloc]
   have hfree:∀ v,ρ e.a.next v=none:=by
    intro v
    cases hr:ρ e.a.next v with
    |none=>rfl
    |some l =>
     exfalso
     rcases h.fresh e.a.next v (by rw[hr];exact fun h=>by cases h)with hf|⟨q,q1,q2,q3,q4⟩
     ·omega
     ·rcases List.mem_append.1 q1 with hq1|hq1
      ·have:=after hR hq1;omega
      ·rcases List.mem_cons.1 hq1 with rfl|hq1
       ·exact hn q2
       ·have:=dR.before hev hRY (List.mem_append_left F hq1);omega
   let ρ':=ρ.put e.a.next 0 ⟨w.heap.size,0,lim⟩
   have hle:ρ.le ρ':=aD.le_put _ (hfree 0)
   have hto:(ρ.to e.a.next).le (ρ'.to e.b.next):=aD.le_trans (aD.to_mono hle _) (aD.to_le ρ' (by omega))
   obtain⟨hv,hblk⟩:=hmk (ρ'.to e.b.next) e.a.next hto (by rw[aD.to_of (by omega)];exact aD.put_same _ _ _ _) (fun v hv=>by
    rw[aD.to_of (by omega)]
    show ρ.put _ _ _ _ _=none
    unfold aD.put;rw[if_neg (by omega)];exact hfree v)
   have hhp:∀ b,b<w.heap.size->(({ w with drawn:=n }:World).alloc obj).heap[b]? = w.heap[b]?:=fun b hb=>im { w with drawn:=n } obj hb
   refine⟨y,_,ρ',hrun,vL.step hD h hR hk hn hle (fun f v hf=>?_) (fun f v hf=>?_) hhp ?_ ?_ ?_ (by rw[<- hd1];exact hv) (.inr ⟨B,hd2.symm,hblk _ ?_,fun v l hl=>?_⟩) hdst⟩
   ·cases hr:ρ' f v with
    |none=>exact absurd hr hf
    |some l =>
     rcases aD.of_put hr with⟨h1,_,_⟩|h1
     ·exact .inr ⟨h1,by omega⟩
     ·exact .inl (by rw[h1];exact fun h=>by cases h)
   ·show ρ.put _ _ _ _ _=_
    unfold aD.put;rw[if_neg (fun h=>hf h.1)]
   ·intro f v l f' v' l' e1 e2 hb
    rcases aD.of_put e1 with⟨rfl,rfl,rfl⟩|e1
    ·rcases aD.of_put e2 with⟨rfl,rfl,rfl⟩|e2
     ·exact⟨rfl,rfl⟩
     ·have:=h.low _ _ _ e2;simp at hb;omega
    ·rcases aD.of_put e2 with⟨rfl,rfl,rfl⟩|e2
     ·have:=h.low _ _ _ e1;simp at hb;omega
     ·exact h.inj _ _ _ _ _ _ e1 e2 hb
   ·intro f v l e1
    rcases aD.of_put e1 with⟨rfl,rfl,rfl⟩|e1
    ·simp
    ·have:=h.low _ _ _ e1;simp;omega
   ·refine⟨hle,by simp,rfl,rfl,rfl,fun b hb _=>hhp b hb,fun f v l e1 hl=>?_⟩
    rcases aD.of_put e1 with⟨rfl,rfl,rfl⟩|e1
    ·simp at hl
    ·exact⟨f,v,l,e1,rfl,id⟩
   ·exact eh { w with drawn:=n } obj
   ·rcases aD.of_put hl with⟨_,rfl,rfl⟩|hl
    ·show ¬(lim<0);omega
    ·rw[hfree v]at hl;cases hl
 ·exact absurd hk' hk
theorem vL.effect(hD:kI ops)(h:vL E t0 s0 ρ0 w0 (X1++e::X2) F R ρ w tm)(hR:dR E rec ops t0 s0 (X1++e::(X2++F)))(hk:jG E e.o)(hn:¬ R e.i)(hX2:∀ q∈X2,R q.i){ρ1:aD}{w':World}{y:Value}
 (h1:HR ρ1 e.b w') (h2:FR (ρ.to e.a.next) w ρ1 w') (hv:den ρ1 e.v=some y) (hdst:∀ d,e.o.dst=some d->d<tm.size) :
 ∃ ρ',vL E t0 s0 ρ0 w0 X1 (e::(X2++F)) (with1 R e.i) ρ' w' (nh tm e.o.dst y):=by
 obtain⟨hev,hRY⟩:=dR.at hR
 have hNF:(bV s0 F).next<=e.a.next:=by rw[hev.st];exact dR.next_le hRY
 have hab:=hev.next_le
 have uniq:∀ q,q∈X1++e::(X2++F)->q.i=e.i->q=e:=fun q hq hi=>dR.uniq hR hq (by simp) hi
 have notX1:∀ q∈X1,q.i≠e.i:=by
  intro q hq hi
  have:=uniq q (by simp[hq]) hi
  subst this
  obtain⟨Xa,Xb,rfl⟩:=List.append_of_mem hq
  have h2:dR E rec ops t0 s0 (Xa++q::(Xb++q::(X2++F))):=by simpa using hR
  exact(dR.at h2).1.new q (by simp) rfl
 have early:∀ f v,ρ f v≠none->f<e.a.next\/(e.b.next<=f/\∃ q∈X1,R q.i/\f=q.a.next/\f<q.b.next):=by
  intro f v hf
  rcases h.fresh f v hf with hf|⟨q,q1,q2,q3,q4⟩
  ·grind
  ·rcases List.mem_append.1 q1 with hq1|hq1
   ·have:=after hR hq1
    grind
   ·rcases List.mem_cons.1 hq1 with rfl|hq1
    ·grind
    ·have:=dR.before hev hRY (List.mem_append_left F hq1)
     grind
 let ρ':aD:=fun f v=>if f<e.b.next then ρ1 f v else ρ f v
 have ρlt:∀ {f v},f<e.b.next->ρ' f v=ρ1 f v:=fun {f v} hf=>by show(if _ then _ else _)=_;rw[if_pos hf]
 have ρge:∀ {f v},e.b.next<=f->ρ' f v=ρ f v:=fun {f v} hf=>by show(if _ then _ else _)=_;rw[if_neg (by omega)]
 have hto:ρ'.to e.b.next=ρ1:=by
  funext f v
  by_cases hf:f<e.b.next
  ·grind [aD.to_of]
  ·rw[aD.to_ge (by omega),h1.fresh f v (by omega)]
 have hle:ρ.le ρ':=fun f v l hl=>by
  rcases early f v (by rw[hl];exact fun h=>by cases h)with hf|⟨hf,_⟩
  ·rw[ρlt (by omega)]
   exact h2.ext f v l (by rw[aD.to_of hf];exact hl)
  grind
 have hfr:FR ρ w ρ' w':=by
  refine⟨hle,h2.size,h2.os,h2.tape,h2.output,fun b hb hno=>h2.same b hb fun f v l hl hro=>hno f v l (aD.to_lt hl).2 hro,fun f v l hl hb=>?_⟩
  by_cases hf:f<e.b.next
  ·rw[ρlt hf]at hl
   obtain⟨f',v',l',k1,k2⟩:=h2.new f v l hl hb
   exact⟨f',v',l',(aD.to_lt k1).2,k2⟩
  grind
 have apart:∀ f v l f' v' l',f<e.b.next->e.b.next<=f'->ρ' f v=some l->ρ' f' v'=some l'->l.b≠l'.b:=by
  intro f v l f' v' l' hf hf' e1 e2 hb
  rw[ρlt hf]at e1
  rw[ρge hf']at e2
  have hl:=h.low _ _ _ e2
  obtain⟨f2,v2,l2,k1,k2,_⟩:=h2.new f v l e1 (by omega)
  obtain⟨k3,k4⟩:=aD.to_lt k1
  have:=(h.inj _ _ _ _ _ _ k4 e2 (by omega)).1
  omega
 refine⟨ρ',hk,fun q hq=>?_,fun q hq hr=>?_,fun q hq hr=>?_,fun d x hx hno=>?_,fun q hq hr=>?_,?_,?_,?_,fun f v hf=>?_,h.fr.trans hfr⟩
 ·rcases List.mem_cons.1 hq with rfl|hq
  ·exact .inr rfl
  ·rcases List.mem_append.1 hq with hq|hq
   ·exact .inl (hX2 q hq)
   ·exact .inl (h.inF q hq)
 ·exact h.noE q (by simp[hq]) (hr.resolve_right (notX1 q hq))
 ·by_cases hi:q.i=e.i
  ·have:=uniq q hq hi
   subst this
   exact⟨y,by rw[hto];exact hv,fun d hd=>Ak hd (hdst d hd)⟩
  ·have hr:R q.i:=hr.resolve_right hi
   obtain⟨z,z1,z2⟩:=h.vals q (oF.2 hq) hr
   exact⟨z,bw (aD.to_mono hle _) _ _ z1,fun d hd=>by rw[lN (Bh hD hR hq hi hd)];exact z2 d hd⟩
 ·obtain⟨z,z1,z2⟩:=h.olds d x hx fun q hq hr=>hno q (oF.1 hq) (.inl hr)
  refine⟨z,bw (aD.to_mono hle _) _ _ z1,?_⟩
  rw[lN (hno e (by simp) (.inr rfl))];exact z2
 ·have hr:R q.i:=hr.resolve_right (notX1 q hq)
  have haf:=after hR hq
  rcases h.blks q (by simp[hq]) hr with hqb|⟨B,hqb,hB,hro⟩
  ·exact .inl hqb
  ·have hqn:q.b.next=q.a.next+1:=by rw[hqb,S.next_alloc]
   refine .inr ⟨B,hqb,hB.keep (aD.to_mono hle _) (fun v hv=>?_) (fun v l hl=>?_),fun v l hl=>hro v l (by rw[ρge haf]at hl;exact hl)⟩
   ·rw[aD.to_of (by omega)]at hv ⊢
    rw[ρge haf];exact hv
   ·have hl':=(aD.to_lt hl).2
    refine h2.same _ (h.low _ _ _ hl') fun f v' l' hf _ hb=>?_
    obtain⟨k1,k2⟩:=aD.to_lt hf
    have:=(h.inj _ _ _ _ _ _ k2 hl' hb).1
    omega
 ·show HR (ρ'.to e.b.next) e.b w'
  rw[hto];exact h1
 ·intro f v l f' v' l' e1 e2 hb
  by_cases hf:f<e.b.next
  ·by_cases hf':f'<e.b.next
   ·rw[ρlt hf]at e1;rw[ρlt hf']at e2
    exact h1.inj _ _ _ _ _ _ e1 e2 hb
   ·exact absurd hb (apart _ _ _ _ _ _ hf (by omega) e1 e2)
  ·by_cases hf':f'<e.b.next
   ·exact absurd hb.symm (apart _ _ _ _ _ _ hf' (by omega) e2 e1)
   ·rw[ρge (by omega)]at e1 e2
    exact h.inj _ _ _ _ _ _ e1 e2 hb
 ·intro f v l e1
  by_cases hf:f<e.b.next
  ·rw[ρlt hf]at e1;exact h1.low _ _ _ e1
  ·rw[ρge (by omega)]at e1
   exact Nat.lt_of_lt_of_le (h.low _ _ _ e1) h2.size
 ·show f<e.b.next\/_
  by_cases hfe:f<e.b.next
  ·exact .inl hfe
  ·rw[ρge (by omega)]at hf
   rcases early f v hf with hf|⟨_,q,q1,q2,q3⟩
   ·exact absurd (Nat.lt_of_lt_of_le hf hab) hfe
   ·exact .inr ⟨q,q1,.inl q2,q3⟩
end
end
def left:List Bool->Nat
 |[]=>0
 |true::r=>left r
 |false::r=>left r+1
theorem xh:∀(l:List Bool) (i:Nat),l[i]? = some false->left (l.set i true)+1=left l
 |[],i,h=>by simp at h
 |b::r,0,h=>by simp at h;subst h;simp[left]
 |b::r,i+1,h=>by
  have:=xh r i (by simpa using h)
  cases b<;>simp[left]<;>omega
theorem tc:∀(l:List Bool),left l=0->∀ i:Nat,l[i]?≠some false
 |[],_,i=>by simp
 |true::r,h,0=>by simp
 |false::r,h,_=>by simp[left]at h
 |true::r,h,i+1=>by simpa using tc r h i
theorem jo:∀ n,left (List.replicate n false)=n
 |0=>rfl
 |n+1=>by simp[List.replicate_succ,left,jo n]
def bU(listed:Array Bool):Nat->Prop:=fun i=>listed[i]? = some true
section
variable{P:Program}{ops:Array Oper}{listed:Array Bool}
theorem xb{i:Nat}(hs:i<listed.size):bU (listed.setIfInBounds i true)=with1 (bU listed) i:=by
 funext k
 unfold bU with1
 apply propext
 by_cases h:i=k
 ·subst h;simp[hs]
 ·rw[Array.getElem?_setIfInBounds_ne h]
  constructor
  ·exact fun h=>.inl h
  ·rintro(h1|h1)
   ·exact h1
   ·exact absurd h1.symm h
theorem Ax{i:Nat}(hs:listed.size=ops.size)(h:i∈Region.ready .any ops listed):∃ o,ops[i]? = some o/\listed[i]? = some false/\∀ e∈o.after,Region.binds .any e=true->bU listed e.on:=by
 unfold Region.ready at h
 rw[List.mem_filter]at h
 obtain⟨h1,h2⟩:=h
 have hi:i<ops.size:=by simpa using h1
 simp only[Bool.and_eq_true,Bool.not_eq_true']at h2
 obtain⟨h2,h3⟩:=h2
 refine⟨ops[i],by simp[hi],?_,?_⟩
 ·simp_all
 ·rw[Array.getElem?_eq_getElem hi]at h3
  simp only[Option.map_some,Option.getD_some]at h3
  rw[Array.all_eq_true']at h3
  intro e he hb
  have:=h3 e he
  rw[hb]at this
  simp only[Bool.not_true,Bool.false_or]at this
  unfold bU
  rw[Array.getD_eq_getD_getElem?]at this
  grind
theorem Aj(hE:fZ ops)(hs:listed.size=ops.size)(h:Region.ready .any ops listed=[]):∀ i,i<ops.size->bU listed i:=by
 intro i
 induction i using Nat.strongRecOn with
 |ind i ih =>
  intro hi
  have hi':i<listed.size:=by omega
  cases hb:listed[i]with
  |true=>unfold bU;rw[Array.getElem?_eq_getElem hi',hb]
  |false =>
   exfalso
   have:i∈Region.ready .any ops listed:=by
    unfold Region.ready
    rw[List.mem_filter]
    refine⟨by simpa using hi,?_⟩
    simp only[Bool.and_eq_true,Bool.not_eq_true']
    refine⟨by rw[Array.getD_eq_getD_getElem?,Array.getElem?_eq_getElem hi',hb];rfl,?_⟩
    rw[Array.getElem?_eq_getElem hi]
    simp only[Option.map_some,Option.getD_some]
    rw[Array.all_eq_true']
    intro e he
    cases hbi:Region.binds .any e with
    |false=>rfl
    |true =>
     have hlt:=hE i ops[i] (by simp[hi]) e he hbi
     have:=ih e.on hlt (by omega)
     unfold bU at this
     simp_all
   grind
theorem wz(hE:fZ ops){R:Nat->Prop}(hcl:fU ops R){i:Nat}{o:Oper}(ho:ops[i]? = some o)(h:∀ e∈o.after,Region.binds .any e=true->R e.on):∀ k,ll ops i k->R k:=by
 intro k hk
 obtain⟨e,h1,h2,h3⟩:=(vc hE ho).1 hk
 rcases h3 with rfl|h3
 ·grind
 ·exact hcl e.on k (h e h1 h2) h3
end
section
variable{E:dA}{ih:sx->S->Option fc}{ops:Array Oper}{t0:T V}{s0:S}{ρ0:aD}{w0:World}{f:FuncId}{fn:Func}{k:List Item}{rd:Option Nat}{ds:List eD}{up:Option Md}{cs:List Frame}
theorem KL{fr:Frame}{i:Nat}{rest:List Nat}{o:Oper}(hF:jI E.P ρ0 f fn .leaf (.inRegion ops (i::rest)::k) ds .run up rd fr cs)(ho:ops[i]? = some o)(y:Value) :
 jI E.P ρ0 f fn .leaf (.inRegion ops rest::k) ds .run up rd (fr.finish y) cs/\(fr.finish y).tmps=nh fr.tmps o.dst y:=by
 rw[AX (hF.todo rfl) ho]
 refine⟨⟨hF.name,hF.func,TR.leaf _ _,?_,fun _=>rfl,hF.ds,hF.md,hF.rd,hF.up⟩,rfl⟩
 show fn.ntmps<=(nh fr.tmps o.dst y).size
 have:=hF.size
 unfold nh
 split<;>simpa using this
theorem MN(hE:iB E)(hg:Good E.P ih)(hD:kI ops)(hdst:kX ops fn.ntmps=true){L:List Ev}(hR:dR E (bA ih) ops t0 s0 L)(hall:∀ k,k<ops.size->∃ q∈L,q.i=k){t':T V}(hS:ot t0 L t') :
 ∀(fuel τ:Nat) (listed:Array Bool) (X F:List Ev) (ρ:aD) (w:World) (fr:Frame),L=X++F->listed.size=ops.size->left listed.toList<=fuel->fU ops (bU listed) ->
  vL E t0 s0 ρ0 w0 X F (bU listed) ρ w fr.tmps->jI E.P ρ0 f fn .leaf (.inRegion ops (Region.linearise.go .any ops fuel τ listed [])::k) ds .run up rd fr cs ->
  ∃ ρ' w' fr',Steps E.P (lone fr cs w) (lone fr' cs w')/\FR ρ0 w0 ρ' w'/\HR ρ' (bV s0 L) w'/\jI E.P ρ' f fn t' k ds .run up rd fr' cs:=by
 have fin:∀(listed:Array Bool) (X F:List Ev) (ρ:aD) (w:World) (fr:Frame),L=X++F->(∀ i,i<ops.size->bU listed i)->vL E t0 s0 ρ0 w0 X F (bU listed) ρ w fr.tmps ->
  jI E.P ρ0 f fn .leaf (.inRegion ops []::k) ds .run up rd fr cs->∃ ρ' w' fr',Steps E.P (lone fr cs w) (lone fr' cs w')/\FR ρ0 w0 ρ' w'/\HR ρ' (bV s0 L) w'/\jI E.P ρ' f fn t' k ds .run up rd fr' cs:=by
  intro listed X F ρ w fr hL hfull hI hF
  have hin:∀ e∈L,bU listed e.i:=fun e he=>by
   obtain⟨_,_,_,k1,_⟩:=dR.ok hR he
   exact hfull e.i (by
    rcases Nat.lt_or_ge e.i ops.size with h|h
    ·exact h
    ·have:=k1.op;rw[Array.getElem?_eq_none h]at this;cases this)
  have hreg:=hI.reg (X1:=[]) (Z:=X) (by simp) (by rw[<- hL];exact hR) fun e he=>hin e (by rw[hL];simp[he])
  rw[<- hL]at hreg
  have hfresh:∀ f v,(bV s0 L).next<=f->ρ f v=none:=by
   intro f v hf
   cases hr:ρ f v with
   |none=>rfl
   |some l =>
    exfalso
    have hFn:(bV s0 F).next<=(bV s0 L).next:=by rw[hL]at hR ⊢;exact dR.next_le hR
    rcases hI.fresh f v (by rw[hr];exact fun h=>by cases h)with h1|⟨q,q1,q2,q3,q4⟩
    ·omega
    ·have hq:q∈L:=by rw[hL];simp[q1]
     obtain⟨Xa,Y,hLa,k1,k2⟩:=dR.ok hR hq
     have:(bV s0 (q::Y)).next<=(bV s0 L).next:=by rw[hLa]at hR ⊢;exact dR.next_le hR
     have:q.b.next<=(bV s0 L).next:=this
     omega
  rw[aD.to_all hfresh]at hreg
  refine⟨ρ,w,_,.one (qG (xD hF) (hF.todo rfl)),hI.fr,hreg,?_⟩
  have hF':=(hF.mono hI.fr.ext).to k
  refine⟨hF'.name,hF'.func,fun d x hx=>?_,hF'.size,hF'.todo,hF'.ds,hF'.md,hF'.rd,hF'.up⟩
  rcases hS d with⟨q,q1,q2,q3⟩|⟨q1,q2⟩
  ·rw[q3]at hx;cases hx
   obtain⟨y,y1,y2⟩:=hI.vals q (by rw[<- hL];exact q1) (hin q q1)
   exact⟨y,bw (aD.to_le_self ρ _) _ _ y1,y2 d q2⟩
  ·rw[q2]at hx
   obtain⟨y,y1,y2⟩:=hI.olds d x hx fun q hq _=>q1 q (by rw[hL];exact hq)
   exact⟨y,bw (aD.to_le_self ρ _) _ _ y1,y2⟩
 intro fuel
 induction fuel with
 |zero =>
  intro τ listed X F ρ w fr hL hs hleft hcl hI hF
  refine fin listed X F ρ w fr hL (fun i hi=>?_) hI (by simpa[Region.linearise.go]using hF)
  have:=tc listed.toList (by omega) i
  have hi':i<listed.size:=by omega
  unfold bU
  rw[Array.getElem?_eq_getElem hi']
  cases hb:listed[i]with
  |true=>rfl
  |false=>exfalso;apply this;rw[Array.getElem?_toList,Array.getElem?_eq_getElem hi',hb]
 |succ fuel ihf =>
  intro τ listed X F ρ w fr hL hs hleft hcl hI hF
  simp only[Region.linearise.go]at hF
  change jI E.P ρ0 f fn .leaf (.inRegion ops (match(Region.ready .any ops listed)[τ%(Region.ready .any ops listed).length]? with
   |some i=>Region.linearise.go .any ops fuel (τ / (Region.ready .any ops listed).length) (listed.setIfInBounds i true) [i]
   |none=>[].reverse)::k) ds .run up rd fr cs at hF
  cases hi:(Region.ready .any ops listed)[τ%(Region.ready .any ops listed).length]? with
  |none =>
   have hnil:Region.ready .any ops listed=[]:=by
    cases hr:Region.ready .any ops listed with
    |nil=>rfl
    |cons x xs =>
     grind [Nat.mod_lt]
   rw[hi]at hF
   exact fin listed X F ρ w fr hL (Aj hD.back hs hnil) hI hF
  |some i =>
   rw[hi]at hF
   simp only at hF
   rw[linearise_go_acc,List.reverse_singleton,List.singleton_append]at hF
   obtain⟨o,ho,hfalse,hed⟩:=Ax hs (List.mem_of_getElem? hi)
   have hn:¬ bU listed i:=fun h=>by unfold bU at h;rw[hfalse]at h;cases h
   have hpre:=wz hD.back hcl ho hed
   have hisz:i<listed.size:=by
    grind
   obtain⟨e,heL,hei⟩:=hall i (by omega)
   subst hei
   obtain⟨_,_,_,hev0,_⟩:=dR.ok hR heL
   have heo:e.o=o:=by have:=hev0.op;rw[ho]at this;cases this;rfl
   subst heo
   have heX:e∈X:=by
    rw[hL]at heL
    rcases List.mem_append.1 heL with h|h
    ·exact h
    ·exact absurd (hI.inF e h) hn
   obtain⟨X1,X2,rfl⟩:=List.append_of_mem heX
   have hL':L=X1++e::(X2++F):=by rw[hL];simp
   have hR':=hR
   rw[hL']at hR'
   obtain⟨hev,hRY⟩:=dR.at hR'
   have hdst':∀ d,e.o.dst=some d->d<fr.tmps.size:=fun d hd=>Nat.lt_of_lt_of_le (qi hdst ho d hd) hF.size
   have hm:=xD hF
   have htd:=hF.todo rfl
   have hsz':(listed.setIfInBounds e.i true).size=ops.size:=by simpa using hs
   have hleft':left (listed.setIfInBounds e.i true).toList<=fuel:=by
    have:=xh listed.toList e.i (by rw[Array.getElem?_toList];exact hfalse)
    grind
   have hset:=xb hisz
   have hcl':fU ops (bU (listed.setIfInBounds e.i true)):=by rw[hset];exact hcl.with1 hpre
   by_cases hk:jG E e.o
   ·
    have hstep:iU E (bA ih) e.t e.a e.o (bC ops e.t e.o)=some (e.v,e.b)/\∀ q∈X2++F,ll ops e.i q.i:=by
     rcases hev.step with⟨hk',_⟩|⟨_,h1,_,h2⟩
     ·grind
     grind
    obtain⟨hst,hXF⟩:=hstep
    have hX2:∀ q∈X2,bU listed q.i:=fun q hq=>hpre _ (hXF q (by simp[hq]))
    have hreg:=hI.reg (X1:=X1++[e]) (Z:=X2) (by simp) hRY hX2
    rw[<- hev.st]at hreg
    have hT:=hI.env hD hR' hn hcl hpre
    have wsp:∀ b,bC ops e.t e.o=some b->Region.wanted e.o (yielded ops fr.tmps)=b:=fun b hb=>by
     grind [jV,eW]
    have go:∀(ρ1:aD) (w1:World) (y:Value),Steps E.P (lone fr cs w) (lone (fr.finish y) cs w1)->HR ρ1 e.b w1->FR (ρ.to e.a.next) w ρ1 w1->den ρ1 e.v=some y ->
     ∃ ρ' w' fr',Steps E.P (lone fr cs w) (lone fr' cs w')/\FR ρ0 w0 ρ' w'/\HR ρ' (bV s0 L) w'/\jI E.P ρ' f fn t' k ds .run up rd fr' cs:=by
     intro ρ1 w1 y hsteps h1 h2 h3
     obtain⟨ρ',hI'⟩:=hI.effect hD hR' hk hn hX2 h1 h2 h3 hdst'
     obtain⟨hF',htm⟩:=KL hF ho y
     rw[<- hset,<- htm]at hI'
     obtain⟨ρ2,w2,fr2,a1,a2⟩:=ihf (τ / (Region.ready .any ops listed).length) _ X1 (e::(X2++F)) ρ' w1 (fr.finish y) hL' hsz' hleft' hcl' hI' hF'
     exact⟨ρ2,w2,fr2,hsteps.trans a1,a2⟩
    unfold iU at hst
    split at hst
    ·rename_i hw
     have hwant:=wsp _ hw
     rw[<- jc (ops:=ops)]at hst
     cases hdo:dg E (only e.t (looks ops e.o)) e.a e.o with
     |none=>rw[hdo]at hst;cases hst
     |some nx =>
      rw[hdo]at hst
      have hop:=lQ hE hreg hT e.o hdo
      have hstg:(∀ c,e.o.op≠.defer c)->stepG E.P true { frame:=fr,callers:=cs,status:=.running,dying:=none } w=stepG.apply E.P true fr cs none (execOp (rv fr.tmps) e.o) w:=fun q=>gR hm htd ho hwant (.inr q)
      cases nx with
      |val v s1 =>
       simp only[py,Option.some.injEq,Prod.mk.injEq]at hst
       obtain⟨hst1,hst2⟩:=hst
       obtain⟨ρ1,y,w1,h1,h2,h3,h4⟩:=hop
       have hst:=hstg (cQ hdo (fun d s'=>by intro h;cases h))
       exact go ρ1 w1 y (.one (oj hst h1)) (by rw[<- hst2];exact h3) h4 (by rw[<- hst1];exact h2)
      |skip s1 =>
       simp only[py,Option.some.injEq,Prod.mk.injEq]at hst
       obtain⟨hst1,hst2⟩:=hst
       obtain⟨ρ1,w1,h1,h3,h4⟩:=hop
       have hst:=hstg (cQ hdo (fun d s'=>by intro h;cases h))
       exact go ρ1 w1 undef (.one (Dk hst h1)) (by rw[<- hst2];exact h3) h4 (by rw[<- hst1];rfl)
      |enter g args s1 =>
       obtain⟨ys,h1,h2,h3⟩:=hop
       have hstx:=hstg (cQ hdo (fun d s'=>by intro h;cases h))
       simp only[py]at hst
       cases hr:bA ih g args none s1 with
       |none=>rw[hr]at hst;cases hst
       |some out =>
        rw[hr]at hst
        obtain⟨hcall,hfin⟩:=kN hg h3 h1 hr
        rw[hcall]at h2
        obtain⟨ρ1,w1,en,j1,j2,j3,j4⟩:=hfin fr cs
        have hsteps:Steps E.P (lone fr cs w) (lone (bZ fr en) cs w1):=.head (si htd hstx h2) j4
        obtain⟨oe,oup,os⟩:=out
        cases oe with
        |panicked c=>cases hst
        |returned v =>
         simp only[ym,Option.some.injEq,Prod.mk.injEq]at hst
         obtain⟨hst1,hst2⟩:=hst
         cases en with
         |returned y=>exact go ρ1 w1 y hsteps (by rw[<- hst2];exact j1) j2 (by rw[<- hst1];exact j3)
         |panicked _=>exact j3.elim
         |outgrown=>exact j3.elim
      |round l args s1=>cases hst
      |defer df s1=>cases hst
      |recover s1=>cases hst
      |panic v s1=>cases hst
    ·rename_i hw
     have hwant:=wsp _ hw
     simp only[Option.some.injEq,Prod.mk.injEq]at hst
     obtain⟨hst1,hst2⟩:=hst
     exact go (ρ.to e.a.next) w undef (.one (io hm htd (by simp[ho,hwant]))) (by rw[<- hst2];exact hreg) (FR.refl _ _) (by rw[<- hst1];rfl)
    ·cases hst
   ·
    rcases hI.float hD hR' hk hn hcl hpre hdst' with⟨hwant,hI'⟩|⟨hwant,y,w1,ρ1,hrun,hI'⟩
    ·obtain⟨hF',htm⟩:=KL hF ho undef
     rw[<- hset,<- htm]at hI'
     obtain⟨ρ2,w2,fr2,a1,a2⟩:=ihf (τ / (Region.ready .any ops listed).length) _ (X1++e::X2) F ρ w (fr.finish undef) hL hsz' hleft' hcl' hI' hF'
     exact⟨ρ2,w2,fr2,(Steps.one (io hm htd (by simp[ho,hwant]))).trans a1,a2⟩
    ·obtain⟨hF',htm⟩:=KL hF ho y
     rw[<- hset,<- htm]at hI'
     obtain⟨ρ2,w2,fr2,a1,a2⟩:=ihf (τ / (Region.ready .any ops listed).length) _ (X1++e::X2) F ρ1 w1 (fr.finish y) hL hsz' hleft' hcl' hI' hF'
     have hnd:∀ c,e.o.op≠.defer c:=fun c hc=>by
      apply hk
      show aF E.P e.o.op=3
      rw[hc];rfl
     exact⟨ρ2,w2,fr2,(Steps.one (oj (gR hm htd ho hwant (.inr hnd)) hrun)).trans a1,a2⟩
theorem Mr{P:Program}{fr:Frame}{cs:List Frame}{w:World}{id:Nat}(hm:fr.mode=.run)(ht:fr.todo=.code (.region id ops true)::k) :
 step P (lone fr cs w)=.next (lone { fr with todo:=.inRegion ops (Region.schedule (P.follows .mixedOrders) ops (w.tape w.drawn (.order fr.fn id)))::k } cs { w with drawn:=w.drawn+1 }) :=
 step_lone_go (by simp[stepG,stepG.exec,hm,ht,choose,Sem.run,Question.forced,Question.cut])
end
section
variable{E:dA}{ih:sx->S->Option fc}{ops:Array Oper}{t0:T V}{s0:S}{ρ0:aD}{w0:World}{f:FuncId}{fn:Func}{k:List Item}{rd:Option Nat}{ds:List eD}{up:Option Md}{cs:List Frame}
theorem iW{done:Nat}{d:Tmp}{x:V}:∀ {l:List (Nat×Oper)} {t:T V},(dL done l t).get (eQ d)=some x->t.get (eQ d)=some x/\∀ a o,(a,o)∈l->o.dst=some d->done.testBit a=true
 |[],t,h=>⟨h,fun _ _ h=>by cases h⟩
 |(a,o)::r,t,h=>by
  simp only[dL]at h
  cases hb:done.testBit a with
  |true =>
   rw[hb]at h
   obtain⟨h1,h2⟩:=iW h
   refine⟨h1,fun a' o' hm hd=>?_⟩
   rcases List.mem_cons.1 hm with hm|hm
   ·cases hm;exact hb
   ·exact h2 a' o' hm hd
  |false =>
   rw[hb]at h
   simp only[cond_false]at h
   cases ho:o.dst with
   |none =>
    rw[ho]at h
    obtain⟨h1,h2⟩:=iW h
    refine⟨h1,fun a' o' hm hd=>?_⟩
    rcases List.mem_cons.1 hm with hm|hm
    ·cases hm;rw[ho]at hd;cases hd
    ·exact h2 a' o' hm hd
   |some e =>
    rw[ho]at h
    simp only at h
    rw[T.setK_eq]at h
    obtain⟨h1,h2⟩:=iW h
    rw[T.get_setN]at h1
    by_cases hed:e=d
    ·rw[if_pos hed]at h1;cases h1
    ·rw[if_neg hed]at h1
     refine⟨h1,fun a' o' hm hd=>?_⟩
     rcases List.mem_cons.1 hm with hm|hm
     ·cases hm;rw[ho]at hd;cases hd;exact absurd rfl hed
     ·exact h2 a' o' hm hd
theorem FR.to_start{ρ:aD}{w:World}{n:Nat}(h:FR ρ0 w0 ρ w)(h0:∀ f v,n<=f->ρ0 f v=none):FR ρ0 w0 (ρ.to n) w :=
 ⟨fun f v l e=>by
  have hf:f<n:=Nat.lt_of_not_le fun hc=>by rw[h0 f v hc]at e;cases e
  rw[aD.to_of hf];exact h.ext f v l e,h.size,h.os,h.tape,h.output,h.same,fun f v l e hl=>h.new f v l (aD.to_lt e).2 hl⟩
theorem vL.envP{rec:ig}{Z X2 F:List Ev}{i:Nat}{o:Oper}{t1:T V}{R:Nat->Prop}{ρ:aD}{w:World}{tm:Array Value}(hD:kI ops)(h:vL E t0 s0 ρ0 w0 (Z++X2) F R ρ w tm)
 (hR:dR E rec ops t0 s0 (Z++(X2++F))) (ho:ops[i]? = some o) (hpY:∀ k,ll ops i k->∃ q∈X2++F,q.i=k) (hnew:∀ q∈Z++(X2++F),q.i≠i) (hslots:ot t0 (X2++F) t1)
 (hn:¬ R i) (hcl:fU ops R) (hpre:∀ k,ll ops i k->R k):TR (ρ.to (bV s0 (X2++F)).next) (only t1 (looks ops o)) tm:=by
 have hL:Z++X2++F=Z++(X2++F):=by simp
 have hRY:dR E rec ops t0 s0 (X2++F):=dR.suf hR
 intro d x hx
 rw[nu]at hx
 split at hx
 ·rename_i hd
  have hord:∀ q oq,ops[q]? = some oq->oq.dst=some d->q≠i->ll ops i q\/ll ops q i:=by
   intro q oq hq hdq hqi
   rcases List.mem_append.1 hd with hd|hd
   ·exact hD.sees i q o oq d ho hq (fun h=>hqi h.symm) hdq hd
   ·unfold oL at hd
    split at hd
    ·rename_i g b hg
     have hgd:((ops[g]?).bind (·.dst))=some d:=by simpa using hd
     cases hog:ops[g]? with
     |none=>rw[hog]at hgd;cases hgd
     |some og =>
      rw[hog]at hgd
      by_cases hgq:g=q
      ·subst hgq;exact .inl (hD.guard i o g b ho hg)
      ·exact absurd hgd (hD.dst g q og oq d hog hq hgq hdq)
    ·simp at hd
  have hle:∀ q∈X2++F,q.b.next<=(bV s0 (X2++F)).next:=fun q hq=>by
   obtain⟨Y1,Y2,hY⟩:=List.append_of_mem hq
   rw[hY]at hRY ⊢
   exact dR.next_le (Y:=q::Y2) hRY
  rcases hslots d with⟨q,q1,q2,q3⟩|⟨q1,q2⟩
  ·rw[q3]at hx;cases hx
   obtain⟨Ya,Yb,hY,hqev,_⟩:=dR.ok hRY q1
   have hqi:q.i≠i:=hnew q (List.mem_append_right _ q1)
   rcases hord q.i q.o hqev.op q2 hqi with p|p
   ·obtain⟨y,y1,y2⟩:=h.vals q (by rw[hL];exact List.mem_append_right _ q1) (hpre _ p)
    exact⟨y,bw (aD.to_le ρ (hle q q1)) _ _ y1,y2 d q2⟩
   ·obtain⟨z,z1,z2⟩:=hqev.pre i p
    exact absurd z2 (hnew z (List.mem_append_right _ (by rw[hY];simp[z1])))
  ·rw[q2]at hx
   obtain⟨y,y1,y2⟩:=h.olds d x hx (fun q hq hr hdq=>by
    rw[hL]at hq
    obtain⟨_,Y',_,k1,_⟩:=dR.ok hR hq
    rcases hord q.i q.o k1.op hdq (hnew q hq)with p|p
    ·obtain⟨z,z1,z2⟩:=hpY _ p
     have hz:z=q:=dR.uniq hR (List.mem_append_right _ z1) hq z2
     subst hz
     exact q1 z z1 hdq
    ·exact hn (hcl q.i i hr p))
   refine⟨y,bw (aD.to_le ρ ?_) _ _ y1,y2⟩
   have h1:dR E rec ops t0 s0 ((X2++F)++[]):=by simpa using hRY
   have h2:=dR.next_le h1
   rw[List.append_nil]at h2
   exact h2
 ·cases hx
theorem MO(hE:iB E)(hg:Good E.P ih)(hD:kI ops)(hdst:kX ops fn.ntmps=true)(h0:∀ f v,s0.next<=f->ρ0 f v=none){i0:Nat}{o0:Oper}{Z0 Y0:List Ev}{done:Nat}{t1:T V}{c:List Du}{s2:S}
 (ho0:ops[i0]? = some o0) (hk0:jG E o0) (hR:dR E (bA ih) ops t0 s0 (Z0++Y0)) (hdone:tY done Y0) (hS:ot t0 Y0 t1) (hpan:gB E (bA ih) t1 (bV s0 Y0) o0 (bC ops t1 o0)=some (.pan c s2))
 (hpY1:∀ q∈Y0,ll ops i0 q.i) (hpY:∀ k,ll ops i0 k->∃ q∈Y0,q.i=k) (hZ:∀ q∈Z0,¬ jG E q.o) (hnew:∀ q∈Z0++Y0,q.i≠i0) (hall:∀ k,k<ops.size->k≠i0->¬ ll ops k i0->∃ q∈Z0++Y0,q.i=k) :
 ∀(fuel τ:Nat) (listed:Array Bool) (X F:List Ev) (ρ:aD) (w:World) (fr:Frame),Z0++Y0=X++F->listed.size=ops.size->left listed.toList<=fuel->fU ops (bU listed)->¬ bU listed i0 ->
  vL E t0 s0 ρ0 w0 X F (bU listed) ρ w fr.tmps->jI E.P ρ0 f fn .leaf (.inRegion ops (Region.linearise.go .any ops fuel τ listed [])::k) ds .run up rd fr cs ->
  ∃ ρ' w' fr',Steps E.P (lone fr cs w) (lone fr' cs w')/\FR ρ0 w0 ρ' w'/\HR ρ' s2 w'/\jI E.P ρ' f fn (dL done (cr ops.toList 0) t1) k ds (.panicking c) up rd fr' cs:=by
 have hi0:i0<ops.size:=by
  rcases Nat.lt_or_ge i0 ops.size with h|h
  ·exact h
  ·rw[Array.getElem?_eq_none h]at ho0;cases ho0
 intro fuel
 induction fuel with
 |zero =>
  intro τ listed X F ρ w fr hL hs hleft hcl hni hI hF
  exfalso
  have:=tc listed.toList (by omega) i0
  have hi':i0<listed.size:=by omega
  apply hni
  unfold bU
  rw[Array.getElem?_eq_getElem hi']
  cases hb:listed[i0]with
  |true=>rfl
  |false=>exfalso;apply this;rw[Array.getElem?_toList,Array.getElem?_eq_getElem hi',hb]
 |succ fuel ihf =>
  intro τ listed X F ρ w fr hL hs hleft hcl hni hI hF
  simp only[Region.linearise.go]at hF
  change jI E.P ρ0 f fn .leaf (.inRegion ops (match(Region.ready .any ops listed)[τ%(Region.ready .any ops listed).length]? with
   |some i=>Region.linearise.go .any ops fuel (τ / (Region.ready .any ops listed).length) (listed.setIfInBounds i true) [i]
   |none=>[].reverse)::k) ds .run up rd fr cs at hF
  cases hi:(Region.ready .any ops listed)[τ%(Region.ready .any ops listed).length]? with
  |none =>
   exfalso
   have hnil:Region.ready .any ops listed=[]:=by
    cases hr:Region.ready .any ops listed with
    |nil=>rfl
    |cons x xs =>
     rw[hr]at hi
     have hlt:τ%(x::xs).length<(x::xs).length:=Nat.mod_lt _ (by simp)
     simp at hi
     simp at hlt
     omega
   exact hni (Aj hD.back hs hnil i0 hi0)
  |some i =>
   rw[hi]at hF
   simp only at hF
   rw[linearise_go_acc,List.reverse_singleton,List.singleton_append]at hF
   obtain⟨o,ho,hfalse,hed⟩:=Ax hs (List.mem_of_getElem? hi)
   have hn:¬ bU listed i:=fun h=>by unfold bU at h;rw[hfalse]at h;cases h
   have hpre:=wz hD.back hcl ho hed
   have hisz:i<listed.size:=by
    rcases Nat.lt_or_ge i listed.size with h|h
    ·exact h
    ·rw[Array.getElem?_eq_none h]at hfalse;cases hfalse
   have hm:=xD hF
   have htd:=hF.todo rfl
   by_cases hii:i=i0
   ·
    subst hii
    rw[ho0]at ho
    cases ho
    obtain⟨X2,hX2,hY0⟩:∃ X2,X=Z0++X2/\Y0=X2++F:=by
     rcases List.append_eq_append_iff.1 hL with⟨a,h1,h2⟩|⟨a,h1,h2⟩
     ·exact⟨a,h1,h2⟩
     ·cases a with
      |nil=>exact⟨[],by simpa using h1.symm,by simpa using h2.symm⟩
      |cons e a =>
       exfalso
       subst h2
       have hfe:jG E e.o:=hI.front
       exact hZ e (by rw[h1];simp) hfe
    subst hX2;subst hY0
    have hRY:dR E (bA ih) ops t0 s0 (X2++F):=dR.suf hR
    have hreg:=hI.reg (X1:=Z0) (Z:=X2) rfl hRY fun q hq=>hpre _ (hpY1 q (List.mem_append_left _ hq))
    have hT:=hI.envP hD hR ho0 hpY hnew hS hn hcl hpre
    have wsp:∀ b,bC ops t1 o0=some b->Region.wanted o0 (yielded ops fr.tmps)=b:=fun b hb=>by
     rw[<- jV]at hb
     exact eW hT hb
    have hFR0:FR ρ0 w0 (ρ.to (bV s0 (X2++F)).next) w:=hI.fr.to_start fun f v hf=>h0 f v (by
     have h1:dR E (bA ih) ops t0 s0 ((X2++F)++[]):=by simpa using hRY
     have h2:=dR.next_le h1
     rw[List.append_nil]at h2
     exact Nat.le_trans h2 hf)
    have tr:∀ ρ1:aD,(ρ.to (bV s0 (X2++F)).next).le ρ1->TR ρ1 (dL done (cr ops.toList 0) t1) fr.tmps:=fun ρ1 hle d x hx=>by
     obtain⟨hx1,hx2⟩:=iW hx
     have hle2:∀ q∈X2++F,q.b.next<=(bV s0 (X2++F)).next:=fun q hq=>by
      obtain⟨Y1,Y2,hY⟩:=List.append_of_mem hq
      rw[hY]at hRY ⊢
      exact dR.next_le (Y:=q::Y2) hRY
     rcases hS d with⟨q,q1,q2,q3⟩|⟨q1,q2⟩
     ·rw[q3]at hx1;cases hx1
      obtain⟨y,y1,y2⟩:=hI.vals q (by rw[List.append_assoc];exact List.mem_append_right _ q1) (hpre _ (hpY1 q q1))
      exact⟨y,bw (aD.le_trans (aD.to_le ρ (hle2 q q1)) hle) _ _ y1,y2 d q2⟩
     ·rw[q2]at hx1
      obtain⟨y,y1,y2⟩:=hI.olds d x hx1 fun q hq hr hdq=>by
       rw[List.append_assoc]at hq
       obtain⟨_,_,_,k1,_⟩:=dR.ok hR hq
       have:=hx2 q.i q.o (dU.2 k1.op) hdq
       obtain⟨z,z1,z2⟩:=(hdone q.i).1 this
       have hz:z=q:=dR.uniq hR (List.mem_append_right _ z1) hq z2
       subst hz
       exact q1 z z1 hdq
      have h1:dR E (bA ih) ops t0 s0 ((X2++F)++[]):=by simpa using hRY
      have h2:=dR.next_le h1
      rw[List.append_nil]at h2
      exact⟨y,bw (aD.le_trans (aD.to_le ρ h2) hle) _ _ y1,y2⟩
    unfold gB at hpan
    split at hpan
    ·rename_i hw
     have hwant:=wsp _ hw
     rw[<- jc (ops:=ops)]at hpan
     cases hdo:dg E (only t1 (looks ops o0)) (bV s0 (X2++F)) o0 with
     |none=>rw[hdo]at hpan;cases hpan
     |some nx =>
      rw[hdo]at hpan
      have hop:=lQ hE hreg hT o0 hdo
      have hstg:(∀ c,o0.op≠.defer c)->stepG E.P true { frame:=fr,callers:=cs,status:=.running,dying:=none } w=stepG.apply E.P true fr cs none (execOp (rv fr.tmps) o0) w:=fun q=>gR hm htd ho0 hwant (.inr q)
      cases nx with
      |enter g args s1 =>
       obtain⟨ys,h1,h2,h3⟩:=hop
       have hstx:=hstg (cQ hdo (fun d s'=>by intro h;cases h))
       simp only[jy]at hpan
       cases hr:bA ih g args none s1 with
       |none=>rw[hr]at hpan;cases hpan
       |some out =>
        rw[hr]at hpan
        obtain⟨hcall,hfin⟩:=kN hg h3 h1 hr
        rw[hcall]at h2
        obtain⟨ρ1,w1,en,j1,j2,j3,j4⟩:=hfin fr cs
        have hsteps:Steps E.P (lone fr cs w) (lone (bZ fr en) cs w1):=.head (si htd hstx h2) j4
        obtain⟨oe,oup,os⟩:=out
        cases oe with
        |returned v=>cases hpan
        |panicked c' =>
         simp only[me,Option.some.injEq,LA.pan.injEq]at hpan
         obtain⟨rfl,rfl⟩:=hpan
         cases en with
         |returned _=>exact j3.elim
         |outgrown=>exact j3.elim
         |panicked ch =>
          have hfr:=hFR0.trans j2
          have hF1:=hF.mono hfr.ext
          exact⟨ρ1,w1,_,hsteps,hfr,j1,⟨hF1.name.symm▸(by rw[bZ,bp hm]),hF1.func,by rw[bZ,bp hm];exact tr ρ1 j2.ext,by rw[bZ,bp hm];exact hF1.size,(fun q=>by cases q),by rw[bZ,bp hm];exact hF1.ds,by rw[bZ,bp hm];exact j3,by rw[bZ,bp hm];exact hF1.rd,by rw[bZ,bp hm];exact hF1.up⟩⟩
      |panic v s1 =>
       simp only[jy,Option.some.injEq,LA.pan.injEq]at hpan
       obtain⟨rfl,rfl⟩:=hpan
       obtain⟨y,h1,h2,h3⟩:=hop
       have hstx:=hstg (cQ hdo (fun d s'=>by intro h;cases h))
       refine⟨ρ.to (bV s0 (X2++F)).next,w,_,.one (FC hstx h2),hFR0,h3,?_⟩
       rw[bp hm]
       have hF1:=hF.mono hFR0.ext
       exact⟨hF1.name,hF1.func,tr _ (aD.le_refl _),hF1.size,(fun q=>by cases q),hF1.ds,⟨⟨h1,rfl,rfl⟩,trivial⟩,hF1.rd,hF1.up⟩
      |val v s1=>cases hpan
      |skip s1=>cases hpan
      |round l args s1=>cases hpan
      |defer df s1=>cases hpan
      |recover s1=>cases hpan
    ·cases hpan
    ·cases hpan
   ·
    obtain⟨e,heL,hei⟩:=hall i (by omega) hii fun h=>hni (hpre _ h)
    subst hei
    have hL0:=hL
    obtain⟨_,_,_,hev0,_⟩:=dR.ok hR heL
    have heo:e.o=o:=by have:=hev0.op;rw[ho]at this;cases this;rfl
    subst heo
    have heX:e∈X:=by
     rw[hL]at heL
     rcases List.mem_append.1 heL with h|h
     ·exact h
     ·exact absurd (hI.inF e h) hn
    obtain⟨X1,X2,rfl⟩:=List.append_of_mem heX
    have hL':Z0++Y0=X1++e::(X2++F):=by rw[hL];simp
    have hR':=hR
    rw[hL']at hR'
    obtain⟨hev,hRY⟩:=dR.at hR'
    have hdst':∀ d,e.o.dst=some d->d<fr.tmps.size:=fun d hd=>Nat.lt_of_lt_of_le (qi hdst ho d hd) hF.size
    have hsz':(listed.setIfInBounds e.i true).size=ops.size:=by simpa using hs
    have hleft':left (listed.setIfInBounds e.i true).toList<=fuel:=by
     have:=xh listed.toList e.i (by rw[Array.getElem?_toList];exact hfalse)
     rw[Array.toList_setIfInBounds];omega
    have hset:=xb hisz
    have hcl':fU ops (bU (listed.setIfInBounds e.i true)):=by rw[hset];exact hcl.with1 hpre
    have hni':¬ bU (listed.setIfInBounds e.i true) i0:=by
     rw[hset]
     rintro(h|h)
     ·exact hni h
     ·exact hii h.symm
    by_cases hk:jG E e.o
    ·
     have hstep:iU E (bA ih) e.t e.a e.o (bC ops e.t e.o)=some (e.v,e.b)/\∀ q∈X2++F,ll ops e.i q.i:=by
      rcases hev.step with⟨hk',_⟩|⟨_,h1,_,h2⟩
      ·exact absurd hk hk'
      ·exact⟨h1,h2⟩
     obtain⟨hst,hXF⟩:=hstep
     have hX2:∀ q∈X2,bU listed q.i:=fun q hq=>hpre _ (hXF q (by simp[hq]))
     have hreg:=hI.reg (X1:=X1++[e]) (Z:=X2) (by simp) hRY hX2
     rw[<- hev.st]at hreg
     have hT:=hI.env hD hR' hn hcl hpre
     have wsp:∀ b,bC ops e.t e.o=some b->Region.wanted e.o (yielded ops fr.tmps)=b:=fun b hb=>by
      rw[<- jV]at hb
      exact eW hT hb
     have go:∀(ρ1:aD) (w1:World) (y:Value),Steps E.P (lone fr cs w) (lone (fr.finish y) cs w1)->HR ρ1 e.b w1->FR (ρ.to e.a.next) w ρ1 w1->den ρ1 e.v=some y ->
      ∃ ρ' w' fr',Steps E.P (lone fr cs w) (lone fr' cs w')/\FR ρ0 w0 ρ' w'/\HR ρ' s2 w'/\jI E.P ρ' f fn (dL done (cr ops.toList 0) t1) k ds (.panicking c) up rd fr' cs:=by
      intro ρ1 w1 y hsteps h1 h2 h3
      obtain⟨ρ',hI'⟩:=hI.effect hD hR' hk hn hX2 h1 h2 h3 hdst'
      obtain⟨hF',htm⟩:=KL hF ho y
      rw[<- hset,<- htm]at hI'
      obtain⟨ρ2,w2,fr2,a1,a2⟩:=ihf (τ / (Region.ready .any ops listed).length) _ X1 (e::(X2++F)) ρ' w1 (fr.finish y) hL' hsz' hleft' hcl' hni' hI' hF'
      exact⟨ρ2,w2,fr2,hsteps.trans a1,a2⟩
     unfold iU at hst
     split at hst
     ·rename_i hw
      have hwant:=wsp _ hw
      rw[<- jc (ops:=ops)]at hst
      cases hdo:dg E (only e.t (looks ops e.o)) e.a e.o with
      |none=>rw[hdo]at hst;cases hst
      |some nx =>
       rw[hdo]at hst
       have hop:=lQ hE hreg hT e.o hdo
       have hstg:(∀ c,e.o.op≠.defer c)->stepG E.P true { frame:=fr,callers:=cs,status:=.running,dying:=none } w=stepG.apply E.P true fr cs none (execOp (rv fr.tmps) e.o) w:=fun q=>gR hm htd ho hwant (.inr q)
       cases nx with
       |val v s1 =>
        simp only[py,Option.some.injEq,Prod.mk.injEq]at hst
        obtain⟨hst1,hst2⟩:=hst
        obtain⟨ρ1,y,w1,h1,h2,h3,h4⟩:=hop
        have hst:=hstg (cQ hdo (fun d s'=>by intro h;cases h))
        exact go ρ1 w1 y (.one (oj hst h1)) (by rw[<- hst2];exact h3) h4 (by rw[<- hst1];exact h2)
       |skip s1 =>
        simp only[py,Option.some.injEq,Prod.mk.injEq]at hst
        obtain⟨hst1,hst2⟩:=hst
        obtain⟨ρ1,w1,h1,h3,h4⟩:=hop
        have hst:=hstg (cQ hdo (fun d s'=>by intro h;cases h))
        exact go ρ1 w1 undef (.one (Dk hst h1)) (by rw[<- hst2];exact h3) h4 (by rw[<- hst1];rfl)
       |enter g args s1 =>
        obtain⟨ys,h1,h2,h3⟩:=hop
        have hstx:=hstg (cQ hdo (fun d s'=>by intro h;cases h))
        simp only[py]at hst
        cases hr:bA ih g args none s1 with
        |none=>rw[hr]at hst;cases hst
        |some out =>
         rw[hr]at hst
         obtain⟨hcall,hfin⟩:=kN hg h3 h1 hr
         rw[hcall]at h2
         obtain⟨ρ1,w1,en,j1,j2,j3,j4⟩:=hfin fr cs
         have hsteps:Steps E.P (lone fr cs w) (lone (bZ fr en) cs w1):=.head (si htd hstx h2) j4
         obtain⟨oe,oup,os⟩:=out
         cases oe with
         |panicked c=>cases hst
         |returned v =>
          simp only[ym,Option.some.injEq,Prod.mk.injEq]at hst
          obtain⟨hst1,hst2⟩:=hst
          cases en with
          |returned y=>exact go ρ1 w1 y hsteps (by rw[<- hst2];exact j1) j2 (by rw[<- hst1];exact j3)
          |panicked _=>exact j3.elim
          |outgrown=>exact j3.elim
       |round l args s1=>cases hst
       |defer df s1=>cases hst
       |recover s1=>cases hst
       |panic v s1=>cases hst
     ·rename_i hw
      have hwant:=wsp _ hw
      simp only[Option.some.injEq,Prod.mk.injEq]at hst
      obtain⟨hst1,hst2⟩:=hst
      exact go (ρ.to e.a.next) w undef (.one (io hm htd (by simp[ho,hwant]))) (by rw[<- hst2];exact hreg) (FR.refl _ _) (by rw[<- hst1];rfl)
     ·cases hst
    ·
     rcases hI.float hD hR' hk hn hcl hpre hdst' with⟨hwant,hI'⟩|⟨hwant,y,w1,ρ1,hrun,hI'⟩
     ·obtain⟨hF',htm⟩:=KL hF ho undef
      rw[<- hset,<- htm]at hI'
      obtain⟨ρ2,w2,fr2,a1,a2⟩:=ihf (τ / (Region.ready .any ops listed).length) _ (X1++e::X2) F ρ w (fr.finish undef) hL hsz' hleft' hcl' hni' hI' hF'
      exact⟨ρ2,w2,fr2,(Steps.one (io hm htd (by simp[ho,hwant]))).trans a1,a2⟩
     ·obtain⟨hF',htm⟩:=KL hF ho y
      rw[<- hset,<- htm]at hI'
      obtain⟨ρ2,w2,fr2,a1,a2⟩:=ihf (τ / (Region.ready .any ops listed).length) _ (X1++e::X2) F ρ1 w1 (fr.finish y) hL hsz' hleft' hcl' hni' hI' hF'
      have hnd:∀ c,e.o.op≠.defer c:=fun c hc=>by
       apply hk
       show aF E.P e.o.op=3
       rw[hc];rfl
      exact⟨ρ2,w2,fr2,(Steps.one (oj (gR hm htd ho hwant (.inr hnd)) hrun)).trans a1,a2⟩
theorem Fb(hE:iB E)(hmix:E.P.follows .mixedOrders=true):dW E:=by
 intro ih hg f fn id ops k rd t ds up s r hdst e ρ w fr cs h hF
 obtain⟨hD,hcase⟩:=CP e
 have hm:=xD hF
 have ht:=hF.todo rfl
 have hstep:=Mr (P:=E.P) (cs:=cs) (w:=w) hm ht
 rw[hmix]at hstep
 simp only[Region.schedule,Bool.true_or,if_true,Region.linearise]at hstep
 have hno:∀ i,¬ bU (Array.replicate ops.size false) i:=by
  intro i hi
  unfold bU at hi
  rw[Array.getElem?_replicate]at hi
  split at hi<;>cases hi
 have hI0:∀ L,vL E t s ρ w L [] (bU (Array.replicate ops.size false)) ρ { w with drawn:=w.drawn+1 } fr.tmps:=by
  intro L
  have hto:ρ.to s.next=ρ:=aD.to_all fun f v hf=>h.fresh f v hf
  refine⟨trivial,by simp,fun e _ hr=>absurd hr (hno _),fun e _ hr=>absurd hr (hno _),fun d x hx _=>?_,fun e _ hr=>absurd hr (hno _),?_,h.inj,h.low,fun f v hf=>.inl ?_,FR.drawn w _⟩
  ·rw[hto];exact hF.tr d x hx
  ·show HR (ρ.to s.next) s _
   rw[hto];exact h.drawn _
  ·show f<s.next
   exact Nat.lt_of_not_le fun hc=>hf (h.fresh f v hc)
 have hF0:jI E.P ρ f fn .leaf (.inRegion ops (Region.linearise.go .any ops ops.size (w.tape w.drawn (.order fr.fn id)) (Array.replicate ops.size false) [])::k) ds .run up rd { fr with todo:=.inRegion ops (Region.linearise.go .any ops ops.size (w.tape w.drawn (.order fr.fn id)) (Array.replicate ops.size false) [])::k } cs :=
  ⟨hF.name,hF.func,TR.leaf _ _,hF.size,fun _=>rfl,hF.ds,hF.md,hF.rd,hF.up⟩
 have hcl0:fU ops (bU (Array.replicate ops.size false)):=fun i k hi=>absurd hi (hno _)
 rcases hcase with⟨L,t',s',rfl,hR,hS,rfl,hall⟩|⟨i0,o0,Z0,Y0,done,t1,c,s2,rfl,ho0,hk0,hR,hdone,hS,hpan,hpY1,hpY,hZ,hnew,hall⟩
 ·obtain⟨ρ',w',fr',a1,a2,a3,a4⟩:=MN (ih:=ih) (f:=f) (fn:=fn) (k:=k) (rd:=rd) (ds:=ds) (up:=up) (cs:=cs) (ρ0:=ρ) (w0:=w) hE hg hD hdst hR hall hS ops.size _ (Array.replicate ops.size false) L [] ρ { w with drawn:=w.drawn+1 } { fr with todo:=.inRegion ops (Region.linearise.go .any ops ops.size (w.tape w.drawn (.order fr.fn id)) (Array.replicate ops.size false) [])::k } (by simp) (by simp)
   (by simp[jo]) hcl0 (hI0 L) hF0
  exact⟨ρ',w',fr',cs,.head hstep a1,a2,sq.refl hF,a3,a4,rfl⟩
 ·obtain⟨ρ',w',fr',a1,a2,a3,a4⟩:=MO (ih:=ih) (f:=f) (fn:=fn) (k:=k) (rd:=rd) (ds:=ds) (up:=up) (cs:=cs) (ρ0:=ρ) (w0:=w) hE hg hD hdst (fun f v hf=>h.fresh f v hf) ho0 hk0 hR hdone hS hpan hpY1 hpY hZ hnew hall ops.size _ (Array.replicate ops.size false) (Z0++Y0) [] ρ { w with drawn:=w.drawn+1 } { fr with todo:=.inRegion ops (Region.linearise.go .any ops ops.size (w.tape w.drawn (.order fr.fn id)) (Array.replicate ops.size false) [])::k } (by simp) (by simp)
   (by simp[jo]) hcl0 (hno _) (hI0 _) hF0
  exact⟨ρ',w',fr',cs,.head hstep a1,a2,sq.refl hF,a3,a4,rfl⟩
end
def aD.no:aD:=fun _ _=>none
theorem HR.empty(w:World)(n:Nat):HR aD.no ⟨.leaf,n⟩ w :=
 ⟨fun _ _ _=>rfl,fun _ _ _ _ _ _ e=>(by cases e),fun _ _ _ e=>(by cases e),fun f B hB=>by(rw[S.get_eq,T.get_leaf]at hB;cases hB),fun f B hB=>by(rw[S.get_eq,T.get_leaf]at hB;cases hB),fun f B hB=>by(rw[S.get_eq,T.get_leaf]at hB;cases hB)⟩
theorem yD{P:Program}{f:FuncId}{args:List V}{s:S}{v:V}{u:Option Md}{s':S}(h:fI P f args none s ⟨.returned v,u,s'⟩){ρ:aD}{w:World}{ys:List Value}(hr:HR ρ s w)(hd:aQ ρ args=some ys) :
 Calls P f ys.toArray w fun e w'=>∃ ρ' y,e=.returned y/\den ρ' v=some y/\HR ρ' s' w'/\FR ρ w ρ' w':=by
 intro cs
 obtain⟨_,h2⟩:=h ρ w ys hr hd
 obtain⟨ρ',w',k1,k2,fr',e,k3,k4,k5,k6⟩:=h2 cs (fun u hu=>by cases hu)
 cases e with
 |panicked _=>exact k3.elim
 |outgrown=>exact k3.elim
 |returned y=>exact⟨.returned y,w',fr',⟨ρ',y,rfl,k3,k1,k2⟩,k4,k5,k6⟩
theorem FR.keeps{w:World}{ρ':aD}{w':World}(h:FR aD.no w ρ' w'):∀ b,b<w.heap.size->w'.heap[b]? = w.heap[b]?:=fun b hb=>h.same b hb fun f v l e=>by cases e
theorem DL{P:Program}{f:FuncId}{args:List V}{v:V}{n:Nat}{s1:S}(h:fI P f args none ⟨.leaf,n⟩ ⟨.returned v,none,s1⟩)
 (ha:∀ ρ ys,aQ ρ args=some ys->aQ aD.no args=some ys) (hv:∀ ρ y,den ρ v=some y->∀ ρ',den ρ' v=some y) (s:S):fI P f args none s ⟨.returned v,none,s⟩:=by
 intro ρ w ys hr hd
 obtain⟨h1,h2⟩:=h aD.no w ys (HR.empty w n) (ha ρ ys hd)
 refine⟨h1,fun cs hup=>?_⟩
 obtain⟨ρ',w',k1,k2,fr',e,k3,k4,k5,k6⟩:=h2 cs (fun u hu=>by cases hu)
 refine⟨ρ,w',hr.frame k2.size k2.keeps,⟨ρ.le_refl,k2.size,k2.os,k2.tape,k2.output,fun b hb _=>k2.keeps b hb,fun f v l e _=>⟨f,v,l,e,rfl,id⟩⟩,fr',e,?_,k4,k5,k6⟩
 cases e with
 |panicked _=>exact k3.elim
 |outgrown=>exact k3.elim
 |returned y=>exact hv _ _ k3 _
def Vd(a s:S):Prop:=(∀ f B,a.get f=some B->s.get f=some B)/\s.next<=a.next
theorem HR.sub{ρ:aD}{a s:S}{w:World}(h:HR ρ s w)(hs:Vd a s):HR ρ a w :=
 ⟨fun f v hf=>h.fresh f v (Nat.le_trans hs.2 hf),h.inj,h.low,fun f B hB=>h.blk f B (hs.1 f B hB),fun f B hB=>Nat.lt_of_lt_of_le (h.dom f B (hs.1 f B hB)) hs.2,fun f B hB=>h.rw f B (hs.1 f B hB)⟩
theorem Gj{P:Program}{f:FuncId}{args:List V}{v:V}{a a' s b:S}(h:fI P f args none a ⟨.returned v,none,a'⟩)(h1:Vd a s)(h2:Vd b a'):fI P f args none s ⟨.returned v,none,b⟩:=by
 intro ρ w ys hr hd
 obtain⟨k1,k2⟩:=h ρ w ys (hr.sub h1) hd
 refine⟨k1,fun cs hup=>?_⟩
 obtain⟨ρ',w',j1,j2,fr',e,j3,j4,j5,j6⟩:=k2 cs (fun u hu=>by cases hu)
 exact⟨ρ',w',j1.sub h2,j2,fr',e,j3,j4,j5,j6⟩
def BM(u v:mK):Bool:=Nat.beq u.v v.v&&Nat.beq u.lo v.lo&&aX u.cells v.cells
def qJ:List mK->List mK->Bool
 |[],[]=>true
 |u::r,v::q=>BM u v&&qJ r q
 |_,_=>false
def BO(x y:oY):Bool:=aX [x.key,x.val] [y.key,y.val]&&Nat.beq x.born y.born
def qK:List oY->List oY->Bool
 |[],[]=>true
 |u::r,v::q=>BO u v&&qK r q
 |_,_=>false
def BQ:dS->dS->Bool
 |.cells e sb nv vs,.cells e' sb' nv' vs'=>Nat.beq e e'&&(sb==sb')&&Nat.beq nv nv'&&qJ vs vs'
 |.map es c,.map es' c'=>qK es es'&&Nat.beq c c'
 |.gone,.gone=>true
 |_,_=>false
def ME:Option dS->Option dS->Bool
 |none,_=>true
 |some a,some b=>BQ a b
 |some _,none=>false
def Ml:T dS->T dS->Bool
 |.leaf,_=>true
 |.node l v r,.node l' v' r'=>ME v v'&&Ml l l'&&Ml r r'
 |.node _ _ _,.leaf=>false
def Pq(a s:S):Bool:=Nat.ble s.next a.next&&Ml a.h s.h
theorem BL{u v:mK}(h:BM u v=true):u=v:=by
 unfold BM at h
 simp only[Bool.and_eq_true]at h
 cases u;cases v
 grind [Nat.eq_of_beq_eq_true,cJ]
theorem pd:∀ {a b:List mK},qJ a b=true->a=b
 |[],[],_=>rfl
 |[],_::_,h=>by cases h
 |_::_,[],h=>by cases h
 |u::r,v::q,h=>by
  simp only[qJ,Bool.and_eq_true]at h
  rw[BL h.1,pd h.2]
theorem BN{u v:oY}(h:BO u v=true):u=v:=by
 unfold BO at h
 simp only[Bool.and_eq_true]at h
 have h1:=cJ h.1
 have h2:=Nat.eq_of_beq_eq_true h.2
 cases u;cases v
 grind
theorem pf:∀ {a b:List oY},qK a b=true->a=b
 |[],[],_=>rfl
 |[],_::_,h=>by cases h
 |_::_,[],h=>by cases h
 |u::r,v::q,h=>by
  simp only[qK,Bool.and_eq_true]at h
  rw[BN h.1,pf h.2]
theorem BP:∀ {a b:dS},BQ a b=true->a=b:=by
 intro a b h
 unfold BQ at h
 split at h
 ·simp only[Bool.and_eq_true,beq_iff_eq]at h
  grind [Nat.eq_of_beq_eq_true,pd]
 ·simp only[Bool.and_eq_true]at h
  rw[pf h.1,Nat.eq_of_beq_eq_true h.2]
 ·rfl
 ·cases h
theorem sJ:∀ {a b:T dS},Ml a b=true->∀ p B,a.get p=some B->b.get p=some B
 |.leaf,_,_,p,B,e=>by rw[T.get_leaf]at e;cases e
 |.node _ _ _,.leaf,h,_,_,_=>by cases h
 |.node l v r,.node l' v' r',h,p,B,e=>by
  simp only[Ml,Bool.and_eq_true]at h
  cases p with
  |o =>
   rw[T.get_o]at e ⊢
   subst e
   cases v' with
   |none=>have:=h.1.1;cases this
   |some B'=>rw[BP (a:=B) (b:=B') h.1.1]
  |l p=>rw[T.get_l]at e ⊢;exact sJ h.1.2 p B e
  |r p=>rw[T.get_r]at e ⊢;exact sJ h.2 p B e
theorem zZ{a s:S}(h:Pq a s=true):Vd a s:=by
 unfold Pq at h
 simp only[Bool.and_eq_true]at h
 exact⟨fun f B hB=>by rw[S.get_eq]at hB ⊢;exact sJ h.2 _ B hB,Nat.le_of_ble_eq_true h.1⟩
def jl(E:dA)(n:Nat)(f:FuncId)(args:List V)(a:S)(v:V)(b:S):Bool :=
 match pL E n (.call f args none) a with
 |some ⟨.returned v',none,s'⟩=>aX [v] [v']&&Pq b s'
 |_=>false
theorem cX{E:dA}(hE:iB E)(hO:ss E)(hD:dW E){n:Nat}{f:FuncId}{args:List V}{a:S}{v:V}{b:S}(h:jl E n f args a v b=true){s:S}(hs:Vd a s):fI E.P f args none s ⟨.returned v,none,b⟩:=by
 unfold jl at h
 split at h
 ·rename_i v' s' hr
  simp only[Bool.and_eq_true]at h
  have h1:=cJ h.1
  simp at h1
  subst h1
  exact Gj (lI hE hO hD n _ _ _ hr) hs (zZ h.2)
 ·cases h
def fQ(E:dA)(n:Nat)(f:FuncId)(args:List V)(v:V):Bool :=
 match pL E n (.call f args none) ⟨.leaf,0⟩with
 |some ⟨.returned v',none,_⟩=>aX [v] [v']
 |_=>false
def V.flat:V->Bool
 |.bool _=>true
 |.int _ _=>true
 |.str _=>true
 |.nilptr=>true
 |.nilslice=>true
 |.nilmap=>true
 |.nilFunc=>true
 |.nilIface=>true
 |_=>false
theorem EG{v:V}(h:v.flat=true):∀ ρ y,den ρ v=some y->∀ ρ',den ρ' v=some y:=by
 intro ρ y e ρ'
 cases v<;>simp[V.flat]at h<;>exact e
theorem AW:∀ {l:List V},l.all V.flat=true->∀ ρ ys,aQ ρ l=some ys->aQ aD.no l=some ys
 |[],_,_,_,e=>e
 |v::l,h,ρ,ys,e=>by
  simp only[List.all_cons,Bool.and_eq_true]at h
  obtain⟨y,q,h1,h2,rfl⟩:=aV.1 e
  exact aV.2 ⟨y,q,EG h.1 _ _ h1 _,AW h.2 _ _ h2,rfl⟩
theorem bG{E:dA}(hE:iB E)(hO:ss E)(hD:dW E){n:Nat}{f:FuncId}{args:List V}{v:V}(h:fQ E n f args v=true)(ha:args.all V.flat=true)(hv:v.flat=true)(s:S):fI E.P f args none s ⟨.returned v,none,s⟩:=by
 unfold fQ at h
 split at h
 ·rename_i v' s' hr
  have h1:=cJ h
  simp at h1
  subst h1
  exact DL (lI hE hO hD n _ _ _ hr) (AW ha) (EG hv) s
 ·cases h
structure jF where
 f:FuncId
 args:List V
 a:S
 v:V
 b:S
def jF.fits(k:jF)(f:FuncId)(args:List V)(s:S):Bool:=Nat.beq f k.f&&(aX args k.args&&Pq k.a s)
def vw:List jF->FuncId->List V->S->Option (V×S)
 |[],_,_,_=>none
 |k::r,f,args,s=>bif k.fits f args s then some (k.v,k.b)else vw r f args s
theorem rz:∀ {l:List jF} {f:FuncId} {args:List V} {s:S} {v:V} {s':S},vw l f args s=some (v,s')->∃ k∈l,k.f=f/\k.args=args/\Vd k.a s/\k.v=v/\k.b=s'
 |[],_,_,_,_,_,h=>by cases h
 |k::r,f,args,s,v,s',h=>by
  simp only[vw]at h
  cases hb:k.fits f args s with
  |true =>
   rw[hb]at h
   cases h
   unfold jF.fits at hb
   simp only[Bool.and_eq_true]at hb
   exact⟨k,by simp,(Nat.eq_of_beq_eq_true hb.1).symm,(cJ hb.2.1).symm,zZ hb.2.2,rfl,rfl⟩
  |false =>
   rw[hb]at h
   obtain⟨k',h1,h2⟩:=rz h
   exact⟨k',List.mem_cons_of_mem _ h1,h2⟩
def gW(f0:FuncId)(l:List (List Nat×V))(f:FuncId)(args:List V)(s:S):Option (V×S):=bif Nat.beq f f0 then look args l else none
 where
  look:List V->List (List Nat×V)->Option (V×S)
   |[.str x],(y,v)::r=>bif x==y then some (v,s)else look [.str x] r
   |_,_=>none
theorem AC{s:S}:∀ {l:List (List Nat×V)} {args:List V} {v:V} {s':S},gW.look s args l=some (v,s')->∃ x,args=[.str x]/\(x,v)∈l/\s'=s
 |[],args,v,s',h=>by
  have:gW.look s args []=none:=by cases args with
   |nil=>rfl
   |cons a r=>cases a<;>cases r<;>rfl
  rw[this]at h;cases h
 |(y,u)::r,args,v,s',h=>by
  unfold gW.look at h
  split at h
  ·rename_i x y' u' r' he
   cases he
   cases hb:(x==y)with
   |true =>
    rw[hb]at h
    cases h
    have:x=y:=by simpa using hb
    subst this
    exact⟨x,rfl,by simp,rfl⟩
   |false =>
    rw[hb]at h
    obtain⟨x',h1,h2,h3⟩:=AC h
    exact⟨x',h1,List.mem_cons_of_mem _ h2,h3⟩
  ·cases h
theorem xp{f0:FuncId}{l:List (List Nat×V)}{f:FuncId}{args:List V}{s:S}{v:V}{s':S}(h:gW f0 l f args s=some (v,s')):f=f0/\∃ x,args=[.str x]/\(x,v)∈l/\s'=s:=by
 unfold gW at h
 cases hb:Nat.beq f f0 with
 |false=>rw[hb]at h;cases h
 |true=>rw[hb]at h;exact⟨Nat.eq_of_beq_eq_true hb,AC h⟩
end Go.AI
namespace Go.Proofs.YtenibcfppefobaaGreatDoor
open Go.AI
def mJ:dA:={ P:=Tryz.prog,ext:=fun f=>bif Nat.beq f 280 then some .indexByte else bif Nat.beq f 301 then some .count else none,orc:=fun _ _ _=>none }
def kinds:List (List Nat×V):=[([39,97],.int .i64 4),([39,98],.int .i64 4),([39,99],.int .i64 4),([39,120],.int .i64 4),([73,110,116],.int .i64 3),([66,111,111,108],.int .i64 3),([76,105,115,116],.int .i64 3),([45,62],.int .i64 6),([105,100],.int .i64 2),([120],.int .i64 2),([102],.int .i64 2),([111],.int .i64 2)]
def mb:dA:={ P:=Tryz.prog,ext:=mJ.ext,orc:=gW 57 kinds }
theorem VC:Tryz.prog.follows .mixedOrders=true:=by kernel_rfl
theorem Ur:(Tryz.f280.name == "runtime.NumGoroutine")=false/\Extern.findNext Tryz.f280=none/\Extern.find Tryz.f280=some HY.indexByte.entry:=⟨by kernel_rfl,by kernel_rfl,by kernel_rfl⟩
theorem Us:(Tryz.f301.name == "runtime.NumGoroutine")=false/\Extern.findNext Tryz.f301=none/\Extern.find Tryz.f301=some HY.count.entry:=⟨by kernel_rfl,by kernel_rfl,by kernel_rfl⟩
theorem dc{E:dA}(hP:E.P=Tryz.prog)(hx:E.ext=mJ.ext):iB E:=by
 refine⟨fun f k fn h hf _=>?_⟩
 rw[hx]at h
 rw[hP]at hf
 simp only[mJ]at h
 cases h1:Nat.beq f 280 with
 |true =>
  rw[h1]at h;cases h
  have:=Nat.eq_of_beq_eq_true h1;subst this
  rw[Tryz.func280]at hf;cases hf
  exact Ur
 |false =>
  rw[h1]at h
  cases h2:Nat.beq f 301 with
  |true =>
   rw[h2]at h;cases h
   have:=Nat.eq_of_beq_eq_true h2;subst this
   rw[Tryz.func301]at hf;cases hf
   exact Us
  |false=>rw[h2]at h;cases h
theorem bF{E:dA}(hP:E.P=Tryz.prog)(hx:E.ext=mJ.ext):dW E:=Fb (dc hP hx) (by rw[hP];exact VC)
theorem uE:ss mJ:=⟨fun _ _ _ _ _ h=>by cases h⟩
theorem VV:fQ mJ 4000 57 [.str [39,97]] (.int .i64 4)=true:=by kernel_rfl
theorem VU:fQ mJ 4000 57 [.str [39,98]] (.int .i64 4)=true:=by kernel_rfl
theorem VT:fQ mJ 4000 57 [.str [39,99]] (.int .i64 4)=true:=by kernel_rfl
theorem VS:fQ mJ 4000 57 [.str [39,120]] (.int .i64 4)=true:=by kernel_rfl
theorem VR:fQ mJ 4000 57 [.str [73,110,116]] (.int .i64 3)=true:=by kernel_rfl
theorem VQ:fQ mJ 4000 57 [.str [66,111,111,108]] (.int .i64 3)=true:=by kernel_rfl
theorem VP:fQ mJ 4000 57 [.str [76,105,115,116]] (.int .i64 3)=true:=by kernel_rfl
theorem VO:fQ mJ 4000 57 [.str [45,62]] (.int .i64 6)=true:=by kernel_rfl
theorem VN:fQ mJ 4000 57 [.str [105,100]] (.int .i64 2)=true:=by kernel_rfl
theorem VM:fQ mJ 4000 57 [.str [120]] (.int .i64 2)=true:=by kernel_rfl
theorem TE:fQ mJ 4000 57 [.str [102]] (.int .i64 2)=true:=by kernel_rfl
theorem TC:fQ mJ 4000 57 [.str [111]] (.int .i64 2)=true:=by kernel_rfl
theorem zq:ss mb:=by
 refine⟨fun f args s v s' h=>?_⟩
 obtain⟨rfl,x,rfl,hm,rfl⟩:=xp h
 simp only[kinds,List.mem_cons,List.mem_nil_iff,or_false,Prod.mk.injEq]at hm
 rcases hm with⟨rfl,rfl⟩|⟨rfl,rfl⟩|⟨rfl,rfl⟩|⟨rfl,rfl⟩|⟨rfl,rfl⟩|⟨rfl,rfl⟩|⟨rfl,rfl⟩|⟨rfl,rfl⟩|⟨rfl,rfl⟩|⟨rfl,rfl⟩|⟨rfl,rfl⟩|⟨rfl,rfl⟩
 ·exact bG (dc rfl rfl) uE (bF rfl rfl) VV rfl rfl _
 ·exact bG (dc rfl rfl) uE (bF rfl rfl) VU rfl rfl _
 ·exact bG (dc rfl rfl) uE (bF rfl rfl) VT rfl rfl _
 ·exact bG (dc rfl rfl) uE (bF rfl rfl) VS rfl rfl _
 ·exact bG (dc rfl rfl) uE (bF rfl rfl) VR rfl rfl _
 ·exact bG (dc rfl rfl) uE (bF rfl rfl) VQ rfl rfl _
 ·exact bG (dc rfl rfl) uE (bF rfl rfl) VP rfl rfl _
 ·exact bG (dc rfl rfl) uE (bF rfl rfl) VO rfl rfl _
 ·exact bG (dc rfl rfl) uE (bF rfl rfl) VN rfl rfl _
 ·exact bG (dc rfl rfl) uE (bF rfl rfl) VM rfl rfl _
 ·exact bG (dc rfl rfl) uE (bF rfl rfl) TE rfl rfl _
 ·exact bG (dc rfl rfl) uE (bF rfl rfl) TC rfl rfl _
end Go.Proofs.YtenibcfppefobaaGreatDoor
