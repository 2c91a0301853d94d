/- The evaluator by which runs of the program are reckoned, and that it is sound: part 4. No conditions beyond those of the row. -/
import Derived.Test.YtpghiabjaglpgaaGreatDoorA3
set_option linter.all false
noncomputable section
namespace Go.AI
section ap
variable{P:Program}{fr:Frame}{cs:List Frame}{w w':World}{sem:Sem Next}
theorem nw{v:Value}(hst:stepG P true { frame:=fr,callers:=cs,status:=.running,dying:=none } w=stepG.apply P true fr cs none sem w)(hr:sem.run P w=.ok (.value v) w') :
 step P (lone fr cs w)=.next (lone (fr.finish v) cs w'):=step_lone_go (by rw[hst];simp[stepG.apply,hr])
theorem Dh(hst:stepG P true { frame:=fr,callers:=cs,status:=.running,dying:=none } w=stepG.apply P true fr cs none sem w)(hr:sem.run P w=.ok .skip w') :
 step P (lone fr cs w)=.next (lone (fr.finish undef) cs w'):=step_lone_go (by rw[hst];simp[stepG.apply,hr])
theorem ru{ops:Array Oper}{l:List Nat}{k:List Item}{f:FuncId}{args:Array Value}(ht:fr.todo=.inRegion ops l::k)(hst:stepG P true { frame:=fr,callers:=cs,status:=.running,dying:=none } w=stepG.apply P true fr cs none sem w)(hr:sem.run P w=.ok (.enter f args) w') :
 step P (lone fr cs w)=.next (lone (Frame.enter P f args .normal) (fr::cs) w'):=step_lone_go (by rw[hst];simp[stepG.apply,hr,ht])
theorem Pc{l:Nat}{f:FuncId}{tmps:Array Value}{a b:Code}(hst:stepG P true { frame:=fr,callers:=cs,status:=.running,dying:=none } w=stepG.apply P true fr cs none sem w)(hr:sem.run P w=.ok (.round l f tmps a b) w') :
 step P (lone fr cs w)=.next (lone (Frame.round l f tmps a b .normal) (fr::cs) w'):=step_lone_go (by rw[hst];simp[stepG.apply,hr])
theorem Pd{d:Deferred}(hst:stepG P true { frame:=fr,callers:=cs,status:=.running,dying:=none } w=stepG.apply P true fr cs none sem w)(hr:sem.run P w=.ok (.defer d) w') :
 step P (lone fr cs w)=.next (lone ({ fr with defers:=d::fr.defers }.finish undef) cs w'):=step_lone_go (by rw[hst];simp[stepG.apply,hr])
theorem FQ{v:Value}(hst:stepG P true { frame:=fr,callers:=cs,status:=.running,dying:=none } w=stepG.apply P true fr cs none sem w)(hr:sem.run P w=.halt (.panic v) w') :
 step P (lone fr cs w)=.next (lone (fr.raise [{ v,recovered:=false }]) cs w'):=step_lone_go (by rw[hst];simp[stepG.apply,hr])
theorem uU{v:Value}{cs':List Frame}(hro:fr.roundOf=none)(ht:tryRecover fr cs=some (v,cs'))(hst:stepG P true { frame:=fr,callers:=cs,status:=.running,dying:=none } w=stepG.apply P true fr cs none sem w)(hr:sem.run P w=.ok .recover w') :
 step P (lone fr cs w)=.next (lone (fr.finish v) cs' w'):=step_lone_go (by rw[hst];simp[stepG.apply,hr,hro,ht])
theorem uV(hro:fr.roundOf=none)(ht:tryRecover fr cs=none)(hst:stepG P true { frame:=fr,callers:=cs,status:=.running,dying:=none } w=stepG.apply P true fr cs none sem w)(hr:sem.run P w=.ok .recover w') :
 step P (lone fr cs w)=.next (lone (fr.finish .nilIface) cs w'):=step_lone_go (by rw[hst];simp[stepG.apply,hr,hro,ht])
end ap
section
variable{E:cU}{ih:rG->S->Option eo}{f:FuncId}{fn:Func}{ops:Array Oper}{k:List Item}{rd:Option Nat}
def SX(P:Program)(f:FuncId)(fn:Func)(ops:Array Oper)(rest:List Nat)(k:List Item)(rd:Option Nat)(kk:RK):Prop :=
 ∀ t ds up s r,kk t ds up s=some r->∀ ρ w fr cs,HR ρ s w->jl P ρ f fn t (.inRegion ops rest::k) ds .run up rd fr cs->Vs P ρ w f fn k up rd cs (lone fr cs w) r
theorem cG{o:Oper}{t:T V}{s:S}{nx:Nx}(h:cT E t s o=some nx)(hn:∀ d s',nx≠.defer d s'):∀ c,o.op≠.defer c:=by
 intro c hc
 unfold cT at h
 rw[hc]at h
 simp only[cS,nW]at h
 split at h
 ·split at h
  ·unfold CS at h
   split at h
   ·cases h;exact hn _ _ rfl
   ·cases h
  ·cases h
 ·cases h
theorem Cb(hE:gZ E)(hg:Good E.P ih)(hdst:kn ops fn.ntmps=true){i:Nat}{rest:List Nat}{o:Oper}(ho:ops[i]? = some o){kk:RK}(hk:SX E.P f fn ops rest k rd kk)
 {t:T V} {ds:List dX} {up:Option Md} {s:S} {r:kG} (e:pi E (bt ih) (dL ih) rd o t ds up s kk (bw ops t o)=some r)
 {ρ:aB} {w:World} {fr:Frame} {cs:List Frame} (h:HR ρ s w) (hF:jl E.P ρ f fn t (.inRegion ops (i::rest)::k) ds .run up rd fr cs):Vs E.P ρ w f fn k up rd cs (lone fr cs w) r:=by
 have hm:=xu hF
 have ht:=hF.todo rfl
 have hd:=pE hdst ho
 have hT:=rB.refl hF
 unfold pi at e
 split at e
 ·rename_i hw
  have hwant:=ei hF.tr hw
  cases hdo:cT E t s o with
  |none=>rw[hdo]at e;cases e
  |some nx =>
   rw[hdo]at e
   have hop:=lj hE h hF.tr o hdo
   have hst:fr.roundOf=none\/(∀ c,o.op≠.defer c)->stepG E.P true { frame:=fr,callers:=cs,status:=.running,dying:=none } w=stepG.apply E.P true fr cs none (execOp (rv fr.tmps) o) w:=fun q=>gt hm ht ho hwant q
   cases nx with
   |val v s1 =>
    obtain⟨ρ1,y,w1,h1,h2,h3,h4⟩:=hop
    have hst:=hst (.inr (cG hdo (fun d s'=>by intro h;cases h)))
    simp only[dE,bZ]at e
    exact(hk _ _ _ _ _ e ρ1 w1 (fr.finish y) cs h3 ((hF.mono h4.ext).finish ho hd h2)).of_steps (.one (nw hst h1)) h4 hT rfl
   |skip s1 =>
    obtain⟨ρ1,w1,h1,h3,h4⟩:=hop
    have hst:=hst (.inr (cG hdo (fun d s'=>by intro h;cases h)))
    simp only[dE,bZ]at e
    exact(hk _ _ _ _ _ e ρ1 w1 (fr.finish undef) cs h3 ((hF.mono h4.ext).finish ho hd rfl)).of_steps (.one (Dh hst h1)) h4 hT rfl
   |enter g args s1 =>
    obtain⟨ys,h1,h2,h3⟩:=hop
    have hst:=hst (.inr (cG hdo (fun d s'=>by intro h;cases h)))
    simp only[dE]at e
    cases hr:bt ih g args none s1 with
    |none=>rw[hr]at e;cases e
    |some out =>
     rw[hr]at e
     obtain⟨hcall,hfin⟩:=jW hg h3 h1 hr
     rw[hcall]at h2
     obtain⟨ρ1,w1,en,j1,j2,j3,j4⟩:=hfin fr cs
     have hsteps:Steps E.P (lone fr cs w) (lone (bW fr en) cs w1):=.head (ru ht hst h2) j4
     obtain⟨oe,oup,os⟩:=out
     cases oe with
     |returned v =>
      cases en with
      |returned y =>
       simp only[eR,bZ]at e
       exact(hk _ _ _ _ _ e ρ1 w1 (fr.finish y) cs j1 ((hF.mono j2.ext).finish ho hd j3)).of_steps hsteps j2 hT rfl
      |panicked _=>exact j3.elim
      |outgrown=>exact j3.elim
     |panicked c =>
      cases en with
      |returned _=>exact j3.elim
      |outgrown=>exact j3.elim
      |panicked ch =>
       simp only[eR,Option.some.injEq]at e
       subst e
       have hF1:=hF.mono j2.ext
       exact⟨ρ1,w1,_,cs,hsteps,j2,hT,j1,⟨hF1.name.symm▸(by rw[bW,bb hm]),hF1.func,by rw[bW,bb hm];exact hF1.tr,by rw[bW,bb hm];exact hF1.size,(fun q=>by cases q),by rw[bW,bb hm];exact hF1.ds,by rw[bW,bb hm];exact j3,by rw[bW,bb hm];exact hF1.rd,by rw[bW,bb hm];exact hF1.up⟩,rfl⟩
   |round l args s1 =>
    obtain⟨lb,ys,h0,h1,h2,h3⟩:=hop
    have hst:=hst (.inr (cG hdo (fun d s'=>by intro h;cases h)))
    simp only[dE]at e
    cases hr:dL ih l args s1 with
    |none=>rw[hr]at e;cases e
    |some out =>
     rw[hr]at e
     obtain⟨f',tmps,a,b,hy,hfin⟩:=hg (.round l args) s1 out hr ρ w lb ys h3 h0 h1
     rw[hy]at h2
     obtain⟨ρ1,w1,j1,j2,j5⟩:=hfin (fr::cs)
     obtain⟨en,j3,j4⟩:=j5 fr cs rfl
     have hsteps:Steps E.P (lone fr cs w) (lone (bW fr en) cs w1):=.head (Pc hst h2) j4
     obtain⟨oe,oup,os⟩:=out
     cases oe with
     |returned v =>
      cases en with
      |returned y =>
       simp only[eR,bZ]at e
       exact(hk _ _ _ _ _ e ρ1 w1 (fr.finish y) cs j1 ((hF.mono j2.ext).finish ho hd j3)).of_steps hsteps j2 hT rfl
      |panicked _=>exact j3.elim
      |outgrown=>exact j3.elim
     |panicked c =>
      cases en with
      |returned _=>exact j3.elim
      |outgrown=>exact j3.elim
      |panicked ch =>
       simp only[eR,Option.some.injEq]at e
       subst e
       have hF1:=hF.mono j2.ext
       exact⟨ρ1,w1,_,cs,hsteps,j2,hT,j1,⟨hF1.name.symm▸(by rw[bW,bb hm]),hF1.func,by rw[bW,bb hm];exact hF1.tr,by rw[bW,bb hm];exact hF1.size,(fun q=>by cases q),by rw[bW,bb hm];exact hF1.ds,by rw[bW,bb hm];exact j3,by rw[bW,bb hm];exact hF1.rd,by rw[bW,bb hm];exact hF1.up⟩,rfl⟩
   |defer df s1 =>
    obtain⟨rdf,h1,h2,h3⟩:=hop
    simp only[dE]at e
    cases hrd:rd with
    |some l=>rw[hrd]at e;cases e
    |none =>
     rw[hrd]at e
     simp only[Option.isSome_none,cond_false,bZ]at e
     subst hrd
     have hro:fr.roundOf=none:=hF.rd
     have hst:=hst (.inl hro)
     have hF':jl E.P ρ f fn t (.inRegion ops (i::rest)::k) (df::ds) .run up none { fr with defers:=rdf::fr.defers } cs :=
      ⟨hF.name,hF.func,hF.tr,hF.size,hF.todo,⟨h1,hF.ds⟩,hF.md,hF.rd,hF.up⟩
     exact(hk _ _ _ _ _ e ρ w _ cs h3 (hF'.finish ho hd rfl)).of_steps (.one (Pd hst h2)) (FR.refl ρ w) hT rfl
   |recover s1 =>
    obtain⟨h1,h2⟩:=hop
    have hst:=hst (.inr (cG hdo (fun d s'=>by intro h;cases h)))
    simp only[dE]at e
    cases up with
    |none=>cases e
    |some u =>
     have hro:fr.roundOf=none:=by cases hF.lone_up rfl;exact hF.rd
     obtain⟨hkd,c,tl,rfl,hmd⟩:=hF.up
     have hrec:∀ m',u=m'->(∀ v older,m'≠.panicking (⟨v,false⟩::older))->tryRecover fr (c::tl)=none:=by
      intro m' hu hne
      subst hu
      cases hcm:c.mode with
      |run=>simp[tryRecover,hkd,hcm]
      |returning=>simp[tryRecover,hkd,hcm]
      |panicking ch =>
       cases u with
       |run=>rw[hcm]at hmd;exact hmd.elim
       |returning=>rw[hcm]at hmd;exact hmd.elim
       |panicking pl =>
        rw[hcm]at hmd
        cases pl with
        |nil=>cases ch with
         |nil=>simp[tryRecover,hkd,hcm]
         |cons _ _=>exact hmd.elim
        |cons p ps=>cases ch with
         |nil=>exact hmd.elim
         |cons q qs =>
          obtain⟨⟨q1,q2,q3⟩,_⟩:=hmd
          obtain⟨pv,pr⟩:=p
          cases pr with
          |false=>exact absurd rfl (hne pv ps)
          |true =>
           obtain⟨qv,qr,qg⟩:=q
           simp only at q2 q3
           subst q2
           simp[tryRecover,hkd,hcm]
     unfold recovered at e
     split at e
     ·rename_i v older hu
      cases hu
      cases hcm:c.mode with
      |run=>rw[hcm]at hmd;exact hmd.elim
      |returning=>rw[hcm]at hmd;exact hmd.elim
      |panicking ch =>
       rw[hcm]at hmd
       cases ch with
       |nil=>exact hmd.elim
       |cons q qs =>
        obtain⟨⟨q1,q2,q3⟩,q4⟩:=hmd
        obtain⟨qv,qr,qg⟩:=q
        simp only at q1 q2 q3
        subst q2;subst q3
        have htr:tryRecover fr (c::tl)=some (qv,{ c with mode:=.panicking ({ v:=qv,recovered:=true }::qs) }::tl):=by
         simp[tryRecover,hkd,hcm]
        rw[bZ]at e
        have hF':=hF.finish ho hd q1
        have hF'':jl E.P ρ f fn (putD t o.dst v) (.inRegion ops rest::k) ds .run (some (.panicking (⟨v,true⟩::older))) rd (fr.finish qv) ({ c with mode:=.panicking ({ v:=qv,recovered:=true }::qs) }::tl):=by
         refine⟨hF'.name,hF'.func,hF'.tr,hF'.size,hF'.todo,hF'.ds,hF'.md,?_,?_⟩
         ·cases hF.lone_up rfl;exact hF'.rd
         ·exact⟨hF'.up.1,_,_,rfl,⟨⟨q1,rfl,rfl⟩,q4⟩⟩
        exact(hk _ _ _ _ _ e ρ w _ _ h2 hF'').of_steps (.one (uU hro htr hst h1)) (FR.refl ρ w) ⟨c,tl,_,rfl,rfl⟩ rfl
     ·rename_i hne hu
      cases hu
      rw[bZ]at e
      have htr:=hrec _ rfl (fun v older hq=>hne v older hq)
      exact(hk _ _ _ _ _ e ρ w _ _ h2 (hF.finish ho hd rfl)).of_steps (.one (uV hro htr hst h1)) (FR.refl ρ w) hT rfl
     ·cases e
   |panic v s1 =>
    obtain⟨y,h1,h2,h3⟩:=hop
    have hst:=hst (.inr (cG hdo (fun d s'=>by intro h;cases h)))
    simp only[dE,Option.some.injEq]at e
    subst e
    refine⟨ρ,w,_,cs,.one (FQ hst h2),FR.refl ρ w,hT,h3,?_,rfl⟩
    rw[bb hm]
    exact⟨hF.name,hF.func,hF.tr,hF.size,(fun q=>by cases q),hF.ds,⟨⟨h1,rfl,rfl⟩,trivial⟩,hF.rd,hF.up⟩
 ·rename_i hw
  have hwant:=ei hF.tr hw
  rw[bZ]at e
  exact(hk _ _ _ _ _ e ρ w _ _ h (hF.finish ho hd (y:=undef) rfl)).of_steps (.one (gK hm ht (by simp[ho,hwant]))) (FR.refl ρ w) hT rfl
 ·cases e
theorem qb(hE:gZ E)(hg:Good E.P ih)(hdst:kn ops fn.ntmps=true):∀(l:List Oper) (idx:List Nat),idx.map (ops[·]?)=l.map some->SX E.P f fn ops idx k rd (pd E ops (bt ih) (dL ih) rd l)
 |[],[],_=>fun t ds up s r e ρ w fr cs h hF=>by
  simp only[pd,Option.some.injEq]at e
  subst e
  exact⟨ρ,w,_,cs,.one (pU (xu hF) (hF.todo rfl)),FR.refl ρ w,rB.refl hF,h,hF.to k,rfl⟩
 |o::l,i::idx,hl=>fun t ds up s r e ρ w fr cs h hF=>by
  simp only[List.map_cons,List.cons.injEq]at hl
  exact Cb hE hg hdst hl.1 (qb hE hg hdst l idx hl.2) e h hF
 |[],_::_,hl=>by cases hl
 |_::_,[],hl=>by cases hl
theorem QZ(ops:Array Oper):(List.range ops.size).map (ops[·]?)=ops.toList.map some:=by
 apply List.ext_getElem?
 intro j
 rw[List.getElem?_map,List.getElem?_map,Array.getElem?_toList]
 by_cases hj:j<ops.size
 ·simp[hj]
 ·simp[hj]
end
section st
variable{P:Program}{fr:Frame}{c:Frame}{cs:List Frame}{w w':World}{k:List Item}{l:Nat}{v:Value}
theorem TY(hm:fr.mode=.run)(hk:fr.kind=.normal)(hro:fr.roundOf=some l)(ht:fr.todo=[])(hr:(Instr.endRound l none).run P w=.ok v w') :
 step P (lone fr (c::cs) w)=.next (lone (c.finish v) cs w'):=step_lone_go (by simp[stepG,stepG.exec,hm,ht,hro,hr,doReturn,hk])
theorem TX(hm:fr.mode=.run)(hk:fr.kind=.normal)(hro:fr.roundOf=some l)(ht:fr.todo=.code .ret::k)(hr:(Instr.endRound l (some .ret)).run P w=.ok v w') :
 step P (lone fr (c::cs) w)=.next (lone (c.finish v) cs w'):=step_lone_go (by simp[stepG,stepG.exec,hm,ht,hro,hr,doReturn,hk])
theorem QG{id:Nat}(hm:fr.mode=.run)(hk:fr.kind=.normal)(hro:fr.roundOf=some l)(ht:fr.todo=.code (.exit id)::k)(hx:exitTo id k=none)(hr:(Instr.endRound l (some (.exit id))).run P w=.ok v w') :
 step P (lone fr (c::cs) w)=.next (lone (c.finish v) cs w'):=step_lone_go (by simp[stepG,stepG.exec,hm,ht,hro,hr,doReturn,hk,hx])
theorem QF{id:Nat}(hm:fr.mode=.run)(hk:fr.kind=.normal)(hro:fr.roundOf=some l)(ht:fr.todo=.code (.goto id)::k)(hx:gotoIn id k=none)(hr:(Instr.endRound l (some (.goto id))).run P w=.ok v w') :
 step P (lone fr (c::cs) w)=.next (lone (c.finish v) cs w'):=step_lone_go (by simp[stepG,stepG.exec,hm,ht,hro,hr,doReturn,hk,hx])
theorem zh(hm:fr.mode=.run)(hro:fr.roundOf=some l)(ht:fr.todo=.beginRound::k)(hr:(Instr.beginRound l).run P w=.ok () w') :
 step P (lone fr cs w)=.next (lone { fr with todo:=k } cs w'):=step_lone_go (by simp[stepG,stepG.exec,stepG.apply,hm,ht,hro,hr,Frame.finish])
theorem DK{j:Option Code}(hm:fr.mode=.run)(ht:fr.todo=.endRangeFunc l::k)(hr:(Instr.endLoop l).run P w=.ok j w') :
 step P (lone fr cs w)=.next (lone { fr with todo:=(j.map Item.code).toList++k } cs w'):=step_lone_go (by simp[stepG,stepG.exec,hm,ht,hr])
theorem Mh{g:Operand}{ps:Array Tmp}{a b:Code}{fid:FuncId}{first cap:Array Value}{f2:FuncId}{args:Array Value}(hm:fr.mode=.run)(ht:fr.todo=.code (.rangeFunc g ps a b)::k)(hro:fr.roundOf=none)
 (hg:rv fr.tmps g=.func (.func fid) first cap)
 (hc:∀ w,(callFunc fid (first++#[.func (.yield (w'.heap.size - 1)) #[] #[]]++cap)).run P w=.ok (.enter f2 args) w)
 (hw:w'=(w.alloc (.deferred (some []))).alloc (.loop { state:=.ready,pending:=none,fn:=fr.fn,tmps:=fr.tmps,params:=ps,assign:=a,body:=b,defers:=w.heap.size })) :
 step P (lone fr cs w)=.next (lone (Frame.enter P f2 args .normal) ({ fr with todo:=.inRangeFunc (w'.heap.size - 1)::k,defers:={ target:=.collected w.heap.size,args:=#[] }::fr.defers }::cs) w'):=by
 refine step_lone_go ?_
 have hl:w'.heap.size - 1=w.heap.size+1:=by rw[hw];simp
 rw[hl]at hc ⊢
 have hen:=run_enterLoop_outer (P:=P) (w:=w) fr.fn fr.tmps ps a b
 rw[<- hw]at hen
 simp only[stepG,stepG.exec,hm,ht,hro,Sem.runT_eq,hen,GStep.bare_after]
 have hcst:∀ v:Value,rv fr.tmps (.const v)=v:=fun _=>rfl
 have hc':(callFunc fid (first.push (.func (.yield (w.heap.size+1)) #[] #[])++cap)).run P w'=.ok (.enter f2 args) w':=by simpa using hc w'
 simp[stepG.apply,pA,resolve,hg,Deferred.ofValue,invoke,hcst,hc']
theorem BD{b:Nat}{ds:List Deferred}{m:FrameMode}(hm:fr.mode=m)(hne:m≠.run)(hd:fr.defers={ target:=.collected b,args:=#[] }::ds){calls:List Deferred}(hr:(Instr.takeDeferred b).run P w=.ok calls w') :
 step P (lone fr cs w)=.next (lone { fr with defers:=calls++ds } cs w'):=by
 refine step_lone_go ?_
 cases m with
 |run=>exact absurd rfl hne
 |returning=>simp[stepG,unwind,hm,hd,hr]
 |panicking ch=>simp[stepG,unwind,hm,hd,hr]
end st
section
variable{E:cU}{ih:rG->S->Option eo}{f:FuncId}{fn:Func}
theorem bH(hg:Good E.P ih){t:T V}{todo:List Item}{ds:List dX}{m:Md}{up:Option Md}{rd:Option Nat}{s:S}{out:eo}(e:fI ih f fn t todo ds m up rd s=some out):Dp E.P f fn t todo ds m up rd s out :=
 hg (.frame f fn t todo ds m up rd) s out e
theorem vm{ρ:aB}{s:S}{w:World}(h:HR ρ s w){l:Nat}{st:LoopState}{pend:Option Code}{f':FuncId}{t':T V}{ps:Array Tmp}{a b:Code}{d nt:Nat}(hs:s.get l=some (.loop st pend f' t' ps a b d nt)){lb:ze}(hl:ρ l 0=some lb) :
 ∃(r:Loop),w.heap[lb.b]? = some (.loop r)/\r.state=st/\r.pending=pend/\r.fn=f'/\r.params=ps/\r.assign=a/\r.body=b/\TR ρ t' r.tmps/\nt<=r.tmps.size /\
  ∀ st2 pend2,HR ρ (s.put l (.loop st2 pend2 f' t' ps a b d nt)) (w.putObj lb.b (.loop { r with state:=st2,pending:=pend2 }))/\FR ρ w ρ (w.putObj lb.b (.loop { r with state:=st2,pending:=pend2 })):=by
 obtain⟨l1,ld,tm,h1,h2,h3,h4,h5⟩:=h.blk _ _ hs
 rw[hl]at h1;cases h1
 refine⟨_,h5,rfl,rfl,rfl,rfl,rfl,rfl,h3,h4,fun st2 pend2=>?_⟩
 exact h.turn hl hs (fun _ h=>by cases h) (vB w lb.b _) _ ⟨lb,ld,tm,hl,h2,h3,h4,World.putObj_heap_same (h.low _ _ _ hl)⟩
theorem iA(hg:Good E.P ih){t:T V}{todo:List Item}{ds:List dX}{up:Option Md}{rd:Option Nat}{s:S}{out:eo}{jump:Option Code}(e:lr (fI ih f fn) t ds up rd s jump=some out)
 {ρ:aB} {w:World} {fr:Frame} {cs:List Frame} (h:HR ρ s w) (hF:jl E.P ρ f fn t todo ds .run up rd fr cs)
 (h0:jump=none\/jump=some .ret->fr.roundOf=none->step E.P (lone fr cs w)=.next (lone { fr with mode:=.returning } cs w))
 (h1:∀ l v w',fr.roundOf=some l->fr.kind=.normal->(Instr.endRound l jump).run E.P w=.ok v w'->∀ c cs',cs=c::cs'->step E.P (lone fr cs w)=.next (lone (c.finish v) cs' w')) :
 oX E.P f up.isSome rd.isSome cs (lone fr cs w) ρ w out:=by
 have ret:∀ up,jl E.P ρ f fn t todo ds .run up none fr cs->jl E.P ρ f fn t [] ds .returning up none { fr with mode:=.returning } cs:=fun up hF =>
  ⟨hF.name,hF.func,hF.tr,hF.size,(fun q=>by cases q),hF.ds,trivial,hF.rd,hF.up⟩
 unfold lr at e
 split at e
 ·split at e
  ·exact dt h (h0 (.inl rfl) hF.rd) (ret up hF) (bH hg e)
  ·exact dt h (h0 (.inr rfl) hF.rd) (ret up hF) (bH hg e)
  ·cases e
 ·rename_i l
  split at e
  ·rename_i st pend f' t' ps a b d nt hs
   simp only[Option.some.injEq]at e
   subst e
   obtain⟨rfl,lb,hl,hro⟩:=hF.rd
   obtain⟨r,r1,r2,r3,r4,r5,r6,r7,r8,r9,r10⟩:=vm h hs hl
   have hrun:=run_endRound (P:=E.P) jump r1
   obtain⟨j1,j2⟩:=r10 (if jump.isNone then .ready else .done) jump
   have hc:(bif jump.isNone then LoopState.ready else .done)=if jump.isNone then .ready else .done:=by cases jump.isNone<;>rfl
   rw[hc]
   refine⟨ρ,_,j1,j2,fun c cs' hcs=>⟨.returned (.bool jump.isNone),rfl,.one (h1 _ _ _ hro hF.up hrun c cs' hcs)⟩⟩
  ·cases e
def dH(E:cU):Prop:=∀(ih:rG->S->Option eo),Good E.P ih->∀(f:FuncId) (fn:Func) (id:Nat) (ops:Array Oper) (k:List Item) (rd:Option Nat) (t:T V) (ds:List dX) (up:Option Md) (s:S) (r:kG),
 kn ops fn.ntmps=true->gL E ops (bt ih) (dL ih) t ds up s=some r->∀ ρ w fr cs,HR ρ s w->jl E.P ρ f fn t (.code (.region id ops true)::k) ds .run up rd fr cs->Vs E.P ρ w f fn k up rd cs (lone fr cs w) r
theorem mt(hg:Good E.P ih){k:List Item}{rd:Option Nat}{up:Option Md}{x:Option kG}{out:eo}(e:gM (fI ih f fn) k rd x=some out){ρ:aB}{w:World}{cs:List Frame}{M:Machine}(hr:up.isSome=true->rd=none)
 (hx:∀ r,x=some r->Vs E.P ρ w f fn k up rd cs M r):oX E.P f up.isSome rd.isSome cs M ρ w out:=by
 cases x with
 |none=>cases e
 |some r =>
  obtain⟨ρ',w',fr',cs',h1,h2,h3,h4⟩:=hx r rfl
  cases r with
  |on t' ds' up' s' =>
   obtain⟨k1,k2,k3⟩:=h4
   have:=bH hg e ρ' w' fr' cs' k1 k2
   rw[k3]at this
   exact oX.of_tops hr h3 (oX.of_steps h1 h2 this)
  |panicked c t' ds' up' s' =>
   obtain⟨k1,k2,k3⟩:=h4
   have:=bH hg e ρ' w' fr' cs' k1 k2
   rw[k3]at this
   exact oX.of_tops hr h3 (oX.of_steps h1 h2 this)
theorem uL(hg:Good E.P ih){t:T V}{ds:List dX}{up:Option Md}{rd:Option Nat}{s:S}{out:eo}{k:List Item}{g:Operand}{ps:Array Tmp}{a b:Code}
 (e:fC f fn.ntmps (fI ih f fn) (bt ih) k t ds up rd s ps a b (eval t g)=some out) {ρ:aB} {w:World} {fr:Frame} {cs:List Frame} (h:HR ρ s w) (hF:jl E.P ρ f fn t (.code (.rangeFunc g ps a b)::k) ds .run up rd fr cs) :
 oX E.P f up.isSome rd.isSome cs (lone fr cs w) ρ w out:=by
 unfold fC at e
 split at e
 ·rename_i fnv first cap hgv
  obtain⟨gf,fi,ca,g1,g2,g3,g4⟩:=xq (az hF.tr hgv)
  split at e
  ·rename_i fid
   cases g1
   split at e
   ·
    have hro:fr.roundOf=none:=hF.rd
    have hm:=xu hF
    simp only at e
    obtain⟨A1,A2⟩:=h.alloc .deferred (.deferred (some [])) 0 0 (Nat.le_refl _) ⟨⟨w.heap.size,0,0⟩,aB.put_same _ _ _ _,dN _ _⟩
    have hd1:(ρ.put s.next 0 ⟨w.heap.size,0,0⟩) s.next 0=some ⟨w.heap.size,0,0⟩:=aB.put_same _ _ _ _
    obtain⟨B1,B2⟩:=A1.alloc (.loop .ready none f t ps a b s.next fn.ntmps) (.loop { state:=.ready,pending:=none,fn:=f,tmps:=fr.tmps,params:=ps,assign:=a,body:=b,defers:=w.heap.size }) 0 0 (Nat.le_refl _) (by
     have hle:=aB.le_put (ρ:=ρ.put s.next 0 ⟨w.heap.size,0,0⟩) (f:=(s.alloc .deferred).next) (v:=0) ⟨(w.alloc (.deferred (some []))).heap.size,0,0⟩ (A1.fresh _ _ (Nat.le_refl _))
     exact⟨⟨(w.alloc (.deferred (some []))).heap.size,0,0⟩,⟨w.heap.size,0,0⟩,fr.tmps,aB.put_same _ _ _ _,hle _ _ _ hd1,(hF.tr.mono A2.ext).mono hle,hF.size,dN _ _⟩)
    generalize hρ2:(ρ.put s.next 0 ⟨w.heap.size,0,0⟩).put (s.alloc .deferred).next 0 ⟨(w.alloc (.deferred (some []))).heap.size,0,0⟩=ρ2 at B1 B2
    have hl2:ρ2 (s.alloc .deferred).next 0=some ⟨w.heap.size+1,0,0⟩:=by rw[<- hρ2,aB.put_same];simp
    have hd2:ρ2 s.next 0=some ⟨w.heap.size,0,0⟩:=B2.ext _ _ _ hd1
    have hAB:=A2.trans B2
    have hargs:aN ρ2 (first++([.func (.yield (s.alloc .deferred).next) [] []]++cap))=some (fi++([Value.func (.yield (w.heap.size+1)) #[] #[]]++ca)):=by
     refine cR (eV hAB.ext _ _ g2) (cR ?_ (eV hAB.ext _ _ g3))
     simp[aN,den,lW,hl2]
    cases hr:bt ih fid (first++([.func (.yield (s.alloc .deferred).next) [] []]++cap)) none ((s.alloc .deferred).alloc (.loop .ready none f t ps a b s.next fn.ntmps))with
    |none=>rw[hr]at e;cases e
    |some o1 =>
     rw[hr]at e
     obtain⟨hcall,hfin⟩:=jW hg B1 hargs hr
     have hname:fr.fn=f:=hF.name
     obtain⟨ρ3,w3,en,j1,j2,j3,j4⟩:=hfin { fr with todo:=.inRangeFunc (w.heap.size+1)::k,defers:={ target:=.collected w.heap.size,args:=#[] }::fr.defers } cs
     have hstep:=Mh (P:=E.P) (fr:=fr) (cs:=cs) (w:=w) (w':=(w.alloc (.deferred (some []))).alloc (.loop { state:=.ready,pending:=none,fn:=f,tmps:=fr.tmps,params:=ps,assign:=a,body:=b,defers:=w.heap.size }))
      (k:=k) (xu hF) (hF.todo rfl) hro g4 (f2:=fid) (args:=(fi++([Value.func (.yield (w.heap.size+1)) #[] #[]]++ca)).toArray) (fun w=>by
       have:=hcall w
       simpa using this) (by rw[hname])
     have hsz:((w.alloc (.deferred (some []))).alloc (.loop { state:=.ready,pending:=none,fn:=f,tmps:=fr.tmps,params:=ps,assign:=a,body:=b,defers:=w.heap.size })).heap.size - 1=w.heap.size+1:=by simp
     rw[hsz]at hstep
     have hsteps:=Steps.head hstep j4
     have hABC:=hAB.trans j2
     have hF3:=hF.mono hABC.ext
     have hdr:LE ρ3 (.collected s.next) { target:=.collected w.heap.size,args:=#[] }:=⟨_,j2.ext _ _ _ hd2,rfl⟩
     obtain⟨oe,oup,os⟩:=o1
     cases oe with
     |returned v =>
      cases en with
      |panicked _=>exact j3.elim
      |outgrown=>exact j3.elim
      |returned y =>
       simp only[jp]at e
       unfold qB at e
       split at e
       ·rename_i st pend f' t' ps' a' b' d' nt hs
        obtain⟨r,r1,r2,r3,r4,r5,r6,r7,r8,r9,r10⟩:=vm j1 hs (j2.ext _ _ _ hl2)
        have hgo:∃ hb:st≠.busy,fI ih f fn t ((pend.map Item.code).toList++k) (.collected s.next::ds) .run up none (os.put (s.alloc .deferred).next (.loop .exhausted pend f' t' ps' a' b' d' nt))=some out:=by
         split at e
         ·cases e
         ·rename_i hne;exact⟨hne,e⟩
        obtain⟨hb,hgo⟩:=hgo
        obtain⟨q1,q2⟩:=r10 .exhausted pend
        have hend:=run_endLoop (P:=E.P) r1 (by rw[r2];exact hb)
        rw[r3]at hend
        have hres:bW { fr with todo:=.inRangeFunc (w.heap.size+1)::k,defers:={ target:=.collected w.heap.size,args:=#[] }::fr.defers } (.returned y)={ fr with todo:=.endRangeFunc (w.heap.size+1)::k,defers:={ target:=.collected w.heap.size,args:=#[] }::fr.defers }:=rfl
        rw[hres]at hsteps
        have hst2:=DK (P:=E.P) (fr:={ fr with todo:=.endRangeFunc (w.heap.size+1)::k,defers:={ target:=.collected w.heap.size,args:=#[] }::fr.defers }) (cs:=cs) hm rfl hend
        refine oX.of_steps (hsteps.trans (.one hst2)) (hABC.trans q2) (bH hg hgo _ _ _ _ q1 ?_)
        exact⟨hF3.name,hF3.func,hF3.tr,hF3.size,fun _=>rfl,⟨hdr,hF3.ds⟩,hF3.md,hF3.rd,hF3.up⟩
       ·cases e
     |panicked c =>
      cases en with
      |returned _=>exact j3.elim
      |outgrown=>exact j3.elim
      |panicked ch =>
       simp only[jp]at e
       refine oX.of_steps hsteps hABC (bH hg e _ _ _ _ j1 ?_)
       rw[bW,bb (show({ fr with todo:=.inRangeFunc (w.heap.size+1)::k,defers:={ target:=.collected w.heap.size,args:=#[] }::fr.defers }:Frame).mode=.run from hm)]
       exact⟨hF3.name,hF3.func,hF3.tr,hF3.size,(fun q=>by cases q),⟨hdr,hF3.ds⟩,j3,hF3.rd,hF3.up⟩
   ·cases e
  ·cases e
 ·cases e
end
theorem BJ{ρ:aB}{u:Md}{fm:FrameMode}(h:Pt ρ u fm):Pt ρ (ix u) (settle fm):=by
 cases u with
 |run=>cases fm<;>first|exact h|exact h.elim
 |returning=>cases fm<;>first|exact h|exact h.elim
 |panicking c=>cases fm with
  |run=>exact h.elim
  |returning=>exact h.elim
  |panicking ch =>
   cases c with
   |nil=>cases ch with
    |nil=>exact h
    |cons _ _=>exact h.elim
   |cons p ps=>cases ch with
    |nil=>exact h.elim
    |cons q qs =>
     obtain⟨⟨h1,h2,h3⟩,h4⟩:=h
     obtain⟨pv,pr⟩:=p
     obtain⟨qv,qr,qg⟩:=q
     simp only at h1 h2 h3
     subst h2;subst h3
     cases pr with
     |false=>exact⟨⟨h1,rfl,rfl⟩,h4⟩
     |true =>
      have hno:∀(ps:List Dt) (qs:List PanicEntry),lP ρ ps qs->qs.dropWhile (fun e=>!e.goexit)=[]:=by
       intro ps
       induction ps with
       |nil=>intro qs hq;cases qs with
        |nil=>rfl
        |cons _ _=>exact hq.elim
       |cons p ps ih=>intro qs hq;cases qs with
        |nil=>exact hq.elim
        |cons q qs =>
         obtain⟨⟨_,_,g3⟩,g4⟩:=hq
         rw[List.dropWhile_cons,g3]
         simpa using ih qs g4
      simp only[ix,settle,hno ps qs h4]
      trivial
theorem BW{ρ:aB}{u:Md}{fm:FrameMode}{c:List Dt}{ch:List PanicEntry}(h:Pt ρ u fm)(hc:lP ρ c ch):Pt ρ (qj u c) (raised fm ch):=by
 cases u with
 |run=>cases fm<;>first|exact hc|exact h.elim
 |returning=>cases fm<;>first|exact hc|exact h.elim
 |panicking d=>cases fm with
  |run=>exact h.elim
  |returning=>exact h.elim
  |panicking dh=>exact lP.append hc h
section
variable{E:cU}{ih:rG->S->Option eo}{f:FuncId}{fn:Func}
def Qb(tm:Array Value):ResultVar->Sem Value
 |.tmp t=>pure (tm.getD t undef)
 |.cell a t=>do Go.loadVar t (<- asAddr (tm.getD a undef))
theorem Gy(fn:Func)(tm:Array Value):results fn tm=(do let vs <- fn.results.mapM (Qb tm);pure (if h:vs.size=1 then vs[0] else .tuple vs)):=by
 unfold results
 congr 1
theorem zl{P:Program}{ρ:aB}{s:S}{w:World}(h:HR ρ s w){t:T V}{tm:Array Value}(ht:TR ρ t tm){x:ResultVar}{v:V}(e:nH P t s x=some v) :
 ∃ y,den ρ v=some y/\(Qb tm x).run P w=.ok y w:=by
 have at_:∀ i u,t.get (et i)=some u->den ρ u=some (tm.getD i undef):=fun i u hu=>by
  obtain⟨y,h1,h2⟩:=ht i u hu
  rw[h1];simp[h2]
 cases x with
 |tmp i=>exact⟨_,at_ _ _ e,rfl⟩
 |cell a ty =>
  simp only[nH]at e
  split at e
  ·rename_i ad hp
   obtain⟨a1,y,h1,h2,h3⟩:=oJ h e
   have:=at_ _ _ hp
   simp only[den,h1,Option.some.injEq]at this
   refine⟨y,h2,?_⟩
   simp only[Qb,Sem.run_bind,<- this,asAddr,Sem.run_pure,Result.andThen_ok,h3]
  ·cases e
theorem oE{P:Program}{ρ:aB}{s:S}{w:World}(h:HR ρ s w){t:T V}{tm:Array Value}(ht:TR ρ t tm):∀ {l:List ResultVar} {vs:List V},jo P t s l=some vs ->
 ∃ ys,aN ρ vs=some ys/\(l.mapM (Qb tm)).run P w=.ok ys w
 |[],vs,e=>by cases e;exact⟨[],rfl,rfl⟩
 |x::l,vs,e=>by
  simp only[jo]at e
  cases hx:nH P t s x with
  |none=>simp[hx]at e
  |some v =>
   cases hl:jo P t s l with
   |none=>simp[hx,hl]at e
   |some q =>
    simp only[hx,hl,Option.some.injEq]at e
    subst e
    obtain⟨y,h1,h2⟩:=zl (P:=P) (w:=w) h ht hx
    obtain⟨ys,h3,h4⟩:=oE h ht hl
    refine⟨y::ys,aM.2 ⟨y,ys,h1,h3,rfl⟩,?_⟩
    simp only[List.mapM_cons,Sem.run_bind,h2,h4,Result.andThen_ok,Sem.run_pure]
theorem zj{P:Program}{ρ:aB}{s:S}{w:World}(h:HR ρ s w){t:T V}{tm:Array Value}(ht:TR ρ t tm){v:V}(e:qe P fn t s=some v):∃ y,den ρ v=some y/\(results fn tm).run P w=.ok y w:=by
 unfold qe at e
 split at e
 ·rename_i l hl
  cases e
  obtain⟨ys,h1,h2⟩:=oE (P:=P) (w:=w) h ht hl
  have hr:(results fn tm).run P w=.ok (if h:ys.toArray.size=1 then ys.toArray[0] else .tuple ys.toArray) w:=by
   rw[Gy,Array.mapM_eq_mapM_toList]
   simp[h2]
  refine⟨_,?_,hr⟩
  have hlen:=bu h1
  cases l with
  |nil =>
   cases h1
   rfl
  |cons v l=>cases l with
   |nil =>
    obtain⟨y,hy,rfl⟩:=lF h1
    simpa[wp]using hy
   |cons v2 l =>
    obtain⟨y,q,hy,hq,rfl⟩:=aM.1 h1
    obtain⟨y2,q,hy2,hq2,rfl⟩:=aM.1 hq
    simp only[wp,den,h1]
    simp
 ·cases e
theorem AC{P:Program}{ρ:aB}{s:S}{w:World}(h:HR ρ s w){t:T V}{todo:List Item}{m:Md}{up:Option Md}{rd:Option Nat}{fr:Frame}{cs:List Frame}(hF:jl P ρ f fn t todo [] m up rd fr cs){e:XM}{en:Ending}(he:Pu ρ e en)
 (hgo:fr.going P w en):oX P f up.isSome rd.isSome cs (lone fr cs w) ρ w ⟨e,up,s⟩:=by
 refine⟨ρ,w,h,FR.refl ρ w,?_⟩
 have hleave:up=none->fr.leaving P w en:=by
  intro hu
  have hk:fr.kind=.normal:=by have:=hF.up;rw[hu]at this;exact this
  cases en with
  |returned v=>obtain⟨a,b,c⟩:=hgo;exact⟨a,b,hk,c⟩
  |panicked ch=>exact hgo
  |outgrown=>trivial
 cases rd with
 |some l =>
  have hu:up=none:=hF.rd.1
  intro c cs' hc
  subst hc
  refine⟨en,he,.one ?_⟩
  cases en with
  |returned v=>exact step_leave_returned (hleave hu)
  |panicked ch=>exact step_leave_panicked (hleave hu)
  |outgrown=>cases e<;>exact he.elim
 |none =>
  cases up with
  |none=>exact⟨fr,en,he,Steps.refl _ _,hF.name,hleave rfl⟩
  |some u =>
   obtain⟨hk,c0,cs0,rfl,hmd⟩:=hF.up
   intro c cs' hc
   cases hc
   exact⟨fr,en,u,c0.mode,rfl,hmd,he,Steps.refl _ _,hk,hgo⟩
theorem pP(hg:Good E.P ih){t:T V}{todo:List Item}{ds:List dX}{m:Md}(hm:m≠.run){up:Option Md}{rd:Option Nat}{s:S}{out:eo}
 (e:cV ds E fn (fI ih f fn) (bt ih) t m up rd s=some out) {ρ:aB} {w:World} {fr:Frame} {cs:List Frame} (h:HR ρ s w) (hF:jl E.P ρ f fn t todo ds m up rd fr cs):oX E.P f up.isSome rd.isSome cs (lone fr cs w) ρ w out:=by
 have hfm:fr.mode≠.run:=by
  intro hq
  have:=hF.md
  rw[hq]at this
  cases m<;>first|exact hm rfl|exact this.elim
 unfold cV at e
 split at e
 ·rename_i d ds'
  have hds:=hF.ds
  cases hfd:fr.defers with
  |nil=>rw[hfd]at hds;exact hds.elim
  |cons r rs =>
   rw[hfd]at hds
   obtain⟨⟨l,h1,h2⟩,h3⟩:=hds
   subst h2
   unfold jC at e
   split at e
   ·rename_i hs
    obtain⟨l',g1,g2⟩:=h.blk _ _ hs
    rw[h1]at g1;cases g1
    have hrun:=run_takeDeferred (P:=E.P) g2
    obtain⟨j1,j2⟩:=h.turn h1 hs (fun _ h=>by cases h) (vB w l.b (.deferred none)) .gone trivial
    have hstep:=BD (P:=E.P) (cs:=cs) rfl hfm hfd hrun
    have hF':jl E.P ρ f fn t [] ds' m up rd { fr with defers:=[]++rs } cs:=⟨hF.name,hF.func,hF.tr,hF.size,fun q=>absurd q hm,h3,hF.md,hF.rd,hF.up⟩
    exact oX.of_steps (.one hstep) j2 (bH hg e _ _ _ _ j1 hF')
   ·cases e
 ·rename_i g captured args ds'
  have hds:=hF.ds
  cases hfd:fr.defers with
  |nil=>rw[hfd]at hds;exact hds.elim
  |cons r rs =>
   rw[hfd]at hds
   obtain⟨⟨gf,cc,aa,h1,h2,h3,h4⟩,h5⟩:=hds
   cases h1
   subst h4
   cases hr:bt ih g (args++captured) (some m) s with
   |none=>rw[hr]at e;cases e
   |some o1 =>
    rw[hr]at e
    obtain⟨hcall,hfin⟩:=hg (.call g (args++captured) (some m)) s o1 hr ρ w _ h (cR h3 h2)
    obtain⟨ρ1,w1,j1,j2,j3⟩:=hfin ({ fr with defers:=rs }::cs) (fun u hu=>by cases hu;exact⟨_,_,rfl,hF.md⟩)
    obtain⟨frX,en,u,u',k1,k2,k3,k4,k5,k6⟩:=j3 _ _ rfl
    have hs1:=step_defer (P:=E.P) (cs:=cs) (f:=g) (args:=(aa++cc).toArray) (w:=w) hfm hfd rfl (by
     have:=hcall w
     simpa[invoke]using this)
    have hF1:=hF.mono j2.ext
    obtain⟨oe,oup,os⟩:=o1
    simp only at k1 k3 j1
    subst k1
    cases oe with
    |returned v =>
     cases en with
     |panicked _=>exact k3.elim
     |outgrown=>exact k3.elim
     |returned y =>
      simp only[je]at e
      have hs2:=step_going_returned (c:={ fr with defers:=rs,mode:=u' }) (cs:=cs) k5 k6
      have hgo:u≠.run/\fI ih f fn t [] ds' (ix u) up rd os=some out:=by
       cases u with
       |run=>cases e
       |returning=>exact⟨(by intro q;cases q),e⟩
       |panicking c=>exact⟨(by intro q;cases q),e⟩
      have hnr:ix u≠.run:=by
       obtain⟨hu,_⟩:=hgo
       unfold ix
       split
       ·intro q;cases q
       ·exact hu
      have hF2:jl E.P ρ1 f fn t [] ds' (ix u) up rd { fr with defers:=rs,mode:=settle u' } cs :=
       ⟨hF1.name,hF1.func,hF1.tr,hF1.size,fun q=>absurd q hnr,h5.mono j2.ext,BJ k2,hF1.rd,hF1.up⟩
      exact oX.of_steps (.head hs1 (k4.trans (.one hs2))) j2 (bH hg hgo.2 _ _ _ _ j1 hF2)
    |panicked c =>
     cases en with
     |returned _=>exact k3.elim
     |outgrown=>exact k3.elim
     |panicked ch =>
      simp only[je]at e
      have hs2:=step_going_panicked (c:={ fr with defers:=rs,mode:=u' }) (cs:=cs) k6
      have hF2:jl E.P ρ1 f fn t [] ds' (qj u c) up rd { fr with defers:=rs,mode:=raised u' ch } cs :=
       ⟨hF1.name,hF1.func,hF1.tr,hF1.size,(fun q=>by cases u<;>cases q),h5.mono j2.ext,BW k2 k3,hF1.rd,hF1.up⟩
      exact oX.of_steps (.head hs1 (k4.trans (.one hs2))) j2 (bH hg e _ _ _ _ j1 hF2)
 ·cases e
 ·have hds:=hF.ds
  have hfd:fr.defers=[]:=by
   cases hq:fr.defers with
   |nil=>rfl
   |cons _ _=>rw[hq]at hds;exact hds.elim
  unfold si at e
  split at e
  ·unfold MC at e
   split at e
   ·rename_i v hv
    cases e
    obtain⟨y,y1,y2⟩:=zj (P:=E.P) (fn:=fn) h hF.tr hv
    refine AC h hF (en:=.returned y) y1 ⟨?_,hfd,fn,hF.name▸hF.func,y2⟩
    have:=hF.md
    cases hq:fr.mode<;>rw[hq]at this<;>first|rfl|exact this.elim
   ·cases e
  ·rename_i c
   cases e
   have:=hF.md
   cases hq:fr.mode with
   |run=>exact absurd hq hfm
   |returning=>rw[hq]at this;exact this.elim
   |panicking ch =>
    rw[hq]at this
    exact AC h hF (en:=.panicked ch) this ⟨hq,hfd,fn,hF.name▸hF.func⟩
  ·cases e
end
section
variable{E:cU}{ih:rG->S->Option eo}{f:FuncId}{fn:Func}
theorem yw(hE:gZ E)(hD:dH E)(hg:Good E.P ih){c:Code}{k:List Item}{t:T V}{ds:List dX}{up:Option Md}{rd:Option Nat}{s:S}{out:eo}
 (e:cQ c E f fn (fI ih f fn) (bt ih) (dL ih) k t ds up rd s=some out) {ρ:aB} {w:World} {fr:Frame} {cs:List Frame} (h:HR ρ s w) (hF:jl E.P ρ f fn t (.code c::k) ds .run up rd fr cs) :
 oX E.P f up.isSome rd.isSome cs (lone fr cs w) ρ w out:=by
 have hm:=xu hF
 have ht:=hF.todo rfl
 cases c with
 |ret =>
  simp only[cQ]at e
  exact iA hg e h hF (fun _ hro=>Tm hm ht hro) (fun l v w' hro hk hr c cs' hc=>by subst hc;exact TX hm hk hro ht hr)
 |skip=>exact dt h (PK hm ht) (hF.to k) (bH hg e)
 |label l=>exact dt h (Mi hm ht) (hF.to k) (bH hg e)
 |seq a b=>exact dt h (Tk hm ht) (hF.to _) (bH hg e)
 |cond c a b =>
  simp only[cQ]at e
  cases hv:eval t c with
  |none=>rw[hv]at e;cases e
  |some v =>
   rw[hv]at e
   have hd:=az hF.tr hv
   unfold CY at e
   split at e
   ·rename_i q hq
    cases hq
    simp only[den,Option.some.injEq]at hd
    refine dt h (PP hm ht hd.symm) (hF.to _) ?_
    have hb:(bif q then a else b)=if q then a else b:=by cases q<;>rfl
    rw[<- hb]
    exact bH hg e
   ·cases e
 |block id c=>exact dt h (Mk hm ht) (hF.to _) (bH hg e)
 |loop c=>exact dt h (PM hm ht) (hF.to _) (bH hg e)
 |scope c=>exact dt h (Mg hm ht) (hF.to _) (bH hg e)
 |exit id =>
  simp only[cQ]at e
  cases hx:exitTo id k with
  |none =>
   rw[hx]at e
   simp only[pt]at e
   exact iA (jump:=some (.exit id)) hg e h hF (fun hj=>by rcases hj with hj|hj<;>cases hj) (fun l v w' hro hk hr c cs' hc=>by subst hc;exact QG hm hk hro ht hx hr)
  |some k'=>rw[hx]at e;exact dt h (PO hm ht hx) (hF.to _) (bH hg e)
 |goto id =>
  simp only[cQ]at e
  cases hx:gotoIn id k with
  |none =>
   rw[hx]at e
   simp only[pt]at e
   exact iA (jump:=some (.goto id)) hg e h hF (fun hj=>by rcases hj with hj|hj<;>cases hj) (fun l v w' hro hk hr c cs' hc=>by subst hc;exact QF hm hk hro ht hx hr)
  |some k'=>rw[hx]at e;exact dt h (PN hm ht hx) (hF.to _) (bH hg e)
 |rangeFunc g ps a b=>exact uL hg e h hF
 |region id ops draw =>
  cases draw with
  |true =>
   simp only[cQ]at e
   cases hd:kn ops fn.ntmps with
   |false=>rw[hd]at e;cases e
   |true =>
    rw[hd]at e
    exact mt hg e hF.lone_up fun r hr=>hD ih hg f fn id ops k rd t ds up s r hd hr ρ w fr cs h hF
  |false =>
   simp only[cQ]at e
   cases hd:kn ops fn.ntmps with
   |false=>rw[hd]at e;cases e
   |true =>
    rw[hd]at e
    refine mt hg e hF.lone_up fun r hr=>?_
    have:=qb (k:=k) (rd:=rd) hE hg hd ops.toList (List.range ops.size) (QZ ops) t ds up s r hr ρ w _ cs h (hF.to _)
    exact this.of_steps (.one (Kk hm ht)) (FR.refl ρ w) (rB.refl hF) rfl
 |refuse why=>cases e
theorem wV(hE:gZ E)(hD:dH E)(hg:Good E.P ih){i:Item}{k:List Item}{t:T V}{ds:List dX}{up:Option Md}{rd:Option Nat}{s:S}{out:eo}
 (e:kg i E f fn (fI ih f fn) (bt ih) (dL ih) k t ds up rd s=some out) {ρ:aB} {w:World} {fr:Frame} {cs:List Frame} (h:HR ρ s w) (hF:jl E.P ρ f fn t (i::k) ds .run up rd fr cs) :
 oX E.P f up.isSome rd.isSome cs (lone fr cs w) ρ w out:=by
 have hm:=xu hF
 have ht:=hF.todo rfl
 cases i<;>try(cases e;done)
 case code c=>exact yw hE hD hg e h hF
 case inBlock id=>exact dt h (Gq hm ht) (hF.to k) (bH hg e)
 case inScope c=>exact dt h (Gp hm ht) (hF.to k) (bH hg e)
 case inLoop c=>exact dt h (Kl hm ht) (hF.to _) (bH hg e)
 case beginRound =>
  simp only[kg]at e
  cases rd with
  |none=>cases e
  |some l =>
   simp only at e
   unfold vC at e
   split at e
   ·rename_i pend f' t' ps a b d nt hs
    obtain⟨hu,lb,hl,hro⟩:=hF.rd
    obtain⟨r,r1,r2,r3,r4,r5,r6,r7,r8,r9,r10⟩:=vm h hs hl
    obtain⟨j1,j2⟩:=r10 .busy pend
    have hrun:=run_beginRound (P:=E.P) r1 r2
    have hst:=zh (P:=E.P) (cs:=cs) hm hro ht hrun
    have hpe:({ r with state:=LoopState.busy }:Loop)={ r with state:=.busy,pending:=pend }:=by rw[<- r3]
    rw[hpe]at hst
    exact oX.of_steps (.one hst) j2 (bH hg e _ _ _ _ j1 (hF.to k))
   ·cases e
theorem uO(hE:gZ E)(hD:dH E)(hg:Good E.P ih){t:T V}{todo:List Item}{ds:List dX}{m:Md}{up:Option Md}{rd:Option Nat}{s:S}{out:eo}
 (e:fE E f fn (fI ih f fn) (bt ih) (dL ih) t todo ds m up rd s=some out):Dp E.P f fn t todo ds m up rd s out:=by
 intro ρ w fr cs h hF
 cases m with
 |run =>
  simp only[fE]at e
  cases todo with
  |nil =>
   simp only[mg]at e
   have hm:=xu hF
   have ht:=hF.todo rfl
   exact iA hg e h hF (fun _ hro=>Tn hm ht hro) (fun l v w' hro hk hr c cs' hc=>by subst hc;exact TY hm hk hro ht hr)
  |cons i k=>exact wV hE hD hg e h hF
 |returning=>exact pP hg (by intro q;cases q) e h hF
 |panicking c=>exact pP hg (by intro q;cases q) e h hF
theorem qH{β:Type}:∀(l:List V) (i:Nat) (t:T V) (k:T V->β),jw l i t k=k (jw l i t id)
 |[],_,_,_=>rfl
 |x::r,i,t,k=>by
  simp only[jw,T.setK_eq]
  exact qH r (i+1) _ k
theorem AK:∀(l:List V) (i:Nat) (t:T V) (j:Nat),(jw l i t id).get (et j)=if i<=j/\j<i+l.length then l[j - i]? else t.get (et j)
 |[],i,t,j=>by rw[if_neg (by simp)];rfl
 |x::r,i,t,j=>by
  simp only[jw,T.setK_eq]
  rw[AK r (i+1) _ j,T.get_setN]
  simp only[List.length_cons]
  by_cases hj:i+1<=j/\j<i+1+r.length
  ·rw[if_pos hj,if_pos (by omega),show j - i=(j - (i+1))+1 by omega];rfl
  ·rw[if_neg hj]
   by_cases hi:i=j
   ·subst hi;rw[if_pos rfl,if_pos (by omega)];simp
   ·rw[if_neg hi,if_neg (by omega)]
theorem lc{β:Type}:∀(ps:List Tmp) (l:List V) (t:T V) (k:T V->β),cj t ps l k=k (cj t ps l id)
 |[],l,t,k=>by cases l<;>rfl
 |p::ps,[],t,k=>rfl
 |p::ps,x::l,t,k=>by
  simp only[cj,T.setK_eq]
  exact lc ps l _ k
theorem lR{ρ:aB}:∀(ps:List Tmp) (l:List V) (ys:List Value) (t:T V) (tm:Array Value),TR ρ t tm->aN ρ l=some ys->(∀ p∈ps,p<tm.size) ->
 TR ρ (cj t ps l id) ((ps.zip ys).foldl (fun tmps x=>tmps.setIfInBounds x.1 x.2) tm)/\((ps.zip ys).foldl (fun tmps x=>tmps.setIfInBounds x.1 x.2) tm).size=tm.size
 |[],l,ys,t,tm,ht,_,_=>by
  have:cj t [] l id=t:=by cases l<;>rfl
  rw[this];exact⟨ht,rfl⟩
 |p::ps,[],ys,t,tm,ht,hd,_=>by cases hd;exact⟨ht,rfl⟩
 |p::ps,x::l,ys,t,tm,ht,hd,hp=>by
  obtain⟨y,q,h1,h2,rfl⟩:=aM.1 hd
  simp only[cj,T.setK_eq,List.zip_cons_cons,List.foldl_cons]
  obtain⟨k1,k2⟩:=lR ps l q _ (tm.setIfInBounds p y) (ht.put h1 (hp p (by simp))) h2 (fun p' hp'=>by simpa using hp p' (by simp[hp']))
  exact⟨k1,by simpa using k2⟩
structure rD(E:cU):Prop where
 call:∀ f args s v s',E.orc f args s=some (v,s')->fB E.P f args none s ⟨.returned v,none,s'⟩
theorem CK(hg:Good E.P ih){args:List V}{up:Option Md}{s:S}{out:eo}(e:sI ih f args up s (E.P.funcs[f]?)=some out):fB E.P f args up s out:=by
 unfold sI at e
 split at e
 ·rename_i fn hf
  split at e
  ·rename_i c hb
   cases hn:(fn.name == "runtime.NumGoroutine")with
   |true=>rw[hn]at e;cases e
   |false =>
    rw[hn]at e
    simp only[cond_false]at e
    rw[qH]at e
    intro ρ w ys h hd
    have hne:fn.name ≠ "runtime.NumGoroutine" := by simpa using hn
    refine⟨fun w=>by simp[callFunc,hf,hne,hb],fun cs hup=>?_⟩
    refine hg _ s out e ρ w _ cs h ⟨rfl,hf,?_,?_,fun _=>?_,trivial,trivial,rfl,?_⟩
    ·intro i v hv
     rw[AK]at hv
     have hl:=bu hd
     split at hv
     ·rename_i hi
      obtain⟨y,h1,h2⟩:=dT _ hd hv
      refine⟨y,h1,?_⟩
      have hi2:i<ys.length:=(List.getElem?_eq_some_iff.1 h2).1
      simp only[Nat.sub_zero]at h2
      show(ys.toArray++Array.replicate _ undef)[i]? = some y
      rw[Array.getElem?_append_left (by simpa using hi2)]
      simpa using h2
     ·rw[T.get_leaf]at hv;cases hv
    ·show fn.ntmps<=(ys.toArray++Array.replicate _ undef).size
     simp[hf];omega
    ·simp[Frame.enter,hf,hb]
    ·cases up with
     |none=>rfl
     |some u =>
      obtain⟨c,cs',h1,h2⟩:=hup u rfl
      exact⟨rfl,c,cs',h1,h2⟩
  ·cases e
 ·cases e
theorem BR(hg:Good E.P ih){l:Nat}{args:List V}{s:S}{out:eo}(e:wb E ih l args s (s.get l)=some out):Pq E.P l args s out:=by
 intro ρ w lb ys h hl hd
 unfold wb at e
 split at e
 ·rename_i st pend f' t' ps a b d nt hs
  split at e
  ·rename_i fn hf
   cases hb:(Nat.ble fn.ntmps nt&&Nat.beq ps.size args.length&&ps.toList.all (fun p=>Nat.blt p nt))with
   |false=>rw[hb]at e;cases e
   |true =>
    rw[hb]at e
    simp only[cond_true]at e
    simp only[Bool.and_eq_true]at hb
    rw[lc]at e
    obtain⟨r,r1,r2,r3,r4,r5,r6,r7,r8,r9,r10⟩:=vm h hs hl
    have hlen:=bu hd
    have hsz:ys.toArray.size=r.params.size:=by
     have:=Nat.eq_of_beq_eq_true hb.1.2
     rw[r5,this];simpa using hlen
    have hy:=run_yield (P:=E.P) (args:=ys.toArray) r1 hsz
    have hfold:(r.params.zip ys.toArray).foldl (fun tmps (t,a)=>tmps.setIfInBounds t a) r.tmps=(ps.toList.zip ys).foldl (fun tmps x=>tmps.setIfInBounds x.1 x.2) r.tmps:=by
     rw[<- Array.foldl_toList,r5]
     simp
    obtain⟨k1,k2⟩:=lR ps.toList args ys t' r.tmps r8 hd (fun p hp=>Nat.lt_of_lt_of_le (jg (List.all_eq_true.1 hb.2 p hp)) r9)
    rw[hfold]at hy
    refine⟨_,_,_,_,hy,fun cs=>?_⟩
    rw[r4,r6,r7]
    refine hg _ s out e ρ w _ cs h ⟨rfl,hf,k1,?_,fun _=>rfl,trivial,trivial,⟨rfl,lb,hl,rfl⟩,rfl⟩
    exact Nat.le_trans (Nat.le_trans (Nat.le_of_ble_eq_true hb.1.1) r9) (Nat.le_of_eq k2.symm)
  ·cases e
 ·cases e
theorem zz(hE:gZ E)(hO:rD E)(hD:dH E)(hg:Good E.P ih):Good E.P (eB E ih):=by
 intro j s out e
 cases j with
 |frame f fn t todo ds m up rd=>exact uO hE hD hg e
 |call f args up =>
  simp only[eB]at e
  unfold yB at e
  split at e
  ·rename_i v s' hv
   cases up with
   |some u=>cases hv
   |none =>
    cases e
    exact hO.call f args s v s' hv
  ·exact CK hg e
 |round l args=>exact BR hg e
theorem kX(hE:gZ E)(hO:rD E)(hD:dH E):∀ n,Good E.P (pf E n)
 |0=>fun j s out e=>by cases e
 |n+1=>zz hE hO hD (kX hE hO hD n)
end
abbrev Ih:=rG->S->Option eo
def By(c:Nat->Ih)(R:Ih):Prop:=∀ j s o,R j s=some o->∃ n,∀ m,n<=m->c m j s=some o
def bm{α:Type}(c:Nat->Ih)(R:Ih)(Φ:Ih->Option α):Prop:=∀ x,Φ R=some x->∃ n,∀ m,n<=m->Φ (c m)=some x
section
variable{c:Nat->Ih}{R:Ih}{α β:Type}
theorem bm.const(x:Option α):bm c R (fun _=>x):=fun _ h=>⟨0,fun _ _=>h⟩
theorem bm.bind{Φ:Ih->Option α}{Ψ:Ih->Option α->Option β}(h:bm c R Φ)(hn:∀ ih,Ψ ih none=none)(hs:∀ x,bm c R (fun ih=>Ψ ih (some x))):bm c R (fun ih=>Ψ ih (Φ ih)):=by
 intro y hy
 cases hx:Φ R with
 |none=>simp only[hx,hn]at hy;cases hy
 |some x =>
  simp only[hx]at hy
  obtain⟨n1,h1⟩:=h x hx
  obtain⟨n2,h2⟩:=hs x y hy
  refine⟨max n1 n2,fun m hm=>?_⟩
  simp only[h1 m (by omega)]
  exact h2 m (by omega)
theorem bm.ih(h:By c R)(j:rG)(s:S):bm c R (fun ih=>ih j s):=fun o ho=>h j s o ho
theorem tD(h:By c R){Φ:Ih->Option eo}(hΦ:bm c R Φ)(d:Option Tmp)(t:T V)(ds:List dX)(up:Option Md){k:Ih->RK}(hk:∀ t ds up s,bm c R (fun ih=>k ih t ds up s)):bm c R (fun ih=>eR d t ds up (k ih) (Φ ih)):=by
 refine hΦ.bind (Ψ:=fun ih x=>eR d t ds up (k ih) x) (fun _=>rfl) fun o=>?_
 obtain⟨e,u,s⟩:=o
 cases e with
 |returned v=>simp only[eR,bZ];exact hk _ _ _ _
 |panicked c=>exact bm.const _
theorem Hq(h:By c R)(rd:Option Nat)(d:Option Tmp)(t:T V)(ds:List dX)(up:Option Md){k:Ih->RK}(hk:∀ t ds up s,bm c R (fun ih=>k ih t ds up s))(x:Option Nx) :
 bm c R (fun ih=>dE (bt ih) (dL ih) rd d t ds up (k ih) x):=by
 cases x with
 |none=>exact bm.const _
 |some x =>
  cases x with
  |val v s=>simp only[dE,bZ];exact hk _ _ _ _
  |skip s=>simp only[dE,bZ];exact hk _ _ _ _
  |enter f args s=>exact tD h (bm.ih h _ _) d t ds up hk
  |round l args s=>exact tD h (bm.ih h _ _) d t ds up hk
  |defer df s=>cases rd<;>simp only[dE,bZ,Option.isSome_some,Option.isSome_none,cond_true,cond_false]<;>first|exact hk _ _ _ _|exact bm.const _
  |recover s =>
   simp only[dE]
   unfold recovered
   split
   ·simp only[bZ];exact hk _ _ _ _
   ·simp only[bZ];exact hk _ _ _ _
   ·exact bm.const _
  |panic v s=>exact bm.const _
theorem Hp(h:By c R){E:cU}(rd:Option Nat)(o:Oper)(t:T V)(ds:List dX)(up:Option Md)(s:S){k:Ih->RK}(hk:∀ t ds up s,bm c R (fun ih=>k ih t ds up s))(b:Option Bool) :
 bm c R (fun ih=>pi E (bt ih) (dL ih) rd o t ds up s (k ih) b):=by
 cases b with
 |none=>exact bm.const _
 |some b=>cases b with
  |true=>exact Hq h rd _ t ds up hk _
  |false=>simp only[pi,bZ];exact hk _ _ _ _
theorem xD(h:By c R){E:cU}{ops:Array Oper}(rd:Option Nat):∀(l:List Oper) (t:T V) (ds:List dX) (up:Option Md) (s:S),bm c R (fun ih=>pd E ops (bt ih) (dL ih) rd l t ds up s)
 |[],_,_,_,_=>bm.const _
 |o::l,t,ds,up,s=>Hp h rd o t ds up s (fun t ds up s=>xD h rd l t ds up s) _
theorem Ht(h:By c R){E:cU}(t:T V)(s:S)(o:Oper)(b:Option Bool):bm c R (fun ih=>jP E (bt ih) t s o b):=by
 cases b with
 |none=>exact bm.const _
 |some b=>cases b with
  |false=>exact bm.const _
  |true =>
   simp only[jP]
   cases cT E t s o with
   |none=>exact bm.const _
   |some x=>cases x with
    |enter f args s =>
     simp only[pD]
     refine(bm.ih h (.call f args none) s).bind (Ψ:=fun _ x=>qT x) (fun _=>rfl) fun o=>bm.const _
    |_=>exact bm.const _
theorem tC(h:By c R){E:cU}{ops:Array Oper}{ms:List Nat}{effs:Nat}{all:List (Nat×Oper)}(ds:List dX)(up:Option Md):∀(es:List (Nat×Oper)) (hist:List (Nat×S)) (done:Nat) (t:T V) (s:S),
 bm c R (fun ih=>fN E ops ms effs all (bt ih) ds up es hist done t s)
 |[],_,_,_,_=>bm.const _
 |(i,o)::r,hist,done,t,s=>by
  simp only[fN]
  cases cw E ops ms effs hist (ms.getD i 0) all done t s with
  |none=>exact bm.const _
  |some x =>
   obtain⟨d1,t1,s1⟩:=x
   simp only
   refine(Ht h t1 s1 o (bw ops t1 o)).bind (Ψ:=fun ih (x:Option LC)=>match x with
    |some (.val v s')=>bif Nat.ble s1.next s'.next&&!(d1.testBit i)&&effs.testBit i then lY t1 o.dst (some v) fun t=>fN E ops ms effs all (bt ih) ds up r ((i,s')::hist) (Nat.lor d1 (Nat.pow 2 i)) t s' else none
    |some (.pan c s')=>bif d1.testBit i then none else MU ds up d1 all t1 c s' (cw E ops ms effs hist (dO ms i all) all d1 t1 s1)
    |none=>none) (fun _=>rfl) fun x=>?_
   cases x with
   |val v s' =>
    simp only
    cases (Nat.ble s1.next s'.next&&!(d1.testBit i)&&effs.testBit i)with
    |false=>exact bm.const _
    |true=>simp only[cond_true,bZ];exact tC h ds up r _ _ _ _
   |pan c s'=>exact bm.const _
theorem CE(h:By c R){E:cU}{ops:Array Oper}(t:T V)(ds:List dX)(up:Option Md)(s:S):bm c R (fun ih=>gL E ops (bt ih) (dL ih) t ds up s):=by
 unfold gL
 cases MR E.P ops with
 |none=>exact bm.const _
 |some p=>exact tC h ds up _ _ _ _ _
variable{f:FuncId}{fn:Func}
theorem fX(h:By c R)(t:T V)(todo:List Item)(ds:List dX)(m:Md)(up:Option Md)(rd:Option Nat)(s:S):bm c R (fun ih=>fI ih f fn t todo ds m up rd s):=bm.ih h _ _
theorem lA(h:By c R)(t:T V)(ds:List dX)(up:Option Md)(rd:Option Nat)(s:S)(jump:Option Code):bm c R (fun ih=>lr (fI ih f fn) t ds up rd s jump):=by
 unfold lr
 split
 ·split
  ·exact fX h _ _ _ _ _ _ _
  ·exact fX h _ _ _ _ _ _ _
  ·exact bm.const _
 ·split<;>exact bm.const _
theorem qQ(h:By c R){Φ:Ih->Option kG}(hΦ:bm c R Φ)(k:List Item)(rd:Option Nat):bm c R (fun ih=>gM (fI ih f fn) k rd (Φ ih)):=by
 refine hΦ.bind (Ψ:=fun ih x=>gM (fI ih f fn) k rd x) (fun _=>rfl) fun x=>?_
 cases x<;>exact fX h _ _ _ _ _ _ _
theorem ER(h:By c R){Φ:Ih->Option eo}(hΦ:bm c R Φ)(k:List Item)(t:T V)(ds:List dX)(up:Option Md)(rd:Option Nat)(d l:Nat):bm c R (fun ih=>jp (fI ih f fn) k t ds up rd d l (Φ ih)):=by
 refine hΦ.bind (Ψ:=fun ih x=>jp (fI ih f fn) k t ds up rd d l x) (fun _=>rfl) fun x=>?_
 obtain⟨e,u,s⟩:=x
 cases e with
 |panicked c=>exact fX h _ _ _ _ _ _ _
 |returned v =>
  simp only[jp]
  unfold qB
  split
  ·split
   ·exact bm.const _
   ·exact fX h _ _ _ _ _ _ _
  ·exact bm.const _
theorem zC(h:By c R)(nt:Nat)(k:List Item)(t:T V)(ds:List dX)(up:Option Md)(rd:Option Nat)(s:S)(ps:Array Tmp)(a b:Code)(x:Option V):bm c R (fun ih=>fC f nt (fI ih f fn) (bt ih) k t ds up rd s ps a b x):=by
 unfold fC
 split
 ·split
  ·split
   ·exact ER h (bm.ih h _ _) _ _ _ _ _ _ _
   ·exact bm.const _
  ·exact bm.const _
 ·exact bm.const _
theorem CG(h:By c R){E:cU}(co:Code)(k:List Item)(t:T V)(ds:List dX)(up:Option Md)(rd:Option Nat)(s:S):bm c R (fun ih=>cQ co E f fn (fI ih f fn) (bt ih) (dL ih) k t ds up rd s):=by
 cases co<;>simp only[cQ]<;>try exact fX h _ _ _ _ _ _ _
 case ret=>exact lA h _ _ _ _ _ _
 case cond q a b =>
  unfold CY
  split
  ·exact fX h _ _ _ _ _ _ _
  ·exact bm.const _
 case exit id =>
  unfold pt
  split
  ·exact fX h _ _ _ _ _ _ _
  ·exact lA h _ _ _ _ _ _
 case goto l =>
  unfold pt
  split
  ·exact fX h _ _ _ _ _ _ _
  ·exact lA h _ _ _ _ _ _
 case rangeFunc g ps a b=>exact zC h _ _ _ _ _ _ _ _ _ _ _
 case region id ops draws =>
  cases draws<;>simp only[]<;>cases kn ops fn.ntmps<;>simp only[cond_true,cond_false]<;>first|exact bm.const _|exact qQ h (xD h _ _ _ _ _ _) _ _|exact qQ h (CE h _ _ _ _) _ _
 case refuse=>exact bm.const _
theorem CF(h:By c R){E:cU}(i:Item)(k:List Item)(t:T V)(ds:List dX)(up:Option Md)(rd:Option Nat)(s:S):bm c R (fun ih=>kg i E f fn (fI ih f fn) (bt ih) (dL ih) k t ds up rd s):=by
 cases i<;>simp only[kg]<;>try(first|exact fX h _ _ _ _ _ _ _|exact bm.const _)
 case code co=>exact CG h co _ _ _ _ _ _
 case beginRound =>
  cases rd with
  |none=>exact bm.const _
  |some l =>
   simp only
   unfold vC
   split
   ·exact fX h _ _ _ _ _ _ _
   ·exact bm.const _
theorem xC(h:By c R){E:cU}(ds:List dX)(t:T V)(m:Md)(up:Option Md)(rd:Option Nat)(s:S):bm c R (fun ih=>cV ds E fn (fI ih f fn) (bt ih) t m up rd s):=by
 cases ds with
 |nil=>exact bm.const _
 |cons d ds =>
  cases d with
  |collected b =>
   simp only[cV]
   unfold jC
   split
   ·exact fX h _ _ _ _ _ _ _
   ·exact bm.const _
  |call fn cap args =>
   cases fn with
   |func g =>
    simp only[cV]
    refine(bm.ih h (.call g (args++cap) (some m)) s).bind (Ψ:=fun ih x=>je (fI ih f _) t ds up rd x) (fun _=>rfl) fun x=>?_
    unfold je
    split
    ·split
     ·exact bm.const _
     ·exact fX h _ _ _ _ _ _ _
    ·exact fX h _ _ _ _ _ _ _
    ·exact bm.const _
   |_=>exact bm.const _
theorem mR(h:By c R){E:cU}(j:rG)(s:S):bm c R (fun ih=>eB E ih j s):=by
 cases j with
 |frame f fn t todo ds m up rd =>
  simp only[eB]
  cases m with
  |run =>
   simp only[fE]
   cases todo with
   |nil=>simp only[mg];exact lA h _ _ _ _ _ _
   |cons i k=>simp only[mg];exact CF h i _ _ _ _ _ _
  |returning=>simp only[fE];exact xC h _ _ _ _ _ _
  |panicking c=>simp only[fE];exact xC h _ _ _ _ _ _
 |call f args up =>
  simp only[eB]
  unfold yB
  split
  ·exact bm.const _
  ·unfold sI
   split
   ·split
    ·rename_i fn _ _ co _
     cases hn:(fn.name == "runtime.NumGoroutine")with
     |true=>exact bm.const _
     |false =>
      have:(fun ih:Ih=>bif false then none else jw args 0 .leaf fun t=>ih (.frame f fn t [.code co] [] .run up none) s)=fun ih=>ih (.frame f fn (jw args 0 .leaf id) [.code co] [] .run up none) s:=funext fun ih=>qH args 0 .leaf _
      rw[this]
      exact bm.ih h _ _
    ·exact bm.const _
   ·exact bm.const _
 |round l args =>
  simp only[eB]
  unfold wb
  split
  ·split
   ·rename_i _ _ f0 t0 ps assign body _ nt _ _ fn _
    cases hn:(Nat.ble fn.ntmps nt&&Nat.beq ps.size args.length&&ps.toList.all (fun p=>Nat.blt p nt))with
    |false=>exact bm.const _
    |true =>
     have:(fun ih:Ih=>bif true then cj t0 ps.toList args fun t=>ih (.frame f0 fn t [.code assign,.beginRound,.code body] [] .run none (some l)) s else none)=fun ih=>ih (.frame f0 fn (cj t0 ps.toList args id) [.code assign,.beginRound,.code body] [] .run none (some l)) s:=funext fun ih=>lc ps.toList args t0 _
     rw[this]
     exact bm.ih h _ _
   ·exact bm.const _
  ·exact bm.const _
end
def lim(E:cU):Ih:=fun j s=>open Classical in if h:∃ o n,pf E n j s=some o then some h.choose else none
theorem wa(E:cU):∀ n j s o,pf E n j s=some o->pf E (n+1) j s=some o
 |0,_,_,_,h=>by cases h
 |n+1,j,s,o,h=>by
  have hl:By (fun _=>pf E (n+1)) (pf E n):=fun j s o h=>⟨0,fun _ _=>wa E n j s o h⟩
  obtain⟨k,hk⟩:=mR hl (E:=E) j s o h
  exact hk k (Nat.le_refl _)
theorem rO(E:cU){n m:Nat}(hm:n<=m){j:rG}{s:S}{o:eo}(h:pf E n j s=some o):pf E m j s=some o:=by
 induction hm with
 |refl=>exact h
 |step _ ih=>exact wa E _ j s o ih
theorem DU{E:cU}{n:Nat}{j:rG}{s:S}{o:eo}(h:pf E n j s=some o):lim E j s=some o:=by
 have hex:∃ o n,pf E n j s=some o:=⟨o,n,h⟩
 unfold lim
 rw[dif_pos hex]
 obtain⟨m,hm⟩:=hex.choose_spec
 have h1:=rO E (Nat.le_max_left n m) h
 have h2:=rO E (Nat.le_max_right n m) hm
 rw[h1]at h2
 rw[<- Option.some.inj h2]
theorem wJ{E:cU}{j:rG}{s:S}{o:eo}(h:lim E j s=some o):∃ n,pf E n j s=some o:=by
 unfold lim at h
 split at h
 ·rename_i hex
  cases h
  exact hex.choose_spec
 ·cases h
theorem QM(E:cU):By (pf E) (lim E):=fun j s o h=>by
 obtain⟨n,hn⟩:=wJ h
 exact⟨n,fun m hm=>rO E hm hn⟩
theorem NC(E:cU)(j:rG)(s:S):lim E j s=eB E (lim E) j s:=by
 cases h:eB E (lim E) j s with
 |some o =>
  obtain⟨n,hn⟩:=mR (QM E) j s o h
  exact DU (n:=n+1) (hn n (Nat.le_refl _))
 |none =>
  cases h2:lim E j s with
  |none=>rfl
  |some o =>
   obtain⟨n,hn⟩:=wJ h2
   cases n with
   |zero=>cases hn
   |succ n =>
    have hl:By (fun _=>lim E) (pf E n):=fun j s o h=>⟨0,fun _ _=>DU h⟩
    obtain⟨k,hk⟩:=mR hl (E:=E) j s o hn
    have h3:eB E (lim E) j s=some o:=hk k (Nat.le_refl _)
    rw[h]at h3;cases h3
theorem NB{E:cU}(hE:gZ E)(hO:rD E)(hD:dH E):Good E.P (lim E):=fun j s o h=>by
 obtain⟨n,hn⟩:=wJ h
 exact kX hE hO hD n j s o hn
section ops
variable{P:Program}{ρ:aB}{s:S}{w:World}{t:T V}{tm:Array Value}
theorem HJ(h:HR ρ s w){b:Builtin}(hb:b=.len\/b=.cap\/b=.max\/b=.min){ts:Array TypeId}{ty:TypeId}{consts:Array Bool}{args:List V}{ys:List Value}(hd:aN ρ args=some ys){nx:Nx}(e:iv P b ts args s=some nx) :
 yW P ρ w s nx ((Go.builtin b ts ty consts ys.toArray).run P w):=by
 rcases hb with rfl|rfl|rfl|rfl
 ·simp only[iv]at e
  split at e
  ·rename_i t0 h0
   split at e
   ·rename_i x
    obtain⟨X,hx,rfl⟩:=lF hd
    exact aP h e fun v hv=>wL h h0 hx hv
   ·cases e
  ·cases e
 ·simp only[iv]at e
  split at e
  ·rename_i t0 h0
   split at e
   ·rename_i x
    obtain⟨X,hx,rfl⟩:=lF hd
    exact aP h e fun v hv=>yz h0 hx hv
   ·cases e
  ·cases e
 ·simp only[iv]at e
  refine aP (m:=Builtin.max_ ts ty ys.toArray) h e fun v hv=>?_
  cases args with
  |nil=>cases hv
  |cons x r =>
   obtain⟨X,q,hx,hr,rfl⟩:=aM.1 hd
   exact iX wB r q x X v hr hx hv
 ·simp only[iv]at e
  refine aP (m:=Builtin.min_ ts ty ys.toArray) h e fun v hv=>?_
  cases args with
  |nil=>cases hv
  |cons x r =>
   obtain⟨X,q,hx,hr,rfl⟩:=aM.1 hd
   exact iX wz r q x X v hr hx hv
theorem HF(h:HR ρ s w)(ht:TR ρ t tm){src dst:TypeId}(hdst:∀ el,P.underlying dst≠some (.slice el)){x:Operand}{nx:Nx}(e:ga P s src dst (eval t x)=some nx) :
 yW P ρ w s nx ((do pure (Next.value (<- convert src dst (rv tm x))):Sem Next).run P w):=by
 unfold ga at e
 split at e
 ·rename_i v hv
  have dv:=az ht hv
  generalize rv tm x=X at *
  unfold ia at e
  split at e
  ·rename_i y s' hc
   cases e
   unfold gU at hc
   split at hc
   ·rename_i ds hs
    split at hc
    ·rename_i k hd
     split at hc
     ·rename_i j n
      cases hc;cases dv
      have:(convert src dst (.int j n)).run P w=.ok (.int k (k.wrap n)) w:=by
       cases ds<;>simp[convert,av hs,av hd,Conv.intToInt]
      exact⟨_,.int k (k.wrap n),rfl,by simp[this],by rw[cb];rfl⟩
     ·cases hc
    ·rename_i hd
     obtain⟨rfl,y',h1,h2⟩:=sX h hs hd dv hc
     exact⟨_,y',rfl,by simp[h2],h1⟩
    ·rename_i el hd
     exact absurd hd (hdst el)
    ·cases hc
   ·cases hc
  ·cases e
 ·cases e
theorem Ao{E:cU}(h:HR ρ s w)(ht:TR ρ t tm)(o:Oper)(hk:aD E.P o.op<=1){nx:Nx}(e:cT E t s o=some nx):yW E.P ρ w s nx ((execOp (rv tm) o).run E.P w):=by
 obtain⟨dst,op,type,pos,after,guard⟩:=o
 unfold cT at e
 simp only at e hk
 cases op<;>simp only[cS]at e<;>try(cases e;done)
 case move x=>exact qy h ht e
 case assign x=>exact qy h ht e
 case pick c a b=>exact qV h ht e
 case alloc elem=>simp[aD]at hk
 case box elem x=>simp[aD]at hk
 case build ty parts=>exact oU h ht e
 case buildSlice ty len parts=>simp[aD]at hk
 case load ty x=>exact qX h ht e
 case store ty x y=>simp[aD]at hk
 case nilCheck x=>exact ku h ht e
 case binOp op ty x y z=>exact uD h ht e
 case unOp op ty x=>exact yl h ht e
 case convert src dst x =>
  refine HF h ht (fun el hu=>?_) e
  simp[aD,hu]at hk
 case makeInterface ty x=>exact lU h ht e
 case makeFunc fn first cap=>exact nc h ht e
 case makeMap ty r=>simp[aD]at hk
 case makeSlice ty l c=>simp[aD]at hk
 case slice ty x lo hi mx=>exact oR h ht e
 case fieldAddr ty x f=>exact jA h ht e
 case field ty x f=>exact oT h ht e
 case indexAddr ty x i=>exact jz h ht e
 case index ty x i=>exact oS h ht e
 case lookup ty x k ok=>exact ng h ht e
 case mapUpdate ty m k x=>simp[aD]at hk
 case insert ty m k x=>simp[aD]at hk
 case typeAssert x xt ty ok=>exact nh h ht e
 case extract x i=>exact lV h ht e
 case call c =>
  unfold gy at e
  split at e
  ·rename_i args ha
   obtain⟨ys,y1,y2⟩:=yL ht ha
   split at e
   ·rename_i b hc
    have hb:b=.len\/b=.cap\/b=.max\/b=.min:=by
     simp only[aD,hc]at hk
     cases b<;>simp at hk ⊢
    simp only[execOp,resolve,hc,Sem.run_bind,Sem.run_pure,Result.andThen_ok,invoke,y2]
    exact HJ h hb y1 e
   ·rename_i f hc
    simp[aD,hc]at hk
   ·cases e
  ·cases e
 case defer c=>simp[aD]at hk
 case panic x=>simp[aD]at hk
end ops
section ops
variable{P:Program}{ρ:aB}{s:S}{w:World}{t:T V}{tm:Array Value}
def LB(P:Program)(ρ:aB)(w:World)(mk:Nat->V)(B:dB)(m:Sem Next):Prop :=
 ∃ y obj lim n,m.run P w=.ok (.value y) ({ w with drawn:=n }.alloc obj) /\
  ∀ ρ' f,ρ.le ρ'->ρ' f 0=some ⟨w.heap.size,0,lim⟩->(∀ v,1<=v->ρ' f v=none)->den ρ' (mk f)=some y/\∀ w':World,w'.heap[w.heap.size]? = some obj->yZ ρ' w' f B
theorem sO{ρ':aB}{f:Nat}{lim b:Nat}{cs:List V}{ys:Array Value}{sb:Bool}{el e':TypeId}{fz:Nat×Nat}(hd:aN ρ cs=some (ys.toList.take cs.length))(hfz:(sb=false->fz=(0,0))/\∀ i,i<ys.size->¬(fz.1<=i/\i<fz.2))
 (hl:ρ.le ρ') (h0:ρ' f 0=some ⟨b,0,lim⟩) (h1:∀ v,1<=v->ρ' f v=none) (hlim:lim=ys.size) {w':World} (hw:w'.heap[b]? = some (.cells ys e' fz)):yZ ρ' w' f (.cells el sb 1 [⟨0,0,cs⟩]):=by
 refine⟨h1,fun u hu=>?_⟩
 simp at hu;subst hu
 refine⟨Nat.zero_lt_one,_,ys,e',fz,h0,hw,Nat.le_refl _,by simp[hlim],hfz,fun i x hx=>?_⟩
 obtain⟨y,hy,hy'⟩:=dT i hd hx
 refine⟨y,bk hl _ _ hy,?_⟩
 have hi:i<cs.length:=(List.getElem?_eq_some_iff.1 hx).1
 rw[List.getElem?_take_of_lt hi,Array.getElem?_toList]at hy'
 simpa using hy'
theorem Er{elem:TypeId}{v:V}{y:Value}(hv:den ρ v=some y):LB P ρ w (fun f=>.ptr ⟨f,0,0⟩) (.cells elem false 1 [⟨0,0,v.cells⟩]) (do pure (Next.value (.pointer (some (<- newVar elem y))))):=by
 refine⟨_,_,y.cells.size,w.drawn,by simp[newVar,newRow];exact⟨rfl,rfl⟩,fun ρ' f hl h0 h1=>⟨by simp[den,gw,h0],fun w' hw=>?_⟩⟩
 exact sO (by rw[dS hv,<- lH hv,List.take_of_length_le (by simp)]) ⟨fun _=>rfl,by simp⟩ hl h0 h1 rfl hw
theorem Nv{elem:TypeId}{cs:List V}{ys:Array Value}(hd:aN ρ cs=some ys.toList){len sz cap:Nat}(hl:len<=cap)(hsz:0<sz) :
 LB P ρ w (fun f=>.slice ⟨f,0,0⟩ 0 len (some cap) sz) (.cells elem false 1 [⟨0,0,cs⟩]) (do pure (Next.value (.slice (some (<- newRow elem ys)) len cap))):=by
 have hlen:cs.length=ys.size:=by have:=bu hd;simpa using this.symm
 refine⟨_,_,ys.size,w.drawn,by simp[newRow];exact⟨rfl,rfl⟩,fun ρ' f hle h0 h1=>⟨?_,fun w' hw=>?_⟩⟩
 ·exact cX (a:=⟨f,0,0⟩) (cap:=some cap) h0 (Nat.zero_le _) (Nat.zero_le _) hl hsz
 ·exact sO (by rw[hd,hlen,List.take_of_length_le (by simp)]) ⟨fun _=>rfl,by simp⟩ hle h0 h1 rfl hw
def sU(P:Program)(ρ:aB)(w:World)(d:S->Option Nx)(m:Sem Next):Prop :=
 ∃ mk B,(∀ s',d s'=some (.val (mk s'.next) (s'.alloc B)))/\LB P ρ w mk B m
theorem LB.congr{mk:Nat->V}{B:dB}{m m':Sem Next}(h:LB P ρ w mk B m)(e:m'.run P w=m.run P w):LB P ρ w mk B m':=by
 obtain⟨y,obj,lim,n,h1,h2⟩:=h
 exact⟨y,obj,lim,n,e.trans h1,h2⟩
theorem CO{elem:TypeId}{nx:Nx}(e:iG P s elem=some nx):sU P ρ w (fun s=>iG P s elem) (do pure (Next.value (<- Instr.alloc elem true (.tuple #[])))):=by
 unfold iG at e
 split at e
 ·rename_i z hz
  obtain⟨y,i,hi,hzi,hd⟩:=eh hz
  refine⟨_,_,fun s'=>by simp only[iG,hz,oG,aW,aV],(Er (P:=P) (w:=w) (elem:=elem) (hd ρ)).congr ?_⟩
  simp only[Instr.alloc,Sem.run_bind,fj hi hzi,Result.andThen_ok,Sem.run_pure]
  simp[newVar,newRow]
 ·cases e
theorem Hx(ht:TR ρ t tm){elem:TypeId}{x:Operand}{nx:Nx}(e:qZ s elem (eval t x)=some nx):sU P ρ w (fun s=>qZ s elem (eval t x)) (do pure (Next.value (<- Instr.box elem (rv tm x)))):=by
 unfold qZ at e
 split at e
 ·rename_i z hz
  refine⟨_,_,fun s'=>by simp only[qZ,hz,oG,aW,aV],(Er (P:=P) (w:=w) (elem:=elem) (az ht hz)).congr ?_⟩
  simp only[Instr.box,Sem.run_bind,Sem.run_pure]
  simp[newVar,newRow]
 ·cases e
theorem ym{ty:TypeId}:sU P ρ w (fun s=>some (.val (.map s.next) (s.alloc (.map [] 0)))) (do pure (Next.value (<- Instr.makeMap ty none))):=by
 refine⟨fun f=>.map f,.map [] 0,fun s'=>rfl,.map (some w.heap.size),.map #[] 0,0,w.drawn,by simp[Instr.makeMap],fun ρ' f hl h0 h1=>⟨by simp[den,h0],fun w' hw=>⟨_,#[],h0,hw,trivial⟩⟩⟩
def Ke(P:Program)(ρ:aB)(w:World)(d:S->Option Nx)(m:Sem Value):Prop :=
 ∃(el:TypeId) (cs:List V) (ys:Array Value) (len cap sz:Nat),(∀ s',d s'=some (.val (.slice (aW s' el cs).1 0 len (some cap) sz) (aW s' el cs).2))/\aN ρ cs=some ys.toList/\len<=cap/\0<sz /\
  m.run P w=(do pure (.slice (some (<- newRow el ys)) len cap):Sem Value).run P w
theorem Ke.made{d:S->Option Nx}{m:Sem Value}(h:Ke P ρ w d m):sU P ρ w d (do pure (Next.value (<- m))):=by
 obtain⟨el,cs,ys,len,cap,sz,h1,h2,h3,h4,h5⟩:=h
 refine⟨_,_,fun s'=>by rw[h1];simp only[aW,aV],(Nv (P:=P) (w:=w) (elem:=el) h2 h3 h4).congr ?_⟩
 simp only[Sem.run_bind]at h5 ⊢
 rw[h5]
 simp[newRow]
theorem zG(ht:TR ρ t tm){ty:TypeId}{l c:Operand}{nx:Nx}(e:dR P s ty (dG (eval t l)) (dG (eval t c))=some nx) :
 Ke P ρ w (fun s=>dR P s ty (dG (eval t l)) (dG (eval t c))) (Instr.makeSlice ty (rv tm l) (rv tm c)):=by
 unfold dR at e
 split at e
 ·rename_i el hu
  split at e
  ·rename_i l' hl
   split at e
   ·rename_i c' hc
    obtain⟨k1,e1⟩:=fD ht hl
    obtain⟨k2,e2⟩:=fD ht hc
    split at e
    ·rename_i z hz
     obtain⟨zv,i,hi,hzi,hden⟩:=eh hz
     split at e
     ·rename_i n hn
      cases hb:(Nat.ble l' c'&&Nat.ble c' 2199023255552&&!(Nat.beq n 0)&&Nat.beq z.cells.length n&&kP P el c')with
      |false=>simp[hb]at e
      |true =>
       have hbb:=hb
       simp only[hb,cond_true]at e
       simp only[Bool.and_eq_true]at hb
       obtain⟨⟨⟨⟨b1,b2⟩,b3⟩,b4⟩,b5⟩:=hb
       have b1:=Nat.le_of_ble_eq_true b1
       have b2:=Nat.le_of_ble_eq_true b2
       have b4:=Nat.eq_of_beq_eq_true b4
       have b3:0<n:=by
        rcases Nat.eq_zero_or_pos n with h0|h0
        ·subst h0;simp at b3
        ·exact h0
       have b5:i.bytes*c'<=100000000000000:=by
        unfold kP at b5
        simp only[hi]at b5
        exact Nat.le_of_ble_eq_true b5
       have hzc:=dS (hden ρ)
       have hzl:zv.cells.toList.length=n:=by have:=bu hzc;omega
       have hrow:=yu zv.cells.toList n hzl b3 c'
       have hd:aN ρ (List.replicate c' z.cells).flatten=some ((List.replicate c' zv.cells.toList).flatten.toArray).toList:=by simpa using gb hzc c'
       have hrun:(Instr.makeSlice ty (rv tm l) (rv tm c)).run P w=(do pure (.slice (some (<- newRow el (List.replicate c' zv.cells.toList).flatten.toArray)) l' c'):Sem Value).run P w:=by
        have hsz:=bQ hn w
        have w1:=kI l' (by omega)
        have w2:=kI c' b2
        simp only[Int.ofNat_eq_natCast]at w1 w2
        have hA:∀ k n,(asInt (.int k n)).run P w=.ok n w:=fun k n=>by simp[asInt,asIntOf]
        have hrow2:Array.map (fun x=>zv.cells[x%zv.cells.size]!) (Array.range (c'*n))=(List.replicate c' zv.cells.toList).flatten.toArray:=by
         apply Array.toList_inj.1
         rw[<- hrow]
         simp[Array.toList_range]
        have hbig:(decide ((c':Int)<0)||decide ((i.bytes:Int)*(c':Int)>2 ^ 48))=false:=by
         have g1:¬((c':Int)<0):=by omega
         have g2:¬((i.bytes:Int)*(c':Int)>2 ^ 48):=by
          have e:(i.bytes:Int)*(c':Int)=((i.bytes*c':Nat):Int):=(Int.natCast_mul _ _).symm
          rw[e]
          generalize i.bytes*c'=q at b5
          have:(2:Int) ^ 48=281474976710656:=rfl
          omega
         rw[decide_eq_false g1,decide_eq_false g2];rfl
        have hl0:decide ((l':Int)<0)=false:=by simp
        have hlc:decide ((l':Int)>(c':Int))=false:=by simp;omega
        have hti:(typeInfo el).run P w=.ok i w:=by simp[typeInfo,hi]
        have hzr:=fj hi hzi w
        simp only[Instr.makeSlice,Sem.run_bind,av hu,Result.andThen_ok,e1,e2,hA,Sem.run_pure,hti,Int.ofNat_eq_natCast,w1,w2,Int.toNat_natCast]
        rw[if_neg (by rw[hbig,hl0,hlc];simp)]
        simp only[Sem.run_bind,run_askRoom,Result.andThen_ok,hsz]
        by_cases hc0:c'*n=0
        ·rw[if_pos hc0]
         have g:∀ f:Nat->Value,Array.map f (Array.range 0)=#[]:=fun f=>by simp
         simp only[Sem.run_bind,Sem.run_pure,Result.andThen_ok,<- hrow2,hc0,g]
        ·rw[if_neg hc0]
         simp only[Sem.run_bind,hzr,Result.andThen_ok,Sem.run_pure,hrow2]
       have hb':(Nat.ble l' c'&&Nat.ble c' 2199023255552&&!(Nat.beq n 0)&&Nat.beq z.cells.length n&&kP P el c')=true:=hbb
       exact⟨el,_,_,l',c',n,fun s'=>by simp only[dR,hu,hl,hc,hz,hn,hb',cond_true,aW,aV],hd,b1,b3,hrun⟩
     ·cases e
    ·cases e
   ·cases e
  ·cases e
 ·cases e
theorem sL(ht:TR ρ t tm){ty:TypeId}{len:Nat}{parts:Array (Nat×Operand)}{nx:Nx}(e:ce P s ty len (dP t parts.toList)=some nx) :
 Ke P ρ w (fun s=>ce P s ty len (dP t parts.toList)) (Instr.buildSlice ty len (parts.map fun(i,x)=>(i,rv tm x))):=by
 unfold ce at e
 split at e
 ·rename_i el hu
  split at e
  ·rename_i l hl
   have hl0:=hl
   have hp:=iE ht hl
   have hpl:(parts.toList.map fun(i,x)=>(i,rv tm x))=(parts.map fun(i,x)=>(i,rv tm x)).toList:=by simp
   rw[hpl]at hp
   split at e
   ·rename_i z hz
    obtain⟨zv,it,hi,hzi,hden⟩:=eh hz
    have hzc:=dS (hden ρ)
    split at e
    ·rename_i n hn
     cases hb:(Nat.ble (len*n) 10000&&!(Nat.beq n 0)&&Nat.beq z.cells.length n)with
     |false=>rw[hb]at e;cases e
     |true =>
      have hbb:=hb
      rw[hb]at e
      simp only[cond_true]at e
      simp only[Bool.and_eq_true]at hb
      have b1:=Nat.le_of_ble_eq_true hb.1.1
      have b2:0<n:=by
       rcases Nat.eq_zero_or_pos n with h0|h0
       ·subst h0;simp at hb
       ·exact h0
      have b3:=Nat.eq_of_beq_eq_true hb.2
      unfold jV at e
      split at e
      ·rename_i cs hcs
       have hzl:zv.cells.toList.length=n:=by have:=bu hzc;omega
       have hrow:=yu zv.cells.toList n hzl b2 len
       have hd:aN ρ (List.replicate len z.cells).flatten=some ((List.replicate len zv.cells.toList).flatten.toArray).toList:=by simpa using gb hzc len
       obtain⟨zs,hz1,hz2⟩:=ja (place:=fun i=>some (i*n,n)) (fun i x hx=>hx) hp hd hcs
       have hrow2:Array.map (fun x=>zv.cells[x%zv.cells.size]!) (Array.range (len*n))=(List.replicate len zv.cells.toList).flatten.toArray:=by
        apply Array.toList_inj.1
        rw[<- hrow]
        simp[Array.toList_range]
       have hrun:(Instr.buildSlice ty len (parts.map fun(i,x)=>(i,rv tm x))).run P w=(do pure (.slice (some (<- newRow el zs)) len len):Sem Value).run P w:=by
        simp only[Instr.buildSlice,Sem.run_bind,av hu,Result.andThen_ok,bQ hn]
        rw[if_neg (by omega)]
        by_cases hc0:len*n=0
        ·rw[if_pos hc0]
         have g:∀ f:Nat->Value,Array.map f (Array.range 0)=#[]:=fun f=>by simp
         rw[<- hrow2,hc0,g]at hz1
         simp only[Sem.run_bind,Sem.run_pure,Result.andThen_ok,hc0,g,hz1]
        ·rw[if_neg hc0]
         simp only[Sem.run_bind,fj hi hzi,Result.andThen_ok,Sem.run_pure,hrow2,hz1]
       exact⟨el,_,_,len,len,n,fun s'=>by simp only[ce,hu,hl0,hz,hn,hbb,cond_true,jV,hcs,aW,aV],hz2,Nat.le_refl _,b2,hrun⟩
      ·cases e
    ·cases e
   ·cases e
  ·cases e
 ·cases e
theorem Fj(ht:TR ρ t tm){src dst el:TypeId}(hdst:P.underlying dst=some (.slice el)){x:Operand}{nx:Nx}(e:ga P s src dst (eval t x)=some nx) :
 sU P ρ w (fun s=>ga P s src dst (eval t x)) (do pure (Next.value (<- convert src dst (rv tm x)))):=by
 unfold ga at e
 split at e
 ·rename_i v hv
  have dv:=az ht hv
  generalize rv tm x=X at *
  unfold ia gU at e
  cases hs:P.underlying src with
  |none=>simp[hs]at e
  |some ds =>
   simp only[hs,hdst]at e
   cases v<;>simp only[nF]at e<;>try(cases e;done)
   rename_i l
   cases ds<;>simp only at e<;>try(cases e;done)
   cases hb:fS P el with
   |false=>rw[hb]at e;cases e
   |true =>
    cases dv
    have hrun:=run_bytes_of_string w src dst el (ay l) hs hdst (iB hb)
    rw[dy]at hrun
    have hge:=grownCap_ge w l.length 0 el
    generalize hc:grownCap w l.length 0 el=cap at *
    have hsz:(bytesRow (ay l) cap).size=cap:=by
     simp only[bytesRow,Array.size_append,Array.size_map,Array.size_replicate,dy]
     have:(ay l).data.size=l.length:=dy l
     omega
    rw[hsz]at hrun
    have hd':aN ρ (l.map kD)=some ((bytesRow (ay l) cap).toList.take (l.map kD).length):=by
     rw[nX]
     have:(ay l).data.toList.length=l.length:=by simp[ay]
     simp[bytesRow,this]
    refine⟨fun f=>.slice ⟨f,0,0⟩ 0 l.length none 1,.cells el true 1 [⟨0,0,l.map kD⟩],fun s'=>?_,_,_,cap,w.drawn+1,by simp only[Sem.run_bind,hrun,Result.andThen_ok,Sem.run_pure];rfl,fun ρ' f hl h0 h1=>⟨?_,fun w' hw=>?_⟩⟩
    ·simp only[ga,hv,ia,gU,hs,hdst,nF,hb,cond_true,aV]
    ·have:=cX (a:=⟨f,0,0⟩) (z:=0) (len:=l.length) (cap:=none) (sz:=1) h0 (by simp) (Nat.zero_le _) (by simpa[bT]using hge) Nat.one_pos
     rw[this]
     simp[bT,ba]
    ·exact sO hd' ⟨(fun h=>by cases h),fun i hi=>by rw[hsz]at hi;simp;omega⟩ hl h0 h1 hsz.symm hw
 ·cases e
theorem Ks{E:cU}(ht:TR ρ t tm)(o:Oper)(hk:aD E.P o.op=2){nx:Nx}(e:cT E t s o=some nx):sU E.P ρ w (fun s=>cT E t s o) (execOp (rv tm) o):=by
 obtain⟨dst,op,type,pos,after,guard⟩:=o
 unfold cT at e ⊢
 simp only at e hk ⊢
 cases op<;>simp only[cS]at e ⊢<;>try(cases e;done)
 case alloc elem=>exact CO e
 case box elem x=>exact Hx ht e
 case buildSlice ty len parts=>exact(sL ht e).made
 case makeMap ty r =>
  cases r with
  |none=>exact ym
  |some _=>cases e
 case makeSlice ty l c=>exact(zG ht e).made
 case convert src dst x =>
  cases hu:E.P.underlying dst with
  |none=>simp[aD,hu]at hk
  |some d=>cases d<;>simp[aD,hu]at hk;exact Fj ht hu e
 case binOp op ty x y z=>simp only[aD]at hk;cases hb:mJ op<;>simp[hb]at hk
 case call c=>simp only[aD]at hk;split at hk<;>simp at hk
 all_goals simp[aD]at hk
end ops
section ops
variable{s:S}{t t':T V}
theorem gS:∀ {l:List Operand},(∀ x∈l,eval t x=eval t' x)->gn t l=gn t' l
 |[],_=>rfl
 |x::r,h=>by
  have ih:=gS (l:=r) fun y hy=>h y (List.mem_cons_of_mem _ hy)
  simp only[gn,h x (by simp),ih]
theorem lB:∀ {l:List (Nat×Operand)},(∀ x∈l,eval t x.2=eval t' x.2)->dP t l=dP t' l
 |[],_=>rfl
 |(i,x)::r,h=>by
  have ih:=lB (l:=r) fun y hy=>h y (List.mem_cons_of_mem _ hy)
  simp only[dP,h (i,x) (by simp),ih]
theorem mV{x:Option Operand}(h:∀ y,x=some y->eval t y=eval t' y):kl t x=kl t' x:=by
 cases x with
 |none=>rfl
 |some y=>simp only[kl,h y rfl]
theorem Hv{E:cU}(o:Oper)(h:∀ x∈o.op.operands,eval t x=eval t' x):cT E t s o=cT E t' s o:=by
 obtain⟨dst,op,type,pos,after,guard⟩:=o
 unfold cT
 simp only at h ⊢
 cases op<;>simp only[Op.operands]at h<;>simp only[cS]<;>try rfl
 case move x=>rw[h x (by simp)]
 case assign x=>rw[h x (by simp)]
 case pick c a b =>
  have h1:∀ q:Bool,eval t (bif q then a else b)=eval t' (bif q then a else b):=fun q=>by cases q<;>exact h _ (by simp)
  simp only[lC,h c (by simp),h1]
 case box elem x=>rw[h x (by simp)]
 case build ty parts=>rw[lB fun x hx=>h x.2 (by simp;exact⟨x.1,by simpa using hx⟩)]
 case buildSlice ty len parts=>rw[lB fun x hx=>h x.2 (by simp;exact⟨x.1,by simpa using hx⟩)]
 case load ty x=>rw[h x (by simp)]
 case store ty x y=>rw[h x (by simp),h y (by simp)]
 case nilCheck x=>rw[h x (by simp)]
 case binOp op ty x y z=>rw[h x (by simp),h y (by simp)]
 case unOp op ty x=>rw[h x (by simp)]
 case convert src dst x=>rw[h x (by simp)]
 case makeInterface ty x=>rw[h x (by simp)]
 case makeFunc fn first cap=>rw[gS fun x hx=>h x (by simp;left;simpa using hx),gS (l:=cap.toList) fun x hx=>h x (by simp;right;simpa using hx)]
 case makeMap ty r=>cases r<;>rfl
 case makeSlice ty l c=>rw[h l (by simp),h c (by simp)]
 case slice ty x lo hi mx =>
  rw[h x (by simp),mV (x:=lo) fun y hy=>h y (by subst hy;simp),mV (x:=hi) fun y hy=>h y (by subst hy;simp),mV (x:=mx) fun y hy=>h y (by subst hy;simp)]
 case fieldAddr ty x f=>rw[h x (by simp)]
 case field ty x f=>rw[h x (by simp)]
 case indexAddr ty x i=>rw[h x (by simp),h i (by simp)]
 case index ty x i=>rw[h x (by simp),h i (by simp)]
 case lookup ty x k ok=>rw[h x (by simp),h k (by simp)]
 case mapUpdate ty m k x=>rw[h m (by simp),h k (by simp),h x (by simp)]
 case insert ty m k x=>rw[h m (by simp),h k (by simp),h x (by simp)]
 case typeAssert x xt ty ok=>rw[h x (by simp)]
 case extract x i=>rw[h x (by simp)]
 case call c =>
  rw[gS fun x hx=>h x (by simp only[Call.operands];exact Array.mem_append.2 (.inr (by simpa using hx)))]
  unfold gy
  split
  ·split
   ·rfl
   ·rename_i f hc;rw[h f (by simp[Call.operands,hc])]
   ·rfl
  ·rfl
 case defer c =>
  rw[gS fun x hx=>h x (by simp only[Call.operands];exact Array.mem_append.2 (.inr (by simpa using hx)))]
  unfold nW
  split
  ·split
   ·rename_i f hc;rw[h f (by simp[Call.operands,hc])]
   ·rfl
  ·rfl
 case panic x=>rw[h x (by simp)]
end ops
variable{t:T V}{h:T dB}{n n':Nat}
theorem aX{x y:Option V}(hxy:x=y){v:V}{s1:S}(e:bj ⟨h,n⟩ x=some (.val v s1)):bj ⟨h,n'⟩ y=some (.val v ⟨h,n'⟩):=by
 subst hxy
 cases x with
 |none=>cases e
 |some u=>cases e;rfl
theorem Cn{P:Program}{ty:TypeId}{a:Ad}:loadVar P ⟨h,n⟩ ty a=loadVar P ⟨h,n'⟩ ty a:=rfl
theorem wF{a:Ad}{k:Nat}:loadCells ⟨h,n⟩ a k=loadCells ⟨h,n'⟩ a k:=rfl
theorem KG{P:Program}{ty:TypeId}{x:V}:kb P ty ⟨h,n⟩ x=kb P ty ⟨h,n'⟩ x:=rfl
theorem KY{E:cU}(o:Oper)(hk:aD E.P o.op<=1){v:V}{s1:S}(e:cT E t ⟨h,n⟩ o=some (.val v s1)):cT E t ⟨h,n'⟩ o=some (.val v ⟨h,n'⟩):=by
 obtain⟨dst,op,type,pos,after,guard⟩:=o
 unfold cT at e ⊢
 simp only at e hk ⊢
 cases op<;>simp only[cS]at e ⊢<;>try(cases e;done)
 case move x=>exact aX rfl e
 case assign x=>exact aX rfl e
 case pick c a b =>
  unfold lC at e ⊢
  split at e
  ·exact aX rfl e
  ·cases e
 case build ty parts=>exact aX rfl e
 case load ty x =>
  unfold ii at e ⊢
  split at e
  ·exact aX Cn e
  ·cases e
 case nilCheck x=>exact aX rfl e
 case binOp op ty x y z=>exact aX rfl e
 case unOp op ty x=>exact aX rfl e
 case convert src dst x =>
  unfold ga at e ⊢
  split at e
  ·rename_i x' hx'
   unfold ia at e ⊢
   unfold gU at e ⊢
   cases hs:E.P.underlying src with
   |none=>simp[hs]at e
   |some ds =>
    cases hd:E.P.underlying dst with
    |none=>simp[hs,hd]at e
    |some dd =>
     simp only[hs,hd]at e ⊢
     cases dd<;>simp only at e ⊢<;>try(cases e;done)
     case int k=>cases x'<;>simp only at e ⊢<;>first|(cases e;done)|(cases e;rfl)
     case string =>
      unfold zU at e ⊢
      cases x'<;>simp only at e ⊢<;>try(first|(cases e;done)|(cases e;rfl))
      case slice a z len cap sz =>
       rw[wF (n':=n')]at e
       cases ds<;>simp only at e ⊢<;>try(cases e;done)
       rename_i el
       split at e
       ·rename_i y s2 hy
        cases hb:fS E.P el with
        |false=>rw[hb]at hy;cases hy
        |true =>
         rw[hb]at hy
         simp only[cond_true]at hy ⊢
         cases hz0:Nat.beq sz 0 with
         |true=>rw[hz0]at hy;cases hy
         |false =>
         rw[hz0]at hy
         simp only[cond_false]at hy ⊢
         split at hy
         ·rename_i l hl;cases hy;cases e;rfl
         ·cases hy
       ·cases e
      case nilslice =>
       cases ds<;>simp only at e ⊢<;>try(cases e;done)
       rename_i el
       cases hb:fS E.P el with
       |false=>rw[hb]at e;cases e
       |true=>rw[hb]at e;cases e;rfl
     case slice el=>simp[aD,hd]at hk
  ·cases e
 case makeInterface ty x=>exact aX rfl e
 case makeFunc fn first cap=>exact aX rfl e
 case slice ty x lo hi mx=>exact aX rfl e
 case fieldAddr ty x f=>exact aX rfl e
 case field ty x f=>exact aX rfl e
 case indexAddr ty x i=>exact aX rfl e
 case index ty x i=>exact aX rfl e
 case lookup ty x k ok=>exact aX rfl e
 case typeAssert x xt ty ok=>exact aX rfl e
 case extract x i=>exact aX rfl e
 case call c =>
  unfold gy at e ⊢
  split at e
  ·rename_i args ha
   split at e
   ·rename_i b hc
    have hb:b=.len\/b=.cap\/b=.max\/b=.min:=by
     simp only[aD,hc]at hk
     cases b<;>simp at hk ⊢
    rcases hb with rfl|rfl|rfl|rfl<;>simp only[iv]at e ⊢
    ·split at e
     ·split at e
      ·exact aX KG e
      ·cases e
     ·cases e
    ·split at e
     ·split at e
      ·exact aX rfl e
      ·cases e
     ·cases e
    ·exact aX rfl e
    ·exact aX rfl e
   ·rename_i f hc
    simp[aD,hc]at hk
   ·cases e
  ·cases e
 all_goals (first|(simp[aD]at hk;done)|(exfalso;revert hk;simp[aD]))
theorem AU(acc:List Nat)(k:Nat):∀(l:List Edge) (s:Nat),(l.foldl (fun s e=>bif Region.binds .any e then Nat.lor s (Nat.lor (Nat.pow 2 e.on) (acc.getD e.on 0))else s) s).testBit k=true ↔
 s.testBit k=true\/∃ e∈l,Region.binds .any e=true/\(k=e.on\/(acc.getD e.on 0).testBit k=true)
 |[],s=>by simp
 |e::l,s=>by
  rw[List.foldl_cons,AU acc k l]
  cases hb:Region.binds .any e with
  |false =>
   simp only[cond_false,List.mem_cons,exists_eq_or_imp,hb,Bool.false_eq_true,false_and,false_or]
  |true =>
   simp only[cond_true,List.mem_cons,exists_eq_or_imp,hb,true_and]
   have:(Nat.lor s (Nat.lor (Nat.pow 2 e.on) (acc.getD e.on 0))).testBit k=(s.testBit k||(decide (e.on=k)||(acc.getD e.on 0).testBit k)):=by
    show(s |||(2 ^ e.on ||| acc.getD e.on 0)).testBit k=_
    rw[Nat.testBit_or,Nat.testBit_or,Nat.testBit_two_pow]
   rw[this]
   simp only[Bool.or_eq_true,decide_eq_true_eq]
   constructor
   ·rintro((h|h|h)|h)
    ·exact .inl h
    ·exact .inr (.inl (.inl h.symm))
    ·exact .inr (.inl (.inr h))
    ·exact .inr (.inr h)
   ·rintro(h|(h|h)|h)
    ·exact .inl (.inl h)
    ·exact .inl (.inr (.inl h.symm))
    ·exact .inl (.inr (.inr h))
    ·exact .inr h
theorem Hb(o:Oper)(acc:List Nat)(k:Nat):(pn o acc).testBit k=true↔∃ e∈o.after,Region.binds .any e=true/\(k=e.on\/(acc.getD e.on 0).testBit k=true):=by
 unfold pn
 rw[AU]
 simp
theorem se:∀(l:List Oper) (acc:List Nat),∃ r,jv l acc=acc++r/\r.length=l.length/\∀ j o,l[j]? = some o->r[j]? = some (pn o (acc++r.take j))
 |[],acc=>⟨[],by simp[jv],rfl,fun j o h=>by simp at h⟩
 |o::l,acc=>by
  obtain⟨r,h1,h2,h3⟩:=se l (acc++[pn o acc])
  refine⟨pn o acc::r,by simp[jv,h1],by simp[h2],fun j o' hj=>?_⟩
  cases j with
  |zero=>simp at hj;subst hj;simp
  |succ j =>
   simp at hj
   have:=h3 j o' hj
   simpa using this
def kH(ops:Array Oper)(i k:Nat):Prop:=((jv ops.toList []).getD i 0).testBit k=true
theorem Nu{ops:Array Oper}{i:Nat}{o:Oper}(ho:ops[i]? = some o):(jv ops.toList []).getD i 0=pn o ((jv ops.toList []).take i):=by
 obtain⟨r,h1,h2,h3⟩:=se ops.toList []
 rw[List.nil_append]at h1
 rw[h1]
 have:=h3 i o (by simpa using ho)
 rw[List.nil_append]at this
 rw[List.getD_eq_getElem?_getD,this]
 rfl
def fH(ops:Array Oper):Prop:=∀ i o,ops[i]? = some o->∀ e∈o.after,Region.binds .any e=true->e.on<i
theorem zV{l:List Nat}{i j:Nat}(h:j<i):(l.take i).getD j 0=l.getD j 0:=by
 rw[List.getD_eq_getElem?_getD,List.getD_eq_getElem?_getD,List.getElem?_take_of_lt h]
theorem vi{ops:Array Oper}(hE:fH ops){i k:Nat}{o:Oper}(ho:ops[i]? = some o):kH ops i k↔∃ e∈o.after,Region.binds .any e=true/\(k=e.on\/kH ops e.on k):=by
 unfold kH
 rw[Nu ho,Hb]
 constructor
 ·rintro⟨e,h1,h2,h3⟩
  rw[zV (hE i o ho e h1 h2)]at h3
  exact⟨e,h1,h2,h3⟩
 ·rintro⟨e,h1,h2,h3⟩
  refine⟨e,h1,h2,?_⟩
  rw[zV (hE i o ho e h1 h2)]
  exact h3
theorem IN{ops:Array Oper}{i k:Nat}(h:kH ops i k):∃ o,ops[i]? = some o:=by
 cases ho:ops[i]? with
 |some o=>exact⟨o,rfl⟩
 |none =>
  exfalso
  unfold kH at h
  obtain⟨r,h1,h2,h3⟩:=se ops.toList []
  rw[List.nil_append]at h1
  have hi:ops.size<=i:=by
   rcases Nat.lt_or_ge i ops.size with h'|h'
   ·rw[Array.getElem?_eq_getElem h']at ho;cases ho
   ·exact h'
  rw[h1,List.getD_eq_getElem?_getD,List.getElem?_eq_none (by rw[h2];simpa using hi)]at h
  simp at h
theorem rU{ops:Array Oper}(hE:fH ops):∀(i k:Nat),kH ops i k->k<i:=by
 intro i
 induction i using Nat.strongRecOn with
 |ind i ih =>
  intro k h
  obtain⟨o,ho⟩:=IN h
  obtain⟨e,h1,h2,h3⟩:=(vi hE ho).1 h
  have hb:=hE i o ho e h1 h2
  rcases h3 with rfl|h3
  ·exact hb
  ·exact Nat.lt_trans (ih e.on hb k h3) hb
theorem rT{ops:Array Oper}(hE:fH ops):∀(i k m:Nat),kH ops i k->kH ops k m->kH ops i m:=by
 intro i
 induction i using Nat.strongRecOn with
 |ind i ih =>
  intro k m h hm
  obtain⟨o,ho⟩:=IN h
  obtain⟨e,h1,h2,h3⟩:=(vi hE ho).1 h
  refine(vi hE ho).2 ⟨e,h1,h2,.inr ?_⟩
  rcases h3 with rfl|h3
  ·exact hm
  ·exact ih e.on (hE i o ho e h1 h2) k m h3 hm
theorem wu:∀ {l:List Oper} {i k:Nat} {o:Oper},(k,o)∈cK l i↔i<=k/\l[k - i]? = some o
 |[],i,k,o=>by simp[cK]
 |x::l,i,k,o=>by
  simp only[cK,List.mem_cons,Prod.mk.injEq]
  rw[wu (l:=l) (i:=i+1)]
  constructor
  ·rintro(⟨rfl,rfl⟩|⟨h1,h2⟩)
   ·simp
   ·exact⟨by omega,by rw[show k - i=(k - (i+1))+1 by omega];simpa using h2⟩
  ·rintro⟨h1,h2⟩
   by_cases hk:k=i
   ·left;subst hk;simp at h2;exact⟨rfl,h2.symm⟩
   ·right;refine⟨by omega,?_⟩
    rw[show k - i=(k - (i+1))+1 by omega]at h2;simpa using h2
theorem dF{ops:Array Oper}{k:Nat}{o:Oper}:(k,o)∈cK ops.toList 0↔ops[k]? = some o:=by
 rw[wu];simp
structure jQ(ops:Array Oper):Prop where
 back:fH ops
 guard:∀(i:Nat) (o:Oper) (g:Nat) (b:Bool),ops[i]? = some o->o.guard=some (g,b)->kH ops i g
 dst:∀(i j:Nat) (o q:Oper) (d:Tmp),ops[i]? = some o->ops[j]? = some q->i≠j->q.dst=some d->o.dst≠some d
 sees:∀(i j:Nat) (o q:Oper) (d:Tmp),ops[i]? = some o->ops[j]? = some q->i≠j->q.dst=some d->d∈sees o->kH ops i j\/kH ops j i
theorem Fx{ops:Array Oper}(h:HC (jv ops.toList []) (cK ops.toList 0)=true):jQ ops:=by
 have key:∀ i o,ops[i]? = some o->_:=fun i o ho=>List.all_eq_true.1 h (i,o) (dF.2 ho)
 refine⟨fun i o ho e he hb=>?_,fun i o g b ho hg=>?_,fun i j o q d ho hq hij hd=>?_,fun i j o q d ho hq hij hd hs=>?_⟩
 ·have:=key i o ho
  simp only[Bool.and_eq_true]at this
  have h2:=List.all_eq_true.1 this.1.1 e (by simpa using he)
  rw[hb]at h2
  exact jg (by simpa using h2)
 ·have:=key i o ho
  simp only[Bool.and_eq_true]at this
  have h2:=this.1.2
  rw[hg]at h2
  exact h2
 ·have:=key i o ho
  simp only[Bool.and_eq_true]at this
  have h2:=List.all_eq_true.1 this.2 (j,q) (dF.2 hq)
  have hb:Nat.beq i j=false:=by
   cases hb:Nat.beq i j with
   |false=>rfl
   |true=>exact absurd (Nat.eq_of_beq_eq_true hb) hij
  simp only[hb,hd,Bool.false_or,Bool.and_eq_true]at h2
  intro hc
  rw[hc]at h2
  simp at h2
 ·have:=key i o ho
  simp only[Bool.and_eq_true]at this
  have h2:=List.all_eq_true.1 this.2 (j,q) (dF.2 hq)
  have hb:Nat.beq i j=false:=by
   cases hb:Nat.beq i j with
   |false=>rfl
   |true=>exact absurd (Nat.eq_of_beq_eq_true hb) hij
  simp only[hb,hd,Bool.false_or,Bool.and_eq_true]at h2
  have h3:=h2.2
  have hc:(sees o).contains d=true:=by simpa using hs
  rw[hc]at h3
  simp only[Bool.not_true,Bool.false_or,Bool.or_eq_true]at h3
  exact h3
def im(ops:Array Oper)(R:Nat->Prop):Prop:=∀ i k,R i->kH ops i k->R k
def with1(R:Nat->Prop)(i:Nat):Nat->Prop:=fun k=>R k\/k=i
theorem im.with1{ops:Array Oper}{R:Nat->Prop}(h:im ops R){i:Nat}(hi:∀ k,kH ops i k->R k):im ops (with1 R i):=by
 intro a k ha hk
 rcases ha with ha|rfl
 ·exact .inl (h a k ha hk)
 ·exact .inl (hi k hk)
theorem EJ(t:T V)(d:Option Tmp)(v:V)(i:Nat):(putD t d v).get (et i)=if d=some i then some v else t.get (et i):=Of t d (some v) i
end Go.AI
