/- Lemmas. No conditions. -/
import Derived.Test.YtpghiabjaglpgaaGreatDoorA3
set_option linter.all false
noncomputable section
namespace Go.AI
section ap
variable{P:Program}{fr:Frame}{cs:List Frame}{w w':World}{sem:Sem Next}
def py{v:Value}(hst:stepG P true { frame:=fr,callers:=cs,status:=.running,dying:=none } w=stepG.apply P true fr cs none sem w)(hr:sem.run P w=.ok (.value v) w') :
 step P (lone fr cs w)=.next (lone (fr.finish v) cs w'):=aiI (by rw[hst];simp[stepG.apply,hr])
def GA(hst:stepG P true { frame:=fr,callers:=cs,status:=.running,dying:=none } w=stepG.apply P true fr cs none sem w)(hr:sem.run P w=.ok .skip w') :
 step P (lone fr cs w)=.next (lone (fr.finish undef) cs w'):=aiI (by rw[hst];simp[stepG.apply,hr])
def tG{ops:Array Oper}{l:List Nat}{k:List Item}{f:FuncId}{args:Array Value}(a:fr.todo=.inRegion ops l::k)(hst:stepG P true { frame:=fr,callers:=cs,status:=.running,dying:=none } w=stepG.apply P true fr cs none sem w)(hr:sem.run P w=.ok (.enter f args) w') :
 step P (lone fr cs w)=.next (lone (Frame.enter P f args .normal) (fr::cs) w'):=aiI (by rw[hst];simp[stepG.apply,hr,a])
def TM{l:Nat}{f:FuncId}{tmps:Array Value}{a b:Code}(hst:stepG P true { frame:=fr,callers:=cs,status:=.running,dying:=none } w=stepG.apply P true fr cs none sem w)(hr:sem.run P w=.ok (.round l f tmps a b) w') :
 step P (lone fr cs w)=.next (lone (Frame.round l f tmps a b .normal) (fr::cs) w'):=aiI (by rw[hst];simp[stepG.apply,hr])
def TN{d:Deferred}(hst:stepG P true { frame:=fr,callers:=cs,status:=.running,dying:=none } w=stepG.apply P true fr cs none sem w)(hr:sem.run P w=.ok (.defer d) w') :
 step P (lone fr cs w)=.next (lone ({ fr with defers:=d::fr.defers }.finish undef) cs w'):=aiI (by rw[hst];simp[stepG.apply,hr])
def Jl{v:Value}(hst:stepG P true { frame:=fr,callers:=cs,status:=.running,dying:=none } w=stepG.apply P true fr cs none sem w)(hr:sem.run P w=.halt (.panic v) w') :
 step P (lone fr cs w)=.next (lone (fr.raise [{ v,recovered:=false }]) cs w'):=aiI (by rw[hst];simp[stepG.apply,hr])
def xQ{v:Value}{cs':List Frame}(a:fr.roundOf=none)(b:tryRecover fr cs=some (v,cs'))(hst:stepG P true { frame:=fr,callers:=cs,status:=.running,dying:=none } w=stepG.apply P true fr cs none sem w)(hr:sem.run P w=.ok .recover w') :
 step P (lone fr cs w)=.next (lone (fr.finish v) cs' w'):=aiI (by rw[hst];simp[stepG.apply,hr,a,b])
def xR(a:fr.roundOf=none)(b:tryRecover fr cs=none)(hst:stepG P true { frame:=fr,callers:=cs,status:=.running,dying:=none } w=stepG.apply P true fr cs none sem w)(hr:sem.run P w=.ok .recover w') :
 step P (lone fr cs w)=.next (lone (fr.finish .nilIface) cs w'):=aiI (by rw[hst];simp[stepG.apply,hr,a,b])
end ap
section
variable{E:dL}{ih:tR->S->Option fo}{f:FuncId}{fn:Func}{ops:Array Oper}{k:List Item}{rd:Option Nat}
def YA(P:Program)(f:FuncId)(fn:Func)(ops:Array Oper)(rest:List Nat)(k:List Item)(rd:Option Nat)(a:RK):Prop :=
 ∀ t ds up s r,a t ds up s=some r->∀ ρ w fr cs,HR ρ s w->kG P ρ f fn t (.inRegion ops rest::k) ds .run up rd fr cs->ROk P ρ w f fn k up rd cs (lone fr cs w) r
def dr{o:Oper}{t:T V}{s:S}{nx:Nx}(h:dI E t s o=some nx)(a:∀ d s',nx≠.defer d s'):∀ c,o.op≠.defer c:=by
 intro c hc;unfold dI at h;rw[hc]at h;simp only[dH,pS]at h;split at h
 ·split at h
  ·unfold Gi at h;split at h
   ·cases h;exact a _ _ rfl
   ·cases h
  ·cases h
 ·cases h
def Fg(hE:jc E)(hg:Good E.P ih)(Z:lX ops fn.ntmps=true){i:Nat}{rest:List Nat}{o:Oper}(ho:ops[i]? = some o){kk:RK}(hk:YA E.P f fn ops rest k rd kk)
 {t:T V} {ds:List eS} {up:Option Md} {s:S} {r:mg} (e:qS E (bR ih) (eD ih) rd o t ds up s kk (bT ops t o)=some r)
 {ρ:aN} {w:World} {fr:Frame} {cs:List Frame} (h:HR ρ s w) (j:kG E.P ρ f fn t (.inRegion ops (i::rest)::k) ds .run up rd fr cs):ROk E.P ρ w f fn k up rd cs (lone fr cs w) r:=by
 have hm:=AC j;have ht:=j.todo rfl;have U:=rz Z ho;have N:=tL.refl j;unfold qS at e;split at e
 ·rename_i hw;have hwant:=fg j.tr hw;cases B:dI E t s o with
  |none=>rw[B]at e;cases e
  |some nx =>
   rw[B]at e;have F:=mL hE h j.tr o B;have hst:fr.roundOf=none\/(∀ c,o.op≠.defer c)->stepG E.P true { frame:=fr,callers:=cs,status:=.running,dying:=none } w=stepG.apply E.P true fr cs none (execOp (rv fr.tmps) o) w:=fun q=>ip hm ht ho hwant q;cases nx with
   |val v s1 =>obtain⟨ρ1,y,J,G,H,K,h4⟩:=F;have hst:=hst (.inr (dr B (fun d s'=>by intro h;cases h)));simp only[eo,cI]at e;exact(hk _ _ _ _ _ e ρ1 J (fr.finish y) cs K ((j.mono h4.ext).finish ho U H)).of_steps (.one (py hst G)) h4 N rfl
   |skip s1 =>obtain⟨ρ1,J,G,K,h4⟩:=F;have hst:=hst (.inr (dr B (fun d s'=>by intro h;cases h)));simp only[eo,cI]at e;exact(hk _ _ _ _ _ e ρ1 J (fr.finish undef) cs K ((j.mono h4.ext).finish ho U rfl)).of_steps (.one (GA hst G)) h4 N rfl
   |enter g args s1 =>
    obtain⟨ys,G,H,K⟩:=F;have hst:=hst (.inr (dr B (fun d s'=>by intro h;cases h)));simp only[eo]at e;cases hr:bR ih g args none s1 with
    |none=>rw[hr]at e;cases e
    |some out =>
     rw[hr]at e;obtain⟨hcall,L⟩:=lI hg K G hr;rw[hcall]at H;obtain⟨ρ1,J,en,j1,O,I,j4⟩:=L fr cs;have hsteps:Steps E.P (lone fr cs w) (lone (cG fr en) cs J):=.head (tG ht hst H) j4;obtain⟨oe,oup,os⟩:=out;cases oe with
     |returned v =>
      cases en with
      |returned y =>simp only[fS,cI]at e;exact(hk _ _ _ _ _ e ρ1 J (fr.finish y) cs j1 ((j.mono O.ext).finish ho U I)).of_steps hsteps O N rfl
      |panicked _=>exact I.elim
      |outgrown=>exact I.elim
     |panicked c =>
      cases en with
      |returned _=>exact I.elim
      |outgrown=>exact I.elim
      |panicked ch =>simp only[fS,abB]at e;subst e;have m:=j.mono O.ext;exact⟨ρ1,J,_,cs,hsteps,O,N,j1,⟨m.name.symm▸(by rw[cG,bE hm]),m.func,by rw[cG,bE hm];exact m.tr,by rw[cG,bE hm];exact m.size,(fun q=>by cases q),by rw[cG,bE hm];exact m.ds,by rw[cG,bE hm];exact I,by rw[cG,bE hm];exact m.rd,by rw[cG,bE hm];exact m.up⟩,rfl⟩
   |round l args s1 =>
    obtain⟨lb,ys,h0,G,H,K⟩:=F;have hst:=hst (.inr (dr B (fun d s'=>by intro h;cases h)));simp only[eo]at e;cases hr:eD ih l args s1 with
    |none=>rw[hr]at e;cases e
    |some out =>
     rw[hr]at e;obtain⟨f',tmps,a,b,hy,L⟩:=hg (.round l args) s1 out hr ρ w lb ys K h0 G;rw[hy]at H;obtain⟨ρ1,J,j1,O,j5⟩:=L (fr::cs);obtain⟨en,I,j4⟩:=j5 fr cs rfl;have hsteps:Steps E.P (lone fr cs w) (lone (cG fr en) cs J):=.head (TM hst H) j4;obtain⟨oe,oup,os⟩:=out;cases oe with
     |returned v =>
      cases en with
      |returned y =>simp only[fS,cI]at e;exact(hk _ _ _ _ _ e ρ1 J (fr.finish y) cs j1 ((j.mono O.ext).finish ho U I)).of_steps hsteps O N rfl
      |panicked _=>exact I.elim
      |outgrown=>exact I.elim
     |panicked c =>
      cases en with
      |returned _=>exact I.elim
      |outgrown=>exact I.elim
      |panicked ch =>simp only[fS,abB]at e;subst e;have m:=j.mono O.ext;exact⟨ρ1,J,_,cs,hsteps,O,N,j1,⟨m.name.symm▸(by rw[cG,bE hm]),m.func,by rw[cG,bE hm];exact m.tr,by rw[cG,bE hm];exact m.size,(fun q=>by cases q),by rw[cG,bE hm];exact m.ds,by rw[cG,bE hm];exact I,by rw[cG,bE hm];exact m.rd,by rw[cG,bE hm];exact m.up⟩,rfl⟩
   |defer df s1 =>
    obtain⟨rdf,G,H,K⟩:=F;simp only[eo]at e;cases W:rd with
    |some l=>rw[W]at e;cases e
    |none =>
     rw[W]at e;simp only[ajp,TD,cI]at e;subst W;have Q:fr.roundOf=none:=j.rd;have hst:=hst (.inl Q)
     have A:kG E.P ρ f fn t (.inRegion ops (i::rest)::k) (df::ds) .run up none { fr with defers:=rdf::fr.defers } cs :=
      ⟨j.name,j.func,j.tr,j.size,j.todo,⟨G,j.ds⟩,j.md,j.rd,j.up⟩
     exact(hk _ _ _ _ _ e ρ w _ cs K (A.finish ho U rfl)).of_steps (.one (TN hst H)) (FR.refl ρ w) N rfl
   |recover s1 =>
    obtain⟨G,H⟩:=F;have hst:=hst (.inr (dr B (fun d s'=>by intro h;cases h)));simp only[eo]at e;cases up with
    |none=>cases e
    |some u =>
     have Q:fr.roundOf=none:=by cases j.lone_up rfl;exact j.rd
     obtain⟨M,c,tl,rfl,x⟩:=j.up;have hrec:∀ m',u=m'->(∀ v older,m'≠.panicking (⟨v,false⟩::older))->tryRecover fr (c::tl)=none:=by
      intro m' hu X;subst hu;cases z:c.mode with
      |run=>simp[tryRecover,M,z]
      |returning=>simp[tryRecover,M,z]
      |panicking ch =>
       cases u with
       |run=>rw[z]at x;exact x.elim
       |returning=>rw[z]at x;exact x.elim
       |panicking pl =>
        rw[z]at x;cases pl with
        |nil=>cases ch with
         |nil=>simp[tryRecover,M,z]
         |cons _ _=>exact x.elim
        |cons p ps=>cases ch with
         |nil=>exact x.elim
         |cons q qs =>
          obtain⟨⟨q1,q2,q3⟩,_⟩:=x;obtain⟨pv,pr⟩:=p;cases pr with
          |false=>exact absurd rfl (X pv ps)
          |true =>obtain⟨qv,qr,qg⟩:=q;simp only at q2 q3;subst q2;simp[tryRecover,M,z]
     unfold recovered at e;split at e
     ·rename_i v older hu;cases hu;cases z:c.mode with
      |run=>rw[z]at x;exact x.elim
      |returning=>rw[z]at x;exact x.elim
      |panicking ch =>
       rw[z]at x;cases ch with
       |nil=>exact x.elim
       |cons q qs =>
        obtain⟨⟨q1,q2,q3⟩,q4⟩:=x;obtain⟨qv,qr,qg⟩:=q;simp only at q1 q2 q3;subst q2;subst q3;have Y:tryRecover fr (c::tl)=some (qv,{ c with mode:=.panicking ({ v:=qv,recovered:=true }::qs) }::tl):=by simp[tryRecover,M,z]
        rw[cI]at e;have A:=j.finish ho U q1;have hF'':kG E.P ρ f fn (putD t o.dst v) (.inRegion ops rest::k) ds .run (some (.panicking (⟨v,true⟩::older))) rd (fr.finish qv) ({ c with mode:=.panicking ({ v:=qv,recovered:=true }::qs) }::tl):=by
         refine⟨A.name,A.func,A.tr,A.size,A.todo,A.ds,A.md,?_,?_⟩
         ·cases j.lone_up rfl;exact A.rd
         ·exact⟨A.up.1,_,_,rfl,⟨⟨q1,rfl,rfl⟩,q4⟩⟩
        exact(hk _ _ _ _ _ e ρ w _ _ H hF'').of_steps (.one (xQ Q Y hst G)) (FR.refl ρ w) ⟨c,tl,_,rfl,rfl⟩ rfl
     ·rename_i X hu;cases hu;rw[cI]at e;have Y:=hrec _ rfl (fun v older hq=>X v older hq);exact(hk _ _ _ _ _ e ρ w _ _ H (j.finish ho U rfl)).of_steps (.one (xR Q Y hst G)) (FR.refl ρ w) N rfl
     ·cases e
   |panic v s1 =>obtain⟨y,G,H,K⟩:=F;have hst:=hst (.inr (dr B (fun d s'=>by intro h;cases h)));simp only[eo,abB]at e;subst e;refine⟨ρ,w,_,cs,.one (Jl hst H),FR.refl ρ w,N,K,?_,rfl⟩;rw[bE hm];exact⟨j.name,j.func,j.tr,j.size,(fun q=>by cases q),j.ds,⟨⟨G,rfl,rfl⟩,trivial⟩,j.rd,j.up⟩
 ·rename_i hw;have hwant:=fg j.tr hw;rw[cI]at e;exact(hk _ _ _ _ _ e ρ w _ _ h (j.finish ho U (y:=undef) rfl)).of_steps (.one (iJ hm ht (by simp[ho,hwant]))) (FR.refl ρ w) N rfl
 ·cases e
def rY(g:jc E)(j:Good E.P ih)(b:lX ops fn.ntmps=true):∀(l:List Oper) (a:List Nat),a.map (ops[·]?)=l.map some->YA E.P f fn ops a k rd (qN E ops (bR ih) (eD ih) rd l)
 |[],[],_=>fun t ds up s r e ρ w fr cs h d=>by simp only[qN,abB]at e;subst e;exact⟨ρ,w,_,cs,.one (rR (AC d) (d.todo rfl)),FR.refl ρ w,tL.refl d,h,d.to k,rfl⟩
 |o::l,i::a,hl=>fun t ds up s r e ρ w fr cs h d=>by simp only[aeL,ajV]at hl;exact Fg g j b hl.1 (rY g j b l a hl.2) e h d
 |[],_::_,hl=>by cases hl
 |_::_,[],hl=>by cases hl
def VT(ops:Array Oper):(List.range ops.size).map (ops[·]?)=ops.toList.map some:=by
 apply akb;intro j;rw[aiO,aiO,aiB];by_cases a:j<ops.size
 ·simp[a]
 ·simp[a]
end
section st
variable{P:Program}{fr:Frame}{c:Frame}{cs:List Frame}{w w':World}{k:List Item}{l:Nat}{v:Value}
def ZF(hm:fr.mode=.run)(hk:fr.kind=.normal)(a:fr.roundOf=some l)(b:fr.todo=[])(hr:(Instr.endRound l none).run P w=.ok v w') :
 step P (lone fr (c::cs) w)=.next (lone (c.finish v) cs w'):=aiI (by simp[stepG,stepG.exec,hm,b,a,hr,doReturn,hk])
def ZE(hm:fr.mode=.run)(hk:fr.kind=.normal)(a:fr.roundOf=some l)(b:fr.todo=.code .ret::k)(hr:(Instr.endRound l (some .ret)).run P w=.ok v w') :
 step P (lone fr (c::cs) w)=.next (lone (c.finish v) cs w'):=aiI (by simp[stepG,stepG.exec,hm,b,a,hr,doReturn,hk])
def Vy{id:Nat}(hm:fr.mode=.run)(hk:fr.kind=.normal)(a:fr.roundOf=some l)(b:fr.todo=.code (.exit id)::k)(d:exitTo id k=none)(hr:(Instr.endRound l (some (.exit id))).run P w=.ok v w') :
 step P (lone fr (c::cs) w)=.next (lone (c.finish v) cs w'):=aiI (by simp[stepG,stepG.exec,hm,b,a,hr,doReturn,hk,d])
def Vx{id:Nat}(hm:fr.mode=.run)(hk:fr.kind=.normal)(a:fr.roundOf=some l)(b:fr.todo=.code (.goto id)::k)(d:gotoIn id k=none)(hr:(Instr.endRound l (some (.goto id))).run P w=.ok v w') :
 step P (lone fr (c::cs) w)=.next (lone (c.finish v) cs w'):=aiI (by simp[stepG,stepG.exec,hm,b,a,hr,doReturn,hk,d])
def Cl(hm:fr.mode=.run)(a:fr.roundOf=some l)(b:fr.todo=.beginRound::k)(hr:(Instr.beginRound l).run P w=.ok () w') :
 step P (lone fr cs w)=.next (lone { fr with todo:=k } cs w'):=aiI (by simp[stepG,stepG.exec,stepG.apply,hm,b,a,hr,Frame.finish])
def Hf{j:Option Code}(hm:fr.mode=.run)(a:fr.todo=.endRangeFunc l::k)(hr:(Instr.endLoop l).run P w=.ok j w') :
 step P (lone fr cs w)=.next (lone { fr with todo:=(j.map Item.code).toList++k } cs w'):=aiI (by simp[stepG,stepG.exec,hm,a,hr])
def Qr{g:Operand}{ps:Array Tmp}{a b:Code}{fid:FuncId}{first cap:Array Value}{f2:FuncId}{args:Array Value}(hm:fr.mode=.run)(o:fr.todo=.code (.rangeFunc g ps a b)::k)(d:fr.roundOf=none)
 (p:rv fr.tmps g=.func (.func fid) first cap)
 (hc:∀ w,(callFunc fid (first++#[.func (.yield (w'.heap.size - 1)) #[] #[]]++cap)).run P w=.ok (.enter f2 args) w)
 (m:w'=(w.alloc (.deferred (some []))).alloc (.loop { state:=.ready,pending:=none,fn:=fr.fn,tmps:=fr.tmps,params:=ps,assign:=a,body:=b,defers:=w.heap.size })) :
 step P (lone fr cs w)=.next (lone (Frame.enter P f2 args .normal) ({ fr with todo:=.inRangeFunc (w'.heap.size - 1)::k,defers:={ target:=.collected w.heap.size,args:=#[] }::fr.defers }::cs) w'):=by
 refine aiI ?_;have hl:w'.heap.size - 1=w.heap.size+1:=by rw[m];simp
 rw[hl]at hc ⊢;have e:=run_enterLoop_outer (P:=P) (w:=w) fr.fn fr.tmps ps a b;rw[<- m]at e;simp only[stepG,stepG.exec,hm,o,d,Sem.runT_eq,e,GStep.bare_after];have i:∀ v:Value,rv fr.tmps (.const v)=v:=fun _=>rfl;have j:(callFunc fid (first.push (.func (.yield (w.heap.size+1)) #[] #[])++cap)).run P w'=.ok (.enter f2 args) w':=by simpa using hc w'
 simp[stepG.apply,rq,resolve,p,Deferred.ofValue,invoke,i,j,hm,d]
def EJ{b:Nat}{ds:List Deferred}{m:FrameMode}(hm:fr.mode=m)(a:m≠.run)(d:fr.defers={ target:=.collected b,args:=#[] }::ds){calls:List Deferred}(hr:(Instr.takeDeferred b).run P w=.ok calls w') :
 step P (lone fr cs w)=.next (lone { fr with defers:=calls++ds } cs w'):=by
 refine aiI ?_;cases m with
 |run=>exact absurd rfl a
 |returning=>simp[stepG,unwind,hm,d,hr]
 |panicking ch=>simp[stepG,unwind,hm,d,hr]
end st
section
variable{E:dL}{ih:tR->S->Option fo}{f:FuncId}{fn:Func}
def cj(a:Good E.P ih){t:T V}{todo:List Item}{ds:List eS}{m:Md}{up:Option Md}{rd:Option Nat}{s:S}{out:fo}(e:gE ih f fn t todo ds m up rd s=some out):GJ E.P f fn t todo ds m up rd s out :=
 a (.frame f fn t todo ds m up rd) s out e
def yt{ρ:aN}{s:S}{w:World}(h:HR ρ s w){l:Nat}{st:LoopState}{pend:Option Code}{f':FuncId}{t':T V}{ps:Array Tmp}{a b:Code}{d nt:Nat}(e:s.get l=some (.loop st pend f' t' ps a b d nt)){lb:Ch}(hl:ρ l 0=some lb) :
 ∃(r:Loop),w.heap[lb.b]? = some (.loop r)/\r.state=st/\r.pending=pend/\r.fn=f'/\r.params=ps/\r.assign=a/\r.body=b/\TR ρ t' r.tmps/\nt<=r.tmps.size /\
  ∀ st2 pend2,HR ρ (s.put l (.loop st2 pend2 f' t' ps a b d nt)) (w.putObj lb.b (.loop { r with state:=st2,pending:=pend2 }))/\FR ρ w ρ (w.putObj lb.b (.loop { r with state:=st2,pending:=pend2 })):=by
 obtain⟨l1,ld,tm,g,m,i,j,o⟩:=h.blk _ _ e;rw[hl]at g;cases g;refine⟨_,o,rfl,rfl,rfl,rfl,rfl,rfl,i,j,fun st2 pend2=>?_⟩;exact h.turn hl e (fun _ h=>by cases h) (yC w lb.b _) _ ⟨lb,ld,tm,hl,m,i,j,World.putObj_heap_same (h.low _ _ _ hl)⟩
def jE(o:Good E.P ih){t:T V}{todo:List Item}{ds:List eS}{up:Option Md}{rd:Option Nat}{s:S}{out:fo}{jump:Option Code}(e:mQ (gE ih f fn) t ds up rd s jump=some out)
 {ρ:aN} {w:World} {fr:Frame} {cs:List Frame} (h:HR ρ s w) (g:kG E.P ρ f fn t todo ds .run up rd fr cs)
 (h0:jump=none\/jump=some .ret->fr.roundOf=none->step E.P (lone fr cs w)=.next (lone { fr with mode:=.returning } cs w))
 (p:∀ l v w',fr.roundOf=some l->fr.kind=.normal->(Instr.endRound l jump).run E.P w=.ok v w'->∀ c cs',cs=c::cs'->step E.P (lone fr cs w)=.next (lone (c.finish v) cs' w')) :
 qK E.P f up.isSome rd.isSome cs (lone fr cs w) ρ w out:=by
 have ret:∀ up,kG E.P ρ f fn t todo ds .run up none fr cs->kG E.P ρ f fn t [] ds .returning up none { fr with mode:=.returning } cs:=fun up g =>⟨g.name,g.func,g.tr,g.size,(fun q=>by cases q),g.ds,trivial,g.rd,g.up⟩
 unfold mQ at e;split at e
 ·split at e
  ·exact eb h (h0 (.inl rfl) g.rd) (ret up g) (cj o e)
  ·exact eb h (h0 (.inr rfl) g.rd) (ret up g) (cj o e)
  ·cases e
 ·rename_i l;split at e
  ·rename_i st pend f' t' ps a b d nt u;simp only[abB]at e;subst e;obtain⟨rfl,lb,hl,j⟩:=g.rd;obtain⟨r,x,r2,r3,r4,r5,r6,r7,r8,r9,r10⟩:=yt h u hl;have i:=run_endRound (P:=E.P) jump x;obtain⟨y,z⟩:=r10 (if jump.isNone then .ready else .done) jump;have hc:(bif jump.isNone then LoopState.ready else .done)=if jump.isNone then .ready else .done:=by cases jump.isNone<;>rfl
   rw[hc];refine⟨ρ,_,y,z,fun c cs' m=>⟨.returned (.bool jump.isNone),rfl,.one (p _ _ _ j g.up i c cs' m)⟩⟩
  ·cases e
def eu(E:dL):Prop:=∀(ih:tR->S->Option fo),Good E.P ih->∀(f:FuncId) (fn:Func) (id:Nat) (ops:Array Oper) (k:List Item) (rd:Option Nat) (t:T V) (ds:List eS) (up:Option Md) (s:S) (r:mg),
 lX ops fn.ntmps=true->iK E ops (bR ih) (eD ih) t ds up s=some r->∀ ρ w fr cs,HR ρ s w->kG E.P ρ f fn t (.code (.region id ops true)::k) ds .run up rd fr cs->ROk E.P ρ w f fn k up rd cs (lone fr cs w) r
def ot(g:Good E.P ih){k:List Item}{rd:Option Nat}{up:Option Md}{x:Option mg}{out:fo}(e:iL (gE ih f fn) k rd x=some out){ρ:aN}{w:World}{cs:List Frame}{M:Machine}(hr:up.isSome=true->rd=none)
 (p:∀ r,x=some r->ROk E.P ρ w f fn k up rd cs M r):qK E.P f up.isSome rd.isSome cs M ρ w out:=by
 cases x with
 |none=>cases e
 |some r =>
  obtain⟨ρ',w',fr',cs',i,j,m,o⟩:=p r rfl;cases r with
  |on t' ds' up' s' =>obtain⟨a,b,d⟩:=o;have:=cj g e ρ' w' fr' cs' a b;rw[d]at this;exact qK.of_tops hr m (qK.of_steps i j this)
  |panicked c t' ds' up' s' =>obtain⟨a,b,d⟩:=o;have:=cj g e ρ' w' fr' cs' a b;rw[d]at this;exact qK.of_tops hr m (qK.of_steps i j this)
def xE(I:Good E.P ih){t:T V}{ds:List eS}{up:Option Md}{rd:Option Nat}{s:S}{out:fo}{k:List Item}{g:Operand}{ps:Array Tmp}{a b:Code}
 (e:gw f fn.ntmps (gE ih f fn) (bR ih) k t ds up rd s ps a b (eval t g)=some out) {ρ:aN} {w:World} {fr:Frame} {cs:List Frame} (h:HR ρ s w) (j:kG E.P ρ f fn t (.code (.rangeFunc g ps a b)::k) ds .run up rd fr cs) :
 qK E.P f up.isSome rd.isSome cs (lone fr cs w) ρ w out:=by
 unfold gw at e;split at e
 ·rename_i fnv first cap J
  obtain⟨gf,fi,ca,W,X,Y,Z⟩:=AA (aL j.tr J);split at e
  ·rename_i fid;cases W;split at e
   ·
    have K:fr.roundOf=none:=j.rd;have hm:=AC j;simp only at e;obtain⟨A1,A2⟩:=h.alloc .deferred (.deferred (some [])) 0 0 (abD _) ⟨⟨w.heap.size,0,0⟩,aN.put_same _ _ _ _,eF _ _⟩;have u:(ρ.put s.next 0 ⟨w.heap.size,0,0⟩) s.next 0=some ⟨w.heap.size,0,0⟩:=aN.put_same _ _ _ _
    obtain⟨B1,B2⟩:=A1.alloc (.loop .ready none f t ps a b s.next fn.ntmps) (.loop { state:=.ready,pending:=none,fn:=f,tmps:=fr.tmps,params:=ps,assign:=a,body:=b,defers:=w.heap.size }) 0 0 (abD _) (by have x:=aN.le_put (ρ:=ρ.put s.next 0 ⟨w.heap.size,0,0⟩) (f:=(s.alloc .deferred).next) (v:=0) ⟨(w.alloc (.deferred (some []))).heap.size,0,0⟩ (A1.fresh _ _ (abD _));exact⟨⟨(w.alloc (.deferred (some []))).heap.size,0,0⟩,⟨w.heap.size,0,0⟩,fr.tmps,aN.put_same _ _ _ _,x _ _ _ u,(j.tr.mono A2.ext).mono x,j.size,eF _ _⟩)
    generalize L:(ρ.put s.next 0 ⟨w.heap.size,0,0⟩).put (s.alloc .deferred).next 0 ⟨(w.alloc (.deferred (some []))).heap.size,0,0⟩=ρ2 at B1 B2;have z:ρ2 (s.alloc .deferred).next 0=some ⟨w.heap.size+1,0,0⟩:=by rw[<- L,aN.put_same];simp
    have M:ρ2 s.next 0=some ⟨w.heap.size,0,0⟩:=B2.ext _ _ _ u;have o:=A2.trans B2;have hargs:bd ρ2 (first++([.func (.yield (s.alloc .deferred).next) [] []]++cap))=some (fi++([Value.func (.yield (w.heap.size+1)) #[] #[]]++ca)):=by refine dG (fW o.ext _ _ X) (dG ?_ (fW o.ext _ _ Y));simp[bd,den,nR,z]
    cases hr:bR ih fid (first++([.func (.yield (s.alloc .deferred).next) [] []]++cap)) none ((s.alloc .deferred).alloc (.loop .ready none f t ps a b s.next fn.ntmps))with
    |none=>rw[hr]at e;cases e
    |some o1 =>
     rw[hr]at e;obtain⟨hcall,A⟩:=lI I B1 hargs hr;have hname:fr.fn=f:=j.name;obtain⟨ρ3,w3,en,U,N,B,j4⟩:=A { fr with todo:=.inRangeFunc (w.heap.size+1)::k,defers:={ target:=.collected w.heap.size,args:=#[] }::fr.defers } cs
     have hstep:=Qr (P:=E.P) (fr:=fr) (cs:=cs) (w:=w) (w':=(w.alloc (.deferred (some []))).alloc (.loop { state:=.ready,pending:=none,fn:=f,tmps:=fr.tmps,params:=ps,assign:=a,body:=b,defers:=w.heap.size }))
      (k:=k) (AC j) (j.todo rfl) K Z (f2:=fid) (args:=(fi++([Value.func (.yield (w.heap.size+1)) #[] #[]]++ca)).toArray) (fun w=>by have:=hcall w;simpa using this) (by rw[hname])
     have O:((w.alloc (.deferred (some []))).alloc (.loop { state:=.ready,pending:=none,fn:=f,tmps:=fr.tmps,params:=ps,assign:=a,body:=b,defers:=w.heap.size })).heap.size - 1=w.heap.size+1:=by simp
     rw[O]at hstep;have hsteps:=Steps.head hstep j4;have i:=o.trans N;have d:=j.mono i.ext;have F:PN ρ3 (.collected s.next) { target:=.collected w.heap.size,args:=#[] }:=⟨_,N.ext _ _ _ M,rfl⟩;obtain⟨oe,oup,os⟩:=o1;cases oe with
     |returned v =>
      cases en with
      |panicked _=>exact B.elim
      |outgrown=>exact B.elim
      |returned y =>
       simp only[kL]at e;unfold sF at e;split at e
       ·rename_i st pend f' t' ps' a' b' d' nt hs;obtain⟨r,r1,r2,r3,r4,r5,r6,r7,r8,r9,r10⟩:=yt U hs (N.ext _ _ _ z);have p:∃ hb:st≠.busy,gE ih f fn t ((pend.map Item.code).toList++k) (.collected s.next::ds) .run up none (os.put (s.alloc .deferred).next (.loop .exhausted pend f' t' ps' a' b' d' nt))=some out:=by
         split at e
         ·cases e
         ·rename_i Q;exact⟨Q,e⟩
        obtain⟨hb,p⟩:=p;obtain⟨q1,q2⟩:=r10 .exhausted pend;have m:=run_endLoop (P:=E.P) r1 (by rw[r2];exact hb);rw[r3]at m;have G:cG { fr with todo:=.inRangeFunc (w.heap.size+1)::k,defers:={ target:=.collected w.heap.size,args:=#[] }::fr.defers } (.returned y)={ fr with todo:=.endRangeFunc (w.heap.size+1)::k,defers:={ target:=.collected w.heap.size,args:=#[] }::fr.defers }:=rfl;rw[G]at hsteps;have H:=Hf (P:=E.P) (fr:={ fr with todo:=.endRangeFunc (w.heap.size+1)::k,defers:={ target:=.collected w.heap.size,args:=#[] }::fr.defers }) (cs:=cs) hm rfl m;refine qK.of_steps (hsteps.trans (.one H)) (i.trans q2) (cj I p _ _ _ _ q1 ?_);exact⟨d.name,d.func,d.tr,d.size,fun _=>rfl,⟨F,d.ds⟩,d.md,d.rd,d.up⟩
       ·cases e
     |panicked c =>
      cases en with
      |returned _=>exact B.elim
      |outgrown=>exact B.elim
      |panicked ch =>simp only[kL]at e;refine qK.of_steps hsteps i (cj I e _ _ _ _ U ?_);rw[cG,bE (show({ fr with todo:=.inRangeFunc (w.heap.size+1)::k,defers:={ target:=.collected w.heap.size,args:=#[] }::fr.defers }:Frame).mode=.run from hm)];exact⟨d.name,d.func,d.tr,d.size,(fun q=>by cases q),⟨F,d.ds⟩,B,d.rd,d.up⟩
   ·cases e
  ·cases e
 ·cases e
end
def EP{ρ:aN}{u:Md}{b:FrameMode}(h:Uf ρ u b):Uf ρ (jB u) (settle b):=by
 cases u with
 |run=>cases b<;>first|exact h|exact h.elim
 |returning=>cases b<;>first|exact h|exact h.elim
 |panicking c=>cases b with
  |run=>exact h.elim
  |returning=>exact h.elim
  |panicking ch =>
   cases c with
   |nil=>cases ch with
    |nil=>exact h
    |cons _ _=>exact h.elim
   |cons p ps=>cases ch with
    |nil=>exact h.elim
    |cons q a =>
     obtain⟨⟨i,j,m⟩,o⟩:=h;obtain⟨pv,pr⟩:=p;obtain⟨qv,qr,qg⟩:=q;simp only at i j m;subst j;subst m;cases pr with
     |false=>exact⟨⟨i,rfl,rfl⟩,o⟩
     |true =>
      have g:∀(ps:List GN) (a:List PanicEntry),nI ρ ps a->a.dropWhile (fun e=>!e.goexit)=[]:=by
       intro ps;induction ps with
       |nil=>intro a d;cases a with
        |nil=>rfl
        |cons _ _=>exact d.elim
       |cons p ps ih=>intro a d;cases a with
        |nil=>exact d.elim
        |cons q a =>obtain⟨⟨_,_,r⟩,x⟩:=d;rw[List.dropWhile_cons,r];simpa using ih a x
      simp only[jB,settle,g ps a o];trivial
def Fc{ρ:aN}{u:Md}{a:FrameMode}{c:List GN}{ch:List PanicEntry}(h:Uf ρ u a)(hc:nI ρ c ch):Uf ρ (sk u c) (raised a ch):=by
 cases u with
 |run=>cases a<;>first|exact hc|exact h.elim
 |returning=>cases a<;>first|exact hc|exact h.elim
 |panicking d=>cases a with
  |run=>exact h.elim
  |returning=>exact h.elim
  |panicking dh=>exact nI.append hc h
section
variable{E:dL}{ih:tR->S->Option fo}{f:FuncId}{fn:Func}
def UN(tm:Array Value):ResultVar->Sem Value
 |.tmp t=>pure (tm.getD t undef)
 |.cell a t=>do Go.loadVar t (<- asAddr (tm.getD a undef))
def JS(fn:Func)(tm:Array Value):results fn tm=(do let vs <- fn.results.mapM (UN tm);pure (if h:vs.size=1 then vs[0] else .tuple vs)):=by unfold results;congr 1
def Cp{P:Program}{ρ:aN}{s:S}{w:World}(h:HR ρ s w){t:T V}{tm:Array Value}(g:TR ρ t tm){x:ResultVar}{v:V}(e:pF P t s x=some v) :
 ∃ y,den ρ v=some y/\(UN tm x).run P w=.ok y w:=by
 have at_:∀ i u,t.get (fu i)=some u->den ρ u=some (tm.getD i undef):=fun i u j=>by obtain⟨y,b,d⟩:=g i u j;rw[b];simp[d]
 cases x with
 |tmp i=>exact⟨_,at_ _ _ e,rfl⟩
 |cell a ty =>
  simp only[pF]at e;split at e
  ·rename_i ad hp;obtain⟨a1,y,b,d,m⟩:=qw h e;have:=at_ _ _ hp;simp only[den,b,abB]at this;refine⟨y,d,?_⟩;simp only[UN,afx,<- this,asAddr,aiy,aeq,m]
  ·cases e
def qo{P:Program}{ρ:aN}{s:S}{w:World}(h:HR ρ s w){t:T V}{tm:Array Value}(b:TR ρ t tm):∀ {l:List ResultVar} {vs:List V},kK P t s l=some vs ->
 ∃ ys,bd ρ vs=some ys/\(l.mapM (UN tm)).run P w=.ok ys w
 |[],vs,e=>by cases e;exact⟨[],rfl,rfl⟩
 |x::l,vs,e=>by
  simp only[kK]at e;cases a:pF P t s x with
  |none=>simp[a]at e
  |some v =>
   cases hl:kK P t s l with
   |none=>simp[a,hl]at e
   |some q =>simp only[a,hl,abB]at e;subst e;obtain⟨y,d,g⟩:=Cp (P:=P) (w:=w) h b a;obtain⟨ys,i,j⟩:=qo h b hl;refine⟨y::ys,be.2 ⟨y,ys,d,i,rfl⟩,?_⟩;simp only[List.mapM_cons,afx,g,j,aeq,aiy]
def Cn{P:Program}{ρ:aN}{s:S}{w:World}(h:HR ρ s w){t:T V}{tm:Array Value}(b:TR ρ t tm){v:V}(e:sf P fn t s=some v):∃ y,den ρ v=some y/\(results fn tm).run P w=.ok y w:=by
 unfold sf at e;split at e
 ·rename_i l hl;cases e;obtain⟨ys,a,d⟩:=qo (P:=P) (w:=w) h b hl;have hr:(results fn tm).run P w=.ok (if h:ys.toArray.size=1 then ys.toArray[0] else .tuple ys.toArray) w:=by rw[JS,Array.mapM_eq_mapM_toList];simp[d]
  refine⟨_,?_,hr⟩;have hlen:=bS a;cases l with
  |nil =>cases a;rfl
  |cons v l=>cases l with
   |nil =>obtain⟨y,hy,rfl⟩:=ng a;simpa[zJ]using hy
   |cons v2 l =>obtain⟨y,q,hy,g,rfl⟩:=be.1 a;obtain⟨y2,q,hy2,hq2,rfl⟩:=be.1 g;simp only[zJ,den,a];simp
 ·cases e
def Dz{P:Program}{ρ:aN}{s:S}{w:World}(h:HR ρ s w){t:T V}{todo:List Item}{m:Md}{up:Option Md}{rd:Option Nat}{fr:Frame}{cs:List Frame}(g:kG P ρ f fn t todo [] m up rd fr cs){e:End}{en:Ending}(i:Ug ρ e en)
 (d:fr.going P w en):qK P f up.isSome rd.isSome cs (lone fr cs w) ρ w ⟨e,up,s⟩:=by
 refine⟨ρ,w,h,FR.refl ρ w,?_⟩;have hleave:up=none->fr.leaving P w en:=by
  intro j;have hk:fr.kind=.normal:=by have:=g.up;rw[j]at this;exact this
  cases en with
  |returned v=>obtain⟨a,b,c⟩:=d;exact⟨a,b,hk,c⟩
  |panicked ch=>exact d
  |outgrown=>trivial
 cases rd with
 |some l =>
  have j:up=none:=g.rd.1;intro c cs' hc;subst hc;refine⟨en,i,.one ?_⟩;cases en with
  |returned v=>exact step_leave_returned (hleave j)
  |panicked ch=>exact step_leave_panicked (hleave j)
  |outgrown=>cases e<;>exact i.elim
 |none =>
  cases up with
  |none=>exact⟨fr,en,i,Steps.refl _ _,g.name,hleave rfl⟩
  |some u =>obtain⟨hk,p,cs0,rfl,o⟩:=g.up;intro c cs' hc;cases hc;exact⟨fr,en,u,p.mode,rfl,o,i,Steps.refl _ _,hk,d⟩
def rK(L:Good E.P ih){t:T V}{todo:List Item}{ds:List eS}{m:Md}(hm:m≠.run){up:Option Md}{rd:Option Nat}{s:S}{out:fo}
 (e:dM ds E fn (gE ih f fn) (bR ih) t m up rd s=some out) {ρ:aN} {w:World} {fr:Frame} {cs:List Frame} (h:HR ρ s w) (j:kG E.P ρ f fn t todo ds m up rd fr cs):qK E.P f up.isSome rd.isSome cs (lone fr cs w) ρ w out:=by
 have x:fr.mode≠.run:=by intro p;have:=j.md;rw[p]at this;cases m<;>first|exact hm rfl|exact this.elim
 unfold dM at e;split at e
 ·rename_i d ds';have a:=j.ds;cases o:fr.defers with
  |nil=>rw[o]at a;exact a.elim
  |cons r rs =>
   rw[o]at a;obtain⟨⟨l,M,O⟩,Q⟩:=a;subst O;unfold lc at e;split at e
   ·rename_i Y;obtain⟨l',Z,g2⟩:=h.blk _ _ Y;rw[M]at Z;cases Z;have G:=run_takeDeferred (P:=E.P) g2;obtain⟨H,z⟩:=h.turn M Y (fun _ h=>by cases h) (yC w l.b (.deferred none)) .gone trivial;have hstep:=EJ (P:=E.P) (cs:=cs) rfl x o G;have U:kG E.P ρ f fn t [] ds' m up rd { fr with defers:=[]++rs } cs:=⟨j.name,j.func,j.tr,j.size,fun q=>absurd q hm,Q,j.md,j.rd,j.up⟩;exact qK.of_steps (.one hstep) z (cj L e _ _ _ _ H U)
   ·cases e
 ·rename_i g captured args ds';have a:=j.ds;cases o:fr.defers with
  |nil=>rw[o]at a;exact a.elim
  |cons r rs =>
   rw[o]at a;obtain⟨⟨gf,cc,aa,M,O,Q,h4⟩,h5⟩:=a;cases M;subst h4;cases hr:bR ih g (args++captured) (some m) s with
   |none=>rw[hr]at e;cases e
   |some o1 =>
    rw[hr]at e;obtain⟨hcall,I⟩:=L (.call g (args++captured) (some m)) s o1 hr ρ w _ h (dG Q O);obtain⟨ρ1,w1,H,z,j3⟩:=I ({ fr with defers:=rs }::cs) (fun u W=>by cases W;exact⟨_,_,rfl,j.md⟩);obtain⟨frX,en,u,N,k1,k2,F,k4,k5,k6⟩:=j3 _ _ rfl
    have J:=step_defer (P:=E.P) (cs:=cs) (f:=g) (args:=(aa++cc).toArray) (w:=w) x o rfl (by have:=hcall w;simpa[invoke]using this)
    have i:=j.mono z.ext;obtain⟨oe,oup,os⟩:=o1;simp only at k1 F H;subst k1;cases oe with
    |returned v =>
     cases en with
     |panicked _=>exact F.elim
     |outgrown=>exact F.elim
     |returned y =>
      simp only[kj]at e;have A:=step_going_returned (c:={ fr with defers:=rs,mode:=N }) (cs:=cs) k5 k6;have K:u≠.run/\gE ih f fn t [] ds' (jB u) up rd os=some out:=by
       cases u with
       |run=>cases e
       |returning=>exact⟨(by intro q;cases q),e⟩
       |panicking c=>exact⟨(by intro q;cases q),e⟩
      have X:jB u≠.run:=by
       obtain⟨W,_⟩:=K;unfold jB;split
       ·intro q;cases q
       ·exact W
      have B:kG E.P ρ1 f fn t [] ds' (jB u) up rd { fr with defers:=rs,mode:=settle N } cs :=
       ⟨i.name,i.func,i.tr,i.size,fun q=>absurd q X,h5.mono z.ext,EP k2,i.rd,i.up⟩
      exact qK.of_steps (.head J (k4.trans (.one A))) z (cj L K.2 _ _ _ _ H B)
    |panicked c =>
     cases en with
     |returned _=>exact F.elim
     |outgrown=>exact F.elim
     |panicked ch =>
      simp only[kj]at e;have A:=step_going_panicked (c:={ fr with defers:=rs,mode:=N }) (cs:=cs) k6
      have B:kG E.P ρ1 f fn t [] ds' (sk u c) up rd { fr with defers:=rs,mode:=raised N ch } cs :=
       ⟨i.name,i.func,i.tr,i.size,(fun q=>by cases u<;>cases q),h5.mono z.ext,Fc k2 F,i.rd,i.up⟩
      exact qK.of_steps (.head J (k4.trans (.one A))) z (cj L e _ _ _ _ H B)
 ·cases e
 ·have a:=j.ds;have o:fr.defers=[]:=by
   cases p:fr.defers with
   |nil=>rfl
   |cons _ _=>rw[p]at a;exact a.elim
  unfold uo at e;split at e
  ·unfold QM at e;split at e
   ·rename_i v hv;cases e;obtain⟨y,y1,y2⟩:=Cn (P:=E.P) (fn:=fn) h j.tr hv;refine Dz h j (en:=.returned y) y1 ⟨?_,o,fn,j.name▸j.func,y2⟩;have:=j.md;cases p:fr.mode<;>rw[p]at this<;>first|rfl|exact this.elim
   ·cases e
  ·rename_i c;cases e;have:=j.md;cases p:fr.mode with
   |run=>exact absurd p x
   |returning=>rw[p]at this;exact this.elim
   |panicking ch =>rw[p]at this;exact Dz h j (en:=.panicked ch) this ⟨p,o,fn,j.name▸j.func⟩
  ·cases e
end
section
variable{E:dL}{ih:tR->S->Option fo}{f:FuncId}{fn:Func}
def Bz(y:jc E)(hD:eu E)(i:Good E.P ih){c:Code}{k:List Item}{t:T V}{ds:List eS}{up:Option Md}{rd:Option Nat}{s:S}{out:fo}
 (e:di c E f fn (gE ih f fn) (bR ih) (eD ih) k t ds up rd s=some out) {ρ:aN} {w:World} {fr:Frame} {cs:List Frame} (h:HR ρ s w) (d:kG E.P ρ f fn t (.code c::k) ds .run up rd fr cs) :
 qK E.P f up.isSome rd.isSome cs (lone fr cs w) ρ w out:=by
 have hm:=AC d;have m:=d.todo rfl;cases c with
 |ret =>simp only[di]at e;exact jE i e h d (fun _ j=>YT hm m j) (fun l v w' j hk hr c cs' hc=>by subst hc;exact ZE hm hk j m hr)
 |skip=>exact eb h (Uz hm m) (d.to k) (cj i e)
 |label l=>exact eb h (Qt hm m) (d.to k) (cj i e)
 |seq a b=>exact eb h (YS hm m) (d.to _) (cj i e)
 |cond c a b =>
  simp only[di]at e;cases x:eval t c with
  |none=>rw[x]at e;cases e
  |some v =>
   rw[x]at e;have o:=aL d.tr x;unfold Gr at e;split at e
   ·rename_i q z;cases z;simp only[den,abB]at o;refine eb h (UC hm m o.symm) (d.to _) ?_;have hb:(bif q then a else b)=if q then a else b:=by cases q<;>rfl
    rw[<- hb];exact cj i e
   ·cases e
 |block id c=>exact eb h (Qv hm m) (d.to _) (cj i e)
 |loop c=>exact eb h (ye hm m) (d.to _) (cj i e)
 |scope c=>exact eb h (Qq hm m) (d.to _) (cj i e)
 |exit id =>
  simp only[di]at e;cases p:exitTo id k with
  |none =>rw[p]at e;simp only[rg]at e;exact jE (jump:=some (.exit id)) i e h d (fun u=>by rcases u with u|u<;>cases u) (fun l v w' j hk hr c cs' hc=>by subst hc;exact Vy hm hk j m p hr)
  |some A=>rw[p]at e;exact eb h (UB hm m p) (d.to _) (cj i e)
 |goto id =>
  simp only[di]at e;cases p:gotoIn id k with
  |none =>rw[p]at e;simp only[rg]at e;exact jE (jump:=some (.goto id)) i e h d (fun u=>by rcases u with u|u<;>cases u) (fun l v w' j hk hr c cs' hc=>by subst hc;exact Vx hm hk j m p hr)
  |some A=>rw[p]at e;exact eb h (UA hm m p) (d.to _) (cj i e)
 |rangeFunc g ps a b=>exact xE i e h d
 |region id ops draw =>
  cases draw with
  |true =>
   simp only[di]at e;cases o:lX ops fn.ntmps with
   |false=>rw[o]at e;cases e
   |true =>rw[o]at e;exact ot i e d.lone_up fun r hr=>hD ih i f fn id ops k rd t ds up s r o hr ρ w fr cs h d
  |false =>
   simp only[di]at e;cases o:lX ops fn.ntmps with
   |false=>rw[o]at e;cases e
   |true =>rw[o]at e;refine ot i e d.lone_up fun r hr=>?_;have:=rY (k:=k) (rd:=rd) y i o ops.toList (List.range ops.size) (VT ops) t ds up s r hr ρ w _ cs h (d.to _);exact this.of_steps (.one (Oh hm m)) (FR.refl ρ w) (tL.refl d) rfl
 |refuse why=>cases e
def Am(u:jc E)(hD:eu E)(j:Good E.P ih){i:Item}{k:List Item}{t:T V}{ds:List eS}{up:Option Md}{rd:Option Nat}{s:S}{out:fo}
 (e:lS i E f fn (gE ih f fn) (bR ih) (eD ih) k t ds up rd s=some out) {ρ:aN} {w:World} {fr:Frame} {cs:List Frame} (h:HR ρ s w) (g:kG E.P ρ f fn t (i::k) ds .run up rd fr cs) :
 qK E.P f up.isSome rd.isSome cs (lone fr cs w) ρ w out:=by
 have hm:=AC g;have o:=g.todo rfl;cases i<;>try(cases e;done)
 case code c=>exact Bz u hD j e h g
 case inBlock id=>exact eb h (JJ hm o) (g.to k) (cj j e)
 case inScope c=>exact eb h (JI hm o) (g.to k) (cj j e)
 case inLoop c=>exact eb h (Oi hm o) (g.to _) (cj j e)
 case beginRound =>
  simp only[lS]at e;cases rd with
  |none=>cases e
  |some l =>
   simp only at e;unfold yD at e;split at e
   ·rename_i pend f' t' ps a b d nt x;obtain⟨hu,lb,hl,p⟩:=g.rd;obtain⟨r,y,z,A,r4,r5,r6,r7,r8,r9,r10⟩:=yt h x hl;obtain⟨B,F⟩:=r10 .busy pend;have m:=run_beginRound (P:=E.P) y z;have hst:=Cl (P:=E.P) (cs:=cs) hm p o m;have q:({ r with state:=LoopState.busy }:Loop)={ r with state:=.busy,pending:=pend }:=by rw[<- A]
    rw[q]at hst;exact qK.of_steps (.one hst) F (cj j e _ _ _ _ B (g.to k))
   ·cases e
def xK(j:jc E)(hD:eu E)(d:Good E.P ih){t:T V}{todo:List Item}{ds:List eS}{m:Md}{up:Option Md}{rd:Option Nat}{s:S}{out:fo}
 (e:gy E f fn (gE ih f fn) (bR ih) (eD ih) t todo ds m up rd s=some out):GJ E.P f fn t todo ds m up rd s out:=by
 intro ρ w fr cs h b;cases m with
 |run =>
  simp only[gy]at e;cases todo with
  |nil =>simp only[oa]at e;have hm:=AC b;have g:=b.todo rfl;exact jE d e h b (fun _ a=>YU hm g a) (fun l v w' a hk hr c cs' hc=>by subst hc;exact ZF hm hk a g hr)
  |cons i k=>exact Am j hD d e h b
 |returning=>exact rK d (by intro q;cases q) e h b
 |panicking c=>exact rK d (by intro q;cases q) e h b
def sK{β:Type}:∀(l:List V) (i:Nat) (t:T V) (k:T V->β),kU l i t k=k (kU l i t id)
 |[],_,_,_=>rfl
 |x::r,i,t,k=>by simp only[kU,T.setK_eq];exact sK r (i+1) _ k
def DI:∀(l:List V) (i:Nat) (t:T V) (j:Nat),(kU l i t id).get (fu j)=if i<=j/\j<i+l.length then l[j - i]? else t.get (fu j)
 |[],i,t,j=>by rw[aeD (by simp)];rfl
 |x::r,i,t,j=>by
  simp only[kU,T.setK_eq];rw[DI r (i+1) _ j,T.get_setN];simp only[aeJ];by_cases a:i+1<=j/\j<i+1+r.length
  ·rw[aeM a,aeM (by omega),show j - i=(j - (i+1))+1 by omega];rfl
  ·rw[aeD a];by_cases hi:i=j
   ·subst hi;rw[aeM rfl,aeM (by omega)];simp
   ·rw[aeD hi,aeD (by omega)]
def mH{β:Type}:∀(ps:List Tmp) (l:List V) (t:T V) (k:T V->β),cN t ps l k=k (cN t ps l id)
 |[],l,t,k=>by cases l<;>rfl
 |p::ps,[],t,k=>rfl
 |p::ps,x::l,t,k=>by simp only[cN,T.setK_eq];exact mH ps l _ k
def nK{ρ:aN}:∀(ps:List Tmp) (l:List V) (ys:List Value) (t:T V) (tm:Array Value),TR ρ t tm->bd ρ l=some ys->(∀ p∈ps,p<tm.size) ->
 TR ρ (cN t ps l id) ((ps.zip ys).foldl (fun tmps x=>tmps.setIfInBounds x.1 x.2) tm)/\((ps.zip ys).foldl (fun tmps x=>tmps.setIfInBounds x.1 x.2) tm).size=tm.size
 |[],l,ys,t,tm,a,_,_=>by
  have:cN t [] l id=t:=by cases l<;>rfl
  rw[this];exact⟨a,rfl⟩
 |p::ps,[],ys,t,tm,a,b,_=>by cases b;exact⟨a,rfl⟩
 |p::ps,x::l,ys,t,tm,a,b,hp=>by obtain⟨y,q,e,g,rfl⟩:=be.1 b;simp only[cN,T.setK_eq,List.zip_cons_cons,akI];obtain⟨i,j⟩:=nK ps l q _ (tm.setIfInBounds p y) (a.put e (hp p (by simp))) g (fun m d=>by simpa using hp m (by simp[d]));exact⟨i,by simpa using j⟩
structure tN(E:dL):Prop where
 call:∀ f args s v s',E.orc f args s=some (v,s')->gv E.P f args none s ⟨.returned v,none,s'⟩
def FY(r:Good E.P ih){args:List V}{up:Option Md}{s:S}{out:fo}(e:uI ih f args up s (E.P.funcs[f]?)=some out):gv E.P f args up s out:=by
 unfold uI at e;split at e
 ·rename_i fn d;split at e
  ·rename_i c hb;cases g:(fn.name == "runtime.NumGoroutine")with
   |true=>rw[g]at e;cases e
   |false =>
    rw[g]at e;simp only[TD]at e;rw[sK]at e;intro ρ w ys h q;have j:fn.name ≠ "runtime.NumGoroutine" := by simpa using g
    refine⟨fun w=>by simp[callFunc,d,j,hb],fun cs m=>?_⟩;refine r _ s out e ρ w _ cs h ⟨rfl,d,?_,?_,fun _=>?_,trivial,trivial,rfl,?_⟩
    ·intro i v a;rw[DI]at a;have hl:=bS q;split at a
     ·rename_i hi;obtain⟨y,o,b⟩:=eM _ q a;refine⟨y,o,?_⟩;have p:i<ys.length:=(aez.1 b).1;simp only[ajS]at b;show(ys.toArray++Array.replicate _ undef)[i]? = some y;rw[Array.getElem?_append_left (by simpa using p)];simpa using b
     ·rw[T.get_leaf]at a;cases a
    ·show fn.ntmps<=(ys.toArray++Array.replicate _ undef).size;simp[d];omega
    ·simp[Frame.enter,d,hb]
    ·cases up with
     |none=>rfl
     |some u =>obtain⟨c,cs',o,b⟩:=m u rfl;exact⟨rfl,c,cs',o,b⟩
  ·cases e
 ·cases e
def EX(q:Good E.P ih){l:Nat}{args:List V}{s:S}{out:fo}(e:zj E ih l args s (s.get l)=some out):Ub E.P l args s out:=by
 intro ρ w lb ys h hl j;unfold zj at e;split at e
 ·rename_i st pend f' t' ps a b d nt u;split at e
  ·rename_i fn y;cases hb:(Nat.ble fn.ntmps nt&&Nat.beq ps.size args.length&&ps.toList.all (fun p=>Nat.blt p nt))with
   |false=>rw[hb]at e;cases e
   |true =>
    rw[hb]at e;simp only[ge]at e;simp only[abA]at hb;rw[mH]at e;obtain⟨r,z,r2,r3,A,m,B,F,G,o,r10⟩:=yt h u hl;have g:=bS j;have i:ys.toArray.size=r.params.size:=by have:=abr hb.1.2;rw[m,this];simpa using g
    have hy:=run_yield (P:=E.P) (args:=ys.toArray) z i;have hfold:(r.params.zip ys.toArray).foldl (fun tmps (t,a)=>tmps.setIfInBounds t a) r.tmps=(ps.toList.zip ys).foldl (fun tmps x=>tmps.setIfInBounds x.1 x.2) r.tmps:=by rw[<- Array.foldl_toList,m];simp
    obtain⟨H,I⟩:=nK ps.toList args ys t' r.tmps G j (fun p hp=>aiN (kw (aiX.1 hb.2 p hp)) o);rw[hfold]at hy;refine⟨_,_,_,_,hy,fun cs=>?_⟩;rw[A,B,F];refine q _ s out e ρ w _ cs h ⟨rfl,y,H,?_,fun _=>rfl,trivial,trivial,⟨rfl,lb,hl,rfl⟩,rfl⟩;exact ajd (ajd (aeb hb.1.1) o) (Nat.le_of_eq I.symm)
  ·cases e
 ·cases e
def Cx(d:jc E)(g:tN E)(hD:eu E)(a:Good E.P ih):Good E.P (fx E ih):=by
 intro j s out e;cases j with
 |frame f fn t todo ds m up rd=>exact xK d hD a e
 |call f args up =>
  simp only[fx]at e;unfold BD at e;split at e
  ·rename_i v s' b;cases up with
   |some u=>cases b
   |none =>cases e;exact g.call f args s v s' b
  ·exact FY a e
 |round l args=>exact EX a e
def mE(a:jc E)(b:tN E)(hD:eu E):∀ n,Good E.P (qO E n)
 |0=>fun j s out e=>by cases e
 |n+1=>Cx a b hD (mE a b hD n)
end
abbrev Ih:=tR->S->Option fo
def EB(c:Nat->Ih)(R:Ih):Prop:=∀ j s o,R j s=some o->∃ n,∀ m,n<=m->c m j s=some o
def bO{α:Type}(c:Nat->Ih)(R:Ih)(Φ:Ih->Option α):Prop:=∀ x,Φ R=some x->∃ n,∀ m,n<=m->Φ (c m)=some x
section
variable{c:Nat->Ih}{R:Ih}{α β:Type}
def bO.const(x:Option α):bO c R (fun _=>x):=fun _ h=>⟨0,fun _ _=>h⟩
def bO.bind{Φ:Ih->Option α}{Ψ:Ih->Option α->Option β}(h:bO c R Φ)(b:∀ ih,Ψ ih none=none)(d:∀ x,bO c R (fun ih=>Ψ ih (some x))):bO c R (fun ih=>Ψ ih (Φ ih)):=by
 intro y hy;cases a:Φ R with
 |none=>simp only[a,b]at hy;cases hy
 |some x =>simp only[a]at hy;obtain⟨n1,e⟩:=h x a;obtain⟨n2,g⟩:=d x y hy;refine⟨max n1 n2,fun m hm=>?_⟩;simp only[e m (by omega)];exact g m (by omega)
def bO.ih(h:EB c R)(j:tR)(s:S):bO c R (fun ih=>ih j s):=fun o ho=>h j s o ho
def vF(h:EB c R){Φ:Ih->Option fo}(a:bO c R Φ)(d:Option Tmp)(t:T V)(ds:List eS)(up:Option Md){k:Ih->RK}(hk:∀ t ds up s,bO c R (fun ih=>k ih t ds up s)):bO c R (fun ih=>fS d t ds up (k ih) (Φ ih)):=by
 refine a.bind (Ψ:=fun ih x=>fS d t ds up (k ih) x) (fun _=>rfl) fun o=>?_;obtain⟨e,u,s⟩:=o;cases e with
 |returned v=>simp only[fS,cI];exact hk _ _ _ _
 |panicked c=>exact bO.const _
def KS(h:EB c R)(rd:Option Nat)(d:Option Tmp)(t:T V)(ds:List eS)(up:Option Md){k:Ih->RK}(hk:∀ t ds up s,bO c R (fun ih=>k ih t ds up s))(x:Option Nx) :
 bO c R (fun ih=>eo (bR ih) (eD ih) rd d t ds up (k ih) x):=by
 cases x with
 |none=>exact bO.const _
 |some x =>
  cases x with
  |val v s=>simp only[eo,cI];exact hk _ _ _ _
  |skip s=>simp only[eo,cI];exact hk _ _ _ _
  |enter f args s=>exact vF h (bO.ih h _ _) d t ds up hk
  |round l args s=>exact vF h (bO.ih h _ _) d t ds up hk
  |defer df s=>cases rd<;>simp only[eo,cI,akK,ajp,ge,TD]<;>first|exact hk _ _ _ _|exact bO.const _
  |recover s =>
   simp only[eo];unfold recovered;split
   ·simp only[cI];exact hk _ _ _ _
   ·simp only[cI];exact hk _ _ _ _
   ·exact bO.const _
  |panic v s=>exact bO.const _
def KR(h:EB c R){E:dL}(rd:Option Nat)(o:Oper)(t:T V)(ds:List eS)(up:Option Md)(s:S){k:Ih->RK}(hk:∀ t ds up s,bO c R (fun ih=>k ih t ds up s))(b:Option Bool) :
 bO c R (fun ih=>qS E (bR ih) (eD ih) rd o t ds up s (k ih) b):=by
 cases b with
 |none=>exact bO.const _
 |some b=>cases b with
  |true=>exact KS h rd _ t ds up hk _
  |false=>simp only[qS,cI];exact hk _ _ _ _
def AK(h:EB c R){E:dL}{ops:Array Oper}(rd:Option Nat):∀(l:List Oper) (t:T V) (ds:List eS) (up:Option Md) (s:S),bO c R (fun ih=>qN E ops (bR ih) (eD ih) rd l t ds up s)
 |[],_,_,_,_=>bO.const _
 |o::l,t,ds,up,s=>KR h rd o t ds up s (fun t ds up s=>AK h rd l t ds up s) _
def KV(h:EB c R){E:dL}(t:T V)(s:S)(o:Oper)(b:Option Bool):bO c R (fun ih=>lA E (bR ih) t s o b):=by
 cases b with
 |none=>exact bO.const _
 |some b=>cases b with
  |false=>exact bO.const _
  |true =>
   simp only[lA];cases dI E t s o with
   |none=>exact bO.const _
   |some x=>cases x with
    |enter f args s =>simp only[ry];refine(bO.ih h (.call f args none) s).bind (Ψ:=fun _ x=>sZ x) (fun _=>rfl) fun o=>bO.const _
    |_=>exact bO.const _
def vE(h:EB c R){E:dL}{ops:Array Oper}{ms:List Nat}{effs:Nat}{all:List (Nat×Oper)}(ds:List eS)(up:Option Md):∀(es:List (Nat×Oper)) (a:List (Nat×S)) (done:Nat) (t:T V) (s:S),
 bO c R (fun ih=>gK E ops ms effs all (bR ih) ds up es a done t s)
 |[],_,_,_,_=>bO.const _
 |(i,o)::r,a,done,t,s=>by
  simp only[gK];cases cZ E ops ms effs a (ms.getD i 0) all done t s with
  |none=>exact bO.const _
  |some x =>
   obtain⟨b,d,s1⟩:=x;simp only
   refine(KV h d s1 o (bT ops d o)).bind (Ψ:=fun ih (x:Option PM)=>match x with
    |some (.val v s')=>bif Nat.ble s1.next s'.next&&!(b.testBit i)&&effs.testBit i then nU d o.dst (some v) fun t=>gK E ops ms effs all (bR ih) ds up r ((i,s')::a) (Nat.lor b (Nat.pow 2 i)) t s' else none
    |some (.pan c s')=>bif b.testBit i then none else Rn ds up b all d c s' (cZ E ops ms effs a (eH ms i all) all b d s1)
    |none=>none) (fun _=>rfl) fun x=>?_
   cases x with
   |val v s' =>
    simp only;cases (Nat.ble s1.next s'.next&&!(b.testBit i)&&effs.testBit i)with
    |false=>exact bO.const _
    |true=>simp only[ge,cI];exact vE h ds up r _ _ _ _
   |pan c s'=>exact bO.const _
def FQ(h:EB c R){E:dL}{ops:Array Oper}(t:T V)(ds:List eS)(up:Option Md)(s:S):bO c R (fun ih=>iK E ops (bR ih) (eD ih) t ds up s):=by
 unfold iK;cases Rj E.P ops with
 |none=>exact bO.const _
 |some p=>exact vE h ds up _ _ _ _ _
variable{f:FuncId}{fn:Func}
def gV(h:EB c R)(t:T V)(todo:List Item)(ds:List eS)(m:Md)(up:Option Md)(rd:Option Nat)(s:S):bO c R (fun ih=>gE ih f fn t todo ds m up rd s):=bO.ih h _ _
def mW(h:EB c R)(t:T V)(ds:List eS)(up:Option Md)(rd:Option Nat)(s:S)(jump:Option Code):bO c R (fun ih=>mQ (gE ih f fn) t ds up rd s jump):=by
 unfold mQ;split
 ·split
  ·exact gV h _ _ _ _ _ _ _
  ·exact gV h _ _ _ _ _ _ _
  ·exact bO.const _
 ·split<;>exact bO.const _
def sW(h:EB c R){Φ:Ih->Option mg}(a:bO c R Φ)(k:List Item)(rd:Option Nat):bO c R (fun ih=>iL (gE ih f fn) k rd (Φ ih)):=by refine a.bind (Ψ:=fun ih x=>iL (gE ih f fn) k rd x) (fun _=>rfl) fun x=>?_;cases x<;>exact gV h _ _ _ _ _ _ _
def Ip(h:EB c R){Φ:Ih->Option fo}(a:bO c R Φ)(k:List Item)(t:T V)(ds:List eS)(up:Option Md)(rd:Option Nat)(d l:Nat):bO c R (fun ih=>kL (gE ih f fn) k t ds up rd d l (Φ ih)):=by
 refine a.bind (Ψ:=fun ih x=>kL (gE ih f fn) k t ds up rd d l x) (fun _=>rfl) fun x=>?_;obtain⟨e,u,s⟩:=x;cases e with
 |panicked c=>exact gV h _ _ _ _ _ _ _
 |returned v =>
  simp only[kL];unfold sF;split
  ·split
   ·exact bO.const _
   ·exact gV h _ _ _ _ _ _ _
  ·exact bO.const _
def CA(h:EB c R)(nt:Nat)(k:List Item)(t:T V)(ds:List eS)(up:Option Md)(rd:Option Nat)(s:S)(ps:Array Tmp)(a b:Code)(x:Option V):bO c R (fun ih=>gw f nt (gE ih f fn) (bR ih) k t ds up rd s ps a b x):=by
 unfold gw;split
 ·split
  ·split
   ·exact Ip h (bO.ih h _ _) _ _ _ _ _ _ _
   ·exact bO.const _
  ·exact bO.const _
 ·exact bO.const _
def FU(h:EB c R){E:dL}(co:Code)(k:List Item)(t:T V)(ds:List eS)(up:Option Md)(rd:Option Nat)(s:S):bO c R (fun ih=>di co E f fn (gE ih f fn) (bR ih) (eD ih) k t ds up rd s):=by
 cases co<;>simp only[di]<;>try exact gV h _ _ _ _ _ _ _
 case ret=>exact mW h _ _ _ _ _ _
 case cond q a b =>
  unfold Gr;split
  ·exact gV h _ _ _ _ _ _ _
  ·exact bO.const _
 case exit id =>
  unfold rg;split
  ·exact gV h _ _ _ _ _ _ _
  ·exact mW h _ _ _ _ _ _
 case goto l =>
  unfold rg;split
  ·exact gV h _ _ _ _ _ _ _
  ·exact mW h _ _ _ _ _ _
 case rangeFunc g ps a b=>exact CA h _ _ _ _ _ _ _ _ _ _ _
 case region id ops draws =>cases draws<;>simp only[di]<;>cases lX ops fn.ntmps<;>simp only[ge,TD]<;>first|exact bO.const _|exact sW h (AK h _ _ _ _ _ _) _ _|exact sW h (FQ h _ _ _ _) _ _
 case refuse=>exact bO.const _
def FT(h:EB c R){E:dL}(i:Item)(k:List Item)(t:T V)(ds:List eS)(up:Option Md)(rd:Option Nat)(s:S):bO c R (fun ih=>lS i E f fn (gE ih f fn) (bR ih) (eD ih) k t ds up rd s):=by
 cases i<;>simp only[lS]<;>try(first|exact gV h _ _ _ _ _ _ _|exact bO.const _)
 case code co=>exact FU h co _ _ _ _ _ _
 case beginRound =>
  cases rd with
  |none=>exact bO.const _
  |some l =>
   simp only;unfold yD;split
   ·exact gV h _ _ _ _ _ _ _
   ·exact bO.const _
def AJ(h:EB c R){E:dL}(ds:List eS)(t:T V)(m:Md)(up:Option Md)(rd:Option Nat)(s:S):bO c R (fun ih=>dM ds E fn (gE ih f fn) (bR ih) t m up rd s):=by
 cases ds with
 |nil=>exact bO.const _
 |cons d ds =>
  cases d with
  |collected b =>
   simp only[dM];unfold lc;split
   ·exact gV h _ _ _ _ _ _ _
   ·exact bO.const _
  |call fn cap args =>
   cases fn with
   |func g =>
    simp only[dM];refine(bO.ih h (.call g (args++cap) (some m)) s).bind (Ψ:=fun ih x=>kj (gE ih f _) t ds up rd x) (fun _=>rfl) fun x=>?_;unfold kj;split
    ·split
     ·exact bO.const _
     ·exact gV h _ _ _ _ _ _ _
    ·exact gV h _ _ _ _ _ _ _
    ·exact bO.const _
   |_=>exact bO.const _
def oW(h:EB c R){E:dL}(j:tR)(s:S):bO c R (fun ih=>fx E ih j s):=by
 cases j with
 |frame f fn t todo ds m up rd =>
  simp only[fx];cases m with
  |run =>
   simp only[gy];cases todo with
   |nil=>simp only[oa];exact mW h _ _ _ _ _ _
   |cons i k=>simp only[oa];exact FT h i _ _ _ _ _ _
  |returning=>simp only[gy];exact AJ h _ _ _ _ _ _
  |panicking c=>simp only[gy];exact AJ h _ _ _ _ _ _
 |call f args up =>
  simp only[fx];unfold BD;split
  ·exact bO.const _
  ·unfold uI;split
   ·split
    ·rename_i fn _ _ co _;cases b:(fn.name == "runtime.NumGoroutine")with
     |true=>exact bO.const _
     |false =>have:(fun ih:Ih=>bif false then none else kU args 0 .leaf fun t=>ih (.frame f fn t [.code co] [] .run up none) s)=fun ih=>ih (.frame f fn (kU args 0 .leaf id) [.code co] [] .run up none) s:=funext fun ih=>sK args 0 .leaf _;rw[this];exact bO.ih h _ _
    ·exact bO.const _
   ·exact bO.const _
 |round l args =>
  simp only[fx];unfold zj;split
  ·split
   ·rename_i _ _ a t0 ps assign body _ nt _ _ fn _;cases b:(Nat.ble fn.ntmps nt&&Nat.beq ps.size args.length&&ps.toList.all (fun p=>Nat.blt p nt))with
    |false=>exact bO.const _
    |true =>have:(fun ih:Ih=>bif true then cN t0 ps.toList args fun t=>ih (.frame a fn t [.code assign,.beginRound,.code body] [] .run none (some l)) s else none)=fun ih=>ih (.frame a fn (cN t0 ps.toList args id) [.code assign,.beginRound,.code body] [] .run none (some l)) s:=funext fun ih=>mH ps.toList args t0 _;rw[this];exact bO.ih h _ _
   ·exact bO.const _
  ·exact bO.const _
end
def lim(E:dL):Ih:=fun j s=>open Classical in if h:∃ o n,qO E n j s=some o then some h.choose else none
def zi(E:dL):∀ n j s o,qO E n j s=some o->qO E (n+1) j s=some o
 |0,_,_,_,h=>by cases h
 |n+1,j,s,o,h=>by have hl:EB (fun _=>qO E (n+1)) (qO E n):=fun j s o h=>⟨0,fun _ _=>zi E n j s o h⟩;obtain⟨k,hk⟩:=oW hl (E:=E) j s o h;exact hk k (abD _)
def tY(E:dL){n m:Nat}(hm:n<=m){j:tR}{s:S}{o:fo}(h:qO E n j s=some o):qO E m j s=some o:=by
 induction hm with
 |refl=>exact h
 |step _ ih=>exact zi E _ j s o ih
def Hr{E:dL}{n:Nat}{j:tR}{s:S}{o:fo}(h:qO E n j s=some o):lim E j s=some o:=by have a:∃ o n,qO E n j s=some o:=⟨o,n,h⟩;unfold lim;rw[dif_pos a];obtain⟨m,hm⟩:=a.choose_spec;have d:=tY E (Nat.le_max_left n m) h;have b:=tY E (Nat.le_max_right n m) hm;rw[d]at b;rw[<- aiJ b]
def zY{E:dL}{j:tR}{s:S}{o:fo}(h:lim E j s=some o):∃ n,qO E n j s=some o:=by
 unfold lim at h;split at h
 ·rename_i a;cases h;exact a.choose_spec
 ·cases h
def VE(E:dL):EB (qO E) (lim E):=fun j s o h=>by obtain⟨n,a⟩:=zY h;exact⟨n,fun m hm=>tY E hm a⟩
def RV(E:dL)(j:tR)(s:S):lim E j s=fx E (lim E) j s:=by
 cases h:fx E (lim E) j s with
 |some o =>obtain⟨n,a⟩:=oW (VE E) j s o h;exact Hr (n:=n+1) (a n (abD _))
 |none =>
  cases d:lim E j s with
  |none=>rfl
  |some o =>
   obtain⟨n,a⟩:=zY d;cases n with
   |zero=>cases a
   |succ n =>have hl:EB (fun _=>lim E) (qO E n):=fun j s o h=>⟨0,fun _ _=>Hr h⟩;obtain⟨k,hk⟩:=oW hl (E:=E) j s o a;have b:fx E (lim E) j s=some o:=hk k (abD _);rw[h]at b;cases b
def RU{E:dL}(a:jc E)(b:tN E)(hD:eu E):Good E.P (lim E):=fun j s o h=>by obtain⟨n,d⟩:=zY h;exact mE a b hD n j s o d
section ops
variable{P:Program}{ρ:aN}{s:S}{w:World}{t:T V}{tm:Array Value}
def Lk(h:HR ρ s w){b:Builtin}(hb:b=.len\/b=.cap\/b=.max\/b=.min){ts:Array TypeId}{ty:TypeId}{consts:Array Bool}{args:List V}{ys:List Value}(g:bd ρ args=some ys){nx:Nx}(e:jy P b ts args s=some nx) :
 BY P ρ w s nx ((Go.builtin b ts ty consts ys.toArray).run P w):=by
 rcases hb with rfl|rfl|rfl|rfl
 ·simp only[jy]at e;split at e
  ·rename_i t0 h0;split at e
   ·rename_i x;obtain⟨X,d,rfl⟩:=ng g;exact bj h e fun v a=>Aa h h0 d a
   ·cases e
  ·cases e
 ·simp only[jy]at e;split at e
  ·rename_i t0 h0;split at e
   ·rename_i x;obtain⟨X,d,rfl⟩:=ng g;exact bj h e fun v a=>BB h0 d a
   ·cases e
  ·cases e
 ·simp only[jy]at e;refine bj (m:=Builtin.max_ ts ty ys.toArray) h e fun v a=>?_;cases args with
  |nil=>cases a
  |cons x r =>obtain⟨X,q,d,hr,rfl⟩:=be.1 g;exact ka zS r q x X v hr d a
 ·simp only[jy]at e;refine bj (m:=Builtin.min_ ts ty ys.toArray) h e fun v a=>?_;cases args with
  |nil=>cases a
  |cons x r =>obtain⟨X,q,d,hr,rfl⟩:=be.1 g;exact ka zQ r q x X v hr d a
def Lh(h:HR ρ s w)(i:TR ρ t tm){a dst:TypeId}(b:∀ el,P.underlying dst≠some (.slice el)){x:Operand}{nx:Nx}(e:gY P s a dst (eval t x)=some nx) :
 BY P ρ w s nx ((do pure (Next.value (<- convert a dst (rv tm x))):Sem Next).run P w):=by
 unfold gY at e;split at e
 ·rename_i v m;have dv:=aL i m;generalize rv tm x=X at *;unfold ji at e;split at e
  ·rename_i y s' hc;cases e;unfold iU at hc;split at hc
   ·rename_i ds g;split at hc
    ·rename_i k d;split at hc
     ·rename_i j n;cases hc;cases dv;have:(convert a dst (.int j n)).run P w=.ok (.int k (k.wrap n)) w:=by cases ds<;>simp[convert,aG g,aG d,Conv.intToInt]
      exact⟨_,.int k (k.wrap n),rfl,by simp[this],by rw[cJ];rfl⟩
     ·cases hc
    ·rename_i d;obtain⟨rfl,o,p,q⟩:=uY h g d dv hc;exact⟨_,o,rfl,by simp[q],p⟩
    ·rename_i el d;exact absurd d (b el)
    ·cases hc
   ·cases hc
  ·cases e
 ·cases e
def Dn{E:dL}(h:HR ρ s w)(d:TR ρ t tm)(o:Oper)(hk:aP E.P o.op<=1){nx:Nx}(e:dI E t s o=some nx):BY E.P ρ w s nx ((execOp (rv tm) o).run E.P w):=by
 obtain⟨dst,op,type,pos,after,guard⟩:=o;unfold dI at e;simp only at e hk;cases op<;>simp only[dH]at e<;>try(cases e;done)
 case move x=>exact sD h d e
 case assign x=>exact sD h d e
 case pick c a b=>exact tf h d e
 case alloc elem=>simp[aP]at hk
 case box elem x=>simp[aP]at hk
 case build ty parts=>exact qH h d e
 case buildSlice ty len parts=>simp[aP]at hk
 case load ty x=>exact th h d e
 case store ty x y=>simp[aP]at hk
 case nilCheck x=>exact lY h d e
 case binOp op ty x y z=>exact xl h d e
 case unOp op ty x=>exact Bs h d e
 case convert src dst x =>refine Lh h d (fun el g=>?_) e;simp[aP,g]at hk
 case makeInterface ty x=>exact nP h d e
 case makeFunc fn first cap=>exact pn h d e
 case makeMap ty r=>simp[aP]at hk
 case makeSlice ty l c=>simp[aP]at hk
 case slice ty x lo hi mx=>exact qE h d e
 case fieldAddr ty x f=>exact kY h d e
 case field ty x f=>exact qG h d e
 case indexAddr ty x i=>exact kX h d e
 case index ty x i=>exact qF h d e
 case lookup ty x k ok=>exact po h d e
 case mapUpdate ty m k x=>simp[aP]at hk
 case insert ty m k x=>simp[aP]at hk
 case typeAssert x xt ty ok=>exact pp h d e
 case extract x i=>exact nQ h d e
 case call c =>
  unfold iA at e;split at e
  ·rename_i args j;obtain⟨ys,p,q⟩:=BO d j;split at e
   ·rename_i b hc;have hb:b=.len\/b=.cap\/b=.max\/b=.min:=by simp only[aP,hc]at hk;cases b<;>simp at hk ⊢
    simp only[execOp,resolve,hc,afx,aiy,aeq,invoke,q];exact Lk h hb p e
   ·rename_i f hc;simp[aP,hc]at hk
   ·cases e
  ·cases e
 case defer c=>simp[aP]at hk
 case panic x=>simp[aP]at hk
end ops
section ops
variable{P:Program}{ρ:aN}{s:S}{w:World}{t:T V}{tm:Array Value}
def PJ(P:Program)(ρ:aN)(w:World)(mk:Nat->V)(B:eh)(m:Sem Next):Prop :=
 ∃ y obj lim n,m.run P w=.ok (.value y) ({ w with drawn:=n }.alloc obj) /\
  ∀ ρ' f,ρ.le ρ'->ρ' f 0=some ⟨w.heap.size,0,lim⟩->(∀ v,1<=v->ρ' f v=none)->den ρ' (mk f)=some y/\∀ w':World,w'.heap[w.heap.size]? = some obj->Cb ρ' w' f B
def uP{ρ':aN}{f:Nat}{lim b:Nat}{cs:List V}{ys:Array Value}{sb:Bool}{el g:TypeId}{fz:Nat×Nat}(o:bd ρ cs=some (ys.toList.take cs.length))(e:(sb=false->fz=(0,0))/\∀ i,i<ys.size->¬(fz.1<=i/\i<fz.2))
 (hl:ρ.le ρ') (h0:ρ' f 0=some ⟨b,0,lim⟩) (p:∀ v,1<=v->ρ' f v=none) (a:lim=ys.size) {w':World} (q:w'.heap[b]? = some (.cells ys g fz)):Cb ρ' w' f (.cells el sb 1 [⟨0,0,cs⟩]):=by
 refine⟨p,fun u j=>?_⟩;simp at j;subst j;refine⟨akV,_,ys,g,fz,h0,q,abD _,by simp[a],e,fun i x m=>?_⟩;obtain⟨y,hy,d⟩:=eM i o m;refine⟨y,bN hl _ _ hy,?_⟩;have hi:i<cs.length:=(aez.1 m).1;rw[aiV hi,aiB]at d;simpa using d
def HN{elem:TypeId}{v:V}{y:Value}(a:den ρ v=some y):PJ P ρ w (fun f=>.ptr ⟨f,0,0⟩) (.cells elem false 1 [⟨0,0,v.cells⟩]) (do pure (Next.value (.pointer (some (<- newVar elem y))))):=by refine⟨_,_,y.cells.size,w.drawn,by simp[newVar,newRow];exact⟨rfl,rfl⟩,fun ρ' f hl h0 b=>⟨by simp[den,iv,h0],fun w' d=>?_⟩⟩;exact uP (by rw[eL a,<- nj a,ajn (by simp)]) ⟨fun _=>rfl,by simp⟩ hl h0 b rfl d
def RM{elem:TypeId}{cs:List V}{ys:Array Value}(g:bd ρ cs=some ys.toList){len sz cap:Nat}(hl:len<=cap)(d:0<sz) :
 PJ P ρ w (fun f=>.slice ⟨f,0,0⟩ 0 len (some cap) sz) (.cells elem false 1 [⟨0,0,cs⟩]) (do pure (Next.value (.slice (some (<- newRow elem ys)) len cap))):=by
 have b:cs.length=ys.size:=by have:=bS g;simpa using this.symm
 refine⟨_,_,ys.size,w.drawn,by simp[newRow];exact⟨rfl,rfl⟩,fun ρ' f e h0 i=>⟨?_,fun w' j=>?_⟩⟩
 ·exact dO (a:=⟨f,0,0⟩) (cap:=some cap) h0 (aje _) (aje _) hl d
 ·exact uP (by rw[g,b,ajn (by simp)]) ⟨fun _=>rfl,by simp⟩ e h0 i rfl j
def uV(P:Program)(ρ:aN)(w:World)(d:S->Option Nx)(m:Sem Next):Prop :=
 ∃ mk B,(∀ s',d s'=some (.val (mk s'.next) (s'.alloc B)))/\PJ P ρ w mk B m
def PJ.congr{mk:Nat->V}{B:eh}{m a:Sem Next}(h:PJ P ρ w mk B m)(e:a.run P w=m.run P w):PJ P ρ w mk B a:=by obtain⟨y,obj,lim,n,b,d⟩:=h;exact⟨y,obj,lim,n,e.trans b,d⟩
def Gd{elem:TypeId}{nx:Nx}(e:jK P s elem=some nx):uV P ρ w (fun s=>jK P s elem) (do pure (Next.value (<- Instr.alloc elem true (.tuple #[])))):=by
 unfold jK at e;split at e
 ·rename_i z b;obtain⟨y,i,hi,a,d⟩:=ff b;refine⟨_,_,fun s'=>by simp only[jK,b,qt,bz,bw],(HN (P:=P) (w:=w) (elem:=elem) (d ρ)).congr ?_⟩;simp only[Instr.alloc,afx,gi hi a,aeq,aiy];simp[newVar,newRow]
 ·cases e
def KZ(b:TR ρ t tm){elem:TypeId}{x:Operand}{nx:Nx}(e:tj s elem (eval t x)=some nx):uV P ρ w (fun s=>tj s elem (eval t x)) (do pure (Next.value (<- Instr.box elem (rv tm x)))):=by
 unfold tj at e;split at e
 ·rename_i z a;refine⟨_,_,fun s'=>by simp only[tj,a,qt,bz,bw],(HN (P:=P) (w:=w) (elem:=elem) (aL b a)).congr ?_⟩;simp only[Instr.box,afx,aiy];simp[newVar,newRow]
 ·cases e
def Bt{ty:TypeId}:uV P ρ w (fun s=>some (.val (.map s.next) (s.alloc (.map [] 0)))) (do pure (Next.value (<- Instr.makeMap ty none))):=by refine⟨fun f=>.map f,.map [] 0,fun s'=>rfl,.map (some w.heap.size),.map #[] 0,0,w.drawn,by simp[Instr.makeMap],fun ρ' f hl h0 h1=>⟨by simp[den,h0],fun w' a=>⟨_,#[],h0,a,trivial⟩⟩⟩
def Oa(P:Program)(ρ:aN)(w:World)(d:S->Option Nx)(m:Sem Value):Prop :=
 ∃(el:TypeId) (cs:List V) (ys:Array Value) (len cap sz:Nat),(∀ s',d s'=some (.val (.slice (bz s' el cs).1 0 len (some cap) sz) (bz s' el cs).2))/\bd ρ cs=some ys.toList/\len<=cap/\0<sz /\
  m.run P w=(do pure (.slice (some (<- newRow el ys)) len cap):Sem Value).run P w
def Oa.made{d:S->Option Nx}{m:Sem Value}(h:Oa P ρ w d m):uV P ρ w d (do pure (Next.value (<- m))):=by obtain⟨el,cs,ys,len,cap,sz,b,e,g,i,a⟩:=h;refine⟨_,_,fun s'=>by rw[b];simp only[bz,bw],(RM (P:=P) (w:=w) (elem:=el) e g i).congr ?_⟩;simp only[afx]at a ⊢;rw[a];simp[newRow]
def CE(N:TR ρ t tm){ty:TypeId}{l c:Operand}{nx:Nx}(e:eK P s ty (et (eval t l)) (et (eval t c))=some nx) :
 Oa P ρ w (fun s=>eK P s ty (et (eval t l)) (et (eval t c))) (Instr.makeSlice ty (rv tm l) (rv tm c)):=by
 unfold eK at e;split at e
 ·rename_i el O;split at e
  ·rename_i l' hl;split at e
   ·rename_i a hc;obtain⟨k1,Z⟩:=gx N hl;obtain⟨k2,e2⟩:=gx N hc;split at e
    ·rename_i z Q;obtain⟨zv,i,hi,A,d⟩:=ff Q;split at e
     ·rename_i n U;cases hb:(Nat.ble l' a&&Nat.ble a 2199023255552&&!(Nat.beq n 0)&&Nat.beq z.cells.length n&&mu P el a)with
      |false=>simp[hb]at e
      |true =>
       have B:=hb;simp only[hb,ge]at e;simp only[abA]at hb;obtain⟨⟨⟨⟨F,G⟩,y⟩,W⟩,j⟩:=hb;have F:=aeb F;have G:=aeb G;have W:=abr W;have y:0<n:=by
        rcases ajx n with h0|h0
        ·subst h0;simp at y
        ·exact h0
       have j:i.bytes*a<=100000000000000:=by unfold mu at j;simp only[hi]at j;exact aeb j
       have m:=eL (d ρ);have H:zv.cells.toList.length=n:=by have:=bS m;omega
       have o:=By zv.cells.toList n H y a;have hd:bd ρ (List.replicate a z.cells).flatten=some ((List.replicate a zv.cells.toList).flatten.toArray).toList:=by simpa using gZ m a
       have p:(Instr.makeSlice ty (rv tm l) (rv tm c)).run P w=(do pure (.slice (some (<- newRow el (List.replicate a zv.cells.toList).flatten.toArray)) l' a):Sem Value).run P w:=by
        have r:=cA U w;have X:=mi l' (by omega);have Y:=mi a G;simp only[akA]at X Y;have hA:∀ k n,(asInt (.int k n)).run P w=.ok n w:=fun k n=>by simp[asInt,asIntOf]
        have hrow2:Array.map (fun x=>zv.cells[x%zv.cells.size]!) (Array.range (a*n))=(List.replicate a zv.cells.toList).flatten.toArray:=by apply ajN.1;rw[<- o];simp[akJ]
        have u:(decide ((a:Int)<0)||decide ((i.bytes:Int)*(a:Int)>2 ^ 48))=false:=by
         have g1:¬((a:Int)<0):=by omega
         have g2:¬((i.bytes:Int)*(a:Int)>2 ^ 48):=by have e:(i.bytes:Int)*(a:Int)=((i.bytes*a:Nat):Int):=(Int.natCast_mul _ _).symm;rw[e];generalize i.bytes*a=q at j;have:(2:Int) ^ 48=281474976710656:=rfl;omega
         rw[abz g1,abz g2];rfl
        have I:decide ((l':Int)<0)=false:=by simp
        have J:decide ((l':Int)>(a:Int))=false:=by simp;omega
        have K:(typeInfo el).run P w=.ok i w:=by simp[typeInfo,hi]
        have L:=gi hi A w;simp only[Instr.makeSlice,afx,aG O,aeq,Z,e2,hA,aiy,K,akA,X,Y,run_askRoom,r,aiZ];rw[aeD (by rw[u,I,J];simp)];simp only[afx,run_askRoom,aeq,r];by_cases b:a*n=0
        ·rw[aeM b];have g:∀ f:Nat->Value,Array.map f (Array.range 0)=#[]:=fun f=>by simp
         simp only[afx,aiy,aeq,<- hrow2,b,g]
        ·rw[aeD b];simp only[afx,L,aeq,aiy,hrow2]
       have M:(Nat.ble l' a&&Nat.ble a 2199023255552&&!(Nat.beq n 0)&&Nat.beq z.cells.length n&&mu P el a)=true:=B;exact⟨el,_,_,l',a,n,fun s'=>by simp only[eK,O,hl,hc,Q,U,M,ge,bz,bw],hd,F,y,p⟩
     ·cases e
    ·cases e
   ·cases e
  ·cases e
 ·cases e
def uL(J:TR ρ t tm){ty:TypeId}{len:Nat}{parts:Array (Nat×Operand)}{nx:Nx}(e:cL P s ty len (eI t parts.toList)=some nx) :
 Oa P ρ w (fun s=>cL P s ty len (eI t parts.toList)) (Instr.buildSlice ty len (parts.map fun(i,x)=>(i,rv tm x))):=by
 unfold cL at e;split at e
 ·rename_i el F;split at e
  ·rename_i l hl;have q:=hl;have hp:=jH J hl;have r:(parts.toList.map fun(i,x)=>(i,rv tm x))=(parts.map fun(i,x)=>(i,rv tm x)).toList:=by simp
   rw[r]at hp;split at e
   ·rename_i z G;obtain⟨zv,it,hi,u,d⟩:=ff G;have j:=eL (d ρ);split at e
    ·rename_i n H;cases hb:(Nat.ble (len*n) 10000&&!(Nat.beq n 0)&&Nat.beq z.cells.length n)with
     |false=>rw[hb]at e;cases e
     |true =>
      have y:=hb;rw[hb]at e;simp only[ge]at e;simp only[abA]at hb;have b1:=aeb hb.1.1;have I:0<n:=by
       rcases ajx n with h0|h0
       ·subst h0;simp at hb
       ·exact h0
      have b3:=abr hb.2;unfold lH at e;split at e
      ·rename_i cs m;have A:zv.cells.toList.length=n:=by have:=bS j;omega
       have o:=By zv.cells.toList n A I len;have K:bd ρ (List.replicate len z.cells).flatten=some ((List.replicate len zv.cells.toList).flatten.toArray).toList:=by simpa using gZ j len
       obtain⟨zs,b,B⟩:=kf (place:=fun i=>some (i*n,n)) (fun i x L=>L) hp K m;have hrow2:Array.map (fun x=>zv.cells[x%zv.cells.size]!) (Array.range (len*n))=(List.replicate len zv.cells.toList).flatten.toArray:=by apply ajN.1;rw[<- o];simp[akJ]
       have p:(Instr.buildSlice ty len (parts.map fun(i,x)=>(i,rv tm x))).run P w=(do pure (.slice (some (<- newRow el zs)) len len):Sem Value).run P w:=by
        simp only[Instr.buildSlice,afx,aG F,aeq,cA H];rw[aeD (by omega)];by_cases a:len*n=0
        ·rw[aeM a];have g:∀ f:Nat->Value,Array.map f (Array.range 0)=#[]:=fun f=>by simp
         rw[<- hrow2,a,g]at b;simp only[afx,aiy,aeq,a,g,b]
        ·rw[aeD a];simp only[afx,gi hi u,aeq,aiy,hrow2,b]
       exact⟨el,_,_,len,len,n,fun s'=>by simp only[cL,F,q,G,H,y,ge,lH,m,bz,bw],B,abD _,I,p⟩
      ·cases e
    ·cases e
   ·cases e
  ·cases e
 ·cases e
def IF(r:TR ρ t tm){b dst el:TypeId}(d:P.underlying dst=some (.slice el)){x:Operand}{nx:Nx}(e:gY P s b dst (eval t x)=some nx) :
 uV P ρ w (fun s=>gY P s b dst (eval t x)) (do pure (Next.value (<- convert b dst (rv tm x)))):=by
 unfold gY at e;split at e
 ·rename_i v q;have dv:=aL r q;generalize rv tm x=X at *;unfold ji iU at e;cases m:P.underlying b with
  |none=>simp[m]at e
  |some ds =>
   simp only[m,d]at e;cases v<;>simp only[pD]at e<;>try(cases e;done)
   rename_i l;cases ds<;>simp only at e<;>try(cases e;done)
   cases hb:gR P el with
   |false=>rw[hb]at e;cases e
   |true =>
    cases dv;have g:=run_bytes_of_string w b dst el (aK l) m d (jF hb);rw[ee]at g;have o:=grownCap_ge w l.length 0 el;generalize hc:grownCap w l.length 0 el=cap at *;have j:(bytesRow (aK l) cap).size=cap:=by simp only[bytesRow,aky,Array.size_map,Array.size_replicate,ee];have:(aK l).data.size=l.length:=ee l;omega
    rw[j]at g;have p:bd ρ (l.map mf)=some ((bytesRow (aK l) cap).toList.take (l.map mf).length):=by
     rw[pU];have:(aK l).data.toList.length=l.length:=by simp[aK]
     simp[bytesRow,this]
    refine⟨fun f=>.slice ⟨f,0,0⟩ 0 l.length none 1,.cells el true 1 [⟨0,0,l.map mf⟩],fun s'=>?_,_,_,cap,w.drawn+1,by simp only[afx,g,aeq,aiy];rfl,fun ρ' f hl h0 u=>⟨?_,fun w' y=>?_⟩⟩
    ·simp only[gY,q,ji,iU,m,d,pD,hb,ge,bw]
    ·have:=dO (a:=⟨f,0,0⟩) (z:=0) (len:=l.length) (cap:=none) (sz:=1) h0 (by simp) (aje _) (by simpa[cE]using o) Nat.one_pos;rw[this];simp[cE,bC]
    ·exact uP p ⟨(fun h=>by cases h),fun i hi=>by rw[j]at hi;simp;omega⟩ hl h0 u j.symm y
 ·cases e
def Ot{E:dL}(a:TR ρ t tm)(o:Oper)(hk:aP E.P o.op=2){nx:Nx}(e:dI E t s o=some nx):uV E.P ρ w (fun s=>dI E t s o) (execOp (rv tm) o):=by
 obtain⟨dst,op,type,pos,after,guard⟩:=o;unfold dI at e ⊢;simp only at e hk ⊢;cases op<;>simp only[dH]at e ⊢<;>try(cases e;done)
 case alloc elem=>exact Gd e
 case box elem x=>exact KZ a e
 case buildSlice ty len parts=>exact(uL a e).made
 case makeMap ty r =>
  cases r with
  |none=>exact Bt
  |some _=>cases e
 case makeSlice ty l c=>exact(CE a e).made
 case convert src dst x =>
  cases b:E.P.underlying dst with
  |none=>simp[aP,b]at hk
  |some d=>cases d<;>simp[aP,b]at hk;exact IF a b e
 case binOp op ty x y z=>simp only[aP]at hk;cases hb:oP op<;>simp[hb]at hk
 case call c=>simp only[aP]at hk;split at hk<;>simp at hk
 all_goals simp[aP]at hk
end ops
section ops
variable{s:S}{t t':T V}
def iS:∀ {l:List Operand},(∀ x∈l,eval t x=eval t' x)->ij t l=ij t' l
 |[],_=>rfl
 |x::r,h=>by have ih:=iS (l:=r) fun y hy=>h y (abE _ hy);simp only[ij,h x (by simp),ih]
def mZ:∀ {l:List (Nat×Operand)},(∀ x∈l,eval t x.2=eval t' x.2)->eI t l=eI t' l
 |[],_=>rfl
 |(i,x)::r,h=>by have ih:=mZ (l:=r) fun y hy=>h y (abE _ hy);simp only[eI,h (i,x) (by simp),ih]
def pg{x:Option Operand}(h:∀ y,x=some y->eval t y=eval t' y):lV t x=lV t' x:=by
 cases x with
 |none=>rfl
 |some y=>simp only[lV,h y rfl]
def KX{E:dL}(o:Oper)(h:∀ x∈o.op.operands,eval t x=eval t' x):dI E t s o=dI E t' s o:=by
 obtain⟨dst,op,type,pos,after,guard⟩:=o;unfold dI;simp only at h ⊢;cases op<;>simp only[Op.operands]at h<;>simp only[dH]<;>try rfl
 case move x=>rw[h x (by simp)]
 case assign x=>rw[h x (by simp)]
 case pick c a b =>
  have e:∀ q:Bool,eval t (bif q then a else b)=eval t' (bif q then a else b):=fun q=>by cases q<;>exact h _ (by simp)
  simp only[nc,h c (by simp),e]
 case box elem x=>rw[h x (by simp)]
 case build ty parts=>rw[mZ fun x d=>h x.2 (by simp;exact⟨x.1,by simpa using d⟩)]
 case buildSlice ty len parts=>rw[mZ fun x d=>h x.2 (by simp;exact⟨x.1,by simpa using d⟩)]
 case load ty x=>rw[h x (by simp)]
 case store ty x y=>rw[h x (by simp),h y (by simp)]
 case nilCheck x=>rw[h x (by simp)]
 case binOp op ty x y z=>rw[h x (by simp),h y (by simp)]
 case unOp op ty x=>rw[h x (by simp)]
 case convert src dst x=>rw[h x (by simp)]
 case makeInterface ty x=>rw[h x (by simp)]
 case makeFunc fn first cap=>rw[iS fun x d=>h x (by simp;left;simpa using d),iS (l:=cap.toList) fun x d=>h x (by simp;right;simpa using d)]
 case makeMap ty r=>cases r<;>rfl
 case makeSlice ty l c=>rw[h l (by simp),h c (by simp)]
 case slice ty x lo hi mx =>rw[h x (by simp),pg (x:=lo) fun y hy=>h y (by subst hy;simp),pg (x:=hi) fun y hy=>h y (by subst hy;simp),pg (x:=mx) fun y hy=>h y (by subst hy;simp)]
 case fieldAddr ty x f=>rw[h x (by simp)]
 case field ty x f=>rw[h x (by simp)]
 case indexAddr ty x i=>rw[h x (by simp),h i (by simp)]
 case index ty x i=>rw[h x (by simp),h i (by simp)]
 case lookup ty x k ok=>rw[h x (by simp),h k (by simp)]
 case mapUpdate ty m k x=>rw[h m (by simp),h k (by simp),h x (by simp)]
 case insert ty m k x=>rw[h m (by simp),h k (by simp),h x (by simp)]
 case typeAssert x xt ty ok=>rw[h x (by simp)]
 case extract x i=>rw[h x (by simp)]
 case call c =>
  rw[iS fun x d=>h x (by simp only[Call.operands];exact Array.mem_append.2 (.inr (by simpa using d)))];unfold iA;split
  ·split
   ·rfl
   ·rename_i f hc;rw[h f (by simp[Call.operands,hc])]
   ·rfl
  ·rfl
 case defer c =>
  rw[iS fun x d=>h x (by simp only[Call.operands];exact Array.mem_append.2 (.inr (by simpa using d)))];unfold pS;split
  ·split
   ·rename_i f hc;rw[h f (by simp[Call.operands,hc])]
   ·rfl
  ·rfl
 case panic x=>rw[h x (by simp)]
end ops
variable{t:T V}{h:T eh}{n n':Nat}
def bA{x y:Option V}(a:x=y){v:V}{s1:S}(e:bM ⟨h,n⟩ x=some (.val v s1)):bM ⟨h,n'⟩ y=some (.val v ⟨h,n'⟩):=by
 subst a;cases x with
 |none=>cases e
 |some u=>cases e;rfl
def Fx{P:Program}{ty:TypeId}{a:Ad}:loadVar P ⟨h,n⟩ ty a=loadVar P ⟨h,n'⟩ ty a:=rfl
def zV{a:Ad}{k:Nat}:loadCells ⟨h,n⟩ a k=loadCells ⟨h,n'⟩ a k:=rfl
def OE{P:Program}{ty:TypeId}{x:V}:lQ P ty ⟨h,n⟩ x=lQ P ty ⟨h,n'⟩ x:=rfl
def Pc{E:dL}(o:Oper)(hk:aP E.P o.op<=1){v:V}{s1:S}(e:dI E t ⟨h,n⟩ o=some (.val v s1)):dI E t ⟨h,n'⟩ o=some (.val v ⟨h,n'⟩):=by
 obtain⟨dst,op,type,pos,after,guard⟩:=o;unfold dI at e ⊢;simp only at e hk ⊢;cases op<;>simp only[dH]at e ⊢<;>try(cases e;done)
 case move x=>exact bA rfl e
 case assign x=>exact bA rfl e
 case pick c a b =>
  unfold nc at e ⊢;split at e
  ·exact bA rfl e
  ·cases e
 case build ty parts=>exact bA rfl e
 case load ty x =>
  unfold jn at e ⊢;split at e
  ·exact bA Fx e
  ·cases e
 case nilCheck x=>exact bA rfl e
 case binOp op ty x y z=>exact bA rfl e
 case unOp op ty x=>exact bA rfl e
 case convert g dst x =>
  unfold gY at e ⊢;split at e
  ·rename_i p hx';unfold ji at e ⊢;unfold iU at e ⊢;cases j:E.P.underlying g with
   |none=>simp[j]at e
   |some ds =>
    cases m:E.P.underlying dst with
    |none=>simp[j,m]at e
    |some dd =>
     simp only[j,m]at e ⊢;cases dd<;>simp only at e ⊢<;>try(cases e;done)
     case int k=>cases p<;>simp only at e ⊢<;>first|(cases e;done)|(cases e;rfl)
     case string =>
      unfold CV at e ⊢;cases p<;>simp only at e ⊢<;>try(first|(cases e;done)|(cases e;rfl))
      case slice a z len cap sz =>
       rw[zV (n':=n')]at e;cases ds<;>simp only at e ⊢<;>try(cases e;done)
       rename_i el;split at e
       ·rename_i y s2 hy;cases hb:gR E.P el with
        |false=>rw[hb]at hy;cases hy
        |true =>
         rw[hb]at hy;simp only[ge]at hy ⊢;cases d:Nat.beq sz 0 with
         |true=>rw[d]at hy;cases hy
         |false =>
         rw[d]at hy;simp only[TD]at hy ⊢;split at hy
         ·rename_i l hl;cases hy;cases e;rfl
         ·cases hy
       ·cases e
      case nilslice =>
       cases ds<;>simp only at e ⊢<;>try(cases e;done)
       rename_i el;cases hb:gR E.P el with
       |false=>rw[hb]at e;cases e
       |true=>rw[hb]at e;cases e;rfl
     case slice el=>simp[aP,m]at hk
  ·cases e
 case makeInterface ty x=>exact bA rfl e
 case makeFunc fn first cap=>exact bA rfl e
 case slice ty x lo hi mx=>exact bA rfl e
 case fieldAddr ty x f=>exact bA rfl e
 case field ty x f=>exact bA rfl e
 case indexAddr ty x i=>exact bA rfl e
 case index ty x i=>exact bA rfl e
 case lookup ty x k ok=>exact bA rfl e
 case typeAssert x xt ty ok=>exact bA rfl e
 case extract x i=>exact bA rfl e
 case call c =>
  unfold iA at e ⊢;split at e
  ·rename_i args ha;split at e
   ·rename_i b hc;have hb:b=.len\/b=.cap\/b=.max\/b=.min:=by simp only[aP,hc]at hk;cases b<;>simp at hk ⊢
    rcases hb with rfl|rfl|rfl|rfl<;>simp only[jy]at e ⊢
    ·split at e
     ·split at e
      ·exact bA OE e
      ·cases e
     ·cases e
    ·split at e
     ·split at e
      ·exact bA rfl e
      ·cases e
     ·cases e
    ·exact bA rfl e
    ·exact bA rfl e
   ·rename_i f hc;simp[aP,hc]at hk
   ·cases e
  ·cases e
 all_goals (first|(simp[aP]at hk;done)|(exfalso;revert hk;simp[aP]))
def DT(acc:List Nat)(k:Nat):∀(l:List Edge) (s:Nat),(l.foldl (fun s e=>bif Region.binds .any e then Nat.lor s (Nat.lor (Nat.pow 2 e.on) (acc.getD e.on 0))else s) s).testBit k=true ↔
 s.testBit k=true\/∃ e∈l,Region.binds .any e=true/\(k=e.on\/(acc.getD e.on 0).testBit k=true)
 |[],s=>by simp
 |e::l,s=>by
  rw[akI,DT acc k l];cases hb:Region.binds .any e with
  |false =>simp only[TD,aff,exists_eq_or_imp,hb,ajo,false_and,false_or]
  |true =>
   simp only[ge,aff,exists_eq_or_imp,hb,akh];have:(Nat.lor s (Nat.lor (Nat.pow 2 e.on) (acc.getD e.on 0))).testBit k=(s.testBit k||(decide (e.on=k)||(acc.getD e.on 0).testBit k)):=by show(s |||(2 ^ e.on ||| acc.getD e.on 0)).testBit k=_;rw[akZ,akZ,Nat.testBit_two_pow]
   rw[this];simp only[ajD,ajJ];constructor
   ·rintro((h|h|h)|h)
    ·exact .inl h
    ·exact .inr (.inl (.inl h.symm))
    ·exact .inr (.inl (.inr h))
    ·exact .inr (.inr h)
   ·rintro(h|(h|h)|h)
    ·exact .inl (.inl h)
    ·exact .inl (.inr (.inl h.symm))
    ·exact .inl (.inr (.inr h))
    ·exact .inr h
def Kx(o:Oper)(acc:List Nat)(k:Nat):(qW o acc).testBit k=true↔∃ e∈o.after,Region.binds .any e=true/\(k=e.on\/(acc.getD e.on 0).testBit k=true):=by unfold qW;rw[DT];simp
def uk:∀(l:List Oper) (acc:List Nat),∃ r,kR l acc=acc++r/\r.length=l.length/\∀ j o,l[j]? = some o->r[j]? = some (qW o (acc++r.take j))
 |[],acc=>⟨[],by simp[kR],rfl,fun j o h=>by simp at h⟩
 |o::l,acc=>by
  obtain⟨r,b,d,e⟩:=uk l (acc++[qW o acc]);refine⟨qW o acc::r,by simp[kR,b],by simp[d],fun j o' a=>?_⟩;cases j with
  |zero=>simp at a;subst a;simp
  |succ j =>simp at a;have:=e j o' a;simpa using this
def mh(ops:Array Oper)(i k:Nat):Prop:=((kR ops.toList []).getD i 0).testBit k=true
def RJ{ops:Array Oper}{i:Nat}{o:Oper}(ho:ops[i]? = some o):(kR ops.toList []).getD i 0=qW o ((kR ops.toList []).take i):=by obtain⟨r,a,h2,b⟩:=uk ops.toList [];rw[air]at a;rw[a];have:=b i o (by simpa using ho);rw[air]at this;rw[aja,this];rfl
def gC(ops:Array Oper):Prop:=∀ i o,ops[i]? = some o->∀ e∈o.after,Region.binds .any e=true->e.on<i
def CW{l:List Nat}{i j:Nat}(h:j<i):(l.take i).getD j 0=l.getD j 0:=by rw[aja,aja,aiV h]
def yl{ops:Array Oper}(g:gC ops){i k:Nat}{o:Oper}(ho:ops[i]? = some o):mh ops i k↔∃ e∈o.after,Region.binds .any e=true/\(k=e.on\/mh ops e.on k):=by
 unfold mh;rw[RJ ho,Kx];constructor
 ·rintro⟨e,a,b,d⟩;rw[CW (g i o ho e a b)]at d;exact⟨e,a,b,d⟩
 ·rintro⟨e,a,b,d⟩;refine⟨e,a,b,?_⟩;rw[CW (g i o ho e a b)];exact d
def Mu{ops:Array Oper}{i k:Nat}(h:mh ops i k):∃ o,ops[i]? = some o:=by
 cases ho:ops[i]? with
 |some o=>exact⟨o,rfl⟩
 |none =>
  exfalso;unfold mh at h;obtain⟨r,b,d,h3⟩:=uk ops.toList [];rw[air]at b;have hi:ops.size<=i:=by
   rcases aiA i ops.size with a|a
   ·rw[aiP a]at ho;cases ho
   ·exact a
  rw[b,aja,aeF (by rw[d];simpa using hi)]at h;simp at h
def ue{ops:Array Oper}(b:gC ops):∀(i k:Nat),mh ops i k->k<i:=by
 intro i;induction i using Nat.strongRecOn with
 |ind i ih =>
  intro k h;obtain⟨o,ho⟩:=Mu h;obtain⟨e,d,g,a⟩:=(yl b ho).1 h;have hb:=b i o ho e d g;rcases a with rfl|a
  ·exact hb
  ·exact Nat.lt_trans (ih e.on hb k a) hb
def ud{ops:Array Oper}(a:gC ops):∀(i k m:Nat),mh ops i k->mh ops k m->mh ops i m:=by
 intro i;induction i using Nat.strongRecOn with
 |ind i ih =>
  intro k m h hm;obtain⟨o,ho⟩:=Mu h;obtain⟨e,d,g,b⟩:=(yl a ho).1 h;refine(yl a ho).2 ⟨e,d,g,.inr ?_⟩;rcases b with rfl|b
  ·exact hm
  ·exact ih e.on (a i o ho e d g) k m b hm
def zM:∀ {l:List Oper} {i k:Nat} {o:Oper},(k,o)∈dy l i↔i<=k/\l[k - i]? = some o
 |[],i,k,o=>by simp[dy]
 |x::l,i,k,o=>by
  simp only[dy,aff,ajr];rw[zM (l:=l) (i:=i+1)];constructor
  ·rintro(⟨rfl,rfl⟩|⟨b,a⟩)
   ·simp
   ·exact⟨by omega,by rw[show k - i=(k - (i+1))+1 by omega];simpa using a⟩
  ·rintro⟨b,a⟩;by_cases hk:k=i
   ·left;subst hk;simp at a;exact⟨rfl,a.symm⟩
   ·right;refine⟨by omega,?_⟩;rw[show k - i=(k - (i+1))+1 by omega]at a;simpa using a
def ep{ops:Array Oper}{k:Nat}{o:Oper}:(k,o)∈dy ops.toList 0↔ops[k]? = some o:=by rw[zM];simp
structure lC(ops:Array Oper):Prop where
 back:gC ops
 guard:∀(i:Nat) (o:Oper) (g:Nat) (b:Bool),ops[i]? = some o->o.guard=some (g,b)->mh ops i g
 dst:∀(i j:Nat) (o q:Oper) (d:Tmp),ops[i]? = some o->ops[j]? = some q->i≠j->q.dst=some d->o.dst≠some d
 sees:∀(i j:Nat) (o q:Oper) (d:Tmp),ops[i]? = some o->ops[j]? = some q->i≠j->q.dst=some d->d∈sees o->mh ops i j\/mh ops j i
def IQ{ops:Array Oper}(h:Le (kR ops.toList []) (dy ops.toList 0)=true):lC ops:=by
 have key:∀ i o,ops[i]? = some o->_:=fun i o ho=>aiX.1 h (i,o) (ep.2 ho);refine⟨fun i o ho e x hb=>?_,fun i o g b ho y=>?_,fun i j o q d ho p m r=>?_,fun i j o q d ho p m r z=>?_⟩
 ·have:=key i o ho;simp only[abA]at this;have a:=aiX.1 this.1.1 e (by simpa using x);rw[hb]at a;exact kw (by simpa using a)
 ·have:=key i o ho;simp only[abA]at this;have a:=this.1.2;rw[y]at a;exact a
 ·have:=key i o ho;simp only[abA]at this;have a:=aiX.1 this.2 (j,q) (ep.2 p);have hb:Nat.beq i j=false:=by
   cases hb:Nat.beq i j with
   |false=>rfl
   |true=>exact absurd (abr hb) m
  simp only[hb,r,ajf,abA]at a;intro hc;rw[hc]at a;simp at a
 ·have:=key i o ho;simp only[abA]at this;have a:=aiX.1 this.2 (j,q) (ep.2 p);have hb:Nat.beq i j=false:=by
   cases hb:Nat.beq i j with
   |false=>rfl
   |true=>exact absurd (abr hb) m
  simp only[hb,r,ajf,abA]at a;have u:=a.2;have hc:(sees o).contains d=true:=by simpa using z
  rw[hc]at u;simp only[aid,ajf,ajD]at u;exact u
def jt(ops:Array Oper)(R:Nat->Prop):Prop:=∀ i k,R i->mh ops i k->R k
def with1(R:Nat->Prop)(i:Nat):Nat->Prop:=fun k=>R k\/k=i
def jt.with1{ops:Array Oper}{R:Nat->Prop}(h:jt ops R){i:Nat}(hi:∀ k,mh ops i k->R k):jt ops (with1 R i):=by
 intro a k b hk;rcases b with b|rfl
 ·exact .inl (h a k b hk)
 ·exact .inl (hi k hk)
def Ig(t:T V)(d:Option Tmp)(v:V)(i:Nat):(putD t d v).get (fu i)=if d=some i then some v else t.get (fu i):=SH t d (some v) i
end Go.AI
