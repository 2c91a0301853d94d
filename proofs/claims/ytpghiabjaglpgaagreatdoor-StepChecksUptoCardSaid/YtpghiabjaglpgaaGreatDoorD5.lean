/- Lemmas. No conditions. -/
import Derived.Test.YtpghiabjaglpgaaGreatDoorD4
set_option linter.all false
noncomputable section
namespace Go.AI
variable[fY]
def BZ(c:Nat->aI)(R:aI):Prop:=∀ j H o,R j H=some o->∃ n,∀ m,n<=m->c m j H=some o
def bL(c:Nat->aI)(R:aI)(Φ:aI->au):Prop:=∀ x,Φ R=some x->∃ n,∀ m,n<=m->Φ (c m)=some x
section
variable{c:Nat->aI}{R:aI}{α β:Type}{E:dl}{an:jd}
theorem bL.const(x:au):bL c R (fun _=>x):=fun _ h=>⟨0,fun _ _=>h⟩
theorem bL.al{d:(α->au)->au}(h:Al d){κ:aI->α->au}(hk:∀ a,bL c R (fun ih=>κ ih a)):bL c R (fun ih=>d (κ ih)):=fun x e=>by obtain⟨a,b⟩:=h (κ R) x e;obtain⟨n,g⟩:=hk a x ((b (κ R)).symm.trans e);exact⟨n,fun m hm=>(b (κ (c m))).trans (g m hm)⟩
theorem bL.al2{d:(α->β->au)->au}(h:ia d){κ:aI->α->β->au}(hk:∀ a b,bL c R (fun ih=>κ ih a b)):bL c R (fun ih=>d (κ ih)):=fun x e=>by obtain⟨a,b,g⟩:=h (κ R) x e;obtain⟨n,i⟩:=hk a b x ((g (κ R)).symm.trans e);exact⟨n,fun m hm=>(g (κ (c m))).trans (i m hm)⟩
theorem bL.cond(b:Bool){p q:aI->au}(hp:bL c R p)(a:bL c R q):bL c R (fun ih=>cond b (p ih) (q ih)):=by
 cases b
 ·exact a
 ·exact hp
theorem bL.both{p q:aI->au}(hp:bL c R p)(a:bL c R q):bL c R (fun ih=>BJ (p ih) (q ih)):=fun x e=>by obtain⟨b,d⟩:=Eo e;obtain⟨n1,g⟩:=hp x b;obtain⟨n2,h⟩:=a x d;refine⟨max n1 n2,fun m hm=>?_⟩;show BJ _ _=_;rw[g m (by omega),h m (by omega),BJ,aeM rfl]
theorem bL.notRnd(up:Option fe){p:aI->au}(hp:bL c R p):bL c R (fun ih=>notRnd up (p ih)):=by
 unfold Go.AI.notRnd;split
 ·exact .const _
 ·exact hp
theorem bL.brD(d:D){p q:aI->au}(hp:bL c R p)(a:bL c R q):bL c R (fun ih=>brD d (p ih) (q ih)):=by cases d<;>first|exact .const _|exact bL.cond _ hp a|exact bL.both hp a
theorem bL.ih(h:BZ c R)(j:CO)(H:DH):bL c R (fun ih=>ih j H):=fun o ho=>h j H o ho
theorem bL.callK2{x:aI->au}(h:bL c R x){kr:aI->D->DH->au}{kp:aI->List iD->DH->au}(i:∀ d H,bL c R (fun ih=>kr ih d H))(j:∀ p H,bL c R (fun ih=>kp ih p H)):bL c R (fun ih=>bB (x ih) (kr ih) (kp ih)):=fun y e=>by
 obtain⟨o,ho,k⟩:=mc e;obtain⟨n1,b⟩:=h o ho;obtain⟨oe,ou,oH⟩:=o;rcases k with⟨d,g,e⟩|⟨p,g,e⟩
 ·simp only at g e;subst g;obtain⟨n2,a⟩:=i d oH y e;exact⟨max n1 n2,fun m hm=>by show bB (x (c m)) _ _=_;rw[b m (by omega)];exact a m (by omega)⟩
 ·simp only at g e;subst g;obtain⟨n2,a⟩:=j p oH y e;exact⟨max n1 n2,fun m hm=>by show bB (x (c m)) _ _=_;rw[b m (by omega)];exact a m (by omega)⟩
theorem bL.want{ops:Array Oper}{t:T LD}{o:Oper}{kT kF:aI->T LD->au}(a:∀ t,bL c R (fun ih=>kT ih t))(b:∀ t,bL c R (fun ih=>kF ih t)):bL c R (fun ih=>yL ops t o (kT ih) (kF ih)):=by
 unfold yL;split
 ·exact a t
 ·split
  ·split
   ·split
    ·simp only[T.setK_eq];exact .brD _ (a _) (b _)
    ·simp only[T.setK_eq];exact .brD _ (b _) (a _)
   ·exact b t
   ·exact .const _
  ·exact .const _
theorem bL.put{t:T LD}{d:Option Tmp}{x:LD}{κ:aI->T LD->au}(h:∀ t,bL c R (fun ih=>κ ih t)):bL c R (fun ih=>kM t d x (κ ih)):=by simp only[dc];exact h _
theorem Wc(h:BZ c R){d:Option Tmp}{t:T LD}{ds:List rD}{up:Option fe}{k:aI->Jx}{kp:aI->List iD->Jx}(hk:∀ t L ds up H,bL c R (fun ih=>k ih t L ds up H))(hp:∀ p t L ds up H,bL c R (fun ih=>kp ih p t L ds up H))(x:CN) :
 bL c R (fun ih=>Kg an (ub ih) d t ds up (k ih) (kp ih) x):=by
 cases x with
 |val x L H=>simp only[Kg];exact bL.al2 (pz _ _ _ _) fun x H=>.put fun t=>hk _ _ _ _ _
 |skip L H=>simp only[Kg];exact .put fun t=>hk _ _ _ _ _
 |enter f args L H=>simp only[Kg];exact .callK2 (.ih h _ _) (fun x H=>bL.al2 (pz _ _ _ _) fun x H=>.put fun t=>hk _ _ _ _ _) fun p H=>hp _ _ _ _ _ _
 |defer df L H=>simp only[Kg];exact .notRnd _ (.put fun t=>hk _ _ _ _ _)
 |round o args L H=>simp only[Kg];exact .callK2 (.ih h _ _) (fun x H=>bL.al2 (pz _ _ _ _) fun x H=>.put fun t=>hk _ _ _ _ _) fun p H=>hp _ _ _ _ _ _
 |recover L H =>
  simp only[Kg];unfold mF;split
  ·exact .const _
  ·exact .put fun t=>hk _ _ _ _ _
  ·exact .put fun t=>hk _ _ _ _ _
  ·exact .const _
 |panic v L H=>exact hp _ _ _ _ _ _
theorem oV(h:BZ c R){ops:Array Oper}{k:aI->Jx}{kp:aI->List iD->Jx}(hk:∀ t L ds up H,bL c R (fun ih=>k ih t L ds up H))(hp:∀ p t L ds up H,bL c R (fun ih=>kp ih p t L ds up H)):∀(l:List Oper) t L ds up H,
 bL c R (fun ih=>pE E an ops (ub ih) l (k ih) (kp ih) t L ds up H)
 |[],t,L,ds,up,H=>hk _ _ _ _ _
 |o::l,t,L,ds,up,H=>.want (fun t=>bL.al2 (uR _ _ _ _ _ _) fun t x=>Wc h (fun t L ds up H=>oV h hk hp l t L ds up H) hp x) (fun t=>.put fun t=>oV h hk hp l t L ds up H)
theorem sV{κ:aI->T LD->LD->LS->DH->au}(h:∀ t x L H,bL c R (fun ih=>κ ih t x L H))(t:T LD)(x:CN):bL c R (fun ih=>Ci (κ ih) t x):=by
 unfold Ci;split
 ·exact h _ _ _ _
 ·exact .const _
theorem KU{o:Oper}{a:List (LS×DH)}{n w:Nat}{bs:T Nat}{t:T LD}{L:LS}{H:DH}{κ:aI->T LD->LD->LS->DH->Nat->au}(h:∀ t x L H b,bL c R (fun ih=>κ ih t x L H b))(kd:Nat):bL c R (fun ih=>ru E an o a n w bs t L H (κ ih) kd):=by
 unfold ru;split
 ·exact bL.al2 (uR _ _ _ _ _ _) fun t x=>sV (fun t x _ _=>h _ _ _ _ _) t x
 ·refine .cond _ ?_ (.const _);unfold Dg;split
  ·exact .const _
  ·split
   ·exact bL.al2 (uR _ _ _ _ _ _) fun t x=>sV (fun t x _ _=>h _ _ _ _ _) t x
   ·exact bL.al2 (uR _ _ _ _ _ _) fun t x=>sV (fun t x _ _=>h _ _ _ _ _) t x
 ·exact bL.al2 (uR _ _ _ _ _ _) fun t x=>sV (fun t x _ _=>h _ _ _ _ _) t x
 ·exact .const _
theorem SS(h:BZ c R){t:T LD}{κ:aI->T LD->LD->LS->DH->au}(hk:∀ t x L H,bL c R (fun ih=>κ ih t x L H))(x:CN):bL c R (fun ih=>Ga (ub ih) t (κ ih) x):=by
 cases x with
 |val x L H=>exact hk _ _ _ _
 |skip L H=>exact hk _ _ _ _
 |enter f args L H=>exact .callK2 (.ih h _ _) (fun x H=>hk _ _ _ _) fun p H=>.const _
 |_=>exact .const _
theorem iR(h:BZ c R){ops:Array Oper}{k:aI->T LD->LS->DH->au}(hk:∀ t L H,bL c R (fun ih=>k ih t L H)):∀(sc:List (Option Nat×Nat)) a n bs t L H,bL c R (fun ih=>gJ E an ops (ub ih) (k ih) sc a n bs t L H)
 |[],a,n,bs,t,L,H=>hk _ _ _
 |(w,i)::sc,a,n,bs,t,L,H=>by
  simp only[gJ];split
  ·exact .const _
  ·split
   ·refine .want (fun t=>KU (fun t x L H b=>?_) _) (fun t=>.put fun t=>?_)
    ·exact bL.al2 (pz _ _ _ _) fun x H=>.put fun t=>by simp only[gp];exact iR h hk sc _ _ _ _ _ _
    ·simp only[gp];exact iR h hk sc _ _ _ _ _ _
   ·refine .want (fun t=>bL.al2 (uR _ _ _ _ _ _) fun t x=>SS h (fun t x L H=>?_) x) (fun t=>.put fun t=>?_)
    ·exact bL.al2 (pz _ _ _ _) fun x H=>.put fun t=>by simp only[gp];exact iR h hk sc _ _ _ _ _ _
    ·simp only[gp];exact iR h hk sc _ _ _ _ _ _
variable{f:FuncId}{fn:Func}{go:aI->tS}
theorem OU(h:BZ c R)(e:∀ t L todo ds m up H,bL c R (fun ih=>go ih t L todo ds m up H))(cd:Code)(k:List Item)(t:T LD)(L:LS)(ds:List rD)(up:Option fe)(H:DH):bL c R (fun ih=>ma cd E an f fn (go ih) (ub ih) k t L ds up H):=by
 cases cd with
 |ret=>exact .notRnd _ (e _ _ _ _ _ _ _)
 |skip=>exact e _ _ _ _ _ _ _
 |label _=>exact e _ _ _ _ _ _ _
 |seq _ _=>exact e _ _ _ _ _ _ _
 |block _ _=>exact e _ _ _ _ _ _ _
 |loop _=>exact e _ _ _ _ _ _ _
 |scope _=>exact e _ _ _ _ _ _ _
 |exit id =>
  simp only[ma];unfold DE;split;· exact e _ _ _ _ _ _ _
  ·exact .const _
 |goto l =>
  simp only[ma];unfold DE;split;· exact e _ _ _ _ _ _ _
  ·exact .const _
 |cond cc a b =>simp only[ma,rV];exact bL.al (dw _) fun d=>.brD _ (e _ _ _ _ _ _ _) (e _ _ _ _ _ _ _)
 |region id ops draw =>
  cases draw with
  |true =>
   simp only[ma];refine .cond _ ?_ (.const _);split
   ·exact iR h (fun t L H=>e _ _ _ _ _ _ _) _ _ _ _ _ _ _
   ·exact .const _
  |false =>simp only[ma];exact .cond _ (oV h (fun t L ds up H=>e _ _ _ _ _ _ _) (fun p t L ds up H=>e _ _ _ _ _ _ _) _ _ _ _ _ _) (.const _)
 |rangeFunc g ps a b =>
  simp only[ma];refine bL.al (dw _) fun d=>?_;unfold Fb OP;split
  ·split
   ·refine .notRnd _ (.callK2 (.ih h _ _) (fun x H=>?_) fun p H=>e _ _ _ _ _ _ _);unfold Du;split
    ·exact e _ _ _ _ _ _ _
    ·exact .const _
   ·exact .const _
  ·exact .const _
 |refuse _=>exact .const _
theorem aaT{go1 go2:tS}{t:T LD}{L:LS}{ds:List rD}{up:Option fe}{d:D}{u:fe}{H:DH}{y z:js}(e:rB go1 t L ds up (some ⟨.ret d,some u,H⟩)=some z)(h:go2 t L [] ds (rU u) up H=some y):rB go2 t L ds up (some ⟨.ret d,some u,H⟩)=some y:=by
 cases u with
 |run=>cases e
 |round _=>cases e
 |returning=>exact h
 |panicking c =>
  cases c with
  |nil=>exact h
  |cons x r=>obtain⟨v,q⟩:=x;cases q<;>exact h
theorem WC{go1 go2:tS}{t:T LD}{L:LS}{ds:List rD}{up:Option fe}{c:List iD}{u:fe}{H:DH}{y z:js}(e:rB go1 t L ds up (some ⟨.pan c,some u,H⟩)=some z)(h:go2 t L [] ds (Fd u c) up H=some y):rB go2 t L ds up (some ⟨.pan c,some u,H⟩)=some y:=by
 cases u with
 |run=>cases e
 |round _=>cases e
 |returning=>exact h
 |panicking o=>exact h
theorem AL(t:T LD)(L:LS)(up:Option fe)(H:DH)(m:fe):bL c R (fun _=>jY E an fn t L up H m):=.const _
theorem KT(h:BZ c R)(a:∀ t L todo ds m up H,bL c R (fun ih=>go ih t L todo ds m up H))(t:T LD)(L:LS)(todo:List Item)(ds:List rD)(m:fe)(up:Option fe)(H:DH):bL c R (fun ih=>uF E an f fn (go ih) (ub ih) t L todo ds m up H):=by
 have unw:∀ m,bL c R (fun ih=>jA ds E an fn (go ih) (ub ih) t L m up H):=fun m=>by
  cases ds with
  |nil=>exact AL t L up H m
  |cons x ds =>
   cases x with
   |coll o =>
    simp only[jA];unfold tz;split
    ·exact a _ _ _ _ _ _ _
    ·exact .const _
   |call x =>
   obtain⟨f,cap,args⟩:=x;intro y e;simp only[jA]at e ⊢;obtain⟨u,H',⟨d,hr,hne,l⟩|⟨c',hr,l⟩⟩:=Bw e
   ·obtain⟨n1,b⟩:=bL.ih h (.call f (args++cap) (some m)) H _ hr;obtain⟨n2,g⟩:=a _ _ _ _ _ _ _ y l;refine⟨max n1 n2,fun q r=>?_⟩;have j:=b q (by omega);have n:=g q (by omega);simp only[ub]at hr ⊢;simp only[ub,hr]at e;have j:c q (.call f (args++cap) (some m)) H=_:=j;rw[j];exact aaT e n
   ·obtain⟨n1,b⟩:=bL.ih h (.call f (args++cap) (some m)) H _ hr;obtain⟨n2,g⟩:=a _ _ _ _ _ _ _ y l;refine⟨max n1 n2,fun q r=>?_⟩;have j:=b q (by omega);have n:=g q (by omega);simp only[ub]at hr ⊢;simp only[ub,hr]at e;have j:c q (.call f (args++cap) (some m)) H=_:=j;rw[j];exact WC e n
 cases m with
 |run =>
  cases todo with
  |nil =>
   simp only[uF,LK,Ae];split
   ·exact .const _
   ·exact a _ _ _ _ _ _ _
  |cons i k =>
   cases i with
   |code cd=>exact OU h a cd _ _ _ _ _ _
   |inBlock _=>exact a _ _ _ _ _ _ _
   |inScope _=>exact a _ _ _ _ _ _ _
   |inLoop _=>exact a _ _ _ _ _ _ _
   |beginRound =>
    simp only[uF,LK,Sn];unfold Ln;split
    ·unfold Pu;split
     ·exact a _ _ _ _ _ _ _
     ·exact .const _
    ·exact .const _
   |_=>exact .const _
 |returning=>exact unw _
 |panicking p=>exact unw _
 |round _=>exact .const _
theorem Dc(t:T LD):∀ l,Al (yX t l)
 |[]=>.ret []
 |i::r=>(tI _).bind fun x=>(Dc t r).map (x::·)
theorem Wd{ih' go':aI->tS}(b:∀ t L todo ds m up H,bL c R (fun ih=>ih' ih t L todo ds m up H))(a:∀ t L todo ds m up H,bL c R (fun ih=>go' ih t L todo ds m up H))(t:T LD)(L:LS)(todo:List Item)(ds:List rD)(m:fe)(up:Option fe)(H:DH) :
 bL c R (fun ih=>IT an (ih' ih) (go' ih) t L todo ds m up H):=by
 unfold IT;split
 ·split
  ·exact bL.al (Dc _ _) fun xs=>.cond _ (b _ _ _ _ _ _ _) (.const _)
  ·exact a _ _ _ _ _ _ _
 ·exact a _ _ _ _ _ _ _
theorem uG(h:BZ c R){go':aI->FuncId->Func->tS}(a:∀ f fn t L todo ds m up H,bL c R (fun ih=>go' ih f fn t L todo ds m up H))(j:CO)(H:DH):bL c R (fun ih=>rQ E ih (go' ih) j H):=by
 cases j with
 |frame f fn t L todo ds m up=>exact KT h (fun t L todo ds m up H=>Wd (fun t L todo ds m up H=>.ih h _ _) (a f fn) t L todo ds m up H) _ _ _ _ _ _ _
 |call f args up =>
  simp only[rQ];have ent:bL c R (fun ih=>Bn E (go' ih) f args up H):=by
   unfold Bn;split
   ·split
    ·refine .cond _ (.const _) (.cond _ ?_ ?_)
     ·simp only[pL args 0 .leaf (fun t=>go' _ _ _ t _ _ _ _ _ _)];intro y e;change aX H (go' R f _ (gS args 0 T.leaf id) [] _ [] fe.run up H)=some y at e;cases ho:go' R f ‹Func› (gS args 0 T.leaf id) [] [Item.code ‹Code›] [] fe.run up H with
      |none=>rw[ho]at e;cases e
      |some o =>obtain⟨n,b⟩:=a _ _ _ _ _ _ _ _ _ o ho;refine⟨n,fun m hm=>?_⟩;show aX H (go' (c m) f _ (gS args 0 T.leaf id) [] _ [] fe.run up H)=some y;rw[show go' (c m) f _ (gS args 0 T.leaf id) [] _ [] fe.run up H=some o from b m hm,<- ho];exact e
     ·simp only[pL args 0 .leaf (fun t=>go' _ _ _ t _ _ _ _ _ _)];exact a _ _ _ _ _ _ _ _ _
    ·exact .const _
   ·exact .const _
  unfold NM;split
  ·unfold tZ;split
   ·split
    ·refine .cond _ ?_ (.const _);simp only[uc _ _ _ (fun t=>go' _ _ _ t _ _ _ _ _ _)];exact a _ _ _ _ _ _ _ _ _
    ·exact .const _
   ·exact .const _
  ·unfold Rs;split
   ·exact .const _
   ·exact ent
end
def eP(E:dl):aI:=fun j H=>open Classical in if h:∃ o n,dK E n j H=some o then some h.choose else none
theorem IS(E:dl):∀ n j H o,dK E n j H=some o->dK E (n+1) j H=some o
 |0,_,_,_,h=>by cases h
 |n+1,j,H,o,h=>by have hl:BZ (fun _=>dK E (n+1)) (dK E n):=fun j H o h=>⟨0,fun _ _=>IS E n j H o h⟩;obtain⟨k,hk⟩:=uG (E:=E) hl (go':=fun ih=>PP ih) (fun f fn t L todo ds m up H=>.ih hl _ _) j H o h;exact hk k (abD _)
theorem Gp(E:dl){n m:Nat}(hm:n<=m){j:CO}{H:DH}{o:js}(h:dK E n j H=some o):dK E m j H=some o:=by
 induction hm with
 |refl=>exact h
 |step _ ih=>exact IS E _ j H o ih
theorem Tk{E:dl}{n:Nat}{j:CO}{H:DH}{o:js}(h:dK E n j H=some o):eP E j H=some o:=by have a:∃ o n,dK E n j H=some o:=⟨o,n,h⟩;unfold eP;rw[dif_pos a];obtain⟨m,hm⟩:=a.choose_spec;have d:=Gp E (Nat.le_max_left n m) h;have b:=Gp E (Nat.le_max_right n m) hm;rw[d]at b;rw[<- aiJ b]
theorem zZ{E:dl}{j:CO}{H:DH}{o:js}(h:eP E j H=some o):∃ n,dK E n j H=some o:=by
 unfold eP at h;split at h
 ·rename_i a;cases h;exact a.choose_spec
 ·cases h
theorem HQ(E:dl):BZ (dK E) (eP E):=fun j H o h=>by obtain⟨n,a⟩:=zZ h;exact⟨n,fun m hm=>Gp E hm a⟩
theorem Nu(E:dl)(j:CO)(H:DH):eP E j H=rQ E (eP E) (PP (eP E)) j H:=by
 cases h:rQ E (eP E) (PP (eP E)) j H with
 |some o =>obtain⟨n,a⟩:=uG (E:=E) (HQ E) (go':=fun ih=>PP ih) (fun f fn t L todo ds m up H=>.ih (HQ E) _ _) j H o h;exact Tk (n:=n+1) (a n (abD _))
 |none =>
  cases d:eP E j H with
  |none=>rfl
  |some o =>
   obtain⟨n,a⟩:=zZ d;cases n with
   |zero=>cases a
   |succ n =>have hl:BZ (fun _=>eP E) (dK E n):=fun j H o h=>⟨0,fun _ _=>Tk h⟩;obtain⟨k,hk⟩:=uG (E:=E) hl (go':=fun ih=>PP ih) (fun f fn t L todo ds m up H=>.ih hl _ _) j H o a;have b:rQ E (eP E) (PP (eP E)) j H=some o:=hk k (abD _);rw[h]at b;cases b
theorem IH(E:dl):∀ n,PY E (eP E) n=eP E
 |0=>rfl
 |n+1=>by funext j H;rw[PY,IH E n];exact(Nu E j H).symm
theorem La{E:dl}(i:Ue E):GI E (eP E):=by
 refine⟨⟨fun f args up H out e g d a vs upv hr j=>?_,fun o args H out e g d a vs l v hr ho=>?_⟩,fun f fn t L todo ds m up H out e b P0 g tv LO dsv mv upv rdv d k p hm j=>?_⟩
 ·obtain⟨n,h⟩:=zZ e;exact(pq i n).call.c f args up H out h g d a vs upv hr j
 ·obtain⟨n,h⟩:=zZ e;exact(pq i n).call.r o args H out h g d a vs l v hr ho
 ·obtain⟨n,h⟩:=zZ e;exact(pq i n).frame f fn t L todo ds m up H out h b P0 g tv LO dsv mv upv rdv d k p hm j
end Go.AI
