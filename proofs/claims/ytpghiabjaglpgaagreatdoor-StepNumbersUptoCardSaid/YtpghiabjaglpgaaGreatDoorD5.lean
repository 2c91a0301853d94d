/- Deep values: an evaluator over what rows hold, and that it is sound: part 5. No conditions beyond those of the row. -/
import Derived.Test.YtpghiabjaglpgaaGreatDoorD4
set_option linter.all false
noncomputable section
namespace Go.AI
variable[fc]
def yX(c:Nat->aE)(R:aE):Prop:=∀ j H o,R j H=some o->∃ n,∀ m,n<=m->c m j H=some o
def bh(c:Nat->aE)(R:aE)(Φ:aE->ai):Prop:=∀ x,Φ R=some x->∃ n,∀ m,n<=m->Φ (c m)=some x
section
variable{c:Nat->aE}{R:aE}{α β:Type}{E:cD}{an:hC}
theorem bh.const(x:ai):bh c R (fun _=>x):=fun _ h=>⟨0,fun _ _=>h⟩
theorem bh.al{d:(α->ai)->ai}(h:Al d){κ:aE->α->ai}(hk:∀ a,bh c R (fun ih=>κ ih a)):bh c R (fun ih=>d (κ ih)):=fun x e=>by
 obtain⟨a,ha⟩:=h (κ R) x e
 obtain⟨n,hn⟩:=hk a x ((ha (κ R)).symm.trans e)
 exact⟨n,fun m hm=>(ha (κ (c m))).trans (hn m hm)⟩
theorem bh.al2{d:(α->β->ai)->ai}(h:gh d){κ:aE->α->β->ai}(hk:∀ a b,bh c R (fun ih=>κ ih a b)):bh c R (fun ih=>d (κ ih)):=fun x e=>by
 obtain⟨a,b,ha⟩:=h (κ R) x e
 obtain⟨n,hn⟩:=hk a b x ((ha (κ R)).symm.trans e)
 exact⟨n,fun m hm=>(ha (κ (c m))).trans (hn m hm)⟩
theorem bh.cond(b:Bool){p q:aE->ai}(hp:bh c R p)(hq:bh c R q):bh c R (fun ih=>cond b (p ih) (q ih)):=by
 cases b
 ·exact hq
 ·exact hp
theorem bh.both{p q:aE->ai}(hp:bh c R p)(hq:bh c R q):bh c R (fun ih=>yH (p ih) (q ih)):=fun x e=>by
 obtain⟨h1,h2⟩:=Bp e
 obtain⟨n1,k1⟩:=hp x h1
 obtain⟨n2,k2⟩:=hq x h2
 refine⟨max n1 n2,fun m hm=>?_⟩
 show yH _ _=_
 rw[k1 m (by omega),k2 m (by omega),yH,if_pos rfl]
theorem bh.notRnd(up:Option eg){p:aE->ai}(hp:bh c R p):bh c R (fun ih=>notRnd up (p ih)):=by
 unfold Go.AI.notRnd
 split
 ·exact .const _
 ·exact hp
theorem bh.brD(d:D){p q:aE->ai}(hp:bh c R p)(hq:bh c R q):bh c R (fun ih=>brD d (p ih) (q ih)):=by
 cases d<;>first|exact .const _|exact bh.cond _ hp hq|exact bh.both hp hq
theorem bh.ih(h:yX c R)(j:zP)(H:DH):bh c R (fun ih=>ih j H):=fun o ho=>h j H o ho
theorem bh.callK2{x:aE->ai}(hx:bh c R x){kr:aE->D->DH->ai}{kp:aE->List gB->DH->ai}(h1:∀ d H,bh c R (fun ih=>kr ih d H))(h2:∀ p H,bh c R (fun ih=>kp ih p H)):bh c R (fun ih=>cH (x ih) (kr ih) (kp ih)):=fun y e=>by
 obtain⟨o,ho,hh⟩:=kB e
 obtain⟨n1,hn1⟩:=hx o ho
 obtain⟨oe,ou,oH⟩:=o
 rcases hh with⟨d,hd,e⟩|⟨p,hd,e⟩
 ·simp only at hd e;subst hd
  obtain⟨n2,hn2⟩:=h1 d oH y e
  exact⟨max n1 n2,fun m hm=>by show cH (x (c m)) _ _=_;rw[hn1 m (by omega)];exact hn2 m (by omega)⟩
 ·simp only at hd e;subst hd
  obtain⟨n2,hn2⟩:=h2 p oH y e
  exact⟨max n1 n2,fun m hm=>by show cH (x (c m)) _ _=_;rw[hn1 m (by omega)];exact hn2 m (by omega)⟩
theorem bh.want{ops:Array Oper}{t:T LD}{o:Oper}{kT kF:aE->T LD->ai}(h1:∀ t,bh c R (fun ih=>kT ih t))(h2:∀ t,bh c R (fun ih=>kF ih t)):bh c R (fun ih=>vK ops t o (kT ih) (kF ih)):=by
 unfold vK
 split
 ·exact h1 t
 ·split
  ·split
   ·split
    ·simp only[T.setK_eq];exact .brD _ (h1 _) (h2 _)
    ·simp only[T.setK_eq];exact .brD _ (h2 _) (h1 _)
   ·exact h2 t
   ·exact .const _
  ·exact .const _
theorem bh.put{t:T LD}{d:Option Tmp}{x:LD}{κ:aE->T LD->ai}(h:∀ t,bh c R (fun ih=>κ ih t)):bh c R (fun ih=>jq t d x (κ ih)):=by
 simp only[cy];exact h _
theorem Re(h:yX c R){d:Option Tmp}{t:T LD}{ds:List pJ}{up:Option eg}{k:aE->Ge}{kp:aE->List gB->Ge}(hk:∀ t L ds up H,bh c R (fun ih=>k ih t L ds up H))(hp:∀ p t L ds up H,bh c R (fun ih=>kp ih p t L ds up H))(x:zO) :
 bh c R (fun ih=>GM an (rQ ih) d t ds up (k ih) (kp ih) x):=by
 cases x with
 |val x L H=>simp only[GM];exact bh.al2 (nz _ _ _ _) fun x H=>.put fun t=>hk _ _ _ _ _
 |skip L H=>simp only[GM];exact .put fun t=>hk _ _ _ _ _
 |enter f args L H=>simp only[GM];exact .callK2 (.ih h _ _) (fun x H=>bh.al2 (nz _ _ _ _) fun x H=>.put fun t=>hk _ _ _ _ _) fun p H=>hp _ _ _ _ _ _
 |defer df L H=>simp only[GM];exact .notRnd _ (.put fun t=>hk _ _ _ _ _)
 |round o args L H=>simp only[GM];exact .callK2 (.ih h _ _) (fun x H=>bh.al2 (nz _ _ _ _) fun x H=>.put fun t=>hk _ _ _ _ _) fun p H=>hp _ _ _ _ _ _
 |recover L H =>
  simp only[GM]
  unfold kY
  split
  ·exact .const _
  ·exact .put fun t=>hk _ _ _ _ _
  ·exact .put fun t=>hk _ _ _ _ _
  ·exact .const _
 |panic v L H=>exact hp _ _ _ _ _ _
theorem mQ(h:yX c R){ops:Array Oper}{k:aE->Ge}{kp:aE->List gB->Ge}(hk:∀ t L ds up H,bh c R (fun ih=>k ih t L ds up H))(hp:∀ p t L ds up H,bh c R (fun ih=>kp ih p t L ds up H)):∀(l:List Oper) t L ds up H,
 bh c R (fun ih=>nG E an ops (rQ ih) l (k ih) (kp ih) t L ds up H)
 |[],t,L,ds,up,H=>hk _ _ _ _ _
 |o::l,t,L,ds,up,H=>.want (fun t=>bh.al2 (sQ _ _ _ _ _ _) fun t x=>Re h (fun t L ds up H=>mQ h hk hp l t L ds up H) hp x) (fun t=>.put fun t=>mQ h hk hp l t L ds up H)
theorem qP{κ:aE->T LD->LD->LS->DH->ai}(h:∀ t x L H,bh c R (fun ih=>κ ih t x L H))(t:T LD)(x:zO):bh c R (fun ih=>zf (κ ih) t x):=by
 unfold zf
 split
 ·exact h _ _ _ _
 ·exact .const _
theorem Hs{o:Oper}{hist:List (LS×DH)}{n w:Nat}{bs:T Nat}{t:T LD}{L:LS}{H:DH}{κ:aE->T LD->LD->LS->DH->Nat->ai}(h:∀ t x L H b,bh c R (fun ih=>κ ih t x L H b))(kd:Nat):bh c R (fun ih=>pB E an o hist n w bs t L H (κ ih) kd):=by
 unfold pB
 split
 ·exact bh.al2 (sQ _ _ _ _ _ _) fun t x=>qP (fun t x _ _=>h _ _ _ _ _) t x
 ·refine .cond _ ?_ (.const _)
  unfold Ag
  split
  ·exact .const _
  ·split
   ·exact bh.al2 (sQ _ _ _ _ _ _) fun t x=>qP (fun t x _ _=>h _ _ _ _ _) t x
   ·exact bh.al2 (sQ _ _ _ _ _ _) fun t x=>qP (fun t x _ _=>h _ _ _ _ _) t x
 ·exact bh.al2 (sQ _ _ _ _ _ _) fun t x=>qP (fun t x _ _=>h _ _ _ _ _) t x
 ·exact .const _
theorem Om(h:yX c R){t:T LD}{κ:aE->T LD->LD->LS->DH->ai}(hk:∀ t x L H,bh c R (fun ih=>κ ih t x L H))(x:zO):bh c R (fun ih=>CL (rQ ih) t (κ ih) x):=by
 cases x with
 |val x L H=>exact hk _ _ _ _
 |skip L H=>exact hk _ _ _ _
 |enter f args L H=>exact .callK2 (.ih h _ _) (fun x H=>hk _ _ _ _) fun p H=>.const _
 |_=>exact .const _
theorem gR(h:yX c R){ops:Array Oper}{k:aE->T LD->LS->DH->ai}(hk:∀ t L H,bh c R (fun ih=>k ih t L H)):∀(sc:List (Option Nat×Nat)) hist n bs t L H,bh c R (fun ih=>fM E an ops (rQ ih) (k ih) sc hist n bs t L H)
 |[],hist,n,bs,t,L,H=>hk _ _ _
 |(w,i)::sc,hist,n,bs,t,L,H=>by
  simp only[fM]
  split
  ·exact .const _
  ·split
   ·refine .want (fun t=>Hs (fun t x L H b=>?_) _) (fun t=>.put fun t=>?_)
    ·exact bh.al2 (nz _ _ _ _) fun x H=>.put fun t=>by simp only[fu];exact gR h hk sc _ _ _ _ _ _
    ·simp only[fu];exact gR h hk sc _ _ _ _ _ _
   ·refine .want (fun t=>bh.al2 (sQ _ _ _ _ _ _) fun t x=>Om h (fun t x L H=>?_) x) (fun t=>.put fun t=>?_)
    ·exact bh.al2 (nz _ _ _ _) fun x H=>.put fun t=>by simp only[fu];exact gR h hk sc _ _ _ _ _ _
    ·simp only[fu];exact gR h hk sc _ _ _ _ _ _
variable{f:FuncId}{fn:Func}{go:aE->rH}
theorem KQ(h:yX c R)(hg:∀ t L todo ds m up H,bh c R (fun ih=>go ih t L todo ds m up H))(cd:Code)(k:List Item)(t:T LD)(L:LS)(ds:List pJ)(up:Option eg)(H:DH):bh c R (fun ih=>kx cd E an f fn (go ih) (rQ ih) k t L ds up H):=by
 cases cd with
 |ret=>exact .notRnd _ (hg _ _ _ _ _ _ _)
 |skip=>exact hg _ _ _ _ _ _ _
 |label _=>exact hg _ _ _ _ _ _ _
 |seq _ _=>exact hg _ _ _ _ _ _ _
 |block _ _=>exact hg _ _ _ _ _ _ _
 |loop _=>exact hg _ _ _ _ _ _ _
 |scope _=>exact hg _ _ _ _ _ _ _
 |exit id =>
  simp only[kx];unfold AG;split;· exact hg _ _ _ _ _ _ _
  ·exact .const _
 |goto l =>
  simp only[kx];unfold AG;split;· exact hg _ _ _ _ _ _ _
  ·exact .const _
 |cond cc a b =>
  simp only[kx,pY]
  exact bh.al (cJ _) fun d=>.brD _ (hg _ _ _ _ _ _ _) (hg _ _ _ _ _ _ _)
 |region id ops draw =>
  cases draw with
  |true =>
   simp only[kx]
   refine .cond _ ?_ (.const _)
   split
   ·exact gR h (fun t L H=>hg _ _ _ _ _ _ _) _ _ _ _ _ _ _
   ·exact .const _
  |false =>
   simp only[kx]
   exact .cond _ (mQ h (fun t L ds up H=>hg _ _ _ _ _ _ _) (fun p t L ds up H=>hg _ _ _ _ _ _ _) _ _ _ _ _ _) (.const _)
 |rangeFunc g ps a b =>
  simp only[kx]
  refine bh.al (cJ _) fun d=>?_
  unfold BV KN
  split
  ·split
   ·refine .notRnd _ (.callK2 (.ih h _ _) (fun x H=>?_) fun p H=>hg _ _ _ _ _ _ _)
    unfold Aw
    split
    ·exact hg _ _ _ _ _ _ _
    ·exact .const _
   ·exact .const _
  ·exact .const _
 |refuse _=>exact .const _
theorem Vc{go1 go2:rH}{t:T LD}{L:LS}{ds:List pJ}{up:Option eg}{d:D}{u:eg}{H:DH}{y z:il}(e:pG go1 t L ds up (some ⟨.ret d,some u,H⟩)=some z)(h:go2 t L [] ds (pX u) up H=some y):pG go2 t L ds up (some ⟨.ret d,some u,H⟩)=some y:=by
 cases u with
 |run=>cases e
 |round _=>cases e
 |returning=>exact h
 |panicking c =>
  cases c with
  |nil=>exact h
  |cons x r=>obtain⟨v,q⟩:=x;cases q<;>exact h
theorem Rv{go1 go2:rH}{t:T LD}{L:LS}{ds:List pJ}{up:Option eg}{c:List gB}{u:eg}{H:DH}{y z:il}(e:pG go1 t L ds up (some ⟨.pan c,some u,H⟩)=some z)(h:go2 t L [] ds (BX u c) up H=some y):pG go2 t L ds up (some ⟨.pan c,some u,H⟩)=some y:=by
 cases u with
 |run=>cases e
 |round _=>cases e
 |returning=>exact h
 |panicking o=>exact h
theorem xE(t:T LD)(L:LS)(up:Option eg)(H:DH)(m:eg):bh c R (fun _=>iU E an fn t L up H m):=.const _
theorem Hr(h:yX c R)(hg:∀ t L todo ds m up H,bh c R (fun ih=>go ih t L todo ds m up H))(t:T LD)(L:LS)(todo:List Item)(ds:List pJ)(m:eg)(up:Option eg)(H:DH):bh c R (fun ih=>sF E an f fn (go ih) (rQ ih) t L todo ds m up H):=by
 have unw:∀ m,bh c R (fun ih=>iw ds E an fn (go ih) (rQ ih) t L m up H):=fun m=>by
  cases ds with
  |nil=>exact xE t L up H m
  |cons x ds =>
   cases x with
   |coll o =>
    simp only[iw]
    unfold rg
    split
    ·exact hg _ _ _ _ _ _ _
    ·exact .const _
   |call x =>
   obtain⟨f,cap,args⟩:=x
   intro y e
   simp only[iw]at e ⊢
   obtain⟨u,H',⟨d,hr,hne,e'⟩|⟨c',hr,e'⟩⟩:=yq e
   ·obtain⟨n1,hn1⟩:=bh.ih h (.call f (args++cap) (some m)) H _ hr
    obtain⟨n2,hn2⟩:=hg _ _ _ _ _ _ _ y e'
    refine⟨max n1 n2,fun q hq=>?_⟩
    have h1:=hn1 q (by omega)
    have h2:=hn2 q (by omega)
    simp only[rQ]at hr ⊢
    simp only[rQ,hr]at e
    have h1:c q (.call f (args++cap) (some m)) H=_:=h1
    rw[h1]
    exact Vc e h2
   ·obtain⟨n1,hn1⟩:=bh.ih h (.call f (args++cap) (some m)) H _ hr
    obtain⟨n2,hn2⟩:=hg _ _ _ _ _ _ _ y e'
    refine⟨max n1 n2,fun q hq=>?_⟩
    have h1:=hn1 q (by omega)
    have h2:=hn2 q (by omega)
    simp only[rQ]at hr ⊢
    simp only[rQ,hr]at e
    have h1:c q (.call f (args++cap) (some m)) H=_:=h1
    rw[h1]
    exact Rv e h2
 cases m with
 |run =>
  cases todo with
  |nil =>
   simp only[sF,Ij,wO]
   split
   ·exact .const _
   ·exact hg _ _ _ _ _ _ _
  |cons i k =>
   cases i with
   |code cd=>exact KQ h hg cd _ _ _ _ _ _
   |inBlock _=>exact hg _ _ _ _ _ _ _
   |inScope _=>exact hg _ _ _ _ _ _ _
   |inLoop _=>exact hg _ _ _ _ _ _ _
   |beginRound =>
    simp only[sF,Ij,NR]
    unfold HM
    split
    ·unfold Lo
     split
     ·exact hg _ _ _ _ _ _ _
     ·exact .const _
    ·exact .const _
   |_=>exact .const _
 |returning=>exact unw _
 |panicking p=>exact unw _
 |round _=>exact .const _
theorem Aa(t:T LD):∀ l,Al (vT t l)
 |[]=>.ret []
 |i::r=>(ry _).bind fun x=>(Aa t r).map (x::·)
theorem Rg{ih' go':aE->rH}(h1:∀ t L todo ds m up H,bh c R (fun ih=>ih' ih t L todo ds m up H))(h2:∀ t L todo ds m up H,bh c R (fun ih=>go' ih t L todo ds m up H))(t:T LD)(L:LS)(todo:List Item)(ds:List pJ)(m:eg)(up:Option eg)(H:DH) :
 bh c R (fun ih=>FA an (ih' ih) (go' ih) t L todo ds m up H):=by
 unfold FA
 split
 ·split
  ·exact bh.al (Aa _ _) fun xs=>.cond _ (h1 _ _ _ _ _ _ _) (.const _)
  ·exact h2 _ _ _ _ _ _ _
 ·exact h2 _ _ _ _ _ _ _
theorem sG(h:yX c R){go':aE->FuncId->Func->rH}(hg:∀ f fn t L todo ds m up H,bh c R (fun ih=>go' ih f fn t L todo ds m up H))(j:zP)(H:DH):bh c R (fun ih=>pT E ih (go' ih) j H):=by
 cases j with
 |frame f fn t L todo ds m up=>exact Hr h (fun t L todo ds m up H=>Rg (fun t L todo ds m up H=>.ih h _ _) (hg f fn) t L todo ds m up H) _ _ _ _ _ _ _
 |call f args up =>
  simp only[pT]
  have ent:bh c R (fun ih=>yh E (go' ih) f args up H):=by
   unfold yh
   split
   ·split
    ·refine .cond _ (.const _) (.cond _ ?_ ?_)
     ·simp only[nO args 0 .leaf (fun t=>go' _ _ _ t _ _ _ _ _ _)]
      intro y e
      change aZ H (go' R f _ (fT args 0 T.leaf id) [] _ [] eg.run up H)=some y at e
      cases ho:go' R f ‹Func› (fT args 0 T.leaf id) [] [Item.code ‹Code›] [] eg.run up H with
      |none=>rw[ho]at e;cases e
      |some o =>
       obtain⟨n,hn⟩:=hg _ _ _ _ _ _ _ _ _ o ho
       refine⟨n,fun m hm=>?_⟩
       show aZ H (go' (c m) f _ (fT args 0 T.leaf id) [] _ [] eg.run up H)=some y
       rw[show go' (c m) f _ (fT args 0 T.leaf id) [] _ [] eg.run up H=some o from hn m hm,<- ho];exact e
     ·simp only[nO args 0 .leaf (fun t=>go' _ _ _ t _ _ _ _ _ _)]
      exact hg _ _ _ _ _ _ _ _ _
    ·exact .const _
   ·exact .const _
  unfold JR
  split
  ·unfold rP
   split
   ·split
    ·refine .cond _ ?_ (.const _)
     simp only[rS _ _ _ (fun t=>go' _ _ _ t _ _ _ _ _ _)]
     exact hg _ _ _ _ _ _ _ _ _
    ·exact .const _
   ·exact .const _
  ·unfold MZ
   split
   ·exact .const _
   ·exact ent
end
def ab(E:cD):aE:=fun j H=>open Classical in if h:∃ o n,dK E n j H=some o then some h.choose else none
theorem Fz(E:cD):∀ n j H o,dK E n j H=some o->dK E (n+1) j H=some o
 |0,_,_,_,h=>by cases h
 |n+1,j,H,o,h=>by
  have hl:yX (fun _=>dK E (n+1)) (dK E n):=fun j H o h=>⟨0,fun _ _=>Fz E n j H o h⟩
  obtain⟨k,hk⟩:=sG (E:=E) hl (go':=fun ih=>LG ih) (fun f fn t L todo ds m up H=>.ih hl _ _) j H o h
  exact hk k (Nat.le_refl _)
theorem CW(E:cD){n m:Nat}(hm:n<=m){j:zP}{H:DH}{o:il}(h:dK E n j H=some o):dK E m j H=some o:=by
 induction hm with
 |refl=>exact h
 |step _ ih=>exact Fz E _ j H o ih
theorem OE{E:cD}{n:Nat}{j:zP}{H:DH}{o:il}(h:dK E n j H=some o):ab E j H=some o:=by
 have hex:∃ o n,dK E n j H=some o:=⟨o,n,h⟩
 unfold ab
 rw[dif_pos hex]
 obtain⟨m,hm⟩:=hex.choose_spec
 have h1:=CW E (Nat.le_max_left n m) h
 have h2:=CW E (Nat.le_max_right n m) hm
 rw[h1]at h2
 rw[<- Option.some.inj h2]
theorem wK{E:cD}{j:zP}{H:DH}{o:il}(h:ab E j H=some o):∃ n,dK E n j H=some o:=by
 unfold ab at h
 split at h
 ·rename_i hex
  cases h
  exact hex.choose_spec
 ·cases h
theorem Eu(E:cD):yX (dK E) (ab E):=fun j H o h=>by
 obtain⟨n,hn⟩:=wK h
 exact⟨n,fun m hm=>CW E hm hn⟩
theorem JB(E:cD)(j:zP)(H:DH):ab E j H=pT E (ab E) (LG (ab E)) j H:=by
 cases h:pT E (ab E) (LG (ab E)) j H with
 |some o =>
  obtain⟨n,hn⟩:=sG (E:=E) (Eu E) (go':=fun ih=>LG ih) (fun f fn t L todo ds m up H=>.ih (Eu E) _ _) j H o h
  exact OE (n:=n+1) (hn n (Nat.le_refl _))
 |none =>
  cases h2:ab E j H with
  |none=>rfl
  |some o =>
   obtain⟨n,hn⟩:=wK h2
   cases n with
   |zero=>cases hn
   |succ n =>
    have hl:yX (fun _=>ab E) (dK E n):=fun j H o h=>⟨0,fun _ _=>OE h⟩
    obtain⟨k,hk⟩:=sG (E:=E) hl (go':=fun ih=>LG ih) (fun f fn t L todo ds m up H=>.ih hl _ _) j H o hn
    have h3:pT E (ab E) (LG (ab E)) j H=some o:=hk k (Nat.le_refl _)
    rw[h]at h3;cases h3
theorem Fl(E:cD):∀ n,br E (ab E) n=ab E
 |0=>rfl
 |n+1=>by
  funext j H
  rw[br,Fl E n]
  exact(JB E j H).symm
theorem Hy{E:cD}(hO:Ps E):Do E (ab E):=by
 refine⟨⟨fun f args up H out e g hH hok vs upv hr hu=>?_,fun o args H out e g hH hok vs l v hr ho=>?_⟩,fun f fn t L todo ds m up H out e b P0 g tv LO dsv mv upv rdv hH hf hd hm hu=>?_⟩
 ·obtain⟨n,hn⟩:=wK e
  exact(nj hO n).call.c f args up H out hn g hH hok vs upv hr hu
 ·obtain⟨n,hn⟩:=wK e
  exact(nj hO n).call.r o args H out hn g hH hok vs l v hr ho
 ·obtain⟨n,hn⟩:=wK e
  exact(nj hO n).frame f fn t L todo ds m up H out hn b P0 g tv LO dsv mv upv rdv hH hf hd hm hu
end Go.AI
