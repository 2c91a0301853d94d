/- Lemmas. No conditions. -/
import Derived.Test.YtpghiabjaglpgaaGreatDoorA3
import Derived.Deep.Slices
import Derived.Test.YtpghiabjaglpgaaGreatDoorRows
import Derived.Lib.ItoaLen
import Derived.OpenShut
import Derived.Test.YtpghiabjaglpgaaGreatDoorT1
import Derived.Lib.QuietBelow
set_option linter.all false
noncomputable section
namespace Go.AI
variable[gu]
def DO(c:Nat->aJ)(R:aJ):Prop:=∀ j H o,R j H=some o->∃ n,∀ m,n<=m->c m j H=some o
def bP(c:Nat->aJ)(R:aJ)(Φ:aJ->av):Prop:=∀ x,Φ R=some x->∃ n,∀ m,n<=m->Φ (c m)=some x
section
variable{c:Nat->aJ}{R:aJ}{α β:Type}{E:dr}{an:ga}
theorem bP.const(x:av):bP c R (λ_=>x):=λ_ h=>⟨0,λ_ _=>h⟩
theorem bP.al{d:(α->av)->av}(h:Al d){κ:aJ->α->av}(hk:∀ a,bP c R (λih=>κ ih a)):bP c R (λih=>d (κ ih)):=λx e=>by obtain⟨a,b⟩:=h (κ R) x e;obtain⟨n,i⟩:=hk a x ((b (κ R)).symm.trans e);exact⟨n,λm hm=>(b (κ (c m))).trans (i m hm)⟩
theorem bP.al2{d:(α->β->av)->av}(h:iC d){κ:aJ->α->β->av}(hk:∀ a b,bP c R (λih=>κ ih a b)):bP c R (λih=>d (κ ih)):=λx e=>by obtain⟨a,b,i⟩:=h (κ R) x e;obtain⟨n,j⟩:=hk a b x ((i (κ R)).symm.trans e);exact⟨n,λm hm=>(i (κ (c m))).trans (j m hm)⟩
theorem bP.cond(b:Bool){p q:aJ->av}(hp:bP c R p)(a:bP c R q):bP c R (λih=>cond b (p ih) (q ih)):=by
 cases b
 .exact a
 .exact hp
theorem bP.both{p q:aJ->av}(hp:bP c R p)(a:bP c R q):bP c R (λih=>Gr (p ih) (q ih)):=λx e=>by
 obtain⟨b,d⟩:=Gq e;obtain⟨n1,k1⟩:=hp x b;obtain⟨n2,k2⟩:=a x d;refine⟨max n1 n2,λm hm=>?_⟩
 grind
theorem bP.notRnd(up:Option fx){p:aJ->av}(hp:bP c R p):bP c R (λih=>notRnd up (p ih)):=by
 unfold Go.AI.notRnd;split
 .exact .const _
 .exact hp
theorem bP.brD(d:D){p q:aJ->av}(hp:bP c R p)(a:bP c R q):bP c R (λih=>brD d (p ih) (q ih)):=by cases d<;>first|exact .const _|exact bP.cond _ hp a|exact bP.both hp a
theorem bP.ih(h:DO c R)(j:EE)(H:DH):bP c R (λih=>ih j H):=λo ho=>h j H o ho
theorem bP.callK2{x:aJ->av}(i:bP c R x){kr:aJ->D->DH->av}{kp:aJ->List iX->DH->av}(j:∀ d H,bP c R (λih=>kr ih d H))(k:∀ p H,bP c R (λih=>kp ih p H)):bP c R (λih=>bd (x ih) (kr ih) (kp ih)):=λy e=>by
 obtain⟨o,ho,n⟩:=mG e;obtain⟨n1,b⟩:=i o ho;obtain⟨oe,ou,oH⟩:=o;rcases n with⟨d,h,e⟩|⟨p,h,e⟩
 .simp only at h e;subst h;obtain⟨n2,a⟩:=j d oH y e;exact⟨max n1 n2,λm hm=>by show bd (x (c m)) _ _=_;rw[b m (by omega)];exact a m (by omega)⟩
 .simp only at h e;subst h;obtain⟨n2,a⟩:=k p oH y e;exact⟨max n1 n2,λm hm=>by show bd (x (c m)) _ _=_;rw[b m (by omega)];exact a m (by omega)⟩
theorem bP.want{ops:Array Oper}{t:T LD}{o:Oper}{kT kF:aJ->T LD->av}(a:∀ t,bP c R (λih=>kT ih t))(b:∀ t,bP c R (λih=>kF ih t)):bP c R (λih=>Am ops t o (kT ih) (kF ih)):=by
 unfold Am;split
 .exact a t
 .split
  .split
   .split
    .simp only[T.setK_eq];exact .brD _ (a _) (b _)
    .simp only[T.setK_eq];exact .brD _ (b _) (a _)
   .exact b t
   .exact .const _
  .exact .const _
theorem bP.put{t:T LD}{d:Option Tmp}{x:LD}{κ:aJ->T LD->av}(h:∀ t,bP c R (λih=>κ ih t)):bP c R (λih=>lc t d x (κ ih)):=by simp_all[di]
theorem ZS(h:DO c R){d:Option Tmp}{t:T LD}{ds:List su}{up:Option fx}{k:aJ->Lt}{kp:aJ->List iX->Lt}(hk:∀ t L ds up H,bP c R (λih=>k ih t L ds up H))(hp:∀ p t L ds up H,bP c R (λih=>kp ih p t L ds up H))(x:DU) :
 bP c R (λih=>Mn an (AP ih) d t ds up (k ih) (kp ih) x):=by
 cases x with
 |val x L H=>simp only[Mn];exact bP.al2 (pN) λx H=>.put λt=>hk _ _ _ _ _
 |skip L H=>simp only[Mn];exact .put λt=>hk _ _ _ _ _
 |enter f args L H=>simp only[Mn];exact .callK2 (.ih h _ _) (λx H=>bP.al2 (pN) λx H=>.put λt=>hk _ _ _ _ _) λp H=>hp _ _ _ _ _ _
 |defer df L H=>simp only[Mn];exact .notRnd _ (.put λt=>hk _ _ _ _ _)
 |round o args L H=>simp only[Mn];exact .callK2 (.ih h _ _) (λx H=>bP.al2 (pN) λx H=>.put λt=>hk _ _ _ _ _) λp H=>hp _ _ _ _ _ _
 |recover L H =>
  simp only[Mn];unfold mV;split
  .exact .const _
  .exact .put λt=>hk _ _ _ _ _
  .exact .put λt=>hk _ _ _ _ _
  .exact .const _
 |panic v L H=>exact hp _ _ _ _ _ _
theorem pp(h:DO c R){ops:Array Oper}{k:aJ->Lt}{kp:aJ->List iX->Lt}(hk:∀ t L ds up H,bP c R (λih=>k ih t L ds up H))(hp:∀ p t L ds up H,bP c R (λih=>kp ih p t L ds up H)):∀(l:List Oper) t L ds up H,
 bP c R (λih=>pR E an ops (AP ih) l (k ih) (kp ih) t L ds up H)
 |[],t,L,ds,up,H=>hk _ _ _ _ _
 |o::l,t,L,ds,up,H=>.want (λt=>bP.al2 (vX) λt x=>ZS h (λt L ds up H=>pp h hk hp l t L ds up H) hp x) (λt=>.put λt=>pp h hk hp l t L ds up H)
theorem ua{κ:aJ->T LD->LD->LS->DH->av}(h:∀ t x L H,bP c R (λih=>κ ih t x L H))(t:T LD)(x:DU):bP c R (λih=>sF (κ ih) t x):=by
 unfold sF;split
 .simp_all
 .exact .const _
theorem Nk{o:Oper}{a:List (LS×DH)}{n w:Nat}{bs:T Nat}{t:T LD}{L:LS}{H:DH}{κ:aJ->T LD->LD->LS->DH->Nat->av}(h:∀ t x L H b,bP c R (λih=>κ ih t x L H b))(kd:Nat):bP c R (λih=>rX E an o a n w bs t L H (κ ih) kd):=by
 unfold rX;split
 .simp_all[bP.al2,vX,ua]
 .refine .cond _ ?_ (.const _);unfold EZ;split
  .exact .const _
  .split
   .simp_all[bP.al2,vX,ua]
   .have q (M G r):bP c R (λih=>mg o.op E false t (fW M r) (dG G (r.map (·.2))) λt x=>sF (λt x _ _=>κ ih t x L H (bif vH an o.dst then n else n - w)) t x):=bP.al2 (vX) λt x=>ua (λt x _ _=>h _ _ _ _ _) t x;unfold UD;split
    .simp_all[bP.al,rm,SK]
    .exact q _ _ _
 .simp_all[bP.al2,vX,ua]
 .exact .const _
theorem Wy(h:DO c R){t:T LD}{κ:aJ->T LD->LD->LS->DH->av}(hk:∀ t x L H,bP c R (λih=>κ ih t x L H))(x:DU):bP c R (λih=>HX (AP ih) t (κ ih) x):=by
 cases x with
 |val x L H=>exact hk _ _ _ _
 |skip L H=>exact hk _ _ _ _
 |enter f args L H=>exact .callK2 (.ih h _ _) (λx H=>hk _ _ _ _) λp H=>.const _
 |_=>exact .const _
theorem jm(h:DO c R){ops:Array Oper}{k:aJ->T LD->LS->DH->av}(hk:∀ t L H,bP c R (λih=>k ih t L H)):∀(sc:List (Option Nat×Nat)) a n bs t L H,bP c R (λih=>ib E an ops (AP ih) (k ih) sc a n bs t L H)
 |[],a,n,bs,t,L,H=>hk _ _ _
 |(w,i)::sc,a,n,bs,t,L,H=>by
  simp only[ib];split
  .exact .const _
  .split
   .refine .want (λt=>Nk (λt x L H b=>?_) _) (λt=>.put λt=>?_)
    .exact bP.al2 (pN) λx H=>.put λt=>by simp only[gH];exact jm h hk sc _ _ _ _ _ _
    simp_all[gH,jm]
   .refine .want (λt=>bP.al2 (vX) λt x=>Wy h (λt x L H=>?_) x) (λt=>.put λt=>?_)
    .exact bP.al2 (pN) λx H=>.put λt=>by simp only[gH];exact jm h hk sc _ _ _ _ _ _
    simp_all[gH,jm]
variable{f:FuncId}{fn:Func}{go:aJ->uF}
theorem Si(h:DO c R)(e:∀ t L todo ds m up H,bP c R (λih=>go ih t L todo ds m up H))(cd:Code)(k:List Item)(t:T LD)(L:LS)(ds:List su)(up:Option fx)(H:DH):bP c R (λih=>mE cd E an f fn (go ih) (AP ih) k t L ds up H):=by
 cases cd with
 |ret=>exact .notRnd _ (e _ _ _ _ _ _ _)
 |skip=>exact e _ _ _ _ _ _ _
 |label _=>exact e _ _ _ _ _ _ _
 |seq _ _=>exact e _ _ _ _ _ _ _
 |block _ _=>exact e _ _ _ _ _ _ _
 |loop _=>exact e _ _ _ _ _ _ _
 |scope _=>exact e _ _ _ _ _ _ _
 |exit id =>
  simp only[mE];unfold FF;split;· exact e _ _ _ _ _ _ _
  .exact .const _
 |goto l =>
  simp only[mE];unfold FF;split;· exact e _ _ _ _ _ _ _
  .exact .const _
 |cond cc a b =>simp only[mE,sQ];exact bP.al (dA) λd=>.brD _ (e _ _ _ _ _ _ _) (e _ _ _ _ _ _ _)
 |region id ops draw =>
  cases draw with
  |true =>
   simp only[mE];refine .cond _ ?_ (.const _);split
   .simp_all[jm]
   .exact .const _
  |false =>simp only[mE];exact .cond _ (pp h (λt L ds up H=>e _ _ _ _ _ _ _) (λp t L ds up H=>e _ _ _ _ _ _ _) _ _ _ _ _ _) (.const _)
 |rangeFunc g ps a b =>
  simp only[mE];refine bP.al (dA) λd=>?_;unfold He Se;split
  .split
   .refine .notRnd _ (.callK2 (.ih h _ _) (λx H=>?_) λp H=>e _ _ _ _ _ _ _);unfold Fs;split
    .simp_all
    .exact .const _
   .exact .const _
  .exact .const _
 |refuse _=>exact .const _
theorem afo{go1 go2:uF}{t:T LD}{L:LS}{ds:List su}{up:Option fx}{d:D}{u:fx}{H:DH}{y z:iY}(e:so go1 t L ds up (some ⟨.ret d,some u,H⟩)=some z)(h:go2 t L [] ds (zw u) up H=some y):so go2 t L ds up (some ⟨.ret d,some u,H⟩)=some y:=by
 cases u with
 |run=>cases e
 |round _=>cases e
 |returning=>exact h
 |panicking c =>
  cases c with
  |nil=>exact h
  |cons x r=>obtain⟨v,q⟩:=x;cases q<;>exact h
theorem aai{go1 go2:uF}{t:T LD}{L:LS}{ds:List su}{up:Option fx}{c:List iX}{u:fx}{H:DH}{y z:iY}(e:so go1 t L ds up (some ⟨.pan c,some u,H⟩)=some z)(h:go2 t L [] ds (Hg u c) up H=some y):so go2 t L ds up (some ⟨.pan c,some u,H⟩)=some y:=by
 cases u with
 |run=>cases e
 |round _=>cases e
 |returning=>exact h
 |panicking o=>exact h
theorem BX(t:T LD)(L:LS)(up:Option fx)(H:DH)(m:fx):bP c R (λ_=>kB E an fn t L up H m):=.const _
theorem Nj(h:DO c R)(a:∀ t L todo ds m up H,bP c R (λih=>go ih t L todo ds m up H))(t:T LD)(L:LS)(todo:List Item)(ds:List su)(m:fx)(up:Option fx)(H:DH):bP c R (λih=>vJ E an f fn (go ih) (AP ih) t L todo ds m up H):=by
 have unw:∀ m,bP c R (λih=>jN ds E an fn (go ih) (AP ih) t L m up H):=λm=>by
  cases ds with
  |nil=>exact BX t L up H m
  |cons x ds =>
   cases x with
   |coll o =>
    simp only[jN];unfold uo;split
    .simp_all
    .exact .const _
   |call x =>
   obtain⟨f,cap,args⟩:=x;intro y e;simp only[jN]at e ⊢;obtain⟨u,H',⟨d,hr,hne,b⟩|⟨c',hr,b⟩⟩:=Dc e
   .obtain⟨n1,j⟩:=bP.ih h (.call f (args++cap) (some m)) H _ hr;obtain⟨n2,n⟩:=a _ _ _ _ _ _ _ y b;refine⟨max n1 n2,λq r=>?_⟩
    grind [AP,afo]
   .obtain⟨n1,j⟩:=bP.ih h (.call f (args++cap) (some m)) H _ hr;obtain⟨n2,n⟩:=a _ _ _ _ _ _ _ y b;refine⟨max n1 n2,λq r=>?_⟩
    grind [AP,aai]
 cases m with
 |run =>
  cases todo with
  |nil =>
   simp only[vJ,Ol,Bv];split
   .exact .const _
   simp_all
  |cons i k =>
   cases i with
   |code cd=>exact Si h a cd _ _ _ _ _ _
   |inBlock _=>exact a _ _ _ _ _ _ _
   |inScope _=>exact a _ _ _ _ _ _ _
   |inLoop _=>exact a _ _ _ _ _ _ _
   |beginRound =>
    simp only[vJ,Ol,VU];unfold NK;split
    .unfold SH;split
     .simp_all
     .exact .const _
    .exact .const _
   |_=>exact .const _
 |returning=>exact unw _
 |panicking p=>exact unw _
 |round _=>exact .const _
theorem ER(t:T LD):∀ l,Al (AA t l)
 |[]=>.ret []
 |i::r=>(rm).bind λx=>(ER t r).map (x::·)
theorem ZT{ih' go':aJ->uF}(b:∀ t L todo ds m up H,bP c R (λih=>ih' ih t L todo ds m up H))(a:∀ t L todo ds m up H,bP c R (λih=>go' ih t L todo ds m up H))(t:T LD)(L:LS)(todo:List Item)(ds:List su)(m:fx)(up:Option fx)(H:DH) :
 bP c R (λih=>KK an (ih' ih) (go' ih) t L todo ds m up H):=by
 unfold KK;split
 .split
  .exact bP.al (ER _ _) λxs=>.cond _ (b _ _ _ _ _ _ _) (.const _)
  .exact a _ _ _ _ _ _ _
 .exact a _ _ _ _ _ _ _
theorem vK(h:DO c R){go':aJ->FuncId->Func->uF}(a:∀ f fn t L todo ds m up H,bP c R (λih=>go' ih f fn t L todo ds m up H))(j:EE)(H:DH):bP c R (λih=>sM E ih (go' ih) j H):=by
 cases j with
 |frame f fn t L todo ds m up=>exact Nj h (λt L todo ds m up H=>ZT (λt L todo ds m up H=>.ih h _ _) (a f fn) t L todo ds m up H) _ _ _ _ _ _ _
 |call f args up =>
  simp only[sM];have ent:bP c R (λih=>CT E (go' ih) f args up H):=by
   unfold CT;split
   .split
    .refine .cond _ (.const _) (.cond _ ?_ ?_)
     .simp only[qc args 0 .leaf (λt=>go' _ _ _ t _ _ _ _ _ _)];intro y e;change bj H (go' R f _ (ip args 0 T.leaf id) [] _ [] fx.run up H)=some y at e;cases ho:go' R f ‹Func› (ip args 0 T.leaf id) [] [Item.code ‹Code›] [] fx.run up H with
      |none=>rw[ho]at e;cases e
      |some o =>obtain⟨n,b⟩:=a _ _ _ _ _ _ _ _ _ o ho;refine⟨n,λm hm=>?_⟩;show bj H (go' (c m) f _ (ip args 0 T.leaf id) [] _ [] fx.run up H)=some y;rw[show go' (c m) f _ (ip args 0 T.leaf id) [] _ [] fx.run up H=some o from b m hm,<- ho];exact e
     .simp only[qc args 0 .leaf (λt=>go' _ _ _ t _ _ _ _ _ _)];exact a _ _ _ _ _ _ _ _ _
    .exact .const _
   .exact .const _
  unfold QM;split
  .unfold uS;split
   .split
    .refine .cond _ ?_ (.const _);simp only[uV _ _ _ (λt=>go' _ _ _ t _ _ _ _ _ _)];exact a _ _ _ _ _ _ _ _ _
    .exact .const _
   .exact .const _
  .unfold US;split
   .exact .const _
   .exact ent
end
def eW(E:dr):aJ:=λj H=>open Classical in if h:∃ o n,dK E n j H=some o then some h.choose else none
theorem KJ(E:dr):∀ n j H o,dK E n j H=some o->dK E (n+1) j H=some o
 |0,_,_,_,h=>by cases h
 |n+1,j,H,o,h=>by have hl:DO (λ_=>dK E (n+1)) (dK E n):=λj H o h=>⟨0,λ_ _=>KJ E n j H o h⟩;obtain⟨k,hk⟩:=vK (E:=E) hl (go':=λih=>Ta ih) (λf fn t L todo ds m up H=>.ih hl _ _) j H o h;exact hk k (abH _)
theorem Ii(E:dr){n m:Nat}(hm:n<=m){j:EE}{H:DH}{o:iY}(h:dK E n j H=some o):dK E m j H=some o:=by
 induction hm with
 |refl=>exact h
 |step _ ih=>exact KJ E _ j H o ih
theorem WQ{E:dr}{n:Nat}{j:EE}{H:DH}{o:iY}(h:dK E n j H=some o):eW E j H=some o:=by
 have a:∃ o n,dK E n j H=some o:=⟨o,n,h⟩;unfold eW;rw[dif_pos a];obtain⟨m,hm⟩:=a.choose_spec;have h1:=Ii E (Nat.le_max_left n m) h
 grind [Ii,Nat.le_max_right,Option.some.inj]
theorem Bs{E:dr}{j:EE}{H:DH}{o:iY}(h:eW E j H=some o):∃ n,dK E n j H=some o:=by
 unfold eW at h;split at h
 .grind
 .cases h
theorem JH(E:dr):DO (dK E) (eW E):=λj H o h=>by obtain⟨n,a⟩:=Bs h;exact⟨n,λm hm=>Ii E hm a⟩
theorem Qp(E:dr)(j:EE)(H:DH):eW E j H=sM E (eW E) (Ta (eW E)) j H:=by
 cases h:sM E (eW E) (Ta (eW E)) j H with
 |some o =>obtain⟨n,a⟩:=vK (E:=E) (JH E) (go':=λih=>Ta ih) (λf fn t L todo ds m up H=>.ih (JH E) _ _) j H o h;exact WQ (n:=n+1) (a n (abH _))
 |none =>
  cases b:eW E j H with
  |none=>rfl
  |some o =>
   obtain⟨n,a⟩:=Bs b;cases n with
   |zero=>cases a
   |succ n =>
    have hl:DO (λ_=>eW E) (dK E n):=λj H o h=>⟨0,λ_ _=>WQ h⟩;obtain⟨k,hk⟩:=vK (E:=E) hl (go':=λih=>Ta ih) (λf fn t L todo ds m up H=>.ih hl _ _) j H o a;have h3:sM E (eW E) (Ta (eW E)) j H=some o:=hk k (abH _)
    grind
theorem Kz(E:dr):∀ n,Tm E (eW E) n=eW E
 |0=>rfl
 |n+1=>by funext j H;simp_all[Tm,Kz,Qp]
theorem Nr{E:dr}(i:XQ E):IE E (eW E):=by
 refine⟨⟨λf args up H out e g d a vs upv hr j=>?_,λo args H out e g d a vs l v hr ho=>?_⟩,λf fn t L todo ds m up H out e b P0 g tv LO dsv mv upv rdv d k q hm j=>?_⟩
 .obtain⟨n,h⟩:=Bs e;exact(pH i n).call.c f args up H out h g d a vs upv hr j
 .obtain⟨n,h⟩:=Bs e;exact(pH i n).call.r o args H out h g d a vs l v hr ho
 .obtain⟨n,h⟩:=Bs e;exact(pH i n).frame f fn t L todo ds m up H out h b P0 g tv LO dsv mv upv rdv d k q hm j
end Go.AI
namespace Go.Proofs.YtpghiabjaglpgaaGreatDoor.Rd
open Go.AI Go.Proofs Go.ChangeShapes Go.Proofs.YtpghiabjaglpgaaGreatDoor
inductive Ck where
 |bool|int|str|sl (t:Nat)
def Tt:List Nat:=[22,25,38,39,40,41,70,83,84,91,109,139,142,145]
def VN(P:Program)(uH:Nat->Option (List Ck)):List Field->Nat->Option (List Ck)
 |[],_=>some []
 |f::r,off=>bif Nat.beq f.offset off then(match uH f.type with
  |some l=>bif Nat.beq l.length (P.cellsOf f.type)then(match VN P uH r (off+l.length)with
   |some m=>some (l++m)
   |none=>none)else none
  |none=>none)else none
def MQ(P:Program):Nat->TypeId->Option (List Ck)
 |0,_=>none
 |n+1,t=>match P.underlying t with
  |some .bool=>some [.bool]
  |some (.int .i64)=>some [.int]
  |some .string=>some [.str]
  |some (.slice _)=>bif Tt.contains t then some [.sl t] else none
  |some (.struct fs)=>VN P (MQ P n) fs.toList 0
  |_=>none
abbrev MP(n:Nat)(t:TypeId):Option (List Ck):=MQ Tryz.prog n t
def uH(t:Nat):List Ck:=match Tryz.prog.underlying t with
 |some (.slice e)=>(MP 8 e).getD []
 |_=>[]
def okT(t:Nat):Bool:=match Tryz.prog.underlying t with
 |some (.slice e)=>(match MP 8 e with
  |some l=>Nat.blt 0 l.length&&(Nat.beq (Tryz.prog.cellsOf e) l.length&&((match size Tryz.prog e with
   |some n=>Nat.beq n l.length
   |none=>false)&&Nat.blt 0 (Tryz.prog.bytesOf e)))
  |none=>false)
 |_=>false
def TD:(Tt.all λt=>(Nat.blt t 512&&!Nat.beq t 127)&&okT t)=true:=by kernel_rfl
def vA(t i:Nat):Ck:=(uH t).getD (i%(uH t).length) .bool
def bytesOf(s:ByteArray):List Nat:=s.data.toList.map UInt8.toNat
def SC(s:ByteArray):aR (bytesOf s)=s:=by
 obtain⟨a⟩:=s;simp only[aR,bytesOf,List.map_map];congr 1;have:(UInt8.ofNat ∘ UInt8.toNat)=id:=by funext x;simp
 simp_all
def Xl(s:ByteArray):∀ b∈bytesOf s,b<256:=by intro b hb;simp only[bytesOf,anT]at hb;obtain⟨x,_,rfl⟩:=hb;exact x.toNat_lt
def LK:Option Nat->Nat
 |none=>0
 |some n=>n+1
def LX(o:Option Nat):OT (LK o)=o:=by cases o<;>rfl
def Lo(N t:Nat)(a:Addr)(len cap:Nat):Option V :=
 if cap=0 then(if len=0 then some (.slice ⟨a.block,LK a.spot,a.off⟩ 0 0 (some 0) 0)else none)
 else if a.spot=none/\len<=cap/\a.block<N/\0<(uH t).length then some (.slice ⟨a.block,a.off*512+t,1+a.off⟩ 0 len (some cap) (uH t).length)else none
def wa(N:Nat):Ck->Value->Option V
 |.bool,.bool b=>some (.bool b)
 |.int,.int .i64 n=>some (.int .i64 n)
 |.str,.string s=>some (.str (bytesOf s))
 |.sl _,.slice none 0 0=>some .nilslice
 |.sl t,.slice (some a) len cap=>Lo N t a len cap
 |_,_=>none
def Ro(N:Nat):aS:=λf _=>if f<N then some ⟨f,1,0⟩else none
def KB{N:Nat}{k:Ck}{v:Value}{x:V}(h:wa N k v=some x):den (Ro N) x=some v:=by
 unfold wa at h;split at h
 .cases h;rfl
 .cases h;rfl
 .cases h;simp only[den,SC]
 .cases h;rfl
 .rename_i t a len cap;unfold Lo at h;split at h
  .rename_i hc;split at h
   .rename_i hl;cases h;subst hc;subst hl;simp only[den,iJ,apn,and_self,LX]
   .cases h
  .split at h
   .rename_i hc;obtain⟨d,e,i,j⟩:=hc;cases h;have hr:Ro N a.block (a.off*512+t)=some ⟨a.block,1,0⟩:=by simp[Ro,i]
    have:=dO (ρ:=Ro N) (a:=⟨a.block,a.off*512+t,1+a.off⟩) (z:=0) (len:=len) (cap:=some cap) (sz:=(uH t).length) hr (by simp[bK]) (by simp) (by simpa[cM]using e) j;rw[this];obtain⟨b,o,sp⟩:=a;simp only at d;subst d;simp[bK,cM]
   .cases h
 .cases h
def iW(N:Nat)(t:Nat->Ck):Nat->List Value->List V
 |_,[]=>[]
 |i,c::r=>match wa N (t i) c with
  |some x=>x::iW N t (i+1) r
  |none=>[]
def DJ{N:Nat}{t:Nat->Ck}:∀(i:Nat) (cs:List Value) (j:Nat) (x:V),(iW N t i cs)[j]? = some x->∃ y,den (Ro N) x=some y/\cs[j]? = some y
 |i,[],j,x,h=>by simp[iW]at h
 |i,c::r,j,x,h=>by
  simp only[iW]at h;split at h
  .rename_i x' a;cases j with
   |zero=>simp at h;subst h;exact⟨c,KB a,rfl⟩
   |succ j=>exact DJ (i+1) r j x (by simpa using h)
  .simp at h
def ST(N:Nat):Value->Option V
 |.int k n=>some (.int k n)
 |.nilIface=>some .nilIface
 |.iface te (.pointer (some ⟨b,off,none⟩))=>if b<N then some (.iface te (.ptr ⟨b,0,1+off⟩))else none
 |_=>none
def WL{N:Nat}{v:Value}{x:V}(h:ST N v=some x):den (Ro N) x=some v:=by
 unfold ST at h
 grind [Ro,den,jp]
def kQ(N:Nat):List Value->Option (List V)
 |[]=>some []
 |c::r=>match ST N c with
  |some x=>match kQ N r with
   |some l=>some (x::l)
   |none=>none
  |none=>none
def DL{N:Nat}:∀ {l:List Value} {m:List V},kQ N l=some m->m.length=l.length/\∀(i:Nat) (x:V),m[i]? = some x->∃ y,den (Ro N) x=some y/\l[i]? = some y
 |[],m,h=>by cases h;exact⟨rfl,λi x h=>by simp at h⟩
 |c::r,m,h=>by
  simp only[kQ]at h;split at h
  .rename_i x b;split at h
   .rename_i l hl;cases h;obtain⟨d,e⟩:=DL hl;refine⟨by simp[d],λi z a=>?_⟩;cases i with
    |zero=>simp at a;subst a;exact⟨c,WL b,rfl⟩
    |succ i=>simpa using e i z (by simpa using a)
   .cases h
  .cases h
def Aj(N:Nat)(c:List Value):List om:=match kQ N c with
 |some l=>[⟨127,1,l⟩]
 |none=>[]
def ru(N:Nat)(c:List Value):List om:=Aj N c++(List.range c.length).flatMap λoff=>Tt.map λt=>⟨off*512+t,1+off,iW N (vA t) 0 (c.drop off)⟩
def Gs(N:Nat):Option Obj->ef
 |some (.cells c _ _)=>.ro (ru N c.toList)
 |_=>.ro []
def BU{v:Nat}{u:om}:∀ {vers:List om},u∈vers->u.v=v->(∀ a∈vers,a.v=v->a=u)->bY vers v=some u
 |[],h,_,_=>by cases h
 |w::r,h,e,d=>by
  simp only[bY];cases hb:Nat.beq w.v v with
  |true=>rw[d w (by simp) (abj hb)];rfl
  |false =>
   rcases afS.1 h with rfl|h
   .simp_all
   .exact BU h e λa b=>d a (acl _ b)
def Tq{t:Nat}(h:t∈Tt):t<512/\t≠127:=by have:=anN.1 TD t h;simp only[abk,aoe]at this;refine⟨apj (act this.1.1),λe=>?_⟩;simp_all
def Tr{t:Nat}(h:t∈Tt):t<512:=(Tq h).1
def NZ{N:Nat}{c:List Value}{u:om}(h:u∈Aj N c):u.v=127/\u.lo=1/\kQ N c=some u.cells:=by grind [Aj]
def Um{N:Nat}{c:List Value}{u:om}(h:u∈(List.range c.length).flatMap λoff=>Tt.map λt=>(⟨off*512+t,1+off,iW N (vA t) 0 (c.drop off)⟩:om)):∃ off t,off<c.length/\t∈Tt/\u=⟨off*512+t,1+off,iW N (vA t) 0 (c.drop off)⟩:=by grind
def Tp{t off:Nat}(h:t∈Tt):off*512+t≠127:=by have:=Tq h;omega
def HL{N:Nat}{c:List Value}{off t:Nat}(h:off<c.length)(e:t∈Tt):bY (ru N c) (off*512+t)=some ⟨off*512+t,1+off,iW N (vA t) 0 (c.drop off)⟩:=by
 refine BU (anS _ ?_) rfl ?_
 .simp only[List.mem_flatMap,List.mem_range,anT]
  grind
 .intro u' a b;rcases ajK.1 a with a|a
  .rw[(NZ a).1]at b;exact absurd b.symm (Tp e)
  .obtain⟨o,t',ho,d,rfl⟩:=Um a;simp only at b;have h1:=Tr e;have h2:=Tr d
   grind
def Em{N:Nat}{c:List Value}{l:List V}(h:kQ N c=some l):bY (ru N c) 127=some ⟨127,1,l⟩:=by
 have:Aj N c=[⟨127,1,l⟩]:=by unfold Aj;rw[h]
 unfold ru;rw[this];rfl
def mkS(N:Nat)(W:World):Nat->S
 |0=>⟨.leaf,0⟩
 |n+1=>(mkS N W n).alloc (Gs N W.heap[n]?)
theorem ml(N:Nat)(W:World):∀ n,(mkS N W n).next=n
 |0=>rfl
 |n+1=>by simp only[mkS,S.next_alloc,ml N W n]
theorem zG(N:Nat)(W:World):∀ n f,(mkS N W n).get f=if f<n then some (Gs N W.heap[f]?)else none
 |0,f=>by simp only[mkS,S.get_eq,T.get_leaf];simp
 |n+1,f=>by
  simp only[mkS,S.get_alloc,ml,zG N W n f]
  grind
def dc(W:World):S:=mkS W.heap.size W W.heap.size
def Ax{W:World}{f:Nat}{B:ef}(h:(dc W).get f=some B):f<W.heap.size/\B=Gs W.heap.size W.heap[f]?:=by grind [dc,zG]
def Xq(N:Nat)(o:Option Obj):∃ vs,Gs N o=.ro vs:=by
 unfold Gs;split
 .grind
 grind
def Ow(W:World):HR (Ro W.heap.size) (dc W) W:=by
 refine⟨?_,?_,?_,?_,?_,?_⟩
 .intro f v b;unfold dc at b;rw[ml]at b;simp[Ro,show ¬ f<W.heap.size by omega]
 .intro f v l f' v' l' e h hb;unfold Ro at e h;split at e
  .split at h
   .cases e;cases h;exact⟨hb,rfl⟩
   .cases h
  .cases e
 .intro f v l e;unfold Ro at e;split at e
  .rename_i b;cases e;exact b
  .cases e
 .intro f B hB;obtain⟨b,rfl⟩:=Ax hB;unfold Gs;split
  .rename_i c e fz ho;intro u a;have hr:∀ v,Ro W.heap.size f v=some ⟨f,1,0⟩:=λv=>by simp[Ro,b]
   rcases ajK.1 a with a|a
   .obtain⟨n,d,q⟩:=NZ a;obtain⟨r,s⟩:=DL q;refine⟨⟨⟨f,1,0⟩,c,e,fz,hr _,ho,by simp[d],λi x j=>?_⟩,⟨⟨f,1,0⟩,c,e,fz,hr _,rfl,ho,λ_=>⟨d.symm,by rw[r,anX]⟩⟩⟩;obtain⟨y,w,o⟩:=s i x j;refine⟨y,w,?_⟩;rw[akF]at o;rw[d];simpa using o
   .obtain⟨off,t,hoff,z,rfl⟩:=Um a;refine⟨⟨⟨f,1,0⟩,c,e,fz,hr _,ho,by simp,λi x j=>?_⟩,⟨⟨f,1,0⟩,c,e,fz,hr _,rfl,ho,λk=>absurd k (Tp z)⟩⟩;obtain⟨y,n,d⟩:=DJ 0 _ i x j;refine⟨y,n,?_⟩;rw[aoZ,akF]at d;simp only;rw[show 1+off - 1+i=off+i by omega];exact d
  .intro u a;cases a
 .intro f B hB;have:=(Ax hB).1;unfold dc;rw[ml];exact this
 .intro f B hB F;obtain⟨_,rfl⟩:=Ax hB;obtain⟨vs,k⟩:=Xq W.heap.size W.heap[f]?;exact absurd k (F vs)
def Yt(W:World):WF (dc W):=(Ow W).dom
def jH(N:Nat):List Ck->List Value->List V->Prop
 |[],[],[]=>True
 |k::ks,c::cs,x::xs=>wa N k c=some x/\jH N ks cs xs
 |_,_,_=>False
def jH.get{N:Nat}:∀ {ks:List Ck} {cs:List Value} {l:List V},jH N ks cs l->ks.length=l.length/\cs.length=l.length/\∀(j:Nat) (x:V),l[j]? = some x->∃ y,cs[j]? = some y/\wa N (ks.getD j .bool) y=some x
 |[],[],[],_=>⟨rfl,rfl,λj x h=>by simp at h⟩
 |k::ks,c::cs,x::xs,h=>by
  obtain⟨b,d,e⟩:=jH.get h.2;refine⟨by simp[b],by simp[d],λj z a=>?_⟩;cases j with
  |zero=>simp at a;subst a;exact⟨c,rfl,h.1⟩
  |succ j=>simpa using e j z (by simpa using a)
 |[],[],_::_,h=>h.elim
 |[],_::_,_,h=>h.elim
 |_::_,[],_,h=>h.elim
 |_::_,_::_,[],h=>h.elim
theorem jH.den{N:Nat}:∀ {ks:List Ck} {cs:List Value} {l:List V},jH N ks cs l->br (Ro N) l=some cs
 |[],[],[],_=>rfl
 |k::ks,c::cs,x::xs,h=>by simp only[br,KB h.1,jH.den h.2]
 |[],[],_::_,h=>h.elim
 |[],_::_,_,h=>h.elim
 |_::_,[],_,h=>h.elim
 |_::_,_::_,[],h=>h.elim
def XN{N:Nat}{k:Ck}{v:Value}{x:V}(h:wa N k v=some x):x.one=true:=by
 unfold wa at h;split at h
 .cases h;rfl
 .cases h;rfl
 .cases h;rfl
 .cases h;rfl
 .unfold Lo at h
  (repeat' split at h)<;>first|(cases h;done)|(cases h;rfl)
 .cases h
def jH.one{N:Nat}:∀ {ks:List Ck} {cs:List Value} {l:List V},jH N ks cs l->l.all V.one=true
 |[],[],[],_=>rfl
 |k::ks,c::cs,x::xs,h=>by simp only[aof,XN h.1,jH.one h.2,anQ]
 |[],[],_::_,h=>h.elim
 |[],_::_,_,h=>h.elim
 |_::_,[],_,h=>h.elim
 |_::_,_::_,[],h=>h.elim
def Do{α:Type}{Q:Nat->α->Prop}:∀(n:Nat),(∀ k,k<n->∃ z,Q k z)->∃ xs:List α,xs.length=n/\∀ k z,xs[k]? = some z->Q k z
 |0,_=>⟨[],rfl,λk z h=>by simp at h⟩
 |n+1,h=>by
  obtain⟨xs,a,h2⟩:=Do n λk hk=>h k (by omega);obtain⟨z,hz⟩:=h n (by omega);refine⟨xs++[z],by simp[a],λk y hy=>?_⟩
  grind
section
variable{H:Type}{enc:TypeId×Value->H}{W:World}{fuel:Nat}{t:TypeId}{cs:List Value}{x:DataW H×List MemPlace}
abbrev Td(enc:TypeId×Value->H)(W:World)(fuel:Nat)(t:TypeId)(cs:List Value):Option (DataW H×List MemPlace):=DataW.trod enc Tryz.prog W 0 (λ_=>true) true fuel t cs
def Wt(t:TypeId)(d:DataW H):Prop:=∀ n∈DataW.weights Tryz.prog t d,n<=reachBytes
def ot{e:TypeId}:∀ {ds:List (DataW H)} {d:DataW H},d∈ds->∀ n∈DataW.weights Tryz.prog e d,n∈DataW.weightsAll Tryz.prog e ds
 |[],_,h,_,_=>by cases h
 |x::r,d,h,n,a=>by
  rw[DataW.weightsAll];rcases afS.1 h with rfl|h
  .grind
  .exact anS _ (ot h n a)
def kj:∀ {ts:List TypeId} {ds:List (DataW H)} {i:Nat} {t:TypeId} {d:DataW H},ts[i]? = some t->ds[i]? = some d->∀ n∈DataW.weights Tryz.prog t d,n∈DataW.weightsEach Tryz.prog ts ds
 |[],_,i,_,_,h,_,_,_=>by simp at h
 |_::_,[],i,_,_,_,h,_,_=>by simp at h
 |t::ts,d::ds,0,_,_,h,k,n,a=>by
  simp at h k;subst h;subst k;rw[DataW.weightsEach]
  grind
 |t::ts,d::ds,i+1,_,_,h,k,n,a=>by rw[DataW.weightsEach];exact anS _ (kj (ts:=ts) (ds:=ds) (i:=i) (by simpa using h) (by simpa using k) n a)
def Gz{N:Nat}{t:Nat->Ck}:∀(m i:Nat) (cs:List Value),(∀ j,j<m->∃ y x,cs[j]? = some y/\wa N (t (i+j)) y=some x) ->
 ∀ j,j<m->∀ y x,cs[j]? = some y->wa N (t (i+j)) y=some x->(iW N t i cs)[j]? = some x
 |0,i,cs,_,j,a,_,_,_,_=>by omega
 |m+1,i,[],h,j,a,_,_,e,_=>by simp at e
 |m+1,i,c::cs,h,j,a,y,x,e,k=>by
  obtain⟨y0,x0,b,d⟩:=h 0 (by omega);simp at b;subst b;simp only[anP]at d;simp only[iW,d];cases j with
  |zero =>grind
  |succ j =>
   have ih:=Gz m (i+1) cs (λj a=>by obtain⟨y,x,n,o⟩:=h (j+1) (by omega);exact⟨y,x,by simpa using n,by rw[show i+1+j=i+(j+1)by omega];exact o⟩) j (by omega) y x (by simpa using e) (by rw[show i+1+j=i+(j+1)by omega];exact k)
   simpa using ih
def KU{w:World}{a:Addr}{v:Value}(h:w.cell? a=some v):∃ c e fz,w.heap[a.block]? = some (.cells c e fz)/\a.spot=none/\c[a.off]? = some v:=by
 unfold World.cell? at h;split at h
 .simp_all
 .cases h
def oC:∀(l:List V) (n:Nat),n<=l.length->bA n l=some (l.take n)
 |l,0,_=>by cases l<;>rfl
 |[],n+1,h=>by simp at h
 |x::r,n+1,h=>by simp only[bA,oC r n (by simpa using h),Option.map,aol]
end
def jH.app{N:Nat}:∀ {ks:List Ck} {cs:List Value} {l:List V} {ks':List Ck} {cs':List Value} {l':List V},jH N ks cs l->jH N ks' cs' l'->jH N (ks++ks') (cs++cs') (l++l')
 |[],[],[],_,_,_,_,h=>h
 |k::ks,c::cs,x::xs,_,_,_,h,a=>⟨h.1,jH.app h.2 a⟩
 |[],[],_::_,_,_,_,h,_=>h.elim
 |[],_::_,_,_,_,_,h,_=>h.elim
 |_::_,[],_,_,_,_,h,_=>h.elim
 |_::_,_::_,[],_,_,_,h,_=>h.elim
mutual
def KQ:D->Nat
 |.row _ l=>gV l+1
 |_=>1
def fO:List D->Nat
 |[]=>0
 |d::r=>KQ d+fO r
def gV:List (List D)->Nat
 |[]=>0
 |c::r=>fO c+gV r
end
def KP:∀(a b:List D),fO (a++b)=fO a+fO b
 |[],b=>by simp[fO]
 |d::r,b=>by simp only[ajo,fO,KP r b];omega
def Ba{H:Type}(d:DataW H):1<=Rows.uptoBulk d:=by
 cases d with
 |lit l=>cases l<;>simp[Rows.uptoBulk]
 |nil=>simp[Rows.uptoBulk]
 |ptr d=>simp[Rows.uptoBulk]
 |slice elems spare=>simp[Rows.uptoBulk]
 |agg parts=>simp[Rows.uptoBulk]
 |iface t d=>simp[Rows.uptoBulk]
 |map entries=>simp[Rows.uptoBulk]
 |held h=>simp[Rows.uptoBulk]
def KO{H:Type}:∀(l:List (List D)) (ds:List (DataW H)),l.length=ds.length->(∀(i:Nat) a d,l[i]? = some a->ds[i]? = some d->fO a<=Rows.uptoBulk d)->gV l<=Rows.uptoBulkAll ds
 |[],ds,_,_=>by simp[gV]
 |a::l,[],h,_=>by simp at h
 |a::l,d::ds,h,k=>by have h1:=k 0 a d rfl rfl;have h2:=KO l ds (by simpa using h) λi a d b e=>k (i+1) a d (by simpa using b) (by simpa using e);simp only[gV,Rows.uptoBulkAll];omega
inductive zf:Ck->D->Prop
 |bool (b:Bool):zf .bool (.bool b)
 |int (n:Int):zf .int (.int .i64 n)
 |str (l:List Nat):zf .str (.str l)
 |row (t:Nat) (ly:List Ck) (l:List (List D)):uH t=ly->l.length<2^50->(∀ cs∈l,cs.length=ly.length)->(∀ cs∈l,∀(i:Nat) k d,ly[i]? = some k->cs[i]? = some d->zf k d)->zf (.sl t) (.row ly.length l)
def IG(ks:List Ck)(ds:List D):Prop:=ds.length=ks.length/\∀(i:Nat) k d,ks[i]? = some k->ds[i]? = some d->zf k d
def IG.nil:IG [] []:=⟨rfl,λi k d h=>by simp at h⟩
def IG.one{k:Ck}{d:D}(h:zf k d):IG [k] [d]:=⟨rfl,λi k' d' a b=>by
 cases i with
 |zero=>simp at a b;subst a;subst b;exact h
 |succ i=>simp at a⟩
def IG.app{ks ks':List Ck}{ds ds':List D}(h:IG ks ds)(e:IG ks' ds'):IG (ks++ks') (ds++ds'):=by
 refine⟨by simp[h.1,e.1],λi k d a b=>?_⟩;by_cases hi:i<ks.length
 .rw[afZ hi]at a;rw[afZ (by rw[h.1];exact hi)]at b;exact h.2 i k d a b
 .rw[anH (by omega)]at a;rw[anH (by rw[h.1];omega),h.1]at b;exact e.2 _ k d a b
def g0(W:World):Gh:=⟨[],[],[],dc W⟩
def aew{W:World}{f:Nat}(h:f<W.heap.size):(g0 W).Imm f:=by
 refine⟨?_,?_,λo v h=>?_⟩
 .show f<(dc W).next
  grind [dc,ml]
 .show f∉([]:List Nat);simp
 .have h:([]:List (Option (Nat×Nat)))[o]? = some (some (f,v)):=h;simp at h
section
variable{H:Type}{enc:TypeId×Value->H}{W:World}
def Rd(W:World)(ks:List Ck)(cs:List Value)(b:Nat):Prop:=∃(vs:List V) (ds:List D),jH W.heap.size ks cs vs/\RL (g0 W) ds vs/\IG ks ds/\fO ds<=b
def RL.one{g:Gh}{d:D}{v:V}(h:RD g d v):RL g [d] [v]:=by grind [RL]
def YH{ty e:Nat}{ly:List Ck}{kd:Nat->Ck}(w:uH ty=ly)(hkd:∀ i,kd i=ly.getD (i%ly.length) .bool)(hfv:∀ {N:Nat} {c:List Value} {off:Nat},off<c.length->bY (ru N c) (off*512+ty)=some ⟨off*512+ty,1+off,iW N kd 0 (c.drop off)⟩)(hu:Tryz.prog.underlying ty=some (.slice e))(hc:Tryz.prog.cellsOf e=ly.length)
 (h0:0<ly.length) (hb:0<Tryz.prog.bytesOf e) {fuel:Nat} {cs:List Value} {x:DataW H×List MemPlace} (h:Td enc W fuel ty cs=some x) (hw:Wt ty x.1)
 (hel:∀ n cells y,fuel=n+1->Td enc W n e cells=some y->Wt e y.1->Rd W ly cells (Rows.uptoBulk y.1)):Rd W [.sl ty] cs (Rows.uptoBulk x.1):=by
 rcases DataW.trod_slice hu h with⟨rfl,_⟩|⟨a,len,cap,elems,rest,n,hn,rfl,hx,_,O,_,U,F,hsp,_⟩
 .exact⟨[.nilslice],[.row ly.length []],⟨rfl,trivial⟩,RL.one (by rw[RD];exact .inl ⟨rfl,rfl⟩),.one (.row ty ly [] w (by simp) (λ_ h=>by cases h) (λ_ h=>by cases h)),by simpa[fO,KQ,gV]using Ba x.1⟩
 .subst hn;by_cases G:cap=0
  .obtain rfl:len=0:=by omega
   subst G;exact⟨[.slice ⟨a.block,LK a.spot,a.off⟩ 0 0 (some 0) 0],[.row ly.length []],⟨by simp only[wa,Lo,apn,and_self],trivial⟩,RL.one (by rw[RD];exact .inr (.inl ⟨rfl,_,_,_,rfl⟩)),.one (.row ty ly [] w (by simp) (λ_ h=>by cases h) (λ_ h=>by cases h)),by simpa[fO,KQ,gV]using Ba x.1⟩
  .obtain⟨hrl,hre⟩:=hsp rfl;have hwe:∀ y,y∈elems->Wt e y.1:=λy hy m hm=>by refine hw m ?_;rw[hx];simp only[DataW.weights,hu];exact acl _ (aoa _ (ot (List.mem_map_of_mem hy) m hm))
   have hbn:len*Tryz.prog.bytesOf e<=reachBytes:=by
    have:=hw ((elems.length+rest.length)*Tryz.prog.bytesOf e) (by rw[hx];simp only[DataW.weights,hu,abh];exact adN)
    grind
   have hfirst:∃ cells,W.cells? 0 (a.add 0) ly.length=some cells:=by
    by_cases r:0<len
    .have:=F 0 r;rw[apo,hc,abI (by omega)]at this;obtain⟨cells,o,_⟩:=aoy.1 this
     grind
    .have:=hre 0 (by omega);rw[show(len+0)*Tryz.prog.cellsOf e=0 by rw[show len=0 by omega];simp,hc,abI (by omega)]at this;obtain⟨cells,o,_⟩:=aoy.1 this
     grind
   obtain⟨c0,hc0⟩:=hfirst;obtain⟨_,hc1,hc2⟩:=World.cells?_some hc0;have hcell:=hc2 0 h0;rw[abI (by omega)]at hcell;simp only[Addr.add,apn]at hcell;obtain⟨carr,e',fz,hheap,hspot,hcell⟩:=KU hcell;obtain⟨b,off,spot⟩:=a;simp only at hspot hheap hcell;subst hspot;have s:b<W.heap.size:=by grind
   have X:off<carr.size:=(aoR.1 hcell).1
   obtain⟨zs,u,Y⟩:=Do (Q:=λk (z:List D×List V)=>∃ cells,W.cells? 0 ((⟨b,off,none⟩:Addr).add (k*ly.length)) ly.length=some cells/\jH W.heap.size ly cells z.2/\RL (g0 W) z.1 z.2/\IG ly z.1/\∀ y,elems[k]? = some y->fO z.1<=Rows.uptoBulk y.1) len (λk hk=>by have:=F k hk;rw[hc,abI (by omega)]at this;obtain⟨cells,o,v⟩:=aoy.1 this;obtain⟨l,z,q,Z,h6,h7⟩:=hel n cells _ rfl v (hwe _ (aoP _));exact⟨(z,l),cells,o,q,Z,h6,λy hy=>by rw[abI (by omega)]at hy;cases hy;exact h7⟩)
   have hcellat:∀ k,k<len->∀ cells,W.cells? 0 ((⟨b,off,none⟩:Addr).add (k*ly.length)) ly.length=some cells->∀ i,i<ly.length->carr.toList[off+(k*ly.length+i)]? = cells[i]?:=λk hk cells hcl i hi=>by
    obtain⟨_,r,o⟩:=World.cells?_some hcl;have v:=o i hi;have q:((⟨b,off,none⟩:Addr).add (k*ly.length)).add i=⟨b,off+(k*ly.length+i),none⟩:=by
     simp only[Addr.add];by_cases hk0:k*ly.length=0
     .simp_all
     .by_cases hi0:i=0
      .simp_all
      .simp[hk0,hi0];omega
    rw[q]at v;simp only[World.cell?,hheap]at v
    grind
   have I:∀ k,k<len->∀ cells l,W.cells? 0 ((⟨b,off,none⟩:Addr).add (k*ly.length)) ly.length=some cells->jH W.heap.size ly cells l->∀ i,i<ly.length->∃ y x,(carr.toList.drop off)[k*ly.length+i]? = some y/\l[i]? = some x/\wa W.heap.size (kd (0+(k*ly.length+i))) y=some x:=λk hk cells l hcl hab i hi=>by
    obtain⟨r,o,v⟩:=jH.get hab;have hi':i<l.length:=by omega
    obtain⟨y,hy1,hy2⟩:=v i l[i] (abI hi');refine⟨y,l[i],?_,abI hi',?_⟩
    .grind
    .rw[hkd,afY,Nat.add_comm,Nat.add_mul_mod_self_right,Nat.mod_eq_of_lt hi];exact hy2
   have hall:∀ j,j<len*ly.length->∃ y x,(carr.toList.drop off)[j]? = some y/\wa W.heap.size (kd (0+j)) y=some x:=λj hj=>by
    have hk:j / ly.length<len:=Nat.div_lt_of_lt_mul (by rw[Nat.mul_comm];exact hj);obtain⟨cells,r,o,_⟩:=Y (j / ly.length) _ (abI (by omega));obtain⟨y,x,v,_,q⟩:=I _ hk cells _ r o (j%ly.length) (Nat.mod_lt _ h0)
    grind [Nat.div_add_mod]
   have hn50:len<2^50:=by have:len<=reachBytes:=akG (Nat.le_mul_of_pos_right _ hb) hbn;unfold reachBytes at this;omega
   refine⟨[.slice ⟨b,off*512+ty,1+off⟩ 0 len (some cap) ly.length],[.row ly.length (zs.map (·.1))],⟨by simp only[wa,Lo];rw[ajD G,w,akJ ⟨trivial,O,s,h0⟩],trivial⟩,RL.one ?_,.one (.row ty ly _ w (by simp[u,hn50]) ?_ ?_),?_⟩
   .rw[RD];refine .inr (.inr ⟨⟨b,off*512+ty,1+off⟩,0,some cap,by simp[u],h0,.inl rfl,λc hc=>by cases hc;simp[u,O],λ_=>aew s,RR.of λk l0 hk=>?_⟩);rw[aiE]at hk;obtain⟨z,hkz,hz0⟩:∃ z,zs[k]? = some z/\z.1=l0:=by simp_all
    have hkl:k<len:=by rw[<- u];exact(acy.1 hkz).1
    obtain⟨cells,r,o,v,q,_⟩:=Y k z hkz;obtain⟨_,l⟩:=z;simp only at hz0 o v q;subst hz0;refine⟨l,q.1,?_,v,o.one⟩;have hg:(dc W).get b=some (.ro (ru W.heap.size carr.toList)):=by unfold dc;rw[zG,akJ s,hheap];rfl
    show Go.AI.loadCells (dc W) (cV ⟨b,off*512+ty,1+off⟩ (k*ly.length)) ly.length=some l;simp only[Go.AI.loadCells,cV,hg,hfv (N:=W.heap.size) (c:=carr.toList) (off:=off) (by simpa using X)];rw[acw (show 1+off<=1+off+k*ly.length by omega),ge,show 1+off+k*ly.length - (1+off)=k*ly.length by omega];obtain⟨k1,k2,k3⟩:=jH.get o;have J:∀ i,i<ly.length->((iW W.heap.size kd 0 (carr.toList.drop off)).drop (k*ly.length))[i]? = l[i]?:=λi hi=>by
     obtain⟨y,x,q,Z,h6⟩:=I k hkl cells l r o i hi;rw[aoZ,Z];refine Gz (len*ly.length) 0 _ hall _ ?_ y x q h6
     calc k*ly.length+i<k*ly.length+ly.length:=by omega
      _=(k+1)*ly.length:=by rw[Nat.succ_mul]
      _<=len*ly.length:=aoT _ hkl
    have hlen2:ly.length<=((iW W.heap.size kd 0 (carr.toList.drop off)).drop (k*ly.length)).length:=by
     have:=J (ly.length - 1) (by omega)
     grind
    rw[oC _ _ hlen2];refine anL some ?_;refine aoC λi=>?_;by_cases hi:i<ly.length
    .rw[aob hi,J i hi]
    .rw[aoF (by rw[ajQ];omega),aoF (by omega)]
   .intro cs L;obtain⟨z,M,rfl⟩:=anT.1 L;obtain⟨k,hk,rfl⟩:=List.mem_iff_getElem.1 M;obtain⟨_,_,_,_,q,_⟩:=Y k _ (abI hk);exact q.1
   .intro cs L;obtain⟨z,M,rfl⟩:=anT.1 L;obtain⟨k,hk,rfl⟩:=List.mem_iff_getElem.1 M;obtain⟨_,_,_,_,q,_⟩:=Y k _ (abI hk);exact q.2
   .have:=KO (zs.map (·.1)) (elems.map (·.1)) (by simp[u,U]) λi a d e1 e2=>by
     rw[aiE]at e1 e2;cases r:zs[i]? with
     |none=>rw[r]at e1;cases e1
     |some z =>
      cases o:elems[i]? with
      |none=>rw[o]at e2;cases e2
      |some y =>rw[r]at e1;rw[o]at e2;cases e1;cases e2;obtain⟨_,_,_,_,_,Z⟩:=Y i z r;exact Z y o
    rw[hx];simp only[fO,KQ,Rows.uptoBulk];omega
def OR{m:Nat}{P:TypeId->List Value->DataW H->Prop}{cs:List Value}(d:∀ t ks c y,MP m t=some ks->Tryz.prog.cellsOf t=ks.length->P t c y->Rd W ks c (Rows.uptoBulk y)):∀(fs:List Field) (ys:List (DataW H)) (off:Nat) (ks:List Ck),VN Tryz.prog (MQ Tryz.prog m) fs off=some ks->fs.length=ys.length ->
 (∀(i:Nat) f y,fs[i]? = some f->ys[i]? = some y->P f.type ((cs.drop f.offset).take (Tryz.prog.cellsOf f.type)) y)->Rd W ks ((cs.drop off).take ks.length) (Rows.uptoBulkAll ys)
 |[],ys,off,ks,h,_,_=>by simp only[VN,acf]at h;subst h;exact⟨[],[],by simp[jH],by simp only[RL],.nil,by simp[fO]⟩
 |f::r,[],off,ks,_,hl,_=>by simp at hl
 |f::r,y::ys,off,ks,h,a,e=>by
  simp only[VN]at h;cases ho:Nat.beq f.offset off with
  |false=>rw[ho,Xi]at h;cases h
  |true =>
   rw[ho,ge]at h;have ho:=abj ho;split at h
   .rename_i l hl;cases hc:Nat.beq l.length (Tryz.prog.cellsOf f.type)with
    |false=>rw[hc,Xi]at h;cases h
    |true =>
     rw[hc,ge]at h;have hc:=abj hc;split at h
     .rename_i b hm;cases h;obtain⟨v1,j,k,n,o,a4⟩:=d f.type l _ y hl hc.symm (e 0 f y rfl rfl);obtain⟨v2,q,s,u,v,b4⟩:=OR d r ys (off+l.length) b hm (by simpa using a) λi g z w F=>e (i+1) g z (by simpa using w) (by simpa using F);refine⟨v1++v2,j++q,?_,RL.append n u,o.app v,by rw[KP];simp only[Rows.uptoBulkAll];omega⟩;have:(cs.drop off).take (l++b).length=(cs.drop f.offset).take (Tryz.prog.cellsOf f.type)++(cs.drop (off+l.length)).take b.length:=by rw[ho,<- hc,abg,<- apI,<- List.take_add]
      rw[this];exact k.app s
     .cases h
   .cases h
def adg:∀(N m:Nat) {fuel:Nat} {t:TypeId} {cs:List Value} {ks:List Ck} {x:DataW H×List MemPlace},fuel<=N->MP m t=some ks->Tryz.prog.cellsOf t=ks.length->Td enc W fuel t cs=some x->Wt t x.1->Rd W ks cs (Rows.uptoBulk x.1):=by
 intro N;induction N with
 |zero =>
  intro m fuel t cs ks x X _ _ h _;obtain rfl:fuel=0:=by omega
  simp[Td,DataW.trod]at h
 |succ N ih =>
  intro m fuel t cs ks x X hk hcl h L;cases m with
  |zero=>change MQ Tryz.prog 0 t=_ at hk;rw[MQ]at hk;cases hk
  |succ m =>
   change MQ Tryz.prog (m+1) t=_ at hk;rw[MQ]at hk;split at hk
   .rename_i j;cases hk;obtain⟨b,rfl,_⟩:=DataW.trod_bool j h;exact⟨[.bool b],[.bool b],⟨rfl,trivial⟩,RL.one (by simp only[RD]),.one (.bool b),by simpa[fO,KQ]using Ba x.1⟩
   .rename_i j;cases hk;obtain⟨n,rfl,_⟩:=DataW.trod_int j h;exact⟨[.int .i64 n],[.int .i64 n],⟨rfl,trivial⟩,RL.one (by simp only[RD]),.one (.int n),by simpa[fO,KQ]using Ba x.1⟩
   .rename_i j;cases hk;obtain⟨s,rfl,_⟩:=DataW.trod_string j h;exact⟨[.str (bytesOf s)],[.str (bytesOf s)],⟨rfl,trivial⟩,RL.one (by simp only[RD];exact⟨trivial,Xl s⟩),.one (.str _),by simpa[fO,KQ]using Ba x.1⟩
   .rename_i e j;cases hc:Tt.contains t with
    |false=>rw[hc,Xi]at hk;cases hk
    |true =>
     rw[hc,ge]at hk;cases hk;have o:t∈Tt:=by simpa using hc
     have a:=anN.1 TD t o;simp only[abk]at a;have a:=a.2;unfold okT at a;rw[j]at a;simp only at a;have k:uH t=(MP 8 e).getD []:=by unfold uH;rw[j]
     split at a
     .rename_i l M;rw[M]at k;have k:uH t=l:=k;simp only[abk]at a;obtain⟨w,u,k3,F⟩:=a;have w:0<l.length:=apj (act w);have u:=abj u;have F:0<Tryz.prog.bytesOf e:=apj (act F);exact YH (kd:=vA t) k (λi=>by unfold vA;rw[k]) (λh=>HL h o) j u w F h L λn cells y O hy G=>ih 8 (by omega) M u hy G
     .cases a
   .rename_i fs j;obtain⟨xs,n,hn,Q,hl,I,O⟩:=DataW.trod_struct j h
    have hr:=OR (W:=W) (m:=m) (cs:=cs) (P:=λt c y=>∃ z,Td enc W n t c=some z/\z.1=y/\Wt t z.1) (λt ks c y J h0 ⟨z,Y,Z,h3⟩=>by rw[<- Z];exact ih m (by omega) J h0 Y h3) fs.toList (xs.map (·.1)) 0 ks hk (by simp[I]) (λi f y e1 r=>by
     have U:fs[i]? = some f:=by rw[<- akF];exact e1
     rw[aiE]at r;cases v:xs[i]? with
     |none=>rw[v]at r;cases r
     |some z =>
      rw[v]at r;cases r;refine⟨z,(O i f U).trans v,rfl,λq hq=>L q ?_⟩;rw[Q];simp only[DataW.weights,j];refine kj (i:=i) (t:=f.type) (d:=z.1) ?_ ?_ q hq
      .rw[aiE,akF,U];rfl
      .rw[aiE,v];rfl)
    rw[aoi,aog (by omega)]at hr;obtain⟨vs,ds,r1,r2,r3,r4⟩:=hr;exact⟨vs,ds,r1,r2,r3,by rw[Q];simp only[Rows.uptoBulk];omega⟩
   .cases hk
end
end Go.Proofs.YtpghiabjaglpgaaGreatDoor.Rd
namespace Go.AI
def Ib(E:dr)(n:Nat):Tm E (eW E) n=eW E:=@Kz ⟨λ_=>True,[],λ_ _ _ h=>h⟩ E n
def Ns(E:dr)(j:EE)(H:DH):eW E j H=sM E (eW E) (Ta (eW E)) j H:=@Qp ⟨λ_=>True,[],λ_ _ _ h=>h⟩ E j H
def wA(key:Nat):Code->List Item->Option (List Item)
 |.seq a b,k=>Ei key (.code (.seq a b)::k) (match wA key a (.code b::k)with
  |some l=>some l
  |none=>wA key b k)
 |.cond c a b,k=>Ei key (.code (.cond c a b)::k) (match wA key a k with
  |some l=>some l
  |none=>wA key b k)
 |.block id c,k=>Ei key (.code (.block id c)::k) (wA key c (.inBlock id::k))
 |.loop c,k=>Ei key (.code (.loop c)::k) (wA key c (.inLoop c::k))
 |.scope c,k=>Ei key (.code (.scope c)::k) (wA key c (.inScope c::k))
 |c,k=>Ei key (.code c::k) none
 where Ei (key:Nat) (l:List Item) (r:Option (List Item)):Option (List Item):=match abP l with
  |some i=>bif Nat.beq i key then some l else r
  |none=>r
def jmp(E:dr)(R:aJ)(f key:Nat)(xs:List LD)(L:LS)(H:DH):av:=match E.E.P.funcs[f]? with
 |some fn=>match fn.body with
  |some c=>match wA key c []with
   |some todo=>match ace (E.ann f) todo with
    |some (live,_)=>R (.frame f fn (mkT live xs .leaf) L todo [] .run none) H
    |none=>none
   |none=>none
  |none=>none
 |none=>none
def ZE(E:dr)(R:aJ)(n f key:Nat)(xs:List LD)(L:LS)(H:DH):av:=jmp E (Tm E R n) f key xs L H
def ZD(E:dr)(n f key:Nat)(xs:List LD)(L:LS)(H:DH):ZE E (eW E) n f key xs L H=jmp E (eW E) f key xs L H:=by rw[ZE,Ib]
def C(R:aJ)(f:FuncId)(args:List D)(H:DH)(k:D->DH->av):av:=bd (R (.call f args none) H) k λc H=>some ⟨.pan c,none,H⟩
def tZ:Code->Option (Array Tmp×Code×Code)
 |.rangeFunc _ ps a b=>some (ps,a,b)
 |.seq a b=>(tZ a).or (tZ b)
 |.cond _ a b=>(tZ a).or (tZ b)
 |.block _ c=>tZ c
 |.loop c=>tZ c
 |.scope c=>tZ c
 |_=>none
def adO(E:dr)(f:FuncId)(is:List Nat)(xs:List LD):DB:=match E.E.P.funcs[f]? with
 |some fn=>match fn.body with
  |some c=>match tZ c with
   |some (ps,a,b)=>.loop true f fn.ntmps (mkT is xs .leaf) ps a b
   |none=>.dead
  |none=>.dead
 |none=>.dead
def rnd(E:dr)(R:aJ)(f o:Nat)(is:List Nat)(xs:List LD)(args:List D)(H:DH):av:=match E.E.P.funcs[f]? with
 |some fn=>match fn.body with
  |some c=>match tZ c with
   |some (ps,a,b)=>R (.frame f fn (mW (mkT is xs .leaf) ps.toList args id) [] [.code a,.beginRound,.code b] [] .run (some (.round o))) H
   |none=>none
  |none=>none
 |none=>none
def adb(E:dr)(R:aJ)(n f o:Nat)(is:List Nat)(xs:List LD)(args:List D)(H:DH):av:=rnd E (Tm E R n) f o is xs args H
def fH(E:dX)(f:D)(κ:FuncId->List D->List D->av):av:=match f with
 |.func g a b=>bif aV E g then κ g a b else none
 |_=>none
abbrev ret(d:D)(H:DH):av:=some ⟨.ret d,none,H⟩
abbrev pan(d:D)(H:DH):av:=some ⟨.pan [⟨d,false⟩],none,H⟩
def gF(s:S)(g:Nat):Option (List V):=match s.get g with
 |some (.ro vers)=>match bY vers 127 with
  |some u=>some u.cells
  |none=>none
 |_=>none
end Go.AI
namespace Go.Proofs.YtpghiabjaglpgaaGreatDoor
open Go.AI
def aah(n:Int):ByteArray:=⟨(Lib.replace (Lib.itoa n) [45] [126] 1).toArray⟩
def Ea(s:ByteArray):ByteArray:=⟨(Lib.replace s.data.toList [126] [45] 1).toArray⟩
def rG(s:ByteArray):Int×Int:=match Lib.atoiAll (Ea s).data.toList with
 |.ok v=>bif (aah v).toList==s.toList then(v,0)else(0,13)
 |_=>(0,13)
def zR:List V->Bool
 |[.nilIface]=>true
 |[.iface _ _]=>true
 |_=>false
def PR:List V->Bool
 |[.int .i64 _]=>true
 |_=>false
def Jo:List V:=Lib.pow10Tab.map λz=>.int .u64 z
structure wd(s:S):Prop where
 mx:∃ c,gF s 0=some c/\PR c=true
 syn:∃ c,gF s 1=some c/\zR c=true
 rng:∃ c,gF s 2=some c/\zR c=true
 pow:gF s 5=some Jo
open Classical in
def Bh(args:List V)(s:S):Option (V×S):=match args with
 |[.str l]=>if wd s/\l.length<=1000 then some (.tuple [.int .i64 (rG (aR l)).1,.int .i64 (rG (aR l)).2],s)else none
 |_=>none
def yQ:List Nat->Nat->Int->Int
 |[],_,_=>-1
 |x::r,c,n=>bif Nat.beq x c then n else yQ r c (n+1)
def BF(args:List V)(s:S):Option (V×S):=match args with
 |[.str l,.int .u8 (.ofNat c)]=>bif Nat.blt c 256&&l.all (λx=>Nat.blt x 256)then some (.int .i64 (yQ l c 0),s)else none
 |_=>none
def afm(f:FuncId)(args:List D)(H:DH):Option (D×DH) :=
 bif Nat.beq f 351 then(match args with
  |[.str l,.int .u8 (.ofNat c)]=>bif Nat.blt c 256&&Nat.ble l.length 1000 then some (.int .i64 (yQ l c 0),H)else none
  |_=>none)
 else bif Nat.beq f 355 then(match args with
  |[.str l]=>bif Nat.ble l.length 1000 then some (.tuple [.int .i64 (rG (aR l)).1,.int .i64 (rG (aR l)).2],H)else none
  |_=>none)
 else bif Nat.beq f 9 then(match args with
  |[]=>some (.bool true,H)
  |_=>none)
 else none
def dvo(f:FuncId):Bool:=Nat.beq f 355||(Nat.beq f 9||Nat.beq f 351)
def vM(f:FuncId)(args:List V)(s:S):Option (V×S) :=
 bif Nat.beq f 351 then BF args s else bif Nat.beq f 355 then Bh args s else bif Nat.beq f 9 then(match args with
  |[]=>some (.bool true,s)
  |_=>none)else none
def bF:dX:={ P:=Tryz.prog,ext:=λf=>bif Nat.beq f 363 then some .indexByte else bif Nat.beq f 380 then some .count else none,orc:=vM }
end Go.Proofs.YtpghiabjaglpgaaGreatDoor
namespace Go.Proofs.YtpghiabjaglpgaaGreatDoor.Rd
section
open Go.AI Go.Proofs Go.Proofs.YtpghiabjaglpgaaGreatDoor
def sC{W:World}{g:Nat}{c:Array Value}{e:TypeId}{fz:Nat×Nat}{l:List V}(h:W.heap[g]? = some (.cells c e fz))(ha:kQ W.heap.size c.toList=some l):gF (dc W) g=some l:=by
 have a:g<W.heap.size:=(aoR.1 h).1;have hst:(dc W).get g=some (.ro (ru W.heap.size c.toList)):=by unfold dc;rw[zG,akJ a,h];rfl
 simp_all[gF,Em]
def DK{N:Nat}:∀(l:List Int),kQ N (l.map λz=>Value.int .u64 z)=some (l.map λz=>V.int .u64 z)
 |[]=>rfl
 |x::r=>by simp only[ads,kQ,ST,DK r]
structure Rj(W:World):Prop where
 mx:∃ m e fz,W.heap[0]? = some (.cells #[.int .i64 m] e fz)
 syn:∃ te b off e fz,W.heap[1]? = some (.cells #[.iface te (.pointer (some ⟨b,off,none⟩))] e fz)/\b<W.heap.size
 rng:∃ te b off e fz,W.heap[2]? = some (.cells #[.iface te (.pointer (some ⟨b,off,none⟩))] e fz)/\b<W.heap.size
 pow:∃ c e fz,W.heap[5]? = some (.cells c e fz)/\c.toList=Lib.pow10Tab.map λz=>Value.int .u64 z
def Sd{W:World}(h:Rj W):wd (dc W):=by obtain⟨⟨m,e1,f1,a⟩,⟨b,d,e,e2,f2,i,j⟩,⟨k,n,o,e3,f3,q,r⟩,⟨c,e4,f4,s,u⟩⟩:=h;refine⟨⟨[.int .i64 m],sC a rfl,rfl⟩,⟨[.iface b (.ptr ⟨d,0,1+e⟩)],sC i (by simp[kQ,ST,j]),rfl⟩,⟨[.iface k (.ptr ⟨n,0,1+o⟩)],sC q (by simp[kQ,ST,r]),rfl⟩,sC s (by rw[u];exact DK _)⟩
end
section
open Go.AI Go.Proofs Go.Proofs.YtpghiabjaglpgaaGreatDoor Go.ChangeShapes
section
variable{W:World}{t:TypeId}{fuel:Nat}{cs:List Value}{ps:List MemPlace}
abbrev Tl(W:World)(fuel:Nat)(t:TypeId)(cs:List Value):Option (DataW Unit×List MemPlace):=DataW.trod (λ_=>()) Tryz.prog W 0 (λ_=>true) false fuel t cs
def acG{e n:Nat}{l:List Int}(o:Tryz.prog.underlying t=some (.array n e))(q:Tryz.prog.underlying e=some (.int .u64))(hc:Tryz.prog.cellsOf e=1)(a:Tryz.prog.cellsOf t=n)(h:Tl W fuel t cs=some (.agg (l.map λz=>.lit (.int .u64 z)),ps)) :
 cs=l.map λz=>Value.int .u64 z:=by
 obtain⟨xs,m,_,hx,hl,hxl,b⟩:=DataW.trod_array o h;have hm:xs.map (·.1)=l.map λz=>DataW.lit (.int .u64 z):=by grind
 have hll:l.length=n:=by grind [List.length_map]
 rw[a]at hl;refine List.ext_getElem (by rw[abh];omega) λi hi d=>?_;rw[abh]at d;have k:=b i (by omega);rw[hc,Nat.mul_one,apq hi,aol,List.take_zero,abI (by omega)]at k;obtain⟨z,r,s,_⟩:=DataW.trod_int q k;have j:(xs.map (·.1))[i]'(by rw[abh];omega)=(l.map λz=>DataW.lit (H:=Unit) (.int .u64 z))[i]'(by rw[abh];omega):=by simp only[hm]
 rw[List.getElem_map,List.getElem_map,s]at j;simp only[DataW.lit.injEq,Lit.int.injEq,aoU]at j;rw[List.getElem_map,<- j];simpa using r
end
section
variable{W:World}{t:TypeId}{fuel:Nat}{cs:List Value}{ps:List MemPlace}
def UY{s:List UInt8}(h:Tl W fuel t []=some (.lit (.string s),ps)):False:=by
 cases fuel with
 |zero=>simp[Tl,DataW.trod]at h
 |succ n =>unfold Tl DataW.trod at h;split at h<;>simp_all
def adw{s:List UInt8}(h:Tl W fuel t []=some (.agg [.lit (.string s)],ps)):False:=by
 cases i:Tryz.prog.underlying t with
 |none =>
  cases fuel with
  |zero=>simp[Tl,DataW.trod]at h
  |succ n=>unfold Tl DataW.trod at h;rw[i]at h;simp at h
 |some d =>
  cases d with
  |struct fs =>
   obtain⟨xs,n,_,o,_,hl,j⟩:=DataW.trod_struct i h;have a:xs.map (·.1)=[.lit (.string s)]:=by grind
   obtain⟨x,rfl⟩:∃ x,xs=[x]:=List.length_eq_one_iff.1 (by have:=anL List.length a;simpa using this);have k:0<fs.size:=by simp at hl;omega
   have b:=j 0 fs[0] (anY k);simp only[List.drop_nil,List.take_nil,aox]at b;simp at a;exact UY (W:=W) (s:=s) (ps:=x.2) (by unfold Tl;rw[b,<- a])
  |array m e =>
   obtain⟨xs,n,_,o,_,hl,j⟩:=DataW.trod_array i h;have a:xs.map (·.1)=[.lit (.string s)]:=by grind
   obtain⟨x,rfl⟩:∃ x,xs=[x]:=List.length_eq_one_iff.1 (by have:=anL List.length a;simpa using this);have k:0<m:=by simp at hl;omega
   have b:=j 0 k;simp only[List.drop_nil,List.take_nil,aox]at b;simp at a;exact UY (W:=W) (s:=s) (ps:=x.2) (by unfold Tl;rw[b,<- a])
  |_ =>
   cases fuel with
   |zero=>simp[Tl,DataW.trod]at h
   |succ n=>unfold Tl DataW.trod at h;rw[i]at h;simp at h
def adj{s:List UInt8}(h:Tl W fuel t cs=some (.ptr (.agg [.lit (.string s)]),ps)):∃ a,cs=[.pointer (some a)]/\a.spot=none/\a.block<W.heap.size/\∃ e,Tryz.prog.underlying t=some (.pointer e):=by
 have key:∃ e,Tryz.prog.underlying t=some (.pointer e):=by
  cases fuel with
  |zero=>simp[Tl,DataW.trod]at h
  |succ n =>
   unfold Tl DataW.trod at h;split at h<;>simp_all
   all_goals first
    |(simp[aoy,apd]at h;done)
    |(split at h<;>simp[aoy,apd]at h;done)
    |(repeat' split at h)<;>simp_all[aoy,apd]
 obtain⟨e,i⟩:=key;rcases DataW.trod_pointer i h with⟨_,j⟩|⟨a,cs',y,n,_,rfl,j,k,o⟩
 .simp at j
 .have hy:y.1=.agg [.lit (.string s)]:=by grind
  have b:cs'≠[]:=λq=>by subst q;exact adw (W:=W) (s:=s) (ps:=y.2) (by unfold Tl;rw[o,<- hy])
  obtain⟨_,hc1,d⟩:=World.cells?_some k;have h0:0<cs'.length:=List.length_pos_iff.2 b;have hcell:=d 0 (by omega);rw[abI h0]at hcell;obtain⟨c,e',fz,r,u,h6⟩:=KU hcell;refine⟨a,rfl,?_,?_,e,i⟩
  .simpa[Addr.add]using u
  .have:=(aoR.1 r).1;simpa[Addr.add]using this
def Wd{name:String}{ms:Array (String×TypeId)}{s:List UInt8}(d:Tryz.prog.underlying t=some (.interface ms))(h:Tl W fuel t cs=some (.iface name (.ptr (.agg [.lit (.string s)])),ps)) :
 ∃ u v a,cs=[.iface u v]/\v.cells.toList=[.pointer (some a)]/\a.spot=none/\a.block<W.heap.size/\∃ e,Tryz.prog.underlying u=some (.pointer e):=by
 cases fuel with
 |zero=>simp[Tl,DataW.trod]at h
 |succ n =>
  unfold Tl DataW.trod at h;rw[d]at h;split at h<;>simp_all;rename_i u v _;split at h
  .cases h
  .simp only[apd]at h;obtain⟨y,hy,b⟩:=h;simp only[aoz,DataW.iface.injEq]at b;obtain⟨a,i,j,k,o⟩:=adj (W:=W) (s:=s) (ps:=y.2) (by unfold Tl;rw[hy,<- b.1.2]);exact⟨u,v,⟨rfl,rfl⟩,a,i,j,k,o⟩
  .cases h
end
end
section
open Go.AI Go.Proofs Go.Proofs.YtpghiabjaglpgaaGreatDoor Go.ChangeShapes
set_option maxRecDepth 10000
def Bx{P:Program}{w:World}:∀ {l:List (String×DataW Unit)} {ps:List MemPlace} {n:String} {d:DataW Unit},DataW.LaidVars P w l ps->(n,d)∈l ->
 ∃ g t cs fuel p,P.globalNamed n=some g/\(P.globals[g]?).map (·.type)=some t/\w.var? P n=some cs/\DataW.trod (λ_=>()) P w 0 (λ_=>true) false fuel t cs.toList=some (d,p)/\∀ x∈MemPlace.row ⟨g,0,none⟩ cs.size++p,x∈ps
 |[],ps,n,d,_,h=>by cases h
 |(m,c)::r,ps,n,d,hl,h=>by
  obtain⟨g,t,cs,fuel,p,q,e1,e2,e3,e4,hr,rfl⟩:=hl;rcases afS.1 h with h|h
  .grind
  .obtain⟨g',t',cs',fuel',p',a,b,c',d',e⟩:=Bx hr h
   grind
def EH{P:Program}{w:World}{n:String}{g:Nat}{cs:Array Value}(hg:P.globalNamed n=some g)(h:w.var? P n=some cs):∃ e fz,w.heap[g]? = some (.cells cs e fz):=by
 unfold World.var? at h
 grind
def Wj:Tryz.prog.globalNamed "internal/strconv.uint64pow10" = some 5:=by kernel_rfl
def aet:Tryz.prog.globalNamed "strconv.ErrSyntax" = some 1:=by kernel_rfl
def aeu:Tryz.prog.globalNamed "strconv.ErrRange" = some 2:=by kernel_rfl
def Qk{W:World}{l:List (String×DataW Unit)}{n:String}{g:Nat}{t:TypeId}{name:String}{ms:Array (String×TypeId)}{s:List UInt8}(hl:laidMet Tryz.prog l W)(hm:(n,.iface name (.ptr (.agg [.lit (.string s)])))∈l)
 (r:Tryz.prog.globalNamed n=some g) (I:(Tryz.prog.globals[g]?).map (·.type)=some t) (J:Tryz.prog.underlying t=some (.interface ms)) :
 ∃ te b off e fz,W.heap[g]? = some (.cells #[.iface te (.pointer (some ⟨b,off,none⟩))] e fz)/\b<W.heap.size:=by
 obtain⟨ps,L,_,h⟩:=hl;obtain⟨g',t',cs,fuel,p,w,z,M,N,O⟩:=Bx L hm;rw[r]at w;cases w;rw[I]at z;cases z;obtain⟨e,fz,Q⟩:=EH r M;obtain⟨u,v,a,h1,U,F,G,e',j⟩:=Wd J N;have k:cs=#[.iface u v]:=by grind
 subst k;have hcell:W.cell? ⟨g,0,none⟩=some (.iface u v):=by
  unfold World.cell?
  grind
 have o:MemPlace.cell g 0∈MemPlace.row ⟨g,0,none⟩ (#[Value.iface u v]).size:=by
  unfold MemPlace.row
  grind
 have i:=O _ (aoa _ o);have d:=(h g 0 i).2 u v hcell;have q:v=.pointer (some a):=by
  unfold Value.okWide at d;rw[j]at d;simp only[]at d;unfold Cell.okWide at d;rw[j]at d;cases v with
  |agg c=>simp only[Value.cells]at U;simp[Cell.ok,j]at d
  |_=>simp_all[Value.cells]
 subst q;obtain⟨b,off,spot⟩:=a;simp only at F G;subst F;exact⟨u,b,off,e,fz,Q,G⟩
def aes:(Tryz.prog.globals[5]?).map (·.type)=some 452:=by kernel_rfl
def aeq:(Tryz.prog.globals[1]?).map (·.type)=some 402:=by kernel_rfl
def aer:(Tryz.prog.globals[2]?).map (·.type)=some 402:=by kernel_rfl
def acJ{W:World}(hl:laidMet Tryz.prog Rows.stepNumbersUptoRow.laid W):∃ te b off e fz,W.heap[1]? = some (.cells #[.iface te (.pointer (some ⟨b,off,none⟩))] e fz)/\b<W.heap.size :=
 Qk hl (n := "strconv.ErrSyntax") (name := "*errors.errorString") (s:=[105,110,118,97,108,105,100,32,115,121,110,116,97,120]) (aoB _ (aoB _ (aoB _ (aoB _ (aoB _ (List.Mem.head _)))))) aet aeq Tryz.underlying402
def acZ{W:World}(hl:laidMet Tryz.prog Rows.stepNumbersUptoRow.laid W):∃ te b off e fz,W.heap[2]? = some (.cells #[.iface te (.pointer (some ⟨b,off,none⟩))] e fz)/\b<W.heap.size :=
 Qk hl (n := "strconv.ErrRange") (name := "*errors.errorString") (s:=[118,97,108,117,101,32,111,117,116,32,111,102,32,114,97,110,103,101]) (aoB _ (aoB _ (aoB _ (aoB _ (List.Mem.head _))))) aeu aer Tryz.underlying402
def VO:Rows.laid_internal_strconv_uint64pow10 (H:=Unit)=DataW.agg (Lib.pow10Tab.map λz=>.lit (.int .u64 z)):=by rfl
def adl{W:World}(hl:laidMet Tryz.prog Rows.stepNumbersUptoRow.laid W):∃ c e fz,W.heap[5]? = some (.cells c e fz)/\c.toList=Lib.pow10Tab.map λz=>Value.int .u64 z:=by obtain⟨ps,i,_,_⟩:=hl;obtain⟨g',t',cs,fuel,p,a,b,j,h,e5⟩:=Bx i (n := "internal/strconv.uint64pow10") (d:=Rows.laid_internal_strconv_uint64pow10) (aoB _ (aoB _ (List.Mem.head _)));rw[Wj]at a;cases a;rw[aes]at b;cases b;obtain⟨e,fz,k⟩:=EH Wj j;rw[VO]at h;exact⟨cs,e,fz,k,acG Tryz.underlying452 (by kernel_rfl) (by kernel_rfl) (by kernel_rfl) h⟩
def ahq{W:World}(j:W.ShapedOpen Tryz.prog):∃ m e fz,W.heap[0]? = some (.cells #[.int .i64 m] e fz):=by
 obtain⟨cs,h1,k,n⟩:=j.1 0 #[.int .i64 0] 3 (akM (by kernel_rfl)) (by kernel_rfl);obtain⟨ts,d,_,o⟩:=n (by kernel_rfl);have a:Tryz.prog.cellTypes Tryz.prog.depth 3=some [3]:=by kernel_rfl
 rw[a]at d;cases d;have b:cs.size=1:=k;have h0:cs[0]? = some (cs[0]'(by omega)):=anY (by omega);obtain⟨u,q,h⟩:=o 0 _ h0;cases q;unfold Cell.ok at h;rw[Tryz.underlying3]at h
 have hcs:cs=#[cs[0]'(by omega)]:=Array.ext (by simp[b]) (λi hi hi'=>by
  have:i=0:=by omega
  subst this;rfl)
 grind
end
section
open Go.AI Go.Proofs Go.Proofs.YtpghiabjaglpgaaGreatDoor Go.ChangeShapes
def Wk{W:World}(hl:laidMet Tryz.prog Rows.stepNumbersUptoRow.laid W)(a:W.ShapedOpen Tryz.prog):Rj W:=⟨ahq a,acJ hl,acZ hl,adl hl⟩
end
end Go.Proofs.YtpghiabjaglpgaaGreatDoor.Rd
namespace Go.AI
abbrev D.i(n:Int):D:=.int .i64 n
abbrev LD.n(n:Int):LD:=.g (.int .i64 n)
abbrev aQ:=List (List D)
abbrev af:=List Nat
abbrev cY(o:Nat):DB:=.cells 0 [.ptr o 0]
abbrev jv(n:Int):DB:=.cells 0 [.i n]
abbrev bm(n:Int):Int:=IntKind.wrap .i64 n
abbrev xE(a:Int)(b:Int)(c:List Nat)(d:List Nat)(e:List (List D))(f:List (List D)):List D:=[.i a,.i b,.str c,.str d,.row 6 e,.row 3 f]
abbrev xD(a:Int)(b:List Nat)(c:List (List D))(d:List (List D))(e:List Nat)(f:List Nat)(g:List (List D))(h:List (List D))(i:Int)(j:Int)(k:List Nat)(l:List Nat)(m:List (List D))(n:List (List D)):List D:=[.i a,.str b,.row 1 c,.row 2 d,.str e,.str f,.row 2 g,.row 8 h,.i i,.i j,.str k,.str l,.row 6 m,.row 3 n]
abbrev xM(a:Int)(b:Int)(c:Int)(d:Bool)(e:Int)(f:D)(g:D)(h:D)(i:Int)(j:D)(k:Int):List D:=[.i a,.i b,.i c,.bool d,.i e,f,g,h,.i i,j,.i k]
abbrev xT(a:Int)(b:Int)(c:List Nat)(d:Int):List D:=[.i a,.i b,.str c,.i d]
abbrev xV(a:List Nat)(b:Int)(c:List (List D)):List D:=[.str a,.i b,.row 3 c]
variable{R:aJ}{P:Program}{H H':DH}{κ:D->av}
def ev{E:dr}{n:Nat}{j:EE}{x y:av}(h:Tm E (eW E) n j H=x)(k:x=y):eW E j H=y:=by rw[<- k,<- h,Ib]
def aW{E:dr}{n f key:Nat}{xs:List LD}{L:LS}{x y:av}(h:ZE E (eW E) n f key xs L H=x)(k:x=y):jmp E (eW E) f key xs L H=y:=by rw[<- k,<- h,ZD]
theorem am{f:FuncId}{args:List D}{d:D}{k:D->DH->av}(h:R (.call f args none) H=ret d H'):C R f args H k=k d H':=by rw[C,h];rfl
theorem ao(q:Bool)(a b:av):brD (.bool q) a b=cond q a b:=rfl
theorem aI(n:Nat){κ:Nat->av}:bg (n:Int) κ=κ n:=rfl
theorem ak{l:List (List D)}{i:Nat}{cs:List D}{κ:List D->av}(h:l[i]? = some cs):aX l i κ=κ cs:=by rw[aX,h]
theorem ai(a:D)(l:List D):ah (a::l) 0 κ=κ a:=rfl
theorem aw(a:D)(l:List D)(n:Nat):ah (a::l) (n+1) κ=ah l n κ:=rfl
theorem aK(b:Bool):eD .not (.bool b) κ=κ (.bool !b):=rfl
theorem dU(l:List D)(i:Nat):fI (.tuple l) i κ=ah l i κ:=rfl
def bR(t:TypeId)(c:Bool)(a b:Int):aA P .add t c (.int .i64 a) (.int .i64 b) κ=κ (.int .i64 (bm (a+b))):=rfl
def nP(t:TypeId)(c:Bool)(a b:Int):aA P .sub t c (.int .i64 a) (.int .i64 b) κ=κ (.int .i64 (bm (a - b))):=rfl
theorem aZ(t:TypeId)(c:Bool)(k:IntKind)(a b:Int):aA P .eql t c (.int k a) (.int k b) κ=κ (.bool (a==b)):=by cases k<;>rfl
theorem bu(t:TypeId)(c:Bool)(k:IntKind)(a b:Int):aA P .neq t c (.int k a) (.int k b) κ=κ (.bool (a != b)):=by cases k<;>rfl
theorem aN(t:TypeId)(c:Bool)(k:IntKind)(a b:Int):aA P .lss t c (.int k a) (.int k b) κ=κ (.bool (decide (a<b))):=by cases k<;>rfl
def Aa(t:TypeId)(c:Bool)(k:IntKind)(a b:Int):aA P .leq t c (.int k a) (.int k b) κ=κ (.bool (decide (a<=b))):=by cases k<;>rfl
def er(t:TypeId)(c:Bool)(k:IntKind)(a b:Int):aA P .gtr t c (.int k a) (.int k b) κ=κ (.bool (decide (a>b))):=by cases k<;>rfl
def dW(t:TypeId)(c:Bool)(k:IntKind)(a b:Int):aA P .geq t c (.int k a) (.int k b) κ=κ (.bool (decide (a>=b))):=by cases k<;>rfl
theorem fw(t:TypeId)(c:Bool)(a b:List Nat):aA P .eql t c (.str a) (.str b) κ=κ (.bool (a==b)):=rfl
def iB(t:TypeId)(c:Bool)(a b:List Nat):aA P .neq t c (.str a) (.str b) κ=κ (.bool !(a==b)):=rfl
def oW(g:Bool)(x:D):jj g x [] κ=κ x:=rfl
def wu(k:IntKind)(a b:Int)(l:List D):jj true (.int k a) (.int k b::l) κ=jj true (.int k (max a b)) l κ:=by
 have h:(bif decide (b>a)then b else a)=max a b:=by grind
 have h2:dE k k=true:=by cases k<;>rfl
 show MB true (.int k a) (.int k b) _=_
 grind [MB]
def bp(q a b:Bool)(H:DH):cond q (ret (.bool a) H) (ret (.bool b) H)=ret (.bool (cond q a b)) H:=by cases q<;>rfl
def ki{n:Int}(a:-9223372036854775808<=n)(b:n<=9223372036854775807):bm n=n:=NY n ⟨a,b⟩
theorem aE{n:Nat}(h:n<2^62):bm ((n:Int)+1)=((n+1:Nat):Int):=by rw[ki]<;>omega
theorem bZ{E:dX}{g:FuncId}{a b:List D}{κ:FuncId->List D->List D->av}(h:aV E g=true):fH E (.func g a b) κ=κ g a b:=by rw[fH,h];rfl
def zq(b:Bool)(H X:DH):bj H (ret (.bool b) (H++X))=ret (.bool b) H:=by have h:nU H ⟨.ret (.bool b),none,H++X⟩:=⟨by simp[EF.bel,D.bel],rfl,by simp,λi x hi a=>.inl (by rwa [afZ hi]at a)⟩;simp_all[bj]
theorem ae{o st:Nat}{cs:List D}{κ:Nat->List D->av}(h:H[o]? = some (.cells st cs)):aB H o κ=κ st cs:=by rw[aB,h]
theorem cy{o sz:Nat}{st cap:Bool}{l:List (List D)}{κ:Nat->Bool->Bool->List (List D)->av}(h:H[o]? = some (.buf sz st cap l)):cH H o l.length κ=κ sz st cap l:=by rw[cH,h];simp[ajG]
def yA{r:List DH}{o st:Nat}{cs:List D}(h:H[o]? = some (.cells st cs))(hr:∀ a∈r,a[o]? = some (.cells st cs)):(dG H r)[o]? = some (.cells st cs):=by
 rw[dG,@Ik ⟨λ_=>True,[],λ_ _ _ h=>h⟩,h,afY]
 grind [JN]
def mq{o:Nat}{es:List (D×D)}{κ:List (D×D)->av}(h:H[o]? = some (.map es)):rM H o κ=κ es:=by rw[rM,h]
def be(H:DH)(x:DB):(H++[x])[H.length]? = some x:=by simp
def aD{H:DH}{o:Nat}{b:DB}(x:DB)(h:H[o]? = some b):(H++[x])[o]? = some b:=by grind
def ba{H:DH}{o:Nat}{b:DB}(x:DB)(h:H[o]? = some b):(H.set o x)[o]? = some x:=by grind
theorem ax{H:DH}{o o':Nat}{b:DB}(x:DB)(a:o≠o')(h:H[o']? = some b):(H.set o x)[o']? = some b:=by rw[aei a];exact h
end Go.AI
namespace Go.Proofs.YtpghiabjaglpgaaGreatDoor
section
open Go.AI
def tL:T ga:=.leaf
def tM(a:T ga)(b:Option ga)(c:T ga):T ga:=.node a b c
def tN(a c:T ga):T ga:=.node a none c
def tA(l:List (Nat×List Nat×List Nat)):Option ga:=some ⟨l,[],[],[],false⟩
def tV(l:List (Nat×List Nat×List Nat)):T ga:=.node .leaf (tA l) .leaf
def ant:T ga :=
 (tN (tN (tN (tN (tN (tN (tN tL (tV [(6,[1,3],[0]),(7,[1,3,52],[0])])) (tN (tN (tV [(200002,[0,5],[]),(200005,[0,5,6],[])]) tL) tL)) (tN (tN tL (tM (tV [(200002,[0,1,7,8],[])]) (some ⟨[],[1,3],[],[],true⟩) tL)) tL)) (tM (tM (tN (tM (tV [(200013,[0,1,71,72],[])]) (some ⟨[],[4,5],[],[],true⟩) tL) tL) (tA [(200003,[1,2,24,25],[0,1]),(200008,[1,2,43,44],[0,1]),(200013,[1,2,62,63],[0,1])]) (tM tL (some ⟨[(200004,[0,3,5,6,7],[0]),(200012,[3,5,6,8],[0]),(200017,[3,6,9],[0])],[],[(6,[(0,.acc 1)])],[],true⟩) tL)) (some ⟨[],[],[],[],true⟩) (tN tL (tM tL (some ⟨[(200006,[1,3,4],[0]),(200009,[1,3,4,5],[0])],[],[(3,[(0,.acc 2)])],[(0,0,.fz 2)],true⟩) (tV [(200002,[0,1,7,8],[])]))))) (tM (tN (tM (tM (tV [(14,[1,5],[0]),(15,[1,5,72],[0]),(200002,[1,3],[0]),(200007,[1,4],[0])]) (tA [(3,[1],[0]),(5,[1],[0]),(6,[1,50],[0]),(200015,[1,3],[0])]) tL) (tA [(200005,[1,3,4],[0])]) tL) (tM (tN tL (tN (tV [(200002,[0,1,2,7],[])]) tL)) (tA [(200004,[0,3,5],[0]),(200009,[0,3,6],[0]),(200014,[0,3,7],[0])]) (tN (tV [(200004,[0,16,17,18],[]),(200007,[0,16,17,18,23,24,25],[]),(200016,[0,43,44,45],[])]) (tM tL (some ⟨[],[3,4,5],[],[],true⟩) tL)))) (tA [(200006,[3,7,8],[1])]) (tM (tM (tN tL (tN (tV [(200001,[1,2,6,7,8],[])]) tL)) (tA [(200004,[0,1,5],[])]) (tV [(200000,[0,1,2,3],[]),(200003,[0,1,2,3,24,25,26],[])])) (tA [(200006,[2,3,7,8],[0,1]),(200012,[3,7,9],[1]),(200016,[3,7,10],[1])]) (tN (tM tL (tA [(200004,[2,3,5],[0,1])]) (tN (tV [(6,[0,1,4,5],[0])]) tL)) (tV [(200005,[1,2,3,7],[0])]))))) (tN (tN (tM (tM (tM (tN (tM tL (some ⟨[],[3],[],[],true⟩) tL) tL) (tA [(200003,[1,3,4],[0]),(200007,[1,3,4,5,6],[0]),(200012,[1,3,4,7,8],[0])]) (tV [(200005,[1,2,5,6],[0])])) (some ⟨[(18,[5,6,7,22,23,24],[0]),(200006,[5,22,23,24],[]),(200011,[5,6,7,22,23,24,34,35,36],[0]),(200022,[5,112,113,114],[])],[20],[(19,[(1,.acc 11),(2,.acc 7),(3,.acc 1),(4,.acc 1)])],[],false⟩) (tN (tN (tV [(200005,[0,1,5,6],[])]) tL) (tV [(200002,[1,3],[0])]))) (tA [(200006,[2,3,5],[0,1]),(200011,[2,3,6],[0,1]),(200016,[2,3,7],[0,1])]) (tM (tM tL (some ⟨[(200003,[2,3,12,13,14],[1,2])],[],[],[(0,2,.fz 3)],true⟩) tL) (tA [(200001,[0,2,3,4,6,10],[0,1])]) (tM (tN (tV [(200001,[0,1,2,8,9,10],[]),(200006,[1,2,21,22,23],[])]) tL) (some ⟨[(200003,[3,9,10,11],[])],[7],[],[],true⟩) tL))) (tM (tN (tN (tM tL (some ⟨[(200005,[0,3,5,24,25,26],[0]),(200014,[5,60,61,62],[])],[],[],[],true⟩) tL) tL) (tN (tV [(200002,[1,2,5],[0])]) (tM tL (some ⟨[],[3,4,5],[],[],false⟩) tL))) (some ⟨[],[],[],[],true⟩) (tM (tN tL (tN (tV [(4,[0,2,3],[0])]) tL)) (some ⟨[(200003,[0,1,5,6],[])],[],[(5,[(0,.acc 2)])],[(0,0,.fz 2)],true⟩) (tM (tN (tV [(200002,[0,1,7,8],[])]) tL) (some ⟨[(200006,[1,3,4],[0])],[],[(3,[(0,.acc 6)])],[(0,0,.fz 6)],true⟩) (tM tL (some ⟨[],[3],[],[],true⟩) tL))))) (tN (tN (tN (tM (tV [(200004,[1,2,15,16,17],[])]) (some ⟨[(10,[0,3,5,6],[0,1]),(200004,[0,3,5],[0])],[],[(45,[(0,.fz 1)])],[],true⟩) (tM (tV [(200000,[0],[])]) (tA [(200002,[1,3],[0])]) tL)) (tM (tM tL (some ⟨[(200003,[3,10,11,12],[])],[],[(3,[(0,.acc 1)])],[],false⟩) tL) (some ⟨[(15,[0,2,3,5,8,10,11,13,14,15,16,17,18],[0,1,2,3]),(16,[0,2,3,5,8,10,11,13,14,15,16,17,18],[0,1,2,3]),(17,[0,2,3,5,8,10,11,12,13,14,15,16,17,18],[0,1,2,3]),(22,[0,2,3,5,8,10,11,12,13,14,15,16,17],[0,1,2,3]),(23,[0,2,3,5,8,10,11,12,13,14,15,16,17],[0,1,2,3]),(27,[0,2,3,5,8,10,11,12,13,14,15,16],[0,1,2]),(200008,[0,2,3,5,8,10,11,12,13,14,15,16],[0,1,2]),(200012,[0,2,3,5,8,10,11,12,13,14,15,16,17,18],[0,1,2,3])],[],[],[],true⟩) tL)) (tM (tN (tN (tV [(200002,[0,1,7,8],[])]) tL) tL) (tA [(200002,[1,2,3,6],[0])]) (tN tL (tM tL (some ⟨[],[3,4,5],[],[],true⟩) tL)))) (tM (tN (tN tL (tN (tV [(200002,[0,1,7,8],[])]) tL)) (tN (tN (tV [(200001,[0,1,2,8,9,10],[]),(200006,[1,2,21,22,23],[])]) tL) tL)) (tA [(200007,[3,4,6,8,9,10],[1,2]),(200015,[3,4,6,8,11,12],[1,2,3]),(200024,[3,4,8,11,14],[1,2,3]),(200029,[3,4,8,11,15],[1,2,3])]) (tN (tM (tN (tV [(200002,[0,5],[])]) tL) (some ⟨[(200003,[0,3,9,10,11],[])],[],[(3,[(0,.acc 5)])],[(0,0,.fz 5)],true⟩) tL) (tN (tM tL (some ⟨[],[3],[],[],true⟩) tL) (tM tL (some ⟨[],[],[],[],true⟩) tL))))))) (tN (tN (tM (tN (tM (tM (tM (tM tL (some ⟨[],[3],[],[],true⟩) tL) (tA [(200004,[1,3],[0]),(200009,[1,4],[0]),(200015,[1,4,5,6],[0,1])]) tL) (tA [(200003,[1,3,4],[0]),(200007,[1,3,4,5,6],[0]),(200012,[1,3,4,7,8],[0])]) tL) (tA [(200004,[0,1,5],[])]) (tN (tN (tV [(200003,[0,3,4],[])]) tL) (tV [(200003,[1,2,5,6],[0])]))) (tN (tN tL (tV [(200002,[0,1,7,8],[])])) (tN (tN (tV [(200001,[1,2,6,7,8],[])]) tL) tL))) (tA [(200009,[5,6,8,10,12,14],[2,3])]) (tM (tN (tN tL (tV [(200004,[0,1,12,13],[])])) (tM tL (tA [(200007,[2,7,8],[1])]) (tV [(8,[0,1,4,7],[0]),(11,[0,1,4,7,8],[0]),(17,[0,1,4,6],[0]),(18,[0,1,4,6],[0]),(26,[0,1,4,11,12],[0]),(200006,[0,1,4,7],[0])]))) (some ⟨[],[],[],[],true⟩) (tN tL (tV [(200005,[1,2,5,6],[0])])))) (tN (tN (tM (tM (tV [(200003,[1,3,4],[0])]) (some ⟨[(7,[1,3,4,5],[0,1]),(200003,[1,3,4],[0]),(200010,[1,3,4,5,6],[0,1])],[],[(3,[(0,.acc 12)]),(29,[(2,.fz 1)]),(50,[(2,.fz 1)])],[(0,0,.fz 12)],true⟩) (tN (tM tL (some ⟨[(200001,[0,1],[])],[36],[],[],false⟩) tL) tL)) (some ⟨[(12,[1,3,4,5],[0]),(200004,[1,3,4,5],[0])],[9],[(8,[(1,.acc 12),(2,.acc 5),(3,.acc 1),(4,.acc 1),(5,.acc 4)])],[],false⟩) (tM (tN (tM tL (some ⟨[],[1],[],[],false⟩) tL) tL) (some ⟨[(14,[2,3,8,10,11,13,14,15,16,17,36,37,38,48,49,50],[0,1,2]),(15,[2,3,8,10,11,12,13,14,15,16,17,36,37,38,48,49,50],[0,1,2]),(20,[2,3,8,10,11,12,13,14,15,16,36,37,38],[0,1,2]),(25,[2,3,8,10,11,12,13,14,15,16,36,37,38],[0,1,2]),(200006,[2,3,8,10,11,12,13,14,15,16,36,37,38],[0,1,2]),(200011,[2,3,8,10,11,12,13,14,15,16,17,36,37,38,48,49,50],[0,1,2])],[],[],[],true⟩) tL)) (tM tL (some ⟨[(200006,[3,5,6,7,25,26],[]),(200013,[3,5,6,7,42,43,44],[]),(200018,[5,6,7,54,55,56],[]),(200022,[5,6,7,54,55,56,65,66,67],[])],[3,5,6,7],[],[],false⟩) (tM (tV [(200004,[0,16,17,18],[]),(200007,[0,16,17,18,23,24,25],[]),(200016,[0,43,44,45],[])]) (some ⟨[],[3],[],[],true⟩) (tM tL (some ⟨[],[3,4,5],[],[],true⟩) tL)))) (tM (tN (tN (tM tL (some ⟨[(13,[4,5,8],[0])],[4],[],[],true⟩) tL) (tN (tV [(200002,[0,1,7,8],[])]) tL)) (tN (tN (tV [(200001,[1,2,6,7,8],[])]) tL) tL)) (some ⟨[(200007,[3,4,8,9,10,39,40,41],[1,2]),(200018,[4,10,13,14,15,61,62,63],[2,3]),(200022,[4,10,13,14,15,17,61,62,63,74,75],[2,3,4]),(200031,[4,13,14,15,114,115],[2,3]),(200035,[4,13,14,15,19,114,115,137,138],[2,3]),(200041,[4,13,15,164,165],[2,3])],[8],[],[],false⟩) (tN tL (tM tL (tA [(200005,[1,2,3,7],[0]),(200009,[1,2,3,8],[0])]) (tM tL (some ⟨[],[3],[],[],true⟩) tL)))))) (tN (tM (tN (tM (tN (tV [(200002,[1,3],[0])]) (tV [(200005,[1,2,3,7],[0])])) (tA [(200004,[0,1,12,13],[])]) (tN (tN (tM tL (some ⟨[(200003,[3,11,12],[])],[10],[(9,[(3,.acc 2)])],[],false⟩) tL) tL) tL)) (tM tL (tA [(200001,[0,2,3,4,6,10],[0,1])]) (tM (tN (tM tL (some ⟨[],[3,4,5],[],[],true⟩) tL) tL) (some ⟨[(200003,[3,9,10,11],[])],[7],[],[],true⟩) tL))) (tA [(200005,[3,21,22,23],[1])]) (tN (tM (tN tL (tN (tV [(200001,[1,2,6,7,8],[])]) tL)) (tA [(200004,[0,1,5],[])]) (tN (tV [(5,[0],[])]) tL)) (tN (tN (tN (tV [(4,[0,4],[]),(200009,[0,4,5,6,7],[])]) tL) tL) (tM tL (tA [(200005,[1,2,5,6],[0]),(200009,[1,2,5,7],[0])]) (tM tL (some ⟨[],[3],[],[],true⟩) tL))))) (tN (tM (tN (tM (tN (tV [(200002,[0,1,7,8],[])]) tL) (some ⟨[(200005,[2,3,37,38],[])],[2,3],[],[],true⟩) (tN (tV [(11,[0,2,3],[0])]) tL)) (tN (tM tL (some ⟨[(200003,[0,3,4],[])],[],[(3,[(0,.acc 1)])],[],false⟩) tL) tL)) (some ⟨[],[],[],[],true⟩) (tM (tN tL (tN (tV [(200002,[0,2,3],[])]) tL)) (tA [(200001,[1,2,3],[0])]) (tM tL (some ⟨[(200005,[0,3,5,6,9,10,33,34,35],[0,1])],[],[(46,[(0,.fz 1)]),(10,[(0,.acc 1)]),(62,[(0,.fz 1)])],[],true⟩) (tM tL (some ⟨[],[3,4,5],[],[],true⟩) tL)))) (tN (tN (tN tL (tM (tV [(200002,[0,1,7,8],[])]) (some ⟨[(200003,[0,1,7,15,16,17],[])],[],[(7,[(0,.acc 1)])],[],false⟩) tL)) (tN (tN (tM tL (some ⟨[],[3,4,5],[],[],true⟩) tL) tL) tL)) (tM tL (some ⟨[],[],[(29,[(2,.fz 1)])],[],true⟩) (tN (tN (tV [(200002,[0,1,7,8],[])]) tL) tL)))))))
def de:dr:=⟨bF,ant,afm,dvo⟩
def szK(d:D)(κ:Int->av):av:=match d with
 |.int _ n=>κ n
 |_=>none
abbrev az(R:aJ)(f:Nat)(a:List D)(H:DH):av:=Tm de R 200 (.call f a none) H
abbrev aF(R:aJ)(f k:Nat)(x:List LD)(L:LS)(H:DH):av:=ZE de R 200 f k x L H
abbrev ac(R:aJ)(f k:Nat)(x:List LD)(L:LS)(H:DH):av:=jmp de R f k x L H
abbrev au:aJ:=eW de
abbrev aq(f:Nat)(a:List D)(H:DH):av:=eW de (.call f a none) H
abbrev ab:=Tryz.prog
def f65{R:aJ}{a:aQ}{H:DH}:az R 65 [.agg [.row 14 a]] H =
 ac R 65 200003 [.lp 0 0,.n 0,.n 0] [(0,[.row 14 a])] H:=by kernel_rfl
def Cl{R:aJ}{v3 q:Int}{a:aQ}{H:DH}:aF R 65 200003 [.lp 0 0,.n v3,.n q] [(0,[.row 14 a])] H =
 cond (decide (q<a.length)) (cond (decide (v3<=2000)) (bg q λb=>aX a b λb=>ah b 0 λc=>ah b 1 λd=>ah b 2 λe=>ah b 3 λf=>ah b 4 λg=>ah b 5 λh=>ah b 6 λi=>ah b 7 λj=>ah b 8 λk=>ah b 9 λl=>ah b 10 λm=>ah b 11 λn=>ah b 12 λo=>ah b 13 λb=>C R 119 [.agg [c,d,e,f,g,h,i,j,k,l,m,n,o,b]] H λb H=>ac R 65 200007 [.lp 0 0,.n v3,.n q,.g b,.n 0] [(0,[.row 14 a])] H) (ret (.i v3) H)) (ret (.i v3) H):=by kernel_rfl
def Cj{R:aJ}{v3 q:Int}{r:D}{v6:Int}{a:aQ}{H:DH}:aF R 65 200007 [.lp 0 0,.n v3,.n q,.g r,.n v6] [(0,[.row 14 a])] H =
 aP ab 142 r H λb=>aA ab .lss 3 false (.i v6) b λb=>brD b (ay ab 142 r (.i v6) λb=>bJ ab 144 b H λb=>C R 123 [b,.i 1,.i v3] H λb H=>ac R 65 200007 [.lp 0 0,.g b,.n q,.g r,.n (bm (v6+1))] [(0,[.row 14 a])] H) (bg q λb=>aX a b λb=>ah b 0 λc=>ah b 1 λd=>ah b 2 λe=>ah b 3 λf=>ah b 4 λg=>ah b 5 λh=>ah b 6 λi=>ah b 7 λj=>ah b 8 λk=>ah b 9 λl=>ah b 10 λm=>ah b 11 λn=>ah b 12 λo=>ah b 13 λb=>C R 121 [.agg [c,d,e,f,g,h,i,j,k,l,m,n,o,b]] H λb H=>ac R 65 200012 [.lp 0 0,.n v3,.n q,.g b,.n 0] [(0,[.row 14 a])] H):=by kernel_rfl
def Ci{R:aJ}{v3 h:Int}{d:D}{e:Int}{a:aQ}{H:DH}:aF R 65 200012 [.lp 0 0,.n v3,.n h,.g d,.n e] [(0,[.row 14 a])] H =
 aP ab 83 d H λb=>aA ab .lss 3 false (.i e) b λb=>brD b (ay ab 83 d (.i e) λb=>bJ ab 86 b H λb=>C R 124 [b,.i 1,.i v3] H λb H=>ac R 65 200012 [.lp 0 0,.g b,.n h,.g d,.n (bm (e+1))] [(0,[.row 14 a])] H) (ac R 65 200003 [.lp 0 0,.n v3,.n (bm (h+1))] [(0,[.row 14 a])] H):=by kernel_rfl
def ani{R:aJ}{b:aQ}{d:D}{H:DH}:az R 116 [.row 14 b,d] H =
 bj H (aj 1 d λa=>let a:=H++[.cells 0 a];C R 181 [.row 14 b,.func 182 [] [.ptr H.length 0]] a λa H=>eD .not a λa=>ret a H):=by kernel_rfl
def anf{R:aJ}{a:Int}{b:af}{c e:aQ}{h j:af}{k l:aQ}{m p:Int}{q r:af}{s t:aQ}{H:DH}:az R 119 [.agg (xD a b c e h j k l m p q r s t)] H =
 bj H (cond (a==2) (ret (.row 2 [[.str j,.row 2 k]]) H) (let d:=H++[.buf 2 true false []];cond (a==1) (ac R 119 200006 [.lp 0 0,.g (.buf 2 H.length 0),.n 0] [(0,xD a b c e h j k l m p q r s t)] d) (eZ (.fz 2) (.buf 2 H.length 0) d λa H=>ret a H))):=by kernel_rfl
def yg{R:aJ}{a b:Nat}{d c:Int}{e:af}{h j:aQ}{k l:af}{m p:aQ}{q r:Int}{s t:af}{u v:aQ}{H:DH}:aF R 119 200006 [.lp 0 0,.g (.buf 2 a b),.n d] [(0,xD c e h j k l m p q r s t u v)] H =
 cond (decide (d<j.length)) (ac R 119 200009 [.lp 0 0,.g (.buf 2 a b),.n d,.n 0] [(0,xD c e h j k l m p q r s t u v)] H) (eZ (.fz 2) (.buf 2 a b) H λa H=>ret a H):=by kernel_rfl
def yf{R:aJ}{a b:Nat}{o w c:Int}{e:af}{h j:aQ}{k l:af}{m p:aQ}{q r:Int}{s t:af}{u v:aQ}{H:DH}:aF R 119 200009 [.lp 0 0,.g (.buf 2 a b),.n o,.n w] [(0,xD c e h j k l m p q r s t u v)] H =
 bg o λd=>aX j d λd=>ah d 1 λd=>aP ab 142 d H λd=>aA ab .lss 3 false (.i w) d λd=>brD d (bg o λd=>aX j d λd=>ah d 1 λd=>ay ab 142 d (.i w) λd=>bJ ab 144 d H λd=>aj 2 d λd=>bQ (aG ab 144) 2 (.buf 2 a b) [d] H λa H=>ct (.acc 2) 0 a H λa H=>ac R 119 200009 [.lp 0 0,.g a,.n o,.n (bm (w+1))] [(0,xD c e h j k l m p q r s t u v)] H) (ac R 119 200006 [.lp 0 0,.g (.buf 2 a b),.n (bm (o+1))] [(0,xD c e h j k l m p q r s t u v)] H):=by kernel_rfl
def amW{R:aJ}{a b:Int}{c e:af}{g h:aQ}{H:DH}:az R 127 [.agg (xE a b c e g h)] H =
 cond (a==0) (cond (b==0) (cond (c==[]) (cond (e==[]) (cond ((g.length:Int)==0) (ret (.bool ((h.length:Int)==0)) H) (ret (.bool false) H)) (ret (.bool false) H)) (ret (.bool false) H)) (ret (.bool false) H)) (ret (.bool false) H):=by kernel_rfl
def Sm{R:aJ}{d:Nat}{a:Int}{b:af}{c e:aQ}{h j:af}{k l:aQ}{m p:Int}{q r:af}{s t:aQ}{H:DH}:az R 179 [.ptr d 0,.agg (xD a b c e h j k l m p q r s t)] H =
 cond (a==1) (ac R 179 200004 [.g (.ptr d 0),.g (.row 2 e),.n e.length,.n 0] [] H) (cond (a==2) (C R 243 [.ptr d 0,.agg [.str j,.row 2 k],.i 1] H λ_ H=>ret (.tuple []) H) (cond (a==3) (ac R 179 200016 [.g (.ptr d 0),.g (.row 8 l),.n l.length,.n 0] [] H) (cond (a==4) (C R 244 [.ptr d 0,.agg (xE m p q r s t),.i 1] H λ_ H=>ret (.tuple []) H) (cond (a==5) (C R 244 [.ptr d 0,.agg (xE m p q r s t),.i 1] H λ_ H=>ret (.tuple []) H) (ret (.tuple []) H))))):=by kernel_rfl
def xH{R:aJ}{h:Nat}{a:aQ}{b c:Int}{H:DH}:aF R 179 200004 [.g (.ptr h 0),.g (.row 2 a),.n b,.n c] [] H =
 cond (decide (c<b)) (bg c λd=>aX a d λd=>ah d 0 λ_=>ah d 1 λd=>aP ab 142 d H λe=>ac R 179 200007 [.g (.ptr h 0),.g (.row 2 a),.n b,.n c,.g d,.g e,.n 0] [] H) (ret (.tuple []) H):=by kernel_rfl
def xF{R:aJ}{j:Nat}{a:aQ}{b c:Int}{H:DH}:aF R 179 200016 [.g (.ptr j 0),.g (.row 8 a),.n b,.n c] [] H =
 cond (decide (c<b)) (bg c λd=>aX a d λd=>ah d 0 λ_=>ah d 1 λ_=>ah d 2 λe=>ah d 3 λf=>ah d 4 λg=>ah d 5 λh=>ah d 6 λi=>ah d 7 λd=>C R 244 [.ptr j 0,.agg [e,f,g,h,i,d],.i 1] H λ_ H=>ac R 179 200016 [.g (.ptr j 0),.g (.row 8 a),.n b,.n (bm (c+1))] [] H) (ret (.tuple []) H):=by kernel_rfl
def xG{R:aJ}{k:Nat}{a:aQ}{b c:Int}{e:D}{h j:Int}{H:DH}:aF R 179 200007 [.g (.ptr k 0),.g (.row 2 a),.n b,.n c,.g e,.n h,.n j] [] H =
 cond (decide (j<h)) (ay ab 142 e (.i j) λd=>bJ ab 144 d H λd=>aj 2 d λd=>aC [.str [],.nilrow] 0 d λd=>ah d 0 λf=>ah d 1 λd=>C R 243 [.ptr k 0,.agg [f,d],.i 1] H λ_ H=>ac R 179 200007 [.g (.ptr k 0),.g (.row 2 a),.n b,.n c,.g e,.n h,.n (bm (j+1))] [] H) (ac R 179 200004 [.g (.ptr k 0),.g (.row 2 a),.n b,.n (bm (c+1))] [] H):=by kernel_rfl
def amz{R:aJ}{a b:af}{c e:Int}{g h:af}{j k:aQ}{H:DH}:az R 190 [.agg [.str a,.str b,.i c,.i e,.str g,.str h,.row 6 j,.row 3 k]] H =
 C R 187 [.str a] H λa H=>brD a (C R 187 [.str b] H λa H=>brD a (C R 191 [.agg (xE c e g h j k)] H λa H=>ret a H) (ret (.bool false) H)) (ret (.bool false) H):=by kernel_rfl
def amu{R:aJ}{b:af}{H:DH}:az R 196 [.str b] H =
 C R 170 [.str b] H λa H=>aA ab .eql 3 true a (.i 4) λa=>ret a H:=by kernel_rfl
def amr{R:aJ}{b:af}{H:DH}:az R 201 [.str b] H =
 C R 253 [.str b] H λa H=>aA ab .eql 3 true a (.i 3) λa=>ret a H:=by kernel_rfl
def f243{R:aJ}{h:Nat}{a:af}{b:aQ}{j:Int}{H:DH}:az R 243 [.ptr h 0,.agg [.str a,.row 2 b],.i j] H =
 bj H (let c:=H++[.cells 0 [.ptr h 0]];let a:=c++[.cells 0 [.str a,.row 2 b]];let b:=a++[.cells 0 [.i j]];aB b H.length λ_ d=>ah d 0 λd=>aB b a.length λ_ e=>ah e 0 λe=>C R 299 [d,e,.func 300 [] [.ptr c.length 0,.ptr H.length 0,.ptr a.length 0]] b λ_ H=>ret (.tuple []) H):=by kernel_rfl
def f247{R:aJ}{b:aQ}{a:Nat}{H:DH}:az R 247 [.row 14 b,.func 182 [] [.ptr a 0]] H =
 ac R 247 200002 [.g (.row 14 b),.g (.func 182 [] [.ptr a 0]),.n b.length,.n 0] [] H:=by kernel_rfl
def xg{R:aJ}{s:aQ}{v1:D}{u r:Int}{H:DH}:aF R 247 200002 [.g (.row 14 s),.g v1,.n u,.n r] [] H =
 cond (decide (r<u)) (bg r λa=>aX s a λa=>ah a 0 λb=>ah a 1 λc=>ah a 2 λd=>ah a 3 λe=>ah a 4 λf=>ah a 5 λg=>ah a 6 λh=>ah a 7 λi=>ah a 8 λj=>ah a 9 λk=>ah a 10 λl=>ah a 11 λm=>ah a 12 λn=>ah a 13 λa=>fH bF v1 λo p q=>C R o (p++([.agg [b,c,d,e,f,g,h,i,j,k,l,m,n,a]]++q)) H λa H=>brD a (ret (.i r) H) (ac R 247 200002 [.g (.row 14 s),.g v1,.n u,.n (bm (r+1))] [] H)) (ret (.i (-1)) H):=by kernel_rfl
def alZ{R:aJ}{a b:af}{c e:Int}{g h:af}{j k:aQ}{l:Nat}{H:DH}:az R 255 [.agg [.str a,.str b,.i c,.i e,.str g,.str h,.row 6 j,.row 3 k],.ptr l 0] H =
 aB H l λ_ d=>ah d 0 λd=>fH bF d λd f i=>C R d (f++([.agg [.str a,.str b,.i c,.i e,.str g,.str h,.row 6 j,.row 3 k]]++i)) H λa H=>eD .not a λa=>ret a H:=by kernel_rfl
def f277{R:aJ}{b:aQ}{a:Nat}{H:DH}:az R 277 [.row 2 b,.func 312 [] [.ptr a 0]] H =
 ac R 277 200002 [.g (.row 2 b),.g (.func 312 [] [.ptr a 0]),.n b.length,.n 0] [] H:=by kernel_rfl
def wZ{R:aJ}{j:aQ}{v1:D}{k h:Int}{H:DH}:aF R 277 200002 [.g (.row 2 j),.g v1,.n k,.n h] [] H =
 cond (decide (h<k)) (bg h λa=>aX j a λa=>ah a 0 λb=>ah a 1 λa=>fH bF v1 λc d e=>C R c (d++([.agg [b,a]]++e)) H λa H=>brD a (ret (.i h) H) (ac R 277 200002 [.g (.row 2 j),.g v1,.n k,.n (bm (h+1))] [] H)) (ret (.i (-1)) H):=by kernel_rfl
def f287{R:aJ}{a:af}{b:Int}{H:DH}:az R 287 [.str a,.i b] H =
 ac R 287 200002 [.g (.str a),.n b] [] H:=by kernel_rfl
def Ko{R:aJ}{d:af}{b:Int}{H:DH}:aF R 287 200002 [.g (.str d),.n b] [] H =
 cond (decide (b<d.length)) (bg b λa=>fv d a λa=>C R 283 [a] H λa H=>brD a (ac R 287 200002 [.g (.str d),.n (bm (b+1))] [] H) (ac R 287 200005 [.g (.str d),.n b,.n (bm (b+1))] [] H)) (ac R 287 200005 [.g (.str d),.n b,.n (bm (b+1))] [] H):=by kernel_rfl
def Kn{R:aJ}{d:af}{b v6:Int}{H:DH}:aF R 287 200005 [.g (.str d),.n b,.n v6] [] H =
 cond (decide (v6<d.length)) (bg v6 λa=>fv d a λa=>C R 281 [a] H λa H=>brD a (ac R 287 200005 [.g (.str d),.n b,.n (bm (v6+1))] [] H) (cond (decide (b<d.length)) (bg b λa=>fv d a λa=>aA ab .eql 5 true a (.int .u8 39) λa=>brD a (cond (decide (v6>(bm (b+1)))) (ret (.i v6) H) (ret (.i b) H)) (ret (.i b) H)) (ret (.i b) H))) (cond (decide (b<d.length)) (bg b λa=>fv d a λa=>aA ab .eql 5 true a (.int .u8 39) λa=>brD a (cond (decide (v6>(bm (b+1)))) (ret (.i v6) H) (ret (.i b) H)) (ret (.i b) H)) (ret (.i b) H)):=by kernel_rfl
def alL{R:aJ}{h:Nat}{a:Int}{b:af}{c:aQ}{j:Int}{H:DH}:az R 302 [.ptr h 0,.agg [.i a,.str b,.row 3 c],.i j] H =
 bj H (let d:=H++[.cells 0 [.ptr h 0]];let a:=d++[.cells 0 [.i a,.str b,.row 3 c]];let b:=a++[.cells 0 [.i j]];aB b H.length λ_ c=>ah c 0 λc=>aB b a.length λ_ e=>ah e 0 λe=>C R 299 [c,e,.func 330 [] [.ptr d.length 0,.ptr H.length 0,.ptr a.length 0]] b λ_ H=>ret (.tuple []) H):=by kernel_rfl
def alG{R:aJ}{b:aQ}{a:Nat}{H:DH}:az R 307 [.row 2 b,.func 308 [] [.ptr a 0]] H =
 C R 332 [.row 2 b,.func 308 [] [.ptr a 0]] H λa H=>aA ab .geq 3 true a (.i 0) λa=>ret a H:=by kernel_rfl
def alB{R:aJ}{a:af}{b:aQ}{c:Nat}{H:DH}:az R 312 [.agg [.str a,.row 2 b],.ptr c 0] H =
 aB H c λ_ c=>ah c 0 λc=>fH bF c λc d e=>C R c (d++([.agg [.str a,.row 2 b]]++e)) H λa H=>eD .not a λa=>ret a H:=by kernel_rfl
def aly{R:aJ}{y a:Nat}{H:DH}:az R 324 [.yld y,.ptr a 0] H =
 aB H a λ_ b=>ah b 0 λb=>C R 325 [b] H λ_ H=>ac R 324 200001 [.g (.yld y),.g (.ptr a 0)] [] H:=by kernel_rfl
def Kl{R:aJ}{e v1:Nat}{H:DH}:aF R 324 200001 [.g (.yld e),.g (.ptr v1 0)] [] H =
 aB H v1 λ_ a=>ah a 0 λa=>vR a λa=>bI a 0 λa=>bI a 1 λa=>bJ ab 3 a H λa=>aB H v1 λ_ b=>ah b 0 λb=>vR b λb=>bI b 0 λb=>bI b 0 λb=>bJ ab 9 b H λb=>aP ab 9 b H λb=>aA ab .lss 3 false a b λa=>brD a (aB H v1 λ_ a=>ah a 0 λa=>C R 326 [a] H λa H=>aj 4 a λa=>aC (xT 0 0 [] 0) 0 a λa=>aB H v1 λ_ b=>ah b 0 λb=>vR b λc=>bI c 0 λc=>bI c 1 λc=>bJ ab 3 c H λc=>ah a 2 λd=>aP ab 9 d H λd=>aA ab .add 3 false c d λc=>vR b λb=>bI b 0 λb=>bI b 1 λb=>aj 1 c λc=>GK b c H λH=>ah a 0 λb=>ah a 1 λc=>ah a 2 λd=>ah a 3 λa=>bd (R (.call 0 [.agg [b,c,d,a]] (some (.round e))) H) (λa H=>eD .not a λa=>brD a (ret (.tuple []) H) (aB H v1 λ_ a=>ah a 0 λa=>C R 325 [a] H λ_ H=>ac R 324 200001 [.g (.yld e),.g (.ptr v1 0)] [] H)) λa H=>some ⟨.pan a,none,H⟩) (ret (.tuple []) H):=by kernel_rfl
def alq{R:aJ}{b:aQ}{a:Nat}{H:DH}:az R 335 [.row 3 b,.func 317 [] [.ptr a 0]] H =
 ac R 335 200002 [.g (.row 3 b),.g (.func 317 [] [.ptr a 0]),.n b.length,.n 0] [] H:=by kernel_rfl
def wH{R:aJ}{j:aQ}{v1:D}{k h:Int}{H:DH}:aF R 335 200002 [.g (.row 3 j),.g v1,.n k,.n h] [] H =
 cond (decide (h<k)) (bg h λa=>aX j a λa=>ah a 0 λb=>ah a 1 λc=>ah a 2 λa=>fH bF v1 λd e f=>C R d (e++([.agg [b,c,a]]++f)) H λa H=>brD a (ret (.i h) H) (ac R 335 200002 [.g (.row 3 j),.g v1,.n k,.n (bm (h+1))] [] H)) (ret (.i (-1)) H):=by kernel_rfl
def alh{R:aJ}{a:Int}{H:DH}:az R 346 [.int .u8 a] H =
 cond (decide ((97:Int)<=a)) (ret (.bool (decide (a<=122))) H) (ret (.bool false) H):=by kernel_rfl
def alc{R:aJ}{b d:af}{H:DH}:az R 354 [.str b,.str d] H =
 C R 359 [.str b,.str d] H λa H=>ret a H:=by kernel_rfl
def f64{R:aJ}{a:aQ}{H:DH}:az R 64 [.agg [.row 14 a]] H =
 ac R 64 200003 [.lp 0 0,.n 0,.n 0] [(0,[.row 14 a])] H:=by kernel_rfl
def Cp{R:aJ}{v3 q:Int}{a:aQ}{H:DH}:aF R 64 200003 [.lp 0 0,.n v3,.n q] [(0,[.row 14 a])] H =
 cond (decide (q<a.length)) (bg q λb=>aX a b λb=>ah b 0 λc=>ah b 1 λd=>ah b 2 λe=>ah b 3 λf=>ah b 4 λg=>ah b 5 λh=>ah b 6 λi=>ah b 7 λj=>ah b 8 λk=>ah b 9 λl=>ah b 10 λm=>ah b 11 λn=>ah b 12 λo=>ah b 13 λb=>C R 119 [.agg [c,d,e,f,g,h,i,j,k,l,m,n,o,b]] H λb H=>ac R 64 200007 [.lp 0 0,.n v3,.n q,.g b,.n 0] [(0,[.row 14 a])] H) (ret (.i v3) H):=by kernel_rfl
def Cn{R:aJ}{v3 q:Int}{r:D}{v6:Int}{a:aQ}{H:DH}:aF R 64 200007 [.lp 0 0,.n v3,.n q,.g r,.n v6] [(0,[.row 14 a])] H =
 aP ab 142 r H λb=>aA ab .lss 3 false (.i v6) b λb=>brD b (ay ab 142 r (.i v6) λb=>bJ ab 144 b H λb=>C R 120 [b,.i 1] H λb H=>jj true (.i v3) [b] λb=>ac R 64 200007 [.lp 0 0,.g b,.n q,.g r,.n (bm (v6+1))] [(0,[.row 14 a])] H) (bg q λb=>aX a b λb=>ah b 0 λc=>ah b 1 λd=>ah b 2 λe=>ah b 3 λf=>ah b 4 λg=>ah b 5 λh=>ah b 6 λi=>ah b 7 λj=>ah b 8 λk=>ah b 9 λl=>ah b 10 λm=>ah b 11 λn=>ah b 12 λo=>ah b 13 λb=>C R 121 [.agg [c,d,e,f,g,h,i,j,k,l,m,n,o,b]] H λb H=>ac R 64 200012 [.lp 0 0,.n v3,.n q,.g b,.n 0] [(0,[.row 14 a])] H):=by kernel_rfl
def Cm{R:aJ}{v3 h:Int}{d:D}{e:Int}{a:aQ}{H:DH}:aF R 64 200012 [.lp 0 0,.n v3,.n h,.g d,.n e] [(0,[.row 14 a])] H =
 aP ab 83 d H λb=>aA ab .lss 3 false (.i e) b λb=>brD b (ay ab 83 d (.i e) λb=>bJ ab 86 b H λb=>C R 122 [b,.i 1] H λb H=>jj true (.i v3) [b] λb=>ac R 64 200012 [.lp 0 0,.g b,.n h,.g d,.n (bm (e+1))] [(0,[.row 14 a])] H) (ac R 64 200003 [.lp 0 0,.n v3,.n (bm (h+1))] [(0,[.row 14 a])] H):=by kernel_rfl
def ank{R:aJ}{a:aQ}{H:DH}:az R 114 [.agg [.row 14 a]] H =
 bj H (let b:=H++[.cells 0 [.i 0,.i 0]];ac R 114 200003 [.g (.ptr H.length 0),.g (.row 14 a),.n a.length,.n 0] [] b):=by kernel_rfl
def yi{R:aJ}{v3:Nat}{q:aQ}{a b:Int}{H:DH}:aF R 114 200003 [.g (.ptr v3 0),.g (.row 14 q),.n a,.n b] [] H =
 cond (decide (b<a)) (bg b λc=>aX q c λc=>ah c 0 λd=>ah c 1 λe=>ah c 2 λf=>ah c 3 λg=>ah c 4 λh=>ah c 5 λi=>ah c 6 λj=>ah c 7 λk=>ah c 8 λl=>ah c 9 λm=>ah c 10 λn=>ah c 11 λo=>ah c 12 λp=>ah c 13 λc=>C R 180 [.ptr v3 0,.agg [d,e,f,g,h,i,j,k,l,m,n,o,p,c]] H λ_ H=>ac R 114 200003 [.g (.ptr v3 0),.g (.row 14 q),.n a,.n (bm (b+1))] [] H) (aB H v3 λ_ a=>ah a 0 λa=>ret a H):=by kernel_rfl
def ane{R:aJ}{a:af}{b:aQ}{d:Int}{H:DH}:az R 120 [.agg [.str a,.row 2 b],.i d] H =
 cond (decide (d>100)) (ret (.i d) H) (ac R 120 200005 [.n d,.lp 0 0,.n d,.n 0] [(0,[.str a,.row 2 b])] H):=by kernel_rfl
def ye{R:aJ}{v1 e v6:Int}{a:af}{b:aQ}{H:DH}:aF R 120 200005 [.n v1,.lp 0 0,.n e,.n v6] [(0,[.str a,.row 2 b])] H =
 cond (decide (v6<b.length)) (bg v6 λc=>aX b c λc=>ah c 0 λd=>ah c 1 λc=>C R 120 [.agg [d,c],.i (bm (v1+1))] H λc H=>jj true (.i e) [c] λc=>ac R 120 200005 [.n v1,.lp 0 0,.g c,.n (bm (v6+1))] [(0,[.str a,.row 2 b])] H) (ret (.i e) H):=by kernel_rfl
def ana{R:aJ}{a:af}{b:aQ}{e d:Int}{H:DH}:az R 123 [.agg [.str a,.row 2 b],.i e,.i d] H =
 cond (decide (e>100)) (ret (.i d) H) (cond (decide (d>2000)) (ret (.i d) H) (ac R 123 200005 [.n e,.n (bm (d+1)),.lp 0 0,.n 0] [(0,[.str a,.row 2 b])] H)):=by kernel_rfl
def ya{R:aJ}{v1 v2 e:Int}{a:af}{b:aQ}{H:DH}:aF R 123 200005 [.n v1,.n v2,.lp 0 0,.n e] [(0,[.str a,.row 2 b])] H =
 cond (decide (e<b.length)) (cond (decide (v2<=2000)) (bg e λc=>aX b c λc=>ah c 0 λd=>ah c 1 λc=>C R 123 [.agg [d,c],.i (bm (v1+1)),.i v2] H λc H=>ac R 123 200005 [.n v1,.g c,.lp 0 0,.n (bm (e+1))] [(0,[.str a,.row 2 b])] H) (ret (.i v2) H)) (ret (.i v2) H):=by kernel_rfl
def f129{R:aJ}{b:af}{H:DH}:az R 129 [.str b] H =
 C R 170 [.str b] H λa H=>aA ab .eql 3 true a (.i 2) λa=>ret a H:=by kernel_rfl
def amJ{R:aJ}{b:af}{H:DH}:az R 170 [.str b] H =
 cond ((b.length:Int)==0) (ret (.i 0) H) (cond (decide ((b.length:Int)>100)) (ret (.i 0) H) (fv b 0 λa=>C R 231 [a] H λa H=>brD a (ret (.i 0) H) (cond (decide ((b.length:Int)>1)) (cF ab 9 (.str b) none (some (.i 2)) none H λa H=>aA ab .eql 9 true a (.str [40,42]) λa=>brD a (ret (.i 0) H) (ac R 170 5 [.g (.str b)] [] H)) (ac R 170 5 [.g (.str b)] [] H)))):=by kernel_rfl
def afj{R:aJ}{d:af}{H:DH}:aF R 170 5 [.g (.str d)] [] H =
 C R 232 [.str d,.i 0] H λa H=>fI a 0 λb=>fI a 1 λa=>aj 4 b λb=>aC (xT 0 0 [] 0) 0 b λb=>aA ab .neq 29 true a (.i 0) λa=>brD a (ret (.i 0) H) (ah b 2 λa=>aP ab 9 a H λa=>aA ab .neq 3 false a (.i d.length) λa=>brD a (ret (.i 0) H) (ah b 0 λa=>ret a H)):=by kernel_rfl
def amG{R:aJ}{a:af}{b c:aQ}{H:DH}:az R 183 [.agg [.str a,.row 1 b,.row 2 c]] H =
 cond (a==[]) (cond ((b.length:Int)==0) (ret (.bool ((c.length:Int)==0)) H) (ret (.bool false) H)) (ret (.bool false) H):=by kernel_rfl
def amD{R:aJ}{a:af}{b c:aQ}{H:DH}:az R 186 [.agg [.str a,.row 1 b,.row 2 c]] H =
 C R 201 [.str a] H λa H=>brD a (cond (decide ((b.length:Int)<=16)) (C R 250 [.row 1 b,.func 251 [] []] H λa H=>brD a (cond (decide ((c.length:Int)>=1)) (cond (decide ((c.length:Int)<=16)) (C R 252 [.row 2 c,.func 248 [] []] H λa H=>ret a H) (ret (.bool false) H)) (ret (.bool false) H)) (ret (.bool false) H)) (ret (.bool false) H)) (ret (.bool false) H):=by kernel_rfl
def amx{R:aJ}{b:aQ}{H:DH}:az R 192 [.row 1 b] H =
 lN .eql b λa=>brD a (ret .nilrow H) (bQ (aG ab 3) 1 .nilrow b H λa H=>ret a H):=by kernel_rfl
def f197{R:aJ}{a:Int}{b:af}{c:aQ}{H:DH}:az R 197 [.agg [.i a,.str b,.row 3 c]] H =
 ac R 197 200002 [.lp 0 0,.n 0] [(0,[.i a,.str b,.row 3 c])] H:=by kernel_rfl
def xu{R:aJ}{v3 a:Int}{b:af}{c:aQ}{H:DH}:aF R 197 200002 [.lp 0 0,.n v3] [(0,[.i a,.str b,.row 3 c])] H =
 cond (decide (v3<c.length)) (bg v3 λd=>aX c d λd=>ah d 0 λe=>ah d 1 λf=>ah d 2 λd=>C R 197 [.agg [e,f,d]] H λd H=>eD .not d λd=>brD d (ret (.bool false) H) (ac R 197 200002 [.lp 0 0,.n (bm (v3+1))] [(0,[.i a,.str b,.row 3 c])] H)) (cond (a==1) (cond (b==[]) (ret (.bool ((c.length:Int)==0)) H) (ret (.bool false) H)) (cond (a==2) (C R 129 [.str b] H λa H=>brD a (ret (.bool ((c.length:Int)==0)) H) (ret (.bool false) H)) (cond (a==3) (C R 198 [.str b,.i c.length] H λa H=>ret a H) (ret (.bool false) H)))):=by kernel_rfl
def f245{R:aJ}{h:Nat}{a:af}{b:aQ}{j:Int}{H:DH}:az R 245 [.ptr h 0,.agg [.str a,.row 2 b],.i j] H =
 bj H (let c:=H++[.cells 0 [.ptr h 0]];let a:=c++[.cells 0 [.str a,.row 2 b]];let b:=a++[.cells 0 [.i j]];aB b H.length λ_ d=>ah d 0 λd=>aB b a.length λ_ e=>ah e 0 λe=>C R 303 [d,e,.func 304 [] [.ptr c.length 0,.ptr H.length 0,.ptr a.length 0]] b λ_ H=>ret (.tuple []) H):=by kernel_rfl
def amf{R:aJ}{b:aQ}{d:D}{H:DH}:az R 249 [.row 2 b,d] H =
 bj H (aj 1 d λa=>let a:=H++[.cells 0 a];C R 307 [.row 2 b,.func 308 [] [.ptr H.length 0]] a λa H=>eD .not a λa=>ret a H):=by kernel_rfl
def amb{R:aJ}{d:af}{H:DH}:az R 253 [.str d] H =
 bj H (cond (decide ((d.length:Int)>24)) (ret (.i 0) H) (C R 233 [.str d] H λa H=>fI a 0 λ_=>fI a 1 λb=>fI a 2 λa=>aj 2 a λa=>aC [.i 0,.i 0] 0 a λa=>ah a 1 λa=>aA ab .neq 29 true a (.i 0) λa=>brD a (ret (.i 0) H) (aP ab 200 b H λa=>aA ab .neq 3 true a (.i 1) λa=>brD a (ret (.i 0) H) (ay ab 200 b (.i 0) λa=>bI a 2 λa=>bJ ab 9 a H λa=>aA ab .neq 9 false a (.str d) λa=>brD a (ret (.i 0) H) (ay ab 200 b (.i 0) λa=>bI a 0 λa=>bJ ab 3 a H λa=>ret a H))))):=by kernel_rfl
def f260{R:aJ}{b:aQ}{d:af}{H:DH}:az R 260 [.row 1 b,.str d] H =
 C R 318 [.row 1 b,.str d] H λa H=>aA ab .geq 3 true a (.i 0) λa=>ret a H:=by kernel_rfl
def f284{R:aJ}{a:Int}{H:DH}:az R 284 [.int .u8 a] H =
 cond (decide (a>=97)) (ret (.bool (decide (a<=122))) H) (ret (.bool false) H):=by kernel_rfl
def alS{R:aJ}{a:af}{H:DH}:az R 288 [.str a] H =
 ac R 288 200003 [.g (.str a),.g (.row 1 [[.str [97,110,100]],[.str [99,97,115,101]],[.str [100,97,116,97]],[.str [101,108,115,101]],[.str [101,110,100]],[.str [102,110]],[.str [102,117,110]],[.str [105,102]],[.str [105,110]],[.str [105,110,112,117,116]],[.str [108,101,116]],[.str [111,102]],[.str [111,117,116,112,117,116]],[.str [116,104,101,110]],[.str [118,97,108]]]),.n 0] [] H:=by kernel_rfl
def wY{R:aJ}{d:af}{v3:aQ}{b:Int}{H:DH}:aF R 288 200003 [.g (.str d),.g (.row 1 v3),.n b] [] H =
 cond (decide (b<v3.length)) (bg b λa=>aX v3 a λa=>ah a 0 λa=>aA ab .eql 9 false a (.str d) λa=>brD a (ret (.bool true) H) (ac R 288 200003 [.g (.str d),.g (.row 1 v3),.n (bm (b+1))] [] H)) (ret (.bool false) H):=by kernel_rfl
def alP{R:aJ}{b:Nat}{H:DH}:az R 292 [.ptr b 0] H =
 let a:=H++[.cells 0 [.ptr b 0]];ret (.func 324 [] [.ptr H.length 0]) a:=by kernel_rfl
def alI{R:aJ}{a b c:Nat}{H:DH}:az R 305 [.ptr a 0,.ptr b 0,.ptr c 0] H =
 aB H a λ_ d=>ah d 4 λd=>aP ab 83 d H λe=>ac R 305 200001 [.g (.ptr a 0),.g (.ptr b 0),.g (.ptr c 0),.g d,.g e,.n 0] [] H:=by kernel_rfl
def wS{R:aJ}{j v1 v2:Nat}{k:D}{o a:Int}{H:DH}:aF R 305 200001 [.g (.ptr j 0),.g (.ptr v1 0),.g (.ptr v2 0),.g k,.n o,.n a] [] H =
 cond (decide (a<o)) (ay ab 83 k (.i a) λb=>bJ ab 86 b H λb=>aj 6 b λb=>aC [.i 0,.i 0,.str [],.str [],.nilrow,.nilrow] 0 b λb=>aB H v1 λ_ c=>ah c 0 λc=>ah b 0 λd=>ah b 1 λe=>ah b 2 λf=>ah b 3 λg=>ah b 4 λh=>ah b 5 λb=>aB H v2 λ_ i=>ah i 0 λi=>aA ab .add 3 true i (.i 1) λi=>C R 246 [c,.agg [d,e,f,g,h,b],i] H λ_ H=>ac R 305 200001 [.g (.ptr j 0),.g (.ptr v1 0),.g (.ptr v2 0),.g k,.n o,.n (bm (a+1))] [] H) (aB H j λ_ a=>ah a 5 λa=>aP ab 84 a H λb=>ac R 305 200006 [.g (.ptr v1 0),.g (.ptr v2 0),.g a,.g b,.n 0] [] H):=by kernel_rfl
def wR{R:aJ}{v1 v2:Nat}{a:D}{b c:Int}{H:DH}:aF R 305 200006 [.g (.ptr v1 0),.g (.ptr v2 0),.g a,.n b,.n c] [] H =
 cond (decide (c<b)) (ay ab 84 a (.i c) λd=>bJ ab 232 d H λd=>aj 3 d λd=>aC [.i 0,.str [],.nilrow] 0 d λd=>aB H v1 λ_ e=>ah e 0 λe=>ah d 0 λf=>ah d 1 λg=>ah d 2 λd=>aB H v2 λ_ h=>ah h 0 λh=>aA ab .add 3 true h (.i 1) λh=>C R 306 [e,.agg [f,g,d],h] H λ_ H=>ac R 305 200006 [.g (.ptr v1 0),.g (.ptr v2 0),.g a,.n b,.n (bm (c+1))] [] H) (ret (.tuple []) H):=by kernel_rfl
def f318{R:aJ}{a:aQ}{b:af}{H:DH}:az R 318 [.row 1 a,.str b] H =
 ac R 318 200002 [.g (.row 1 a),.g (.str b),.n a.length,.n 0] [] H:=by kernel_rfl
def wP{R:aJ}{d:aQ}{v1:af}{e b:Int}{H:DH}:aF R 318 200002 [.g (.row 1 d),.g (.str v1),.n e,.n b] [] H =
 cond (decide (b<e)) (bg b λa=>aX d a λa=>ah a 0 λa=>aA ab .eql 9 false (.str v1) a λa=>brD a (ret (.i b) H) (ac R 318 200002 [.g (.row 1 d),.g (.str v1),.n e,.n (bm (b+1))] [] H)) (ret (.i (-1)) H):=by kernel_rfl
def als{R:aJ}{b:aQ}{a:Nat}{H:DH}:az R 333 [.row 1 b,.func 310 [] [.ptr a 0]] H =
 ac R 333 200002 [.g (.row 1 b),.g (.func 310 [] [.ptr a 0]),.n b.length,.n 0] [] H:=by kernel_rfl
def wK{R:aJ}{h:aQ}{v1:D}{j e:Int}{H:DH}:aF R 333 200002 [.g (.row 1 h),.g v1,.n j,.n e] [] H =
 cond (decide (e<j)) (bg e λa=>aX h a λa=>ah a 0 λa=>fH bF v1 λb c d=>C R b (c++([a]++d)) H λa H=>brD a (ret (.i e) H) (ac R 333 200002 [.g (.row 1 h),.g v1,.n j,.n (bm (e+1))] [] H)) (ret (.i (-1)) H):=by kernel_rfl
def alm{R:aJ}{b:Nat}{H:DH}:az R 342 [.ptr b 0] H =
 aB H b λ_ a=>ah a 1 λa=>ac R 342 200002 [.g (.ptr b 0),.g a,.n 0] [] H:=by kernel_rfl
def Ki{R:aJ}{d:Nat}{v2 v3:Int}{H:DH}:aF R 342 200002 [.g (.ptr d 0),.n v2,.n v3] [] H =
 aB H d λ_ a=>ah a 1 λa=>aB H d λ_ b=>ah b 0 λb=>aP ab 9 b H λb=>aA ab .geq 3 false a b λa=>brD a (pan (.iface 321 (.agg [.i v2,.i 12])) H) (C R 341 [.ptr d 0,.str [40,42]] H λa H=>brD a (cond (decide (v3>=100)) (aB H d λ_ a=>ah a 1 λa=>aj 1 a λa=>aC [.i 0,.i 0] 0 a λa=>aC a 1 [.i 6] λa=>pan (.iface 321 (.agg a)) H) (aB H d λ_ a=>ah a 1 λa=>aA ab .add 3 true a (.i 2) λa=>aj 1 a λa=>aB H d λb c=>aC c 1 a λa=>let H:=H.set d (.cells (b+1) a);ac R 342 200002 [.g (.ptr d 0),.n v2,.n (bm (v3+1))] [] H)) (C R 341 [.ptr d 0,.str [42,41]] H λa H=>brD a (aB H d λ_ a=>ah a 1 λa=>aA ab .add 3 true a (.i 2) λa=>aj 1 a λa=>aB H d λb c=>aC c 1 a λa=>let H:=H.set d (.cells (b+1) a);cond ((bm (v3 - 1))==0) (ret (.tuple []) H) (ac R 342 200002 [.g (.ptr d 0),.n v2,.n (bm (v3 - 1))] [] H)) (aB H d λ_ a=>ah a 1 λa=>aA ab .add 3 true a (.i 1) λa=>aj 1 a λa=>aB H d λb c=>aC c 1 a λa=>let H:=H.set d (.cells (b+1) a);ac R 342 200002 [.g (.ptr d 0),.n v2,.n v3] [] H))):=by kernel_rfl
def alb{R:aJ}{d b:af}{H:DH}:az R 359 [.str d,.str b] H =
 cond (decide ((d.length:Int)>=(b.length:Int))) (cF ab 9 (.str d) none (some (.i b.length)) none H λa H=>aA ab .eql 9 false a (.str b) λa=>ret a H) (ret (.bool false) H):=by kernel_rfl
def f63{R:aJ}{a b:Int}{H:DH}:az R 63 [.i a,.i b] H =
 cond (decide (a>100)) (ret (.i 6) H) (cond (decide (b>2000)) (ret (.i 2) H) (ret (.i 0) H)):=by kernel_rfl
def f66{R:aJ}{a:Int}{b:Bool}{H:DH}:az R 66 [.i a,.bool b] H =
 cond (a==0) (cond (!b) (ret (.i 21) H) (ret (.i a) H)) (ret (.i a) H):=by kernel_rfl
def f69{R:aJ}{lo ln:Nat}{a b:Int}{c e:af}{h j:aQ}{k l:Int}{m:aQ}{p:Bool}{q:Int}{r:af}{H:DH}:az R 69 [.buf 12 lo ln,.agg [.i a,.i b,.str c,.str e,.row 6 h,.row 3 j,.i k,.i l,.row 1 m,.bool p,.i q,.str r]] H =
 bj H (C R 132 [.agg (xE a b c e h j)] H λd H=>aj 1 d λd=>aC [.i a,.i b,.str c,.str e,.row 6 h,.row 3 j,.i k,.i l,.row 1 m,.bool p,.i q,.str r] 10 d λa=>ah a 0 λb=>ah a 1 λc=>ah a 2 λd=>ah a 3 λe=>ah a 4 λf=>ah a 5 λg=>ah a 6 λh=>ah a 7 λi=>ah a 8 λj=>ah a 9 λk=>ah a 10 λl=>ah a 11 λm=>bQ (aG ab 98) 12 (.buf 12 lo ln) [[b,c,d,e,f,g,h,i,j,k,l,m]] H λb H=>ac R 69 200004 [.g b,.lp 0 0,.n 0] [(0,a)] H):=by kernel_rfl
def Cd{R:aJ}{h:D}{e:Int}{w0:List D}{H:DH}:aF R 69 200004 [.g h,.lp 0 0,.n e] [(0,w0)] H =
 ah w0 4 λa=>aP ab 83 a H λa=>aA ab .lss 3 false (.i e) a λa=>brD a (ah w0 4 λa=>ay ab 83 a (.i e) λa=>bJ ab 86 a H λa=>ah w0 9 λb=>aj 6 a λa=>aC [.i 0,.i 0,.str [],.str [],.nilrow,.nilrow,.i 0,.i 0,.nilrow,.bool false,.i 0,.str []] 0 a λa=>aj 1 b λb=>aC a 9 b λa=>aj 12 (.agg a) λa=>aC [.i 0,.i 0,.str [],.str [],.nilrow,.nilrow,.i 0,.i 0,.nilrow,.bool false,.i 0,.str []] 0 a λa=>ah w0 8 λb=>CU b H 1 λb=>bQ (aG ab 3) 1 .nilrow b H λb H=>bQ (aG ab 3) 1 b [[.i e]] H λb H=>ct (.fz 1) 0 b H λb H=>ah w0 6 λc=>ah w0 7 λd=>aj 1 c λc=>aC [.i 0,.i 0,.nilrow] 0 c λc=>aj 1 d λd=>aC c 1 d λc=>aj 1 b λb=>aC c 2 b λb=>aj 3 (.agg b) λb=>aC a 6 b λa=>cond (e==0) (ah w0 0 λb=>aA ab .eql 3 true b (.i 5) λb=>brD b (ah w0 3 λb=>aj 1 b λb=>aC a 11 b λa=>ac R 69 10 [.g h,.lp 0 0,.n e,.lp 1 0] [(0,w0),(0,a)] H) (ah w0 0 λb=>aA ab .eql 3 true b (.i 7) λb=>brD b (ah w0 3 λb=>aj 1 b λb=>aC a 11 b λa=>ac R 69 10 [.g h,.lp 0 0,.n e,.lp 1 0] [(0,w0),(0,a)] H) (ac R 69 10 [.g h,.lp 0 0,.n e,.lp 1 0] [(0,w0),(0,a)] H))) (ac R 69 10 [.g h,.lp 0 0,.n e,.lp 1 0] [(0,w0),(0,a)] H)) (ret h H):=by kernel_rfl
def aeY{R:aJ}{q:D}{r:Int}{w0 o:List D}{H:DH}:aF R 69 10 [.g q,.lp 0 0,.n r,.lp 1 0] [(0,w0),(0,o)] H =
 ah o 0 λa=>ah o 1 λb=>ah o 2 λc=>ah o 3 λd=>ah o 4 λe=>ah o 5 λf=>ah o 6 λg=>ah o 7 λh=>ah o 8 λi=>ah o 9 λj=>ah o 10 λk=>ah o 11 λl=>C R 69 [q,.agg [a,b,c,d,e,f,g,h,i,j,k,l]] H λa H=>ac R 69 200004 [.g a,.lp 0 0,.n (bm (r+1))] [(0,w0)] H:=by kernel_rfl
def anc{R:aJ}{a:Int}{b:af}{c e:aQ}{h j:af}{k l:aQ}{m p:Int}{q r:af}{s t:aQ}{H:DH}:az R 121 [.agg (xD a b c e h j k l m p q r s t)] H =
 bj H (cond (a==4) (ret (.row 6 [(xE m p q r s t)]) H) (cond (a==5) (ret (.row 6 [(xE m p q r s t)]) H) (let d:=H++[.buf 6 true false []];cond (a==3) (ac R 121 200006 [.lp 0 0,.g (.buf 6 H.length 0),.n 0] [(0,xD a b c e h j k l m p q r s t)] d) (eZ (.fz 6) (.buf 6 H.length 0) d λa H=>ret a H)))):=by kernel_rfl
def yd{R:aJ}{a b:Nat}{w c:Int}{e:af}{h j:aQ}{k l:af}{m p:aQ}{q r:Int}{s t:af}{u v:aQ}{H:DH}:aF R 121 200006 [.lp 0 0,.g (.buf 6 a b),.n w] [(0,xD c e h j k l m p q r s t u v)] H =
 cond (decide (w<p.length)) (bg w λd=>aX p d λd=>ah d 2 λf=>ah d 3 λg=>ah d 4 λi=>ah d 5 λn=>ah d 6 λo=>ah d 7 λd=>bQ (aG ab 86) 6 (.buf 6 a b) [[f,g,i,n,o,d]] H λa H=>ct (.acc 6) 0 a H λa H=>ac R 121 200006 [.lp 0 0,.g a,.n (bm (w+1))] [(0,xD c e h j k l m p q r s t u v)] H) (eZ (.fz 6) (.buf 6 a b) H λa H=>ret a H):=by kernel_rfl
def amX{R:aJ}{a:af}{b:aQ}{H:DH}:az R 126 [.agg [.str a,.row 2 b]] H =
 cond (a==[]) (ret (.bool ((b.length:Int)==0)) H) (ret (.bool false) H):=by kernel_rfl
def amS{R:aJ}{a b:Int}{c e:af}{h j:aQ}{H:DH}:az R 132 [.agg (xE a b c e h j)] H =
 ac R 132 200003 [.lp 0 0,.n 1,.n 0] [(0,xE a b c e h j)] H:=by kernel_rfl
def xP{R:aJ}{v3 o a b:Int}{c e:af}{h j:aQ}{H:DH}:aF R 132 200003 [.lp 0 0,.n v3,.n o] [(0,xE a b c e h j)] H =
 cond (decide (o<h.length)) (bg o λd=>aX h d λd=>ah d 0 λf=>ah d 1 λg=>ah d 2 λi=>ah d 3 λk=>ah d 4 λl=>ah d 5 λd=>C R 132 [.agg [f,g,i,k,l,d]] H λd H=>aA ab .add 3 false (.i v3) d λd=>ac R 132 200003 [.lp 0 0,.g d,.n (bm (o+1))] [(0,xE a b c e h j)] H) (ret (.i v3) H):=by kernel_rfl
def amH{R:aJ}{a:Int}{b:af}{c e:aQ}{g h:af}{j k:aQ}{l m:Int}{p q:af}{r s:aQ}{t:Nat}{H:DH}:az R 182 [.agg (xD a b c e g h j k l m p q r s),.ptr t 0] H =
 aB H t λ_ d=>ah d 0 λd=>fH bF d λd f i=>C R d (f++([.agg (xD a b c e g h j k l m p q r s)]++i)) H λa H=>eD .not a λa=>ret a H:=by kernel_rfl
def amC{R:aJ}{b:af}{H:DH}:az R 187 [.str b] H =
 C R 253 [.str b] H λa H=>aA ab .eql 3 true a (.i 2) λa=>ret a H:=by kernel_rfl
def amy{R:aJ}{a b:Int}{c e:af}{h j:aQ}{H:DH}:az R 191 [.agg (xE a b c e h j)] H =
 C R 256 [.row 6 h,.func 191 [] []] H λd H=>eD .not d λd=>brD d (ret (.bool false) H) (C R 257 [.row 3 j,.func 258 [] []] H λd H=>eD .not d λd=>brD d (ret (.bool false) H) (cond (a != 1) (cond (b != 0) (ret (.bool false) H) (cond (a != 5) (cond (a != 7) (cond (!(e==[])) (ret (.bool false) H) (cond (a != 8) (cond (decide ((j.length:Int)>0)) (ret (.bool false) H) (ac R 191 6 [.lp 0 0,.n h.length] [(0,xE a b c e h j)] H)) (ac R 191 6 [.lp 0 0,.n h.length] [(0,xE a b c e h j)] H))) (cond (a != 8) (cond (decide ((j.length:Int)>0)) (ret (.bool false) H) (ac R 191 6 [.lp 0 0,.n h.length] [(0,xE a b c e h j)] H)) (ac R 191 6 [.lp 0 0,.n h.length] [(0,xE a b c e h j)] H))) (cond (a != 8) (cond (decide ((j.length:Int)>0)) (ret (.bool false) H) (ac R 191 6 [.lp 0 0,.n h.length] [(0,xE a b c e h j)] H)) (ac R 191 6 [.lp 0 0,.n h.length] [(0,xE a b c e h j)] H)))) (cond (a != 5) (cond (a != 7) (cond (!(e==[])) (ret (.bool false) H) (cond (a != 8) (cond (decide ((j.length:Int)>0)) (ret (.bool false) H) (ac R 191 6 [.lp 0 0,.n h.length] [(0,xE a b c e h j)] H)) (ac R 191 6 [.lp 0 0,.n h.length] [(0,xE a b c e h j)] H))) (cond (a != 8) (cond (decide ((j.length:Int)>0)) (ret (.bool false) H) (ac R 191 6 [.lp 0 0,.n h.length] [(0,xE a b c e h j)] H)) (ac R 191 6 [.lp 0 0,.n h.length] [(0,xE a b c e h j)] H))) (cond (a != 8) (cond (decide ((j.length:Int)>0)) (ret (.bool false) H) (ac R 191 6 [.lp 0 0,.n h.length] [(0,xE a b c e h j)] H)) (ac R 191 6 [.lp 0 0,.n h.length] [(0,xE a b c e h j)] H))))):=by kernel_rfl
def afi{R:aJ}{v3 a b:Int}{c e:af}{h j:aQ}{H:DH}:aF R 191 6 [.lp 0 0,.n v3] [(0,xE a b c e h j)] H =
 ac R 191 7 [.lp 0 0,.n v3,.n a] [(0,xE a b c e h j)] H:=by kernel_rfl
def afh{R:aJ}{v3 a b c:Int}{e h:af}{j k:aQ}{H:DH}:aF R 191 7 [.lp 0 0,.n v3,.n a] [(0,xE b c e h j k)] H =
 cond (a==1) (cond (e==[]) (ret (.bool (v3==0)) H) (ret (.bool false) H)) (cond (a==2) (C R 187 [.str e] H λa H=>brD a (ret (.bool (v3==0)) H) (ret (.bool false) H)) (cond (a==3) (C R 259 [.str e,.i v3] H λa H=>ret a H) (cond (a==4) (cond (e==[]) (ret (.bool (v3==2)) H) (ret (.bool false) H)) (cond (a==5) (cond (e==[]) (C R 187 [.str h] H λa H=>brD a (ret (.bool (v3==1)) H) (ret (.bool false) H)) (ret (.bool false) H)) (cond (a==6) (C R 187 [.str e] H λa H=>brD a (ret (.bool (v3==2)) H) (ret (.bool false) H)) (cond (a==7) (C R 187 [.str e] H λa H=>brD a (C R 187 [.str h] H λa H=>brD a (ret (.bool (v3==2)) H) (ret (.bool false) H)) (ret (.bool false) H)) (cond (a==8) (cond (e==[]) (cond (decide ((k.length:Int)>=1)) (cond (decide ((k.length:Int)<=16)) (ret (.bool (v3==(bm ((k.length:Int)+1)))) H) (ret (.bool false) H)) (ret (.bool false) H)) (ret (.bool false) H)) (cond (a==9) (bd (R (.call 261 [] none) H) (λa H=>bd (R (.call 260 [a,.str e] none) H) (λa H=>brD a (ret (.bool (v3==2)) H) (ret (.bool false) H)) λ_ _=>none) λ_ _=>none) (ret (.bool false) H))))))))):=by kernel_rfl
def amd{R:aJ}{b:af}{H:DH}:az R 251 [.str b] H =
 C R 253 [.str b] H λa H=>aA ab .eql 3 true a (.i 4) λa=>ret a H:=by kernel_rfl
def alY{R:aJ}{b:aQ}{d:D}{H:DH}:az R 256 [.row 6 b,d] H =
 bj H (aj 1 d λa=>let a:=H++[.cells 0 a];C R 314 [.row 6 b,.func 315 [] [.ptr H.length 0]] a λa H=>eD .not a λa=>ret a H):=by kernel_rfl
def alU{R:aJ}{H:DH}:az R 261 [] H =
 ret (.row 1 [[.str [43]],[.str [45]],[.str [42]],[.str [47]],[.str [37]],[.str [60]],[.str [61]]]) H:=by kernel_rfl
def f285{R:aJ}{a:af}{b:Int}{H:DH}:az R 285 [.str a,.i b] H =
 ac R 285 200002 [.g (.str a),.n b] [] H:=by kernel_rfl
def Kq{R:aJ}{d:af}{b:Int}{H:DH}:aF R 285 200002 [.g (.str d),.n b] [] H =
 cond (decide (b<d.length)) (bg b λa=>fv d a λa=>C R 283 [a] H λa H=>brD a (ac R 285 200002 [.g (.str d),.n (bm (b+1))] [] H) (ret (.i b) H)) (ret (.i b) H):=by kernel_rfl
def afc{R:aJ}{a b:Nat}{H:DH}:Tm de R 200 (.call 291 [.ptr a 0,.ptr b 0] (some .returning)) H =
 some ⟨.ret (.tuple []),(some .returning),H⟩:=by kernel_rfl
def afd{R:aJ}{b c:Nat}{a e:Int}{H:DH}:Tm de R 200 (.call 291 [.ptr b 0,.ptr c 0] (some (.panicking [⟨.iface 321 (.agg [.i a,.i e]),false⟩]))) H =
 nQ ab (.iface 321 (.agg [.i a,.i e])) 321 true λd=>fI d 1 λf=>fI d 0 λd=>brD f (aj 2 d λd=>aC [.i 0,.i 0] 0 d λd=>aB H b λf g=>aC g 0 [.nilrow] λg=>let H:=H.set b (.cells (f+1) g);ah d 0 λb=>ah d 1 λd=>aB H c λf g=>aC g 0 [b,d] λb=>let H:=H.set c (.cells (f+1) b);some ⟨.ret (.tuple []),(some (.panicking [⟨.iface 321 (.agg [.i a,.i e]),true⟩])),H⟩) (some ⟨.pan [⟨.iface 321 (.agg [.i a,.i e]),false⟩],(some (.panicking [⟨.iface 321 (.agg [.i a,.i e]),true⟩])),H⟩):=by kernel_rfl
def alM{R:aJ}{a b c:Nat}{H:DH}:az R 301 [.ptr a 0,.ptr b 0,.ptr c 0] H =
 aB H a λ_ d=>ah d 4 λd=>aP ab 83 d H λe=>ac R 301 200001 [.g (.ptr a 0),.g (.ptr b 0),.g (.ptr c 0),.g d,.g e,.n 0] [] H:=by kernel_rfl
def wV{R:aJ}{j v1 v2:Nat}{k:D}{o a:Int}{H:DH}:aF R 301 200001 [.g (.ptr j 0),.g (.ptr v1 0),.g (.ptr v2 0),.g k,.n o,.n a] [] H =
 cond (decide (a<o)) (ay ab 83 k (.i a) λb=>bJ ab 86 b H λb=>aj 6 b λb=>aC [.i 0,.i 0,.str [],.str [],.nilrow,.nilrow] 0 b λb=>aB H v1 λ_ c=>ah c 0 λc=>ah b 0 λd=>ah b 1 λe=>ah b 2 λf=>ah b 3 λg=>ah b 4 λh=>ah b 5 λb=>aB H v2 λ_ i=>ah i 0 λi=>aA ab .add 3 true i (.i 1) λi=>C R 244 [c,.agg [d,e,f,g,h,b],i] H λ_ H=>ac R 301 200001 [.g (.ptr j 0),.g (.ptr v1 0),.g (.ptr v2 0),.g k,.n o,.n (bm (a+1))] [] H) (aB H j λ_ a=>ah a 5 λa=>aP ab 84 a H λb=>ac R 301 200006 [.g (.ptr v1 0),.g (.ptr v2 0),.g a,.g b,.n 0] [] H):=by kernel_rfl
def wU{R:aJ}{v1 v2:Nat}{a:D}{b c:Int}{H:DH}:aF R 301 200006 [.g (.ptr v1 0),.g (.ptr v2 0),.g a,.n b,.n c] [] H =
 cond (decide (c<b)) (ay ab 84 a (.i c) λd=>bJ ab 232 d H λd=>aj 3 d λd=>aC [.i 0,.str [],.nilrow] 0 d λd=>aB H v1 λ_ e=>ah e 0 λe=>ah d 0 λf=>ah d 1 λg=>ah d 2 λd=>aB H v2 λ_ h=>ah h 0 λh=>aA ab .add 3 true h (.i 1) λh=>C R 302 [e,.agg [f,g,d],h] H λ_ H=>ac R 301 200006 [.g (.ptr v1 0),.g (.ptr v2 0),.g a,.n b,.n (bm (c+1))] [] H) (ret (.tuple []) H):=by kernel_rfl
def alz{R:aJ}{a b:Int}{c e:af}{g h:aQ}{j:Nat}{H:DH}:az R 315 [.agg (xE a b c e g h),.ptr j 0] H =
 aB H j λ_ d=>ah d 0 λd=>fH bF d λd f i=>C R d (f++([.agg (xE a b c e g h)]++i)) H λa H=>eD .not a λa=>ret a H:=by kernel_rfl
def alw{R:aJ}{e:Nat}{H:DH}:az R 326 [.ptr e 0] H =
 C R 343 [.ptr e 0,.i 0] H λa H=>C R 344 [a] H λb H=>brD b (C R 345 [.ptr e 0] H λa H=>aj 4 a λa=>aC (xT 0 0 [] 0) 0 a λa=>ah a 0 λb=>ah a 1 λc=>ah a 2 λd=>ah a 3 λa=>ret (.agg [b,c,d,a]) H) (aA ab .eql 5 true a (.int .u8 126) λb=>brD b (C R 345 [.ptr e 0] H λa H=>aj 4 a λa=>aC (xT 0 0 [] 0) 0 a λa=>ah a 0 λb=>ah a 1 λc=>ah a 2 λd=>ah a 3 λa=>ret (.agg [b,c,d,a]) H) (C R 346 [a] H λb H=>brD b (C R 347 [.ptr e 0,.i 2] H λa H=>aj 4 a λa=>aC (xT 0 0 [] 0) 0 a λa=>ah a 0 λb=>ah a 1 λc=>ah a 2 λd=>ah a 3 λa=>ret (.agg [b,c,d,a]) H) (C R 348 [a] H λb H=>brD b (C R 347 [.ptr e 0,.i 3] H λa H=>aj 4 a λa=>aC (xT 0 0 [] 0) 0 a λa=>ah a 0 λb=>ah a 1 λc=>ah a 2 λd=>ah a 3 λa=>ret (.agg [b,c,d,a]) H) (aA ab .eql 5 true a (.int .u8 39) λb=>brD b (C R 343 [.ptr e 0,.i 1] H λb H=>C R 346 [b] H λb H=>brD b (C R 339 [.ptr e 0,.i 1,.func 350 [] []] H λa H=>aA ab .add 3 true (.i 1) a λa=>C R 349 [.ptr e 0,.i 4,a] H λa H=>aj 4 a λa=>aC (xT 0 0 [] 0) 0 a λa=>ah a 0 λb=>ah a 1 λc=>ah a 2 λd=>ah a 3 λa=>ret (.agg [b,c,d,a]) H) (ac R 326 11 [.g (.ptr e 0),.lp 0 0,.g a] [(0,(xT 0 0 [] 0))] H)) (ac R 326 11 [.g (.ptr e 0),.lp 0 0,.g a] [(0,(xT 0 0 [] 0))] H))))):=by kernel_rfl
def ZW{R:aJ}{h:Nat}{v3 a b:Int}{c:af}{e:Int}{H:DH}:aF R 326 11 [.g (.ptr h 0),.lp 0 0,.g (.int .u8 v3)] [(0,xT a b c e)] H =
 C R 341 [.ptr h 0,.str [61,62]] H λd H=>brD d (C R 349 [.ptr h 0,.i 6,.i 2] H λd H=>aj 4 d λd=>aC (xT a b c e) 0 d λa=>ah a 0 λb=>ah a 1 λc=>ah a 2 λd=>ah a 3 λa=>ret (.agg [b,c,d,a]) H) (C R 341 [.ptr h 0,.str [45,62]] H λd H=>brD d (C R 349 [.ptr h 0,.i 6,.i 2] H λd H=>aj 4 d λd=>aC (xT a b c e) 0 d λa=>ah a 0 λb=>ah a 1 λc=>ah a 2 λd=>ah a 3 λa=>ret (.agg [b,c,d,a]) H) (C R 351 [.str [40,41,44,59,58,124,61,60,43,45,42,47,37,95],.int .u8 v3] H λd H=>aA ab .geq 3 true d (.i 0) λd=>brD d (C R 349 [.ptr h 0,.i 6,.i 1] H λd H=>aj 4 d λd=>aC (xT a b c e) 0 d λa=>ah a 0 λb=>ah a 1 λc=>ah a 2 λd=>ah a 3 λa=>ret (.agg [b,c,d,a]) H) (aB H h λ_ a=>ah a 1 λa=>aj 1 a λa=>aC [.i 0,.i 0] 0 a λa=>aC a 1 [.i 11] λa=>pan (.iface 321 (.agg a)) H))):=by kernel_rfl
def ald{R:aJ}{b:Int}{H:DH}:az R 350 [.int .u8 b] H =
 C R 346 [.int .u8 b] H λa H=>brD a (ret (.bool true) H) (C R 348 [.int .u8 b] H λa H=>brD a (ret (.bool true) H) (C R 344 [.int .u8 b] H λa H=>brD a (ret (.bool true) H) (ret (.bool (b==95)) H))):=by kernel_rfl
def f62{R:aJ}{n:Nat}{a b c e:Int}{g h:af}{j k l:Int}{m p:af}{q r:aQ}{o:Int}{H:DH}:az R 62 [.ptr n 0,.agg [.i a,.i b,.i c,.i e,.str g,.str h,.i j],.agg (xE k l m p q r),.i o] H =
 bj H (aB H n λ_ d=>ah d 1 λd=>aP ab 78 d H λd=>aj 1 d λd=>aC [.i a,.i b,.i c,.i e,.str g,.str h,.i j] 0 d λa=>aB H n λ_ b=>ah b 2 λb=>ah a 0 λc=>ah a 1 λd=>ah a 2 λe=>ah a 3 λf=>ah a 4 λg=>ah a 5 λh=>ah a 6 λi=>bQ (aG ab 152) 7 b [[c,d,e,f,g,h,i]] H λb H=>aj 1 b λb=>aB H n λc d=>aC d 2 b λb=>let H:=H.set n (.cells (c+1) b);ah a 1 λa=>aj 1 a λa=>aC [.i 0,.i 0,.nilrow] 0 a λa=>aC a 1 [.i o] λa=>ct (.fz 1) 2 (.agg a) H λa b=>aB H n λ_ c=>ah c 2 λc=>aP ab 79 c H λc=>aA ab .sub 3 true c (.i 1) λc=>bd (R (.call 118 [.ptr n 0,.agg (xE k l m p q r),a,c] none) b) (λ_ H=>ret (.tuple []) H) λ_ _=>none):=by kernel_rfl
def anl{R:aJ}{a:aQ}{H:DH}:az R 113 [.agg [.row 14 a]] H =
 bj H (let b:=H++[.cells 0 [.i 0]];ac R 113 200003 [.g (.ptr H.length 0),.g (.row 14 a),.n a.length,.n 0] [] b):=by kernel_rfl
def yj{R:aJ}{v3:Nat}{q:aQ}{a b:Int}{H:DH}:aF R 113 200003 [.g (.ptr v3 0),.g (.row 14 q),.n a,.n b] [] H =
 cond (decide (b<a)) (bg b λc=>aX q c λc=>ah c 0 λd=>ah c 1 λe=>ah c 2 λf=>ah c 3 λg=>ah c 4 λh=>ah c 5 λi=>ah c 6 λj=>ah c 7 λk=>ah c 8 λl=>ah c 9 λm=>ah c 10 λn=>ah c 11 λo=>ah c 12 λp=>ah c 13 λc=>C R 179 [.ptr v3 0,.agg [d,e,f,g,h,i,j,k,l,m,n,o,p,c]] H λ_ H=>ac R 113 200003 [.g (.ptr v3 0),.g (.row 14 q),.n a,.n (bm (b+1))] [] H) (aB H v3 λ_ a=>ah a 0 λa=>ret a H):=by kernel_rfl
def anj{R:aJ}{a b:Int}{d:Bool}{H:DH}:az R 115 [.i a,.i b,.bool d] H =
 cond (decide (a>100)) (ret (.i 6) H) (cond (decide (b>2000)) (ret (.i 2) H) (cond (!d) (ret (.i 21) H) (ret (.i 0) H))):=by kernel_rfl
def anh{R:aJ}{a:Int}{b:af}{c e:aQ}{g h:af}{j k:aQ}{l m:Int}{p q:af}{r s:aQ}{H:DH}:az R 117 [.agg (xD a b c e g h j k l m p q r s)] H =
 bd (R (.call 183 [.agg [.str b,.row 1 c,.row 2 e]] none) H) (λd H=>bd (R (.call 184 [.agg [.str h,.row 2 j]] none) H) (λf H=>bd (R (.call 185 [.agg (xE l m p q r s)] none) H) (λi H=>cond (a==1) (C R 186 [.agg [.str b,.row 1 c,.row 2 e]] H λa H=>brD a (cond (g==[]) (brD f (brD i (ret (.bool ((k.length:Int)==0)) H) (ret (.bool false) H)) (ret (.bool false) H)) (ret (.bool false) H)) (ret (.bool false) H)) (cond (a==2) (brD d (C R 187 [.str g] H λa H=>brD a (C R 188 [.agg [.str h,.row 2 j]] H λa H=>brD a (brD i (ret (.bool ((k.length:Int)==0)) H) (ret (.bool false) H)) (ret (.bool false) H)) (ret (.bool false) H)) (ret (.bool false) H)) (cond (a==3) (brD d (cond (g==[]) (brD f (brD i (cond (decide ((k.length:Int)>=1)) (cond (decide ((k.length:Int)<=16)) (C R 189 [.row 8 k,.func 190 [] []] H λa H=>ret a H) (ret (.bool false) H)) (ret (.bool false) H)) (ret (.bool false) H)) (ret (.bool false) H)) (ret (.bool false) H)) (ret (.bool false) H)) (cond (a==4) (brD d (C R 187 [.str g] H λa H=>brD a (brD f (C R 191 [.agg (xE l m p q r s)] H λa H=>brD a (ret (.bool ((k.length:Int)==0)) H) (ret (.bool false) H)) (ret (.bool false) H)) (ret (.bool false) H)) (ret (.bool false) H)) (cond (a==5) (brD d (C R 187 [.str g] H λa H=>brD a (brD f (C R 191 [.agg (xE l m p q r s)] H λa H=>brD a (ret (.bool ((k.length:Int)==0)) H) (ret (.bool false) H)) (ret (.bool false) H)) (ret (.bool false) H)) (ret (.bool false) H)) (ret (.bool false) H)))))) λ_ _=>none) λ_ _=>none) λ_ _=>none:=by kernel_rfl
def amZ{R:aJ}{a b:Int}{c e:af}{h j:aQ}{k d:Int}{H:DH}:az R 124 [.agg (xE a b c e h j),.i k,.i d] H =
 cond (decide (k>100)) (ret (.i d) H) (cond (decide (d>2000)) (ret (.i d) H) (ac R 124 200005 [.n k,.n (bm (d+1)),.lp 0 0,.n 0] [(0,xE a b c e h j)] H)):=by kernel_rfl
def xZ{R:aJ}{v1 v2 k a b:Int}{c e:af}{h j:aQ}{H:DH}:aF R 124 200005 [.n v1,.n v2,.lp 0 0,.n k] [(0,xE a b c e h j)] H =
 cond (decide (k<j.length)) (cond (decide (v2<=2000)) (bg k λd=>aX j d λd=>ah d 0 λf=>ah d 1 λg=>ah d 2 λd=>C R 194 [.agg [f,g,d],.i (bm (v1+1)),.i v2] H λd H=>ac R 124 200005 [.n v1,.g d,.lp 0 0,.n (bm (k+1))] [(0,xE a b c e h j)] H) (ac R 124 200009 [.n v1,.n v2,.lp 0 0,.n 0] [(0,xE a b c e h j)] H)) (ac R 124 200009 [.n v1,.n v2,.lp 0 0,.n 0] [(0,xE a b c e h j)] H):=by kernel_rfl
def xY{R:aJ}{v1 v2 o a b:Int}{c e:af}{h j:aQ}{H:DH}:aF R 124 200009 [.n v1,.n v2,.lp 0 0,.n o] [(0,xE a b c e h j)] H =
 cond (decide (o<h.length)) (cond (decide (v2<=2000)) (bg o λd=>aX h d λd=>ah d 0 λf=>ah d 1 λg=>ah d 2 λi=>ah d 3 λk=>ah d 4 λl=>ah d 5 λd=>C R 124 [.agg [f,g,i,k,l,d],.i (bm (v1+1)),.i v2] H λd H=>ac R 124 200009 [.n v1,.g d,.lp 0 0,.n (bm (o+1))] [(0,xE a b c e h j)] H) (ret (.i v2) H)) (ret (.i v2) H):=by kernel_rfl
def Sl{R:aJ}{d:Nat}{a:Int}{b:af}{c e:aQ}{h j:af}{k l:aQ}{m p:Int}{q r:af}{s t:aQ}{H:DH}:az R 180 [.ptr d 0,.agg (xD a b c e h j k l m p q r s t)] H =
 cond (a==1) (ac R 180 200004 [.g (.ptr d 0),.g (.row 2 e),.n e.length,.n 0] [] H) (cond (a==2) (C R 245 [.ptr d 0,.agg [.str j,.row 2 k],.i 1] H λ_ H=>ret (.tuple []) H) (cond (a==3) (ac R 180 200016 [.g (.ptr d 0),.g (.row 8 l),.n l.length,.n 0] [] H) (cond (a==4) (C R 246 [.ptr d 0,.agg (xE m p q r s t),.i 1] H λ_ H=>ret (.tuple []) H) (cond (a==5) (C R 246 [.ptr d 0,.agg (xE m p q r s t),.i 1] H λ_ H=>ret (.tuple []) H) (ret (.tuple []) H))))):=by kernel_rfl
def xC{R:aJ}{h:Nat}{a:aQ}{b c:Int}{H:DH}:aF R 180 200004 [.g (.ptr h 0),.g (.row 2 a),.n b,.n c] [] H =
 cond (decide (c<b)) (bg c λd=>aX a d λd=>ah d 0 λ_=>ah d 1 λd=>aP ab 142 d H λe=>ac R 180 200007 [.g (.ptr h 0),.g (.row 2 a),.n b,.n c,.g d,.g e,.n 0] [] H) (ret (.tuple []) H):=by kernel_rfl
def xA{R:aJ}{j:Nat}{a:aQ}{b c:Int}{H:DH}:aF R 180 200016 [.g (.ptr j 0),.g (.row 8 a),.n b,.n c] [] H =
 cond (decide (c<b)) (bg c λd=>aX a d λd=>ah d 0 λ_=>ah d 1 λ_=>ah d 2 λe=>ah d 3 λf=>ah d 4 λg=>ah d 5 λh=>ah d 6 λi=>ah d 7 λd=>C R 246 [.ptr j 0,.agg [e,f,g,h,i,d],.i 1] H λ_ H=>ac R 180 200016 [.g (.ptr j 0),.g (.row 8 a),.n b,.n (bm (c+1))] [] H) (ret (.tuple []) H):=by kernel_rfl
def xB{R:aJ}{k:Nat}{a:aQ}{b c:Int}{e:D}{h j:Int}{H:DH}:aF R 180 200007 [.g (.ptr k 0),.g (.row 2 a),.n b,.n c,.g e,.n h,.n j] [] H =
 cond (decide (j<h)) (ay ab 142 e (.i j) λd=>bJ ab 144 d H λd=>aj 2 d λd=>aC [.str [],.nilrow] 0 d λd=>ah d 0 λf=>ah d 1 λd=>C R 245 [.ptr k 0,.agg [f,d],.i 1] H λ_ H=>ac R 180 200007 [.g (.ptr k 0),.g (.row 2 a),.n b,.n c,.g e,.n h,.n (bm (j+1))] [] H) (ac R 180 200004 [.g (.ptr k 0),.g (.row 2 a),.n b,.n (bm (c+1))] [] H):=by kernel_rfl
def f195{R:aJ}{b:af}{H:DH}:az R 195 [.str b] H =
 C R 170 [.str b] H λa H=>aA ab .eql 3 true a (.i 3) λa=>ret a H:=by kernel_rfl
def amt{R:aJ}{d:af}{b:Int}{H:DH}:az R 198 [.str d,.i b] H =
 cond (d==[44]) (cond (decide (b>=2)) (ret (.bool (decide (b<=4))) H) (ret (.bool false) H)) (C R 195 [.str d] H λa H=>brD a (ret (.bool (decide (b<=16))) H) (ret (.bool false) H)):=by kernel_rfl
def amh{R:aJ}{j:af}{H:DH}:az R 233 [.str j] H =
 let a:=H++[.cells 0 [.nilrow]];let b:=a++[.cells 0 [.i 0,.i 0]];C R 290 [.str j] b λb c=>bd (R (.call 292 [b] none) c) (λc d=>Se c λe f g=>bd (R (.call e (f++(.yld (d.length+1)::g)) none) (d++[.coll,adO de 233 [0,2,3,4,6,7,8,9,10] [.g (.str j),.g b,.g (.ptr H.length 0),.g (.ptr a.length 0),.g (.str j),.g b,.g (.func 291 [] [.ptr H.length 0,.ptr a.length 0]),.g b,.g c]])) (λ_ c=>Fs c (d.length+1) λc=>aB c H.length λ_ e=>ah e 0 λe=>aj 1 e λe=>aB c H.length λf g=>aC g 0 e λe=>let e:=c.set H.length (.cells (f+1) e);aB (dG e [c]) a.length λ_ c=>ah c 0 λf=>ah c 1 λc=>aB e a.length λg h=>aC h 0 [f,c] λc=>let c:=e.set a.length (.cells (g+1) c);uo c d.length λc=>Nt (R (.call 291 [.ptr H.length 0,.ptr a.length 0] (some .returning)) c) (λc=>aB c H.length λ_ d=>ah d 0 λd=>aB c a.length λ_ a=>ah a 0 λe=>ah a 1 λa=>ret (.tuple [b,d,.agg [e,a]]) c) λa H=>some ⟨.pan a,none,H⟩) λc e=>uo e d.length λd=>Nt (R (.call 291 [.ptr H.length 0,.ptr a.length 0] (some (.panicking c))) d) (λc=>aB c H.length λ_ d=>ah d 0 λd=>aB c a.length λ_ a=>ah a 0 λe=>ah a 1 λa=>ret (.tuple [b,d,.agg [e,a]]) c) λa H=>some ⟨.pan a,none,H⟩) λc d=>Nt (R (.call 291 [.ptr H.length 0,.ptr a.length 0] (some (.panicking c))) d) (λc=>aB c H.length λ_ d=>ah d 0 λd=>aB c a.length λ_ a=>ah a 0 λe=>ah a 1 λa=>ret (.tuple [b,d,.agg [e,a]]) c) λa H=>some ⟨.pan a,none,H⟩:=by kernel_rfl
def WA{R:aJ}{i:af}{v2:D}{v3 j:Nat}{v6:af}{k n q a:D}{b c:Int}{e:af}{h:Int}{o:Nat}{H:DH}:adb de R 200 233 o [0,2,3,4,6,7,8,9,10] [.g (.str i),.g v2,.g (.ptr v3 0),.g (.ptr j 0),.g (.str v6),.g k,.g n,.g q,.g a] [.agg (xT b c e h)] H =
 let a:=H++[.cells 0 (xT 0 0 [] 0)];aB a H.length λd f=>aC f 0 (xT b c e h) λb=>let a:=a.set H.length (.cells (d+1) b);SH a o λa=>aB a v3 λ_ b=>ah b 0 λb=>aB a H.length λ_ c=>ah c 0 λd=>ah c 1 λe=>ah c 2 λf=>ah c 3 λc=>bQ (aG ab 209) 4 b [[d,e,f,c]] a λa H=>aj 1 a λa=>aB H v3 λb c=>aC c 0 a λa=>let H:=H.set v3 (.cells (b+1) a);AK H o:=by kernel_rfl
def alX{R:aJ}{b:aQ}{d:D}{H:DH}:az R 257 [.row 3 b,d] H =
 bj H (aj 1 d λa=>let a:=H++[.cells 0 a];C R 316 [.row 3 b,.func 317 [] [.ptr H.length 0]] a λa H=>eD .not a λa=>ret a H):=by kernel_rfl
def f281{R:aJ}{a:Int}{H:DH}:az R 281 [.int .u8 a] H =
 cond (decide (a>=48)) (ret (.bool (decide (a<=57))) H) (ret (.bool false) H):=by kernel_rfl
def f286{R:aJ}{a:Int}{H:DH}:az R 286 [.int .u8 a] H =
 cond (decide (a>=65)) (ret (.bool (decide (a<=90))) H) (ret (.bool false) H):=by kernel_rfl
def alQ{R:aJ}{d:af}{H:DH}:az R 290 [.str d] H =
 let a:=H++[.map []];let b:=a++[.buf 2 true false []];let H:=b++[.cells 0 [.str d,.i 0,.map H.length,.buf 2 a.length 0]];ac R 290 200003 [.g (.ptr b.length 0),.g (.agg [.str [97,110,100],.str [99,97,115,101],.str [100,97,116,97],.str [101,108,115,101],.str [101,110,100],.str [102,110],.str [102,117,110],.str [105,102],.str [105,110],.str [105,110,112,117,116],.str [108,101,116],.str [111,102],.str [111,117,116,112,117,116],.str [116,104,101,110],.str [118,97,108]]),.n 0] [] H:=by kernel_rfl
def Km{R:aJ}{v3:Nat}{a b c e h j k l m p q r s t u:af}{v:Int}{H:DH}:aF R 290 200003 [.g (.ptr v3 0),.g (.agg [.str a,.str b,.str c,.str e,.str h,.str j,.str k,.str l,.str m,.str p,.str q,.str r,.str s,.str t,.str u]),.n v] [] H =
 cond (decide (v<15)) (kC ab 382 (.agg [.str a,.str b,.str c,.str e,.str h,.str j,.str k,.str l,.str m,.str p,.str q,.str r,.str s,.str t,.str u]) (.i v) λd=>aB H v3 λ_ f=>ah f 2 λf=>mj ab 378 f d (.i 5) H λH=>ac R 290 200003 [.g (.ptr v3 0),.g (.agg [.str a,.str b,.str c,.str e,.str h,.str j,.str k,.str l,.str m,.str p,.str q,.str r,.str s,.str t,.str u]),.n (bm (v+1))] [] H) (ret (.ptr v3 0) H):=by kernel_rfl
def alJ{R:aJ}{a b c:Nat}{H:DH}:az R 304 [.ptr a 0,.ptr b 0,.ptr c 0] H =
 aB H a λ_ a=>ah a 1 λa=>aP ab 142 a H λd=>ac R 304 200001 [.g (.ptr b 0),.g (.ptr c 0),.g a,.g d,.n 0] [] H:=by kernel_rfl
def wT{R:aJ}{v1 v2:Nat}{v6:D}{h e:Int}{H:DH}:aF R 304 200001 [.g (.ptr v1 0),.g (.ptr v2 0),.g v6,.n h,.n e] [] H =
 cond (decide (e<h)) (ay ab 142 v6 (.i e) λa=>bJ ab 144 a H λa=>aj 2 a λa=>aC [.str [],.nilrow] 0 a λa=>aB H v1 λ_ b=>ah b 0 λb=>ah a 0 λc=>ah a 1 λa=>aB H v2 λ_ d=>ah d 0 λd=>aA ab .add 3 true d (.i 1) λd=>C R 245 [b,.agg [c,a],d] H λ_ H=>ac R 304 200001 [.g (.ptr v1 0),.g (.ptr v2 0),.g v6,.n h,.n (bm (e+1))] [] H) (ret (.tuple []) H):=by kernel_rfl
def alD{R:aJ}{d:af}{a:Nat}{H:DH}:az R 310 [.str d,.ptr a 0] H =
 aB H a λ_ a=>ah a 0 λa=>fH bF a λa b c=>C R a (b++([.str d]++c)) H λa H=>eD .not a λa=>ret a H:=by kernel_rfl
def f316{R:aJ}{b:aQ}{a:Nat}{H:DH}:az R 316 [.row 3 b,.func 317 [] [.ptr a 0]] H =
 C R 335 [.row 3 b,.func 317 [] [.ptr a 0]] H λa H=>aA ab .geq 3 true a (.i 0) λa=>ret a H:=by kernel_rfl
def alv{R:aJ}{a b c:Nat}{H:DH}:az R 330 [.ptr a 0,.ptr b 0,.ptr c 0] H =
 aB H a λ_ a=>ah a 2 λa=>aP ab 84 a H λd=>ac R 330 200001 [.g (.ptr b 0),.g (.ptr c 0),.g a,.g d,.n 0] [] H:=by kernel_rfl
def wO{R:aJ}{v1 v2:Nat}{v6:D}{j h:Int}{H:DH}:aF R 330 200001 [.g (.ptr v1 0),.g (.ptr v2 0),.g v6,.n j,.n h] [] H =
 cond (decide (h<j)) (ay ab 84 v6 (.i h) λa=>bJ ab 232 a H λa=>aj 3 a λa=>aC [.i 0,.str [],.nilrow] 0 a λa=>aB H v1 λ_ b=>ah b 0 λb=>ah a 0 λc=>ah a 1 λd=>ah a 2 λa=>aB H v2 λ_ e=>ah e 0 λe=>aA ab .add 3 true e (.i 1) λe=>C R 302 [b,.agg [c,d,a],e] H λ_ H=>ac R 330 200001 [.g (.ptr v1 0),.g (.ptr v2 0),.g v6,.n j,.n (bm (h+1))] [] H) (ret (.tuple []) H):=by kernel_rfl
def alp{R:aJ}{a:Nat}{b:Int}{d:D}{H:DH}:az R 339 [.ptr a 0,.i b,d] H =
 ac R 339 200002 [.g (.ptr a 0),.n b,.g d,.n 0] [] H:=by kernel_rfl
def Kj{R:aJ}{e:Nat}{v1:Int}{v2:D}{h:Int}{H:DH}:aF R 339 200002 [.g (.ptr e 0),.n v1,.g v2,.n h] [] H =
 aB H e λ_ a=>ah a 1 λa=>aA ab .add 3 false a (.i v1) λa=>aA ab .add 3 false a (.i h) λa=>aB H e λ_ b=>ah b 0 λb=>aP ab 9 b H λb=>aA ab .lss 3 false a b λa=>brD a (aB H e λ_ a=>ah a 0 λa=>aB H e λ_ b=>ah b 1 λb=>aA ab .add 3 false b (.i v1) λb=>aA ab .add 3 false b (.i h) λb=>kC ab 9 a b λa=>fH bF v2 λb c d=>bd (R (.call b (c++([a]++d)) none) H) (λa H=>brD a (ac R 339 200002 [.g (.ptr e 0),.n v1,.g v2,.n (bm (h+1))] [] H) (ret (.i h) H)) λ_ _=>none) (ret (.i h) H):=by kernel_rfl
def alg{R:aJ}{d:Nat}{e:Int}{H:DH}:az R 347 [.ptr d 0,.i e] H =
 C R 339 [.ptr d 0,.i 0,.func 350 [] []] H λa H=>C R 343 [.ptr d 0,a] H λb H=>aA ab .eql 5 true b (.int .u8 39) λb=>brD b (aA ab .add 3 true a (.i 1) λb=>C R 339 [.ptr d 0,b,.func 344 [] []] H λb H=>aA ab .gtr 3 true b (.i 0) λc=>brD c (aA ab .add 3 true (.i 1) b λb=>aA ab .add 3 false a b λa=>ac R 347 6 [.g (.ptr d 0),.n e,.lp 0 0,.g a] [(0,(xT 0 0 [] 0))] H) (ac R 347 6 [.g (.ptr d 0),.n e,.lp 0 0,.g a] [(0,(xT 0 0 [] 0))] H)) (ac R 347 6 [.g (.ptr d 0),.n e,.lp 0 0,.g a] [(0,(xT 0 0 [] 0))] H):=by kernel_rfl
def afa{R:aJ}{h:Nat}{v1 j a b:Int}{c:af}{e:Int}{H:DH}:aF R 347 6 [.g (.ptr h 0),.n v1,.lp 0 0,.n j] [(0,xT a b c e)] H =
 C R 349 [.ptr h 0,.i v1,.i j] H λa H=>aj 4 a λa=>aC (xT 0 0 [] 0) 0 a λa=>aB H h λ_ b=>ah b 2 λb=>ah a 2 λc=>oa ab 378 b c true H λb=>fI b 0 λc=>fI b 1 λb=>brD b (aj 1 c λb=>aC a 0 b λa=>ah a 0 λb=>ah a 1 λc=>ah a 2 λd=>ah a 3 λa=>ret (.agg [b,c,d,a]) H) (ah a 0 λb=>ah a 1 λc=>ah a 2 λd=>ah a 3 λa=>ret (.agg [b,c,d,a]) H):=by kernel_rfl
def f35{R:aJ}{a:aQ}{H:DH}:az R 35 [.agg [.row 14 a]] H =
 bd (R (.call 64 [.agg [.row 14 a]] none) H) (λb H=>bd (R (.call 65 [.agg [.row 14 a]] none) H) (λc H=>bd (R (.call 63 [b,c] none) H) (λb H=>aA ab .eql 29 true b (.i 0) λc=>brD c (cond (decide ((a.length:Int)>60)) (ac R 35 200005 [.lp 0 0,.n 2,.n 0] [(0,[.row 14 a])] H) (ac R 35 200005 [.lp 0 0,.g b,.n 0] [(0,[.row 14 a])] H)) (ac R 35 200005 [.lp 0 0,.g b,.n 0] [(0,[.row 14 a])] H)) λ_ _=>none) λ_ _=>none) λ_ _=>none:=by kernel_rfl
def CB{R:aJ}{v3 q:Int}{a:aQ}{H:DH}:aF R 35 200005 [.lp 0 0,.n v3,.n q] [(0,[.row 14 a])] H =
 cond (decide (q<a.length)) (cond (v3==0) (bg q λb=>aX a b λb=>ah b 0 λc=>ah b 1 λd=>ah b 2 λe=>ah b 3 λf=>ah b 4 λg=>ah b 5 λh=>ah b 6 λi=>ah b 7 λj=>ah b 8 λk=>ah b 9 λl=>ah b 10 λm=>ah b 11 λn=>ah b 12 λo=>ah b 13 λb=>C R 67 [.agg [c,d,e,f,g,h,i,j,k,l,m,n,o,b]] H λb H=>C R 66 [.i v3,b] H λb H=>ac R 35 200005 [.lp 0 0,.g b,.n (bm (q+1))] [(0,[.row 14 a])] H) (ret (.i v3) H)) (ret (.i v3) H):=by kernel_rfl
def f68{R:aJ}{a:aQ}{H:DH}:az R 68 [.agg [.row 14 a]] H =
 bj H (let b:=H++[.buf 12 true false []];ac R 68 200003 [.lp 0 0,.g (.buf 12 H.length 0),.n 0] [(0,[.row 14 a])] b):=by kernel_rfl
def Cg{R:aJ}{a b:Nat}{s:Int}{c:aQ}{H:DH}:aF R 68 200003 [.lp 0 0,.g (.buf 12 a b),.n s] [(0,[.row 14 c])] H =
 cond (decide (s<c.length)) (bg s λd=>aX c d λd=>ah d 0 λe=>ah d 1 λf=>ah d 2 λg=>ah d 3 λh=>ah d 4 λi=>ah d 5 λj=>ah d 6 λk=>ah d 7 λl=>ah d 8 λm=>ah d 9 λn=>ah d 10 λo=>ah d 11 λp=>ah d 12 λq=>ah d 13 λd=>aA ab .eql 3 true e (.i 4) λr=>brD r (ac R 68 7 [.lp 0 0,.g (.buf 12 a b),.n s,.lp 1 0] [(0,[.row 14 c]),(0,[e,f,g,h,i,j,k,l,m,n,o,p,q,d])] H) (aA ab .eql 3 true e (.i 5) λr=>brD r (ac R 68 7 [.lp 0 0,.g (.buf 12 a b),.n s,.lp 1 0] [(0,[.row 14 c]),(0,[e,f,g,h,i,j,k,l,m,n,o,p,q,d])] H) (aA ab .eql 3 true e (.i 3) λr=>brD r (ac R 68 200010 [.lp 0 0,.g (.buf 12 a b),.n s,.lp 1 0,.n 0] [(0,[.row 14 c]),(0,[e,f,g,h,i,j,k,l,m,n,o,p,q,d])] H) (ac R 68 200003 [.lp 0 0,.g (.buf 12 a b),.n (bm (s+1))] [(0,[.row 14 c])] H)))) (eZ (.fz 12) (.buf 12 a b) H λa H=>ret a H):=by kernel_rfl
def aiS{R:aJ}{a b:Nat}{o:Int}{c:aQ}{e h j k l m p q r s t u v w:D}{H:DH}:aF R 68 7 [.lp 0 0,.g (.buf 12 a b),.n o,.lp 1 0] [(0,[.row 14 c]),(0,[e,h,j,k,l,m,p,q,r,s,t,u,v,w])] H =
 aj 1 l λd=>aC [.i o,.i 0,.row 1 [],.str [],.bool false,.str [],.i 0,.i 0,.str [],.str [],.nilrow,.nilrow] 3 d λd=>aC d 6 [r,s,t,u,v,w] λd=>aj 12 (.agg d) λd=>bQ (aG ab 160) 12 (.buf 12 a b) [d] H λa H=>ct (.acc 12) 0 a H λa H=>aA ab .eql 3 true e (.i 3) λb=>brD b (ac R 68 200010 [.lp 0 0,.g a,.n o,.lp 1 0,.n 0] [(0,[.row 14 c]),(0,[e,h,j,k,l,m,p,q,r,s,t,u,v,w])] H) (ac R 68 200003 [.lp 0 0,.g a,.n (bm (o+1))] [(0,[.row 14 c])] H):=by kernel_rfl
def Cf{R:aJ}{a b:Nat}{o v6:Int}{c:aQ}{e h j k l m p q r s t u v w:D}{H:DH}:aF R 68 200010 [.lp 0 0,.g (.buf 12 a b),.n o,.lp 1 0,.n v6] [(0,[.row 14 c]),(0,[e,h,j,k,l,m,p,q,r,s,t,u,v,w])] H =
 aP ab 145 q H λd=>aA ab .lss 3 false (.i v6) d λd=>brD d (ay ab 145 q (.i v6) λd=>bI d 0 λd=>bJ ab 9 d H λd=>ay ab 145 q (.i v6) λf=>bI f 1 λf=>bJ ab 9 f H λf=>ay ab 145 q (.i v6) λg=>bI g 2 λg=>bJ ab 86 g H λg=>aj 1 d λd=>aC [.i o,.i v6,.row 1 [],.str [],.bool false,.str [],.i 0,.i 0,.str [],.str [],.nilrow,.nilrow] 3 d λd=>aC d 4 [.bool true] λd=>aj 1 f λf=>aC d 5 f λd=>aj 6 g λf=>aC d 6 f λd=>aj 12 (.agg d) λd=>bQ (aG ab 160) 12 (.buf 12 a b) [d] H λa H=>ct (.acc 12) 0 a H λa H=>ac R 68 200010 [.lp 0 0,.g a,.n o,.lp 1 0,.n (bm (v6+1))] [(0,[.row 14 c]),(0,[e,h,j,k,l,m,p,q,r,s,t,u,v,w])] H) (ac R 68 200003 [.lp 0 0,.g (.buf 12 a b),.n (bm (o+1))] [(0,[.row 14 c])] H):=by kernel_rfl
def anb{R:aJ}{a b:Int}{c e:af}{h j:aQ}{d:Int}{H:DH}:az R 122 [.agg (xE a b c e h j),.i d] H =
 cond (decide (d>100)) (ret (.i d) H) (ac R 122 200005 [.n d,.lp 0 0,.n d,.n 0] [(0,xE a b c e h j)] H):=by kernel_rfl
def yc{R:aJ}{v1 k v6 a b:Int}{c e:af}{h j:aQ}{H:DH}:aF R 122 200005 [.n v1,.lp 0 0,.n k,.n v6] [(0,xE a b c e h j)] H =
 cond (decide (v6<j.length)) (bg v6 λd=>aX j d λd=>ah d 0 λf=>ah d 1 λg=>ah d 2 λd=>C R 193 [.agg [f,g,d],.i (bm (v1+1))] H λd H=>jj true (.i k) [d] λd=>ac R 122 200005 [.n v1,.lp 0 0,.g d,.n (bm (v6+1))] [(0,xE a b c e h j)] H) (ac R 122 200009 [.n v1,.lp 0 0,.n k,.n 0] [(0,xE a b c e h j)] H):=by kernel_rfl
def yb{R:aJ}{v1 q o a b:Int}{c e:af}{h j:aQ}{H:DH}:aF R 122 200009 [.n v1,.lp 0 0,.n q,.n o] [(0,xE a b c e h j)] H =
 cond (decide (o<h.length)) (bg o λd=>aX h d λd=>ah d 0 λf=>ah d 1 λg=>ah d 2 λi=>ah d 3 λk=>ah d 4 λl=>ah d 5 λd=>C R 122 [.agg [f,g,i,k,l,d],.i (bm (v1+1))] H λd H=>jj true (.i q) [d] λd=>ac R 122 200009 [.n v1,.lp 0 0,.g d,.n (bm (o+1))] [(0,xE a b c e h j)] H) (ret (.i q) H):=by kernel_rfl
def amV{R:aJ}{a:af}{b c:aQ}{H:DH}:az R 128 [.agg [.str a,.row 1 b,.row 2 c]] H =
 C R 195 [.str a] H λd H=>eD .not d λd=>brD d (ret (.bool false) H) (cond (decide ((b.length:Int)>16)) (ret (.bool false) H) (cond (decide ((c.length:Int)<1)) (ret (.bool false) H) (cond (decide ((c.length:Int)>16)) (ret (.bool false) H) (ac R 128 200004 [.lp 0 0,.n 0] [(0,[.str a,.row 1 b,.row 2 c])] H)))):=by kernel_rfl
def xX{R:aJ}{v3:Int}{a:af}{b c:aQ}{H:DH}:aF R 128 200004 [.lp 0 0,.n v3] [(0,[.str a,.row 1 b,.row 2 c])] H =
 cond (decide (v3<b.length)) (bg v3 λd=>aX b d λd=>ah d 0 λd=>C R 196 [d] H λd H=>eD .not d λd=>brD d (ret (.bool false) H) (ac R 128 200004 [.lp 0 0,.n (bm (v3+1))] [(0,[.str a,.row 1 b,.row 2 c])] H)) (ac R 128 200009 [.lp 0 0,.n 0] [(0,[.str a,.row 1 b,.row 2 c])] H):=by kernel_rfl
def xW{R:aJ}{h:Int}{a:af}{b c:aQ}{H:DH}:aF R 128 200009 [.lp 0 0,.n h] [(0,[.str a,.row 1 b,.row 2 c])] H =
 cond (decide (h<c.length)) (bg h λd=>aX c d λd=>ah d 0 λe=>ah d 1 λd=>C R 195 [e] H λf H=>eD .not f λf=>brD f (ret (.bool false) H) (aP ab 142 d H λf=>aA ab .gtr 3 true f (.i 16) λf=>brD f (ret (.bool false) H) (ac R 128 200015 [.lp 0 0,.n h,.lp 1 0,.n 0] [(0,[.str a,.row 1 b,.row 2 c]),(0,[e,d])] H))) (ret (.bool true) H):=by kernel_rfl
def xU{R:aJ}{j v6:Int}{a:af}{b c:aQ}{e h:D}{H:DH}:aF R 128 200015 [.lp 0 0,.n j,.lp 1 0,.n v6] [(0,[.str a,.row 1 b,.row 2 c]),(0,[e,h])] H =
 aP ab 142 h H λd=>aA ab .lss 3 false (.i v6) d λd=>brD d (ay ab 142 h (.i v6) λd=>bJ ab 144 d H λd=>C R 130 [d] H λd H=>eD .not d λd=>brD d (ret (.bool false) H) (ac R 128 200015 [.lp 0 0,.n j,.lp 1 0,.n (bm (v6+1))] [(0,[.str a,.row 1 b,.row 2 c]),(0,[e,h])] H)) (ac R 128 200009 [.lp 0 0,.n (bm (j+1))] [(0,[.str a,.row 1 b,.row 2 c])] H):=by kernel_rfl
def amE{R:aJ}{a b:Int}{c e:af}{g h:aQ}{H:DH}:az R 185 [.agg (xE a b c e g h)] H =
 cond (a==0) (cond (b==0) (cond (c==[]) (cond (e==[]) (cond ((g.length:Int)==0) (ret (.bool ((h.length:Int)==0)) H) (ret (.bool false) H)) (ret (.bool false) H)) (ret (.bool false) H)) (ret (.bool false) H)) (ret (.bool false) H):=by kernel_rfl
def amA{R:aJ}{b:aQ}{d:D}{H:DH}:az R 189 [.row 8 b,d] H =
 bj H (aj 1 d λa=>let a:=H++[.cells 0 a];C R 254 [.row 8 b,.func 255 [] [.ptr H.length 0]] a λa H=>eD .not a λa=>ret a H):=by kernel_rfl
def amv{R:aJ}{a:Int}{b:af}{c:aQ}{e d:Int}{H:DH}:az R 194 [.agg [.i a,.str b,.row 3 c],.i e,.i d] H =
 cond (decide (e>100)) (ret (.i d) H) (cond (decide (d>2000)) (ret (.i d) H) (ac R 194 200005 [.n e,.n (bm (d+1)),.lp 0 0,.n 0] [(0,[.i a,.str b,.row 3 c])] H)):=by kernel_rfl
def xw{R:aJ}{v1 v2 h a:Int}{b:af}{c:aQ}{H:DH}:aF R 194 200005 [.n v1,.n v2,.lp 0 0,.n h] [(0,[.i a,.str b,.row 3 c])] H =
 cond (decide (h<c.length)) (cond (decide (v2<=2000)) (bg h λd=>aX c d λd=>ah d 0 λe=>ah d 1 λf=>ah d 2 λd=>C R 194 [.agg [e,f,d],.i (bm (v1+1)),.i v2] H λd H=>ac R 194 200005 [.n v1,.g d,.lp 0 0,.n (bm (h+1))] [(0,[.i a,.str b,.row 3 c])] H) (ret (.i v2) H)) (ret (.i v2) H):=by kernel_rfl
def ami{R:aJ}{h:af}{e:Int}{H:DH}:az R 232 [.str h,.i e] H =
 bg e λa=>fv h a λa=>aA ab .eql 5 true a (.int .u8 126) λb=>brD b (aA ab .eql 5 true a (.int .u8 126) λa=>brD a (ac R 232 200006 [.g (.str h),.n e,.lp 0 0,.n (bm (e+1))] [(0,(xT 0 0 [] 0))] H) (ac R 232 200006 [.g (.str h),.n e,.lp 0 0,.n e] [(0,(xT 0 0 [] 0))] H)) (C R 281 [a] H λb H=>brD b (aA ab .eql 5 true a (.int .u8 126) λa=>brD a (ac R 232 200006 [.g (.str h),.n e,.lp 0 0,.n (bm (e+1))] [(0,(xT 0 0 [] 0))] H) (ac R 232 200006 [.g (.str h),.n e,.lp 0 0,.n e] [(0,(xT 0 0 [] 0))] H)) (aA ab .eql 5 true a (.int .u8 39) λb=>brD b (cond (decide ((bm (e+1))<(h.length:Int))) (bg (bm (e+1)) λb=>fv h b λb=>C R 284 [b] H λb H=>brD b (C R 285 [.str h,.i (bm (e+1))] H λa H=>aA ab .sub 3 false a (.i e) λb=>aA ab .gtr 3 true b (.i 24) λb=>brD b (ret (.tuple [.agg (xT 0 0 [] 0),.i 2]) H) (cF ab 9 (.str h) (some (.i e)) (some a) none H λa H=>aj 1 a λa=>aC (xT 4 0 [] 0) 2 a λa=>aC a 3 [.i e] λa=>aj 4 (.agg a) λa=>aC (xT 0 0 [] 0) 0 a λa=>ah a 0 λb=>ah a 1 λc=>ah a 2 λd=>ah a 3 λa=>ret (.tuple [.agg [b,c,d,a],.i 0]) H)) (ac R 232 17 [.g (.str h),.n e,.lp 0 0,.g a] [(0,(xT 0 0 [] 0))] H)) (ac R 232 17 [.g (.str h),.n e,.lp 0 0,.g a] [(0,(xT 0 0 [] 0))] H)) (ac R 232 17 [.g (.str h),.n e,.lp 0 0,.g a] [(0,(xT 0 0 [] 0))] H))):=by kernel_rfl
def Ks{R:aJ}{h:af}{v1 i a b:Int}{c:af}{e:Int}{H:DH}:aF R 232 200006 [.g (.str h),.n v1,.lp 0 0,.n i] [(0,xT a b c e)] H =
 cond (decide (i<h.length)) (bg i λd=>fv h d λd=>C R 281 [d] H λd H=>brD d (ac R 232 200006 [.g (.str h),.n v1,.lp 0 0,.n (bm (i+1))] [(0,xT a b c e)] H) (ac R 232 8 [.g (.str h),.n v1,.lp 0 0,.n i] [(0,xT a b c e)] H)) (ac R 232 8 [.g (.str h),.n v1,.lp 0 0,.n i] [(0,xT a b c e)] H):=by kernel_rfl
def ZZ{R:aJ}{h:af}{v1 v6 a b:Int}{c:af}{e:Int}{H:DH}:aF R 232 17 [.g (.str h),.n v1,.lp 0 0,.g (.int .u8 v6)] [(0,xT a b c e)] H =
 C R 284 [.int .u8 v6] H λd H=>brD d (ac R 232 18 [.g (.str h),.n v1,.lp 0 0,.g (.int .u8 v6)] [(0,xT a b c e)] H) (C R 286 [.int .u8 v6] H λd H=>brD d (ac R 232 18 [.g (.str h),.n v1,.lp 0 0,.g (.int .u8 v6)] [(0,xT a b c e)] H) (C R 289 [.str h,.i v1] H λd H=>aA ab .eql 3 true d (.i 0) λf=>brD f (ret (.tuple [.agg (xT 0 0 [] 0),.i 11]) H) (aA ab .add 3 false (.i v1) d λd=>cF ab 9 (.str h) (some (.i v1)) (some d) none H λd H=>aj 1 d λd=>aC (xT 6 0 [] 0) 2 d λd=>aC d 3 [.i v1] λd=>aj 4 (.agg d) λd=>aC (xT a b c e) 0 d λa=>ah a 0 λb=>ah a 1 λc=>ah a 2 λd=>ah a 3 λa=>ret (.tuple [.agg [b,c,d,a],.i 0]) H))):=by kernel_rfl
def afg{R:aJ}{h:af}{v1 j a b:Int}{c:af}{e:Int}{H:DH}:aF R 232 8 [.g (.str h),.n v1,.lp 0 0,.n j] [(0,xT a b c e)] H =
 cF ab 9 (.str h) (some (.i v1)) (some (.i j)) none H λd H=>C R 282 [d] H λd H=>fI d 0 λf=>fI d 1 λd=>aA ab .neq 29 true d (.i 0) λd=>brD d (ret (.tuple [.agg (xT 0 0 [] 0),.i 13]) H) (cond (decide (j<h.length)) (bg j λd=>fv h d λd=>C R 283 [d] H λd H=>brD d (ret (.tuple [.agg (xT 0 0 [] 0),.i 13]) H) (bg j λd=>fv h d λd=>aA ab .eql 5 true d (.int .u8 39) λd=>brD d (ret (.tuple [.agg (xT 0 0 [] 0),.i 13]) H) (ac R 232 11 [.g (.str h),.n v1,.lp 0 0,.n j,.g f] [(0,xT a b c e)] H))) (ac R 232 11 [.g (.str h),.n v1,.lp 0 0,.n j,.g f] [(0,xT a b c e)] H)):=by kernel_rfl
def ZY{R:aJ}{h:af}{v1 v6 a b:Int}{c:af}{e:Int}{H:DH}:aF R 232 18 [.g (.str h),.n v1,.lp 0 0,.g (.int .u8 v6)] [(0,xT a b c e)] H =
 C R 287 [.str h,.i v1] H λd H=>aA ab .sub 3 false d (.i v1) λf=>aA ab .gtr 3 true f (.i 24) λf=>brD f (ret (.tuple [.agg (xT 0 0 [] 0),.i 2]) H) (C R 286 [.int .u8 v6] H λf H=>brD f (ac R 232 26 [.g (.str h),.n v1,.lp 0 0,.g d,.n 3] [(0,xT a b c e)] H) (cF ab 9 (.str h) (some (.i v1)) (some d) none H λf H=>C R 288 [f] H λf H=>brD f (ac R 232 26 [.g (.str h),.n v1,.lp 0 0,.g d,.n 5] [(0,xT a b c e)] H) (ac R 232 26 [.g (.str h),.n v1,.lp 0 0,.g d,.n 2] [(0,xT a b c e)] H))):=by kernel_rfl
def aaa{R:aJ}{h:af}{v1 j k a b:Int}{c:af}{e:Int}{H:DH}:aF R 232 11 [.g (.str h),.n v1,.lp 0 0,.n j,.n k] [(0,xT a b c e)] H =
 cF ab 9 (.str h) (some (.i v1)) (some (.i j)) none H λd H=>aj 1 d λd=>aC (xT 1 k [] 0) 2 d λd=>aC d 3 [.i v1] λd=>aj 4 (.agg d) λd=>aC (xT a b c e) 0 d λa=>ah a 0 λb=>ah a 1 λc=>ah a 2 λd=>ah a 3 λa=>ret (.tuple [.agg [b,c,d,a],.i 0]) H:=by kernel_rfl
def ZX{R:aJ}{k:af}{v1 a b c e:Int}{h:af}{j:Int}{H:DH}:aF R 232 26 [.g (.str k),.n v1,.lp 0 0,.n a,.n b] [(0,xT c e h j)] H =
 cF ab 9 (.str k) (some (.i v1)) (some (.i a)) none H λa H=>aj 1 a λa=>aC (xT b 0 [] 0) 2 a λa=>aC a 3 [.i v1] λa=>aj 4 (.agg a) λa=>aC (xT c e h j) 0 a λa=>ah a 0 λb=>ah a 1 λc=>ah a 2 λd=>ah a 3 λa=>ret (.tuple [.agg [b,c,d,a],.i 0]) H:=by kernel_rfl
def alK{R:aJ}{d:Nat}{e:Int}{h:D}{H:DH}:az R 303 [.ptr d 0,.i e,h] H =
 aB H d λ_ a=>ah a 1 λa=>jj true a [.i e] λa=>aj 1 a λa=>aB H d λb c=>aC c 1 a λa=>let H:=H.set d (.cells (b+1) a);cond (decide (e>100)) (ret (.tuple []) H) (aB H d λ_ a=>ah a 0 λa=>aA ab .gtr 3 true a (.i 2000) λa=>brD a (ret (.tuple []) H) (aB H d λ_ a=>ah a 0 λa=>aA ab .add 3 true a (.i 1) λa=>aj 1 a λa=>aB H d λb c=>aC c 0 a λa=>let H:=H.set d (.cells (b+1) a);fH bF h λa b c=>C R a (b++([]++c)) H λ_ H=>ret (.tuple []) H)):=by kernel_rfl
def alF{R:aJ}{a:af}{b:aQ}{c:Nat}{H:DH}:az R 308 [.agg [.str a,.row 2 b],.ptr c 0] H =
 aB H c λ_ c=>ah c 0 λc=>fH bF c λc d e=>C R c (d++([.agg [.str a,.row 2 b]]++e)) H λa H=>eD .not a λa=>ret a H:=by kernel_rfl
def alA{R:aJ}{b:aQ}{a:Nat}{H:DH}:az R 313 [.row 8 b,.func 255 [] [.ptr a 0]] H =
 ac R 313 200002 [.g (.row 8 b),.g (.func 255 [] [.ptr a 0]),.n b.length,.n 0] [] H:=by kernel_rfl
def wQ{R:aJ}{q:aQ}{v1:D}{r o:Int}{H:DH}:aF R 313 200002 [.g (.row 8 q),.g v1,.n r,.n o] [] H =
 cond (decide (o<r)) (bg o λa=>aX q a λa=>ah a 0 λb=>ah a 1 λc=>ah a 2 λd=>ah a 3 λe=>ah a 4 λf=>ah a 5 λg=>ah a 6 λh=>ah a 7 λa=>fH bF v1 λi j k=>C R i (j++([.agg [b,c,d,e,f,g,h,a]]++k)) H λa H=>brD a (ret (.i o) H) (ac R 313 200002 [.g (.row 8 q),.g v1,.n r,.n (bm (o+1))] [] H)) (ret (.i (-1)) H):=by kernel_rfl
def alt{R:aJ}{b:aQ}{a:Nat}{H:DH}:az R 332 [.row 2 b,.func 308 [] [.ptr a 0]] H =
 ac R 332 200002 [.g (.row 2 b),.g (.func 308 [] [.ptr a 0]),.n b.length,.n 0] [] H:=by kernel_rfl
def wL{R:aJ}{j:aQ}{v1:D}{k h:Int}{H:DH}:aF R 332 200002 [.g (.row 2 j),.g v1,.n k,.n h] [] H =
 cond (decide (h<k)) (bg h λa=>aX j a λa=>ah a 0 λb=>ah a 1 λa=>fH bF v1 λc d e=>C R c (d++([.agg [b,a]]++e)) H λa H=>brD a (ret (.i h) H) (ac R 332 200002 [.g (.row 2 j),.g v1,.n k,.n (bm (h+1))] [] H)) (ret (.i (-1)) H):=by kernel_rfl
def alo{R:aJ}{a:Int}{H:DH}:az R 340 [.int .u8 a] H =
 cond (a==32) (ret (.bool true) H) (cond (a==9) (ret (.bool true) H) (cond (a==10) (ret (.bool true) H) (ret (.bool (a==13)) H))):=by kernel_rfl
def alk{R:aJ}{d:Nat}{e:Int}{H:DH}:az R 343 [.ptr d 0,.i e] H =
 aB H d λ_ a=>ah a 1 λa=>aA ab .add 3 false a (.i e) λa=>aB H d λ_ b=>ah b 0 λb=>aP ab 9 b H λb=>aA ab .geq 3 false a b λa=>brD a (ret (.int .u8 0) H) (aB H d λ_ a=>ah a 0 λa=>aB H d λ_ b=>ah b 1 λb=>aA ab .add 3 false b (.i e) λb=>kC ab 9 a b λa=>ret a H):=by kernel_rfl
def ale{R:aJ}{e:Nat}{j h:Int}{H:DH}:az R 349 [.ptr e 0,.i j,.i h] H =
 cond (decide (h>24)) (aB H e λ_ a=>ah a 1 λa=>aj 1 a λa=>aC [.i 0,.i 0] 0 a λa=>aC a 1 [.i 2] λa=>pan (.iface 321 (.agg a)) H) (aB H e λ_ a=>ah a 0 λa=>aB H e λ_ b=>ah b 1 λb=>aB H e λ_ c=>ah c 1 λc=>aA ab .add 3 false c (.i h) λc=>cF ab 9 a (some b) (some c) none H λa _=>aB H e λ_ b=>ah b 1 λb=>aj 1 a λa=>aC (xT j 0 [] 0) 2 a λa=>aj 1 b λb=>aC a 3 b λa=>aj 4 (.agg a) λa=>aC (xT 0 0 [] 0) 0 a λa=>ah a 0 λb=>ah a 1 λc=>ah a 2 λd=>ah a 3 λa=>ret (.agg [b,c,d,a]) H):=by kernel_rfl
def f36{R:aJ}{a:aQ}{H:DH}:az R 36 [.agg [.row 14 a]] H =
 let b:=H++[.buf 12 true false []];let c:=b++[.buf 5 true false []];let d:=c++[.buf 1 true false []];let e:=d++[.buf 1 true false []];let f:=e++[.buf 4 true false []];let H:=f++[.cells 0 [.row 14 a,.buf 12 H.length 0,.buf 5 b.length 0,.buf 1 c.length 0,.buf 1 d.length 0,.buf 4 e.length 0]];C R 68 [.agg [.row 14 a]] H λb H=>ac R 36 200004 [.lp 0 0,.g (.ptr f.length 0),.g b,.n 0] [(0,[.row 14 a])] H:=by kernel_rfl
def se{R:aJ}{v3:Nat}{h:D}{j:Int}{a:aQ}{H:DH}:aF R 36 200004 [.lp 0 0,.g (.ptr v3 0),.g h,.n j] [(0,[.row 14 a])] H =
 aP ab 157 h H λb=>aA ab .lss 3 false (.i j) b λb=>brD b (aB H v3 λ_ b=>ah b 1 λb=>aP ab 90 b H λb=>ay ab 157 h (.i j) λc=>bI c 4 λc=>bJ ab 4 c H λc=>brD c (aB H v3 λ_ c=>ah c 2 λc=>ay ab 157 h (.i j) λd=>bI d 5 λd=>bJ ab 9 d H λd=>aj 1 d λd=>aC [.i 2,.str [],.i 0,.nilrow,.i 0] 1 d λd=>aj 1 b λb=>aC d 2 b λb=>aC b 4 [.i (-1)] λb=>aj 5 (.agg b) λb=>bQ (aG ab 115) 5 c [b] H λb H=>aj 1 b λb=>aB H v3 λc d=>aC d 2 b λb=>let H:=H.set v3 (.cells (c+1) b);aB H v3 λ_ b=>ah b 3 λb=>ay ab 157 h (.i j) λc=>bI c 3 λc=>bJ ab 9 c H λc=>aj 1 c λc=>bQ (aG ab 9) 1 b [c] H λb H=>aj 1 b λb=>aB H v3 λc d=>aC d 3 b λb=>let H:=H.set v3 (.cells (c+1) b);aB H v3 λ_ b=>ah b 4 λb=>ay ab 157 h (.i j) λc=>bI c 0 λc=>bI c 0 λc=>bJ ab 3 c H λc=>aj 1 c λc=>bQ (aG ab 3) 1 b [c] H λb H=>aj 1 b λb=>aB H v3 λc d=>aC d 4 b λb=>let H:=H.set v3 (.cells (c+1) b);ac R 36 12 [.lp 0 0,.g (.ptr v3 0),.g h,.n j] [(0,[.row 14 a])] H) (aB H v3 λ_ c=>ah c 5 λc=>ay ab 157 h (.i j) λd=>bI d 3 λd=>bJ ab 9 d H λd=>ay ab 157 h (.i j) λe=>bI e 0 λe=>bI e 0 λe=>bJ ab 3 e H λe=>ay ab 157 h (.i j) λf=>bI f 0 λf=>bI f 0 λf=>bJ ab 3 f H λf=>ay ab 22 (.row 14 a) f λf=>bI f 0 λf=>bJ ab 3 f H λf=>aA ab .eql 3 true f (.i 5) λf=>aj 1 d λd=>aC [.str [],.i 0,.i 0,.bool false] 0 d λd=>aj 1 e λe=>aC d 1 e λd=>aj 1 b λb=>aC d 2 b λb=>aj 1 f λd=>aC b 3 d λb=>aj 4 (.agg b) λb=>bQ (aG ab 162) 4 c [b] H λb H=>aj 1 b λb=>aB H v3 λc d=>aC d 5 b λb=>let H:=H.set v3 (.cells (c+1) b);ac R 36 12 [.lp 0 0,.g (.ptr v3 0),.g h,.n j] [(0,[.row 14 a])] H)) (ret (.ptr v3 0) H):=by kernel_rfl
def aeZ{R:aJ}{v3:Nat}{h:D}{j:Int}{a:aQ}{H:DH}:aF R 36 12 [.lp 0 0,.g (.ptr v3 0),.g h,.n j] [(0,[.row 14 a])] H =
 aB H v3 λ_ b=>ah b 1 λb=>ay ab 157 h (.i j) λc=>bI c 6 λc=>bJ ab 86 c H λc=>ay ab 157 h (.i j) λd=>bI d 0 λd=>bJ ab 27 d H λd=>ay ab 157 h (.i j) λe=>bI e 4 λe=>bJ ab 4 e H λe=>ay ab 157 h (.i j) λf=>bI f 5 λf=>bJ ab 9 f H λf=>aj 6 c λc=>aC [.i 0,.i 0,.str [],.str [],.nilrow,.nilrow,.i 0,.i 0,.nilrow,.bool false,.i 0,.str []] 0 c λc=>aj 3 d λd=>aC c 6 d λc=>aj 1 e λd=>aC c 9 d λc=>aj 1 f λd=>aC c 11 d λc=>bd (R (.call 69 [b,.agg c] none) H) (λb H=>aj 1 b λb=>aB H v3 λc d=>aC d 1 b λb=>let H:=H.set v3 (.cells (c+1) b);ac R 36 200004 [.lp 0 0,.g (.ptr v3 0),.g h,.n (bm (j+1))] [(0,[.row 14 a])] H) λ_ _=>none:=by kernel_rfl
def f33{R:aJ}{a:aQ}{H:DH}:az R 33 [.agg [.row 14 a]] H =
 C R 61 [.agg [.row 14 a]] H λb H=>aA ab .neq 29 true b (.i 0) λc=>brD c (ret (.tuple [.nilptr,b]) H) (let b:=H++[.map []];let c:=b++[.buf 11 true false []];let d:=c++[.buf 7 true false []];let e:=d++[.buf 1 true false []];let f:=e++[.buf 1 true false []];let H:=f++[.cells 0 [.row 14 a,.buf 11 b.length 0,.buf 7 c.length 0,.buf 1 d.length 0,.buf 1 e.length 0,.map H.length]];ac R 33 200006 [.g (.ptr f.length 0),.g (.row 14 a),.n a.length,.n 0] [] H):=by kernel_rfl
def CE{R:aJ}{s:Nat}{a:aQ}{b c:Int}{H:DH}:aF R 33 200006 [.g (.ptr s 0),.g (.row 14 a),.n b,.n c] [] H =
 cond (decide (c<b)) (bg c λd=>aX a d λd=>ah d 0 λe=>ah d 1 λf=>ah d 2 λg=>ah d 3 λh=>ah d 4 λi=>ah d 5 λj=>ah d 6 λk=>ah d 7 λl=>ah d 8 λm=>ah d 9 λn=>ah d 10 λo=>ah d 11 λp=>ah d 12 λq=>ah d 13 λd=>aA ab .eql 3 true e (.i 3) λr=>brD r (aP ab 145 l H λr=>ac R 33 200011 [.g (.ptr s 0),.n c,.lp 0 0,.g (.row 14 a),.n b,.n c,.g l,.g r,.n 0] [(0,[e,f,g,h,i,j,k,l,m,n,o,p,q,d])] H) (aA ab .eql 3 true e (.i 4) λr=>brD r (ac R 33 18 [.g (.ptr s 0),.n c,.lp 0 0,.g (.row 14 a),.n b,.n c] [(0,[e,f,g,h,i,j,k,l,m,n,o,p,q,d])] H) (aA ab .eql 3 true e (.i 5) λr=>brD r (ac R 33 18 [.g (.ptr s 0),.n c,.lp 0 0,.g (.row 14 a),.n b,.n c] [(0,[e,f,g,h,i,j,k,l,m,n,o,p,q,d])] H) (ac R 33 200006 [.g (.ptr s 0),.g (.row 14 a),.n b,.n (bm (c+1))] [] H)))) (aB H s λ_ a=>ah a 4 λa=>aP ab 25 a H λb=>ac R 33 200022 [.g (.ptr s 0),.g a,.g b,.n 0] [] H):=by kernel_rfl
def CD{R:aJ}{F:Nat}{v6:Int}{a:aQ}{b c:Int}{e:D}{h j:Int}{k l m p q r s t u v w x y z:D}{H:DH}:aF R 33 200011 [.g (.ptr F 0),.n v6,.lp 0 0,.g (.row 14 a),.n b,.n c,.g e,.n h,.n j] [(0,[k,l,m,p,q,r,s,t,u,v,w,x,y,z])] H =
 cond (decide (j<h)) (ay ab 145 e (.i j) λd=>bJ ab 149 d H λd=>aj 8 d λd=>aC [.str [],.str [],.i 0,.i 0,.str [],.str [],.nilrow,.nilrow] 0 d λd=>aB H F λ_ f=>ah f 4 λf=>aB H F λ_ g=>ah g 2 λg=>aP ab 79 g H λg=>aj 1 g λg=>bQ (aG ab 3) 1 f [g] H λf H=>aj 1 f λf=>aB H F λg i=>aC i 4 f λf=>let H:=H.set F (.cells (g+1) f);aB H F λ_ f=>ah f 4 λf=>aP ab 25 f H λf=>aA ab .sub 3 true f (.i 1) λf=>ah d 0 λg=>ah d 1 λi=>aj 1 f λf=>aC [.i 0,.i v6,.i (-1),.i 0,.str [],.str [],.i 0] 3 f λf=>aj 1 g λg=>aC f 4 g λf=>aj 1 i λg=>aC f 5 g λf=>aj 1 k λg=>aC f 6 g λf=>ah d 2 λg=>ah d 3 λi=>ah d 4 λn=>ah d 5 λo=>ah d 6 λA=>ah d 7 λd=>bd (R (.call 62 [.ptr F 0,.agg f,.agg [g,i,n,o,A,d],.i j] none) H) (λ_ H=>ac R 33 200011 [.g (.ptr F 0),.n v6,.lp 0 0,.g (.row 14 a),.n b,.n c,.g e,.n h,.n (bm (j+1))] [(0,[k,l,m,p,q,r,s,t,u,v,w,x,y,z])] H) λ_ _=>none) (ac R 33 200006 [.g (.ptr F 0),.g (.row 14 a),.n b,.n (bm (c+1))] [] H):=by kernel_rfl
def afb{R:aJ}{o:Nat}{v6:Int}{a:aQ}{b c:Int}{e h j k l m p q r s t u v w:D}{H:DH}:aF R 33 18 [.g (.ptr o 0),.n v6,.lp 0 0,.g (.row 14 a),.n b,.n c] [(0,[e,h,j,k,l,m,p,q,r,s,t,u,v,w])] H =
 aB H o λ_ d=>ah d 3 λd=>aB H o λ_ f=>ah f 2 λf=>aP ab 79 f H λf=>aj 1 f λf=>bQ (aG ab 3) 1 d [f] H λd H=>aj 1 d λd=>aB H o λf g=>aC g 3 d λd=>let H:=H.set o (.cells (f+1) d);aB H o λ_ d=>ah d 3 λd=>aP ab 25 d H λd=>aA ab .sub 3 true d (.i 1) λd=>aj 1 d λd=>aC [.i 0,.i v6,.i 0,.i 0,.str [],.str [],.i 0] 2 d λd=>aC d 3 [.i (-1)] λd=>aj 1 l λf=>aC d 4 f λd=>aj 1 e λe=>aC d 6 e λd=>bd (R (.call 62 [.ptr o 0,.agg d,.agg [r,s,t,u,v,w],.i 0] none) H) (λ_ H=>ac R 33 200006 [.g (.ptr o 0),.g (.row 14 a),.n b,.n (bm (c+1))] [] H) λ_ _=>none:=by kernel_rfl
def CC{R:aJ}{h:Nat}{a:D}{b c:Int}{H:DH}:aF R 33 200022 [.g (.ptr h 0),.g a,.n b,.n c] [] H =
 cond (decide (c<b)) (ay ab 25 a (.i c) λd=>bJ ab 3 d H λd=>aB H h λ_ e=>ah e 5 λe=>aB H h λ_ f=>ah f 2 λf=>ay ab 79 f d λf=>bI f 0 λf=>bJ ab 3 f H λf=>aB H h λ_ g=>ah g 2 λg=>ay ab 79 g d λd=>bI d 5 λd=>bJ ab 9 d H λd=>mj ab 80 e f d H λH=>ac R 33 200022 [.g (.ptr h 0),.g a,.n b,.n (bm (c+1))] [] H) (ret (.tuple [.ptr h 0,.i 0]) H):=by kernel_rfl
def ang{R:aJ}{o:Nat}{a b:Int}{c e:af}{h j:aQ}{k l:Int}{m:aQ}{q:Int}{H:DH}:az R 118 [.ptr o 0,.agg (xE a b c e h j),.agg [.i k,.i l,.row 1 m],.i q] H =
 bj H (aB H o λ_ d=>ah d 1 λd=>aP ab 78 d H λd=>aB H o λ_ f=>ah f 1 λf=>bQ (aG ab 88) 11 f [[.i a,.i b,.str c,.str e,.row 6 h,.row 3 j,.i k,.i l,.row 1 m,.i q,.nilrow]] H λf H=>aj 1 f λf=>aB H o λg i=>aC i 1 f λf=>let H:=H.set o (.cells (g+1) f);let f:=H++[.buf 1 true false []];ac R 118 200005 [.g (.ptr o 0),.n q,.lp 0 0,.lp 1 0,.g d,.g (.buf 1 H.length 0),.g (.row 6 h),.n h.length,.n 0] [(0,xE a b c e h j),(0,[.i k,.i l,.row 1 m])] f):=by kernel_rfl
def yh{R:aJ}{z:Nat}{v3 F:Int}{a b:Nat}{c:aQ}{e h j k:Int}{l m:af}{p q:aQ}{r s:Int}{t:aQ}{H:DH}:aF R 118 200005 [.g (.ptr z 0),.n v3,.lp 0 0,.lp 1 0,.n F,.g (.buf 1 a b),.g (.row 6 c),.n e,.n h] [(0,xE j k l m p q),(0,[.i r,.i s,.row 1 t])] H =
 cond (decide (h<e)) (bg h λd=>aX c d λd=>ah d 0 λf=>ah d 1 λg=>ah d 2 λi=>ah d 3 λn=>ah d 4 λo=>ah d 5 λd=>C R 192 [.row 1 t] H λu H=>bQ (aG ab 3) 1 u [[.i h]] H λu H=>ct (.fz 1) 0 u H λu H=>aj 1 u λu=>aC [.i r,.i s,.row 1 t] 2 u λu=>ah u 0 λv=>ah u 1 λw=>ah u 2 λu=>C R 118 [.ptr z 0,.agg [f,g,i,n,o,d],.agg [v,w,u],.i v3] H λd H=>aj 1 d λd=>bQ (aG ab 3) 1 (.buf 1 a b) [d] H λa H=>ct (.acc 1) 0 a H λa H=>ac R 118 200005 [.g (.ptr z 0),.n v3,.lp 0 0,.lp 1 0,.n F,.g a,.g (.row 6 c),.n e,.n (bm (h+1))] [(0,xE j k l m p q),(0,[.i r,.i s,.row 1 t])] H) (aB H z λ_ c=>ah c 1 λc=>eZ (.fz 1) (.buf 1 a b) H λd H=>ay ab 78 c (.i F) λc=>bI c 10 λc=>aj 1 d λd=>GK c d H λH=>cond (j==5) (aB H z λ_ c=>ah c 5 λc=>boK (Nat.blt 0 b) (cH H a b λ_ _ _ a=>aX a 0 λa=>ah a 0 λa=>mj ab 80 c a (.str m) H λH=>ret (.i F) H)) (cond (j==7) (aB H z λ_ c=>ah c 5 λc=>boK (Nat.blt 0 b) (cH H a b λ_ _ _ a=>aX a 0 λa=>ah a 0 λa=>mj ab 80 c a (.str m) H λH=>ret (.i F) H)) (ret (.i F) H))):=by kernel_rfl
def amU{R:aJ}{a:af}{b:aQ}{H:DH}:az R 130 [.agg [.str a,.row 2 b]] H =
 ac R 130 200002 [.lp 0 0,.n 0] [(0,[.str a,.row 2 b])] H:=by kernel_rfl
def xS{R:aJ}{v3:Int}{a:af}{b:aQ}{H:DH}:aF R 130 200002 [.lp 0 0,.n v3] [(0,[.str a,.row 2 b])] H =
 cond (decide (v3<b.length)) (bg v3 λc=>aX b c λc=>ah c 0 λd=>ah c 1 λc=>C R 130 [.agg [d,c]] H λc H=>eD .not c λc=>brD c (ret (.bool false) H) (ac R 130 200002 [.lp 0 0,.n (bm (v3+1))] [(0,[.str a,.row 2 b])] H)) (cond (a==[45,62]) (ret (.bool ((b.length:Int)==2)) H) (cond (a==[44]) (cond (decide ((b.length:Int)>=2)) (ret (.bool (decide ((b.length:Int)<=4))) H) (ret (.bool false) H)) (C R 196 [.str a] H λc H=>brD c (cond ((b.length:Int)==0) (ret (.bool true) H) (C R 195 [.str a] H λa H=>brD a (ret (.bool (decide ((b.length:Int)<=16))) H) (ret (.bool false) H))) (C R 195 [.str a] H λa H=>brD a (ret (.bool (decide ((b.length:Int)<=16))) H) (ret (.bool false) H))))):=by kernel_rfl
def amI{R:aJ}{b:aQ}{a:Nat}{H:DH}:az R 181 [.row 14 b,.func 182 [] [.ptr a 0]] H =
 C R 247 [.row 14 b,.func 182 [] [.ptr a 0]] H λa H=>aA ab .geq 3 true a (.i 0) λa=>ret a H:=by kernel_rfl
def amF{R:aJ}{a:af}{b:aQ}{H:DH}:az R 184 [.agg [.str a,.row 2 b]] H =
 cond (a==[]) (ret (.bool ((b.length:Int)==0)) H) (ret (.bool false) H):=by kernel_rfl
def amB{R:aJ}{a:af}{b:aQ}{H:DH}:az R 188 [.agg [.str a,.row 2 b]] H =
 C R 249 [.row 2 b,.func 188 [] []] H λc H=>eD .not c λc=>brD c (ret (.bool false) H) (cond (a==[45,62]) (ret (.bool ((b.length:Int)==2)) H) (cond (a==[44]) (cond (decide ((b.length:Int)>=2)) (ret (.bool (decide ((b.length:Int)<=4))) H) (ret (.bool false) H)) (C R 251 [.str a] H λc H=>brD c (ret (.bool ((b.length:Int)==0)) H) (C R 201 [.str a] H λa H=>brD a (ret (.bool (decide ((b.length:Int)<=16))) H) (ret (.bool false) H))))):=by kernel_rfl
def amw{R:aJ}{a:Int}{b:af}{c:aQ}{d:Int}{H:DH}:az R 193 [.agg [.i a,.str b,.row 3 c],.i d] H =
 cond (decide (d>100)) (ret (.i d) H) (ac R 193 200005 [.n d,.lp 0 0,.n d,.n 0] [(0,[.i a,.str b,.row 3 c])] H):=by kernel_rfl
def xy{R:aJ}{v1 h v6 a:Int}{b:af}{c:aQ}{H:DH}:aF R 193 200005 [.n v1,.lp 0 0,.n h,.n v6] [(0,[.i a,.str b,.row 3 c])] H =
 cond (decide (v6<c.length)) (bg v6 λd=>aX c d λd=>ah d 0 λe=>ah d 1 λf=>ah d 2 λd=>C R 193 [.agg [e,f,d],.i (bm (v1+1))] H λd H=>jj true (.i h) [d] λd=>ac R 193 200005 [.n v1,.lp 0 0,.g d,.n (bm (v6+1))] [(0,[.i a,.str b,.row 3 c])] H) (ret (.i h) H):=by kernel_rfl
def amj{R:aJ}{a:Int}{H:DH}:az R 231 [.int .u8 a] H =
 cond (a==9) (ret (.bool true) H) (cond (a==10) (ret (.bool true) H) (cond (a==13) (ret (.bool true) H) (ret (.bool (a==32)) H))):=by kernel_rfl
def f246{R:aJ}{j:Nat}{a b:Int}{c e:af}{g h:aQ}{k:Int}{H:DH}:az R 246 [.ptr j 0,.agg (xE a b c e g h),.i k] H =
 bj H (let d:=H++[.cells 0 [.ptr j 0]];let a:=d++[.cells 0 (xE a b c e g h)];let b:=a++[.cells 0 [.i k]];aB b H.length λ_ c=>ah c 0 λc=>aB b a.length λ_ e=>ah e 0 λe=>C R 303 [c,e,.func 305 [] [.ptr d.length 0,.ptr H.length 0,.ptr a.length 0]] b λ_ H=>ret (.tuple []) H):=by kernel_rfl
def ame{R:aJ}{b:aQ}{d:D}{H:DH}:az R 250 [.row 1 b,d] H =
 bj H (aj 1 d λa=>let a:=H++[.cells 0 a];C R 309 [.row 1 b,.func 310 [] [.ptr H.length 0]] a λa H=>eD .not a λa=>ret a H):=by kernel_rfl
def ama{R:aJ}{b:aQ}{a:Nat}{H:DH}:az R 254 [.row 8 b,.func 255 [] [.ptr a 0]] H =
 C R 313 [.row 8 b,.func 255 [] [.ptr a 0]] H λa H=>aA ab .geq 3 true a (.i 0) λa=>ret a H:=by kernel_rfl
def alV{R:aJ}{d:af}{b:Int}{H:DH}:az R 259 [.str d,.i b] H =
 cond (d==[44]) (cond (decide (b>=2)) (cond (decide (b<=4)) (ret (.bool true) H) (C R 201 [.str d] H λa H=>brD a (ret (.bool (decide (b<=16))) H) (ret (.bool false) H))) (C R 201 [.str d] H λa H=>brD a (ret (.bool (decide (b<=16))) H) (ret (.bool false) H))) (C R 201 [.str d] H λa H=>brD a (ret (.bool (decide (b<=16))) H) (ret (.bool false) H)):=by kernel_rfl
def f283{R:aJ}{b:Int}{H:DH}:az R 283 [.int .u8 b] H =
 C R 284 [.int .u8 b] H λa H=>brD a (ret (.bool true) H) (C R 286 [.int .u8 b] H λa H=>brD a (ret (.bool true) H) (C R 281 [.int .u8 b] H λa H=>brD a (ret (.bool true) H) (ret (.bool (b==95)) H))):=by kernel_rfl
def alR{R:aJ}{d:af}{b:Int}{H:DH}:az R 289 [.str d,.i b] H =
 cond (decide ((bm (b+1))<(d.length:Int))) (cF ab 9 (.str d) (some (.i b)) (some (.i (bm (b+2)))) none H λa H=>aA ab .eql 9 true a (.str [61,62]) λa=>brD a (ret (.i 2) H) (cF ab 9 (.str d) (some (.i b)) (some (.i (bm (b+2)))) none H λa H=>aA ab .eql 9 true a (.str [45,62]) λa=>brD a (ret (.i 2) H) (ac R 289 200005 [.g (.str d),.n b,.g (.str [40,41,44,59,58,124,61,60,43,45,42,47,37,95]),.n 0] [] H))) (ac R 289 200005 [.g (.str d),.n b,.g (.str [40,41,44,59,58,124,61,60,43,45,42,47,37,95]),.n 0] [] H):=by kernel_rfl
def wX{R:aJ}{e:af}{v1:Int}{d:af}{v6:Int}{H:DH}:aF R 289 200005 [.g (.str e),.n v1,.g (.str d),.n v6] [] H =
 cond (decide (v6<d.length)) (bg v6 λa=>fv d a λa=>bg v1 λb=>fv e b λb=>aA ab .eql 5 false a b λa=>brD a (ret (.i 1) H) (ac R 289 200005 [.g (.str e),.n v1,.g (.str d),.n (bm (v6+1))] [] H)) (ret (.i 0) H):=by kernel_rfl
def alN{R:aJ}{a b c:Nat}{H:DH}:az R 300 [.ptr a 0,.ptr b 0,.ptr c 0] H =
 aB H a λ_ a=>ah a 1 λa=>aP ab 142 a H λd=>ac R 300 200001 [.g (.ptr b 0),.g (.ptr c 0),.g a,.g d,.n 0] [] H:=by kernel_rfl
def wW{R:aJ}{v1 v2:Nat}{v6:D}{h e:Int}{H:DH}:aF R 300 200001 [.g (.ptr v1 0),.g (.ptr v2 0),.g v6,.n h,.n e] [] H =
 cond (decide (e<h)) (ay ab 142 v6 (.i e) λa=>bJ ab 144 a H λa=>aj 2 a λa=>aC [.str [],.nilrow] 0 a λa=>aB H v1 λ_ b=>ah b 0 λb=>ah a 0 λc=>ah a 1 λa=>aB H v2 λ_ d=>ah d 0 λd=>aA ab .add 3 true d (.i 1) λd=>C R 243 [b,.agg [c,a],d] H λ_ H=>ac R 300 200001 [.g (.ptr v1 0),.g (.ptr v2 0),.g v6,.n h,.n (bm (e+1))] [] H) (ret (.tuple []) H):=by kernel_rfl
def alE{R:aJ}{b:aQ}{a:Nat}{H:DH}:az R 309 [.row 1 b,.func 310 [] [.ptr a 0]] H =
 C R 333 [.row 1 b,.func 310 [] [.ptr a 0]] H λa H=>aA ab .geq 3 true a (.i 0) λa=>ret a H:=by kernel_rfl
def f314{R:aJ}{b:aQ}{a:Nat}{H:DH}:az R 314 [.row 6 b,.func 315 [] [.ptr a 0]] H =
 C R 334 [.row 6 b,.func 315 [] [.ptr a 0]] H λa H=>aA ab .geq 3 true a (.i 0) λa=>ret a H:=by kernel_rfl
def alx{R:aJ}{a:Nat}{H:DH}:az R 325 [.ptr a 0] H =
 ac R 325 200000 [.g (.ptr a 0)] [] H:=by kernel_rfl
def Kk{R:aJ}{e:Nat}{H:DH}:aF R 325 200000 [.g (.ptr e 0)] [] H =
 bd (R (.call 339 [.ptr e 0,.i 0,.func 340 [] []] none) H) (λa b=>aB (dG b [H]) e λ_ c=>ah c 1 λc=>aA ab .add 3 false c a λa=>aj 1 a λa=>aB b e λc d=>aC d 1 a λa=>let H:=b.set e (.cells (c+1) a);C R 341 [.ptr e 0,.str [40,42]] H λa H=>eD .not a λa=>brD a (ret (.tuple []) H) (aB H e λ_ a=>ah a 1 λa=>C R 342 [.ptr e 0] H λ_ H=>aB H e λ_ b=>ah b 3 λb=>aB H e λ_ c=>ah c 1 λc=>aj 1 a λa=>aC [.i 0,.i 0] 0 a λa=>aj 1 c λc=>aC a 1 c λa=>aj 2 (.agg a) λa=>bQ (aG ab 393) 2 b [a] H λa H=>aj 1 a λa=>aB H e λb c=>aC c 3 a λa=>let H:=H.set e (.cells (b+1) a);ac R 325 200000 [.g (.ptr e 0)] [] H)) λ_ _=>none:=by kernel_rfl
def alr{R:aJ}{b:aQ}{a:Nat}{H:DH}:az R 334 [.row 6 b,.func 315 [] [.ptr a 0]] H =
 ac R 334 200002 [.g (.row 6 b),.g (.func 315 [] [.ptr a 0]),.n b.length,.n 0] [] H:=by kernel_rfl
def wJ{R:aJ}{k:aQ}{v1:D}{o j:Int}{H:DH}:aF R 334 200002 [.g (.row 6 k),.g v1,.n o,.n j] [] H =
 cond (decide (j<o)) (bg j λa=>aX k a λa=>ah a 0 λb=>ah a 1 λc=>ah a 2 λd=>ah a 3 λe=>ah a 4 λf=>ah a 5 λa=>fH bF v1 λg h i=>C R g (h++([.agg [b,c,d,e,f,a]]++i)) H λa H=>brD a (ret (.i j) H) (ac R 334 200002 [.g (.row 6 k),.g v1,.n o,.n (bm (j+1))] [] H)) (ret (.i (-1)) H):=by kernel_rfl
def ali{R:aJ}{b:Nat}{H:DH}:az R 345 [.ptr b 0] H =
 C R 343 [.ptr b 0,.i 0] H λa H=>aA ab .eql 5 true a (.int .u8 126) λa=>brD a (ac R 345 4 [.g (.ptr b 0),.lp 0 0,.n 1] [(0,(xT 0 0 [] 0))] H) (ac R 345 4 [.g (.ptr b 0),.lp 0 0,.n 0] [(0,(xT 0 0 [] 0))] H):=by kernel_rfl
def Wz{R:aJ}{j:Nat}{v3 a b:Int}{c:af}{e:Int}{H:DH}:aF R 345 4 [.g (.ptr j 0),.lp 0 0,.n v3] [(0,xT a b c e)] H =
 C R 339 [.ptr j 0,.i v3,.func 344 [] []] H λd H=>aA ab .add 3 false (.i v3) d λf=>C R 343 [.ptr j 0,f] H λf H=>aB H j λ_ g=>ah g 0 λg=>aB H j λ_ h=>ah h 1 λh=>aB H j λ_ i=>ah i 1 λi=>aA ab .add 3 false i (.i v3) λi=>aA ab .add 3 false i d λd=>cF ab 9 g (some h) (some d) none H λd _=>C R 355 [d] H λg H=>fI g 0 λh=>fI g 1 λg=>aA ab .neq 29 true g (.i 0) λg=>brD g (aB H j λ_ a=>ah a 1 λa=>aj 1 a λa=>aC [.i 0,.i 0] 0 a λa=>aC a 1 [.i 13] λa=>pan (.iface 321 (.agg a)) H) (C R 350 [f] H λg H=>brD g (aB H j λ_ a=>ah a 1 λa=>aj 1 a λa=>aC [.i 0,.i 0] 0 a λa=>aC a 1 [.i 13] λa=>pan (.iface 321 (.agg a)) H) (aA ab .eql 5 true f (.int .u8 39) λf=>brD f (aB H j λ_ a=>ah a 1 λa=>aj 1 a λa=>aC [.i 0,.i 0] 0 a λa=>aC a 1 [.i 13] λa=>pan (.iface 321 (.agg a)) H) (aB H j λ_ f=>ah f 1 λf=>aj 1 h λg=>aC (xT 1 0 [] 0) 1 g λg=>aj 1 d λd=>aC g 2 d λd=>aj 1 f λf=>aC d 3 f λd=>aj 4 (.agg d) λd=>aC (xT a b c e) 0 d λa=>ah a 0 λb=>ah a 1 λc=>ah a 2 λd=>ah a 3 λa=>ret (.agg [b,c,d,a]) H))):=by kernel_rfl
def f61{R:aJ}{a:aQ}{H:DH}:az R 61 [.agg [.row 14 a]] H =
 bd (R (.call 113 [.agg [.row 14 a]] none) H) (λb H=>bd (R (.call 114 [.agg [.row 14 a]] none) H) (λc H=>cond (decide ((a.length:Int)>60)) (aA ab .leq 3 true b (.i 100) λa=>brD a (C R 115 [b,.i 2001,.bool false] H λa H=>ret a H) (C R 115 [b,.i 2001,.bool false] H λa H=>ret a H)) (aA ab .leq 3 true b (.i 100) λd=>brD d (aA ab .leq 3 true c (.i 2000) λd=>brD d (C R 116 [.row 14 a,.func 117 [] []] H λa H=>C R 115 [b,c,a] H λa H=>ret a H) (C R 115 [b,c,.bool false] H λa H=>ret a H)) (C R 115 [b,c,.bool false] H λa H=>ret a H))) λ_ _=>none) λ_ _=>none:=by kernel_rfl
def f67{R:aJ}{a:Int}{b:af}{c e:aQ}{g h:af}{j k:aQ}{l m:Int}{p q:af}{r s:aQ}{H:DH}:az R 67 [.agg (xD a b c e g h j k l m p q r s)] H =
 cond (a != 1) (C R 125 [.agg [.str b,.row 1 c,.row 2 e]] H λd H=>eD .not d λd=>brD d (ret (.bool false) H) (cond (a != 2) (C R 126 [.agg [.str h,.row 2 j]] H λd H=>eD .not d λd=>brD d (ret (.bool false) H) (cond (a != 3) (cond (decide ((k.length:Int)>0)) (ret (.bool false) H) (ac R 67 3 [.lp 0 0] [(0,xD a b c e g h j k l m p q r s)] H)) (ac R 67 3 [.lp 0 0] [(0,xD a b c e g h j k l m p q r s)] H))) (cond (a != 3) (cond (decide ((k.length:Int)>0)) (ret (.bool false) H) (ac R 67 3 [.lp 0 0] [(0,xD a b c e g h j k l m p q r s)] H)) (ac R 67 3 [.lp 0 0] [(0,xD a b c e g h j k l m p q r s)] H)))) (cond (a != 2) (C R 126 [.agg [.str h,.row 2 j]] H λd H=>eD .not d λd=>brD d (ret (.bool false) H) (cond (a != 3) (cond (decide ((k.length:Int)>0)) (ret (.bool false) H) (ac R 67 3 [.lp 0 0] [(0,xD a b c e g h j k l m p q r s)] H)) (ac R 67 3 [.lp 0 0] [(0,xD a b c e g h j k l m p q r s)] H))) (cond (a != 3) (cond (decide ((k.length:Int)>0)) (ret (.bool false) H) (ac R 67 3 [.lp 0 0] [(0,xD a b c e g h j k l m p q r s)] H)) (ac R 67 3 [.lp 0 0] [(0,xD a b c e g h j k l m p q r s)] H))):=by kernel_rfl
def aiV{R:aJ}{a:Int}{b:af}{c e:aQ}{g h:af}{j k:aQ}{l m:Int}{p q:af}{r s:aQ}{H:DH}:aF R 67 3 [.lp 0 0] [(0,xD a b c e g h j k l m p q r s)] H =
 cond (a != 4) (cond (a != 5) (C R 127 [.agg (xE l m p q r s)] H λd H=>eD .not d λd=>brD d (ret (.bool false) H) (ac R 67 5 [.lp 0 0] [(0,xD a b c e g h j k l m p q r s)] H)) (ac R 67 5 [.lp 0 0] [(0,xD a b c e g h j k l m p q r s)] H)) (ac R 67 5 [.lp 0 0] [(0,xD a b c e g h j k l m p q r s)] H):=by kernel_rfl
def aiU{R:aJ}{a:Int}{b:af}{c e:aQ}{h j:af}{k l:aQ}{m p:Int}{q r:af}{s t:aQ}{H:DH}:aF R 67 5 [.lp 0 0] [(0,xD a b c e h j k l m p q r s t)] H =
 ac R 67 6 [.lp 0 0,.n a] [(0,xD a b c e h j k l m p q r s t)] H:=by kernel_rfl
def aiT{R:aJ}{a b:Int}{c:af}{e h:aQ}{j k:af}{l m:aQ}{p q:Int}{r s:af}{t u:aQ}{H:DH}:aF R 67 6 [.lp 0 0,.n a] [(0,xD b c e h j k l m p q r s t u)] H =
 cond (a==1) (cond (j==[]) (C R 128 [.agg [.str c,.row 1 e,.row 2 h]] H λa H=>ret a H) (ret (.bool false) H)) (cond (a==2) (C R 129 [.str j] H λa H=>brD a (C R 130 [.agg [.str k,.row 2 l]] H λa H=>ret a H) (ret (.bool false) H)) (cond (a==4) (C R 129 [.str j] H λa H=>brD a (C R 131 [.agg (xE p q r s t u)] H λa H=>ret a H) (ret (.bool false) H)) (cond (a==5) (C R 129 [.str j] H λa H=>brD a (C R 131 [.agg (xE p q r s t u)] H λa H=>ret a H) (ret (.bool false) H)) (cond (a==3) (ac R 67 200015 [.lp 0 0,.n 0] [(0,xD b c e h j k l m p q r s t u)] H) (ret (.bool false) H))))):=by kernel_rfl
def Ch{R:aJ}{v3 a:Int}{b:af}{c e:aQ}{h j:af}{k l:aQ}{m p:Int}{q r:af}{s t:aQ}{H:DH}:aF R 67 200015 [.lp 0 0,.n v3] [(0,xD a b c e h j k l m p q r s t)] H =
 cond (decide (v3<l.length)) (bg v3 λd=>aX l d λd=>ah d 0 λd=>C R 129 [d] H λd H=>eD .not d λd=>brD d (ret (.bool false) H) (bg v3 λd=>aX l d λd=>ah d 1 λd=>C R 129 [d] H λd H=>eD .not d λd=>brD d (ret (.bool false) H) (bg v3 λd=>aX l d λd=>ah d 2 λf=>ah d 3 λg=>ah d 4 λi=>ah d 5 λn=>ah d 6 λo=>ah d 7 λd=>C R 131 [.agg [f,g,i,n,o,d]] H λd H=>eD .not d λd=>brD d (ret (.bool false) H) (ac R 67 200015 [.lp 0 0,.n (bm (v3+1))] [(0,xD a b c e h j k l m p q r s t)] H)))) (cond (h==[]) (cond (decide ((l.length:Int)>=1)) (ret (.bool (decide ((l.length:Int)<=16))) H) (ret (.bool false) H)) (ret (.bool false) H)):=by kernel_rfl
def amY{R:aJ}{a:af}{b c:aQ}{H:DH}:az R 125 [.agg [.str a,.row 1 b,.row 2 c]] H =
 cond (a==[]) (cond ((b.length:Int)==0) (ret (.bool ((c.length:Int)==0)) H) (ret (.bool false) H)) (ret (.bool false) H):=by kernel_rfl
def amT{R:aJ}{a b:Int}{c e:af}{h j:aQ}{H:DH}:az R 131 [.agg (xE a b c e h j)] H =
 ac R 131 200002 [.lp 0 0,.n 0] [(0,xE a b c e h j)] H:=by kernel_rfl
def xR{R:aJ}{v3 a b:Int}{c e:af}{h j:aQ}{H:DH}:aF R 131 200002 [.lp 0 0,.n v3] [(0,xE a b c e h j)] H =
 cond (decide (v3<h.length)) (bg v3 λd=>aX h d λd=>ah d 0 λf=>ah d 1 λg=>ah d 2 λi=>ah d 3 λk=>ah d 4 λl=>ah d 5 λd=>C R 131 [.agg [f,g,i,k,l,d]] H λd H=>eD .not d λd=>brD d (ret (.bool false) H) (ac R 131 200002 [.lp 0 0,.n (bm (v3+1))] [(0,xE a b c e h j)] H)) (ac R 131 200007 [.lp 0 0,.n 0] [(0,xE a b c e h j)] H):=by kernel_rfl
def xQ{R:aJ}{i a b:Int}{c e:af}{h j:aQ}{H:DH}:aF R 131 200007 [.lp 0 0,.n i] [(0,xE a b c e h j)] H =
 cond (decide (i<j.length)) (bg i λd=>aX j d λd=>ah d 0 λf=>ah d 1 λg=>ah d 2 λd=>C R 197 [.agg [f,g,d]] H λd H=>eD .not d λd=>brD d (ret (.bool false) H) (ac R 131 200007 [.lp 0 0,.n (bm (i+1))] [(0,xE a b c e h j)] H)) (cond (a != 1) (cond (b != 0) (ret (.bool false) H) (cond (a != 8) (cond (decide ((j.length:Int)>0)) (ret (.bool false) H) (cond (a != 5) (cond (a != 7) (cond (!(e==[])) (ret (.bool false) H) (ac R 131 14 [.lp 0 0,.n h.length] [(0,xE a b c e h j)] H)) (ac R 131 14 [.lp 0 0,.n h.length] [(0,xE a b c e h j)] H)) (ac R 131 14 [.lp 0 0,.n h.length] [(0,xE a b c e h j)] H))) (cond (a != 5) (cond (a != 7) (cond (!(e==[])) (ret (.bool false) H) (ac R 131 14 [.lp 0 0,.n h.length] [(0,xE a b c e h j)] H)) (ac R 131 14 [.lp 0 0,.n h.length] [(0,xE a b c e h j)] H)) (ac R 131 14 [.lp 0 0,.n h.length] [(0,xE a b c e h j)] H)))) (cond (a != 8) (cond (decide ((j.length:Int)>0)) (ret (.bool false) H) (cond (a != 5) (cond (a != 7) (cond (!(e==[])) (ret (.bool false) H) (ac R 131 14 [.lp 0 0,.n h.length] [(0,xE a b c e h j)] H)) (ac R 131 14 [.lp 0 0,.n h.length] [(0,xE a b c e h j)] H)) (ac R 131 14 [.lp 0 0,.n h.length] [(0,xE a b c e h j)] H))) (cond (a != 5) (cond (a != 7) (cond (!(e==[])) (ret (.bool false) H) (ac R 131 14 [.lp 0 0,.n h.length] [(0,xE a b c e h j)] H)) (ac R 131 14 [.lp 0 0,.n h.length] [(0,xE a b c e h j)] H)) (ac R 131 14 [.lp 0 0,.n h.length] [(0,xE a b c e h j)] H)))):=by kernel_rfl
def aad{R:aJ}{d a b:Int}{c e:af}{h j:aQ}{H:DH}:aF R 131 14 [.lp 0 0,.n d] [(0,xE a b c e h j)] H =
 ac R 131 15 [.lp 0 0,.n d,.n a] [(0,xE a b c e h j)] H:=by kernel_rfl
def aac{R:aJ}{d a b c:Int}{e h:af}{j k:aQ}{H:DH}:aF R 131 15 [.lp 0 0,.n d,.n a] [(0,xE b c e h j k)] H =
 cond (a==1) (cond (d==0) (ret (.bool (e==[])) H) (ret (.bool false) H)) (cond (a==2) (cond (d==0) (C R 129 [.str e] H λa H=>ret a H) (ret (.bool false) H)) (cond (a==3) (C R 198 [.str e,.i d] H λa H=>ret a H) (cond (a==4) (cond (d==2) (ret (.bool (e==[])) H) (ret (.bool false) H)) (cond (a==5) (cond (d==1) (cond (e==[]) (C R 129 [.str h] H λa H=>ret a H) (ret (.bool false) H)) (ret (.bool false) H)) (cond (a==6) (cond (d==2) (C R 129 [.str e] H λa H=>ret a H) (ret (.bool false) H)) (cond (a==7) (cond (d==2) (C R 129 [.str e] H λa H=>brD a (C R 129 [.str h] H λa H=>ret a H) (ret (.bool false) H)) (ret (.bool false) H)) (cond (a==8) (cond (e==[]) (cond (decide ((k.length:Int)>=1)) (cond (decide ((k.length:Int)<=16)) (ret (.bool (d==(bm ((k.length:Int)+1)))) H) (ret (.bool false) H)) (ret (.bool false) H)) (ret (.bool false) H)) (cond (a==9) (cond (d==2) (C R 199 [.str e] H λa H=>ret a H) (ret (.bool false) H)) (ret (.bool false) H))))))))):=by kernel_rfl
def ams{R:aJ}{a:af}{H:DH}:az R 199 [.str a] H =
 cond (a==[43]) (ret (.bool true) H) (cond (a==[45]) (ret (.bool true) H) (cond (a==[42]) (ret (.bool true) H) (cond (a==[47]) (ret (.bool true) H) (cond (a==[37]) (ret (.bool true) H) (cond (a==[60]) (ret (.bool true) H) (ret (.bool (a==[61])) H)))))):=by kernel_rfl
def f244{R:aJ}{j:Nat}{a b:Int}{c e:af}{g h:aQ}{k:Int}{H:DH}:az R 244 [.ptr j 0,.agg (xE a b c e g h),.i k] H =
 bj H (let d:=H++[.cells 0 [.ptr j 0]];let a:=d++[.cells 0 (xE a b c e g h)];let b:=a++[.cells 0 [.i k]];aB b H.length λ_ c=>ah c 0 λc=>aB b a.length λ_ e=>ah e 0 λe=>C R 299 [c,e,.func 301 [] [.ptr d.length 0,.ptr H.length 0,.ptr a.length 0]] b λ_ H=>ret (.tuple []) H):=by kernel_rfl
def amg{R:aJ}{a:af}{b:aQ}{H:DH}:az R 248 [.agg [.str a,.row 2 b]] H =
 C R 201 [.str a] H λa H=>brD a (cond (decide ((b.length:Int)<=16)) (C R 249 [.row 2 b,.func 188 [] []] H λa H=>ret a H) (ret (.bool false) H)) (ret (.bool false) H):=by kernel_rfl
def amc{R:aJ}{b:aQ}{d:D}{H:DH}:az R 252 [.row 2 b,d] H =
 bj H (aj 1 d λa=>let a:=H++[.cells 0 a];C R 311 [.row 2 b,.func 312 [] [.ptr H.length 0]] a λa H=>eD .not a λa=>ret a H):=by kernel_rfl
def alW{R:aJ}{a:Int}{b:af}{c:aQ}{H:DH}:az R 258 [.agg [.i a,.str b,.row 3 c]] H =
 C R 257 [.row 3 c,.func 258 [] []] H λd H=>eD .not d λd=>brD d (ret (.bool false) H) (cond (a==1) (cond (b==[]) (ret (.bool ((c.length:Int)==0)) H) (ret (.bool false) H)) (cond (a==2) (C R 187 [.str b] H λa H=>brD a (ret (.bool ((c.length:Int)==0)) H) (ret (.bool false) H)) (cond (a==3) (C R 259 [.str b,.i c.length] H λa H=>ret a H) (ret (.bool false) H)))):=by kernel_rfl
def f282{R:aJ}{b:af}{H:DH}:az R 282 [.str b] H =
 cond (decide ((b.length:Int)>0)) (fv b 0 λa=>aA ab .eql 5 true a (.int .u8 126) λa=>brD a (ac R 282 4 [.g (.str b),.n 1] [] H) (ac R 282 4 [.g (.str b),.n 0] [] H)) (ac R 282 4 [.g (.str b),.n 0] [] H):=by kernel_rfl
def afe{R:aJ}{b:af}{d:Int}{H:DH}:aF R 282 4 [.g (.str b),.n d] [] H =
 cond ((b.length:Int)==d) (ret (.tuple [.i 0,.i 13]) H) (cond (decide ((b.length:Int)>30)) (ret (.tuple [.i 0,.i 13]) H) (bg d λa=>fv b a λa=>aA ab .eql 5 true a (.int .u8 48) λa=>brD a (cond (decide ((b.length:Int)>1)) (ret (.tuple [.i 0,.i 13]) H) (ac R 282 200009 [.g (.str b),.n d,.n 0,.n (-9223372036854775808),.n d] [] H)) (ac R 282 200009 [.g (.str b),.n d,.n 0,.n (-9223372036854775808),.n d] [] H))):=by kernel_rfl
def Kr{R:aJ}{e:af}{j d v6 h:Int}{H:DH}:aF R 282 200009 [.g (.str e),.n j,.n d,.n v6,.n h] [] H =
 cond (decide (h<e.length)) (bg h λa=>fv e a λa=>C R 281 [a] H λa H=>eD .not a λa=>brD a (ret (.tuple [.i 0,.i 13]) H) (bg h λa=>fv e a λa=>aA ab .sub 5 true a (.int .u8 48) λa=>rj ab 5 3 a λa=>aA ab .add 3 false (.i v6) a λb=>aA ab .quo 3 true b (.i 10) λb=>aA ab .lss 3 false (.i d) b λb=>brD b (ret (.tuple [.i 0,.i 13]) H) (aA ab .sub 3 false (.i (bm (10*d))) a λa=>ac R 282 200009 [.g (.str e),.n j,.g a,.n v6,.n (bm (h+1))] [] H))) (cond (j==1) (ret (.tuple [.i d,.i 0]) H) (cond (d==v6) (ret (.tuple [.i 0,.i 13]) H) (ret (.tuple [.i (bm (0 - d)),.i 0]) H))):=by kernel_rfl
def alO{R:aJ}{d:Nat}{e:Int}{h:D}{H:DH}:az R 299 [.ptr d 0,.i e,h] H =
 aB H d λ_ a=>ah a 0 λa=>jj true a [.i e] λa=>aj 1 a λa=>aB H d λb c=>aC c 0 a λa=>let H:=H.set d (.cells (b+1) a);cond (decide (e<=100)) (fH bF h λa b c=>C R a (b++([]++c)) H λ_ H=>ret (.tuple []) H) (ret (.tuple []) H):=by kernel_rfl
def alH{R:aJ}{h:Nat}{a:Int}{b:af}{c:aQ}{j:Int}{H:DH}:az R 306 [.ptr h 0,.agg [.i a,.str b,.row 3 c],.i j] H =
 bj H (let d:=H++[.cells 0 [.ptr h 0]];let a:=d++[.cells 0 [.i a,.str b,.row 3 c]];let b:=a++[.cells 0 [.i j]];aB b H.length λ_ c=>ah c 0 λc=>aB b a.length λ_ e=>ah e 0 λe=>C R 303 [c,e,.func 331 [] [.ptr d.length 0,.ptr H.length 0,.ptr a.length 0]] b λ_ H=>ret (.tuple []) H):=by kernel_rfl
def alC{R:aJ}{b:aQ}{a:Nat}{H:DH}:az R 311 [.row 2 b,.func 312 [] [.ptr a 0]] H =
 C R 277 [.row 2 b,.func 312 [] [.ptr a 0]] H λa H=>aA ab .geq 3 true a (.i 0) λa=>ret a H:=by kernel_rfl
def f317{R:aJ}{a:Int}{b:af}{c:aQ}{e:Nat}{H:DH}:az R 317 [.agg [.i a,.str b,.row 3 c],.ptr e 0] H =
 aB H e λ_ d=>ah d 0 λd=>fH bF d λd e f=>C R d (e++([.agg [.i a,.str b,.row 3 c]]++f)) H λa H=>eD .not a λa=>ret a H:=by kernel_rfl
def alu{R:aJ}{a b c:Nat}{H:DH}:az R 331 [.ptr a 0,.ptr b 0,.ptr c 0] H =
 aB H a λ_ a=>ah a 2 λa=>aP ab 84 a H λd=>ac R 331 200001 [.g (.ptr b 0),.g (.ptr c 0),.g a,.g d,.n 0] [] H:=by kernel_rfl
def wM{R:aJ}{v1 v2:Nat}{v6:D}{j h:Int}{H:DH}:aF R 331 200001 [.g (.ptr v1 0),.g (.ptr v2 0),.g v6,.n j,.n h] [] H =
 cond (decide (h<j)) (ay ab 84 v6 (.i h) λa=>bJ ab 232 a H λa=>aj 3 a λa=>aC [.i 0,.str [],.nilrow] 0 a λa=>aB H v1 λ_ b=>ah b 0 λb=>ah a 0 λc=>ah a 1 λd=>ah a 2 λa=>aB H v2 λ_ e=>ah e 0 λe=>aA ab .add 3 true e (.i 1) λe=>C R 306 [b,.agg [c,d,a],e] H λ_ H=>ac R 331 200001 [.g (.ptr v1 0),.g (.ptr v2 0),.g v6,.n j,.n (bm (h+1))] [] H) (ret (.tuple []) H):=by kernel_rfl
def aln{R:aJ}{d:Nat}{e:af}{H:DH}:az R 341 [.ptr d 0,.str e] H =
 aB H d λ_ a=>ah a 0 λa=>aB H d λ_ b=>ah b 1 λb=>cF ab 9 a (some b) none none H λa _=>bd (R (.call 354 [a,.str e] none) H) (λa H=>ret a H) λ_ _=>none:=by kernel_rfl
def alj{R:aJ}{a:Int}{H:DH}:az R 344 [.int .u8 a] H =
 cond (decide ((48:Int)<=a)) (ret (.bool (decide (a<=57))) H) (ret (.bool false) H):=by kernel_rfl
def alf{R:aJ}{a:Int}{H:DH}:az R 348 [.int .u8 a] H =
 cond (decide ((65:Int)<=a)) (ret (.bool (decide (a<=90))) H) (ret (.bool false) H):=by kernel_rfl
end
section
open Go.AI
def pk(l:af)(i:Nat):Nat:=(l[i]?).getD 0%256
def fL(c:Nat):Bool:=decide (97<=c)&&decide (c<=122)
def jF(c:Nat):Bool:=decide (65<=c)&&decide (c<=90)
def bC(c:Nat):Bool:=decide (48<=c)&&decide (c<=57)
def bv(c:Nat):Bool:=fL c||jF c||bC c||c==95
def ed(c:Nat):Bool:=c==32||c==9||c==10||c==13
def rn(q:Nat->Bool)(l:af)(i:Nat):Nat:=((l.drop i).takeWhile λc=>q (c%256)).length
theorem Ha(q:Nat->Bool){l:af}{i:Nat}(h:l.length<=i):rn q l i=0:=by simp[rn,List.drop_eq_nil_of_le h]
theorem kX(q:Nat->Bool){l:af}{i:Nat}(h:i<l.length):rn q l i=if q (pk l i)=true then rn q l (i+1)+1 else 0:=by unfold rn pk;rw[apq h,List.takeWhile_cons,abI h,aor];split<;>rfl
def sW(q:Nat->Bool)(l:af)(i:Nat)(h:i<=l.length):i+rn q l i<=l.length:=by grind [rn,List.takeWhile_sublist]
def agN(l:af)(i:Nat):pk l i<256:=Nat.mod_lt _ (by decide)
theorem oO{l:af}{i:Nat}(h:l.length<=i):pk l i=0:=by simp[pk,aoF h]
theorem dz{l:af}{i:Nat}(h:i<l.length)(κ:D->av):fv l i κ=κ (.int .u8 (pk l i:Nat)):=by unfold fv pk;rw[abI h,aor];rfl
def RU(l:af)(H:DH)(κ:D->av):aP ab 9 (.str l) H κ=κ (.i l.length):=by kernel_rfl
def aim(l:af)(k:IntKind)(i:Int)(κ:D->av):kC ab 9 (.str l) (.int k i) κ=bg i λi=>fv l i κ:=by kernel_rfl
def XV(l:af)(a b:Nat)(H:DH)(κ:D->DH->av)(h:a<=b)(d:b<=l.length):cF ab 9 (.str l) (some (.i a)) (some (.i b)) none H κ=κ (.str ((l.drop a).take (b - a))) H:=by
 have e:cF ab 9 (.str l) (some (.i a)) (some (.i b)) none H κ=boK (Nat.ble b l.length&&Nat.ble a b) (κ (.str ((l.drop a).take (b - a))) H):=by kernel_rfl
 rw[e,acw h,acw d];rfl
theorem ajS(l:af)(a:Nat)(H:DH)(κ:D->DH->av)(h:a<=l.length):cF ab 9 (.str l) (some (.i a)) none none H κ=κ (.str (l.drop a)) H:=by
 have e:cF ab 9 (.str l) (some (.i a)) none none H κ=boK (Nat.ble l.length l.length&&Nat.ble a l.length) (κ (.str ((l.drop a).take (l.length - a))) H):=by kernel_rfl
 rw[e,acw h,acw (abH _),aog (by simp)];rfl
theorem agv(l:af)(b:Nat)(H:DH)(κ:D->DH->av)(h:b<=l.length):cF ab 9 (.str l) none (some (.i b)) none H κ=κ (.str (l.take b)) H:=by
 have e:cF ab 9 (.str l) none (some (.i b)) none H κ=boK (Nat.ble b l.length&&Nat.ble 0 b) (κ (.str ((l.drop 0).take (b - 0))) H):=by kernel_rfl
 rw[e,acw h,acw (anI _)];rfl
theorem fE{x:av}{d:D}{H:DH}{k:D->DH->av}{kp:List iX->DH->av}(h:x=ret d H):bd x k kp=k d H:=by rw[h];rfl
def SA{x:av}{c:List iX}{u:Option fx}{H:DH}{k:D->DH->av}{kp:List iX->DH->av}(h:x=some ⟨.pan c,u,H⟩):bd x k kp=kp c H:=by rw[h];rfl
def GD{R:aJ}{f:FuncId}{args:List D}{d:D}{H H':DH}{k:D->DH->av}(h:R (.call f args none) H=pan d H'):C R f args H k=pan d H':=by rw[C,h];rfl
def Ml{H:DH}{o st:Nat}{cs:List D}{κ:Nat->List D->av}(h:H[o]? = some (.cells st cs)):aB (dG H [H]) o κ=κ st cs:=ae (yA h (λH2 a=>by simp at a;subst a;exact h))
section bytes
variable(H:DH)(c:Nat)
def nle(a:Nat):decide ((a:Int)<=(c:Int))=decide (a<=c):=aoI.2 (by omega)
def RF(a:Nat):decide ((c:Int)<=(a:Int))=decide (c<=a):=aoI.2 (by omega)
def nge(a:Nat):decide ((c:Int)>=(a:Int))=decide (a<=c):=aoI.2 (by omega)
theorem neq(a:Nat):((c:Int)==(a:Int))=(c==a):=by rw[ajF];simp only[apG];omega
theorem gI(a b:Nat):decide ((a:Int)<(b:Int))=decide (a<b):=aoI.2 (by omega)
def rng(a b:Nat):cond (decide (a<=c)) (ret (.bool (decide (c<=b))) H) (ret (.bool false) H)=ret (.bool (decide (a<=c)&&decide (c<=b))) H:=by cases decide (a<=c)<;>rfl
def GM:aq 346 [.int .u8 (c:Nat)] H=ret (.bool (fL c)) H:=ev (alh) (by rw[show(97:Int)=((97:Nat):Int)from rfl,show(122:Int)=((122:Nat):Int)from rfl,nle,RF,rng];rfl)
def PZ:aq 348 [.int .u8 (c:Nat)] H=ret (.bool (jF c)) H:=ev (alf) (by rw[show(65:Int)=((65:Nat):Int)from rfl,show(90:Int)=((90:Nat):Int)from rfl,nle,RF,rng];rfl)
def zU:aq 344 [.int .u8 (c:Nat)] H=ret (.bool (bC c)) H:=ev (alj) (by rw[show(48:Int)=((48:Nat):Int)from rfl,show(57:Int)=((57:Nat):Int)from rfl,nle,RF,rng];rfl)
def GL:aq 284 [.int .u8 (c:Nat)] H=ret (.bool (fL c)) H:=ev (f284) (by rw[show(97:Int)=((97:Nat):Int)from rfl,show(122:Int)=((122:Nat):Int)from rfl,nge,RF,rng];rfl)
def HG:aq 286 [.int .u8 (c:Nat)] H=ret (.bool (jF c)) H:=ev (f286) (by rw[show(65:Int)=((65:Nat):Int)from rfl,show(90:Int)=((90:Nat):Int)from rfl,nge,RF,rng];rfl)
def ul:aq 281 [.int .u8 (c:Nat)] H=ret (.bool (bC c)) H:=ev (f281) (by rw[show(48:Int)=((48:Nat):Int)from rfl,show(57:Int)=((57:Nat):Int)from rfl,nge,RF,rng];rfl)
def Me:aq 350 [.int .u8 (c:Nat)] H=ret (.bool (bv c)) H:=ev (ald) (by simp only[am (GM _ _),am (PZ _ _),am (zU _ _),ao,show(95:Int)=((95:Nat):Int)from rfl,neq,bv];cases fL c<;>cases jF c<;>cases bC c<;>rfl)
def Mb:aq 283 [.int .u8 (c:Nat)] H=ret (.bool (bv c)) H:=ev (f283) (by simp only[am (GL _ _),am (HG _ _),am (ul _ _),ao,show(95:Int)=((95:Nat):Int)from rfl,neq,bv];cases fL c<;>cases jF c<;>cases bC c<;>rfl)
def Yx:aq 340 [.int .u8 (c:Nat)] H=ret (.bool (ed c)) H:=ev (alo) (by simp only[show(32:Int)=((32:Nat):Int)from rfl,show(9:Int)=((9:Nat):Int)from rfl,show(10:Int)=((10:Nat):Int)from rfl,show(13:Int)=((13:Nat):Int)from rfl,neq,ed];cases c==32<;>cases c==9<;>cases c==10<;>cases c==13<;>rfl)
def Yw:aq 231 [.int .u8 (c:Nat)] H=ret (.bool (ed c)) H:=ev (amj) (by simp only[show(32:Int)=((32:Nat):Int)from rfl,show(9:Int)=((9:Nat):Int)from rfl,show(10:Int)=((10:Nat):Int)from rfl,show(13:Int)=((13:Nat):Int)from rfl,neq,ed];cases c==32<;>cases c==9<;>cases c==10<;>cases c==13<;>rfl)
end bytes
end
section
open Go.AI
def wN{a b:Nat}(h:a+b<2^62):bm ((a:Int)+(b:Int))=((a+b:Nat):Int):=by rw[ki]<;>omega
variable{H:DH}{p at' st:Nat}{l:af}{x y:D}
abbrev oo(l:af)(at':Nat)(x y:D):List D:=[.str l,.i at',x,y]
def ti(hp:H[p]? = some (.cells st (oo l at' x y)))(k:Nat)(h:at'+k<2^62):aq 343 [.ptr p 0,.i k] H=ret (.int .u8 (pk l (at'+k):Nat)) H:=by
 refine ev (alk) ?_;simp only[ae hp,ai,aw,bR,wN h,RU,dW,nge,aim,ao,aI]
 grind [oO,dz]
def Jf{g:Nat}{q:Nat->Bool}(hb:aV bF g=true)(a:∀ c H,aq g [.int .u8 (c:Nat)] H=ret (.bool (q c)) H)(hp:H[p]? = some (.cells st (oo l at' x y)))(hl:l.length<2^60)(k:Nat)(hk:at'+k<2^60):∀(d n:Nat),d=l.length - (at'+k+n)->n<2^60 ->
 ac au 339 200002 [.g (.ptr p 0),.n k,.g (.func g [] []),.n n] [] H=ret (.i (n+rn q l (at'+k+n):Nat)) H
 |d,n,hd,hn=>by
  refine aW (Kj) ?_;simp only[ae hp,ai,aw,bR,wN (show at'+k<2^62 by omega),wN (show at'+k+n<2^62 by omega),RU,aN,gI,aim,ao,aI,bZ hb,agc,ajH];cases hc:decide (at'+k+n<l.length)with
  |false =>grind [Ha]
  |true =>
   have hc:at'+k+n<l.length:=by simpa using hc
   rw[ge,dz hc,fE (a _ _),kX q hc];cases hq:q (pk l (at'+k+n))with
   |false=>simp[ao]
   |true =>
    have ih:=Jf hb a hp hl k hk (d - 1) (n+1) (by omega) (by omega)
    grind [ao,aE]
 termination_by d=>d
def AG{g:Nat}{q:Nat->Bool}(hb:aV bF g=true)(a:∀ c H,aq g [.int .u8 (c:Nat)] H=ret (.bool (q c)) H)(hp:H[p]? = some (.cells st (oo l at' x y)))(hl:l.length<2^60)(k:Nat)(hk:at'+k<2^60) :
 aq 339 [.ptr p 0,.i k,.func g [] []] H=ret (.i (rn q l (at'+k):Nat)) H:=by
 refine ev (alp) ?_;have:=Jf hb a hp hl k hk _ 0 rfl (by omega);simp only[afY,anP]at this;exact this
theorem adk(s t:af)(H:DH):aq 354 [.str s,.str t] H=ret (.bool (s.take t.length==t)) H:=by
 have h:aq 359 [.str s,.str t] H=ret (.bool (s.take t.length==t)) H:=by
  refine ev (alb) ?_;rw[nge];cases hc:decide (t.length<=s.length)with
  |true =>grind [agv,fw]
  |false =>
   have hc:¬ t.length<=s.length:=by simpa using hc
   have:(s.take t.length==t)=false:=by grind
   rw[this];rfl
 refine ev (alc) ?_;rw[am h]
def mc(hp:H[p]? = some (.cells st (oo l at' x y)))(ha:at'<=l.length)(t:af):aq 341 [.ptr p 0,.str t] H=ret (.bool ((l.drop at').take t.length==t)) H:=by
 refine ev (aln) ?_
 grind [ae,ai,aw,ajS,fE,adk]
def zi:List af:=[[97,110,100],[99,97,115,101],[100,97,116,97],[101,108,115,101],[101,110,100],[102,110],[102,117,110],[105,102],[105,110],[105,110,112,117,116],[108,101,116],[111,102],[111,117,116,112,117,116],[116,104,101,110],[118,97,108]]
def LP:af:=[40,41,44,59,58,124,61,60,43,45,42,47,37,95]
def dj(l:af)(p:Nat):Nat:=if pk l (p+rn bv l p)=39/\0<rn bC l (p+rn bv l p+1)then rn bv l p+(1+rn bC l (p+rn bv l p+1))else rn bv l p
def uG(l:af)(p:Nat):Nat:=if(l.drop p).take 2=[61,62]\/(l.drop p).take 2=[45,62] then 2 else if pk l p∈LP then 1 else 0
def gt(l:af)(p:Nat):Prop:=bC (pk l p)=true\/pk l p=126
def ia(l:af)(p:Nat):Option (Int×Nat) :=
 if fL (pk l p)=true then(if dj l p>24 then none else some (if(l.drop p).take (dj l p)∈zi then 5 else 2,dj l p))
 else if jF (pk l p)=true then(if dj l p>24 then none else some (3,dj l p))
 else if pk l p=39/\fL (pk l (p+1))=true then(if 1+rn bv l (p+1)>24 then none else some (4,1+rn bv l (p+1)))
 else if uG l p=0 then none else some (6,uG l p)
def tk(k n:Int)(t:af)(a:Nat):D:=.agg (xT k n t a)
def wr(a e:Int):D:=.iface 321 (.agg [.i a,.i e])
def Oa:List (D×D):=zi.map λw=>(.str w,.i 5)
def ov4(a b c d e f g h:D)(κ:List D->av):aC [a,b,c,d] 0 [e,f,g,h] κ=κ [e,f,g,h]:=rfl
def Rz(a b c d e:D)(κ:List D->av):aC [a,b,c,d] 1 [e] κ=κ [a,e,c,d]:=rfl
def akw(a b c d e:D)(κ:List D->av):aC [a,b,c,d] 0 [e] κ=κ [e,b,c,d]:=rfl
def agV(a b c d e:D)(κ:List D->av):aC [a,b,c,d] 2 [e] κ=κ [a,b,e,d]:=rfl
def adn(a b c d e:D)(κ:List D->av):aC [a,b,c,d] 3 [e] κ=κ [a,b,c,e]:=rfl
theorem UQ(a b e:D)(κ:List D->av):aC [a,b] 0 [e] κ=κ [e,b]:=rfl
theorem UP(a b e:D)(κ:List D->av):aC [a,b] 1 [e] κ=κ [a,e]:=rfl
def YX(a b e f:D)(κ:List D->av):aC [a,b] 0 [e,f] κ=κ [e,f]:=rfl
def ce4(a b c d:D)(κ:List D->av):aj 4 (.agg [a,b,c,d]) κ=κ [a,b,c,d]:=rfl
def ce2(a b:D)(κ:List D->av):aj 2 (.agg [a,b]) κ=κ [a,b]:=rfl
theorem qz(k:IntKind)(n:Int)(κ:List D->av):aj 1 (.int k n) κ=κ [.int k n]:=rfl
def Io(l:af)(κ:List D->av):aj 1 (.str l) κ=κ [.str l]:=rfl
def yW(a b c:Nat)(κ:List D->av):aj 1 (.buf a b c) κ=κ [.buf a b c]:=rfl
variable{H:DH}{p at' st m:Nat}{l:af}{x y:D}
def Ve(a b:Nat):decide ((a:Int)>(b:Int))=decide (b<a):=aoI.2 (by omega)
def tF(hp:H[p]? = some (.cells st (oo l at' x y)))(k:Int)(n:Nat)(a:at'+n<=l.length)(hl:l.length<2^60):aq 349 [.ptr p 0,.i k,.i n] H=if n>24 then pan (wr at' 2) H else ret (tk k 0 ((l.drop at').take n) at') H:=by
 refine ev (ale) ?_;rw[show(24:Int)=((24:Nat):Int)from rfl,Ve];cases hc:decide (24<n)with
 |true =>grind [ae,ai,aw,qz,UQ,UP,wr]
 |false =>
  have hc:¬ 24<n:=by simpa using hc
  rw[ajD hc];simp only[Xi,ae hp,ai,aw,bR,wN (show at'+n<2^62 by omega),XV l at' (at'+n) H _ (by omega) a,qz,Io,agV,adn,ce4,ov4,tk,show at'+n - at'=n by omega]
def Pw(t:af):∀ ws:List af,JA (.str t) (ws.map λw=>((.str w:D),(.i 5:D)))=some (if t∈ws then some (.i 5)else none)
 |[]=>rfl
 |w::r=>by
  simp only[ads,JA,BA,Pw t r]
  grind
def Zt(hm:H[m]? = some (.map Oa))(t:af)(κ:D->av):oa ab 378 (.map m) (.str t) true H κ=κ (.tuple [.i (if t∈zi then 5 else 0),.bool (decide (t∈zi))]):=by
 have e:oa ab 378 (.map m) (.str t) true H κ=rM H m λes=>wt (.str t) es λr=>lQ ab 3 true r κ:=by kernel_rfl
 have e2:lQ ab 3 true none κ=κ (.tuple [.i 0,.bool false]):=by kernel_rfl
 rw[e,mq hm,wt,Oa,Pw];by_cases h:t∈zi
 .simp only[h,apn,decide_true];rfl
 grind
def QQ:aV bF 350=true:=by kernel_rfl
def QR:aV bF 344=true:=by kernel_rfl
def aaD:aV bF 340=true:=by kernel_rfl
def tw(l:af)(p:Nat)(h:p<=l.length):p+dj l p<=l.length:=by
 have a:=sW bv l p h;unfold dj;split
 .rename_i hc;have h3:p+rn bv l p<l.length:=by grind [oO]
  have:=sW bC l (p+rn bv l p+1) (by omega);omega
 .exact a
def adB(hp:H[p]? = some (.cells st (oo l at' (.map m) y)))(hm:H[m]? = some (.map Oa))(k:Int)(n:Nat)(b:at'+n<=l.length)(hl:l.length<2^60) :
 ac au 347 6 [.g (.ptr p 0),.n k,.lp 0 0,.n n] [(0,(xT 0 0 [] 0))] H=if n>24 then pan (wr at' 2) H else ret (tk (if(l.drop at').take n∈zi then 5 else k) 0 ((l.drop at').take n) at') H:=by
 refine aW (afa) ?_;have h:=tF hp k n b hl;by_cases hc:n>24
 .rw[akJ hc]at h ⊢;rw[GD h]
 .rw[ajD hc]at h ⊢;simp only[am h,tk,ce4,ov4,ae hp,ai,aw,Zt hm,dU,ao];by_cases a:(l.drop at').take n∈zi
  .simp only[a,decide_true,ge,apn,qz,akw,ai,aw]
  .simp only[a,anM,Xi,apF,ai,aw]
def Zg(hp:H[p]? = some (.cells st (oo l at' (.map m) y)))(hm:H[m]? = some (.map Oa))(k:Int)(hl:l.length<2^59)(o:at'<=l.length) :
 aq 347 [.ptr p 0,.i k] H=if dj l at'>24 then pan (wr at' 2) H else ret (tk (if(l.drop at').take (dj l at')∈zi then 5 else k) 0 ((l.drop at').take (dj l at')) at') H:=by
 refine ev (alg) ?_;have q:=AG QQ (λc H=>Me H c) hp (by omega) 0 (by omega);have hr:=sW bv l at' o;have a:=tw l at' o;rw[anP]at q;have s:=ti hp (rn bv l at') (by omega);have j:=λn u=>adB hp hm k n u (by omega);rw[show(.i 0:D)=.i ((0:Nat):Int)from rfl,am q,am s];simp only[aZ,show(39:Int)=((39:Nat):Int)from rfl,neq,ao];by_cases b:pk l (at'+rn bv l at')=39
 .have hlt:at'+rn bv l at'<l.length:=by grind [oO]
  have r:=AG QR (λc H=>zU H c) hp (by omega) (rn bv l at'+1) (by omega);have hd:=sW bC l (at'+rn bv l at'+1) (by omega);rw[<- aoA]at r;rw[b];simp only[BEq.rfl,ge,bR,show(1:Int)=((1:Nat):Int)from rfl,wN (show rn bv l at'+1<2^62 by omega),am r,er,Ve,ao];by_cases d:0<rn bC l (at'+rn bv l at'+1)
  .simp only[show((0:Int))=((0:Nat):Int)from rfl,Ve,d,decide_true,ge,wN (show 1+rn bC l (at'+rn bv l at'+1)<2^62 by omega),wN (show rn bv l at'+(1+rn bC l (at'+rn bv l at'+1))<2^62 by omega)];have e:dj l at'=rn bv l at'+(1+rn bC l (at'+rn bv l at'+1)):=by unfold dj;rw[akJ ⟨b,d⟩]
   rw[<- e];exact j _ a
  .simp only[show((0:Int))=((0:Nat):Int)from rfl,Ve,d,anM,Xi];have e:dj l at'=rn bv l at':=by unfold dj;rw[ajD (λh=>d h.2)]
   rw[<- e];exact j _ a
 .rw[show(pk l (at'+rn bv l at')==39)=false from ajE.2 b,Xi];have e:dj l at'=rn bv l at':=by unfold dj;rw[ajD (λh=>b h.1)]
  rw[<- e];exact j _ a
def Pl{f:FuncId}{args:List D}{d:D}{H':DH}(h:de.orc f args H=some (d,H')):aq f args H=ret d H':=by
 show eW de (.call f args none) H=_;rw[Ns];show US de f args H none _=_
 grind [US]
def afT(l:af)(at':Nat)(H:DH)(r:av):Prop:=(∃(v:Int) (n:Nat),1<=n/\at'+n<=l.length/\r=ret (tk 1 v ((l.drop at').take n) at') H)\/r=pan (wr at' 13) H
def Jt(hp:H[p]? = some (.cells st (oo l at' x y)))(hl:l.length<=24)(ha:at'<l.length)(n:Nat)(b:at'+n<=l.length)(d:1<=n+rn bC l (at'+n)) :
 afT l at' H (ac au 345 4 [.g (.ptr p 0),.lp 0 0,.n n] [(0,(xT 0 0 [] 0))] H):=by
 have h:=AG QR (λc H=>zU H c) hp (by omega) n (by omega);have j:=sW bC l (at'+n) b;have k:=ti hp (n+rn bC l (at'+n)) (by omega);have a:((l.drop at').take (n+rn bC l (at'+n))).length<=1000:=by rw[ajQ];rw[aod];omega
 have o:∀ H,aq 355 [.str ((l.drop at').take (n+rn bC l (at'+n)))] H=ret (.tuple [.i (rG (aR ((l.drop at').take (n+rn bC l (at'+n))))).1,.i (rG (aR ((l.drop at').take (n+rn bC l (at'+n))))).2]) H:=λH=>Pl (by show(bif Nat.ble _ 1000 then _ else _)=_;rw[acw a];rfl)
 have e:=@Wz (Tm de au 0) p (n:Nat) 0 0 [] 0 H;unfold afT;rw[show ac au 345 4 [.g (.ptr p 0),.lp 0 0,.n n] [(0,(xT 0 0 [] 0))] H=_ from aW (Wz) rfl]
 simp only[am h,bR,wN (show n+rn bC l (at'+n)<2^62 by omega),am k,ae hp,ai,aw,wN (show at'+n<2^62 by omega),wN (show at'+n+rn bC l (at'+n)<2^62 by omega),XV l at' (at'+n+rn bC l (at'+n)) H _ (by omega) j,
  show at'+n+rn bC l (at'+n) - at'=n+rn bC l (at'+n)by omega,am (o _),dU,bu,ao,qz,Io,UQ,UP,Rz,agV,adn,ce4,ov4,am (Me _ _),aZ]
 cases ((rG (aR ((l.drop at').take (n+rn bC l (at'+n))))).2 != 0)with
 |true=>exact .inr rfl
 |false =>
  rw[Xi];cases bv (pk l (at'+(n+rn bC l (at'+n))))with
  |true=>exact .inr rfl
  |false =>
   rw[Xi];cases ((pk l (at'+(n+rn bC l (at'+n))):Int)==39)with
   |true=>exact .inr rfl
   |false=>exact .inl ⟨_,_,d,by omega,rfl⟩
def RC(hp:H[p]? = some (.cells st (oo l at' x y)))(hl:l.length<=24)(a:at'<l.length)(b:gt l at'):afT l at' H (aq 345 [.ptr p 0] H):=by
 have d:=ti hp 0 (by omega);rw[show aq 345 [.ptr p 0] H=_ from ev (ali) rfl];rw[show(.i 0:D)=.i ((0:Nat):Int)from rfl,am d,anP];simp only[aZ,show(126:Int)=((126:Nat):Int)from rfl,neq,ao];by_cases h:pk l at'=126
 .rw[h,BEq.rfl,ge];exact Jt hp hl a 1 (by omega) (by omega)
 .rw[show(pk l at'==126)=false from ajE.2 h,Xi];have hd:bC (pk l at')=true:=b.resolve_right h;refine Jt hp hl a 0 (by omega) ?_;simp_all[kX]
variable{H:DH}{p at' st m:Nat}{l:af}{x y:D}
def PS(c:Nat):∀(l:af) (n:Int),0<=n->decide (yQ l c n>=0)=decide (c∈l)
 |[],n,_=>by simp[yQ]
 |z::r,n,h=>by
  rw[yQ];by_cases e:z=c
  .simp_all
  .have hb:Nat.beq z c=false:=by grind [Nat.eq_of_beq_eq_true]
   rw[hb,Xi,PS c r (n+1) (by omega)]
   grind
def Wc(c:Nat)(hc:c<256)(H:DH):aq 351 [.str LP,.int .u8 (c:Nat)] H=ret (.i (yQ LP c 0)) H:=Pl (by
 show(bif Nat.blt c 256&&_ then _ else _)=_;have:Nat.blt c 256=true:=by unfold Nat.blt;exact acw hc
 rw[this];rfl)
def abd(l:af)(at':Nat)(H:DH)(r:av):Prop :=
 (∃(k v:Int) (n:Nat),1<=n/\at'+n<=l.length/\r=ret (tk k v ((l.drop at').take n) at') H/\(gt l at'->k=1)/\(¬ gt l at'->ia l at'=some (k,n)))\/(∃ a e:Int,e≠0/\r=pan (wr a e) H/\(¬ gt l at'->ia l at'=none))
def Fl{l:af}{p:Nat}(hp:p<l.length)(h:bv (pk l p)=true):1<=dj l p:=by grind [kX,dj]
def Yy(hp:H[p]? = some (.cells st (oo l at' (.map m) y)))(hl:l.length<=24)(o:at'<l.length) :
 ac au 326 11 [.g (.ptr p 0),.lp 0 0,.g (.int .u8 (pk l at':Nat))] [(0,(xT 0 0 [] 0))] H=if uG l at'=0 then pan (wr at' 11) H else ret (tk 6 0 ((l.drop at').take (uG l at')) at') H:=by
 refine aW (ZW) ?_;have s1:=mc hp (Nat.le_of_lt o) [61,62];have s2:=mc hp (Nat.le_of_lt o) [45,62];rw[am s1];have two:∀ {a b:Nat},(l.drop at').take 2=[a,b]->at'+2<=l.length:=λh=>by grind [List.length_take]
 by_cases j:(l.drop at').take 2=[61,62]
 .have e:uG l at'=2:=by unfold uG;rw[akJ (.inl j)]
  have d:=tF hp 6 2 (two j) (by omega);rw[ajD (by omega)]at d;rw[e,ajD (by omega),show(List.take [61,62].length (l.drop at')==[61,62])=true by simp[j],ao,ge];rw[show(.i 2:D)=.i ((2:Nat):Int)from rfl,am d];rfl
 .rw[show(List.take [61,62].length (l.drop at')==[61,62])=false by simp[j],ao,Xi,am s2];by_cases k:(l.drop at').take 2=[45,62]
  .have e:uG l at'=2:=by unfold uG;rw[akJ (.inr k)]
   have d:=tF hp 6 2 (two k) (by omega);rw[ajD (by omega)]at d;rw[e,ajD (by omega),show(List.take [45,62].length (l.drop at')==[45,62])=true by simp[k],ao,ge];rw[show(.i 2:D)=.i ((2:Nat):Int)from rfl,am d];rfl
  .rw[show(List.take [45,62].length (l.drop at')==[45,62])=false by simp[k],ao,Xi];have q:=Wc (pk l at') (agN _ _) H;rw[show([40,41,44,59,58,124,61,60,43,45,42,47,37,95]:af)=LP from rfl,am q];simp only[dW,PS _ _ 0 (aoO 0),ao];have e:uG l at'=if pk l at'∈LP then 1 else 0:=by unfold uG;rw[ajD (by simp[j,k])]
   by_cases n:pk l at'∈LP
   .rw[akJ n]at e;have d:=tF hp 6 1 (by omega) (by omega);rw[ajD (by omega)]at d;rw[e,ajD (by omega),acv n,ge,show(.i 1:D)=.i ((1:Nat):Int)from rfl,am d];rfl
   .rw[ajD n]at e;rw[e,akJ rfl,acz n,Xi];simp only[ae hp,ai,aw,qz,UQ,UP,wr]
def TB(hp:H[p]? = some (.cells st (oo l at' (.map m) y)))(hm:H[m]? = some (.map Oa))(hl:l.length<=24)(e:at'<l.length):abd l at' H (aq 326 [.ptr p 0] H):=by
 have M:=ti hp 0 (by omega);rw[show aq 326 [.ptr p 0] H=_ from ev (alw) rfl];rw[show(.i 0:D)=.i ((0:Nat):Int)from rfl,am M,anP,am (zU _ _)];simp only[aZ,show(126:Int)=((126:Nat):Int)from rfl,show(39:Int)=((39:Nat):Int)from rfl,neq,ao,am (GM _ _),am (PZ _ _)];have num:gt l at'->abd l at' H (C au 345 [.ptr p 0] H λN O=>aj 4 N λl7=>aC (xT ((0:Nat):Int) ((0:Nat):Int) [] ((0:Nat):Int)) 0 l7 λl8=>ah l8 0 λQ=>ah l8 1 λd10=>ah l8 2 λd11=>ah l8 3 λd12=>ret (.agg [Q,d10,d11,d12]) O):=λj=>by
  rcases RC hp hl e j with⟨v,n,s,o,u⟩|u
  .rw[am u];exact .inl ⟨1,v,n,s,o,rfl,λ_=>rfl,λh=>(h j).elim⟩
  .rw[GD u];exact .inr ⟨at',13,by decide,rfl,λh=>(h j).elim⟩
 cases J:bC (pk l at')with
 |true=>rw[ge];exact num (.inl J)
 |false =>
 rw[Xi];by_cases a:pk l at'=126
 .rw[a,BEq.rfl,ge];exact num (.inr a)
 rw[show(pk l at'==126)=false from ajE.2 a,Xi];have d:¬ gt l at':=λh=>by rcases h with h|h;exact(by rw[J]at h;cases h);exact a h
 have nm:∀ k:Int,(ia l at'=if dj l at'>24 then none else some (if(l.drop at').take (dj l at')∈zi then 5 else k,dj l at'))->bv (pk l at')=true ->
  abd l at' H (C au 347 [.ptr p 0,.i k] H λd24 H25=>aj 4 d24 λl26=>aC (xT ((0:Nat):Int) ((0:Nat):Int) [] ((0:Nat):Int)) 0 l26 λl27=>ah l27 0 λd28=>ah l27 1 λd29=>ah l27 2 λd30=>ah l27 3 λd31=>ret (.agg [d28,d29,d30,d31]) H25):=λk b w=>by
  have j:=Zg hp hm k (by omega) (Nat.le_of_lt e);have s:=Fl e w;have o:=tw l at' (Nat.le_of_lt e);by_cases hc:dj l at'>24
  .grind
  .rw[ajD hc]at j b;rw[am j];exact .inl ⟨_,0,_,s,o,rfl,λh=>(d h).elim,λ_=>b⟩
 cases z:fL (pk l at')with
 |true =>grind [ia,bv]
 |false =>
 rw[Xi];cases F:jF (pk l at')with
 |true =>
  rw[ge];refine nm 3 ?_ (by unfold bv;rw[F];simp);unfold ia;rw[ajD (by rw[z];decide),akJ F];have q:(l.drop at').take (dj l at')∉zi:=λq=>by
   have L:((l.drop at').take (dj l at'))[0]? = l[at']?:=by
    have s:=Fl e (by unfold bv;rw[F];simp)
    grind
   generalize(l.drop at').take (dj l at')=t at q L;have G:pk l at'=(t[0]?).getD 0%256:=by unfold pk;rw[L]
   rw[G]at z;simp only[zi,afS,apy,or_false]at q;rcases q with rfl|rfl|rfl|rfl|rfl|rfl|rfl|rfl|rfl|rfl|rfl|rfl|rfl|rfl|rfl<;>exact absurd z (by decide)
  rw[ajD q]
 |false =>
 rw[Xi];have sg:(pk l at'=39/\fL (pk l (at'+1))=true->False)->abd l at' H (ac au 326 11 [.g (.ptr p 0),.lp 0 0,.g (.int .u8 (pk l at':Nat))] [(0,(xT ((0:Nat):Int) ((0:Nat):Int) [] ((0:Nat):Int)))] H):=λhq=>by
  have h:=Yy hp hl e;have b:ia l at'=if uG l at'=0 then none else some (6,uG l at'):=by grind [ia]
  by_cases hc:uG l at'=0
  .rw[akJ hc]at h b;exact .inr ⟨at',11,by decide,h,λ_=>b⟩
  .rw[ajD hc]at h b;refine .inl ⟨6,0,uG l at',by omega,?_,h,λh=>(d h).elim,λ_=>b⟩
   grind [uG,List.drop,List.length_take,List.length_drop]
 by_cases I:pk l at'=39
 .rw[I,BEq.rfl,ge];have U:=ti hp 1 (by omega);rw[show(1:Int)=((1:Nat):Int)from rfl,am U,am (GM _ _),ao];cases o:fL (pk l (at'+1))with
  |true =>
   rw[ge];have hlt:at'+1<l.length:=by
    rcases aoN (at'+1) l.length with h|h
    .exact h
    .rw[oO h]at o;cases o
   have X:=AG QQ (λc H=>Me H c) hp (by omega) 1 (by omega);have hr:=sW bv l (at'+1) (by omega);have r:=tF hp 4 (1+rn bv l (at'+1)) (by omega) (by omega);rw[am X];simp only[bR,wN (show 1+rn bv l (at'+1)<2^62 by omega)];have b:ia l at'=if 1+rn bv l (at'+1)>24 then none else some (4,1+rn bv l (at'+1)):=by grind [ia]
   rw[ajD (by omega)]at r b;rw[am r];exact .inl ⟨4,0,_,by omega,by omega,rfl,λh=>(d h).elim,λ_=>b⟩
  |false =>grind
 grind
def gc{P:Program}{t:TypeId}{m b:Nat}(h:aG P t m=(Nat.ble (b*(m+Nat.div m 4+600)) 281474976710656&&Nat.ble m 4611686018427387904))(hb:b<=1000)(hm:m<=100000):aG P t m=true:=by rw[h,abk];refine⟨acw ?_,acw (by omega)⟩;have h1:Nat.div m 4<=m:=Nat.div_le_self m 4;have h2:b*(m+Nat.div m 4+600)<=1000*(100000+100000+600):=Nat.mul_le_mul hb (by omega);omega
def OI{m:Nat}(h:m<=100000):aG ab 393 m=true:=gc (b:=16) (by kernel_rfl) (by decide) h
theorem GZ{m:Nat}(h:m<=100000):aG ab 209 m=true:=gc (b:=40) (by kernel_rfl) (by decide) h
def LQ{H:DH}{p:Nat}{b:DB}(h:H[p]? = some b):H.set p b=H:=by
 apply aoC
 grind
variable{p:Nat}{l:af}{x y:D}
def Tu{a b at':Nat}(h:((l.drop at').take 2==[a,b])=true):at'+2<=l.length:=by grind [List.length_take]
def KR(hl:l.length<=24):∀(n at' st:Nat) (H:DH) (v d:Int),n=l.length - at'->at'<=l.length->H[p]? = some (.cells st (oo l at' x y)) ->
 (∃ at2 st2,at'<at2/\at2<=l.length/\ac au 342 200002 [.g (.ptr p 0),.n v,.n d] [] H=ret (.tuple []) (H.set p (.cells st2 (oo l at2 x y)))) \/
 (∃(a e:Int) (at2 st2:Nat),e≠0/\ac au 342 200002 [.g (.ptr p 0),.n v,.n d] [] H=pan (wr a e) (H.set p (.cells st2 (oo l at2 x y))))
 |n,at',st,H,v,d,hn,j,hp=>by
  have s1:=mc hp j [40,42];have s2:=mc hp j [42,41]
  have step:∀ k (h:Int),1<=k->k<=2->at'+k<=l.length ->
   (∃ at2 st2,at'<at2/\at2<=l.length/\ac au 342 200002 [.g (.ptr p 0),.n v,.n h] [] (H.set p (.cells (st+1) (oo l (at'+k) x y)))=ret (.tuple []) (H.set p (.cells st2 (oo l at2 x y)))) \/
   (∃(a e:Int) (at2 st2:Nat),e≠0/\ac au 342 200002 [.g (.ptr p 0),.n v,.n h] [] (H.set p (.cells (st+1) (oo l (at'+k) x y)))=pan (wr a e) (H.set p (.cells st2 (oo l at2 x y)))):=λk h i b o=>by
   rcases KR hl (l.length - (at'+k)) (at'+k) (st+1) (H.set p (.cells (st+1) (oo l (at'+k) x y))) v h rfl o (ba _ hp)with⟨at2,st2,q,r,k3⟩|⟨a,e,at2,st2,q,r⟩
   .grind [List.set_set]
   grind [List.set_set]
  rw[show ac au 342 200002 [.g (.ptr p 0),.n v,.n d] [] H=_ from aW (Ki) rfl];simp only[ae hp,ai,aw,RU,dW,nge,ao];cases hc:decide (l.length<=at')with
  |true=>exact .inr ⟨v,12,at',st,by decide,by rw[ge,LQ hp];rfl⟩
  |false =>
   have hc:¬ l.length<=at':=by simpa using hc
   rw[Xi,am s1,ao];cases i:((l.drop at').take [40,42].length==[40,42])with
   |true =>
    have b:=Tu i;rw[ge];cases decide (d>=100)with
    |true =>simp only[ge,ae hp,ai,aw,qz,UQ,UP];exact .inr ⟨at',6,at',st,by decide,by rw[LQ hp];rfl⟩
    |false =>simp only[Xi,ae hp,ai,aw,bR,show(2:Int)=((2:Nat):Int)from rfl,wN (show at'+2<2^62 by omega),qz,Rz];exact step 2 _ (by omega) (by omega) b
   |false =>
    rw[Xi,am s2,ao];cases i:((l.drop at').take [42,41].length==[42,41])with
    |true =>
     have b:=Tu i;simp only[ge,ae hp,ai,aw,bR,show(2:Int)=((2:Nat):Int)from rfl,wN (show at'+2<2^62 by omega),qz,Rz];cases (bm (d - 1)==0)with
     |true=>exact .inl ⟨at'+2,st+1,by omega,b,rfl⟩
     |false=>rw[Xi];exact step 2 _ (by omega) (by omega) b
    |false =>simp only[Xi,ae hp,ai,aw,bR,show(1:Int)=((1:Nat):Int)from rfl,wN (show at'+1<2^62 by omega),qz,Rz];exact step 1 _ (by omega) (by omega) (by omega)
 termination_by n=>n
def afw(hl:l.length<=24){at' st:Nat}{H:DH}(b:at'<=l.length)(hp:H[p]? = some (.cells st (oo l at' x y))) :
 (∃ at2 st2,at'<at2/\at2<=l.length/\aq 342 [.ptr p 0] H=ret (.tuple []) (H.set p (.cells st2 (oo l at2 x y)))) \/
 (∃(a e:Int) (at2 st2:Nat),e≠0/\aq 342 [.ptr p 0] H=pan (wr a e) (H.set p (.cells st2 (oo l at2 x y)))):=by
 rw[show aq 342 [.ptr p 0] H=_ from ev (alm) rfl];simp only[ae hp,ai,aw];exact KR hl _ at' st H at' 0 rfl b hp
structure Lv(H:DH)(p:Nat)(l:af)(at' m oc:Nat)(c:aQ):Prop where
 hp:∃ st,H[p]? = some (.cells st (oo l at' (.map m) (.buf 2 oc c.length)))
 hm:H[m]? = some (.map Oa)
 hc:H[oc]? = some (.buf 2 true false c)
def Fr(p oc:Nat)(H a:DH):Prop:=∀(o:Nat) b,o≠p->o≠oc->H[o]? = some b->a[o]? = some b
def Fr.trans{oc:Nat}{A B C:DH}(h:Fr p oc A B)(k:Fr p oc B C):Fr p oc A C:=λo b a d e=>k o b a d (h o b a d e)
def Fr.set{oc:Nat}{H:DH}{b:DB}:Fr p oc H (H.set p b):=λo c a _ d=>by rw[aei (apz a)];exact d
def Fr.set2{oc:Nat}{H:DH}{b:DB}:Fr p oc H (H.set oc b):=λo c _ a d=>by rw[aei (apz a)];exact d
def skip(l:af)(at':Nat):Prop:=ed (pk l at')=true\/(l.drop at').take 2=[40,42]
def Lv.mv{H:DH}{at' m oc:Nat}{c:aQ}(h:Lv H p l at' m oc c)(at2 st2:Nat):Lv (H.set p (.cells st2 (oo l at2 (.map m) (.buf 2 oc c.length)))) p l at2 m oc c:=by
 obtain⟨st,hp⟩:=h.hp;have a:p≠m:=λe=>by subst e;rw[h.hm]at hp;cases hp
 have b:p≠oc:=λe=>by subst e;rw[h.hc]at hp;cases hp
 exact⟨⟨st2,ba _ hp⟩,ax _ a h.hm,ax _ b h.hc⟩
def Fe(hl:l.length<=24){m oc:Nat}:∀(n at':Nat) (H:DH) (c:aQ),n=l.length - at'->at'<=l.length->c.length+(l.length - at')<=100->Lv H p l at' m oc c ->
 (∃ at2 c2 k,ac au 325 200000 [.g (.ptr p 0)] [] H=ret (.tuple []) k/\Lv k p l at2 m oc c2/\at'<=at2/\at2<=l.length/\c2.length+(l.length - at2)<=100/\Fr p oc H k/\(¬ skip l at'->at2=at')/\(at'<l.length->skip l at'->at'<at2)) \/
 (∃(a e:Int) (k:DH),e≠0/\ac au 325 200000 [.g (.ptr p 0)] [] H=pan (wr a e) k/\Fr p oc H k/\skip l at')
 |n,at',H,c,hn,ha,hcl,X=>by
  obtain⟨st,hp⟩:=X.hp;have Y:=AG aaD (λc H=>Yx H c) hp (by omega) 0 (by omega);rw[anP]at Y;have hr:=sW ed l at' ha;rw[show ac au 325 200000 [.g (.ptr p 0)] [] H=_ from aW (Kk) rfl];rw[show(.i 0:D)=.i ((0:Nat):Int)from rfl,fE Y];simp only[Ml hp,ae hp,ai,aw,bR,wN (show at'+rn ed l at'<2^62 by omega),qz,Rz];have o:=X.mv (at'+rn ed l at') (st+1);have r:Fr p oc H (H.set p (.cells (st+1) (oo l (at'+rn ed l at') (.map m) (.buf 2 oc c.length)))):=.set;generalize H.set p (.cells (st+1) (oo l (at'+rn ed l at') (.map m) (.buf 2 oc c.length)))=I at o r ⊢;obtain⟨iD,s⟩:=o.hp;have s1:=mc s hr [40,42];rw[am s1];simp only[aK,ao];have v:¬ ed (pk l at')=true->rn ed l at'=0:=λh=>by grind [kX]
  have hyes:at'<l.length->ed (pk l at')=true->1<=rn ed l at':=λh q=>by rw[kX ed h,akJ q];omega
  cases Z:((l.drop (at'+rn ed l at')).take [40,42].length==[40,42])with
  |false =>
   rw[ajM,ge];refine .inl ⟨_,c,I,rfl,o,by omega,hr,by omega,r,λh=>?_,λhlt h=>?_⟩
   .rw[v (λq=>h (.inl q)),anP]
   .rcases h with h|h
    .grind
    grind
  |true =>
   have u:skip l at':=by
    by_cases hq:ed (pk l at')=true
    .exact .inl hq
    .rw[v hq,anP]at Z;exact .inr (eq_of_beq Z)
   rw[age,Xi];simp only[ae s,ai,aw];rcases afw hl hr s with⟨at2,st2,k1,J,k3⟩|⟨a,e,at2,st2,k1,J⟩
   .rw[am k3];have d:=o.mv at2 st2;have w:Fr p oc H (I.set p (.cells st2 (oo l at2 (.map m) (.buf 2 oc c.length)))):=r.trans .set;generalize I.set p (.cells st2 (oo l at2 (.map m) (.buf 2 oc c.length)))=k at d w ⊢;obtain⟨st3,j⟩:=d.hp;have z:oc≠p:=λe=>by subst e;rw[d.hc]at j;cases j
    have L:oc≠m:=λe=>by have:=d.hm;rw[<- e,d.hc]at this;cases this
    simp only[ae j,ai,aw,qz,UQ,UP,ce2];have M:∀(κ:D->DH->av) (e:List D),bQ (aG ab 393) 2 (.buf 2 oc c.length) [e] k κ=κ (.buf 2 oc (c.length+1)) (k.set oc (.buf 2 true false (c++[e]))):=λκ e=>by simp only[bQ,abf,OI (show 1<=100000 by omega),boK,ge,ajG,cy d.hc,OI (show c.length+1<=100000 by omega),ajI,ajM,aos,grow,Xi]
    rw[M];have F:=ax (.buf 2 true false (c++[[.i ((at'+rn ed l at':Nat):Int),.i ((at2:Nat):Int)]])) z j;simp only[yW,ae F,adn]
    have N:Lv ((k.set oc (.buf 2 true false (c++[[.i ((at'+rn ed l at':Nat):Int),.i ((at2:Nat):Int)]]))).set p (.cells (st3+1) [.str l,.i ((at2:Nat):Int),.map m,.buf 2 oc (c.length+1)])) p l at2 m oc (c++[[.i ((at'+rn ed l at':Nat):Int),.i ((at2:Nat):Int)]]) :=
     ⟨⟨st3+1,by rw[ba _ F];simp⟩,ax _ (λe=>by subst e;rw[d.hm]at j;cases j) (ax _ L d.hm),ax _ z.symm (ba _ d.hc)⟩
    have G:=(w.trans (Fr.set2 (p:=p) (oc:=oc) (b:=.buf 2 true false (c++[[.i ((at'+rn ed l at':Nat):Int),.i ((at2:Nat):Int)]])))).trans (Fr.set (p:=p) (oc:=oc) (b:=.cells (st3+1) [.str l,.i ((at2:Nat):Int),.map m,.buf 2 oc (c.length+1)]));rcases Fe hl (l.length - at2) at2 _ _ rfl J (by simp;omega) N with⟨at4,c4,O,Q,U,j3,j4,j5,j6,_⟩|⟨a,e,O,Q,U,j3,_⟩
    .exact .inl ⟨at4,c4,O,Q,U,by omega,j4,j5,G.trans j6,λh=>(h u).elim,λ_ _=>by omega⟩
    .exact .inr ⟨a,e,O,Q,U,G.trans j3,u⟩
   .rw[GD J];exact .inr ⟨a,e,_,k1,rfl,r.trans .set,u⟩
 termination_by n=>n
def Pf(hl:l.length<=24){m oc at':Nat}{H:DH}{c:aQ}(d:at'<=l.length)(hc:c.length+(l.length - at')<=100)(h:Lv H p l at' m oc c) :
 (∃ at2 c2 b,aq 325 [.ptr p 0] H=ret (.tuple []) b/\Lv b p l at2 m oc c2/\at'<=at2/\at2<=l.length/\c2.length+(l.length - at2)<=100/\Fr p oc H b/\(¬ skip l at'->at2=at')/\(at'<l.length->skip l at'->at'<at2)) \/
 (∃(a e:Int) (b:DH),e≠0/\aq 325 [.ptr p 0] H=pan (wr a e) b/\Fr p oc H b/\skip l at'):=by
 rw[show aq 325 [.ptr p 0] H=_ from ev (alx) rfl];exact Fe hl _ at' H c rfl d hc h
def wdA:List D:=zi.map .str
def ahv(cs:List D)(c:Nat)(κ:D->av):bL ab 9 cs c κ=ah cs c κ:=by kernel_rfl
def aij{k:Nat}{w:af}(h:zi[k]? = some w)(κ:D->av):kC ab 382 (.agg wdA) (.i (k:Nat)) κ=κ (.str w):=by
 have e:kC ab 382 (.agg wdA) (.i (k:Nat)) κ=bif Nat.blt k 15 then bL ab 9 wdA (Nat.mul k 1) κ else none:=by kernel_rfl
 have hk:k<15:=(acy.1 h).1;have hb:Nat.blt k 15=true:=by unfold Nat.blt;exact acw hk
 rw[e,hb,ge,ahv,show Nat.mul k 1=k from Nat.mul_one k,ah,wdA,aiE,h];rfl
def Zi(m:Nat)(w:af)(v:D)(H:DH)(κ:DH->av):mj ab 378 (.map m) (.str w) v H κ=rM H m λes=>tB (.str w) v es λes=>κ (H.set m (.map es)):=by kernel_rfl
def Zj:∀ k,k<15->∃ w,zi[k]? = some w/\Mz (.str w) (.i 5) (Oa.take k)=some (Oa.take (k+1))
 |0,_=>⟨_,rfl,rfl⟩
 |1,_=>⟨_,rfl,rfl⟩
 |2,_=>⟨_,rfl,rfl⟩
 |3,_=>⟨_,rfl,rfl⟩
 |4,_=>⟨_,rfl,rfl⟩
 |5,_=>⟨_,rfl,rfl⟩
 |6,_=>⟨_,rfl,rfl⟩
 |7,_=>⟨_,rfl,rfl⟩
 |8,_=>⟨_,rfl,rfl⟩
 |9,_=>⟨_,rfl,rfl⟩
 |10,_=>⟨_,rfl,rfl⟩
 |11,_=>⟨_,rfl,rfl⟩
 |12,_=>⟨_,rfl,rfl⟩
 |13,_=>⟨_,rfl,rfl⟩
 |14,_=>⟨_,rfl,rfl⟩
 |n+15,h=>by omega
def Jw{p m oc:Nat}{l:af}:∀(n k st:Nat) (H:DH),n=15 - k->k<=15->H[p]? = some (.cells st (oo l 0 (.map m) (.buf 2 oc 0)))->H[m]? = some (.map (Oa.take k)) ->
 ac au 290 200003 [.g (.ptr p 0),.g (.agg wdA),.n (k:Nat)] [] H=ret (.ptr p 0) (H.set m (.map Oa))
 |n,k,st,H,hn,hk,hp,hm=>by
  refine aW (by unfold wdA zi;exact Km) ?_;rw[show(15:Int)=((15:Nat):Int)from rfl,gI];by_cases hc:k<15
  .rw[acv hc,ge];obtain⟨w,b,d⟩:=Zj k hc;have e:=aij b;unfold wdA zi at e;simp only[ads,aoW]at e;have a:m≠p:=λe=>by subst e;rw[hm]at hp;cases hp
   have ih:=Jw (n - 1) (k+1) st (H.set m (.map (Oa.take (k+1)))) (by omega) hc (ax _ a hp) (ba _ hm);rw[agd]at ih;simp only[e,ae hp,ai,aw,Zi,mq hm,tB,d,show(1:Int)=((1:Nat):Int)from rfl,wN (show k+1<2^62 by omega)];exact ih
  .rw[acz hc,Xi];have:k=15:=by omega
   subst this;rw[show Oa.take 15=Oa from rfl]at hm;rw[LQ hm]
 termination_by n=>n
def ady(l:af)(H:DH):∃ H',aq 290 [.str l] H=ret (.ptr (H.length+2) 0) H'/\Lv H' (H.length+2) l 0 H.length (H.length+1) []/\∀(o:Nat) b,H[o]? = some b->H'[o]? = some b:=by
 have e:aq 290 [.str l] H=_:=ev (alQ) rfl;have a:(H++[DB.map []]).length=H.length+1:=by simp
 have d:(H++[DB.map []]++[DB.buf 2 true false []]).length=H.length+2:=by simp
 simp only[a,d]at e;have hp:((H++[DB.map []]++[DB.buf 2 true false []])++[DB.cells 0 (oo l 0 (.map H.length) (.buf 2 (H.length+1) 0))])[H.length+2]? = some (.cells 0 (oo l 0 (.map H.length) (.buf 2 (H.length+1) 0))):=by rw[<- d];exact be _ _
 have hm:((H++[DB.map []]++[DB.buf 2 true false []])++[DB.cells 0 (oo l 0 (.map H.length) (.buf 2 (H.length+1) 0))])[H.length]? = some (.map (Oa.take 0)):=aD _ (aD _ (be _ _));have hc:((H++[DB.map []]++[DB.buf 2 true false []])++[DB.cells 0 (oo l 0 (.map H.length) (.buf 2 (H.length+1) 0))])[H.length+1]? = some (.buf 2 true false []):=aD _ (by rw[<- a];exact be _ _);have h:=Jw 15 0 0 _ rfl (by omega) hp hm;refine⟨_,e.trans h,⟨⟨0,ax _ (by omega) hp⟩,ba _ hm,ax _ (by omega) hc⟩,λo b hb=>?_⟩
 grind
def Zr:af:=[0,2,3,4,6,7,8,9,10]
def Zq(l:af)(p A B bx:Nat):List LD:=[.g (.str l),.g (.ptr p 0),.g (.ptr A 0),.g (.ptr B 0),.g (.str l),.g (.ptr p 0),.g (.func 291 [] [.ptr A 0,.ptr B 0]),.g (.ptr p 0),.g (.func 324 [] [.ptr bx 0])]
def Py(l:af)(p A B bx:Nat):DB:=adO de 233 Zr (Zq l p A B bx)
def lpY(l:af)(p A B bx:Nat):DB:=match Py l p A B bx with
 |.loop _ f nt t ps a b=>.loop false f nt t ps a b
 |b=>b
variable{H:DH}{l:af}{K p A B bx y:Nat}
def afL{κ:DH->av}(h:H[y]? = some (Py l p A B bx)):SH H y κ=κ (H.set y (lpY l p A B bx)):=by rw[SH,h];kernel_rfl
def WI(h:H[y]? = some (lpY l p A B bx)):AK H y=ret (.bool true) (H.set y (Py l p A B bx)):=by rw[AK,h];kernel_rfl
def Zs{κ:DH->av}(h:H[y]? = some (Py l p A B bx)):Fs H y κ=κ (H.set y .opq):=by rw[Fs,h];kernel_rfl
def ada{d:D}(h:H[y]? = some (Py l p A B bx)):eW de (.call 0 [d] (some (.round y))) H=rnd de au 233 y Zr (Zq l p A B bx) [d] H:=by rw[Ns];show uS de (Ta au) y [d] H=_;rw[uS,h];kernel_rfl
def Hw(b:DB)(h:(match b with|.loop ..=>false|_=>true)=true):Py l p A B bx≠b:=by
 have:(match Py l p A B bx with|.loop ..=>false|_=>true)=false:=by kernel_rfl
 grind
structure TA(K:Nat)(H:DH)(l:af)(p A B bx y:Nat)(toks:aQ):Prop where
 hA:∃ st v,H[A]? = some (.cells st [v])/\((toks=[]/\v=.nilrow)\/(toks≠[]/\∃ X,v=.buf 4 X toks.length/\H[X]? = some (.buf 4 true false toks)/\K<=X))
 hB:∃ st,H[B]? = some (.cells st [.i 0,.i 0])
 hb:∃ st,H[bx]? = some (.cells st [.ptr p 0])
 hy:H[y+1]? = some (Py l p A B bx)
 hk:H[y]? = some .coll
 nA:A≠p
 nB:B≠p
 nb:bx≠p
 AB:A≠B
 Ab:A≠bx
 kA:K<=A
 ky:K<=y
def Kp(K:Nat)(H a:DH):Prop:=∀(o:Nat) b,o<K->H[o]? = some b->a[o]? = some b
def Kp.trans{K:Nat}{a b c:DH}(h:Kp K a b)(k:Kp K b c):Kp K a c:=λo x d e=>k o x d (h o x d e)
def Kp.of{K p oc:Nat}{H a:DH}(h:Fr p oc H a)(h1:K<=p)(h2:K<=oc):Kp K H a:=λo b h3 d=>h o b (by omega) (by omega) d
def TA.fr{a:DH}{oc:Nat}{c:aQ}{toks:aQ}(h:TA K H l p A B bx y toks)(d:H[oc]? = some (.buf 2 true false c))(k:Fr p oc H a)(hp:∃ st cs,H[p]? = some (.cells st cs)):TA K a l p A B bx y toks:=by
 obtain⟨stp,csp,hp⟩:=hp
 have kc:∀ {o:Nat} {b:DB},o≠p->H[o]? = some b->(∀ sz q r l,b≠.buf sz q r l\/sz≠2)->a[o]? = some b:=λ{o b} j i n=>k o b j (λe=>by
  subst e;rw[d]at i;rcases n 2 true false c with q|q
  .exact q (anJ i).symm
  .exact q rfl) i
 obtain⟨sA,v,hA,hA2⟩:=h.hA;obtain⟨sB,hB⟩:=h.hB;obtain⟨sb,hb⟩:=h.hb;have ny:y+1≠p:=λe=>by have:=h.hy;rw[e,hp]at this;exact Hw (.cells stp csp) rfl (anJ this).symm
 have nk:y≠p:=λe=>by have:=h.hk;rw[e,hp]at this;cases this
 refine⟨⟨sA,v,kc h.nA hA (λ_ _ _ _=>.inl (λq=>by cases q)),?_⟩,⟨sB,kc h.nB hB (λ_ _ _ _=>.inl (λq=>by cases q))⟩,⟨sb,kc h.nb hb (λ_ _ _ _=>.inl (λq=>by cases q))⟩,kc ny h.hy (λ_ _ _ _=>.inl (Hw _ rfl)),kc nk h.hk (λ_ _ _ _=>.inl (λq=>by cases q)),h.nA,h.nB,h.nb,h.AB,h.Ab,h.kA,h.ky⟩
 grind
def Ui{m oc at':Nat}{c toks:aQ}(j:Lv H p l at' m oc c)(d:TA K H l p A B bx y toks)(hn:toks.length<=1000)(k v:Int)(t:af)(a:Nat) :
 ∃ i,eW de (.call 0 [tk k v t a] (some (.round (y+1)))) H=ret (.bool true) i/\Lv i p l at' m oc c/\TA K i l p A B bx y (toks++[(xT k v t a)])/\Kp K H i:=by
 obtain⟨stp,hp⟩:=j.hp;obtain⟨sA,w,hA,U⟩:=d.hA;obtain⟨sB,hB⟩:=d.hB;obtain⟨sb,hb⟩:=d.hb;have e:eW de (.call 0 [tk k v t a] (some (.round (y+1)))) H=_:=(ada d.hy).trans ((show rnd de au 233 (y+1) Zr (Zq l p A B bx) [tk k v t a] H=adb de au 200 233 (y+1) Zr (Zq l p A B bx) [tk k v t a] H by rw[adb,Ib]).trans (WA));have J:∀ {o:Nat} {b:DB},H[o]? = some b->o<H.length:=λ{o b} h=>by grind
 have Z:=be H (.cells 0 (xT 0 0 [] 0));have N:∀ {o:Nat} {b:DB},H[o]? = some b->((H++[DB.cells 0 (xT 0 0 [] 0)]).set H.length (.cells (0+1) (xT k v t a)))[o]? = some b:=λ{o b} h=>ax _ (by have:=J h;omega) (aD _ h);have gN:=ba (.cells (0+1) (xT k v t a)) Z;simp only[ae Z,ov4]at e;generalize(H++[DB.cells 0 (xT 0 0 [] 0)]).set H.length (.cells (0+1) (xT k v t a))=O at e N gN;rw[afL (N d.hy)]at e;have ny:∀ {o:Nat} {b:DB},H[o]? = some b->(match b with|.loop ..=>false|_=>true)=true->y+1≠o:=λ{o b} Q Y q=>by subst q;have:=d.hy;rw[Q]at this;exact Hw b Y (anJ this).symm
 have L:∀ {o:Nat} {b:DB},H[o]? = some b->y+1≠o->(O.set (y+1) (lpY l p A B bx))[o]? = some b:=λh q=>ax _ q (N h);have gN2:(O.set (y+1) (lpY l p A B bx))[H.length]? = _:=ax _ (by have:=J d.hy;omega) gN;have gy2:(O.set (y+1) (lpY l p A B bx))[y+1]? = _:=ba (lpY l p A B bx) (N d.hy);generalize O.set (y+1) (lpY l p A B bx)=i at e L gN2 gy2;have r:=L hA (ny hA rfl);simp only[ae r,ae gN2,ai,aw]at e;have Ay:A≠y+1:=(ny hA rfl).symm;have nil (toksE:toks=[]) (wE:w=.nilrow):∃ i,eW de (.call 0 [tk k v t a] (some (.round (y+1)))) H=ret (.bool true) i/\Lv i p l at' m oc c/\TA K i l p A B bx y (toks++[(xT k v t a)])/\Kp K H i:=by
  subst toksE wE;have I:∀(κ:D->DH->av) (e:List D),bQ (aG ab 209) 4 .nilrow [e] i κ=κ (.buf 4 i.length 1) (i++[.buf 4 true false [e]]):=λκ e=>by grind [bQ,List.length_singleton,GZ,boK]
  rw[I]at e;have s:=aD (.buf 4 true false [(xT k v t a)]) r;simp only[yW,ae s]at e;rw[show ∀ κ:List D->av,aC [D.nilrow] 0 [.buf 4 i.length 1] κ=κ [.buf 4 i.length 1] from λ_=>rfl]at e;rw[WI (ax _ Ay (aD _ gy2))]at e;have u:∀ {o:Nat} {b:DB},i[o]? = some b->o<i.length:=λ{o b} h=>by grind
  have n:∀ {o:Nat} {b:DB},H[o]? = some b->y+1≠o->A≠o->(((i++[DB.buf 4 true false [(xT k v t a)]]).set A (.cells (sA+1) [.buf 4 i.length 1])).set (y+1) (Py l p A B bx))[o]? = some b:=λh F M=>ax _ F (ax _ M (aD _ (L h F)))
  refine⟨_,e,⟨⟨stp,n hp (ny hp rfl) d.nA⟩,n j.hm (ny j.hm rfl) (λq=>by have:=j.hm;rw[<- q,hA]at this;cases this),n j.hc (ny j.hc rfl) (λq=>by have:=j.hc;rw[<- q,hA]at this;cases this)⟩,
   ⟨⟨sA+1,_,ax _ Ay.symm (ba _ s),.inr ⟨by simp,i.length,rfl,ax _ (by have:=u gy2;omega) (ax _ (by have:=u r;omega) (be _ _)),by have:=u r;have:=d.kA;omega⟩⟩,⟨sB,n hB (ny hB rfl) d.AB⟩,⟨sb,n hb (ny hb rfl) d.Ab⟩,ba _ (ax _ Ay (aD _ gy2)),n d.hk (by omega) (λq=>by have:=d.hk;rw[<- q,hA]at this;cases this),d.nA,d.nB,d.nb,d.AB,d.Ab,d.kA,d.ky⟩,λo b ho hb=>n hb (by have:=d.ky;omega) (by have:=d.kA;omega)⟩
 rcases U with⟨F,M⟩|⟨F,X,rfl,G,q4⟩
 .exact nil F M
 .have hX:=L G (ny G rfl);have XA:X≠A:=λq=>by rw[q,hA]at G;cases G
  have Xy:X≠y+1:=(ny G rfl).symm;have I:∀(κ:D->DH->av) (e:List D),bQ (aG ab 209) 4 (.buf 4 X toks.length) [e] i κ=κ (.buf 4 X (toks.length+1)) (i.set X (.buf 4 true false (toks++[e]))):=λκ e=>by simp only[bQ,abf,GZ (show 1<=100000 by omega),boK,ge,ajG,cy hX,GZ (show toks.length+1<=100000 by omega),ajI,ajM,aos,grow,Xi]
  rw[I]at e;have s:=ax (.buf 4 true false (toks++[(xT k v t a)])) XA r;simp only[yW,ae s]at e;rw[show ∀(z:D) (κ:List D->av),aC [z] 0 [.buf 4 X (toks.length+1)] κ=κ [.buf 4 X (toks.length+1)] from λ_ _=>rfl]at e;rw[WI (ax _ Ay (ax _ Xy gy2))]at e;have n:∀ {o:Nat} {b:DB},H[o]? = some b->y+1≠o->A≠o->X≠o->(((i.set X (.buf 4 true false (toks++[(xT k v t a)]))).set A (.cells (sA+1) [.buf 4 X (toks.length+1)])).set (y+1) (Py l p A B bx))[o]? = some b:=λh F M G=>ax _ F (ax _ M (ax _ G (L h F)));have Xn:∀ {o:Nat} {b:DB},H[o]? = some b->b≠.buf 4 true false toks->X≠o:=λQ Y q=>by subst q;rw[G]at Q;exact Y (anJ Q).symm
  refine⟨_,e,⟨⟨stp,n hp (ny hp rfl) d.nA (Xn hp (λq=>by cases q))⟩,n j.hm (ny j.hm rfl) (λq=>by have:=j.hm;rw[<- q,hA]at this;cases this) (Xn j.hm (λq=>by cases q)),n j.hc (ny j.hc rfl) (λq=>by have:=j.hc;rw[<- q,hA]at this;cases this) (Xn j.hc (λq=>by cases q))⟩,
   ⟨⟨sA+1,_,ax _ Ay.symm (ba _ s),.inr ⟨by simp,X,by simp,ax _ Xy.symm (ax _ XA.symm (ba _ hX)),q4⟩⟩,⟨sB,n hB (ny hB rfl) d.AB (Xn hB (λq=>by cases q))⟩,⟨sb,n hb (ny hb rfl) d.Ab (Xn hb (λq=>by cases q))⟩,ba _ (ax _ Ay (ax _ Xy gy2)),n d.hk (by omega) (λq=>by have:=d.hk;rw[<- q,hA]at this;cases this) (Xn d.hk (λq=>by cases q)),d.nA,d.nB,d.nb,d.AB,d.Ab,d.kA,d.ky⟩,λo b ho hb=>n hb (by have:=d.ky;omega) (by have:=d.kA;omega) (by omega)⟩
def ld3(o c:Nat)(H:DH)(κ:D->av):bJ ab 3 (.ptr o c) H κ=aB H o λ_ cs=>ah cs c κ:=by kernel_rfl
def ld9(o c:Nat)(H:DH)(κ:D->av):bJ ab 9 (.ptr o c) H κ=aB H o λ_ cs=>ah cs c κ:=by kernel_rfl
def Xd(o c:Nat)(κ:D->av):vR (.ptr o c) κ=κ (.ptr o c):=rfl
def aca(o c n:Nat)(κ:D->av):bI (.ptr o c) n κ=κ (.ptr o (c+n)):=rfl
def ajR(o c:Nat)(new:List D)(H:DH)(κ:DH->av):GK (.ptr o c) new H κ=aB H o λst cs=>aC cs c new λcs=>κ (H.set o (.cells (st+1) cs)):=rfl
variable{l:af}{K p A B bx y m oc:Nat}
def Ls(l:af)(at':Nat)(r:aQ):Prop:=at'<l.length->∃(k v:Int) (n:Nat) (a:aQ),r=(xT k v ((l.drop at').take n) at')::a/\1<=n/\at'+n<=l.length/\(gt l at'->k=1)/\(¬ gt l at'->ia l at'=some (k,n))/\(at'+n=l.length->a=[])
def nV(l:af)(at':Nat):Prop:=at'<l.length/\(¬ gt l at'->ia l at'=none\/∃ k n,ia l at'=some (k,n)/\at'+n≠l.length)
def Ze{l:af}{a:Nat}(h:l.length<=a):¬ skip l a:=λq=>by
 rcases q with q|q
 .rw[oO h]at q;cases q
 grind [List.drop_eq_nil_of_le]
set_option maxHeartbeats 2000000 in
def EL(hl:l.length<=24)(kp:K<=p)(ko:K<=oc):∀(n at':Nat) (H:DH) (c toks:aQ),n=l.length - at'->at'<=l.length->c.length+(l.length - at')<=100->toks.length+(l.length - at')<=100->Lv H p l at' m oc c->TA K H l p A B bx y toks ->
 (∃ i r,ac au 324 200001 [.g (.yld (y+1)),.g (.ptr bx 0)] [] H=ret (.tuple []) i/\TA K i l p A B bx y (toks++r)/\(at'=l.length->r=[])/\Ls l at' r/\Kp K H i) \/
 (∃(a e:Int) (i:DH) (T:aQ),e≠0/\ac au 324 200001 [.g (.yld (y+1)),.g (.ptr bx 0)] [] H=pan (wr a e) i/\TA K i l p A B bx y T/\nV l at'/\Kp K H i)
 |n,at',H,c,toks,hn,ha,hcl,htl,w,z=>by
  obtain⟨st,hp⟩:=w.hp;obtain⟨sb,hb⟩:=z.hb;rw[show ac au 324 200001 [.g (.yld (y+1)),.g (.ptr bx 0)] [] H=_ from aW (Kl) rfl];simp only[ae hb,ai,aw,Xd,aca,ld3,ld9,ae hp,afY,RU,aN,gI,ao];by_cases hc:at'<l.length
  .rw[acv hc,ge];rcases TB hp w.hm hl hc with⟨k,v,n',I,F,J,h4,L⟩|⟨a,e,I,F,J⟩
   .have o:((l.drop at').take n').length=n':=by rw[ajQ,aod];omega
    rw[am J];simp only[tk,ce4,ov4,ae hb,ai,aw,Xd,aca,ld3,ae hp,afY,RU,o,bR,wN (show at'+n'<2^62 by omega),qz,ajR,Rz];have s:=w.mv (at'+n') (st+1);have kp1:=Kp.of (Fr.set (H:=H) (p:=p) (oc:=oc) (b:=.cells (st+1) (oo l (at'+n') (.map m) (.buf 2 oc c.length)))) kp ko;have u:=z.fr w.hc (Fr.set (b:=.cells (st+1) (oo l (at'+n') (.map m) (.buf 2 oc c.length)))) ⟨_,_,hp⟩;generalize H.set p (.cells (st+1) (oo l (at'+n') (.map m) (.buf 2 oc c.length)))=H1 at s u kp1 ⊢;obtain⟨i,r1,d,j,kp2⟩:=Ui s u (by omega) k v ((l.drop at').take n') at';rw[tk]at r1;rw[fE r1];obtain⟨sb2,M⟩:=j.hb;simp only[aK,age,ao,Xi,ae M,ai,aw];rcases Pf hl F (by omega) d with⟨at3,c3,N,O,Q,U,X,j5,Y,_,_⟩|⟨a,e,N,O,Q,U,X⟩
    .rw[am O];have Z:=j.fr d.hc Y (by obtain⟨st,h⟩:=d.hp;exact⟨_,_,h⟩);rcases EL hl kp ko (l.length - at3) at3 N c3 _ rfl X j5 (by simp;omega) Q Z with⟨H4,r,i1,G,i3,i4,i5⟩|⟨a,e,H4,T,i1,G,i3,i4,i5⟩
     .refine .inl ⟨H4,_::r,i1,by rw[ajL]at G;exact G,λq=>by omega,λ_=>⟨k,v,n',r,rfl,I,F,h4,L,λq=>i3 (by omega)⟩,((kp1.trans kp2).trans (Kp.of Y kp ko)).trans i5⟩
     .exact .inr ⟨a,e,H4,T,i1,G,i3,⟨hc,λq=>.inr ⟨k,n',L q,by have:=i4.1;omega⟩⟩,((kp1.trans kp2).trans (Kp.of Y kp ko)).trans i5⟩
    .rw[GD Q];exact .inr ⟨a,e,N,_,O,rfl,j.fr d.hc U (by obtain⟨st,h⟩:=d.hp;exact⟨_,_,h⟩),⟨hc,λq=>.inr ⟨k,n',L q,λq2=>Ze (by omega) X⟩⟩,(kp1.trans kp2).trans (Kp.of U kp ko)⟩
   .rw[GD F];exact .inr ⟨a,e,H,toks,I,rfl,z,⟨hc,λq=>.inl (J q)⟩,λ_ _ _ h=>h⟩
  .rw[acz hc,Xi];exact .inl ⟨H,[],rfl,by rw[ajH];exact z,λ_=>rfl,λq=>(hc q).elim,λ_ _ _ h=>h⟩
 termination_by n=>n
open Classical in
def bM(l:af):Int:=if l.length=0\/24<l.length\/skip l 0\/gt l 0 then 0 else match ia l 0 with
 |none=>0
 |some (k,n)=>if n=l.length then k else 0
def qP(l:af):aQ->Int
 |[[.int _ k,_,.str t,_]]=>if t=l then k else 0
 |_=>0
def uC(l:af)(k:Int):Prop:=k=bM l\/(gt l 0/\k=1)
theorem gi{l:af}(h:l.length=0\/24<l.length\/skip l 0\/gt l 0):bM l=0:=by unfold bM;rw[akJ h]
def VR(hl:l.length<=24){at2:Nat}{T:aQ}(h0:at2=l.length->T=[])(h:Ls l at2 T)(h1:at2<=l.length)(i:¬ skip l 0->at2=0)(j:0<l.length->skip l 0->0<at2):uC l (qP l T):=by
 by_cases o:l.length=0
 .rw[h0 (by omega)];exact .inl (gi (.inl o)).symm
 by_cases d:skip l 0
 .have:=j (by omega) d;refine .inl ?_;rw[gi (.inr (.inr (.inl d)))];rcases aoN at2 l.length with q|q
  .obtain⟨k,v,n,b,rfl,_,_,_⟩:=h q;cases b with
   |nil =>grind [qP,List.length,List.length_take,List.length_drop]
   |cons _ _=>rfl
  .rw[h0 (by omega)];rfl
 .have e0:=i d;subst e0;obtain⟨k,v,n,b,rfl,q1,q2,r,s,q5⟩:=h (by omega);by_cases a:gt l 0
  .cases b with
   |nil =>
    simp only[qP];split
    .exact .inr ⟨a,r a⟩
    .exact .inl (gi (.inr (.inr (.inr a)))).symm
   |cons _ _=>exact .inl (gi (.inr (.inr (.inr a)))).symm
  .have ht:=s a;refine .inl ?_;have hk:bM l=if n=l.length then k else 0:=by grind [bM]
   rw[hk];by_cases e:n=l.length
   .simp_all[qP,aoi,aog,abH]
   .rw[ajD e];cases b with
    |nil =>grind [qP,List.length,List.length_take,List.length_drop]
    |cons _ _=>rfl
def JK(hl:l.length<=24)(h:skip l 0\/nV l 0):uC l 0:=by
 refine .inl ?_;by_cases a:skip l 0
 .grind [gi]
 by_cases hn:gt l 0
 .grind [gi]
 obtain⟨h1,h2⟩:=h.resolve_left a
 grind [bM]
variable{l:af}{K p A B bx y m oc:Nat}
def afQ(T:aQ):Prop:=∀ cs r,T=cs::r->∃(k v:Int) (t:af) (a:Int),cs=(xT k v t a)
def Ls.f{at2:Nat}{T:aQ}(h0:at2=l.length->T=[])(a:Ls l at2 T)(h1:at2<=l.length):afQ T:=λcs r e=>by
 rcases aoN at2 l.length with q|q
 .obtain⟨k,v,n,r',h,_⟩:=a q
  grind
 grind
def Yg(hl:l.length<=24)(kp:K<=p)(ko:K<=oc){H:DH}(d:Lv H p l 0 m oc [])(n:TA K H l p A B bx y []) :
 (∃ b T,aq 324 [.yld (y+1),.ptr bx 0] H=ret (.tuple []) b/\TA K b l p A B bx y T/\uC l (qP l T)/\Kp K H b/\afQ T) \/
 (∃(a e:Int) (b:DH) (T:aQ),e≠0/\aq 324 [.yld (y+1),.ptr bx 0] H=pan (wr a e) b/\TA K b l p A B bx y T/\uC l 0/\Kp K H b):=by
 rw[show aq 324 [.yld (y+1),.ptr bx 0] H=_ from ev (aly) rfl];obtain⟨sb,hb⟩:=n.hb;simp only[ae hb,ai];rcases Pf hl (anI _) (by simp;omega) d with⟨at2,c2,b,o,q,s,i,L,u,I,M⟩|⟨a,e,b,o,q,s,i⟩
 .have v:=n.fr d.hc u (by obtain⟨st,h⟩:=d.hp;exact⟨_,_,h⟩);rw[am o];rcases EL hl kp ko _ at2 b c2 [] rfl i L (by simp;omega) q v with⟨w,r,z,F,k,j,G⟩|⟨a,e,w,T,z,F,k,j,G⟩
  .exact .inl ⟨w,r,z,F,VR hl k j i I M,(Kp.of u kp ko).trans G,Ls.f k j i⟩
  .refine .inr ⟨a,e,w,T,z,F,k,JK hl ?_,(Kp.of u kp ko).trans G⟩;by_cases J:skip l 0
   .exact .inl J
   .rw[I J]at j;exact .inr j
 .rw[GD q];exact .inr ⟨a,e,b,[],o,rfl,n.fr d.hc s (by obtain⟨st,h⟩:=d.hp;exact⟨_,_,h⟩),JK hl (.inl i),Kp.of s kp ko⟩
def aec(s o n:Nat)(H:DH)(κ:D->av):aP ab 200 (.buf s o n) H κ=κ (.i (n:Int)):=by kernel_rfl
def Zy(H:DH)(κ:D->av):aP ab 200 .nilrow H κ=κ (.i 0):=by kernel_rfl
def aiu(o n i:Nat)(κ:D->av):ay ab 200 (.buf 4 o n) (.i i) κ=boK (Nat.blt i n) (κ (.bptr o n i 0)):=by kernel_rfl
def wF(o n i c k:Nat)(κ:D->av):bI (.bptr o n i c) k κ=κ (.bptr o n i (c+k)):=rfl
def ahG(o n i c:Nat)(H:DH)(κ:D->av):bJ ab 3 (.bptr o n i c) H κ=cH H o n λ_ _ _ l=>aX l i λcs=>ah cs c κ:=by kernel_rfl
def ahC(o n i c:Nat)(H:DH)(κ:D->av):bJ ab 9 (.bptr o n i c) H κ=cH H o n λ_ _ _ l=>aX l i λcs=>ah cs c κ:=by kernel_rfl
def anD(H:DH)(v:D)(T:aQ):Prop:=(T=[]/\v=.nilrow)\/(T≠[]/\∃ X,v=.buf 4 X T.length/\H[X]? = some (DB.buf 4 true false T))
def LT(hl:l.length<=24)(H:DH):∃(r:DH) (d v:D) (a e:Int) (T:aQ),aq 233 [.str l] H=ret (.tuple [d,v,.agg [.i a,.i e]]) r/\anD r v T/\uC l (if e=0 then qP l T else 0)/\Kp H.length H r/\afQ T:=by
 rw[show aq 233 [.str l] H=_ from ev (amh) rfl];have hA0:=aD (.cells 0 [.i 0,.i 0]) (be H (.cells 0 [.nilrow]));have Y:=be (H++[DB.cells 0 [.nilrow]]) (.cells 0 [.i 0,.i 0]);have hl1:(H++[DB.cells 0 [.nilrow]]).length=H.length+1:=by simp
 dsimp only;rw[hl1]at Y ⊢;have k0:Kp H.length H (H++[DB.cells 0 [.nilrow]]++[DB.cells 0 [.i 0,.i 0]]):=λo b _ h=>aD _ (aD _ h);have Z:(H++[DB.cells 0 [.nilrow]]++[DB.cells 0 [.i 0,.i 0]]).length=H.length+2:=by simp
 generalize H++[DB.cells 0 [.nilrow]]++[DB.cells 0 [.i 0,.i 0]]=O at hA0 Y k0 Z ⊢;obtain⟨r,e1,hS,kS⟩:=ady l O;rw[am e1];rw[Z]at hS;have e2:aq 292 [.ptr (O.length+2) 0] r=ret (.func 324 [] [.ptr r.length 0]) (r++[.cells 0 [.ptr (O.length+2) 0]]):=ev (alP) rfl;rw[fE e2];have hA2:=aD (.cells 0 [.ptr (O.length+2) 0]) (kS _ _ hA0);have hB2:=aD (.cells 0 [.ptr (O.length+2) 0]) (kS _ _ Y);have Q:=be r (.cells 0 [.ptr (O.length+2) 0]);have I:Lv (r++[.cells 0 [.ptr (O.length+2) 0]]) (H.length+2+2) l 0 (H.length+2) (H.length+2+1) []:=⟨by obtain⟨st,h⟩:=hS.hp;exact⟨st,aD _ h⟩,aD _ hS.hm,aD _ hS.hc⟩;have lt2:H.length+2+2<r.length:=by
  obtain⟨st,h⟩:=hS.hp
  grind
 have k2:Kp H.length H (r++[.cells 0 [.ptr (O.length+2) 0]]):=λo b N n=>aD _ (kS _ _ (k0 o b N n));have hbx:r.length<(r++[DB.cells 0 [.ptr (O.length+2) 0]]).length:=by simp
 rw[Z]at hA2 hB2 Q I k2 hbx ⊢;generalize r++[DB.cells 0 [.ptr (H.length+2+2) 0]]=j at hA2 hB2 Q I k2 hbx ⊢;generalize r.length=bx at Q lt2 hbx ⊢;show ∃(r:DH) (d v:D) (a e:Int) (T:aQ),Se (.func 324 [] [.ptr bx 0]) _=_/\_;simp only[Se,agc];have ey:j++[DB.coll,adO de 233 [0,2,3,4,6,7,8,9,10] [.g (.str l),.g (.ptr (H.length+2+2) 0),.g (.ptr H.length 0),.g (.ptr (H.length+1) 0),.g (.str l),.g (.ptr (H.length+2+2) 0),.g (.func 291 [] [.ptr H.length 0,.ptr (H.length+1) 0]),.g (.ptr (H.length+2+2) 0),.g (.func 324 [] [.ptr bx 0])]]=(j++[DB.coll])++[Py l (H.length+2+2) H.length (H.length+1) bx]:=by rw[ajL];rfl
 rw[ey];have hly:(j++[DB.coll]).length=j.length+1:=by simp
 have hS3:Lv ((j++[DB.coll])++[Py l (H.length+2+2) H.length (H.length+1) bx]) (H.length+2+2) l 0 (H.length+2) (H.length+2+1) []:=⟨by obtain⟨st,h⟩:=I.hp;exact⟨st,aD _ (aD _ h)⟩,aD _ (aD _ I.hm),aD _ (aD _ I.hc)⟩
 have hT3:TA H.length ((j++[DB.coll])++[Py l (H.length+2+2) H.length (H.length+1) bx]) l (H.length+2+2) H.length (H.length+1) bx j.length [] :=
  ⟨⟨0,.nilrow,aD _ (aD _ hA2),.inl ⟨rfl,rfl⟩⟩,⟨0,aD _ (aD _ hB2)⟩,⟨0,aD _ (aD _ Q)⟩,by rw[<- hly];exact be _ _,aD _ (be _ _),by omega,by omega,by omega,by omega,by omega,abH _,by omega⟩
 have k3:Kp H.length H ((j++[DB.coll])++[Py l (H.length+2+2) H.length (H.length+1) bx]):=λo b N n=>aD _ (aD _ (k2 o b N n));rcases Yg hl (by omega) (by omega) hS3 hT3 with⟨G,T,e3,k,hK,k4,hF⟩|⟨a,e,G,T,he,e3,k,hK,k4⟩
 .rw[fE e3,Zs k.hy];obtain⟨sA,v,hA,hW⟩:=k.hA;obtain⟨sB,hB⟩:=k.hB;have nyA:j.length+1≠H.length:=by omega
  have nyB:j.length+1≠H.length+1:=by omega
  have u:=ax .opq nyA hA;have F:=ax .opq nyB hB;have hk5:=ax .opq (show j.length+1≠j.length by omega) k.hk;have hv:∀ κ:List D->av,aj 1 v κ=κ [v]:=λκ=>by rcases hW with⟨_,rfl⟩|⟨_,X,rfl,_⟩<;>rfl
  have hv2:∀(z:D) (κ:List D->av),aC [z] 0 [v] κ=κ [v]:=λ_ _=>rfl;have hX5:∀ X:Nat,G[X]? = some (DB.buf 4 true false T)->(G.set (j.length+1) .opq)[X]? = some (DB.buf 4 true false T):=λX w=>ax _ (λq=>by rw[<- q,k.hy]at w;exact Hw _ rfl (anJ w)) w;have k5:Kp H.length H (G.set (j.length+1) .opq):=(k3.trans k4).trans λo b N n=>ax _ (by omega) n;generalize G.set (j.length+1) .opq=U at u F hk5 hX5 k5 ⊢;simp only[ae u,ai,hv,hv2];have s:=ax (.cells (sA+1) [v]) (show H.length≠H.length+1 by omega) F;have J:=ba (.cells (sA+1) [v]) u;have hk6:=ax (.cells (sA+1) [v]) (show H.length≠j.length by omega) hk5;have hcm:(dG (U.set H.length (.cells (sA+1) [v])) [U])[H.length+1]? = some (.cells sB [.i 0,.i 0]):=yA s (λr n=>by simp at n;subst n;exact F);have hX6:∀ X:Nat,G[X]? = some (DB.buf 4 true false T)->(U.set H.length (.cells (sA+1) [v]))[X]? = some (DB.buf 4 true false T):=λX w=>ax _ (λq=>by rw[<- q,hA]at w;cases w) (hX5 X w);have k6:Kp H.length H (U.set H.length (.cells (sA+1) [v])):=k5.trans λo b N n=>ax _ (by omega) n;generalize U.set H.length (.cells (sA+1) [v])=H6 at J s hk6 hcm hX6 k6 ⊢;simp only[ae hcm,ae s,ai,aw,YX];have L:=ax (.cells (sB+1) [.i 0,.i 0]) (show H.length+1≠H.length by omega) J;have M:=ba (.cells (sB+1) [.i 0,.i 0]) s;have hk7:=ax (.cells (sB+1) [.i 0,.i 0]) (show H.length+1≠j.length by omega) hk6;have hX7:∀ X:Nat,G[X]? = some (DB.buf 4 true false T)->(H6.set (H.length+1) (.cells (sB+1) [.i 0,.i 0]))[X]? = some (DB.buf 4 true false T):=λX w=>ax _ (λq=>by rw[<- q,hB]at w;cases w) (hX6 X w);have k7:Kp H.length H (H6.set (H.length+1) (.cells (sB+1) [.i 0,.i 0])):=k6.trans λo b N n=>ax _ (by omega) n;generalize H6.set (H.length+1) (.cells (sB+1) [.i 0,.i 0])=H7 at L M hk7 hX7 k7 ⊢;rw[show ∀ κ:DH->av,uo H7 j.length κ=κ (H7.set j.length .opq)from λκ=>by rw[uo,hk7]];have hA8:=ax .opq (show j.length≠H.length by omega) L;have hB8:=ax .opq (show j.length≠H.length+1 by omega) M;have hX8:∀ X:Nat,G[X]? = some (DB.buf 4 true false T)->(H7.set j.length .opq)[X]? = some (DB.buf 4 true false T):=λX w=>ax _ (λq=>by rw[<- q,k.hk]at w;cases w) (hX7 X w);have k8:Kp H.length H (H7.set j.length .opq):=k7.trans λo b N n=>ax _ (by omega) n;generalize H7.set j.length .opq=H8 at hA8 hB8 hX8 k8 ⊢;have e5:eW de (.call 291 [.ptr H.length 0,.ptr (H.length+1) 0] (some .returning)) H8=some ⟨.ret (.tuple []),some .returning,H8⟩:=ev (afc) rfl;rw[e5];simp only[Nt,ae hA8,ae hB8,ai,aw];refine⟨H8,_,v,0,0,T,rfl,?_,by rw[akJ rfl];exact hK,k8,hF⟩;rcases hW with hW|⟨q1,X,q2,q3,_⟩
  .exact .inl hW
  .exact .inr ⟨q1,X,q2,hX8 X q3⟩
 .rw[SA e3];obtain⟨sA,v,hA,hW⟩:=k.hA;obtain⟨sB,hB⟩:=k.hB;rw[show ∀ κ:DH->av,uo G j.length κ=κ (G.set j.length .opq)from λκ=>by rw[uo,k.hk]];have u:=ax .opq (show j.length≠H.length by omega) hA;have F:=ax .opq (show j.length≠H.length+1 by omega) hB;have k5:Kp H.length H (G.set j.length .opq):=(k3.trans k4).trans λo b N n=>ax _ (by omega) n;generalize G.set j.length .opq=U at u F k5 ⊢;have ea:∀(d:D) (κ:D->av),nQ ab (.iface 321 d) 321 true κ=κ (.tuple [d,.bool true]):=λd κ=>by kernel_rfl
  have hv2:∀(z:D) (κ:List D->av),aC [z] 0 [.nilrow] κ=κ [.nilrow]:=λ_ _=>rfl;have e5:eW de (.call 291 [.ptr H.length 0,.ptr (H.length+1) 0] (some (.panicking [⟨wr a e,false⟩]))) U=_:=ev (@afd _ _ _ a e _) rfl;simp only[ea,dU,ai,aw,ao,ge,ce2,YX,ae u,hv2]at e5;have J:=ba (.cells (sA+1) [.nilrow]) u;have s:=ax (.cells (sA+1) [.nilrow]) (show H.length≠H.length+1 by omega) F;have k6:Kp H.length H (U.set H.length (.cells (sA+1) [.nilrow])):=k5.trans λo b N n=>ax _ (by omega) n;generalize U.set H.length (.cells (sA+1) [.nilrow])=H6 at e5 J s k6;simp only[ae s,YX]at e5;have L:=ax (.cells (sB+1) [.i a,.i e]) (show H.length+1≠H.length by omega) J;have M:=ba (.cells (sB+1) [.i a,.i e]) s;have k7:Kp H.length H (H6.set (H.length+1) (.cells (sB+1) [.i a,.i e])):=k6.trans λo b N n=>ax _ (by omega) n;generalize H6.set (H.length+1) (.cells (sB+1) [.i a,.i e])=H7 at e5 L M k7;rw[e5];simp only[Nt,Mf,ae L,ae M,ai,aw];exact⟨H7,_,.nilrow,a,e,[],rfl,.inl ⟨rfl,rfl⟩,by rw[ajD he];exact hK,k7,λ_ _ q=>by cases q⟩
def EJ{H a:DH}(h:Kp H.length H a){d:D}(j:d.bel H.length):bj H (ret d a)=ret d H:=by
 have b:H.length<=a.length:=by
  rcases aoN a.length H.length with q|q
  .have:=h a.length H[a.length] q (abI q)
   grind
  .exact q
 have e:∀ i,i<H.length->a[i]? = H[i]?:=λi hi=>by rw[h i H[i] hi (abI hi),abI hi]
 have k:nU H ⟨.ret d,none,a⟩:=⟨j,rfl,b,λi x hi n=>.inl (by rw[<- e i hi];exact n)⟩;simp only[bj,ret];rw[akJ k];have:a.take H.length=H:=by
  apply aoC
  grind
 rw[this]
def aeg(l:af)(H:DH):∃ k,aq 253 [.str l] H=ret (.i k) H/\uC l k:=by
 rw[show aq 253 [.str l] H=_ from ev (amb) rfl];rw[show(24:Int)=((24:Nat):Int)from rfl,Ve];by_cases hc:24<l.length
 .rw[acv hc,ge];exact⟨0,EJ (λ_ _ _ h=>h) trivial,.inl (gi (.inr (.inl hc))).symm⟩
 .rw[acz hc,Xi];obtain⟨j,d,v,a,e,T,o,q,n,kp,r⟩:=LT (l:=l) (by omega) H;rw[am o];have fin:∀ k:Int,bj H (ret (.i k) j)=ret (.i k) H:=λk=>EJ kp trivial;simp only[dU,ai,aw,ce2,YX,bu,ao];by_cases s:e=0
  .subst s;rw[akJ rfl]at n;simp only[akI,Xi];rcases q with⟨rfl,rfl⟩|⟨q1,X,rfl,u⟩
   .simp only[Zy,bu,ao];rw[show((0:Int) != 1)=true from rfl,ge];exact⟨0,fin 0,n⟩
   .simp only[aec,bu,ao];by_cases w:T.length=1
    .obtain⟨cs,rfl⟩:∃ cs,T=[cs]:=by
      match T,w with
      |[c],_=>exact⟨c,rfl⟩
     obtain⟨k,v,t,b,rfl⟩:=r cs [] rfl;rw[show(((([(xT k v t b)]:aQ).length:Nat):Int) != 1)=false from rfl,Xi];have z:∀ κ:Nat->Bool->Bool->aQ->av,cH j X 1 κ=κ 4 true false [(xT k v t b)]:=λκ=>cy (l:=[(xT k v t b)]) u;simp only[show(0:Int)=((0:Nat):Int)from rfl,abf,aiu,show Nat.blt 0 1=true from rfl,boK,ge,wF,ahG,ahC,afY,z,ak (show([(xT k v t b)]:aQ)[0]? = some _ from rfl),ai,aw,iB,ao]
     grind [qP]
    .rw[show(((T.length:Nat):Int) != 1)=true by simp;omega,ge];refine⟨0,fin 0,?_⟩;have:qP l T=0:=by
      unfold qP
      grind
     grind
  grind
def Pd(l:af)(hl:l.length<2^60)(H:DH):∀(n i:Nat),n=l.length - i->i<2^60->ac au 285 200002 [.g (.str l),.n i] [] H=ret (.i (i+rn bv l i:Nat)) H
 |n,i,hn,hi=>by
  refine aW (Kq) ?_;rw[gI];by_cases hc:i<l.length
  .rw[acv hc,ge,aI,dz hc,am (Mb _ _),ao,kX bv hc];cases hq:bv (pk l i)with
   |false=>simp
   |true =>rw[ge,aE (show i<2^62 by omega),Pd l hl H (n - 1) (i+1) (by omega) (by omega),akJ rfl,show i+1+rn bv l (i+1)=i+(rn bv l (i+1)+1)by omega]
  grind [Ha]
 termination_by n=>n
def UM(l:af)(hl:l.length<2^59)(H:DH)(i:Nat)(hi:i<2^59):aq 285 [.str l,.i i] H=ret (.i (i+rn bv l i:Nat)) H :=
 ev (f285) (Pd l (by omega) H _ i rfl (by omega))
def Hs(l:af)(hl:l.length<2^59)(H:DH)(j:Nat)(a:j<=l.length):∀(n k:Nat),n=l.length - k->j+1<=k->k<2^60->k+rn bC l k=j+1+rn bC l (j+1) ->
 ac au 287 200005 [.g (.str l),.n j,.n k] [] H=ret (.i ((if pk l j=39/\0<rn bC l (j+1)then j+(1+rn bC l (j+1))else j:Nat):Nat)) H
 |n,k,hn,hk,hk2,b=>by
  refine aW (Kn) ?_;have fin:rn bC l k=0->cond (decide ((j:Int)<(l.length:Int))) (bg (j:Int) λi10=>fv l i10 λd=>aA ab .eql 5 true d (.int .u8 39) λd11=>brD d11 (cond (decide ((k:Int)>(bm ((j:Int)+1)))) (ret (.i k) H) (ret (.i j) H)) (ret (.i j) H)) (ret (.i j) H)=ret (.i ((if pk l j=39/\0<rn bC l (j+1)then j+(1+rn bC l (j+1))else j:Nat):Nat)) H:=λe=>by
   rw[e]at b;rw[gI];by_cases hc:j<l.length
   .rw[acv hc,ge,aI,dz hc];simp only[aZ,show(39:Int)=((39:Nat):Int)from rfl,neq,ao,aE (show j<2^62 by omega),Ve]
    grind
   grind [oO]
  rw[gI];by_cases hc:k<l.length
  .rw[acv hc,ge,aI,dz hc,am (ul _ _),ao];have h:=kX bC hc;cases o:bC (pk l k)with
   |false =>grind
   |true =>rw[o,akJ rfl]at h;rw[ge,aE (show k<2^62 by omega)];exact Hs l hl H j a (n - 1) (k+1) (by omega) (by omega) (by omega) (by omega)
  grind [Ha]
 termination_by n=>n
def Ps(l:af)(hl:l.length<2^59)(H:DH):∀(n i:Nat),n=l.length - i->i<=l.length->ac au 287 200002 [.g (.str l),.n i] [] H=ret (.i ((if pk l (i+rn bv l i)=39/\0<rn bC l (i+rn bv l i+1)then i+rn bv l i+(1+rn bC l (i+rn bv l i+1))else i+rn bv l i:Nat):Nat)) H
 |n,i,hn,hi=>by
  refine aW (Ko) ?_;rw[gI];by_cases hc:i<l.length
  .rw[acv hc,ge,aI,dz hc,am (Mb _ _),ao];have a:=kX bv hc;cases b:bv (pk l i)with
   |false =>rw[b,ajD (by decide)]at a;rw[Xi,aE (show i<2^62 by omega),a,anP];exact Hs l hl H i hi _ (i+1) rfl (abH _) (by omega) rfl
   |true =>rw[b,akJ rfl]at a;rw[ge,aE (show i<2^62 by omega),a,Ps l hl H (n - 1) (i+1) (by omega) (by omega),show i+1+rn bv l (i+1)=i+(rn bv l (i+1)+1)by omega]
  .rw[acz hc,Xi,aE (show i<2^62 by omega),Ha bv (show l.length<=i by omega),anP];exact Hs l hl H i hi _ (i+1) rfl (abH _) (by omega) rfl
 termination_by n=>n
def Vh(l:af)(hl:l.length<2^59)(H:DH)(i:Nat)(hi:i<=l.length):aq 287 [.str l,.i i] H=ret (.i (i+dj l i:Nat)) H:=by
 refine ev (f287) ((Ps l hl H _ i rfl hi).trans ?_)
 grind [dj]
def EG(t:af)(H:DH):∀(pre suf:List af),zi=pre++suf->ac au 288 200003 [.g (.str t),.g (.row 1 (zi.map λw=>[.str w])),.n pre.length] [] H=ret (.bool (decide (t∈suf))) H
 |pre,[],e=>by
  refine aW (wY) ?_
  grind
 |pre,w::suf,e=>by
  refine aW (wY) ?_;have hi:pre.length<zi.length:=by rw[e];simp
  have hat:(zi.map λw=>([.str w]:List D))[pre.length]? = some [.str w]:=by rw[e];simp
  have ih:=EG t H (pre++[w]) suf (by rw[e];simp);simp only[abg,abf]at ih;have h15:zi.length=15:=rfl
  grind [gI,aI,ak,ai,fw,ao,aE]
def XZ(t:af)(H:DH):aq 288 [.str t] H=ret (.bool (decide (t∈zi))) H:=ev (alS) (EG t H [] zi rfl)
def ES(l:af)(i:Nat)(hi:i<l.length)(H:DH):∀(pre suf:af),LP=pre++suf->ac au 289 200005 [.g (.str l),.n i,.g (.str LP),.n pre.length] [] H=ret (.i (if pk l i∈suf then 1 else 0)) H
 |pre,[],e=>by
  refine aW (wX) ?_
  grind
 |pre,w::suf,e=>by
  refine aW (wX) ?_;have hp:pre.length<LP.length:=by rw[e];simp
  have ih:=ES l i hi H (pre++[w]) suf (by rw[e];simp);simp only[abg,abf]at ih;have h15:LP.length=14:=rfl;have a:pk LP pre.length=w:=by
   have b:LP[pre.length]? = some w:=by rw[e];simp
   unfold pk;rw[b,aor];have h2:∀ c∈LP,c%256=c:=by decide
   simp_all
  rw[gI,acv hp,ge,aI,dz hp,aI,dz hi,a];simp only[aZ,neq,ao,aE (show pre.length<2^62 by omega),ih]
  grind
def acR(l:af)(hl:l.length<2^59)(i:Nat)(hi:i<l.length)(H:DH):aq 289 [.str l,.i i] H=ret (.i (uG l i:Nat)) H:=by
 refine ev (alR) ?_;have j:=ES l i hi H [] LP rfl;have two:∀ {a b:Nat},(l.drop i).take 2=[a,b]->i+2<=l.length:=λh=>by grind [List.length_take]
 have k:¬(l.drop i).take 2=[61,62]->¬(l.drop i).take 2=[45,62]->(ret (.i (if pk l i∈LP then 1 else 0)) H:av)=ret (.i (uG l i:Nat)) H:=λd e=>by grind [uG]
 rw[aE (show i<2^62 by omega),gI];by_cases hc:i+1<l.length
 .rw[acv hc,ge,show((i:Nat):Int)+2=((i:Nat):Int)+((2:Nat):Int)from rfl,wN (show i+2<2^62 by omega),XV l i (i+2) H _ (by omega) (by omega),XV l i (i+2) H _ (by omega) (by omega),show i+2 - i=2 by omega];simp only[fw,ao];by_cases d:(l.drop i).take 2=[61,62]
  .grind [uG]
  .rw[show((l.drop i).take 2==[61,62])=false from ajE.2 d,Xi];by_cases e:(l.drop i).take 2=[45,62]
   .grind [uG]
   .rw[show((l.drop i).take 2==[45,62])=false from ajE.2 e,Xi];exact j.trans (k d e)
 .rw[acz hc,Xi];exact j.trans (k (λh=>by have:=two h;omega) (λh=>by have:=two h;omega))
def SG(t:TypeId)(c:Bool)(a:Int)(κ:D->av):aA ab .quo t c (.i a) (.i 10) κ=κ (.i (bm (a.tdiv 10))):=rfl
def Xr(t:TypeId)(c:Bool)(a b:Int)(κ:D->av):aA ab .sub t c (.int .u8 a) (.int .u8 b) κ=κ (.int .u8 (IntKind.wrap .u8 (a - b))):=rfl
def afv(a:Int)(κ:D->av):rj ab 5 3 (.int .u8 a) κ=κ (.i (bm a)):=by kernel_rfl
def Bg(x:af)(h:x.length<2^60)(H:DH)(d v6:Int):∀(n i:Nat) (b:Int),n=x.length - i->i<=x.length ->
 ∃ a e:Int,ac au 282 200009 [.g (.str x),.n d,.n b,.n v6,.n i] [] H=ret (.tuple [.i a,.i e]) H
 |n,i,b,hn,hi=>by
  rw[show ac au 282 200009 [.g (.str x),.n d,.n b,.n v6,.n i] [] H=_ from aW (Kr) rfl];rw[gI];by_cases hc:i<x.length
  .rw[acv hc,ge,aI,dz hc,am (ul _ _)];simp only[aK,ao];cases bC (pk x i)with
   |false=>exact⟨_,_,rfl⟩
   |true =>
    rw[age,Xi,aI,dz hc];simp only[Xr,afv,bR,SG,aN,nP,ao];cases decide (b<_)with
    |true=>exact⟨_,_,rfl⟩
    |false =>rw[Xi,aE (show i<2^62 by omega)];exact Bg x h H d v6 (n - 1) (i+1) _ (by omega) (by omega)
  .rw[acz hc,Xi];cases d==1 with
   |true=>exact⟨_,_,rfl⟩
   |false =>
    rw[Xi];cases b==v6 with
    |true=>exact⟨_,_,rfl⟩
    |false=>exact⟨_,_,rfl⟩
 termination_by n=>n
def UX(x:af)(b:x.length<2^60)(H:DH)(i:Nat)(hi:i<=x.length):∃ a e:Int,ac au 282 4 [.g (.str x),.n i] [] H=ret (.tuple [.i a,.i e]) H:=by
 rw[show ac au 282 4 [.g (.str x),.n i] [] H=_ from aW (afe) rfl];rw[neq];by_cases h:x.length=i
 .simp_all
 .rw[show(x.length==i)=false from ajE.2 h,Xi];cases decide ((x.length:Int)>30)with
  |true=>exact⟨_,_,rfl⟩
  |false =>
   rw[Xi,aI,dz (by omega)];simp only[aZ,ao];cases ((pk x i:Int)==48)with
   |true =>
    rw[ge];cases decide ((x.length:Int)>1)with
    |true=>exact⟨_,_,rfl⟩
    |false=>rw[Xi];exact Bg x b H i _ _ i 0 rfl hi
   |false=>rw[Xi];exact Bg x b H i _ _ i 0 rfl hi
def ahl(x:af)(b:x.length<2^60)(H:DH):∃ a e:Int,aq 282 [.str x] H=ret (.tuple [.i a,.i e]) H:=by
 rw[show aq 282 [.str x] H=_ from ev (f282) rfl];rw[show(0:Int)=((0:Nat):Int)from rfl,Ve];by_cases h:0<x.length
 .rw[acv h,ge,dz h];simp only[aZ,ao];cases ((pk x 0:Int)==126)with
  |true=>rw[ge];exact UX x b H 1 h
  |false=>rw[Xi];exact UX x b H 0 (anI _)
 .rw[acz h,Xi];exact UX x b H 0 (anI _)
def DM(l:af)(H:DH)(r:av):Prop:=∃(k v e a:Int) (t:af),r=ret (.tuple [.agg (xT k v t a),.i e]) H/\(gt l 0->e=0->k=1) /\
 (¬ gt l 0->match ia l 0 with|none=>e≠0|some (b,n)=>e=0/\k=b/\t=l.take n)
variable{l:af}
theorem Uy(hl:l.length<=100)(H:DH)(b:gt l 0)(i:Nat)(hi:i<=l.length) :
 DM l H (ac au 232 8 [.g (.str l),.n ((0:Nat):Int),.lp 0 0,.n i] [(0,(xT 0 0 [] 0))] H):=by
 rw[show ac au 232 8 [.g (.str l),.n ((0:Nat):Int),.lp 0 0,.n i] [(0,(xT 0 0 [] 0))] H=_ from aW (afg) rfl];rw[XV l 0 i H _ (anI _) hi];obtain⟨a,e,h⟩:=ahl ((l.drop 0).take (i - 0)) (by rw[ajQ,aod];omega) H;rw[am h];simp only[dU,ai,aw,bu,ao];have bad:DM l H (ret (.tuple [.agg (xT 0 0 [] 0),.i 13]) H):=⟨0,0,13,0,[],rfl,(λ_ q=>by cases q),λq=>(q b).elim⟩;have good:DM l H (ac au 232 11 [.g (.str l),.n ((0:Nat):Int),.lp 0 0,.n i,.n a] [(0,(xT 0 0 [] 0))] H):=by rw[show ac au 232 11 [.g (.str l),.n ((0:Nat):Int),.lp 0 0,.n i,.n a] [(0,(xT 0 0 [] 0))] H=_ from aW (aaa) rfl];rw[XV l 0 i H _ (anI _) hi];exact⟨1,a,0,0,_,rfl,λ_ _=>rfl,λq=>(q b).elim⟩
 cases (e != 0)with
 |true=>rw[ge];exact bad
 |false =>
  rw[Xi,gI];by_cases hc:i<l.length
  .rw[acv hc,ge,aI,dz hc,am (Mb _ _),ao];cases bv (pk l i)with
   |true=>rw[ge];exact bad
   |false =>
    rw[Xi,aI,dz hc];simp only[aZ,ao];cases ((pk l i:Int)==39)with
    |true=>rw[ge];exact bad
    |false=>rw[Xi];exact good
  .rw[acz hc,Xi];exact good
def LW(hl:l.length<=100)(H:DH)(a:gt l 0):∀(n i:Nat),n=l.length - i->i<=l.length ->
 DM l H (ac au 232 200006 [.g (.str l),.n ((0:Nat):Int),.lp 0 0,.n i] [(0,(xT 0 0 [] 0))] H)
 |n,i,hq,hi=>by
  rw[show ac au 232 200006 [.g (.str l),.n ((0:Nat):Int),.lp 0 0,.n i] [(0,(xT 0 0 [] 0))] H=_ from aW (Ks) rfl];rw[gI];by_cases hc:i<l.length
  .rw[acv hc,ge,aI,dz hc,am (ul _ _),ao];cases bC (pk l i)with
   |true =>rw[ge,aE (show i<2^62 by omega)];exact LW hl H a (n - 1) (i+1) (by omega) (by omega)
   |false=>rw[Xi];exact Uy hl H a i hi
  grind [Uy]
 termination_by n=>n
variable{l:af}
def Hb(H:DH)(i:Nat)(hi:i<=l.length)(k:Int):ac au 232 26 [.g (.str l),.n ((0:Nat):Int),.lp 0 0,.n i,.n k] [(0,(xT 0 0 [] 0))] H=ret (.tuple [.agg (xT k 0 (l.take i) ((0:Nat):Int)),.i 0]) H:=by refine aW (ZX) ?_;rw[XV l 0 i H _ (anI _) hi,aoi,aoM];rfl
def OS(hl:l.length<=100)(h0:0<l.length)(H:DH)(d:¬ gt l 0)(h:fL (pk l 0)=true\/jF (pk l 0)=true):DM l H (ac au 232 18 [.g (.str l),.n ((0:Nat):Int),.lp 0 0,.g (.int .u8 (pk l 0:Nat))] [(0,(xT 0 0 [] 0))] H):=by
 rw[show ac au 232 18 [.g (.str l),.n ((0:Nat):Int),.lp 0 0,.g (.int .u8 (pk l 0:Nat))] [(0,(xT 0 0 [] 0))] H=_ from aW (ZY) rfl];rw[am (Vh l (by omega) H 0 (anI _)),afY];have hle:=tw l 0 (anI _);have a:bm (((dj l 0:Nat):Int) - ((0:Nat):Int))=((dj l 0:Nat):Int):=by rw[ki]<;>omega
 simp only[nP,a,er,show(24:Int)=((24:Nat):Int)from rfl,Ve,ao];by_cases hc:24<dj l 0
 .rw[acv hc,ge];refine⟨0,0,2,0,[],rfl,λq=>(d q).elim,λ_=>?_⟩
  grind [ia]
 .rw[acz hc,Xi,am (HG _ _),ao];cases e:jF (pk l 0)with
  |true =>
   rw[ge,Hb H _ (by omega) 3];have b:¬ fL (pk l 0)=true:=λb=>by
    unfold fL at b;unfold jF at e
    grind
   have:ia l 0=some (3,dj l 0):=by unfold ia;rw[ajD b,akJ e,ajD hc]
   refine⟨3,0,0,_,_,rfl,λq=>(d q).elim,λ_=>?_⟩
   grind
  |false =>
   have b:fL (pk l 0)=true:=h.resolve_right (by rw[e];decide);rw[Xi,XV l 0 _ H _ (anI _) (show dj l 0<=l.length by omega),am (XZ _ _),ao];rw[aoi,aoM];by_cases a:l.take (dj l 0)∈zi
   .rw[acv a,ge,Hb H _ (by omega) 5];have:ia l 0=some (5,dj l 0):=by unfold ia;rw[akJ b,ajD hc,aoi,akJ a]
    refine⟨5,0,0,_,_,rfl,λq=>(d q).elim,λ_=>?_⟩
    grind
   .rw[acz a,Xi,Hb H _ (by omega) 2];have:ia l 0=some (2,dj l 0):=by unfold ia;rw[akJ b,ajD hc,aoi,ajD a]
    refine⟨2,0,0,_,_,rfl,λq=>(d q).elim,λ_=>?_⟩
    grind
theorem Hc(hl:l.length<=100)(h0:0<l.length)(H:DH)(a:¬ gt l 0)(hq:¬(pk l 0=39/\fL (pk l 1)=true)):DM l H (ac au 232 17 [.g (.str l),.n ((0:Nat):Int),.lp 0 0,.g (.int .u8 (pk l 0:Nat))] [(0,(xT 0 0 [] 0))] H):=by
 rw[show ac au 232 17 [.g (.str l),.n ((0:Nat):Int),.lp 0 0,.g (.int .u8 (pk l 0:Nat))] [(0,(xT 0 0 [] 0))] H=_ from aW (ZZ) rfl];rw[am (GL _ _),ao];cases h:fL (pk l 0)with
 |true=>rw[ge];exact OS hl h0 H a (.inl h)
 |false =>
  rw[Xi,am (HG _ _),ao];cases i:jF (pk l 0)with
  |true=>rw[ge];exact OS hl h0 H a (.inr i)
  |false =>
   have b:ia l 0=if uG l 0=0 then none else some (6,uG l 0):=by grind [ia]
   have d:uG l 0<=l.length:=by grind [uG,List.drop,List.length_take,List.length_drop]
   rw[Xi,am (acR l (by omega) 0 h0 H)];simp only[aZ,ao];by_cases e:uG l 0=0
   .rw[akJ e]at b;rw[e,show(((0:Nat):Int)==0)=true from rfl,ge];refine⟨0,0,11,0,[],rfl,λq=>(a q).elim,λ_=>?_⟩;rw[b];simp
   .rw[ajD e]at b;rw[show(((uG l 0:Nat):Int)==0)=false by simp;omega,Xi];simp only[bR,wN (show 0+uG l 0<2^62 by omega),afY];rw[XV l 0 _ H _ (anI _) d,aoi,aoM];refine⟨6,0,0,_,_,rfl,λq=>(a q).elim,λ_=>?_⟩
    grind
def YI(hl:l.length<=100)(h0:0<l.length)(H:DH):DM l H (aq 232 [.str l,.i ((0:Nat):Int)] H):=by
 rw[show aq 232 [.str l,.i ((0:Nat):Int)] H=_ from ev (ami) rfl];rw[aI,dz h0];have r:bm (((0:Nat):Int)+1)=((1:Nat):Int):=aE (n:=0) (by omega);simp only[aZ,show(126:Int)=((126:Nat):Int)from rfl,show(39:Int)=((39:Nat):Int)from rfl,neq,ao,am (ul _ _),r];by_cases a:pk l 0=126
 .rw[a,BEq.rfl,ge,ge];exact LW hl H (.inr a) _ 1 rfl h0
 rw[show(pk l 0==126)=false from ajE.2 a,Xi,Xi];cases o:bC (pk l 0)with
 |true=>rw[ge];exact LW hl H (.inl o) _ 0 rfl (anI _)
 |false =>
 rw[Xi];have b:¬ gt l 0:=λh=>by rcases h with h|h;exact(by rw[o]at h;cases h);exact a h
 by_cases d:pk l 0=39
 .have e:(pk l 0==39)=true:=by rw[d];rfl
  rw[e,ge,gI];by_cases j:1<l.length
  .rw[acv j,ge,aI,dz j,am (GL _ _),ao];cases hs:fL (pk l 1)with
   |true =>
    have hr:=sW bv l 1 (by omega);have s:bm (((1+rn bv l 1:Nat):Int) - ((0:Nat):Int))=((1+rn bv l 1:Nat):Int):=by rw[ki]<;>omega
    have hs0:fL (pk l 0)=false:=by rw[d];rfl
    have hg0:jF (pk l 0)=false:=by rw[d];rfl
    have k:ia l 0=if 1+rn bv l 1>24 then none else some (4,1+rn bv l 1):=by grind [ia]
    rw[ge,am (UM l (by omega) H 1 (by omega))];simp only[nP,s,er,show(24:Int)=((24:Nat):Int)from rfl,Ve,ao];by_cases hc:24<1+rn bv l 1
    .rw[akJ hc]at k;rw[acv hc,ge];refine⟨0,0,2,0,[],rfl,λq=>(b q).elim,λ_=>?_⟩;rw[k];simp
    .rw[ajD hc]at k;rw[acz hc,Xi,XV l 0 _ H _ (anI _) (by omega),aoi,aoM];refine⟨4,0,0,_,_,rfl,λq=>(b q).elim,λ_=>?_⟩
     grind
   |false =>grind [Hc]
  .rw[acz j,Xi];exact Hc hl h0 H b (λh=>by rw[oO (show l.length<=1 by omega)]at h;cases h.2)
 grind [Hc]
def IU{k:Int}{n:Nat}(h:ia l 0=some (k,n))(h0:0<l.length):n<=24/\n<=l.length:=by
 have a1:=tw l 0 (anI _);unfold ia at h;split at h
 .grind
 .split at h
  .grind
  .split at h
   .rename_i a;have h1:1<l.length:=by
     rcases aoN 1 l.length with q|q
     .exact q
     .rw[oO (show l.length<=0+1 by omega)]at a;cases a.2
    have a2:=sW bv l (0+1) (by omega)
    grind
   grind [uG,List.drop,List.length_take,List.length_drop]
def VQ(hl:l.length<=100)(h0:0<l.length)(u:¬ skip l 0)(H:DH):∃ k,ac au 170 5 [.g (.str l)] [] H=ret (.i k) H/\uC l k:=by
 rw[show ac au 170 5 [.g (.str l)] [] H=_ from aW (afj) rfl];obtain⟨k,v,e,a,t,j,w,b⟩:=YI hl h0 H;have j:aq 232 [.str l,.i 0] H=_:=j;rw[am j];simp only[dU,ai,aw,ce4,ov4,bu,ao,RU];by_cases r:e=0
 .subst r;rw[show((0:Int) != 0)=false from rfl,Xi];by_cases s:t.length=l.length
  .rw[s,show(((l.length:Nat):Int) !=((l.length:Nat):Int))=false by simp,Xi];refine⟨k,rfl,?_⟩;by_cases d:gt l 0
   .exact .inr ⟨d,w d rfl⟩
   .have b:=b d;cases h:ia l 0 with
    |none=>rw[h]at b;exact(b rfl).elim
    |some p =>
     obtain⟨k',n⟩:=p;rw[h]at b;obtain⟨_,rfl,rfl⟩:=b;rw[ajQ]at s;refine .inl ?_;unfold bM;by_cases o:24<l.length
     .exfalso;have:=IU h h0;omega
     .rw[ajD (by rintro(q|q|q|q);omega;exact o q;exact u q;exact d q),h];simp_all[IU]
  .rw[show(((t.length:Nat):Int) !=((l.length:Nat):Int))=true by simp;omega,ge];refine⟨0,rfl,.inl ?_⟩
   grind [bM]
 .rw[show(e != 0)=true by simp[r],ge];refine⟨0,rfl,.inl ?_⟩
  grind [bM]
def aef(l:af)(H:DH):∃ k,aq 170 [.str l] H=ret (.i k) H/\uC l k:=by
 rw[show aq 170 [.str l] H=_ from ev (amJ) rfl];rw[show(0:Int)=((0:Nat):Int)from rfl,show(100:Int)=((100:Nat):Int)from rfl,show(1:Int)=((1:Nat):Int)from rfl,neq,Ve,Ve];by_cases h0:l.length=0
 .rw[h0,BEq.rfl,ge];exact⟨0,rfl,.inl (gi (.inl h0)).symm⟩
 rw[show(l.length==0)=false from ajE.2 h0,Xi];by_cases a:100<l.length
 .rw[acv a,ge];exact⟨0,rfl,.inl (gi (.inr (.inl (by omega)))).symm⟩
 rw[acz a,Xi,dz (show 0<l.length by omega),am (Yw _ _),ao];cases d:ed (pk l 0)with
 |true =>rw[ge];exact⟨0,rfl,.inl (gi (.inr (.inr (.inl (.inl d))))).symm⟩
 |false =>
  rw[Xi];by_cases e:1<l.length
  .rw[acv e,ge,show(.i 2:D)=.i ((2:Nat):Int)from rfl,agv l 2 H _ (by omega)];simp only[fw,ao];by_cases b:l.take 2=[40,42]
   .rw[b,BEq.rfl,ge];exact⟨0,rfl,.inl (gi (.inr (.inr (.inl (.inr b))))).symm⟩
   .rw[show(l.take 2==[40,42])=false from ajE.2 b,Xi];exact VQ (by omega) (by omega) (λh=>by rcases h with h|h;exact(by rw[d]at h;cases h);exact b h) H
  .rw[acz e,Xi];refine VQ (by omega) (by omega) (λh=>?_) H;rcases h with h|h
   .grind
   grind [List.length_take]
theorem gB{α:Type}{l:List α}{i:Nat}{x:α}(h:l[i]? = some x):l.set i x=l:=@lO ⟨λ_=>True,[],λ_ _ _ h=>h⟩ α l i x h
inductive Ty where
 |mk (n:af) (xs:List Ty)
inductive Pa where
 |mk (k:Int) (n:af) (xs:List Pa)
inductive Ex where
 |mk (k m:Int) (n a:af) (xs:List Ex) (ps:List Pa)
structure Fu where
 n:af
 a:af
 b:Ex
structure Co where
 n:af
 xs:List Ty
structure Da where
 n:af
 vs:List af
 cs:List Co
structure De where
 k:Int
 d:Da
 n:af
 t:Ty
 fs:List Fu
 b:Ex
mutual
def dL:Ty->List D
 |.mk n xs=>[.str n,.row 2 (cE xs)]
def cE:List Ty->aQ
 |[]=>[]
 |t::r=>dL t::cE r
end
mutual
def eY:Pa->List D
 |.mk k n xs=>[.i k,.str n,.row 3 (cG xs)]
def cG:List Pa->aQ
 |[]=>[]
 |t::r=>eY t::cG r
end
mutual
def cT:Ex->List D
 |.mk k m n a xs ps=>(xE k m n a (cu xs) (cG ps))
def cu:List Ex->aQ
 |[]=>[]
 |t::r=>cT t::cu r
end
def lW:Fu->List D
 |⟨n,a,.mk k m en ea xs ps⟩=>[.str n,.str a,.i k,.i m,.str en,.str ea,.row 6 (cu xs),.row 3 (cG ps)]
def gq(s:af):List D:=[.str s]
def lF:Co->List D
 |⟨n,xs⟩=>[.str n,.row 2 (cE xs)]
def daC:Da->List D
 |⟨n,vs,cs⟩=>[.str n,.row 1 (vs.map gq),.row 2 (cs.map lF)]
def bG:De->List D
 |⟨k,⟨dn,vs,cs⟩,n,.mk tn ts,fs,.mk ek em en ea xs ps⟩=>(xD k dn (vs.map gq) (cs.map lF) n tn (cE ts) (fs.map lW) ek em en ea (cu xs) (cG ps))
def jg:∀ l,cE l=l.map dL
 |[]=>rfl
 |t::r=>by simp[cE,jg r]
theorem mf:∀ l,cG l=l.map eY
 |[]=>rfl
 |t::r=>by simp[cG,mf r]
def mz:∀ l,cu l=l.map cT
 |[]=>rfl
 |t::r=>by simp[cu,mz r]
mutual
def Ty.ok:Ty->Prop
 |.mk _ xs=>xs.length<2^62/\Ty.oks xs
def Ty.oks:List Ty->Prop
 |[]=>True
 |t::r=>t.ok/\Ty.oks r
end
mutual
def Pa.ok:Pa->Prop
 |.mk _ _ xs=>xs.length<2^62/\Pa.oks xs
def Pa.oks:List Pa->Prop
 |[]=>True
 |t::r=>t.ok/\Pa.oks r
end
mutual
def Ex.ok:Ex->Prop
 |.mk _ _ _ _ xs ps=>xs.length<2^62/\Ex.oks xs/\ps.length<2^62/\Pa.oks ps
def Ex.oks:List Ex->Prop
 |[]=>True
 |t::r=>t.ok/\Ex.oks r
end
def Co.ok(c:Co):Prop:=c.xs.length<2^62/\Ty.oks c.xs
def Da.ok(d:Da):Prop:=d.vs.length<2^62/\d.cs.length<2^62/\∀ c∈d.cs,c.ok
def De.ok(d:De):Prop:=d.d.ok/\d.t.ok/\d.fs.length<2^62/\(∀ f∈d.fs,f.b.ok)/\d.b.ok
def Ty.oks_iff:∀ {l},Ty.oks l↔∀ t∈l,Ty.ok t
 |[]=>by simp[Ty.oks]
 |t::r=>by simp[Ty.oks,Ty.oks_iff (l:=r)]
def Pa.oks_iff:∀ {l},Pa.oks l↔∀ t∈l,Pa.ok t
 |[]=>by simp[Pa.oks]
 |t::r=>by simp[Pa.oks,Pa.oks_iff (l:=r)]
def Ex.oks_iff:∀ {l},Ex.oks l↔∀ t∈l,Ex.ok t
 |[]=>by simp[Ex.oks]
 |t::r=>by simp[Ex.oks,Ex.oks_iff (l:=r)]
def bz{α β:Type}(f:α->β)(pre:List α)(t:α)(suf:List α):((pre++t::suf).map f)[pre.length]? = some (f t):=by simp
abbrev XC(ix sz cl:Nat)(rows:aQ)(c:Nat)(i:Int)(H:DH):av:=ac au ix 200002 [.g (.row sz rows),.g (.func cl [] [.ptr c 0]),.n rows.length,.n i] [] H
def nT{H X:DH}{f:FuncId}{a:List D}{b:Bool}(h:aq f a (H++X)=ret (.bool b) (H++X)):bj H (C au f a (H++X) λd H=>eD .not d λd=>ret d H)=ret (.bool !b) H:=by rw[am h];exact zq _ H _
variable{g:FuncId}
def nR{α:Type}{mk:α->D}{enc:α->List D}{sz al ix cl:Nat}{p:α->Bool}(l:List α)(hl:l.length<2^62)
 (h:∀(H:DH) (c i:Nat) (t:α) (b:Bool),H[c]? = some (.cells 0 [.func g [] []])->(l.map enc)[i]? = some (enc t)->decide ((i:Int)<((l.map enc).length:Int))=true->aq g [mk t] H=ret (.bool b) H ->
  XC ix sz cl (l.map enc) c i H=cond (!b) (ret (.i i) H) (XC ix sz cl (l.map enc) c (bm (i+1)) H))
 (j:∀(H:DH) (c i:Nat),decide ((i:Int)<((l.map enc).length:Int))=false->XC ix sz cl (l.map enc) c i H=ret (.i (-1)) H)
 (o:∀(H:DH) (n:Int),XC ix sz cl (l.map enc) H.length 0 (H++[.cells 0 [.func g [] []]])=ret (.i n) (H++[.cells 0 [.func g [] []]])->aq al [.row sz (l.map enc),.func g [] []] H=ret (.bool !(decide (n>=0))) H)
 (q:∀ t∈l,∀ H',aq g [mk t] H'=ret (.bool (p t)) H') (H:DH):aq al [.row sz (l.map enc),.func g [] []] H=ret (.bool (l.all p)) H:=by
 have main:∀(c:Nat) (H:DH),H[c]? = some (.cells 0 [.func g [] []])->∀ suf pre,l=pre++suf->∃ n:Int,XC ix sz cl (l.map enc) c (pre.length:Nat) H=ret (.i n) H/\decide (n>=0)=!suf.all p:=by
  intro c H hc suf;induction suf with
  |nil=>intro pre e;exact⟨-1,j H c _ (by rw[e];simp),rfl⟩
  |cons t suf ih =>
   intro pre e;obtain⟨n,a,d⟩:=ih (pre++[t]) (by rw[e];simp);have hi:pre.length<l.length:=by rw[e];simp
   have k:=h H c pre.length t _ hc (by rw[e];exact bz _ _ _ _) (by simpa using hi) (q t (by rw[e];simp) H);rw[abg,abf]at a;rw[aE (show pre.length<2^62 by omega),a]at k
   grind
 obtain⟨n,a,d⟩:=main H.length (H++[.cells 0 [.func g [] []]]) (be H _) l [] rfl;rw[o H n a,d,Bool.not_not]
def acp{p:Ty->Bool}(hb:aV bF g=true)(l:List Ty)(hl:l.length<2^62)(a:∀ t∈l,∀ H',aq g [.agg (dL t)] H'=ret (.bool (p t)) H')(H:DH):aq 249 [.row 2 (l.map dL),.func g [] []] H=ret (.bool (l.all p)) H :=
 nR (mk:=λt=>.agg (dL t)) (ix:=332) (cl:=308) l hl (λH c i t b hc h hi a=>by
  have d:aq 308 [.agg (dL t),.ptr c 0] H=ret (.bool !b) H:=by
   obtain⟨n,xs⟩:=t;try simp only[dL]at a ⊢
   exact ev (alF) (by simp only[ae hc,ai,bZ hb,agc,ajH,am a,aK])
  obtain⟨n,xs⟩:=t;try simp only[dL]at d
  refine aW (wL) ?_;rw[hi,ge,aI,ak h];simp only[dL,ai,aw,bZ (show aV bF 308=true by kernel_rfl),agc,ans,am d,aK,ao])
  (λH c i hi=>aW (wL) (by rw[hi];rfl))
  (λH n h=>ev (amf) (nT (ev (alG) (by simp only[am (ev (alt) h),dW])))) a H
def ajr{p:af->Bool}(hb:aV bF g=true)(l:List af)(hl:l.length<2^62)(a:∀ t∈l,∀ H',aq g [.str t] H'=ret (.bool (p t)) H')(H:DH):aq 250 [.row 1 (l.map gq),.func g [] []] H=ret (.bool (l.all p)) H :=
 nR (mk:=λt=>.str t) (ix:=333) (cl:=310) l hl (λH c i t b hc h hi a=>by
  have d:aq 310 [.str t,.ptr c 0] H=ret (.bool !b) H:=by
   skip
   try simp only[gq]at a ⊢
   exact ev (alD) (by simp only[ae hc,ai,bZ hb,agc,ajH,am a,aK])
  skip
  try simp only[gq]at d
  refine aW (wK) ?_;rw[hi,ge,aI,ak h];simp only[gq,ai,aw,bZ (show aV bF 310=true by kernel_rfl),agc,ans,am d,aK,ao])
  (λH c i hi=>aW (wK) (by rw[hi];rfl))
  (λH n h=>ev (ame) (nT (ev (alE) (by simp only[am (ev (als) h),dW])))) a H
def ajv{p:Co->Bool}(hb:aV bF g=true)(l:List Co)(hl:l.length<2^62)(a:∀ t∈l,∀ H',aq g [.agg (lF t)] H'=ret (.bool (p t)) H')(H:DH):aq 252 [.row 2 (l.map lF),.func g [] []] H=ret (.bool (l.all p)) H :=
 nR (mk:=λt=>.agg (lF t)) (ix:=277) (cl:=312) l hl (λH c i t b hc h hi a=>by
  have d:aq 312 [.agg (lF t),.ptr c 0] H=ret (.bool !b) H:=by
   obtain⟨n,xs⟩:=t;try simp only[lF]at a ⊢
   exact ev (alB) (by simp only[ae hc,ai,bZ hb,agc,ajH,am a,aK])
  obtain⟨n,xs⟩:=t;try simp only[lF]at d
  refine aW (wZ) ?_;rw[hi,ge,aI,ak h];simp only[lF,ai,aw,bZ (show aV bF 312=true by kernel_rfl),agc,ans,am d,aK,ao])
  (λH c i hi=>aW (wZ) (by rw[hi];rfl))
  (λH n h=>ev (amc) (nT (ev (alC) (by simp only[am (ev (f277) h),dW])))) a H
def ajt{p:Ex->Bool}(hb:aV bF g=true)(l:List Ex)(hl:l.length<2^62)(d:∀ t∈l,∀ H',aq g [.agg (cT t)] H'=ret (.bool (p t)) H')(H:DH):aq 256 [.row 6 (l.map cT),.func g [] []] H=ret (.bool (l.all p)) H :=
 nR (mk:=λt=>.agg (cT t)) (ix:=334) (cl:=315) l hl (λH c i t b hc h hi d=>by
  have e:aq 315 [.agg (cT t),.ptr c 0] H=ret (.bool !b) H:=by
   obtain⟨k,m,n,a,xs,ps⟩:=t;try simp only[cT]at d ⊢
   exact ev (alz) (by simp only[ae hc,ai,bZ hb,agc,ajH,am d,aK])
  obtain⟨k,m,n,a,xs,ps⟩:=t;try simp only[cT]at e
  refine aW (wJ) ?_;rw[hi,ge,aI,ak h];simp only[cT,ai,aw,bZ (show aV bF 315=true by kernel_rfl),agc,ans,am e,aK,ao])
  (λH c i hi=>aW (wJ) (by rw[hi];rfl))
  (λH n h=>ev (alY) (nT (ev (f314) (by simp only[am (ev (alr) h),dW])))) d H
def acq{p:Pa->Bool}(hb:aV bF g=true)(l:List Pa)(hl:l.length<2^62)(a:∀ t∈l,∀ H',aq g [.agg (eY t)] H'=ret (.bool (p t)) H')(H:DH):aq 257 [.row 3 (l.map eY),.func g [] []] H=ret (.bool (l.all p)) H :=
 nR (mk:=λt=>.agg (eY t)) (ix:=335) (cl:=317) l hl (λH c i t b hc h hi a=>by
  have d:aq 317 [.agg (eY t),.ptr c 0] H=ret (.bool !b) H:=by
   obtain⟨k,n,xs⟩:=t;try simp only[eY]at a ⊢
   exact ev (f317) (by simp only[ae hc,ai,bZ hb,agc,ajH,am a,aK])
  obtain⟨k,n,xs⟩:=t;try simp only[eY]at d
  refine aW (wH) ?_;rw[hi,ge,aI,ak h];simp only[eY,ai,aw,bZ (show aV bF 317=true by kernel_rfl),agc,ans,am d,aK,ao])
  (λH c i hi=>aW (wH) (by rw[hi];rfl))
  (λH n h=>ev (alX) (nT (ev (f316) (by simp only[am (ev (alq) h),dW])))) a H
def aju{p:De->Bool}(hb:aV bF g=true)(l:List De)(hl:l.length<2^62)(a:∀ t∈l,∀ H',aq g [.agg (bG t)] H'=ret (.bool (p t)) H')(H:DH):aq 116 [.row 14 (l.map bG),.func g [] []] H=ret (.bool (l.all p)) H :=
 nR (mk:=λt=>.agg (bG t)) (ix:=247) (cl:=182) l hl (λH c i t b hc h hi a=>by
  have d:aq 182 [.agg (bG t),.ptr c 0] H=ret (.bool !b) H:=by
   obtain⟨k,⟨dn,vs,cs⟩,n,⟨tn,ts⟩,fs,⟨ek,em,en,ea,xs,ps⟩⟩:=t;try simp only[bG]at a ⊢
   exact ev (amH) (by simp only[ae hc,ai,bZ hb,agc,ajH,am a,aK])
  obtain⟨k,⟨dn,vs,cs⟩,n,⟨tn,ts⟩,fs,⟨ek,em,en,ea,xs,ps⟩⟩:=t;try simp only[bG]at d
  refine aW (xg) ?_;rw[hi,ge,aI,ak h];simp only[bG,ai,aw,bZ (show aV bF 182=true by kernel_rfl),agc,ans,am d,aK,ao])
  (λH c i hi=>aW (xg) (by rw[hi];rfl))
  (λH n h=>ev (ani) (nT (ev (amI) (by simp only[am (ev (f247) h),dW])))) a H
def ajs{p:Fu->Bool}(hb:aV bF g=true)(l:List Fu)(hl:l.length<2^62)(d:∀ t∈l,∀ H',aq g [.agg (lW t)] H'=ret (.bool (p t)) H')(H:DH):aq 189 [.row 8 (l.map lW),.func g [] []] H=ret (.bool (l.all p)) H :=
 nR (mk:=λt=>.agg (lW t)) (ix:=313) (cl:=255) l hl (λH c i t b hc h hi d=>by
  have e:aq 255 [.agg (lW t),.ptr c 0] H=ret (.bool !b) H:=by
   obtain⟨n,a,⟨k,m,en,ea,xs,ps⟩⟩:=t;try simp only[lW]at d ⊢
   exact ev (alZ) (by simp only[ae hc,ai,bZ hb,agc,ajH,am d,aK])
  obtain⟨n,a,⟨k,m,en,ea,xs,ps⟩⟩:=t;try simp only[lW]at e
  refine aW (wQ) ?_;rw[hi,ge,aI,ak h];simp only[lW,ai,aw,bZ (show aV bF 255=true by kernel_rfl),agc,ans,am e,aK,ao])
  (λH c i hi=>aW (wQ) (by rw[hi];rfl))
  (λH n h=>ev (amA) (nT (ev (ama) (by simp only[am (ev (alA) h),dW])))) d H
end
section
open Go.AI
structure KOk(kind:af->Int):Prop where
 a:∀ s H,∃ k,aq 253 [.str s] H=ret (.i k) H/\(k=kind s\/(kind s=0/\k=1))
 b:∀ s H,∃ k,aq 170 [.str s] H=ret (.i k) H/\(k=kind s\/(kind s=0/\k=1))
 c:kind [44]≠3
def kq{k n j:Int}(h:k=n\/(n=0/\k=1))(hj:2<=j):(k==j)=(n==j):=by grind
variable{kind:af->Int}(K:KOk kind)
include K
def ph(s:af)(H:DH):aq 187 [.str s] H=ret (.bool (kind s==2)) H:=by obtain⟨k,b,d⟩:=K.a s H;exact ev (amC) (by simp only[am b,aZ,kq d (show(2:Int)<=2 by decide)])
def tO(s:af)(H:DH):aq 129 [.str s] H=ret (.bool (kind s==2)) H:=by obtain⟨k,a,d⟩:=K.b s H;exact ev (f129) (by simp only[am a,aZ,kq d (show(2:Int)<=2 by decide)])
def nq(s:af)(H:DH):aq 201 [.str s] H=ret (.bool (kind s==3)) H:=by obtain⟨k,b,d⟩:=K.a s H;exact ev (amr) (by simp only[am b,aZ,kq d (show(2:Int)<=3 by decide)])
theorem zP(s:af)(H:DH):aq 195 [.str s] H=ret (.bool (kind s==3)) H:=by obtain⟨k,a,d⟩:=K.b s H;exact ev (f195) (by simp only[am a,aZ,kq d (show(2:Int)<=3 by decide)])
def PQ(s:af)(H:DH):aq 251 [.str s] H=ret (.bool (kind s==4)) H:=by obtain⟨k,b,d⟩:=K.a s H;exact ev (amd) (by simp only[am b,aZ,kq d (show(2:Int)<=4 by decide)])
theorem PP(s:af)(H:DH):aq 196 [.str s] H=ret (.bool (kind s==4)) H:=by obtain⟨k,a,d⟩:=K.b s H;exact ev (amu) (by simp only[am a,aZ,kq d (show(2:Int)<=4 by decide)])
omit K
section
variable(kind:af->Int)
def GF(n:af)(k:Nat):Bool:=if n==[45,62] then k==2 else if n==[44] then decide (2<=k)&&decide (k<=4)else if kind n==4&&k==0 then true else kind n==3&&decide (k<=16)
mutual
def mL:Ty->Bool
 |.mk n xs=>gG xs&&GF kind n xs.length
def gG:List Ty->Bool
 |[]=>true
 |t::r=>mL t&&gG r
end
end
def oA:∀ l,gG kind l=l.all (mL kind)
 |[]=>rfl
 |t::r=>by simp[gG,oA r]
theorem bU:∀ l,(cE l).length=l.length:=λl=>by rw[jg,abh]
def hQ(pre:List Ty)(t:Ty)(suf:List Ty):(cE (pre++t::suf))[pre.length]? = some (dL t):=by rw[jg];exact bz _ _ _ _
include K
mutual
def pj:∀(t:Ty) (H:DH),t.ok->aq 130 [.agg (dL t)] H=ret (.bool (mL kind t)) H
 |.mk n xs,H,h=>by simp only[Ty.ok]at h;refine ev (by simp only[dL];exact amU) ?_;exact qS n xs H h.1 [] xs rfl h.2
def qS(n:af)(xs:List Ty)(H:DH)(hl:xs.length<2^62):∀ pre suf,xs=pre++suf->Ty.oks suf ->
 ac au 130 200002 [.lp 0 0,.n (pre.length:Nat)] [(0,[.str n,.row 2 (cE xs)])] H=ret (.bool (gG kind suf&&GF kind n xs.length)) H
 |pre,[],e,_=>by
  have a:xs.length=pre.length:=by rw[e];simp
  refine aW (xS) ?_;rw[bU,a];simp only[akg,anM,am (PP K _ _),am (zP K _ _),ao,gG,adG,aps,GF]
  repeat' (first|rfl|split)
  all_goals simp_all
  all_goals first|omega|(rw[ajF];simp<;>omega)
 |pre,t::suf,e,h=>by
  simp only[Ty.oks]at h;refine aW (xS) ?_;have hi:pre.length<xs.length:=by rw[e];simp
  have h1:decide ((pre.length:Int)<((cE xs).length:Int))=true:=by rw[bU];simp;exact hi
  have h2:(cE xs)[pre.length]? = some (dL t):=by rw[e];exact hQ _ _ _
  obtain⟨tn,tas⟩:=t;have b:=pj (.mk tn tas) H h.1;simp only[dL]at b;have ih:=qS n xs H hl (pre++[.mk tn tas]) suf (by rw[e];simp) h.2
  grind [aI,ak,dL,ai,aw,am,aK,ao,aE,List.length_singleton,gG]
end
mutual
def FG:∀(t:Ty) (H:DH),t.ok->aq 188 [.agg (dL t)] H=ret (.bool (mL kind t)) H
 |.mk n xs,H,h=>by
  simp only[Ty.ok]at h;refine ev (by simp only[dL];exact amB) ?_;have b:=rT xs h.2;have d:aV bF 188=true:=by kernel_rfl
  have a:=acp d (p:=mL kind) xs h.1 b H;rw[<- jg,<- oA]at a;simp only[am a,am (PQ K _ _),am (nq K _ _),ao,aK,bU,aps,mL,GF];clear b a;generalize gG kind xs=q;cases q<;>simp only[ajI,adG,age,ajM,apn,apF,aoo]
  repeat' (first|rfl|split)
  all_goals simp_all
  all_goals first|omega|(rw[ajF];simp<;>omega)
def rT:∀(l:List Ty),Ty.oks l->∀ t∈l,∀ H',aq 188 [.agg (dL t)] H'=ret (.bool (mL kind t)) H'
 |[],_,t,a,_=>by cases a
 |x::r,h,t,a,H'=>by
  simp only[Ty.oks]at h;rcases afS.mp a with e|a
  .simp_all[FG]
  .exact rT r h.2 t a H'
end
end
section
open Go.AI
def kOk:KOk bM:=by
 have w:∀ {l:af} {k:Int},uC l k->k=bM l\/(bM l=0/\k=1):=λh=>by
  rcases h with h|⟨a,b⟩
  .exact .inl h
  grind [gi]
 refine⟨λs H=>?_,λs H=>?_,?_⟩
 .obtain⟨k,a,b⟩:=aeg s H;exact⟨k,a,w b⟩
 .obtain⟨k,a,b⟩:=aef s H;exact⟨k,a,w b⟩
 .unfold bM;split
  .decide
  .have:ia [44] 0=some (6,1):=by decide
   grind
end
section
open Go.RowKit Go.Lib
structure qp(w:World):Prop where
 mx:∃ m,w.cell? ⟨0,0,none⟩=some (.int .i64 m)
 syn:∃ ev,w.cell? ⟨1,0,none⟩=some ev/\(ev=.nilIface\/∃ te pe,ev=.iface te pe)
 rng:∃ ev,w.cell? ⟨2,0,none⟩=some ev/\(ev=.nilIface\/∃ te pe,ev=.iface te pe)
 pow:Lib.TabIs Tryz.prog w "internal/strconv.uint64pow10" .u64 Lib.pow10Tab
 sz:6<=w.heap.size
 pw:∀ w',Below w.heap.size w w'->Lib.TabIs Tryz.prog w' "internal/strconv.uint64pow10" .u64 Lib.pow10Tab
def qp.below{w w':World}(h:qp w)(b:Below w.heap.size w w'):qp w':=by
 have hs:=h.sz;refine⟨?_,?_,?_,h.pw w' b,Nat.le_trans h.sz b.size,λe a=>h.pw e (b.trans ⟨a.os,a.tape,a.output,a.size,λk hk=>a.block k (Nat.lt_of_lt_of_le hk b.size)⟩)⟩
 .obtain⟨m,hm⟩:=h.mx;exact⟨m,(b.cell (p:=⟨0,0,none⟩) (show 0<w.heap.size by omega)).trans hm⟩
 .obtain⟨m,hm,d⟩:=h.syn;exact⟨m,(b.cell (p:=⟨1,0,none⟩) (show 1<w.heap.size by omega)).trans hm,d⟩
 .obtain⟨m,hm,d⟩:=h.rng;exact⟨m,(b.cell (p:=⟨2,0,none⟩) (show 2<w.heap.size by omega)).trans hm,d⟩
def Below.up{a b c:World}(h:Below a.heap.size a b)(k:Below b.heap.size b c):Below a.heap.size a c :=
 h.trans ⟨k.os,k.tape,k.output,k.size,λi hi=>k.block i (Nat.lt_of_lt_of_le hi h.size)⟩
def sY(old new:List UInt8):∀(k:Nat) (s:List UInt8),(Lib.replaceK old new k s).length<=s.length+k*new.length
 |0,s=>by simp[Lib.replaceK]
 |k+1,s=>by
  rw[Lib.replaceK];split
  .omega
  .have ih:=sY old new k (s.drop ((Lib.index s old).toNat+old.length))
   grind
def Jj(s old new:List UInt8):(Lib.replace s old new 1).length<=s.length+new.length:=by
 unfold Lib.replace;split
 .omega
 .have h1:=sY old new (Lib.replaceNum s old 1) s;have a:Lib.replaceNum s old 1<=1:=by unfold Lib.replaceNum;split<;>simp_all;omega
  have h3:Lib.replaceNum s old 1*new.length<=1*new.length:=Nat.mul_le_mul_right _ a;omega
def Ic(n:Int)(h0:-9223372036854775808<=n)(j:n<=9223372036854775807)(w:World)(o:qp w) :
 Calls Tryz.prog 362 #[.int .i64 n] w λe w'=>e=.returned (.string (aah n))/\Below w.heap.size w w':=by
 go_enter Tryz.func362,Tryz.ntmps362
 go_wp2_with (first
  |(go_at_call 373;refine(Tryz.strconv_Itoa n h0 j _ o.pow).mono ?_;rintro e W1 ⟨rfl,k,os,rfl⟩))
 have a:Below w.heap.size w (Go.Sort.grow (w.drewN k) os):=below_regrown w _ os;have b:=o.below a;obtain⟨m,hm⟩:=b.mx;have hlen:=Lib.itoa_length_le n h0 j;have hsz:(ByteArray.mk (Lib.itoa n).toArray).size=(Lib.itoa n).length:=by simp[ByteArray.size]
 have d:=Lib.countB_mul_le (ByteArray.mk #[45]) (by decide) _ (ByteArray.mk (Lib.itoa n).toArray) (Nat.le_refl _);refine(Tryz.strings_Replace ⟨(Lib.itoa n).toArray⟩ ⟨#[45]⟩ ⟨#[126]⟩ 1 m _ (by omega) hm (by decide) ?_).mono ?_
 .have:(ByteArray.mk #[126]).size=1:=rfl;have h:(ByteArray.mk #[45]).size=1:=rfl;rw[this];rw[h]at d;omega
 rintro e W2 ⟨rfl,i⟩
 go_wp2
 go_ret
 exact⟨rfl,Below.up a i⟩
def Hq(s:ByteArray)(hs:s.size<=1000)(w:World)(G:qp w) :
 Calls Tryz.prog 355 #[.string s] w λe w'=>e=.returned (.tuple #[.int .i64 (rG s).1,.int .i64 (rG s).2])/\Below w.heap.size w w':=by
 obtain⟨m,hm⟩:=G.mx;have o:=Lib.countB_mul_le (ByteArray.mk #[126]) (by decide) _ s (Nat.le_refl _);have k:(ByteArray.mk #[126]).size=1:=rfl;have q:(ByteArray.mk #[45]).size=1:=rfl;rw[k]at o
 go_enter Tryz.func355,Tryz.ntmps355
 go_wp2_with (first
  |(go_at_call 361;refine(Tryz.strings_Replace s ⟨#[126]⟩ ⟨#[45]⟩ 1 m _ (by omega) hm (by decide) (by rw[q];omega)).mono ?_;rintro e W1 ⟨rfl,b⟩))
 have h:=G.below b;have hrl:=Jj s.data.toList [126] [45];have r:(Ea s).size=(Lib.replace s.data.toList [126] [45] 1).length:=by simp[Ea,ByteArray.size]
 have hsl:s.size=s.data.toList.length:=by rw[Array.length_toList];rfl
 have hr2:(Ea s).size<=1001:=by rw[r];have:[(45:UInt8)].length=1:=rfl;omega
 change Calls Tryz.prog 360 #[.string (Ea s)] W1 _;rcases d:Lib.atoiAll (Ea s).data.toList with v|_|_
 .obtain⟨g0,I⟩:=Lib.atoiAll_bounds d;refine(Tryz.strconv_Atoi_ok (Ea s) (by omega) v d W1).mono ?_;rintro e W2 ⟨rfl,a⟩;have a:Below W1.heap.size W1 W2:=by
   rcases a with rfl|⟨t,rfl⟩
   .exact Below.refl _ _
   .exact Lib.bytesWorld_below _ _ _
  have u:=h.below a
  go_wp2_with (first
   |(go_at_call 362;refine(Ic v g0 I _ u).mono ?_;rintro e W3 ⟨rfl,n⟩))
  .rename_i z
   go_ret2
   refine⟨?_,Below.up (Below.up b a) n⟩;have i:((aah v).toList==s.toList)=false:=by simpa using z
   simp only[rG,d];rw[i];rfl
  .rename_i z;have i:((aah v).toList==s.toList)=true:=by simpa using z
   go_wp2
   go_ret2
   refine⟨?_,Below.up (Below.up b a) n⟩;simp only[rG,d];rw[i];rfl
 .obtain⟨ev,F,j⟩:=h.syn;refine(show Calls Tryz.prog 360 #[.string (Ea s)] W1 _ from Any.strconv_Atoi_syntax Tryz.laysC172 (Ea s) (by omega) d ev W1 F j).mono ?_;rintro e W2 ⟨N,rfl,J,hcell,a⟩
  go_wp2
  go_ret2
  refine⟨?_,Below.up b a⟩;simp only[rG,d];rfl
 .obtain⟨ev,F,j⟩:=h.rng;refine(Tryz.strconv_Atoi_range (Ea s) (by omega) d ev W1 F j).mono ?_;rintro e W2 ⟨N,rfl,J,hcell,a⟩
  go_wp2
  go_ret2
  refine⟨?_,Below.up b a⟩;simp only[rG,d];rfl
end
end Go.Proofs.YtpghiabjaglpgaaGreatDoor
namespace Go.AI
open Go.RowKit
def sO{P:Program}{f:FuncId}{args:List V}{s:S}{v:V} (d:∀ ρ w ys,HR ρ s w->br ρ args=some ys->(∀ w,(callFunc f ys.toArray).run P w=.ok (.enter f ys.toArray) w) /\
 Calls P f ys.toArray w λe w'=>∃ y,e=.returned y/\(∀ ρ,den ρ v=some y)/\Below w.heap.size w w'):gP P f args none s ⟨.returned v,none,s⟩:=by
 intro ρ w ys hr h;obtain⟨i,j⟩:=d ρ w ys hr h;refine⟨i,λcs hup=>?_⟩;obtain⟨e,w',fr,⟨y,rfl,k,a⟩,n,o,q⟩:=j cs;exact⟨ρ,w',hr.frame a.size a.block,⟨ρ.le_refl,a.size,a.os,a.tape,a.output,λb hb _=>a.block b hb,λf v l e _=>⟨f,v,l,e,rfl,id⟩⟩,fr,.returned y,k ρ,n,o,q⟩
def mJ{ρ:aS}{s:S}{w:World}(h:HR ρ s w){g:Nat}{cs:List V}(hc:gF s g=some cs):∃(c:Array Value) (e:TypeId) (fz:Nat×Nat),w.heap[g]? = some (.cells c e fz)/\br ρ cs=some c.toList:=by
 unfold gF at hc;split at hc
 .rename_i vers k;split at hc
  .rename_i u n;cases hc;obtain⟨hm,o⟩:=fo n;obtain⟨⟨l,c,e,fz,q,b,h3,r⟩,l',c',e',fz',d,v,j,z⟩:=h.blk _ _ k u hm;rw[q]at d;cases d;rw[v,j]at b;cases b;obtain⟨F,G⟩:=z o;refine⟨c,e,fz,j,lC (by rw[<- G];simp) λi x I=>?_⟩;obtain⟨y,hy,a⟩:=r i x I;refine⟨y,hy,?_⟩;rw[F]at a;rw[akF];simpa using a
  .cases hc
 .cases hc
end Go.AI
namespace Go.Proofs.YtpghiabjaglpgaaGreatDoor
section
open Go.AI Go.RowKit
theorem acn{w:World}{g:Nat}{c:Array Value}{e:TypeId}{fz:Nat×Nat}{v:Value}(h:w.heap[g]? = some (.cells c e fz))(hc:c.toList=[v]):w.cell? ⟨g,0,none⟩=some v:=by
 unfold World.cell?;simp only[h];have:c[0]? = some v:=by rw[<- akF,hc];rfl
 grind
def WD{ρ:aS}{s:S}{w:World}(h:HR ρ s w){g:Nat}(hc:∃ c,gF s g=some c/\zR c=true):∃ ev,w.cell? ⟨g,0,none⟩=some ev/\(ev=.nilIface\/∃ te pe,ev=.iface te pe):=by
 obtain⟨c,a,b⟩:=hc;obtain⟨ca,e,fz,h3,h4⟩:=mJ h a;unfold zR at b
 grind [br,den,acn]
def aal(ρ:aS):br ρ Jo=some (Lib.pow10Tab.map λz=>Value.int .u64 z):=by rfl
def Mo{ρ:aS}{s:S}{w:World}(h:HR ρ s w)(d:wd s):qp w:=by
 have a:∀ w':World,w'.heap[5]? = w.heap[5]?->Lib.TabIs Tryz.prog w' "internal/strconv.uint64pow10" .u64 Lib.pow10Tab:=by
  intro w' hw';obtain⟨c,e,fz,k,i⟩:=mJ h d.pow;rw[aal]at i;unfold Lib.TabIs World.var?;have hn:Tryz.prog.globalNamed "internal/strconv.uint64pow10" = some 5:=by kernel_rfl
  simp_all
 have j:6<=w.heap.size:=by
  obtain⟨ca,e,fz,n,_⟩:=mJ h d.pow
  grind
 refine⟨?_,WD h d.syn,WD h d.rng,a w rfl,j,λw' b=>a w' (b.block 5 (by omega))⟩;obtain⟨c,k,i⟩:=d.mx;obtain⟨ca,e,fz,n,h4⟩:=mJ h k;unfold PR at i
 grind [br,den,acn]
def Hr{args:List V}{s:S}{v:V}{s':S}(h:Bh args s=some (v,s')):gP Tryz.prog 355 args none s ⟨.returned v,none,s'⟩:=by
 unfold Bh at h;split at h
 .rename_i l;split at h
  .rename_i b;cases h;refine sO λρ w ys hr a=>?_;simp only[br,den]at a;cases a;refine⟨λw=>enters_of Tryz.func355 (by kernel_rfl) rfl _ w,(Hq (aR l) ?_ w (Mo hr b.1)).mono ?_⟩
   .have:(aR l).size=l.length:=by unfold aR ByteArray.size;simp
    omega
   .rintro e w' ⟨rfl,hb⟩;exact⟨_,rfl,λρ=>rfl,hb⟩
  .cases h
 .cases h
def JU(c:Nat)(hc:c<256):∀(l:List Nat) (n:Int),0<=n->(∀ x∈l,x<256)->yQ l c n=if Lib.indexByte (l.map UInt8.ofNat) (UInt8.ofNat c)=-1 then -1 else Lib.indexByte (l.map UInt8.ofNat) (UInt8.ofNat c)+n
 |[],n,_,_=>rfl
 |x::l,n,hn,h=>by
  have ih:=JU c hc l (n+1) (by omega) λy hy=>h y (acl _ hy);have hx:=h x adN;have hge:=Lib.indexByte_ge (l.map UInt8.ofNat) (UInt8.ofNat c);have b:(UInt8.ofNat x==UInt8.ofNat c)=Nat.beq x c:=by
   rw[ajF];simp only[apG,Nat.beq_eq];constructor
   .intro h;have:=anL UInt8.toNat h;simp at this;omega
   .rintro rfl;rfl
  simp only[yQ,ads,Lib.indexByte,b];cases hb:Nat.beq x c with
  |true=>simp
  |false =>
   simp only[Xi,aoo,apF];rw[ih];by_cases a:Lib.indexByte (l.map UInt8.ofNat) (UInt8.ofNat c)=-1
   .simp[a]
   .have d:(Lib.indexByte (l.map UInt8.ofNat) (UInt8.ofNat c)==-1)=false:=by simpa using a
    rw[ajD a,d];simp only[aoo,apF];rw[ajD (by omega)];omega
def HE{args:List V}{s:S}{v:V}{s':S}(h:BF args s=some (v,s')):gP Tryz.prog 351 args none s ⟨.returned v,none,s'⟩:=by
 unfold BF at h;split at h
 .rename_i l c;cases hb:Nat.blt c 256&&l.all (λx=>Nat.blt x 256)with
  |false=>rw[hb,Xi]at h;cases h
  |true =>
   rw[hb,ge]at h;cases h;simp only[abk,anN]at hb;have hc:c<256:=apj (act hb.1);have hl:∀ x∈l,x<256:=λx b=>apj (act (hb.2 x b));refine sO λρ w ys hr a=>?_;simp only[br,den]at a;cases a;refine⟨λw=>enters_of Tryz.func351 (by kernel_rfl) rfl _ w,(Tryz.strings_IndexByte (aR l) (Int.ofNat c) w).mono ?_⟩;rintro e w' ⟨rfl,rfl⟩;refine⟨_,rfl,λρ=>?_,Below.refl _ _⟩;have d:(aR l).data.toList=l.map UInt8.ofNat:=by simp[aR]
   have i:yQ l c 0=Lib.indexByte (l.map UInt8.ofNat) (UInt8.ofNat c):=by simp_all[JU]
   rw[d];show some (Value.int .i64 (yQ l c 0))=_;rw[i];rfl
 .cases h
end
section
open Go.AI
def nb{f n:Nat}(h:Nat.beq f n=true):f=n:=abj h
def akC:uA bF:=⟨λf args s v s' h=>by
 change vM f args s=some (v,s')at h;unfold vM at h;cases b:Nat.beq f 351 with
 |true=>rw[b]at h;have:=nb b;subst this;exact HE h
 |false =>
  rw[b,Xi]at h;cases d:Nat.beq f 355 with
  |true=>rw[d]at h;have:=nb d;subst this;exact Hr h
  |false =>
   rw[d,Xi]at h;cases e:Nat.beq f 9 with
   |false=>rw[e]at h;cases h
   |true =>
    rw[e,ge]at h;have:=nb e;subst this;cases args with
    |cons a r=>cases h
    |nil=>cases h;exact LU s⟩
def mK{s s':S}{g:Nat}(h:s'.get g=s.get g):gF s' g=gF s g:=by unfold gF;rw[h]
def ZN(s s':S)(h:∀ f∈[0,1,2,5],s'.get f=s.get f)(k:wd s):wd s':=by obtain⟨⟨c1,a,b⟩,⟨c2,d,e⟩,⟨c3,i,j⟩,n⟩:=k;exact⟨⟨c1,(mK (h 0 (by simp))).trans a,b⟩,⟨c2,(mK (h 1 (by simp))).trans d,e⟩,⟨c3,(mK (h 2 (by simp))).trans i,j⟩,(mK (h 5 (by simp))).trans n⟩
instance anO:gu:=⟨wd,[0,1,2,5],ZN⟩
def Hz{f:FuncId}{vs:List V}{s:S}{v:V}(h:vM f vs s=some (v,s)):lim bF (.call f vs none) s=some ⟨.returned v,none,s⟩:=by
 rw[Vz];have ho:bF.orc f vs s=some (v,s):=h
 grind [fN,Dn]
def uW{g:Gh}(a:Ok g){d:D}{v:V}(h:RD g d v):kb g.s.next g.Pv g ⟨.ret d,none,g.H⟩ ⟨.returned v,none,g.s⟩ :=
 ⟨g,rfl,rfl,rfl,a,.refl _ _,⟨v,rfl,h⟩,rfl⟩
def akA:XQ de:=by
 refine⟨λf h vs s=>?_,λf args H d H' e g n a vs hr=>?_⟩
 .change dvo f=false at h;unfold dvo at h;simp only[aow]at h;show vM f vs s=none
  grind [vM]
 .change afm f args H=some (d,H')at e;subst n;unfold afm at e;cases b:Nat.beq f 351 with
  |true =>
   rw[b,ge]at e;have:=nb b;subst this;split at e
   .rename_i l c;cases hb:Nat.blt c 256&&Nat.ble l.length 1000 with
    |false=>rw[hb]at e;cases e
    |true =>
     rw[hb]at e;cases e;simp only[Go.AI.RL,RD]at hr;obtain⟨_,_,rfl,⟨rfl,hl⟩,_,_,rfl,rfl,rfl⟩:=hr;simp only[abk]at hb;refine⟨_,Hz (v:=.int .i64 (yQ l c 0)) ?_,uW a (by simp only[RD])⟩;show BF [V.str l,V.int IntKind.u8 (Int.ofNat c)] g.s=_;have:(Nat.blt c 256&&l.all λx=>Nat.blt x 256)=true:=by simp_all
     grind [BF]
   .cases e
  |false =>
   rw[b,Xi]at e;cases j:Nat.beq f 355 with
   |true =>
    rw[j,ge]at e;have:=nb j;subst this;split at e
    .rename_i l;cases hb:Nat.ble l.length 1000 with
     |false=>rw[hb]at e;cases e
     |true =>
      rw[hb]at e;cases e;simp only[Go.AI.RL,RD]at hr;obtain⟨_,_,rfl,⟨rfl,hl⟩,rfl⟩:=hr;refine⟨_,Hz (v:=.tuple [.int .i64 (rG (aR l)).1,.int .i64 (rG (aR l)).2]) ?_,uW a ?_⟩
      .show Bh [V.str l] g.s=_;simp only[Bh];rw[akJ ⟨a.gl.i,act hb⟩]
      .simp only[RD,Go.AI.RL]
       grind
    .cases e
   |false =>
    rw[j,Xi]at e;cases k:Nat.beq f 9 with
    |false=>rw[k]at e;cases e
    |true =>
     rw[k,ge]at e;have:=nb k;subst this;split at e
     .cases e;simp only[Go.AI.RL]at hr;subst hr;exact⟨_,Hz (v:=.bool true) rfl,uW a (by simp only[RD])⟩
     .cases e
def ZC{f:FuncId}{args:List D}{X:DH}(h:eW de (.call f args none) []=ret (.bool true) X){g:Gh}(j:g.H=[])(a:Ok g){vs:List V}(hr:Go.AI.RL g args vs) :
 ∃ s',lim bF (.call f vs none) g.s=some ⟨.returned (.bool true),none,s'⟩:=by
 obtain⟨vout,k,g',_,h2,_,_,_,⟨v,d,i⟩,b⟩:=(Nr akA).call.c f args none [] _ h g j a vs none hr rfl;obtain⟨e,up,s⟩:=vout;simp only[RD]at d i b;cases i;simp only[SU]at b;cases b;cases d;exact⟨s,k⟩
end
section
open Go.AI
variable{kind:af->Int}(K:KOk kind)
def vg(kind:af->Int)(n:af)(m:Nat):Bool:=if n==[44] then decide (2<=m)&&decide (m<=4)else kind n==3&&decide (m<=16)
include K
def Vr(n:af)(m:Nat)(H:DH):aq 198 [.str n,.i m] H=ret (.bool (vg kind n m)) H:=by
 refine ev (amt) ?_;simp only[am (zP K _ _),ao,aps,vg]
 repeat' (first|rfl|split)
 all_goals simp_all
 all_goals first|omega|(rw[ajF];simp<;>omega)
def Vs(n:af)(m:Nat)(H:DH):aq 259 [.str n,.i m] H=ret (.bool (vg kind n m)) H:=by
 refine ev (alV) ?_;have hc:=K.c;simp only[am (nq K _ _),ao,aps,vg]
 repeat' (first|rfl|split)
 all_goals simp_all
 all_goals first|omega|(rw[ajF];simp<;>omega)
omit K
section
variable(kind:af->Int)
def Hi(k:Int)(n:af)(m:Nat):Bool:=if k==1 then n==[]&&m==0 else if k==2 then kind n==2&&m==0 else if k==3 then vg kind n m else false
mutual
def oS:Pa->Bool
 |.mk k n xs=>gd xs&&Hi kind k n xs.length
def gd:List Pa->Bool
 |[]=>true
 |t::r=>oS t&&gd r
end
end
theorem oP:∀ l,gd kind l=l.all (oS kind)
 |[]=>rfl
 |t::r=>by simp[gd,oP r]
theorem cm:∀ l,(cG l).length=l.length:=λl=>by rw[mf,abh]
def jb(pre:List Pa)(t:Pa)(suf:List Pa):(cG (pre++t::suf))[pre.length]? = some (eY t):=by rw[mf];exact bz _ _ _ _
include K
mutual
def BQ:∀(t:Pa) (H:DH),t.ok->aq 197 [.agg (eY t)] H=ret (.bool (oS kind t)) H
 |.mk k n xs,H,h=>by simp only[Pa.ok]at h;refine ev (by simp only[eY];exact f197) ?_;exact tU k n xs H h.1 [] xs rfl h.2
def tU(k:Int)(n:af)(xs:List Pa)(H:DH)(hl:xs.length<2^62):∀ pre suf,xs=pre++suf->Pa.oks suf ->
 ac au 197 200002 [.lp 0 0,.n (pre.length:Nat)] [(0,[.i k,.str n,.row 3 (cG xs)])] H=ret (.bool (gd kind suf&&Hi kind k n xs.length)) H
 |pre,[],e,_=>by
  have b:xs.length=pre.length:=by rw[e];simp
  refine aW (xu) ?_;rw[cm,b];simp only[akg,anM,am (tO K _ _),am (Vr K _ _ _),ao,gd,adG,aps,Hi]
  repeat' (first|rfl|split)
  all_goals simp_all
  all_goals first|omega|(rw[ajF];simp<;>omega)
 |pre,t::suf,e,h=>by
  simp only[Pa.oks]at h;refine aW (xu) ?_;have hi:pre.length<xs.length:=by rw[e];simp
  have d:decide ((pre.length:Int)<((cG xs).length:Int))=true:=by rw[cm];simp;exact hi
  have j:(cG xs)[pre.length]? = some (eY t):=by rw[e];exact jb _ _ _
  obtain⟨tk,tn,tas⟩:=t;have a:=BQ (.mk tk tn tas) H h.1;simp only[eY]at a;have ih:=tU k n xs H hl (pre++[.mk tk tn tas]) suf (by rw[e];simp) h.2;rw[d,ge,aI,ak j];simp only[eY,ai,aw,am a,aK,ao,aE (show pre.length<2^62 by omega)]
  grind [gd]
end
mutual
def VY:∀(t:Pa) (H:DH),t.ok->aq 258 [.agg (eY t)] H=ret (.bool (oS kind t)) H
 |.mk k n xs,H,h=>by
  simp only[Pa.ok]at h;refine ev (by simp only[eY];exact alW) ?_;have b:=vB xs h.2;have d:aV bF 258=true:=by kernel_rfl
  have a:=acq d (p:=oS kind) xs h.1 b H;rw[<- mf,<- oP]at a;simp only[am a,am (ph K _ _),cm,am (Vs K _ _ _),ao,aK,aps,oS,Hi];clear b a;generalize gd kind xs=q;cases q<;>simp only[ajI,adG,age,ajM,apn,apF,aoo]
  repeat' (first|rfl|split)
  all_goals simp_all
  all_goals first|omega|(rw[ajF];simp<;>omega)
def vB:∀(l:List Pa),Pa.oks l->∀ t∈l,∀ H',aq 258 [.agg (eY t)] H'=ret (.bool (oS kind t)) H'
 |[],_,t,a,_=>by cases a
 |x::r,h,t,a,H'=>by
  simp only[Pa.oks]at h;rcases afS.mp a with e|a
  .simp_all[VY]
  .exact vB r h.2 t a H'
end
end
section
open Go.AI
variable{kind:af->Int}(K:KOk kind)
def Wh(a b:Nat):((a:Int)==(b:Int))=(a==b):=by rw[ajF];simp only[apG];omega
def tS(a:Nat):((a:Int)==0)=(a==0):=Wh a 0
def abU(a:Nat):((a:Int)==1)=(a==1):=Wh a 1
def abT(a:Nat):((a:Int)==2)=(a==2):=Wh a 2
def JV(a:Nat):decide ((a:Int)>=1)=decide (1<=a):=by rw[ajF];simp;omega
def vG(a:Nat):decide ((a:Int)<=16)=decide (a<=16):=by rw[ajF];simp;omega
def aeo(a:Nat):decide ((a:Int)>16)=!decide (a<=16):=by rw[ajF];simp;omega
theorem aiv(a:Nat):decide ((a:Int)<1)=!decide (1<=a):=by rw[ajF];simp;omega
def abS(a:Nat):decide ((a:Int)>0)=decide (a>0):=by rw[ajF];simp
def aH{R:aJ}{j:EE}{H H':DH}{d:D}{k:D->DH->av}{kp:List iX->DH->av}(h:R j H=ret d H'):bd (R j H) k kp=k d H':=by rw[h];rfl
def FK(l:List af)(hl:l.length<2^62)(s:af)(H:DH):∀ pre suf,l=pre++suf ->
 ∃ n:Int,ac au 318 200002 [.g (.row 1 (l.map gq)),.g (.str s),.n (l.length:Nat),.n (pre.length:Nat)] [] H=ret (.i n) H/\decide (n>=0)=suf.any (λx=>s==x)
 |pre,[],e=>by
  refine⟨-1,aW (wP) ?_,rfl⟩
  grind
 |pre,t::suf,e=>by
  have hi:pre.length<l.length:=by rw[e];simp
  have h1:decide ((pre.length:Int)<(l.length:Int))=true:=by simp;exact hi
  have h2:(l.map gq)[pre.length]? = some (gq t):=by rw[e];exact bz _ _ _ _
  obtain⟨n,ih,hn⟩:=FK l hl s H (pre++[t]) suf (by rw[e];simp);rw[abg,abf]at ih;have key:ac au 318 200002 [.g (.row 1 (l.map gq)),.g (.str s),.n (l.length:Nat),.n (pre.length:Nat)] [] H=cond (s==t) (ret (.i (pre.length:Nat)) H) (ret (.i n) H):=by
   refine aW (wP) ?_
   grind [aI,ak,gq,ai,fw,ao,aE]
  grind
def Mi:List af:=[[43],[45],[42],[47],[37],[60],[61]]
def ZF(n:af):Bool:=Mi.any (λx=>n==x)
def akE(n:af)(H:DH):aq 260 [.row 1 (Mi.map gq),.str n] H=ret (.bool (ZF n)) H:=by obtain⟨i,a,b⟩:=FK Mi (by decide) n H [] Mi rfl;have d:aq 318 [.row 1 (Mi.map gq),.str n] H=ret (.i i) H:=ev (f318) a;exact ev (f260) (by simp only[am d,dW,b];rfl)
def agZ(H:DH):aq 261 [] H=ret (.row 1 (Mi.map gq)) H:=ev (alU) rfl
def akD(n:af)(H:DH):aq 199 [.str n] H=ret (.bool (ZF n)) H:=by
 refine ev (ams) ?_;simp only[aps,ZF,Mi,List.any_cons,List.any_nil,Bool.or_false]
 grind
section
variable(kind:af->Int)
def Kt(k m:Int)(a:af)(p:Nat):Bool:=!(k != 1&&m != 0)&&!(k != 5&&k != 7&&!(a==[]))&&!(k != 8&&decide (p>0))
def nG(k:Int)(n a:af)(m p:Nat):Bool :=
 cond (k==1) (n==[]&&m==0) (cond (k==2) (kind n==2&&m==0) (cond (k==3) (vg kind n m) (cond (k==4) (n==[]&&m==2) (cond (k==5) (n==[]&&(kind a==2&&m==1))
 (cond (k==6) (kind n==2&&m==2) (cond (k==7) (kind n==2&&(kind a==2&&m==2)) (cond (k==8) (n==[]&&(decide (1<=p)&&(decide (p<=16)&&m==p+1))) (cond (k==9) (ZF n&&m==2) false))))))))
mutual
def gL:Ex->Bool
 |.mk k m n a xs ps=>iv xs&&(gd kind ps&&(Kt k m a ps.length&&nG kind k n a xs.length ps.length))
def iv:List Ex->Bool
 |[]=>true
 |t::r=>gL t&&iv r
end
end
def yu:∀ l,iv kind l=l.all (gL kind)
 |[]=>rfl
 |t::r=>by simp[iv,yu r]
theorem bV:∀ l,(cu l).length=l.length:=λl=>by rw[mz,abh]
def je(pre:List Ex)(t:Ex)(suf:List Ex):(cu (pre++t::suf))[pre.length]? = some (cT t):=by rw[mz];exact bz _ _ _ _
include K
def WB(k m:Int)(n a:af)(xs:List Ex)(ps:List Pa)(hp:ps.length<2^62)(H:DH) :
 ac au 131 14 [.lp 0 0,.n xs.length] [(0,(xE k m n a (cu xs) (cG ps)))] H=ret (.bool (nG kind k n a xs.length ps.length)) H:=by
 refine aW (aad) (aW (aac) ?_);simp only[am (tO K _ _),am (Vr K _ _ _),am (akD _ _),ao,cm,aE hp,bp,agb,Wh,tS,abU,abT,JV,vG,nG];try simp only[apH,Bool.and_comm,Bool.and_left_comm]
theorem WC(k m:Int)(n a:af)(xs:List Ex)(ps:List Pa)(hp:ps.length<2^62)(H:DH) :
 ac au 191 6 [.lp 0 0,.n xs.length] [(0,(xE k m n a (cu xs) (cG ps)))] H=ret (.bool (nG kind k n a xs.length ps.length)) H:=by
 refine aW (afi) (aW (afh) ?_);simp only[am (ph K _ _),am (Vs K _ _ _),aH (agZ H),aH (akE _ _),ao,cm,aE hp,bp,agb,Wh,tS,abU,abT,JV,vG,nG];try simp only[apH,Bool.and_comm,Bool.and_left_comm]
mutual
def pm:∀(t:Ex) (H:DH),t.ok->aq 131 [.agg (cT t)] H=ret (.bool (gL kind t)) H
 |.mk k m n a xs ps,H,h=>by simp only[Ex.ok]at h;refine ev (by simp only[cT];exact amT) ?_;exact qU k m n a xs ps H h.1 h.2.2.1 h.2.2.2 [] xs rfl h.2.1
def qU(k m:Int)(n a:af)(xs:List Ex)(ps:List Pa)(H:DH)(hl:xs.length<2^62)(hp:ps.length<2^62)(b:Pa.oks ps):∀ pre suf,xs=pre++suf->Ex.oks suf ->
 ac au 131 200002 [.lp 0 0,.n (pre.length:Nat)] [(0,(xE k m n a (cu xs) (cG ps)))] H=ret (.bool (iv kind suf&&(gd kind ps&&(Kt k m a ps.length&&nG kind k n a xs.length ps.length)))) H
 |pre,[],e,_=>by
  have d:xs.length=pre.length:=by rw[e];simp
  refine aW (xR) ?_;rw[bV,d,<- d];simp only[akg,anM,Xi,iv,adG];exact qT k m n a xs ps H hp [] ps rfl b
 |pre,t::suf,e,h=>by
  simp only[Ex.oks]at h;refine aW (xR) ?_;have hi:pre.length<xs.length:=by rw[e];simp
  have j:decide ((pre.length:Int)<((cu xs).length:Int))=true:=by rw[bV];simp;exact hi
  have o:(cu xs)[pre.length]? = some (cT t):=by rw[e];exact je _ _ _
  obtain⟨tk,tm,tn,ta,tas,tps⟩:=t;have i:=pm (.mk tk tm tn ta tas tps) H h.1;simp only[cT]at i;have ih:=qU k m n a xs ps H hl hp b (pre++[.mk tk tm tn ta tas tps]) suf (by rw[e];simp) h.2;rw[j,ge,aI,ak o];simp only[cT,ai,aw,am i,aK,ao,aE (show pre.length<2^62 by omega)]
  grind [iv]
def qT(k m:Int)(n a:af)(xs:List Ex)(ps:List Pa)(H:DH)(hp:ps.length<2^62):∀ pre suf,ps=pre++suf->Pa.oks suf ->
 ac au 131 200007 [.lp 0 0,.n (pre.length:Nat)] [(0,(xE k m n a (cu xs) (cG ps)))] H=ret (.bool (gd kind suf&&(Kt k m a ps.length&&nG kind k n a xs.length ps.length))) H
 |pre,[],e,_=>by
  have d:ps.length=pre.length:=by rw[e];simp
  refine aW (xQ) ?_;rw[cm,<- d];have i:=WB K k m n a xs ps hp H;simp only[akg,anM,Xi,bV,i,gd,adG,Kt,abS]
  grind
 |pre,t::suf,e,h=>by
  simp only[Pa.oks]at h;refine aW (xQ) ?_;have hi:pre.length<ps.length:=by rw[e];simp
  have j:decide ((pre.length:Int)<((cG ps).length:Int))=true:=by rw[cm];simp;exact hi
  have o:(cG ps)[pre.length]? = some (eY t):=by rw[e];exact jb _ _ _
  have b:=BQ K t H h.1;have ih:=qT k m n a xs ps H hp (pre++[t]) suf (by rw[e];simp) h.2;obtain⟨tk,tn,tas⟩:=t;simp only[eY]at b;rw[j,ge,aI,ak o];simp only[eY,ai,aw,am b,aK,ao,aE (show pre.length<2^62 by omega)]
  grind [gd]
end
mutual
def vD:∀(t:Ex) (H:DH),t.ok->aq 191 [.agg (cT t)] H=ret (.bool (gL kind t)) H
 |.mk k m n a xs ps,H,h=>by
  simp only[Ex.ok]at h;refine ev (by simp only[cT];exact amy) ?_;have b:=BD xs h.2.1;have d:aV bF 191=true:=by kernel_rfl
  have e:=ajt d (p:=gL kind) xs h.1 b H;have i:aV bF 258=true:=by kernel_rfl
  have h5:=acq i (p:=oS kind) ps h.2.2.1 (vB K ps h.2.2.2) H;rw[<- mz,<- yu]at e
  grind [mf,oP,WC,am,ao,aK,cm,bV,gL,Kt]
def BD:∀(l:List Ex),Ex.oks l->∀ t∈l,∀ H',aq 191 [.agg (cT t)] H'=ret (.bool (gL kind t)) H'
 |[],_,t,a,_=>by cases a
 |x::r,h,t,a,H'=>by
  simp only[Ex.oks]at h;rcases afS.mp a with e|a
  .simp_all[vD]
  .exact BD r h.2 t a H'
end
end
section
open Go.AI
variable{kind:af->Int}(K:KOk kind)
section
variable(kind:af->Int)
def sq(c:Co):Bool:=kind c.n==3&&(decide (c.xs.length<=16)&&gG kind c.xs)
def Dd(d:Da):Bool:=kind d.n==3&&(decide (d.vs.length<=16)&&(d.vs.all (λs=>kind s==4)&&(decide (1<=d.cs.length)&&(decide (d.cs.length<=16)&&d.cs.all (sq kind)))))
end
def jK{P:Program}{ty el:TypeId}{sz:Nat}(h1:P.underlying ty=some (.slice el))(h2:size P el=some sz){l:aQ}{i:Nat}{cs:List D}{κ:D->av}(h:l[i]? = some cs):ay P ty (.row sz l) (.i i) κ=κ (.eptr cs 0):=by grind [ay,MT,Nat.beq_refl,aI,ak]
theorem dR{P:Program}{ty el:TypeId}(a:P.underlying ty=some (.slice el))(sz:Nat)(l:aQ)(H:DH){κ:D->av}:aP P ty (.row sz l) H κ=κ (.i l.length):=by rw[aP,a]
theorem lY:Tryz.prog.underlying 142=some (.slice 144):=by kernel_rfl
def Jd:size ab 144=some 2:=by kernel_rfl
def ww(a b:D)(H:DH){κ:D->av}:bJ ab 144 (.eptr [a,b] 0) H κ=κ (.agg [a,b]):=by kernel_rfl
include K
def ZG(c:Co)(H:DH)(h:c.ok):aq 248 [.agg (lF c)] H=ret (.bool (sq kind c)) H:=by
 obtain⟨n,xs⟩:=c;obtain⟨b,d⟩:=h;refine ev (amg) ?_;have e:aV bF 188=true:=by kernel_rfl
 have a:=acp e (p:=mL kind) xs b (rT K xs d) H;rw[<- jg,<- oA]at a;simp only[am (nq K _ _),am a,ao,bU,bp,agb,vG,sq]
def Sa(d:Da)(H:DH)(h:d.ok):aq 186 [.agg (daC d)] H=ret (.bool (Dd kind d)) H:=by
 obtain⟨n,vs,cs⟩:=d;obtain⟨a,b,e⟩:=h;refine ev (amD) ?_;have i:aV bF 251=true:=by kernel_rfl
 have j:aV bF 248=true:=by kernel_rfl
 have k:=ajr i (p:=λs=>kind s==4) vs a (λt _ H'=>PQ K t H') H;have o:=ajv j (p:=sq kind) cs b (λt q H'=>ZG K t H' (e t q)) H;simp only[am (nq K _ _),am k,am o,ao,abh,bp,agb,vG,JV,Dd]
def tW(n:af)(vs:List af)(cs:List Co)(ic:Nat)(cn:af)(xs:List Ty)(H:DH)(hl:xs.length<2^62):∀ pre suf,xs=pre++suf->Ty.oks suf ->
 ac au 128 200015 [.lp 0 0,.n ic,.lp 1 0,.n (pre.length:Nat)] [(0,[.str n,.row 1 (vs.map gq),.row 2 (cs.map lF)]),(0,[.str cn,.row 2 (cE xs)])] H
  = cond (gG kind suf) (ac au 128 200009 [.lp 0 0,.n (bm ((ic:Int)+1))] [(0,[.str n,.row 1 (vs.map gq),.row 2 (cs.map lF)])] H) (ret (.bool false) H)
 |pre,[],e,_=>by
  have e2:xs.length=pre.length:=by rw[e];simp
  refine aW (xU) ?_;simp_all[dR,bU,aN,akg,ao,gG]
 |pre,t::suf,e,h=>by
  simp only[Ty.oks]at h;refine aW (xU) ?_;have hi:pre.length<xs.length:=by rw[e];simp
  have d:decide ((pre.length:Int)<((cE xs).length:Int))=true:=by rw[bU];simp;exact hi
  have a:(cE xs)[pre.length]? = some (dL t):=by rw[e];exact hQ _ _ _
  have b:=pj K t H h.1;have ih:=tW n vs cs ic cn xs H hl (pre++[t]) suf (by rw[e];simp) h.2;obtain⟨tn,tas⟩:=t;simp only[dL]at b a;simp only[dR lY,aN,d,ao,ge,jK lY Jd a,ww,am b,aK,aE (show pre.length<2^62 by omega)]
  grind [gG]
def qW(n:af)(vs:List af)(cs:List Co)(H:DH)(hl:cs.length<2^62):∀ pre suf,cs=pre++suf->(∀ c∈suf,c.ok) ->
 ac au 128 200009 [.lp 0 0,.n (pre.length:Nat)] [(0,[.str n,.row 1 (vs.map gq),.row 2 (cs.map lF)])] H=ret (.bool (suf.all (sq kind))) H
 |pre,[],e,_=>by
  have e2:cs.length=pre.length:=by rw[e];simp
  refine aW (xW) ?_
  grind
 |pre,c::suf,e,h=>by
  refine aW (xW) ?_;have hi:pre.length<cs.length:=by rw[e];simp
  have d:decide ((pre.length:Int)<((cs.map lF).length:Int))=true:=by rw[abh];simp;exact hi
  have i:(cs.map lF)[pre.length]? = some (lF c):=by rw[e];exact bz _ _ _ _
  have hc:=h c (adN ..);have ih:=qW n vs cs H hl (pre++[c]) suf (by rw[e];simp) (λx j=>h x (acl _ j));simp only[abg,abf]at ih;obtain⟨cn,xs⟩:=c;obtain⟨a,b⟩:=hc;have ht:=tW K n vs cs pre.length cn xs H a [] xs rfl b;rw[d,ge,aI,ak i];simp only[lF,ai,aw,am (zP K _ _),aK,ao,dR lY,bU,er,aeo]
  grind [aE,sq]
def qV(n:af)(vs:List af)(cs:List Co)(H:DH)(hl:vs.length<2^62)(hc:cs.length<2^62)(hk:∀ c∈cs,c.ok):∀ pre suf,vs=pre++suf ->
 ac au 128 200004 [.lp 0 0,.n (pre.length:Nat)] [(0,[.str n,.row 1 (vs.map gq),.row 2 (cs.map lF)])] H=ret (.bool (suf.all (λs=>kind s==4)&&cs.all (sq kind))) H
 |pre,[],e=>by
  have a:vs.length=pre.length:=by rw[e];simp
  refine aW (xX) ?_;simp only[abh,a,akg,anM,Xi,apt,adG];exact qW K n vs cs H hc [] cs rfl hk
 |pre,c::suf,e=>by
  refine aW (xX) ?_;have hi:pre.length<vs.length:=by rw[e];simp
  have h1:decide ((pre.length:Int)<((vs.map gq).length:Int))=true:=by rw[abh];simp;exact hi
  have h2:(vs.map gq)[pre.length]? = some (gq c):=by rw[e];exact bz _ _ _ _
  have ih:=qV n vs cs H hl hc hk (pre++[c]) suf (by rw[e];simp)
  grind [List.length_singleton,aI,ak,gq,ai,am,PP,aK,ao,aE]
def Kc(d:Da)(H:DH)(h:d.ok):aq 128 [.agg (daC d)] H=ret (.bool (Dd kind d)) H:=by
 obtain⟨n,vs,cs⟩:=d;obtain⟨a,b,e⟩:=h;refine ev (amV) ?_;have hv:ac au 128 200004 [.lp 0 0,.n 0] [(0,[.str n,.row 1 (vs.map gq),.row 2 (cs.map lF)])] H=_:=qV K n vs cs H a b e [] vs rfl
 grind [am,zP,aK,ao,List.length_map,aiv,Dd]
