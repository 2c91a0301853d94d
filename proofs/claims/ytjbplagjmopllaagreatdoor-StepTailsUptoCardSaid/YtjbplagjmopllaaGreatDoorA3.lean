/- Lemmas. No conditions. -/
import Derived.Test.YtjbplagjmopllaaGreatDoorS1
import Derived.Test.YtjbplagjmopllaaGreatDoorS2
import Derived.IntWalk
set_option linter.all false
noncomputable section
namespace Go.Proofs.YtjbplagjmopllaaGreatDoor
open Go.AI
def RE:List lN:=[uZ,uY,uX,uW,uV,uU,uT,uS]
def VD:dI:={ P:=Tryz.prog,ext:=FA.ext,orc:=λf args s=>match iD 142 kinds f args s with|some x=>some x|none=>xY RE f args s }
theorem agf:ut VD:=by
 refine⟨λf args s v s' h=>?_⟩;simp only[VD]at h;split at h
 .rename_i x c;cases h;exact EI.call f args s v s' c
 .obtain⟨k,hm,rfl,rfl,a,rfl,rfl⟩:=tF h;simp only[RE,abn,akh,or_false]at hm;rcases hm with rfl|rfl|rfl|rfl|rfl|rfl|rfl|rfl
  .exact ec (E:=pO) (gW rfl rfl) EI (eH rfl rfl) afV a
  .exact ec (E:=pO) (gW rfl rfl) EI (eH rfl rfl) afU a
  .exact ec (E:=pO) (gW rfl rfl) EI (eH rfl rfl) afT a
  .exact ec (E:=pO) (gW rfl rfl) EI (eH rfl rfl) afS a
  .exact ec (E:=pO) (gW rfl rfl) EI (eH rfl rfl) afR a
  .exact ec (E:=pO) (gW rfl rfl) EI (eH rfl rfl) afQ a
  .exact ec (E:=pO) (gW rfl rfl) EI (eH rfl rfl) afP a
  .exact ec (E:=pO) (gW rfl rfl) EI (eH rfl rfl) afO a
theorem PV:uL VD 4000 6 [] (.bool true)=true:=by kernel_rfl
theorem Jx(s:S):gu Tryz.prog 6 [] none s ⟨.returned (.bool true),none,s⟩:=ju (E:=VD) (gW rfl rfl) agf (eH rfl rfl) PV rfl rfl s
end Go.Proofs.YtjbplagjmopllaaGreatDoor
namespace Go.AI
section
def In(m:Nat):List Nat->Nat
 |[]=>0
 |e::r=>bif m.testBit e then 1 else In m r+1
def pj(ms:List Nat)(effs m:Nat)(H:List Nat):List (Nat×Oper)->Nat->Option (List (Option Nat×Nat)×Nat)
 |[],done=>some ([],done)
 |(i,_)::r,done =>
  bif !(m.testBit i)||done.testBit i then pj ms effs m H r done
  else bif effs.testBit i then none
  else match pj ms effs m H r (Nat.lor done (Nat.pow 2 i))with
   |some (l,d)=>some ((some (In (ms.getD i 0) H),i)::l,d)
   |none=>none
def sk(ms:List Nat)(effs n:Nat)(all:List (Nat×Oper)):List (Nat×Oper)->List Nat->Nat->Option (List (Option Nat×Nat))
 |[],H,done=>match pj ms effs (Nat.pow 2 n - 1) H all done with
  |some (l,_)=>some l
  |none=>none
 |(i,_)::r,H,done=>match pj ms effs (ms.getD i 0) H all done with
  |some (l,d)=>bif !(d.testBit i)&&effs.testBit i then(match sk ms effs n all r (i::H) (Nat.lor d (Nat.pow 2 i))with
   |some l2=>some (l++(none,i)::l2)
   |none=>none)else none
  |none=>none
def PT(P:Program)(ops:Array Oper):Option (List (Option Nat×Nat)):=match Qs P ops with
 |some ⟨ms,l,es,mask⟩=>sk ms mask ops.size l es [ops.size] 0
 |none=>none
def mr(E:dI)(a:List S)(t:T V)(s:S)(o:Oper):Nat->Option (V×S)
 |0=>sF s (dC E t s o)
 |1=>sY s (gL E t o a)
 |2=>xA (dC E t s o)
 |_=>none
def kh(E:dI)(a:List S)(t:T V)(s:S)(o:Oper):Option Bool->Option (V×S)
 |some true=>mr E a t s o (aL E.P o.op)
 |some false=>some (V.undef,s)
 |none=>none
def HV(t:T V):Option Tmp->T V
 |some d=>t.setK none (eX d) id
 |none=>t
def iA(E:dI)(ops:Array Oper)(rec:iK)(ds:List eO)(up:Option Md):List (Option Nat×Nat)->List S->T V->S->Option kO
 |[],_,t,s=>some (.on t ds up s)
 |(c,i)::r,a,t,s=>match ops[i]? with
  |none=>none
  |some o=>match c with
   |some c=>match kh E (a.take c) t s o (bT ops t o)with
    |some (v,s)=>iA E ops rec ds up r a (putD t o.dst v) s
    |none=>none
   |none=>match gX E rec t s o (bT ops t o)with
    |some (.val v s')=>bif Nat.ble s.next s'.next then iA E ops rec ds up r (s'::a) (putD t o.dst v) s' else none
    |some (.pan c s')=>(match r with|[]=>some (.panicked c (HV t o.dst) ds up s')|_::_=>none)
    |none=>none
theorem we(m:Nat):∀(h:List (Nat×S)),pF m h=(h.map (·.2)).take (In m (h.map (·.1)))
 |[]=>rfl
 |(e,s)::r=>by
  simp only[pF,acg,In];cases m.testBit e with
  |true=>simp
  |false=>simp[we m r]
theorem HF{E:dI}{h:List (Nat×S)}{m:Nat}{t:T V}{s:S}{o:Oper}(b:Option Bool):jQ E h m t s o b=kh E ((h.map (·.2)).take (In m (h.map (·.1)))) t s o b:=by
 cases b with
 |none=>rfl
 |some b=>cases b with
  |false=>rfl
  |true =>
   simp only[jQ,kh];unfold Fl mr;rw[we];generalize aL E.P o.op=q;match q with
   |0=>rfl
   |1=>rfl
   |2=>rfl
   |_+3=>rfl
theorem tf{E:dI}{ops:Array Oper}{rec:iK}{ds:List eO}{up:Option Md}{ms:List Nat}{effs m:Nat}{a:List (Nat×S)} :
 ∀(l:List (Nat×Oper)) (done:Nat) (t:T V) (s:S),(∀ x∈l,ops[x.1]? = some x.2)->∀ sc d,pj ms effs m (a.map (·.1)) l done=some (sc,d)->∀(rest:List (Option Nat×Nat)),
  iA E ops rec ds up (sc++rest) (a.map (·.2)) t s=match cz E ops ms effs a m l done t s with
   |some (_,t,s)=>iA E ops rec ds up rest (a.map (·.2)) t s
   |none=>none
 |[],done,t,s,_,sc,d,h,rest=>by cases h;rfl
 |(i,o)::l,done,t,s,c,sc,d,h,rest=>by
  simp only[pj]at h;simp only[cz];cases hb:(!(m.testBit i)||done.testBit i)with
  |true =>rw[hb]at h;simp only[ge]at h ⊢;exact tf l done t s (λx j=>c x (abi _ j)) sc d h rest
  |false =>
   rw[hb]at h;simp only[SE]at h ⊢;cases k:effs.testBit i with
   |true=>rw[k]at h;cases h
   |false =>
    rw[k]at h;simp only[SE]at h ⊢;split at h
    .rename_i l1 d1 hp;cases h;simp only[agp,iA];have ho:ops[i]? = some o:=c (i,o) (by simp);rw[ho];simp only;rw[<- HF];cases jQ E a (ms.getD i 0) t s o (bT ops t o)with
     |none=>rfl
     |some x =>obtain⟨v,s1⟩:=x;simp only[cI];exact tf l _ _ s1 (λx j=>c x (abi _ j)) l1 _ hp rest
    .cases h
theorem rL{E:dI}{ops:Array Oper}{ms:List Nat}{effs m:Nat}{a:List (Nat×S)}:∀(l:List (Nat×Oper)) (done:Nat) (t:T V) (s:S) sc d,pj ms effs m (a.map (·.1)) l done=some (sc,d) ->
 ∀ c t' s',cz E ops ms effs a m l done t s=some (c,t',s')->c=d
 |[],done,t,s,sc,d,h,c,t',s',e=>by cases h;cases e;rfl
 |(i,o)::l,done,t,s,sc,d,h,c,t',s',e=>by
  simp only[pj]at h;simp only[cz]at e;cases hb:(!(m.testBit i)||done.testBit i)with
  |true =>rw[hb]at h e;exact rL l done t s sc d h c t' s' e
  |false =>
   rw[hb]at h e;simp only[SE]at h e;cases j:effs.testBit i with
   |true=>rw[j]at h;cases h
   |false =>
    rw[j]at h e;simp only[SE]at h e;split at h
    .rename_i l1 d1 hp;cases h;split at e
     .rename_i v s1 hf;rw[cI]at e;exact rL l _ _ s1 l1 d hp c t' s' e
     .cases e
    .cases h
theorem CR{ms:List Nat}{effs m:Nat}{H:List Nat}:∀(l:List (Nat×Oper)) (done d:Nat),pj ms effs m H l done=some ([],d)->∀ x∈l,(!(m.testBit x.1)||done.testBit x.1)=true
 |[],_,_,_,x,a=>by cases a
 |(i,o)::l,done,d,h,x,a=>by
  simp only[pj]at h;cases hb:(!(m.testBit i)||done.testBit i)with
  |true =>
   rw[hb]at h;rcases abn.1 a with rfl|a
   .exact hb
   .exact CR l done d h x a
  |false =>
   rw[hb]at h;simp only[SE]at h;cases c:effs.testBit i with
   |true=>rw[c]at h;cases h
   |false =>rw[c]at h;simp only[SE]at h;split at h<;>cases h
theorem qZ{E:dI}{ops:Array Oper}{ms:List Nat}{effs m:Nat}{a:List (Nat×S)}:∀(l:List (Nat×Oper)) (done:Nat) (t:T V) (s:S),(∀ x∈l,(!(m.testBit x.1)||done.testBit x.1)=true)->cz E ops ms effs a m l done t s=some (done,t,s)
 |[],_,_,_,_=>rfl
 |(i,o)::l,done,t,s,h=>by simp only[cz];rw[h (i,o) (by simp),ge];exact qZ l done t s λx c=>h x (abi _ c)
theorem DK{done:Nat}:∀(l:List (Nat×Oper)) (t:T V),(∀ x∈l,done.testBit x.1=true)->dU done l t=t
 |[],_,_=>rfl
 |(i,o)::l,t,h=>by simp only[dU];rw[h (i,o) (by simp),ge];exact DK l t λx a=>h x (abi _ a)
theorem HU{done i:Nat}{o:Oper}:∀(l:List (Nat×Oper)) (t:T V),(l.map (·.1)).Nodup->(i,o)∈l->(∀ x∈l,x.1≠i->done.testBit x.1=true)->done.testBit i=false->dU done l t=HV t o.dst
 |(k,q)::l,t,a,hm,h,hi=>by
  simp only[dU];rw[acg,List.nodup_cons]at a;by_cases hk:k=i
  .subst hk;have m:q=o:=by
    rcases abn.1 hm with e|e
    .cases e;rfl
    .exact absurd (aiH.2 ⟨_,e,rfl⟩) a.1
   subst m;have j:∀ t:T V,dU done l t=t:=λt=>DK l t λx c=>h x (abi _ c) λe=>a.1 (e▸aiH.2 ⟨x,c,rfl⟩);rw[hi,SE];cases q.dst with
   |none=>simp only[j];rfl
   |some d=>simp only[T.setK_eq,j,HV];rfl
  .rw[h (k,q) (by simp) hk,ge];refine HU l t a.2 ?_ (λx c=>h x (abi _ c)) hi;rcases abn.1 hm with e|e
   .cases e;exact absurd rfl hk
   .exact e
theorem CY:∀(l:List Oper) (n:Nat),∀ x∈cS l n,n<=x.1
 |[],_,x,h=>by cases h
 |o::l,n,x,h=>by
  rcases abn.1 h with rfl|h
  .exact aaW _
  .have:=CY l (n+1) x h;omega
theorem tp:∀(l:List Oper) (n:Nat),((cS l n).map (·.1)).Nodup
 |[],_=>List.nodup_nil
 |o::l,n=>by rw[cS,acg,List.nodup_cons];refine⟨λh=>?_,tp l (n+1)⟩;obtain⟨x,a,e⟩:=aiH.1 h;have:=CY l (n+1) x a;simp only at e;omega
theorem DG{E:dI}{ops:Array Oper}{rec:iK}{ds:List eO}{up:Option Md}{ms:List Nat}{effs:Nat}{all:List (Nat×Oper)}(j:∀ x∈all,ops[x.1]? = some x.2)(w:(all.map (·.1)).Nodup) :
 ∀(es:List (Nat×Oper)),(∀ x∈es,x∈all)->∀(a:List (Nat×S)) (done:Nat) (t:T V) (s:S) sc,sk ms effs ops.size all es (a.map (·.1)) done=some sc ->
  ∀ rr,iA E ops rec ds up sc (a.map (·.2)) t s=some rr->gJ E ops ms effs all rec ds up es a done t s=some rr
 |[],_,a,done,t,s,sc,h,rr,e=>by
  simp only[sk]at h;simp only[gJ];split at h
  .rename_i l d hp;cases h;have:=tf (E:=E) (rec:=rec) (ds:=ds) (up:=up) all done t s j _ _ hp [];rw[afq]at this;rw[this]at e;rw[<- e];cases cz E ops ms effs a (Nat.pow 2 ops.size - 1) all done t s with
   |none=>rfl
   |some x=>rfl
  .cases h
 |(i,o)::r,n,a,done,t,s,sc,h,rr,e=>by
  simp only[sk]at h;simp only[gJ];split at h
  .rename_i l d hp;cases hb:(!(d.testBit i)&&effs.testBit i)with
   |false=>rw[hb]at h;cases h
   |true =>
    rw[hb]at h;simp only[ge]at h;split at h
    .rename_i l2 k;cases h;rw[tf (E:=E) (rec:=rec) (ds:=ds) (up:=up) all done t s j _ _ hp]at e;cases p:cz E ops ms effs a (ms.getD i 0) all done t s with
     |none=>rw[p]at e;cases e
     |some x =>
      obtain⟨z,q,s1⟩:=x;have Q:=rL all done t s _ _ hp _ _ _ p;subst Q;rw[p]at e;simp only[iA]at e;have ho:ops[i]? = some o:=j _ (n (i,o) (by simp));rw[ho]at e;simp only at e ⊢;cases hst:gX E rec q s1 o (bT ops q o)with
      |none=>rw[hst]at e;cases e
      |some y=>cases y with
       |val v s2 =>
        rw[hst]at e;simp only[cI,akq,hb,aiJ]at e ⊢;cases M:Nat.ble s1.next s2.next with
        |false=>rw[M]at e;cases e
        |true =>rw[M]at e;simp only[ge]at e ⊢;exact DG j w r (λx u=>n x (abi _ u)) ((i,s2)::a) _ _ s2 l2 k rr e
       |pan c s2 =>
        rw[hst]at e;simp only at e ⊢;simp only[aaV,aiG]at hb;cases l2 with
        |cons x l2=>cases e
        |nil =>
         have H:∃ N,pj ms effs (Nat.pow 2 ops.size - 1) (i::a.map (·.1)) all (Nat.lor z (Nat.pow 2 i))=some ([],N):=by
          cases r with
          |nil =>
           simp only[sk]at k;split at k
           .rename_i l3 I F;cases k;exact⟨I,F⟩
           .cases k
          |cons x r =>
           obtain⟨xi,xo⟩:=x;simp only[sk]at k;split at k
           .rename_i l3 I F;cases G:(!(I.testBit xi)&&effs.testBit xi)with
            |false=>rw[G]at k;cases k
            |true =>
             rw[G,ge]at k;split at k
             .simp at k
             .cases k
           .cases k
         obtain⟨N,F⟩:=H;have A:∀ x∈all,x.1≠i->z.testBit x.1=true:=λx u m=>by
          have O:=CR all _ _ F x u;have J:x.1<ops.size:=by
           have:=j x u;rcases aiU x.1 ops.size with h|h
           .exact h
           .rw[ajb h]at this;cases this
          have hm:(Nat.pow 2 ops.size - 1).testBit x.1=true:=by show(2 ^ ops.size - 1).testBit x.1=true;rw[Nat.testBit_two_pow_sub_one];simpa using J
          rw[hm,gG]at O;simpa[aks m]using O
         have K:cz E ops ms effs a (dT ms i all) all z q s1=some (z,q,s1):=qZ all z q s1 λx u=>by
          by_cases m:x.1=i
          .have:(dT ms i all).testBit x.1=false:=by rw[<- Bool.not_eq_true];intro G;exact(nN.1 G).2.2 m
           rw[this];rfl
          .rw[A x u m,aka]
         rw[hb.1,SE,K,LX,HU all q w (n (i,o) (by simp)) A hb.1];exact e
    .cases h
  .cases h
theorem EA{E:dI}{ops:Array Oper}{sc:List (Option Nat×Nat)}(h:PT E.P ops=some sc)(rec:iK)(recR:Cx)(t:T V)(ds:List eO)(up:Option Md)(s:S) :
 ∀ rr,iA E ops rec ds up sc [s] t s=some rr->iS E ops rec recR t ds up s=some rr:=by
 intro rr e;unfold PT at h;unfold iS;split at h
 .rename_i ms l es mask hp;rw[hp];simp only;have hl:l=cS ops.toList 0/\es=tT E.P (cS ops.toList 0):=by
   simp only[Qs]at hp
   grind
  obtain⟨rfl,rfl⟩:=hl;have c:∀ x∈cS ops.toList 0,ops[x.1]? = some x.2:=λx d=>eh.1 (by obtain⟨a,b⟩:=x;exact d);exact DG c (tp _ _) _ (λx d=>(ajn.1 d).1) [(ops.size,s)] 0 t s sc h rr e
 .cases h
noncomputable section
inductive D where
 |bool (b:Bool)
 |int (k:IntKind) (n:Int)
 |str (s:List Nat)
 |ptr (o c:Nat)
 |eptr (cs:List D) (c:Nat)
 |bptr (o n i c:Nat)
 |tptr (o s i c:Nat)
 |nilptr
 |row (sz:Nat) (l:List (List D))
 |buf (sz o n:Nat)
 |tb (sz o s k:Nat)
 |nilrow
 |map (o:Nat)
 |nilmap
 |func (fn:FuncId) (first captured:List D)
 |nilFunc
 |iface (t:TypeId) (d:D)
 |nilIface
 |agg (cs:List D)
 |tuple (ds:List D)
 |yld (o:Nat)
 |abool
 deriving Inhabited
inductive LD where
 |g (d:D)
 |lp (k c:Nat)
 |u
 deriving Inhabited
inductive DB where
 |dead
 |cells (st:Nat) (cs:List D)
 |buf (sz:Nat) (st cap:Bool) (l:List (List D))
 |tbuf (sz s:Nat) (l:List (List D))
 |map (es:List (D×D))
 |coll
 |loop (rdy:Bool) (f:FuncId) (nt:Nat) (t:T LD) (ps:Array Tmp) (a b:Code)
 |opq
 deriving Inhabited
structure fX where
 v:D
 recovered:Bool
inductive fg where
 |run
 |returning
 |panicking (c:List fX)
 |round (o:Nat)
structure afk where
 fn:FuncId
 captured:List D
 args:List D
inductive sv where
 |call (d:afk)
 |coll (o:Nat)
inductive CB where
 |ret (d:D)
 |pan (c:List fX)
abbrev DH:=List DB
abbrev LS:=List (Nat×List D)
structure jg where
 e:CB
 up:Option fg
 H:DH
abbrev ai:=Option jg
inductive BS where
 |val (d:LD) (L:LS) (H:DH)
 |skip (L:LS) (H:DH)
 |enter (f:FuncId) (args:List D) (L:LS) (H:DH)
 |defer (d:afk) (L:LS) (H:DH)
 |recover (L:LS) (H:DH)
 |panic (d:D) (L:LS) (H:DH)
 |round (o:Nat) (args:List D) (L:LS) (H:DH)
inductive Hk where
 |fz (sz:Nat)
 |acc (sz:Nat)
structure iL where
 cuts:List (Nat×List Nat×List Nat)
 esc:List Nat
 hooks:List (Nat×List (Nat×Hk))
 rfz:List (Nat×Nat×Hk)
 trim:Bool
def iL.no:iL:=⟨[],[],[],[],false⟩
structure dg where
 E:dI
 an:T iL
 orc:FuncId->List D->DH->Option (D×DH)
 vo:FuncId->Bool
def dg.ann(E:dg)(f:FuncId):iL:=match E.an.get (eX f)with
 |some a=>a
 |none=>iL.no
def VL:V->Option D
 |.bool b=>some (.bool b)
 |.int k n=>some (.int k n)
 |.str l=>bif l.all (λc=>Nat.blt c 256)then some (.str l)else none
 |.nilptr=>some .nilptr
 |.nilslice=>some .nilrow
 |.nilmap=>some .nilmap
 |.func fn a b=>match fn with
  |.func f=>bif a.isEmpty&&b.isEmpty then some (.func f [] [])else none
  |_=>none
 |.nilFunc=>some .nilFunc
 |.nilIface=>some .nilIface
 |_=>none
def MX:List V->Option (List D)
 |[]=>some []
 |v::r=>match VL v with
  |some d=>match MX r with
   |some l=>some (d::l)
   |none=>none
  |none=>none
def dOf:V->Option D
 |.agg cs=>match MX cs with
  |some l=>some (.agg l)
  |none=>none
 |v=>VL v
def D.cells:D->List D
 |.agg cs=>cs
 |d=>[d]
def qW(P:Program)(t:TypeId):Option D:=match zero P t with
 |some z=>dOf z
 |none=>none
def iF(t:T LD):Operand->Option LD
 |.tmp i=>t.get (eX i)
 |.const v=>match V.ofConst v with
  |some v=>match dOf v with
   |some d=>some (.g d)
   |none=>none
  |none=>none
 |.global _=>none
 |.func f=>some (.g (.func f [] []))
def mq:Unit:=(λ_=>()) @iA
def T.setQ{α β:Type}(x:Option α)(p:BQ)(t:T α)(k:T α->β):β:=(λ_ =>
 BQ.rec (motive:=λ_=>T α->(T α->β)->β)
  (λt k=>T.rec (motive:=λ_=>β) (k (.node .leaf x .leaf)) (λl _ r _ _=>k (.node l x r)) t)
  (λ_ ih t k=>T.rec (motive:=λ_=>β) (ih .leaf λt=>k (.node t none .leaf)) (λl v r _ _=>ih l λt=>k (.node t v r)) t)
  (λ_ ih t k=>T.rec (motive:=λ_=>β) (ih .leaf λt=>k (.node .leaf none t)) (λl v r _ _=>ih r λt=>k (.node l v t)) t) p t k) mq
theorem T.setQ_eq{α β:Type}(x:Option α)(p:BQ)(t:T α)(k:T α->β):T.setQ x p t k=k (T.set x p t):=T.setK_eq x p t k
def gD(x:Option LD)(κ:D->ai):ai:=(λ_=>match x with
 |some (.g d)=>κ d
 |_=>none) mq
def lD(x:Option LD)(κ:LD->ai):ai:=(λ_=>match x with
 |some d=>κ d
 |none=>none) mq
def HP(t:T LD):List Operand->(List D->ai)->ai
 |[],κ=>κ []
 |x::r,κ=>gD (iF t x) λd=>HP t r λl=>κ (d::l)
def wT(a b:ai):ai:=open Classical in if a=b then a else none
def brD(d:D)(a b:ai):ai:=match d with
 |.bool q=>cond q a b
 |.abool=>wT a b
 |_=>none
def brS(d:D)(a b:ai):ai:=match d with
 |.bool q=>cond q a b
 |_=>none
def af(cs:List D)(c:Nat)(κ:D->ai):ai:=match cs[c]? with
 |some d=>κ d
 |none=>none
def CH:Nat->List D->Nat->(List D->ai)->ai
 |0,_,_,κ=>κ []
 |n+1,cs,c,κ=>af cs c λd=>CH n cs (c+1) λl=>κ (d::l)
def ah(n:Nat)(d:D)(κ:List D->ai):ai:=match d with
 |.agg cs=>bif Nat.beq cs.length n then κ cs else none
 |.tuple _=>none
 |d=>bif Nat.beq n 1 then κ [d] else none
def am(H:DH)(o:Nat)(κ:Nat->List D->ai):ai:=match H[o]? with
 |some (.cells st cs)=>κ st cs
 |_=>none
def dl(H:DH)(o n:Nat)(κ:Nat->Bool->Bool->List (List D)->ai):ai:=match H[o]? with
 |some (.buf sz st cap l)=>bif Nat.beq n l.length then κ sz st cap l else none
 |_=>none
def IX(H:DH)(o s:Nat)(κ:Nat->List (List D)->ai):ai:=match H[o]? with
 |some (.tbuf sz s' l)=>bif Nat.beq s s' then κ sz l else none
 |_=>none
def ig(H:DH)(o:Nat)(κ:List (D×D)->ai):ai:=match H[o]? with
 |some (.map es)=>κ es
 |_=>none
def dV(n:Int)(κ:Nat->ai):ai:=match n with
 |.ofNat n=>κ n
 |_=>none
def bZ(l:List (List D))(i:Nat)(κ:List D->ai):ai:=match l[i]? with
 |some cs=>κ cs
 |none=>none
def boK(b:Bool)(κ:ai):ai:=bif b then κ else none
def qN:List D->Nat->List D->Option (List D)
 |cs,_,[]=>some cs
 |x::r,n+1,new=>match qN r n new with
  |some l=>some (x::l)
  |none=>none
 |_::r,0,y::new=>match qN r 0 new with
  |some l=>some (y::l)
  |none=>none
 |[],_,_::_=>none
def aw(cs:List D)(c:Nat)(new:List D)(κ:List D->ai):ai:=match qN cs c new with
 |some l=>κ l
 |none=>none
def br(P:Program)(ty:TypeId)(cs:List D)(c:Nat)(κ:D->ai):ai:=match rZ P ty with
 |some true=>match size P ty with
  |some n=>bif Nat.blt 0 n then CH n cs c λl=>κ (.agg l)else none
  |none=>none
 |some false=>af cs c κ
 |none=>none
def bW(P:Program)(ty:TypeId)(d:D)(H:DH)(κ:D->ai):ai:=match d with
 |.eptr cs c=>br P ty cs c κ
 |.ptr o c=>am H o λ_ cs=>br P ty cs c κ
 |.bptr o n i c=>dl H o n λ_ _ _ l=>bZ l i λcs=>br P ty cs c κ
 |.tptr o s i c=>IX H o s λ_ l=>bZ l i λcs=>br P ty cs c κ
 |_=>none
def mj(P:Program)(ty:TypeId)(x:LD)(L:LS)(H:DH)(κ:D->ai):ai:=(λ_=>match x with
 |.lp k c=>match L[k]? with
  |some (_,cs)=>br P ty cs c κ
  |none=>none
 |.g d=>bW P ty d H κ
 |.u=>none) mq
def IY(d:D)(new:List D)(H:DH)(κ:DH->ai):ai:=match d with
 |.ptr o c=>am H o λst cs=>aw cs c new λcs=>κ (H.set o (.cells (st+1) cs))
 |.bptr o n i c=>dl H o n λsz st cap l=>boK st (bZ l i λcs=>aw cs c new λcs=>κ (H.set o (.buf sz st cap (l.set i cs))))
 |_=>none
def yG(P:Program)(ty:TypeId)(x:LD)(v:D)(L:LS)(H:DH)(κ:LS->DH->ai):ai:=(λ_=>match size P ty with
 |some n=>(match Nat.blt 0 n with|false=>(none)|true=>(ah n v λnew=>match x with
  |.lp k c=>match L[k]? with
   |some (st,cs)=>aw cs c new λcs=>κ (L.set k (st+1,cs)) H
   |none=>none
  |.g d=>IY d new H λH=>κ L H
  |.u=>none))
 |none=>none) mq
def DA(place:Nat->Option (Nat×Nat))(t:T LD):List (Nat×Operand)->List D->(List D->ai)->ai
 |[],cs,κ=>κ cs
 |(i,x)::r,cs,κ=>gD (iF t x) λd=>match place i with
  |none=>none
  |some (off,n)=>bif Nat.blt 0 n then ah n d λnew=>aw cs off new λcs=>DA place t r cs κ else none
def Bt(P:Program)(t:T LD)(ty:TypeId)(parts:List (Nat×Operand))(κ:D->ai):ai:=match qW P ty with
 |some z=>match P.underlying ty with
  |some (.struct fs)=>bif fs.toList.all (λf=>(size P f.type).isSome)then DA (pJ P fs) t parts z.cells λcs=>κ (.agg cs)else none
  |some (.array _ el)=>match size P el with
   |some n=>DA (λi=>some (i*n,n)) t parts z.cells λcs=>κ (.agg cs)
   |none=>none
  |_=>none
 |none=>none
def oW(t:T LD)(n len:Nat):List (Nat×Operand)->List (List D)->(List (List D)->ai)->ai
 |[],l,κ=>κ l
 |(i,x)::r,l,κ=>gD (iF t x) λd=>bif Nat.blt i len then ah n d λnew=>oW t n len r (l.set i new) κ else none
def PY(n:Nat)(l:List (List D)):D:=match l with
 |[]=>.nilrow
 |x::r=>.row n (x::r)
def jc(P:Program)(t:T LD)(ty:TypeId)(len:Nat)(parts:List (Nat×Operand))(κ:D->ai):ai:=match P.underlying ty with
 |some (.slice el)=>match qW P el with
  |some z=>match size P el with
   |some n=>(match Nat.ble (len*n) 10000&&!(Nat.beq n 0)&&Nat.beq z.cells.length n with|true=>(oW t n len parts (List.replicate len z.cells) λl=>κ (PY n l))|false=>(none))
   |none=>none
  |none=>none
 |_=>none
def kC(d:D)(κ:D->ai):ai:=match d with
 |.ptr o c=>κ (.ptr o c)
 |.eptr cs c=>κ (.eptr cs c)
 |.bptr o n i c=>κ (.bptr o n i c)
 |.tptr o s i c=>κ (.tptr o s i c)
 |.func f a b=>κ (.func f a b)
 |.yld o=>κ (.yld o)
 |_=>none
def VP(x:LD)(κ:LD->ai):ai:=(λ_=>match x with
 |.lp k c=>κ (.lp k c)
 |.g d=>kC d λd=>κ (.g d)
 |.u=>none) mq
def Zy(op:BinOp)(k:IntKind)(a b:Int)(κ:D->ai):ai:=match op with
 |.add=>κ (.int k (k.wrap (a+b)))
 |.sub=>κ (.int k (k.wrap (a - b)))
 |.mul=>κ (.int k (k.wrap (a*b)))
 |.eql=>κ (.bool (a==b))
 |.neq=>κ (.bool (a != b))
 |.lss=>κ (.bool (decide (a<b)))
 |.leq=>κ (.bool (decide (a<=b)))
 |.gtr=>κ (.bool (decide (a>b)))
 |.geq=>κ (.bool (decide (a>=b)))
 |.quo=>boK (!(b==0)) (κ (.int k (k.wrap (a.tdiv b))))
 |.rem=>boK (!(b==0)) (κ (.int k (a.tmod b)))
 |_=>none
def Yp(op:BinOp)(a b:List Nat)(κ:D->ai):ai:=match op with
 |.add=>boK (Nat.ble (a.length+b.length) 1000000) (κ (.str (a++b)))
 |.eql=>κ (.bool (a==b))
 |.neq=>κ (.bool (!(a==b)))
 |.lss=>κ (.bool (Op.bytesLess (pW a) (pW b)))
 |_=>none
def Qt(P:Program)(t:TypeId)(cs:List D)(off:Nat)(κ:D->ai):ai:=br P t cs off κ
def oG(P:Program)(eq:TypeId->D->D->(Bool->ai)->ai):List Field->List D->List D->Bool->(Bool->ai)->ai
 |[],_,_,q,κ=>κ q
 |f::r,xs,ys,q,κ=>bif f.name == "_" then none else Qt P f.type xs f.offset λa=>Qt P f.type ys f.offset λb=>eq f.type a b λp=>oG P eq r xs ys (q&&p) κ
def On(P:Program):Nat->TypeId->D->D->(Bool->ai)->ai
 |0,_,_,_,_=>none
 |d+1,t,x,y,κ=>match P.underlying t with
  |some (.struct fs)=>match x,y with
   |.agg xs,.agg ys=>bif P.stoodInHeld t then none else oG P (On P d) fs.toList xs ys true κ
   |_,_=>none
  |some (.interface _)=>match x,y with
   |.nilIface,.nilIface=>κ true
   |.nilIface,.iface _ _=>κ false
   |.iface _ _,.nilIface=>κ false
   |_,_=>none
  |some .bool=>match x,y with
   |.bool a,.bool b=>κ (a==b)
   |_,_=>none
  |some (.int _)=>match x,y with
   |.int j a,.int k b=>bif dy j k then κ (a==b)else none
   |_,_=>none
  |some .string=>match x,y with
   |.str a,.str b=>κ (a==b)
   |_,_=>none
  |some (.pointer _)=>match x,y with
   |.nilptr,.nilptr=>κ true
   |.nilptr,.ptr _ _=>κ false
   |.nilptr,.eptr _ _=>κ false
   |.nilptr,.bptr _ _ _ _=>κ false
   |.ptr _ _,.nilptr=>κ false
   |.eptr _ _,.nilptr=>κ false
   |.bptr _ _ _ _,.nilptr=>κ false
   |_,_=>none
  |some (.func _ _ _)=>match x,y with
   |.nilFunc,.nilFunc=>κ true
   |.nilFunc,.func ..=>κ false
   |.func ..,.nilFunc=>κ false
   |_,_=>none
  |_=>none
def RT(P:Program)(op:BinOp)(t:TypeId)(c:Bool)(a b:D):Bool :=
 bif rY op then match a,b with
  |.nilIface,.nilIface=>c
  |.agg _,.agg _=>!(P.eqGuardType P.depth t)
  |_,_=>true
 else true
def aC(P:Program)(op:BinOp)(t:TypeId)(c:Bool)(x y:D)(κ:D->ai):ai:=match x,y with
 |.int j a,.int k b=>bif qw op then none else bif dy j k then Zy op j a b κ else none
 |.str a,.str b=>Yp op a b κ
 |x,y=>bif RT P op t c x y then(match op with
  |.eql=>On P 20 t x y λq=>κ (.bool q)
  |.neq=>On P 20 t x y λq=>κ (.bool !q)
  |_=>none)else none
def rX:Operand->Bool
 |.const c=>match V.ofConst c with
  |some .nilslice=>true
  |_=>false
 |_=>false
def Za:BinOp->Bool
 |.eql=>false
 |_=>true
def iC(op:BinOp)(l:List (List D))(κ:D->ai):ai:=match l with
 |[]=>κ .abool
 |_::_=>κ (.bool (Za op))
def zC(op:BinOp)(x:D)(κ:D->ai):ai:=bif rY op then(match x with
 |.nilrow=>κ .abool
 |.row _ l=>iC op l κ
 |.buf _ _ n=>(match n with|0=>κ .abool|_+1=>κ (.bool (Za op)))
 |_=>none)else none
def ib(op:UnOp)(x:D)(κ:D->ai):ai:=match op with
 |.not=>match x with
  |.bool b=>κ (.bool !b)
  |_=>none
 |.neg=>match x with
  |.int k n=>κ (.int k (k.wrap (0 - n)))
  |_=>none
 |_=>none
def wR(P:Program)(a dst:TypeId)(x:D)(κ:D->ai):ai:=bif (P.underlying a).isNone then none else match P.underlying dst with
 |some (.int k)=>match x with
  |.int _ n=>κ (.int k (k.wrap n))
  |_=>none
 |some .string=>match x with
  |.str l=>κ (.str l)
  |_=>none
 |_=>none
def QX(P:Program)(el:TypeId)(n:Nat)(κ:List (List D)->Nat->ai):ai:=match qW P el with
 |some z=>match size P el with
  |some sz=>bif !(Nat.beq sz 0)&&Nat.beq z.cells.length sz then boK (Nat.ble n 2199023255552&&mR P el n) (κ (List.replicate n z.cells) sz)else none
  |none=>none
 |none=>none
def vI(o:Option D)(d:Nat)(κ:Nat->ai):ai:=match o with
 |some (.int _ n)=>dV n κ
 |some _=>none
 |none=>κ d
def Om(t:T LD):Option Operand->(Option D->ai)->ai
 |none,κ=>κ none
 |some x,κ=>gD (iF t x) λd=>κ (some d)
def GI(sz:Nat)(l:List (List D))(lo hi:Option D)(κ:D->ai):ai :=
 vI hi l.length λh=>vI lo 0 λb=>boK (Nat.ble h l.length&&Nat.beq b 0) (κ (.row sz (l.take h)))
def dW(P:Program)(t:TypeId)(x:D)(lo hi mx:Option D)(H:DH)(κ:D->DH->ai):ai:=match P.underlying t with
 |some .string=>match x with
  |.str l=>match mx with
   |none=>vI hi l.length λh=>vI lo 0 λb=>boK (Nat.ble h l.length&&Nat.ble b h) (κ (.str ((l.drop b).take (h - b))) H)
   |some _=>none
  |_=>none
 |some (.slice e)=>match size P e with
  |some sz=>match mx with
   |none=>match x with
    |.row s l=>bif Nat.beq s sz then GI sz l lo hi λd=>κ d H else none
    |.buf s' o n=>dl H o n λs _ cap l=>boK (Nat.beq s' sz) (GI sz l lo hi λd=>κ d (H.set o (.buf s false cap l)))
    |.nilrow=>vI hi 0 λh=>vI lo 0 λb=>boK (Nat.beq h 0&&Nat.beq b 0) (κ .nilrow H)
    |_=>none
   |some m=>vI (some m) 0 λm=>vI hi 0 λh=>vI lo 0 λb=>bif hi.isSome&&(Nat.beq m 0&&Nat.beq h 0&&Nat.beq b 0)then(match x with
    |.row s _=>bif Nat.beq s sz then κ .nilrow H else none
    |.buf s' o n=>dl H o n λ_ _ _ _=>boK (Nat.beq s' sz) (κ .nilrow H)
    |.nilrow=>κ .nilrow H
    |_=>none)else none
  |none=>none
 |_=>none
def Pc(P:Program)(t:TypeId)(x:D)(lo hi mx:Option D)(H:DH)(κ:D->DH->ai):ai:=match P.underlying t with
 |some (.slice e)=>match size P e with
  |some sz=>match lo with
   |none=>match mx with
    |none=>match hi with
     |some (.int _ h)=>dV h λh=>match x with
      |.buf s o n=>bif Nat.beq s sz then dl H o n λz st cap l=>boK (Nat.beq z sz&&(st&&(!cap&&(Nat.ble h n&&Nat.blt 0 n)))) (κ (.tb sz o (n+1) h) (H.set o (.tbuf sz (n+1) (l.take h))))else none
      |.tb s o st k=>bif Nat.beq s sz then IX H o st λz l=>boK (Nat.beq z sz&&Nat.ble h k) (κ (.tb sz o (st+1) h) (H.set o (.tbuf sz (st+1) (l.take h))))else none
      |_=>none
     |_=>none
    |_=>none
   |_=>none
  |none=>none
 |_=>none
def ct(d:D)(off:Nat)(κ:D->ai):ai:=match d with
 |.ptr o c=>κ (.ptr o (c+off))
 |.eptr cs c=>κ (.eptr cs (c+off))
 |.bptr o n i c=>κ (.bptr o n i (c+off))
 |.tptr o s i c=>κ (.tptr o s i (c+off))
 |_=>none
def Vt(x:LD)(off:Nat)(κ:LD->ai):ai:=(λ_=>match x with
 |.lp k c=>κ (.lp k (c+off))
 |.g d=>ct d off λd=>κ (.g d)
 |.u=>none) mq
def At(P:Program)(ty:TypeId)(x:LD)(f:Nat)(κ:LD->ai):ai:=(λ_=>match P.underlying ty with
 |some (.struct fs)=>match fs[f]? with
  |some a=>(match lq a P with|true=>(none)|false=>(Vt x a.offset κ))
  |none=>none
 |_=>none) mq
def sh(P:Program)(ty:TypeId)(x:D)(f:Nat)(κ:D->ai):ai:=match P.underlying ty with
 |some (.struct fs)=>match fs[f]? with
  |some a=>match x with
   |.agg cs=>Qt P a.type cs a.offset κ
   |_=>none
  |none=>none
 |_=>none
def Hu(x:D)(sz:Nat)(i:Int)(κ:D->ai):ai:=match x with
 |.row s l=>bif Nat.beq s sz then dV i λi=>bZ l i λcs=>κ (.eptr cs 0)else none
 |.buf s o n=>bif Nat.beq s sz then dV i λi=>boK (Nat.blt i n) (κ (.bptr o n i 0))else none
 |.tb s o st k=>bif Nat.beq s sz then dV i λi=>boK (Nat.blt i k) (κ (.tptr o st i 0))else none
 |_=>none
def ay(P:Program)(ty:TypeId)(x i:D)(κ:D->ai):ai:=match P.underlying ty with
 |some (.slice el)=>match size P el with
  |some sz=>match i with
   |.int _ i=>Hu x sz i κ
   |_=>none
  |none=>none
 |_=>none
def Bq(l:List Nat)(i:Nat)(κ:D->ai):ai:=match l[i]? with
 |some c=>κ (.int .u8 (.ofNat (Nat.mod c 256)))
 |none=>none
def kb(P:Program)(ty:TypeId)(x i:D)(κ:D->ai):ai:=match P.underlying ty with
 |some .string=>match x with
  |.str l=>match i with
   |.int _ i=>dV i λi=>Bq l i κ
   |_=>none
  |_=>none
 |some (.array len el)=>match x with
  |.agg cs=>match size P el with
   |some sz=>match i with
    |.int _ i=>dV i λi=>bif Nat.blt i len then br P el cs (Nat.mul i sz) κ else none
    |_=>none
   |none=>none
  |_=>none
 |_=>none
def tH:D->D->Option Bool
 |.int j a,.int k b=>bif dy j k then some (a==b)else none
 |.str a,.str b=>some (a==b)
 |.bool a,.bool b=>some (a==b)
 |_,_=>none
def Cf(k:D):List (D×D)->Option (Option D)
 |[]=>some none
 |(x,v)::r=>match tH k x with
  |some true=>some (some v)
  |some false=>Cf k r
  |none=>none
def Cd(k v:D):List (D×D)->Option (List (D×D))
 |[]=>some [(k,v)]
 |(x,w)::r=>match tH k x with
  |some true=>some ((k,v)::r)
  |some false=>match Cd k v r with
   |some r=>some ((x,w)::r)
   |none=>none
  |none=>none
def py(k:D)(es:List (D×D))(κ:Option D->ai):ai:=match Cf k es with
 |some o=>κ o
 |none=>none
def fY(k v:D)(es:List (D×D))(κ:List (D×D)->ai):ai:=match Cd k v es with
 |some es=>κ es
 |none=>none
def iE(P:Program)(el:TypeId)(ok:Bool)(o:Option D)(κ:D->ai):ai:=match o with
 |some d=>κ (bif ok then .tuple [d,.bool true] else d)
 |none=>match qW P el with
  |some z=>κ (bif ok then .tuple [z,.bool false] else z)
  |none=>none
def Ci(d:TypeDesc):Bool:=match d with
 |.int _=>true
 |.string=>true
 |.bool=>true
 |_=>false
def xS(P:Program)(ty:TypeId):Option (TypeDesc×TypeId):=match P.underlying ty with
 |some (.map kt el)=>match P.underlying kt with
  |some d=>bif Ci d then some (d,el)else none
  |none=>none
 |_=>none
def rU(td:TypeDesc)(d:D):Bool:=match td with
 |.int _=>match d with
  |.int _ _=>true
  |_=>false
 |.string=>match d with
  |.str _=>true
  |_=>false
 |.bool=>match d with
  |.bool _=>true
  |_=>false
 |_=>false
def ip(P:Program)(ty:TypeId)(m k:D)(ok:Bool)(H:DH)(κ:D->ai):ai:=match xS P ty with
 |some (td,el)=>match m with
  |.map o=>bif rU td k then ig H o λes=>py k es λr=>iE P el ok r κ else none
  |.nilmap=>iE P el ok none κ
  |_=>none
 |none=>none
def jp(P:Program)(ty:TypeId)(m k v:D)(H:DH)(κ:DH->ai):ai:=match xS P ty with
 |some (td,_)=>match m with
  |.map o=>bif rU td k then ig H o λes=>fY k v es λes=>κ (H.set o (.map es))else none
  |_=>none
 |none=>none
def jI(P:Program)(x:D)(ty:TypeId)(ok:Bool)(κ:D->ai):ai:=match P.underlying ty with
 |some (.interface _)=>none
 |some _=>match x with
  |.iface t d=>bif Nat.beq t ty then κ (bif ok then .tuple [d,.bool true] else d)else bif ok then(match qW P ty with
   |some z=>κ (.tuple [z,.bool false])
   |none=>none)else none
  |.nilIface=>bif ok then(match qW P ty with
   |some z=>κ (.tuple [z,.bool false])
   |none=>none)else none
  |_=>none
 |none=>none
def ei(x:D)(i:Nat)(κ:D->ai):ai:=match x with
 |.tuple ds=>af ds i κ
 |_=>none
def vw(y:D)(H:DH)(sz:Nat)(κ:List (List D)->ai):ai:=(λ_=>match y with
 |.row s l=>(match Nat.beq s sz with|true=>(κ l)|false=>(none))
 |.nilrow=>κ []
 |.buf s o n=>(match Nat.beq s sz with|true=>(dl H o n λ_ _ _ l=>κ l)|false=>(none))
 |_=>none) mq
def grow(o:Nat)(sz:Nat)(st cap:Bool)(l els:List (List D))(H:DH)(κ:D->DH->ai):ai :=
 bif cap then κ (.buf sz H.length (l.length+els.length)) (H++[.buf sz true false (l++els)])
 else κ (.buf sz o (l.length+els.length)) (H.set o (.buf sz st false (l++els)))
def bX(ok:Nat->Bool)(sz:Nat)(x:D)(els:List (List D))(H:DH)(κ:D->DH->ai):ai:=boK (ok els.length) (match x with
 |.nilrow=>match els with
  |[]=>κ .nilrow H
  |e::r=>κ (.buf sz H.length (r.length+1)) (H++[.buf sz true false (e::r)])
 |.buf s o n=>bif Nat.beq s sz then dl H o n λ_ st cap l=>boK (ok (l.length+els.length)&&!(cap&&els.isEmpty)) (grow o sz st cap l els H κ)else none
 |.tb s o st k=>bif Nat.beq s sz then IX H o st λ_ l=>boK (ok (k+els.length)&&!els.isEmpty) (κ (.tb sz o (st+1) (k+els.length)) (H.set o (.tbuf sz (st+1) (l++els))))else none
 |_=>none)
def ul(P:Program)(sT xT:TypeId)(x y:D)(H:DH)(κ:D->DH->ai):ai:=(λ_=>match P.underlying sT with
 |some (.slice elem)=>(match Hd P xT with|false=>(none)|true=>((match size P elem with
  |some sz=>(match vz P elem sz with|true=>(vw y H sz λels=>bX (aF P elem) sz x els H κ)|false=>(none))
  |none=>none)))
 |_=>none) mq
def aS(P:Program)(t:TypeId)(x:D)(H:DH)(κ:D->ai):ai:=match P.underlying t with
 |some .string=>match x with
  |.str l=>κ (.int .i64 l.length)
  |_=>none
 |some (.slice _)=>match x with
  |.row _ l=>κ (.int .i64 l.length)
  |.buf _ _ n=>κ (.int .i64 n)
  |.tb _ _ _ k=>κ (.int .i64 k)
  |.nilrow=>κ (.int .i64 0)
  |_=>none
 |some (.map _ _)=>match x with
  |.map o=>ig H o λes=>κ (.int .i64 es.length)
  |.nilmap=>κ (.int .i64 0)
  |_=>none
 |_=>none
def JW(g:Bool)(x y:D)(κ:D->ai):ai:=match x with
 |.int j a=>match y with
  |.int k b=>bif dy j k then κ (.int j (bif g then(bif decide (b>a)then b else a)else(bif decide (b<a)then b else a)))else none
  |_=>none
 |_=>none
def pz(g:Bool):D->List D->(D->ai)->ai
 |x,[],κ=>κ x
 |x,y::r,κ=>JW g x y λz=>pz g z r κ
def NT(esc:Bool)(cs:List D)(L:LS)(H:DH)(κ:BS->ai):ai:=(λ_=>  (match esc with|true=>(κ (.val (.g (.ptr H.length 0)) L (H++[.cells 0 cs])))|false=>(κ (.val (.lp L.length 0) (L++[(0,cs)]) H)))) mq
def PS(t:T LD)(o:Operand)(b:Bool)(κ:T LD->ai):ai:=(λ_=>match o with
 |.tmp i=>t.setQ (some (.g (.bool b))) (eX i) κ
 |_=>κ t) mq
def WP(t:T LD)(L:LS)(H:DH)(c a b:Operand)(κ:T LD->BS->ai):ai :=
 gD (iF t c) λd=>brS d (PS t c true λt=>lD (iF t a) λx=>κ t (.val x L H)) (PS t c false λt=>lD (iF t b) λx=>κ t (.val x L H))
def aQ(E:dI)(f:FuncId):Bool:=match E.P.funcs[f]? with
 |some fn=>fn.body.isSome
 |none=>false
def FV(E:dI)(L:LS)(H:DH)(args:List D)(f:D)(κ:BS->ai):ai:=(λ_=>match f with
 |.func g first cap=>(match aQ E g with|true=>(κ (.enter g (first++(args++cap)) L H))|false=>(none))
 |_=>none) mq
def Lf(L:LS)(H:DH)(args:List D)(f:D)(κ:BS->ai):ai:=(λ_=>match f with
 |.yld o=>κ (.round o args L H)
 |_=>none) mq
def oh(P:Program)(b:Builtin)(ts:Array TypeId)(args:List D)(L:LS)(H:DH)(κ:BS->ai):ai:=(λ_=>match b with
 |.append=>match ts[0]? with
  |some a=>match ts[1]? with
   |some b=>match args with
    |[x,y]=>ul P a b x y H λd H=>κ (.val (.g d) L H)
    |_=>none
   |none=>none
  |none=>none
 |.len=>match ts[0]? with
  |some a=>match args with
   |[x]=>aS P a x H λd=>κ (.val (.g d) L H)
   |_=>none
  |none=>none
 |.max=>match args with
  |x::r=>pz true x r λd=>κ (.val (.g d) L H)
  |_=>none
 |.min=>match args with
  |x::r=>pz false x r λd=>κ (.val (.g d) L H)
  |_=>none
 |.recover=>κ (.recover L H)
 |.panic=>match args with
  |[.iface t v]=>κ (.panic (.iface t v) L H)
  |_=>none
 |_=>none) mq
def lX:Op->dg->Bool->T LD->LS->DH->(T LD->BS->ai)->ai
 |.move x,_,_,t,L,H,κ=>lD (iF t x) λd=>κ t (.val d L H)
 |.assign x,_,_,t,L,H,κ=>lD (iF t x) λd=>κ t (.val d L H)
 |.pick c a b,_,_,t,L,H,κ=>WP t L H c a b κ
 |.alloc elem,E,esc,t,L,H,κ=>match qW E.E.P elem with
  |some z=>NT esc z.cells L H (κ t)
  |none=>none
 |.box elem x,E,esc,t,L,H,κ=>match size E.E.P elem with
  |some n=>gD (iF t x) λd=>ah n d λcs=>NT esc cs L H (κ t)
  |none=>none
 |.build ty parts,E,_,t,L,H,κ=>Bt E.E.P t ty parts.toList λd=>κ t (.val (.g d) L H)
 |.buildSlice ty len parts,E,_,t,L,H,κ=>jc E.E.P t ty len parts.toList λd=>κ t (.val (.g d) L H)
 |.load ty x,E,_,t,L,H,κ=>lD (iF t x) λx=>mj E.E.P ty x L H λd=>κ t (.val (.g d) L H)
 |.store ty x y,E,_,t,L,H,κ=>lD (iF t x) λx=>gD (iF t y) λv=>yG E.E.P ty x v L H λL H=>κ t (.skip L H)
 |.nilCheck x,_,_,t,L,H,κ=>lD (iF t x) λx=>VP x λx=>κ t (.val x L H)
 |.binOp op ty x y _,E,_,t,L,H,κ=>gD (iF t x) λa=>gD (iF t y) λb=>(match rX y with|false=>(aC E.E.P op ty (fG x||fG y) a b λd=>κ t (.val (.g d) L H))|true=>((match E.E.P.underlying ty with
  |some (.slice _)=>zC op a λd=>κ t (.val (.g d) L H)
  |_=>none)))
 |.unOp op _ x,_,_,t,L,H,κ=>gD (iF t x) λa=>ib op a λd=>κ t (.val (.g d) L H)
 |.convert h dst x,E,_,t,L,H,κ=>gD (iF t x) λa=>wR E.E.P h dst a λd=>κ t (.val (.g d) L H)
 |.makeInterface ty x,E,_,t,L,H,κ=>gD (iF t x) λa=>match E.E.P.underlying ty with
  |some (.interface _)=>none
  |some _=>κ t (.val (.g (.iface ty a)) L H)
  |none=>none
 |.makeFunc fn first cap,_,_,t,L,H,κ=>match fn with
  |.func f=>HP t first.toList λa=>HP t cap.toList λb=>κ t (.val (.g (.func f a b)) L H)
  |_=>none
 |.makeMap _ none,_,_,t,L,H,κ=>κ t (.val (.g (.map H.length)) L (H++[.map []]))
 |.makeSlice ty l c,E,_,t,L,H,κ=>match E.E.P.underlying ty with
  |some (.slice el)=>match l with
   |.tmp i=>match c with
    |.tmp j=>(match Nat.beq i j with|false=>(none)|true=>(gD (iF t (.tmp i)) λd=>match d with
     |.int _ n=>dV n λn=>QX E.E.P el n λl sz=>κ t (.val (.g (.buf sz H.length n)) L (H++[.buf sz true true l]))
     |_=>none))
    |_=>none
   |_=>none
  |_=>none
 |.slice ty x lo hi mx,E,esc,t,L,H,κ=>gD (iF t x) λx=>Om t lo λlo=>Om t hi λhi=>Om t mx λmx=>match esc with
  |true=>Pc E.E.P ty x lo hi mx H λd H=>κ t (.val (.g d) L H)
  |false=>dW E.E.P ty x lo hi mx H λd H=>κ t (.val (.g d) L H)
 |.fieldAddr ty x f,E,_,t,L,H,κ=>lD (iF t x) λx=>At E.E.P ty x f λx=>κ t (.val x L H)
 |.field ty x f,E,_,t,L,H,κ=>gD (iF t x) λx=>sh E.E.P ty x f λd=>κ t (.val (.g d) L H)
 |.indexAddr ty x i,E,_,t,L,H,κ=>gD (iF t x) λx=>gD (iF t i) λi=>ay E.E.P ty x i λd=>κ t (.val (.g d) L H)
 |.index ty x i,E,_,t,L,H,κ=>gD (iF t x) λx=>gD (iF t i) λi=>kb E.E.P ty x i λd=>κ t (.val (.g d) L H)
 |.lookup ty x k ok,E,_,t,L,H,κ=>gD (iF t x) λx=>gD (iF t k) λk=>ip E.E.P ty x k ok H λd=>κ t (.val (.g d) L H)
 |.mapUpdate ty m k x,E,_,t,L,H,κ=>gD (iF t m) λm=>gD (iF t k) λk=>gD (iF t x) λx=>jp E.E.P ty m k x H λH=>κ t (.skip L H)
 |.insert ty m k x,E,_,t,L,H,κ=>gD (iF t m) λm=>gD (iF t k) λk=>gD (iF t x) λx=>jp E.E.P ty m k x H λH=>κ t (.skip L H)
 |.typeAssert x _ ty ok,E,_,t,L,H,κ=>gD (iF t x) λx=>jI E.E.P x ty ok λd=>κ t (.val (.g d) L H)
 |.extract x i,_,_,t,L,H,κ=>gD (iF t x) λx=>ei x i λd=>κ t (.val (.g d) L H)
 |.call c,E,esc,t,L,H,κ=>HP t c.args.toList λargs=>match c.callee with
  |.builtin b=>oh E.E.P b c.argTypes args L H (κ t)
  |.value f=>gD (iF t f) λf=>match esc with
   |true=>Lf L H args f (κ t)
   |false=>FV E.E L H args f (κ t)
  |.invoke _ _=>none
 |.defer c,E,_,t,L,H,κ=>HP t c.args.toList λargs=>match c.callee with
  |.value f=>gD (iF t f) λf=>match f with
   |.func g first cap=>(match aQ E.E g with|true=>(κ t (.defer ⟨g,cap,first++args⟩ L H))|false=>(none))
   |_=>none
  |_=>none
 |.panic x,_,_,t,L,H,κ=>gD (iF t x) λx=>match x with
  |.iface ty d=>κ t (.panic (.iface ty d) L H)
  |_=>none
 |_,_,_,_,_,_,_=>none
def iW(h:Hk)(d:D)(H:DH)(κ:D->DH->ai):ai:=match h with
 |.fz sz=>match d with
  |.buf s' o n=>dl H o n λs _ cap l=>boK (Nat.beq s' sz) (κ (.row sz l) (H.set o (.buf s false cap l)))
  |.nilrow=>κ (.row sz []) H
  |.row s l=>κ (.row s l) H
  |_=>none
 |.acc sz=>match d with
  |.nilrow=>bif Nat.blt 0 sz then κ (.buf sz H.length 0) (H++[.buf sz true false []])else none
  |.buf s o n=>κ (.buf s o n) H
  |_=>none
def fH(h:Hk)(c:Nat)(d:D)(H:DH)(κ:D->DH->ai):ai:=match d with
 |.agg cs=>af cs c λx=>iW h x H λy H=>κ (.agg (cs.set c y)) H
 |d=>bif Nat.beq c 0 then iW h d H κ else none
def Ae:List (Nat×Hk)->D->DH->(D->DH->ai)->ai
 |[],d,H,κ=>κ d H
 |(c,h)::r,d,H,κ=>fH h c d H λd H=>Ae r d H κ
def Mp{α:Type}:List (Nat×α)->Nat->Option α
 |[],_=>none
 |(j,x)::r,i=>bif Nat.beq i j then some x else Mp r i
def tM(a:List (Nat×List (Nat×Hk)))(dst:Option Tmp)(x:LD)(H:DH)(κ:LD->DH->ai):ai:=(λ_=>match a with
 |[]=>κ x H
 |_::_=>match dst with
  |none=>κ x H
  |some i=>match Mp a i with
   |none=>κ x H
   |some l=>match x with
    |.g d=>Ae l d H λd H=>κ (.g d) H
    |_=>none) mq
def Zj(i:Nat):List Nat->Bool
 |[]=>false
 |j::r=>bif Nat.beq i j then true else Zj i r
def DE(an:iL)(dst:Option Tmp):Bool:=match an.esc with
 |[]=>false
 |l=>match dst with
  |some i=>Zj i l
  |none=>false
def kW(t:T LD)(d:Option Tmp)(x:LD)(κ:T LD->ai):ai:=(λ_=>match d with
 |some i=>t.setQ (some x) (eX i) κ
 |none=>κ t) mq
def aU(x:ai)(kr:D->DH->ai)(kp:List fX->DH->ai):ai:=match x with
 |some ⟨.ret d,_,H⟩=>kr d H
 |some ⟨.pan c,_,H⟩=>kp c H
 |none=>none
def yy(ops:Array Oper)(t:T LD)(o:Oper)(kT kF:T LD->ai):ai:=(λ_=>match o.guard with
 |none=>kT t
 |some (j,want)=>match(ops[j]?).bind (·.dst)with
  |some i=>match t.get (eX i)with
   |some (.g d)=>match want with
    |true=>brD d (t.setQ (some (.g (.bool true))) (eX i) kT) (t.setQ (some (.g (.bool false))) (eX i) kF)
    |false=>brD d (t.setQ (some (.g (.bool true))) (eX i) kF) (t.setQ (some (.g (.bool false))) (eX i) kT)
   |some .u=>kF t
   |_=>none
  |none=>none) mq
abbrev qU:=FuncId->List D->Option fg->DH->ai
abbrev IU:=T LD->LS->List sv->Option fg->DH->ai
def notRnd(up:Option fg)(r:ai):ai:=(λ_=>match up with
 |some (.round _)=>none
 |_=>r) mq
def mZ(d:Option Tmp)(t:T LD)(L:LS)(ds:List sv)(H:DH)(k:IU):Option fg->ai
 |some (.round _)=>(λ_=>none) mq
 |some (.panicking (⟨v,false⟩::older))=>kW t d (.g v) λt=>k t L ds (some (.panicking (⟨v,true⟩::older))) H
 |some m=>kW t d (.g .nilIface) λt=>k t L ds (some m) H
 |none=>none
def JJ(an:iL)(rec:qU)(d:Option Tmp)(t:T LD)(ds:List sv)(up:Option fg)(k:IU)(kp:List fX->IU):BS->ai
 |.val x L H=>(λ_=>tM an.hooks d x H λx H=>kW t d x λt=>k t L ds up H) mq
 |.skip L H=>kW t d .u λt=>k t L ds up H
 |.enter f args L H=>aU (rec f args none H) (λx H=>tM an.hooks d (.g x) H λx H=>kW t d x λt=>k t L ds up H) λc H=>kp c t L ds up H
 |.defer df L H=>notRnd up (kW t d .u λt=>k t L (.call df::ds) up H)
 |.recover L H=>mZ d t L ds H k up
 |.panic v L H=>kp [⟨v,false⟩] t L ds up H
 |.round o args L H=>aU (rec 0 args (some (.round o)) H) (λx H=>tM an.hooks d (.g x) H λx H=>kW t d x λt=>k t L ds up H) λc H=>kp c t L ds up H
def qk(E:dg)(an:iL)(ops:Array Oper)(rec:qU):List Oper->IU->(List fX->IU)->IU
 |[],k,_,t,L,ds,up,H=>k t L ds up H
 |o::r,k,kp,t,L,ds,up,H=>yy ops t o
  (λt=>lX o.op E (DE an o.dst) t L H λt x=>JJ an rec o.dst t ds up (qk E an ops rec r k kp) kp x)
  (λt=>kW t o.dst .u λt=>qk E an ops rec r k kp t L ds up H)
def vH(bs:T Nat)(i:Nat):Nat:=match bs.get (eX i)with
 |some b=>b
 |none=>0
def gp(bs:T Nat):List Tmp->Nat
 |[]=>0
 |i::r=>Nat.max (vH bs i) (gp bs r)
def Qq{β:Type}(bs:T Nat)(d:Option Tmp)(n:Nat)(κ:T Nat->β):β:=(λ_=>match d with
 |some i=>bs.setQ (some n) (eX i) κ
 |none=>κ bs) mq
def fL(L:LS):List (LS×DH)->LS
 |[]=>L
 |(M,_)::r=>fL (meet L M) r
 where meet:LS->LS->LS
  |(a,cs)::l,(b,_)::m=>bif Nat.beq a b then(a,cs)::meet l m else(a,[])::meet l m
  |(a,_)::l,[]=>(a,[])::meet l []
  |[],_=>[]
def rG(κ:T LD->LD->LS->DH->ai)(t:T LD):BS->ai
 |.val x L H=>(λ_=>κ t x L H) mq
 |_=>none
def vi(an:iL)(d:Option Tmp):Bool:=match an.hooks with
 |[]=>false
 |l=>match d with
  |some i=>(Mp l i).isSome
  |none=>false
def Hq(r:List DH)(o:Nat):DB->DB
 |.cells st cs=>open Classical in if ∀ a∈r,a[o]? = some (.cells st cs)then .cells st cs else .dead
 |_=>.dead
def Ow(r:List DH):Nat->DH->DH
 |_,[]=>[]
 |i,b::t=>Hq r i b::Ow r (i+1) t
def cK(H:DH)(r:List DH):DH:=Ow r 0 H
def Vp(H:DH):D->Bool
 |.buf _ o n=>match H[o]? with
  |some (.buf _ _ _ l)=>Nat.beq n l.length&&Nat.blt 0 n
  |_=>false
 |_=>false
def JA(P:Program)(ty:TypeId)(H:DH)(r:List DH)(o n i c:Nat)(κ:D->ai):ai:=dl H o n λsz st cap l=>bZ l i λcs=>br P ty cs c λd=>open Classical in if(∀ a∈r,a[o]? = some (.buf sz st cap l))/\∀ a∈H::r,Vp a d=true then κ d else none
def Kf(P:Program)(ty:TypeId)(d:D)(H:DH)(r:List DH)(κ:D->ai):ai:=match d with
 |.bptr o n i c=>JA P ty H r o n i c κ
 |d=>bW P ty d (cK H r) κ
def rS(P:Program)(ty:TypeId)(x:LD)(L:LS)(H:DH)(r:List DH)(κ:D->ai):ai:=(λ_=>match x with
 |.g d=>Kf P ty d H r κ
 |x=>mj P ty x L (cK H r) κ) mq
def Ql(op:Op)(a:TypeId->Operand->ai)(b:ai):ai:=(λ_=>match op with
 |.load ty x=>a ty x
 |_=>b) mq
def CO(E:dg)(o:Oper)(a:List (LS×DH))(t:T LD)(κ:T LD->LD->ai):ai:=match a with
 |[]=>none
 |(L,H)::r=>match r with
  |[]=>lX o.op E false t L H λt x=>rG (λt x _ _=>κ t x) t x
  |_::_=>Ql o.op (λty x=>lD (iF t x) λx=>rS E.E.P ty x (fL L r) H (r.map (·.2)) λd=>κ t (.g d)) (lX o.op E false t (fL L r) (cK H (r.map (·.2))) λt x=>rG (λt x _ _=>κ t x) t x)
def cuts(an:iL)(o:Oper):Bool:=match o.op with
 |.slice _ _ _ _ _=>(match DE an o.dst with|true=>true|false=>DE an (o.dst.map λi=>i+100000))
 |_=>false
def sf(E:dg)(an:iL)(o:Oper)(a:List (LS×DH))(n c:Nat)(bs:T Nat)(t:T LD)(L:LS)(H:DH)(κ:T LD->LD->LS->DH->Nat->ai):Nat->ai
 |0=>(match cuts an o with
  |true=>lX o.op E (DE an o.dst) t L H λt x=>rG (λt x L H=>κ t x L H n) t x
  |false=>lX o.op E false t [] [] λt x=>rG (λt x _ _=>κ t x L H ((match vi an o.dst with|true=>(n)|false=>(gp bs (sees o))))) t x)
 |1=>(match Nat.ble (gp bs (sees o)) (n - c)&&Nat.ble c n with|true=>(CO E o (a.take c) t λt x=>κ t x L H ((match vi an o.dst with|true=>(n)|false=>(n - c))))|false=>(none))
 |2=>lX o.op E (DE an o.dst) t L H λt x=>rG (λt x L H=>κ t x L H n) t x
 |_=>none
def FC(rec:qU)(t:T LD)(κ:T LD->LD->LS->DH->ai)(kp:List fX->LS->DH->ai):BS->ai
 |.val x L H=>(λ_=>κ t x L H) mq
 |.skip L H=>κ t .u L H
 |.enter f args L H=>aU (rec f args none H) (λx H=>κ t (.g x) L H) λc H=>kp c L H
 |_=>none
def MN(t:T LD)(d:Option Tmp)(κ:T LD->ai):ai:=match d with
 |some d=>t.setQ none (eX d) κ
 |none=>κ t
def gI(E:dg)(an:iL)(ops:Array Oper)(rec:qU)(k:T LD->LS->DH->ai)(kp:List fX->T LD->LS->DH->ai):List (Option Nat×Nat)->List (LS×DH)->Nat->T Nat->T LD->LS->DH->ai
 |[],_,_,_,t,L,H=>k t L H
 |(c,i)::r,a,n,bs,t,L,H=>match ops[i]? with
  |none=>none
  |some o=>match c with
   |some c=>yy ops t o
    (λt=>sf E an o a n c bs t L H (λt x L H b=>tM an.hooks o.dst x H λx H=>kW t o.dst x λt=>Qq bs o.dst b λbs=>gI E an ops rec k kp r a n bs t L H) (aL E.E.P o.op))
    (λt=>kW t o.dst .u λt=>Qq bs o.dst 0 λbs=>gI E an ops rec k kp r a n bs t L H)
   |none=>yy ops t o
    (λt=>lX o.op E false t L H λt x=>FC rec t (λt x L H=>tM an.hooks o.dst x H λx H=>kW t o.dst x λt=>Qq bs o.dst n λbs=>gI E an ops rec k kp r ((L,H)::a) (n+1) bs t L H) (λc L H=>(match r with|[]=>(match DE an (o.dst.map λi=>i+200000)with|true=>MN t o.dst λt=>kp c t L H|false=>none)|_::_=>none)) x)
    (λt=>kW t o.dst .u λt=>Qq bs o.dst 0 λbs=>gI E an ops rec k kp r ((L,H)::a) (n+1) bs t L H)
abbrev uw:=T LD->LS->List Item->List sv->fg->Option fg->DH->ai
def yR(H:DH)(o:Nat):ai:=match H[o]? with
 |some (.loop _ f nt t ps a b)=>some ⟨.ret (.bool true),none,H.set o (.loop true f nt t ps a b)⟩
 |_=>none
def zS(go:uw)(t:T LD)(L:LS)(ds:List sv)(up:Option fg)(H:DH):Option Code->ai
 |none=>match up with
  |some (.round o)=>yR H o
  |up=>go t L [] ds .returning up H
 |some .ret=>(λ_=>notRnd up (go t L [] ds .returning up H)) mq
 |_=>none
def OF(H:DH)(o:Nat)(κ:DH->ai):ai:=match H[o]? with
 |some (.loop true f nt t ps a b)=>κ (H.set o (.loop false f nt t ps a b))
 |_=>none
def KR(go:uw)(k:List Item)(t:T LD)(L:LS)(ds:List sv)(up:Option fg)(H:DH):ai:=(λ_=>match up with
 |some (.round o)=>OF H o λH=>go t L k ds .run up H
 |_=>none) mq
def Df(H:DH)(o:Nat)(κ:DH->ai):ai:=match H[o]? with
 |some (.loop true _ _ _ _ _ _)=>κ (H.set o .opq)
 |_=>none
def Oe(d:D)(κ:FuncId->List D->List D->ai):ai:=match d with
 |.func g a b=>κ g a b
 |_=>none
def EE(f:FuncId)(nt:Nat)(go:uw)(rec:qU)(k:List Item)(t:T LD)(L:LS)(ds:List sv)(up:Option fg)(H:DH)(ps:Array Tmp)(a b:Code)(d:D):ai:=(λ_=>match L with
 |[]=>Oe d λg first cap=>notRnd up (aU (rec g (first++(.yld (H.length+1)::cap)) none (H++[.coll,.loop true f nt t ps a b]))
  (λ_ H'=>Df H' (H.length+1) λH'=>go t L k (.coll H.length::ds) .run up H') λc H'=>go t L k (.coll H.length::ds) (.panicking c) up H')
 |_=>none) mq
def Dm(go:uw)(t:T LD)(L:LS)(ds:List sv)(up:Option fg)(H:DH):Option (List Item)->ai
 |some k=>(λ_=>go t L k ds .run up H) mq
 |none=>none
def mA:Code->dg->iL->FuncId->Func->uw->qU->List Item->T LD->LS->List sv->Option fg->DH->ai
 |.ret=>λ_ _ _ _ go _ _ t L ds up H=>zS go t L ds up H (some .ret)
 |.skip=>λ_ _ _ _ go _ k t L ds up H=>go t L k ds .run up H
 |.label _=>λ_ _ _ _ go _ k t L ds up H=>go t L k ds .run up H
 |.seq a b=>λ_ _ _ _ go _ k t L ds up H=>go t L (.code a::.code b::k) ds .run up H
 |.cond c a b=>λ_ _ _ _ go _ k t L ds up H=>gD (iF t c) λd=>brD d (PS t c true λt=>go t L (.code a::k) ds .run up H) (PS t c false λt=>go t L (.code b::k) ds .run up H)
 |.block id c=>λ_ _ _ _ go _ k t L ds up H=>go t L (.code c::.inBlock id::k) ds .run up H
 |.loop c=>λ_ _ _ _ go _ k t L ds up H=>go t L (.code c::.inLoop c::k) ds .run up H
 |.scope c=>λ_ _ _ _ go _ k t L ds up H=>go t L (.code c::.inScope c::k) ds .run up H
 |.exit id=>λ_ _ _ _ go _ k t L ds up H=>Dm go t L ds up H (exitTo id k)
 |.goto l=>λ_ _ _ _ go _ k t L ds up H=>Dm go t L ds up H (gotoIn l k)
 |.region _ ops true=>λE an f fn go rec k t L ds up H=>(match mw ops fn.ntmps with|false=>(none)|true=>((match PT E.E.P ops with
  |some sc=>gI E an ops rec (λt L H=>go t L k ds .run up H) (λc t L H=>go t L k ds (.panicking c) up H) sc [(L,H)] 1 .leaf t L H
  |none=>none)))
 |.region _ ops false=>λE an f fn go rec k t L ds up H=>(match mw ops fn.ntmps with|true=>(qk E an ops rec ops.toList (λt L ds up H=>go t L k ds .run up H) (λc t L ds up H=>go t L k ds (.panicking c) up H) t L ds up H)|false=>(none))
 |.rangeFunc g ps a b=>λ_ _ f fn go rec k t L ds up H=>gD (iF t g) λd=>EE f fn.ntmps go rec k t L ds up H ps a b d
 |_=>λ_ _ _ _ _ _ _ _ _ _ _ _=>none
def RH:Item->dg->iL->FuncId->Func->uw->qU->List Item->T LD->LS->List sv->Option fg->DH->ai
 |.code c=>(λ_=>mA c) mq
 |.inBlock _=>λ_ _ _ _ go _ k t L ds up H=>go t L k ds .run up H
 |.inScope _=>λ_ _ _ _ go _ k t L ds up H=>go t L k ds .run up H
 |.inLoop c=>λ_ _ _ _ go _ k t L ds up H=>go t L (.code c::.inLoop c::k) ds .run up H
 |.beginRound=>λ_ _ _ _ go _ k t L ds up H=>KR go k t L ds up H
 |_=>λ_ _ _ _ _ _ _ _ _ _ _ _=>none
def Lt:List Item->dg->iL->FuncId->Func->uw->qU->T LD->LS->List sv->Option fg->DH->ai
 |[]=>(λ_=>λ_ _ _ _ go _ t L ds up H=>zS go t L ds up H none) mq
 |i::k=>λE an f fn go rec t L ds up H=>RH i E an f fn go rec k t L ds up H
def EH(c:List fX)(a:ai)(b:List fX->ai):ai:=match c with
 |⟨_,true⟩::_=>a
 |c=>b c
def iH(r:ai)(a:DH->ai)(b:List fX->DH->ai):ai:=match r with
 |some ⟨.ret _,some u,H⟩=>match u with
  |.returning=>a H
  |.panicking c=>EH c (a H) λc=>b c H
  |_=>none
 |some ⟨.pan c,some u,H⟩=>match u with
  |.returning=>b c H
  |.panicking old=>b (c++old) H
  |_=>none
 |_=>none
def sr(go:uw)(t:T LD)(L:LS)(ds:List sv)(up:Option fg)(r:ai):ai:=(λ_=>iH r (λH=>go t L [] ds .returning up H) λc H=>go t L [] ds (.panicking c) up H) mq
def uf(H:DH)(o:Nat)(κ:DH->ai):ai:=match H[o]? with
 |some .coll=>κ (H.set o .opq)
 |_=>none
def pc(P:Program)(t:T LD)(L:LS)(H:DH):List ResultVar->(List D->ai)->ai
 |[],κ=>κ []
 |x::r,κ=>match x with
  |.tmp i=>gD (t.get (eX i)) λd=>pc P t L H r λl=>κ (d::l)
  |.cell a ty=>lD (t.get (eX a)) λx=>mj P ty x L H λd=>pc P t L H r λl=>κ (d::l)
def TY:List (Nat×Nat×Hk)->List D->DH->(List D->DH->ai)->ai
 |[],l,H,κ=>κ l H
 |(i,c,h)::r,l,H,κ=>af l i λd=>fH h c d H λd H=>TY r (l.set i d) H κ
def QF:List D->D
 |[d]=>d
 |ds=>.tuple ds
def QA(up:Option fg):Option fg:=match up with
 |some (.round _)=>none
 |up=>up
def ka(E:dg)(an:iL)(fn:Func)(t:T LD)(L:LS)(up:Option fg)(H:DH):fg->ai
 |.returning=>notRnd up (pc E.E.P t L H fn.results.toList λl=>TY an.rfz l H λl H=>some ⟨.ret (QF l),up,H⟩)
 |.panicking c=>some ⟨.pan c,QA up,H⟩
 |_=>none
def jr:List sv->dg->iL->Func->uw->qU->T LD->LS->fg->Option fg->DH->ai
 |.call ⟨f,cap,args⟩::ds=>λ_ _ _ go rec t L m up H=>sr go t L ds up (rec f (args++cap) (some m) H)
 |.coll o::ds=>λ_ _ _ go _ t L m up H=>uf H o λH=>go t L [] ds m up H
 |[]=>λE an fn _ _ t L m up H=>ka E an fn t L up H m
def vk(E:dg)(an:iL)(f:FuncId)(fn:Func)(go:uw)(rec:qU)(t:T LD)(L:LS)(todo:List Item)(ds:List sv)(m:fg)(up:Option fg)(H:DH):ai:=match m with
 |.run=>Lt todo E an f fn go rec t L ds up H
 |.returning=>jr ds E an fn go rec t L .returning up H
 |.panicking c=>jr ds E an fn go rec t L (.panicking c) up H
 |.round _=>none
inductive CA where
 |frame (f:FuncId) (fn:Func) (t:T LD) (L:LS) (todo:List Item) (ds:List sv) (m:fg) (up:Option fg)
 |call (f:FuncId) (args:List D) (up:Option fg)
abbrev aM:=CA->DH->ai
def nM:Code->Nat
 |.region id _ _=>id
 |.seq a b=>match hasReg a with
  |true=>nM a
  |false=>nM b
 |.cond _ a b=>match hasReg a with
  |true=>nM a
  |false=>nM b
 |.block _ c=>nM c
 |.loop c=>nM c
 |.scope c=>nM c
 |_=>0
 where hasReg:Code->Bool
  |.region _ _ _=>true
  |.seq a b=>hasReg a||hasReg b
  |.cond _ a b=>hasReg a||hasReg b
  |.block _ c=>hasReg c
  |.loop c=>hasReg c
  |.scope c=>hasReg c
  |_=>false
def Xm:List Item->Option Nat
 |.code c::.inLoop _::_=>some (nM c+200000)
 |.code (.region id _ _)::_=>some id
 |.code (.cond _ a b)::_=>some (nM (.seq a b)+100000)
 |_=>none
def XD(an:iL)(todo:List Item):Option (List Nat×List Nat):=match an.cuts with
 |[]=>none
 |l=>match Xm todo with
  |some k=>Mp l k
  |none=>none
def yJ(t:T LD):List Nat->(List LD->ai)->ai
 |[],κ=>κ []
 |i::r,κ=>lD (t.get (eX i)) λx=>yJ t r λl=>κ (x::l)
def Xe:List Nat->List LD->T LD->T LD
 |i::r,x::l,t=>Xe r l (T.setQ (some x) (eX i) t id)
 |_,_,t=>t
def tI(ks:List Nat):Nat->LS->LS
 |_,[]=>[]
 |i,(_,cs)::r=>(0,bif Zj i ks then cs else [])::tI ks (i+1) r
def pD:List Nat->Nat
 |[]=>0
 |k::r=>bif Nat.blt k (pD r)then pD r else k+1
def Dd(n:Nat):List LD->Bool
 |[]=>true
 |x::r=>(match x with
  |.lp k _=>Nat.blt k n
  |_=>true)&&Dd n r
def Im(an:iL)(ih:uw)(go:uw):uw:=λt L todo ds m up H=>match m with
 |.run=>match XD an todo with
  |some (live,ks)=>yJ t live λxs=>(match Dd (pD ks) xs with|true=>(ih (Xe live xs .leaf) (tI ks 0 (L.take (pD ks))) todo ds m up H)|false=>(none))
  |none=>go t L todo ds m up H
 |m=>go t L todo ds m up H
mutual
def D.bel(n:Nat):D->Prop
 |.ptr o _=>o<n
 |.bptr o _ _ _=>o<n
 |.tptr o _ _ _=>o<n
 |.buf _ o _=>o<n
 |.tb _ o _ _=>o<n
 |.map o=>o<n
 |.yld o=>o<n
 |.eptr cs _=>eL n cs
 |.row _ l=>eo n l
 |.func _ a b=>eL n a/\eL n b
 |.iface _ d=>d.bel n
 |.agg cs=>eL n cs
 |.tuple ds=>eL n ds
 |_=>True
def eL(n:Nat):List D->Prop
 |[]=>True
 |d::r=>d.bel n/\eL n r
def eo(n:Nat):List (List D)->Prop
 |[]=>True
 |l::r=>eL n l/\eo n r
end
def DB.bel(n:Nat):DB->Prop
 |.dead=>True
 |.cells _ cs=>eL n cs
 |.buf _ _ _ l=>eo n l
 |.tbuf _ _ l=>eo n l
 |.map es=>∀ x∈es,x.1.bel n/\x.2.bel n
 |.loop _ _ _ t _ _ _=>∀ i d,t.get (eX i)=some (.g d)->d.bel n
 |.coll=>True
 |.opq=>True
def CB.bel(n:Nat):CB->Prop
 |.ret d=>d.bel n
 |.pan c=>∀ x∈c,x.v.bel n
def ol(H:DH)(o:jg):Prop:=o.e.bel H.length/\o.up=none/\H.length<=o.H.length/\∀ i b,i<H.length->o.H[i]? = some b->H[i]? = some b\/b.bel H.length
def aY(H:DH)(r:ai):ai:=match r with
 |some o=>open Classical in if ol H o then some ⟨o.e,o.up,o.H.take H.length⟩else none
 |none=>none
def gR{β:Type}:List D->Nat->T LD->(T LD->β)->β
 |[],_,t,k=>(λ_=>k t) mq
 |x::r,i,t,k=>t.setQ (some (.g x)) (eX i) λt=>gR r (i+1) t k
def AY(E:dg)(go:FuncId->Func->uw)(f:FuncId)(args:List D)(up:Option fg)(H:DH):ai:=(λ_=>match E.E.P.funcs[f]? with
 |some fn=>match fn.body with
  |some c=>(match fn.name == "runtime.NumGoroutine" || E.vo f with|true=>(none)|false=>((match(E.ann f).trim with|true=>(aY H (gR args 0 .leaf λt=>go f fn t [] [.code c] [] .run up H))|false=>(gR args 0 .leaf λt=>go f fn t [] [.code c] [] .run up H))))
  |none=>none
 |none=>none) mq
def np{β:Type}:T LD->List Tmp->List D->(T LD->β)->β
 |t,p::ps,x::xs,k=>(λ_=>t.setQ (some (.g x)) (eX p) λt=>np t ps xs k) mq
 |t,_,_,k=>k t
def uD(E:dg)(go:FuncId->Func->uw)(o:Nat)(args:List D)(H:DH):ai:=(λ_=>match H[o]? with
 |some (.loop _ f nt t ps a b)=>match E.E.P.funcs[f]? with
  |some fn=>(match Nat.ble fn.ntmps nt&&Nat.beq ps.size args.length&&ps.toList.all (λp=>Nat.blt p nt)with|true=>(np t ps.toList args λt=>go f fn t [] [.code a,.beginRound,.code b] [] .run (some (.round o)) H)|false=>(none))
  |none=>none
 |_=>none) mq
def QB(E:dg)(f:FuncId)(args:List D)(H:DH)(up:Option fg)(k:ai):ai:=(λ_=>match(match up with|none=>E.orc f args H|some _=>none)with
 |some (d,H)=>some ⟨.ret d,up,H⟩
 |none=>k) mq
def Nf(E:dg)(go:FuncId->Func->uw)(f:FuncId)(args:List D)(up:Option fg)(H:DH):ai:=(λ_=>match up with
 |some (.round o)=>uD E go o args H
 |up=>QB E f args H up (AY E go f args up H)) mq
def Pd(ih:aM)(f:FuncId)(fn:Func):uw:=(λ_=>λt L todo ds m up H=>ih (.frame f fn t L todo ds m up) H) mq
def yW(ih:aM):qU:=(λ_=>λf args up H=>ih (.call f args up) H) mq
def sK(E:dg)(ih:aM)(go:FuncId->Func->uw):aM
 |.frame f fn t L todo ds m up,H=>vk E (E.ann f) f fn (Im (E.ann f) (Pd ih f fn) (go f fn)) (yW ih) t L todo ds m up H
 |.call f args up,H=>Nf E go f args up H
def dK(E:dg):Nat->aM
 |0=>λ_ _=>none
 |n+1=>sK E (dK E n) (Pd (dK E n))
def NB(E:dg)(R:aM):Nat->aM
 |0=>R
 |n+1=>sK E R (Pd (NB E R n))
end
def Al{α:Type}(c:(α->ai)->ai):Prop:=∀ κ out,c κ=some out->∃ a,∀ κ',c κ'=κ' a
variable{α β:Type}
theorem Al.ret(a:α):Al (λκ=>κ a):=λ_ _ _=>⟨a,λ_=>rfl⟩
theorem Al.none:Al (fun(_:α->ai)=>none):=λ_ _ h=>by cases h
theorem Al.bind{c:(α->ai)->ai}{d:α->(β->ai)->ai}(h:Al c)(k:∀ a,Al (d a)):Al (λκ=>c λa=>d a κ):=λκ out e=>by obtain⟨a,i⟩:=h _ out e;obtain⟨x,j⟩:=k a κ out ((i _).symm.trans e);exact⟨x,λ_=>(i _).trans (j _)⟩
theorem Al.map{c:(α->ai)->ai}(h:Al c)(f:α->β):Al (λκ=>c λa=>κ (f a)):=h.bind λa=>.ret (f a)
theorem Al.boK(b:Bool){c:(α->ai)->ai}(h:Al c):Al (λκ=>boK b (c κ)):=by
 cases b
 .exact .none
 .exact h
theorem Al.cond(b:Bool){c d:(α->ai)->ai}(h:Al c)(k:Al d):Al (λκ=>cond b (c κ) (d κ)):=by
 cases b
 .exact k
 .exact h
theorem dt{x:Option LD}:Al (gD x):=by
 cases x with
 |none=>exact .none
 |some x=>cases x<;>first|exact .ret _|exact .none
theorem rD{x:Option LD}:Al (lD x):=by
 cases x with
 |none=>exact .none
 |some x=>exact .ret x
theorem uq(t:T LD):∀ l,Al (HP t l)
 |[]=>.ret []
 |x::r=>(dt).bind λd=>(uq t r).map (d::·)
theorem Gf(cs:List D)(c:Nat):Al (af cs c):=by
 unfold af;cases cs[c]? with
 |none=>exact .none
 |some d=>exact .ret d
theorem IH:∀ n cs c,Al (CH n cs c)
 |0,_,_=>.ret []
 |n+1,cs,c=>(Gf cs c).bind λd=>(IH n cs (c+1)).map (d::·)
theorem qL{n:Nat}{d:D}:Al (ah n d):=by cases d<;>first|exact .none|exact Al.cond _ (.ret _) .none
theorem Nq{c:(β->ai)->Nat->List D->ai}{H:DH}{o:Nat}(h:∀ st cs,Al (λκ=>c κ st cs)):Al (λκ=>am H o (c κ)):=by
 unfold am;split
 .exact h _ _
 .exact .none
theorem yt{c:(β->ai)->Nat->Bool->Bool->List (List D)->ai}{H:DH}{o n:Nat}(h:∀ sz st cap l,Al (λκ=>c κ sz st cap l)):Al (λκ=>dl H o n (c κ)):=by
 unfold dl;split
 .exact Al.cond _ (h _ _ _ _) .none
 .exact .none
theorem aaS{c:(β->ai)->Nat->List (List D)->ai}{H:DH}{o s:Nat}(h:∀ sz l,Al (λκ=>c κ sz l)):Al (λκ=>IX H o s (c κ)):=by
 unfold IX;split
 .exact Al.cond _ (h _ _) .none
 .exact .none
theorem Gc{H:DH}{o:Nat}:Al (ig H o):=by
 unfold ig;split
 .exact .ret _
 .exact .none
theorem lM{n:Int}:Al (dV n):=by
 cases n
 .exact .ret _
 .exact .none
theorem uo{l:List (List D)}{i:Nat}:Al (bZ l i):=by
 unfold bZ;split
 .exact .ret _
 .exact .none
theorem yq{cs:List D}{c:Nat}{new:List D}:Al (aw cs c new):=by
 unfold aw;split
 .exact .ret _
 .exact .none
theorem eN{P:Program}{ty:TypeId}{cs:List D}{c:Nat}:Al (br P ty cs c):=by
 unfold br;split
 .split
  .exact Al.cond _ ((IH _ _ _).map _) .none
  .exact .none
 .exact Gf _ _
 .exact .none
theorem SV{P:Program}{ty:TypeId}{d:D}{H:DH}:Al (bW P ty d H):=by
 cases d<;>first
  |exact .none
  |exact eN
  |exact Nq λ_ _=>eN
  |exact yt λ_ _ _ _=>(uo).bind λ_=>eN
  |exact aaS λ_ _=>(uo).bind λ_=>eN
theorem IK{P:Program}{ty:TypeId}{x:LD}{L:LS}{H:DH}:Al (mj P ty x L H):=by
 cases x with
 |g d=>exact SV
 |lp k c =>
  show Al (λκ=>mj P ty (.lp k c) L H κ);simp only[mj];split
  .grind [eN]
  .exact .none
 |u=>exact .none
theorem aaT{d:D}{new:List D}{H:DH}:Al (IY d new H):=by
 cases d<;>first
  |exact .none
  |exact Nq λ_ _=>(yq).map _
  |exact yt λ_ st _ _=>Al.boK st ((uo).bind λ_=>(yq).map _)
def gw(c:(α->β->ai)->ai):Prop:=∀ κ out,c κ=some out->∃ a b,∀ κ',c κ'=κ' a b
theorem gw.bind{γ:Type}{c:(α->β->ai)->ai}{d:α->β->(γ->ai)->ai}(h:gw c)(k:∀ a b,Al (d a b)):Al (λκ=>c λa b=>d a b κ):=λκ out e=>by obtain⟨a,b,i⟩:=h _ out e;obtain⟨x,j⟩:=k a b κ out ((i _).symm.trans e);exact⟨x,λ_=>(i _).trans (j _)⟩
theorem gw.ret(a:α)(b:β):gw (λκ=>κ a b):=λ_ _ _=>⟨a,b,λ_=>rfl⟩
theorem gw.none:gw (fun(_:α->β->ai)=>none):=λ_ _ h=>by cases h
theorem Wf(P:Program)(ty:TypeId)(H:DH)(r:List DH)(o n i c:Nat):Al (JA P ty H r o n i c):=by
 unfold JA;refine yt λsz st cap l=>(uo).bind λcs=>(eN).bind λd=>?_;split
 .exact .ret _
 .exact .none
theorem Wk(P:Program)(ty:TypeId)(d:D)(H:DH)(r:List DH):Al (Kf P ty d H r):=by
 unfold Kf;split
 .grind [Wf]
 grind [SV]
theorem OJ(P:Program)(ty:TypeId)(x:LD)(L:LS)(H:DH)(r:List DH):Al (rS P ty x L H r):=by
 unfold rS;split
 .grind [Wk]
 grind [IK]
theorem Al.bind2{γ:Type}{c:(γ->ai)->ai}{d:γ->(α->β->ai)->ai}(h:Al c)(k:∀ a,gw (d a)):gw (λκ=>c λa=>d a κ):=λκ out e=>by obtain⟨a,i⟩:=h _ out e;obtain⟨x,y,j⟩:=k a κ out ((i _).symm.trans e);exact⟨x,y,λ_=>(i _).trans (j _)⟩
theorem gw.boK(b:Bool){c:(α->β->ai)->ai}(h:gw c):gw (λκ=>Go.AI.boK b (c κ)):=by
 cases b
 .exact .none
 .exact h
theorem gw.cond(b:Bool){c d:(α->β->ai)->ai}(h:gw c)(k:gw d):gw (λκ=>cond b (c κ) (d κ)):=by
 cases b
 .exact k
 .exact h
theorem qc{γ:Type}{c:(γ->β->ai)->Nat->Bool->Bool->List (List D)->ai}{H:DH}{o n:Nat}(h:∀ sz st cap l,gw (λκ=>c κ sz st cap l)):gw (λκ=>dl H o n (c κ)):=by
 unfold dl;split
 .exact gw.cond _ (h _ _ _ _) .none
 .exact .none
theorem Nt{γ:Type}{c:(γ->β->ai)->Nat->List (List D)->ai}{H:DH}{o s:Nat}(h:∀ sz l,gw (λκ=>c κ sz l)):gw (λκ=>IX H o s (c κ)):=by
 unfold IX;split
 .exact gw.cond _ (h _ _) .none
 .exact .none
theorem OH{P:Program}{ty:TypeId}{x:LD}{v:D}{L:LS}{H:DH}:gw (yG P ty x v L H):=by
 unfold yG;split
 .dsimp only;split
  .exact .none
  refine(qL).bind2 λnew=>?_;cases x with
  |g d=>exact(aaT).bind2 λH=>.ret L H
  |lp k c =>
   simp only;split
   .exact(yq).bind2 λ_=>.ret _ _
   .exact .none
  |u=>exact .none
 .exact .none
theorem BD(place:Nat->Option (Nat×Nat))(t:T LD):∀ l cs,Al (DA place t l cs)
 |[],cs=>.ret cs
 |(i,x)::r,cs=>by
  refine(dt).bind λd=>?_;split
  .exact .none
  .exact Al.cond _ ((qL).bind λ_=>(yq).bind λ_=>BD place t r _) .none
theorem OR{P:Program}{t:T LD}{ty:TypeId}{parts:List (Nat×Operand)}:Al (Bt P t ty parts):=by
 unfold Bt;split
 .split
  .exact Al.cond _ ((BD _ _ _ _).map _) .none
  .split
   .exact(BD _ _ _ _).map _
   .exact .none
  .exact .none
 .exact .none
theorem wU(t:T LD)(n len:Nat):∀ l cs,Al (oW t n len l cs)
 |[],cs=>.ret cs
 |(i,x)::r,cs=>(dt).bind λd=>Al.cond _ ((qL).bind λ_=>wU t n len r _) .none
theorem BE{P:Program}{t:T LD}{ty:TypeId}{len:Nat}{parts:List (Nat×Operand)}:Al (jc P t ty len parts):=by
 unfold jc;split
 .split
  .split
   .exact Al.cond _ ((wU _ _ _ _ _).map _) .none
   .exact .none
  .exact .none
 .exact .none
theorem Wr{x:LD}:Al (VP x):=by
 cases x with
 |g d=>cases d<;>first|exact .none|exact .ret _
 |lp k c=>exact .ret _
 |u=>exact .none
theorem Wm{op:BinOp}{k:IntKind}{a b:Int}:Al (Zy op k a b):=by cases op<;>first|exact .none|exact .ret _|exact Al.boK _ (.ret _)
theorem We{op:BinOp}{a b:List Nat}:Al (Yp op a b):=by cases op<;>first|exact .none|exact .ret _|exact Al.boK _ (.ret _)
theorem Ns(P:Program){eq:TypeId->D->D->(Bool->ai)->ai}(h:∀ t x y,Al (eq t x y)):∀ fs xs ys q,Al (oG P eq fs xs ys q)
 |[],_,_,q=>.ret q
 |f::r,xs,ys,q=>Al.cond _ .none ((eN).bind λa=>(eN).bind λb=>(h _ a b).bind λp=>Ns P h r xs ys _)
theorem Ge(P:Program):∀ d t x y,Al (On P d t x y)
 |0,_,_,_=>.none
 |d+1,t,x,y=>by
  show Al (λκ=>On P (d+1) t x y κ);simp only[On];split
  .split
   .exact Al.cond _ .none (Ns P (Ge P d) _ _ _ _)
   .exact .none
  all_goals first
   |exact .none
   |(split<;>first|exact .ret _|exact .none|exact Al.cond _ (.ret _) .none)
theorem Wg{op:BinOp}{x:D}:Al (zC op x):=by
 unfold zC;refine Al.cond _ ?_ .none;split
 .exact .ret _
 .rename_i l;cases l<;>exact .ret _
 .rename_i n;cases n<;>exact .ret _
 .exact .none
theorem Ws{P:Program}{op:BinOp}{t:TypeId}{c:Bool}{x y:D}:Al (aC P op t c x y):=by
 unfold aC;split
 .exact Al.cond _ .none (Al.cond _ (Wm) .none)
 .exact We
 .refine Al.cond _ ?_ .none;split
  .exact(Ge _ _ _ _ _).map _
  .exact(Ge _ _ _ _ _).map _
  .exact .none
theorem aaQ{op:UnOp}{x:D}:Al (ib op x):=by
 unfold ib;split
 .split<;>first|exact .ret _|exact .none
 .split<;>first|exact .ret _|exact .none
 .exact .none
theorem SW{P:Program}{a dst:TypeId}{x:D}:Al (wR P a dst x):=by
 unfold wR;refine Al.cond _ .none ?_;split
 .split<;>first|exact .ret _|exact .none
 .split<;>first|exact .ret _|exact .none
 .exact .none
theorem Wh{P:Program}{el:TypeId}{n:Nat}:gw (QX P el n):=by
 unfold QX;split
 .split
  .exact gw.cond _ (gw.boK _ (.ret _ _)) .none
  .exact .none
 .exact .none
theorem jJ{o:Option D}{d:Nat}:Al (vI o d):=by
 unfold vI;split
 .exact lM
 .exact .none
 .exact .ret _
theorem Gd{t:T LD}{x:Option Operand}:Al (Om t x):=by
 cases x with
 |none=>exact .ret _
 |some x=>exact(dt).map _
theorem II{sz:Nat}{l:List (List D)}{lo hi:Option D}:Al (GI sz l lo hi) :=
 (jJ).bind λ_=>(jJ).bind λ_=>Al.boK _ (.ret _)
theorem OI{P:Program}{t:TypeId}{x:D}{lo hi mx:Option D}{H:DH}:gw (dW P t x lo hi mx H):=by
 unfold dW;split
 .split
  .split
   .exact(jJ).bind2 λ_=>(jJ).bind2 λ_=>gw.boK _ (.ret _ _)
   .exact .none
  .exact .none
 .split
  .split
   .split
    .exact gw.cond _ ((II).bind2 λ_=>.ret _ _) .none
    .exact qc λ_ _ _ _=>gw.boK _ ((II).bind2 λ_=>.ret _ _)
    .exact(jJ).bind2 λ_=>(jJ).bind2 λ_=>gw.boK _ (.ret _ _)
    .exact .none
   .refine(jJ).bind2 λ_=>(jJ).bind2 λ_=>(jJ).bind2 λ_=>gw.cond _ ?_ .none;split
    .exact gw.cond _ (.ret _ _) .none
    .exact qc λ_ _ _ _=>gw.boK _ (.ret _ _)
    .exact .ret _ _
    .exact .none
  .exact .none
 .exact .none
theorem aaR{P:Program}{t:TypeId}{x:D}{lo hi mx:Option D}{H:DH}:gw (Pc P t x lo hi mx H):=by
 unfold Pc;split
 .split
  .split
   .split
    .split
     .refine(lM).bind2 λ_=>?_;split
      .exact gw.cond _ (qc λ_ _ _ _=>gw.boK _ (.ret _ _)) .none
      .exact gw.cond _ (Nt λ_ _=>gw.boK _ (.ret _ _)) .none
      .exact .none
     .exact .none
    .exact .none
   .exact .none
  .exact .none
 .exact .none
theorem Wo{x:LD}{off:Nat}:Al (Vt x off):=by
 cases x with
 |g d=>cases d<;>first|exact .none|exact .ret _
 |lp k c=>exact .ret _
 |u=>exact .none
theorem OO{P:Program}{ty:TypeId}{x:LD}{f:Nat}:Al (At P ty x f):=by
 unfold At;split
 .split
  .exact Al.cond _ .none (Wo)
  .exact .none
 .exact .none
theorem ON{P:Program}{ty:TypeId}{x:D}{f:Nat}:Al (sh P ty x f):=by
 unfold sh;split
 .split
  .split
   .exact eN
   .exact .none
  .exact .none
 .exact .none
theorem Wl{x:D}{sz:Nat}{i:Int}:Al (Hu x sz i):=by
 unfold Hu;split
 .exact Al.cond _ ((lM).bind λ_=>(uo).map _) .none
 .exact Al.cond _ ((lM).bind λ_=>Al.boK _ (.ret _)) .none
 .exact Al.cond _ ((lM).bind λ_=>Al.boK _ (.ret _)) .none
 .exact .none
theorem OL{P:Program}{ty:TypeId}{x i:D}:Al (ay P ty x i):=by
 unfold ay;split
 .split
  .split
   .exact Wl
   .exact .none
  .exact .none
 .exact .none
theorem SX{l:List Nat}{i:Nat}:Al (Bq l i):=by
 unfold Bq;split
 .exact .ret _
 .exact .none
theorem OK{P:Program}{ty:TypeId}{x i:D}:Al (kb P ty x i):=by
 unfold kb;split
 .split
  .split
   .exact(lM).bind λ_=>SX
   .exact .none
  .exact .none
 .split
  .split
   .split
    .exact(lM).bind λ_=>Al.cond _ (eN) .none
    .exact .none
   .exact .none
  .exact .none
 .exact .none
theorem ST{k:D}{es:List (D×D)}:Al (py k es):=by
 unfold py;split
 .exact .ret _
 .exact .none
theorem SS{k v:D}{es:List (D×D)}:Al (fY k v es):=by
 unfold fY;split
 .exact .ret _
 .exact .none
theorem DT{P:Program}{el:TypeId}{ok:Bool}{o:Option D}:Al (iE P el ok o):=by
 unfold iE;split
 .exact .ret _
 .split
  .exact .ret _
  .exact .none
theorem SU{P:Program}{ty:TypeId}{m k:D}{ok:Bool}{H:DH}:Al (ip P ty m k ok H):=by
 unfold ip;split
 .split
  .exact Al.cond _ ((Gc).bind λ_=>(ST).bind λ_=>DT) .none
  .grind [DT]
  .exact .none
 .exact .none
theorem IJ{P:Program}{ty:TypeId}{m k v:D}{H:DH}:Al (jp P ty m k v H):=by
 unfold jp;split
 .split
  .exact Al.cond _ ((Gc).bind λ_=>(SS).map _) .none
  .exact .none
 .exact .none
theorem KV{P:Program}{x:D}{ty:TypeId}{ok:Bool}:Al (jI P x ty ok):=by
 unfold jI;split
 .exact .none
 .split
  .refine Al.cond _ (.ret _) (Al.cond _ ?_ .none);split<;>first|exact .ret _|exact .none
  .refine Al.cond _ ?_ .none;split<;>first|exact .ret _|exact .none
  .exact .none
 .exact .none
theorem Wp{x:D}{i:Nat}:Al (ei x i):=by
 unfold ei;split
 .exact Gf _ _
 .exact .none
theorem Wq{y:D}{H:DH}{sz:Nat}:Al (vw y H sz):=by
 unfold vw;split
 .exact Al.cond _ (.ret _) .none
 .exact .ret _
 .exact Al.cond _ (yt λ_ _ _ _=>.ret _) .none
 .exact .none
theorem Wn{o sz:Nat}{st cap:Bool}{l els:List (List D)}{H:DH}:gw (grow o sz st cap l els H):=by unfold grow;exact gw.cond _ (.ret _ _) (.ret _ _)
theorem Wu{ok:Nat->Bool}{sz:Nat}{x:D}{els:List (List D)}{H:DH}:gw (bX ok sz x els H):=by
 unfold bX;refine gw.boK _ ?_;split
 .split
  .exact .ret _ _
  .exact .ret _ _
 .exact gw.cond _ (qc λ_ _ _ _=>gw.boK _ (Wn)) .none
 .exact gw.cond _ (Nt λ_ _=>gw.boK _ (.ret _ _)) .none
 .exact .none
theorem KW{P:Program}{sT xT:TypeId}{x y:D}{H:DH}:gw (ul P sT xT x y H):=by
 unfold ul;split
 .dsimp only;split
  .exact .none
  split
  .split
   .exact(Wq).bind2 λ_=>Wu
   .exact .none
  .exact .none
 .exact .none
theorem Wj{P:Program}{t:TypeId}{x:D}{H:DH}:Al (aS P t x H):=by
 unfold aS;split
 .split<;>first|exact .ret _|exact .none
 .split<;>first|exact .ret _|exact .none
 .split
  .exact(Gc).map _
  .exact .ret _
  .exact .none
 .exact .none
theorem Wi(g:Bool)(x y:D):Al (JW g x y):=by
 unfold JW;split
 .split
  .exact Al.cond _ (.ret _) .none
  .exact .none
 .exact .none
theorem BC(g:Bool):∀ l x,Al (pz g x l)
 |[],x=>.ret x
 |y::r,x=>(Wi g x y).bind λz=>BC g r z
theorem Nr{esc:Bool}{cs:List D}{L:LS}{H:DH}:Al (NT esc cs L H):=by unfold NT;exact Al.cond _ (.ret _) (.ret _)
theorem OP{E:dI}{L:LS}{H:DH}{args:List D}{f:D}:Al (FV E L H args f):=by
 unfold FV;split
 .exact Al.cond _ (.ret _) .none
 .exact .none
theorem SR{L:LS}{H:DH}{args:List D}{f:D}:Al (Lf L H args f):=by
 unfold Lf;split
 .exact .ret _
 .exact .none
theorem OQ{P:Program}{b:Builtin}{ts:Array TypeId}{args:List D}{L:LS}{H:DH}:Al (oh P b ts args L H):=by
 unfold oh;split
 .split
  .split
   .split
    .exact(KW).bind λ_ _=>.ret _
    .exact .none
   .exact .none
  .exact .none
 .split
  .split
   .exact(Wj).map _
   .exact .none
  .exact .none
 .split
  .exact(BC _ _ _).map _
  .exact .none
 .split
  .exact(BC _ _ _).map _
  .exact .none
 .exact .ret _
 .split
  .exact .ret _
  .exact .none
 .exact .none
def LA(t:T LD)(o:Operand)(b:Bool):T LD:=match o with
 |.tmp i=>T.set (some (.g (.bool b))) (eX i) t
 |_=>t
theorem sO(t:T LD)(o:Operand)(b:Bool)(κ:T LD->ai):PS t o b κ=κ (LA t o b):=by cases o<;>first|rfl|exact T.setQ_eq _ _ _ _
theorem vL{o:Op}{E:dg}{esc:Bool}{t:T LD}{L:LS}{H:DH}:gw (lX o E esc t L H):=by
 have r:∀(x:BS),gw (fun(κ:T LD->BS->ai)=>κ t x):=λx=>.ret t x;show gw (λκ=>lX o E esc t L H κ);cases o with
 |move x=>exact(rD).bind2 λ_=>r _
 |assign x=>exact(rD).bind2 λ_=>r _
 |pick c a b =>
  refine(dt).bind2 λd=>?_;cases d<;>first|exact .none|skip
  rename_i q;simp only[sO];cases q
  .exact(rD).bind2 λ_=>.ret _ _
  .exact(rD).bind2 λ_=>.ret _ _
 |alloc elem =>
  simp only[lX];split
  .exact(Nr).bind2 λx=>r x
  .exact .none
 |box elem x =>
  simp only[lX];split
  .exact(dt).bind2 λd=>(qL).bind2 λcs=>(Nr).bind2 λx=>r x
  .exact .none
 |build ty parts=>simp only[lX];exact(OR).bind2 λ_=>r _
 |buildSlice ty len parts=>simp only[lX];exact(BE).bind2 λ_=>r _
 |load ty x=>exact(rD).bind2 λ_=>(IK).bind2 λ_=>r _
 |store ty x y=>exact(rD).bind2 λ_=>(dt).bind2 λ_=>λκ out e=>(by obtain⟨a,b,h⟩:=OH _ _ e;exact⟨t,.skip a b,λκ'=>h _⟩)
 |nilCheck x=>exact(rD).bind2 λ_=>(Wr).bind2 λ_=>r _
 |binOp op ty x y _ =>
  simp only[lX];refine(dt).bind2 λ_=>(dt).bind2 λ_=>?_;cases rX y with
  |false=>exact(Ws).bind2 λ_=>r _
  |true =>
   dsimp only;split
   .exact(Wg).bind2 λ_=>r _
   .exact .none
 |unOp op _ x=>exact(dt).bind2 λ_=>(aaQ).bind2 λ_=>r _
 |convert _ dst x=>exact(dt).bind2 λ_=>(SW).bind2 λ_=>r _
 |makeInterface ty x =>
  refine(dt).bind2 λa=>?_;split
  .exact .none
  .exact r _
  .exact .none
 |makeFunc fn first cap =>
  simp only[lX];split
  .exact(uq _ _).bind2 λ_=>(uq _ _).bind2 λ_=>r _
  .exact .none
 |makeMap ty n=>cases n<;>first|exact r _|exact .none
 |makeSlice ty l c =>
  simp only[lX];split
  .split
   .split
    .split
     .exact .none
     refine(dt).bind2 λd=>?_;split
     .exact(lM).bind2 λn=>λκ out e=>(by obtain⟨a,b,h⟩:=Wh _ _ e;exact⟨t,_,λκ'=>h _⟩)
     .exact .none
    .exact .none
   .exact .none
  .exact .none
 |slice ty x lo hi mx=>exact(dt).bind2 λ_=>(Gd).bind2 λ_=>(Gd).bind2 λ_=>(Gd).bind2 λ_=>λκ out e=>(by
  cases esc
  .obtain⟨a,b,h⟩:=OI _ _ e;exact⟨t,_,λκ'=>h _⟩
  .obtain⟨a,b,h⟩:=aaR _ _ e;exact⟨t,_,λκ'=>h _⟩)
 |fieldAddr ty x f=>exact(rD).bind2 λ_=>(OO).bind2 λ_=>r _
 |field ty x f=>exact(dt).bind2 λ_=>(ON).bind2 λ_=>r _
 |indexAddr ty x i=>exact(dt).bind2 λ_=>(dt).bind2 λ_=>(OL).bind2 λ_=>r _
 |index ty x i=>exact(dt).bind2 λ_=>(dt).bind2 λ_=>(OK).bind2 λ_=>r _
 |lookup ty x k ok=>exact(dt).bind2 λ_=>(dt).bind2 λ_=>(SU).bind2 λ_=>r _
 |mapUpdate ty m k x=>exact(dt).bind2 λ_=>(dt).bind2 λ_=>(dt).bind2 λ_=>(IJ).bind2 λ_=>r _
 |insert ty m k x=>exact(dt).bind2 λ_=>(dt).bind2 λ_=>(dt).bind2 λ_=>(IJ).bind2 λ_=>r _
 |typeAssert x _ ty ok=>exact(dt).bind2 λ_=>(KV).bind2 λ_=>r _
 |extract x i=>exact(dt).bind2 λ_=>(Wp).bind2 λ_=>r _
 |call c =>
  simp only[lX];refine(uq _ _).bind2 λargs=>?_;split
  .exact(OQ).bind2 λx=>r x
  .refine(dt).bind2 λf=>?_;cases esc
   .exact(OP).bind2 λx=>r x
   .exact(SR).bind2 λx=>r x
  .exact .none
 |defer c =>
  simp only[lX];refine(uq _ _).bind2 λargs=>?_;split
  .refine(dt).bind2 λf=>?_;split
   .exact gw.cond _ (r _) .none
   .exact .none
  .exact .none
 |panic x =>
  simp only[lX];refine(dt).bind2 λx=>?_;split
  .exact r _
  .exact .none
 |_=>exact .none
theorem IL{h:Hk}{d:D}{H:DH}:gw (iW h d H):=by
 unfold iW;split
 .split
  .exact qc λ_ _ _ _=>gw.boK _ (.ret _ _)
  .exact .ret _ _
  .exact .ret _ _
  .exact .none
 .split
  .exact gw.cond _ (.ret _ _) .none
  .exact .ret _ _
  .exact .none
theorem OM(h:Hk)(c:Nat)(d:D)(H:DH):gw (fH h c d H):=by
 unfold fH;split
 .refine(Gf _ _).bind2 λx=>λκ out e=>?_;obtain⟨a,b,k⟩:=IL _ _ e;exact⟨_,_,λκ'=>k _⟩
 .exact gw.cond _ (IL) .none
theorem gw.bind2{γ δ:Type}{c:(α->β->ai)->ai}{d:α->β->(γ->δ->ai)->ai}(h:gw c)(k:∀ a b,gw (d a b)):gw (λκ=>c λa b=>d a b κ):=λκ out e=>by obtain⟨a,b,i⟩:=h _ out e;obtain⟨x,y,j⟩:=k a b κ out ((i _).symm.trans e);exact⟨x,y,λ_=>(i _).trans (j _)⟩
theorem DS:∀ l d H,gw (Ae l d H)
 |[],d,H=>.ret d H
 |(c,h)::r,d,H=>(OM h c d H).bind2 λd H=>DS r d H
theorem qb{a:List (Nat×List (Nat×Hk))}{dst:Option Tmp}{x:LD}{H:DH}:gw (tM a dst x H):=by
 unfold tM;split
 .exact .ret _ _
 .split
  .exact .ret _ _
  .split
   .exact .ret _ _
   .split
    .exact(DS _ _ _).bind2 λ_ _=>.ret _ _
    .exact .none
theorem Kj(x:V)(r:List V)(i:Nat)(t:T V):lr (x::r) i t id=lr r (i+1) (putD t (some i) x) id:=by simp only[lr,T.setK_eq];rfl
theorem HB(t:T V)(d i:Nat)(v:V):(putD t (some d) v).get (eX i)=if d=i then some v else t.get (eX i):=by rw[HC];simp
theorem iG(P:Program)(s:S)(ty:TypeId)(a:Ad):jm P s ty (some (.ptr a))=bL s (loadVar P s ty a):=rfl
theorem wP(P:Program)(s:S)(ty:TypeId)(a:Ad)(v:V):tU P s ty (some (.ptr a)) (some v)=JI (storeVar P s ty a v):=rfl
def WF(s:S):Prop:=∀ f B,s.get f=some B->f<s.next
def Ex(a s:S):Prop:=∀ f vs,a.get f=some (.ro vs)->s.get f=some (.ro vs)
structure Fw(F:List Nat)(s s':S):Prop where
 keep:∀ g B,g∉F->s.get g=some B->s'.get g=some B
 ro:∀ g vs,s.get g=some (.ro vs)->s'.get g=some (.ro vs)
 next:s.next<=s'.next
 wf:WF s->WF s'
theorem Fw.alloc(F:List Nat){s:S}(c:WF s)(B:dY):Fw F s (s.alloc B):=by
 refine⟨λg C _ a=>?_,λg vs a=>?_,by rw[S.next_alloc];omega,λ_ g C a=>?_⟩
 .rw[S.get_alloc,afp (by have:=c g C a;omega)];exact a
 .rw[S.get_alloc,afp (by have:=c g _ a;omega)];exact a
 .rw[S.get_alloc]at a;rw[S.next_alloc];split at a
  .omega
  .have:=c g C a;omega
def vP(s:S):List (Nat×dY)->Prop
 |[]=>True
 |(f,B)::m=>(s.get f=some B/\(∀ vs,B≠.ro vs)/\∀ x∈m,x.1≠f)/\vP s m
theorem vP.keep:∀ {s s':S} {m:List (Nat×dY)},vP s m->(∀ x∈m,s'.get x.1=some x.2)->vP s' m
 |s,s',[],_,_=>trivial
 |s,s',(g,C)::m,h,k=>⟨⟨k (g,C) (by simp),h.1.2⟩,vP.keep h.2 λx a=>k x (abi _ a)⟩
section
variable{s:S}{f:Nat}{e:TypeId}{sb:Bool}{nv:Nat}{cs:List V}
theorem qS(c:Nat):Nat.ble 0 c=true:=abk (ajg c)
theorem ldn(h:s.get f=some (.cells e sb nv [⟨0,0,cs⟩]))(c n:Nat):loadCells s ⟨f,0,c⟩ n=bj n (cs.drop c):=by simp_all[loadCells,bI,qS]
theorem gH(h:s.get f=some (.cells e sb nv [⟨0,0,cs⟩]))(c:Nat)(new:List V)(a:new.all V.one=true){cs':List V}(d:cA cs c new=some cs'):storeCells s ⟨f,0,c⟩ new=some (s.put f (.cells e sb nv [⟨0,0,cs'⟩])):=by unfold storeCells;rw[h];simp[bI,a,d,qS]
end
theorem gT{s:S}{B:dY}:(s.alloc B).get s.next=some B:=by rw[S.get_alloc,agC rfl]
theorem Lg(n:Int)(h:-9223372036854775808<=n/\n<=9223372036854775807):IntKind.i64.wrap n=n:=IntWalk.i64_in n h
theorem dG:∀(l:List V) (n:Nat),l.length=n->bj n l=some l
 |[],0,_=>rfl
 |[],_+1,h=>by simp at h
 |_::_,0,h=>by simp at h
 |x::l,n+1,h=>by simp[bj,dG l n (by simpa using h)]
structure Gh where
 O:List (Option (Nat×Nat))
 H:DH
 Pv:List Nat
 s:S
def Gh.Imm(g:Gh)(f:Nat):Prop:=f<g.s.next/\f∉g.Pv/\∀(o v:Nat),g.O[o]? = some (some (f,v))->∃ sz cap l,g.H[o]? = some (DB.buf sz false cap l)
def aW(vs:List V):Prop:=vs.all V.one=true
def KN(cap:Bool)(n:Nat):Option Nat:=bif cap then some n else none
def Cz(g:Gh)(o:Nat):Prop:=∃ z s l,g.H[o]? = some (DB.tbuf z s l)
def aiF(sz n:Nat)(v:V):Prop:=(n=0/\(v=.nilslice\/∃ a z sz',v=.slice a z 0 (some 0) sz'))\/∃ a z c,v=.slice a z n c sz
def Tk(g:Gh)(sz o n:Nat)(v:V):Prop:=(Cz g o/\aiF sz n v)\/∃ st cap l,g.H[o]? = some (DB.buf sz st cap l)/\n<=l.length /\
 ((n=0/\(v=.nilslice\/∃ a z sz',v=.slice a z 0 (some 0) sz'))\/(0<n/\∃ f ver ver' cap',g.O[o]? = some (some (f,ver))/\v=.slice ⟨f,ver',0⟩ 0 n cap' sz/\(n=l.length->ver'=ver/\cap'=KN cap n)))
mutual
def RD(g:Gh):D->V->Prop
 |.bool b,v=>v=.bool b
 |.int k n,v=>v=.int k n
 |.str l,v=>v=.str l/\∀ c∈l,c<256
 |.ptr o c,v=>∃ f ver,g.O[o]? = some (some (f,ver))/\v=.ptr ⟨f,0,c⟩
 |.eptr cs c,v=>∃ a vs,v=.ptr (cq a c)/\g.Imm a.f/\loadCells g.s a cs.length=some vs/\RL g cs vs/\aW vs
 |.tptr o s i c,v=>∃ f ver sz s' l ver',g.O[o]? = some (some (f,ver))/\g.H[o]? = some (DB.tbuf sz s' l)/\s<=s'/\v=.ptr ⟨f,ver',i*sz+c⟩/\(s=s'->i<l.length/\ver'=ver)
 |.tb sz o s k,v=>∃ f ver s' l ver',g.O[o]? = some (some (f,ver))/\g.H[o]? = some (DB.tbuf sz s' l)/\s<=s'/\v=.slice ⟨f,ver',0⟩ 0 k none sz/\(s=s'->k=l.length/\ver'=ver)
 |.bptr o n i c,v=>(Cz g o/\∃ a,v=.ptr a)\/∃ f ver sz st cap l ver',g.O[o]? = some (some (f,ver))/\g.H[o]? = some (DB.buf sz st cap l)/\n<=l.length/\i<n/\v=.ptr ⟨f,ver',i*sz+c⟩/\(n=l.length->ver'=ver)
 |.nilptr,v=>v=.nilptr
 |.row sz l,v=>(l=[]/\v=.nilslice)\/(l=[]/\∃ a z sz',v=.slice a z 0 (some 0) sz') \/
  ∃ a z cap,v=.slice a z l.length cap sz/\0<sz/\(cap.isSome=true\/z=a.c)/\(∀ c,cap=some c->l.length<=c)/\(l≠[]->g.Imm a.f)/\RR g a sz l
 |.buf sz o n,v=>Tk g sz o n v
 |.nilrow,v=>v=.nilslice\/∃ a z sz,v=.slice a z 0 (some 0) sz
 |.map o,v=>∃ f ver,g.O[o]? = some (some (f,ver))/\v=.map f
 |.nilmap,v=>v=.nilmap
 |.func fn a b,v=>∃ h j,v=.func (.func fn) h j/\RL g a h/\RL g b j
 |.nilFunc,v=>v=.nilFunc
 |.iface t d,v=>∃ v',v=.iface t v'/\RD g d v'
 |.nilIface,v=>v=.nilIface
 |.yld o,v=>∃ f ver,g.O[o]? = some (some (f,ver))/\v=.func (.yield f) [] []
 |.abool,v=>∃ q,v=.bool q
 |.agg cs,v=>∃ vs,v=.agg vs/\RL g cs vs/\aW vs
 |.tuple ds,v=>∃ vs,v=.tuple vs/\RL g ds vs
def RL(g:Gh):List D->List V->Prop
 |[],vs=>vs=[]
 |d::r,vs=>∃ v vs',vs=v::vs'/\RD g d v/\RL g r vs'
def RR(g:Gh)(a:Ad)(sz:Nat):List (List D)->Prop
 |[]=>True
 |cs::r=>(∃ vs,cs.length=sz/\loadCells g.s a sz=some vs/\RL g cs vs/\aW vs)/\RR g (cq a sz) sz r
end
theorem BH(a:Ad)(m n:Nat):cq (cq a m) n=cq a (m+n):=by simp only[cq,ajH]
theorem SZ(a:Ad)(m:Nat):(cq a m).f=a.f:=rfl
structure oM(g g':Gh):Prop where
 hl:g.H.length<=g'.H.length
 o1:∀(o f v:Nat),g.O[o]? = some (some (f,v))->∃ v',g'.O[o]? = some (some (f,v'))
 buf:∀(o:Nat) sz st cap l,g.H[o]? = some (DB.buf sz st cap l)->Cz g' o\/∃ st' cap' l',g'.H[o]? = some (DB.buf sz st' cap' l')/\l.length<=l'.length/\(st=false->st'=false)/\(l.length=l'.length->cap'=cap/\g'.O[o]? = g.O[o]?)
 tb:∀(o:Nat) sz s l,g.H[o]? = some (DB.tbuf sz s l)->∃ s' l',g'.H[o]? = some (DB.tbuf sz s' l')/\s<=s'/\(s=s'->l'.length=l.length/\g'.O[o]? = g.O[o]?)
 imm:∀ f,g.Imm f->g'.Imm f
 cells:∀ a n vs,g.Imm a.f->loadCells g.s a n=some vs->loadCells g'.s a n=some vs
 next:g.s.next<=g'.s.next
theorem oM.refl(g:Gh):oM g g:=⟨aaW _,λ_ _ v h=>⟨v,h⟩,λ_ _ st cap l h=>.inr ⟨st,cap,l,h,aaW _,id,λ_=>⟨rfl,rfl⟩⟩,λ_ _ s l h=>⟨s,l,h,aaW _,λ_=>⟨rfl,rfl⟩⟩,λ_ h=>h,λ_ _ _ _ h=>h,aaW _⟩
theorem oM.trans{a b c:Gh}(h:oM a b)(k:oM b c):oM a c:=by
 refine⟨acd h.hl k.hl,λo f v ho=>?_,λo sz st cap l ho=>?_,λo sz s l ho=>?_,λf p=>k.imm f (h.imm f p),λx n vs hi q=>k.cells x n vs (h.imm _ hi) (h.cells x n vs hi q),acd h.next k.next⟩
 .obtain⟨v',d⟩:=h.o1 o f v ho;exact k.o1 o f v' d
 .rcases h.buf o sz st cap l ho with⟨z,s,l',d⟩|⟨st',cap',l',d,j,r,h4⟩
  .obtain⟨s2,l2,i,_⟩:=k.tb o z s l' d;exact .inl ⟨z,s2,l2,i⟩
  .rcases k.buf o sz st' cap' l' d with i|⟨st2,cap2,l2,i,m,u,k4⟩
   .exact .inl i
   .exact .inr (by grind)
 .obtain⟨s1,l1,d,j,r⟩:=h.tb o sz s l ho;obtain⟨s2,l2,i,m,u⟩:=k.tb o sz s1 l1 d;exact⟨s2,l2,i,acd j m,λe=>by grind⟩
theorem Cz.mono{g g':Gh}(h:oM g g'){o:Nat}(r:Cz g o):Cz g' o:=by obtain⟨z,s,l,a⟩:=r;obtain⟨s',l',c,_⟩:=h.tb o z s l a;exact⟨z,s',l',c⟩
theorem Tk.mono{g g':Gh}(h:oM g g'){sz o n:Nat}{v:V}(r:Tk g sz o n v):Tk g' sz o n v:=by
 rcases r with⟨r,k⟩|⟨st,cap,l,m,p,a⟩
 .exact .inl ⟨r.mono h,k⟩
 rcases h.buf o sz st cap l m with d|⟨st',cap',l',d,q,k3,k4⟩
 .refine .inl ⟨d,?_⟩;rcases a with a|⟨a,f,ver,ver',c,j,i,u⟩
  .exact .inl a
  .exact .inr ⟨_,_,_,i⟩
 refine .inr ⟨st',cap',l',d,acd p q,?_⟩;rcases a with a|⟨a,f,ver,ver',c,j,i,u⟩
 .exact .inl a
 .obtain⟨w,y⟩:=h.o1 o f ver j;refine .inr ⟨a,f,w,ver',c,y,i,λe=>?_⟩
  grind
mutual
theorem RD.mono{g g':Gh}(h:oM g g'):∀ {d:D} {v:V},RD g d v->RD g' d v
 |.bool _,_,r=>by simpa only[RD]using r
 |.int ..,_,r=>by simpa only[RD]using r
 |.str _,_,r=>by simpa only[RD]using r
 |.ptr o c,v,r=>by
  simp only[RD]at r ⊢;obtain⟨f,ver,j,m⟩:=r;obtain⟨v',p⟩:=h.o1 o f ver j
  grind
 |.eptr cs c,v,r=>by simp only[RD]at r ⊢;obtain⟨a,vs,j,m,p,q,u⟩:=r;exact⟨a,vs,j,h.imm _ m,h.cells _ _ _ m p,RL.mono h q,u⟩
 |.bptr o n i c,v,r=>by
  simp only[RD]at r ⊢;rcases r with⟨r,J⟩|⟨f,ver,sz,st,cap,l,ver',j,m,p,q,u,H⟩
  .exact .inl ⟨r.mono h,J⟩
  rcases h.buf o sz st cap l m with w|⟨st',cap',l',w,A,I,k4⟩
  .exact .inl ⟨w,_,u⟩
  obtain⟨F,G⟩:=h.o1 o f ver j;exact .inr (by grind)
 |.tptr o s i c,v,r=>by simp only[RD]at r ⊢;obtain⟨f,ver,sz,s',l,ver',j,m,p,q,u⟩:=r;obtain⟨s2,l2,w,A,I⟩:=h.tb o sz s' l m;obtain⟨F,G⟩:=h.o1 o f ver j;exact⟨f,F,sz,s2,l2,ver',G,w,acd p A,q,λe=>by grind⟩
 |.tb sz o s k,v,r=>by simp only[RD]at r ⊢;obtain⟨f,ver,s',l,ver',j,m,p,q,u⟩:=r;obtain⟨s2,l2,w,A,I⟩:=h.tb o sz s' l m;obtain⟨F,G⟩:=h.o1 o f ver j;exact⟨f,F,s2,l2,ver',G,w,acd p A,q,λe=>by grind⟩
 |.nilptr,_,r=>by simpa only[RD]using r
 |.row sz l,v,r=>by
  simp only[RD]at r ⊢;rcases r with r|r|⟨a,z,cap,j,m,p,q,u,H⟩
  .exact .inl r
  .grind
  .refine .inr (.inr ⟨a,z,cap,j,m,p,q,λe=>h.imm _ (u e),?_⟩);cases hl:l with
   |nil=>simp only[RR]
   |cons x y=>rw[<- hl];exact RR.mono h (u (by rw[hl];simp)) H
 |.buf sz o n,v,r=>by simp only[RD]at r ⊢;exact r.mono h
 |.nilrow,_,r=>by simpa only[RD]using r
 |.map o,v,r=>by
  simp only[RD]at r ⊢;obtain⟨f,ver,j,m⟩:=r;obtain⟨v',p⟩:=h.o1 o f ver j
  grind
 |.nilmap,_,r=>by simpa only[RD]using r
 |.func fn a b,v,r=>by simp only[RD]at r ⊢;obtain⟨K,M,j,m,p⟩:=r;exact⟨K,M,j,RL.mono h m,RL.mono h p⟩
 |.nilFunc,_,r=>by simpa only[RD]using r
 |.iface t d,v,r=>by simp only[RD]at r ⊢;obtain⟨v',j,m⟩:=r;exact⟨v',j,RD.mono h m⟩
 |.nilIface,_,r=>by simpa only[RD]using r
 |.yld o,v,r=>by
  simp only[RD]at r ⊢;obtain⟨f,ver,j,m⟩:=r;obtain⟨v',p⟩:=h.o1 o f ver j
  grind
 |.abool,_,r=>by simpa only[RD]using r
 |.agg cs,v,r=>by simp only[RD]at r ⊢;obtain⟨vs,j,m,p⟩:=r;exact⟨vs,j,RL.mono h m,p⟩
 |.tuple ds,v,r=>by simp only[RD]at r ⊢;obtain⟨vs,j,m⟩:=r;exact⟨vs,j,RL.mono h m⟩
theorem RL.mono{g g':Gh}(h:oM g g'):∀ {ds:List D} {vs:List V},RL g ds vs->RL g' ds vs
 |[],_,r=>by simpa only[RL]using r
 |d::l,vs,r=>by simp only[RL]at r ⊢;obtain⟨v,vs',a,c,i⟩:=r;exact⟨v,vs',a,RD.mono h c,RL.mono h i⟩
theorem RR.mono{g g':Gh}(h:oM g g'):∀ {l:List (List D)} {a:Ad} {sz:Nat},g.Imm a.f->RR g a sz l->RR g' a sz l
 |[],_,_,_,_=>by simp only[RR]
 |cs::l,a,sz,hi,r=>by simp only[RR]at r ⊢;obtain⟨⟨vs,c,d,i,j⟩,k⟩:=r;exact⟨⟨vs,c,h.cells _ _ _ hi d,RL.mono h i,j⟩,RR.mono h (by rw[SZ];exact hi) k⟩
end
theorem RL.len{g:Gh}:∀ {ds:List D} {vs:List V},RL g ds vs->vs.length=ds.length
 |[],_,r=>by simp only[RL]at r;rw[r];rfl
 |d::l,_,r=>by simp only[RL]at r;obtain⟨v,vs',rfl,_,a⟩:=r;simp only[aeg,RL.len a]
theorem RL.at{g:Gh}:∀ {ds:List D} {vs:List V} {i:Nat} {d:D},RL g ds vs->ds[i]? = some d->∃ v,vs[i]? = some v/\RD g d v
 |[],_,i,d,r,h=>by simp at h
 |x::l,_,i,d,r,h=>by
  simp only[RL]at r;obtain⟨v,vs',rfl,a,c⟩:=r;cases i with
  |zero=>simp at h;subst h;exact⟨v,rfl,a⟩
  |succ i=>simpa using RL.at c (by simpa using h)
theorem RL.append{g:Gh}:∀ {a:List D} {x:List V} {b:List D} {y:List V},RL g a x->RL g b y->RL g (a++b) (x++y)
 |[],_,b,y,h,k=>by simp only[RL]at h;subst h;exact k
 |d::l,_,b,y,h,k=>by simp only[RL]at h;obtain⟨v,vs',rfl,c,i⟩:=h;simp only[agp,RL];exact⟨v,vs'++y,rfl,c,RL.append i k⟩
theorem RL.drop{g:Gh}:∀ {a:List D} {x:List V} (n:Nat),RL g a x->RL g (a.drop n) (x.drop n)
 |a,x,0,h=>h
 |[],_,n+1,h=>by simp only[RL]at h;subst h;simp[RL]
 |d::l,_,n+1,h=>by simp only[RL]at h;obtain⟨v,vs',rfl,_,h3⟩:=h;simp_all[RL.drop]
theorem RL.take{g:Gh}:∀ {a:List D} {x:List V} (n:Nat),RL g a x->RL g (a.take n) (x.take n)
 |a,x,0,h=>by simp[RL]
 |[],_,n+1,h=>by simp only[RL]at h;subst h;simp[RL]
 |d::l,_,n+1,h=>by simp only[RL]at h;obtain⟨v,vs',rfl,c,i⟩:=h;simp only[aiL,RL];exact⟨v,_,rfl,c,RL.take n i⟩
theorem RL.set{g:Gh}:∀ {a:List D} {x:List V} (i:Nat) {d:D} {v:V},RL g a x->RD g d v->RL g (a.set i d) (x.set i v)
 |[],_,i,d,v,h,k=>by simp only[RL]at h;subst h;simp[RL]
 |y::l,_,0,d,v,h,k=>by grind [RL]
 |y::l,_,i+1,d,v,h,k=>by simp only[RL]at h;obtain⟨w,vs',rfl,c,j⟩:=h;simp only[List.set_cons_succ,RL];exact⟨w,_,rfl,c,RL.set i j k⟩
theorem RR.at{g:Gh}:∀ {l:List (List D)} {a:Ad} {sz i:Nat} {cs:List D},RR g a sz l->l[i]? = some cs->∃ vs,cs.length=sz/\loadCells g.s (cq a (i*sz)) sz=some vs/\RL g cs vs/\aW vs
 |[],_,_,_,_,_,h=>by simp at h
 |x::l,a,sz,i,cs,r,h=>by
  simp only[RR]at r;cases i with
  |zero=>simp at h;subst h;rw[ajM];exact r.1
  |succ i =>have:=RR.at r.2 (i:=i) (by simpa using h);simp_all[BH,ajJ,Nat.one_mul,Nat.add_comm]
theorem RR.of{g:Gh}:∀ {l:List (List D)} {a:Ad} {sz:Nat},(∀ i cs,l[i]? = some cs->∃ vs,cs.length=sz/\loadCells g.s (cq a (i*sz)) sz=some vs/\RL g cs vs/\aW vs)->RR g a sz l
 |[],_,_,_=>by simp only[RR]
 |x::l,a,sz,h=>by
  simp only[RR];refine⟨?_,RR.of λi cs c=>?_⟩
  .have:=h 0 x rfl;rw[ajM]at this;exact this
  .rw[BH,show sz+i*sz=(i+1)*sz by rw[ajJ,Nat.one_mul,Nat.add_comm]];exact h (i+1) cs (by simpa using c)
def RS(g:Gh)(LO:List Nat):LD->V->Prop
 |.g d,v=>RD g d v
 |.lp k c,v=>∃ f,LO[k]? = some f/\v=.ptr ⟨f,0,c⟩
 |.u,v=>v=V.undef
theorem RS.mono{g g':Gh}(h:oM g g'){LO:List Nat}{x:LD}{v:V}(r:RS g LO x v):RS g' LO x v:=by
 cases x with
 |g d=>exact RD.mono h r
 |lp k c=>exact r
 |u=>exact r
theorem RS.ext{g:Gh}{LO LO':List Nat}(h:LO <+: LO'){x:LD}{v:V}(r:RS g LO x v):RS g LO' x v:=by
 cases x with
 |g d=>exact r
 |lp k c =>
  obtain⟨f,h1,a⟩:=r;obtain⟨m,rfl⟩:=h;refine⟨f,?_,a⟩
  grind
 |u=>exact r
def Cy(g:Gh)(LO:List Nat)(t:T LD)(tv:T V):Prop:=∀ i x,t.get (eX i)=some x->∃ v,tv.get (eX i)=some v/\RS g LO x v
theorem Cy.mono{g g':Gh}(h:oM g g'){LO LO':List Nat}(hl:LO <+: LO'){t:T LD}{tv:T V}(r:Cy g LO t tv):Cy g' LO' t tv:=λi x a=>by obtain⟨v,c,d⟩:=r i x a;exact⟨v,c,(d.mono h).ext hl⟩
def PvR(g:Gh)(x:Nat×List D)(f:Nat):Prop:=f∈g.Pv/\(x.2=[]\/∃ el vs,g.s.get f=some (.cells el false 1 [⟨0,0,vs⟩])/\RL g x.2 vs/\aW vs)
def LRw(g:Gh)(L:LS)(LO:List Nat):Prop:=∀(k:Nat) x f,L[k]? = some x->LO[k]? = some f->PvR g x f
def LR(g:Gh)(L:LS)(LO:List Nat):Prop:=L.length=LO.length/\LRw g L LO
def sC(g:Gh):List (D×D)->List qT->Prop
 |[],es=>es=[]
 |(k,v)::r,es=>∃ e es',es=e::es'/\RD g k e.key/\RD g v e.val/\e.key.one=true/\sC g r es'
theorem sC.mono{g g':Gh}(h:oM g g'):∀ {l:List (D×D)} {es:List qT},sC g l es->sC g' l es
 |[],_,r=>r
 |(k,v)::l,_,r=>by obtain⟨e,es',a,c,d,i,j⟩:=r;exact⟨e,es',a,RD.mono h c,RD.mono h d,i,sC.mono h j⟩
def kP(g:Gh)(o:Nat):DB->Prop
 |.dead=>False
 |.opq=>∃ f v,g.O[o]? = some (some (f,v))
 |.coll=>∃ f,g.O[o]? = some (some (f,0))/\g.s.get f=some .deferred
 |.loop rdy fn nt t ps a b=>∃ f tv d,g.O[o]? = some (some (f,0))/\g.s.get f=some (.loop (bif rdy then .ready else .busy) none fn tv ps a b d nt)/\Cy g [] t tv
 |.cells _ cs=>∃ f el vs,g.O[o]? = some (some (f,0))/\g.s.get f=some (.cells el false 1 [⟨0,0,vs⟩])/\RL g cs vs/\aW vs
 |.map es=>∃ f ents clock,g.O[o]? = some (some (f,0))/\g.s.get f=some (.map ents clock)/\sC g es ents
 |.buf sz _ _ l=>0<sz/\((l=[]/\g.O[o]? = some none)\/(l≠[]/\∃ f ver el nv vers cells,g.O[o]? = some (some (f,ver))/\g.s.get f=some (.cells el false nv vers) /\
  bI vers ver=some ⟨ver,0,cells⟩/\cells.length=l.length*sz/\(∀ u∈vers,u.v<nv/\u.lo+u.cells.length<=cells.length)/\RR g ⟨f,ver,0⟩ sz l))
 |.tbuf sz _ l=>0<sz/\∃ f ver el nv vers cells,g.O[o]? = some (some (f,ver))/\g.s.get f=some (.cells el false nv vers) /\
  bI vers ver=some ⟨ver,0,cells⟩/\l.length*sz<=cells.length/\(∀ u∈vers,u.v<nv)/\RR g ⟨f,ver,0⟩ sz l
class fZ where
 I:S->Prop
 bl:List Nat
 stb:∀ s s':S,(∀ f∈bl,s'.get f=s.get f)->I s->I s'
variable[fZ]
structure Gl(g:Gh):Prop where
 i:fZ.I g.s
 b:∀ f∈fZ.bl,f<g.s.next/\f∉g.Pv/\∀(o v:Nat),g.O[o]?≠some (some (f,v))
theorem Gl.to{g g':Gh}(h:Gl g)(k:∀ f,f<g.s.next->f∉g.Pv->(∀(o v:Nat),g.O[o]?≠some (some (f,v)))->g'.s.get f=g.s.get f/\f<g'.s.next/\f∉g'.Pv/\∀(o v:Nat),g'.O[o]?≠some (some (f,v))):Gl g' :=
 ⟨fZ.stb _ _ (λf a=>(k f (h.b f a).1 (h.b f a).2.1 (h.b f a).2.2).1) h.i,λf a=>(k f (h.b f a).1 (h.b f a).2.1 (h.b f a).2.2).2⟩
structure Ok(g:Gh):Prop where
 len:g.O.length=g.H.length
 wf:WF g.s
 inj:∀(o o' f v v':Nat),g.O[o]? = some (some (f,v))->g.O[o']? = some (some (f,v'))->o=o'
 lt:∀(o f v:Nat),g.O[o]? = some (some (f,v))->f<g.s.next/\f∉g.Pv
 pv:∀ f∈g.Pv,f<g.s.next
 obj:∀(o:Nat) b,g.H[o]? = some b->kP g o b
 gl:Gl g
structure Mv(b:Nat)(g g':Gh):Prop where
 le:oM g g'
 out:∀ f,f<b->(∀(o v:Nat),g.O[o]?≠some (some (f,v)))->g'.s.get f=g.s.get f
 fresh:∀(o f v:Nat),g'.O[o]? = some (some (f,v))->f<b->∃ v',g.O[o]? = some (some (f,v'))
 stm:∀(o:Nat) s1 c1 f v,g.H[o]? = some (.cells s1 c1)->g.O[o]? = some (some (f,v))->∃ s2 c2,g'.H[o]? = some (.cells s2 c2)/\s1<=s2/\(s1=s2->c2=c1/\g'.s.get f=g.s.get f)
theorem Mv.refl(b:Nat)(g:Gh):Mv b g g:=⟨.refl g,λ_ _ _=>rfl,λ_ _ v h _=>⟨v,h⟩,λ_ s1 c1 _ _ h _=>⟨s1,c1,h,aaW _,λ_=>⟨rfl,rfl⟩⟩⟩
theorem Mv.trans{b:Nat}{x y z:Gh}(h:Mv b x y)(k:Mv b y z):Mv b x z:=by
 refine⟨h.le.trans k.le,λf a i=>?_,λo f v ho a=>?_,λo s1 c1 f v c d=>?_⟩
 .rw[k.out f a λo v e=>?_,h.out f a i];obtain⟨v',c⟩:=h.fresh o f v e a
  grind
 .obtain⟨v',c⟩:=k.fresh o f v ho a;exact h.fresh o f v' c a
 .obtain⟨s2,c2,j,k2,k3⟩:=h.stm o s1 c1 f v c d;obtain⟨v',l⟩:=h.le.o1 o f v d;obtain⟨s3,c3,j1,j2,j3⟩:=k.stm o s2 c2 f v' j l
  grind
theorem Mv.down{b c:Nat}{g g':Gh}(h:Mv b g g')(hc:c<=b):Mv c g g':=⟨h.le,λf a=>h.out f (afs a hc),λo f v ho a=>h.fresh o f v ho (afs a hc),h.stm⟩
structure FI(b:Nat)(P0:List Nat)(g:Gh)(t:T LD)(L:LS)(tv:T V)(LO:List Nat):Prop where
 ok:Ok g
 slots:Cy g LO t tv
 own:LR g L LO
 pv:g.Pv=P0++LO
 low:∀ f∈LO,b<=f
 nd:LO.Nodup
 bl:b<=g.s.next
end
section
variable[fZ]
theorem dw{s s':S}{a:Ad}(h:s'.get a.f=s.get a.f)(n:Nat):loadCells s' a n=loadCells s a n:=by grind [loadCells]
theorem RR.keep{g g':Gh}(h:oM g g'):∀ {l:List (List D)} {a:Ad} {sz:Nat},g'.s.get a.f=g.s.get a.f->RR g a sz l->RR g' a sz l
 |[],_,_,_,_=>by simp only[RR]
 |cs::l,a,sz,hi,r=>by simp only[RR]at r ⊢;obtain⟨⟨vs,c,d,i,j⟩,k⟩:=r;exact⟨⟨vs,c,by rw[dw hi];exact d,RL.mono h i,j⟩,RR.keep h (by rw[SZ];exact hi) k⟩
theorem kP.keep{g g':Gh}(h:oM g g'){o:Nat}{b:DB}(k:g'.O[o]? = g.O[o]?)(m:∀ f v,g.O[o]? = some (some (f,v))->g'.s.get f=g.s.get f)(r:kP g o b):kP g' o b:=by
 cases b with
 |dead=>exact r
 |opq=>obtain⟨f,v,a⟩:=r;exact⟨f,v,by rw[k];exact a⟩
 |coll=>obtain⟨f,a,i⟩:=r;exact⟨f,by rw[k];exact a,by rw[m f 0 a];exact i⟩
 |loop _ _ _ _ _ _ _=>obtain⟨f,tv,d,a,i,j⟩:=r;exact⟨f,tv,d,by rw[k];exact a,by rw[m f 0 a];exact i,j.mono h aiY⟩
 |cells st cs =>obtain⟨f,el,vs,a,i,j,n⟩:=r;exact⟨f,el,vs,by rw[k];exact a,by rw[m f 0 a];exact i,j.mono h,n⟩
 |map es =>obtain⟨f,ents,c,a,i,j⟩:=r;exact⟨f,ents,c,by rw[k];exact a,by rw[m f 0 a];exact i,j.mono h⟩
 |buf sz st cap l =>
  obtain⟨h0,a|⟨a,f,ver,el,nv,vers,cells,i,j,n,p,q,u⟩⟩:=r
  .exact⟨h0,.inl ⟨a.1,by rw[k];exact a.2⟩⟩
  .exact⟨h0,.inr ⟨a,f,ver,el,nv,vers,cells,by rw[k];exact i,by rw[m f ver i];exact j,n,p,q,u.keep h (m f ver i)⟩⟩
 |tbuf sz s l =>obtain⟨h0,f,ver,el,nv,vers,cells,i,j,n,p,q,u⟩:=r;exact⟨h0,f,ver,el,nv,vers,cells,by rw[k];exact i,by rw[m f ver i];exact j,n,p,q,u.keep h (m f ver i)⟩
theorem LR.keep{g g':Gh}(h:oM g g'){L:LS}{LO:List Nat}(hp:∀ f∈LO,f∈g'.Pv)(d:∀ f∈LO,g'.s.get f=g.s.get f)(r:LR g L LO):LR g' L LO:=by
 refine⟨r.1,λk x f i c=>?_⟩;have hm:=aeE c;obtain⟨h1,a⟩:=r.2 k x f i c;refine⟨hp f hm,?_⟩;rcases a with a|⟨el,vs,a,j,l⟩
 .exact .inl a
 .exact .inr ⟨el,vs,by rw[d f hm];exact a,j.mono h,l⟩
theorem aR{s:S}{B:dY}{f:Nat}(h:f<s.next):(s.alloc B).get f=s.get f:=by rw[S.get_alloc,afp (by omega)]
theorem un{s:S}{B:dY}{f:Nat}(h:f<s.next):f<(s.alloc B).next:=by rw[S.next_alloc];omega
theorem sE{s:S}(a:WF s)(B:dY):WF (s.alloc B):=(Fw.alloc [] a B).wf a
theorem Pm{s:S}(c:WF s){f:Nat}{B0:dY}(h0:s.get f=some B0)(B:dY):WF (s.put f B):=λg C a=>by
 rw[S.get_put]at a;rw[S.next_put];split at a
 .rename_i e;subst e;exact c _ _ h0
 .exact c g C a
theorem iX{α:Type}{l:List α}{x:α}:(l++[x])[l.length]? = some x:=by simp
theorem eE{α:Type}{l:List α}{i:Nat}{x:α}(m:List α)(h:l[i]? = some x):(l++m)[i]? = some x:=by grind
theorem bG{α:Type}{l:List α}{i:Nat}{x y:α}(h:(l++[y])[i]? = some x):l[i]? = some x\/(i=l.length/\x=y):=by grind
section
variable{b:Nat}{P0:List Nat}{g:Gh}{t:T LD}{L:LS}{tv:T V}{LO:List Nat}
def Gh.blk(g:Gh)(B:dY):Gh:=⟨g.O,g.H,g.Pv,g.s.alloc B⟩
theorem Vf(B:dY){f:Nat}(h:g.Imm f):(g.blk B).Imm f:=⟨by show f<(g.s.alloc B).next;rw[S.next_alloc];have:=h.1;omega,h.2.1,h.2.2⟩
theorem Kc(B:dY):oM g (g.blk B):=by refine⟨aaW _,λ_ _ v h=>⟨v,h⟩,λ_ _ st cap l h=>.inr ⟨st,cap,l,h,aaW _,id,λ_=>⟨rfl,rfl⟩⟩,λ_ _ s l h=>⟨s,l,h,aaW _,λ_=>⟨rfl,rfl⟩⟩,λf h=>Vf B h,λa n vs hi c=>?_,by show _<=(g.s.alloc B).next;rw[S.next_alloc];omega⟩;rw[<- c];exact dw (aR hi.1) n
theorem Ok.blk(h:Ok g)(B:dY):Ok (g.blk B):=by
 refine⟨h.len,sE h.wf B,h.inj,λo f v ho=>⟨?_,(h.lt o f v ho).2⟩,λf a=>?_,λo b hb=>(h.obj o b hb).keep (Kc B) rfl λf v ho=>aR (h.lt o f v ho).1,h.gl.to λf a hp ho=>⟨aR a,un a,hp,ho⟩⟩
 .have:=(h.lt o f v ho).1;show f<(g.s.alloc B).next;rw[S.next_alloc];omega
 .have:=h.pv f a;show f<(g.s.alloc B).next;rw[S.next_alloc];omega
theorem JQ(h:Ok g)(hb:b<=g.s.next)(B:dY):Mv b g (g.blk B):=⟨Kc B,λf a _=>aR (afs a hb),λ_ _ v h _=>⟨v,h⟩,λo s1 c1 f v c d=>⟨s1,c1,c,aaW _,λ_=>⟨rfl,aR (h.lt o f v d).1⟩⟩⟩
theorem FI.to(h:FI b P0 g t L tv LO){g':Gh}(a:Ok g')(hm:Mv b g g')(hp:g'.Pv=g.Pv)(c:∀ f∈LO,g'.s.get f=g.s.get f):FI b P0 g' t L tv LO :=
 ⟨a,h.slots.mono hm.le aiY,h.own.keep hm.le (λf d=>by rw[hp,h.pv];exact afv _ d) c,by rw[hp];exact h.pv,h.low,h.nd,acd h.bl hm.le.next⟩
theorem FI.lo_lt(h:FI b P0 g t L tv LO){f:Nat}(a:f∈LO):f<g.s.next:=h.ok.pv f (by rw[h.pv];exact afv _ a)
theorem FI.lo_out(h:FI b P0 g t L tv LO){f:Nat}(a:f∈LO)(o v:Nat):g.O[o]?≠some (some (f,v)):=λe=>(h.ok.lt o f v e).2 (by rw[h.pv];exact afv _ a)
theorem FI.blk(h:FI b P0 g t L tv LO)(B:dY):FI b P0 (g.blk B) t L tv LO:=h.to (h.ok.blk B) (JQ h.ok h.bl B) rfl λ_ a=>aR (h.lo_lt a)
def Gh.obj(g:Gh)(x:DB)(B:dY):Gh:=⟨g.O++[some (g.s.next,0)],g.H++[x],g.Pv,g.s.alloc B⟩
theorem Ve(hl:g.O.length=g.H.length)(x:DB)(B:dY){f:Nat}(h:g.Imm f):(g.obj x B).Imm f:=by
 refine⟨by show f<(g.s.alloc B).next;rw[S.next_alloc];have:=h.1;omega,h.2.1,λo v ho=>?_⟩;rcases bG ho with ho|⟨_,e⟩
 .obtain⟨sz,cap,l,a⟩:=h.2.2 o v ho;exact⟨sz,cap,l,eE _ a⟩
 .simp only[abf,aiQ]at e;have:=h.1;omega
theorem zT(hl:g.O.length=g.H.length)(x:DB)(B:dY):oM g (g.obj x B):=by
 refine⟨by simp[Gh.obj],λ_ _ v h=>⟨v,eE _ h⟩,λo _ st cap l h=>.inr ⟨st,cap,l,eE _ h,aaW _,id,λ_=>⟨rfl,?_⟩⟩,λo _ s l h=>⟨s,l,eE _ h,aaW _,λ_=>⟨rfl,?_⟩⟩,λf h=>Ve hl x B h,λa n vs hi c=>?_,by show _<=(g.s.alloc B).next;rw[S.next_alloc];omega⟩
 .have:o<g.H.length:=by grind
  show(g.O++_)[o]? = _
  grind
 .have:o<g.H.length:=by grind
  show(g.O++_)[o]? = _
  grind
 .rw[<- c];exact dw (aR hi.1) n
theorem Ok.mkobj(h:Ok g){x:DB}{B:dY}(hx:kP (g.obj x B) g.H.length x):Ok (g.obj x B):=by
 refine⟨by simp[Gh.obj,h.len],sE h.wf B,λo o' f v v' a d=>?_,λo f v ho=>?_,λf i=>?_,λo c hc=>?_,h.gl.to λf i hp ho=>⟨aR i,un i,hp,λo v k=>?_⟩⟩
 .rcases bG a with a|⟨m,l⟩<;>rcases bG d with d|⟨e3,n⟩
  .exact h.inj o o' f v v' a d
  .cases n;have:=(h.lt o _ v a).1;omega
  .cases l;have:=(h.lt o' _ v' d).1;omega
  .omega
 .rcases bG ho with ho|⟨_,e⟩
  .exact⟨by have:=(h.lt o f v ho).1;show f<(g.s.alloc B).next;rw[S.next_alloc];omega,(h.lt o f v ho).2⟩
  .cases e;exact⟨by show g.s.next<(g.s.alloc B).next;rw[S.next_alloc];omega,λhp=>by have:=h.pv _ hp;omega⟩
 .have:=h.pv f i;show f<(g.s.alloc B).next;rw[S.next_alloc];omega
 .rcases bG hc with hc|⟨m,l⟩
  .have j:o<g.O.length:=by
    rw[h.len]
    grind
   exact(h.obj o c hc).keep (zT h.len x B) (by show(g.O++_)[o]? = _;rw[abo j]) λf v ho=>aR (h.lt o f v ho).1
  grind
 .rcases bG k with k|⟨_,e⟩
  .exact ho o v k
  grind
theorem rQ(h:Ok g)(hb:b<=g.s.next)(x:DB)(B:dY):Mv b g (g.obj x B):=by
 refine⟨zT h.len x B,λf a _=>aR (afs a hb),λo f v ho a=>?_,λo s1 c1 f v c d=>⟨s1,c1,eE _ c,aaW _,λ_=>⟨rfl,aR (h.lt o f v d).1⟩⟩⟩;rcases bG ho with ho|⟨_,e⟩
 .grind
 grind
theorem FI.mkobj(h:FI b P0 g t L tv LO){x:DB}{B:dY}(a:kP (g.obj x B) g.H.length x):FI b P0 (g.obj x B) t L tv LO :=
 h.to (h.ok.mkobj a) (rQ h.ok h.bl x B) rfl λ_ c=>aR (h.lo_lt c)
theorem pp(h:Ok g)(x:DB)(B:dY):(g.obj x B).O[g.H.length]? = some (some (g.s.next,0)):=by show(g.O++_)[_]? = _;rw[<- h.len];exact iX
theorem tj{x:DB}{B:dY}:(g.obj x B).s.get g.s.next=some B:=gT
def Gh.prv(g:Gh)(B:dY):Gh:=⟨g.O,g.H,g.Pv++[g.s.next],g.s.alloc B⟩
theorem Ka(B:dY):oM g (g.prv B):=by
 refine⟨aaW _,λ_ _ v h=>⟨v,h⟩,λ_ _ st cap l h=>.inr ⟨st,cap,l,h,aaW _,id,λ_=>⟨rfl,rfl⟩⟩,λ_ _ s l h=>⟨s,l,h,aaW _,λ_=>⟨rfl,rfl⟩⟩,λf h=>⟨?_,λhm=>?_,h.2.2⟩,λa n vs hi c=>?_,by show _<=(g.s.alloc B).next;rw[S.next_alloc];omega⟩
 .show f<(g.s.alloc B).next;rw[S.next_alloc];have:=h.1;omega
 .rcases aeS.1 hm with hm|hm
  .exact h.2.1 hm
  .simp at hm;have:=h.1;omega
 .rw[<- c];exact dw (aR hi.1) n
theorem Ok.prv(h:Ok g)(B:dY):Ok (g.prv B):=by
 refine⟨h.len,sE h.wf B,h.inj,λo f v ho=>⟨?_,λhm=>?_⟩,λf a=>?_,λo b hb=>(h.obj o b hb).keep (Ka B) rfl λf v ho=>aR (h.lt o f v ho).1,h.gl.to λf a hp ho=>⟨aR a,un a,λhm=>?_,ho⟩⟩
 .have:=(h.lt o f v ho).1;show f<(g.s.alloc B).next;rw[S.next_alloc];omega
 .rcases aeS.1 hm with hm|hm
  .exact(h.lt o f v ho).2 hm
  .simp at hm;have:=(h.lt o f v ho).1;omega
 .show f<(g.s.alloc B).next;rw[S.next_alloc];rcases aeS.1 a with a|a
  .have:=h.pv f a;omega
  grind
 .rcases aeS.1 hm with hm|hm
  .exact hp hm
  grind
theorem Zg(h:Ok g)(hb:b<=g.s.next){B:dY}:Mv b g (g.prv B):=⟨Ka B,λf a _=>aR (afs a hb),λ_ _ v h _=>⟨v,h⟩,λo s1 c1 f v c d=>⟨s1,c1,c,aaW _,λ_=>⟨rfl,aR (h.lt o f v d).1⟩⟩⟩
theorem FI.prv(h:FI b P0 g t L tv LO){el:TypeId}{cs:List D}{vs:List V}{st:Nat}(hr:RL g cs vs)(ho:aW vs) :
 FI b P0 (g.prv (.cells el false 1 [⟨0,0,vs⟩])) t (L++[(st,cs)]) tv (LO++[g.s.next]):=by
 have c:=Ka (g:=g) (.cells el false 1 [⟨0,0,vs⟩]);have i:∀ f∈LO,f<g.s.next:=λf a=>h.lo_lt a;refine⟨h.ok.prv _,h.slots.mono c (List.prefix_append _ _),⟨by simp[h.own.1],λk x f d a=>?_⟩,by show g.Pv++_=_;rw[h.pv,aft],λf a=>?_,?_,acd h.bl c.next⟩
 .rcases bG d with d|⟨l,m⟩
  .rcases bG a with a|⟨n,_⟩
   .have hm:=aeE a;obtain⟨p,j⟩:=h.own.2 k x f d a;refine⟨aim _ p,?_⟩;rcases j with j|⟨el',vs',j,q,r⟩
    .exact .inl j
    .exact .inr ⟨el',vs',by show(g.s.alloc _).get f=_;rw[aR (i f hm)];exact j,q.mono c,r⟩
   .subst n;rw[<- h.own.1,aiT (aaW _)]at d;cases d
  .subst l;subst m;rw[h.own.1,iX]at a;cases a;exact⟨afv _ (by simp),.inr ⟨el,vs,gT,hr.mono c,ho⟩⟩
 .rcases aeS.1 a with a|a
  .exact h.low f a
  .simp at a;subst a;exact h.bl
 .rw[List.nodup_append];exact⟨h.nd,by simp,λx d y hy e=>by simp at hy;subst hy;subst e;have:=i _ d;omega⟩
def Gh.pput(g:Gh)(f:Nat)(B:dY):Gh:=⟨g.O,g.H,g.Pv,g.s.put f B⟩
theorem Fa{f:Nat}(c:f∈g.Pv)(B:dY):oM g (g.pput f B):=by refine⟨aaW _,λ_ _ v h=>⟨v,h⟩,λ_ _ st cap l h=>.inr ⟨st,cap,l,h,aaW _,id,λ_=>⟨rfl,rfl⟩⟩,λ_ _ s l h=>⟨s,l,h,aaW _,λ_=>⟨rfl,rfl⟩⟩,λf' h=>⟨by show f'<(g.s.put f B).next;rw[S.next_put];exact h.1,h.2.1,h.2.2⟩,λa n vs hi d=>?_,by show _<=(g.s.put f B).next;rw[S.next_put];exact aaW _⟩;rw[<- d];exact dw (by show(g.s.put f B).get _=_;rw[S.get_put,afp (λe=>hi.2.1 (by rw[<- e];exact c))]) n
theorem cX{s:S}{f f':Nat}{B:dY}(h:f≠f'):(s.put f B).get f'=s.get f':=by rw[S.get_put,afp h]
theorem dS{s:S}{f:Nat}{B:dY}:(s.put f B).get f=some B:=by rw[S.get_put,agC rfl]
theorem Ok.pput(h:Ok g){f:Nat}(a:f∈g.Pv){B0:dY}(h0:g.s.get f=some B0)(B:dY):Ok (g.pput f B):=by refine⟨h.len,Pm h.wf h0 B,h.inj,λo f' v ho=>⟨by show f'<(g.s.put f B).next;rw[S.next_put];exact(h.lt o f' v ho).1,(h.lt o f' v ho).2⟩,λf' c=>by show f'<(g.s.put f B).next;rw[S.next_put];exact h.pv f' c,λo b hb=>(h.obj o b hb).keep (Fa a B) rfl λf' v ho=>cX λe=>(h.lt o f' v ho).2 (by rw[<- e];exact a),h.gl.to λf' d hp ho=>⟨cX λe=>hp (by rw[<- e];exact a),by show f'<(g.s.put f B).next;rw[S.next_put];exact d,hp,ho⟩⟩
theorem Uz(h:Ok g){f:Nat}(a:f∈g.Pv)(hb:b<=f){B:dY}:Mv b g (g.pput f B):=⟨Fa a B,λf' hf' _=>cX (by omega),λ_ _ v h _=>⟨v,h⟩,λo s1 c1 f' v c d=>⟨s1,c1,c,aaW _,λ_=>⟨rfl,cX λe=>(h.lt o f' v d).2 (by rw[<- e];exact a)⟩⟩⟩
theorem uM:∀ {l:List Nat} (_:l.Nodup) {i j x:Nat} (_:l[i]? = some x) (_:l[j]? = some x),i=j
 |[],_,i,_,_,a,_=>by simp at a
 |y::l,h,i,j,x,a,c=>by
  rw[List.nodup_cons]at h;cases i with
  |zero=>cases j with
   |zero=>rfl
   |succ j =>simp only[ajh,abf,aiP]at a c;subst a;exact(h.1 (aeE c)).elim
  |succ i=>cases j with
   |zero =>simp only[ajh,abf,aiP]at a c;subst c;exact(h.1 (aeE a)).elim
   |succ j =>simp only[aiP]at a c;rw[uM h.2 a c]
theorem FI.pput(h:FI b P0 g t L tv LO){k f st:Nat}{el:TypeId}{cs:List D}{vs0 vs:List V}(hk:LO[k]? = some f)(h0:g.s.get f=some (.cells el false 1 [⟨0,0,vs0⟩]))(hr:RL g cs vs)(ho:aW vs) :
 FI b P0 (g.pput f (.cells el false 1 [⟨0,0,vs⟩])) t (L.set k (st,cs)) tv LO:=by
 have hm:=aeE hk;have hp:f∈g.Pv:=by rw[h.pv];exact afv _ hm
 have c:=Fa hp (.cells el false 1 [⟨0,0,vs⟩]);refine⟨h.ok.pput hp h0 _,h.slots.mono c aiY,⟨by rw[afy];exact h.own.1,λl x f' d a=>?_⟩,h.pv,h.low,h.nd,acd h.bl c.next⟩;have hm':=aeE a;rw[List.getElem?_set]at d;split at d
 .rename_i e;subst e;rw[hk]at a;cases a;split at d
  .cases d;exact⟨hp,.inr ⟨el,vs,dS,hr.mono c,ho⟩⟩
  .cases d
 .rename_i j;obtain⟨m,i⟩:=h.own.2 l x f' d a;refine⟨m,?_⟩;rcases i with i|⟨el',vs',i,n,p⟩
  .exact .inl i
  .exact .inr ⟨el',vs',by show(g.s.put f _).get f'=_;rw[cX (λe=>j (uM h.nd hk (by rw[e];exact a)))];exact i,n.mono c,p⟩
end
end
section
variable[fZ]
theorem ep{α:Type}{l:List α}{i j:Nat}{x y:α}(h:(l.set i x)[j]? = some y):(i=j/\y=x)\/(i≠j/\l[j]? = some y):=by grind
theorem bt{α:Type}{l:List α}{i:Nat}{x y:α}(h:l[i]? = some y):(l.set i x)[i]? = some x:=by grind
theorem du{α:Type}{l:List α}{i j:Nat}{x:α}(h:i≠j):(l.set i x)[j]? = l[j]?:=by rw[List.getElem?_set,afp h]
def afi(ver ver':Nat)(x0 x:DB):Prop:=(∀ sz st cap l,x0=.buf sz st cap l->(st=true/\∃ z s l',x=.tbuf z s l')\/∃ st' cap' l',x=.buf sz st' cap' l'/\l.length<=l'.length/\(st=false->st'=false)/\(l.length=l'.length->cap'=cap/\ver'=ver)) /\
 ∀ sz s l,x0=.tbuf sz s l->∃ s' l',x=.tbuf sz s' l'/\s<s'
section
variable{b:Nat}{P0:List Nat}{g:Gh}{t:T LD}{L:LS}{tv:T V}{LO:List Nat}{o f ver ver':Nat}{x0 x:DB}{B0 B:dY}
def Gh.oput(g:Gh)(o:Nat)(x:DB)(f ver':Nat)(B:dY):Gh:=⟨g.O.set o (some (f,ver')),g.H.set o x,g.Pv,g.s.put f B⟩
structure vQ(g:Gh)(o:Nat)(x:DB)(f ver ver':Nat)(x0:DB)(B0 B:dY):Prop where
 ho:g.O[o]? = some (some (f,ver))
 hx0:g.H[o]? = some x0
 h0:g.s.get f=some B0
 hb:afi ver ver' x0 x
 hi:∀ a n vs,g.Imm a.f->a.f=f->loadCells g.s a n=some vs->loadCells (g.s.put f B) a n=some vs
 hst:∀ s1 c1,x0=.cells s1 c1->∃ c2,x=.cells (s1+1) c2
theorem ll(h:Ok g)(c:vQ g o x f ver ver' x0 B0 B):oM g (g.oput o x f ver' B):=by
 refine⟨by show _<=(g.H.set o x).length;rw[afy];exact aaW _,λo' f' v d=>?_,λo' sz st cap l d=>?_,λo' sz s l d=>?_,λf' d=>⟨by show f'<(g.s.put f B).next;rw[S.next_put];exact d.1,d.2.1,λo' v k=>?_⟩,λa n vs hi q=>?_,by show _<=(g.s.put f B).next;rw[S.next_put];exact aaW _⟩
 .by_cases e:o=o'
  .subst e;rw[c.ho]at d;cases d;exact⟨ver',bt c.ho⟩
  .exact⟨v,by show(g.O.set o _)[o']? = _;rw[du e];exact d⟩
 .by_cases e:o=o'
  .subst e;rw[c.hx0]at d;cases d;rcases c.hb.1 sz st cap l rfl with⟨_,z,s,l',i⟩|⟨st',cap',l',i,m,p,r⟩
   .exact .inl ⟨z,s,l',by rw[<- i];exact bt c.hx0⟩
   refine .inr ⟨st',cap',l',by rw[<- i];exact bt c.hx0,m,p,λe=>?_⟩;obtain⟨u,w⟩:=r e;exact⟨u,by rw[c.ho,w];exact bt c.ho⟩
  .exact .inr ⟨st,cap,l,by show(g.H.set o _)[o']? = _;rw[du e];exact d,aaW _,id,λ_=>⟨rfl,by show(g.O.set o _)[o']? = _;rw[du e]⟩⟩
 .by_cases e:o=o'
  .subst e;rw[c.hx0]at d;cases d;obtain⟨s',l',i,m⟩:=c.hb.2 sz s l rfl;exact⟨s',l',by rw[<- i];exact bt c.hx0,by omega,λe=>by omega⟩
  .exact⟨s,l,by show(g.H.set o _)[o']? = _;rw[du e];exact d,aaW _,λ_=>⟨rfl,by show(g.O.set o _)[o']? = _;rw[du e]⟩⟩
 .rcases ep k with⟨e,y⟩|⟨e,k⟩
  .subst e;cases y;obtain⟨sz,cap,l,j⟩:=d.2.2 o ver c.ho;rw[c.hx0]at j;cases j;rcases c.hb.1 sz false cap l rfl with⟨A,_⟩|⟨st',cap',l',i,m,p,r⟩
   .cases A
   rw[p rfl]at i;exact⟨sz,cap',l',by rw[<- i];exact bt c.hx0⟩
  .obtain⟨sz,cap,l,j⟩:=d.2.2 o' v k;exact⟨sz,cap,l,by show(g.H.set o _)[o']? = _;rw[du e];exact j⟩
 .by_cases e:a.f=f
  .exact c.hi a n vs hi e q
  .rw[<- q];exact dw (cX (aks e)) n
theorem Ok.oput(h:Ok g)(c:vQ g o x f ver ver' x0 B0 B)(hx:kP (g.oput o x f ver' B) o x):Ok (g.oput o x f ver' B):=by
 refine⟨by simp[Gh.oput,h.len],Pm h.wf c.h0 B,λo1 l f' v v' a i=>?_,λo' f' v a=>?_,λf' j=>by show f'<(g.s.put f B).next;rw[S.next_put];exact h.pv f' j,λo' y hy=>?_,h.gl.to λf' a hp ho=>⟨cX λe=>ho o ver (by rw[<- e];exact c.ho),by show f'<(g.s.put f B).next;rw[S.next_put];exact a,hp,λo' v k=>?_⟩⟩
 rotate_right 1
 .rcases ep k with⟨e,d⟩|⟨e,k⟩
  .cases d;exact ho o ver c.ho
  grind
 .rcases ep a with⟨e,d⟩|⟨e,a⟩<;>rcases ep i with⟨m,n⟩|⟨m,i⟩
  .grind
  .cases d;rw[<- e];exact h.inj o l f ver v' c.ho i
  .cases n;rw[<- m];exact h.inj o1 o f v ver a c.ho
  .exact h.inj o1 l f' v v' a i
 .rcases ep a with⟨e,d⟩|⟨e,a⟩
  .cases d;exact⟨by show f<(g.s.put f B).next;rw[S.next_put];exact(h.lt o f ver c.ho).1,(h.lt o f ver c.ho).2⟩
  .exact⟨by show f'<(g.s.put f B).next;rw[S.next_put];exact(h.lt o' f' v a).1,(h.lt o' f' v a).2⟩
 .rcases ep hy with⟨e,d⟩|⟨e,hy⟩
  .grind
  .exact(h.obj o' y hy).keep (ll h c) (by show(g.O.set o _)[o']? = _;rw[du e]) λf' v a=>cX λq=>e (h.inj o o' f ver v c.ho (by rw[q];exact a))
theorem jy(h:Ok g)(c:vQ g o x f ver ver' x0 B0 B):Mv b g (g.oput o x f ver' B):=by
 refine⟨ll h c,λf' _ d=>cX λe=>d o ver (by rw[<- e];exact c.ho),λo' f' v a _=>?_,λo' s1 c1 f' v a i=>?_⟩;rcases ep a with⟨e,j⟩|⟨e,a⟩
 .subst e;cases j;exact⟨ver,c.ho⟩
 .grind
 .by_cases e:o=o'
  .subst e;rw[c.hx0]at a;obtain⟨c2,k⟩:=c.hst s1 c1 (agn a);exact⟨s1+1,c2,by rw[<- k];exact bt c.hx0,Nat.le_succ _,λq=>by omega⟩
  .exact⟨s1,c1,by show(g.H.set o _)[o']? = _;rw[du e];exact a,aaW _,λ_=>⟨rfl,cX λq=>e (h.inj o o' f ver v c.ho (by rw[q];exact i))⟩⟩
theorem FI.oput(h:FI b P0 g t L tv LO)(c:vQ g o x f ver ver' x0 B0 B)(d:kP (g.oput o x f ver' B) o x):FI b P0 (g.oput o x f ver' B) t L tv LO :=
 h.to (h.ok.oput c d) (jy h.ok c) rfl λf' a=>cX λe=>h.lo_out a o ver (by rw[<- e];exact c.ho)
def Gh.bnew(g:Gh)(o:Nat)(x:DB)(B:dY):Gh:=⟨g.O.set o (some (g.s.next,0)),g.H.set o x,g.Pv,g.s.alloc B⟩
theorem Fb(h:Ok g){sz:Nat}{st cap st' cap':Bool}{l:List (List D)}(j:g.O[o]? = some none)(h0:g.H[o]? = some (.buf sz st cap []))(i:x=.buf sz st' cap' l)(k:st=false->st'=false)(hl:l≠[]):oM g (g.bnew o x B):=by
 refine⟨by show _<=(g.H.set o x).length;rw[afy];exact aaW _,λo' f' v c=>?_,λo' sz' gH cap1 l1 c=>?_,λo' sz' s1 l1 c=>?_,λf' c=>⟨by show f'<(g.s.alloc B).next;rw[S.next_alloc];have:=c.1;omega,c.2.1,λo' v d=>?_⟩,λa n vs hi i=>?_,by show _<=(g.s.alloc B).next;rw[S.next_alloc];omega⟩
 .have e:o≠o':=λe=>by subst e;rw[j]at c;cases c
  exact⟨v,by show(g.O.set o _)[o']? = _;rw[du e];exact c⟩
 .by_cases e:o=o'
  .subst e;rw[h0]at c;cases c;refine .inr ⟨st',cap',l,by rw[<- i];exact bt h0,by simp,k,λe=>?_⟩;exact(hl (air (by simpa using e.symm))).elim
  .exact .inr ⟨gH,cap1,l1,by show(g.H.set o _)[o']? = _;rw[du e];exact c,aaW _,id,λ_=>⟨rfl,by show(g.O.set o _)[o']? = _;rw[du e]⟩⟩
 .have e:o≠o':=λe=>by subst e;rw[h0]at c;cases c
  exact⟨s1,l1,by show(g.H.set o _)[o']? = _;rw[du e];exact c,aaW _,λ_=>⟨rfl,by show(g.O.set o _)[o']? = _;rw[du e]⟩⟩
 .rcases ep d with⟨e,m⟩|⟨e,d⟩
  .simp only[abf,aiQ]at m;have:=c.1;omega
  .obtain⟨sz1,cap1,l1,p⟩:=c.2.2 o' v d;exact⟨sz1,cap1,l1,by show(g.H.set o _)[o']? = _;rw[du (λe=>by subst e;rw[j]at d;cases d)];exact p⟩
 .rw[<- i];exact dw (aR hi.1) n
theorem Ok.bnew(h:Ok g){sz:Nat}{st cap st' cap':Bool}{l:List (List D)}(m:g.O[o]? = some none)(h0:g.H[o]? = some (.buf sz st cap []))(n:x=.buf sz st' cap' l)(p:st=false->st'=false)(hl:l≠[])(hr:kP (g.bnew o x B) o x):Ok (g.bnew o x B):=by
 refine⟨by simp[Gh.bnew,h.len],sE h.wf B,λo1 j f' v v' a d=>?_,λo' f' v a=>?_,λf' i=>?_,λo' y hy=>?_,h.gl.to λf' a hp ho=>⟨aR a,un a,hp,λo' v k=>?_⟩⟩
 rotate_right 1
 .rcases ep k with⟨e,c⟩|⟨e,k⟩
  .grind
  grind
 .rcases ep a with⟨e,c⟩|⟨e,a⟩<;>rcases ep d with⟨q,r⟩|⟨q,d⟩
  .grind
  .cases c;have:=(h.lt j _ v' d).1;omega
  .cases r;have:=(h.lt o1 _ v a).1;omega
  .exact h.inj o1 j f' v v' a d
 .rcases ep a with⟨e,c⟩|⟨e,a⟩
  .cases c;exact⟨by show g.s.next<(g.s.alloc B).next;rw[S.next_alloc];omega,λhp=>by have:=h.pv _ hp;omega⟩
  .exact⟨by have:=(h.lt o' f' v a).1;show f'<(g.s.alloc B).next;rw[S.next_alloc];omega,(h.lt o' f' v a).2⟩
 .have:=h.pv f' i;show f'<(g.s.alloc B).next;rw[S.next_alloc];omega
 .rcases ep hy with⟨e,c⟩|⟨e,hy⟩
  .grind
  .exact(h.obj o' y hy).keep (Fb h m h0 n p hl) (by show(g.O.set o _)[o']? = _;rw[du e]) λf' v a=>aR (h.lt o' f' v a).1
theorem Mk(h:Ok g)(hb:b<=g.s.next){sz:Nat}{st cap st' cap':Bool}{l:List (List D)}(d:g.O[o]? = some none)(h0:g.H[o]? = some (.buf sz st cap []))(i:x=.buf sz st' cap' l)(j:st=false->st'=false)(hl:l≠[]):Mv b g (g.bnew o x B):=by
 refine⟨Fb h d h0 i j hl,λf c _=>aR (afs c hb),λo' f v ho c=>?_,λo' s1 c1 f v a k=>?_⟩
 .rcases ep ho with⟨_,e⟩|⟨_,ho⟩
  .cases e;omega
  grind
 .have e:o≠o':=λe=>by subst e;rw[h0]at a;cases a
  exact⟨s1,c1,by show(g.H.set o _)[o']? = _;rw[du e];exact a,aaW _,λ_=>⟨rfl,aR (h.lt o' f v k).1⟩⟩
theorem FI.bnew(h:FI b P0 g t L tv LO){sz:Nat}{st cap st' cap':Bool}{l:List (List D)}(a:g.O[o]? = some none)(h0:g.H[o]? = some (.buf sz st cap []))(c:x=.buf sz st' cap' l)(d:st=false->st'=false)(hl:l≠[])(hr:kP (g.bnew o x B) o x):FI b P0 (g.bnew o x B) t L tv LO :=
 h.to (h.ok.bnew a h0 c d hl hr) (Mk h.ok h.bl a h0 c d hl) rfl λ_ i=>aR (h.lo_lt i)
def Gh.frz(g:Gh)(o sz:Nat)(cap:Bool)(l:List (List D)):Gh:=⟨g.O,g.H.set o (.buf sz false cap l),g.Pv,g.s⟩
theorem uR{sz:Nat}{st cap:Bool}{l:List (List D)}(h0:g.H[o]? = some (.buf sz st cap l)):oM g (g.frz o sz cap l):=by
 refine⟨by show _<=(g.H.set o _).length;rw[afy];exact aaW _,λo' f' v c=>⟨v,c⟩,λo' sz' gH cap1 l1 c=>?_,λo' sz' s1 l1 c=>⟨s1,l1,by show(g.H.set o _)[o']? = _;rw[du (λe=>by subst e;rw[h0]at c;cases c)];exact c,aaW _,λ_=>⟨rfl,rfl⟩⟩,λf' c=>⟨c.1,c.2.1,λo' v d=>?_⟩,λa n vs hi h=>h,aaW _⟩
 .by_cases e:o=o'
  .subst e;rw[h0]at c;cases c;exact .inr ⟨false,cap,l,bt h0,aaW _,λ_=>rfl,λ_=>⟨rfl,rfl⟩⟩
  .exact .inr ⟨gH,cap1,l1,by show(g.H.set o _)[o']? = _;rw[du e];exact c,aaW _,id,λ_=>⟨rfl,rfl⟩⟩
 .by_cases e:o=o'
  .subst e;exact⟨sz,cap,l,bt h0⟩
  .obtain⟨sz1,cap1,l1,i⟩:=c.2.2 o' v d;exact⟨sz1,cap1,l1,by show(g.H.set o _)[o']? = _;rw[du e];exact i⟩
theorem Ok.frz(h:Ok g){sz:Nat}{st cap:Bool}{l:List (List D)}(h0:g.H[o]? = some (.buf sz st cap l)):Ok (g.frz o sz cap l):=by
 refine⟨by simp[Gh.frz,h.len],h.wf,h.inj,h.lt,h.pv,λo' y hy=>?_,h.gl.to λf a hp ho=>⟨rfl,a,hp,ho⟩⟩;rcases ep hy with⟨e,c⟩|⟨e,hy⟩
 .subst e;subst c;exact(h.obj o _ h0).keep (b:=.buf sz st cap l) (uR h0) rfl (λ_ _ _=>rfl)
 .exact(h.obj o' y hy).keep (uR h0) rfl λ_ _ _=>rfl
theorem JP{sz:Nat}{st cap:Bool}{l:List (List D)}(h0:g.H[o]? = some (.buf sz st cap l)):Mv b g (g.frz o sz cap l):=⟨uR h0,λ_ _ _=>rfl,λ_ _ v h _=>⟨v,h⟩,λo' s1 c1 f v a _=>⟨s1,c1,by show(g.H.set o _)[o']? = _;rw[du (λe=>by subst e;rw[h0]at a;cases a)];exact a,aaW _,λ_=>⟨rfl,rfl⟩⟩⟩
def Gh.cut(g:Gh)(o sz s:Nat)(l:List (List D)):Gh:=⟨g.O,g.H.set o (.tbuf sz s l),g.Pv,g.s⟩
def Tj(sz s:Nat)(x:DB):Prop:=(∃ cap l,x=.buf sz true cap l)\/∃ s0 l,x=.tbuf sz s0 l/\s0<s
theorem Kb{sz s:Nat}{l:List (List D)}(h0:g.H[o]? = some x)(hc:Tj sz s x):oM g (g.cut o sz s l):=by
 refine⟨by show _<=(g.H.set o _).length;rw[afy];exact aaW _,λo' f' v c=>⟨v,c⟩,λo' sz' gH cap1 l1 c=>?_,λo' sz' s1 l1 c=>?_,λf' c=>⟨c.1,c.2.1,λo' v h=>?_⟩,λa n vs hi i=>i,aaW _⟩
 .by_cases e:o=o'
  .subst e;exact .inl ⟨sz,s,l,bt h0⟩
  .exact .inr ⟨gH,cap1,l1,by show(g.H.set o _)[o']? = _;rw[du e];exact c,aaW _,id,λ_=>⟨rfl,rfl⟩⟩
 .by_cases e:o=o'
  .subst e;rw[h0]at c;cases c;rcases hc with⟨_,_,k⟩|⟨_,_,k,j⟩<;>cases k;exact⟨s,l,bt h0,by omega,λe=>by omega⟩
  .exact⟨s1,l1,by show(g.H.set o _)[o']? = _;rw[du e];exact c,aaW _,λ_=>⟨rfl,rfl⟩⟩
 .obtain⟨sz1,cap1,l1,d⟩:=c.2.2 o' v h;refine⟨sz1,cap1,l1,?_⟩;show(g.H.set o _)[o']? = _;rw[du (λe=>?_)];exact d;subst e;rw[h0]at d;cases d;rcases hc with⟨_,_,k⟩|⟨_,_,k,j⟩<;>cases k
theorem Ok.cut(h:Ok g){sz s:Nat}{l:List (List D)}(h0:g.H[o]? = some x)(hc:Tj sz s x)(hr:kP (g.cut o sz s l) o (.tbuf sz s l)):Ok (g.cut o sz s l):=by
 refine⟨by simp[Gh.cut,h.len],h.wf,h.inj,h.lt,h.pv,λo' y hy=>?_,h.gl.to λf a hp ho=>⟨rfl,a,hp,ho⟩⟩;rcases ep hy with⟨e,c⟩|⟨e,hy⟩
 .subst e;subst c;exact hr
 .exact(h.obj o' y hy).keep (Kb h0 hc) rfl λ_ _ _=>rfl
theorem QT{sz s:Nat}{l:List (List D)}(h0:g.H[o]? = some x)(hc:Tj sz s x):Mv b g (g.cut o sz s l):=⟨Kb h0 hc,λ_ _ _=>rfl,λ_ _ v h _=>⟨v,h⟩,λo' s1 c1 f v a _=>⟨s1,c1,by show(g.H.set o _)[o']? = _;rw[du (λe=>by subst e;rw[h0]at a;cases a;rcases hc with⟨_,_,k⟩|⟨_,_,k,_⟩<;>cases k)];exact a,aaW _,λ_=>⟨rfl,rfl⟩⟩⟩
theorem FI.cut(h:FI b P0 g t L tv LO){sz s:Nat}{l:List (List D)}(h0:g.H[o]? = some x)(hc:Tj sz s x)(hr:kP (g.cut o sz s l) o (.tbuf sz s l)):FI b P0 (g.cut o sz s l) t L tv LO :=
 h.to (h.ok.cut h0 hc hr) (QT h0 hc) rfl λ_ _=>rfl
theorem FI.frz(h:FI b P0 g t L tv LO){sz:Nat}{st cap:Bool}{l:List (List D)}(h0:g.H[o]? = some (.buf sz st cap l)):FI b P0 (g.frz o sz cap l) t L tv LO :=
 h.to (h.ok.frz h0) (JP h0) rfl λ_ _=>rfl
theorem Fh(h:Ok g){sz:Nat}{st cap:Bool}{l:List (List D)}(h0:g.H[o]? = some (.buf sz st cap l)){n:Nat}(j:n=l.length){v:V}(q:Tk g sz o n v):RD (g.frz o sz cap l) (.row sz l) v:=by
 rcases q with⟨⟨_,_,_,i⟩,_⟩|⟨st',cap',l',i,k2,r⟩
 .rw[h0]at i;cases i
 rw[h0]at i;cases i;simp only[RD];rcases r with⟨u,d⟩|⟨u,f,ver,ver2,c,d,w,y⟩
 .have hl:l=[]:=air (by omega);subst hl;rcases d with rfl|⟨a,z,sz',rfl⟩
  .exact .inl ⟨rfl,rfl⟩
  .exact .inr (.inl ⟨rfl,a,z,sz',rfl⟩)
 .obtain⟨A,F⟩:=y j;subst A F;obtain⟨G,m|⟨m,f',ver',el,nv,vers,cells,p,i3,i4,i5,i6,I⟩⟩:=h.obj o _ h0
  .rw[m.1]at j;simp at j;omega
  .rw[d]at p;cases p;subst w j;refine .inr (.inr ⟨⟨f,ver2,0⟩,0,KN cap l.length,rfl,G,.inr rfl,λc hc=>?_,λ_=>⟨(h.lt o f ver2 d).1,(h.lt o f ver2 d).2,λo' v' k=>?_⟩,I.keep (uR h0) rfl⟩)
   .cases cap with
    |true=>cases hc;exact aaW _
    |false=>cases hc
   .rw[h.inj o' o f v' ver2 k d];exact⟨sz,cap,l,bt h0⟩
def Gh.acc(g:Gh)(sz:Nat)(cap:Bool):Gh:=⟨g.O++[none],g.H++[.buf sz true cap []],g.Pv,g.s⟩
theorem Rx(h:Ok g)(sz:Nat)(cap:Bool):oM g (g.acc sz cap):=by
 refine⟨by simp[Gh.acc],λ_ _ v h=>⟨v,eE _ h⟩,λo _ st cap l c=>.inr ⟨st,cap,l,eE _ c,aaW _,id,λ_=>⟨rfl,?_⟩⟩,λo _ s l c=>⟨s,l,eE _ c,aaW _,λ_=>⟨rfl,?_⟩⟩,λf c=>⟨c.1,c.2.1,λo v ho=>?_⟩,λa n vs hi d=>d,aaW _⟩
 .have:o<g.H.length:=by grind
  show(g.O++_)[o]? = _;rw[abo (by rw[h.len];exact this)]
 .have:o<g.H.length:=by grind
  show(g.O++_)[o]? = _;rw[abo (by rw[h.len];exact this)]
 .rcases bG ho with ho|⟨_,e⟩
  .obtain⟨sz,cap,l,i⟩:=c.2.2 o v ho;exact⟨sz,cap,l,eE _ i⟩
  .cases e
theorem Ok.acc(h:Ok g){sz:Nat}(m:0<sz)(cap:Bool):Ok (g.acc sz cap):=by
 refine⟨by simp[Gh.acc,h.len],h.wf,λo o' f v v' a i=>?_,λo f v ho=>?_,h.pv,λo c hc=>?_,h.gl.to λf a hp ho=>⟨rfl,a,hp,λo v k=>?_⟩⟩
 rotate_right 1
 .rcases bG k with k|⟨_,e⟩
  .exact ho o v k
  .cases e
 .rcases bG a with a|⟨l,d⟩<;>rcases bG i with i|⟨e3,n⟩
  .exact h.inj o o' f v v' a i
  .cases n
  .cases d
  .cases d
 .rcases bG ho with ho|⟨_,e⟩
  .exact h.lt o f v ho
  .cases e
 .rcases bG hc with hc|⟨l,d⟩
  .have j:o<g.O.length:=by
    rw[h.len]
    grind
   exact(h.obj o c hc).keep (Rx h sz cap) (by show(g.O++_)[o]? = _;rw[abo j]) λ_ _ _=>rfl
  .subst l;subst d;exact⟨m,.inl ⟨rfl,by show(g.O++_)[_]? = _;rw[<- h.len];exact iX⟩⟩
theorem JR(h:Ok g)(sz:Nat)(cap:Bool):Mv b g (g.acc sz cap):=by
 refine⟨Rx h sz cap,λ_ _ _=>rfl,λo f v ho _=>?_,λo s1 c1 f v a _=>⟨s1,c1,eE _ a,aaW _,λ_=>⟨rfl,rfl⟩⟩⟩;rcases bG ho with ho|⟨_,e⟩
 .grind
 .cases e
theorem FI.acc(h:FI b P0 g t L tv LO){sz:Nat}(a:0<sz)(cap:Bool):FI b P0 (g.acc sz cap) t L tv LO:=h.to (h.ok.acc a cap) (JR h.ok sz cap) rfl λ_ _=>rfl
end
end
section
variable[fZ]
variable{g:Gh}{LO:List Nat}{t:T LD}{tv:T V}{P:Program}{out:jg}
theorem fo{v:V}{vs:List V}:aW (v::vs)↔v.one=true/\aW vs:=by unfold aW;simp
theorem Ha{a b:List V}(h:aW a)(c:∀ v∈b,v∈a):aW b:=afx.2 λv d=>afx.1 h v (c v d)
theorem uK{vs:List V}(h:aW vs)(n:Nat):aW (vs.drop n):=Ha h λ_=>akk
theorem uJ{vs:List V}(h:aW vs)(n:Nat):aW (vs.take n):=Ha h λ_=>ajD
theorem ti{a b:List V}(h:aW a)(k:aW b):aW (a++b):=by unfold aW at *;rw[List.all_append,h,k];rfl
theorem KI:∀ {v:V} {d:D},VL v=some d->RD g d v/\v.one=true:=by
 intro v d h;unfold VL at h;split at h
 .cases h;exact⟨by simp only[RD],rfl⟩
 .cases h;exact⟨by simp only[RD],rfl⟩
 .rename_i l;cases hb:l.all (λc=>Nat.blt c 256)with
  |false=>rw[hb]at h;cases h
  |true =>rw[hb]at h;cases h;refine⟨?_,rfl⟩;simp_all[RD,afx.1,abh]
 .cases h;exact⟨by simp only[RD],rfl⟩
 .cases h;exact⟨by simp only[RD];exact .inl trivial,rfl⟩
 .cases h;exact⟨by simp only[RD],rfl⟩
 .rename_i fn a b;split at h
  .cases hb:(a.isEmpty&&b.isEmpty)with
   |false=>rw[hb]at h;cases h
   |true =>rw[hb]at h;cases h;simp only[aaV,List.isEmpty_iff]at hb;obtain⟨rfl,rfl⟩:=hb;exact⟨by simp only[RD];exact⟨[],[],rfl,by simp only[RL],by simp only[RL]⟩,rfl⟩
  .cases h
 .cases h;exact⟨by simp only[RD],rfl⟩
 .cases h;exact⟨by simp only[RD],rfl⟩
 .cases h
theorem FM:∀ {vs:List V} {ds:List D},MX vs=some ds->RL g ds vs/\aW vs
 |[],ds,h=>by cases h;exact⟨by simp only[RL],rfl⟩
 |v::r,ds,h=>by
  simp only[MX]at h;split at h
  .rename_i d a;split at h
   .rename_i l hl;cases h;obtain⟨c,i⟩:=KI (g:=g) a;obtain⟨j,k⟩:=FM hl;exact⟨by simp only[RL];exact⟨v,r,rfl,c,j⟩,fo.2 ⟨i,k⟩⟩
   .cases h
  .cases h
theorem Su{v:V}{d:D}(h:dOf v=some d):RD g d v:=by
 unfold dOf at h
 grind [FM,RD,KI]
theorem RL.one1{d:D}{v:V}(h:RD g d v):RL g [d] [v]:=by simp only[RL];exact⟨v,[],rfl,h,rfl⟩
theorem uh{v:V}(h:v.one=true):v.cells=[v]:=by cases v<;>first|rfl|cases h
theorem Ou{v:V}{d:D}(h:dOf v=some d):RL g d.cells v.cells/\aW v.cells:=by
 unfold dOf at h;split at h
 .split at h
  .rename_i cs l hl;cases h;exact FM hl
  .cases h
 .rename_i hne;obtain⟨h1,a⟩:=KI (g:=g) h;rw[uh a];refine⟨?_,fo.2 ⟨a,rfl⟩⟩;have:d.cells=[d]:=by
   cases d<;>first|rfl|skip
   grind [RD]
  grind [RL.one1]
theorem jM{ty:TypeId}{d:D}(h:qW P ty=some d):∃ z,zero P ty=some z/\RD g d z/\RL g d.cells z.cells/\aW z.cells:=by grind [qW,Su,Ou]
def DY(g:Gh)(LO:List Nat)(t:T LD)(tv:T V)(x:Operand):Prop:=∀ y,iF t x=some y->∃ v,eval tv x=some v/\RS g LO y v
theorem Cy.op(h:Cy g LO t tv)(x:Operand):DY g LO t tv x:=by
 intro y hy;cases x with
 |tmp i=>exact h i y hy
 |const c =>
  simp only[iF]at hy;split at hy
  .rename_i v a;split at hy
   .rename_i d j;cases hy;exact⟨v,a,Su j⟩
   .cases hy
  .cases hy
 |global _=>cases hy
 |func f=>cases hy;exact⟨_,rfl,by show RD _ _ _;simp only[RD];exact⟨[],[],rfl,by simp only[RL],by simp only[RL]⟩⟩
theorem bK{x:Operand}{κ:D->ai}(h:gD (iF t x) κ=some out)(hr:DY g LO t tv x):∃ d v,κ d=some out/\iF t x=some (.g d)/\eval tv x=some v/\RD g d v:=by
 unfold gD at h;split at h
 .rename_i d a;obtain⟨v,c,i⟩:=hr _ a;exact⟨d,v,h,a,c,i⟩
 .cases h
theorem nI{x:Operand}{κ:LD->ai}(h:lD (iF t x) κ=some out)(hr:DY g LO t tv x):∃ d v,κ d=some out/\iF t x=some d/\eval tv x=some v/\RS g LO d v:=by
 unfold lD at h;split at h
 .rename_i d a;obtain⟨v,h1,h2⟩:=hr _ a
  grind
 .cases h
theorem km:∀ {l:List Operand} {κ:List D->ai},HP t l κ=some out->(∀ x∈l,DY g LO t tv x)->∃ ds vs,κ ds=some out/\iq tv l=some vs/\RL g ds vs
 |[],κ,h,_=>⟨[],[],h,rfl,by simp only[RL]⟩
 |x::r,κ,h,hr=>by
  simp only[HP]at h;obtain⟨d,v,a,_,h2,h3⟩:=bK h (hr x aeq);obtain⟨ds,vs,k1,k2,k3⟩:=km a λy hy=>hr y (abi _ hy)
  grind [only,iq,RL]
theorem dE{b:Bool}{κ:ai}(h:boK b κ=some out):b=true/\κ=some out:=by
 cases b with
 |false=>cases h
 |true=>exact⟨rfl,h⟩
theorem aN{b:Bool}{κ:ai}(h:cond b κ none=some out):b=true/\κ=some out:=by grind
theorem jH{cs:List D}{c:Nat}{κ:D->ai}(h:af cs c κ=some out):∃ d,cs[c]? = some d/\κ d=some out:=by grind [af]
theorem iv:∀ {n:Nat} {cs:List D} {c:Nat} {κ:List D->ai},CH n cs c κ=some out->κ ((cs.drop c).take n)=some out/\(n=0\/c+n<=cs.length)
 |0,cs,c,κ,h=>⟨by simp only[CH]at h;simpa using h,.inl rfl⟩
 |n+1,cs,c,κ,h=>by
  simp only[CH]at h;obtain⟨d,a,i⟩:=jH h;have hc:c<cs.length:=by
   rcases aiU c cs.length with q|q
   .exact q
   .rw[aiT q]at a;cases a
  obtain⟨j,h4⟩:=iv i;refine⟨?_,.inr (by omega)⟩;rw[akb hc,aiL];rw[abg hc]at a;cases a;exact j
theorem mP:∀ {l:List V} {n:Nat},n<=l.length->bj n l=some (l.take n)
 |l,0,_=>rfl
 |[],n+1,h=>by simp at h
 |x::l,n+1,h=>by simp only[bj,mP (l:=l) (n:=n) (by simpa using h),Option.map,aiL]
theorem iO{s:S}{a:Ad}{N:Nat}{vs:List V}(h:loadCells s a N=some vs){c n:Nat}(hc:c+n<=N):loadCells s (cq a c) n=some ((vs.drop c).take n):=by
 have key:∀(u:oJ),(bif Nat.ble u.lo a.c then bj N (u.cells.drop (a.c - u.lo))else none)=some vs->(bif Nat.ble u.lo (a.c+c)then bj n (u.cells.drop (a.c+c - u.lo))else none)=some ((vs.drop c).take n):=λu d=>by
  cases hb:Nat.ble u.lo a.c with
  |false=>rw[hb]at d;cases d
  |true =>
   rw[hb]at d;have hle:=abh hb
   grind [ew,Nat.ble,Nat.ble_eq_true_of_le,List.length_drop,mP,List.drop_take,List.drop_drop,Nat.min_eq_left]
 unfold loadCells at h ⊢;simp only[cq];split at h
 .split at h
  .grind
  .cases h
 .split at h
  .grind
  .cases h
 .cases h
theorem tE{s:S}{a:Ad}{N:Nat}{vs:List V}(h:loadCells s a N=some vs){c:Nat}{v:V}(hc:vs[c]? = some v):pB s (cq a c)=some v:=by
 have key:∀(u:oJ),(bif Nat.ble u.lo a.c then bj N (u.cells.drop (a.c - u.lo))else none)=some vs->(bif Nat.ble u.lo (a.c+c)then u.cells[a.c+c - u.lo]? else none)=some v:=λu d=>by
  cases hb:Nat.ble u.lo a.c with
  |false=>rw[hb]at d;cases d
  |true =>
   rw[hb]at d;have hle:=abh hb;obtain⟨rfl,h2⟩:=ew d;rw[show Nat.ble u.lo (a.c+c)=true from abk (by omega)];simp only[ge];rw[ajO]at hc;split at hc
   .rw[ajK]at hc;rw[show a.c+c - u.lo=a.c - u.lo+c by omega];exact hc
   .cases hc
 unfold loadCells at h;unfold pB;simp only[cq];split at h
 .split at h
  .rename_i u d;exact key u h
  .cases h
 .split at h
  .rename_i u d;exact key u h
  .cases h
 .cases h
theorem Cg{s:S}{a:Ad}{N:Nat}{vs:List V}(h:loadCells s a N=some vs):vs.length=N:=by
 have key:∀(u:oJ),(bif Nat.ble u.lo a.c then bj N (u.cells.drop (a.c - u.lo))else none)=some vs->vs.length=N:=λu d=>by
  cases hb:Nat.ble u.lo a.c with
  |false=>rw[hb]at d;cases d
  |true =>
   rw[hb]at d;obtain⟨rfl,h2⟩:=ew d
   grind
 grind [loadCells]
theorem jY{s:S}{ty:TypeId}{cs:List D}{c:Nat}{κ:D->ai}(h:br P ty cs c κ=some out){a:Ad}{vs:List V}(hl:loadCells s a cs.length=some vs)(hr:RL g cs vs)(ho:aW vs) :
 ∃ d v,κ d=some out/\loadVar P s ty (cq a c)=some v/\RD g d v:=by
 unfold br at h;unfold loadVar;split at h
 .rename_i j;split at h
  .rename_i n m;obtain⟨i,h⟩:=aN h;obtain⟨k,l⟩:=iv h;have i:=abh i;refine⟨_,.agg ((vs.drop c).take n),k,?_,?_⟩
   .rw[j,m];simp only[Option.bind];rw[iO hl (by omega)];rfl
   .simp only[RD];exact⟨_,rfl,(hr.drop c).take n,uJ (uK ho c) n⟩
  .cases h
 .rename_i j;obtain⟨d,k,l⟩:=jH h;obtain⟨v,p,q⟩:=hr.at k;exact⟨d,v,l,by rw[j];exact tE hl p,q⟩
 .cases h
end
section
theorem sJ:∀ {p q:List Nat},(∀ z∈p,z<256)->(∀ z∈q,z<256)->ma p q=some (decide (p=q))
 |[],[],_,_=>rfl
 |[],_::_,_,_=>rfl
 |_::_,[],_,_=>rfl
 |x::p,y::q,hp,c=>by
  have ih:=sJ (p:=p) (q:=q) (λz a=>hp z (abi _ a)) (λz a=>c z (abi _ a));have hx:Nat.blt x 256=true:=abk (hp x (by simp));have hy:Nat.blt y 256=true:=abk (c y (by simp))
  grind [ma,Nat.eq_of_beq_eq_true,List.cons.injEq,Nat.beq_refl,Bool.and_self]
variable[fZ]
variable{g:Gh}{LO:List Nat}{t:T LD}{tv:T V}{P:Program}{out:jg}
theorem VO{x:LD}{κ:LD->ai}(h:VP x κ=some out){v:V}(r:RS g LO x v):κ x=some out/\nY (some v)=some v:=by
 unfold VP kC at h;split at h
 .obtain⟨f,c,rfl⟩:=r;exact⟨h,rfl⟩
 .rename_i d;have r:RD g d v:=r;split at h
  .simp only[RD]at r;obtain⟨f,ver,c,rfl⟩:=r;exact⟨h,rfl⟩
  .simp only[RD]at r;obtain⟨a,vs,rfl,_⟩:=r;exact⟨h,rfl⟩
  .simp only[RD]at r;rcases r with⟨_,a,rfl⟩|⟨f,ver,sz,st,cap,l,ver',_,_,_,_,rfl,_⟩<;>exact⟨h,rfl⟩
  .simp only[RD]at r;obtain⟨f,ver,sz,s',l,ver',_,_,_,rfl,_⟩:=r;exact⟨h,rfl⟩
  .simp only[RD]at r;obtain⟨a',b',rfl,_⟩:=r;exact⟨h,rfl⟩
  .simp only[RD]at r;obtain⟨f,ver,_,rfl⟩:=r;exact⟨h,rfl⟩
  .cases h
 .cases h
theorem Vs{x:LD}{off:Nat}{κ:LD->ai}(h:Vt x off κ=some out){v:V}(r:RS g LO x v):∃ m a,κ m=some out/\v=.ptr a/\RS g LO m (.ptr (cq a off)):=by
 unfold Vt ct at h;split at h
 .obtain⟨f,c,rfl⟩:=r;exact⟨_,_,h,rfl,f,c,rfl⟩
 .rename_i d;have r:RD g d v:=r;split at h
  .simp only[RD]at r;obtain⟨f,ver,c,rfl⟩:=r;exact⟨_,_,h,rfl,by show RD _ _ _;simp only[RD];exact⟨f,ver,c,rfl⟩⟩
  .simp only[RD]at r;obtain⟨a,vs,rfl,c⟩:=r;exact⟨_,_,h,rfl,by show RD _ _ _;simp only[RD];exact⟨a,vs,by rw[BH],c⟩⟩
  .simp only[RD]at r;rcases r with⟨n,a,rfl⟩|⟨f,ver,sz,st,cap,l,ver',c,i,j,p,rfl,k⟩
   .exact⟨_,_,h,rfl,by show RD _ _ _;simp only[RD];exact .inl ⟨n,_,rfl⟩⟩
   exact⟨_,_,h,rfl,by show RD _ _ _;simp only[RD];exact .inr ⟨f,ver,sz,st,cap,l,ver',c,i,j,p,by simp only[cq,ajH],k⟩⟩
  .simp only[RD]at r;obtain⟨f,ver,sz,s',l,ver',c,i,j,rfl,k⟩:=r;exact⟨_,_,h,rfl,by show RD _ _ _;simp only[RD];exact⟨f,ver,sz,s',l,ver',c,i,j,by simp only[cq,ajH],k⟩⟩
  .cases h
 .cases h
theorem Ol{ty:TypeId}{x:LD}{f:Nat}{κ:LD->ai}(h:At P ty x f κ=some out){v:V}(r:RS g LO x v):∃ a v',κ a=some out/\ja P ty (some v) f=some v'/\RS g LO a v':=by
 unfold At at h;dsimp only at h;split at h
 .split at h
  .split at h
   .cases h
   .grind [Vs,only,ja]
  .cases h
 .cases h
theorem th{ty:TypeId}{cs:List D}{c:Nat}{κ:D->ai}(h:br P ty cs c κ=some out){vs:List V}(hr:RL g cs vs)(ho:aW vs) :
 ∃ d v,κ d=some out/\vZ P ty vs c=some v/\RD g d v:=by
 unfold br at h;unfold vZ;split at h
 .rename_i a;split at h
  .rename_i n k;obtain⟨hn0,h⟩:=aN h;obtain⟨i,j⟩:=iv h;refine⟨_,.agg ((vs.drop c).take n),i,by rw[a,k];rfl,?_⟩;simp only[RD];exact⟨_,rfl,(hr.drop c).take n,uJ (uK ho c) n⟩
  .cases h
 .rename_i a;obtain⟨d,i,j⟩:=jH h;obtain⟨v,l,m⟩:=hr.at i;exact⟨d,v,j,by rw[a];exact l,m⟩
 .cases h
theorem Oj{ty:TypeId}{x:D}{f:Nat}{κ:D->ai}(h:sh P ty x f κ=some out){v:V}(r:RD g x v):∃ d v',κ d=some out/\tZ P ty (some v) f=some v'/\RD g d v':=by
 unfold sh at h;split at h
 .rename_i fs hu;split at h
  .rename_i fd hf;split at h
   .simp only[RD]at r;obtain⟨vs,rfl,a,c⟩:=r;obtain⟨d,v',k1,k2,k3⟩:=th h a c
    grind [only,tZ]
   .cases h
  .cases h
 .cases h
theorem jx{n:Int}{κ:Nat->ai}(h:dV n κ=some out):∃ m:Nat,n=(m:Int)/\κ m=some out:=by
 unfold dV at h;split at h
 .grind
 .cases h
theorem TU{sz:Nat}{l:List (List D)}{v:V}(r:RD g (.row sz l) v){i:Nat}{cs:List D}(hi:l[i]? = some cs) :
 ∃ a z cap vs,v=.slice a z l.length cap sz/\i<l.length/\g.Imm a.f/\cs.length=sz/\loadCells g.s (cq a (i*sz)) sz=some vs/\RL g cs vs/\aW vs:=by
 have c:i<l.length:=by grind
 simp only[RD]at r;rcases r with⟨rfl,_⟩|⟨rfl,_⟩|⟨a,z,cap,d,_,_,_,h,j⟩
 .simp at hi
 .simp at hi
 .obtain⟨vs,k,m,n,p⟩:=j.at hi;exact⟨a,z,cap,vs,d,c,h (by intro e;rw[e]at hi;simp at hi),k,m,n,p⟩
theorem Bx{m n:Nat}(h:m<n):Nat.blt m n=true:=abk h
theorem Oc{ty:TypeId}{x i:D}{κ:D->ai}(h:ay P ty x i κ=some out){v w:V}(r:RD g x v)(ri:RD g i w):∃ d v',κ d=some out/\eQ P ty (some v) (dQ (some w))=some v'/\RD g d v':=by
 unfold ay at h;split at h
 .rename_i el A;split at h
  .rename_i sz F;split at h
   .rename_i k n;simp only[RD]at ri;subst ri;unfold Hu at h;split at h
    .rename_i s l;obtain⟨hb,j⟩:=aN h;clear h;obtain rfl:=aaO hb;obtain⟨m,rfl,h⟩:=jx j;unfold bZ at h;split at h
     .rename_i cs hc;obtain⟨a,z,cap,vs,rfl,y,p,G,q,h6,h7⟩:=TU r hc
      grind [cq,only,dQ,mh,eQ,Nat.beq_refl,Bx,Bool.and_self,RD]
     .cases h
    .rename_i s o n;obtain⟨hb,j⟩:=aN h;clear h;obtain rfl:=aaO hb;obtain⟨m,rfl,h''⟩:=jx j;obtain⟨hb,h⟩:=dE h'';have hm:m<n:=abh hb;simp only[RD]at r;rcases r with⟨u,⟨p,_⟩|⟨a,z,c,rfl⟩⟩|⟨st,cap,l,u,y,⟨p,_⟩|⟨p,f,ver,ver',c,G,rfl,q⟩⟩
     .omega
     .refine⟨_,.ptr (cq a (m*s)),h,by simp only[dQ,mh,eQ,A,F,acD,Bx hm,afX,ge],?_⟩;simp only[RD];exact .inl ⟨u,_,rfl⟩
     .omega
     refine⟨_,.ptr (cq ⟨f,ver',0⟩ (m*s)),h,by simp only[dQ,mh,eQ,A,F,acD,Bx hm,afX,ge],?_⟩;simp only[RD];exact .inr ⟨f,ver,_,st,cap,l,ver',G,u,y,hm,by simp only[cq,adO,aiM],λe=>(q e).1⟩
    .rename_i s o st n;obtain⟨hb,j⟩:=aN h;clear h;obtain rfl:=aaO hb;obtain⟨m,rfl,h''⟩:=jx j;obtain⟨hb,h⟩:=dE h'';have hm:m<n:=abh hb;simp only[RD]at r;obtain⟨f,ver,s',l,ver',u,y,p,rfl,q⟩:=r;refine⟨_,.ptr (cq ⟨f,ver',0⟩ (m*s)),h,by simp only[dQ,mh,eQ,A,F,acD,Bx hm,afX,ge],?_⟩;simp only[RD];exact⟨f,ver,_,s',l,ver',u,y,p,by simp only[cq,adO,aiM],λe=>⟨by have:=(q e).1;omega,(q e).2⟩⟩
    .cases h
   .cases h
  .cases h
 .cases h
theorem Ob{ty:TypeId}{x i:D}{κ:D->ai}(h:kb P ty x i κ=some out){v w:V}(r:RD g x v)(ri:RD g i w):∃ d v',κ d=some out/\qD P ty (some v) (dQ (some w))=some v'/\RD g d v':=by
 unfold kb at h;split at h
 .rename_i a;split at h
  .rename_i l;split at h
   .grind [RD,jx,Bq,pX,only,dQ,mh,qD]
   .cases h
  .cases h
 .rename_i len el a;split at h
  .rename_i cs;split at h
   .rename_i sz hs;split at h
    .rename_i k n;simp only[RD]at r ri;obtain⟨vs,rfl,h1,h2⟩:=r;subst ri;obtain⟨m,rfl,c⟩:=jx h;obtain⟨hl,h3⟩:=aN c
     grind [th,only,dQ,mh,qD]
    .cases h
   .cases h
  .cases h
 .cases h
theorem KT{ty:TypeId}{x:D}{ok:Bool}{κ:D->ai}(h:jI P x ty ok κ=some out){v:V}(r:RD g x v):∃ d v',κ d=some out/\mz P (some v) ty ok=some v'/\RD g d v':=by
 have fail:∀ {κ:D->ai},(bif ok then(match qW P ty with|some z=>κ (.tuple [z,.bool false])|none=>none)else none)=some out->∃ d v',κ d=some out/\fI P ty ok=some v'/\RD g d v':=λ{κ} h=>by
  obtain⟨hk,h⟩:=aN h;split at h
  .rename_i z c;obtain⟨zv,i,h2,_⟩:=jM (g:=g) c
   grind [fI,RD,RL]
  .cases h
 unfold jI at h;split at h
 .cases h
 .rename_i td hni hu;have a:∀ w,mz P (some w) ty ok=match some w with
   |some .nilIface=>fI P ty ok
   |some (.iface t v)=>bif Nat.beq t ty then some (bif ok then .tuple [v,.bool true] else v)else fI P ty ok
   |_=>none:=λw=>by grind [mz]
  split at h
  .simp only[RD]at r;obtain⟨v',rfl,i⟩:=r;rename_i t d;rw[a];simp only;cases hb:Nat.beq t ty with
   |true =>grind [RD,RL]
   |false =>rw[hb]at h;exact fail h
  .simp only[RD]at r;subst r;rw[a];exact fail h
  .cases h
 .cases h
theorem Vz{x:D}{i:Nat}{κ:D->ai}(h:ei x i κ=some out){v:V}(r:RD g x v):∃ d v',κ d=some out/\qE (some v) i=some v'/\RD g d v':=by
 unfold ei at h;split at h
 .simp only[RD]at r;obtain⟨vs,rfl,a⟩:=r;obtain⟨d,c,j⟩:=jH h;obtain⟨v',k,l⟩:=a.at c;exact⟨d,v',j,k,l⟩
 .cases h
theorem Yh{op:UnOp}{x:D}{κ:D->ai}(h:ib op x κ=some out){v:V}(r:RD g x v):∃ d v',κ d=some out/\Pr op v=some v'/\RD g d v':=by
 unfold ib at h;split at h
 .split at h
  .simp only[RD]at r;subst r;exact⟨_,_,h,rfl,by simp only[RD]⟩
  .cases h
 .split at h
  .simp only[RD]at r;subst r;exact⟨_,_,h,rfl,by simp only[RD]⟩
  .cases h
 .cases h
theorem Sy{a dst:TypeId}{x:D}{κ:D->ai}(h:wR P a dst x κ=some out){v:V}(r:RD g x v)(s:S):∃ d v',κ d=some out/\kz P s a dst v=some (v',s)/\RD g d v':=by
 unfold wR at h
 grind [Option.isNone_some,RD,only,kz,cr,CG]
theorem Vd{op:BinOp}{k:IntKind}{a b:Int}{κ:D->ai}(h:Zy op k a b κ=some out):∃ d v',κ d=some out/\Do op k a b=some v'/\RD g d v':=by
 have j:∀ {κ:ai},boK (!(b==0)) κ=some out->(b==0)=false/\κ=some out:=λh=>by grind [dE]
 cases op
 case add=>exact⟨_,_,h,aib some (cr _ _),by simp only[RD]⟩
 case sub=>exact⟨_,_,h,aib some (cr _ _),by simp only[RD]⟩
 case mul=>exact⟨_,_,h,aib some (cr _ _),by simp only[RD]⟩
 case quo=>obtain⟨c,i⟩:=j h;exact⟨_,.int k (k.wrap (a.tdiv b)),i,by simp only[Do,c,SE],by simp only[RD]⟩
 case rem=>obtain⟨c,i⟩:=j h;exact⟨_,.int k (a.tmod b),i,by simp only[Do,c,SE],by simp only[RD]⟩
 all_goals first|(cases h;done)|exact⟨_,_,h,rfl,by simp only[RD]⟩
theorem TF{op:BinOp}{a b:List Nat}{κ:D->ai}(h:Yp op a b κ=some out)(i:∀ c∈a,c<256)(hb:∀ c∈b,c<256):∃ d v',κ d=some out/\yD op a b=some v'/\RD g d v':=by
 have j:ma a b=some (a==b):=by rw[sJ i hb];congr 1;rw[afw];simp
 cases op
 case add =>
  obtain⟨k,h⟩:=dE h;refine⟨_,.str (a++b),h,by simp only[yD,k,ge],?_⟩;simp only[RD];refine⟨trivial,λc hc=>?_⟩;rcases aeS.1 hc with hc|hc
  .exact i c hc
  .exact hb c hc
 case eql=>exact⟨_,.bool (a==b),h,by simp only[yD,j,Option.map],by simp only[RD]⟩
 case neq=>exact⟨_,.bool (!(a==b)),h,by simp only[yD,j,Option.map],by simp only[RD]⟩
 all_goals first|(cases h;done)|exact⟨_,_,h,rfl,by simp only[RD]⟩
theorem HT{eq:TypeId->D->D->(Bool->ai)->ai}{eqv:TypeId->V->V->Option Bool}(c:∀ ty x y (κ:Bool->ai) (v w:V),eq ty x y κ=some out->RD g x v->RD g y w->∃ q,κ q=some out/\eqv ty v w=some q) :
 ∀ {fs:List Field} {xs ys:List D} {q:Bool} {κ:Bool->ai} {vs ws:List V},oG P eq fs xs ys q κ=some out->RL g xs vs->aW vs->RL g ys ws->aW ws->∃ p,κ (q&&p)=some out/\(jR P eqv fs vs ws=some p)
 |[],xs,ys,q,κ,vs,ws,h,_,_,_,_=>⟨true,by rw[aiJ];exact h,rfl⟩
 |f::r,xs,ys,q,κ,vs,ws,h,d,i,j,k=>by
  simp only[oG]at h;cases l:(f.name == "_")with
  |true=>rw[l]at h;cases h
  |false =>
   rw[l]at h;simp only[SE]at h;obtain⟨a,va,m,k2,n⟩:=th h d i;obtain⟨b,vb,u,j2,z⟩:=th m j k;obtain⟨p,A,i2⟩:=c _ _ _ _ _ _ u n z;obtain⟨p',i3,i4⟩:=HT c A d i j k
   grind [Bool.and_assoc,jR]
theorem Fx(okf:Ad->Bool):∀ {d:Nat} {ty:TypeId} {x y:D} {κ:Bool->ai} {v w:V},On P d ty x y κ=some out->RD g x v->RD g y w->∃ q,κ q=some out/\dq P okf d ty v w=some q
 |0,_,_,_,_,_,_,h,_,_=>by cases h
 |d+1,ty,x,y,κ,v,w,h,i,j=>by
  simp only[On]at h;unfold dq;split at h
  .rename_i fs k;split at h
   .simp only[RD]at i j;obtain⟨vs,rfl,m,n⟩:=i;obtain⟨ws,rfl,r,u⟩:=j;cases l:P.stoodInHeld ty with
    |true=>rw[l]at h;cases h
    |false =>
     rw[l]at h;simp only[SE]at h;obtain⟨p,k1,k2⟩:=HT (eqv:=dq P okf d) (λty x y κ v w a b c=>Fx okf (d:=d) a b c) h m n r u
     grind
   .cases h
  .grind [RD]
  .grind [RD]
  .rename_i k;split at h
   .simp only[RD]at i j;subst i j
    grind
   .cases h
  .rename_i k;split at h
   .simp only[RD]at i j;obtain⟨rfl,z⟩:=i;obtain⟨rfl,hb⟩:=j;refine⟨_,h,?_⟩;rw[k];simp only;rw[sJ z hb];congr 1;rw[afw];simp
   .cases h
  .grind [RD]
  .grind [RD]
  .cases h
def afC:V->Nat
 |.bool _=>0|.int ..=>1|.str _=>2|.ptr _=>3|.nilptr=>4|.slice ..=>5|.nilslice=>5|.map _=>6|.nilmap=>7|.func ..=>8|.nilFunc=>9|.iface ..=>10|.nilIface=>11|.agg _=>12|.tuple _=>13|.atom _=>14
def Sq:D->Nat
 |.bool _=>0|.int ..=>1|.str _=>2|.ptr ..=>3|.eptr ..=>3|.bptr ..=>3|.tptr ..=>3|.tb ..=>5|.nilptr=>4|.row ..=>5|.buf ..=>5|.nilrow=>5|.map _=>6|.nilmap=>7|.func ..=>8|.nilFunc=>9|.iface ..=>10|.nilIface=>11|.agg _=>12|.tuple _=>13|.yld _=>8|.abool=>0
theorem RD.tag{d:D}{v:V}(r:RD g d v):afC v=Sq d:=by
 cases d<;>simp only[RD]at r
 case bool=>subst r;rfl
 case int=>subst r;rfl
 case str=>obtain⟨rfl,_⟩:=r;rfl
 case ptr=>obtain⟨f,ver,_,rfl⟩:=r;rfl
 case eptr=>obtain⟨a,vs,rfl,_⟩:=r;rfl
 case bptr=>rcases r with⟨_,a,rfl⟩|⟨f,ver,sz,st,cap,l,ver',_,_,_,_,rfl,_⟩<;>rfl
 case tptr=>obtain⟨f,ver,sz,s',l,ver',_,_,_,rfl,_⟩:=r;rfl
 case tb=>obtain⟨f,ver,s',l,ver',_,_,_,rfl,_⟩:=r;rfl
 case nilptr=>subst r;rfl
 case row=>rcases r with⟨_,rfl⟩|⟨_,a,z,sz',rfl⟩|⟨a,z,cap,rfl,_⟩<;>rfl
 case buf=>rcases r with⟨_,⟨_,rfl|⟨a,z,sz',rfl⟩⟩|⟨a,z,c,rfl⟩⟩|⟨st,cap,l,_,_,⟨_,rfl|⟨a,z,sz',rfl⟩⟩|⟨_,f,ver,ver',c,_,rfl,_⟩⟩<;>rfl
 case nilrow=>rcases r with rfl|⟨a,z,sz',rfl⟩<;>rfl
 case map=>obtain⟨f,ver,_,rfl⟩:=r;rfl
 case nilmap=>subst r;rfl
 case func=>obtain⟨a',b',rfl,_⟩:=r;rfl
 case nilFunc=>subst r;rfl
 case iface=>obtain⟨v',rfl,_⟩:=r;rfl
 case nilIface=>subst r;rfl
 case agg=>obtain⟨vs,rfl,_⟩:=r;rfl
 case tuple=>obtain⟨vs,rfl,_⟩:=r;rfl
 case yld=>obtain⟨f,ver,_,rfl⟩:=r;rfl
 case abool=>obtain⟨q,rfl⟩:=r;rfl
theorem xG{d:D}{j:IntKind}{n:Int}(r:RD g d (.int j n)):d=.int j n:=by
 have h:=r.tag;cases d<;>first|(cases h;done)|skip
 grind [RD]
theorem xF{d:D}{l:List Nat}(r:RD g d (.str l)):d=.str l:=by
 have h:=r.tag;cases d<;>first|(cases h;done)|skip
 grind [RD]
theorem PF{d:D}(r:RD g d .nilIface):d=.nilIface:=by have h:=r.tag;cases d<;>first|(cases h;done)|rfl
theorem TB{d:D}{vs:List V}(r:RD g d (.agg vs)):∃ cs,d=.agg cs:=by have h:=r.tag;cases d<;>first|(cases h;done)|exact⟨_,rfl⟩
theorem VX{op:BinOp}{ty:TypeId}{x y:Operand}{a b:D}{κ:D->ai}(h:aC P op ty (fG x||fG y) a b κ=some out){v w:V}(c:RD g a v)(i:RD g b w)(s:S):∃ d v',κ d=some out/\gk P s op ty x y (some v) (some w)=some v'/\RD g d v':=by
 have gen:∀ {κ:D->ai},gS P op ty x y v w=true->(op=.eql->gb P (bU s) op ty v w=(dq P (bU s) 20 ty v w).map .bool)->(op=.neq->gb P (bU s) op ty v w=(dq P (bU s) 20 ty v w).map λb=>.bool (!b)) ->
  (op=.eql/\(On P 20 ty a b λq=>κ (.bool q))=some out\/op=.neq/\(On P 20 ty a b λq=>κ (.bool !q))=some out)->∃ d v',κ d=some out/\gk P s op ty x y (some v) (some w)=some v'/\RD g d v':=λ{κ} r l u h=>by
  rcases h with⟨e,h⟩|⟨e,h⟩
  .obtain⟨q,A,F⟩:=Fx (bU s) h c i
   grind [only,gk,Option.map,RD]
  .obtain⟨q,A,F⟩:=Fx (bU s) h c i
   grind [only,gk,Option.map,RD]
 unfold aC at h;split at h
 .rename_i j m k n;simp only[RD]at c i;subst c i;cases z:qw op with
  |true=>rw[z]at h;cases h
  |false =>
   rw[z]at h;simp only[SE]at h;obtain⟨hk,h⟩:=aN h;obtain⟨d,v',l,u,p⟩:=Vd h;refine⟨d,v',l,?_,p⟩
   grind [gS,rY,gk,gb]
 .simp only[RD]at c i;obtain⟨rfl,G⟩:=c;obtain⟨rfl,hb⟩:=i;obtain⟨d,v',l,u,p⟩:=TF h G hb;refine⟨d,v',l,?_,p⟩
  grind [gS,rY,gk,gb]
 .rename_i n1 n2;obtain⟨r,h⟩:=aN h;have H:op=.eql/\(On P 20 ty a b λq=>κ (.bool q))=some out\/op=.neq/\(On P 20 ty a b λq=>κ (.bool !q))=some out:=by grind
  refine gen ?_ (λe=>?_) (λe=>?_) H
  .unfold RT at r;unfold gS
   grind [PF,TB]
  .subst e;unfold gb;split
   .obtain rfl:=xG c;obtain rfl:=xG i
    grind
   .obtain rfl:=xF c;obtain rfl:=xF i
    grind
   .rfl
  .subst e;unfold gb;split
   .obtain rfl:=xG c;obtain rfl:=xG i
    grind
   .obtain rfl:=xF c;obtain rfl:=xF i
    grind
   .rfl
end
section
variable[fZ]
variable{g:Gh}{LO:List Nat}{t:T LD}{tv:T V}{P:Program}{out:jg}
theorem RD.one{d:D}{v:V}(r:RD g d v)(a:Sq d≠12)(c:Sq d≠13):v.one=true:=by have h:=r.tag;cases v<;>first|rfl|(exfalso;first|exact a h.symm|exact c h.symm)
theorem od{n:Nat}{d:D}{κ:List D->ai}(h:ah n d κ=some out){v:V}(r:RD g d v):∃ new,κ new=some out/\RL g new v.cells/\aW v.cells/\v.cells.length=n:=by
 unfold ah at h;split at h
 .simp only[RD]at r;obtain⟨vs,rfl,a,c⟩:=r;obtain⟨hb,h⟩:=aN h;refine⟨_,h,a,c,?_⟩;rw[<- aaO hb];exact a.len
 .cases h
 .rename_i n1 n2;obtain⟨hb,h⟩:=aN h;have a:v.one=true:=r.one (by cases d<;>first|exact(n1 _ rfl).elim|(exact λe=>by cases e)) (by cases d<;>first|exact(n2 _ rfl).elim|(exact λe=>by cases e));rw[uh a];exact⟨_,h,RL.one1 r,fo.2 ⟨a,rfl⟩,(aaO hb).symm⟩
theorem qn:∀ {cs:List D} {c:Nat} {new cs':List D} {vs ws:List V},qN cs c new=some cs'->RL g cs vs->aW vs->RL g new ws->aW ws->∃ vs',cA vs c ws=some vs'/\RL g cs' vs'/\aW vs'/\cs'.length=cs.length
 |cs,c,[],cs',vs,ws,h,d,i,a,_=>by
  simp only[RL]at a;subst a;have:cs'=cs:=by cases cs<;>cases c<;>(simp only[qN]at h;cases h;rfl)
  subst this;refine⟨vs,?_,d,i,rfl⟩;cases vs<;>cases c<;>rfl
 |x::r,n+1,y::new,cs',vs,ws,h,d,i,a,j=>by
  simp only[qN]at h;split at h
  .rename_i l hl;cases h;simp only[RL]at d;obtain⟨v,vs',rfl,z,k⟩:=d;obtain⟨vs2,m,p,q,u⟩:=qn hl k (fo.1 i).2 a j;simp only[RL]at a;obtain⟨w,ws',rfl,_,_⟩:=a;exact⟨v::vs2,by simp only[cA,m,Option.map],by simp only[RL];exact⟨v,vs2,rfl,z,p⟩,fo.2 ⟨(fo.1 i).1,q⟩,by simp only[aeg,u]⟩
  .cases h
 |x::r,0,y::new,cs',vs,ws,h,d,i,a,j=>by
  simp only[qN]at h;split at h
  .rename_i l hl;cases h;simp only[RL]at d a;obtain⟨v,vs',rfl,z,k⟩:=d;obtain⟨w,ws',rfl,A,F⟩:=a;obtain⟨vs2,m,p,q,u⟩:=qn hl k (fo.1 i).2 F (fo.1 j).2;exact⟨w::vs2,by simp only[cA,m,Option.map],by simp only[RL];exact⟨w,vs2,rfl,A,p⟩,fo.2 ⟨(fo.1 j).1,q⟩,by simp only[aeg,u]⟩
  .cases h
 |[],c,y::new,cs',vs,ws,h,_,_,_,_=>by cases c<;>(simp only[qN]at h;cases h)
theorem zh{cs:List D}{c:Nat}{new:List D}{κ:List D->ai}(h:aw cs c new κ=some out){vs ws:List V}(h1:RL g cs vs)(h2:aW vs)(h3:RL g new ws)(h4:aW ws):∃ cs' vs',κ cs'=some out/\cA vs c ws=some vs'/\RL g cs' vs'/\aW vs'/\cs'.length=cs.length:=by grind [aw,qn]
theorem As(place:Nat->Option (Nat×Nat)):∀ {parts:List (Nat×Operand)} {cs:List D} {κ:List D->ai} {vs:List V},DA place t parts cs κ=some out->(∀ x∈parts,DY g LO t tv x.2)->RL g cs vs->aW vs ->
 ∃ cs' vs' ws,κ cs'=some out/\eG tv parts=some ws/\rp place vs ws=some vs'/\RL g cs' vs'/\aW vs'
 |[],cs,κ,vs,h,_,a,c=>⟨cs,vs,[],h,rfl,rfl,a,c⟩
 |(i,x)::r,cs,κ,vs,h,ho,a,c=>by
  simp only[DA]at h;obtain⟨d,v,h,_,k1,j⟩:=bK h (ho (i,x) aeq);split at h
  .cases h
  .rename_i off n hp;obtain⟨hn,h⟩:=aN h;obtain⟨new,h,k,l,k5⟩:=od h j;obtain⟨Tq,vs1,h,k6,m,p,_⟩:=zh h a c k l;obtain⟨cs2,vs2,ws,j1,j2,j3,j4,j5⟩:=As place h (λy hy=>ho y (abi _ hy)) m p
   grind [only,eG,rp,Nat.beq_refl,Bool.and_self,Option.bind]
theorem OD{ty:TypeId}{parts:List (Nat×Operand)}{κ:D->ai}(h:Bt P t ty parts κ=some out)(ho:∀ x∈parts,DY g LO t tv x.2):∃ d v,κ d=some out/\qF P ty (eG tv parts)=some v/\RD g d v:=by
 unfold Bt at h;split at h
 .rename_i z q;obtain⟨zv,r,_,a,c⟩:=jM (g:=g) q;split at h
  .rename_i fs i;obtain⟨ha,h⟩:=aN h;obtain⟨cs',vs',ws,j,k,l,m,p⟩:=As _ h ho a c
   grind [only,qF,IM,RD]
  .rename_i nn el i;split at h
   .rename_i n u;obtain⟨cs',vs',ws,j,k,l,m,p⟩:=As _ h ho a c;exact⟨_,.agg vs',j,by simp only[qF,r,k,i,u,l,IM],by simp only[RD];exact⟨vs',rfl,m,p⟩⟩
   .cases h
  .cases h
 .cases h
def fW(H:DH)(g:Gh):Prop:=∀(o:Nat) b,H[o]? = some b->b=.dead\/g.H[o]? = some b
theorem fW.nil(g:Gh):fW [] g:=λo b h=>by simp at h
theorem fW.refl(g:Gh):fW g.H g:=λ_ _ h=>.inr h
theorem EM{H:DH}{o:Nat}{κ:Nat->List D->ai}(h:am H o κ=some out)(c:fW H g)(a:Ok g):∃ st cs f el vs,κ st cs=some out/\H[o]? = some (.cells st cs)/\g.H[o]? = some (.cells st cs)/\g.O[o]? = some (some (f,0))/\g.s.get f=some (.cells el false 1 [⟨0,0,vs⟩])/\RL g cs vs/\aW vs:=by
 unfold am at h;split at h
 .rename_i st cs hc;have d:g.H[o]? = some (.cells st cs):=(c o _ hc).resolve_left (λe=>by cases e);obtain⟨f,el,vs,h1⟩:=a.obj o _ d
  grind
 .cases h
theorem lI{H:DH}{o n:Nat}{κ:Nat->Bool->Bool->List (List D)->ai}(h:dl H o n κ=some out)(a:fW H g):∃ sz st cap l,κ sz st cap l=some out/\H[o]? = some (.buf sz st cap l)/\g.H[o]? = some (.buf sz st cap l)/\n=l.length:=by
 unfold dl at h;split at h
 .rename_i sz st cap l hc;obtain⟨hb,h⟩:=aN h;exact⟨sz,st,cap,l,h,hc,(a o _ hc).resolve_left (λe=>by cases e),aaO hb⟩
 .cases h
theorem Jl{H:DH}{o s:Nat}{κ:Nat->List (List D)->ai}(h:IX H o s κ=some out)(a:fW H g):∃ sz l,κ sz l=some out/\H[o]? = some (.tbuf sz s l)/\g.H[o]? = some (.tbuf sz s l):=by
 unfold IX at h;split at h
 .rename_i sz s' l hc;obtain⟨hb,c⟩:=aN h;clear h;obtain rfl:=aaO hb;exact⟨sz,l,c,hc,(a o _ hc).resolve_left (λe=>by cases e)⟩
 .cases h
theorem Kd{s:S}{f el:Nat}{vs:List V}(h:s.get f=some (.cells el false 1 [⟨0,0,vs⟩])):loadCells s ⟨f,0,0⟩ vs.length=some vs:=by rw[ldn h,ajt];exact dG _ _ rfl
theorem UW{ty:TypeId}{d:D}{H:DH}{κ:D->ai}(h:bW P ty d H κ=some out)(I:fW H g)(p:Ok g){v:V}(r:RD g d v):∃ j v',κ j=some out/\jm P g.s ty (some v)=some (.val v' g.s)/\RD g j v':=by
 unfold bW at h;split at h
 .simp only[RD]at r;obtain⟨a,vs,rfl,w,k,A,y⟩:=r;obtain⟨j,v',m,q,u⟩:=jY h k A y;exact⟨j,v',m,by rw[iG,q];rfl,u⟩
 .rename_i o c;simp only[RD]at r;obtain⟨f,ver,w,rfl⟩:=r;obtain⟨_,cs,f',el,vs,h,_,_,k,A,y,F⟩:=EM h I p;rw[w]at k;cases k;obtain⟨j,v',m,q,u⟩:=jY h (a:=⟨f,0,0⟩) (by rw[<- y.len];exact Kd A) y F;refine⟨j,v',m,?_,u⟩;rw[iG,show(⟨f,0,c⟩:Ad)=cq ⟨f,0,0⟩ c by simp[cq],q];rfl
 .rename_i o n i c;simp only[RD]at r;obtain⟨sz',st',cap',l',h,_,z,Q⟩:=lI h I;rcases r with⟨⟨_,_,_,m⟩,_⟩|⟨f,ver,sz,st,cap,l,ver',w,k,A,y,rfl,F⟩
  .rw[z]at m;cases m
  rw[k]at z;cases z;unfold bZ at h;split at h
  .rename_i cs hc;obtain⟨_,R|⟨R,f',ver2,el,nv,vers,cells,G,U,W,X,Y,J⟩⟩:=p.obj o _ k
   .grind
   .rw[w]at G;cases G;rw[F Q];obtain⟨vs,K,M,N,O⟩:=J.at hc;obtain⟨j,v',m,q,u⟩:=jY h (a:=cq ⟨f,ver,0⟩ (i*sz')) (by rw[K];exact M) N O;refine⟨j,v',m,?_,u⟩;rw[iG,show(⟨f,ver,i*sz'+c⟩:Ad)=cq (cq ⟨f,ver,0⟩ (i*sz')) c by simp[cq],q];rfl
  .cases h
 .rename_i o s i c;simp only[RD]at r;obtain⟨sz',l',h,_,z⟩:=Jl h I;obtain⟨f,ver,sz,s',l,ver',w,k,A,rfl,F⟩:=r;rw[k]at z;cases z;obtain⟨y,rfl⟩:=F rfl;unfold bZ at h;split at h
  .rename_i cs hc;obtain⟨_,f',ver2,el,nv,vers,cells,G,U,W,X,Y,J⟩:=p.obj o _ k;rw[w]at G;cases G;obtain⟨vs,K,M,N,O⟩:=J.at hc;obtain⟨j,v',m,q,u⟩:=jY h (a:=cq ⟨f,ver',0⟩ (i*sz')) (by rw[K];exact M) N O;refine⟨j,v',m,?_,u⟩;rw[iG,show(⟨f,ver',i*sz'+c⟩:Ad)=cq (cq ⟨f,ver',0⟩ (i*sz')) c by simp[cq],q];rfl
  .cases h
 .cases h
theorem Hj{ty:TypeId}{x:LD}{L:LS}{H:DH}{κ:D->ai}(h:mj P ty x L H κ=some out)(p:fW H g)(l:Ok g)(hl:LRw g L LO){v:V}(r:RS g LO x v):∃ i v',κ i=some out/\jm P g.s ty (some v)=some (.val v' g.s)/\RD g i v':=by
 cases x with
 |g d=>exact UW h p l r
 |u=>cases h
 |lp k c =>
  simp only[mj]at h;obtain⟨f,w,rfl⟩:=r;split at h
  .rename_i st cs hc;obtain⟨_,j|⟨el,vs,j,m,y⟩⟩:=hl k _ f hc w
   .simp only at j;subst j;exfalso;unfold br at h;split at h
    .split at h
     .rename_i n _;obtain⟨z,h⟩:=aN h;obtain⟨_,q⟩:=iv h;have:=abh z
      grind
     .cases h
    .grind [jH]
    .cases h
   .obtain⟨i,v',A,F,G⟩:=jY h (a:=⟨f,0,0⟩) (by rw[<- m.len];exact Kd j) m y;refine⟨i,v',A,?_,G⟩;rw[iG,show(⟨f,0,c⟩:Ad)=cq ⟨f,0,0⟩ c by simp[cq],F];rfl
  .cases h
theorem pA{ty el:TypeId}{d:TypeDesc}(h:xS P ty=some (d,el)):∃ kt,P.underlying ty=some (.map kt el)/\P.underlying kt=some d/\Ci d=true/\ez P kt=true:=by
 unfold xS at h;split at h
 .rename_i kt el' c;split at h
  .rename_i i a;cases hk:Ci i with
   |false=>rw[hk]at h;cases h
   |true =>rw[hk]at h;cases h;refine⟨kt,c,a,hk,?_⟩;unfold ez;rw[a];cases d<;>first|(cases hk;done)|rfl
  .cases h
 .cases h
theorem qu{kt:TypeId}{td:TypeDesc}(j:P.underlying kt=some td)(okf:Ad->Bool){a b:D}{v w:V}{q:Bool}(h:tH a b=some q)(i:rU td a=true)(c:RD g a v)(d:RD g b w):dq P okf 20 kt v w=some q:=by
 unfold tH at h;unfold dq;rw[j];split at h
 .simp only[RD]at c d;subst c d;revert h;cases hk:dy _ _ with
  |false=>intro h;cases h
  |true =>intro h;simp only[ge]at h;cases td<;>first|(cases i;done)|(simp only[hk,ge];exact h)
 .simp only[RD]at c d;obtain⟨rfl,k⟩:=c;obtain⟨rfl,hb⟩:=d;cases h;cases td<;>first|(cases i;done)|(simp only;rw[sJ k hb];congr 1;rw[afw];simp)
 .simp only[RD]at c d;subst c d;cases h;cases td<;>first|(cases i;done)|rfl
 .cases h
def afg(g:Gh):Option D->Option V->Prop
 |some d,some v=>RD g d v
 |none,none=>True
 |_,_=>False
theorem sC.find{kt:TypeId}{td:TypeDesc}(a:P.underlying kt=some td)(okf:Ad->Bool){k:D}{kv:V}(c:rU td k=true)(rk:RD g k kv):∀ {es:List (D×D)} {ents:List qT} {r:Option D},sC g es ents->Cf k es=some r->∃ rv,cC (dq P okf 20 kt) kv ents=some rv/\afg g r rv
 |[],_,r,h,e=>by simp only[sC]at h;subst h;cases e;exact⟨none,rfl,trivial⟩
 |(x,v)::l,_,r,h,e=>by
  simp only[sC]at h;obtain⟨⟨ke,ve,born⟩,es',rfl,i,j,_,m⟩:=h;simp only[Cf]at e;split at e
  .rename_i d;cases e;exact⟨some ve,by simp only[cC,qu a okf d c rk i,cC.foundKey],j⟩
  .rename_i d;obtain⟨rv,n,p⟩:=sC.find a okf c rk m e;exact⟨rv,by simp only[cC,qu a okf d c rk i,cC.foundKey,n],p⟩
  .cases e
theorem Bc{H:DH}{o:Nat}{κ:List (D×D)->ai}(h:ig H o κ=some out)(c:fW H g)(a:Ok g):∃ es f ents clock,κ es=some out/\H[o]? = some (.map es)/\g.H[o]? = some (.map es)/\g.O[o]? = some (some (f,0))/\g.s.get f=some (.map ents clock)/\sC g es ents:=by
 unfold ig at h;split at h
 .rename_i es hc;have d:g.H[o]? = some (.map es):=(c o _ hc).resolve_left (λe=>by cases e);obtain⟨f,ents,clock,h1,h2,h3⟩:=a.obj o _ d
  grind
 .cases h
theorem Ds{el:TypeId}{ok:Bool}{o:Option D}{κ:D->ai}(h:iE P el ok o κ=some out){rv:Option V}(hr:afg g o rv):∃ d v,κ d=some out/\MG P el ok (some rv)=some v/\RD g d v:=by
 cases o with
 |some d =>
  cases rv with
  |none=>exact hr.elim
  |some v =>
   refine⟨_,_,h,rfl,?_⟩;cases ok with
   |false=>exact hr
   |true=>simp only[ge,RD,RL];exact⟨_,rfl,v,_,rfl,hr,_,_,rfl,rfl,rfl⟩
 |none =>
  cases rv with
  |some _=>exact hr.elim
  |none =>
   simp only[iE]at h;split at h
   .rename_i z a;obtain⟨zv,h1,h2,_⟩:=jM (g:=g) a
    grind [MG,RD,RL]
   .cases h
theorem Ri{ty:TypeId}{m k:D}{ok:Bool}{H:DH}{κ:D->ai}(h:ip P ty m k ok H κ=some out)(j:fW H g)(c:Ok g){mv kv:V}(a:RD g m mv)(l:RD g k kv):∃ d v,κ d=some out/\ku P g.s ty (some mv) (some kv) ok=some v/\RD g d v:=by
 unfold ip at h;split at h
 .rename_i td el hm;obtain⟨kt,hu,hk,_,hsk⟩:=pA hm;split at h
  .obtain⟨n,h⟩:=aN h;simp only[RD]at a;obtain⟨f,ver,p,rfl⟩:=a;obtain⟨es,f',ents,clock,h,_,_,i,h3,q⟩:=Bc h j c;rw[p]at i;cases i;unfold py at h;split at h
   .rename_i r hr;obtain⟨rv,k1,k2⟩:=q.find (P:=P) hk (bU g.s) n l hr
    grind [Ds,only,ku,AX]
   .cases h
  .simp only[RD]at a;subst a;obtain⟨d,v,j1,j2,j3⟩:=Ds (g:=g) h (rv:=none) trivial
   grind [only,ku,AX,cC]
  .cases h
 .cases h
theorem sC.len:∀ {es:List (D×D)} {ents:List qT},sC g es ents->ents.length=es.length
 |[],_,h=>by simp only[sC]at h;subst h;rfl
 |(x,v)::l,_,h=>by simp only[sC]at h;obtain⟨e,es',rfl,_,_,_,a⟩:=h;simp only[aeg,sC.len a]
theorem UU{ty:TypeId}{x:D}{H:DH}{κ:D->ai}(h:aS P ty x H κ=some out)(m:fW H g)(j:Ok g){v:V}(r:RD g x v):∃ d v',κ d=some out/\jz P ty g.s v=some v'/\RD g d v':=by
 unfold aS at h;split at h
 .rename_i i;split at h
  .simp only[RD]at r;obtain⟨rfl,_⟩:=r;exact⟨_,.int .i64 _,h,by simp only[jz,i,cr];rfl,by simp only[RD]⟩
  .cases h
 .rename_i i;split at h
  .rename_i l;simp only[RD]at r;refine⟨_,.int .i64 (l.length:Nat),h,?_,by simp only[RD]⟩;rcases r with⟨rfl,rfl⟩|⟨rfl,a,z,sz',rfl⟩|⟨a,z,cap,rfl,_⟩
   .simp_all[jz]
   .simp_all[jz,cr]
   simp_all[jz,cr]
  .rename_i n;simp only[RD]at r;rcases r with⟨_,⟨rfl,rfl|⟨a,z,sz',rfl⟩⟩|⟨a,z,c,rfl⟩⟩|⟨st,cap,l,_,_,⟨rfl,rfl|⟨a,z,sz',rfl⟩⟩|⟨_,f,ver,ver',c,_,rfl,_⟩⟩
   .exact⟨_,.int .i64 0,h,by simp only[jz,i],by simp only[RD];rfl⟩
   .exact⟨_,.int .i64 0,h,by simp only[jz,i,cr];rfl,by simp only[RD];rfl⟩
   .exact⟨_,.int .i64 (n:Nat),h,by simp only[jz,i,cr],by simp only[RD]⟩
   .exact⟨_,.int .i64 0,h,by simp only[jz,i],by simp only[RD];rfl⟩
   .exact⟨_,.int .i64 0,h,by simp only[jz,i,cr];rfl,by simp only[RD];rfl⟩
   .exact⟨_,.int .i64 (n:Nat),h,by simp only[jz,i,cr],by simp only[RD]⟩
  .rename_i n;simp only[RD]at r;obtain⟨f,ver,s',l,ver',_,_,_,rfl,_⟩:=r;exact⟨_,.int .i64 (n:Nat),h,by simp only[jz,i,cr],by simp only[RD]⟩
  .simp only[RD]at r;refine⟨_,.int .i64 0,h,?_,by simp only[RD]⟩;rcases r with rfl|⟨a,z,sz',rfl⟩
   .simp_all[jz]
   simp_all[jz,cr]
  .cases h
 .rename_i i;split at h
  .simp only[RD]at r;obtain⟨f,ver,p,rfl⟩:=r;obtain⟨es,f',ents,clock,h,_,_,k,q,u⟩:=Bc h m j;rw[p]at k;cases k;exact⟨_,.int .i64 (es.length:Nat),h,by simp only[jz,i,q,u.len],by simp only[RD]⟩
  .simp only[RD]at r;subst r;exact⟨_,.int .i64 0,h,by simp only[jz,i],by simp only[RD]⟩
  .cases h
 .cases h
theorem UG{q:Bool}{x y:D}{κ:D->ai}(h:JW q x y κ=some out){v w:V}(a:RD g x v)(c:RD g y w):∃ d v',κ d=some out/\(bif q then NX v w else NW v w)=some v'/\RD g d v':=by
 unfold JW at h;split at h
 .split at h
  .simp only[RD]at a c;subst a c;obtain⟨hk,h⟩:=aN h;refine⟨_,_,h,?_,by simp only[RD];rfl⟩
   grind [NX,NW]
  .cases h
 .cases h
theorem zG{q:Bool}:∀ {l:List D} {x:D} {κ:D->ai} {ws:List V} {v:V},pz q x l κ=some out->RD g x v->RL g l ws->∃ d v',κ d=some out/\ws.foldlM (λa b=>bif q then NX a b else NW a b) v=some v'/\RD g d v'
 |[],x,κ,ws,v,h,i,c=>by simp only[RL]at c;subst c;exact⟨x,v,h,rfl,i⟩
 |y::l,x,κ,ws,v,h,i,c=>by
  simp only[RL]at c;obtain⟨w,ws',rfl,j,k⟩:=c;simp only[pz]at h;obtain⟨d,v1,h,h1,m⟩:=UG h i j;obtain⟨d',v',k1,k2,k3⟩:=zG h m k
  grind
end
section
variable[fZ]
variable{b:Nat}{P0:List Nat}{g:Gh}{LO:List Nat}{t:T LD}{L:LS}{tv:T V}{P:Program}{out:jg}
def Pf(g:Gh)(L:LS)(LO:List Nat)(g':Gh)(L':LS):Prop:=∀(k:Nat) st cs f,L[k]? = some (st,cs)->LO[k]? = some f->∃ st' cs',L'[k]? = some (st',cs')/\st<=st'/\(st=st'->cs'=cs/\g'.s.get f=g.s.get f)
structure Gk(g:Gh)(L:LS)(LO:List Nat)(g':Gh)(L':LS)(LO':List Nat):Prop where
 pre:LO <+: LO'
 pvn:Pf g L LO g' L'
theorem Pf.of{L:LS}{g g':Gh}{LO:List Nat}(a:∀ f∈LO,g'.s.get f=g.s.get f):Pf g L LO g' L:=λ_ st cs f c d=>⟨st,cs,c,aaW _,λ_=>⟨rfl,a f (aeE d)⟩⟩
theorem Pf.trans{x y z:Gh}{L M N:LS}{LO LO':List Nat}(h:Pf x L LO y M)(hp:LO <+: LO')(k:Pf y M LO' z N):Pf x L LO z N:=λi st cs f c a=>by
 obtain⟨st',cs',d,h4,h5⟩:=h i st cs f c a;obtain⟨q,rfl⟩:=hp;obtain⟨s2,c2,k1,k2,k3⟩:=k i st' cs' f d (eE q a)
 grind
theorem Gk.refl(g:Gh)(L:LS)(LO:List Nat):Gk g L LO g L LO:=⟨aiY,Pf.of λ_ _=>rfl⟩
theorem Gk.trans{x y z:Gh}{L M N:LS}{A B C:List Nat}(h:Gk x L A y M B)(k:Gk y M B z N C):Gk x L A z N C:=⟨h.pre.trans k.pre,h.pvn.trans h.pre k.pvn⟩
theorem Gk.ps{g g':Gh}{L:LS}{LO:List Nat}(a:g'.s=g.s):Gk g L LO g' L LO:=⟨aiY,Pf.of λ_ _=>by rw[a]⟩
theorem Gk.al(h:FI b P0 g t L tv LO){g':Gh}(B:dY)(a:g'.s=g.s.alloc B):Gk g L LO g' L LO:=⟨aiY,Pf.of λf c=>by rw[a];exact aR (h.lo_lt c)⟩
theorem Gk.op(h:FI b P0 g t L tv LO){g':Gh}{o f ver:Nat}{B:dY}(ho:g.O[o]? = some (some (f,ver)))(a:g'.s=g.s.put f B):Gk g L LO g' L LO:=⟨aiY,Pf.of λf' c=>by rw[a];exact cX λe=>h.lo_out c o ver (by rw[<- e];exact ho)⟩
theorem Gk.new(h:FI b P0 g t L tv LO){g':Gh}{B:dY}(x:Nat×List D)(f:Nat)(a:g'.s=g.s.alloc B):Gk g L LO g' (L++[x]) (LO++[f]):=⟨List.prefix_append _ _,λ_ st cs f c d=>⟨st,cs,eE _ c,aaW _,λ_=>⟨rfl,by rw[a];exact aR (h.lo_lt (aeE d))⟩⟩⟩
theorem Gk.put(h:FI b P0 g t L tv LO){g':Gh}{B:dY}{k f st:Nat}{cs0:List D}(hk:L[k]? = some (st,cs0))(c:LO[k]? = some f)(cs:List D)(d:g'.s=g.s.put f B):Gk g L LO g' (L.set k (st+1,cs)) LO:=⟨aiY,λi st' cs' f' a j=>by
 by_cases e:k=i
 .subst e;rw[hk]at a;cases a;exact⟨st+1,cs,bt hk,Nat.le_succ _,λq=>by omega⟩
 .exact⟨st',cs',by rw[du e];exact a,aaW _,λ_=>⟨rfl,by rw[d];exact cX λq=>e (uM h.nd c (by rw[q];exact j))⟩⟩⟩
def vO(b:Nat)(P0:List Nat)(g:Gh)(t:T LD)(L:LS)(tv:T V)(LO:List Nat)(L':LS)(H':DH)(s':S)(Q:Gh->List Nat->Prop):Prop :=
 ∃ g' LO',g'.H=H'/\g'.s=s'/\FI b P0 g' t L' tv LO'/\Mv b g g'/\Gk g L LO g' L' LO'/\Q g' LO'
theorem vO.same(h:FI b P0 g t L tv LO){Q:Gh->List Nat->Prop}(q:Q g LO):vO b P0 g t L tv LO L g.H g.s Q:=⟨g,LO,rfl,rfl,h,.refl b g,.refl g L LO,q⟩
theorem Mg(h:FI b P0 g t L tv LO){esc:Bool}{cs:List D}{κ:BS->ai}(e:NT esc cs L g.H κ=some out){vs:List V}(hr:RL g cs vs)(ho:aW vs)(el:TypeId) :
 ∃ x L' H',κ (.val x L' H')=some out/\vO b P0 g t L tv LO L' H' (g.s.alloc (.cells el false 1 [⟨0,0,vs⟩])) λg' LO'=>RS g' LO' x (.ptr ⟨g.s.next,0,0⟩):=by
 unfold NT at e;cases esc with
 |true =>
  refine⟨_,_,_,e,g.obj (.cells 0 cs) (.cells el false 1 [⟨0,0,vs⟩]),LO,rfl,rfl,?_,rQ h.ok h.bl _ _,.al h _ rfl,?_⟩
  .exact h.mkobj ⟨g.s.next,el,vs,pp h.ok _ _,tj,hr.mono (zT h.ok.len _ _),ho⟩
  .show RD _ _ _;simp only[RD];exact⟨g.s.next,0,pp h.ok _ _,rfl⟩
 |false =>refine⟨_,_,_,e,g.prv (.cells el false 1 [⟨0,0,vs⟩]),LO++[g.s.next],rfl,rfl,h.prv hr ho,Zg h.ok h.bl,.new h _ _ rfl,?_⟩;exact⟨g.s.next,by rw[h.own.1];exact iX,rfl⟩
theorem xQ:∀(l:List D) (c:Nat),qN l c []=some l
 |[],0=>rfl
 |[],_+1=>rfl
 |_::_,0=>rfl
 |_::_,_+1=>rfl
theorem LY:∀(x r new:List D),new.length=x.length->qN (x++r) 0 new=some (new++r)
 |[],r,[],_=>xQ r 0
 |a::x,r,b::new,h=>by simp only[agp,qN,LY x r new (by simpa using h)]
 |[],_,_::_,h=>by simp at h
 |_::_,_,[],h=>by simp at h
theorem GV:∀(x r new:List D) (k:Nat),qN (x++r) (x.length+k) new=(qN r k new).map (x++·)
 |[],r,new,k=>by simp
 |a::x,r,[],k=>by rw[xQ,xQ];rfl
 |a::x,r,b::new,k=>by rw[agp,aeg,show x.length+1+k=(x.length+k)+1 by omega];simp only[qN,GV x r (b::new) k];cases qN r k (b::new)<;>rfl
theorem JE:∀(x r new:List D) (k:Nat) (c:List D),qN x k new=some c->qN (x++r) k new=some (c++r)
 |x,r,[],k,c,h=>by rw[xQ]at h ⊢;cases h;rfl
 |a::x,r,b::new,k+1,c,h=>by
  simp only[qN]at h;split at h
  .rename_i l hl;cases h;simp only[agp,qN,JE x r (b::new) k l hl]
  .cases h
 |a::x,r,b::new,0,c,h=>by
  simp only[qN]at h;split at h
  .rename_i l hl;cases h;simp only[agp,qN,JE x r new 0 l hl]
  .cases h
 |[],r,b::new,k,c,h=>by cases k<;>(simp only[qN]at h;cases h)
theorem zg{n:Nat}:∀ {l:List (List D)} {i c:Nat} {cs cs' new:List D},(∀ x∈l,x.length=n)->l[i]? = some cs->qN cs c new=some cs'->qN l.flatten (i*n+c) new=some (l.set i cs').flatten
 |[],i,c,cs,cs',new,_,h,_=>by simp at h
 |x::l,0,c,cs,cs',new,a,h,e=>by simp_all[ajc,List.set_cons_zero,ajM,adO,JE]
 |x::l,i+1,c,cs,cs',new,a,h,e=>by simp only[ajc,List.set_cons_succ];have d:=a x aeq;rw[show(i+1)*n+c=x.length+(i*n+c)by rw[d,ajJ];omega,GV,zg (λy hy=>a y (abi _ hy)) (by simpa using h) e];rfl
theorem MH{n:Nat}:∀ {l:List (List D)} {i:Nat} {cs:List D},(∀ x∈l,x.length=n)->l[i]? = some cs->(l.flatten.drop (i*n)).take n=cs
 |[],i,cs,_,h=>by simp at h
 |x::l,0,cs,a,h=>by grind
 |x::l,i+1,cs,a,h=>by have c:=a x aeq;rw[ajc,show(i+1)*n=x.length+i*n by rw[c,ajJ];omega,<- akr,List.drop_left];simp_all[MH,abi]
theorem ki{n:Nat}:∀ {l:List (List D)},(∀ x∈l,x.length=n)->l.flatten.length=l.length*n
 |[],_=>by simp
 |x::l,a=>by rw[ajc,aaY,ki (λy hy=>a y (abi _ hy)),a x aeq,aeg,ajJ];omega
theorem RR.flat{a:Ad}{n:Nat}{l:List (List D)}{vs:List V}(d:∀ x∈l,x.length=n)(hl:loadCells g.s a (l.length*n)=some vs)(hr:RL g l.flatten vs)(ho:aW vs):RR g a n l:=RR.of λi cs h=>by
 have hi:i<l.length:=by grind
 have c:i*n+n<=l.length*n:=by
  have:=ajs n (show i+1<=l.length from hi)
  grind
 refine⟨_,d cs (aeE h),iO hl c,?_,uJ (uK ho _) _⟩;have:=(hr.drop (i*n)).take n
 grind [MH]
theorem RR.lens:∀ {l:List (List D)} {a:Ad} {n:Nat},RR g a n l->∀ x∈l,x.length=n
 |[],_,_,_,x,c=>by cases c
 |y::l,a,n,r,x,c=>by
  simp only[RR]at r;rcases abn.1 c with rfl|c
  .grind
  .exact RR.lens r.2 x c
theorem Ch{s:S}{a:Ad}{m n:Nat}{x y:List V}(d:loadCells s a m=some x)(h:loadCells s (cq a m) n=some y):loadCells s a (m+n)=some (x++y):=by
 have key:∀(u:oJ),(bif Nat.ble u.lo a.c then bj m (u.cells.drop (a.c - u.lo))else none)=some x->(bif Nat.ble u.lo (a.c+m)then bj n (u.cells.drop (a.c+m - u.lo))else none)=some y->(bif Nat.ble u.lo a.c then bj (m+n) (u.cells.drop (a.c - u.lo))else none)=some (x++y):=λu e1 e2=>by grind [Nat.le_of_ble_eq_true,Nat.ble,Nat.ble_eq_true_of_le,ew,List.length_drop,mP,List.drop_drop]
 unfold loadCells at d h ⊢;simp only[cq]at h;split at d
 .rename_i i;rw[i]at h;simp only at h;split at d
  .grind
  .cases d
 .rename_i i;rw[i]at h;simp only at h;split at d
  .grind
  .cases d
 .cases d
theorem RR.cells:∀ {l:List (List D)} {a:Ad} {n:Nat},RR g a n l->l≠[]->∃ vs,loadCells g.s a (l.length*n)=some vs/\RL g l.flatten vs/\aW vs
 |[],_,_,_,h=>(h rfl).elim
 |[x],a,n,r,_=>by grind [RR]
 |x::y::l,a,n,r,_=>by
  rw[RR]at r;obtain⟨⟨vs,h1,h2,c,d⟩,r⟩:=r;obtain⟨ws,k1,i,j⟩:=RR.cells r (by simp);refine⟨vs++ws,?_,?_,ti d j⟩
  .grind [Ch,only,List.length_cons,Nat.add_mul]
  .rw[ajc];exact c.append i
theorem sS{n len:Nat}(m:0<n):∀ {parts:List (Nat×Operand)} {l:List (List D)} {κ:List (List D)->ai} {vs:List V},oW t n len parts l κ=some out->(∀ x∈parts,DY g LO t tv x.2)->l.length=len->(∀ x∈l,x.length=n)->RL g l.flatten vs->aW vs ->
 ∃ l' vs' ws,κ l'=some out/\eG tv parts=some ws/\rp (λi=>some (i*n,n)) vs ws=some vs'/\l'.length=len/\(∀ x∈l',x.length=n)/\RL g l'.flatten vs'/\aW vs'
 |[],l,κ,vs,h,_,j,k,p,q=>⟨l,vs,[],h,rfl,rfl,j,k,p,q⟩
 |(i,x)::r,l,κ,vs,h,ho,j,k,p,q=>by
  simp only[oW]at h;obtain⟨d,v,h,_,k1,A⟩:=bK h (ho (i,x) aeq);obtain⟨hb,h⟩:=aN h;have hi:i<l.length:=by rw[j];exact abh hb
  obtain⟨new,h,z,F,G⟩:=od h A;have u:new.length=n:=by rw[<- G,z.len]
  have H:l[i]? = some l[i]:=abg hi;have w:=zg (c:=0) (new:=new) k H (by have:=LY l[i] [] new (by rw[u,k _ (ajx hi)]);simpa using this);obtain⟨vs1,j1,I,J,_⟩:=qn w p q z F;have a:∀ y∈l.set i new,y.length=n:=λy hy=>by grind
  obtain⟨l',vs',ws,i1,i2,i3,i4⟩:=sS m h (λy hy=>ho y (abi _ hy)) (by rw[afy];exact j) a I J
  grind [only,eG,rp,Nat.beq_refl,Bx,Bool.and_self,Option.bind]
theorem RL.flat_rep{z:List D}{zv:List V}(h:RL g z zv):∀ n,RL g (List.replicate n z).flatten (List.replicate n zv).flatten
 |0=>by simp[RL]
 |n+1=>by simp only[aju,ajc];exact h.append (RL.flat_rep h n)
theorem zj{zv:List V}(h:aW zv):∀ n,aW (List.replicate n zv).flatten
 |0=>rfl
 |n+1=>by simp only[aju,ajc];exact ti h (zj h n)
theorem Ke{s:S}{el n:Nat}{vs:List V}(h:n=vs.length):loadCells (s.alloc (.cells el false 1 [⟨0,0,vs⟩])) ⟨s.next,0,0⟩ n=some vs:=by grind [Kd,gT]
theorem Bs(h:FI b P0 g t L tv LO){ty:TypeId}{len:Nat}{parts:List (Nat×Operand)}{κ:D->ai}(e:jc P t ty len parts κ=some out)(ho:∀ x∈parts,DY g LO t tv x.2) :
 ∃ d v s',κ d=some out/\cJ P g.s ty len (eG tv parts)=some (.val v s')/\vO b P0 g t L tv LO L g.H s' λg' _=>RD g' d v:=by
 unfold jc at e;split at e
 .rename_i el hu;split at e
  .rename_i z y;obtain⟨zv,h1,_,p,A⟩:=jM (g:=g) y;split at e
   .rename_i n hn;obtain⟨hc,e⟩:=aN e;simp only[aaV,aiG]at hc;obtain⟨⟨hc1,j⟩,k⟩:=hc;have a:0<n:=ajL λq=>by subst q;simp at j
    have i:z.cells.length=n:=aaO k;have hzv:zv.cells.length=n:=by rw[p.len,i]
    obtain⟨l',vs',ws,F,k2,k3,l,u,w,G⟩:=sS a e ho (List.length_replicate ..) (λx I=>by rw[List.eq_of_mem_replicate I];exact i) (p.flat_rep len) (zj A len);have J:cJ P g.s ty len (eG tv parts)=some (.val (.slice ⟨g.s.next,0,0⟩ 0 len (some len) n) (g.s.alloc (.cells el false 1 [⟨0,0,vs'⟩]))):=by grind [cJ,Nat.beq_refl,Bool.not_false,Bool.and_self,mf,bA,bz]
    refine⟨_,_,_,F,J,g.blk (.cells el false 1 [⟨0,0,vs'⟩]),LO,rfl,rfl,h.blk _,JQ h.ok h.bl _,.al h _ rfl,?_⟩;have m:vs'.length=l'.length*n:=by rw[w.len,ki u]
    cases l' with
    |nil =>simp only[PY,RD];exact .inr ⟨_,_,_,by rw[<- l];rfl⟩
    |cons x r =>
     simp only[PY,RD];refine .inr (.inr ⟨⟨g.s.next,0,0⟩,0,some len,by rw[l],a,.inl rfl,λc hc=>by cases hc;rw[l];exact aaW _,λ_=>⟨?_,λhp=>?_,λo v ho=>?_⟩,?_⟩)
     .show _<(g.s.alloc _).next;rw[S.next_alloc];exact ajw _
     .exact aiK _ (h.ok.pv _ hp)
     .exact(aiK _ (h.ok.lt o _ v ho).1).elim
     .exact RR.flat u (Ke m.symm) (w.mono (Kc _)) G
   .cases e
  .cases e
 .cases e
theorem NV(h:FI b P0 g t L tv LO):vO b P0 g t L tv LO L (g.H++[.map []]) (g.s.alloc (.map [] 0)) λg' _=>RD g' (.map g.H.length) (.map g.s.next):=by refine⟨g.obj (.map []) (.map [] 0),LO,rfl,rfl,h.mkobj ⟨g.s.next,[],0,pp h.ok _ _,tj,rfl⟩,rQ h.ok h.bl _ _,.al h _ rfl,?_⟩;simp only[RD];exact⟨g.s.next,0,pp h.ok _ _,rfl⟩
end
section
variable[fZ]
variable{b:Nat}{P0:List Nat}{g:Gh}{LO:List Nat}{t:T LD}{L:LS}{tv:T V}{P:Program}{out:jg}
theorem vV{s:S}{ty n:Nat}{a:Ad}{v:V}(hn:size P ty=some n)(hl:v.cells.length=n):storeVar P s ty a v=storeCells s a v.cells:=by grind [storeVar,Nat.beq_refl]
theorem lh(h:Ok g){o f ver:Nat}(ho:g.O[o]? = some (some (f,ver))){x:DB}(hx:g.H[o]? = some x)(hn:∀ sz cap l,x≠.buf sz false cap l):¬ g.Imm f:=λhi=>by
 obtain⟨sz,cap,l,h1⟩:=hi.2.2 o ver ho
 grind
theorem Uu{l:List (List D)}{i:Nat}{κ:List D->ai}(h:bZ l i κ=some out):∃ cs,l[i]? = some cs/\κ cs=some out:=by grind [bZ]
theorem CT{cs new:List D}{c:Nat}{κ:List D->ai}(h:aw cs c new κ=some out):∃ cs',qN cs c new=some cs'/\κ cs'=some out:=by grind [aw]
theorem TN(h:FI b P0 g t L tv LO){d:D}{new:List D}{κ:DH->ai}(e:IY d new g.H κ=some out){v:V}(r:RD g d v){ws:List V}(Y:RL g new ws)(I:aW ws) :
 ∃ a s' H',v=.ptr a/\κ H'=some out/\storeCells g.s a ws=some s'/\vO b P0 g t L tv LO L H' s' λ_ _=>True:=by
 unfold IY at e;split at e
 .rename_i o c;simp only[RD]at r;obtain⟨f,ver,j,rfl⟩:=r;obtain⟨st,cs,f',el,vs,e,_,hc,p,z,M,N⟩:=EM e (fW.refl g) h.ok;rw[j]at p;cases p;obtain⟨cs',vs',e,O,J,Q,_⟩:=zh e M N Y I;have hst:=gH z c ws I O
  have cc:vQ g o (.cells (st+1) cs') f 0 0 (.cells st cs) (.cells el false 1 [⟨0,0,vs⟩]) (.cells el false 1 [⟨0,0,vs'⟩]) :=
   ⟨j,hc,z,⟨λ_ _ _ _ q=>by(cases q),λ_ _ _ q=>by(cases q)⟩,λa n ws hi R=>by rw[R]at hi;exact(lh h.ok j hc (λ_ _ _ q=>by(cases q)) hi).elim,λs1 c1 q=>by cases q;exact⟨_,rfl⟩⟩
  refine⟨_,_,_,rfl,e,hst,g.oput o (.cells (st+1) cs') f 0 (.cells el false 1 [⟨0,0,vs'⟩]),LO,rfl,rfl,h.oput cc ?_,jy h.ok cc,.op h j rfl,trivial⟩;exact⟨f,el,vs',bt j,dS,J.mono (ll h.ok cc),Q⟩
 .rename_i o n i c;simp only[RD]at r;obtain⟨sz,st,cap,l,e,hc,w,hn⟩:=lI e (fW.refl g);rcases r with⟨⟨_,_,_,z⟩,_⟩|⟨f,ver,sz',st',cap',l',ver',j,p,h5,h6,rfl,h7⟩
  .rw[w]at z;cases z
  rw[p]at w;cases w;obtain⟨hst,e⟩:=dE e;subst hst;obtain⟨cs,k,e⟩:=Uu e
  .obtain⟨i0,K|⟨K,f',ver2,el,nv,vers,cells,Z,i3,i4,i5,i6,U⟩⟩:=h.ok.obj o _ p
   .rw[K.1]at k;simp at k
   rw[j]at Z;cases Z;rw[h7 hn];obtain⟨ks,z,M,N⟩:=U.cells K;have hlens:=U.lens;have hcells:ks=cells:=by simp_all[loadCells,qS,ajq,ajt,dG,agn]
   subst hcells;obtain⟨cs',A,e⟩:=CT e
   .have W:=zg hlens k A;obtain⟨vs',O,J,Q,j4⟩:=qn W M N Y I;have hcl:cs'.length=sz:=by
     obtain⟨x1,x2⟩:=U.at k
     grind [qn]
    have m:∀ y∈l.set i cs',y.length=sz:=λy hy=>by grind
    have hst:storeCells g.s ⟨f,ver,i*sz+c⟩ ws=some (g.s.put f (.cells el false nv [⟨ver,0,vs'⟩])):=by unfold storeCells;simp only[i3,i4,qS,afz,ajq,O];rw[show ws.all V.one=true from I];rfl
    have cc:vQ g o (.buf sz true cap (l.set i cs')) f ver ver (.buf sz true cap l) (.cells el false nv vers) (.cells el false nv [⟨ver,0,vs'⟩]) :=
     ⟨j,p,i3,⟨λsz1 gH cap1 l1 q=>by cases q;exact .inr ⟨true,cap,_,rfl,by rw[afy];exact aaW _,id,λ_=>⟨rfl,rfl⟩⟩,λ_ _ _ q=>by(cases q)⟩,λa n ws hi R=>by rw[R]at hi;exact(lh h.ok j p (λ_ _ _ q=>by(cases q)) hi).elim,λ_ _ q=>by cases q⟩
    refine⟨_,_,_,rfl,e,hst,g.oput o (.buf sz true cap (l.set i cs')) f ver (.cells el false nv [⟨ver,0,vs'⟩]),LO,rfl,rfl,h.oput cc ?_,jy h.ok cc,.op h j rfl,trivial⟩;have X:=ll h.ok cc;have F:vs'.length=(l.set i cs').length*sz:=by rw[J.len,ki m]
    have G:(⟨ver,0,ks⟩:oJ)∈vers:=(eS i4).1;refine⟨i0,.inr ⟨λq=>K (by have:=aib List.length q;rw[afy]at this;exact air (by simpa using this)),f,ver,el,nv,[⟨ver,0,vs'⟩],vs',bt j,dS,?_,F,λu hu=>?_,?_⟩⟩
    .simp only[bI,acD,ge]
    .simp at hu;subst hu;exact⟨(i6 _ G).1,by simp⟩
    .refine RR.flat m ?_ (J.mono X) Q;unfold loadCells;simp only[dS,Gh.oput,bI,acD,ge,qS,ajq,ajt];exact dG _ _ F
 .cases e
theorem NF(h:FI b P0 g t L tv LO){ty:TypeId}{x:LD}{y:D}{κ:LS->DH->ai}(e:yG P ty x y L g.H κ=some out){v w:V}(m:RS g LO x v)(J:RD g y w) :
 ∃ s' L' H',κ L' H'=some out/\tU P g.s ty (some v) (some w)=some (.skip s')/\vO b P0 g t L tv LO L' H' s' λ_ _=>True:=by
 unfold yG at e;split at e
 .rename_i n I;dsimp only at e;split at e
  .cases e
  rename_i q;obtain⟨new,e,p,z,i⟩:=od e J;cases x with
  |u=>cases e
  |g d =>simp only at e;have m:RD g d v:=m;obtain⟨a,s',H',rfl,e,A,F⟩:=TN h e m p z;exact⟨s',L,H',e,by rw[wP,vV I i,A];rfl,F⟩
  |lp k c =>
   obtain⟨f,j,rfl⟩:=m;simp only at e;split at e
   .rename_i st cs hc;obtain⟨_,l|⟨el,vs,l,G,K⟩⟩:=h.own.2 k _ f hc j
    .simp only at l;subst l;obtain⟨cs',G,_⟩:=CT e;cases new with
     |nil=>simp only[RL]at p;rw[p]at i;simp at i;subst i;cases q
     |cons a r=>cases c<;>cases G
    .obtain⟨cs',vs',e,A,F,M,_⟩:=zh e G K p z;have hst:=gH l c w.cells z A;have hp:f∈g.Pv:=by rw[h.pv];exact afv _ (aeE j)
     refine⟨_,_,_,e,by rw[wP,vV I i,hst];rfl,g.pput f (.cells el false 1 [⟨0,0,vs'⟩]),LO,rfl,rfl,h.pput j l F M,Uz h.ok hp (h.low f (aeE j)),.put h hc j _ rfl,trivial⟩
   .cases e
 .cases e
theorem sC.upd{kt:TypeId}{td:TypeDesc}(a:P.underlying kt=some td)(okf:Ad->Bool){k v:D}{kv vv:V}(c:rU td k=true)(rk:RD g k kv)(rv:RD g v vv)(ho:kv.one=true)(clock:Nat):∀ {es es':List (D×D)} {ents:List qT},sC g es ents->Cd k v es=some es' ->
 ∃ u,dp (dq P okf 20 kt) kv vv ents=some u/\∃ ents',(match u with|some e=>ents'=e|none=>ents'=ents++[⟨kv,vv,clock⟩])/\sC g es' ents'
 |[],es',ents,h,e=>by simp only[sC]at h;subst h;cases e;exact⟨none,rfl,_,rfl,⟨_,_,rfl,rk,rv,ho,rfl⟩⟩
 |(x,w)::l,es',ents,h,e=>by
  simp only[sC]at h;obtain⟨⟨ke,ve,born⟩,m,rfl,d,n,p,j⟩:=h;simp only[Cd]at e;split at e
  .rename_i i;cases e;exact⟨some (⟨kv,vv,born⟩::m),by simp only[dp,qu a okf i c rk d,dp.setKey],_,rfl,⟨_,_,rfl,rk,rv,ho,j⟩⟩
  .rename_i i;split at e
   .rename_i r hr;cases e;obtain⟨u,q,ents',k2,y⟩:=sC.upd a okf c rk rv ho clock j hr;refine⟨u.map (⟨ke,ve,born⟩::·),?_,⟨ke,ve,born⟩::ents',?_,⟨_,_,rfl,d,n,p,y⟩⟩
    .simp only[dp,qu a okf i c rk d,dp.setKey,q]
     grind
    grind
   .cases e
  .cases e
theorem zW{td:TypeDesc}{k:D}(h:rU td k=true):Sq k≠12/\Sq k≠13:=by
 unfold rU at h;split at h
 .split at h
  .exact⟨(λe=>by cases e),(λe=>by cases e)⟩
  .cases h
 .split at h
  .exact⟨(λe=>by cases e),(λe=>by cases e)⟩
  .cases h
 .split at h
  .exact⟨(λe=>by cases e),(λe=>by cases e)⟩
  .cases h
 .cases h
theorem Hg(h:FI b P0 g t L tv LO){ty:TypeId}{m k v:D}{κ:DH->ai}(e:jp P ty m k v g.H κ=some out){mv kv vv:V}(r:RD g m mv)(w:RD g k kv)(F:RD g v vv) :
 ∃ s' H',κ H'=some out/\fK P g.s ty (some mv) (some kv) (some vv)=some (.skip s')/\vO b P0 g t L tv LO L H' s' λ_ _=>True:=by
 unfold jp at e;split at e
 .rename_i td el hm;obtain⟨kt,y,hk,_,d⟩:=pA hm;split at e
  .rename_i o;obtain⟨l,e⟩:=aN e;simp only[RD]at r;obtain⟨f,ver,i,rfl⟩:=r;obtain⟨es,f',ents,clock,e,_,h0,z,p,G⟩:=Bc e (fW.refl g) h.ok;rw[i]at z;cases z;unfold fY at e;split at e
   .rename_i es' I;obtain⟨u,A,ents',j,J⟩:=G.upd hk (bU g.s) l w F (w.one (zW l).1 (zW l).2) clock I;have cc:∀ c,vQ g o (.map es') f 0 0 (.map es) (.map ents clock) (.map ents' c):=λc =>⟨i,h0,p,⟨λ_ _ _ _ q=>by(cases q),λ_ _ _ q=>by(cases q)⟩,λa n ws hi K=>by rw[K]at hi;exact(lh h.ok i h0 (λ_ _ _ q=>by(cases q)) hi).elim,λ_ _ q=>by cases q⟩
    have fin:∀ c,vO b P0 g t L tv LO L (g.H.set o (.map es')) (g.s.put f (.map ents' c)) λ_ _=>True:=λc =>⟨g.oput o (.map es') f 0 (.map ents' c),LO,rfl,rfl,h.oput (cc c) ⟨f,ents',c,bt i,dS,J.mono (ll h.ok (cc c))⟩,jy h.ok (cc c),.op h i rfl,trivial⟩
    cases u with
    |some q =>simp only at j;subst j;exact⟨_,_,e,by simp only[fK,y,p,d,ge,A,xB],fin clock⟩
    |none =>simp only at j;subst j;exact⟨_,_,e,by simp only[fK,y,p,d,ge,A,xB],fin (clock+1)⟩
   .cases e
  .cases e
 .cases e
end
section
variable[fZ]
variable{b:Nat}{P0:List Nat}{g:Gh}{LO:List Nat}{t:T LD}{L:LS}{tv:T V}{P:Program}{out:jg}
theorem DP{sz:Nat}{st cap:Bool}{l:List (List D)}{B:dY}{el:Nat}{vs:List V}(h:Ok g)(h0:0<sz)(hl:l≠[])(c:∀ x∈l,x.length=sz)(hB:B=.cells el false 1 [⟨0,0,vs⟩])(hr:RL g l.flatten vs)(ho:aW vs) :
 kP (g.obj (.buf sz st cap l) B) g.H.length (.buf sz st cap l):=by
 subst hB;have a:vs.length=l.length*sz:=by rw[hr.len,ki c]
 refine⟨h0,.inr ⟨hl,g.s.next,0,el,1,_,vs,pp h _ _,tj,by simp only[bI,acD,ge],a,λu d=>?_,RR.flat c (Ke a.symm) (hr.mono (zT h.len _ _)) ho⟩⟩;simp at d;subst d;exact⟨ajw _,by simp⟩
theorem UF(h:FI b P0 g t L tv LO){el ty n:Nat}(hu:P.underlying ty=some (.slice el)){κ:List (List D)->Nat->ai}(e:QX P el n κ=some out) :
 ∃ l sz v s',κ l sz=some out/\eI P g.s ty (some n) (some n)=some (.val v s')/\vO b P0 g t L tv LO L (g.H++[.buf sz true true l]) s' λg' _=>RD g' (.buf sz g.H.length n) v:=by
 unfold QX at e;split at e
 .rename_i z u;obtain⟨zv,h1,_,m,w⟩:=jM (g:=g) u;split at e
  .rename_i sz hs;obtain⟨hc,e⟩:=aN e;obtain⟨p,e⟩:=dE e;simp only[aaV,aiG]at hc p;obtain⟨i,j⟩:=hc;obtain⟨hd1,hd2⟩:=p;have a:0<sz:=ajL λq=>by subst q;simp at i
   have c:z.cells.length=sz:=aaO j;have hzv:zv.cells.length=sz:=by rw[m.len,c]
   have d:∀ x∈List.replicate n z.cells,x.length=sz:=λx y=>by rw[List.eq_of_mem_replicate y];exact c
   have A:eI P g.s ty (some n) (some n)=some (.val (.slice ⟨g.s.next,0,0⟩ 0 n (some n) sz) (g.s.alloc (.cells el false 1 [⟨0,0,(List.replicate n zv.cells).flatten⟩]))):=by simp_all[eI,abk,aaW,acD,aeH,afX,bA,bz]
   refine⟨_,sz,_,_,e,A,?_⟩;cases n with
   |zero =>have r:=h.blk (.cells el false 1 [⟨0,0,(List.replicate 0 zv.cells).flatten⟩]);refine⟨(g.blk (.cells el false 1 [⟨0,0,(List.replicate 0 zv.cells).flatten⟩])).acc sz true,LO,rfl,rfl,r.acc a true,(JQ h.ok h.bl _).trans (JR r.ok sz true),.al h _ rfl,?_⟩;simp only[RD];exact .inr ⟨true,true,[],iX,aaW _,.inl ⟨rfl,.inr ⟨_,_,_,rfl⟩⟩⟩
   |succ n =>
    have k:List.replicate (n+1) z.cells≠[]:=by simp[aju]
    refine⟨g.obj (.buf sz true true (List.replicate (n+1) z.cells)) (.cells el false 1 [⟨0,0,(List.replicate (n+1) zv.cells).flatten⟩]),LO,rfl,rfl,h.mkobj (DP h.ok a k d rfl (m.flat_rep _) (zj w _)),rQ h.ok h.bl _ _,.al h _ rfl,?_⟩;simp only[RD];exact .inr ⟨true,true,_,iX,by simp,.inr ⟨Nat.succ_pos _,g.s.next,0,0,_,pp h.ok _ _,rfl,λ_=>⟨rfl,rfl⟩⟩⟩
  .cases e
 .cases e
theorem VE(h:Ok g){y:D}{sz:Nat}{κ:List (List D)->ai}(e:vw y g.H sz κ=some out){v:V}(r:RD g y v)(hsz:0<sz) :
 ∃ els vs,κ els=some out/\jd g.s sz v=some (vs,els.length)/\RL g els.flatten vs/\aW vs/\∀ x∈els,x.length=sz:=by
 have emp:∀ {v:V},(v=.nilslice\/∃ a z cap sz',v=.slice a z 0 cap sz')->jd g.s sz v=some ([],0):=λ{v} F=>by rcases F with rfl|⟨a,z,cap,sz',rfl⟩<;>rfl
 have full:∀ {a:Ad} {z:Nat} {cap:Option Nat} {l:List (List D)},RR g a sz l->l≠[]->∃ vs,jd g.s sz (.slice a z l.length cap sz)=some (vs,l.length)/\RL g l.flatten vs/\aW vs/\∀ x∈l,x.length=sz:=λ{a z cap l} hr hl=>by
  obtain⟨vs,i,j,G⟩:=hr.cells hl;have h0:Nat.beq l.length 0=false:=by cases l with|nil=>exact(hl rfl).elim|cons _ _=>rfl
  have m:Nat.beq sz 0=false:=by cases sz with|zero=>omega|succ _=>rfl
  exact⟨vs,by simp only[jd,h0,m,acD,ge,SE,i],j,G,hr.lens⟩
 unfold vw at e;split at e
 .rename_i s l;obtain⟨hb,k⟩:=aN e;clear e;have e:=k;clear k;obtain rfl:=aaO hb;simp only[RD]at r;rcases r with⟨rfl,rfl⟩|⟨rfl,a,z,sz',rfl⟩|⟨a,z,cap,rfl,_,_,_,_,I⟩
  .exact⟨[],[],e,emp (.inl rfl),by simp[RL],rfl,λx d=>by cases d⟩
  .exact⟨[],[],e,emp (.inr ⟨_,_,_,_,rfl⟩),by simp[RL],rfl,λx d=>by cases d⟩
  .by_cases hl:l=[]
   .subst hl;exact⟨[],[],e,emp (.inr ⟨_,_,_,_,rfl⟩),by simp[RL],rfl,λx d=>by cases d⟩
   .obtain⟨vs,i,j⟩:=full (z:=z) (cap:=cap) I hl;exact⟨l,vs,e,i,j⟩
 .simp only[RD]at r;refine⟨[],[],e,emp ?_,by simp[RL],rfl,λx d=>by cases d⟩;rcases r with rfl|⟨a,z,sz',rfl⟩
  .exact .inl rfl
  .exact .inr ⟨_,_,_,_,rfl⟩
 .rename_i s o n;obtain⟨hb,k⟩:=aN e;clear e;obtain rfl:=aaO hb;obtain⟨sz',st,cap,l,e,_,u,p⟩:=lI k (fW.refl g);clear k;simp only[RD]at r;rcases r with⟨⟨_,_,_,i⟩,_⟩|⟨st',cap',l',m,_,q⟩
  .rw[u]at i;cases i
  rw[u]at m;cases m;rcases q with⟨hn0,q⟩|⟨q,f,ver,ver',c,J,rfl,K⟩
  .have:l=[]:=air (by omega);subst this;refine⟨[],[],e,emp ?_,by simp[RL],rfl,λx d=>by cases d⟩;rcases q with rfl|⟨a,z,sz',rfl⟩
   .exact .inl rfl
   .exact .inr ⟨_,_,_,_,rfl⟩
  .obtain⟨rfl,rfl⟩:=K p;obtain⟨_,w|⟨w,f',ver2,el,nv,vers,cells,A,_,_,_,_,M⟩⟩:=h.obj o _ u
   .rw[w.1]at p;simp at p;omega
   .rw[J]at A;cases A;subst p;obtain⟨vs,i,j⟩:=full (z:=0) (cap:=KN cap l.length) M w;exact⟨l,vs,e,i,j⟩
 .cases e
theorem HH(a c:List (List D)):(a++c).flatten=a.flatten++c.flatten:=by simp
theorem Hm{a c:List (List D)}{sz:Nat}(h:∀ x∈a,x.length=sz)(k:∀ x∈c,x.length=sz):∀ x∈a++c,x.length=sz:=λx hx=>by grind
theorem pG{p:oJ->Bool}:∀ {vers:List oJ},(∀ u∈vers,p u=true)->vers.filter p=vers
 |[],_=>rfl
 |u::r,h=>by rw[List.filter_cons_of_pos (h u aeq),pG λw a=>h w (abi _ a)]
theorem Wc(h:FI b P0 g t L tv LO){ok:Nat->Bool}{sz:Nat}{x:D}{els:List (List D)}{κ:D->DH->ai}(e:bX ok sz x els g.H κ=some out){xv:V}(r:RD g x xv){vs:List V}(Z:RL g els.flatten vs)(R:aW vs)(h3:∀ x∈els,x.length=sz)(h0:0<sz)(el:TypeId) :
 ∃ d H' v s',κ d H'=some out/\eM ok g.s el sz xv (some (vs,els.length))=some (v,s')/\vO b P0 g t L tv LO L H' s' λg' _=>RD g' d v:=by
 unfold bX at e;obtain⟨hm,e⟩:=dE e;have emp:els=[]->∀ {v:V},(v=.nilslice\/∃ a z sz',v=.slice a z 0 (some 0) sz')->eM ok g.s el sz v (some (vs,els.length))=some (v,g.s):=λhe {v} hv=>by grind [eM,List.length_nil,Nat.beq_refl,io,Bool.and_self]
 have F:els≠[]->∀ {v:V},(v=.nilslice\/∃ a z sz',v=.slice a z 0 (some 0) sz')->eM ok g.s el sz v (some (vs,els.length))=some (.slice ⟨g.s.next,0,0⟩ 0 els.length none sz,g.s.alloc (.cells el false 1 [⟨0,0,vs⟩])):=λhe {v} hv=>by
  have p:Nat.beq els.length 0=false:=by cases els with|nil=>exact(he rfl).elim|cons _ _=>rfl
  grind [eM,ls,bA,bz,io,Nat.beq_refl,Bool.and_self]
 have mk:∀ {st cap:Bool} {l:List (List D)} {ws:List V},l≠[]->(∀ x∈l,x.length=sz)->RL g l.flatten ws->aW ws->vO b P0 g t L tv LO L (g.H++[.buf sz st cap l]) (g.s.alloc (.cells el false 1 [⟨0,0,ws⟩])) λg' _=>∀ c,c=KN cap l.length->RD g' (.buf sz g.H.length l.length) (.slice ⟨g.s.next,0,0⟩ 0 l.length c sz):=λ{st cap l ws} hl U hr ho=>by
  refine⟨g.obj (.buf sz st cap l) (.cells el false 1 [⟨0,0,ws⟩]),LO,rfl,rfl,h.mkobj (DP h.ok h0 hl U rfl hr ho),rQ h.ok h.bl _ _,.al h _ rfl,λc hc=>?_⟩;simp only[RD];refine .inr ⟨st,cap,l,iX,aaW _,.inr ⟨?_,g.s.next,0,0,c,pp h.ok _ _,rfl,λ_=>⟨rfl,hc⟩⟩⟩
  grind
 split at e
 .
  simp only[RD]at r;split at e
  .exact⟨_,_,xv,_,e,emp rfl r,vO.same h (by simp only[RD];exact r)⟩
  .rename_i y ys;obtain⟨g',LO',G,K,M,k4,k5,k6⟩:=mk (st:=true) (cap:=false) (by simp) h3 Z R;exact⟨_,_,_,_,e,F (by simp) r,g',LO',G,K,M,k4,k5,k6 none rfl⟩
 .
  rename_i s o n _;obtain⟨hb,e1⟩:=aN e;clear e;obtain rfl:=aaO hb;obtain⟨sz',st,cap,l,e2,hc,i,U⟩:=lI e1 (fW.refl g);clear e1;obtain⟨hk,e⟩:=dE e2;clear e2;simp only[aaV,aiG]at hk;obtain⟨hk1,hk2⟩:=hk;simp only[RD]at r;rcases r with⟨⟨_,_,_,G⟩,_⟩|⟨st',cap',l',j1,_,W⟩
  .rw[i]at G;cases G
  rw[i]at j1;cases j1;unfold grow at e;by_cases p:els=[]
  .subst p;have hcap:cap=false:=by cases cap with|false=>rfl|true=>simp at hk2
   subst hcap;simp only[SE,afq,aiq,aiM]at e;have hH:g.H.set o (.buf s st false l)=g.H:=by
    apply ajl
    grind
   rw[hH,<- U]at e;have hv:eM ok g.s el s xv (some (vs,0))=some (xv,g.s):=by
    rcases W with⟨_,W⟩|⟨j3,f,ver,ver',c,w,rfl,j5⟩
    .grind
    simp_all[zero,eM,aeo,acD,afz]
   exact⟨_,_,xv,_,e,hv,vO.same h (by simp only[RD];exact .inr ⟨st,false,l,i,by omega,W⟩)⟩
  .have hel:0<els.length:=by cases els with|nil=>exact(p rfl).elim|cons _ _=>simp
   rcases W with⟨hn0,W⟩|⟨j3,f,ver,ver',c,w,rfl,j5⟩
   .have hl:l=[]:=air (by omega);subst hl;simp only[afn,aiq,adO]at e;cases cap with
    |true =>simp only[ge]at e;obtain⟨g',LO',G,K,M,k4,k5,k6⟩:=mk (st:=true) (cap:=false) p h3 Z R;exact⟨_,_,_,_,e,F p W,g',LO',G,K,M,k4,k5,k6 none rfl⟩
    |false =>
     simp only[SE]at e;have hO:g.O[o]? = some none:=by
      obtain⟨_,I|⟨I,_⟩⟩:=h.ok.obj o _ i
      .exact I.2
      grind
     have j:vs.length=els.length*s:=by rw[Z.len,ki h3]
     have J:=Fb (B:=.cells el false 1 [⟨0,0,vs⟩]) h.ok hO i rfl (st':=st) (cap':=false) id p;have m:kP (g.bnew o (.buf s st false els) (.cells el false 1 [⟨0,0,vs⟩])) o (.buf s st false els):=by
      refine⟨h0,.inr ⟨p,g.s.next,0,el,1,_,vs,bt hO,gT,by simp only[bI,acD,ge],j,λu X=>?_,RR.flat h3 (Ke j.symm) (Z.mono J) R⟩⟩
      grind
     refine⟨_,_,_,_,e,F p W,g.bnew o (.buf s st false els) (.cells el false 1 [⟨0,0,vs⟩]),LO,rfl,rfl,h.bnew hO i rfl id p m,Mk h.ok h.bl hO i rfl id p,.al h _ rfl,?_⟩;simp only[RD];exact .inr ⟨st,false,els,bt i,aaW _,.inr ⟨hel,g.s.next,0,0,none,bt hO,rfl,λ_=>⟨rfl,rfl⟩⟩⟩
   .obtain⟨rfl,rfl⟩:=j5 U;obtain⟨_,I|⟨I,f',ver2,el0,nv,vers,cells,i2,Y,i4,i5,i6,i7⟩⟩:=h.ok.obj o _ i
    .rw[I.1]at U;simp at U;omega
    rw[w]at i2;cases i2;subst U;have hnz:Nat.beq l.length 0=false:=by cases l with|nil=>exact(I rfl).elim|cons _ _=>rfl
    have hez:Nat.beq els.length 0=false:=by cases els with|nil=>exact(p rfl).elim|cons _ _=>rfl
    obtain⟨ks,G,K,M⟩:=i7.cells I;have hcells:ks=cells:=by
     have:loadCells g.s ⟨f,ver',0⟩ (l.length*s)=some cells:=by simp_all[loadCells,qS,ajq,ajt,dG]
     grind
    subst hcells;have htk:bj (l.length*s) (ks.drop (0 - 0))=some ks:=by simpa using dG _ _ i5
    have hstart:eM ok g.s el s (.slice ⟨f,ver',0⟩ 0 l.length (KN cap l.length) s) (some (vs,els.length))=wg g.s el ⟨f,ver',0⟩ 0 l.length (KN cap l.length) s vs els.length:=by simp_all[eM,aeo,acD,afX]
    have hlen2:=Hm i7.lens h3;have A:RL g (l++els).flatten (ks++vs):=by rw[HH];exact K.append Z
    have N:=ti M R;have Q:l++els≠[]:=by simp[I]
    cases cap with
    |true =>
     simp only[ge]at e;obtain⟨g',LO',m1,m2,m3,m4,m5,m6⟩:=mk (st:=true) (cap:=false) Q hlen2 A N;have hno:Nat.ble (l.length+els.length) l.length=false:=by
      cases hq:Nat.ble (l.length+els.length) l.length with
      |false=>rfl
      |true=>have:=abh hq;omega
     refine⟨_,_,_,_,e,?_,g',LO',m1,m2,m3,m4,m5,by have:=m6 none rfl;rwa [aaY]at this⟩;rw[hstart];simp only[wg,Y,i4,qS,ge,htk,KN,Fg,hno,SE,ls,bA,bz]
    |false =>
     simp only[SE]at e;have hfil:vers.filter (λu=>Nat.ble (u.lo+u.cells.length) (0+l.length*s))=vers:=pG λu X=>abk (by have:=(i6 u X).2;omega);have hgrow:wg g.s el ⟨f,ver',0⟩ 0 l.length none s vs els.length=some (.slice ⟨f,nv,0⟩ 0 (l.length+els.length) none s,g.s.put f (.cells el0 false (nv+1) (⟨nv,0,ks++vs⟩::vers))):=by simp only[wg,Y,i4,qS,ge,htk,tN,hfil];rw[show vs.all V.one=true from R];rfl
     have hold:∀ a n ws,a.f=f->loadCells g.s a n=some ws->loadCells (g.s.put f (.cells el0 false (nv+1) (⟨nv,0,ks++vs⟩::vers))) a n=some ws:=λa n ws ha hld=>by grind [loadCells,dS,eS,Nat.eq_of_beq_eq_true,bI]
     have cc:vQ g o (.buf s st false (l++els)) f ver' nv (.buf s st false l) (.cells el0 false nv vers) (.cells el0 false (nv+1) (⟨nv,0,ks++vs⟩::vers)) :=
      ⟨w,i,Y,⟨λsz1 gH cap1 l1 q=>by cases q;exact .inr ⟨st,false,_,rfl,by rw[aaY];omega,id,λq=>by rw[aaY]at q;omega⟩,λ_ _ _ q=>by(cases q)⟩,λa n ws _ ha hld=>hold a n ws ha hld,λ_ _ q=>by cases q⟩
     have J:=ll h.ok cc;have j:(ks++vs).length=(l++els).length*s:=by rw[A.len,ki hlen2]
     have m:kP (g.oput o (.buf s st false (l++els)) f nv (.cells el0 false (nv+1) (⟨nv,0,ks++vs⟩::vers))) o (.buf s st false (l++els)):=by
      refine⟨h0,.inr ⟨Q,f,nv,el0,nv+1,_,ks++vs,bt w,dS,by simp only[bI,acD,ge],j,λu X=>?_,?_⟩⟩
      .grind
      .refine RR.flat hlen2 ?_ (A.mono J) N;unfold loadCells;simp only[dS,Gh.oput,bI,acD,ge,qS,ajq,ajt];exact dG _ _ j
     refine⟨_,_,_,_,e,by rw[hstart];exact hgrow,g.oput o (.buf s st false (l++els)) f nv (.cells el0 false (nv+1) (⟨nv,0,ks++vs⟩::vers)),LO,rfl,rfl,h.oput cc m,jy h.ok cc,.op h w rfl,?_⟩;simp only[RD];exact .inr ⟨st,false,l++els,bt i,by rw[aaY];exact aaW _,.inr ⟨by omega,f,nv,nv,none,bt w,rfl,λ_=>⟨rfl,rfl⟩⟩⟩
 .
  rename_i s o st k _;obtain⟨hb,e1⟩:=aN e;clear e;obtain rfl:=aaO hb;obtain⟨sz',l,e2,hc,i⟩:=Jl e1 (fW.refl g);clear e1;obtain⟨hk,e⟩:=dE e2;clear e2;simp only[aaV,aiG,List.isEmpty_eq_false_iff]at hk;obtain⟨hk1,p⟩:=hk;simp only[RD]at r;obtain⟨f,ver,s',l',ver',w,j1,_,rfl,j5⟩:=r;rw[i]at j1;cases j1;obtain⟨rfl,rfl⟩:=j5 rfl;obtain⟨_,f',ver2,el0,nv,vers,cells,i2,Y,i4,i5,i6,i7⟩:=h.ok.obj o _ i;rw[w]at i2;cases i2;have hez:Nat.beq els.length 0=false:=by cases els with|nil=>exact(p rfl).elim|cons _ _=>rfl
  obtain⟨ks,G,K,M⟩:∃ ks,bj (l.length*s) cells=some ks/\RL g l.flatten ks/\aW ks:=by
   by_cases I:l=[]
   .subst I;exact⟨[],by simp[bj],by simp[RL],rfl⟩
   .obtain⟨ks,G,K,M⟩:=i7.cells I;refine⟨ks,?_,K,M⟩;simpa[loadCells,Y,i4,qS]using G
  have hlens:=i7.lens;have hlen2:=Hm hlens h3;have A:RL g (l++els).flatten (ks++vs):=by rw[HH];exact K.append Z
  have N:=ti M R;have hgrow:eM ok g.s el s (.slice ⟨f,ver',0⟩ 0 l.length none s) (some (vs,els.length))=some (.slice ⟨f,nv,0⟩ 0 (l.length+els.length) none s,g.s.put f (.cells el0 false (nv+1) (⟨nv,0,ks++vs⟩::vers.filter λu=>Nat.ble (u.lo+u.cells.length) (0+l.length*s)))):=by simp only[eM,hm,ge,io,aia,SE,acD,hk1,afX,hez,wg,Y,i4,qS,ajq,ajt,G,tN];rw[show vs.all V.one=true from R];rfl
  have cc:vQ g o (.tbuf s (st+1) (l++els)) f ver' nv (.tbuf s st l) (.cells el0 false nv vers) (.cells el0 false (nv+1) (⟨nv,0,ks++vs⟩::vers.filter λu=>Nat.ble (u.lo+u.cells.length) (0+l.length*s))) :=
   ⟨w,i,Y,⟨λ_ _ _ _ q=>by(cases q),λsz1 s1 l1 q=>by cases q;exact⟨_,_,rfl,ajw _⟩⟩,λa n ws hi ha=>by rw[ha]at hi;exact(lh h.ok w i (λ_ _ _ q=>by(cases q)) hi).elim,λ_ _ q=>by cases q⟩
  have J:=ll h.ok cc;have j:(ks++vs).length=(l++els).length*s:=by rw[A.len,ki hlen2]
  have m:kP (g.oput o (.tbuf s (st+1) (l++els)) f nv (.cells el0 false (nv+1) (⟨nv,0,ks++vs⟩::vers.filter λu=>Nat.ble (u.lo+u.cells.length) (0+l.length*s)))) o (.tbuf s (st+1) (l++els)):=by
   refine⟨h0,f,nv,el0,nv+1,_,ks++vs,bt w,dS,by simp only[bI,acD,ge],Nat.le_of_eq j.symm,λu X=>?_,?_⟩
   .rcases abn.1 X with rfl|X
    .exact ajw _
    .have:=i6 u (ajn.1 X).1;omega
   .refine RR.flat hlen2 ?_ (A.mono J) N;unfold loadCells;simp only[dS,Gh.oput,bI,acD,ge,qS,ajq,ajt];exact dG _ _ j
  refine⟨_,_,_,_,e,hgrow,g.oput o (.tbuf s (st+1) (l++els)) f nv (.cells el0 false (nv+1) (⟨nv,0,ks++vs⟩::vers.filter λu=>Nat.ble (u.lo+u.cells.length) (0+l.length*s))),LO,rfl,rfl,h.oput cc m,jy h.ok cc,.op h w rfl,?_⟩;simp only[RD];exact⟨f,nv,st+1,l++els,nv,bt w,bt i,aaW _,rfl,λ_=>⟨by rw[aaY],rfl⟩⟩
 .cases e
theorem KU(h:FI b P0 g t L tv LO){sT xT:TypeId}{x y:D}{κ:D->DH->ai}(e:ul P sT xT x y g.H κ=some out){xv yv:V}(i:RD g x xv)(j:RD g y yv) :
 ∃ d H' v s',κ d H'=some out/\uk P sT xT g.s xv yv=some (v,s')/\vO b P0 g t L tv LO L H' s' λg' _=>RD g' d v:=by
 unfold ul at e;split at e
 .rename_i elem k;dsimp only at e;split at e
  .cases e
  rename_i a;split at e
  .rename_i sz l;split at e
   rotate_left
   .cases e
   rename_i c;have h0:0<sz:=by grind [pP]
   obtain⟨els,vs,e,m,n,p,q⟩:=VE h.ok e j h0;obtain⟨d,H',v,s',e,r,u⟩:=Wc h e i n p q h0 elem;exact⟨d,H',v,s',e,by simp only[uk,k,a,ge,l,c,m];exact r,u⟩
  .cases e
 .cases e
end
section
variable[fZ]
variable{b:Nat}{P0:List Nat}{g:Gh}{LO:List Nat}{t:T LD}{L:LS}{tv:T V}{P:Program}{out:jg}
def qe(g:Gh):Option D->Option V->Prop
 |none,none=>True
 |some d,some v=>RD g d v
 |_,_=>False
theorem qA{x:Option Operand}{κ:Option D->ai}(h:Om t x κ=some out)(hr:∀ y,x=some y->DY g LO t tv y):∃ d v,κ d=some out/\mu tv x=some v/\qe g d v:=by
 cases x with
 |none=>exact⟨none,none,h,rfl,trivial⟩
 |some x =>simp only[Om]at h;obtain⟨d,v,a,_,c,i⟩:=bK h (hr x rfl);exact⟨some d,some v,a,by simp only[mu,c],i⟩
theorem eu{o:Option D}{d:Nat}{κ:Nat->ai}(h:vI o d κ=some out){ov:Option V}(hr:qe g o ov):∃ n,κ n=some out/\eZ ov d=some n/\(o=none->n=d):=by
 unfold vI at h;split at h
 .cases ov with
  |none=>exact hr.elim
  |some v =>have hr:RD g _ v:=hr;simp only[RD]at hr;subst hr;obtain⟨m,rfl,h⟩:=jx h;exact⟨m,h,rfl,λe=>by cases e⟩
 .cases h
 .cases ov with
  |none=>exact⟨d,h,rfl,λ_=>rfl⟩
  |some _=>exact hr.elim
theorem qe.isSome{o:Option D}{ov:Option V}(h:qe g o ov):ov.isSome=o.isSome:=by cases o<;>cases ov<;>first|rfl|exact h.elim
theorem RR.take:∀ {l:List (List D)} {a:Ad} {sz:Nat} (n:Nat),RR g a sz l->RR g a sz (l.take n)
 |[],_,_,n,_=>by simp[RR]
 |x::l,a,sz,0,_=>by simp[RR]
 |x::l,a,sz,n+1,r=>by simp_all[RR,aiL,RR.take]
theorem uA{sz:Nat}{l:List (List D)}{lo hi:Option D}{κ:D->ai}(h:GI sz l lo hi κ=some out){v:V}(r:RD g (.row sz l) v){lov j:Option V}(U:qe g lo lov)(W:qe g hi j){ty e:TypeId}(p:P.underlying ty=some (.slice e))(u:size P e=some sz) :
 ∃ d v',κ d=some out/\cZ P ty v lov j none=some v'/\RD g d v':=by
 unfold GI at h;obtain⟨k,K,y,_⟩:=eu h W;obtain⟨bn,M,A,_⟩:=eu K U;clear K h;obtain⟨hb,h⟩:=dE M;clear M;simp only[aaV]at hb;have w:=abh hb.1;obtain rfl:=aaO hb.2;have zero:l=[]->(cm (eZ lov 0)&&cm (eZ j 0)&&cm (eZ none 0))=true:=λhl=>by
  subst hl;have:k=0:=by simpa using w
  subst this;simp only[aiq]at y;rw[y,A];rfl
 simp only[RD]at r;rcases r with⟨rfl,rfl⟩|⟨rfl,a,z,sz',rfl⟩|⟨a,z,cap,rfl,F,N,X,O,Q⟩
 .refine⟨_,.nilslice,h,?_,by simp only[RD];exact .inl ⟨by simp,trivial⟩⟩;simp only[cZ,p,u,zero rfl,ge,ago,aeo,SE]
 .refine⟨_,.slice a z 0 (some 0) sz',h,?_,by simp only[RD];exact .inr (.inl ⟨by simp,a,z,sz',rfl⟩)⟩;simp only[cZ,p,u,io,acD,afX,aka,ge,zero rfl,ago,aeo,aeH]
 .by_cases i:(Nat.beq l.length 0&&io cap)=true
  .simp only[aaV]at i;have hl:l=[]:=air (aaO i.1);subst hl;refine⟨_,.slice a z 0 cap sz,h,?_,?_⟩
   .simp only[cZ,p,u,aiq,acD,i.2,afX,aka,ge,zero rfl,ago,aeo,aeH]
   .simp only[RD];exact .inr (.inr ⟨a,z,cap,by simp,F,N,λc hc=>by simp,λq=>by simp at q,by simp[RR]⟩)
  .have R:(Nat.beq sz 0||(Nat.beq l.length 0&&io cap))=false:=by
    cases sz with
    |zero=>omega
    |succ _=>cases G:(Nat.beq l.length 0&&io cap)with
     |true=>exact(i G).elim
     |false=>rfl
   have m:(l.take k).length=k:=by rw[agm];omega
   cases cap with
   |some c =>
    have hc:=X c rfl;have H:Nat.beq c 0=false:=by
     cases G:Nat.beq c 0 with
     |false=>rfl
     |true =>
      have:=aaO G;subst this;have I:l.length=0:=by omega
      rw[I]at i;exact(i rfl).elim
    refine⟨_,.slice (cq a (0*sz)) 0 (k - 0) (some (c - 0)) sz,h,?_,?_⟩
    .simp only[cZ,p,u,R,SE,acD,ago,aeo,aeH,afX,ge,y,A,abk (acd w hc),qS,H]
    .simp only[RD];refine .inr (.inr ⟨cq a (0*sz),0,some (c - 0),by rw[m];rfl,F,.inl rfl,λY n=>by cases n;rw[m];omega,λq=>O (λe=>by subst e;simp at q),?_⟩);rw[show cq a (0*sz)=a by simp[cq]];exact Q.take k
   |none =>
    have J:z=a.c:=N.elim (λq=>by cases q) id;refine⟨_,.slice a z k none sz,h,?_,?_⟩
    .simp only[cZ,p,u,R,SE,acD,ago,aeo,aeH,afX,ge,y,A,hb.1,qS]
    .simp only[RD];exact .inr (.inr ⟨a,z,none,by rw[m],F,.inr J,(λY n=>by cases n),λq=>O (λe=>by subst e;simp at q),Q.take k⟩)
theorem sN{ty e sz:TypeId}(p:P.underlying ty=some (.slice e))(u:size P e=some sz){v:V}(r:RD g .nilrow v\/∃ l,RD g (.row sz l) v){lov h:Option V}{m:V}(w:eZ lov 0=some 0)(y:eZ h 0=some 0)(A:mh m=some 0)(n:h.isSome=true) :
 ∃ v',cZ P ty v lov h (some m)=some v'/\RD g .nilrow v':=by
 have zero:(cm (eZ lov 0)&&cm (eZ h 0)&&cm (eZ (some m) 0))=true:=by rw[w,y];simp only[eZ,A];rfl
 have F:∀ d,eZ h d=some 0:=λd=>by
  cases h with
  |none=>cases n
  |some q=>exact y
 have j:cZ P ty .nilslice lov h (some m)=some .nilslice:=by simp_all[cZ,zero,ajz,aep,aia]
 have k:∀ a z sz',cZ P ty (.slice a z 0 (some 0) sz') lov h (some m)=some (.slice a z 0 (some 0) sz'):=λa z sz'=>by simp only[cZ,p,u,io,acD,afX,aka,ge,zero,n,ajz,aep,aia,aeH]
 rcases r with r|⟨l,r⟩
 .simp only[RD]at r;rcases r with rfl|⟨a,z,sz',rfl⟩
  .exact⟨_,j,by simp only[RD];exact .inl trivial⟩
  .exact⟨_,k a z sz',by simp only[RD];exact .inr ⟨a,z,sz',rfl⟩⟩
 .simp only[RD]at r;rcases r with⟨rfl,rfl⟩|⟨rfl,a,z,sz',rfl⟩|⟨a,z,cap,rfl,G,k2,k3,k4,k5⟩
  .exact⟨_,j,by simp only[RD];exact .inl trivial⟩
  .exact⟨_,k a z sz',by simp only[RD];exact .inr ⟨a,z,sz',rfl⟩⟩
  .by_cases i:(Nat.beq l.length 0&&io cap)=true
   .simp only[aaV]at i;have hl:=aaO i.1;rw[hl];have hc:cap=some 0:=by
     cases cap with
     |none=>cases i.2
     |some c=>rw[aaO i.2]
    subst hc;exact⟨_,k a z sz,by simp only[RD];exact .inr ⟨a,z,sz,rfl⟩⟩
   .have H:(Nat.beq sz 0||(Nat.beq l.length 0&&io cap))=false:=by
     cases sz with
     |zero=>exact(aiK _ G).elim
     |succ _=>cases I:(Nat.beq l.length 0&&io cap)with
      |true=>exact(i I).elim
      |false=>rfl
    have hk:(cap.isSome||Nat.blt 0 l.length||Nat.beq z a.c)=true:=by grind [Nat.beq_refl]
    refine⟨.slice a 0 (0 - 0) (some 0) sz,?_,by simp only[RD];exact .inr ⟨a,0,sz,rfl⟩⟩;simp only[cZ,p,u,H,SE,acD,n,ajz,aep,aia,aeH,afX,ge,w,F,A,qS,hk]
theorem Js(h:FI b P0 g t L tv LO){ty:TypeId}{x:D}{lo hi mx:Option D}{κ:D->DH->ai}(e:dW P ty x lo hi mx g.H κ=some out){v:V}(r:RD g x v){lov m mxv:Option V}(J:qe g lo lov)(u:qe g hi m)(K:qe g mx mxv) :
 ∃ d H' v',κ d H'=some out/\cZ P ty v lov m mxv=some v'/\vO b P0 g t L tv LO L H' g.s λg' _=>RD g' d v':=by
 unfold dW at e;split at e
 .rename_i q;split at e
  .rename_i l;simp only[RD]at r;obtain⟨rfl,hb⟩:=r;split at e
   .cases mxv with
    |some _=>exact K.elim
    |none =>
    obtain⟨w,e,y,_⟩:=eu e u;obtain⟨bn,e,A,_⟩:=eu e J;obtain⟨hc,e⟩:=dE e;refine⟨_,_,.str ((l.drop bn).take (w - bn)),e,by simp only[cZ,q,y,A,hc,ge],vO.same h ?_⟩;simp only[RD];exact⟨trivial,λc hc=>hb c (akk (ajD hc))⟩
   .cases e
  .cases e
 .rename_i el q;split at e
  .rename_i sz F;split at e
   .cases mxv with
    |some _=>exact K.elim
    |none =>
    split at e
    .rename_i s l;obtain⟨hb,j⟩:=aN e;clear e;have hb:=aaO hb;subst hb;obtain⟨d,v',e,k,p⟩:=uA j r J u q F;exact⟨d,_,v',e,k,vO.same h p⟩
    .rename_i s o n;obtain⟨sz',st,cap,l,j,hc,i,w⟩:=lI e (fW.refl g);clear e;obtain⟨hb,e⟩:=dE j;clear j;have hb:=aaO hb;subst hb;simp only[RD]at r;have G:sz'=s:=by
      rcases r with⟨⟨_,_,_,k⟩,_⟩|⟨st',cap',l',W,_⟩
      .rw[i]at k;cases k
      grind
     subst G;have hr:=Fh h.ok i w r;have r1':qe (g.frz o sz' cap l) lo lov:=by cases lo<;>cases lov<;>first|exact J|exact RD.mono (uR i) J
     have r2':qe (g.frz o sz' cap l) hi m:=by cases hi<;>cases m<;>first|exact u|exact RD.mono (uR i) u
     obtain⟨d,v',I,k,p⟩:=uA e hr r1' r2' q F;exact⟨d,_,v',I,k,g.frz o sz' cap l,LO,rfl,rfl,h.frz i,JP i,.ps rfl,p⟩
    .obtain⟨w,j,y,_⟩:=eu e u;obtain⟨bn,I,A,_⟩:=eu j J;clear e j;obtain⟨hc,e⟩:=dE I;clear I;simp only[aaV]at hc;obtain rfl:=aaO hc.1;obtain rfl:=aaO hc.2;have zero:(cm (eZ lov 0)&&cm (eZ m 0)&&cm (eZ none 0))=true:=by rw[y,A];rfl
     have X:=r;simp only[RD]at r;refine⟨_,_,v,e,?_,vO.same h X⟩;rcases r with rfl|⟨a,z,sz',rfl⟩
     .simp only[cZ,q,F,zero,ge,ago,aeo,SE]
     .simp only[cZ,q,F,io,acD,afX,aka,ge,zero,ago,aeo,aeH]
    .cases e
   .rename_i md;cases mxv with
    |none=>exact K.elim
    |some mv =>
    obtain⟨mn,j,M,_⟩:=eu (o:=some md) (ov:=some mv) e K;obtain⟨w,I,y,_⟩:=eu j u;obtain⟨bn,U,A,_⟩:=eu I J;clear e j I;obtain⟨hc,e⟩:=aN U;clear U;simp only[aaV]at hc;obtain⟨N,⟨i,O⟩,Q⟩:=hc;obtain rfl:=aaO i;obtain rfl:=aaO O;obtain rfl:=aaO Q;have R:m.isSome=true:=by rw[u.isSome];exact N
    split at e
    .rename_i s l;obtain⟨hb,j⟩:=aN e;clear e;have hb:=aaO hb;subst hb;obtain⟨v',k,p⟩:=sN (g:=g) q F (.inr ⟨_,r⟩) A y M R;exact⟨_,_,v',j,k,vO.same h p⟩
    .rename_i s o n;obtain⟨sz',st,cap,l,j,hc,i,w⟩:=lI e (fW.refl g);clear e;obtain⟨hb,e⟩:=dE j;clear j;have hb:=aaO hb;subst hb;simp only[RD]at r;have G:sz'=s:=by
      rcases r with⟨⟨_,_,_,k⟩,_⟩|⟨st',cap',l',W,_⟩
      .rw[i]at k;cases k
      grind
     subst G;have hr:=Fh h.ok i w r;obtain⟨v',k,p⟩:=sN q F (.inr ⟨_,hr⟩) A y M R;simp only[RD]at p;exact⟨_,_,v',e,k,vO.same h (by simp only[RD];exact p)⟩
    .obtain⟨v',k,p⟩:=sN (g:=g) q F (.inl r) A y M R;exact⟨_,_,v',e,k,vO.same h p⟩
    .cases e
  .cases e
 .cases e
theorem Yk(h:FI b P0 g t L tv LO){ty:TypeId}{x:D}{lo hi mx:Option D}{κ:D->DH->ai}(e:Pc P ty x lo hi mx g.H κ=some out){v:V}(r:RD g x v){lov w mxv:Option V}(r1:qe g lo lov)(N:qe g hi w)(r3:qe g mx mxv) :
 ∃ d H' v',κ d H'=some out/\cZ P ty v lov w mxv=some v'/\vO b P0 g t L tv LO L H' g.s λg' _=>RD g' d v':=by
 unfold Pc at e;split at e
 .rename_i el Q;split at e
  .rename_i sz hs;split at e
   .cases lov with
    |some _=>exact r1.elim
    |none =>
    split at e
    .cases mxv with
     |some _=>exact r3.elim
     |none =>
     split at e
     .rename_i k y;cases w with
      |none=>exact N.elim
      |some hv =>
      have R:hv=.int k y:=by have q:RD g (.int k y) hv:=N;simpa only[RD]using q
      subst R;obtain⟨m,rfl,z⟩:=jx e;clear e r1 N r3;have fin:∀ {f ver n:Nat},0<sz->m<=n->cZ P ty (.slice ⟨f,ver,0⟩ 0 n none sz) none (some (.int k (m:Nat))) none=some (.slice ⟨f,ver,0⟩ 0 m none sz):=λ{f ver n} p hm=>by
       have U:Nat.beq sz 0=false:=by cases sz with|zero=>cases p|succ _=>rfl
       simp only[cZ,Q,hs,U,io,aia,Bool.or_false,SE,acD,ago,aeo,aeH,afX,ge,eZ,mh,abk hm,qS,ajq]
      have cutR:∀ {f ver el nv:Nat} {vers:List oJ} {cells:List V} {o s:Nat} {l:List (List D)} {x0:DB},0<sz->g.O[o]? = some (some (f,ver))->g.s.get f=some (.cells el false nv vers)->bI vers ver=some ⟨ver,0,cells⟩->l.length*sz<=cells.length->(∀ u∈vers,u.v<nv)->RR g ⟨f,ver,0⟩ sz l->g.H[o]? = some x0->Tj sz s x0->m<=l.length ->
       vO b P0 g t L tv LO L (g.H.set o (.tbuf sz s (l.take m))) g.s λg' _=>RD g' (.tb sz o s m) (.slice ⟨f,ver,0⟩ 0 m none sz):=λ{f ver el nv vers cells o s l x0} p q1 q2 q3 q4 q5 q6 M W q9=>by
       have X:=Kb (l:=l.take m) M W;have hl:(l.take m).length=m:=by rw[agm];omega
       refine⟨g.cut o sz s (l.take m),LO,rfl,rfl,h.cut M W ⟨p,f,ver,el,nv,vers,cells,q1,q2,q3,?_,q5,(q6.keep X rfl).take m⟩,QT M W,.ps rfl,?_⟩
       .rw[hl];exact acd (ajs _ q9) q4
       .simp only[RD];exact⟨f,ver,s,l.take m,ver,q1,bt M,aaW _,rfl,λ_=>⟨hl.symm,rfl⟩⟩
      split at z
      .rename_i s o n;obtain⟨hb,A⟩:=aN z;clear z;have hb:=aaO hb;subst hb;obtain⟨sz',st,cap,l,F,hc,a,y⟩:=lI A (fW.refl g);clear A;obtain⟨hk,e⟩:=dE F;clear F;simp only[aaV,aiG]at hk;obtain⟨j,rfl,rfl,i,G⟩:=hk;have j:=aaO j;subst j;have i:=abh i;have G:0<n:=abh G;simp only[RD]at r;rcases r with⟨⟨_,_,_,k1⟩,_⟩|⟨st',cap',l',I,_,j2⟩
       .rw[a]at k1;cases k1
       rw[a]at I;cases I;rcases j2 with⟨j3,_⟩|⟨_,f,ver,ver',c,J,rfl,Y⟩
       .omega
       obtain⟨rfl,rfl⟩:=Y y;obtain⟨p,i1|⟨i1,f',ver2,el,nv,vers,cells,K,Z,i4,i5,i6,i7⟩⟩:=h.ok.obj o _ a
       .rw[i1.1]at y;simp at y;omega
       rw[J]at K;cases K;exact⟨_,_,_,e,fin p i,cutR p J Z i4 (Nat.le_of_eq i5.symm) (λu Q=>(i6 u Q).1) i7 a (.inl ⟨_,_,rfl⟩) (by omega)⟩
      .rename_i s o st n;obtain⟨hb,A⟩:=aN z;clear z;have hb:=aaO hb;subst hb;obtain⟨sz',l,F,hc,a⟩:=Jl A (fW.refl g);clear A;obtain⟨hk,e⟩:=dE F;clear F;simp only[aaV]at hk;have j:=aaO hk.1;subst j;have i:=abh hk.2;simp only[RD]at r;obtain⟨f,ver,s',l',ver',J,I,_,rfl,Y⟩:=r;rw[a]at I;cases I;obtain⟨rfl,rfl⟩:=Y rfl;obtain⟨p,f',ver2,el,nv,vers,cells,K,Z,i4,i5,i6,i7⟩:=h.ok.obj o _ a;rw[J]at K;cases K;exact⟨_,_,_,e,fin p i,cutR p J Z i4 i5 i6 i7 a (.inr ⟨_,_,rfl,ajw _⟩) i⟩
      .cases z
     .cases e
    .cases e
   .cases e
  .cases e
 .cases e
theorem Jt{ty:TypeId}{x:D}{lo hi mx:Option D}{κ:D->DH->ai}(e:dW P ty x lo hi mx [] κ=some out){v:V}(r:RD g x v){lov i mxv:Option V}(G:qe g lo lov)(u:qe g hi i)(H:qe g mx mxv) :
 ∃ d v',κ d []=some out/\cZ P ty v lov i mxv=some v'/\RD g d v':=by
 have nob:∀ {o n:Nat} {k:Nat->Bool->Bool->List (List D)->ai},dl [] o n k=some out->False:=λh=>by simp[dl]at h
 unfold dW at e;split at e
 .rename_i m;split at e
  .rename_i l;simp only[RD]at r;obtain⟨rfl,hb⟩:=r;split at e
   .cases mxv with
    |some _=>exact H.elim
    |none =>
    obtain⟨I,e,p,_⟩:=eu e u;obtain⟨bn,e,q,_⟩:=eu e G;obtain⟨hc,e⟩:=dE e;refine⟨_,.str ((l.drop bn).take (I - bn)),e,by simp only[cZ,m,p,q,hc,ge],?_⟩;simp only[RD];exact⟨trivial,λc hc=>hb c (akk (ajD hc))⟩
   .cases e
  .cases e
 .rename_i el m;split at e
  .rename_i sz w;split at e
   .cases mxv with
    |some _=>exact H.elim
    |none =>
    split at e
    .rename_i s l;obtain⟨hb,j⟩:=aN e;clear e;have hb:=aaO hb;subst hb;obtain⟨d,v',e,y,A⟩:=uA j r G u m w;exact⟨d,v',e,y,A⟩
    .exact(nob e).elim
    .obtain⟨I,j,p,_⟩:=eu e u;obtain⟨bn,F,q,_⟩:=eu j G;clear e j;obtain⟨hc,e⟩:=dE F;clear F;simp only[aaV]at hc;obtain rfl:=aaO hc.1;obtain rfl:=aaO hc.2;have zero:(cm (eZ lov 0)&&cm (eZ i 0)&&cm (eZ none 0))=true:=by rw[p,q];rfl
     have U:=r;simp only[RD]at r;refine⟨_,v,e,?_,U⟩;rcases r with rfl|⟨a,z,sz',rfl⟩
     .simp only[cZ,m,w,zero,ge,ago,aeo,SE]
     .simp only[cZ,m,w,io,acD,afX,aka,ge,zero,ago,aeo,aeH]
    .cases e
   .rename_i md;cases mxv with
    |none=>exact H.elim
    |some mv =>
    obtain⟨mn,j,O,_⟩:=eu (o:=some md) (ov:=some mv) e H;obtain⟨I,F,p,_⟩:=eu j u;obtain⟨bn,Q,q,_⟩:=eu F G;clear e j F;obtain⟨hc,e⟩:=aN Q;clear Q;simp only[aaV]at hc;obtain⟨J,⟨K,M⟩,N⟩:=hc;obtain rfl:=aaO K;obtain rfl:=aaO M;obtain rfl:=aaO N;have R:i.isSome=true:=by rw[u.isSome];exact J
    split at e
    .rename_i s l;obtain⟨hb,j⟩:=aN e;clear e;have hb:=aaO hb;subst hb;obtain⟨v',y,A⟩:=sN (g:=g) m w (.inr ⟨_,r⟩) q p O R;exact⟨_,v',j,y,A⟩
    .exact(nob e).elim
    .obtain⟨v',y,A⟩:=sN (g:=g) m w (.inl r) q p O R;exact⟨_,v',e,y,A⟩
    .cases e
  .cases e
 .cases e
end
section
variable[fZ]
variable{b:Nat}{P0:List Nat}{g:Gh}{LO:List Nat}{t:T LD}{L:LS}{tv:T V}{P:Program}{out:jg}{E:dg}
def Rf(t t':T LD)(tv:T V):Prop:=∀(Q:Nat->LD->V->Prop),(∀ i q,Q i (.g (.bool q)) (.bool q))->(∀ i x,t.get (eX i)=some x->∃ v,tv.get (eX i)=some v/\Q i x v)->∀ i x,t'.get (eX i)=some x->∃ v,tv.get (eX i)=some v/\Q i x v
theorem Rf.refl(t:T LD)(tv:T V):Rf t t tv:=λ_ _ h=>h
theorem Rf.rt{t t':T LD}(r:Rf t t' tv)(h:Cy g LO t tv):Cy g LO t' tv:=r (λ_ x v=>RS g LO x v) (λ_ q=>by show RD _ _ _;simp only[RD]) h
theorem yU{i:Nat}{q:Bool}(hv:tv.get (eX i)=some (.bool q)):Rf t (T.set (some (.g (.bool q))) (eX i) t) tv:=λQ hq h j x hx=>by grind [T.get_set_same,T.get_setN]
theorem xL{x:Operand}{q:Bool}(a:eval tv x=some (.bool q)):Rf t (LA t x q) tv:=by
 cases x with
 |tmp i=>exact yU a
 |_=>exact Rf.refl t tv
theorem VV{d:D}{x y:ai}(h:brS d x y=some out):∃ q,d=.bool q/\(bif q then x else y)=some out:=by
 unfold brS at h
 grind
theorem DQ{x y:ai}(h:wT x y=some out):x=some out/\y=some out:=by grind [wT]
theorem FX{d:D}{x y:ai}(h:brD d x y=some out){v:V}(r:RD g d v):∃ q,v=.bool q/\(bif q then x else y)=some out:=by
 unfold brD at h
 grind [RD,DQ]
theorem Ux{P:Program}{op:BinOp}{ty el:TypeId}{x y:Operand}{d:D}{κ:D->ai}(h:zC op d κ=some out)(p:P.underlying ty=some (.slice el)){v w:V}(r:RD g d v)(hy:rX y=true)(hw:eval tv y=some w)(s:S) :
 ∃ u v',κ u=some out/\gk P s op ty x y (some v) (some w)=some v'/\RD g u v':=by
 have k:w=.nilslice:=by
  unfold rX at hy
  grind [eval,Option.some.inj]
 subst k;unfold zC at h;obtain⟨A,h⟩:=aN h;have key:∀ {v:V},(v=.nilslice\/∃ a z n c sz,v=.slice a z n c sz)->∃ q,gk P s op ty x y (some v) (some .nilslice)=some (.bool q)/\((∃ a z n c sz,v=.slice a z n c sz)->q=Za op):=λ{v} j=>by
  have F:gS P op ty x y v .nilslice=true:=by grind [gS]
  simp only[gk,F,ge];rcases j with rfl|⟨a,z,n,c,sz,rfl⟩
  .cases op<;>first|(cases A;done)|(simp only[gb,dq,p,Option.map];exact⟨_,rfl,fun⟨a,z,n,c,sz,q⟩=>by cases q⟩)
  .cases op<;>first|(cases A;done)|(simp only[gb,dq,p,Option.map];exact⟨_,rfl,λ_=>rfl⟩)
 split at h
 .simp only[RD]at r;obtain⟨q,i,_⟩:=key (v:=v) (by rcases r with rfl|⟨a,z,sz,rfl⟩;exact .inl rfl;exact .inr ⟨_,_,_,_,_,rfl⟩);exact⟨_,_,h,i,by simp only[RD];exact⟨q,rfl⟩⟩
 .rename_i sz l _;simp only[RD]at r;cases l with
  |nil =>obtain⟨q,i,_⟩:=key (v:=v) (by rcases r with⟨_,rfl⟩|⟨_,a,z,sz,rfl⟩|⟨a,z,cap,rfl,_⟩;exact .inl rfl;exact .inr ⟨_,_,_,_,_,rfl⟩;exact .inr ⟨_,_,_,_,_,rfl⟩);exact⟨_,_,h,i,by simp only[RD];exact⟨q,rfl⟩⟩
  |cons e l =>
   rcases r with⟨q,_⟩|⟨q,_⟩|⟨a,z,cap,rfl,_⟩
   .cases q
   .cases q
   .obtain⟨q,i,m⟩:=key (v:=.slice a z (e::l).length cap sz) (.inr ⟨_,_,_,_,_,rfl⟩);refine⟨_,_,h,i,?_⟩;rw[m ⟨_,_,_,_,_,rfl⟩];show RD _ _ _;simp only[RD]
 .rename_i sz o n _;simp only[RD]at r;have j:(v=.nilslice\/∃ a z n c sz,v=.slice a z n c sz)/\(0<n->∃ a z n c sz,v=.slice a z n c sz):=by
   rcases r with⟨_,r⟩|⟨_,_,_,_,_,r⟩
   .rcases r with⟨h0,r⟩|⟨a,z,c,rfl⟩
    .refine⟨?_,λq=>by omega⟩;rcases r with rfl|⟨a,z,sz',rfl⟩
     .exact .inl rfl
     .exact .inr ⟨_,_,_,_,_,rfl⟩
    .exact⟨.inr ⟨_,_,_,_,_,rfl⟩,λ_=>⟨_,_,_,_,_,rfl⟩⟩
   .rcases r with⟨h0,r⟩|⟨_,f,ver,ver',cap',_,rfl,_⟩
    .refine⟨?_,λq=>by omega⟩;rcases r with rfl|⟨a,z,sz',rfl⟩
     .exact .inl rfl
     .exact .inr ⟨_,_,_,_,_,rfl⟩
    .exact⟨.inr ⟨_,_,_,_,_,rfl⟩,λ_=>⟨_,_,_,_,_,rfl⟩⟩
  obtain⟨q,i,m⟩:=key j.1;cases n with
  |zero=>exact⟨_,_,h,i,by simp only[RD];exact⟨q,rfl⟩⟩
  |succ n =>refine⟨_,_,h,i,?_⟩;rw[m (j.2 (by omega))];show RD _ _ _;simp only[RD]
 .cases h
theorem DY.set{x:Operand}{q:Bool}{c:Operand}(hc:eval tv c=some (.bool q))(h:DY g LO t tv x):DY g LO (LA t c q) tv x:=by
 intro y hy;cases x with
 |tmp j =>
  cases c with
  |tmp i =>
   simp only[iF,LA]at hy;by_cases a:i=j
   .subst a;rw[T.get_set_same]at hy;cases hy;exact⟨_,hc,by show RD _ _ _;simp only[RD]⟩
   .rw[T.get_setN,afp a]at hy;exact h y hy
  |_=>exact h y hy
 |_=>exact h y hy
theorem tr0{ty:TypeId}{x:D}{lo hi mx:Option D}{κ:D->DH->ai}(e:Pc P ty x lo hi mx [] κ=some out):False:=by
 unfold Pc at e;split at e
 .split at e
  .split at e
   .split at e
    .split at e
     .obtain⟨m,_,a⟩:=jx e;split at a
      .have:=(aN a).2;simp[dl]at this
      .have:=(aN a).2;simp[IX]at this
      .cases a
     .cases e
    .cases e
   .cases e
  .cases e
 .cases e
theorem qo(o:Op){esc:Bool}{H:DH}{κ:T LD->BS->ai}(hk:aL E.E.P o<=1)(N:(∀ ty x lo hi mx,o≠.slice ty x lo hi mx)\/H=[])(ho:∀ x∈o.operands.toList,DY g LO t tv x)(G:Ok g)(hl:LRw g L LO)(O:fW H g)(e:lX o E esc t L H κ=some out) :
 ∃ t' d v,κ t' (.val d L H)=some out/\dj o E.E tv g.s=some (.val v g.s)/\RS g LO d v/\Rf t t' tv:=by
 have fin:∀ {d:D} {v:V} {r:Option V},κ t (.val (.g d) L H)=some out->r=some v->RD g d v->∃ t' d v,κ t' (.val d L H)=some out/\bL g.s r=some (.val v g.s)/\RS g LO d v/\Rf t t' tv:=λh l j=>⟨t,_,_,h,by rw[l];rfl,j,.refl t tv⟩;cases o with
 |move x =>obtain⟨d,v,h,_,l,j⟩:=nI e (ho x (by simp[Op.operands]));exact⟨t,d,v,h,by simp only[dj,l];rfl,j,.refl t tv⟩
 |assign x =>obtain⟨d,v,h,_,l,j⟩:=nI e (ho x (by simp[Op.operands]));exact⟨t,d,v,h,by simp only[dj,l];rfl,j,.refl t tv⟩
 |pick c x y =>
  simp only[lX,WP,sO]at e;obtain⟨d,v,h,_,l,j⟩:=bK e (ho c (by simp[Op.operands]));obtain⟨q,rfl,u⟩:=VV h;simp only[RD]at j;subst j;cases q with
  |true =>obtain⟨I,v',m,_,n,p⟩:=nI (x:=x) u ((ho x (by simp[Op.operands])).set l);exact⟨_,I,v',m,by simp only[dj,nX,l,ge,n];rfl,p,xL l⟩
  |false =>obtain⟨I,v',m,_,n,p⟩:=nI (x:=y) u ((ho y (by simp[Op.operands])).set l);exact⟨_,I,v',m,by simp only[dj,nX,l,SE,n];rfl,p,xL l⟩
 |build ty parts =>simp only[lX]at e;obtain⟨d,v,h,l,j⟩:=OD (LO:=LO) (tv:=tv) (g:=g) e (λx F=>ho x.2 (by simp only[Op.operands,aiH];exact⟨x,F,rfl⟩));exact fin h l j
 |load ty x =>obtain⟨d,v,h,_,l,j⟩:=nI e (ho x (by simp[Op.operands]));obtain⟨I,v',m,n,p⟩:=Hj h O G hl j;exact⟨t,_,v',m,by simp only[dj,l];exact n,p,.refl t tv⟩
 |nilCheck x =>obtain⟨d,v,h,_,l,j⟩:=nI e (ho x (by simp[Op.operands]));obtain⟨m,n⟩:=VO h j;exact⟨t,d,v,m,by simp only[dj,l,n];rfl,j,.refl t tv⟩
 |binOp op ty x y yT =>
  obtain⟨a,v,h,_,l,j⟩:=bK e (ho x (by simp[Op.operands]));obtain⟨c,w,u,_,z,A⟩:=bK h (ho y (by simp[Op.operands]));cases Q:rX y with
  |true =>
   rw[Q]at u;dsimp only at u;split at u
   .rename_i R;obtain⟨d,v',m,n,p⟩:=Ux (x:=x) u R j Q z g.s;exact fin m (by rw[l,z];exact n) p
   .cases u
  |false =>
  rw[Q]at u;dsimp only at u;obtain⟨d,v',m,n,p⟩:=VX u j A g.s;exact fin m (by rw[l,z];exact n) p
 |unOp op ty x =>obtain⟨a,v,h,_,l,j⟩:=bK e (ho x (by simp[Op.operands]));obtain⟨d,v',m,n,p⟩:=Yh h j;exact fin m (by rw[l];exact n) p
 |convert src dst x =>obtain⟨a,v,h,_,l,j⟩:=bK e (ho x (by simp[Op.operands]));obtain⟨d,v',m,n,p⟩:=Sy h j g.s;exact⟨t,_,v',m,by simp only[dj,l,gZ,n];rfl,p,.refl t tv⟩
 |makeInterface ty x =>
  obtain⟨a,v,h,_,l,j⟩:=bK e (ho x (by simp[Op.operands]));split at h
  .cases h
  .rename_i U R;refine fin (v:=.iface ty v) h ?_ (by simp only[RD];exact⟨v,rfl,j⟩);rw[l];unfold qC;rw[R];split
   .rename_i q;exact(U _ (agn q)).elim
   .rfl
   .rename_i q;cases q
  .cases h
 |makeFunc fn first cap =>
  simp only[lX]at e;split at e
  .obtain⟨ds,vs,h,l,j⟩:=km e (λx F=>ho x (by simp[Op.operands]at F ⊢;exact .inl F));obtain⟨es,ws,u,z,A⟩:=km h (λx F=>ho x (by simp[Op.operands]at F ⊢;exact .inr F));refine fin (v:=.func (.func _) vs ws) u ?_ (by simp only[RD];exact⟨vs,ws,rfl,j,A⟩);simp only[tX,l,z,ES]
  .cases e
 |fieldAddr ty x f =>obtain⟨d,v,h,_,l,j⟩:=nI e (ho x (by simp[Op.operands]));obtain⟨I,v',m,n,p⟩:=Ol h j;exact⟨t,I,v',m,by simp only[dj,l,n];rfl,p,.refl t tv⟩
 |field ty x f =>obtain⟨a,v,h,_,l,j⟩:=bK e (ho x (by simp[Op.operands]));obtain⟨d,v',m,n,p⟩:=Oj h j;exact fin m (by rw[l];exact n) p
 |indexAddr ty x i =>obtain⟨a,v,h,_,l,j⟩:=bK e (ho x (by simp[Op.operands]));obtain⟨c,w,u,_,z,A⟩:=bK h (ho i (by simp[Op.operands]));obtain⟨d,v',m,n,p⟩:=Oc u j A;exact fin m (by rw[l,z];exact n) p
 |index ty x i =>obtain⟨a,v,h,_,l,j⟩:=bK e (ho x (by simp[Op.operands]));obtain⟨c,w,u,_,z,A⟩:=bK h (ho i (by simp[Op.operands]));obtain⟨d,v',m,n,p⟩:=Ob u j A;exact fin m (by rw[l,z];exact n) p
 |lookup ty x k ok =>obtain⟨a,v,h,_,l,j⟩:=bK e (ho x (by simp[Op.operands]));obtain⟨c,w,u,_,z,A⟩:=bK h (ho k (by simp[Op.operands]));obtain⟨d,v',m,n,p⟩:=Ri u O G j A;exact fin m (by rw[l,z];exact n) p
 |typeAssert x xT ty ok =>obtain⟨a,v,h,_,l,j⟩:=bK e (ho x (by simp[Op.operands]));obtain⟨d,v',m,n,p⟩:=KT h j;exact fin m (by rw[l];exact n) p
 |extract x i =>obtain⟨a,v,h,_,l,j⟩:=bK e (ho x (by simp[Op.operands]));obtain⟨d,v',m,n,p⟩:=Vz h j;exact fin m (by rw[l];exact n) p
 |slice ty x lo hi mx =>
  rcases N with N|rfl
  .exact(N _ _ _ _ _ rfl).elim
  obtain⟨d,v,h,_,l,j⟩:=bK e (ho x (by simp[Op.operands]));obtain⟨d1,v1,u,z,A⟩:=qA h (λy hy=>ho y (by subst hy;simp[Op.operands]));obtain⟨d2,v2,X,Y,Z⟩:=qA u (λy hy=>ho y (by subst hy;simp[Op.operands]));obtain⟨d3,v3,W,i2,i3⟩:=qA X (λy hy=>ho y (by subst hy;simp[Op.operands]));cases esc
  rotate_left
  .exact(tr0 W).elim
  obtain⟨I,v',m,n,p⟩:=Jt W j A Z i3;exact fin m (by rw[l,z,Y,i2];exact n) p
 |call c =>
  simp only[lX]at e;obtain⟨ds,vs,h,l,j⟩:=km e (λx F=>ho x (by simp[Op.operands,Call.operands]at F ⊢;exact .inr F));simp only[dj,l,iI];split at h
  .rename_i bi hc;rw[hc];simp only[aL,hc]at hk;simp only;cases bi<;>first|(simp at hk;done)|skip
   case len =>
    simp only[oh]at h;simp only[jq];split at h
    .rename_i a ha;split at h
     .rename_i x;simp only[RL]at j;obtain⟨v,vs',rfl,m,rfl⟩:=j;obtain⟨d,v',J,K,M⟩:=UU h O G m;rw[ha];exact fin J K M
     .cases h
    .cases h
   case max =>
    simp only[oh]at h;simp only[jq];split at h
    .simp only[RL]at j;obtain⟨v,vs',rfl,m,n⟩:=j;obtain⟨d,v',J,K,M⟩:=zG h m n;exact fin J K M
    .cases h
   case min =>
    simp only[oh]at h;simp only[jq];split at h
    .simp only[RL]at j;obtain⟨v,vs',rfl,m,n⟩:=j;obtain⟨d,v',J,K,M⟩:=zG h m n;exact fin J K M
    .cases h
   case cap=>cases h
  .rename_i f hc;simp[aL,hc]at hk
  .cases h
 |_=>first|(cases e;done)|(simp[aL]at hk;done)
def OpS(E:dI)(b:Nat)(P0:List Nat)(g:Gh)(t:T LD)(tv:T V)(L:LS)(LO:List Nat)(x:BS)(nx:Nx):Prop:=match x with
 |.val d L' H'=>∃ v s',nx=.val v s'/\vO b P0 g t L tv LO L' H' s' λg' LO'=>RS g' LO' d v
 |.skip L' H'=>∃ s',nx=.skip s'/\vO b P0 g t L tv LO L' H' s' λ_ _=>True
 |.enter f args L' H'=>∃ vs,nx=.enter f vs g.s/\L'=L/\H'=g.H/\RL g args vs/\aQ E f=true
 |.defer df L' H'=>∃ c a,nx=.defer (.call (.func df.fn) c a) g.s/\L'=L/\H'=g.H/\RL g df.captured c/\RL g df.args a/\aQ E df.fn=true
 |.recover L' H'=>nx=.recover g.s/\L'=L/\H'=g.H
 |.panic d L' H'=>∃ v,nx=.panic v g.s/\L'=L/\H'=g.H/\RD g d v
 |.round o args L' H'=>∃ vs l v,nx=.round l vs g.s/\L'=L/\H'=g.H/\RL g args vs/\g.O[o]? = some (some (l,v))
theorem FI.rf(h:FI b P0 g t L tv LO){t':T LD}(r:Rf t t' tv):FI b P0 g t' L tv LO:=⟨h.ok,r.rt h.slots,h.own,h.pv,h.low,h.nd,h.bl⟩
theorem Cy.ops(h:Cy g LO t tv)(l:List Operand):∀ x∈l,DY g LO t tv x:=λx _=>h.op x
theorem EJ(o:Op){esc:Bool}{κ:T LD->BS->ai}(h:FI b P0 g t L tv LO)(e:lX o E esc t L g.H κ=some out) :
 ∃ t' x nx,κ t' x=some out/\dj o E.E tv g.s=some nx/\Rf t t' tv/\OpS E.E b P0 g t tv L LO x nx:=by
 have rd:aL E.E.P o<=1->(∀ ty x lo hi mx,o≠.slice ty x lo hi mx)->∃ t' x nx,κ t' x=some out/\dj o E.E tv g.s=some nx/\Rf t t' tv/\OpS E.E b P0 g t tv L LO x nx:=λhk hs=>by obtain⟨t',d,v,p,A,u,I⟩:=qo o hk (.inl hs) (h.slots.ops _) h.ok h.own.2 (fW.refl g) e;exact⟨t',_,_,p,A,I,v,g.s,rfl,vO.same h u⟩
 cases o with
 |alloc elem =>
  simp only[lX]at e;split at e
  .rename_i z hz;obtain⟨zv,p,_,u,I⟩:=jM (g:=g) hz;obtain⟨x,L',H',r,F⟩:=Mg h e u I elem;exact⟨t,_,_,r,by simp only[dj,jG,p,rh,bA,bz],.refl t tv,_,_,rfl,F⟩
  .cases e
 |box elem x =>
  simp only[lX]at e;split at e
  .obtain⟨d,v,p,_,A,u⟩:=bK e (h.slots.op x);obtain⟨cs,I,J,K,_⟩:=od p u;obtain⟨x,L',H',r,F⟩:=Mg h I J K elem;exact⟨t,_,_,r,by simp only[dj,ua,A,rh,bA,bz],.refl t tv,_,_,rfl,F⟩
  .cases e
 |buildSlice ty len parts =>simp only[lX]at e;obtain⟨d,v,s',p,A,u⟩:=Bs h e (λx _=>h.slots.op x.2);exact⟨t,_,_,p,by simp only[dj];exact A,.refl t tv,v,s',rfl,u⟩
 |store ty x y =>obtain⟨d,v,p,_,A,u⟩:=nI e (h.slots.op x);obtain⟨c,w,I,_,J,K⟩:=bK p (h.slots.op y);obtain⟨s',L',H',r,F,G⟩:=NF h I u K;exact⟨t,_,_,r,by simp only[dj,A,J];exact F,.refl t tv,s',rfl,G⟩
 |makeMap ty n =>
  cases n with
  |some _=>cases e
  |none=>exact⟨t,_,_,e,rfl,.refl t tv,_,_,rfl,NV h⟩
 |makeSlice ty l c =>
  simp only[lX]at e;split at e
  .rename_i el Q;split at e
   .rename_i i;split at e
    .rename_i j;split at e
     .cases e
     rename_i hb;have hb:=aaO hb;subst hb;obtain⟨d,v,p,_,A,u⟩:=bK e (h.slots.op _);split at p
     .simp only[RD]at u;subst u;obtain⟨m,hm,I⟩:=jx p;subst hm;obtain⟨l,sz,v,s',r,F,G⟩:=UF h Q I;exact⟨t,_,_,r,by simp only[dj,A,dQ,mh];exact F,.refl t tv,v,s',rfl,G⟩
     .cases p
    .cases e
   .cases e
  .cases e
 |slice ty x lo hi mx =>
  obtain⟨d,v,p,_,A,u⟩:=bK e (h.slots.op x);obtain⟨d1,W,I,J,K⟩:=qA p (λy _=>h.slots.op y);obtain⟨d2,X,R,N,O⟩:=qA I (λy _=>h.slots.op y);obtain⟨d3,v3,i1,i2,i3⟩:=qA R (λy _=>h.slots.op y);cases esc
  .obtain⟨d',H',v',r,F,G⟩:=Js h i1 u K O i3;exact⟨t,_,_,r,by simp only[dj,A,J,N,i2,tV,F];rfl,.refl t tv,v',g.s,rfl,G⟩
  .obtain⟨d',H',v',r,F,G⟩:=Yk h i1 u K O i3;exact⟨t,_,_,r,by simp only[dj,A,J,N,i2,tV,F];rfl,.refl t tv,v',g.s,rfl,G⟩
 |mapUpdate ty m k x =>obtain⟨d1,W,p,_,A,u⟩:=bK e (h.slots.op m);obtain⟨d2,X,I,_,J,K⟩:=bK p (h.slots.op k);obtain⟨d3,v3,R,_,N,O⟩:=bK I (h.slots.op x);obtain⟨s',H',r,F,G⟩:=Hg h R u K O;exact⟨t,_,_,r,by simp only[dj,A,J,N];exact F,.refl t tv,s',rfl,G⟩
 |insert ty m k x =>obtain⟨d1,W,p,_,A,u⟩:=bK e (h.slots.op m);obtain⟨d2,X,I,_,J,K⟩:=bK p (h.slots.op k);obtain⟨d3,v3,R,_,N,O⟩:=bK I (h.slots.op x);obtain⟨s',H',r,F,G⟩:=Hg h R u K O;exact⟨t,_,_,r,by simp only[dj,A,J,N];exact F,.refl t tv,s',rfl,G⟩
 |call c =>
  have e0:=e;simp only[lX]at e;obtain⟨ds,vs,p,A,u⟩:=km e (λx _=>h.slots.op x);split at p
  .rename_i bi hc;have pure:(bi=.len\/bi=.max\/bi=.min)->∃ t' x nx,κ t' x=some out/\dj (.call c) E.E tv g.s=some nx/\Rf t t' tv/\OpS E.E b P0 g t tv L LO x nx:=λhb=>by
    refine rd ?_ (λ_ _ _ _ _ q=>by cases q)
    grind [aL]
   cases bi<;>first|(cases p;done)|exact pure (.inl rfl)|exact pure (.inr (.inl rfl))|exact pure (.inr (.inr rfl))|skip
   case append =>
    simp only[oh]at p;split at p
    .rename_i a ha;split at p
     .rename_i c2 hb;split at p
      .simp only[RL]at u;obtain⟨W,vs1,rfl,r,X,vs2,rfl,F,rfl⟩:=u;obtain⟨d,H',v,s',M,U,j3⟩:=KU h p r F;exact⟨t,_,_,M,by simp only[dj,A,iI,hc,jq,ha,hb,U,jj],.refl t tv,v,s',rfl,j3⟩
      .cases p
     .cases p
    .cases p
   case recover=>exact⟨t,_,_,p,by simp only[dj,A,iI,hc,jq],.refl t tv,rfl,rfl,rfl⟩
   case panic =>
    simp only[oh]at p;split at p
    .simp only[RL,RD]at u;obtain⟨W,vs1,rfl,⟨v',rfl,r⟩,rfl⟩:=u;exact⟨t,_,.panic (.iface _ v') g.s,p,by simp only[dj,A,iI,hc,jq];rfl,.refl t tv,_,rfl,rfl,rfl,by simp only[RD];exact⟨v',rfl,r⟩⟩
    .cases p
  .rename_i f hc;obtain⟨d,v,r,_,F,G⟩:=bK p (h.slots.op f);split at r
   .unfold Lf at r;split at r
    .simp only[RD]at G;obtain⟨l,v',M,rfl⟩:=G;exact⟨t,_,.round l vs g.s,r,by simp only[dj,A,iI,hc,F,Nb,afn],.refl t tv,vs,l,v',rfl,rfl,rfl,u,M⟩
    .cases r
   unfold FV at r;split at r
   .rename_i gf first cap
    obtain⟨hb,r⟩:=aN r;simp only[RD]at G;obtain⟨Y,Z,rfl,M,U⟩:=G;refine⟨t,_,_,r,?_,.refl t tv,Y++(vs++Z),rfl,rfl,rfl,M.append (u.append U),hb⟩;simp only[dj,A,iI,hc,F,Nb,Nc];unfold aQ at hb;split at hb
    .rename_i fn hf;rw[hf];simp only;split
     .rename_i q;rw[q]at hb;cases hb
     .rfl
    .cases hb
   .cases r
  .cases p
 |defer c =>
  simp only[lX]at e;obtain⟨ds,vs,p,A,u⟩:=km e (λx _=>h.slots.op x);split at p
  .rename_i f hc;obtain⟨d,v,r,_,F,G⟩:=bK p (h.slots.op f);split at r
   .obtain⟨hb,r⟩:=aN r;simp only[RD]at G;obtain⟨Y,Z,rfl,M,U⟩:=G;exact⟨t,_,_,r,by simp only[dj,A,qG,hc,F,FJ],.refl t tv,Z,Y++vs,rfl,rfl,rfl,U,M.append u,hb⟩
   .cases r
  .cases p
 |panic x =>
  simp only[lX]at e;obtain⟨d,v,r,_,F,G⟩:=bK e (h.slots.op x);split at r
  .simp only[RD]at G;obtain⟨v',rfl,M⟩:=G;exact⟨t,_,.panic (.iface _ v') g.s,r,by simp only[dj,F,ye];rfl,.refl t tv,_,rfl,rfl,rfl,by simp only[RD];exact⟨v',rfl,M⟩⟩
  .cases r
 |convert src dst x =>
  refine rd ?_ (λ_ _ _ _ _ q=>by cases q);obtain⟨a,v,p,_,A,u⟩:=bK e (h.slots.op x);unfold wR at p;revert p;cases (E.E.P.underlying src).isNone with
  |true=>intro p;cases p
  |false =>
   intro p;simp only[SE]at p;split at p
   .rename_i Q;simp[aL,Q]
   .rename_i Q;simp[aL,Q]
   .cases p
 |binOp op ty x y yT=>exact rd (by simp only[aL];cases rY op<;>simp) (λ_ _ _ _ _ q=>by cases q)
 |_=>first
  |(cases e;done)
  |exact rd (by simp[aL]) (λ_ _ _ _ _ q=>by cases q)
end
section
variable[fZ]
variable{b:Nat}{P0:List Nat}{g g':Gh}{LO:List Nat}{t:T LD}{L:LS}{tv:T V}{P:Program}{out:jg}{E:dg}
theorem gO{s s':S}{r:Option V}{v:V}(h:bL s r=some (.val v s)):bL s' r=some (.val v s'):=by
 unfold bL at h ⊢;split at h
 .cases h;rfl
 .cases h
theorem rT{ty:TypeId}{cs:List D}{c:Nat}{κ:D->ai}(h:br P ty cs c κ=some out){s s':S}{a:Ad}{vs:List V}(l:loadCells s a cs.length=some vs)(p:loadCells s' a cs.length=some vs):loadVar P s ty (cq a c)=loadVar P s' ty (cq a c):=by
 unfold br at h;unfold loadVar;split at h
 .rename_i m;split at h
  .rename_i n q;obtain⟨i,h⟩:=aN h;obtain⟨_,h4⟩:=iv h;have i:=abh i;rw[m,q];simp only[Option.bind];rw[iO l (by omega),iO p (by omega)]
  .cases h
 .rename_i m;obtain⟨d,h3,_⟩:=jH h;have j:c<cs.length:=by grind
  have k:c<vs.length:=by rw[Cg l];exact j
  have hv:vs[c]? = some vs[c]:=abg k
  grind [tE]
 .cases h
def uu(H:DH):Prop:=∀(o:Nat) b,H[o]? = some b->b=.dead\/∃ st cs,b=.cells st cs
theorem uu.nil:uu []:=λo b h=>by simp at h
theorem YW{H:DH}(h:uu H){o n:Nat}{k:Nat->Bool->Bool->List (List D)->ai}:dl H o n k≠some out:=λe=>by
 unfold dl at e;split at e
 .rename_i sz st cap l hc;rcases h o _ hc with q|⟨_,_,q⟩<;>cases q
 .cases e
theorem acA{H:DH}(h:uu H){o st:Nat}{k:Nat->List (List D)->ai}:IX H o st k≠some out:=λe=>by
 unfold IX at e;split at e
 .rename_i sz st' l hc;rcases h o _ hc with q|⟨_,_,q⟩<;>cases q
 .cases e
theorem QJ{H:DH}(h:uu H){o:Nat}{k:List (D×D)->ai}:ig H o k≠some out:=λe=>by
 unfold ig at e;split at e
 .rename_i es hc;rcases h o _ hc with q|⟨_,_,q⟩<;>cases q
 .cases e
theorem Kv{d:Nat}{ty:TypeId}{x y:D}{κ:Bool->ai}{v w:V}(h:On P d ty x y κ=some out)(a:RD g x v)(c:RD g y w):∃ q,∀ okf,dq P okf d ty v w=some q:=by
 obtain⟨q,i⟩:=Ge P d ty x y κ out h;refine⟨q,λokf=>?_⟩;obtain⟨q',h1,h2⟩:=Fx (κ:=λp=>bif p==q then some out else none) okf (by rw[i];simp;rfl) a c
 grind
theorem aaM{op:BinOp}{ty:TypeId}{x y:Operand}{c d:D}{κ:D->ai}(h:aC P op ty (fG x||fG y) c d κ=some out){v w:V}(r1:RD g c v)(r2:RD g d w){s s':S}:gk P s op ty x y (some v) (some w)=gk P s' op ty x y (some v) (some w):=by
 simp only[gk];congr 1;unfold gb;split
 .rfl
 .rfl
 .rename_i n1 n2;unfold aC at h;split at h
  .grind [RD]
  .grind [RD]
  .obtain⟨_,h⟩:=aN h
   grind [Kv]
theorem YZ{op:BinOp}{ty el:TypeId}{x y:Operand}{d:D}{κ:D->ai}(h:zC op d κ=some out)(hu:P.underlying ty=some (.slice el)){v w:V}(r:RD g d v)(hy:rX y=true)(hw:eval tv y=some w){s s':S}:gk P s op ty x y (some v) (some w)=gk P s' op ty x y (some v) (some w):=by simp_all[gk,gb,dq]
theorem VM{a dst:TypeId}{x:D}{κ:D->ai}(h:wR P a dst x κ=some out){v:V}(r:RD g x v){s s':S}{y:V}(hy:kz P s a dst v=some (y,s)):kz P s' a dst v=some (y,s'):=by
 unfold wR at h
 grind [Option.isNone_some,RD,kz,CG]
theorem US{ty:TypeId}{x:LD}{H:DH}{κ:D->ai}(h:mj P ty x L H κ=some out)(F:fW H g)(hc:uu H)(p:Ok g)(hl:LRw g L LO){v:V}(r:RS g LO x v)(hm:oM g g')
 (hp:∀(k:Nat) y f,L[k]? = some y->LO[k]? = some f->y.2≠[]->g'.s.get f=g.s.get f) (z:∀(o:Nat) st cs f v,H[o]? = some (.cells st cs)->g.O[o]? = some (some (f,v))->g'.s.get f=g.s.get f) :
 ∀ w,jm P g.s ty (some v)=some (.val w g.s)->jm P g'.s ty (some v)=some (.val w g'.s):=by
 have key:∀ {a:Ad},v=.ptr a->loadVar P g.s ty a=loadVar P g'.s ty a->∀ w,jm P g.s ty (some v)=some (.val w g.s)->jm P g'.s ty (some v)=some (.val w g'.s):=λ{a} hv he w hw=>by grind [iG,gO]
 cases x with
 |u=>cases h
 |lp k c =>
  simp only[mj]at h;obtain⟨f,j,rfl⟩:=r;split at h
  .rename_i st cs hk;by_cases l:cs=[]
   .subst l;exfalso;unfold br at h;split at h
    .split at h
     .obtain⟨G,h⟩:=aN h;obtain⟨_,q⟩:=iv h;have:=abh G;simp at q;omega
     .cases h
    .obtain⟨d,q,_⟩:=jH h;simp at q
    .cases h
   .obtain⟨_,i|⟨el,vs,i,m,n⟩⟩:=hl k _ f hk j
    .exact(l i).elim
    .have A:=hp k _ f hk j l;refine key (a:=cq ⟨f,0,0⟩ c) (by simp[cq]) (rT (vs:=vs) h ?_ ?_)
     .rw[<- m.len];exact Kd i
     .rw[<- m.len];exact Kd (by rw[A];exact i)
  .cases h
 |g d =>
  have r:RD g d v:=r;simp only[mj]at h;unfold bW at h;split at h
  .simp only[RD]at r;obtain⟨a,vs,rfl,j,i,m,n⟩:=r;exact key rfl (rT h i (hm.cells _ _ _ j i))
  .rename_i o c _;simp only[RD]at r;obtain⟨f,ver,j,rfl⟩:=r;obtain⟨st,cs,f',el,vs,h,h0,_,i,m,n,A⟩:=EM h F p;rw[j]at i;cases i;refine key (a:=cq ⟨f,0,0⟩ c) (by simp[cq]) (rT (vs:=vs) h ?_ ?_)
   .rw[<- n.len];exact Kd m
   .rw[<- n.len];exact Kd (by rw[z _ st cs f 0 h0 j];exact m)
  .exact(YW hc h).elim
  .exact(acA hc h).elim
  .cases h
theorem CU(o:Op){esc:Bool}{H:DH}{κ:T LD->BS->ai}(hk:aL E.E.P o<=1)(ho:∀ x∈o.operands.toList,DY g LO t tv x)(A:Ok g)(hl:LRw g L LO)(M:fW H g)(hc:uu H)(e:lX o E esc t L H κ=some out)(hm:oM g g')
 (hp:∀(k:Nat) y f,L[k]? = some y->LO[k]? = some f->y.2≠[]->g'.s.get f=g.s.get f) (F:∀(o:Nat) st cs f v,H[o]? = some (.cells st cs)->g.O[o]? = some (some (f,v))->g'.s.get f=g.s.get f) :
 ∀ w,dj o E.E tv g.s=some (.val w g.s)->dj o E.E tv g'.s=some (.val w g'.s):=by
 intro w h;cases o with
 |load ty x =>obtain⟨d,v,i,_,m,l⟩:=nI e (ho x (by simp[Op.operands]));simp only[dj,m]at h ⊢;exact US i M hc A hl l hm hp F w h
 |binOp op ty x y yT =>
  obtain⟨a,v,i,_,m,l⟩:=bK e (ho x (by simp[Op.operands]));obtain⟨c,w',j,_,z,J⟩:=bK i (ho y (by simp[Op.operands]));simp only[dj,m,z]at h ⊢;cases G:rX y with
  |true =>
   rw[G]at j;dsimp only at j;split at j
   .rename_i q;have N:gk E.E.P g.s op ty x y (some v) (some w')=gk E.E.P g'.s op ty x y (some v) (some w'):=YZ j q l G z;rw[<- N];exact gO h
   .cases j
  |false =>
  rw[G]at j;dsimp only at j;rw[aaM j l J (s:=g'.s) (s':=g.s)];exact gO h
 |convert u dst x =>
  obtain⟨a,v,i,_,m,l⟩:=bK e (ho x (by simp[Op.operands]));simp only[dj,m,gZ]at h ⊢;have:kz E.E.P g.s u dst v=some (w,g.s):=by
   revert h;cases kz E.E.P g.s u dst v with
   |none=>intro h;cases h
   |some p=>intro h;obtain⟨p1,p2⟩:=p;simp only[jj,abf,Nx.val.injEq]at h;rw[h.1,h.2]
  rw[VM i l this];rfl
 |lookup ty x k ok =>
  obtain⟨a,v,i,_,m,l⟩:=bK e (ho x (by simp[Op.operands]));obtain⟨c,w',j,_,z,J⟩:=bK i (ho k (by simp[Op.operands]));simp only[dj,m,z]at h ⊢;unfold ip at j;split at j
  .rename_i td el I;obtain⟨kt,q,_,_,hsk⟩:=pA I;split at j
   .obtain⟨_,j⟩:=aN j;exact(QJ hc j).elim
   .simp only[RD]at l;subst l;simp only[ku,q,AX,cC]at h ⊢;exact gO h
   .cases j
  .cases j
 |call c =>
  simp only[lX]at e;obtain⟨ds,vs,i,m,l⟩:=km e (λx K=>ho x (by simp[Op.operands,Call.operands]at K ⊢;exact .inr K));simp only[dj,m,iI]at h ⊢;split at i
  .rename_i bi n;rw[n]at h ⊢;simp only[aL,n]at hk;simp only at h ⊢;cases bi<;>first|(simp at hk;done)|skip
   case len =>
    simp only[oh]at i;simp only[jq]at h ⊢;split at i
    .rename_i a Q;split at i
     .simp only[RL]at l;obtain⟨v,vs',rfl,R,rfl⟩:=l;rw[Q]at h ⊢;simp only at h ⊢;have U:jz E.E.P a g.s v=jz E.E.P a g'.s v:=by
       unfold jz;split<;>first|rfl|skip
       rename_i r _ q;exfalso;unfold aS at i;rw[q]at i;simp only at i;have W:=R.tag;split at i
       .grind [QJ]
       .cases W
       .cases i
      rw[<- U];exact gO h
     .cases i
    .cases i
   case max=>exact gO h
   case min=>exact gO h
   case cap=>cases i
  .rename_i f n;simp[aL,n]at hk
  .cases i
 |pick c x y =>
  simp only[dj,nX]at h ⊢;split at h
  .exact gO h
  .cases h
 |_=>first|(cases e;done)|(simp[aL]at hk;done)|(simp only[dj]at h ⊢;exact gO h)
end
section
variable[fZ]
variable{b:Nat}{P0:List Nat}{g:Gh}{LO:List Nat}{t:T LD}{L:LS}{tv:T V}{out:jg}{E:dg}{an:iL}
def iu(g:Gh):List fX->List Gm->Prop
 |[],c=>c=[]
 |x::r,c=>∃ y a,c=y::a/\RD g x.v y.v/\x.recovered=y.recovered/\iu g r a
def Ph(g:Gh):fg->Md->Prop
 |.run,m=>m=.run
 |.returning,m=>m=.returning
 |.panicking c,m=>∃ a,m=.panicking a/\iu g c a
 |.round _,_=>False
def OT(g:Gh):Option fg->Option Md->Prop
 |none,u=>u=none
 |some m,u=>∃ a,u=some a/\Ph g m a
def sx(g:Gh):Option fg->Option Md->Option Nat->Prop
 |some (.round o),u,r=>u=none/\∃ l v,r=some l/\g.O[o]? = some (some (l,v))
 |up,u,r=>r=none/\OT g up u
def Nw(up:Option fg):Prop:=∀ o,up≠some (.round o)
theorem sx.nr{g:Gh}{up:Option fg}{u:Option Md}{r:Option Nat}(a:Nw up)(h:sx g up u r):r=none/\OT g up u:=by
 unfold sx at h;split at h
 .exact(a _ rfl).elim
 .exact h
theorem sx.mk{g:Gh}{up:Option fg}{u:Option Md}(a:Nw up)(h:OT g up u):sx g up u none:=by
 unfold sx;split
 .exact(a _ rfl).elim
 grind
theorem nF{up:Option fg}{r:ai}{out:jg}(h:notRnd up r=some out):Nw up/\r=some out:=by
 unfold notRnd at h;split at h
 .cases h
 .rename_i a;exact⟨λo e=>a o e,h⟩
def Je(g:Gh):List sv->List eO->Prop
 |[],c=>c=[]
 |.coll o::r,c=>∃ d v h,c=.collected d::h/\g.O[o]? = some (some (d,v))/\Je g r h
 |.call x::r,c=>∃ ca a h,c=.call (.func x.fn) ca a::h/\RL g x.captured ca/\RL g x.args a/\Je g r h
def abb(g:Gh):CB->End->Prop
 |.ret d,e=>∃ v,e=.returned v/\RD g d v
 |.pan c,e=>∃ a,e=.panicked a/\iu g c a
theorem iu.mono{g g':Gh}(h:oM g g'):∀ {c:List fX} {a:List Gm},iu g c a->iu g' c a
 |[],_,r=>r
 |x::l,_,r=>by obtain⟨y,a,d,i,j,k⟩:=r;exact⟨y,a,d,i.mono h,j,iu.mono h k⟩
theorem Ph.mono{g g':Gh}(h:oM g g'){m:fg}{a:Md}(r:Ph g m a):Ph g' m a:=by
 cases m with
 |run=>exact r
 |returning=>exact r
 |panicking c=>obtain⟨d,i,j⟩:=r;exact⟨d,i,j.mono h⟩
 |round _=>exact r
theorem OT.mono{g g':Gh}(h:oM g g'){m:Option fg}{a:Option Md}(r:OT g m a):OT g' m a:=by
 cases m with
 |none=>exact r
 |some m=>obtain⟨c,d,i⟩:=r;exact⟨c,d,i.mono h⟩
theorem sx.mono{g g':Gh}(h:oM g g'){m:Option fg}{u:Option Md}{q:Option Nat}(r:sx g m u q):sx g' m u q:=by
 unfold sx at r ⊢;split at r
 .obtain⟨h1,l,v,h2,a⟩:=r;obtain⟨v',h4⟩:=h.o1 _ l v a
  grind
 .exact⟨r.1,r.2.mono h⟩
theorem Je.mono{g g':Gh}(h:oM g g'):∀ {c:List sv} {i:List eO},Je g c i->Je g' c i
 |[],_,r=>r
 |.coll o::l,_,r=>by obtain⟨d,v,i,j,k,m⟩:=r;obtain⟨v',n⟩:=h.o1 o d v k;exact⟨d,v',i,j,n,Je.mono h m⟩
 |.call x::l,_,r=>by obtain⟨ca,a,i,j,k,m,n⟩:=r;exact⟨ca,a,i,j,k.mono h,m.mono h,Je.mono h n⟩
def jK(b:Nat)(P0:List Nat)(g:Gh)(out:jg)(vout:ft):Prop:=∃ g',g'.H=out.H/\g'.s=vout.s/\g'.Pv=P0/\Ok g'/\Mv b g g'/\abb g' out.e vout.e/\OT g' out.up vout.up
structure KX(E:dI)(rec:qU):Prop where
 c:∀ f args up H out,rec f args up H=some out->∀ g:Gh,g.H=H->Ok g->∀ vs upv,RL g args vs->OT g up upv->∃ vout,lim E (.call f vs upv) g.s=some vout/\jK g.s.next g.Pv g out vout
 r:∀ o args H out,rec 0 args (some (.round o)) H=some out->∀ g:Gh,g.H=H->Ok g->∀ vs l v,RL g args vs->g.O[o]? = some (some (l,v))->∃ vout,lim E (.round l vs) g.s=some vout/\jK g.s.next g.Pv g out vout
def nw(t:T LD)(d:Option Tmp)(x:LD):T LD:=match d with
 |some i=>T.set (some x) (eX i) t
 |none=>t
theorem cU(t:T LD)(d:Option Tmp)(x:LD)(κ:T LD->ai):kW t d x κ=κ (nw t d x):=by
 cases d with
 |none=>rfl
 |some i=>exact T.setQ_eq _ _ _ _
theorem Cy.put(h:Cy g LO t tv)(d:Option Tmp){x:LD}{v:V}(r:RS g LO x v):Cy g LO (nw t d x) (putD tv d v):=by
 cases d with
 |none=>exact h
 |some i =>
  intro j y hy;simp only[nw]at hy;rw[T.get_setN]at hy;rw[HB];split at hy
  .grind
  .rename_i e;rw[afp e];exact h j y hy
theorem FI.put(h:FI b P0 g t L tv LO)(d:Option Tmp){x:LD}{v:V}(r:RS g LO x v):FI b P0 g (nw t d x) L (putD tv d v) LO:=⟨h.ok,h.slots.put d r,h.own,h.pv,h.low,h.nd,h.bl⟩
theorem RS.u:RS g LO .u V.undef:=rfl
theorem yx{ops:Array Oper}{o:Oper}{kT kF:T LD->ai}(e:yy ops t o kT kF=some out)(h:Cy g LO t tv) :
 (bT ops tv o=some true/\∃ t',kT t'=some out/\Rf t t' tv)\/(bT ops tv o=some false/\∃ t',kF t'=some out/\Rf t t' tv):=by
 unfold yy at e;unfold bT;split at e
 .rename_i l;rw[l];exact .inl ⟨rfl,t,e,.refl t tv⟩
 .rename_i j want l;rw[l];simp only;split at e
  .rename_i i hi;rw[hi];simp only;split at e
   .rename_i d m;obtain⟨v,c,k⟩:=h i _ m;have k:RD g d v:=k;split at e
    .obtain⟨q,rfl,a⟩:=FX e k;clear e;rw[c];cases q with
     |true=>rw[ge,T.setQ_eq]at a;exact .inl ⟨rfl,_,a,yU c⟩
     |false=>rw[SE,T.setQ_eq]at a;exact .inr ⟨rfl,_,a,yU c⟩
    .obtain⟨q,rfl,a⟩:=FX e k;clear e;rw[c];cases q with
     |true=>rw[ge,T.setQ_eq]at a;exact .inr ⟨rfl,_,a,yU c⟩
     |false=>rw[SE,T.setQ_eq]at a;exact .inl ⟨rfl,_,a,yU c⟩
   .rename_i m;obtain⟨v,c,k⟩:=h i _ m;have k:v=V.undef:=k;subst k;rw[c];exact .inr ⟨rfl,t,e,.refl t tv⟩
   .cases e
  .cases e
theorem Hz(h:FI b P0 g t L tv LO){k:Hk}{d:D}{κ:D->DH->ai}(e:iW k d g.H κ=some out){v:V}(r:RD g d v) :
 ∃ m g',κ m g'.H=some out/\g'.s=g.s/\FI b P0 g' t L tv LO/\Mv b g g'/\RD g' m v/\(v.one=true):=by
 unfold iW at e;split at e
 .rename_i sz;split at e
  .rename_i s' o n;obtain⟨sz',st,cap,l,p,hc,i,w⟩:=lI e (fW.refl g);clear e;obtain⟨hb,e⟩:=dE p;clear p;have hb:=aaO hb;subst hb;have c:=r.one (λq=>by cases q) (λq=>by cases q);simp only[RD]at r;have j:sz'=s':=by
    rcases r with⟨⟨_,_,_,u⟩,_⟩|⟨st',cap',l',j1,_⟩
    .rw[i]at u;cases u
    grind
   subst j;exact⟨_,g.frz o sz' cap l,e,rfl,h.frz i,JP i,Fh h.ok i w r,c⟩
  .have c:=r.one (λq=>by cases q) (λq=>by cases q);simp only[RD]at r;refine⟨_,g,e,rfl,h,.refl b g,?_,c⟩;simp only[RD];rcases r with rfl|⟨a,z,sz',rfl⟩
   .exact .inl ⟨trivial,rfl⟩
   .exact .inr (.inl ⟨trivial,a,z,sz',rfl⟩)
  .exact⟨_,g,e,rfl,h,.refl b g,r,r.one (λq=>by cases q) (λq=>by cases q)⟩
  .cases e
 .rename_i sz;split at e
  .obtain⟨y,e⟩:=aN e;have c:=r.one (λq=>by cases q) (λq=>by cases q);simp only[RD]at r;refine⟨_,g.acc sz false,e,rfl,h.acc (abh y) false,JR h.ok sz false,?_,c⟩;simp only[RD];exact .inr ⟨true,false,[],iX,aaW _,.inl ⟨rfl,r⟩⟩
  .exact⟨_,g,e,rfl,h,.refl b g,r,r.one (λq=>by cases q) (λq=>by cases q)⟩
  .cases e
theorem lP{α:Type}{l:List α}{i:Nat}{x:α}(h:l[i]? = some x):l.set i x=l:=by
 apply ajl
 grind
theorem Af(h:FI b P0 g t L tv LO){k:Hk}{c:Nat}{d:D}{κ:D->DH->ai}(e:fH k c d g.H κ=some out){v:V}(r:RD g d v) :
 ∃ a g',κ a g'.H=some out/\g'.s=g.s/\FI b P0 g' t L tv LO/\Mv b g g'/\RD g' a v:=by
 unfold fH at e;split at e
 .simp only[RD]at r;obtain⟨vs,rfl,p,q⟩:=r;obtain⟨x,u,e⟩:=jH e;obtain⟨w,z,A⟩:=p.at u;obtain⟨y,g',j,l,m,i,n,_⟩:=Hz h e A;refine⟨_,g',j,l,m,i,?_⟩;simp only[RD];have:=(p.mono i.le).set c n;rw[lP z]at this;exact⟨vs,rfl,this,q⟩
 .obtain⟨_,e⟩:=aN e;obtain⟨a,g',j,l,m,i,n,_⟩:=Hz h e r;exact⟨a,g',j,l,m,i,n⟩
theorem Dr:∀ {l:List (Nat×Hk)} {g:Gh} {d:D} {κ:D->DH->ai} {v:V},FI b P0 g t L tv LO->Ae l d g.H κ=some out->RD g d v->∃ a g',κ a g'.H=some out/\g'.s=g.s/\FI b P0 g' t L tv LO/\Mv b g g'/\RD g' a v
 |[],g,d,κ,v,h,e,r=>⟨d,g,e,rfl,h,.refl b g,r⟩
 |(c,k)::l,g,d,κ,v,h,e,r=>by simp only[Ae]at e;obtain⟨a,g',i,j,m,n,p⟩:=Af h e r;obtain⟨q,u,w,y,z,A,F⟩:=Dr m i p;exact⟨q,u,w,y.trans j,z,n.trans A,F⟩
theorem fp(h:FI b P0 g t L tv LO){dst:Option Tmp}{x:LD}{κ:LD->DH->ai}(e:tM an.hooks dst x g.H κ=some out){v:V}(r:RS g LO x v) :
 ∃ a g',κ a g'.H=some out/\g'.s=g.s/\FI b P0 g' t L tv LO/\Mv b g g'/\RS g' LO a v/\(vi an dst=false->g'=g/\a=x):=by
 have same:κ x g.H=some out->∃ a g',κ a g'.H=some out/\g'.s=g.s/\FI b P0 g' t L tv LO/\Mv b g g'/\RS g' LO a v/\(vi an dst=false->g'=g/\a=x):=λe=>⟨x,g,e,rfl,h,.refl b g,r,λ_=>⟨rfl,rfl⟩⟩;unfold tM at e;split at e
 .exact same e
 .rename_i hl;split at e
  .exact same e
  .rename_i i;split at e
   .exact same e
   .rename_i l hk;split at e
    .obtain⟨d',g',c,d,j,k,m⟩:=Dr h e r;refine⟨_,g',c,d,j,k,m,λq=>?_⟩;unfold vi at q;rw[hl]at q hk;simp only[hk]at q;cases q
    .cases e
theorem mE(h:FI b P0 g t L tv LO){vout:ft}{o:jg}(r:jK g.s.next g.Pv g o vout):∃ g',g'.H=o.H/\g'.s=vout.s/\FI b P0 g' t L tv LO/\Mv b g g'/\abb g' o.e vout.e/\OT g' o.up vout.up/\Gk g L LO g' L LO:=by obtain⟨g',d,i,j,k,c,l,m⟩:=r;exact⟨g',d,i,h.to k (c.down h.bl) j λf a=>c.out f (h.lo_lt a) (λo v=>h.lo_out a o v),c.down h.bl,l,m,aiY,Pf.of λf a=>c.out f (h.lo_lt a) (λo v=>h.lo_out a o v)⟩
def RgR(b:Nat)(P0:List Nat)(g:Gh)(rdv:Option Nat)(k:IU)(kp:List fX->IU)(out:jg):kO->Prop
 |.on tv' dsv' upv' s'=>∃ g' t' L' LO' ds' up',k t' L' ds' up' g'.H=some out/\g'.s=s'/\FI b P0 g' t' L' tv' LO'/\Mv b g g'/\Je g' ds' dsv'/\sx g' up' upv' rdv
 |.panicked c tv' dsv' upv' s'=>∃ g' t' L' LO' ds' up' a,kp a t' L' ds' up' g'.H=some out/\g'.s=s'/\FI b P0 g' t' L' tv' LO'/\Mv b g g'/\Je g' ds' dsv'/\sx g' up' upv' rdv/\iu g' a c
theorem RgR.trans{g':Gh}(m:Mv b g g'){rdv:Option Nat}{k:IU}{kp:List fX->IU}{r:kO}(h:RgR b P0 g' rdv k kp out r):RgR b P0 g rdv k kp out r:=by
 cases r with
 |on tv' dsv' upv' s' =>obtain⟨a,t',L',LO',ds',up',d,i,j,l,n⟩:=h;exact⟨a,t',L',LO',ds',up',d,i,j,m.trans l,n⟩
 |panicked c tv' dsv' upv' s' =>obtain⟨a,t',L',LO',ds',up',p,d,i,j,l,n⟩:=h;exact⟨a,t',L',LO',ds',up',p,d,i,j,m.trans l,n⟩
variable{rec:qU}
theorem mF{x:ai}{kr:D->DH->ai}{kp:List fX->DH->ai}(h:aU x kr kp=some out):∃ o,x=some o/\((∃ d,o.e=.ret d/\kr d o.H=some out)\/(∃ c,o.e=.pan c/\kp c o.H=some out)):=by
 unfold aU at h
 grind
theorem Ca{d:Option Tmp}{ds:List sv}{H:DH}{k:IU}{up:Option fg}{upv:Option Md}{rdv:Option Nat}(e:mZ d t L ds H k up=some out)(h:sx g up upv rdv) :
 ∃ x up' v upv',k (nw t d x) L ds up' H=some out/\RS g LO x v/\sx g up' upv' rdv/\∀(tv:T V) (dsv:List eO) (s:S) (kv:RK),recovered d tv dsv s kv upv=kv (putD tv d v) dsv upv' s:=by
 unfold mZ at e;split at e
 .cases e
 .rename_i v older;have l:=h.nr (λo q=>by cases q);clear h;obtain⟨rfl,h⟩:=l;obtain⟨j,rfl,u,rfl,y,c2,rfl,a,i,p⟩:=h;obtain⟨yv,yr⟩:=y;simp only at a i;subst i;rw[cU]at e;exact⟨.g v,_,yv,some (.panicking (⟨yv,true⟩::c2)),e,a,sx.mk (λo q=>by cases q) ⟨_,rfl,_,rfl,⟨yv,true⟩,c2,rfl,a,rfl,p⟩,λtv dsv s kv=>by simp only[recovered,cI]⟩
 .rename_i m n hne;have r:Nw (some m):=λo q=>n o (agn q);have l:=h.nr r;clear h;obtain⟨rfl,h⟩:=l;obtain⟨j,rfl,a⟩:=h;rw[cU]at e;refine⟨.g .nilIface,some m,.nilIface,some j,e,by show RD _ _ _;simp only[RD],sx.mk r ⟨j,rfl,a⟩,λtv dsv s kv=>?_⟩;have:∀ v older,j≠.panicking (⟨v,false⟩::older):=λv older q=>by
   subst q;cases m with
   |run=>cases a
   |returning=>cases a
   |round o=>exact a
   |panicking c =>
    obtain⟨u,w,i⟩:=a;cases w;cases c with
    |nil=>cases i
    |cons x xs =>obtain⟨y,c2,z,p,k4,k5⟩:=i;cases z;obtain⟨xv,xr⟩:=x;simp_all
  unfold recovered;split
  .rename_i q;exact(this _ _ (agn q)).elim
  .rename_i q;cases q;simp only[cI]
  .rename_i q;cases q
 .cases e
theorem fD{rdv:Option Nat}(i:KX E.E rec){ops:Array Oper}{k:IU}{kp:List fX->IU}:∀ {l:List Oper} {t:T LD} {L:LS} {ds:List sv} {up:Option fg} {g:Gh} {LO:List Nat} {tv:T V} {dsv:List eO} {upv:Option Md},
 qk E an ops rec l k kp t L ds up g.H=some out->FI b P0 g t L tv LO->Je g ds dsv->sx g up upv rdv ->
 ∃ r,rJ E.E ops (bO (lim E.E)) (eB (lim E.E)) rdv l tv dsv upv g.s=some r/\RgR b P0 g rdv k kp out r
 |[],t,L,ds,up,g,LO,tv,dsv,upv,e,h,p,m=>⟨_,rfl,g,t,L,LO,ds,up,e,rfl,h,.refl b g,p,m⟩
 |o::l,t,L,ds,up,g,LO,tv,dsv,upv,e,h,p,m=>by
  simp only[qk]at e;simp only[rJ];rcases yx e h.slots with⟨W,t1,e,hr⟩|⟨W,t1,e,hr⟩
  .have h:=h.rf hr;rw[W];obtain⟨O,x,nx,e,h1,G,I⟩:=EJ o.op h e;have h:=h.rf G;simp only[rO,dC,h1];cases x with
   |val d L' H' =>
    obtain⟨v,s',rfl,g',LO',n,Q,A,J,k5,k6⟩:=I;have A:=FI.rf A (t':=O) G;simp only[JJ,<- n]at e;obtain⟨x',g2,F,j2,R,q,U,_⟩:=fp A e k6;rw[cU]at F;obtain⟨r,N,z⟩:=fD i F (R.put o.dst U) ((p.mono J.le).mono q.le) ((m.mono J.le).mono q.le);refine⟨r,?_,z.trans (J.trans q)⟩
    grind [eg,cI]
   |skip L' H' =>
    obtain⟨s',rfl,g',LO',n,Q,A,J,k5,_⟩:=I;have A:=FI.rf A (t':=O) G;simp only[JJ,<- n,cU]at e;obtain⟨r,N,z⟩:=fD i e (A.put o.dst RS.u) (p.mono J.le) (m.mono J.le);refine⟨r,?_,z.trans J⟩
    grind [eg,cI]
   |enter f args L' H' =>
    obtain⟨vs,rfl,rfl,rfl,n,_⟩:=I;simp only[JJ]at e;obtain⟨oc,K,e⟩:=mF e;obtain⟨vout,X,Y⟩:=i.c f args none g.H oc K g rfl h.ok vs none n rfl;obtain⟨g',n1,n2,n3,n4,y,_⟩:=mE h Y;obtain⟨ve,vu,vs'⟩:=vout;simp only at n2 y;rcases e with⟨d,j,e⟩|⟨c,j,e⟩
    .rw[j]at y;obtain⟨v,rfl,M⟩:=y;rw[<- n1]at e;obtain⟨x',g2,F,j2,R,q,U,_⟩:=fp (x:=.g d) n3 e M;rw[cU]at F;obtain⟨r,N,z⟩:=fD i F (R.put o.dst U) ((p.mono n4.le).mono q.le) ((m.mono n4.le).mono q.le);refine⟨r,?_,z.trans (n4.trans q)⟩
     grind [eg,bO,fS,cI]
    .rw[j]at y;obtain⟨Z,rfl,M⟩:=y;rw[<- n1]at e;refine⟨.panicked Z tv dsv upv vs',by simp only[eg,bO,X,fS],?_⟩;exact⟨g',O,L',LO,ds,up,c,e,n2,n3,n4,p.mono n4.le,m.mono n4.le,M⟩
   |round or args L' H' =>
    obtain⟨vs,lb,lv,rfl,rfl,rfl,n,ko⟩:=I;simp only[JJ]at e;obtain⟨oc,K,e⟩:=mF e;obtain⟨vout,X,Y⟩:=i.r or args g.H oc K g rfl h.ok vs lb lv n ko;obtain⟨g',n1,n2,n3,n4,y,_⟩:=mE h Y;obtain⟨ve,vu,vs'⟩:=vout;simp only at n2 y;rcases e with⟨d,j,e⟩|⟨c,j,e⟩
    .rw[j]at y;obtain⟨v,rfl,M⟩:=y;rw[<- n1]at e;obtain⟨x',g2,F,j2,R,q,U,_⟩:=fp (x:=.g d) n3 e M;rw[cU]at F;obtain⟨r,N,z⟩:=fD i F (R.put o.dst U) ((p.mono n4.le).mono q.le) ((m.mono n4.le).mono q.le);refine⟨r,?_,z.trans (n4.trans q)⟩
     grind [eg,eB,fS,cI]
    .rw[j]at y;obtain⟨Z,rfl,M⟩:=y;rw[<- n1]at e;refine⟨.panicked Z tv dsv upv vs',by simp only[eg,eB,X,fS],?_⟩;exact⟨g',O,L',LO,ds,up,c,e,n2,n3,n4,p.mono n4.le,m.mono n4.le,M⟩
   |defer df L' H' =>
    obtain⟨c,a,rfl,rfl,rfl,n,Q,_⟩:=I;simp only[JJ,cU]at e;obtain⟨hn,e⟩:=nF e;obtain⟨rfl,_⟩:=m.nr hn;obtain⟨r,N,z⟩:=fD i e (h.put o.dst RS.u) (dsv:=.call (.func df.fn) c a::dsv) ⟨c,a,dsv,rfl,n,Q,p⟩ m
    grind [eg,Option.isSome_none,cI]
   |recover L' H' =>
    obtain⟨rfl,rfl,rfl⟩:=I;simp only[JJ]at e;obtain⟨x,up',v,upv',e,n,Q,A⟩:=Ca (LO:=LO) e m;obtain⟨r,N,z⟩:=fD i e (h.put o.dst n) p Q
    grind [only,eg]
   |panic v L' H' =>obtain⟨w,rfl,rfl,rfl,n⟩:=I;simp only[JJ]at e;exact⟨_,rfl,g,O,L',LO,ds,up,_,e,rfl,h,.refl b g,p,m,⟨w,false⟩,[],rfl,n,rfl,rfl⟩
  .have h:=h.rf hr;rw[W];rw[cU]at e;obtain⟨r,N,z⟩:=fD i e (h.put o.dst RS.u) p m
   grind [only,rO,cI]
end
section
variable[fZ]
variable{b:Nat}{P0:List Nat}{g:Gh}{LO:List Nat}{t:T LD}{L:LS}{tv:T V}{out:jg}{E:dg}{an:iL}
structure gc where
 L:LS
 g:Gh
 LO:List Nat
def Ld(c:gc):Prop:=Ok c.g/\LR c.g c.L c.LO
def wV(b:Nat)(x y:gc):Prop:=Mv b x.g y.g/\Gk x.g x.L x.LO y.g y.L y.LO
theorem wV.refl(b:Nat)(x:gc):wV b x x:=⟨.refl b _,.refl _ _ _⟩
theorem wV.trans{x y z:gc}(h:wV b x y)(k:wV b y z):wV b x z:=⟨h.1.trans k.1,h.2.trans k.2⟩
def kI(b:Nat)(cur:gc):List gc->Prop
 |[]=>True
 |c::r=>Ld c/\wV b c cur/\kI b c r
theorem kI.step{x y:gc}(h:wV b x y):∀ {l:List gc},kI b x l->kI b y l
 |[],_=>trivial
 |c::r,k=>⟨k.1,k.2.1.trans h,k.2.2⟩
theorem kI.at:∀ {l:List gc} {x:gc},kI b x l->∀ {p:Nat} {c:gc},l[p]? = some c->Ld c/\wV b c x
 |[],x,_,p,c,h=>by simp at h
 |d::r,x,k,0,c,h=>by simp at h;subst h;exact⟨k.1,k.2.1⟩
 |d::r,x,k,p+1,c,h=>by obtain⟨a,i⟩:=kI.at k.2.2 (p:=p) (by simpa using h);exact⟨a,i.trans k.2.1⟩
theorem kI.two:∀ {l:List gc} {x:gc},kI b x l->∀ {p q:Nat} {c d:gc},l[p]? = some c->l[q]? = some d->p<=q->wV b d c
 |[],x,_,p,q,c,d,h,_,_=>by simp at h
 |e::r,x,k,0,0,c,d,h,a,_=>by
  have h:e=c:=by simpa using h
  have a:e=d:=by simpa using a
  subst h;subst a;exact .refl b _
 |e::r,x,k,0,q+1,c,d,h,a,_=>by
  have h:e=c:=by simpa using h
  subst h;exact(kI.at k.2.2 (p:=q) (by simpa using a)).2
 |e::r,x,k,p+1,0,c,d,h,a,i=>by omega
 |e::r,x,k,p+1,q+1,c,d,h,a,i=>kI.two k.2.2 (p:=p) (q:=q) (by simpa using h) (by simpa using a) (by omega)
theorem RS.nxt{x y:gc}(h:wV b x y){d:LD}{v:V}(r:RS x.g x.LO d v):RS y.g y.LO d v:=(r.mono h.1.le).ext h.2.pre
def SlQ(cs:List gc)(bs:T Nat)(g:Gh)(LO:List Nat)(i:Nat)(x:LD)(v:V):Prop:=RS g LO x v/\∀(p:Nat) c,cs[p]? = some c->vH bs i+p<cs.length->RS c.g c.LO x v
def us(cs:List gc)(bs:T Nat)(t:T LD)(tv:T V)(g:Gh)(LO:List Nat):Prop:=∀ i x,t.get (eX i)=some x->∃ v,tv.get (eX i)=some v/\SlQ cs bs g LO i x v
theorem us.rf{cs:List gc}{bs:T Nat}{t':T LD}(r:Rf t t' tv)(h:us cs bs t tv g LO):us cs bs t' tv g LO:=r (SlQ cs bs g LO) (λi q=>⟨by show RD _ _ _;simp only[RD],λp c _ _=>by show RD _ _ _;simp only[RD]⟩) h
theorem us.nxt{cs:List gc}{bs:T Nat}{x y:gc}(h:wV b x y)(k:us cs bs t tv x.g x.LO):us cs bs t tv y.g y.LO:=λi z a=>by obtain⟨v,c,d,j⟩:=k i z a;exact⟨v,c,d.nxt h,j⟩
def CQ(bs:T Nat)(d:Option Tmp)(n:Nat):T Nat:=match d with
 |some i=>T.set (some n) (eX i) bs
 |none=>bs
theorem fP{β:Type}(bs:T Nat)(d:Option Tmp)(n:Nat)(κ:T Nat->β):Qq bs d n κ=κ (CQ bs d n):=by
 cases d with
 |none=>rfl
 |some i=>exact T.setQ_eq _ _ _ _
theorem us.put{cs:List gc}{bs:T Nat}(h:us cs bs t tv g LO)(d:Option Tmp){x:LD}{v:V}{n:Nat}(r:RS g LO x v)(hb:∀(p:Nat) c,cs[p]? = some c->n+p<cs.length->RS c.g c.LO x v):us cs (CQ bs d n) (nw t d x) (putD tv d v) g LO:=by
 cases d with
 |none=>exact h
 |some i =>
  intro j y hy;simp only[nw]at hy;rw[T.get_setN]at hy;rw[HB];split at hy
  .rename_i e;cases hy;subst e;rw[agC rfl];refine⟨v,rfl,r,λp c hc hp=>hb p c hc ?_⟩
   grind [only,vH,CQ,T.get_set_same]
  .rename_i e;rw[afp e];obtain⟨w,a,k,l⟩:=h j y hy;refine⟨w,a,k,λp c hc hp=>l p c hc ?_⟩
   grind [only,vH,CQ,T.get_setN]
theorem us.push{cs:List gc}{bs:T Nat}{c:gc}(h:us cs bs t tv c.g c.LO):us (c::cs) bs t tv c.g c.LO:=λi x a=>by
 obtain⟨v,j,k,h3⟩:=h i x a;refine⟨v,j,k,λp d hd hp=>?_⟩
 grind
theorem Bw{bs:T Nat}:∀ {l:List Tmp} {i:Tmp},i∈l->vH bs i<=gp bs l
 |j::r,i,h=>by
  simp only[gp];rcases abn.1 h with rfl|h
  .grind
  .exact acd (Bw h) (Nat.le_max_right _ _)
theorem us.op{cs:List gc}{bs:T Nat}(h:us cs bs t tv g LO){o:Oper}{x:Operand}(a:x∈o.op.operands.toList){p:Nat}{c:gc}(hc:cs[p]? = some c)(hb:gp bs (sees o)+p<cs.length):DY c.g c.LO t tv x:=by
 intro y hy;cases x with
 |tmp i =>obtain⟨v,j,h2,l⟩:=h i y hy;refine⟨v,j,l p c hc ?_⟩;have:vH bs i<=gp bs (sees o):=Bw (by unfold sees;rw[List.mem_filterMap];exact⟨_,a,rfl⟩);omega
 |const k =>
  simp only[iF]at hy;split at hy
  .rename_i v m;split at hy
   .rename_i d n;cases hy;exact⟨v,m,Su n⟩
   .cases hy
  .cases hy
 |global _=>cases hy
 |func f=>cases hy;exact⟨_,rfl,by show RD _ _ _;simp only[RD];exact⟨[],[],rfl,by simp only[RL],by simp only[RL]⟩⟩
theorem ET:∀ {L M:LS} {k st:Nat} {cs:List D},(fL.meet L M)[k]? = some (st,cs)->∃ cs0,L[k]? = some (st,cs0)/\(cs=[]\/(cs=cs0/\∃ c2,M[k]? = some (st,c2)))
 |[],M,k,st,cs,h=>by simp[fL.meet]at h
 |(a,c)::l,[],0,st,cs,h=>by
  simp[fL.meet]at h
  grind
 |(a,c)::l,[],k+1,st,cs,h=>by
  simp only[fL.meet,aiP]at h;obtain⟨cs0,h1,h2⟩:=ET h
  grind
 |(a,c)::l,(b,c1)::m,0,st,cs,h=>by
  simp only[fL.meet]at h;cases hb:Nat.beq a b with
  |true =>simp_all
  |false =>grind
 |(a,c)::l,(b,c1)::m,k+1,st,cs,h=>by
  have h':(fL.meet l m)[k]? = some (st,cs):=by
   simp only[fL.meet]at h
   grind
  simp_all[ET]
theorem vB:∀ {r:List (LS×DH)} {L:LS} {k st:Nat} {cs:List D},(fL L r)[k]? = some (st,cs)->∃ cs0,L[k]? = some (st,cs0)/\(cs=[]\/(cs=cs0/\∀ M∈r,∃ c2,M.1[k]? = some (st,c2)))
 |[],L,k,st,cs,h=>⟨cs,h,.inr ⟨rfl,λM a=>by cases a⟩⟩
 |(M,H)::r,L,k,st,cs,h=>by
  simp only[fL]at h;obtain⟨Tq,c,h2⟩:=vB h;obtain⟨cs0,h3,h4⟩:=ET c
  grind
theorem FQ{r:List DH}:∀ {H:DH} {i o:Nat},(Ow r i H)[o]? =(H[o]?).map (Hq r (i+o))
 |[],i,o=>by simp[Ow]
 |b::t,i,0=>by simp[Ow]
 |b::t,i,o+1=>by simp only[Ow,aiP];rw[FQ,show i+1+o=i+(o+1)by omega]
theorem KL{H:DH}{r:List DH}{o:Nat}{x:DB}(h:(cK H r)[o]? = some x):x=.dead\/∃ st cs,x=.cells st cs/\H[o]? = some (.cells st cs)/\∀ a∈r,a[o]? = some (.cells st cs):=by
 rw[cK,FQ,adO]at h;cases hb:H[o]? with
 |none=>rw[hb]at h;cases h
 |some b =>
  rw[hb]at h;have h:Hq r o b=x:=by simpa using h
  subst h;cases b with
  |cells st cs =>grind [Hq]
  |_=>exact .inl rfl
mutual
theorem pQ:∀ v:V,bq.sameV v v=true
 |.bool b=>by simp[bq.sameV]
 |.int k n=>by simp[bq.sameV]
 |.str l=>by simp[bq.sameV]
 |.ptr a=>by simp[bq.sameV]
 |.nilptr=>rfl
 |.slice a z n c sz=>by simp[bq.sameV]
 |.nilslice=>rfl
 |.map r=>by simp[bq.sameV]
 |.nilmap=>rfl
 |.func f a b=>by simp[bq.sameV,gY a,gY b]
 |.nilFunc=>rfl
 |.iface t v=>by simp[bq.sameV,pQ v]
 |.nilIface=>rfl
 |.agg l=>by simp[bq.sameV,gY l]
 |.tuple l=>by simp[bq.sameV,gY l]
 |.atom i=>by simp[bq.sameV]
theorem gY:∀ l:List V,bq l l=true
 |[]=>rfl
 |v::r=>by simp[bq,pQ v,gY r]
end
theorem ph{E:dI}{o:Oper}{v:V}:∀ {l:List S},l≠[]->(∀ s∈l,dj o.op E tv s=some (.val v s))->gL E tv o l=some v
 |[],h,_=>(h rfl).elim
 |[s],_,h=>by simp only[gL,dC,h s aeq]
 |s::s2::r,_,h=>by
  have h2:=ph (l:=s2::r) (by simp) λx a=>h x (abi _ a)
  grind [gL,dC,List.mem_cons_self,bq,pQ,Bool.and_self]
theorem RS.same_at{cs:List gc}{cur:gc}(a:kI b cur cs){x:LD}{v:V}{p:Nat}{c:gc}(hc:cs[p]? = some c)(r:RS c.g c.LO x v):RS cur.g cur.LO x v/\∀(q:Nat) d,cs[q]? = some d->q<=p->RS d.g d.LO x v :=
 ⟨r.nxt (a.at hc).2,λq d h i=>r.nxt (a.two h hc i)⟩
theorem cR{α:Type}{l:List α}{i:Nat}{x:α}(h:l[i]? = some x):i<l.length:=by grind
theorem Ko{cs:List gc}{bs:T Nat}{o:Oper}{κ:T LD->BS->ai}(hk:aL E.E.P o.op=0)(h:Ok g)(r:kI b ⟨L,g,LO⟩ cs)(u:us cs bs t tv g LO)(e:lX o.op E false t [] [] κ=some out) :
 ∃ t' d v,κ t' (.val d [] [])=some out/\dj o.op E.E tv g.s=some (.val v g.s)/\Rf t t' tv/\RS g LO d v/\∀(p:Nat) c,cs[p]? = some c->gp bs (sees o)+p<cs.length->RS c.g c.LO d v:=by
 by_cases hb:gp bs (sees o)<cs.length
 .have hp:cs.length - 1 - gp bs (sees o)<cs.length:=by omega
  have hc:=abg hp;generalize cs[cs.length - 1 - gp bs (sees o)]=c at hc;obtain⟨⟨w,_⟩,z⟩:=r.at hc;have ho:∀ x∈o.op.operands.toList,DY c.g c.LO t tv x:=λx a=>u.op a hc (by omega);obtain⟨t',d,v,j,l,m,n⟩:=qo (L:=[]) o.op (by omega) (.inr rfl) ho w (λk x f a=>by simp at a) (fW.nil _) e;have hst:=CU (L:=[]) (g':=g) o.op (by omega) ho w (λk x f a=>by simp at a) (fW.nil _) uu.nil e z.1.le (λk y f a=>by simp at a) (λo st cs f v a=>by simp at a) v l;obtain⟨A,F⟩:=m.same_at r hc;exact⟨t',d,v,j,hst,n,A,λp G q hp'=>F p G q (by omega)⟩
 .have ho:∀ x∈o.op.operands.toList,DY g LO t tv x:=λx _=>Cy.op (λi y hy=>by obtain⟨v,H,I,_⟩:=u i y hy;exact⟨v,H,I⟩) x;obtain⟨t',d,v,j,l,m,n⟩:=qo (L:=[]) o.op (by omega) (.inr rfl) ho h (λk x f a=>by simp at a) (fW.nil _) e;exact⟨t',d,v,j,l,n,m,λp c hc hp=>by omega⟩
theorem Rz{P:Program}{ty:TypeId}{x:LD}{H:DH}{r:List DH}{κ:D->ai}(h:rS P ty x L H r κ=some out):(∃ o n i c,x=.g (.bptr o n i c)/\JA P ty H r o n i c κ=some out)\/mj P ty x L (cK H r) κ=some out:=by
 unfold rS at h;split at h
 .unfold Kf at h;split at h
  .grind
  .exact .inr h
 grind
theorem Qk{op:Op}{E:dg}{H:DH}{r:List DH}{κ:T LD->LD->ai}(h:Ql op (λty x=>lD (iF t x) λx=>rS E.E.P ty x L H r λd=>κ t (.g d)) (lX op E false t L (cK H r) λt x=>rG (λt x _ _=>κ t x) t x)=some out) :
 (∃ ty x o n i c,op=.load ty x/\iF t x=some (.g (.bptr o n i c))/\JA E.E.P ty H r o n i c (λd=>κ t (.g d))=some out)\/lX op E false t L (cK H r) (λt x=>rG (λt x _ _=>κ t x) t x)=some out:=by
 unfold Ql at h;split at h
 .rename_i ty x;dsimp only at h;cases a:iF t x with
  |none=>rw[a]at h;cases h
  |some y =>
   rw[a]at h;simp only[lD]at h;rcases Rz h with⟨o,n,i,c,rfl,h⟩|h
   .exact .inl ⟨ty,x,o,n,i,c,rfl,a,h⟩
   .refine .inr ?_;simp only[lX,a,lD,rG];exact h
 .exact .inr h
theorem adN{g g':Gh}{d:D}{v v':V}(hl:oM g g')(a:Vp g.H d=true)(c:Vp g'.H d=true)(k:RD g d v)(l:RD g' d v'):v=v':=by
 cases d with
 |buf sz o n =>
  simp only[Vp]at a c;simp only[RD]at k l;rcases k with⟨⟨_,_,_,j⟩,_⟩|⟨s1,c1,l1,j,a2,a3⟩
  .rw[j]at a;cases a
  rcases l with⟨⟨_,_,_,h⟩,_⟩|⟨s2,c2,l2,h,b2,b3⟩
  .rw[h]at c;cases c
  rcases hl.buf o _ _ _ _ j with⟨_,_,_,i⟩|⟨s3,c3,l3,i,d2,d3,d4⟩
  .rw[h]at i;cases i
  rw[j]at a;rw[h]at c;rw[h]at i;cases i;simp only[aaV]at a c
  grind [Nat.eq_of_beq_eq_true,Nat.blt,Nat.le_of_ble_eq_true]
 |_=>simp[Vp]at a
theorem Qj{P:Program}{ty:TypeId}{H:DH}{r:List DH}{o n i c:Nat}{κ:D->ai}(h:JA P ty H r o n i c κ=some out):∃ d,κ d=some out/\Vp H d=true/\(∀ a∈r,Vp a d=true)/\(∀ κ':D->ai,bW P ty (.bptr o n i c) H κ'=κ' d)/\∀ a∈r,∀ κ':D->ai,bW P ty (.bptr o n i c) a κ'=κ' d:=by
 unfold JA dl at h;split at h
 .rename_i sz st cap l hx;cases j:Nat.beq n l.length with
  |false=>rw[j]at h;cases h
  |true =>
   rw[j]at h;simp only[ge]at h;unfold bZ at h;split at h
   .rename_i cs hcs;dsimp only at h;obtain⟨d,hd⟩:=eN _ _ h
    grind [List.mem_cons_self,List.mem_cons_of_mem,bW,dl,bZ]
   .cases h
 .cases h
def hD(c:gc):LS×DH:=(c.L,c.g.H)
theorem Kn{cs:List gc}{bs:T Nat}{o:Oper}{w:Nat}{κ:T LD->LD->ai}(hk:aL E.E.P o.op<=1)(I:∀ ty x lo hi mx,o.op≠.slice ty x lo hi mx)(z:kI b ⟨L,g,LO⟩ cs)(hs:us cs bs t tv g LO)(hw:w<=cs.length)(hb:gp bs (sees o)<=cs.length - w)(e:CO E o ((cs.map hD).take w) t κ=some out) :
 ∃ t' d v,κ t' d=some out/\gL E.E tv o ((cs.map λc=>c.g.s).take w)=some v/\Rf t t' tv/\RS g LO d v/\∀(p:Nat) c,cs[p]? = some c->cs.length - w+p<cs.length->RS c.g c.LO d v:=by
 cases cs with
 |nil=>cases w<;>simp[CO]at e
 |cons a rest =>
  cases w with
  |zero=>simp[CO]at e
  |succ w =>
   rw[acg,aiL]at e;simp only[CO]at e;cases w with
   |zero =>rw[List.take_zero]at e;simp only at e;have hc:(a::rest)[0]? = some a:=rfl;obtain⟨⟨N,K⟩,h3⟩:=z.at hc;have ho:∀ x∈o.op.operands.toList,DY a.g a.LO t tv x:=λx l=>hs.op l hc (by simp only[aeg]at hb ⊢;omega);obtain⟨t',d,v,A,r,M,k4⟩:=qo o.op hk (.inl I) ho N K.2 (fW.refl _) e;obtain⟨O,Q⟩:=M.same_at z hc;refine⟨t',d,v,A,?_,k4,O,λp R u U=>Q p R u (by omega)⟩;simp only[acg,aiL,List.take_zero,gL,dC,r]
   |succ w =>
    have W:w+1<(a::rest).length:=by simp only[aeg]at hw ⊢;omega
    cases rest with
    |nil=>simp at W
    |cons c1 rest =>
     rw[acg,aiL]at e;simp only[acg,ajS]at e;have hc:=abg W;generalize(a::c1::rest)[w+1]=c at hc;have hc0:(a::c1::rest)[0]? = some a:=rfl;obtain⟨⟨N,K⟩,h3⟩:=z.at hc;have ho:∀ x∈o.op.operands.toList,DY c.g c.LO t tv x:=λx l=>hs.op l hc (by simp only[aeg]at hb hw ⊢;omega);have inw:∀(q:Nat) d,(a::c1::rest)[q]? = some d->1<=q->q<=w+1->hD d∈hD c1::(rest.map hD).take w:=λq d h N K=>by
      cases q with
      |zero=>omega
      |succ q =>
       have h:(c1::rest)[q]? = some d:=by simpa using h
       have:((c1::rest).map hD |>.take (w+1))[q]? = some (hD d):=by rw[ajO,agC (by omega),afd,h];rfl
       grind
     have key:∀ {k st:Nat} {x:List D},(fL (hD a).1 (hD c1::(rest.map hD).take w))[k]? = some (st,x)->x≠[]->∀(q:Nat) d,(a::c1::rest)[q]? = some d->q<=w+1->∀ f,d.LO[k]? = some f->∃ c2,d.L[k]? = some (st,c2):=λ{k st x} l m q d h i f n=>by
      obtain⟨x0,A,r⟩:=vB l;rcases r with r|⟨rfl,r⟩
      .grind
      .cases q with
       |zero =>
        have:a=d:=by simpa using h
        subst this;exact⟨x,A⟩
       |succ q=>exact r _ (inw (q+1) d h (by omega) i)
     have X:LRw c.g (fL (hD a).1 (hD c1::(rest.map hD).take w)) c.LO:=λk x f l n=>by
      obtain⟨st,x⟩:=x;by_cases m:x=[]
      .subst m;have hkl:k<c.L.length:=by rw[K.1];exact cR n
       exact⟨(K.2 k _ f (abg hkl) n).1,.inl rfl⟩
      .obtain⟨c2,A⟩:=key l m (w+1) c hc (aaW _) f n;obtain⟨x0,r,M⟩:=vB l;rcases M with M|⟨rfl,_⟩
       .grind
       .obtain⟨st',cs',F,j2,Y⟩:=(z.two hc0 hc (ajg _)).2.pvn k st c2 f A n;have:(hD a).1=a.L:=rfl;rw[this]at r;rw[r]at F;cases F;obtain⟨rfl,_⟩:=Y rfl;exact K.2 k _ f A n
     have heap:∀ {o:Nat} {x:DB},(cK (hD a).2 ((hD c1::(rest.map hD).take w).map (·.2)))[o]? = some x->x=.dead\/∃ st cs,x=.cells st cs/\∀(q:Nat) d,(a::c1::rest)[q]? = some d->q<=w+1->d.g.H[o]? = some (.cells st cs):=λ{o x} l=>by
      rcases KL l with q|⟨st,cs,rfl,q1,q2⟩
      .exact .inl q
      grind [List.mem_map.2,hD]
     have G:fW (cK (hD a).2 ((hD c1::(rest.map hD).take w).map (·.2))) c.g:=λo x l=>by grind
     have hOnly:uu (cK (hD a).2 ((hD c1::(rest.map hD).take w).map (·.2))):=λo x l=>by grind
     have e0:Ql o.op (λty x=>lD (iF t x) λx=>rS E.E.P ty x (fL (hD a).1 (hD c1::(rest.map hD).take w)) (hD a).2 ((hD c1::(rest.map hD).take w).map (·.2)) λd=>κ t (.g d)) (lX o.op E false t (fL (hD a).1 (hD c1::(rest.map hD).take w)) (cK (hD a).2 ((hD c1::(rest.map hD).take w).map (·.2))) (λt x=>rG (λt x _ _=>κ t x) t x))=some out:=by simp_all
     rcases Qk e0 with⟨ty,x,bo,bn,bi,bc,hop,hev,eb⟩|e'
     .obtain⟨d,g1,g2,g3,g4,g5⟩:=Qj eb;have all:∀(q:Nat) j,(a::c1::rest)[q]? = some j->q<=w+1->Vp j.g.H d=true/\∃ v,dj o.op E.E tv j.g.s=some (.val v j.g.s)/\RD j.g d v:=λq j h i=>by
       have n:Vp j.g.H d=true/\∀ κ':D->ai,bW E.E.P ty (.bptr bo bn bi bc) j.g.H κ'=κ' d:=by grind [List.mem_map.2,hD]
       refine⟨n.1,?_⟩;obtain⟨⟨m1,m2⟩,_⟩:=z.at h;have e2:lX o.op E false t j.L j.g.H (λ_ y=>open Classical in if y=.val (.g d) j.L j.g.H then some out else none)=some out:=by grind [lX,lD,mj]
       obtain⟨t',dd,v,n1,n2,n3,_⟩:=qo o.op hk (.inl I) (λx l=>hs.op l h (by simp only[aeg]at hb hw ⊢;omega)) m1 m2.2 (fW.refl _) e2;split at n1
       .rename_i q1;obtain⟨rfl,_⟩:=BS.val.inj q1;exact⟨v,n2,n3⟩
       .cases n1
      obtain⟨f1,v,f2,f3⟩:=all (w+1) c hc (aaW _);obtain⟨O,Q⟩:=RS.same_at (x:=.g d) z hc f3;refine⟨t,.g d,v,g1,?_,.refl t tv,O,λp R u U=>Q p R u (by omega)⟩;refine ph (by simp) λs J=>?_;obtain⟨q,i⟩:=ajC J;rw[ajO]at i;split at i
      .rename_i hql;rw[afd]at i;cases h:(a::c1::rest)[q]? with
       |none=>rw[h]at i;cases i
       |some j =>rw[h]at i;cases i;obtain⟨f4,v',f5,f6⟩:=all q j h (by omega);rw[adN (z.two h hc (by omega)).1.le f1 f4 f3 f6];exact f5
      .cases i
     obtain⟨t',d,v,A,r,M,k4⟩:=qo o.op hk (.inl I) ho N X G e';obtain⟨O,Q⟩:=M.same_at z hc;refine⟨t',d,v,A,?_,k4,O,λp R u U=>Q p R u (by omega)⟩;refine ph (by simp) λs J=>?_;obtain⟨q,i⟩:=ajC J;rw[ajO]at i;split at i
     .rename_i hql;rw[afd]at i;cases h:(a::c1::rest)[q]? with
      |none=>rw[h]at i;cases i
      |some j =>
       rw[h]at i;cases i;have hn:=z.two h hc (by omega);refine CU (g':=j.g) o.op hk ho N X G hOnly e' hn.1.le (λk y f hy n m=>?_) (λo' st cs f v l hO=>?_) v r
       .obtain⟨st,y⟩:=y;obtain⟨c2,m1⟩:=key hy m (w+1) c hc (aaW _) f n;obtain⟨qq,Z⟩:=hn.2.pre;obtain⟨c3,m2⟩:=key hy m q j h (by omega) f (by rw[<- Z];exact eE _ n);obtain⟨st',cs',F,j2,Y⟩:=hn.2.pvn k st c2 f m1 n;rw[m2]at F;cases F;exact(Y rfl).2
       .rcases heap l with q'|⟨st',cs',q1,q2⟩
        .cases q'
        .cases q1;obtain⟨s2,c2,F,j2,Y⟩:=hn.1.stm o' st cs f v (q2 (w+1) c hc (aaW _)) hO;rw[q2 q j h (by omega)]at F;cases F;exact(Y rfl).2
     .cases i
end
section
variable[fZ]
variable{b:Nat}{P0:List Nat}{g:Gh}{LO:List Nat}{t:T LD}{L:LS}{tv:T V}{out:jg}{E:dg}{an:iL}{rec:qU}
theorem Gs{κ:T LD->LD->LS->DH->ai}{x:BS}(h:rG κ t x=some out):∃ d L' H',x=.val d L' H'/\κ t d L' H'=some out:=by
 unfold rG at h
 grind
theorem FI.cfg(h:FI b P0 g t L tv LO):Ld ⟨L,g,LO⟩:=⟨h.ok,h.own⟩
theorem FI.sl(h:FI b P0 g t L tv LO){cs:List gc}{bs:T Nat}{t':T LD}(a:us cs bs t' tv g LO):FI b P0 g t' L tv LO:=⟨h.ok,λi x c=>by obtain⟨v,d,j,_⟩:=a i x c;exact⟨v,d,j⟩,h.own,h.pv,h.low,h.nd,h.bl⟩
theorem us.of(h:Cy g LO t tv)(bs:T Nat):us [⟨L,g,LO⟩] bs t tv g LO:=λi x a=>by
 obtain⟨v,d,j⟩:=h i x a;refine⟨v,d,j,λp c hc _=>?_⟩
 grind
theorem Sw{o:Oper}(h:cuts an o=true){s s':S}{v:V}(k:dj o.op E.E tv s=some (.val v s')):s'=s:=by
 unfold cuts at h;split at h
 .rename_i a;rw[a]at k;simp only[dj,bL]at k;split at k
  .cases k;rfl
  .cases k
 .cases h
def OU(b:Nat)(P0:List Nat)(g:Gh)(k:T LD->LS->DH->ai)(kp:List fX->T LD->LS->DH->ai)(dsv:List eO)(upv:Option Md)(out:jg)(r:kO):Prop :=
 (∃ tv' s',r=.on tv' dsv upv s'/\∃ g' t' L' LO',k t' L' g'.H=some out/\g'.s=s'/\FI b P0 g' t' L' tv' LO'/\Mv b g g') \/
 ∃ c tv' s',r=.panicked c tv' dsv upv s'/\∃ g' t' L' LO' a,kp a t' L' g'.H=some out/\g'.s=s'/\FI b P0 g' t' L' tv' LO'/\Mv b g g'/\iu g' a c
theorem OU.trans{g':Gh}(m:Mv b g g'){k:T LD->LS->DH->ai}{kp:List fX->T LD->LS->DH->ai}{dsv:List eO}{upv:Option Md}{r:kO}(h:OU b P0 g' k kp dsv upv out r):OU b P0 g k kp dsv upv out r:=by
 rcases h with⟨tv',s',h0,a,t',L',LO',d,i,j,l⟩|⟨c,tv',s',h0,a,t',L',LO',n,d,i,j,l,p⟩
 .exact .inl ⟨tv',s',h0,a,t',L',LO',d,i,j,m.trans l⟩
 .exact .inr ⟨c,tv',s',h0,a,t',L',LO',n,d,i,j,m.trans l,p⟩
theorem FI.drop{g:Gh}{t:T LD}{L:LS}{tv:T V}{LO:List Nat}(h:FI b P0 g t L tv LO)(d:Tmp):FI b P0 g (t.setQ none (eX d) id) L (HV tv (some d)) LO:=by
 refine⟨h.ok,λi x a=>?_,h.own,h.pv,h.low,h.nd,h.bl⟩;rw[T.setQ_eq]at a;simp only[HV,T.setK_eq,id]at a ⊢;rw[T.get_setN]at a ⊢;split at a
 .cases a
 .rename_i e;rw[afp e];exact h.slots i x a
theorem rI(Q:KX E.E rec){ops:Array Oper}{k:T LD->LS->DH->ai}{kp:List fX->T LD->LS->DH->ai}{dsv:List eO}{upv:Option Md}:∀ {sc:List (Option Nat×Nat)} {cs:List gc} {n:Nat} {bs:T Nat} {t:T LD} {L:LS} {g:Gh} {LO:List Nat} {tv:T V},
 gI E an ops rec k kp sc (cs.map hD) n bs t L g.H=some out->n=cs.length->FI b P0 g t L tv LO->kI b ⟨L,g,LO⟩ cs->us cs bs t tv g LO ->
 ∃ r,iA E.E ops (bO (lim E.E)) dsv upv sc (cs.map λc=>c.g.s) tv g.s=some r/\OU b P0 g k kp dsv upv out r
 |[],cs,n,bs,t,L,g,LO,tv,e,hn,h,hh,hs=>⟨_,rfl,.inl ⟨tv,g.s,rfl,g,t,L,LO,e,rfl,h,.refl b g⟩⟩
 |(c,i)::sc,cs,n,bs,t,L,g,LO,tv,e,hn,h,hh,hs=>by
  simp only[gI]at e;simp only[iA];split at e
  .cases e
  .rename_i o ho
   (try rw[ho])
   (try simp only)
   have on:∀ {G:T LD} {x:LD} {v:V} {m:Nat} {w:LS} {j:Gh} {LO1:List Nat},FI b P0 j G w tv LO1->wV b ⟨L,g,LO⟩ ⟨w,j,LO1⟩->us cs bs G tv g LO->RS j LO1 x v->(∀(p:Nat) c,cs[p]? = some c->m+p<cs.length->RS c.g c.LO x v) ->
    gI E an ops rec k kp sc (cs.map hD) n (CQ bs o.dst m) (nw G o.dst x) w j.H=some out ->
    ∃ r,iA E.E ops (bO (lim E.E)) dsv upv sc (cs.map λc=>c.g.s) (putD tv o.dst v) j.s=some r/\OU b P0 g k kp dsv upv out r:=λ{G x v m w j LO1} z A a hr hm e1=>by
    have l:us cs bs G tv j LO1:=us.nxt (x:=⟨L,g,LO⟩) (y:=⟨w,j,LO1⟩) A a;obtain⟨r,W,F⟩:=rI Q e1 hn (z.put o.dst hr) (hh.step A) (l.put o.dst hr hm);exact⟨r,W,F.trans A.1⟩
   have WT:∀ {G:T LD} {x:LD} {v:V} {w:LS} {j:Gh} {LO1:List Nat} {m:Nat},FI b P0 j G w tv LO1->wV b ⟨L,g,LO⟩ ⟨w,j,LO1⟩->us cs bs G tv g LO->RS j LO1 x v->(∀(p:Nat) c,(⟨w,j,LO1⟩::cs)[p]? = some c->m+p<cs.length+1->RS c.g c.LO x v) ->
    gI E an ops rec k kp sc ((w,j.H)::cs.map hD) (n+1) (CQ bs o.dst m) (nw G o.dst x) w j.H=some out ->
    ∃ r,iA E.E ops (bO (lim E.E)) dsv upv sc (j.s::cs.map λc=>c.g.s) (putD tv o.dst v) j.s=some r/\OU b P0 g k kp dsv upv out r:=λ{G x v w j LO1 m} z A a hr hm e1=>by
    have l:us cs bs G tv j LO1:=us.nxt (x:=⟨L,g,LO⟩) (y:=⟨w,j,LO1⟩) A a;have hs3:us (⟨w,j,LO1⟩::cs) bs G tv j LO1:=us.push (c:=⟨w,j,LO1⟩) l;obtain⟨r,W,F⟩:=rI Q (cs:=⟨w,j,LO1⟩::cs) e1 (by simp[hn]) (z.put o.dst hr) ⟨z.cfg,.refl b _,hh.step A⟩ (hs3.put o.dst hr hm);exact⟨r,W,F.trans A.1⟩
   cases c with
   |some c =>
    simp only at e;rcases yx e h.slots with⟨hw,G,e,hr⟩|⟨hw,G,e,hr⟩
    .have a:=hs.rf hr;have z:=h.sl a;rw[hw];simp only[kh];cases hk:aL E.E.P o.op with
     |zero =>
      rw[hk]at e;simp only[sf]at e;cases hq:cuts an o with
      |true =>
       rw[hq]at e;dsimp only at e;obtain⟨t2,x,nx,e,W,F,R⟩:=EJ o.op z e;have l:=a.rf F;obtain⟨d,L',H',hx',e'⟩:=Gs e;subst hx';clear e;obtain⟨v,s',rfl,j,LO1,X,Y,K,Z,m5,m6⟩:=R;obtain rfl:=Sw hq W;have K:=K.rf F;rw[<- X]at e';have e:=e';obtain⟨x',M,I,J,j3,N,O,j6⟩:=fp K e m6;rw[cU,fP]at I;have A:wV b ⟨L,g,LO⟩ ⟨L',M,LO1⟩:=wV.trans (y:=⟨L',j,LO1⟩) ⟨Z,m5⟩ ⟨N,.ps J⟩
       grind [mr,dC,sF,cR]
      |false =>
      rw[hq]at e;dsimp only at e;obtain⟨t2,d,v,e,W,F,R,k4⟩:=Ko hk z.ok hh a e;have l:=a.rf F;have h2:=z.sl l;simp only[rG]at e;obtain⟨x',M,I,J,j3,N,O,j6⟩:=fp h2 e R;rw[cU,fP]at I;have A:wV b ⟨L,g,LO⟩ ⟨L,M,LO⟩:=⟨N,.ps J⟩
      grind [mr,dC,sF,cR]
     |succ q =>
      cases q with
      |zero =>
       have hns:∀ ty x lo hi mx,o.op≠.slice ty x lo hi mx:=λ_ _ _ _ _ q=>by rw[q]at hk;simp[aL]at hk
       rw[hk]at e;simp only[sf]at e;obtain⟨hc,e⟩:=aN e;simp only[aaV]at hc;subst hn;obtain⟨t2,d,v,e,W,F,R,k4⟩:=Kn (by omega) hns hh a (abh hc.2) (abh hc.1) e;have l:=a.rf F;have h2:=z.sl l;obtain⟨x',M,I,J,j3,N,O,j6⟩:=fp h2 e R;rw[cU,fP]at I;have A:wV b ⟨L,g,LO⟩ ⟨L,M,LO⟩:=⟨N,.ps J⟩
       grind [mr,sY]
      |succ q =>
       cases q with
       |zero =>
        rw[hk]at e;simp only[sf]at e;obtain⟨t2,x,nx,e,W,F,R⟩:=EJ o.op z e;have l:=a.rf F;obtain⟨d,L',H',hx',e'⟩:=Gs e;subst hx';clear e;obtain⟨v,s',rfl,j,LO1,X,Y,K,Z,m5,m6⟩:=R;have K:=K.rf F;rw[<- X]at e';have e:=e';obtain⟨x',M,I,J,j3,N,O,j6⟩:=fp K e m6;rw[cU,fP]at I;have A:wV b ⟨L,g,LO⟩ ⟨L',M,LO1⟩:=wV.trans (y:=⟨L',j,LO1⟩) ⟨Z,m5⟩ ⟨N,.ps J⟩
        grind [mr,dC,xA,cR]
       |succ q=>rw[hk]at e;simp only[sf]at e;cases e
    .have a:=hs.rf hr;have z:=h.sl a;rw[hw];simp only[kh];rw[cU,fP]at e;exact on z (.refl b _) a RS.u (λp c _ _=>rfl) e
   |none =>
    simp only at e;rcases yx e h.slots with⟨hw,G,e,hr⟩|⟨hw,G,e,hr⟩
    .have a:=hs.rf hr;have z:=h.sl a;rw[hw];obtain⟨t2,x,nx,e,W,F,R⟩:=EJ o.op z e;have l:=a.rf F;have h2:=z.sl l;simp only[gX,dC,W];have born:∀ {w:LS} {j:Gh} {LO1:List Nat} {x:LD} {v:V},RS j LO1 x v->∀(p:Nat) c,(⟨w,j,LO1⟩::cs)[p]? = some c->n+p<cs.length+1->RS c.g c.LO x v:=λ{w j LO1 x v} hr p c hc hp=>by grind
     cases x with
     |val d L' H' =>obtain⟨v,s',rfl,j,LO1,X,Y,K,Z,m5,m6⟩:=R;have K:=K.rf F;simp only[FC,<- X]at e;obtain⟨x',M,I,J,j3,N,O,j6⟩:=fp K e m6;rw[cU,fP]at I;have A:wV b ⟨L,g,LO⟩ ⟨L',M,LO1⟩:=wV.trans (y:=⟨L',j,LO1⟩) ⟨Z,m5⟩ ⟨N,.ps J⟩;have:=WT j3 A l O (born O) I;rw[J,Y]at this;have U:Nat.ble g.s.next s'.next=true:=abk (by rw[<- Y];exact Z.le.next);obtain⟨r,a1,a2⟩:=this;exact⟨r,by simp only[kn,U,ge];exact a1,a2⟩
     |skip L' H' =>obtain⟨s',rfl,j,LO1,X,Y,K,Z,m5,_⟩:=R;have K:=K.rf F;simp only[FC,<- X]at e;obtain⟨x',M,I,J,j3,N,O,j6⟩:=fp (x:=.u) (v:=V.undef) K e RS.u;rw[cU,fP]at I;have A:wV b ⟨L,g,LO⟩ ⟨L',M,LO1⟩:=wV.trans (y:=⟨L',j,LO1⟩) ⟨Z,m5⟩ ⟨N,.ps J⟩;have:=WT j3 A l O (born O) I;rw[J,Y]at this;have U:Nat.ble g.s.next s'.next=true:=abk (by rw[<- Y];exact Z.le.next);obtain⟨r,a1,a2⟩:=this;exact⟨r,by simp only[kn,U,ge];exact a1,a2⟩
     |enter f args L' H' =>
      obtain⟨vs,rfl,rfl,rfl,q1,_⟩:=R;simp only[FC]at e;obtain⟨oc,hoc,e⟩:=mF e;obtain⟨vout,X,Y⟩:=Q.c f args none g.H oc hoc g rfl h2.ok vs none q1 rfl;have hkeep:=Y;obtain⟨j,n1,n2,n3,n4,n5,_,hpv⟩:=mE h2 Y;obtain⟨ve,vu,vs'⟩:=vout;simp only at n2 n5;rcases e with⟨d,hd1,e⟩|⟨c,hd1,e⟩
      .rw[hd1]at n5;obtain⟨v,rfl,n6⟩:=n5;rw[<- n1]at e;obtain⟨x',M,I,J,j3,N,O,_⟩:=fp (x:=.g d) n3 e n6;rw[cU,fP]at I;have A:wV b ⟨L',g,LO⟩ ⟨L',M,LO⟩:=wV.trans (y:=⟨L',j,LO⟩) ⟨n4,hpv⟩ ⟨N,.ps J⟩;have:=WT j3 A l O (born O) I;rw[J,n2]at this;have U:Nat.ble g.s.next vs'.next=true:=abk (by rw[<- n2];exact n4.le.next);obtain⟨r,a1,a2⟩:=this;have m1':bO (lim E.E) f vs none g.s=some ⟨.returned v,vu,vs'⟩:=X;exact⟨r,by simp only[kn,m1',nW,U,ge];exact a1,a2⟩
      .rw[hd1]at n5;obtain⟨c',rfl,n6⟩:=n5;have m1':bO (lim E.E) f vs none g.s=some ⟨.panicked c',vu,vs'⟩:=X;cases sc with
       |cons x sc=>cases e
       |nil =>
        simp only[kn,m1',nW];refine⟨_,rfl,.inr ⟨c',_,vs',rfl,j,?_⟩⟩;rw[<- n1]at e;simp only at e;split at e
        rotate_left
        .cases e
        cases ho2:o.dst with
        |some d =>rw[ho2]at e;simp only[MN,T.setQ_eq]at e;have:=n3.drop d;rw[T.setQ_eq]at this;exact⟨_,_,_,c,e,n2,this,n4,n6⟩
        |none =>rw[ho2]at e;exact⟨_,_,_,c,e,n2,n3,n4,n6⟩
     |defer _ _ _=>simp only[FC]at e;cases e
     |recover _ _=>simp only[FC]at e;cases e
     |panic _ _ _=>simp only[FC]at e;cases e
     |round _ _ _ _=>simp only[FC]at e;cases e
    .have a:=hs.rf hr;have z:=h.sl a;rw[hw];rw[cU,fP]at e;have:=WT z (.refl b _) a (x:=.u) (v:=V.undef) RS.u (λp c _ _=>rfl) e;obtain⟨r,a1,a2⟩:=this;exact⟨r,by simp only[gX,abk (aaW _),ge];exact a1,a2⟩
end
section
theorem wI{i:Nat}(h:i<9223372036854775807):IntKind.wrap .i64 (((i:Nat):Int)+1)=((i+1:Nat):Int):=by rw[show((i:Nat):Int)+1=((i+1:Nat):Int)by omega];exact Lg _ ⟨by omega,by omega⟩
