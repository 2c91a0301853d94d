/- Lemmas. No conditions. -/
import Derived.Test.YtpghiabjaglpgaaGreatDoorS1
import Derived.Test.YtpghiabjaglpgaaGreatDoorS2
import Derived.IntWalk
set_option linter.all false
noncomputable section
namespace Go.Proofs.YtpghiabjaglpgaaGreatDoor
open Go.AI
def VP:List lJ:=[vz,vw,vt,vq,vp,vm,vl,vk]
def aaf:dX:={ P:=Tryz.prog,ext:=HT.ext,orc:=λf args s=>match iP 253 kinds f args s with|some x=>some x|none=>zO VP f args s }
def akB:uA aaf:=by
 refine⟨λf args s v s' h=>?_⟩;simp only[aaf]at h;split at h
 .rename_i x c;cases h;exact Hj.call f args s v s' c
 .obtain⟨k,hm,rfl,rfl,a,rfl,rfl⟩:=tJ h;simp only[VP,afS,apy,or_false]at hm;rcases hm with rfl|rfl|rfl|rfl|rfl|rfl|rfl|rfl
  .exact eo (E:=pB) (iw rfl rfl) Hj (eQ rfl rfl) akf a
  .exact eo (E:=pB) (iw rfl rfl) Hj (eQ rfl rfl) ake a
  .exact eo (E:=pB) (iw rfl rfl) Hj (eQ rfl rfl) akd a
  .exact eo (E:=pB) (iw rfl rfl) Hj (eQ rfl rfl) akc a
  .exact eo (E:=pB) (iw rfl rfl) Hj (eQ rfl rfl) akb a
  .exact eo (E:=pB) (iw rfl rfl) Hj (eQ rfl rfl) aka a
  .exact eo (E:=pB) (iw rfl rfl) Hj (eQ rfl rfl) ajZ a
  .exact eo (E:=pB) (iw rfl rfl) Hj (eQ rfl rfl) ajY a
def Ug:uZ aaf 4000 9 [] (.bool true)=true:=by kernel_rfl
def LU(s:S):gP Tryz.prog 9 [] none s ⟨.returned (.bool true),none,s⟩:=jQ (E:=aaf) (iw rfl rfl) akB (eQ rfl rfl) Ug rfl rfl s
end Go.Proofs.YtpghiabjaglpgaaGreatDoor
namespace Go.AI
section
def KN(m:Nat):List Nat->Nat
 |[]=>0
 |e::r=>bif m.testBit e then 1 else KN m r+1
def wk(ms:List Nat)(effs m:Nat)(H:List Nat):List (Nat×Oper)->Nat->Option (List (Option Nat×Nat)×Nat)
 |[],done=>some ([],done)
 |(i,_)::r,done =>
  bif !(m.testBit i)||done.testBit i then wk ms effs m H r done
  else bif effs.testBit i then none
  else match wk ms effs m H r (Nat.lor done (Nat.pow 2 i))with
   |some (l,d)=>some ((some (KN (ms.getD i 0) H),i)::l,d)
   |none=>none
def CV(ms:List Nat)(effs n:Nat)(all:List (Nat×Oper)):List (Nat×Oper)->List Nat->Nat->Option (List (Option Nat×Nat))
 |[],H,done=>match wk ms effs (Nat.pow 2 n - 1) H all done with
  |some (l,_)=>some l
  |none=>none
 |(i,_)::r,H,done=>match wk ms effs (ms.getD i 0) H all done with
  |some (l,d)=>bif !(d.testBit i)&&effs.testBit i then(match CV ms effs n all r (i::H) (Nat.lor d (Nat.pow 2 i))with
   |some l2=>some (l++(none,i)::l2)
   |none=>none)else none
  |none=>none
def TY(P:Program)(ops:Array Oper):Option (List (Option Nat×Nat)):=match UL P ops with
 |some ⟨ms,l,es,mask⟩=>CV ms mask ops.size l es [ops.size] 0
 |none=>none
def pn(E:dX)(a:List S)(t:T V)(s:S)(o:Oper):Nat->Option (V×S)
 |0=>zj s (ep E t s o)
 |1=>sZ s (ii E t o a)
 |2=>zl (ep E t s o)
 |_=>none
def kE(E:dX)(a:List S)(t:T V)(s:S)(o:Oper):Option Bool->Option (V×S)
 |some true=>pn E a t s o (aT E.P o.op)
 |some false=>some (V.undef,s)
 |none=>none
def jw(E:dX)(ops:Array Oper)(rec:kV)(ds:List ft)(up:Option Md):List (Option Nat×Nat)->List S->T V->S->Option ol
 |[],_,t,s=>some (.on t ds up s)
 |(c,i)::r,a,t,s=>match ops[i]? with
  |none=>none
  |some o=>match c with
   |some c=>match kE E (a.take c) t s o (cK ops t o)with
    |some (v,s)=>jw E ops rec ds up r a (putD t o.dst v) s
    |none=>none
   |none=>match jf E rec t s o (cK ops t o)with
    |some (v,s')=>bif Nat.ble s.next s'.next then jw E ops rec ds up r (s'::a) (putD t o.dst v) s' else none
    |none=>none
def wy(m:Nat):∀(h:List (Nat×S)),pi m h=(h.map (·.2)).take (KN m (h.map (·.1)))
 |[]=>rfl
 |(e,s)::r=>by
  simp only[pi,ads,KN];cases m.testBit e with
  |true=>simp
  |false=>simp[wy m r]
def Kd{E:dX}{h:List (Nat×S)}{m:Nat}{t:T V}{s:S}{o:Oper}(b:Option Bool):kg E h m t s o b=kE E ((h.map (·.2)).take (KN m (h.map (·.1)))) t s o b:=by
 cases b with
 |none=>rfl
 |some b=>cases b with
  |false=>rfl
  |true =>
   simp only[kg,kE];unfold HK pn;rw[wy];generalize aT E.P o.op=q;match q with
   |0=>rfl
   |1=>rfl
   |2=>rfl
   |_+3=>rfl
def th{E:dX}{ops:Array Oper}{rec:kV}{ds:List ft}{up:Option Md}{ms:List Nat}{effs m:Nat}{a:List (Nat×S)} :
 ∀(l:List (Nat×Oper)) (done:Nat) (t:T V) (s:S),(∀ x∈l,ops[x.1]? = some x.2)->∀ sc d,wk ms effs m (a.map (·.1)) l done=some (sc,d)->∀(rest:List (Option Nat×Nat)),
  jw E ops rec ds up (sc++rest) (a.map (·.2)) t s=match ei E ops ms effs a m l done t s with
   |some (_,t,s)=>jw E ops rec ds up rest (a.map (·.2)) t s
   |none=>none
 |[],done,t,s,_,sc,d,h,rest=>by cases h;rfl
 |(i,o)::l,done,t,s,c,sc,d,h,rest=>by
  simp only[wk]at h;simp only[ei];cases hb:(!(m.testBit i)||done.testBit i)with
  |true =>rw[hb]at h;simp only[ge]at h ⊢;exact th l done t s (λx j=>c x (acl _ j)) sc d h rest
  |false =>
   rw[hb]at h;simp only[Xi]at h ⊢;cases k:effs.testBit i with
   |true=>rw[k]at h;cases h
   |false =>
    rw[k]at h;simp only[Xi]at h ⊢;split at h
    .rename_i l1 d1 hp;cases h;simp only[ajo,jw];have ho:ops[i]? = some o:=c (i,o) (by simp);rw[ho];simp only;rw[<- Kd];cases kg E a (ms.getD i 0) t s o (cK ops t o)with
     |none=>rfl
     |some x =>obtain⟨v,s1⟩:=x;simp only[cO];exact th l _ _ s1 (λx j=>c x (acl _ j)) l1 _ hp rest
    .cases h
def rD{E:dX}{ops:Array Oper}{ms:List Nat}{effs m:Nat}{a:List (Nat×S)}:∀(l:List (Nat×Oper)) (done:Nat) (t:T V) (s:S) sc d,wk ms effs m (a.map (·.1)) l done=some (sc,d) ->
 ∀ c t' s',ei E ops ms effs a m l done t s=some (c,t',s')->c=d
 |[],done,t,s,sc,d,h,c,t',s',e=>by cases h;cases e;rfl
 |(i,o)::l,done,t,s,sc,d,h,c,t',s',e=>by
  simp only[wk]at h;simp only[ei]at e;cases hb:(!(m.testBit i)||done.testBit i)with
  |true =>rw[hb]at h e;exact rD l done t s sc d h c t' s' e
  |false =>
   rw[hb]at h e;simp only[Xi]at h e;cases j:effs.testBit i with
   |true=>rw[j]at h;cases h
   |false =>
    rw[j]at h e;simp only[Xi]at h e;split at h
    .rename_i l1 d1 hp;cases h;split at e
     .rename_i v s1 hf;rw[cO]at e;exact rD l _ _ s1 l1 d hp c t' s' e
     .cases e
    .cases h
def Gc{E:dX}{ops:Array Oper}{rec:kV}{ds:List ft}{up:Option Md}{ms:List Nat}{effs:Nat}{all:List (Nat×Oper)}(c:∀ x∈all,ops[x.1]? = some x.2) :
 ∀(es:List (Nat×Oper)),(∀ x∈es,ops[x.1]? = some x.2)->∀(a:List (Nat×S)) (done:Nat) (t:T V) (s:S) sc,CV ms effs ops.size all es (a.map (·.1)) done=some sc ->
  ∀ rr,jw E ops rec ds up sc (a.map (·.2)) t s=some rr->ig E ops ms effs all rec ds up es a done t s=some rr
 |[],_,a,done,t,s,sc,h,rr,e=>by
  simp only[CV]at h;simp only[ig];split at h
  .rename_i l d hp;cases h;have:=th (E:=E) (rec:=rec) (ds:=ds) (up:=up) all done t s c _ _ hp [];rw[ajH]at this;rw[this]at e;rw[<- e];cases ei E ops ms effs a (Nat.pow 2 ops.size - 1) all done t s with
   |none=>rfl
   |some x=>rfl
  .cases h
 |(i,o)::r,k,a,done,t,s,sc,h,rr,e=>by
  simp only[CV]at h;simp only[ig];split at h
  .rename_i l d hp;cases hb:(!(d.testBit i)&&effs.testBit i)with
   |false=>rw[hb]at h;cases h
   |true =>
    rw[hb]at h;simp only[ge]at h;split at h
    .rename_i l2 p;cases h;rw[th (E:=E) (rec:=rec) (ds:=ds) (up:=up) all done t s c _ _ hp]at e;cases j:ei E ops ms effs a (ms.getD i 0) all done t s with
     |none=>rw[j]at e;cases e
     |some x =>
      obtain⟨d1,m,s1⟩:=x;have q:=rD all done t s _ _ hp _ _ _ j;subst q;rw[j]at e;simp only[jw]at e;have ho:ops[i]? = some o:=k (i,o) (by simp);rw[ho]at e;simp only at e ⊢;cases hst:jf E rec m s1 o (cK ops m o)with
      |none=>rw[hst]at e;cases e
      |some y =>
       obtain⟨v,s2⟩:=y;rw[hst]at e;simp only[cO,apH,hb,aos]at e ⊢;cases n:Nat.ble s1.next s2.next with
       |false=>rw[n]at e;cases e
       |true =>rw[n]at e;simp only[ge]at e ⊢;exact Gc c r (λx u=>k x (acl _ u)) ((i,s2)::a) _ _ s2 l2 p rr e
    .cases h
  .cases h
def GX{E:dX}{ops:Array Oper}{sc:List (Option Nat×Nat)}(h:TY E.P ops=some sc)(rec:kV)(recR:EB)(t:T V)(ds:List ft)(up:Option Md)(s:S) :
 ∀ rr,jw E ops rec ds up sc [s] t s=some rr->jh E ops rec recR t ds up s=some rr:=by
 intro rr e;unfold TY at h;unfold jh;split at h
 .rename_i ms l es mask hp;rw[hp];simp only;have hl:l=gw ops.toList 0/\es=ue E.P (gw ops.toList 0):=by
   simp only[UL]at hp
   grind
  obtain⟨rfl,rfl⟩:=hl;have c:∀ x∈gw ops.toList 0,ops[x.1]? = some x.2:=λx d=>iO.1 (by obtain⟨a,b⟩:=x;exact d);exact Gc c _ (λx d=>c x (aoL.1 d).1) [(ops.size,s)] 0 t s sc h rr e
 .cases h
noncomputable section
inductive D where
 |bool (b:Bool)
 |int (k:IntKind) (n:Int)
 |str (s:List Nat)
 |ptr (o c:Nat)
 |eptr (cs:List D) (c:Nat)
 |bptr (o n i c:Nat)
 |nilptr
 |row (sz:Nat) (l:List (List D))
 |buf (sz o n:Nat)
 |nilrow
 |map (o:Nat)
 |nilmap
 |func (fn:FuncId) (first captured:List D)
 |nilFunc
 |iface (t:TypeId) (d:D)
 |nilIface
 |agg (cs:List D)
 |tuple (ds:List D)
 |yld (o:Nat)
 |abool
 deriving Inhabited
inductive LD where
 |g (d:D)
 |lp (k c:Nat)
 |u
 deriving Inhabited
inductive DB where
 |dead
 |cells (st:Nat) (cs:List D)
 |buf (sz:Nat) (st cap:Bool) (l:List (List D))
 |map (es:List (D×D))
 |coll
 |loop (rdy:Bool) (f:FuncId) (nt:Nat) (t:T LD) (ps:Array Tmp) (a b:Code)
 |opq
 deriving Inhabited
structure iX where
 v:D
 recovered:Bool
inductive fx where
 |run
 |returning
 |panicking (c:List iX)
 |round (o:Nat)
structure ajB where
 fn:FuncId
 captured:List D
 args:List D
inductive su where
 |call (d:ajB)
 |coll (o:Nat)
inductive EF where
 |ret (d:D)
 |pan (c:List iX)
abbrev DH:=List DB
abbrev LS:=List (Nat×List D)
structure iY where
 e:EF
 up:Option fx
 H:DH
abbrev av:=Option iY
inductive DU where
 |val (d:LD) (L:LS) (H:DH)
 |skip (L:LS) (H:DH)
 |enter (f:FuncId) (args:List D) (L:LS) (H:DH)
 |defer (d:ajB) (L:LS) (H:DH)
 |recover (L:LS) (H:DH)
 |panic (d:D) (L:LS) (H:DH)
 |round (o:Nat) (args:List D) (L:LS) (H:DH)
inductive Hk where
 |fz (sz:Nat)
 |acc (sz:Nat)
structure ga where
 cuts:List (Nat×List Nat×List Nat)
 esc:List Nat
 hooks:List (Nat×List (Nat×Hk))
 rfz:List (Nat×Nat×Hk)
 trim:Bool
def ga.no:ga:=⟨[],[],[],[],false⟩
structure dr where
 E:dX
 an:T ga
 orc:FuncId->List D->DH->Option (D×DH)
 vo:FuncId->Bool
def dr.ann(E:dr)(f:FuncId):ga:=match E.an.get (fQ f)with
 |some a=>a
 |none=>ga.no
def aan:V->Option D
 |.bool b=>some (.bool b)
 |.int k n=>some (.int k n)
 |.str l=>bif l.all (λc=>Nat.blt c 256)then some (.str l)else none
 |.nilptr=>some .nilptr
 |.nilslice=>some .nilrow
 |.nilmap=>some .nilmap
 |.func fn a b=>match fn with
  |.func f=>bif a.isEmpty&&b.isEmpty then some (.func f [] [])else none
  |_=>none
 |.nilFunc=>some .nilFunc
 |.nilIface=>some .nilIface
 |_=>none
def QB:List V->Option (List D)
 |[]=>some []
 |v::r=>match aan v with
  |some d=>match QB r with
   |some l=>some (d::l)
   |none=>none
  |none=>none
def dOf:V->Option D
 |.agg cs=>match QB cs with
  |some l=>some (.agg l)
  |none=>none
 |v=>aan v
def D.cells:D->List D
 |.agg cs=>cs
 |d=>[d]
def qG(P:Program)(t:TypeId):Option D:=match zero P t with
 |some z=>dOf z
 |none=>none
def iS(t:T LD):Operand->Option LD
 |.tmp i=>t.get (fQ i)
 |.const v=>match V.ofConst v with
  |some v=>match dOf v with
   |some d=>some (.g d)
   |none=>none
  |none=>none
 |.global _=>none
 |.func f=>some (.g (.func f [] []))
def gD(x:Option LD)(κ:D->av):av:=match x with
 |some (.g d)=>κ d
 |_=>none
def lD(x:Option LD)(κ:LD->av):av:=match x with
 |some d=>κ d
 |none=>none
def Ku(t:T LD):List Operand->(List D->av)->av
 |[],κ=>κ []
 |x::r,κ=>gD (iS t x) λd=>Ku t r λl=>κ (d::l)
def Gr(a b:av):av:=open Classical in if a=b then a else none
def brD(d:D)(a b:av):av:=match d with
 |.bool q=>cond q a b
 |.abool=>Gr a b
 |_=>none
def brS(d:D)(a b:av):av:=match d with
 |.bool q=>cond q a b
 |_=>none
def ah(cs:List D)(c:Nat)(κ:D->av):av:=match cs[c]? with
 |some d=>κ d
 |none=>none
def EN:Nat->List D->Nat->(List D->av)->av
 |0,_,_,κ=>κ []
 |n+1,cs,c,κ=>ah cs c λd=>EN n cs (c+1) λl=>κ (d::l)
def aj(n:Nat)(d:D)(κ:List D->av):av:=match d with
 |.agg cs=>bif Nat.beq cs.length n then κ cs else none
 |.tuple _=>none
 |d=>bif Nat.beq n 1 then κ [d] else none
def aB(H:DH)(o:Nat)(κ:Nat->List D->av):av:=match H[o]? with
 |some (.cells st cs)=>κ st cs
 |_=>none
def cH(H:DH)(o n:Nat)(κ:Nat->Bool->Bool->List (List D)->av):av:=match H[o]? with
 |some (.buf sz st cap l)=>bif Nat.beq n l.length then κ sz st cap l else none
 |_=>none
def rM(H:DH)(o:Nat)(κ:List (D×D)->av):av:=match H[o]? with
 |some (.map es)=>κ es
 |_=>none
def bg(n:Int)(κ:Nat->av):av:=match n with
 |.ofNat n=>κ n
 |_=>none
def aX(l:List (List D))(i:Nat)(κ:List D->av):av:=match l[i]? with
 |some cs=>κ cs
 |none=>none
def boK(b:Bool)(κ:av):av:=bif b then κ else none
def nY:List D->Nat->List D->Option (List D)
 |cs,_,[]=>some cs
 |x::r,n+1,new=>match nY r n new with
  |some l=>some (x::l)
  |none=>none
 |_::r,0,y::new=>match nY r 0 new with
  |some l=>some (y::l)
  |none=>none
 |[],_,_::_=>none
def aC(cs:List D)(c:Nat)(new:List D)(κ:List D->av):av:=match nY cs c new with
 |some l=>κ l
 |none=>none
def bL(P:Program)(ty:TypeId)(cs:List D)(c:Nat)(κ:D->av):av:=match rU P ty with
 |some true=>match size P ty with
  |some n=>bif Nat.blt 0 n then EN n cs c λl=>κ (.agg l)else none
  |none=>none
 |some false=>ah cs c κ
 |none=>none
def bJ(P:Program)(ty:TypeId)(d:D)(H:DH)(κ:D->av):av:=match d with
 |.eptr cs c=>bL P ty cs c κ
 |.ptr o c=>aB H o λ_ cs=>bL P ty cs c κ
 |.bptr o n i c=>cH H o n λ_ _ _ l=>aX l i λcs=>bL P ty cs c κ
 |_=>none
def mr(P:Program)(ty:TypeId)(x:LD)(L:LS)(H:DH)(κ:D->av):av:=match x with
 |.lp k c=>match L[k]? with
  |some (_,cs)=>bL P ty cs c κ
  |none=>none
 |.g d=>bJ P ty d H κ
 |.u=>none
def GK(d:D)(new:List D)(H:DH)(κ:DH->av):av:=match d with
 |.ptr o c=>aB H o λst cs=>aC cs c new λcs=>κ (H.set o (.cells (st+1) cs))
 |.bptr o n i c=>cH H o n λsz st cap l=>boK st (aX l i λcs=>aC cs c new λcs=>κ (H.set o (.buf sz st cap (l.set i cs))))
 |_=>none
def Aw(P:Program)(ty:TypeId)(x:LD)(v:D)(L:LS)(H:DH)(κ:LS->DH->av):av:=match size P ty with
 |some n=>bif Nat.blt 0 n then aj n v λnew=>match x with
  |.lp k c=>match L[k]? with
   |some (st,cs)=>aC cs c new λcs=>κ (L.set k (st+1,cs)) H
   |none=>none
  |.g d=>GK d new H λH=>κ L H
  |.u=>none
  else none
 |none=>none
def FZ(place:Nat->Option (Nat×Nat))(t:T LD):List (Nat×Operand)->List D->(List D->av)->av
 |[],cs,κ=>κ cs
 |(i,x)::r,cs,κ=>gD (iS t x) λd=>match place i with
  |none=>none
  |some (off,n)=>bif Nat.blt 0 n then aj n d λnew=>aC cs off new λcs=>FZ place t r cs κ else none
def Dq(P:Program)(t:T LD)(ty:TypeId)(parts:List (Nat×Operand))(κ:D->av):av:=match qG P ty with
 |some z=>match P.underlying ty with
  |some (.struct fs)=>bif fs.toList.all (λf=>(size P f.type).isSome)then FZ (pu P fs) t parts z.cells λcs=>κ (.agg cs)else none
  |some (.array _ el)=>match size P el with
   |some n=>FZ (λi=>some (i*n,n)) t parts z.cells λcs=>κ (.agg cs)
   |none=>none
  |_=>none
 |none=>none
def oJ(t:T LD)(n len:Nat):List (Nat×Operand)->List (List D)->(List (List D)->av)->av
 |[],l,κ=>κ l
 |(i,x)::r,l,κ=>gD (iS t x) λd=>bif Nat.blt i len then aj n d λnew=>oJ t n len r (l.set i new) κ else none
def Uh(n:Nat)(l:List (List D)):D:=match l with
 |[]=>.nilrow
 |x::r=>.row n (x::r)
def jr(P:Program)(t:T LD)(ty:TypeId)(len:Nat)(parts:List (Nat×Operand))(κ:D->av):av:=match P.underlying ty with
 |some (.slice el)=>match qG P el with
  |some z=>match size P el with
   |some n=>bif Nat.ble (len*n) 10000&&!(Nat.beq n 0)&&Nat.beq z.cells.length n then oJ t n len parts (List.replicate len z.cells) λl=>κ (Uh n l)else none
   |none=>none
  |none=>none
 |_=>none
def vR(d:D)(κ:D->av):av:=match d with
 |.ptr o c=>κ (.ptr o c)
 |.eptr cs c=>κ (.eptr cs c)
 |.bptr o n i c=>κ (.bptr o n i c)
 |.func f a b=>κ (.func f a b)
 |.yld o=>κ (.yld o)
 |_=>none
def aas(x:LD)(κ:LD->av):av:=match x with
 |.lp k c=>κ (.lp k c)
 |.g d=>vR d λd=>κ (.g d)
 |.u=>none
def aej(op:BinOp)(k:IntKind)(a b:Int)(κ:D->av):av:=match op with
 |.add=>κ (.int k (k.wrap (a+b)))
 |.sub=>κ (.int k (k.wrap (a - b)))
 |.mul=>κ (.int k (k.wrap (a*b)))
 |.eql=>κ (.bool (a==b))
 |.neq=>κ (.bool (a != b))
 |.lss=>κ (.bool (decide (a<b)))
 |.leq=>κ (.bool (decide (a<=b)))
 |.gtr=>κ (.bool (decide (a>b)))
 |.geq=>κ (.bool (decide (a>=b)))
 |.quo=>boK (!(b==0)) (κ (.int k (k.wrap (a.tdiv b))))
 |.rem=>boK (!(b==0)) (κ (.int k (a.tmod b)))
 |_=>none
def acK(op:BinOp)(a b:List Nat)(κ:D->av):av:=match op with
 |.add=>boK (Nat.ble (a.length+b.length) 1000000) (κ (.str (a++b)))
 |.eql=>κ (.bool (a==b))
 |.neq=>κ (.bool (!(a==b)))
 |.lss=>κ (.bool (Op.bytesLess (pL a) (pL b)))
 |_=>none
def UN(P:Program)(t:TypeId)(cs:List D)(off:Nat)(κ:D->av):av:=bL P t cs off κ
def jB(P:Program)(eq:TypeId->D->D->(Bool->av)->av):List Field->List D->List D->Bool->(Bool->av)->av
 |[],_,_,q,κ=>κ q
 |f::r,xs,ys,q,κ=>bif f.name == "_" then none else UN P f.type xs f.offset λa=>UN P f.type ys f.offset λb=>eq f.type a b λp=>jB P eq r xs ys (q&&p) κ
def So(P:Program):Nat->TypeId->D->D->(Bool->av)->av
 |0,_,_,_,_=>none
 |d+1,t,x,y,κ=>match P.underlying t with
  |some (.struct fs)=>match x,y with
   |.agg xs,.agg ys=>bif P.stoodInHeld t then none else jB P (So P d) fs.toList xs ys true κ
   |_,_=>none
  |some (.interface _)=>match x,y with
   |.nilIface,.nilIface=>κ true
   |.nilIface,.iface _ _=>κ false
   |.iface _ _,.nilIface=>κ false
   |_,_=>none
  |some .bool=>match x,y with
   |.bool a,.bool b=>κ (a==b)
   |_,_=>none
  |some (.int _)=>match x,y with
   |.int j a,.int k b=>bif dE j k then κ (a==b)else none
   |_,_=>none
  |some .string=>match x,y with
   |.str a,.str b=>κ (a==b)
   |_,_=>none
  |some (.pointer _)=>match x,y with
   |.nilptr,.nilptr=>κ true
   |.nilptr,.ptr _ _=>κ false
   |.nilptr,.eptr _ _=>κ false
   |.nilptr,.bptr _ _ _ _=>κ false
   |.ptr _ _,.nilptr=>κ false
   |.eptr _ _,.nilptr=>κ false
   |.bptr _ _ _ _,.nilptr=>κ false
   |_,_=>none
  |some (.func _ _ _)=>match x,y with
   |.nilFunc,.nilFunc=>κ true
   |.nilFunc,.func ..=>κ false
   |.func ..,.nilFunc=>κ false
   |_,_=>none
  |_=>none
def Wi(P:Program)(op:BinOp)(t:TypeId)(c:Bool)(a b:D):Bool :=
 bif vE op then match a,b with
  |.nilIface,.nilIface=>c
  |.agg _,.agg _=>!(P.eqGuardType P.depth t)
  |_,_=>true
 else true
def aA(P:Program)(op:BinOp)(t:TypeId)(c:Bool)(x y:D)(κ:D->av):av:=match x,y with
 |.int j a,.int k b=>bif qb op then none else bif dE j k then aej op j a b κ else none
 |.str a,.str b=>acK op a b κ
 |x,y=>bif Wi P op t c x y then(match op with
  |.eql=>So P 20 t x y λq=>κ (.bool q)
  |.neq=>So P 20 t x y λq=>κ (.bool !q)
  |_=>none)else none
def vC:Operand->Bool
 |.const c=>match V.ofConst c with
  |some .nilslice=>true
  |_=>false
 |_=>false
def ahp:BinOp->Bool
 |.eql=>false
 |_=>true
def lN(op:BinOp)(l:List (List D))(κ:D->av):av:=match l with
 |[]=>κ .abool
 |_::_=>κ (.bool (ahp op))
def RG(op:BinOp)(x:D)(κ:D->av):av:=bif vE op then(match x with
 |.nilrow=>κ .abool
 |.row _ l=>lN op l κ
 |_=>none)else none
def eD(op:UnOp)(x:D)(κ:D->av):av:=match op with
 |.not=>match x with
  |.bool b=>κ (.bool !b)
  |_=>none
 |.neg=>match x with
  |.int k n=>κ (.int k (k.wrap (0 - n)))
  |_=>none
 |_=>none
def rj(P:Program)(a dst:TypeId)(x:D)(κ:D->av):av:=bif (P.underlying a).isNone then none else match P.underlying dst with
 |some (.int k)=>match x with
  |.int _ n=>κ (.int k (k.wrap n))
  |_=>none
 |some .string=>match x with
  |.str l=>κ (.str l)
  |_=>none
 |_=>none
def Vl(P:Program)(el:TypeId)(n:Nat)(κ:List (List D)->Nat->av):av:=match qG P el with
 |some z=>match size P el with
  |some sz=>bif !(Nat.beq sz 0)&&Nat.beq z.cells.length sz then boK (Nat.ble n 2199023255552&&fg P el n) (κ (List.replicate n z.cells) sz)else none
  |none=>none
 |none=>none
def vV(o:Option D)(d:Nat)(κ:Nat->av):av:=match o with
 |some (.int _ n)=>bg n κ
 |some _=>none
 |none=>κ d
def Sn(t:T LD):Option Operand->(Option D->av)->av
 |none,κ=>κ none
 |some x,κ=>gD (iS t x) λd=>κ (some d)
def Ja(sz:Nat)(l:List (List D))(lo hi:Option D)(κ:D->av):av :=
 vV hi l.length λh=>vV lo 0 λb=>boK (Nat.ble h l.length&&Nat.beq b 0) (κ (.row sz (l.take h)))
def cF(P:Program)(t:TypeId)(x:D)(lo hi mx:Option D)(H:DH)(κ:D->DH->av):av:=match P.underlying t with
 |some .string=>match x with
  |.str l=>match mx with
   |none=>vV hi l.length λh=>vV lo 0 λb=>boK (Nat.ble h l.length&&Nat.ble b h) (κ (.str ((l.drop b).take (h - b))) H)
   |some _=>none
  |_=>none
 |some (.slice e)=>match size P e with
  |some sz=>match mx with
   |none=>match x with
    |.row s l=>bif Nat.beq s sz then Ja sz l lo hi λd=>κ d H else none
    |.buf s' o n=>cH H o n λs _ cap l=>boK (Nat.beq s' sz) (Ja sz l lo hi λd=>κ d (H.set o (.buf s false cap l)))
    |.nilrow=>vV hi 0 λh=>vV lo 0 λb=>boK (Nat.beq h 0&&Nat.beq b 0) (κ .nilrow H)
    |_=>none
   |some m=>vV (some m) 0 λm=>vV hi 0 λh=>vV lo 0 λb=>bif hi.isSome&&(Nat.beq m 0&&Nat.beq h 0&&Nat.beq b 0)then(match x with
    |.row s _=>bif Nat.beq s sz then κ .nilrow H else none
    |.buf s' o n=>cH H o n λ_ _ _ _=>boK (Nat.beq s' sz) (κ .nilrow H)
    |.nilrow=>κ .nilrow H
    |_=>none)else none
  |none=>none
 |_=>none
def bI(d:D)(off:Nat)(κ:D->av):av:=match d with
 |.ptr o c=>κ (.ptr o (c+off))
 |.eptr cs c=>κ (.eptr cs (c+off))
 |.bptr o n i c=>κ (.bptr o n i (c+off))
 |_=>none
def ZV(x:LD)(off:Nat)(κ:LD->av):av:=match x with
 |.lp k c=>κ (.lp k (c+off))
 |.g d=>bI d off λd=>κ (.g d)
 |.u=>none
def BZ(P:Program)(ty:TypeId)(x:LD)(f:Nat)(κ:LD->av):av:=match P.underlying ty with
 |some (.struct fs)=>match fs[f]? with
  |some a=>bif lr a P then none else ZV x a.offset κ
  |none=>none
 |_=>none
def rY(P:Program)(ty:TypeId)(x:D)(f:Nat)(κ:D->av):av:=match P.underlying ty with
 |some (.struct fs)=>match fs[f]? with
  |some a=>match x with
   |.agg cs=>UN P a.type cs a.offset κ
   |_=>none
  |none=>none
 |_=>none
def MT(x:D)(sz:Nat)(i:Int)(κ:D->av):av:=match x with
 |.row s l=>bif Nat.beq s sz then bg i λi=>aX l i λcs=>κ (.eptr cs 0)else none
 |.buf s o n=>bif Nat.beq s sz then bg i λi=>boK (Nat.blt i n) (κ (.bptr o n i 0))else none
 |_=>none
def ay(P:Program)(ty:TypeId)(x i:D)(κ:D->av):av:=match P.underlying ty with
 |some (.slice el)=>match size P el with
  |some sz=>match i with
   |.int _ i=>MT x sz i κ
   |_=>none
  |none=>none
 |_=>none
def fv(l:List Nat)(i:Nat)(κ:D->av):av:=match l[i]? with
 |some c=>κ (.int .u8 (.ofNat (Nat.mod c 256)))
 |none=>none
def kC(P:Program)(ty:TypeId)(x i:D)(κ:D->av):av:=match P.underlying ty with
 |some .string=>match x with
  |.str l=>match i with
   |.int _ i=>bg i λi=>fv l i κ
   |_=>none
  |_=>none
 |some (.array len el)=>match x with
  |.agg cs=>match size P el with
   |some sz=>match i with
    |.int _ i=>bg i λi=>bif Nat.blt i len then bL P el cs (Nat.mul i sz) κ else none
    |_=>none
   |none=>none
  |_=>none
 |_=>none
def BA:D->D->Option Bool
 |.int j a,.int k b=>bif dE j k then some (a==b)else none
 |.str a,.str b=>some (a==b)
 |.bool a,.bool b=>some (a==b)
 |_,_=>none
def JA(k:D):List (D×D)->Option (Option D)
 |[]=>some none
 |(x,v)::r=>match BA k x with
  |some true=>some (some v)
  |some false=>JA k r
  |none=>none
def Mz(k v:D):List (D×D)->Option (List (D×D))
 |[]=>some [(k,v)]
 |(x,w)::r=>match BA k x with
  |some true=>some ((k,v)::r)
  |some false=>match Mz k v r with
   |some r=>some ((x,w)::r)
   |none=>none
  |none=>none
def wt(k:D)(es:List (D×D))(κ:Option D->av):av:=match JA k es with
 |some o=>κ o
 |none=>none
def tB(k v:D)(es:List (D×D))(κ:List (D×D)->av):av:=match Mz k v es with
 |some es=>κ es
 |none=>none
def lQ(P:Program)(el:TypeId)(ok:Bool)(o:Option D)(κ:D->av):av:=match o with
 |some d=>κ (bif ok then .tuple [d,.bool true] else d)
 |none=>match qG P el with
  |some z=>κ (bif ok then .tuple [z,.bool false] else z)
  |none=>none
def Ei(d:TypeDesc):Bool:=match d with
 |.int _=>true
 |.string=>true
 |.bool=>true
 |_=>false
def zH(P:Program)(ty:TypeId):Option (TypeDesc×TypeId):=match P.underlying ty with
 |some (.map kt el)=>match P.underlying kt with
  |some d=>bif Ei d then some (d,el)else none
  |none=>none
 |_=>none
def rR(td:TypeDesc)(d:D):Bool:=match td with
 |.int _=>match d with
  |.int _ _=>true
  |_=>false
 |.string=>match d with
  |.str _=>true
  |_=>false
 |.bool=>match d with
  |.bool _=>true
  |_=>false
 |_=>false
def oa(P:Program)(ty:TypeId)(m k:D)(ok:Bool)(H:DH)(κ:D->av):av:=match zH P ty with
 |some (td,el)=>match m with
  |.map o=>bif rR td k then rM H o λes=>wt k es λr=>lQ P el ok r κ else none
  |.nilmap=>lQ P el ok none κ
  |_=>none
 |none=>none
def mj(P:Program)(ty:TypeId)(m k v:D)(H:DH)(κ:DH->av):av:=match zH P ty with
 |some (td,_)=>match m with
  |.map o=>bif rR td k then rM H o λes=>tB k v es λes=>κ (H.set o (.map es))else none
  |_=>none
 |none=>none
def nQ(P:Program)(x:D)(ty:TypeId)(ok:Bool)(κ:D->av):av:=match P.underlying ty with
 |some (.interface _)=>none
 |some _=>match x with
  |.iface t d=>bif Nat.beq t ty then κ (bif ok then .tuple [d,.bool true] else d)else bif ok then(match qG P ty with
   |some z=>κ (.tuple [z,.bool false])
   |none=>none)else none
  |.nilIface=>bif ok then(match qG P ty with
   |some z=>κ (.tuple [z,.bool false])
   |none=>none)else none
  |_=>none
 |none=>none
def fI(x:D)(i:Nat)(κ:D->av):av:=match x with
 |.tuple ds=>ah ds i κ
 |_=>none
def CU(y:D)(H:DH)(sz:Nat)(κ:List (List D)->av):av:=match y with
 |.row s l=>bif Nat.beq s sz then κ l else none
 |.nilrow=>κ []
 |.buf s o n=>bif Nat.beq s sz then cH H o n λ_ _ _ l=>κ l else none
 |_=>none
def grow(o:Nat)(sz:Nat)(st cap:Bool)(l els:List (List D))(H:DH)(κ:D->DH->av):av :=
 bif cap then κ (.buf sz H.length (l.length+els.length)) (H++[.buf sz true false (l++els)])
 else κ (.buf sz o (l.length+els.length)) (H.set o (.buf sz st false (l++els)))
def bQ(ok:Nat->Bool)(sz:Nat)(x:D)(els:List (List D))(H:DH)(κ:D->DH->av):av:=boK (ok els.length) (match x with
 |.nilrow=>match els with
  |[]=>κ .nilrow H
  |e::r=>κ (.buf sz H.length (r.length+1)) (H++[.buf sz true false (e::r)])
 |.buf s o n=>bif Nat.beq s sz then cH H o n λ_ st cap l=>boK (ok (l.length+els.length)&&!(cap&&els.isEmpty)) (grow o sz st cap l els H κ)else none
 |_=>none)
def uu(P:Program)(sT xT:TypeId)(x y:D)(H:DH)(κ:D->DH->av):av:=match P.underlying sT with
 |some (.slice elem)=>bif Jv P xT then(match size P elem with
  |some sz=>bif vO P elem sz then CU y H sz λels=>bQ (aG P elem) sz x els H κ else none
  |none=>none)else none
 |_=>none
def aP(P:Program)(t:TypeId)(x:D)(H:DH)(κ:D->av):av:=match P.underlying t with
 |some .string=>match x with
  |.str l=>κ (.int .i64 l.length)
  |_=>none
 |some (.slice _)=>match x with
  |.row _ l=>κ (.int .i64 l.length)
  |.buf _ _ n=>κ (.int .i64 n)
  |.nilrow=>κ (.int .i64 0)
  |_=>none
 |some (.map _ _)=>match x with
  |.map o=>rM H o λes=>κ (.int .i64 es.length)
  |.nilmap=>κ (.int .i64 0)
  |_=>none
 |_=>none
def MB(g:Bool)(x y:D)(κ:D->av):av:=match x with
 |.int j a=>match y with
  |.int k b=>bif dE j k then κ (.int j (bif g then(bif decide (b>a)then b else a)else(bif decide (b<a)then b else a)))else none
  |_=>none
 |_=>none
def jj(g:Bool):D->List D->(D->av)->av
 |x,[],κ=>κ x
 |x,y::r,κ=>MB g x y λz=>jj g z r κ
def RH(esc:Bool)(cs:List D)(L:LS)(H:DH)(κ:DU->av):av :=
 bif esc then κ (.val (.g (.ptr H.length 0)) L (H++[.cells 0 cs]))else κ (.val (.lp L.length 0) (L++[(0,cs)]) H)
def TX(t:T LD)(o:Operand)(b:Bool)(κ:T LD->av):av:=match o with
 |.tmp i=>t.setK (some (.g (.bool b))) (fQ i) κ
 |_=>κ t
def aby(t:T LD)(L:LS)(H:DH)(c a b:Operand)(κ:T LD->DU->av):av :=
 gD (iS t c) λd=>brS d (TX t c true λt=>lD (iS t a) λx=>κ t (.val x L H)) (TX t c false λt=>lD (iS t b) λx=>κ t (.val x L H))
def aV(E:dX)(f:FuncId):Bool:=match E.P.funcs[f]? with
 |some fn=>fn.body.isSome
 |none=>false
def Iq(E:dX)(L:LS)(H:DH)(args:List D)(f:D)(κ:DU->av):av:=match f with
 |.func g first cap=>bif aV E g then κ (.enter g (first++(args++cap)) L H)else none
 |_=>none
def NX(L:LS)(H:DH)(args:List D)(f:D)(κ:DU->av):av:=match f with
 |.yld o=>κ (.round o args L H)
 |_=>none
def nN(P:Program)(b:Builtin)(ts:Array TypeId)(args:List D)(L:LS)(H:DH)(κ:DU->av):av:=match b with
 |.append=>match ts[0]? with
  |some a=>match ts[1]? with
   |some b=>match args with
    |[x,y]=>uu P a b x y H λd H=>κ (.val (.g d) L H)
    |_=>none
   |none=>none
  |none=>none
 |.len=>match ts[0]? with
  |some a=>match args with
   |[x]=>aP P a x H λd=>κ (.val (.g d) L H)
   |_=>none
  |none=>none
 |.max=>match args with
  |x::r=>jj true x r λd=>κ (.val (.g d) L H)
  |_=>none
 |.min=>match args with
  |x::r=>jj false x r λd=>κ (.val (.g d) L H)
  |_=>none
 |.recover=>κ (.recover L H)
 |.panic=>match args with
  |[.iface t v]=>κ (.panic (.iface t v) L H)
  |_=>none
 |_=>none
def mg:Op->dr->Bool->T LD->LS->DH->(T LD->DU->av)->av
 |.move x,_,_,t,L,H,κ=>lD (iS t x) λd=>κ t (.val d L H)
 |.assign x,_,_,t,L,H,κ=>lD (iS t x) λd=>κ t (.val d L H)
 |.pick c a b,_,_,t,L,H,κ=>aby t L H c a b κ
 |.alloc elem,E,esc,t,L,H,κ=>match qG E.E.P elem with
  |some z=>RH esc z.cells L H (κ t)
  |none=>none
 |.box elem x,E,esc,t,L,H,κ=>match size E.E.P elem with
  |some n=>gD (iS t x) λd=>aj n d λcs=>RH esc cs L H (κ t)
  |none=>none
 |.build ty parts,E,_,t,L,H,κ=>Dq E.E.P t ty parts.toList λd=>κ t (.val (.g d) L H)
 |.buildSlice ty len parts,E,_,t,L,H,κ=>jr E.E.P t ty len parts.toList λd=>κ t (.val (.g d) L H)
 |.load ty x,E,_,t,L,H,κ=>lD (iS t x) λx=>mr E.E.P ty x L H λd=>κ t (.val (.g d) L H)
 |.store ty x y,E,_,t,L,H,κ=>lD (iS t x) λx=>gD (iS t y) λv=>Aw E.E.P ty x v L H λL H=>κ t (.skip L H)
 |.nilCheck x,_,_,t,L,H,κ=>lD (iS t x) λx=>aas x λx=>κ t (.val x L H)
 |.binOp op ty x y _,E,_,t,L,H,κ=>gD (iS t x) λa=>gD (iS t y) λb=>bif vC y then(match E.E.P.underlying ty with
  |some (.slice _)=>RG op a λd=>κ t (.val (.g d) L H)
  |_=>none)else aA E.E.P op ty (fS x||fS y) a b λd=>κ t (.val (.g d) L H)
 |.unOp op _ x,_,_,t,L,H,κ=>gD (iS t x) λa=>eD op a λd=>κ t (.val (.g d) L H)
 |.convert h dst x,E,_,t,L,H,κ=>gD (iS t x) λa=>rj E.E.P h dst a λd=>κ t (.val (.g d) L H)
 |.makeInterface ty x,E,_,t,L,H,κ=>gD (iS t x) λa=>match E.E.P.underlying ty with
  |some (.interface _)=>none
  |some _=>κ t (.val (.g (.iface ty a)) L H)
  |none=>none
 |.makeFunc fn first cap,_,_,t,L,H,κ=>match fn with
  |.func f=>Ku t first.toList λa=>Ku t cap.toList λb=>κ t (.val (.g (.func f a b)) L H)
  |_=>none
 |.makeMap _ none,_,_,t,L,H,κ=>κ t (.val (.g (.map H.length)) L (H++[.map []]))
 |.makeSlice ty l c,E,_,t,L,H,κ=>match E.E.P.underlying ty with
  |some (.slice el)=>match l with
   |.tmp i=>match c with
    |.tmp j=>bif Nat.beq i j then gD (iS t (.tmp i)) λd=>match d with
     |.int _ n=>bg n λn=>Vl E.E.P el n λl sz=>κ t (.val (.g (.buf sz H.length n)) L (H++[.buf sz true true l]))
     |_=>none
     else none
    |_=>none
   |_=>none
  |_=>none
 |.slice ty x lo hi mx,E,_,t,L,H,κ=>gD (iS t x) λx=>Sn t lo λlo=>Sn t hi λhi=>Sn t mx λmx=>cF E.E.P ty x lo hi mx H λd H=>κ t (.val (.g d) L H)
 |.fieldAddr ty x f,E,_,t,L,H,κ=>lD (iS t x) λx=>BZ E.E.P ty x f λx=>κ t (.val x L H)
 |.field ty x f,E,_,t,L,H,κ=>gD (iS t x) λx=>rY E.E.P ty x f λd=>κ t (.val (.g d) L H)
 |.indexAddr ty x i,E,_,t,L,H,κ=>gD (iS t x) λx=>gD (iS t i) λi=>ay E.E.P ty x i λd=>κ t (.val (.g d) L H)
 |.index ty x i,E,_,t,L,H,κ=>gD (iS t x) λx=>gD (iS t i) λi=>kC E.E.P ty x i λd=>κ t (.val (.g d) L H)
 |.lookup ty x k ok,E,_,t,L,H,κ=>gD (iS t x) λx=>gD (iS t k) λk=>oa E.E.P ty x k ok H λd=>κ t (.val (.g d) L H)
 |.mapUpdate ty m k x,E,_,t,L,H,κ=>gD (iS t m) λm=>gD (iS t k) λk=>gD (iS t x) λx=>mj E.E.P ty m k x H λH=>κ t (.skip L H)
 |.insert ty m k x,E,_,t,L,H,κ=>gD (iS t m) λm=>gD (iS t k) λk=>gD (iS t x) λx=>mj E.E.P ty m k x H λH=>κ t (.skip L H)
 |.typeAssert x _ ty ok,E,_,t,L,H,κ=>gD (iS t x) λx=>nQ E.E.P x ty ok λd=>κ t (.val (.g d) L H)
 |.extract x i,_,_,t,L,H,κ=>gD (iS t x) λx=>fI x i λd=>κ t (.val (.g d) L H)
 |.call c,E,esc,t,L,H,κ=>Ku t c.args.toList λargs=>match c.callee with
  |.builtin b=>nN E.E.P b c.argTypes args L H (κ t)
  |.value f=>gD (iS t f) λf=>match esc with
   |true=>NX L H args f (κ t)
   |false=>Iq E.E L H args f (κ t)
  |.invoke _ _=>none
 |.defer c,E,_,t,L,H,κ=>Ku t c.args.toList λargs=>match c.callee with
  |.value f=>gD (iS t f) λf=>match f with
   |.func g first cap=>bif aV E.E g then κ t (.defer ⟨g,cap,first++args⟩ L H)else none
   |_=>none
  |_=>none
 |.panic x,_,_,t,L,H,κ=>gD (iS t x) λx=>match x with
  |.iface ty d=>κ t (.panic (.iface ty d) L H)
  |_=>none
 |_,_,_,_,_,_,_=>none
def eZ(h:Hk)(d:D)(H:DH)(κ:D->DH->av):av:=match h with
 |.fz sz=>match d with
  |.buf s' o n=>cH H o n λs _ cap l=>boK (Nat.beq s' sz) (κ (.row sz l) (H.set o (.buf s false cap l)))
  |.nilrow=>κ (.row sz []) H
  |.row s l=>κ (.row s l) H
  |_=>none
 |.acc sz=>match d with
  |.nilrow=>bif Nat.blt 0 sz then κ (.buf sz H.length 0) (H++[.buf sz true false []])else none
  |.buf s o n=>κ (.buf s o n) H
  |_=>none
def ct(h:Hk)(c:Nat)(d:D)(H:DH)(κ:D->DH->av):av:=match d with
 |.agg cs=>ah cs c λx=>eZ h x H λy H=>κ (.agg (cs.set c y)) H
 |d=>bif Nat.beq c 0 then eZ h d H κ else none
def BG:List (Nat×Hk)->D->DH->(D->DH->av)->av
 |[],d,H,κ=>κ d H
 |(c,h)::r,d,H,κ=>ct h c d H λd H=>BG r d H κ
def Pz{α:Type}:List (Nat×α)->Nat->Option α
 |[],_=>none
 |(j,x)::r,i=>bif Nat.beq i j then some x else Pz r i
def tT(a:List (Nat×List (Nat×Hk)))(dst:Option Tmp)(x:LD)(H:DH)(κ:LD->DH->av):av:=match a with
 |[]=>κ x H
 |_::_=>match dst with
  |none=>κ x H
  |some i=>match Pz a i with
   |none=>κ x H
   |some l=>match x with
    |.g d=>BG l d H λd H=>κ (.g d) H
    |_=>none
def adH(i:Nat):List Nat->Bool
 |[]=>false
 |j::r=>bif Nat.beq i j then true else adH i r
def acb(an:ga)(dst:Option Tmp):Bool:=match an.esc with
 |[]=>false
 |l=>match dst with
  |some i=>adH i l
  |none=>false
def lc(t:T LD)(d:Option Tmp)(x:LD)(κ:T LD->av):av:=match d with
 |some i=>t.setK (some x) (fQ i) κ
 |none=>κ t
def bd(x:av)(kr:D->DH->av)(kp:List iX->DH->av):av:=match x with
 |some ⟨.ret d,_,H⟩=>kr d H
 |some ⟨.pan c,_,H⟩=>kp c H
 |none=>none
def Am(ops:Array Oper)(t:T LD)(o:Oper)(kT kF:T LD->av):av:=match o.guard with
 |none=>kT t
 |some (j,want)=>match(ops[j]?).bind (·.dst)with
  |some i=>match t.get (fQ i)with
   |some (.g d)=>match want with
    |true=>brD d (t.setK (some (.g (.bool true))) (fQ i) kT) (t.setK (some (.g (.bool false))) (fQ i) kF)
    |false=>brD d (t.setK (some (.g (.bool true))) (fQ i) kF) (t.setK (some (.g (.bool false))) (fQ i) kT)
   |some .u=>kF t
   |_=>none
  |none=>none
abbrev qF:=FuncId->List D->Option fx->DH->av
abbrev Lt:=T LD->LS->List su->Option fx->DH->av
def notRnd(up:Option fx)(r:av):av:=match up with
 |some (.round _)=>none
 |_=>r
def mV(d:Option Tmp)(t:T LD)(L:LS)(ds:List su)(H:DH)(k:Lt):Option fx->av
 |some (.round _)=>none
 |some (.panicking (⟨v,false⟩::older))=>lc t d (.g v) λt=>k t L ds (some (.panicking (⟨v,true⟩::older))) H
 |some m=>lc t d (.g .nilIface) λt=>k t L ds (some m) H
 |none=>none
def Mn(an:ga)(rec:qF)(d:Option Tmp)(t:T LD)(ds:List su)(up:Option fx)(k:Lt)(kp:List iX->Lt):DU->av
 |.val x L H=>tT an.hooks d x H λx H=>lc t d x λt=>k t L ds up H
 |.skip L H=>lc t d .u λt=>k t L ds up H
 |.enter f args L H=>bd (rec f args none H) (λx H=>tT an.hooks d (.g x) H λx H=>lc t d x λt=>k t L ds up H) λc H=>kp c t L ds up H
 |.defer df L H=>notRnd up (lc t d .u λt=>k t L (.call df::ds) up H)
 |.recover L H=>mV d t L ds H k up
 |.panic v L H=>kp [⟨v,false⟩] t L ds up H
 |.round o args L H=>bd (rec 0 args (some (.round o)) H) (λx H=>tT an.hooks d (.g x) H λx H=>lc t d x λt=>k t L ds up H) λc H=>kp c t L ds up H
def pR(E:dr)(an:ga)(ops:Array Oper)(rec:qF):List Oper->Lt->(List iX->Lt)->Lt
 |[],k,_,t,L,ds,up,H=>k t L ds up H
 |o::r,k,kp,t,L,ds,up,H=>Am ops t o
  (λt=>mg o.op E (acb an o.dst) t L H λt x=>Mn an rec o.dst t ds up (pR E an ops rec r k kp) kp x)
  (λt=>lc t o.dst .u λt=>pR E an ops rec r k kp t L ds up H)
def vU(bs:T Nat)(i:Nat):Nat:=match bs.get (fQ i)with
 |some b=>b
 |none=>0
def gJ(bs:T Nat):List Tmp->Nat
 |[]=>0
 |i::r=>Nat.max (vU bs i) (gJ bs r)
def UJ{β:Type}(bs:T Nat)(d:Option Tmp)(n:Nat)(κ:T Nat->β):β:=match d with
 |some i=>bs.setK (some n) (fQ i) κ
 |none=>κ bs
def fW(L:LS):List (LS×DH)->LS
 |[]=>L
 |(M,_)::r=>fW (meet L M) r
 where meet:LS->LS->LS
  |(a,cs)::l,(b,_)::m=>bif Nat.beq a b then(a,cs)::meet l m else(a,[])::meet l m
  |(a,_)::l,[]=>(a,[])::meet l []
  |[],_=>[]
def sF(κ:T LD->LD->LS->DH->av)(t:T LD):DU->av
 |.val x L H=>κ t x L H
 |_=>none
def vH(an:ga)(d:Option Tmp):Bool:=match an.hooks with
 |[]=>false
 |l=>match d with
  |some i=>(Pz l i).isSome
  |none=>false
def JN(r:List DH)(o:Nat):DB->DB
 |.cells st cs=>open Classical in if ∀ a∈r,a[o]? = some (.cells st cs)then .cells st cs else .dead
 |_=>.dead
def Sx(r:List DH):Nat->DH->DH
 |_,[]=>[]
 |i,b::t=>JN r i b::Sx r (i+1) t
def dG(H:DH)(r:List DH):DH:=Sx r 0 H
def Tb(H:DH):D->Bool
 |.buf _ o n=>match H[o]? with
  |some (.buf _ _ _ l)=>Nat.beq n l.length&&Nat.blt 0 n
  |_=>false
 |_=>false
def Hd(P:Program)(ty:TypeId)(H:DH)(r:List DH)(o n i c:Nat)(κ:D->av):av:=cH H o n λsz st cap l=>aX l i λcs=>bL P ty cs c λd=>open Classical in if(∀ a∈r,a[o]? = some (.buf sz st cap l))/\∀ a∈H::r,Tb a d=true then κ d else none
def RV(P:Program)(ty:TypeId)(d:D)(H:DH)(r:List DH)(κ:D->av):av:=match d with
 |.bptr o n i c=>Hd P ty H r o n i c κ
 |d=>bJ P ty d (dG H r) κ
def rN(P:Program)(ty:TypeId)(x:LD)(L:LS)(H:DH)(r:List DH)(κ:D->av):av:=match x with
 |.g d=>RV P ty d H r κ
 |x=>mr P ty x L (dG H r) κ
def UD(op:Op)(a:TypeId->Operand->av)(b:av):av:=match op with
 |.load ty x=>a ty x
 |_=>b
def EZ(E:dr)(o:Oper)(a:List (LS×DH))(t:T LD)(κ:T LD->LD->av):av:=match a with
 |[]=>none
 |(L,H)::r=>match r with
  |[]=>mg o.op E false t L H λt x=>sF (λt x _ _=>κ t x) t x
  |_::_=>UD o.op (λty x=>lD (iS t x) λx=>rN E.E.P ty x (fW L r) H (r.map (·.2)) λd=>κ t (.g d)) (mg o.op E false t (fW L r) (dG H (r.map (·.2))) λt x=>sF (λt x _ _=>κ t x) t x)
def rX(E:dr)(an:ga)(o:Oper)(a:List (LS×DH))(n c:Nat)(bs:T Nat)(t:T LD)(L:LS)(H:DH)(κ:T LD->LD->LS->DH->Nat->av):Nat->av
 |0=>mg o.op E false t [] [] λt x=>sF (λt x _ _=>κ t x L H (bif vH an o.dst then n else gJ bs (sees o))) t x
 |1=>bif Nat.ble (gJ bs (sees o)) (n - c)&&Nat.ble c n then EZ E o (a.take c) t λt x=>κ t x L H (bif vH an o.dst then n else n - c)else none
 |2=>mg o.op E (acb an o.dst) t L H λt x=>sF (λt x L H=>κ t x L H n) t x
 |_=>none
def HX(rec:qF)(t:T LD)(κ:T LD->LD->LS->DH->av):DU->av
 |.val x L H=>κ t x L H
 |.skip L H=>κ t .u L H
 |.enter f args L H=>bd (rec f args none H) (λx H=>κ t (.g x) L H) λ_ _=>none
 |_=>none
def ib(E:dr)(an:ga)(ops:Array Oper)(rec:qF)(k:T LD->LS->DH->av):List (Option Nat×Nat)->List (LS×DH)->Nat->T Nat->T LD->LS->DH->av
 |[],_,_,_,t,L,H=>k t L H
 |(c,i)::r,a,n,bs,t,L,H=>match ops[i]? with
  |none=>none
  |some o=>match c with
   |some c=>Am ops t o
    (λt=>rX E an o a n c bs t L H (λt x L H b=>tT an.hooks o.dst x H λx H=>lc t o.dst x λt=>UJ bs o.dst b λbs=>ib E an ops rec k r a n bs t L H) (aT E.E.P o.op))
    (λt=>lc t o.dst .u λt=>UJ bs o.dst 0 λbs=>ib E an ops rec k r a n bs t L H)
   |none=>Am ops t o
    (λt=>mg o.op E false t L H λt x=>HX rec t (λt x L H=>tT an.hooks o.dst x H λx H=>lc t o.dst x λt=>UJ bs o.dst n λbs=>ib E an ops rec k r ((L,H)::a) (n+1) bs t L H) x)
    (λt=>lc t o.dst .u λt=>UJ bs o.dst 0 λbs=>ib E an ops rec k r ((L,H)::a) (n+1) bs t L H)
abbrev uF:=T LD->LS->List Item->List su->fx->Option fx->DH->av
def AK(H:DH)(o:Nat):av:=match H[o]? with
 |some (.loop _ f nt t ps a b)=>some ⟨.ret (.bool true),none,H.set o (.loop true f nt t ps a b)⟩
 |_=>none
def Bv(go:uF)(t:T LD)(L:LS)(ds:List su)(up:Option fx)(H:DH):Option Code->av
 |none=>match up with
  |some (.round o)=>AK H o
  |up=>go t L [] ds .returning up H
 |some .ret=>notRnd up (go t L [] ds .returning up H)
 |_=>none
def SH(H:DH)(o:Nat)(κ:DH->av):av:=match H[o]? with
 |some (.loop true f nt t ps a b)=>κ (H.set o (.loop false f nt t ps a b))
 |_=>none
def NK(go:uF)(k:List Item)(t:T LD)(L:LS)(ds:List su)(up:Option fx)(H:DH):av:=match up with
 |some (.round o)=>SH H o λH=>go t L k ds .run up H
 |_=>none
def Fs(H:DH)(o:Nat)(κ:DH->av):av:=match H[o]? with
 |some (.loop true _ _ _ _ _ _)=>κ (H.set o .opq)
 |_=>none
def Se(d:D)(κ:FuncId->List D->List D->av):av:=match d with
 |.func g a b=>κ g a b
 |_=>none
def He(f:FuncId)(nt:Nat)(go:uF)(rec:qF)(k:List Item)(t:T LD)(L:LS)(ds:List su)(up:Option fx)(H:DH)(ps:Array Tmp)(a b:Code)(d:D):av:=match L with
 |[]=>Se d λg first cap=>notRnd up (bd (rec g (first++(.yld (H.length+1)::cap)) none (H++[.coll,.loop true f nt t ps a b]))
  (λ_ H'=>Fs H' (H.length+1) λH'=>go t L k (.coll H.length::ds) .run up H') λc H'=>go t L k (.coll H.length::ds) (.panicking c) up H')
 |_=>none
def FF(go:uF)(t:T LD)(L:LS)(ds:List su)(up:Option fx)(H:DH):Option (List Item)->av
 |some k=>go t L k ds .run up H
 |none=>none
def mE:Code->dr->ga->FuncId->Func->uF->qF->List Item->T LD->LS->List su->Option fx->DH->av
 |.ret=>λ_ _ _ _ go _ _ t L ds up H=>Bv go t L ds up H (some .ret)
 |.skip=>λ_ _ _ _ go _ k t L ds up H=>go t L k ds .run up H
 |.label _=>λ_ _ _ _ go _ k t L ds up H=>go t L k ds .run up H
 |.seq a b=>λ_ _ _ _ go _ k t L ds up H=>go t L (.code a::.code b::k) ds .run up H
 |.cond c a b=>λ_ _ _ _ go _ k t L ds up H=>gD (iS t c) λd=>brD d (TX t c true λt=>go t L (.code a::k) ds .run up H) (TX t c false λt=>go t L (.code b::k) ds .run up H)
 |.block id c=>λ_ _ _ _ go _ k t L ds up H=>go t L (.code c::.inBlock id::k) ds .run up H
 |.loop c=>λ_ _ _ _ go _ k t L ds up H=>go t L (.code c::.inLoop c::k) ds .run up H
 |.scope c=>λ_ _ _ _ go _ k t L ds up H=>go t L (.code c::.inScope c::k) ds .run up H
 |.exit id=>λ_ _ _ _ go _ k t L ds up H=>FF go t L ds up H (exitTo id k)
 |.goto l=>λ_ _ _ _ go _ k t L ds up H=>FF go t L ds up H (gotoIn l k)
 |.region _ ops true=>λE an f fn go rec k t L ds up H=>bif ob ops fn.ntmps then(match TY E.E.P ops with
  |some sc=>ib E an ops rec (λt L H=>go t L k ds .run up H) sc [(L,H)] 1 .leaf t L H
  |none=>none)else none
 |.region _ ops false=>λE an f fn go rec k t L ds up H=>bif ob ops fn.ntmps then
  pR E an ops rec ops.toList (λt L ds up H=>go t L k ds .run up H) (λc t L ds up H=>go t L k ds (.panicking c) up H) t L ds up H else none
 |.rangeFunc g ps a b=>λ_ _ f fn go rec k t L ds up H=>gD (iS t g) λd=>He f fn.ntmps go rec k t L ds up H ps a b d
 |_=>λ_ _ _ _ _ _ _ _ _ _ _ _=>none
def VU:Item->dr->ga->FuncId->Func->uF->qF->List Item->T LD->LS->List su->Option fx->DH->av
 |.code c=>mE c
 |.inBlock _=>λ_ _ _ _ go _ k t L ds up H=>go t L k ds .run up H
 |.inScope _=>λ_ _ _ _ go _ k t L ds up H=>go t L k ds .run up H
 |.inLoop c=>λ_ _ _ _ go _ k t L ds up H=>go t L (.code c::.inLoop c::k) ds .run up H
 |.beginRound=>λ_ _ _ _ go _ k t L ds up H=>NK go k t L ds up H
 |_=>λ_ _ _ _ _ _ _ _ _ _ _ _=>none
def Ol:List Item->dr->ga->FuncId->Func->uF->qF->T LD->LS->List su->Option fx->DH->av
 |[]=>λ_ _ _ _ go _ t L ds up H=>Bv go t L ds up H none
 |i::k=>λE an f fn go rec t L ds up H=>VU i E an f fn go rec k t L ds up H
def Mf(c:List iX)(a:av)(b:List iX->av):av:=match c with
 |⟨_,true⟩::_=>a
 |c=>b c
def Nt(r:av)(a:DH->av)(b:List iX->DH->av):av:=match r with
 |some ⟨.ret _,some u,H⟩=>match u with
  |.returning=>a H
  |.panicking c=>Mf c (a H) λc=>b c H
  |_=>none
 |some ⟨.pan c,some u,H⟩=>match u with
  |.returning=>b c H
  |.panicking old=>b (c++old) H
  |_=>none
 |_=>none
def so(go:uF)(t:T LD)(L:LS)(ds:List su)(up:Option fx)(r:av):av:=Nt r (λH=>go t L [] ds .returning up H) λc H=>go t L [] ds (.panicking c) up H
def uo(H:DH)(o:Nat)(κ:DH->av):av:=match H[o]? with
 |some .coll=>κ (H.set o .opq)
 |_=>none
def oL(P:Program)(t:T LD)(L:LS)(H:DH):List ResultVar->(List D->av)->av
 |[],κ=>κ []
 |x::r,κ=>match x with
  |.tmp i=>gD (t.get (fQ i)) λd=>oL P t L H r λl=>κ (d::l)
  |.cell a ty=>lD (t.get (fQ a)) λx=>mr P ty x L H λd=>oL P t L H r λl=>κ (d::l)
def YF:List (Nat×Nat×Hk)->List D->DH->(List D->DH->av)->av
 |[],l,H,κ=>κ l H
 |(i,c,h)::r,l,H,κ=>ah l i λd=>ct h c d H λd H=>YF r (l.set i d) H κ
def UT:List D->D
 |[d]=>d
 |ds=>.tuple ds
def UR(up:Option fx):Option fx:=match up with
 |some (.round _)=>none
 |up=>up
def kB(E:dr)(an:ga)(fn:Func)(t:T LD)(L:LS)(up:Option fx)(H:DH):fx->av
 |.returning=>notRnd up (oL E.E.P t L H fn.results.toList λl=>YF an.rfz l H λl H=>some ⟨.ret (UT l),up,H⟩)
 |.panicking c=>some ⟨.pan c,UR up,H⟩
 |_=>none
def jN:List su->dr->ga->Func->uF->qF->T LD->LS->fx->Option fx->DH->av
 |.call ⟨f,cap,args⟩::ds=>λ_ _ _ go rec t L m up H=>so go t L ds up (rec f (args++cap) (some m) H)
 |.coll o::ds=>λ_ _ _ go _ t L m up H=>uo H o λH=>go t L [] ds m up H
 |[]=>λE an fn _ _ t L m up H=>kB E an fn t L up H m
def vJ(E:dr)(an:ga)(f:FuncId)(fn:Func)(go:uF)(rec:qF)(t:T LD)(L:LS)(todo:List Item)(ds:List su)(m:fx)(up:Option fx)(H:DH):av:=match m with
 |.run=>Ol todo E an f fn go rec t L ds up H
 |.returning=>jN ds E an fn go rec t L .returning up H
 |.panicking c=>jN ds E an fn go rec t L (.panicking c) up H
 |.round _=>none
inductive EE where
 |frame (f:FuncId) (fn:Func) (t:T LD) (L:LS) (todo:List Item) (ds:List su) (m:fx) (up:Option fx)
 |call (f:FuncId) (args:List D) (up:Option fx)
abbrev aJ:=EE->DH->av
def nw:Code->Nat
 |.region id _ _=>id
 |.seq a b=>match hasReg a with
  |true=>nw a
  |false=>nw b
 |.cond _ a b=>match hasReg a with
  |true=>nw a
  |false=>nw b
 |.block _ c=>nw c
 |.loop c=>nw c
 |.scope c=>nw c
 |_=>0
 where hasReg:Code->Bool
  |.region _ _ _=>true
  |.seq a b=>hasReg a||hasReg b
  |.cond _ a b=>hasReg a||hasReg b
  |.block _ c=>hasReg c
  |.loop c=>hasReg c
  |.scope c=>hasReg c
  |_=>false
def abP:List Item->Option Nat
 |.code c::.inLoop _::_=>some (nw c+200000)
 |.code (.region id _ _)::_=>some id
 |.code (.cond _ a b)::_=>some (nw (.seq a b)+100000)
 |_=>none
def ace(an:ga)(todo:List Item):Option (List Nat×List Nat):=match an.cuts with
 |[]=>none
 |l=>match abP todo with
  |some k=>Pz l k
  |none=>none
def AA(t:T LD):List Nat->(List LD->av)->av
 |[],κ=>κ []
 |i::r,κ=>lD (t.get (fQ i)) λx=>AA t r λl=>κ (x::l)
def mkT:List Nat->List LD->T LD->T LD
 |i::r,x::l,t=>mkT r l (T.setK (some x) (fQ i) t id)
 |_,_,t=>t
def tK(ks:List Nat):Nat->LS->LS
 |_,[]=>[]
 |i,(_,cs)::r=>(0,bif adH i ks then cs else [])::tK ks (i+1) r
def pf:List Nat->Nat
 |[]=>0
 |k::r=>bif Nat.blt k (pf r)then pf r else k+1
def Fp(n:Nat):List LD->Bool
 |[]=>true
 |x::r=>(match x with
  |.lp k _=>Nat.blt k n
  |_=>true)&&Fp n r
def KK(an:ga)(ih:uF)(go:uF):uF:=λt L todo ds m up H=>match m with
 |.run=>match ace an todo with
  |some (live,ks)=>AA t live λxs=>bif Fp (pf ks) xs then ih (mkT live xs .leaf) (tK ks 0 (L.take (pf ks))) todo ds m up H else none
  |none=>go t L todo ds m up H
 |m=>go t L todo ds m up H
mutual
def D.bel(n:Nat):D->Prop
 |.ptr o _=>o<n
 |.bptr o _ _ _=>o<n
 |.buf _ o _=>o<n
 |.map o=>o<n
 |.yld o=>o<n
 |.eptr cs _=>eB n cs
 |.row _ l=>dH n l
 |.func _ a b=>eB n a/\eB n b
 |.iface _ d=>d.bel n
 |.agg cs=>eB n cs
 |.tuple ds=>eB n ds
 |_=>True
def eB(n:Nat):List D->Prop
 |[]=>True
 |d::r=>d.bel n/\eB n r
def dH(n:Nat):List (List D)->Prop
 |[]=>True
 |l::r=>eB n l/\dH n r
end
def DB.bel(n:Nat):DB->Prop
 |.dead=>True
 |.cells _ cs=>eB n cs
 |.buf _ _ _ l=>dH n l
 |.map es=>∀ x∈es,x.1.bel n/\x.2.bel n
 |.loop _ _ _ t _ _ _=>∀ i d,t.get (fQ i)=some (.g d)->d.bel n
 |.coll=>True
 |.opq=>True
def EF.bel(n:Nat):EF->Prop
 |.ret d=>d.bel n
 |.pan c=>∀ x∈c,x.v.bel n
def nU(H:DH)(o:iY):Prop:=o.e.bel H.length/\o.up=none/\H.length<=o.H.length/\∀ i b,i<H.length->o.H[i]? = some b->H[i]? = some b\/b.bel H.length
def bj(H:DH)(r:av):av:=match r with
 |some o=>open Classical in if nU H o then some ⟨o.e,o.up,o.H.take H.length⟩else none
 |none=>none
def ip{β:Type}:List D->Nat->T LD->(T LD->β)->β
 |[],_,t,k=>k t
 |x::r,i,t,k=>t.setK (some (.g x)) (fQ i) λt=>ip r (i+1) t k
def CT(E:dr)(go:FuncId->Func->uF)(f:FuncId)(args:List D)(up:Option fx)(H:DH):av:=match E.E.P.funcs[f]? with
 |some fn=>match fn.body with
  |some c=>bif fn.name == "runtime.NumGoroutine" || E.vo f then none else
   bif (E.ann f).trim then bj H (ip args 0 .leaf λt=>go f fn t [] [.code c] [] .run up H)else ip args 0 .leaf λt=>go f fn t [] [.code c] [] .run up H
  |none=>none
 |none=>none
def mW{β:Type}:T LD->List Tmp->List D->(T LD->β)->β
 |t,p::ps,x::xs,k=>t.setK (some (.g x)) (fQ p) λt=>mW t ps xs k
 |t,_,_,k=>k t
def uS(E:dr)(go:FuncId->Func->uF)(o:Nat)(args:List D)(H:DH):av:=match H[o]? with
 |some (.loop _ f nt t ps a b)=>match E.E.P.funcs[f]? with
  |some fn=>bif Nat.ble fn.ntmps nt&&Nat.beq ps.size args.length&&ps.toList.all (λp=>Nat.blt p nt)then
   mW t ps.toList args λt=>go f fn t [] [.code a,.beginRound,.code b] [] .run (some (.round o)) H else none
  |none=>none
 |_=>none
def US(E:dr)(f:FuncId)(args:List D)(H:DH)(up:Option fx)(k:av):av:=match(match up with|none=>E.orc f args H|some _=>none)with
 |some (d,H)=>some ⟨.ret d,up,H⟩
 |none=>k
def QM(E:dr)(go:FuncId->Func->uF)(f:FuncId)(args:List D)(up:Option fx)(H:DH):av:=match up with
 |some (.round o)=>uS E go o args H
 |up=>US E f args H up (CT E go f args up H)
def Ta(ih:aJ)(f:FuncId)(fn:Func):uF:=λt L todo ds m up H=>ih (.frame f fn t L todo ds m up) H
def AP(ih:aJ):qF:=λf args up H=>ih (.call f args up) H
def sM(E:dr)(ih:aJ)(go:FuncId->Func->uF):aJ
 |.frame f fn t L todo ds m up,H=>vJ E (E.ann f) f fn (KK (E.ann f) (Ta ih f fn) (go f fn)) (AP ih) t L todo ds m up H
 |.call f args up,H=>QM E go f args up H
def dK(E:dr):Nat->aJ
 |0=>λ_ _=>none
 |n+1=>sM E (dK E n) (Ta (dK E n))
def Tm(E:dr)(R:aJ):Nat->aJ
 |0=>R
 |n+1=>sM E R (Ta (Tm E R n))
end
def Al{α:Type}(c:(α->av)->av):Prop:=∀ κ out,c κ=some out->∃ a,∀ κ',c κ'=κ' a
variable{α β:Type}
def Al.ret(a:α):Al (λκ=>κ a):=λ_ _ _=>⟨a,λ_=>rfl⟩
def Al.none:Al (fun(_:α->av)=>none):=λ_ _ h=>by cases h
theorem Al.bind{c:(α->av)->av}{d:α->(β->av)->av}(h:Al c)(k:∀ a,Al (d a)):Al (λκ=>c λa=>d a κ):=λκ out e=>by obtain⟨a,i⟩:=h _ out e;obtain⟨x,j⟩:=k a κ out ((i _).symm.trans e);exact⟨x,λ_=>(i _).trans (j _)⟩
theorem Al.map{c:(α->av)->av}(h:Al c)(f:α->β):Al (λκ=>c λa=>κ (f a)):=h.bind λa=>.ret (f a)
theorem Al.boK(b:Bool){c:(α->av)->av}(h:Al c):Al (λκ=>boK b (c κ)):=by
 cases b
 .exact .none
 .exact h
def Al.cond(b:Bool){c d:(α->av)->av}(h:Al c)(k:Al d):Al (λκ=>cond b (c κ) (d κ)):=by
 cases b
 .exact k
 .exact h
def dA{x:Option LD}:Al (gD x):=by
 cases x with
 |none=>exact .none
 |some x=>cases x<;>first|exact .ret _|exact .none
def rm{x:Option LD}:Al (lD x):=by
 cases x with
 |none=>exact .none
 |some x=>exact .ret x
def uw(t:T LD):∀ l,Al (Ku t l)
 |[]=>.ret []
 |x::r=>(dA).bind λd=>(uw t r).map (d::·)
def IC(cs:List D)(c:Nat):Al (ah cs c):=by
 unfold ah;cases cs[c]? with
 |none=>exact .none
 |some d=>exact .ret d
def Lg:∀ n cs c,Al (EN n cs c)
 |0,_,_=>.ret []
 |n+1,cs,c=>(IC cs c).bind λd=>(Lg n cs (c+1)).map (d::·)
def qo{n:Nat}{d:D}:Al (aj n d):=by cases d<;>first|exact .none|exact Al.cond _ (.ret _) .none
def Ra{c:(β->av)->Nat->List D->av}{H:DH}{o:Nat}(h:∀ st cs,Al (λκ=>c κ st cs)):Al (λκ=>aB H o (c κ)):=by
 unfold aB;split
 .exact h _ _
 .exact .none
def Ah{c:(β->av)->Nat->Bool->Bool->List (List D)->av}{H:DH}{o n:Nat}(h:∀ sz st cap l,Al (λκ=>c κ sz st cap l)):Al (λκ=>cH H o n (c κ)):=by
 unfold cH;split
 .exact Al.cond _ (h _ _ _ _) .none
 .exact .none
def Iz{H:DH}{o:Nat}:Al (rM H o):=by
 unfold rM;split
 .exact .ret _
 .exact .none
def qn{n:Int}:Al (bg n):=by
 cases n
 .exact .ret _
 .exact .none
def Ag{l:List (List D)}{i:Nat}:Al (aX l i):=by
 unfold aX;split
 .exact .ret _
 .exact .none
def Af{cs:List D}{c:Nat}{new:List D}:Al (aC cs c new):=by
 unfold aC;split
 .exact .ret _
 .exact .none
theorem fF{P:Program}{ty:TypeId}{cs:List D}{c:Nat}:Al (bL P ty cs c):=by
 unfold bL;split
 .split
  .exact Al.cond _ ((Lg _ _ _).map _) .none
  .exact .none
 .exact IC _ _
 .exact .none
theorem XI{P:Program}{ty:TypeId}{d:D}{H:DH}:Al (bJ P ty d H):=by
 cases d<;>first
  |exact .none
  |exact fF
  |exact Ra λ_ _=>fF
  |exact Ah λ_ _ _ _=>(Ag).bind λ_=>fF
theorem Lj{P:Program}{ty:TypeId}{x:LD}{L:LS}{H:DH}:Al (mr P ty x L H):=by
 cases x with
 |g d=>exact XI
 |lp k c =>
  show Al (λκ=>mr P ty (.lp k c) L H κ);simp only[mr];split
  .grind [fF]
  .exact .none
 |u=>exact .none
def afP{d:D}{new:List D}{H:DH}:Al (GK d new H):=by
 cases d<;>first
  |exact .none
  |exact Ra λ_ _=>(Af).map _
  |exact Ah λ_ st _ _=>Al.boK st ((Ag).bind λ_=>(Af).map _)
def iC(c:(α->β->av)->av):Prop:=∀ κ out,c κ=some out->∃ a b,∀ κ',c κ'=κ' a b
theorem iC.bind{γ:Type}{c:(α->β->av)->av}{d:α->β->(γ->av)->av}(h:iC c)(k:∀ a b,Al (d a b)):Al (λκ=>c λa b=>d a b κ):=λκ out e=>by obtain⟨a,b,i⟩:=h _ out e;obtain⟨x,j⟩:=k a b κ out ((i _).symm.trans e);exact⟨x,λ_=>(i _).trans (j _)⟩
def iC.ret(a:α)(b:β):iC (λκ=>κ a b):=λ_ _ _=>⟨a,b,λ_=>rfl⟩
def iC.none:iC (fun(_:α->β->av)=>none):=λ_ _ h=>by cases h
theorem aaM(P:Program)(ty:TypeId)(H:DH)(r:List DH)(o n i c:Nat):Al (Hd P ty H r o n i c):=by
 unfold Hd;refine Ah λsz st cap l=>(Ag).bind λcs=>(fF).bind λd=>?_;split
 .exact .ret _
 .exact .none
theorem aaR(P:Program)(ty:TypeId)(d:D)(H:DH)(r:List DH):Al (RV P ty d H r):=by
 unfold RV;split
 .grind [aaM]
 grind [XI]
def SK(P:Program)(ty:TypeId)(x:LD)(L:LS)(H:DH)(r:List DH):Al (rN P ty x L H r):=by
 unfold rN;split
 .grind [aaR]
 grind [Lj]
def Al.bind2{γ:Type}{c:(γ->av)->av}{d:γ->(α->β->av)->av}(h:Al c)(k:∀ a,iC (d a)):iC (λκ=>c λa=>d a κ):=λκ out e=>by obtain⟨a,i⟩:=h _ out e;obtain⟨x,y,j⟩:=k a κ out ((i _).symm.trans e);exact⟨x,y,λ_=>(i _).trans (j _)⟩
theorem iC.boK(b:Bool){c:(α->β->av)->av}(h:iC c):iC (λκ=>Go.AI.boK b (c κ)):=by
 cases b
 .exact .none
 .exact h
def iC.cond(b:Bool){c d:(α->β->av)->av}(h:iC c)(k:iC d):iC (λκ=>cond b (c κ) (d κ)):=by
 cases b
 .exact k
 .exact h
def ux{γ:Type}{c:(γ->β->av)->Nat->Bool->Bool->List (List D)->av}{H:DH}{o n:Nat}(h:∀ sz st cap l,iC (λκ=>c κ sz st cap l)):iC (λκ=>cH H o n (c κ)):=by
 unfold cH;split
 .exact iC.cond _ (h _ _ _ _) .none
 .exact .none
def SI{P:Program}{ty:TypeId}{x:LD}{v:D}{L:LS}{H:DH}:iC (Aw P ty x v L H):=by
 unfold Aw;split
 .refine iC.cond _ ((qo).bind2 λnew=>?_) .none;cases x with
  |g d=>exact(afP).bind2 λH=>.ret L H
  |lp k c =>
   simp only;split
   .exact(Af).bind2 λ_=>.ret _ _
   .exact .none
  |u=>exact .none
 .exact .none
def DE(place:Nat->Option (Nat×Nat))(t:T LD):∀ l cs,Al (FZ place t l cs)
 |[],cs=>.ret cs
 |(i,x)::r,cs=>by
  refine(dA).bind λd=>?_;split
  .exact .none
  .exact Al.cond _ ((qo).bind λ_=>(Af).bind λ_=>DE place t r _) .none
def SS{P:Program}{t:T LD}{ty:TypeId}{parts:List (Nat×Operand)}:Al (Dq P t ty parts):=by
 unfold Dq;split
 .split
  .exact Al.cond _ ((DE _ _ _ _).map _) .none
  .split
   .exact(DE _ _ _ _).map _
   .exact .none
  .exact .none
 .exact .none
def yD(t:T LD)(n len:Nat):∀ l cs,Al (oJ t n len l cs)
 |[],cs=>.ret cs
 |(i,x)::r,cs=>(dA).bind λd=>Al.cond _ ((qo).bind λ_=>yD t n len r _) .none
def DF{P:Program}{t:T LD}{ty:TypeId}{len:Nat}{parts:List (Nat×Operand)}:Al (jr P t ty len parts):=by
 unfold jr;split
 .split
  .split
   .exact Al.cond _ ((yD _ _ _ _ _).map _) .none
   .exact .none
  .exact .none
 .exact .none
def aaY{x:LD}:Al (aas x):=by
 cases x with
 |g d=>cases d<;>first|exact .none|exact .ret _
 |lp k c=>exact .ret _
 |u=>exact .none
def aaT{op:BinOp}{k:IntKind}{a b:Int}:Al (aej op k a b):=by cases op<;>first|exact .none|exact .ret _|exact Al.boK _ (.ret _)
def aaL{op:BinOp}{a b:List Nat}:Al (acK op a b):=by cases op<;>first|exact .none|exact .ret _|exact Al.boK _ (.ret _)
def Rc(P:Program){eq:TypeId->D->D->(Bool->av)->av}(h:∀ t x y,Al (eq t x y)):∀ fs xs ys q,Al (jB P eq fs xs ys q)
 |[],_,_,q=>.ret q
 |f::r,xs,ys,q=>Al.cond _ .none ((fF).bind λa=>(fF).bind λb=>(h _ a b).bind λp=>Rc P h r xs ys _)
def IB(P:Program):∀ d t x y,Al (So P d t x y)
 |0,_,_,_=>.none
 |d+1,t,x,y=>by
  show Al (λκ=>So P (d+1) t x y κ);simp only[So];split
  .split
   .exact Al.cond _ .none (Rc P (IB P d) _ _ _ _)
   .exact .none
  all_goals first
   |exact .none
   |(split<;>first|exact .ret _|exact .none|exact Al.cond _ (.ret _) .none)
def aaN{op:BinOp}{x:D}:Al (RG op x):=by
 unfold RG;refine Al.cond _ ?_ .none;split
 .exact .ret _
 .rename_i l;cases l<;>exact .ret _
 .exact .none
def aaZ{P:Program}{op:BinOp}{t:TypeId}{c:Bool}{x y:D}:Al (aA P op t c x y):=by
 unfold aA;split
 .exact Al.cond _ .none (Al.cond _ (aaT) .none)
 .exact aaL
 .refine Al.cond _ ?_ .none;split
  .exact(IB _ _ _ _ _).map _
  .exact(IB _ _ _ _ _).map _
  .exact .none
def afO{op:UnOp}{x:D}:Al (eD op x):=by
 unfold eD;split
 .split<;>first|exact .ret _|exact .none
 .split<;>first|exact .ret _|exact .none
 .exact .none
def XJ{P:Program}{a dst:TypeId}{x:D}:Al (rj P a dst x):=by
 unfold rj;refine Al.cond _ .none ?_;split
 .split<;>first|exact .ret _|exact .none
 .split<;>first|exact .ret _|exact .none
 .exact .none
def aaO{P:Program}{el:TypeId}{n:Nat}:iC (Vl P el n):=by
 unfold Vl;split
 .split
  .exact iC.cond _ (iC.boK _ (.ret _ _)) .none
  .exact .none
 .exact .none
def jZ{o:Option D}{d:Nat}:Al (vV o d):=by
 unfold vV;split
 .exact qn
 .exact .none
 .exact .ret _
def IA{t:T LD}{x:Option Operand}:Al (Sn t x):=by
 cases x with
 |none=>exact .ret _
 |some x=>exact(dA).map _
def Lh{sz:Nat}{l:List (List D)}{lo hi:Option D}:Al (Ja sz l lo hi) :=
 (jZ).bind λ_=>(jZ).bind λ_=>Al.boK _ (.ret _)
def SJ{P:Program}{t:TypeId}{x:D}{lo hi mx:Option D}{H:DH}:iC (cF P t x lo hi mx H):=by
 unfold cF;split
 .split
  .split
   .exact(jZ).bind2 λ_=>(jZ).bind2 λ_=>iC.boK _ (.ret _ _)
   .exact .none
  .exact .none
 .split
  .split
   .split
    .exact iC.cond _ ((Lh).bind2 λ_=>.ret _ _) .none
    .exact ux λ_ _ _ _=>iC.boK _ ((Lh).bind2 λ_=>.ret _ _)
    .exact(jZ).bind2 λ_=>(jZ).bind2 λ_=>iC.boK _ (.ret _ _)
    .exact .none
   .refine(jZ).bind2 λ_=>(jZ).bind2 λ_=>(jZ).bind2 λ_=>iC.cond _ ?_ .none;split
    .exact iC.cond _ (.ret _ _) .none
    .exact ux λ_ _ _ _=>iC.boK _ (.ret _ _)
    .exact .ret _ _
    .exact .none
  .exact .none
 .exact .none
def aaV{x:LD}{off:Nat}:Al (ZV x off):=by
 cases x with
 |g d=>cases d<;>first|exact .none|exact .ret _
 |lp k c=>exact .ret _
 |u=>exact .none
def SP{P:Program}{ty:TypeId}{x:LD}{f:Nat}:Al (BZ P ty x f):=by
 unfold BZ;split
 .split
  .exact Al.cond _ .none (aaV)
  .exact .none
 .exact .none
def SO{P:Program}{ty:TypeId}{x:D}{f:Nat}:Al (rY P ty x f):=by
 unfold rY;split
 .split
  .split
   .exact fF
   .exact .none
  .exact .none
 .exact .none
def aaS{x:D}{sz:Nat}{i:Int}:Al (MT x sz i):=by
 unfold MT;split
 .exact Al.cond _ ((qn).bind λ_=>(Ag).map _) .none
 .exact Al.cond _ ((qn).bind λ_=>Al.boK _ (.ret _)) .none
 .exact .none
def SM{P:Program}{ty:TypeId}{x i:D}:Al (ay P ty x i):=by
 unfold ay;split
 .split
  .split
   .exact aaS
   .exact .none
  .exact .none
 .exact .none
def XK{l:List Nat}{i:Nat}:Al (fv l i):=by
 unfold fv;split
 .exact .ret _
 .exact .none
def SL{P:Program}{ty:TypeId}{x i:D}:Al (kC P ty x i):=by
 unfold kC;split
 .split
  .split
   .exact(qn).bind λ_=>XK
   .exact .none
  .exact .none
 .split
  .split
   .split
    .exact(qn).bind λ_=>Al.cond _ (fF) .none
    .exact .none
   .exact .none
  .exact .none
 .exact .none
def XG{k:D}{es:List (D×D)}:Al (wt k es):=by
 unfold wt;split
 .exact .ret _
 .exact .none
def XF{k v:D}{es:List (D×D)}:Al (tB k v es):=by
 unfold tB;split
 .exact .ret _
 .exact .none
theorem Gw{P:Program}{el:TypeId}{ok:Bool}{o:Option D}:Al (lQ P el ok o):=by
 unfold lQ;split
 .exact .ret _
 .split
  .exact .ret _
  .exact .none
def XH{P:Program}{ty:TypeId}{m k:D}{ok:Bool}{H:DH}:Al (oa P ty m k ok H):=by
 unfold oa;split
 .split
  .exact Al.cond _ ((Iz).bind λ_=>(XG).bind λ_=>Gw) .none
  .grind [Gw]
  .exact .none
 .exact .none
def Li{P:Program}{ty:TypeId}{m k v:D}{H:DH}:Al (mj P ty m k v H):=by
 unfold mj;split
 .split
  .exact Al.cond _ ((Iz).bind λ_=>(XF).map _) .none
  .exact .none
 .exact .none
def NN{P:Program}{x:D}{ty:TypeId}{ok:Bool}:Al (nQ P x ty ok):=by
 unfold nQ;split
 .exact .none
 .split
  .refine Al.cond _ (.ret _) (Al.cond _ ?_ .none);split<;>first|exact .ret _|exact .none
  .refine Al.cond _ ?_ .none;split<;>first|exact .ret _|exact .none
  .exact .none
 .exact .none
def aaW{x:D}{i:Nat}:Al (fI x i):=by
 unfold fI;split
 .exact IC _ _
 .exact .none
def aaX{y:D}{H:DH}{sz:Nat}:Al (CU y H sz):=by
 unfold CU;split
 .exact Al.cond _ (.ret _) .none
 .exact .ret _
 .exact Al.cond _ (Ah λ_ _ _ _=>.ret _) .none
 .exact .none
def aaU{o sz:Nat}{st cap:Bool}{l els:List (List D)}{H:DH}:iC (grow o sz st cap l els H):=by unfold grow;exact iC.cond _ (.ret _ _) (.ret _ _)
def aba{ok:Nat->Bool}{sz:Nat}{x:D}{els:List (List D)}{H:DH}:iC (bQ ok sz x els H):=by
 unfold bQ;refine iC.boK _ ?_;split
 .split
  .exact .ret _ _
  .exact .ret _ _
 .exact iC.cond _ (ux λ_ _ _ _=>iC.boK _ (aaU)) .none
 .exact .none
def NO{P:Program}{sT xT:TypeId}{x y:D}{H:DH}:iC (uu P sT xT x y H):=by
 unfold uu;split
 .refine iC.cond _ ?_ .none;split
  .exact iC.cond _ ((aaX).bind2 λ_=>aba) .none
  .exact .none
 .exact .none
def aaQ{P:Program}{t:TypeId}{x:D}{H:DH}:Al (aP P t x H):=by
 unfold aP;split
 .split<;>first|exact .ret _|exact .none
 .split<;>first|exact .ret _|exact .none
 .split
  .exact(Iz).map _
  .exact .ret _
  .exact .none
 .exact .none
def aaP(g:Bool)(x y:D):Al (MB g x y):=by
 unfold MB;split
 .split
  .exact Al.cond _ (.ret _) .none
  .exact .none
 .exact .none
def DD(g:Bool):∀ l x,Al (jj g x l)
 |[],x=>.ret x
 |y::r,x=>(aaP g x y).bind λz=>DD g r z
def Rb{esc:Bool}{cs:List D}{L:LS}{H:DH}:Al (RH esc cs L H):=by unfold RH;exact Al.cond _ (.ret _) (.ret _)
def SQ{E:dX}{L:LS}{H:DH}{args:List D}{f:D}:Al (Iq E L H args f):=by
 unfold Iq;split
 .exact Al.cond _ (.ret _) .none
 .exact .none
def XE{L:LS}{H:DH}{args:List D}{f:D}:Al (NX L H args f):=by
 unfold NX;split
 .exact .ret _
 .exact .none
def SR{P:Program}{b:Builtin}{ts:Array TypeId}{args:List D}{L:LS}{H:DH}:Al (nN P b ts args L H):=by
 unfold nN;split
 .split
  .split
   .split
    .exact(NO).bind λ_ _=>.ret _
    .exact .none
   .exact .none
  .exact .none
 .split
  .split
   .exact(aaQ).map _
   .exact .none
  .exact .none
 .split
  .exact(DD _ _ _).map _
  .exact .none
 .split
  .exact(DD _ _ _).map _
  .exact .none
 .exact .ret _
 .split
  .exact .ret _
  .exact .none
 .exact .none
def OG(t:T LD)(o:Operand)(b:Bool):T LD:=match o with
 |.tmp i=>T.set (some (.g (.bool b))) (fQ i) t
 |_=>t
def sQ(t:T LD)(o:Operand)(b:Bool)(κ:T LD->av):TX t o b κ=κ (OG t o b):=by cases o<;>first|rfl|exact T.setK_eq _ _ _ _
def vX{o:Op}{E:dr}{esc:Bool}{t:T LD}{L:LS}{H:DH}:iC (mg o E esc t L H):=by
 have r:∀(x:DU),iC (fun(κ:T LD->DU->av)=>κ t x):=λx=>.ret t x;show iC (λκ=>mg o E esc t L H κ);cases o with
 |move x=>exact(rm).bind2 λ_=>r _
 |assign x=>exact(rm).bind2 λ_=>r _
 |pick c a b =>
  refine(dA).bind2 λd=>?_;cases d<;>first|exact .none|skip
  rename_i q;simp only[sQ];cases q
  .exact(rm).bind2 λ_=>.ret _ _
  .exact(rm).bind2 λ_=>.ret _ _
 |alloc elem =>
  simp only[mg];split
  .exact(Rb).bind2 λx=>r x
  .exact .none
 |box elem x =>
  simp only[mg];split
  .exact(dA).bind2 λd=>(qo).bind2 λcs=>(Rb).bind2 λx=>r x
  .exact .none
 |build ty parts=>simp only[mg];exact(SS).bind2 λ_=>r _
 |buildSlice ty len parts=>simp only[mg];exact(DF).bind2 λ_=>r _
 |load ty x=>exact(rm).bind2 λ_=>(Lj).bind2 λ_=>r _
 |store ty x y=>exact(rm).bind2 λ_=>(dA).bind2 λ_=>λκ out e=>(by obtain⟨a,b,h⟩:=SI _ _ e;exact⟨t,.skip a b,λκ'=>h _⟩)
 |nilCheck x=>exact(rm).bind2 λ_=>(aaY).bind2 λ_=>r _
 |binOp op ty x y _ =>
  simp only[mg];refine(dA).bind2 λ_=>(dA).bind2 λ_=>iC.cond _ ?_ ((aaZ).bind2 λ_=>r _);split
  .exact(aaN).bind2 λ_=>r _
  .exact .none
 |unOp op _ x=>exact(dA).bind2 λ_=>(afO).bind2 λ_=>r _
 |convert _ dst x=>exact(dA).bind2 λ_=>(XJ).bind2 λ_=>r _
 |makeInterface ty x =>
  refine(dA).bind2 λa=>?_;split
  .exact .none
  .exact r _
  .exact .none
 |makeFunc fn first cap =>
  simp only[mg];split
  .exact(uw _ _).bind2 λ_=>(uw _ _).bind2 λ_=>r _
  .exact .none
 |makeMap ty n=>cases n<;>first|exact r _|exact .none
 |makeSlice ty l c =>
  simp only[mg];split
  .split
   .split
    .refine iC.cond _ ((dA).bind2 λd=>?_) .none;split
     .exact(qn).bind2 λn=>λκ out e=>(by obtain⟨a,b,h⟩:=aaO _ _ e;exact⟨t,_,λκ'=>h _⟩)
     .exact .none
    .exact .none
   .exact .none
  .exact .none
 |slice ty x lo hi mx=>exact(dA).bind2 λ_=>(IA).bind2 λ_=>(IA).bind2 λ_=>(IA).bind2 λ_=>λκ out e=>(by obtain⟨a,b,h⟩:=SJ _ _ e;exact⟨t,_,λκ'=>h _⟩)
 |fieldAddr ty x f=>exact(rm).bind2 λ_=>(SP).bind2 λ_=>r _
 |field ty x f=>exact(dA).bind2 λ_=>(SO).bind2 λ_=>r _
 |indexAddr ty x i=>exact(dA).bind2 λ_=>(dA).bind2 λ_=>(SM).bind2 λ_=>r _
 |index ty x i=>exact(dA).bind2 λ_=>(dA).bind2 λ_=>(SL).bind2 λ_=>r _
 |lookup ty x k ok=>exact(dA).bind2 λ_=>(dA).bind2 λ_=>(XH).bind2 λ_=>r _
 |mapUpdate ty m k x=>exact(dA).bind2 λ_=>(dA).bind2 λ_=>(dA).bind2 λ_=>(Li).bind2 λ_=>r _
 |insert ty m k x=>exact(dA).bind2 λ_=>(dA).bind2 λ_=>(dA).bind2 λ_=>(Li).bind2 λ_=>r _
 |typeAssert x _ ty ok=>exact(dA).bind2 λ_=>(NN).bind2 λ_=>r _
 |extract x i=>exact(dA).bind2 λ_=>(aaW).bind2 λ_=>r _
 |call c =>
  simp only[mg];refine(uw _ _).bind2 λargs=>?_;split
  .exact(SR).bind2 λx=>r x
  .refine(dA).bind2 λf=>?_;cases esc
   .exact(SQ).bind2 λx=>r x
   .exact(XE).bind2 λx=>r x
  .exact .none
 |defer c =>
  simp only[mg];refine(uw _ _).bind2 λargs=>?_;split
  .refine(dA).bind2 λf=>?_;split
   .exact iC.cond _ (r _) .none
   .exact .none
  .exact .none
 |panic x =>
  simp only[mg];refine(dA).bind2 λx=>?_;split
  .exact r _
  .exact .none
 |_=>exact .none
def Lk{h:Hk}{d:D}{H:DH}:iC (eZ h d H):=by
 unfold eZ;split
 .split
  .exact ux λ_ _ _ _=>iC.boK _ (.ret _ _)
  .exact .ret _ _
  .exact .ret _ _
  .exact .none
 .split
  .exact iC.cond _ (.ret _ _) .none
  .exact .ret _ _
  .exact .none
def SN(h:Hk)(c:Nat)(d:D)(H:DH):iC (ct h c d H):=by
 unfold ct;split
 .refine(IC _ _).bind2 λx=>λκ out e=>?_;obtain⟨a,b,k⟩:=Lk _ _ e;exact⟨_,_,λκ'=>k _⟩
 .exact iC.cond _ (Lk) .none
def iC.bind2{γ δ:Type}{c:(α->β->av)->av}{d:α->β->(γ->δ->av)->av}(h:iC c)(k:∀ a b,iC (d a b)):iC (λκ=>c λa b=>d a b κ):=λκ out e=>by obtain⟨a,b,i⟩:=h _ out e;obtain⟨x,y,j⟩:=k a b κ out ((i _).symm.trans e);exact⟨x,y,λ_=>(i _).trans (j _)⟩
def Gv:∀ l d H,iC (BG l d H)
 |[],d,H=>.ret d H
 |(c,h)::r,d,H=>(SN h c d H).bind2 λd H=>Gv r d H
def pN{a:List (Nat×List (Nat×Hk))}{dst:Option Tmp}{x:LD}{H:DH}:iC (tT a dst x H):=by
 unfold tT;split
 .exact .ret _ _
 .split
  .exact .ret _ _
  .split
   .exact .ret _ _
   .split
    .exact(Gv _ _ _).bind2 λ_ _=>.ret _ _
    .exact .none
def MW(x:V)(r:List V)(i:Nat)(t:T V):ls (x::r) i t id=ls r (i+1) (putD t (some i) x) id:=by simp only[ls,T.setK_eq];rfl
def JY(t:T V)(d i:Nat)(v:V):(putD t (some d) v).get (fQ i)=if d=i then some v else t.get (fQ i):=by rw[JZ];simp
theorem kK(P:Program)(s:S)(ty:TypeId)(a:Ad):jC P s ty (some (.ptr a))=bS s (loadVar P s ty a):=rfl
def yy(P:Program)(s:S)(ty:TypeId)(a:Ad)(v:V):uf P s ty (some (.ptr a)) (some v)=Mm (storeVar P s ty a v):=rfl
def WF(s:S):Prop:=∀ f B,s.get f=some B->f<s.next
def Ex(a s:S):Prop:=∀ f vs,a.get f=some (.ro vs)->s.get f=some (.ro vs)
structure Fw(F:List Nat)(s s':S):Prop where
 keep:∀ g B,g∉F->s.get g=some B->s'.get g=some B
 ro:∀ g vs,s.get g=some (.ro vs)->s'.get g=some (.ro vs)
 next:s.next<=s'.next
 wf:WF s->WF s'
def Fw.alloc(F:List Nat){s:S}(c:WF s)(B:ef):Fw F s (s.alloc B):=by
 refine⟨λg C _ a=>?_,λg vs a=>?_,by rw[S.next_alloc];omega,λ_ g C a=>?_⟩
 .rw[S.get_alloc,ajD (by have:=c g C a;omega)];exact a
 .rw[S.get_alloc,ajD (by have:=c g _ a;omega)];exact a
 .rw[S.get_alloc]at a;rw[S.next_alloc];split at a
  .omega
  .have:=c g C a;omega
def ka(s:S):List (Nat×ef)->Prop
 |[]=>True
 |(f,B)::m=>(s.get f=some B/\(∀ vs,B≠.ro vs)/\∀ x∈m,x.1≠f)/\ka s m
def ka.keep:∀ {s s':S} {m:List (Nat×ef)},ka s m->(∀ x∈m,s'.get x.1=some x.2)->ka s' m
 |s,s',[],_,_=>trivial
 |s,s',(g,C)::m,h,k=>⟨⟨k (g,C) (by simp),h.1.2⟩,ka.keep h.2 λx a=>k x (acl _ a)⟩
section
variable{s:S}{f:Nat}{e:TypeId}{sb:Bool}{nv:Nat}{cs:List V}
def yX(c:Nat):Nat.ble 0 c=true:=acw (anI c)
def ldn(h:s.get f=some (.cells e sb nv [⟨0,0,cs⟩]))(c n:Nat):loadCells s ⟨f,0,c⟩ n=bA n (cs.drop c):=by simp_all[loadCells,bY,yX]
def iD(h:s.get f=some (.cells e sb nv [⟨0,0,cs⟩]))(c:Nat)(new:List V)(a:new.all V.one=true){cs':List V}(d:cI cs c new=some cs'):storeCells s ⟨f,0,c⟩ new=some (s.put f (.cells e sb nv [⟨0,0,cs'⟩])):=by unfold storeCells;rw[h];simp[bY,a,d,yX]
end
theorem ir{s:S}{B:ef}:(s.alloc B).get s.next=some B:=by rw[S.get_alloc,akJ rfl]
def NY(n:Int)(h:-9223372036854775808<=n/\n<=9223372036854775807):IntKind.i64.wrap n=n:=IntWalk.i64_in n h
def eu:∀(l:List V) (n:Nat),l.length=n->bA n l=some l
 |[],0,_=>rfl
 |[],_+1,h=>by simp at h
 |_::_,0,h=>by simp at h
 |x::l,n+1,h=>by simp[bA,eu l n (by simpa using h)]
structure Gh where
 O:List (Option (Nat×Nat))
 H:DH
 Pv:List Nat
 s:S
def Gh.Imm(g:Gh)(f:Nat):Prop:=f<g.s.next/\f∉g.Pv/\∀(o v:Nat),g.O[o]? = some (some (f,v))->∃ sz cap l,g.H[o]? = some (DB.buf sz false cap l)
def bk(vs:List V):Prop:=vs.all V.one=true
def NE(cap:Bool)(n:Nat):Option Nat:=bif cap then some n else none
def XU(g:Gh)(sz o n:Nat)(v:V):Prop:=∃ st cap l,g.H[o]? = some (DB.buf sz st cap l)/\n<=l.length /\
 ((n=0/\(v=.nilslice\/∃ a z sz',v=.slice a z 0 (some 0) sz'))\/(0<n/\∃ f ver ver' cap',g.O[o]? = some (some (f,ver))/\v=.slice ⟨f,ver',0⟩ 0 n cap' sz/\(n=l.length->ver'=ver/\cap'=NE cap n)))
mutual
def RD(g:Gh):D->V->Prop
 |.bool b,v=>v=.bool b
 |.int k n,v=>v=.int k n
 |.str l,v=>v=.str l/\∀ c∈l,c<256
 |.ptr o c,v=>∃ f ver,g.O[o]? = some (some (f,ver))/\v=.ptr ⟨f,0,c⟩
 |.eptr cs c,v=>∃ a vs,v=.ptr (cV a c)/\g.Imm a.f/\loadCells g.s a cs.length=some vs/\RL g cs vs/\bk vs
 |.bptr o n i c,v=>∃ f ver sz st cap l ver',g.O[o]? = some (some (f,ver))/\g.H[o]? = some (DB.buf sz st cap l)/\n<=l.length/\i<n/\v=.ptr ⟨f,ver',i*sz+c⟩/\(n=l.length->ver'=ver)
 |.nilptr,v=>v=.nilptr
 |.row sz l,v=>(l=[]/\v=.nilslice)\/(l=[]/\∃ a z sz',v=.slice a z 0 (some 0) sz') \/
  ∃ a z cap,v=.slice a z l.length cap sz/\0<sz/\(cap.isSome=true\/z=a.c)/\(∀ c,cap=some c->l.length<=c)/\(l≠[]->g.Imm a.f)/\RR g a sz l
 |.buf sz o n,v=>XU g sz o n v
 |.nilrow,v=>v=.nilslice\/∃ a z sz,v=.slice a z 0 (some 0) sz
 |.map o,v=>∃ f ver,g.O[o]? = some (some (f,ver))/\v=.map f
 |.nilmap,v=>v=.nilmap
 |.func fn a b,v=>∃ h j,v=.func (.func fn) h j/\RL g a h/\RL g b j
 |.nilFunc,v=>v=.nilFunc
 |.iface t d,v=>∃ v',v=.iface t v'/\RD g d v'
 |.nilIface,v=>v=.nilIface
 |.yld o,v=>∃ f ver,g.O[o]? = some (some (f,ver))/\v=.func (.yield f) [] []
 |.abool,v=>∃ q,v=.bool q
 |.agg cs,v=>∃ vs,v=.agg vs/\RL g cs vs/\bk vs
 |.tuple ds,v=>∃ vs,v=.tuple vs/\RL g ds vs
def RL(g:Gh):List D->List V->Prop
 |[],vs=>vs=[]
 |d::r,vs=>∃ v vs',vs=v::vs'/\RD g d v/\RL g r vs'
def RR(g:Gh)(a:Ad)(sz:Nat):List (List D)->Prop
 |[]=>True
 |cs::r=>(∃ vs,cs.length=sz/\loadCells g.s a sz=some vs/\RL g cs vs/\bk vs)/\RR g (cV a sz) sz r
end
def DI(a:Ad)(m n:Nat):cV (cV a m) n=cV a (m+n):=by simp only[cV,aoA]
def XM(a:Ad)(m:Nat):(cV a m).f=a.f:=rfl
structure qt(g g':Gh):Prop where
 hl:g.H.length<=g'.H.length
 o1:∀(o f v:Nat),g.O[o]? = some (some (f,v))->∃ v',g'.O[o]? = some (some (f,v'))
 buf:∀(o:Nat) sz st cap l,g.H[o]? = some (DB.buf sz st cap l)->∃ st' cap' l',g'.H[o]? = some (DB.buf sz st' cap' l')/\l.length<=l'.length/\(st=false->st'=false)/\(l.length=l'.length->cap'=cap/\g'.O[o]? = g.O[o]?)
 imm:∀ f,g.Imm f->g'.Imm f
 cells:∀ a n vs,g.Imm a.f->loadCells g.s a n=some vs->loadCells g'.s a n=some vs
 next:g.s.next<=g'.s.next
theorem qt.refl(g:Gh):qt g g:=⟨abH _,λ_ _ v h=>⟨v,h⟩,λ_ _ st cap l h=>⟨st,cap,l,h,abH _,id,λ_=>⟨rfl,rfl⟩⟩,λ_ h=>h,λ_ _ _ _ h=>h,abH _⟩
def qt.trans{a b c:Gh}(h:qt a b)(k:qt b c):qt a c:=by
 refine⟨akG h.hl k.hl,λo f v ho=>?_,λo sz st cap l ho=>?_,λf i=>k.imm f (h.imm f i),λx n vs hi j=>k.cells x n vs (h.imm _ hi) (h.cells x n vs hi j),akG h.next k.next⟩
 .obtain⟨v',d⟩:=h.o1 o f v ho;exact k.o1 o f v' d
 .obtain⟨st',cap',l',d,h2,h3,h4⟩:=h.buf o sz st cap l ho;obtain⟨st2,cap2,l2,k1,k2,k3,k4⟩:=k.buf o sz st' cap' l' d
  grind
def XU.mono{g g':Gh}(h:qt g g'){sz o n:Nat}{v:V}(r:XU g sz o n v):XU g' sz o n v:=by
 obtain⟨st,cap,l,d,i,a⟩:=r;obtain⟨st',cap',l',j,k,k3,k4⟩:=h.buf o sz st cap l d;refine⟨st',cap',l',j,akG i k,?_⟩;rcases a with a|⟨a,f,ver,ver',c,m,p,h6⟩
 .exact .inl a
 .obtain⟨v2,q⟩:=h.o1 o f ver m;refine .inr ⟨a,f,v2,ver',c,q,p,λe=>?_⟩
  grind
mutual
def RD.mono{g g':Gh}(h:qt g g'):∀ {d:D} {v:V},RD g d v->RD g' d v
 |.bool _,_,r=>by simpa only[RD]using r
 |.int ..,_,r=>by simpa only[RD]using r
 |.str _,_,r=>by simpa only[RD]using r
 |.ptr o c,v,r=>by
  simp only[RD]at r ⊢;obtain⟨f,ver,j,k⟩:=r;obtain⟨v',m⟩:=h.o1 o f ver j
  grind
 |.eptr cs c,v,r=>by simp only[RD]at r ⊢;obtain⟨a,vs,j,k,m,q,p⟩:=r;exact⟨a,vs,j,h.imm _ k,h.cells _ _ _ k m,RL.mono h q,p⟩
 |.bptr o n i c,v,r=>by
  simp only[RD]at r ⊢;obtain⟨f,ver,sz,st,cap,l,ver',j,k,m,q,p,u⟩:=r;obtain⟨st',cap',l',k1,k2,k3,k4⟩:=h.buf o sz st cap l k;obtain⟨v2,h7⟩:=h.o1 o f ver j
  grind
 |.nilptr,_,r=>by simpa only[RD]using r
 |.row sz l,v,r=>by
  simp only[RD]at r ⊢;rcases r with r|r|⟨a,z,cap,j,k,m,q,p,u⟩
  .exact .inl r
  .grind
  .refine .inr (.inr ⟨a,z,cap,j,k,m,q,λe=>h.imm _ (p e),?_⟩);cases hl:l with
   |nil=>simp only[RR]
   |cons x y=>rw[<- hl];exact RR.mono h (p (by rw[hl];simp)) u
 |.buf sz o n,v,r=>by simp only[RD]at r ⊢;exact r.mono h
 |.nilrow,_,r=>by simpa only[RD]using r
 |.map o,v,r=>by
  simp only[RD]at r ⊢;obtain⟨f,ver,j,k⟩:=r;obtain⟨v',m⟩:=h.o1 o f ver j
  grind
 |.nilmap,_,r=>by simpa only[RD]using r
 |.func fn a b,v,r=>by simp only[RD]at r ⊢;obtain⟨w,A,j,k,m⟩:=r;exact⟨w,A,j,RL.mono h k,RL.mono h m⟩
 |.nilFunc,_,r=>by simpa only[RD]using r
 |.iface t d,v,r=>by simp only[RD]at r ⊢;obtain⟨v',j,k⟩:=r;exact⟨v',j,RD.mono h k⟩
 |.nilIface,_,r=>by simpa only[RD]using r
 |.yld o,v,r=>by
  simp only[RD]at r ⊢;obtain⟨f,ver,j,k⟩:=r;obtain⟨v',m⟩:=h.o1 o f ver j
  grind
 |.abool,_,r=>by simpa only[RD]using r
 |.agg cs,v,r=>by simp only[RD]at r ⊢;obtain⟨vs,j,k,m⟩:=r;exact⟨vs,j,RL.mono h k,m⟩
 |.tuple ds,v,r=>by simp only[RD]at r ⊢;obtain⟨vs,j,k⟩:=r;exact⟨vs,j,RL.mono h k⟩
def RL.mono{g g':Gh}(h:qt g g'):∀ {ds:List D} {vs:List V},RL g ds vs->RL g' ds vs
 |[],_,r=>by simpa only[RL]using r
 |d::l,vs,r=>by simp only[RL]at r ⊢;obtain⟨v,vs',a,c,i⟩:=r;exact⟨v,vs',a,RD.mono h c,RL.mono h i⟩
def RR.mono{g g':Gh}(h:qt g g'):∀ {l:List (List D)} {a:Ad} {sz:Nat},g.Imm a.f->RR g a sz l->RR g' a sz l
 |[],_,_,_,_=>by simp only[RR]
 |cs::l,a,sz,hi,r=>by simp only[RR]at r ⊢;obtain⟨⟨vs,c,d,i,j⟩,k⟩:=r;exact⟨⟨vs,c,h.cells _ _ _ hi d,RL.mono h i,j⟩,RR.mono h (by rw[XM];exact hi) k⟩
end
def RL.len{g:Gh}:∀ {ds:List D} {vs:List V},RL g ds vs->vs.length=ds.length
 |[],_,r=>by simp only[RL]at r;rw[r];rfl
 |d::l,_,r=>by simp only[RL]at r;obtain⟨v,vs',rfl,_,a⟩:=r;simp only[aga,RL.len a]
theorem RL.at{g:Gh}:∀ {ds:List D} {vs:List V} {i:Nat} {d:D},RL g ds vs->ds[i]? = some d->∃ v,vs[i]? = some v/\RD g d v
 |[],_,i,d,r,h=>by simp at h
 |x::l,_,i,d,r,h=>by
  simp only[RL]at r;obtain⟨v,vs',rfl,a,c⟩:=r;cases i with
  |zero=>simp at h;subst h;exact⟨v,rfl,a⟩
  |succ i=>simpa using RL.at c (by simpa using h)
def RL.append{g:Gh}:∀ {a:List D} {x:List V} {b:List D} {y:List V},RL g a x->RL g b y->RL g (a++b) (x++y)
 |[],_,b,y,h,k=>by simp only[RL]at h;subst h;exact k
 |d::l,_,b,y,h,k=>by simp only[RL]at h;obtain⟨v,vs',rfl,c,i⟩:=h;simp only[ajo,RL];exact⟨v,vs'++y,rfl,c,RL.append i k⟩
theorem RL.drop{g:Gh}:∀ {a:List D} {x:List V} (n:Nat),RL g a x->RL g (a.drop n) (x.drop n)
 |a,x,0,h=>h
 |[],_,n+1,h=>by simp only[RL]at h;subst h;simp[RL]
 |d::l,_,n+1,h=>by simp only[RL]at h;obtain⟨v,vs',rfl,_,h3⟩:=h;simp_all[RL.drop]
def RL.take{g:Gh}:∀ {a:List D} {x:List V} (n:Nat),RL g a x->RL g (a.take n) (x.take n)
 |a,x,0,h=>by simp[RL]
 |[],_,n+1,h=>by simp only[RL]at h;subst h;simp[RL]
 |d::l,_,n+1,h=>by simp only[RL]at h;obtain⟨v,vs',rfl,c,i⟩:=h;simp only[aol,RL];exact⟨v,_,rfl,c,RL.take n i⟩
def RL.set{g:Gh}:∀ {a:List D} {x:List V} (i:Nat) {d:D} {v:V},RL g a x->RD g d v->RL g (a.set i d) (x.set i v)
 |[],_,i,d,v,h,k=>by simp only[RL]at h;subst h;simp[RL]
 |y::l,_,0,d,v,h,k=>by grind [RL]
 |y::l,_,i+1,d,v,h,k=>by simp only[RL]at h;obtain⟨w,vs',rfl,c,j⟩:=h;simp only[List.set_cons_succ,RL];exact⟨w,_,rfl,c,RL.set i j k⟩
theorem RR.at{g:Gh}:∀ {l:List (List D)} {a:Ad} {sz i:Nat} {cs:List D},RR g a sz l->l[i]? = some cs->∃ vs,cs.length=sz/\loadCells g.s (cV a (i*sz)) sz=some vs/\RL g cs vs/\bk vs
 |[],_,_,_,_,_,h=>by simp at h
 |x::l,a,sz,i,cs,r,h=>by
  simp only[RR]at r;cases i with
  |zero=>simp at h;subst h;rw[apo];exact r.1
  |succ i =>have:=RR.at r.2 (i:=i) (by simpa using h);simp_all[DI,aoY,Nat.add_comm]
def RR.of{g:Gh}:∀ {l:List (List D)} {a:Ad} {sz:Nat},(∀ i cs,l[i]? = some cs->∃ vs,cs.length=sz/\loadCells g.s (cV a (i*sz)) sz=some vs/\RL g cs vs/\bk vs)->RR g a sz l
 |[],_,_,_=>by simp only[RR]
 |x::l,a,sz,h=>by
  simp only[RR];refine⟨?_,RR.of λi cs c=>?_⟩
  .have:=h 0 x rfl;rw[apo]at this;exact this
  .rw[DI,show sz+i*sz=(i+1)*sz by rw[aoY,Nat.one_mul,Nat.add_comm]];exact h (i+1) cs (by simpa using c)
def RS(g:Gh)(LO:List Nat):LD->V->Prop
 |.g d,v=>RD g d v
 |.lp k c,v=>∃ f,LO[k]? = some f/\v=.ptr ⟨f,0,c⟩
 |.u,v=>v=V.undef
def RS.mono{g g':Gh}(h:qt g g'){LO:List Nat}{x:LD}{v:V}(r:RS g LO x v):RS g' LO x v:=by
 cases x with
 |g d=>exact RD.mono h r
 |lp k c=>exact r
 |u=>exact r
def RS.ext{g:Gh}{LO LO':List Nat}(h:LO <+: LO'){x:LD}{v:V}(r:RS g LO x v):RS g LO' x v:=by
 cases x with
 |g d=>exact r
 |lp k c =>
  obtain⟨f,h1,a⟩:=r;obtain⟨m,rfl⟩:=h;refine⟨f,?_,a⟩
  grind
 |u=>exact r
def EC(g:Gh)(LO:List Nat)(t:T LD)(tv:T V):Prop:=∀ i x,t.get (fQ i)=some x->∃ v,tv.get (fQ i)=some v/\RS g LO x v
def EC.mono{g g':Gh}(h:qt g g'){LO LO':List Nat}(hl:LO <+: LO'){t:T LD}{tv:T V}(r:EC g LO t tv):EC g' LO' t tv:=λi x a=>by obtain⟨v,c,d⟩:=r i x a;exact⟨v,c,(d.mono h).ext hl⟩
def PvR(g:Gh)(x:Nat×List D)(f:Nat):Prop:=f∈g.Pv/\(x.2=[]\/∃ el vs,g.s.get f=some (.cells el false 1 [⟨0,0,vs⟩])/\RL g x.2 vs/\bk vs)
def LRw(g:Gh)(L:LS)(LO:List Nat):Prop:=∀(k:Nat) x f,L[k]? = some x->LO[k]? = some f->PvR g x f
def LR(g:Gh)(L:LS)(LO:List Nat):Prop:=L.length=LO.length/\LRw g L LO
def sw(g:Gh):List (D×D)->List qE->Prop
 |[],es=>es=[]
 |(k,v)::r,es=>∃ e es',es=e::es'/\RD g k e.key/\RD g v e.val/\e.key.one=true/\sw g r es'
def sw.mono{g g':Gh}(h:qt g g'):∀ {l:List (D×D)} {es:List qE},sw g l es->sw g' l es
 |[],_,r=>r
 |(k,v)::l,_,r=>by obtain⟨e,es',a,c,d,i,j⟩:=r;exact⟨e,es',a,RD.mono h c,RD.mono h d,i,sw.mono h j⟩
def nW(g:Gh)(o:Nat):DB->Prop
 |.dead=>False
 |.opq=>∃ f v,g.O[o]? = some (some (f,v))
 |.coll=>∃ f,g.O[o]? = some (some (f,0))/\g.s.get f=some .deferred
 |.loop rdy fn nt t ps a b=>∃ f tv d,g.O[o]? = some (some (f,0))/\g.s.get f=some (.loop (bif rdy then .ready else .busy) none fn tv ps a b d nt)/\EC g [] t tv
 |.cells _ cs=>∃ f el vs,g.O[o]? = some (some (f,0))/\g.s.get f=some (.cells el false 1 [⟨0,0,vs⟩])/\RL g cs vs/\bk vs
 |.map es=>∃ f ents clock,g.O[o]? = some (some (f,0))/\g.s.get f=some (.map ents clock)/\sw g es ents
 |.buf sz _ _ l=>0<sz/\((l=[]/\g.O[o]? = some none)\/(l≠[]/\∃ f ver el nv vers cells,g.O[o]? = some (some (f,ver))/\g.s.get f=some (.cells el false nv vers) /\
  bY vers ver=some ⟨ver,0,cells⟩/\cells.length=l.length*sz/\(∀ u∈vers,u.v<nv/\u.lo+u.cells.length<=cells.length)/\RR g ⟨f,ver,0⟩ sz l))
class gu where
 I:S->Prop
 bl:List Nat
 stb:∀ s s':S,(∀ f∈bl,s'.get f=s.get f)->I s->I s'
variable[gu]
structure Gl(g:Gh):Prop where
 i:gu.I g.s
 b:∀ f∈gu.bl,f<g.s.next/\f∉g.Pv/\∀(o v:Nat),g.O[o]?≠some (some (f,v))
theorem Gl.to{g g':Gh}(h:Gl g)(k:∀ f,f<g.s.next->f∉g.Pv->(∀(o v:Nat),g.O[o]?≠some (some (f,v)))->g'.s.get f=g.s.get f/\f<g'.s.next/\f∉g'.Pv/\∀(o v:Nat),g'.O[o]?≠some (some (f,v))):Gl g' :=
 ⟨gu.stb _ _ (λf a=>(k f (h.b f a).1 (h.b f a).2.1 (h.b f a).2.2).1) h.i,λf a=>(k f (h.b f a).1 (h.b f a).2.1 (h.b f a).2.2).2⟩
structure Ok(g:Gh):Prop where
 len:g.O.length=g.H.length
 wf:WF g.s
 inj:∀(o o' f v v':Nat),g.O[o]? = some (some (f,v))->g.O[o']? = some (some (f,v'))->o=o'
 lt:∀(o f v:Nat),g.O[o]? = some (some (f,v))->f<g.s.next/\f∉g.Pv
 pv:∀ f∈g.Pv,f<g.s.next
 obj:∀(o:Nat) b,g.H[o]? = some b->nW g o b
 gl:Gl g
structure Mv(b:Nat)(g g':Gh):Prop where
 le:qt g g'
 out:∀ f,f<b->(∀(o v:Nat),g.O[o]?≠some (some (f,v)))->g'.s.get f=g.s.get f
 fresh:∀(o f v:Nat),g'.O[o]? = some (some (f,v))->f<b->∃ v',g.O[o]? = some (some (f,v'))
 stm:∀(o:Nat) s1 c1 f v,g.H[o]? = some (.cells s1 c1)->g.O[o]? = some (some (f,v))->∃ s2 c2,g'.H[o]? = some (.cells s2 c2)/\s1<=s2/\(s1=s2->c2=c1/\g'.s.get f=g.s.get f)
theorem Mv.refl(b:Nat)(g:Gh):Mv b g g:=⟨.refl g,λ_ _ _=>rfl,λ_ _ v h _=>⟨v,h⟩,λ_ s1 c1 _ _ h _=>⟨s1,c1,h,abH _,λ_=>⟨rfl,rfl⟩⟩⟩
theorem Mv.trans{b:Nat}{x y z:Gh}(h:Mv b x y)(k:Mv b y z):Mv b x z:=by
 refine⟨h.le.trans k.le,λf a i=>?_,λo f v ho a=>?_,λo s1 c1 f v c d=>?_⟩
 .rw[k.out f a λo v e=>?_,h.out f a i];obtain⟨v',c⟩:=h.fresh o f v e a
  grind
 .obtain⟨v',c⟩:=k.fresh o f v ho a;exact h.fresh o f v' c a
 .obtain⟨s2,c2,j,k2,k3⟩:=h.stm o s1 c1 f v c d;obtain⟨v',l⟩:=h.le.o1 o f v d;obtain⟨s3,c3,j1,j2,j3⟩:=k.stm o s2 c2 f v' j l
  grind
theorem Mv.down{b c:Nat}{g g':Gh}(h:Mv b g g')(hc:c<=b):Mv c g g':=⟨h.le,λf a=>h.out f (ajN a hc),λo f v ho a=>h.fresh o f v ho (ajN a hc),h.stm⟩
structure FI(b:Nat)(P0:List Nat)(g:Gh)(t:T LD)(L:LS)(tv:T V)(LO:List Nat):Prop where
 ok:Ok g
 slots:EC g LO t tv
 own:LR g L LO
 pv:g.Pv=P0++LO
 low:∀ f∈LO,b<=f
 nd:LO.Nodup
 bl:b<=g.s.next
end
section
variable[gu]
theorem dB{s s':S}{a:Ad}(h:s'.get a.f=s.get a.f)(n:Nat):loadCells s' a n=loadCells s a n:=by grind [loadCells]
theorem RR.keep{g g':Gh}(h:qt g g'):∀ {l:List (List D)} {a:Ad} {sz:Nat},g'.s.get a.f=g.s.get a.f->RR g a sz l->RR g' a sz l
 |[],_,_,_,_=>by simp only[RR]
 |cs::l,a,sz,hi,r=>by simp only[RR]at r ⊢;obtain⟨⟨vs,c,d,i,j⟩,k⟩:=r;exact⟨⟨vs,c,by rw[dB hi];exact d,RL.mono h i,j⟩,RR.keep h (by rw[XM];exact hi) k⟩
theorem nW.keep{g g':Gh}(h:qt g g'){o:Nat}{b:DB}(j:g'.O[o]? = g.O[o]?)(m:∀ f v,g.O[o]? = some (some (f,v))->g'.s.get f=g.s.get f)(r:nW g o b):nW g' o b:=by
 cases b with
 |dead=>exact r
 |opq=>obtain⟨f,v,a⟩:=r;exact⟨f,v,by rw[j];exact a⟩
 |coll=>obtain⟨f,a,i⟩:=r;exact⟨f,by rw[j];exact a,by rw[m f 0 a];exact i⟩
 |loop _ _ _ _ _ _ _=>obtain⟨f,tv,d,a,i,k⟩:=r;exact⟨f,tv,d,by rw[j];exact a,by rw[m f 0 a];exact i,k.mono h aoq⟩
 |cells st cs =>obtain⟨f,el,vs,a,i,k,n⟩:=r;exact⟨f,el,vs,by rw[j];exact a,by rw[m f 0 a];exact i,k.mono h,n⟩
 |map es =>obtain⟨f,ents,c,a,i,k⟩:=r;exact⟨f,ents,c,by rw[j];exact a,by rw[m f 0 a];exact i,k.mono h⟩
 |buf sz st cap l =>
  obtain⟨h0,a|⟨a,f,ver,el,nv,vers,cells,i,k,n,p,q,u⟩⟩:=r
  .exact⟨h0,.inl ⟨a.1,by rw[j];exact a.2⟩⟩
  .exact⟨h0,.inr ⟨a,f,ver,el,nv,vers,cells,by rw[j];exact i,by rw[m f ver i];exact k,n,p,q,u.keep h (m f ver i)⟩⟩
theorem LR.keep{g g':Gh}(h:qt g g'){L:LS}{LO:List Nat}(hp:∀ f∈LO,f∈g'.Pv)(d:∀ f∈LO,g'.s.get f=g.s.get f)(r:LR g L LO):LR g' L LO:=by
 refine⟨r.1,λk x f i c=>?_⟩;have hm:=akV c;obtain⟨h1,a⟩:=r.2 k x f i c;refine⟨hp f hm,?_⟩;rcases a with a|⟨el,vs,a,j,l⟩
 .exact .inl a
 .exact .inr ⟨el,vs,by rw[d f hm];exact a,j.mono h,l⟩
theorem aY{s:S}{B:ef}{f:Nat}(h:f<s.next):(s.alloc B).get f=s.get f:=by rw[S.get_alloc,ajD (by omega)]
theorem uv{s:S}{B:ef}{f:Nat}(h:f<s.next):f<(s.alloc B).next:=by rw[S.next_alloc];omega
theorem sD{s:S}(a:WF s)(B:ef):WF (s.alloc B):=(Fw.alloc [] a B).wf a
theorem Th{s:S}(c:WF s){f:Nat}{B0:ef}(h0:s.get f=some B0)(B:ef):WF (s.put f B):=λg C a=>by
 rw[S.get_put]at a;rw[S.next_put];split at a
 .rename_i e;subst e;exact c _ _ h0
 .exact c g C a
theorem jl{α:Type}{l:List α}{x:α}:(l++[x])[l.length]? = some x:=by simp
theorem fT{α:Type}{l:List α}{i:Nat}{x:α}(m:List α)(h:l[i]? = some x):(l++m)[i]? = some x:=by grind
theorem bN{α:Type}{l:List α}{i:Nat}{x y:α}(h:(l++[y])[i]? = some x):l[i]? = some x\/(i=l.length/\x=y):=by grind
section
variable{b:Nat}{P0:List Nat}{g:Gh}{t:T LD}{L:LS}{tv:T V}{LO:List Nat}
def Gh.blk(g:Gh)(B:ef):Gh:=⟨g.O,g.H,g.Pv,g.s.alloc B⟩
theorem ZJ(B:ef){f:Nat}(h:g.Imm f):(g.blk B).Imm f:=⟨by show f<(g.s.alloc B).next;rw[S.next_alloc];have:=h.1;omega,h.2.1,h.2.2⟩
theorem ML(B:ef):qt g (g.blk B):=by refine⟨abH _,λ_ _ v h=>⟨v,h⟩,λ_ _ st cap l h=>⟨st,cap,l,h,abH _,id,λ_=>⟨rfl,rfl⟩⟩,λf h=>ZJ B h,λa n vs hi c=>?_,by show _<=(g.s.alloc B).next;rw[S.next_alloc];omega⟩;rw[<- c];exact dB (aY hi.1) n
theorem Ok.blk(h:Ok g)(B:ef):Ok (g.blk B):=by
 refine⟨h.len,sD h.wf B,h.inj,λo f v ho=>⟨?_,(h.lt o f v ho).2⟩,λf a=>?_,λo b hb=>(h.obj o b hb).keep (ML B) rfl λf v ho=>aY (h.lt o f v ho).1,h.gl.to λf a hp ho=>⟨aY a,uv a,hp,ho⟩⟩
 .have:=(h.lt o f v ho).1;show f<(g.s.alloc B).next;rw[S.next_alloc];omega
 .have:=h.pv f a;show f<(g.s.alloc B).next;rw[S.next_alloc];omega
theorem Mw(h:Ok g)(hb:b<=g.s.next)(B:ef):Mv b g (g.blk B):=⟨ML B,λf a _=>aY (ajN a hb),λ_ _ v h _=>⟨v,h⟩,λo s1 c1 f v c d=>⟨s1,c1,c,abH _,λ_=>⟨rfl,aY (h.lt o f v d).1⟩⟩⟩
theorem FI.to(h:FI b P0 g t L tv LO){g':Gh}(a:Ok g')(hm:Mv b g g')(hp:g'.Pv=g.Pv)(c:∀ f∈LO,g'.s.get f=g.s.get f):FI b P0 g' t L tv LO :=
 ⟨a,h.slots.mono hm.le aoq,h.own.keep hm.le (λf d=>by rw[hp,h.pv];exact anS _ d) c,by rw[hp];exact h.pv,h.low,h.nd,akG h.bl hm.le.next⟩
theorem FI.lo_lt(h:FI b P0 g t L tv LO){f:Nat}(a:f∈LO):f<g.s.next:=h.ok.pv f (by rw[h.pv];exact anS _ a)
theorem FI.lo_out(h:FI b P0 g t L tv LO){f:Nat}(a:f∈LO)(o v:Nat):g.O[o]?≠some (some (f,v)):=λe=>(h.ok.lt o f v e).2 (by rw[h.pv];exact anS _ a)
theorem FI.blk(h:FI b P0 g t L tv LO)(B:ef):FI b P0 (g.blk B) t L tv LO:=h.to (h.ok.blk B) (Mw h.ok h.bl B) rfl λ_ a=>aY (h.lo_lt a)
def Gh.obj(g:Gh)(x:DB)(B:ef):Gh:=⟨g.O++[some (g.s.next,0)],g.H++[x],g.Pv,g.s.alloc B⟩
theorem ZI(hl:g.O.length=g.H.length)(x:DB)(B:ef){f:Nat}(h:g.Imm f):(g.obj x B).Imm f:=by
 refine⟨by show f<(g.s.alloc B).next;rw[S.next_alloc];have:=h.1;omega,h.2.1,λo v ho=>?_⟩;rcases bN ho with ho|⟨_,e⟩
 .obtain⟨sz,cap,l,a⟩:=h.2.2 o v ho;exact⟨sz,cap,l,fT _ a⟩
 .simp only[acf,aoz]at e;have:=h.1;omega
theorem Bw(hl:g.O.length=g.H.length)(x:DB)(B:ef):qt g (g.obj x B):=by
 refine⟨by simp[Gh.obj],λ_ _ v h=>⟨v,fT _ h⟩,λo _ st cap l h=>⟨st,cap,l,fT _ h,abH _,id,λ_=>⟨rfl,?_⟩⟩,λf h=>ZI hl x B h,λa n vs hi c=>?_,by show _<=(g.s.alloc B).next;rw[S.next_alloc];omega⟩
 .have:o<g.H.length:=by grind
  show(g.O++_)[o]? = _
  grind
 .rw[<- c];exact dB (aY hi.1) n
theorem Ok.mkobj(h:Ok g){x:DB}{B:ef}(hx:nW (g.obj x B) g.H.length x):Ok (g.obj x B):=by
 refine⟨by simp[Gh.obj,h.len],sD h.wf B,λo o' f v v' a d=>?_,λo f v ho=>?_,λf i=>?_,λo c hc=>?_,h.gl.to λf i hp ho=>⟨aY i,uv i,hp,λo v k=>?_⟩⟩
 .rcases bN a with a|⟨m,l⟩<;>rcases bN d with d|⟨e3,n⟩
  .exact h.inj o o' f v v' a d
  .cases n;have:=(h.lt o _ v a).1;omega
  .cases l;have:=(h.lt o' _ v' d).1;omega
  .omega
 .rcases bN ho with ho|⟨_,e⟩
  .exact⟨by have:=(h.lt o f v ho).1;show f<(g.s.alloc B).next;rw[S.next_alloc];omega,(h.lt o f v ho).2⟩
  .cases e;exact⟨by show g.s.next<(g.s.alloc B).next;rw[S.next_alloc];omega,λhp=>by have:=h.pv _ hp;omega⟩
 .have:=h.pv f i;show f<(g.s.alloc B).next;rw[S.next_alloc];omega
 .rcases bN hc with hc|⟨m,l⟩
  .have j:o<g.O.length:=by
    rw[h.len]
    grind
   exact(h.obj o c hc).keep (Bw h.len x B) (by show(g.O++_)[o]? = _;rw[afZ j]) λf v ho=>aY (h.lt o f v ho).1
  grind
 .rcases bN k with k|⟨_,e⟩
  .exact ho o v k
  grind
theorem rJ(h:Ok g)(hb:b<=g.s.next)(x:DB)(B:ef):Mv b g (g.obj x B):=by
 refine⟨Bw h.len x B,λf a _=>aY (ajN a hb),λo f v ho a=>?_,λo s1 c1 f v c d=>⟨s1,c1,fT _ c,abH _,λ_=>⟨rfl,aY (h.lt o f v d).1⟩⟩⟩;rcases bN ho with ho|⟨_,e⟩
 .grind
 grind
theorem FI.mkobj(h:FI b P0 g t L tv LO){x:DB}{B:ef}(a:nW (g.obj x B) g.H.length x):FI b P0 (g.obj x B) t L tv LO :=
 h.to (h.ok.mkobj a) (rJ h.ok h.bl x B) rfl λ_ c=>aY (h.lo_lt c)
theorem oT(h:Ok g)(x:DB)(B:ef):(g.obj x B).O[g.H.length]? = some (some (g.s.next,0)):=by show(g.O++_)[_]? = _;rw[<- h.len];exact jl
theorem tu{x:DB}{B:ef}:(g.obj x B).s.get g.s.next=some B:=ir
def Gh.prv(g:Gh)(B:ef):Gh:=⟨g.O,g.H,g.Pv++[g.s.next],g.s.alloc B⟩
theorem MK(B:ef):qt g (g.prv B):=by
 refine⟨abH _,λ_ _ v h=>⟨v,h⟩,λ_ _ st cap l h=>⟨st,cap,l,h,abH _,id,λ_=>⟨rfl,rfl⟩⟩,λf h=>⟨?_,λhm=>?_,h.2.2⟩,λa n vs hi c=>?_,by show _<=(g.s.alloc B).next;rw[S.next_alloc];omega⟩
 .show f<(g.s.alloc B).next;rw[S.next_alloc];have:=h.1;omega
 .rcases ajK.1 hm with hm|hm
  .exact h.2.1 hm
  .simp at hm;have:=h.1;omega
 .rw[<- c];exact dB (aY hi.1) n
theorem Ok.prv(h:Ok g)(B:ef):Ok (g.prv B):=by
 refine⟨h.len,sD h.wf B,h.inj,λo f v ho=>⟨?_,λhm=>?_⟩,λf a=>?_,λo b hb=>(h.obj o b hb).keep (MK B) rfl λf v ho=>aY (h.lt o f v ho).1,h.gl.to λf a hp ho=>⟨aY a,uv a,λhm=>?_,ho⟩⟩
 .have:=(h.lt o f v ho).1;show f<(g.s.alloc B).next;rw[S.next_alloc];omega
 .rcases ajK.1 hm with hm|hm
  .exact(h.lt o f v ho).2 hm
  .simp at hm;have:=(h.lt o f v ho).1;omega
 .show f<(g.s.alloc B).next;rw[S.next_alloc];rcases ajK.1 a with a|a
  .have:=h.pv f a;omega
  grind
 .rcases ajK.1 hm with hm|hm
  .exact hp hm
  grind
theorem adC(h:Ok g)(hb:b<=g.s.next){B:ef}:Mv b g (g.prv B):=⟨MK B,λf a _=>aY (ajN a hb),λ_ _ v h _=>⟨v,h⟩,λo s1 c1 f v c d=>⟨s1,c1,c,abH _,λ_=>⟨rfl,aY (h.lt o f v d).1⟩⟩⟩
theorem FI.prv(h:FI b P0 g t L tv LO){el:TypeId}{cs:List D}{vs:List V}{st:Nat}(hr:RL g cs vs)(ho:bk vs) :
 FI b P0 (g.prv (.cells el false 1 [⟨0,0,vs⟩])) t (L++[(st,cs)]) tv (LO++[g.s.next]):=by
 have c:=MK (g:=g) (.cells el false 1 [⟨0,0,vs⟩]);have i:∀ f∈LO,f<g.s.next:=λf a=>h.lo_lt a;refine⟨h.ok.prv _,h.slots.mono c (List.prefix_append _ _),⟨by simp[h.own.1],λk x f d a=>?_⟩,by show g.Pv++_=_;rw[h.pv,ajL],λf a=>?_,?_,akG h.bl c.next⟩
 .rcases bN d with d|⟨l,m⟩
  .rcases bN a with a|⟨n,_⟩
   .have hm:=akV a;obtain⟨p,j⟩:=h.own.2 k x f d a;refine⟨aoa _ p,?_⟩;rcases j with j|⟨el',vs',j,q,r⟩
    .exact .inl j
    .exact .inr ⟨el',vs',by show(g.s.alloc _).get f=_;rw[aY (i f hm)];exact j,q.mono c,r⟩
   .subst n;rw[<- h.own.1,aoF (abH _)]at d;cases d
  .subst l;subst m;rw[h.own.1,jl]at a;cases a;exact⟨anS _ (by simp),.inr ⟨el,vs,ir,hr.mono c,ho⟩⟩
 .rcases ajK.1 a with a|a
  .exact h.low f a
  .simp at a;subst a;exact h.bl
 .rw[List.nodup_append];exact⟨h.nd,by simp,λx d y hy e=>by simp at hy;subst hy;subst e;have:=i _ d;omega⟩
def Gh.pput(g:Gh)(f:Nat)(B:ef):Gh:=⟨g.O,g.H,g.Pv,g.s.put f B⟩
theorem HB{f:Nat}(c:f∈g.Pv)(B:ef):qt g (g.pput f B):=by refine⟨abH _,λ_ _ v h=>⟨v,h⟩,λ_ _ st cap l h=>⟨st,cap,l,h,abH _,id,λ_=>⟨rfl,rfl⟩⟩,λf' h=>⟨by show f'<(g.s.put f B).next;rw[S.next_put];exact h.1,h.2.1,h.2.2⟩,λa n vs hi d=>?_,by show _<=(g.s.put f B).next;rw[S.next_put];exact abH _⟩;rw[<- d];exact dB (by show(g.s.put f B).get _=_;rw[S.get_put,ajD (λe=>hi.2.1 (by rw[<- e];exact c))]) n
theorem cZ{s:S}{f f':Nat}{B:ef}(h:f≠f'):(s.put f B).get f'=s.get f':=by rw[S.get_put,ajD h]
theorem fj{s:S}{f:Nat}{B:ef}:(s.put f B).get f=some B:=by rw[S.get_put,akJ rfl]
theorem Ok.pput(h:Ok g){f:Nat}(a:f∈g.Pv){B0:ef}(h0:g.s.get f=some B0)(B:ef):Ok (g.pput f B):=by refine⟨h.len,Th h.wf h0 B,h.inj,λo f' v ho=>⟨by show f'<(g.s.put f B).next;rw[S.next_put];exact(h.lt o f' v ho).1,(h.lt o f' v ho).2⟩,λf' c=>by show f'<(g.s.put f B).next;rw[S.next_put];exact h.pv f' c,λo b hb=>(h.obj o b hb).keep (HB a B) rfl λf' v ho=>cZ λe=>(h.lt o f' v ho).2 (by rw[<- e];exact a),h.gl.to λf' d hp ho=>⟨cZ λe=>hp (by rw[<- e];exact a),by show f'<(g.s.put f B).next;rw[S.next_put];exact d,hp,ho⟩⟩
theorem Zh(h:Ok g){f:Nat}(a:f∈g.Pv)(hb:b<=f){B:ef}:Mv b g (g.pput f B):=⟨HB a B,λf' hf' _=>cZ (by omega),λ_ _ v h _=>⟨v,h⟩,λo s1 c1 f' v c d=>⟨s1,c1,c,abH _,λ_=>⟨rfl,cZ λe=>(h.lt o f' v d).2 (by rw[<- e];exact a)⟩⟩⟩
theorem vd:∀ {l:List Nat} (_:l.Nodup) {i j x:Nat} (_:l[i]? = some x) (_:l[j]? = some x),i=j
 |[],_,i,_,_,a,_=>by simp at a
 |y::l,h,i,j,x,a,c=>by
  rw[List.nodup_cons]at h;cases i with
  |zero=>cases j with
   |zero=>rfl
   |succ j =>simp only[aox,acf,anU]at a c;subst a;exact(h.1 (akV c)).elim
  |succ i=>cases j with
   |zero =>simp only[aox,acf,anU]at a c;subst c;exact(h.1 (akV a)).elim
   |succ j =>simp only[anU]at a c;rw[vd h.2 a c]
theorem FI.pput(h:FI b P0 g t L tv LO){k f st:Nat}{el:TypeId}{cs:List D}{vs0 vs:List V}(hk:LO[k]? = some f)(h0:g.s.get f=some (.cells el false 1 [⟨0,0,vs0⟩]))(hr:RL g cs vs)(ho:bk vs) :
 FI b P0 (g.pput f (.cells el false 1 [⟨0,0,vs⟩])) t (L.set k (st,cs)) tv LO:=by
 have hm:=akV hk;have hp:f∈g.Pv:=by rw[h.pv];exact anS _ hm
 have c:=HB hp (.cells el false 1 [⟨0,0,vs⟩]);refine⟨h.ok.pput hp h0 _,h.slots.mono c aoq,⟨by rw[anK];exact h.own.1,λl x f' d a=>?_⟩,h.pv,h.low,h.nd,akG h.bl c.next⟩;have hm':=akV a;rw[List.getElem?_set]at d;split at d
 .rename_i e;subst e;rw[hk]at a;cases a;split at d
  .cases d;exact⟨hp,.inr ⟨el,vs,fj,hr.mono c,ho⟩⟩
  .cases d
 .rename_i j;obtain⟨m,i⟩:=h.own.2 l x f' d a;refine⟨m,?_⟩;rcases i with i|⟨el',vs',i,n,p⟩
  .exact .inl i
  .exact .inr ⟨el',vs',by show(g.s.put f _).get f'=_;rw[cZ (λe=>j (vd h.nd hk (by rw[e];exact a)))];exact i,n.mono c,p⟩
end
end
section
variable[gu]
theorem fh{α:Type}{l:List α}{i j:Nat}{x y:α}(h:(l.set i x)[j]? = some y):(i=j/\y=x)\/(i≠j/\l[j]? = some y):=by grind
theorem cj{α:Type}{l:List α}{i:Nat}{x y:α}(h:l[i]? = some y):(l.set i x)[i]? = some x:=by grind
theorem gv{α:Type}{l:List α}{i j:Nat}{x:α}(h:i≠j):(l.set i x)[j]? = l[j]?:=by rw[List.getElem?_set,ajD h]
def ajz(ver ver':Nat)(x0 x:DB):Prop:=∀ sz st cap l,x0=.buf sz st cap l->∃ st' cap' l',x=.buf sz st' cap' l'/\l.length<=l'.length/\(st=false->st'=false)/\(l.length=l'.length->cap'=cap/\ver'=ver)
section
variable{b:Nat}{P0:List Nat}{g:Gh}{t:T LD}{L:LS}{tv:T V}{LO:List Nat}{o f ver ver':Nat}{x0 x:DB}{B0 B:ef}
def Gh.oput(g:Gh)(o:Nat)(x:DB)(f ver':Nat)(B:ef):Gh:=⟨g.O.set o (some (f,ver')),g.H.set o x,g.Pv,g.s.put f B⟩
structure zg(g:Gh)(o:Nat)(x:DB)(f ver ver':Nat)(x0:DB)(B0 B:ef):Prop where
 ho:g.O[o]? = some (some (f,ver))
 hx0:g.H[o]? = some x0
 h0:g.s.get f=some B0
 hb:ajz ver ver' x0 x
 hi:∀ a n vs,g.Imm a.f->a.f=f->loadCells g.s a n=some vs->loadCells (g.s.put f B) a n=some vs
 hst:∀ s1 c1,x0=.cells s1 c1->∃ c2,x=.cells (s1+1) c2
theorem nl(h:Ok g)(c:zg g o x f ver ver' x0 B0 B):qt g (g.oput o x f ver' B):=by
 refine⟨by show _<=(g.H.set o x).length;rw[anK];exact abH _,λo' f' v d=>?_,λo' sz st cap l d=>?_,λf' d=>⟨by show f'<(g.s.put f B).next;rw[S.next_put];exact d.1,d.2.1,λo' v k=>?_⟩,λa n vs hi p=>?_,by show _<=(g.s.put f B).next;rw[S.next_put];exact abH _⟩
 .by_cases e:o=o'
  .subst e;rw[c.ho]at d;cases d;exact⟨ver',cj c.ho⟩
  .exact⟨v,by show(g.O.set o _)[o']? = _;rw[gv e];exact d⟩
 .by_cases e:o=o'
  .subst e;rw[c.hx0]at d;cases d;obtain⟨st',cap',l',i,q,m,r⟩:=c.hb sz st cap l rfl;refine⟨st',cap',l',by rw[<- i];exact cj c.hx0,q,m,λe=>?_⟩;obtain⟨u,w⟩:=r e;exact⟨u,by rw[c.ho,w];exact cj c.ho⟩
  .exact⟨st,cap,l,by show(g.H.set o _)[o']? = _;rw[gv e];exact d,abH _,id,λ_=>⟨rfl,by show(g.O.set o _)[o']? = _;rw[gv e]⟩⟩
 .rcases fh k with⟨e,y⟩|⟨e,k⟩
  .subst e;cases y;obtain⟨sz,cap,l,j⟩:=d.2.2 o ver c.ho;rw[c.hx0]at j;cases j;obtain⟨st',cap',l',i,q,m,r⟩:=c.hb sz false cap l rfl;rw[m rfl]at i;exact⟨sz,cap',l',by rw[<- i];exact cj c.hx0⟩
  .obtain⟨sz,cap,l,j⟩:=d.2.2 o' v k;exact⟨sz,cap,l,by show(g.H.set o _)[o']? = _;rw[gv e];exact j⟩
 .by_cases e:a.f=f
  .exact c.hi a n vs hi e p
  .rw[<- p];exact dB (cZ (apz e)) n
theorem Ok.oput(h:Ok g)(c:zg g o x f ver ver' x0 B0 B)(hx:nW (g.oput o x f ver' B) o x):Ok (g.oput o x f ver' B):=by
 refine⟨by simp[Gh.oput,h.len],Th h.wf c.h0 B,λo1 l f' v v' a i=>?_,λo' f' v a=>?_,λf' j=>by show f'<(g.s.put f B).next;rw[S.next_put];exact h.pv f' j,λo' y hy=>?_,h.gl.to λf' a hp ho=>⟨cZ λe=>ho o ver (by rw[<- e];exact c.ho),by show f'<(g.s.put f B).next;rw[S.next_put];exact a,hp,λo' v k=>?_⟩⟩
 rotate_right 1
 .rcases fh k with⟨e,d⟩|⟨e,k⟩
  .cases d;exact ho o ver c.ho
  grind
 .rcases fh a with⟨e,d⟩|⟨e,a⟩<;>rcases fh i with⟨m,n⟩|⟨m,i⟩
  .grind
  .cases d;rw[<- e];exact h.inj o l f ver v' c.ho i
  .cases n;rw[<- m];exact h.inj o1 o f v ver a c.ho
  .exact h.inj o1 l f' v v' a i
 .rcases fh a with⟨e,d⟩|⟨e,a⟩
  .cases d;exact⟨by show f<(g.s.put f B).next;rw[S.next_put];exact(h.lt o f ver c.ho).1,(h.lt o f ver c.ho).2⟩
  .exact⟨by show f'<(g.s.put f B).next;rw[S.next_put];exact(h.lt o' f' v a).1,(h.lt o' f' v a).2⟩
 .rcases fh hy with⟨e,d⟩|⟨e,hy⟩
  .grind
  .exact(h.obj o' y hy).keep (nl h c) (by show(g.O.set o _)[o']? = _;rw[gv e]) λf' v a=>cZ λq=>e (h.inj o o' f ver v c.ho (by rw[q];exact a))
theorem ll(h:Ok g)(c:zg g o x f ver ver' x0 B0 B):Mv b g (g.oput o x f ver' B):=by
 refine⟨nl h c,λf' _ d=>cZ λe=>d o ver (by rw[<- e];exact c.ho),λo' f' v a _=>?_,λo' s1 c1 f' v a i=>?_⟩;rcases fh a with⟨e,j⟩|⟨e,a⟩
 .subst e;cases j;exact⟨ver,c.ho⟩
 .grind
 .by_cases e:o=o'
  .subst e;rw[c.hx0]at a;obtain⟨c2,k⟩:=c.hst s1 c1 (anJ a);exact⟨s1+1,c2,by rw[<- k];exact cj c.hx0,Nat.le_succ _,λq=>by omega⟩
  .exact⟨s1,c1,by show(g.H.set o _)[o']? = _;rw[gv e];exact a,abH _,λ_=>⟨rfl,cZ λq=>e (h.inj o o' f ver v c.ho (by rw[q];exact i))⟩⟩
theorem FI.oput(h:FI b P0 g t L tv LO)(c:zg g o x f ver ver' x0 B0 B)(d:nW (g.oput o x f ver' B) o x):FI b P0 (g.oput o x f ver' B) t L tv LO :=
 h.to (h.ok.oput c d) (ll h.ok c) rfl λf' a=>cZ λe=>h.lo_out a o ver (by rw[<- e];exact c.ho)
def Gh.bnew(g:Gh)(o:Nat)(x:DB)(B:ef):Gh:=⟨g.O.set o (some (g.s.next,0)),g.H.set o x,g.Pv,g.s.alloc B⟩
theorem HC(h:Ok g){sz:Nat}{st cap st' cap':Bool}{l:List (List D)}(j:g.O[o]? = some none)(h0:g.H[o]? = some (.buf sz st cap []))(i:x=.buf sz st' cap' l)(k:st=false->st'=false)(hl:l≠[]):qt g (g.bnew o x B):=by
 refine⟨by show _<=(g.H.set o x).length;rw[anK];exact abH _,λo' f' v c=>?_,λo' sz' iD cap1 l1 c=>?_,λf' c=>⟨by show f'<(g.s.alloc B).next;rw[S.next_alloc];have:=c.1;omega,c.2.1,λo' v d=>?_⟩,λa n vs hi i=>?_,by show _<=(g.s.alloc B).next;rw[S.next_alloc];omega⟩
 .have e:o≠o':=λe=>by subst e;rw[j]at c;cases c
  exact⟨v,by show(g.O.set o _)[o']? = _;rw[gv e];exact c⟩
 .by_cases e:o=o'
  .subst e;rw[h0]at c;cases c;refine⟨st',cap',l,by rw[<- i];exact cj h0,by simp,k,λe=>?_⟩;exact(hl (anV (by simpa using e.symm))).elim
  .exact⟨iD,cap1,l1,by show(g.H.set o _)[o']? = _;rw[gv e];exact c,abH _,id,λ_=>⟨rfl,by show(g.O.set o _)[o']? = _;rw[gv e]⟩⟩
 .rcases fh d with⟨e,m⟩|⟨e,d⟩
  .simp only[acf,aoz]at m;have:=c.1;omega
  .obtain⟨sz1,cap1,l1,p⟩:=c.2.2 o' v d;exact⟨sz1,cap1,l1,by show(g.H.set o _)[o']? = _;rw[gv (λe=>by subst e;rw[j]at d;cases d)];exact p⟩
 .rw[<- i];exact dB (aY hi.1) n
theorem Ok.bnew(h:Ok g){sz:Nat}{st cap st' cap':Bool}{l:List (List D)}(m:g.O[o]? = some none)(h0:g.H[o]? = some (.buf sz st cap []))(n:x=.buf sz st' cap' l)(p:st=false->st'=false)(hl:l≠[])(hr:nW (g.bnew o x B) o x):Ok (g.bnew o x B):=by
 refine⟨by simp[Gh.bnew,h.len],sD h.wf B,λo1 j f' v v' a d=>?_,λo' f' v a=>?_,λf' i=>?_,λo' y hy=>?_,h.gl.to λf' a hp ho=>⟨aY a,uv a,hp,λo' v k=>?_⟩⟩
 rotate_right 1
 .rcases fh k with⟨e,c⟩|⟨e,k⟩
  .grind
  grind
 .rcases fh a with⟨e,c⟩|⟨e,a⟩<;>rcases fh d with⟨q,r⟩|⟨q,d⟩
  .grind
  .cases c;have:=(h.lt j _ v' d).1;omega
  .cases r;have:=(h.lt o1 _ v a).1;omega
  .exact h.inj o1 j f' v v' a d
 .rcases fh a with⟨e,c⟩|⟨e,a⟩
  .cases c;exact⟨by show g.s.next<(g.s.alloc B).next;rw[S.next_alloc];omega,λhp=>by have:=h.pv _ hp;omega⟩
  .exact⟨by have:=(h.lt o' f' v a).1;show f'<(g.s.alloc B).next;rw[S.next_alloc];omega,(h.lt o' f' v a).2⟩
 .have:=h.pv f' i;show f'<(g.s.alloc B).next;rw[S.next_alloc];omega
 .rcases fh hy with⟨e,c⟩|⟨e,hy⟩
  .grind
  .exact(h.obj o' y hy).keep (HC h m h0 n p hl) (by show(g.O.set o _)[o']? = _;rw[gv e]) λf' v a=>aY (h.lt o' f' v a).1
theorem Pt(h:Ok g)(hb:b<=g.s.next){sz:Nat}{st cap st' cap':Bool}{l:List (List D)}(d:g.O[o]? = some none)(h0:g.H[o]? = some (.buf sz st cap []))(i:x=.buf sz st' cap' l)(j:st=false->st'=false)(hl:l≠[]):Mv b g (g.bnew o x B):=by
 refine⟨HC h d h0 i j hl,λf c _=>aY (ajN c hb),λo' f v ho c=>?_,λo' s1 c1 f v a k=>?_⟩
 .rcases fh ho with⟨_,e⟩|⟨_,ho⟩
  .cases e;omega
  grind
 .have e:o≠o':=λe=>by subst e;rw[h0]at a;cases a
  exact⟨s1,c1,by show(g.H.set o _)[o']? = _;rw[gv e];exact a,abH _,λ_=>⟨rfl,aY (h.lt o' f v k).1⟩⟩
theorem FI.bnew(h:FI b P0 g t L tv LO){sz:Nat}{st cap st' cap':Bool}{l:List (List D)}(a:g.O[o]? = some none)(h0:g.H[o]? = some (.buf sz st cap []))(c:x=.buf sz st' cap' l)(d:st=false->st'=false)(hl:l≠[])(hr:nW (g.bnew o x B) o x):FI b P0 (g.bnew o x B) t L tv LO :=
 h.to (h.ok.bnew a h0 c d hl hr) (Pt h.ok h.bl a h0 c d hl) rfl λ_ i=>aY (h.lo_lt i)
def Gh.frz(g:Gh)(o sz:Nat)(cap:Bool)(l:List (List D)):Gh:=⟨g.O,g.H.set o (.buf sz false cap l),g.Pv,g.s⟩
theorem vj{sz:Nat}{st cap:Bool}{l:List (List D)}(h0:g.H[o]? = some (.buf sz st cap l)):qt g (g.frz o sz cap l):=by
 refine⟨by show _<=(g.H.set o _).length;rw[anK];exact abH _,λo' f' v c=>⟨v,c⟩,λo' sz' iD cap1 l1 c=>?_,λf' c=>⟨c.1,c.2.1,λo' v d=>?_⟩,λa n vs hi h=>h,abH _⟩
 .by_cases e:o=o'
  .subst e;rw[h0]at c;cases c;exact⟨false,cap,l,cj h0,abH _,λ_=>rfl,λ_=>⟨rfl,rfl⟩⟩
  .exact⟨iD,cap1,l1,by show(g.H.set o _)[o']? = _;rw[gv e];exact c,abH _,id,λ_=>⟨rfl,rfl⟩⟩
 .by_cases e:o=o'
  .subst e;exact⟨sz,cap,l,cj h0⟩
  .obtain⟨sz1,cap1,l1,i⟩:=c.2.2 o' v d;exact⟨sz1,cap1,l1,by show(g.H.set o _)[o']? = _;rw[gv e];exact i⟩
theorem Ok.frz(h:Ok g){sz:Nat}{st cap:Bool}{l:List (List D)}(h0:g.H[o]? = some (.buf sz st cap l)):Ok (g.frz o sz cap l):=by
 refine⟨by simp[Gh.frz,h.len],h.wf,h.inj,h.lt,h.pv,λo' y hy=>?_,h.gl.to λf a hp ho=>⟨rfl,a,hp,ho⟩⟩;rcases fh hy with⟨e,c⟩|⟨e,hy⟩
 .subst e;subst c;exact(h.obj o _ h0).keep (b:=.buf sz st cap l) (vj h0) rfl (λ_ _ _=>rfl)
 .exact(h.obj o' y hy).keep (vj h0) rfl λ_ _ _=>rfl
theorem Mu{sz:Nat}{st cap:Bool}{l:List (List D)}(h0:g.H[o]? = some (.buf sz st cap l)):Mv b g (g.frz o sz cap l):=⟨vj h0,λ_ _ _=>rfl,λ_ _ v h _=>⟨v,h⟩,λo' s1 c1 f v a _=>⟨s1,c1,by show(g.H.set o _)[o']? = _;rw[gv (λe=>by subst e;rw[h0]at a;cases a)];exact a,abH _,λ_=>⟨rfl,rfl⟩⟩⟩
theorem FI.frz(h:FI b P0 g t L tv LO){sz:Nat}{st cap:Bool}{l:List (List D)}(h0:g.H[o]? = some (.buf sz st cap l)):FI b P0 (g.frz o sz cap l) t L tv LO :=
 h.to (h.ok.frz h0) (Mu h0) rfl λ_ _=>rfl
theorem HH(h:Ok g){sz:Nat}{st cap:Bool}{l:List (List D)}(h0:g.H[o]? = some (.buf sz st cap l)){n:Nat}(i:n=l.length){v:V}(q:XU g sz o n v):RD (g.frz o sz cap l) (.row sz l) v:=by
 obtain⟨st',cap',l',k,k2,r⟩:=q;rw[h0]at k;cases k;simp only[RD];rcases r with⟨u,d⟩|⟨u,f,ver,ver2,c,d,w,y⟩
 .have hl:l=[]:=anV (by omega);subst hl;rcases d with rfl|⟨a,z,sz',rfl⟩
  .exact .inl ⟨rfl,rfl⟩
  .exact .inr (.inl ⟨rfl,a,z,sz',rfl⟩)
 .obtain⟨A,F⟩:=y i;subst A F;obtain⟨G,m|⟨m,f',ver',el,nv,vers,cells,p,i3,i4,i5,i6,I⟩⟩:=h.obj o _ h0
  .rw[m.1]at i;simp at i;omega
  .rw[d]at p;cases p;subst w i;refine .inr (.inr ⟨⟨f,ver2,0⟩,0,NE cap l.length,rfl,G,.inr rfl,λc hc=>?_,λ_=>⟨(h.lt o f ver2 d).1,(h.lt o f ver2 d).2,λo' v' j=>?_⟩,I.keep (vj h0) rfl⟩)
   .cases cap with
    |true=>cases hc;exact abH _
    |false=>cases hc
   .rw[h.inj o' o f v' ver2 j d];exact⟨sz,cap,l,cj h0⟩
def Gh.acc(g:Gh)(sz:Nat)(cap:Bool):Gh:=⟨g.O++[none],g.H++[.buf sz true cap []],g.Pv,g.s⟩
theorem VI(h:Ok g)(sz:Nat)(cap:Bool):qt g (g.acc sz cap):=by
 refine⟨by simp[Gh.acc],λ_ _ v h=>⟨v,fT _ h⟩,λo _ st cap l c=>⟨st,cap,l,fT _ c,abH _,id,λ_=>⟨rfl,?_⟩⟩,λf c=>⟨c.1,c.2.1,λo v ho=>?_⟩,λa n vs hi d=>d,abH _⟩
 .have:o<g.H.length:=by grind
  show(g.O++_)[o]? = _;rw[afZ (by rw[h.len];exact this)]
 .rcases bN ho with ho|⟨_,e⟩
  .obtain⟨sz,cap,l,i⟩:=c.2.2 o v ho;exact⟨sz,cap,l,fT _ i⟩
  .cases e
theorem Ok.acc(h:Ok g){sz:Nat}(m:0<sz)(cap:Bool):Ok (g.acc sz cap):=by
 refine⟨by simp[Gh.acc,h.len],h.wf,λo o' f v v' a i=>?_,λo f v ho=>?_,h.pv,λo c hc=>?_,h.gl.to λf a hp ho=>⟨rfl,a,hp,λo v k=>?_⟩⟩
 rotate_right 1
 .rcases bN k with k|⟨_,e⟩
  .exact ho o v k
  .cases e
 .rcases bN a with a|⟨l,d⟩<;>rcases bN i with i|⟨e3,n⟩
  .exact h.inj o o' f v v' a i
  .cases n
  .cases d
  .cases d
 .rcases bN ho with ho|⟨_,e⟩
  .exact h.lt o f v ho
  .cases e
 .rcases bN hc with hc|⟨l,d⟩
  .have j:o<g.O.length:=by
    rw[h.len]
    grind
   exact(h.obj o c hc).keep (VI h sz cap) (by show(g.O++_)[o]? = _;rw[afZ j]) λ_ _ _=>rfl
  .subst l;subst d;exact⟨m,.inl ⟨rfl,by show(g.O++_)[_]? = _;rw[<- h.len];exact jl⟩⟩
theorem Mx(h:Ok g)(sz:Nat)(cap:Bool):Mv b g (g.acc sz cap):=by
 refine⟨VI h sz cap,λ_ _ _=>rfl,λo f v ho _=>?_,λo s1 c1 f v a _=>⟨s1,c1,fT _ a,abH _,λ_=>⟨rfl,rfl⟩⟩⟩;rcases bN ho with ho|⟨_,e⟩
 .grind
 .cases e
theorem FI.acc(h:FI b P0 g t L tv LO){sz:Nat}(a:0<sz)(cap:Bool):FI b P0 (g.acc sz cap) t L tv LO:=h.to (h.ok.acc a cap) (Mx h.ok sz cap) rfl λ_ _=>rfl
end
end
section
variable[gu]
variable{g:Gh}{LO:List Nat}{t:T LD}{tv:T V}{P:Program}{out:iY}
theorem fD{v:V}{vs:List V}:bk (v::vs)↔v.one=true/\bk vs:=by unfold bk;simp
theorem Js{a b:List V}(h:bk a)(c:∀ v∈b,v∈a):bk b:=anN.2 λv d=>anN.1 h v (c v d)
theorem uY{vs:List V}(h:bk vs)(n:Nat):bk (vs.drop n):=Js h λ_=>apB
theorem uX{vs:List V}(h:bk vs)(n:Nat):bk (vs.take n):=Js h λ_=>aoV
theorem AY{a b:List V}(h:bk a)(k:bk b):bk (a++b):=by unfold bk at *;rw[List.all_append,h,k];rfl
theorem Ny:∀ {v:V} {d:D},aan v=some d->RD g d v/\v.one=true:=by
 intro v d h;unfold aan at h;split at h
 .cases h;exact⟨by simp only[RD],rfl⟩
 .cases h;exact⟨by simp only[RD],rfl⟩
 .rename_i l;cases hb:l.all (λc=>Nat.blt c 256)with
  |false=>rw[hb]at h;cases h
  |true =>rw[hb]at h;cases h;refine⟨?_,rfl⟩;simp_all[RD]
 .cases h;exact⟨by simp only[RD],rfl⟩
 .cases h;exact⟨by simp only[RD];exact .inl trivial,rfl⟩
 .cases h;exact⟨by simp only[RD],rfl⟩
 .rename_i fn a b;split at h
  .cases hb:(a.isEmpty&&b.isEmpty)with
   |false=>rw[hb]at h;cases h
   |true =>rw[hb]at h;cases h;simp only[abk,List.isEmpty_iff]at hb;obtain⟨rfl,rfl⟩:=hb;exact⟨by simp only[RD];exact⟨[],[],rfl,by simp only[RL],by simp only[RL]⟩,rfl⟩
  .cases h
 .cases h;exact⟨by simp only[RD],rfl⟩
 .cases h;exact⟨by simp only[RD],rfl⟩
 .cases h
theorem Ig:∀ {vs:List V} {ds:List D},QB vs=some ds->RL g ds vs/\bk vs
 |[],ds,h=>by cases h;exact⟨by simp only[RL],rfl⟩
 |v::r,ds,h=>by
  simp only[QB]at h;split at h
  .rename_i d a;split at h
   .rename_i l hl;cases h;obtain⟨c,i⟩:=Ny (g:=g) a;obtain⟨j,k⟩:=Ig hl;exact⟨by simp only[RL];exact⟨v,r,rfl,c,j⟩,fD.2 ⟨i,k⟩⟩
   .cases h
  .cases h
theorem WP{v:V}{d:D}(h:dOf v=some d):RD g d v:=by
 unfold dOf at h
 grind [Ig,RD,Ny]
theorem RL.one1{d:D}{v:V}(h:RD g d v):RL g [d] [v]:=by simp only[RL];exact⟨v,[],rfl,h,rfl⟩
theorem ur{v:V}(h:v.one=true):v.cells=[v]:=by cases v<;>first|rfl|cases h
theorem Ss{v:V}{d:D}(h:dOf v=some d):RL g d.cells v.cells/\bk v.cells:=by
 unfold dOf at h;split at h
 .split at h
  .rename_i cs l hl;cases h;exact Ig hl
  .cases h
 .rename_i hne;obtain⟨h1,a⟩:=Ny (g:=g) h;rw[ur a];refine⟨?_,fD.2 ⟨a,rfl⟩⟩;have:d.cells=[d]:=by
   cases d<;>first|rfl|skip
   grind [RD]
  grind [RL.one1]
theorem kf{ty:TypeId}{d:D}(h:qG P ty=some d):∃ z,zero P ty=some z/\RD g d z/\RL g d.cells z.cells/\bk z.cells:=by grind [qG,WP,Ss]
def GA(g:Gh)(LO:List Nat)(t:T LD)(tv:T V)(x:Operand):Prop:=∀ y,iS t x=some y->∃ v,eval tv x=some v/\RS g LO y v
theorem EC.op(h:EC g LO t tv)(x:Operand):GA g LO t tv x:=by
 intro y hy;cases x with
 |tmp i=>exact h i y hy
 |const c =>
  simp only[iS]at hy;split at hy
  .rename_i v a;split at hy
   .rename_i d j;cases hy;exact⟨v,a,WP j⟩
   .cases hy
  .cases hy
 |global _=>cases hy
 |func f=>cases hy;exact⟨_,rfl,by show RD _ _ _;simp only[RD];exact⟨[],[],rfl,by simp only[RL],by simp only[RL]⟩⟩
theorem bO{x:Operand}{κ:D->av}(h:gD (iS t x) κ=some out)(hr:GA g LO t tv x):∃ d v,κ d=some out/\iS t x=some (.g d)/\eval tv x=some v/\RD g d v:=by
 unfold gD at h;split at h
 .rename_i d a;obtain⟨v,c,i⟩:=hr _ a;exact⟨d,v,h,a,c,i⟩
 .cases h
theorem np{x:Operand}{κ:LD->av}(h:lD (iS t x) κ=some out)(hr:GA g LO t tv x):∃ d v,κ d=some out/\iS t x=some d/\eval tv x=some v/\RS g LO d v:=by
 unfold lD at h;split at h
 .rename_i d a;obtain⟨v,h1,h2⟩:=hr _ a
  grind
 .cases h
theorem kI:∀ {l:List Operand} {κ:List D->av},Ku t l κ=some out->(∀ x∈l,GA g LO t tv x)->∃ ds vs,κ ds=some out/\iI tv l=some vs/\RL g ds vs
 |[],κ,h,_=>⟨[],[],h,rfl,by simp only[RL]⟩
 |x::r,κ,h,hr=>by
  simp only[Ku]at h;obtain⟨d,v,a,_,h2,h3⟩:=bO h (hr x adN);obtain⟨ds,vs,k1,k2,k3⟩:=kI a λy hy=>hr y (acl _ hy)
  grind [iI,RL]
theorem fq{b:Bool}{κ:av}(h:boK b κ=some out):b=true/\κ=some out:=by
 cases b with
 |false=>cases h
 |true=>exact⟨rfl,h⟩
theorem aU{b:Bool}{κ:av}(h:cond b κ none=some out):b=true/\κ=some out:=by grind
theorem jX{cs:List D}{c:Nat}{κ:D->av}(h:ah cs c κ=some out):∃ d,cs[c]? = some d/\κ d=some out:=by grind [ah]
theorem iL:∀ {n:Nat} {cs:List D} {c:Nat} {κ:List D->av},EN n cs c κ=some out->κ ((cs.drop c).take n)=some out/\(n=0\/c+n<=cs.length)
 |0,cs,c,κ,h=>⟨by simp only[EN]at h;simpa using h,.inl rfl⟩
 |n+1,cs,c,κ,h=>by
  simp only[EN]at h;obtain⟨d,a,i⟩:=jX h;have hc:c<cs.length:=by
   rcases aoN c cs.length with q|q
   .exact q
   .rw[aoF q]at a;cases a
  obtain⟨j,h4⟩:=iL i;refine⟨?_,.inr (by omega)⟩;rw[apq hc,aol];rw[abI hc]at a;cases a;exact j
theorem mM:∀ {l:List V} {n:Nat},n<=l.length->bA n l=some (l.take n)
 |l,0,_=>rfl
 |[],n+1,h=>by simp at h
 |x::l,n+1,h=>by simp only[bA,mM (l:=l) (n:=n) (by simpa using h),Option.map,aol]
theorem jc{s:S}{a:Ad}{N:Nat}{vs:List V}(h:loadCells s a N=some vs){c n:Nat}(hc:c+n<=N):loadCells s (cV a c) n=some ((vs.drop c).take n):=by
 have key:∀(u:om),(bif Nat.ble u.lo a.c then bA N (u.cells.drop (a.c - u.lo))else none)=some vs->(bif Nat.ble u.lo (a.c+c)then bA n (u.cells.drop (a.c+c - u.lo))else none)=some ((vs.drop c).take n):=λu d=>by
  cases hb:Nat.ble u.lo a.c with
  |false=>rw[hb]at d;cases d
  |true =>
   rw[hb]at d;have hle:=act hb
   grind [eH,Nat.ble_eq_true_of_le,List.length_drop,mM,List.drop_take,List.drop_drop,Nat.min_eq_left]
 unfold loadCells at h ⊢;simp only[cV];split at h
 .split at h
  .grind
  .cases h
 .split at h
  .grind
  .cases h
 .cases h
theorem tI{s:S}{a:Ad}{N:Nat}{vs:List V}(h:loadCells s a N=some vs){c:Nat}{v:V}(hc:vs[c]? = some v):oY s (cV a c)=some v:=by
 have key:∀(u:om),(bif Nat.ble u.lo a.c then bA N (u.cells.drop (a.c - u.lo))else none)=some vs->(bif Nat.ble u.lo (a.c+c)then u.cells[a.c+c - u.lo]? else none)=some v:=λu d=>by
  cases hb:Nat.ble u.lo a.c with
  |false=>rw[hb]at d;cases d
  |true =>
   rw[hb]at d;have hle:=act hb;obtain⟨rfl,h2⟩:=eH d;rw[show Nat.ble u.lo (a.c+c)=true from acw (by omega)];simp only[ge];rw[apc]at hc;split at hc
   .rw[aoZ]at hc;rw[show a.c+c - u.lo=a.c - u.lo+c by omega];exact hc
   .cases hc
 unfold loadCells at h;unfold oY;simp only[cV];split at h
 .split at h
  .rename_i u d;exact key u h
  .cases h
 .split at h
  .rename_i u d;exact key u h
  .cases h
 .cases h
theorem Eg{s:S}{a:Ad}{N:Nat}{vs:List V}(h:loadCells s a N=some vs):vs.length=N:=by
 have key:∀(u:om),(bif Nat.ble u.lo a.c then bA N (u.cells.drop (a.c - u.lo))else none)=some vs->vs.length=N:=λu d=>by
  cases hb:Nat.ble u.lo a.c with
  |false=>rw[hb]at d;cases d
  |true =>
   rw[hb]at d;obtain⟨rfl,h2⟩:=eH d
   grind
 grind [loadCells]
theorem nh{s:S}{ty:TypeId}{cs:List D}{c:Nat}{κ:D->av}(h:bL P ty cs c κ=some out){a:Ad}{vs:List V}(hl:loadCells s a cs.length=some vs)(hr:RL g cs vs)(ho:bk vs) :
 ∃ d v,κ d=some out/\loadVar P s ty (cV a c)=some v/\RD g d v:=by
 unfold bL at h;unfold loadVar;split at h
 .rename_i j;split at h
  .rename_i n m;obtain⟨i,h⟩:=aU h;obtain⟨k,l⟩:=iL h;have i:=act i;refine⟨_,.agg ((vs.drop c).take n),k,?_,?_⟩
   .rw[j,m];simp only[Option.bind];rw[jc hl (by omega)];rfl
   .simp only[RD];exact⟨_,rfl,(hr.drop c).take n,uX (uY ho c) n⟩
  .cases h
 .rename_i j;obtain⟨d,k,l⟩:=jX h;obtain⟨v,p,q⟩:=hr.at k;exact⟨d,v,l,by rw[j];exact tI hl p,q⟩
 .cases h
end
section
def sL:∀ {p q:List Nat},(∀ z∈p,z<256)->(∀ z∈q,z<256)->ma p q=some (decide (p=q))
 |[],[],_,_=>rfl
 |[],_::_,_,_=>rfl
 |_::_,[],_,_=>rfl
 |x::p,y::q,hp,c=>by
  have ih:=sL (p:=p) (q:=q) (λz a=>hp z (acl _ a)) (λz a=>c z (acl _ a));have hx:Nat.blt x 256=true:=acw (hp x (by simp));have hy:Nat.blt y 256=true:=acw (c y (by simp))
  grind [ma,Nat.eq_of_beq_eq_true,List.cons.injEq,Nat.beq_refl]
variable[gu]
variable{g:Gh}{LO:List Nat}{t:T LD}{tv:T V}{P:Program}{out:iY}
theorem aar{x:LD}{κ:LD->av}(h:aas x κ=some out){v:V}(r:RS g LO x v):κ x=some out/\nJ (some v)=some v:=by
 unfold aas vR at h;split at h
 .obtain⟨f,c,rfl⟩:=r;exact⟨h,rfl⟩
 .rename_i d;have r:RD g d v:=r;split at h
  .simp only[RD]at r;obtain⟨f,ver,c,rfl⟩:=r;exact⟨h,rfl⟩
  .simp only[RD]at r;obtain⟨a,vs,rfl,_⟩:=r;exact⟨h,rfl⟩
  .simp only[RD]at r;obtain⟨f,ver,sz,st,cap,l,ver',_,_,_,_,rfl,_⟩:=r;exact⟨h,rfl⟩
  .simp only[RD]at r;obtain⟨a',b',rfl,_⟩:=r;exact⟨h,rfl⟩
  .simp only[RD]at r;obtain⟨f,ver,_,rfl⟩:=r;exact⟨h,rfl⟩
  .cases h
 .cases h
theorem ZU{x:LD}{off:Nat}{κ:LD->av}(h:ZV x off κ=some out){v:V}(r:RS g LO x v):∃ i a,κ i=some out/\v=.ptr a/\RS g LO i (.ptr (cV a off)):=by
 unfold ZV bI at h;split at h
 .obtain⟨f,c,rfl⟩:=r;exact⟨_,_,h,rfl,f,c,rfl⟩
 .rename_i d;have r:RD g d v:=r;split at h
  .simp only[RD]at r;obtain⟨f,ver,c,rfl⟩:=r;exact⟨_,_,h,rfl,by show RD _ _ _;simp only[RD];exact⟨f,ver,c,rfl⟩⟩
  .simp only[RD]at r;obtain⟨a,vs,rfl,c⟩:=r;exact⟨_,_,h,rfl,by show RD _ _ _;simp only[RD];exact⟨a,vs,by rw[DI],c⟩⟩
  .simp only[RD]at r;obtain⟨f,ver,sz,st,cap,l,ver',c,j,k,m,rfl,n⟩:=r;exact⟨_,_,h,rfl,by show RD _ _ _;simp only[RD];exact⟨f,ver,sz,st,cap,l,ver',c,j,k,m,by simp only[cV,aoA],n⟩⟩
  .cases h
 .cases h
theorem Sk{ty:TypeId}{x:LD}{f:Nat}{κ:LD->av}(h:BZ P ty x f κ=some out){v:V}(r:RS g LO x v):∃ a v',κ a=some out/\jo P ty (some v) f=some v'/\RS g LO a v':=by grind [BZ,ZU,jo]
theorem tj{ty:TypeId}{cs:List D}{c:Nat}{κ:D->av}(h:bL P ty cs c κ=some out){vs:List V}(hr:RL g cs vs)(ho:bk vs) :
 ∃ d v,κ d=some out/\wl P ty vs c=some v/\RD g d v:=by
 unfold bL at h;unfold wl;split at h
 .rename_i a;split at h
  .rename_i n k;obtain⟨hn0,h⟩:=aU h;obtain⟨i,j⟩:=iL h;refine⟨_,.agg ((vs.drop c).take n),i,by rw[a,k];rfl,?_⟩;simp only[RD];exact⟨_,rfl,(hr.drop c).take n,uX (uY ho c) n⟩
  .cases h
 .rename_i a;obtain⟨d,i,j⟩:=jX h;obtain⟨v,l,m⟩:=hr.at i;exact⟨d,v,j,by rw[a];exact l,m⟩
 .cases h
theorem Sj{ty:TypeId}{x:D}{f:Nat}{κ:D->av}(h:rY P ty x f κ=some out){v:V}(r:RD g x v):∃ d v',κ d=some out/\uj P ty (some v) f=some v'/\RD g d v':=by
 unfold rY at h;split at h
 .rename_i fs hu;split at h
  .rename_i fd hf;split at h
   .simp only[RD]at r;obtain⟨vs,rfl,a,c⟩:=r;obtain⟨d,v',k1,k2,k3⟩:=tj h a c
    grind [uj]
   .cases h
  .cases h
 .cases h
theorem pX{n:Int}{κ:Nat->av}(h:bg n κ=some out):∃ m:Nat,n=(m:Int)/\κ m=some out:=by
 unfold bg at h;split at h
 .grind
 .cases h
theorem YC{sz:Nat}{l:List (List D)}{v:V}(r:RD g (.row sz l) v){i:Nat}{cs:List D}(hi:l[i]? = some cs) :
 ∃ a z cap vs,v=.slice a z l.length cap sz/\i<l.length/\g.Imm a.f/\cs.length=sz/\loadCells g.s (cV a (i*sz)) sz=some vs/\RL g cs vs/\bk vs:=by
 have c:i<l.length:=by grind
 simp only[RD]at r;rcases r with⟨rfl,_⟩|⟨rfl,_⟩|⟨a,z,cap,d,_,_,_,h,j⟩
 .simp at hi
 .simp at hi
 .obtain⟨vs,k,m,n,p⟩:=j.at hi;exact⟨a,z,cap,vs,d,c,h (by intro e;rw[e]at hi;simp at hi),k,m,n,p⟩
theorem NJ{m n:Nat}(h:m<n):Nat.blt m n=true:=acw h
theorem Sc{ty:TypeId}{x i:D}{κ:D->av}(h:ay P ty x i κ=some out){v w:V}(r:RD g x v)(ri:RD g i w):∃ d v',κ d=some out/\gU P ty (some v) (eA (some w))=some v'/\RD g d v':=by
 unfold ay at h;split at h
 .rename_i el A;split at h
  .rename_i sz F;split at h
   .rename_i k n;simp only[RD]at ri;subst ri;unfold MT at h;split at h
    .rename_i s l;obtain⟨hb,j⟩:=aU h;clear h;obtain rfl:=abj hb;obtain⟨m,rfl,h⟩:=pX j;unfold aX at h;split at h
     .rename_i cs hc;obtain⟨a,z,cap,vs,rfl,p,q,u,y,h6,h7⟩:=YC r hc
      grind [cV,eA,qN,gU,Nat.beq_refl,NJ,Bool.and_self,RD]
     .cases h
    .rename_i s o n;obtain⟨hb,j⟩:=aU h;clear h;obtain rfl:=abj hb;obtain⟨m,rfl,h''⟩:=pX j;obtain⟨hb,h⟩:=fq h'';have hm:m<n:=act hb;simp only[RD]at r;obtain⟨st,cap,l,G,p,⟨q,_⟩|⟨q,f,ver,ver',c,u,rfl,y⟩⟩:=r
     .omega
     refine⟨_,.ptr (cV ⟨f,ver',0⟩ (m*s)),h,by simp only[eA,qN,gU,A,F,ajG,NJ hm,anQ,ge],?_⟩;simp only[RD];exact⟨f,ver,_,st,cap,l,ver',u,G,p,hm,by simp only[cV,afY,anP],λe=>(y e).1⟩
    .cases h
   .cases h
  .cases h
 .cases h
theorem Sb{ty:TypeId}{x i:D}{κ:D->av}(h:kC P ty x i κ=some out){v w:V}(r:RD g x v)(ri:RD g i w):∃ d v',κ d=some out/\qf P ty (some v) (eA (some w))=some v'/\RD g d v':=by
 unfold kC at h;split at h
 .rename_i a;split at h
  .rename_i l;split at h
   .grind [RD,pX,fv,pM,eA,qN,qf]
   .cases h
  .cases h
 .rename_i len el a;split at h
  .rename_i cs;split at h
   .rename_i sz hs;split at h
    .rename_i k n;simp only[RD]at r ri;obtain⟨vs,rfl,h1,h2⟩:=r;subst ri;obtain⟨m,rfl,c⟩:=pX h;obtain⟨hl,h3⟩:=aU c
     grind [tj,eA,qN,qf]
    .cases h
   .cases h
  .cases h
 .cases h
theorem NL{ty:TypeId}{x:D}{ok:Bool}{κ:D->av}(h:nQ P x ty ok κ=some out){v:V}(r:RD g x v):∃ d v',κ d=some out/\mD P (some v) ty ok=some v'/\RD g d v':=by
 have fail:∀ {κ:D->av},(bif ok then(match qG P ty with|some z=>κ (.tuple [z,.bool false])|none=>none)else none)=some out->∃ d v',κ d=some out/\fU P ty ok=some v'/\RD g d v':=λ{κ} h=>by
  obtain⟨hk,h⟩:=aU h;split at h
  .rename_i z c;obtain⟨zv,i,h2,_⟩:=kf (g:=g) c
   grind [fU,RD,RL]
  .cases h
 unfold nQ at h;split at h
 .cases h
 .rename_i td hni hu;have a:∀ w,mD P (some w) ty ok=match some w with
   |some .nilIface=>fU P ty ok
   |some (.iface t v)=>bif Nat.beq t ty then some (bif ok then .tuple [v,.bool true] else v)else fU P ty ok
   |_=>none:=λw=>by grind [mD]
  split at h
  .simp only[RD]at r;obtain⟨v',rfl,i⟩:=r;rename_i t d;rw[a];simp only;cases hb:Nat.beq t ty with
   |true =>grind [RD,RL]
   |false =>rw[hb]at h;exact fail h
  .simp only[RD]at r;subst r;rw[a];exact fail h
  .cases h
 .cases h
theorem aae{x:D}{i:Nat}{κ:D->av}(h:fI x i κ=some out){v:V}(r:RD g x v):∃ d v',κ d=some out/\qh (some v) i=some v'/\RD g d v':=by
 unfold fI at h;split at h
 .simp only[RD]at r;obtain⟨vs,rfl,a⟩:=r;obtain⟨d,c,j⟩:=jX h;obtain⟨v',k,l⟩:=a.at c;exact⟨d,v',j,k,l⟩
 .cases h
theorem acC{op:UnOp}{x:D}{κ:D->av}(h:eD op x κ=some out){v:V}(r:RD g x v):∃ d v',κ d=some out/\Tn op v=some v'/\RD g d v':=by
 unfold eD at h;split at h
 .split at h
  .simp only[RD]at r;subst r;exact⟨_,_,h,rfl,by simp only[RD]⟩
  .cases h
 .split at h
  .simp only[RD]at r;subst r;exact⟨_,_,h,rfl,by simp only[RD]⟩
  .cases h
 .cases h
theorem WS{a dst:TypeId}{x:D}{κ:D->av}(h:rj P a dst x κ=some out){v:V}(r:RD g x v)(s:S):∃ d v',κ d=some out/\kM P s a dst v=some (v',s)/\RD g d v':=by
 unfold rj at h
 grind [RD,only,kM,cX,EM]
theorem ZH{op:BinOp}{k:IntKind}{a b:Int}{κ:D->av}(h:aej op k a b κ=some out):∃ d v',κ d=some out/\FH op k a b=some v'/\RD g d v':=by
 have j:∀ {κ:av},boK (!(b==0)) κ=some out->(b==0)=false/\κ=some out:=λh=>by grind [fq]
 cases op
 case add=>exact⟨_,_,h,anL some (cX _ _),by simp only[RD]⟩
 case sub=>exact⟨_,_,h,anL some (cX _ _),by simp only[RD]⟩
 case mul=>exact⟨_,_,h,anL some (cX _ _),by simp only[RD]⟩
 case quo=>obtain⟨c,i⟩:=j h;exact⟨_,.int k (k.wrap (a.tdiv b)),i,by simp only[FH,c,Xi],by simp only[RD]⟩
 case rem=>obtain⟨c,i⟩:=j h;exact⟨_,.int k (a.tmod b),i,by simp only[FH,c,Xi],by simp only[RD]⟩
 all_goals first|(cases h;done)|exact⟨_,_,h,rfl,by simp only[RD]⟩
theorem Yk{op:BinOp}{a b:List Nat}{κ:D->av}(h:acK op a b κ=some out)(i:∀ c∈a,c<256)(hb:∀ c∈b,c<256):∃ d v',κ d=some out/\At op a b=some v'/\RD g d v':=by
 have j:ma a b=some (a==b):=by rw[sL i hb];congr 1;rw[ajF];simp
 cases op
 case add =>
  obtain⟨k,h⟩:=fq h;refine⟨_,.str (a++b),h,by simp only[At,k,ge],?_⟩;simp only[RD];refine⟨trivial,λc hc=>?_⟩;rcases ajK.1 hc with hc|hc
  .exact i c hc
  .exact hb c hc
 case eql=>exact⟨_,.bool (a==b),h,by simp only[At,j,Option.map],by simp only[RD]⟩
 case neq=>exact⟨_,.bool (!(a==b)),h,by simp only[At,j,Option.map],by simp only[RD]⟩
 all_goals first|(cases h;done)|exact⟨_,_,h,rfl,by simp only[RD]⟩
theorem Kv{eq:TypeId->D->D->(Bool->av)->av}{eqv:TypeId->V->V->Option Bool}(c:∀ ty x y (κ:Bool->av) (v w:V),eq ty x y κ=some out->RD g x v->RD g y w->∃ q,κ q=some out/\eqv ty v w=some q) :
 ∀ {fs:List Field} {xs ys:List D} {q:Bool} {κ:Bool->av} {vs ws:List V},jB P eq fs xs ys q κ=some out->RL g xs vs->bk vs->RL g ys ws->bk ws->∃ p,κ (q&&p)=some out/\(kh P eqv fs vs ws=some p)
 |[],xs,ys,q,κ,vs,ws,h,_,_,_,_=>⟨true,by rw[aos];exact h,rfl⟩
 |f::r,xs,ys,q,κ,vs,ws,h,d,i,j,k=>by
  simp only[jB]at h;cases l:(f.name == "_")with
  |true=>rw[l]at h;cases h
  |false =>
   rw[l]at h;simp only[Xi]at h;obtain⟨a,va,m,k2,n⟩:=tj h d i;obtain⟨b,vb,u,j2,z⟩:=tj m j k;obtain⟨p,A,i2⟩:=c _ _ _ _ _ _ u n z;obtain⟨p',i3,i4⟩:=Kv c A d i j k
   grind [kh]
theorem HQ(okf:Ad->Bool):∀ {d:Nat} {ty:TypeId} {x y:D} {κ:Bool->av} {v w:V},So P d ty x y κ=some out->RD g x v->RD g y w->∃ q,κ q=some out/\du P okf d ty v w=some q
 |0,_,_,_,_,_,_,h,_,_=>by cases h
 |d+1,ty,x,y,κ,v,w,h,i,j=>by
  simp only[So]at h;unfold du;split at h
  .rename_i fs k;split at h
   .simp only[RD]at i j;obtain⟨vs,rfl,m,n⟩:=i;obtain⟨ws,rfl,r,u⟩:=j;cases l:P.stoodInHeld ty with
    |true=>rw[l]at h;cases h
    |false =>
     rw[l]at h;simp only[Xi]at h;obtain⟨p,k1,k2⟩:=Kv (eqv:=du P okf d) (λty x y κ v w a b c=>HQ okf (d:=d) a b c) h m n r u
     grind
   .cases h
  .grind [RD]
  .grind [RD]
  .rename_i k;split at h
   .simp only[RD]at i j;subst i j
    grind
   .cases h
  .rename_i k;split at h
   .simp only[RD]at i j;obtain⟨rfl,z⟩:=i;obtain⟨rfl,hb⟩:=j;refine⟨_,h,?_⟩;rw[k];simp only;rw[sL z hb];congr 1;rw[ajF];simp
   .cases h
  .grind [RD]
  .grind [RD]
  .cases h
def ajP:V->Nat
 |.bool _=>0|.int ..=>1|.str _=>2|.ptr _=>3|.nilptr=>4|.slice ..=>5|.nilslice=>5|.map _=>6|.nilmap=>7|.func ..=>8|.nilFunc=>9|.iface ..=>10|.nilIface=>11|.agg _=>12|.tuple _=>13|.atom _=>14
def WJ:D->Nat
 |.bool _=>0|.int ..=>1|.str _=>2|.ptr ..=>3|.eptr ..=>3|.bptr ..=>3|.nilptr=>4|.row ..=>5|.buf ..=>5|.nilrow=>5|.map _=>6|.nilmap=>7|.func ..=>8|.nilFunc=>9|.iface ..=>10|.nilIface=>11|.agg _=>12|.tuple _=>13|.yld _=>8|.abool=>0
theorem RD.tag{d:D}{v:V}(r:RD g d v):ajP v=WJ d:=by
 cases d<;>simp only[RD]at r
 case bool=>subst r;rfl
 case int=>subst r;rfl
 case str=>obtain⟨rfl,_⟩:=r;rfl
 case ptr=>obtain⟨f,ver,_,rfl⟩:=r;rfl
 case eptr=>obtain⟨a,vs,rfl,_⟩:=r;rfl
 case bptr=>obtain⟨f,ver,sz,st,cap,l,ver',_,_,_,_,rfl,_⟩:=r;rfl
 case nilptr=>subst r;rfl
 case row=>rcases r with⟨_,rfl⟩|⟨_,a,z,sz',rfl⟩|⟨a,z,cap,rfl,_⟩<;>rfl
 case buf=>obtain⟨st,cap,l,_,_,⟨_,rfl|⟨a,z,sz',rfl⟩⟩|⟨_,f,ver,ver',c,_,rfl,_⟩⟩:=r<;>rfl
 case nilrow=>rcases r with rfl|⟨a,z,sz',rfl⟩<;>rfl
 case map=>obtain⟨f,ver,_,rfl⟩:=r;rfl
 case nilmap=>subst r;rfl
 case func=>obtain⟨a',b',rfl,_⟩:=r;rfl
 case nilFunc=>subst r;rfl
 case iface=>obtain⟨v',rfl,_⟩:=r;rfl
 case nilIface=>subst r;rfl
 case agg=>obtain⟨vs,rfl,_⟩:=r;rfl
 case tuple=>obtain⟨vs,rfl,_⟩:=r;rfl
 case yld=>obtain⟨f,ver,_,rfl⟩:=r;rfl
 case abool=>obtain⟨q,rfl⟩:=r;rfl
theorem zt{d:D}{j:IntKind}{n:Int}(r:RD g d (.int j n)):d=.int j n:=by
 have h:=r.tag;cases d<;>first|(cases h;done)|skip
 grind [RD]
theorem zr{d:D}{l:List Nat}(r:RD g d (.str l)):d=.str l:=by
 have h:=r.tag;cases d<;>first|(cases h;done)|skip
 grind [RD]
theorem TC{d:D}(r:RD g d .nilIface):d=.nilIface:=by have h:=r.tag;cases d<;>first|(cases h;done)|rfl
theorem Yh{d:D}{vs:List V}(r:RD g d (.agg vs)):∃ cs,d=.agg cs:=by have h:=r.tag;cases d<;>first|(cases h;done)|exact⟨_,rfl⟩
theorem aaF{op:BinOp}{ty:TypeId}{x y:Operand}{a b:D}{κ:D->av}(h:aA P op ty (fS x||fS y) a b κ=some out){v w:V}(c:RD g a v)(i:RD g b w)(s:S):∃ d v',κ d=some out/\gC P s op ty x y (some v) (some w)=some v'/\RD g d v':=by
 have gen:∀ {κ:D->av},iq P op ty x y v w=true->(op=.eql->gx P (bX s) op ty v w=(du P (bX s) 20 ty v w).map .bool)->(op=.neq->gx P (bX s) op ty v w=(du P (bX s) 20 ty v w).map λb=>.bool (!b)) ->
  (op=.eql/\(So P 20 ty a b λq=>κ (.bool q))=some out\/op=.neq/\(So P 20 ty a b λq=>κ (.bool !q))=some out)->∃ d v',κ d=some out/\gC P s op ty x y (some v) (some w)=some v'/\RD g d v':=λ{κ} r l u h=>by
  rcases h with⟨e,h⟩|⟨e,h⟩
  .obtain⟨q,A,F⟩:=HQ (bX s) h c i
   grind [gC,Option.map,RD]
  .obtain⟨q,A,F⟩:=HQ (bX s) h c i
   grind [gC,Option.map,RD]
 unfold aA at h;split at h
 .rename_i j m k n;simp only[RD]at c i;subst c i;cases z:qb op with
  |true=>rw[z]at h;cases h
  |false =>
   rw[z]at h;simp only[Xi]at h;obtain⟨hk,h⟩:=aU h;obtain⟨d,v',l,u,p⟩:=ZH h;refine⟨d,v',l,?_,p⟩
   grind [iq,gC,gx]
 .simp only[RD]at c i;obtain⟨rfl,G⟩:=c;obtain⟨rfl,hb⟩:=i;obtain⟨d,v',l,u,p⟩:=Yk h G hb;refine⟨d,v',l,?_,p⟩
  grind [iq,gC,gx]
 .rename_i n1 n2;obtain⟨r,h⟩:=aU h;have H:op=.eql/\(So P 20 ty a b λq=>κ (.bool q))=some out\/op=.neq/\(So P 20 ty a b λq=>κ (.bool !q))=some out:=by grind
  refine gen ?_ (λe=>?_) (λe=>?_) H
  .unfold Wi at r;unfold iq
   grind [TC,Yh]
  .subst e;unfold gx;split
   .obtain rfl:=zt c;obtain rfl:=zt i
    grind
   .obtain rfl:=zr c;obtain rfl:=zr i
    grind
   .rfl
  .subst e;unfold gx;split
   .obtain rfl:=zt c;obtain rfl:=zt i
    grind
   .obtain rfl:=zr c;obtain rfl:=zr i
    grind
   .rfl
end
section
variable[gu]
variable{g:Gh}{LO:List Nat}{t:T LD}{tv:T V}{P:Program}{out:iY}
theorem RD.one{d:D}{v:V}(r:RD g d v)(a:WJ d≠12)(c:WJ d≠13):v.one=true:=by have h:=r.tag;cases v<;>first|rfl|(exfalso;first|exact a h.symm|exact c h.symm)
theorem nM{n:Nat}{d:D}{κ:List D->av}(h:aj n d κ=some out){v:V}(r:RD g d v):∃ new,κ new=some out/\RL g new v.cells/\bk v.cells/\v.cells.length=n:=by
 unfold aj at h;split at h
 .simp only[RD]at r;obtain⟨vs,rfl,a,c⟩:=r;obtain⟨hb,h⟩:=aU h;refine⟨_,h,a,c,?_⟩;rw[<- abj hb];exact a.len
 .cases h
 .rename_i n1 n2;obtain⟨hb,h⟩:=aU h;have a:v.one=true:=r.one (by cases d<;>first|exact(n1 _ rfl).elim|(exact λe=>by cases e)) (by cases d<;>first|exact(n2 _ rfl).elim|(exact λe=>by cases e));rw[ur a];exact⟨_,h,RL.one1 r,fD.2 ⟨a,rfl⟩,(abj hb).symm⟩
theorem pU:∀ {cs:List D} {c:Nat} {new cs':List D} {vs ws:List V},nY cs c new=some cs'->RL g cs vs->bk vs->RL g new ws->bk ws->∃ vs',cI vs c ws=some vs'/\RL g cs' vs'/\bk vs'/\cs'.length=cs.length
 |cs,c,[],cs',vs,ws,h,d,i,a,_=>by
  simp only[RL]at a;subst a;have:cs'=cs:=by cases cs<;>cases c<;>(simp only[nY]at h;cases h;rfl)
  subst this;refine⟨vs,?_,d,i,rfl⟩;cases vs<;>cases c<;>rfl
 |x::r,n+1,y::new,cs',vs,ws,h,d,i,a,j=>by
  simp only[nY]at h;split at h
  .rename_i l hl;cases h;simp only[RL]at d;obtain⟨v,vs',rfl,z,k⟩:=d;obtain⟨vs2,m,p,q,u⟩:=pU hl k (fD.1 i).2 a j;simp only[RL]at a;obtain⟨w,ws',rfl,_,_⟩:=a;exact⟨v::vs2,by simp only[cI,m,Option.map],by simp only[RL];exact⟨v,vs2,rfl,z,p⟩,fD.2 ⟨(fD.1 i).1,q⟩,by simp only[aga,u]⟩
  .cases h
 |x::r,0,y::new,cs',vs,ws,h,d,i,a,j=>by
  simp only[nY]at h;split at h
  .rename_i l hl;cases h;simp only[RL]at d a;obtain⟨v,vs',rfl,z,k⟩:=d;obtain⟨w,ws',rfl,A,F⟩:=a;obtain⟨vs2,m,p,q,u⟩:=pU hl k (fD.1 i).2 F (fD.1 j).2;exact⟨w::vs2,by simp only[cI,m,Option.map],by simp only[RL];exact⟨w,vs2,rfl,A,p⟩,fD.2 ⟨(fD.1 j).1,q⟩,by simp only[aga,u]⟩
  .cases h
 |[],c,y::new,cs',vs,ws,h,_,_,_,_=>by cases c<;>(simp only[nY]at h;cases h)
theorem AT{cs:List D}{c:Nat}{new:List D}{κ:List D->av}(h:aC cs c new κ=some out){vs ws:List V}(h1:RL g cs vs)(h2:bk vs)(h3:RL g new ws)(h4:bk ws):∃ cs' vs',κ cs'=some out/\cI vs c ws=some vs'/\RL g cs' vs'/\bk vs'/\cs'.length=cs.length:=by grind [aC,pU]
theorem BY(place:Nat->Option (Nat×Nat)):∀ {parts:List (Nat×Operand)} {cs:List D} {κ:List D->av} {vs:List V},FZ place t parts cs κ=some out->(∀ x∈parts,GA g LO t tv x.2)->RL g cs vs->bk vs ->
 ∃ cs' vs' ws,κ cs'=some out/\eP tv parts=some ws/\qX place vs ws=some vs'/\RL g cs' vs'/\bk vs'
 |[],cs,κ,vs,h,_,a,c=>⟨cs,vs,[],h,rfl,rfl,a,c⟩
 |(i,x)::r,cs,κ,vs,h,ho,a,c=>by
  simp only[FZ]at h;obtain⟨d,v,h,_,k1,j⟩:=bO h (ho (i,x) adN);split at h
  .cases h
  .rename_i off n hp;obtain⟨hn,h⟩:=aU h;obtain⟨new,h,k,l,k5⟩:=nM h j;obtain⟨cs1,vs1,h,k6,m,p,_⟩:=AT h a c k l;obtain⟨cs2,vs2,ws,j1,j2,j3,j4,j5⟩:=BY place h (λy hy=>ho y (acl _ hy)) m p
   grind [eP,qX,Nat.beq_refl,Bool.and_self,Option.bind]
theorem SD{ty:TypeId}{parts:List (Nat×Operand)}{κ:D->av}(h:Dq P t ty parts κ=some out)(ho:∀ x∈parts,GA g LO t tv x.2):∃ d v,κ d=some out/\qi P ty (eP tv parts)=some v/\RD g d v:=by
 unfold Dq at h;split at h
 .rename_i z q;obtain⟨zv,r,_,a,c⟩:=kf (g:=g) q;split at h
  .rename_i fs i;obtain⟨ha,h⟩:=aU h;obtain⟨cs',vs',ws,j,k,l,m,p⟩:=BY _ h ho a c
   grind [qi,Ll,RD]
  .rename_i nn el i;split at h
   .rename_i n u;obtain⟨cs',vs',ws,j,k,l,m,p⟩:=BY _ h ho a c;exact⟨_,.agg vs',j,by simp only[qi,r,k,i,u,l,Ll],by simp only[RD];exact⟨vs',rfl,m,p⟩⟩
   .cases h
  .cases h
 .cases h
def hC(H:DH)(g:Gh):Prop:=∀(o:Nat) b,H[o]? = some b->b=.dead\/g.H[o]? = some b
theorem hC.nil(g:Gh):hC [] g:=λo b h=>by simp at h
theorem hC.refl(g:Gh):hC g.H g:=λ_ _ h=>.inr h
theorem Hp{H:DH}{o:Nat}{κ:Nat->List D->av}(h:aB H o κ=some out)(c:hC H g)(a:Ok g):∃ st cs f el vs,κ st cs=some out/\H[o]? = some (.cells st cs)/\g.H[o]? = some (.cells st cs)/\g.O[o]? = some (some (f,0))/\g.s.get f=some (.cells el false 1 [⟨0,0,vs⟩])/\RL g cs vs/\bk vs:=by
 unfold aB at h;split at h
 .rename_i st cs hc;have d:g.H[o]? = some (.cells st cs):=(c o _ hc).resolve_left (λe=>by cases e);obtain⟨f,el,vs,h1⟩:=a.obj o _ d
  grind
 .cases h
theorem nO{H:DH}{o n:Nat}{κ:Nat->Bool->Bool->List (List D)->av}(h:cH H o n κ=some out)(a:hC H g):∃ sz st cap l,κ sz st cap l=some out/\H[o]? = some (.buf sz st cap l)/\g.H[o]? = some (.buf sz st cap l)/\n=l.length:=by
 unfold cH at h;split at h
 .rename_i sz st cap l hc;obtain⟨hb,h⟩:=aU h;exact⟨sz,st,cap,l,h,hc,(a o _ hc).resolve_left (λe=>by cases e),abj hb⟩
 .cases h
theorem MM{s:S}{f el:Nat}{vs:List V}(h:s.get f=some (.cells el false 1 [⟨0,0,vs⟩])):loadCells s ⟨f,0,0⟩ vs.length=some vs:=by rw[ldn h,aoi];exact eu _ _ rfl
theorem Zz{ty:TypeId}{d:D}{H:DH}{κ:D->av}(h:bJ P ty d H κ=some out)(F:hC H g)(m:Ok g){v:V}(r:RD g d v):∃ j v',κ j=some out/\jC P g.s ty (some v)=some (.val v' g.s)/\RD g j v':=by
 unfold bJ at h;split at h
 .simp only[RD]at r;obtain⟨a,vs,rfl,y,k,z,p⟩:=r;obtain⟨j,v',q,u,w⟩:=nh h k z p;exact⟨j,v',q,by rw[kK,u];rfl,w⟩
 .rename_i o c;simp only[RD]at r;obtain⟨f,ver,y,rfl⟩:=r;obtain⟨_,cs,f',el,vs,h,_,_,k,z,p,A⟩:=Hp h F m;rw[y]at k;cases k;obtain⟨j,v',q,u,w⟩:=nh h (a:=⟨f,0,0⟩) (by rw[<- p.len];exact MM z) p A;refine⟨j,v',q,?_,w⟩;rw[kK,show(⟨f,0,c⟩:Ad)=cV ⟨f,0,0⟩ c by simp[cV],u];rfl
 .rename_i o n i c;simp only[RD]at r;obtain⟨f,ver,sz,st,cap,l,ver',y,k,z,p,rfl,A⟩:=r;obtain⟨sz',st',cap',l',h,_,G,J⟩:=nO h F;rw[k]at G;cases G;unfold aX at h;split at h
  .rename_i cs hc;obtain⟨_,K|⟨K,f',ver2,el,nv,vers,cells,I,i3,i4,i5,i6,M⟩⟩:=m.obj o _ k
   .grind
   .rw[y]at I;cases I;rw[A J];obtain⟨vs,N,O,Q,R⟩:=M.at hc;obtain⟨j,v',q,u,w⟩:=nh h (a:=cV ⟨f,ver,0⟩ (i*sz)) (by rw[N];exact O) Q R;refine⟨j,v',q,?_,w⟩;rw[kK,show(⟨f,ver,i*sz+c⟩:Ad)=cV (cV ⟨f,ver,0⟩ (i*sz)) c by simp[cV],u];rfl
  .cases h
 .cases h
theorem JD{ty:TypeId}{x:LD}{L:LS}{H:DH}{κ:D->av}(h:mr P ty x L H κ=some out)(p:hC H g)(l:Ok g)(hl:LRw g L LO){v:V}(r:RS g LO x v):∃ i v',κ i=some out/\jC P g.s ty (some v)=some (.val v' g.s)/\RD g i v':=by
 cases x with
 |g d=>exact Zz h p l r
 |u=>cases h
 |lp k c =>
  simp only[mr]at h;obtain⟨f,w,rfl⟩:=r;split at h
  .rename_i st cs hc;obtain⟨_,j|⟨el,vs,j,m,y⟩⟩:=hl k _ f hc w
   .simp only at j;subst j;exfalso;unfold bL at h;split at h
    .split at h
     .rename_i n _;obtain⟨z,h⟩:=aU h;obtain⟨_,q⟩:=iL h;have:=act z
      grind
     .cases h
    .grind [jX]
    .cases h
   .obtain⟨i,v',A,F,G⟩:=nh h (a:=⟨f,0,0⟩) (by rw[<- m.len];exact MM j) m y;refine⟨i,v',A,?_,G⟩;rw[kK,show(⟨f,0,c⟩:Ad)=cV ⟨f,0,0⟩ c by simp[cV],F];rfl
  .cases h
theorem oX{ty el:TypeId}{d:TypeDesc}(h:zH P ty=some (d,el)):∃ kt,P.underlying ty=some (.map kt el)/\P.underlying kt=some d/\Ei d=true/\eI P kt=true:=by
 unfold zH at h;split at h
 .rename_i kt el' c;split at h
  .rename_i i a;cases hk:Ei i with
   |false=>rw[hk]at h;cases h
   |true =>rw[hk]at h;cases h;refine⟨kt,c,a,hk,?_⟩;unfold eI;rw[a];cases d<;>first|(cases hk;done)|rfl
  .cases h
 .cases h
theorem qa{kt:TypeId}{td:TypeDesc}(j:P.underlying kt=some td)(okf:Ad->Bool){a b:D}{v w:V}{q:Bool}(h:BA a b=some q)(i:rR td a=true)(c:RD g a v)(d:RD g b w):du P okf 20 kt v w=some q:=by
 unfold BA at h;unfold du;rw[j];split at h
 .simp only[RD]at c d;subst c d;revert h;cases hk:dE _ _ with
  |false=>intro h;cases h
  |true =>intro h;simp only[ge]at h;cases td<;>first|(cases i;done)|(simp only[hk,ge];exact h)
 .simp only[RD]at c d;obtain⟨rfl,k⟩:=c;obtain⟨rfl,hb⟩:=d;cases h;cases td<;>first|(cases i;done)|(simp only;rw[sL k hb];congr 1;rw[ajF];simp)
 .simp only[RD]at c d;subst c d;cases h;cases td<;>first|(cases i;done)|rfl
 .cases h
def ajy(g:Gh):Option D->Option V->Prop
 |some d,some v=>RD g d v
 |none,none=>True
 |_,_=>False
theorem sw.find{kt:TypeId}{td:TypeDesc}(a:P.underlying kt=some td)(okf:Ad->Bool){k:D}{kv:V}(c:rR td k=true)(rk:RD g k kv):∀ {es:List (D×D)} {ents:List qE} {r:Option D},sw g es ents->JA k es=some r->∃ rv,cJ (du P okf 20 kt) kv ents=some rv/\ajy g r rv
 |[],_,r,h,e=>by simp only[sw]at h;subst h;cases e;exact⟨none,rfl,trivial⟩
 |(x,v)::l,_,r,h,e=>by
  simp only[sw]at h;obtain⟨⟨ke,ve,born⟩,es',rfl,i,j,_,m⟩:=h;simp only[JA]at e;split at e
  .rename_i d;cases e;exact⟨some ve,by simp only[cJ,qa a okf d c rk i,cJ.foundKey],j⟩
  .rename_i d;obtain⟨rv,n,p⟩:=sw.find a okf c rk m e;exact⟨rv,by simp only[cJ,qa a okf d c rk i,cJ.foundKey,n],p⟩
  .cases e
theorem CZ{H:DH}{o:Nat}{κ:List (D×D)->av}(h:rM H o κ=some out)(c:hC H g)(a:Ok g):∃ es f ents clock,κ es=some out/\H[o]? = some (.map es)/\g.H[o]? = some (.map es)/\g.O[o]? = some (some (f,0))/\g.s.get f=some (.map ents clock)/\sw g es ents:=by
 unfold rM at h;split at h
 .rename_i es hc;have d:g.H[o]? = some (.map es):=(c o _ hc).resolve_left (λe=>by cases e);obtain⟨f,ents,clock,h1,h2,h3⟩:=a.obj o _ d
  grind
 .cases h
theorem FN{el:TypeId}{ok:Bool}{o:Option D}{κ:D->av}(h:lQ P el ok o κ=some out){rv:Option V}(hr:ajy g o rv):∃ d v,κ d=some out/\Qd P el ok (some rv)=some v/\RD g d v:=by
 cases o with
 |some d =>
  cases rv with
  |none=>exact hr.elim
  |some v =>
   refine⟨_,_,h,rfl,?_⟩;cases ok with
   |false=>exact hr
   |true=>simp only[ge,RD,RL];exact⟨_,rfl,v,_,rfl,hr,_,_,rfl,rfl,rfl⟩
 |none =>
  cases rv with
  |some _=>exact hr.elim
  |none =>
   simp only[lQ]at h;split at h
   .rename_i z a;obtain⟨zv,h1,h2,_⟩:=kf (g:=g) a
    grind [Qd,RD,RL]
   .cases h
theorem Vt{ty:TypeId}{m k:D}{ok:Bool}{H:DH}{κ:D->av}(h:oa P ty m k ok H κ=some out)(j:hC H g)(c:Ok g){mv kv:V}(a:RD g m mv)(l:RD g k kv):∃ d v,κ d=some out/\kJ P g.s ty (some mv) (some kv) ok=some v/\RD g d v:=by
 unfold oa at h;split at h
 .rename_i td el hm;obtain⟨kt,hu,hk,_,hsk⟩:=oX hm;split at h
  .obtain⟨n,h⟩:=aU h;simp only[RD]at a;obtain⟨f,ver,p,rfl⟩:=a;obtain⟨es,f',ents,clock,h,_,_,i,h3,q⟩:=CZ h j c;rw[p]at i;cases i;unfold wt at h;split at h
   .rename_i r hr;obtain⟨rv,k1,k2⟩:=q.find (P:=P) hk (bX g.s) n l hr
    grind [FN,kJ,CS]
   .cases h
  .simp only[RD]at a;subst a;obtain⟨d,v,j1,j2,j3⟩:=FN (g:=g) h (rv:=none) trivial
   grind [kJ,CS,cJ]
  .cases h
 .cases h
theorem sw.len:∀ {es:List (D×D)} {ents:List qE},sw g es ents->ents.length=es.length
 |[],_,h=>by simp only[sw]at h;subst h;rfl
 |(x,v)::l,_,h=>by simp only[sw]at h;obtain⟨e,es',rfl,_,_,_,a⟩:=h;simp only[aga,sw.len a]
theorem Zx{ty:TypeId}{x:D}{H:DH}{κ:D->av}(h:aP P ty x H κ=some out)(m:hC H g)(j:Ok g){v:V}(r:RD g x v):∃ d v',κ d=some out/\mu P ty g.s v=some v'/\RD g d v':=by
 unfold aP at h;split at h
 .rename_i i;split at h
  .simp only[RD]at r;obtain⟨rfl,_⟩:=r;exact⟨_,.int .i64 _,h,by simp only[mu,i,cX];rfl,by simp only[RD]⟩
  .cases h
 .rename_i i;split at h
  .rename_i l;simp only[RD]at r;refine⟨_,.int .i64 (l.length:Nat),h,?_,by simp only[RD]⟩;rcases r with⟨rfl,rfl⟩|⟨rfl,a,z,sz',rfl⟩|⟨a,z,cap,rfl,_⟩
   .simp_all[mu]
   .simp_all[mu,cX]
   simp_all[mu,cX]
  .rename_i n;simp only[RD]at r;obtain⟨st,cap,l,_,_,⟨rfl,rfl|⟨a,z,sz',rfl⟩⟩|⟨_,f,ver,ver',c,_,rfl,_⟩⟩:=r
   .exact⟨_,.int .i64 0,h,by simp only[mu,i],by simp only[RD];rfl⟩
   .exact⟨_,.int .i64 0,h,by simp only[mu,i,cX];rfl,by simp only[RD];rfl⟩
   .exact⟨_,.int .i64 (n:Nat),h,by simp only[mu,i,cX],by simp only[RD]⟩
  .simp only[RD]at r;refine⟨_,.int .i64 0,h,?_,by simp only[RD]⟩;rcases r with rfl|⟨a,z,sz',rfl⟩
   .simp_all[mu]
   simp_all[mu,cX]
  .cases h
 .rename_i i;split at h
  .simp only[RD]at r;obtain⟨f,ver,p,rfl⟩:=r;obtain⟨es,f',ents,clock,h,_,_,k,q,u⟩:=CZ h m j;rw[p]at k;cases k;exact⟨_,.int .i64 (es.length:Nat),h,by simp only[mu,i,q,u.len],by simp only[RD]⟩
  .simp only[RD]at r;subst r;exact⟨_,.int .i64 0,h,by simp only[mu,i],by simp only[RD]⟩
  .cases h
 .cases h
theorem Zm{q:Bool}{x y:D}{κ:D->av}(h:MB q x y κ=some out){v w:V}(a:RD g x v)(c:RD g y w):∃ d v',κ d=some out/\(bif q then RP v w else RN v w)=some v'/\RD g d v':=by
 unfold MB at h;split at h
 .split at h
  .simp only[RD]at a c;subst a c;obtain⟨hk,h⟩:=aU h;refine⟨_,_,h,?_,by simp only[RD];rfl⟩
   grind [RP,RN]
  .cases h
 .cases h
theorem Bk{q:Bool}:∀ {l:List D} {x:D} {κ:D->av} {ws:List V} {v:V},jj q x l κ=some out->RD g x v->RL g l ws->∃ d v',κ d=some out/\ws.foldlM (λa b=>bif q then RP a b else RN a b) v=some v'/\RD g d v'
 |[],x,κ,ws,v,h,i,c=>by simp only[RL]at c;subst c;exact⟨x,v,h,rfl,i⟩
 |y::l,x,κ,ws,v,h,i,c=>by
  simp only[RL]at c;obtain⟨w,ws',rfl,j,k⟩:=c;simp only[jj]at h;obtain⟨d,v1,h,h1,m⟩:=Zm h i j;obtain⟨d',v',k1,k2,k3⟩:=Bk h m k
  grind
end
section
variable[gu]
variable{b:Nat}{P0:List Nat}{g:Gh}{LO:List Nat}{t:T LD}{L:LS}{tv:T V}{P:Program}{out:iY}
def Tc(g:Gh)(L:LS)(LO:List Nat)(g':Gh)(L':LS):Prop:=∀(k:Nat) st cs f,L[k]? = some (st,cs)->LO[k]? = some f->∃ st' cs',L'[k]? = some (st',cs')/\st<=st'/\(st=st'->cs'=cs/\g'.s.get f=g.s.get f)
structure IH(g:Gh)(L:LS)(LO:List Nat)(g':Gh)(L':LS)(LO':List Nat):Prop where
 pre:LO <+: LO'
 pvn:Tc g L LO g' L'
theorem Tc.of{L:LS}{g g':Gh}{LO:List Nat}(a:∀ f∈LO,g'.s.get f=g.s.get f):Tc g L LO g' L:=λ_ st cs f c d=>⟨st,cs,c,abH _,λ_=>⟨rfl,a f (akV d)⟩⟩
theorem Tc.trans{x y z:Gh}{L M N:LS}{LO LO':List Nat}(h:Tc x L LO y M)(hp:LO <+: LO')(k:Tc y M LO' z N):Tc x L LO z N:=λi st cs f c a=>by
 obtain⟨st',cs',d,h4,h5⟩:=h i st cs f c a;obtain⟨q,rfl⟩:=hp;obtain⟨s2,c2,k1,k2,k3⟩:=k i st' cs' f d (fT q a)
 grind
theorem IH.refl(g:Gh)(L:LS)(LO:List Nat):IH g L LO g L LO:=⟨aoq,Tc.of λ_ _=>rfl⟩
theorem IH.trans{x y z:Gh}{L M N:LS}{A B C:List Nat}(h:IH x L A y M B)(k:IH y M B z N C):IH x L A z N C:=⟨h.pre.trans k.pre,h.pvn.trans h.pre k.pvn⟩
theorem IH.ps{g g':Gh}{L:LS}{LO:List Nat}(a:g'.s=g.s):IH g L LO g' L LO:=⟨aoq,Tc.of λ_ _=>by rw[a]⟩
theorem IH.al(h:FI b P0 g t L tv LO){g':Gh}(B:ef)(a:g'.s=g.s.alloc B):IH g L LO g' L LO:=⟨aoq,Tc.of λf c=>by rw[a];exact aY (h.lo_lt c)⟩
theorem IH.op(h:FI b P0 g t L tv LO){g':Gh}{o f ver:Nat}{B:ef}(ho:g.O[o]? = some (some (f,ver)))(a:g'.s=g.s.put f B):IH g L LO g' L LO:=⟨aoq,Tc.of λf' c=>by rw[a];exact cZ λe=>h.lo_out c o ver (by rw[<- e];exact ho)⟩
theorem IH.new(h:FI b P0 g t L tv LO){g':Gh}{B:ef}(x:Nat×List D)(f:Nat)(a:g'.s=g.s.alloc B):IH g L LO g' (L++[x]) (LO++[f]):=⟨List.prefix_append _ _,λ_ st cs f c d=>⟨st,cs,fT _ c,abH _,λ_=>⟨rfl,by rw[a];exact aY (h.lo_lt (akV d))⟩⟩⟩
theorem IH.put(h:FI b P0 g t L tv LO){g':Gh}{B:ef}{k f st:Nat}{cs0:List D}(hk:L[k]? = some (st,cs0))(c:LO[k]? = some f)(cs:List D)(d:g'.s=g.s.put f B):IH g L LO g' (L.set k (st+1,cs)) LO:=⟨aoq,λi st' cs' f' a j=>by
 by_cases e:k=i
 .subst e;rw[hk]at a;cases a;exact⟨st+1,cs,cj hk,Nat.le_succ _,λq=>by omega⟩
 .exact⟨st',cs',by rw[gv e];exact a,abH _,λ_=>⟨rfl,by rw[d];exact cZ λq=>e (vd h.nd c (by rw[q];exact j))⟩⟩⟩
def ze(b:Nat)(P0:List Nat)(g:Gh)(t:T LD)(L:LS)(tv:T V)(LO:List Nat)(L':LS)(H':DH)(s':S)(Q:Gh->List Nat->Prop):Prop :=
 ∃ g' LO',g'.H=H'/\g'.s=s'/\FI b P0 g' t L' tv LO'/\Mv b g g'/\IH g L LO g' L' LO'/\Q g' LO'
theorem ze.same(h:FI b P0 g t L tv LO){Q:Gh->List Nat->Prop}(q:Q g LO):ze b P0 g t L tv LO L g.H g.s Q:=⟨g,LO,rfl,rfl,h,.refl b g,.refl g L LO,q⟩
theorem Pp(h:FI b P0 g t L tv LO){esc:Bool}{cs:List D}{κ:DU->av}(e:RH esc cs L g.H κ=some out){vs:List V}(hr:RL g cs vs)(ho:bk vs)(el:TypeId) :
 ∃ x L' H',κ (.val x L' H')=some out/\ze b P0 g t L tv LO L' H' (g.s.alloc (.cells el false 1 [⟨0,0,vs⟩])) λg' LO'=>RS g' LO' x (.ptr ⟨g.s.next,0,0⟩):=by
 unfold RH at e;cases esc with
 |true =>
  refine⟨_,_,_,e,g.obj (.cells 0 cs) (.cells el false 1 [⟨0,0,vs⟩]),LO,rfl,rfl,?_,rJ h.ok h.bl _ _,.al h _ rfl,?_⟩
  .exact h.mkobj ⟨g.s.next,el,vs,oT h.ok _ _,tu,hr.mono (Bw h.ok.len _ _),ho⟩
  .show RD _ _ _;simp only[RD];exact⟨g.s.next,0,oT h.ok _ _,rfl⟩
 |false =>refine⟨_,_,_,e,g.prv (.cells el false 1 [⟨0,0,vs⟩]),LO++[g.s.next],rfl,rfl,h.prv hr ho,adC h.ok h.bl,.new h _ _ rfl,?_⟩;exact⟨g.s.next,by rw[h.own.1];exact jl,rfl⟩
theorem zF:∀(l:List D) (c:Nat),nY l c []=some l
 |[],0=>rfl
 |[],_+1=>rfl
 |_::_,0=>rfl
 |_::_,_+1=>rfl
theorem Pk:∀(x r new:List D),new.length=x.length->nY (x++r) 0 new=some (new++r)
 |[],r,[],_=>zF r 0
 |a::x,r,b::new,h=>by simp only[ajo,nY,Pk x r new (by simpa using h)]
 |[],_,_::_,h=>by simp at h
 |_::_,_,[],h=>by simp at h
theorem Jq:∀(x r new:List D) (k:Nat),nY (x++r) (x.length+k) new=(nY r k new).map (x++·)
 |[],r,new,k=>by simp
 |a::x,r,[],k=>by rw[zF,zF];rfl
 |a::x,r,b::new,k=>by rw[ajo,aga,show x.length+1+k=(x.length+k)+1 by omega];simp only[nY,Jq x r (b::new) k];cases nY r k (b::new)<;>rfl
theorem Mg:∀(x r new:List D) (k:Nat) (c:List D),nY x k new=some c->nY (x++r) k new=some (c++r)
 |x,r,[],k,c,h=>by rw[zF]at h ⊢;cases h;rfl
 |a::x,r,b::new,k+1,c,h=>by
  simp only[nY]at h;split at h
  .rename_i l hl;cases h;simp only[ajo,nY,Mg x r (b::new) k l hl]
  .cases h
 |a::x,r,b::new,0,c,h=>by
  simp only[nY]at h;split at h
  .rename_i l hl;cases h;simp only[ajo,nY,Mg x r new 0 l hl]
  .cases h
 |[],r,b::new,k,c,h=>by cases k<;>(simp only[nY]at h;cases h)
theorem AS{n:Nat}:∀ {l:List (List D)} {i c:Nat} {cs cs' new:List D},(∀ x∈l,x.length=n)->l[i]? = some cs->nY cs c new=some cs'->nY l.flatten (i*n+c) new=some (l.set i cs').flatten
 |[],i,c,cs,cs',new,_,h,_=>by simp at h
 |x::l,0,c,cs,cs',new,a,h,e=>by simp_all[Mg]
 |x::l,i+1,c,cs,cs',new,a,h,e=>by simp only[aoD,List.set_cons_succ];have d:=a x adN;rw[show(i+1)*n+c=x.length+(i*n+c)by rw[d,aoY];omega,Jq,AS (λy hy=>a y (acl _ hy)) (by simpa using h) e];rfl
theorem Qh{n:Nat}:∀ {l:List (List D)} {i:Nat} {cs:List D},(∀ x∈l,x.length=n)->l[i]? = some cs->(l.flatten.drop (i*n)).take n=cs
 |[],i,cs,_,h=>by simp at h
 |x::l,0,cs,a,h=>by grind
 |x::l,i+1,cs,a,h=>by have c:=a x adN;rw[aoD,show(i+1)*n=x.length+i*n by rw[c,aoY];omega,<- apI,List.drop_left];simp_all[Qh]
theorem my{n:Nat}:∀ {l:List (List D)},(∀ x∈l,x.length=n)->l.flatten.length=l.length*n
 |[],_=>by simp
 |x::l,a=>by rw[aoD,abg,my (λy hy=>a y (acl _ hy)),a x adN,aga,aoY];omega
theorem RR.flat{a:Ad}{n:Nat}{l:List (List D)}{vs:List V}(d:∀ x∈l,x.length=n)(hl:loadCells g.s a (l.length*n)=some vs)(hr:RL g l.flatten vs)(ho:bk vs):RR g a n l:=RR.of λi cs h=>by
 have hi:i<l.length:=by grind
 have c:i*n+n<=l.length*n:=by
  have:=aoT n (show i+1<=l.length from hi)
  grind
 refine⟨_,d cs (akV h),jc hl c,?_,uX (uY ho _) _⟩;have:=(hr.drop (i*n)).take n
 grind [Qh]
theorem RR.lens:∀ {l:List (List D)} {a:Ad} {n:Nat},RR g a n l->∀ x∈l,x.length=n
 |[],_,_,_,x,c=>by cases c
 |y::l,a,n,r,x,c=>by
  simp only[RR]at r;rcases afS.1 c with rfl|c
  .grind
  .exact RR.lens r.2 x c
theorem Eh{s:S}{a:Ad}{m n:Nat}{x y:List V}(d:loadCells s a m=some x)(h:loadCells s (cV a m) n=some y):loadCells s a (m+n)=some (x++y):=by
 have key:∀(u:om),(bif Nat.ble u.lo a.c then bA m (u.cells.drop (a.c - u.lo))else none)=some x->(bif Nat.ble u.lo (a.c+m)then bA n (u.cells.drop (a.c+m - u.lo))else none)=some y->(bif Nat.ble u.lo a.c then bA (m+n) (u.cells.drop (a.c - u.lo))else none)=some (x++y):=λu e1 e2=>by grind [Nat.le_of_ble_eq_true,Nat.ble_eq_true_of_le,eH,List.length_drop,mM,List.drop_drop]
 unfold loadCells at d h ⊢;simp only[cV]at h;split at d
 .rename_i i;rw[i]at h;simp only at h;split at d
  .grind
  .cases d
 .rename_i i;rw[i]at h;simp only at h;split at d
  .grind
  .cases d
 .cases d
theorem RR.cells:∀ {l:List (List D)} {a:Ad} {n:Nat},RR g a n l->l≠[]->∃ vs,loadCells g.s a (l.length*n)=some vs/\RL g l.flatten vs/\bk vs
 |[],_,_,_,h=>(h rfl).elim
 |[x],a,n,r,_=>by grind [RR]
 |x::y::l,a,n,r,_=>by
  rw[RR]at r;obtain⟨⟨vs,h1,h2,c,d⟩,r⟩:=r;obtain⟨ws,k1,i,j⟩:=RR.cells r (by simp);refine⟨vs++ws,?_,?_,AY d j⟩
  .grind [Eh,List.length_cons,Nat.add_mul]
  .rw[aoD];exact c.append i
theorem sV{n len:Nat}(m:0<n):∀ {parts:List (Nat×Operand)} {l:List (List D)} {κ:List (List D)->av} {vs:List V},oJ t n len parts l κ=some out->(∀ x∈parts,GA g LO t tv x.2)->l.length=len->(∀ x∈l,x.length=n)->RL g l.flatten vs->bk vs ->
 ∃ l' vs' ws,κ l'=some out/\eP tv parts=some ws/\qX (λi=>some (i*n,n)) vs ws=some vs'/\l'.length=len/\(∀ x∈l',x.length=n)/\RL g l'.flatten vs'/\bk vs'
 |[],l,κ,vs,h,_,j,k,p,q=>⟨l,vs,[],h,rfl,rfl,j,k,p,q⟩
 |(i,x)::r,l,κ,vs,h,ho,j,k,p,q=>by
  simp only[oJ]at h;obtain⟨d,v,h,_,k1,A⟩:=bO h (ho (i,x) adN);obtain⟨hb,h⟩:=aU h;have hi:i<l.length:=by rw[j];exact act hb
  obtain⟨new,h,z,F,G⟩:=nM h A;have u:new.length=n:=by rw[<- G,z.len]
  have H:l[i]? = some l[i]:=abI hi;have w:=AS (c:=0) (new:=new) k H (by have:=Pk l[i] [] new (by rw[u,k _ (aoP hi)]);simpa using this);obtain⟨vs1,j1,I,J,_⟩:=pU w p q z F;have a:∀ y∈l.set i new,y.length=n:=λy hy=>by grind
  obtain⟨l',vs',ws,i1,i2,i3,i4⟩:=sV m h (λy hy=>ho y (acl _ hy)) (by rw[anK];exact j) a I J
  grind [eP,qX,Nat.beq_refl,NJ,Bool.and_self,Option.bind]
theorem RL.flat_rep{z:List D}{zv:List V}(h:RL g z zv):∀ n,RL g (List.replicate n z).flatten (List.replicate n zv).flatten
 |0=>by simp[RL]
 |n+1=>by simp only[aok,aoD];exact h.append (RL.flat_rep h n)
theorem AX{zv:List V}(h:bk zv):∀ n,bk (List.replicate n zv).flatten
 |0=>rfl
 |n+1=>by simp only[aok,aoD];exact AY h (AX h n)
theorem MN{s:S}{el n:Nat}{vs:List V}(h:n=vs.length):loadCells (s.alloc (.cells el false 1 [⟨0,0,vs⟩])) ⟨s.next,0,0⟩ n=some vs:=by grind [MM,ir]
theorem Dp(h:FI b P0 g t L tv LO){ty:TypeId}{len:Nat}{parts:List (Nat×Operand)}{κ:D->av}(e:jr P t ty len parts κ=some out)(ho:∀ x∈parts,GA g LO t tv x.2) :
 ∃ d v s',κ d=some out/\cP P g.s ty len (eP tv parts)=some (.val v s')/\ze b P0 g t L tv LO L g.H s' λg' _=>RD g' d v:=by
 unfold jr at e;split at e
 .rename_i el hu;split at e
  .rename_i z y;obtain⟨zv,h1,_,p,A⟩:=kf (g:=g) y;split at e
   .rename_i n hn;obtain⟨hc,e⟩:=aU e;simp only[abk,aoe]at hc;obtain⟨⟨hc1,j⟩,k⟩:=hc;have a:0<n:=apa λq=>by subst q;simp at j
    have i:z.cells.length=n:=abj k;have hzv:zv.cells.length=n:=by rw[p.len,i]
    obtain⟨l',vs',ws,F,k2,k3,l,u,w,G⟩:=sV a e ho (aom ..) (λx I=>by rw[List.eq_of_mem_replicate I];exact i) (p.flat_rep len) (AX A len);have J:cP P g.s ty len (eP tv parts)=some (.val (.slice ⟨g.s.next,0,0⟩ 0 len (some len) n) (g.s.alloc (.cells el false 1 [⟨0,0,vs'⟩]))):=by grind [cP,Bool.not_false,Bool.and_self,me,bE,bD]
    refine⟨_,_,_,F,J,g.blk (.cells el false 1 [⟨0,0,vs'⟩]),LO,rfl,rfl,h.blk _,Mw h.ok h.bl _,.al h _ rfl,?_⟩;have m:vs'.length=l'.length*n:=by rw[w.len,my u]
    cases l' with
    |nil =>simp only[Uh,RD];exact .inr ⟨_,_,_,by rw[<- l];rfl⟩
    |cons x r =>
     simp only[Uh,RD];refine .inr (.inr ⟨⟨g.s.next,0,0⟩,0,some len,by rw[l],a,.inl rfl,λc hc=>by cases hc;rw[l];exact abH _,λ_=>⟨?_,λhp=>?_,λo v ho=>?_⟩,?_⟩)
     .show _<(g.s.alloc _).next;rw[S.next_alloc];exact apx _
     .exact anz _ (h.ok.pv _ hp)
     .exact(anz _ (h.ok.lt o _ v ho).1).elim
     .exact RR.flat u (MN m.symm) (w.mono (ML _)) G
   .cases e
  .cases e
 .cases e
theorem RJ(h:FI b P0 g t L tv LO):ze b P0 g t L tv LO L (g.H++[.map []]) (g.s.alloc (.map [] 0)) λg' _=>RD g' (.map g.H.length) (.map g.s.next):=by refine⟨g.obj (.map []) (.map [] 0),LO,rfl,rfl,h.mkobj ⟨g.s.next,[],0,oT h.ok _ _,tu,rfl⟩,rJ h.ok h.bl _ _,.al h _ rfl,?_⟩;simp only[RD];exact⟨g.s.next,0,oT h.ok _ _,rfl⟩
end
section
variable[gu]
variable{b:Nat}{P0:List Nat}{g:Gh}{LO:List Nat}{t:T LD}{L:LS}{tv:T V}{P:Program}{out:iY}
theorem wg{s:S}{ty n:Nat}{a:Ad}{v:V}(hn:size P ty=some n)(hl:v.cells.length=n):storeVar P s ty a v=storeCells s a v.cells:=by grind [storeVar,Nat.beq_refl]
theorem oU(h:Ok g){o f ver:Nat}(ho:g.O[o]? = some (some (f,ver))){x:DB}(hx:g.H[o]? = some x)(hn:∀ sz cap l,x≠.buf sz false cap l):¬ g.Imm f:=λhi=>by
 obtain⟨sz,cap,l,h1⟩:=hi.2.2 o ver ho
 grind
theorem Zd{l:List (List D)}{i:Nat}{κ:List D->av}(h:aX l i κ=some out):∃ cs,l[i]? = some cs/\κ cs=some out:=by grind [aX]
theorem Fg{cs new:List D}{c:Nat}{κ:List D->av}(h:aC cs c new κ=some out):∃ cs',nY cs c new=some cs'/\κ cs'=some out:=by grind [aC]
theorem Yu(h:FI b P0 g t L tv LO){d:D}{new:List D}{κ:DH->av}(e:GK d new g.H κ=some out){v:V}(r:RD g d v){ws:List V}(Y:RL g new ws)(G:bk ws) :
 ∃ a s' H',v=.ptr a/\κ H'=some out/\storeCells g.s a ws=some s'/\ze b P0 g t L tv LO L H' s' λ_ _=>True:=by
 unfold GK at e;split at e
 .rename_i o c;simp only[RD]at r;obtain⟨f,ver,j,rfl⟩:=r;obtain⟨st,cs,f',el,vs,e,_,hc,p,K,M,N⟩:=Hp e (hC.refl g) h.ok;rw[j]at p;cases p;obtain⟨cs',vs',e,O,I,Q,_⟩:=AT e M N Y G;have hst:=iD K c ws G O
  have cc:zg g o (.cells (st+1) cs') f 0 0 (.cells st cs) (.cells el false 1 [⟨0,0,vs⟩]) (.cells el false 1 [⟨0,0,vs'⟩]) :=
   ⟨j,hc,K,λ_ _ _ _ q=>by(cases q),λa n ws hi R=>by rw[R]at hi;exact(oU h.ok j hc (λ_ _ _ q=>by(cases q)) hi).elim,λs1 c1 q=>by cases q;exact⟨_,rfl⟩⟩
  refine⟨_,_,_,rfl,e,hst,g.oput o (.cells (st+1) cs') f 0 (.cells el false 1 [⟨0,0,vs'⟩]),LO,rfl,rfl,h.oput cc ?_,ll h.ok cc,.op h j rfl,trivial⟩;exact⟨f,el,vs',cj j,fj,I.mono (nl h.ok cc),Q⟩
 .rename_i o n i c;simp only[RD]at r;obtain⟨f,ver,sz,st,cap,l,ver',j,p,h5,h6,rfl,h7⟩:=r;obtain⟨sz',st',cap',l',e,hc,w,hn⟩:=nO e (hC.refl g);rw[p]at w;cases w;obtain⟨hst,e⟩:=fq e;subst hst;obtain⟨cs,k,e⟩:=Zd e
  .obtain⟨i0,J|⟨J,f',ver2,el,nv,vers,cells,Z,i3,i4,i5,i6,U⟩⟩:=h.ok.obj o _ p
   .rw[J.1]at k;simp at k
   rw[j]at Z;cases Z;rw[h7 hn];obtain⟨ks,K,M,N⟩:=U.cells J;have hlens:=U.lens;have hcells:ks=cells:=by simp_all[loadCells,yX,aoi,eu,anJ]
   subst hcells;obtain⟨cs',z,e⟩:=Fg e
   .have W:=AS hlens k z;obtain⟨vs',O,I,Q,j4⟩:=pU W M N Y G;have hcl:cs'.length=sz:=by
     obtain⟨x1,x2⟩:=U.at k
     grind [pU]
    have m:∀ y∈l.set i cs',y.length=sz:=λy hy=>by grind
    have hst:storeCells g.s ⟨f,ver,i*sz+c⟩ ws=some (g.s.put f (.cells el false nv [⟨ver,0,vs'⟩])):=by unfold storeCells;simp only[i3,i4,yX,adG,aoM,O];rw[show ws.all V.one=true from G];rfl
    have cc:zg g o (.buf sz true cap (l.set i cs')) f ver ver (.buf sz true cap l) (.cells el false nv vers) (.cells el false nv [⟨ver,0,vs'⟩]) :=
     ⟨j,p,i3,λsz1 iD cap1 l1 q=>by cases q;exact⟨true,cap,_,rfl,by rw[anK];exact abH _,id,λ_=>⟨rfl,rfl⟩⟩,λa n ws hi R=>by rw[R]at hi;exact(oU h.ok j p (λ_ _ _ q=>by(cases q)) hi).elim,λ_ _ q=>by cases q⟩
    refine⟨_,_,_,rfl,e,hst,g.oput o (.buf sz true cap (l.set i cs')) f ver (.cells el false nv [⟨ver,0,vs'⟩]),LO,rfl,rfl,h.oput cc ?_,ll h.ok cc,.op h j rfl,trivial⟩;have X:=nl h.ok cc;have A:vs'.length=(l.set i cs').length*sz:=by rw[I.len,my m]
    have F:(⟨ver,0,ks⟩:om)∈vers:=(fo i4).1;refine⟨i0,.inr ⟨λq=>J (by have:=anL List.length q;rw[anK]at this;exact anV (by simpa using this)),f,ver,el,nv,[⟨ver,0,vs'⟩],vs',cj j,fj,?_,A,λu hu=>?_,?_⟩⟩
    .simp only[bY,ajG,ge]
    .simp at hu;subst hu;exact⟨(i6 _ F).1,by simp⟩
    .refine RR.flat m ?_ (I.mono X) Q;unfold loadCells;simp only[fj,Gh.oput,bY,ajG,ge,yX,aoM,aoi];exact eu _ _ A
 .cases e
theorem Rp(h:FI b P0 g t L tv LO){ty:TypeId}{x:LD}{y:D}{κ:LS->DH->av}(e:Aw P ty x y L g.H κ=some out){v w:V}(m:RS g LO x v)(J:RD g y w) :
 ∃ s' L' H',κ L' H'=some out/\uf P g.s ty (some v) (some w)=some (.skip s')/\ze b P0 g t L tv LO L' H' s' λ_ _=>True:=by
 unfold Aw at e;split at e
 .rename_i n I;obtain⟨q,e⟩:=aU e;obtain⟨new,e,p,z,i⟩:=nM e J;cases x with
  |u=>cases e
  |g d =>simp only at e;have m:RD g d v:=m;obtain⟨a,s',H',rfl,e,A,F⟩:=Yu h e m p z;exact⟨s',L,H',e,by rw[yy,wg I i,A];rfl,F⟩
  |lp k c =>
   obtain⟨f,j,rfl⟩:=m;simp only at e;split at e
   .rename_i st cs hc;obtain⟨_,l|⟨el,vs,l,G,K⟩⟩:=h.own.2 k _ f hc j
    .simp only at l;subst l;obtain⟨cs',G,_⟩:=Fg e;cases new with
     |nil=>simp only[RL]at p;rw[p]at i;simp at i;subst i;cases q
     |cons a r=>cases c<;>cases G
    .obtain⟨cs',vs',e,A,F,M,_⟩:=AT e G K p z;have hst:=iD l c w.cells z A;have hp:f∈g.Pv:=by rw[h.pv];exact anS _ (akV j)
     refine⟨_,_,_,e,by rw[yy,wg I i,hst];rfl,g.pput f (.cells el false 1 [⟨0,0,vs'⟩]),LO,rfl,rfl,h.pput j l F M,Zh h.ok hp (h.low f (akV j)),.put h hc j _ rfl,trivial⟩
   .cases e
 .cases e
theorem sw.upd{kt:TypeId}{td:TypeDesc}(a:P.underlying kt=some td)(okf:Ad->Bool){k v:D}{kv vv:V}(c:rR td k=true)(rk:RD g k kv)(rv:RD g v vv)(ho:kv.one=true)(clock:Nat):∀ {es es':List (D×D)} {ents:List qE},sw g es ents->Mz k v es=some es' ->
 ∃ u,dt (du P okf 20 kt) kv vv ents=some u/\∃ ents',(match u with|some e=>ents'=e|none=>ents'=ents++[⟨kv,vv,clock⟩])/\sw g es' ents'
 |[],es',ents,h,e=>by simp only[sw]at h;subst h;cases e;exact⟨none,rfl,_,rfl,⟨_,_,rfl,rk,rv,ho,rfl⟩⟩
 |(x,w)::l,es',ents,h,e=>by
  simp only[sw]at h;obtain⟨⟨ke,ve,born⟩,m,rfl,d,n,p,j⟩:=h;simp only[Mz]at e;split at e
  .rename_i i;cases e;exact⟨some (⟨kv,vv,born⟩::m),by simp only[dt,qa a okf i c rk d,dt.setKey],_,rfl,⟨_,_,rfl,rk,rv,ho,j⟩⟩
  .rename_i i;split at e
   .rename_i r hr;cases e;obtain⟨u,q,ents',k2,y⟩:=sw.upd a okf c rk rv ho clock j hr;refine⟨u.map (⟨ke,ve,born⟩::·),?_,⟨ke,ve,born⟩::ents',?_,⟨_,_,rfl,d,n,p,y⟩⟩
    .simp only[dt,qa a okf i c rk d,dt.setKey,q]
     grind
    grind
   .cases e
  .cases e
theorem Bz{td:TypeDesc}{k:D}(h:rR td k=true):WJ k≠12/\WJ k≠13:=by
 unfold rR at h;split at h
 .split at h
  .exact⟨(λe=>by cases e),(λe=>by cases e)⟩
  .cases h
 .split at h
  .exact⟨(λe=>by cases e),(λe=>by cases e)⟩
  .cases h
 .split at h
  .exact⟨(λe=>by cases e),(λe=>by cases e)⟩
  .cases h
 .cases h
theorem Jy(h:FI b P0 g t L tv LO){ty:TypeId}{m k v:D}{κ:DH->av}(e:mj P ty m k v g.H κ=some out){mv kv vv:V}(r:RD g m mv)(w:RD g k kv)(F:RD g v vv) :
 ∃ s' H',κ H'=some out/\fV P g.s ty (some mv) (some kv) (some vv)=some (.skip s')/\ze b P0 g t L tv LO L H' s' λ_ _=>True:=by
 unfold mj at e;split at e
 .rename_i td el hm;obtain⟨kt,y,hk,_,d⟩:=oX hm;split at e
  .rename_i o;obtain⟨l,e⟩:=aU e;simp only[RD]at r;obtain⟨f,ver,i,rfl⟩:=r;obtain⟨es,f',ents,clock,e,_,h0,z,p,G⟩:=CZ e (hC.refl g) h.ok;rw[i]at z;cases z;unfold tB at e;split at e
   .rename_i es' I;obtain⟨u,A,ents',j,J⟩:=G.upd hk (bX g.s) l w F (w.one (Bz l).1 (Bz l).2) clock I;have cc:∀ c,zg g o (.map es') f 0 0 (.map es) (.map ents clock) (.map ents' c):=λc =>⟨i,h0,p,λ_ _ _ _ q=>by(cases q),λa n ws hi K=>by rw[K]at hi;exact(oU h.ok i h0 (λ_ _ _ q=>by(cases q)) hi).elim,λ_ _ q=>by cases q⟩
    have fin:∀ c,ze b P0 g t L tv LO L (g.H.set o (.map es')) (g.s.put f (.map ents' c)) λ_ _=>True:=λc =>⟨g.oput o (.map es') f 0 (.map ents' c),LO,rfl,rfl,h.oput (cc c) ⟨f,ents',c,cj i,fj,J.mono (nl h.ok (cc c))⟩,ll h.ok (cc c),.op h i rfl,trivial⟩
    cases u with
    |some q =>simp only at j;subst j;exact⟨_,_,e,by simp only[fV,y,p,d,ge,A,zo],fin clock⟩
    |none =>simp only at j;subst j;exact⟨_,_,e,by simp only[fV,y,p,d,ge,A,zo],fin (clock+1)⟩
   .cases e
  .cases e
 .cases e
end
section
variable[gu]
variable{b:Nat}{P0:List Nat}{g:Gh}{LO:List Nat}{t:T LD}{L:LS}{tv:T V}{P:Program}{out:iY}
theorem Gp{sz:Nat}{st cap:Bool}{l:List (List D)}{B:ef}{el:Nat}{vs:List V}(h:Ok g)(h0:0<sz)(hl:l≠[])(c:∀ x∈l,x.length=sz)(hB:B=.cells el false 1 [⟨0,0,vs⟩])(hr:RL g l.flatten vs)(ho:bk vs) :
 nW (g.obj (.buf sz st cap l) B) g.H.length (.buf sz st cap l):=by
 subst hB;have a:vs.length=l.length*sz:=by rw[hr.len,my c]
 refine⟨h0,.inr ⟨hl,g.s.next,0,el,1,_,vs,oT h _ _,tu,by simp only[bY,ajG,ge],a,λu d=>?_,RR.flat c (MN a.symm) (hr.mono (Bw h.len _ _)) ho⟩⟩;simp at d;subst d;exact⟨apx _,by simp⟩
theorem Zl(h:FI b P0 g t L tv LO){el ty n:Nat}(hu:P.underlying ty=some (.slice el)){κ:List (List D)->Nat->av}(e:Vl P el n κ=some out) :
 ∃ l sz v s',κ l sz=some out/\eR P g.s ty (some n) (some n)=some (.val v s')/\ze b P0 g t L tv LO L (g.H++[.buf sz true true l]) s' λg' _=>RD g' (.buf sz g.H.length n) v:=by
 unfold Vl at e;split at e
 .rename_i z u;obtain⟨zv,h1,_,m,w⟩:=kf (g:=g) u;split at e
  .rename_i sz hs;obtain⟨hc,e⟩:=aU e;obtain⟨p,e⟩:=fq e;simp only[abk,aoe]at hc p;obtain⟨i,j⟩:=hc;obtain⟨hd1,hd2⟩:=p;have a:0<sz:=apa λq=>by subst q;simp at i
   have c:z.cells.length=sz:=abj j;have hzv:zv.cells.length=sz:=by rw[m.len,c]
   have d:∀ x∈List.replicate n z.cells,x.length=sz:=λx y=>by rw[List.eq_of_mem_replicate y];exact c
   have A:eR P g.s ty (some n) (some n)=some (.val (.slice ⟨g.s.next,0,0⟩ 0 n (some n) sz) (g.s.alloc (.cells el false 1 [⟨0,0,(List.replicate n zv.cells).flatten⟩]))):=by simp_all[eR,acw,ajG,ajM,anQ,bE,bD]
   refine⟨_,sz,_,_,e,A,?_⟩;cases n with
   |zero =>have r:=h.blk (.cells el false 1 [⟨0,0,(List.replicate 0 zv.cells).flatten⟩]);refine⟨(g.blk (.cells el false 1 [⟨0,0,(List.replicate 0 zv.cells).flatten⟩])).acc sz true,LO,rfl,rfl,r.acc a true,(Mw h.ok h.bl _).trans (Mx r.ok sz true),.al h _ rfl,?_⟩;simp only[RD];exact⟨true,true,[],jl,abH _,.inl ⟨rfl,.inr ⟨_,_,_,rfl⟩⟩⟩
   |succ n =>
    have k:List.replicate (n+1) z.cells≠[]:=by simp[aok]
    refine⟨g.obj (.buf sz true true (List.replicate (n+1) z.cells)) (.cells el false 1 [⟨0,0,(List.replicate (n+1) zv.cells).flatten⟩]),LO,rfl,rfl,h.mkobj (Gp h.ok a k d rfl (m.flat_rep _) (AX w _)),rJ h.ok h.bl _ _,.al h _ rfl,?_⟩;simp only[RD];exact⟨true,true,_,jl,by simp,.inr ⟨Nat.succ_pos _,g.s.next,0,0,_,oT h.ok _ _,rfl,λ_=>⟨rfl,rfl⟩⟩⟩
  .cases e
 .cases e
theorem aag(h:Ok g){y:D}{sz:Nat}{κ:List (List D)->av}(e:CU y g.H sz κ=some out){v:V}(r:RD g y v)(hsz:0<sz) :
 ∃ els vs,κ els=some out/\js g.s sz v=some (vs,els.length)/\RL g els.flatten vs/\bk vs/\∀ x∈els,x.length=sz:=by
 have emp:∀ {v:V},(v=.nilslice\/∃ a z cap sz',v=.slice a z 0 cap sz')->js g.s sz v=some ([],0):=λ{v} F=>by rcases F with rfl|⟨a,z,cap,sz',rfl⟩<;>rfl
 have full:∀ {a:Ad} {z:Nat} {cap:Option Nat} {l:List (List D)},RR g a sz l->l≠[]->∃ vs,js g.s sz (.slice a z l.length cap sz)=some (vs,l.length)/\RL g l.flatten vs/\bk vs/\∀ x∈l,x.length=sz:=λ{a z cap l} hr hl=>by
  obtain⟨vs,i,j,G⟩:=hr.cells hl;have h0:Nat.beq l.length 0=false:=by cases l with|nil=>exact(hl rfl).elim|cons _ _=>rfl
  have m:Nat.beq sz 0=false:=by cases sz with|zero=>omega|succ _=>rfl
  exact⟨vs,by simp only[js,h0,m,ajG,ge,Xi,i],j,G,hr.lens⟩
 unfold CU at e;split at e
 .rename_i s l;obtain⟨hb,k⟩:=aU e;clear e;have e:=k;clear k;obtain rfl:=abj hb;simp only[RD]at r;rcases r with⟨rfl,rfl⟩|⟨rfl,a,z,sz',rfl⟩|⟨a,z,cap,rfl,_,_,_,_,I⟩
  .exact⟨[],[],e,emp (.inl rfl),by simp[RL],rfl,λx d=>by cases d⟩
  .exact⟨[],[],e,emp (.inr ⟨_,_,_,_,rfl⟩),by simp[RL],rfl,λx d=>by cases d⟩
  .by_cases hl:l=[]
   .subst hl;exact⟨[],[],e,emp (.inr ⟨_,_,_,_,rfl⟩),by simp[RL],rfl,λx d=>by cases d⟩
   .obtain⟨vs,i,j⟩:=full (z:=z) (cap:=cap) I hl;exact⟨l,vs,e,i,j⟩
 .simp only[RD]at r;refine⟨[],[],e,emp ?_,by simp[RL],rfl,λx d=>by cases d⟩;rcases r with rfl|⟨a,z,sz',rfl⟩
  .exact .inl rfl
  .exact .inr ⟨_,_,_,_,rfl⟩
 .rename_i s o n;obtain⟨hb,k⟩:=aU e;clear e;obtain rfl:=abj hb;obtain⟨sz',st,cap,l,e,_,w,p⟩:=nO k (hC.refl g);clear k;simp only[RD]at r;obtain⟨st',cap',l',m,_,q⟩:=r;rw[w]at m;cases m;rcases q with⟨hn0,q⟩|⟨q,f,ver,ver',c,J,rfl,K⟩
  .have:l=[]:=anV (by omega);subst this;refine⟨[],[],e,emp ?_,by simp[RL],rfl,λx d=>by cases d⟩;rcases q with rfl|⟨a,z,sz',rfl⟩
   .exact .inl rfl
   .exact .inr ⟨_,_,_,_,rfl⟩
  .obtain⟨rfl,rfl⟩:=K p;obtain⟨_,u|⟨u,f',ver2,el,nv,vers,cells,A,_,_,_,_,M⟩⟩:=h.obj o _ w
   .rw[u.1]at p;simp at p;omega
   .rw[J]at A;cases A;subst p;obtain⟨vs,i,j⟩:=full (z:=0) (cap:=NE cap l.length) M u;exact⟨l,vs,e,i,j⟩
 .cases e
theorem Wx(a c:List (List D)):(a++c).flatten=a.flatten++c.flatten:=by simp
theorem VE{a c:List (List D)}{sz:Nat}(h:∀ x∈a,x.length=sz)(k:∀ x∈c,x.length=sz):∀ x∈a++c,x.length=sz:=λx hx=>by grind
theorem po{p:om->Bool}:∀ {vers:List om},(∀ u∈vers,p u=true)->vers.filter p=vers
 |[],_=>rfl
 |u::r,h=>by rw[List.filter_cons_of_pos (h u adN),po λw a=>h w (acl _ a)]
theorem aaJ(h:FI b P0 g t L tv LO){ok:Nat->Bool}{sz:Nat}{x:D}{els:List (List D)}{κ:D->DH->av}(e:bQ ok sz x els g.H κ=some out){xv:V}(r:RD g x xv){vs:List V}(M:RL g els.flatten vs)(N:bk vs)(Q:∀ x∈els,x.length=sz)(h0:0<sz)(el:TypeId) :
 ∃ d H' v s',κ d H'=some out/\fY ok g.s el sz xv (some (vs,els.length))=some (v,s')/\ze b P0 g t L tv LO L H' s' λg' _=>RD g' d v:=by
 unfold bQ at e;obtain⟨hm,e⟩:=fq e;have emp:els=[]->∀ {v:V},(v=.nilslice\/∃ a z sz',v=.slice a z 0 (some 0) sz')->fY ok g.s el sz v (some (vs,els.length))=some (v,g.s):=λhe {v} hv=>by grind [fY,Nat.beq_refl,jI,Bool.and_self]
 have j:els≠[]->∀ {v:V},(v=.nilslice\/∃ a z sz',v=.slice a z 0 (some 0) sz')->fY ok g.s el sz v (some (vs,els.length))=some (.slice ⟨g.s.next,0,0⟩ 0 els.length none sz,g.s.alloc (.cells el false 1 [⟨0,0,vs⟩])):=λhe {v} hv=>by
  have k:Nat.beq els.length 0=false:=by cases els with|nil=>exact(he rfl).elim|cons _ _=>rfl
  grind [fY,lu,bE,bD,jI,Nat.beq_refl]
 have mk:∀ {st cap:Bool} {l:List (List D)} {ws:List V},l≠[]->(∀ x∈l,x.length=sz)->RL g l.flatten ws->bk ws->ze b P0 g t L tv LO L (g.H++[.buf sz st cap l]) (g.s.alloc (.cells el false 1 [⟨0,0,ws⟩])) λg' _=>∀ c,c=NE cap l.length->RD g' (.buf sz g.H.length l.length) (.slice ⟨g.s.next,0,0⟩ 0 l.length c sz):=λ{st cap l ws} hl F hr ho=>by
  refine⟨g.obj (.buf sz st cap l) (.cells el false 1 [⟨0,0,ws⟩]),LO,rfl,rfl,h.mkobj (Gp h.ok h0 hl F rfl hr ho),rJ h.ok h.bl _ _,.al h _ rfl,λc hc=>?_⟩;simp only[RD];refine⟨st,cap,l,jl,abH _,.inr ⟨?_,g.s.next,0,0,c,oT h.ok _ _,rfl,λ_=>⟨rfl,hc⟩⟩⟩
  grind
 split at e
 .
  simp only[RD]at r;split at e
  .exact⟨_,_,xv,_,e,emp rfl r,ze.same h (by simp only[RD];exact r)⟩
  .rename_i y ys;obtain⟨g',LO',k1,R,U,k4,k5,k6⟩:=mk (st:=true) (cap:=false) (by simp) Q M N;exact⟨_,_,_,_,e,j (by simp) r,g',LO',k1,R,U,k4,k5,k6 none rfl⟩
 .
  rename_i s o n _;obtain⟨hb,e1⟩:=aU e;clear e;obtain rfl:=abj hb;obtain⟨sz',st,cap,l,e2,hc,i,F⟩:=nO e1 (hC.refl g);clear e1;obtain⟨hk,e⟩:=fq e2;clear e2;simp only[abk,aoe]at hk;obtain⟨hk1,hk2⟩:=hk;simp only[RD]at r;obtain⟨st',cap',l',j1,_,G⟩:=r;rw[i]at j1;cases j1;unfold grow at e;by_cases k:els=[]
  .subst k;have W:cap=false:=by cases cap with|false=>rfl|true=>simp at hk2
   subst W;simp only[Xi,ajH,anR,anP]at e;have hH:g.H.set o (.buf s st false l)=g.H:=by
    apply aoC
    grind
   rw[hH,<- F]at e;have hv:fY ok g.s el s xv (some (vs,0))=some (xv,g.s):=by
    rcases G with⟨_,G⟩|⟨j3,f,ver,ver',c,K,rfl,j5⟩
    .grind
    simp_all[fY]
   exact⟨_,_,xv,_,e,hv,ze.same h (by simp only[RD];exact⟨st,false,l,i,by omega,G⟩)⟩
  .have hel:0<els.length:=by cases els with|nil=>exact(k rfl).elim|cons _ _=>simp
   rcases G with⟨hn0,G⟩|⟨j3,f,ver,ver',c,K,rfl,j5⟩
   .have hl:l=[]:=anV (by omega);subst hl;simp only[agc,anR,afY]at e;cases cap with
    |true =>simp only[ge]at e;obtain⟨g',LO',k1,R,U,k4,k5,k6⟩:=mk (st:=true) (cap:=false) k Q M N;exact⟨_,_,_,_,e,j k G,g',LO',k1,R,U,k4,k5,k6 none rfl⟩
    |false =>
     simp only[Xi]at e;have X:g.O[o]? = some none:=by
      obtain⟨_,w|⟨w,_⟩⟩:=h.ok.obj o _ i
      .exact w.2
      grind
     have m:vs.length=els.length*s:=by rw[M.len,my Q]
     have I:=HC (B:=.cells el false 1 [⟨0,0,vs⟩]) h.ok X i rfl (st':=st) (cap':=false) id k;have p:nW (g.bnew o (.buf s st false els) (.cells el false 1 [⟨0,0,vs⟩])) o (.buf s st false els):=by
      refine⟨h0,.inr ⟨k,g.s.next,0,el,1,_,vs,cj X,ir,by simp only[bY,ajG,ge],m,λu hu=>?_,RR.flat Q (MN m.symm) (M.mono I) N⟩⟩
      grind
     refine⟨_,_,_,_,e,j k G,g.bnew o (.buf s st false els) (.cells el false 1 [⟨0,0,vs⟩]),LO,rfl,rfl,h.bnew X i rfl id k p,Pt h.ok h.bl X i rfl id k,.al h _ rfl,?_⟩;simp only[RD];exact⟨st,false,els,cj i,abH _,.inr ⟨hel,g.s.next,0,0,none,cj X,rfl,λ_=>⟨rfl,rfl⟩⟩⟩
   .obtain⟨rfl,rfl⟩:=j5 F;obtain⟨_,w|⟨w,f',ver2,el0,nv,vers,cells,i2,i3,i4,i5,i6,i7⟩⟩:=h.ok.obj o _ i
    .rw[w.1]at F;simp at F;omega
    rw[K]at i2;cases i2;subst F;have hnz:Nat.beq l.length 0=false:=by cases l with|nil=>exact(w rfl).elim|cons _ _=>rfl
    have hez:Nat.beq els.length 0=false:=by cases els with|nil=>exact(k rfl).elim|cons _ _=>rfl
    obtain⟨ks,k1,R,U⟩:=i7.cells w;have hcells:ks=cells:=by
     have:loadCells g.s ⟨f,ver',0⟩ (l.length*s)=some cells:=by simp_all[loadCells,yX,aoi,eu]
     grind
    subst hcells;have Y:bA (l.length*s) (ks.drop (0 - 0))=some ks:=by simpa using eu _ _ i5
    have hstart:fY ok g.s el s (.slice ⟨f,ver',0⟩ 0 l.length (NE cap l.length) s) (some (vs,els.length))=BK g.s el ⟨f,ver',0⟩ 0 l.length (NE cap l.length) s vs els.length:=by simp_all[fY]
    have hlen2:=VE i7.lens Q;have J:RL g (l++els).flatten (ks++vs):=by rw[Wx];exact R.append M
    have Z:=AY U N;have A:l++els≠[]:=by simp[w]
    cases cap with
    |true =>
     simp only[ge]at e;obtain⟨g',LO',m1,m2,m3,m4,m5,m6⟩:=mk (st:=true) (cap:=false) A hlen2 J Z;have hno:Nat.ble (l.length+els.length) l.length=false:=by
      cases hq:Nat.ble (l.length+els.length) l.length with
      |false=>rfl
      |true=>have:=act hq;omega
     refine⟨_,_,_,_,e,?_,g',LO',m1,m2,m3,m4,m5,by have:=m6 none rfl;rwa [abg]at this⟩;rw[hstart];simp only[BK,i3,i4,yX,ge,Y,NE,HF,hno,Xi,lu,bE,bD]
    |false =>
     simp only[Xi]at e;have hfil:vers.filter (λu=>Nat.ble (u.lo+u.cells.length) (0+l.length*s))=vers:=po λu hu=>acw (by have:=(i6 u hu).2;omega);have hgrow:BK g.s el ⟨f,ver',0⟩ 0 l.length none s vs els.length=some (.slice ⟨f,nv,0⟩ 0 (l.length+els.length) none s,g.s.put f (.cells el0 false (nv+1) (⟨nv,0,ks++vs⟩::vers))):=by simp only[BK,i3,i4,yX,ge,Y,BL,hfil];rw[show vs.all V.one=true from N];rfl
     have hold:∀ a n ws,a.f=f->loadCells g.s a n=some ws->loadCells (g.s.put f (.cells el0 false (nv+1) (⟨nv,0,ks++vs⟩::vers))) a n=some ws:=λa n ws ha hld=>by grind [loadCells,fj,fo,bY]
     have cc:zg g o (.buf s st false (l++els)) f ver' nv (.buf s st false l) (.cells el0 false nv vers) (.cells el0 false (nv+1) (⟨nv,0,ks++vs⟩::vers)) :=
      ⟨K,i,i3,λsz1 iD cap1 l1 q=>by cases q;exact⟨st,false,_,rfl,by rw[abg];omega,id,λq=>by rw[abg]at q;omega⟩,λa n ws _ ha hld=>hold a n ws ha hld,λ_ _ q=>by cases q⟩
     have I:=nl h.ok cc;have m:(ks++vs).length=(l++els).length*s:=by rw[J.len,my hlen2]
     have p:nW (g.oput o (.buf s st false (l++els)) f nv (.cells el0 false (nv+1) (⟨nv,0,ks++vs⟩::vers))) o (.buf s st false (l++els)):=by
      refine⟨h0,.inr ⟨A,f,nv,el0,nv+1,_,ks++vs,cj K,fj,by simp only[bY,ajG,ge],m,λu hu=>?_,?_⟩⟩
      .grind
      .refine RR.flat hlen2 ?_ (J.mono I) Z;unfold loadCells;simp only[fj,Gh.oput,bY,ajG,ge,yX,aoM,aoi];exact eu _ _ m
     refine⟨_,_,_,_,e,by rw[hstart];exact hgrow,g.oput o (.buf s st false (l++els)) f nv (.cells el0 false (nv+1) (⟨nv,0,ks++vs⟩::vers)),LO,rfl,rfl,h.oput cc p,ll h.ok cc,.op h K rfl,?_⟩;simp only[RD];exact⟨st,false,l++els,cj i,by rw[abg];exact abH _,.inr ⟨by omega,f,nv,nv,none,cj K,rfl,λ_=>⟨rfl,rfl⟩⟩⟩
 .cases e
theorem NM(h:FI b P0 g t L tv LO){sT xT:TypeId}{x y:D}{κ:D->DH->av}(e:uu P sT xT x y g.H κ=some out){xv yv:V}(i:RD g x xv)(j:RD g y yv) :
 ∃ d H' v s',κ d H'=some out/\ut P sT xT g.s xv yv=some (v,s')/\ze b P0 g t L tv LO L H' s' λg' _=>RD g' d v:=by
 unfold uu at e;split at e
 .rename_i elem k;obtain⟨a,e⟩:=aU e;split at e
  .rename_i sz l;obtain⟨c,e⟩:=aU e;have h0:0<sz:=by grind [pC]
   obtain⟨els,vs,e,m,n,p,q⟩:=aag h.ok e j h0;obtain⟨d,H',v,s',e,r,u⟩:=aaJ h e i n p q h0 elem;exact⟨d,H',v,s',e,by simp only[ut,k,a,ge,l,c,m];exact r,u⟩
  .cases e
 .cases e
end
section
variable[gu]
variable{b:Nat}{P0:List Nat}{g:Gh}{LO:List Nat}{t:T LD}{L:LS}{tv:T V}{P:Program}{out:iY}
def uB(g:Gh):Option D->Option V->Prop
 |none,none=>True
 |some d,some v=>RD g d v
 |_,_=>False
theorem qd{x:Option Operand}{κ:Option D->av}(h:Sn t x κ=some out)(hr:∀ y,x=some y->GA g LO t tv y):∃ d v,κ d=some out/\mA tv x=some v/\uB g d v:=by
 cases x with
 |none=>exact⟨none,none,h,rfl,trivial⟩
 |some x =>simp only[Sn]at h;obtain⟨d,v,a,_,c,i⟩:=bO h (hr x rfl);exact⟨some d,some v,a,by simp only[mA,c],i⟩
theorem eG{o:Option D}{d:Nat}{κ:Nat->av}(h:vV o d κ=some out){ov:Option V}(hr:uB g o ov):∃ n,κ n=some out/\fK ov d=some n/\(o=none->n=d):=by
 unfold vV at h;split at h
 .cases ov with
  |none=>exact hr.elim
  |some v =>have hr:RD g _ v:=hr;simp only[RD]at hr;subst hr;obtain⟨m,rfl,h⟩:=pX h;exact⟨m,h,rfl,λe=>by cases e⟩
 .cases h
 .cases ov with
  |none=>exact⟨d,h,rfl,λ_=>rfl⟩
  |some _=>exact hr.elim
theorem uB.isSome{o:Option D}{ov:Option V}(h:uB g o ov):ov.isSome=o.isSome:=by cases o<;>cases ov<;>first|rfl|exact h.elim
theorem RR.take:∀ {l:List (List D)} {a:Ad} {sz:Nat} (n:Nat),RR g a sz l->RR g a sz (l.take n)
 |[],_,_,n,_=>by simp[RR]
 |x::l,a,sz,0,_=>by simp[RR]
 |x::l,a,sz,n+1,r=>by simp_all[RR,RR.take]
theorem uM{sz:Nat}{l:List (List D)}{lo hi:Option D}{κ:D->av}(h:Ja sz l lo hi κ=some out){v:V}(r:RD g (.row sz l) v){lov j:Option V}(U:uB g lo lov)(W:uB g hi j){ty e:TypeId}(p:P.underlying ty=some (.slice e))(u:size P e=some sz) :
 ∃ d v',κ d=some out/\dP P ty v lov j none=some v'/\RD g d v':=by
 unfold Ja at h;obtain⟨k,K,y,_⟩:=eG h W;obtain⟨bn,M,A,_⟩:=eG K U;clear K h;obtain⟨hb,h⟩:=fq M;clear M;simp only[abk]at hb;have w:=act hb.1;obtain rfl:=abj hb.2;have zero:l=[]->(cv (fK lov 0)&&cv (fK j 0)&&cv (fK none 0))=true:=λhl=>by
  subst hl;have:k=0:=by simpa using w
  subst this;simp only[anR]at y;rw[y,A];rfl
 simp only[RD]at r;rcases r with⟨rfl,rfl⟩|⟨rfl,a,z,sz',rfl⟩|⟨a,z,cap,rfl,F,N,X,O,Q⟩
 .refine⟨_,.nilslice,h,?_,by simp only[RD];exact .inl ⟨by simp,trivial⟩⟩;simp only[dP,p,u,zero rfl,ge,aoc,ajI,Xi]
 .refine⟨_,.slice a z 0 (some 0) sz',h,?_,by simp only[RD];exact .inr (.inl ⟨by simp,a,z,sz',rfl⟩)⟩;simp only[dP,p,u,jI,ajG,anQ,apE,ge,zero rfl,aoc,ajI,ajM]
 .by_cases i:(Nat.beq l.length 0&&jI cap)=true
  .simp only[abk]at i;have hl:l=[]:=anV (abj i.1);subst hl;refine⟨_,.slice a z 0 cap sz,h,?_,?_⟩
   .simp only[dP,p,u,anR,ajG,i.2,anQ,apE,ge,zero rfl,aoc,ajI,ajM]
   .simp only[RD];exact .inr (.inr ⟨a,z,cap,by simp,F,N,λc hc=>by simp,λq=>by simp at q,by simp[RR]⟩)
  .have R:(Nat.beq sz 0||(Nat.beq l.length 0&&jI cap))=false:=by
    cases sz with
    |zero=>omega
    |succ _=>cases G:(Nat.beq l.length 0&&jI cap)with
     |true=>exact(i G).elim
     |false=>rfl
   have m:(l.take k).length=k:=by rw[ajQ];omega
   cases cap with
   |some c =>
    have hc:=X c rfl;have H:Nat.beq c 0=false:=by
     cases G:Nat.beq c 0 with
     |false=>rfl
     |true =>
      have:=abj G;subst this;have I:l.length=0:=by omega
      rw[I]at i;exact(i rfl).elim
    refine⟨_,.slice (cV a (0*sz)) 0 (k - 0) (some (c - 0)) sz,h,?_,?_⟩
    .simp only[dP,p,u,R,Xi,ajG,aoc,ajI,ajM,anQ,ge,y,A,acw (akG w hc),yX,H]
    .simp only[RD];refine .inr (.inr ⟨cV a (0*sz),0,some (c - 0),by rw[m];rfl,F,.inl rfl,λY n=>by cases n;rw[m];omega,λq=>O (λe=>by subst e;simp at q),?_⟩);rw[show cV a (0*sz)=a by simp[cV]];exact Q.take k
   |none =>
    have J:z=a.c:=N.elim (λq=>by cases q) id;refine⟨_,.slice a z k none sz,h,?_,?_⟩
    .simp only[dP,p,u,R,Xi,ajG,aoc,ajI,ajM,anQ,ge,y,A,hb.1,yX]
    .simp only[RD];exact .inr (.inr ⟨a,z,none,by rw[m],F,.inr J,(λY n=>by cases n),λq=>O (λe=>by subst e;simp at q),Q.take k⟩)
theorem sP{ty e sz:TypeId}(p:P.underlying ty=some (.slice e))(u:size P e=some sz){v:V}(r:RD g .nilrow v\/∃ l,RD g (.row sz l) v){lov h:Option V}{m:V}(w:fK lov 0=some 0)(y:fK h 0=some 0)(A:qN m=some 0)(n:h.isSome=true) :
 ∃ v',dP P ty v lov h (some m)=some v'/\RD g .nilrow v':=by
 have zero:(cv (fK lov 0)&&cv (fK h 0)&&cv (fK (some m) 0))=true:=by rw[w,y];simp only[fK,A];rfl
 have F:∀ d,fK h d=some 0:=λd=>by
  cases h with
  |none=>cases n
  |some q=>exact y
 have j:dP P ty .nilslice lov h (some m)=some .nilslice:=by simp_all[dP]
 have k:∀ a z sz',dP P ty (.slice a z 0 (some 0) sz') lov h (some m)=some (.slice a z 0 (some 0) sz'):=λa z sz'=>by simp only[dP,p,u,jI,ajG,anQ,apE,ge,zero,n,Option.isSome_some,age,aot,ajM]
 rcases r with r|⟨l,r⟩
 .simp only[RD]at r;rcases r with rfl|⟨a,z,sz',rfl⟩
  .exact⟨_,j,by simp only[RD];exact .inl trivial⟩
  .exact⟨_,k a z sz',by simp only[RD];exact .inr ⟨a,z,sz',rfl⟩⟩
 .simp only[RD]at r;rcases r with⟨rfl,rfl⟩|⟨rfl,a,z,sz',rfl⟩|⟨a,z,cap,rfl,G,k2,k3,k4,k5⟩
  .exact⟨_,j,by simp only[RD];exact .inl trivial⟩
  .exact⟨_,k a z sz',by simp only[RD];exact .inr ⟨a,z,sz',rfl⟩⟩
  .by_cases i:(Nat.beq l.length 0&&jI cap)=true
   .simp only[abk]at i;have hl:=abj i.1;rw[hl];have hc:cap=some 0:=by
     cases cap with
     |none=>cases i.2
     |some c=>rw[abj i.2]
    subst hc;exact⟨_,k a z sz,by simp only[RD];exact .inr ⟨a,z,sz,rfl⟩⟩
   .have H:(Nat.beq sz 0||(Nat.beq l.length 0&&jI cap))=false:=by
     cases sz with
     |zero=>exact(anz _ G).elim
     |succ _=>cases I:(Nat.beq l.length 0&&jI cap)with
      |true=>exact(i I).elim
      |false=>rfl
    have hk:(cap.isSome||Nat.blt 0 l.length||Nat.beq z a.c)=true:=by grind [Nat.beq_refl]
    refine⟨.slice a 0 (0 - 0) (some 0) sz,?_,by simp only[RD];exact .inr ⟨a,0,sz,rfl⟩⟩;simp only[dP,p,u,H,Xi,ajG,n,Option.isSome_some,age,aot,ajM,anQ,ge,w,F,A,yX,hk]
theorem LM(h:FI b P0 g t L tv LO){ty:TypeId}{x:D}{lo hi mx:Option D}{κ:D->DH->av}(e:cF P ty x lo hi mx g.H κ=some out){v:V}(r:RD g x v){lov k mxv:Option V}(J:uB g lo lov)(u:uB g hi k)(K:uB g mx mxv) :
 ∃ d H' v',κ d H'=some out/\dP P ty v lov k mxv=some v'/\ze b P0 g t L tv LO L H' g.s λg' _=>RD g' d v':=by
 unfold cF at e;split at e
 .rename_i p;split at e
  .rename_i l;simp only[RD]at r;obtain⟨rfl,hb⟩:=r;split at e
   .cases mxv with
    |some _=>exact K.elim
    |none =>
    obtain⟨w,e,y,_⟩:=eG e u;obtain⟨bn,e,A,_⟩:=eG e J;obtain⟨hc,e⟩:=fq e;refine⟨_,_,.str ((l.drop bn).take (w - bn)),e,by simp only[dP,p,y,A,hc,ge],ze.same h ?_⟩;simp only[RD];exact⟨trivial,λc hc=>hb c (apB (aoV hc))⟩
   .cases e
  .cases e
 .rename_i el p;split at e
  .rename_i sz F;split at e
   .cases mxv with
    |some _=>exact K.elim
    |none =>
    split at e
    .rename_i s l;obtain⟨hb,j⟩:=aU e;clear e;have hb:=abj hb;subst hb;obtain⟨d,v',e,q,m⟩:=uM j r J u p F;exact⟨d,_,v',e,q,ze.same h m⟩
    .rename_i s o n;obtain⟨sz',st,cap,l,j,hc,i,w⟩:=nO e (hC.refl g);clear e;obtain⟨hb,e⟩:=fq j;clear j;have hb:=abj hb;subst hb;simp only[RD]at r;have G:sz'=s:=by
      obtain⟨st',cap',l',W,_⟩:=r
      grind
     subst G;have hr:=HH h.ok i w r;have r1':uB (g.frz o sz' cap l) lo lov:=by cases lo<;>cases lov<;>first|exact J|exact RD.mono (vj i) J
     have r2':uB (g.frz o sz' cap l) hi k:=by cases hi<;>cases k<;>first|exact u|exact RD.mono (vj i) u
     obtain⟨d,v',I,q,m⟩:=uM e hr r1' r2' p F;exact⟨d,_,v',I,q,g.frz o sz' cap l,LO,rfl,rfl,h.frz i,Mu i,.ps rfl,m⟩
    .obtain⟨w,j,y,_⟩:=eG e u;obtain⟨bn,I,A,_⟩:=eG j J;clear e j;obtain⟨hc,e⟩:=fq I;clear I;simp only[abk]at hc;obtain rfl:=abj hc.1;obtain rfl:=abj hc.2;have zero:(cv (fK lov 0)&&cv (fK k 0)&&cv (fK none 0))=true:=by rw[y,A];rfl
     have X:=r;simp only[RD]at r;refine⟨_,_,v,e,?_,ze.same h X⟩;rcases r with rfl|⟨a,z,sz',rfl⟩
     .simp only[dP,p,F,zero,ge,aoc,ajI,Xi]
     .simp only[dP,p,F,jI,ajG,anQ,apE,ge,zero,aoc,ajI,ajM]
    .cases e
   .rename_i md;cases mxv with
    |none=>exact K.elim
    |some mv =>
    obtain⟨mn,j,M,_⟩:=eG (o:=some md) (ov:=some mv) e K;obtain⟨w,I,y,_⟩:=eG j u;obtain⟨bn,U,A,_⟩:=eG I J;clear e j I;obtain⟨hc,e⟩:=aU U;clear U;simp only[abk]at hc;obtain⟨N,⟨i,O⟩,Q⟩:=hc;obtain rfl:=abj i;obtain rfl:=abj O;obtain rfl:=abj Q;have R:k.isSome=true:=by rw[u.isSome];exact N
    split at e
    .rename_i s l;obtain⟨hb,j⟩:=aU e;clear e;have hb:=abj hb;subst hb;obtain⟨v',q,m⟩:=sP (g:=g) p F (.inr ⟨_,r⟩) A y M R;exact⟨_,_,v',j,q,ze.same h m⟩
    .rename_i s o n;obtain⟨sz',st,cap,l,j,hc,i,w⟩:=nO e (hC.refl g);clear e;obtain⟨hb,e⟩:=fq j;clear j;have hb:=abj hb;subst hb;simp only[RD]at r;have G:sz'=s:=by
      obtain⟨st',cap',l',W,_⟩:=r
      grind
     subst G;have hr:=HH h.ok i w r;obtain⟨v',q,m⟩:=sP p F (.inr ⟨_,hr⟩) A y M R;simp only[RD]at m;exact⟨_,_,v',e,q,ze.same h (by simp only[RD];exact m)⟩
    .obtain⟨v',q,m⟩:=sP (g:=g) p F (.inl r) A y M R;exact⟨_,_,v',e,q,ze.same h m⟩
    .cases e
  .cases e
 .cases e
theorem LN{ty:TypeId}{x:D}{lo hi mx:Option D}{κ:D->DH->av}(e:cF P ty x lo hi mx [] κ=some out){v:V}(r:RD g x v){lov i mxv:Option V}(G:uB g lo lov)(u:uB g hi i)(H:uB g mx mxv) :
 ∃ d v',κ d []=some out/\dP P ty v lov i mxv=some v'/\RD g d v':=by
 have nob:∀ {o n:Nat} {k:Nat->Bool->Bool->List (List D)->av},cH [] o n k=some out->False:=λh=>by simp[cH]at h
 unfold cF at e;split at e
 .rename_i m;split at e
  .rename_i l;simp only[RD]at r;obtain⟨rfl,hb⟩:=r;split at e
   .cases mxv with
    |some _=>exact H.elim
    |none =>
    obtain⟨I,e,p,_⟩:=eG e u;obtain⟨bn,e,q,_⟩:=eG e G;obtain⟨hc,e⟩:=fq e;refine⟨_,.str ((l.drop bn).take (I - bn)),e,by simp only[dP,m,p,q,hc,ge],?_⟩;simp only[RD];exact⟨trivial,λc hc=>hb c (apB (aoV hc))⟩
   .cases e
  .cases e
 .rename_i el m;split at e
  .rename_i sz w;split at e
   .cases mxv with
    |some _=>exact H.elim
    |none =>
    split at e
    .rename_i s l;obtain⟨hb,j⟩:=aU e;clear e;have hb:=abj hb;subst hb;obtain⟨d,v',e,y,A⟩:=uM j r G u m w;exact⟨d,v',e,y,A⟩
    .exact(nob e).elim
    .obtain⟨I,j,p,_⟩:=eG e u;obtain⟨bn,F,q,_⟩:=eG j G;clear e j;obtain⟨hc,e⟩:=fq F;clear F;simp only[abk]at hc;obtain rfl:=abj hc.1;obtain rfl:=abj hc.2;have zero:(cv (fK lov 0)&&cv (fK i 0)&&cv (fK none 0))=true:=by rw[p,q];rfl
     have U:=r;simp only[RD]at r;refine⟨_,v,e,?_,U⟩;rcases r with rfl|⟨a,z,sz',rfl⟩
     .simp only[dP,m,w,zero,ge,aoc,ajI,Xi]
     .simp only[dP,m,w,jI,ajG,anQ,apE,ge,zero,aoc,ajI,ajM]
    .cases e
   .rename_i md;cases mxv with
    |none=>exact H.elim
    |some mv =>
    obtain⟨mn,j,O,_⟩:=eG (o:=some md) (ov:=some mv) e H;obtain⟨I,F,p,_⟩:=eG j u;obtain⟨bn,Q,q,_⟩:=eG F G;clear e j F;obtain⟨hc,e⟩:=aU Q;clear Q;simp only[abk]at hc;obtain⟨J,⟨K,M⟩,N⟩:=hc;obtain rfl:=abj K;obtain rfl:=abj M;obtain rfl:=abj N;have R:i.isSome=true:=by rw[u.isSome];exact J
    split at e
    .rename_i s l;obtain⟨hb,j⟩:=aU e;clear e;have hb:=abj hb;subst hb;obtain⟨v',y,A⟩:=sP (g:=g) m w (.inr ⟨_,r⟩) q p O R;exact⟨_,v',j,y,A⟩
    .exact(nob e).elim
    .obtain⟨v',y,A⟩:=sP (g:=g) m w (.inl r) q p O R;exact⟨_,v',e,y,A⟩
    .cases e
  .cases e
 .cases e
end
section
variable[gu]
variable{b:Nat}{P0:List Nat}{g:Gh}{LO:List Nat}{t:T LD}{L:LS}{tv:T V}{P:Program}{out:iY}{E:dr}
def Rf(t t':T LD)(tv:T V):Prop:=∀(Q:Nat->LD->V->Prop),(∀ i q,Q i (.g (.bool q)) (.bool q))->(∀ i x,t.get (fQ i)=some x->∃ v,tv.get (fQ i)=some v/\Q i x v)->∀ i x,t'.get (fQ i)=some x->∃ v,tv.get (fQ i)=some v/\Q i x v
theorem Rf.refl(t:T LD)(tv:T V):Rf t t tv:=λ_ _ h=>h
theorem Rf.rt{t t':T LD}(r:Rf t t' tv)(h:EC g LO t tv):EC g LO t' tv:=r (λ_ x v=>RS g LO x v) (λ_ q=>by show RD _ _ _;simp only[RD]) h
theorem AL{i:Nat}{q:Bool}(hv:tv.get (fQ i)=some (.bool q)):Rf t (T.set (some (.g (.bool q))) (fQ i) t) tv:=λQ hq h j x hx=>by grind [T.get_setN]
theorem zC{x:Operand}{q:Bool}(a:eval tv x=some (.bool q)):Rf t (OG t x q) tv:=by
 cases x with
 |tmp i=>exact AL a
 |_=>exact Rf.refl t tv
theorem aaC{d:D}{x y:av}(h:brS d x y=some out):∃ q,d=.bool q/\(bif q then x else y)=some out:=by
 unfold brS at h
 grind
theorem Gq{x y:av}(h:Gr x y=some out):x=some out/\y=some out:=by grind [Gr]
theorem Iv{d:D}{x y:av}(h:brD d x y=some out){v:V}(r:RD g d v):∃ q,v=.bool q/\(bif q then x else y)=some out:=by
 unfold brD at h
 grind [RD,Gq]
theorem Zf{P:Program}{op:BinOp}{ty el:TypeId}{x y:Operand}{d:D}{κ:D->av}(h:RG op d κ=some out)(k:P.underlying ty=some (.slice el)){v w:V}(r:RD g d v)(hy:vC y=true)(hw:eval tv y=some w)(s:S) :
 ∃ m v',κ m=some out/\gC P s op ty x y (some v) (some w)=some v'/\RD g m v':=by
 have j:w=.nilslice:=by
  unfold vC at hy
  grind [eval]
 subst j;unfold RG at h;obtain⟨p,h⟩:=aU h;have key:∀ {v:V},(v=.nilslice\/∃ a z n c sz,v=.slice a z n c sz)->∃ q,gC P s op ty x y (some v) (some .nilslice)=some (.bool q)/\((∃ a z n c sz,v=.slice a z n c sz)->q=ahp op):=λ{v} u=>by
  have A:iq P op ty x y v .nilslice=true:=by grind [iq]
  simp only[gC,A,ge];rcases u with rfl|⟨a,z,n,c,sz,rfl⟩
  .cases op<;>first|(cases p;done)|(simp only[gx,du,k,Option.map];exact⟨_,rfl,fun⟨a,z,n,c,sz,q⟩=>by cases q⟩)
  .cases op<;>first|(cases p;done)|(simp only[gx,du,k,Option.map];exact⟨_,rfl,λ_=>rfl⟩)
 split at h
 .simp only[RD]at r;obtain⟨q,i,_⟩:=key (v:=v) (by rcases r with rfl|⟨a,z,sz,rfl⟩;exact .inl rfl;exact .inr ⟨_,_,_,_,_,rfl⟩);exact⟨_,_,h,i,by simp only[RD];exact⟨q,rfl⟩⟩
 .rename_i sz l _;simp only[RD]at r;cases l with
  |nil =>obtain⟨q,i,_⟩:=key (v:=v) (by rcases r with⟨_,rfl⟩|⟨_,a,z,sz,rfl⟩|⟨a,z,cap,rfl,_⟩;exact .inl rfl;exact .inr ⟨_,_,_,_,_,rfl⟩;exact .inr ⟨_,_,_,_,_,rfl⟩);exact⟨_,_,h,i,by simp only[RD];exact⟨q,rfl⟩⟩
  |cons e l =>
   rcases r with⟨q,_⟩|⟨q,_⟩|⟨a,z,cap,rfl,_⟩
   .cases q
   .cases q
   .obtain⟨q,i,F⟩:=key (v:=.slice a z (e::l).length cap sz) (.inr ⟨_,_,_,_,_,rfl⟩);refine⟨_,_,h,i,?_⟩;rw[F ⟨_,_,_,_,_,rfl⟩];show RD _ _ _;simp only[RD]
 .cases h
theorem GA.set{x:Operand}{q:Bool}{c:Operand}(hc:eval tv c=some (.bool q))(h:GA g LO t tv x):GA g LO (OG t c q) tv x:=by
 intro y hy;cases x with
 |tmp j =>
  cases c with
  |tmp i =>
   simp only[iS,OG]at hy;by_cases a:i=j
   .subst a;rw[T.get_set_same]at hy;cases hy;exact⟨_,hc,by show RD _ _ _;simp only[RD]⟩
   .rw[T.get_setN,ajD a]at hy;exact h y hy
  |_=>exact h y hy
 |_=>exact h y hy
theorem pV(o:Op){esc:Bool}{H:DH}{κ:T LD->DU->av}(hk:aT E.E.P o<=1)(N:(∀ ty x lo hi mx,o≠.slice ty x lo hi mx)\/H=[])(ho:∀ x∈o.operands.toList,GA g LO t tv x)(G:Ok g)(hl:LRw g L LO)(O:hC H g)(e:mg o E esc t L H κ=some out) :
 ∃ t' d v,κ t' (.val d L H)=some out/\dF o E.E tv g.s=some (.val v g.s)/\RS g LO d v/\Rf t t' tv:=by
 have fin:∀ {d:D} {v:V} {r:Option V},κ t (.val (.g d) L H)=some out->r=some v->RD g d v->∃ t' d v,κ t' (.val d L H)=some out/\bS g.s r=some (.val v g.s)/\RS g LO d v/\Rf t t' tv:=λh l j=>⟨t,_,_,h,by rw[l];rfl,j,.refl t tv⟩;cases o with
 |move x =>obtain⟨d,v,h,_,l,j⟩:=np e (ho x (by simp[Op.operands]));exact⟨t,d,v,h,by simp only[dF,l];rfl,j,.refl t tv⟩
 |assign x =>obtain⟨d,v,h,_,l,j⟩:=np e (ho x (by simp[Op.operands]));exact⟨t,d,v,h,by simp only[dF,l];rfl,j,.refl t tv⟩
 |pick c x y =>
  simp only[mg,aby,sQ]at e;obtain⟨d,v,h,_,l,j⟩:=bO e (ho c (by simp[Op.operands]));obtain⟨q,rfl,u⟩:=aaC h;simp only[RD]at j;subst j;cases q with
  |true =>obtain⟨I,v',m,_,n,p⟩:=np (x:=x) u ((ho x (by simp[Op.operands])).set l);exact⟨_,I,v',m,by simp only[dF,nI,l,ge,n];rfl,p,zC l⟩
  |false =>obtain⟨I,v',m,_,n,p⟩:=np (x:=y) u ((ho y (by simp[Op.operands])).set l);exact⟨_,I,v',m,by simp only[dF,nI,l,Xi,n];rfl,p,zC l⟩
 |build ty parts =>simp only[mg]at e;obtain⟨d,v,h,l,j⟩:=SD (LO:=LO) (tv:=tv) (g:=g) e (λx F=>ho x.2 (by simp only[Op.operands,anT];exact⟨x,F,rfl⟩));exact fin h l j
 |load ty x =>obtain⟨d,v,h,_,l,j⟩:=np e (ho x (by simp[Op.operands]));obtain⟨I,v',m,n,p⟩:=JD h O G hl j;exact⟨t,_,v',m,by simp only[dF,l];exact n,p,.refl t tv⟩
 |nilCheck x =>obtain⟨d,v,h,_,l,j⟩:=np e (ho x (by simp[Op.operands]));obtain⟨m,n⟩:=aar h j;exact⟨t,d,v,m,by simp only[dF,l,n];rfl,j,.refl t tv⟩
 |binOp op ty x y yT =>
  obtain⟨a,v,h,_,l,j⟩:=bO e (ho x (by simp[Op.operands]));obtain⟨c,w,u,_,z,A⟩:=bO h (ho y (by simp[Op.operands]));cases Q:vC y with
  |true =>
   rw[Q,ge]at u;split at u
   .rename_i R;obtain⟨d,v',m,n,p⟩:=Zf (x:=x) u R j Q z g.s;exact fin m (by rw[l,z];exact n) p
   .cases u
  |false =>
  rw[Q,Xi]at u;obtain⟨d,v',m,n,p⟩:=aaF u j A g.s;exact fin m (by rw[l,z];exact n) p
 |unOp op ty x =>obtain⟨a,v,h,_,l,j⟩:=bO e (ho x (by simp[Op.operands]));obtain⟨d,v',m,n,p⟩:=acC h j;exact fin m (by rw[l];exact n) p
 |convert src dst x =>obtain⟨a,v,h,_,l,j⟩:=bO e (ho x (by simp[Op.operands]));obtain⟨d,v',m,n,p⟩:=WS h j g.s;exact⟨t,_,v',m,by simp only[dF,l,iz,n];rfl,p,.refl t tv⟩
 |makeInterface ty x =>
  obtain⟨a,v,h,_,l,j⟩:=bO e (ho x (by simp[Op.operands]));split at h
  .cases h
  .rename_i U R;refine fin (v:=.iface ty v) h ?_ (by simp only[RD];exact⟨v,rfl,j⟩);rw[l];unfold qe;rw[R];split
   .rename_i q;exact(U _ (anJ q)).elim
   .rfl
   .rename_i q;cases q
  .cases h
 |makeFunc fn first cap =>
  simp only[mg]at e;split at e
  .obtain⟨ds,vs,h,l,j⟩:=kI e (λx F=>ho x (by simp[Op.operands]at F ⊢;exact .inl F));obtain⟨es,ws,u,z,A⟩:=kI h (λx F=>ho x (by simp[Op.operands]at F ⊢;exact .inr F));refine fin (v:=.func (.func _) vs ws) u ?_ (by simp only[RD];exact⟨vs,ws,rfl,j,A⟩);simp only[uh,l,z,Ht]
  .cases e
 |fieldAddr ty x f =>obtain⟨d,v,h,_,l,j⟩:=np e (ho x (by simp[Op.operands]));obtain⟨I,v',m,n,p⟩:=Sk h j;exact⟨t,I,v',m,by simp only[dF,l,n];rfl,p,.refl t tv⟩
 |field ty x f =>obtain⟨a,v,h,_,l,j⟩:=bO e (ho x (by simp[Op.operands]));obtain⟨d,v',m,n,p⟩:=Sj h j;exact fin m (by rw[l];exact n) p
 |indexAddr ty x i =>obtain⟨a,v,h,_,l,j⟩:=bO e (ho x (by simp[Op.operands]));obtain⟨c,w,u,_,z,A⟩:=bO h (ho i (by simp[Op.operands]));obtain⟨d,v',m,n,p⟩:=Sc u j A;exact fin m (by rw[l,z];exact n) p
 |index ty x i =>obtain⟨a,v,h,_,l,j⟩:=bO e (ho x (by simp[Op.operands]));obtain⟨c,w,u,_,z,A⟩:=bO h (ho i (by simp[Op.operands]));obtain⟨d,v',m,n,p⟩:=Sb u j A;exact fin m (by rw[l,z];exact n) p
 |lookup ty x k ok =>obtain⟨a,v,h,_,l,j⟩:=bO e (ho x (by simp[Op.operands]));obtain⟨c,w,u,_,z,A⟩:=bO h (ho k (by simp[Op.operands]));obtain⟨d,v',m,n,p⟩:=Vt u O G j A;exact fin m (by rw[l,z];exact n) p
 |typeAssert x xT ty ok =>obtain⟨a,v,h,_,l,j⟩:=bO e (ho x (by simp[Op.operands]));obtain⟨d,v',m,n,p⟩:=NL h j;exact fin m (by rw[l];exact n) p
 |extract x i =>obtain⟨a,v,h,_,l,j⟩:=bO e (ho x (by simp[Op.operands]));obtain⟨d,v',m,n,p⟩:=aae h j;exact fin m (by rw[l];exact n) p
 |slice ty x lo hi mx =>
  rcases N with N|rfl
  .exact(N _ _ _ _ _ rfl).elim
  obtain⟨d,v,h,_,l,j⟩:=bO e (ho x (by simp[Op.operands]));obtain⟨d1,v1,u,z,A⟩:=qd h (λy hy=>ho y (by subst hy;simp[Op.operands]));obtain⟨d2,v2,W,X,Y⟩:=qd u (λy hy=>ho y (by subst hy;simp[Op.operands]));obtain⟨d3,v3,Z,i2,i3⟩:=qd W (λy hy=>ho y (by subst hy;simp[Op.operands]));obtain⟨I,v',m,n,p⟩:=LN Z j A Y i3;exact fin m (by rw[l,z,X,i2];exact n) p
 |call c =>
  simp only[mg]at e;obtain⟨ds,vs,h,l,j⟩:=kI e (λx F=>ho x (by simp[Op.operands,Call.operands]at F ⊢;exact .inr F));simp only[dF,l,iU];split at h
  .rename_i bi hc;rw[hc];simp only[aT,hc]at hk;simp only;cases bi<;>first|(simp at hk;done)|skip
   case len =>
    simp only[nN]at h;simp only[jL];split at h
    .rename_i a ha;split at h
     .rename_i x;simp only[RL]at j;obtain⟨v,vs',rfl,m,rfl⟩:=j;obtain⟨d,v',J,K,M⟩:=Zx h O G m;rw[ha];exact fin J K M
     .cases h
    .cases h
   case max =>
    simp only[nN]at h;simp only[jL];split at h
    .simp only[RL]at j;obtain⟨v,vs',rfl,m,n⟩:=j;obtain⟨d,v',J,K,M⟩:=Bk h m n;exact fin J K M
    .cases h
   case min =>
    simp only[nN]at h;simp only[jL];split at h
    .simp only[RL]at j;obtain⟨v,vs',rfl,m,n⟩:=j;obtain⟨d,v',J,K,M⟩:=Bk h m n;exact fin J K M
    .cases h
   case cap=>cases h
  .rename_i f hc;simp[aT,hc]at hk
  .cases h
 |_=>first|(cases e;done)|(simp[aT]at hk;done)
def OpS(E:dX)(b:Nat)(P0:List Nat)(g:Gh)(t:T LD)(tv:T V)(L:LS)(LO:List Nat)(x:DU)(nx:Nx):Prop:=match x with
 |.val d L' H'=>∃ v s',nx=.val v s'/\ze b P0 g t L tv LO L' H' s' λg' LO'=>RS g' LO' d v
 |.skip L' H'=>∃ s',nx=.skip s'/\ze b P0 g t L tv LO L' H' s' λ_ _=>True
 |.enter f args L' H'=>∃ vs,nx=.enter f vs g.s/\L'=L/\H'=g.H/\RL g args vs/\aV E f=true
 |.defer df L' H'=>∃ c a,nx=.defer (.call (.func df.fn) c a) g.s/\L'=L/\H'=g.H/\RL g df.captured c/\RL g df.args a/\aV E df.fn=true
 |.recover L' H'=>nx=.recover g.s/\L'=L/\H'=g.H
 |.panic d L' H'=>∃ v,nx=.panic v g.s/\L'=L/\H'=g.H/\RD g d v
 |.round o args L' H'=>∃ vs l v,nx=.round l vs g.s/\L'=L/\H'=g.H/\RL g args vs/\g.O[o]? = some (some (l,v))
theorem FI.rf(h:FI b P0 g t L tv LO){t':T LD}(r:Rf t t' tv):FI b P0 g t' L tv LO:=⟨h.ok,r.rt h.slots,h.own,h.pv,h.low,h.nd,h.bl⟩
theorem EC.ops(h:EC g LO t tv)(l:List Operand):∀ x∈l,GA g LO t tv x:=λx _=>h.op x
theorem Mj(o:Op){esc:Bool}{κ:T LD->DU->av}(h:FI b P0 g t L tv LO)(e:mg o E esc t L g.H κ=some out) :
 ∃ t' x nx,κ t' x=some out/\dF o E.E tv g.s=some nx/\Rf t t' tv/\OpS E.E b P0 g t tv L LO x nx:=by
 have rd:aT E.E.P o<=1->(∀ ty x lo hi mx,o≠.slice ty x lo hi mx)->∃ t' x nx,κ t' x=some out/\dF o E.E tv g.s=some nx/\Rf t t' tv/\OpS E.E b P0 g t tv L LO x nx:=λhk hs=>by obtain⟨t',d,v,p,A,u,I⟩:=pV o hk (.inl hs) (h.slots.ops _) h.ok h.own.2 (hC.refl g) e;exact⟨t',_,_,p,A,I,v,g.s,rfl,ze.same h u⟩
 cases o with
 |alloc elem =>
  simp only[mg]at e;split at e
  .rename_i z hz;obtain⟨zv,p,_,u,I⟩:=kf (g:=g) hz;obtain⟨x,L',H',r,F⟩:=Pp h e u I elem;exact⟨t,_,_,r,by simp only[dF,jU,p,qM,bE,bD],.refl t tv,_,_,rfl,F⟩
  .cases e
 |box elem x =>
  simp only[mg]at e;split at e
  .obtain⟨d,v,p,_,A,u⟩:=bO e (h.slots.op x);obtain⟨cs,I,J,K,_⟩:=nM p u;obtain⟨x,L',H',r,F⟩:=Pp h I J K elem;exact⟨t,_,_,r,by simp only[dF,uk,A,qM,bE,bD],.refl t tv,_,_,rfl,F⟩
  .cases e
 |buildSlice ty len parts =>simp only[mg]at e;obtain⟨d,v,s',p,A,u⟩:=Dp h e (λx _=>h.slots.op x.2);exact⟨t,_,_,p,by simp only[dF];exact A,.refl t tv,v,s',rfl,u⟩
 |store ty x y =>obtain⟨d,v,p,_,A,u⟩:=np e (h.slots.op x);obtain⟨c,w,I,_,J,K⟩:=bO p (h.slots.op y);obtain⟨s',L',H',r,F,G⟩:=Rp h I u K;exact⟨t,_,_,r,by simp only[dF,A,J];exact F,.refl t tv,s',rfl,G⟩
 |makeMap ty n =>
  cases n with
  |some _=>cases e
  |none=>exact⟨t,_,_,e,rfl,.refl t tv,_,_,rfl,RJ h⟩
 |makeSlice ty l c =>
  simp only[mg]at e;split at e
  .rename_i el N;split at e
   .rename_i i;split at e
    .rename_i j;obtain⟨hb,e1⟩:=aU e;clear e;have hb:=abj hb;subst hb;obtain⟨d,v,p,_,A,u⟩:=bO e1 (h.slots.op _);split at p
     .simp only[RD]at u;subst u;obtain⟨m,hm,I⟩:=pX p;subst hm;obtain⟨l,sz,v,s',r,F,G⟩:=Zl h N I;exact⟨t,_,_,r,by simp only[dF,A,eA,qN];exact F,.refl t tv,v,s',rfl,G⟩
     .cases p
    .cases e
   .cases e
  .cases e
 |slice ty x lo hi mx =>obtain⟨d,v,p,_,A,u⟩:=bO e (h.slots.op x);obtain⟨Z,v1,I,J,K⟩:=qd p (λy _=>h.slots.op y);obtain⟨d2,v2,O,Q,R⟩:=qd I (λy _=>h.slots.op y);obtain⟨d3,v3,i1,i2,i3⟩:=qd O (λy _=>h.slots.op y);obtain⟨d',H',v',r,F,G⟩:=LM h i1 u K R i3;exact⟨t,_,_,r,by simp only[dF,A,J,Q,i2,zS,F];rfl,.refl t tv,v',g.s,rfl,G⟩
 |mapUpdate ty m k x =>obtain⟨Z,v1,p,_,A,u⟩:=bO e (h.slots.op m);obtain⟨d2,v2,I,_,J,K⟩:=bO p (h.slots.op k);obtain⟨d3,v3,O,_,Q,R⟩:=bO I (h.slots.op x);obtain⟨s',H',r,F,G⟩:=Jy h O u K R;exact⟨t,_,_,r,by simp only[dF,A,J,Q];exact F,.refl t tv,s',rfl,G⟩
 |insert ty m k x =>obtain⟨Z,v1,p,_,A,u⟩:=bO e (h.slots.op m);obtain⟨d2,v2,I,_,J,K⟩:=bO p (h.slots.op k);obtain⟨d3,v3,O,_,Q,R⟩:=bO I (h.slots.op x);obtain⟨s',H',r,F,G⟩:=Jy h O u K R;exact⟨t,_,_,r,by simp only[dF,A,J,Q];exact F,.refl t tv,s',rfl,G⟩
 |call c =>
  have e0:=e;simp only[mg]at e;obtain⟨ds,vs,p,A,u⟩:=kI e (λx _=>h.slots.op x);split at p
  .rename_i bi hc;have pure:(bi=.len\/bi=.max\/bi=.min)->∃ t' x nx,κ t' x=some out/\dF (.call c) E.E tv g.s=some nx/\Rf t t' tv/\OpS E.E b P0 g t tv L LO x nx:=λhb=>by
    refine rd ?_ (λ_ _ _ _ _ q=>by cases q)
    grind [aT]
   cases bi<;>first|(cases p;done)|exact pure (.inl rfl)|exact pure (.inr (.inl rfl))|exact pure (.inr (.inr rfl))|skip
   case append =>
    simp only[nN]at p;split at p
    .rename_i a ha;split at p
     .rename_i c2 hb;split at p
      .simp only[RL]at u;obtain⟨v1,vs1,rfl,r,v2,vs2,rfl,F,rfl⟩:=u;obtain⟨d,H',v,s',M,U,j3⟩:=NM h p r F;exact⟨t,_,_,M,by simp only[dF,A,iU,hc,jL,ha,hb,U,jx],.refl t tv,v,s',rfl,j3⟩
      .cases p
     .cases p
    .cases p
   case recover=>exact⟨t,_,_,p,by simp only[dF,A,iU,hc,jL],.refl t tv,rfl,rfl,rfl⟩
   case panic =>
    simp only[nN]at p;split at p
    .simp only[RL,RD]at u;obtain⟨v1,vs1,rfl,⟨v',rfl,r⟩,rfl⟩:=u;exact⟨t,_,.panic (.iface _ v') g.s,p,by simp only[dF,A,iU,hc,jL];rfl,.refl t tv,_,rfl,rfl,rfl,by simp only[RD];exact⟨v',rfl,r⟩⟩
    .cases p
  .rename_i f hc;obtain⟨d,v,r,_,F,G⟩:=bO p (h.slots.op f);split at r
   .unfold NX at r;split at r
    .simp only[RD]at G;obtain⟨l,v',M,rfl⟩:=G;exact⟨t,_,.round l vs g.s,r,by simp only[dF,A,iU,hc,F,QK,agc],.refl t tv,vs,l,v',rfl,rfl,rfl,u,M⟩
    .cases r
   unfold Iq at r;split at r
   .rename_i gf first cap
    obtain⟨hb,r⟩:=aU r;simp only[RD]at G;obtain⟨W,X,rfl,M,U⟩:=G;refine⟨t,_,_,r,?_,.refl t tv,W++(vs++X),rfl,rfl,rfl,M.append (u.append U),hb⟩;simp only[dF,A,iU,hc,F,QK,QL];unfold aV at hb;split at hb
    .rename_i fn hf;rw[hf];simp only;split
     .rename_i q;rw[q]at hb;cases hb
     .rfl
    .cases hb
   .cases r
  .cases p
 |defer c =>
  simp only[mg]at e;obtain⟨ds,vs,p,A,u⟩:=kI e (λx _=>h.slots.op x);split at p
  .rename_i f hc;obtain⟨d,v,r,_,F,G⟩:=bO p (h.slots.op f);split at r
   .obtain⟨hb,r⟩:=aU r;simp only[RD]at G;obtain⟨W,X,rfl,M,U⟩:=G;exact⟨t,_,_,r,by simp only[dF,A,qj,hc,F,Id],.refl t tv,X,W++vs,rfl,rfl,rfl,U,M.append u,hb⟩
   .cases r
  .cases p
 |panic x =>
  simp only[mg]at e;obtain⟨d,v,r,_,F,G⟩:=bO e (h.slots.op x);split at r
  .simp only[RD]at G;obtain⟨v',rfl,M⟩:=G;exact⟨t,_,.panic (.iface _ v') g.s,r,by simp only[dF,F,zT];rfl,.refl t tv,_,rfl,rfl,rfl,by simp only[RD];exact⟨v',rfl,M⟩⟩
  .cases r
 |convert Y dst x =>
  refine rd ?_ (λ_ _ _ _ _ q=>by cases q);obtain⟨a,v,p,_,A,u⟩:=bO e (h.slots.op x);unfold rj at p;revert p;cases (E.E.P.underlying Y).isNone with
  |true=>intro p;cases p
  |false =>
   intro p;simp only[Xi]at p;split at p
   .rename_i N;simp[aT,N]
   .rename_i N;simp[aT,N]
   .cases p
 |binOp op ty x y yT=>exact rd (by simp only[aT];cases vE op<;>simp) (λ_ _ _ _ _ q=>by cases q)
 |_=>first
  |(cases e;done)
  |exact rd (by simp[aT]) (λ_ _ _ _ _ q=>by cases q)
end
section
variable[gu]
variable{b:Nat}{P0:List Nat}{g g':Gh}{LO:List Nat}{t:T LD}{L:LS}{tv:T V}{P:Program}{out:iY}{E:dr}
theorem il{s s':S}{r:Option V}{v:V}(h:bS s r=some (.val v s)):bS s' r=some (.val v s'):=by
 unfold bS at h ⊢;split at h
 .cases h;rfl
 .cases h
theorem rO{ty:TypeId}{cs:List D}{c:Nat}{κ:D->av}(h:bL P ty cs c κ=some out){s s':S}{a:Ad}{vs:List V}(l:loadCells s a cs.length=some vs)(p:loadCells s' a cs.length=some vs):loadVar P s ty (cV a c)=loadVar P s' ty (cV a c):=by
 unfold bL at h;unfold loadVar;split at h
 .rename_i m;split at h
  .rename_i n q;obtain⟨i,h⟩:=aU h;obtain⟨_,h4⟩:=iL h;have i:=act i;rw[m,q];simp only[Option.bind];rw[jc l (by omega),jc p (by omega)]
  .cases h
 .rename_i m;obtain⟨d,h3,_⟩:=jX h;have j:c<cs.length:=by grind
  have k:c<vs.length:=by rw[Eg l];exact j
  have hv:vs[c]? = some vs[c]:=abI k
  grind [tI]
 .cases h
def yF(H:DH):Prop:=∀(o:Nat) b,H[o]? = some b->b=.dead\/∃ st cs,b=.cells st cs
theorem yF.nil:yF []:=λo b h=>by simp at h
theorem adv{H:DH}(h:yF H){o n:Nat}{k:Nat->Bool->Bool->List (List D)->av}:cH H o n k≠some out:=λe=>by
 unfold cH at e;split at e
 .rename_i sz st cap l hc;rcases h o _ hc with q|⟨_,_,q⟩<;>cases q
 .cases e
theorem UZ{H:DH}(h:yF H){o:Nat}{k:List (D×D)->av}:rM H o k≠some out:=λe=>by
 unfold rM at e;split at e
 .rename_i es hc;rcases h o _ hc with q|⟨_,_,q⟩<;>cases q
 .cases e
theorem Nl{d:Nat}{ty:TypeId}{x y:D}{κ:Bool->av}{v w:V}(h:So P d ty x y κ=some out)(a:RD g x v)(c:RD g y w):∃ q,∀ okf,du P okf d ty v w=some q:=by
 obtain⟨q,i⟩:=IB P d ty x y κ out h;refine⟨q,λokf=>?_⟩;obtain⟨q',h1,h2⟩:=HQ (κ:=λp=>bif p==q then some out else none) okf (by rw[i];simp;rfl) a c
 grind
theorem afK{op:BinOp}{ty:TypeId}{x y:Operand}{c d:D}{κ:D->av}(h:aA P op ty (fS x||fS y) c d κ=some out){v w:V}(r1:RD g c v)(r2:RD g d w){s s':S}:gC P s op ty x y (some v) (some w)=gC P s' op ty x y (some v) (some w):=by
 simp only[gC];congr 1;unfold gx;split
 .rfl
 .rfl
 .rename_i n1 n2;unfold aA at h;split at h
  .grind [RD]
  .grind [RD]
  .obtain⟨_,h⟩:=aU h
   grind [Nl]
theorem adx{op:BinOp}{ty el:TypeId}{x y:Operand}{d:D}{κ:D->av}(h:RG op d κ=some out)(hu:P.underlying ty=some (.slice el)){v w:V}(r:RD g d v)(hy:vC y=true)(hw:eval tv y=some w){s s':S}:gC P s op ty x y (some v) (some w)=gC P s' op ty x y (some v) (some w):=by simp_all[gC,gx,du]
theorem aao{a dst:TypeId}{x:D}{κ:D->av}(h:rj P a dst x κ=some out){v:V}(r:RD g x v){s s':S}{y:V}(hy:kM P s a dst v=some (y,s)):kM P s' a dst v=some (y,s'):=by
 unfold rj at h
 grind [RD,kM,EM]
theorem Zu{ty:TypeId}{x:LD}{H:DH}{κ:D->av}(h:mr P ty x L H κ=some out)(F:hC H g)(hc:yF H)(p:Ok g)(hl:LRw g L LO){v:V}(r:RS g LO x v)(hm:qt g g')
 (hp:∀(k:Nat) y f,L[k]? = some y->LO[k]? = some f->y.2≠[]->g'.s.get f=g.s.get f) (z:∀(o:Nat) st cs f v,H[o]? = some (.cells st cs)->g.O[o]? = some (some (f,v))->g'.s.get f=g.s.get f) :
 ∀ w,jC P g.s ty (some v)=some (.val w g.s)->jC P g'.s ty (some v)=some (.val w g'.s):=by
 have key:∀ {a:Ad},v=.ptr a->loadVar P g.s ty a=loadVar P g'.s ty a->∀ w,jC P g.s ty (some v)=some (.val w g.s)->jC P g'.s ty (some v)=some (.val w g'.s):=λ{a} hv he w hw=>by grind [kK,il]
 cases x with
 |u=>cases h
 |lp k c =>
  simp only[mr]at h;obtain⟨f,j,rfl⟩:=r;split at h
  .rename_i st cs hk;by_cases l:cs=[]
   .subst l;exfalso;unfold bL at h;split at h
    .split at h
     .obtain⟨G,h⟩:=aU h;obtain⟨_,q⟩:=iL h;have:=act G;simp at q;omega
     .cases h
    .obtain⟨d,q,_⟩:=jX h;simp at q
    .cases h
   .obtain⟨_,i|⟨el,vs,i,m,n⟩⟩:=hl k _ f hk j
    .exact(l i).elim
    .have A:=hp k _ f hk j l;refine key (a:=cV ⟨f,0,0⟩ c) (by simp[cV]) (rO (vs:=vs) h ?_ ?_)
     .rw[<- m.len];exact MM i
     .rw[<- m.len];exact MM (by rw[A];exact i)
  .cases h
 |g d =>
  have r:RD g d v:=r;simp only[mr]at h;unfold bJ at h;split at h
  .simp only[RD]at r;obtain⟨a,vs,rfl,j,i,m,n⟩:=r;exact key rfl (rO h i (hm.cells _ _ _ j i))
  .rename_i o c _;simp only[RD]at r;obtain⟨f,ver,j,rfl⟩:=r;obtain⟨st,cs,f',el,vs,h,h0,_,i,m,n,A⟩:=Hp h F p;rw[j]at i;cases i;refine key (a:=cV ⟨f,0,0⟩ c) (by simp[cV]) (rO (vs:=vs) h ?_ ?_)
   .rw[<- n.len];exact MM m
   .rw[<- n.len];exact MM (by rw[z _ st cs f 0 h0 j];exact m)
  .exact(adv hc h).elim
  .cases h
theorem Fh(o:Op){esc:Bool}{H:DH}{κ:T LD->DU->av}(hk:aT E.E.P o<=1)(ho:∀ x∈o.operands.toList,GA g LO t tv x)(A:Ok g)(hl:LRw g L LO)(M:hC H g)(hc:yF H)(e:mg o E esc t L H κ=some out)(hm:qt g g')
 (hp:∀(k:Nat) y f,L[k]? = some y->LO[k]? = some f->y.2≠[]->g'.s.get f=g.s.get f) (F:∀(o:Nat) st cs f v,H[o]? = some (.cells st cs)->g.O[o]? = some (some (f,v))->g'.s.get f=g.s.get f) :
 ∀ w,dF o E.E tv g.s=some (.val w g.s)->dF o E.E tv g'.s=some (.val w g'.s):=by
 intro w h;cases o with
 |load ty x =>obtain⟨d,v,i,_,m,l⟩:=np e (ho x (by simp[Op.operands]));simp only[dF,m]at h ⊢;exact Zu i M hc A hl l hm hp F w h
 |binOp op ty x y yT =>
  obtain⟨a,v,i,_,m,l⟩:=bO e (ho x (by simp[Op.operands]));obtain⟨c,w',j,_,z,J⟩:=bO i (ho y (by simp[Op.operands]));simp only[dF,m,z]at h ⊢;cases G:vC y with
  |true =>
   rw[G,ge]at j;split at j
   .rename_i q;have N:gC E.E.P g.s op ty x y (some v) (some w')=gC E.E.P g'.s op ty x y (some v) (some w'):=adx j q l G z;rw[<- N];exact il h
   .cases j
  |false =>
  rw[G,Xi]at j;rw[afK j l J (s:=g'.s) (s':=g.s)];exact il h
 |convert u dst x =>
  obtain⟨a,v,i,_,m,l⟩:=bO e (ho x (by simp[Op.operands]));simp only[dF,m,iz]at h ⊢;have:kM E.E.P g.s u dst v=some (w,g.s):=by
   revert h;cases kM E.E.P g.s u dst v with
   |none=>intro h;cases h
   |some p=>intro h;obtain⟨p1,p2⟩:=p;simp only[jx,acf,Nx.val.injEq]at h;rw[h.1,h.2]
  rw[aao i l this];rfl
 |lookup ty x k ok =>
  obtain⟨a,v,i,_,m,l⟩:=bO e (ho x (by simp[Op.operands]));obtain⟨c,w',j,_,z,J⟩:=bO i (ho k (by simp[Op.operands]));simp only[dF,m,z]at h ⊢;unfold oa at j;split at j
  .rename_i td el I;obtain⟨kt,q,_,_,hsk⟩:=oX I;split at j
   .obtain⟨_,j⟩:=aU j;exact(UZ hc j).elim
   .simp only[RD]at l;subst l;simp only[kJ,q,CS,cJ]at h ⊢;exact il h
   .cases j
  .cases j
 |call c =>
  simp only[mg]at e;obtain⟨ds,vs,i,m,l⟩:=kI e (λx K=>ho x (by simp[Op.operands,Call.operands]at K ⊢;exact .inr K));simp only[dF,m,iU]at h ⊢;split at i
  .rename_i bi n;rw[n]at h ⊢;simp only[aT,n]at hk;simp only at h ⊢;cases bi<;>first|(simp at hk;done)|skip
   case len =>
    simp only[nN]at i;simp only[jL]at h ⊢;split at i
    .rename_i a Q;split at i
     .simp only[RL]at l;obtain⟨v,vs',rfl,R,rfl⟩:=l;rw[Q]at h ⊢;simp only at h ⊢;have U:mu E.E.P a g.s v=mu E.E.P a g'.s v:=by
       unfold mu;split<;>first|rfl|skip
       rename_i r _ q;exfalso;unfold aP at i;rw[q]at i;simp only at i;have W:=R.tag;split at i
       .grind [UZ]
       .cases W
       .cases i
      rw[<- U];exact il h
     .cases i
    .cases i
   case max=>exact il h
   case min=>exact il h
   case cap=>cases i
  .rename_i f n;simp[aT,n]at hk
  .cases i
 |pick c x y =>
  simp only[dF,nI]at h ⊢;split at h
  .exact il h
  .cases h
 |_=>first|(cases e;done)|(simp[aT]at hk;done)|(simp only[dF]at h ⊢;exact il h)
end
section
variable[gu]
variable{b:Nat}{P0:List Nat}{g:Gh}{LO:List Nat}{t:T LD}{L:LS}{tv:T V}{out:iY}{E:dr}{an:ga}
def ju(g:Gh):List iX->List NR->Prop
 |[],c=>c=[]
 |x::r,c=>∃ y a,c=y::a/\RD g x.v y.v/\x.recovered=y.recovered/\ju g r a
def Te(g:Gh):fx->Md->Prop
 |.run,m=>m=.run
 |.returning,m=>m=.returning
 |.panicking c,m=>∃ a,m=.panicking a/\ju g c a
 |.round _,_=>False
def SU(g:Gh):Option fx->Option Md->Prop
 |none,u=>u=none
 |some m,u=>∃ a,u=some a/\Te g m a
def sv(g:Gh):Option fx->Option Md->Option Nat->Prop
 |some (.round o),u,r=>u=none/\∃ l v,r=some l/\g.O[o]? = some (some (l,v))
 |up,u,r=>r=none/\SU g up u
def Ri(up:Option fx):Prop:=∀ o,up≠some (.round o)
theorem sv.nr{g:Gh}{up:Option fx}{u:Option Md}{r:Option Nat}(a:Ri up)(h:sv g up u r):r=none/\SU g up u:=by
 unfold sv at h;split at h
 .exact(a _ rfl).elim
 .exact h
theorem sv.mk{g:Gh}{up:Option fx}{u:Option Md}(a:Ri up)(h:SU g up u):sv g up u none:=by
 unfold sv;split
 .exact(a _ rfl).elim
 grind
theorem nc{up:Option fx}{r:av}{out:iY}(h:notRnd up r=some out):Ri up/\r=some out:=by
 unfold notRnd at h;split at h
 .cases h
 .rename_i a;exact⟨λo e=>a o e,h⟩
def Lw(g:Gh):List su->List ft->Prop
 |[],c=>c=[]
 |.coll o::r,c=>∃ d v h,c=.collected d::h/\g.O[o]? = some (some (d,v))/\Lw g r h
 |.call x::r,c=>∃ ca a h,c=.call (.func x.fn) ca a::h/\RL g x.captured ca/\RL g x.args a/\Lw g r h
def afV(g:Gh):EF->End->Prop
 |.ret d,e=>∃ v,e=.returned v/\RD g d v
 |.pan c,e=>∃ a,e=.panicked a/\ju g c a
theorem ju.mono{g g':Gh}(h:qt g g'):∀ {c:List iX} {a:List NR},ju g c a->ju g' c a
 |[],_,r=>r
 |x::l,_,r=>by obtain⟨y,a,d,i,j,k⟩:=r;exact⟨y,a,d,i.mono h,j,ju.mono h k⟩
theorem Te.mono{g g':Gh}(h:qt g g'){m:fx}{a:Md}(r:Te g m a):Te g' m a:=by
 cases m with
 |run=>exact r
 |returning=>exact r
 |panicking c=>obtain⟨d,i,j⟩:=r;exact⟨d,i,j.mono h⟩
 |round _=>exact r
theorem SU.mono{g g':Gh}(h:qt g g'){m:Option fx}{a:Option Md}(r:SU g m a):SU g' m a:=by
 cases m with
 |none=>exact r
 |some m=>obtain⟨c,d,i⟩:=r;exact⟨c,d,i.mono h⟩
theorem sv.mono{g g':Gh}(h:qt g g'){m:Option fx}{u:Option Md}{q:Option Nat}(r:sv g m u q):sv g' m u q:=by
 unfold sv at r ⊢;split at r
 .obtain⟨h1,l,v,h2,a⟩:=r;obtain⟨v',h4⟩:=h.o1 _ l v a
  grind
 .exact⟨r.1,r.2.mono h⟩
theorem Lw.mono{g g':Gh}(h:qt g g'):∀ {c:List su} {i:List ft},Lw g c i->Lw g' c i
 |[],_,r=>r
 |.coll o::l,_,r=>by obtain⟨d,v,i,j,k,m⟩:=r;obtain⟨v',n⟩:=h.o1 o d v k;exact⟨d,v',i,j,n,Lw.mono h m⟩
 |.call x::l,_,r=>by obtain⟨ca,a,i,j,k,m,n⟩:=r;exact⟨ca,a,i,j,k.mono h,m.mono h,Lw.mono h n⟩
def kb(b:Nat)(P0:List Nat)(g:Gh)(out:iY)(vout:fM):Prop:=∃ g',g'.H=out.H/\g'.s=vout.s/\g'.Pv=P0/\Ok g'/\Mv b g g'/\afV g' out.e vout.e/\SU g' out.up vout.up
structure NP(E:dX)(rec:qF):Prop where
 c:∀ f args up H out,rec f args up H=some out->∀ g:Gh,g.H=H->Ok g->∀ vs upv,RL g args vs->SU g up upv->∃ vout,lim E (.call f vs upv) g.s=some vout/\kb g.s.next g.Pv g out vout
 r:∀ o args H out,rec 0 args (some (.round o)) H=some out->∀ g:Gh,g.H=H->Ok g->∀ vs l v,RL g args vs->g.O[o]? = some (some (l,v))->∃ vout,lim E (.round l vs) g.s=some vout/\kb g.s.next g.Pv g out vout
def mZ(t:T LD)(d:Option Tmp)(x:LD):T LD:=match d with
 |some i=>T.set (some x) (fQ i) t
 |none=>t
theorem di(t:T LD)(d:Option Tmp)(x:LD)(κ:T LD->av):lc t d x κ=κ (mZ t d x):=by
 cases d with
 |none=>rfl
 |some i=>exact T.setK_eq _ _ _ _
theorem EC.put(h:EC g LO t tv)(d:Option Tmp){x:LD}{v:V}(r:RS g LO x v):EC g LO (mZ t d x) (putD tv d v):=by
 cases d with
 |none=>exact h
 |some i =>
  intro j y hy;simp only[mZ]at hy;rw[T.get_setN]at hy;rw[JY];split at hy
  .grind
  .rename_i e;rw[ajD e];exact h j y hy
theorem FI.put(h:FI b P0 g t L tv LO)(d:Option Tmp){x:LD}{v:V}(r:RS g LO x v):FI b P0 g (mZ t d x) L (putD tv d v) LO:=⟨h.ok,h.slots.put d r,h.own,h.pv,h.low,h.nd,h.bl⟩
theorem RS.u:RS g LO .u V.undef:=rfl
theorem Ak{ops:Array Oper}{o:Oper}{kT kF:T LD->av}(e:Am ops t o kT kF=some out)(h:EC g LO t tv) :
 (cK ops tv o=some true/\∃ t',kT t'=some out/\Rf t t' tv)\/(cK ops tv o=some false/\∃ t',kF t'=some out/\Rf t t' tv):=by
 unfold Am at e;unfold cK;split at e
 .rename_i l;rw[l];exact .inl ⟨rfl,t,e,.refl t tv⟩
 .rename_i j want l;rw[l];simp only;split at e
  .rename_i i hi;rw[hi];simp only;split at e
   .rename_i d m;obtain⟨v,c,k⟩:=h i _ m;have k:RD g d v:=k;split at e
    .obtain⟨q,rfl,a⟩:=Iv e k;clear e;rw[c];cases q with
     |true=>rw[ge,T.setK_eq]at a;exact .inl ⟨rfl,_,a,AL c⟩
     |false=>rw[Xi,T.setK_eq]at a;exact .inr ⟨rfl,_,a,AL c⟩
    .obtain⟨q,rfl,a⟩:=Iv e k;clear e;rw[c];cases q with
     |true=>rw[ge,T.setK_eq]at a;exact .inr ⟨rfl,_,a,AL c⟩
     |false=>rw[Xi,T.setK_eq]at a;exact .inl ⟨rfl,_,a,AL c⟩
   .rename_i m;obtain⟨v,c,k⟩:=h i _ m;have k:v=V.undef:=k;subst k;rw[c];exact .inr ⟨rfl,t,e,.refl t tv⟩
   .cases e
  .cases e
theorem JW(h:FI b P0 g t L tv LO){k:Hk}{d:D}{κ:D->DH->av}(e:eZ k d g.H κ=some out){v:V}(r:RD g d v) :
 ∃ m g',κ m g'.H=some out/\g'.s=g.s/\FI b P0 g' t L tv LO/\Mv b g g'/\RD g' m v/\(v.one=true):=by
 unfold eZ at e;split at e
 .rename_i sz;split at e
  .rename_i s' o n;obtain⟨sz',st,cap,l,p,hc,i,u⟩:=nO e (hC.refl g);clear e;obtain⟨hb,e⟩:=fq p;clear p;have hb:=abj hb;subst hb;have c:=r.one (λq=>by cases q) (λq=>by cases q);simp only[RD]at r;have j:sz'=s':=by
    obtain⟨st',cap',l',j1,_⟩:=r
    grind
   subst j;exact⟨_,g.frz o sz' cap l,e,rfl,h.frz i,Mu i,HH h.ok i u r,c⟩
  .have c:=r.one (λq=>by cases q) (λq=>by cases q);simp only[RD]at r;refine⟨_,g,e,rfl,h,.refl b g,?_,c⟩;simp only[RD];rcases r with rfl|⟨a,z,sz',rfl⟩
   .exact .inl ⟨trivial,rfl⟩
   .exact .inr (.inl ⟨trivial,a,z,sz',rfl⟩)
  .exact⟨_,g,e,rfl,h,.refl b g,r,r.one (λq=>by cases q) (λq=>by cases q)⟩
  .cases e
 .rename_i sz;split at e
  .obtain⟨w,e⟩:=aU e;have c:=r.one (λq=>by cases q) (λq=>by cases q);simp only[RD]at r;refine⟨_,g.acc sz false,e,rfl,h.acc (act w) false,Mx h.ok sz false,?_,c⟩;simp only[RD];exact⟨true,false,[],jl,abH _,.inl ⟨rfl,r⟩⟩
  .exact⟨_,g,e,rfl,h,.refl b g,r,r.one (λq=>by cases q) (λq=>by cases q)⟩
  .cases e
theorem lO{α:Type}{l:List α}{i:Nat}{x:α}(h:l[i]? = some x):l.set i x=l:=by
 apply aoC
 grind
theorem BH(h:FI b P0 g t L tv LO){k:Hk}{c:Nat}{d:D}{κ:D->DH->av}(e:ct k c d g.H κ=some out){v:V}(r:RD g d v) :
 ∃ a g',κ a g'.H=some out/\g'.s=g.s/\FI b P0 g' t L tv LO/\Mv b g g'/\RD g' a v:=by
 unfold ct at e;split at e
 .simp only[RD]at r;obtain⟨vs,rfl,p,q⟩:=r;obtain⟨x,u,e⟩:=jX e;obtain⟨w,z,A⟩:=p.at u;obtain⟨y,g',j,l,m,i,n,_⟩:=JW h e A;refine⟨_,g',j,l,m,i,?_⟩;simp only[RD];have:=(p.mono i.le).set c n;rw[lO z]at this;exact⟨vs,rfl,this,q⟩
 .obtain⟨_,e⟩:=aU e;obtain⟨a,g',j,l,m,i,n,_⟩:=JW h e r;exact⟨a,g',j,l,m,i,n⟩
theorem FL:∀ {l:List (Nat×Hk)} {g:Gh} {d:D} {κ:D->DH->av} {v:V},FI b P0 g t L tv LO->BG l d g.H κ=some out->RD g d v->∃ a g',κ a g'.H=some out/\g'.s=g.s/\FI b P0 g' t L tv LO/\Mv b g g'/\RD g' a v
 |[],g,d,κ,v,h,e,r=>⟨d,g,e,rfl,h,.refl b g,r⟩
 |(c,k)::l,g,d,κ,v,h,e,r=>by simp only[BG]at e;obtain⟨a,g',i,j,m,n,p⟩:=BH h e r;obtain⟨q,u,w,y,z,A,F⟩:=FL m i p;exact⟨q,u,w,y.trans j,z,n.trans A,F⟩
theorem gj(h:FI b P0 g t L tv LO){dst:Option Tmp}{x:LD}{κ:LD->DH->av}(e:tT an.hooks dst x g.H κ=some out){v:V}(r:RS g LO x v) :
 ∃ a g',κ a g'.H=some out/\g'.s=g.s/\FI b P0 g' t L tv LO/\Mv b g g'/\RS g' LO a v/\(vH an dst=false->g'=g/\a=x):=by
 have same:κ x g.H=some out->∃ a g',κ a g'.H=some out/\g'.s=g.s/\FI b P0 g' t L tv LO/\Mv b g g'/\RS g' LO a v/\(vH an dst=false->g'=g/\a=x):=λe=>⟨x,g,e,rfl,h,.refl b g,r,λ_=>⟨rfl,rfl⟩⟩;unfold tT at e;split at e
 .exact same e
 .rename_i hl;split at e
  .exact same e
  .rename_i i;split at e
   .exact same e
   .rename_i l hk;split at e
    .obtain⟨d',g',c,d,j,k,m⟩:=FL h e r;refine⟨_,g',c,d,j,k,m,λq=>?_⟩;unfold vH at q;rw[hl]at q hk;simp only[hk]at q;cases q
    .cases e
theorem mF(h:FI b P0 g t L tv LO){vout:fM}{o:iY}(r:kb g.s.next g.Pv g o vout):∃ g',g'.H=o.H/\g'.s=vout.s/\FI b P0 g' t L tv LO/\Mv b g g'/\afV g' o.e vout.e/\SU g' o.up vout.up/\IH g L LO g' L LO:=by obtain⟨g',d,i,j,k,c,l,m⟩:=r;exact⟨g',d,i,h.to k (c.down h.bl) j λf a=>c.out f (h.lo_lt a) (λo v=>h.lo_out a o v),c.down h.bl,l,m,aoq,Tc.of λf a=>c.out f (h.lo_lt a) (λo v=>h.lo_out a o v)⟩
def RgR(b:Nat)(P0:List Nat)(g:Gh)(rdv:Option Nat)(k:Lt)(kp:List iX->Lt)(out:iY):ol->Prop
 |.on tv' dsv' upv' s'=>∃ g' t' L' LO' ds' up',k t' L' ds' up' g'.H=some out/\g'.s=s'/\FI b P0 g' t' L' tv' LO'/\Mv b g g'/\Lw g' ds' dsv'/\sv g' up' upv' rdv
 |.panicked c tv' dsv' upv' s'=>∃ g' t' L' LO' ds' up' a,kp a t' L' ds' up' g'.H=some out/\g'.s=s'/\FI b P0 g' t' L' tv' LO'/\Mv b g g'/\Lw g' ds' dsv'/\sv g' up' upv' rdv/\ju g' a c
theorem RgR.trans{g':Gh}(m:Mv b g g'){rdv:Option Nat}{k:Lt}{kp:List iX->Lt}{r:ol}(h:RgR b P0 g' rdv k kp out r):RgR b P0 g rdv k kp out r:=by
 cases r with
 |on tv' dsv' upv' s' =>obtain⟨a,t',L',LO',ds',up',d,i,j,l,n⟩:=h;exact⟨a,t',L',LO',ds',up',d,i,j,m.trans l,n⟩
 |panicked c tv' dsv' upv' s' =>obtain⟨a,t',L',LO',ds',up',p,d,i,j,l,n⟩:=h;exact⟨a,t',L',LO',ds',up',p,d,i,j,m.trans l,n⟩
variable{rec:qF}
theorem mG{x:av}{kr:D->DH->av}{kp:List iX->DH->av}(h:bd x kr kp=some out):∃ o,x=some o/\((∃ d,o.e=.ret d/\kr d o.H=some out)\/(∃ c,o.e=.pan c/\kp c o.H=some out)):=by
 unfold bd at h
 grind
theorem Eb{d:Option Tmp}{ds:List su}{H:DH}{k:Lt}{up:Option fx}{upv:Option Md}{rdv:Option Nat}(e:mV d t L ds H k up=some out)(h:sv g up upv rdv) :
 ∃ x up' v upv',k (mZ t d x) L ds up' H=some out/\RS g LO x v/\sv g up' upv' rdv/\∀(tv:T V) (dsv:List ft) (s:S) (kv:RK),recovered d tv dsv s kv upv=kv (putD tv d v) dsv upv' s:=by
 unfold mV at e;split at e
 .cases e
 .rename_i v older;have l:=h.nr (λo q=>by cases q);clear h;obtain⟨rfl,h⟩:=l;obtain⟨j,rfl,u,rfl,y,c2,rfl,a,i,p⟩:=h;obtain⟨yv,yr⟩:=y;simp only at a i;subst i;rw[di]at e;exact⟨.g v,_,yv,some (.panicking (⟨yv,true⟩::c2)),e,a,sv.mk (λo q=>by cases q) ⟨_,rfl,_,rfl,⟨yv,true⟩,c2,rfl,a,rfl,p⟩,λtv dsv s kv=>by simp only[recovered,cO]⟩
 .rename_i m n hne;have r:Ri (some m):=λo q=>n o (anJ q);have l:=h.nr r;clear h;obtain⟨rfl,h⟩:=l;obtain⟨j,rfl,a⟩:=h;rw[di]at e;refine⟨.g .nilIface,some m,.nilIface,some j,e,by show RD _ _ _;simp only[RD],sv.mk r ⟨j,rfl,a⟩,λtv dsv s kv=>?_⟩;have:∀ v older,j≠.panicking (⟨v,false⟩::older):=λv older q=>by
   subst q;cases m with
   |run=>cases a
   |returning=>cases a
   |round o=>exact a
   |panicking c =>
    obtain⟨u,w,i⟩:=a;cases w;cases c with
    |nil=>cases i
    |cons x xs =>obtain⟨y,c2,z,p,k4,k5⟩:=i;cases z;obtain⟨xv,xr⟩:=x;simp_all
  unfold recovered;split
  .rename_i q;exact(this _ _ (anJ q)).elim
  .rename_i q;cases q;simp only[cO]
  .rename_i q;cases q
 .cases e
theorem fP{rdv:Option Nat}(i:NP E.E rec){ops:Array Oper}{k:Lt}{kp:List iX->Lt}:∀ {l:List Oper} {t:T LD} {L:LS} {ds:List su} {up:Option fx} {g:Gh} {LO:List Nat} {tv:T V} {dsv:List ft} {upv:Option Md},
 pR E an ops rec l k kp t L ds up g.H=some out->FI b P0 g t L tv LO->Lw g ds dsv->sv g up upv rdv ->
 ∃ r,rB E.E ops (cD (lim E.E)) (eK (lim E.E)) rdv l tv dsv upv g.s=some r/\RgR b P0 g rdv k kp out r
 |[],t,L,ds,up,g,LO,tv,dsv,upv,e,h,p,m=>⟨_,rfl,g,t,L,LO,ds,up,e,rfl,h,.refl b g,p,m⟩
 |o::l,t,L,ds,up,g,LO,tv,dsv,upv,e,h,p,m=>by
  simp only[pR]at e;simp only[rB];rcases Ak e h.slots with⟨W,t1,e,hr⟩|⟨W,t1,e,hr⟩
  .have h:=h.rf hr;rw[W];obtain⟨O,x,nx,e,h1,G,I⟩:=Mj o.op h e;have h:=h.rf G;simp only[rF,ep,h1];cases x with
   |val d L' H' =>
    obtain⟨v,s',rfl,g',LO',n,Q,A,J,k5,k6⟩:=I;have A:=FI.rf A (t':=O) G;simp only[Mn,<- n]at e;obtain⟨x',g2,F,j2,R,q,U,_⟩:=gj A e k6;rw[di]at F;obtain⟨r,N,z⟩:=fP i F (R.put o.dst U) ((p.mono J.le).mono q.le) ((m.mono J.le).mono q.le);refine⟨r,?_,z.trans (J.trans q)⟩
    grind [ez,cO]
   |skip L' H' =>
    obtain⟨s',rfl,g',LO',n,Q,A,J,k5,_⟩:=I;have A:=FI.rf A (t':=O) G;simp only[Mn,<- n,di]at e;obtain⟨r,N,z⟩:=fP i e (A.put o.dst RS.u) (p.mono J.le) (m.mono J.le);refine⟨r,?_,z.trans J⟩
    grind [ez,cO]
   |enter f args L' H' =>
    obtain⟨vs,rfl,rfl,rfl,n,_⟩:=I;simp only[Mn]at e;obtain⟨oc,K,e⟩:=mG e;obtain⟨vout,X,Y⟩:=i.c f args none g.H oc K g rfl h.ok vs none n rfl;obtain⟨g',n1,n2,n3,n4,y,_⟩:=mF h Y;obtain⟨ve,vu,vs'⟩:=vout;simp only at n2 y;rcases e with⟨d,j,e⟩|⟨c,j,e⟩
    .rw[j]at y;obtain⟨v,rfl,M⟩:=y;rw[<- n1]at e;obtain⟨x',g2,F,j2,R,q,U,_⟩:=gj (x:=.g d) n3 e M;rw[di]at F;obtain⟨r,N,z⟩:=fP i F (R.put o.dst U) ((p.mono n4.le).mono q.le) ((m.mono n4.le).mono q.le);refine⟨r,?_,z.trans (n4.trans q)⟩
     grind [ez,cD,gg,cO]
    .rw[j]at y;obtain⟨Z,rfl,M⟩:=y;rw[<- n1]at e;refine⟨.panicked Z tv dsv upv vs',by simp only[ez,cD,X,gg],?_⟩;exact⟨g',O,L',LO,ds,up,c,e,n2,n3,n4,p.mono n4.le,m.mono n4.le,M⟩
   |round or args L' H' =>
    obtain⟨vs,lb,lv,rfl,rfl,rfl,n,ko⟩:=I;simp only[Mn]at e;obtain⟨oc,K,e⟩:=mG e;obtain⟨vout,X,Y⟩:=i.r or args g.H oc K g rfl h.ok vs lb lv n ko;obtain⟨g',n1,n2,n3,n4,y,_⟩:=mF h Y;obtain⟨ve,vu,vs'⟩:=vout;simp only at n2 y;rcases e with⟨d,j,e⟩|⟨c,j,e⟩
    .rw[j]at y;obtain⟨v,rfl,M⟩:=y;rw[<- n1]at e;obtain⟨x',g2,F,j2,R,q,U,_⟩:=gj (x:=.g d) n3 e M;rw[di]at F;obtain⟨r,N,z⟩:=fP i F (R.put o.dst U) ((p.mono n4.le).mono q.le) ((m.mono n4.le).mono q.le);refine⟨r,?_,z.trans (n4.trans q)⟩
     grind [ez,eK,gg,cO]
    .rw[j]at y;obtain⟨Z,rfl,M⟩:=y;rw[<- n1]at e;refine⟨.panicked Z tv dsv upv vs',by simp only[ez,eK,X,gg],?_⟩;exact⟨g',O,L',LO,ds,up,c,e,n2,n3,n4,p.mono n4.le,m.mono n4.le,M⟩
   |defer df L' H' =>
    obtain⟨c,a,rfl,rfl,rfl,n,Q,_⟩:=I;simp only[Mn,di]at e;obtain⟨hn,e⟩:=nc e;obtain⟨rfl,_⟩:=m.nr hn;obtain⟨r,N,z⟩:=fP i e (h.put o.dst RS.u) (dsv:=.call (.func df.fn) c a::dsv) ⟨c,a,dsv,rfl,n,Q,p⟩ m
    grind [ez,cO]
   |recover L' H' =>
    obtain⟨rfl,rfl,rfl⟩:=I;simp only[Mn]at e;obtain⟨x,up',v,upv',e,n,Q,A⟩:=Eb (LO:=LO) e m;obtain⟨r,N,z⟩:=fP i e (h.put o.dst n) p Q
    grind [ez]
   |panic v L' H' =>obtain⟨w,rfl,rfl,rfl,n⟩:=I;simp only[Mn]at e;exact⟨_,rfl,g,O,L',LO,ds,up,_,e,rfl,h,.refl b g,p,m,⟨w,false⟩,[],rfl,n,rfl,rfl⟩
  .have h:=h.rf hr;rw[W];rw[di]at e;obtain⟨r,N,z⟩:=fP i e (h.put o.dst RS.u) p m
   grind [rF,cO]
end
section
variable[gu]
variable{b:Nat}{P0:List Nat}{g:Gh}{LO:List Nat}{t:T LD}{L:LS}{tv:T V}{out:iY}{E:dr}{an:ga}
structure gz where
 L:LS
 g:Gh
 LO:List Nat
def NV(c:gz):Prop:=Ok c.g/\LR c.g c.L c.LO
def Ai(b:Nat)(x y:gz):Prop:=Mv b x.g y.g/\IH x.g x.L x.LO y.g y.L y.LO
theorem Ai.refl(b:Nat)(x:gz):Ai b x x:=⟨.refl b _,.refl _ _ _⟩
theorem Ai.trans{x y z:gz}(h:Ai b x y)(k:Ai b y z):Ai b x z:=⟨h.1.trans k.1,h.2.trans k.2⟩
def kR(b:Nat)(cur:gz):List gz->Prop
 |[]=>True
 |c::r=>NV c/\Ai b c cur/\kR b c r
theorem kR.step{x y:gz}(h:Ai b x y):∀ {l:List gz},kR b x l->kR b y l
 |[],_=>trivial
 |c::r,k=>⟨k.1,k.2.1.trans h,k.2.2⟩
theorem kR.at:∀ {l:List gz} {x:gz},kR b x l->∀ {p:Nat} {c:gz},l[p]? = some c->NV c/\Ai b c x
 |[],x,_,p,c,h=>by simp at h
 |d::r,x,k,0,c,h=>by simp at h;subst h;exact⟨k.1,k.2.1⟩
 |d::r,x,k,p+1,c,h=>by obtain⟨a,i⟩:=kR.at k.2.2 (p:=p) (by simpa using h);exact⟨a,i.trans k.2.1⟩
theorem kR.two:∀ {l:List gz} {x:gz},kR b x l->∀ {p q:Nat} {c d:gz},l[p]? = some c->l[q]? = some d->p<=q->Ai b d c
 |[],x,_,p,q,c,d,h,_,_=>by simp at h
 |e::r,x,k,0,0,c,d,h,a,_=>by
  have h:e=c:=by simpa using h
  have a:e=d:=by simpa using a
  subst h;subst a;exact .refl b _
 |e::r,x,k,0,q+1,c,d,h,a,_=>by
  have h:e=c:=by simpa using h
  subst h;exact(kR.at k.2.2 (p:=q) (by simpa using a)).2
 |e::r,x,k,p+1,0,c,d,h,a,i=>by omega
 |e::r,x,k,p+1,q+1,c,d,h,a,i=>kR.two k.2.2 (p:=p) (q:=q) (by simpa using h) (by simpa using a) (by omega)
theorem RS.nxt{x y:gz}(h:Ai b x y){d:LD}{v:V}(r:RS x.g x.LO d v):RS y.g y.LO d v:=(r.mono h.1.le).ext h.2.pre
def SlQ(cs:List gz)(bs:T Nat)(g:Gh)(LO:List Nat)(i:Nat)(x:LD)(v:V):Prop:=RS g LO x v/\∀(p:Nat) c,cs[p]? = some c->vU bs i+p<cs.length->RS c.g c.LO x v
def uz(cs:List gz)(bs:T Nat)(t:T LD)(tv:T V)(g:Gh)(LO:List Nat):Prop:=∀ i x,t.get (fQ i)=some x->∃ v,tv.get (fQ i)=some v/\SlQ cs bs g LO i x v
theorem uz.rf{cs:List gz}{bs:T Nat}{t':T LD}(r:Rf t t' tv)(h:uz cs bs t tv g LO):uz cs bs t' tv g LO:=r (SlQ cs bs g LO) (λi q=>⟨by show RD _ _ _;simp only[RD],λp c _ _=>by show RD _ _ _;simp only[RD]⟩) h
theorem uz.nxt{cs:List gz}{bs:T Nat}{x y:gz}(h:Ai b x y)(k:uz cs bs t tv x.g x.LO):uz cs bs t tv y.g y.LO:=λi z a=>by obtain⟨v,c,d,j⟩:=k i z a;exact⟨v,c,d.nxt h,j⟩
def Fc(bs:T Nat)(d:Option Tmp)(n:Nat):T Nat:=match d with
 |some i=>T.set (some n) (fQ i) bs
 |none=>bs
theorem gH{β:Type}(bs:T Nat)(d:Option Tmp)(n:Nat)(κ:T Nat->β):UJ bs d n κ=κ (Fc bs d n):=by
 cases d with
 |none=>rfl
 |some i=>exact T.setK_eq _ _ _ _
theorem uz.put{cs:List gz}{bs:T Nat}(h:uz cs bs t tv g LO)(d:Option Tmp){x:LD}{v:V}{n:Nat}(r:RS g LO x v)(hb:∀(p:Nat) c,cs[p]? = some c->n+p<cs.length->RS c.g c.LO x v):uz cs (Fc bs d n) (mZ t d x) (putD tv d v) g LO:=by
 cases d with
 |none=>exact h
 |some i =>
  intro j y hy;simp only[mZ]at hy;rw[T.get_setN]at hy;rw[JY];split at hy
  .rename_i e;cases hy;subst e;rw[akJ rfl];refine⟨v,rfl,r,λp c hc hp=>hb p c hc ?_⟩
   grind [vU,Fc,T.get_set_same]
  .rename_i e;rw[ajD e];obtain⟨w,a,k,l⟩:=h j y hy;refine⟨w,a,k,λp c hc hp=>l p c hc ?_⟩
   grind [vU,Fc,T.get_setN]
theorem uz.push{cs:List gz}{bs:T Nat}{c:gz}(h:uz cs bs t tv c.g c.LO):uz (c::cs) bs t tv c.g c.LO:=λi x a=>by
 obtain⟨v,j,k,h3⟩:=h i x a;refine⟨v,j,k,λp d hd hp=>?_⟩
 grind
theorem Dt{bs:T Nat}:∀ {l:List Tmp} {i:Tmp},i∈l->vU bs i<=gJ bs l
 |j::r,i,h=>by
  simp only[gJ];rcases afS.1 h with rfl|h
  .grind
  .exact akG (Dt h) (Nat.le_max_right _ _)
theorem uz.op{cs:List gz}{bs:T Nat}(h:uz cs bs t tv g LO){o:Oper}{x:Operand}(a:x∈o.op.operands.toList){p:Nat}{c:gz}(hc:cs[p]? = some c)(hb:gJ bs (sees o)+p<cs.length):GA c.g c.LO t tv x:=by
 intro y hy;cases x with
 |tmp i =>obtain⟨v,j,h2,l⟩:=h i y hy;refine⟨v,j,l p c hc ?_⟩;have:vU bs i<=gJ bs (sees o):=Dt (by unfold sees;rw[List.mem_filterMap];exact⟨_,a,rfl⟩);omega
 |const k =>
  simp only[iS]at hy;split at hy
  .rename_i v m;split at hy
   .rename_i d n;cases hy;exact⟨v,m,WP n⟩
   .cases hy
  .cases hy
 |global _=>cases hy
 |func f=>cases hy;exact⟨_,rfl,by show RD _ _ _;simp only[RD];exact⟨[],[],rfl,by simp only[RL],by simp only[RL]⟩⟩
theorem Hu:∀ {L M:LS} {k st:Nat} {cs:List D},(fW.meet L M)[k]? = some (st,cs)->∃ cs0,L[k]? = some (st,cs0)/\(cs=[]\/(cs=cs0/\∃ c2,M[k]? = some (st,c2)))
 |[],M,k,st,cs,h=>by simp[fW.meet]at h
 |(a,c)::l,[],0,st,cs,h=>by
  simp[fW.meet]at h
  grind
 |(a,c)::l,[],k+1,st,cs,h=>by
  simp only[fW.meet,anU]at h;obtain⟨cs0,h1,h2⟩:=Hu h
  grind
 |(a,c)::l,(b,c1)::m,0,st,cs,h=>by
  simp only[fW.meet]at h;cases hb:Nat.beq a b with
  |true =>simp_all
  |false =>grind
 |(a,c)::l,(b,c1)::m,k+1,st,cs,h=>by
  have h':(fW.meet l m)[k]? = some (st,cs):=by
   simp only[fW.meet]at h
   grind
  simp_all[Hu]
theorem vQ:∀ {r:List (LS×DH)} {L:LS} {k st:Nat} {cs:List D},(fW L r)[k]? = some (st,cs)->∃ cs0,L[k]? = some (st,cs0)/\(cs=[]\/(cs=cs0/\∀ M∈r,∃ c2,M.1[k]? = some (st,c2)))
 |[],L,k,st,cs,h=>⟨cs,h,.inr ⟨rfl,λM a=>by cases a⟩⟩
 |(M,H)::r,L,k,st,cs,h=>by
  simp only[fW]at h;obtain⟨cs1,c,h2⟩:=vQ h;obtain⟨cs0,h3,h4⟩:=Hu c
  grind
theorem Ik{r:List DH}:∀ {H:DH} {i o:Nat},(Sx r i H)[o]? =(H[o]?).map (JN r (i+o))
 |[],i,o=>by simp[Sx]
 |b::t,i,0=>by simp[Sx]
 |b::t,i,o+1=>by simp only[Sx,anU];rw[Ik,show i+1+o=i+(o+1)by omega]
theorem NA{H:DH}{r:List DH}{o:Nat}{x:DB}(h:(dG H r)[o]? = some x):x=.dead\/∃ st cs,x=.cells st cs/\H[o]? = some (.cells st cs)/\∀ a∈r,a[o]? = some (.cells st cs):=by
 rw[dG,Ik,afY]at h;cases hb:H[o]? with
 |none=>rw[hb]at h;cases h
 |some b =>
  rw[hb]at h;have h:JN r o b=x:=by simpa using h
  subst h;cases b with
  |cells st cs =>grind [JN]
  |_=>exact .inl rfl
mutual
theorem pD:∀ v:V,bw.sameV v v=true
 |.bool b=>by simp[bw.sameV]
 |.int k n=>by simp[bw.sameV]
 |.str l=>by simp[bw.sameV]
 |.ptr a=>by simp[bw.sameV]
 |.nilptr=>rfl
 |.slice a z n c sz=>by simp[bw.sameV]
 |.nilslice=>rfl
 |.map r=>by simp[bw.sameV]
 |.nilmap=>rfl
 |.func f a b=>by simp[bw.sameV,iy a,iy b]
 |.nilFunc=>rfl
 |.iface t v=>by simp[bw.sameV,pD v]
 |.nilIface=>rfl
 |.agg l=>by simp[bw.sameV,iy l]
 |.tuple l=>by simp[bw.sameV,iy l]
 |.atom i=>by simp[bw.sameV]
theorem iy:∀ l:List V,bw l l=true
 |[]=>rfl
 |v::r=>by simp[bw,pD v,iy r]
end
theorem oN{E:dX}{o:Oper}{v:V}:∀ {l:List S},l≠[]->(∀ s∈l,dF o.op E tv s=some (.val v s))->ii E tv o l=some v
 |[],h,_=>(h rfl).elim
 |[s],_,h=>by simp only[ii,ep,h s adN]
 |s::s2::r,_,h=>by
  have h2:=oN (l:=s2::r) (by simp) λx a=>h x (acl _ a)
  grind [ii,ep,bw,pD,Bool.and_self]
theorem RS.same_at{cs:List gz}{cur:gz}(a:kR b cur cs){x:LD}{v:V}{p:Nat}{c:gz}(hc:cs[p]? = some c)(r:RS c.g c.LO x v):RS cur.g cur.LO x v/\∀(q:Nat) d,cs[q]? = some d->q<=p->RS d.g d.LO x v :=
 ⟨r.nxt (a.at hc).2,λq d h i=>r.nxt (a.two h hc i)⟩
theorem pZ{α:Type}{l:List α}{i:Nat}{x:α}(h:l[i]? = some x):i<l.length:=by grind
theorem Ng{cs:List gz}{bs:T Nat}{o:Oper}{κ:T LD->DU->av}(hk:aT E.E.P o.op=0)(h:Ok g)(r:kR b ⟨L,g,LO⟩ cs)(u:uz cs bs t tv g LO)(e:mg o.op E false t [] [] κ=some out) :
 ∃ t' d v,κ t' (.val d [] [])=some out/\dF o.op E.E tv g.s=some (.val v g.s)/\Rf t t' tv/\RS g LO d v/\∀(p:Nat) c,cs[p]? = some c->gJ bs (sees o)+p<cs.length->RS c.g c.LO d v:=by
 by_cases hb:gJ bs (sees o)<cs.length
 .have hp:cs.length - 1 - gJ bs (sees o)<cs.length:=by omega
  have hc:=abI hp;generalize cs[cs.length - 1 - gJ bs (sees o)]=c at hc;obtain⟨⟨w,_⟩,z⟩:=r.at hc;have ho:∀ x∈o.op.operands.toList,GA c.g c.LO t tv x:=λx a=>u.op a hc (by omega);obtain⟨t',d,v,j,l,m,n⟩:=pV (L:=[]) o.op (by omega) (.inr rfl) ho w (λk x f a=>by simp at a) (hC.nil _) e;have hst:=Fh (L:=[]) (g':=g) o.op (by omega) ho w (λk x f a=>by simp at a) (hC.nil _) yF.nil e z.1.le (λk y f a=>by simp at a) (λo st cs f v a=>by simp at a) v l;obtain⟨A,F⟩:=m.same_at r hc;exact⟨t',d,v,j,hst,n,A,λp G q hp'=>F p G q (by omega)⟩
 .have ho:∀ x∈o.op.operands.toList,GA g LO t tv x:=λx _=>EC.op (λi y hy=>by obtain⟨v,H,I,_⟩:=u i y hy;exact⟨v,H,I⟩) x;obtain⟨t',d,v,j,l,m,n⟩:=pV (L:=[]) o.op (by omega) (.inr rfl) ho h (λk x f a=>by simp at a) (hC.nil _) e;exact⟨t',d,v,j,l,n,m,λp c hc hp=>by omega⟩
theorem VJ{P:Program}{ty:TypeId}{x:LD}{H:DH}{r:List DH}{κ:D->av}(h:rN P ty x L H r κ=some out):(∃ o n i c,x=.g (.bptr o n i c)/\Hd P ty H r o n i c κ=some out)\/mr P ty x L (dG H r) κ=some out:=by
 unfold rN at h;split at h
 .unfold RV at h;split at h
  .grind
  .exact .inr h
 grind
theorem UC{op:Op}{E:dr}{H:DH}{r:List DH}{κ:T LD->LD->av}(h:UD op (λty x=>lD (iS t x) λx=>rN E.E.P ty x L H r λd=>κ t (.g d)) (mg op E false t L (dG H r) λt x=>sF (λt x _ _=>κ t x) t x)=some out) :
 (∃ ty x o n i c,op=.load ty x/\iS t x=some (.g (.bptr o n i c))/\Hd E.E.P ty H r o n i c (λd=>κ t (.g d))=some out)\/mg op E false t L (dG H r) (λt x=>sF (λt x _ _=>κ t x) t x)=some out:=by
 unfold UD at h;split at h
 .rename_i ty x;dsimp only at h;cases a:iS t x with
  |none=>rw[a]at h;cases h
  |some y =>
   rw[a]at h;simp only[lD]at h;rcases VJ h with⟨o,n,i,c,rfl,h⟩|h
   .exact .inl ⟨ty,x,o,n,i,c,rfl,a,h⟩
   .refine .inr ?_;simp only[mg,a,lD,sF];exact h
 .exact .inr h
theorem aiD{g g':Gh}{d:D}{v v':V}(hl:qt g g')(a:Tb g.H d=true)(c:Tb g'.H d=true)(h:RD g d v)(i:RD g' d v'):v=v':=by
 cases d with
 |buf sz o n =>
  simp only[Tb]at a c;simp only[RD]at h i;obtain⟨s1,c1,l1,j,a2,a3⟩:=h;obtain⟨s2,c2,l2,k,b2,b3⟩:=i;obtain⟨s3,c3,l3,l,d2,d3,d4⟩:=hl.buf o _ _ _ _ j;rw[j]at a;rw[k]at c;rw[k]at l;cases l;simp only[abk]at a c
  grind [Nat.eq_of_beq_eq_true,Nat.blt,Nat.le_of_ble_eq_true]
 |_=>simp[Tb]at a
theorem UB{P:Program}{ty:TypeId}{H:DH}{r:List DH}{o n i c:Nat}{κ:D->av}(h:Hd P ty H r o n i c κ=some out):∃ d,κ d=some out/\Tb H d=true/\(∀ a∈r,Tb a d=true)/\(∀ κ':D->av,bJ P ty (.bptr o n i c) H κ'=κ' d)/\∀ a∈r,∀ κ':D->av,bJ P ty (.bptr o n i c) a κ'=κ' d:=by
 unfold Hd cH at h;split at h
 .rename_i sz st cap l hx;cases j:Nat.beq n l.length with
  |false=>rw[j]at h;cases h
  |true =>
   rw[j]at h;simp only[ge]at h;unfold aX at h;split at h
   .rename_i cs hcs;dsimp only at h;obtain⟨d,hd⟩:=fF _ _ h
    grind [List.mem_cons_of_mem,bJ,cH,aX]
   .cases h
 .cases h
def hD(c:gz):LS×DH:=(c.L,c.g.H)
theorem Nf{cs:List gz}{bs:T Nat}{o:Oper}{w:Nat}{κ:T LD->LD->av}(hk:aT E.E.P o.op<=1)(I:∀ ty x lo hi mx,o.op≠.slice ty x lo hi mx)(z:kR b ⟨L,g,LO⟩ cs)(hs:uz cs bs t tv g LO)(hw:w<=cs.length)(hb:gJ bs (sees o)<=cs.length - w)(e:EZ E o ((cs.map hD).take w) t κ=some out) :
 ∃ t' d v,κ t' d=some out/\ii E.E tv o ((cs.map λc=>c.g.s).take w)=some v/\Rf t t' tv/\RS g LO d v/\∀(p:Nat) c,cs[p]? = some c->cs.length - w+p<cs.length->RS c.g c.LO d v:=by
 cases cs with
 |nil=>cases w<;>simp[EZ]at e
 |cons a rest =>
  cases w with
  |zero=>simp[EZ]at e
  |succ w =>
   rw[ads,aol]at e;simp only[EZ]at e;cases w with
   |zero =>rw[List.take_zero]at e;simp only at e;have hc:(a::rest)[0]? = some a:=rfl;obtain⟨⟨N,K⟩,h3⟩:=z.at hc;have ho:∀ x∈o.op.operands.toList,GA a.g a.LO t tv x:=λx l=>hs.op l hc (by simp only[aga]at hb ⊢;omega);obtain⟨t',d,v,A,r,M,k4⟩:=pV o.op hk (.inl I) ho N K.2 (hC.refl _) e;obtain⟨O,Q⟩:=M.same_at z hc;refine⟨t',d,v,A,?_,k4,O,λp R u U=>Q p R u (by omega)⟩;simp only[ads,aol,List.take_zero,ii,ep,r]
   |succ w =>
    have W:w+1<(a::rest).length:=by simp only[aga]at hw ⊢;omega
    cases rest with
    |nil=>simp at W
    |cons c1 rest =>
     rw[ads,aol]at e;simp only[ads,aoJ]at e;have hc:=abI W;generalize(a::c1::rest)[w+1]=c at hc;have hc0:(a::c1::rest)[0]? = some a:=rfl;obtain⟨⟨N,K⟩,h3⟩:=z.at hc;have ho:∀ x∈o.op.operands.toList,GA c.g c.LO t tv x:=λx l=>hs.op l hc (by simp only[aga]at hb hw ⊢;omega);have inw:∀(q:Nat) d,(a::c1::rest)[q]? = some d->1<=q->q<=w+1->hD d∈hD c1::(rest.map hD).take w:=λq d h N K=>by
      cases q with
      |zero=>omega
      |succ q =>
       have h:(c1::rest)[q]? = some d:=by simpa using h
       have:((c1::rest).map hD |>.take (w+1))[q]? = some (hD d):=by rw[apc,akJ (by omega),aiE,h];rfl
       grind
     have key:∀ {k st:Nat} {x:List D},(fW (hD a).1 (hD c1::(rest.map hD).take w))[k]? = some (st,x)->x≠[]->∀(q:Nat) d,(a::c1::rest)[q]? = some d->q<=w+1->∀ f,d.LO[k]? = some f->∃ c2,d.L[k]? = some (st,c2):=λ{k st x} l m q d h i f n=>by
      obtain⟨x0,A,r⟩:=vQ l;rcases r with r|⟨rfl,r⟩
      .grind
      .cases q with
       |zero =>
        have:a=d:=by simpa using h
        subst this;exact⟨x,A⟩
       |succ q=>exact r _ (inw (q+1) d h (by omega) i)
     have X:LRw c.g (fW (hD a).1 (hD c1::(rest.map hD).take w)) c.LO:=λk x f l n=>by
      obtain⟨st,x⟩:=x;by_cases m:x=[]
      .subst m;have hkl:k<c.L.length:=by rw[K.1];exact pZ n
       exact⟨(K.2 k _ f (abI hkl) n).1,.inl rfl⟩
      .obtain⟨c2,A⟩:=key l m (w+1) c hc (abH _) f n;obtain⟨x0,r,M⟩:=vQ l;rcases M with M|⟨rfl,_⟩
       .grind
       .obtain⟨st',cs',F,j2,Y⟩:=(z.two hc0 hc (anI _)).2.pvn k st c2 f A n;have:(hD a).1=a.L:=rfl;rw[this]at r;rw[r]at F;cases F;obtain⟨rfl,_⟩:=Y rfl;exact K.2 k _ f A n
     have heap:∀ {o:Nat} {x:DB},(dG (hD a).2 ((hD c1::(rest.map hD).take w).map (·.2)))[o]? = some x->x=.dead\/∃ st cs,x=.cells st cs/\∀(q:Nat) d,(a::c1::rest)[q]? = some d->q<=w+1->d.g.H[o]? = some (.cells st cs):=λ{o x} l=>by
      rcases NA l with q|⟨st,cs,rfl,q1,q2⟩
      .exact .inl q
      grind [hD]
     have G:hC (dG (hD a).2 ((hD c1::(rest.map hD).take w).map (·.2))) c.g:=λo x l=>by grind
     have hOnly:yF (dG (hD a).2 ((hD c1::(rest.map hD).take w).map (·.2))):=λo x l=>by grind
     have e0:UD o.op (λty x=>lD (iS t x) λx=>rN E.E.P ty x (fW (hD a).1 (hD c1::(rest.map hD).take w)) (hD a).2 ((hD c1::(rest.map hD).take w).map (·.2)) λd=>κ t (.g d)) (mg o.op E false t (fW (hD a).1 (hD c1::(rest.map hD).take w)) (dG (hD a).2 ((hD c1::(rest.map hD).take w).map (·.2))) (λt x=>sF (λt x _ _=>κ t x) t x))=some out:=by simp_all
     rcases UC e0 with⟨ty,x,bo,bn,bi,bc,hop,hev,eb⟩|e'
     .obtain⟨d,g1,g2,g3,g4,g5⟩:=UB eb;have all:∀(q:Nat) j,(a::c1::rest)[q]? = some j->q<=w+1->Tb j.g.H d=true/\∃ v,dF o.op E.E tv j.g.s=some (.val v j.g.s)/\RD j.g d v:=λq j h i=>by
       have n:Tb j.g.H d=true/\∀ κ':D->av,bJ E.E.P ty (.bptr bo bn bi bc) j.g.H κ'=κ' d:=by grind [hD]
       refine⟨n.1,?_⟩;obtain⟨⟨m1,m2⟩,_⟩:=z.at h;have e2:mg o.op E false t j.L j.g.H (λ_ y=>open Classical in if y=.val (.g d) j.L j.g.H then some out else none)=some out:=by grind [mg,lD,mr]
       obtain⟨t',dd,v,n1,n2,n3,_⟩:=pV o.op hk (.inl I) (λx l=>hs.op l h (by simp only[aga]at hb hw ⊢;omega)) m1 m2.2 (hC.refl _) e2;split at n1
       .rename_i q1;obtain⟨rfl,_⟩:=DU.val.inj q1;exact⟨v,n2,n3⟩
       .cases n1
      obtain⟨f1,v,f2,f3⟩:=all (w+1) c hc (abH _);obtain⟨O,Q⟩:=RS.same_at (x:=.g d) z hc f3;refine⟨t,.g d,v,g1,?_,.refl t tv,O,λp R u U=>Q p R u (by omega)⟩;refine oN (by simp) λs J=>?_;obtain⟨q,i⟩:=apk J;rw[apc]at i;split at i
      .rename_i hql;rw[aiE]at i;cases h:(a::c1::rest)[q]? with
       |none=>rw[h]at i;cases i
       |some j =>rw[h]at i;cases i;obtain⟨f4,v',f5,f6⟩:=all q j h (by omega);rw[aiD (z.two h hc (by omega)).1.le f1 f4 f3 f6];exact f5
      .cases i
     obtain⟨t',d,v,A,r,M,k4⟩:=pV o.op hk (.inl I) ho N X G e';obtain⟨O,Q⟩:=M.same_at z hc;refine⟨t',d,v,A,?_,k4,O,λp R u U=>Q p R u (by omega)⟩;refine oN (by simp) λs J=>?_;obtain⟨q,i⟩:=apk J;rw[apc]at i;split at i
     .rename_i hql;rw[aiE]at i;cases h:(a::c1::rest)[q]? with
      |none=>rw[h]at i;cases i
      |some j =>
       rw[h]at i;cases i;have hn:=z.two h hc (by omega);refine Fh (g':=j.g) o.op hk ho N X G hOnly e' hn.1.le (λk y f hy n m=>?_) (λo' st cs f v l hO=>?_) v r
       .obtain⟨st,y⟩:=y;obtain⟨c2,m1⟩:=key hy m (w+1) c hc (abH _) f n;obtain⟨qq,Z⟩:=hn.2.pre;obtain⟨c3,m2⟩:=key hy m q j h (by omega) f (by rw[<- Z];exact fT _ n);obtain⟨st',cs',F,j2,Y⟩:=hn.2.pvn k st c2 f m1 n;rw[m2]at F;cases F;exact(Y rfl).2
       .rcases heap l with q'|⟨st',cs',q1,q2⟩
        .cases q'
        .cases q1;obtain⟨s2,c2,F,j2,Y⟩:=hn.1.stm o' st cs f v (q2 (w+1) c hc (abH _)) hO;rw[q2 q j h (by omega)]at F;cases F;exact(Y rfl).2
     .cases i
end
section
variable[gu]
variable{b:Nat}{P0:List Nat}{g:Gh}{LO:List Nat}{t:T LD}{L:LS}{tv:T V}{out:iY}{E:dr}{an:ga}{rec:qF}
theorem Tk{κ:T LD->LD->LS->DH->av}{x:DU}(h:sF κ t x=some out):∃ d L' H',x=.val d L' H'/\κ t d L' H'=some out:=by
 unfold sF at h
 grind
theorem FI.cfg(h:FI b P0 g t L tv LO):NV ⟨L,g,LO⟩:=⟨h.ok,h.own⟩
theorem FI.sl(h:FI b P0 g t L tv LO){cs:List gz}{bs:T Nat}{t':T LD}(a:uz cs bs t' tv g LO):FI b P0 g t' L tv LO:=⟨h.ok,λi x c=>by obtain⟨v,d,j,_⟩:=a i x c;exact⟨v,d,j⟩,h.own,h.pv,h.low,h.nd,h.bl⟩
theorem uz.of(h:EC g LO t tv)(bs:T Nat):uz [⟨L,g,LO⟩] bs t tv g LO:=λi x a=>by
 obtain⟨v,d,j⟩:=h i x a;refine⟨v,d,j,λp c hc _=>?_⟩
 grind
theorem rA(K:NP E.E rec){ops:Array Oper}{k:T LD->LS->DH->av}{dsv:List ft}{upv:Option Md}:∀ {sc:List (Option Nat×Nat)} {cs:List gz} {n:Nat} {bs:T Nat} {t:T LD} {L:LS} {g:Gh} {LO:List Nat} {tv:T V},
 ib E an ops rec k sc (cs.map hD) n bs t L g.H=some out->n=cs.length->FI b P0 g t L tv LO->kR b ⟨L,g,LO⟩ cs->uz cs bs t tv g LO ->
 ∃ tv' s',jw E.E ops (cD (lim E.E)) dsv upv sc (cs.map λc=>c.g.s) tv g.s=some (.on tv' dsv upv s')/\∃ g' t' L' LO',k t' L' g'.H=some out/\g'.s=s'/\FI b P0 g' t' L' tv' LO'/\Mv b g g'
 |[],cs,n,bs,t,L,g,LO,tv,e,hn,h,hh,hs=>⟨tv,g.s,rfl,g,t,L,LO,e,rfl,h,.refl b g⟩
 |(c,i)::sc,cs,n,bs,t,L,g,LO,tv,e,hn,h,hh,hs=>by
  simp only[ib]at e;simp only[jw];split at e
  .cases e
  .rename_i o ho;try simp only[ho]
   have on:∀ {w:T LD} {x:LD} {v:V} {m:Nat} {r:LS} {j:Gh} {LO1:List Nat},FI b P0 j w r tv LO1->Ai b ⟨L,g,LO⟩ ⟨r,j,LO1⟩->uz cs bs w tv g LO->RS j LO1 x v->(∀(p:Nat) c,cs[p]? = some c->m+p<cs.length->RS c.g c.LO x v) ->
    ib E an ops rec k sc (cs.map hD) n (Fc bs o.dst m) (mZ w o.dst x) r j.H=some out ->
    ∃ tv' s',jw E.E ops (cD (lim E.E)) dsv upv sc (cs.map λc=>c.g.s) (putD tv o.dst v) j.s=some (.on tv' dsv upv s')/\∃ g' t' L' LO',k t' L' g'.H=some out/\g'.s=s'/\FI b P0 g' t' L' tv' LO'/\Mv b g g':=λ{w x v m r j LO1} z A a hr hm e1=>by
    have l:uz cs bs w tv j LO1:=uz.nxt (x:=⟨L,g,LO⟩) (y:=⟨r,j,LO1⟩) A a;obtain⟨tv',s',U,g',t',L',LO',F,J,k4,k5⟩:=rA K e1 hn (z.put o.dst hr) (hh.step A) (l.put o.dst hr hm);exact⟨tv',s',U,g',t',L',LO',F,J,k4,A.1.trans k5⟩
   have on2:∀ {w:T LD} {x:LD} {v:V} {r:LS} {j:Gh} {LO1:List Nat} {m:Nat},FI b P0 j w r tv LO1->Ai b ⟨L,g,LO⟩ ⟨r,j,LO1⟩->uz cs bs w tv g LO->RS j LO1 x v->(∀(p:Nat) c,(⟨r,j,LO1⟩::cs)[p]? = some c->m+p<cs.length+1->RS c.g c.LO x v) ->
    ib E an ops rec k sc ((r,j.H)::cs.map hD) (n+1) (Fc bs o.dst m) (mZ w o.dst x) r j.H=some out ->
    ∃ tv' s',jw E.E ops (cD (lim E.E)) dsv upv sc (j.s::cs.map λc=>c.g.s) (putD tv o.dst v) j.s=some (.on tv' dsv upv s')/\∃ g' t' L' LO',k t' L' g'.H=some out/\g'.s=s'/\FI b P0 g' t' L' tv' LO'/\Mv b g g':=λ{w x v r j LO1 m} z A a hr hm e1=>by
    have l:uz cs bs w tv j LO1:=uz.nxt (x:=⟨L,g,LO⟩) (y:=⟨r,j,LO1⟩) A a;have hs3:uz (⟨r,j,LO1⟩::cs) bs w tv j LO1:=uz.push (c:=⟨r,j,LO1⟩) l;obtain⟨tv',s',U,g',t',L',LO',F,J,k4,k5⟩:=rA K (cs:=⟨r,j,LO1⟩::cs) e1 (by simp[hn]) (z.put o.dst hr) ⟨z.cfg,.refl b _,hh.step A⟩ (hs3.put o.dst hr hm);exact⟨tv',s',U,g',t',L',LO',F,J,k4,A.1.trans k5⟩
   cases c with
   |some c =>
    simp only at e;rcases Ak e h.slots with⟨X,w,e,hr⟩|⟨X,w,e,hr⟩
    .have a:=hs.rf hr;have z:=h.sl a;rw[X];simp only[kE];cases hk:aT E.E.P o.op with
     |zero =>
      rw[hk]at e;simp only[rX]at e;obtain⟨t2,d,v,e,U,F,J,k4⟩:=Ng hk z.ok hh a e;have l:=a.rf F;have Z:=z.sl l;simp only[sF]at e;obtain⟨x',M,G,I,W,N,O,j6⟩:=gj Z e J;rw[di,gH]at G;have A:Ai b ⟨L,g,LO⟩ ⟨L,M,LO⟩:=⟨N,.ps I⟩
      grind [pn,ep,zj]
     |succ q =>
      cases q with
      |zero =>
       have hns:∀ ty x lo hi mx,o.op≠.slice ty x lo hi mx:=λ_ _ _ _ _ q=>by rw[q]at hk;simp[aT]at hk
       rw[hk]at e;simp only[rX]at e;obtain⟨hc,e⟩:=aU e;simp only[abk]at hc;subst hn;obtain⟨t2,d,v,e,U,F,J,k4⟩:=Nf (by omega) hns hh a (act hc.2) (act hc.1) e;have l:=a.rf F;have Z:=z.sl l;obtain⟨x',M,G,I,W,N,O,j6⟩:=gj Z e J;rw[di,gH]at G;have A:Ai b ⟨L,g,LO⟩ ⟨L,M,LO⟩:=⟨N,.ps I⟩
       grind [pn,sZ]
      |succ q =>
       cases q with
       |zero =>
        rw[hk]at e;simp only[rX]at e;obtain⟨t2,x,nx,e,U,F,J⟩:=Mj o.op z e;have l:=a.rf F;obtain⟨d,L',H',hx',e'⟩:=Tk e;subst hx';clear e;obtain⟨v,s',rfl,j,LO1,m1,R,Q,Y,m5,m6⟩:=J;have Q:=Q.rf F;rw[<- m1]at e';have e:=e';obtain⟨x',M,G,I,W,N,O,j6⟩:=gj Q e m6;rw[di,gH]at G;have A:Ai b ⟨L,g,LO⟩ ⟨L',M,LO1⟩:=Ai.trans (y:=⟨L',j,LO1⟩) ⟨Y,m5⟩ ⟨N,.ps I⟩
        grind [pn,ep,zl]
       |succ q=>rw[hk]at e;simp only[rX]at e;cases e
    .have a:=hs.rf hr;have z:=h.sl a;rw[X];simp only[kE];rw[di,gH]at e;exact on z (.refl b _) a RS.u (λp c _ _=>rfl) e
   |none =>
    simp only at e;rcases Ak e h.slots with⟨X,w,e,hr⟩|⟨X,w,e,hr⟩
    .have a:=hs.rf hr;have z:=h.sl a;rw[X];obtain⟨t2,x,nx,e,U,F,J⟩:=Mj o.op z e;have l:=a.rf F;have Z:=z.sl l;simp only[jf,ep,U];have born:∀ {r:LS} {j:Gh} {LO1:List Nat} {x:LD} {v:V},RS j LO1 x v->∀(p:Nat) c,(⟨r,j,LO1⟩::cs)[p]? = some c->n+p<cs.length+1->RS c.g c.LO x v:=λ{r j LO1 x v} hr p c hc hp=>by grind
     cases x with
     |val d L' H' =>
      obtain⟨v,s',rfl,j,LO1,m1,R,Q,Y,m5,m6⟩:=J;have Q:=Q.rf F;simp only[HX,<- m1]at e;obtain⟨x',M,G,I,W,N,O,j6⟩:=gj Q e m6;rw[di,gH]at G;have A:Ai b ⟨L,g,LO⟩ ⟨L',M,LO1⟩:=Ai.trans (y:=⟨L',j,LO1⟩) ⟨Y,m5⟩ ⟨N,.ps I⟩;have:=on2 W A l O (born O) G;rw[I,R]at this;have hnx:Nat.ble g.s.next s'.next=true:=acw (by rw[<- R];exact Y.le.next)
      grind [yx]
     |skip L' H' =>
      obtain⟨s',rfl,j,LO1,m1,R,Q,Y,m5,_⟩:=J;have Q:=Q.rf F;simp only[HX,<- m1]at e;obtain⟨x',M,G,I,W,N,O,j6⟩:=gj (x:=.u) (v:=V.undef) Q e RS.u;rw[di,gH]at G;have A:Ai b ⟨L,g,LO⟩ ⟨L',M,LO1⟩:=Ai.trans (y:=⟨L',j,LO1⟩) ⟨Y,m5⟩ ⟨N,.ps I⟩;have:=on2 W A l O (born O) G;rw[I,R]at this;have hnx:Nat.ble g.s.next s'.next=true:=acw (by rw[<- R];exact Y.le.next)
      grind [yx]
     |enter f args L' H' =>
      obtain⟨vs,rfl,rfl,rfl,q1,_⟩:=J;simp only[HX]at e;obtain⟨oc,hoc,e⟩:=mG e;obtain⟨vout,m1,R⟩:=K.c f args none g.H oc hoc g rfl Z.ok vs none q1 rfl;have hkeep:=R;obtain⟨j,n1,n2,n3,n4,n5,_,hpv⟩:=mF Z R;obtain⟨ve,vu,vs'⟩:=vout;simp only at n2 n5;rcases e with⟨d,hd1,e⟩|⟨c,hd1,e⟩
      .rw[hd1]at n5;obtain⟨v,rfl,n6⟩:=n5;rw[<- n1]at e;obtain⟨x',M,G,I,W,N,O,_⟩:=gj (x:=.g d) n3 e n6;rw[di,gH]at G;have A:Ai b ⟨L',g,LO⟩ ⟨L',M,LO⟩:=Ai.trans (y:=⟨L',j,LO⟩) ⟨n4,hpv⟩ ⟨N,.ps I⟩;have:=on2 W A l O (born O) G;rw[I,n2]at this;have hnx:Nat.ble g.s.next vs'.next=true:=acw (by rw[<- n2];exact n4.le.next)
       grind [yx,cD,HW]
      .cases e
     |defer _ _ _=>simp only[HX]at e;cases e
     |recover _ _=>simp only[HX]at e;cases e
     |panic _ _ _=>simp only[HX]at e;cases e
     |round _ _ _ _=>simp only[HX]at e;cases e
    .have a:=hs.rf hr;have z:=h.sl a;rw[X];rw[di,gH]at e;have:=on2 z (.refl b _) a (x:=.u) (v:=V.undef) RS.u (λp c _ _=>rfl) e;simp_all[acw,jf]
end
section
variable[gu]
variable{b:Nat}{P0:List Nat}{g:Gh}{LO:List Nat}{t:T LD}{L:LS}{tv:T V}{out:iY}{E:dr}{an:ga}{rec:qF}
structure XQ(E:dr):Prop where
 no:∀ f,E.vo f=false->∀ vs s,E.E.orc f vs s=none
 yes:∀ f args H d H',E.orc f args H=some (d,H')->∀ g:Gh,g.H=H->Ok g->∀ vs,RL g args vs->∃ vout,lim E.E (.call f vs none) g.s=some vout/\kb g.s.next g.Pv g ⟨.ret d,none,H'⟩ vout
def Tf(E:dr)(f:FuncId)(fn:Func)(go:uF):Prop:=∀ t L todo ds m up H out,go t L todo ds m up H=some out->∀ b P0 (g:Gh) tv LO dsv mv upv rdv,g.H=H->FI b P0 g t L tv LO->Lw g ds dsv->Te g m mv->sv g up upv rdv ->
 ∃ vout,lim E.E (.frame f fn tv todo dsv mv upv rdv) g.s=some vout/\kb b P0 g out vout
structure IE(E:dr)(R:aJ):Prop where
 call:NP E.E (AP R)
 frame:∀ f fn,Tf E f fn (Ta R f fn)
theorem kb.trans{g':Gh}{vout:fM}(m:Mv b g g')(h:kb b P0 g' out vout):kb b P0 g out vout:=by obtain⟨a,c,d,i,j,k,l⟩:=h;exact⟨a,c,d,i,j,m.trans k,l⟩
theorem Az:∀ {l:List Nat} {κ:List LD->av},AA t l κ=some out->∃ xs,κ xs=some out/\xs.length=l.length/\∀(k:Nat) i,l[k]? = some i->xs[k]? = t.get (fQ i)
 |[],κ,h=>⟨[],h,rfl,λk i hk=>by simp at hk⟩
 |j::r,κ,h=>by
  simp only[AA]at h;unfold lD at h;split at h
  .rename_i x hx;obtain⟨xs,h1,h2,h3⟩:=Az h
   grind
  .cases h
theorem Pu:∀ {l:List Nat} {xs:List LD} {u:T LD} {i:Nat} {x:LD},(mkT l xs u).get (fQ i)=some x->(∃(k:Nat),l[k]? = some i/\xs[k]? = some x)\/u.get (fQ i)=some x
 |[],xs,u,i,x,h=>by cases xs<;>exact .inr h
 |j::r,[],u,i,x,h=>.inr h
 |j::r,y::xs,u,i,x,h=>by
  simp only[mkT]at h;rcases Pu h with⟨k,a,c⟩|h
  .exact .inl ⟨k+1,by simpa using a,by simpa using c⟩
  .rw[T.setK_eq,id,T.get_setN]at h;split at h
   .rename_i e;cases h;exact .inl ⟨0,by simp[e],rfl⟩
   grind
theorem JM{ks:List Nat}:∀ {L:LS} {i k:Nat} {x:Nat×List D},(tK ks i L)[k]? = some x->∃ st cs,L[k]? = some (st,cs)/\(x.2=[]\/x.2=cs)
 |[],i,k,x,h=>by simp[tK]at h
 |(st,cs)::r,i,0,x,h=>by grind [tK]
 |(st,cs)::r,i,k+1,x,h=>by
  simp only[tK,anU]at h;obtain⟨s2,c2,h1,h2⟩:=JM h
  grind
theorem FE{ks:List Nat}:∀ {L:LS} {i:Nat},(tK ks i L).length=L.length
 |[],_=>rfl
 |(_,_)::r,i=>by simp[tK,FE (L:=r)]
def Gh.pvd(g:Gh)(P0:List Nat):Gh:=⟨g.O,g.H,P0,g.s⟩
theorem HA(a:∀ f∈P0,f∈g.Pv):qt g (g.pvd P0):=⟨abH _,λ_ _ v h=>⟨v,h⟩,λ_ _ st cap l h=>⟨st,cap,l,h,abH _,id,λ_=>⟨rfl,rfl⟩⟩,λ_ h=>⟨h.1,λhm=>h.2.1 (a _ hm),h.2.2⟩,λ_ _ _ _ h=>h,abH _⟩
theorem JC{n:Nat}:∀ {xs:List LD} {i k c:Nat},Fp n xs=true->xs[i]? = some (.lp k c)->k<n
 |x::r,0,k,c,h,hi=>by simp_all[Fp]
 |x::r,i+1,k,c,h,hi=>by simp only[Fp,abk]at h;exact JC h.2 (i:=i) (by simpa using hi)
 |[],i,k,c,h,hi=>by simp at hi
theorem Ok.pvd(h:Ok g)(a:∀ f∈P0,f∈g.Pv):Ok (g.pvd P0):=⟨h.len,h.wf,h.inj,λo f v ho=>⟨(h.lt o f v ho).1,λhm=>(h.lt o f v ho).2 (a f hm)⟩,λf c=>h.pv f (a f c),λo x d=>(h.obj o x d).keep (HA a) rfl λ_ _ _=>rfl,h.gl.to λf i hp ho=>⟨rfl,i,λhm=>hp (a f hm),ho⟩⟩
theorem Mv.pvd(a:∀ f∈P0,f∈g.Pv):Mv b g (g.pvd P0):=⟨HA a,λ_ _ _=>rfl,λ_ _ v h _=>⟨v,h⟩,λ_ s1 c1 _ _ h _=>⟨s1,c1,h,abH _,λ_=>⟨rfl,rfl⟩⟩⟩
theorem Sv{f:FuncId}{fn:Func}{ih go:uF}(N:Tf E f fn ih)(O:Tf E f fn go):Tf E f fn (KK an ih go):=by
 intro t L todo ds m up H out e b P0 g tv LO dsv mv upv rdv I j J hm K;have p:go t L todo ds m up H=some out->∃ vout,lim E.E (.frame f fn tv todo dsv mv upv rdv) g.s=some vout/\kb b P0 g out vout:=λe=>O _ _ _ _ _ _ _ _ e b P0 g tv LO dsv mv upv rdv I j J hm K;unfold KK at e;split at e
 .split at e
  .rename_i live ks _;obtain⟨xs,e,_,Q⟩:=Az e;cases n:Fp (pf ks) xs with
   |false=>rw[n]at e;cases e
   |true =>
   rw[n,ge]at e;have A:∀ f∈P0++LO.take (pf ks),f∈g.Pv:=λf a=>by
    rw[j.pv]
    grind
   have h:=HA (g:=g) A;have F:FI b P0 (g.pvd (P0++LO.take (pf ks))) (mkT live xs .leaf) (tK ks 0 (L.take (pf ks))) tv (LO.take (pf ks)):=by
    refine⟨j.ok.pvd A,λi x hi=>?_,⟨by rw[FE,ajQ,ajQ,j.own.1],λk x f' hk a=>?_⟩,rfl,λf a=>j.low f (aoV a),j.nd.sublist (List.take_sublist _ _),j.bl⟩
    .rcases Pu hi with⟨k,z,l⟩|q
     .have M:=l;rw[Q k i z]at l;obtain⟨v,r,G⟩:=j.slots i x l;refine⟨v,r,?_⟩;cases x with
      |g d=>exact RD.mono h G
      |lp k' c =>obtain⟨f,R,U⟩:=G;exact⟨f,by rw[aob (JC n M)];exact R,U⟩
      |u=>exact G
     grind [T.get_leaf]
    .obtain⟨st,cs,z,l⟩:=JM hk;have w:k<pf ks:=by grind
     rw[aob w]at z;have y:=a;rw[aob w]at y;obtain⟨M,r⟩:=j.own.2 k _ f' z y;refine⟨anS _ (akV a),?_⟩;rcases l with l|l
     .exact .inl l
     .rw[l];rcases r with r|⟨el,vs,W,X,Y⟩
      .exact .inl r
      .exact .inr ⟨el,vs,W,X.mono h,Y⟩
   obtain⟨vout,Z,k2⟩:=N _ _ _ _ _ _ _ _ e b P0 (g.pvd (P0++LO.take (pf ks))) tv _ dsv mv upv rdv I F (J.mono h) (hm.mono h) (K.mono h);exact⟨vout,Z,k2.trans (Mv.pvd A)⟩
  .exact p e
 .exact p e
theorem YY{up:Option fx}{upv:Option Md}{rdv:Option Nat}(h:sv g up upv rdv):SU g (UR up) upv:=by
 unfold sv at h;unfold UR;split
 .simp only at h;exact h.1
 grind
theorem FI.leave(h:FI b P0 g t L tv LO){e:EF}{ve:End}{up:Option fx}{upv:Option Md}(l:afV g e ve)(m:SU g up upv):kb b P0 g ⟨e,up,g.H⟩ ⟨ve,upv,g.s⟩:=by
 have i:∀ f∈P0,f∈g.Pv:=λf n=>by rw[h.pv];exact aoa _ n
 have a:=HA (g:=g) i;refine⟨g.pvd P0,rfl,rfl,rfl,h.ok.pvd i,Mv.pvd i,?_,m.mono a⟩;cases e with
 |ret d=>obtain⟨v,j,k⟩:=l;exact⟨v,j,k.mono a⟩
 |pan c=>obtain⟨p,j,k⟩:=l;exact⟨p,j,k.mono a⟩
theorem oK{P:Program}(h:FI b P0 g t L tv LO):∀ {l:List ResultVar} {κ:List D->av},oL P t L g.H l κ=some out->∃ ds vs,κ ds=some out/\kY P tv g.s l=some vs/\RL g ds vs
 |[],κ,e=>⟨[],[],e,rfl,by simp only[RL]⟩
 |x::r,κ,e=>by
  simp only[oL]at e;cases x with
  |tmp i =>
   simp only at e;unfold gD at e;split at e
   .rename_i d j;obtain⟨v,k,c⟩:=h.slots i _ j;have c:RD g d v:=c;obtain⟨ds,vs,m,n,k3⟩:=oK h e
    grind [kY,pS,RL]
   .cases e
  |cell a ty =>
   simp only at e;unfold lD at e;split at e
   .rename_i y hy;obtain⟨w,k,c⟩:=h.slots a _ hy;obtain⟨d,v,e,m,n⟩:=JD e (hC.refl g) h.ok h.own.2 c;obtain⟨ds,vs,j1,j2,j3⟩:=oK h e
    grind [RL,jC,Option.some.inj,bS,kY,pS]
   .cases e
theorem ON:∀ {l:List (Nat×Nat×Hk)} {g:Gh} {ds:List D} {vs:List V} {κ:List D->DH->av},FI b P0 g t L tv LO->YF l ds g.H κ=some out->RL g ds vs->∃ ds' g',κ ds' g'.H=some out/\g'.s=g.s/\FI b P0 g' t L tv LO/\Mv b g g'/\RL g' ds' vs
 |[],g,ds,vs,κ,h,e,r=>⟨ds,g,e,rfl,h,.refl b g,r⟩
 |(i,c,k)::l,g,ds,vs,κ,h,e,r=>by
  simp only[YF]at e;obtain⟨d,j,e⟩:=jX e;obtain⟨v,hv,m⟩:=r.at j;obtain⟨n,g',p,q,u,a,w⟩:=BH h e m;have hr:RL g' (ds.set i n) vs:=by
   have:=(r.mono a.le).set i w
   grind [lO]
  obtain⟨ds2,y,z,A,F,G,I⟩:=ON u p hr;exact⟨ds2,y,z,A.trans q,F,a.trans G,I⟩
theorem adr{ds:List D}{vs:List V}(r:RL g ds vs):RD g (UT ds) (Bb vs):=by
 cases ds with
 |nil=>simp only[RL]at r;subst r;simp only[UT,Bb,RD];exact⟨[],rfl,by simp only[RL]⟩
 |cons d ds =>
  have r0:=r;simp only[RL]at r;obtain⟨v,vs',rfl,c,a⟩:=r;cases ds with
  |nil=>simp only[RL]at a;subst a;exact c
  |cons d2 ds =>
   simp only[RL]at a;obtain⟨v2,vs2,rfl,_,_⟩:=a
   grind [UT,Bb,RD]
def zw:fx->fx
 |.panicking (⟨_,true⟩::_)=>.returning
 |m=>m
def Hg(m:fx)(c:List iX):fx:=match m with
 |.panicking old=>.panicking (c++old)
 |_=>.panicking c
theorem TV{m:fx}{a:Md}(h:Te g m a):Te g (zw m) (jO a):=by
 cases m with
 |run=>cases h;rfl
 |returning=>cases h;rfl
 |round _=>exact h.elim
 |panicking c =>
  obtain⟨c',rfl,d⟩:=h;cases c with
  |nil=>cases d;exact⟨[],rfl,rfl⟩
  |cons x xs =>
   obtain⟨y,c2,rfl,j,i,k⟩:=d;obtain⟨xv,xr⟩:=x;obtain⟨yv,yr⟩:=y;simp only at i;subst i;cases xr with
   |true=>rfl
   |false=>exact⟨_,rfl,⟨yv,false⟩,c2,rfl,j,rfl,k⟩
theorem ju.app:∀ {a:List iX} {i:List NR} {c:List iX} {d:List NR},ju g a i->ju g c d->ju g (a++c) (i++d)
 |[],_,c,d,h,k=>by cases h;exact k
 |x::r,_,c,d,h,k=>by obtain⟨y,j,rfl,l,m,n⟩:=h;exact⟨y,j++d,rfl,l,m,n.app k⟩
theorem UF{m:fx}{d:Md}{c:List iX}{a:List NR}(h:Te g m d)(k:ju g c a):Te g (Hg m c) (tf d a):=by
 cases m with
 |run=>cases h;exact⟨a,rfl,k⟩
 |returning=>cases h;exact⟨a,rfl,k⟩
 |round _=>exact h.elim
 |panicking old =>obtain⟨o',rfl,i⟩:=h;exact⟨a++o',rfl,k.app i⟩
theorem adI{m:fx}{a:Md}(h:Te g m a):m=.run↔a=.run:=by
 cases m with
 |run=>cases h;exact⟨λ_=>rfl,λ_=>rfl⟩
 |returning=>cases h;exact⟨(λq=>by cases q),(λq=>by cases q)⟩
 |panicking c=>obtain⟨c',rfl,_⟩:=h;exact⟨(λq=>by cases q),(λq=>by cases q)⟩
 |round _=>exact h.elim
end
section
variable[gu]
variable{b:Nat}{P0:List Nat}{g:Gh}{LO:List Nat}{t:T LD}{L:LS}{tv:T V}{out:iY}{E:dr}{an:ga}{rec:qF}
section frame
variable{f:FuncId}{fn:Func}{go:uF}
theorem Wq{j:uD}{s:S}{o:Option fM}(h:fN E.E (lim E.E) j s=o):lim E.E j s=o:=(Vz E.E j s).trans h
def NS(x:DB):Prop:=(∀ sz st cap l,x≠.buf sz st cap l)/\∀ st cs,x≠.cells st cs
theorem rE{o f ver:Nat}{x0 x:DB}{B0 B:ef}(ho:g.O[o]? = some (some (f,ver)))(d:g.H[o]? = some x0)(c:NS x0)(h0:g.s.get f=some B0):zg g o x f ver ver x0 B0 B :=
 ⟨ho,d,h0,(λ_ _ _ _ q=>(c.1 _ _ _ _ q).elim),(λa n vs hi q _=>by obtain⟨sz,cap,l,k⟩:=hi.2.2 o ver (by rw[q];exact ho);rw[d]at k;exact(c.1 _ _ _ _ (anJ k)).elim),(λ_ _ q=>(c.2 _ _ q).elim)⟩
theorem AV{r:Bool}{f nt:Nat}{t:T LD}{ps:Array Tmp}{a b:Code}:NS (.loop r f nt t ps a b):=⟨(λ_ _ _ _ q=>by cases q),(λ_ _ q=>by cases q)⟩
theorem Mh:NS .coll:=⟨(λ_ _ _ _ q=>by cases q),(λ_ _ q=>by cases q)⟩
theorem Bn(k:FI b P0 g t L tv LO){o l v:Nat}{r:Bool}{h nt:Nat}{t0:T LD}{ps:Array Tmp}{a i:Code}(ho:g.O[o]? = some (some (l,v)))(m:g.H[o]? = some (.loop r h nt t0 ps a i)) :
 ∃ tv0 d,g.s.get l=some (.loop (bif r then .ready else .busy) none h tv0 ps a i d nt)/\∀ j:Bool,∃ g',g'.H=g.H.set o (.loop j h nt t0 ps a i)/\g'.s=g.s.put l (.loop (bif j then .ready else .busy) none h tv0 ps a i d nt)/\FI b P0 g' t L tv LO/\Mv b g g':=by
 obtain⟨fb,tv0,d,n,p,q⟩:=k.ok.obj o _ m;rw[ho]at n;cases n;refine⟨tv0,d,p,λj=>?_⟩;have c:zg g o (.loop j h nt t0 ps a i) l 0 0 (.loop r h nt t0 ps a i) _ (.loop (bif j then .ready else .busy) none h tv0 ps a i d nt):=rE ho m AV p;exact⟨_,rfl,rfl,k.oput c ⟨l,tv0,d,cj ho,fj,q.mono (nl k.ok c) aoq⟩,ll k.ok c⟩
theorem FB(h:Tf E f fn go){ds:List su}{up:Option fx}{c:Option Code}(e:Bv go t L ds up g.H c=some out)(j:FI b P0 g t L tv LO){dsv:List ft}{upv:Option Md}{rdv:Option Nat}(m:Lw g ds dsv)(a:sv g up upv rdv) :
 ∃ vout,nj (gZ (lim E.E) f fn) tv dsv upv rdv g.s c=some vout/\kb b P0 g out vout:=by
 unfold Bv at e;split at e
 .split at e
  .rename_i o;obtain⟨rfl,l,v,rfl,ho⟩:=a;unfold AK at e;split at e
   .rename_i n;cases e;obtain⟨tv0,d,p,r⟩:=Bn j ho n;obtain⟨g',u,w,y,z⟩:=r true;have:=y.leave (e:=.ret (.bool true)) (ve:=.returned (.bool true)) (up:=none) (upv:=none) ⟨_,rfl,by simp only[RD]⟩ rfl;rw[u]at this;refine⟨_,?_,this.trans z⟩;simp only[nj,p,w];rfl
   .cases e
  .rename_i i;have k:=a.nr (λo q=>i o q);clear a;obtain⟨rfl,a⟩:=k;exact h _ _ _ _ _ _ _ _ e b P0 g tv LO dsv .returning upv none rfl j m rfl (sv.mk (λo q=>i o q) a)
 .obtain⟨i,e⟩:=nc e;have k:=a.nr i;clear a;obtain⟨rfl,a⟩:=k;exact h _ _ _ _ _ _ _ _ e b P0 g tv LO dsv .returning upv none rfl j m rfl (sv.mk i a)
 .cases e
theorem JP(a:Tf E f fn go){ds:List su}{up:Option fx}{k:Option (List Item)}(c:Code)(e:FF go t L ds up g.H k=some out)(d:FI b P0 g t L tv LO){dsv:List ft}{upv:Option Md}{rdv:Option Nat}(h:Lw g ds dsv)(i:sv g up upv rdv) :
 ∃ vout,rS (gZ (lim E.E) f fn) tv dsv upv rdv g.s c k=some vout/\kb b P0 g out vout:=by
 unfold FF at e;split at e
 .exact a _ _ _ _ _ _ _ _ e b P0 g tv LO dsv .run upv rdv rfl d h rfl i
 .cases e
theorem Rx(q:Tf E f fn go)(r:NP E.E rec){k:List Item}{ds:List su}{up:Option fx}{ps:Array Tmp}{a h:Code}{d:D}{v:V}(e:He f fn.ntmps go rec k t L ds up g.H ps a h d=some out)(p:FI b P0 g t L tv LO){dsv:List ft}{upv:Option Md}{rdv:Option Nat}(X:Lw g ds dsv)(hu:sv g up upv rdv)(Y:RD g d v) :
 ∃ vout,gQ f fn.ntmps (gZ (lim E.E) f fn) (cD (lim E.E)) k tv dsv upv rdv g.s ps a h (some v)=some vout/\kb b P0 g out vout:=by
 unfold He Se at e;split at e
 .split at e
  .rename_i gf first cap
   obtain⟨K,e⟩:=nc e;obtain⟨rfl,u⟩:=hu.nr K;simp only[RD]at Y;obtain⟨Z,y,rfl,j1,j2⟩:=Y;have M:LO=[]:=anV (by rw[<- p.own.1];rfl);subst M;have j:=p.mkobj (x:=.coll) (B:=.deferred) ⟨g.s.next,oT p.ok _ _,tu⟩;have v1:=rJ p.ok p.bl .coll .deferred;have o1:(g.obj .coll .deferred).O[g.H.length]? = some (some (g.s.next,0)):=oT p.ok _ _;have l:(g.obj .coll .deferred).H=g.H++[.coll]:=rfl;have i:(g.obj .coll .deferred).s=g.s.alloc .deferred:=rfl;generalize g.obj .coll .deferred=m at j v1 o1 l i;have f2:=j.mkobj (x:=.loop true f fn.ntmps t ps a h) (B:=.loop .ready none f tv ps a h g.s.next fn.ntmps) ⟨m.s.next,tv,g.s.next,oT j.ok _ _,tu,j.slots.mono (Bw j.ok.len _ _) aoq⟩;have v2:=rJ j.ok j.bl (.loop true f fn.ntmps t ps a h) (.loop .ready none f tv ps a h g.s.next fn.ntmps);have I:=oT j.ok (.loop true f fn.ntmps t ps a h) (.loop .ready none f tv ps a h g.s.next fn.ntmps);have z:(m.obj (.loop true f fn.ntmps t ps a h) (.loop .ready none f tv ps a h g.s.next fn.ntmps)).H=g.H++[.coll,.loop true f fn.ntmps t ps a h]:=by simp[Gh.obj,l]
   have A:(m.obj (.loop true f fn.ntmps t ps a h) (.loop .ready none f tv ps a h g.s.next fn.ntmps)).s=(g.s.alloc .deferred).alloc (.loop .ready none f tv ps a h g.s.next fn.ntmps):=by rw[<- i];rfl
   have N:m.H.length=g.H.length+1:=by rw[l];simp
   rw[N]at I;generalize m.obj (.loop true f fn.ntmps t ps a h) (.loop .ready none f tv ps a h g.s.next fn.ntmps)=g2 at f2 v2 I z A;have v12:=v1.trans v2;obtain⟨oc,Q,e⟩:=mG e
   obtain⟨vout,m1,m2⟩:=r.c gf _ none _ oc Q g2 z f2.ok (Z++(.func (.yield m.s.next) [] []::y)) none
    ((j1.mono v12.le).append (by simp only[RL];exact⟨_,_,rfl,by simp only[RD];exact⟨_,_,I,rfl⟩,j2.mono v12.le⟩)) rfl
   obtain⟨g3,n1,n2,n3,n4,F,n6,_⟩:=mF f2 m2;have v13:=v12.trans n4;obtain⟨w,q1⟩:=(v2.trans n4).le.o1 _ _ _ o1;obtain⟨w2,R⟩:=n4.le.o1 _ _ _ I;have G:cD (lim E.E) gf (Z++([.func (.yield (g.s.alloc .deferred).next) [] []]++y)) none ((g.s.alloc .deferred).alloc (.loop .ready none f tv ps a h g.s.next fn.ntmps))=some vout:=by rw[<- A,<- i];exact m1
   obtain⟨ve,vu,vs'⟩:=vout;simp only at n2 F;rcases e with⟨d,n,e⟩|⟨c,n,e⟩
   .rw[n]at F;obtain⟨v,rfl,_⟩:=F;unfold Fs at e;split at e
    .rename_i f0 nt0 t0 ps0 a0 b0 hl;rw[<- n1]at hl e;obtain⟨tv0,d0,k2,_⟩:=Bn n3 R hl;have c:zg g3 (g.H.length+1) .opq m.s.next w2 w2 _ _ (.loop .exhausted none f0 tv0 ps0 a0 b0 d0 nt0):=rE R hl AV k2;have f4:=n3.oput c ⟨_,_,cj R⟩;have J:=ll (b:=b) n3.ok c;obtain⟨w3,q3⟩:=J.le.o1 _ _ _ q1;obtain⟨vout,U,W⟩:=q _ _ _ _ _ _ _ _ e b P0 _ tv [] (.collected g.s.next::dsv) .run upv none rfl f4 ⟨_,w3,dsv,rfl,q3,X.mono (v13.trans J).le⟩ rfl (sv.mk K (u.mono (v13.trans J).le));refine⟨vout,?_,W.trans (v13.trans J)⟩;simp only[gQ,G,kZ];have k3:vs'.get (g.s.alloc .deferred).next=some (.loop .ready none f0 tv0 ps0 a0 b0 d0 nt0):=by rw[<- n2,<- i];exact k2
     simp only[k3,tG,Option.map,Option.toList,agc];rw[<- n2,<- i];exact U
    .cases e
   .rw[n]at F;obtain⟨y,rfl,n7⟩:=F;rw[<- n1]at e;obtain⟨vout,U,W⟩:=q _ _ _ _ _ _ _ _ e b P0 g3 tv [] (.collected g.s.next::dsv) (.panicking y) upv none rfl n3 ⟨_,w,dsv,rfl,q1,X.mono v13.le⟩ ⟨y,rfl,n7⟩ (sv.mk K (u.mono v13.le));refine⟨vout,?_,W.trans v13⟩;simp only[gQ,G,kZ];rw[<- n2];exact U
  .cases e
 .cases e
theorem Dc{ds:List su}{up:Option fx}{r:av}(h:so go t L ds up r=some out):∃ u H,(∃ d,r=some ⟨.ret d,some u,H⟩/\u≠.run/\go t L [] ds (zw u) up H=some out)\/∃ c,r=some ⟨.pan c,some u,H⟩/\go t L [] ds (Hg u c) up H=some out:=by
 unfold so Nt at h;split at h
 .rename_i d u H;split at h
  .exact⟨_,_,.inl ⟨d,rfl,(λq=>by cases q),h⟩⟩
  .rename_i c;unfold Mf at h;split at h
   .exact⟨_,_,.inl ⟨d,rfl,(λq=>by cases q),h⟩⟩
   .rename_i hn;refine⟨_,_,.inl ⟨d,rfl,(λq=>by cases q),?_⟩⟩;simp_all[zw]
  .cases h
 .rename_i c u H;split at h
  .exact⟨_,_,.inr ⟨c,rfl,h⟩⟩
  .exact⟨_,_,.inr ⟨c,rfl,h⟩⟩
  .cases h
 .cases h
theorem WU(h:Tf E f fn go)(m:NP E.E rec):∀ {c:Code} {k:List Item} {t:T LD} {L:LS} {ds:List su} {up:Option fx},mE c E an f fn go rec k t L ds up g.H=some out->∀ {tv:T V} {LO:List Nat} {dsv:List ft} {upv:Option Md} {rdv:Option Nat},FI b P0 g t L tv LO->Lw g ds dsv->sv g up upv rdv ->
 ∃ vout,dq c E.E f fn (gZ (lim E.E) f fn) (cD (lim E.E)) (eK (lim E.E)) k tv dsv upv rdv g.s=some vout/\kb b P0 g out vout:=by
 intro c k t L ds up e tv LO dsv upv rdv j p u;have on:∀ {todo:List Item},go t L todo ds .run up g.H=some out->∃ vout,gZ (lim E.E) f fn tv todo dsv .run upv rdv g.s=some vout/\kb b P0 g out vout:=λe=>h _ _ _ _ _ _ _ _ e b P0 g tv LO dsv .run upv rdv rfl j p rfl u;cases c with
 |ret=>exact FB (c:=some .ret) h e j p u
 |skip=>exact on e
 |label _=>exact on e
 |seq _ _=>exact on e
 |block _ _=>exact on e
 |loop _=>exact on e
 |scope _=>exact on e
 |exit id=>exact JP h (.exit id) e j p u
 |goto l=>exact JP h (.goto l) e j p u
 |cond c x y =>
  simp only[mE]at e;obtain⟨d,v,e,_,n,w⟩:=bO e (j.slots.op c);obtain⟨q,rfl,e⟩:=Iv e w;simp only[dq,n,Ij];cases q with
  |true =>simp only[ge,sQ]at e ⊢;exact h _ _ _ _ _ _ _ _ e b P0 g tv LO dsv .run upv rdv rfl (j.rf (zC n)) p rfl u
  |false =>simp only[Xi,sQ]at e ⊢;exact h _ _ _ _ _ _ _ _ e b P0 g tv LO dsv .run upv rdv rfl (j.rf (zC n)) p rfl u
 |region id ops draw =>
  cases draw with
  |true =>
   simp only[mE]at e;obtain⟨i,e⟩:=aU e;split at e
   .rename_i sc F;obtain⟨tv',s',n,g',t',L',LO',w,Q,R,G⟩:=rA (b:=b) (P0:=P0) (dsv:=dsv) (upv:=upv) m (cs:=[⟨L,g,LO⟩]) e rfl j ⟨j.cfg,.refl b _,trivial⟩ (uz.of j.slots .leaf);have U:=GX F (cD (lim E.E)) (eK (lim E.E)) tv dsv upv g.s _ n;obtain⟨vout,z,A⟩:=h _ _ _ _ _ _ _ _ w b P0 g' tv' LO' dsv .run upv rdv rfl R (p.mono G.le) rfl (u.mono G.le);refine⟨vout,?_,A.trans G⟩;simp only[dq,i,ge,U,ji,<- Q];exact z
   .cases e
  |false =>
   simp only[mE]at e;obtain⟨i,e⟩:=aU e;obtain⟨r,n,w⟩:=fP m e j p u;cases r with
   |on tv' dsv' upv' s' =>obtain⟨g',t',L',LO',ds',up',z,A,I,J,K,M⟩:=w;obtain⟨vout,N,O⟩:=h _ _ _ _ _ _ _ _ z b P0 g' tv' LO' dsv' .run upv' rdv rfl I K rfl M;refine⟨vout,?_,O.trans J⟩;simp only[dq,i,ge,n,ji,<- A];exact N
   |panicked c tv' dsv' upv' s' =>obtain⟨g',t',L',LO',ds',up',c',z,A,I,J,K,M,W⟩:=w;obtain⟨vout,N,O⟩:=h _ _ _ _ _ _ _ _ z b P0 g' tv' LO' dsv' (.panicking c) upv' rdv rfl I K ⟨c,rfl,W⟩ M;refine⟨vout,?_,O.trans J⟩;simp only[dq,i,ge,n,ji,<- A];exact N
 |rangeFunc gop ps a b' =>simp only[mE]at e;obtain⟨d,v,e,_,n,w⟩:=bO e (j.slots.op gop);simp only[dq,n];exact Rx h m e j p u w
 |refuse _=>cases e
theorem Sf(h:Tf E f fn go)(r:NP E.E rec){todo:List Item}{ds:List su}{m:fx}{up:Option fx}(e:vJ E an f fn go rec t L todo ds m up g.H=some out)(j:FI b P0 g t L tv LO){dsv:List ft}{mv:Md}{upv:Option Md}{rdv:Option Nat}(G:Lw g ds dsv)(hm:Te g m mv)(p:sv g up upv rdv) :
 ∃ vout,gT E.E f fn (gZ (lim E.E) f fn) (cD (lim E.E)) (eK (lim E.E)) tv todo dsv mv upv rdv g.s=some vout/\kb b P0 g out vout:=by
 have unw:∀ {m:fx} {mv:Md},Te g m mv->jN ds E an fn go rec t L m up g.H=some out->∃ vout,dN dsv E.E fn (gZ (lim E.E) f fn) (cD (lim E.E)) tv mv upv rdv g.s=some vout/\kb b P0 g out vout:=λ{m mv} hm e=>by
  cases ds with
  |nil =>
   cases G;simp only[jN]at e;simp only[dN];cases m with
   |run=>simp only[kB]at e;cases e
   |round _=>exact hm.elim
   |returning =>cases hm;simp only[kB]at e;obtain⟨hn,e⟩:=nc e;have hq:=p.nr hn;clear p;obtain⟨rfl,p⟩:=hq;obtain⟨ds,vs,e,n,w⟩:=oK j e;obtain⟨ds',g',e,J,h4,Z,h6⟩:=ON j e w;cases e;have:=h4.leave (e:=.ret (UT ds')) (ve:=.returned (Bb vs)) (up:=up) (upv:=upv) ⟨_,rfl,adr h6⟩ (p.mono Z.le);rw[J]at this;exact⟨_,by simp only[vi,sX,n,Ul],this.trans Z⟩
   |panicking c =>obtain⟨K,rfl,n⟩:=hm;simp only[kB]at e;cases e;exact⟨_,rfl,j.leave (e:=.pan c) (ve:=.panicked K) ⟨_,rfl,n⟩ (YY p)⟩
  |cons x ds =>
   cases x with
   |coll o =>
    obtain⟨d,v,dsv',rfl,n,w⟩:=G;simp only[jN]at e;simp only[dN];unfold uo at e;split at e
    .rename_i O;obtain⟨d',z,A⟩:=j.ok.obj o _ O;rw[n]at z;cases z;have c:zg g o .opq d 0 0 .coll _ .gone:=rE n O Mh A;have U:=j.oput c ⟨_,_,cj n⟩;have y:=ll (b:=b) j.ok c;obtain⟨vout,F,I⟩:=h _ _ _ _ _ _ _ _ e b P0 _ tv LO dsv' mv upv rdv rfl U (w.mono y.le) (hm.mono y.le) (p.mono y.le);refine⟨vout,?_,I.trans y⟩;simp only[lE,A];exact F
    .cases e
   |call x =>
   obtain⟨ca,a,dsv',rfl,n,w,J⟩:=G;obtain⟨xf,xc,xa⟩:=x;simp only[jN]at e;simp only at n w;simp only[dN];obtain⟨u,H',⟨d,hr,W,e⟩|⟨c,hr,e⟩⟩:=Dc e
   .obtain⟨vout,z,A⟩:=r.c _ _ _ _ _ hr g rfl j.ok (a++ca) (some mv) (w.append n) ⟨mv,rfl,hm⟩;obtain⟨g',n1,n2,n3,n4,M,N,_⟩:=mF j A;obtain⟨ve,vu,vs⟩:=vout;simp only at n1 n2 M N;obtain⟨v,rfl,_⟩:=M;obtain⟨Q,rfl,R⟩:=N;rw[<- n1]at e;obtain⟨vout,F,I⟩:=h _ _ _ _ _ _ _ _ e b P0 g' tv LO dsv' (jO Q) upv rdv rfl n3 (J.mono n4.le) (TV R) (p.mono n4.le);refine⟨vout,?_,I.trans n4⟩;simp only[cD,z,kL];have:Q≠.run:=λq=>W ((adI R).2 q);split
    .grind
    .rw[<- n2];exact F
   .obtain⟨vout,z,A⟩:=r.c _ _ _ _ _ hr g rfl j.ok (a++ca) (some mv) (w.append n) ⟨mv,rfl,hm⟩;obtain⟨g',n1,n2,n3,n4,M,N,_⟩:=mF j A;obtain⟨ve,vu,vs⟩:=vout;simp only at n1 n2 M N;obtain⟨K,rfl,n8⟩:=M;obtain⟨Q,rfl,R⟩:=N;rw[<- n1]at e;obtain⟨vout,F,I⟩:=h _ _ _ _ _ _ _ _ e b P0 g' tv LO dsv' (tf Q K) upv rdv rfl n3 (J.mono n4.le) (UF R n8) (p.mono n4.le);refine⟨vout,?_,I.trans n4⟩;simp only[cD,z,kL];rw[<- n2];exact F
 cases m with
 |run =>
  cases hm;simp only[vJ]at e;simp only[gT];cases todo with
  |nil=>exact FB (c:=none) h e j G p
  |cons i k =>
   simp only[Ol]at e;simp only[oB];have on:∀ {todo:List Item},go t L todo ds .run up g.H=some out->∃ vout,gZ (lim E.E) f fn tv todo dsv .run upv rdv g.s=some vout/\kb b P0 g out vout:=λe=>h _ _ _ _ _ _ _ _ e b P0 g tv LO dsv .run upv rdv rfl j G rfl p;cases i with
   |code c=>exact WU h r e j G p
   |inBlock _=>exact on e
   |inScope _=>exact on e
   |inLoop c=>exact on e
   |beginRound =>
    simp only[VU]at e;unfold NK at e;split at e
    .rename_i o;obtain⟨rfl,l,v,rfl,ho⟩:=p;unfold SH at e;split at e
     .rename_i O;obtain⟨tv0,d,w,J⟩:=Bn j ho O;obtain⟨g',z,A,k3,X⟩:=J false;rw[<- z]at e;obtain⟨v',Y⟩:=X.le.o1 _ _ _ ho;obtain⟨vout,F,I⟩:=h _ _ _ _ _ _ _ _ e b P0 g' tv LO dsv .run none (some l) rfl k3 (G.mono X.le) rfl ⟨rfl,l,v',rfl,Y⟩;refine⟨vout,?_,I.trans X⟩;simp only[mw,Ac,w,ge];rw[A]at F;exact F
     .cases e
    .cases e
   |_=>cases e
 |returning =>cases hm;exact unw (m:=.returning) rfl e
 |panicking c =>obtain⟨K,rfl,n⟩:=hm;exact unw (m:=.panicking c) ⟨K,rfl,n⟩ e
 |round _=>exact hm.elim
end frame
mutual
theorem RD.belo:∀ {d:D} {v:V},g.O.length=g.H.length->RD g d v->d.bel g.H.length
 |.bool _,_,_,_=>trivial
 |.int ..,_,_,_=>trivial
 |.str _,_,_,_=>trivial
 |.ptr o c,v,hl,r=>by grind [RD,D.bel]
 |.eptr cs c,v,hl,r=>by simp only[RD]at r;obtain⟨a,vs,_,_,_,j,_⟩:=r;simp only[D.bel];exact RL.belo hl j
 |.bptr o n i c,v,hl,r=>by grind [RD,D.bel]
 |.nilptr,_,_,_=>trivial
 |.row sz l,v,hl,r=>by
  simp only[RD]at r;simp only[D.bel];rcases r with⟨rfl,_⟩|⟨rfl,_⟩|⟨a,z,cap,_,_,_,_,_,k⟩
  .trivial
  .trivial
  .exact RR.belo hl k
 |.buf sz o n,v,hl,r=>by
  simp only[RD]at r;obtain⟨st,cap,l,h1,_⟩:=r
  grind [D.bel]
 |.nilrow,_,_,_=>trivial
 |.map o,v,hl,r=>by grind [RD,D.bel]
 |.nilmap,_,_,_=>trivial
 |.func fn a c,v,hl,r=>by simp only[RD]at r;obtain⟨a',b',_,h,m⟩:=r;simp only[D.bel];exact⟨RL.belo hl h,RL.belo hl m⟩
 |.nilFunc,_,_,_=>trivial
 |.iface ty d,v,hl,r=>by simp only[RD]at r;obtain⟨v',_,h⟩:=r;simp only[D.bel];exact RD.belo hl h
 |.nilIface,_,_,_=>trivial
 |.yld o,v,hl,r=>by grind [RD,D.bel]
 |.abool,_,_,_=>trivial
 |.agg cs,v,hl,r=>by simp only[RD]at r;obtain⟨vs,_,h,_⟩:=r;simp only[D.bel];exact RL.belo hl h
 |.tuple ds,v,hl,r=>by simp only[RD]at r;obtain⟨vs,_,h⟩:=r;simp only[D.bel];exact RL.belo hl h
theorem RL.belo:∀ {ds:List D} {vs:List V},g.O.length=g.H.length->RL g ds vs->eB g.H.length ds
 |[],_,_,_=>trivial
 |d::l,vs,hl,r=>by simp only[RL]at r;obtain⟨v,vs',_,a,c⟩:=r;simp only[eB];exact⟨RD.belo hl a,RL.belo hl c⟩
theorem RR.belo:∀ {l:List (List D)} {a:Ad} {sz:Nat},g.O.length=g.H.length->RR g a sz l->dH g.H.length l
 |[],_,_,_,_=>trivial
 |x::l,a,sz,hl,r=>by simp only[RR]at r;obtain⟨⟨vs,_,_,c,_⟩,d⟩:=r;simp only[dH];exact⟨RL.belo hl c,RR.belo hl d⟩
end
def Gh.trim(g:Gh)(n:Nat):Gh:=⟨g.O.take n,g.H.take n,g.Pv,g.s⟩
theorem kn{α:Type}{l:List α}{n i:Nat}{x:α}(h:(l.take n)[i]? = some x):i<n/\l[i]? = some x:=by grind
theorem dV{α:Type}{l:List α}{n i:Nat}{x:α}(hi:i<n)(h:l[i]? = some x):(l.take n)[i]? = some x:=by grind
theorem BE{n f:Nat}(h:g.Imm f):(g.trim n).Imm f:=⟨h.1,h.2.1,λo v ho=>by obtain⟨a,c⟩:=kn ho;obtain⟨sz,cap,l,d⟩:=h.2.2 o v c;exact⟨sz,cap,l,dV a d⟩⟩
mutual
theorem RD.trim{n:Nat}:∀ {d:D} {v:V},d.bel n->RD g d v->RD (g.trim n) d v
 |.bool _,_,_,r=>by simpa only[RD]using r
 |.int ..,_,_,r=>by simpa only[RD]using r
 |.str _,_,_,r=>by simpa only[RD]using r
 |.ptr o c,v,hb,r=>by simp only[RD]at r ⊢;simp only[D.bel]at hb;obtain⟨f,ver,h,j⟩:=r;exact⟨f,ver,dV hb h,j⟩
 |.eptr cs c,v,hb,r=>by simp only[RD]at r ⊢;simp only[D.bel]at hb;obtain⟨a,vs,h,j,k,m,p⟩:=r;exact⟨a,vs,h,BE j,k,RL.trim hb m,p⟩
 |.bptr o n' i c,v,hb,r=>by simp only[RD]at r ⊢;simp only[D.bel]at hb;obtain⟨f,ver,sz,st,cap,l,ver',h,j,k⟩:=r;exact⟨f,ver,sz,st,cap,l,ver',dV hb h,dV hb j,k⟩
 |.nilptr,_,_,r=>by simpa only[RD]using r
 |.row sz l,v,hb,r=>by
  simp only[RD]at r ⊢;simp only[D.bel]at hb;rcases r with r|r|⟨a,z,cap,h,j,k,m,p,u⟩
  .exact .inl r
  .grind
  .exact .inr (.inr ⟨a,z,cap,h,j,k,m,λq=>BE (p q),RR.trim hb u⟩)
 |.buf sz o n',v,hb,r=>by
  simp only[RD]at r ⊢;simp only[D.bel]at hb;obtain⟨st,cap,l,h,j,k⟩:=r;refine⟨st,cap,l,dV hb h,j,?_⟩;rcases k with k|⟨k,f,ver,ver',c,m,p⟩
  .exact .inl k
  .exact .inr ⟨k,f,ver,ver',c,dV hb m,p⟩
 |.nilrow,_,_,r=>by simpa only[RD]using r
 |.map o,v,hb,r=>by simp only[RD]at r ⊢;simp only[D.bel]at hb;obtain⟨f,ver,h,j⟩:=r;exact⟨f,ver,dV hb h,j⟩
 |.nilmap,_,_,r=>by simpa only[RD]using r
 |.func fn a c,v,hb,r=>by simp only[RD]at r ⊢;simp only[D.bel]at hb;obtain⟨w,y,h,j,k⟩:=r;exact⟨w,y,h,RL.trim hb.1 j,RL.trim hb.2 k⟩
 |.nilFunc,_,_,r=>by simpa only[RD]using r
 |.iface ty d,v,hb,r=>by simp only[RD]at r ⊢;simp only[D.bel]at hb;obtain⟨v',h,j⟩:=r;simp_all[RD.trim]
 |.nilIface,_,_,r=>by simpa only[RD]using r
 |.yld o,v,hb,r=>by simp only[RD]at r ⊢;simp only[D.bel]at hb;obtain⟨f,ver,h,j⟩:=r;exact⟨f,ver,dV hb h,j⟩
 |.abool,_,_,r=>by simpa only[RD]using r
 |.agg cs,v,hb,r=>by simp only[RD]at r ⊢;simp only[D.bel]at hb;obtain⟨vs,h,j,k⟩:=r;simp_all[RL.trim]
 |.tuple ds,v,hb,r=>by simp only[RD]at r ⊢;simp only[D.bel]at hb;obtain⟨vs,h,j⟩:=r;simp_all[RL.trim]
theorem RL.trim{n:Nat}:∀ {ds:List D} {vs:List V},eB n ds->RL g ds vs->RL (g.trim n) ds vs
 |[],_,_,r=>by simpa only[RL]using r
 |d::l,vs,hb,r=>by simp only[RL]at r ⊢;simp only[eB]at hb;obtain⟨v,vs',a,c,h⟩:=r;exact⟨v,vs',a,RD.trim hb.1 c,RL.trim hb.2 h⟩
theorem RR.trim{n:Nat}:∀ {l:List (List D)} {a:Ad} {sz:Nat},dH n l->RR g a sz l->RR (g.trim n) a sz l
 |[],_,_,_,_=>by simp only[RR]
 |x::l,a,sz,hb,r=>by simp only[RR]at r ⊢;simp only[dH]at hb;obtain⟨⟨vs,c,d,h,i⟩,j⟩:=r;exact⟨⟨vs,c,d,RL.trim hb.1 h,i⟩,RR.trim hb.2 j⟩
end
theorem sw.trim{n:Nat}:∀ {es:List (D×D)} {ents:List qE},(∀ x∈es,x.1.bel n/\x.2.bel n)->sw g es ents->sw (g.trim n) es ents
 |[],_,_,r=>r
 |(k,v)::l,_,hb,r=>by obtain⟨e,es',a,c,d,h,i⟩:=r;obtain⟨j,m⟩:=hb _ adN;exact⟨e,es',a,c.trim j,d.trim m,h,sw.trim (λx p=>hb x (acl _ p)) i⟩
theorem sw.belo:∀ {es:List (D×D)} {ents:List qE},g.O.length=g.H.length->sw g es ents->∀ x∈es,x.1.bel g.H.length/\x.2.bel g.H.length
 |[],_,_,_,x,a=>by cases a
 |(k,v)::l,_,hl,r,x,a=>by
  obtain⟨e,es',_,c,d,_,h⟩:=r;rcases afS.1 a with rfl|a
  .exact⟨c.belo hl,d.belo hl⟩
  .exact sw.belo hl h x a
theorem nW.belo{o:Nat}{x:DB}(hl:g.O.length=g.H.length)(r:nW g o x):x.bel g.H.length:=by
 cases x with
 |dead=>exact r.elim
 |opq=>trivial
 |coll=>trivial
 |loop _ _ _ _ _ _ _ =>obtain⟨f,tv,d,_,_,a⟩:=r;intro i d hi;obtain⟨v,_,j⟩:=a i _ hi;exact RD.belo hl j
 |cells st cs=>obtain⟨f,el,vs,_,_,a,_⟩:=r;exact a.belo hl
 |map es=>obtain⟨f,ents,c,_,_,a⟩:=r;exact a.belo hl
 |buf sz st cap l =>
  obtain⟨_,⟨rfl,_⟩|⟨_,f,ver,el,nv,vers,cells,_,_,_,_,_,h⟩⟩:=r
  .trivial
  .exact h.belo hl
theorem nW.trim{o n:Nat}{x:DB}(ho:o<n)(hb:x.bel n)(r:nW g o x):nW (g.trim n) o x:=by
 cases x with
 |dead=>exact r.elim
 |opq=>obtain⟨f,v,a⟩:=r;exact⟨f,v,dV ho a⟩
 |coll=>obtain⟨f,a,j⟩:=r;exact⟨f,dV ho a,j⟩
 |loop _ _ _ _ _ _ _ =>
  obtain⟨f,tv,d,a,j,m⟩:=r;refine⟨f,tv,d,dV ho a,j,λi x hi=>?_⟩;obtain⟨v,p,q⟩:=m i x hi;refine⟨v,p,?_⟩;cases x with
  |g d=>exact RD.trim (hb i d hi) q
  |lp k c=>exact q
  |u=>exact q
 |cells st cs=>obtain⟨f,el,vs,a,j,m,p⟩:=r;exact⟨f,el,vs,dV ho a,j,m.trim hb,p⟩
 |map es=>obtain⟨f,ents,c,a,j,m⟩:=r;exact⟨f,ents,c,dV ho a,j,m.trim hb⟩
 |buf sz st cap l =>
  obtain⟨h0,⟨rfl,a⟩|⟨a,f,ver,el,nv,vers,cells,j,m,p,q,w,h⟩⟩:=r
  .exact⟨h0,.inl ⟨rfl,dV ho a⟩⟩
  .exact⟨h0,.inr ⟨a,f,ver,el,nv,vers,cells,dV ho j,m,p,q,w,h.trim hb⟩⟩
theorem ju.trim{n:Nat}:∀ {c:List iX} {a:List NR},(∀ x∈c,x.v.bel n)->ju g c a->ju (g.trim n) c a
 |[],_,_,r=>r
 |x::l,_,hb,r=>by obtain⟨y,a,d,h,i,j⟩:=r;exact⟨y,a,d,h.trim (hb x adN),i,ju.trim (λz k=>hb z (acl _ k)) j⟩
theorem Tv{r:av}(e:bj g.H r=some out)(p:Ok g){j:uD}{s0:S}(hr:∀ o,r=some o->∃ vout,lim E.E j s0=some vout/\kb g.s.next g.Pv g o vout):∃ vout,lim E.E j s0=some vout/\kb g.s.next g.Pv g out vout:=by
 unfold bj at e;split at e
 .rename_i o;split at e
  .rename_i Q;cases e;obtain⟨vout,R,g',I,U,W,u,m,F,J⟩:=hr o rfl;obtain⟨w,X,K,M⟩:=Q;rw[<- I]at K M;have z:(g'.trim g.H.length).H.length=g.H.length:=by simp[Gh.trim,K]
   have hold:∀ {o:Nat} {x:DB},o<g.H.length->g'.H[o]? = some x->nW (g'.trim g.H.length) o x:=λ{o x} ho y=>by
    refine(u.obj o x y).trim ho ?_;rcases M o x ho y with q|q
    .exact(p.obj o x q).belo p.len
    .exact q
   refine⟨vout,R,g'.trim g.H.length,by simp[Gh.trim,I],U,W,⟨by simp[Gh.trim,u.len],u.wf,λo o' f v v' a c=>u.inj o o' f v v' (kn a).2 (kn c).2,λo f v a=>u.lt o f v (kn a).2,u.pv,λo x y=>?_,u.gl.to λf h i A=>⟨rfl,h,i,λo v k=>A o v (kn k).2⟩⟩,⟨⟨by rw[z];exact abH _,λo f v ho=>?_,λo sz st cap l ho=>?_,λf G=>BE (m.le.imm f G),λa n vs hi y=>m.le.cells a n vs hi y,m.le.next⟩,m.out,λo f v ho G=>m.fresh o f v (kn ho).2 G,λo s1 c1 f v a c=>?_⟩,?_,?_⟩
   .obtain⟨h,i⟩:=kn y
    grind
   .obtain⟨v',q⟩:=m.le.o1 o f v ho;exact⟨v',dV (by rw[<- p.len];exact pZ ho) q⟩
   .obtain⟨st',cap',l',h,i,A,Y⟩:=m.le.buf o sz st cap l ho;refine⟨st',cap',l',dV (pZ ho) h,i,A,λq=>⟨(Y q).1,?_⟩⟩;show(g'.O.take _)[o]? = _
    grind
   .obtain⟨s2,c2,h,i,A⟩:=m.stm o s1 c1 f v a c;exact⟨s2,c2,dV (pZ a) h,i,A⟩
   .have w:=w;cases N:o.e with
    |ret d =>rw[N]at F w;obtain⟨v,h,i⟩:=F;exact⟨v,h,i.trim w⟩
    |pan c =>rw[N]at F w;obtain⟨Z,h,i⟩:=F;exact⟨Z,h,i.trim w⟩
   .show SU _ o.up _;rw[X]at J ⊢;exact J
  .cases e
 .cases e
theorem Wb:∀ {ds:List D} {vs:List V} {i:Nat} {t:T LD} {tv:T V},RL g ds vs->EC g [] t tv->EC g [] (ip ds i t id) (ls vs i tv id)
 |[],vs,i,t,tv,r,h=>by simp only[RL]at r;subst r;exact h
 |d::ds,vs,i,t,tv,r,h=>by simp only[RL]at r;obtain⟨v,vs',rfl,a,c⟩:=r;rw[MW];simp only[ip,T.setK_eq];exact Wb c (h.put (some i) (x:=.g d) a)
theorem qc{β:Type}:∀(ds:List D) (i:Nat) (t:T LD) (k:T LD->β),ip ds i t k=k (ip ds i t id)
 |[],_,_,_=>rfl
 |d::ds,i,t,k=>by simp only[ip,T.setK_eq];exact qc ds (i+1) _ k
theorem TJ(h:Ok g){ds:List D}{vs:List V}(r:RL g ds vs):FI g.s.next g.Pv g (ip ds 0 .leaf id) [] (ls vs 0 .leaf id) [] :=
 ⟨h,Wb r (λi x a=>by rw[T.get_leaf]at a;cases a),⟨rfl,λk x f hk=>by simp at hk⟩,by simp,(λf c=>by cases c),List.nodup_nil,abH _⟩
theorem uV{β:Type}:∀(t:T LD) (ps:List Tmp) (ds:List D) (k:T LD->β),mW t ps ds k=k (mW t ps ds id)
 |t,p::ps,d::ds,k=>by simp only[mW,T.setK_eq];exact uV _ ps ds k
 |t,[],[],k=>rfl
 |t,[],_::_,k=>rfl
 |t,_::_,[],k=>rfl
theorem Jl{β:Type}:∀(t:T V) (ps:List Tmp) (ds:List V) (k:T V->β),cR t ps ds k=k (cR t ps ds id)
 |t,p::ps,d::ds,k=>by simp only[cR,T.setK_eq];exact Jl _ ps ds k
 |t,[],[],k=>rfl
 |t,[],_::_,k=>rfl
 |t,_::_,[],k=>rfl
theorem OX:∀ {ps:List Tmp} {ds:List D} {vs:List V} {t:T LD} {tv:T V},RL g ds vs->EC g [] t tv->EC g [] (mW t ps ds id) (cR tv ps vs id)
 |[],ds,vs,t,tv,r,h=>by cases ds<;>cases vs<;>exact h
 |p::ps,[],vs,t,tv,r,h=>by simp only[RL]at r;subst r;exact h
 |p::ps,d::ds,vs,t,tv,r,h=>by simp only[RL]at r;obtain⟨v,vs',rfl,a,c⟩:=r;simp only[mW,cR,T.setK_eq];exact OX c (h.put (some p) (x:=.g d) a)
theorem Ru{go:FuncId->Func->uF}(h:∀ f fn,Tf E f fn (go f fn)){o:Nat}{args:List D}(e:uS E go o args g.H=some out)(c:Ok g){vs:List V}{l v:Nat}(hr:RL g args vs)(ho:g.O[o]? = some (some (l,v))) :
 ∃ vout,lim E.E (.round l vs) g.s=some vout/\kb g.s.next g.Pv g out vout:=by
 unfold uS at e;split at e
 .rename_i r f nt t ps a b' n;split at e
  .rename_i fn i;obtain⟨hc,e⟩:=aU e;obtain⟨fb,tv0,d,m,p,q⟩:=c.obj o _ n;rw[ho]at m;cases m;rw[uV]at e
   have j:FI g.s.next g.Pv g (mW t ps.toList args id) [] (cR tv0 ps.toList vs id) [] :=
    ⟨c,OX hr q,⟨rfl,λk x f hk=>by simp at hk⟩,by simp,(λf i=>by cases i),List.nodup_nil,abH _⟩
   obtain⟨vout,u,w⟩:=h f fn _ _ _ _ _ _ _ _ e g.s.next g.Pv g _ _ [] .run none (some l) rfl j rfl rfl ⟨rfl,l,0,rfl,ho⟩;refine⟨vout,Wq ?_,w⟩;rw[<- hr.len]at hc;simp only[fN,p,AJ,i,hc,ge];rw[Jl];exact u
  .cases e
 .cases e
theorem SB(y:XQ E){go:FuncId->Func->uF}(k:∀ f fn,Tf E f fn (go f fn)):NP E.E (QM E go):=by
 refine⟨?_,λo args H out e g p a vs l v hr ho=>by subst p;exact Ru k e a hr ho⟩;intro f args up H out e g p a vs upv hr n;subst p;have ent:CT E go f args up g.H=some out->∃ vout,lim E.E (.call f vs upv) g.s=some vout/\kb g.s.next g.Pv g out vout:=λe=>by
  unfold CT at e;split at e
  .rename_i fn A;split at e
   .rename_i c hb;cases j:(fn.name == "runtime.NumGoroutine" || E.vo f)with
    |true=>rw[j]at e;cases e
    |false =>
     rw[j]at e;simp only[Xi]at e;obtain⟨r,w⟩:=aow.1 j;have hstep:∀ o,ip args 0 .leaf (λt=>go f fn t [] [.code c] [] .run up g.H)=some o->∃ vout,lim E.E (.call f vs upv) g.s=some vout/\kb g.s.next g.Pv g o vout:=λo e=>by
      rw[qc]at e;obtain⟨vout,F,G⟩:=k f fn _ _ _ _ _ _ _ _ e g.s.next g.Pv g _ _ [] .run upv none rfl (TJ a hr) rfl rfl (sv.mk (λo q=>by subst q;obtain⟨_,_,h⟩:=n;exact h) n);refine⟨vout,Wq ?_,G⟩;have i:vN (lim E.E) f vs upv g.s (E.E.P.funcs[f]?)=some vout:=by simp only[vN,A,hb,r,Xi];rw[tP];exact F
      cases upv with
      |none=>simp only[fN,y.no f w vs g.s,Dn];exact i
      |some u=>exact i
     cases z:(E.ann f).trim with
     |true=>rw[z]at e;exact Tv e a hstep
     |false=>rw[z]at e;exact hstep _ e
   .cases e
  .cases e
 unfold QM at e;split at e
 .obtain⟨_,_,h⟩:=n;exact h.elim
 rename_i hn;unfold US at e;split at e
 .rename_i d H' ho;cases e;cases up with
  |none =>cases n;exact y.yes f args g.H d H' ho g rfl a vs hr
  |some m=>cases ho
 .exact ent e
theorem LF(d:XQ E){R:aJ}(c:IE E R){go:FuncId->Func->uF}(a:∀ f fn,Tf E f fn (go f fn)):IE E (sM E R go):=by refine⟨SB d a,λf fn=>?_⟩;intro t L todo ds m up H out e b P0 g tv LO dsv mv upv rdv h i j hm k;subst h;obtain⟨vout,l,n⟩:=Sf (Sv (c.frame f fn) (a f fn)) c.call e i j hm k;exact⟨vout,Wq l,n⟩
theorem pH(a:XQ E):∀ n,IE E (dK E n)
 |0=>⟨⟨(λ_ _ _ _ _ e=>by cases e),(λ_ _ _ _ e=>by cases e)⟩,(λ_ _ _ _ _ _ _ _ _ _ e=>by cases e)⟩
 |n+1=>LF a (pH a n) (pH a n).frame
end
section
def wI{i:Nat}(h:i<9223372036854775807):IntKind.wrap .i64 (((i:Nat):Int)+1)=((i+1:Nat):Int):=by rw[show((i:Nat):Int)+1=((i+1:Nat):Int)by omega];exact NY _ ⟨by omega,by omega⟩
