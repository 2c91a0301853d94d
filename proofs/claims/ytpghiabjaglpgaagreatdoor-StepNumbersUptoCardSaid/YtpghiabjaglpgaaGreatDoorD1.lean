/- Deep values: an evaluator over what rows hold, and that it is sound: part 1. No conditions beyond those of the row. -/
import Derived.Test.YtpghiabjaglpgaaGreatDoorA6
set_option linter.all false
noncomputable section
namespace Go.AI
noncomputable section
inductive D where
 |bool (b:Bool)
 |int (k:IntKind) (n:Int)
 |str (s:List Nat)
 |ptr (o c:Nat)
 |eptr (cs:List D) (c:Nat)
 |bptr (o n i c:Nat)
 |nilptr
 |row (sz:Nat) (l:List (List D))
 |buf (sz o n:Nat)
 |nilrow
 |map (o:Nat)
 |nilmap
 |func (fn:FuncId) (first captured:List D)
 |nilFunc
 |iface (t:TypeId) (d:D)
 |nilIface
 |agg (cs:List D)
 |tuple (ds:List D)
 |yld (o:Nat)          -- the rounds of a loop over a function
 |abool                  -- true or false
 deriving Inhabited
inductive LD where
 |g (d:D)
 |lp (k c:Nat)
 |u
 deriving Inhabited
inductive DB where
 |dead
 |cells (st:Nat) (cs:List D)
 |buf (sz:Nat) (st cap:Bool) (l:List (List D))
 |map (es:List (D×D))
 |coll                   -- what waits for the end of a loop over a function
 |loop (rdy:Bool) (f:FuncId) (nt:Nat) (t:T LD) (ps:Array Tmp) (a b:Code)
 |opq
 deriving Inhabited
structure gB where
 v:D
 recovered:Bool
inductive eg where
 |run
 |returning
 |panicking (c:List gB)
 |round (o:Nat)
structure XN where
 fn:FuncId
 captured:List D
 args:List D
inductive pJ where
 |call (d:XN)
 |coll (o:Nat)
inductive Dv where
 |ret (d:D)
 |pan (c:List gB)
abbrev DH:=List DB
abbrev LS:=List (Nat×List D)
structure il where
 e:Dv
 up:Option eg
 H:DH
abbrev ai:=Option il
inductive zO where
 |val (d:LD) (L:LS) (H:DH)
 |skip (L:LS) (H:DH)
 |enter (f:FuncId) (args:List D) (L:LS) (H:DH)
 |defer (d:XN) (L:LS) (H:DH)
 |recover (L:LS) (H:DH)
 |panic (d:D) (L:LS) (H:DH)
 |round (o:Nat) (args:List D) (L:LS) (H:DH)
inductive Hk where
 |fz (sz:Nat)
 |acc (sz:Nat)
structure hC where
 cuts:List (Nat×List Nat×List Nat)
 esc:List Nat
 hooks:List (Nat×List (Nat×Hk))
 rfz:List (Nat×Nat×Hk)
 trim:Bool
def hC.no:hC:=⟨[],[],[],[],false⟩
structure cD where
 E:cU
 an:T hC
 orc:FuncId->List D->DH->Option (D×DH)
 vo:FuncId->Bool      -- known beforehand to the evaluator below
def cD.ann(E:cD)(f:FuncId):hC:=match E.an.get (et f)with
 |some a=>a
 |none=>hC.no
def Rz:V->Option D
 |.bool b=>some (.bool b)
 |.int k n=>some (.int k n)
 |.str l=>bif l.all (fun c=>Nat.blt c 256)then some (.str l)else none
 |.nilptr=>some .nilptr
 |.nilslice=>some .nilrow
 |.nilmap=>some .nilmap
 |.func fn a b=>match fn with
  |.func f=>bif a.isEmpty&&b.isEmpty then some (.func f [] [])else none
  |_=>none
 |.nilFunc=>some .nilFunc
 |.nilIface=>some .nilIface
 |_=>none
def JL:List V->Option (List D)
 |[]=>some []
 |v::r=>match Rz v with
  |some d=>match JL r with
   |some l=>some (d::l)
   |none=>none
  |none=>none
def VC:V->Option D
 |.agg cs=>match JL cs with
  |some l=>some (.agg l)
  |none=>none
 |v=>Rz v
def D.cells:D->List D
 |.agg cs=>cs
 |d=>[d]
def oB(P:Program)(t:TypeId):Option D:=match zero P t with
 |some z=>VC z
 |none=>none
def iu(t:T LD):Operand->Option LD
 |.tmp i=>t.get (et i)
 |.const v=>match V.ofConst v with
  |some v=>match VC v with
   |some d=>some (.g d)
   |none=>none
  |none=>none
 |.global _=>none
 |.func f=>some (.g (.func f [] []))
def gD(x:Option LD)(κ:D->ai):ai:=match x with
 |some (.g d)=>κ d
 |_=>none
def lD(x:Option LD)(κ:LD->ai):ai:=match x with
 |some d=>κ d
 |none=>none
def Fd(t:T LD):List Operand->(List D->ai)->ai
 |[],κ=>κ []
 |x::r,κ=>gD (iu t x) fun d=>Fd t r fun l=>κ (d::l)
def yH(a b:ai):ai:=open Classical in if a=b then a else none
def brD(d:D)(a b:ai):ai:=match d with
 |.bool q=>cond q a b
 |.abool=>yH a b
 |_=>none
def brS(d:D)(a b:ai):ai:=match d with
 |.bool q=>cond q a b
 |_=>none
def ah(cs:List D)(c:Nat)(κ:D->ai):ai:=match cs[c]? with
 |some d=>κ d
 |none=>none
def zW:Nat->List D->Nat->(List D->ai)->ai
 |0,_,_,κ=>κ []
 |n+1,cs,c,κ=>ah cs c fun d=>zW n cs (c+1) fun l=>κ (d::l)
def ag(n:Nat)(d:D)(κ:List D->ai):ai:=match d with
 |.agg cs=>bif Nat.beq cs.length n then κ cs else none
 |.tuple _=>none
 |d=>bif Nat.beq n 1 then κ [d] else none
def aA(H:DH)(o:Nat)(κ:Nat->List D->ai):ai:=match H[o]? with
 |some (.cells st cs)=>κ st cs
 |_=>none
def eD(H:DH)(o n:Nat)(κ:Nat->Bool->Bool->List (List D)->ai):ai:=match H[o]? with
 |some (.buf sz st cap l)=>bif Nat.beq n l.length then κ sz st cap l else none
 |_=>none
def qz(H:DH)(o:Nat)(κ:List (D×D)->ai):ai:=match H[o]? with
 |some (.map es)=>κ es
 |_=>none
def bv(n:Int)(κ:Nat->ai):ai:=match n with
 |.ofNat n=>κ n
 |_=>none
def bC(l:List (List D))(i:Nat)(κ:List D->ai):ai:=match l[i]? with
 |some cs=>κ cs
 |none=>none
def boK(b:Bool)(κ:ai):ai:=bif b then κ else none
def lZ:List D->Nat->List D->Option (List D)
 |cs,_,[]=>some cs
 |x::r,n+1,new=>match lZ r n new with
  |some l=>some (x::l)
  |none=>none
 |_::r,0,y::new=>match lZ r 0 new with
  |some l=>some (y::l)
  |none=>none
 |[],_,_::_=>none
def aw(cs:List D)(c:Nat)(new:List D)(κ:List D->ai):ai:=match lZ cs c new with
 |some l=>κ l
 |none=>none
def cZ(P:Program)(ty:TypeId)(cs:List D)(c:Nat)(κ:D->ai):ai:=match px P ty with
 |some true=>match size P ty with
  |some n=>bif Nat.blt 0 n then zW n cs c fun l=>κ (.agg l)else none
  |none=>none
 |some false=>ah cs c κ
 |none=>none
def eC(P:Program)(ty:TypeId)(d:D)(H:DH)(κ:D->ai):ai:=match d with
 |.eptr cs c=>cZ P ty cs c κ
 |.ptr o c=>aA H o fun _ cs=>cZ P ty cs c κ
 |.bptr o n i c=>eD H o n fun _ _ _ l=>bC l i fun cs=>cZ P ty cs c κ
 |_=>none
def oK(P:Program)(ty:TypeId)(x:LD)(L:LS)(H:DH)(κ:D->ai):ai:=match x with
 |.lp k c=>match L[k]? with
  |some (_,cs)=>cZ P ty cs c κ
  |none=>none
 |.g d=>eC P ty d H κ
 |.u=>none
def Su(d:D)(new:List D)(H:DH)(κ:DH->ai):ai:=match d with
 |.ptr o c=>aA H o fun st cs=>aw cs c new fun cs=>κ (H.set o (.cells (st+1) cs))
 |.bptr o n i c=>eD H o n fun sz st cap l=>boK st (bC l i fun cs=>aw cs c new fun cs=>κ (H.set o (.buf sz st cap (l.set i cs))))
 |_=>none
def vQ(P:Program)(ty:TypeId)(x:LD)(v:D)(L:LS)(H:DH)(κ:LS->DH->ai):ai:=match size P ty with
 |some n=>bif Nat.blt 0 n then ag n v fun new=>match x with
  |.lp k c=>match L[k]? with
   |some (st,cs)=>aw cs c new fun cs=>κ (L.set k (st+1,cs)) H
   |none=>none
  |.g d=>Su d new H fun H=>κ L H
  |.u=>none
  else none
 |none=>none
def AZ(place:Nat->Option (Nat×Nat))(t:T LD):List (Nat×Operand)->List D->(List D->ai)->ai
 |[],cs,κ=>κ cs
 |(i,x)::r,cs,κ=>gD (iu t x) fun d=>match place i with
  |none=>none
  |some (off,n)=>bif Nat.blt 0 n then ag n d fun new=>aw cs off new fun cs=>AZ place t r cs κ else none
def yE(P:Program)(t:T LD)(ty:TypeId)(parts:List (Nat×Operand))(κ:D->ai):ai:=match oB P ty with
 |some z=>match P.underlying ty with
  |some (.struct fs)=>bif fs.toList.all (fun f=>(size P f.type).isSome)then AZ (mS P fs) t parts z.cells fun cs=>κ (.agg cs)else none
  |some (.array _ el)=>match size P el with
   |some n=>AZ (fun i=>some (i*n,n)) t parts z.cells fun cs=>κ (.agg cs)
   |none=>none
  |_=>none
 |none=>none
def mo(t:T LD)(n len:Nat):List (Nat×Operand)->List (List D)->(List (List D)->ai)->ai
 |[],l,κ=>κ l
 |(i,x)::r,l,κ=>gD (iu t x) fun d=>bif Nat.blt i len then ag n d fun new=>mo t n len r (l.set i new) κ else none
def Mx(n:Nat)(l:List (List D)):D:=match l with
 |[]=>.nilrow
 |x::r=>.row n (x::r)
def gV(P:Program)(t:T LD)(ty:TypeId)(len:Nat)(parts:List (Nat×Operand))(κ:D->ai):ai:=match P.underlying ty with
 |some (.slice el)=>match oB P el with
  |some z=>match size P el with
   |some n=>bif Nat.ble (len*n) 10000&&!(Nat.beq n 0)&&Nat.beq z.cells.length n then mo t n len parts (List.replicate len z.cells) fun l=>κ (Mx n l)else none
   |none=>none
  |none=>none
 |_=>none
def uR(d:D)(κ:D->ai):ai:=match d with
 |.ptr o c=>κ (.ptr o c)
 |.eptr cs c=>κ (.eptr cs c)
 |.bptr o n i c=>κ (.bptr o n i c)
 |.func f a b=>κ (.func f a b)
 |.yld o=>κ (.yld o)
 |_=>none
def RE(x:LD)(κ:LD->ai):ai:=match x with
 |.lp k c=>κ (.lp k c)
 |.g d=>uR d fun d=>κ (.g d)
 |.u=>none
def Ui(op:BinOp)(k:IntKind)(a b:Int)(κ:D->ai):ai:=match op with
 |.add=>κ (.int k (k.wrap (a+b)))
 |.sub=>κ (.int k (k.wrap (a - b)))
 |.mul=>κ (.int k (k.wrap (a*b)))
 |.eql=>κ (.bool (a==b))
 |.neq=>κ (.bool (a != b))
 |.lss=>κ (.bool (decide (a<b)))
 |.leq=>κ (.bool (decide (a<=b)))
 |.gtr=>κ (.bool (decide (a>b)))
 |.geq=>κ (.bool (decide (a>=b)))
 |.quo=>boK (!(b==0)) (κ (.int k (k.wrap (a.tdiv b))))
 |.rem=>boK (!(b==0)) (κ (.int k (a.tmod b)))
 |_=>none
def Tj(op:BinOp)(a b:List Nat)(κ:D->ai):ai:=match op with
 |.add=>boK (Nat.ble (a.length+b.length) 1000000) (κ (.str (a++b)))
 |.eql=>κ (.bool (a==b))
 |.neq=>κ (.bool (!(a==b)))
 |.lss=>κ (.bool (Op.bytesLess (nq a) (nq b)))
 |_=>none
def MT(P:Program)(t:TypeId)(cs:List D)(off:Nat)(κ:D->ai):ai:=cZ P t cs off κ
def Ov(P:Program)(eq:TypeId->D->D->(Bool->ai)->ai):List Field->List D->List D->Bool->(Bool->ai)->ai
 |[],_,_,q,κ=>κ q
 |f::r,xs,ys,q,κ=>bif f.name == "_" then none else MT P f.type xs f.offset fun a=>MT P f.type ys f.offset fun b=>eq f.type a b fun p=>Ov P eq r xs ys (q&&p) κ
def KX(P:Program):Nat->TypeId->D->D->(Bool->ai)->ai
 |0,_,_,_,_=>none
 |d+1,t,x,y,κ=>match P.underlying t with
  |some (.struct fs)=>match x,y with
   |.agg xs,.agg ys=>bif P.stoodInHeld t then none else Ov P (KX P d) fs.toList xs ys true κ
   |_,_=>none
  |some (.interface _)=>match x,y with
   |.nilIface,.nilIface=>κ true
   |.nilIface,.iface _ _=>κ false
   |.iface _ _,.nilIface=>κ false
   |_,_=>none
  |some .bool=>match x,y with
   |.bool a,.bool b=>κ (a==b)
   |_,_=>none
  |some (.int _)=>match x,y with
   |.int j a,.int k b=>bif cP j k then κ (a==b)else none
   |_,_=>none
  |some .string=>match x,y with
   |.str a,.str b=>κ (a==b)
   |_,_=>none
  |some (.pointer _)=>match x,y with
   |.nilptr,.nilptr=>κ true
   |.nilptr,.ptr _ _=>κ false
   |.nilptr,.eptr _ _=>κ false
   |.nilptr,.bptr _ _ _ _=>κ false
   |.ptr _ _,.nilptr=>κ false
   |.eptr _ _,.nilptr=>κ false
   |.bptr _ _ _ _,.nilptr=>κ false
   |_,_=>none
  |some (.func _ _ _)=>match x,y with
   |.nilFunc,.nilFunc=>κ true
   |.nilFunc,.func ..=>κ false
   |.func ..,.nilFunc=>κ false
   |_,_=>none
  |_=>none
def Oc(P:Program)(op:BinOp)(t:TypeId)(c:Bool)(a b:D):Bool :=
 bif mJ op then match a,b with
  |.nilIface,.nilIface=>c
  |.agg _,.agg _=>!(P.eqGuardType P.depth t)
  |_,_=>true
 else true
def aC(P:Program)(op:BinOp)(t:TypeId)(c:Bool)(x y:D)(κ:D->ai):ai:=match x,y with
 |.int j a,.int k b=>bif nN op then none else bif cP j k then Ui op j a b κ else none
 |.str a,.str b=>Tj op a b κ
 |x,y=>bif Oc P op t c x y then(match op with
  |.eql=>KX P 20 t x y fun q=>κ (.bool q)
  |.neq=>KX P 20 t x y fun q=>κ (.bool !q)
  |_=>none)else none
def sC:Operand->Bool
 |.const c=>match V.ofConst c with
  |some .nilslice=>true
  |_=>false
 |_=>false
def Wu:BinOp->Bool
 |.eql=>false
 |_=>true
def Cg(op:BinOp)(l:List (List D))(κ:D->ai):ai:=match l with
 |[]=>κ .abool
 |_::_=>κ (.bool (Wu op))
def Kz(op:BinOp)(x:D)(κ:D->ai):ai:=bif mJ op then(match x with
 |.nilrow=>κ .abool
 |.row _ l=>Cg op l κ
 |_=>none)else none
def jR(op:UnOp)(x:D)(κ:D->ai):ai:=match op with
 |.not=>match x with
  |.bool b=>κ (.bool !b)
  |_=>none
 |.neg=>match x with
  |.int k n=>κ (.int k (k.wrap (0 - n)))
  |_=>none
 |_=>none
def oV(P:Program)(src dst:TypeId)(x:D)(κ:D->ai):ai:=bif (P.underlying src).isNone then none else match P.underlying dst with
 |some (.int k)=>match x with
  |.int _ n=>κ (.int k (k.wrap n))
  |_=>none
 |some .string=>match x with
  |.str l=>κ (.str l)
  |_=>none
 |_=>none
def Nt(P:Program)(el:TypeId)(n:Nat)(κ:List (List D)->Nat->ai):ai:=match oB P el with
 |some z=>match size P el with
  |some sz=>bif !(Nat.beq sz 0)&&Nat.beq z.cells.length sz then boK (Nat.ble n 2199023255552&&kP P el n) (κ (List.replicate n z.cells) sz)else none
  |none=>none
 |none=>none
def sP(o:Option D)(d:Nat)(κ:Nat->ai):ai:=match o with
 |some (.int _ n)=>bv n κ
 |some _=>none
 |none=>κ d
def KW(t:T LD):Option Operand->(Option D->ai)->ai
 |none,κ=>κ none
 |some x,κ=>gD (iu t x) fun d=>κ (some d)
def DM(sz:Nat)(l:List (List D))(lo hi:Option D)(κ:D->ai):ai :=
 sP hi l.length fun h=>sP lo 0 fun b=>boK (Nat.ble h l.length&&Nat.beq b 0) (κ (.row sz (l.take h)))
def cu(P:Program)(t:TypeId)(x:D)(lo hi mx:Option D)(H:DH)(κ:D->DH->ai):ai:=match P.underlying t with
 |some .string=>match x with
  |.str l=>match mx with
   |none=>sP hi l.length fun h=>sP lo 0 fun b=>boK (Nat.ble h l.length&&Nat.ble b h) (κ (.str ((l.drop b).take (h - b))) H)
   |some _=>none
  |_=>none
 |some (.slice e)=>match size P e with
  |some sz=>match mx with
   |none=>match x with
    |.row s l=>bif Nat.beq s sz then DM sz l lo hi fun d=>κ d H else none
    |.buf s' o n=>eD H o n fun s _ cap l=>boK (Nat.beq s' sz) (DM sz l lo hi fun d=>κ d (H.set o (.buf s false cap l)))
    |.nilrow=>sP hi 0 fun h=>sP lo 0 fun b=>boK (Nat.beq h 0&&Nat.beq b 0) (κ .nilrow H)
    |_=>none
   |some m=>sP (some m) 0 fun m=>sP hi 0 fun h=>sP lo 0 fun b=>bif hi.isSome&&(Nat.beq m 0&&Nat.beq h 0&&Nat.beq b 0)then(match x with
    |.row s _=>bif Nat.beq s sz then κ .nilrow H else none
    |.buf s' o n=>eD H o n fun _ _ _ _=>boK (Nat.beq s' sz) (κ .nilrow H)
    |.nilrow=>κ .nilrow H
    |_=>none)else none
  |none=>none
 |_=>none
def dw(d:D)(off:Nat)(κ:D->ai):ai:=match d with
 |.ptr o c=>κ (.ptr o (c+off))
 |.eptr cs c=>κ (.eptr cs (c+off))
 |.bptr o n i c=>κ (.bptr o n i (c+off))
 |_=>none
def Ri(x:LD)(off:Nat)(κ:LD->ai):ai:=match x with
 |.lp k c=>κ (.lp k (c+off))
 |.g d=>dw d off fun d=>κ (.g d)
 |.u=>none
def xH(P:Program)(ty:TypeId)(x:LD)(f:Nat)(κ:LD->ai):ai:=match P.underlying ty with
 |some (.struct fs)=>match fs[f]? with
  |some fd=>bif gP fd P then none else Ri x fd.offset κ
  |none=>none
 |_=>none
def xG(P:Program)(ty:TypeId)(x:D)(f:Nat)(κ:D->ai):ai:=match P.underlying ty with
 |some (.struct fs)=>match fs[f]? with
  |some fd=>match x with
   |.agg cs=>MT P fd.type cs fd.offset κ
   |_=>none
  |none=>none
 |_=>none
def NQ(x:D)(sz:Nat)(i:Int)(κ:D->ai):ai:=match x with
 |.row s l=>bif Nat.beq s sz then bv i fun i=>bC l i fun cs=>κ (.eptr cs 0)else none
 |.buf s o n=>bif Nat.beq s sz then bv i fun i=>boK (Nat.blt i n) (κ (.bptr o n i 0))else none
 |_=>none
def aJ(P:Program)(ty:TypeId)(x i:D)(κ:D->ai):ai:=match P.underlying ty with
 |some (.slice el)=>match size P el with
  |some sz=>match i with
   |.int _ i=>NQ x sz i κ
   |_=>none
  |none=>none
 |_=>none
def dW(l:List Nat)(i:Nat)(κ:D->ai):ai:=match l[i]? with
 |some c=>κ (.int .u8 (.ofNat (Nat.mod c 256)))
 |none=>none
def iW(P:Program)(ty:TypeId)(x i:D)(κ:D->ai):ai:=match P.underlying ty with
 |some .string=>match x with
  |.str l=>match i with
   |.int _ i=>bv i fun i=>dW l i κ
   |_=>none
  |_=>none
 |some (.array len el)=>match x with
  |.agg cs=>match size P el with
   |some sz=>match i with
    |.int _ i=>bv i fun i=>bif Nat.blt i len then cZ P el cs (Nat.mul i sz) κ else none
    |_=>none
   |none=>none
  |_=>none
 |_=>none
def AD:D->D->Option Bool
 |.int j a,.int k b=>bif cP j k then some (a==b)else none
 |.str a,.str b=>some (a==b)
 |.bool a,.bool b=>some (a==b)
 |_,_=>none
def KE(k:D):List (D×D)->Option (Option D)
 |[]=>some none
 |(x,v)::r=>match AD k x with
  |some true=>some (some v)
  |some false=>KE k r
  |none=>none
def GY(k v:D):List (D×D)->Option (List (D×D))
 |[]=>some [(k,v)]
 |(x,w)::r=>match AD k x with
  |some true=>some ((k,v)::r)
  |some false=>match GY k v r with
   |some r=>some ((x,w)::r)
   |none=>none
  |none=>none
def At(k:D)(es:List (D×D))(κ:Option D->ai):ai:=match KE k es with
 |some o=>κ o
 |none=>none
def qx(k v:D)(es:List (D×D))(κ:List (D×D)->ai):ai:=match GY k v es with
 |some es=>κ es
 |none=>none
def mL(P:Program)(el:TypeId)(ok:Bool)(o:Option D)(κ:D->ai):ai:=match o with
 |some d=>κ (bif ok then .tuple [d,.bool true] else d)
 |none=>match oB P el with
  |some z=>κ (bif ok then .tuple [z,.bool false] else z)
  |none=>none
def zw(d:TypeDesc):Bool:=match d with
 |.int _=>true
 |.string=>true
 |.bool=>true
 |_=>false
def vl(P:Program)(ty:TypeId):Option (TypeDesc×TypeId):=match P.underlying ty with
 |some (.map kt el)=>match P.underlying kt with
  |some d=>bif zw d then some (d,el)else none
  |none=>none
 |_=>none
def pq(td:TypeDesc)(d:D):Bool:=match td with
 |.int _=>match d with
  |.int _ _=>true
  |_=>false
 |.string=>match d with
  |.str _=>true
  |_=>false
 |.bool=>match d with
  |.bool _=>true
  |_=>false
 |_=>false
def qC(P:Program)(ty:TypeId)(m k:D)(ok:Bool)(H:DH)(κ:D->ai):ai:=match vl P ty with
 |some (td,el)=>match m with
  |.map o=>bif pq td k then qz H o fun es=>At k es fun r=>mL P el ok r κ else none
  |.nilmap=>mL P el ok none κ
  |_=>none
 |none=>none
def jY(P:Program)(ty:TypeId)(m k v:D)(H:DH)(κ:DH->ai):ai:=match vl P ty with
 |some (td,_)=>match m with
  |.map o=>bif pq td k then qz H o fun es=>qx k v es fun es=>κ (H.set o (.map es))else none
  |_=>none
 |none=>none
def lN(P:Program)(x:D)(ty:TypeId)(ok:Bool)(κ:D->ai):ai:=match P.underlying ty with
 |some (.interface _)=>none
 |some _=>match x with
  |.iface t d=>bif Nat.beq t ty then κ (bif ok then .tuple [d,.bool true] else d)else bif ok then(match oB P ty with
   |some z=>κ (.tuple [z,.bool false])
   |none=>none)else none
  |.nilIface=>bif ok then(match oB P ty with
   |some z=>κ (.tuple [z,.bool false])
   |none=>none)else none
  |_=>none
 |none=>none
def fx(x:D)(i:Nat)(κ:D->ai):ai:=match x with
 |.tuple ds=>ah ds i κ
 |_=>none
def Fh(y:D)(H:DH)(sz:Nat)(κ:List (List D)->ai):ai:=match y with
 |.row s l=>bif Nat.beq s sz then κ l else none
 |.nilrow=>κ []
 |.buf s o n=>bif Nat.beq s sz then eD H o n fun _ _ _ l=>κ l else none
 |_=>none
def grow(o:Nat)(sz:Nat)(st cap:Bool)(l els:List (List D))(H:DH)(κ:D->DH->ai):ai :=
 bif cap then κ (.buf sz H.length (l.length+els.length)) (H++[.buf sz true false (l++els)])
 else κ (.buf sz o (l.length+els.length)) (H.set o (.buf sz st false (l++els)))
def cC(ok:Nat->Bool)(sz:Nat)(x:D)(els:List (List D))(H:DH)(κ:D->DH->ai):ai:=boK (ok els.length) (match x with
 |.nilrow=>match els with
  |[]=>κ .nilrow H
  |e::r=>κ (.buf sz H.length (r.length+1)) (H++[.buf sz true false (e::r)])
 |.buf s o n=>bif Nat.beq s sz then eD H o n fun _ st cap l=>boK (ok (l.length+els.length)&&!(cap&&els.isEmpty)) (grow o sz st cap l els H κ)else none
 |_=>none)
def rq(P:Program)(sT xT:TypeId)(x y:D)(H:DH)(κ:D->DH->ai):ai:=match P.underlying sT with
 |some (.slice elem)=>bif Ek P xT then(match size P elem with
  |some sz=>bif sJ P elem sz then Fh y H sz fun els=>cC (aF P elem) sz x els H κ else none
  |none=>none)else none
 |_=>none
def bY(P:Program)(t:TypeId)(x:D)(H:DH)(κ:D->ai):ai:=match P.underlying t with
 |some .string=>match x with
  |.str l=>κ (.int .i64 l.length)
  |_=>none
 |some (.slice _)=>match x with
  |.row _ l=>κ (.int .i64 l.length)
  |.buf _ _ n=>κ (.int .i64 n)
  |.nilrow=>κ (.int .i64 0)
  |_=>none
 |some (.map _ _)=>match x with
  |.map o=>qz H o fun es=>κ (.int .i64 es.length)
  |.nilmap=>κ (.int .i64 0)
  |_=>none
 |_=>none
def Ha(g:Bool)(x y:D)(κ:D->ai):ai:=match x with
 |.int j a=>match y with
  |.int k b=>bif cP j k then κ (.int j (bif g then(bif decide (b>a)then b else a)else(bif decide (b<a)then b else a)))else none
  |_=>none
 |_=>none
def gO(g:Bool):D->List D->(D->ai)->ai
 |x,[],κ=>κ x
 |x,y::r,κ=>Ha g x y fun z=>gO g z r κ
def KA(esc:Bool)(cs:List D)(L:LS)(H:DH)(κ:zO->ai):ai :=
 bif esc then κ (.val (.g (.ptr H.length 0)) L (H++[.cells 0 cs]))else κ (.val (.lp L.length 0) (L++[(0,cs)]) H)
def Mr(t:T LD)(o:Operand)(b:Bool)(κ:T LD->ai):ai:=match o with
 |.tmp i=>t.setK (some (.g (.bool b))) (et i) κ
 |_=>κ t
def Sx(t:T LD)(L:LS)(H:DH)(c a b:Operand)(κ:T LD->zO->ai):ai :=
 gD (iu t c) fun d=>brS d (Mr t c true fun t=>lD (iu t a) fun x=>κ t (.val x L H)) (Mr t c false fun t=>lD (iu t b) fun x=>κ t (.val x L H))
def aT(E:cU)(f:FuncId):Bool:=match E.P.funcs[f]? with
 |some fn=>fn.body.isSome
 |none=>false
def Dc(E:cU)(L:LS)(H:DH)(args:List D)(f:D)(κ:zO->ai):ai:=match f with
 |.func g first cap=>bif aT E g then κ (.enter g (first++(args++cap)) L H)else none
 |_=>none
def HX(L:LS)(H:DH)(args:List D)(f:D)(κ:zO->ai):ai:=match f with
 |.yld o=>κ (.round o args L H)
 |_=>none
def lJ(P:Program)(b:Builtin)(ts:Array TypeId)(args:List D)(L:LS)(H:DH)(κ:zO->ai):ai:=match b with
 |.append=>match ts[0]? with
  |some a=>match ts[1]? with
   |some b=>match args with
    |[x,y]=>rq P a b x y H fun d H=>κ (.val (.g d) L H)
    |_=>none
   |none=>none
  |none=>none
 |.len=>match ts[0]? with
  |some a=>match args with
   |[x]=>bY P a x H fun d=>κ (.val (.g d) L H)
   |_=>none
  |none=>none
 |.max=>match args with
  |x::r=>gO true x r fun d=>κ (.val (.g d) L H)
  |_=>none
 |.min=>match args with
  |x::r=>gO false x r fun d=>κ (.val (.g d) L H)
  |_=>none
 |.recover=>κ (.recover L H)
 |.panic=>match args with
  |[.iface t v]=>κ (.panic (.iface t v) L H)
  |_=>none
 |_=>none
def mA:Op->cD->Bool->T LD->LS->DH->(T LD->zO->ai)->ai
 |.move x,_,_,t,L,H,κ=>lD (iu t x) fun d=>κ t (.val d L H)
 |.assign x,_,_,t,L,H,κ=>lD (iu t x) fun d=>κ t (.val d L H)
 |.pick c a b,_,_,t,L,H,κ=>Sx t L H c a b κ
 |.alloc elem,E,esc,t,L,H,κ=>match oB E.E.P elem with
  |some z=>KA esc z.cells L H (κ t)
  |none=>none
 |.box elem x,E,esc,t,L,H,κ=>match size E.E.P elem with
  |some n=>gD (iu t x) fun d=>ag n d fun cs=>KA esc cs L H (κ t)
  |none=>none
 |.build ty parts,E,_,t,L,H,κ=>yE E.E.P t ty parts.toList fun d=>κ t (.val (.g d) L H)
 |.buildSlice ty len parts,E,_,t,L,H,κ=>gV E.E.P t ty len parts.toList fun d=>κ t (.val (.g d) L H)
 |.load ty x,E,_,t,L,H,κ=>lD (iu t x) fun x=>oK E.E.P ty x L H fun d=>κ t (.val (.g d) L H)
 |.store ty x y,E,_,t,L,H,κ=>lD (iu t x) fun x=>gD (iu t y) fun v=>vQ E.E.P ty x v L H fun L H=>κ t (.skip L H)
 |.nilCheck x,_,_,t,L,H,κ=>lD (iu t x) fun x=>RE x fun x=>κ t (.val x L H)
 |.binOp op ty x y _,E,_,t,L,H,κ=>gD (iu t x) fun a=>gD (iu t y) fun b=>bif sC y then(match E.E.P.underlying ty with
  |some (.slice _)=>Kz op a fun d=>κ t (.val (.g d) L H)
  |_=>none)else aC E.E.P op ty (eF x||eF y) a b fun d=>κ t (.val (.g d) L H)
 |.unOp op _ x,_,_,t,L,H,κ=>gD (iu t x) fun a=>jR op a fun d=>κ t (.val (.g d) L H)
 |.convert src dst x,E,_,t,L,H,κ=>gD (iu t x) fun a=>oV E.E.P src dst a fun d=>κ t (.val (.g d) L H)
 |.makeInterface ty x,E,_,t,L,H,κ=>gD (iu t x) fun a=>match E.E.P.underlying ty with
  |some (.interface _)=>none
  |some _=>κ t (.val (.g (.iface ty a)) L H)
  |none=>none
 |.makeFunc fn first cap,_,_,t,L,H,κ=>match fn with
  |.func f=>Fd t first.toList fun a=>Fd t cap.toList fun b=>κ t (.val (.g (.func f a b)) L H)
  |_=>none
 |.makeMap _ none,_,_,t,L,H,κ=>κ t (.val (.g (.map H.length)) L (H++[.map []]))
 |.makeSlice ty l c,E,_,t,L,H,κ=>match E.E.P.underlying ty with
  |some (.slice el)=>match l with
   |.tmp i=>match c with
    |.tmp j=>bif Nat.beq i j then gD (iu t (.tmp i)) fun d=>match d with
     |.int _ n=>bv n fun n=>Nt E.E.P el n fun l sz=>κ t (.val (.g (.buf sz H.length n)) L (H++[.buf sz true true l]))
     |_=>none
     else none
    |_=>none
   |_=>none
  |_=>none
 |.slice ty x lo hi mx,E,_,t,L,H,κ=>gD (iu t x) fun x=>KW t lo fun lo=>KW t hi fun hi=>KW t mx fun mx=>cu E.E.P ty x lo hi mx H fun d H=>κ t (.val (.g d) L H)
 |.fieldAddr ty x f,E,_,t,L,H,κ=>lD (iu t x) fun x=>xH E.E.P ty x f fun x=>κ t (.val x L H)
 |.field ty x f,E,_,t,L,H,κ=>gD (iu t x) fun x=>xG E.E.P ty x f fun d=>κ t (.val (.g d) L H)
 |.indexAddr ty x i,E,_,t,L,H,κ=>gD (iu t x) fun x=>gD (iu t i) fun i=>aJ E.E.P ty x i fun d=>κ t (.val (.g d) L H)
 |.index ty x i,E,_,t,L,H,κ=>gD (iu t x) fun x=>gD (iu t i) fun i=>iW E.E.P ty x i fun d=>κ t (.val (.g d) L H)
 |.lookup ty x k ok,E,_,t,L,H,κ=>gD (iu t x) fun x=>gD (iu t k) fun k=>qC E.E.P ty x k ok H fun d=>κ t (.val (.g d) L H)
 |.mapUpdate ty m k x,E,_,t,L,H,κ=>gD (iu t m) fun m=>gD (iu t k) fun k=>gD (iu t x) fun x=>jY E.E.P ty m k x H fun H=>κ t (.skip L H)
 |.insert ty m k x,E,_,t,L,H,κ=>gD (iu t m) fun m=>gD (iu t k) fun k=>gD (iu t x) fun x=>jY E.E.P ty m k x H fun H=>κ t (.skip L H)
 |.typeAssert x _ ty ok,E,_,t,L,H,κ=>gD (iu t x) fun x=>lN E.E.P x ty ok fun d=>κ t (.val (.g d) L H)
 |.extract x i,_,_,t,L,H,κ=>gD (iu t x) fun x=>fx x i fun d=>κ t (.val (.g d) L H)
 |.call c,E,esc,t,L,H,κ=>Fd t c.args.toList fun args=>match c.callee with
  |.builtin b=>lJ E.E.P b c.argTypes args L H (κ t)
  |.value f=>gD (iu t f) fun f=>match esc with
   |true=>HX L H args f (κ t)
   |false=>Dc E.E L H args f (κ t)
  |.invoke _ _=>none
 |.defer c,E,_,t,L,H,κ=>Fd t c.args.toList fun args=>match c.callee with
  |.value f=>gD (iu t f) fun f=>match f with
   |.func g first cap=>bif aT E.E g then κ t (.defer ⟨g,cap,first++args⟩ L H)else none
   |_=>none
  |_=>none
 |.panic x,_,_,t,L,H,κ=>gD (iu t x) fun x=>match x with
  |.iface ty d=>κ t (.panic (.iface ty d) L H)
  |_=>none
 |_,_,_,_,_,_,_=>none
def eZ(h:Hk)(d:D)(H:DH)(κ:D->DH->ai):ai:=match h with
 |.fz sz=>match d with
  |.buf s' o n=>eD H o n fun s _ cap l=>boK (Nat.beq s' sz) (κ (.row sz l) (H.set o (.buf s false cap l)))
  |.nilrow=>κ (.row sz []) H
  |.row s l=>κ (.row s l) H
  |_=>none
 |.acc sz=>match d with
  |.nilrow=>bif Nat.blt 0 sz then κ (.buf sz H.length 0) (H++[.buf sz true false []])else none
  |.buf s o n=>κ (.buf s o n) H
  |_=>none
def dl(h:Hk)(c:Nat)(d:D)(H:DH)(κ:D->DH->ai):ai:=match d with
 |.agg cs=>ah cs c fun x=>eZ h x H fun y H=>κ (.agg (cs.set c y)) H
 |d=>bif Nat.beq c 0 then eZ h d H κ else none
def wZ:List (Nat×Hk)->D->DH->(D->DH->ai)->ai
 |[],d,H,κ=>κ d H
 |(c,h)::r,d,H,κ=>dl h c d H fun d H=>wZ r d H κ
def Jh{α:Type}:List (Nat×α)->Nat->Option α
 |[],_=>none
 |(j,x)::r,i=>bif Nat.beq i j then some x else Jh r i
def qK(hs:List (Nat×List (Nat×Hk)))(dst:Option Tmp)(x:LD)(H:DH)(κ:LD->DH->ai):ai:=match hs with
 |[]=>κ x H
 |_::_=>match dst with
  |none=>κ x H
  |some i=>match Jh hs i with
   |none=>κ x H
   |some l=>match x with
    |.g d=>wZ l d H fun d H=>κ (.g d) H
    |_=>none
def QD(i:Nat):List Nat->Bool
 |[]=>false
 |j::r=>bif Nat.beq i j then true else QD i r
def ST(an:hC)(dst:Option Tmp):Bool:=match an.esc with
 |[]=>false
 |l=>match dst with
  |some i=>QD i l
  |none=>false
def jq(t:T LD)(d:Option Tmp)(x:LD)(κ:T LD->ai):ai:=match d with
 |some i=>t.setK (some x) (et i) κ
 |none=>κ t
def cH(x:ai)(kr:D->DH->ai)(kp:List gB->DH->ai):ai:=match x with
 |some ⟨.ret d,_,H⟩=>kr d H
 |some ⟨.pan c,_,H⟩=>kp c H
 |none=>none
def vK(ops:Array Oper)(t:T LD)(o:Oper)(kT kF:T LD->ai):ai:=match o.guard with
 |none=>kT t
 |some (j,want)=>match(ops[j]?).bind (·.dst)with
  |some i=>match t.get (et i)with
   |some (.g d)=>match want with
    |true=>brD d (t.setK (some (.g (.bool true))) (et i) kT) (t.setK (some (.g (.bool false))) (et i) kF)
    |false=>brD d (t.setK (some (.g (.bool true))) (et i) kF) (t.setK (some (.g (.bool false))) (et i) kT)
   |some .u=>kF t
   |_=>none
  |none=>none
abbrev oA:=FuncId->List D->Option eg->DH->ai
abbrev Ge:=T LD->LS->List pJ->Option eg->DH->ai
def notRnd(up:Option eg)(r:ai):ai:=match up with
 |some (.round _)=>none
 |_=>r
def kY(d:Option Tmp)(t:T LD)(L:LS)(ds:List pJ)(H:DH)(k:Ge):Option eg->ai
 |some (.round _)=>none
 |some (.panicking (⟨v,false⟩::older))=>jq t d (.g v) fun t=>k t L ds (some (.panicking (⟨v,true⟩::older))) H
 |some m=>jq t d (.g .nilIface) fun t=>k t L ds (some m) H
 |none=>none
def GM(an:hC)(rec:oA)(d:Option Tmp)(t:T LD)(ds:List pJ)(up:Option eg)(k:Ge)(kp:List gB->Ge):zO->ai
 |.val x L H=>qK an.hooks d x H fun x H=>jq t d x fun t=>k t L ds up H
 |.skip L H=>jq t d .u fun t=>k t L ds up H
 |.enter f args L H=>cH (rec f args none H) (fun x H=>qK an.hooks d (.g x) H fun x H=>jq t d x fun t=>k t L ds up H) fun c H=>kp c t L ds up H
 |.defer df L H=>notRnd up (jq t d .u fun t=>k t L (.call df::ds) up H)
 |.recover L H=>kY d t L ds H k up
 |.panic v L H=>kp [⟨v,false⟩] t L ds up H
 |.round o args L H=>cH (rec 0 args (some (.round o)) H) (fun x H=>qK an.hooks d (.g x) H fun x H=>jq t d x fun t=>k t L ds up H) fun c H=>kp c t L ds up H
def nG(E:cD)(an:hC)(ops:Array Oper)(rec:oA):List Oper->Ge->(List gB->Ge)->Ge
 |[],k,_,t,L,ds,up,H=>k t L ds up H
 |o::r,k,kp,t,L,ds,up,H=>vK ops t o
  (fun t=>mA o.op E (ST an o.dst) t L H fun t x=>GM an rec o.dst t ds up (nG E an ops rec r k kp) kp x)
  (fun t=>jq t o.dst .u fun t=>nG E an ops rec r k kp t L ds up H)
def lL(bs:T Nat)(i:Nat):Nat:=match bs.get (et i)with
 |some b=>b
 |none=>0
def fv(bs:T Nat):List Tmp->Nat
 |[]=>0
 |i::r=>Nat.max (lL bs i) (fv bs r)
def MP{β:Type}(bs:T Nat)(d:Option Tmp)(n:Nat)(κ:T Nat->β):β:=match d with
 |some i=>bs.setK (some n) (et i) κ
 |none=>κ bs
def gd(L:LS):List (LS×DH)->LS
 |[]=>L
 |(M,_)::r=>gd (meet L M) r
 where meet:LS->LS->LS
  |(a,cs)::l,(b,_)::m=>bif Nat.beq a b then(a,cs)::meet l m else(a,[])::meet l m
  |(a,_)::l,[]=>(a,[])::meet l []
  |[],_=>[]
def zf(κ:T LD->LD->LS->DH->ai)(t:T LD):zO->ai
 |.val x L H=>κ t x L H
 |_=>none
def py(an:hC)(d:Option Tmp):Bool:=match an.hooks with
 |[]=>false
 |l=>match d with
  |some i=>(Jh l i).isSome
  |none=>false
def AF(r:List DH)(o:Nat):DB->DB
 |.cells st cs=>open Classical in if ∀ H2∈r,H2[o]? = some (.cells st cs)then .cells st cs else .dead
 |_=>.dead
def Lf(r:List DH):Nat->DH->DH
 |_,[]=>[]
 |i,b::t=>AF r i b::Lf r (i+1) t
def eW(H:DH)(r:List DH):DH:=Lf r 0 H
def Ag(E:cD)(o:Oper)(hist:List (LS×DH))(t:T LD)(κ:T LD->LD->ai):ai:=match hist with
 |[]=>none
 |(L,H)::r=>match r with
  |[]=>mA o.op E false t L H fun t x=>zf (fun t x _ _=>κ t x) t x
  |_::_=>mA o.op E false t (gd L r) (eW H (r.map (·.2))) fun t x=>zf (fun t x _ _=>κ t x) t x
def pB(E:cD)(an:hC)(o:Oper)(hist:List (LS×DH))(n c:Nat)(bs:T Nat)(t:T LD)(L:LS)(H:DH)(κ:T LD->LD->LS->DH->Nat->ai):Nat->ai
 |0=>mA o.op E false t [] [] fun t x=>zf (fun t x _ _=>κ t x L H (bif py an o.dst then n else fv bs (sees o))) t x
 |1=>bif Nat.ble (fv bs (sees o)) (n - c)&&Nat.ble c n then Ag E o (hist.take c) t fun t x=>κ t x L H (bif py an o.dst then n else n - c)else none
 |2=>mA o.op E (ST an o.dst) t L H fun t x=>zf (fun t x L H=>κ t x L H n) t x
 |_=>none
def CL(rec:oA)(t:T LD)(κ:T LD->LD->LS->DH->ai):zO->ai
 |.val x L H=>κ t x L H
 |.skip L H=>κ t .u L H
 |.enter f args L H=>cH (rec f args none H) (fun x H=>κ t (.g x) L H) fun _ _=>none
 |_=>none
def fM(E:cD)(an:hC)(ops:Array Oper)(rec:oA)(k:T LD->LS->DH->ai):List (Option Nat×Nat)->List (LS×DH)->Nat->T Nat->T LD->LS->DH->ai
 |[],_,_,_,t,L,H=>k t L H
 |(c,i)::r,hist,n,bs,t,L,H=>match ops[i]? with
  |none=>none
  |some o=>match c with
   |some c=>vK ops t o
    (fun t=>pB E an o hist n c bs t L H (fun t x L H b=>qK an.hooks o.dst x H fun x H=>jq t o.dst x fun t=>MP bs o.dst b fun bs=>fM E an ops rec k r hist n bs t L H) (aD E.E.P o.op))
    (fun t=>jq t o.dst .u fun t=>MP bs o.dst 0 fun bs=>fM E an ops rec k r hist n bs t L H)
   |none=>vK ops t o
    (fun t=>mA o.op E false t L H fun t x=>CL rec t (fun t x L H=>qK an.hooks o.dst x H fun x H=>jq t o.dst x fun t=>MP bs o.dst n fun bs=>fM E an ops rec k r ((L,H)::hist) (n+1) bs t L H) x)
    (fun t=>jq t o.dst .u fun t=>MP bs o.dst 0 fun bs=>fM E an ops rec k r ((L,H)::hist) (n+1) bs t L H)
abbrev rH:=T LD->LS->List Item->List pJ->eg->Option eg->DH->ai
def wc(H:DH)(o:Nat):ai:=match H[o]? with
 |some (.loop _ f nt t ps a b)=>some ⟨.ret (.bool true),none,H.set o (.loop true f nt t ps a b)⟩
 |_=>none
def wO(go:rH)(t:T LD)(L:LS)(ds:List pJ)(up:Option eg)(H:DH):Option Code->ai
 |none=>match up with
  |some (.round o)=>wc H o
  |up=>go t L [] ds .returning up H
 |some .ret=>notRnd up (go t L [] ds .returning up H)
 |_=>none
def Lo(H:DH)(o:Nat)(κ:DH->ai):ai:=match H[o]? with
 |some (.loop true f nt t ps a b)=>κ (H.set o (.loop false f nt t ps a b))
 |_=>none
def HM(go:rH)(k:List Item)(t:T LD)(L:LS)(ds:List pJ)(up:Option eg)(H:DH):ai:=match up with
 |some (.round o)=>Lo H o fun H=>go t L k ds .run up H
 |_=>none
def Aw(H:DH)(o:Nat)(κ:DH->ai):ai:=match H[o]? with
 |some (.loop true _ _ _ _ _ _)=>κ (H.set o .opq)
 |_=>none
def KN(d:D)(κ:FuncId->List D->List D->ai):ai:=match d with
 |.func g a b=>κ g a b
 |_=>none
def BV(f:FuncId)(nt:Nat)(go:rH)(rec:oA)(k:List Item)(t:T LD)(L:LS)(ds:List pJ)(up:Option eg)(H:DH)(ps:Array Tmp)(a b:Code)(d:D):ai:=match L with
 |[]=>KN d fun g first cap=>notRnd up (cH (rec g (first++(.yld (H.length+1)::cap)) none (H++[.coll,.loop true f nt t ps a b]))
  (fun _ H'=>Aw H' (H.length+1) fun H'=>go t L k (.coll H.length::ds) .run up H') fun c H'=>go t L k (.coll H.length::ds) (.panicking c) up H')
 |_=>none
def AG(go:rH)(t:T LD)(L:LS)(ds:List pJ)(up:Option eg)(H:DH):Option (List Item)->ai
 |some k=>go t L k ds .run up H
 |none=>none
def kx:Code->cD->hC->FuncId->Func->rH->oA->List Item->T LD->LS->List pJ->Option eg->DH->ai
 |.ret=>fun _ _ _ _ go _ _ t L ds up H=>wO go t L ds up H (some .ret)
 |.skip=>fun _ _ _ _ go _ k t L ds up H=>go t L k ds .run up H
 |.label _=>fun _ _ _ _ go _ k t L ds up H=>go t L k ds .run up H
 |.seq a b=>fun _ _ _ _ go _ k t L ds up H=>go t L (.code a::.code b::k) ds .run up H
 |.cond c a b=>fun _ _ _ _ go _ k t L ds up H=>gD (iu t c) fun d=>brD d (Mr t c true fun t=>go t L (.code a::k) ds .run up H) (Mr t c false fun t=>go t L (.code b::k) ds .run up H)
 |.block id c=>fun _ _ _ _ go _ k t L ds up H=>go t L (.code c::.inBlock id::k) ds .run up H
 |.loop c=>fun _ _ _ _ go _ k t L ds up H=>go t L (.code c::.inLoop c::k) ds .run up H
 |.scope c=>fun _ _ _ _ go _ k t L ds up H=>go t L (.code c::.inScope c::k) ds .run up H
 |.exit id=>fun _ _ _ _ go _ k t L ds up H=>AG go t L ds up H (exitTo id k)
 |.goto l=>fun _ _ _ _ go _ k t L ds up H=>AG go t L ds up H (gotoIn l k)
 |.region _ ops true=>fun E an f fn go rec k t L ds up H=>bif kn ops fn.ntmps then(match Ms E.E.P ops with
  |some sc=>fM E an ops rec (fun t L H=>go t L k ds .run up H) sc [(L,H)] 1 .leaf t L H
  |none=>none)else none
 |.region _ ops false=>fun E an f fn go rec k t L ds up H=>bif kn ops fn.ntmps then
  nG E an ops rec ops.toList (fun t L ds up H=>go t L k ds .run up H) (fun c t L ds up H=>go t L k ds (.panicking c) up H) t L ds up H else none
 |.rangeFunc g ps a b=>fun _ _ f fn go rec k t L ds up H=>gD (iu t g) fun d=>BV f fn.ntmps go rec k t L ds up H ps a b d
 |_=>fun _ _ _ _ _ _ _ _ _ _ _ _=>none
def NR:Item->cD->hC->FuncId->Func->rH->oA->List Item->T LD->LS->List pJ->Option eg->DH->ai
 |.code c=>kx c
 |.inBlock _=>fun _ _ _ _ go _ k t L ds up H=>go t L k ds .run up H
 |.inScope _=>fun _ _ _ _ go _ k t L ds up H=>go t L k ds .run up H
 |.inLoop c=>fun _ _ _ _ go _ k t L ds up H=>go t L (.code c::.inLoop c::k) ds .run up H
 |.beginRound=>fun _ _ _ _ go _ k t L ds up H=>HM go k t L ds up H
 |_=>fun _ _ _ _ _ _ _ _ _ _ _ _=>none
def Ij:List Item->cD->hC->FuncId->Func->rH->oA->T LD->LS->List pJ->Option eg->DH->ai
 |[]=>fun _ _ _ _ go _ t L ds up H=>wO go t L ds up H none
 |i::k=>fun E an f fn go rec t L ds up H=>NR i E an f fn go rec k t L ds up H
def GE(c:List gB)(a:ai)(b:List gB->ai):ai:=match c with
 |⟨_,true⟩::_=>a
 |c=>b c
def HA(r:ai)(a:DH->ai)(b:List gB->DH->ai):ai:=match r with
 |some ⟨.ret _,some u,H⟩=>match u with
  |.returning=>a H
  |.panicking c=>GE c (a H) fun c=>b c H
  |_=>none
 |some ⟨.pan c,some u,H⟩=>match u with
  |.returning=>b c H
  |.panicking old=>b (c++old) H
  |_=>none
 |_=>none
def pG(go:rH)(t:T LD)(L:LS)(ds:List pJ)(up:Option eg)(r:ai):ai:=HA r (fun H=>go t L [] ds .returning up H) fun c H=>go t L [] ds (.panicking c) up H
def rg(H:DH)(o:Nat)(κ:DH->ai):ai:=match H[o]? with
 |some .coll=>κ (H.set o .opq)
 |_=>none
def mr(P:Program)(t:T LD)(L:LS)(H:DH):List ResultVar->(List D->ai)->ai
 |[],κ=>κ []
 |x::r,κ=>match x with
  |.tmp i=>gD (t.get (et i)) fun d=>mr P t L H r fun l=>κ (d::l)
  |.cell a ty=>lD (t.get (et a)) fun x=>oK P ty x L H fun d=>mr P t L H r fun l=>κ (d::l)
def Qa:List (Nat×Nat×Hk)->List D->DH->(List D->DH->ai)->ai
 |[],l,H,κ=>κ l H
 |(i,c,h)::r,l,H,κ=>ah l i fun d=>dl h c d H fun d H=>Qa r (l.set i d) H κ
def Nb:List D->D
 |[d]=>d
 |ds=>.tuple ds
def MY(up:Option eg):Option eg:=match up with
 |some (.round _)=>none
 |up=>up
def iU(E:cD)(an:hC)(fn:Func)(t:T LD)(L:LS)(up:Option eg)(H:DH):eg->ai
 |.returning=>notRnd up (mr E.E.P t L H fn.results.toList fun l=>Qa an.rfz l H fun l H=>some ⟨.ret (Nb l),up,H⟩)
 |.panicking c=>some ⟨.pan c,MY up,H⟩
 |_=>none
def iw:List pJ->cD->hC->Func->rH->oA->T LD->LS->eg->Option eg->DH->ai
 |.call ⟨f,cap,args⟩::ds=>fun _ _ _ go rec t L m up H=>pG go t L ds up (rec f (args++cap) (some m) H)
 |.coll o::ds=>fun _ _ _ go _ t L m up H=>rg H o fun H=>go t L [] ds m up H
 |[]=>fun E an fn _ _ t L m up H=>iU E an fn t L up H m
def sF(E:cD)(an:hC)(f:FuncId)(fn:Func)(go:rH)(rec:oA)(t:T LD)(L:LS)(todo:List Item)(ds:List pJ)(m:eg)(up:Option eg)(H:DH):ai:=match m with
 |.run=>Ij todo E an f fn go rec t L ds up H
 |.returning=>iw ds E an fn go rec t L .returning up H
 |.panicking c=>iw ds E an fn go rec t L (.panicking c) up H
 |.round _=>none
inductive zP where
 |frame (f:FuncId) (fn:Func) (t:T LD) (L:LS) (todo:List Item) (ds:List pJ) (m:eg) (up:Option eg)
 |call (f:FuncId) (args:List D) (up:Option eg)
abbrev aE:=zP->DH->ai
def lz:Code->Nat
 |.region id _ _=>id
 |.seq a b=>match hasReg a with
  |true=>lz a
  |false=>lz b
 |.cond _ a b=>match hasReg a with
  |true=>lz a
  |false=>lz b
 |.block _ c=>lz c
 |.loop c=>lz c
 |.scope c=>lz c
 |_=>0
 where hasReg:Code->Bool
  |.region _ _ _=>true
  |.seq a b=>hasReg a||hasReg b
  |.cond _ a b=>hasReg a||hasReg b
  |.block _ c=>hasReg c
  |.loop c=>hasReg c
  |.scope c=>hasReg c
  |_=>false
def SH:List Item->Option Nat
 |.code c::.inLoop _::_=>some (lz c+200000)
 |.code (.region id _ _)::_=>some id
 |.code (.cond _ a b)::_=>some (lz (.seq a b)+100000)
 |_=>none
def SU(an:hC)(todo:List Item):Option (List Nat×List Nat):=match an.cuts with
 |[]=>none
 |l=>match SH todo with
  |some k=>Jh l k
  |none=>none
def vT(t:T LD):List Nat->(List LD->ai)->ai
 |[],κ=>κ []
 |i::r,κ=>lD (t.get (et i)) fun x=>vT t r fun l=>κ (x::l)
def SC:List Nat->List LD->T LD->T LD
 |i::r,x::l,t=>SC r l (T.setK (some x) (et i) t id)
 |_,_,t=>t
def qE(ks:List Nat):Nat->LS->LS
 |_,[]=>[]
 |i,(_,cs)::r=>(0,bif QD i ks then cs else [])::qE ks (i+1) r
def lT:List Nat->Nat
 |[]=>0
 |k::r=>bif Nat.blt k (lT r)then lT r else k+1
def Av(n:Nat):List LD->Bool
 |[]=>true
 |x::r=>(match x with
  |.lp k _=>Nat.blt k n
  |_=>true)&&Av n r
def FA(an:hC)(ih:rH)(go:rH):rH:=fun t L todo ds m up H=>match m with
 |.run=>match SU an todo with
  |some (live,ks)=>vT t live fun xs=>bif Av (lT ks) xs then ih (SC live xs .leaf) (qE ks 0 (L.take (lT ks))) todo ds m up H else none
  |none=>go t L todo ds m up H
 |m=>go t L todo ds m up H
mutual
def D.bel(n:Nat):D->Prop
 |.ptr o _=>o<n
 |.bptr o _ _ _=>o<n
 |.buf _ o _=>o<n
 |.map o=>o<n
 |.yld o=>o<n
 |.eptr cs _=>ef n cs
 |.row _ l=>dz n l
 |.func _ a b=>ef n a/\ef n b
 |.iface _ d=>d.bel n
 |.agg cs=>ef n cs
 |.tuple ds=>ef n ds
 |_=>True
def ef(n:Nat):List D->Prop
 |[]=>True
 |d::r=>d.bel n/\ef n r
def dz(n:Nat):List (List D)->Prop
 |[]=>True
 |l::r=>ef n l/\dz n r
end
def DB.bel(n:Nat):DB->Prop
 |.dead=>True
 |.cells _ cs=>ef n cs
 |.buf _ _ _ l=>dz n l
 |.map es=>∀ x∈es,x.1.bel n/\x.2.bel n
 |.loop _ _ _ t _ _ _=>∀ i d,t.get (et i)=some (.g d)->d.bel n
 |.coll=>True
 |.opq=>True
def Dv.bel(n:Nat):Dv->Prop
 |.ret d=>d.bel n
 |.pan c=>∀ x∈c,x.v.bel n
def nD(H:DH)(o:il):Prop:=o.e.bel H.length/\o.up=none/\H.length<=o.H.length/\∀ i b,i<H.length->o.H[i]? = some b->H[i]? = some b\/b.bel H.length
def aZ(H:DH)(r:ai):ai:=match r with
 |some o=>open Classical in if nD H o then some ⟨o.e,o.up,o.H.take H.length⟩else none
 |none=>none
def fT{β:Type}:List D->Nat->T LD->(T LD->β)->β
 |[],_,t,k=>k t
 |x::r,i,t,k=>t.setK (some (.g x)) (et i) fun t=>fT r (i+1) t k
def yh(E:cD)(go:FuncId->Func->rH)(f:FuncId)(args:List D)(up:Option eg)(H:DH):ai:=match E.E.P.funcs[f]? with
 |some fn=>match fn.body with
  |some c=>bif fn.name == "runtime.NumGoroutine" || E.vo f then none else
   bif (E.ann f).trim then aZ H (fT args 0 .leaf fun t=>go f fn t [] [.code c] [] .run up H)else fT args 0 .leaf fun t=>go f fn t [] [.code c] [] .run up H
  |none=>none
 |none=>none
def kZ{β:Type}:T LD->List Tmp->List D->(T LD->β)->β
 |t,p::ps,x::xs,k=>t.setK (some (.g x)) (et p) fun t=>kZ t ps xs k
 |t,_,_,k=>k t
def rP(E:cD)(go:FuncId->Func->rH)(o:Nat)(args:List D)(H:DH):ai:=match H[o]? with
 |some (.loop _ f nt t ps a b)=>match E.E.P.funcs[f]? with
  |some fn=>bif Nat.ble fn.ntmps nt&&Nat.beq ps.size args.length&&ps.toList.all (fun p=>Nat.blt p nt)then
   kZ t ps.toList args fun t=>go f fn t [] [.code a,.beginRound,.code b] [] .run (some (.round o)) H else none
  |none=>none
 |_=>none
def MZ(E:cD)(f:FuncId)(args:List D)(H:DH)(up:Option eg)(k:ai):ai:=match(match up with|none=>E.orc f args H|some _=>none)with
 |some (d,H)=>some ⟨.ret d,up,H⟩
 |none=>k
def JR(E:cD)(go:FuncId->Func->rH)(f:FuncId)(args:List D)(up:Option eg)(H:DH):ai:=match up with
 |some (.round o)=>rP E go o args H
 |up=>MZ E f args H up (yh E go f args up H)
def LG(ih:aE)(f:FuncId)(fn:Func):rH:=fun t L todo ds m up H=>ih (.frame f fn t L todo ds m up) H
def rQ(ih:aE):oA:=fun f args up H=>ih (.call f args up) H
def pT(E:cD)(ih:aE)(go:FuncId->Func->rH):aE
 |.frame f fn t L todo ds m up,H=>sF E (E.ann f) f fn (FA (E.ann f) (LG ih f fn) (go f fn)) (rQ ih) t L todo ds m up H
 |.call f args up,H=>JR E go f args up H
def dK(E:cD):Nat->aE
 |0=>fun _ _=>none
 |n+1=>pT E (dK E n) (LG (dK E n))
def br(E:cD)(R:aE):Nat->aE
 |0=>R
 |n+1=>pT E R (LG (br E R n))
end
def Al{α:Type}(c:(α->ai)->ai):Prop:=∀ κ out,c κ=some out->∃ a,∀ κ',c κ'=κ' a
variable{α β:Type}
theorem Al.ret(a:α):Al (fun κ=>κ a):=fun _ _ _=>⟨a,fun _=>rfl⟩
theorem Al.none:Al (fun(_:α->ai)=>none):=fun _ _ h=>by cases h
theorem Al.bind{c:(α->ai)->ai}{d:α->(β->ai)->ai}(h:Al c)(k:∀ a,Al (d a)):Al (fun κ=>c fun a=>d a κ):=fun κ out e=>by
 obtain⟨a,ha⟩:=h _ out e
 obtain⟨x,hx⟩:=k a κ out ((ha _).symm.trans e)
 exact⟨x,fun _=>(ha _).trans (hx _)⟩
theorem Al.map{c:(α->ai)->ai}(h:Al c)(f:α->β):Al (fun κ=>c fun a=>κ (f a)):=h.bind fun a=>.ret (f a)
theorem Al.boK(b:Bool){c:(α->ai)->ai}(h:Al c):Al (fun κ=>boK b (c κ)):=by
 cases b
 ·exact .none
 ·exact h
theorem Al.cond(b:Bool){c d:(α->ai)->ai}(h:Al c)(k:Al d):Al (fun κ=>cond b (c κ) (d κ)):=by
 cases b
 ·exact k
 ·exact h
theorem cJ(x:Option LD):Al (gD x):=by
 cases x with
 |none=>exact .none
 |some x=>cases x<;>first|exact .ret _|exact .none
theorem ry(x:Option LD):Al (lD x):=by
 cases x with
 |none=>exact .none
 |some x=>exact .ret x
theorem rz(t:T LD):∀ l,Al (Fd t l)
 |[]=>.ret []
 |x::r=>(cJ _).bind fun d=>(rz t r).map (d::·)
theorem Dn(cs:List D)(c:Nat):Al (ah cs c):=by
 unfold ah
 cases cs[c]? with
 |none=>exact .none
 |some d=>exact .ret d
theorem fSx:∀ n cs c,Al (zW n cs c)
 |0,_,_=>.ret []
 |n+1,cs,c=>(Dn cs c).bind fun d=>(fSx n cs (c+1)).map (d::·)
theorem od(n:Nat)(d:D):Al (ag n d):=by
 cases d<;>first|exact .none|exact Al.cond _ (.ret _) .none
theorem Ka{c:(β->ai)->Nat->List D->ai}(H:DH)(o:Nat)(h:∀ st cs,Al (fun κ=>c κ st cs)):Al (fun κ=>aA H o (c κ)):=by
 unfold aA
 split
 ·exact h _ _
 ·exact .none
theorem Dm{c:(β->ai)->Nat->Bool->Bool->List (List D)->ai}(H:DH)(o n:Nat)(h:∀ sz st cap l,Al (fun κ=>c κ sz st cap l)):Al (fun κ=>eD H o n (c κ)):=by
 unfold eD
 split
 ·exact Al.cond _ (h _ _ _ _) .none
 ·exact .none
theorem Dj(H:DH)(o:Nat):Al (qz H o):=by
 unfold qz
 split
 ·exact .ret _
 ·exact .none
theorem ob(n:Int):Al (bv n):=by
 cases n
 ·exact .ret _
 ·exact .none
theorem Di(l:List (List D))(i:Nat):Al (bC l i):=by
 unfold bC
 split
 ·exact .ret _
 ·exact .none
theorem vF(cs:List D)(c:Nat)(new:List D):Al (aw cs c new):=by
 unfold aw
 split
 ·exact .ret _
 ·exact .none
theorem fG(P:Program)(ty:TypeId)(cs:List D)(c:Nat):Al (cZ P ty cs c):=by
 unfold cZ
 split
 ·split
  ·exact Al.cond _ ((fSx _ _ _).map _) .none
  ·exact .none
 ·exact Dn _ _
 ·exact .none
theorem Vq(P:Program)(ty:TypeId)(d:D)(H:DH):Al (eC P ty d H):=by
 cases d<;>first
  |exact .none
  |exact fG _ _ _ _
  |exact Ka _ _ fun _ _=>fG _ _ _ _
  |exact Dm _ _ _ fun _ _ _ _=>(Di _ _).bind fun _=>fG _ _ _ _
theorem Pk(P:Program)(ty:TypeId)(x:LD)(L:LS)(H:DH):Al (oK P ty x L H):=by
 cases x with
 |g d=>exact Vq _ _ _ _
 |lp k c =>
  show Al (fun κ=>oK P ty (.lp k c) L H κ)
  simp only[oK]
  split
  ·exact fG _ _ _ _
  ·exact .none
 |u=>exact .none
theorem Vp(d:D)(new:List D)(H:DH):Al (Su d new H):=by
 cases d<;>first
  |exact .none
  |exact Ka _ _ fun _ _=>(vF _ _ _).map _
  |exact Dm _ _ _ fun _ st _ _=>Al.boK st ((Di _ _).bind fun _=>(vF _ _ _).map _)
def gh(c:(α->β->ai)->ai):Prop:=∀ κ out,c κ=some out->∃ a b,∀ κ',c κ'=κ' a b
theorem gh.bind{γ:Type}{c:(α->β->ai)->ai}{d:α->β->(γ->ai)->ai}(h:gh c)(k:∀ a b,Al (d a b)):Al (fun κ=>c fun a b=>d a b κ):=fun κ out e=>by
 obtain⟨a,b,ha⟩:=h _ out e
 obtain⟨x,hx⟩:=k a b κ out ((ha _).symm.trans e)
 exact⟨x,fun _=>(ha _).trans (hx _)⟩
theorem gh.ret(a:α)(b:β):gh (fun κ=>κ a b):=fun _ _ _=>⟨a,b,fun _=>rfl⟩
theorem gh.none:gh (fun(_:α->β->ai)=>none):=fun _ _ h=>by cases h
theorem Al.bind2{γ:Type}{c:(γ->ai)->ai}{d:γ->(α->β->ai)->ai}(h:Al c)(k:∀ a,gh (d a)):gh (fun κ=>c fun a=>d a κ):=fun κ out e=>by
 obtain⟨a,ha⟩:=h _ out e
 obtain⟨x,y,hx⟩:=k a κ out ((ha _).symm.trans e)
 exact⟨x,y,fun _=>(ha _).trans (hx _)⟩
theorem gh.boK(b:Bool){c:(α->β->ai)->ai}(h:gh c):gh (fun κ=>Go.AI.boK b (c κ)):=by
 cases b
 ·exact .none
 ·exact h
theorem gh.cond(b:Bool){c d:(α->β->ai)->ai}(h:gh c)(k:gh d):gh (fun κ=>cond b (c κ) (d κ)):=by
 cases b
 ·exact k
 ·exact h
theorem rA{γ:Type}{c:(γ->β->ai)->Nat->Bool->Bool->List (List D)->ai}(H:DH)(o n:Nat)(h:∀ sz st cap l,gh (fun κ=>c κ sz st cap l)):gh (fun κ=>eD H o n (c κ)):=by
 unfold eD
 split
 ·exact gh.cond _ (h _ _ _ _) .none
 ·exact .none
theorem Lp(P:Program)(ty:TypeId)(x:LD)(v:D)(L:LS)(H:DH):gh (vQ P ty x v L H):=by
 unfold vQ
 split
 ·refine gh.cond _ ((od _ _).bind2 fun new=>?_) .none
  cases x with
  |g d=>exact(Vp _ _ _).bind2 fun H=>.ret L H
  |lp k c =>
   simp only
   split
   ·exact(vF _ _ _).bind2 fun _=>.ret _ _
   ·exact .none
  |u=>exact .none
 ·exact .none
theorem yN(place:Nat->Option (Nat×Nat))(t:T LD):∀ l cs,Al (AZ place t l cs)
 |[],cs=>.ret cs
 |(i,x)::r,cs=>by
  refine(cJ _).bind fun d=>?_
  split
  ·exact .none
  ·exact Al.cond _ ((od _ _).bind fun _=>(vF _ _ _).bind fun _=>yN place t r _) .none
theorem Ly(P:Program)(t:T LD)(ty:TypeId)(parts:List (Nat×Operand)):Al (yE P t ty parts):=by
 unfold yE
 split
 ·split
  ·exact Al.cond _ ((yN _ _ _ _).map _) .none
  ·split
   ·exact(yN _ _ _ _).map _
   ·exact .none
  ·exact .none
 ·exact .none
theorem uG(t:T LD)(n len:Nat):∀ l cs,Al (mo t n len l cs)
 |[],cs=>.ret cs
 |(i,x)::r,cs=>(cJ _).bind fun d=>Al.cond _ ((od _ _).bind fun _=>uG t n len r _) .none
theorem yO(P:Program)(t:T LD)(ty:TypeId)(len:Nat)(parts:List (Nat×Operand)):Al (gV P t ty len parts):=by
 unfold gV
 split
 ·split
  ·split
   ·exact Al.cond _ ((uG _ _ _ _ _).map _) .none
   ·exact .none
  ·exact .none
 ·exact .none
theorem Sl(x:LD):Al (RE x):=by
 cases x with
 |g d=>cases d<;>first|exact .none|exact .ret _
 |lp k c=>exact .ret _
 |u=>exact .none
theorem Sg(op:BinOp)(k:IntKind)(a b:Int):Al (Ui op k a b):=by
 cases op<;>first|exact .none|exact .ret _|exact Al.boK _ (.ret _)
theorem Sa(op:BinOp)(a b:List Nat):Al (Tj op a b):=by
 cases op<;>first|exact .none|exact .ret _|exact Al.boK _ (.ret _)
theorem Kc(P:Program){eq:TypeId->D->D->(Bool->ai)->ai}(h:∀ t x y,Al (eq t x y)):∀ fs xs ys q,Al (Ov P eq fs xs ys q)
 |[],_,_,q=>.ret q
 |f::r,xs,ys,q=>Al.cond _ .none ((fG _ _ _ _).bind fun a=>(fG _ _ _ _).bind fun b=>(h _ a b).bind fun p=>Kc P h r xs ys _)
theorem Dl(P:Program):∀ d t x y,Al (KX P d t x y)
 |0,_,_,_=>.none
 |d+1,t,x,y=>by
  show Al (fun κ=>KX P (d+1) t x y κ)
  simp only[KX]
  split
  ·split
   ·exact Al.cond _ .none (Kc P (Dl P d) _ _ _ _)
   ·exact .none
  all_goals first
   |exact .none
   |(split<;>first|exact .ret _|exact .none|exact Al.cond _ (.ret _) .none)
theorem Sb(op:BinOp)(x:D):Al (Kz op x):=by
 unfold Kz
 refine Al.cond _ ?_ .none
 split
 ·exact .ret _
 ·rename_i l;cases l<;>exact .ret _
 ·exact .none
theorem Sm(P:Program)(op:BinOp)(t:TypeId)(c:Bool)(x y:D):Al (aC P op t c x y):=by
 unfold aC
 split
 ·exact Al.cond _ .none (Al.cond _ (Sg _ _ _ _) .none)
 ·exact Sa _ _ _
 ·refine Al.cond _ ?_ .none
  split
  ·exact(Dl _ _ _ _ _).map _
  ·exact(Dl _ _ _ _ _).map _
  ·exact .none
theorem Vo(op:UnOp)(x:D):Al (jR op x):=by
 unfold jR
 split
 ·split<;>first|exact .ret _|exact .none
 ·split<;>first|exact .ret _|exact .none
 ·exact .none
theorem Pl(P:Program)(src dst:TypeId)(x:D):Al (oV P src dst x):=by
 unfold oV
 refine Al.cond _ .none ?_
 split
 ·split<;>first|exact .ret _|exact .none
 ·split<;>first|exact .ret _|exact .none
 ·exact .none
theorem Sc(P:Program)(el:TypeId)(n:Nat):gh (Nt P el n):=by
 unfold Nt
 split
 ·split
  ·exact gh.cond _ (gh.boK _ (.ret _ _)) .none
  ·exact .none
 ·exact .none
theorem iI(o:Option D)(d:Nat):Al (sP o d):=by
 unfold sP
 split
 ·exact ob _
 ·exact .none
 ·exact .ret _
theorem Dk(t:T LD)(x:Option Operand):Al (KW t x):=by
 cases x with
 |none=>exact .ret _
 |some x=>exact(cJ _).map _
theorem FT(sz:Nat)(l:List (List D))(lo hi:Option D):Al (DM sz l lo hi) :=
 (iI _ _).bind fun _=>(iI _ _).bind fun _=>Al.boK _ (.ret _)
theorem Lq(P:Program)(t:TypeId)(x:D)(lo hi mx:Option D)(H:DH):gh (cu P t x lo hi mx H):=by
 unfold cu
 split
 ·split
  ·split
   ·exact(iI _ _).bind2 fun _=>(iI _ _).bind2 fun _=>gh.boK _ (.ret _ _)
   ·exact .none
  ·exact .none
 ·split
  ·split
   ·split
    ·exact gh.cond _ ((FT _ _ _ _).bind2 fun _=>.ret _ _) .none
    ·exact rA _ _ _ fun _ _ _ _=>gh.boK _ ((FT _ _ _ _).bind2 fun _=>.ret _ _)
    ·exact(iI _ _).bind2 fun _=>(iI _ _).bind2 fun _=>gh.boK _ (.ret _ _)
    ·exact .none
   ·refine(iI _ _).bind2 fun _=>(iI _ _).bind2 fun _=>(iI _ _).bind2 fun _=>gh.cond _ ?_ .none
    split
    ·exact gh.cond _ (.ret _ _) .none
    ·exact rA _ _ _ fun _ _ _ _=>gh.boK _ (.ret _ _)
    ·exact .ret _ _
    ·exact .none
  ·exact .none
 ·exact .none
theorem Si(x:LD)(off:Nat):Al (Ri x off):=by
 cases x with
 |g d=>cases d<;>first|exact .none|exact .ret _
 |lp k c=>exact .ret _
 |u=>exact .none
theorem Lv(P:Program)(ty:TypeId)(x:LD)(f:Nat):Al (xH P ty x f):=by
 unfold xH
 split
 ·split
  ·exact Al.cond _ .none (Si _ _)
  ·exact .none
 ·exact .none
theorem Lu(P:Program)(ty:TypeId)(x:D)(f:Nat):Al (xG P ty x f):=by
 unfold xG
 split
 ·split
  ·split
   ·exact fG _ _ _ _
   ·exact .none
  ·exact .none
 ·exact .none
theorem Sf(x:D)(sz:Nat)(i:Int):Al (NQ x sz i):=by
 unfold NQ
 split
 ·exact Al.cond _ ((ob _).bind fun _=>(Di _ _).map _) .none
 ·exact Al.cond _ ((ob _).bind fun _=>Al.boK _ (.ret _)) .none
 ·exact .none
theorem Ls(P:Program)(ty:TypeId)(x i:D):Al (aJ P ty x i):=by
 unfold aJ
 split
 ·split
  ·split
   ·exact Sf _ _ _
   ·exact .none
  ·exact .none
 ·exact .none
theorem Pm(l:List Nat)(i:Nat):Al (dW l i):=by
 unfold dW
 split
 ·exact .ret _
 ·exact .none
theorem Lr(P:Program)(ty:TypeId)(x i:D):Al (iW P ty x i):=by
 unfold iW
 split
 ·split
  ·split
   ·exact(ob _).bind fun _=>Pm _ _
   ·exact .none
  ·exact .none
 ·split
  ·split
   ·split
    ·exact(ob _).bind fun _=>Al.cond _ (fG _ _ _ _) .none
    ·exact .none
   ·exact .none
  ·exact .none
 ·exact .none
theorem Ph(k:D)(es:List (D×D)):Al (At k es):=by
 unfold At
 split
 ·exact .ret _
 ·exact .none
theorem Pf(k v:D)(es:List (D×D)):Al (qx k v es):=by
 unfold qx
 split
 ·exact .ret _
 ·exact .none
theorem Bv(P:Program)(el:TypeId)(ok:Bool)(o:Option D):Al (mL P el ok o):=by
 unfold mL
 split
 ·exact .ret _
 ·split
  ·exact .ret _
  ·exact .none
theorem Pj(P:Program)(ty:TypeId)(m k:D)(ok:Bool)(H:DH):Al (qC P ty m k ok H):=by
 unfold qC
 split
 ·split
  ·exact Al.cond _ ((Dj _ _).bind fun _=>(Ph _ _).bind fun _=>Bv _ _ _ _) .none
  ·exact Bv _ _ _ _
  ·exact .none
 ·exact .none
theorem FU(P:Program)(ty:TypeId)(m k v:D)(H:DH):Al (jY P ty m k v H):=by
 unfold jY
 split
 ·split
  ·exact Al.cond _ ((Dj _ _).bind fun _=>(Pf _ _ _).map _) .none
  ·exact .none
 ·exact .none
theorem HP(P:Program)(x:D)(ty:TypeId)(ok:Bool):Al (lN P x ty ok):=by
 unfold lN
 split
 ·exact .none
 ·split
  ·refine Al.cond _ (.ret _) (Al.cond _ ?_ .none)
   split<;>first|exact .ret _|exact .none
  ·refine Al.cond _ ?_ .none
   split<;>first|exact .ret _|exact .none
  ·exact .none
 ·exact .none
theorem Sj(x:D)(i:Nat):Al (fx x i):=by
 unfold fx
 split
 ·exact Dn _ _
 ·exact .none
theorem Sk(y:D)(H:DH)(sz:Nat):Al (Fh y H sz):=by
 unfold Fh
 split
 ·exact Al.cond _ (.ret _) .none
 ·exact .ret _
 ·exact Al.cond _ (Dm _ _ _ fun _ _ _ _=>.ret _) .none
 ·exact .none
theorem Sh(o sz:Nat)(st cap:Bool)(l els:List (List D))(H:DH):gh (grow o sz st cap l els H):=by
 unfold grow
 exact gh.cond _ (.ret _ _) (.ret _ _)
theorem Sn(ok:Nat->Bool)(sz:Nat)(x:D)(els:List (List D))(H:DH):gh (cC ok sz x els H):=by
 unfold cC
 refine gh.boK _ ?_
 split
 ·split
  ·exact .ret _ _
  ·exact .ret _ _
 ·exact gh.cond _ (rA _ _ _ fun _ _ _ _=>gh.boK _ (Sh _ _ _ _ _ _ _)) .none
 ·exact .none
theorem HQ(P:Program)(sT xT:TypeId)(x y:D)(H:DH):gh (rq P sT xT x y H):=by
 unfold rq
 split
 ·refine gh.cond _ ?_ .none
  split
  ·exact gh.cond _ ((Sk _ _ _).bind2 fun _=>Sn _ _ _ _ _) .none
  ·exact .none
 ·exact .none
theorem Se(P:Program)(t:TypeId)(x:D)(H:DH):Al (bY P t x H):=by
 unfold bY
 split
 ·split<;>first|exact .ret _|exact .none
 ·split<;>first|exact .ret _|exact .none
 ·split
  ·exact(Dj _ _).map _
  ·exact .ret _
  ·exact .none
 ·exact .none
theorem Sd(g:Bool)(x y:D):Al (Ha g x y):=by
 unfold Ha
 split
 ·split
  ·exact Al.cond _ (.ret _) .none
  ·exact .none
 ·exact .none
theorem yM(g:Bool):∀ l x,Al (gO g x l)
 |[],x=>.ret x
 |y::r,x=>(Sd g x y).bind fun z=>yM g r z
theorem Kb(esc:Bool)(cs:List D)(L:LS)(H:DH):Al (KA esc cs L H):=by
 unfold KA
 exact Al.cond _ (.ret _) (.ret _)
theorem Lw(E:cU)(L:LS)(H:DH)(args:List D)(f:D):Al (Dc E L H args f):=by
 unfold Dc
 split
 ·exact Al.cond _ (.ret _) .none
 ·exact .none
theorem Pe(L:LS)(H:DH)(args:List D)(f:D):Al (HX L H args f):=by
 unfold HX
 split
 ·exact .ret _
 ·exact .none
theorem Lx(P:Program)(b:Builtin)(ts:Array TypeId)(args:List D)(L:LS)(H:DH):Al (lJ P b ts args L H):=by
 unfold lJ
 split
 ·split
  ·split
   ·split
    ·exact(HQ _ _ _ _ _ _).bind fun _ _=>.ret _
    ·exact .none
   ·exact .none
  ·exact .none
 ·split
  ·split
   ·exact(Se _ _ _ _).map _
   ·exact .none
  ·exact .none
 ·split
  ·exact(yM _ _ _).map _
  ·exact .none
 ·split
  ·exact(yM _ _ _).map _
  ·exact .none
 ·exact .ret _
 ·split
  ·exact .ret _
  ·exact .none
 ·exact .none
def Ix(t:T LD)(o:Operand)(b:Bool):T LD:=match o with
 |.tmp i=>T.set (some (.g (.bool b))) (et i) t
 |_=>t
theorem pY(t:T LD)(o:Operand)(b:Bool)(κ:T LD->ai):Mr t o b κ=κ (Ix t o b):=by
 cases o<;>first|rfl|exact T.setK_eq _ _ _ _
theorem sQ(o:Op)(E:cD)(esc:Bool)(t:T LD)(L:LS)(H:DH):gh (mA o E esc t L H):=by
 have r:∀(x:zO),gh (fun(κ:T LD->zO->ai)=>κ t x):=fun x=>.ret t x
 show gh (fun κ=>mA o E esc t L H κ)
 cases o with
 |move x=>exact(ry _).bind2 fun _=>r _
 |assign x=>exact(ry _).bind2 fun _=>r _
 |pick c a b =>
  refine(cJ _).bind2 fun d=>?_
  cases d<;>first|exact .none|skip
  rename_i q
  simp only[pY]
  cases q
  ·exact(ry _).bind2 fun _=>.ret _ _
  ·exact(ry _).bind2 fun _=>.ret _ _
 |alloc elem =>
  simp only[mA]
  split
  ·exact(Kb _ _ _ _).bind2 fun x=>r x
  ·exact .none
 |box elem x =>
  simp only[mA]
  split
  ·exact(cJ _).bind2 fun d=>(od _ _).bind2 fun cs=>(Kb _ _ _ _).bind2 fun x=>r x
  ·exact .none
 |build ty parts=>simp only[mA];exact(Ly _ _ _ _).bind2 fun _=>r _
 |buildSlice ty len parts=>simp only[mA];exact(yO _ _ _ _ _).bind2 fun _=>r _
 |load ty x=>exact(ry _).bind2 fun _=>(Pk _ _ _ _ _).bind2 fun _=>r _
 |store ty x y=>exact(ry _).bind2 fun _=>(cJ _).bind2 fun _=>fun κ out e=>(by
  obtain⟨a,b,h⟩:=Lp _ _ _ _ _ _ _ _ e
  exact⟨t,.skip a b,fun κ'=>h _⟩)
 |nilCheck x=>exact(ry _).bind2 fun _=>(Sl _).bind2 fun _=>r _
 |binOp op ty x y _ =>
  simp only[mA]
  refine(cJ _).bind2 fun _=>(cJ _).bind2 fun _=>gh.cond _ ?_ ((Sm _ _ _ _ _ _).bind2 fun _=>r _)
  split
  ·exact(Sb _ _).bind2 fun _=>r _
  ·exact .none
 |unOp op _ x=>exact(cJ _).bind2 fun _=>(Vo _ _).bind2 fun _=>r _
 |convert _ dst x=>exact(cJ _).bind2 fun _=>(Pl _ _ _ _).bind2 fun _=>r _
 |makeInterface ty x =>
  refine(cJ _).bind2 fun a=>?_
  split
  ·exact .none
  ·exact r _
  ·exact .none
 |makeFunc fn first cap =>
  simp only[mA]
  split
  ·exact(rz _ _).bind2 fun _=>(rz _ _).bind2 fun _=>r _
  ·exact .none
 |makeMap ty n=>cases n<;>first|exact r _|exact .none
 |makeSlice ty l c =>
  simp only[mA]
  split
  ·split
   ·split
    ·refine gh.cond _ ((cJ _).bind2 fun d=>?_) .none
     split
     ·exact(ob _).bind2 fun n=>fun κ out e=>(by
       obtain⟨a,b,h⟩:=Sc _ _ _ _ _ e
       exact⟨t,_,fun κ'=>h _⟩)
     ·exact .none
    ·exact .none
   ·exact .none
  ·exact .none
 |slice ty x lo hi mx=>exact(cJ _).bind2 fun _=>(Dk _ _).bind2 fun _=>(Dk _ _).bind2 fun _=>(Dk _ _).bind2 fun _=>fun κ out e=>(by
  obtain⟨a,b,h⟩:=Lq _ _ _ _ _ _ _ _ _ e
  exact⟨t,_,fun κ'=>h _⟩)
 |fieldAddr ty x f=>exact(ry _).bind2 fun _=>(Lv _ _ _ _).bind2 fun _=>r _
 |field ty x f=>exact(cJ _).bind2 fun _=>(Lu _ _ _ _).bind2 fun _=>r _
 |indexAddr ty x i=>exact(cJ _).bind2 fun _=>(cJ _).bind2 fun _=>(Ls _ _ _ _).bind2 fun _=>r _
 |index ty x i=>exact(cJ _).bind2 fun _=>(cJ _).bind2 fun _=>(Lr _ _ _ _).bind2 fun _=>r _
 |lookup ty x k ok=>exact(cJ _).bind2 fun _=>(cJ _).bind2 fun _=>(Pj _ _ _ _ _ _).bind2 fun _=>r _
 |mapUpdate ty m k x=>exact(cJ _).bind2 fun _=>(cJ _).bind2 fun _=>(cJ _).bind2 fun _=>(FU _ _ _ _ _ _).bind2 fun _=>r _
 |insert ty m k x=>exact(cJ _).bind2 fun _=>(cJ _).bind2 fun _=>(cJ _).bind2 fun _=>(FU _ _ _ _ _ _).bind2 fun _=>r _
 |typeAssert x _ ty ok=>exact(cJ _).bind2 fun _=>(HP _ _ _ _).bind2 fun _=>r _
 |extract x i=>exact(cJ _).bind2 fun _=>(Sj _ _).bind2 fun _=>r _
 |call c =>
  simp only[mA]
  refine(rz _ _).bind2 fun args=>?_
  split
  ·exact(Lx _ _ _ _ _ _).bind2 fun x=>r x
  ·refine(cJ _).bind2 fun f=>?_
   cases esc
   ·exact(Lw _ _ _ _ _).bind2 fun x=>r x
   ·exact(Pe _ _ _ _).bind2 fun x=>r x
  ·exact .none
 |defer c =>
  simp only[mA]
  refine(rz _ _).bind2 fun args=>?_
  split
  ·refine(cJ _).bind2 fun f=>?_
   split
   ·exact gh.cond _ (r _) .none
   ·exact .none
  ·exact .none
 |panic x =>
  simp only[mA]
  refine(cJ _).bind2 fun x=>?_
  split
  ·exact r _
  ·exact .none
 |_=>exact .none
theorem FV(h:Hk)(d:D)(H:DH):gh (eZ h d H):=by
 unfold eZ
 split
 ·split
  ·exact rA _ _ _ fun _ _ _ _=>gh.boK _ (.ret _ _)
  ·exact .ret _ _
  ·exact .ret _ _
  ·exact .none
 ·split
  ·exact gh.cond _ (.ret _ _) .none
  ·exact .ret _ _
  ·exact .none
theorem Lt(h:Hk)(c:Nat)(d:D)(H:DH):gh (dl h c d H):=by
 unfold dl
 split
 ·refine(Dn _ _).bind2 fun x=>fun κ out e=>?_
  obtain⟨a,b,k⟩:=FV _ _ _ _ _ e
  exact⟨_,_,fun κ'=>k _⟩
 ·exact gh.cond _ (FV _ _ _) .none
theorem gh.bind2{γ δ:Type}{c:(α->β->ai)->ai}{d:α->β->(γ->δ->ai)->ai}(h:gh c)(k:∀ a b,gh (d a b)):gh (fun κ=>c fun a b=>d a b κ):=fun κ out e=>by
 obtain⟨a,b,ha⟩:=h _ out e
 obtain⟨x,y,hx⟩:=k a b κ out ((ha _).symm.trans e)
 exact⟨x,y,fun _=>(ha _).trans (hx _)⟩
theorem Bu:∀ l d H,gh (wZ l d H)
 |[],d,H=>.ret d H
 |(c,h)::r,d,H=>(Lt h c d H).bind2 fun d H=>Bu r d H
theorem nz(hs:List (Nat×List (Nat×Hk)))(dst:Option Tmp)(x:LD)(H:DH):gh (qK hs dst x H):=by
 unfold qK
 split
 ·exact .ret _ _
 ·split
  ·exact .ret _ _
  ·split
   ·exact .ret _ _
   ·split
    ·exact(Bu _ _ _).bind2 fun _ _=>.ret _ _
    ·exact .none
end Go.AI
