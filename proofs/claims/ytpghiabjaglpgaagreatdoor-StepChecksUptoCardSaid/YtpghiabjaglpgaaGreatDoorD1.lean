/- Lemmas. No conditions. -/
import Derived.Test.YtpghiabjaglpgaaGreatDoorA6
set_option linter.all false
noncomputable section
namespace Go.AI
noncomputable section
inductive D where
 |bool (b:Bool)
 |int (k:IntKind) (n:Int)
 |str (s:List Nat)
 |ptr (o c:Nat)
 |eptr (cs:List D) (c:Nat)
 |bptr (o n i c:Nat)
 |nilptr
 |row (sz:Nat) (l:List (List D))
 |buf (sz o n:Nat)
 |nilrow
 |map (o:Nat)
 |nilmap
 |func (fn:FuncId) (first captured:List D)
 |nilFunc
 |iface (t:TypeId) (d:D)
 |nilIface
 |agg (cs:List D)
 |tuple (ds:List D)
 |yld (o:Nat)
 |abool
 deriving Inhabited
inductive LD where
 |g (d:D)
 |lp (k c:Nat)
 |u
 deriving Inhabited
inductive DB where
 |dead
 |cells (st:Nat) (cs:List D)
 |buf (sz:Nat) (st cap:Bool) (l:List (List D))
 |map (es:List (D×D))
 |coll
 |loop (rdy:Bool) (f:FuncId) (nt:Nat) (t:T LD) (ps:Array Tmp) (a b:Code)
 |opq
 deriving Inhabited
structure iD where
 v:D
 recovered:Bool
inductive fe where
 |run
 |returning
 |panicking (c:List iD)
 |round (o:Nat)
structure aeE where
 fn:FuncId
 captured:List D
 args:List D
inductive rD where
 |call (d:aeE)
 |coll (o:Nat)
inductive GP where
 |ret (d:D)
 |pan (c:List iD)
abbrev DH:=List DB
abbrev LS:=List (Nat×List D)
structure js where
 e:GP
 up:Option fe
 H:DH
abbrev au:=Option js
inductive CN where
 |val (d:LD) (L:LS) (H:DH)
 |skip (L:LS) (H:DH)
 |enter (f:FuncId) (args:List D) (L:LS) (H:DH)
 |defer (d:aeE) (L:LS) (H:DH)
 |recover (L:LS) (H:DH)
 |panic (d:D) (L:LS) (H:DH)
 |round (o:Nat) (args:List D) (L:LS) (H:DH)
inductive Hk where
 |fz (sz:Nat)
 |acc (sz:Nat)
structure jd where
 cuts:List (Nat×List Nat×List Nat)
 esc:List Nat
 hooks:List (Nat×List (Nat×Hk))
 rfz:List (Nat×Nat×Hk)
 trim:Bool
def jd.no:jd:=⟨[],[],[],[],false⟩
structure dl where
 E:dL
 an:T jd
 orc:FuncId->List D->DH->Option (D×DH)
 vo:FuncId->Bool
def dl.ann(E:dl)(f:FuncId):jd:=match E.an.get (fu f)with
 |some a=>a
 |none=>jd.no
def WH:V->Option D
 |.bool b=>some (.bool b)
 |.int k n=>some (.int k n)
 |.str l=>bif l.all (fun c=>Nat.blt c 256)then some (.str l)else none
 |.nilptr=>some .nilptr
 |.nilslice=>some .nilrow
 |.nilmap=>some .nilmap
 |.func fn a b=>match fn with
  |.func f=>bif a.isEmpty&&b.isEmpty then some (.func f [] [])else none
  |_=>none
 |.nilFunc=>some .nilFunc
 |.nilIface=>some .nilIface
 |_=>none
def NG:List V->Option (List D)
 |[]=>some []
 |v::r=>match WH v with
  |some d=>match NG r with
   |some l=>some (d::l)
   |none=>none
  |none=>none
def dOf:V->Option D
 |.agg cs=>match NG cs with
  |some l=>some (.agg l)
  |none=>none
 |v=>WH v
def D.cells:D->List D
 |.agg cs=>cs
 |d=>[d]
def qk(P:Program)(t:TypeId):Option D:=match zero P t with
 |some z=>dOf z
 |none=>none
def jx(t:T LD):Operand->Option LD
 |.tmp i=>t.get (fu i)
 |.const v=>match V.ofConst v with
  |some v=>match dOf v with
   |some d=>some (.g d)
   |none=>none
  |none=>none
 |.global _=>none
 |.func f=>some (.g (.func f [] []))
def gD(x:Option LD)(κ:D->au):au:=match x with
 |some (.g d)=>κ d
 |_=>none
def lD(x:Option LD)(κ:LD->au):au:=match x with
 |some d=>κ d
 |none=>none
def IB(t:T LD):List Operand->(List D->au)->au
 |[],κ=>κ []
 |x::r,κ=>gD (jx t x) fun d=>IB t r fun l=>κ (d::l)
def BJ(a b:au):au:=open Classical in if a=b then a else none
def brD(d:D)(a b:au):au:=match d with
 |.bool q=>cond q a b
 |.abool=>BJ a b
 |_=>none
def brS(d:D)(a b:au):au:=match d with
 |.bool q=>cond q a b
 |_=>none
def ah(cs:List D)(c:Nat)(κ:D->au):au:=match cs[c]? with
 |some d=>κ d
 |none=>none
def CX:Nat->List D->Nat->(List D->au)->au
 |0,_,_,κ=>κ []
 |n+1,cs,c,κ=>ah cs c fun d=>CX n cs (c+1) fun l=>κ (d::l)
def aj(n:Nat)(d:D)(κ:List D->au):au:=match d with
 |.agg cs=>bif Nat.beq cs.length n then κ cs else none
 |.tuple _=>none
 |d=>bif Nat.beq n 1 then κ [d] else none
def az(H:DH)(o:Nat)(κ:Nat->List D->au):au:=match H[o]? with
 |some (.cells st cs)=>κ st cs
 |_=>none
def ew(H:DH)(o n:Nat)(κ:Nat->Bool->Bool->List (List D)->au):au:=match H[o]? with
 |some (.buf sz st cap l)=>bif Nat.beq n l.length then κ sz st cap l else none
 |_=>none
def qX(H:DH)(o:Nat)(κ:List (D×D)->au):au:=match H[o]? with
 |some (.map es)=>κ es
 |_=>none
def bk(n:Int)(κ:Nat->au):au:=match n with
 |.ofNat n=>κ n
 |_=>none
def ba(l:List (List D))(i:Nat)(κ:List D->au):au:=match l[i]? with
 |some cs=>κ cs
 |none=>none
def boK(b:Bool)(κ:au):au:=bif b then κ else none
def mK:List D->Nat->List D->Option (List D)
 |cs,_,[]=>some cs
 |x::r,n+1,new=>match mK r n new with
  |some l=>some (x::l)
  |none=>none
 |_::r,0,y::new=>match mK r 0 new with
  |some l=>some (y::l)
  |none=>none
 |[],_,_::_=>none
def aE(cs:List D)(c:Nat)(new:List D)(κ:List D->au):au:=match mK cs c new with
 |some l=>κ l
 |none=>none
def cR(P:Program)(ty:TypeId)(cs:List D)(c:Nat)(κ:D->au):au:=match rj P ty with
 |some true=>match size P ty with
  |some n=>bif Nat.blt 0 n then CX n cs c fun l=>κ (.agg l)else none
  |none=>none
 |some false=>ah cs c κ
 |none=>none
def cH(P:Program)(ty:TypeId)(d:D)(H:DH)(κ:D->au):au:=match d with
 |.eptr cs c=>cR P ty cs c κ
 |.ptr o c=>az H o fun _ cs=>cR P ty cs c κ
 |.bptr o n i c=>ew H o n fun _ _ _ l=>ba l i fun cs=>cR P ty cs c κ
 |_=>none
def qx(P:Program)(ty:TypeId)(x:LD)(L:LS)(H:DH)(κ:D->au):au:=match x with
 |.lp k c=>match L[k]? with
  |some (_,cs)=>cR P ty cs c κ
  |none=>none
 |.g d=>cH P ty d H κ
 |.u=>none
def XG(d:D)(new:List D)(H:DH)(κ:DH->au):au:=match d with
 |.ptr o c=>az H o fun st cs=>aE cs c new fun cs=>κ (H.set o (.cells (st+1) cs))
 |.bptr o n i c=>ew H o n fun sz st cap l=>boK st (ba l i fun cs=>aE cs c new fun cs=>κ (H.set o (.buf sz st cap (l.set i cs))))
 |_=>none
def yU(P:Program)(ty:TypeId)(x:LD)(v:D)(L:LS)(H:DH)(κ:LS->DH->au):au:=match size P ty with
 |some n=>bif Nat.blt 0 n then aj n v fun new=>match x with
  |.lp k c=>match L[k]? with
   |some (st,cs)=>aE cs c new fun cs=>κ (L.set k (st+1,cs)) H
   |none=>none
  |.g d=>XG d new H fun H=>κ L H
  |.u=>none
  else none
 |none=>none
def DZ(place:Nat->Option (Nat×Nat))(t:T LD):List (Nat×Operand)->List D->(List D->au)->au
 |[],cs,κ=>κ cs
 |(i,x)::r,cs,κ=>gD (jx t x) fun d=>match place i with
  |none=>none
  |some (off,n)=>bif Nat.blt 0 n then aj n d fun new=>aE cs off new fun cs=>DZ place t r cs κ else none
def BG(P:Program)(t:T LD)(ty:TypeId)(parts:List (Nat×Operand))(κ:D->au):au:=match qk P ty with
 |some z=>match P.underlying ty with
  |some (.struct fs)=>bif fs.toList.all (fun f=>(size P f.type).isSome)then DZ (oX P fs) t parts z.cells fun cs=>κ (.agg cs)else none
  |some (.array _ el)=>match size P el with
   |some n=>DZ (fun i=>some (i*n,n)) t parts z.cells fun cs=>κ (.agg cs)
   |none=>none
  |_=>none
 |none=>none
def ol(t:T LD)(n len:Nat):List (Nat×Operand)->List (List D)->(List (List D)->au)->au
 |[],l,κ=>κ l
 |(i,x)::r,l,κ=>gD (jx t x) fun d=>bif Nat.blt i len then aj n d fun new=>ol t n len r (l.set i new) κ else none
def QH(n:Nat)(l:List (List D)):D:=match l with
 |[]=>.nilrow
 |x::r=>.row n (x::r)
def iW(P:Program)(t:T LD)(ty:TypeId)(len:Nat)(parts:List (Nat×Operand))(κ:D->au):au:=match P.underlying ty with
 |some (.slice el)=>match qk P el with
  |some z=>match size P el with
   |some n=>bif Nat.ble (len*n) 10000&&!(Nat.beq n 0)&&Nat.beq z.cells.length n then ol t n len parts (List.replicate len z.cells) fun l=>κ (QH n l)else none
   |none=>none
  |none=>none
 |_=>none
def CJ(d:D)(κ:D->au):au:=match d with
 |.ptr o c=>κ (.ptr o c)
 |.eptr cs c=>κ (.eptr cs c)
 |.bptr o n i c=>κ (.bptr o n i c)
 |.func f a b=>κ (.func f a b)
 |.yld o=>κ (.yld o)
 |_=>none
def WL(x:LD)(κ:LD->au):au:=match x with
 |.lp k c=>κ (.lp k c)
 |.g d=>CJ d fun d=>κ (.g d)
 |.u=>none
def ZS(op:BinOp)(k:IntKind)(a b:Int)(κ:D->au):au:=match op with
 |.add=>κ (.int k (k.wrap (a+b)))
 |.sub=>κ (.int k (k.wrap (a - b)))
 |.mul=>κ (.int k (k.wrap (a*b)))
 |.eql=>κ (.bool (a==b))
 |.neq=>κ (.bool (a != b))
 |.lss=>κ (.bool (decide (a<b)))
 |.leq=>κ (.bool (decide (a<=b)))
 |.gtr=>κ (.bool (decide (a>b)))
 |.geq=>κ (.bool (decide (a>=b)))
 |.quo=>boK (!(b==0)) (κ (.int k (k.wrap (a.tdiv b))))
 |.rem=>boK (!(b==0)) (κ (.int k (a.tmod b)))
 |_=>none
def YQ(op:BinOp)(a b:List Nat)(κ:D->au):au:=match op with
 |.add=>boK (Nat.ble (a.length+b.length) 1000000) (κ (.str (a++b)))
 |.eql=>κ (.bool (a==b))
 |.neq=>κ (.bool (!(a==b)))
 |.lss=>κ (.bool (Op.bytesLess (px a) (px b)))
 |_=>none
def Rl(P:Program)(t:TypeId)(cs:List D)(off:Nat)(κ:D->au):au:=cR P t cs off κ
def jI(P:Program)(eq:TypeId->D->D->(Bool->au)->au):List Field->List D->List D->Bool->(Bool->au)->au
 |[],_,_,q,κ=>κ q
 |f::r,xs,ys,q,κ=>bif f.name == "_" then none else Rl P f.type xs f.offset fun a=>Rl P f.type ys f.offset fun b=>eq f.type a b fun p=>jI P eq r xs ys (q&&p) κ
def IC(P:Program):Nat->TypeId->D->D->(Bool->au)->au
 |0,_,_,_,_=>none
 |d+1,t,x,y,κ=>match P.underlying t with
  |some (.struct fs)=>match x,y with
   |.agg xs,.agg ys=>bif P.stoodInHeld t then none else jI P (IC P d) fs.toList xs ys true κ
   |_,_=>none
  |some (.interface _)=>match x,y with
   |.nilIface,.nilIface=>κ true
   |.nilIface,.iface _ _=>κ false
   |.iface _ _,.nilIface=>κ false
   |_,_=>none
  |some .bool=>match x,y with
   |.bool a,.bool b=>κ (a==b)
   |_,_=>none
  |some (.int _)=>match x,y with
   |.int j a,.int k b=>bif dC j k then κ (a==b)else none
   |_,_=>none
  |some .string=>match x,y with
   |.str a,.str b=>κ (a==b)
   |_,_=>none
  |some (.pointer _)=>match x,y with
   |.nilptr,.nilptr=>κ true
   |.nilptr,.ptr _ _=>κ false
   |.nilptr,.eptr _ _=>κ false
   |.nilptr,.bptr _ _ _ _=>κ false
   |.ptr _ _,.nilptr=>κ false
   |.eptr _ _,.nilptr=>κ false
   |.bptr _ _ _ _,.nilptr=>κ false
   |_,_=>none
  |some (.func _ _ _)=>match x,y with
   |.nilFunc,.nilFunc=>κ true
   |.nilFunc,.func ..=>κ false
   |.func ..,.nilFunc=>κ false
   |_,_=>none
  |_=>none
def SE(P:Program)(op:BinOp)(t:TypeId)(c:Bool)(a b:D):Bool :=
 bif oP op then match a,b with
  |.nilIface,.nilIface=>c
  |.agg _,.agg _=>!(P.eqGuardType P.depth t)
  |_,_=>true
 else true
def aw(P:Program)(op:BinOp)(t:TypeId)(c:Bool)(x y:D)(κ:D->au):au:=match x,y with
 |.int j a,.int k b=>bif pK op then none else bif dC j k then ZS op j a b κ else none
 |.str a,.str b=>YQ op a b κ
 |x,y=>bif SE P op t c x y then(match op with
  |.eql=>IC P 20 t x y fun q=>κ (.bool q)
  |.neq=>IC P 20 t x y fun q=>κ (.bool !q)
  |_=>none)else none
def uB:Operand->Bool
 |.const c=>match V.ofConst c with
  |some .nilslice=>true
  |_=>false
 |_=>false
def acN:BinOp->Bool
 |.eql=>false
 |_=>true
def Fo(op:BinOp)(l:List (List D))(κ:D->au):au:=match l with
 |[]=>κ .abool
 |_::_=>κ (.bool (acN op))
def Oy(op:BinOp)(x:D)(κ:D->au):au:=bif oP op then(match x with
 |.nilrow=>κ .abool
 |.row _ l=>Fo op l κ
 |_=>none)else none
def eA(op:UnOp)(x:D)(κ:D->au):au:=match op with
 |.not=>match x with
  |.bool b=>κ (.bool !b)
  |_=>none
 |.neg=>match x with
  |.int k n=>κ (.int k (k.wrap (0 - n)))
  |_=>none
 |_=>none
def qI(P:Program)(a dst:TypeId)(x:D)(κ:D->au):au:=bif (P.underlying a).isNone then none else match P.underlying dst with
 |some (.int k)=>match x with
  |.int _ n=>κ (.int k (k.wrap n))
  |_=>none
 |some .string=>match x with
  |.str l=>κ (.str l)
  |_=>none
 |_=>none
def RH(P:Program)(el:TypeId)(n:Nat)(κ:List (List D)->Nat->au):au:=match qk P el with
 |some z=>match size P el with
  |some sz=>bif !(Nat.beq sz 0)&&Nat.beq z.cells.length sz then boK (Nat.ble n 2199023255552&&mu P el n) (κ (List.replicate n z.cells) sz)else none
  |none=>none
 |none=>none
def uQ(o:Option D)(d:Nat)(κ:Nat->au):au:=match o with
 |some (.int _ n)=>bk n κ
 |some _=>none
 |none=>κ d
def Pb(t:T LD):Option Operand->(Option D->au)->au
 |none,κ=>κ none
 |some x,κ=>gD (jx t x) fun d=>κ (some d)
def Hh(sz:Nat)(l:List (List D))(lo hi:Option D)(κ:D->au):au :=
 uQ hi l.length fun h=>uQ lo 0 fun b=>boK (Nat.ble h l.length&&Nat.beq b 0) (κ (.row sz (l.take h)))
def cy(P:Program)(t:TypeId)(x:D)(lo hi mx:Option D)(H:DH)(κ:D->DH->au):au:=match P.underlying t with
 |some .string=>match x with
  |.str l=>match mx with
   |none=>uQ hi l.length fun h=>uQ lo 0 fun b=>boK (Nat.ble h l.length&&Nat.ble b h) (κ (.str ((l.drop b).take (h - b))) H)
   |some _=>none
  |_=>none
 |some (.slice e)=>match size P e with
  |some sz=>match mx with
   |none=>match x with
    |.row s l=>bif Nat.beq s sz then Hh sz l lo hi fun d=>κ d H else none
    |.buf s' o n=>ew H o n fun s _ cap l=>boK (Nat.beq s' sz) (Hh sz l lo hi fun d=>κ d (H.set o (.buf s false cap l)))
    |.nilrow=>uQ hi 0 fun h=>uQ lo 0 fun b=>boK (Nat.beq h 0&&Nat.beq b 0) (κ .nilrow H)
    |_=>none
   |some m=>uQ (some m) 0 fun m=>uQ hi 0 fun h=>uQ lo 0 fun b=>bif hi.isSome&&(Nat.beq m 0&&Nat.beq h 0&&Nat.beq b 0)then(match x with
    |.row s _=>bif Nat.beq s sz then κ .nilrow H else none
    |.buf s' o n=>ew H o n fun _ _ _ _=>boK (Nat.beq s' sz) (κ .nilrow H)
    |.nilrow=>κ .nilrow H
    |_=>none)else none
  |none=>none
 |_=>none
def ct(d:D)(off:Nat)(κ:D->au):au:=match d with
 |.ptr o c=>κ (.ptr o (c+off))
 |.eptr cs c=>κ (.eptr cs (c+off))
 |.bptr o n i c=>κ (.bptr o n i (c+off))
 |_=>none
def Wf(x:LD)(off:Nat)(κ:LD->au):au:=match x with
 |.lp k c=>κ (.lp k (c+off))
 |.g d=>ct d off fun d=>κ (.g d)
 |.u=>none
def AO(P:Program)(ty:TypeId)(x:LD)(f:Nat)(κ:LD->au):au:=match P.underlying ty with
 |some (.struct fs)=>match fs[f]? with
  |some a=>bif iP a P then none else Wf x a.offset κ
  |none=>none
 |_=>none
def AN(P:Program)(ty:TypeId)(x:D)(f:Nat)(κ:D->au):au:=match P.underlying ty with
 |some (.struct fs)=>match fs[f]? with
  |some a=>match x with
   |.agg cs=>Rl P a.type cs a.offset κ
   |_=>none
  |none=>none
 |_=>none
def Sm(x:D)(sz:Nat)(i:Int)(κ:D->au):au:=match x with
 |.row s l=>bif Nat.beq s sz then bk i fun i=>ba l i fun cs=>κ (.eptr cs 0)else none
 |.buf s o n=>bif Nat.beq s sz then bk i fun i=>boK (Nat.blt i n) (κ (.bptr o n i 0))else none
 |_=>none
def aD(P:Program)(ty:TypeId)(x i:D)(κ:D->au):au:=match P.underlying ty with
 |some (.slice el)=>match size P el with
  |some sz=>match i with
   |.int _ i=>Sm x sz i κ
   |_=>none
  |none=>none
 |_=>none
def eR(l:List Nat)(i:Nat)(κ:D->au):au:=match l[i]? with
 |some c=>κ (.int .u8 (.ofNat (Nat.mod c 256)))
 |none=>none
def jZ(P:Program)(ty:TypeId)(x i:D)(κ:D->au):au:=match P.underlying ty with
 |some .string=>match x with
  |.str l=>match i with
   |.int _ i=>bk i fun i=>eR l i κ
   |_=>none
  |_=>none
 |some (.array len el)=>match x with
  |.agg cs=>match size P el with
   |some sz=>match i with
    |.int _ i=>bk i fun i=>bif Nat.blt i len then cR P el cs (Nat.mul i sz) κ else none
    |_=>none
   |none=>none
  |_=>none
 |_=>none
def Aj:D->D->Option Bool
 |.int j a,.int k b=>bif dC j k then some (a==b)else none
 |.str a,.str b=>some (a==b)
 |.bool a,.bool b=>some (a==b)
 |_,_=>none
def HM(k:D):List (D×D)->Option (Option D)
 |[]=>some none
 |(x,v)::r=>match Aj k x with
  |some true=>some (some v)
  |some false=>HM k r
  |none=>none
def Ku(k v:D):List (D×D)->Option (List (D×D))
 |[]=>some [(k,v)]
 |(x,w)::r=>match Aj k x with
  |some true=>some ((k,v)::r)
  |some false=>match Ku k v r with
   |some r=>some ((x,w)::r)
   |none=>none
  |none=>none
def vw(k:D)(es:List (D×D))(κ:Option D->au):au:=match HM k es with
 |some o=>κ o
 |none=>none
def sC(k v:D)(es:List (D×D))(κ:List (D×D)->au):au:=match Ku k v es with
 |some es=>κ es
 |none=>none
def lw(P:Program)(el:TypeId)(ok:Bool)(o:Option D)(κ:D->au):au:=match o with
 |some d=>κ (bif ok then .tuple [d,.bool true] else d)
 |none=>match qk P el with
  |some z=>κ (bif ok then .tuple [z,.bool false] else z)
  |none=>none
def Cw(d:TypeDesc):Bool:=match d with
 |.int _=>true
 |.string=>true
 |.bool=>true
 |_=>false
def yq(P:Program)(ty:TypeId):Option (TypeDesc×TypeId):=match P.underlying ty with
 |some (.map kt el)=>match P.underlying kt with
  |some d=>bif Cw d then some (d,el)else none
  |none=>none
 |_=>none
def re(td:TypeDesc)(d:D):Bool:=match td with
 |.int _=>match d with
  |.int _ _=>true
  |_=>false
 |.string=>match d with
  |.str _=>true
  |_=>false
 |.bool=>match d with
  |.bool _=>true
  |_=>false
 |_=>false
def nN(P:Program)(ty:TypeId)(m k:D)(ok:Bool)(H:DH)(κ:D->au):au:=match yq P ty with
 |some (td,el)=>match m with
  |.map o=>bif re td k then qX H o fun es=>vw k es fun r=>lw P el ok r κ else none
  |.nilmap=>lw P el ok none κ
  |_=>none
 |none=>none
def lM(P:Program)(ty:TypeId)(m k v:D)(H:DH)(κ:DH->au):au:=match yq P ty with
 |some (td,_)=>match m with
  |.map o=>bif re td k then qX H o fun es=>sC k v es fun es=>κ (H.set o (.map es))else none
  |_=>none
 |none=>none
def nD(P:Program)(x:D)(ty:TypeId)(ok:Bool)(κ:D->au):au:=match P.underlying ty with
 |some (.interface _)=>none
 |some _=>match x with
  |.iface t d=>bif Nat.beq t ty then κ (bif ok then .tuple [d,.bool true] else d)else bif ok then(match qk P ty with
   |some z=>κ (.tuple [z,.bool false])
   |none=>none)else none
  |.nilIface=>bif ok then(match qk P ty with
   |some z=>κ (.tuple [z,.bool false])
   |none=>none)else none
  |_=>none
 |none=>none
def dU(x:D)(i:Nat)(κ:D->au):au:=match x with
 |.tuple ds=>ah ds i κ
 |_=>none
def Bp(y:D)(H:DH)(sz:Nat)(κ:List (List D)->au):au:=match y with
 |.row s l=>bif Nat.beq s sz then κ l else none
 |.nilrow=>κ []
 |.buf s o n=>bif Nat.beq s sz then ew H o n fun _ _ _ l=>κ l else none
 |_=>none
def grow(o:Nat)(sz:Nat)(st cap:Bool)(l els:List (List D))(H:DH)(κ:D->DH->au):au :=
 bif cap then κ (.buf sz H.length (l.length+els.length)) (H++[.buf sz true false (l++els)])
 else κ (.buf sz o (l.length+els.length)) (H.set o (.buf sz st false (l++els)))
def cv(ok:Nat->Bool)(sz:Nat)(x:D)(els:List (List D))(H:DH)(κ:D->DH->au):au:=boK (ok els.length) (match x with
 |.nilrow=>match els with
  |[]=>κ .nilrow H
  |e::r=>κ (.buf sz H.length (r.length+1)) (H++[.buf sz true false (e::r)])
 |.buf s o n=>bif Nat.beq s sz then ew H o n fun _ st cap l=>boK (ok (l.length+els.length)&&!(cap&&els.isEmpty)) (grow o sz st cap l els H κ)else none
 |_=>none)
def tF(P:Program)(sT xT:TypeId)(x y:D)(H:DH)(κ:D->DH->au):au:=match P.underlying sT with
 |some (.slice elem)=>bif HH P xT then(match size P elem with
  |some sz=>bif uJ P elem sz then Bp y H sz fun els=>cv (aM P elem) sz x els H κ else none
  |none=>none)else none
 |_=>none
def aY(P:Program)(t:TypeId)(x:D)(H:DH)(κ:D->au):au:=match P.underlying t with
 |some .string=>match x with
  |.str l=>κ (.int .i64 l.length)
  |_=>none
 |some (.slice _)=>match x with
  |.row _ l=>κ (.int .i64 l.length)
  |.buf _ _ n=>κ (.int .i64 n)
  |.nilrow=>κ (.int .i64 0)
  |_=>none
 |some (.map _ _)=>match x with
  |.map o=>qX H o fun es=>κ (.int .i64 es.length)
  |.nilmap=>κ (.int .i64 0)
  |_=>none
 |_=>none
def Kw(g:Bool)(x y:D)(κ:D->au):au:=match x with
 |.int j a=>match y with
  |.int k b=>bif dC j k then κ (.int j (bif g then(bif decide (b>a)then b else a)else(bif decide (b<a)then b else a)))else none
  |_=>none
 |_=>none
def iN(g:Bool):D->List D->(D->au)->au
 |x,[],κ=>κ x
 |x,y::r,κ=>Kw g x y fun z=>iN g z r κ
def Oz(esc:Bool)(cs:List D)(L:LS)(H:DH)(κ:CN->au):au :=
 bif esc then κ (.val (.g (.ptr H.length 0)) L (H++[.cells 0 cs]))else κ (.val (.lp L.length 0) (L++[(0,cs)]) H)
def QD(t:T LD)(o:Operand)(b:Bool)(κ:T LD->au):au:=match o with
 |.tmp i=>t.setK (some (.g (.bool b))) (fu i) κ
 |_=>κ t
def XO(t:T LD)(L:LS)(H:DH)(c a b:Operand)(κ:T LD->CN->au):au :=
 gD (jx t c) fun d=>brS d (QD t c true fun t=>lD (jx t a) fun x=>κ t (.val x L H)) (QD t c false fun t=>lD (jx t b) fun x=>κ t (.val x L H))
def aW(E:dL)(f:FuncId):Bool:=match E.P.funcs[f]? with
 |some fn=>fn.body.isSome
 |none=>false
def Gw(E:dL)(L:LS)(H:DH)(args:List D)(f:D)(κ:CN->au):au:=match f with
 |.func g first cap=>bif aW E g then κ (.enter g (first++(args++cap)) L H)else none
 |_=>none
def Lx(L:LS)(H:DH)(args:List D)(f:D)(κ:CN->au):au:=match f with
 |.yld o=>κ (.round o args L H)
 |_=>none
def nq(P:Program)(b:Builtin)(ts:Array TypeId)(args:List D)(L:LS)(H:DH)(κ:CN->au):au:=match b with
 |.append=>match ts[0]? with
  |some a=>match ts[1]? with
   |some b=>match args with
    |[x,y]=>tF P a b x y H fun d H=>κ (.val (.g d) L H)
    |_=>none
   |none=>none
  |none=>none
 |.len=>match ts[0]? with
  |some a=>match args with
   |[x]=>aY P a x H fun d=>κ (.val (.g d) L H)
   |_=>none
  |none=>none
 |.max=>match args with
  |x::r=>iN true x r fun d=>κ (.val (.g d) L H)
  |_=>none
 |.min=>match args with
  |x::r=>iN false x r fun d=>κ (.val (.g d) L H)
  |_=>none
 |.recover=>κ (.recover L H)
 |.panic=>match args with
  |[.iface t v]=>κ (.panic (.iface t v) L H)
  |_=>none
 |_=>none
def oE:Op->dl->Bool->T LD->LS->DH->(T LD->CN->au)->au
 |.move x,_,_,t,L,H,κ=>lD (jx t x) fun d=>κ t (.val d L H)
 |.assign x,_,_,t,L,H,κ=>lD (jx t x) fun d=>κ t (.val d L H)
 |.pick c a b,_,_,t,L,H,κ=>XO t L H c a b κ
 |.alloc elem,E,esc,t,L,H,κ=>match qk E.E.P elem with
  |some z=>Oz esc z.cells L H (κ t)
  |none=>none
 |.box elem x,E,esc,t,L,H,κ=>match size E.E.P elem with
  |some n=>gD (jx t x) fun d=>aj n d fun cs=>Oz esc cs L H (κ t)
  |none=>none
 |.build ty parts,E,_,t,L,H,κ=>BG E.E.P t ty parts.toList fun d=>κ t (.val (.g d) L H)
 |.buildSlice ty len parts,E,_,t,L,H,κ=>iW E.E.P t ty len parts.toList fun d=>κ t (.val (.g d) L H)
 |.load ty x,E,_,t,L,H,κ=>lD (jx t x) fun x=>qx E.E.P ty x L H fun d=>κ t (.val (.g d) L H)
 |.store ty x y,E,_,t,L,H,κ=>lD (jx t x) fun x=>gD (jx t y) fun v=>yU E.E.P ty x v L H fun L H=>κ t (.skip L H)
 |.nilCheck x,_,_,t,L,H,κ=>lD (jx t x) fun x=>WL x fun x=>κ t (.val x L H)
 |.binOp op ty x y _,E,_,t,L,H,κ=>gD (jx t x) fun a=>gD (jx t y) fun b=>bif uB y then(match E.E.P.underlying ty with
  |some (.slice _)=>Oy op a fun d=>κ t (.val (.g d) L H)
  |_=>none)else aw E.E.P op ty (fF x||fF y) a b fun d=>κ t (.val (.g d) L H)
 |.unOp op _ x,_,_,t,L,H,κ=>gD (jx t x) fun a=>eA op a fun d=>κ t (.val (.g d) L H)
 |.convert e dst x,E,_,t,L,H,κ=>gD (jx t x) fun a=>qI E.E.P e dst a fun d=>κ t (.val (.g d) L H)
 |.makeInterface ty x,E,_,t,L,H,κ=>gD (jx t x) fun a=>match E.E.P.underlying ty with
  |some (.interface _)=>none
  |some _=>κ t (.val (.g (.iface ty a)) L H)
  |none=>none
 |.makeFunc fn first cap,_,_,t,L,H,κ=>match fn with
  |.func f=>IB t first.toList fun a=>IB t cap.toList fun b=>κ t (.val (.g (.func f a b)) L H)
  |_=>none
 |.makeMap _ none,_,_,t,L,H,κ=>κ t (.val (.g (.map H.length)) L (H++[.map []]))
 |.makeSlice ty l c,E,_,t,L,H,κ=>match E.E.P.underlying ty with
  |some (.slice el)=>match l with
   |.tmp i=>match c with
    |.tmp j=>bif Nat.beq i j then gD (jx t (.tmp i)) fun d=>match d with
     |.int _ n=>bk n fun n=>RH E.E.P el n fun l sz=>κ t (.val (.g (.buf sz H.length n)) L (H++[.buf sz true true l]))
     |_=>none
     else none
    |_=>none
   |_=>none
  |_=>none
 |.slice ty x lo hi mx,E,_,t,L,H,κ=>gD (jx t x) fun x=>Pb t lo fun lo=>Pb t hi fun hi=>Pb t mx fun mx=>cy E.E.P ty x lo hi mx H fun d H=>κ t (.val (.g d) L H)
 |.fieldAddr ty x f,E,_,t,L,H,κ=>lD (jx t x) fun x=>AO E.E.P ty x f fun x=>κ t (.val x L H)
 |.field ty x f,E,_,t,L,H,κ=>gD (jx t x) fun x=>AN E.E.P ty x f fun d=>κ t (.val (.g d) L H)
 |.indexAddr ty x i,E,_,t,L,H,κ=>gD (jx t x) fun x=>gD (jx t i) fun i=>aD E.E.P ty x i fun d=>κ t (.val (.g d) L H)
 |.index ty x i,E,_,t,L,H,κ=>gD (jx t x) fun x=>gD (jx t i) fun i=>jZ E.E.P ty x i fun d=>κ t (.val (.g d) L H)
 |.lookup ty x k ok,E,_,t,L,H,κ=>gD (jx t x) fun x=>gD (jx t k) fun k=>nN E.E.P ty x k ok H fun d=>κ t (.val (.g d) L H)
 |.mapUpdate ty m k x,E,_,t,L,H,κ=>gD (jx t m) fun m=>gD (jx t k) fun k=>gD (jx t x) fun x=>lM E.E.P ty m k x H fun H=>κ t (.skip L H)
 |.insert ty m k x,E,_,t,L,H,κ=>gD (jx t m) fun m=>gD (jx t k) fun k=>gD (jx t x) fun x=>lM E.E.P ty m k x H fun H=>κ t (.skip L H)
 |.typeAssert x _ ty ok,E,_,t,L,H,κ=>gD (jx t x) fun x=>nD E.E.P x ty ok fun d=>κ t (.val (.g d) L H)
 |.extract x i,_,_,t,L,H,κ=>gD (jx t x) fun x=>dU x i fun d=>κ t (.val (.g d) L H)
 |.call c,E,esc,t,L,H,κ=>IB t c.args.toList fun args=>match c.callee with
  |.builtin b=>nq E.E.P b c.argTypes args L H (κ t)
  |.value f=>gD (jx t f) fun f=>match esc with
   |true=>Lx L H args f (κ t)
   |false=>Gw E.E L H args f (κ t)
  |.invoke _ _=>none
 |.defer c,E,_,t,L,H,κ=>IB t c.args.toList fun args=>match c.callee with
  |.value f=>gD (jx t f) fun f=>match f with
   |.func g first cap=>bif aW E.E g then κ t (.defer ⟨g,cap,first++args⟩ L H)else none
   |_=>none
  |_=>none
 |.panic x,_,_,t,L,H,κ=>gD (jx t x) fun x=>match x with
  |.iface ty d=>κ t (.panic (.iface ty d) L H)
  |_=>none
 |_,_,_,_,_,_,_=>none
def fG(h:Hk)(d:D)(H:DH)(κ:D->DH->au):au:=match h with
 |.fz sz=>match d with
  |.buf s' o n=>ew H o n fun s _ cap l=>boK (Nat.beq s' sz) (κ (.row sz l) (H.set o (.buf s false cap l)))
  |.nilrow=>κ (.row sz []) H
  |.row s l=>κ (.row s l) H
  |_=>none
 |.acc sz=>match d with
  |.nilrow=>bif Nat.blt 0 sz then κ (.buf sz H.length 0) (H++[.buf sz true false []])else none
  |.buf s o n=>κ (.buf s o n) H
  |_=>none
def cK(h:Hk)(c:Nat)(d:D)(H:DH)(κ:D->DH->au):au:=match d with
 |.agg cs=>ah cs c fun x=>fG h x H fun y H=>κ (.agg (cs.set c y)) H
 |d=>bif Nat.beq c 0 then fG h d H κ else none
def Aq:List (Nat×Hk)->D->DH->(D->DH->au)->au
 |[],d,H,κ=>κ d H
 |(c,h)::r,d,H,κ=>cK h c d H fun d H=>Aq r d H κ
def MP{α:Type}:List (Nat×α)->Nat->Option α
 |[],_=>none
 |(j,x)::r,i=>bif Nat.beq i j then some x else MP r i
def sO(a:List (Nat×List (Nat×Hk)))(dst:Option Tmp)(x:LD)(H:DH)(κ:LD->DH->au):au:=match a with
 |[]=>κ x H
 |_::_=>match dst with
  |none=>κ x H
  |some i=>match MP a i with
   |none=>κ x H
   |some l=>match x with
    |.g d=>Aq l d H fun d H=>κ (.g d) H
    |_=>none
def Vu(i:Nat):List Nat->Bool
 |[]=>false
 |j::r=>bif Nat.beq i j then true else Vu i r
def Yp(an:jd)(dst:Option Tmp):Bool:=match an.esc with
 |[]=>false
 |l=>match dst with
  |some i=>Vu i l
  |none=>false
def kM(t:T LD)(d:Option Tmp)(x:LD)(κ:T LD->au):au:=match d with
 |some i=>t.setK (some x) (fu i) κ
 |none=>κ t
def bB(x:au)(kr:D->DH->au)(kp:List iD->DH->au):au:=match x with
 |some ⟨.ret d,_,H⟩=>kr d H
 |some ⟨.pan c,_,H⟩=>kp c H
 |none=>none
def yL(ops:Array Oper)(t:T LD)(o:Oper)(kT kF:T LD->au):au:=match o.guard with
 |none=>kT t
 |some (j,want)=>match(ops[j]?).bind (·.dst)with
  |some i=>match t.get (fu i)with
   |some (.g d)=>match want with
    |true=>brD d (t.setK (some (.g (.bool true))) (fu i) kT) (t.setK (some (.g (.bool false))) (fu i) kF)
    |false=>brD d (t.setK (some (.g (.bool true))) (fu i) kF) (t.setK (some (.g (.bool false))) (fu i) kT)
   |some .u=>kF t
   |_=>none
  |none=>none
abbrev qj:=FuncId->List D->Option fe->DH->au
abbrev Jx:=T LD->LS->List rD->Option fe->DH->au
def notRnd(up:Option fe)(r:au):au:=match up with
 |some (.round _)=>none
 |_=>r
def mF(d:Option Tmp)(t:T LD)(L:LS)(ds:List rD)(H:DH)(k:Jx):Option fe->au
 |some (.round _)=>none
 |some (.panicking (⟨v,false⟩::older))=>kM t d (.g v) fun t=>k t L ds (some (.panicking (⟨v,true⟩::older))) H
 |some m=>kM t d (.g .nilIface) fun t=>k t L ds (some m) H
 |none=>none
def Kg(an:jd)(rec:qj)(d:Option Tmp)(t:T LD)(ds:List rD)(up:Option fe)(k:Jx)(kp:List iD->Jx):CN->au
 |.val x L H=>sO an.hooks d x H fun x H=>kM t d x fun t=>k t L ds up H
 |.skip L H=>kM t d .u fun t=>k t L ds up H
 |.enter f args L H=>bB (rec f args none H) (fun x H=>sO an.hooks d (.g x) H fun x H=>kM t d x fun t=>k t L ds up H) fun c H=>kp c t L ds up H
 |.defer df L H=>notRnd up (kM t d .u fun t=>k t L (.call df::ds) up H)
 |.recover L H=>mF d t L ds H k up
 |.panic v L H=>kp [⟨v,false⟩] t L ds up H
 |.round o args L H=>bB (rec 0 args (some (.round o)) H) (fun x H=>sO an.hooks d (.g x) H fun x H=>kM t d x fun t=>k t L ds up H) fun c H=>kp c t L ds up H
def pE(E:dl)(an:jd)(ops:Array Oper)(rec:qj):List Oper->Jx->(List iD->Jx)->Jx
 |[],k,_,t,L,ds,up,H=>k t L ds up H
 |o::r,k,kp,t,L,ds,up,H=>yL ops t o
  (fun t=>oE o.op E (Yp an o.dst) t L H fun t x=>Kg an rec o.dst t ds up (pE E an ops rec r k kp) kp x)
  (fun t=>kM t o.dst .u fun t=>pE E an ops rec r k kp t L ds up H)
def nw(bs:T Nat)(i:Nat):Nat:=match bs.get (fu i)with
 |some b=>b
 |none=>0
def gr(bs:T Nat):List Tmp->Nat
 |[]=>0
 |i::r=>Nat.max (nw bs i) (gr bs r)
def Rh{β:Type}(bs:T Nat)(d:Option Tmp)(n:Nat)(κ:T Nat->β):β:=match d with
 |some i=>bs.setK (some n) (fu i) κ
 |none=>κ bs
def hJ(L:LS):List (LS×DH)->LS
 |[]=>L
 |(M,_)::r=>hJ (meet L M) r
 where meet:LS->LS->LS
  |(a,cs)::l,(b,_)::m=>bif Nat.beq a b then(a,cs)::meet l m else(a,[])::meet l m
  |(a,_)::l,[]=>(a,[])::meet l []
  |[],_=>[]
def Ci(κ:T LD->LD->LS->DH->au)(t:T LD):CN->au
 |.val x L H=>κ t x L H
 |_=>none
def rl(an:jd)(d:Option Tmp):Bool:=match an.hooks with
 |[]=>false
 |l=>match d with
  |some i=>(MP l i).isSome
  |none=>false
def DD(r:List DH)(o:Nat):DB->DB
 |.cells st cs=>open Classical in if ∀ a∈r,a[o]? = some (.cells st cs)then .cells st cs else .dead
 |_=>.dead
def Pl(r:List DH):Nat->DH->DH
 |_,[]=>[]
 |i,b::t=>DD r i b::Pl r (i+1) t
def fX(H:DH)(r:List DH):DH:=Pl r 0 H
def Dg(E:dl)(o:Oper)(a:List (LS×DH))(t:T LD)(κ:T LD->LD->au):au:=match a with
 |[]=>none
 |(L,H)::r=>match r with
  |[]=>oE o.op E false t L H fun t x=>Ci (fun t x _ _=>κ t x) t x
  |_::_=>oE o.op E false t (hJ L r) (fX H (r.map (·.2))) fun t x=>Ci (fun t x _ _=>κ t x) t x
def ru(E:dl)(an:jd)(o:Oper)(a:List (LS×DH))(n c:Nat)(bs:T Nat)(t:T LD)(L:LS)(H:DH)(κ:T LD->LD->LS->DH->Nat->au):Nat->au
 |0=>oE o.op E false t [] [] fun t x=>Ci (fun t x _ _=>κ t x L H (bif rl an o.dst then n else gr bs (sees o))) t x
 |1=>bif Nat.ble (gr bs (sees o)) (n - c)&&Nat.ble c n then Dg E o (a.take c) t fun t x=>κ t x L H (bif rl an o.dst then n else n - c)else none
 |2=>oE o.op E (Yp an o.dst) t L H fun t x=>Ci (fun t x L H=>κ t x L H n) t x
 |_=>none
def Ga(rec:qj)(t:T LD)(κ:T LD->LD->LS->DH->au):CN->au
 |.val x L H=>κ t x L H
 |.skip L H=>κ t .u L H
 |.enter f args L H=>bB (rec f args none H) (fun x H=>κ t (.g x) L H) fun _ _=>none
 |_=>none
def gJ(E:dl)(an:jd)(ops:Array Oper)(rec:qj)(k:T LD->LS->DH->au):List (Option Nat×Nat)->List (LS×DH)->Nat->T Nat->T LD->LS->DH->au
 |[],_,_,_,t,L,H=>k t L H
 |(c,i)::r,a,n,bs,t,L,H=>match ops[i]? with
  |none=>none
  |some o=>match c with
   |some c=>yL ops t o
    (fun t=>ru E an o a n c bs t L H (fun t x L H b=>sO an.hooks o.dst x H fun x H=>kM t o.dst x fun t=>Rh bs o.dst b fun bs=>gJ E an ops rec k r a n bs t L H) (aP E.E.P o.op))
    (fun t=>kM t o.dst .u fun t=>Rh bs o.dst 0 fun bs=>gJ E an ops rec k r a n bs t L H)
   |none=>yL ops t o
    (fun t=>oE o.op E false t L H fun t x=>Ga rec t (fun t x L H=>sO an.hooks o.dst x H fun x H=>kM t o.dst x fun t=>Rh bs o.dst n fun bs=>gJ E an ops rec k r ((L,H)::a) (n+1) bs t L H) x)
    (fun t=>kM t o.dst .u fun t=>Rh bs o.dst 0 fun bs=>gJ E an ops rec k r ((L,H)::a) (n+1) bs t L H)
abbrev tS:=T LD->LS->List Item->List rD->fe->Option fe->DH->au
def zl(H:DH)(o:Nat):au:=match H[o]? with
 |some (.loop _ f nt t ps a b)=>some ⟨.ret (.bool true),none,H.set o (.loop true f nt t ps a b)⟩
 |_=>none
def Ae(go:tS)(t:T LD)(L:LS)(ds:List rD)(up:Option fe)(H:DH):Option Code->au
 |none=>match up with
  |some (.round o)=>zl H o
  |up=>go t L [] ds .returning up H
 |some .ret=>notRnd up (go t L [] ds .returning up H)
 |_=>none
def Pu(H:DH)(o:Nat)(κ:DH->au):au:=match H[o]? with
 |some (.loop true f nt t ps a b)=>κ (H.set o (.loop false f nt t ps a b))
 |_=>none
def Ln(go:tS)(k:List Item)(t:T LD)(L:LS)(ds:List rD)(up:Option fe)(H:DH):au:=match up with
 |some (.round o)=>Pu H o fun H=>go t L k ds .run up H
 |_=>none
def Du(H:DH)(o:Nat)(κ:DH->au):au:=match H[o]? with
 |some (.loop true _ _ _ _ _ _)=>κ (H.set o .opq)
 |_=>none
def OP(d:D)(κ:FuncId->List D->List D->au):au:=match d with
 |.func g a b=>κ g a b
 |_=>none
def Fb(f:FuncId)(nt:Nat)(go:tS)(rec:qj)(k:List Item)(t:T LD)(L:LS)(ds:List rD)(up:Option fe)(H:DH)(ps:Array Tmp)(a b:Code)(d:D):au:=match L with
 |[]=>OP d fun g first cap=>notRnd up (bB (rec g (first++(.yld (H.length+1)::cap)) none (H++[.coll,.loop true f nt t ps a b]))
  (fun _ H'=>Du H' (H.length+1) fun H'=>go t L k (.coll H.length::ds) .run up H') fun c H'=>go t L k (.coll H.length::ds) (.panicking c) up H')
 |_=>none
def DE(go:tS)(t:T LD)(L:LS)(ds:List rD)(up:Option fe)(H:DH):Option (List Item)->au
 |some k=>go t L k ds .run up H
 |none=>none
def ma:Code->dl->jd->FuncId->Func->tS->qj->List Item->T LD->LS->List rD->Option fe->DH->au
 |.ret=>fun _ _ _ _ go _ _ t L ds up H=>Ae go t L ds up H (some .ret)
 |.skip=>fun _ _ _ _ go _ k t L ds up H=>go t L k ds .run up H
 |.label _=>fun _ _ _ _ go _ k t L ds up H=>go t L k ds .run up H
 |.seq a b=>fun _ _ _ _ go _ k t L ds up H=>go t L (.code a::.code b::k) ds .run up H
 |.cond c a b=>fun _ _ _ _ go _ k t L ds up H=>gD (jx t c) fun d=>brD d (QD t c true fun t=>go t L (.code a::k) ds .run up H) (QD t c false fun t=>go t L (.code b::k) ds .run up H)
 |.block id c=>fun _ _ _ _ go _ k t L ds up H=>go t L (.code c::.inBlock id::k) ds .run up H
 |.loop c=>fun _ _ _ _ go _ k t L ds up H=>go t L (.code c::.inLoop c::k) ds .run up H
 |.scope c=>fun _ _ _ _ go _ k t L ds up H=>go t L (.code c::.inScope c::k) ds .run up H
 |.exit id=>fun _ _ _ _ go _ k t L ds up H=>DE go t L ds up H (exitTo id k)
 |.goto l=>fun _ _ _ _ go _ k t L ds up H=>DE go t L ds up H (gotoIn l k)
 |.region _ ops true=>fun E an f fn go rec k t L ds up H=>bif lX ops fn.ntmps then(match QE E.E.P ops with
  |some sc=>gJ E an ops rec (fun t L H=>go t L k ds .run up H) sc [(L,H)] 1 .leaf t L H
  |none=>none)else none
 |.region _ ops false=>fun E an f fn go rec k t L ds up H=>bif lX ops fn.ntmps then
  pE E an ops rec ops.toList (fun t L ds up H=>go t L k ds .run up H) (fun c t L ds up H=>go t L k ds (.panicking c) up H) t L ds up H else none
 |.rangeFunc g ps a b=>fun _ _ f fn go rec k t L ds up H=>gD (jx t g) fun d=>Fb f fn.ntmps go rec k t L ds up H ps a b d
 |_=>fun _ _ _ _ _ _ _ _ _ _ _ _=>none
def Sn:Item->dl->jd->FuncId->Func->tS->qj->List Item->T LD->LS->List rD->Option fe->DH->au
 |.code c=>ma c
 |.inBlock _=>fun _ _ _ _ go _ k t L ds up H=>go t L k ds .run up H
 |.inScope _=>fun _ _ _ _ go _ k t L ds up H=>go t L k ds .run up H
 |.inLoop c=>fun _ _ _ _ go _ k t L ds up H=>go t L (.code c::.inLoop c::k) ds .run up H
 |.beginRound=>fun _ _ _ _ go _ k t L ds up H=>Ln go k t L ds up H
 |_=>fun _ _ _ _ _ _ _ _ _ _ _ _=>none
def LK:List Item->dl->jd->FuncId->Func->tS->qj->T LD->LS->List rD->Option fe->DH->au
 |[]=>fun _ _ _ _ go _ t L ds up H=>Ae go t L ds up H none
 |i::k=>fun E an f fn go rec t L ds up H=>Sn i E an f fn go rec k t L ds up H
def JY(c:List iD)(a:au)(b:List iD->au):au:=match c with
 |⟨_,true⟩::_=>a
 |c=>b c
def Lc(r:au)(a:DH->au)(b:List iD->DH->au):au:=match r with
 |some ⟨.ret _,some u,H⟩=>match u with
  |.returning=>a H
  |.panicking c=>JY c (a H) fun c=>b c H
  |_=>none
 |some ⟨.pan c,some u,H⟩=>match u with
  |.returning=>b c H
  |.panicking old=>b (c++old) H
  |_=>none
 |_=>none
def rB(go:tS)(t:T LD)(L:LS)(ds:List rD)(up:Option fe)(r:au):au:=Lc r (fun H=>go t L [] ds .returning up H) fun c H=>go t L [] ds (.panicking c) up H
def tz(H:DH)(o:Nat)(κ:DH->au):au:=match H[o]? with
 |some .coll=>κ (H.set o .opq)
 |_=>none
def oo(P:Program)(t:T LD)(L:LS)(H:DH):List ResultVar->(List D->au)->au
 |[],κ=>κ []
 |x::r,κ=>match x with
  |.tmp i=>gD (t.get (fu i)) fun d=>oo P t L H r fun l=>κ (d::l)
  |.cell a ty=>lD (t.get (fu a)) fun x=>qx P ty x L H fun d=>oo P t L H r fun l=>κ (d::l)
def UM:List (Nat×Nat×Hk)->List D->DH->(List D->DH->au)->au
 |[],l,H,κ=>κ l H
 |(i,c,h)::r,l,H,κ=>ah l i fun d=>cK h c d H fun d H=>UM r (l.set i d) H κ
def Rt:List D->D
 |[d]=>d
 |ds=>.tuple ds
def Rr(up:Option fe):Option fe:=match up with
 |some (.round _)=>none
 |up=>up
def jY(E:dl)(an:jd)(fn:Func)(t:T LD)(L:LS)(up:Option fe)(H:DH):fe->au
 |.returning=>notRnd up (oo E.E.P t L H fn.results.toList fun l=>UM an.rfz l H fun l H=>some ⟨.ret (Rt l),up,H⟩)
 |.panicking c=>some ⟨.pan c,Rr up,H⟩
 |_=>none
def jA:List rD->dl->jd->Func->tS->qj->T LD->LS->fe->Option fe->DH->au
 |.call ⟨f,cap,args⟩::ds=>fun _ _ _ go rec t L m up H=>rB go t L ds up (rec f (args++cap) (some m) H)
 |.coll o::ds=>fun _ _ _ go _ t L m up H=>tz H o fun H=>go t L [] ds m up H
 |[]=>fun E an fn _ _ t L m up H=>jY E an fn t L up H m
def uF(E:dl)(an:jd)(f:FuncId)(fn:Func)(go:tS)(rec:qj)(t:T LD)(L:LS)(todo:List Item)(ds:List rD)(m:fe)(up:Option fe)(H:DH):au:=match m with
 |.run=>LK todo E an f fn go rec t L ds up H
 |.returning=>jA ds E an fn go rec t L .returning up H
 |.panicking c=>jA ds E an fn go rec t L (.panicking c) up H
 |.round _=>none
inductive CO where
 |frame (f:FuncId) (fn:Func) (t:T LD) (L:LS) (todo:List Item) (ds:List rD) (m:fe) (up:Option fe)
 |call (f:FuncId) (args:List D) (up:Option fe)
abbrev aI:=CO->DH->au
def mV:Code->Nat
 |.region id _ _=>id
 |.seq a b=>match hasReg a with
  |true=>mV a
  |false=>mV b
 |.cond _ a b=>match hasReg a with
  |true=>mV a
  |false=>mV b
 |.block _ c=>mV c
 |.loop c=>mV c
 |.scope c=>mV c
 |_=>0
 where hasReg:Code->Bool
  |.region _ _ _=>true
  |.seq a b=>hasReg a||hasReg b
  |.cond _ a b=>hasReg a||hasReg b
  |.block _ c=>hasReg c
  |.loop c=>hasReg c
  |.scope c=>hasReg c
  |_=>false
def Yg:List Item->Option Nat
 |.code c::.inLoop _::_=>some (mV c+200000)
 |.code (.region id _ _)::_=>some id
 |.code (.cond _ a b)::_=>some (mV (.seq a b)+100000)
 |_=>none
def Yr(an:jd)(todo:List Item):Option (List Nat×List Nat):=match an.cuts with
 |[]=>none
 |l=>match Yg todo with
  |some k=>MP l k
  |none=>none
def yX(t:T LD):List Nat->(List LD->au)->au
 |[],κ=>κ []
 |i::r,κ=>lD (t.get (fu i)) fun x=>yX t r fun l=>κ (x::l)
def Yc:List Nat->List LD->T LD->T LD
 |i::r,x::l,t=>Yc r l (T.setK (some x) (fu i) t id)
 |_,_,t=>t
def sH(ks:List Nat):Nat->LS->LS
 |_,[]=>[]
 |i,(_,cs)::r=>(0,bif Vu i ks then cs else [])::sH ks (i+1) r
def nO:List Nat->Nat
 |[]=>0
 |k::r=>bif Nat.blt k (nO r)then nO r else k+1
def Dt(n:Nat):List LD->Bool
 |[]=>true
 |x::r=>(match x with
  |.lp k _=>Nat.blt k n
  |_=>true)&&Dt n r
def IT(an:jd)(ih:tS)(go:tS):tS:=fun t L todo ds m up H=>match m with
 |.run=>match Yr an todo with
  |some (live,ks)=>yX t live fun xs=>bif Dt (nO ks) xs then ih (Yc live xs .leaf) (sH ks 0 (L.take (nO ks))) todo ds m up H else none
  |none=>go t L todo ds m up H
 |m=>go t L todo ds m up H
mutual
def D.bel(n:Nat):D->Prop
 |.ptr o _=>o<n
 |.bptr o _ _ _=>o<n
 |.buf _ o _=>o<n
 |.map o=>o<n
 |.yld o=>o<n
 |.eptr cs _=>dF n cs
 |.row _ l=>dV n l
 |.func _ a b=>dF n a/\dF n b
 |.iface _ d=>d.bel n
 |.agg cs=>dF n cs
 |.tuple ds=>dF n ds
 |_=>True
def dF(n:Nat):List D->Prop
 |[]=>True
 |d::r=>d.bel n/\dF n r
def dV(n:Nat):List (List D)->Prop
 |[]=>True
 |l::r=>dF n l/\dV n r
end
def DB.bel(n:Nat):DB->Prop
 |.dead=>True
 |.cells _ cs=>dF n cs
 |.buf _ _ _ l=>dV n l
 |.map es=>∀ x∈es,x.1.bel n/\x.2.bel n
 |.loop _ _ _ t _ _ _=>∀ i d,t.get (fu i)=some (.g d)->d.bel n
 |.coll=>True
 |.opq=>True
def GP.bel(n:Nat):GP->Prop
 |.ret d=>d.bel n
 |.pan c=>∀ x∈c,x.v.bel n
def pB(H:DH)(o:js):Prop:=o.e.bel H.length/\o.up=none/\H.length<=o.H.length/\∀ i b,i<H.length->o.H[i]? = some b->H[i]? = some b\/b.bel H.length
def aX(H:DH)(r:au):au:=match r with
 |some o=>open Classical in if pB H o then some ⟨o.e,o.up,o.H.take H.length⟩else none
 |none=>none
def gS{β:Type}:List D->Nat->T LD->(T LD->β)->β
 |[],_,t,k=>k t
 |x::r,i,t,k=>t.setK (some (.g x)) (fu i) fun t=>gS r (i+1) t k
def Bn(E:dl)(go:FuncId->Func->tS)(f:FuncId)(args:List D)(up:Option fe)(H:DH):au:=match E.E.P.funcs[f]? with
 |some fn=>match fn.body with
  |some c=>bif fn.name == "runtime.NumGoroutine" || E.vo f then none else
   bif (E.ann f).trim then aX H (gS args 0 .leaf fun t=>go f fn t [] [.code c] [] .run up H)else gS args 0 .leaf fun t=>go f fn t [] [.code c] [] .run up H
  |none=>none
 |none=>none
def mG{β:Type}:T LD->List Tmp->List D->(T LD->β)->β
 |t,p::ps,x::xs,k=>t.setK (some (.g x)) (fu p) fun t=>mG t ps xs k
 |t,_,_,k=>k t
def tZ(E:dl)(go:FuncId->Func->tS)(o:Nat)(args:List D)(H:DH):au:=match H[o]? with
 |some (.loop _ f nt t ps a b)=>match E.E.P.funcs[f]? with
  |some fn=>bif Nat.ble fn.ntmps nt&&Nat.beq ps.size args.length&&ps.toList.all (fun p=>Nat.blt p nt)then
   mG t ps.toList args fun t=>go f fn t [] [.code a,.beginRound,.code b] [] .run (some (.round o)) H else none
  |none=>none
 |_=>none
def Rs(E:dl)(f:FuncId)(args:List D)(H:DH)(up:Option fe)(k:au):au:=match(match up with|none=>E.orc f args H|some _=>none)with
 |some (d,H)=>some ⟨.ret d,up,H⟩
 |none=>k
def NM(E:dl)(go:FuncId->Func->tS)(f:FuncId)(args:List D)(up:Option fe)(H:DH):au:=match up with
 |some (.round o)=>tZ E go o args H
 |up=>Rs E f args H up (Bn E go f args up H)
def PP(ih:aI)(f:FuncId)(fn:Func):tS:=fun t L todo ds m up H=>ih (.frame f fn t L todo ds m up) H
def ub(ih:aI):qj:=fun f args up H=>ih (.call f args up) H
def rQ(E:dl)(ih:aI)(go:FuncId->Func->tS):aI
 |.frame f fn t L todo ds m up,H=>uF E (E.ann f) f fn (IT (E.ann f) (PP ih f fn) (go f fn)) (ub ih) t L todo ds m up H
 |.call f args up,H=>NM E go f args up H
def dK(E:dl):Nat->aI
 |0=>fun _ _=>none
 |n+1=>rQ E (dK E n) (PP (dK E n))
def PY(E:dl)(R:aI):Nat->aI
 |0=>R
 |n+1=>rQ E R (PP (PY E R n))
end
def Al{α:Type}(c:(α->au)->au):Prop:=∀ κ out,c κ=some out->∃ a,∀ κ',c κ'=κ' a
variable{α β:Type}
def Al.ret(a:α):Al (fun κ=>κ a):=fun _ _ _=>⟨a,fun _=>rfl⟩
def Al.none:Al (fun(_:α->au)=>none):=fun _ _ h=>by cases h
def Al.bind{c:(α->au)->au}{d:α->(β->au)->au}(h:Al c)(k:∀ a,Al (d a)):Al (fun κ=>c fun a=>d a κ):=fun κ out e=>by obtain⟨a,b⟩:=h _ out e;obtain⟨x,f⟩:=k a κ out ((b _).symm.trans e);exact⟨x,fun _=>(b _).trans (f _)⟩
def Al.map{c:(α->au)->au}(h:Al c)(f:α->β):Al (fun κ=>c fun a=>κ (f a)):=h.bind fun a=>.ret (f a)
def Al.boK(b:Bool){c:(α->au)->au}(h:Al c):Al (fun κ=>boK b (c κ)):=by
 cases b
 ·exact .none
 ·exact h
def Al.cond(b:Bool){c d:(α->au)->au}(h:Al c)(k:Al d):Al (fun κ=>cond b (c κ) (d κ)):=by
 cases b
 ·exact k
 ·exact h
def dw(x:Option LD):Al (gD x):=by
 cases x with
 |none=>exact .none
 |some x=>cases x<;>first|exact .ret _|exact .none
def tI(x:Option LD):Al (lD x):=by
 cases x with
 |none=>exact .none
 |some x=>exact .ret x
def tJ(t:T LD):∀ l,Al (IB t l)
 |[]=>.ret []
 |x::r=>(dw _).bind fun d=>(tJ t r).map (d::·)
def GG(cs:List D)(c:Nat):Al (ah cs c):=by
 unfold ah;cases cs[c]? with
 |none=>exact .none
 |some d=>exact .ret d
def Jn:∀ n cs c,Al (CX n cs c)
 |0,_,_=>.ret []
 |n+1,cs,c=>(GG cs c).bind fun d=>(Jn n cs (c+1)).map (d::·)
def pY(n:Nat)(d:D):Al (aj n d):=by cases d<;>first|exact .none|exact Al.cond _ (.ret _) .none
def NX{c:(β->au)->Nat->List D->au}(H:DH)(o:Nat)(h:∀ st cs,Al (fun κ=>c κ st cs)):Al (fun κ=>az H o (c κ)):=by
 unfold az;split
 ·exact h _ _
 ·exact .none
def GF{c:(β->au)->Nat->Bool->Bool->List (List D)->au}(H:DH)(o n:Nat)(h:∀ sz st cap l,Al (fun κ=>c κ sz st cap l)):Al (fun κ=>ew H o n (c κ)):=by
 unfold ew;split
 ·exact Al.cond _ (h _ _ _ _) .none
 ·exact .none
def GC(H:DH)(o:Nat):Al (qX H o):=by
 unfold qX;split
 ·exact .ret _
 ·exact .none
def pX(n:Int):Al (bk n):=by
 cases n
 ·exact .ret _
 ·exact .none
def GB(l:List (List D))(i:Nat):Al (ba l i):=by
 unfold ba;split
 ·exact .ret _
 ·exact .none
def yG(cs:List D)(c:Nat)(new:List D):Al (aE cs c new):=by
 unfold aE;split
 ·exact .ret _
 ·exact .none
def gB(P:Program)(ty:TypeId)(cs:List D)(c:Nat):Al (cR P ty cs c):=by
 unfold cR;split
 ·split
  ·exact Al.cond _ ((Jn _ _ _).map _) .none
  ·exact .none
 ·exact GG _ _
 ·exact .none
def abo(P:Program)(ty:TypeId)(d:D)(H:DH):Al (cH P ty d H):=by
 cases d<;>first
  |exact .none
  |exact gB _ _ _ _
  |exact NX _ _ fun _ _=>gB _ _ _ _
  |exact GF _ _ _ fun _ _ _ _=>(GB _ _).bind fun _=>gB _ _ _ _
def TU(P:Program)(ty:TypeId)(x:LD)(L:LS)(H:DH):Al (qx P ty x L H):=by
 cases x with
 |g d=>exact abo _ _ _ _
 |lp k c =>
  show Al (fun κ=>qx P ty (.lp k c) L H κ);simp only[qx];split
  ·exact gB _ _ _ _
  ·exact .none
 |u=>exact .none
def abn(d:D)(new:List D)(H:DH):Al (XG d new H):=by
 cases d<;>first
  |exact .none
  |exact NX _ _ fun _ _=>(yG _ _ _).map _
  |exact GF _ _ _ fun _ st _ _=>Al.boK st ((GB _ _).bind fun _=>(yG _ _ _).map _)
def ia(c:(α->β->au)->au):Prop:=∀ κ out,c κ=some out->∃ a b,∀ κ',c κ'=κ' a b
def ia.bind{γ:Type}{c:(α->β->au)->au}{d:α->β->(γ->au)->au}(h:ia c)(k:∀ a b,Al (d a b)):Al (fun κ=>c fun a b=>d a b κ):=fun κ out e=>by obtain⟨a,b,f⟩:=h _ out e;obtain⟨x,g⟩:=k a b κ out ((f _).symm.trans e);exact⟨x,fun _=>(f _).trans (g _)⟩
def ia.ret(a:α)(b:β):ia (fun κ=>κ a b):=fun _ _ _=>⟨a,b,fun _=>rfl⟩
def ia.none:ia (fun(_:α->β->au)=>none):=fun _ _ h=>by cases h
def Al.bind2{γ:Type}{c:(γ->au)->au}{d:γ->(α->β->au)->au}(h:Al c)(k:∀ a,ia (d a)):ia (fun κ=>c fun a=>d a κ):=fun κ out e=>by obtain⟨a,b⟩:=h _ out e;obtain⟨x,y,f⟩:=k a κ out ((b _).symm.trans e);exact⟨x,y,fun _=>(b _).trans (f _)⟩
def ia.boK(b:Bool){c:(α->β->au)->au}(h:ia c):ia (fun κ=>Go.AI.boK b (c κ)):=by
 cases b
 ·exact .none
 ·exact h
def ia.cond(b:Bool){c d:(α->β->au)->au}(h:ia c)(k:ia d):ia (fun κ=>cond b (c κ) (d κ)):=by
 cases b
 ·exact k
 ·exact h
def tK{γ:Type}{c:(γ->β->au)->Nat->Bool->Bool->List (List D)->au}(H:DH)(o n:Nat)(h:∀ sz st cap l,ia (fun κ=>c κ sz st cap l)):ia (fun κ=>ew H o n (c κ)):=by
 unfold ew;split
 ·exact ia.cond _ (h _ _ _ _) .none
 ·exact .none
def Pw(P:Program)(ty:TypeId)(x:LD)(v:D)(L:LS)(H:DH):ia (yU P ty x v L H):=by
 unfold yU;split
 ·refine ia.cond _ ((pY _ _).bind2 fun new=>?_) .none;cases x with
  |g d=>exact(abn _ _ _).bind2 fun H=>.ret L H
  |lp k c =>
   simp only;split
   ·exact(yG _ _ _).bind2 fun _=>.ret _ _
   ·exact .none
  |u=>exact .none
 ·exact .none
def BQ(place:Nat->Option (Nat×Nat))(t:T LD):∀ l cs,Al (DZ place t l cs)
 |[],cs=>.ret cs
 |(i,x)::r,cs=>by
  refine(dw _).bind fun d=>?_;split
  ·exact .none
  ·exact Al.cond _ ((pY _ _).bind fun _=>(yG _ _ _).bind fun _=>BQ place t r _) .none
def PF(P:Program)(t:T LD)(ty:TypeId)(parts:List (Nat×Operand)):Al (BG P t ty parts):=by
 unfold BG;split
 ·split
  ·exact Al.cond _ ((BQ _ _ _ _).map _) .none
  ·split
   ·exact(BQ _ _ _ _).map _
   ·exact .none
  ·exact .none
 ·exact .none
def xw(t:T LD)(n len:Nat):∀ l cs,Al (ol t n len l cs)
 |[],cs=>.ret cs
 |(i,x)::r,cs=>(dw _).bind fun d=>Al.cond _ ((pY _ _).bind fun _=>xw t n len r _) .none
def BR(P:Program)(t:T LD)(ty:TypeId)(len:Nat)(parts:List (Nat×Operand)):Al (iW P t ty len parts):=by
 unfold iW;split
 ·split
  ·split
   ·exact Al.cond _ ((xw _ _ _ _ _).map _) .none
   ·exact .none
  ·exact .none
 ·exact .none
def Xr(x:LD):Al (WL x):=by
 cases x with
 |g d=>cases d<;>first|exact .none|exact .ret _
 |lp k c=>exact .ret _
 |u=>exact .none
def Xl(op:BinOp)(k:IntKind)(a b:Int):Al (ZS op k a b):=by cases op<;>first|exact .none|exact .ret _|exact Al.boK _ (.ret _)
def Xf(op:BinOp)(a b:List Nat):Al (YQ op a b):=by cases op<;>first|exact .none|exact .ret _|exact Al.boK _ (.ret _)
def NZ(P:Program){eq:TypeId->D->D->(Bool->au)->au}(h:∀ t x y,Al (eq t x y)):∀ fs xs ys q,Al (jI P eq fs xs ys q)
 |[],_,_,q=>.ret q
 |f::r,xs,ys,q=>Al.cond _ .none ((gB _ _ _ _).bind fun a=>(gB _ _ _ _).bind fun b=>(h _ a b).bind fun p=>NZ P h r xs ys _)
def GE(P:Program):∀ d t x y,Al (IC P d t x y)
 |0,_,_,_=>.none
 |d+1,t,x,y=>by
  show Al (fun κ=>IC P (d+1) t x y κ);simp only[IC];split
  ·split
   ·exact Al.cond _ .none (NZ P (GE P d) _ _ _ _)
   ·exact .none
  all_goals first
   |exact .none
   |(split<;>first|exact .ret _|exact .none|exact Al.cond _ (.ret _) .none)
def Xg(op:BinOp)(x:D):Al (Oy op x):=by
 unfold Oy;refine Al.cond _ ?_ .none;split
 ·exact .ret _
 ·rename_i l;cases l<;>exact .ret _
 ·exact .none
def Xs(P:Program)(op:BinOp)(t:TypeId)(c:Bool)(x y:D):Al (aw P op t c x y):=by
 unfold aw;split
 ·exact Al.cond _ .none (Al.cond _ (Xl _ _ _ _) .none)
 ·exact Xf _ _ _
 ·refine Al.cond _ ?_ .none;split
  ·exact(GE _ _ _ _ _).map _
  ·exact(GE _ _ _ _ _).map _
  ·exact .none
def abm(op:UnOp)(x:D):Al (eA op x):=by
 unfold eA;split
 ·split<;>first|exact .ret _|exact .none
 ·split<;>first|exact .ret _|exact .none
 ·exact .none
def TV(P:Program)(a dst:TypeId)(x:D):Al (qI P a dst x):=by
 unfold qI;refine Al.cond _ .none ?_;split
 ·split<;>first|exact .ret _|exact .none
 ·split<;>first|exact .ret _|exact .none
 ·exact .none
def Xh(P:Program)(el:TypeId)(n:Nat):ia (RH P el n):=by
 unfold RH;split
 ·split
  ·exact ia.cond _ (ia.boK _ (.ret _ _)) .none
  ·exact .none
 ·exact .none
def jM(o:Option D)(d:Nat):Al (uQ o d):=by
 unfold uQ;split
 ·exact pX _
 ·exact .none
 ·exact .ret _
def GD(t:T LD)(x:Option Operand):Al (Pb t x):=by
 cases x with
 |none=>exact .ret _
 |some x=>exact(dw _).map _
def Jo(sz:Nat)(l:List (List D))(lo hi:Option D):Al (Hh sz l lo hi) :=
 (jM _ _).bind fun _=>(jM _ _).bind fun _=>Al.boK _ (.ret _)
def Px(P:Program)(t:TypeId)(x:D)(lo hi mx:Option D)(H:DH):ia (cy P t x lo hi mx H):=by
 unfold cy;split
 ·split
  ·split
   ·exact(jM _ _).bind2 fun _=>(jM _ _).bind2 fun _=>ia.boK _ (.ret _ _)
   ·exact .none
  ·exact .none
 ·split
  ·split
   ·split
    ·exact ia.cond _ ((Jo _ _ _ _).bind2 fun _=>.ret _ _) .none
    ·exact tK _ _ _ fun _ _ _ _=>ia.boK _ ((Jo _ _ _ _).bind2 fun _=>.ret _ _)
    ·exact(jM _ _).bind2 fun _=>(jM _ _).bind2 fun _=>ia.boK _ (.ret _ _)
    ·exact .none
   ·refine(jM _ _).bind2 fun _=>(jM _ _).bind2 fun _=>(jM _ _).bind2 fun _=>ia.cond _ ?_ .none;split
    ·exact ia.cond _ (.ret _ _) .none
    ·exact tK _ _ _ fun _ _ _ _=>ia.boK _ (.ret _ _)
    ·exact .ret _ _
    ·exact .none
  ·exact .none
 ·exact .none
def Xo(x:LD)(off:Nat):Al (Wf x off):=by
 cases x with
 |g d=>cases d<;>first|exact .none|exact .ret _
 |lp k c=>exact .ret _
 |u=>exact .none
def PC(P:Program)(ty:TypeId)(x:LD)(f:Nat):Al (AO P ty x f):=by
 unfold AO;split
 ·split
  ·exact Al.cond _ .none (Xo _ _)
  ·exact .none
 ·exact .none
def PB(P:Program)(ty:TypeId)(x:D)(f:Nat):Al (AN P ty x f):=by
 unfold AN;split
 ·split
  ·split
   ·exact gB _ _ _ _
   ·exact .none
  ·exact .none
 ·exact .none
def Xk(x:D)(sz:Nat)(i:Int):Al (Sm x sz i):=by
 unfold Sm;split
 ·exact Al.cond _ ((pX _).bind fun _=>(GB _ _).map _) .none
 ·exact Al.cond _ ((pX _).bind fun _=>Al.boK _ (.ret _)) .none
 ·exact .none
def Pz(P:Program)(ty:TypeId)(x i:D):Al (aD P ty x i):=by
 unfold aD;split
 ·split
  ·split
   ·exact Xk _ _ _
   ·exact .none
  ·exact .none
 ·exact .none
def TW(l:List Nat)(i:Nat):Al (eR l i):=by
 unfold eR;split
 ·exact .ret _
 ·exact .none
def Py(P:Program)(ty:TypeId)(x i:D):Al (jZ P ty x i):=by
 unfold jZ;split
 ·split
  ·split
   ·exact(pX _).bind fun _=>TW _ _
   ·exact .none
  ·exact .none
 ·split
  ·split
   ·split
    ·exact(pX _).bind fun _=>Al.cond _ (gB _ _ _ _) .none
    ·exact .none
   ·exact .none
  ·exact .none
 ·exact .none
def TS(k:D)(es:List (D×D)):Al (vw k es):=by
 unfold vw;split
 ·exact .ret _
 ·exact .none
def TQ(k v:D)(es:List (D×D)):Al (sC k v es):=by
 unfold sC;split
 ·exact .ret _
 ·exact .none
def Eu(P:Program)(el:TypeId)(ok:Bool)(o:Option D):Al (lw P el ok o):=by
 unfold lw;split
 ·exact .ret _
 ·split
  ·exact .ret _
  ·exact .none
def TT(P:Program)(ty:TypeId)(m k:D)(ok:Bool)(H:DH):Al (nN P ty m k ok H):=by
 unfold nN;split
 ·split
  ·exact Al.cond _ ((GC _ _).bind fun _=>(TS _ _).bind fun _=>Eu _ _ _ _) .none
  ·exact Eu _ _ _ _
  ·exact .none
 ·exact .none
def Jp(P:Program)(ty:TypeId)(m k v:D)(H:DH):Al (lM P ty m k v H):=by
 unfold lM;split
 ·split
  ·exact Al.cond _ ((GC _ _).bind fun _=>(TQ _ _ _).map _) .none
  ·exact .none
 ·exact .none
def Lq(P:Program)(x:D)(ty:TypeId)(ok:Bool):Al (nD P x ty ok):=by
 unfold nD;split
 ·exact .none
 ·split
  ·refine Al.cond _ (.ret _) (Al.cond _ ?_ .none);split<;>first|exact .ret _|exact .none
  ·refine Al.cond _ ?_ .none;split<;>first|exact .ret _|exact .none
  ·exact .none
 ·exact .none
def Xp(x:D)(i:Nat):Al (dU x i):=by
 unfold dU;split
 ·exact GG _ _
 ·exact .none
def Xq(y:D)(H:DH)(sz:Nat):Al (Bp y H sz):=by
 unfold Bp;split
 ·exact Al.cond _ (.ret _) .none
 ·exact .ret _
 ·exact Al.cond _ (GF _ _ _ fun _ _ _ _=>.ret _) .none
 ·exact .none
def Xm(o sz:Nat)(st cap:Bool)(l els:List (List D))(H:DH):ia (grow o sz st cap l els H):=by unfold grow;exact ia.cond _ (.ret _ _) (.ret _ _)
def Xt(ok:Nat->Bool)(sz:Nat)(x:D)(els:List (List D))(H:DH):ia (cv ok sz x els H):=by
 unfold cv;refine ia.boK _ ?_;split
 ·split
  ·exact .ret _ _
  ·exact .ret _ _
 ·exact ia.cond _ (tK _ _ _ fun _ _ _ _=>ia.boK _ (Xm _ _ _ _ _ _ _)) .none
 ·exact .none
def Lr(P:Program)(sT xT:TypeId)(x y:D)(H:DH):ia (tF P sT xT x y H):=by
 unfold tF;split
 ·refine ia.cond _ ?_ .none;split
  ·exact ia.cond _ ((Xq _ _ _).bind2 fun _=>Xt _ _ _ _ _) .none
  ·exact .none
 ·exact .none
def Xj(P:Program)(t:TypeId)(x:D)(H:DH):Al (aY P t x H):=by
 unfold aY;split
 ·split<;>first|exact .ret _|exact .none
 ·split<;>first|exact .ret _|exact .none
 ·split
  ·exact(GC _ _).map _
  ·exact .ret _
  ·exact .none
 ·exact .none
def Xi(g:Bool)(x y:D):Al (Kw g x y):=by
 unfold Kw;split
 ·split
  ·exact Al.cond _ (.ret _) .none
  ·exact .none
 ·exact .none
def BP(g:Bool):∀ l x,Al (iN g x l)
 |[],x=>.ret x
 |y::r,x=>(Xi g x y).bind fun z=>BP g r z
def NY(esc:Bool)(cs:List D)(L:LS)(H:DH):Al (Oz esc cs L H):=by unfold Oz;exact Al.cond _ (.ret _) (.ret _)
def PD(E:dL)(L:LS)(H:DH)(args:List D)(f:D):Al (Gw E L H args f):=by
 unfold Gw;split
 ·exact Al.cond _ (.ret _) .none
 ·exact .none
def TP(L:LS)(H:DH)(args:List D)(f:D):Al (Lx L H args f):=by
 unfold Lx;split
 ·exact .ret _
 ·exact .none
def PE(P:Program)(b:Builtin)(ts:Array TypeId)(args:List D)(L:LS)(H:DH):Al (nq P b ts args L H):=by
 unfold nq;split
 ·split
  ·split
   ·split
    ·exact(Lr _ _ _ _ _ _).bind fun _ _=>.ret _
    ·exact .none
   ·exact .none
  ·exact .none
 ·split
  ·split
   ·exact(Xj _ _ _ _).map _
   ·exact .none
  ·exact .none
 ·split
  ·exact(BP _ _ _).map _
  ·exact .none
 ·split
  ·exact(BP _ _ _).map _
  ·exact .none
 ·exact .ret _
 ·split
  ·exact .ret _
  ·exact .none
 ·exact .none
def Me(t:T LD)(o:Operand)(b:Bool):T LD:=match o with
 |.tmp i=>T.set (some (.g (.bool b))) (fu i) t
 |_=>t
def rV(t:T LD)(o:Operand)(b:Bool)(κ:T LD->au):QD t o b κ=κ (Me t o b):=by cases o<;>first|rfl|exact T.setK_eq _ _ _ _
def uR(o:Op)(E:dl)(esc:Bool)(t:T LD)(L:LS)(H:DH):ia (oE o E esc t L H):=by
 have r:∀(x:CN),ia (fun(κ:T LD->CN->au)=>κ t x):=fun x=>.ret t x;show ia (fun κ=>oE o E esc t L H κ);cases o with
 |move x=>exact(tI _).bind2 fun _=>r _
 |assign x=>exact(tI _).bind2 fun _=>r _
 |pick c a b =>
  refine(dw _).bind2 fun d=>?_;cases d<;>first|exact .none|skip
  rename_i q;simp only[rV];cases q
  ·exact(tI _).bind2 fun _=>.ret _ _
  ·exact(tI _).bind2 fun _=>.ret _ _
 |alloc elem =>
  simp only[oE];split
  ·exact(NY _ _ _ _).bind2 fun x=>r x
  ·exact .none
 |box elem x =>
  simp only[oE];split
  ·exact(dw _).bind2 fun d=>(pY _ _).bind2 fun cs=>(NY _ _ _ _).bind2 fun x=>r x
  ·exact .none
 |build ty parts=>simp only[oE];exact(PF _ _ _ _).bind2 fun _=>r _
 |buildSlice ty len parts=>simp only[oE];exact(BR _ _ _ _ _).bind2 fun _=>r _
 |load ty x=>exact(tI _).bind2 fun _=>(TU _ _ _ _ _).bind2 fun _=>r _
 |store ty x y=>exact(tI _).bind2 fun _=>(dw _).bind2 fun _=>fun κ out e=>(by obtain⟨a,b,h⟩:=Pw _ _ _ _ _ _ _ _ e;exact⟨t,.skip a b,fun κ'=>h _⟩)
 |nilCheck x=>exact(tI _).bind2 fun _=>(Xr _).bind2 fun _=>r _
 |binOp op ty x y _ =>
  simp only[oE];refine(dw _).bind2 fun _=>(dw _).bind2 fun _=>ia.cond _ ?_ ((Xs _ _ _ _ _ _).bind2 fun _=>r _);split
  ·exact(Xg _ _).bind2 fun _=>r _
  ·exact .none
 |unOp op _ x=>exact(dw _).bind2 fun _=>(abm _ _).bind2 fun _=>r _
 |convert _ dst x=>exact(dw _).bind2 fun _=>(TV _ _ _ _).bind2 fun _=>r _
 |makeInterface ty x =>
  refine(dw _).bind2 fun a=>?_;split
  ·exact .none
  ·exact r _
  ·exact .none
 |makeFunc fn first cap =>
  simp only[oE];split
  ·exact(tJ _ _).bind2 fun _=>(tJ _ _).bind2 fun _=>r _
  ·exact .none
 |makeMap ty n=>cases n<;>first|exact r _|exact .none
 |makeSlice ty l c =>
  simp only[oE];split
  ·split
   ·split
    ·refine ia.cond _ ((dw _).bind2 fun d=>?_) .none;split
     ·exact(pX _).bind2 fun n=>fun κ out e=>(by obtain⟨a,b,h⟩:=Xh _ _ _ _ _ e;exact⟨t,_,fun κ'=>h _⟩)
     ·exact .none
    ·exact .none
   ·exact .none
  ·exact .none
 |slice ty x lo hi mx=>exact(dw _).bind2 fun _=>(GD _ _).bind2 fun _=>(GD _ _).bind2 fun _=>(GD _ _).bind2 fun _=>fun κ out e=>(by obtain⟨a,b,h⟩:=Px _ _ _ _ _ _ _ _ _ e;exact⟨t,_,fun κ'=>h _⟩)
 |fieldAddr ty x f=>exact(tI _).bind2 fun _=>(PC _ _ _ _).bind2 fun _=>r _
 |field ty x f=>exact(dw _).bind2 fun _=>(PB _ _ _ _).bind2 fun _=>r _
 |indexAddr ty x i=>exact(dw _).bind2 fun _=>(dw _).bind2 fun _=>(Pz _ _ _ _).bind2 fun _=>r _
 |index ty x i=>exact(dw _).bind2 fun _=>(dw _).bind2 fun _=>(Py _ _ _ _).bind2 fun _=>r _
 |lookup ty x k ok=>exact(dw _).bind2 fun _=>(dw _).bind2 fun _=>(TT _ _ _ _ _ _).bind2 fun _=>r _
 |mapUpdate ty m k x=>exact(dw _).bind2 fun _=>(dw _).bind2 fun _=>(dw _).bind2 fun _=>(Jp _ _ _ _ _ _).bind2 fun _=>r _
 |insert ty m k x=>exact(dw _).bind2 fun _=>(dw _).bind2 fun _=>(dw _).bind2 fun _=>(Jp _ _ _ _ _ _).bind2 fun _=>r _
 |typeAssert x _ ty ok=>exact(dw _).bind2 fun _=>(Lq _ _ _ _).bind2 fun _=>r _
 |extract x i=>exact(dw _).bind2 fun _=>(Xp _ _).bind2 fun _=>r _
 |call c =>
  simp only[oE];refine(tJ _ _).bind2 fun args=>?_;split
  ·exact(PE _ _ _ _ _ _).bind2 fun x=>r x
  ·refine(dw _).bind2 fun f=>?_;cases esc
   ·exact(PD _ _ _ _ _).bind2 fun x=>r x
   ·exact(TP _ _ _ _).bind2 fun x=>r x
  ·exact .none
 |defer c =>
  simp only[oE];refine(tJ _ _).bind2 fun args=>?_;split
  ·refine(dw _).bind2 fun f=>?_;split
   ·exact ia.cond _ (r _) .none
   ·exact .none
  ·exact .none
 |panic x =>
  simp only[oE];refine(dw _).bind2 fun x=>?_;split
  ·exact r _
  ·exact .none
 |_=>exact .none
def Jq(h:Hk)(d:D)(H:DH):ia (fG h d H):=by
 unfold fG;split
 ·split
  ·exact tK _ _ _ fun _ _ _ _=>ia.boK _ (.ret _ _)
  ·exact .ret _ _
  ·exact .ret _ _
  ·exact .none
 ·split
  ·exact ia.cond _ (.ret _ _) .none
  ·exact .ret _ _
  ·exact .none
def PA(h:Hk)(c:Nat)(d:D)(H:DH):ia (cK h c d H):=by
 unfold cK;split
 ·refine(GG _ _).bind2 fun x=>fun κ out e=>?_;obtain⟨a,b,k⟩:=Jq _ _ _ _ _ e;exact⟨_,_,fun κ'=>k _⟩
 ·exact ia.cond _ (Jq _ _ _) .none
def ia.bind2{γ δ:Type}{c:(α->β->au)->au}{d:α->β->(γ->δ->au)->au}(h:ia c)(k:∀ a b,ia (d a b)):ia (fun κ=>c fun a b=>d a b κ):=fun κ out e=>by obtain⟨a,b,f⟩:=h _ out e;obtain⟨x,y,g⟩:=k a b κ out ((f _).symm.trans e);exact⟨x,y,fun _=>(f _).trans (g _)⟩
def Et:∀ l d H,ia (Aq l d H)
 |[],d,H=>.ret d H
 |(c,h)::r,d,H=>(PA h c d H).bind2 fun d H=>Et r d H
def pz(a:List (Nat×List (Nat×Hk)))(dst:Option Tmp)(x:LD)(H:DH):ia (sO a dst x H):=by
 unfold sO;split
 ·exact .ret _ _
 ·split
  ·exact .ret _ _
  ·split
   ·exact .ret _ _
   ·split
    ·exact(Et _ _ _).bind2 fun _ _=>.ret _ _
    ·exact .none
end Go.AI
