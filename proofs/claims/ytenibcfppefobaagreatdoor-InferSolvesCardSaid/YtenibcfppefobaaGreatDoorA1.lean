/- Evaluators by which runs of the program are reckoned, that they are sound, and what the functions answer: part 1. No conditions beyond those of the row. -/
import GoSem.Step
import Derived.Laws.Sem
import Derived.Laws.World
import Derived.Laws.Cells
import Derived.Laws.Entries
import Derived.Laws.StructEq
import Derived.Laws.Tables
import Derived.Laws.IdiomStrings
import Derived.Lib.Bytealg
import Derived.Defers
import Derived.Recover
import Derived.RangeFuncRecord
set_option linter.all false
noncomputable section
namespace Go.AI
structure Ad where
 f:Nat
 v:Nat
 c:Nat
 deriving Inhabited
inductive V where
 |bool (b:Bool)
 |int (k:IntKind) (n:Int)
 |str (s:List Nat)
 |ptr (a:Ad)
 |nilptr
 |slice (a:Ad) (z:Nat) (len:Nat) (cap:Option Nat) (sz:Nat)
 |nilslice
 |map (r:Nat)
 |nilmap
 |func (fn:Fn) (first captured:List V)
 |nilFunc
 |iface (t:TypeId) (v:V)
 |nilIface
 |agg (cs:List V)
 |tuple (vs:List V)
 |atom (i:Nat)      -- stands for a value of one cell that is not known
 deriving Inhabited
def V.undef:V:=.tuple []
def V.ofCell:Value->Option V
 |.bool b=>some (.bool b)
 |.int k n=>some (.int k n)
 |.string s=>some (.str (s.data.toList.map UInt8.toNat))
 |.pointer a=>match a with
  |none=>some .nilptr
  |some _=>none
 |.slice a n c=>match a with
  |none=>bif Nat.beq n 0&&Nat.beq c 0 then some .nilslice else none
  |some _=>none
 |.map a=>match a with
  |none=>some .nilmap
  |some _=>none
 |.nilFunc=>some .nilFunc
 |.nilIface=>some .nilIface
 |.func fn a b=>match fn with
  |.func f=>bif a.toList.isEmpty&&b.toList.isEmpty then some (.func (.func f) [] [])else none
  |_=>none
 |_=>none
def V.ofCells:List Value->Option (List V)
 |[]=>some []
 |x::r=>match V.ofCell x with
  |some v=>match V.ofCells r with
   |some l=>some (v::l)
   |none=>none
  |none=>none
def V.ofConst:Value->Option V
 |.agg cs=>match V.ofCells cs.toList with
  |some l=>some (.agg l)
  |none=>none
 |v=>V.ofCell v
def V.cells:V->List V
 |.agg cs=>cs
 |v=>[v]
inductive zf where
 |o
 |l (p:zf)
 |r (p:zf)
def zp:Nat->Nat->zf
 |0,_=>.o
 |n+1,k=>match k with
  |0=>.o
  |m+1=>bif Nat.beq (Nat.mod m 2) 1 then .r (zp n (Nat.div m 2))else .l (zp n (Nat.div m 2))
def eQ(k:Nat):zf:=zp k k
inductive T(α:Type) where
 |leaf
 |node (l:T α) (v:Option α) (r:T α)
 deriving Inhabited
namespace T
variable{α:Type}
def get(t:T α)(p:zf):Option α :=
 zf.rec (motive:=fun _=>T α->Option α)
  (fun t=>T.rec (motive:=fun _=>Option α) none (fun _ v _ _ _=>v) t)
  (fun _ ih t=>T.rec (motive:=fun _=>Option α) none (fun l _ _ _ _=>ih l) t)
  (fun _ ih t=>T.rec (motive:=fun _=>Option α) none (fun _ _ r _ _=>ih r) t) p t
def setK{β:Type}(x:Option α)(p:zf)(t:T α)(k:T α->β):β :=
 zf.rec (motive:=fun _=>T α->(T α->β)->β)
  (fun t k=>T.rec (motive:=fun _=>β) (k (.node .leaf x .leaf)) (fun l _ r _ _=>k (.node l x r)) t)
  (fun _ ih t k=>T.rec (motive:=fun _=>β) (ih .leaf fun t=>k (.node t none .leaf)) (fun l v r _ _=>ih l fun t=>k (.node t v r)) t)
  (fun _ ih t k=>T.rec (motive:=fun _=>β) (ih .leaf fun t=>k (.node .leaf none t)) (fun l v r _ _=>ih r fun t=>k (.node l v t)) t) p t k
end T
structure mK where
 v:Nat
 lo:Nat
 cells:List V
 deriving Inhabited
structure oY where
 key:V
 val:V
 born:Nat
 deriving Inhabited
inductive dS where
 |cells (elem:TypeId) (sb:Bool) (nextv:Nat) (vers:List mK)      -- sb: made of a text's bytes
 |ro (vers:List mK)      -- what came in: it is only Vq
 |map (es:List oY) (clock:Nat)
 |loop (st:LoopState) (pending:Option Code) (fn:FuncId) (tmps:T V) (params:Array Tmp) (assign body:Code) (dfr:Nat) (nt:Nat)
 |deferred
 |gone
 deriving Inhabited
structure S where
 h:T dS
 next:Nat
 deriving Inhabited
def CC{β:Type}(n:Nat)(k:Nat->β):β:=match n with
 |0=>k 0
 |m+1=>k (m+1)
def Hg{β:Type}(n:Int)(k:Int->β):β:=match n with
 |.ofNat m=>CC m fun m=>k (.ofNat m)
 |.negSucc m=>CC m fun m=>k (.negSucc m)
def nE(k:IntKind)(n:Int):V:=Hg n fun n=>.int k n
def S.get(s:S)(f:Nat):Option dS:=match s with|⟨h,_⟩=>h.get (eQ f)
def S.put(s:S)(f:Nat)(b:dS):S:=match s with|⟨h,n⟩=>h.setK (some b) (eQ f) fun h=>⟨h,n⟩
def S.alloc(s:S)(b:dS):S:=match s with|⟨h,n⟩=>h.setK (some b) (eQ n) fun h=>CC (n+1) fun n=>⟨h,n⟩
def aY(sb:Bool)(s:S)(elem:TypeId)(cs:List V):Ad×S:=(⟨s.next,0,0⟩,s.alloc (.cells elem sb 1 [⟨0,0,cs⟩]))
def ba(s:S)(elem:TypeId)(cs:List V):Ad×S:=aY false s elem cs
def bu:List mK->Nat->Option mK
 |[],_=>none
 |u::r,v=>bif Nat.beq u.v v then some u else bu r v
def aU:Nat->List V->Option (List V)
 |0,_=>some []
 |n+1,x::r=>(aU n r).map (x::·)
 |_+1,[]=>none
def loadCells(s:S)(a:Ad)(n:Nat):Option (List V) :=
 match s.get a.f with
 |some (.cells _ _ _ vers) =>
  match bu vers a.v with
  |some u=>bif Nat.ble u.lo a.c then aU n (u.cells.drop (a.c - u.lo))else none
  |none=>none
 |some (.ro vers) =>
  match bu vers a.v with
  |some u=>bif Nat.ble u.lo a.c then aU n (u.cells.drop (a.c - u.lo))else none
  |none=>none
 |_=>none
def nH(s:S)(a:Ad):Option V :=
 match s.get a.f with
 |some (.cells _ _ _ vers) =>
  match bu vers a.v with
  |some u=>bif Nat.ble u.lo a.c then u.cells[a.c - u.lo]? else none
  |none=>none
 |some (.ro vers) =>
  match bu vers a.v with
  |some u=>bif Nat.ble u.lo a.c then u.cells[a.c - u.lo]? else none
  |none=>none
 |_=>none
def bX:List V->Nat->List V->Option (List V)
 |cs,_,[]=>some cs
 |x::r,n+1,new=>(bX r n new).map (x::·)
 |_::r,0,y::new=>(bX r 0 new).map (y::·)
 |[],_,_::_=>none
def V.one:V->Bool
 |.agg _=>false
 |.tuple _=>false
 |_=>true
def storeCells(s:S)(a:Ad)(new:List V):Option S :=
 match s.get a.f with
 |some (.cells e sb nv vers) =>
  match bu vers a.v with
  |some u=>bif Nat.ble u.lo a.c&&new.all V.one then
   match bX u.cells (a.c - u.lo) new with
   |some cs=>some (s.put a.f (.cells e sb nv [⟨u.v,u.lo,cs⟩]))
   |none=>none
   else none
  |none=>none
 |_=>none
section types
variable(P:Program)
def size(t:TypeId):Option Nat:=(P.info? t).map (·.size)
def zero(t:TypeId):Option V:=((P.info? t).bind (·.zero)).bind V.ofConst
def pY(t:TypeId):Option Bool:=(P.underlying t).map fun|.struct _=>true|.array _ _=>true|_=>false
def loadVar(s:S)(t:TypeId)(a:Ad):Option V :=
 match pY P t with
 |some true=>(size P t).bind fun n=>(loadCells s a n).map .agg
 |some false=>nH s a
 |none=>none
def storeVar(s:S)(t:TypeId)(a:Ad)(v:V):Option S :=
 match size P t with
 |some n=>bif Nat.beq v.cells.length n then storeCells s a v.cells else none
 |none=>none
def ue(t:TypeId)(cs:List V)(off:Nat):Option V :=
 match pY P t with
 |some true=>(size P t).map fun n=>.agg ((cs.drop off).take n)
 |some false=>cs[off]?
 |none=>none
end types
def kK:List Nat->List Nat->Option Bool
 |[],[]=>some true
 |a::x,b::y=>bif Nat.beq a b then kK x y else bif Nat.blt a 256&&Nat.blt b 256 then some false else none
 |_,_=>some false
def oh(l:List Nat):List UInt8:=l.map UInt8.ofNat
def dF(j k:IntKind):Bool:=decide (j=k)
def jf(P:Program)(eq:TypeId->V->V->Option Bool):List Field->List V->List V->Option Bool
 |[],_,_=>some true
 |f::r,xs,ys=>bif f.name == "_" then none else
  match ue P f.type xs f.offset,ue P f.type ys f.offset with
  |some a,some b=>match eq f.type a b with
   |some true=>jf P eq r xs ys
   |some false=>some false
   |none=>none
  |_,_=>none
def br(s:S)(a:Ad):Bool:=match s.get a.f with
 |some (.cells _ sb _ vers)=>!sb&&(bu vers a.v).isSome
 |_=>false
def Ea(ok:Ad->Bool)(a b:Ad):Option Bool :=
 bif ok a&&ok b then(bif Nat.beq a.f b.f then(bif Nat.beq a.v b.v then some (Nat.beq a.c b.c)else none)else some false)else none
def cw(P:Program)(ok:Ad->Bool):Nat->TypeId->V->V->Option Bool
 |0,_,_,_=>none
 |d+1,t,x,y =>
  match P.underlying t with
  |some (.struct fs) =>
   match x,y with
   |.agg xs,.agg ys=>bif P.stoodInHeld t then none else jf P (cw P ok d) fs.toList xs ys
   |_,_=>none
  |some (.interface _) =>
   match x,y with
   |.nilIface,.nilIface=>some true
   |.nilIface,.iface _ _=>some false
   |.iface _ _,.nilIface=>some false
   |.iface tx vx,.iface ty vy=>bif Nat.beq tx ty then(match P.info? tx with|some i=>bif i.comparable then cw P ok d tx vx vy else none|none=>none)else some false
   |_,_=>none
  |some .bool=>match x,y with|.bool a,.bool b=>some (a==b)|_,_=>none
  |some (.int _)=>match x,y with|.int j a,.int k b=>bif dF j k then some (a==b)else none|_,_=>none
  |some .string=>match x,y with|.str a,.str b=>kK a b|_,_=>none
  |some (.pointer e)=>match x,y with
   |.nilptr,.nilptr=>some true
   |.nilptr,.ptr _=>some false
   |.ptr _,.nilptr=>some false
   |.ptr a,.ptr b=>match size P e with
    |some n=>bif Nat.beq n 0 then none else Ea ok a b
    |none=>none
   |_,_=>none
  |some (.slice _)=>match x,y with
   |.nilslice,.nilslice=>some true
   |.nilslice,.slice ..=>some false
   |.slice ..,.nilslice=>some false
   |_,_=>none
  |some (.map _ _)=>match x,y with
   |.nilmap,.nilmap=>some true
   |.nilmap,.map _=>some false
   |.map _,.nilmap=>some false
   |_,_=>none
  |some (.func _ _ _)=>match x,y with
   |.nilFunc,.nilFunc=>some true
   |.nilFunc,.func ..=>some false
   |.func ..,.nilFunc=>some false
   |_,_=>none
  |_=>none
def AL(op:BinOp)(k:IntKind)(a b:Int):Option V :=
 match op with
 |.add=>some (nE k (k.wrap (a+b)))
 |.sub=>some (nE k (k.wrap (a - b)))
 |.mul=>some (nE k (k.wrap (a*b)))
 |.eql=>some (.bool (a==b))
 |.neq=>some (.bool (a != b))
 |.lss=>some (.bool (decide (a<b)))
 |.leq=>some (.bool (decide (a<=b)))
 |.gtr=>some (.bool (decide (a>b)))
 |.geq=>some (.bool (decide (a>=b)))
 |.quo=>bif b==0 then none else some (.int k (k.wrap (a.tdiv b)))
 |.rem=>bif b==0 then none else some (.int k (a.tmod b))
 |.and=>some (.int k (k.wrap (BitVec.ofInt k.bits a &&& BitVec.ofInt k.bits b).toNat))
 |.or=>some (.int k (k.wrap (BitVec.ofInt k.bits a ||| BitVec.ofInt k.bits b).toNat))
 |.xor=>some (.int k (k.wrap (BitVec.ofInt k.bits a ^^^ BitVec.ofInt k.bits b).toNat))
 |.andNot=>some (.int k (k.wrap (BitVec.ofInt k.bits a &&& ~~~ BitVec.ofInt k.bits b).toNat))
 |_=>none
def vY(op:BinOp)(a b:List Nat):Option V :=
 match op with
 |.add=>bif Nat.ble (a.length+b.length) 1000000 then some (.str (a++b))else none
 |.eql=>(kK a b).map .bool
 |.neq=>(kK a b).map fun q=>.bool (!q)
 |.lss=>some (.bool (Op.bytesLess (oh a) (oh b)))
 |_=>none
def BI(op:BinOp)(k:IntKind)(a:Int)(b:Int):Option V:=match b with
 |.ofNat n=>match op with
  |.shl=>some (nE k (k.wrap (a*2 ^ (min n k.bits))))
  |.shr=>some (nE k (a.fdiv (2 ^ (min n k.bits))))
  |_=>none
 |_=>none
def oJ:BinOp->Bool
 |.shl|.shr=>true
 |_=>false
def dG:Operand->Bool
 |.const _=>true
 |_=>false
def lU:BinOp->Bool
 |.eql|.neq=>true
 |_=>false
def eL(P:Program)(op:BinOp)(t:TypeId)(x y:Operand)(a b:V):Bool :=
 bif lU op then match a,b with
  |.nilIface,.nilIface=>dG x||dG y
  |.agg _,.agg _=>!(P.eqGuardType P.depth t)
  |_,_=>true
 else true
def eA(P:Program)(ok:Ad->Bool)(op:BinOp)(t:TypeId)(x y:V):Option V :=
 match x,y with
 |.int j a,.int k b=>bif oJ op then BI op j a b else bif dF j k then AL op j a b else none
 |.str a,.str b=>vY op a b
 |_,_ =>
  match op with
  |.eql=>(cw P ok 20 t x y).map .bool
  |.neq=>(cw P ok 20 t x y).map fun b=>.bool (!b)
  |_=>none
def LV(op:UnOp)(x:V):Option V :=
 match op,x with
 |.not,.bool b=>some (.bool !b)
 |.neg,.int k n=>some (.int k (k.wrap (0 - n)))
 |_,_=>none
def pq(place:Nat->Option (Nat×Nat))(cs:List V):List (Nat×V)->Option (List V)
 |[]=>some cs
 |(i,v)::r =>
  match place i with
  |none=>none
  |some (off,n)=>bif Nat.beq v.cells.length n&&Nat.blt 0 n then(bX cs off v.cells).bind fun cs=>pq place cs r else none
def kh(f:Field)(P:Program):Bool:=match size P f.type with|some n=>Nat.beq n 0|none=>true
def jX(v:V):Option Nat:=match v with|.int _ (.ofNat n)=>some n|_=>none
def bN(a:Ad)(n:Nat):Ad:={ a with c:=a.c+n }
def bY(eq:V->V->Option Bool)(k:V):List oY->Option (Option V)
 |[]=>some none
 |⟨key,val,_⟩::r=>foundKey (eq k key) val (bY eq k r)
 where foundKey (b:Option Bool) (v:V) (r:Option (Option V)):Option (Option V):=match b with
  |some true=>some (some v)
  |some false=>r
  |none=>none
def cO(eq:V->V->Option Bool)(k x:V):List oY->Option (Option (List oY))
 |[]=>some none
 |⟨key,val,born⟩::r=>setKey (eq k key) ⟨key,val,born⟩ ⟨k,x,born⟩ r (cO eq k x r)
 where setKey (b:Option Bool) (e e':oY) (r:List oY) (u:Option (Option (List oY))):Option (Option (List oY)):=match b with
  |some true=>some (some (e'::r))
  |some false=>match u with
   |some (some r')=>some (some (e::r'))
   |some none=>some none
   |none=>none
  |none=>none
structure Du where
 v:V
 recovered:Bool
 deriving Inhabited
inductive Md where
 |run
 |returning
 |panicking (c:List Du)
 deriving Inhabited
inductive eD where
 |call (fn:Fn) (captured args:List V)
 |collected (r:Nat)
 deriving Inhabited
inductive WK where
 |returned (v:V)
 |panicked (c:List Du)
 deriving Inhabited
def eval(t:T V):Operand->Option V
 |.tmp i=>t.get (eQ i)
 |.const v=>V.ofConst v
 |.global _=>none
 |.func f=>some (.func (.func f) [] [])
def mH{β:Type}(t:T V)(d:Option Tmp)(v:Option V)(k:T V->β):β:=match d with
 |some i=>t.setK v (eQ i) k
 |none=>k t
def bC(ops:Array Oper)(t:T V)(o:Oper):Option Bool :=
 match o.guard with
 |none=>some true
 |some (j,want)=>match(ops[j]?).bind (·.dst)with
  |some d=>match t.get (eQ d)with
   |some (.bool b)=>some (b==want)
   |some (.tuple _)=>some false
   |_=>none
  |none=>none
inductive Nx where
 |val (v:V) (s:S)
 |skip (s:S)
 |enter (f:FuncId) (args:List V) (s:S)
 |round (l:Nat) (args:List V) (s:S)
 |defer (d:eD) (s:S)
 |recover (s:S)
 |panic (v:V) (s:S)
def iD(P:Program)(t:TypeId)(n:Nat):Bool:=match P.info? t with
 |some i=>Nat.ble (i.bytes*n) 100000000000000
 |none=>false
def oi(c:Nat):V:=.int .u8 (.ofNat (Nat.mod c 256))
def rI(s:S)(f c z len sz:Nat)(e:TypeId)(sb:Bool)(nv:Nat)(vers:List mK)(cells:List V)(n:Nat):V×S :=
 (.slice ⟨f,nv,c⟩ z (len+n) none sz,s.put f (.cells e sb (nv+1) (⟨nv,c,cells⟩::vers.filter fun u=>Nat.ble (u.lo+u.cells.length) (c+len*sz))))
def kj(s:S)(elem:TypeId)(cells:List V)(len sz:Nat):V×S:=match ba s elem cells with
 |(b,s)=>(.slice b 0 len none sz,s)
def Cx(s:S)(elem:TypeId)(a:Ad)(z len c sz:Nat)(old new:List V)(n:Nat):Option (V×S) :=
 bif Nat.ble (len+n) c then
  match storeCells s (bN a (len*sz)) new with
  |some s=>some (.slice a z (len+n) (some c) sz,s)
  |none=>none
 else some (kj s elem (old++new) (len+n) sz)
def uj(s:S)(elem:TypeId)(a:Ad)(z len:Nat)(cap:Option Nat)(sz:Nat)(new:List V)(n:Nat):Option (V×S) :=
 match s.get a.f with
 |some (.cells e sb nv vers) =>
  match bu vers a.v with
  |some u =>
   bif Nat.ble u.lo a.c then
    match aU (len*sz) (u.cells.drop (a.c - u.lo))with
    |some old =>
     match cap with
     |some c=>Cx s elem a z len c sz old new n
     |none=>bif new.all V.one then some (rI s a.f a.c z len sz e sb nv vers (old++new) n)else none
    |none=>none
   else none
  |none=>none
 |_=>none
def iz(s:S)(sz:Nat):V->Option (List V×Nat)
 |.nilslice=>some ([],0)
 |.slice b _ n _ sz'=>bif Nat.beq n 0 then some ([],0)else bif Nat.beq sz' 0 then none else bif Nat.beq sz sz' then(match loadCells s b (n*sz)with|some l=>some (l,n)|none=>none)else none
 |.str l=>bif Nat.beq sz 1 then some (l.map oi,l.length)else none
 |_=>none
def tJ(P:Program)(elem:TypeId)(sz:Nat):Bool :=
 match zero P elem with
 |some z=>Nat.beq z.cells.length sz&&Nat.blt 0 sz&&iD P elem 10000000
 |none=>false
def gJ:Option Nat->Bool
 |some c=>Nat.beq c 0
 |none=>false
def aJ(P:Program)(t:TypeId)(m:Nat):Bool:=match P.info? t with
 |some i=>Nat.ble (i.bytes*(m+Nat.div m 4+600)) 281474976710656&&Nat.ble m 4611686018427387904
 |none=>false
def eB(ok:Nat->Bool)(s:S)(elem:TypeId)(sz:Nat)(x:V):Option (List V×Nat)->Option (V×S)
 |some (l,n) =>
  bif ok n then
   match x with
   |.nilslice=>bif Nat.beq n 0 then some (.nilslice,s)else some (kj s elem l n sz)
   |.slice a z len cap sz'=>bif Nat.beq len 0&&gJ cap then(bif Nat.beq n 0 then some (.slice a z len cap sz',s)else some (kj s elem l n sz))else
    bif Nat.beq sz sz'&&ok (len+n)then(bif Nat.beq n 0 then some (.slice a z len cap sz,s)else uj s elem a z len cap sz l n)else none
   |_=>none
  else none
 |none=>none
def Eg(P:Program)(t:TypeId):Bool:=match P.underlying t with
 |some (.int _)=>false
 |some _=>true
 |none=>false
def se(P:Program)(sT xT:TypeId)(s:S)(x y:V):Option (V×S) :=
 match P.underlying sT with
 |some (.slice elem)=>bif Eg P xT then
  match size P elem with
  |some sz=>bif tJ P elem sz then eB (aJ P elem) s elem sz x (iz s sz y)else none
  |none=>none
  else none
 |_=>none
def iH(P:Program)(t:TypeId)(s:S)(x:V):Option V :=
 match P.underlying t,x with
 |some .string,.str l=>some (nE .i64 l.length)
 |some (.array n _),_=>some (.int .i64 n)
 |some (.slice _),.slice _ _ n _ _=>some (nE .i64 n)
 |some (.slice _),.nilslice=>some (.int .i64 0)
 |some (.map _ _),.nilmap=>some (.int .i64 0)
 |some (.map _ _),.map r=>match s.get r with
  |some (.map es _)=>some (.int .i64 es.length)
  |_=>none
 |_,_=>none
def Kz(x y:V):Option V:=match x,y with
 |.int j a,.int k b=>bif dF j k then some (.int j (bif decide (b>a)then b else a))else none
 |_,_=>none
def Ky(x y:V):Option V:=match x,y with
 |.int j a,.int k b=>bif dF j k then some (.int j (bif decide (b<a)then b else a))else none
 |_,_=>none
def NX(f:V->V->Option V):List V->Option V
 |[]=>none
 |x::r=>r.foldlM f x
def iq(c:Nat):List Nat->Nat->Option Nat
 |[],_=>none
 |x::r,i=>bif Nat.beq (Nat.mod x 256) c then some i else iq c r (i+1)
def countByte(c:Nat):List Nat->Nat
 |[]=>0
 |x::r=>bif Nat.beq (Nat.mod x 256) c then countByte c r+1 else countByte c r
inductive HY where
 |indexByte
 |count
structure dA where
 P:Program
 ext:FuncId->Option HY
 orc:FuncId->List V->S->Option (V×S)
def CK(k:HY)(args:List V):Option V :=
 match args with
 |[.str l,.int .u8 (.ofNat c)] =>
  match k with
  |.indexByte=>some (match iq (Nat.mod c 256) l 0 with|some i=>.int .i64 (.ofNat i)|none=>.int .i64 (-1))
  |.count=>some (nE .i64 (.ofNat (countByte (Nat.mod c 256) l)))
 |_=>none
def bv(s:S)(v:Option V):Option Nx:=match v with
 |some v=>some (.val v s)
 |none=>none
def iE(x:Option (V×S)):Option Nx:=match x with
 |some (v,s)=>some (.val v s)
 |none=>none
def JD(E:dA)(f:FuncId)(args:List V)(s:S):Option Nx :=
 match E.P.funcs[f]? with
 |none=>none
 |some fn=>match fn.body with
  |none=>match E.ext f with
   |some k=>bv s (CK k args)
   |none=>none
  |some _=>some (.enter f args s)
def UD(P:Program)(t:TypeId)(x:V):Option V:=match P.underlying t with
 |some (.slice _)=>match x with
  |.nilslice=>some (.int .i64 0)
  |.slice _ _ _ (some c) _=>some (nE .i64 c)
  |_=>none
 |_=>none
def iJ(P:Program)(b:Builtin)(ts:Array TypeId)(args:List V)(s:S):Option Nx :=
 match b with
 |.append=>match ts[0]? with
  |some a=>match ts[1]? with
   |some b=>match args with
    |[x,y]=>iE (se P a b s x y)
    |_=>none
   |none=>none
  |none=>none
 |.len=>match ts[0]? with
  |some a=>match args with
   |[x]=>bv s (iH P a s x)
   |_=>none
  |none=>none
 |.max=>bv s (NX Kz args)
 |.min=>bv s (NX Ky args)
 |.recover=>some (.recover s)
 |.cap=>match ts[0]? with
  |some a=>match args with
   |[x]=>bv s (UD P a x)
   |_=>none
  |none=>none
 |.panic=>match args with
  |[.iface t v]=>some (.panic (.iface t v) s)
  |_=>none
 |_=>none
def eS(o:Option V)(d:Nat):Option Nat:=match o with
 |some v=>jX v
 |none=>some d
def bL(o:Option Nat):Bool:=match o with
 |some n=>Nat.beq n 0
 |none=>false
def cH(P:Program)(t:TypeId)(x:V)(lo hi mx:Option V):Option V :=
 match P.underlying t with
 |some .string=>match x,mx with
  |.str l,none =>
   let h:=eS hi l.length
   let b:=eS lo 0
   match b,h with
   |some b,some h=>bif Nat.ble h l.length&&Nat.ble b h then some (.str ((l.drop b).take (h - b)))else none
   |_,_=>none
  |_,_=>none
 |some (.slice e) =>
  match size P e with
  |some sz =>
   match x with
   |.nilslice =>
    bif mx.isSome&&!hi.isSome then none else
    bif bL (eS lo 0)&&bL (eS hi 0)&&bL (eS mx 0)then some .nilslice else none
   |.slice a z len cap sz' =>
    bif Nat.beq sz' 0||(Nat.beq len 0&&gJ cap)then(bif (bL (eS lo 0)&&bL (eS hi 0)&&bL (eS mx 0))&&!(mx.isSome&&!hi.isSome)then some (.slice a z len cap sz')else none)else
    bif Nat.beq sz sz'&&!(mx.isSome&&!hi.isSome)then
    let h:=eS hi len
    let b:=eS lo 0
    match b,h with
    |some b,some h =>
     match mx with
     |none =>
      match cap with
      |some c=>bif Nat.ble h c&&Nat.ble b h then
       (bif Nat.beq c b then some (.slice a 0 (h - b) (some 0) sz)else some (.slice (bN a (b*sz)) 0 (h - b) (some (c - b)) sz))else none
      |none=>bif Nat.ble h len&&Nat.ble b h then
       (bif Nat.beq b 0 then some (.slice a z h none sz)else some (.slice (bN a (b*sz)) a.c (h - b) none sz))else none
     |some m=>match jX m with
      |some m =>
       bif Nat.ble m len&&Nat.ble h m&&Nat.ble b h then
        (bif Nat.beq m b then(bif cap.isSome||Nat.blt 0 len||Nat.beq z a.c then some (.slice a 0 (h - b) (some 0) sz)else none)else some (.slice (bN a (b*sz)) 0 (h - b) (some (m - b)) sz))
       else none
      |none=>none
    |_,_=>none
    else none
   |_=>none
  |none=>none
 |_=>none
def li:List V->Option (List Nat)
 |[]=>some []
 |.int .u8 (.ofNat n)::r=>(li r).map (n::·)
 |_=>none
def gw(P:Program)(el:TypeId):Bool:=match P.underlying el with
 |some (.int .u8)=>true
 |_=>false
def zW(P:Program)(s:S)(ds:TypeDesc)(x:V):Option (V×S):=match x with
 |.int _ n=>some (.str ((Utf8.encode n).data.toList.map UInt8.toNat),s)
 |.str l=>some (.str l,s)
 |.nilslice=>match ds with
  |.slice el=>bif gw P el then some (.str [],s)else none
  |_=>none
 |.slice a _ n _ sz=>match ds with
  |.slice el=>bif gw P el then(bif Nat.beq sz 0 then none else match(loadCells s a n).bind li with|some l=>some (.str l,s)|none=>none)else none
  |_=>none
 |_=>none
def oA(P:Program)(s:S)(ds:TypeDesc)(el:TypeId)(x:V):Option (V×S):=match x with
 |.str l=>match ds with
  |.string=>bif gw P el then(match aY true s el (l.map oi)with|(a,s)=>some (.slice a 0 l.length none 1,s))else none
  |_=>none
 |_=>none
def jB(P:Program)(s:S)(src dst:TypeId)(x:V):Option (V×S) :=
 match P.underlying src with
 |some ds=>match P.underlying dst with
  |some (.int k)=>match x with
   |.int _ n=>some (nE k (k.wrap n),s)
   |_=>none
  |some .string=>zW P s ds x
  |some (.slice el)=>oA P s ds el x
  |_=>none
 |none=>none
def GK(s:Option S):Option Nx:=match s with
 |some s=>some (.skip s)
 |none=>none
def pj(x:Ad×S):Option Nx:=match x with
 |(a,s)=>some (.val (.ptr a) s)
def gK(t:T V):List Operand->Option (List V)
 |[]=>some []
 |x::r=>match eval t x with
  |some v=>match gK t r with
   |some l=>some (v::l)
   |none=>none
  |none=>none
def cZ(t:T V):List (Nat×Operand)->Option (List (Nat×V))
 |[]=>some []
 |(i,x)::r=>match eval t x with
  |some v=>match cZ t r with
   |some l=>some ((i,v)::l)
   |none=>none
  |none=>none
def kW(t:T V):Option Operand->Option (Option V)
 |none=>some none
 |some x=>match eval t x with
  |some v=>some (some v)
  |none=>none
def mf(t:T V)(s:S)(c a b:Operand):Option Nx:=match eval t c with
 |some (.bool q)=>bv s (eval t (bif q then a else b))
 |_=>none
def iX(P:Program)(s:S)(elem:TypeId):Option Nx:=match zero P elem with
 |some z=>pj (ba s elem z.cells)
 |none=>none
def rT(s:S)(elem:TypeId)(x:Option V):Option Nx:=match x with
 |some z=>pj (ba s elem z.cells)
 |none=>none
def nO(P:Program)(fs:Array Field)(i:Nat):Option (Nat×Nat):=match fs[i]? with
 |some f=>match size P f.type with
  |some n=>some (f.offset,n)
  |none=>none
 |none=>none
def FL(x:Option (List V)):Option V:=match x with
 |some l=>some (.agg l)
 |none=>none
def kw(P:Program)(ty:TypeId)(l:Option (List (Nat×V))):Option V :=
 match zero P ty with
 |some z=>match l with
  |some l=>match P.underlying ty with
   |some (.struct fs)=>bif fs.toList.all (fun f=>(size P f.type).isSome)then FL (pq (nO P fs) z.cells l)else none
   |some (.array _ el)=>match size P el with
    |some n=>FL (pq (fun i=>some (i*n,n)) z.cells l)
    |none=>none
   |_=>none
  |none=>none
 |none=>none
def tN(len n:Nat)(cs:List V):Option Nat:=bif Nat.beq cs.length (len*n)&&!(Nat.beq len 0)then none else some len
def jk(el:TypeId)(len n:Nat)(s:S)(cs:Option (List V)):Option Nx:=match cs with
 |some cs=>match ba s el cs with
  |(a,s)=>some (.val (.slice a 0 len (tN len n cs) n) s)
 |none=>none
def bD(P:Program)(s:S)(ty:TypeId)(len:Nat)(l:Option (List (Nat×V))):Option Nx :=
 match P.underlying ty with
 |some (.slice el)=>match l with
  |some l=>match zero P el with
   |some z=>match size P el with
    |some n=>bif Nat.ble (len*n) 10000&&!(Nat.beq n 0)&&Nat.beq z.cells.length n then jk el len n s (pq (fun i=>some (i*n,n)) (List.replicate len z.cells).flatten l)else none
    |none=>none
   |none=>none
  |none=>none
 |_=>none
def iI(P:Program)(s:S)(ty:TypeId)(x:Option V):Option Nx:=match x with
 |some (.ptr a)=>bv s (loadVar P s ty a)
 |_=>none
def rN(P:Program)(s:S)(ty:TypeId)(x y:Option V):Option Nx:=match x with
 |some (.ptr a)=>match y with
  |some v=>GK (storeVar P s ty a v)
  |none=>none
 |_=>none
def mh(x:Option V):Option V:=match x with
 |some (.ptr a)=>some (.ptr a)
 |some (.func fn fi ca)=>match fn with
  |.func f=>some (.func (.func f) fi ca)
  |.yield f=>some (.func (.yield f) fi ca)
  |_=>none
 |_=>none
def dX(P:Program)(s:S)(op:BinOp)(ty:TypeId)(ox oy:Operand)(x y:Option V):Option V:=match x with
 |some a=>match y with
  |some b=>bif eL P op ty ox oy a b then eA P (br s) op ty a b else none
  |none=>none
 |none=>none
def Uv(op:UnOp)(x:Option V):Option V:=match x with
 |some a=>LV op a
 |none=>none
def gE(P:Program)(s:S)(src dst:TypeId)(x:Option V):Option Nx:=match x with
 |some a=>iE (jB P s src dst a)
 |none=>none
def oO(P:Program)(ty:TypeId)(x:Option V):Option V:=match P.underlying ty with
 |some (.interface _)=>none
 |some _=>match x with
  |some v=>some (.iface ty v)
  |none=>none
 |none=>none
def Cl(fn:Fn)(a b:Option (List V)):Option V:=match a with
 |some a=>match b with
  |some b=>some (.func fn a b)
  |none=>none
 |none=>none
def rQ(fn:Fn)(a b:Option (List V)):Option V:=match fn with
 |.yield _=>none
 |fn=>Cl fn a b
def eo(P:Program)(s:S)(ty:TypeId)(l c:Option Nat):Option Nx:=match P.underlying ty with
 |some (.slice el)=>match l with
  |some l=>match c with
   |some c=>match zero P el with
    |some z=>match size P el with
     |some n=>bif Nat.ble l c&&Nat.ble c 2199023255552&&!(Nat.beq n 0)&&Nat.beq z.cells.length n&&iD P el c then
      match ba s el (List.replicate c z.cells).flatten with
      |(a,s)=>some (.val (.slice a 0 l (some c) n) s)
      else none
     |none=>none
    |none=>none
   |none=>none
  |none=>none
 |_=>none
def cL(x:Option V):Option Nat:=match x with
 |some v=>jX v
 |none=>none
def rO(P:Program)(ty:TypeId)(x:Option V)(lo hi mx:Option (Option V)):Option V:=match x with
 |some x=>match lo with
  |some lo=>match hi with
   |some hi=>match mx with
    |some mx=>cH P ty x lo hi mx
    |none=>none
   |none=>none
  |none=>none
 |none=>none
def ix(P:Program)(ty:TypeId)(x:Option V)(f:Nat):Option V:=match P.underlying ty with
 |some (.struct fs)=>match x with
  |some (.ptr a)=>match fs[f]? with
   |some fd=>bif kh fd P then none else some (.ptr (bN a fd.offset))
   |none=>none
  |_=>none
 |_=>none
def rS(P:Program)(ty:TypeId)(x:Option V)(f:Nat):Option V:=match P.underlying ty with
 |some (.struct fs)=>match x with
  |some (.agg cs)=>match fs[f]? with
   |some fd=>ue P fd.type cs fd.offset
   |none=>none
  |_=>none
 |_=>none
def dq(P:Program)(ty:TypeId)(x:Option V)(i:Option Nat):Option V:=match i with
 |some i=>match P.underlying ty with
  |some (.slice el)=>match x with
   |some (.slice a _ len _ sz)=>match size P el with
    |some n=>bif Nat.beq n sz&&Nat.blt i len then some (.ptr (bN a (i*n)))else none
    |none=>none
   |_=>none
  |some (.array len el)=>match x with
   |some (.ptr a)=>match size P el with
    |some n=>bif Nat.blt i len then some (.ptr (bN a (i*n)))else none
    |none=>none
   |_=>none
  |_=>none
 |none=>none
def oP(P:Program)(ty:TypeId)(x:Option V)(i:Option Nat):Option V:=match i with
 |some i=>match P.underlying ty with
  |some .string=>match x with
   |some (.str l)=>match l[i]? with
    |some c=>some (oi c)
    |none=>none
   |_=>none
  |some (.array len el)=>match x with
   |some (.agg cs)=>match size P el with
    |some n=>bif Nat.blt i len then ue P el cs (i*n)else none
    |none=>none
   |_=>none
  |_=>none
 |none=>none
def yj(s:S)(m:V):Option (List oY):=match m with
 |.nilmap=>some []
 |.map r=>match s.get r with
  |some (.map es _)=>some es
  |_=>none
 |_=>none
def Jk(P:Program)(el:TypeId)(ok:Bool)(x:Option (Option V)):Option V:=match x with
 |some (some v)=>some (bif ok then .tuple [v,.bool true] else v)
 |some none=>match zero P el with
  |some z=>some (bif ok then .tuple [z,.bool false] else z)
  |none=>none
 |none=>none
def ef(P:Program)(t:TypeId):Bool:=match P.underlying t with
 |some (.int _)=>true
 |some .string=>true
 |some .bool=>true
 |some (.pointer _)=>true
 |_=>false
def jz(P:Program)(s:S)(ty:TypeId)(m k:Option V)(ok:Bool):Option V:=match P.underlying ty with
 |some (.map kt el)=>match m with
  |some m=>match k with
   |some k=>match yj s m with
    |some es=>bif ef P kt then Jk P el ok (bY (cw P (br s) 20 kt) k es)else none
    |none=>none
   |none=>none
  |none=>none
 |_=>none
def uR(s:S)(r:Nat)(k x:V)(es:List oY)(clock:Nat)(u:Option (Option (List oY))):Option Nx:=match u with
 |some (some es)=>some (.skip (s.put r (.map es clock)))
 |some none=>some (.skip (s.put r (.map (es++[⟨k,x,clock⟩]) (clock+1))))
 |none=>none
def fk(P:Program)(s:S)(ty:TypeId)(m k x:Option V):Option Nx:=match m with
 |some (.map r)=>match k with
  |some k=>match x with
   |some x=>match P.underlying ty with
    |some (.map kt _)=>match s.get r with
     |some (.map es clock)=>bif ef P kt then uR s r k x es clock (cO (cw P (br s) 20 kt) k x es)else none
     |_=>none
    |_=>none
   |none=>none
  |none=>none
 |_=>none
def fj(P:Program)(ty:TypeId)(ok:Bool):Option V:=bif ok then match zero P ty with
 |some z=>some (.tuple [z,.bool false])
 |none=>none
 else none
def kZ(P:Program)(x:Option V)(ty:TypeId)(ok:Bool):Option V:=match P.underlying ty with
 |some (.interface _)=>none
 |some _=>match x with
  |some .nilIface=>fj P ty ok
  |some (.iface t v)=>bif Nat.beq t ty then some (bif ok then .tuple [v,.bool true] else v)else fj P ty ok
  |_=>none
 |none=>none
def oQ(x:Option V)(i:Nat):Option V:=match x with
 |some (.tuple vs)=>vs[i]?
 |_=>none
def JC(E:dA)(s:S)(args:List V)(f:Option V):Option Nx:=match f with
 |some (.func fn first cap)=>match fn with
  |.func g=>JD E g (first++(args++cap)) s
  |.yield l=>some (.round l (first++args) s)
  |_=>none
 |_=>none
def hJ(E:dA)(t:T V)(s:S)(ts:Array TypeId)(args:Option (List V))(c:Callee):Option Nx:=match args with
 |some args=>match c with
  |.builtin b=>iJ E.P b ts args s
  |.value f=>JC E s args (eval t f)
  |.invoke _ _=>none
 |none=>none
def CU(s:S)(args:List V)(f:Option V):Option Nx:=match f with
 |some (.func fn first cap)=>some (.defer (.call fn cap (first++args)) s)
 |_=>none
def oR(t:T V)(s:S)(args:Option (List V))(c:Callee):Option Nx:=match args with
 |some args=>match c with
  |.value f=>CU s args (eval t f)
  |_=>none
 |none=>none
def vC(s:S)(x:Option V):Option Nx:=match x with
 |some (.iface t v)=>some (.panic (.iface t v) s)
 |_=>none
def cy:Op->dA->T V->S->Option Nx
 |.move x,_,t,s=>bv s (eval t x)
 |.assign x,_,t,s=>bv s (eval t x)
 |.pick c a b,_,t,s=>mf t s c a b
 |.alloc elem,E,_,s=>iX E.P s elem
 |.box elem x,_,t,s=>rT s elem (eval t x)
 |.build ty parts,E,t,s=>bv s (kw E.P ty (cZ t parts.toList))
 |.buildSlice ty len parts,E,t,s=>bD E.P s ty len (cZ t parts.toList)
 |.load ty x,E,t,s=>iI E.P s ty (eval t x)
 |.store ty x y,E,t,s=>rN E.P s ty (eval t x) (eval t y)
 |.nilCheck x,_,t,s=>bv s (mh (eval t x))
 |.binOp op ty x y _,E,t,s=>bv s (dX E.P s op ty x y (eval t x) (eval t y))
 |.unOp op _ x,_,t,s=>bv s (Uv op (eval t x))
 |.convert src dst x,E,t,s=>gE E.P s src dst (eval t x)
 |.makeInterface ty x,E,t,s=>bv s (oO E.P ty (eval t x))
 |.makeFunc fn first cap,_,t,s=>bv s (rQ fn (gK t first.toList) (gK t cap.toList))
 |.makeMap _ none,_,_,s=>some (.val (.map s.next) (s.alloc (.map [] 0)))
 |.makeSlice ty l c,E,t,s=>eo E.P s ty (cL (eval t l)) (cL (eval t c))
 |.slice ty x lo hi mx,E,t,s=>bv s (rO E.P ty (eval t x) (kW t lo) (kW t hi) (kW t mx))
 |.fieldAddr ty x f,E,t,s=>bv s (ix E.P ty (eval t x) f)
 |.field ty x f,E,t,s=>bv s (rS E.P ty (eval t x) f)
 |.indexAddr ty x i,E,t,s=>bv s (dq E.P ty (eval t x) (cL (eval t i)))
 |.index ty x i,E,t,s=>bv s (oP E.P ty (eval t x) (cL (eval t i)))
 |.lookup ty x k ok,E,t,s=>bv s (jz E.P s ty (eval t x) (eval t k) ok)
 |.mapUpdate ty m k x,E,t,s=>fk E.P s ty (eval t m) (eval t k) (eval t x)
 |.insert ty m k x,E,t,s=>fk E.P s ty (eval t m) (eval t k) (eval t x)
 |.typeAssert x _ ty ok,E,t,s=>bv s (kZ E.P (eval t x) ty ok)
 |.extract x i,_,t,s=>bv s (oQ (eval t x) i)
 |.call c,E,t,s=>hJ E t s c.argTypes (gK t c.args.toList) c.callee
 |.defer c,_,t,s=>oR t s (gK t c.args.toList) c.callee
 |.panic x,_,t,s=>vC s (eval t x)
 |_,_,_,_=>none
def dg(E:dA)(t:T V)(s:S)(o:Oper):Option Nx:=cy o.op E t s
def oC(P:Program)(t:T V)(s:S):ResultVar->Option V
 |.tmp i=>t.get (eQ i)
 |.cell a ty=>match t.get (eQ a)with
  |some (.ptr a)=>loadVar P s ty a
  |_=>none
def jQ(P:Program)(t:T V)(s:S):List ResultVar->Option (List V)
 |[]=>some []
 |x::r=>match oC P t s x with
  |some v=>match jQ P t s r with
   |some l=>some (v::l)
   |none=>none
  |none=>none
def wH:List V->V
 |[v]=>v
 |vs=>.tuple vs
def qO(P:Program)(fn:Func)(t:T V)(s:S):Option V:=match jQ P t s fn.results.toList with
 |some l=>some (wH l)
 |none=>none
def iN:Md->Md
 |.panicking (⟨_,true⟩::_)=>.returning
 |m=>m
def qS(m:Md)(c:List Du):Md:=match m with
 |.panicking old=>.panicking (c++old)
 |_=>.panicking c
def ki{β:Type}:List V->Nat->T V->(T V->β)->β
 |[],_,t,k=>k t
 |x::r,i,t,k=>t.setK (some x) (eQ i) fun t=>ki r (i+1) t k
structure fc where
 e:WK
 up:Option Md
 s:S
abbrev Go:=T V->List Item->List eD->Md->Option Md->Option Nat->S->Option fc
def lS(go:Go)(t:T V)(ds:List eD)(up:Option Md)(rd:Option Nat)(s:S)(jump:Option Code):Option fc :=
 match rd with
 |none=>match jump with
  |none=>go t [] ds .returning up rd s
  |some .ret=>go t [] ds .returning up rd s
  |_=>none
 |some l=>match s.get l with
  |some (.loop _ _ f t ps a b d nt) =>
   some ⟨.returned (.bool jump.isNone),up,s.put l (.loop (bif jump.isNone then .ready else .done) jump f t ps a b d nt)⟩
  |_=>none
def cj{β:Type}:T V->List Tmp->List V->(T V->β)->β
 |t,p::ps,x::xs,k=>t.setK (some x) (eQ p) fun t=>cj t ps xs k
 |t,_,_,k=>k t
inductive jL where
 |on (t:T V) (ds:List eD) (up:Option Md) (s:S)
 |panicked (c:List Du) (t:T V) (ds:List eD) (up:Option Md) (s:S)
abbrev ig:=FuncId->List V->Option Md->S->Option fc
abbrev zM:=Nat->List V->S->Option fc
abbrev RK:=T V->List eD->Option Md->S->Option jL
def fw(d:Option Tmp)(t:T V)(ds:List eD)(up:Option Md)(k:RK):Option fc->Option jL
 |some ⟨.returned v,_,s⟩=>mH t d (some v) fun t=>k t ds up s
 |some ⟨.panicked c,_,s⟩=>some (.panicked c t ds up s)
 |none=>none
def recovered(d:Option Tmp)(t:T V)(ds:List eD)(s:S)(k:RK):Option Md->Option jL
 |some (.panicking (⟨v,false⟩::older))=>mH t d (some v) fun t=>k t ds (some (.panicking (⟨v,true⟩::older))) s
 |some m=>mH t d (some .nilIface) fun t=>k t ds (some m) s
 |none=>none
def dT(rec:ig)(recR:zM)(rd:Option Nat)(d:Option Tmp)(t:T V)(ds:List eD)(up:Option Md)(k:RK):Option Nx->Option jL
 |some (.val v s)=>mH t d (some v) fun t=>k t ds up s
 |some (.skip s)=>mH t d (some V.undef) fun t=>k t ds up s
 |some (.enter f args s)=>fw d t ds up k (rec f args none s)
 |some (.round l args s)=>fw d t ds up k (recR l args s)
 |some (.defer df s)=>bif rd.isSome then none else mH t d (some V.undef) fun t=>k t (df::ds) up s
 |some (.recover s)=>recovered d t ds s k up
 |some (.panic v s)=>some (.panicked [⟨v,false⟩] t ds up s)
 |none=>none
def pO(E:dA)(rec:ig)(recR:zM)(rd:Option Nat)(o:Oper)(t:T V)(ds:List eD)(up:Option Md)(s:S)(k:RK):Option Bool->Option jL
 |some true=>dT rec recR rd o.dst t ds up k (dg E t s o)
 |some false=>mH t o.dst (some V.undef) fun t=>k t ds up s
 |none=>none
def pK(E:dA)(ops:Array Oper)(rec:ig)(recR:zM)(rd:Option Nat):List Oper->RK
 |[]=>fun t ds up s=>some (.on t ds up s)
 |o::r=>fun t ds up s=>pO E rec recR rd o t ds up s (pK E ops rec recR rd r) (bC ops t o)
def aF(P:Program):Op->Nat
 |.load ..|.lookup ..=>1
 |.binOp op ..=>bif lU op then 1 else 0
 |.alloc _|.box ..|.buildSlice ..|.makeMap ..|.makeSlice ..=>2
 |.convert _ dst _=>match P.underlying dst with
  |some (.slice _)=>2
  |some .string=>1
  |_=>0
 |.move _|.assign _|.pick ..|.build ..|.nilCheck _|.unOp ..|.makeInterface ..|.makeFunc ..|.slice ..|.fieldAddr ..|.field ..|.indexAddr ..|.index ..|.typeAssert ..|.extract ..=>0
 |.call c=>match c.callee with
  |.builtin .len|.builtin .cap|.builtin .max|.builtin .min=>1
  |_=>3
 |_=>3
def pQ(o:Oper)(acc:List Nat):Nat :=
 o.after.toList.foldl (fun s e=>bif Region.binds .any e then Nat.lor s (Nat.lor (Nat.pow 2 e.on) (acc.getD e.on 0))else s) 0
def jZ:List Oper->List Nat->List Nat
 |[],acc=>acc
 |o::r,acc=>jZ r (acc++[pQ o acc])
def sees(o:Oper):List Tmp:=o.op.operands.toList.filterMap fun|.tmp t=>some t|_=>none
def HD(ms:List Nat)(l:List (Nat×Oper)):Bool :=
 l.all fun(i,o) =>
  (o.after.toList.all fun e=>!(Region.binds .any e)||Nat.blt e.on i) &&
  (match o.guard with|some (g,_)=>(ms.getD i 0).testBit g|none=>true) &&
  l.all fun(j,q)=>Nat.beq i j||match q.dst with
   |none=>true
   |some d=>!(o.dst==some d)&&(!((sees o).contains d)||(ms.getD i 0).testBit j||(ms.getD j 0).testBit i)
def Bg(ms:List Nat):List Nat->Bool
 |a::b::r=>(ms.getD b 0).testBit a&&Bg ms (b::r)
 |_=>true
def rM(P:Program)(l:List (Nat×Oper)):List (Nat×Oper):=l.filter fun(_,o)=>Nat.beq (aF P o.op) 3
def aX:List V->List V->Bool
 |[],[]=>true
 |x::r,y::q=>sameV x y&&aX r q
 |_,_=>false
 where sameV:V->V->Bool
  |.bool a,.bool b=>a==b
  |.int j a,.int k b=>j==k&&a==b
  |.str a,.str b=>a==b
  |.ptr a,.ptr b=>Nat.beq a.f b.f&&Nat.beq a.v b.v&&Nat.beq a.c b.c
  |.nilptr,.nilptr=>true
  |.slice a z n c sz,.slice b y m d sy=>Nat.beq a.f b.f&&Nat.beq a.v b.v&&Nat.beq a.c b.c&&Nat.beq z y&&Nat.beq n m&&c==d&&Nat.beq sz sy
  |.nilslice,.nilslice=>true
  |.map a,.map b=>Nat.beq a b
  |.nilmap,.nilmap=>true
  |.nilFunc,.nilFunc=>true
  |.nilIface,.nilIface=>true
  |.func f a b,.func g c d=>decide (f=g)&&aX a c&&aX b d
  |.iface t v,.iface u w=>Nat.beq t u&&sameV v w
  |.agg a,.agg b=>aX a b
  |.tuple a,.tuple b=>aX a b
  |.atom a,.atom b=>Nat.beq a b
  |_,_=>false
def fu(E:dA)(t:T V)(o:Oper):List S->Option V
 |[]=>none
 |[s]=>match dg E t s o with
  |some (.val v _)=>some v
  |_=>none
 |s::r=>match dg E t s o with
  |some (.val v _)=>match fu E t o r with
   |some w=>bif aX [v] [w] then some v else none
   |none=>none
  |_=>none
def nK(m:Nat):List (Nat×S)->List S
 |[]=>[]
 |(e,s)::r=>s::(bif m.testBit e then [] else nK m r)
def qA(s:S):Option Nx->Option (V×S)
 |some (.val v _)=>some (v,s)
 |_=>none
def uQ:Option Nx->Option (V×S)
 |some (.val v s)=>some (v,s)
 |_=>none
def qQ(s:S):Option V->Option (V×S)
 |some v=>some (v,s)
 |none=>none
def CE(E:dA)(hist:List (Nat×S))(m:Nat)(t:T V)(s:S)(o:Oper):Nat->Option (V×S)
 |0=>qA s (dg E t s o)
 |1=>qQ s (fu E t o (nK m hist))
 |2=>uQ (dg E t s o)
 |_=>none
def je(E:dA)(hist:List (Nat×S))(m:Nat)(t:T V)(s:S)(o:Oper):Option Bool->Option (V×S)
 |some true=>CE E hist m t s o (aF E.P o.op)
 |some false=>some (V.undef,s)
 |none=>none
def bW(E:dA)(ops:Array Oper)(ms:List Nat)(effs:Nat)(hist:List (Nat×S))(m:Nat):List (Nat×Oper)->Nat->T V->S->Option (Nat×T V×S)
 |[],done,t,s=>some (done,t,s)
 |(i,o)::r,done,t,s =>
  bif !(m.testBit i)||done.testBit i then bW E ops ms effs hist m r done t s
  else bif effs.testBit i then none
  else match je E hist (ms.getD i 0) t s o (bC ops t o)with
   |some (v,s)=>mH t o.dst (some v) fun t=>bW E ops ms effs hist m r (Nat.lor done (Nat.pow 2 i)) t s
   |none=>none
def ym:Option fc->Option (V×S)
 |some ⟨.returned v,_,s⟩=>some (v,s)
 |_=>none
def py(rec:ig):Option Nx->Option (V×S)
 |some (.val v s)=>some (v,s)
 |some (.skip s)=>some (V.undef,s)
 |some (.enter f args s)=>ym (rec f args none s)
 |_=>none
def iU(E:dA)(rec:ig)(t:T V)(s:S)(o:Oper):Option Bool->Option (V×S)
 |some true=>py rec (dg E t s o)
 |some false=>some (V.undef,s)
 |none=>none
inductive LA where
 |val (v:V) (s:S)
 |pan (c:List Du) (s:S)
def me:Option fc->Option LA
 |some ⟨.returned v,_,s⟩=>some (.val v s)
 |some ⟨.panicked c,_,s⟩=>some (.pan c s)
 |none=>none
def jy(rec:ig):Option Nx->Option LA
 |some (.val v s)=>some (.val v s)
 |some (.skip s)=>some (.val V.undef s)
 |some (.enter f args s)=>me (rec f args none s)
 |some (.panic v s)=>some (.pan [⟨v,false⟩] s)
 |_=>none
def gB(E:dA)(rec:ig)(t:T V)(s:S)(o:Oper):Option Bool->Option LA
 |some true=>jy rec (dg E t s o)
 |some false=>some (.val V.undef s)
 |none=>none
def dJ(ms:List Nat)(i:Nat):List (Nat×Oper)->Nat
 |[]=>0
 |(k,_)::r=>bif (ms.getD k 0).testBit i||Nat.beq k i then dJ ms i r else Nat.lor (Nat.pow 2 k) (dJ ms i r)
def dL(done:Nat):List (Nat×Oper)->T V->T V
 |[],t=>t
 |(k,o)::r,t=>bif done.testBit k then dL done r t else match o.dst with
  |some d=>t.setK none (eQ d) fun t=>dL done r t
  |none=>dL done r t
def IM(ds:List eD)(up:Option Md)(done:Nat)(all:List (Nat×Oper))(t:T V)(c:List Du)(s:S):Option (Nat×T V×S)->Option jL
 |some _=>some (.panicked c (dL done all t) ds up s)
 |none=>none
def gj(E:dA)(ops:Array Oper)(ms:List Nat)(effs:Nat)(all:List (Nat×Oper))(rec:ig)(ds:List eD)(up:Option Md) :
 List (Nat×Oper)->List (Nat×S)->Nat->T V->S->Option jL
 |[],hist,done,t,s =>
  match bW E ops ms effs hist (Nat.pow 2 ops.size - 1) all done t s with
  |some (_,t,s)=>some (.on t ds up s)
  |none=>none
 |(i,o)::r,hist,done,t,s =>
  match bW E ops ms effs hist (ms.getD i 0) all done t s with
  |some (done,t,s) =>
   match gB E rec t s o (bC ops t o)with
   |some (.val v s')=>bif Nat.ble s.next s'.next&&!(done.testBit i)&&effs.testBit i then mH t o.dst (some v) fun t=>gj E ops ms effs all rec ds up r ((i,s')::hist) (Nat.lor done (Nat.pow 2 i)) t s' else none
   |some (.pan c s')=>bif done.testBit i then none else IM ds up done all t c s' (bW E ops ms effs hist (dJ ms i all) all done t s)
   |none=>none
  |none=>none
def cr:List Oper->Nat->List (Nat×Oper)
 |[],_=>[]
 |o::r,i=>(i,o)::cr r (i+1)
structure WE where
 ms:List Nat
 all:List (Nat×Oper)
 effs:List (Nat×Oper)
 mask:Nat
def MW(P:Program)(ops:Array Oper):Option WE :=
 let l:=cr ops.toList 0
 let ms:=jZ ops.toList []
 let es:=rM P l
 bif HD ms l&&Bg ms (es.map (·.1))then some ⟨ms,l,es,es.foldl (fun s x=>Nat.lor s (Nat.pow 2 x.1)) 0⟩else none
def ip(E:dA)(ops:Array Oper)(rec:ig)(_recR:zM)(t:T V)(ds:List eD)(up:Option Md)(s:S):Option jL :=
 match MW E.P ops with
 |some ⟨ms,l,es,mask⟩=>gj E ops ms mask l rec ds up es [(ops.size,s)] 0 t s
 |none=>none
abbrev Si:=dA->FuncId->Func->Go->ig->zM->List Item->T V->List eD->Option Md->Option Nat->S->Option fc
def CY(go:Go)(k:List Item)(t:T V)(ds:List eD)(up:Option Md)(rd:Option Nat)(s:S)(a b:Code):Option V->Option fc
 |some (.bool q)=>go t (.code (bif q then a else b)::k) ds .run up rd s
 |_=>none
def pV(go:Go)(t:T V)(ds:List eD)(up:Option Md)(rd:Option Nat)(s:S)(c:Code):Option (List Item)->Option fc
 |some k=>go t k ds .run up rd s
 |none=>lS go t ds up rd s (some c)
def gk(go:Go)(k:List Item)(rd:Option Nat):Option jL->Option fc
 |some (.on t ds up s)=>go t k ds .run up rd s
 |some (.panicked c t ds up s)=>go t k ds (.panicking c) up rd s
 |none=>none
def rp(go:Go)(k:List Item)(t:T V)(ds:List eD)(up:Option Md)(rd:Option Nat)(d l:Nat)(s:S):Option dS->Option fc
 |some (.loop st pend f' t' ps' a' b' d' nt)=>match st with
  |.busy=>none
  |_=>go t ((pend.map Item.code).toList++k) (.collected d::ds) .run up rd (s.put l (.loop .exhausted pend f' t' ps' a' b' d' nt))
 |_=>none
def jS(go:Go)(k:List Item)(t:T V)(ds:List eD)(up:Option Md)(rd:Option Nat)(d l:Nat):Option fc->Option fc
 |some ⟨.returned _,_,s⟩=>rp go k t ds up rd d l s (s.get l)
 |some ⟨.panicked c,_,s⟩=>go t k (.collected d::ds) (.panicking c) up rd s
 |none=>none
def fV(f:FuncId)(nt:Nat)(go:Go)(rec:ig)(k:List Item)(t:T V)(ds:List eD)(up:Option Md)(rd:Option Nat)(s:S)
 (ps:Array Tmp) (assign body:Code):Option V->Option fc
 |some (.func fn first cap)=>match fn with
  |.func g=>match rd with
   |none =>
    let d:=s.next
    let s:=s.alloc .deferred
    let l:=s.next
    jS go k t ds up rd d l (rec g (first++([.func (.yield l) [] []]++cap)) none (s.alloc (.loop .ready none f t ps assign body d nt)))
   |some _=>none
  |_=>none
 |_=>none
def kX(ops:Array Oper)(n:Nat):Bool:=ops.toList.all fun o=>match o.dst with
 |some d=>Nat.blt d n
 |none=>true
def cx:Code->Si
 |.ret=>fun _ _ _ go _ _ _ t ds up rd s=>lS go t ds up rd s (some .ret)
 |.skip=>fun _ _ _ go _ _ k t ds up rd s=>go t k ds .run up rd s
 |.label _=>fun _ _ _ go _ _ k t ds up rd s=>go t k ds .run up rd s
 |.seq a b=>fun _ _ _ go _ _ k t ds up rd s=>go t (.code a::.code b::k) ds .run up rd s
 |.cond c a b=>fun _ _ _ go _ _ k t ds up rd s=>CY go k t ds up rd s a b (eval t c)
 |.block id c=>fun _ _ _ go _ _ k t ds up rd s=>go t (.code c::.inBlock id::k) ds .run up rd s
 |.loop c=>fun _ _ _ go _ _ k t ds up rd s=>go t (.code c::.inLoop c::k) ds .run up rd s
 |.scope c=>fun _ _ _ go _ _ k t ds up rd s=>go t (.code c::.inScope c::k) ds .run up rd s
 |.exit id=>fun _ _ _ go _ _ k t ds up rd s=>pV go t ds up rd s (.exit id) (exitTo id k)
 |.goto l=>fun _ _ _ go _ _ k t ds up rd s=>pV go t ds up rd s (.goto l) (gotoIn l k)
 |.rangeFunc g ps assign body=>fun _ f fn go rec _ k t ds up rd s=>fV f fn.ntmps go rec k t ds up rd s ps assign body (eval t g)
 |.region _ ops true=>fun E _ fn go rec recR k t ds up rd s=>bif kX ops fn.ntmps then gk go k rd (ip E ops rec recR t ds up s)else none
 |.region _ ops false=>fun E _ fn go rec recR k t ds up rd s=>bif kX ops fn.ntmps then gk go k rd (pK E ops rec recR rd ops.toList t ds up s)else none
 |.refuse _=>fun _ _ _ _ _ _ _ _ _ _ _ _=>none
def vH(go:Go)(k:List Item)(t:T V)(ds:List eD)(up:Option Md)(rd:Option Nat)(l:Nat)(s:S):Option dS->Option fc
 |some (.loop .ready pend f t' ps a b d nt)=>go t k ds .run up rd (s.put l (.loop .busy pend f t' ps a b d nt))
 |_=>none
def kR:Item->Si
 |.code c=>cx c
 |.inBlock _=>fun _ _ _ go _ _ k t ds up rd s=>go t k ds .run up rd s
 |.inScope _=>fun _ _ _ go _ _ k t ds up rd s=>go t k ds .run up rd s
 |.inLoop c=>fun _ _ _ go _ _ k t ds up rd s=>go t (.code c::.inLoop c::k) ds .run up rd s
 |.beginRound=>fun _ _ _ go _ _ k t ds up rd s=>match rd with
  |some l=>vH go k t ds up (some l) l s (s.get l)
  |none=>none
 |_=>fun _ _ _ _ _ _ _ _ _ _ _ _=>none
def mS:List Item->dA->FuncId->Func->Go->ig->zM->T V->List eD->Option Md->Option Nat->S->Option fc
 |[]=>fun _ _ _ go _ _ t ds up rd s=>lS go t ds up rd s none
 |i::k=>fun E f fn go rec recR t ds up rd s=>kR i E f fn go rec recR k t ds up rd s
def jA(go:Go)(t:T V)(ds:List eD)(up:Option Md)(rd:Option Nat):Option fc->Option fc
 |some ⟨.returned _,some u,s⟩=>match u with
  |.run=>none
  |u=>go t [] ds (iN u) up rd s
 |some ⟨.panicked c,some u,s⟩=>go t [] ds (qS u c) up rd s
 |_=>none
def kz(go:Go)(t:T V)(ds:List eD)(m:Md)(up:Option Md)(rd:Option Nat)(s:S)(d:Nat):Option dS->Option fc
 |some .deferred=>go t [] ds m up rd (s.put d .gone)
 |_=>none
def MK(up:Option Md)(s:S):Option V->Option fc
 |some v=>some ⟨.returned v,up,s⟩
 |none=>none
def tf(E:dA)(fn:Func)(t:T V)(up:Option Md)(s:S):Md->Option fc
 |.returning=>MK up s (qO E.P fn t s)
 |.panicking c=>some ⟨.panicked c,up,s⟩
 |.run=>none
def dC:List eD->dA->Func->Go->ig->T V->Md->Option Md->Option Nat->S->Option fc
 |.collected d::ds=>fun _ _ go _ t m up rd s=>kz go t ds m up rd s d (s.get d)
 |.call (.func f) captured args::ds=>fun _ _ go rec t m up rd s=>jA go t ds up rd (rec f (args++captured) (some m) s)
 |.call _ _ _::_=>fun _ _ _ _ _ _ _ _ _=>none
 |[]=>fun E fn _ _ t m up _ s=>tf E fn t up s m
def fY(E:dA)(f:FuncId)(fn:Func)(go:Go)(rec:ig)(recR:zM)(t:T V)(todo:List Item)(ds:List eD)(m:Md)(up:Option Md)(rd:Option Nat)(s:S):Option fc :=
 match m with
 |.run=>mS todo E f fn go rec recR t ds up rd s
 |.returning=>dC ds E fn go rec t .returning up rd s
 |.panicking c=>dC ds E fn go rec t (.panicking c) up rd s
inductive sx where
 |frame (f:FuncId) (fn:Func) (t:T V) (todo:List Item) (ds:List eD) (m:Md) (up:Option Md) (rd:Option Nat)
 |call (f:FuncId) (args:List V) (up:Option Md)
 |round (l:Nat) (args:List V)
def gb(ih:sx->S->Option fc)(f:FuncId)(fn:Func):Go:=fun t todo ds m up rd s=>ih (.frame f fn t todo ds m up rd) s
def bA(ih:sx->S->Option fc):ig:=fun g args up s=>ih (.call g args up) s
def eg(ih:sx->S->Option fc):zM:=fun l args s=>ih (.round l args) s
def tI(ih:sx->S->Option fc)(f:FuncId)(args:List V)(up:Option Md)(s:S):Option Func->Option fc
 |some fn=>match fn.body with
  |some c=>bif fn.name == "runtime.NumGoroutine" then none else ki args 0 .leaf fun t=>ih (.frame f fn t [.code c] [] .run up none) s
  |none=>none
 |none=>none
def yE(ih:sx->S->Option fc)(f:FuncId)(args:List V)(up:Option Md)(s:S)(fn:Option Func):Option (V×S)->Option fc
 |some (v,s)=>some ⟨.returned v,up,s⟩
 |none=>tI ih f args up s fn
def wq(E:dA)(ih:sx->S->Option fc)(l:Nat)(args:List V)(s:S):Option dS->Option fc
 |some (.loop _ _ f t ps assign body _ nt)=>match E.P.funcs[f]? with
  |some fn=>bif Nat.ble fn.ntmps nt&&Nat.beq ps.size args.length&&ps.toList.all (fun p=>Nat.blt p nt)then
   cj t ps.toList args fun t=>ih (.frame f fn t [.code assign,.beginRound,.code body] [] .run none (some l)) s
   else none
  |none=>none
 |_=>none
def fe(E:dA)(ih:sx->S->Option fc):sx->S->Option fc
 |.frame f fn t todo ds m up rd,s=>fY E f fn (gb ih f fn) (bA ih) (eg ih) t todo ds m up rd s
 |.call f args up,s=>yE ih f args up s (E.P.funcs[f]?) (match up with|none=>E.orc f args s|some _=>none)
 |.round l args,s=>wq E ih l args s (s.get l)
def pL(E:dA)(n:Nat):sx->S->Option fc :=
 Nat.rec (motive:=fun _=>sx->S->Option fc) (fun _ _=>none) (fun _ ih j s=>fe E ih j s) n
end Go.AI
namespace Go.AI
theorem MV:∀(n k n' k':Nat),k<=n->k'<=n'->zp n k=zp n' k'->k=k':=by
 intro n
 induction n with
 |zero =>
  intro k n' k' hk hk' h
  obtain rfl:k=0:=by omega
  cases n' with
  |zero=>omega
  |succ n' =>
   cases k' with
   |zero=>rfl
   |succ m =>
    grind [zp]
 |succ n ih =>
  intro k n' k' hk hk' h
  cases k with
  |zero =>
   cases n' with
   |zero=>omega
   |succ n' =>
    cases k' with
    |zero=>rfl
    |succ m =>
     grind [zp]
  |succ m =>
   cases n' with
   |zero =>
    grind [zp]
   |succ n' =>
    cases k' with
    |zero =>
     grind [zp]
    |succ m' =>
     simp only[zp]at h
     have hd:∀ x:Nat,Nat.div x 2=x / 2:=fun _=>rfl
     have hm:∀ x:Nat,Nat.mod x 2=x%2:=fun _=>rfl
     cases hb:Nat.beq (Nat.mod m 2) 1<;>cases hb':Nat.beq (Nat.mod m' 2) 1<;>simp[hb,hb']at h
     ·have h1:=ih (Nat.div m 2) n' (Nat.div m' 2) (by rw[hd];omega) (by rw[hd];omega) h
      rw[hd,hd]at h1
      rw[hm]at hb hb'
      have e1:¬ m%2=1:=fun e=>by rw[e]at hb;simp at hb
      have e2:¬ m'%2=1:=fun e=>by rw[e]at hb';simp at hb'
      omega
     grind [Nat.eq_of_beq_eq_true]
theorem PN{k k':Nat}(h:eQ k=eQ k'):k=k':=MV k k k' k' (Nat.le_refl _) (Nat.le_refl _) h
namespace T
variable{α:Type}
section
variable{β:Type}(x:Option α)(p:zf)(l r:T α)(v:Option α)(k:T α->β)
theorem get_leaf(p:zf):(T.leaf:T α).get p=none:=by cases p<;>rfl
theorem get_o:(T.node l v r).get .o=v:=rfl
theorem get_l:(T.node l v r).get (.l p)=l.get p:=rfl
theorem get_r:(T.node l v r).get (.r p)=r.get p:=rfl
theorem mX:setK x (.l p) .leaf k=setK x p .leaf fun t=>k (.node t none .leaf):=rfl
theorem mW:setK x (.l p) (.node l v r) k=setK x p l fun t=>k (.node t v r):=rfl
theorem mV:setK x (.r p) .leaf k=setK x p .leaf fun t=>k (.node .leaf none t):=rfl
theorem mU:setK x (.r p) (.node l v r) k=setK x p r fun t=>k (.node l v t):=rfl
end
def set(x:Option α)(p:zf)(t:T α):T α:=setK x p t id
theorem MB(x:Option α):∀(p:zf) (β:Type) (t:T α) (k:T α->β),setK x p t k=k (setK x p t id):=by
 intro p
 induction p with
 |o=>intro β t k;cases t<;>rfl
 |l p ih =>
  intro β t k
  cases t with
  |leaf=>rw[mX,mX,ih β,ih (T α) .leaf (fun t=>id (T.node t none .leaf))];rfl
  |node l v r=>rw[mW,mW,ih β,ih (T α) l (fun t=>id (T.node t v r))];rfl
 |r p ih =>
  intro β t k
  cases t with
  |leaf=>rw[mV,mV,ih β,ih (T α) .leaf (fun t=>id (T.node .leaf none t))];rfl
  |node l v r=>rw[mU,mU,ih β,ih (T α) r (fun t=>id (T.node l v t))];rfl
theorem setK_eq{β:Type}(x:Option α)(p:zf)(t:T α)(k:T α->β):setK x p t k=k (set x p t):=MB x p β t k
theorem lG(x:Option α)(p:zf):set x (.l p) .leaf=.node (set x p .leaf) none .leaf:=by unfold set;rw[mX,setK_eq];rfl
theorem lE(x:Option α)(p:zf):set x (.r p) .leaf=.node .leaf none (set x p .leaf):=by unfold set;rw[mV,setK_eq];rfl
theorem lF(x:Option α)(p:zf)(l r:T α)(v:Option α):set x (.l p) (.node l v r)=.node (set x p l) v r:=by unfold set;rw[mW,setK_eq];rfl
theorem lC(x:Option α)(p:zf)(l r:T α)(v:Option α):set x (.r p) (.node l v r)=.node l v (set x p r):=by unfold set;rw[mU,setK_eq];rfl
theorem wk(x:Option α):set x .o .leaf=.node .leaf x .leaf:=rfl
theorem wj(x:Option α)(l r:T α)(v:Option α):set x .o (.node l v r)=.node l x r:=rfl
theorem get_set_same(x:Option α):∀(p:zf) (t:T α),(set x p t).get p=x:=by
 intro p
 induction p with
 |o=>intro t;cases t<;>rfl
 |l p ih=>intro t;cases t<;>simp[lG,lF,get_l,ih]
 |r p ih=>intro t;cases t<;>simp[lE,lC,get_r,ih]
theorem zB(x:Option α):∀(p q:zf) (t:T α),p≠q->(set x p t).get q=t.get q:=by
 intro p
 induction p with
 |o =>
  intro q t h
  cases q with
  |o=>exact absurd rfl h
  |l q=>cases t<;>simp[wk,wj,get_l,get_r,get_leaf]
  |r q=>cases t<;>simp[wk,wj,get_l,get_r,get_leaf]
 |l p ih =>
  intro q t h
  cases q with
  |o=>cases t<;>simp[lG,lF,get_o,get_r,get_leaf]
  |l q =>
   have h':p≠q:=fun e=>h (by rw[e])
   cases t<;>simp[lG,lF,get_l,ih q _ h',get_leaf]
  |r q=>cases t<;>simp[lG,lF,get_o,get_r,get_leaf]
 |r p ih =>
  intro q t h
  cases q with
  |o=>cases t<;>simp[lE,lC,get_o,get_l,get_leaf]
  |r q =>
   have h':p≠q:=fun e=>h (by rw[e])
   cases t<;>simp[lE,lC,get_r,ih q _ h',get_leaf]
  |l q=>cases t<;>simp[lE,lC,get_o,get_l,get_leaf]
theorem get_setN(x:Option α)(i j:Nat)(t:T α):(set x (eQ i) t).get (eQ j)=if i=j then x else t.get (eQ j):=by
 grind [get_set_same,zB,PN]
end T
theorem AT{β:Type}(n:Nat)(k:Nat->β):CC n k=k n:=by cases n<;>rfl
theorem KJ{β:Type}(n:Int)(k:Int->β):Hg n k=k n:=by cases n<;>simp[Hg,AT]
theorem bO(k:IntKind)(n:Int):nE k n=.int k n:=KJ n _
theorem S.put_eq(s:S)(f:Nat)(b:dS):s.put f b=⟨s.h.set (some b) (eQ f),s.next⟩:=by
 simp_all[S.put,T.setK_eq]
theorem S.alloc_eq(s:S)(b:dS):s.alloc b=⟨s.h.set (some b) (eQ s.next),s.next+1⟩:=by
 simp_all[S.alloc,T.setK_eq,AT]
theorem S.get_eq(s:S)(f:Nat):s.get f=s.h.get (eQ f):=by cases s;rfl
theorem S.get_put(s:S)(f g:Nat)(b:dS):(s.put f b).get g=if f=g then some b else s.get g:=by
 rw[S.put_eq,S.get_eq,S.get_eq,T.get_setN]
theorem S.get_alloc(s:S)(g:Nat)(b:dS):(s.alloc b).get g=if s.next=g then some b else s.get g:=by
 rw[S.alloc_eq,S.get_eq,S.get_eq,T.get_setN]
theorem S.next_put(s:S)(f:Nat)(b:dS):(s.put f b).next=s.next:=by rw[S.put_eq]
theorem S.next_alloc(s:S)(b:dS):(s.alloc b).next=s.next+1:=by rw[S.alloc_eq]
theorem PM{β:Type}(t:T V)(d:Option Tmp)(v:Option V)(k:T V->β):mH t d v k=k (mH t d v id):=by
 cases d with
 |none=>rfl
 |some i=>simp only[mH];rw[T.setK_eq,T.setK_eq];rfl
theorem NU(t:T V)(d:Option Tmp)(v:Option V)(i:Nat):(mH t d v id).get (eQ i)=if d=some i then v else t.get (eQ i):=by
 cases d with
 |none=>simp[mH]
 |some j=>simp only[mH];rw[T.setK_eq];simp only[id];rw[T.get_setN];simp
end Go.AI
namespace Go.AI
structure zg where
 b:Nat
 base:Nat
 lim:Nat
def zg.ro(l:zg):Prop:=l.lim<l.base
abbrev aD:=Nat->Nat->Option zg
def aD.le(ρ ρ':aD):Prop:=∀ f v l,ρ f v=some l->ρ' f v=some l
theorem aD.le_refl(ρ:aD):ρ.le ρ:=fun _ _ _ h=>h
theorem aD.le_trans{a b c:aD}(h:a.le b)(k:b.le c):a.le c:=fun _ _ _ x=>k _ _ _ (h _ _ _ x)
def aC(l:List Nat):ByteArray:=⟨(l.map UInt8.ofNat).toArray⟩
def iy(ρ:aD)(a:Ad):Option Addr:=match ρ a.f a.v with
 |some l=>if l.base<=a.c then some ⟨l.b,a.c - l.base,none⟩else none
 |none=>none
def mF(ρ:aD):Fn->Option Fn
 |.yield l=>match ρ l 0 with
  |some x=>some (.yield x.b)
  |none=>none
 |f=>some f
def bS(l:zg)(a:Ad)(cap:Option Nat)(sz:Nat):Nat:=match cap with
 |some c=>c
 |none=>(l.lim - a.c) / sz
def bj(l:zg)(a:Ad)(z:Nat)(cap:Option Nat)(sz:Nat):Nat:=match cap with
 |some _=>a.c
 |none=>if(l.lim - a.c) / sz=0 then z else a.c
def IE:Nat->Option Nat
 |0=>none
 |n+1=>some n
def gL(ρ:aD)(a:Ad)(z len:Nat)(cap:Option Nat)(sz:Nat):Option Value:=if sz=0 then(if len=0/\cap=some 0 then some (.slice (some ⟨a.f,a.c,IE a.v⟩) 0 0)else none)else match ρ a.f a.v with
 |some l=>if l.base<=bj l a z cap sz/\l.base<=a.c/\len<=bS l a cap sz/\0<sz then
  some (.slice (some ⟨l.b,bj l a z cap sz - l.base,none⟩) len (bS l a cap sz))else none
 |none=>none
mutual
def den(ρ:aD):V->Option Value
 |.bool b=>some (.bool b)
 |.int k n=>some (.int k n)
 |.str l=>some (.string (aC l))
 |.ptr a=>match iy ρ a with
  |some x=>some (.pointer (some x))
  |none=>none
 |.nilptr=>some (.pointer none)
 |.slice a z len cap sz=>gL ρ a z len cap sz
 |.nilslice=>some (.slice none 0 0)
 |.map r=>match ρ r 0 with
  |some l=>some (.map (some l.b))
  |none=>none
 |.nilmap=>some (.map none)
 |.func fn first cap=>match mF ρ fn with
  |some fn=>match aQ ρ first with
   |some first=>match aQ ρ cap with
    |some cap=>some (.func fn first.toArray cap.toArray)
    |none=>none
   |none=>none
  |none=>none
 |.nilFunc=>some .nilFunc
 |.iface t v=>match den ρ v with
  |some x=>some (.iface t x)
  |none=>none
 |.nilIface=>some .nilIface
 |.agg cs=>match aQ ρ cs with
  |some l=>some (.agg l.toArray)
  |none=>none
 |.tuple cs=>match aQ ρ cs with
  |some l=>some (.tuple l.toArray)
  |none=>none
 |.atom _=>none
def aQ(ρ:aD):List V->Option (List Value)
 |[]=>some []
 |x::r=>match den ρ x with
  |some y=>match aQ ρ r with
   |some l=>some (y::l)
   |none=>none
  |none=>none
end
theorem KU{ρ ρ':aD}(h:ρ.le ρ'){a:Ad}{x:Addr}(e:iy ρ a=some x):iy ρ' a=some x:=by
 unfold iy at e ⊢
 cases hl:ρ a.f a.v with
 |none=>simp[hl]at e
 |some l=>rw[hl]at e;rw[h _ _ _ hl];exact e
theorem yt{ρ ρ':aD}(h:ρ.le ρ'){a x:Fn}(e:mF ρ a=some x):mF ρ' a=some x:=by
 cases a<;>try exact e
 rename_i l
 unfold mF at e ⊢
 cases hl:ρ l 0 with
 |none=>simp[hl]at e
 |some y=>simp only[hl]at e;simp only[h _ _ _ hl];exact e
mutual
theorem bw{ρ ρ':aD}(h:ρ.le ρ'):∀(v:V) (x:Value),den ρ v=some x->den ρ' v=some x
 |.atom _,_,e=>by simp only[den]at e;cases e
 |.bool _,_,e=>e
 |.int _ _,_,e=>e
 |.str _,_,e=>e
 |.ptr a,x,e=>by
  grind [den,KU]
 |.nilptr,_,e=>e
 |.slice a z len cap sz,x,e=>by
  simp only[den,gL]at e ⊢
  by_cases hz:sz=0
  ·grind
  rw[if_neg hz]at e ⊢
  cases hl:ρ a.f a.v with
  |none=>simp[hl]at e
  |some l=>rw[hl]at e;rw[h _ _ _ hl];exact e
 |.nilslice,_,e=>e
 |.map r,x,e=>by
  simp only[den]at e ⊢
  cases hl:ρ r 0 with
  |none=>simp[hl]at e
  |some l=>rw[hl]at e;rw[h _ _ _ hl];exact e
 |.nilmap,_,e=>e
 |.func fn first cap,x,e=>by
  simp only[den]at e ⊢
  cases hf:mF ρ fn with
  |none=>simp[hf]at e
  |some g =>
   rw[hf]at e;rw[yt h hf]
   cases h1:aQ ρ first with
   |none=>simp[h1]at e
   |some l =>
    cases h2:aQ ρ cap with
    |none=>simp[h1,h2]at e
    |some m=>simp only[h1,h2]at e;simp only[fx h first l h1,fx h cap m h2];exact e
 |.nilFunc,_,e=>e
 |.iface t v,x,e=>by
  simp only[den]at e ⊢
  cases hv:den ρ v with
  |none=>simp[hv]at e
  |some y=>rw[hv]at e;rw[bw h v y hv];exact e
 |.nilIface,_,e=>e
 |.agg cs,x,e=>by
  simp only[den]at e ⊢
  cases hl:aQ ρ cs with
  |none=>simp[hl]at e
  |some l=>rw[hl]at e;rw[fx h cs l hl];exact e
 |.tuple cs,x,e=>by
  simp only[den]at e ⊢
  cases hl:aQ ρ cs with
  |none=>simp[hl]at e
  |some l=>rw[hl]at e;rw[fx h cs l hl];exact e
theorem fx{ρ ρ':aD}(h:ρ.le ρ'):∀(l:List V) (m:List Value),aQ ρ l=some m->aQ ρ' l=some m
 |[],_,e=>e
 |x::r,m,e=>by
  simp only[aQ]at e ⊢
  cases hx:den ρ x with
  |none=>simp[hx]at e
  |some y =>
   cases hr:aQ ρ r with
   |none=>simp[hx,hr]at e
   |some q=>simp only[hx,hr]at e;simp only[bw h x y hx,fx h r q hr];exact e
end
theorem aV{ρ:aD}{x:V}{r:List V}{m:List Value}:aQ ρ (x::r)=some m↔∃ y q,den ρ x=some y/\aQ ρ r=some q/\m=y::q:=by
 grind [aQ]
theorem du{ρ:aD}:∀ {x y:List V} {a b:List Value},aQ ρ x=some a->aQ ρ y=some b->aQ ρ (x++y)=some (a++b)
 |[],y,a,b,hx,hy=>by cases hx;exact hy
 |v::x,y,a,b,hx,hy=>by
  obtain⟨u,q,h1,h2,rfl⟩:=aV.1 hx
  exact aV.2 ⟨u,q++b,h1,du h2 hy,rfl⟩
theorem bB{ρ:aD}:∀ {x:List V} {a:List Value},aQ ρ x=some a->a.length=x.length
 |[],a,h=>by cases h;rfl
 |v::x,a,h=>by
  obtain⟨u,q,h1,h2,rfl⟩:=aV.1 h
  simp[bB h2]
theorem eu{ρ:aD}:∀ {x:List V} {a:List Value} (i:Nat) {v:V},aQ ρ x=some a->x[i]? = some v->∃ y,den ρ v=some y/\a[i]? = some y
 |[],a,i,v,h,e=>by simp at e
 |u::x,a,i,v,h,e=>by
  obtain⟨y,q,h1,h2,rfl⟩:=aV.1 h
  cases i with
  |zero=>simp at e;subst e;exact⟨y,h1,rfl⟩
  |succ i=>simp at e;obtain⟨z,hz,hz'⟩:=eu i h2 e;exact⟨z,hz,by simpa using hz'⟩
theorem Bm{ρ:aD}:∀ {x:List V} {a:List Value} (n:Nat),aQ ρ x=some a->aQ ρ (x.drop n)=some (a.drop n)
 |[],a,n,h=>by cases h;simp[aQ]
 |u::x,a,n,h=>by
  obtain⟨y,q,h1,h2,rfl⟩:=aV.1 h
  cases n with
  |zero=>exact aV.2 ⟨y,q,h1,h2,rfl⟩
  |succ n=>simpa using Bm n h2
theorem Bk{ρ:aD}:∀ {x:List V} {a:List Value} (n:Nat),aQ ρ x=some a->aQ ρ (x.take n)=some (a.take n)
 |[],a,n,h=>by cases h;simp[aQ]
 |u::x,a,n,h=>by
  obtain⟨y,q,h1,h2,rfl⟩:=aV.1 h
  cases n with
  |zero=>simp[aQ]
  |succ n=>simpa using aV.2 ⟨y,q.take n,h1,Bk n h2,rfl⟩
theorem kx{ρ:aD}:∀ {x:List V} {a:List Value},x.length=a.length->(∀(i:Nat) (v:V),x[i]? = some v->∃ y,den ρ v=some y/\a[i]? = some y)->aQ ρ x=some a
 |[],a,hl,h=>by have:a=[]:=List.length_eq_zero_iff.1 hl.symm;subst this;rfl
 |u::x,[],hl,h=>by simp at hl
 |u::x,b::a,hl,h=>by
  obtain⟨y,hy,hy'⟩:=h 0 u rfl
  simp at hy';subst hy'
  exact aV.2 ⟨b,a,hy,kx (by simpa using hl) (fun i v e=>by simpa using h (i+1) v (by simpa using e)),rfl⟩
theorem et{ρ:aD}{v:V}{x:Value}(h:den ρ v=some x):aQ ρ v.cells=some x.cells.toList:=by
 cases v<;>try(
  refine aV.2 ⟨x,[],h,rfl,?_⟩
  simp only[den]at h
  (repeat' split at h)<;>first|(cases h;done)|(cases h;rfl))
 case slice a z len cap sz =>
  refine aV.2 ⟨x,[],h,rfl,?_⟩
  simp only[den,gL]at h
  (repeat' split at h)<;>first|(cases h;done)|(cases h;rfl)
 case agg cs =>
  simp only[den]at h
  split at h
  ·rename_i l hl
   cases h
   simpa[V.cells,Value.cells]using hl
  ·cases h
theorem wF{ρ:aD}{v:V}{x:Value}(h:den ρ v=some x)(h1:v.one=true):x.oneCell'=true:=by
 cases v<;>simp[V.one]at h1
 case atom i=>simp only[den]at h;cases h
 case slice a z len cap sz =>
  simp only[den,gL]at h
  (repeat' split at h)<;>first|(cases h;done)|(cases h;rfl)
 all_goals
  simp only[den]at h
  (repeat' split at h)<;>first|(cases h;done)|(cases h;rfl)
def TR(ρ:aD)(t:T V)(tm:Array Value):Prop:=∀(i:Nat) (v:V),t.get (eQ i)=some v->∃ y,den ρ v=some y/\tm[i]? = some y
theorem TR.mono{ρ ρ':aD}(h:ρ.le ρ'){t:T V}{tm:Array Value}(k:TR ρ t tm):TR ρ' t tm:=fun i v e=>by
 obtain⟨y,hy,hy'⟩:=k i v e
 grind [bw]
theorem TR.leaf(ρ:aD)(tm:Array Value):TR ρ .leaf tm:=fun i v e=>by rw[T.get_leaf]at e;cases e
theorem TR.put{ρ:aD}{t:T V}{tm:Array Value}(k:TR ρ t tm){i:Nat}{v:V}{y:Value}(hv:den ρ v=some y)(hi:i<tm.size) :
 TR ρ (t.set (some v) (eQ i)) (tm.setIfInBounds i y):=fun j u e=>by
 rw[T.get_setN]at e
 by_cases h:i=j
 ·subst h;rw[if_pos rfl]at e;cases e;exact⟨y,hv,by simp[hi]⟩
 ·rw[if_neg h]at e
  obtain⟨z,hz,hz'⟩:=k j u e
  exact⟨z,hz,by rw[Array.getElem?_setIfInBounds_ne h];exact hz'⟩
def Zf(ρ:aD)(e:oY)(r:MapEntry):Prop:=den ρ e.key=some r.key/\den ρ e.val=some r.val/\e.born=r.born
def fL(ρ:aD):List oY->List MapEntry->Prop
 |[],[]=>True
 |e::es,r::rs=>Zf ρ e r/\fL ρ es rs
 |_,_=>False
theorem fL.mono{ρ ρ':aD}(h:ρ.le ρ'):∀ {es:List oY} {rs:List MapEntry},fL ρ es rs->fL ρ' es rs
 |[],[],_=>trivial
 |_::_,_::_,⟨⟨a,b,c⟩,k⟩=>⟨⟨bw h _ _ a,bw h _ _ b,c⟩,fL.mono h k⟩
 |[],_::_,k=>k.elim
 |_::_,[],k=>k.elim
def FN(ρ:aD)(w:World)(f:Nat)(sb:Bool)(u:mK):Prop :=
 ∃(l:zg) (c:Array Value) (e:TypeId) (fz:Nat×Nat),ρ f u.v=some l/\w.heap[l.b]? = some (.cells c e fz)/\l.base<=u.lo/\l.lim=l.base+c.size /\
  ((sb=false->fz=(0,0))/\∀ i,i<c.size->¬(fz.1<=i/\i<fz.2))/\∀(i:Nat) (x:V),u.cells[i]? = some x->∃ y,den ρ x=some y/\c[u.lo - l.base+i]? = some y
def YW(ρ:aD)(w:World)(f:Nat)(u:mK):Prop :=
 ∃(l:zg) (c:Array Value) (e:TypeId) (fz:Nat×Nat),ρ f u.v=some l/\w.heap[l.b]? = some (.cells c e fz)/\l.base<=u.lo /\
  ∀(i:Nat) (x:V),u.cells[i]? = some x->∃ y,den ρ x=some y/\c[u.lo - l.base+i]? = some y
def YV(ρ:aD)(w:World)(f:Nat)(u:mK):Prop :=
 ∃(l:zg) (c:Array Value) (e:TypeId) (fz:Nat×Nat),ρ f u.v=some l/\l.b=f/\w.heap[f]? = some (.cells c e fz)/\(u.v=127->l.base=u.lo/\c.size=u.cells.length)
def zd(ρ:aD)(w:World)(f:Nat):dS->Prop
 |.ro vers=>∀ u∈vers,YW ρ w f u/\YV ρ w f u
 |.cells _ sb nv vers=>(∀ v,nv<=v->ρ f v=none)/\∀ u∈vers,u.v<nv/\FN ρ w f sb u
 |.map es clock=>∃ l rs,ρ f 0=some l/\w.heap[l.b]? = some (.map rs clock)/\fL ρ es rs.toList
 |.gone=>True
 |.loop st pend fn t ps a b d nt=>∃ l ld tm,ρ f 0=some l/\ρ d 0=some ld/\TR ρ t tm/\nt<=tm.size/\w.heap[l.b]? = some (.loop { state:=st,pending:=pend,fn,tmps:=tm,params:=ps,assign:=a,body:=b,defers:=ld.b })
 |.deferred=>∃ l,ρ f 0=some l/\w.heap[l.b]? = some (.deferred (some []))
structure HR(ρ:aD)(s:S)(w:World):Prop where
 fresh:∀ f v,s.next<=f->ρ f v=none
 inj:∀ f v l f' v' l',ρ f v=some l->ρ f' v'=some l'->l.b=l'.b->f=f'/\l.base=l'.base
 low:∀ f v l,ρ f v=some l->l.b<w.heap.size
 blk:∀ f B,s.get f=some B->zd ρ w f B
 dom:∀ f B,s.get f=some B->f<s.next
 rw:∀ f B,s.get f=some B->(∀ vers,B≠.ro vers)->∀ v l,ρ f v=some l->¬ l.ro
structure FR(ρ:aD)(w:World)(ρ':aD)(w':World):Prop where
 ext:ρ.le ρ'
 size:w.heap.size<=w'.heap.size
 os:w'.os=w.os
 tape:w'.tape=w.tape
 output:w'.output=w.output
 same:∀ b,b<w.heap.size->(∀ f v l,ρ f v=some l->¬ l.ro->l.b≠b)->w'.heap[b]? = w.heap[b]?
 new:∀ f v l,ρ' f v=some l->l.b<w.heap.size->∃ f' v' l',ρ f' v'=some l'/\l'.b=l.b/\(l'.ro->l.ro)
theorem FR.refl(ρ:aD)(w:World):FR ρ w ρ w:=⟨ρ.le_refl,Nat.le_refl _,rfl,rfl,rfl,fun _ _ _=>rfl,fun f v l h _=>⟨f,v,l,h,rfl,id⟩⟩
theorem FR.trans{ρ ρ1 ρ2:aD}{w w1 w2:World}(h:FR ρ w ρ1 w1)(k:FR ρ1 w1 ρ2 w2):FR ρ w ρ2 w2 where
 ext:=aD.le_trans h.ext k.ext
 size:=Nat.le_trans h.size k.size
 os:=k.os.trans h.os
 tape:=k.tape.trans h.tape
 output:=k.output.trans h.output
 same b hb hn:=by
  rw[k.same b (Nat.lt_of_lt_of_le hb h.size) (fun f v l e hro he=>?_)]
  ·exact h.same b hb hn
  ·obtain⟨f',v',l',e',he',hr'⟩:=h.new f v l e (by omega)
   grind
 new f v l e hl:=by
  obtain⟨f1,v1,l1,e1,h1,r1⟩:=k.new f v l e (Nat.lt_of_lt_of_le hl h.size)
  obtain⟨f2,v2,l2,e2,h2,r2⟩:=h.new f1 v1 l1 e1 (by omega)
  grind
theorem FR.drawn{ρ:aD}(w:World)(n:Nat):FR ρ w ρ { w with drawn:=n }:=⟨ρ.le_refl,Nat.le_refl _,rfl,rfl,rfl,fun _ _ _=>rfl,fun f v l h _=>⟨f,v,l,h,rfl,id⟩⟩
theorem FN.of_heap{ρ:aD}{w w':World}{f:Nat}{sb:Bool}{u:mK}(h:FN ρ w f sb u)(hh:∀ l,ρ f u.v=some l->w'.heap[l.b]? = w.heap[l.b]?):FN ρ w' f sb u:=by
 obtain⟨l,c,e,fz,h1,h2,r⟩:=h
 exact⟨l,c,e,fz,h1,by rw[hh l h1];exact h2,r⟩
theorem FN.mono{ρ ρ':aD}(h:ρ.le ρ'){w:World}{f:Nat}{sb:Bool}{u:mK}(k:FN ρ w f sb u):FN ρ' w f sb u:=by
 obtain⟨l,c,e,fz,h1,h2,h3,h4,h5,h6⟩:=k
 refine⟨l,c,e,fz,h _ _ _ h1,h2,h3,h4,h5,fun i x hx=>?_⟩
 grind [bw]
theorem HR.drawn{ρ:aD}{s:S}{w:World}(h:HR ρ s w)(n:Nat):HR ρ s { w with drawn:=n } :=
 ⟨h.fresh,h.inj,h.low,h.blk,h.dom,h.rw⟩
theorem eM:∀ {vers:List mK} {v:Nat} {u:mK},bu vers v=some u->u∈vers/\u.v=v
 |[],v,u,h=>by simp[bu]at h
 |x::r,v,u,h=>by
  simp only[bu]at h
  cases hb:Nat.beq x.v v with
  |true=>simp[hb]at h;subst h;exact⟨by simp,Nat.eq_of_beq_eq_true hb⟩
  |false=>simp[hb]at h;obtain⟨h1,h2⟩:=eM h;exact⟨List.mem_cons_of_mem _ h1,h2⟩
theorem ed:∀ {n:Nat} {l m:List V},aU n l=some m->m=l.take n/\n<=l.length
 |0,l,m,h=>by simp[aU]at h;subst h;simp
 |n+1,[],m,h=>by simp[aU]at h
 |n+1,x::r,m,h=>by
  simp only[aU]at h
  cases hr:aU n r with
  |none=>simp[hr]at h
  |some q =>
   simp[hr]at h
   obtain⟨e,hl⟩:=ed hr
   grind
theorem HR.ver{ρ:aD}{s:S}{w:World}(h:HR ρ s w){a:Ad}{e:TypeId}{sb:Bool}{nv:Nat}{vers:List mK}{u:mK}
 (hg:s.get a.f=some (.cells e sb nv vers)) (hu:bu vers a.v=some u):FN ρ w a.f sb u/\u∈vers/\u.v=a.v:=by
 obtain⟨hm,hv⟩:=eM hu
 exact⟨((h.blk _ _ hg).2 u hm).2,hm,hv⟩
theorem wZ{ρ:aD}{s:S}{w:World}(h:HR ρ s w){a:Ad}{x:V}(e:nH s a=some x) :
 ∃ ad y,iy ρ a=some ad/\den ρ x=some y/\w.cell? ad=some y:=by
 unfold nH at e
 split at e
 ·rename_i el sb nv vers hg
  split at e
  ·rename_i u hu
   cases hb:Nat.ble u.lo a.c with
   |false=>simp[hb]at e
   |true =>
    simp only[hb,cond_true]at e
    have hle:=Nat.le_of_ble_eq_true hb
    obtain⟨⟨l,c,el',fz,h1,h2,h3,h4,h5,h6⟩,_,hv⟩:=h.ver hg hu
    rw[hv]at h1
    obtain⟨y,hy,hy'⟩:=h6 _ _ e
    refine⟨⟨l.b,a.c - l.base,none⟩,y,by simp[iy,h1];omega,hy,?_⟩
    simp only[World.cell?,h2]
    simp
    rw[<- hy'];congr 1;omega
  ·cases e
 ·rename_i vers hg
  split at e
  ·rename_i u hu
   cases hb:Nat.ble u.lo a.c with
   |false=>simp[hb]at e
   |true =>
    simp only[hb,cond_true]at e
    have hle:=Nat.le_of_ble_eq_true hb
    obtain⟨hm,hv⟩:=eM hu
    obtain⟨l,c,el',fz,h1,h2,h3,h6⟩:=(h.blk _ _ hg u hm).1
    rw[hv]at h1
    obtain⟨y,hy,hy'⟩:=h6 _ _ e
    refine⟨⟨l.b,a.c - l.base,none⟩,y,by simp[iy,h1];omega,hy,?_⟩
    simp only[World.cell?,h2]
    simp
    rw[<- hy'];congr 1;omega
  ·cases e
 ·cases e
theorem AD{ρ:aD}{w:World}{a:Ad}{n:Nat}{l:List V}{u:mK}{lo:zg}{c:Array Value}{el':TypeId}{fz:Nat×Nat}(h1:ρ a.f a.v=some lo)(h2:w.heap[lo.b]? = some (.cells c el' fz))(h3:lo.base<=u.lo)(hle:u.lo<=a.c)
 (h6:∀(i:Nat) (x:V),u.cells[i]? = some x->∃ y,den ρ x=some y/\c[u.lo - lo.base+i]? = some y) (e:aU n (u.cells.drop (a.c - u.lo))=some l) :
 ∃ ad ys,iy ρ a=some ad/\aQ ρ l=some ys/\ys.length=n/\∀(j:Nat) (v:Value),ys[j]? = some v->w.cell? (ad.add j)=some v:=by
 obtain⟨rfl,hlen⟩:=ed e
 have hcell:∀(j:Nat) (v:V),((u.cells.drop (a.c - u.lo)).take n)[j]? = some v->∃ y,den ρ v=some y/\c[a.c - lo.base+j]? = some y:=fun j v hj=>by
  grind
 have hlen':((u.cells.drop (a.c - u.lo)).take n).length=n:=by rw[List.length_take];omega
 have hsz:n=0\/a.c - lo.base+n<=c.size:=by
  rcases Nat.eq_zero_or_pos n with h0|h0
  ·exact .inl h0
  ·right
   have hx:∃ v,((u.cells.drop (a.c - u.lo)).take n)[n - 1]? = some v:=⟨_,List.getElem?_eq_getElem (by omega)⟩
   grind
 refine⟨⟨lo.b,a.c - lo.base,none⟩,(c.toList.drop (a.c - lo.base)).take n,by simp[iy,h1];omega,?_,?_,?_⟩
 ·refine kx ?_ fun i v hi=>?_
  ·rw[hlen',List.length_take,List.length_drop,Array.length_toList];rcases hsz with h0|h0<;>omega
  ·obtain⟨y,hy,hy'⟩:=hcell i v hi
   refine⟨y,hy,?_⟩
   have hi2:i<n:=by have:=(List.getElem?_eq_some_iff.1 hi).1;omega
   rw[List.getElem?_take_of_lt hi2,List.getElem?_drop,Array.getElem?_toList];exact hy'
 ·rw[List.length_take,List.length_drop,Array.length_toList];rcases hsz with h0|h0<;>omega
 ·intro j v hj
  have hj2:j<n:=by
   grind
  rw[List.getElem?_take_of_lt hj2,List.getElem?_drop,Array.getElem?_toList]at hj
  have ha:(⟨lo.b,a.c - lo.base,none⟩:Addr).add j=⟨lo.b,a.c - lo.base+j,none⟩:=by
   unfold Addr.add;split
   ·grind
   ·rfl
  rw[ha]
  simp only[World.cell?,h2]
  simpa using hj
theorem iG{ρ:aD}{s:S}{w:World}(h:HR ρ s w){a:Ad}{n:Nat}{l:List V}(e:loadCells s a n=some l) :
 ∃ ad ys,iy ρ a=some ad/\aQ ρ l=some ys/\ys.length=n/\∀(j:Nat) (v:Value),ys[j]? = some v->w.cell? (ad.add j)=some v:=by
 unfold loadCells at e
 split at e
 ·rename_i el sb nv vers hg
  split at e
  ·rename_i u hu
   cases hb:Nat.ble u.lo a.c with
   |false=>simp[hb]at e
   |true =>
    simp only[hb,cond_true]at e
    obtain⟨⟨lo,c,el',fz,h1,h2,h3,h4,h5,h6⟩,_,hv⟩:=h.ver hg hu
    rw[hv]at h1
    exact AD h1 h2 h3 (Nat.le_of_ble_eq_true hb) h6 e
  ·cases e
 ·rename_i vers hg
  split at e
  ·rename_i u hu
   cases hb:Nat.ble u.lo a.c with
   |false=>simp[hb]at e
   |true =>
    simp only[hb,cond_true]at e
    obtain⟨hm,hv⟩:=eM hu
    obtain⟨lo,c,el',fz,h1,h2,h3,h6⟩:=(h.blk _ _ hg u hm).1
    rw[hv]at h1
    exact AD h1 h2 h3 (Nat.le_of_ble_eq_true hb) h6 e
  ·cases e
 ·cases e
def aD.put(ρ:aD)(f v:Nat)(l:zg):aD:=fun g u=>if g=f/\u=v then some l else ρ g u
theorem aD.put_same(ρ:aD)(f v:Nat)(l:zg):ρ.put f v l f v=some l:=by simp[aD.put]
theorem aD.le_put{ρ:aD}{f v:Nat}(l:zg)(h:ρ f v=none):ρ.le (ρ.put f v l):=fun g u x hx=>by
 grind [aD.put]
theorem aD.of_put{ρ:aD}{f v g u:Nat}{l x:zg}(h:ρ.put f v l g u=some x):(g=f/\u=v/\x=l)\/ρ g u=some x:=by
 grind [aD.put]
theorem zd.keep{ρ ρ':aD}{w w':World}{f:Nat}{B:dS}(h:zd ρ w f B)(he:ρ.le ρ')(hn:∀ v,ρ f v=none->ρ' f v=none)
 (hh:∀ v l,ρ f v=some l->w'.heap[l.b]? = w.heap[l.b]?):zd ρ' w' f B:=by
 cases B with
 |ro vers =>
  intro u hu
  obtain⟨⟨l,c,e,fz,h1,h2,h3,h4⟩,l',c',e',fz',g1,g2,g3,g4⟩:=h u hu
  refine⟨⟨l,c,e,fz,he _ _ _ h1,by rw[hh _ l h1];exact h2,h3,fun i x hx=>?_⟩,l',c',e',fz',he _ _ _ g1,g2,by rw[<- g2,hh _ l' g1,g2];exact g3,g4⟩
  obtain⟨y,hy,hy'⟩:=h4 i x hx
  exact⟨y,bw he x y hy,hy'⟩
 |cells e sb nv vers =>
  exact⟨fun v hv=>hn v (h.1 v hv),fun u hu=>⟨(h.2 u hu).1,((h.2 u hu).2.of_heap (fun l hl=>hh _ l hl)).mono he⟩⟩
 |map es clock =>
  obtain⟨l,rs,h1,h2,h3⟩:=h
  exact⟨l,rs,he _ _ _ h1,by rw[hh _ l h1];exact h2,h3.mono he⟩
 |gone=>trivial
 |loop st pend fn t ps a b d nt =>
  obtain⟨l,ld,tm,h1,h2,h3,h4⟩:=h
  exact⟨l,ld,tm,he _ _ _ h1,he _ _ _ h2,h3.mono he,by rw[hh _ l h1];exact h4⟩
 |deferred =>
  obtain⟨l,h1,h2⟩:=h
  exact⟨l,he _ _ _ h1,by rw[hh _ l h1];exact h2⟩
theorem im(w:World)(o:Obj){k:Nat}(h:k<w.heap.size):(w.alloc o).heap[k]? = w.heap[k]?:=by
 show(w.heap.push o)[k]? = _
 grind
theorem eh(w:World)(o:Obj):(w.alloc o).heap[w.heap.size]? = some o:=by
 show(w.heap.push o)[w.heap.size]? = _
 simp
theorem HR.alloc{ρ:aD}{s:S}{w:World}(h:HR ρ s w)(B:dS)(o:Obj)(base lim:Nat)(hbl:base<=lim)
 (hB:zd (ρ.put s.next 0 ⟨w.heap.size,base,lim⟩) (w.alloc o) s.next B) :
 HR (ρ.put s.next 0 ⟨w.heap.size,base,lim⟩) (s.alloc B) (w.alloc o)/\FR ρ w (ρ.put s.next 0 ⟨w.heap.size,base,lim⟩) (w.alloc o):=by
 have hfree:ρ s.next 0=none:=h.fresh _ _ (Nat.le_refl _)
 refine⟨⟨?_,?_,?_,?_,?_,?_⟩,⟨aD.le_put _ hfree,by simp,rfl,rfl,rfl,?_,?_⟩⟩
 ·intro f v hf
  rw[S.next_alloc]at hf
  unfold aD.put
  rw[if_neg (by omega)]
  exact h.fresh f v (by omega)
 ·intro f v l f' v' l' e e' hb
  rcases aD.of_put e with⟨rfl,rfl,rfl⟩|e
  ·rcases aD.of_put e' with⟨rfl,rfl,rfl⟩|e'
   ·exact⟨rfl,rfl⟩
   ·have:=h.low _ _ _ e';simp at hb;omega
  ·rcases aD.of_put e' with⟨rfl,rfl,rfl⟩|e'
   ·have:=h.low _ _ _ e;simp at hb;omega
   ·exact h.inj _ _ _ _ _ _ e e' hb
 ·intro f v l e
  rcases aD.of_put e with⟨rfl,rfl,rfl⟩|e
  ·simp
  ·have:=h.low _ _ _ e;simp;omega
 ·intro f B' hg
  rw[S.get_alloc]at hg
  split at hg
  ·rename_i e;cases hg;subst e;exact hB
  ·rename_i hne
   refine(h.blk f B' hg).keep (aD.le_put _ hfree) (fun v hv=>?_) (fun v l hl=>im _ _ (h.low _ _ _ hl))
   unfold aD.put;rw[if_neg (by omega)];exact hv
 ·intro f B' hg
  rw[S.get_alloc]at hg
  rw[S.next_alloc]
  split at hg
  ·omega
  ·exact Nat.lt_succ_of_lt (h.dom f B' hg)
 ·intro f B' hg hnr v l hl
  rw[S.get_alloc]at hg
  rcases aD.of_put hl with⟨rfl,rfl,rfl⟩|hl
  ·show ¬(lim<base);omega
  ·split at hg
   ·rename_i he;subst he;rw[h.fresh _ _ (Nat.le_refl _)]at hl;cases hl
   ·exact h.rw f B' hg hnr v l hl
 ·intro b hb _;exact im _ _ hb
 ·intro f v l e hl
  rcases aD.of_put e with⟨rfl,rfl,rfl⟩|e
  ·simp at hl
  ·exact⟨f,v,l,e,rfl,id⟩
theorem gu{ρ:aD}{s:S}{w:World}(h:HR ρ s w)(sb:Bool)(elem elem':TypeId){cs:List V}{ys:Array Value}(hd:aQ ρ cs=some (ys.toList.take cs.length))(fz:Nat×Nat)(hfz:(sb=false->fz=(0,0))/\∀ i,i<ys.size->¬(fz.1<=i/\i<fz.2)) :
 ∃ ρ',ρ' s.next 0=some ⟨w.heap.size,0,ys.size⟩/\HR ρ' (aY sb s elem cs).2 (w.alloc (.cells ys elem' fz))/\FR ρ w ρ' (w.alloc (.cells ys elem' fz)):=by
 have hfree:ρ s.next 0=none:=h.fresh _ _ (Nat.le_refl _)
 refine⟨ρ.put s.next 0 ⟨w.heap.size,0,ys.size⟩,aD.put_same _ _ _ _,h.alloc (.cells elem sb 1 [⟨0,0,cs⟩]) _ 0 ys.size (Nat.zero_le _) ?_⟩
 refine⟨fun v hv=>?_,fun u hu=>?_⟩
 ·unfold aD.put;rw[if_neg (by omega)];exact h.fresh _ _ (Nat.le_refl _)
 ·simp at hu;subst hu
  refine⟨Nat.zero_lt_one,⟨w.heap.size,0,ys.size⟩,ys,elem',fz,aD.put_same _ _ _ _,eh _ _,Nat.le_refl _,by simp,hfz,fun i x hx=>?_⟩
  obtain⟨y,hy,hy'⟩:=eu i hd hx
  refine⟨y,bw (aD.le_put _ hfree) _ _ hy,?_⟩
  have hi:i<cs.length:=(List.getElem?_eq_some_iff.1 hx).1
  rw[List.getElem?_take_of_lt hi,Array.getElem?_toList]at hy'
  simpa using hy'
structure Sj(w w':World)(b:Nat):Prop where
 size:w'.heap.size=w.heap.size
 os:w'.os=w.os
 tape:w'.tape=w.tape
 output:w'.output=w.output
 other:∀ k,k≠b->w'.heap[k]? = w.heap[k]?
theorem Sj.trans{a b c:World}{k:Nat}(h:Sj a b k)(g:Sj b c k):Sj a c k :=
 ⟨g.size.trans h.size,g.os.trans h.os,g.tape.trans h.tape,g.output.trans h.output,fun i hi=>(g.other i hi).trans (h.other i hi)⟩
theorem Aa(P:Program)(b off:Nat)(e:TypeId)(fz:Nat×Nat):∀(ys:List Value) (i:Nat) (c:Array Value) (w:World),w.heap[b]? = some (.cells c e fz) ->
 (∀ k,k<c.size->¬(fz.1<=k/\k<fz.2))->off+i+ys.length<=c.size->(∀ v∈ys,v.oneCell'=true) ->
 ∃ w' c',(Go.storeCells ⟨b,off,none⟩ ys i).run P w=.ok () w'/\Sj w w' b/\w'.heap[b]? = some (.cells c' e fz)/\c'.size=c.size /\
  ∀ j,c'[j]? = if off+i<=j/\j<off+i+ys.length then ys[j - (off+i)]? else c[j]?:=by
 intro ys
 induction ys with
 |nil =>
  intro i c w hw hfz hl h1
  exact⟨w,c,rfl,⟨rfl,rfl,rfl,rfl,fun _ _=>rfl⟩,hw,rfl,fun j=>by rw[if_neg (by simp)]⟩
 |cons v r ih =>
  intro i c w hw hfz hl h1
  simp only[List.length_cons]at hl
  have ha:(⟨b,off,none⟩:Addr).add i=⟨b,off+i,none⟩:=by
   unfold Addr.add;split
   ·grind
   ·rfl
  have hcell:w.cell? ⟨b,off+i,none⟩=some (c[off+i]'(by omega)):=by
   simp only[World.cell?,hw];simp[show off+i<c.size by omega]
  have hfr:w.frozen? ⟨b,off+i,none⟩=false:=by
   simp only[World.frozen?,hw]
   have:=hfz (off+i) (by omega)
   simp;omega
  have hset:(w.setCell ⟨b,off+i,none⟩ v).heap[b]? = some (.cells (c.setIfInBounds (off+i) v) e fz):=by
   simp only[World.setCell,Array.getElem?_modify,if_true,hw];simp
  obtain⟨w',c',h2,h3,h4,h5,h6⟩:=ih (i+1) (c.setIfInBounds (off+i) v) (w.setCell ⟨b,off+i,none⟩ v) hset
   (by simpa using hfz) (by simp;omega) (fun u hu=>h1 u (List.mem_cons_of_mem _ hu))
  have hbut:Sj w (w.setCell ⟨b,off+i,none⟩ v) b:=⟨by simp,rfl,rfl,rfl,fun k hk=>by simp only[World.setCell,Array.getElem?_modify];rw[if_neg (fun e=>hk e.symm)]⟩
  refine⟨w',c',?_,hbut.trans h3,h4,by simpa using h5,fun j=>?_⟩
  ·simp only[Go.storeCells,Sem.run_bind,ha]
   rw[run_store P w _ v .plain (h1 v (by simp)),hcell]
   simp only[hfr,Bool.false_eq_true,if_false,Result.andThen_ok]
   exact h2
  ·rw[h6 j]
   by_cases hj:off+(i+1)<=j/\j<off+(i+1)+r.length
   ·rw[if_pos hj,if_pos (by simp;omega)]
    have:j - (off+i)=(j - (off+(i+1)))+1:=by omega
    rw[this];simp
   ·rw[if_neg hj]
    by_cases hj2:j=off+i
    ·subst hj2;rw[if_pos (by simp)];simp[show off+i<c.size by omega]
    ·rw[if_neg (by simp;omega)];simp[Ne.symm hj2]
theorem gp:∀ {cs:List V} {n:Nat} {new out:List V},bX cs n new=some out ->
 out.length=cs.length/\(new=[]\/n+new.length<=cs.length)/\∀(j:Nat),out[j]? = if n<=j/\j<n+new.length then new[j - n]? else cs[j]?
 |cs,n,[],out,h=>by
  grind [bX]
 |[],n,y::new,out,h=>by cases n<;>simp[bX]at h
 |x::r,n+1,y::new,out,h=>by
  simp only[bX]at h
  cases hr:bX r n (y::new)with
  |none=>simp[hr]at h
  |some q =>
   simp[hr]at h
   subst h
   obtain⟨h1,h2,h3⟩:=gp hr
   grind
 |x::r,0,y::new,out,h=>by
  simp only[bX]at h
  cases hr:bX r 0 new with
  |none=>simp[hr]at h
  |some q =>
   simp[hr]at h
   subst h
   obtain⟨h1,h2,h3⟩:=gp hr
   grind
theorem HR.turn{ρ:aD}{s:S}{w w':World}(h:HR ρ s w){f v:Nat}{l:zg}(hl:ρ f v=some l){B0:dS}(hB0:s.get f=some B0)(hnr:∀ vers,B0≠.ro vers)(hb:Sj w w' l.b)(B:dS)(hB:zd ρ w' f B) :
 HR ρ (s.put f B) w'/\FR ρ w ρ w':=by
 refine⟨⟨fun g u hg=>h.fresh g u (by rw[S.next_put]at hg;exact hg),h.inj,fun g u x hx=>by rw[hb.size];exact h.low g u x hx,fun g B' hg=>?_,fun g B' hg=>?_,fun g B' hg hnr' u x hx=>?_⟩,
  ⟨ρ.le_refl,by rw[hb.size];exact Nat.le_refl _,hb.os,hb.tape,hb.output,fun k hk hn=>hb.other k (fun e=>hn _ _ _ hl (h.rw f B0 hB0 hnr _ _ hl) e.symm),fun g u x hx _=>⟨g,u,x,hx,rfl,id⟩⟩⟩
 ·rw[S.get_put]at hg
  split at hg
  ·rename_i e;cases hg;subst e;exact hB
  ·rename_i hne
   exact(h.blk g B' hg).keep ρ.le_refl (fun _ hv=>hv) (fun u x hx=>hb.other _ (fun e=>hne (h.inj _ _ _ _ _ _ hl hx e.symm).1))
 ·rw[S.get_put]at hg
  rw[S.next_put]
  split at hg
  ·rename_i e;subst e
   exact Nat.lt_of_not_le fun hc=>by have:=h.fresh f v hc;rw[hl]at this;cases this
  ·exact h.dom g B' hg
 ·rw[S.get_put]at hg
  split at hg
  ·rename_i e;subst e;exact h.rw f B0 hB0 hnr u x hx
  ·exact h.rw g B' hg hnr' u x hx
theorem kL{ρ:aD}{s s':S}{w:World}(P:Program)(h:HR ρ s w){a:Ad}{new:List V}{ys:List Value}(e:storeCells s a new=some s')(hd:aQ ρ new=some ys) :
 ∃ ad w',iy ρ a=some ad/\(Go.storeCells ad ys).run P w=.ok () w'/\HR ρ s' w'/\FR ρ w ρ w':=by
 unfold storeCells at e
 split at e
 ·rename_i el sb nv vers hg
  split at e
  ·rename_i u hu
   cases hb:(Nat.ble u.lo a.c&&new.all V.one)with
   |false=>simp[hb]at e
   |true =>
    simp only[hb,cond_true]at e
    simp only[Bool.and_eq_true]at hb
    have hle:=Nat.le_of_ble_eq_true hb.1
    split at e
    ·rename_i cs hcs
     cases e
     obtain⟨⟨l,c,el',fz,h1,h2,h3,h4,h5,h6⟩,hmem,hv⟩:=h.ver hg hu
     have h1':=h1
     rw[hv]at h1
     obtain⟨hlen,hfit,hget⟩:=gp hcs
     have hyl:=bB hd
     have hone:∀ y∈ys,y.oneCell'=true:=fun y hy=>by
      obtain⟨i,hi⟩:=List.getElem?_of_mem hy
      have hi2:i<new.length:=by have:=(List.getElem?_eq_some_iff.1 hi).1;omega
      obtain⟨z,hz,hz'⟩:=eu i hd (List.getElem?_eq_getElem hi2)
      grind [wF]
     have hroom:new=[]\/a.c - l.base+0+ys.length<=c.size:=by
      rcases hfit with h0|hfit
      ·exact .inl h0
      ·rcases Nat.eq_zero_or_pos new.length with h0|h0
       ·grind
       ·right
        have hlast:(a.c - u.lo)+(new.length - 1)<u.cells.length:=by omega
        obtain⟨y,_,hy'⟩:=h6 _ _ (List.getElem?_eq_getElem hlast)
        grind
     have hden:iy ρ a=some ⟨l.b,a.c - l.base,none⟩:=by simp[iy,h1];omega
     rcases hroom with h0|hroom
     ·subst h0
      have:ys=[]:=by cases hd;rfl
      subst this
      have hsame:cs=u.cells:=List.ext_getElem? fun j=>by rw[hget j,if_neg (by simp)]
      refine⟨_,w,hden,rfl,?_⟩
      refine h.turn h1 hg (fun _ h=>by cases h) ⟨rfl,rfl,rfl,rfl,fun _ _=>rfl⟩ _ ⟨(h.blk _ _ hg).1,fun u' hu'=>?_⟩
      simp at hu';subst hu'
      exact⟨((h.blk _ _ hg).2 u hmem).1,l,c,el',fz,h1',h2,h3,h4,h5,by rw[hsame];exact h6⟩
     ·obtain⟨w',c',g1,g2,g3,g4,g5⟩:=Aa P l.b (a.c - l.base) el' fz ys 0 c w h2 h5.2 hroom hone
      refine⟨_,w',hden,g1,h.turn h1 hg (fun _ h=>by cases h) g2 _ ⟨(h.blk _ _ hg).1,fun u' hu'=>?_⟩⟩
      simp at hu';subst hu'
      refine⟨((h.blk _ _ hg).2 u hmem).1,l,c',el',fz,h1',g3,h3,by rw[g4];exact h4,by rw[g4];exact h5,fun i x hx=>?_⟩
      simp only at hx ⊢
      rw[hget i]at hx
      rw[g5]
      by_cases hj:a.c - u.lo<=i/\i<a.c - u.lo+new.length
      ·rw[if_pos hj]at hx
       rw[if_pos (by omega)]
       obtain⟨y,hy,hy'⟩:=eu _ hd hx
       exact⟨y,hy,by rw[<- hy'];congr 1;omega⟩
      ·rw[if_neg hj]at hx
       rw[if_neg (by omega)]
       exact h6 i x hx
    ·cases e
  ·cases e
 ·cases e
def rv(tm:Array Value):Operand->Value
 |.tmp t=>tm.getD t Go.undef
 |.const v=>v
 |.global g=>.pointer (some ⟨g,0,none⟩)
 |.func f=>.func (.func f) #[] #[]
theorem pZ(fr:Frame):fr.eval=rv fr.tmps:=funext fun x=>by cases x<;>rfl
theorem uz(s:ByteArray):aC (s.data.toList.map UInt8.toNat)=s:=by
 unfold aC
 have:(s.data.toList.map UInt8.toNat).map UInt8.ofNat=s.data.toList:=by
  rw[List.map_map]
  conv=>rhs;rw[<- List.map_id s.data.toList]
  exact List.map_congr_left fun x _=>by simp
 rw[this]
theorem wK(ρ:aD)(v:Value)(x:V)(h:V.ofCell v=some x):den ρ x=some v:=by
 cases v<;>simp only[V.ofCell]at h
 case string s=>cases h;simp only[den];rw[uz]
 case pointer a=>cases a<;>simp at h;cases h;rfl
 case slice a n c =>
  cases a<;>simp only at h
  ·cases hb:(Nat.beq n 0&&Nat.beq c 0)with
   |false=>simp[hb]at h
   |true =>
    simp only[hb,cond_true]at h
    simp only[Bool.and_eq_true]at hb
    cases h
    rw[Nat.eq_of_beq_eq_true hb.1,Nat.eq_of_beq_eq_true hb.2];rfl
  ·cases h
 case map a=>cases a<;>simp at h;cases h;rfl
 case func fn a b =>
  cases fn<;>simp only at h<;>try cases h
  cases hb:(a.toList.isEmpty&&b.toList.isEmpty)with
  |false=>rw[hb]at h;cases h
  |true =>
   simp only[hb,cond_true]at h
   simp only[Bool.and_eq_true,List.isEmpty_iff]at hb
   cases h
   have ha:a=#[]:=by cases a;simpa using hb.1
   have hb':b=#[]:=by cases b;simpa using hb.2
   subst ha;subst hb';rfl
 all_goals first|(cases h;rfl)|cases h
theorem ug(ρ:aD):∀(l:List Value) (m:List V),V.ofCells l=some m->aQ ρ m=some l
 |[],m,h=>by cases h;rfl
 |x::r,m,h=>by
  simp only[V.ofCells]at h
  cases hx:V.ofCell x with
  |none=>simp[hx]at h
  |some v =>
   cases hr:V.ofCells r with
   |none=>simp[hx,hr]at h
   |some q =>
    simp only[hx,hr]at h
    cases h
    exact aV.2 ⟨x,r,wK ρ x v hx,ug ρ r q hr,rfl⟩
theorem uf(ρ:aD)(v:Value)(x:V)(h:V.ofConst v=some x):den ρ x=some v:=by
 cases v
 case agg cs =>
  simp only[V.ofConst]at h
  split at h
  ·rename_i l hl;cases h;simp only[den,ug ρ _ _ hl]
  ·cases h
 all_goals exact wK ρ _ x h
theorem aB{ρ:aD}{t:T V}{tm:Array Value}(ht:TR ρ t tm){x:Operand}{v:V}(h:eval t x=some v):den ρ v=some (rv tm x):=by
 cases x with
 |tmp i =>
  obtain⟨y,hy,hy'⟩:=ht i v h
  simp only[rv,Array.getD_eq_getD_getElem?,hy',Option.getD_some];exact hy
 |const c=>exact uf ρ c v h
 |global g=>cases h
 |func f=>cases h;rfl
theorem kl{ρ:aD}{t:T V}{tm:Array Value}(ht:TR ρ t tm):∀ {l:List Operand} {vs:List V},gK t l=some vs->aQ ρ vs=some (l.map (rv tm))
 |[],vs,h=>by cases h;rfl
 |x::r,vs,h=>by
  simp only[gK]at h
  cases hx:eval t x with
  |none=>simp[hx]at h
  |some v =>
   cases hr:gK t r with
   |none=>simp[hx,hr]at h
   |some q =>
    simp only[hx,hr]at h;cases h
    exact aV.2 ⟨_,_,aB ht hx,kl ht hr,rfl⟩
section types
variable{P:Program}
theorem eV{t:TypeId}{zv:V}(h:zero P t=some zv):∃ z i,P.info? t=some i/\i.zero=some z/\∀ ρ,den ρ zv=some z:=by
 unfold zero at h
 cases hi:P.info? t with
 |none=>simp[hi]at h
 |some i =>
  cases hz:i.zero with
  |none=>simp[hi,hz]at h
  |some z =>
   grind [uf]
theorem fJ{t:TypeId}{i:TypeInfo}{z:Value}(hi:P.info? t=some i)(hz:i.zero=some z)(w:World):(zeroValue t).run P w=.ok z w:=by
 simp[zeroValue,typeInfo,hi,hz]
theorem sN{t:TypeId}{n:Nat}(h:size P t=some n):∃ i,P.info? t=some i/\i.size=n:=by
 simp_all[size]
theorem ce{t:TypeId}{n:Nat}(h:size P t=some n)(w:World):(sizeOf t).run P w=.ok n w:=by
 obtain⟨i,hi,rfl⟩:=sN h
 simp[Go.sizeOf,typeInfo,hi]
theorem ax{t:TypeId}{d:TypeDesc}(h:P.underlying t=some d)(w:World):(underlying t).run P w=.ok d w:=by
 simp[underlying,h]
theorem uY{t:TypeId}{b:Bool}(h:pY P t=some b)(w:World):(isAgg t).run P w=.ok b w:=by
 unfold pY at h
 cases hd:P.underlying t with
 |none=>simp[hd]at h
 |some d =>
  simp only[hd,Option.map_some,Option.some.injEq]at h
  subst h
  simp only[isAgg,Sem.run_bind,ax hd,Result.andThen_ok]
  cases d<;>rfl
theorem po{ρ:aD}{s:S}{w:World}(h:HR ρ s w){t:TypeId}{a:Ad}{x:V}(e:loadVar P s t a=some x) :
 ∃ ad y,iy ρ a=some ad/\den ρ x=some y/\(Go.loadVar t ad).run P w=.ok y w:=by
 unfold loadVar at e
 cases hb:pY P t with
 |none=>simp[hb]at e
 |some b =>
  cases b with
  |false =>
   simp only[hb]at e
   obtain⟨ad,y,h1,h2,h3⟩:=wZ h e
   exact⟨ad,y,h1,h2,by simp[Go.loadVar,uY hb,h3]⟩
  |true =>
   simp only[hb]at e
   cases hn:size P t with
   |none=>simp[hn]at e
   |some n =>
    simp only[hn,Option.bind_some]at e
    cases hl:loadCells s a n with
    |none=>simp[hl]at e
    |some l =>
     simp only[hl,Option.map_some,Option.some.injEq]at e
     subst e
     obtain⟨ad,ys,h1,h2,h3,h4⟩:=iG h hl
     refine⟨ad,.agg ys.toArray,h1,by simp only[den,h2],?_⟩
     have:=run_loadCells_list (P:=P) (w:=w) ad ys h4
     rw[h3]at this
     simp[Go.loadVar,uY hb,ce hn,this]
theorem wc{ρ:aD}{s s':S}{w:World}(h:HR ρ s w){t:TypeId}{a:Ad}{v:V}{y:Value}(e:storeVar P s t a v=some s')(hv:den ρ v=some y) :
 ∃ ad w',iy ρ a=some ad/\(Go.storeVar t ad y).run P w=.ok () w'/\HR ρ s' w'/\FR ρ w ρ w':=by
 unfold storeVar at e
 cases hn:size P t with
 |none=>simp[hn]at e
 |some n =>
  simp only[hn]at e
  cases hb:Nat.beq v.cells.length n with
  |false=>simp[hb]at e
  |true =>
   simp only[hb,cond_true]at e
   obtain⟨ad,w',h1,h2,h3,h4⟩:=kL P h e (et hv)
   have hl:y.cells.size=n:=by
    have:=bB (et hv)
    simp_all
   exact⟨ad,w',h1,by simp[Go.storeVar,ce hn,hl,h2],h3,h4⟩
theorem jU{ρ:aD}{w:World}{t:TypeId}{cs:List V}{ys:Array Value}{off:Nat}{x:V}(hd:aQ ρ cs=some ys.toList)(e:ue P t cs off=some x) :
 ∃ y,den ρ x=some y/\(part t ys off).run P w=.ok y w:=by
 unfold ue at e
 cases hb:pY P t with
 |none=>simp[hb]at e
 |some b =>
  cases b with
  |false =>
   simp only[hb]at e
   obtain⟨y,h1,h2⟩:=eu off hd e
   rw[Array.getElem?_toList]at h2
   exact⟨y,h1,by simp[part,uY hb,h2]⟩
  |true =>
   simp only[hb]at e
   cases hn:size P t with
   |none=>simp[hn]at e
   |some n =>
    simp only[hn,Option.map_some,Option.some.injEq]at e
    subst e
    have h1:=Bk n (Bm off hd)
    refine⟨.agg (ys.extract off (off+n)),?_,by simp[part,uY hb,ce hn]⟩
    have h2:(ys.extract off (off+n))=((ys.toList.drop off).take n).toArray:=by
     grind
    simp only[den,h1,h2]
end types
def LB(ρ:aD):eD->Deferred->Prop
 |.call fn cap args,d=>∃ g c a,mF ρ fn=some g/\aQ ρ cap=some c/\aQ ρ args=some a/\d={ target:=.fn g c.toArray,args:=a.toArray }
 |.collected r,d=>∃ l,ρ r 0=some l/\d={ target:=.collected l.b,args:=#[] }
def FO(P:Program)(ρ:aD)(w:World):Nx->Result Next->Prop
 |.val v s,r=>∃ ρ' y w',r=.ok (.value y) w'/\den ρ' v=some y/\HR ρ' s w'/\FR ρ w ρ' w'
 |.skip s,r=>∃ ρ' w',r=.ok .skip w'/\HR ρ' s w'/\FR ρ w ρ' w'
 |.enter f args s,r=>∃ ys,aQ ρ args=some ys/\r=(callFunc f ys.toArray).run P w/\HR ρ s w
 |.round l args s,r=>∃ lb ys,ρ l 0=some lb/\aQ ρ args=some ys/\r=(Instr.yield lb.b ys.toArray).run P w/\HR ρ s w
 |.defer d s,r=>∃ rd,LB ρ d rd/\r=.ok (.defer rd) w/\HR ρ s w
 |.recover s,r=>r=.ok .recover w/\HR ρ s w
 |.panic v s,r=>∃ y,den ρ v=some y/\r=.halt (.panic y) w/\HR ρ s w
def yZ(P:Program)(ρ:aD)(w:World)(s:S)(nx:Nx)(r:Result Next):Prop:=∃ v y,nx=.val v s/\r=.ok (.value y) w/\den ρ v=some y
theorem yZ.toR{P:Program}{ρ:aD}{s:S}{w:World}{nx:Nx}{r:Result Next}(h:HR ρ s w)(k:yZ P ρ w s nx r):FO P ρ w nx r:=by
 obtain⟨v,y,rfl,h2,h3⟩:=k
 exact⟨ρ,y,w,h2,h3,h,FR.refl ρ w⟩
section ops
variable{P:Program}{ρ:aD}{s:S}{w:World}{t:T V}{tm:Array Value}
theorem aR(_h:HR ρ s w){x:Option V}{nx:Nx}(e:bv s x=some nx){m:Sem Value}
 (hm:∀ v,x=some v->∃ y,den ρ v=some y/\m.run P w=.ok y w):yZ P ρ w s nx ((do pure (Next.value (<- m)):Sem Next).run P w):=by
 cases x with
 |none=>cases e
 |some v =>
  cases e
  obtain⟨y,h1,h2⟩:=hm v rfl
  exact⟨v,y,rfl,by simp[h2],h1⟩
theorem rP(h:HR ρ s w)(ht:TR ρ t tm){c a b:Operand}{nx:Nx}(e:mf t s c a b=some nx) :
 yZ P ρ w s nx ((do pure (Next.value (if <- asBool (rv tm c)then rv tm a else rv tm b)):Sem Next).run P w):=by
 unfold mf at e
 split at e
 ·rename_i q hq
  have h1:=aB ht hq
  simp only[den,Option.some.injEq]at h1
  unfold bv at e
  split at e
  ·rename_i v hv
   cases e
   refine⟨_,if q then rv tm a else rv tm b,rfl,by simp[<- h1,asBool],?_⟩
   cases q
   ·exact aB ht hv
   ·exact aB ht hv
  ·cases e
 ·cases e
theorem mj{ρ:aD}{v:V}{y:Value}(h:den ρ v=some y):y.cells.size=v.cells.length:=by
 have:=bB (et h);rwa [Array.length_toList]at this
theorem uh(h:HR ρ s w){elem:TypeId}{v:V}{y:Value}(hv:den ρ v=some y){nx:Nx}(e:pj (ba s elem v.cells)=some nx) :
 FO P ρ w nx ((do pure (Next.value (.pointer (some (<- newVar elem y)))):Sem Next).run P w):=by
 obtain⟨ρ',h1,h2,h3⟩:=gu h false elem elem (cs:=v.cells) (ys:=y.cells) (by rw[et hv,<- mj hv,List.take_of_length_le (by simp)]) (0,0) ⟨fun _=>rfl,by simp⟩
 simp only[pj,ba,aY]at e
 cases e
 exact⟨ρ',_,_,by simp[newVar,newRow];rfl,by simp[den,iy,h1],h2,h3⟩
theorem zI(h:HR ρ s w){elem:TypeId}{nx:Nx}(e:iX P s elem=some nx) :
 FO P ρ w nx ((do pure (Next.value (<- Instr.alloc elem true (.tuple #[]))):Sem Next).run P w):=by
 unfold iX at e
 split at e
 ·rename_i z hz
  obtain⟨y,i,hi,hzi,hd⟩:=eV hz
  have:=uh (P:=P) h (hd ρ) e
  simp only[Instr.alloc,Sem.run_bind,fJ hi hzi,Result.andThen_ok,Sem.run_pure]at this ⊢
  exact this
 ·cases e
theorem Fd(h:HR ρ s w)(ht:TR ρ t tm){elem:TypeId}{x:Operand}{nx:Nx}(e:rT s elem (eval t x)=some nx) :
 FO P ρ w nx ((do pure (Next.value (<- Instr.box elem (rv tm x))):Sem Next).run P w):=by
 unfold rT at e
 split at e
 ·rename_i z hz
  have:=uh (P:=P) h (aB ht hz) e
  simp only[Instr.box,Sem.run_bind,Sem.run_pure]at this ⊢
  exact this
 ·cases e
theorem rR(h:HR ρ s w)(ht:TR ρ t tm){ty:TypeId}{x:Operand}{nx:Nx}(e:iI P s ty (eval t x)=some nx) :
 yZ P ρ w s nx ((do pure (Next.value (<- Instr.loadAt ty (rv tm x))):Sem Next).run P w):=by
 unfold iI at e
 split at e
 ·rename_i a ha
  have h1:=aB ht ha
  refine aR h e fun v hv=>?_
  obtain⟨ad,y,h2,h3,h4⟩:=po h hv
  simp only[den,h2,Option.some.injEq]at h1
  exact⟨y,h3,by simp[Instr.loadAt,Instr.sureAddr,<- h1,h4]⟩
 ·cases e
theorem zF(h:HR ρ s w)(ht:TR ρ t tm){ty:TypeId}{x y:Operand}{nx:Nx}(e:rN P s ty (eval t x) (eval t y)=some nx) :
 FO P ρ w nx ((do Instr.storeAt ty (rv tm x) (rv tm y);pure Next.skip:Sem Next).run P w):=by
 unfold rN at e
 split at e
 ·rename_i a ha
  have h1:=aB ht ha
  split at e
  ·rename_i v hv
   have h2:=aB ht hv
   unfold GK at e
   split at e
   ·rename_i s' hs
    cases e
    obtain⟨ad,w',h3,h4,h5,h6⟩:=wc h hs h2
    simp only[den,h3,Option.some.injEq]at h1
    exact⟨ρ,w',by simp[Instr.storeAt,Instr.sureAddr,<- h1,h4],h5,h6⟩
   ·cases e
  ·cases e
 ·cases e
theorem mE(h:HR ρ s w)(ht:TR ρ t tm){x:Operand}{i:Nat}{nx:Nx}(e:bv s (oQ (eval t x) i)=some nx) :
 yZ P ρ w s nx ((do pure (Next.value (<- Instr.extract (rv tm x) i)):Sem Next).run P w):=by
 refine aR h e fun v hv=>?_
 unfold oQ at hv
 split at hv
 ·rename_i vs hx
  have h1:=aB ht hx
  simp only[den]at h1
  split at h1
  ·rename_i l hl
   obtain⟨y,h2,h3⟩:=eu i hl hv
   simp only[Option.some.injEq]at h1
   exact⟨y,h2,by simp[Instr.extract,<- h1,h3]⟩
  ·cases h1
 ·cases hv
theorem nV(h:HR ρ s w)(ht:TR ρ t tm){fn:Fn}{first cap:Array Operand}{nx:Nx}(e:bv s (rQ fn (gK t first.toList) (gK t cap.toList))=some nx) :
 yZ P ρ w s nx ((do pure (Next.value (<- Instr.makeFunc fn (first.map (rv tm)) (cap.map (rv tm)))):Sem Next).run P w):=by
 refine aR h e fun v hv=>?_
 unfold rQ at hv
 split at hv
 ·cases hv
 ·rename_i hfn
  unfold Cl at hv
  split at hv
  ·rename_i a ha
   split at hv
   ·rename_i b hb
    cases hv
    have hf:mF ρ fn=some fn:=by cases fn<;>first|rfl|exact absurd rfl (hfn _)
    refine⟨.func fn (first.map (rv tm)) (cap.map (rv tm)),?_,by simp[Instr.makeFunc]⟩
    simp only[den,hf,kl ht ha,kl ht hb]
    have g:∀ l:Array Operand,(List.map (rv tm) l.toList).toArray=l.map (rv tm):=fun l=>by cases l;simp
    rw[g,g]
   ·cases hv
  ·cases hv
theorem GP{x:Option V}{n:Nat}(h:cL x=some n):∃ k,x=some (.int k (.ofNat n)):=by
 cases x with
 |none=>cases h
 |some v =>
  cases v<;>try(cases h;done)
  rename_i k m
  cases m<;>cases h
  grind
theorem mD(h:HR ρ s w)(ht:TR ρ t tm){ty:TypeId}{x:Operand}{nx:Nx}(e:bv s (oO P ty (eval t x))=some nx) :
 yZ P ρ w s nx ((do pure (Next.value (<- Instr.makeInterface ty (rv tm x))):Sem Next).run P w):=by
 refine aR h e fun v hv=>?_
 unfold oO at hv
 split at hv
 ·cases hv
 ·rename_i d hd hni
  split at hv
  ·rename_i y hy
   cases hv
   refine⟨.iface ty (rv tm x),by simp only[den,aB ht hy],?_⟩
   simp only[Instr.makeInterface,Sem.run_bind,ax hni,Result.andThen_ok]
   cases d<;>first|rfl|exact absurd rfl (hd _)
  ·cases hv
 ·cases hv
theorem pB(h:HR ρ s w)(ht:TR ρ t tm){ty:TypeId}{x:Operand}{f:Nat}{nx:Nx}(e:bv s (rS P ty (eval t x) f)=some nx) :
 yZ P ρ w s nx ((do pure (Next.value (<- Instr.field ty (rv tm x) f)):Sem Next).run P w):=by
 refine aR h e fun v hv=>?_
 unfold rS at hv
 split at hv
 ·rename_i fs hfs
  split at hv
  ·rename_i cs hx
   have h1:=aB ht hx
   simp only[den]at h1
   split at h1
   ·rename_i l hl
    simp only[Option.some.injEq]at h1
    split at hv
    ·rename_i fd hfd
     obtain⟨y,h2,h3⟩:=jU (w:=w) (ys:=l.toArray) (by simpa using hl) hv
     exact⟨y,h2,by simp[Instr.field,ax hfs,hfd,<- h1,asAgg,h3]⟩
    ·cases hv
   ·cases h1
  ·cases hv
 ·cases hv
theorem jD(b off n:Nat):(⟨b,off,none⟩:Addr).add n=⟨b,off+n,none⟩:=by
 unfold Addr.add;split
 ·grind
 ·rfl
theorem vE{a:Ad}{l:zg}(hl:ρ a.f a.v=some l)(h:l.base<=a.c):iy ρ a=some ⟨l.b,a.c - l.base,none⟩:=by
 grind [iy]
theorem rV{a:Ad}{x:Addr}(h:iy ρ a=some x):∃ l,ρ a.f a.v=some l/\l.base<=a.c/\x=⟨l.b,a.c - l.base,none⟩:=by
 grind [iy]
theorem rW{a:Ad}{x:Addr}(n:Nat)(h:iy ρ a=some x):iy ρ (bN a n)=some (x.add n):=by
 obtain⟨l,h1,h2,rfl⟩:=rV h
 have h3:ρ (bN a n).f (bN a n).v=some l:=h1
 rw[vE h3 (by show l.base<=a.c+n;omega),jD]
 have:(bN a n).c - l.base=a.c - l.base+n:=by show a.c+n - l.base=_;omega
 rw[this]
theorem ku(h:HR ρ s w)(ht:TR ρ t tm){ty:TypeId}{x:Operand}{f:Nat}{nx:Nx}(e:bv s (ix P ty (eval t x) f)=some nx) :
 yZ P ρ w s nx ((do pure (Next.value (<- Instr.fieldAt ty (rv tm x) f)):Sem Next).run P w):=by
 refine aR h e fun v hv=>?_
 unfold ix at hv
 split at hv
 ·rename_i fs hfs
  split at hv
  ·rename_i a hx
   have h1:=aB ht hx
   simp only[den]at h1
   split at h1
   ·rename_i ad had
    simp only[Option.some.injEq]at h1
    split at hv
    ·rename_i fd hfd
     cases hz:kh fd P with
     |true=>simp[hz]at hv
     |false =>
      simp only[hz,cond_false,Option.some.injEq]at hv
      subst hv
      have hn:∃ n,size P fd.type=some n/\n≠0:=by
       unfold kh at hz
       split at hz
       ·rename_i n hn;exact⟨n,hn,fun e=>by subst e;simp at hz⟩
       ·cases hz
      obtain⟨n,hn,hne⟩:=hn
      refine⟨.pointer (some (ad.add fd.offset)),by simp only[den,rW _ had],?_⟩
      simp[Instr.fieldAt,ax hfs,hfd,<- h1,Instr.sureAddr,fieldPlace,ce hn,hne]
    ·cases hv
   ·cases h1
  ·cases hv
 ·cases hv
theorem kY(h:HR ρ s w)(ht:TR ρ t tm){x:Operand}{dst:Option Tmp}{type:TypeId}{pos:String}{after:Array Edge}{guard:Option (Nat×Bool)}{nx:Nx}(e:bv s (mh (eval t x))=some nx) :
 yZ P ρ w s nx ((execOp (rv tm) { dst,op:=.nilCheck x,type,pos,after,guard }).run P w):=by
 unfold bv at e
 split at e
 ·rename_i v hv
  cases e
  unfold mh at hv
  split at hv
  ·rename_i a hx
   cases hv
   have h1:=aB ht hx
   have h2:=h1
   simp only[den]at h2
   split at h2
   ·rename_i ad had
    simp only[Option.some.injEq]at h2
    refine⟨_,.pointer (some ad),rfl,?_,by simp only[den,had]⟩
    simp only[execOp,<- h2,Sem.run_pure]
   ·cases h2
  ·rename_i fn fi ca hx
   have h1:=aB ht hx
   split at hv
   ·cases hv
    refine⟨_,rv tm x,rfl,?_,h1⟩
    simp only[den,mF]at h1
    (repeat' split at h1)<;>try cases h1
    simp only[Option.some.injEq]at h1
    simp only[execOp,<- h1,Sem.run_pure]
   ·cases hv
    refine⟨_,rv tm x,rfl,?_,h1⟩
    simp only[den,mF]at h1
    (repeat' split at h1)<;>try cases h1
    simp only[Option.some.injEq]at h1
    rename_i h2 _ _ _ _ _ _
    simp only[execOp,<- h1]
    split at h2<;>cases h2
    simp only[Sem.run_pure]
   ·cases hv
  ·cases hv
 ·cases e
end ops
theorem bP(l:List Nat):(aC l).toList=l.map UInt8.ofNat:=by unfold aC;simp
theorem lA:∀ {a b:List Nat} {r:Bool},kK a b=some r->((aC a).toList==(aC b).toList)=r:=by
 intro a
 induction a with
 |nil =>
  intro b r h
  cases b with
  |nil=>cases h;rw[bP];rfl
  |cons y b=>cases h;rw[bP,bP];rfl
 |cons x a ih =>
  intro b r h
  cases b with
  |nil=>cases h;rw[bP,bP];rfl
  |cons y b =>
   simp only[kK]at h
   cases hb:Nat.beq x y with
   |true =>
    simp only[hb,cond_true]at h
    have e:=Nat.eq_of_beq_eq_true hb
    have h1:=ih h
    simp_all[bP]
   |false =>
    simp only[hb,cond_false]at h
    cases hc:(Nat.blt x 256&&Nat.blt y 256)with
    |false=>simp[hc]at h
    |true =>
     simp only[hc,cond_true,Option.some.injEq]at h
     subst h
     simp only[Bool.and_eq_true,Nat.blt_eq]at hc
     rw[bP,bP]
     simp only[List.map_cons]
     have hne:¬ UInt8.ofNat x=UInt8.ofNat y:=fun e=>by
      have:=congrArg UInt8.toNat e
      rw[UInt8.toNat_ofNat',UInt8.toNat_ofNat']at this
      simp_all[Nat.mod_eq_of_lt]
     grind
section
variable{P:Program}{ρ:aD}{s:S}{w:World}
theorem ud(h:HR ρ s w){a:Ad}(hp:br s a=true):∃ l c e,ρ a.f a.v=some l/\w.heap[l.b]? = some (.cells c e (0,0)):=by
 unfold br at hp
 split at hp
 ·rename_i el sb nv vers hg
  simp only[Bool.and_eq_true,Bool.not_eq_true']at hp
  obtain⟨u,hu⟩:=Option.isSome_iff_exists.1 hp.2
  obtain⟨⟨l,c,e,fz,h1,h2,h3,h4,⟨h5,_⟩,h6⟩,_,hv⟩:=h.ver hg hu
  grind
 ·cases hp
theorem DZ(h:HR ρ s w){a b:Ad}{r:Bool}(e:Ea (br s) a b=some r){A B:Addr}(ha:iy ρ a=some A)(hb:iy ρ b=some B) :
 (sameAddr A B).run P w=.ok r w:=by
 unfold Ea at e
 cases hp:(br s a&&br s b)with
 |false=>simp[hp]at e
 |true =>
  simp only[hp,cond_true]at e
  simp only[Bool.and_eq_true]at hp
  obtain⟨la,ha1,ha2,rfl⟩:=rV ha
  obtain⟨lb,hb1,hb2,rfl⟩:=rV hb
  obtain⟨l1,c1,e1,g1,g2⟩:=ud h hp.1
  obtain⟨l2,c2,e2,g3,g4⟩:=ud h hp.2
  rw[ha1]at g1;cases g1
  rw[hb1]at g3;cases g3
  cases hf:Nat.beq a.f b.f with
  |true =>
   simp only[hf,cond_true]at e
   cases hv:Nat.beq a.v b.v with
   |false=>simp[hv]at e
   |true =>
    simp only[hv,cond_true,Option.some.injEq]at e
    rw[Nat.eq_of_beq_eq_true hf,Nat.eq_of_beq_eq_true hv,hb1]at ha1
    cases ha1
    simp only[sameAddr,beq_self_eq_true,if_true]
    show Result.ok _ _=_
    congr 1
    subst e
    cases hc:Nat.beq a.c b.c with
    |true=>rw[Nat.eq_of_beq_eq_true hc];simp
    |false =>
     have hne:a.c≠b.c:=fun e=>by rw[e]at hc;simp at hc
     simp;omega
  |false =>
   simp only[hf,cond_false,Option.some.injEq]at e
   subst e
   have hne:la.b≠lb.b:=fun e=>by
    have:=(h.inj _ _ _ _ _ _ ha1 hb1 e).1
    simp_all
   have hn:(la.b==lb.b)=false:=by simpa using hne
   have fa:w.frozen? ⟨la.b,a.c - la.base,none⟩=false:=by simp[World.frozen?,g2]
   have fb:w.frozen? ⟨lb.b,b.c - lb.base,none⟩=false:=by simp[World.frozen?,g4]
   have fa':∀ n,w.frozen? { block:=la.b,off:=n }=false:=fun n=>by simp[World.frozen?,g2]
   have fb':∀ n,w.frozen? { block:=lb.b,off:=n }=false:=fun n=>by simp[World.frozen?,g4]
   have sa:w.shape? la.b=some (e1,c1.size):=by simp[World.shape?,g2]
   have sb:w.shape? lb.b=some (e2,c2.size):=by simp[World.shape?,g4]
   simp[sameAddr,hn,fa,fb,noView,viewAt,sa,sb,mayBeOne,stringish,fa',fb']
theorem Fg{fn:Fn}{fi ca:List V}{x:Value}(h:den ρ (.func fn fi ca)=some x):∃ g a b,x=.func g a b:=by
 grind [den]
theorem uq{t:TypeId}{fs:Array Field}(h:P.underlying t=some (.struct fs)):P.fieldsOf t=fs:=by
 unfold Program.fieldsOf;rw[h]
theorem nR{eq:TypeId->V->V->Option Bool}{d:Nat}(heq:∀ t x y r X Y,eq t x y=some r->den ρ x=some X->den ρ y=some Y->(Op.equalIn d t X Y).run P w=.ok r w) :
 ∀(fs:List Field) (xs ys:List V) (X Y:Array Value) (r:Bool),jf P eq fs xs ys=some r->aQ ρ xs=some X.toList->aQ ρ ys=some Y.toList ->
  (Op.eqFields d X Y fs).run P w=.ok r w
 |[],xs,ys,X,Y,r,h,_,_=>by cases h;rfl
 |f::fs,xs,ys,X,Y,r,h,hx,hy=>by
  simp only[jf]at h
  cases hn:(f.name == "_")with
  |true=>simp[hn]at h
  |false =>
   simp only[hn,cond_false]at h
   have hne:f.name ≠ "_" := by simpa using hn
   split at h
   ·rename_i a b ha hb
    obtain⟨A,ha1,ha2⟩:=jU (P:=P) (w:=w) hx ha
    obtain⟨B,hb1,hb2⟩:=jU (P:=P) (w:=w) hy hb
    simp only[Op.eqFields,hne,ne_eq,not_false_eq_true,if_true,Sem.run_bind,ha2,hb2,Result.andThen_ok]
    split at h
    ·rename_i hq
     rw[heq _ _ _ _ _ _ hq ha1 hb1]
     simpa using nR heq fs xs ys X Y r h hx hy
    ·rename_i hq
     cases h
     rw[heq _ _ _ _ _ _ hq ha1 hb1]
     simp
    ·cases h
   ·cases h
set_option maxHeartbeats 3000000 in
theorem uu(h:HR ρ s w):∀(d:Nat) (t:TypeId) (x y:V) (r:Bool) (X Y:Value) (d':Nat),cw P (br s) d t x y=some r->den ρ x=some X->den ρ y=some Y->d<=d' ->
 (Op.equalIn d' t X Y).run P w=.ok r w:=by
 intro d
 induction d with
 |zero=>intro t x y r X Y d' e;cases e
 |succ d ih =>
  intro t x y r X Y d' e hx hy hd
  obtain⟨d',rfl⟩:∃ n,d'=n+1:=⟨d' - 1,by omega⟩
  simp only[cw]at e
  split at e
  ·rename_i fs hu
   split at e
   ·rename_i xs ys
    cases hs:P.stoodInHeld t with
    |true=>simp[hs]at e
    |false =>
     simp only[hs,cond_false]at e
     simp only[den]at hx hy
     split at hx
     ·rename_i lx hlx
      split at hy
      ·rename_i ly hly
       cases hx;cases hy
       rw[run_equalIn_struct w d' t _ _ (by rw[uq hu];exact hu) hs,uq hu]
       exact nR (fun t x y r X Y e h1 h2=>ih t x y r X Y d' e h1 h2 (by omega)) fs.toList xs ys _ _ r e (by simpa using hlx) (by simpa using hly)
      ·cases hy
     ·cases hx
   ·cases e
  ·rename_i ms hu
   split at e
   ·cases hx;cases hy;cases e;simp[Op.equalIn,ax hu]
   ·rename_i ty vy
    simp only[den]at hy
    split at hy
    ·cases hx;cases hy;cases e;simp[Op.equalIn,ax hu]
    ·cases hy
   ·rename_i tx vx
    simp only[den]at hx
    split at hx
    ·cases hx;cases hy;cases e;simp[Op.equalIn,ax hu]
    ·cases hx
   ·rename_i tx vx ty vy
    simp only[den]at hx hy
    split at hx
    ·rename_i zx hzx
     split at hy
     ·rename_i zy hzy
      cases hx;cases hy
      cases ht:Nat.beq tx ty with
      |false =>
       simp only[ht,cond_false,Option.some.injEq]at e
       subst e
       have hne:tx≠ty:=fun e=>by rw[e]at ht;simp at ht
       simp[Op.equalIn,ax hu,hne]
      |true =>
       simp only[ht,cond_true]at e
       have:=Nat.eq_of_beq_eq_true ht
       subst this
       split at e
       ·rename_i i hi
        cases hc:i.comparable with
        |false=>simp[hc]at e
        |true =>
         simp only[hc,cond_true]at e
         have:=ih _ _ _ _ _ _ d' e hzx hzy (by omega)
         simp[Op.equalIn,ax hu,typeInfo,hi,hc,this]
       ·cases e
     ·cases hy
    ·cases hx
   ·cases e
  ·rename_i hu
   split at e
   ·cases hx;cases hy;cases e;simp[Op.equalIn,ax hu]
   ·cases e
  ·rename_i k0 hu
   split at e
   ·rename_i j a k b
    cases hk:dF j k with
    |false=>simp[hk]at e
    |true =>
     simp only[hk,cond_true,Option.some.injEq]at e
     have hjk:j=k:=of_decide_eq_true hk
     subst hjk
     cases hx;cases hy;subst e
     simp[Op.equalIn,ax hu]
   ·cases e
  ·rename_i hu
   split at e
   ·rename_i a b
    cases hx;cases hy
    have:=lA e
    simp[Op.equalIn,ax hu,beq_toListBytes,this]
   ·cases e
  ·rename_i el hu
   split at e
   ·cases hx;cases hy;cases e;simp[Op.equalIn,ax hu]
   ·rename_i b
    simp only[den]at hy
    split at hy
    ·cases hx;cases hy;cases e;simp[Op.equalIn,ax hu]
    ·cases hy
   ·rename_i a
    simp only[den]at hx
    split at hx
    ·cases hx;cases hy;cases e;simp[Op.equalIn,ax hu]
    ·cases hx
   ·rename_i a b
    simp only[den]at hx hy
    split at hx
    ·rename_i A hA
     split at hy
     ·rename_i B hB
      cases hx;cases hy
      split at e
      ·rename_i n hn
       cases hz:Nat.beq n 0 with
       |true=>simp[hz]at e
       |false =>
        simp only[hz,cond_false]at e
        have hne:n≠0:=fun e=>by subst e;simp at hz
        have:=DZ (P:=P) h e hA hB
        simp[Op.equalIn,ax hu,ce hn,hne,this]
      ·cases e
     ·cases hy
    ·cases hx
   ·cases e
  ·rename_i el hu
   split at e
   ·cases hx;cases hy;cases e;simp[Op.equalIn,ax hu]
   ·rename_i a z n c sz
    simp only[den,gL]at hy
    (repeat' split at hy)<;>first|(cases hy;done)|(cases hx;cases hy;cases e;simp[Op.equalIn,ax hu])
   ·rename_i a z n c sz
    simp only[den,gL]at hx
    (repeat' split at hx)<;>first|(cases hx;done)|(cases hx;cases hy;cases e;simp[Op.equalIn,ax hu])
   ·cases e
  ·rename_i k el hu
   split at e
   ·cases hx;cases hy;cases e;simp[Op.equalIn,ax hu]
   ·simp only[den]at hy
    split at hy
    ·cases hx;cases hy;cases e;simp[Op.equalIn,ax hu]
    ·cases hy
   ·simp only[den]at hx
    split at hx
    ·cases hx;cases hy;cases e;simp[Op.equalIn,ax hu]
    ·cases hx
   ·cases e
  ·rename_i hu
   split at e
   ·cases hx;cases hy;cases e;simp[Op.equalIn,ax hu]
   ·obtain⟨g,a,b,rfl⟩:=Fg hy
    cases hx;cases e;simp[Op.equalIn,ax hu]
   ·obtain⟨g,a,b,rfl⟩:=Fg hx
    cases hy;cases e;simp[Op.equalIn,ax hu]
   ·cases e
  ·cases e
end
section ops
variable{P:Program}{ρ:aD}{s:S}{w:World}{t:T V}{tm:Array Value}
theorem Ex{op:BinOp}{k:IntKind}{a b:Int}{v:V}(ty:TypeId)(hns:oJ op=false)(h:AL op k a b=some v) :
 ∃ y,den ρ v=some y/\(Go.binOp op ty (.int k a) (.int k b)).run P w=.ok y w:=by
 cases op<;>simp only[oJ,Bool.true_eq_false]at hns<;>simp only[AL,bO]at h
 case quo =>
  cases hb:(b==0)with
  |true=>simp[hb]at h
  |false =>
   simp only[hb,cond_false,Option.some.injEq]at h
   subst h
   have:b≠0:=by simpa using hb
   exact⟨_,rfl,by simp[Go.binOp,Op.intDiv,this]⟩
 case rem =>
  cases hb:(b==0)with
  |true=>simp[hb]at h
  |false =>
   simp only[hb,cond_false,Option.some.injEq]at h
   subst h
   have:b≠0:=by simpa using hb
   exact⟨_,rfl,by simp[Go.binOp,Op.intDiv,this]⟩
 all_goals first
  |cases h;done
  |(cases h;exact⟨_,rfl,by simp[Go.binOp,Op.intArith,Op.intCmp,Op.intBits]⟩)
theorem zj{op:BinOp}{k yk:IntKind}{a b:Int}{v:V}(ty:TypeId)(h:BI op k a b=some v) :
 ∃ y,den ρ v=some y/\(Go.binOp op ty (.int k a) (.int yk b)).run P w=.ok y w:=by
 cases b with
 |negSucc n=>cases h
 |ofNat n =>
  have h0:¬(Int.ofNat n<0):=Int.not_lt.2 (Int.natCast_nonneg n)
  cases op<;>simp only[BI,bO]at h<;>first
   |(cases h;done)
   |(cases h;exact⟨_,rfl,by simp[Go.binOp,Op.shift];intro h;omega⟩)
theorem DJ{op:BinOp}{a b:List Nat}{v:V}(ty:TypeId)(h:vY op a b=some v) :
 ∃ y,den ρ v=some y/\(Go.binOp op ty (.string (aC a)) (.string (aC b))).run P w=.ok y w:=by
 cases op<;>simp only[vY]at h
 case add =>
  cases hb:Nat.ble (a.length+b.length) 1000000 with
  |false=>simp[hb]at h
  |true =>
   simp only[hb,cond_true,Option.some.injEq]at h
   subst h
   have hl:=Nat.le_of_ble_eq_true hb
   have sa:(aC a).size=a.length:=by unfold aC;simp[ByteArray.size]
   have sb:(aC b).size=b.length:=by unfold aC;simp[ByteArray.size]
   have hcat:aC a++aC b=aC (a++b):=by
    apply ByteArray.ext
    simp[aC]
   refine⟨_,rfl,?_⟩
   have hle:¬(((aC a).size+(aC b).size:Nat):Int)>IntKind.i64.max:=by
    rw[sa,sb];simp only[IntKind.max,IntKind.signed,IntKind.bits];simp;omega
   simp only[Go.binOp,Op.stringOp]
   rw[if_neg hle,hcat];rfl
 case eql =>
  cases hq:kK a b with
  |none=>simp[hq]at h
  |some r =>
   simp only[hq,Option.map_some,Option.some.injEq]at h;subst h
   exact⟨_,rfl,by simp only[Go.binOp,Op.stringOp,lA hq];rfl⟩
 case neq =>
  cases hq:kK a b with
  |none=>simp[hq]at h
  |some r =>
   simp only[hq,Option.map_some,Option.some.injEq]at h;subst h
   exact⟨_,rfl,by simp only[Go.binOp,Op.stringOp,lA hq];rfl⟩
 case lss =>
  cases h
  exact⟨_,rfl,by simp only[Go.binOp,Op.stringOp,bP,oh];rfl⟩
 all_goals cases h
theorem Hs{op:BinOp}{ty:TypeId}{ox oy:Operand}{a b:V}{A B:Value}(hg:eL P op ty ox oy a b=true)(ha:den ρ a=some A)(hb:den ρ b=some B) :
 (eqGuard op ty ox oy A B).run P w=.ok () w:=by
 unfold eL at hg
 cases he:lU op with
 |false=>cases op<;>simp only[lU,Bool.true_eq_false]at he<;>simp[eqGuard]
 |true =>
  rw[he]at hg
  simp only[cond_true]at hg
  have key:∀(A B:Value),(A=.nilIface->B=.nilIface->(dG ox||dG oy)=true)->(∀ xs ys,A=.agg xs->B=.agg ys->P.eqGuardType P.depth ty=false) ->
   (eqGuard op ty ox oy A B).run P w=.ok () w:=by
   intro A B h1 h2
   by_cases hn:A=.nilIface/\B=.nilIface
   ·obtain⟨rfl,rfl⟩:=hn
    have:=h1 rfl rfl
    cases op<;>simp only[lU,Bool.false_eq_true]at he<;>cases ox<;>cases oy<;>simp[dG]at this<;>simp[eqGuard]
   ·by_cases hm:∃ xs ys,A=.agg xs/\B=.agg ys
    ·obtain⟨xs,ys,rfl,rfl⟩:=hm
     exact run_eqGuard_agg w op ty ox oy xs ys (h2 xs ys rfl rfl)
    ·cases op<;>simp only[lU,Bool.false_eq_true]at he<;>(cases A<;>first|rfl|(cases B<;>first|rfl|(exact absurd ⟨rfl,rfl⟩ hn)|(exact absurd ⟨_,_,rfl,rfl⟩ hm)))
  refine key A B (fun hA hB=>?_) (fun xs ys hA hB=>?_)
  ·subst hA;subst hB
   have na:a=.nilIface:=by
    cases a<;>simp only[den,gL]at ha<;>(repeat' split at ha)<;>first|rfl|(simp at ha;done)|cases ha
   have nb:b=.nilIface:=by
    cases b<;>simp only[den,gL]at hb<;>(repeat' split at hb)<;>first|rfl|(simp at hb;done)|cases hb
   subst na;subst nb;exact hg
  ·subst hA;subst hB
   have na:∃ l,a=.agg l:=by
    cases a<;>simp only[den,gL]at ha<;>(repeat' split at ha)<;>first|exact⟨_,rfl⟩|(simp at ha;done)|cases ha
   have nb:∃ l,b=.agg l:=by
    cases b<;>simp only[den,gL]at hb<;>(repeat' split at hb)<;>first|exact⟨_,rfl⟩|(simp at hb;done)|cases hb
   obtain⟨la,rfl⟩:=na
   obtain⟨lb,rfl⟩:=nb
   simpa using hg
theorem Ko{x y:V}:(∃ j a k b,x=.int j a/\y=.int k b)\/(∃ a b,x=.str a/\y=.str b)\/((∀ j a k b,¬(x=.int j a/\y=.int k b))/\∀ a b,¬(x=.str a/\y=.str b)):=by
 grind
theorem DT{ty:TypeId}{X Y:Value}{r:Bool}(h:(Op.equalIn 10000 ty X Y).run P w=.ok r w)(hn:∀ j a k b,¬(X=.int j a/\Y=.int k b))(hs:∀ a b,¬(X=.string a/\Y=.string b))
 (hf:∀ k a,X≠.float k a) (hc:∀ k a b,X≠.complex k a b) :
 (Go.binOp .eql ty X Y).run P w=.ok (.bool r) w/\(Go.binOp .neq ty X Y).run P w=.ok (.bool (!r)) w:=by
 have e1:∀(o:Sem Bool),o.run P w=.ok r w->((do pure (.bool (<- o)):Sem Value).run P w=.ok (.bool r) w/\(do pure (.bool (!(<- o))):Sem Value).run P w=.ok (.bool (!r)) w):=fun o ho=>by simp[ho]
 have h':(Op.equal ty X Y).run P w=.ok r w:=h
 cases X<;>first
  |exact e1 _ h'
  |(exact absurd rfl (hf _ _))
  |(exact absurd rfl (hc _ _ _))
  |(cases Y<;>first
   |exact e1 _ h'
   |(exact absurd ⟨rfl,rfl⟩ (hn _ _ _ _))
   |(exact absurd ⟨rfl,rfl⟩ (hs _ _)))
theorem Bj{v:V}{x:Value}(h:den ρ v=some x):(∀ k a,x≠.float k a)/\(∀ k a b,x≠.complex k a b)/\(∀ j a,x=.int j a->v=.int j a)/\(∀ a,x=.string a->∃ l,v=.str l):=by
 cases v<;>simp only[den,gL]at h<;>(repeat' split at h)<;>first
  |(cases h;done)
  |(cases h;exact⟨fun _ _ e=>(by cases e),fun _ _ _ e=>(by cases e),fun _ _ e=>(by cases e<;>rfl),fun _ e=>(by cases e<;>exact⟨_,rfl⟩)⟩)
theorem uw(h:HR ρ s w)(ht:TR ρ t tm){op:BinOp}{ty:TypeId}{x y:Operand}{nx:Nx}(e:bv s (dX P s op ty x y (eval t x) (eval t y))=some nx) :
 yZ P ρ w s nx ((do pure (Next.value (<- (do eqGuard op ty x y (rv tm x) (rv tm y);Go.binOp op ty (rv tm x) (rv tm y):Sem Value))):Sem Next).run P w):=by
 refine aR h e fun v hv=>?_
 unfold dX at hv
 split at hv
 ·rename_i a ha
  split at hv
  ·rename_i b hb
   cases hg:eL P op ty x y a b with
   |false=>simp[hg]at hv
   |true =>
    simp only[hg,cond_true]at hv
    have da:=aB ht ha
    have db:=aB ht hb
    have hgo:=Hs (w:=w) hg da db
    generalize rv tm x=X at *
    generalize rv tm y=Y at *
    suffices hs:∃ y,den ρ v=some y/\(Go.binOp op ty X Y).run P w=.ok y w by
     simp_all
    rcases Ko (x:=a) (y:=b)with⟨j,m,k,n,rfl,rfl⟩|⟨l,m,rfl,rfl⟩|⟨hni,hns⟩
    ·cases da;cases db
     simp only[eA]at hv
     cases hs:oJ op with
     |true=>rw[hs]at hv;exact zj ty hv
     |false =>
      rw[hs]at hv
      simp only[cond_false]at hv
      cases hk:dF j k with
      |false=>simp[hk]at hv
      |true =>
       simp only[hk,cond_true]at hv
       obtain rfl:j=k:=of_decide_eq_true hk
       exact Ex ty hs hv
    ·cases da;cases db
     exact DJ ty hv
    ·have hv':(match(generalizing:=false) op with
      |.eql=>(cw P (br s) 20 ty a b).map .bool
      |.neq=>(cw P (br s) 20 ty a b).map fun b=>.bool (!b)
      |_=>none)=some v:=by
      unfold eA at hv
      split at hv
      ·exact absurd ⟨rfl,rfl⟩ (hni _ _ _ _)
      ·exact absurd ⟨rfl,rfl⟩ (hns _ _)
      ·exact hv
     obtain⟨s1,s2,s3,s4⟩:=Bj da
     obtain⟨q1,q2,q3,q4⟩:=Bj db
     have hn:∀ j a' k b',¬(X=.int j a'/\Y=.int k b'):=fun j a' k b' ⟨e1,e2⟩=>hni j a' k b' ⟨s3 _ _ e1,q3 _ _ e2⟩
     have hss:∀ a' b',¬(X=.string a'/\Y=.string b'):=fun a' b' ⟨e1,e2⟩=>by
      grind
     cases hq:cw P (br s) 20 ty a b with
     |none=>cases op<;>simp[hq]at hv'
     |some r =>
      have he:=uu h 20 ty a b r X Y 10000 hq da db (by omega)
      obtain⟨g1,g2⟩:=DT he hn hss s1 s2
      cases op<;>simp only[hq,Option.map_some,Option.some.injEq]at hv'<;>first
       |(subst hv';exact⟨_,rfl,g1⟩)
       |(subst hv';exact⟨_,rfl,g2⟩)
       |cases hv'
  ·cases hv
 ·cases hv
theorem yo(h:HR ρ s w)(ht:TR ρ t tm){op:UnOp}{x:Operand}{nx:Nx}(e:bv s (Uv op (eval t x))=some nx) :
 yZ P ρ w s nx ((do pure (Next.value (<- Op.unary op (rv tm x))):Sem Next).run P w):=by
 refine aR h e fun v hv=>?_
 unfold Uv at hv
 split at hv
 ·rename_i a ha
  have da:=aB ht ha
  generalize rv tm x=X at *
  cases op<;>cases a<;>simp only[LV]at hv<;>first
   |(cases hv;done)
   |(cases hv;cases da;exact⟨_,rfl,by simp[Op.unary,Op.intArith]⟩)
 ·cases hv
theorem nX(h:HR ρ s w)(ht:TR ρ t tm){x:Operand}{xt ty:TypeId}{ok:Bool}{nx:Nx}(e:bv s (kZ P (eval t x) ty ok)=some nx) :
 yZ P ρ w s nx ((do pure (Next.value (<- Instr.typeAssert (rv tm x) xt ty ok)):Sem Next).run P w):=by
 refine aR h e fun v hv=>?_
 unfold kZ at hv
 split at hv
 ·cases hv
 ·rename_i d hni hd
  have hfail:∀ v,fj P ty ok=some v->ok=true/\∃ z i,P.info? ty=some i/\i.zero=some z/\den ρ v=some (.tuple #[z,.bool false]):=fun v hf=>by
   unfold fj at hf
   cases ok with
   |false=>cases hf
   |true =>
    simp only[cond_true]at hf
    split at hf
    ·rename_i z hz
     obtain⟨y,i,hi,hzi,hden⟩:=eV hz
     cases hf
     exact⟨rfl,y,i,hi,hzi,by simp only[den,aQ,hden ρ]⟩
    ·cases hf
  split at hv
  ·rename_i hx
   have dx:=aB ht hx
   obtain⟨rfl,z,i,hi,hz,hden⟩:=hfail v hv
   simp only[den,Option.some.injEq]at dx
   refine⟨_,hden,?_⟩
   simp only[Instr.typeAssert,Sem.run_bind,ax hd,Result.andThen_ok,<- dx]
   cases d<;>first|(simp[fJ hi hz];done)|exact absurd rfl (hni _)
  ·rename_i u q hx
   have dx:=aB ht hx
   simp only[den]at dx
   split at dx
   ·rename_i z hz
    simp only[Option.some.injEq]at dx
    cases hb:Nat.beq u ty with
    |true =>
     simp only[hb,cond_true,Option.some.injEq]at hv
     have hu:=Nat.eq_of_beq_eq_true hb
     subst hu
     subst hv
     refine⟨if ok then .tuple #[z,.bool true] else z,by cases ok<;>simp[den,aQ,hz],?_⟩
     simp only[Instr.typeAssert,Sem.run_bind,ax hd,Result.andThen_ok,<- dx]
     cases d<;>first|(simp;done)|exact absurd rfl (hni _)
    |false =>
     simp only[hb,cond_false]at hv
     have hu:u≠ty:=fun e=>by rw[e]at hb;simp at hb
     obtain⟨rfl,z',i,hi,hz',hden⟩:=hfail v hv
     refine⟨_,hden,?_⟩
     simp only[Instr.typeAssert,Sem.run_bind,ax hd,Result.andThen_ok,<- dx]
     cases d<;>first|(simp[hu,fJ hi hz'];done)|exact absurd rfl (hni _)
   ·cases dx
  ·cases hv
 ·cases hv
end ops
section ops
variable{P:Program}{ρ:aD}{s:S}{w:World}{t:T V}{tm:Array Value}
theorem ez{a b:Nat}(h:Nat.blt a b=true):a<b:=Nat.le_of_ble_eq_true h
theorem gT{a:Ad}{z len sz:Nat}{cap:Option Nat}{y:Value}(h:den ρ (.slice a z len cap sz)=some y)(hz:sz≠0\/0<len) :
 ∃ l,ρ a.f a.v=some l/\l.base<=bj l a z cap sz/\l.base<=a.c/\len<=bS l a cap sz/\0<sz/\y=.slice (some ⟨l.b,bj l a z cap sz - l.base,none⟩) len (bS l a cap sz):=by
 simp only[den,gL]at h
 split at h
 ·rename_i h0
  split at h
  ·rename_i h1;omega
  ·cases h
 split at h
 ·rename_i l hl
  split at h
  ·rename_i hc
   simp only[Option.some.injEq]at h
   exact⟨l,hl,hc.1,hc.2.1,hc.2.2.1,hc.2.2.2,h.symm⟩
  ·cases h
 ·cases h
theorem dD{a:Ad}{z len sz:Nat}{cap:Option Nat}{l:zg}(hl:ρ a.f a.v=some l)(h1:l.base<=bj l a z cap sz)(h2:l.base<=a.c)(h3:len<=bS l a cap sz)(h4:0<sz) :
 den ρ (.slice a z len cap sz)=some (.slice (some ⟨l.b,bj l a z cap sz - l.base,none⟩) len (bS l a cap sz)):=by
 simp only[den,gL]
 rw[if_neg (show ¬ sz=0 by omega)]
 simp only[hl]
 rw[if_pos ⟨h1,h2,h3,h4⟩]
theorem ub{a:Ad}{z len sz:Nat}{cap:Option Nat}{y:Value}(h:den ρ (.slice a z len cap sz)=some y):∃ b c,y=.slice b len c/\∀ c',cap=some c'->c=c':=by
 by_cases hz:sz=0
 ·grind [den,gL,Option.some.inj]
 ·obtain⟨l,_,_,_,_,_,rfl⟩:=gT h (.inl hz)
  exact⟨_,_,rfl,fun c' hc=>by subst hc;rfl⟩
theorem Nh{n:Nat}(h:Nat.beq n 0=false):n≠0:=fun e=>by subst e;cases h
theorem fy{l:zg}{a:Ad}{z len sz:Nat}{cap:Option Nat}(h:len<=bS l a cap sz)(h0:0<len):bj l a z cap sz=a.c:=by
 cases cap with
 |some c=>rfl
 |none=>simp only[bj,bS]at *;rw[if_neg (by omega)]
theorem fW(ht:TR ρ t tm){x:Operand}{n:Nat}(h:cL (eval t x)=some n):∃ k,rv tm x=.int k (.ofNat n):=by
 obtain⟨k,hk⟩:=GP h
 have:=aB ht hk
 grind [den,Option.some.injEq]
theorem kn(h:HR ρ s w)(ht:TR ρ t tm){ty:TypeId}{x i:Operand}{nx:Nx}(e:bv s (dq P ty (eval t x) (cL (eval t i)))=some nx) :
 yZ P ρ w s nx ((do pure (Next.value (<- Instr.indexAt ty (rv tm x) (rv tm i))):Sem Next).run P w):=by
 refine aR h e fun v hv=>?_
 unfold dq at hv
 split at hv
 ·rename_i j hj
  obtain⟨k,hi⟩:=fW ht hj
  split at hv
  ·rename_i el hu
   split at hv
   ·rename_i a z len cap sz hx
    split at hv
    ·rename_i n hn
     cases hb:(Nat.beq n sz&&Nat.blt j len)with
     |false=>simp[hb]at hv
     |true =>
      simp only[hb,cond_true,Option.some.injEq]at hv
      simp only[Bool.and_eq_true]at hb
      obtain rfl:=Nat.eq_of_beq_eq_true hb.1
      have hlt:j<len:=ez hb.2
      obtain⟨l,h1,h2,h3,h4,h5,h6⟩:=gT (aB ht hx) (.inr (by omega))
      subst hv
      have hc:=fy (z:=z) h4 (by omega)
      rw[hc]at h6
      refine⟨.pointer (some ((⟨l.b,a.c - l.base,none⟩:Addr).add (j*n))),by simp only[den,rW _ (vE h1 h3)],?_⟩
      have hr:(0:Int)<=(j:Int)/\(j:Int)<(len:Int):=by omega
      simp[Instr.indexAt,hi,h6,asIntOf,ax hu,ce hn,hlt]
    ·cases hv
   ·cases hv
  ·rename_i len el hu
   split at hv
   ·rename_i a hx
    have h1:=aB ht hx
    simp only[den]at h1
    split at h1
    ·rename_i ad had
     simp only[Option.some.injEq]at h1
     split at hv
     ·rename_i n hn
      cases hb:Nat.blt j len with
      |false=>simp[hb]at hv
      |true =>
       simp only[hb,cond_true,Option.some.injEq]at hv
       have hlt:j<len:=ez hb
       subst hv
       refine⟨.pointer (some (ad.add (j*n))),by simp only[den,rW _ had],?_⟩
       simp[Instr.indexAt,hi,<- h1,asIntOf,Instr.sureAddr,ax hu,ce hn,hlt]
     ·cases hv
    ·cases h1
   ·cases hv
  ·cases hv
 ·cases hv
theorem cS(l:List Nat)(i:Nat)(c:Nat)(h:l[i]? = some c):(aC l)[i]? = some (UInt8.ofNat c):=by
 have hi:i<l.length:=(List.getElem?_eq_some_iff.1 h).1
 have hs:(aC l).size=l.length:=by simp[aC,ByteArray.size]
 have hi':i<(aC l).size:=by omega
 rw[getElem?_pos (aC l) i hi']
 have hv:=(List.getElem?_eq_some_iff.1 h).2
 congr 1
 show(aC l).data[i]=_
 simp[aC,hv]
theorem pA(h:HR ρ s w)(ht:TR ρ t tm){ty:TypeId}{x i:Operand}{nx:Nx}(e:bv s (oP P ty (eval t x) (cL (eval t i)))=some nx) :
 yZ P ρ w s nx ((do pure (Next.value (<- Instr.index ty (rv tm x) (rv tm i))):Sem Next).run P w):=by
 refine aR h e fun v hv=>?_
 unfold oP at hv
 split at hv
 ·rename_i j hj
  obtain⟨k,hi⟩:=fW ht hj
  split at hv
  ·rename_i hu
   split at hv
   ·rename_i l hx
    have h1:=aB ht hx
    simp only[den,Option.some.injEq]at h1
    split at hv
    ·rename_i c hc
     cases hv
     refine⟨_,rfl,?_⟩
     have hb:=cS l j c hc
     simp[Instr.index,hi,<- h1,asIntOf,ax hu,hb]
     rfl
    ·cases hv
   ·cases hv
  ·rename_i len el hu
   split at hv
   ·rename_i cs hx
    have h1:=aB ht hx
    simp only[den]at h1
    split at h1
    ·rename_i l hl
     simp only[Option.some.injEq]at h1
     split at hv
     ·rename_i n hn
      cases hb:Nat.blt j len with
      |false=>simp[hb]at hv
      |true =>
       simp only[hb,cond_true]at hv
       have hlt:j<len:=ez hb
       obtain⟨y,h2,h3⟩:=jU (w:=w) (ys:=l.toArray) (by simpa using hl) hv
       exact⟨y,h2,by simp[Instr.index,hi,<- h1,asIntOf,ax hu,ce hn,hlt,h3]⟩
     ·cases hv
    ·cases h1
   ·cases hv
  ·cases hv
 ·cases hv
theorem uI(h:HR ρ s w){ty:TypeId}:FO P ρ w (.val (.map s.next) (s.alloc (.map [] 0))) ((do pure (Next.value (<- Instr.makeMap ty none)):Sem Next).run P w):=by
 have hfree:ρ s.next 0=none:=h.fresh _ _ (Nat.le_refl _)
 obtain⟨h1,h2⟩:=h.alloc (.map [] 0) (.map #[] 0) 0 0 (Nat.le_refl _) ⟨⟨w.heap.size,0,0⟩,#[],aD.put_same _ _ _ _,eh _ _,trivial⟩
 exact⟨_,.map (some w.heap.size),_,by simp[Instr.makeMap],by simp[den,aD.put_same],h1,h2⟩
theorem yz(zs:List Value)(k:Nat)(hk:zs.length=k)(h0:0<k):∀ c:Nat,(List.range (c*k)).map (fun i=>zs.toArray[i%zs.toArray.size]!)=(List.replicate c zs).flatten
 |0=>by simp
 |c+1=>by
  rw[List.replicate_succ,List.flatten_cons,<- yz zs k hk h0 c,Nat.succ_mul,Nat.add_comm,List.range_add,List.map_append,List.map_map]
  congr 1
  ·apply List.ext_getElem
   ·simp[hk]
   ·intro i h1 h2
    simp at h1
    simp[hk,Nat.mod_eq_of_lt h1]
    rw[List.getElem?_eq_getElem h2];rfl
  ·apply List.map_congr_left
   intro i _
   simp[hk]
theorem gF{l:List V}{m:List Value}(h:aQ ρ l=some m):∀ c:Nat,aQ ρ (List.replicate c l).flatten=some (List.replicate c m).flatten
 |0=>rfl
 |c+1=>by
  simp_all[List.replicate_succ,List.flatten_cons,du,gF]
theorem Da(len n:Nat)(cs:List V):tN len n cs=some len\/(tN len n cs=none/\cs.length=len*n):=by
 unfold tN
 cases h:Nat.beq cs.length (len*n)with
 |false=>exact .inl rfl
 |true =>
  cases Nat.beq len 0 with
  |true=>exact .inl rfl
  |false=>exact .inr ⟨rfl,Nat.eq_of_beq_eq_true h⟩
theorem Af{ρ:aD}{f b n len sz cap:Nat}{co:Option Nat}(h:ρ f 0=some ⟨b,0,n⟩)(hl:len<=cap)(hsz:0<sz)(hco:co=some cap\/(co=none/\n=cap*sz)):den ρ (.slice ⟨f,0,0⟩ 0 len co sz)=some (.slice (some ⟨b,0,none⟩) len cap):=by
 rcases hco with rfl|⟨rfl,rfl⟩
 ·exact dD (a:=⟨f,0,0⟩) (cap:=some cap) h (Nat.zero_le _) (Nat.zero_le _) hl hsz
 ·have e:cap*sz / sz=cap:=Nat.mul_div_cancel _ hsz
  have:=dD (a:=⟨f,0,0⟩) (z:=0) (len:=len) (cap:=none) (sz:=sz) h (Nat.zero_le _) (Nat.zero_le _) (by simp[bS,e];exact hl) hsz
  rw[this]
  simp[bj,bS,e]
theorem rj(h:HR ρ s w){elem:TypeId}{cs:List V}{ys:Array Value}(hd:aQ ρ cs=some ys.toList){len sz:Nat}{cap:Nat}{co:Option Nat}(hco:co=some cap\/(co=none/\cs.length=cap*sz))(hl:len<=cap)(hsz:0<sz) :
 FO P ρ w (.val (.slice (ba s elem cs).1 0 len co sz) (ba s elem cs).2) ((do pure (Next.value (.slice (some (<- newRow elem ys)) len cap)):Sem Next).run P w):=by
 have hlen:cs.length=ys.size:=by have:=bB hd;simpa using this.symm
 obtain⟨ρ',h1,h2,h3⟩:=gu h false elem elem (cs:=cs) (ys:=ys) (by rw[hd,hlen,List.take_of_length_le (by simp)]) (0,0) ⟨fun _=>rfl,by simp⟩
 refine⟨ρ',.slice (some ⟨w.heap.size,0,none⟩) len cap,_,by simp[newRow],?_,h2,h3⟩
 exact Af h1 hl hsz (by rw[<- hlen];exact hco)
theorem lq(n:Nat)(h:n<=2199023255552):IntKind.i64.wrap (Int.ofNat n)=Int.ofNat n:=by
 simp only[IntKind.wrap,IntKind.bits,IntKind.signed]
 simp
 omega
theorem uH(h:HR ρ s w)(ht:TR ρ t tm){ty:TypeId}{l c:Operand}{nx:Nx}(e:eo P s ty (cL (eval t l)) (cL (eval t c))=some nx) :
 FO P ρ w nx ((do pure (Next.value (<- Instr.makeSlice ty (rv tm l) (rv tm c))):Sem Next).run P w):=by
 unfold eo at e
 split at e
 ·rename_i el hu
  split at e
  ·rename_i l' hl
   split at e
   ·rename_i c' hc
    obtain⟨k1,e1⟩:=fW ht hl
    obtain⟨k2,e2⟩:=fW ht hc
    split at e
    ·rename_i z hz
     obtain⟨zv,i,hi,hzi,hden⟩:=eV hz
     split at e
     ·rename_i n hn
      cases hb:(Nat.ble l' c'&&Nat.ble c' 2199023255552&&!(Nat.beq n 0)&&Nat.beq z.cells.length n&&iD P el c')with
      |false=>simp[hb]at e
      |true =>
       simp only[hb,cond_true]at e
       simp only[Bool.and_eq_true]at hb
       obtain⟨⟨⟨⟨b1,b2⟩,b3⟩,b4⟩,b5⟩:=hb
       have b1:=Nat.le_of_ble_eq_true b1
       have b2:=Nat.le_of_ble_eq_true b2
       have b4:=Nat.eq_of_beq_eq_true b4
       have b3:0<n:=by
        grind
       have b5:i.bytes*c'<=100000000000000:=by
        simp_all[iD,Nat.le_of_ble_eq_true]
       have hzc:=et (hden ρ)
       have hzl:zv.cells.toList.length=n:=by have:=bB hzc;omega
       have hrow:=yz zv.cells.toList n hzl b3 c'
       have hd:aQ ρ (List.replicate c' z.cells).flatten=some ((List.replicate c' zv.cells.toList).flatten.toArray).toList:=by simpa using gF hzc c'
       have key:=rj (P:=P) h (elem:=el) hd (len:=l') (sz:=n) (cap:=c') (.inl rfl) b1 b3
       simp only[ba,aY]at e key
       cases e
       have hrun:(Instr.makeSlice ty (rv tm l) (rv tm c)).run P w=(do pure (.slice (some (<- newRow el (List.replicate c' zv.cells.toList).flatten.toArray)) l' c'):Sem Value).run P w:=by
        have hsz:=ce hn w
        have w1:=lq l' (by omega)
        have w2:=lq c' b2
        simp only[Int.ofNat_eq_natCast]at w1 w2
        have hA:∀ k n,(asInt (.int k n)).run P w=.ok n w:=fun k n=>by simp[asInt,asIntOf]
        have hrow2:Array.map (fun x=>zv.cells[x%zv.cells.size]!) (Array.range (c'*n))=(List.replicate c' zv.cells.toList).flatten.toArray:=by
         grind
        have hbig:(decide ((c':Int)<0)||decide ((i.bytes:Int)*(c':Int)>2 ^ 48))=false:=by
         grind
        have hl0:decide ((l':Int)<0)=false:=by simp
        have hlc:decide ((l':Int)>(c':Int))=false:=by simp;omega
        have hti:(typeInfo el).run P w=.ok i w:=by simp[typeInfo,hi]
        have hzr:=fJ hi hzi w
        simp only[Instr.makeSlice,Sem.run_bind,ax hu,Result.andThen_ok,e1,e2,hA,Sem.run_pure,hti,Int.ofNat_eq_natCast,w1,w2,run_askRoom,hsz,Int.toNat_natCast]
        rw[if_neg (by rw[hbig,hl0,hlc];simp)]
        simp only[Sem.run_bind,run_askRoom,Result.andThen_ok,hsz]
        by_cases hc0:c'*n=0
        ·rw[if_pos hc0]
         have g:∀ f:Nat->Value,Array.map f (Array.range 0)=#[]:=fun f=>by simp
         simp only[Sem.run_bind,Sem.run_pure,Result.andThen_ok,<- hrow2,hc0,g]
        simp_all
       simp only[Sem.run_bind]at hrun key ⊢
       rw[hrun]
       simpa[newRow]using key
     ·cases e
    ·cases e
   ·cases e
  ·cases e
 ·cases e
theorem Kw{v:V}{n:Nat}(h:jX v=some n):∃ k,v=.int k (.ofNat n):=by
 cases v<;>try(cases h;done)
 rename_i k m
 cases m<;>cases h
 grind
def Dx(ρ:aD):Option V->Option Value->Prop
 |none,none=>True
 |some v,some y=>den ρ v=some y
 |_,_=>False
theorem nP(ht:TR ρ t tm){x:Option Operand}{v:Option V}(h:kW t x=some v):Dx ρ v (x.map (rv tm)):=by
 cases x with
 |none=>cases h;trivial
 |some x =>
  simp only[kW]at h
  split at h
  ·rename_i u hu;cases h;exact aB ht hu
  ·cases h
theorem ft(k:IntKind)(n y:Nat)(c:BoundsCode)(h:n<=y):(Instr.sliceBound (.int k (.ofNat n)) y c).run P w=.ok n w:=by
 have:(0:Int)<=(n:Int)/\(n:Int)<=(y:Int):=by omega
 simp[Instr.sliceBound,asIntOf,h]
theorem gU{isS:Bool}{len cap m h b:Nat}{lo hi mx:Option V}{lo' hi' mx':Option Value}(r1:Dx ρ lo lo')(r2:Dx ρ hi hi')(r3:Dx ρ mx mx')
 (e3:eS mx cap=some m) (e2:eS hi len=some h) (e1:eS lo 0=some b)
 (l3:m<=cap) (l2:h<=m) (l1:b<=h) (hm:mx.isSome=true->hi.isSome=true):(Instr.sliceBounds isS len cap lo' hi' mx').run P w=.ok (b,h,m) w:=by
 have key:∀(o:Option V) (o':Option Value) (n:Nat),Dx ρ o o'->∀ d:Nat,eS o d=some n->(o=none/\o'=none/\n=d)\/∃ k v,o=some v/\o'=some (.int k (.ofNat n)):=by
  intro o o' n hr d he
  cases o with
  |none=>cases o' with
   |none=>exact .inl ⟨rfl,rfl,by cases he;rfl⟩
   |some _=>exact hr.elim
  |some v=>cases o' with
   |none=>exact hr.elim
   |some y =>
    obtain⟨k,rfl⟩:=Kw he
    simp only[Dx,den,Option.some.injEq]at hr
    exact .inr ⟨k,_,rfl,by rw[<- hr]⟩
 rcases key mx mx' m r3 cap e3 with⟨rfl,rfl,rfl⟩|⟨k3,v3,rfl,rfl⟩
 ·rcases key hi hi' h r2 len e2 with⟨rfl,rfl,rfl⟩|⟨k2,v2,rfl,rfl⟩
  ·rcases key lo lo' b r1 0 e1 with⟨rfl,rfl,rfl⟩|⟨k1,v1,rfl,rfl⟩
   ·simp[Instr.sliceBounds]
   ·simp only[Instr.sliceBounds,Sem.run_bind,Sem.run_pure,Result.andThen_ok,ft k1 b _ _ l1]
  ·rcases key lo lo' b r1 0 e1 with⟨rfl,rfl,rfl⟩|⟨k1,v1,rfl,rfl⟩
   ·simp only[Instr.sliceBounds,Sem.run_bind,Sem.run_pure,Result.andThen_ok,ft k2 h _ _ l2]
   ·simp only[Instr.sliceBounds,Sem.run_bind,Sem.run_pure,Result.andThen_ok,ft k2 h _ _ l2,ft k1 b _ _ l1]
 ·rcases key hi hi' h r2 len e2 with⟨rfl,rfl,rfl⟩|⟨k2,v2,rfl,rfl⟩
  ·simp at hm
  ·rcases key lo lo' b r1 0 e1 with⟨rfl,rfl,rfl⟩|⟨k1,v1,rfl,rfl⟩
   ·simp only[Instr.sliceBounds,Sem.run_bind,Sem.run_pure,Result.andThen_ok,ft k3 m _ _ l3,ft k2 h _ _ l2]
   ·simp only[Instr.sliceBounds,Sem.run_bind,Sem.run_pure,Result.andThen_ok,ft k3 m _ _ l3,ft k2 h _ _ l2,ft k1 b _ _ l1]
theorem pt(l:List Nat)(b h:Nat):(aC l).extract b h=aC ((l.drop b).take (h - b)):=by
 apply ByteArray.ext
 simp_all[aC,List.map_drop,List.map_take,List.extract_eq_take_drop]
theorem KY{l:zg}{a:Ad}{sz b:Nat}(hsz:0<sz):(l.lim - (a.c+b*sz)) / sz=(l.lim - a.c) / sz - b:=by
 rw[<- Nat.sub_sub,Nat.mul_comm b sz,Nat.sub_mul_div]
theorem BH{ty:TypeId}{x:V}{X:Value}{lo hi mx:Option V}{lo' hi' mx':Option Value}{v:V}(hx:den ρ x=some X)(r1:Dx ρ lo lo')(r2:Dx ρ hi hi')(r3:Dx ρ mx mx')
 (e:cH P ty x lo hi mx=some v):∃ y,den ρ v=some y/\(Instr.sliceAt ty X lo' hi' mx').run P w=.ok y w:=by
 unfold cH at e
 split at e
 ·rename_i hu
  split at e
  ·rename_i l
   cases mx' with
   |some _=>exact r3.elim
   |none =>
   simp only at e
   split at e
   ·rename_i b h hb hh
    cases hc:(Nat.ble h l.length&&Nat.ble b h)with
    |false=>simp[hc]at e
    |true =>
     simp only[hc,cond_true,Option.some.injEq]at e
     simp only[Bool.and_eq_true]at hc
     subst e
     cases hx
     have hs:(aC l).size=l.length:=by simp[aC,ByteArray.size]
     have:=gU (P:=P) (w:=w) (isS:=false) (len:=l.length) (cap:=l.length) (m:=l.length) r1 r2 r3 rfl hh hb (Nat.le_refl _) (Nat.le_of_ble_eq_true hc.1) (Nat.le_of_ble_eq_true hc.2) (by simp)
     exact⟨_,rfl,by simp[Instr.sliceAt,Instr.slice,ax hu,hs,this,pt]⟩
   ·cases e
  ·cases e
 ·rename_i el hu
  split at e
  ·rename_i sz hsz
   split at e
   ·
    cases hx
    cases hm:(mx.isSome&&!hi.isSome)with
    |true=>rw[hm]at e;cases e
    |false =>
     rw[hm]at e
     simp only[cond_false]at e
     cases hc:(bL (eS lo 0)&&bL (eS hi 0)&&bL (eS mx 0))with
     |false=>simp[hc]at e
     |true =>
      simp only[hc,cond_true,Option.some.injEq]at e
      subst e
      simp only[Bool.and_eq_true]at hc
      have hz:∀ o:Option Nat,bL o=true->o=some 0:=fun o ho=>by
       cases o with
       |none=>cases ho
       |some n=>rw[Nat.eq_of_beq_eq_true ho]
      have:=gU (P:=P) (w:=w) (isS:=true) (len:=0) (cap:=0) r1 r2 r3 (hz _ hc.2) (hz _ hc.1.2) (hz _ hc.1.1) (Nat.le_refl _) (Nat.le_refl _) (Nat.le_refl _)
       (fun h1=>by cases hh:hi with|some _=>rfl|none=>simp[h1,hh]at hm)
      exact⟨_,rfl,by simp[Instr.sliceAt,Instr.slice,ax hu,ce hsz,this]⟩
   ·
    rename_i a z len cap sz'
    cases hz0:(Nat.beq sz' 0||(Nat.beq len 0&&gJ cap))with
    |true =>
     rw[hz0]at e
     simp only[cond_true]at e
     cases hc:((bL (eS lo 0)&&bL (eS hi 0)&&bL (eS mx 0))&&!(mx.isSome&&!hi.isSome))with
     |false=>rw[hc]at e;cases e
     |true =>
      rw[hc]at e
      simp only[cond_true,Option.some.injEq]at e
      subst e
      simp only[Bool.and_eq_true]at hc
      have hz:∀ o:Option Nat,bL o=true->o=some 0:=fun o ho=>by
       cases o with
       |none=>cases ho
       |some n=>rw[Nat.eq_of_beq_eq_true ho]
      have hs:∃ q,X=.slice (some q) 0 0:=by
       simp only[den,gL]at hx
       split at hx
       ·grind
       ·rename_i hne
        simp only[Bool.or_eq_true,Bool.and_eq_true]at hz0
        rcases hz0 with hz0|hz0
        ·simp_all
        ·obtain rfl:=Nat.eq_of_beq_eq_true hz0.1
         obtain rfl:cap=some 0:=by
          cases cap with
          |none=>cases hz0.2
          |some c=>rw[Nat.eq_of_beq_eq_true hz0.2]
         split at hx
         ·split at hx
          ·cases hx;exact⟨_,rfl⟩
          ·cases hx
         ·cases hx
      obtain⟨q,rfl⟩:=hs
      have:=gU (P:=P) (w:=w) (isS:=true) (len:=0) (cap:=0) r1 r2 r3 (hz _ hc.1.2) (hz _ hc.1.1.2) (hz _ hc.1.1.1) (Nat.le_refl _) (Nat.le_refl _) (Nat.le_refl _)
       (fun h1=>by cases hh:hi with|some _=>rfl|none=>simp[h1,hh]at hc)
      exact⟨_,hx,by simp[Instr.sliceAt,Instr.slice,ax hu,ce hsz,this]⟩
    |false =>
    rw[hz0]at e
    simp only[cond_false]at e
    have hz0:=(Bool.or_eq_false_iff.1 hz0).1
    obtain⟨l,g1,g2,g3,g4,g5,rfl⟩:=gT hx (.inl (Nh hz0))
    cases hm:(Nat.beq sz sz'&&!(mx.isSome&&!hi.isSome))with
    |false=>rw[hm]at e;cases e
    |true =>
     rw[hm]at e
     simp only[cond_true]at e
     simp only[Bool.and_eq_true]at hm
     obtain rfl:=Nat.eq_of_beq_eq_true hm.1
     have hmh:mx.isSome=true->hi.isSome=true:=fun h1=>by cases hh:hi with|some _=>rfl|none=>simp[h1,hh]at hm
     split at e
     ·rename_i b h hb hh
      split at e
      ·cases mx' with
       |some _=>exact r3.elim
       |none =>
       split at e
       ·rename_i c
        cases hc:(Nat.ble h c&&Nat.ble b h)with
        |false=>simp[hc]at e
        |true =>
         simp only[hc,cond_true]at e
         simp only[Bool.and_eq_true]at hc
         have c1:=Nat.le_of_ble_eq_true hc.1
         have c2:=Nat.le_of_ble_eq_true hc.2
         have hrun:=gU (P:=P) (w:=w) (isS:=true) (len:=len) (cap:=c) r1 r2 r3 rfl hh hb (Nat.le_refl _) c1 c2 (by simp)
         have hgo:(Instr.sliceAt ty (.slice (some ⟨l.b,a.c - l.base,none⟩) len c) lo' hi' none).run P w=.ok (.slice (some (if c=b then⟨l.b,a.c - l.base,none⟩else(⟨l.b,a.c - l.base,none⟩:Addr).add (b*sz))) (h - b) (c - b)) w:=by
          simp only[Instr.sliceAt,Instr.slice,Sem.run_bind,ax hu,Result.andThen_ok,hrun,ce hsz,Sem.run_pure]
          split<;>simp
         cases hcb:Nat.beq c b with
         |true =>
          simp only[hcb,cond_true,Option.some.injEq]at e
          subst e
          obtain rfl:=Nat.eq_of_beq_eq_true hcb
          refine⟨_,dD g1 g3 g3 (by show h - c<=0;omega) g5,?_⟩
          refine Eq.trans hgo ?_
          rw[if_pos rfl]
          simp[bj,bS]
         |false =>
          simp only[hcb,cond_false,Option.some.injEq]at e
          subst e
          have hne:¬ c=b:=fun e=>by subst e;simp at hcb
          refine⟨_,dD (l:=l) g1 (by show l.base<=a.c+b*sz;omega) (by show l.base<=a.c+b*sz;omega) (by show h - b<=c - b;omega) g5,?_⟩
          refine Eq.trans hgo ?_
          rw[if_neg hne,jD]
          simp only[bj,bS,bN]
          rw[show a.c+b*sz - l.base=a.c - l.base+b*sz by omega]
       ·cases hc:(Nat.ble h len&&Nat.ble b h)with
        |false=>simp[hc]at e
        |true =>
         simp only[hc,cond_true]at e
         simp only[Bool.and_eq_true]at hc
         have c1:=Nat.le_of_ble_eq_true hc.1
         have c2:=Nat.le_of_ble_eq_true hc.2
         have hrun:=gU (P:=P) (w:=w) (isS:=true) (len:=len) (cap:=bS l a none sz) r1 r2 r3 rfl hh hb (Nat.le_refl _) (Nat.le_trans c1 g4) c2 (by simp)
         have hgo:∀ q:Addr,(Instr.sliceAt ty (.slice (some q) len (bS l a none sz)) lo' hi' none).run P w=.ok (.slice (some (if bS l a none sz=b then q else q.add (b*sz))) (h - b) (bS l a none sz - b)) w:=by
          intro q
          simp only[Instr.sliceAt,Instr.slice,Sem.run_bind,ax hu,Result.andThen_ok,hrun,ce hsz,Sem.run_pure]
          split<;>simp
         cases hcb:Nat.beq b 0 with
         |true =>
          simp only[hcb,cond_true,Option.some.injEq]at e
          subst e
          obtain rfl:=Nat.eq_of_beq_eq_true hcb
          refine⟨_,dD g1 g2 g3 (Nat.le_trans c1 g4) g5,?_⟩
          rw[hgo]
          simp[jD]
         |false =>
          simp only[hcb,cond_false,Option.some.injEq]at e
          subst e
          have hb0:0<b:=Nat.pos_of_ne_zero fun e=>by subst e;simp at hcb
          have hcap:bS l (bN a (b*sz)) none sz=bS l a none sz - b:=KY g5
          have hco:bj l a z none sz=a.c:=fy (len:=len) g4 (by omega)
          have hco2:bj l (bN a (b*sz)) a.c none sz=if bS l a none sz=b then a.c else a.c+b*sz:=by
           show(if bS l (bN a (b*sz)) none sz=0 then a.c else a.c+b*sz)=_
           grind
          refine⟨_,dD (l:=l) g1 (by rw[hco2];split<;>omega) (by show l.base<=a.c+b*sz;omega) (by rw[hcap];omega) g5,?_⟩
          rw[hgo,hco,hco2,hcap]
          congr 4
          split
          ·rfl
          ·rw[jD,show a.c+b*sz - l.base=a.c - l.base+b*sz by omega]
      ·rename_i mv
       split at e
       ·rename_i m hmn
        cases hc:(Nat.ble m len&&Nat.ble h m&&Nat.ble b h)with
        |false=>simp[hc]at e
        |true =>
         simp only[hc,cond_true]at e
         simp only[Bool.and_eq_true]at hc
         have c1:=Nat.le_of_ble_eq_true hc.1.1
         have c2:=Nat.le_of_ble_eq_true hc.1.2
         have c3:=Nat.le_of_ble_eq_true hc.2
         have hrun:=gU (P:=P) (w:=w) (isS:=true) (len:=len) (cap:=bS l a cap sz) r1 r2 r3 hmn hh hb (Nat.le_trans c1 g4) c2 c3 hmh
         have hgo:∀ q:Addr,(Instr.sliceAt ty (.slice (some q) len (bS l a cap sz)) lo' hi' mx').run P w=.ok (.slice (some (if m=b then q else q.add (b*sz))) (h - b) (m - b)) w:=by
          intro q
          simp only[Instr.sliceAt,Instr.slice,Sem.run_bind,ax hu,Result.andThen_ok,hrun,ce hsz,Sem.run_pure]
          split<;>simp
         cases hcb:Nat.beq m b with
         |true =>
          simp only[hcb,cond_true]at e
          cases hk:(cap.isSome||Nat.blt 0 len||Nat.beq z a.c)with
          |false=>simp[hk]at e
          |true =>
           simp only[hk,cond_true,Option.some.injEq]at e
           subst e
           obtain rfl:=Nat.eq_of_beq_eq_true hcb
           have hco:bj l a z cap sz=a.c:=by
            simp only[Bool.or_eq_true]at hk
            rcases hk with(hk|hk)|hk
            ·cases cap with
             |some c=>rfl
             |none=>cases hk
            ·exact fy g4 (ez hk)
            ·obtain rfl:=Nat.eq_of_beq_eq_true hk
             cases cap with
             |some c=>rfl
             |none=>simp[bj]
           refine⟨_,dD g1 g3 g3 (by show h - m<=0;omega) g5,?_⟩
           rw[hgo,if_pos rfl,hco]
           simp[bj,bS]
         |false =>
          simp only[hcb,cond_false,Option.some.injEq]at e
          subst e
          have hne:¬ m=b:=fun e=>by subst e;simp at hcb
          have hco:bj l a z cap sz=a.c:=fy g4 (by omega)
          refine⟨_,dD (l:=l) g1 (by show l.base<=a.c+b*sz;omega) (by show l.base<=a.c+b*sz;omega) (by show h - b<=m - b;omega) g5,?_⟩
          rw[hgo,if_neg hne,hco,jD]
          simp only[bj,bS,bN]
          rw[show a.c+b*sz - l.base=a.c - l.base+b*sz by omega]
       ·cases e
     ·cases e
   ·cases e
  ·cases e
 ·cases e
theorem pz(h:HR ρ s w)(ht:TR ρ t tm){ty:TypeId}{x:Operand}{lo hi mx:Option Operand}{nx:Nx}(e:bv s (rO P ty (eval t x) (kW t lo) (kW t hi) (kW t mx))=some nx) :
 yZ P ρ w s nx ((do pure (Next.value (<- Instr.sliceAt ty (rv tm x) (lo.map (rv tm)) (hi.map (rv tm)) (mx.map (rv tm)))):Sem Next).run P w):=by
 refine aR h e fun v hv=>?_
 unfold rO at hv
 split at hv
 ·rename_i x' hx
  split at hv
  ·rename_i lo' hlo
   split at hv
   ·rename_i hi' hhi
    split at hv
    ·rename_i mx' hmx
     exact BH (aB ht hx) (nP ht hlo) (nP ht hhi) (nP ht hmx) hv
    ·cases hv
   ·cases hv
  ·cases hv
 ·cases hv
end ops
section ops
variable{P:Program}{ρ:aD}{s:S}{w:World}{t:T V}{tm:Array Value}
def HW(ρ:aD):List (Nat×V)->List (Nat×Value)->Prop
 |[],[]=>True
 |(i,v)::r,(j,y)::q=>i=j/\den ρ v=some y/\HW ρ r q
 |_,_=>False
theorem iT(ht:TR ρ t tm):∀ {l:List (Nat×Operand)} {vs:List (Nat×V)},cZ t l=some vs->HW ρ vs (l.map fun(i,x)=>(i,rv tm x))
 |[],vs,h=>by cases h;trivial
 |(i,x)::r,vs,h=>by
  simp only[cZ]at h
  cases hx:eval t x with
  |none=>simp[hx]at h
  |some v =>
   cases hr:cZ t r with
   |none=>simp[hx,hr]at h
   |some q =>
    simp only[hx,hr]at h;cases h
    exact⟨rfl,aB ht hx,iT ht hr⟩
theorem AU(off:Nat):∀(vs:List Value) (k:Nat) (c:Array Value),off+k+vs.length<=c.size ->
 ((vs.zipIdx k).foldl (fun cs x=>cs.setIfInBounds (off+x.2) x.1) c).size=c.size /\
 ∀ j,((vs.zipIdx k).foldl (fun cs x=>cs.setIfInBounds (off+x.2) x.1) c)[j]? = if off+k<=j/\j<off+k+vs.length then vs[j - (off+k)]? else c[j]?
 |[],k,c,_=>⟨rfl,fun j=>by rw[if_neg (by simp)];rfl⟩
 |v::r,k,c,h=>by
  simp only[List.length_cons]at h
  simp only[List.zipIdx_cons,List.foldl_cons]
  obtain⟨h1,h2⟩:=AU off r (k+1) (c.setIfInBounds (off+k) v) (by simp;omega)
  grind
theorem jw{placeV place:Nat->Option (Nat×Nat)}(hp:∀ i x,placeV i=some x->place i=some x):∀ {parts:List (Nat×V)} {parts':List (Nat×Value)} {cs out:List V} {ys:Array Value},
 HW ρ parts parts'->aQ ρ cs=some ys.toList->pq placeV cs parts=some out->∃ zs:Array Value,Instr.fill place ys parts'=some zs/\aQ ρ out=some zs.toList
 |[],[],cs,out,ys,_,hd,h=>by cases h;exact⟨ys,rfl,hd⟩
 |(i,v)::r,(j,y)::q,cs,out,ys,⟨hij,hv,hr⟩,hd,h=>by
  subst hij
  simp only[pq]at h
  split at h
  ·cases h
  ·rename_i off n hpl
   cases hb:(Nat.beq v.cells.length n&&Nat.blt 0 n)with
   |false=>rw[hb]at h;cases h
   |true =>
    rw[hb]at h
    simp only[cond_true]at h
    simp only[Bool.and_eq_true]at hb
    obtain rfl:=Nat.eq_of_beq_eq_true hb.1
    have hpos:=ez hb.2
    cases ho:bX cs off v.cells with
    |none=>simp[ho]at h
    |some cs' =>
     simp only[ho,Option.bind_some]at h
     obtain⟨g1,g2,g3⟩:=gp ho
     have hcl:=mj hv
     have hlen:=bB hd
     rw[Array.length_toList]at hlen
     have hvc:=et hv
     let c':Array Value:=(y.cells.toList.zipIdx 0).foldl (fun cs x=>cs.setIfInBounds (off+x.2) x.1) ys
     have hc':c'=y.cells.zipIdx.foldl (fun cs (c,j)=>cs.setIfInBounds (off+j) c) ys:=by
      show List.foldl _ _ _=_
      rw[<- Array.foldl_toList,Array.toList_zipIdx]
     have hroom:off+0+y.cells.toList.length<=ys.size:=by
      rcases g2 with g2|g2
      ·rw[g2]at hpos;simp at hpos
      ·rw[Array.length_toList];omega
     obtain⟨k1,k2⟩:=AU off y.cells.toList 0 ys hroom
     have hsz:c'.toList.length=ys.size:=(Array.length_toList (xs:=c')).trans k1
     have hd':aQ ρ cs'=some c'.toList:=by
      refine kx (by rw[g1,hsz,hlen]) fun i x hx=>?_
      rw[g3 i]at hx
      rw[Array.getElem?_toList,show c'[i]? = _ from k2 i]
      have hyl:y.cells.toList.length=v.cells.length:=by rw[Array.length_toList,hcl]
      by_cases hj:off<=i/\i<off+v.cells.length
      ·rw[if_pos hj]at hx
       rw[if_pos (by omega)]
       obtain⟨z,hz,hz'⟩:=eu _ hvc hx
       exact⟨z,hz,by simpa using hz'⟩
      ·rw[if_neg hj]at hx
       rw[if_neg (by omega)]
       obtain⟨z,hz,hz'⟩:=eu _ hd hx
       exact⟨z,hz,by rw[<- hz',Array.getElem?_toList]⟩
     obtain⟨zs,hz,hzd⟩:=jw hp hr hd' h
     refine⟨zs,?_,hzd⟩
     simp only[Instr.fill,hp _ _ hpl]
     rw[Array.length_toList]at hroom
     rw[if_neg (by simp[hcl];omega),<- hc']
     exact hz
 |[],_::_,_,_,_,h,_,_=>h.elim
 |_::_,[],_,_,_,h,_,_=>h.elim
theorem wW:∀ {fs:List Field},fs.all (fun f=>(size P f.type).isSome)=true ->
 ∃ places,fs.mapM (fun f=>(P.info? f.type).map fun i=>(f.offset,i.size))=some places/\∀(i:Nat) (f:Field) (n:Nat),fs[i]? = some f->size P f.type=some n->places[i]? = some (f.offset,n)
 |[],_=>⟨[],rfl,fun i f n h=>by simp at h⟩
 |f::r,h=>by
  simp only[List.all_cons,Bool.and_eq_true]at h
  obtain⟨q,h1,h2⟩:=wW h.2
  obtain⟨n,hn⟩:=Option.isSome_iff_exists.1 h.1
  obtain⟨i,hi,rfl⟩:=sN hn
  refine⟨(f.offset,i.size)::q,by simp[List.mapM_cons,hi,h1],fun j g m hj hm=>?_⟩
  grind
theorem yS{x:Option (List V)}{v:V}(h:FL x=some v):∃ l,x=some l/\v=.agg l:=by
 cases x with
 |none=>cases h
 |some l=>cases h;exact⟨l,rfl,rfl⟩
theorem pC(h:HR ρ s w)(ht:TR ρ t tm){ty:TypeId}{parts:Array (Nat×Operand)}{nx:Nx}(e:bv s (kw P ty (cZ t parts.toList))=some nx) :
 yZ P ρ w s nx ((do pure (Next.value (<- Instr.build ty (parts.map fun(i,x)=>(i,rv tm x)))):Sem Next).run P w):=by
 refine aR h e fun v hv=>?_
 unfold kw at hv
 split at hv
 ·rename_i z hz
  obtain⟨zv,it,hi,hzi,hden⟩:=eV hz
  have hzc:=et (hden ρ)
  split at hv
  ·rename_i l hl
   have hp:=iT ht hl
   have hpl:(parts.toList.map fun(i,x)=>(i,rv tm x))=(parts.map fun(i,x)=>(i,rv tm x)).toList:=by simp
   rw[hpl]at hp
   split at hv
   ·rename_i fs hu
    cases hs:fs.toList.all (fun f=>(size P f.type).isSome)with
    |false=>rw[hs]at hv;cases hv
    |true =>
     rw[hs]at hv
     simp only[cond_true]at hv
     obtain⟨out,ho,rfl⟩:=yS hv
     obtain⟨places,h1,h2⟩:=wW hs
     obtain⟨zs,hz1,hz2⟩:=jw (place:=(places.toArray[·]?)) (fun i x hx=>by
      unfold nO at hx
      split at hx
      ·rename_i f hf
       split at hx
       ·rename_i n hn
        cases hx
        simpa using h2 i f n (by simpa using hf) hn
       ·cases hx
      ·cases hx) hp hzc ho
     refine⟨.agg zs,by simp only[den,hz2],run_build w ty _ zs ?_⟩
     simp only[Program.built,hi,hu,hzi,h1,hz1]
   ·rename_i n el hu
    split at hv
    ·rename_i m hm
     obtain⟨ie,hie,rfl⟩:=sN hm
     obtain⟨out,ho,rfl⟩:=yS hv
     obtain⟨zs,hz1,hz2⟩:=jw (place:=fun i=>some (i*ie.size,ie.size)) (fun i x hx=>hx) hp hzc ho
     refine⟨.agg zs,by simp only[den,hz2],run_build w ty _ zs ?_⟩
     simp only[Program.built,hi,hu,hzi,hie,hz1]
    ·cases hv
   ·cases hv
  ·cases hv
 ·cases hv
theorem qj(h:HR ρ s w)(ht:TR ρ t tm){ty:TypeId}{len:Nat}{parts:Array (Nat×Operand)}{nx:Nx}(e:bD P s ty len (cZ t parts.toList)=some nx) :
 FO P ρ w nx ((do pure (Next.value (<- Instr.buildSlice ty len (parts.map fun(i,x)=>(i,rv tm x)))):Sem Next).run P w):=by
 unfold bD at e
 split at e
 ·rename_i el hu
  split at e
  ·rename_i l hl
   have hp:=iT ht hl
   have hpl:(parts.toList.map fun(i,x)=>(i,rv tm x))=(parts.map fun(i,x)=>(i,rv tm x)).toList:=by simp
   rw[hpl]at hp
   split at e
   ·rename_i z hz
    obtain⟨zv,it,hi,hzi,hden⟩:=eV hz
    have hzc:=et (hden ρ)
    split at e
    ·rename_i n hn
     cases hb:(Nat.ble (len*n) 10000&&!(Nat.beq n 0)&&Nat.beq z.cells.length n)with
     |false=>rw[hb]at e;cases e
     |true =>
      rw[hb]at e
      simp only[cond_true]at e
      simp only[Bool.and_eq_true]at hb
      have b1:=Nat.le_of_ble_eq_true hb.1.1
      have b2:0<n:=by
       rcases Nat.eq_zero_or_pos n with h0|h0
       ·subst h0;simp at hb
       ·exact h0
      have b3:=Nat.eq_of_beq_eq_true hb.2
      unfold jk at e
      split at e
      ·rename_i cs hcs
       have hzl:zv.cells.toList.length=n:=by have:=bB hzc;omega
       have hrow:=yz zv.cells.toList n hzl b2 len
       have hd:aQ ρ (List.replicate len z.cells).flatten=some ((List.replicate len zv.cells.toList).flatten.toArray).toList:=by simpa using gF hzc len
       obtain⟨zs,hz1,hz2⟩:=jw (place:=fun i=>some (i*n,n)) (fun i x hx=>hx) hp hd hcs
       have key:=rj (P:=P) h (elem:=el) hz2 (len:=len) (sz:=n) (cap:=len) (Da len n cs) (Nat.le_refl _) b2
       simp only[ba,aY]at e key
       cases e
       have hrow2:Array.map (fun x=>zv.cells[x%zv.cells.size]!) (Array.range (len*n))=(List.replicate len zv.cells.toList).flatten.toArray:=by
        grind
       have hrun:(Instr.buildSlice ty len (parts.map fun(i,x)=>(i,rv tm x))).run P w=(do pure (.slice (some (<- newRow el zs)) len len):Sem Value).run P w:=by
        simp only[Instr.buildSlice,Sem.run_bind,ax hu,Result.andThen_ok,ce hn]
        rw[if_neg (by omega)]
        by_cases hc0:len*n=0
        ·rw[if_pos hc0]
         have g:∀ f:Nat->Value,Array.map f (Array.range 0)=#[]:=fun f=>by simp
         rw[<- hrow2,hc0,g]at hz1
         simp only[Sem.run_bind,Sem.run_pure,Result.andThen_ok,hc0,g,hz1]
        ·rw[if_neg hc0]
         simp only[Sem.run_bind,fJ hi hzi,Result.andThen_ok,Sem.run_pure,hrow2,hz1]
       simp only[Sem.run_bind]at hrun key ⊢
       rw[hrun]
       simpa[newRow]using key
      ·cases e
    ·cases e
   ·cases e
  ·cases e
 ·cases e
end ops
section ops
variable{P:Program}{ρ:aD}{s:S}{w:World}{t:T V}{tm:Array Value}
theorem lH{r:Nat}{es:Array MapEntry}{c:Nat}(h:w.heap[r]? = some (.map es c)):(getObj r).run P w=.ok (.map es c) w:=by
 simp only[getObj,Sem.run,h]
theorem wn{r:Nat}{es:Array MapEntry}{c:Nat}(h:w.heap[r]? = some (.map es c))(o:Obj):(setObj r o).run P w=.ok () { w with heap:=w.heap.setIfInBounds r o }:=by
 simp only[setObj,Sem.run,h]
theorem vF(w:World)(r:Nat)(o:Obj):Sj w { w with heap:=w.heap.setIfInBounds r o } r :=
 ⟨by simp,rfl,rfl,rfl,fun k hk=>by simp[Ne.symm hk]⟩
theorem DO{r:Nat}{o':Obj}(h:w.heap[r]? = some o')(o:Obj):({ w with heap:=w.heap.setIfInBounds r o }:World).heap[r]? = some o:=by
 grind
theorem jO{kt:TypeId}(h:ef P kt=true):∃ d,P.underlying kt=some d/\((∃ k,d=.int k)\/d=.string\/d=.bool\/∃ e,d=.pointer e):=by
 grind [ef]
theorem iP{kt:TypeId}(h:ef P kt=true)(b:Bool)(K:Value):(Instr.checkKey b 10000 kt K).run P w=.ok () w:=by
 obtain⟨d,hd,h1⟩:=jO h
 show(Instr.checkKey b (9999+1) kt K).run P w=_
 rw[Instr.checkKey]
 simp only[Sem.run_bind,ax hd,Result.andThen_ok]
 rcases h1 with⟨k,rfl⟩|rfl|rfl|⟨e,rfl⟩<;>rfl
structure RE(P:Program)(ρ:aD)(w:World)(kt:TypeId)(eq:V->V->Option Bool)(k:V)(K:Value):Prop where
 ask:∀ key y r,eq k key=some r->den ρ key=some y->(Op.equal kt K y).run P w=.ok r w
 same:∀ key y,eq k key=some true->den ρ key=some y->y=K
 now:∀ d,P.underlying kt=some d->(∀ key y r,eq k key=some r->den ρ key=some y->Instr.sameNow d K y=some r)\/(∀ y,Instr.sameNow d K y=none)
 bits:∀ n,Instr.sameBits (n+1) K K=true
theorem vZ:∀ {a b:List Nat},kK a b=some true->a=b
 |[],[],_=>rfl
 |[],_::_,h=>by cases h
 |_::_,[],h=>by cases h
 |a::x,b::y,h=>by
  simp only[kK]at h
  cases hb:Nat.beq a b with
  |true=>rw[hb]at h;rw[Nat.eq_of_beq_eq_true hb,vZ h]
  |false =>
   grind
theorem OD(a b:ByteArray):(a==b)=(a.data==b.data):=by cases a;cases b;rfl
theorem HJ(a b:List Nat):(aC a==aC b)=((aC a).toList==(aC b).toList):=by
 rw[OD,bP,bP]
 show((a.map UInt8.ofNat).toArray==(b.map UInt8.ofNat).toArray)=_
 simp
theorem sd(a:ByteArray):(a==a)=true:=by rw[OD];simp
theorem Rc(h:HR ρ s w){kt:TypeId}(hs:ef P kt=true){k:V}{K:Value}(hk:den ρ k=some K){e0:oY}{r0:Bool}(h0:cw P (br s) 20 kt k e0.key=some r0) :
 RE P ρ w kt (cw P (br s) 20 kt) k K:=by
 obtain⟨d,hd,h1⟩:=jO hs
 have key:∀ key,cw P (br s) 20 kt k key≠none->(∃ a b i j,k=.int i a/\key=.int j b/\∃ kk,d=.int kk)\/(∃ a b,k=.str a/\key=.str b/\d=.string)\/(∃ a b,k=.bool a/\key=.bool b/\d=.bool) \/
  ((∃ e,d=.pointer e)/\((k=.nilptr/\key=.nilptr)\/(∃ a,k=.nilptr/\key=.ptr a)\/(∃ a,k=.ptr a/\key=.nilptr)\/(∃ a b,k=.ptr a/\key=.ptr b))):=by
  intro key hne
  rcases h1 with⟨kk,rfl⟩|rfl|rfl|⟨e,rfl⟩<;>unfold cw at hne<;>simp only[hd]at hne
  ·cases k<;>cases key<;>simp at hne ⊢
  ·cases k<;>cases key<;>simp at hne ⊢
  ·cases k<;>cases key<;>simp at hne ⊢
  ·cases k<;>cases key<;>simp at hne ⊢
 refine⟨fun key' y r he hy=>uu h 20 kt k key' r K y 10000 he hk hy (by omega),fun key' y he hy=>?_,fun d' hd'=>?_,fun n=>?_⟩
 ·have he2:=he
  rcases key key' (by rw[he2];simp)with⟨a,b,i,j,rfl,rfl,kk,rfl⟩|⟨a,b,rfl,rfl,rfl⟩|⟨a,b,rfl,rfl,rfl⟩|⟨⟨e,rfl⟩,⟨rfl,rfl⟩|⟨a,rfl,rfl⟩|⟨a,rfl,rfl⟩|⟨a,b,rfl,rfl⟩⟩<;>unfold cw at he<;>simp only[hd]at he
  · 
   cases hq:dF i j with
   |false=>rw[hq]at he;cases he
   |true =>
    rw[hq]at he
    obtain rfl:i=j:=of_decide_eq_true hq
    simp at he
    cases hk;cases hy;rw[he]
  ·rw[vZ he]at hk
   rw[hk]at hy;exact(Option.some.inj hy).symm
  ·simp at he
   subst he
   rw[hk]at hy;exact(Option.some.inj hy).symm
  ·rw[hk]at hy;exact(Option.some.inj hy).symm
  ·simp at he
  ·simp at he
  ·split at he
   ·rename_i n hn
    cases hz:Nat.beq n 0 with
    |true=>rw[hz]at he;cases he
    |false =>
     rw[hz]at he
     simp only[cond_false,Ea]at he
     cases hp:(br s a&&br s b)with
     |false=>rw[hp]at he;cases he
     |true =>
     rw[hp]at he
     simp only[cond_true]at he
     cases hf:Nat.beq a.f b.f with
     |false=>simp[hf]at he
     |true =>
      cases hv:Nat.beq a.v b.v with
      |false=>simp[hf,hv]at he
      |true =>
       simp[hf,hv]at he
       have e1:=Nat.eq_of_beq_eq_true hf
       have e2:=Nat.eq_of_beq_eq_true hv
       have:a=b:=by cases a;cases b;simp_all
       subst this
       rw[hk]at hy;exact(Option.some.inj hy).symm
   ·cases he
 ·rw[hd]at hd'
  cases hd'
  rcases h1 with⟨kk,rfl⟩|rfl|rfl|⟨e,rfl⟩
  ·left;intro key' y r he hy
   have he2:=he
   unfold cw at he
   simp only[hd]at he
   rcases key key' (by rw[he2];simp)with⟨a,b,i,j,rfl,rfl,_,_⟩|⟨a,b,rfl,rfl,hh⟩|⟨a,b,rfl,rfl,hh⟩|⟨⟨e,hh⟩,_⟩<;>try(cases hh;done)
   simp only at he
   cases hq:dF i j with
   |false=>rw[hq]at he;cases he
   |true =>
    rw[hq]at he
    obtain rfl:i=j:=of_decide_eq_true hq
    cases hk;cases hy
    simpa[Instr.sameNow]using he
  ·left;intro key' y r he hy
   have he2:=he
   unfold cw at he
   simp only[hd]at he
   rcases key key' (by rw[he2];simp)with⟨a,b,i,j,rfl,rfl,_,hh⟩|⟨a,b,rfl,rfl,_⟩|⟨a,b,rfl,rfl,hh⟩|⟨⟨e,hh⟩,_⟩<;>try(cases hh;done)
   simp only at he
   cases hk;cases hy
   simp only[Instr.sameNow,HJ,lA he]
  ·left;intro key' y r he hy
   have he2:=he
   unfold cw at he
   simp only[hd]at he
   rcases key key' (by rw[he2];simp)with⟨a,b,i,j,rfl,rfl,_,hh⟩|⟨a,b,rfl,rfl,hh⟩|⟨a,b,rfl,rfl,_⟩|⟨⟨e,hh⟩,_⟩<;>try(cases hh;done)
   simp only at he
   cases hk;cases hy
   simpa[Instr.sameNow]using he
  ·right;intro y;cases K<;>cases y<;>rfl
 ·rcases key e0.key (by rw[h0];simp)with⟨a,b,i,j,rfl,_⟩|⟨a,b,rfl,_⟩|⟨a,b,rfl,_⟩|⟨_,⟨rfl,_⟩|⟨a,rfl,_⟩|⟨a,rfl,_⟩|⟨a,b,rfl,_⟩⟩
  ·cases hk;simp[Instr.sameBits,sd]
  ·cases hk;simp[Instr.sameBits,sd]
  ·cases hk;simp[Instr.sameBits,sd]
  ·cases hk;simp[Instr.sameBits,sd]
  ·cases hk;simp[Instr.sameBits,sd]
  ·simp only[den]at hk;split at hk<;>cases hk;simp[Instr.sameBits]
  ·simp only[den]at hk;split at hk<;>cases hk;simp[Instr.sameBits]
def BA(ρ:aD)(eq:V->V->Option Bool)(k:V)(y:Value)(r:Bool):Prop:=∃ key,den ρ key=some y/\eq k key=some r
theorem AY{eq:V->V->Option Bool}{k:V}:∀ {es:List oY} {rs:List MapEntry},fL ρ es rs->bY eq k es=some none->∀ e∈rs,BA ρ eq k e.key false
 |[],[],_,_,e,he=>by cases he
 |a::es,b::rs,⟨h1,h2⟩,h,e,he=>by
  simp only[bY]at h
  cases hq:eq k a.key with
  |none=>simp[hq,bY.foundKey]at h
  |some q =>
   cases q with
   |true=>simp[hq,bY.foundKey]at h
   |false =>
    simp only[hq,bY.foundKey]at h
    rcases List.mem_cons.1 he with rfl|he
    ·exact⟨a.key,h1.1,hq⟩
    ·exact AY h2 h e he
 |[],_::_,h,_,_,_=>h.elim
 |_::_,[],h,_,_,_=>h.elim
theorem EI{eq:V->V->Option Bool}{k v:V}:∀ {es:List oY} {rs:List MapEntry},fL ρ es rs->bY eq k es=some (some v) ->
 ∃ pre e post,rs=pre++e::post/\(∀ e'∈pre,BA ρ eq k e'.key false)/\BA ρ eq k e.key true/\den ρ v=some e.val
 |[],[],_,h=>by simp[bY]at h
 |a::es,b::rs,⟨h1,h2⟩,h=>by
  simp only[bY]at h
  cases hq:eq k a.key with
  |none=>simp[hq,bY.foundKey]at h
  |some q =>
   cases q with
   |true =>
    simp only[hq,bY.foundKey,Option.some.injEq]at h
    subst h
    exact⟨[],b,rs,rfl,(fun _ he=>by cases he),⟨a.key,h1.1,hq⟩,h1.2.1⟩
   |false =>
    simp only[hq,bY.foundKey]at h
    obtain⟨pre,e,post,rfl,g1,g2,g3⟩:=EI h2 h
    refine⟨b::pre,e,post,rfl,fun e' he=>?_,g2,g3⟩
    rcases List.mem_cons.1 he with rfl|he
    ·exact⟨a.key,h1.1,hq⟩
    grind
 |[],_::_,h,_=>h.elim
 |_::_,[],h,_=>h.elim
theorem DC{eq:V->V->Option Bool}{k x:V}:∀ {es:List oY} {rs:List MapEntry},fL ρ es rs->cO eq k x es=some none->∀ e∈rs,BA ρ eq k e.key false
 |[],[],_,_,e,he=>by cases he
 |a::es,b::rs,⟨h1,h2⟩,h,e,he=>by
  simp only[cO]at h
  cases hq:eq k a.key with
  |none=>simp[hq,cO.setKey]at h
  |some q =>
   cases q with
   |true=>simp[hq,cO.setKey]at h
   |false =>
    simp only[hq,cO.setKey]at h
    cases hu:cO eq k x es with
    |none=>simp[hu]at h
    |some u =>
     cases u with
     |some l=>simp[hu]at h
     |none =>
      rcases List.mem_cons.1 he with rfl|he
      ·exact⟨a.key,h1.1,hq⟩
      ·exact DC h2 hu e he
 |[],_::_,h,_,_,_=>h.elim
 |_::_,[],h,_,_,_=>h.elim
theorem Ik{eq:V->V->Option Bool}{k x:V}{K X:Value}(hk:den ρ k=some K)(hx:den ρ x=some X):∀ {es es':List oY} {rs:List MapEntry},fL ρ es rs->cO eq k x es=some (some es') ->
 ∃ pre e post,rs=pre++e::post/\(∀ e'∈pre,BA ρ eq k e'.key false)/\BA ρ eq k e.key true/\fL ρ es' (pre++{ e with key:=K,val:=X }::post)
 |[],_,[],_,h=>by simp[cO]at h
 |a::es,es',b::rs,⟨h1,h2⟩,h=>by
  simp only[cO]at h
  cases hq:eq k a.key with
  |none=>simp[hq,cO.setKey]at h
  |some q =>
   cases q with
   |true =>
    simp only[hq,cO.setKey,Option.some.injEq]at h
    subst h
    exact⟨[],b,rs,rfl,(fun _ he=>by cases he),⟨a.key,h1.1,hq⟩,⟨hk,hx,h1.2.2⟩,h2⟩
   |false =>
    simp only[hq,cO.setKey]at h
    cases hu:cO eq k x es with
    |none=>simp[hu]at h
    |some u =>
     cases u with
     |none=>simp[hu]at h
     |some l =>
      simp only[hu,Option.some.injEq]at h
      subst h
      obtain⟨pre,e,post,rfl,g1,g2,g3⟩:=Ik hk hx h2 hu
      refine⟨b::pre,e,post,rfl,fun e' he=>?_,g2,h1,g3⟩
      rcases List.mem_cons.1 he with rfl|he
      ·exact⟨a.key,h1.1,hq⟩
      grind
 |[],_,_::_,h,_=>h.elim
 |_::_,_,[],h,_=>h.elim
theorem Ef{d:TypeDesc}{K:Value}:∀ {rs:List MapEntry} (i:Nat),(∀ e∈rs,Instr.sameNow d K e.key=some false)->Instr.findNow d K rs i=some none
 |[],_,_=>rfl
 |e::rs,i,h=>by
  rw[Instr.findNow,h e (by simp)]
  exact Ef (i+1) fun e' he=>h e' (by simp[he])
theorem IR{d:TypeDesc}{K:Value}{e:MapEntry}{post:List MapEntry}(h1:Instr.sameNow d K e.key=some true):∀ {pre:List MapEntry} (i:Nat),(∀ e∈pre,Instr.sameNow d K e.key=some false)->Instr.findNow d K (pre++e::post) i=some (some (i+pre.length,e.val))
 |[],i,_=>by simp[Instr.findNow,h1]
 |a::pre,i,h=>by
  rw[List.cons_append,Instr.findNow,h a (by simp)]
  have:=IR (post:=post) h1 (pre:=pre) (i+1) fun e' he=>h e' (by simp[he])
  grind
theorem FA{kt:TypeId}{K:Value}:∀ {rs:List MapEntry} (i:Nat),(∀ e∈rs,(Op.equal kt K e.key).run P w=.ok false w)->(Instr.findAsking kt K rs i).run P w=.ok none w
 |[],_,_=>by simp[Instr.findAsking]
 |e::rs,i,h=>by
  simp only[Instr.findAsking,Sem.run_bind,h e (by simp),Result.andThen_ok,Bool.false_eq_true,if_false]
  exact FA (i+1) fun e' he=>h e' (by simp[he])
theorem JL{kt:TypeId}{K:Value}{e:MapEntry}{post:List MapEntry}(h1:(Op.equal kt K e.key).run P w=.ok true w):∀ {pre:List MapEntry} (i:Nat),(∀ e∈pre,(Op.equal kt K e.key).run P w=.ok false w)->(Instr.findAsking kt K (pre++e::post) i).run P w=.ok (some (i+pre.length,e.val)) w
 |[],i,_=>by simp[Instr.findAsking,h1]
 |a::pre,i,h=>by
  simp only[List.cons_append,Instr.findAsking,Sem.run_bind,h a (by simp),Result.andThen_ok,Bool.false_eq_true,if_false]
  have:=JL (post:=post) h1 (pre:=pre) (i+1) fun e' he=>h e' (by simp[he])
  grind
theorem DR{kt:TypeId}{d:TypeDesc}(hd:P.underlying kt=some d){eq:V->V->Option Bool}{k:V}{K:Value}{rs:List MapEntry}(A:rs≠[]->RE P ρ w kt eq k K)(h:∀ e∈rs,BA ρ eq k e.key false) :
 (Instr.findKey kt K rs).run P w=.ok none w:=by
 by_cases hn:rs=[]
 ·subst hn;simp[Instr.findKey,ax hd,Instr.findNow]
 ·replace A:=A hn
  simp only[Instr.findKey,Sem.run_bind,ax hd,Result.andThen_ok]
  rcases A.now d hd with g|g
  ·rw[Ef 0 fun e he=>by obtain⟨key,h1,h2⟩:=h e he;exact g _ _ _ h2 h1];rfl
  ·cases rs with
   |nil=>exact absurd rfl hn
   |cons e rs =>
    rw[Instr.findNow,g]
    exact FA 0 fun e' he=>by obtain⟨key,h1,h2⟩:=h e' he;exact A.ask _ _ _ h2 h1
theorem Iy{kt:TypeId}{d:TypeDesc}(hd:P.underlying kt=some d){eq:V->V->Option Bool}{k:V}{K:Value}{pre post:List MapEntry}{e:MapEntry}(A:RE P ρ w kt eq k K)(h:∀ e∈pre,BA ρ eq k e.key false)(h1:BA ρ eq k e.key true) :
 (Instr.findKey kt K (pre++e::post)).run P w=.ok (some (pre.length,e.val)) w:=by
 simp only[Instr.findKey,Sem.run_bind,ax hd,Result.andThen_ok]
 obtain⟨key,k1,k2⟩:=h1
 rcases A.now d hd with g|g
 ·rw[IR (g _ _ _ k2 k1) 0 fun e he=>by obtain⟨key,h1,h2⟩:=h e he;exact g _ _ _ h2 h1]
  simp
 ·have hno:Instr.findNow d K (pre++e::post) 0=none:=by
   cases pre<;>(simp only[List.nil_append,List.cons_append];rw[Instr.findNow,g])
  rw[hno]
  have:=JL (P:=P) (w:=w) (post:=post) (A.ask _ _ _ k2 k1) 0 fun e he=>by obtain⟨key,h1,h2⟩:=h e he;exact A.ask _ _ _ h2 h1
  simpa using this
theorem oU(h:HR ρ s w){kt:TypeId}(hs:ef P kt=true){k:V}{K:Value}(hk:den ρ k=some K){y:Value}{r:Bool}(ha:BA ρ (cw P (br s) 20 kt) k y r) :
 RE P ρ w kt (cw P (br s) 20 kt) k K:=by
 obtain⟨key,_,h2⟩:=ha
 exact Rc h hs hk (e0:=⟨key,key,0⟩) h2
theorem Cn{r:Nat}{y:Value}(h:den ρ (.map r)=some y):∃ l,ρ r 0=some l/\y=.map (some l.b):=by
 grind [den]
theorem nW(h:HR ρ s w)(ht:TR ρ t tm){ty:TypeId}{x k:Operand}{ok:Bool}{nx:Nx}(e:bv s (jz P s ty (eval t x) (eval t k) ok)=some nx) :
 yZ P ρ w s nx ((do pure (Next.value (<- Instr.lookup ty (rv tm x) (rv tm k) ok)):Sem Next).run P w):=by
 refine aR h e fun v hv=>?_
 unfold jz at hv
 split at hv
 ·rename_i kt el hu
  split at hv
  ·rename_i m hm
   split at hv
   ·rename_i k' hk
    have dm:=aB ht hm
    have dk:=aB ht hk
    generalize rv tm x=X at *
    generalize rv tm k=K at *
    split at hv
    ·rename_i es hes
     cases hs:ef P kt with
     |false=>rw[hs]at hv;cases hv
     |true =>
      rw[hs]at hv
      simp only[cond_true]at hv
      obtain⟨d,hd,_⟩:=jO hs
      have hX:∃(rs:Array MapEntry),fL ρ es rs.toList/\∀(o:Option (Nat×Value)),(Instr.findKey kt K rs.toList).run P w=.ok o w ->
       (Instr.lookup ty X K ok).run P w=match o with
        |some (_,v)=>.ok (if ok then .tuple #[v,.bool true] else v) w
        |none=>((zeroValue el).run P w).andThen fun v w=>.ok (if ok then .tuple #[v,.bool false] else v) w:=by
       unfold yj at hes
       split at hes
       ·cases hes;cases dm
        refine⟨#[],trivial,fun o ho=>?_⟩
        simp only[Instr.lookup,Sem.run_bind,ax hu,Result.andThen_ok,Sem.run_pure,iP hs,ho]
        cases o with
        |none=>simp only[Sem.run_bind,Sem.run_pure];cases (zeroValue el).run P w<;>rfl
        |some o=>rfl
       ·rename_i r
        split at hes
        ·rename_i es' clock hg
         cases hes
         obtain⟨l,hl,rfl⟩:=Cn dm
         obtain⟨l',rs,g1,g2,g3⟩:=h.blk _ _ hg
         rw[hl]at g1;cases g1
         refine⟨rs,g3,fun o ho=>?_⟩
         simp only[Instr.lookup,Sem.run_bind,ax hu,Result.andThen_ok,lH g2,Sem.run_pure,iP hs,ho]
         cases o with
         |none=>simp only[Sem.run_bind,Sem.run_pure];cases (zeroValue el).run P w<;>rfl
         |some o=>rfl
        ·cases hes
       ·cases hes
      obtain⟨rs,hrs,hrun⟩:=hX
      unfold Jk at hv
      split at hv
      ·rename_i u hf
       cases hv
       obtain⟨pre,e,post,g1,g2,g3,g4⟩:=EI hrs hf
       have A:=oU h hs dk g3
       have:=hrun _ (by rw[g1];exact Iy hd A g2 g3)
       refine⟨_,?_,this⟩
       cases ok
       ·exact g4
       ·simp only[cond_true,if_true,den,aQ,g4]
      ·rename_i hf
       have hm:=AY hrs hf
       have:=hrun none (DR hd (fun hne=>by
        cases hr:rs.toList with
        |nil=>exact absurd hr hne
        |cons e r=>exact oU h hs dk (hm e (by rw[hr];simp))) hm)
       split at hv
       ·rename_i z hz
        cases hv
        obtain⟨zv,it,hi,hzi,hden⟩:=eV hz
        simp only[fJ hi hzi,Result.andThen_ok]at this
        refine⟨_,?_,this⟩
        cases ok
        ·exact hden ρ
        ·simp only[cond_true,if_true,den,aQ,hden ρ]
       ·cases hv
      ·cases hv
    ·cases hv
   ·cases hv
  ·cases hv
 ·cases hv
theorem Kf(K old:Value)(h1:old=K)(hb:∀ n,Instr.sameBits (n+1) K K=true):(Instr.keyThatStays old K).run P w=.ok K w:=by
 subst h1
 have:=hb 9999
 simp only[Instr.keyThatStays]
 simp_all
theorem fL.length:∀ {es:List oY} {rs:List MapEntry},fL ρ es rs->es.length=rs.length
 |[],[],_=>rfl
 |_::_,_::_,⟨_,h⟩=>by simp[fL.length h]
 |[],_::_,h=>h.elim
 |_::_,[],h=>h.elim
theorem fL.snoc{k x:V}{K X:Value}{c:Nat}(hk:den ρ k=some K)(hx:den ρ x=some X):∀ {es:List oY} {rs:List MapEntry},fL ρ es rs->fL ρ (es++[⟨k,x,c⟩]) (rs++[⟨K,X,c⟩])
 |[],[],_=>⟨⟨hk,hx,rfl⟩,trivial⟩
 |_::_,_::_,⟨h1,h2⟩=>⟨h1,fL.snoc hk hx h2⟩
 |[],_::_,h=>h.elim
 |_::_,[],h=>h.elim
theorem GV(pre post:List MapEntry)(e:MapEntry)(f:MapEntry->MapEntry):(pre++e::post).modify pre.length f=pre++f e::post:=by
 induction pre with
 |nil=>simp
 |cons a pre ih=>simpa using ih
theorem km(h:HR ρ s w)(ht:TR ρ t tm){ty:TypeId}{m k x:Operand}{nx:Nx}(e:fk P s ty (eval t m) (eval t k) (eval t x)=some nx) :
 FO P ρ w nx ((do Instr.mapUpdate ty (rv tm m) (rv tm k) (rv tm x);pure Next.skip:Sem Next).run P w):=by
 unfold fk at e
 split at e
 ·rename_i r hm
  split at e
  ·rename_i k' hk
   split at e
   ·rename_i x' hx
    have dm:=aB ht hm
    have dk:=aB ht hk
    have dx:=aB ht hx
    generalize rv tm m=M at *
    generalize rv tm k=K at *
    generalize rv tm x=X at *
    split at e
    ·rename_i kt el hu
     split at e
     ·rename_i es clock hg
      cases hs:ef P kt with
      |false=>rw[hs]at e;cases e
      |true =>
       rw[hs]at e
       simp only[cond_true]at e
       obtain⟨d,hd,_⟩:=jO hs
       obtain⟨l,hl,rfl⟩:=Cn dm
       obtain⟨l',rs,g1,g2,g3⟩:=h.blk _ _ hg
       rw[hl]at g1;cases g1
       unfold uR at e
       split at e
       ·rename_i es' hf
        cases e
        obtain⟨pre,e,post,q1,q2,q3,q4⟩:=Ik dk dx g3 hf
        have A:=oU h hs dk q3
        have hsame:e.key=K:=by
         obtain⟨key,k1,k2⟩:=q3
         exact A.same _ _ k2 k1
        have hfind:(Instr.findKey kt K rs.toList).run P w=.ok (some (pre.length,e.val)) w:=by rw[q1];exact Iy hd A q2 q3
        have hat:rs[pre.length]? = some e:=by rw[<- Array.getElem?_toList,q1];simp
        have hst:=Kf (P:=P) (w:=w) K e.key hsame A.bits
        have hmod:(rs.modify pre.length fun e=>{ e with key:=K,val:=X }).toList=pre++{ e with key:=K,val:=X }::post:=by
         rw[Array.toList_modify,q1,GV]
        have hrun:(Instr.mapUpdate ty (.map (some l.b)) K X).run P w=.ok () { w with heap:=w.heap.setIfInBounds l.b (.map (rs.modify pre.length fun e=>{ e with key:=K,val:=X }) clock) }:=by
         simp only[Instr.mapUpdate,Sem.run_bind,ax hu,Result.andThen_ok,lH g2,iP hs,hfind,hat,Option.map_some,Option.getD_some,hst,wn g2]
        obtain⟨j1,j2⟩:=h.turn hl hg (fun _ h=>by cases h) (vF w l.b _) (.map es' clock) ⟨l,_,hl,DO g2 _,by rw[hmod];exact q4⟩
        exact⟨ρ,_,by simp only[Sem.run_bind,hrun,Result.andThen_ok,Sem.run_pure],j1,j2⟩
       ·rename_i hf
        cases e
        have hmiss:=DC g3 hf
        have hfind:(Instr.findKey kt K rs.toList).run P w=.ok none w:=DR hd (fun hne=>by
         cases hr:rs.toList with
         |nil=>exact absurd hr hne
         |cons e r=>exact oU h hs dk (hmiss e (by rw[hr];simp))) hmiss
        have hrun:(Instr.mapUpdate ty (.map (some l.b)) K X).run P w=.ok () { w with heap:=w.heap.setIfInBounds l.b (.map (rs.push { key:=K,val:=X,born:=clock }) (clock+1)) }:=by
         simp only[Instr.mapUpdate,Sem.run_bind,ax hu,Result.andThen_ok,lH g2,iP hs,hfind,wn g2]
        obtain⟨j1,j2⟩:=h.turn hl hg (fun _ h=>by cases h) (vF w l.b _) (.map (es++[⟨k',x',clock⟩]) (clock+1)) ⟨l,_,hl,DO g2 _,by rw[Array.toList_push];exact fL.snoc dk dx g3⟩
        exact⟨ρ,_,by simp only[Sem.run_bind,hrun,Result.andThen_ok,Sem.run_pure],j1,j2⟩
       ·cases e
     ·cases e
    ·cases e
   ·cases e
  ·cases e
 ·cases e
end ops
section ops
variable{P:Program}{ρ:aD}{s:S}{w:World}{t:T V}{tm:Array Value}
theorem eH(l:List Nat):(aC l).size=l.length:=by simp[aC,ByteArray.size]
theorem tO(l:List Nat):aQ ρ (l.map oi)=some ((aC l).data.toList.map fun b=>Value.int .u8 b.toNat):=by
 have:(aC l).data.toList=l.map UInt8.ofNat:=by simp[aC]
 rw[this]
 induction l with
 |nil=>rfl
 |cons c l ih =>
  have ih':=ih (by simp[aC])
  refine aV.2 ⟨_,_,rfl,ih',?_⟩
  simp[UInt8.toNat_ofNat']
  rfl
theorem pE:∀ {cs:List V} {l:List Nat},li cs=some l->aQ ρ cs=some ((l.map Int.ofNat).map (Value.int .u8))
 |[],l,h=>by cases h;rfl
 |v::r,l,h=>by
  unfold li at h
  split at h
  ·cases ‹v::r=[]›
  ·rename_i n r' he
   cases he
   cases hb:li r with
   |none=>simp[hb]at h
   |some q =>
    simp[hb]at h
    subst h
    exact aV.2 ⟨_,_,rfl,pE hb,rfl⟩
  ·cases h
theorem DY:∀(l:List Nat) (r:ByteArray),(l.map Int.ofNat).foldl (fun r n=>r.push (UInt8.ofNat n.toNat)) r=⟨r.data++(l.map UInt8.ofNat).toArray⟩
 |[],r=>by simp
 |c::l,r=>by
  simp_all[DY]
theorem iS{el:TypeId}(h:gw P el=true):P.underlying el=some (.int .u8):=by
 grind [gw]
theorem ru{a:Ad}{n:Nat}{l:List V}(h:HR ρ s w)(e:loadCells s a n=some l):∃ lo ys,ρ a.f a.v=some lo/\lo.base<=a.c/\aQ ρ l=some ys/\ys.length=n /\
 (Go.loadCells ⟨lo.b,a.c - lo.base,none⟩ n).run P w=.ok ys.toArray w:=by
 obtain⟨ad,ys,h1,h2,h3,h4⟩:=iG h e
 obtain⟨lo,g1,g2,rfl⟩:=rV h1
 have:=run_loadCells_list (P:=P) (w:=w) _ ys h4
 rw[h3]at this
 exact⟨lo,ys,g1,g2,h2,h3,this⟩
theorem tZ(h:HR ρ s w){src dst:TypeId}{ds:TypeDesc}(hs:P.underlying src=some ds)(hd:P.underlying dst=some .string){x:V}{X:Value}(hx:den ρ x=some X){v:V}{s':S}(e:zW P s ds x=some (v,s')) :
 s'=s/\∃ y,den ρ v=some y/\(convert src dst X).run P w=.ok y w:=by
 unfold zW at e
 split at e
 ·rename_i k n
  cases e;cases hx
  refine⟨rfl,.string (Utf8.encode n),?_,?_⟩
  ·simp only[den];rw[uz]
  ·cases ds<;>simp[convert,ax hs,ax hd,Conv.intToString]
 ·cases e;cases hx
  refine⟨rfl,_,rfl,?_⟩
  cases ds<;>simp[convert,ax hs,ax hd]
 ·split at e
  ·rename_i el
   cases hb:gw P el with
   |false=>rw[hb]at e;cases e
   |true =>
    rw[hb]at e
    cases e;cases hx
    refine⟨rfl,.string .empty,rfl,?_⟩
    simp[convert,ax hs,ax hd,ax (iS hb),Conv.bytesToString]
  ·cases e
 ·rename_i a z n cap sz
  split at e
  ·rename_i el
   cases hb:gw P el with
   |false=>rw[hb]at e;cases e
   |true =>
    rw[hb]at e
    simp only[cond_true]at e
    cases hz0:Nat.beq sz 0 with
    |true=>rw[hz0]at e;cases e
    |false =>
    rw[hz0]at e
    simp only[cond_false]at e
    split at e
    ·rename_i l hl
     cases e
     obtain⟨lo,g1,g2,g3,g4,g5,rfl⟩:=gT hx (.inl (Nh hz0))
     cases hlc:loadCells s a n with
     |none=>simp[hlc]at hl
     |some cs =>
      simp only[hlc,Option.bind_some]at hl
      obtain⟨lo',ys,k1,k2,k3,k4,k5⟩:=ru (P:=P) h hlc
      rw[g1]at k1;cases k1
      have hys:=pE (ρ:=ρ) hl
      rw[k3]at hys;cases hys
      have hload:(Go.loadCells ⟨lo.b,bj lo a z cap sz - lo.base,none⟩ n).run P w=.ok ((l.map Int.ofNat).map (Value.int .u8)).toArray w:=by
       rcases Nat.eq_zero_or_pos n with h0|h0
       ·subst h0
        have:l=[]:=by simpa using k4
        subst this
        exact run_loadCells_list (P:=P) (w:=w) _ [] (fun j v h=>by simp at h)
       grind [fy]
      refine⟨rfl,.string (aC l),rfl,?_⟩
      rw[run_convert_bytes_string w src dst el _ _ _ hs (iS hb) hd,run_bytesToString w _ _ _ _ hload,DY]
      congr 2
      apply ByteArray.ext
      simp[aC]
    ·cases e
  ·cases e
 ·cases e
theorem zh(h:HR ρ s w){src dst el:TypeId}{ds:TypeDesc}(hs:P.underlying src=some ds)(hd:P.underlying dst=some (.slice el)){x:V}{X:Value}(hx:den ρ x=some X){v:V}{s':S}(e:oA P s ds el x=some (v,s')) :
 ∃ ρ' y w',(convert src dst X).run P w=.ok y w'/\den ρ' v=some y/\HR ρ' s' w'/\FR ρ w ρ' w':=by
 unfold oA at e
 split at e
 ·rename_i l
  split at e
  ·cases hb:gw P el with
   |false=>rw[hb]at e;cases e
   |true =>
    rw[hb]at e
    simp only[cond_true]at e
    simp only[aY]at e
    cases e;cases hx
    have hrun:=run_bytes_of_string w src dst el (aC l) hs hd (iS hb)
    rw[eH]at hrun
    have hge:=grownCap_ge w l.length 0 el
    generalize hc:grownCap w l.length 0 el=cap at *
    have hsz:(bytesRow (aC l) cap).size=cap:=by
     simp only[bytesRow,Array.size_append,Array.size_map,Array.size_replicate,eH]
     simp_all[eH]
    rw[hsz]at hrun
    have hd':aQ ρ (l.map oi)=some ((bytesRow (aC l) cap).toList.take (l.map oi).length):=by
     rw[tO]
     have:(aC l).data.toList.length=l.length:=by simp[aC]
     simp[bytesRow,this]
    obtain⟨ρ',h1,h2,h3⟩:=gu (h.drawn (w.drawn+1)) true el el (cs:=l.map oi) (ys:=bytesRow (aC l) cap) hd' (cap,cap+1) ⟨(fun h=>by cases h),fun i hi=>by rw[hsz]at hi;simp;omega⟩
    refine⟨ρ',_,_,hrun,?_,h2,(FR.drawn w (w.drawn+1)).trans h3⟩
    have:=dD (a:=⟨s.next,0,0⟩) (z:=0) (len:=l.length) (cap:=none) (sz:=1) h1 (by simp) (Nat.zero_le _) (by show l.length<=(Array.size _ - 0) / 1;rw[hsz];simpa using hge) Nat.one_pos
    rw[this]
    simp only[bS,bj,hsz]
    simp
  ·cases e
 ·cases e
theorem CQ(h:HR ρ s w)(ht:TR ρ t tm){src dst:TypeId}{x:Operand}{nx:Nx}(e:gE P s src dst (eval t x)=some nx) :
 FO P ρ w nx ((do pure (Next.value (<- convert src dst (rv tm x))):Sem Next).run P w):=by
 unfold gE at e
 split at e
 ·rename_i v hv
  have dv:=aB ht hv
  generalize rv tm x=X at *
  unfold iE at e
  split at e
  ·rename_i y s' hc
   cases e
   unfold jB at hc
   split at hc
   ·rename_i ds hs
    split at hc
    ·rename_i k hd
     split at hc
     ·rename_i j n
      cases hc;cases dv
      refine⟨ρ,.int k (k.wrap n),w,?_,by rw[bO];rfl,h,FR.refl ρ w⟩
      have:(convert src dst (.int j n)).run P w=.ok (.int k (k.wrap n)) w:=by
       cases ds<;>simp[convert,ax hs,ax hd,Conv.intToInt]
      simp[this]
     ·cases hc
    ·rename_i hd
     obtain⟨rfl,y',h1,h2⟩:=tZ h hs hd dv hc
     exact⟨ρ,y',w,by simp[h2],h1,h,FR.refl ρ w⟩
    ·rename_i el hd
     obtain⟨ρ',y',w',h1,h2,h3,h4⟩:=zh h hs hd dv hc
     exact⟨ρ',y',w',by simp[h1],h2,h3,h4⟩
    ·cases hc
   ·cases hc
  ·cases e
 ·cases e
end ops
section ops
variable{P:Program}{ρ:aD}{s:S}{w:World}{t:T V}{tm:Array Value}
theorem GO{t:TypeId}(h:Eg P t=true):∃ d,P.underlying t=some d/\∀ k,d≠.int k:=by
 grind [Eg]
theorem iA{ts:Array TypeId}{ty sT xT elem:TypeId}{d:TypeDesc}{n sz sLen sCap:Nat}{base:Option Addr}{Y:Value}(h0:ts[0]? = some sT)(h1:ts[1]? = some xT)
 (hs:P.underlying sT=some (.slice elem)) (hx:P.underlying xT=some d) (hd:∀ k,d≠.int k) (hz:size P elem=some sz) (hl:(Builtin.lenOf Y).run P w=.ok n w)
 (hroom:sLen+n<=sCap) {news:Array Value} (hf:(Builtin.firstCells sz n Y).run P w=.ok news w) :
 (Builtin.append_ ts ty #[.slice base sLen sCap,Y]).run P w=(match base with
  |some a=>((Go.storeCells (a.add (sLen*sz)) news.toList).run P w).andThen fun _ w=>.ok (.slice base (sLen+n) sCap) w
  |none=>.ok (.slice base (sLen+n) sCap) w):=by
 have hm:(match(generalizing:=false) d with|.int _=>true|_=>false)=false:=by cases d<;>first|rfl|exact absurd rfl (hd _)
 cases base<;>simp[Builtin.append_,h0,h1,ax hs,ce hz,ax hx,hl,hroom,hf,hm]
theorem next_le(need old:Nat)(h:old<need):Builtin.nextslicecap need old<=2*need+1000:=by
 have g:∀(r c:Nat),c<=2*need+500->Builtin.growBy need r c<=2*need+1000:=by
  intro r
  induction r with
  |zero=>intro c hc;simp[Builtin.growBy];omega
  |succ r ih =>
   intro c hc
   simp only[Builtin.growBy]
   grind
 unfold Builtin.nextslicecap
 grind
theorem Kh{elem:TypeId}{m:Nat}(h:aJ P elem m=true){i:TypeInfo}(hi:P.info? elem=some i):i.bytes*(m+m / 4+600)<=281474976710656/\m<=4611686018427387904:=by
 unfold aJ at h
 rw[hi]at h
 simp only[Bool.and_eq_true]at h
 exact⟨Nat.le_of_ble_eq_true h.1,Nat.le_of_ble_eq_true h.2⟩
theorem Nn(need old:Nat)(h:old<need):Builtin.nextslicecap need old<=need+need / 4+600:=by
 have g:∀(r c:Nat),c<=need+need / 4+500->Builtin.growBy need r c<=need+need / 4+600:=by
  intro r
  induction r with
  |zero=>intro c hc;simp[Builtin.growBy];omega
  |succ r ih =>
   intro c hc
   simp only[Builtin.growBy]
   grind
 unfold Builtin.nextslicecap
 grind
theorem kD{ts:Array TypeId}{ty sT xT elem:TypeId}{d:TypeDesc}{n sz sLen sCap:Nat}{base:Option Addr}{Y:Value}(h0:ts[0]? = some sT)(h1:ts[1]? = some xT)
 (hs:P.underlying sT=some (.slice elem)) (hx:P.underlying xT=some d) (hd:∀ k,d≠.int k) (hz:size P elem=some sz) {i:TypeInfo} (hi:P.info? elem=some i) {z:Value} (hzi:i.zero=some z)
 (hl:(Builtin.lenOf Y).run P w=.ok n w) (hroom:sCap<sLen+n) (hr:aJ P elem (sLen+n)=true) {olds news:Array Value}
 (ho:(Builtin.firstCells sz sLen (.slice base sLen sCap)).run P w.drew=.ok olds w.drew) (hf:(Builtin.firstCells sz n Y).run P w.drew=.ok news w.drew) :
 (Builtin.append_ ts ty #[.slice base sLen sCap,Y]).run P w=.ok (.slice (some ⟨w.heap.size,0,none⟩) (sLen+n) (grownCap w (sLen+n) sCap elem))
  (w.drew.alloc (.cells (olds++news++Builtin.zeroCells z.cells (grownCap w (sLen+n) sCap elem - (sLen+n))) elem)):=by
 have hno:¬(sLen+n<=sCap):=by omega
 obtain⟨hb,hn⟩:=Kh hr hi
 have h63:¬(9223372036854775807<((sLen:Int)+(n:Int))):=by omega
 have h48:¬(281474976710656<Builtin.nextslicecap (sLen+n) sCap*i.bytes):=by
  have h1:=Nn (sLen+n) sCap hroom
  have h3:=Nat.mul_le_mul_left i.bytes h1
  grind
 have hti:∀ w,(typeInfo elem).run P w=.ok i w:=fun w=>by simp[typeInfo,hi]
 have hzr:∀ w,(zeroValue elem).run P w=.ok z w:=fun w=>fJ hi hzi w
 have hm:(match(generalizing:=false) d with|.int _=>true|_=>false)=false:=by cases d<;>first|rfl|exact absurd rfl (hd _)
 simp[Builtin.append_,h0,h1,ax hs,ce hz,ax hx,hl,hno,hti,hzr,h63,h48,Question.forced,ho,hf,newRow,grownCap,hm]
theorem HB{b:Ad}{z sz:Nat}{cap:Option Nat}{Y:Value}(h:den ρ (.slice b z 0 cap sz)=some Y):∃ q c,Y=.slice (some q) 0 c:=by
 grind [den,gL]
theorem fp(h:HR ρ s w){sz n:Nat}{y:V}{Y:Value}{l:List V}(hy:den ρ y=some Y)(e:iz s sz y=some (l,n)) :
 ∃ ys,aQ ρ l=some ys/\ys.length=n*sz/\(Builtin.lenOf Y).run P w=.ok n w/\(Builtin.firstCells sz n Y).run P w=.ok ys.toArray w:=by
 unfold iz at e
 split at e
 ·cases e;cases hy
  exact⟨[],rfl,by simp,rfl,rfl⟩
 ·rename_i b z m cap sz'
  cases hm0:Nat.beq m 0 with
  |true =>
   rw[hm0]at e
   cases e
   obtain rfl:=Nat.eq_of_beq_eq_true hm0
   obtain⟨q,c,rfl⟩:=HB hy
   have:=run_loadCells_list (P:=P) (w:=w) q [] (fun j v h=>by simp at h)
   exact⟨[],rfl,by simp,rfl,by simp only[Builtin.firstCells,Nat.zero_mul];exact this⟩
  |false =>
  rw[hm0]at e
  simp only[cond_false]at e
  cases hz0:Nat.beq sz' 0 with
  |true=>rw[hz0]at e;cases e
  |false =>
  rw[hz0]at e
  simp only[cond_false]at e
  cases hb:Nat.beq sz sz' with
  |false=>rw[hb]at e;cases e
  |true =>
   rw[hb]at e
   obtain rfl:=Nat.eq_of_beq_eq_true hb
   simp only[cond_true]at e
   split at e
   ·rename_i l' hl
    cases e
    obtain⟨lo,g1,g2,g3,g4,g5,rfl⟩:=gT hy (.inl (Nh hz0))
    obtain⟨lo',ys,k1,k2,k3,k4,k5⟩:=ru (P:=P) h hl
    rw[g1]at k1;cases k1
    refine⟨ys,k3,k4,rfl,?_⟩
    rcases Nat.eq_zero_or_pos n with h0|h0
    ·subst h0
     have:ys=[]:=by simpa using k4
     subst this
     have:=run_loadCells_list (P:=P) (w:=w) ⟨lo.b,bj lo b z cap sz - lo.base,none⟩ [] (fun j v h=>by simp at h)
     simp only[Builtin.firstCells,Nat.zero_mul]
     exact this
    ·rw[fy g4 h0];exact k5
   ·cases e
 ·rename_i l'
  cases hb:Nat.beq sz 1 with
  |false=>rw[hb]at e;cases e
  |true =>
   rw[hb]at e
   obtain rfl:=Nat.eq_of_beq_eq_true hb
   cases e;cases hy
   refine⟨_,tO l',by simp[aC],by simp[Builtin.lenOf,eH],?_⟩
   have:(aC l').extract 0 l'.length=aC l':=by rw[pt];simp
   have e2:Array.map (fun b=>Value.int IntKind.u8 (b.toNat:Int)) (aC l').data=((aC l').data.toList.map fun b=>Value.int .u8 (b.toNat:Int)).toArray:=by simp[<- Array.toList_inj]
   simp only[Builtin.firstCells,this,Sem.run_pure,e2]
 ·cases e
end ops
section ops
variable{P:Program}{ρ:aD}{s:S}{w:World}{t:T V}{tm:Array Value}
theorem HR.grow{w':World}(h:HR ρ s w){f nv v0:Nat}{l l0:zg}(h0:ρ f v0=some l0)(hnv:ρ f nv=none)
 (hin:∀ g v x,ρ g v=some x->x.b=l.b->g=f/\x.base=l.base) (hlow:l.b<w'.heap.size) (hsize:w.heap.size<=w'.heap.size)
 (hos:w'.os=w.os) (htape:w'.tape=w.tape) (hout:w'.output=w.output)
 (hoth:∀ k,k<w.heap.size->k≠l.b->w'.heap[k]? = w.heap[k]?) (hnew:l.b<w.heap.size->∃ g v x,ρ g v=some x/\x.b=l.b/\¬ x.ro) (hnl:¬ l.ro) (hrw:∀ v l,ρ f v=some l->¬ l.ro)
 {B:dS} (hB:zd (ρ.put f nv l) w' f B):HR (ρ.put f nv l) (s.put f B) w'/\FR ρ w (ρ.put f nv l) w':=by
 have hf:f<s.next:=Nat.lt_of_not_le fun hc=>by have:=h.fresh f v0 hc;rw[h0]at this;cases this
 refine⟨⟨?_,?_,?_,?_,?_,?_⟩,⟨aD.le_put _ hnv,hsize,hos,htape,hout,?_,?_⟩⟩
 ·intro g v hg
  rw[S.next_put]at hg
  unfold aD.put
  rw[if_neg (by omega)]
  exact h.fresh g v hg
 ·intro g v x g' v' x' e e' hb
  rcases aD.of_put e with⟨rfl,rfl,rfl⟩|d
  ·rcases aD.of_put e' with⟨rfl,rfl,rfl⟩|d'
   ·exact⟨rfl,rfl⟩
   ·obtain⟨q1,q2⟩:=hin _ _ _ d' hb.symm
    exact⟨q1.symm,q2.symm⟩
  ·rcases aD.of_put e' with⟨rfl,rfl,rfl⟩|d'
   ·exact hin _ _ _ d hb
   ·exact h.inj _ _ _ _ _ _ d d' hb
 ·intro g v x e
  rcases aD.of_put e with⟨rfl,rfl,rfl⟩|e
  ·exact hlow
  ·exact Nat.lt_of_lt_of_le (h.low _ _ _ e) hsize
 ·intro g B' hg
  rw[S.get_put]at hg
  split at hg
  ·rename_i e;cases hg;subst e;exact hB
  ·rename_i hne
   refine(h.blk g B' hg).keep (aD.le_put _ hnv) (fun v hv=>?_) (fun v x hx=>hoth _ (h.low _ _ _ hx) fun e=>hne (hin _ _ _ hx e).1.symm)
   unfold aD.put;rw[if_neg (by omega)];exact hv
 ·intro g B' hg
  rw[S.get_put]at hg
  rw[S.next_put]
  split at hg
  ·rename_i e;subst e;exact hf
  ·exact h.dom g B' hg
 ·intro g B' hg hnr v x hx
  rw[S.get_put]at hg
  rcases aD.of_put hx with⟨rfl,rfl,rfl⟩|hx
  ·exact hnl
  ·split at hg
   ·rename_i e;subst e;exact hrw v x hx
   ·exact h.rw g B' hg hnr v x hx
 ·intro b hb hn
  refine hoth b hb fun e=>?_
  subst e
  obtain⟨g,v,x,q1,q2,q3⟩:=hnew hb
  exact hn g v x q1 q3 q2
 ·intro g v x e hl
  rcases aD.of_put e with⟨rfl,rfl,rfl⟩|e
  ·obtain⟨g,v,y,q1,q2,q3⟩:=hnew hl
   exact⟨g,v,y,q1,q2,fun q=>absurd q q3⟩
  ·exact⟨g,v,x,e,rfl,id⟩
theorem FR.drew(ρ:aD)(w:World):FR ρ w ρ w.drew:=FR.drawn w _
theorem HR.drew(h:HR ρ s w):HR ρ s w.drew:=h.drawn _
theorem kH(h:HR ρ s w){elem:TypeId}{cs:List V}{ys:List Value}(hd:aQ ρ cs=some ys){len sz cap:Nat}(hl:len<=cap)(hsz:0<sz)(hlen:ys.length=len*sz){rest:Array Value}(hr:rest.size=(cap - len)*sz)
 {v:V} {s':S} (e:kj s elem cs len sz=(v,s')) :
 ∃ ρ',den ρ' v=some (.slice (some ⟨w.heap.size,0,none⟩) len cap)/\HR ρ' s' (w.alloc (.cells (ys.toArray++rest) elem))/\FR ρ w ρ' (w.alloc (.cells (ys.toArray++rest) elem)):=by
 simp only[kj,ba]at e
 have hsize:(ys.toArray++rest).size=cap*sz:=by
  rw[Array.size_append,hr]
  have:ys.toArray.size=len*sz:=by simpa using hlen
  rw[this,<- Nat.add_mul];congr 1;omega
 have hlc:=bB hd
 obtain⟨ρ',h1,h2,h3⟩:=gu h false elem elem (cs:=cs) (ys:=ys.toArray++rest) (by
  rw[hd];congr 1
  simp[<- hlc]) (0,0) ⟨fun _=>rfl,by simp⟩
 simp only[aY]at e h2
 cases e
 refine⟨ρ',?_,h2,h3⟩
 rw[hsize]at h1
 have hq:cap*sz / sz=cap:=Nat.mul_div_cancel _ hsz
 rw[dD (a:=⟨s.next,0,0⟩) (z:=0) (cap:=none) h1 (by simp[bj]) (Nat.zero_le _) (by show len<=(cap*sz - 0) / sz;rw[Nat.sub_zero,hq];exact hl) hsz]
 simp only[bS,bj]
 simp[Nat.sub_zero,hq]
theorem gd(z:Array Value)(n:Nat):(Builtin.zeroCells z n).size=n*z.size:=by simp[Builtin.zeroCells]
theorem vX{a:Ad}{e:TypeId}{sb:Bool}{nv:Nat}{vers:List mK}{u:mK}{n:Nat}{old:List V}(hg:s.get a.f=some (.cells e sb nv vers))(hu:bu vers a.v=some u)(hb:Nat.ble u.lo a.c=true)
 (ho:aU n (u.cells.drop (a.c - u.lo))=some old):loadCells s a n=some old:=by
 unfold loadCells
 rw[hg]
 simp only[hu,hb,cond_true,ho]
theorem nT{elem:TypeId}{sz:Nat}(h:tJ P elem sz=true):∃ z i,P.info? elem=some i/\i.zero=some z/\z.cells.size=sz/\0<sz/\i.bytes*10000000<=100000000000000:=by
 unfold tJ at h
 split at h
 ·rename_i zv hz
  simp only[Bool.and_eq_true]at h
  obtain⟨z,i,hi,hzi,hd⟩:=eV hz
  refine⟨z,i,hi,hzi,?_,ez h.1.2,?_⟩
  ·rw[mj (hd fun _ _=>none)];exact Nat.eq_of_beq_eq_true h.1.1
  simp_all[iD]
 ·cases h
theorem EB(h:HR ρ s w){ts:Array TypeId}{ty sT xT elem:TypeId}{d:TypeDesc}{n sz len z:Nat}{a:Ad}{cap:Option Nat}{y:V}{Xv Yv:Value}{l:List V}(h0:ts[0]? = some sT)(h1:ts[1]? = some xT)
 (hs:P.underlying sT=some (.slice elem)) (hx:P.underlying xT=some d) (hd:∀ k,d≠.int k) (hz:size P elem=some sz) (hok:tJ P elem sz=true)
 (hX:den ρ (.slice a z len cap sz)=some Xv) (hY:den ρ y=some Yv) (ha:iz s sz y=some (l,n)) (hrm:aJ P elem (len+n)=true) (hn0:n≠0) {v:V} {s':S} (e:uj s elem a z len cap sz l n=some (v,s')) :
 ∃ ρ' r w',(Builtin.append_ ts ty #[Xv,Yv]).run P w=.ok r w'/\den ρ' v=some r/\HR ρ' s' w'/\FR ρ w ρ' w':=by
 obtain⟨zv,i,hi,hzi,hzs,hsz0,hbytes⟩:=nT hok
 obtain⟨lo,g1,g2,g3,g4,g5,rfl⟩:=gT hX (.inl (by omega))
 obtain⟨ys,y1,y2,y3,y4⟩:=fp (P:=P) h hY ha
 obtain⟨ys',y1',y2',y3',y4'⟩:=fp (P:=P) h.drew hY ha
 rw[y1]at y1';cases y1'
 unfold uj at e
 split at e
 ·rename_i el sb nv vers hg
  split at e
  ·rename_i u hu
   cases hb:Nat.ble u.lo a.c with
   |false=>rw[hb]at e;cases e
   |true =>
   rw[hb]at e
   simp only[cond_true]at e
   split at e
   ·rename_i old ho
    have hload:=vX hg hu hb ho
    obtain⟨lo',os,k1,k2,k3,k4,k5⟩:=ru (P:=P) h hload
    obtain⟨lo'',os',k1',k2',k3',k4',k5'⟩:=ru (P:=P) h.drew hload
    rw[k3]at k3';cases k3'
    rw[g1]at k1 k1';cases k1;cases k1'
    have hcoord:0<len->bj lo a z cap sz=a.c:=fy g4
    have hold:(Builtin.firstCells sz len (.slice (some ⟨lo.b,bj lo a z cap sz - lo.base,none⟩) len (bS lo a cap sz))).run P w.drew=.ok os.toArray w.drew:=by
     rcases Nat.eq_zero_or_pos len with q|q
     ·subst q
      have:os=[]:=by simpa using k4
      subst this
      have:=run_loadCells_list (P:=P) (w:=w.drew) ⟨lo.b,bj lo a z cap sz - lo.base,none⟩ [] (fun j v h=>by simp at h)
      simp only[Builtin.firstCells,Nat.zero_mul]
      exact this
     ·rw[hcoord q];exact k5'
    have hall:=du k3 y1
    have hallLen:(os++ys).length=(len+n)*sz:=by rw[List.length_append,k4,y2,Nat.add_mul]
    have fresh:bS lo a cap sz<len+n->∀ v s',kj s elem (old++l) (len+n) sz=(v,s') ->
     ∃ ρ' r w',(Builtin.append_ ts ty #[.slice (some ⟨lo.b,bj lo a z cap sz - lo.base,none⟩) len (bS lo a cap sz),Yv]).run P w=.ok r w'/\den ρ' v=some r/\HR ρ' s' w'/\FR ρ w ρ' w':=by
     intro hlt v s' e
     have hrun:=kD (ty:=ty) h0 h1 hs hx hd hz hi hzi y3 hlt hrm hold y4'
     obtain⟨ρ',j1,j2,j3⟩:=kH h.drew (elem:=elem) hall (grownCap_ge w (len+n) (bS lo a cap sz) elem) hsz0 hallLen (rest:=Builtin.zeroCells zv.cells (grownCap w (len+n) (bS lo a cap sz) elem - (len+n))) (by rw[gd,hzs]) e
     refine⟨ρ',_,_,hrun,j1,?_,(FR.drew ρ w).trans ?_⟩
     ·simpa using j2
     ·simpa using j3
    split at e
    ·
     rename_i c
     unfold Cx at e
     cases hc:Nat.ble (len+n) c with
     |false =>
      rw[hc]at e
      simp only[cond_false,Option.some.injEq]at e
      refine fresh ?_ _ _ e
      show c<len+n
      exact Nat.lt_of_not_le fun q=>by rw[Nat.ble_eq_true_of_le q]at hc;cases hc
     |true =>
      rw[hc]at e
      simp only[cond_true]at e
      have hle:=Nat.le_of_ble_eq_true hc
      split at e
      ·rename_i s1 hst
       cases e
       obtain⟨ad,w',q1,q2,q3,q4⟩:=kL P h hst y1
       have hrun:=iA (ty:=ty) (w:=w) (base:=some ⟨lo.b,a.c - lo.base,none⟩) h0 h1 hs hx hd hz y3 hle y4
       have had:ad=(⟨lo.b,a.c - lo.base,none⟩:Addr).add (len*sz):=by
        grind [rW,vE]
       simp only[<- had,q2,Result.andThen_ok]at hrun
       refine⟨ρ,_,w',hrun,?_,q3,q4⟩
       exact dD g1 g3 g3 hle g5
      ·cases e
    ·
     cases ha1:l.all V.one with
     |false=>rw[ha1]at e;cases e
     |true =>
     rw[ha1]at e
     simp only[cond_true,Option.some.injEq]at e
     unfold rI at e
     cases e
     obtain⟨vr,hmem,hv⟩:=h.ver hg hu
     obtain⟨lv,c,el',fz,r1,r2,r3,r4,r5,r6⟩:=vr
     rw[hv,g1]at r1;cases r1
     have hB:=h.blk _ _ hg
     have hnv:ρ a.f nv=none:=hB.1 nv (Nat.le_refl _)
     have hcells:∀(j:Nat) (q:Value),os[j]? = some q->c[a.c - lo.base+j]? = some q:=by
      obtain⟨ad,os2,t1,t2,t3,t4⟩:=iG h hload
      rw[k3]at t2;cases t2
      rw[vE g1 g3]at t1;cases t1
      intro j q hq
      have:=t4 j q hq
      rw[jD]at this
      simpa[World.cell?,r2]using this
     rcases Nat.lt_or_ge (bS lo a none sz) (len+n)with hlt|hge
     ·
      have hrun:=kD (ty:=ty) h0 h1 hs hx hd hz hi hzi y3 hlt hrm hold y4'
      generalize hcap:grownCap w (len+n) (bS lo a none sz) elem=newCap at hrun
      have hcge:len+n<=newCap:=by rw[<- hcap];exact grownCap_ge w _ _ _
      have hsize:(os.toArray++ys.toArray++Builtin.zeroCells zv.cells (newCap - (len+n))).size=newCap*sz:=by
       rw[Array.size_append,gd,hzs,Array.size_append,List.size_toArray,List.size_toArray,<- List.length_append,hallLen,<- Nat.add_mul]
       congr 1;omega
      have hq:newCap*sz / sz=newCap:=Nat.mul_div_cancel _ hsz0
      have hheap:∀ k,k<w.heap.size->(w.drew.alloc (.cells (os.toArray++ys.toArray++Builtin.zeroCells zv.cells (newCap - (len+n))) elem)).heap[k]? = w.heap[k]?:=fun k hk=>im w.drew _ hk
      obtain⟨j1,j2⟩:=h.grow (w':=w.drew.alloc (.cells (os.toArray++ys.toArray++Builtin.zeroCells zv.cells (newCap - (len+n))) elem)) (f:=a.f) (nv:=nv) (l:=⟨w.heap.size,a.c,a.c+newCap*sz⟩) g1 hnv
       (fun g v x hx hb=>by have:=h.low _ _ _ hx;simp only at hb;omega) (by simp) (by simp) rfl rfl rfl
       (fun k hk _=>hheap k hk) (fun hb=>by simp at hb) (by show ¬(a.c+newCap*sz<a.c);omega) (fun v x hx=>h.rw _ _ hg (fun _ h=>by cases h) v x hx)
       (B:=.cells el sb (nv+1) (⟨nv,a.c,old++l⟩::vers.filter fun u=>Nat.ble (u.lo+u.cells.length) (a.c+len*sz))) (by
        refine⟨fun v hv=>?_,fun u' hu'=>?_⟩
        ·unfold aD.put;rw[if_neg (by omega)];exact hB.1 v (by omega)
        ·rcases List.mem_cons.1 hu' with rfl|hu'
         ·refine⟨Nat.lt_succ_self _,⟨w.heap.size,a.c,a.c+newCap*sz⟩,_,elem,(0,0),aD.put_same _ _ _ _,eh w.drew _,Nat.le_refl _,by rw[hsize],⟨fun _=>rfl,by simp⟩,fun i x hxi=>?_⟩
          obtain⟨q,q1,q2⟩:=eu i hall hxi
          refine⟨q,bw (aD.le_put _ hnv) _ _ q1,?_⟩
          have hi2:i<(os++ys).length:=(List.getElem?_eq_some_iff.1 q2).1
          simp only[Nat.sub_self,Nat.zero_add]
          rw[<- Array.getElem?_toList,Array.toList_append,Array.toList_append]
          rw[List.getElem?_append_left (by simpa using hi2)]
          exact q2
         ·have hu2:=(List.mem_filter.1 hu').1
          obtain⟨p1,p2⟩:=hB.2 u' hu2
          exact⟨by omega,(p2.of_heap fun l' hl'=>hheap _ (h.low _ _ _ hl')).mono (aD.le_put _ hnv)⟩)
      refine⟨_,_,_,hrun,?_,j1,j2⟩
      have hcp:bS ⟨w.heap.size,a.c,a.c+newCap*sz⟩ ⟨a.f,nv,a.c⟩ none sz=newCap:=by simp[bS,hq]
      have hco:bj ⟨w.heap.size,a.c,a.c+newCap*sz⟩ ⟨a.f,nv,a.c⟩ z none sz=a.c:=fy (len:=len+n) (by rw[hcp];exact hcge) (by omega)
      rw[dD (a:=⟨a.f,nv,a.c⟩) (z:=z) (len:=len+n) (cap:=none) (l:=⟨w.heap.size,a.c,a.c+newCap*sz⟩) (aD.put_same _ _ _ _) (by rw[hco];exact Nat.le_refl _) (Nat.le_refl _) (by rw[hcp];exact hcge) g5,hco,hcp]
      simp
     ·
      have hroom:=hge
      have hcoord':bj lo a z none sz=a.c:=fy (len:=len+n) hge (by omega)
      have hrun:=iA (ty:=ty) (w:=w) (base:=some ⟨lo.b,a.c - lo.base,none⟩) h0 h1 hs hx hd hz y3 hroom y4
      have hfit:a.c - lo.base+len*sz+0+ys.length<=c.size:=by
       have t1:(len+n)*sz<=(lo.lim - a.c) / sz*sz:=Nat.mul_le_mul_right _ hge
       have t2:=Nat.div_mul_le_self (lo.lim - a.c) sz
       have t3:1*sz<=(len+n)*sz:=Nat.mul_le_mul_right _ (by omega)
       grind
      have hone:∀ q∈ys,q.oneCell'=true:=fun q hq=>by
       obtain⟨j,hj⟩:=List.getElem?_of_mem hq
       have hyl:=bB y1
       have hj2:j<l.length:=by have:=(List.getElem?_eq_some_iff.1 hj).1;omega
       obtain⟨q',t1,t2⟩:=eu j y1 (List.getElem?_eq_getElem hj2)
       grind [wF]
      obtain⟨w',c',p1,p2,p3,p4,p5⟩:=Aa P lo.b (a.c - lo.base+len*sz) el' fz ys 0 c w r2 r5.2 hfit hone
      simp only[jD,p1,Result.andThen_ok]at hrun
      rw[<- hcoord']at hrun
      have hin:∀ g v x,ρ g v=some x->x.b=lo.b->g=a.f/\x.base=lo.base:=fun g v x hx hb=>h.inj _ _ _ _ _ _ hx g1 hb
      obtain⟨j1,j2⟩:=h.grow (w':=w') (f:=a.f) (nv:=nv) (l:=lo) g1 hnv hin (by rw[p2.size];exact h.low _ _ _ g1) (by rw[p2.size];exact Nat.le_refl _) p2.os p2.tape p2.output
       (fun k _ hk=>p2.other k hk) (fun _=>⟨_,_,_,g1,rfl,h.rw _ _ hg (fun _ h=>by cases h) _ _ g1⟩) (h.rw _ _ hg (fun _ h=>by cases h) _ _ g1) (fun v x hx=>h.rw _ _ hg (fun _ h=>by cases h) v x hx)
       (B:=.cells el sb (nv+1) (⟨nv,a.c,old++l⟩::vers.filter fun u=>Nat.ble (u.lo+u.cells.length) (a.c+len*sz))) (by
        refine⟨fun v hv=>?_,fun u' hu'=>?_⟩
        ·unfold aD.put;rw[if_neg (by omega)];exact hB.1 v (by omega)
        ·rcases List.mem_cons.1 hu' with rfl|hu'
         ·refine⟨Nat.lt_succ_self _,lo,c',el',fz,aD.put_same _ _ _ _,p3,g3,by rw[p4];exact r4,by rw[p4];exact r5,fun i x hxi=>?_⟩
          obtain⟨q,q1,q2⟩:=eu i hall hxi
          refine⟨q,bw (aD.le_put _ hnv) _ _ q1,?_⟩
          rw[p5]
          have hi2:i<(os++ys).length:=(List.getElem?_eq_some_iff.1 q2).1
          rw[List.length_append,k4]at hi2
          simp only
          by_cases hi3:i<len*sz
          ·rw[if_neg (by omega)]
           rw[List.getElem?_append_left (by omega)]at q2
           exact hcells i q q2
          ·rw[if_pos (by omega)]
           rw[List.getElem?_append_right (by omega),k4]at q2
           rw[<- q2];congr 1;omega
         ·have hu2:=(List.mem_filter.1 hu').1
          have hu3:=Nat.le_of_ble_eq_true (List.mem_filter.1 hu').2
          obtain⟨s1,l',c2,e2,f2,t1,t2,t3,t4,t5,t6⟩:=hB.2 u' hu2
          refine⟨by omega,?_⟩
          by_cases hbl:l'.b=lo.b
          ·obtain⟨_,hbase⟩:=hin _ _ _ t1 hbl
           rw[hbl,r2]at t2;cases t2
           refine⟨l',c',el',fz,aD.le_put _ hnv _ _ _ t1,by rw[hbl];exact p3,t3,by rw[p4];exact t4,by rw[p4];exact t5,fun i x hxi=>?_⟩
           obtain⟨q,q1,q2⟩:=t6 i x hxi
           refine⟨q,bw (aD.le_put _ hnv) _ _ q1,?_⟩
           have hi2:i<u'.cells.length:=(List.getElem?_eq_some_iff.1 hxi).1
           rw[p5,if_neg (by omega)]
           exact q2
          ·exact⟨l',c2,e2,f2,aD.le_put _ hnv _ _ _ t1,by rw[p2.other _ hbl];exact t2,t3,t4,t5,fun i x hxi=>by
            obtain⟨q,q1,q2⟩:=t6 i x hxi
            exact⟨q,bw (aD.le_put _ hnv) _ _ q1,q2⟩⟩)
      refine⟨_,_,w',hrun,?_,j1,j2⟩
      have hcp:bS lo ⟨a.f,nv,a.c⟩ none sz=bS lo a none sz:=rfl
      have hco:bj lo ⟨a.f,nv,a.c⟩ z none sz=bj lo a z none sz:=rfl
      rw[dD (a:=⟨a.f,nv,a.c⟩) (z:=z) (len:=len+n) (cap:=none) (l:=lo) (aD.put_same _ _ _ _) (by rw[hco];exact g2) g3 (by rw[hcp];exact hge) g5,hco,hcp]
   ·cases e
  ·cases e
 ·cases e
theorem zL(h:HR ρ s w){ts:Array TypeId}{ty sT xT:TypeId}{x y:V}{X Y:Value}(h0:ts[0]? = some sT)(h1:ts[1]? = some xT)(hX:den ρ x=some X)(hY:den ρ y=some Y)
 {v:V} {s':S} (e:se P sT xT s x y=some (v,s')) :
 ∃ ρ' r w',(Builtin.append_ ts ty #[X,Y]).run P w=.ok r w'/\den ρ' v=some r/\HR ρ' s' w'/\FR ρ w ρ' w':=by
 unfold se at e
 split at e
 ·rename_i elem hs
  cases hni:Eg P xT with
  |false=>rw[hni]at e;cases e
  |true =>
  rw[hni]at e
  simp only[cond_true]at e
  obtain⟨d,hx,hd⟩:=GO hni
  split at e
  ·rename_i sz hz
   cases hok:tJ P elem sz with
   |false=>rw[hok]at e;cases e
   |true =>
   rw[hok]at e
   simp only[cond_true]at e
   unfold eB at e
   split at e
   ·rename_i l n ha
    cases hn:aJ P elem n with
    |false=>rw[hn]at e;cases e
    |true =>
    rw[hn]at e
    simp only[cond_true]at e
    obtain⟨zv,i,hi,hzi,hzs,hsz0,hbytes⟩:=nT hok
    obtain⟨ys,y1,y2,y3,y4⟩:=fp (P:=P) h hY ha
    split at e
    ·cases hX
     cases hb:Nat.beq n 0 with
     |true =>
      rw[hb]at e
      obtain rfl:=Nat.eq_of_beq_eq_true hb
      cases e
      refine⟨ρ,.slice none 0 0,w,?_,rfl,h,FR.refl ρ w⟩
      exact iA (ty:=ty) (base:=none) (sLen:=0) (sCap:=0) h0 h1 hs hx hd hz y3 (Nat.le_refl _) y4
     |false =>
      rw[hb]at e
      simp only[cond_false,Option.some.injEq]at e
      have hn0:0<n:=Nat.pos_of_ne_zero fun q=>by subst q;simp at hb
      obtain⟨ys',y1',y2',y3',y4'⟩:=fp (P:=P) h.drew hY ha
      rw[y1]at y1';cases y1'
      have hrun:=kD (ty:=ty) (base:=none) (sLen:=0) (sCap:=0) (olds:=#[]) h0 h1 hs hx hd hz hi hzi y3 (by omega) (by rw[Nat.zero_add];exact hn) rfl y4'
      simp only[Nat.zero_add]at hrun
      obtain⟨ρ',j1,j2,j3⟩:=kH h.drew (elem:=elem) y1 (grownCap_ge w n 0 elem) hsz0 y2 (rest:=Builtin.zeroCells zv.cells (grownCap w n 0 elem - n)) (by rw[gd,hzs]) e
      refine⟨ρ',_,_,hrun,j1,?_,(FR.drew ρ w).trans ?_⟩
      ·simpa using j2
      ·simpa using j3
    ·rename_i a z len cap sz'
     cases hnc:(Nat.beq len 0&&gJ cap)with
     |true =>
      rw[hnc]at e
      simp only[cond_true]at e
      simp only[Bool.and_eq_true]at hnc
      obtain rfl:=Nat.eq_of_beq_eq_true hnc.1
      have hcap:cap=some 0:=by
       cases cap with
       |none=>cases hnc.2
       |some c=>rw[Nat.eq_of_beq_eq_true hnc.2]
      subst hcap
      have hX0:∃ q,X=.slice (some q) 0 0:=by
       simp only[den,gL]at hX
       split at hX
       ·grind
       ·split at hX
        ·split at hX
         ·cases hX;exact⟨_,rfl⟩
         ·cases hX
        ·cases hX
      obtain⟨q,rfl⟩:=hX0
      cases hb:Nat.beq n 0 with
      |true =>
       rw[hb]at e
       obtain rfl:=Nat.eq_of_beq_eq_true hb
       cases e
       refine⟨ρ,_,w,?_,hX,h,FR.refl ρ w⟩
       have:=iA (ty:=ty) (w:=w) (base:=some q) (sLen:=0) (sCap:=0) h0 h1 hs hx hd hz y3 (Nat.le_refl _) y4
       have hys:ys=[]:=by simpa using y2
       subst hys
       rw[this]
       simp[Go.storeCells]
      |false =>
       rw[hb]at e
       simp only[cond_false,Option.some.injEq]at e
       have hn0:0<n:=Nat.pos_of_ne_zero fun q=>by subst q;simp at hb
       obtain⟨ys',y1',y2',y3',y4'⟩:=fp (P:=P) h.drew hY ha
       rw[y1]at y1';cases y1'
       have hol:(Builtin.firstCells sz 0 (.slice (some q) 0 0)).run P w.drew=.ok #[] w.drew:=by
        have:=run_loadCells_list (P:=P) (w:=w.drew) q [] (fun j v h=>by simp at h)
        simp only[Builtin.firstCells,Nat.zero_mul];exact this
       have hrun:=kD (ty:=ty) (base:=some q) (sLen:=0) (sCap:=0) (olds:=#[]) h0 h1 hs hx hd hz hi hzi y3 (by omega) (by rw[Nat.zero_add];exact hn) hol y4'
       simp only[Nat.zero_add]at hrun
       obtain⟨ρ',j1,j2,j3⟩:=kH h.drew (elem:=elem) y1 (grownCap_ge w n 0 elem) hsz0 y2 (rest:=Builtin.zeroCells zv.cells (grownCap w n 0 elem - n)) (by rw[gd,hzs]) e
       refine⟨ρ',_,_,hrun,j1,?_,(FR.drew ρ w).trans ?_⟩
       ·simpa using j2
       ·simpa using j3
     |false =>
     rw[hnc]at e
     simp only[cond_false]at e
     cases hb:(Nat.beq sz sz'&&aJ P elem (len+n))with
     |false=>rw[hb]at e;cases e
     |true =>
     rw[hb]at e
     simp only[cond_true]at e
     simp only[Bool.and_eq_true]at hb
     obtain rfl:=Nat.eq_of_beq_eq_true hb.1
     have hlen:=hb.2
     cases hb:Nat.beq n 0 with
     |true =>
      rw[hb]at e
      obtain rfl:=Nat.eq_of_beq_eq_true hb
      cases e
      obtain⟨lo,g1,g2,g3,g4,g5,rfl⟩:=gT hX (.inl (by omega))
      refine⟨ρ,_,w,?_,hX,h,FR.refl ρ w⟩
      have:=iA (ty:=ty) (w:=w) (base:=some ⟨lo.b,bj lo a z cap sz - lo.base,none⟩) (sLen:=len) (sCap:=bS lo a cap sz) h0 h1 hs hx hd hz y3 g4 y4
      have hys:ys=[]:=by simpa using y2
      subst hys
      rw[this]
      simp[Go.storeCells]
     |false =>
      rw[hb]at e
      simp only[cond_false]at e
      exact EB h h0 h1 hs hx hd hz hok hX hY ha hlen (fun q=>by subst q;simp at hb) e
    ·cases e
   ·cases e
  ·cases e
 ·cases e
end ops
section ops
variable{P:Program}{ρ:aD}{s:S}{w:World}{t:T V}{tm:Array Value}
theorem mi{x:V}{ys:List Value}(h:aQ ρ [x]=some ys):∃ X,den ρ x=some X/\ys=[X]:=by
 obtain⟨X,q,h1,h2,rfl⟩:=aV.1 h
 cases h2;exact⟨X,h1,rfl⟩
theorem Jw{x y:V}{ys:List Value}(h:aQ ρ [x,y]=some ys):∃ X Y,den ρ x=some X/\den ρ y=some Y/\ys=[X,Y]:=by
 obtain⟨X,q,h1,h2,rfl⟩:=aV.1 h
 grind [mi]
theorem xg(h:HR ρ s w){ts:Array TypeId}{ty t0:TypeId}{x:V}{X:Value}{v:V}(h0:ts[0]? = some t0)(hx:den ρ x=some X)(e:iH P t0 s x=some v) :
 ∃ y,den ρ v=some y/\(Builtin.len_ ts ty #[X]).run P w=.ok y w:=by
 unfold iH at e
 split at e
 ·rename_i l hu
  cases e;cases hx
  exact⟨_,by rw[bO];rfl,by simp[Builtin.len_,h0,ax hu,eH,goInt]⟩
 ·rename_i n _ _ hu
  cases e
  exact⟨_,rfl,by simp[Builtin.len_,h0,ax hu,goInt]⟩
 ·rename_i el a z n cap sz hu
  cases e
  obtain⟨b',c',rfl,_⟩:=ub hx
  exact⟨_,by rw[bO];rfl,by simp[Builtin.len_,h0,ax hu,goInt]⟩
 ·rename_i el hu
  cases e;cases hx
  exact⟨_,rfl,by simp[Builtin.len_,h0,ax hu,goInt]⟩
 ·rename_i k el hu
  cases e;cases hx
  exact⟨_,rfl,by simp[Builtin.len_,h0,ax hu,goInt]⟩
 ·rename_i k el r hu
  split at e
  ·rename_i es c hg
   cases e
   obtain⟨l,hl,rfl⟩:=Cn hx
   obtain⟨l',rs,g1,g2,g3⟩:=h.blk _ _ hg
   rw[hl]at g1;cases g1
   have:es.length=rs.size:=(fL.length g3).trans (Array.length_toList (xs:=rs))
   exact⟨.int .i64 (rs.size:Nat),by rw[<- this];rfl,by simp[Builtin.len_,h0,ax hu,goInt,lH g2]⟩
  ·cases e
 ·cases e
theorem yC{ts:Array TypeId}{ty t0:TypeId}{x:V}{X:Value}{v:V}(h0:ts[0]? = some t0)(hx:den ρ x=some X)(e:UD P t0 x=some v) :
 ∃ y,den ρ v=some y/\(Builtin.cap_ ts ty #[X]).run P w=.ok y w:=by
 unfold UD at e
 split at e
 ·rename_i el hu
  split at e
  ·cases e;cases hx
   exact⟨_,rfl,by simp[Builtin.cap_,h0,ax hu,goInt]⟩
  ·rename_i a z n c sz
   cases e
   obtain⟨b',c',rfl,hcc⟩:=ub hx
   obtain rfl:=hcc _ rfl
   exact⟨_,by rw[bO];rfl,by simp[Builtin.cap_,h0,ax hu,goInt]⟩
  ·cases e
 ·cases e
theorem ju{f:V->V->Option V}{g:Value->Value->Sem Value}(hfg:∀ x y v X Y,f x y=some v->den ρ x=some X->den ρ y=some Y->∃ z,den ρ v=some z/\(g X Y).run P w=.ok z w) :
 ∀(l:List V) (ys:List Value) (x:V) (X:Value) (v:V),aQ ρ l=some ys->den ρ x=some X->l.foldlM f x=some v->∃ y,den ρ v=some y/\(ys.foldlM g X).run P w=.ok y w
 |[],ys,x,X,v,hl,hx,h=>by
  cases hl
  simp_all
 |a::l,ys,x,X,v,hl,hx,h=>by
  obtain⟨y,q,h1,h2,rfl⟩:=aV.1 hl
  simp only[List.foldlM_cons]at h
  cases hf:f x a with
  |none=>rw[hf]at h;simp at h
  |some u =>
   rw[hf]at h
   simp at h
   obtain⟨z,z1,z2⟩:=hfg _ _ _ _ _ hf hx h1
   obtain⟨y',k1,k2⟩:=ju hfg l q u z v h2 z1 h
   simp_all
theorem wU(x y v:V)(X Y:Value)(h:Kz x y=some v)(hx:den ρ x=some X)(hy:den ρ y=some Y):∃ z,den ρ v=some z/\(Builtin.max2 X Y).run P w=.ok z w:=by
 unfold Kz at h
 split at h
 ·rename_i j a k b
  cases hk:dF j k with
  |false=>rw[hk]at h;cases h
  |true =>
   rw[hk]at h
   simp only[cond_true,Option.some.injEq]at h
   subst h;cases hx;cases hy
   refine⟨_,rfl,?_⟩
   simp only[Builtin.max2,Sem.run_pure]
   grind
 ·cases h
theorem wS(x y v:V)(X Y:Value)(h:Ky x y=some v)(hx:den ρ x=some X)(hy:den ρ y=some Y):∃ z,den ρ v=some z/\(Builtin.min2 X Y).run P w=.ok z w:=by
 unfold Ky at h
 split at h
 ·rename_i j a k b
  cases hk:dF j k with
  |false=>rw[hk]at h;cases h
  |true =>
   rw[hk]at h
   simp only[cond_true,Option.some.injEq]at h
   subst h;cases hx;cases hy
   refine⟨_,rfl,?_⟩
   simp only[Builtin.min2,Sem.run_pure]
   grind
 ·cases h
theorem Fx(h:HR ρ s w){b:Builtin}{ts:Array TypeId}{ty:TypeId}{consts:Array Bool}{args:List V}{ys:List Value}(hd:aQ ρ args=some ys){nx:Nx}(e:iJ P b ts args s=some nx) :
 FO P ρ w nx ((Go.builtin b ts ty consts ys.toArray).run P w):=by
 unfold iJ at e
 split at e
 ·split at e
  ·rename_i t0 h0
   split at e
   ·rename_i t1 h1
    split at e
    ·rename_i x y
     obtain⟨X,Y,hx,hy,rfl⟩:=Jw hd
     unfold iE at e
     split at e
     ·rename_i v s' ha
      cases e
      obtain⟨ρ',r,w',j1,j2,j3,j4⟩:=zL (ty:=ty) h h0 h1 hx hy ha
      exact⟨ρ',r,w',by simp[Go.builtin,j1],j2,j3,j4⟩
     ·cases e
    ·cases e
   ·cases e
  ·cases e
 ·split at e
  ·rename_i t0 h0
   split at e
   ·rename_i x
    obtain⟨X,hx,rfl⟩:=mi hd
    exact(aR h e fun v hv=>xg h h0 hx hv).toR h
   ·cases e
  ·cases e
 ·refine(aR (m:=Builtin.max_ ts ty ys.toArray) h e fun v hv=>?_).toR h
  cases args with
  |nil=>cases hv
  |cons x r =>
   obtain⟨X,q,hx,hr,rfl⟩:=aV.1 hd
   exact ju wU r q x X v hr hx hv
 ·refine(aR (m:=Builtin.min_ ts ty ys.toArray) h e fun v hv=>?_).toR h
  cases args with
  |nil=>cases hv
  |cons x r =>
   obtain⟨X,q,hx,hr,rfl⟩:=aV.1 hd
   exact ju wS r q x X v hr hx hv
 ·cases e;exact⟨rfl,h⟩
 ·split at e
  ·rename_i t0 h0
   split at e
   ·rename_i x
    obtain⟨X,hx,rfl⟩:=mi hd
    exact(aR h e fun v hv=>yC h0 hx hv).toR h
   ·cases e
  ·cases e
 ·split at e
  ·rename_i tt v
   cases e
   obtain⟨X,hx,rfl⟩:=mi hd
   refine⟨X,hx,?_,h⟩
   simp only[den]at hx
   split at hx
   ·cases hx
    simp[Go.builtin,Instr.panic]
   ·cases hx
  ·cases e
 ·cases e
def HY.entry:HY->Array Value->Sem Value
 |.indexByte=>Extern.BytealgIndexByte.indexByte
 |.count=>Extern.BytealgCount.count
structure iB(E:dA):Prop where
 ext:∀ f k fn,E.ext f=some k->E.P.funcs[f]? = some fn->fn.body=none->(fn.name == "runtime.NumGoroutine")=false/\Extern.findNext fn=none/\Extern.find fn=some k.entry
theorem JF(x c:Nat):(UInt8.ofNat x==UInt8.ofNat c)=Nat.beq (Nat.mod x 256) (Nat.mod c 256):=by
 rw[Bool.eq_iff_iff]
 simp only[beq_iff_eq,Nat.beq_eq]
 constructor
 ·intro h
  have:=congrArg UInt8.toNat h
  simp at this;exact this
 ·intro h
  apply UInt8.toNat_inj.1
  simp;exact h
theorem rG(c:Nat):∀(l:List Nat) (i:Nat),(match iq (Nat.mod c 256) l i with|some j=>(Int.ofNat j)|none=>-1)=if Lib.indexByte (l.map UInt8.ofNat) (UInt8.ofNat c)=-1 then -1 else Lib.indexByte (l.map UInt8.ofNat) (UInt8.ofNat c)+i
 |[],i=>rfl
 |x::l,i=>by
  have ih:=rG c l (i+1)
  have hge:=Lib.indexByte_ge (l.map UInt8.ofNat) (UInt8.ofNat c)
  simp only[iq,List.map_cons,Lib.indexByte,JF]
  grind
theorem yx(c:Nat):∀(l:List Nat),countByte (Nat.mod c 256) l=Lib.countByte (l.map UInt8.ofNat) (UInt8.ofNat c)
 |[]=>rfl
 |x::l=>by
  have ih:=yx c l
  simp only[countByte,List.map_cons,Lib.countByte,List.count_cons,JF]at ih ⊢
  grind
theorem zE{k:HY}{args:List V}{ys:List Value}(hd:aQ ρ args=some ys){v:V}(e:CK k args=some v) :
 ∃ y,den ρ v=some y/\(k.entry ys.toArray).run P w=.ok y w:=by
 unfold CK at e
 split at e
 ·rename_i l c
  obtain⟨X,Y,hx,hy,rfl⟩:=Jw hd
  cases hx;cases hy
  have hl:(aC l).data.toList=l.map UInt8.ofNat:=by simp[aC]
  have hc:(Int.ofNat c).toNat.toUInt8=UInt8.ofNat c:=rfl
  split at e
  ·have:=Lib.run_indexByteString (P:=P) (aC l) (Int.ofNat c) w
   have h2:=rG c l 0
   rw[hl,hc]at this
   refine⟨_,?_,this⟩
   simp only[Option.some.injEq]at e
   subst e
   have hge:=Lib.indexByte_ge (l.map UInt8.ofNat) (UInt8.ofNat c)
   generalize Lib.indexByte (l.map UInt8.ofNat) (UInt8.ofNat c)=r at *
   cases hq:iq (Nat.mod c 256) l 0 with
   |none =>
    rw[hq]at h2
    simp only at h2 ⊢
    by_cases hr:r=-1
    ·subst hr;rfl
    ·rw[if_neg hr]at h2;simp at h2;omega
   |some j =>
    rw[hq]at h2
    simp only at h2 ⊢
    by_cases hr:r=-1
    ·rw[if_pos hr]at h2;simp at h2
    ·rw[if_neg hr]at h2;simp at h2;rw[<- h2];rfl
  ·have:=Lib.run_countString (P:=P) (aC l) (Int.ofNat c) w
   rw[hl,hc]at this
   refine⟨_,?_,this⟩
   simp only[Option.some.injEq]at e
   subst e
   rw[bO,yx];rfl
 ·cases e
theorem Fv{E:dA}(hE:iB E)(h:HR ρ s w){f:FuncId}{args:List V}{ys:List Value}(hd:aQ ρ args=some ys){nx:Nx}(e:JD E f args s=some nx) :
 FO E.P ρ w nx ((callFunc f ys.toArray).run E.P w):=by
 unfold JD at e
 split at e
 ·cases e
 ·rename_i fn hf
  split at e
  ·rename_i hb
   split at e
   ·rename_i k hk
    obtain⟨h1,h2,h3⟩:=hE.ext f k fn hk hf hb
    unfold bv at e
    split at e
    ·rename_i v hv
     cases e
     obtain⟨y,y1,y2⟩:=zE (P:=E.P) (w:=w) hd hv
     exact⟨ρ,y,w,by rw[run_callFunc_extern hf h1 (by simp[hb]) h2 h3,y2];rfl,y1,h,FR.refl ρ w⟩
    ·cases e
   ·cases e
  ·cases e
   exact⟨ys,hd,rfl,h⟩
theorem xC{fn:Fn}{first cap:List V}{X:Value}(h:den ρ (.func fn first cap)=some X):∃ g a b,mF ρ fn=some g/\aQ ρ first=some a/\aQ ρ cap=some b/\X=.func g a.toArray b.toArray:=by
 grind [den]
theorem yN(ht:TR ρ t tm){args:Array Operand}{vs:List V}(h:gK t args.toList=some vs):∃ ys,aQ ρ vs=some ys/\args.map (rv tm)=ys.toArray :=
 ⟨_,kl ht h,by simp[<- Array.toList_inj]⟩
theorem Dc{E:dA}(hE:iB E)(h:HR ρ s w)(ht:TR ρ t tm){c:Call}{ty:TypeId}{nx:Nx}(e:hJ E t s c.argTypes (gK t c.args.toList) c.callee=some nx) :
 FO E.P ρ w nx ((do let d <- resolve (rv tm) c ty;invoke d.target d.args:Sem Next).run E.P w):=by
 unfold hJ at e
 split at e
 ·rename_i args ha
  obtain⟨ys,y1,y2⟩:=yN ht ha
  split at e
  ·rename_i b hc
   simp only[resolve,hc,Sem.run_bind,Sem.run_pure,Result.andThen_ok,invoke,y2]
   exact Fx h y1 e
  ·rename_i f hc
   unfold JC at e
   split at e
   ·rename_i fn first cap hf
    obtain⟨g,a,b,g1,g2,g3,g4⟩:=xC (aB ht hf)
    simp only[resolve,hc,g4,Deferred.ofValue,Sem.run_bind,Sem.run_pure,Result.andThen_ok,y2]
    split at e
    ·rename_i g'
     cases g1
     have:=Fv hE h (du g2 (du y1 g3)) e
     simpa[invoke]using this
    ·rename_i l
     simp only[mF]at g1
     split at g1
     ·rename_i lb hlb
      cases g1
      cases e
      exact⟨lb,a++ys,hlb,du g2 y1,by simp[invoke],h⟩
     ·cases g1
    ·cases e
   ·cases e
  ·cases e
 ·cases e
theorem zJ(h:HR ρ s w)(ht:TR ρ t tm){c:Call}{ty:TypeId}{nx:Nx}(e:oR t s (gK t c.args.toList) c.callee=some nx) :
 FO P ρ w nx ((do pure (.defer (<- resolve (rv tm) c ty)):Sem Next).run P w):=by
 unfold oR at e
 split at e
 ·rename_i args ha
  obtain⟨ys,y1,y2⟩:=yN ht ha
  split at e
  ·rename_i f hc
   unfold CU at e
   split at e
   ·rename_i fn first cap hf
    cases e
    obtain⟨g,a,b,g1,g2,g3,g4⟩:=xC (aB ht hf)
    refine⟨_,⟨g,b,a++ys,g1,g3,du g2 y1,rfl⟩,?_,h⟩
    simp[resolve,hc,g4,Deferred.ofValue,y2]
   ·cases e
  ·cases e
 ·cases e
theorem zG(h:HR ρ s w)(ht:TR ρ t tm){x:Operand}{nx:Nx}(e:vC s (eval t x)=some nx) :
 FO P ρ w nx ((do pure (Next.value (<- Instr.panic (rv tm x))):Sem Next).run P w):=by
 unfold vC at e
 split at e
 ·rename_i tt v hx
  cases e
  have hv:=aB ht hx
  refine⟨_,hv,?_,h⟩
  generalize rv tm x=X at *
  simp only[den]at hv
  split at hv
  ·cases hv
   simp[Instr.panic]
  ·cases hv
 ·cases e
theorem rl(h:HR ρ s w)(ht:TR ρ t tm){x:Operand}{nx:Nx}(e:bv s (eval t x)=some nx):yZ P ρ w s nx ((pure (Next.value (rv tm x)):Sem Next).run P w):=by
 unfold bv at e
 split at e
 ·rename_i v hv
  cases e
  exact⟨_,_,rfl,rfl,aB ht hv⟩
 ·cases e
theorem lQ{E:dA}(hE:iB E)(h:HR ρ s w)(ht:TR ρ t tm)(o:Oper){nx:Nx}(e:dg E t s o=some nx):FO E.P ρ w nx ((execOp (rv tm) o).run E.P w):=by
 obtain⟨dst,op,type,pos,after,guard⟩:=o
 unfold dg at e
 simp only at e
 cases op<;>simp only[cy]at e<;>try(cases e;done)
 case move x=>exact(rl h ht e).toR h
 case assign x=>exact(rl h ht e).toR h
 case pick c a b=>exact(rP h ht e).toR h
 case alloc elem=>exact zI h e
 case box elem x=>exact Fd h ht e
 case build ty parts=>exact(pC h ht e).toR h
 case buildSlice ty len parts=>exact qj h ht e
 case load ty x=>exact(rR h ht e).toR h
 case store ty x y=>exact zF h ht e
 case nilCheck x=>exact(kY h ht e).toR h
 case binOp op ty x y z=>exact(uw h ht e).toR h
 case unOp op ty x=>exact(yo h ht e).toR h
 case convert src dst x=>exact CQ h ht e
 case makeInterface ty x=>exact(mD h ht e).toR h
 case makeFunc fn first cap=>exact(nV h ht e).toR h
 case makeMap ty r =>
  cases r with
  |none=>cases e;exact uI h
  |some _=>cases e
 case makeSlice ty l c=>exact uH h ht e
 case slice ty x lo hi mx=>exact(pz h ht e).toR h
 case fieldAddr ty x f=>exact(ku h ht e).toR h
 case field ty x f=>exact(pB h ht e).toR h
 case indexAddr ty x i=>exact(kn h ht e).toR h
 case index ty x i=>exact(pA h ht e).toR h
 case lookup ty x k ok=>exact(nW h ht e).toR h
 case mapUpdate ty m k x=>exact km h ht e
 case insert ty m k x=>exact km h ht e
 case typeAssert x xt ty ok=>exact(nX h ht e).toR h
 case extract x i=>exact(mE h ht e).toR h
 case call c=>exact Dc hE h ht e
 case defer c=>exact zJ h ht e
 case panic x=>exact zG h ht e
end ops
def mr(ρ:aD):List Du->List PanicEntry->Prop
 |[],[]=>True
 |p::ps,e::es=>(den ρ p.v=some e.v/\p.recovered=e.recovered/\e.goexit=false)/\mr ρ ps es
 |_,_=>False
theorem mr.mono{ρ ρ':aD}(h:ρ.le ρ'):∀ {c:List Du} {ch:List PanicEntry},mr ρ c ch->mr ρ' c ch
 |[],[],_=>trivial
 |_::_,_::_,⟨⟨a,b⟩,k⟩=>⟨⟨bw h _ _ a,b⟩,mr.mono h k⟩
 |[],_::_,k=>k.elim
 |_::_,[],k=>k.elim
theorem mr.append{ρ:aD}:∀ {c d:List Du} {ch dh:List PanicEntry},mr ρ c ch->mr ρ d dh->mr ρ (c++d) (ch++dh)
 |[],_,[],_,_,k=>k
 |_::_,_,_::_,_,⟨a,h⟩,k=>⟨a,mr.append h k⟩
 |[],_,_::_,_,h,_=>h.elim
 |_::_,_,[],_,h,_=>h.elim
def OY(ρ:aD):Md->FrameMode->Prop
 |.run,.run=>True
 |.returning,.returning=>True
 |.panicking c,.panicking ch=>mr ρ c ch
 |_,_=>False
theorem OY.mono{ρ ρ':aD}(h:ρ.le ρ'){m:Md}{fm:FrameMode}(k:OY ρ m fm):OY ρ' m fm:=by
 cases m<;>cases fm<;>first|exact k|exact mr.mono h k
theorem LB.mono{ρ ρ':aD}(h:ρ.le ρ'){d:eD}{r:Deferred}(k:LB ρ d r):LB ρ' d r:=by
 cases d with
 |call fn cap args =>
  obtain⟨g,c,a,h1,h2,h3,h4⟩:=k
  exact⟨g,c,a,yt h h1,fx h _ _ h2,fx h _ _ h3,h4⟩
 |collected r =>
  obtain⟨l,h1,h2⟩:=k
  exact⟨l,h _ _ _ h1,h2⟩
def By(ρ:aD):List eD->List Deferred->Prop
 |[],[]=>True
 |d::ds,r::rs=>LB ρ d r/\By ρ ds rs
 |_,_=>False
theorem By.mono{ρ ρ':aD}(h:ρ.le ρ'):∀ {c:List eD} {ch:List Deferred},By ρ c ch->By ρ' c ch
 |[],[],_=>trivial
 |_::_,_::_,⟨a,k⟩=>⟨a.mono h,By.mono h k⟩
 |[],_::_,k=>k.elim
 |_::_,[],k=>k.elim
def Pa(ρ:aD):WK->Ending->Prop
 |.returned v,.returned y=>den ρ v=some y
 |.panicked c,.panicked ch=>mr ρ c ch
 |_,_=>False
def bZ(c:Frame):Ending->Frame
 |.returned v=>c.finish v
 |.panicked ch=>c.raise ch
 |.outgrown=>c
def RdR(ρ:aD)(up:Option Md)(rd ro:Option Nat):Prop:=match rd with
 |none=>ro=none
 |some l=>up=none/\∃ lb:zg,ρ l 0=some lb/\ro=some lb.b
def UpR(ρ:aD)(up:Option Md)(kind:CallKind)(cs:List Frame):Prop:=match up with
 |none=>kind=.normal
 |some u=>kind=.deferred/\∃ c cs',cs=c::cs'/\OY ρ u c.mode
structure jI(P:Program)(ρ:aD)(f:FuncId)(fn:Func)(t:T V)(todo:List Item)(ds:List eD)(m:Md)(up:Option Md)(rd:Option Nat)(fr:Frame)(cs:List Frame):Prop where
 name:fr.fn=f
 func:P.funcs[f]? = some fn
 tr:TR ρ t fr.tmps
 size:fn.ntmps<=fr.tmps.size
 todo:m=.run->fr.todo=todo
 ds:By ρ ds fr.defers
 md:OY ρ m fr.mode
 rd:RdR ρ up rd fr.roundOf
 up:UpR ρ up fr.kind cs
def pF(P:Program)(f:FuncId)(up rd:Bool)(cs:List Frame)(M:Machine)(ρ:aD)(w:World)(out:fc):Prop :=
 ∃ ρ' w',HR ρ' out.s w'/\FR ρ w ρ' w' /\
  match rd,up with
  |true,_=>∀ c cs',cs=c::cs'->∃ e,Pa ρ' out.e e/\Steps P M (lone (bZ c e) cs' w')
  |false,false=>∃ fr' e,Pa ρ' out.e e/\Steps P M (lone fr' cs w')/\fr'.fn=f/\fr'.leaving P w' e
  |false,true=>∀ c cs',cs=c::cs'->∃ fr' e u u',out.up=some u/\OY ρ' u u'/\Pa ρ' out.e e /\
   Steps P M (lone fr' ({ c with mode:=u' }::cs') w')/\fr'.kind=.deferred/\fr'.going P w' e
theorem pF.of_steps{P:Program}{f:FuncId}{up rd:Bool}{cs:List Frame}{M M0:Machine}{ρ ρ1:aD}{w w1:World}{out:fc}(hs:Steps P M0 M)(hf:FR ρ w ρ1 w1)(h:pF P f up rd cs M ρ1 w1 out) :
 pF P f up rd cs M0 ρ w out:=by
 obtain⟨ρ',w',h1,h2,h3⟩:=h
 refine⟨ρ',w',h1,hf.trans h2,?_⟩
 cases rd with
 |true=>intro c cs' hc;obtain⟨e,k1,k2⟩:=h3 c cs' hc;exact⟨e,k1,hs.trans k2⟩
 |false=>cases up with
  |false=>obtain⟨fr',e,k1,k2,k3⟩:=h3;exact⟨fr',e,k1,hs.trans k2,k3⟩
  |true=>intro c cs' hc;obtain⟨fr',e,u,u',k1,k2,k3,k4,k5⟩:=h3 c cs' hc;exact⟨fr',e,u,u',k1,k2,k3,hs.trans k4,k5⟩
theorem pF.of_mode{P:Program}{f:FuncId}{c:Frame}{cs:List Frame}{M:Machine}{ρ:aD}{w:World}{out:fc}{u1:FrameMode}(h:pF P f true false ({ c with mode:=u1 }::cs) M ρ w out) :
 pF P f true false (c::cs) M ρ w out:=by
 obtain⟨ρ',w',h1,h2,h3⟩:=h
 refine⟨ρ',w',h1,h2,fun c1 cs1 hc=>?_⟩
 cases hc
 exact h3 { c with mode:=u1 } cs rfl
def Ds(P:Program)(f:FuncId)(fn:Func)(t:T V)(todo:List Item)(ds:List eD)(m:Md)(up:Option Md)(rd:Option Nat)(s:S)(out:fc):Prop :=
 ∀ ρ w fr cs,HR ρ s w->jI P ρ f fn t todo ds m up rd fr cs->pF P f up.isSome rd.isSome cs (lone fr cs w) ρ w out
def TB:Option Md->CallKind
 |none=>.normal
 |some _=>.deferred
def fI(P:Program)(f:FuncId)(args:List V)(up:Option Md)(s:S)(out:fc):Prop :=
 ∀ ρ w ys,HR ρ s w->aQ ρ args=some ys->(∀ w,(callFunc f ys.toArray).run P w=.ok (.enter f ys.toArray) w) /\
  ∀ cs,(∀ u,up=some u->∃ c cs',cs=c::cs'/\OY ρ u c.mode)->pF P f up.isSome false cs (lone (Frame.enter P f ys.toArray (TB up)) cs w) ρ w out
def OU(P:Program)(l:Nat)(args:List V)(s:S)(out:fc):Prop :=
 ∀ ρ w lb ys,HR ρ s w->ρ l 0=some lb->aQ ρ args=some ys ->
  ∃ f tmps assign body,(Instr.yield lb.b ys.toArray).run P w=.ok (.round lb.b f tmps assign body) w /\
   ∀ cs,pF P f false true cs (lone (Frame.round lb.b f tmps assign body .normal) cs w) ρ w out
def WD(P:Program):sx->S->fc->Prop
 |.frame f fn t todo ds m up rd,s,out=>Ds P f fn t todo ds m up rd s out
 |.call f args up,s,out=>fI P f args up s out
 |.round l args,s,out=>OU P l args s out
def Good(P:Program)(ih:sx->S->Option fc):Prop:=∀ j s out,ih j s=some out->WD P j s out
section steps
variable{P:Program}{fr:Frame}{k:List Item}{cs:List Frame}{w:World}
theorem Ps(hm:fr.mode=.run)(ht:fr.todo=.code .skip::k):step P (lone fr cs w)=.next (lone { fr with todo:=k } cs w):=step_lone_go (by simp[stepG,stepG.exec,hm,ht])
theorem Mq{l:Nat}(hm:fr.mode=.run)(ht:fr.todo=.code (.label l)::k):step P (lone fr cs w)=.next (lone { fr with todo:=k } cs w):=step_lone_go (by simp[stepG,stepG.exec,hm,ht])
theorem Gf{l:Nat}(hm:fr.mode=.run)(ht:fr.todo=.inBlock l::k):step P (lone fr cs w)=.next (lone { fr with todo:=k } cs w):=step_lone_go (by simp[stepG,stepG.exec,hm,ht])
theorem Ge{c:Code}(hm:fr.mode=.run)(ht:fr.todo=.inScope c::k):step P (lone fr cs w)=.next (lone { fr with todo:=k } cs w):=step_lone_go (by simp[stepG,stepG.exec,hm,ht])
theorem Sz{a b:Code}(hm:fr.mode=.run)(ht:fr.todo=.code (.seq a b)::k):step P (lone fr cs w)=.next (lone { fr with todo:=.code a::.code b::k } cs w):=step_lone_go (by simp[stepG,stepG.exec,hm,ht])
theorem Px{c:Operand}{a b:Code}{q:Bool}(hm:fr.mode=.run)(ht:fr.todo=.code (.cond c a b)::k)(hc:rv fr.tmps c=.bool q):step P (lone fr cs w)=.next (lone { fr with todo:=.code (if q then a else b)::k } cs w) :=
 step_lone_go (by
  have he:fr.eval c=.bool q:=by rw[pZ];exact hc
  simp[stepG,stepG.exec,hm,ht,he])
theorem Ms{id:Nat}{c:Code}(hm:fr.mode=.run)(ht:fr.todo=.code (.block id c)::k):step P (lone fr cs w)=.next (lone { fr with todo:=.code c::.inBlock id::k } cs w):=step_lone_go (by simp[stepG,stepG.exec,hm,ht])
theorem Pt{c:Code}(hm:fr.mode=.run)(ht:fr.todo=.code (.loop c)::k):step P (lone fr cs w)=.next (lone { fr with todo:=.code c::.inLoop c::k } cs w):=step_lone_go (by simp[stepG,stepG.exec,hm,ht])
theorem Kd{c:Code}(hm:fr.mode=.run)(ht:fr.todo=.inLoop c::k):step P (lone fr cs w)=.next (lone { fr with todo:=.code c::.inLoop c::k } cs w):=step_lone_go (by simp[stepG,stepG.exec,hm,ht])
theorem Mo{c:Code}(hm:fr.mode=.run)(ht:fr.todo=.code (.scope c)::k):step P (lone fr cs w)=.next (lone { fr with todo:=.code c::.inScope c::k } cs w):=step_lone_go (by simp[stepG,stepG.exec,hm,ht])
theorem Pw{id:Nat}{k':List Item}(hm:fr.mode=.run)(ht:fr.todo=.code (.exit id)::k)(h:exitTo id k=some k'):step P (lone fr cs w)=.next (lone { fr with todo:=k' } cs w):=step_lone_go (by simp[stepG,stepG.exec,hm,ht,h])
theorem Pu{l:Nat}{k':List Item}(hm:fr.mode=.run)(ht:fr.todo=.code (.goto l)::k)(h:gotoIn l k=some k'):step P (lone fr cs w)=.next (lone { fr with todo:=k' } cs w):=step_lone_go (by simp[stepG,stepG.exec,hm,ht,h])
theorem SA(hm:fr.mode=.run)(ht:fr.todo=.code .ret::k)(hr:fr.roundOf=none):step P (lone fr cs w)=.next (lone { fr with mode:=.returning } cs w):=step_lone_go (by simp[stepG,stepG.exec,hm,ht,hr])
theorem SC(hm:fr.mode=.run)(ht:fr.todo=[])(hr:fr.roundOf=none):step P (lone fr cs w)=.next (lone { fr with mode:=.returning } cs w):=step_lone_go (by simp[stepG,stepG.exec,hm,ht,hr])
theorem Kc{id:Nat}{ops:Array Oper}(hm:fr.mode=.run)(ht:fr.todo=.code (.region id ops false)::k):step P (lone fr cs w)=.next (lone { fr with todo:=.inRegion ops (List.range ops.size)::k } cs w):=step_lone_go (by simp[stepG,stepG.exec,hm,ht])
theorem qG{ops:Array Oper}(hm:fr.mode=.run)(ht:fr.todo=.inRegion ops []::k):step P (lone fr cs w)=.next (lone { fr with todo:=k } cs w):=step_lone_go (by simp[stepG,stepG.exec,hm,ht])
theorem io{ops:Array Oper}{i:Nat}{rest:List Nat}(hm:fr.mode=.run)(ht:fr.todo=.inRegion ops (i::rest)::k)(h:((ops[i]?).map (Region.wanted · (yielded ops fr.tmps))).getD false=false) :
 step P (lone fr cs w)=.next (lone (fr.finish undef) cs w):=step_lone_go (by simp[stepG,stepG.exec,hm,ht,h])
theorem gR{ops:Array Oper}{i:Nat}{rest:List Nat}{o:Oper}(hm:fr.mode=.run)(ht:fr.todo=.inRegion ops (i::rest)::k)(ho:ops[i]? = some o)(hw:Region.wanted o (yielded ops fr.tmps)=true)
 (hd:fr.roundOf=none\/∀ c,o.op≠.defer c) :
 stepG P true { frame:=fr,callers:=cs,status:=.running,dying:=none } w=stepG.apply P true fr cs none (execOp (rv fr.tmps) o) w:=by
 have he:fr.eval=rv fr.tmps:=pZ fr
 rcases hd with hd|hd
 ·simp[stepG,stepG.exec,stepG.oper,Frame.oper?,hm,ht,ho,hw,he,hd]
 ·cases hr:fr.roundOf with
  |none=>simp[stepG,stepG.exec,stepG.oper,Frame.oper?,hm,ht,ho,hw,he,hr]
  |some l =>
   simp only[stepG,stepG.exec,stepG.oper,Frame.oper?,hm,ht,ho,hw,he,hr,Option.map_some,Option.getD_some,if_true]
   split
   ·rename_i hc;exact absurd hc (hd _)
   ·rfl
end steps
theorem xD{P:Program}{ρ:aD}{f:FuncId}{fn:Func}{t:T V}{todo:List Item}{ds:List eD}{up:Option Md}{rd:Option Nat}{fr:Frame}{cs:List Frame}
 (h:jI P ρ f fn t todo ds .run up rd fr cs):fr.mode=.run:=by
 have:=h.md
 cases hm:fr.mode<;>rw[hm]at this<;>first|rfl|exact this.elim
theorem jI.to{P:Program}{ρ:aD}{f:FuncId}{fn:Func}{t:T V}{todo:List Item}{ds:List eD}{up:Option Md}{rd:Option Nat}{fr:Frame}{cs:List Frame}
 (h:jI P ρ f fn t todo ds .run up rd fr cs) (todo':List Item):jI P ρ f fn t todo' ds .run up rd { fr with todo:=todo' } cs :=
 ⟨h.name,h.func,h.tr,h.size,fun _=>rfl,h.ds,h.md,h.rd,h.up⟩
theorem jI.mono{P:Program}{ρ ρ':aD}(hl:ρ.le ρ'){f:FuncId}{fn:Func}{t:T V}{todo:List Item}{ds:List eD}{m:Md}{up:Option Md}{rd:Option Nat}{fr:Frame}{cs:List Frame}
 (h:jI P ρ f fn t todo ds m up rd fr cs):jI P ρ' f fn t todo ds m up rd fr cs:=by
 refine⟨h.name,h.func,h.tr.mono hl,h.size,h.todo,h.ds.mono hl,h.md.mono hl,?_,?_⟩
 ·have:=h.rd
  cases rd with
  |none=>exact this
  |some l=>obtain⟨h1,lb,h2,h3⟩:=this;exact⟨h1,lb,hl _ _ _ h2,h3⟩
 ·have:=h.up
  cases up with
  |none=>exact this
  |some u=>obtain⟨h1,c,cs',h2,h3⟩:=this;exact⟨h1,c,cs',h2,h3.mono hl⟩
theorem dQ{P:Program}{ρ:aD}{w:World}{f:FuncId}{fn:Func}{t':T V}{todo':List Item}{ds':List eD}{m':Md}{up:Option Md}{rd:Option Nat}{fr fr':Frame}{cs:List Frame}{s:S}{out:fc}
 (h:HR ρ s w) (hs:step P (lone fr cs w)=.next (lone fr' cs w)) (hF:jI P ρ f fn t' todo' ds' m' up rd fr' cs) (hgo:Ds P f fn t' todo' ds' m' up rd s out):pF P f up.isSome rd.isSome cs (lone fr cs w) ρ w out :=
 pF.of_steps (.one hs) (FR.refl ρ w) (hgo _ _ _ _ h hF)
def sq(up:Option Md)(cs cs':List Frame):Prop:=match up with
 |none=>cs'=cs
 |some _=>∃ c tl u,cs=c::tl/\cs'={ c with mode:=u }::tl
theorem sq.refl{P:Program}{ρ:aD}{f:FuncId}{fn:Func}{t:T V}{todo:List Item}{ds:List eD}{m:Md}{up:Option Md}{rd:Option Nat}{fr:Frame}{cs:List Frame}
 (h:jI P ρ f fn t todo ds m up rd fr cs):sq up cs cs:=by
 have:=h.up
 cases up with
 |none=>rfl
 |some u=>obtain⟨_,c,cs',h2,_⟩:=this;exact⟨c,cs',c.mode,h2,h2⟩
theorem sq.trans{up up':Option Md}(hu:up'.isSome=up.isSome){a b c:List Frame}(h:sq up a b)(k:sq up' b c):sq up a c:=by
 cases up with
 |none=>cases up' with
  |none=>exact Eq.trans k h
  |some _=>cases hu
 |some _=>cases up' with
  |none=>cases hu
  |some _ =>
   obtain⟨c1,t1,u1,rfl,rfl⟩:=h
   obtain⟨c2,t2,u2,h1,rfl⟩:=k
   cases h1
   exact⟨c1,t1,u2,rfl,rfl⟩
theorem pF.of_tops{P:Program}{f:FuncId}{up:Option Md}{rd:Option Nat}{cs cs':List Frame}{M:Machine}{ρ:aD}{w:World}{out:fc}(hr:up.isSome=true->rd=none)
 (ht:sq up cs cs') (h:pF P f up.isSome rd.isSome cs' M ρ w out):pF P f up.isSome rd.isSome cs M ρ w out:=by
 cases up with
 |none=>cases ht;exact h
 |some u =>
  cases hr rfl
  obtain⟨c,tl,u1,rfl,rfl⟩:=ht
  exact pF.of_mode h
theorem jI.lone_up{P:Program}{ρ:aD}{f:FuncId}{fn:Func}{t:T V}{todo:List Item}{ds:List eD}{m:Md}{up:Option Md}{rd:Option Nat}{fr:Frame}{cs:List Frame}
 (h:jI P ρ f fn t todo ds m up rd fr cs):up.isSome=true->rd=none:=by
 intro hu
 have:=h.rd
 cases rd with
 |none=>rfl
 |some l=>rw[this.1]at hu;cases hu
def putD(t:T V)(d:Option Tmp)(v:V):T V:=mH t d (some v) id
theorem cg{β:Type}(t:T V)(d:Option Tmp)(v:V)(k:T V->β):mH t d (some v) k=k (putD t d v):=PM t d (some v) k
def nh(tm:Array Value)(d:Option Tmp)(y:Value):Array Value:=match d with
 |some i=>tm.setIfInBounds i y
 |none=>tm
theorem TR.putD{ρ:aD}{t:T V}{tm:Array Value}(h:TR ρ t tm){d:Option Tmp}{v:V}{y:Value}(hv:den ρ v=some y)(hd:∀ i,d=some i->i<tm.size):TR ρ (AI.putD t d v) (nh tm d y):=by
 cases d with
 |none=>exact h
 |some i =>
  have:=TR.put h hv (hd i rfl)
  exact this
theorem AX{fr:Frame}{ops:Array Oper}{i:Nat}{rest:List Nat}{k:List Item}{o:Oper}(ht:fr.todo=.inRegion ops (i::rest)::k)(ho:ops[i]? = some o)(y:Value) :
 fr.finish y={ fr with tmps:=nh fr.tmps o.dst y,todo:=.inRegion ops rest::k }:=by
 simp only[Frame.finish,ht,ho,Option.bind_some,nh]
 cases o.dst<;>rfl
section
variable{P:Program}{ρ:aD}{f:FuncId}{fn:Func}{t:T V}{ds:List eD}{up:Option Md}{rd:Option Nat}{fr:Frame}{cs:List Frame}{ops:Array Oper}{i:Nat}{rest:List Nat}{k:List Item}{o:Oper}
theorem jI.finish(h:jI P ρ f fn t (.inRegion ops (i::rest)::k) ds .run up rd fr cs)(ho:ops[i]? = some o)(hd:∀ d,o.dst=some d->d<fn.ntmps){v:V}{y:Value}(hv:den ρ v=some y) :
 jI P ρ f fn (putD t o.dst v) (.inRegion ops rest::k) ds .run up rd (fr.finish y) cs:=by
 rw[AX (h.todo rfl) ho]
 refine⟨h.name,h.func,h.tr.putD hv fun i hi=>Nat.lt_of_lt_of_le (hd i hi) h.size,?_,fun _=>rfl,h.ds,h.md,h.rd,h.up⟩
 show fn.ntmps<=(nh fr.tmps o.dst y).size
 have:=h.size
 unfold nh
 split<;>simpa using this
theorem eW(h:TR ρ t fr.tmps){b:Bool}(e:bC ops t o=some b):Region.wanted o (yielded ops fr.tmps)=b:=by
 unfold bC at e
 unfold Region.wanted
 split at e
 ·grind
 ·rename_i j want hg
  rw[hg]
  split at e
  ·rename_i d hd
   split at e
   ·rename_i q hq
    obtain⟨y,h1,h2⟩:=h d _ hq
    cases h1;cases e
    simp[yielded,hd,h2]
   ·rename_i q hq
    obtain⟨y,h1,h2⟩:=h d _ hq
    cases e
    simp only[den]at h1
    split at h1
    ·cases h1;simp[yielded,hd,h2]
    ·cases h1
   ·cases e
  ·cases e
end
def UQ(P:Program)(ρ:aD)(w:World)(f:FuncId)(fn:Func)(k:List Item)(up:Option Md)(rd:Option Nat)(cs:List Frame)(M:Machine)(r:jL):Prop :=
 ∃ ρ' w' fr' cs',Steps P M (lone fr' cs' w')/\FR ρ w ρ' w'/\sq up cs cs'/\match r with
  |.on t' ds' up' s'=>HR ρ' s' w'/\jI P ρ' f fn t' k ds' .run up' rd fr' cs'/\up'.isSome=up.isSome
  |.panicked c t' ds' up' s'=>HR ρ' s' w'/\jI P ρ' f fn t' k ds' (.panicking c) up' rd fr' cs'/\up'.isSome=up.isSome
theorem UQ.of_steps{P:Program}{ρ ρ1:aD}{w w1:World}{f:FuncId}{fn:Func}{k:List Item}{up up1:Option Md}{rd:Option Nat}{cs cs1:List Frame}{M M0:Machine}{r:jL}
 (hs:Steps P M0 M) (hf:FR ρ w ρ1 w1) (ht:sq up cs cs1) (hu:up1.isSome=up.isSome) (h:UQ P ρ1 w1 f fn k up1 rd cs1 M r):UQ P ρ w f fn k up rd cs M0 r:=by
 obtain⟨ρ',w',fr',cs',h1,h2,h3,h4⟩:=h
 refine⟨ρ',w',fr',cs',hs.trans h1,hf.trans h2,ht.trans hu h3,?_⟩
 cases r<;>(simp only at h4 ⊢;exact⟨h4.1,h4.2.1,h4.2.2.trans hu⟩)
theorem qi{ops:Array Oper}{n:Nat}(h:kX ops n=true){i:Nat}{o:Oper}(ho:ops[i]? = some o):∀ d,o.dst=some d->d<n:=by
 intro d hd
 have:=List.all_eq_true.1 h o (by
  have:=Array.mem_of_getElem? ho
  simpa using this)
 simp_all
theorem bp{fr:Frame}(hm:fr.mode=.run)(ch:List PanicEntry):fr.raise ch={ fr with mode:=.panicking ch }:=by
 simp[Frame.raise,hm]
theorem kN{E:dA}{ih:sx->S->Option fc}(hg:Good E.P ih){ρ:aD}{w:World}{s:S}(h:HR ρ s w){f:FuncId}{args:List V}{ys:List Value}(hd:aQ ρ args=some ys){out:fc}
 (e:bA ih f args none s=some out):(∀ w,(callFunc f ys.toArray).run E.P w=.ok (.enter f ys.toArray) w)/\∀ c cs,∃ ρ' w' e,HR ρ' out.s w'/\FR ρ w ρ' w'/\Pa ρ' out.e e /\
  Steps E.P (lone (Frame.enter E.P f ys.toArray .normal) (c::cs) w) (lone (bZ c e) cs w'):=by
 have hs:=hg (.call f args none) s out e
 obtain⟨h1,h2⟩:=hs ρ w ys h hd
 refine⟨h1,fun c cs=>?_⟩
 obtain⟨ρ',w',k1,k2,fr',e',k3,k4,k5,k6⟩:=h2 (c::cs) (fun u hu=>by cases hu)
 refine⟨ρ',w',e',k1,k2,k3,k4.trans (.one ?_)⟩
 cases e' with
 |returned v=>exact step_leave_returned k6
 |panicked ch=>exact step_leave_panicked k6
 |outgrown=>cases hout:out.e<;>rw[hout]at k3<;>exact k3.elim
section ap
variable{P:Program}{fr:Frame}{cs:List Frame}{w w':World}{sem:Sem Next}
theorem oj{v:Value}(hst:stepG P true { frame:=fr,callers:=cs,status:=.running,dying:=none } w=stepG.apply P true fr cs none sem w)(hr:sem.run P w=.ok (.value v) w') :
 step P (lone fr cs w)=.next (lone (fr.finish v) cs w'):=step_lone_go (by rw[hst];simp[stepG.apply,hr])
theorem Dk(hst:stepG P true { frame:=fr,callers:=cs,status:=.running,dying:=none } w=stepG.apply P true fr cs none sem w)(hr:sem.run P w=.ok .skip w') :
 step P (lone fr cs w)=.next (lone (fr.finish undef) cs w'):=step_lone_go (by rw[hst];simp[stepG.apply,hr])
theorem si{ops:Array Oper}{l:List Nat}{k:List Item}{f:FuncId}{args:Array Value}(ht:fr.todo=.inRegion ops l::k)(hst:stepG P true { frame:=fr,callers:=cs,status:=.running,dying:=none } w=stepG.apply P true fr cs none sem w)(hr:sem.run P w=.ok (.enter f args) w') :
 step P (lone fr cs w)=.next (lone (Frame.enter P f args .normal) (fr::cs) w'):=step_lone_go (by rw[hst];simp[stepG.apply,hr,ht])
theorem OG{l:Nat}{f:FuncId}{tmps:Array Value}{a b:Code}(hst:stepG P true { frame:=fr,callers:=cs,status:=.running,dying:=none } w=stepG.apply P true fr cs none sem w)(hr:sem.run P w=.ok (.round l f tmps a b) w') :
 step P (lone fr cs w)=.next (lone (Frame.round l f tmps a b .normal) (fr::cs) w'):=step_lone_go (by rw[hst];simp[stepG.apply,hr])
theorem OH{d:Deferred}(hst:stepG P true { frame:=fr,callers:=cs,status:=.running,dying:=none } w=stepG.apply P true fr cs none sem w)(hr:sem.run P w=.ok (.defer d) w') :
 step P (lone fr cs w)=.next (lone ({ fr with defers:=d::fr.defers }.finish undef) cs w'):=step_lone_go (by rw[hst];simp[stepG.apply,hr])
theorem FC{v:Value}(hst:stepG P true { frame:=fr,callers:=cs,status:=.running,dying:=none } w=stepG.apply P true fr cs none sem w)(hr:sem.run P w=.halt (.panic v) w') :
 step P (lone fr cs w)=.next (lone (fr.raise [{ v,recovered:=false }]) cs w'):=step_lone_go (by rw[hst];simp[stepG.apply,hr])
theorem uM{v:Value}{cs':List Frame}(hro:fr.roundOf=none)(ht:tryRecover fr cs=some (v,cs'))(hst:stepG P true { frame:=fr,callers:=cs,status:=.running,dying:=none } w=stepG.apply P true fr cs none sem w)(hr:sem.run P w=.ok .recover w') :
 step P (lone fr cs w)=.next (lone (fr.finish v) cs' w'):=step_lone_go (by rw[hst];simp[stepG.apply,hr,hro,ht])
theorem uN(hro:fr.roundOf=none)(ht:tryRecover fr cs=none)(hst:stepG P true { frame:=fr,callers:=cs,status:=.running,dying:=none } w=stepG.apply P true fr cs none sem w)(hr:sem.run P w=.ok .recover w') :
 step P (lone fr cs w)=.next (lone (fr.finish .nilIface) cs w'):=step_lone_go (by rw[hst];simp[stepG.apply,hr,hro,ht])
end ap
section
variable{E:dA}{ih:sx->S->Option fc}{f:FuncId}{fn:Func}{ops:Array Oper}{k:List Item}{rd:Option Nat}
def Sh(P:Program)(f:FuncId)(fn:Func)(ops:Array Oper)(rest:List Nat)(k:List Item)(rd:Option Nat)(kk:RK):Prop :=
 ∀ t ds up s r,kk t ds up s=some r->∀ ρ w fr cs,HR ρ s w->jI P ρ f fn t (.inRegion ops rest::k) ds .run up rd fr cs->UQ P ρ w f fn k up rd cs (lone fr cs w) r
theorem cQ{o:Oper}{t:T V}{s:S}{nx:Nx}(h:dg E t s o=some nx)(hn:∀ d s',nx≠.defer d s'):∀ c,o.op≠.defer c:=by
 intro c hc
 unfold dg at h
 rw[hc]at h
 simp only[cy,oR]at h
 split at h
 ·split at h
  ·unfold CU at h
   grind
  ·cases h
 ·cases h
theorem Cc(hE:iB E)(hg:Good E.P ih)(hdst:kX ops fn.ntmps=true){i:Nat}{rest:List Nat}{o:Oper}(ho:ops[i]? = some o){kk:RK}(hk:Sh E.P f fn ops rest k rd kk)
 {t:T V} {ds:List eD} {up:Option Md} {s:S} {r:jL} (e:pO E (bA ih) (eg ih) rd o t ds up s kk (bC ops t o)=some r)
 {ρ:aD} {w:World} {fr:Frame} {cs:List Frame} (h:HR ρ s w) (hF:jI E.P ρ f fn t (.inRegion ops (i::rest)::k) ds .run up rd fr cs):UQ E.P ρ w f fn k up rd cs (lone fr cs w) r:=by
 have hm:=xD hF
 have ht:=hF.todo rfl
 have hd:=qi hdst ho
 have hT:=sq.refl hF
 unfold pO at e
 split at e
 ·rename_i hw
  have hwant:=eW hF.tr hw
  cases hdo:dg E t s o with
  |none=>rw[hdo]at e;cases e
  |some nx =>
   rw[hdo]at e
   have hop:=lQ hE h hF.tr o hdo
   have hst:fr.roundOf=none\/(∀ c,o.op≠.defer c)->stepG E.P true { frame:=fr,callers:=cs,status:=.running,dying:=none } w=stepG.apply E.P true fr cs none (execOp (rv fr.tmps) o) w:=fun q=>gR hm ht ho hwant q
   cases nx with
   |val v s1 =>
    obtain⟨ρ1,y,w1,h1,h2,h3,h4⟩:=hop
    have hst:=hst (.inr (cQ hdo (fun d s'=>by intro h;cases h)))
    simp only[dT,cg]at e
    exact(hk _ _ _ _ _ e ρ1 w1 (fr.finish y) cs h3 ((hF.mono h4.ext).finish ho hd h2)).of_steps (.one (oj hst h1)) h4 hT rfl
   |skip s1 =>
    obtain⟨ρ1,w1,h1,h3,h4⟩:=hop
    have hst:=hst (.inr (cQ hdo (fun d s'=>by intro h;cases h)))
    simp only[dT,cg]at e
    exact(hk _ _ _ _ _ e ρ1 w1 (fr.finish undef) cs h3 ((hF.mono h4.ext).finish ho hd rfl)).of_steps (.one (Dk hst h1)) h4 hT rfl
   |enter g args s1 =>
    obtain⟨ys,h1,h2,h3⟩:=hop
    have hst:=hst (.inr (cQ hdo (fun d s'=>by intro h;cases h)))
    simp only[dT]at e
    cases hr:bA ih g args none s1 with
    |none=>rw[hr]at e;cases e
    |some out =>
     rw[hr]at e
     obtain⟨hcall,hfin⟩:=kN hg h3 h1 hr
     rw[hcall]at h2
     obtain⟨ρ1,w1,en,j1,j2,j3,j4⟩:=hfin fr cs
     have hsteps:Steps E.P (lone fr cs w) (lone (bZ fr en) cs w1):=.head (si ht hst h2) j4
     obtain⟨oe,oup,os⟩:=out
     cases oe with
     |returned v =>
      cases en with
      |returned y =>
       simp only[fw,cg]at e
       exact(hk _ _ _ _ _ e ρ1 w1 (fr.finish y) cs j1 ((hF.mono j2.ext).finish ho hd j3)).of_steps hsteps j2 hT rfl
      |panicked _=>exact j3.elim
      |outgrown=>exact j3.elim
     |panicked c =>
      cases en with
      |returned _=>exact j3.elim
      |outgrown=>exact j3.elim
      |panicked ch =>
       simp only[fw,Option.some.injEq]at e
       subst e
       have hF1:=hF.mono j2.ext
       exact⟨ρ1,w1,_,cs,hsteps,j2,hT,j1,⟨hF1.name.symm▸(by rw[bZ,bp hm]),hF1.func,by rw[bZ,bp hm];exact hF1.tr,by rw[bZ,bp hm];exact hF1.size,(fun q=>by cases q),by rw[bZ,bp hm];exact hF1.ds,by rw[bZ,bp hm];exact j3,by rw[bZ,bp hm];exact hF1.rd,by rw[bZ,bp hm];exact hF1.up⟩,rfl⟩
   |round l args s1 =>
    obtain⟨lb,ys,h0,h1,h2,h3⟩:=hop
    have hst:=hst (.inr (cQ hdo (fun d s'=>by intro h;cases h)))
    simp only[dT]at e
    cases hr:eg ih l args s1 with
    |none=>rw[hr]at e;cases e
    |some out =>
     rw[hr]at e
     obtain⟨f',tmps,a,b,hy,hfin⟩:=hg (.round l args) s1 out hr ρ w lb ys h3 h0 h1
     rw[hy]at h2
     obtain⟨ρ1,w1,j1,j2,j5⟩:=hfin (fr::cs)
     obtain⟨en,j3,j4⟩:=j5 fr cs rfl
     have hsteps:Steps E.P (lone fr cs w) (lone (bZ fr en) cs w1):=.head (OG hst h2) j4
     obtain⟨oe,oup,os⟩:=out
     cases oe with
     |returned v =>
      cases en with
      |returned y =>
       simp only[fw,cg]at e
       exact(hk _ _ _ _ _ e ρ1 w1 (fr.finish y) cs j1 ((hF.mono j2.ext).finish ho hd j3)).of_steps hsteps j2 hT rfl
      |panicked _=>exact j3.elim
      |outgrown=>exact j3.elim
     |panicked c =>
      cases en with
      |returned _=>exact j3.elim
      |outgrown=>exact j3.elim
      |panicked ch =>
       simp only[fw,Option.some.injEq]at e
       subst e
       have hF1:=hF.mono j2.ext
       exact⟨ρ1,w1,_,cs,hsteps,j2,hT,j1,⟨hF1.name.symm▸(by rw[bZ,bp hm]),hF1.func,by rw[bZ,bp hm];exact hF1.tr,by rw[bZ,bp hm];exact hF1.size,(fun q=>by cases q),by rw[bZ,bp hm];exact hF1.ds,by rw[bZ,bp hm];exact j3,by rw[bZ,bp hm];exact hF1.rd,by rw[bZ,bp hm];exact hF1.up⟩,rfl⟩
   |defer df s1 =>
    obtain⟨rdf,h1,h2,h3⟩:=hop
    simp only[dT]at e
    cases hrd:rd with
    |some l=>rw[hrd]at e;cases e
    |none =>
     rw[hrd]at e
     simp only[Option.isSome_none,cond_false,cg]at e
     subst hrd
     have hro:fr.roundOf=none:=hF.rd
     have hst:=hst (.inl hro)
     have hF':jI E.P ρ f fn t (.inRegion ops (i::rest)::k) (df::ds) .run up none { fr with defers:=rdf::fr.defers } cs :=
      ⟨hF.name,hF.func,hF.tr,hF.size,hF.todo,⟨h1,hF.ds⟩,hF.md,hF.rd,hF.up⟩
     exact(hk _ _ _ _ _ e ρ w _ cs h3 (hF'.finish ho hd rfl)).of_steps (.one (OH hst h2)) (FR.refl ρ w) hT rfl
   |recover s1 =>
    obtain⟨h1,h2⟩:=hop
    have hst:=hst (.inr (cQ hdo (fun d s'=>by intro h;cases h)))
    simp only[dT]at e
    cases up with
    |none=>cases e
    |some u =>
     have hro:fr.roundOf=none:=by cases hF.lone_up rfl;exact hF.rd
     obtain⟨hkd,c,tl,rfl,hmd⟩:=hF.up
     have hrec:∀ m',u=m'->(∀ v older,m'≠.panicking (⟨v,false⟩::older))->tryRecover fr (c::tl)=none:=by
      intro m' hu hne
      subst hu
      cases hcm:c.mode with
      |run=>simp[tryRecover,hkd,hcm]
      |returning=>simp[tryRecover,hkd,hcm]
      |panicking ch =>
       cases u with
       |run=>rw[hcm]at hmd;exact hmd.elim
       |returning=>rw[hcm]at hmd;exact hmd.elim
       |panicking pl =>
        rw[hcm]at hmd
        cases pl with
        |nil=>cases ch with
         |nil=>simp[tryRecover,hkd,hcm]
         |cons _ _=>exact hmd.elim
        |cons p ps=>cases ch with
         |nil=>exact hmd.elim
         |cons q qs =>
          obtain⟨⟨q1,q2,q3⟩,_⟩:=hmd
          obtain⟨pv,pr⟩:=p
          cases pr with
          |false=>exact absurd rfl (hne pv ps)
          |true =>
           obtain⟨qv,qr,qg⟩:=q
           simp only at q2 q3
           subst q2
           simp[tryRecover,hkd,hcm]
     unfold recovered at e
     split at e
     ·rename_i v older hu
      cases hu
      cases hcm:c.mode with
      |run=>rw[hcm]at hmd;exact hmd.elim
      |returning=>rw[hcm]at hmd;exact hmd.elim
      |panicking ch =>
       rw[hcm]at hmd
       cases ch with
       |nil=>exact hmd.elim
       |cons q qs =>
        obtain⟨⟨q1,q2,q3⟩,q4⟩:=hmd
        obtain⟨qv,qr,qg⟩:=q
        simp only at q1 q2 q3
        subst q2;subst q3
        have htr:tryRecover fr (c::tl)=some (qv,{ c with mode:=.panicking ({ v:=qv,recovered:=true }::qs) }::tl):=by
         simp[tryRecover,hkd,hcm]
        rw[cg]at e
        have hF':=hF.finish ho hd q1
        have hF'':jI E.P ρ f fn (putD t o.dst v) (.inRegion ops rest::k) ds .run (some (.panicking (⟨v,true⟩::older))) rd (fr.finish qv) ({ c with mode:=.panicking ({ v:=qv,recovered:=true }::qs) }::tl):=by
         refine⟨hF'.name,hF'.func,hF'.tr,hF'.size,hF'.todo,hF'.ds,hF'.md,?_,?_⟩
         ·cases hF.lone_up rfl;exact hF'.rd
         ·exact⟨hF'.up.1,_,_,rfl,⟨⟨q1,rfl,rfl⟩,q4⟩⟩
        exact(hk _ _ _ _ _ e ρ w _ _ h2 hF'').of_steps (.one (uM hro htr hst h1)) (FR.refl ρ w) ⟨c,tl,_,rfl,rfl⟩ rfl
     ·rename_i hne hu
      cases hu
      rw[cg]at e
      have htr:=hrec _ rfl (fun v older hq=>hne v older hq)
      exact(hk _ _ _ _ _ e ρ w _ _ h2 (hF.finish ho hd rfl)).of_steps (.one (uN hro htr hst h1)) (FR.refl ρ w) hT rfl
     ·cases e
   |panic v s1 =>
    obtain⟨y,h1,h2,h3⟩:=hop
    have hst:=hst (.inr (cQ hdo (fun d s'=>by intro h;cases h)))
    simp only[dT,Option.some.injEq]at e
    subst e
    refine⟨ρ,w,_,cs,.one (FC hst h2),FR.refl ρ w,hT,h3,?_,rfl⟩
    rw[bp hm]
    exact⟨hF.name,hF.func,hF.tr,hF.size,(fun q=>by cases q),hF.ds,⟨⟨h1,rfl,rfl⟩,trivial⟩,hF.rd,hF.up⟩
 ·rename_i hw
  have hwant:=eW hF.tr hw
  rw[cg]at e
  exact(hk _ _ _ _ _ e ρ w _ _ h (hF.finish ho hd (y:=undef) rfl)).of_steps (.one (io hm ht (by simp[ho,hwant]))) (FR.refl ρ w) hT rfl
 ·cases e
theorem qL(hE:iB E)(hg:Good E.P ih)(hdst:kX ops fn.ntmps=true):∀(l:List Oper) (idx:List Nat),idx.map (ops[·]?)=l.map some->Sh E.P f fn ops idx k rd (pK E ops (bA ih) (eg ih) rd l)
 |[],[],_=>fun t ds up s r e ρ w fr cs h hF=>by
  simp only[pK,Option.some.injEq]at e
  subst e
  exact⟨ρ,w,_,cs,.one (qG (xD hF) (hF.todo rfl)),FR.refl ρ w,sq.refl hF,h,hF.to k,rfl⟩
 |o::l,i::idx,hl=>fun t ds up s r e ρ w fr cs h hF=>by
  simp only[List.map_cons,List.cons.injEq]at hl
  exact Cc hE hg hdst hl.1 (qL hE hg hdst l idx hl.2) e h hF
 |[],_::_,hl=>by cases hl
 |_::_,[],hl=>by cases hl
theorem Qz(ops:Array Oper):(List.range ops.size).map (ops[·]?)=ops.toList.map some:=by
 apply List.ext_getElem?
 grind
end
section st
variable{P:Program}{fr:Frame}{c:Frame}{cs:List Frame}{w w':World}{k:List Item}{l:Nat}{v:Value}
theorem Tq(hm:fr.mode=.run)(hk:fr.kind=.normal)(hro:fr.roundOf=some l)(ht:fr.todo=[])(hr:(Instr.endRound l none).run P w=.ok v w') :
 step P (lone fr (c::cs) w)=.next (lone (c.finish v) cs w'):=step_lone_go (by simp[stepG,stepG.exec,hm,ht,hro,hr,doReturn,hk])
theorem Tp(hm:fr.mode=.run)(hk:fr.kind=.normal)(hro:fr.roundOf=some l)(ht:fr.todo=.code .ret::k)(hr:(Instr.endRound l (some .ret)).run P w=.ok v w') :
 step P (lone fr (c::cs) w)=.next (lone (c.finish v) cs w'):=step_lone_go (by simp[stepG,stepG.exec,hm,ht,hro,hr,doReturn,hk])
theorem Qe{id:Nat}(hm:fr.mode=.run)(hk:fr.kind=.normal)(hro:fr.roundOf=some l)(ht:fr.todo=.code (.exit id)::k)(hx:exitTo id k=none)(hr:(Instr.endRound l (some (.exit id))).run P w=.ok v w') :
 step P (lone fr (c::cs) w)=.next (lone (c.finish v) cs w'):=step_lone_go (by simp[stepG,stepG.exec,hm,ht,hro,hr,doReturn,hk,hx])
theorem Qd{id:Nat}(hm:fr.mode=.run)(hk:fr.kind=.normal)(hro:fr.roundOf=some l)(ht:fr.todo=.code (.goto id)::k)(hx:gotoIn id k=none)(hr:(Instr.endRound l (some (.goto id))).run P w=.ok v w') :
 step P (lone fr (c::cs) w)=.next (lone (c.finish v) cs w'):=step_lone_go (by simp[stepG,stepG.exec,hm,ht,hro,hr,doReturn,hk,hx])
theorem zi(hm:fr.mode=.run)(hro:fr.roundOf=some l)(ht:fr.todo=.beginRound::k)(hr:(Instr.beginRound l).run P w=.ok () w') :
 step P (lone fr cs w)=.next (lone { fr with todo:=k } cs w'):=step_lone_go (by simp[stepG,stepG.exec,stepG.apply,hm,ht,hro,hr,Frame.finish])
theorem DK{j:Option Code}(hm:fr.mode=.run)(ht:fr.todo=.endRangeFunc l::k)(hr:(Instr.endLoop l).run P w=.ok j w') :
 step P (lone fr cs w)=.next (lone { fr with todo:=(j.map Item.code).toList++k } cs w'):=step_lone_go (by simp[stepG,stepG.exec,hm,ht,hr])
theorem Mp{g:Operand}{ps:Array Tmp}{a b:Code}{fid:FuncId}{first cap:Array Value}{f2:FuncId}{args:Array Value}(hm:fr.mode=.run)(ht:fr.todo=.code (.rangeFunc g ps a b)::k)(hro:fr.roundOf=none)
 (hg:rv fr.tmps g=.func (.func fid) first cap)
 (hc:∀ w,(callFunc fid (first++#[.func (.yield (w'.heap.size - 1)) #[] #[]]++cap)).run P w=.ok (.enter f2 args) w)
 (hw:w'=(w.alloc (.deferred (some []))).alloc (.loop { state:=.ready,pending:=none,fn:=fr.fn,tmps:=fr.tmps,params:=ps,assign:=a,body:=b,defers:=w.heap.size })) :
 step P (lone fr cs w)=.next (lone (Frame.enter P f2 args .normal) ({ fr with todo:=.inRangeFunc (w'.heap.size - 1)::k,defers:={ target:=.collected w.heap.size,args:=#[] }::fr.defers }::cs) w'):=by
 refine step_lone_go ?_
 have hl:w'.heap.size - 1=w.heap.size+1:=by rw[hw];simp
 rw[hl]at hc ⊢
 have hen:=run_enterLoop_outer (P:=P) (w:=w) fr.fn fr.tmps ps a b
 rw[<- hw]at hen
 simp only[stepG,stepG.exec,hm,ht,hro,Sem.runT_eq,hen,GStep.bare_after]
 have hcst:∀ v:Value,rv fr.tmps (.const v)=v:=fun _=>rfl
 have hc':(callFunc fid (first.push (.func (.yield (w.heap.size+1)) #[] #[])++cap)).run P w'=.ok (.enter f2 args) w':=by simpa using hc w'
 simp[stepG.apply,pZ,resolve,hg,Deferred.ofValue,invoke,hcst,hc',hm,hro]
theorem BE{b:Nat}{ds:List Deferred}{m:FrameMode}(hm:fr.mode=m)(hne:m≠.run)(hd:fr.defers={ target:=.collected b,args:=#[] }::ds){calls:List Deferred}(hr:(Instr.takeDeferred b).run P w=.ok calls w') :
 step P (lone fr cs w)=.next (lone { fr with defers:=calls++ds } cs w'):=by
 refine step_lone_go ?_
 cases m with
 |run=>exact absurd rfl hne
 |returning=>simp[stepG,unwind,hm,hd,hr]
 |panicking ch=>simp[stepG,unwind,hm,hd,hr]
end st
section
variable{E:dA}{ih:sx->S->Option fc}{f:FuncId}{fn:Func}
theorem bI(hg:Good E.P ih){t:T V}{todo:List Item}{ds:List eD}{m:Md}{up:Option Md}{rd:Option Nat}{s:S}{out:fc}(e:gb ih f fn t todo ds m up rd s=some out):Ds E.P f fn t todo ds m up rd s out :=
 hg (.frame f fn t todo ds m up rd) s out e
theorem vm{ρ:aD}{s:S}{w:World}(h:HR ρ s w){l:Nat}{st:LoopState}{pend:Option Code}{f':FuncId}{t':T V}{ps:Array Tmp}{a b:Code}{d nt:Nat}(hs:s.get l=some (.loop st pend f' t' ps a b d nt)){lb:zg}(hl:ρ l 0=some lb) :
 ∃(r:Loop),w.heap[lb.b]? = some (.loop r)/\r.state=st/\r.pending=pend/\r.fn=f'/\r.params=ps/\r.assign=a/\r.body=b/\TR ρ t' r.tmps/\nt<=r.tmps.size /\
  ∀ st2 pend2,HR ρ (s.put l (.loop st2 pend2 f' t' ps a b d nt)) (w.putObj lb.b (.loop { r with state:=st2,pending:=pend2 }))/\FR ρ w ρ (w.putObj lb.b (.loop { r with state:=st2,pending:=pend2 })):=by
 obtain⟨l1,ld,tm,h1,h2,h3,h4,h5⟩:=h.blk _ _ hs
 rw[hl]at h1;cases h1
 refine⟨_,h5,rfl,rfl,rfl,rfl,rfl,rfl,h3,h4,fun st2 pend2=>?_⟩
 exact h.turn hl hs (fun _ h=>by cases h) (vF w lb.b _) _ ⟨lb,ld,tm,hl,h2,h3,h4,World.putObj_heap_same (h.low _ _ _ hl)⟩
theorem iR(hg:Good E.P ih){t:T V}{todo:List Item}{ds:List eD}{up:Option Md}{rd:Option Nat}{s:S}{out:fc}{jump:Option Code}(e:lS (gb ih f fn) t ds up rd s jump=some out)
 {ρ:aD} {w:World} {fr:Frame} {cs:List Frame} (h:HR ρ s w) (hF:jI E.P ρ f fn t todo ds .run up rd fr cs)
 (h0:jump=none\/jump=some .ret->fr.roundOf=none->step E.P (lone fr cs w)=.next (lone { fr with mode:=.returning } cs w))
 (h1:∀ l v w',fr.roundOf=some l->fr.kind=.normal->(Instr.endRound l jump).run E.P w=.ok v w'->∀ c cs',cs=c::cs'->step E.P (lone fr cs w)=.next (lone (c.finish v) cs' w')) :
 pF E.P f up.isSome rd.isSome cs (lone fr cs w) ρ w out:=by
 have ret:∀ up,jI E.P ρ f fn t todo ds .run up none fr cs->jI E.P ρ f fn t [] ds .returning up none { fr with mode:=.returning } cs:=fun up hF =>
  ⟨hF.name,hF.func,hF.tr,hF.size,(fun q=>by cases q),hF.ds,trivial,hF.rd,hF.up⟩
 unfold lS at e
 split at e
 ·split at e
  ·exact dQ h (h0 (.inl rfl) hF.rd) (ret up hF) (bI hg e)
  ·exact dQ h (h0 (.inr rfl) hF.rd) (ret up hF) (bI hg e)
  ·cases e
 ·rename_i l
  split at e
  ·rename_i st pend f' t' ps a b d nt hs
   simp only[Option.some.injEq]at e
   subst e
   obtain⟨rfl,lb,hl,hro⟩:=hF.rd
   obtain⟨r,r1,r2,r3,r4,r5,r6,r7,r8,r9,r10⟩:=vm h hs hl
   have hrun:=run_endRound (P:=E.P) jump r1
   obtain⟨j1,j2⟩:=r10 (if jump.isNone then .ready else .done) jump
   have hc:(bif jump.isNone then LoopState.ready else .done)=if jump.isNone then .ready else .done:=by cases jump.isNone<;>rfl
   rw[hc]
   refine⟨ρ,_,j1,j2,fun c cs' hcs=>⟨.returned (.bool jump.isNone),rfl,.one (h1 _ _ _ hro hF.up hrun c cs' hcs)⟩⟩
  ·cases e
def dW(E:dA):Prop:=∀(ih:sx->S->Option fc),Good E.P ih->∀(f:FuncId) (fn:Func) (id:Nat) (ops:Array Oper) (k:List Item) (rd:Option Nat) (t:T V) (ds:List eD) (up:Option Md) (s:S) (r:jL),
 kX ops fn.ntmps=true->ip E ops (bA ih) (eg ih) t ds up s=some r->∀ ρ w fr cs,HR ρ s w->jI E.P ρ f fn t (.code (.region id ops true)::k) ds .run up rd fr cs->UQ E.P ρ w f fn k up rd cs (lone fr cs w) r
theorem ng(hg:Good E.P ih){k:List Item}{rd:Option Nat}{up:Option Md}{x:Option jL}{out:fc}(e:gk (gb ih f fn) k rd x=some out){ρ:aD}{w:World}{cs:List Frame}{M:Machine}(hr:up.isSome=true->rd=none)
 (hx:∀ r,x=some r->UQ E.P ρ w f fn k up rd cs M r):pF E.P f up.isSome rd.isSome cs M ρ w out:=by
 cases x with
 |none=>cases e
 |some r =>
  obtain⟨ρ',w',fr',cs',h1,h2,h3,h4⟩:=hx r rfl
  cases r with
  |on t' ds' up' s' =>
   obtain⟨k1,k2,k3⟩:=h4
   have:=bI hg e ρ' w' fr' cs' k1 k2
   rw[k3]at this
   exact pF.of_tops hr h3 (pF.of_steps h1 h2 this)
  |panicked c t' ds' up' s' =>
   obtain⟨k1,k2,k3⟩:=h4
   have:=bI hg e ρ' w' fr' cs' k1 k2
   rw[k3]at this
   exact pF.of_tops hr h3 (pF.of_steps h1 h2 this)
theorem uC(hg:Good E.P ih){t:T V}{ds:List eD}{up:Option Md}{rd:Option Nat}{s:S}{out:fc}{k:List Item}{g:Operand}{ps:Array Tmp}{a b:Code}
 (e:fV f fn.ntmps (gb ih f fn) (bA ih) k t ds up rd s ps a b (eval t g)=some out) {ρ:aD} {w:World} {fr:Frame} {cs:List Frame} (h:HR ρ s w) (hF:jI E.P ρ f fn t (.code (.rangeFunc g ps a b)::k) ds .run up rd fr cs) :
 pF E.P f up.isSome rd.isSome cs (lone fr cs w) ρ w out:=by
 unfold fV at e
 split at e
 ·rename_i fnv first cap hgv
  obtain⟨gf,fi,ca,g1,g2,g3,g4⟩:=xC (aB hF.tr hgv)
  split at e
  ·rename_i fid
   cases g1
   split at e
   ·
    have hro:fr.roundOf=none:=hF.rd
    have hm:=xD hF
    simp only at e
    obtain⟨A1,A2⟩:=h.alloc .deferred (.deferred (some [])) 0 0 (Nat.le_refl _) ⟨⟨w.heap.size,0,0⟩,aD.put_same _ _ _ _,eh _ _⟩
    have hd1:(ρ.put s.next 0 ⟨w.heap.size,0,0⟩) s.next 0=some ⟨w.heap.size,0,0⟩:=aD.put_same _ _ _ _
    obtain⟨B1,B2⟩:=A1.alloc (.loop .ready none f t ps a b s.next fn.ntmps) (.loop { state:=.ready,pending:=none,fn:=f,tmps:=fr.tmps,params:=ps,assign:=a,body:=b,defers:=w.heap.size }) 0 0 (Nat.le_refl _) (by
     have hle:=aD.le_put (ρ:=ρ.put s.next 0 ⟨w.heap.size,0,0⟩) (f:=(s.alloc .deferred).next) (v:=0) ⟨(w.alloc (.deferred (some []))).heap.size,0,0⟩ (A1.fresh _ _ (Nat.le_refl _))
     exact⟨⟨(w.alloc (.deferred (some []))).heap.size,0,0⟩,⟨w.heap.size,0,0⟩,fr.tmps,aD.put_same _ _ _ _,hle _ _ _ hd1,(hF.tr.mono A2.ext).mono hle,hF.size,eh _ _⟩)
    generalize hρ2:(ρ.put s.next 0 ⟨w.heap.size,0,0⟩).put (s.alloc .deferred).next 0 ⟨(w.alloc (.deferred (some []))).heap.size,0,0⟩=ρ2 at B1 B2
    have hl2:ρ2 (s.alloc .deferred).next 0=some ⟨w.heap.size+1,0,0⟩:=by rw[<- hρ2,aD.put_same];simp
    have hd2:ρ2 s.next 0=some ⟨w.heap.size,0,0⟩:=B2.ext _ _ _ hd1
    have hAB:=A2.trans B2
    have hargs:aQ ρ2 (first++([.func (.yield (s.alloc .deferred).next) [] []]++cap))=some (fi++([Value.func (.yield (w.heap.size+1)) #[] #[]]++ca)):=by
     refine du (fx hAB.ext _ _ g2) (du ?_ (fx hAB.ext _ _ g3))
     simp[aQ,den,mF,hl2]
    cases hr:bA ih fid (first++([.func (.yield (s.alloc .deferred).next) [] []]++cap)) none ((s.alloc .deferred).alloc (.loop .ready none f t ps a b s.next fn.ntmps))with
    |none=>rw[hr]at e;cases e
    |some o1 =>
     rw[hr]at e
     obtain⟨hcall,hfin⟩:=kN hg B1 hargs hr
     have hname:fr.fn=f:=hF.name
     obtain⟨ρ3,w3,en,j1,j2,j3,j4⟩:=hfin { fr with todo:=.inRangeFunc (w.heap.size+1)::k,defers:={ target:=.collected w.heap.size,args:=#[] }::fr.defers } cs
     have hstep:=Mp (P:=E.P) (fr:=fr) (cs:=cs) (w:=w) (w':=(w.alloc (.deferred (some []))).alloc (.loop { state:=.ready,pending:=none,fn:=f,tmps:=fr.tmps,params:=ps,assign:=a,body:=b,defers:=w.heap.size }))
      (k:=k) (xD hF) (hF.todo rfl) hro g4 (f2:=fid) (args:=(fi++([Value.func (.yield (w.heap.size+1)) #[] #[]]++ca)).toArray) (fun w=>by
       have:=hcall w
       simpa using this) (by rw[hname])
     have hsz:((w.alloc (.deferred (some []))).alloc (.loop { state:=.ready,pending:=none,fn:=f,tmps:=fr.tmps,params:=ps,assign:=a,body:=b,defers:=w.heap.size })).heap.size - 1=w.heap.size+1:=by simp
     rw[hsz]at hstep
     have hsteps:=Steps.head hstep j4
     have hABC:=hAB.trans j2
     have hF3:=hF.mono hABC.ext
     have hdr:LB ρ3 (.collected s.next) { target:=.collected w.heap.size,args:=#[] }:=⟨_,j2.ext _ _ _ hd2,rfl⟩
     obtain⟨oe,oup,os⟩:=o1
     cases oe with
     |returned v =>
      cases en with
      |panicked _=>exact j3.elim
      |outgrown=>exact j3.elim
      |returned y =>
       simp only[jS]at e
       unfold rp at e
       split at e
       ·rename_i st pend f' t' ps' a' b' d' nt hs
        obtain⟨r,r1,r2,r3,r4,r5,r6,r7,r8,r9,r10⟩:=vm j1 hs (j2.ext _ _ _ hl2)
        have hgo:∃ hb:st≠.busy,gb ih f fn t ((pend.map Item.code).toList++k) (.collected s.next::ds) .run up none (os.put (s.alloc .deferred).next (.loop .exhausted pend f' t' ps' a' b' d' nt))=some out:=by
         grind
        obtain⟨hb,hgo⟩:=hgo
        obtain⟨q1,q2⟩:=r10 .exhausted pend
        have hend:=run_endLoop (P:=E.P) r1 (by rw[r2];exact hb)
        rw[r3]at hend
        have hres:bZ { fr with todo:=.inRangeFunc (w.heap.size+1)::k,defers:={ target:=.collected w.heap.size,args:=#[] }::fr.defers } (.returned y)={ fr with todo:=.endRangeFunc (w.heap.size+1)::k,defers:={ target:=.collected w.heap.size,args:=#[] }::fr.defers }:=rfl
        rw[hres]at hsteps
        have hst2:=DK (P:=E.P) (fr:={ fr with todo:=.endRangeFunc (w.heap.size+1)::k,defers:={ target:=.collected w.heap.size,args:=#[] }::fr.defers }) (cs:=cs) hm rfl hend
        refine pF.of_steps (hsteps.trans (.one hst2)) (hABC.trans q2) (bI hg hgo _ _ _ _ q1 ?_)
        exact⟨hF3.name,hF3.func,hF3.tr,hF3.size,fun _=>rfl,⟨hdr,hF3.ds⟩,hF3.md,hF3.rd,hF3.up⟩
       ·cases e
     |panicked c =>
      cases en with
      |returned _=>exact j3.elim
      |outgrown=>exact j3.elim
      |panicked ch =>
       simp only[jS]at e
       refine pF.of_steps hsteps hABC (bI hg e _ _ _ _ j1 ?_)
       rw[bZ,bp (show({ fr with todo:=.inRangeFunc (w.heap.size+1)::k,defers:={ target:=.collected w.heap.size,args:=#[] }::fr.defers }:Frame).mode=.run from hm)]
       exact⟨hF3.name,hF3.func,hF3.tr,hF3.size,(fun q=>by cases q),⟨hdr,hF3.ds⟩,j3,hF3.rd,hF3.up⟩
   ·cases e
  ·cases e
 ·cases e
end
instance (n:Nat):OfNat V n:=⟨.atom n⟩
abbrev iV(n:Int):V:=.int .i64 n
abbrev nS:V:=.nilslice
abbrev s0:V:=.str []
abbrev cB(e:TypeId)(l:List V):dS:=.cells e false 1 [⟨0,0,l⟩]
abbrev lf:T dS:=.leaf
abbrev n0(a c:T dS):T dS:=.node a none c
abbrev n1(a:T dS):T dS:=.node a none .leaf
abbrev n2(a:T dS):T dS:=.node .leaf none a
abbrev n3(b:dS):T dS:=.node .leaf (some b) .leaf
abbrev n4(a:T dS)(b:dS)(c:T dS):T dS:=.node a (some b) c
end Go.AI
