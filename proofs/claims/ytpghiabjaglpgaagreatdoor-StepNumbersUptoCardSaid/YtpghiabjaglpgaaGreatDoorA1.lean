/- The evaluator by which runs of the program are reckoned, and that it is sound: part 1. No conditions beyond those of the row. -/
import GoSem.Step
import Derived.Laws.Sem
import Derived.Laws.World
import Derived.Laws.Cells
set_option linter.all false
noncomputable section
namespace Go.AI
structure Ad where
 f:Nat
 v:Nat
 c:Nat
 deriving Inhabited
inductive V where
 |bool (b:Bool)
 |int (k:IntKind) (n:Int)
 |str (s:List Nat)
 |ptr (a:Ad)
 |nilptr
 |slice (a:Ad) (z:Nat) (len:Nat) (cap:Option Nat) (sz:Nat)
 |nilslice
 |map (r:Nat)
 |nilmap
 |func (fn:Fn) (first captured:List V)
 |nilFunc
 |iface (t:TypeId) (v:V)
 |nilIface
 |agg (cs:List V)
 |tuple (vs:List V)
 |atom (i:Nat)      -- stands for a value of one cell that is not known
 deriving Inhabited
def V.undef:V:=.tuple []
def V.ofCell:Value->Option V
 |.bool b=>some (.bool b)
 |.int k n=>some (.int k n)
 |.string s=>some (.str (s.data.toList.map UInt8.toNat))
 |.pointer a=>match a with
  |none=>some .nilptr
  |some _=>none
 |.slice a n c=>match a with
  |none=>bif Nat.beq n 0&&Nat.beq c 0 then some .nilslice else none
  |some _=>none
 |.map a=>match a with
  |none=>some .nilmap
  |some _=>none
 |.nilFunc=>some .nilFunc
 |.nilIface=>some .nilIface
 |.func fn a b=>match fn with
  |.func f=>bif a.toList.isEmpty&&b.toList.isEmpty then some (.func (.func f) [] [])else none
  |_=>none
 |_=>none
def V.ofCells:List Value->Option (List V)
 |[]=>some []
 |x::r=>match V.ofCell x with
  |some v=>match V.ofCells r with
   |some l=>some (v::l)
   |none=>none
  |none=>none
def V.ofConst:Value->Option V
 |.agg cs=>match V.ofCells cs.toList with
  |some l=>some (.agg l)
  |none=>none
 |v=>V.ofCell v
def V.cells:V->List V
 |.agg cs=>cs
 |v=>[v]
inductive Ds where
 |o
 |l (p:Ds)
 |r (p:Ds)
def zr:Nat->Nat->Ds
 |0,_=>.o
 |n+1,k=>match k with
  |0=>.o
  |m+1=>bif Nat.beq (Nat.mod m 2) 1 then .r (zr n (Nat.div m 2))else .l (zr n (Nat.div m 2))
def et(k:Nat):Ds:=zr k k
inductive T(α:Type) where
 |leaf
 |node (l:T α) (v:Option α) (r:T α)
 deriving Inhabited
namespace T
variable{α:Type}
def get(t:T α)(p:Ds):Option α :=
 Ds.rec (motive:=fun _=>T α->Option α)
  (fun t=>T.rec (motive:=fun _=>Option α) none (fun _ v _ _ _=>v) t)
  (fun _ ih t=>T.rec (motive:=fun _=>Option α) none (fun l _ _ _ _=>ih l) t)
  (fun _ ih t=>T.rec (motive:=fun _=>Option α) none (fun _ _ r _ _=>ih r) t) p t
def setK{β:Type}(x:Option α)(p:Ds)(t:T α)(k:T α->β):β :=
 Ds.rec (motive:=fun _=>T α->(T α->β)->β)
  (fun t k=>T.rec (motive:=fun _=>β) (k (.node .leaf x .leaf)) (fun l _ r _ _=>k (.node l x r)) t)
  (fun _ ih t k=>T.rec (motive:=fun _=>β) (ih .leaf fun t=>k (.node t none .leaf)) (fun l v r _ _=>ih l fun t=>k (.node t v r)) t)
  (fun _ ih t k=>T.rec (motive:=fun _=>β) (ih .leaf fun t=>k (.node .leaf none t)) (fun l v r _ _=>ih r fun t=>k (.node l v t)) t) p t k
end T
structure mb where
 v:Nat
 lo:Nat
 cells:List V
 deriving Inhabited
structure oz where
 key:V
 val:V
 born:Nat
 deriving Inhabited
inductive dB where
 |cells (elem:TypeId) (sb:Bool) (nextv:Nat) (vers:List mb)      -- sb: made of a text's bytes
 |ro (vers:List mb)      -- what came in: it is only Tv
 |map (es:List oz) (clock:Nat)
 |loop (st:LoopState) (pending:Option Code) (fn:FuncId) (tmps:T V) (params:Array Tmp) (assign body:Code) (dfr:Nat) (nt:Nat)
 |deferred
 |gone
 deriving Inhabited
structure S where
 h:T dB
 next:Nat
 deriving Inhabited
def CA{β:Type}(n:Nat)(k:Nat->β):β:=match n with
 |0=>k 0
 |m+1=>k (m+1)
def Hm{β:Type}(n:Int)(k:Int->β):β:=match n with
 |.ofNat m=>CA m fun m=>k (.ofNat m)
 |.negSucc m=>CA m fun m=>k (.negSucc m)
def lS(k:IntKind)(n:Int):V:=Hm n fun n=>.int k n
def S.get(s:S)(f:Nat):Option dB:=match s with|⟨h,_⟩=>h.get (et f)
def S.put(s:S)(f:Nat)(b:dB):S:=match s with|⟨h,n⟩=>h.setK (some b) (et f) fun h=>⟨h,n⟩
def S.alloc(s:S)(b:dB):S:=match s with|⟨h,n⟩=>h.setK (some b) (et n) fun h=>CA (n+1) fun n=>⟨h,n⟩
def aV(sb:Bool)(s:S)(elem:TypeId)(cs:List V):Ad×S:=(⟨s.next,0,0⟩,s.alloc (.cells elem sb 1 [⟨0,0,cs⟩]))
def aW(s:S)(elem:TypeId)(cs:List V):Ad×S:=aV false s elem cs
def bA:List mb->Nat->Option mb
 |[],_=>none
 |u::r,v=>bif Nat.beq u.v v then some u else bA r v
def aU:Nat->List V->Option (List V)
 |0,_=>some []
 |n+1,x::r=>(aU n r).map (x::·)
 |_+1,[]=>none
def loadCells(s:S)(a:Ad)(n:Nat):Option (List V) :=
 match s.get a.f with
 |some (.cells _ _ _ vers) =>
  match bA vers a.v with
  |some u=>bif Nat.ble u.lo a.c then aU n (u.cells.drop (a.c - u.lo))else none
  |none=>none
 |some (.ro vers) =>
  match bA vers a.v with
  |some u=>bif Nat.ble u.lo a.c then aU n (u.cells.drop (a.c - u.lo))else none
  |none=>none
 |_=>none
def mI(s:S)(a:Ad):Option V :=
 match s.get a.f with
 |some (.cells _ _ _ vers) =>
  match bA vers a.v with
  |some u=>bif Nat.ble u.lo a.c then u.cells[a.c - u.lo]? else none
  |none=>none
 |some (.ro vers) =>
  match bA vers a.v with
  |some u=>bif Nat.ble u.lo a.c then u.cells[a.c - u.lo]? else none
  |none=>none
 |_=>none
def bR:List V->Nat->List V->Option (List V)
 |cs,_,[]=>some cs
 |x::r,n+1,new=>(bR r n new).map (x::·)
 |_::r,0,y::new=>(bR r 0 new).map (y::·)
 |[],_,_::_=>none
def V.one:V->Bool
 |.agg _=>false
 |.tuple _=>false
 |_=>true
def storeCells(s:S)(a:Ad)(new:List V):Option S :=
 match s.get a.f with
 |some (.cells e sb nv vers) =>
  match bA vers a.v with
  |some u=>bif Nat.ble u.lo a.c&&new.all V.one then
   match bR u.cells (a.c - u.lo) new with
   |some cs=>some (s.put a.f (.cells e sb nv [⟨u.v,u.lo,cs⟩]))
   |none=>none
   else none
  |none=>none
 |_=>none
section types
variable(P:Program)
def size(t:TypeId):Option Nat:=(P.info? t).map (·.size)
def zero(t:TypeId):Option V:=((P.info? t).bind (·.zero)).bind V.ofConst
def px(t:TypeId):Option Bool:=(P.underlying t).map fun|.struct _=>true|.array _ _=>true|_=>false
def loadVar(s:S)(t:TypeId)(a:Ad):Option V :=
 match px P t with
 |some true=>(size P t).bind fun n=>(loadCells s a n).map .agg
 |some false=>mI s a
 |none=>none
def storeVar(s:S)(t:TypeId)(a:Ad)(v:V):Option S :=
 match size P t with
 |some n=>bif Nat.beq v.cells.length n then storeCells s a v.cells else none
 |none=>none
def ti(t:TypeId)(cs:List V)(off:Nat):Option V :=
 match px P t with
 |some true=>(size P t).map fun n=>.agg ((cs.drop off).take n)
 |some false=>cs[off]?
 |none=>none
end types
def jT:List Nat->List Nat->Option Bool
 |[],[]=>some true
 |a::x,b::y=>bif Nat.beq a b then jT x y else bif Nat.blt a 256&&Nat.blt b 256 then some false else none
 |_,_=>some false
def nq(l:List Nat):List UInt8:=l.map UInt8.ofNat
def cP(j k:IntKind):Bool:=decide (j=k)
def iN(P:Program)(eq:TypeId->V->V->Option Bool):List Field->List V->List V->Option Bool
 |[],_,_=>some true
 |f::r,xs,ys=>bif f.name == "_" then none else
  match ti P f.type xs f.offset,ti P f.type ys f.offset with
  |some a,some b=>match eq f.type a b with
   |some true=>iN P eq r xs ys
   |some false=>some false
   |none=>none
  |_,_=>none
def bz(s:S)(a:Ad):Bool:=match s.get a.f with
 |some (.cells _ sb _ vers)=>!sb&&(bA vers a.v).isSome
 |_=>false
def IM(ok:Ad->Bool)(a b:Ad):Option Bool :=
 bif ok a&&ok b then(bif Nat.beq a.f b.f then(bif Nat.beq a.v b.v then some (Nat.beq a.c b.c)else none)else some false)else none
def cF(P:Program)(ok:Ad->Bool):Nat->TypeId->V->V->Option Bool
 |0,_,_,_=>none
 |d+1,t,x,y =>
  match P.underlying t with
  |some (.struct fs) =>
   match x,y with
   |.agg xs,.agg ys=>bif P.stoodInHeld t then none else iN P (cF P ok d) fs.toList xs ys
   |_,_=>none
  |some (.interface _) =>
   match x,y with
   |.nilIface,.nilIface=>some true
   |.nilIface,.iface _ _=>some false
   |.iface _ _,.nilIface=>some false
   |.iface tx vx,.iface ty vy=>bif Nat.beq tx ty then(match P.info? tx with|some i=>bif i.comparable then cF P ok d tx vx vy else none|none=>none)else some false
   |_,_=>none
  |some .bool=>match x,y with|.bool a,.bool b=>some (a==b)|_,_=>none
  |some (.int _)=>match x,y with|.int j a,.int k b=>bif cP j k then some (a==b)else none|_,_=>none
  |some .string=>match x,y with|.str a,.str b=>jT a b|_,_=>none
  |some (.pointer e)=>match x,y with
   |.nilptr,.nilptr=>some true
   |.nilptr,.ptr _=>some false
   |.ptr _,.nilptr=>some false
   |.ptr a,.ptr b=>match size P e with
    |some n=>bif Nat.beq n 0 then none else IM ok a b
    |none=>none
   |_,_=>none
  |some (.slice _)=>match x,y with
   |.nilslice,.nilslice=>some true
   |.nilslice,.slice ..=>some false
   |.slice ..,.nilslice=>some false
   |_,_=>none
  |some (.map _ _)=>match x,y with
   |.nilmap,.nilmap=>some true
   |.nilmap,.map _=>some false
   |.map _,.nilmap=>some false
   |_,_=>none
  |some (.func _ _ _)=>match x,y with
   |.nilFunc,.nilFunc=>some true
   |.nilFunc,.func ..=>some false
   |.func ..,.nilFunc=>some false
   |_,_=>none
  |_=>none
def AJ(op:BinOp)(k:IntKind)(a b:Int):Option V :=
 match op with
 |.add=>some (lS k (k.wrap (a+b)))
 |.sub=>some (lS k (k.wrap (a - b)))
 |.mul=>some (lS k (k.wrap (a*b)))
 |.eql=>some (.bool (a==b))
 |.neq=>some (.bool (a != b))
 |.lss=>some (.bool (decide (a<b)))
 |.leq=>some (.bool (decide (a<=b)))
 |.gtr=>some (.bool (decide (a>b)))
 |.geq=>some (.bool (decide (a>=b)))
 |.quo=>bif b==0 then none else some (.int k (k.wrap (a.tdiv b)))
 |.rem=>bif b==0 then none else some (.int k (a.tmod b))
 |.and=>some (.int k (k.wrap (BitVec.ofInt k.bits a &&& BitVec.ofInt k.bits b).toNat))
 |.or=>some (.int k (k.wrap (BitVec.ofInt k.bits a ||| BitVec.ofInt k.bits b).toNat))
 |.xor=>some (.int k (k.wrap (BitVec.ofInt k.bits a ^^^ BitVec.ofInt k.bits b).toNat))
 |.andNot=>some (.int k (k.wrap (BitVec.ofInt k.bits a &&& ~~~ BitVec.ofInt k.bits b).toNat))
 |_=>none
def vN(op:BinOp)(a b:List Nat):Option V :=
 match op with
 |.add=>bif Nat.ble (a.length+b.length) 1000000 then some (.str (a++b))else none
 |.eql=>(jT a b).map .bool
 |.neq=>(jT a b).map fun q=>.bool (!q)
 |.lss=>some (.bool (Op.bytesLess (nq a) (nq b)))
 |_=>none
def BI(op:BinOp)(k:IntKind)(a:Int)(b:Int):Option V:=match b with
 |.ofNat n=>match op with
  |.shl=>some (lS k (k.wrap (a*2 ^ (min n k.bits))))
  |.shr=>some (lS k (a.fdiv (2 ^ (min n k.bits))))
  |_=>none
 |_=>none
def nN:BinOp->Bool
 |.shl|.shr=>true
 |_=>false
def eF:Operand->Bool
 |.const _=>true
 |_=>false
def mJ:BinOp->Bool
 |.eql|.neq=>true
 |_=>false
def eT(P:Program)(op:BinOp)(t:TypeId)(x y:Operand)(a b:V):Bool :=
 bif mJ op then match a,b with
  |.nilIface,.nilIface=>eF x||eF y
  |.agg _,.agg _=>!(P.eqGuardType P.depth t)
  |_,_=>true
 else true
def ff(P:Program)(ok:Ad->Bool)(op:BinOp)(t:TypeId)(x y:V):Option V :=
 match x,y with
 |.int j a,.int k b=>bif nN op then BI op j a b else bif cP j k then AJ op j a b else none
 |.str a,.str b=>vN op a b
 |_,_ =>
  match op with
  |.eql=>(cF P ok 20 t x y).map .bool
  |.neq=>(cF P ok 20 t x y).map fun b=>.bool (!b)
  |_=>none
def LN(op:UnOp)(x:V):Option V :=
 match op,x with
 |.not,.bool b=>some (.bool !b)
 |.neg,.int k n=>some (.int k (k.wrap (0 - n)))
 |_,_=>none
def oQ(place:Nat->Option (Nat×Nat))(cs:List V):List (Nat×V)->Option (List V)
 |[]=>some cs
 |(i,v)::r =>
  match place i with
  |none=>none
  |some (off,n)=>bif Nat.beq v.cells.length n&&Nat.blt 0 n then(bR cs off v.cells).bind fun cs=>oQ place cs r else none
def gP(f:Field)(P:Program):Bool:=match size P f.type with|some n=>Nat.beq n 0|none=>true
def oI(v:V):Option Nat:=match v with|.int _ (.ofNat n)=>some n|_=>none
def ci(a:Ad)(n:Nat):Ad:={ a with c:=a.c+n }
def bS(eq:V->V->Option Bool)(k:V):List oz->Option (Option V)
 |[]=>some none
 |⟨key,val,_⟩::r=>foundKey (eq k key) val (bS eq k r)
 where foundKey (b:Option Bool) (v:V) (r:Option (Option V)):Option (Option V):=match b with
  |some true=>some (some v)
  |some false=>r
  |none=>none
def cE(eq:V->V->Option Bool)(k x:V):List oz->Option (Option (List oz))
 |[]=>some none
 |⟨key,val,born⟩::r=>setKey (eq k key) ⟨key,val,born⟩ ⟨k,x,born⟩ r (cE eq k x r)
 where setKey (b:Option Bool) (e e':oz) (r:List oz) (u:Option (Option (List oz))):Option (Option (List oz)):=match b with
  |some true=>some (some (e'::r))
  |some false=>match u with
   |some (some r')=>some (some (e::r'))
   |some none=>some none
   |none=>none
  |none=>none
structure Dt where
 v:V
 recovered:Bool
 deriving Inhabited
inductive Md where
 |run
 |returning
 |panicking (c:List Dt)
 deriving Inhabited
inductive dX where
 |call (fn:Fn) (captured args:List V)
 |collected (r:Nat)
 deriving Inhabited
inductive XM where
 |returned (v:V)
 |panicked (c:List Dt)
 deriving Inhabited
def eval(t:T V):Operand->Option V
 |.tmp i=>t.get (et i)
 |.const v=>V.ofConst v
 |.global _=>none
 |.func f=>some (.func (.func f) [] [])
def lY{β:Type}(t:T V)(d:Option Tmp)(v:Option V)(k:T V->β):β:=match d with
 |some i=>t.setK v (et i) k
 |none=>k t
def bw(ops:Array Oper)(t:T V)(o:Oper):Option Bool :=
 match o.guard with
 |none=>some true
 |some (j,want)=>match(ops[j]?).bind (·.dst)with
  |some d=>match t.get (et d)with
   |some (.bool b)=>some (b==want)
   |some (.tuple _)=>some false
   |_=>none
  |none=>none
inductive Nx where
 |val (v:V) (s:S)
 |skip (s:S)
 |enter (f:FuncId) (args:List V) (s:S)
 |round (l:Nat) (args:List V) (s:S)
 |defer (d:dX) (s:S)
 |recover (s:S)
 |panic (v:V) (s:S)
def kP(P:Program)(t:TypeId)(n:Nat):Bool:=match P.info? t with
 |some i=>Nat.ble (i.bytes*n) 100000000000000
 |none=>false
def kD(c:Nat):V:=.int .u8 (.ofNat (Nat.mod c 256))
def xl(s:S)(f c z len sz:Nat)(e:TypeId)(sb:Bool)(nv:Nat)(vers:List mb)(cells:List V)(n:Nat):V×S :=
 (.slice ⟨f,nv,c⟩ z (len+n) none sz,s.put f (.cells e sb (nv+1) (⟨nv,c,cells⟩::vers.filter fun u=>Nat.ble (u.lo+u.cells.length) (c+len*sz))))
def iD(s:S)(elem:TypeId)(cells:List V)(len sz:Nat):V×S:=match aW s elem cells with
 |(b,s)=>(.slice b 0 len none sz,s)
def Cx(s:S)(elem:TypeId)(a:Ad)(z len c sz:Nat)(old new:List V)(n:Nat):Option (V×S) :=
 bif Nat.ble (len+n) c then
  match storeCells s (ci a (len*sz)) new with
  |some s=>some (.slice a z (len+n) (some c) sz,s)
  |none=>none
 else some (iD s elem (old++new) (len+n) sz)
def xh(s:S)(elem:TypeId)(a:Ad)(z len:Nat)(cap:Option Nat)(sz:Nat)(new:List V)(n:Nat):Option (V×S) :=
 match s.get a.f with
 |some (.cells e sb nv vers) =>
  match bA vers a.v with
  |some u =>
   bif Nat.ble u.lo a.c then
    match aU (len*sz) (u.cells.drop (a.c - u.lo))with
    |some old =>
     match cap with
     |some c=>Cx s elem a z len c sz old new n
     |none=>bif new.all V.one then some (xl s a.f a.c z len sz e sb nv vers (old++new) n)else none
    |none=>none
   else none
  |none=>none
 |_=>none
def gW(s:S)(sz:Nat):V->Option (List V×Nat)
 |.nilslice=>some ([],0)
 |.slice b _ n _ sz'=>bif Nat.beq n 0 then some ([],0)else bif Nat.beq sz' 0 then none else bif Nat.beq sz sz' then(match loadCells s b (n*sz)with|some l=>some (l,n)|none=>none)else none
 |.str l=>bif Nat.beq sz 1 then some (l.map kD,l.length)else none
 |_=>none
def sJ(P:Program)(elem:TypeId)(sz:Nat):Bool :=
 match zero P elem with
 |some z=>Nat.beq z.cells.length sz&&Nat.blt 0 sz&&kP P elem 10000000
 |none=>false
def ip:Option Nat->Bool
 |some c=>Nat.beq c 0
 |none=>false
def aF(P:Program)(t:TypeId)(m:Nat):Bool:=match P.info? t with
 |some i=>Nat.ble (i.bytes*(m+Nat.div m 4+600)) 281474976710656&&Nat.ble m 4611686018427387904
 |none=>false
def dV(ok:Nat->Bool)(s:S)(elem:TypeId)(sz:Nat)(x:V):Option (List V×Nat)->Option (V×S)
 |some (l,n) =>
  bif ok n then
   match x with
   |.nilslice=>bif Nat.beq n 0 then some (.nilslice,s)else some (iD s elem l n sz)
   |.slice a z len cap sz'=>bif Nat.beq len 0&&ip cap then(bif Nat.beq n 0 then some (.slice a z len cap sz',s)else some (iD s elem l n sz))else
    bif Nat.beq sz sz'&&ok (len+n)then(bif Nat.beq n 0 then some (.slice a z len cap sz,s)else xh s elem a z len cap sz l n)else none
   |_=>none
  else none
 |none=>none
def Ek(P:Program)(t:TypeId):Bool:=match P.underlying t with
 |some (.int _)=>false
 |some _=>true
 |none=>false
def rm(P:Program)(sT xT:TypeId)(s:S)(x y:V):Option (V×S) :=
 match P.underlying sT with
 |some (.slice elem)=>bif Ek P xT then
  match size P elem with
  |some sz=>bif sJ P elem sz then dV (aF P elem) s elem sz x (gW s sz y)else none
  |none=>none
  else none
 |_=>none
def kb(P:Program)(t:TypeId)(s:S)(x:V):Option V :=
 match P.underlying t,x with
 |some .string,.str l=>some (lS .i64 l.length)
 |some (.array n _),_=>some (.int .i64 n)
 |some (.slice _),.slice _ _ n _ _=>some (lS .i64 n)
 |some (.slice _),.nilslice=>some (.int .i64 0)
 |some (.map _ _),.nilmap=>some (.int .i64 0)
 |some (.map _ _),.map r=>match s.get r with
  |some (.map es _)=>some (.int .i64 es.length)
  |_=>none
 |_,_=>none
def KF(x y:V):Option V:=match x,y with
 |.int j a,.int k b=>bif cP j k then some (.int j (bif decide (b>a)then b else a))else none
 |_,_=>none
def KD(x y:V):Option V:=match x,y with
 |.int j a,.int k b=>bif cP j k then some (.int j (bif decide (b<a)then b else a))else none
 |_,_=>none
def Oi(f:V->V->Option V):List V->Option V
 |[]=>none
 |x::r=>r.foldlM f x
def gQ(c:Nat):List Nat->Nat->Option Nat
 |[],_=>none
 |x::r,i=>bif Nat.beq (Nat.mod x 256) c then some i else gQ c r (i+1)
def countByte(c:Nat):List Nat->Nat
 |[]=>0
 |x::r=>bif Nat.beq (Nat.mod x 256) c then countByte c r+1 else countByte c r
inductive HV where
 |indexByte
 |count
structure cU where
 P:Program
 ext:FuncId->Option HV
 orc:FuncId->List V->S->Option (V×S)
def CH(k:HV)(args:List V):Option V :=
 match args with
 |[.str l,.int .u8 (.ofNat c)] =>
  match k with
  |.indexByte=>some (match gQ (Nat.mod c 256) l 0 with|some i=>.int .i64 (.ofNat i)|none=>.int .i64 (-1))
  |.count=>some (lS .i64 (.ofNat (countByte (Nat.mod c 256) l)))
 |_=>none
def bj(s:S)(v:Option V):Option Nx:=match v with
 |some v=>some (.val v s)
 |none=>none
def ia(x:Option (V×S)):Option Nx:=match x with
 |some (v,s)=>some (.val v s)
 |none=>none
def JQ(E:cU)(f:FuncId)(args:List V)(s:S):Option Nx :=
 match E.P.funcs[f]? with
 |none=>none
 |some fn=>match fn.body with
  |none=>match E.ext f with
   |some k=>bj s (CH k args)
   |none=>none
  |some _=>some (.enter f args s)
def HE(s:S)(sz n:Nat):V->Option (List V×Nat)
 |.nilslice=>some ([],0)
 |.slice b _ m _ sz'=>bif Nat.beq sz' 0 then none else bif Nat.beq sz sz' then(match loadCells s b (Nat.min m n*sz)with|some l=>some (l,Nat.min m n)|none=>none)else none
 |.str l=>some ((l.take (Nat.min l.length n)).map kD,Nat.min l.length n)
 |_=>none
def OG(s:S)(a:Ad):Option (List V×Nat)->Option Nx
 |some (l,k)=>match storeCells s a l with
  |some s=>some (.val (lS .i64 k) s)
  |none=>none
 |none=>none
def OF(P:Program)(t:TypeId)(s:S)(x y:V):Option Nx:=match P.underlying t with
 |some (.slice el)=>match x with
  |.slice a _ n _ sz=>match size P el with
   |some sz'=>bif Nat.beq sz sz'&&Nat.blt 0 n then OG s a (HE s sz n y)else none
   |none=>none
  |_=>none
 |_=>none
def Vk(P:Program)(t:TypeId)(x:V):Option V:=match P.underlying t with
 |some (.slice _)=>match x with
  |.nilslice=>some (.int .i64 0)
  |.slice _ _ _ (some c) _=>some (lS .i64 c)
  |_=>none
 |_=>none
def iv(P:Program)(b:Builtin)(ts:Array TypeId)(args:List V)(s:S):Option Nx :=
 match b with
 |.append=>match ts[0]? with
  |some a=>match ts[1]? with
   |some b=>match args with
    |[x,y]=>ia (rm P a b s x y)
    |_=>none
   |none=>none
  |none=>none
 |.len=>match ts[0]? with
  |some a=>match args with
   |[x]=>bj s (kb P a s x)
   |_=>none
  |none=>none
 |.max=>bj s (Oi KF args)
 |.min=>bj s (Oi KD args)
 |.recover=>some (.recover s)
 |.copy=>match ts[0]? with
  |some a=>match args with
   |[x,y]=>OF P a s x y
   |_=>none
  |none=>none
 |.cap=>match ts[0]? with
  |some a=>match args with
   |[x]=>bj s (Vk P a x)
   |_=>none
  |none=>none
 |.panic=>match args with
  |[.iface t v]=>some (.panic (.iface t v) s)
  |_=>none
 |_=>none
def er(o:Option V)(d:Nat):Option Nat:=match o with
 |some v=>oI v
 |none=>some d
def bK(o:Option Nat):Bool:=match o with
 |some n=>Nat.beq n 0
 |none=>false
def cY(P:Program)(t:TypeId)(x:V)(lo hi mx:Option V):Option V :=
 match P.underlying t with
 |some .string=>match x,mx with
  |.str l,none =>
   let h:=er hi l.length
   let b:=er lo 0
   match b,h with
   |some b,some h=>bif Nat.ble h l.length&&Nat.ble b h then some (.str ((l.drop b).take (h - b)))else none
   |_,_=>none
  |_,_=>none
 |some (.slice e) =>
  match size P e with
  |some sz =>
   match x with
   |.nilslice =>
    bif mx.isSome&&!hi.isSome then none else
    bif bK (er lo 0)&&bK (er hi 0)&&bK (er mx 0)then some .nilslice else none
   |.slice a z len cap sz' =>
    bif Nat.beq sz' 0||(Nat.beq len 0&&ip cap)then(bif (bK (er lo 0)&&bK (er hi 0)&&bK (er mx 0))&&!(mx.isSome&&!hi.isSome)then some (.slice a z len cap sz')else none)else
    bif Nat.beq sz sz'&&!(mx.isSome&&!hi.isSome)then
    let h:=er hi len
    let b:=er lo 0
    match b,h with
    |some b,some h =>
     match mx with
     |none =>
      match cap with
      |some c=>bif Nat.ble h c&&Nat.ble b h then
       (bif Nat.beq c b then some (.slice a 0 (h - b) (some 0) sz)else some (.slice (ci a (b*sz)) 0 (h - b) (some (c - b)) sz))else none
      |none=>bif Nat.ble h len&&Nat.ble b h then
       (bif Nat.beq b 0 then some (.slice a z h none sz)else some (.slice (ci a (b*sz)) a.c (h - b) none sz))else none
     |some m=>match oI m with
      |some m =>
       bif Nat.ble m len&&Nat.ble h m&&Nat.ble b h then
        (bif Nat.beq m b then(bif cap.isSome||Nat.blt 0 len||Nat.beq z a.c then some (.slice a 0 (h - b) (some 0) sz)else none)else some (.slice (ci a (b*sz)) 0 (h - b) (some (m - b)) sz))
       else none
      |none=>none
    |_,_=>none
    else none
   |_=>none
  |none=>none
 |_=>none
def kC:List V->Option (List Nat)
 |[]=>some []
 |.int .u8 (.ofNat n)::r=>(kC r).map (n::·)
 |_=>none
def fS(P:Program)(el:TypeId):Bool:=match P.underlying el with
 |some (.int .u8)=>true
 |_=>false
def zU(P:Program)(s:S)(ds:TypeDesc)(x:V):Option (V×S):=match x with
 |.int _ n=>some (.str ((Utf8.encode n).data.toList.map UInt8.toNat),s)
 |.str l=>some (.str l,s)
 |.nilslice=>match ds with
  |.slice el=>bif fS P el then some (.str [],s)else none
  |_=>none
 |.slice a _ n _ sz=>match ds with
  |.slice el=>bif fS P el then(bif Nat.beq sz 0 then none else match(loadCells s a n).bind kC with|some l=>some (.str l,s)|none=>none)else none
  |_=>none
 |_=>none
def nF(P:Program)(s:S)(ds:TypeDesc)(el:TypeId)(x:V):Option (V×S):=match x with
 |.str l=>match ds with
  |.string=>bif fS P el then(match aV true s el (l.map kD)with|(a,s)=>some (.slice a 0 l.length none 1,s))else none
  |_=>none
 |_=>none
def gU(P:Program)(s:S)(src dst:TypeId)(x:V):Option (V×S) :=
 match P.underlying src with
 |some ds=>match P.underlying dst with
  |some (.int k)=>match x with
   |.int _ n=>some (lS k (k.wrap n),s)
   |_=>none
  |some .string=>zU P s ds x
  |some (.slice el)=>nF P s ds el x
  |_=>none
 |none=>none
def GL(s:Option S):Option Nx:=match s with
 |some s=>some (.skip s)
 |none=>none
def oG(x:Ad×S):Option Nx:=match x with
 |(a,s)=>some (.val (.ptr a) s)
def gn(t:T V):List Operand->Option (List V)
 |[]=>some []
 |x::r=>match eval t x with
  |some v=>match gn t r with
   |some l=>some (v::l)
   |none=>none
  |none=>none
def dP(t:T V):List (Nat×Operand)->Option (List (Nat×V))
 |[]=>some []
 |(i,x)::r=>match eval t x with
  |some v=>match dP t r with
   |some l=>some ((i,v)::l)
   |none=>none
  |none=>none
def kl(t:T V):Option Operand->Option (Option V)
 |none=>some none
 |some x=>match eval t x with
  |some v=>some (some v)
  |none=>none
def lC(t:T V)(s:S)(c a b:Operand):Option Nx:=match eval t c with
 |some (.bool q)=>bj s (eval t (bif q then a else b))
 |_=>none
def iG(P:Program)(s:S)(elem:TypeId):Option Nx:=match zero P elem with
 |some z=>oG (aW s elem z.cells)
 |none=>none
def qZ(s:S)(elem:TypeId)(x:Option V):Option Nx:=match x with
 |some z=>oG (aW s elem z.cells)
 |none=>none
def mS(P:Program)(fs:Array Field)(i:Nat):Option (Nat×Nat):=match fs[i]? with
 |some f=>match size P f.type with
  |some n=>some (f.offset,n)
  |none=>none
 |none=>none
def FW(x:Option (List V)):Option V:=match x with
 |some l=>some (.agg l)
 |none=>none
def nV(P:Program)(ty:TypeId)(l:Option (List (Nat×V))):Option V :=
 match zero P ty with
 |some z=>match l with
  |some l=>match P.underlying ty with
   |some (.struct fs)=>bif fs.toList.all (fun f=>(size P f.type).isSome)then FW (oQ (mS P fs) z.cells l)else none
   |some (.array _ el)=>match size P el with
    |some n=>FW (oQ (fun i=>some (i*n,n)) z.cells l)
    |none=>none
   |_=>none
  |none=>none
 |none=>none
def jV(el:TypeId)(len n:Nat)(s:S)(cs:Option (List V)):Option Nx:=match cs with
 |some cs=>match aW s el cs with
  |(a,s)=>some (.val (.slice a 0 len (some len) n) s)
 |none=>none
def ce(P:Program)(s:S)(ty:TypeId)(len:Nat)(l:Option (List (Nat×V))):Option Nx :=
 match P.underlying ty with
 |some (.slice el)=>match l with
  |some l=>match zero P el with
   |some z=>match size P el with
    |some n=>bif Nat.ble (len*n) 10000&&!(Nat.beq n 0)&&Nat.beq z.cells.length n then jV el len n s (oQ (fun i=>some (i*n,n)) (List.replicate len z.cells).flatten l)else none
    |none=>none
   |none=>none
  |none=>none
 |_=>none
def ii(P:Program)(s:S)(ty:TypeId)(x:Option V):Option Nx:=match x with
 |some (.ptr a)=>bj s (loadVar P s ty a)
 |_=>none
def qU(P:Program)(s:S)(ty:TypeId)(x y:Option V):Option Nx:=match x with
 |some (.ptr a)=>match y with
  |some v=>GL (storeVar P s ty a v)
  |none=>none
 |_=>none
def lE(x:Option V):Option V:=match x with
 |some (.ptr a)=>some (.ptr a)
 |some (.func fn fi ca)=>match fn with
  |.func f=>some (.func (.func f) fi ca)
  |.yield f=>some (.func (.yield f) fi ca)
  |_=>none
 |_=>none
def fp(P:Program)(s:S)(op:BinOp)(ty:TypeId)(ox oy:Operand)(x y:Option V):Option V:=match x with
 |some a=>match y with
  |some b=>bif eT P op ty ox oy a b then ff P (bz s) op ty a b else none
  |none=>none
 |none=>none
def Vb(op:UnOp)(x:Option V):Option V:=match x with
 |some a=>LN op a
 |none=>none
def ga(P:Program)(s:S)(src dst:TypeId)(x:Option V):Option Nx:=match x with
 |some a=>ia (gU P s src dst a)
 |none=>none
def nR(P:Program)(ty:TypeId)(x:Option V):Option V:=match P.underlying ty with
 |some (.interface _)=>none
 |some _=>match x with
  |some v=>some (.iface ty v)
  |none=>none
 |none=>none
def Ci(fn:Fn)(a b:Option (List V)):Option V:=match a with
 |some a=>match b with
  |some b=>some (.func fn a b)
  |none=>none
 |none=>none
def qW(fn:Fn)(a b:Option (List V)):Option V:=match fn with
 |.yield _=>none
 |fn=>Ci fn a b
def dR(P:Program)(s:S)(ty:TypeId)(l c:Option Nat):Option Nx:=match P.underlying ty with
 |some (.slice el)=>match l with
  |some l=>match c with
   |some c=>match zero P el with
    |some z=>match size P el with
     |some n=>bif Nat.ble l c&&Nat.ble c 2199023255552&&!(Nat.beq n 0)&&Nat.beq z.cells.length n&&kP P el c then
      match aW s el (List.replicate c z.cells).flatten with
      |(a,s)=>some (.val (.slice a 0 l (some c) n) s)
      else none
     |none=>none
    |none=>none
   |none=>none
  |none=>none
 |_=>none
def dG(x:Option V):Option Nat:=match x with
 |some v=>oI v
 |none=>none
def vw(P:Program)(ty:TypeId)(x:Option V)(lo hi mx:Option (Option V)):Option V:=match x with
 |some x=>match lo with
  |some lo=>match hi with
   |some hi=>match mx with
    |some mx=>cY P ty x lo hi mx
    |none=>none
   |none=>none
  |none=>none
 |none=>none
def gT(P:Program)(ty:TypeId)(x:Option V)(f:Nat):Option V:=match P.underlying ty with
 |some (.struct fs)=>match x with
  |some (.ptr a)=>match fs[f]? with
   |some fd=>bif gP fd P then none else some (.ptr (ci a fd.offset))
   |none=>none
  |_=>none
 |_=>none
def qY(P:Program)(ty:TypeId)(x:Option V)(f:Nat):Option V:=match P.underlying ty with
 |some (.struct fs)=>match x with
  |some (.agg cs)=>match fs[f]? with
   |some fd=>ti P fd.type cs fd.offset
   |none=>none
  |_=>none
 |_=>none
def fF(P:Program)(ty:TypeId)(x:Option V)(i:Option Nat):Option V:=match i with
 |some i=>match P.underlying ty with
  |some (.slice el)=>match x with
   |some (.slice a _ len _ sz)=>match size P el with
    |some n=>bif Nat.beq n sz&&Nat.blt i len then some (.ptr (ci a (i*n)))else none
    |none=>none
   |_=>none
  |some (.array len el)=>match x with
   |some (.ptr a)=>match size P el with
    |some n=>bif Nat.blt i len then some (.ptr (ci a (i*n)))else none
    |none=>none
   |_=>none
  |_=>none
 |none=>none
def nT(P:Program)(ty:TypeId)(x:Option V)(i:Option Nat):Option V:=match i with
 |some i=>match P.underlying ty with
  |some .string=>match x with
   |some (.str l)=>match l[i]? with
    |some c=>some (kD c)
    |none=>none
   |_=>none
  |some (.array len el)=>match x with
   |some (.agg cs)=>match size P el with
    |some n=>bif Nat.blt i len then ti P el cs (i*n)else none
    |none=>none
   |_=>none
  |_=>none
 |none=>none
def yg(s:S)(m:V):Option (List oz):=match m with
 |.nilmap=>some []
 |.map r=>match s.get r with
  |some (.map es _)=>some es
  |_=>none
 |_=>none
def Jt(P:Program)(el:TypeId)(ok:Bool)(x:Option (Option V)):Option V:=match x with
 |some (some v)=>some (bif ok then .tuple [v,.bool true] else v)
 |some none=>match zero P el with
  |some z=>some (bif ok then .tuple [z,.bool false] else z)
  |none=>none
 |none=>none
def dJ(P:Program)(t:TypeId):Bool:=match P.underlying t with
 |some (.int _)=>true
 |some .string=>true
 |some .bool=>true
 |some (.pointer _)=>true
 |_=>false
def jc(P:Program)(s:S)(ty:TypeId)(m k:Option V)(ok:Bool):Option V:=match P.underlying ty with
 |some (.map kt el)=>match m with
  |some m=>match k with
   |some k=>match yg s m with
    |some es=>bif dJ P kt then Jt P el ok (bS (cF P (bz s) 20 kt) k es)else none
    |none=>none
   |none=>none
  |none=>none
 |_=>none
def vc(s:S)(r:Nat)(k x:V)(es:List oz)(clock:Nat)(u:Option (Option (List oz))):Option Nx:=match u with
 |some (some es)=>some (.skip (s.put r (.map es clock)))
 |some none=>some (.skip (s.put r (.map (es++[⟨k,x,clock⟩]) (clock+1))))
 |none=>none
def eJ(P:Program)(s:S)(ty:TypeId)(m k x:Option V):Option Nx:=match m with
 |some (.map r)=>match k with
  |some k=>match x with
   |some x=>match P.underlying ty with
    |some (.map kt _)=>match s.get r with
     |some (.map es clock)=>bif dJ P kt then vc s r k x es clock (cE (cF P (bz s) 20 kt) k x es)else none
     |_=>none
    |_=>none
   |none=>none
  |none=>none
 |_=>none
def eI(P:Program)(ty:TypeId)(ok:Bool):Option V:=bif ok then match zero P ty with
 |some z=>some (.tuple [z,.bool false])
 |none=>none
 else none
def kw(P:Program)(x:Option V)(ty:TypeId)(ok:Bool):Option V:=match P.underlying ty with
 |some (.interface _)=>none
 |some _=>match x with
  |some .nilIface=>eI P ty ok
  |some (.iface t v)=>bif Nat.beq t ty then some (bif ok then .tuple [v,.bool true] else v)else eI P ty ok
  |_=>none
 |none=>none
def nU(x:Option V)(i:Nat):Option V:=match x with
 |some (.tuple vs)=>vs[i]?
 |_=>none
def JP(E:cU)(s:S)(args:List V)(f:Option V):Option Nx:=match f with
 |some (.func fn first cap)=>match fn with
  |.func g=>JQ E g (first++(args++cap)) s
  |.yield l=>some (.round l (first++args) s)
  |_=>none
 |_=>none
def gy(E:cU)(t:T V)(s:S)(ts:Array TypeId)(args:Option (List V))(c:Callee):Option Nx:=match args with
 |some args=>match c with
  |.builtin b=>iv E.P b ts args s
  |.value f=>JP E s args (eval t f)
  |.invoke _ _=>none
 |none=>none
def CS(s:S)(args:List V)(f:Option V):Option Nx:=match f with
 |some (.func fn first cap)=>some (.defer (.call fn cap (first++args)) s)
 |_=>none
def nW(t:T V)(s:S)(args:Option (List V))(c:Callee):Option Nx:=match args with
 |some args=>match c with
  |.value f=>CS s args (eval t f)
  |_=>none
 |none=>none
def vz(s:S)(x:Option V):Option Nx:=match x with
 |some (.iface t v)=>some (.panic (.iface t v) s)
 |_=>none
def cS:Op->cU->T V->S->Option Nx
 |.move x,_,t,s=>bj s (eval t x)
 |.assign x,_,t,s=>bj s (eval t x)
 |.pick c a b,_,t,s=>lC t s c a b
 |.alloc elem,E,_,s=>iG E.P s elem
 |.box elem x,_,t,s=>qZ s elem (eval t x)
 |.build ty parts,E,t,s=>bj s (nV E.P ty (dP t parts.toList))
 |.buildSlice ty len parts,E,t,s=>ce E.P s ty len (dP t parts.toList)
 |.load ty x,E,t,s=>ii E.P s ty (eval t x)
 |.store ty x y,E,t,s=>qU E.P s ty (eval t x) (eval t y)
 |.nilCheck x,_,t,s=>bj s (lE (eval t x))
 |.binOp op ty x y _,E,t,s=>bj s (fp E.P s op ty x y (eval t x) (eval t y))
 |.unOp op _ x,_,t,s=>bj s (Vb op (eval t x))
 |.convert src dst x,E,t,s=>ga E.P s src dst (eval t x)
 |.makeInterface ty x,E,t,s=>bj s (nR E.P ty (eval t x))
 |.makeFunc fn first cap,_,t,s=>bj s (qW fn (gn t first.toList) (gn t cap.toList))
 |.makeMap _ none,_,_,s=>some (.val (.map s.next) (s.alloc (.map [] 0)))
 |.makeSlice ty l c,E,t,s=>dR E.P s ty (dG (eval t l)) (dG (eval t c))
 |.slice ty x lo hi mx,E,t,s=>bj s (vw E.P ty (eval t x) (kl t lo) (kl t hi) (kl t mx))
 |.fieldAddr ty x f,E,t,s=>bj s (gT E.P ty (eval t x) f)
 |.field ty x f,E,t,s=>bj s (qY E.P ty (eval t x) f)
 |.indexAddr ty x i,E,t,s=>bj s (fF E.P ty (eval t x) (dG (eval t i)))
 |.index ty x i,E,t,s=>bj s (nT E.P ty (eval t x) (dG (eval t i)))
 |.lookup ty x k ok,E,t,s=>bj s (jc E.P s ty (eval t x) (eval t k) ok)
 |.mapUpdate ty m k x,E,t,s=>eJ E.P s ty (eval t m) (eval t k) (eval t x)
 |.insert ty m k x,E,t,s=>eJ E.P s ty (eval t m) (eval t k) (eval t x)
 |.typeAssert x _ ty ok,E,t,s=>bj s (kw E.P (eval t x) ty ok)
 |.extract x i,_,t,s=>bj s (nU (eval t x) i)
 |.call c,E,t,s=>gy E t s c.argTypes (gn t c.args.toList) c.callee
 |.defer c,_,t,s=>nW t s (gn t c.args.toList) c.callee
 |.panic x,_,t,s=>vz s (eval t x)
 |_,_,_,_=>none
def cT(E:cU)(t:T V)(s:S)(o:Oper):Option Nx:=cS o.op E t s
def nH(P:Program)(t:T V)(s:S):ResultVar->Option V
 |.tmp i=>t.get (et i)
 |.cell a ty=>match t.get (et a)with
  |some (.ptr a)=>loadVar P s ty a
  |_=>none
def jo(P:Program)(t:T V)(s:S):List ResultVar->Option (List V)
 |[]=>some []
 |x::r=>match nH P t s x with
  |some v=>match jo P t s r with
   |some l=>some (v::l)
   |none=>none
  |none=>none
def wp:List V->V
 |[v]=>v
 |vs=>.tuple vs
def qe(P:Program)(fn:Func)(t:T V)(s:S):Option V:=match jo P t s fn.results.toList with
 |some l=>some (wp l)
 |none=>none
def ix:Md->Md
 |.panicking (⟨_,true⟩::_)=>.returning
 |m=>m
def qj(m:Md)(c:List Dt):Md:=match m with
 |.panicking old=>.panicking (c++old)
 |_=>.panicking c
def jw{β:Type}:List V->Nat->T V->(T V->β)->β
 |[],_,t,k=>k t
 |x::r,i,t,k=>t.setK (some x) (et i) fun t=>jw r (i+1) t k
structure eo where
 e:XM
 up:Option Md
 s:S
abbrev Go:=T V->List Item->List dX->Md->Option Md->Option Nat->S->Option eo
def lr(go:Go)(t:T V)(ds:List dX)(up:Option Md)(rd:Option Nat)(s:S)(jump:Option Code):Option eo :=
 match rd with
 |none=>match jump with
  |none=>go t [] ds .returning up rd s
  |some .ret=>go t [] ds .returning up rd s
  |_=>none
 |some l=>match s.get l with
  |some (.loop _ _ f t ps a b d nt) =>
   some ⟨.returned (.bool jump.isNone),up,s.put l (.loop (bif jump.isNone then .ready else .done) jump f t ps a b d nt)⟩
  |_=>none
def cj{β:Type}:T V->List Tmp->List V->(T V->β)->β
 |t,p::ps,x::xs,k=>t.setK (some x) (et p) fun t=>cj t ps xs k
 |t,_,_,k=>k t
inductive kG where
 |on (t:T V) (ds:List dX) (up:Option Md) (s:S)
 |panicked (c:List Dt) (t:T V) (ds:List dX) (up:Option Md) (s:S)
abbrev gA:=FuncId->List V->Option Md->S->Option eo
abbrev zM:=Nat->List V->S->Option eo
abbrev RK:=T V->List dX->Option Md->S->Option kG
def eR(d:Option Tmp)(t:T V)(ds:List dX)(up:Option Md)(k:RK):Option eo->Option kG
 |some ⟨.returned v,_,s⟩=>lY t d (some v) fun t=>k t ds up s
 |some ⟨.panicked c,_,s⟩=>some (.panicked c t ds up s)
 |none=>none
def recovered(d:Option Tmp)(t:T V)(ds:List dX)(s:S)(k:RK):Option Md->Option kG
 |some (.panicking (⟨v,false⟩::older))=>lY t d (some v) fun t=>k t ds (some (.panicking (⟨v,true⟩::older))) s
 |some m=>lY t d (some .nilIface) fun t=>k t ds (some m) s
 |none=>none
def dE(rec:gA)(recR:zM)(rd:Option Nat)(d:Option Tmp)(t:T V)(ds:List dX)(up:Option Md)(k:RK):Option Nx->Option kG
 |some (.val v s)=>lY t d (some v) fun t=>k t ds up s
 |some (.skip s)=>lY t d (some V.undef) fun t=>k t ds up s
 |some (.enter f args s)=>eR d t ds up k (rec f args none s)
 |some (.round l args s)=>eR d t ds up k (recR l args s)
 |some (.defer df s)=>bif rd.isSome then none else lY t d (some V.undef) fun t=>k t (df::ds) up s
 |some (.recover s)=>recovered d t ds s k up
 |some (.panic v s)=>some (.panicked [⟨v,false⟩] t ds up s)
 |none=>none
def pi(E:cU)(rec:gA)(recR:zM)(rd:Option Nat)(o:Oper)(t:T V)(ds:List dX)(up:Option Md)(s:S)(k:RK):Option Bool->Option kG
 |some true=>dE rec recR rd o.dst t ds up k (cT E t s o)
 |some false=>lY t o.dst (some V.undef) fun t=>k t ds up s
 |none=>none
def pd(E:cU)(ops:Array Oper)(rec:gA)(recR:zM)(rd:Option Nat):List Oper->RK
 |[]=>fun t ds up s=>some (.on t ds up s)
 |o::r=>fun t ds up s=>pi E rec recR rd o t ds up s (pd E ops rec recR rd r) (bw ops t o)
def aD(P:Program):Op->Nat
 |.load ..|.lookup ..=>1
 |.binOp op ..=>bif mJ op then 1 else 0
 |.alloc _|.box ..|.buildSlice ..|.makeMap ..|.makeSlice ..=>2
 |.convert _ dst _=>match P.underlying dst with
  |some (.slice _)=>2
  |some .string=>1
  |_=>0
 |.move _|.assign _|.pick ..|.build ..|.nilCheck _|.unOp ..|.makeInterface ..|.makeFunc ..|.slice ..|.fieldAddr ..|.field ..|.indexAddr ..|.index ..|.typeAssert ..|.extract ..=>0
 |.call c=>match c.callee with
  |.builtin .len|.builtin .cap|.builtin .max|.builtin .min=>1
  |_=>3
 |_=>3
def pn(o:Oper)(acc:List Nat):Nat :=
 o.after.toList.foldl (fun s e=>bif Region.binds .any e then Nat.lor s (Nat.lor (Nat.pow 2 e.on) (acc.getD e.on 0))else s) 0
def jv:List Oper->List Nat->List Nat
 |[],acc=>acc
 |o::r,acc=>jv r (acc++[pn o acc])
def sees(o:Oper):List Tmp:=o.op.operands.toList.filterMap fun|.tmp t=>some t|_=>none
def HC(ms:List Nat)(l:List (Nat×Oper)):Bool :=
 l.all fun(i,o) =>
  (o.after.toList.all fun e=>!(Region.binds .any e)||Nat.blt e.on i) &&
  (match o.guard with|some (g,_)=>(ms.getD i 0).testBit g|none=>true) &&
  l.all fun(j,q)=>Nat.beq i j||match q.dst with
   |none=>true
   |some d=>!(o.dst==some d)&&(!((sees o).contains d)||(ms.getD i 0).testBit j||(ms.getD j 0).testBit i)
def Be(ms:List Nat):List Nat->Bool
 |a::b::r=>(ms.getD b 0).testBit a&&Be ms (b::r)
 |_=>true
def qS(P:Program)(l:List (Nat×Oper)):List (Nat×Oper):=l.filter fun(_,o)=>Nat.beq (aD P o.op) 3
def aR:List V->List V->Bool
 |[],[]=>true
 |x::r,y::q=>sameV x y&&aR r q
 |_,_=>false
 where sameV:V->V->Bool
  |.bool a,.bool b=>a==b
  |.int j a,.int k b=>j==k&&a==b
  |.str a,.str b=>a==b
  |.ptr a,.ptr b=>Nat.beq a.f b.f&&Nat.beq a.v b.v&&Nat.beq a.c b.c
  |.nilptr,.nilptr=>true
  |.slice a z n c sz,.slice b y m d sy=>Nat.beq a.f b.f&&Nat.beq a.v b.v&&Nat.beq a.c b.c&&Nat.beq z y&&Nat.beq n m&&c==d&&Nat.beq sz sy
  |.nilslice,.nilslice=>true
  |.map a,.map b=>Nat.beq a b
  |.nilmap,.nilmap=>true
  |.nilFunc,.nilFunc=>true
  |.nilIface,.nilIface=>true
  |.func f a b,.func g c d=>decide (f=g)&&aR a c&&aR b d
  |.iface t v,.iface u w=>Nat.beq t u&&sameV v w
  |.agg a,.agg b=>aR a b
  |.tuple a,.tuple b=>aR a b
  |.atom a,.atom b=>Nat.beq a b
  |_,_=>false
def fO(E:cU)(t:T V)(o:Oper):List S->Option V
 |[]=>none
 |[s]=>match cT E t s o with
  |some (.val v _)=>some v
  |_=>none
 |s::r=>match cT E t s o with
  |some (.val v _)=>match fO E t o r with
   |some w=>bif aR [v] [w] then some v else none
   |none=>none
  |_=>none
def mK(m:Nat):List (Nat×S)->List S
 |[]=>[]
 |(e,s)::r=>s::(bif m.testBit e then [] else mK m r)
def uY(s:S):Option Nx->Option (V×S)
 |some (.val v _)=>some (v,s)
 |_=>none
def uZ:Option Nx->Option (V×S)
 |some (.val v s)=>some (v,s)
 |_=>none
def qh(s:S):Option V->Option (V×S)
 |some v=>some (v,s)
 |none=>none
def CC(E:cU)(hist:List (Nat×S))(m:Nat)(t:T V)(s:S)(o:Oper):Nat->Option (V×S)
 |0=>uY s (cT E t s o)
 |1=>qh s (fO E t o (mK m hist))
 |2=>uZ (cT E t s o)
 |_=>none
def iM(E:cU)(hist:List (Nat×S))(m:Nat)(t:T V)(s:S)(o:Oper):Option Bool->Option (V×S)
 |some true=>CC E hist m t s o (aD E.P o.op)
 |some false=>some (V.undef,s)
 |none=>none
def cw(E:cU)(ops:Array Oper)(ms:List Nat)(effs:Nat)(hist:List (Nat×S))(m:Nat):List (Nat×Oper)->Nat->T V->S->Option (Nat×T V×S)
 |[],done,t,s=>some (done,t,s)
 |(i,o)::r,done,t,s =>
  bif !(m.testBit i)||done.testBit i then cw E ops ms effs hist m r done t s
  else bif effs.testBit i then none
  else match iM E hist (ms.getD i 0) t s o (bw ops t o)with
   |some (v,s)=>lY t o.dst (some v) fun t=>cw E ops ms effs hist m r (Nat.lor done (Nat.pow 2 i)) t s
   |none=>none
def sK:Option eo->Option (V×S)
 |some ⟨.returned v,_,s⟩=>some (v,s)
 |_=>none
def km(rec:gA):Option Nx->Option (V×S)
 |some (.val v s)=>some (v,s)
 |some (.skip s)=>some (V.undef,s)
 |some (.enter f args s)=>sK (rec f args none s)
 |_=>none
def eU(E:cU)(rec:gA)(t:T V)(s:S)(o:Oper):Option Bool->Option (V×S)
 |some true=>km rec (cT E t s o)
 |some false=>some (V.undef,s)
 |none=>none
inductive LC where
 |val (v:V) (s:S)
 |pan (c:List Dt) (s:S)
def qT:Option eo->Option LC
 |some ⟨.returned v,_,s⟩=>some (.val v s)
 |some ⟨.panicked c,_,s⟩=>some (.pan c s)
 |none=>none
def pD(rec:gA):Option Nx->Option LC
 |some (.val v s)=>some (.val v s)
 |some (.skip s)=>some (.val V.undef s)
 |some (.enter f args s)=>qT (rec f args none s)
 |some (.panic v s)=>some (.pan [⟨v,false⟩] s)
 |_=>none
def jP(E:cU)(rec:gA)(t:T V)(s:S)(o:Oper):Option Bool->Option LC
 |some true=>pD rec (cT E t s o)
 |some false=>some (.val V.undef s)
 |none=>none
def dO(ms:List Nat)(i:Nat):List (Nat×Oper)->Nat
 |[]=>0
 |(k,_)::r=>bif (ms.getD k 0).testBit i||Nat.beq k i then dO ms i r else Nat.lor (Nat.pow 2 k) (dO ms i r)
def fo(done:Nat):List (Nat×Oper)->T V->T V
 |[],t=>t
 |(k,o)::r,t=>bif done.testBit k then fo done r t else match o.dst with
  |some d=>t.setK none (et d) fun t=>fo done r t
  |none=>fo done r t
def MU(ds:List dX)(up:Option Md)(done:Nat)(all:List (Nat×Oper))(t:T V)(c:List Dt)(s:S):Option (Nat×T V×S)->Option kG
 |some _=>some (.panicked c (fo done all t) ds up s)
 |none=>none
def fN(E:cU)(ops:Array Oper)(ms:List Nat)(effs:Nat)(all:List (Nat×Oper))(rec:gA)(ds:List dX)(up:Option Md) :
 List (Nat×Oper)->List (Nat×S)->Nat->T V->S->Option kG
 |[],hist,done,t,s =>
  match cw E ops ms effs hist (Nat.pow 2 ops.size - 1) all done t s with
  |some (_,t,s)=>some (.on t ds up s)
  |none=>none
 |(i,o)::r,hist,done,t,s =>
  match cw E ops ms effs hist (ms.getD i 0) all done t s with
  |some (done,t,s) =>
   match jP E rec t s o (bw ops t o)with
   |some (.val v s')=>bif Nat.ble s.next s'.next&&!(done.testBit i)&&effs.testBit i then lY t o.dst (some v) fun t=>fN E ops ms effs all rec ds up r ((i,s')::hist) (Nat.lor done (Nat.pow 2 i)) t s' else none
   |some (.pan c s')=>bif done.testBit i then none else MU ds up done all t c s' (cw E ops ms effs hist (dO ms i all) all done t s)
   |none=>none
  |none=>none
def cK:List Oper->Nat->List (Nat×Oper)
 |[],_=>[]
 |o::r,i=>(i,o)::cK r (i+1)
structure Vt where
 ms:List Nat
 all:List (Nat×Oper)
 effs:List (Nat×Oper)
 mask:Nat
def MR(P:Program)(ops:Array Oper):Option Vt :=
 let l:=cK ops.toList 0
 let ms:=jv ops.toList []
 let es:=qS P l
 bif HC ms l&&Be ms (es.map (·.1))then some ⟨ms,l,es,es.foldl (fun s x=>Nat.lor s (Nat.pow 2 x.1)) 0⟩else none
def gL(E:cU)(ops:Array Oper)(rec:gA)(_recR:zM)(t:T V)(ds:List dX)(up:Option Md)(s:S):Option kG :=
 match MR E.P ops with
 |some ⟨ms,l,es,mask⟩=>fN E ops ms mask l rec ds up es [(ops.size,s)] 0 t s
 |none=>none
abbrev SZ:=cU->FuncId->Func->Go->gA->zM->List Item->T V->List dX->Option Md->Option Nat->S->Option eo
def CY(go:Go)(k:List Item)(t:T V)(ds:List dX)(up:Option Md)(rd:Option Nat)(s:S)(a b:Code):Option V->Option eo
 |some (.bool q)=>go t (.code (bif q then a else b)::k) ds .run up rd s
 |_=>none
def pt(go:Go)(t:T V)(ds:List dX)(up:Option Md)(rd:Option Nat)(s:S)(c:Code):Option (List Item)->Option eo
 |some k=>go t k ds .run up rd s
 |none=>lr go t ds up rd s (some c)
def gM(go:Go)(k:List Item)(rd:Option Nat):Option kG->Option eo
 |some (.on t ds up s)=>go t k ds .run up rd s
 |some (.panicked c t ds up s)=>go t k ds (.panicking c) up rd s
 |none=>none
def qB(go:Go)(k:List Item)(t:T V)(ds:List dX)(up:Option Md)(rd:Option Nat)(d l:Nat)(s:S):Option dB->Option eo
 |some (.loop st pend f' t' ps' a' b' d' nt)=>match st with
  |.busy=>none
  |_=>go t ((pend.map Item.code).toList++k) (.collected d::ds) .run up rd (s.put l (.loop .exhausted pend f' t' ps' a' b' d' nt))
 |_=>none
def jp(go:Go)(k:List Item)(t:T V)(ds:List dX)(up:Option Md)(rd:Option Nat)(d l:Nat):Option eo->Option eo
 |some ⟨.returned _,_,s⟩=>qB go k t ds up rd d l s (s.get l)
 |some ⟨.panicked c,_,s⟩=>go t k (.collected d::ds) (.panicking c) up rd s
 |none=>none
def fC(f:FuncId)(nt:Nat)(go:Go)(rec:gA)(k:List Item)(t:T V)(ds:List dX)(up:Option Md)(rd:Option Nat)(s:S)
 (ps:Array Tmp) (assign body:Code):Option V->Option eo
 |some (.func fn first cap)=>match fn with
  |.func g=>match rd with
   |none =>
    let d:=s.next
    let s:=s.alloc .deferred
    let l:=s.next
    jp go k t ds up rd d l (rec g (first++([.func (.yield l) [] []]++cap)) none (s.alloc (.loop .ready none f t ps assign body d nt)))
   |some _=>none
  |_=>none
 |_=>none
def kn(ops:Array Oper)(n:Nat):Bool:=ops.toList.all fun o=>match o.dst with
 |some d=>Nat.blt d n
 |none=>true
def cQ:Code->SZ
 |.ret=>fun _ _ _ go _ _ _ t ds up rd s=>lr go t ds up rd s (some .ret)
 |.skip=>fun _ _ _ go _ _ k t ds up rd s=>go t k ds .run up rd s
 |.label _=>fun _ _ _ go _ _ k t ds up rd s=>go t k ds .run up rd s
 |.seq a b=>fun _ _ _ go _ _ k t ds up rd s=>go t (.code a::.code b::k) ds .run up rd s
 |.cond c a b=>fun _ _ _ go _ _ k t ds up rd s=>CY go k t ds up rd s a b (eval t c)
 |.block id c=>fun _ _ _ go _ _ k t ds up rd s=>go t (.code c::.inBlock id::k) ds .run up rd s
 |.loop c=>fun _ _ _ go _ _ k t ds up rd s=>go t (.code c::.inLoop c::k) ds .run up rd s
 |.scope c=>fun _ _ _ go _ _ k t ds up rd s=>go t (.code c::.inScope c::k) ds .run up rd s
 |.exit id=>fun _ _ _ go _ _ k t ds up rd s=>pt go t ds up rd s (.exit id) (exitTo id k)
 |.goto l=>fun _ _ _ go _ _ k t ds up rd s=>pt go t ds up rd s (.goto l) (gotoIn l k)
 |.rangeFunc g ps assign body=>fun _ f fn go rec _ k t ds up rd s=>fC f fn.ntmps go rec k t ds up rd s ps assign body (eval t g)
 |.region _ ops true=>fun E _ fn go rec recR k t ds up rd s=>bif kn ops fn.ntmps then gM go k rd (gL E ops rec recR t ds up s)else none
 |.region _ ops false=>fun E _ fn go rec recR k t ds up rd s=>bif kn ops fn.ntmps then gM go k rd (pd E ops rec recR rd ops.toList t ds up s)else none
 |.refuse _=>fun _ _ _ _ _ _ _ _ _ _ _ _=>none
def vC(go:Go)(k:List Item)(t:T V)(ds:List dX)(up:Option Md)(rd:Option Nat)(l:Nat)(s:S):Option dB->Option eo
 |some (.loop .ready pend f t' ps a b d nt)=>go t k ds .run up rd (s.put l (.loop .busy pend f t' ps a b d nt))
 |_=>none
def kg:Item->SZ
 |.code c=>cQ c
 |.inBlock _=>fun _ _ _ go _ _ k t ds up rd s=>go t k ds .run up rd s
 |.inScope _=>fun _ _ _ go _ _ k t ds up rd s=>go t k ds .run up rd s
 |.inLoop c=>fun _ _ _ go _ _ k t ds up rd s=>go t (.code c::.inLoop c::k) ds .run up rd s
 |.beginRound=>fun _ _ _ go _ _ k t ds up rd s=>match rd with
  |some l=>vC go k t ds up (some l) l s (s.get l)
  |none=>none
 |_=>fun _ _ _ _ _ _ _ _ _ _ _ _=>none
def mg:List Item->cU->FuncId->Func->Go->gA->zM->T V->List dX->Option Md->Option Nat->S->Option eo
 |[]=>fun _ _ _ go _ _ t ds up rd s=>lr go t ds up rd s none
 |i::k=>fun E f fn go rec recR t ds up rd s=>kg i E f fn go rec recR k t ds up rd s
def je(go:Go)(t:T V)(ds:List dX)(up:Option Md)(rd:Option Nat):Option eo->Option eo
 |some ⟨.returned _,some u,s⟩=>match u with
  |.run=>none
  |u=>go t [] ds (ix u) up rd s
 |some ⟨.panicked c,some u,s⟩=>go t [] ds (qj u c) up rd s
 |_=>none
def jC(go:Go)(t:T V)(ds:List dX)(m:Md)(up:Option Md)(rd:Option Nat)(s:S)(d:Nat):Option dB->Option eo
 |some .deferred=>go t [] ds m up rd (s.put d .gone)
 |_=>none
def MC(up:Option Md)(s:S):Option V->Option eo
 |some v=>some ⟨.returned v,up,s⟩
 |none=>none
def si(E:cU)(fn:Func)(t:T V)(up:Option Md)(s:S):Md->Option eo
 |.returning=>MC up s (qe E.P fn t s)
 |.panicking c=>some ⟨.panicked c,up,s⟩
 |.run=>none
def cV:List dX->cU->Func->Go->gA->T V->Md->Option Md->Option Nat->S->Option eo
 |.collected d::ds=>fun _ _ go _ t m up rd s=>jC go t ds m up rd s d (s.get d)
 |.call (.func f) captured args::ds=>fun _ _ go rec t m up rd s=>je go t ds up rd (rec f (args++captured) (some m) s)
 |.call _ _ _::_=>fun _ _ _ _ _ _ _ _ _=>none
 |[]=>fun E fn _ _ t m up _ s=>si E fn t up s m
def fE(E:cU)(f:FuncId)(fn:Func)(go:Go)(rec:gA)(recR:zM)(t:T V)(todo:List Item)(ds:List dX)(m:Md)(up:Option Md)(rd:Option Nat)(s:S):Option eo :=
 match m with
 |.run=>mg todo E f fn go rec recR t ds up rd s
 |.returning=>cV ds E fn go rec t .returning up rd s
 |.panicking c=>cV ds E fn go rec t (.panicking c) up rd s
inductive rG where
 |frame (f:FuncId) (fn:Func) (t:T V) (todo:List Item) (ds:List dX) (m:Md) (up:Option Md) (rd:Option Nat)
 |call (f:FuncId) (args:List V) (up:Option Md)
 |round (l:Nat) (args:List V)
def fI(ih:rG->S->Option eo)(f:FuncId)(fn:Func):Go:=fun t todo ds m up rd s=>ih (.frame f fn t todo ds m up rd) s
def bt(ih:rG->S->Option eo):gA:=fun g args up s=>ih (.call g args up) s
def dL(ih:rG->S->Option eo):zM:=fun l args s=>ih (.round l args) s
def sI(ih:rG->S->Option eo)(f:FuncId)(args:List V)(up:Option Md)(s:S):Option Func->Option eo
 |some fn=>match fn.body with
  |some c=>bif fn.name == "runtime.NumGoroutine" then none else jw args 0 .leaf fun t=>ih (.frame f fn t [.code c] [] .run up none) s
  |none=>none
 |none=>none
def yB(ih:rG->S->Option eo)(f:FuncId)(args:List V)(up:Option Md)(s:S)(fn:Option Func):Option (V×S)->Option eo
 |some (v,s)=>some ⟨.returned v,up,s⟩
 |none=>sI ih f args up s fn
def wb(E:cU)(ih:rG->S->Option eo)(l:Nat)(args:List V)(s:S):Option dB->Option eo
 |some (.loop _ _ f t ps assign body _ nt)=>match E.P.funcs[f]? with
  |some fn=>bif Nat.ble fn.ntmps nt&&Nat.beq ps.size args.length&&ps.toList.all (fun p=>Nat.blt p nt)then
   cj t ps.toList args fun t=>ih (.frame f fn t [.code assign,.beginRound,.code body] [] .run none (some l)) s
   else none
  |none=>none
 |_=>none
def eB(E:cU)(ih:rG->S->Option eo):rG->S->Option eo
 |.frame f fn t todo ds m up rd,s=>fE E f fn (fI ih f fn) (bt ih) (dL ih) t todo ds m up rd s
 |.call f args up,s=>yB ih f args up s (E.P.funcs[f]?) (match up with|none=>E.orc f args s|some _=>none)
 |.round l args,s=>wb E ih l args s (s.get l)
def pf(E:cU)(n:Nat):rG->S->Option eo :=
 Nat.rec (motive:=fun _=>rG->S->Option eo) (fun _ _=>none) (fun _ ih j s=>eB E ih j s) n
end Go.AI
namespace Go.AI
theorem MQ:∀(n k n' k':Nat),k<=n->k'<=n'->zr n k=zr n' k'->k=k':=by
 intro n
 induction n with
 |zero =>
  intro k n' k' hk hk' h
  obtain rfl:k=0:=by omega
  cases n' with
  |zero=>omega
  |succ n' =>
   cases k' with
   |zero=>rfl
   |succ m =>
    simp only[zr]at h
    cases hb:Nat.beq (Nat.mod m 2) 1<;>simp[hb]at h
 |succ n ih =>
  intro k n' k' hk hk' h
  cases k with
  |zero =>
   cases n' with
   |zero=>omega
   |succ n' =>
    cases k' with
    |zero=>rfl
    |succ m =>
     simp only[zr]at h
     cases hb:Nat.beq (Nat.mod m 2) 1<;>simp[hb]at h
  |succ m =>
   cases n' with
   |zero =>
    obtain rfl:k'=0:=by omega
    simp only[zr]at h
    cases hb:Nat.beq (Nat.mod m 2) 1<;>simp[hb]at h
   |succ n' =>
    cases k' with
    |zero =>
     simp only[zr]at h
     cases hb:Nat.beq (Nat.mod m 2) 1<;>simp[hb]at h
    |succ m' =>
     simp only[zr]at h
     have hd:∀ x:Nat,Nat.div x 2=x / 2:=fun _=>rfl
     have hm:∀ x:Nat,Nat.mod x 2=x%2:=fun _=>rfl
     cases hb:Nat.beq (Nat.mod m 2) 1<;>cases hb':Nat.beq (Nat.mod m' 2) 1<;>simp[hb,hb']at h
     ·have h1:=ih (Nat.div m 2) n' (Nat.div m' 2) (by rw[hd];omega) (by rw[hd];omega) h
      rw[hd,hd]at h1
      rw[hm]at hb hb'
      have e1:¬ m%2=1:=fun e=>by rw[e]at hb;simp at hb
      have e2:¬ m'%2=1:=fun e=>by rw[e]at hb';simp at hb'
      omega
     ·have h1:=ih (Nat.div m 2) n' (Nat.div m' 2) (by rw[hd];omega) (by rw[hd];omega) h
      rw[hd,hd]at h1
      rw[hm]at hb hb'
      have e1:m%2=1:=Nat.eq_of_beq_eq_true hb
      have e2:m'%2=1:=Nat.eq_of_beq_eq_true hb'
      omega
theorem Qi{k k':Nat}(h:et k=et k'):k=k':=MQ k k k' k' (Nat.le_refl _) (Nat.le_refl _) h
namespace T
variable{α:Type}
section
variable{β:Type}(x:Option α)(p:Ds)(l r:T α)(v:Option α)(k:T α->β)
theorem get_leaf(p:Ds):(T.leaf:T α).get p=none:=by cases p<;>rfl
theorem get_o:(T.node l v r).get .o=v:=rfl
theorem get_l:(T.node l v r).get (.l p)=l.get p:=rfl
theorem get_r:(T.node l v r).get (.r p)=r.get p:=rfl
theorem mm:setK x (.l p) .leaf k=setK x p .leaf fun t=>k (.node t none .leaf):=rfl
theorem ml:setK x (.l p) (.node l v r) k=setK x p l fun t=>k (.node t v r):=rfl
theorem mj:setK x (.r p) .leaf k=setK x p .leaf fun t=>k (.node .leaf none t):=rfl
theorem mi:setK x (.r p) (.node l v r) k=setK x p r fun t=>k (.node l v t):=rfl
end
def set(x:Option α)(p:Ds)(t:T α):T α:=setK x p t id
theorem Mq(x:Option α):∀(p:Ds) (β:Type) (t:T α) (k:T α->β),setK x p t k=k (setK x p t id):=by
 intro p
 induction p with
 |o=>intro β t k;cases t<;>rfl
 |l p ih =>
  intro β t k
  cases t with
  |leaf=>rw[mm,mm,ih β,ih (T α) .leaf (fun t=>id (T.node t none .leaf))];rfl
  |node l v r=>rw[ml,ml,ih β,ih (T α) l (fun t=>id (T.node t v r))];rfl
 |r p ih =>
  intro β t k
  cases t with
  |leaf=>rw[mj,mj,ih β,ih (T α) .leaf (fun t=>id (T.node .leaf none t))];rfl
  |node l v r=>rw[mi,mi,ih β,ih (T α) r (fun t=>id (T.node l v t))];rfl
theorem setK_eq{β:Type}(x:Option α)(p:Ds)(t:T α)(k:T α->β):setK x p t k=k (set x p t):=Mq x p β t k
theorem kV(x:Option α)(p:Ds):set x (.l p) .leaf=.node (set x p .leaf) none .leaf:=by unfold set;rw[mm,setK_eq];rfl
theorem kR(x:Option α)(p:Ds):set x (.r p) .leaf=.node .leaf none (set x p .leaf):=by unfold set;rw[mj,setK_eq];rfl
theorem kU(x:Option α)(p:Ds)(l r:T α)(v:Option α):set x (.l p) (.node l v r)=.node (set x p l) v r:=by unfold set;rw[ml,setK_eq];rfl
theorem kQ(x:Option α)(p:Ds)(l r:T α)(v:Option α):set x (.r p) (.node l v r)=.node l v (set x p r):=by unfold set;rw[mi,setK_eq];rfl
theorem vW(x:Option α):set x .o .leaf=.node .leaf x .leaf:=rfl
theorem vV(x:Option α)(l r:T α)(v:Option α):set x .o (.node l v r)=.node l x r:=rfl
theorem get_set_same(x:Option α):∀(p:Ds) (t:T α),(set x p t).get p=x:=by
 intro p
 induction p with
 |o=>intro t;cases t<;>rfl
 |l p ih=>intro t;cases t<;>simp[kV,kU,get_l,ih]
 |r p ih=>intro t;cases t<;>simp[kR,kQ,get_r,ih]
theorem zA(x:Option α):∀(p q:Ds) (t:T α),p≠q->(set x p t).get q=t.get q:=by
 intro p
 induction p with
 |o =>
  intro q t h
  cases q with
  |o=>exact absurd rfl h
  |l q=>cases t<;>simp[vW,vV,get_l,get_leaf]
  |r q=>cases t<;>simp[vW,vV,get_r,get_leaf]
 |l p ih =>
  intro q t h
  cases q with
  |o=>cases t<;>simp[kV,kU,get_o,get_leaf]
  |l q =>
   have h':p≠q:=fun e=>h (by rw[e])
   cases t<;>simp[kV,kU,get_l,ih q _ h',get_leaf]
  |r q=>cases t<;>simp[kV,kU,get_r,get_leaf]
 |r p ih =>
  intro q t h
  cases q with
  |o=>cases t<;>simp[kR,kQ,get_o,get_leaf]
  |r q =>
   have h':p≠q:=fun e=>h (by rw[e])
   cases t<;>simp[kR,kQ,get_r,ih q _ h',get_leaf]
  |l q=>cases t<;>simp[kR,kQ,get_l,get_leaf]
theorem get_setN(x:Option α)(i j:Nat)(t:T α):(set x (et i) t).get (et j)=if i=j then x else t.get (et j):=by
 by_cases h:i=j
 ·subst h;simp[get_set_same]
 ·rw[if_neg h];exact zA x _ _ t (fun e=>h (Qi e))
end T
theorem AS{β:Type}(n:Nat)(k:Nat->β):CA n k=k n:=by cases n<;>rfl
theorem KP{β:Type}(n:Int)(k:Int->β):Hm n k=k n:=by cases n<;>simp[Hm,AS]
theorem cb(k:IntKind)(n:Int):lS k n=.int k n:=KP n _
theorem S.put_eq(s:S)(f:Nat)(b:dB):s.put f b=⟨s.h.set (some b) (et f),s.next⟩:=by
 cases s;simp only[S.put];rw[T.setK_eq]
theorem S.alloc_eq(s:S)(b:dB):s.alloc b=⟨s.h.set (some b) (et s.next),s.next+1⟩:=by
 cases s;simp only[S.alloc];rw[T.setK_eq,AS]
theorem S.get_eq(s:S)(f:Nat):s.get f=s.h.get (et f):=by cases s;rfl
theorem S.get_put(s:S)(f g:Nat)(b:dB):(s.put f b).get g=if f=g then some b else s.get g:=by
 rw[S.put_eq,S.get_eq,S.get_eq,T.get_setN]
theorem S.get_alloc(s:S)(g:Nat)(b:dB):(s.alloc b).get g=if s.next=g then some b else s.get g:=by
 rw[S.alloc_eq,S.get_eq,S.get_eq,T.get_setN]
theorem S.next_put(s:S)(f:Nat)(b:dB):(s.put f b).next=s.next:=by rw[S.put_eq]
theorem S.next_alloc(s:S)(b:dB):(s.alloc b).next=s.next+1:=by rw[S.alloc_eq]
theorem Qh{β:Type}(t:T V)(d:Option Tmp)(v:Option V)(k:T V->β):lY t d v k=k (lY t d v id):=by
 cases d with
 |none=>rfl
 |some i=>simp only[lY];rw[T.setK_eq,T.setK_eq];rfl
theorem Of(t:T V)(d:Option Tmp)(v:Option V)(i:Nat):(lY t d v id).get (et i)=if d=some i then v else t.get (et i):=by
 cases d with
 |none=>simp[lY]
 |some j=>simp only[lY];rw[T.setK_eq];simp only[id];rw[T.get_setN];simp
end Go.AI
namespace Go.AI
structure ze where
 b:Nat
 base:Nat
 lim:Nat
def ze.ro(l:ze):Prop:=l.lim<l.base
abbrev aB:=Nat->Nat->Option ze
def aB.le(ρ ρ':aB):Prop:=∀ f v l,ρ f v=some l->ρ' f v=some l
theorem aB.le_refl(ρ:aB):ρ.le ρ:=fun _ _ _ h=>h
theorem aB.le_trans{a b c:aB}(h:a.le b)(k:b.le c):a.le c:=fun _ _ _ x=>k _ _ _ (h _ _ _ x)
def ay(l:List Nat):ByteArray:=⟨(l.map UInt8.ofNat).toArray⟩
def gw(ρ:aB)(a:Ad):Option Addr:=match ρ a.f a.v with
 |some l=>if l.base<=a.c then some ⟨l.b,a.c - l.base,none⟩else none
 |none=>none
def lW(ρ:aB):Fn->Option Fn
 |.yield l=>match ρ l 0 with
  |some x=>some (.yield x.b)
  |none=>none
 |f=>some f
def bT(l:ze)(a:Ad)(cap:Option Nat)(sz:Nat):Nat:=match cap with
 |some c=>c
 |none=>(l.lim - a.c) / sz
def ba(l:ze)(a:Ad)(z:Nat)(cap:Option Nat)(sz:Nat):Nat:=match cap with
 |some _=>a.c
 |none=>if(l.lim - a.c) / sz=0 then z else a.c
def IH:Nat->Option Nat
 |0=>none
 |n+1=>some n
def gp(ρ:aB)(a:Ad)(z len:Nat)(cap:Option Nat)(sz:Nat):Option Value:=if sz=0 then(if len=0/\cap=some 0 then some (.slice (some ⟨a.f,a.c,IH a.v⟩) 0 0)else none)else match ρ a.f a.v with
 |some l=>if l.base<=ba l a z cap sz/\l.base<=a.c/\len<=bT l a cap sz/\0<sz then
  some (.slice (some ⟨l.b,ba l a z cap sz - l.base,none⟩) len (bT l a cap sz))else none
 |none=>none
mutual
def den(ρ:aB):V->Option Value
 |.bool b=>some (.bool b)
 |.int k n=>some (.int k n)
 |.str l=>some (.string (ay l))
 |.ptr a=>match gw ρ a with
  |some x=>some (.pointer (some x))
  |none=>none
 |.nilptr=>some (.pointer none)
 |.slice a z len cap sz=>gp ρ a z len cap sz
 |.nilslice=>some (.slice none 0 0)
 |.map r=>match ρ r 0 with
  |some l=>some (.map (some l.b))
  |none=>none
 |.nilmap=>some (.map none)
 |.func fn first cap=>match lW ρ fn with
  |some fn=>match aN ρ first with
   |some first=>match aN ρ cap with
    |some cap=>some (.func fn first.toArray cap.toArray)
    |none=>none
   |none=>none
  |none=>none
 |.nilFunc=>some .nilFunc
 |.iface t v=>match den ρ v with
  |some x=>some (.iface t x)
  |none=>none
 |.nilIface=>some .nilIface
 |.agg cs=>match aN ρ cs with
  |some l=>some (.agg l.toArray)
  |none=>none
 |.tuple cs=>match aN ρ cs with
  |some l=>some (.tuple l.toArray)
  |none=>none
 |.atom _=>none
def aN(ρ:aB):List V->Option (List Value)
 |[]=>some []
 |x::r=>match den ρ x with
  |some y=>match aN ρ r with
   |some l=>some (y::l)
   |none=>none
  |none=>none
end
theorem La{ρ ρ':aB}(h:ρ.le ρ'){a:Ad}{x:Addr}(e:gw ρ a=some x):gw ρ' a=some x:=by
 unfold gw at e ⊢
 cases hl:ρ a.f a.v with
 |none=>simp[hl]at e
 |some l=>rw[hl]at e;rw[h _ _ _ hl];exact e
theorem yo{ρ ρ':aB}(h:ρ.le ρ'){a x:Fn}(e:lW ρ a=some x):lW ρ' a=some x:=by
 cases a<;>try exact e
 rename_i l
 unfold lW at e ⊢
 cases hl:ρ l 0 with
 |none=>simp[hl]at e
 |some y=>simp only[hl]at e;simp only[h _ _ _ hl];exact e
mutual
theorem bk{ρ ρ':aB}(h:ρ.le ρ'):∀(v:V) (x:Value),den ρ v=some x->den ρ' v=some x
 |.atom _,_,e=>by simp only[den]at e;cases e
 |.bool _,_,e=>e
 |.int _ _,_,e=>e
 |.str _,_,e=>e
 |.ptr a,x,e=>by
  simp only[den]at e ⊢
  cases ha:gw ρ a with
  |none=>simp[ha]at e
  |some y=>rw[ha]at e;rw[La h ha];exact e
 |.nilptr,_,e=>e
 |.slice a z len cap sz,x,e=>by
  simp only[den,gp]at e ⊢
  by_cases hz:sz=0
  ·rw[if_pos hz]at e ⊢;exact e
  rw[if_neg hz]at e ⊢
  cases hl:ρ a.f a.v with
  |none=>simp[hl]at e
  |some l=>rw[hl]at e;rw[h _ _ _ hl];exact e
 |.nilslice,_,e=>e
 |.map r,x,e=>by
  simp only[den]at e ⊢
  cases hl:ρ r 0 with
  |none=>simp[hl]at e
  |some l=>rw[hl]at e;rw[h _ _ _ hl];exact e
 |.nilmap,_,e=>e
 |.func fn first cap,x,e=>by
  simp only[den]at e ⊢
  cases hf:lW ρ fn with
  |none=>simp[hf]at e
  |some g =>
   rw[hf]at e;rw[yo h hf]
   cases h1:aN ρ first with
   |none=>simp[h1]at e
   |some l =>
    cases h2:aN ρ cap with
    |none=>simp[h1,h2]at e
    |some m=>simp only[h1,h2]at e;simp only[eV h first l h1,eV h cap m h2];exact e
 |.nilFunc,_,e=>e
 |.iface t v,x,e=>by
  simp only[den]at e ⊢
  cases hv:den ρ v with
  |none=>simp[hv]at e
  |some y=>rw[hv]at e;rw[bk h v y hv];exact e
 |.nilIface,_,e=>e
 |.agg cs,x,e=>by
  simp only[den]at e ⊢
  cases hl:aN ρ cs with
  |none=>simp[hl]at e
  |some l=>rw[hl]at e;rw[eV h cs l hl];exact e
 |.tuple cs,x,e=>by
  simp only[den]at e ⊢
  cases hl:aN ρ cs with
  |none=>simp[hl]at e
  |some l=>rw[hl]at e;rw[eV h cs l hl];exact e
theorem eV{ρ ρ':aB}(h:ρ.le ρ'):∀(l:List V) (m:List Value),aN ρ l=some m->aN ρ' l=some m
 |[],_,e=>e
 |x::r,m,e=>by
  simp only[aN]at e ⊢
  cases hx:den ρ x with
  |none=>simp[hx]at e
  |some y =>
   cases hr:aN ρ r with
   |none=>simp[hx,hr]at e
   |some q=>simp only[hx,hr]at e;simp only[bk h x y hx,eV h r q hr];exact e
end
theorem aM{ρ:aB}{x:V}{r:List V}{m:List Value}:aN ρ (x::r)=some m↔∃ y q,den ρ x=some y/\aN ρ r=some q/\m=y::q:=by
 simp only[aN]
 cases hx:den ρ x with
 |none=>simp
 |some y =>
  cases hr:aN ρ r with
  |none=>simp
  |some q=>simp[eq_comm]
theorem cR{ρ:aB}:∀ {x y:List V} {a b:List Value},aN ρ x=some a->aN ρ y=some b->aN ρ (x++y)=some (a++b)
 |[],y,a,b,hx,hy=>by cases hx;exact hy
 |v::x,y,a,b,hx,hy=>by
  obtain⟨u,q,h1,h2,rfl⟩:=aM.1 hx
  exact aM.2 ⟨u,q++b,h1,cR h2 hy,rfl⟩
theorem bu{ρ:aB}:∀ {x:List V} {a:List Value},aN ρ x=some a->a.length=x.length
 |[],a,h=>by cases h;rfl
 |v::x,a,h=>by
  obtain⟨u,q,h1,h2,rfl⟩:=aM.1 h
  simp[bu h2]
theorem dT{ρ:aB}:∀ {x:List V} {a:List Value} (i:Nat) {v:V},aN ρ x=some a->x[i]? = some v->∃ y,den ρ v=some y/\a[i]? = some y
 |[],a,i,v,h,e=>by simp at e
 |u::x,a,i,v,h,e=>by
  obtain⟨y,q,h1,h2,rfl⟩:=aM.1 h
  cases i with
  |zero=>simp at e;subst e;exact⟨y,h1,rfl⟩
  |succ i=>simp at e;obtain⟨z,hz,hz'⟩:=dT i h2 e;exact⟨z,hz,by simpa using hz'⟩
theorem Bi{ρ:aB}:∀ {x:List V} {a:List Value} (n:Nat),aN ρ x=some a->aN ρ (x.drop n)=some (a.drop n)
 |[],a,n,h=>by cases h;simp[aN]
 |u::x,a,n,h=>by
  obtain⟨y,q,h1,h2,rfl⟩:=aM.1 h
  cases n with
  |zero=>exact aM.2 ⟨y,q,h1,h2,rfl⟩
  |succ n=>simpa using Bi n h2
theorem Bh{ρ:aB}:∀ {x:List V} {a:List Value} (n:Nat),aN ρ x=some a->aN ρ (x.take n)=some (a.take n)
 |[],a,n,h=>by cases h;simp[aN]
 |u::x,a,n,h=>by
  obtain⟨y,q,h1,h2,rfl⟩:=aM.1 h
  cases n with
  |zero=>simp[aN]
  |succ n=>simpa using aM.2 ⟨y,q.take n,h1,Bh n h2,rfl⟩
theorem jB{ρ:aB}:∀ {x:List V} {a:List Value},x.length=a.length->(∀(i:Nat) (v:V),x[i]? = some v->∃ y,den ρ v=some y/\a[i]? = some y)->aN ρ x=some a
 |[],a,hl,h=>by have:a=[]:=List.length_eq_zero_iff.1 hl.symm;subst this;rfl
 |u::x,[],hl,h=>by simp at hl
 |u::x,b::a,hl,h=>by
  obtain⟨y,hy,hy'⟩:=h 0 u rfl
  simp at hy';subst hy'
  exact aM.2 ⟨b,a,hy,jB (by simpa using hl) (fun i v e=>by simpa using h (i+1) v (by simpa using e)),rfl⟩
theorem dS{ρ:aB}{v:V}{x:Value}(h:den ρ v=some x):aN ρ v.cells=some x.cells.toList:=by
 cases v<;>try(
  refine aM.2 ⟨x,[],h,rfl,?_⟩
  simp only[den]at h
  (repeat' split at h)<;>first|(cases h;done)|(cases h;rfl))
 case slice a z len cap sz =>
  refine aM.2 ⟨x,[],h,rfl,?_⟩
  simp only[den,gp]at h
  (repeat' split at h)<;>first|(cases h;done)|(cases h;rfl)
 case agg cs =>
  simp only[den]at h
  split at h
  ·rename_i l hl
   cases h
   simpa[V.cells,Value.cells]using hl
  ·cases h
theorem wn{ρ:aB}{v:V}{x:Value}(h:den ρ v=some x)(h1:v.one=true):x.oneCell'=true:=by
 cases v<;>simp[V.one]at h1
 case atom i=>simp only[den]at h;cases h
 case slice a z len cap sz =>
  simp only[den,gp]at h
  (repeat' split at h)<;>first|(cases h;done)|(cases h;rfl)
 all_goals
  simp only[den]at h
  (repeat' split at h)<;>first|(cases h;done)|(cases h;rfl)
def TR(ρ:aB)(t:T V)(tm:Array Value):Prop:=∀(i:Nat) (v:V),t.get (et i)=some v->∃ y,den ρ v=some y/\tm[i]? = some y
theorem TR.mono{ρ ρ':aB}(h:ρ.le ρ'){t:T V}{tm:Array Value}(k:TR ρ t tm):TR ρ' t tm:=fun i v e=>by
 obtain⟨y,hy,hy'⟩:=k i v e
 exact⟨y,bk h v y hy,hy'⟩
theorem TR.leaf(ρ:aB)(tm:Array Value):TR ρ .leaf tm:=fun i v e=>by rw[T.get_leaf]at e;cases e
theorem TR.put{ρ:aB}{t:T V}{tm:Array Value}(k:TR ρ t tm){i:Nat}{v:V}{y:Value}(hv:den ρ v=some y)(hi:i<tm.size) :
 TR ρ (t.set (some v) (et i)) (tm.setIfInBounds i y):=fun j u e=>by
 rw[T.get_setN]at e
 by_cases h:i=j
 ·subst h;rw[if_pos rfl]at e;cases e;exact⟨y,hv,by simp[hi]⟩
 ·rw[if_neg h]at e
  obtain⟨z,hz,hz'⟩:=k j u e
  exact⟨z,hz,by rw[Array.getElem?_setIfInBounds_ne h];exact hz'⟩
def aaR(ρ:aB)(e:oz)(r:MapEntry):Prop:=den ρ e.key=some r.key/\den ρ e.val=some r.val/\e.born=r.born
def fq(ρ:aB):List oz->List MapEntry->Prop
 |[],[]=>True
 |e::es,r::rs=>aaR ρ e r/\fq ρ es rs
 |_,_=>False
theorem fq.mono{ρ ρ':aB}(h:ρ.le ρ'):∀ {es:List oz} {rs:List MapEntry},fq ρ es rs->fq ρ' es rs
 |[],[],_=>trivial
 |_::_,_::_,⟨⟨a,b,c⟩,k⟩=>⟨⟨bk h _ _ a,bk h _ _ b,c⟩,fq.mono h k⟩
 |[],_::_,k=>k.elim
 |_::_,[],k=>k.elim
def Gb(ρ:aB)(w:World)(f:Nat)(sb:Bool)(u:mb):Prop :=
 ∃(l:ze) (c:Array Value) (e:TypeId) (fz:Nat×Nat),ρ f u.v=some l/\w.heap[l.b]? = some (.cells c e fz)/\l.base<=u.lo/\l.lim=l.base+c.size /\
  ((sb=false->fz=(0,0))/\∀ i,i<c.size->¬(fz.1<=i/\i<fz.2))/\∀(i:Nat) (x:V),u.cells[i]? = some x->∃ y,den ρ x=some y/\c[u.lo - l.base+i]? = some y
def aaO(ρ:aB)(w:World)(f:Nat)(u:mb):Prop :=
 ∃(l:ze) (c:Array Value) (e:TypeId) (fz:Nat×Nat),ρ f u.v=some l/\w.heap[l.b]? = some (.cells c e fz)/\l.base<=u.lo /\
  ∀(i:Nat) (x:V),u.cells[i]? = some x->∃ y,den ρ x=some y/\c[u.lo - l.base+i]? = some y
def aaN(ρ:aB)(w:World)(f:Nat)(u:mb):Prop :=
 ∃(l:ze) (c:Array Value) (e:TypeId) (fz:Nat×Nat),ρ f u.v=some l/\l.b=f/\w.heap[f]? = some (.cells c e fz)/\(u.v=127->l.base=u.lo/\c.size=u.cells.length)
def yZ(ρ:aB)(w:World)(f:Nat):dB->Prop
 |.ro vers=>∀ u∈vers,aaO ρ w f u/\aaN ρ w f u
 |.cells _ sb nv vers=>(∀ v,nv<=v->ρ f v=none)/\∀ u∈vers,u.v<nv/\Gb ρ w f sb u
 |.map es clock=>∃ l rs,ρ f 0=some l/\w.heap[l.b]? = some (.map rs clock)/\fq ρ es rs.toList
 |.gone=>True
 |.loop st pend fn t ps a b d nt=>∃ l ld tm,ρ f 0=some l/\ρ d 0=some ld/\TR ρ t tm/\nt<=tm.size/\w.heap[l.b]? = some (.loop { state:=st,pending:=pend,fn,tmps:=tm,params:=ps,assign:=a,body:=b,defers:=ld.b })
 |.deferred=>∃ l,ρ f 0=some l/\w.heap[l.b]? = some (.deferred (some []))
structure HR(ρ:aB)(s:S)(w:World):Prop where
 fresh:∀ f v,s.next<=f->ρ f v=none
 inj:∀ f v l f' v' l',ρ f v=some l->ρ f' v'=some l'->l.b=l'.b->f=f'/\l.base=l'.base
 low:∀ f v l,ρ f v=some l->l.b<w.heap.size
 blk:∀ f B,s.get f=some B->yZ ρ w f B
 dom:∀ f B,s.get f=some B->f<s.next
 rw:∀ f B,s.get f=some B->(∀ vers,B≠.ro vers)->∀ v l,ρ f v=some l->¬ l.ro
structure FR(ρ:aB)(w:World)(ρ':aB)(w':World):Prop where
 ext:ρ.le ρ'
 size:w.heap.size<=w'.heap.size
 os:w'.os=w.os
 tape:w'.tape=w.tape
 output:w'.output=w.output
 same:∀ b,b<w.heap.size->(∀ f v l,ρ f v=some l->¬ l.ro->l.b≠b)->w'.heap[b]? = w.heap[b]?
 new:∀ f v l,ρ' f v=some l->l.b<w.heap.size->∃ f' v' l',ρ f' v'=some l'/\l'.b=l.b/\(l'.ro->l.ro)
theorem FR.refl(ρ:aB)(w:World):FR ρ w ρ w:=⟨ρ.le_refl,Nat.le_refl _,rfl,rfl,rfl,fun _ _ _=>rfl,fun f v l h _=>⟨f,v,l,h,rfl,id⟩⟩
theorem FR.trans{ρ ρ1 ρ2:aB}{w w1 w2:World}(h:FR ρ w ρ1 w1)(k:FR ρ1 w1 ρ2 w2):FR ρ w ρ2 w2 where
 ext:=aB.le_trans h.ext k.ext
 size:=Nat.le_trans h.size k.size
 os:=k.os.trans h.os
 tape:=k.tape.trans h.tape
 output:=k.output.trans h.output
 same b hb hn:=by
  rw[k.same b (Nat.lt_of_lt_of_le hb h.size) (fun f v l e hro he=>?_)]
  ·exact h.same b hb hn
  ·obtain⟨f',v',l',e',he',hr'⟩:=h.new f v l e (by omega)
   exact hn f' v' l' e' (fun q=>hro (hr' q)) (by omega)
 new f v l e hl:=by
  obtain⟨f1,v1,l1,e1,h1,r1⟩:=k.new f v l e (Nat.lt_of_lt_of_le hl h.size)
  obtain⟨f2,v2,l2,e2,h2,r2⟩:=h.new f1 v1 l1 e1 (by omega)
  exact⟨f2,v2,l2,e2,by omega,fun q=>r1 (r2 q)⟩
theorem FR.drawn{ρ:aB}(w:World)(n:Nat):FR ρ w ρ { w with drawn:=n }:=⟨ρ.le_refl,Nat.le_refl _,rfl,rfl,rfl,fun _ _ _=>rfl,fun f v l h _=>⟨f,v,l,h,rfl,id⟩⟩
theorem Gb.of_heap{ρ:aB}{w w':World}{f:Nat}{sb:Bool}{u:mb}(h:Gb ρ w f sb u)(hh:∀ l,ρ f u.v=some l->w'.heap[l.b]? = w.heap[l.b]?):Gb ρ w' f sb u:=by
 obtain⟨l,c,e,fz,h1,h2,r⟩:=h
 exact⟨l,c,e,fz,h1,by rw[hh l h1];exact h2,r⟩
theorem Gb.mono{ρ ρ':aB}(h:ρ.le ρ'){w:World}{f:Nat}{sb:Bool}{u:mb}(k:Gb ρ w f sb u):Gb ρ' w f sb u:=by
 obtain⟨l,c,e,fz,h1,h2,h3,h4,h5,h6⟩:=k
 refine⟨l,c,e,fz,h _ _ _ h1,h2,h3,h4,h5,fun i x hx=>?_⟩
 obtain⟨y,hy,hy'⟩:=h6 i x hx
 exact⟨y,bk h x y hy,hy'⟩
theorem HR.drawn{ρ:aB}{s:S}{w:World}(h:HR ρ s w)(n:Nat):HR ρ s { w with drawn:=n } :=
 ⟨h.fresh,h.inj,h.low,h.blk,h.dom,h.rw⟩
theorem eb:∀ {vers:List mb} {v:Nat} {u:mb},bA vers v=some u->u∈vers/\u.v=v
 |[],v,u,h=>by simp[bA]at h
 |x::r,v,u,h=>by
  simp only[bA]at h
  cases hb:Nat.beq x.v v with
  |true=>simp[hb]at h;subst h;exact⟨by simp,Nat.eq_of_beq_eq_true hb⟩
  |false=>simp[hb]at h;obtain⟨h1,h2⟩:=eb h;exact⟨List.mem_cons_of_mem _ h1,h2⟩
theorem cW:∀ {n:Nat} {l m:List V},aU n l=some m->m=l.take n/\n<=l.length
 |0,l,m,h=>by simp[aU]at h;subst h;simp
 |n+1,[],m,h=>by simp[aU]at h
 |n+1,x::r,m,h=>by
  simp only[aU]at h
  cases hr:aU n r with
  |none=>simp[hr]at h
  |some q =>
   simp[hr]at h
   obtain⟨e,hl⟩:=cW hr
   subst h;subst e
   simp;omega
theorem HR.ver{ρ:aB}{s:S}{w:World}(h:HR ρ s w){a:Ad}{e:TypeId}{sb:Bool}{nv:Nat}{vers:List mb}{u:mb}
 (hg:s.get a.f=some (.cells e sb nv vers)) (hu:bA vers a.v=some u):Gb ρ w a.f sb u/\u∈vers/\u.v=a.v:=by
 obtain⟨hm,hv⟩:=eb hu
 exact⟨((h.blk _ _ hg).2 u hm).2,hm,hv⟩
theorem wG{ρ:aB}{s:S}{w:World}(h:HR ρ s w){a:Ad}{x:V}(e:mI s a=some x) :
 ∃ ad y,gw ρ a=some ad/\den ρ x=some y/\w.cell? ad=some y:=by
 unfold mI at e
 split at e
 ·rename_i el sb nv vers hg
  split at e
  ·rename_i u hu
   cases hb:Nat.ble u.lo a.c with
   |false=>simp[hb]at e
   |true =>
    simp only[hb,cond_true]at e
    have hle:=Nat.le_of_ble_eq_true hb
    obtain⟨⟨l,c,el',fz,h1,h2,h3,h4,h5,h6⟩,_,hv⟩:=h.ver hg hu
    rw[hv]at h1
    obtain⟨y,hy,hy'⟩:=h6 _ _ e
    refine⟨⟨l.b,a.c - l.base,none⟩,y,by simp[gw,h1];omega,hy,?_⟩
    simp only[World.cell?,h2]
    simp
    rw[<- hy'];congr 1;omega
  ·cases e
 ·rename_i vers hg
  split at e
  ·rename_i u hu
   cases hb:Nat.ble u.lo a.c with
   |false=>simp[hb]at e
   |true =>
    simp only[hb,cond_true]at e
    have hle:=Nat.le_of_ble_eq_true hb
    obtain⟨hm,hv⟩:=eb hu
    obtain⟨l,c,el',fz,h1,h2,h3,h6⟩:=(h.blk _ _ hg u hm).1
    rw[hv]at h1
    obtain⟨y,hy,hy'⟩:=h6 _ _ e
    refine⟨⟨l.b,a.c - l.base,none⟩,y,by simp[gw,h1];omega,hy,?_⟩
    simp only[World.cell?,h2]
    simp
    rw[<- hy'];congr 1;omega
  ·cases e
 ·cases e
theorem Az{ρ:aB}{w:World}{a:Ad}{n:Nat}{l:List V}{u:mb}{lo:ze}{c:Array Value}{el':TypeId}{fz:Nat×Nat}(h1:ρ a.f a.v=some lo)(h2:w.heap[lo.b]? = some (.cells c el' fz))(h3:lo.base<=u.lo)(hle:u.lo<=a.c)
 (h6:∀(i:Nat) (x:V),u.cells[i]? = some x->∃ y,den ρ x=some y/\c[u.lo - lo.base+i]? = some y) (e:aU n (u.cells.drop (a.c - u.lo))=some l) :
 ∃ ad ys,gw ρ a=some ad/\aN ρ l=some ys/\ys.length=n/\∀(j:Nat) (v:Value),ys[j]? = some v->w.cell? (ad.add j)=some v:=by
 obtain⟨rfl,hlen⟩:=cW e
 have hcell:∀(j:Nat) (v:V),((u.cells.drop (a.c - u.lo)).take n)[j]? = some v->∃ y,den ρ v=some y/\c[a.c - lo.base+j]? = some y:=fun j v hj=>by
  have hj2:j<n:=by
   rcases Nat.lt_or_ge j n with h'|h'
   ·exact h'
   ·rw[List.getElem?_eq_none (by rw[List.length_take];omega)]at hj;cases hj
  rw[List.getElem?_take_of_lt hj2,List.getElem?_drop]at hj
  obtain⟨y,hy,hy'⟩:=h6 _ _ hj
  exact⟨y,hy,by rw[<- hy'];congr 1;omega⟩
 have hlen':((u.cells.drop (a.c - u.lo)).take n).length=n:=by rw[List.length_take];omega
 have hsz:n=0\/a.c - lo.base+n<=c.size:=by
  rcases Nat.eq_zero_or_pos n with h0|h0
  ·exact .inl h0
  ·right
   have hx:∃ v,((u.cells.drop (a.c - u.lo)).take n)[n - 1]? = some v:=⟨_,List.getElem?_eq_getElem (by omega)⟩
   obtain⟨v,hv'⟩:=hx
   obtain⟨y,_,hy'⟩:=hcell _ _ hv'
   have:=(Array.getElem?_eq_some_iff.1 hy').1
   omega
 refine⟨⟨lo.b,a.c - lo.base,none⟩,(c.toList.drop (a.c - lo.base)).take n,by simp[gw,h1];omega,?_,?_,?_⟩
 ·refine jB ?_ fun i v hi=>?_
  ·rw[hlen',List.length_take,List.length_drop,Array.length_toList];rcases hsz with h0|h0<;>omega
  ·obtain⟨y,hy,hy'⟩:=hcell i v hi
   refine⟨y,hy,?_⟩
   have hi2:i<n:=by have:=(List.getElem?_eq_some_iff.1 hi).1;omega
   rw[List.getElem?_take_of_lt hi2,List.getElem?_drop,Array.getElem?_toList];exact hy'
 ·rw[List.length_take,List.length_drop,Array.length_toList];rcases hsz with h0|h0<;>omega
 ·intro j v hj
  have hj2:j<n:=by
   rcases Nat.lt_or_ge j n with h'|h'
   ·exact h'
   ·rw[List.getElem?_eq_none (by rw[List.length_take];omega)]at hj;cases hj
  rw[List.getElem?_take_of_lt hj2,List.getElem?_drop,Array.getElem?_toList]at hj
  have ha:(⟨lo.b,a.c - lo.base,none⟩:Addr).add j=⟨lo.b,a.c - lo.base+j,none⟩:=by
   unfold Addr.add;split
   ·subst_vars;rfl
   ·rfl
  rw[ha]
  simp only[World.cell?,h2]
  simpa using hj
theorem ib{ρ:aB}{s:S}{w:World}(h:HR ρ s w){a:Ad}{n:Nat}{l:List V}(e:loadCells s a n=some l) :
 ∃ ad ys,gw ρ a=some ad/\aN ρ l=some ys/\ys.length=n/\∀(j:Nat) (v:Value),ys[j]? = some v->w.cell? (ad.add j)=some v:=by
 unfold loadCells at e
 split at e
 ·rename_i el sb nv vers hg
  split at e
  ·rename_i u hu
   cases hb:Nat.ble u.lo a.c with
   |false=>simp[hb]at e
   |true =>
    simp only[hb,cond_true]at e
    obtain⟨⟨lo,c,el',fz,h1,h2,h3,h4,h5,h6⟩,_,hv⟩:=h.ver hg hu
    rw[hv]at h1
    exact Az h1 h2 h3 (Nat.le_of_ble_eq_true hb) h6 e
  ·cases e
 ·rename_i vers hg
  split at e
  ·rename_i u hu
   cases hb:Nat.ble u.lo a.c with
   |false=>simp[hb]at e
   |true =>
    simp only[hb,cond_true]at e
    obtain⟨hm,hv⟩:=eb hu
    obtain⟨lo,c,el',fz,h1,h2,h3,h6⟩:=(h.blk _ _ hg u hm).1
    rw[hv]at h1
    exact Az h1 h2 h3 (Nat.le_of_ble_eq_true hb) h6 e
  ·cases e
 ·cases e
def aB.put(ρ:aB)(f v:Nat)(l:ze):aB:=fun g u=>if g=f/\u=v then some l else ρ g u
theorem aB.put_same(ρ:aB)(f v:Nat)(l:ze):ρ.put f v l f v=some l:=by simp[aB.put]
theorem aB.le_put{ρ:aB}{f v:Nat}(l:ze)(h:ρ f v=none):ρ.le (ρ.put f v l):=fun g u x hx=>by
 unfold aB.put
 rw[if_neg (fun e=>by obtain⟨rfl,rfl⟩:=e;rw[h]at hx;cases hx)]
 exact hx
theorem aB.of_put{ρ:aB}{f v g u:Nat}{l x:ze}(h:ρ.put f v l g u=some x):(g=f/\u=v/\x=l)\/ρ g u=some x:=by
 unfold aB.put at h
 split at h
 ·rename_i e;cases h;exact .inl ⟨e.1,e.2,rfl⟩
 ·exact .inr h
theorem yZ.keep{ρ ρ':aB}{w w':World}{f:Nat}{B:dB}(h:yZ ρ w f B)(he:ρ.le ρ')(hn:∀ v,ρ f v=none->ρ' f v=none)
 (hh:∀ v l,ρ f v=some l->w'.heap[l.b]? = w.heap[l.b]?):yZ ρ' w' f B:=by
 cases B with
 |ro vers =>
  intro u hu
  obtain⟨⟨l,c,e,fz,h1,h2,h3,h4⟩,l',c',e',fz',g1,g2,g3,g4⟩:=h u hu
  refine⟨⟨l,c,e,fz,he _ _ _ h1,by rw[hh _ l h1];exact h2,h3,fun i x hx=>?_⟩,l',c',e',fz',he _ _ _ g1,g2,by rw[<- g2,hh _ l' g1,g2];exact g3,g4⟩
  obtain⟨y,hy,hy'⟩:=h4 i x hx
  exact⟨y,bk he x y hy,hy'⟩
 |cells e sb nv vers =>
  exact⟨fun v hv=>hn v (h.1 v hv),fun u hu=>⟨(h.2 u hu).1,((h.2 u hu).2.of_heap (fun l hl=>hh _ l hl)).mono he⟩⟩
 |map es clock =>
  obtain⟨l,rs,h1,h2,h3⟩:=h
  exact⟨l,rs,he _ _ _ h1,by rw[hh _ l h1];exact h2,h3.mono he⟩
 |gone=>trivial
 |loop st pend fn t ps a b d nt =>
  obtain⟨l,ld,tm,h1,h2,h3,h4⟩:=h
  exact⟨l,ld,tm,he _ _ _ h1,he _ _ _ h2,h3.mono he,by rw[hh _ l h1];exact h4⟩
 |deferred =>
  obtain⟨l,h1,h2⟩:=h
  exact⟨l,he _ _ _ h1,by rw[hh _ l h1];exact h2⟩
theorem gF(w:World)(o:Obj){k:Nat}(h:k<w.heap.size):(w.alloc o).heap[k]? = w.heap[k]?:=by
 show(w.heap.push o)[k]? = _
 rw[Array.getElem?_push,if_neg (by omega)]
theorem dN(w:World)(o:Obj):(w.alloc o).heap[w.heap.size]? = some o:=by
 show(w.heap.push o)[w.heap.size]? = _
 simp
theorem HR.alloc{ρ:aB}{s:S}{w:World}(h:HR ρ s w)(B:dB)(o:Obj)(base lim:Nat)(hbl:base<=lim)
 (hB:yZ (ρ.put s.next 0 ⟨w.heap.size,base,lim⟩) (w.alloc o) s.next B) :
 HR (ρ.put s.next 0 ⟨w.heap.size,base,lim⟩) (s.alloc B) (w.alloc o)/\FR ρ w (ρ.put s.next 0 ⟨w.heap.size,base,lim⟩) (w.alloc o):=by
 have hfree:ρ s.next 0=none:=h.fresh _ _ (Nat.le_refl _)
 refine⟨⟨?_,?_,?_,?_,?_,?_⟩,⟨aB.le_put _ hfree,by simp,rfl,rfl,rfl,?_,?_⟩⟩
 ·intro f v hf
  rw[S.next_alloc]at hf
  unfold aB.put
  rw[if_neg (by omega)]
  exact h.fresh f v (by omega)
 ·intro f v l f' v' l' e e' hb
  rcases aB.of_put e with⟨rfl,rfl,rfl⟩|e
  ·rcases aB.of_put e' with⟨rfl,rfl,rfl⟩|e'
   ·exact⟨rfl,rfl⟩
   ·have:=h.low _ _ _ e';simp at hb;omega
  ·rcases aB.of_put e' with⟨rfl,rfl,rfl⟩|e'
   ·have:=h.low _ _ _ e;simp at hb;omega
   ·exact h.inj _ _ _ _ _ _ e e' hb
 ·intro f v l e
  rcases aB.of_put e with⟨rfl,rfl,rfl⟩|e
  ·simp
  ·have:=h.low _ _ _ e;simp;omega
 ·intro f B' hg
  rw[S.get_alloc]at hg
  split at hg
  ·rename_i e;cases hg;subst e;exact hB
  ·rename_i hne
   refine(h.blk f B' hg).keep (aB.le_put _ hfree) (fun v hv=>?_) (fun v l hl=>gF _ _ (h.low _ _ _ hl))
   unfold aB.put;rw[if_neg (by omega)];exact hv
 ·intro f B' hg
  rw[S.get_alloc]at hg
  rw[S.next_alloc]
  split at hg
  ·omega
  ·exact Nat.lt_succ_of_lt (h.dom f B' hg)
 ·intro f B' hg hnr v l hl
  rw[S.get_alloc]at hg
  rcases aB.of_put hl with⟨rfl,rfl,rfl⟩|hl
  ·show ¬(lim<base);omega
  ·split at hg
   ·rename_i he;subst he;rw[h.fresh _ _ (Nat.le_refl _)]at hl;cases hl
   ·exact h.rw f B' hg hnr v l hl
 ·intro b hb _;exact gF _ _ hb
 ·intro f v l e hl
  rcases aB.of_put e with⟨rfl,rfl,rfl⟩|e
  ·simp at hl
  ·exact⟨f,v,l,e,rfl,id⟩
theorem fR{ρ:aB}{s:S}{w:World}(h:HR ρ s w)(sb:Bool)(elem elem':TypeId){cs:List V}{ys:Array Value}(hd:aN ρ cs=some (ys.toList.take cs.length))(fz:Nat×Nat)(hfz:(sb=false->fz=(0,0))/\∀ i,i<ys.size->¬(fz.1<=i/\i<fz.2)) :
 ∃ ρ',ρ' s.next 0=some ⟨w.heap.size,0,ys.size⟩/\HR ρ' (aV sb s elem cs).2 (w.alloc (.cells ys elem' fz))/\FR ρ w ρ' (w.alloc (.cells ys elem' fz)):=by
 have hfree:ρ s.next 0=none:=h.fresh _ _ (Nat.le_refl _)
 refine⟨ρ.put s.next 0 ⟨w.heap.size,0,ys.size⟩,aB.put_same _ _ _ _,h.alloc (.cells elem sb 1 [⟨0,0,cs⟩]) _ 0 ys.size (Nat.zero_le _) ?_⟩
 refine⟨fun v hv=>?_,fun u hu=>?_⟩
 ·unfold aB.put;rw[if_neg (by omega)];exact h.fresh _ _ (Nat.le_refl _)
 ·simp at hu;subst hu
  refine⟨Nat.zero_lt_one,⟨w.heap.size,0,ys.size⟩,ys,elem',fz,aB.put_same _ _ _ _,dN _ _,Nat.le_refl _,by simp,hfz,fun i x hx=>?_⟩
  obtain⟨y,hy,hy'⟩:=dT i hd hx
  refine⟨y,bk (aB.le_put _ hfree) _ _ hy,?_⟩
  have hi:i<cs.length:=(List.getElem?_eq_some_iff.1 hx).1
  rw[List.getElem?_take_of_lt hi,Array.getElem?_toList]at hy'
  simpa using hy'
structure Ta(w w':World)(b:Nat):Prop where
 size:w'.heap.size=w.heap.size
 os:w'.os=w.os
 tape:w'.tape=w.tape
 output:w'.output=w.output
 other:∀ k,k≠b->w'.heap[k]? = w.heap[k]?
theorem Ta.trans{a b c:World}{k:Nat}(h:Ta a b k)(g:Ta b c k):Ta a c k :=
 ⟨g.size.trans h.size,g.os.trans h.os,g.tape.trans h.tape,g.output.trans h.output,fun i hi=>(g.other i hi).trans (h.other i hi)⟩
theorem zY(P:Program)(b off:Nat)(e:TypeId)(fz:Nat×Nat):∀(ys:List Value) (i:Nat) (c:Array Value) (w:World),w.heap[b]? = some (.cells c e fz) ->
 (∀ k,k<c.size->¬(fz.1<=k/\k<fz.2))->off+i+ys.length<=c.size->(∀ v∈ys,v.oneCell'=true) ->
 ∃ w' c',(Go.storeCells ⟨b,off,none⟩ ys i).run P w=.ok () w'/\Ta w w' b/\w'.heap[b]? = some (.cells c' e fz)/\c'.size=c.size /\
  ∀ j,c'[j]? = if off+i<=j/\j<off+i+ys.length then ys[j - (off+i)]? else c[j]?:=by
 intro ys
 induction ys with
 |nil =>
  intro i c w hw hfz hl h1
  exact⟨w,c,rfl,⟨rfl,rfl,rfl,rfl,fun _ _=>rfl⟩,hw,rfl,fun j=>by rw[if_neg (by simp)]⟩
 |cons v r ih =>
  intro i c w hw hfz hl h1
  simp only[List.length_cons]at hl
  have ha:(⟨b,off,none⟩:Addr).add i=⟨b,off+i,none⟩:=by
   unfold Addr.add;split
   ·subst_vars;rfl
   ·rfl
  have hcell:w.cell? ⟨b,off+i,none⟩=some (c[off+i]'(by omega)):=by
   simp only[World.cell?,hw];simp[show off+i<c.size by omega]
  have hfr:w.frozen? ⟨b,off+i,none⟩=false:=by
   simp only[World.frozen?,hw]
   have:=hfz (off+i) (by omega)
   simp;omega
  have hset:(w.setCell ⟨b,off+i,none⟩ v).heap[b]? = some (.cells (c.setIfInBounds (off+i) v) e fz):=by
   simp only[World.setCell,Array.getElem?_modify,if_true,hw];simp
  obtain⟨w',c',h2,h3,h4,h5,h6⟩:=ih (i+1) (c.setIfInBounds (off+i) v) (w.setCell ⟨b,off+i,none⟩ v) hset
   (by simpa using hfz) (by simp;omega) (fun u hu=>h1 u (List.mem_cons_of_mem _ hu))
  have hbut:Ta w (w.setCell ⟨b,off+i,none⟩ v) b:=⟨by simp,rfl,rfl,rfl,fun k hk=>by simp only[World.setCell,Array.getElem?_modify];rw[if_neg (fun e=>hk e.symm)]⟩
  refine⟨w',c',?_,hbut.trans h3,h4,by simpa using h5,fun j=>?_⟩
  ·simp only[Go.storeCells,Sem.run_bind,ha]
   rw[run_store P w _ v .plain (h1 v (by simp)),hcell]
   simp only[hfr,Bool.false_eq_true,if_false,Result.andThen_ok]
   exact h2
  ·rw[h6 j]
   by_cases hj:off+(i+1)<=j/\j<off+(i+1)+r.length
   ·rw[if_pos hj,if_pos (by simp;omega)]
    have:j - (off+i)=(j - (off+(i+1)))+1:=by omega
    rw[this];simp
   ·rw[if_neg hj]
    by_cases hj2:j=off+i
    ·subst hj2;rw[if_pos (by simp)];simp[show off+i<c.size by omega]
    ·rw[if_neg (by simp;omega)];simp[Ne.symm hj2]
theorem fP:∀ {cs:List V} {n:Nat} {new out:List V},bR cs n new=some out ->
 out.length=cs.length/\(new=[]\/n+new.length<=cs.length)/\∀(j:Nat),out[j]? = if n<=j/\j<n+new.length then new[j - n]? else cs[j]?
 |cs,n,[],out,h=>by
  have:out=cs:=by cases cs<;>cases n<;>simp[bR]at h<;>first|exact h|exact h.symm
  subst this
  exact⟨rfl,.inl rfl,fun j=>by rw[if_neg (by simp)]⟩
 |[],n,y::new,out,h=>by cases n<;>simp[bR]at h
 |x::r,n+1,y::new,out,h=>by
  simp only[bR]at h
  cases hr:bR r n (y::new)with
  |none=>simp[hr]at h
  |some q =>
   simp[hr]at h
   subst h
   obtain⟨h1,h2,h3⟩:=fP hr
   refine⟨by simp[h1],.inr (by rcases h2 with h2|h2<;>simp at h2 ⊢;omega),fun j=>?_⟩
   cases j with
   |zero=>rw[if_neg (by omega)];rfl
   |succ j =>
    simp only[List.getElem?_cons_succ]
    rw[h3 j]
    by_cases hj:n<=j/\j<n+(y::new).length
    ·rw[if_pos hj,if_pos (by omega)];congr 1;omega
    ·rw[if_neg hj,if_neg (by omega)]
 |x::r,0,y::new,out,h=>by
  simp only[bR]at h
  cases hr:bR r 0 new with
  |none=>simp[hr]at h
  |some q =>
   simp[hr]at h
   subst h
   obtain⟨h1,h2,h3⟩:=fP hr
   refine⟨by simp[h1],.inr (by rcases h2 with h2|h2<;>simp[h2]<;>simp at h2<;>omega),fun j=>?_⟩
   cases j with
   |zero=>rw[if_pos (by simp)];rfl
   |succ j =>
    simp only[List.getElem?_cons_succ]
    rw[h3 j]
    by_cases hj:0<=j/\j<0+new.length
    ·rw[if_pos hj,if_pos (by simp;omega)];simp
    ·rw[if_neg hj,if_neg (by simp;omega)]
theorem HR.turn{ρ:aB}{s:S}{w w':World}(h:HR ρ s w){f v:Nat}{l:ze}(hl:ρ f v=some l){B0:dB}(hB0:s.get f=some B0)(hnr:∀ vers,B0≠.ro vers)(hb:Ta w w' l.b)(B:dB)(hB:yZ ρ w' f B) :
 HR ρ (s.put f B) w'/\FR ρ w ρ w':=by
 refine⟨⟨fun g u hg=>h.fresh g u (by rw[S.next_put]at hg;exact hg),h.inj,fun g u x hx=>by rw[hb.size];exact h.low g u x hx,fun g B' hg=>?_,fun g B' hg=>?_,fun g B' hg hnr' u x hx=>?_⟩,
  ⟨ρ.le_refl,by rw[hb.size];exact Nat.le_refl _,hb.os,hb.tape,hb.output,fun k hk hn=>hb.other k (fun e=>hn _ _ _ hl (h.rw f B0 hB0 hnr _ _ hl) e.symm),fun g u x hx _=>⟨g,u,x,hx,rfl,id⟩⟩⟩
 ·rw[S.get_put]at hg
  split at hg
  ·rename_i e;cases hg;subst e;exact hB
  ·rename_i hne
   exact(h.blk g B' hg).keep ρ.le_refl (fun _ hv=>hv) (fun u x hx=>hb.other _ (fun e=>hne (h.inj _ _ _ _ _ _ hl hx e.symm).1))
 ·rw[S.get_put]at hg
  rw[S.next_put]
  split at hg
  ·rename_i e;subst e
   exact Nat.lt_of_not_le fun hc=>by have:=h.fresh f v hc;rw[hl]at this;cases this
  ·exact h.dom g B' hg
 ·rw[S.get_put]at hg
  split at hg
  ·rename_i e;subst e;exact h.rw f B0 hB0 hnr u x hx
  ·exact h.rw g B' hg hnr' u x hx
theorem gr{ρ:aB}{s s':S}{w:World}(P:Program)(h:HR ρ s w){a:Ad}{new:List V}{ys:List Value}(e:storeCells s a new=some s')(hd:aN ρ new=some ys) :
 ∃ ad w',gw ρ a=some ad/\(Go.storeCells ad ys).run P w=.ok () w'/\HR ρ s' w'/\FR ρ w ρ w':=by
 unfold storeCells at e
 split at e
 ·rename_i el sb nv vers hg
  split at e
  ·rename_i u hu
   cases hb:(Nat.ble u.lo a.c&&new.all V.one)with
   |false=>simp[hb]at e
   |true =>
    simp only[hb,cond_true]at e
    simp only[Bool.and_eq_true]at hb
    have hle:=Nat.le_of_ble_eq_true hb.1
    split at e
    ·rename_i cs hcs
     cases e
     obtain⟨⟨l,c,el',fz,h1,h2,h3,h4,h5,h6⟩,hmem,hv⟩:=h.ver hg hu
     have h1':=h1
     rw[hv]at h1
     obtain⟨hlen,hfit,hget⟩:=fP hcs
     have hyl:=bu hd
     have hone:∀ y∈ys,y.oneCell'=true:=fun y hy=>by
      obtain⟨i,hi⟩:=List.getElem?_of_mem hy
      have hi2:i<new.length:=by have:=(List.getElem?_eq_some_iff.1 hi).1;omega
      obtain⟨z,hz,hz'⟩:=dT i hd (List.getElem?_eq_getElem hi2)
      rw[hi]at hz';cases hz'
      exact wn hz (List.all_eq_true.1 hb.2 _ (List.getElem_mem hi2))
     have hroom:new=[]\/a.c - l.base+0+ys.length<=c.size:=by
      rcases hfit with h0|hfit
      ·exact .inl h0
      ·rcases Nat.eq_zero_or_pos new.length with h0|h0
       ·exact .inl (List.length_eq_zero_iff.1 h0)
       ·right
        have hlast:(a.c - u.lo)+(new.length - 1)<u.cells.length:=by omega
        obtain⟨y,_,hy'⟩:=h6 _ _ (List.getElem?_eq_getElem hlast)
        have:=(Array.getElem?_eq_some_iff.1 hy').1
        omega
     have hden:gw ρ a=some ⟨l.b,a.c - l.base,none⟩:=by simp[gw,h1];omega
     rcases hroom with h0|hroom
     ·subst h0
      have:ys=[]:=by cases hd;rfl
      subst this
      have hsame:cs=u.cells:=List.ext_getElem? fun j=>by rw[hget j,if_neg (by simp)]
      refine⟨_,w,hden,rfl,?_⟩
      refine h.turn h1 hg (fun _ h=>by cases h) ⟨rfl,rfl,rfl,rfl,fun _ _=>rfl⟩ _ ⟨(h.blk _ _ hg).1,fun u' hu'=>?_⟩
      simp at hu';subst hu'
      exact⟨((h.blk _ _ hg).2 u hmem).1,l,c,el',fz,h1',h2,h3,h4,h5,by rw[hsame];exact h6⟩
     ·obtain⟨w',c',g1,g2,g3,g4,g5⟩:=zY P l.b (a.c - l.base) el' fz ys 0 c w h2 h5.2 hroom hone
      refine⟨_,w',hden,g1,h.turn h1 hg (fun _ h=>by cases h) g2 _ ⟨(h.blk _ _ hg).1,fun u' hu'=>?_⟩⟩
      simp at hu';subst hu'
      refine⟨((h.blk _ _ hg).2 u hmem).1,l,c',el',fz,h1',g3,h3,by rw[g4];exact h4,by rw[g4];exact h5,fun i x hx=>?_⟩
      simp only at hx ⊢
      rw[hget i]at hx
      rw[g5]
      by_cases hj:a.c - u.lo<=i/\i<a.c - u.lo+new.length
      ·rw[if_pos hj]at hx
       rw[if_pos (by omega)]
       obtain⟨y,hy,hy'⟩:=dT _ hd hx
       exact⟨y,hy,by rw[<- hy'];congr 1;omega⟩
      ·rw[if_neg hj]at hx
       rw[if_neg (by omega)]
       exact h6 i x hx
    ·cases e
  ·cases e
 ·cases e
instance (n:Nat):OfNat V n:=⟨.atom n⟩
abbrev iV(n:Int):V:=.int .i64 n
abbrev nS:V:=.nilslice
abbrev s0:V:=.str []
abbrev cB(e:TypeId)(l:List V):dB:=.cells e false 1 [⟨0,0,l⟩]
abbrev lf:T dB:=.leaf
abbrev n0(a c:T dB):T dB:=.node a none c
abbrev n1(a:T dB):T dB:=.node a none .leaf
abbrev n2(a:T dB):T dB:=.node .leaf none a
abbrev n3(b:dB):T dB:=.node .leaf (some b) .leaf
abbrev n4(a:T dB)(b:dB)(c:T dB):T dB:=.node a (some b) c
end Go.AI
