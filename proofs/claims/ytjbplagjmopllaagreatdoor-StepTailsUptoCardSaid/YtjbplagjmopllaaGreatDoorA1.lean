/- Lemmas. No conditions. -/
import Derived.Laws.StructEq
import Derived.Laws.IdiomStrings
import Derived.Lib.Bytealg
import Derived.Recover
import Derived.RangeFuncRecord
set_option linter.all false
noncomputable section
namespace Go.AI
def ge:=@cond_true
def SE:=@cond_false
def aaO:=@Nat.eq_of_beq_eq_true
def aaV:=@Bool.and_eq_true
def aaW:=@Nat.le_refl
def aaY:=@List.length_append
def abc:=@List.length_singleton
def abe:=@List.length_map
def abf:=@Option.some.injEq
def abg:=@List.getElem?_eq_getElem
def abh:=@Nat.le_of_ble_eq_true
def abi:=@List.mem_cons_of_mem
def abj:=@List.getElem?_eq_some_iff
def abk:=@Nat.ble_eq_true_of_le
def abl:=@decide_eq_false
def abm:=@Result.andThen_ok
def abn:=@List.mem_cons
def abo:=@List.getElem?_append_left
def abr:=@Sem.run_bind
def abt:=@decide_eq_true
def acd:=@Nat.le_trans
def acg:=@List.map_cons
def acD:=@Nat.beq_refl
def adO:=@Nat.zero_add
def aeg:=@List.length_cons
def aeo:=@Bool.false_and
def aep:=@Bool.not_true
def aeq:=@List.mem_cons_self
def aeE:=@List.mem_of_getElem?
def aeH:=@Bool.not_false
def aeS:=@List.mem_append
def afd:=@List.getElem?_map
def afe:=@Sem.run_pure
def afj:=@List.map_append
def afn:=@List.nil_append
def afo:=@Array.getElem?_toList
def afp:=@if_neg
def afq:=@List.append_nil
def afr:=@step_lone_go
def afs:=@Nat.lt_of_lt_of_le
def aft:=@List.append_assoc
def afu:=@List.set_set
def afv:=@List.mem_append_right
def afw:=@Bool.eq_iff_iff
def afx:=@List.all_eq_true
def afy:=@List.length_set
def afz:=@Bool.true_and
def afA:=@List.getElem?_set_ne
def afL:=@List.singleton_append
def afM:=@Bool.cond_false_right
def afW:=@List.set_append_right
def afX:=@Bool.and_self
def agj:=@of_decide_eq_true
def agk:=@bne_self_eq_false
def agm:=@List.length_take
def agn:=@Option.some.inj
def ago:=@Option.isSome_none
def agp:=@List.cons_append
def agq:=@Array.getElem?_eq_getElem
def agC:=@if_pos
def aia:=@Bool.and_false
def aib:=@congrArg
def aim:=@List.mem_append_left
def aio:=@Int.toNat_natCast
def aiq:=@List.length_nil
def air:=@List.eq_nil_of_length_eq_zero
def aiu:=@Array.length_toList
def aiB:=@Option.map_some
def aiG:=@Bool.not_eq_true'
def aiH:=@List.mem_map
def aiI:=@List.getElem?_take_of_lt
def aiJ:=@Bool.and_true
def aiK:=@Nat.lt_irrefl
def aiL:=@List.take_succ_cons
def aiM:=@Nat.add_zero
def aiN:=@List.getElem?_append_right
def aiP:=@List.getElem?_cons_succ
def aiQ:=@Prod.mk.injEq
def aiR:=@List.take_of_length_le
def aiS:=@beq_eq_false_iff_ne
def aiT:=@List.getElem?_eq_none
def aiU:=@Nat.lt_or_ge
def aiV:=@Int.eq_ofNat_of_zero_le
def aiW:=@Bool.false_eq_true
def aiX:=@Bool.or_eq_false_iff
def aiY:=@List.prefix_rfl
def aiZ:=@Int.lt_irrefl
def aja:=@Nat.sub_self
def ajb:=@Array.getElem?_eq_none
def ajc:=@List.flatten_cons
def ajd:=@Int.le_refl
def aje:=@List.append_of_mem
def ajf:=@List.length_drop
def ajg:=@Nat.zero_le
def ajh:=@List.getElem?_cons_zero
def aji:=@Option.bind_eq_some_iff
def ajj:=@Bool.false_or
def ajk:=@List.Mem.tail
def ajl:=@List.ext_getElem?
def ajm:=@Bool.or_eq_true
def ajn:=@List.mem_filter
def ajo:=@Nat.eq_zero_or_pos
def ajp:=@run_loadCells_list
def ajq:=@Nat.sub_zero
def ajr:=@Nat.max_assoc
def ajs:=@Nat.mul_le_mul_right
def ajt:=@List.drop_zero
def aju:=@List.replicate_succ
def ajv:=@Option.getD_some
def ajw:=@Nat.lt_succ_self
def ajx:=@List.getElem_mem
def ajy:=@decide_eq_decide
def ajz:=@Option.isSome_some
def ajA:=@Array.getElem?_eq_some_iff
def ajB:=@List.mem_singleton
def ajC:=@List.getElem?_of_mem
def ajD:=@List.mem_of_mem_take
def ajE:=@decide_false
def ajF:=@Nat.max_zero
def ajG:=@decide_eq_true_eq
def ajH:=@Nat.add_assoc
def ajI:=@Array.getElem?_setIfInBounds_ne
def ajJ:=@Nat.add_mul
def ajK:=@List.getElem?_drop
def ajL:=@Nat.pos_of_ne_zero
def ajM:=@Nat.zero_mul
def ajN:=@List.reverse_singleton
def ajO:=@List.getElem?_take
def ajP:=@Option.map_eq_some_iff
def ajQ:=@List.map_singleton
def ajR:=@true_and
def ajS:=@List.map_take
def ajT:=@Array.getD_eq_getD_getElem?
def ajU:=@Array.size_append
def ajV:=@Nat.lt_of_succ_le
def ajW:=@Int.ofNat_eq_natCast
def ajX:=@beq_iff_eq
def ajY:=@if_true
def ajZ:=@Nat.lt_of_not_le
def aka:=@Bool.or_true
def akb:=@List.drop_eq_getElem_cons
def akc:=@List.all_cons
def akd:=@of_decide_eq_false
def ake:=@List.length_eq_zero_iff
def akf:=@Option.bind_some
def akg:=@beq_self_eq_true
def akh:=@List.mem_nil_iff
def aki:=@Eq.trans
def akj:=@grownCap_ge
def akk:=@List.mem_of_mem_drop
def akl:=@and_true
def akm:=@List.foldl_cons
def akn:=@List.cons.injEq
def ako:=@List.map_map
def akp:=@if_false
def akq:=@Bool.and_assoc
def akr:=@List.drop_drop
def aks:=@Ne.symm
end Go.AI
namespace Go.AI
structure Ad where
 f:Nat
 v:Nat
 c:Nat
 deriving Inhabited
inductive V where
 |bool (b:Bool)
 |int (k:IntKind) (n:Int)
 |str (s:List Nat)
 |ptr (a:Ad)
 |nilptr
 |slice (a:Ad) (z:Nat) (len:Nat) (cap:Option Nat) (sz:Nat)
 |nilslice
 |map (r:Nat)
 |nilmap
 |func (fn:Fn) (first captured:List V)
 |nilFunc
 |iface (t:TypeId) (v:V)
 |nilIface
 |agg (cs:List V)
 |tuple (vs:List V)
 |atom (i:Nat)
 deriving Inhabited
def V.undef:V:=.tuple []
def V.ofCell:Value->Option V
 |.bool b=>some (.bool b)
 |.int k n=>some (.int k n)
 |.string s=>some (.str (s.data.toList.map UInt8.toNat))
 |.pointer a=>match a with
  |none=>some .nilptr
  |some _=>none
 |.slice a n c=>match a with
  |none=>bif Nat.beq n 0&&Nat.beq c 0 then some .nilslice else none
  |some _=>none
 |.map a=>match a with
  |none=>some .nilmap
  |some _=>none
 |.nilFunc=>some .nilFunc
 |.nilIface=>some .nilIface
 |.func fn a b=>match fn with
  |.func f=>bif a.toList.isEmpty&&b.toList.isEmpty then some (.func (.func f) [] [])else none
  |_=>none
 |_=>none
def V.ofCells:List Value->Option (List V)
 |[]=>some []
 |x::r=>match V.ofCell x with
  |some v=>match V.ofCells r with
   |some l=>some (v::l)
   |none=>none
  |none=>none
def V.ofConst:Value->Option V
 |.agg cs=>match V.ofCells cs.toList with
  |some l=>some (.agg l)
  |none=>none
 |v=>V.ofCell v
def V.cells:V->List V
 |.agg cs=>cs
 |v=>[v]
inductive BQ where
 |o
 |l (p:BQ)
 |r (p:BQ)
def Cb:Nat->Nat->BQ
 |0,_=>.o
 |n+1,k=>match k with
  |0=>.o
  |m+1=>bif Nat.beq (Nat.mod m 2) 1 then .r (Cb n (Nat.div m 2))else .l (Cb n (Nat.div m 2))
def eX(k:Nat):BQ:=Cb k k
inductive T(α:Type) where
 |leaf
 |node (l:T α) (v:Option α) (r:T α)
 deriving Inhabited
namespace T
variable{α:Type}
def get(t:T α)(p:BQ):Option α :=
 BQ.rec (motive:=λ_=>T α->Option α)
  (λt=>T.rec (motive:=λ_=>Option α) none (λ_ v _ _ _=>v) t)
  (λ_ ih t=>T.rec (motive:=λ_=>Option α) none (λl _ _ _ _=>ih l) t)
  (λ_ ih t=>T.rec (motive:=λ_=>Option α) none (λ_ _ r _ _=>ih r) t) p t
def setK{β:Type}(x:Option α)(p:BQ)(t:T α)(k:T α->β):β :=
 BQ.rec (motive:=λ_=>T α->(T α->β)->β)
  (λt k=>T.rec (motive:=λ_=>β) (k (.node .leaf x .leaf)) (λl _ r _ _=>k (.node l x r)) t)
  (λ_ ih t k=>T.rec (motive:=λ_=>β) (ih .leaf λt=>k (.node t none .leaf)) (λl v r _ _=>ih l λt=>k (.node t v r)) t)
  (λ_ ih t k=>T.rec (motive:=λ_=>β) (ih .leaf λt=>k (.node .leaf none t)) (λl v r _ _=>ih r λt=>k (.node l v t)) t) p t k
end T
structure oJ where
 v:Nat
 lo:Nat
 cells:List V
 deriving Inhabited
structure qT where
 key:V
 val:V
 born:Nat
 deriving Inhabited
inductive dY where
 |cells (elem:TypeId) (sb:Bool) (nextv:Nat) (vers:List oJ)
 |ro (vers:List oJ)
 |map (es:List qT) (clock:Nat)
 |loop (st:LoopState) (pending:Option Code) (fn:FuncId) (tmps:T V) (params:Array Tmp) (assign body:Code) (dfr:Nat) (nt:Nat)
 |deferred
 |gone
 deriving Inhabited
structure S where
 h:T dY
 next:Nat
 deriving Inhabited
def Fi{β:Type}(n:Nat)(k:Nat->β):β:=match n with
 |0=>k 0
 |m+1=>k (m+1)
def Km{β:Type}(n:Int)(k:Int->β):β:=match n with
 |.ofNat m=>Fi m λm=>k (.ofNat m)
 |.negSucc m=>Fi m λm=>k (.negSucc m)
def pu(k:IntKind)(n:Int):V:=Km n λn=>.int k n
def S.get(s:S)(f:Nat):Option dY:=match s with|⟨h,_⟩=>h.get (eX f)
def S.put(s:S)(f:Nat)(b:dY):S:=match s with|⟨h,n⟩=>h.setK (some b) (eX f) λh=>⟨h,n⟩
def S.alloc(s:S)(b:dY):S:=match s with|⟨h,n⟩=>h.setK (some b) (eX n) λh=>Fi (n+1) λn=>⟨h,n⟩
def bz(sb:Bool)(s:S)(elem:TypeId)(cs:List V):Ad×S:=(⟨s.next,0,0⟩,s.alloc (.cells elem sb 1 [⟨0,0,cs⟩]))
def bA(s:S)(elem:TypeId)(cs:List V):Ad×S:=bz false s elem cs
def bI:List oJ->Nat->Option oJ
 |[],_=>none
 |u::r,v=>bif Nat.beq u.v v then some u else bI r v
def bj:Nat->List V->Option (List V)
 |0,_=>some []
 |n+1,x::r=>(bj n r).map (x::·)
 |_+1,[]=>none
def loadCells(s:S)(a:Ad)(n:Nat):Option (List V) :=
 match s.get a.f with
 |some (.cells _ _ _ vers) =>
  match bI vers a.v with
  |some u=>bif Nat.ble u.lo a.c then bj n (u.cells.drop (a.c - u.lo))else none
  |none=>none
 |some (.ro vers) =>
  match bI vers a.v with
  |some u=>bif Nat.ble u.lo a.c then bj n (u.cells.drop (a.c - u.lo))else none
  |none=>none
 |_=>none
def pB(s:S)(a:Ad):Option V :=
 match s.get a.f with
 |some (.cells _ _ _ vers) =>
  match bI vers a.v with
  |some u=>bif Nat.ble u.lo a.c then u.cells[a.c - u.lo]? else none
  |none=>none
 |some (.ro vers) =>
  match bI vers a.v with
  |some u=>bif Nat.ble u.lo a.c then u.cells[a.c - u.lo]? else none
  |none=>none
 |_=>none
def cA:List V->Nat->List V->Option (List V)
 |cs,_,[]=>some cs
 |x::r,n+1,new=>(cA r n new).map (x::·)
 |_::r,0,y::new=>(cA r 0 new).map (y::·)
 |[],_,_::_=>none
def V.one:V->Bool
 |.agg _=>false
 |.tuple _=>false
 |_=>true
def storeCells(s:S)(a:Ad)(new:List V):Option S :=
 match s.get a.f with
 |some (.cells e sb nv vers) =>
  match bI vers a.v with
  |some u=>bif Nat.ble u.lo a.c&&new.all V.one then
   match cA u.cells (a.c - u.lo) new with
   |some cs=>some (s.put a.f (.cells e sb nv [⟨u.v,u.lo,cs⟩]))
   |none=>none
   else none
  |none=>none
 |_=>none
section types
variable(P:Program)
def size(t:TypeId):Option Nat:=(P.info? t).map (·.size)
def zero(t:TypeId):Option V:=((P.info? t).bind (·.zero)).bind V.ofConst
def rZ(t:TypeId):Option Bool:=(P.underlying t).map fun|.struct _=>true|.array _ _=>true|_=>false
def loadVar(s:S)(t:TypeId)(a:Ad):Option V :=
 match rZ P t with
 |some true=>(size P t).bind λn=>(loadCells s a n).map .agg
 |some false=>pB s a
 |none=>none
def storeVar(s:S)(t:TypeId)(a:Ad)(v:V):Option S :=
 match size P t with
 |some n=>bif Nat.beq v.cells.length n then storeCells s a v.cells else none
 |none=>none
def vZ(t:TypeId)(cs:List V)(off:Nat):Option V :=
 match rZ P t with
 |some true=>(size P t).map λn=>.agg ((cs.drop off).take n)
 |some false=>cs[off]?
 |none=>none
end types
def ma:List Nat->List Nat->Option Bool
 |[],[]=>some true
 |a::x,b::y=>bif Nat.beq a b then ma x y else bif Nat.blt a 256&&Nat.blt b 256 then some false else none
 |_,_=>some false
def pW(l:List Nat):List UInt8:=l.map UInt8.ofNat
def dy(j k:IntKind):Bool:=decide (j=k)
def jR(P:Program)(eq:TypeId->V->V->Option Bool):List Field->List V->List V->Option Bool
 |[],_,_=>some true
 |f::r,xs,ys=>bif f.name == "_" then none else
  match vZ P f.type xs f.offset,vZ P f.type ys f.offset with
  |some a,some b=>match eq f.type a b with
   |some true=>jR P eq r xs ys
   |some false=>some false
   |none=>none
  |_,_=>none
def bU(s:S)(a:Ad):Bool:=match s.get a.f with
 |some (.cells _ sb _ vers)=>!sb&&(bI vers a.v).isSome
 |_=>false
def LQ(ok:Ad->Bool)(a b:Ad):Option Bool :=
 bif ok a&&ok b then(bif Nat.beq a.f b.f then(bif Nat.beq a.v b.v then some (Nat.beq a.c b.c)else none)else some false)else none
def dq(P:Program)(ok:Ad->Bool):Nat->TypeId->V->V->Option Bool
 |0,_,_,_=>none
 |d+1,t,x,y =>
  match P.underlying t with
  |some (.struct fs) =>
   match x,y with
   |.agg xs,.agg ys=>bif P.stoodInHeld t then none else jR P (dq P ok d) fs.toList xs ys
   |_,_=>none
  |some (.interface _) =>
   match x,y with
   |.nilIface,.nilIface=>some true
   |.nilIface,.iface _ _=>some false
   |.iface _ _,.nilIface=>some false
   |.iface tx vx,.iface ty vy=>bif Nat.beq tx ty then(match P.info? tx with|some i=>bif i.comparable then dq P ok d tx vx vy else none|none=>none)else some false
   |_,_=>none
  |some .bool=>match x,y with|.bool a,.bool b=>some (a==b)|_,_=>none
  |some (.int _)=>match x,y with|.int j a,.int k b=>bif dy j k then some (a==b)else none|_,_=>none
  |some .string=>match x,y with|.str a,.str b=>ma a b|_,_=>none
  |some (.pointer e)=>match x,y with
   |.nilptr,.nilptr=>some true
   |.nilptr,.ptr _=>some false
   |.ptr _,.nilptr=>some false
   |.ptr a,.ptr b=>match size P e with
    |some n=>bif Nat.beq n 0 then none else LQ ok a b
    |none=>none
   |_,_=>none
  |some (.slice _)=>match x,y with
   |.nilslice,.nilslice=>some true
   |.nilslice,.slice ..=>some false
   |.slice ..,.nilslice=>some false
   |_,_=>none
  |some (.map _ _)=>match x,y with
   |.nilmap,.nilmap=>some true
   |.nilmap,.map _=>some false
   |.map _,.nilmap=>some false
   |_,_=>none
  |some (.func _ _ _)=>match x,y with
   |.nilFunc,.nilFunc=>some true
   |.nilFunc,.func ..=>some false
   |.func ..,.nilFunc=>some false
   |_,_=>none
  |_=>none
def Do(op:BinOp)(k:IntKind)(a b:Int):Option V :=
 match op with
 |.add=>some (pu k (k.wrap (a+b)))
 |.sub=>some (pu k (k.wrap (a - b)))
 |.mul=>some (pu k (k.wrap (a*b)))
 |.eql=>some (.bool (a==b))
 |.neq=>some (.bool (a != b))
 |.lss=>some (.bool (decide (a<b)))
 |.leq=>some (.bool (decide (a<=b)))
 |.gtr=>some (.bool (decide (a>b)))
 |.geq=>some (.bool (decide (a>=b)))
 |.quo=>bif b==0 then none else some (.int k (k.wrap (a.tdiv b)))
 |.rem=>bif b==0 then none else some (.int k (a.tmod b))
 |.and=>some (.int k (k.wrap (BitVec.ofInt k.bits a &&& BitVec.ofInt k.bits b).toNat))
 |.or=>some (.int k (k.wrap (BitVec.ofInt k.bits a ||| BitVec.ofInt k.bits b).toNat))
 |.xor=>some (.int k (k.wrap (BitVec.ofInt k.bits a ^^^ BitVec.ofInt k.bits b).toNat))
 |.andNot=>some (.int k (k.wrap (BitVec.ofInt k.bits a &&& ~~~ BitVec.ofInt k.bits b).toNat))
 |_=>none
def yD(op:BinOp)(a b:List Nat):Option V :=
 match op with
 |.add=>bif Nat.ble (a.length+b.length) 1000000 then some (.str (a++b))else none
 |.eql=>(ma a b).map .bool
 |.neq=>(ma a b).map λq=>.bool (!q)
 |.lss=>some (.bool (Op.bytesLess (pW a) (pW b)))
 |_=>none
def Em(op:BinOp)(k:IntKind)(a:Int)(b:Int):Option V:=match b with
 |.ofNat n=>match op with
  |.shl=>some (pu k (k.wrap (a*2 ^ (min n k.bits))))
  |.shr=>some (pu k (a.fdiv (2 ^ (min n k.bits))))
  |_=>none
 |_=>none
def qw:BinOp->Bool
 |.shl|.shr=>true
 |_=>false
def fG:Operand->Bool
 |.const _=>true
 |_=>false
def rY:BinOp->Bool
 |.eql|.neq=>true
 |_=>false
def gS(P:Program)(op:BinOp)(t:TypeId)(x y:Operand)(a b:V):Bool :=
 bif rY op then match a,b with
  |.nilIface,.nilIface=>fG x||fG y
  |.agg _,.agg _=>!(P.eqGuardType P.depth t)
  |_,_=>true
 else true
def gb(P:Program)(ok:Ad->Bool)(op:BinOp)(t:TypeId)(x y:V):Option V :=
 match x,y with
 |.int j a,.int k b=>bif qw op then Em op j a b else bif dy j k then Do op j a b else none
 |.str a,.str b=>yD op a b
 |_,_ =>
  match op with
  |.eql=>(dq P ok 20 t x y).map .bool
  |.neq=>(dq P ok 20 t x y).map λb=>.bool (!b)
  |_=>none
def Pr(op:UnOp)(x:V):Option V :=
 match op,x with
 |.not,.bool b=>some (.bool !b)
 |.neg,.int k n=>some (.int k (k.wrap (0 - n)))
 |_,_=>none
def rp(place:Nat->Option (Nat×Nat))(cs:List V):List (Nat×V)->Option (List V)
 |[]=>some cs
 |(i,v)::r =>
  match place i with
  |none=>none
  |some (off,n)=>bif Nat.beq v.cells.length n&&Nat.blt 0 n then(cA cs off v.cells).bind λcs=>rp place cs r else none
def lq(f:Field)(P:Program):Bool:=match size P f.type with|some n=>Nat.beq n 0|none=>true
def mh(v:V):Option Nat:=match v with|.int _ (.ofNat n)=>some n|_=>none
def cq(a:Ad)(n:Nat):Ad:={ a with c:=a.c+n }
def cC(eq:V->V->Option Bool)(k:V):List qT->Option (Option V)
 |[]=>some none
 |⟨key,val,_⟩::r=>foundKey (eq k key) val (cC eq k r)
 where foundKey (b:Option Bool) (v:V) (r:Option (Option V)):Option (Option V):=match b with
  |some true=>some (some v)
  |some false=>r
  |none=>none
def dp(eq:V->V->Option Bool)(k x:V):List qT->Option (Option (List qT))
 |[]=>some none
 |⟨key,val,born⟩::r=>setKey (eq k key) ⟨key,val,born⟩ ⟨k,x,born⟩ r (dp eq k x r)
 where setKey (b:Option Bool) (e a:qT) (r:List qT) (u:Option (Option (List qT))):Option (Option (List qT)):=match b with
  |some true=>some (some (a::r))
  |some false=>match u with
   |some (some d)=>some (some (e::d))
   |some none=>some none
   |none=>none
  |none=>none
structure Gm where
 v:V
 recovered:Bool
 deriving Inhabited
inductive Md where
 |run
 |returning
 |panicking (c:List Gm)
 deriving Inhabited
inductive eO where
 |call (fn:Fn) (captured args:List V)
 |collected (r:Nat)
 deriving Inhabited
inductive End where
 |returned (v:V)
 |panicked (c:List Gm)
 deriving Inhabited
def eval(t:T V):Operand->Option V
 |.tmp i=>t.get (eX i)
 |.const v=>V.ofConst v
 |.global _=>none
 |.func f=>some (.func (.func f) [] [])
def oE{β:Type}(t:T V)(d:Option Tmp)(v:Option V)(k:T V->β):β:=match d with
 |some i=>t.setK v (eX i) k
 |none=>k t
def bT(ops:Array Oper)(t:T V)(o:Oper):Option Bool :=
 match o.guard with
 |none=>some true
 |some (j,want)=>match(ops[j]?).bind (·.dst)with
  |some d=>match t.get (eX d)with
   |some (.bool b)=>some (b==want)
   |some (.tuple _)=>some false
   |_=>none
  |none=>none
inductive Nx where
 |val (v:V) (s:S)
 |skip (s:S)
 |enter (f:FuncId) (args:List V) (s:S)
 |round (l:Nat) (args:List V) (s:S)
 |defer (d:eO) (s:S)
 |recover (s:S)
 |panic (v:V) (s:S)
def mR(P:Program)(t:TypeId)(n:Nat):Bool:=match P.info? t with
 |some i=>Nat.ble (i.bytes*n) 100000000000000
 |none=>false
def pX(c:Nat):V:=.int .u8 (.ofNat (Nat.mod c 256))
def tN(s:S)(f c z len sz:Nat)(e:TypeId)(sb:Bool)(nv:Nat)(vers:List oJ)(cells:List V)(n:Nat):V×S :=
 (.slice ⟨f,nv,c⟩ z (len+n) none sz,s.put f (.cells e sb (nv+1) (⟨nv,c,cells⟩::vers.filter λu=>Nat.ble (u.lo+u.cells.length) (c+len*sz))))
def ls(s:S)(elem:TypeId)(cells:List V)(len sz:Nat):V×S:=match bA s elem cells with
 |(b,s)=>(.slice b 0 len none sz,s)
def Fg(s:S)(elem:TypeId)(a:Ad)(z len c sz:Nat)(old new:List V)(n:Nat):Option (V×S) :=
 bif Nat.ble (len+n) c then
  match storeCells s (cq a (len*sz)) new with
  |some s=>some (.slice a z (len+n) (some c) sz,s)
  |none=>none
 else some (ls s elem (old++new) (len+n) sz)
def wg(s:S)(elem:TypeId)(a:Ad)(z len:Nat)(cap:Option Nat)(sz:Nat)(new:List V)(n:Nat):Option (V×S) :=
 match s.get a.f with
 |some (.cells e sb nv vers) =>
  match bI vers a.v with
  |some u =>
   bif Nat.ble u.lo a.c then
    match bj (len*sz) (u.cells.drop (a.c - u.lo))with
    |some old =>
     match cap with
     |some c=>Fg s elem a z len c sz old new n
     |none=>bif new.all V.one then some (tN s a.f a.c z len sz e sb nv vers (old++new) n)else none
    |none=>none
   else none
  |none=>none
 |_=>none
def jd(s:S)(sz:Nat):V->Option (List V×Nat)
 |.nilslice=>some ([],0)
 |.slice b _ n _ sz'=>bif Nat.beq n 0 then some ([],0)else bif Nat.beq sz' 0 then none else bif Nat.beq sz sz' then(match loadCells s b (n*sz)with|some l=>some (l,n)|none=>none)else none
 |.str l=>bif Nat.beq sz 1 then some (l.map pX,l.length)else none
 |_=>none
def vz(P:Program)(elem:TypeId)(sz:Nat):Bool :=
 match zero P elem with
 |some z=>Nat.beq z.cells.length sz&&Nat.blt 0 sz&&mR P elem 10000000
 |none=>false
def io:Option Nat->Bool
 |some c=>Nat.beq c 0
 |none=>false
def aF(P:Program)(t:TypeId)(m:Nat):Bool:=match P.info? t with
 |some i=>Nat.ble (i.bytes*(m+Nat.div m 4+600)) 281474976710656&&Nat.ble m 4611686018427387904
 |none=>false
def eM(ok:Nat->Bool)(s:S)(elem:TypeId)(sz:Nat)(x:V):Option (List V×Nat)->Option (V×S)
 |some (l,n) =>
  bif ok n then
   match x with
   |.nilslice=>bif Nat.beq n 0 then some (.nilslice,s)else some (ls s elem l n sz)
   |.slice a z len cap sz'=>bif Nat.beq len 0&&io cap then(bif Nat.beq n 0 then some (.slice a z len cap sz',s)else some (ls s elem l n sz))else
    bif Nat.beq sz sz'&&ok (len+n)then(bif Nat.beq n 0 then some (.slice a z len cap sz,s)else wg s elem a z len cap sz l n)else none
   |_=>none
  else none
 |none=>none
def Hd(P:Program)(t:TypeId):Bool:=match P.underlying t with
 |some (.int _)=>false
 |some _=>true
 |none=>false
def uk(P:Program)(sT xT:TypeId)(s:S)(x y:V):Option (V×S) :=
 match P.underlying sT with
 |some (.slice elem)=>bif Hd P xT then
  match size P elem with
  |some sz=>bif vz P elem sz then eM (aF P elem) s elem sz x (jd s sz y)else none
  |none=>none
  else none
 |_=>none
def jz(P:Program)(t:TypeId)(s:S)(x:V):Option V :=
 match P.underlying t,x with
 |some .string,.str l=>some (pu .i64 l.length)
 |some (.array n _),_=>some (.int .i64 n)
 |some (.slice _),.slice _ _ n _ _=>some (pu .i64 n)
 |some (.slice _),.nilslice=>some (.int .i64 0)
 |some (.map _ _),.nilmap=>some (.int .i64 0)
 |some (.map _ _),.map r=>match s.get r with
  |some (.map es _)=>some (.int .i64 es.length)
  |_=>none
 |_,_=>none
def NX(x y:V):Option V:=match x,y with
 |.int j a,.int k b=>bif dy j k then some (.int j (bif decide (b>a)then b else a))else none
 |_,_=>none
def NW(x y:V):Option V:=match x,y with
 |.int j a,.int k b=>bif dy j k then some (.int j (bif decide (b<a)then b else a))else none
 |_,_=>none
def Sa(f:V->V->Option V):List V->Option V
 |[]=>none
 |x::r=>r.foldlM f x
def iU(c:Nat):List Nat->Nat->Option Nat
 |[],_=>none
 |x::r,i=>bif Nat.beq (Nat.mod x 256) c then some i else iU c r (i+1)
def countByte(c:Nat):List Nat->Nat
 |[]=>0
 |x::r=>bif Nat.beq (Nat.mod x 256) c then countByte c r+1 else countByte c r
inductive Lc where
 |indexByte
 |count
structure dI where
 P:Program
 ext:FuncId->Option Lc
 orc:FuncId->List V->S->Option (V×S)
def Ft(k:Lc)(args:List V):Option V :=
 match args with
 |[.str l,.int .u8 (.ofNat c)] =>
  match k with
  |.indexByte=>some (match iU (Nat.mod c 256) l 0 with|some i=>.int .i64 (.ofNat i)|none=>.int .i64 (-1))
  |.count=>some (pu .i64 (.ofNat (countByte (Nat.mod c 256) l)))
 |_=>none
def bL(s:S)(v:Option V):Option Nx:=match v with
 |some v=>some (.val v s)
 |none=>none
def jj(x:Option (V×S)):Option Nx:=match x with
 |some (v,s)=>some (.val v s)
 |none=>none
def Nc(E:dI)(f:FuncId)(args:List V)(s:S):Option Nx :=
 match E.P.funcs[f]? with
 |none=>none
 |some fn=>match fn.body with
  |none=>match E.ext f with
   |some k=>bL s (Ft k args)
   |none=>none
  |some _=>some (.enter f args s)
def aaK(P:Program)(t:TypeId)(x:V):Option V:=match P.underlying t with
 |some (.slice _)=>match x with
  |.nilslice=>some (.int .i64 0)
  |.slice _ _ _ (some c) _=>some (pu .i64 c)
  |_=>none
 |_=>none
def jq(P:Program)(b:Builtin)(ts:Array TypeId)(args:List V)(s:S):Option Nx :=
 match b with
 |.append=>match ts[0]? with
  |some a=>match ts[1]? with
   |some b=>match args with
    |[x,y]=>jj (uk P a b s x y)
    |_=>none
   |none=>none
  |none=>none
 |.len=>match ts[0]? with
  |some a=>match args with
   |[x]=>bL s (jz P a s x)
   |_=>none
  |none=>none
 |.max=>bL s (Sa NX args)
 |.min=>bL s (Sa NW args)
 |.recover=>some (.recover s)
 |.cap=>match ts[0]? with
  |some a=>match args with
   |[x]=>bL s (aaK P a x)
   |_=>none
  |none=>none
 |.panic=>match args with
  |[.iface t v]=>some (.panic (.iface t v) s)
  |_=>none
 |_=>none
def eZ(o:Option V)(d:Nat):Option Nat:=match o with
 |some v=>mh v
 |none=>some d
def cm(o:Option Nat):Bool:=match o with
 |some n=>Nat.beq n 0
 |none=>false
def cZ(P:Program)(t:TypeId)(x:V)(lo hi mx:Option V):Option V :=
 match P.underlying t with
 |some .string=>match x,mx with
  |.str l,none =>
   let h:=eZ hi l.length
   let b:=eZ lo 0
   match b,h with
   |some b,some h=>bif Nat.ble h l.length&&Nat.ble b h then some (.str ((l.drop b).take (h - b)))else none
   |_,_=>none
  |_,_=>none
 |some (.slice e) =>
  match size P e with
  |some sz =>
   match x with
   |.nilslice =>
    bif mx.isSome&&!hi.isSome then none else
    bif cm (eZ lo 0)&&cm (eZ hi 0)&&cm (eZ mx 0)then some .nilslice else none
   |.slice a z len cap sz' =>
    bif Nat.beq sz' 0||(Nat.beq len 0&&io cap)then(bif (cm (eZ lo 0)&&cm (eZ hi 0)&&cm (eZ mx 0))&&!(mx.isSome&&!hi.isSome)then some (.slice a z len cap sz')else none)else
    bif Nat.beq sz sz'&&!(mx.isSome&&!hi.isSome)then
    let h:=eZ hi len
    let b:=eZ lo 0
    match b,h with
    |some b,some h =>
     match mx with
     |none =>
      match cap with
      |some c=>bif Nat.ble h c&&Nat.ble b h then
       (bif Nat.beq c b then some (.slice a 0 (h - b) (some 0) sz)else some (.slice (cq a (b*sz)) 0 (h - b) (some (c - b)) sz))else none
      |none=>bif Nat.ble h len&&Nat.ble b h then
       (bif Nat.beq b 0 then some (.slice a z h none sz)else some (.slice (cq a (b*sz)) a.c (h - b) none sz))else none
     |some m=>match mh m with
      |some m =>
       bif Nat.ble m len&&Nat.ble h m&&Nat.ble b h then
        (bif Nat.beq m b then(bif cap.isSome||Nat.blt 0 len||Nat.beq z a.c then some (.slice a 0 (h - b) (some 0) sz)else none)else some (.slice (cq a (b*sz)) 0 (h - b) (some (m - b)) sz))
       else none
      |none=>none
    |_,_=>none
    else none
   |_=>none
  |none=>none
 |_=>none
def mG:List V->Option (List Nat)
 |[]=>some []
 |.int .u8 (.ofNat n)::r=>(mG r).map (n::·)
 |_=>none
def gQ(P:Program)(el:TypeId):Bool:=match P.underlying el with
 |some (.int .u8)=>true
 |_=>false
def CG(P:Program)(s:S)(ds:TypeDesc)(x:V):Option (V×S):=match x with
 |.int _ n=>some (.str ((Utf8.encode n).data.toList.map UInt8.toNat),s)
 |.str l=>some (.str l,s)
 |.nilslice=>match ds with
  |.slice el=>bif gQ P el then some (.str [],s)else none
  |_=>none
 |.slice a _ n _ sz=>match ds with
  |.slice el=>bif gQ P el then(bif Nat.beq sz 0 then none else match(loadCells s a n).bind mG with|some l=>some (.str l,s)|none=>none)else none
  |_=>none
 |_=>none
def qj(P:Program)(s:S)(ds:TypeDesc)(el:TypeId)(x:V):Option (V×S):=match x with
 |.str l=>match ds with
  |.string=>bif gQ P el then(match bz true s el (l.map pX)with|(a,s)=>some (.slice a 0 l.length none 1,s))else none
  |_=>none
 |_=>none
def kz(P:Program)(s:S)(a dst:TypeId)(x:V):Option (V×S) :=
 match P.underlying a with
 |some ds=>match P.underlying dst with
  |some (.int k)=>match x with
   |.int _ n=>some (pu k (k.wrap n),s)
   |_=>none
  |some .string=>CG P s ds x
  |some (.slice el)=>qj P s ds el x
  |_=>none
 |none=>none
def JI(s:Option S):Option Nx:=match s with
 |some s=>some (.skip s)
 |none=>none
def rh(x:Ad×S):Option Nx:=match x with
 |(a,s)=>some (.val (.ptr a) s)
def iq(t:T V):List Operand->Option (List V)
 |[]=>some []
 |x::r=>match eval t x with
  |some v=>match iq t r with
   |some l=>some (v::l)
   |none=>none
  |none=>none
def eG(t:T V):List (Nat×Operand)->Option (List (Nat×V))
 |[]=>some []
 |(i,x)::r=>match eval t x with
  |some v=>match eG t r with
   |some l=>some ((i,v)::l)
   |none=>none
  |none=>none
def mu(t:T V):Option Operand->Option (Option V)
 |none=>some none
 |some x=>match eval t x with
  |some v=>some (some v)
  |none=>none
def nX(t:T V)(s:S)(c a b:Operand):Option Nx:=match eval t c with
 |some (.bool q)=>bL s (eval t (bif q then a else b))
 |_=>none
def jG(P:Program)(s:S)(elem:TypeId):Option Nx:=match zero P elem with
 |some z=>rh (bA s elem z.cells)
 |none=>none
def ua(s:S)(elem:TypeId)(x:Option V):Option Nx:=match x with
 |some z=>rh (bA s elem z.cells)
 |none=>none
def pJ(P:Program)(fs:Array Field)(i:Nat):Option (Nat×Nat):=match fs[i]? with
 |some f=>match size P f.type with
  |some n=>some (f.offset,n)
  |none=>none
 |none=>none
def IM(x:Option (List V)):Option V:=match x with
 |some l=>some (.agg l)
 |none=>none
def qF(P:Program)(ty:TypeId)(l:Option (List (Nat×V))):Option V :=
 match zero P ty with
 |some z=>match l with
  |some l=>match P.underlying ty with
   |some (.struct fs)=>bif fs.toList.all (λf=>(size P f.type).isSome)then IM (rp (pJ P fs) z.cells l)else none
   |some (.array _ el)=>match size P el with
    |some n=>IM (rp (λi=>some (i*n,n)) z.cells l)
    |none=>none
   |_=>none
  |none=>none
 |none=>none
def mf(el:TypeId)(len n:Nat)(s:S)(cs:Option (List V)):Option Nx:=match cs with
 |some cs=>match bA s el cs with
  |(a,s)=>some (.val (.slice a 0 len (some len) n) s)
 |none=>none
def cJ(P:Program)(s:S)(ty:TypeId)(len:Nat)(l:Option (List (Nat×V))):Option Nx :=
 match P.underlying ty with
 |some (.slice el)=>match l with
  |some l=>match zero P el with
   |some z=>match size P el with
    |some n=>bif Nat.ble (len*n) 10000&&!(Nat.beq n 0)&&Nat.beq z.cells.length n then mf el len n s (rp (λi=>some (i*n,n)) (List.replicate len z.cells).flatten l)else none
    |none=>none
   |none=>none
  |none=>none
 |_=>none
def jm(P:Program)(s:S)(ty:TypeId)(x:Option V):Option Nx:=match x with
 |some (.ptr a)=>bL s (loadVar P s ty a)
 |_=>none
def tU(P:Program)(s:S)(ty:TypeId)(x y:Option V):Option Nx:=match x with
 |some (.ptr a)=>match y with
  |some v=>JI (storeVar P s ty a v)
  |none=>none
 |_=>none
def nY(x:Option V):Option V:=match x with
 |some (.ptr a)=>some (.ptr a)
 |some (.func fn fi ca)=>match fn with
  |.func f=>some (.func (.func f) fi ca)
  |.yield f=>some (.func (.yield f) fi ca)
  |_=>none
 |_=>none
def gk(P:Program)(s:S)(op:BinOp)(ty:TypeId)(ox oy:Operand)(x y:Option V):Option V:=match x with
 |some a=>match y with
  |some b=>bif gS P op ty ox oy a b then gb P (bU s) op ty a b else none
  |none=>none
 |none=>none
def aat(op:UnOp)(x:Option V):Option V:=match x with
 |some a=>Pr op a
 |none=>none
def gZ(P:Program)(s:S)(b dst:TypeId)(x:Option V):Option Nx:=match x with
 |some a=>jj (kz P s b dst a)
 |none=>none
def qC(P:Program)(ty:TypeId)(x:Option V):Option V:=match P.underlying ty with
 |some (.interface _)=>none
 |some _=>match x with
  |some v=>some (.iface ty v)
  |none=>none
 |none=>none
def ES(fn:Fn)(a b:Option (List V)):Option V:=match a with
 |some a=>match b with
  |some b=>some (.func fn a b)
  |none=>none
 |none=>none
def tX(fn:Fn)(a b:Option (List V)):Option V:=match fn with
 |.yield _=>none
 |fn=>ES fn a b
def eI(P:Program)(s:S)(ty:TypeId)(l c:Option Nat):Option Nx:=match P.underlying ty with
 |some (.slice el)=>match l with
  |some l=>match c with
   |some c=>match zero P el with
    |some z=>match size P el with
     |some n=>bif Nat.ble l c&&Nat.ble c 2199023255552&&!(Nat.beq n 0)&&Nat.beq z.cells.length n&&mR P el c then
      match bA s el (List.replicate c z.cells).flatten with
      |(a,s)=>some (.val (.slice a 0 l (some c) n) s)
      else none
     |none=>none
    |none=>none
   |none=>none
  |none=>none
 |_=>none
def dQ(x:Option V):Option Nat:=match x with
 |some v=>mh v
 |none=>none
def tV(P:Program)(ty:TypeId)(x:Option V)(lo hi mx:Option (Option V)):Option V:=match x with
 |some x=>match lo with
  |some lo=>match hi with
   |some hi=>match mx with
    |some mx=>cZ P ty x lo hi mx
    |none=>none
   |none=>none
  |none=>none
 |none=>none
def ja(P:Program)(ty:TypeId)(x:Option V)(f:Nat):Option V:=match P.underlying ty with
 |some (.struct fs)=>match x with
  |some (.ptr a)=>match fs[f]? with
   |some b=>bif lq b P then none else some (.ptr (cq a b.offset))
   |none=>none
  |_=>none
 |_=>none
def tZ(P:Program)(ty:TypeId)(x:Option V)(f:Nat):Option V:=match P.underlying ty with
 |some (.struct fs)=>match x with
  |some (.agg cs)=>match fs[f]? with
   |some a=>vZ P a.type cs a.offset
   |none=>none
  |_=>none
 |_=>none
def eQ(P:Program)(ty:TypeId)(x:Option V)(i:Option Nat):Option V:=match i with
 |some i=>match P.underlying ty with
  |some (.slice el)=>match x with
   |some (.slice a _ len _ sz)=>match size P el with
    |some n=>bif Nat.beq n sz&&Nat.blt i len then some (.ptr (cq a (i*n)))else none
    |none=>none
   |_=>none
  |some (.array len el)=>match x with
   |some (.ptr a)=>match size P el with
    |some n=>bif Nat.blt i len then some (.ptr (cq a (i*n)))else none
    |none=>none
   |_=>none
  |_=>none
 |none=>none
def qD(P:Program)(ty:TypeId)(x:Option V)(i:Option Nat):Option V:=match i with
 |some i=>match P.underlying ty with
  |some .string=>match x with
   |some (.str l)=>match l[i]? with
    |some c=>some (pX c)
    |none=>none
   |_=>none
  |some (.array len el)=>match x with
   |some (.agg cs)=>match size P el with
    |some n=>bif Nat.blt i len then vZ P el cs (i*n)else none
    |none=>none
   |_=>none
  |_=>none
 |none=>none
def AX(s:S)(m:V):Option (List qT):=match m with
 |.nilmap=>some []
 |.map r=>match s.get r with
  |some (.map es _)=>some es
  |_=>none
 |_=>none
def MG(P:Program)(el:TypeId)(ok:Bool)(x:Option (Option V)):Option V:=match x with
 |some (some v)=>some (bif ok then .tuple [v,.bool true] else v)
 |some none=>match zero P el with
  |some z=>some (bif ok then .tuple [z,.bool false] else z)
  |none=>none
 |none=>none
def ez(P:Program)(t:TypeId):Bool:=match P.underlying t with
 |some (.int _)=>true
 |some .string=>true
 |some .bool=>true
 |some (.pointer _)=>true
 |_=>false
def ku(P:Program)(s:S)(ty:TypeId)(m k:Option V)(ok:Bool):Option V:=match P.underlying ty with
 |some (.map kt el)=>match m with
  |some m=>match k with
   |some k=>match AX s m with
    |some es=>bif ez P kt then MG P el ok (cC (dq P (bU s) 20 kt) k es)else none
    |none=>none
   |none=>none
  |none=>none
 |_=>none
def xB(s:S)(r:Nat)(k x:V)(es:List qT)(clock:Nat)(u:Option (Option (List qT))):Option Nx:=match u with
 |some (some es)=>some (.skip (s.put r (.map es clock)))
 |some none=>some (.skip (s.put r (.map (es++[⟨k,x,clock⟩]) (clock+1))))
 |none=>none
def fK(P:Program)(s:S)(ty:TypeId)(m k x:Option V):Option Nx:=match m with
 |some (.map r)=>match k with
  |some k=>match x with
   |some x=>match P.underlying ty with
    |some (.map kt _)=>match s.get r with
     |some (.map es clock)=>bif ez P kt then xB s r k x es clock (dp (dq P (bU s) 20 kt) k x es)else none
     |_=>none
    |_=>none
   |none=>none
  |none=>none
 |_=>none
def fI(P:Program)(ty:TypeId)(ok:Bool):Option V:=bif ok then match zero P ty with
 |some z=>some (.tuple [z,.bool false])
 |none=>none
 else none
def mz(P:Program)(x:Option V)(ty:TypeId)(ok:Bool):Option V:=match P.underlying ty with
 |some (.interface _)=>none
 |some _=>match x with
  |some .nilIface=>fI P ty ok
  |some (.iface t v)=>bif Nat.beq t ty then some (bif ok then .tuple [v,.bool true] else v)else fI P ty ok
  |_=>none
 |none=>none
def qE(x:Option V)(i:Nat):Option V:=match x with
 |some (.tuple vs)=>vs[i]?
 |_=>none
def Nb(E:dI)(s:S)(args:List V)(f:Option V):Option Nx:=match f with
 |some (.func fn first cap)=>match fn with
  |.func g=>Nc E g (first++(args++cap)) s
  |.yield l=>some (.round l (first++args) s)
  |_=>none
 |_=>none
def iI(E:dI)(t:T V)(s:S)(ts:Array TypeId)(args:Option (List V))(c:Callee):Option Nx:=match args with
 |some args=>match c with
  |.builtin b=>jq E.P b ts args s
  |.value f=>Nb E s args (eval t f)
  |.invoke _ _=>none
 |none=>none
def FJ(s:S)(args:List V)(f:Option V):Option Nx:=match f with
 |some (.func fn first cap)=>some (.defer (.call fn cap (first++args)) s)
 |_=>none
def qG(t:T V)(s:S)(args:Option (List V))(c:Callee):Option Nx:=match args with
 |some args=>match c with
  |.value f=>FJ s args (eval t f)
  |_=>none
 |none=>none
def ye(s:S)(x:Option V):Option Nx:=match x with
 |some (.iface t v)=>some (.panic (.iface t v) s)
 |_=>none
def dj:Op->dI->T V->S->Option Nx
 |.move x,_,t,s=>bL s (eval t x)
 |.assign x,_,t,s=>bL s (eval t x)
 |.pick c a b,_,t,s=>nX t s c a b
 |.alloc elem,E,_,s=>jG E.P s elem
 |.box elem x,_,t,s=>ua s elem (eval t x)
 |.build ty parts,E,t,s=>bL s (qF E.P ty (eG t parts.toList))
 |.buildSlice ty len parts,E,t,s=>cJ E.P s ty len (eG t parts.toList)
 |.load ty x,E,t,s=>jm E.P s ty (eval t x)
 |.store ty x y,E,t,s=>tU E.P s ty (eval t x) (eval t y)
 |.nilCheck x,_,t,s=>bL s (nY (eval t x))
 |.binOp op ty x y _,E,t,s=>bL s (gk E.P s op ty x y (eval t x) (eval t y))
 |.unOp op _ x,_,t,s=>bL s (aat op (eval t x))
 |.convert d dst x,E,t,s=>gZ E.P s d dst (eval t x)
 |.makeInterface ty x,E,t,s=>bL s (qC E.P ty (eval t x))
 |.makeFunc fn first cap,_,t,s=>bL s (tX fn (iq t first.toList) (iq t cap.toList))
 |.makeMap _ none,_,_,s=>some (.val (.map s.next) (s.alloc (.map [] 0)))
 |.makeSlice ty l c,E,t,s=>eI E.P s ty (dQ (eval t l)) (dQ (eval t c))
 |.slice ty x lo hi mx,E,t,s=>bL s (tV E.P ty (eval t x) (mu t lo) (mu t hi) (mu t mx))
 |.fieldAddr ty x f,E,t,s=>bL s (ja E.P ty (eval t x) f)
 |.field ty x f,E,t,s=>bL s (tZ E.P ty (eval t x) f)
 |.indexAddr ty x i,E,t,s=>bL s (eQ E.P ty (eval t x) (dQ (eval t i)))
 |.index ty x i,E,t,s=>bL s (qD E.P ty (eval t x) (dQ (eval t i)))
 |.lookup ty x k ok,E,t,s=>bL s (ku E.P s ty (eval t x) (eval t k) ok)
 |.mapUpdate ty m k x,E,t,s=>fK E.P s ty (eval t m) (eval t k) (eval t x)
 |.insert ty m k x,E,t,s=>fK E.P s ty (eval t m) (eval t k) (eval t x)
 |.typeAssert x _ ty ok,E,t,s=>bL s (mz E.P (eval t x) ty ok)
 |.extract x i,_,t,s=>bL s (qE (eval t x) i)
 |.call c,E,t,s=>iI E t s c.argTypes (iq t c.args.toList) c.callee
 |.defer c,_,t,s=>qG t s (iq t c.args.toList) c.callee
 |.panic x,_,t,s=>ye s (eval t x)
 |_,_,_,_=>none
def dC(E:dI)(t:T V)(s:S)(o:Oper):Option Nx:=dj o.op E t s
def ql(P:Program)(t:T V)(s:S):ResultVar->Option V
 |.tmp i=>t.get (eX i)
 |.cell a ty=>match t.get (eX a)with
  |some (.ptr a)=>loadVar P s ty a
  |_=>none
def kU(P:Program)(t:T V)(s:S):List ResultVar->Option (List V)
 |[]=>some []
 |x::r=>match ql P t s x with
  |some v=>match kU P t s r with
   |some l=>some (v::l)
   |none=>none
  |none=>none
def zq:List V->V
 |[v]=>v
 |vs=>.tuple vs
def sW(P:Program)(fn:Func)(t:T V)(s:S):Option V:=match kU P t s fn.results.toList with
 |some l=>some (zq l)
 |none=>none
def js:Md->Md
 |.panicking (⟨_,true⟩::_)=>.returning
 |m=>m
def tc(m:Md)(c:List Gm):Md:=match m with
 |.panicking old=>.panicking (c++old)
 |_=>.panicking c
def lr{β:Type}:List V->Nat->T V->(T V->β)->β
 |[],_,t,k=>k t
 |x::r,i,t,k=>t.setK (some x) (eX i) λt=>lr r (i+1) t k
structure ft where
 e:End
 up:Option Md
 s:S
abbrev Go:=T V->List Item->List eO->Md->Option Md->Option Nat->S->Option ft
def nH(go:Go)(t:T V)(ds:List eO)(up:Option Md)(rd:Option Nat)(s:S)(jump:Option Code):Option ft :=
 match rd with
 |none=>match jump with
  |none=>go t [] ds .returning up rd s
  |some .ret=>go t [] ds .returning up rd s
  |_=>none
 |some l=>match s.get l with
  |some (.loop _ _ f t ps a b d nt) =>some ⟨.returned (.bool jump.isNone),up,s.put l (.loop (bif jump.isNone then .ready else .done) jump f t ps a b d nt)⟩
  |_=>none
def cP{β:Type}:T V->List Tmp->List V->(T V->β)->β
 |t,p::ps,x::xs,k=>t.setK (some x) (eX p) λt=>cP t ps xs k
 |t,_,_,k=>k t
inductive kO where
 |on (t:T V) (ds:List eO) (up:Option Md) (s:S)
 |panicked (c:List Gm) (t:T V) (ds:List eO) (up:Option Md) (s:S)
abbrev iK:=FuncId->List V->Option Md->S->Option ft
abbrev Cx:=Nat->List V->S->Option ft
abbrev RK:=T V->List eO->Option Md->S->Option kO
def fS(d:Option Tmp)(t:T V)(ds:List eO)(up:Option Md)(k:RK):Option ft->Option kO
 |some ⟨.returned v,_,s⟩=>oE t d (some v) λt=>k t ds up s
 |some ⟨.panicked c,_,s⟩=>some (.panicked c t ds up s)
 |none=>none
def recovered(d:Option Tmp)(t:T V)(ds:List eO)(s:S)(k:RK):Option Md->Option kO
 |some (.panicking (⟨v,false⟩::older))=>oE t d (some v) λt=>k t ds (some (.panicking (⟨v,true⟩::older))) s
 |some m=>oE t d (some .nilIface) λt=>k t ds (some m) s
 |none=>none
def eg(rec:iK)(recR:Cx)(rd:Option Nat)(d:Option Tmp)(t:T V)(ds:List eO)(up:Option Md)(k:RK):Option Nx->Option kO
 |some (.val v s)=>oE t d (some v) λt=>k t ds up s
 |some (.skip s)=>oE t d (some V.undef) λt=>k t ds up s
 |some (.enter f args s)=>fS d t ds up k (rec f args none s)
 |some (.round l args s)=>fS d t ds up k (recR l args s)
 |some (.defer df s)=>bif rd.isSome then none else oE t d (some V.undef) λt=>k t (df::ds) up s
 |some (.recover s)=>recovered d t ds s k up
 |some (.panic v s)=>some (.panicked [⟨v,false⟩] t ds up s)
 |none=>none
def rO(E:dI)(rec:iK)(recR:Cx)(rd:Option Nat)(o:Oper)(t:T V)(ds:List eO)(up:Option Md)(s:S)(k:RK):Option Bool->Option kO
 |some true=>eg rec recR rd o.dst t ds up k (dC E t s o)
 |some false=>oE t o.dst (some V.undef) λt=>k t ds up s
 |none=>none
def rJ(E:dI)(ops:Array Oper)(rec:iK)(recR:Cx)(rd:Option Nat):List Oper->RK
 |[]=>λt ds up s=>some (.on t ds up s)
 |o::r=>λt ds up s=>rO E rec recR rd o t ds up s (rJ E ops rec recR rd r) (bT ops t o)
def aL(P:Program):Op->Nat
 |.load ..|.lookup ..=>1
 |.binOp op ..=>bif rY op then 1 else 0
 |.alloc _|.box ..|.buildSlice ..|.makeMap ..|.makeSlice ..=>2
 |.convert _ dst _=>match P.underlying dst with
  |some (.slice _)=>2
  |some .string=>1
  |_=>0
 |.move _|.assign _|.pick ..|.build ..|.nilCheck _|.unOp ..|.makeInterface ..|.makeFunc ..|.slice ..|.fieldAddr ..|.field ..|.indexAddr ..|.index ..|.typeAssert ..|.extract ..=>0
 |.call c=>match c.callee with
  |.builtin .len|.builtin .cap|.builtin .max|.builtin .min=>1
  |_=>3
 |_=>3
def rR(o:Oper)(acc:List Nat):Nat :=
 o.after.toList.foldl (λs e=>bif Region.binds .any e then Nat.lor s (Nat.lor (Nat.pow 2 e.on) (acc.getD e.on 0))else s) 0
def lj:List Oper->List Nat->List Nat
 |[],acc=>acc
 |o::r,acc=>lj r (acc++[rR o acc])
def sees(o:Oper):List Tmp:=o.op.operands.toList.filterMap fun|.tmp t=>some t|_=>none
def KG(ms:List Nat)(l:List (Nat×Oper)):Bool :=
 l.all fun(i,o) =>
  (o.after.toList.all λe=>!(Region.binds .any e)||Nat.blt e.on i) &&
  (match o.guard with|some (g,_)=>(ms.getD i 0).testBit g|none=>true) &&
  l.all fun(j,q)=>Nat.beq i j||match q.dst with
   |none=>true
   |some d=>!(o.dst==some d)&&(!((sees o).contains d)||(ms.getD i 0).testBit j||(ms.getD j 0).testBit i)
def DI(ms:List Nat):List Nat->Bool
 |a::b::r=>(ms.getD b 0).testBit a&&DI ms (b::r)
 |_=>true
def tT(P:Program)(l:List (Nat×Oper)):List (Nat×Oper):=l.filter fun(_,o)=>Nat.beq (aL P o.op) 3
def bq:List V->List V->Bool
 |[],[]=>true
 |x::r,y::q=>sameV x y&&bq r q
 |_,_=>false
 where sameV:V->V->Bool
  |.bool a,.bool b=>a==b
  |.int j a,.int k b=>j==k&&a==b
  |.str a,.str b=>a==b
  |.ptr a,.ptr b=>Nat.beq a.f b.f&&Nat.beq a.v b.v&&Nat.beq a.c b.c
  |.nilptr,.nilptr=>true
  |.slice a z n c sz,.slice b y m d sy=>Nat.beq a.f b.f&&Nat.beq a.v b.v&&Nat.beq a.c b.c&&Nat.beq z y&&Nat.beq n m&&c==d&&Nat.beq sz sy
  |.nilslice,.nilslice=>true
  |.map a,.map b=>Nat.beq a b
  |.nilmap,.nilmap=>true
  |.nilFunc,.nilFunc=>true
  |.nilIface,.nilIface=>true
  |.func f a b,.func g c d=>decide (f=g)&&bq a c&&bq b d
  |.iface t v,.iface u w=>Nat.beq t u&&sameV v w
  |.agg a,.agg b=>bq a b
  |.tuple a,.tuple b=>bq a b
  |.atom a,.atom b=>Nat.beq a b
  |_,_=>false
def gL(E:dI)(t:T V)(o:Oper):List S->Option V
 |[]=>none
 |[s]=>match dC E t s o with
  |some (.val v _)=>some v
  |_=>none
 |s::r=>match dC E t s o with
  |some (.val v _)=>match gL E t o r with
   |some w=>bif bq [v] [w] then some v else none
   |none=>none
  |_=>none
def pF(m:Nat):List (Nat×S)->List S
 |[]=>[]
 |(e,s)::r=>s::(bif m.testBit e then [] else pF m r)
def sF(s:S):Option Nx->Option (V×S)
 |some (.val v _)=>some (v,s)
 |_=>none
def xA:Option Nx->Option (V×S)
 |some (.val v s)=>some (v,s)
 |_=>none
def sY(s:S):Option V->Option (V×S)
 |some v=>some (v,s)
 |none=>none
def Fl(E:dI)(a:List (Nat×S))(m:Nat)(t:T V)(s:S)(o:Oper):Nat->Option (V×S)
 |0=>sF s (dC E t s o)
 |1=>sY s (gL E t o (pF m a))
 |2=>xA (dC E t s o)
 |_=>none
def jQ(E:dI)(a:List (Nat×S))(m:Nat)(t:T V)(s:S)(o:Oper):Option Bool->Option (V×S)
 |some true=>Fl E a m t s o (aL E.P o.op)
 |some false=>some (V.undef,s)
 |none=>none
def cz(E:dI)(ops:Array Oper)(ms:List Nat)(effs:Nat)(a:List (Nat×S))(m:Nat):List (Nat×Oper)->Nat->T V->S->Option (Nat×T V×S)
 |[],done,t,s=>some (done,t,s)
 |(i,o)::r,done,t,s =>
  bif !(m.testBit i)||done.testBit i then cz E ops ms effs a m r done t s
  else bif effs.testBit i then none
  else match jQ E a (ms.getD i 0) t s o (bT ops t o)with
   |some (v,s)=>oE t o.dst (some v) λt=>cz E ops ms effs a m r (Nat.lor done (Nat.pow 2 i)) t s
   |none=>none
def AZ:Option ft->Option (V×S)
 |some ⟨.returned v,_,s⟩=>some (v,s)
 |_=>none
def ru(rec:iK):Option Nx->Option (V×S)
 |some (.val v s)=>some (v,s)
 |some (.skip s)=>some (V.undef,s)
 |some (.enter f args s)=>AZ (rec f args none s)
 |_=>none
def jE(E:dI)(rec:iK)(t:T V)(s:S)(o:Oper):Option Bool->Option (V×S)
 |some true=>ru rec (dC E t s o)
 |some false=>some (V.undef,s)
 |none=>none
inductive OY where
 |val (v:V) (s:S)
 |pan (c:List Gm) (s:S)
def nW:Option ft->Option OY
 |some ⟨.returned v,_,s⟩=>some (.val v s)
 |some ⟨.panicked c,_,s⟩=>some (.pan c s)
 |none=>none
def kn(rec:iK):Option Nx->Option OY
 |some (.val v s)=>some (.val v s)
 |some (.skip s)=>some (.val V.undef s)
 |some (.enter f args s)=>nW (rec f args none s)
 |some (.panic v s)=>some (.pan [⟨v,false⟩] s)
 |_=>none
def gX(E:dI)(rec:iK)(t:T V)(s:S)(o:Oper):Option Bool->Option OY
 |some true=>kn rec (dC E t s o)
 |some false=>some (.val V.undef s)
 |none=>none
def dT(ms:List Nat)(i:Nat):List (Nat×Oper)->Nat
 |[]=>0
 |(k,_)::r=>bif (ms.getD k 0).testBit i||Nat.beq k i then dT ms i r else Nat.lor (Nat.pow 2 k) (dT ms i r)
def dU(done:Nat):List (Nat×Oper)->T V->T V
 |[],t=>t
 |(k,o)::r,t=>bif done.testBit k then dU done r t else match o.dst with
  |some d=>t.setK none (eX d) λt=>dU done r t
  |none=>dU done r t
def LX(ds:List eO)(up:Option Md)(done:Nat)(all:List (Nat×Oper))(t:T V)(c:List Gm)(s:S):Option (Nat×T V×S)->Option kO
 |some _=>some (.panicked c (dU done all t) ds up s)
 |none=>none
def gJ(E:dI)(ops:Array Oper)(ms:List Nat)(effs:Nat)(all:List (Nat×Oper))(rec:iK)(ds:List eO)(up:Option Md) :
 List (Nat×Oper)->List (Nat×S)->Nat->T V->S->Option kO
 |[],a,done,t,s =>
  match cz E ops ms effs a (Nat.pow 2 ops.size - 1) all done t s with
  |some (_,t,s)=>some (.on t ds up s)
  |none=>none
 |(i,o)::r,a,done,t,s =>
  match cz E ops ms effs a (ms.getD i 0) all done t s with
  |some (done,t,s) =>
   match gX E rec t s o (bT ops t o)with
   |some (.val v s')=>bif Nat.ble s.next s'.next&&!(done.testBit i)&&effs.testBit i then oE t o.dst (some v) λt=>gJ E ops ms effs all rec ds up r ((i,s')::a) (Nat.lor done (Nat.pow 2 i)) t s' else none
   |some (.pan c s')=>bif done.testBit i then none else LX ds up done all t c s' (cz E ops ms effs a (dT ms i all) all done t s)
   |none=>none
  |none=>none
def cS:List Oper->Nat->List (Nat×Oper)
 |[],_=>[]
 |o::r,i=>(i,o)::cS r (i+1)
structure aff where
 ms:List Nat
 all:List (Nat×Oper)
 effs:List (Nat×Oper)
 mask:Nat
def Qs(P:Program)(ops:Array Oper):Option aff :=
 let l:=cS ops.toList 0
 let ms:=lj ops.toList []
 let es:=tT P l
 bif KG ms l&&DI ms (es.map (·.1))then some ⟨ms,l,es,es.foldl (λs x=>Nat.lor s (Nat.pow 2 x.1)) 0⟩else none
def iS(E:dI)(ops:Array Oper)(rec:iK)(_recR:Cx)(t:T V)(ds:List eO)(up:Option Md)(s:S):Option kO :=
 match Qs E.P ops with
 |some ⟨ms,l,es,mask⟩=>gJ E ops ms mask l rec ds up es [(ops.size,s)] 0 t s
 |none=>none
abbrev XX:=dI->FuncId->Func->Go->iK->Cx->List Item->T V->List eO->Option Md->Option Nat->S->Option ft
def FO(go:Go)(k:List Item)(t:T V)(ds:List eO)(up:Option Md)(rd:Option Nat)(s:S)(a b:Code):Option V->Option ft
 |some (.bool q)=>go t (.code (bif q then a else b)::k) ds .run up rd s
 |_=>none
def rV(go:Go)(t:T V)(ds:List eO)(up:Option Md)(rd:Option Nat)(s:S)(c:Code):Option (List Item)->Option ft
 |some k=>go t k ds .run up rd s
 |none=>nH go t ds up rd s (some c)
def gK(go:Go)(k:List Item)(rd:Option Nat):Option kO->Option ft
 |some (.on t ds up s)=>go t k ds .run up rd s
 |some (.panicked c t ds up s)=>go t k ds (.panicking c) up rd s
 |none=>none
def tC(go:Go)(k:List Item)(t:T V)(ds:List eO)(up:Option Md)(rd:Option Nat)(d l:Nat)(s:S):Option dY->Option ft
 |some (.loop st pend f' t' ps' a b e nt)=>match st with
  |.busy=>none
  |_=>go t ((pend.map Item.code).toList++k) (.collected d::ds) .run up rd (s.put l (.loop .exhausted pend f' t' ps' a b e nt))
 |_=>none
def kV(go:Go)(k:List Item)(t:T V)(ds:List eO)(up:Option Md)(rd:Option Nat)(d l:Nat):Option ft->Option ft
 |some ⟨.returned _,_,s⟩=>tC go k t ds up rd d l s (s.get l)
 |some ⟨.panicked c,_,s⟩=>go t k (.collected d::ds) (.panicking c) up rd s
 |none=>none
def gx(f:FuncId)(nt:Nat)(go:Go)(rec:iK)(k:List Item)(t:T V)(ds:List eO)(up:Option Md)(rd:Option Nat)(s:S)
 (ps:Array Tmp) (assign body:Code):Option V->Option ft
 |some (.func fn first cap)=>match fn with
  |.func g=>match rd with
   |none =>
    let d:=s.next
    let s:=s.alloc .deferred
    let l:=s.next
    kV go k t ds up rd d l (rec g (first++([.func (.yield l) [] []]++cap)) none (s.alloc (.loop .ready none f t ps assign body d nt)))
   |some _=>none
  |_=>none
 |_=>none
def mw(ops:Array Oper)(n:Nat):Bool:=ops.toList.all λo=>match o.dst with
 |some d=>Nat.blt d n
 |none=>true
def cW:Code->XX
 |.ret=>λ_ _ _ go _ _ _ t ds up rd s=>nH go t ds up rd s (some .ret)
 |.skip=>λ_ _ _ go _ _ k t ds up rd s=>go t k ds .run up rd s
 |.label _=>λ_ _ _ go _ _ k t ds up rd s=>go t k ds .run up rd s
 |.seq a b=>λ_ _ _ go _ _ k t ds up rd s=>go t (.code a::.code b::k) ds .run up rd s
 |.cond c a b=>λ_ _ _ go _ _ k t ds up rd s=>FO go k t ds up rd s a b (eval t c)
 |.block id c=>λ_ _ _ go _ _ k t ds up rd s=>go t (.code c::.inBlock id::k) ds .run up rd s
 |.loop c=>λ_ _ _ go _ _ k t ds up rd s=>go t (.code c::.inLoop c::k) ds .run up rd s
 |.scope c=>λ_ _ _ go _ _ k t ds up rd s=>go t (.code c::.inScope c::k) ds .run up rd s
 |.exit id=>λ_ _ _ go _ _ k t ds up rd s=>rV go t ds up rd s (.exit id) (exitTo id k)
 |.goto l=>λ_ _ _ go _ _ k t ds up rd s=>rV go t ds up rd s (.goto l) (gotoIn l k)
 |.rangeFunc g ps assign body=>λ_ f fn go rec _ k t ds up rd s=>gx f fn.ntmps go rec k t ds up rd s ps assign body (eval t g)
 |.region _ ops true=>λE _ fn go rec recR k t ds up rd s=>bif mw ops fn.ntmps then gK go k rd (iS E ops rec recR t ds up s)else none
 |.region _ ops false=>λE _ fn go rec recR k t ds up rd s=>bif mw ops fn.ntmps then gK go k rd (rJ E ops rec recR rd ops.toList t ds up s)else none
 |.refuse _=>λ_ _ _ _ _ _ _ _ _ _ _ _=>none
def yn(go:Go)(k:List Item)(t:T V)(ds:List eO)(up:Option Md)(rd:Option Nat)(l:Nat)(s:S):Option dY->Option ft
 |some (.loop .ready pend f t' ps a b d nt)=>go t k ds .run up rd (s.put l (.loop .busy pend f t' ps a b d nt))
 |_=>none
def ml:Item->XX
 |.code c=>cW c
 |.inBlock _=>λ_ _ _ go _ _ k t ds up rd s=>go t k ds .run up rd s
 |.inScope _=>λ_ _ _ go _ _ k t ds up rd s=>go t k ds .run up rd s
 |.inLoop c=>λ_ _ _ go _ _ k t ds up rd s=>go t (.code c::.inLoop c::k) ds .run up rd s
 |.beginRound=>λ_ _ _ go _ _ k t ds up rd s=>match rd with
  |some l=>yn go k t ds up (some l) l s (s.get l)
  |none=>none
 |_=>λ_ _ _ _ _ _ _ _ _ _ _ _=>none
def oQ:List Item->dI->FuncId->Func->Go->iK->Cx->T V->List eO->Option Md->Option Nat->S->Option ft
 |[]=>λ_ _ _ go _ _ t ds up rd s=>nH go t ds up rd s none
 |i::k=>λE f fn go rec recR t ds up rd s=>ml i E f fn go rec recR k t ds up rd s
def kw(go:Go)(t:T V)(ds:List eO)(up:Option Md)(rd:Option Nat):Option ft->Option ft
 |some ⟨.returned _,some u,s⟩=>match u with
  |.run=>none
  |u=>go t [] ds (js u) up rd s
 |some ⟨.panicked c,some u,s⟩=>go t [] ds (tc u c) up rd s
 |_=>none
def lF(go:Go)(t:T V)(ds:List eO)(m:Md)(up:Option Md)(rd:Option Nat)(s:S)(d:Nat):Option dY->Option ft
 |some .deferred=>go t [] ds m up rd (s.put d .gone)
 |_=>none
def Qc(up:Option Md)(s:S):Option V->Option ft
 |some v=>some ⟨.returned v,up,s⟩
 |none=>none
def uQ(E:dI)(fn:Func)(t:T V)(up:Option Md)(s:S):Md->Option ft
 |.returning=>Qc up s (sW E.P fn t s)
 |.panicking c=>some ⟨.panicked c,up,s⟩
 |.run=>none
def dJ:List eO->dI->Func->Go->iK->T V->Md->Option Md->Option Nat->S->Option ft
 |.collected d::ds=>λ_ _ go _ t m up rd s=>lF go t ds m up rd s d (s.get d)
 |.call (.func f) captured args::ds=>λ_ _ go rec t m up rd s=>kw go t ds up rd (rec f (args++captured) (some m) s)
 |.call _ _ _::_=>λ_ _ _ _ _ _ _ _ _=>none
 |[]=>λE fn _ _ t m up _ s=>uQ E fn t up s m
def gz(E:dI)(f:FuncId)(fn:Func)(go:Go)(rec:iK)(recR:Cx)(t:T V)(todo:List Item)(ds:List eO)(m:Md)(up:Option Md)(rd:Option Nat)(s:S):Option ft :=
 match m with
 |.run=>oQ todo E f fn go rec recR t ds up rd s
 |.returning=>dJ ds E fn go rec t .returning up rd s
 |.panicking c=>dJ ds E fn go rec t (.panicking c) up rd s
inductive uv where
 |frame (f:FuncId) (fn:Func) (t:T V) (todo:List Item) (ds:List eO) (m:Md) (up:Option Md) (rd:Option Nat)
 |call (f:FuncId) (args:List V) (up:Option Md)
 |round (l:Nat) (args:List V)
def gC(ih:uv->S->Option ft)(f:FuncId)(fn:Func):Go:=λt todo ds m up rd s=>ih (.frame f fn t todo ds m up rd) s
def bO(ih:uv->S->Option ft):iK:=λg args up s=>ih (.call g args up) s
def eB(ih:uv->S->Option ft):Cx:=λl args s=>ih (.round l args) s
def vt(ih:uv->S->Option ft)(f:FuncId)(args:List V)(up:Option Md)(s:S):Option Func->Option ft
 |some fn=>match fn.body with
  |some c=>bif fn.name == "runtime.NumGoroutine" then none else lr args 0 .leaf λt=>ih (.frame f fn t [.code c] [] .run up none) s
  |none=>none
 |none=>none
def Bp(ih:uv->S->Option ft)(f:FuncId)(args:List V)(up:Option Md)(s:S)(fn:Option Func):Option (V×S)->Option ft
 |some (v,s)=>some ⟨.returned v,up,s⟩
 |none=>vt ih f args up s fn
def yQ(E:dI)(ih:uv->S->Option ft)(l:Nat)(args:List V)(s:S):Option dY->Option ft
 |some (.loop _ _ f t ps assign body _ nt)=>match E.P.funcs[f]? with
  |some fn=>bif Nat.ble fn.ntmps nt&&Nat.beq ps.size args.length&&ps.toList.all (λp=>Nat.blt p nt)then
   cP t ps.toList args λt=>ih (.frame f fn t [.code assign,.beginRound,.code body] [] .run none (some l)) s
   else none
  |none=>none
 |_=>none
def fy(E:dI)(ih:uv->S->Option ft):uv->S->Option ft
 |.frame f fn t todo ds m up rd,s=>gz E f fn (gC ih f fn) (bO ih) (eB ih) t todo ds m up rd s
 |.call f args up,s=>Bp ih f args up s (E.P.funcs[f]?) (match up with|none=>E.orc f args s|some _=>none)
 |.round l args,s=>yQ E ih l args s (s.get l)
def rK(E:dI)(n:Nat):uv->S->Option ft :=
 Nat.rec (motive:=λ_=>uv->S->Option ft) (λ_ _=>none) (λ_ ih j s=>fy E ih j s) n
end Go.AI
namespace Go.AI
theorem Qr:∀(n k n' b:Nat),k<=n->b<=n'->Cb n k=Cb n' b->k=b:=by
 intro n;induction n with
 |zero =>
  intro k n' b hk g h;obtain rfl:k=0:=by omega
  cases n' with
  |zero=>omega
  |succ n' =>
   cases b with
   |zero=>rfl
   |succ m =>grind [Cb]
 |succ n ih =>
  intro k n' b hk g h;cases k with
  |zero =>
   cases n' with
   |zero=>omega
   |succ n' =>
    cases b with
    |zero=>rfl
    |succ m =>grind [Cb]
  |succ m =>
   cases n' with
   |zero =>grind [Cb]
   |succ n' =>
    cases b with
    |zero =>grind [Cb]
    |succ j =>
     simp only[Cb]at h;have d:∀ x:Nat,Nat.div x 2=x / 2:=λ_=>rfl;have hm:∀ x:Nat,Nat.mod x 2=x%2:=λ_=>rfl;cases hb:Nat.beq (Nat.mod m 2) 1<;>cases a:Nat.beq (Nat.mod j 2) 1<;>simp[hb,a]at h
     .have q:=ih (Nat.div m 2) n' (Nat.div j 2) (by rw[d];omega) (by rw[d];omega) h;rw[d,d]at q;rw[hm]at hb a;have e1:¬ m%2=1:=λe=>by rw[e]at hb;simp at hb
      have e2:¬ j%2=1:=λe=>by rw[e]at a;simp at a
      omega
     grind [Nat.eq_of_beq_eq_true]
theorem Uk{k a:Nat}(h:eX k=eX a):k=a:=Qr k k a a (aaW _) (aaW _) h
namespace T
variable{α:Type}
section
variable{β:Type}(x:Option α)(p:BQ)(l r:T α)(v:Option α)(k:T α->β)
theorem get_leaf(p:BQ):(T.leaf:T α).get p=none:=by cases p<;>rfl
theorem get_o:(T.node l v r).get .o=v:=rfl
theorem get_l:(T.node l v r).get (.l p)=l.get p:=rfl
theorem get_r:(T.node l v r).get (.r p)=r.get p:=rfl
theorem oV:setK x (.l p) .leaf k=setK x p .leaf λt=>k (.node t none .leaf):=rfl
theorem oU:setK x (.l p) (.node l v r) k=setK x p l λt=>k (.node t v r):=rfl
theorem oT:setK x (.r p) .leaf k=setK x p .leaf λt=>k (.node .leaf none t):=rfl
theorem oS:setK x (.r p) (.node l v r) k=setK x p r λt=>k (.node l v t):=rfl
end
def set(x:Option α)(p:BQ)(t:T α):T α:=setK x p t id
theorem PR(x:Option α):∀(p:BQ) (β:Type) (t:T α) (k:T α->β),setK x p t k=k (setK x p t id):=by
 intro p;induction p with
 |o=>intro β t k;cases t<;>rfl
 |l p ih =>
  intro β t k;cases t with
  |leaf=>rw[oV,oV,ih β,ih (T α) .leaf (λt=>id (T.node t none .leaf))];rfl
  |node l v r=>rw[oU,oU,ih β,ih (T α) l (λt=>id (T.node t v r))];rfl
 |r p ih =>
  intro β t k;cases t with
  |leaf=>rw[oT,oT,ih β,ih (T α) .leaf (λt=>id (T.node .leaf none t))];rfl
  |node l v r=>rw[oS,oS,ih β,ih (T α) r (λt=>id (T.node l v t))];rfl
theorem setK_eq{β:Type}(x:Option α)(p:BQ)(t:T α)(k:T α->β):setK x p t k=k (set x p t):=PR x p β t k
theorem mW(x:Option α)(p:BQ):set x (.l p) .leaf=.node (set x p .leaf) none .leaf:=by unfold set;rw[oV,setK_eq];rfl
theorem mU(x:Option α)(p:BQ):set x (.r p) .leaf=.node .leaf none (set x p .leaf):=by unfold set;rw[oT,setK_eq];rfl
theorem mV(x:Option α)(p:BQ)(l r:T α)(v:Option α):set x (.l p) (.node l v r)=.node (set x p l) v r:=by unfold set;rw[oU,setK_eq];rfl
theorem mT(x:Option α)(p:BQ)(l r:T α)(v:Option α):set x (.r p) (.node l v r)=.node l v (set x p r):=by unfold set;rw[oS,setK_eq];rfl
theorem yL(x:Option α):set x .o .leaf=.node .leaf x .leaf:=rfl
theorem yK(x:Option α)(l r:T α)(v:Option α):set x .o (.node l v r)=.node l x r:=rfl
theorem get_set_same(x:Option α):∀(p:BQ) (t:T α),(set x p t).get p=x:=by
 intro p;induction p with
 |o=>intro t;cases t<;>rfl
 |l p ih=>intro t;cases t<;>simp[mW,mV,get_l,ih]
 |r p ih=>intro t;cases t<;>simp[mU,mT,get_r,ih]
theorem Cl(x:Option α):∀(p q:BQ) (t:T α),p≠q->(set x p t).get q=t.get q:=by
 intro p;induction p with
 |o =>
  intro q t h;cases q with
  |o=>exact absurd rfl h
  |l q=>cases t<;>simp[yL,yK,get_l,get_r,get_leaf]
  |r q=>cases t<;>simp[yL,yK,get_l,get_r,get_leaf]
 |l p ih =>
  intro q t h;cases q with
  |o=>cases t<;>simp[mW,mV,get_o,get_r,get_leaf]
  |l q =>have a:p≠q:=λe=>h (by rw[e]);cases t<;>simp[mW,mV,get_l,ih q _ a,get_leaf]
  |r q=>cases t<;>simp[mW,mV,get_o,get_r,get_leaf]
 |r p ih =>
  intro q t h;cases q with
  |o=>cases t<;>simp[mU,mT,get_o,get_l,get_leaf]
  |r q =>have a:p≠q:=λe=>h (by rw[e]);cases t<;>simp[mU,mT,get_r,ih q _ a,get_leaf]
  |l q=>cases t<;>simp[mU,mT,get_o,get_l,get_leaf]
theorem get_setN(x:Option α)(i j:Nat)(t:T α):(set x (eX i) t).get (eX j)=if i=j then x else t.get (eX j):=by grind [get_set_same,Cl,Uk]
end T
theorem Dt{β:Type}(n:Nat)(k:Nat->β):Fi n k=k n:=by cases n<;>rfl
theorem Og{β:Type}(n:Int)(k:Int->β):Km n k=k n:=by cases n<;>simp[Km,Dt]
theorem cr(k:IntKind)(n:Int):pu k n=.int k n:=Og n _
theorem S.put_eq(s:S)(f:Nat)(b:dY):s.put f b=⟨s.h.set (some b) (eX f),s.next⟩:=by simp_all[S.put,T.setK_eq]
theorem S.alloc_eq(s:S)(b:dY):s.alloc b=⟨s.h.set (some b) (eX s.next),s.next+1⟩:=by simp_all[S.alloc,T.setK_eq,Dt]
theorem S.get_eq(s:S)(f:Nat):s.get f=s.h.get (eX f):=by cases s;rfl
theorem S.get_put(s:S)(f g:Nat)(b:dY):(s.put f b).get g=if f=g then some b else s.get g:=by rw[S.put_eq,S.get_eq,S.get_eq,T.get_setN]
theorem S.get_alloc(s:S)(g:Nat)(b:dY):(s.alloc b).get g=if s.next=g then some b else s.get g:=by rw[S.alloc_eq,S.get_eq,S.get_eq,T.get_setN]
theorem S.next_put(s:S)(f:Nat)(b:dY):(s.put f b).next=s.next:=by rw[S.put_eq]
theorem S.next_alloc(s:S)(b:dY):(s.alloc b).next=s.next+1:=by rw[S.alloc_eq]
theorem Uj{β:Type}(t:T V)(d:Option Tmp)(v:Option V)(k:T V->β):oE t d v k=k (oE t d v id):=by
 cases d with
 |none=>rfl
 |some i=>simp only[oE];rw[T.setK_eq,T.setK_eq];rfl
theorem RW(t:T V)(d:Option Tmp)(v:Option V)(i:Nat):(oE t d v id).get (eX i)=if d=some i then v else t.get (eX i):=by
 cases d with
 |none=>simp[oE]
 |some j=>simp only[oE];rw[T.setK_eq];simp only[id];rw[T.get_setN];simp
end Go.AI
namespace Go.AI
structure BR where
 b:Nat
 base:Nat
 lim:Nat
def BR.ro(l:BR):Prop:=l.lim<l.base
abbrev aJ:=Nat->Nat->Option BR
def aJ.le(ρ ρ':aJ):Prop:=∀ f v l,ρ f v=some l->ρ' f v=some l
theorem aJ.le_refl(ρ:aJ):ρ.le ρ:=λ_ _ _ h=>h
theorem aJ.le_trans{a b c:aJ}(h:a.le b)(k:b.le c):a.le c:=λ_ _ _ x=>k _ _ _ (h _ _ _ x)
def aK(l:List Nat):ByteArray:=⟨(l.map UInt8.ofNat).toArray⟩
def jb(ρ:aJ)(a:Ad):Option Addr:=match ρ a.f a.v with
 |some l=>if l.base<=a.c then some ⟨l.b,a.c - l.base,none⟩else none
 |none=>none
def oD(ρ:aJ):Fn->Option Fn
 |.yield l=>match ρ l 0 with
  |some x=>some (.yield x.b)
  |none=>none
 |f=>some f
def cG(l:BR)(a:Ad)(cap:Option Nat)(sz:Nat):Nat:=match cap with
 |some c=>c
 |none=>(l.lim - a.c) / sz
def bD(l:BR)(a:Ad)(z:Nat)(cap:Option Nat)(sz:Nat):Nat:=match cap with
 |some _=>a.c
 |none=>if(l.lim - a.c) / sz=0 then z else a.c
def LK:Nat->Option Nat
 |0=>none
 |n+1=>some n
def ir(ρ:aJ)(a:Ad)(z len:Nat)(cap:Option Nat)(sz:Nat):Option Value:=if sz=0 then(if len=0/\cap=some 0 then some (.slice (some ⟨a.f,a.c,LK a.v⟩) 0 0)else none)else match ρ a.f a.v with
 |some l=>if l.base<=bD l a z cap sz/\l.base<=a.c/\len<=cG l a cap sz/\0<sz then
  some (.slice (some ⟨l.b,bD l a z cap sz - l.base,none⟩) len (cG l a cap sz))else none
 |none=>none
mutual
def den(ρ:aJ):V->Option Value
 |.bool b=>some (.bool b)
 |.int k n=>some (.int k n)
 |.str l=>some (.string (aK l))
 |.ptr a=>match jb ρ a with
  |some x=>some (.pointer (some x))
  |none=>none
 |.nilptr=>some (.pointer none)
 |.slice a z len cap sz=>ir ρ a z len cap sz
 |.nilslice=>some (.slice none 0 0)
 |.map r=>match ρ r 0 with
  |some l=>some (.map (some l.b))
  |none=>none
 |.nilmap=>some (.map none)
 |.func fn first cap=>match oD ρ fn with
  |some fn=>match bg ρ first with
   |some first=>match bg ρ cap with
    |some cap=>some (.func fn first.toArray cap.toArray)
    |none=>none
   |none=>none
  |none=>none
 |.nilFunc=>some .nilFunc
 |.iface t v=>match den ρ v with
  |some x=>some (.iface t x)
  |none=>none
 |.nilIface=>some .nilIface
 |.agg cs=>match bg ρ cs with
  |some l=>some (.agg l.toArray)
  |none=>none
 |.tuple cs=>match bg ρ cs with
  |some l=>some (.tuple l.toArray)
  |none=>none
 |.atom _=>none
def bg(ρ:aJ):List V->Option (List Value)
 |[]=>some []
 |x::r=>match den ρ x with
  |some y=>match bg ρ r with
   |some l=>some (y::l)
   |none=>none
  |none=>none
end
theorem Ot{ρ ρ':aJ}(h:ρ.le ρ'){a:Ad}{x:Addr}(e:jb ρ a=some x):jb ρ' a=some x:=by
 unfold jb at e ⊢;cases hl:ρ a.f a.v with
 |none=>simp[hl]at e
 |some l=>rw[hl]at e;rw[h _ _ _ hl];exact e
theorem Be{ρ ρ':aJ}(h:ρ.le ρ'){a x:Fn}(e:oD ρ a=some x):oD ρ' a=some x:=by
 cases a<;>try exact e
 rename_i l;unfold oD at e ⊢;cases hl:ρ l 0 with
 |none=>simp[hl]at e
 |some y=>simp only[hl]at e;simp only[h _ _ _ hl];exact e
mutual
theorem bM{ρ ρ':aJ}(h:ρ.le ρ'):∀(v:V) (x:Value),den ρ v=some x->den ρ' v=some x
 |.atom _,_,e=>by simp only[den]at e;cases e
 |.bool _,_,e=>e
 |.int _ _,_,e=>e
 |.str _,_,e=>e
 |.ptr a,x,e=>by grind [den,Ot]
 |.nilptr,_,e=>e
 |.slice a z len cap sz,x,e=>by
  simp only[den,ir]at e ⊢;by_cases q:sz=0
  .grind
  rw[afp q]at e ⊢;cases hl:ρ a.f a.v with
  |none=>simp[hl]at e
  |some l=>rw[hl]at e;rw[h _ _ _ hl];exact e
 |.nilslice,_,e=>e
 |.map r,x,e=>by
  simp only[den]at e ⊢;cases hl:ρ r 0 with
  |none=>simp[hl]at e
  |some l=>rw[hl]at e;rw[h _ _ _ hl];exact e
 |.nilmap,_,e=>e
 |.func fn first cap,x,e=>by
  simp only[den]at e ⊢;cases d:oD ρ fn with
  |none=>simp[d]at e
  |some g =>
   rw[d]at e;rw[Be h d];cases b:bg ρ first with
   |none=>simp[b]at e
   |some l =>
    cases j:bg ρ cap with
    |none=>simp[b,j]at e
    |some m=>simp only[b,j]at e;simp only[fU h first l b,fU h cap m j];exact e
 |.nilFunc,_,e=>e
 |.iface t v,x,e=>by
  simp only[den]at e ⊢;cases n:den ρ v with
  |none=>simp[n]at e
  |some y=>rw[n]at e;rw[bM h v y n];exact e
 |.nilIface,_,e=>e
 |.agg cs,x,e=>by
  simp only[den]at e ⊢;cases hl:bg ρ cs with
  |none=>simp[hl]at e
  |some l=>rw[hl]at e;rw[fU h cs l hl];exact e
 |.tuple cs,x,e=>by
  simp only[den]at e ⊢;cases hl:bg ρ cs with
  |none=>simp[hl]at e
  |some l=>rw[hl]at e;rw[fU h cs l hl];exact e
theorem fU{ρ ρ':aJ}(h:ρ.le ρ'):∀(l:List V) (m:List Value),bg ρ l=some m->bg ρ' l=some m
 |[],_,e=>e
 |x::r,m,e=>by
  simp only[bg]at e ⊢;cases a:den ρ x with
  |none=>simp[a]at e
  |some y =>
   cases hr:bg ρ r with
   |none=>simp[a,hr]at e
   |some q=>simp only[a,hr]at e;simp only[bM h x y a,fU h r q hr];exact e
end
theorem bp{ρ:aJ}{x:V}{r:List V}{m:List Value}:bg ρ (x::r)=some m↔∃ y q,den ρ x=some y/\bg ρ r=some q/\m=y::q:=by grind [bg]
theorem dH{ρ:aJ}:∀ {x y:List V} {a b:List Value},bg ρ x=some a->bg ρ y=some b->bg ρ (x++y)=some (a++b)
 |[],y,a,b,d,hy=>by cases d;exact hy
 |v::x,y,a,b,d,hy=>by obtain⟨u,q,e,g,rfl⟩:=bp.1 d;exact bp.2 ⟨u,q++b,e,dH g hy,rfl⟩
theorem bR{ρ:aJ}:∀ {x:List V} {a:List Value},bg ρ x=some a->a.length=x.length
 |[],a,h=>by cases h;rfl
 |v::x,a,h=>by obtain⟨u,q,h1,b,rfl⟩:=bp.1 h;simp[bR b]
theorem eK{ρ:aJ}:∀ {x:List V} {a:List Value} (i:Nat) {v:V},bg ρ x=some a->x[i]? = some v->∃ y,den ρ v=some y/\a[i]? = some y
 |[],a,i,v,h,e=>by simp at e
 |u::x,a,i,v,h,e=>by
  obtain⟨y,q,d,g,rfl⟩:=bp.1 h;cases i with
  |zero=>simp at e;subst e;exact⟨y,d,rfl⟩
  |succ i=>simp at e;obtain⟨z,j,b⟩:=eK i g e;exact⟨z,j,by simpa using b⟩
theorem DN{ρ:aJ}:∀ {x:List V} {a:List Value} (n:Nat),bg ρ x=some a->bg ρ (x.drop n)=some (a.drop n)
 |[],a,n,h=>by cases h;simp[bg]
 |u::x,a,n,h=>by
  obtain⟨y,q,d,b,rfl⟩:=bp.1 h;cases n with
  |zero=>exact bp.2 ⟨y,q,d,b,rfl⟩
  |succ n=>simpa using DN n b
theorem DM{ρ:aJ}:∀ {x:List V} {a:List Value} (n:Nat),bg ρ x=some a->bg ρ (x.take n)=some (a.take n)
 |[],a,n,h=>by cases h;simp[bg]
 |u::x,a,n,h=>by
  obtain⟨y,q,b,d,rfl⟩:=bp.1 h;cases n with
  |zero=>simp[bg]
  |succ n=>simpa using bp.2 ⟨y,q.take n,b,DM n d,rfl⟩
theorem lC{ρ:aJ}:∀ {x:List V} {a:List Value},x.length=a.length->(∀(i:Nat) (v:V),x[i]? = some v->∃ y,den ρ v=some y/\a[i]? = some y)->bg ρ x=some a
 |[],a,hl,h=>by have:a=[]:=ake.1 hl.symm;subst this;rfl
 |u::x,[],hl,h=>by simp at hl
 |u::x,b::a,hl,h=>by obtain⟨y,hy,d⟩:=h 0 u rfl;simp at d;subst d;exact bp.2 ⟨b,a,hy,lC (by simpa using hl) (λi v e=>by simpa using h (i+1) v (by simpa using e)),rfl⟩
theorem eJ{ρ:aJ}{v:V}{x:Value}(h:den ρ v=some x):bg ρ v.cells=some x.cells.toList:=by
 cases v<;>try(
  refine bp.2 ⟨x,[],h,rfl,?_⟩;simp only[den]at h
  (repeat' split at h)<;>first|(cases h;done)|(cases h;rfl))
 case slice a z len cap sz =>
  refine bp.2 ⟨x,[],h,rfl,?_⟩;simp only[den,ir]at h
  (repeat' split at h)<;>first|(cases h;done)|(cases h;rfl)
 case agg cs =>
  simp only[den]at h;split at h
  .rename_i l hl;cases h;simpa[V.cells,Value.cells]using hl
  .cases h
theorem zl{ρ:aJ}{v:V}{x:Value}(h:den ρ v=some x)(b:v.one=true):x.oneCell'=true:=by
 cases v<;>simp[V.one]at b
 case atom i=>simp only[den]at h;cases h
 case slice a z len cap sz =>
  simp only[den,ir]at h
  (repeat' split at h)<;>first|(cases h;done)|(cases h;rfl)
 all_goals
  simp only[den]at h
  (repeat' split at h)<;>first|(cases h;done)|(cases h;rfl)
def TR(ρ:aJ)(t:T V)(tm:Array Value):Prop:=∀(i:Nat) (v:V),t.get (eX i)=some v->∃ y,den ρ v=some y/\tm[i]? = some y
theorem TR.mono{ρ ρ':aJ}(h:ρ.le ρ'){t:T V}{tm:Array Value}(k:TR ρ t tm):TR ρ' t tm:=λi v e=>by
 obtain⟨y,hy,hy'⟩:=k i v e
 grind [bM]
theorem TR.leaf(ρ:aJ)(tm:Array Value):TR ρ .leaf tm:=λi v e=>by rw[T.get_leaf]at e;cases e
theorem TR.put{ρ:aJ}{t:T V}{tm:Array Value}(k:TR ρ t tm){i:Nat}{v:V}{y:Value}(b:den ρ v=some y)(hi:i<tm.size) :
 TR ρ (t.set (some v) (eX i)) (tm.setIfInBounds i y):=λj u e=>by
 rw[T.get_setN]at e;by_cases h:i=j
 .subst h;rw[agC rfl]at e;cases e;exact⟨y,b,by simp[hi]⟩
 .rw[afp h]at e;obtain⟨z,d,a⟩:=k j u e;exact⟨z,d,by rw[ajI h];exact a⟩
def aiE(ρ:aJ)(e:qT)(r:MapEntry):Prop:=den ρ e.key=some r.key/\den ρ e.val=some r.val/\e.born=r.born
def gm(ρ:aJ):List qT->List MapEntry->Prop
 |[],[]=>True
 |e::es,r::rs=>aiE ρ e r/\gm ρ es rs
 |_,_=>False
theorem gm.mono{ρ ρ':aJ}(h:ρ.le ρ'):∀ {es:List qT} {rs:List MapEntry},gm ρ es rs->gm ρ' es rs
 |[],[],_=>trivial
 |_::_,_::_,⟨⟨a,b,c⟩,k⟩=>⟨⟨bM h _ _ a,bM h _ _ b,c⟩,gm.mono h k⟩
 |[],_::_,k=>k.elim
 |_::_,[],k=>k.elim
def IQ(ρ:aJ)(w:World)(f:Nat)(sb:Bool)(u:oJ):Prop :=
 ∃(l:BR) (c:Array Value) (e:TypeId) (fz:Nat×Nat),ρ f u.v=some l/\w.heap[l.b]? = some (.cells c e fz)/\l.base<=u.lo/\l.lim=l.base+c.size /\
  ((sb=false->fz=(0,0))/\∀ i,i<c.size->¬(fz.1<=i/\i<fz.2))/\∀(i:Nat) (x:V),u.cells[i]? = some x->∃ y,den ρ x=some y/\c[u.lo - l.base+i]? = some y
def aix(ρ:aJ)(w:World)(f:Nat)(u:oJ):Prop :=
 ∃(l:BR) (c:Array Value) (e:TypeId) (fz:Nat×Nat),ρ f u.v=some l/\w.heap[l.b]? = some (.cells c e fz)/\l.base<=u.lo /\
  ∀(i:Nat) (x:V),u.cells[i]? = some x->∃ y,den ρ x=some y/\c[u.lo - l.base+i]? = some y
def aiw(ρ:aJ)(w:World)(f:Nat)(u:oJ):Prop :=
 ∃(l:BR) (c:Array Value) (e:TypeId) (fz:Nat×Nat),ρ f u.v=some l/\l.b=f/\w.heap[f]? = some (.cells c e fz)/\(u.v=127->l.base=u.lo/\c.size=u.cells.length)
def BO(ρ:aJ)(w:World)(f:Nat):dY->Prop
 |.ro vers=>∀ u∈vers,aix ρ w f u/\aiw ρ w f u
 |.cells _ sb nv vers=>(∀ v,nv<=v->ρ f v=none)/\∀ u∈vers,u.v<nv/\IQ ρ w f sb u
 |.map es clock=>∃ l rs,ρ f 0=some l/\w.heap[l.b]? = some (.map rs clock)/\gm ρ es rs.toList
 |.gone=>True
 |.loop st pend fn t ps a b d nt=>∃ l ld tm,ρ f 0=some l/\ρ d 0=some ld/\TR ρ t tm/\nt<=tm.size/\w.heap[l.b]? = some (.loop { state:=st,pending:=pend,fn,tmps:=tm,params:=ps,assign:=a,body:=b,defers:=ld.b })
 |.deferred=>∃ l,ρ f 0=some l/\w.heap[l.b]? = some (.deferred (some []))
structure HR(ρ:aJ)(s:S)(w:World):Prop where
 fresh:∀ f v,s.next<=f->ρ f v=none
 inj:∀ f v l f' v' l',ρ f v=some l->ρ f' v'=some l'->l.b=l'.b->f=f'/\l.base=l'.base
 low:∀ f v l,ρ f v=some l->l.b<w.heap.size
 blk:∀ f B,s.get f=some B->BO ρ w f B
 dom:∀ f B,s.get f=some B->f<s.next
 rw:∀ f B,s.get f=some B->(∀ vers,B≠.ro vers)->∀ v l,ρ f v=some l->¬ l.ro
structure FR(ρ:aJ)(w:World)(ρ':aJ)(w':World):Prop where
 ext:ρ.le ρ'
 size:w.heap.size<=w'.heap.size
 os:w'.os=w.os
 tape:w'.tape=w.tape
 output:w'.output=w.output
 same:∀ b,b<w.heap.size->(∀ f v l,ρ f v=some l->¬ l.ro->l.b≠b)->w'.heap[b]? = w.heap[b]?
 new:∀ f v l,ρ' f v=some l->l.b<w.heap.size->∃ f' v' l',ρ f' v'=some l'/\l'.b=l.b/\(l'.ro->l.ro)
theorem FR.refl(ρ:aJ)(w:World):FR ρ w ρ w:=⟨ρ.le_refl,aaW _,rfl,rfl,rfl,λ_ _ _=>rfl,λf v l h _=>⟨f,v,l,h,rfl,id⟩⟩
theorem FR.trans{ρ ρ1 ρ2:aJ}{w a d:World}(h:FR ρ w ρ1 a)(k:FR ρ1 a ρ2 d):FR ρ w ρ2 d where
 ext:=aJ.le_trans h.ext k.ext
 size:=acd h.size k.size
 os:=k.os.trans h.os
 tape:=k.tape.trans h.tape
 output:=k.output.trans h.output
 same b hb g:=by
  rw[k.same b (afs hb h.size) (λf v l e hro he=>?_)]
  .exact h.same b hb g
  .obtain⟨f',v',l',e',he',hr'⟩:=h.new f v l e (by omega)
   grind
 new f v l e hl:=by
  obtain⟨j,m,l1,n,h1,r1⟩:=k.new f v l e (afs hl h.size);obtain⟨f2,v2,l2,e2,h2,r2⟩:=h.new j m l1 n (by omega)
  grind
theorem FR.drawn{ρ:aJ}(w:World)(n:Nat):FR ρ w ρ { w with drawn:=n }:=⟨ρ.le_refl,aaW _,rfl,rfl,rfl,λ_ _ _=>rfl,λf v l h _=>⟨f,v,l,h,rfl,id⟩⟩
theorem IQ.of_heap{ρ:aJ}{w w':World}{f:Nat}{sb:Bool}{u:oJ}(h:IQ ρ w f sb u)(d:∀ l,ρ f u.v=some l->w'.heap[l.b]? = w.heap[l.b]?):IQ ρ w' f sb u:=by obtain⟨l,c,e,fz,a,g,r⟩:=h;exact⟨l,c,e,fz,a,by rw[d l a];exact g,r⟩
theorem IQ.mono{ρ ρ':aJ}(h:ρ.le ρ'){w:World}{f:Nat}{sb:Bool}{u:oJ}(k:IQ ρ w f sb u):IQ ρ' w f sb u:=by
 obtain⟨l,c,e,fz,a,b,d,g,j,h6⟩:=k;refine⟨l,c,e,fz,h _ _ _ a,b,d,g,j,λi x hx=>?_⟩
 grind [bM]
theorem HR.drawn{ρ:aJ}{s:S}{w:World}(h:HR ρ s w)(n:Nat):HR ρ s { w with drawn:=n } :=
 ⟨h.fresh,h.inj,h.low,h.blk,h.dom,h.rw⟩
theorem eS:∀ {vers:List oJ} {v:Nat} {u:oJ},bI vers v=some u->u∈vers/\u.v=v
 |[],v,u,h=>by simp[bI]at h
 |x::r,v,u,h=>by
  simp only[bI]at h;cases hb:Nat.beq x.v v with
  |true=>simp[hb]at h;subst h;exact⟨by simp,aaO hb⟩
  |false=>simp[hb]at h;obtain⟨a,b⟩:=eS h;exact⟨abi _ a,b⟩
theorem ew:∀ {n:Nat} {l m:List V},bj n l=some m->m=l.take n/\n<=l.length
 |0,l,m,h=>by simp[bj]at h;subst h;simp
 |n+1,[],m,h=>by simp[bj]at h
 |n+1,x::r,m,h=>by
  simp only[bj]at h;cases hr:bj n r with
  |none=>simp[hr]at h
  |some q =>
   simp[hr]at h;obtain⟨e,hl⟩:=ew hr
   grind
theorem HR.ver{ρ:aJ}{s:S}{w:World}(h:HR ρ s w){a:Ad}{e:TypeId}{sb:Bool}{nv:Nat}{vers:List oJ}{u:oJ}
 (b:s.get a.f=some (.cells e sb nv vers)) (d:bI vers a.v=some u):IQ ρ w a.f sb u/\u∈vers/\u.v=a.v:=by
 obtain⟨hm,g⟩:=eS d;exact⟨((h.blk _ _ b).2 u hm).2,hm,g⟩
theorem zM{ρ:aJ}{s:S}{w:World}(h:HR ρ s w){a:Ad}{x:V}(e:pB s a=some x) :
 ∃ ad y,jb ρ a=some ad/\den ρ x=some y/\w.cell? ad=some y:=by
 unfold pB at e;split at e
 .rename_i el sb nv vers j;split at e
  .rename_i u m;cases hb:Nat.ble u.lo a.c with
   |false=>simp[hb]at e
   |true =>simp only[hb,ge]at e;have n:=abh hb;obtain⟨⟨l,c,el',fz,g,q,B,h4,h5,z⟩,_,A⟩:=h.ver j m;rw[A]at g;obtain⟨y,hy,d⟩:=z _ _ e;refine⟨⟨l.b,a.c - l.base,none⟩,y,by simp[jb,g];omega,hy,?_⟩;simp only[World.cell?,q];simp;rw[<- d];congr 1;omega
  .cases e
 .rename_i vers j;split at e
  .rename_i u m;cases hb:Nat.ble u.lo a.c with
   |false=>simp[hb]at e
   |true =>simp only[hb,ge]at e;have n:=abh hb;obtain⟨hm,A⟩:=eS m;obtain⟨l,c,el',fz,g,q,B,z⟩:=(h.blk _ _ j u hm).1;rw[A]at g;obtain⟨y,hy,d⟩:=z _ _ e;refine⟨⟨l.b,a.c - l.base,none⟩,y,by simp[jb,g];omega,hy,?_⟩;simp only[World.cell?,q];simp;rw[<- d];congr 1;omega
  .cases e
 .cases e
theorem Dh{ρ:aJ}{w:World}{a:Ad}{n:Nat}{l:List V}{u:oJ}{lo:BR}{c:Array Value}{el':TypeId}{fz:Nat×Nat}(A:ρ a.f a.v=some lo)(B:w.heap[lo.b]? = some (.cells c el' fz))(h3:lo.base<=u.lo)(hle:u.lo<=a.c)
 (h6:∀(i:Nat) (x:V),u.cells[i]? = some x->∃ y,den ρ x=some y/\c[u.lo - lo.base+i]? = some y) (e:bj n (u.cells.drop (a.c - u.lo))=some l) :
 ∃ ad ys,jb ρ a=some ad/\bg ρ l=some ys/\ys.length=n/\∀(j:Nat) (v:Value),ys[j]? = some v->w.cell? (ad.add j)=some v:=by
 obtain⟨rfl,hlen⟩:=ew e;have hcell:∀(j:Nat) (v:V),((u.cells.drop (a.c - u.lo)).take n)[j]? = some v->∃ y,den ρ v=some y/\c[a.c - lo.base+j]? = some y:=λj v h=>by grind
 have d:((u.cells.drop (a.c - u.lo)).take n).length=n:=by rw[agm];omega
 have g:n=0\/a.c - lo.base+n<=c.size:=by
  rcases ajo n with h0|h0
  .exact .inl h0
  .right;have hx:∃ v,((u.cells.drop (a.c - u.lo)).take n)[n - 1]? = some v:=⟨_,abg (by omega)⟩
   grind
 refine⟨⟨lo.b,a.c - lo.base,none⟩,(c.toList.drop (a.c - lo.base)).take n,by simp[jb,A];omega,?_,?_,?_⟩
 .refine lC ?_ λi v hi=>?_
  .rw[d,agm,ajf,aiu];rcases g with h0|h0<;>omega
  .obtain⟨y,hy,m⟩:=hcell i v hi;refine⟨y,hy,?_⟩;have q:i<n:=by have:=(abj.1 hi).1;omega
   rw[aiI q,ajK,afo];exact m
 .rw[agm,ajf,aiu];rcases g with h0|h0<;>omega
 .intro j v h;have z:j<n:=by grind
  rw[aiI z,ajK,afo]at h;have F:(⟨lo.b,a.c - lo.base,none⟩:Addr).add j=⟨lo.b,a.c - lo.base+j,none⟩:=by
   unfold Addr.add;split
   .grind
   .rfl
  rw[F];simp only[World.cell?,B];simpa using h
theorem jk{ρ:aJ}{s:S}{w:World}(h:HR ρ s w){a:Ad}{n:Nat}{l:List V}(e:loadCells s a n=some l) :
 ∃ ad ys,jb ρ a=some ad/\bg ρ l=some ys/\ys.length=n/\∀(j:Nat) (v:Value),ys[j]? = some v->w.cell? (ad.add j)=some v:=by
 unfold loadCells at e;split at e
 .rename_i el sb nv vers d;split at e
  .rename_i u g;cases hb:Nat.ble u.lo a.c with
   |false=>simp[hb]at e
   |true =>simp only[hb,ge]at e;obtain⟨⟨lo,c,el',fz,b,m,q,h4,h5,y⟩,_,z⟩:=h.ver d g;rw[z]at b;exact Dh b m q (abh hb) y e
  .cases e
 .rename_i vers d;split at e
  .rename_i u g;cases hb:Nat.ble u.lo a.c with
   |false=>simp[hb]at e
   |true =>simp only[hb,ge]at e;obtain⟨hm,z⟩:=eS g;obtain⟨lo,c,el',fz,b,m,q,y⟩:=(h.blk _ _ d u hm).1;rw[z]at b;exact Dh b m q (abh hb) y e
  .cases e
 .cases e
def aJ.put(ρ:aJ)(f v:Nat)(l:BR):aJ:=λg u=>if g=f/\u=v then some l else ρ g u
theorem aJ.put_same(ρ:aJ)(f v:Nat)(l:BR):ρ.put f v l f v=some l:=by simp[aJ.put]
theorem aJ.le_put{ρ:aJ}{f v:Nat}(l:BR)(h:ρ f v=none):ρ.le (ρ.put f v l):=λg u x hx=>by grind [aJ.put]
theorem aJ.of_put{ρ:aJ}{f v g u:Nat}{l x:BR}(h:ρ.put f v l g u=some x):(g=f/\u=v/\x=l)\/ρ g u=some x:=by grind [aJ.put]
theorem BO.keep{ρ ρ':aJ}{w w':World}{f:Nat}{B:dY}(h:BO ρ w f B)(j:ρ.le ρ')(I:∀ v,ρ f v=none->ρ' f v=none)
 (n:∀ v l,ρ f v=some l->w'.heap[l.b]? = w.heap[l.b]?):BO ρ' w' f B:=by
 cases B with
 |ro vers =>intro u z;obtain⟨⟨l,c,e,fz,g,m,q,A⟩,l',J,K,fz',H,F,L,M⟩:=h u z;refine⟨⟨l,c,e,fz,j _ _ _ g,by rw[n _ l g];exact m,q,λi x N=>?_⟩,l',J,K,fz',j _ _ _ H,F,by rw[<- F,n _ l' H,F];exact L,M⟩;obtain⟨y,hy,G⟩:=A i x N;exact⟨y,bM j x y hy,G⟩
 |cells e sb nv vers =>exact⟨λv O=>I v (h.1 v O),λu z=>⟨(h.2 u z).1,((h.2 u z).2.of_heap (λl hl=>n _ l hl)).mono j⟩⟩
 |map es clock =>obtain⟨l,rs,g,m,q⟩:=h;exact⟨l,rs,j _ _ _ g,by rw[n _ l g];exact m,q.mono j⟩
 |gone=>trivial
 |loop st pend fn t ps a b d nt =>obtain⟨l,ld,tm,g,m,q,A⟩:=h;exact⟨l,ld,tm,j _ _ _ g,j _ _ _ m,q.mono j,by rw[n _ l g];exact A⟩
 |deferred =>obtain⟨l,g,m⟩:=h;exact⟨l,j _ _ _ g,by rw[n _ l g];exact m⟩
theorem iP(w:World)(o:Obj){k:Nat}(h:k<w.heap.size):(w.alloc o).heap[k]? = w.heap[k]?:=by
 show(w.heap.push o)[k]? = _
 grind
theorem eD(w:World)(o:Obj):(w.alloc o).heap[w.heap.size]? = some o:=by show(w.heap.push o)[w.heap.size]? = _;simp
theorem HR.alloc{ρ:aJ}{s:S}{w:World}(h:HR ρ s w)(B:dY)(o:Obj)(base lim:Nat)(hbl:base<=lim)
 (hB:BO (ρ.put s.next 0 ⟨w.heap.size,base,lim⟩) (w.alloc o) s.next B) :
 HR (ρ.put s.next 0 ⟨w.heap.size,base,lim⟩) (s.alloc B) (w.alloc o)/\FR ρ w (ρ.put s.next 0 ⟨w.heap.size,base,lim⟩) (w.alloc o):=by
 have hfree:ρ s.next 0=none:=h.fresh _ _ (aaW _);refine⟨⟨?_,?_,?_,?_,?_,?_⟩,⟨aJ.le_put _ hfree,by simp,rfl,rfl,rfl,?_,?_⟩⟩
 .intro f v j;rw[S.next_alloc]at j;unfold aJ.put;rw[afp (by omega)];exact h.fresh f v (by omega)
 .intro f v l f' v' l' e d hb;rcases aJ.of_put e with⟨rfl,rfl,rfl⟩|e
  .rcases aJ.of_put d with⟨rfl,rfl,rfl⟩|d
   .exact⟨rfl,rfl⟩
   .have:=h.low _ _ _ d;simp at hb;omega
  .rcases aJ.of_put d with⟨rfl,rfl,rfl⟩|d
   .have:=h.low _ _ _ e;simp at hb;omega
   .exact h.inj _ _ _ _ _ _ e d hb
 .intro f v l e;rcases aJ.of_put e with⟨rfl,rfl,rfl⟩|e
  .simp
  .have:=h.low _ _ _ e;simp;omega
 .intro f B' a;rw[S.get_alloc]at a;split at a
  .rename_i e;cases a;subst e;exact hB
  .rename_i hne;refine(h.blk f B' a).keep (aJ.le_put _ hfree) (λv m=>?_) (λv l hl=>iP _ _ (h.low _ _ _ hl));unfold aJ.put;rw[afp (by omega)];exact m
 .intro f B' a;rw[S.get_alloc]at a;rw[S.next_alloc];split at a
  .omega
  .exact Nat.lt_succ_of_lt (h.dom f B' a)
 .intro f B' a g v l hl;rw[S.get_alloc]at a;rcases aJ.of_put hl with⟨rfl,rfl,rfl⟩|hl
  .show ¬(lim<base);omega
  .split at a
   .rename_i n;subst n;rw[h.fresh _ _ (aaW _)]at hl;cases hl
   .exact h.rw f B' a g v l hl
 .intro b hb _;exact iP _ _ hb
 .intro f v l e hl;rcases aJ.of_put e with⟨rfl,rfl,rfl⟩|e
  .simp at hl
  .exact⟨f,v,l,e,rfl,id⟩
theorem gP{ρ:aJ}{s:S}{w:World}(h:HR ρ s w)(sb:Bool)(elem elem':TypeId){cs:List V}{ys:Array Value}(g:bg ρ cs=some (ys.toList.take cs.length))(fz:Nat×Nat)(b:(sb=false->fz=(0,0))/\∀ i,i<ys.size->¬(fz.1<=i/\i<fz.2)) :
 ∃ ρ',ρ' s.next 0=some ⟨w.heap.size,0,ys.size⟩/\HR ρ' (bz sb s elem cs).2 (w.alloc (.cells ys elem' fz))/\FR ρ w ρ' (w.alloc (.cells ys elem' fz)):=by
 have hfree:ρ s.next 0=none:=h.fresh _ _ (aaW _);refine⟨ρ.put s.next 0 ⟨w.heap.size,0,ys.size⟩,aJ.put_same _ _ _ _,h.alloc (.cells elem sb 1 [⟨0,0,cs⟩]) _ 0 ys.size (ajg _) ?_⟩;refine⟨λv hv=>?_,λu d=>?_⟩
 .unfold aJ.put;rw[afp (by omega)];exact h.fresh _ _ (aaW _)
 .simp at d;subst d;refine⟨Nat.zero_lt_one,⟨w.heap.size,0,ys.size⟩,ys,elem',fz,aJ.put_same _ _ _ _,eD _ _,aaW _,by simp,b,λi x e=>?_⟩;obtain⟨y,hy,a⟩:=eK i g e;refine⟨y,bM (aJ.le_put _ hfree) _ _ hy,?_⟩;have hi:i<cs.length:=(abj.1 e).1;rw[aiI hi,afo]at a;simpa using a
structure XY(w w':World)(b:Nat):Prop where
 size:w'.heap.size=w.heap.size
 os:w'.os=w.os
 tape:w'.tape=w.tape
 output:w'.output=w.output
 other:∀ k,k≠b->w'.heap[k]? = w.heap[k]?
theorem XY.trans{a b c:World}{k:Nat}(h:XY a b k)(g:XY b c k):XY a c k :=
 ⟨g.size.trans h.size,g.os.trans h.os,g.tape.trans h.tape,g.output.trans h.output,λi hi=>(g.other i hi).trans (h.other i hi)⟩
theorem CJ(P:Program)(b off:Nat)(e:TypeId)(fz:Nat×Nat):∀(ys:List Value) (i:Nat) (c:Array Value) (w:World),w.heap[b]? = some (.cells c e fz) ->
 (∀ k,k<c.size->¬(fz.1<=k/\k<fz.2))->off+i+ys.length<=c.size->(∀ v∈ys,v.oneCell'=true) ->
 ∃ w' d,(Go.storeCells ⟨b,off,none⟩ ys i).run P w=.ok () w'/\XY w w' b/\w'.heap[b]? = some (.cells d e fz)/\d.size=c.size /\
  ∀ j,d[j]? = if off+i<=j/\j<off+i+ys.length then ys[j - (off+i)]? else c[j]?:=by
 intro ys;induction ys with
 |nil =>intro i c w g a hl q;exact⟨w,c,rfl,⟨rfl,rfl,rfl,rfl,λ_ _=>rfl⟩,g,rfl,λj=>by rw[afp (by simp)]⟩
 |cons v r ih =>
  intro i c w g a hl q;simp only[aeg]at hl;have A:(⟨b,off,none⟩:Addr).add i=⟨b,off+i,none⟩:=by
   unfold Addr.add;split
   .grind
   .rfl
  have hcell:w.cell? ⟨b,off+i,none⟩=some (c[off+i]'(by omega)):=by simp only[World.cell?,g];simp[show off+i<c.size by omega]
  have y:w.frozen? ⟨b,off+i,none⟩=false:=by simp only[World.frozen?,g];have:=a (off+i) (by omega);simp;omega
  have h:(w.setCell ⟨b,off+i,none⟩ v).heap[b]? = some (.cells (c.setIfInBounds (off+i) v) e fz):=by simp only[World.setCell,Array.getElem?_modify,ajY,g];simp
  obtain⟨w',d,B,F,G,H,I⟩:=ih (i+1) (c.setIfInBounds (off+i) v) (w.setCell ⟨b,off+i,none⟩ v) h
   (by simpa using a) (by simp;omega) (λu J=>q u (abi _ J))
  have m:XY w (w.setCell ⟨b,off+i,none⟩ v) b:=⟨by simp,rfl,rfl,rfl,λk hk=>by simp only[World.setCell,Array.getElem?_modify];rw[afp (λe=>hk e.symm)]⟩;refine⟨w',d,?_,m.trans F,G,by simpa using H,λj=>?_⟩
  .simp only[Go.storeCells,abr,A];rw[run_store P w _ v .plain (q v (by simp)),hcell];simp only[y,aiW,akp,abm];exact B
  .rw[I j];by_cases z:off+(i+1)<=j/\j<off+(i+1)+r.length
   .rw[agC z,agC (by simp;omega)];have:j - (off+i)=(j - (off+(i+1)))+1:=by omega
    rw[this];simp
   .rw[afp z];by_cases n:j=off+i
    .subst n;rw[agC (by simp)];simp[show off+i<c.size by omega]
    .rw[afp (by simp;omega)];simp[aks n]
theorem gM:∀ {cs:List V} {n:Nat} {new out:List V},cA cs n new=some out ->
 out.length=cs.length/\(new=[]\/n+new.length<=cs.length)/\∀(j:Nat),out[j]? = if n<=j/\j<n+new.length then new[j - n]? else cs[j]?
 |cs,n,[],out,h=>by grind [cA]
 |[],n,y::new,out,h=>by cases n<;>simp[cA]at h
 |x::r,n+1,y::new,out,h=>by
  simp only[cA]at h;cases hr:cA r n (y::new)with
  |none=>simp[hr]at h
  |some q =>
   simp[hr]at h;subst h;obtain⟨a,b,d⟩:=gM hr
   grind
 |x::r,0,y::new,out,h=>by
  simp only[cA]at h;cases hr:cA r 0 new with
  |none=>simp[hr]at h
  |some q =>
   simp[hr]at h;subst h;obtain⟨a,b,d⟩:=gM hr
   grind
theorem HR.turn{ρ:aJ}{s:S}{w w':World}(h:HR ρ s w){f v:Nat}{l:BR}(hl:ρ f v=some l){B0:dY}(j:s.get f=some B0)(m:∀ vers,B0≠.ro vers)(hb:XY w w' l.b)(B:dY)(hB:BO ρ w' f B) :
 HR ρ (s.put f B) w'/\FR ρ w ρ w':=by
 refine⟨⟨λg u a=>h.fresh g u (by rw[S.next_put]at a;exact a),h.inj,λg u x d=>by rw[hb.size];exact h.low g u x d,λg B' a=>?_,λg B' a=>?_,λg B' a n u x d=>?_⟩,
  ⟨ρ.le_refl,by rw[hb.size];exact aaW _,hb.os,hb.tape,hb.output,λk hk y=>hb.other k (λe=>y _ _ _ hl (h.rw f B0 j m _ _ hl) e.symm),λg u x d _=>⟨g,u,x,d,rfl,id⟩⟩⟩
 .rw[S.get_put]at a;split at a
  .rename_i e;cases a;subst e;exact hB
  .rename_i q;exact(h.blk g B' a).keep ρ.le_refl (λ_ z=>z) (λu x d=>hb.other _ (λe=>q (h.inj _ _ _ _ _ _ hl d e.symm).1))
 .rw[S.get_put]at a;rw[S.next_put];split at a
  .rename_i e;subst e;exact ajZ λhc=>by have:=h.fresh f v hc;rw[hl]at this;cases this
  .exact h.dom g B' a
 .rw[S.get_put]at a;split at a
  .rename_i e;subst e;exact h.rw f B0 j m u x d
  .exact h.rw g B' a n u x d
theorem mb{ρ:aJ}{s s':S}{w:World}(P:Program)(h:HR ρ s w){a:Ad}{new:List V}{ys:List Value}(e:storeCells s a new=some s')(J:bg ρ new=some ys) :
 ∃ ad w',jb ρ a=some ad/\(Go.storeCells ad ys).run P w=.ok () w'/\HR ρ s' w'/\FR ρ w ρ w':=by
 unfold storeCells at e;split at e
 .rename_i el sb nv vers A;split at e
  .rename_i u Y;cases hb:(Nat.ble u.lo a.c&&new.all V.one)with
   |false=>simp[hb]at e
   |true =>
    simp only[hb,ge]at e;simp only[aaV]at hb;have hle:=abh hb.1;split at e
    .rename_i cs K;cases e;obtain⟨⟨l,c,el',fz,F,O,Q,U,L,M⟩,g,Z⟩:=h.ver A Y;have G:=F;rw[Z]at F;obtain⟨hlen,m,n⟩:=gM K;have hyl:=bR J;have H:∀ y∈ys,y.oneCell'=true:=λy hy=>by
      obtain⟨i,hi⟩:=ajC hy;have N:i<new.length:=by have:=(abj.1 hi).1;omega
      obtain⟨z,hz,hz'⟩:=eK i J (abg N)
      grind [zl]
     have hroom:new=[]\/a.c - l.base+0+ys.length<=c.size:=by
      rcases m with h0|m
      .exact .inl h0
      .rcases ajo new.length with h0|h0
       .grind
       .right;have hlast:(a.c - u.lo)+(new.length - 1)<u.cells.length:=by omega
        obtain⟨y,_,I⟩:=M _ _ (abg hlast)
        grind
     have q:jb ρ a=some ⟨l.b,a.c - l.base,none⟩:=by simp[jb,F];omega
     rcases hroom with h0|hroom
     .subst h0;have:ys=[]:=by cases J;rfl
      subst this;have hsame:cs=u.cells:=ajl λj=>by rw[n j,afp (by simp)]
      refine⟨_,w,q,rfl,?_⟩;refine h.turn F A (λ_ h=>by cases h) ⟨rfl,rfl,rfl,rfl,λ_ _=>rfl⟩ _ ⟨(h.blk _ _ A).1,λu' d=>?_⟩;simp at d;subst d;exact⟨((h.blk _ _ A).2 u g).1,l,c,el',fz,G,O,Q,U,L,by rw[hsame];exact M⟩
     .obtain⟨w',c',g1,g2,g3,W,g5⟩:=CJ P l.b (a.c - l.base) el' fz ys 0 c w O L.2 hroom H;refine⟨_,w',q,g1,h.turn F A (λ_ h=>by cases h) g2 _ ⟨(h.blk _ _ A).1,λu' d=>?_⟩⟩;simp at d;subst d;refine⟨((h.blk _ _ A).2 u g).1,l,c',el',fz,G,g3,Q,by rw[W];exact U,by rw[W];exact L,λi x B=>?_⟩;simp only at B ⊢;rw[n i]at B;rw[g5];by_cases X:a.c - u.lo<=i/\i<a.c - u.lo+new.length
      .rw[agC X]at B;rw[agC (by omega)];obtain⟨y,hy,I⟩:=eK _ J B;exact⟨y,hy,by rw[<- I];congr 1;omega⟩
      .rw[afp X]at B;rw[afp (by omega)];exact M i x B
    .cases e
  .cases e
 .cases e
def rv(tm:Array Value):Operand->Value
 |.tmp t=>tm.getD t Go.undef
 |.const v=>v
 |.global g=>.pointer (some ⟨g,0,none⟩)
 |.func f=>.func (.func f) #[] #[]
theorem se(fr:Frame):fr.eval=rv fr.tmps:=funext λx=>by cases x<;>rfl
theorem wS(s:ByteArray):aK (s.data.toList.map UInt8.toNat)=s:=by
 unfold aK;have:(s.data.toList.map UInt8.toNat).map UInt8.ofNat=s.data.toList:=by
  rw[ako]
  conv=>rhs;rw[<- List.map_id s.data.toList]
  exact List.map_congr_left λx _=>by simp
 rw[this]
theorem zr(ρ:aJ)(v:Value)(x:V)(h:V.ofCell v=some x):den ρ x=some v:=by
 cases v<;>simp only[V.ofCell]at h
 case string s=>cases h;simp only[den];rw[wS]
 case pointer a=>cases a<;>simp at h;cases h;rfl
 case slice a n c =>
  cases a<;>simp only at h
  .cases hb:(Nat.beq n 0&&Nat.beq c 0)with
   |false=>simp[hb]at h
   |true =>simp only[hb,ge]at h;simp only[aaV]at hb;cases h;rw[aaO hb.1,aaO hb.2];rfl
  .cases h
 case map a=>cases a<;>simp at h;cases h;rfl
 case func fn a b =>
  cases fn<;>simp only at h<;>try cases h
  cases hb:(a.toList.isEmpty&&b.toList.isEmpty)with
  |false=>rw[hb]at h;cases h
  |true =>
   simp only[hb,ge]at h;simp only[aaV,List.isEmpty_iff]at hb;cases h;have e:a=#[]:=by cases a;simpa using hb.1
   have d:b=#[]:=by cases b;simpa using hb.2
   subst e;subst d;rfl
 all_goals first|(cases h;rfl)|cases h
theorem wb(ρ:aJ):∀(l:List Value) (m:List V),V.ofCells l=some m->bg ρ m=some l
 |[],m,h=>by cases h;rfl
 |x::r,m,h=>by
  simp only[V.ofCells]at h;cases a:V.ofCell x with
  |none=>simp[a]at h
  |some v =>
   cases hr:V.ofCells r with
   |none=>simp[a,hr]at h
   |some q =>simp only[a,hr]at h;cases h;exact bp.2 ⟨x,r,zr ρ x v a,wb ρ r q hr,rfl⟩
theorem wa(ρ:aJ)(v:Value)(x:V)(h:V.ofConst v=some x):den ρ x=some v:=by
 cases v
 case agg cs =>
  simp only[V.ofConst]at h;split at h
  .rename_i l hl;cases h;simp only[den,wb ρ _ _ hl]
  .cases h
 all_goals exact zr ρ _ x h
theorem aI{ρ:aJ}{t:T V}{tm:Array Value}(b:TR ρ t tm){x:Operand}{v:V}(h:eval t x=some v):den ρ v=some (rv tm x):=by
 cases x with
 |tmp i =>obtain⟨y,hy,a⟩:=b i v h;simp only[rv,ajT,a,ajv];exact hy
 |const c=>exact wa ρ c v h
 |global g=>cases h
 |func f=>cases h;rfl
theorem lw{ρ:aJ}{t:T V}{tm:Array Value}(b:TR ρ t tm):∀ {l:List Operand} {vs:List V},iq t l=some vs->bg ρ vs=some (l.map (rv tm))
 |[],vs,h=>by cases h;rfl
 |x::r,vs,h=>by
  simp only[iq]at h;cases a:eval t x with
  |none=>simp[a]at h
  |some v =>
   cases hr:iq t r with
   |none=>simp[a,hr]at h
   |some q =>simp only[a,hr]at h;cases h;exact bp.2 ⟨_,_,aI b a,lw b hr,rfl⟩
section types
variable{P:Program}
theorem fh{t:TypeId}{zv:V}(h:zero P t=some zv):∃ z i,P.info? t=some i/\i.zero=some z/\∀ ρ,den ρ zv=some z:=by
 unfold zero at h;cases hi:P.info? t with
 |none=>simp[hi]at h
 |some i =>
  cases a:i.zero with
  |none=>simp[hi,a]at h
  |some z =>grind [wa]
theorem gh{t:TypeId}{i:TypeInfo}{z:Value}(hi:P.info? t=some i)(a:i.zero=some z)(w:World):(zeroValue t).run P w=.ok z w:=by simp[zeroValue,typeInfo,hi,a]
theorem uB{t:TypeId}{n:Nat}(h:size P t=some n):∃ i,P.info? t=some i/\i.size=n:=by simp_all[size]
theorem cH{t:TypeId}{n:Nat}(h:size P t=some n)(w:World):(sizeOf t).run P w=.ok n w:=by obtain⟨i,hi,rfl⟩:=uB h;simp[Go.sizeOf,typeInfo,hi]
theorem aE{t:TypeId}{d:TypeDesc}(h:P.underlying t=some d)(w:World):(underlying t).run P w=.ok d w:=by simp[underlying,h]
theorem xK{t:TypeId}{b:Bool}(h:rZ P t=some b)(w:World):(isAgg t).run P w=.ok b w:=by
 unfold rZ at h;cases a:P.underlying t with
 |none=>simp[a]at h
 |some d =>simp only[a,aiB,abf]at h;subst h;simp only[isAgg,abr,aE a,abm];cases d<;>rfl
theorem rj{ρ:aJ}{s:S}{w:World}(h:HR ρ s w){t:TypeId}{a:Ad}{x:V}(e:loadVar P s t a=some x) :
 ∃ ad y,jb ρ a=some ad/\den ρ x=some y/\(Go.loadVar t ad).run P w=.ok y w:=by
 unfold loadVar at e;cases hb:rZ P t with
 |none=>simp[hb]at e
 |some b =>
  cases b with
  |false =>simp only[hb]at e;obtain⟨ad,y,d,g,j⟩:=zM h e;exact⟨ad,y,d,g,by simp[Go.loadVar,xK hb,j]⟩
  |true =>
   simp only[hb]at e;cases m:size P t with
   |none=>simp[m]at e
   |some n =>
    simp only[m,akf]at e;cases hl:loadCells s a n with
    |none=>simp[hl]at e
    |some l =>simp only[hl,aiB,abf]at e;subst e;obtain⟨ad,ys,d,g,j,q⟩:=jk h hl;refine⟨ad,.agg ys.toArray,d,by simp only[den,g],?_⟩;have:=ajp (P:=P) (w:=w) ad ys q;rw[j]at this;simp[Go.loadVar,xK hb,cH m,this]
theorem yF{ρ:aJ}{s s':S}{w:World}(h:HR ρ s w){t:TypeId}{a:Ad}{v:V}{y:Value}(e:storeVar P s t a v=some s')(d:den ρ v=some y) :
 ∃ ad w',jb ρ a=some ad/\(Go.storeVar t ad y).run P w=.ok () w'/\HR ρ s' w'/\FR ρ w ρ w':=by
 unfold storeVar at e;cases b:size P t with
 |none=>simp[b]at e
 |some n =>
  simp only[b]at e;cases hb:Nat.beq v.cells.length n with
  |false=>simp[hb]at e
  |true =>
   simp only[hb,ge]at e;obtain⟨ad,w',g,j,m,q⟩:=mb P h e (eJ d);have hl:y.cells.size=n:=by have:=bR (eJ d);simp_all
   exact⟨ad,w',g,by simp[Go.storeVar,cH b,hl,j],m,q⟩
theorem kY{ρ:aJ}{w:World}{t:TypeId}{cs:List V}{ys:Array Value}{off:Nat}{x:V}(h:bg ρ cs=some ys.toList)(e:vZ P t cs off=some x) :
 ∃ y,den ρ x=some y/\(part t ys off).run P w=.ok y w:=by
 unfold vZ at e;cases hb:rZ P t with
 |none=>simp[hb]at e
 |some b =>
  cases b with
  |false =>simp only[hb]at e;obtain⟨y,d,a⟩:=eK off h e;rw[afo]at a;exact⟨y,d,by simp[part,xK hb,a]⟩
  |true =>
   simp only[hb]at e;cases g:size P t with
   |none=>simp[g]at e
   |some n =>
    simp only[g,aiB,abf]at e;subst e;have d:=DM n (DN off h);refine⟨.agg (ys.extract off (off+n)),?_,by simp[part,xK hb,cH g]⟩;have a:(ys.extract off (off+n))=((ys.toList.drop off).take n).toArray:=by grind
    simp only[den,d,a]
end types
def OZ(ρ:aJ):eO->Deferred->Prop
 |.call fn cap args,d=>∃ g c a,oD ρ fn=some g/\bg ρ cap=some c/\bg ρ args=some a/\d={ target:=.fn g c.toArray,args:=a.toArray }
 |.collected r,d=>∃ l,ρ r 0=some l/\d={ target:=.collected l.b,args:=#[] }
def IR(P:Program)(ρ:aJ)(w:World):Nx->Result Next->Prop
 |.val v s,r=>∃ ρ' y w',r=.ok (.value y) w'/\den ρ' v=some y/\HR ρ' s w'/\FR ρ w ρ' w'
 |.skip s,r=>∃ ρ' w',r=.ok .skip w'/\HR ρ' s w'/\FR ρ w ρ' w'
 |.enter f args s,r=>∃ ys,bg ρ args=some ys/\r=(callFunc f ys.toArray).run P w/\HR ρ s w
 |.round l args s,r=>∃ lb ys,ρ l 0=some lb/\bg ρ args=some ys/\r=(Instr.yield lb.b ys.toArray).run P w/\HR ρ s w
 |.defer d s,r=>∃ rd,OZ ρ d rd/\r=.ok (.defer rd) w/\HR ρ s w
 |.recover s,r=>r=.ok .recover w/\HR ρ s w
 |.panic v s,r=>∃ y,den ρ v=some y/\r=.halt (.panic y) w/\HR ρ s w
def BL(P:Program)(ρ:aJ)(w:World)(s:S)(nx:Nx)(r:Result Next):Prop:=∃ v y,nx=.val v s/\r=.ok (.value y) w/\den ρ v=some y
theorem BL.toR{P:Program}{ρ:aJ}{s:S}{w:World}{nx:Nx}{r:Result Next}(h:HR ρ s w)(k:BL P ρ w s nx r):IR P ρ w nx r:=by obtain⟨v,y,rfl,a,b⟩:=k;exact⟨ρ,y,w,a,b,h,FR.refl ρ w⟩
section ops
variable{P:Program}{ρ:aJ}{s:S}{w:World}{t:T V}{tm:Array Value}
theorem be(_h:HR ρ s w){x:Option V}{nx:Nx}(e:bL s x=some nx){m:Sem Value}
 (hm:∀ v,x=some v->∃ y,den ρ v=some y/\m.run P w=.ok y w):BL P ρ w s nx ((do pure (Next.value (<- m)):Sem Next).run P w):=by
 cases x with
 |none=>cases e
 |some v =>cases e;obtain⟨y,a,b⟩:=hm v rfl;exact⟨v,y,rfl,by simp[b],a⟩
theorem tW(h:HR ρ s w)(d:TR ρ t tm){c a b:Operand}{nx:Nx}(e:nX t s c a b=some nx) :
 BL P ρ w s nx ((do pure (Next.value (if <- asBool (rv tm c)then rv tm a else rv tm b)):Sem Next).run P w):=by
 unfold nX at e;split at e
 .rename_i q m;have g:=aI d m;simp only[den,abf]at g;unfold bL at e;split at e
  .rename_i v j;cases e;refine⟨_,if q then rv tm a else rv tm b,rfl,by simp[<- g,asBool],?_⟩;cases q
   .exact aI d j
   .exact aI d j
  .cases e
 .cases e
theorem ob{ρ:aJ}{v:V}{y:Value}(h:den ρ v=some y):y.cells.size=v.cells.length:=by have:=bR (eJ h);rwa [aiu]at this
theorem wc(h:HR ρ s w){elem:TypeId}{v:V}{y:Value}(a:den ρ v=some y){nx:Nx}(e:rh (bA s elem v.cells)=some nx) :
 IR P ρ w nx ((do pure (Next.value (.pointer (some (<- newVar elem y)))):Sem Next).run P w):=by
 obtain⟨ρ',b,d,g⟩:=gP h false elem elem (cs:=v.cells) (ys:=y.cells) (by rw[eJ a,<- ob a,aiR (by simp)]) (0,0) ⟨λ_=>rfl,by simp⟩;simp only[rh,bA,bz]at e;cases e;exact⟨ρ',_,_,by simp[newVar,newRow];rfl,by simp[den,jb,b],d,g⟩
theorem Ct(h:HR ρ s w){elem:TypeId}{nx:Nx}(e:jG P s elem=some nx) :
 IR P ρ w nx ((do pure (Next.value (<- Instr.alloc elem true (.tuple #[]))):Sem Next).run P w):=by
 unfold jG at e;split at e
 .rename_i z b;obtain⟨y,i,hi,a,d⟩:=fh b;have:=wc (P:=P) h (d ρ) e;simp only[Instr.alloc,abr,gh hi a,abm,afe]at this ⊢;exact this
 .cases e
theorem HY(h:HR ρ s w)(a:TR ρ t tm){elem:TypeId}{x:Operand}{nx:Nx}(e:ua s elem (eval t x)=some nx) :
 IR P ρ w nx ((do pure (Next.value (<- Instr.box elem (rv tm x))):Sem Next).run P w):=by
 unfold ua at e;split at e
 .rename_i z b;have:=wc (P:=P) h (aI a b) e;simp only[Instr.box,abr,afe]at this ⊢;exact this
 .cases e
theorem tY(h:HR ρ s w)(d:TR ρ t tm){ty:TypeId}{x:Operand}{nx:Nx}(e:jm P s ty (eval t x)=some nx) :
 BL P ρ w s nx ((do pure (Next.value (<- Instr.loadAt ty (rv tm x))):Sem Next).run P w):=by
 unfold jm at e;split at e
 .rename_i a g;have b:=aI d g;refine be h e λv j=>?_;obtain⟨ad,y,m,n,q⟩:=rj h j;simp only[den,m,abf]at b;exact⟨y,n,by simp[Instr.loadAt,Instr.sureAddr,<- b,q]⟩
 .cases e
theorem Cq(h:HR ρ s w)(b:TR ρ t tm){ty:TypeId}{x y:Operand}{nx:Nx}(e:tU P s ty (eval t x) (eval t y)=some nx) :
 IR P ρ w nx ((do Instr.storeAt ty (rv tm x) (rv tm y);pure Next.skip:Sem Next).run P w):=by
 unfold tU at e;split at e
 .rename_i a g;have d:=aI b g;split at e
  .rename_i v j;have m:=aI b j;unfold JI at e;split at e
   .rename_i s' n;cases e;obtain⟨ad,w',q,u,z,A⟩:=yF h n m;simp only[den,q,abf]at d;exact⟨ρ,w',by simp[Instr.storeAt,Instr.sureAddr,<- d,u],z,A⟩
   .cases e
  .cases e
 .cases e
theorem oC(h:HR ρ s w)(d:TR ρ t tm){x:Operand}{i:Nat}{nx:Nx}(e:bL s (qE (eval t x) i)=some nx) :
 BL P ρ w s nx ((do pure (Next.value (<- Instr.extract (rv tm x) i)):Sem Next).run P w):=by
 refine be h e λv b=>?_;unfold qE at b;split at b
 .rename_i vs g;have a:=aI d g;simp only[den]at a;split at a
  .rename_i l hl;obtain⟨y,j,m⟩:=eK i hl b;simp only[abf]at a;exact⟨y,j,by simp[Instr.extract,<- a,m]⟩
  .cases a
 .cases b
theorem pR(h:HR ρ s w)(m:TR ρ t tm){fn:Fn}{first cap:Array Operand}{nx:Nx}(e:bL s (tX fn (iq t first.toList) (iq t cap.toList))=some nx) :
 BL P ρ w s nx ((do pure (Next.value (<- Instr.makeFunc fn (first.map (rv tm)) (cap.map (rv tm)))):Sem Next).run P w):=by
 refine be h e λv d=>?_;unfold tX at d;split at d
 .cases d
 .rename_i j;unfold ES at d;split at d
  .rename_i a n;split at d
   .rename_i b hb;cases d;have q:oD ρ fn=some fn:=by cases fn<;>first|rfl|exact absurd rfl (j _)
    refine⟨.func fn (first.map (rv tm)) (cap.map (rv tm)),?_,by simp[Instr.makeFunc]⟩;simp only[den,q,lw m n,lw m hb];have g:∀ l:Array Operand,(List.map (rv tm) l.toList).toArray=l.map (rv tm):=λl=>by cases l;simp
    rw[g,g]
   .cases d
  .cases d
theorem JO{x:Option V}{n:Nat}(h:dQ x=some n):∃ k,x=some (.int k (.ofNat n)):=by
 cases x with
 |none=>cases h
 |some v =>
  cases v<;>try(cases h;done)
  rename_i k m;cases m<;>cases h
  grind
theorem oB(h:HR ρ s w)(g:TR ρ t tm){ty:TypeId}{x:Operand}{nx:Nx}(e:bL s (qC P ty (eval t x))=some nx) :
 BL P ρ w s nx ((do pure (Next.value (<- Instr.makeInterface ty (rv tm x))):Sem Next).run P w):=by
 refine be h e λv a=>?_;unfold qC at a;split at a
 .cases a
 .rename_i d j b;split at a
  .rename_i y hy;cases a;refine⟨.iface ty (rv tm x),by simp only[den,aI g hy],?_⟩;simp only[Instr.makeInterface,abr,aE b,abm];cases d<;>first|rfl|exact absurd rfl (j _)
  .cases a
 .cases a
theorem rz(h:HR ρ s w)(j:TR ρ t tm){ty:TypeId}{x:Operand}{f:Nat}{nx:Nx}(e:bL s (tZ P ty (eval t x) f)=some nx) :
 BL P ρ w s nx ((do pure (Next.value (<- Instr.field ty (rv tm x) f)):Sem Next).run P w):=by
 refine be h e λv a=>?_;unfold tZ at a;split at a
 .rename_i fs d;split at a
  .rename_i cs m;have b:=aI j m;simp only[den]at b;split at b
   .rename_i l hl;simp only[abf]at b;split at a
    .rename_i fd g;obtain⟨y,n,q⟩:=kY (w:=w) (ys:=l.toArray) (by simpa using hl) a;exact⟨y,n,by simp[Instr.field,aE d,g,<- b,asAgg,q]⟩
    .cases a
   .cases b
  .cases a
 .cases a
theorem kG(b off n:Nat):(⟨b,off,none⟩:Addr).add n=⟨b,off+n,none⟩:=by
 unfold Addr.add;split
 .grind
 .rfl
theorem yh{a:Ad}{l:BR}(hl:ρ a.f a.v=some l)(h:l.base<=a.c):jb ρ a=some ⟨l.b,a.c - l.base,none⟩:=by grind [jb]
theorem uc{a:Ad}{x:Addr}(h:jb ρ a=some x):∃ l,ρ a.f a.v=some l/\l.base<=a.c/\x=⟨l.b,a.c - l.base,none⟩:=by grind [jb]
theorem ud{a:Ad}{x:Addr}(n:Nat)(h:jb ρ a=some x):jb ρ (cq a n)=some (x.add n):=by
 obtain⟨l,b,h2,rfl⟩:=uc h;have d:ρ (cq a n).f (cq a n).v=some l:=b;rw[yh d (by show l.base<=a.c+n;omega),kG];have:(cq a n).c - l.base=a.c - l.base+n:=by show a.c+n - l.base=_;omega
 rw[this]
theorem lB(h:HR ρ s w)(A:TR ρ t tm){ty:TypeId}{x:Operand}{f:Nat}{nx:Nx}(e:bL s (ja P ty (eval t x) f)=some nx) :
 BL P ρ w s nx ((do pure (Next.value (<- Instr.fieldAt ty (rv tm x) f)):Sem Next).run P w):=by
 refine be h e λv b=>?_;unfold ja at b;split at b
 .rename_i fs m;split at b
  .rename_i a B;have g:=aI A B;simp only[den]at g;split at g
   .rename_i ad q;simp only[abf]at g;split at b
    .rename_i u y;cases d:lq u P with
     |true=>simp[d]at b
     |false =>
      simp only[d,SE,abf]at b;subst b;have j:∃ n,size P u.type=some n/\n≠0:=by
       unfold lq at d;split at d
       .rename_i n j;exact⟨n,j,λe=>by subst e;simp at d⟩
       .cases d
      obtain⟨n,j,z⟩:=j;refine⟨.pointer (some (ad.add u.offset)),by simp only[den,ud _ q],?_⟩;simp[Instr.fieldAt,aE m,y,<- g,Instr.sureAddr,fieldPlace,cH j,z]
    .cases b
   .cases g
  .cases b
 .cases b
theorem my(h:HR ρ s w)(n:TR ρ t tm){x:Operand}{dst:Option Tmp}{type:TypeId}{pos:String}{after:Array Edge}{guard:Option (Nat×Bool)}{nx:Nx}(e:bL s (nY (eval t x))=some nx) :
 BL P ρ w s nx ((execOp (rv tm) { dst,op:=.nilCheck x,type,pos,after,guard }).run P w):=by
 unfold bL at e;split at e
 .rename_i v d;cases e;unfold nY at d;split at d
  .rename_i a j;cases d;have b:=aI n j;have g:=b;simp only[den]at g;split at g
   .rename_i ad m;simp only[abf]at g;refine⟨_,.pointer (some ad),rfl,?_,by simp only[den,m]⟩;simp only[execOp,<- g,afe]
   .cases g
  .rename_i fn fi ca j;have b:=aI n j;split at d
   .cases d;refine⟨_,rv tm x,rfl,?_,b⟩;simp only[den,oD]at b
    (repeat' split at b)<;>try cases b
    simp only[abf]at b;simp only[execOp,<- b,afe]
   .cases d;refine⟨_,rv tm x,rfl,?_,b⟩;simp only[den,oD]at b
    (repeat' split at b)<;>try cases b
    simp only[abf]at b;rename_i g _ _ _ _ _ _;simp only[execOp,<- b];split at g<;>cases g;simp only[afe]
   .cases d
  .cases d
 .cases e
end ops
theorem cu(l:List Nat):(aK l).toList=l.map UInt8.ofNat:=by unfold aK;simp
theorem mQ:∀ {a b:List Nat} {r:Bool},ma a b=some r->((aK a).toList==(aK b).toList)=r:=by
 intro a;induction a with
 |nil =>
  intro b r h;cases b with
  |nil=>cases h;rw[cu];rfl
  |cons y b=>cases h;rw[cu,cu];rfl
 |cons x a ih =>
  intro b r h;cases b with
  |nil=>cases h;rw[cu,cu];rfl
  |cons y b =>
   simp only[ma]at h;cases hb:Nat.beq x y with
   |true =>simp only[hb,ge]at h;have e:=aaO hb;have h1:=ih h;simp_all[cu]
   |false =>
    simp only[hb,SE]at h;cases hc:(Nat.blt x 256&&Nat.blt y 256)with
    |false=>simp[hc]at h
    |true =>
     simp only[hc,ge,abf]at h;subst h;simp only[aaV,Nat.blt_eq]at hc;rw[cu,cu];simp only[acg];have hne:¬ UInt8.ofNat x=UInt8.ofNat y:=λe=>by have:=aib UInt8.toNat e;rw[UInt8.toNat_ofNat',UInt8.toNat_ofNat']at this;simp_all[Nat.mod_eq_of_lt]
     grind
section
variable{P:Program}{ρ:aJ}{s:S}{w:World}
theorem vY(h:HR ρ s w){a:Ad}(hp:bU s a=true):∃ l c e,ρ a.f a.v=some l/\w.heap[l.b]? = some (.cells c e (0,0)):=by
 unfold bU at hp;split at hp
 .rename_i el sb nv vers d;simp only[aaV,aiG]at hp;obtain⟨u,g⟩:=Option.isSome_iff_exists.1 hp.2;obtain⟨⟨l,c,e,fz,h1,h2,h3,h4,⟨h5,_⟩,h6⟩,_,hv⟩:=h.ver d g
  grind
 .cases hp
theorem GT(h:HR ρ s w){a b:Ad}{r:Bool}(e:LQ (bU s) a b=some r){A B:Addr}(G:jb ρ a=some A)(hb:jb ρ b=some B) :
 (sameAddr A B).run P w=.ok r w:=by
 unfold LQ at e;cases hp:(bU s a&&bU s b)with
 |false=>simp[hp]at e
 |true =>
  simp only[hp,ge]at e;simp only[aaV]at hp;obtain⟨la,d,ha2,rfl⟩:=uc G;obtain⟨lb,g,hb2,rfl⟩:=uc hb;obtain⟨l1,c1,H,z,m⟩:=vY h hp.1;obtain⟨l2,c2,I,F,q⟩:=vY h hp.2;rw[d]at z;cases z;rw[g]at F;cases F;cases u:Nat.beq a.f b.f with
  |true =>
   simp only[u,ge]at e;cases y:Nat.beq a.v b.v with
   |false=>simp[y]at e
   |true =>
    simp only[y,ge,abf]at e;rw[aaO u,aaO y,g]at d;cases d;simp only[sameAddr,akg,ajY];show Result.ok _ _=_;congr 1;subst e;cases hc:Nat.beq a.c b.c with
    |true=>rw[aaO hc];simp
    |false =>
     have j:a.c≠b.c:=λe=>by rw[e]at hc;simp at hc
     simp;omega
  |false =>
   simp only[u,SE,abf]at e;subst e;have j:la.b≠lb.b:=λe=>by have:=(h.inj _ _ _ _ _ _ d g e).1;simp_all
   have J:(la.b==lb.b)=false:=by simpa using j
   have fa:w.frozen? ⟨la.b,a.c - la.base,none⟩=false:=by simp[World.frozen?,m]
   have fb:w.frozen? ⟨lb.b,b.c - lb.base,none⟩=false:=by simp[World.frozen?,q]
   have fa':∀ n,w.frozen? { block:=la.b,off:=n }=false:=λn=>by simp[World.frozen?,m]
   have fb':∀ n,w.frozen? { block:=lb.b,off:=n }=false:=λn=>by simp[World.frozen?,q]
   have sa:w.shape? la.b=some (H,c1.size):=by simp[World.shape?,m]
   have sb:w.shape? lb.b=some (I,c2.size):=by simp[World.shape?,q]
   simp[sameAddr,J,fa,fb,noView,viewAt,sa,sb,mayBeOne,stringish,fa',fb']
theorem Ia{fn:Fn}{fi ca:List V}{x:Value}(h:den ρ (.func fn fi ca)=some x):∃ g a b,x=.func g a b:=by grind [den]
theorem wk{t:TypeId}{fs:Array Field}(h:P.underlying t=some (.struct fs)):P.fieldsOf t=fs:=by unfold Program.fieldsOf;rw[h]
theorem pN{eq:TypeId->V->V->Option Bool}{d:Nat}(e:∀ t x y r X Y,eq t x y=some r->den ρ x=some X->den ρ y=some Y->(Op.equalIn d t X Y).run P w=.ok r w) :
 ∀(fs:List Field) (xs ys:List V) (X Y:Array Value) (r:Bool),jR P eq fs xs ys=some r->bg ρ xs=some X.toList->bg ρ ys=some Y.toList ->
  (Op.eqFields d X Y fs).run P w=.ok r w
 |[],xs,ys,X,Y,r,h,_,_=>by cases h;rfl
 |f::fs,xs,ys,X,Y,r,h,F,hy=>by
  simp only[jR]at h;cases m:(f.name == "_")with
  |true=>simp[m]at h
  |false =>
   simp only[m,SE]at h;have n:f.name ≠ "_" := by simpa using m
   split at h
   .rename_i a b G hb;obtain⟨A,g,q⟩:=kY (P:=P) (w:=w) F G;obtain⟨B,j,u⟩:=kY (P:=P) (w:=w) hy hb;simp only[Op.eqFields,n,ne_eq,not_false_eq_true,ajY,abr,q,u,abm];split at h
    .rename_i z;rw[e _ _ _ _ _ _ z g j];simpa using pN e fs xs ys X Y r h F hy
    .rename_i z;cases h;rw[e _ _ _ _ _ _ z g j];simp
    .cases h
   .cases h
set_option maxHeartbeats 3000000 in
theorem wO(h:HR ρ s w):∀(d:Nat) (t:TypeId) (x y:V) (r:Bool) (X Y:Value) (u:Nat),dq P (bU s) d t x y=some r->den ρ x=some X->den ρ y=some Y->d<=u ->
 (Op.equalIn u t X Y).run P w=.ok r w:=by
 intro d;induction d with
 |zero=>intro t x y r X Y u e;cases e
 |succ d ih =>
  intro t x y r X Y u e m hy hd;obtain⟨u,rfl⟩:∃ n,u=n+1:=⟨u - 1,by omega⟩;simp only[dq]at e;split at e
  .rename_i fs q;split at e
   .rename_i xs ys;cases H:P.stoodInHeld t with
    |true=>simp[H]at e
    |false =>
     simp only[H,SE]at e;simp only[den]at m hy;split at m
     .rename_i lx I;split at hy
      .rename_i ly J;cases m;cases hy;rw[run_equalIn_struct w u t _ _ (by rw[wk q];exact q) H,wk q];exact pN (λt x y r X Y e O Q=>ih t x y r X Y u e O Q (by omega)) fs.toList xs ys _ _ r e (by simpa using I) (by simpa using J)
      .cases hy
     .cases m
   .cases e
  .rename_i ms q;split at e
   .cases m;cases hy;cases e;simp[Op.equalIn,aE q]
   .rename_i ty vy;simp only[den]at hy;split at hy
    .cases m;cases hy;cases e;simp[Op.equalIn,aE q]
    .cases hy
   .rename_i tx vx;simp only[den]at m;split at m
    .cases m;cases hy;cases e;simp[Op.equalIn,aE q]
    .cases m
   .rename_i tx vx ty vy;simp only[den]at m hy;split at m
    .rename_i zx K;split at hy
     .rename_i zy L;cases m;cases hy;cases G:Nat.beq tx ty with
      |false =>
       simp only[G,SE,abf]at e;subst e;have F:tx≠ty:=λe=>by rw[e]at G;simp at G
       simp[Op.equalIn,aE q,F]
      |true =>
       simp only[G,ge]at e;have:=aaO G;subst this;split at e
       .rename_i i hi;cases hc:i.comparable with
        |false=>simp[hc]at e
        |true =>simp only[hc,ge]at e;have:=ih _ _ _ _ _ _ u e K L (by omega);simp[Op.equalIn,aE q,typeInfo,hi,hc,this]
       .cases e
     .cases hy
    .cases m
   .cases e
  .rename_i q;split at e
   .cases m;cases hy;cases e;simp[Op.equalIn,aE q]
   .cases e
  .rename_i k0 q;split at e
   .rename_i j a k b;cases hk:dy j k with
    |false=>simp[hk]at e
    |true =>simp only[hk,ge,abf]at e;have M:j=k:=agj hk;subst M;cases m;cases hy;subst e;simp[Op.equalIn,aE q]
   .cases e
  .rename_i q;split at e
   .rename_i a b;cases m;cases hy;have:=mQ e;simp[Op.equalIn,aE q,beq_toListBytes,this]
   .cases e
  .rename_i el q;split at e
   .cases m;cases hy;cases e;simp[Op.equalIn,aE q]
   .rename_i b;simp only[den]at hy;split at hy
    .cases m;cases hy;cases e;simp[Op.equalIn,aE q]
    .cases hy
   .rename_i a;simp only[den]at m;split at m
    .cases m;cases hy;cases e;simp[Op.equalIn,aE q]
    .cases m
   .rename_i a b;simp only[den]at m hy;split at m
    .rename_i A hA;split at hy
     .rename_i B hB;cases m;cases hy;split at e
      .rename_i n U;cases N:Nat.beq n 0 with
       |true=>simp[N]at e
       |false =>
        simp only[N,SE]at e;have F:n≠0:=λe=>by subst e;simp at N
        have:=GT (P:=P) h e hA hB;simp[Op.equalIn,aE q,cH U,F,this]
      .cases e
     .cases hy
    .cases m
   .cases e
  .rename_i el q;split at e
   .cases m;cases hy;cases e;simp[Op.equalIn,aE q]
   .rename_i a z n c sz;simp only[den,ir]at hy
    (repeat' split at hy)<;>first|(cases hy;done)|(cases m;cases hy;cases e;simp[Op.equalIn,aE q])
   .rename_i a z n c sz;simp only[den,ir]at m
    (repeat' split at m)<;>first|(cases m;done)|(cases m;cases hy;cases e;simp[Op.equalIn,aE q])
   .cases e
  .rename_i k el q;split at e
   .cases m;cases hy;cases e;simp[Op.equalIn,aE q]
   .simp only[den]at hy;split at hy
    .cases m;cases hy;cases e;simp[Op.equalIn,aE q]
    .cases hy
   .simp only[den]at m;split at m
    .cases m;cases hy;cases e;simp[Op.equalIn,aE q]
    .cases m
   .cases e
  .rename_i q;split at e
   .cases m;cases hy;cases e;simp[Op.equalIn,aE q]
   .obtain⟨g,a,b,rfl⟩:=Ia hy;cases m;cases e;simp[Op.equalIn,aE q]
   .obtain⟨g,a,b,rfl⟩:=Ia m;cases hy;cases e;simp[Op.equalIn,aE q]
   .cases e
  .cases e
end
section ops
variable{P:Program}{ρ:aJ}{s:S}{w:World}{t:T V}{tm:Array Value}
theorem Hv{op:BinOp}{k:IntKind}{a b:Int}{v:V}(ty:TypeId)(d:qw op=false)(h:Do op k a b=some v) :
 ∃ y,den ρ v=some y/\(Go.binOp op ty (.int k a) (.int k b)).run P w=.ok y w:=by
 cases op<;>simp only[qw,Bool.true_eq_false]at d<;>simp only[Do,cr]at h
 case quo =>
  cases hb:(b==0)with
  |true=>simp[hb]at h
  |false =>
   simp only[hb,SE,abf]at h;subst h;have:b≠0:=by simpa using hb
   exact⟨_,rfl,by simp[Go.binOp,Op.intDiv,this]⟩
 case rem =>
  cases hb:(b==0)with
  |true=>simp[hb]at h
  |false =>
   simp only[hb,SE,abf]at h;subst h;have:b≠0:=by simpa using hb
   exact⟨_,rfl,by simp[Go.binOp,Op.intDiv,this]⟩
 all_goals first
  |cases h;done
  |(cases h;exact⟨_,rfl,by simp[Go.binOp,Op.intArith,Op.intCmp,Op.intBits]⟩)
theorem BW{op:BinOp}{k yk:IntKind}{a b:Int}{v:V}(ty:TypeId)(h:Em op k a b=some v) :
 ∃ y,den ρ v=some y/\(Go.binOp op ty (.int k a) (.int yk b)).run P w=.ok y w:=by
 cases b with
 |negSucc n=>cases h
 |ofNat n =>
  have h0:¬(Int.ofNat n<0):=Int.not_lt.2 (Int.natCast_nonneg n)
  cases op<;>simp only[Em,cr]at h<;>first
   |(cases h;done)
   |(cases h;exact⟨_,rfl,by simp[Go.binOp,Op.shift];intro h;omega⟩)
theorem GE{op:BinOp}{a b:List Nat}{v:V}(ty:TypeId)(h:yD op a b=some v) :
 ∃ y,den ρ v=some y/\(Go.binOp op ty (.string (aK a)) (.string (aK b))).run P w=.ok y w:=by
 cases op<;>simp only[yD]at h
 case add =>
  cases hb:Nat.ble (a.length+b.length) 1000000 with
  |false=>simp[hb]at h
  |true =>
   simp only[hb,ge,abf]at h;subst h;have hl:=abh hb;have sa:(aK a).size=a.length:=by unfold aK;simp[ByteArray.size]
   have sb:(aK b).size=b.length:=by unfold aK;simp[ByteArray.size]
   have e:aK a++aK b=aK (a++b):=by apply ByteArray.ext;simp[aK]
   refine⟨_,rfl,?_⟩;have g:¬(((aK a).size+(aK b).size:Nat):Int)>IntKind.i64.max:=by rw[sa,sb];simp only[IntKind.max,IntKind.signed,IntKind.bits];simp;omega
   simp only[Go.binOp,Op.stringOp];rw[afp g,e];rfl
 case eql =>
  cases d:ma a b with
  |none=>simp[d]at h
  |some r =>simp only[d,aiB,abf]at h;subst h;exact⟨_,rfl,by simp only[Go.binOp,Op.stringOp,mQ d];rfl⟩
 case neq =>
  cases d:ma a b with
  |none=>simp[d]at h
  |some r =>simp only[d,aiB,abf]at h;subst h;exact⟨_,rfl,by simp only[Go.binOp,Op.stringOp,mQ d];rfl⟩
 case lss =>cases h;exact⟨_,rfl,by simp only[Go.binOp,Op.stringOp,cu,pW];rfl⟩
 all_goals cases h
theorem Kw{op:BinOp}{ty:TypeId}{ox oy:Operand}{a b:V}{A B:Value}(e:gS P op ty ox oy a b=true)(d:den ρ a=some A)(hb:den ρ b=some B) :
 (eqGuard op ty ox oy A B).run P w=.ok () w:=by
 unfold gS at e;cases g:rY op with
 |false=>cases op<;>simp only[rY,Bool.true_eq_false]at g<;>simp[eqGuard]
 |true =>
  rw[g]at e;simp only[ge]at e
  have key:∀(A B:Value),(A=.nilIface->B=.nilIface->(fG ox||fG oy)=true)->(∀ xs ys,A=.agg xs->B=.agg ys->P.eqGuardType P.depth ty=false) ->
   (eqGuard op ty ox oy A B).run P w=.ok () w:=by
   intro A B j m;by_cases h:A=.nilIface/\B=.nilIface
   .obtain⟨rfl,rfl⟩:=h;have:=j rfl rfl;cases op<;>simp only[rY,aiW]at g<;>cases ox<;>cases oy<;>simp[fG]at this<;>simp[eqGuard]
   .by_cases hm:∃ xs ys,A=.agg xs/\B=.agg ys
    .obtain⟨xs,ys,rfl,rfl⟩:=hm;exact run_eqGuard_agg w op ty ox oy xs ys (m xs ys rfl rfl)
    .cases op<;>simp only[rY,aiW]at g<;>(cases A<;>first|rfl|(cases B<;>first|rfl|(exact absurd ⟨rfl,rfl⟩ h)|(exact absurd ⟨_,_,rfl,rfl⟩ hm)))
  refine key A B (λhA hB=>?_) (λxs ys hA hB=>?_)
  .subst hA;subst hB;have na:a=.nilIface:=by cases a<;>simp only[den,ir]at d<;>(repeat' split at d)<;>first|rfl|(simp at d;done)|cases d
   have nb:b=.nilIface:=by cases b<;>simp only[den,ir]at hb<;>(repeat' split at hb)<;>first|rfl|(simp at hb;done)|cases hb
   subst na;subst nb;exact e
  .subst hA;subst hB;have na:∃ l,a=.agg l:=by cases a<;>simp only[den,ir]at d<;>(repeat' split at d)<;>first|exact⟨_,rfl⟩|(simp at d;done)|cases d
   have nb:∃ l,b=.agg l:=by cases b<;>simp only[den,ir]at hb<;>(repeat' split at hb)<;>first|exact⟨_,rfl⟩|(simp at hb;done)|cases hb
   obtain⟨la,rfl⟩:=na;obtain⟨lb,rfl⟩:=nb;simpa using e
theorem NS{x y:V}:(∃ j a k b,x=.int j a/\y=.int k b)\/(∃ a b,x=.str a/\y=.str b)\/((∀ j a k b,¬(x=.int j a/\y=.int k b))/\∀ a b,¬(x=.str a/\y=.str b)):=by grind
theorem GN{ty:TypeId}{X Y:Value}{r:Bool}(h:(Op.equalIn 10000 ty X Y).run P w=.ok r w)(g:∀ j a k b,¬(X=.int j a/\Y=.int k b))(m:∀ a b,¬(X=.string a/\Y=.string b))
 (n:∀ k a,X≠.float k a) (hc:∀ k a b,X≠.complex k a b) :
 (Go.binOp .eql ty X Y).run P w=.ok (.bool r) w/\(Go.binOp .neq ty X Y).run P w=.ok (.bool (!r)) w:=by
 have d:∀(o:Sem Bool),o.run P w=.ok r w->((do pure (.bool (<- o)):Sem Value).run P w=.ok (.bool r) w/\(do pure (.bool (!(<- o))):Sem Value).run P w=.ok (.bool (!r)) w):=λo ho=>by simp[ho]
 have e:(Op.equal ty X Y).run P w=.ok r w:=h
 cases X<;>first
  |exact d _ e
  |(exact absurd rfl (n _ _))
  |(exact absurd rfl (hc _ _ _))
  |(cases Y<;>first
   |exact d _ e
   |(exact absurd ⟨rfl,rfl⟩ (g _ _ _ _))
   |(exact absurd ⟨rfl,rfl⟩ (m _ _)))
theorem DL{v:V}{x:Value}(h:den ρ v=some x):(∀ k a,x≠.float k a)/\(∀ k a b,x≠.complex k a b)/\(∀ j a,x=.int j a->v=.int j a)/\(∀ a,x=.string a->∃ l,v=.str l):=by
 cases v<;>simp only[den,ir]at h<;>(repeat' split at h)<;>first
  |(cases h;done)
  |(cases h;exact⟨λ_ _ e=>(by cases e),λ_ _ _ e=>(by cases e),λ_ _ e=>(by cases e<;>rfl),λ_ e=>(by cases e<;>exact⟨_,rfl⟩)⟩)
theorem wQ(h:HR ρ s w)(I:TR ρ t tm){op:BinOp}{ty:TypeId}{x y:Operand}{nx:Nx}(e:bL s (gk P s op ty x y (eval t x) (eval t y))=some nx) :
 BL P ρ w s nx ((do pure (Next.value (<- (do eqGuard op ty x y (rv tm x) (rv tm y);Go.binOp op ty (rv tm x) (rv tm y):Sem Value))):Sem Next).run P w):=by
 refine be h e λv d=>?_;unfold gk at d;split at d
 .rename_i a L;split at d
  .rename_i b hb;cases B:gS P op ty x y a b with
   |false=>simp[B]at d
   |true =>
    simp only[B,ge]at d;have da:=aI I L;have db:=aI I hb;have hgo:=Kw (w:=w) B da db;generalize rv tm x=X at *;generalize rv tm y=Y at *;suffices A:∃ y,den ρ v=some y/\(Go.binOp op ty X Y).run P w=.ok y w by simp_all
    rcases NS (x:=a) (y:=b)with⟨j,m,k,n,rfl,rfl⟩|⟨l,m,rfl,rfl⟩|⟨z,F⟩
    .cases da;cases db;simp only[gb]at d;cases A:qw op with
     |true=>rw[A]at d;exact BW ty d
     |false =>
      rw[A]at d;simp only[SE]at d;cases hk:dy j k with
      |false=>simp[hk]at d
      |true =>simp only[hk,ge]at d;obtain rfl:j=k:=agj hk;exact Hv ty A d
    .cases da;cases db;exact GE ty d
    .have g:(match(generalizing:=false) op with
      |.eql=>(dq P (bU s) 20 ty a b).map .bool
      |.neq=>(dq P (bU s) 20 ty a b).map λb=>.bool (!b)
      |_=>none)=some v:=by
      unfold gb at d;split at d
      .exact absurd ⟨rfl,rfl⟩ (z _ _ _ _)
      .exact absurd ⟨rfl,rfl⟩ (F _ _)
      .exact d
     obtain⟨s1,s2,s3,s4⟩:=DL da;obtain⟨q1,q2,M,q4⟩:=DL db;have N:∀ j q k u,¬(X=.int j q/\Y=.int k u):=λj q k u ⟨J,K⟩=>z j q k u ⟨s3 _ _ J,M _ _ K⟩;have G:∀ q u,¬(X=.string q/\Y=.string u):=λq u ⟨J,K⟩=>by grind
     cases H:dq P (bU s) 20 ty a b with
     |none=>cases op<;>simp[H]at g
     |some r =>
      have O:=wO h 20 ty a b r X Y 10000 H da db (by omega);obtain⟨Q,U⟩:=GN O N G s1 s2
      cases op<;>simp only[H,aiB,abf]at g<;>first
       |(subst g;exact⟨_,rfl,Q⟩)
       |(subst g;exact⟨_,rfl,U⟩)
       |cases g
  .cases d
 .cases d
theorem Ba(h:HR ρ s w)(d:TR ρ t tm){op:UnOp}{x:Operand}{nx:Nx}(e:bL s (aat op (eval t x))=some nx) :
 BL P ρ w s nx ((do pure (Next.value (<- Op.unary op (rv tm x))):Sem Next).run P w):=by
 refine be h e λv b=>?_;unfold aat at b;split at b
 .rename_i a g;have da:=aI d g;generalize rv tm x=X at *
  cases op<;>cases a<;>simp only[Pr]at b<;>first
   |(cases b;done)
   |(cases b;cases da;exact⟨_,rfl,by simp[Op.unary,Op.intArith]⟩)
 .cases b
theorem pT(h:HR ρ s w)(H:TR ρ t tm){x:Operand}{xt ty:TypeId}{ok:Bool}{nx:Nx}(e:bL s (mz P (eval t x) ty ok)=some nx) :
 BL P ρ w s nx ((do pure (Next.value (<- Instr.typeAssert (rv tm x) xt ty ok)):Sem Next).run P w):=by
 refine be h e λv b=>?_;unfold mz at b;split at b
 .cases b
 .rename_i d g n;have hfail:∀ v,fI P ty ok=some v->ok=true/\∃ z i,P.info? ty=some i/\i.zero=some z/\den ρ v=some (.tuple #[z,.bool false]):=λv j=>by
   unfold fI at j;cases ok with
   |false=>cases j
   |true =>
    simp only[ge]at j;split at j
    .rename_i z m;obtain⟨y,i,hi,A,a⟩:=fh m;cases j;exact⟨rfl,y,i,hi,A,by simp only[den,bg,a ρ]⟩
    .cases j
  split at b
  .rename_i B;have dx:=aI H B;obtain⟨rfl,z,i,hi,m,a⟩:=hfail v b;simp only[den,abf]at dx;refine⟨_,a,?_⟩;simp only[Instr.typeAssert,abr,aE n,abm,<- dx];cases d<;>first|(simp[gh hi m];done)|exact absurd rfl (g _)
  .rename_i u q B;have dx:=aI H B;simp only[den]at dx;split at dx
   .rename_i z m;simp only[abf]at dx;cases hb:Nat.beq u ty with
    |true =>simp only[hb,ge,abf]at b;have F:=aaO hb;subst F;subst b;refine⟨if ok then .tuple #[z,.bool true] else z,by cases ok<;>simp[den,bg,m],?_⟩;simp only[Instr.typeAssert,abr,aE n,abm,<- dx];cases d<;>first|(simp;done)|exact absurd rfl (g _)
    |false =>
     simp only[hb,SE]at b;have F:u≠ty:=λe=>by rw[e]at hb;simp at hb
     obtain⟨rfl,z',i,hi,G,a⟩:=hfail v b;refine⟨_,a,?_⟩;simp only[Instr.typeAssert,abr,aE n,abm,<- dx];cases d<;>first|(simp[F,gh hi G];done)|exact absurd rfl (g _)
   .cases dx
  .cases b
 .cases b
end ops
section ops
variable{P:Program}{ρ:aJ}{s:S}{w:World}{t:T V}{tm:Array Value}
theorem pY{a b:Nat}(h:Nat.blt a b=true):a<b:=abh h
theorem iy{a:Ad}{z len sz:Nat}{cap:Option Nat}{y:Value}(h:den ρ (.slice a z len cap sz)=some y)(hz:sz≠0\/0<len) :
 ∃ l,ρ a.f a.v=some l/\l.base<=bD l a z cap sz/\l.base<=a.c/\len<=cG l a cap sz/\0<sz/\y=.slice (some ⟨l.b,bD l a z cap sz - l.base,none⟩) len (cG l a cap sz):=by
 simp only[den,ir]at h;split at h
 .rename_i h0;split at h
  .rename_i h1;omega
  .cases h
 split at h
 .rename_i l hl;split at h
  .rename_i hc;simp only[abf]at h;exact⟨l,hl,hc.1,hc.2.1,hc.2.2.1,hc.2.2.2,h.symm⟩
  .cases h
 .cases h
theorem dL{a:Ad}{z len sz:Nat}{cap:Option Nat}{l:BR}(hl:ρ a.f a.v=some l)(d:l.base<=bD l a z cap sz)(e:l.base<=a.c)(g:len<=cG l a cap sz)(h:0<sz) :
 den ρ (.slice a z len cap sz)=some (.slice (some ⟨l.b,bD l a z cap sz - l.base,none⟩) len (cG l a cap sz)):=by
 simp only[den,ir];rw[afp (show ¬ sz=0 by omega)];simp only[hl];rw[agC ⟨d,e,g,h⟩]
theorem vW{a:Ad}{z len sz:Nat}{cap:Option Nat}{y:Value}(h:den ρ (.slice a z len cap sz)=some y):∃ b c,y=.slice b len c/\∀ d,cap=some d->c=d:=by
 by_cases e:sz=0
 .grind [den,ir,Option.some.inj]
 .obtain⟨l,_,_,_,_,_,rfl⟩:=iy h (.inl e);exact⟨_,_,rfl,λd hc=>by subst hc;rfl⟩
theorem QH{n:Nat}(h:Nat.beq n 0=false):n≠0:=λe=>by subst e;cases h
theorem fV{l:BR}{a:Ad}{z len sz:Nat}{cap:Option Nat}(h:len<=cG l a cap sz)(h0:0<len):bD l a z cap sz=a.c:=by
 cases cap with
 |some c=>rfl
 |none=>simp only[bD,cG]at *;rw[afp (by omega)]
theorem gy(a:TR ρ t tm){x:Operand}{n:Nat}(h:dQ (eval t x)=some n):∃ k,rv tm x=.int k (.ofNat n):=by
 obtain⟨k,hk⟩:=JO h;have:=aI a hk
 grind [den,Option.some.injEq]
theorem lA(h:HR ρ s w)(q:TR ρ t tm){ty:TypeId}{x i:Operand}{nx:Nx}(e:bL s (eQ P ty (eval t x) (dQ (eval t i)))=some nx) :
 BL P ρ w s nx ((do pure (Next.value (<- Instr.indexAt ty (rv tm x) (rv tm i))):Sem Next).run P w):=by
 refine be h e λv d=>?_;unfold eQ at d;split at d
 .rename_i j G;obtain⟨k,hi⟩:=gy q G;split at d
  .rename_i el u;split at d
   .rename_i a z len cap sz y;split at d
    .rename_i n A;cases hb:(Nat.beq n sz&&Nat.blt j len)with
     |false=>simp[hb]at d
     |true =>
      simp only[hb,ge,abf]at d;simp only[aaV]at hb;obtain rfl:=aaO hb.1;have g:j<len:=pY hb.2;obtain⟨l,m,h2,H,I,h5,F⟩:=iy (aI q y) (.inr (by omega));subst d;have hc:=fV (z:=z) I (by omega);rw[hc]at F;refine⟨.pointer (some ((⟨l.b,a.c - l.base,none⟩:Addr).add (j*n))),by simp only[den,ud _ (yh m H)],?_⟩;have hr:(0:Int)<=(j:Int)/\(j:Int)<(len:Int):=by omega
      simp[Instr.indexAt,hi,F,asIntOf,aE u,cH A,g]
    .cases d
   .cases d
  .rename_i len el u;split at d
   .rename_i a y;have m:=aI q y;simp only[den]at m;split at m
    .rename_i ad B;simp only[abf]at m;split at d
     .rename_i n A;cases hb:Nat.blt j len with
      |false=>simp[hb]at d
      |true =>simp only[hb,ge,abf]at d;have g:j<len:=pY hb;subst d;refine⟨.pointer (some (ad.add (j*n))),by simp only[den,ud _ B],?_⟩;simp[Instr.indexAt,hi,<- m,asIntOf,Instr.sureAddr,aE u,cH A,g]
     .cases d
    .cases m
   .cases d
  .cases d
 .cases d
theorem yl(l:List Nat)(i:Nat)(c:Nat)(h:l[i]? = some c):(aK l)[i]? = some (UInt8.ofNat c):=by
 have hi:i<l.length:=(abj.1 h).1;have hs:(aK l).size=l.length:=by simp[aK,ByteArray.size]
 have a:i<(aK l).size:=by omega
 rw[getElem?_pos (aK l) i a];have b:=(abj.1 h).2;congr 1;show(aK l).data[i]=_;simp[aK,b]
theorem ry(h:HR ρ s w)(d:TR ρ t tm){ty:TypeId}{x i:Operand}{nx:Nx}(e:bL s (qD P ty (eval t x) (dQ (eval t i)))=some nx) :
 BL P ρ w s nx ((do pure (Next.value (<- Instr.index ty (rv tm x) (rv tm i))):Sem Next).run P w):=by
 refine be h e λv a=>?_;unfold qD at a;split at a
 .rename_i j u;obtain⟨k,hi⟩:=gy d u;split at a
  .rename_i g;split at a
   .rename_i l m;have b:=aI d m;simp only[den,abf]at b;split at a
    .rename_i c hc;cases a;refine⟨_,rfl,?_⟩;have hb:=yl l j c hc;simp[Instr.index,hi,<- b,asIntOf,aE g,hb];rfl
    .cases a
   .cases a
  .rename_i len el g;split at a
   .rename_i cs m;have b:=aI d m;simp only[den]at b;split at b
    .rename_i l hl;simp only[abf]at b;split at a
     .rename_i n z;cases hb:Nat.blt j len with
      |false=>simp[hb]at a
      |true =>simp only[hb,ge]at a;have q:j<len:=pY hb;obtain⟨y,A,B⟩:=kY (w:=w) (ys:=l.toArray) (by simpa using hl) a;exact⟨y,A,by simp[Instr.index,hi,<- b,asIntOf,aE g,cH z,q,B]⟩
     .cases a
    .cases b
   .cases a
  .cases a
 .cases a
theorem xu(h:HR ρ s w){ty:TypeId}:IR P ρ w (.val (.map s.next) (s.alloc (.map [] 0))) ((do pure (Next.value (<- Instr.makeMap ty none)):Sem Next).run P w):=by have hfree:ρ s.next 0=none:=h.fresh _ _ (aaW _);obtain⟨a,b⟩:=h.alloc (.map [] 0) (.map #[] 0) 0 0 (aaW _) ⟨⟨w.heap.size,0,0⟩,#[],aJ.put_same _ _ _ _,eD _ _,trivial⟩;exact⟨_,.map (some w.heap.size),_,by simp[Instr.makeMap],by simp[den,aJ.put_same],a,b⟩
theorem Bh(zs:List Value)(k:Nat)(hk:zs.length=k)(h0:0<k):∀ c:Nat,(List.range (c*k)).map (λi=>zs.toArray[i%zs.toArray.size]!)=(List.replicate c zs).flatten
 |0=>by simp
 |c+1=>by
  rw[aju,ajc,<- Bh zs k hk h0 c,Nat.succ_mul,Nat.add_comm,List.range_add,afj,ako];congr 1
  .apply List.ext_getElem
   .simp[hk]
   .intro i a b;simp at a;simp[hk,Nat.mod_eq_of_lt a];rw[abg b];rfl
  .apply List.map_congr_left;intro i _;simp[hk]
theorem hC{l:List V}{m:List Value}(h:bg ρ l=some m):∀ c:Nat,bg ρ (List.replicate c l).flatten=some (List.replicate c m).flatten
 |0=>rfl
 |c+1=>by simp_all[aju,ajc,dH,hC]
theorem tq(h:HR ρ s w){elem:TypeId}{cs:List V}{ys:Array Value}(d:bg ρ cs=some ys.toList){len sz:Nat}{cap:Nat}(hl:len<=cap)(b:0<sz) :
 IR P ρ w (.val (.slice (bA s elem cs).1 0 len (some cap) sz) (bA s elem cs).2) ((do pure (Next.value (.slice (some (<- newRow elem ys)) len cap)):Sem Next).run P w):=by
 have a:cs.length=ys.size:=by have:=bR d;simpa using this.symm
 obtain⟨ρ',e,g,j⟩:=gP h false elem elem (cs:=cs) (ys:=ys) (by rw[d,a,aiR (by simp)]) (0,0) ⟨λ_=>rfl,by simp⟩;refine⟨ρ',.slice (some ⟨w.heap.size,0,none⟩) len cap,_,by simp[newRow],?_,g,j⟩;exact dL (l:=⟨w.heap.size,0,ys.size⟩) e (ajg _) (ajg _) hl b
theorem mL(n:Nat)(h:n<=2199023255552):IntKind.i64.wrap (Int.ofNat n)=Int.ofNat n:=by simp only[IntKind.wrap,IntKind.bits,IntKind.signed];simp;omega
theorem xq(h:HR ρ s w)(K:TR ρ t tm){ty:TypeId}{l c:Operand}{nx:Nx}(e:eI P s ty (dQ (eval t l)) (dQ (eval t c))=some nx) :
 IR P ρ w nx ((do pure (Next.value (<- Instr.makeSlice ty (rv tm l) (rv tm c))):Sem Next).run P w):=by
 unfold eI at e;split at e
 .rename_i el O;split at e
  .rename_i l' hl;split at e
   .rename_i a hc;obtain⟨k1,Q⟩:=gy K hl;obtain⟨k2,U⟩:=gy K hc;split at e
    .rename_i z W;obtain⟨zv,i,hi,y,d⟩:=fh W;split at e
     .rename_i n X;cases hb:(Nat.ble l' a&&Nat.ble a 2199023255552&&!(Nat.beq n 0)&&Nat.beq z.cells.length n&&mR P el a)with
      |false=>simp[hb]at e
      |true =>
       simp only[hb,ge]at e;simp only[aaV]at hb;obtain⟨⟨⟨⟨A,B⟩,F⟩,L⟩,Y⟩:=hb;have A:=abh A;have B:=abh B;have L:=aaO L;have F:0<n:=by grind
       have Y:i.bytes*a<=100000000000000:=by simp_all[mR,abh]
       have j:=eJ (d ρ);have G:zv.cells.toList.length=n:=by have:=bR j;omega
       have hrow:=Bh zv.cells.toList n G F a;have Z:bg ρ (List.replicate a z.cells).flatten=some ((List.replicate a zv.cells.toList).flatten.toArray).toList:=by simpa using hC j a
       have key:=tq (P:=P) h (elem:=el) Z (len:=l') (sz:=n) (cap:=a) A F;simp only[bA,bz]at e key;cases e;have b:(Instr.makeSlice ty (rv tm l) (rv tm c)).run P w=(do pure (.slice (some (<- newRow el (List.replicate a zv.cells.toList).flatten.toArray)) l' a):Sem Value).run P w:=by
        have m:=cH X w;have M:=mL l' (by omega);have N:=mL a B;simp only[ajW]at M N;have hA:∀ k n,(asInt (.int k n)).run P w=.ok n w:=λk n=>by simp[asInt,asIntOf]
        have hrow2:Array.map (λx=>zv.cells[x%zv.cells.size]!) (Array.range (a*n))=(List.replicate a zv.cells.toList).flatten.toArray:=by grind
        have q:(decide ((a:Int)<0)||decide ((i.bytes:Int)*(a:Int)>2 ^ 48))=false:=by grind
        have H:decide ((l':Int)<0)=false:=by simp
        have I:decide ((l':Int)>(a:Int))=false:=by simp;omega
        have J:(typeInfo el).run P w=.ok i w:=by simp[typeInfo,hi]
        have hzr:=gh hi y w;simp only[Instr.makeSlice,abr,aE O,abm,Q,U,hA,afe,J,ajW,M,N,run_askRoom,m,aio];rw[afp (by rw[q,H,I];simp)];simp only[abr,run_askRoom,abm,m];by_cases u:a*n=0
        .rw[agC u];have g:∀ f:Nat->Value,Array.map f (Array.range 0)=#[]:=λf=>by simp
         simp only[abr,afe,abm,<- hrow2,u,g]
        simp_all
       simp only[abr]at b key ⊢;rw[b];simpa[newRow]using key
     .cases e
    .cases e
   .cases e
  .cases e
 .cases e
theorem NU{v:V}{n:Nat}(h:mh v=some n):∃ k,v=.int k (.ofNat n):=by
 cases v<;>try(cases h;done)
 rename_i k m;cases m<;>cases h
 grind
def Gp(ρ:aJ):Option V->Option Value->Prop
 |none,none=>True
 |some v,some y=>den ρ v=some y
 |_,_=>False
theorem pL(a:TR ρ t tm){x:Option Operand}{v:Option V}(h:mu t x=some v):Gp ρ v (x.map (rv tm)):=by
 cases x with
 |none=>cases h;trivial
 |some x =>
  simp only[mu]at h;split at h
  .rename_i u b;cases h;exact aI a b
  .cases h
theorem fO(k:IntKind)(n y:Nat)(c:BoundsCode)(h:n<=y):(Instr.sliceBound (.int k (.ofNat n)) y c).run P w=.ok n w:=by
 have:(0:Int)<=(n:Int)/\(n:Int)<=(y:Int):=by omega
 simp[Instr.sliceBound,asIntOf,h]
theorem iz{isS:Bool}{len cap m h b:Nat}{lo hi mx:Option V}{lo' a mx':Option Value}(j:Gp ρ lo lo')(u:Gp ρ hi a)(G:Gp ρ mx mx')
 (H:eZ mx cap=some m) (z:eZ hi len=some h) (q:eZ lo 0=some b)
 (l3:m<=cap) (l2:h<=m) (l1:b<=h) (hm:mx.isSome=true->hi.isSome=true):(Instr.sliceBounds isS len cap lo' a mx').run P w=.ok (b,h,m) w:=by
 have key:∀(o:Option V) (o':Option Value) (n:Nat),Gp ρ o o'->∀ d:Nat,eZ o d=some n->(o=none/\o'=none/\n=d)\/∃ k v,o=some v/\o'=some (.int k (.ofNat n)):=by
  intro o o' n hr d A;cases o with
  |none=>cases o' with
   |none=>exact .inl ⟨rfl,rfl,by cases A;rfl⟩
   |some _=>exact hr.elim
  |some v=>cases o' with
   |none=>exact hr.elim
   |some y =>obtain⟨k,rfl⟩:=NU A;simp only[Gp,den,abf]at hr;exact .inr ⟨k,_,rfl,by rw[<- hr]⟩
 rcases key mx mx' m G cap H with⟨rfl,rfl,rfl⟩|⟨B,v3,rfl,rfl⟩
 .rcases key hi a h u len z with⟨rfl,rfl,rfl⟩|⟨e,I,rfl,rfl⟩
  .rcases key lo lo' b j 0 q with⟨rfl,rfl,rfl⟩|⟨g,F,rfl,rfl⟩
   .simp[Instr.sliceBounds]
   .simp only[Instr.sliceBounds,abr,afe,abm,fO g b _ _ l1]
  .rcases key lo lo' b j 0 q with⟨rfl,rfl,rfl⟩|⟨g,F,rfl,rfl⟩
   .simp only[Instr.sliceBounds,abr,afe,abm,fO e h _ _ l2]
   .simp only[Instr.sliceBounds,abr,afe,abm,fO e h _ _ l2,fO g b _ _ l1]
 .rcases key hi a h u len z with⟨rfl,rfl,rfl⟩|⟨e,I,rfl,rfl⟩
  .simp at hm
  .rcases key lo lo' b j 0 q with⟨rfl,rfl,rfl⟩|⟨g,F,rfl,rfl⟩
   .simp only[Instr.sliceBounds,abr,afe,abm,fO B m _ _ l3,fO e h _ _ l2]
   .simp only[Instr.sliceBounds,abr,afe,abm,fO B m _ _ l3,fO e h _ _ l2,fO g b _ _ l1]
theorem rq(l:List Nat)(b h:Nat):(aK l).extract b h=aK ((l.drop b).take (h - b)):=by apply ByteArray.ext;simp_all[aK,List.map_drop,ajS,List.extract_eq_take_drop]
theorem Oy{l:BR}{a:Ad}{sz b:Nat}(hsz:0<sz):(l.lim - (a.c+b*sz)) / sz=(l.lim - a.c) / sz - b:=by rw[<- Nat.sub_sub,Nat.mul_comm b sz,Nat.sub_mul_div]
theorem El{ty:TypeId}{x:V}{X:Value}{lo hi mx:Option V}{lo' A mx':Option Value}{v:V}(B:den ρ x=some X)(Q:Gp ρ lo lo')(U:Gp ρ hi A)(J:Gp ρ mx mx')
 (e:cZ P ty x lo hi mx=some v):∃ y,den ρ v=some y/\(Instr.sliceAt ty X lo' A mx').run P w=.ok y w:=by
 unfold cZ at e;split at e
 .rename_i M;split at e
  .rename_i l;cases mx' with
   |some _=>exact J.elim
   |none =>
   simp only at e;split at e
   .rename_i b h hb F;cases hc:(Nat.ble h l.length&&Nat.ble b h)with
    |false=>simp[hc]at e
    |true =>
     simp only[hc,ge,abf]at e;simp only[aaV]at hc;subst e;cases B;have hs:(aK l).size=l.length:=by simp[aK,ByteArray.size]
     have:=iz (P:=P) (w:=w) (isS:=false) (len:=l.length) (cap:=l.length) (m:=l.length) Q U J rfl F hb (aaW _) (abh hc.1) (abh hc.2) (by simp);exact⟨_,rfl,by simp[Instr.sliceAt,Instr.slice,aE M,hs,this,rq]⟩
   .cases e
  .cases e
 .rename_i el M;split at e
  .rename_i sz G;split at e
   .
    cases B;cases hm:(mx.isSome&&!hi.isSome)with
    |true=>rw[hm]at e;cases e
    |false =>
     rw[hm]at e;simp only[SE]at e;cases hc:(cm (eZ lo 0)&&cm (eZ hi 0)&&cm (eZ mx 0))with
     |false=>simp[hc]at e
     |true =>
      simp only[hc,ge,abf]at e;subst e;simp only[aaV]at hc;have N:∀ o:Option Nat,cm o=true->o=some 0:=λo ho=>by
       cases o with
       |none=>cases ho
       |some n=>rw[aaO ho]
      have:=iz (P:=P) (w:=w) (isS:=true) (len:=0) (cap:=0) Q U J (N _ hc.2) (N _ hc.1.2) (N _ hc.1.1) (aaW _) (aaW _) (aaW _)
       (λZ=>by cases F:hi with|some _=>rfl|none=>simp[Z,F]at hm)
      exact⟨_,rfl,by simp[Instr.sliceAt,Instr.slice,aE M,cH G,this]⟩
   .
    rename_i a z len cap sz';cases g:(Nat.beq sz' 0||(Nat.beq len 0&&io cap))with
    |true =>
     rw[g]at e;simp only[ge]at e;cases hc:((cm (eZ lo 0)&&cm (eZ hi 0)&&cm (eZ mx 0))&&!(mx.isSome&&!hi.isSome))with
     |false=>rw[hc]at e;cases e
     |true =>
      rw[hc]at e;simp only[ge,abf]at e;subst e;simp only[aaV]at hc;have N:∀ o:Option Nat,cm o=true->o=some 0:=λo ho=>by
       cases o with
       |none=>cases ho
       |some n=>rw[aaO ho]
      have hs:∃ q,X=.slice (some q) 0 0:=by
       simp only[den,ir]at B;split at B
       .grind
       .rename_i I;simp only[ajm,aaV]at g;rcases g with g|g
        .simp_all
        .obtain rfl:=aaO g.1;obtain rfl:cap=some 0:=by
          cases cap with
          |none=>cases g.2
          |some c=>rw[aaO g.2]
         split at B
         .split at B
          .cases B;exact⟨_,rfl⟩
          .cases B
         .cases B
      obtain⟨q,rfl⟩:=hs
      have:=iz (P:=P) (w:=w) (isS:=true) (len:=0) (cap:=0) Q U J (N _ hc.1.2) (N _ hc.1.1.2) (N _ hc.1.1.1) (aaW _) (aaW _) (aaW _)
       (λZ=>by cases F:hi with|some _=>rfl|none=>simp[Z,F]at hc)
      exact⟨_,B,by simp[Instr.sliceAt,Instr.slice,aE M,cH G,this]⟩
    |false =>
    rw[g]at e;simp only[SE]at e;have g:=(aiX.1 g).1;obtain⟨l,W,g2,g3,Y,O,rfl⟩:=iy B (.inl (QH g));cases hm:(Nat.beq sz sz'&&!(mx.isSome&&!hi.isSome))with
    |false=>rw[hm]at e;cases e
    |true =>
     rw[hm]at e;simp only[ge]at e;simp only[aaV]at hm;obtain rfl:=aaO hm.1;have hmh:mx.isSome=true->hi.isSome=true:=λZ=>by cases F:hi with|some _=>rfl|none=>simp[Z,F]at hm
     split at e
     .rename_i b h hb F;split at e
      .cases mx' with
       |some _=>exact J.elim
       |none =>
       split at e
       .rename_i c;cases hc:(Nat.ble h c&&Nat.ble b h)with
        |false=>simp[hc]at e
        |true =>
         simp only[hc,ge]at e;simp only[aaV]at hc;have c1:=abh hc.1;have c2:=abh hc.2;have j:=iz (P:=P) (w:=w) (isS:=true) (len:=len) (cap:=c) Q U J rfl F hb (aaW _) c1 c2 (by simp);have u:(Instr.sliceAt ty (.slice (some ⟨l.b,a.c - l.base,none⟩) len c) lo' A none).run P w=.ok (.slice (some (if c=b then⟨l.b,a.c - l.base,none⟩else(⟨l.b,a.c - l.base,none⟩:Addr).add (b*sz))) (h - b) (c - b)) w:=by simp only[Instr.sliceAt,Instr.slice,abr,aE M,abm,j,cH G,afe];split<;>simp
         cases d:Nat.beq c b with
         |true =>simp only[d,ge,abf]at e;subst e;obtain rfl:=aaO d;refine⟨_,dL W g3 g3 (by show h - c<=0;omega) O,?_⟩;refine aki u ?_;rw[agC rfl];simp[bD,cG]
         |false =>
          simp only[d,SE,abf]at e;subst e;have I:¬ c=b:=λe=>by subst e;simp at d
          refine⟨_,dL (l:=l) W (by show l.base<=a.c+b*sz;omega) (by show l.base<=a.c+b*sz;omega) (by show h - b<=c - b;omega) O,?_⟩;refine aki u ?_;rw[afp I,kG];simp only[bD,cG,cq];rw[show a.c+b*sz - l.base=a.c - l.base+b*sz by omega]
       .cases hc:(Nat.ble h len&&Nat.ble b h)with
        |false=>simp[hc]at e
        |true =>
         simp only[hc,ge]at e;simp only[aaV]at hc;have c1:=abh hc.1;have c2:=abh hc.2;have j:=iz (P:=P) (w:=w) (isS:=true) (len:=len) (cap:=cG l a none sz) Q U J rfl F hb (aaW _) (acd c1 Y) c2 (by simp);have u:∀ q:Addr,(Instr.sliceAt ty (.slice (some q) len (cG l a none sz)) lo' A none).run P w=.ok (.slice (some (if cG l a none sz=b then q else q.add (b*sz))) (h - b) (cG l a none sz - b)) w:=by intro q;simp only[Instr.sliceAt,Instr.slice,abr,aE M,abm,j,cH G,afe];split<;>simp
         cases d:Nat.beq b 0 with
         |true =>simp only[d,ge,abf]at e;subst e;obtain rfl:=aaO d;refine⟨_,dL W g2 g3 (acd c1 Y) O,?_⟩;rw[u];simp[kG]
         |false =>
          simp only[d,SE,abf]at e;subst e;have hb0:0<b:=ajL λe=>by subst e;simp at d
          have K:cG l (cq a (b*sz)) none sz=cG l a none sz - b:=Oy O;have H:bD l a z none sz=a.c:=fV (len:=len) Y (by omega);have L:bD l (cq a (b*sz)) a.c none sz=if cG l a none sz=b then a.c else a.c+b*sz:=by
           show(if cG l (cq a (b*sz)) none sz=0 then a.c else a.c+b*sz)=_
           grind
          refine⟨_,dL (l:=l) W (by rw[L];split<;>omega) (by show l.base<=a.c+b*sz;omega) (by rw[K];omega) O,?_⟩;rw[u,H,L,K];congr 4;split
          .rfl
          .rw[kG,show a.c+b*sz - l.base=a.c - l.base+b*sz by omega]
      .rename_i mv;split at e
       .rename_i m hmn;cases hc:(Nat.ble m len&&Nat.ble h m&&Nat.ble b h)with
        |false=>simp[hc]at e
        |true =>
         simp only[hc,ge]at e;simp only[aaV]at hc;have c1:=abh hc.1.1;have c2:=abh hc.1.2;have c3:=abh hc.2;have j:=iz (P:=P) (w:=w) (isS:=true) (len:=len) (cap:=cG l a cap sz) Q U J hmn F hb (acd c1 Y) c2 c3 hmh;have u:∀ q:Addr,(Instr.sliceAt ty (.slice (some q) len (cG l a cap sz)) lo' A mx').run P w=.ok (.slice (some (if m=b then q else q.add (b*sz))) (h - b) (m - b)) w:=by intro q;simp only[Instr.sliceAt,Instr.slice,abr,aE M,abm,j,cH G,afe];split<;>simp
         cases d:Nat.beq m b with
         |true =>
          simp only[d,ge]at e;cases hk:(cap.isSome||Nat.blt 0 len||Nat.beq z a.c)with
          |false=>simp[hk]at e
          |true =>
           simp only[hk,ge,abf]at e;subst e;obtain rfl:=aaO d;have H:bD l a z cap sz=a.c:=by
            simp only[ajm]at hk;rcases hk with(hk|hk)|hk
            .cases cap with
             |some c=>rfl
             |none=>cases hk
            .exact fV Y (pY hk)
            .obtain rfl:=aaO hk;cases cap with
             |some c=>rfl
             |none=>simp[bD]
           refine⟨_,dL W g3 g3 (by show h - m<=0;omega) O,?_⟩;rw[u,agC rfl,H];simp[bD,cG]
         |false =>
          simp only[d,SE,abf]at e;subst e;have I:¬ m=b:=λe=>by subst e;simp at d
          have H:bD l a z cap sz=a.c:=fV Y (by omega);refine⟨_,dL (l:=l) W (by show l.base<=a.c+b*sz;omega) (by show l.base<=a.c+b*sz;omega) (by show h - b<=m - b;omega) O,?_⟩;rw[u,afp I,H,kG];simp only[bD,cG,cq];rw[show a.c+b*sz - l.base=a.c - l.base+b*sz by omega]
       .cases e
     .cases e
   .cases e
  .cases e
 .cases e
theorem rx(h:HR ρ s w)(b:TR ρ t tm){ty:TypeId}{x:Operand}{lo hi mx:Option Operand}{nx:Nx}(e:bL s (tV P ty (eval t x) (mu t lo) (mu t hi) (mu t mx))=some nx) :
 BL P ρ w s nx ((do pure (Next.value (<- Instr.sliceAt ty (rv tm x) (lo.map (rv tm)) (hi.map (rv tm)) (mx.map (rv tm)))):Sem Next).run P w):=by
 refine be h e λv a=>?_;unfold tV at a;split at a
 .rename_i x' m;split at a
  .rename_i lo' d;split at a
   .rename_i hi' g;split at a
    .rename_i mx' j;exact El (aI b m) (pL b d) (pL b g) (pL b j) a
    .cases a
   .cases a
  .cases a
 .cases a
end ops
section ops
variable{P:Program}{ρ:aJ}{s:S}{w:World}{t:T V}{tm:Array Value}
def KY(ρ:aJ):List (Nat×V)->List (Nat×Value)->Prop
 |[],[]=>True
 |(i,v)::r,(j,y)::q=>i=j/\den ρ v=some y/\KY ρ r q
 |_,_=>False
theorem jD(b:TR ρ t tm):∀ {l:List (Nat×Operand)} {vs:List (Nat×V)},eG t l=some vs->KY ρ vs (l.map fun(i,x)=>(i,rv tm x))
 |[],vs,h=>by cases h;trivial
 |(i,x)::r,vs,h=>by
  simp only[eG]at h;cases a:eval t x with
  |none=>simp[a]at h
  |some v =>
   cases hr:eG t r with
   |none=>simp[a,hr]at h
   |some q =>simp only[a,hr]at h;cases h;exact⟨rfl,aI b a,jD b hr⟩
theorem Du(off:Nat):∀(vs:List Value) (k:Nat) (c:Array Value),off+k+vs.length<=c.size ->
 ((vs.zipIdx k).foldl (λcs x=>cs.setIfInBounds (off+x.2) x.1) c).size=c.size /\
 ∀ j,((vs.zipIdx k).foldl (λcs x=>cs.setIfInBounds (off+x.2) x.1) c)[j]? = if off+k<=j/\j<off+k+vs.length then vs[j - (off+k)]? else c[j]?
 |[],k,c,_=>⟨rfl,λj=>by rw[afp (by simp)];rfl⟩
 |v::r,k,c,h=>by
  simp only[aeg]at h;simp only[List.zipIdx_cons,akm];obtain⟨h1,h2⟩:=Du off r (k+1) (c.setIfInBounds (off+k) v) (by simp;omega)
  grind
theorem kj{placeV place:Nat->Option (Nat×Nat)}(hp:∀ i x,placeV i=some x->place i=some x):∀ {parts:List (Nat×V)} {parts':List (Nat×Value)} {cs out:List V} {ys:Array Value},
 KY ρ parts parts'->bg ρ cs=some ys.toList->rp placeV cs parts=some out->∃ zs:Array Value,Instr.fill place ys parts'=some zs/\bg ρ out=some zs.toList
 |[],[],cs,out,ys,_,A,h=>by cases h;exact⟨ys,rfl,A⟩
 |(i,v)::r,(j,y)::q,cs,out,ys,⟨F,M,hr⟩,A,h=>by
  subst F;simp only[rp]at h;split at h
  .cases h
  .rename_i off n G;cases hb:(Nat.beq v.cells.length n&&Nat.blt 0 n)with
   |false=>rw[hb]at h;cases h
   |true =>
    rw[hb]at h;simp only[ge]at h;simp only[aaV]at hb;obtain rfl:=aaO hb.1;have a:=pY hb.2;cases ho:cA cs off v.cells with
    |none=>simp[ho]at h
    |some cs' =>
     simp only[ho,akf]at h;obtain⟨O,B,Q⟩:=gM ho;have e:=ob M;have b:=bR A;rw[aiu]at b;have H:=eJ M;let g:Array Value:=(y.cells.toList.zipIdx 0).foldl (λcs x=>cs.setIfInBounds (off+x.2) x.1) ys
     have I:g=y.cells.zipIdx.foldl (λcs (c,j)=>cs.setIfInBounds (off+j) c) ys:=by show List.foldl _ _ _=_;rw[<- Array.foldl_toList,Array.toList_zipIdx]
     have hroom:off+0+y.cells.toList.length<=ys.size:=by
      rcases B with B|B
      .rw[B]at a;simp at a
      .rw[aiu];omega
     obtain⟨U,W⟩:=Du off y.cells.toList 0 ys hroom;have J:g.toList.length=ys.size:=(aiu (xs:=g)).trans U;have K:bg ρ cs'=some g.toList:=by
      refine lC (by rw[O,J,b]) λi x m=>?_;rw[Q i]at m;rw[afo,show g[i]? = _ from W i];have hyl:y.cells.toList.length=v.cells.length:=by rw[aiu,e]
      by_cases N:off<=i/\i<off+v.cells.length
      .rw[agC N]at m;rw[agC (by omega)];obtain⟨z,u,d⟩:=eK _ H m;exact⟨z,u,by simpa using d⟩
      .rw[afp N]at m;rw[afp (by omega)];obtain⟨z,u,d⟩:=eK _ A m;exact⟨z,u,by rw[<- d,afo]⟩
     obtain⟨zs,u,L⟩:=kj hp hr K h;refine⟨zs,?_,L⟩;simp only[Instr.fill,hp _ _ G];rw[aiu]at hroom;rw[afp (by simp[e];omega),<- I];exact u
 |[],_::_,_,_,_,h,_,_=>h.elim
 |_::_,[],_,_,_,h,_,_=>h.elim
theorem zI:∀ {fs:List Field},fs.all (λf=>(size P f.type).isSome)=true ->
 ∃ places,fs.mapM (λf=>(P.info? f.type).map λi=>(f.offset,i.size))=some places/\∀(i:Nat) (f:Field) (n:Nat),fs[i]? = some f->size P f.type=some n->places[i]? = some (f.offset,n)
 |[],_=>⟨[],rfl,λi f n h=>by simp at h⟩
 |f::r,h=>by
  simp only[akc,aaV]at h;obtain⟨q,a,h2⟩:=zI h.2;obtain⟨n,b⟩:=Option.isSome_iff_exists.1 h.1;obtain⟨i,hi,rfl⟩:=uB b;refine⟨(f.offset,i.size)::q,by simp[List.mapM_cons,hi,a],λj g m hj hm=>?_⟩
  grind
theorem BF{x:Option (List V)}{v:V}(h:IM x=some v):∃ l,x=some l/\v=.agg l:=by
 cases x with
 |none=>cases h
 |some l=>cases h;exact⟨l,rfl,rfl⟩
theorem rA(h:HR ρ s w)(G:TR ρ t tm){ty:TypeId}{parts:Array (Nat×Operand)}{nx:Nx}(e:bL s (qF P ty (eG t parts.toList))=some nx) :
 BL P ρ w s nx ((do pure (Next.value (<- Instr.build ty (parts.map fun(i,x)=>(i,rv tm x)))):Sem Next).run P w):=by
 refine be h e λv a=>?_;unfold qF at a;split at a
 .rename_i z H;obtain⟨zv,it,hi,j,q⟩:=fh H;have u:=eJ (q ρ);split at a
  .rename_i l hl;have hp:=jD G hl;have y:(parts.toList.map fun(i,x)=>(i,rv tm x))=(parts.map fun(i,x)=>(i,rv tm x)).toList:=by simp
   rw[y]at hp;split at a
   .rename_i fs A;cases B:fs.toList.all (λf=>(size P f.type).isSome)with
    |false=>rw[B]at a;cases a
    |true =>
     rw[B]at a;simp only[ge]at a;obtain⟨out,ho,rfl⟩:=BF a;obtain⟨places,I,J⟩:=zI B
     obtain⟨zs,d,g⟩:=kj (place:=(places.toArray[·]?)) (λi x b=>by
      unfold pJ at b;split at b
      .rename_i f K;split at b
       .rename_i n L;cases b;simpa using J i f n (by simpa using K) L
       .cases b
      .cases b) hp u ho
     refine⟨.agg zs,by simp only[den,g],run_build w ty _ zs ?_⟩;simp only[Program.built,hi,A,j,I,d]
   .rename_i n el A;split at a
    .rename_i m hm;obtain⟨ie,F,rfl⟩:=uB hm;obtain⟨out,ho,rfl⟩:=BF a;obtain⟨zs,d,g⟩:=kj (place:=λi=>some (i*ie.size,ie.size)) (λi x b=>b) hp u ho;refine⟨.agg zs,by simp only[den,g],run_build w ty _ zs ?_⟩;simp only[Program.built,hi,A,j,F,d]
    .cases a
   .cases a
  .cases a
 .cases a
theorem sq(h:HR ρ s w)(G:TR ρ t tm){ty:TypeId}{len:Nat}{parts:Array (Nat×Operand)}{nx:Nx}(e:cJ P s ty len (eG t parts.toList)=some nx) :
 IR P ρ w nx ((do pure (Next.value (<- Instr.buildSlice ty len (parts.map fun(i,x)=>(i,rv tm x)))):Sem Next).run P w):=by
 unfold cJ at e;split at e
 .rename_i el H;split at e
  .rename_i l hl;have hp:=jD G hl;have q:(parts.toList.map fun(i,x)=>(i,rv tm x))=(parts.map fun(i,x)=>(i,rv tm x)).toList:=by simp
   rw[q]at hp;split at e
   .rename_i z I;obtain⟨zv,it,hi,u,j⟩:=fh I;have m:=eJ (j ρ);split at e
    .rename_i n J;cases hb:(Nat.ble (len*n) 10000&&!(Nat.beq n 0)&&Nat.beq z.cells.length n)with
     |false=>rw[hb]at e;cases e
     |true =>
      rw[hb]at e;simp only[ge]at e;simp only[aaV]at hb;have b1:=abh hb.1.1;have F:0<n:=by
       rcases ajo n with h0|h0
       .subst h0;simp at hb
       .exact h0
      have b3:=aaO hb.2;unfold mf at e;split at e
      .rename_i cs y;have A:zv.cells.toList.length=n:=by have:=bR m;omega
       have hrow:=Bh zv.cells.toList n A F len;have K:bg ρ (List.replicate len z.cells).flatten=some ((List.replicate len zv.cells.toList).flatten.toArray).toList:=by simpa using hC m len
       obtain⟨zs,d,B⟩:=kj (place:=λi=>some (i*n,n)) (λi x L=>L) hp K y;have key:=tq (P:=P) h (elem:=el) B (len:=len) (sz:=n) (cap:=len) (aaW _) F;simp only[bA,bz]at e key;cases e;have hrow2:Array.map (λx=>zv.cells[x%zv.cells.size]!) (Array.range (len*n))=(List.replicate len zv.cells.toList).flatten.toArray:=by grind
       have b:(Instr.buildSlice ty len (parts.map fun(i,x)=>(i,rv tm x))).run P w=(do pure (.slice (some (<- newRow el zs)) len len):Sem Value).run P w:=by
        simp only[Instr.buildSlice,abr,aE H,abm,cH J];rw[afp (by omega)];by_cases a:len*n=0
        .rw[agC a];have g:∀ f:Nat->Value,Array.map f (Array.range 0)=#[]:=λf=>by simp
         rw[<- hrow2,a,g]at d;simp only[abr,afe,abm,a,g,d]
        .rw[afp a];simp only[abr,gh hi u,abm,afe,hrow2,d]
       simp only[abr]at b key ⊢;rw[b];simpa[newRow]using key
      .cases e
    .cases e
   .cases e
  .cases e
 .cases e
end ops
section ops
variable{P:Program}{ρ:aJ}{s:S}{w:World}{t:T V}{tm:Array Value}
theorem mX{r:Nat}{es:Array MapEntry}{c:Nat}(h:w.heap[r]? = some (.map es c)):(getObj r).run P w=.ok (.map es c) w:=by simp only[getObj,Sem.run,h]
theorem yN{r:Nat}{es:Array MapEntry}{c:Nat}(h:w.heap[r]? = some (.map es c))(o:Obj):(setObj r o).run P w=.ok () { w with heap:=w.heap.setIfInBounds r o }:=by simp only[setObj,Sem.run,h]
theorem ym(w:World)(r:Nat)(o:Obj):XY w { w with heap:=w.heap.setIfInBounds r o } r :=
 ⟨by simp,rfl,rfl,rfl,λk hk=>by simp[aks hk]⟩
theorem GJ{r:Nat}{o':Obj}(h:w.heap[r]? = some o')(o:Obj):({ w with heap:=w.heap.setIfInBounds r o }:World).heap[r]? = some o:=by grind
theorem kR{kt:TypeId}(h:ez P kt=true):∃ d,P.underlying kt=some d/\((∃ k,d=.int k)\/d=.string\/d=.bool\/∃ e,d=.pointer e):=by grind [ez]
theorem jt{kt:TypeId}(h:ez P kt=true)(b:Bool)(K:Value):(Instr.checkKey b 10000 kt K).run P w=.ok () w:=by obtain⟨d,a,g⟩:=kR h;show(Instr.checkKey b (9999+1) kt K).run P w=_;rw[Instr.checkKey];simp only[abr,aE a,abm];rcases g with⟨k,rfl⟩|rfl|rfl|⟨e,rfl⟩<;>rfl
structure WA(P:Program)(ρ:aJ)(w:World)(kt:TypeId)(eq:V->V->Option Bool)(k:V)(K:Value):Prop where
 ask:∀ key y r,eq k key=some r->den ρ key=some y->(Op.equal kt K y).run P w=.ok r w
 same:∀ key y,eq k key=some true->den ρ key=some y->y=K
 now:∀ d,P.underlying kt=some d->(∀ key y r,eq k key=some r->den ρ key=some y->Instr.sameNow d K y=some r)\/(∀ y,Instr.sameNow d K y=none)
 bits:∀ n,Instr.sameBits (n+1) K K=true
theorem yE:∀ {a b:List Nat},ma a b=some true->a=b
 |[],[],_=>rfl
 |[],_::_,h=>by cases h
 |_::_,[],h=>by cases h
 |a::x,b::y,h=>by
  simp only[ma]at h;cases hb:Nat.beq a b with
  |true=>rw[hb]at h;rw[aaO hb,yE h]
  |false =>grind
theorem SK(a b:ByteArray):(a==b)=(a.data==b.data):=by cases a;cases b;rfl
theorem KQ(a b:List Nat):(aK a==aK b)=((aK a).toList==(aK b).toList):=by rw[SK,cu,cu];show((a.map UInt8.ofNat).toArray==(b.map UInt8.ofNat).toArray)=_;simp
theorem uj(a:ByteArray):(a==a)=true:=by rw[SK];simp
theorem Wa(h:HR ρ s w){kt:TypeId}(L:ez P kt=true){k:V}{K:Value}(hk:den ρ k=some K){e0:qT}{M:Bool}(h0:dq P (bU s) 20 kt k e0.key=some M) :
 WA P ρ w kt (dq P (bU s) 20 kt) k K:=by
 obtain⟨d,A,I⟩:=kR L
 have key:∀ key,dq P (bU s) 20 kt k key≠none->(∃ a b i j,k=.int i a/\key=.int j b/\∃ F,d=.int F)\/(∃ a b,k=.str a/\key=.str b/\d=.string)\/(∃ a b,k=.bool a/\key=.bool b/\d=.bool) \/
  ((∃ e,d=.pointer e)/\((k=.nilptr/\key=.nilptr)\/(∃ a,k=.nilptr/\key=.ptr a)\/(∃ a,k=.ptr a/\key=.nilptr)\/(∃ a b,k=.ptr a/\key=.ptr b))):=by
  intro key q;rcases I with⟨F,rfl⟩|rfl|rfl|⟨e,rfl⟩<;>unfold dq at q<;>simp only[A]at q
  .cases k<;>cases key<;>simp at q ⊢
  .cases k<;>cases key<;>simp at q ⊢
  .cases k<;>cases key<;>simp at q ⊢
  .cases k<;>cases key<;>simp at q ⊢
 refine⟨λkey' y r g hy=>wO h 20 kt k key' r K y 10000 g hk hy (by omega),λkey' y g hy=>?_,λd' B=>?_,λn=>?_⟩
 .have m:=g;rcases key key' (by rw[m];simp)with⟨a,b,i,j,rfl,rfl,F,rfl⟩|⟨a,b,rfl,rfl,rfl⟩|⟨a,b,rfl,rfl,rfl⟩|⟨⟨e,rfl⟩,⟨rfl,rfl⟩|⟨a,rfl,rfl⟩|⟨a,rfl,rfl⟩|⟨a,b,rfl,rfl⟩⟩<;>unfold dq at g<;>simp only[A]at g
  . 
   cases z:dy i j with
   |false=>rw[z]at g;cases g
   |true =>rw[z]at g;obtain rfl:i=j:=agj z;simp at g;cases hk;cases hy;rw[g]
  .rw[yE g]at hk;rw[hk]at hy;exact(agn hy).symm
  .simp at g;subst g;rw[hk]at hy;exact(agn hy).symm
  .rw[hk]at hy;exact(agn hy).symm
  .simp at g
  .simp at g
  .split at g
   .rename_i n hn;cases J:Nat.beq n 0 with
    |true=>rw[J]at g;cases g
    |false =>
     rw[J]at g;simp only[SE,LQ]at g;cases hp:(bU s a&&bU s b)with
     |false=>rw[hp]at g;cases g
     |true =>
     rw[hp]at g;simp only[ge]at g;cases G:Nat.beq a.f b.f with
     |false=>simp[G]at g
     |true =>
      cases H:Nat.beq a.v b.v with
      |false=>simp[G,H]at g
      |true =>
       simp[G,H]at g;have e1:=aaO G;have e2:=aaO H;have:a=b:=by cases a;cases b;simp_all
       subst this;rw[hk]at hy;exact(agn hy).symm
   .cases g
 .rw[A]at B;cases B;rcases I with⟨F,rfl⟩|rfl|rfl|⟨e,rfl⟩
  .left;intro key' y r g hy;have m:=g;unfold dq at g;simp only[A]at g;rcases key key' (by rw[m];simp)with⟨a,b,i,j,rfl,rfl,_,_⟩|⟨a,b,rfl,rfl,u⟩|⟨a,b,rfl,rfl,u⟩|⟨⟨e,u⟩,_⟩<;>try(cases u;done)
   simp only at g;cases z:dy i j with
   |false=>rw[z]at g;cases g
   |true =>rw[z]at g;obtain rfl:i=j:=agj z;cases hk;cases hy;simpa[Instr.sameNow]using g
  .left;intro key' y r g hy;have m:=g;unfold dq at g;simp only[A]at g;rcases key key' (by rw[m];simp)with⟨a,b,i,j,rfl,rfl,_,u⟩|⟨a,b,rfl,rfl,_⟩|⟨a,b,rfl,rfl,u⟩|⟨⟨e,u⟩,_⟩<;>try(cases u;done)
   simp only at g;cases hk;cases hy;simp only[Instr.sameNow,KQ,mQ g]
  .left;intro key' y r g hy;have m:=g;unfold dq at g;simp only[A]at g;rcases key key' (by rw[m];simp)with⟨a,b,i,j,rfl,rfl,_,u⟩|⟨a,b,rfl,rfl,u⟩|⟨a,b,rfl,rfl,_⟩|⟨⟨e,u⟩,_⟩<;>try(cases u;done)
   simp only at g;cases hk;cases hy;simpa[Instr.sameNow]using g
  .right;intro y;cases K<;>cases y<;>rfl
 .rcases key e0.key (by rw[h0];simp)with⟨a,b,i,j,rfl,_⟩|⟨a,b,rfl,_⟩|⟨a,b,rfl,_⟩|⟨_,⟨rfl,_⟩|⟨a,rfl,_⟩|⟨a,rfl,_⟩|⟨a,b,rfl,_⟩⟩
  .cases hk;simp[Instr.sameBits,uj]
  .cases hk;simp[Instr.sameBits,uj]
  .cases hk;simp[Instr.sameBits,uj]
  .cases hk;simp[Instr.sameBits,uj]
  .cases hk;simp[Instr.sameBits,uj]
  .simp only[den]at hk;split at hk<;>cases hk;simp[Instr.sameBits]
  .simp only[den]at hk;split at hk<;>cases hk;simp[Instr.sameBits]
def Ts(ρ:aJ)(eq:V->V->Option Bool)(k:V)(y:Value)(r:Bool):Prop:=∃ key,den ρ key=some y/\eq k key=some r
theorem Dz{eq:V->V->Option Bool}{k:V}:∀ {es:List qT} {rs:List MapEntry},gm ρ es rs->cC eq k es=some none->∀ e∈rs,Ts ρ eq k e.key false
 |[],[],_,_,e,d=>by cases d
 |a::es,b::rs,⟨j,m⟩,h,e,d=>by
  simp only[cC]at h;cases g:eq k a.key with
  |none=>simp[g,cC.foundKey]at h
  |some q =>
   cases q with
   |true=>simp[g,cC.foundKey]at h
   |false =>
    simp only[g,cC.foundKey]at h;rcases abn.1 d with rfl|d
    .exact⟨a.key,j.1,g⟩
    .exact Dz m h e d
 |[],_::_,h,_,_,_=>h.elim
 |_::_,[],h,_,_,_=>h.elim
theorem HI{eq:V->V->Option Bool}{k v:V}:∀ {es:List qT} {rs:List MapEntry},gm ρ es rs->cC eq k es=some (some v) ->
 ∃ pre e post,rs=pre++e::post/\(∀ m∈pre,Ts ρ eq k m.key false)/\Ts ρ eq k e.key true/\den ρ v=some e.val
 |[],[],_,h=>by simp[cC]at h
 |a::es,b::rs,⟨j,n⟩,h=>by
  simp only[cC]at h;cases d:eq k a.key with
  |none=>simp[d,cC.foundKey]at h
  |some q =>
   cases q with
   |true =>simp only[d,cC.foundKey,abf]at h;subst h;exact⟨[],b,rs,rfl,(λ_ g=>by cases g),⟨a.key,j.1,d⟩,j.2.1⟩
   |false =>
    simp only[d,cC.foundKey]at h;obtain⟨pre,e,post,rfl,g1,u,y⟩:=HI n h;refine⟨b::pre,e,post,rfl,λm g=>?_,u,y⟩;rcases abn.1 g with rfl|g
    .exact⟨a.key,j.1,d⟩
    grind
 |[],_::_,h,_=>h.elim
 |_::_,[],h,_=>h.elim
theorem Gt{eq:V->V->Option Bool}{k x:V}:∀ {es:List qT} {rs:List MapEntry},gm ρ es rs->dp eq k x es=some none->∀ e∈rs,Ts ρ eq k e.key false
 |[],[],_,_,e,d=>by cases d
 |a::es,b::rs,⟨m,n⟩,h,e,d=>by
  simp only[dp]at h;cases g:eq k a.key with
  |none=>simp[g,dp.setKey]at h
  |some q =>
   cases q with
   |true=>simp[g,dp.setKey]at h
   |false =>
    simp only[g,dp.setKey]at h;cases j:dp eq k x es with
    |none=>simp[j]at h
    |some u =>
     cases u with
     |some l=>simp[j]at h
     |none =>
      rcases abn.1 d with rfl|d
      .exact⟨a.key,m.1,g⟩
      .exact Gt n j e d
 |[],_::_,h,_,_,_=>h.elim
 |_::_,[],h,_,_,_=>h.elim
theorem Lm{eq:V->V->Option Bool}{k x:V}{K X:Value}(hk:den ρ k=some K)(n:den ρ x=some X):∀ {es es':List qT} {rs:List MapEntry},gm ρ es rs->dp eq k x es=some (some es') ->
 ∃ pre e post,rs=pre++e::post/\(∀ y∈pre,Ts ρ eq k y.key false)/\Ts ρ eq k e.key true/\gm ρ es' (pre++{ e with key:=K,val:=X }::post)
 |[],_,[],_,h=>by simp[dp]at h
 |a::es,es',b::rs,⟨g,z⟩,h=>by
  simp only[dp]at h;cases d:eq k a.key with
  |none=>simp[d,dp.setKey]at h
  |some q =>
   cases q with
   |true =>simp only[d,dp.setKey,abf]at h;subst h;exact⟨[],b,rs,rfl,(λ_ j=>by cases j),⟨a.key,g.1,d⟩,⟨hk,n,g.2.2⟩,z⟩
   |false =>
    simp only[d,dp.setKey]at h;cases m:dp eq k x es with
    |none=>simp[m]at h
    |some u =>
     cases u with
     |none=>simp[m]at h
     |some l =>
      simp only[m,abf]at h;subst h;obtain⟨pre,e,post,rfl,g1,A,B⟩:=Lm hk n z m;refine⟨b::pre,e,post,rfl,λy j=>?_,A,g,B⟩;rcases abn.1 j with rfl|j
      .exact⟨a.key,g.1,d⟩
      grind
 |[],_,_::_,h,_=>h.elim
 |_::_,_,[],h,_=>h.elim
theorem Hc{d:TypeDesc}{K:Value}:∀ {rs:List MapEntry} (i:Nat),(∀ e∈rs,Instr.sameNow d K e.key=some false)->Instr.findNow d K rs i=some none
 |[],_,_=>rfl
 |e::rs,i,h=>by rw[Instr.findNow,h e (by simp)];exact Hc (i+1) λa b=>h a (by simp[b])
theorem Mf{d:TypeDesc}{K:Value}{e:MapEntry}{post:List MapEntry}(b:Instr.sameNow d K e.key=some true):∀ {pre:List MapEntry} (i:Nat),(∀ e∈pre,Instr.sameNow d K e.key=some false)->Instr.findNow d K (pre++e::post) i=some (some (i+pre.length,e.val))
 |[],i,_=>by simp[Instr.findNow,b]
 |a::pre,i,h=>by
  rw[agp,Instr.findNow,h a (by simp)];have:=Mf (post:=post) b (pre:=pre) (i+1) λg j=>h g (by simp[j])
  grind
theorem ID{kt:TypeId}{K:Value}:∀ {rs:List MapEntry} (i:Nat),(∀ e∈rs,(Op.equal kt K e.key).run P w=.ok false w)->(Instr.findAsking kt K rs i).run P w=.ok none w
 |[],_,_=>by simp[Instr.findAsking]
 |e::rs,i,h=>by simp only[Instr.findAsking,abr,h e (by simp),abm,aiW,akp];exact ID (i+1) λa b=>h a (by simp[b])
theorem Nn{kt:TypeId}{K:Value}{e:MapEntry}{post:List MapEntry}(b:(Op.equal kt K e.key).run P w=.ok true w):∀ {pre:List MapEntry} (i:Nat),(∀ e∈pre,(Op.equal kt K e.key).run P w=.ok false w)->(Instr.findAsking kt K (pre++e::post) i).run P w=.ok (some (i+pre.length,e.val)) w
 |[],i,_=>by simp[Instr.findAsking,b]
 |a::pre,i,h=>by
  simp only[agp,Instr.findAsking,abr,h a (by simp),abm,aiW,akp];have:=Nn (post:=post) b (pre:=pre) (i+1) λd g=>h d (by simp[g])
  grind
theorem GL{kt:TypeId}{d:TypeDesc}(a:P.underlying kt=some d){eq:V->V->Option Bool}{k:V}{K:Value}{rs:List MapEntry}(A:rs≠[]->WA P ρ w kt eq k K)(h:∀ e∈rs,Ts ρ eq k e.key false) :
 (Instr.findKey kt K rs).run P w=.ok none w:=by
 by_cases b:rs=[]
 .subst b;simp[Instr.findKey,aE a,Instr.findNow]
 .replace A:=A b;simp only[Instr.findKey,abr,aE a,abm];rcases A.now d a with g|g
  .rw[Hc 0 λe j=>by obtain⟨key,m,n⟩:=h e j;exact g _ _ _ n m];rfl
  .cases rs with
   |nil=>exact absurd rfl b
   |cons e rs =>rw[Instr.findNow,g];exact ID 0 λq j=>by obtain⟨key,m,n⟩:=h q j;exact A.ask _ _ _ n m
theorem LB{kt:TypeId}{d:TypeDesc}(n:P.underlying kt=some d){eq:V->V->Option Bool}{k:V}{K:Value}{pre post:List MapEntry}{e:MapEntry}(A:WA P ρ w kt eq k K)(h:∀ e∈pre,Ts ρ eq k e.key false)(a:Ts ρ eq k e.key true) :
 (Instr.findKey kt K (pre++e::post)).run P w=.ok (some (pre.length,e.val)) w:=by
 simp only[Instr.findKey,abr,aE n,abm];obtain⟨key,q,u⟩:=a;rcases A.now d n with g|g
 .rw[Mf (g _ _ _ u q) 0 λe b=>by obtain⟨key,a,j⟩:=h e b;exact g _ _ _ j a];simp
 .have m:Instr.findNow d K (pre++e::post) 0=none:=by cases pre<;>(simp only[afn,agp];rw[Instr.findNow,g])
  rw[m];have:=Nn (P:=P) (w:=w) (post:=post) (A.ask _ _ _ u q) 0 λe b=>by obtain⟨key,a,j⟩:=h e b;exact A.ask _ _ _ j a
  simpa using this
theorem qJ(h:HR ρ s w){kt:TypeId}(a:ez P kt=true){k:V}{K:Value}(hk:den ρ k=some K){y:Value}{r:Bool}(b:Ts ρ (dq P (bU s) 20 kt) k y r) :
 WA P ρ w kt (dq P (bU s) 20 kt) k K:=by
 obtain⟨key,_,d⟩:=b;exact Wa h a hk (e0:=⟨key,key,0⟩) d
theorem EU{r:Nat}{y:Value}(h:den ρ (.map r)=some y):∃ l,ρ r 0=some l/\y=.map (some l.b):=by grind [den]
theorem pS(h:HR ρ s w)(J:TR ρ t tm){ty:TypeId}{x k:Operand}{ok:Bool}{nx:Nx}(e:bL s (ku P s ty (eval t x) (eval t k) ok)=some nx) :
 BL P ρ w s nx ((do pure (Next.value (<- Instr.lookup ty (rv tm x) (rv tm k) ok)):Sem Next).run P w):=by
 refine be h e λv a=>?_;unfold ku at a;split at a
 .rename_i kt el L;split at a
  .rename_i m hm;split at a
   .rename_i k' hk;have dm:=aI J hm;have dk:=aI J hk;generalize rv tm x=X at *;generalize rv tm k=K at *;split at a
    .rename_i es b;cases n:ez P kt with
     |false=>rw[n]at a;cases a
     |true =>
      rw[n]at a;simp only[ge]at a;obtain⟨d,M,_⟩:=kR n
      have O:∃(rs:Array MapEntry),gm ρ es rs.toList/\∀(o:Option (Nat×Value)),(Instr.findKey kt K rs.toList).run P w=.ok o w ->
       (Instr.lookup ty X K ok).run P w=match o with
        |some (_,v)=>.ok (if ok then .tuple #[v,.bool true] else v) w
        |none=>((zeroValue el).run P w).andThen λv w=>.ok (if ok then .tuple #[v,.bool false] else v) w:=by
       unfold AX at b;split at b
       .cases b;cases dm;refine⟨#[],trivial,λo ho=>?_⟩;simp only[Instr.lookup,abr,aE L,abm,afe,jt n,ho];cases o with
        |none=>simp only[abr,afe];cases (zeroValue el).run P w<;>rfl
        |some o=>rfl
       .rename_i r;split at b
        .rename_i es' clock Q;cases b;obtain⟨l,hl,rfl⟩:=EU dm;obtain⟨l',rs,y,F,B⟩:=h.blk _ _ Q;rw[hl]at y;cases y;refine⟨rs,B,λo ho=>?_⟩;simp only[Instr.lookup,abr,aE L,abm,mX F,afe,jt n,ho];cases o with
         |none=>simp only[abr,afe];cases (zeroValue el).run P w<;>rfl
         |some o=>rfl
        .cases b
       .cases b
      obtain⟨rs,q,g⟩:=O;unfold MG at a;split at a
      .rename_i u G;cases a;obtain⟨pre,e,post,y,F,B,N⟩:=HI q G;have A:=qJ h n dk B;have:=g _ (by rw[y];exact LB M A F B);refine⟨_,?_,this⟩;cases ok
       .exact N
       .simp only[ge,ajY,den,bg,N]
      .rename_i G;have hm:=Dz q G
       have:=g none (GL M (λH=>by
        cases hr:rs.toList with
        |nil=>exact absurd hr H
        |cons e r=>exact qJ h n dk (hm e (by rw[hr];simp))) hm)
       split at a
       .rename_i z U;cases a;obtain⟨zv,it,hi,I,j⟩:=fh U;simp only[gh hi I,abm]at this;refine⟨_,?_,this⟩;cases ok
        .exact j ρ
        .simp only[ge,ajY,den,bg,j ρ]
       .cases a
      .cases a
    .cases a
   .cases a
  .cases a
 .cases a
theorem NI(K old:Value)(a:old=K)(hb:∀ n,Instr.sameBits (n+1) K K=true):(Instr.keyThatStays old K).run P w=.ok K w:=by subst a;have:=hb 9999;simp only[Instr.keyThatStays];simp_all
theorem gm.length:∀ {es:List qT} {rs:List MapEntry},gm ρ es rs->es.length=rs.length
 |[],[],_=>rfl
 |_::_,_::_,⟨_,h⟩=>by simp[gm.length h]
 |[],_::_,h=>h.elim
 |_::_,[],h=>h.elim
theorem gm.snoc{k x:V}{K X:Value}{c:Nat}(hk:den ρ k=some K)(a:den ρ x=some X):∀ {es:List qT} {rs:List MapEntry},gm ρ es rs->gm ρ (es++[⟨k,x,c⟩]) (rs++[⟨K,X,c⟩])
 |[],[],_=>⟨⟨hk,a,rfl⟩,trivial⟩
 |_::_,_::_,⟨b,d⟩=>⟨b,gm.snoc hk a d⟩
 |[],_::_,h=>h.elim
 |_::_,[],h=>h.elim
theorem JT(pre post:List MapEntry)(e:MapEntry)(f:MapEntry->MapEntry):(pre++e::post).modify pre.length f=pre++f e::post:=by
 induction pre with
 |nil=>simp
 |cons a pre ih=>simpa using ih
theorem lz(h:HR ρ s w)(q:TR ρ t tm){ty:TypeId}{m k x:Operand}{nx:Nx}(e:fK P s ty (eval t m) (eval t k) (eval t x)=some nx) :
 IR P ρ w nx ((do Instr.mapUpdate ty (rv tm m) (rv tm k) (rv tm x);pure Next.skip:Sem Next).run P w):=by
 unfold fK at e;split at e
 .rename_i r hm;split at e
  .rename_i Q hk;split at e
   .rename_i U W;have dm:=aI q hm;have dk:=aI q hk;have dx:=aI q W;generalize rv tm m=M at *;generalize rv tm k=K at *;generalize rv tm x=X at *;split at e
    .rename_i kt el L;split at e
     .rename_i es clock u;cases g:ez P kt with
      |false=>rw[g]at e;cases e
      |true =>
       rw[g]at e;simp only[ge]at e;obtain⟨d,N,_⟩:=kR g;obtain⟨l,hl,rfl⟩:=EU dm;obtain⟨l',rs,O,j,y⟩:=h.blk _ _ u;rw[hl]at O;cases O;unfold xB at e;split at e
       .rename_i es' z;cases e;obtain⟨pre,e,post,B,Y,F,Z⟩:=Lm dk dx y z;have A:=qJ h g dk F;have hsame:e.key=K:=by obtain⟨key,k1,k2⟩:=F;exact A.same _ _ k2 k1
        have hfind:(Instr.findKey kt K rs.toList).run P w=.ok (some (pre.length,e.val)) w:=by rw[B];exact LB N A Y F
        have G:rs[pre.length]? = some e:=by rw[<- afo,B];simp
        have hst:=NI (P:=P) (w:=w) K e.key hsame A.bits;have n:(rs.modify pre.length λe=>{ e with key:=K,val:=X }).toList=pre++{ e with key:=K,val:=X }::post:=by rw[Array.toList_modify,B,JT]
        have a:(Instr.mapUpdate ty (.map (some l.b)) K X).run P w=.ok () { w with heap:=w.heap.setIfInBounds l.b (.map (rs.modify pre.length λe=>{ e with key:=K,val:=X }) clock) }:=by simp only[Instr.mapUpdate,abr,aE L,abm,mX j,jt g,hfind,G,aiB,ajv,hst,yN j]
        obtain⟨H,I⟩:=h.turn hl u (λ_ h=>by cases h) (ym w l.b _) (.map es' clock) ⟨l,_,hl,GJ j _,by rw[n];exact Z⟩;exact⟨ρ,_,by simp only[abr,a,abm,afe],H,I⟩
       .rename_i z;cases e;have hmiss:=Gt y z
        have hfind:(Instr.findKey kt K rs.toList).run P w=.ok none w:=GL N (λJ=>by
         cases hr:rs.toList with
         |nil=>exact absurd hr J
         |cons e r=>exact qJ h g dk (hmiss e (by rw[hr];simp))) hmiss
        have a:(Instr.mapUpdate ty (.map (some l.b)) K X).run P w=.ok () { w with heap:=w.heap.setIfInBounds l.b (.map (rs.push { key:=K,val:=X,born:=clock }) (clock+1)) }:=by simp only[Instr.mapUpdate,abr,aE L,abm,mX j,jt g,hfind,yN j]
        obtain⟨H,I⟩:=h.turn hl u (λ_ h=>by cases h) (ym w l.b _) (.map (es++[⟨Q,U,clock⟩]) (clock+1)) ⟨l,_,hl,GJ j _,by rw[Array.toList_push];exact gm.snoc dk dx y⟩;exact⟨ρ,_,by simp only[abr,a,abm,afe],H,I⟩
       .cases e
     .cases e
    .cases e
   .cases e
  .cases e
 .cases e
end ops
section ops
variable{P:Program}{ρ:aJ}{s:S}{w:World}{t:T V}{tm:Array Value}
theorem eR(l:List Nat):(aK l).size=l.length:=by simp[aK,ByteArray.size]
theorem vE(l:List Nat):bg ρ (l.map pX)=some ((aK l).data.toList.map λb=>Value.int .u8 b.toNat):=by
 have:(aK l).data.toList=l.map UInt8.ofNat:=by simp[aK]
 rw[this];induction l with
 |nil=>rfl
 |cons c l ih =>have ih':=ih (by simp[aK]);refine bp.2 ⟨_,_,rfl,ih',?_⟩;simp[UInt8.toNat_ofNat'];rfl
theorem rB:∀ {cs:List V} {l:List Nat},mG cs=some l->bg ρ cs=some ((l.map Int.ofNat).map (Value.int .u8))
 |[],l,h=>by cases h;rfl
 |v::r,l,h=>by
  unfold mG at h;split at h
  .cases ‹v::r=[]›
  .rename_i n r' a;cases a;cases hb:mG r with
   |none=>simp[hb]at h
   |some q =>simp[hb]at h;subst h;exact bp.2 ⟨_,_,rfl,rB hb,rfl⟩
  .cases h
theorem GS:∀(l:List Nat) (r:ByteArray),(l.map Int.ofNat).foldl (λr n=>r.push (UInt8.ofNat n.toNat)) r=⟨r.data++(l.map UInt8.ofNat).toArray⟩
 |[],r=>by simp
 |c::l,r=>by simp_all[GS]
theorem jB{el:TypeId}(h:gQ P el=true):P.underlying el=some (.int .u8):=by grind [gQ]
theorem tD{a:Ad}{n:Nat}{l:List V}(h:HR ρ s w)(e:loadCells s a n=some l):∃ lo ys,ρ a.f a.v=some lo/\lo.base<=a.c/\bg ρ l=some ys/\ys.length=n /\
 (Go.loadCells ⟨lo.b,a.c - lo.base,none⟩ n).run P w=.ok ys.toArray w:=by
 obtain⟨ad,ys,g,j,d,m⟩:=jk h e;obtain⟨lo,q,u,rfl⟩:=uc g;have:=ajp (P:=P) (w:=w) _ ys m;rw[d]at this;exact⟨lo,ys,q,u,j,d,this⟩
theorem vU(h:HR ρ s w){d dst:TypeId}{ds:TypeDesc}(u:P.underlying d=some ds)(A:P.underlying dst=some .string){x:V}{X:Value}(B:den ρ x=some X){v:V}{s':S}(e:CG P s ds x=some (v,s')) :
 s'=s/\∃ y,den ρ v=some y/\(convert d dst X).run P w=.ok y w:=by
 unfold CG at e;split at e
 .rename_i k n;cases e;cases B;refine⟨rfl,.string (Utf8.encode n),?_,?_⟩
  .simp only[den];rw[wS]
  .cases ds<;>simp[convert,aE u,aE A,Conv.intToString]
 .cases e;cases B;refine⟨rfl,_,rfl,?_⟩;cases ds<;>simp[convert,aE u,aE A]
 .split at e
  .rename_i el;cases hb:gQ P el with
   |false=>rw[hb]at e;cases e
   |true =>rw[hb]at e;cases e;cases B;refine⟨rfl,.string .empty,rfl,?_⟩;simp[convert,aE u,aE A,aE (jB hb),Conv.bytesToString]
  .cases e
 .rename_i a z n cap sz;split at e
  .rename_i el;cases hb:gQ P el with
   |false=>rw[hb]at e;cases e
   |true =>
    rw[hb]at e;simp only[ge]at e;cases g:Nat.beq sz 0 with
    |true=>rw[g]at e;cases e
    |false =>
    rw[g]at e;simp only[SE]at e;split at e
    .rename_i l hl;cases e;obtain⟨lo,G,g2,g3,g4,g5,rfl⟩:=iy B (.inl (QH g));cases m:loadCells s a n with
     |none=>simp[m]at hl
     |some cs =>
      simp only[m,akf]at hl;obtain⟨lo',ys,F,k2,H,I,k5⟩:=tD (P:=P) h m;rw[G]at F;cases F;have q:=rB (ρ:=ρ) hl;rw[H]at q;cases q;have hload:(Go.loadCells ⟨lo.b,bD lo a z cap sz - lo.base,none⟩ n).run P w=.ok ((l.map Int.ofNat).map (Value.int .u8)).toArray w:=by
       rcases ajo n with h0|h0
       .subst h0;have:l=[]:=by simpa using I
        subst this;exact ajp (P:=P) (w:=w) _ [] (λj v h=>by simp at h)
       grind [fV]
      refine⟨rfl,.string (aK l),rfl,?_⟩;rw[run_convert_bytes_string w d dst el _ _ _ u (jB hb) A,run_bytesToString w _ _ _ _ hload,GS];congr 2;apply ByteArray.ext;simp[aK]
    .cases e
  .cases e
 .cases e
theorem BT(h:HR ρ s w){g dst el:TypeId}{ds:TypeDesc}(n:P.underlying g=some ds)(q:P.underlying dst=some (.slice el)){x:V}{X:Value}(u:den ρ x=some X){v:V}{s':S}(e:qj P s ds el x=some (v,s')) :
 ∃ ρ' y w',(convert g dst X).run P w=.ok y w'/\den ρ' v=some y/\HR ρ' s' w'/\FR ρ w ρ' w':=by
 unfold qj at e;split at e
 .rename_i l;split at e
  .cases hb:gQ P el with
   |false=>rw[hb]at e;cases e
   |true =>
    rw[hb]at e;simp only[ge]at e;simp only[bz]at e;cases e;cases u;have b:=run_bytes_of_string w g dst el (aK l) n q (jB hb);rw[eR]at b;have j:=akj w l.length 0 el;generalize hc:grownCap w l.length 0 el=cap at *;have d:(bytesRow (aK l) cap).size=cap:=by simp only[bytesRow,ajU,Array.size_map,Array.size_replicate,eR];simp_all[eR]
    rw[d]at b;have m:bg ρ (l.map pX)=some ((bytesRow (aK l) cap).toList.take (l.map pX).length):=by
     rw[vE];have:(aK l).data.toList.length=l.length:=by simp[aK]
     simp[bytesRow,this]
    obtain⟨ρ',A,B,F⟩:=gP (h.drawn (w.drawn+1)) true el el (cs:=l.map pX) (ys:=bytesRow (aK l) cap) m (cap,cap+1) ⟨(λh=>by cases h),λi hi=>by rw[d]at hi;simp;omega⟩;refine⟨ρ',_,_,b,?_,B,(FR.drawn w (w.drawn+1)).trans F⟩;have:=dL (a:=⟨s.next,0,0⟩) (z:=0) (len:=l.length) (cap:=none) (sz:=1) A (by simp) (ajg _) (by show l.length<=(Array.size _ - 0) / 1;rw[d];simpa using j) Nat.one_pos;rw[this];simp only[cG,bD,d];simp
  .cases e
 .cases e
theorem FE(h:HR ρ s w)(u:TR ρ t tm){a dst:TypeId}{x:Operand}{nx:Nx}(e:gZ P s a dst (eval t x)=some nx) :
 IR P ρ w nx ((do pure (Next.value (<- convert a dst (rv tm x))):Sem Next).run P w):=by
 unfold gZ at e;split at e
 .rename_i v z;have dv:=aI u z;generalize rv tm x=X at *;unfold jj at e;split at e
  .rename_i y s' hc;cases e;unfold kz at hc;split at hc
   .rename_i ds d;split at hc
    .rename_i k b;split at hc
     .rename_i j n;cases hc;cases dv;refine⟨ρ,.int k (k.wrap n),w,?_,by rw[cr];rfl,h,FR.refl ρ w⟩;have:(convert a dst (.int j n)).run P w=.ok (.int k (k.wrap n)) w:=by cases ds<;>simp[convert,aE d,aE b,Conv.intToInt]
      simp[this]
     .cases hc
    .rename_i b;obtain⟨rfl,g,m,q⟩:=vU h d b dv hc;exact⟨ρ,g,w,by simp[q],m,h,FR.refl ρ w⟩
    .rename_i el b;obtain⟨ρ',g,w',m,q,A,B⟩:=BT h d b dv hc;exact⟨ρ',g,w',by simp[m],q,A,B⟩
    .cases hc
   .cases hc
  .cases e
 .cases e
end ops
section ops
variable{P:Program}{ρ:aJ}{s:S}{w:World}{t:T V}{tm:Array Value}
theorem JN{t:TypeId}(h:Hd P t=true):∃ d,P.underlying t=some d/\∀ k,d≠.int k:=by grind [Hd]
theorem je{ts:Array TypeId}{ty sT xT elem:TypeId}{d:TypeDesc}{n sz sLen sCap:Nat}{base:Option Addr}{Y:Value}(h0:ts[0]? = some sT)(b:ts[1]? = some xT)
 (e:P.underlying sT=some (.slice elem)) (g:P.underlying xT=some d) (h:∀ k,d≠.int k) (j:size P elem=some sz) (hl:(Builtin.lenOf Y).run P w=.ok n w)
 (hroom:sLen+n<=sCap) {news:Array Value} (m:(Builtin.firstCells sz n Y).run P w=.ok news w) :
 (Builtin.append_ ts ty #[.slice base sLen sCap,Y]).run P w=(match base with
  |some a=>((Go.storeCells (a.add (sLen*sz)) news.toList).run P w).andThen λ_ w=>.ok (.slice base (sLen+n) sCap) w
  |none=>.ok (.slice base (sLen+n) sCap) w):=by
 have hm:(match(generalizing:=false) d with|.int _=>true|_=>false)=false:=by cases d<;>first|rfl|exact absurd rfl (h _)
 cases base<;>simp[Builtin.append_,h0,b,aE e,cH j,aE g,hl,hroom,m,hm]
theorem next_le(need old:Nat)(h:old<need):Builtin.nextslicecap need old<=2*need+1000:=by
 have g:∀(r c:Nat),c<=2*need+500->Builtin.growBy need r c<=2*need+1000:=by
  intro r;induction r with
  |zero=>intro c hc;simp[Builtin.growBy];omega
  |succ r ih =>
   intro c hc;simp only[Builtin.growBy]
   grind
 unfold Builtin.nextslicecap
 grind
theorem NK{elem:TypeId}{m:Nat}(h:aF P elem m=true){i:TypeInfo}(hi:P.info? elem=some i):i.bytes*(m+m / 4+600)<=281474976710656/\m<=4611686018427387904:=by unfold aF at h;rw[hi]at h;simp only[aaV]at h;exact⟨abh h.1,abh h.2⟩
theorem QM(need old:Nat)(h:old<need):Builtin.nextslicecap need old<=need+need / 4+600:=by
 have g:∀(r c:Nat),c<=need+need / 4+500->Builtin.growBy need r c<=need+need / 4+600:=by
  intro r;induction r with
  |zero=>intro c hc;simp[Builtin.growBy];omega
  |succ r ih =>
   intro c hc;simp only[Builtin.growBy]
   grind
 unfold Builtin.nextslicecap
 grind
theorem lK{ts:Array TypeId}{ty sT xT elem:TypeId}{d:TypeDesc}{n sz sLen sCap:Nat}{base:Option Addr}{Y:Value}(h0:ts[0]? = some sT)(a:ts[1]? = some xT)
 (q:P.underlying sT=some (.slice elem)) (u:P.underlying xT=some d) (y:∀ k,d≠.int k) (A:size P elem=some sz) {i:TypeInfo} (hi:P.info? elem=some i) {z:Value} (b:i.zero=some z)
 (hl:(Builtin.lenOf Y).run P w=.ok n w) (hroom:sCap<sLen+n) (hr:aF P elem (sLen+n)=true) {olds news:Array Value}
 (ho:(Builtin.firstCells sz sLen (.slice base sLen sCap)).run P w.drew=.ok olds w.drew) (B:(Builtin.firstCells sz n Y).run P w.drew=.ok news w.drew) :
 (Builtin.append_ ts ty #[.slice base sLen sCap,Y]).run P w=.ok (.slice (some ⟨w.heap.size,0,none⟩) (sLen+n) (grownCap w (sLen+n) sCap elem))
  (w.drew.alloc (.cells (olds++news++Builtin.zeroCells z.cells (grownCap w (sLen+n) sCap elem - (sLen+n))) elem)):=by
 have e:¬(sLen+n<=sCap):=by omega
 obtain⟨hb,hn⟩:=NK hr hi;have g:¬(9223372036854775807<((sLen:Int)+(n:Int))):=by omega
 have h:¬(281474976710656<Builtin.nextslicecap (sLen+n) sCap*i.bytes):=by
  have a:=QM (sLen+n) sCap hroom;have h3:=Nat.mul_le_mul_left i.bytes a
  grind
 have j:∀ w,(typeInfo elem).run P w=.ok i w:=λw=>by simp[typeInfo,hi]
 have m:∀ w,(zeroValue elem).run P w=.ok z w:=λw=>gh hi b w;have hm:(match(generalizing:=false) d with|.int _=>true|_=>false)=false:=by cases d<;>first|rfl|exact absurd rfl (y _)
 simp[Builtin.append_,h0,a,aE q,cH A,aE u,hl,e,j,m,g,h,Question.forced,ho,B,newRow,grownCap,hm]
theorem KF{b:Ad}{z sz:Nat}{cap:Option Nat}{Y:Value}(h:den ρ (.slice b z 0 cap sz)=some Y):∃ q c,Y=.slice (some q) 0 c:=by grind [den,ir]
theorem fM(h:HR ρ s w){sz n:Nat}{y:V}{Y:Value}{l:List V}(hy:den ρ y=some Y)(e:jd s sz y=some (l,n)) :
 ∃ ys,bg ρ l=some ys/\ys.length=n*sz/\(Builtin.lenOf Y).run P w=.ok n w/\(Builtin.firstCells sz n Y).run P w=.ok ys.toArray w:=by
 unfold jd at e;split at e
 .cases e;cases hy;exact⟨[],rfl,by simp,rfl,rfl⟩
 .rename_i b z m cap sz';cases a:Nat.beq m 0 with
  |true =>rw[a]at e;cases e;obtain rfl:=aaO a;obtain⟨q,c,rfl⟩:=KF hy;have:=ajp (P:=P) (w:=w) q [] (λj v h=>by simp at h);exact⟨[],rfl,by simp,rfl,by simp only[Builtin.firstCells,ajM];exact this⟩
  |false =>
  rw[a]at e;simp only[SE]at e;cases d:Nat.beq sz' 0 with
  |true=>rw[d]at e;cases e
  |false =>
  rw[d]at e;simp only[SE]at e;cases hb:Nat.beq sz sz' with
  |false=>rw[hb]at e;cases e
  |true =>
   rw[hb]at e;obtain rfl:=aaO hb;simp only[ge]at e;split at e
   .rename_i l' hl;cases e;obtain⟨lo,A,g2,g3,B,g5,rfl⟩:=iy hy (.inl (QH d));obtain⟨lo',ys,g,k2,F,u,G⟩:=tD (P:=P) h hl;rw[A]at g;cases g;refine⟨ys,F,u,rfl,?_⟩;rcases ajo n with h0|h0
    .subst h0;have:ys=[]:=by simpa using u
     subst this;have:=ajp (P:=P) (w:=w) ⟨lo.b,bD lo b z cap sz - lo.base,none⟩ [] (λj v h=>by simp at h);simp only[Builtin.firstCells,ajM];exact this
    .rw[fV B h0];exact G
   .cases e
 .rename_i l';cases hb:Nat.beq sz 1 with
  |false=>rw[hb]at e;cases e
  |true =>
   rw[hb]at e;obtain rfl:=aaO hb;cases e;cases hy;refine⟨_,vE l',by simp[aK],by simp[Builtin.lenOf,eR],?_⟩;have:(aK l').extract 0 l'.length=aK l':=by rw[rq];simp
   have H:Array.map (λb=>Value.int IntKind.u8 (b.toNat:Int)) (aK l').data=((aK l').data.toList.map λb=>Value.int .u8 (b.toNat:Int)).toArray:=by simp[<- Array.toList_inj]
   simp only[Builtin.firstCells,this,afe,H]
 .cases e
end ops
section ops
variable{P:Program}{ρ:aJ}{s:S}{w:World}{t:T V}{tm:Array Value}
theorem HR.grow{w':World}(h:HR ρ s w){f nv Q:Nat}{l l0:BR}(h0:ρ f Q=some l0)(z:ρ f nv=none)
 (n:∀ g v x,ρ g v=some x->x.b=l.b->g=f/\x.base=l.base) (A:l.b<w'.heap.size) (hsize:w.heap.size<=w'.heap.size)
 (I:w'.os=w.os) (htape:w'.tape=w.tape) (F:w'.output=w.output)
 (j:∀ k,k<w.heap.size->k≠l.b->w'.heap[k]? = w.heap[k]?) (m:l.b<w.heap.size->∃ g v x,ρ g v=some x/\x.b=l.b/\¬ x.ro) (J:¬ l.ro) (K:∀ v l,ρ f v=some l->¬ l.ro)
 {B:dY} (hB:BO (ρ.put f nv l) w' f B):HR (ρ.put f nv l) (s.put f B) w'/\FR ρ w (ρ.put f nv l) w':=by
 have W:f<s.next:=ajZ λhc=>by have:=h.fresh f Q hc;rw[h0]at this;cases this
 refine⟨⟨?_,?_,?_,?_,?_,?_⟩,⟨aJ.le_put _ z,hsize,I,htape,F,?_,?_⟩⟩
 .intro g v a;rw[S.next_put]at a;unfold aJ.put;rw[afp (by omega)];exact h.fresh g v a
 .intro g v x g' v' x' e U hb;rcases aJ.of_put e with⟨rfl,rfl,rfl⟩|d
  .rcases aJ.of_put U with⟨rfl,rfl,rfl⟩|L
   .exact⟨rfl,rfl⟩
   .obtain⟨G,H⟩:=n _ _ _ L hb.symm;exact⟨G.symm,H.symm⟩
  .rcases aJ.of_put U with⟨rfl,rfl,rfl⟩|L
   .exact n _ _ _ d hb
   .exact h.inj _ _ _ _ _ _ d L hb
 .intro g v x e;rcases aJ.of_put e with⟨rfl,rfl,rfl⟩|e
  .exact A
  .exact afs (h.low _ _ _ e) hsize
 .intro g B' a;rw[S.get_put]at a;split at a
  .rename_i e;cases a;subst e;exact hB
  .rename_i M;refine(h.blk g B' a).keep (aJ.le_put _ z) (λv X=>?_) (λv x u=>j _ (h.low _ _ _ u) λe=>M (n _ _ _ u e).1.symm);unfold aJ.put;rw[afp (by omega)];exact X
 .intro g B' a;rw[S.get_put]at a;rw[S.next_put];split at a
  .rename_i e;subst e;exact W
  .exact h.dom g B' a
 .intro g B' a N v x u;rw[S.get_put]at a;rcases aJ.of_put u with⟨rfl,rfl,rfl⟩|u
  .exact J
  .split at a
   .rename_i e;subst e;exact K v x u
   .exact h.rw g B' a N v x u
 .intro b hb Y;refine j b hb λe=>?_;subst e;obtain⟨g,v,x,G,H,O⟩:=m hb;exact Y g v x G O H
 .intro g v x e hl;rcases aJ.of_put e with⟨rfl,rfl,rfl⟩|e
  .obtain⟨g,v,y,G,H,O⟩:=m hl;exact⟨g,v,y,G,H,λq=>absurd q O⟩
  .exact⟨g,v,x,e,rfl,id⟩
theorem FR.drew(ρ:aJ)(w:World):FR ρ w ρ w.drew:=FR.drawn w _
theorem HR.drew(h:HR ρ s w):HR ρ s w.drew:=h.drawn _
theorem lS(h:HR ρ s w){elem:TypeId}{cs:List V}{ys:List Value}(j:bg ρ cs=some ys){len sz cap:Nat}(hl:len<=cap)(b:0<sz)(d:ys.length=len*sz){rest:Array Value}(hr:rest.size=(cap - len)*sz)
 {v:V} {s':S} (e:ls s elem cs len sz=(v,s')) :
 ∃ ρ',den ρ' v=some (.slice (some ⟨w.heap.size,0,none⟩) len cap)/\HR ρ' s' (w.alloc (.cells (ys.toArray++rest) elem))/\FR ρ w ρ' (w.alloc (.cells (ys.toArray++rest) elem)):=by
 simp only[ls,bA]at e;have hsize:(ys.toArray++rest).size=cap*sz:=by
  rw[ajU,hr];have:ys.toArray.size=len*sz:=by simpa using d
  rw[this,<- ajJ];congr 1;omega
 have g:=bR j
 obtain⟨ρ',m,n,u⟩:=gP h false elem elem (cs:=cs) (ys:=ys.toArray++rest) (by rw[j];congr 1;simp[<- g]) (0,0) ⟨λ_=>rfl,by simp⟩
 simp only[bz]at e n;cases e;refine⟨ρ',?_,n,u⟩;rw[hsize]at m;have q:cap*sz / sz=cap:=Nat.mul_div_cancel _ b;rw[dL (a:=⟨s.next,0,0⟩) (z:=0) (cap:=none) m (by simp[bD]) (ajg _) (by show len<=(cap*sz - 0) / sz;rw[ajq,q];exact hl) b];simp only[cG,bD];simp[ajq,q]
theorem gF(z:Array Value)(n:Nat):(Builtin.zeroCells z n).size=n*z.size:=by simp[Builtin.zeroCells]
theorem yC{a:Ad}{e:TypeId}{sb:Bool}{nv:Nat}{vers:List oJ}{u:oJ}{n:Nat}{old:List V}(b:s.get a.f=some (.cells e sb nv vers))(d:bI vers a.v=some u)(hb:Nat.ble u.lo a.c=true)
 (ho:bj n (u.cells.drop (a.c - u.lo))=some old):loadCells s a n=some old:=by
 unfold loadCells;rw[b];simp only[d,hb,ge,ho]
theorem pP{elem:TypeId}{sz:Nat}(h:vz P elem sz=true):∃ z i,P.info? elem=some i/\i.zero=some z/\z.cells.size=sz/\0<sz/\i.bytes*10000000<=100000000000000:=by
 unfold vz at h;split at h
 .rename_i zv b;simp only[aaV]at h;obtain⟨z,i,hi,a,d⟩:=fh b;refine⟨z,i,hi,a,?_,pY h.1.2,?_⟩
  .rw[ob (d λ_ _=>none)];exact aaO h.1.1
  simp_all[mR]
 .cases h
theorem HA(h:HR ρ s w){ts:Array TypeId}{ty sT xT elem:TypeId}{d:TypeDesc}{n sz len z:Nat}{a:Ad}{cap:Option Nat}{y:V}{Xv Yv:Value}{l:List V}(h0:ts[0]? = some sT)(h1:ts[1]? = some xT)
 (hs:P.underlying sT=some (.slice elem)) (J:P.underlying xT=some d) (hd:∀ k,d≠.int k) (hz:size P elem=some sz) (hok:vz P elem sz=true)
 (hX:den ρ (.slice a z len cap sz)=some Xv) (hY:den ρ y=some Yv) (ha:jd s sz y=some (l,n)) (hrm:aF P elem (len+n)=true) (hn0:n≠0) {v:V} {s':S} (e:wg s elem a z len cap sz l n=some (v,s')) :
 ∃ ρ' r w',(Builtin.append_ ts ty #[Xv,Yv]).run P w=.ok r w'/\den ρ' v=some r/\HR ρ' s' w'/\FR ρ w ρ' w':=by
 obtain⟨zv,i,hi,hzi,hzs,W,hbytes⟩:=pP hok;obtain⟨lo,K,g2,g3,g4,g5,rfl⟩:=iy hX (.inl (by omega));obtain⟨ys,y1,y2,y3,y4⟩:=fM (P:=P) h hY ha;obtain⟨ys',y1',y2',y3',y4'⟩:=fM (P:=P) h.drew hY ha;rw[y1]at y1';cases y1';unfold wg at e;split at e
 .rename_i el sb nv vers hg;split at e
  .rename_i u hu;cases hb:Nat.ble u.lo a.c with
   |false=>rw[hb]at e;cases e
   |true =>
   rw[hb]at e;simp only[ge]at e;split at e
   .rename_i old ho;have hload:=yC hg hu hb ho;obtain⟨lo',os,k1,k2,k3,k4,k5⟩:=tD (P:=P) h hload;obtain⟨lo'',os',k1',k2',k3',k4',k5'⟩:=tD (P:=P) h.drew hload;rw[k3]at k3';cases k3';rw[K]at k1 k1';cases k1;cases k1';have hcoord:0<len->bD lo a z cap sz=a.c:=fV g4;have X:(Builtin.firstCells sz len (.slice (some ⟨lo.b,bD lo a z cap sz - lo.base,none⟩) len (cG lo a cap sz))).run P w.drew=.ok os.toArray w.drew:=by
     rcases ajo len with q|q
     .subst q;have:os=[]:=by simpa using k4
      subst this;have:=ajp (P:=P) (w:=w.drew) ⟨lo.b,bD lo a z cap sz - lo.base,none⟩ [] (λj v h=>by simp at h);simp only[Builtin.firstCells,ajM];exact this
     .rw[hcoord q];exact k5'
    have L:=dH k3 y1;have hallLen:(os++ys).length=(len+n)*sz:=by rw[aaY,k4,y2,ajJ]
    have fresh:cG lo a cap sz<len+n->∀ v s',ls s elem (old++l) (len+n) sz=(v,s') ->
     ∃ ρ' r w',(Builtin.append_ ts ty #[.slice (some ⟨lo.b,bD lo a z cap sz - lo.base,none⟩) len (cG lo a cap sz),Yv]).run P w=.ok r w'/\den ρ' v=some r/\HR ρ' s' w'/\FR ρ w ρ' w':=by
     intro hlt v s' e;have m:=lK (ty:=ty) h0 h1 hs J hd hz hi hzi y3 hlt hrm X y4';obtain⟨ρ',j1,j2,j3⟩:=lS h.drew (elem:=elem) L (akj w (len+n) (cG lo a cap sz) elem) W hallLen (rest:=Builtin.zeroCells zv.cells (grownCap w (len+n) (cG lo a cap sz) elem - (len+n))) (by rw[gF,hzs]) e;refine⟨ρ',_,_,m,j1,?_,(FR.drew ρ w).trans ?_⟩
     .simpa using j2
     .simpa using j3
    split at e
    .
     rename_i c;unfold Fg at e;cases hc:Nat.ble (len+n) c with
     |false =>rw[hc]at e;simp only[SE,abf]at e;refine fresh ?_ _ _ e;show c<len+n;exact ajZ λq=>by rw[abk q]at hc;cases hc
     |true =>
      rw[hc]at e;simp only[ge]at e;have hle:=abh hc;split at e
      .rename_i s1 hst;cases e;obtain⟨ad,w',Y,H,q3,q4⟩:=mb P h hst y1;have m:=je (ty:=ty) (w:=w) (base:=some ⟨lo.b,a.c - lo.base,none⟩) h0 h1 hs J hd hz y3 hle y4;have had:ad=(⟨lo.b,a.c - lo.base,none⟩:Addr).add (len*sz):=by grind [ud,yh]
       simp only[<- had,H,abm]at m;refine⟨ρ,_,w',m,?_,q3,q4⟩;exact dL K g3 g3 hle g5
      .cases e
    .
     cases ha1:l.all V.one with
     |false=>rw[ha1]at e;cases e
     |true =>
     rw[ha1]at e;simp only[ge,abf]at e;unfold tN at e;cases e;obtain⟨vr,hmem,hv⟩:=h.ver hg hu;obtain⟨lv,c,el',fz,r1,r2,r3,r4,r5,r6⟩:=vr;rw[hv,K]at r1;cases r1;have hB:=h.blk _ _ hg;have A:ρ a.f nv=none:=hB.1 nv (aaW _);have hcells:∀(j:Nat) (q:Value),os[j]? = some q->c[a.c - lo.base+j]? = some q:=by obtain⟨ad,os2,Z,t2,t3,t4⟩:=jk h hload;rw[k3]at t2;cases t2;rw[yh K g3]at Z;cases Z;intro j q hq;have:=t4 j q hq;rw[kG]at this;simpa[World.cell?,r2]using this
     rcases aiU (cG lo a none sz) (len+n)with hlt|N
     .
      have m:=lK (ty:=ty) h0 h1 hs J hd hz hi hzi y3 hlt hrm X y4';generalize hcap:grownCap w (len+n) (cG lo a none sz) elem=newCap at m;have hcge:len+n<=newCap:=by rw[<- hcap];exact akj w _ _ _
      have hsize:(os.toArray++ys.toArray++Builtin.zeroCells zv.cells (newCap - (len+n))).size=newCap*sz:=by rw[ajU,gF,hzs,ajU,List.size_toArray,List.size_toArray,<- aaY,hallLen,<- ajJ];congr 1;omega
      have hq:newCap*sz / sz=newCap:=Nat.mul_div_cancel _ W;have hheap:∀ k,k<w.heap.size->(w.drew.alloc (.cells (os.toArray++ys.toArray++Builtin.zeroCells zv.cells (newCap - (len+n))) elem)).heap[k]? = w.heap[k]?:=λk hk=>iP w.drew _ hk
      obtain⟨j1,j2⟩:=h.grow (w':=w.drew.alloc (.cells (os.toArray++ys.toArray++Builtin.zeroCells zv.cells (newCap - (len+n))) elem)) (f:=a.f) (nv:=nv) (l:=⟨w.heap.size,a.c,a.c+newCap*sz⟩) K A
       (λg v x J hb=>by have:=h.low _ _ _ J;simp only at hb;omega) (by simp) (by simp) rfl rfl rfl
       (λk hk _=>hheap k hk) (λhb=>by simp at hb) (by show ¬(a.c+newCap*sz<a.c);omega) (λv x J=>h.rw _ _ hg (λ_ h=>by cases h) v x J)
       (B:=.cells el sb (nv+1) (⟨nv,a.c,old++l⟩::vers.filter λu=>Nat.ble (u.lo+u.cells.length) (a.c+len*sz))) (by
        refine⟨λv hv=>?_,λu' F=>?_⟩
        .unfold aJ.put;rw[afp (by omega)];exact hB.1 v (by omega)
        .rcases abn.1 F with rfl|F
         .refine⟨ajw _,⟨w.heap.size,a.c,a.c+newCap*sz⟩,_,elem,(0,0),aJ.put_same _ _ _ _,eD w.drew _,aaW _,by rw[hsize],⟨λ_=>rfl,by simp⟩,λi x G=>?_⟩;obtain⟨q,Y,H⟩:=eK i L G;refine⟨q,bM (aJ.le_put _ A) _ _ Y,?_⟩;have O:i<(os++ys).length:=(abj.1 H).1;simp only[aja,adO];rw[<- afo,Array.toList_append,Array.toList_append];rw[abo (by simpa using O)];exact H
         .have hu2:=(ajn.1 F).1;obtain⟨p1,Q⟩:=hB.2 u' hu2;exact⟨by omega,(Q.of_heap λl' hl'=>hheap _ (h.low _ _ _ hl')).mono (aJ.le_put _ A)⟩)
      refine⟨_,_,_,m,?_,j1,j2⟩;have I:cG ⟨w.heap.size,a.c,a.c+newCap*sz⟩ ⟨a.f,nv,a.c⟩ none sz=newCap:=by simp[cG,hq]
      have M:bD ⟨w.heap.size,a.c,a.c+newCap*sz⟩ ⟨a.f,nv,a.c⟩ z none sz=a.c:=fV (len:=len+n) (by rw[I];exact hcge) (by omega);rw[dL (a:=⟨a.f,nv,a.c⟩) (z:=z) (len:=len+n) (cap:=none) (l:=⟨w.heap.size,a.c,a.c+newCap*sz⟩) (aJ.put_same _ _ _ _) (by rw[M];exact aaW _) (aaW _) (by rw[I];exact hcge) g5,M,I];simp
     .
      have hroom:=N;have hcoord':bD lo a z none sz=a.c:=fV (len:=len+n) N (by omega);have m:=je (ty:=ty) (w:=w) (base:=some ⟨lo.b,a.c - lo.base,none⟩) h0 h1 hs J hd hz y3 hroom y4;have hfit:a.c - lo.base+len*sz+0+ys.length<=c.size:=by
       have Z:(len+n)*sz<=(lo.lim - a.c) / sz*sz:=ajs _ N;have t2:=Nat.div_mul_le_self (lo.lim - a.c) sz;have t3:1*sz<=(len+n)*sz:=ajs _ (by omega)
       grind
      have hone:∀ q∈ys,q.oneCell'=true:=λq hq=>by
       obtain⟨j,hj⟩:=ajC hq;have hyl:=bR y1;have hj2:j<l.length:=by have:=(abj.1 hj).1;omega
       obtain⟨q',Z,t2⟩:=eK j y1 (abg hj2)
       grind [zl]
      obtain⟨w',c',p1,Q,p3,p4,p5⟩:=CJ P lo.b (a.c - lo.base+len*sz) el' fz ys 0 c w r2 r5.2 hfit hone;simp only[kG,p1,abm]at m;rw[<- hcoord']at m;have hin:∀ g v x,ρ g v=some x->x.b=lo.b->g=a.f/\x.base=lo.base:=λg v x J hb=>h.inj _ _ _ _ _ _ J K hb
      obtain⟨j1,j2⟩:=h.grow (w':=w') (f:=a.f) (nv:=nv) (l:=lo) K A hin (by rw[Q.size];exact h.low _ _ _ K) (by rw[Q.size];exact aaW _) Q.os Q.tape Q.output
       (λk _ hk=>Q.other k hk) (λ_=>⟨_,_,_,K,rfl,h.rw _ _ hg (λ_ h=>by cases h) _ _ K⟩) (h.rw _ _ hg (λ_ h=>by cases h) _ _ K) (λv x J=>h.rw _ _ hg (λ_ h=>by cases h) v x J)
       (B:=.cells el sb (nv+1) (⟨nv,a.c,old++l⟩::vers.filter λu=>Nat.ble (u.lo+u.cells.length) (a.c+len*sz))) (by
        refine⟨λv hv=>?_,λu' F=>?_⟩
        .unfold aJ.put;rw[afp (by omega)];exact hB.1 v (by omega)
        .rcases abn.1 F with rfl|F
         .refine⟨ajw _,lo,c',el',fz,aJ.put_same _ _ _ _,p3,g3,by rw[p4];exact r4,by rw[p4];exact r5,λi x G=>?_⟩;obtain⟨q,Y,H⟩:=eK i L G;refine⟨q,bM (aJ.le_put _ A) _ _ Y,?_⟩;rw[p5];have O:i<(os++ys).length:=(abj.1 H).1;rw[aaY,k4]at O;simp only;by_cases hi3:i<len*sz
          .rw[afp (by omega)];rw[abo (by omega)]at H;exact hcells i q H
          .rw[agC (by omega)];rw[aiN (by omega),k4]at H;rw[<- H];congr 1;omega
         .have hu2:=(ajn.1 F).1;have hu3:=abh (ajn.1 F).2;obtain⟨s1,l',c2,e2,f2,Z,t2,t3,t4,t5,t6⟩:=hB.2 u' hu2;refine⟨by omega,?_⟩;by_cases U:l'.b=lo.b
          .obtain⟨_,hbase⟩:=hin _ _ _ Z U;rw[U,r2]at t2;cases t2;refine⟨l',c',el',fz,aJ.le_put _ A _ _ _ Z,by rw[U];exact p3,t3,by rw[p4];exact t4,by rw[p4];exact t5,λi x G=>?_⟩;obtain⟨q,Y,H⟩:=t6 i x G;refine⟨q,bM (aJ.le_put _ A) _ _ Y,?_⟩;have O:i<u'.cells.length:=(abj.1 G).1;rw[p5,afp (by omega)];exact H
          .exact⟨l',c2,e2,f2,aJ.le_put _ A _ _ _ Z,by rw[Q.other _ U];exact t2,t3,t4,t5,λi x G=>by obtain⟨q,Y,H⟩:=t6 i x G;exact⟨q,bM (aJ.le_put _ A) _ _ Y,H⟩⟩)
      refine⟨_,_,w',m,?_,j1,j2⟩;have I:cG lo ⟨a.f,nv,a.c⟩ none sz=cG lo a none sz:=rfl;have M:bD lo ⟨a.f,nv,a.c⟩ z none sz=bD lo a z none sz:=rfl;rw[dL (a:=⟨a.f,nv,a.c⟩) (z:=z) (len:=len+n) (cap:=none) (l:=lo) (aJ.put_same _ _ _ _) (by rw[M];exact g2) g3 (by rw[I];exact N) g5,M,I]
   .cases e
  .cases e
 .cases e
theorem Cw(h:HR ρ s w){ts:Array TypeId}{ty sT xT:TypeId}{x y:V}{X Y:Value}(h0:ts[0]? = some sT)(H:ts[1]? = some xT)(u:den ρ x=some X)(W:den ρ y=some Y)
 {v:V} {s':S} (e:uk P sT xT s x y=some (v,s')) :
 ∃ ρ' r w',(Builtin.append_ ts ty #[X,Y]).run P w=.ok r w'/\den ρ' v=some r/\HR ρ' s' w'/\FR ρ w ρ' w':=by
 unfold uk at e;split at e
 .rename_i elem I;cases F:Hd P xT with
  |false=>rw[F]at e;cases e
  |true =>
  rw[F]at e;simp only[ge]at e;obtain⟨d,J,K⟩:=JN F;split at e
  .rename_i sz L;cases A:vz P elem sz with
   |false=>rw[A]at e;cases e
   |true =>
   rw[A]at e;simp only[ge]at e;unfold eM at e;split at e
   .rename_i l n Z;cases hn:aF P elem n with
    |false=>rw[hn]at e;cases e
    |true =>
    rw[hn]at e;simp only[ge]at e;obtain⟨zv,i,hi,M,N,B,hbytes⟩:=pP A;obtain⟨ys,y1,y2,O,y4⟩:=fM (P:=P) h W Z;split at e
    .cases u;cases hb:Nat.beq n 0 with
     |true =>rw[hb]at e;obtain rfl:=aaO hb;cases e;refine⟨ρ,.slice none 0 0,w,?_,rfl,h,FR.refl ρ w⟩;exact je (ty:=ty) (base:=none) (sLen:=0) (sCap:=0) h0 H I J K L O (aaW _) y4
     |false =>
      rw[hb]at e;simp only[SE,abf]at e;have hn0:0<n:=ajL λq=>by subst q;simp at hb
      obtain⟨ys',y1',y2',y3',y4'⟩:=fM (P:=P) h.drew W Z;rw[y1]at y1';cases y1';have g:=lK (ty:=ty) (base:=none) (sLen:=0) (sCap:=0) (olds:=#[]) h0 H I J K L hi M O (by omega) (by rw[adO];exact hn) rfl y4';simp only[adO]at g;obtain⟨ρ',j1,j2,j3⟩:=lS h.drew (elem:=elem) y1 (akj w n 0 elem) B y2 (rest:=Builtin.zeroCells zv.cells (grownCap w n 0 elem - n)) (by rw[gF,N]) e;refine⟨ρ',_,_,g,j1,?_,(FR.drew ρ w).trans ?_⟩
      .simpa using j2
      .simpa using j3
    .rename_i a z len cap sz';cases m:(Nat.beq len 0&&io cap)with
     |true =>
      rw[m]at e;simp only[ge]at e;simp only[aaV]at m;obtain rfl:=aaO m.1;have Q:cap=some 0:=by
       cases cap with
       |none=>cases m.2
       |some c=>rw[aaO m.2]
      subst Q;have hX0:∃ q,X=.slice (some q) 0 0:=by
       simp only[den,ir]at u;split at u
       .grind
       .split at u
        .split at u
         .cases u;exact⟨_,rfl⟩
         .cases u
        .cases u
      obtain⟨q,rfl⟩:=hX0;cases hb:Nat.beq n 0 with
      |true =>
       rw[hb]at e;obtain rfl:=aaO hb;cases e;refine⟨ρ,_,w,?_,u,h,FR.refl ρ w⟩;have:=je (ty:=ty) (w:=w) (base:=some q) (sLen:=0) (sCap:=0) h0 H I J K L O (aaW _) y4;have G:ys=[]:=by simpa using y2
       subst G;rw[this];simp[Go.storeCells]
      |false =>
       rw[hb]at e;simp only[SE,abf]at e;have hn0:0<n:=ajL λq=>by subst q;simp at hb
       obtain⟨ys',y1',y2',y3',y4'⟩:=fM (P:=P) h.drew W Z;rw[y1]at y1';cases y1';have hol:(Builtin.firstCells sz 0 (.slice (some q) 0 0)).run P w.drew=.ok #[] w.drew:=by have:=ajp (P:=P) (w:=w.drew) q [] (λj v h=>by simp at h);simp only[Builtin.firstCells,ajM];exact this
       have g:=lK (ty:=ty) (base:=some q) (sLen:=0) (sCap:=0) (olds:=#[]) h0 H I J K L hi M O (by omega) (by rw[adO];exact hn) hol y4';simp only[adO]at g;obtain⟨ρ',j1,j2,j3⟩:=lS h.drew (elem:=elem) y1 (akj w n 0 elem) B y2 (rest:=Builtin.zeroCells zv.cells (grownCap w n 0 elem - n)) (by rw[gF,N]) e;refine⟨ρ',_,_,g,j1,?_,(FR.drew ρ w).trans ?_⟩
       .simpa using j2
       .simpa using j3
     |false =>
     rw[m]at e;simp only[SE]at e;cases hb:(Nat.beq sz sz'&&aF P elem (len+n))with
     |false=>rw[hb]at e;cases e
     |true =>
     rw[hb]at e;simp only[ge]at e;simp only[aaV]at hb;obtain rfl:=aaO hb.1;have U:=hb.2;cases hb:Nat.beq n 0 with
     |true =>
      rw[hb]at e;obtain rfl:=aaO hb;cases e;obtain⟨lo,g1,g2,g3,g4,g5,rfl⟩:=iy u (.inl (by omega));refine⟨ρ,_,w,?_,u,h,FR.refl ρ w⟩;have:=je (ty:=ty) (w:=w) (base:=some ⟨lo.b,bD lo a z cap sz - lo.base,none⟩) (sLen:=len) (sCap:=cG lo a cap sz) h0 H I J K L O g4 y4;have G:ys=[]:=by simpa using y2
      subst G;rw[this];simp[Go.storeCells]
     |false =>rw[hb]at e;simp only[SE]at e;exact HA h h0 H I J K L A u W Z U (λq=>by subst q;simp at hb) e
    .cases e
   .cases e
  .cases e
 .cases e
end ops
section ops
variable{P:Program}{ρ:aJ}{s:S}{w:World}{t:T V}{tm:Array Value}
theorem nZ{x:V}{ys:List Value}(h:bg ρ [x]=some ys):∃ X,den ρ x=some X/\ys=[X]:=by obtain⟨X,q,a,b,rfl⟩:=bp.1 h;cases b;exact⟨X,a,rfl⟩
theorem MQ{x y:V}{ys:List Value}(h:bg ρ [x,y]=some ys):∃ X Y,den ρ x=some X/\den ρ y=some Y/\ys=[X,Y]:=by
 obtain⟨X,q,h1,h2,rfl⟩:=bp.1 h
 grind [nZ]
theorem zQ(h:HR ρ s w){ts:Array TypeId}{ty t0:TypeId}{x:V}{X:Value}{v:V}(h0:ts[0]? = some t0)(d:den ρ x=some X)(e:jz P t0 s x=some v) :
 ∃ y,den ρ v=some y/\(Builtin.len_ ts ty #[X]).run P w=.ok y w:=by
 unfold jz at e;split at e
 .rename_i l b;cases e;cases d;exact⟨_,by rw[cr];rfl,by simp[Builtin.len_,h0,aE b,eR,goInt]⟩
 .rename_i n _ _ b;cases e;exact⟨_,rfl,by simp[Builtin.len_,h0,aE b,goInt]⟩
 .rename_i el a z n cap sz b;cases e;obtain⟨b',c',rfl,_⟩:=vW d;exact⟨_,by rw[cr];rfl,by simp[Builtin.len_,h0,aE b,goInt]⟩
 .rename_i el b;cases e;cases d;exact⟨_,rfl,by simp[Builtin.len_,h0,aE b,goInt]⟩
 .rename_i k el b;cases e;cases d;exact⟨_,rfl,by simp[Builtin.len_,h0,aE b,goInt]⟩
 .rename_i k el r b;split at e
  .rename_i es c j;cases e;obtain⟨l,hl,rfl⟩:=EU d;obtain⟨l',rs,g,m,q⟩:=h.blk _ _ j;rw[hl]at g;cases g;have:es.length=rs.size:=(gm.length q).trans (aiu (xs:=rs));exact⟨.int .i64 (rs.size:Nat),by rw[<- this];rfl,by simp[Builtin.len_,h0,aE b,goInt,mX m]⟩
  .cases e
 .cases e
theorem Bm{ts:Array TypeId}{ty t0:TypeId}{x:V}{X:Value}{v:V}(h0:ts[0]? = some t0)(d:den ρ x=some X)(e:aaK P t0 x=some v) :
 ∃ y,den ρ v=some y/\(Builtin.cap_ ts ty #[X]).run P w=.ok y w:=by
 unfold aaK at e;split at e
 .rename_i el g;split at e
  .cases e;cases d;exact⟨_,rfl,by simp[Builtin.cap_,h0,aE g,goInt]⟩
  .rename_i a z n c sz;cases e;obtain⟨b',c',rfl,b⟩:=vW d;obtain rfl:=b _ rfl;exact⟨_,by rw[cr];rfl,by simp[Builtin.cap_,h0,aE g,goInt]⟩
  .cases e
 .cases e
theorem kg{f:V->V->Option V}{g:Value->Value->Sem Value}(b:∀ x y v X Y,f x y=some v->den ρ x=some X->den ρ y=some Y->∃ z,den ρ v=some z/\(g X Y).run P w=.ok z w) :
 ∀(l:List V) (ys:List Value) (x:V) (X:Value) (v:V),bg ρ l=some ys->den ρ x=some X->l.foldlM f x=some v->∃ y,den ρ v=some y/\(ys.foldlM g X).run P w=.ok y w
 |[],ys,x,X,v,hl,e,h=>by cases hl;simp_all
 |a::l,ys,x,X,v,hl,e,h=>by
  obtain⟨y,q,j,m,rfl⟩:=bp.1 hl;simp only[List.foldlM_cons]at h;cases d:f x a with
  |none=>rw[d]at h;simp at h
  |some u =>rw[d]at h;simp at h;obtain⟨z,n,z2⟩:=b _ _ _ _ _ d e j;obtain⟨y',k1,k2⟩:=kg b l q u z v m n h;simp_all
theorem zH(x y v:V)(X Y:Value)(h:NX x y=some v)(d:den ρ x=some X)(hy:den ρ y=some Y):∃ z,den ρ v=some z/\(Builtin.max2 X Y).run P w=.ok z w:=by
 unfold NX at h;split at h
 .rename_i j a k b;cases hk:dy j k with
  |false=>rw[hk]at h;cases h
  |true =>
   rw[hk]at h;simp only[ge,abf]at h;subst h;cases d;cases hy;refine⟨_,rfl,?_⟩;simp only[Builtin.max2,afe]
   grind
 .cases h
theorem zF(x y v:V)(X Y:Value)(h:NW x y=some v)(d:den ρ x=some X)(hy:den ρ y=some Y):∃ z,den ρ v=some z/\(Builtin.min2 X Y).run P w=.ok z w:=by
 unfold NW at h;split at h
 .rename_i j a k b;cases hk:dy j k with
  |false=>rw[hk]at h;cases h
  |true =>
   rw[hk]at h;simp only[ge,abf]at h;subst h;cases d;cases hy;refine⟨_,rfl,?_⟩;simp only[Builtin.min2,afe]
   grind
 .cases h
theorem Iw(h:HR ρ s w){b:Builtin}{ts:Array TypeId}{ty:TypeId}{consts:Array Bool}{args:List V}{ys:List Value}(g:bg ρ args=some ys){nx:Nx}(e:jq P b ts args s=some nx) :
 IR P ρ w nx ((Go.builtin b ts ty consts ys.toArray).run P w):=by
 unfold jq at e;split at e
 .split at e
  .rename_i t0 h0;split at e
   .rename_i t1 j;split at e
    .rename_i x y;obtain⟨X,Y,a,hy,rfl⟩:=MQ g;unfold jj at e;split at e
     .rename_i v s' n;cases e;obtain⟨ρ',r,w',u,z,A,B⟩:=Cw (ty:=ty) h h0 j a hy n;exact⟨ρ',r,w',by simp[Go.builtin,u],z,A,B⟩
     .cases e
    .cases e
   .cases e
  .cases e
 .split at e
  .rename_i t0 h0;split at e
   .rename_i x;obtain⟨X,a,rfl⟩:=nZ g;exact(be h e λv d=>zQ h h0 a d).toR h
   .cases e
  .cases e
 .refine(be (m:=Builtin.max_ ts ty ys.toArray) h e λv d=>?_).toR h;cases args with
  |nil=>cases d
  |cons x r =>obtain⟨X,q,a,hr,rfl⟩:=bp.1 g;exact kg zH r q x X v hr a d
 .refine(be (m:=Builtin.min_ ts ty ys.toArray) h e λv d=>?_).toR h;cases args with
  |nil=>cases d
  |cons x r =>obtain⟨X,q,a,hr,rfl⟩:=bp.1 g;exact kg zF r q x X v hr a d
 .cases e;exact⟨rfl,h⟩
 .split at e
  .rename_i t0 h0;split at e
   .rename_i x;obtain⟨X,a,rfl⟩:=nZ g;exact(be h e λv d=>Bm h0 a d).toR h
   .cases e
  .cases e
 .split at e
  .rename_i tt v;cases e;obtain⟨X,a,rfl⟩:=nZ g;refine⟨X,a,?_,h⟩;simp only[den]at a;split at a
   .cases a;simp[Go.builtin,Instr.panic]
   .cases a
  .cases e
 .cases e
def Lc.entry:Lc->Array Value->Sem Value
 |.indexByte=>Extern.BytealgIndexByte.indexByte
 |.count=>Extern.BytealgCount.count
structure jf(E:dI):Prop where
 ext:∀ f k fn,E.ext f=some k->E.P.funcs[f]? = some fn->fn.body=none->(fn.name == "runtime.NumGoroutine")=false/\Extern.findNext fn=none/\Extern.find fn=some k.entry
theorem Nh(x c:Nat):(UInt8.ofNat x==UInt8.ofNat c)=Nat.beq (Nat.mod x 256) (Nat.mod c 256):=by
 rw[afw];simp only[ajX,Nat.beq_eq];constructor
 .intro h;have:=aib UInt8.toNat h;simp at this;exact this
 .intro h;apply UInt8.toNat_inj.1;simp;exact h
theorem tK(c:Nat):∀(l:List Nat) (i:Nat),(match iU (Nat.mod c 256) l i with|some j=>(Int.ofNat j)|none=>-1)=if Lib.indexByte (l.map UInt8.ofNat) (UInt8.ofNat c)=-1 then -1 else Lib.indexByte (l.map UInt8.ofNat) (UInt8.ofNat c)+i
 |[],i=>rfl
 |x::l,i=>by
  have ih:=tK c l (i+1);have hge:=Lib.indexByte_ge (l.map UInt8.ofNat) (UInt8.ofNat c);simp only[iU,acg,Lib.indexByte,Nh]
  grind
theorem Bg(c:Nat):∀(l:List Nat),countByte (Nat.mod c 256) l=Lib.countByte (l.map UInt8.ofNat) (UInt8.ofNat c)
 |[]=>rfl
 |x::l=>by
  have ih:=Bg c l;simp only[countByte,acg,Lib.countByte,List.count_cons,Nh]at ih ⊢
  grind
theorem Cp{k:Lc}{args:List V}{ys:List Value}(d:bg ρ args=some ys){v:V}(e:Ft k args=some v) :
 ∃ y,den ρ v=some y/\(k.entry ys.toArray).run P w=.ok y w:=by
 unfold Ft at e;split at e
 .rename_i l c;obtain⟨X,Y,g,hy,rfl⟩:=MQ d;cases g;cases hy;have hl:(aK l).data.toList=l.map UInt8.ofNat:=by simp[aK]
  have hc:(Int.ofNat c).toNat.toUInt8=UInt8.ofNat c:=rfl;split at e
  .have:=Lib.run_indexByteString (P:=P) (aK l) (Int.ofNat c) w;have a:=tK c l 0;rw[hl,hc]at this;refine⟨_,?_,this⟩;simp only[abf]at e;subst e;have hge:=Lib.indexByte_ge (l.map UInt8.ofNat) (UInt8.ofNat c);generalize Lib.indexByte (l.map UInt8.ofNat) (UInt8.ofNat c)=r at *;cases b:iU (Nat.mod c 256) l 0 with
   |none =>
    rw[b]at a;simp only at a ⊢;by_cases hr:r=-1
    .subst hr;rfl
    .rw[afp hr]at a;simp at a;omega
   |some j =>
    rw[b]at a;simp only at a ⊢;by_cases hr:r=-1
    .rw[agC hr]at a;simp at a
    .rw[afp hr]at a;simp at a;rw[<- a];rfl
  .have:=Lib.run_countString (P:=P) (aK l) (Int.ofNat c) w;rw[hl,hc]at this;refine⟨_,?_,this⟩;simp only[abf]at e;subst e;rw[cr,Bg];rfl
 .cases e
theorem Iv{E:dI}(d:jf E)(h:HR ρ s w){f:FuncId}{args:List V}{ys:List Value}(a:bg ρ args=some ys){nx:Nx}(e:Nc E f args s=some nx) :
 IR E.P ρ w nx ((callFunc f ys.toArray).run E.P w):=by
 unfold Nc at e;split at e
 .cases e
 .rename_i fn b;split at e
  .rename_i hb;split at e
   .rename_i k hk;obtain⟨g,j,m⟩:=d.ext f k fn hk b hb;unfold bL at e;split at e
    .rename_i v n;cases e;obtain⟨y,q,u⟩:=Cp (P:=E.P) (w:=w) a n;exact⟨ρ,y,w,by rw[run_callFunc_extern b g (by simp[hb]) j m,u];rfl,q,h,FR.refl ρ w⟩
    .cases e
   .cases e
  .cases e;exact⟨ys,a,rfl,h⟩
theorem Aj{fn:Fn}{first cap:List V}{X:Value}(h:den ρ (.func fn first cap)=some X):∃ g a b,oD ρ fn=some g/\bg ρ first=some a/\bg ρ cap=some b/\X=.func g a.toArray b.toArray:=by grind [den]
theorem BB(a:TR ρ t tm){args:Array Operand}{vs:List V}(h:iq t args.toList=some vs):∃ ys,bg ρ vs=some ys/\args.map (rv tm)=ys.toArray :=
 ⟨_,lw a h,by simp[<- Array.toList_inj]⟩
theorem FW{E:dI}(z:jf E)(h:HR ρ s w)(q:TR ρ t tm){c:Call}{ty:TypeId}{nx:Nx}(e:iI E t s c.argTypes (iq t c.args.toList) c.callee=some nx) :
 IR E.P ρ w nx ((do let d <- resolve (rv tm) c ty;invoke d.target d.args:Sem Next).run E.P w):=by
 unfold iI at e;split at e
 .rename_i args A;obtain⟨ys,m,u⟩:=BB q A;split at e
  .rename_i b hc;simp only[resolve,hc,abr,afe,abm,invoke,u];exact Iw h m e
  .rename_i f hc;unfold Nb at e;split at e
   .rename_i fn first cap B
    obtain⟨g,a,b,j,y,F,G⟩:=Aj (aI q B);simp only[resolve,hc,G,Deferred.ofValue,abr,afe,abm,u];split at e
    .rename_i g';cases j;have:=Iv z h (dH y (dH m F)) e;simpa[invoke]using this
    .rename_i l;simp only[oD]at j;split at j
     .rename_i lb n;cases j;cases e;exact⟨lb,a++ys,n,dH y m,by simp[invoke],h⟩
     .cases j
    .cases e
   .cases e
  .cases e
 .cases e
theorem Cv(h:HR ρ s w)(d:TR ρ t tm){c:Call}{ty:TypeId}{nx:Nx}(e:qG t s (iq t c.args.toList) c.callee=some nx) :
 IR P ρ w nx ((do pure (.defer (<- resolve (rv tm) c ty)):Sem Next).run P w):=by
 unfold qG at e;split at e
 .rename_i args j;obtain⟨ys,m,n⟩:=BB d j;split at e
  .rename_i f hc;unfold FJ at e;split at e
   .rename_i fn first cap q
    cases e;obtain⟨g,a,b,u,y,z,A⟩:=Aj (aI d q);refine⟨_,⟨g,b,a++ys,u,z,dH y m,rfl⟩,?_,h⟩;simp[resolve,hc,A,Deferred.ofValue,n]
   .cases e
  .cases e
 .cases e
theorem Cr(h:HR ρ s w)(b:TR ρ t tm){x:Operand}{nx:Nx}(e:ye s (eval t x)=some nx) :
 IR P ρ w nx ((do pure (Next.value (<- Instr.panic (rv tm x))):Sem Next).run P w):=by
 unfold ye at e;split at e
 .rename_i tt v d;cases e;have a:=aI b d;refine⟨_,a,?_,h⟩;generalize rv tm x=X at *;simp only[den]at a;split at a
  .cases a;simp[Instr.panic]
  .cases a
 .cases e
theorem tu(h:HR ρ s w)(a:TR ρ t tm){x:Operand}{nx:Nx}(e:bL s (eval t x)=some nx):BL P ρ w s nx ((pure (Next.value (rv tm x)):Sem Next).run P w):=by
 unfold bL at e;split at e
 .rename_i v b;cases e;exact⟨_,_,rfl,rfl,aI a b⟩
 .cases e
theorem nD{E:dI}(g:jf E)(h:HR ρ s w)(d:TR ρ t tm)(o:Oper){nx:Nx}(e:dC E t s o=some nx):IR E.P ρ w nx ((execOp (rv tm) o).run E.P w):=by
 obtain⟨dst,op,type,pos,after,guard⟩:=o;unfold dC at e;simp only at e;cases op<;>simp only[dj]at e<;>try(cases e;done)
 case move x=>exact(tu h d e).toR h
 case assign x=>exact(tu h d e).toR h
 case pick c a b=>exact(tW h d e).toR h
 case alloc elem=>exact Ct h e
 case box elem x=>exact HY h d e
 case build ty parts=>exact(rA h d e).toR h
 case buildSlice ty len parts=>exact sq h d e
 case load ty x=>exact(tY h d e).toR h
 case store ty x y=>exact Cq h d e
 case nilCheck x=>exact(my h d e).toR h
 case binOp op ty x y z=>exact(wQ h d e).toR h
 case unOp op ty x=>exact(Ba h d e).toR h
 case convert src dst x=>exact FE h d e
 case makeInterface ty x=>exact(oB h d e).toR h
 case makeFunc fn first cap=>exact(pR h d e).toR h
 case makeMap ty r =>
  cases r with
  |none=>cases e;exact xu h
  |some _=>cases e
 case makeSlice ty l c=>exact xq h d e
 case slice ty x lo hi mx=>exact(rx h d e).toR h
 case fieldAddr ty x f=>exact(lB h d e).toR h
 case field ty x f=>exact(rz h d e).toR h
 case indexAddr ty x i=>exact(lA h d e).toR h
 case index ty x i=>exact(ry h d e).toR h
 case lookup ty x k ok=>exact(pS h d e).toR h
 case mapUpdate ty m k x=>exact lz h d e
 case insert ty m k x=>exact lz h d e
 case typeAssert x xt ty ok=>exact(pT h d e).toR h
 case extract x i=>exact(oC h d e).toR h
 case call c=>exact FW g h d e
 case defer c=>exact Cv h d e
 case panic x=>exact Cr h d e
end ops
def om(ρ:aJ):List Gm->List PanicEntry->Prop
 |[],[]=>True
 |p::ps,e::es=>(den ρ p.v=some e.v/\p.recovered=e.recovered/\e.goexit=false)/\om ρ ps es
 |_,_=>False
theorem om.mono{ρ ρ':aJ}(h:ρ.le ρ'):∀ {c:List Gm} {ch:List PanicEntry},om ρ c ch->om ρ' c ch
 |[],[],_=>trivial
 |_::_,_::_,⟨⟨a,b⟩,k⟩=>⟨⟨bM h _ _ a,b⟩,om.mono h k⟩
 |[],_::_,k=>k.elim
 |_::_,[],k=>k.elim
theorem om.append{ρ:aJ}:∀ {c d:List Gm} {ch dh:List PanicEntry},om ρ c ch->om ρ d dh->om ρ (c++d) (ch++dh)
 |[],_,[],_,_,k=>k
 |_::_,_,_::_,_,⟨a,h⟩,k=>⟨a,om.append h k⟩
 |[],_,_::_,_,h,_=>h.elim
 |_::_,_,[],_,h,_=>h.elim
def Th(ρ:aJ):Md->FrameMode->Prop
 |.run,.run=>True
 |.returning,.returning=>True
 |.panicking c,.panicking ch=>om ρ c ch
 |_,_=>False
theorem Th.mono{ρ ρ':aJ}(h:ρ.le ρ'){m:Md}{a:FrameMode}(k:Th ρ m a):Th ρ' m a:=by cases m<;>cases a<;>first|exact k|exact om.mono h k
theorem OZ.mono{ρ ρ':aJ}(h:ρ.le ρ'){d:eO}{r:Deferred}(k:OZ ρ d r):OZ ρ' d r:=by
 cases d with
 |call fn cap args =>obtain⟨g,c,a,b,e,j,m⟩:=k;exact⟨g,c,a,Be h b,fU h _ _ e,fU h _ _ j,m⟩
 |collected r =>obtain⟨l,b,e⟩:=k;exact⟨l,h _ _ _ b,e⟩
def Ea(ρ:aJ):List eO->List Deferred->Prop
 |[],[]=>True
 |d::ds,r::rs=>OZ ρ d r/\Ea ρ ds rs
 |_,_=>False
theorem Ea.mono{ρ ρ':aJ}(h:ρ.le ρ'):∀ {c:List eO} {ch:List Deferred},Ea ρ c ch->Ea ρ' c ch
 |[],[],_=>trivial
 |_::_,_::_,⟨a,k⟩=>⟨a.mono h,Ea.mono h k⟩
 |[],_::_,k=>k.elim
 |_::_,[],k=>k.elim
def Ti(ρ:aJ):End->Ending->Prop
 |.returned v,.returned y=>den ρ v=some y
 |.panicked c,.panicked ch=>om ρ c ch
 |_,_=>False
def cF(c:Frame):Ending->Frame
 |.returned v=>c.finish v
 |.panicked ch=>c.raise ch
 |.outgrown=>c
def RdR(ρ:aJ)(up:Option Md)(rd ro:Option Nat):Prop:=match rd with
 |none=>ro=none
 |some l=>up=none/\∃ lb:BR,ρ l 0=some lb/\ro=some lb.b
def UpR(ρ:aJ)(up:Option Md)(kind:CallKind)(cs:List Frame):Prop:=match up with
 |none=>kind=.normal
 |some u=>kind=.deferred/\∃ c cs',cs=c::cs'/\Th ρ u c.mode
structure kK(P:Program)(ρ:aJ)(f:FuncId)(fn:Func)(t:T V)(todo:List Item)(ds:List eO)(m:Md)(up:Option Md)(rd:Option Nat)(fr:Frame)(cs:List Frame):Prop where
 name:fr.fn=f
 func:P.funcs[f]? = some fn
 tr:TR ρ t fr.tmps
 size:fn.ntmps<=fr.tmps.size
 todo:m=.run->fr.todo=todo
 ds:Ea ρ ds fr.defers
 md:Th ρ m fr.mode
 rd:RdR ρ up rd fr.roundOf
 up:UpR ρ up fr.kind cs
def jL(P:Program)(f:FuncId)(up rd:Bool)(cs:List Frame)(M:Machine)(ρ:aJ)(w:World)(out:ft):Prop :=
 ∃ ρ' w',HR ρ' out.s w'/\FR ρ w ρ' w' /\
  match rd,up with
  |true,_=>∀ c cs',cs=c::cs'->∃ e,Ti ρ' out.e e/\Steps P M (lone (cF c e) cs' w')
  |false,false=>∃ fr' e,Ti ρ' out.e e/\Steps P M (lone fr' cs w')/\fr'.fn=f/\fr'.leaving P w' e
  |false,true=>∀ c cs',cs=c::cs'->∃ fr' e u a,out.up=some u/\Th ρ' u a/\Ti ρ' out.e e /\
   Steps P M (lone fr' ({ c with mode:=a }::cs') w')/\fr'.kind=.deferred/\fr'.going P w' e
theorem jL.of_steps{P:Program}{f:FuncId}{up rd:Bool}{cs:List Frame}{M M0:Machine}{ρ ρ1:aJ}{w m:World}{out:ft}(d:Steps P M0 M)(n:FR ρ w ρ1 m)(h:jL P f up rd cs M ρ1 m out) :
 jL P f up rd cs M0 ρ w out:=by
 obtain⟨ρ',w',q,y,g⟩:=h;refine⟨ρ',w',q,n.trans y,?_⟩;cases rd with
 |true=>intro c cs' hc;obtain⟨e,a,b⟩:=g c cs' hc;exact⟨e,a,d.trans b⟩
 |false=>cases up with
  |false=>obtain⟨fr',e,a,b,j⟩:=g;exact⟨fr',e,a,d.trans b,j⟩
  |true=>intro c cs' hc;obtain⟨fr',e,u,z,a,b,j,A,B⟩:=g c cs' hc;exact⟨fr',e,u,z,a,b,j,d.trans A,B⟩
theorem jL.of_mode{P:Program}{f:FuncId}{c:Frame}{cs:List Frame}{M:Machine}{ρ:aJ}{w:World}{out:ft}{a:FrameMode}(h:jL P f true false ({ c with mode:=a }::cs) M ρ w out) :
 jL P f true false (c::cs) M ρ w out:=by
 obtain⟨ρ',w',b,d,e⟩:=h;refine⟨ρ',w',b,d,λc1 Tq hc=>?_⟩;cases hc;exact e { c with mode:=a } cs rfl
def Gi(P:Program)(f:FuncId)(fn:Func)(t:T V)(todo:List Item)(ds:List eO)(m:Md)(up:Option Md)(rd:Option Nat)(s:S)(out:ft):Prop :=
 ∀ ρ w fr cs,HR ρ s w->kK P ρ f fn t todo ds m up rd fr cs->jL P f up.isSome rd.isSome cs (lone fr cs w) ρ w out
def Zw:Option Md->CallKind
 |none=>.normal
 |some _=>.deferred
def gu(P:Program)(f:FuncId)(args:List V)(up:Option Md)(s:S)(out:ft):Prop :=
 ∀ ρ w ys,HR ρ s w->bg ρ args=some ys->(∀ w,(callFunc f ys.toArray).run P w=.ok (.enter f ys.toArray) w) /\
  ∀ cs,(∀ u,up=some u->∃ c cs',cs=c::cs'/\Th ρ u c.mode)->jL P f up.isSome false cs (lone (Frame.enter P f ys.toArray (Zw up)) cs w) ρ w out
def Tc(P:Program)(l:Nat)(args:List V)(s:S)(out:ft):Prop :=
 ∀ ρ w lb ys,HR ρ s w->ρ l 0=some lb->bg ρ args=some ys ->
  ∃ f tmps assign body,(Instr.yield lb.b ys.toArray).run P w=.ok (.round lb.b f tmps assign body) w /\
   ∀ cs,jL P f false true cs (lone (Frame.round lb.b f tmps assign body .normal) cs w) ρ w out
def afc(P:Program):uv->S->ft->Prop
 |.frame f fn t todo ds m up rd,s,out=>Gi P f fn t todo ds m up rd s out
 |.call f args up,s,out=>gu P f args up s out
 |.round l args,s,out=>Tc P l args s out
def Good(P:Program)(ih:uv->S->Option ft):Prop:=∀ j s out,ih j s=some out->afc P j s out
section steps
variable{P:Program}{fr:Frame}{k:List Item}{cs:List Frame}{w:World}
theorem TI(hm:fr.mode=.run)(a:fr.todo=.code .skip::k):step P (lone fr cs w)=.next (lone { fr with todo:=k } cs w):=afr (by simp[stepG,stepG.exec,hm,a])
theorem PM{l:Nat}(hm:fr.mode=.run)(a:fr.todo=.code (.label l)::k):step P (lone fr cs w)=.next (lone { fr with todo:=k } cs w):=afr (by simp[stepG,stepG.exec,hm,a])
theorem Jp{l:Nat}(hm:fr.mode=.run)(a:fr.todo=.inBlock l::k):step P (lone fr cs w)=.next (lone { fr with todo:=k } cs w):=afr (by simp[stepG,stepG.exec,hm,a])
theorem Jo{c:Code}(hm:fr.mode=.run)(a:fr.todo=.inScope c::k):step P (lone fr cs w)=.next (lone { fr with todo:=k } cs w):=afr (by simp[stepG,stepG.exec,hm,a])
theorem Yt{a b:Code}(hm:fr.mode=.run)(d:fr.todo=.code (.seq a b)::k):step P (lone fr cs w)=.next (lone { fr with todo:=.code a::.code b::k } cs w):=afr (by simp[stepG,stepG.exec,hm,d])
theorem TL{c:Operand}{a b:Code}{q:Bool}(hm:fr.mode=.run)(d:fr.todo=.code (.cond c a b)::k)(hc:rv fr.tmps c=.bool q):step P (lone fr cs w)=.next (lone { fr with todo:=.code (if q then a else b)::k } cs w) :=
 afr (by
  have e:fr.eval c=.bool q:=by rw[se];exact hc
  simp[stepG,stepG.exec,hm,d,e])
theorem PO{id:Nat}{c:Code}(hm:fr.mode=.run)(a:fr.todo=.code (.block id c)::k):step P (lone fr cs w)=.next (lone { fr with todo:=.code c::.inBlock id::k } cs w):=afr (by simp[stepG,stepG.exec,hm,a])
theorem xH{c:Code}(hm:fr.mode=.run)(a:fr.todo=.code (.loop c)::k):step P (lone fr cs w)=.next (lone { fr with todo:=.code c::.inLoop c::k } cs w):=afr (by simp[stepG,stepG.exec,hm,a])
theorem NH{c:Code}(hm:fr.mode=.run)(a:fr.todo=.inLoop c::k):step P (lone fr cs w)=.next (lone { fr with todo:=.code c::.inLoop c::k } cs w):=afr (by simp[stepG,stepG.exec,hm,a])
theorem PJ{c:Code}(hm:fr.mode=.run)(a:fr.todo=.code (.scope c)::k):step P (lone fr cs w)=.next (lone { fr with todo:=.code c::.inScope c::k } cs w):=afr (by simp[stepG,stepG.exec,hm,a])
theorem TK{id:Nat}{a:List Item}(hm:fr.mode=.run)(b:fr.todo=.code (.exit id)::k)(h:exitTo id k=some a):step P (lone fr cs w)=.next (lone { fr with todo:=a } cs w):=afr (by simp[stepG,stepG.exec,hm,b,h])
theorem TJ{l:Nat}{a:List Item}(hm:fr.mode=.run)(b:fr.todo=.code (.goto l)::k)(h:gotoIn l k=some a):step P (lone fr cs w)=.next (lone { fr with todo:=a } cs w):=afr (by simp[stepG,stepG.exec,hm,b,h])
theorem Yu(hm:fr.mode=.run)(a:fr.todo=.code .ret::k)(hr:fr.roundOf=none):step P (lone fr cs w)=.next (lone { fr with mode:=.returning } cs w):=afr (by simp[stepG,stepG.exec,hm,a,hr])
theorem Yw(hm:fr.mode=.run)(a:fr.todo=[])(hr:fr.roundOf=none):step P (lone fr cs w)=.next (lone { fr with mode:=.returning } cs w):=afr (by simp[stepG,stepG.exec,hm,a,hr])
theorem NG{id:Nat}{ops:Array Oper}(hm:fr.mode=.run)(a:fr.todo=.code (.region id ops false)::k):step P (lone fr cs w)=.next (lone { fr with todo:=.inRegion ops (List.range ops.size)::k } cs w):=afr (by simp[stepG,stepG.exec,hm,a])
theorem sL{ops:Array Oper}(hm:fr.mode=.run)(a:fr.todo=.inRegion ops []::k):step P (lone fr cs w)=.next (lone { fr with todo:=k } cs w):=afr (by simp[stepG,stepG.exec,hm,a])
theorem iR{ops:Array Oper}{i:Nat}{rest:List Nat}(hm:fr.mode=.run)(a:fr.todo=.inRegion ops (i::rest)::k)(h:((ops[i]?).map (Region.wanted · (yielded ops fr.tmps))).getD false=false) :
 step P (lone fr cs w)=.next (lone (fr.finish undef) cs w):=afr (by simp[stepG,stepG.exec,hm,a,h])
theorem iw{ops:Array Oper}{i:Nat}{rest:List Nat}{o:Oper}(hm:fr.mode=.run)(b:fr.todo=.inRegion ops (i::rest)::k)(ho:ops[i]? = some o)(d:Region.wanted o (yielded ops fr.tmps)=true)
 (a:fr.roundOf=none\/∀ c,o.op≠.defer c) :
 stepG P true { frame:=fr,callers:=cs,status:=.running,dying:=none } w=stepG.apply P true fr cs none (execOp (rv fr.tmps) o) w:=by
 have e:fr.eval=rv fr.tmps:=se fr;rcases a with a|a
 .simp[stepG,stepG.exec,stepG.oper,Frame.oper?,hm,b,ho,d,e,a]
 .cases hr:fr.roundOf with
  |none=>simp[stepG,stepG.exec,stepG.oper,Frame.oper?,hm,b,ho,d,e,hr]
  |some l =>
   simp only[stepG,stepG.exec,stepG.oper,Frame.oper?,hm,b,ho,d,e,hr,aiB,ajv,ajY];split
   .rename_i hc;exact absurd hc (a _)
   .rfl
end steps
theorem Ak{P:Program}{ρ:aJ}{f:FuncId}{fn:Func}{t:T V}{todo:List Item}{ds:List eO}{up:Option Md}{rd:Option Nat}{fr:Frame}{cs:List Frame}
 (h:kK P ρ f fn t todo ds .run up rd fr cs):fr.mode=.run:=by
 have:=h.md;cases hm:fr.mode<;>rw[hm]at this<;>first|rfl|exact this.elim
theorem kK.to{P:Program}{ρ:aJ}{f:FuncId}{fn:Func}{t:T V}{todo:List Item}{ds:List eO}{up:Option Md}{rd:Option Nat}{fr:Frame}{cs:List Frame}
 (h:kK P ρ f fn t todo ds .run up rd fr cs) (todo':List Item):kK P ρ f fn t todo' ds .run up rd { fr with todo:=todo' } cs :=
 ⟨h.name,h.func,h.tr,h.size,λ_=>rfl,h.ds,h.md,h.rd,h.up⟩
theorem kK.mono{P:Program}{ρ ρ':aJ}(hl:ρ.le ρ'){f:FuncId}{fn:Func}{t:T V}{todo:List Item}{ds:List eO}{m:Md}{up:Option Md}{rd:Option Nat}{fr:Frame}{cs:List Frame}
 (h:kK P ρ f fn t todo ds m up rd fr cs):kK P ρ' f fn t todo ds m up rd fr cs:=by
 refine⟨h.name,h.func,h.tr.mono hl,h.size,h.todo,h.ds.mono hl,h.md.mono hl,?_,?_⟩
 .have:=h.rd;cases rd with
  |none=>exact this
  |some l=>obtain⟨a,lb,b,d⟩:=this;exact⟨a,lb,hl _ _ _ b,d⟩
 .have:=h.up;cases up with
  |none=>exact this
  |some u=>obtain⟨a,c,cs',b,d⟩:=this;exact⟨a,c,cs',b,d.mono hl⟩
theorem dZ{P:Program}{ρ:aJ}{w:World}{f:FuncId}{fn:Func}{t':T V}{todo':List Item}{ds':List eO}{b:Md}{up:Option Md}{rd:Option Nat}{fr fr':Frame}{cs:List Frame}{s:S}{out:ft}
 (h:HR ρ s w) (d:step P (lone fr cs w)=.next (lone fr' cs w)) (e:kK P ρ f fn t' todo' ds' b up rd fr' cs) (a:Gi P f fn t' todo' ds' b up rd s out):jL P f up.isSome rd.isSome cs (lone fr cs w) ρ w out :=
 jL.of_steps (.one d) (FR.refl ρ w) (a _ _ _ _ h e)
def ur(up:Option Md)(cs cs':List Frame):Prop:=match up with
 |none=>cs'=cs
 |some _=>∃ c tl u,cs=c::tl/\cs'={ c with mode:=u }::tl
theorem ur.refl{P:Program}{ρ:aJ}{f:FuncId}{fn:Func}{t:T V}{todo:List Item}{ds:List eO}{m:Md}{up:Option Md}{rd:Option Nat}{fr:Frame}{cs:List Frame}
 (h:kK P ρ f fn t todo ds m up rd fr cs):ur up cs cs:=by
 have:=h.up;cases up with
 |none=>rfl
 |some u=>obtain⟨_,c,cs',a,_⟩:=this;exact⟨c,cs',c.mode,a,a⟩
theorem ur.trans{up up':Option Md}(d:up'.isSome=up.isSome){a b c:List Frame}(h:ur up a b)(k:ur up' b c):ur up a c:=by
 cases up with
 |none=>cases up' with
  |none=>exact aki k h
  |some _=>cases d
 |some _=>cases up' with
  |none=>cases d
  |some _ =>obtain⟨c1,e,u1,rfl,rfl⟩:=h;obtain⟨c2,t2,g,j,rfl⟩:=k;cases j;exact⟨c1,e,g,rfl,rfl⟩
theorem jL.of_tops{P:Program}{f:FuncId}{up:Option Md}{rd:Option Nat}{cs cs':List Frame}{M:Machine}{ρ:aJ}{w:World}{out:ft}(hr:up.isSome=true->rd=none)
 (a:ur up cs cs') (h:jL P f up.isSome rd.isSome cs' M ρ w out):jL P f up.isSome rd.isSome cs M ρ w out:=by
 cases up with
 |none=>cases a;exact h
 |some u =>cases hr rfl;obtain⟨c,tl,u1,rfl,rfl⟩:=a;exact jL.of_mode h
theorem kK.lone_up{P:Program}{ρ:aJ}{f:FuncId}{fn:Func}{t:T V}{todo:List Item}{ds:List eO}{m:Md}{up:Option Md}{rd:Option Nat}{fr:Frame}{cs:List Frame}
 (h:kK P ρ f fn t todo ds m up rd fr cs):up.isSome=true->rd=none:=by
 intro a;have:=h.rd;cases rd with
 |none=>rfl
 |some l=>rw[this.1]at a;cases a
def putD(t:T V)(d:Option Tmp)(v:V):T V:=oE t d (some v) id
theorem cI{β:Type}(t:T V)(d:Option Tmp)(v:V)(k:T V->β):oE t d (some v) k=k (putD t d v):=Uj t d (some v) k
def iB(tm:Array Value)(d:Option Tmp)(y:Value):Array Value:=match d with
 |some i=>tm.setIfInBounds i y
 |none=>tm
theorem TR.putD{ρ:aJ}{t:T V}{tm:Array Value}(h:TR ρ t tm){d:Option Tmp}{v:V}{y:Value}(a:den ρ v=some y)(b:∀ i,d=some i->i<tm.size):TR ρ (AI.putD t d v) (iB tm d y):=by
 cases d with
 |none=>exact h
 |some i =>have:=TR.put h a (b i rfl);exact this
theorem Dy{fr:Frame}{ops:Array Oper}{i:Nat}{rest:List Nat}{k:List Item}{o:Oper}(a:fr.todo=.inRegion ops (i::rest)::k)(ho:ops[i]? = some o)(y:Value) :
 fr.finish y={ fr with tmps:=iB fr.tmps o.dst y,todo:=.inRegion ops rest::k }:=by
 simp only[Frame.finish,a,ho,akf,iB];cases o.dst<;>rfl
section
variable{P:Program}{ρ:aJ}{f:FuncId}{fn:Func}{t:T V}{ds:List eO}{up:Option Md}{rd:Option Nat}{fr:Frame}{cs:List Frame}{ops:Array Oper}{i:Nat}{rest:List Nat}{k:List Item}{o:Oper}
theorem kK.finish(h:kK P ρ f fn t (.inRegion ops (i::rest)::k) ds .run up rd fr cs)(ho:ops[i]? = some o)(a:∀ d,o.dst=some d->d<fn.ntmps){v:V}{y:Value}(b:den ρ v=some y) :
 kK P ρ f fn (putD t o.dst v) (.inRegion ops rest::k) ds .run up rd (fr.finish y) cs:=by
 rw[Dy (h.todo rfl) ho];refine⟨h.name,h.func,h.tr.putD b λi hi=>afs (a i hi) h.size,?_,λ_=>rfl,h.ds,h.md,h.rd,h.up⟩;show fn.ntmps<=(iB fr.tmps o.dst y).size;have:=h.size;unfold iB;split<;>simpa using this
theorem fj(h:TR ρ t fr.tmps){b:Bool}(e:bT ops t o=some b):Region.wanted o (yielded ops fr.tmps)=b:=by
 unfold bT at e;unfold Region.wanted;split at e
 .grind
 .rename_i j want u;rw[u];split at e
  .rename_i d n;split at e
   .rename_i q g;obtain⟨y,a,m⟩:=h d _ g;cases a;cases e;simp[yielded,n,m]
   .rename_i q g;obtain⟨y,a,m⟩:=h d _ g;cases e;simp only[den]at a;split at a
    .cases a;simp[yielded,n,m]
    .cases a
   .cases e
  .cases e
end
def ROk(P:Program)(ρ:aJ)(w:World)(f:FuncId)(fn:Func)(k:List Item)(up:Option Md)(rd:Option Nat)(cs:List Frame)(M:Machine)(r:kO):Prop :=
 ∃ ρ' w' fr' cs',Steps P M (lone fr' cs' w')/\FR ρ w ρ' w'/\ur up cs cs'/\match r with
  |.on t' ds' up' s'=>HR ρ' s' w'/\kK P ρ' f fn t' k ds' .run up' rd fr' cs'/\up'.isSome=up.isSome
  |.panicked c t' ds' up' s'=>HR ρ' s' w'/\kK P ρ' f fn t' k ds' (.panicking c) up' rd fr' cs'/\up'.isSome=up.isSome
theorem ROk.of_steps{P:Program}{ρ ρ1:aJ}{w b:World}{f:FuncId}{fn:Func}{k:List Item}{up up1:Option Md}{rd:Option Nat}{cs Tq:List Frame}{M M0:Machine}{r:kO}
 (e:Steps P M0 M) (g:FR ρ w ρ1 b) (j:ur up cs Tq) (d:up1.isSome=up.isSome) (h:ROk P ρ1 b f fn k up1 rd Tq M r):ROk P ρ w f fn k up rd cs M0 r:=by
 obtain⟨ρ',w',fr',cs',m,n,q,a⟩:=h;refine⟨ρ',w',fr',cs',e.trans m,g.trans n,j.trans d q,?_⟩;cases r<;>(simp only at a ⊢;exact⟨a.1,a.2.1,a.2.2.trans d⟩)
theorem so{ops:Array Oper}{n:Nat}(h:mw ops n=true){i:Nat}{o:Oper}(ho:ops[i]? = some o):∀ d,o.dst=some d->d<n:=by
 intro d hd
 have:=afx.1 h o (by have:=Array.mem_of_getElem? ho;simpa using this)
 simp_all
theorem bC{fr:Frame}(hm:fr.mode=.run)(ch:List PanicEntry):fr.raise ch={ fr with mode:=.panicking ch }:=by simp[Frame.raise,hm]
theorem mg{E:dI}{ih:uv->S->Option ft}(j:Good E.P ih){ρ:aJ}{w:World}{s:S}(h:HR ρ s w){f:FuncId}{args:List V}{ys:List Value}(m:bg ρ args=some ys){out:ft}
 (e:bO ih f args none s=some out):(∀ w,(callFunc f ys.toArray).run E.P w=.ok (.enter f ys.toArray) w)/\∀ c cs,∃ ρ' w' e,HR ρ' out.s w'/\FR ρ w ρ' w'/\Ti ρ' out.e e /\
  Steps E.P (lone (Frame.enter E.P f ys.toArray .normal) (c::cs) w) (lone (cF c e) cs w'):=by
 have n:=j (.call f args none) s out e;obtain⟨q,y⟩:=n ρ w ys h m;refine⟨q,λc cs=>?_⟩;obtain⟨ρ',w',z,A,fr',d,b,B,k5,g⟩:=y (c::cs) (λu F=>by cases F);refine⟨ρ',w',d,z,A,b,B.trans (.one ?_)⟩;cases d with
 |returned v=>exact step_leave_returned g
 |panicked ch=>exact step_leave_panicked g
 |outgrown=>cases a:out.e<;>rw[a]at b<;>exact b.elim
section ap
variable{P:Program}{fr:Frame}{cs:List Frame}{w w':World}{sem:Sem Next}
theorem qa{v:Value}(hst:stepG P true { frame:=fr,callers:=cs,status:=.running,dying:=none } w=stepG.apply P true fr cs none sem w)(hr:sem.run P w=.ok (.value v) w') :
 step P (lone fr cs w)=.next (lone (fr.finish v) cs w'):=afr (by rw[hst];simp[stepG.apply,hr])
theorem Gb(hst:stepG P true { frame:=fr,callers:=cs,status:=.running,dying:=none } w=stepG.apply P true fr cs none sem w)(hr:sem.run P w=.ok .skip w') :
 step P (lone fr cs w)=.next (lone (fr.finish undef) cs w'):=afr (by rw[hst];simp[stepG.apply,hr])
theorem um{ops:Array Oper}{l:List Nat}{k:List Item}{f:FuncId}{args:Array Value}(a:fr.todo=.inRegion ops l::k)(hst:stepG P true { frame:=fr,callers:=cs,status:=.running,dying:=none } w=stepG.apply P true fr cs none sem w)(hr:sem.run P w=.ok (.enter f args) w') :
 step P (lone fr cs w)=.next (lone (Frame.enter P f args .normal) (fr::cs) w'):=afr (by rw[hst];simp[stepG.apply,hr,a])
theorem SO{l:Nat}{f:FuncId}{tmps:Array Value}{a b:Code}(hst:stepG P true { frame:=fr,callers:=cs,status:=.running,dying:=none } w=stepG.apply P true fr cs none sem w)(hr:sem.run P w=.ok (.round l f tmps a b) w') :
 step P (lone fr cs w)=.next (lone (Frame.round l f tmps a b .normal) (fr::cs) w'):=afr (by rw[hst];simp[stepG.apply,hr])
theorem SP{d:Deferred}(hst:stepG P true { frame:=fr,callers:=cs,status:=.running,dying:=none } w=stepG.apply P true fr cs none sem w)(hr:sem.run P w=.ok (.defer d) w') :
 step P (lone fr cs w)=.next (lone ({ fr with defers:=d::fr.defers }.finish undef) cs w'):=afr (by rw[hst];simp[stepG.apply,hr])
theorem IF{v:Value}(hst:stepG P true { frame:=fr,callers:=cs,status:=.running,dying:=none } w=stepG.apply P true fr cs none sem w)(hr:sem.run P w=.halt (.panic v) w') :
 step P (lone fr cs w)=.next (lone (fr.raise [{ v,recovered:=false }]) cs w'):=afr (by rw[hst];simp[stepG.apply,hr])
theorem xw{v:Value}{cs':List Frame}(a:fr.roundOf=none)(b:tryRecover fr cs=some (v,cs'))(hst:stepG P true { frame:=fr,callers:=cs,status:=.running,dying:=none } w=stepG.apply P true fr cs none sem w)(hr:sem.run P w=.ok .recover w') :
 step P (lone fr cs w)=.next (lone (fr.finish v) cs' w'):=afr (by rw[hst];simp[stepG.apply,hr,a,b])
theorem xy(a:fr.roundOf=none)(b:tryRecover fr cs=none)(hst:stepG P true { frame:=fr,callers:=cs,status:=.running,dying:=none } w=stepG.apply P true fr cs none sem w)(hr:sem.run P w=.ok .recover w') :
 step P (lone fr cs w)=.next (lone (fr.finish .nilIface) cs w'):=afr (by rw[hst];simp[stepG.apply,hr,a,b])
end ap
section
variable{E:dI}{ih:uv->S->Option ft}{f:FuncId}{fn:Func}{ops:Array Oper}{k:List Item}{rd:Option Nat}
def XV(P:Program)(f:FuncId)(fn:Func)(ops:Array Oper)(rest:List Nat)(k:List Item)(rd:Option Nat)(a:RK):Prop :=
 ∀ t ds up s r,a t ds up s=some r->∀ ρ w fr cs,HR ρ s w->kK P ρ f fn t (.inRegion ops rest::k) ds .run up rd fr cs->ROk P ρ w f fn k up rd cs (lone fr cs w) r
theorem dr{o:Oper}{t:T V}{s:S}{nx:Nx}(h:dC E t s o=some nx)(hn:∀ d s',nx≠.defer d s'):∀ c,o.op≠.defer c:=by
 intro c hc;unfold dC at h;rw[hc]at h;simp only[dj,qG]at h;split at h
 .split at h
  .unfold FJ at h
   grind
  .cases h
 .cases h
theorem EK(hE:jf E)(hg:Good E.P ih)(Z:mw ops fn.ntmps=true){i:Nat}{rest:List Nat}{o:Oper}(ho:ops[i]? = some o){kk:RK}(hk:XV E.P f fn ops rest k rd kk)
 {t:T V} {ds:List eO} {up:Option Md} {s:S} {r:kO} (e:rO E (bO ih) (eB ih) rd o t ds up s kk (bT ops t o)=some r)
 {ρ:aJ} {w:World} {fr:Frame} {cs:List Frame} (h:HR ρ s w) (j:kK E.P ρ f fn t (.inRegion ops (i::rest)::k) ds .run up rd fr cs):ROk E.P ρ w f fn k up rd cs (lone fr cs w) r:=by
 have hm:=Ak j;have ht:=j.todo rfl;have U:=so Z ho;have N:=ur.refl j;unfold rO at e;split at e
 .rename_i hw;have hwant:=fj j.tr hw;cases B:dC E t s o with
  |none=>rw[B]at e;cases e
  |some nx =>
   rw[B]at e;have F:=nD hE h j.tr o B;have hst:fr.roundOf=none\/(∀ c,o.op≠.defer c)->stepG E.P true { frame:=fr,callers:=cs,status:=.running,dying:=none } w=stepG.apply E.P true fr cs none (execOp (rv fr.tmps) o) w:=λq=>iw hm ht ho hwant q;cases nx with
   |val v s1 =>obtain⟨ρ1,y,J,G,H,K,h4⟩:=F;have hst:=hst (.inr (dr B (λd s'=>by intro h;cases h)));simp only[eg,cI]at e;exact(hk _ _ _ _ _ e ρ1 J (fr.finish y) cs K ((j.mono h4.ext).finish ho U H)).of_steps (.one (qa hst G)) h4 N rfl
   |skip s1 =>obtain⟨ρ1,J,G,K,h4⟩:=F;have hst:=hst (.inr (dr B (λd s'=>by intro h;cases h)));simp only[eg,cI]at e;exact(hk _ _ _ _ _ e ρ1 J (fr.finish undef) cs K ((j.mono h4.ext).finish ho U rfl)).of_steps (.one (Gb hst G)) h4 N rfl
   |enter g args s1 =>
    obtain⟨ys,G,H,K⟩:=F;have hst:=hst (.inr (dr B (λd s'=>by intro h;cases h)));simp only[eg]at e;cases hr:bO ih g args none s1 with
    |none=>rw[hr]at e;cases e
    |some out =>
     rw[hr]at e;obtain⟨hcall,L⟩:=mg hg K G hr;rw[hcall]at H;obtain⟨ρ1,J,en,j1,O,I,j4⟩:=L fr cs;have hsteps:Steps E.P (lone fr cs w) (lone (cF fr en) cs J):=.head (um ht hst H) j4;obtain⟨oe,oup,os⟩:=out;cases oe with
     |returned v =>
      cases en with
      |returned y =>simp only[fS,cI]at e;exact(hk _ _ _ _ _ e ρ1 J (fr.finish y) cs j1 ((j.mono O.ext).finish ho U I)).of_steps hsteps O N rfl
      |panicked _=>exact I.elim
      |outgrown=>exact I.elim
     |panicked c =>
      cases en with
      |returned _=>exact I.elim
      |outgrown=>exact I.elim
      |panicked ch =>simp only[fS,abf]at e;subst e;have m:=j.mono O.ext;exact⟨ρ1,J,_,cs,hsteps,O,N,j1,⟨m.name.symm▸(by rw[cF,bC hm]),m.func,by rw[cF,bC hm];exact m.tr,by rw[cF,bC hm];exact m.size,(λq=>by cases q),by rw[cF,bC hm];exact m.ds,by rw[cF,bC hm];exact I,by rw[cF,bC hm];exact m.rd,by rw[cF,bC hm];exact m.up⟩,rfl⟩
   |round l args s1 =>
    obtain⟨lb,ys,h0,G,H,K⟩:=F;have hst:=hst (.inr (dr B (λd s'=>by intro h;cases h)));simp only[eg]at e;cases hr:eB ih l args s1 with
    |none=>rw[hr]at e;cases e
    |some out =>
     rw[hr]at e;obtain⟨f',tmps,a,b,hy,L⟩:=hg (.round l args) s1 out hr ρ w lb ys K h0 G;rw[hy]at H;obtain⟨ρ1,J,j1,O,j5⟩:=L (fr::cs);obtain⟨en,I,j4⟩:=j5 fr cs rfl;have hsteps:Steps E.P (lone fr cs w) (lone (cF fr en) cs J):=.head (SO hst H) j4;obtain⟨oe,oup,os⟩:=out;cases oe with
     |returned v =>
      cases en with
      |returned y =>simp only[fS,cI]at e;exact(hk _ _ _ _ _ e ρ1 J (fr.finish y) cs j1 ((j.mono O.ext).finish ho U I)).of_steps hsteps O N rfl
      |panicked _=>exact I.elim
      |outgrown=>exact I.elim
     |panicked c =>
      cases en with
      |returned _=>exact I.elim
      |outgrown=>exact I.elim
      |panicked ch =>simp only[fS,abf]at e;subst e;have m:=j.mono O.ext;exact⟨ρ1,J,_,cs,hsteps,O,N,j1,⟨m.name.symm▸(by rw[cF,bC hm]),m.func,by rw[cF,bC hm];exact m.tr,by rw[cF,bC hm];exact m.size,(λq=>by cases q),by rw[cF,bC hm];exact m.ds,by rw[cF,bC hm];exact I,by rw[cF,bC hm];exact m.rd,by rw[cF,bC hm];exact m.up⟩,rfl⟩
   |defer df s1 =>
    obtain⟨rdf,G,H,K⟩:=F;simp only[eg]at e;cases W:rd with
    |some l=>rw[W]at e;cases e
    |none =>
     rw[W]at e;simp only[ago,SE,cI]at e;subst W;have Q:fr.roundOf=none:=j.rd;have hst:=hst (.inl Q)
     have A:kK E.P ρ f fn t (.inRegion ops (i::rest)::k) (df::ds) .run up none { fr with defers:=rdf::fr.defers } cs :=
      ⟨j.name,j.func,j.tr,j.size,j.todo,⟨G,j.ds⟩,j.md,j.rd,j.up⟩
     exact(hk _ _ _ _ _ e ρ w _ cs K (A.finish ho U rfl)).of_steps (.one (SP hst H)) (FR.refl ρ w) N rfl
   |recover s1 =>
    obtain⟨G,H⟩:=F;have hst:=hst (.inr (dr B (λd s'=>by intro h;cases h)));simp only[eg]at e;cases up with
    |none=>cases e
    |some u =>
     have Q:fr.roundOf=none:=by cases j.lone_up rfl;exact j.rd
     obtain⟨M,c,tl,rfl,n⟩:=j.up;have hrec:∀ m',u=m'->(∀ v older,m'≠.panicking (⟨v,false⟩::older))->tryRecover fr (c::tl)=none:=by
      intro m' hu X;subst hu;cases z:c.mode with
      |run=>simp[tryRecover,M,z]
      |returning=>simp[tryRecover,M,z]
      |panicking ch =>
       cases u with
       |run=>rw[z]at n;exact n.elim
       |returning=>rw[z]at n;exact n.elim
       |panicking pl =>
        rw[z]at n;cases pl with
        |nil=>cases ch with
         |nil=>simp[tryRecover,M,z]
         |cons _ _=>exact n.elim
        |cons p ps=>cases ch with
         |nil=>exact n.elim
         |cons q qs =>
          obtain⟨⟨q1,q2,q3⟩,_⟩:=n;obtain⟨pv,pr⟩:=p;cases pr with
          |false=>exact absurd rfl (X pv ps)
          |true =>obtain⟨qv,qr,qg⟩:=q;simp only at q2 q3;subst q2;simp[tryRecover,M,z]
     unfold recovered at e;split at e
     .rename_i v older hu;cases hu;cases z:c.mode with
      |run=>rw[z]at n;exact n.elim
      |returning=>rw[z]at n;exact n.elim
      |panicking ch =>
       rw[z]at n;cases ch with
       |nil=>exact n.elim
       |cons q qs =>
        obtain⟨⟨q1,q2,q3⟩,q4⟩:=n;obtain⟨qv,qr,qg⟩:=q;simp only at q1 q2 q3;subst q2;subst q3;have Y:tryRecover fr (c::tl)=some (qv,{ c with mode:=.panicking ({ v:=qv,recovered:=true }::qs) }::tl):=by simp[tryRecover,M,z]
        rw[cI]at e;have A:=j.finish ho U q1;have hF'':kK E.P ρ f fn (putD t o.dst v) (.inRegion ops rest::k) ds .run (some (.panicking (⟨v,true⟩::older))) rd (fr.finish qv) ({ c with mode:=.panicking ({ v:=qv,recovered:=true }::qs) }::tl):=by
         refine⟨A.name,A.func,A.tr,A.size,A.todo,A.ds,A.md,?_,?_⟩
         .cases j.lone_up rfl;exact A.rd
         .exact⟨A.up.1,_,_,rfl,⟨⟨q1,rfl,rfl⟩,q4⟩⟩
        exact(hk _ _ _ _ _ e ρ w _ _ H hF'').of_steps (.one (xw Q Y hst G)) (FR.refl ρ w) ⟨c,tl,_,rfl,rfl⟩ rfl
     .rename_i X hu;cases hu;rw[cI]at e;have Y:=hrec _ rfl (λv older hq=>X v older hq);exact(hk _ _ _ _ _ e ρ w _ _ H (j.finish ho U rfl)).of_steps (.one (xy Q Y hst G)) (FR.refl ρ w) N rfl
     .cases e
   |panic v s1 =>obtain⟨y,G,H,K⟩:=F;have hst:=hst (.inr (dr B (λd s'=>by intro h;cases h)));simp only[eg,abf]at e;subst e;refine⟨ρ,w,_,cs,.one (IF hst H),FR.refl ρ w,N,K,?_,rfl⟩;rw[bC hm];exact⟨j.name,j.func,j.tr,j.size,(λq=>by cases q),j.ds,⟨⟨G,rfl,rfl⟩,trivial⟩,j.rd,j.up⟩
 .rename_i hw;have hwant:=fj j.tr hw;rw[cI]at e;exact(hk _ _ _ _ _ e ρ w _ _ h (j.finish ho U (y:=undef) rfl)).of_steps (.one (iR hm ht (by simp[ho,hwant]))) (FR.refl ρ w) N rfl
 .cases e
theorem sR(g:jf E)(j:Good E.P ih)(b:mw ops fn.ntmps=true):∀(l:List Oper) (a:List Nat),a.map (ops[·]?)=l.map some->XV E.P f fn ops a k rd (rJ E ops (bO ih) (eB ih) rd l)
 |[],[],_=>λt ds up s r e ρ w fr cs h d=>by simp only[rJ,abf]at e;subst e;exact⟨ρ,w,_,cs,.one (sL (Ak d) (d.todo rfl)),FR.refl ρ w,ur.refl d,h,d.to k,rfl⟩
 |o::l,i::a,hl=>λt ds up s r e ρ w fr cs h d=>by simp only[acg,akn]at hl;exact EK g j b hl.1 (sR g j b l a hl.2) e h d
 |[],_::_,hl=>by cases hl
 |_::_,[],hl=>by cases hl
theorem Vg(ops:Array Oper):(List.range ops.size).map (ops[·]?)=ops.toList.map some:=by
 apply ajl
 grind
end
section st
variable{P:Program}{fr:Frame}{c:Frame}{cs:List Frame}{w w':World}{k:List Item}{l:Nat}{v:Value}
theorem Zm(hm:fr.mode=.run)(hk:fr.kind=.normal)(a:fr.roundOf=some l)(b:fr.todo=[])(hr:(Instr.endRound l none).run P w=.ok v w') :
 step P (lone fr (c::cs) w)=.next (lone (c.finish v) cs w'):=afr (by simp[stepG,stepG.exec,hm,b,a,hr,doReturn,hk])
theorem Zl(hm:fr.mode=.run)(hk:fr.kind=.normal)(a:fr.roundOf=some l)(b:fr.todo=.code .ret::k)(hr:(Instr.endRound l (some .ret)).run P w=.ok v w') :
 step P (lone fr (c::cs) w)=.next (lone (c.finish v) cs w'):=afr (by simp[stepG,stepG.exec,hm,b,a,hr,doReturn,hk])
theorem UK{id:Nat}(hm:fr.mode=.run)(hk:fr.kind=.normal)(a:fr.roundOf=some l)(b:fr.todo=.code (.exit id)::k)(d:exitTo id k=none)(hr:(Instr.endRound l (some (.exit id))).run P w=.ok v w') :
 step P (lone fr (c::cs) w)=.next (lone (c.finish v) cs w'):=afr (by simp[stepG,stepG.exec,hm,b,a,hr,doReturn,hk,d])
theorem UJ{id:Nat}(hm:fr.mode=.run)(hk:fr.kind=.normal)(a:fr.roundOf=some l)(b:fr.todo=.code (.goto id)::k)(d:gotoIn id k=none)(hr:(Instr.endRound l (some (.goto id))).run P w=.ok v w') :
 step P (lone fr (c::cs) w)=.next (lone (c.finish v) cs w'):=afr (by simp[stepG,stepG.exec,hm,b,a,hr,doReturn,hk,d])
theorem BV(hm:fr.mode=.run)(a:fr.roundOf=some l)(b:fr.todo=.beginRound::k)(hr:(Instr.beginRound l).run P w=.ok () w') :
 step P (lone fr cs w)=.next (lone { fr with todo:=k } cs w'):=afr (by simp[stepG,stepG.exec,stepG.apply,hm,b,a,hr,Frame.finish])
theorem GG{j:Option Code}(hm:fr.mode=.run)(a:fr.todo=.endRangeFunc l::k)(hr:(Instr.endLoop l).run P w=.ok j w') :
 step P (lone fr cs w)=.next (lone { fr with todo:=(j.map Item.code).toList++k } cs w'):=afr (by simp[stepG,stepG.exec,hm,a,hr])
theorem PK{g:Operand}{ps:Array Tmp}{a b:Code}{fid:FuncId}{first cap:Array Value}{f2:FuncId}{args:Array Value}(hm:fr.mode=.run)(n:fr.todo=.code (.rangeFunc g ps a b)::k)(d:fr.roundOf=none)
 (q:rv fr.tmps g=.func (.func fid) first cap)
 (hc:∀ w,(callFunc fid (first++#[.func (.yield (w'.heap.size - 1)) #[] #[]]++cap)).run P w=.ok (.enter f2 args) w)
 (m:w'=(w.alloc (.deferred (some []))).alloc (.loop { state:=.ready,pending:=none,fn:=fr.fn,tmps:=fr.tmps,params:=ps,assign:=a,body:=b,defers:=w.heap.size })) :
 step P (lone fr cs w)=.next (lone (Frame.enter P f2 args .normal) ({ fr with todo:=.inRangeFunc (w'.heap.size - 1)::k,defers:={ target:=.collected w.heap.size,args:=#[] }::fr.defers }::cs) w'):=by
 refine afr ?_;have hl:w'.heap.size - 1=w.heap.size+1:=by rw[m];simp
 rw[hl]at hc ⊢;have e:=run_enterLoop_outer (P:=P) (w:=w) fr.fn fr.tmps ps a b;rw[<- m]at e;simp only[stepG,stepG.exec,hm,n,d,Sem.runT_eq,e,GStep.bare_after];have h:∀ v:Value,rv fr.tmps (.const v)=v:=λ_=>rfl;have j:(callFunc fid (first.push (.func (.yield (w.heap.size+1)) #[] #[])++cap)).run P w'=.ok (.enter f2 args) w':=by simpa using hc w'
 simp[stepG.apply,se,resolve,q,Deferred.ofValue,invoke,h,j,hm,d]
theorem Eh{b:Nat}{ds:List Deferred}{m:FrameMode}(hm:fr.mode=m)(a:m≠.run)(d:fr.defers={ target:=.collected b,args:=#[] }::ds){calls:List Deferred}(hr:(Instr.takeDeferred b).run P w=.ok calls w') :
 step P (lone fr cs w)=.next (lone { fr with defers:=calls++ds } cs w'):=by
 refine afr ?_;cases m with
 |run=>exact absurd rfl a
 |returning=>simp[stepG,unwind,hm,d,hr]
 |panicking ch=>simp[stepG,unwind,hm,d,hr]
end st
section
variable{E:dI}{ih:uv->S->Option ft}{f:FuncId}{fn:Func}
theorem cg(a:Good E.P ih){t:T V}{todo:List Item}{ds:List eO}{m:Md}{up:Option Md}{rd:Option Nat}{s:S}{out:ft}(e:gC ih f fn t todo ds m up rd s=some out):Gi E.P f fn t todo ds m up rd s out :=
 a (.frame f fn t todo ds m up rd) s out e
theorem xU{ρ:aJ}{s:S}{w:World}(h:HR ρ s w){l:Nat}{st:LoopState}{pend:Option Code}{f':FuncId}{t':T V}{ps:Array Tmp}{a b:Code}{d nt:Nat}(e:s.get l=some (.loop st pend f' t' ps a b d nt)){lb:BR}(hl:ρ l 0=some lb) :
 ∃(r:Loop),w.heap[lb.b]? = some (.loop r)/\r.state=st/\r.pending=pend/\r.fn=f'/\r.params=ps/\r.assign=a/\r.body=b/\TR ρ t' r.tmps/\nt<=r.tmps.size /\
  ∀ st2 pend2,HR ρ (s.put l (.loop st2 pend2 f' t' ps a b d nt)) (w.putObj lb.b (.loop { r with state:=st2,pending:=pend2 }))/\FR ρ w ρ (w.putObj lb.b (.loop { r with state:=st2,pending:=pend2 })):=by
 obtain⟨l1,ld,tm,g,n,j,m,q⟩:=h.blk _ _ e;rw[hl]at g;cases g;refine⟨_,q,rfl,rfl,rfl,rfl,rfl,rfl,j,m,λst2 pend2=>?_⟩;exact h.turn hl e (λ_ h=>by cases h) (ym w lb.b _) _ ⟨lb,ld,tm,hl,n,j,m,World.putObj_heap_same (h.low _ _ _ hl)⟩
theorem jA(u:Good E.P ih){t:T V}{todo:List Item}{ds:List eO}{up:Option Md}{rd:Option Nat}{s:S}{out:ft}{jump:Option Code}(e:nH (gC ih f fn) t ds up rd s jump=some out)
 {ρ:aJ} {w:World} {fr:Frame} {cs:List Frame} (h:HR ρ s w) (g:kK E.P ρ f fn t todo ds .run up rd fr cs)
 (h0:jump=none\/jump=some .ret->fr.roundOf=none->step E.P (lone fr cs w)=.next (lone { fr with mode:=.returning } cs w))
 (y:∀ l v w',fr.roundOf=some l->fr.kind=.normal->(Instr.endRound l jump).run E.P w=.ok v w'->∀ c cs',cs=c::cs'->step E.P (lone fr cs w)=.next (lone (c.finish v) cs' w')) :
 jL E.P f up.isSome rd.isSome cs (lone fr cs w) ρ w out:=by
 have ret:∀ up,kK E.P ρ f fn t todo ds .run up none fr cs->kK E.P ρ f fn t [] ds .returning up none { fr with mode:=.returning } cs:=λup g =>⟨g.name,g.func,g.tr,g.size,(λq=>by cases q),g.ds,trivial,g.rd,g.up⟩
 unfold nH at e;split at e
 .split at e
  .exact dZ h (h0 (.inl rfl) g.rd) (ret up g) (cg u e)
  .exact dZ h (h0 (.inr rfl) g.rd) (ret up g) (cg u e)
  .cases e
 .rename_i l;split at e
  .rename_i st pend f' t' ps a b d nt z;simp only[abf]at e;subst e;obtain⟨rfl,lb,hl,m⟩:=g.rd;obtain⟨r,A,r2,r3,r4,r5,r6,r7,r8,r9,r10⟩:=xU h z hl;have j:=run_endRound (P:=E.P) jump A;obtain⟨B,F⟩:=r10 (if jump.isNone then .ready else .done) jump;have hc:(bif jump.isNone then LoopState.ready else .done)=if jump.isNone then .ready else .done:=by cases jump.isNone<;>rfl
   rw[hc];refine⟨ρ,_,B,F,λc cs' n=>⟨.returned (.bool jump.isNone),rfl,.one (y _ _ _ m g.up j c cs' n)⟩⟩
  .cases e
def ej(E:dI):Prop:=∀(ih:uv->S->Option ft),Good E.P ih->∀(f:FuncId) (fn:Func) (id:Nat) (ops:Array Oper) (k:List Item) (rd:Option Nat) (t:T V) (ds:List eO) (up:Option Md) (s:S) (r:kO),
 mw ops fn.ntmps=true->iS E ops (bO ih) (eB ih) t ds up s=some r->∀ ρ w fr cs,HR ρ s w->kK E.P ρ f fn t (.code (.region id ops true)::k) ds .run up rd fr cs->ROk E.P ρ w f fn k up rd cs (lone fr cs w) r
theorem pd(g:Good E.P ih){k:List Item}{rd:Option Nat}{up:Option Md}{x:Option kO}{out:ft}(e:gK (gC ih f fn) k rd x=some out){ρ:aJ}{w:World}{cs:List Frame}{M:Machine}(hr:up.isSome=true->rd=none)
 (q:∀ r,x=some r->ROk E.P ρ w f fn k up rd cs M r):jL E.P f up.isSome rd.isSome cs M ρ w out:=by
 cases x with
 |none=>cases e
 |some r =>
  obtain⟨ρ',w',fr',cs',h,j,m,n⟩:=q r rfl;cases r with
  |on t' ds' up' s' =>obtain⟨a,b,d⟩:=n;have:=cg g e ρ' w' fr' cs' a b;rw[d]at this;exact jL.of_tops hr m (jL.of_steps h j this)
  |panicked c t' ds' up' s' =>obtain⟨a,b,d⟩:=n;have:=cg g e ρ' w' fr' cs' a b;rw[d]at this;exact jL.of_tops hr m (jL.of_steps h j this)
theorem wY(L:Good E.P ih){t:T V}{ds:List eO}{up:Option Md}{rd:Option Nat}{s:S}{out:ft}{k:List Item}{g:Operand}{ps:Array Tmp}{a b:Code}
 (e:gx f fn.ntmps (gC ih f fn) (bO ih) k t ds up rd s ps a b (eval t g)=some out) {ρ:aJ} {w:World} {fr:Frame} {cs:List Frame} (h:HR ρ s w) (m:kK E.P ρ f fn t (.code (.rangeFunc g ps a b)::k) ds .run up rd fr cs) :
 jL E.P f up.isSome rd.isSome cs (lone fr cs w) ρ w out:=by
 unfold gx at e;split at e
 .rename_i fnv first cap M
  obtain⟨gf,fi,ca,Y,Z,g3,g4⟩:=Aj (aI m.tr M);split at e
  .rename_i fid;cases Y;split at e
   .
    have N:fr.roundOf=none:=m.rd;have hm:=Ak m;simp only at e;obtain⟨A1,A2⟩:=h.alloc .deferred (.deferred (some [])) 0 0 (aaW _) ⟨⟨w.heap.size,0,0⟩,aJ.put_same _ _ _ _,eD _ _⟩;have A:(ρ.put s.next 0 ⟨w.heap.size,0,0⟩) s.next 0=some ⟨w.heap.size,0,0⟩:=aJ.put_same _ _ _ _
    obtain⟨B1,B2⟩:=A1.alloc (.loop .ready none f t ps a b s.next fn.ntmps) (.loop { state:=.ready,pending:=none,fn:=f,tmps:=fr.tmps,params:=ps,assign:=a,body:=b,defers:=w.heap.size }) 0 0 (aaW _) (by have B:=aJ.le_put (ρ:=ρ.put s.next 0 ⟨w.heap.size,0,0⟩) (f:=(s.alloc .deferred).next) (v:=0) ⟨(w.alloc (.deferred (some []))).heap.size,0,0⟩ (A1.fresh _ _ (aaW _));exact⟨⟨(w.alloc (.deferred (some []))).heap.size,0,0⟩,⟨w.heap.size,0,0⟩,fr.tmps,aJ.put_same _ _ _ _,B _ _ _ A,(m.tr.mono A2.ext).mono B,m.size,eD _ _⟩)
    generalize O:(ρ.put s.next 0 ⟨w.heap.size,0,0⟩).put (s.alloc .deferred).next 0 ⟨(w.alloc (.deferred (some []))).heap.size,0,0⟩=ρ2 at B1 B2;have F:ρ2 (s.alloc .deferred).next 0=some ⟨w.heap.size+1,0,0⟩:=by rw[<- O,aJ.put_same];simp
    have Q:ρ2 s.next 0=some ⟨w.heap.size,0,0⟩:=B2.ext _ _ _ A;have u:=A2.trans B2;have hargs:bg ρ2 (first++([.func (.yield (s.alloc .deferred).next) [] []]++cap))=some (fi++([Value.func (.yield (w.heap.size+1)) #[] #[]]++ca)):=by refine dH (fU u.ext _ _ Z) (dH ?_ (fU u.ext _ _ g3));simp[bg,den,oD,F]
    cases hr:bO ih fid (first++([.func (.yield (s.alloc .deferred).next) [] []]++cap)) none ((s.alloc .deferred).alloc (.loop .ready none f t ps a b s.next fn.ntmps))with
    |none=>rw[hr]at e;cases e
    |some o1 =>
     rw[hr]at e;obtain⟨hcall,G⟩:=mg L B1 hargs hr;have hname:fr.fn=f:=m.name;obtain⟨ρ3,w3,en,X,U,H,j4⟩:=G { fr with todo:=.inRangeFunc (w.heap.size+1)::k,defers:={ target:=.collected w.heap.size,args:=#[] }::fr.defers } cs
     have hstep:=PK (P:=E.P) (fr:=fr) (cs:=cs) (w:=w) (w':=(w.alloc (.deferred (some []))).alloc (.loop { state:=.ready,pending:=none,fn:=f,tmps:=fr.tmps,params:=ps,assign:=a,body:=b,defers:=w.heap.size }))
      (k:=k) (Ak m) (m.todo rfl) N g4 (f2:=fid) (args:=(fi++([Value.func (.yield (w.heap.size+1)) #[] #[]]++ca)).toArray) (λw=>by have:=hcall w;simpa using this) (by rw[hname])
     have W:((w.alloc (.deferred (some []))).alloc (.loop { state:=.ready,pending:=none,fn:=f,tmps:=fr.tmps,params:=ps,assign:=a,body:=b,defers:=w.heap.size })).heap.size - 1=w.heap.size+1:=by simp
     rw[W]at hstep;have hsteps:=Steps.head hstep j4;have j:=u.trans U;have d:=m.mono j.ext;have I:OZ ρ3 (.collected s.next) { target:=.collected w.heap.size,args:=#[] }:=⟨_,U.ext _ _ _ Q,rfl⟩;obtain⟨oe,oup,os⟩:=o1;cases oe with
     |returned v =>
      cases en with
      |panicked _=>exact H.elim
      |outgrown=>exact H.elim
      |returned y =>
       simp only[kV]at e;unfold tC at e;split at e
       .rename_i st pend f' t' ps' a' b' d' nt hs;obtain⟨r,r1,r2,r3,r4,r5,r6,r7,r8,r9,r10⟩:=xU X hs (U.ext _ _ _ F);have z:∃ hb:st≠.busy,gC ih f fn t ((pend.map Item.code).toList++k) (.collected s.next::ds) .run up none (os.put (s.alloc .deferred).next (.loop .exhausted pend f' t' ps' a' b' d' nt))=some out:=by grind
        obtain⟨hb,z⟩:=z;obtain⟨q1,q2⟩:=r10 .exhausted pend;have n:=run_endLoop (P:=E.P) r1 (by rw[r2];exact hb);rw[r3]at n;have J:cF { fr with todo:=.inRangeFunc (w.heap.size+1)::k,defers:={ target:=.collected w.heap.size,args:=#[] }::fr.defers } (.returned y)={ fr with todo:=.endRangeFunc (w.heap.size+1)::k,defers:={ target:=.collected w.heap.size,args:=#[] }::fr.defers }:=rfl;rw[J]at hsteps;have K:=GG (P:=E.P) (fr:={ fr with todo:=.endRangeFunc (w.heap.size+1)::k,defers:={ target:=.collected w.heap.size,args:=#[] }::fr.defers }) (cs:=cs) hm rfl n;refine jL.of_steps (hsteps.trans (.one K)) (j.trans q2) (cg L z _ _ _ _ q1 ?_);exact⟨d.name,d.func,d.tr,d.size,λ_=>rfl,⟨I,d.ds⟩,d.md,d.rd,d.up⟩
       .cases e
     |panicked c =>
      cases en with
      |returned _=>exact H.elim
      |outgrown=>exact H.elim
      |panicked ch =>simp only[kV]at e;refine jL.of_steps hsteps j (cg L e _ _ _ _ X ?_);rw[cF,bC (show({ fr with todo:=.inRangeFunc (w.heap.size+1)::k,defers:={ target:=.collected w.heap.size,args:=#[] }::fr.defers }:Frame).mode=.run from hm)];exact⟨d.name,d.func,d.tr,d.size,(λq=>by cases q),⟨I,d.ds⟩,H,d.rd,d.up⟩
   .cases e
  .cases e
 .cases e
end
theorem Eo{ρ:aJ}{u:Md}{b:FrameMode}(h:Th ρ u b):Th ρ (js u) (settle b):=by
 cases u with
 |run=>cases b<;>first|exact h|exact h.elim
 |returning=>cases b<;>first|exact h|exact h.elim
 |panicking c=>cases b with
  |run=>exact h.elim
  |returning=>exact h.elim
  |panicking ch =>
   cases c with
   |nil=>cases ch with
    |nil=>exact h
    |cons _ _=>exact h.elim
   |cons p ps=>cases ch with
    |nil=>exact h.elim
    |cons q a =>
     obtain⟨⟨j,m,n⟩,y⟩:=h;obtain⟨pv,pr⟩:=p;obtain⟨qv,qr,qg⟩:=q;simp only at j m n;subst m;subst n;cases pr with
     |false=>exact⟨⟨j,rfl,rfl⟩,y⟩
     |true =>
      have g:∀(ps:List Gm) (a:List PanicEntry),om ρ ps a->a.dropWhile (λe=>!e.goexit)=[]:=by
       intro ps;induction ps with
       |nil=>intro a d;cases a with
        |nil=>rfl
        |cons _ _=>exact d.elim
       |cons p ps ih=>intro a d;cases a with
        |nil=>exact d.elim
        |cons q a =>obtain⟨⟨_,_,z⟩,A⟩:=d;rw[List.dropWhile_cons,z];simpa using ih a A
      simp only[js,settle,g ps a y];trivial
theorem EF{ρ:aJ}{u:Md}{a:FrameMode}{c:List Gm}{ch:List PanicEntry}(h:Th ρ u a)(hc:om ρ c ch):Th ρ (tc u c) (raised a ch):=by
 cases u with
 |run=>cases a<;>first|exact hc|exact h.elim
 |returning=>cases a<;>first|exact hc|exact h.elim
 |panicking d=>cases a with
  |run=>exact h.elim
  |returning=>exact h.elim
  |panicking dh=>exact om.append hc h
section
variable{E:dI}{ih:uv->S->Option ft}{f:FuncId}{fn:Func}
def Ua(tm:Array Value):ResultVar->Sem Value
 |.tmp t=>pure (tm.getD t undef)
 |.cell a t=>do Go.loadVar t (<- asAddr (tm.getD a undef))
theorem Jz(fn:Func)(tm:Array Value):results fn tm=(do let vs <- fn.results.mapM (Ua tm);pure (if h:vs.size=1 then vs[0] else .tuple vs)):=by unfold results;congr 1
theorem BY{P:Program}{ρ:aJ}{s:S}{w:World}(h:HR ρ s w){t:T V}{tm:Array Value}(g:TR ρ t tm){x:ResultVar}{v:V}(e:ql P t s x=some v) :
 ∃ y,den ρ v=some y/\(Ua tm x).run P w=.ok y w:=by
 have at_:∀ i u,t.get (eX i)=some u->den ρ u=some (tm.getD i undef):=λi u j=>by obtain⟨y,b,d⟩:=g i u j;simp_all
 cases x with
 |tmp i=>exact⟨_,at_ _ _ e,rfl⟩
 |cell a ty =>
  simp only[ql]at e;split at e
  .rename_i ad hp;obtain⟨a1,y,b,d,m⟩:=rj h e;have:=at_ _ _ hp;simp only[den,b,abf]at this;refine⟨y,d,?_⟩;simp only[Ua,abr,<- this,asAddr,afe,abm,m]
  .cases e
theorem ra{P:Program}{ρ:aJ}{s:S}{w:World}(h:HR ρ s w){t:T V}{tm:Array Value}(b:TR ρ t tm):∀ {l:List ResultVar} {vs:List V},kU P t s l=some vs ->
 ∃ ys,bg ρ vs=some ys/\(l.mapM (Ua tm)).run P w=.ok ys w
 |[],vs,e=>by cases e;exact⟨[],rfl,rfl⟩
 |x::l,vs,e=>by
  simp only[kU]at e;cases a:ql P t s x with
  |none=>simp[a]at e
  |some v =>
   cases hl:kU P t s l with
   |none=>simp[a,hl]at e
   |some q =>simp only[a,hl,abf]at e;subst e;obtain⟨y,d,h2⟩:=BY (P:=P) (w:=w) h b a;obtain⟨ys,g,h4⟩:=ra h b hl;refine⟨y::ys,bp.2 ⟨y,ys,d,g,rfl⟩,?_⟩;simp_all
theorem BX{P:Program}{ρ:aJ}{s:S}{w:World}(h:HR ρ s w){t:T V}{tm:Array Value}(b:TR ρ t tm){v:V}(e:sW P fn t s=some v):∃ y,den ρ v=some y/\(results fn tm).run P w=.ok y w:=by
 unfold sW at e;split at e
 .rename_i l hl;cases e;obtain⟨ys,a,d⟩:=ra (P:=P) (w:=w) h b hl;have hr:(results fn tm).run P w=.ok (if h:ys.toArray.size=1 then ys.toArray[0] else .tuple ys.toArray) w:=by rw[Jz,Array.mapM_eq_mapM_toList];simp[d]
  refine⟨_,?_,hr⟩;have hlen:=bR a;cases l with
  |nil =>cases a;rfl
  |cons v l=>cases l with
   |nil =>obtain⟨y,hy,rfl⟩:=nZ a;simpa[zq]using hy
   |cons v2 l =>obtain⟨y,q,hy,g,rfl⟩:=bp.1 a;obtain⟨y2,q,hy2,hq2,rfl⟩:=bp.1 g;simp only[zq,den,a];simp
 .cases e
theorem Dk{P:Program}{ρ:aJ}{s:S}{w:World}(h:HR ρ s w){t:T V}{todo:List Item}{m:Md}{up:Option Md}{rd:Option Nat}{fr:Frame}{cs:List Frame}(g:kK P ρ f fn t todo [] m up rd fr cs){e:End}{en:Ending}(j:Ti ρ e en)
 (d:fr.going P w en):jL P f up.isSome rd.isSome cs (lone fr cs w) ρ w ⟨e,up,s⟩:=by
 refine⟨ρ,w,h,FR.refl ρ w,?_⟩;have hleave:up=none->fr.leaving P w en:=by
  intro n;have hk:fr.kind=.normal:=by have:=g.up;rw[n]at this;exact this
  cases en with
  |returned v=>obtain⟨a,b,c⟩:=d;exact⟨a,b,hk,c⟩
  |panicked ch=>exact d
  |outgrown=>trivial
 cases rd with
 |some l =>
  have n:up=none:=g.rd.1;intro c cs' hc;subst hc;refine⟨en,j,.one ?_⟩;cases en with
  |returned v=>exact step_leave_returned (hleave n)
  |panicked ch=>exact step_leave_panicked (hleave n)
  |outgrown=>cases e<;>exact j.elim
 |none =>
  cases up with
  |none=>exact⟨fr,en,j,Steps.refl _ _,g.name,hleave rfl⟩
  |some u =>obtain⟨hk,y,cs0,rfl,q⟩:=g.up;intro c cs' hc;cases hc;exact⟨fr,en,u,y.mode,rfl,q,j,Steps.refl _ _,hk,d⟩
theorem sG(O:Good E.P ih){t:T V}{todo:List Item}{ds:List eO}{m:Md}(hm:m≠.run){up:Option Md}{rd:Option Nat}{s:S}{out:ft}
 (e:dJ ds E fn (gC ih f fn) (bO ih) t m up rd s=some out) {ρ:aJ} {w:World} {fr:Frame} {cs:List Frame} (h:HR ρ s w) (n:kK E.P ρ f fn t todo ds m up rd fr cs):jL E.P f up.isSome rd.isSome cs (lone fr cs w) ρ w out:=by
 have B:fr.mode≠.run:=by intro A;have:=n.md;rw[A]at this;cases m<;>first|exact hm rfl|exact this.elim
 unfold dJ at e;split at e
 .rename_i d ds';have a:=n.ds;cases z:fr.defers with
  |nil=>rw[z]at a;exact a.elim
  |cons r rs =>
   rw[z]at a;obtain⟨⟨l,Q,W⟩,X⟩:=a;subst W;unfold lF at e;split at e
   .rename_i hs;obtain⟨l',g1,g2⟩:=h.blk _ _ hs;rw[Q]at g1;cases g1;have J:=run_takeDeferred (P:=E.P) g2;obtain⟨K,F⟩:=h.turn Q hs (λ_ h=>by cases h) (ym w l.b (.deferred none)) .gone trivial;have hstep:=Eh (P:=E.P) (cs:=cs) rfl B z J;have Y:kK E.P ρ f fn t [] ds' m up rd { fr with defers:=[]++rs } cs:=⟨n.name,n.func,n.tr,n.size,λq=>absurd q hm,X,n.md,n.rd,n.up⟩;exact jL.of_steps (.one hstep) F (cg O e _ _ _ _ K Y)
   .cases e
 .rename_i g captured args ds';have a:=n.ds;cases z:fr.defers with
  |nil=>rw[z]at a;exact a.elim
  |cons r rs =>
   rw[z]at a;obtain⟨⟨gf,cc,aa,Q,W,X,h4⟩,h5⟩:=a;cases Q;subst h4;cases hr:bO ih g (args++captured) (some m) s with
   |none=>rw[hr]at e;cases e
   |some o1 =>
    rw[hr]at e;obtain⟨hcall,L⟩:=O (.call g (args++captured) (some m)) s o1 hr ρ w _ h (dH X W);obtain⟨ρ1,w1,K,F,j3⟩:=L ({ fr with defers:=rs }::cs) (λu hu=>by cases hu;exact⟨_,_,rfl,n.md⟩);obtain⟨frX,en,u,U,k1,k2,I,k4,k5,k6⟩:=j3 _ _ rfl
    have M:=step_defer (P:=E.P) (cs:=cs) (f:=g) (args:=(aa++cc).toArray) (w:=w) B z rfl (by have:=hcall w;simpa[invoke]using this)
    have j:=n.mono F.ext;obtain⟨oe,oup,os⟩:=o1;simp only at k1 I K;subst k1;cases oe with
    |returned v =>
     cases en with
     |panicked _=>exact I.elim
     |outgrown=>exact I.elim
     |returned y =>
      simp only[kw]at e;have G:=step_going_returned (c:={ fr with defers:=rs,mode:=U }) (cs:=cs) k5 k6;have N:u≠.run/\gC ih f fn t [] ds' (js u) up rd os=some out:=by grind
      have Z:js u≠.run:=by
       obtain⟨hu,_⟩:=N;unfold js
       grind
      have H:kK E.P ρ1 f fn t [] ds' (js u) up rd { fr with defers:=rs,mode:=settle U } cs :=
       ⟨j.name,j.func,j.tr,j.size,λq=>absurd q Z,h5.mono F.ext,Eo k2,j.rd,j.up⟩
      exact jL.of_steps (.head M (k4.trans (.one G))) F (cg O N.2 _ _ _ _ K H)
    |panicked c =>
     cases en with
     |returned _=>exact I.elim
     |outgrown=>exact I.elim
     |panicked ch =>
      simp only[kw]at e;have G:=step_going_panicked (c:={ fr with defers:=rs,mode:=U }) (cs:=cs) k6
      have H:kK E.P ρ1 f fn t [] ds' (tc u c) up rd { fr with defers:=rs,mode:=raised U ch } cs :=
       ⟨j.name,j.func,j.tr,j.size,(λq=>by cases u<;>cases q),h5.mono F.ext,EF k2 I,j.rd,j.up⟩
      exact jL.of_steps (.head M (k4.trans (.one G))) F (cg O e _ _ _ _ K H)
 .cases e
 .have a:=n.ds;have z:fr.defers=[]:=by
   cases A:fr.defers with
   |nil=>rfl
   |cons _ _=>rw[A]at a;exact a.elim
  unfold uQ at e;split at e
  .unfold Qc at e;split at e
   .rename_i v hv;cases e;obtain⟨y,y1,y2⟩:=BX (P:=E.P) (fn:=fn) h n.tr hv;refine Dk h n (en:=.returned y) y1 ⟨?_,z,fn,n.name▸n.func,y2⟩;have:=n.md;cases A:fr.mode<;>rw[A]at this<;>first|rfl|exact this.elim
   .cases e
  .rename_i c;cases e;have:=n.md;cases A:fr.mode with
   |run=>exact absurd A B
   |returning=>rw[A]at this;exact this.elim
   |panicking ch =>rw[A]at this;exact Dk h n (en:=.panicked ch) this ⟨A,z,fn,n.name▸n.func⟩
  .cases e
end
section
variable{E:dI}{ih:uv->S->Option ft}{f:FuncId}{fn:Func}
theorem Bi(B:jf E)(hD:ej E)(j:Good E.P ih){c:Code}{k:List Item}{t:T V}{ds:List eO}{up:Option Md}{rd:Option Nat}{s:S}{out:ft}
 (e:cW c E f fn (gC ih f fn) (bO ih) (eB ih) k t ds up rd s=some out) {ρ:aJ} {w:World} {fr:Frame} {cs:List Frame} (h:HR ρ s w) (d:kK E.P ρ f fn t (.code c::k) ds .run up rd fr cs) :
 jL E.P f up.isSome rd.isSome cs (lone fr cs w) ρ w out:=by
 have hm:=Ak d;have n:=d.todo rfl;cases c with
 |ret =>simp only[cW]at e;exact jA j e h d (λ_ m=>Yu hm n m) (λl v w' m hk hr c cs' hc=>by subst hc;exact Zl hm hk m n hr)
 |skip=>exact dZ h (TI hm n) (d.to k) (cg j e)
 |label l=>exact dZ h (PM hm n) (d.to k) (cg j e)
 |seq a b=>exact dZ h (Yt hm n) (d.to _) (cg j e)
 |cond c a b =>
  simp only[cW]at e;cases A:eval t c with
  |none=>rw[A]at e;cases e
  |some v =>
   rw[A]at e;have u:=aI d.tr A;unfold FO at e;split at e
   .rename_i q F;cases F;simp only[den,abf]at u;refine dZ h (TL hm n u.symm) (d.to _) ?_;have hb:(bif q then a else b)=if q then a else b:=by cases q<;>rfl
    rw[<- hb];exact cg j e
   .cases e
 |block id c=>exact dZ h (PO hm n) (d.to _) (cg j e)
 |loop c=>exact dZ h (xH hm n) (d.to _) (cg j e)
 |scope c=>exact dZ h (PJ hm n) (d.to _) (cg j e)
 |exit id =>
  simp only[cW]at e;cases y:exitTo id k with
  |none =>rw[y]at e;simp only[rV]at e;exact jA (jump:=some (.exit id)) j e h d (λz=>by rcases z with z|z<;>cases z) (λl v w' m hk hr c cs' hc=>by subst hc;exact UK hm hk m n y hr)
  |some G=>rw[y]at e;exact dZ h (TK hm n y) (d.to _) (cg j e)
 |goto id =>
  simp only[cW]at e;cases y:gotoIn id k with
  |none =>rw[y]at e;simp only[rV]at e;exact jA (jump:=some (.goto id)) j e h d (λz=>by rcases z with z|z<;>cases z) (λl v w' m hk hr c cs' hc=>by subst hc;exact UJ hm hk m n y hr)
  |some G=>rw[y]at e;exact dZ h (TJ hm n y) (d.to _) (cg j e)
 |rangeFunc g ps a b=>exact wY j e h d
 |region id ops draw =>
  cases draw with
  |true =>
   simp only[cW]at e;cases u:mw ops fn.ntmps with
   |false=>rw[u]at e;cases e
   |true =>rw[u]at e;exact pd j e d.lone_up λr hr=>hD ih j f fn id ops k rd t ds up s r u hr ρ w fr cs h d
  |false =>
   simp only[cW]at e;cases u:mw ops fn.ntmps with
   |false=>rw[u]at e;cases e
   |true =>rw[u]at e;refine pd j e d.lone_up λr hr=>?_;have:=sR (k:=k) (rd:=rd) B j u ops.toList (List.range ops.size) (Vg ops) t ds up s r hr ρ w _ cs h (d.to _);exact this.of_steps (.one (NG hm n)) (FR.refl ρ w) (ur.refl d) rfl
 |refuse why=>cases e
theorem zY(y:jf E)(hD:ej E)(j:Good E.P ih){i:Item}{k:List Item}{t:T V}{ds:List eO}{up:Option Md}{rd:Option Nat}{s:S}{out:ft}
 (e:ml i E f fn (gC ih f fn) (bO ih) (eB ih) k t ds up rd s=some out) {ρ:aJ} {w:World} {fr:Frame} {cs:List Frame} (h:HR ρ s w) (g:kK E.P ρ f fn t (i::k) ds .run up rd fr cs) :
 jL E.P f up.isSome rd.isSome cs (lone fr cs w) ρ w out:=by
 have hm:=Ak g;have n:=g.todo rfl;cases i<;>try(cases e;done)
 case code c=>exact Bi y hD j e h g
 case inBlock id=>exact dZ h (Jp hm n) (g.to k) (cg j e)
 case inScope c=>exact dZ h (Jo hm n) (g.to k) (cg j e)
 case inLoop c=>exact dZ h (NH hm n) (g.to _) (cg j e)
 case beginRound =>
  simp only[ml]at e;cases rd with
  |none=>cases e
  |some l =>
   simp only at e;unfold yn at e;split at e
   .rename_i pend f' t' ps a b d nt z;obtain⟨hu,lb,hl,q⟩:=g.rd;obtain⟨r,A,B,F,r4,r5,r6,r7,r8,r9,r10⟩:=xU h z hl;obtain⟨G,H⟩:=r10 .busy pend;have m:=run_beginRound (P:=E.P) A B;have hst:=BV (P:=E.P) (cs:=cs) hm q n m;have u:({ r with state:=LoopState.busy }:Loop)={ r with state:=.busy,pending:=pend }:=by rw[<- F]
    rw[u]at hst;exact jL.of_steps (.one hst) H (cg j e _ _ _ _ G (g.to k))
   .cases e
theorem xl(j:jf E)(hD:ej E)(d:Good E.P ih){t:T V}{todo:List Item}{ds:List eO}{m:Md}{up:Option Md}{rd:Option Nat}{s:S}{out:ft}
 (e:gz E f fn (gC ih f fn) (bO ih) (eB ih) t todo ds m up rd s=some out):Gi E.P f fn t todo ds m up rd s out:=by
 intro ρ w fr cs h b;cases m with
 |run =>
  simp only[gz]at e;cases todo with
  |nil =>simp only[oQ]at e;have hm:=Ak b;have g:=b.todo rfl;exact jA d e h b (λ_ a=>Yw hm g a) (λl v w' a hk hr c cs' hc=>by subst hc;exact Zm hm hk a g hr)
  |cons i k=>exact zY j hD d e h b
 |returning=>exact sG d (by intro q;cases q) e h b
 |panicking c=>exact sG d (by intro q;cases q) e h b
theorem tJ{β:Type}:∀(l:List V) (i:Nat) (t:T V) (k:T V->β),lr l i t k=k (lr l i t id)
 |[],_,_,_=>rfl
 |x::r,i,t,k=>by simp only[lr,T.setK_eq];exact tJ r (i+1) _ k
theorem Dp:∀(l:List V) (i:Nat) (t:T V) (j:Nat),(lr l i t id).get (eX j)=if i<=j/\j<i+l.length then l[j - i]? else t.get (eX j)
 |[],i,t,j=>by rw[afp (by simp)];rfl
 |x::r,i,t,j=>by
  simp only[lr,T.setK_eq];rw[Dp r (i+1) _ j,T.get_setN]
  grind
theorem nq{β:Type}:∀(ps:List Tmp) (l:List V) (t:T V) (k:T V->β),cP t ps l k=k (cP t ps l id)
 |[],l,t,k=>by cases l<;>rfl
 |p::ps,[],t,k=>rfl
 |p::ps,x::l,t,k=>by simp only[cP,T.setK_eq];exact nq ps l _ k
theorem ot{ρ:aJ}:∀(ps:List Tmp) (l:List V) (ys:List Value) (t:T V) (tm:Array Value),TR ρ t tm->bg ρ l=some ys->(∀ p∈ps,p<tm.size) ->
 TR ρ (cP t ps l id) ((ps.zip ys).foldl (λtmps x=>tmps.setIfInBounds x.1 x.2) tm)/\((ps.zip ys).foldl (λtmps x=>tmps.setIfInBounds x.1 x.2) tm).size=tm.size
 |[],l,ys,t,tm,a,_,_=>by
  have:cP t [] l id=t:=by cases l<;>rfl
  simp_all
 |p::ps,[],ys,t,tm,a,b,_=>by cases b;exact⟨a,rfl⟩
 |p::ps,x::l,ys,t,tm,a,b,hp=>by
  obtain⟨y,q,e,g,rfl⟩:=bp.1 b;simp only[cP,T.setK_eq,List.zip_cons_cons,akm];obtain⟨k1,k2⟩:=ot ps l q _ (tm.setIfInBounds p y) (a.put e (hp p (by simp))) g (λh d=>by simpa using hp h (by simp[d]))
  grind
structure ut(E:dI):Prop where
 call:∀ f args s v s',E.orc f args s=some (v,s')->gu E.P f args none s ⟨.returned v,none,s'⟩
theorem FB(z:Good E.P ih){args:List V}{up:Option Md}{s:S}{out:ft}(e:vt ih f args up s (E.P.funcs[f]?)=some out):gu E.P f args up s out:=by
 unfold vt at e;split at e
 .rename_i fn b;split at e
  .rename_i c hb;cases d:(fn.name == "runtime.NumGoroutine")with
   |true=>rw[d]at e;cases e
   |false =>
    rw[d]at e;simp only[SE]at e;rw[tJ]at e;intro ρ w ys h q;have g:fn.name ≠ "runtime.NumGoroutine" := by simpa using d
    refine⟨λw=>by simp[callFunc,b,g,hb],λcs j=>?_⟩;refine z _ s out e ρ w _ cs h ⟨rfl,b,?_,?_,λ_=>?_,trivial,trivial,rfl,?_⟩
    .intro i v m;rw[Dp]at m;have hl:=bR q;split at m
     .rename_i hi;obtain⟨y,n,a⟩:=eK _ q m;refine⟨y,n,?_⟩;have hi2:i<ys.length:=(abj.1 a).1;simp only[ajq]at a;show(ys.toArray++Array.replicate _ undef)[i]? = some y
      grind
     grind [T.get_leaf]
    .show fn.ntmps<=(ys.toArray++Array.replicate _ undef).size
     grind
    .simp[Frame.enter,b,hb]
    .cases up with
     |none=>rfl
     |some u =>obtain⟨c,cs',n,a⟩:=j u rfl;exact⟨rfl,c,cs',n,a⟩
  .cases e
 .cases e
theorem EC(u:Good E.P ih){l:Nat}{args:List V}{s:S}{out:ft}(e:yQ E ih l args s (s.get l)=some out):Tc E.P l args s out:=by
 intro ρ w lb ys h hl m;unfold yQ at e;split at e
 .rename_i st pend f' t' ps a b d nt y;split at e
  .rename_i fn z;cases hb:(Nat.ble fn.ntmps nt&&Nat.beq ps.size args.length&&ps.toList.all (λp=>Nat.blt p nt))with
   |false=>rw[hb]at e;cases e
   |true =>
    rw[hb]at e;simp only[ge]at e;simp only[aaV]at hb;rw[nq]at e;obtain⟨r,A,r2,r3,B,n,F,G,H,q,r10⟩:=xU h y hl;have g:=bR m;have j:ys.toArray.size=r.params.size:=by have:=aaO hb.1.2;rw[n,this];simpa using g
    have hy:=run_yield (P:=E.P) (args:=ys.toArray) A j;have hfold:(r.params.zip ys.toArray).foldl (λtmps (t,a)=>tmps.setIfInBounds t a) r.tmps=(ps.toList.zip ys).foldl (λtmps x=>tmps.setIfInBounds x.1 x.2) r.tmps:=by rw[<- Array.foldl_toList,n];simp
    obtain⟨I,J⟩:=ot ps.toList args ys t' r.tmps H m (λp hp=>afs (pY (afx.1 hb.2 p hp)) q);rw[hfold]at hy;refine⟨_,_,_,_,hy,λcs=>?_⟩;rw[B,F,G];refine u _ s out e ρ w _ cs h ⟨rfl,z,I,?_,λ_=>rfl,trivial,trivial,⟨rfl,lb,hl,rfl⟩,rfl⟩;exact acd (acd (abh hb.1.1) q) (Nat.le_of_eq J.symm)
  .cases e
 .cases e
theorem Cj(d:jf E)(g:ut E)(hD:ej E)(a:Good E.P ih):Good E.P (fy E ih):=by
 intro j s out e;cases j with
 |frame f fn t todo ds m up rd=>exact xl d hD a e
 |call f args up =>
  simp only[fy]at e;unfold Bp at e;split at e
  .rename_i v s' b;cases up with
   |some u=>cases b
   |none =>cases e;exact g.call f args s v s' b
  .exact FB a e
 |round l args=>exact EC a e
theorem mY(a:jf E)(b:ut E)(hD:ej E):∀ n,Good E.P (rK E n)
 |0=>λj s out e=>by cases e
 |n+1=>Cj a b hD (mY a b hD n)
end
abbrev Ih:=uv->S->Option ft
def DZ(c:Nat->Ih)(R:Ih):Prop:=∀ j s o,R j s=some o->∃ n,∀ m,n<=m->c m j s=some o
def bN{α:Type}(c:Nat->Ih)(R:Ih)(Φ:Ih->Option α):Prop:=∀ x,Φ R=some x->∃ n,∀ m,n<=m->Φ (c m)=some x
section
variable{c:Nat->Ih}{R:Ih}{α β:Type}
theorem bN.const(x:Option α):bN c R (λ_=>x):=λ_ h=>⟨0,λ_ _=>h⟩
theorem bN.bind{Φ:Ih->Option α}{Ψ:Ih->Option α->Option β}(h:bN c R Φ)(b:∀ ih,Ψ ih none=none)(d:∀ x,bN c R (λih=>Ψ ih (some x))):bN c R (λih=>Ψ ih (Φ ih)):=by
 intro y hy;cases a:Φ R with
 |none=>simp only[a,b]at hy;cases hy
 |some x =>
  simp only[a]at hy;obtain⟨n1,h1⟩:=h x a;obtain⟨n2,h2⟩:=d x y hy;refine⟨max n1 n2,λm hm=>?_⟩
  grind
theorem bN.ih(h:DZ c R)(j:uv)(s:S):bN c R (λih=>ih j s):=λo ho=>h j s o ho
theorem wj(h:DZ c R){Φ:Ih->Option ft}(a:bN c R Φ)(d:Option Tmp)(t:T V)(ds:List eO)(up:Option Md){k:Ih->RK}(hk:∀ t ds up s,bN c R (λih=>k ih t ds up s)):bN c R (λih=>fS d t ds up (k ih) (Φ ih)):=by
 refine a.bind (Ψ:=λih x=>fS d t ds up (k ih) x) (λ_=>rfl) λo=>?_;obtain⟨e,u,s⟩:=o;cases e with
 |returned v=>simp only[fS,cI];exact hk _ _ _ _
 |panicked c=>exact bN.const _
theorem Kr(h:DZ c R)(rd:Option Nat)(d:Option Tmp)(t:T V)(ds:List eO)(up:Option Md){k:Ih->RK}(hk:∀ t ds up s,bN c R (λih=>k ih t ds up s))(x:Option Nx) :
 bN c R (λih=>eg (bO ih) (eB ih) rd d t ds up (k ih) x):=by
 cases x with
 |none=>exact bN.const _
 |some x =>
  cases x with
  |val v s=>simp only[eg,cI];exact hk _ _ _ _
  |skip s=>simp only[eg,cI];exact hk _ _ _ _
  |enter f args s=>exact wj h (bN.ih h _ _) d t ds up hk
  |round l args s=>exact wj h (bN.ih h _ _) d t ds up hk
  |defer df s=>cases rd<;>simp only[eg,cI,ajz,ago,ge,SE]<;>first|exact hk _ _ _ _|exact bN.const _
  |recover s =>
   simp only[eg];unfold recovered;split
   .simp only[cI];exact hk _ _ _ _
   .simp only[cI];exact hk _ _ _ _
   .exact bN.const _
  |panic v s=>exact bN.const _
theorem Kq(h:DZ c R){E:dI}(rd:Option Nat)(o:Oper)(t:T V)(ds:List eO)(up:Option Md)(s:S){k:Ih->RK}(hk:∀ t ds up s,bN c R (λih=>k ih t ds up s))(b:Option Bool) :
 bN c R (λih=>rO E (bO ih) (eB ih) rd o t ds up s (k ih) b):=by
 cases b with
 |none=>exact bN.const _
 |some b=>cases b with
  |true=>exact Kr h rd _ t ds up hk _
  |false=>simp only[rO,cI];exact hk _ _ _ _
theorem Aq(h:DZ c R){E:dI}{ops:Array Oper}(rd:Option Nat):∀(l:List Oper) (t:T V) (ds:List eO) (up:Option Md) (s:S),bN c R (λih=>rJ E ops (bO ih) (eB ih) rd l t ds up s)
 |[],_,_,_,_=>bN.const _
 |o::l,t,ds,up,s=>Kq h rd o t ds up s (λt ds up s=>Aq h rd l t ds up s) _
theorem Ku(h:DZ c R){E:dI}(t:T V)(s:S)(o:Oper)(b:Option Bool):bN c R (λih=>gX E (bO ih) t s o b):=by
 cases b with
 |none=>exact bN.const _
 |some b=>cases b with
  |false=>exact bN.const _
  |true =>
   simp only[gX];cases dC E t s o with
   |none=>exact bN.const _
   |some x=>cases x with
    |enter f args s =>simp only[kn];refine(bN.ih h (.call f args none) s).bind (Ψ:=λ_ x=>nW x) (λ_=>rfl) λo=>bN.const _
    |_=>exact bN.const _
theorem wi(h:DZ c R){E:dI}{ops:Array Oper}{ms:List Nat}{effs:Nat}{all:List (Nat×Oper)}(ds:List eO)(up:Option Md):∀(es:List (Nat×Oper)) (a:List (Nat×S)) (done:Nat) (t:T V) (s:S),
 bN c R (λih=>gJ E ops ms effs all (bO ih) ds up es a done t s)
 |[],_,_,_,_=>bN.const _
 |(i,o)::r,a,done,t,s=>by
  simp only[gJ];cases cz E ops ms effs a (ms.getD i 0) all done t s with
  |none=>exact bN.const _
  |some x =>
   obtain⟨b,d,s1⟩:=x;simp only
   refine(Ku h d s1 o (bT ops d o)).bind (Ψ:=λih (x:Option OY)=>match x with
    |some (.val v s')=>bif Nat.ble s1.next s'.next&&!(b.testBit i)&&effs.testBit i then oE d o.dst (some v) λt=>gJ E ops ms effs all (bO ih) ds up r ((i,s')::a) (Nat.lor b (Nat.pow 2 i)) t s' else none
    |some (.pan c s')=>bif b.testBit i then none else LX ds up b all d c s' (cz E ops ms effs a (dT ms i all) all b d s1)
    |none=>none) (λ_=>rfl) λx=>?_
   cases x with
   |val v s' =>
    simp only;cases (Nat.ble s1.next s'.next&&!(b.testBit i)&&effs.testBit i)with
    |false=>exact bN.const _
    |true=>simp only[ge,cI];exact wi h ds up r _ _ _ _
   |pan c s'=>exact bN.const _
theorem Fp(h:DZ c R){E:dI}{ops:Array Oper}(t:T V)(ds:List eO)(up:Option Md)(s:S):bN c R (λih=>iS E ops (bO ih) (eB ih) t ds up s):=by
 unfold iS;cases Qs E.P ops with
 |none=>exact bN.const _
 |some p=>exact wi h ds up _ _ _ _ _
variable{f:FuncId}{fn:Func}
theorem gV(h:DZ c R)(t:T V)(todo:List Item)(ds:List eO)(m:Md)(up:Option Md)(rd:Option Nat)(s:S):bN c R (λih=>gC ih f fn t todo ds m up rd s):=bN.ih h _ _
theorem nQ(h:DZ c R)(t:T V)(ds:List eO)(up:Option Md)(rd:Option Nat)(s:S)(jump:Option Code):bN c R (λih=>nH (gC ih f fn) t ds up rd s jump):=by
 unfold nH;split
 .split
  .simp_all[gV]
  .simp_all[gV]
  .exact bN.const _
 simp_all[bN.const]
theorem tR(h:DZ c R){Φ:Ih->Option kO}(a:bN c R Φ)(k:List Item)(rd:Option Nat):bN c R (λih=>gK (gC ih f fn) k rd (Φ ih)):=by refine a.bind (Ψ:=λih x=>gK (gC ih f fn) k rd x) (λ_=>rfl) λx=>?_;cases x<;>exact gV h _ _ _ _ _ _ _
theorem HJ(h:DZ c R){Φ:Ih->Option ft}(a:bN c R Φ)(k:List Item)(t:T V)(ds:List eO)(up:Option Md)(rd:Option Nat)(d l:Nat):bN c R (λih=>kV (gC ih f fn) k t ds up rd d l (Φ ih)):=by
 refine a.bind (Ψ:=λih x=>kV (gC ih f fn) k t ds up rd d l x) (λ_=>rfl) λx=>?_;obtain⟨e,u,s⟩:=x;cases e with
 |panicked c=>exact gV h _ _ _ _ _ _ _
 |returned v =>
  simp only[kV];unfold tC;split
  .split
   .exact bN.const _
   simp_all[gV]
  .exact bN.const _
theorem Cn(h:DZ c R)(nt:Nat)(k:List Item)(t:T V)(ds:List eO)(up:Option Md)(rd:Option Nat)(s:S)(ps:Array Tmp)(a b:Code)(x:Option V):bN c R (λih=>gx f nt (gC ih f fn) (bO ih) k t ds up rd s ps a b x):=by
 unfold gx;split
 .split
  .split
   .exact HJ h (bN.ih h _ _) _ _ _ _ _ _ _
   .exact bN.const _
  .exact bN.const _
 .exact bN.const _
theorem Fs(h:DZ c R){E:dI}(co:Code)(k:List Item)(t:T V)(ds:List eO)(up:Option Md)(rd:Option Nat)(s:S):bN c R (λih=>cW co E f fn (gC ih f fn) (bO ih) (eB ih) k t ds up rd s):=by
 cases co<;>simp only[cW]<;>try exact gV h _ _ _ _ _ _ _
 case ret=>exact nQ h _ _ _ _ _ _
 case cond q a b =>
  unfold FO;split
  .exact gV h _ _ _ _ _ _ _
  .exact bN.const _
 case exit id =>
  unfold rV;split
  .exact gV h _ _ _ _ _ _ _
  .exact nQ h _ _ _ _ _ _
 case goto l =>
  unfold rV;split
  .exact gV h _ _ _ _ _ _ _
  .exact nQ h _ _ _ _ _ _
 case rangeFunc g ps a b=>exact Cn h _ _ _ _ _ _ _ _ _ _ _
 case region id ops draws =>cases draws<;>simp only[cW]<;>cases mw ops fn.ntmps<;>simp only[ge,SE]<;>first|exact bN.const _|exact tR h (Aq h _ _ _ _ _ _) _ _|exact tR h (Fp h _ _ _ _) _ _
 simp_all[bN.const]
theorem Fq(h:DZ c R){E:dI}(i:Item)(k:List Item)(t:T V)(ds:List eO)(up:Option Md)(rd:Option Nat)(s:S):bN c R (λih=>ml i E f fn (gC ih f fn) (bO ih) (eB ih) k t ds up rd s):=by
 cases i<;>simp only[ml]<;>try(first|exact gV h _ _ _ _ _ _ _|exact bN.const _)
 case code co=>exact Fs h co _ _ _ _ _ _
 case beginRound =>
  cases rd with
  |none=>exact bN.const _
  |some l =>
   simp only;unfold yn;split
   .exact gV h _ _ _ _ _ _ _
   .exact bN.const _
theorem Ap(h:DZ c R){E:dI}(ds:List eO)(t:T V)(m:Md)(up:Option Md)(rd:Option Nat)(s:S):bN c R (λih=>dJ ds E fn (gC ih f fn) (bO ih) t m up rd s):=by
 cases ds with
 |nil=>exact bN.const _
 |cons d ds =>
  cases d with
  |collected b =>
   simp only[dJ];unfold lF;split
   .simp_all[gV]
   .exact bN.const _
  |call fn cap args =>
   cases fn with
   |func g =>
    simp only[dJ];refine(bN.ih h (.call g (args++cap) (some m)) s).bind (Ψ:=λih x=>kw (gC ih f _) t ds up rd x) (λ_=>rfl) λx=>?_;unfold kw;split
    .split
     .exact bN.const _
     simp_all[gV]
    .simp_all[gV]
    .exact bN.const _
   |_=>exact bN.const _
theorem pI(h:DZ c R){E:dI}(j:uv)(s:S):bN c R (λih=>fy E ih j s):=by
 cases j with
 |frame f fn t todo ds m up rd =>
  simp only[fy];cases m with
  |run =>
   simp only[gz];cases todo with
   |nil=>simp only[oQ];exact nQ h _ _ _ _ _ _
   |cons i k=>simp only[oQ];exact Fq h i _ _ _ _ _ _
  |returning=>simp only[gz];exact Ap h _ _ _ _ _ _
  |panicking c=>simp only[gz];exact Ap h _ _ _ _ _ _
 |call f args up =>
  simp only[fy];unfold Bp;split
  .exact bN.const _
  .unfold vt;split
   .split
    .rename_i fn _ _ co _;cases b:(fn.name == "runtime.NumGoroutine")with
     |true=>exact bN.const _
     |false =>have:(λih:Ih=>bif false then none else lr args 0 .leaf λt=>ih (.frame f fn t [.code co] [] .run up none) s)=λih=>ih (.frame f fn (lr args 0 .leaf id) [.code co] [] .run up none) s:=funext λih=>tJ args 0 .leaf _;rw[this];exact bN.ih h _ _
    .exact bN.const _
   .exact bN.const _
 |round l args =>
  simp only[fy];unfold yQ;split
  .split
   .rename_i _ _ a t0 ps assign body _ nt _ _ fn _;cases b:(Nat.ble fn.ntmps nt&&Nat.beq ps.size args.length&&ps.toList.all (λp=>Nat.blt p nt))with
    |false=>exact bN.const _
    |true =>have:(λih:Ih=>bif true then cP t0 ps.toList args λt=>ih (.frame a fn t [.code assign,.beginRound,.code body] [] .run none (some l)) s else none)=λih=>ih (.frame a fn (cP t0 ps.toList args id) [.code assign,.beginRound,.code body] [] .run none (some l)) s:=funext λih=>nq ps.toList args t0 _;rw[this];exact bN.ih h _ _
   .exact bN.const _
  .exact bN.const _
end
def lim(E:dI):Ih:=λj s=>open Classical in if h:∃ o n,rK E n j s=some o then some h.choose else none
theorem yP(E:dI):∀ n j s o,rK E n j s=some o->rK E (n+1) j s=some o
 |0,_,_,_,h=>by cases h
 |n+1,j,s,o,h=>by have hl:DZ (λ_=>rK E (n+1)) (rK E n):=λj s o h=>⟨0,λ_ _=>yP E n j s o h⟩;obtain⟨k,hk⟩:=pI hl (E:=E) j s o h;exact hk k (aaW _)
theorem uC(E:dI){n m:Nat}(hm:n<=m){j:uv}{s:S}{o:ft}(h:rK E n j s=some o):rK E m j s=some o:=by
 induction hm with
 |refl=>exact h
 |step _ ih=>exact yP E _ j s o ih
theorem GO{E:dI}{n:Nat}{j:uv}{s:S}{o:ft}(h:rK E n j s=some o):lim E j s=some o:=by
 have a:∃ o n,rK E n j s=some o:=⟨o,n,h⟩;unfold lim;rw[dif_pos a];obtain⟨m,hm⟩:=a.choose_spec;have h1:=uC E (Nat.le_max_left n m) h
 grind [uC,Nat.le_max_right]
theorem zO{E:dI}{j:uv}{s:S}{o:ft}(h:lim E j s=some o):∃ n,rK E n j s=some o:=by
 unfold lim at h;split at h
 .grind
 .cases h
theorem UT(E:dI):DZ (rK E) (lim E):=λj s o h=>by obtain⟨n,a⟩:=zO h;exact⟨n,λm hm=>uC E hm a⟩
theorem Rl(E:dI)(j:uv)(s:S):lim E j s=fy E (lim E) j s:=by
 cases h:fy E (lim E) j s with
 |some o =>obtain⟨n,a⟩:=pI (UT E) j s o h;exact GO (n:=n+1) (a n (aaW _))
 |none =>
  cases b:lim E j s with
  |none=>rfl
  |some o =>
   obtain⟨n,a⟩:=zO b;cases n with
   |zero=>cases a
   |succ n =>
    have hl:DZ (λ_=>lim E) (rK E n):=λj s o h=>⟨0,λ_ _=>GO h⟩;obtain⟨k,hk⟩:=pI hl (E:=E) j s o a;have h3:fy E (lim E) j s=some o:=hk k (aaW _)
    grind
theorem Rk{E:dI}(a:jf E)(b:ut E)(hD:ej E):Good E.P (lim E):=λj s o h=>by obtain⟨n,d⟩:=zO h;exact mY a b hD n j s o d
section ops
variable{P:Program}{ρ:aJ}{s:S}{w:World}{t:T V}{tm:Array Value}
theorem KO(h:HR ρ s w){b:Builtin}(hb:b=.len\/b=.cap\/b=.max\/b=.min){ts:Array TypeId}{ty:TypeId}{consts:Array Bool}{args:List V}{ys:List Value}(g:bg ρ args=some ys){nx:Nx}(e:jq P b ts args s=some nx) :
 BL P ρ w s nx ((Go.builtin b ts ty consts ys.toArray).run P w):=by
 rcases hb with rfl|rfl|rfl|rfl
 .simp only[jq]at e;split at e
  .rename_i t0 h0;split at e
   .rename_i x;obtain⟨X,d,rfl⟩:=nZ g;exact be h e λv a=>zQ h h0 d a
   .cases e
  .cases e
 .simp only[jq]at e;split at e
  .rename_i t0 h0;split at e
   .rename_i x;obtain⟨X,d,rfl⟩:=nZ g;exact be h e λv a=>Bm h0 d a
   .cases e
  .cases e
 .simp only[jq]at e;refine be (m:=Builtin.max_ ts ty ys.toArray) h e λv a=>?_;cases args with
  |nil=>cases a
  |cons x r =>obtain⟨X,q,d,hr,rfl⟩:=bp.1 g;exact kg zH r q x X v hr d a
 .simp only[jq]at e;refine be (m:=Builtin.min_ ts ty ys.toArray) h e λv a=>?_;cases args with
  |nil=>cases a
  |cons x r =>obtain⟨X,q,d,hr,rfl⟩:=bp.1 g;exact kg zF r q x X v hr d a
theorem KK(h:HR ρ s w)(m:TR ρ t tm){a dst:TypeId}(b:∀ el,P.underlying dst≠some (.slice el)){x:Operand}{nx:Nx}(e:gZ P s a dst (eval t x)=some nx) :
 BL P ρ w s nx ((do pure (Next.value (<- convert a dst (rv tm x))):Sem Next).run P w):=by
 unfold gZ at e;split at e
 .rename_i v q;have dv:=aI m q;generalize rv tm x=X at *;unfold jj at e;split at e
  .rename_i y s' hc;cases e;unfold kz at hc;split at hc
   .rename_i ds g;split at hc
    .rename_i k d;split at hc
     .rename_i j n;cases hc;cases dv;have:(convert a dst (.int j n)).run P w=.ok (.int k (k.wrap n)) w:=by cases ds<;>simp[convert,aE g,aE d,Conv.intToInt]
      exact⟨_,.int k (k.wrap n),rfl,by simp[this],by rw[cr];rfl⟩
     .cases hc
    .rename_i d;obtain⟨rfl,u,z,A⟩:=vU h g d dv hc;exact⟨_,u,rfl,by simp[A],z⟩
    .rename_i el d;exact absurd d (b el)
    .cases hc
   .cases hc
  .cases e
 .cases e
theorem CV{E:dI}(h:HR ρ s w)(d:TR ρ t tm)(o:Oper)(hk:aL E.P o.op<=1){nx:Nx}(e:dC E t s o=some nx):BL E.P ρ w s nx ((execOp (rv tm) o).run E.P w):=by
 obtain⟨dst,op,type,pos,after,guard⟩:=o;unfold dC at e;simp only at e hk;cases op<;>simp only[dj]at e<;>try(cases e;done)
 case move x=>exact tu h d e
 case assign x=>exact tu h d e
 case pick c a b=>exact tW h d e
 case alloc elem=>simp[aL]at hk
 case box elem x=>simp[aL]at hk
 case build ty parts=>exact rA h d e
 case buildSlice ty len parts=>simp[aL]at hk
 case load ty x=>exact tY h d e
 case store ty x y=>simp[aL]at hk
 case nilCheck x=>exact my h d e
 case binOp op ty x y z=>exact wQ h d e
 case unOp op ty x=>exact Ba h d e
 case convert src dst x =>refine KK h d (λel g=>?_) e;simp[aL,g]at hk
 case makeInterface ty x=>exact oB h d e
 case makeFunc fn first cap=>exact pR h d e
 case makeMap ty r=>simp[aL]at hk
 case makeSlice ty l c=>simp[aL]at hk
 case slice ty x lo hi mx=>exact rx h d e
 case fieldAddr ty x f=>exact lB h d e
 case field ty x f=>exact rz h d e
 case indexAddr ty x i=>exact lA h d e
 case index ty x i=>exact ry h d e
 case lookup ty x k ok=>exact pS h d e
 case mapUpdate ty m k x=>simp[aL]at hk
 case insert ty m k x=>simp[aL]at hk
 case typeAssert x xt ty ok=>exact pT h d e
 case extract x i=>exact oC h d e
 case call c =>
  unfold iI at e;split at e
  .rename_i args j;obtain⟨ys,n,q⟩:=BB d j;split at e
   .rename_i b hc;have hb:b=.len\/b=.cap\/b=.max\/b=.min:=by grind [aL]
    simp only[execOp,resolve,hc,abr,afe,abm,invoke,q];exact KO h hb n e
   .rename_i f hc;simp[aL,hc]at hk
   .cases e
  .cases e
 case defer c=>simp[aL]at hk
 grind [aL]
end ops
section ops
variable{P:Program}{ρ:aJ}{s:S}{w:World}{t:T V}{tm:Array Value}
def OW(P:Program)(ρ:aJ)(w:World)(mk:Nat->V)(B:dY)(m:Sem Next):Prop :=
 ∃ y obj lim n,m.run P w=.ok (.value y) ({ w with drawn:=n }.alloc obj) /\
  ∀ ρ' f,ρ.le ρ'->ρ' f 0=some ⟨w.heap.size,0,lim⟩->(∀ v,1<=v->ρ' f v=none)->den ρ' (mk f)=some y/\∀ w':World,w'.heap[w.heap.size]? = some obj->BO ρ' w' f B
theorem vC{ρ':aJ}{f:Nat}{lim b:Nat}{cs:List V}{ys:Array Value}{sb:Bool}{el g:TypeId}{fz:Nat×Nat}(m:bg ρ cs=some (ys.toList.take cs.length))(e:(sb=false->fz=(0,0))/\∀ i,i<ys.size->¬(fz.1<=i/\i<fz.2))
 (hl:ρ.le ρ') (h0:ρ' f 0=some ⟨b,0,lim⟩) (n:∀ v,1<=v->ρ' f v=none) (a:lim=ys.size) {w':World} (q:w'.heap[b]? = some (.cells ys g fz)):BO ρ' w' f (.cells el sb 1 [⟨0,0,cs⟩]):=by
 refine⟨n,λu h=>?_⟩;simp at h;subst h;refine⟨Nat.zero_lt_one,_,ys,g,fz,h0,q,aaW _,by simp[a],e,λi x j=>?_⟩;obtain⟨y,hy,d⟩:=eK i m j;refine⟨y,bM hl _ _ hy,?_⟩;have hi:i<cs.length:=(abj.1 j).1;rw[aiI hi,afo]at d;simpa using d
theorem Hh{elem:TypeId}{v:V}{y:Value}(a:den ρ v=some y):OW P ρ w (λf=>.ptr ⟨f,0,0⟩) (.cells elem false 1 [⟨0,0,v.cells⟩]) (do pure (Next.value (.pointer (some (<- newVar elem y))))):=by refine⟨_,_,y.cells.size,w.drawn,by simp[newVar,newRow];exact⟨rfl,rfl⟩,λρ' f hl h0 b=>⟨by simp[den,jb,h0],λw' d=>?_⟩⟩;exact vC (by rw[eJ a,<- ob a,aiR (by simp)]) ⟨λ_=>rfl,by simp⟩ hl h0 b rfl d
theorem Rg{elem:TypeId}{cs:List V}{ys:Array Value}(g:bg ρ cs=some ys.toList){len sz cap:Nat}(hl:len<=cap)(d:0<sz) :
 OW P ρ w (λf=>.slice ⟨f,0,0⟩ 0 len (some cap) sz) (.cells elem false 1 [⟨0,0,cs⟩]) (do pure (Next.value (.slice (some (<- newRow elem ys)) len cap))):=by
 have b:cs.length=ys.size:=by have:=bR g;simpa using this.symm
 refine⟨_,_,ys.size,w.drawn,by simp[newRow];exact⟨rfl,rfl⟩,λρ' f e h0 h=>⟨?_,λw' j=>?_⟩⟩
 .exact dL (a:=⟨f,0,0⟩) (cap:=some cap) h0 (ajg _) (ajg _) hl d
 .exact vC (by rw[g,b,aiR (by simp)]) ⟨λ_=>rfl,by simp⟩ e h0 h rfl j
def vR(P:Program)(ρ:aJ)(w:World)(d:S->Option Nx)(m:Sem Next):Prop :=
 ∃ mk B,(∀ s',d s'=some (.val (mk s'.next) (s'.alloc B)))/\OW P ρ w mk B m
theorem OW.congr{mk:Nat->V}{B:dY}{m a:Sem Next}(h:OW P ρ w mk B m)(e:a.run P w=m.run P w):OW P ρ w mk B a:=by obtain⟨y,obj,lim,n,b,d⟩:=h;exact⟨y,obj,lim,n,e.trans b,d⟩
theorem FF{elem:TypeId}{nx:Nx}(e:jG P s elem=some nx):vR P ρ w (λs=>jG P s elem) (do pure (Next.value (<- Instr.alloc elem true (.tuple #[])))):=by
 unfold jG at e;split at e
 .rename_i z b;obtain⟨y,i,hi,a,d⟩:=fh b;refine⟨_,_,λs'=>by simp only[jG,b,rh,bA,bz],(Hh (P:=P) (w:=w) (elem:=elem) (d ρ)).congr ?_⟩;simp only[Instr.alloc,abr,gh hi a,abm,afe];simp[newVar,newRow]
 .cases e
theorem KC(b:TR ρ t tm){elem:TypeId}{x:Operand}{nx:Nx}(e:ua s elem (eval t x)=some nx):vR P ρ w (λs=>ua s elem (eval t x)) (do pure (Next.value (<- Instr.box elem (rv tm x)))):=by
 unfold ua at e;split at e
 .rename_i z a;refine⟨_,_,λs'=>by simp only[ua,a,rh,bA,bz],(Hh (P:=P) (w:=w) (elem:=elem) (aI b a)).congr ?_⟩;simp only[Instr.box,abr,afe];simp[newVar,newRow]
 .cases e
theorem Bb{ty:TypeId}:vR P ρ w (λs=>some (.val (.map s.next) (s.alloc (.map [] 0)))) (do pure (Next.value (<- Instr.makeMap ty none))):=by refine⟨λf=>.map f,.map [] 0,λs'=>rfl,.map (some w.heap.size),.map #[] 0,0,w.drawn,by simp[Instr.makeMap],λρ' f hl h0 h1=>⟨by simp[den,h0],λw' a=>⟨_,#[],h0,a,trivial⟩⟩⟩
def Nu(P:Program)(ρ:aJ)(w:World)(d:S->Option Nx)(m:Sem Value):Prop :=
 ∃(el:TypeId) (cs:List V) (ys:Array Value) (len cap sz:Nat),(∀ s',d s'=some (.val (.slice (bA s' el cs).1 0 len (some cap) sz) (bA s' el cs).2))/\bg ρ cs=some ys.toList/\len<=cap/\0<sz /\
  m.run P w=(do pure (.slice (some (<- newRow el ys)) len cap):Sem Value).run P w
theorem Nu.made{d:S->Option Nx}{m:Sem Value}(h:Nu P ρ w d m):vR P ρ w d (do pure (Next.value (<- m))):=by obtain⟨el,cs,ys,len,cap,sz,b,e,g,j,a⟩:=h;refine⟨_,_,λs'=>by rw[b];simp only[bA,bz],(Rg (P:=P) (w:=w) (elem:=el) e g j).congr ?_⟩;simp only[abr]at a ⊢;rw[a];simp[newRow]
theorem Cs(L:TR ρ t tm){ty:TypeId}{l c:Operand}{nx:Nx}(e:eI P s ty (dQ (eval t l)) (dQ (eval t c))=some nx) :
 Nu P ρ w (λs=>eI P s ty (dQ (eval t l)) (dQ (eval t c))) (Instr.makeSlice ty (rv tm l) (rv tm c)):=by
 unfold eI at e;split at e
 .rename_i el M;split at e
  .rename_i l' hl;split at e
   .rename_i a hc;obtain⟨k1,X⟩:=gy L hl;obtain⟨k2,Y⟩:=gy L hc;split at e
    .rename_i z N;obtain⟨zv,i,hi,u,b⟩:=fh N;split at e
     .rename_i n O;cases hb:(Nat.ble l' a&&Nat.ble a 2199023255552&&!(Nat.beq n 0)&&Nat.beq z.cells.length n&&mR P el a)with
      |false=>simp[hb]at e
      |true =>
       have y:=hb;simp only[hb,ge]at e;simp only[aaV]at hb;obtain⟨⟨⟨⟨A,B⟩,F⟩,Q⟩,Z⟩:=hb;have A:=abh A;have B:=abh B;have Q:=aaO Q;have F:0<n:=by grind
       have Z:i.bytes*a<=100000000000000:=by simp_all[mR]
       have d:=eJ (b ρ);have G:zv.cells.toList.length=n:=by have:=bR d;omega
       have hrow:=Bh zv.cells.toList n G F a;have hd:bg ρ (List.replicate a z.cells).flatten=some ((List.replicate a zv.cells.toList).flatten.toArray).toList:=by simpa using hC d a
       have h:(Instr.makeSlice ty (rv tm l) (rv tm c)).run P w=(do pure (.slice (some (<- newRow el (List.replicate a zv.cells.toList).flatten.toArray)) l' a):Sem Value).run P w:=by
        have j:=cH O w;have U:=mL l' (by omega);have W:=mL a B;simp only[ajW]at U W;have hA:∀ k n,(asInt (.int k n)).run P w=.ok n w:=λk n=>by simp[asInt,asIntOf]
        have hrow2:Array.map (λx=>zv.cells[x%zv.cells.size]!) (Array.range (a*n))=(List.replicate a zv.cells.toList).flatten.toArray:=by grind
        have m:(decide ((a:Int)<0)||decide ((i.bytes:Int)*(a:Int)>2 ^ 48))=false:=by grind
        have H:decide ((l':Int)<0)=false:=by simp
        have I:decide ((l':Int)>(a:Int))=false:=by simp;omega
        have J:(typeInfo el).run P w=.ok i w:=by simp[typeInfo,hi]
        have hzr:=gh hi u w;simp only[Instr.makeSlice,abr,aE M,abm,X,Y,hA,afe,J,ajW,U,W,run_askRoom,j,aio];rw[afp (by rw[m,H,I];simp)];simp only[abr,run_askRoom,abm,j];by_cases q:a*n=0
        .rw[agC q];have g:∀ f:Nat->Value,Array.map f (Array.range 0)=#[]:=λf=>by simp
         simp only[abr,afe,abm,<- hrow2,q,g]
        simp_all
       have K:(Nat.ble l' a&&Nat.ble a 2199023255552&&!(Nat.beq n 0)&&Nat.beq z.cells.length n&&mR P el a)=true:=y;exact⟨el,_,_,l',a,n,λs'=>by simp only[eI,M,hl,hc,N,O,K,ge,bA,bz],hd,A,F,h⟩
     .cases e
    .cases e
   .cases e
  .cases e
 .cases e
theorem vA(K:TR ρ t tm){ty:TypeId}{len:Nat}{parts:Array (Nat×Operand)}{nx:Nx}(e:cJ P s ty len (eG t parts.toList)=some nx) :
 Nu P ρ w (λs=>cJ P s ty len (eG t parts.toList)) (Instr.buildSlice ty len (parts.map fun(i,x)=>(i,rv tm x))):=by
 unfold cJ at e;split at e
 .rename_i el G;split at e
  .rename_i l hl;have q:=hl;have hp:=jD K hl;have u:(parts.toList.map fun(i,x)=>(i,rv tm x))=(parts.map fun(i,x)=>(i,rv tm x)).toList:=by simp
   rw[u]at hp;split at e
   .rename_i z H;obtain⟨zv,it,hi,y,d⟩:=fh H;have h:=eJ (d ρ);split at e
    .rename_i n I;cases hb:(Nat.ble (len*n) 10000&&!(Nat.beq n 0)&&Nat.beq z.cells.length n)with
     |false=>rw[hb]at e;cases e
     |true =>
      have A:=hb;rw[hb]at e;simp only[ge]at e;simp only[aaV]at hb;have b1:=abh hb.1.1;have J:0<n:=by
       rcases ajo n with h0|h0
       .subst h0;simp at hb
       .exact h0
      have b3:=aaO hb.2;unfold mf at e;split at e
      .rename_i cs j;have B:zv.cells.toList.length=n:=by have:=bR h;omega
       have hrow:=Bh zv.cells.toList n B J len;have L:bg ρ (List.replicate len z.cells).flatten=some ((List.replicate len zv.cells.toList).flatten.toArray).toList:=by simpa using hC h len
       obtain⟨zs,b,F⟩:=kj (place:=λi=>some (i*n,n)) (λi x M=>M) hp L j;have hrow2:Array.map (λx=>zv.cells[x%zv.cells.size]!) (Array.range (len*n))=(List.replicate len zv.cells.toList).flatten.toArray:=by grind
       have m:(Instr.buildSlice ty len (parts.map fun(i,x)=>(i,rv tm x))).run P w=(do pure (.slice (some (<- newRow el zs)) len len):Sem Value).run P w:=by
        simp only[Instr.buildSlice,abr,aE G,abm,cH I];rw[afp (by omega)];by_cases a:len*n=0
        .rw[agC a];have g:∀ f:Nat->Value,Array.map f (Array.range 0)=#[]:=λf=>by simp
         rw[<- hrow2,a,g]at b;simp only[abr,afe,abm,a,g,b]
        .rw[afp a];simp only[abr,gh hi y,abm,afe,hrow2,b]
       exact⟨el,_,_,len,len,n,λs'=>by simp only[cJ,G,q,H,I,A,ge,mf,j,bA,bz],F,aaW _,J,m⟩
      .cases e
    .cases e
   .cases e
  .cases e
 .cases e
theorem HX(y:TR ρ t tm){b dst el:TypeId}(d:P.underlying dst=some (.slice el)){x:Operand}{nx:Nx}(e:gZ P s b dst (eval t x)=some nx) :
 vR P ρ w (λs=>gZ P s b dst (eval t x)) (do pure (Next.value (<- convert b dst (rv tm x)))):=by
 unfold gZ at e;split at e
 .rename_i v u;have dv:=aI y u;generalize rv tm x=X at *;unfold jj kz at e;cases m:P.underlying b with
  |none=>simp[m]at e
  |some ds =>
   simp only[m,d]at e;cases v<;>simp only[qj]at e<;>try(cases e;done)
   rename_i l;cases ds<;>simp only at e<;>try(cases e;done)
   cases hb:gQ P el with
   |false=>rw[hb]at e;cases e
   |true =>
    cases dv;have g:=run_bytes_of_string w b dst el (aK l) m d (jB hb);rw[eR]at g;have n:=akj w l.length 0 el;generalize hc:grownCap w l.length 0 el=cap at *;have j:(bytesRow (aK l) cap).size=cap:=by simp only[bytesRow,ajU,Array.size_map,Array.size_replicate,eR];simp_all[eR]
    rw[j]at g;have q:bg ρ (l.map pX)=some ((bytesRow (aK l) cap).toList.take (l.map pX).length):=by
     rw[vE];have:(aK l).data.toList.length=l.length:=by simp[aK]
     simp[bytesRow,this]
    refine⟨λf=>.slice ⟨f,0,0⟩ 0 l.length none 1,.cells el true 1 [⟨0,0,l.map pX⟩],λs'=>?_,_,_,cap,w.drawn+1,by simp only[abr,g,abm,afe];rfl,λρ' f hl h0 A=>⟨?_,λw' B=>?_⟩⟩
    .simp only[gZ,u,jj,kz,m,d,qj,hb,ge,bz]
    .have:=dL (a:=⟨f,0,0⟩) (z:=0) (len:=l.length) (cap:=none) (sz:=1) h0 (by simp) (ajg _) (by simpa[cG]using n) Nat.one_pos;rw[this];simp[cG,bD]
    .exact vC q ⟨(λh=>by cases h),λi hi=>by rw[j]at hi;simp;omega⟩ hl h0 A j.symm B
 .cases e
theorem NP{E:dI}(a:TR ρ t tm)(o:Oper)(hk:aL E.P o.op=2){nx:Nx}(e:dC E t s o=some nx):vR E.P ρ w (λs=>dC E t s o) (execOp (rv tm) o):=by
 obtain⟨dst,op,type,pos,after,guard⟩:=o;unfold dC at e ⊢;simp only at e hk ⊢;cases op<;>simp only[dj]at e ⊢<;>try(cases e;done)
 case alloc elem=>exact FF e
 case box elem x=>exact KC a e
 case buildSlice ty len parts=>exact(vA a e).made
 case makeMap ty r =>
  cases r with
  |none=>exact Bb
  |some _=>cases e
 case makeSlice ty l c=>exact(Cs a e).made
 case convert src dst x =>
  cases b:E.P.underlying dst with
  |none=>simp[aL,b]at hk
  |some d=>cases d<;>simp[aL,b]at hk;exact HX a b e
 case binOp op ty x y z=>simp only[aL]at hk;cases hb:rY op<;>simp[hb]at hk
 case call c=>simp only[aL]at hk;split at hk<;>simp at hk
 all_goals simp[aL]at hk
end ops
instance (n:Nat):OfNat V n:=⟨.atom n⟩
abbrev iV(n:Int):V:=.int .i64 n
abbrev nS:V:=.nilslice
abbrev s0:V:=.str []
abbrev cB(e:TypeId)(l:List V):dY:=.cells e false 1 [⟨0,0,l⟩]
abbrev lf:T dY:=.leaf
abbrev n0(a c:T dY):T dY:=.node a none c
abbrev n1(a:T dY):T dY:=.node a none .leaf
abbrev n2(a:T dY):T dY:=.node .leaf none a
abbrev n3(b:dY):T dY:=.node .leaf (some b) .leaf
abbrev n4(a:T dY)(b:dY)(c:T dY):T dY:=.node a (some b) c
