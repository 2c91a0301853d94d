/- Lemmas. No conditions. -/
import GoSem.Step
import Derived.Laws.Sem
import Derived.Laws.World
import Derived.Laws.Cells
set_option linter.all false
noncomputable section
namespace Go.AI
def ge:=@cond_true
def TD:=@cond_false
def aae:=@List.length_append
def aaQ:=@List.length_singleton
def abr:=@Nat.eq_of_beq_eq_true
def aby:=@List.length_map
def abz:=@decide_eq_false
def abA:=@Bool.and_eq_true
def abB:=@Option.some.injEq
def abC:=@decide_eq_true
def abD:=@Nat.le_refl
def abE:=@List.mem_cons_of_mem
def abF:=@List.getElem?_eq_getElem
def aeb:=@Nat.le_of_ble_eq_true
def aeq:=@Result.andThen_ok
def aez:=@List.getElem?_eq_some_iff
def aeA:=@beq_eq_false_iff_ne
def aeD:=@if_neg
def aeF:=@List.getElem?_eq_none
def aeG:=@Bool.true_and
def aeH:=@Bool.false_and
def aeI:=@Nat.ble_eq_true_of_le
def aeJ:=@List.length_cons
def aeK:=@List.mem_cons_self
def aeL:=@List.map_cons
def aeM:=@if_pos
def aeN:=@List.getElem?_append_left
def aff:=@List.mem_cons
def afx:=@Sem.run_bind
def aic:=@List.append_nil
def aid:=@Bool.not_true
def aih:=@Bool.not_false
def aim:=@Bool.cond_false_right
def aio:=@Int.lt_irrefl
def aip:=@decide_false
def aiq:=@List.mem_append
def air:=@List.nil_append
def ais:=@List.map_append
def aiu:=@List.length_take
def aiv:=@Nat.zero_add
def aiw:=@Nat.beq_refl
def aix:=@List.append_assoc
def aiy:=@Sem.run_pure
def aiz:=@Bool.eq_iff_iff
def aiA:=@Nat.lt_or_ge
def aiB:=@Array.getElem?_toList
def aiC:=@List.length_nil
def aiD:=@Nat.lt_irrefl
def aiE:=@List.set_append_right
def aiF:=@of_decide_eq_true
def aiG:=@List.singleton_append
def aiH:=@List.mem_append_right
def aiI:=@step_lone_go
def aiJ:=@Option.some.inj
def aiK:=@congrArg
def aiL:=@List.cons_append
def aiM:=@Bool.and_false
def aiN:=@Nat.lt_of_lt_of_le
def aiO:=@List.getElem?_map
def aiP:=@Array.getElem?_eq_getElem
def aiQ:=@List.set_set
def aiR:=@List.mem_of_getElem?
def aiS:=@List.length_drop
def aiT:=@List.mem_append_left
def aiU:=@Nat.add_zero
def aiV:=@List.getElem?_take_of_lt
def aiW:=@Bool.and_true
def aiX:=@List.all_eq_true
def aiY:=@List.getElem?_set_ne
def aiZ:=@Int.toNat_natCast
def aja:=@List.getD_eq_getElem?_getD
def ajb:=@List.all_cons
def ajc:=@Bool.and_self
def ajd:=@Nat.le_trans
def aje:=@Nat.zero_le
def ajf:=@Bool.false_or
def ajg:=@Array.getElem?_eq_some_iff
def ajh:=@List.getElem?_append_right
def aji:=@List.eq_nil_of_length_eq_zero
def ajj:=@Nat.sub_self
def ajk:=@Nat.max_assoc
def ajl:=@Option.map_some
def ajm:=@Array.length_toList
def ajn:=@List.take_of_length_le
def ajo:=@Bool.false_eq_true
def ajp:=@Option.isSome_none
def ajq:=@List.getElem?_cons_succ
def ajr:=@Prod.mk.injEq
def ajs:=@List.take_succ_cons
def ajt:=@List.mem_map
def aju:=@beq_false_of_ne
def ajv:=@Bool.not_eq_true'
def ajw:=@List.flatten_cons
def ajx:=@Nat.eq_zero_or_pos
def ajy:=@Nat.max_zero
def ajz:=@List.length_set
def ajA:=@List.drop_zero
def ajB:=@Int.eq_ofNat_of_zero_le
def ajC:=@Bool.or_eq_false_iff
def ajD:=@Bool.or_eq_true
def ajE:=@Nat.add_assoc
def ajF:=@List.prefix_rfl
def ajG:=@Option.getD_some
def ajH:=@Array.getElem?_eq_none
def ajI:=@decide_eq_decide
def ajJ:=@decide_eq_true_eq
def ajK:=@List.getElem?_drop
def ajL:=@run_loadCells_list
def ajM:=@List.append_of_mem
def ajN:=@Array.toList_inj
def ajO:=@Option.bind_eq_some_iff
def ajP:=@Array.getD_eq_getD_getElem?
def ajQ:=@List.map_take
def ajR:=@List.Mem.tail
def ajS:=@Nat.sub_zero
def ajT:=@List.getElem?_set_self
def ajU:=@List.replicate_succ
def ajV:=@List.cons.injEq
def ajW:=@List.getElem?_take
def ajX:=@List.map_nil
def ajY:=@Nat.mul_le_mul_right
def ajZ:=@List.mem_of_mem_take
def aka:=@List.length_eq_zero_iff
def akb:=@List.ext_getElem?
def akc:=@List.getElem?_cons_zero
def akd:=@List.mem_filter
def ake:=@Eq.trans
def akf:=@Nat.add_mul
def akg:=@List.getElem_mem
def akh:=@true_and
def aki:=@List.map_singleton
def akj:=@eq_of_beq
def akk:=@Nat.zero_mul
def akl:=@List.getElem?_set
def akm:=@bne_self_eq_false
def akn:=@Array.getElem?_setIfInBounds_ne
def ako:=@Option.bind_some
def akp:=@Nat.lt_succ_self
def akq:=@Nat.pos_of_ne_zero
def akr:=@beq_iff_eq
def aks:=@Bool.or_true
def akt:=@Option.map_eq_some_iff
def aku:=@List.all_nil
def akv:=@List.mem_singleton
def akw:=@of_decide_eq_false
def akx:=@and_true
def aky:=@Array.size_append
def akz:=@Nat.lt_of_succ_le
def akA:=@Int.ofNat_eq_natCast
def akB:=@List.set_append_left
def akC:=@if_true
def akD:=@Nat.lt_of_not_le
def akE:=@beq_self_eq_true
def akF:=@List.drop_eq_getElem_cons
def akG:=@if_false
def akH:=@Bool.or_false
def akI:=@List.foldl_cons
def akJ:=@Array.toList_range
def akK:=@Option.isSome_some
def akL:=@Int.le_refl
def akM:=@cond_eq_ite
def akN:=@List.map_map
def akO:=@Bool.true_or
def akP:=@Bool.and_assoc
def akQ:=@Nat.mod_eq_of_lt
def akR:=@List.mem_nil_iff
def akS:=@List.any_cons
def akT:=@List.getElem?_of_mem
def akU:=@List.mem_of_mem_drop
def akV:=@Nat.zero_lt_one
def akW:=@List.set_append
def akX:=@Ne.symm
def akY:=@BEq.rfl
def akZ:=@Nat.testBit_or
def ala:=@List.drop_drop
end Go.AI
namespace Go.AI
structure Ad where
 f:Nat
 v:Nat
 c:Nat
 deriving Inhabited
inductive V where
 |bool (b:Bool)
 |int (k:IntKind) (n:Int)
 |str (s:List Nat)
 |ptr (a:Ad)
 |nilptr
 |slice (a:Ad) (z:Nat) (len:Nat) (cap:Option Nat) (sz:Nat)
 |nilslice
 |map (r:Nat)
 |nilmap
 |func (fn:Fn) (first captured:List V)
 |nilFunc
 |iface (t:TypeId) (v:V)
 |nilIface
 |agg (cs:List V)
 |tuple (vs:List V)
 |atom (i:Nat)
 deriving Inhabited
def V.undef:V:=.tuple []
def V.ofCell:Value->Option V
 |.bool b=>some (.bool b)
 |.int k n=>some (.int k n)
 |.string s=>some (.str (s.data.toList.map UInt8.toNat))
 |.pointer a=>match a with
  |none=>some .nilptr
  |some _=>none
 |.slice a n c=>match a with
  |none=>bif Nat.beq n 0&&Nat.beq c 0 then some .nilslice else none
  |some _=>none
 |.map a=>match a with
  |none=>some .nilmap
  |some _=>none
 |.nilFunc=>some .nilFunc
 |.nilIface=>some .nilIface
 |.func fn a b=>match fn with
  |.func f=>bif a.toList.isEmpty&&b.toList.isEmpty then some (.func (.func f) [] [])else none
  |_=>none
 |_=>none
def V.ofCells:List Value->Option (List V)
 |[]=>some []
 |x::r=>match V.ofCell x with
  |some v=>match V.ofCells r with
   |some l=>some (v::l)
   |none=>none
  |none=>none
def V.ofConst:Value->Option V
 |.agg cs=>match V.ofCells cs.toList with
  |some l=>some (.agg l)
  |none=>none
 |v=>V.ofCell v
def V.cells:V->List V
 |.agg cs=>cs
 |v=>[v]
inductive GM where
 |o
 |l (p:GM)
 |r (p:GM)
def Cs:Nat->Nat->GM
 |0,_=>.o
 |n+1,k=>match k with
  |0=>.o
  |m+1=>bif Nat.beq (Nat.mod m 2) 1 then .r (Cs n (Nat.div m 2))else .l (Cs n (Nat.div m 2))
def fu(k:Nat):GM:=Cs k k
inductive T(α:Type) where
 |leaf
 |node (l:T α) (v:Option α) (r:T α)
 deriving Inhabited
namespace T
variable{α:Type}
def get(t:T α)(p:GM):Option α :=
 GM.rec (motive:=fun _=>T α->Option α)
  (fun t=>T.rec (motive:=fun _=>Option α) none (fun _ v _ _ _=>v) t)
  (fun _ ih t=>T.rec (motive:=fun _=>Option α) none (fun l _ _ _ _=>ih l) t)
  (fun _ ih t=>T.rec (motive:=fun _=>Option α) none (fun _ _ r _ _=>ih r) t) p t
def setK{β:Type}(x:Option α)(p:GM)(t:T α)(k:T α->β):β :=
 GM.rec (motive:=fun _=>T α->(T α->β)->β)
  (fun t k=>T.rec (motive:=fun _=>β) (k (.node .leaf x .leaf)) (fun l _ r _ _=>k (.node l x r)) t)
  (fun _ ih t k=>T.rec (motive:=fun _=>β) (ih .leaf fun t=>k (.node t none .leaf)) (fun l v r _ _=>ih l fun t=>k (.node t v r)) t)
  (fun _ ih t k=>T.rec (motive:=fun _=>β) (ih .leaf fun t=>k (.node .leaf none t)) (fun l v r _ _=>ih r fun t=>k (.node l v t)) t) p t k
end T
structure nW where
 v:Nat
 lo:Nat
 cells:List V
 deriving Inhabited
structure qi where
 key:V
 val:V
 born:Nat
 deriving Inhabited
inductive eh where
 |cells (elem:TypeId) (sb:Bool) (nextv:Nat) (vers:List nW)
 |ro (vers:List nW)
 |map (es:List qi) (clock:Nat)
 |loop (st:LoopState) (pending:Option Code) (fn:FuncId) (tmps:T V) (params:Array Tmp) (assign body:Code) (dfr:Nat) (nt:Nat)
 |deferred
 |gone
 deriving Inhabited
structure S where
 h:T eh
 next:Nat
 deriving Inhabited
def FM{β:Type}(n:Nat)(k:Nat->β):β:=match n with
 |0=>k 0
 |m+1=>k (m+1)
def KO{β:Type}(n:Int)(k:Int->β):β:=match n with
 |.ofNat m=>FM m fun m=>k (.ofNat m)
 |.negSucc m=>FM m fun m=>k (.negSucc m)
def nM(k:IntKind)(n:Int):V:=KO n fun n=>.int k n
def S.get(s:S)(f:Nat):Option eh:=match s with|⟨h,_⟩=>h.get (fu f)
def S.put(s:S)(f:Nat)(b:eh):S:=match s with|⟨h,n⟩=>h.setK (some b) (fu f) fun h=>⟨h,n⟩
def S.alloc(s:S)(b:eh):S:=match s with|⟨h,n⟩=>h.setK (some b) (fu n) fun h=>FM (n+1) fun n=>⟨h,n⟩
def bw(sb:Bool)(s:S)(elem:TypeId)(cs:List V):Ad×S:=(⟨s.next,0,0⟩,s.alloc (.cells elem sb 1 [⟨0,0,cs⟩]))
def bz(s:S)(elem:TypeId)(cs:List V):Ad×S:=bw false s elem cs
def bV:List nW->Nat->Option nW
 |[],_=>none
 |u::r,v=>bif Nat.beq u.v v then some u else bV r v
def bv:Nat->List V->Option (List V)
 |0,_=>some []
 |n+1,x::r=>(bv n r).map (x::·)
 |_+1,[]=>none
def loadCells(s:S)(a:Ad)(n:Nat):Option (List V) :=
 match s.get a.f with
 |some (.cells _ _ _ vers) =>
  match bV vers a.v with
  |some u=>bif Nat.ble u.lo a.c then bv n (u.cells.drop (a.c - u.lo))else none
  |none=>none
 |some (.ro vers) =>
  match bV vers a.v with
  |some u=>bif Nat.ble u.lo a.c then bv n (u.cells.drop (a.c - u.lo))else none
  |none=>none
 |_=>none
def oM(s:S)(a:Ad):Option V :=
 match s.get a.f with
 |some (.cells _ _ _ vers) =>
  match bV vers a.v with
  |some u=>bif Nat.ble u.lo a.c then u.cells[a.c - u.lo]? else none
  |none=>none
 |some (.ro vers) =>
  match bV vers a.v with
  |some u=>bif Nat.ble u.lo a.c then u.cells[a.c - u.lo]? else none
  |none=>none
 |_=>none
def cC:List V->Nat->List V->Option (List V)
 |cs,_,[]=>some cs
 |x::r,n+1,new=>(cC r n new).map (x::·)
 |_::r,0,y::new=>(cC r 0 new).map (y::·)
 |[],_,_::_=>none
def V.one:V->Bool
 |.agg _=>false
 |.tuple _=>false
 |_=>true
def storeCells(s:S)(a:Ad)(new:List V):Option S :=
 match s.get a.f with
 |some (.cells e sb nv vers) =>
  match bV vers a.v with
  |some u=>bif Nat.ble u.lo a.c&&new.all V.one then
   match cC u.cells (a.c - u.lo) new with
   |some cs=>some (s.put a.f (.cells e sb nv [⟨u.v,u.lo,cs⟩]))
   |none=>none
   else none
  |none=>none
 |_=>none
section types
variable(P:Program)
def size(t:TypeId):Option Nat:=(P.info? t).map (·.size)
def zero(t:TypeId):Option V:=((P.info? t).bind (·.zero)).bind V.ofConst
def rj(t:TypeId):Option Bool:=(P.underlying t).map fun|.struct _=>true|.array _ _=>true|_=>false
def loadVar(s:S)(t:TypeId)(a:Ad):Option V :=
 match rj P t with
 |some true=>(size P t).bind fun n=>(loadCells s a n).map .agg
 |some false=>oM s a
 |none=>none
def storeVar(s:S)(t:TypeId)(a:Ad)(v:V):Option S :=
 match size P t with
 |some n=>bif Nat.beq v.cells.length n then storeCells s a v.cells else none
 |none=>none
def vm(t:TypeId)(cs:List V)(off:Nat):Option V :=
 match rj P t with
 |some true=>(size P t).map fun n=>.agg ((cs.drop off).take n)
 |some false=>cs[off]?
 |none=>none
end types
def lF:List Nat->List Nat->Option Bool
 |[],[]=>some true
 |a::x,b::y=>bif Nat.beq a b then lF x y else bif Nat.blt a 256&&Nat.blt b 256 then some false else none
 |_,_=>some false
def px(l:List Nat):List UInt8:=l.map UInt8.ofNat
def dC(j k:IntKind):Bool:=decide (j=k)
def jS(P:Program)(eq:TypeId->V->V->Option Bool):List Field->List V->List V->Option Bool
 |[],_,_=>some true
 |f::r,xs,ys=>bif f.name == "_" then none else
  match vm P f.type xs f.offset,vm P f.type ys f.offset with
  |some a,some b=>match eq f.type a b with
   |some true=>jS P eq r xs ys
   |some false=>some false
   |none=>none
  |_,_=>none
def bU(s:S)(a:Ad):Bool:=match s.get a.f with
 |some (.cells _ sb _ vers)=>!sb&&(bV vers a.v).isSome
 |_=>false
def Mt(ok:Ad->Bool)(a b:Ad):Option Bool :=
 bif ok a&&ok b then(bif Nat.beq a.f b.f then(bif Nat.beq a.v b.v then some (Nat.beq a.c b.c)else none)else some false)else none
def dq(P:Program)(ok:Ad->Bool):Nat->TypeId->V->V->Option Bool
 |0,_,_,_=>none
 |d+1,t,x,y =>
  match P.underlying t with
  |some (.struct fs) =>
   match x,y with
   |.agg xs,.agg ys=>bif P.stoodInHeld t then none else jS P (dq P ok d) fs.toList xs ys
   |_,_=>none
  |some (.interface _) =>
   match x,y with
   |.nilIface,.nilIface=>some true
   |.nilIface,.iface _ _=>some false
   |.iface _ _,.nilIface=>some false
   |.iface tx vx,.iface ty vy=>bif Nat.beq tx ty then(match P.info? tx with|some i=>bif i.comparable then dq P ok d tx vx vy else none|none=>none)else some false
   |_,_=>none
  |some .bool=>match x,y with|.bool a,.bool b=>some (a==b)|_,_=>none
  |some (.int _)=>match x,y with|.int j a,.int k b=>bif dC j k then some (a==b)else none|_,_=>none
  |some .string=>match x,y with|.str a,.str b=>lF a b|_,_=>none
  |some (.pointer e)=>match x,y with
   |.nilptr,.nilptr=>some true
   |.nilptr,.ptr _=>some false
   |.ptr _,.nilptr=>some false
   |.ptr a,.ptr b=>match size P e with
    |some n=>bif Nat.beq n 0 then none else Mt ok a b
    |none=>none
   |_,_=>none
  |some (.slice _)=>match x,y with
   |.nilslice,.nilslice=>some true
   |.nilslice,.slice ..=>some false
   |.slice ..,.nilslice=>some false
   |_,_=>none
  |some (.map _ _)=>match x,y with
   |.nilmap,.nilmap=>some true
   |.nilmap,.map _=>some false
   |.map _,.nilmap=>some false
   |_,_=>none
  |some (.func _ _ _)=>match x,y with
   |.nilFunc,.nilFunc=>some true
   |.nilFunc,.func ..=>some false
   |.func ..,.nilFunc=>some false
   |_,_=>none
  |_=>none
def DG(op:BinOp)(k:IntKind)(a b:Int):Option V :=
 match op with
 |.add=>some (nM k (k.wrap (a+b)))
 |.sub=>some (nM k (k.wrap (a - b)))
 |.mul=>some (nM k (k.wrap (a*b)))
 |.eql=>some (.bool (a==b))
 |.neq=>some (.bool (a != b))
 |.lss=>some (.bool (decide (a<b)))
 |.leq=>some (.bool (decide (a<=b)))
 |.gtr=>some (.bool (decide (a>b)))
 |.geq=>some (.bool (decide (a>=b)))
 |.quo=>bif b==0 then none else some (.int k (k.wrap (a.tdiv b)))
 |.rem=>bif b==0 then none else some (.int k (a.tmod b))
 |.and=>some (.int k (k.wrap (BitVec.ofInt k.bits a &&& BitVec.ofInt k.bits b).toNat))
 |.or=>some (.int k (k.wrap (BitVec.ofInt k.bits a ||| BitVec.ofInt k.bits b).toNat))
 |.xor=>some (.int k (k.wrap (BitVec.ofInt k.bits a ^^^ BitVec.ofInt k.bits b).toNat))
 |.andNot=>some (.int k (k.wrap (BitVec.ofInt k.bits a &&& ~~~ BitVec.ofInt k.bits b).toNat))
 |_=>none
def yQ(op:BinOp)(a b:List Nat):Option V :=
 match op with
 |.add=>bif Nat.ble (a.length+b.length) 1000000 then some (.str (a++b))else none
 |.eql=>(lF a b).map .bool
 |.neq=>(lF a b).map fun q=>.bool (!q)
 |.lss=>some (.bool (Op.bytesLess (px a) (px b)))
 |_=>none
def EN(op:BinOp)(k:IntKind)(a:Int)(b:Int):Option V:=match b with
 |.ofNat n=>match op with
  |.shl=>some (nM k (k.wrap (a*2 ^ (min n k.bits))))
  |.shr=>some (nM k (a.fdiv (2 ^ (min n k.bits))))
  |_=>none
 |_=>none
def pK:BinOp->Bool
 |.shl|.shr=>true
 |_=>false
def fF:Operand->Bool
 |.const _=>true
 |_=>false
def oP:BinOp->Bool
 |.eql|.neq=>true
 |_=>false
def fU(P:Program)(op:BinOp)(t:TypeId)(x y:Operand)(a b:V):Bool :=
 bif oP op then match a,b with
  |.nilIface,.nilIface=>fF x||fF y
  |.agg _,.agg _=>!(P.eqGuardType P.depth t)
  |_,_=>true
 else true
def gc(P:Program)(ok:Ad->Bool)(op:BinOp)(t:TypeId)(x y:V):Option V :=
 match x,y with
 |.int j a,.int k b=>bif pK op then EN op j a b else bif dC j k then DG op j a b else none
 |.str a,.str b=>yQ op a b
 |_,_ =>
  match op with
  |.eql=>(dq P ok 20 t x y).map .bool
  |.neq=>(dq P ok 20 t x y).map fun b=>.bool (!b)
  |_=>none
def PZ(op:UnOp)(x:V):Option V :=
 match op,x with
 |.not,.bool b=>some (.bool !b)
 |.neg,.int k n=>some (.int k (k.wrap (0 - n)))
 |_,_=>none
def qD(place:Nat->Option (Nat×Nat))(cs:List V):List (Nat×V)->Option (List V)
 |[]=>some cs
 |(i,v)::r =>
  match place i with
  |none=>none
  |some (off,n)=>bif Nat.beq v.cells.length n&&Nat.blt 0 n then(cC cs off v.cells).bind fun cs=>qD place cs r else none
def iP(f:Field)(P:Program):Bool:=match size P f.type with|some n=>Nat.beq n 0|none=>true
def qu(v:V):Option Nat:=match v with|.int _ (.ofNat n)=>some n|_=>none
def cM(a:Ad)(n:Nat):Ad:={ a with c:=a.c+n }
def cD(eq:V->V->Option Bool)(k:V):List qi->Option (Option V)
 |[]=>some none
 |⟨key,val,_⟩::r=>foundKey (eq k key) val (cD eq k r)
 where foundKey (b:Option Bool) (v:V) (r:Option (Option V)):Option (Option V):=match b with
  |some true=>some (some v)
  |some false=>r
  |none=>none
def dp(eq:V->V->Option Bool)(k x:V):List qi->Option (Option (List qi))
 |[]=>some none
 |⟨key,val,born⟩::r=>setKey (eq k key) ⟨key,val,born⟩ ⟨k,x,born⟩ r (dp eq k x r)
 where setKey (b:Option Bool) (e a:qi) (r:List qi) (u:Option (Option (List qi))):Option (Option (List qi)):=match b with
  |some true=>some (some (a::r))
  |some false=>match u with
   |some (some c)=>some (some (e::c))
   |some none=>some none
   |none=>none
  |none=>none
structure GN where
 v:V
 recovered:Bool
 deriving Inhabited
inductive Md where
 |run
 |returning
 |panicking (c:List GN)
 deriving Inhabited
inductive eS where
 |call (fn:Fn) (captured args:List V)
 |collected (r:Nat)
 deriving Inhabited
inductive End where
 |returned (v:V)
 |panicked (c:List GN)
 deriving Inhabited
def eval(t:T V):Operand->Option V
 |.tmp i=>t.get (fu i)
 |.const v=>V.ofConst v
 |.global _=>none
 |.func f=>some (.func (.func f) [] [])
def nU{β:Type}(t:T V)(d:Option Tmp)(v:Option V)(k:T V->β):β:=match d with
 |some i=>t.setK v (fu i) k
 |none=>k t
def bT(ops:Array Oper)(t:T V)(o:Oper):Option Bool :=
 match o.guard with
 |none=>some true
 |some (j,want)=>match(ops[j]?).bind (·.dst)with
  |some d=>match t.get (fu d)with
   |some (.bool b)=>some (b==want)
   |some (.tuple _)=>some false
   |_=>none
  |none=>none
inductive Nx where
 |val (v:V) (s:S)
 |skip (s:S)
 |enter (f:FuncId) (args:List V) (s:S)
 |round (l:Nat) (args:List V) (s:S)
 |defer (d:eS) (s:S)
 |recover (s:S)
 |panic (v:V) (s:S)
def mu(P:Program)(t:TypeId)(n:Nat):Bool:=match P.info? t with
 |some i=>Nat.ble (i.bytes*n) 100000000000000
 |none=>false
def mf(c:Nat):V:=.int .u8 (.ofNat (Nat.mod c 256))
def Av(s:S)(f c z len sz:Nat)(e:TypeId)(sb:Bool)(nv:Nat)(vers:List nW)(cells:List V)(n:Nat):V×S :=
 (.slice ⟨f,nv,c⟩ z (len+n) none sz,s.put f (.cells e sb (nv+1) (⟨nv,c,cells⟩::vers.filter fun u=>Nat.ble (u.lo+u.cells.length) (c+len*sz))))
def jG(s:S)(elem:TypeId)(cells:List V)(len sz:Nat):V×S:=match bz s elem cells with
 |(b,s)=>(.slice b 0 len none sz,s)
def FJ(s:S)(elem:TypeId)(a:Ad)(z len c sz:Nat)(old new:List V)(n:Nat):Option (V×S) :=
 bif Nat.ble (len+n) c then
  match storeCells s (cM a (len*sz)) new with
  |some s=>some (.slice a z (len+n) (some c) sz,s)
  |none=>none
 else some (jG s elem (old++new) (len+n) sz)
def Au(s:S)(elem:TypeId)(a:Ad)(z len:Nat)(cap:Option Nat)(sz:Nat)(new:List V)(n:Nat):Option (V×S) :=
 match s.get a.f with
 |some (.cells e sb nv vers) =>
  match bV vers a.v with
  |some u =>
   bif Nat.ble u.lo a.c then
    match bv (len*sz) (u.cells.drop (a.c - u.lo))with
    |some old =>
     match cap with
     |some c=>FJ s elem a z len c sz old new n
     |none=>bif new.all V.one then some (Av s a.f a.c z len sz e sb nv vers (old++new) n)else none
    |none=>none
   else none
  |none=>none
 |_=>none
def iZ(s:S)(sz:Nat):V->Option (List V×Nat)
 |.nilslice=>some ([],0)
 |.slice b _ n _ sz'=>bif Nat.beq n 0 then some ([],0)else bif Nat.beq sz' 0 then none else bif Nat.beq sz sz' then(match loadCells s b (n*sz)with|some l=>some (l,n)|none=>none)else none
 |.str l=>bif Nat.beq sz 1 then some (l.map mf,l.length)else none
 |_=>none
def uJ(P:Program)(elem:TypeId)(sz:Nat):Bool :=
 match zero P elem with
 |some z=>Nat.beq z.cells.length sz&&Nat.blt 0 sz&&mu P elem 10000000
 |none=>false
def jv:Option Nat->Bool
 |some c=>Nat.beq c 0
 |none=>false
def aM(P:Program)(t:TypeId)(m:Nat):Bool:=match P.info? t with
 |some i=>Nat.ble (i.bytes*(m+Nat.div m 4+600)) 281474976710656&&Nat.ble m 4611686018427387904
 |none=>false
def eO(ok:Nat->Bool)(s:S)(elem:TypeId)(sz:Nat)(x:V):Option (List V×Nat)->Option (V×S)
 |some (l,n) =>
  bif ok n then
   match x with
   |.nilslice=>bif Nat.beq n 0 then some (.nilslice,s)else some (jG s elem l n sz)
   |.slice a z len cap sz'=>bif Nat.beq len 0&&jv cap then(bif Nat.beq n 0 then some (.slice a z len cap sz',s)else some (jG s elem l n sz))else
    bif Nat.beq sz sz'&&ok (len+n)then(bif Nat.beq n 0 then some (.slice a z len cap sz,s)else Au s elem a z len cap sz l n)else none
   |_=>none
  else none
 |none=>none
def HH(P:Program)(t:TypeId):Bool:=match P.underlying t with
 |some (.int _)=>false
 |some _=>true
 |none=>false
def tE(P:Program)(sT xT:TypeId)(s:S)(x y:V):Option (V×S) :=
 match P.underlying sT with
 |some (.slice elem)=>bif HH P xT then
  match size P elem with
  |some sz=>bif uJ P elem sz then eO (aM P elem) s elem sz x (iZ s sz y)else none
  |none=>none
  else none
 |_=>none
def lQ(P:Program)(t:TypeId)(s:S)(x:V):Option V :=
 match P.underlying t,x with
 |some .string,.str l=>some (nM .i64 l.length)
 |some (.array n _),_=>some (.int .i64 n)
 |some (.slice _),.slice _ _ n _ _=>some (nM .i64 n)
 |some (.slice _),.nilslice=>some (.int .i64 0)
 |some (.map _ _),.nilmap=>some (.int .i64 0)
 |some (.map _ _),.map r=>match s.get r with
  |some (.map es _)=>some (.int .i64 es.length)
  |_=>none
 |_,_=>none
def OD(x y:V):Option V:=match x,y with
 |.int j a,.int k b=>bif dC j k then some (.int j (bif decide (b>a)then b else a))else none
 |_,_=>none
def OC(x y:V):Option V:=match x,y with
 |.int j a,.int k b=>bif dC j k then some (.int j (bif decide (b<a)then b else a))else none
 |_,_=>none
def SL(f:V->V->Option V):List V->Option V
 |[]=>none
 |x::r=>r.foldlM f x
def iQ(c:Nat):List Nat->Nat->Option Nat
 |[],_=>none
 |x::r,i=>bif Nat.beq (Nat.mod x 256) c then some i else iQ c r (i+1)
def countByte(c:Nat):List Nat->Nat
 |[]=>0
 |x::r=>bif Nat.beq (Nat.mod x 256) c then countByte c r+1 else countByte c r
inductive Lv where
 |indexByte
 |count
structure dL where
 P:Program
 ext:FuncId->Option Lv
 orc:FuncId->List V->S->Option (V×S)
def FV(k:Lv)(args:List V):Option V :=
 match args with
 |[.str l,.int .u8 (.ofNat c)] =>
  match k with
  |.indexByte=>some (match iQ (Nat.mod c 256) l 0 with|some i=>.int .i64 (.ofNat i)|none=>.int .i64 (-1))
  |.count=>some (nM .i64 (.ofNat (countByte (Nat.mod c 256) l)))
 |_=>none
def bM(s:S)(v:Option V):Option Nx:=match v with
 |some v=>some (.val v s)
 |none=>none
def ji(x:Option (V×S)):Option Nx:=match x with
 |some (v,s)=>some (.val v s)
 |none=>none
def NL(E:dL)(f:FuncId)(args:List V)(s:S):Option Nx :=
 match E.P.funcs[f]? with
 |none=>none
 |some fn=>match fn.body with
  |none=>match E.ext f with
   |some k=>bM s (FV k args)
   |none=>none
  |some _=>some (.enter f args s)
def Lg(s:S)(sz n:Nat):V->Option (List V×Nat)
 |.nilslice=>some ([],0)
 |.slice b _ m _ sz'=>bif Nat.beq sz' 0 then none else bif Nat.beq sz sz' then(match loadCells s b (Nat.min m n*sz)with|some l=>some (l,Nat.min m n)|none=>none)else none
 |.str l=>some ((l.take (Nat.min l.length n)).map mf,Nat.min l.length n)
 |_=>none
def Tn(s:S)(a:Ad):Option (List V×Nat)->Option Nx
 |some (l,k)=>match storeCells s a l with
  |some s=>some (.val (nM .i64 k) s)
  |none=>none
 |none=>none
def Tm(P:Program)(t:TypeId)(s:S)(x y:V):Option Nx:=match P.underlying t with
 |some (.slice el)=>match x with
  |.slice a _ n _ sz=>match size P el with
   |some sz'=>bif Nat.beq sz sz'&&Nat.blt 0 n then Tn s a (Lg s sz n y)else none
   |none=>none
  |_=>none
 |_=>none
def abh(P:Program)(t:TypeId)(x:V):Option V:=match P.underlying t with
 |some (.slice _)=>match x with
  |.nilslice=>some (.int .i64 0)
  |.slice _ _ _ (some c) _=>some (nM .i64 c)
  |_=>none
 |_=>none
def jy(P:Program)(b:Builtin)(ts:Array TypeId)(args:List V)(s:S):Option Nx :=
 match b with
 |.append=>match ts[0]? with
  |some a=>match ts[1]? with
   |some b=>match args with
    |[x,y]=>ji (tE P a b s x y)
    |_=>none
   |none=>none
  |none=>none
 |.len=>match ts[0]? with
  |some a=>match args with
   |[x]=>bM s (lQ P a s x)
   |_=>none
  |none=>none
 |.max=>bM s (SL OD args)
 |.min=>bM s (SL OC args)
 |.recover=>some (.recover s)
 |.copy=>match ts[0]? with
  |some a=>match args with
   |[x,y]=>Tm P a s x y
   |_=>none
  |none=>none
 |.cap=>match ts[0]? with
  |some a=>match args with
   |[x]=>bM s (abh P a x)
   |_=>none
  |none=>none
 |.panic=>match args with
  |[.iface t v]=>some (.panic (.iface t v) s)
  |_=>none
 |_=>none
def ft(o:Option V)(d:Nat):Option Nat:=match o with
 |some v=>qu v
 |none=>some d
def cq(o:Option Nat):Bool:=match o with
 |some n=>Nat.beq n 0
 |none=>false
def dP(P:Program)(t:TypeId)(x:V)(lo hi mx:Option V):Option V :=
 match P.underlying t with
 |some .string=>match x,mx with
  |.str l,none =>
   let h:=ft hi l.length
   let b:=ft lo 0
   match b,h with
   |some b,some h=>bif Nat.ble h l.length&&Nat.ble b h then some (.str ((l.drop b).take (h - b)))else none
   |_,_=>none
  |_,_=>none
 |some (.slice e) =>
  match size P e with
  |some sz =>
   match x with
   |.nilslice =>
    bif mx.isSome&&!hi.isSome then none else
    bif cq (ft lo 0)&&cq (ft hi 0)&&cq (ft mx 0)then some .nilslice else none
   |.slice a z len cap sz' =>
    bif Nat.beq sz' 0||(Nat.beq len 0&&jv cap)then(bif (cq (ft lo 0)&&cq (ft hi 0)&&cq (ft mx 0))&&!(mx.isSome&&!hi.isSome)then some (.slice a z len cap sz')else none)else
    bif Nat.beq sz sz'&&!(mx.isSome&&!hi.isSome)then
    let h:=ft hi len
    let b:=ft lo 0
    match b,h with
    |some b,some h =>
     match mx with
     |none =>
      match cap with
      |some c=>bif Nat.ble h c&&Nat.ble b h then
       (bif Nat.beq c b then some (.slice a 0 (h - b) (some 0) sz)else some (.slice (cM a (b*sz)) 0 (h - b) (some (c - b)) sz))else none
      |none=>bif Nat.ble h len&&Nat.ble b h then
       (bif Nat.beq b 0 then some (.slice a z h none sz)else some (.slice (cM a (b*sz)) a.c (h - b) none sz))else none
     |some m=>match qu m with
      |some m =>
       bif Nat.ble m len&&Nat.ble h m&&Nat.ble b h then
        (bif Nat.beq m b then(bif cap.isSome||Nat.blt 0 len||Nat.beq z a.c then some (.slice a 0 (h - b) (some 0) sz)else none)else some (.slice (cM a (b*sz)) 0 (h - b) (some (m - b)) sz))
       else none
      |none=>none
    |_,_=>none
    else none
   |_=>none
  |none=>none
 |_=>none
def me:List V->Option (List Nat)
 |[]=>some []
 |.int .u8 (.ofNat n)::r=>(me r).map (n::·)
 |_=>none
def gR(P:Program)(el:TypeId):Bool:=match P.underlying el with
 |some (.int .u8)=>true
 |_=>false
def CV(P:Program)(s:S)(ds:TypeDesc)(x:V):Option (V×S):=match x with
 |.int _ n=>some (.str ((Utf8.encode n).data.toList.map UInt8.toNat),s)
 |.str l=>some (.str l,s)
 |.nilslice=>match ds with
  |.slice el=>bif gR P el then some (.str [],s)else none
  |_=>none
 |.slice a _ n _ sz=>match ds with
  |.slice el=>bif gR P el then(bif Nat.beq sz 0 then none else match(loadCells s a n).bind me with|some l=>some (.str l,s)|none=>none)else none
  |_=>none
 |_=>none
def pD(P:Program)(s:S)(ds:TypeDesc)(el:TypeId)(x:V):Option (V×S):=match x with
 |.str l=>match ds with
  |.string=>bif gR P el then(match bw true s el (l.map mf)with|(a,s)=>some (.slice a 0 l.length none 1,s))else none
  |_=>none
 |_=>none
def iU(P:Program)(s:S)(a dst:TypeId)(x:V):Option (V×S) :=
 match P.underlying a with
 |some ds=>match P.underlying dst with
  |some (.int k)=>match x with
   |.int _ n=>some (nM k (k.wrap n),s)
   |_=>none
  |some .string=>CV P s ds x
  |some (.slice el)=>pD P s ds el x
  |_=>none
 |none=>none
def Kf(s:Option S):Option Nx:=match s with
 |some s=>some (.skip s)
 |none=>none
def qt(x:Ad×S):Option Nx:=match x with
 |(a,s)=>some (.val (.ptr a) s)
def ij(t:T V):List Operand->Option (List V)
 |[]=>some []
 |x::r=>match eval t x with
  |some v=>match ij t r with
   |some l=>some (v::l)
   |none=>none
  |none=>none
def eI(t:T V):List (Nat×Operand)->Option (List (Nat×V))
 |[]=>some []
 |(i,x)::r=>match eval t x with
  |some v=>match eI t r with
   |some l=>some ((i,v)::l)
   |none=>none
  |none=>none
def lV(t:T V):Option Operand->Option (Option V)
 |none=>some none
 |some x=>match eval t x with
  |some v=>some (some v)
  |none=>none
def nc(t:T V)(s:S)(c a b:Operand):Option Nx:=match eval t c with
 |some (.bool q)=>bM s (eval t (bif q then a else b))
 |_=>none
def jK(P:Program)(s:S)(elem:TypeId):Option Nx:=match zero P elem with
 |some z=>qt (bz s elem z.cells)
 |none=>none
def tj(s:S)(elem:TypeId)(x:Option V):Option Nx:=match x with
 |some z=>qt (bz s elem z.cells)
 |none=>none
def oX(P:Program)(fs:Array Field)(i:Nat):Option (Nat×Nat):=match fs[i]? with
 |some f=>match size P f.type with
  |some n=>some (f.offset,n)
  |none=>none
 |none=>none
def Jr(x:Option (List V)):Option V:=match x with
 |some l=>some (.agg l)
 |none=>none
def pR(P:Program)(ty:TypeId)(l:Option (List (Nat×V))):Option V :=
 match zero P ty with
 |some z=>match l with
  |some l=>match P.underlying ty with
   |some (.struct fs)=>bif fs.toList.all (fun f=>(size P f.type).isSome)then Jr (qD (oX P fs) z.cells l)else none
   |some (.array _ el)=>match size P el with
    |some n=>Jr (qD (fun i=>some (i*n,n)) z.cells l)
    |none=>none
   |_=>none
  |none=>none
 |none=>none
def lH(el:TypeId)(len n:Nat)(s:S)(cs:Option (List V)):Option Nx:=match cs with
 |some cs=>match bz s el cs with
  |(a,s)=>some (.val (.slice a 0 len (some len) n) s)
 |none=>none
def cL(P:Program)(s:S)(ty:TypeId)(len:Nat)(l:Option (List (Nat×V))):Option Nx :=
 match P.underlying ty with
 |some (.slice el)=>match l with
  |some l=>match zero P el with
   |some z=>match size P el with
    |some n=>bif Nat.ble (len*n) 10000&&!(Nat.beq n 0)&&Nat.beq z.cells.length n then lH el len n s (qD (fun i=>some (i*n,n)) (List.replicate len z.cells).flatten l)else none
    |none=>none
   |none=>none
  |none=>none
 |_=>none
def jn(P:Program)(s:S)(ty:TypeId)(x:Option V):Option Nx:=match x with
 |some (.ptr a)=>bM s (loadVar P s ty a)
 |_=>none
def tc(P:Program)(s:S)(ty:TypeId)(x y:Option V):Option Nx:=match x with
 |some (.ptr a)=>match y with
  |some v=>Kf (storeVar P s ty a v)
  |none=>none
 |_=>none
def nf(x:Option V):Option V:=match x with
 |some (.ptr a)=>some (.ptr a)
 |some (.func fn fi ca)=>match fn with
  |.func f=>some (.func (.func f) fi ca)
  |.yield f=>some (.func (.yield f) fi ca)
  |_=>none
 |_=>none
def gk(P:Program)(s:S)(op:BinOp)(ty:TypeId)(ox oy:Operand)(x y:Option V):Option V:=match x with
 |some a=>match y with
  |some b=>bif fU P op ty ox oy a b then gc P (bU s) op ty a b else none
  |none=>none
 |none=>none
def aaS(op:UnOp)(x:Option V):Option V:=match x with
 |some a=>PZ op a
 |none=>none
def gY(P:Program)(s:S)(b dst:TypeId)(x:Option V):Option Nx:=match x with
 |some a=>ji (iU P s b dst a)
 |none=>none
def pO(P:Program)(ty:TypeId)(x:Option V):Option V:=match P.underlying ty with
 |some (.interface _)=>none
 |some _=>match x with
  |some v=>some (.iface ty v)
  |none=>none
 |none=>none
def Fq(fn:Fn)(a b:Option (List V)):Option V:=match a with
 |some a=>match b with
  |some b=>some (.func fn a b)
  |none=>none
 |none=>none
def tg(fn:Fn)(a b:Option (List V)):Option V:=match fn with
 |.yield _=>none
 |fn=>Fq fn a b
def eK(P:Program)(s:S)(ty:TypeId)(l c:Option Nat):Option Nx:=match P.underlying ty with
 |some (.slice el)=>match l with
  |some l=>match c with
   |some c=>match zero P el with
    |some z=>match size P el with
     |some n=>bif Nat.ble l c&&Nat.ble c 2199023255552&&!(Nat.beq n 0)&&Nat.beq z.cells.length n&&mu P el c then
      match bz s el (List.replicate c z.cells).flatten with
      |(a,s)=>some (.val (.slice a 0 l (some c) n) s)
      else none
     |none=>none
    |none=>none
   |none=>none
  |none=>none
 |_=>none
def et(x:Option V):Option Nat:=match x with
 |some v=>qu v
 |none=>none
def yz(P:Program)(ty:TypeId)(x:Option V)(lo hi mx:Option (Option V)):Option V:=match x with
 |some x=>match lo with
  |some lo=>match hi with
   |some hi=>match mx with
    |some mx=>dP P ty x lo hi mx
    |none=>none
   |none=>none
  |none=>none
 |none=>none
def iT(P:Program)(ty:TypeId)(x:Option V)(f:Nat):Option V:=match P.underlying ty with
 |some (.struct fs)=>match x with
  |some (.ptr a)=>match fs[f]? with
   |some b=>bif iP b P then none else some (.ptr (cM a b.offset))
   |none=>none
  |_=>none
 |_=>none
def ti(P:Program)(ty:TypeId)(x:Option V)(f:Nat):Option V:=match P.underlying ty with
 |some (.struct fs)=>match x with
  |some (.agg cs)=>match fs[f]? with
   |some a=>vm P a.type cs a.offset
   |none=>none
  |_=>none
 |_=>none
def gA(P:Program)(ty:TypeId)(x:Option V)(i:Option Nat):Option V:=match i with
 |some i=>match P.underlying ty with
  |some (.slice el)=>match x with
   |some (.slice a _ len _ sz)=>match size P el with
    |some n=>bif Nat.beq n sz&&Nat.blt i len then some (.ptr (cM a (i*n)))else none
    |none=>none
   |_=>none
  |some (.array len el)=>match x with
   |some (.ptr a)=>match size P el with
    |some n=>bif Nat.blt i len then some (.ptr (cM a (i*n)))else none
    |none=>none
   |_=>none
  |_=>none
 |none=>none
def pP(P:Program)(ty:TypeId)(x:Option V)(i:Option Nat):Option V:=match i with
 |some i=>match P.underlying ty with
  |some .string=>match x with
   |some (.str l)=>match l[i]? with
    |some c=>some (mf c)
    |none=>none
   |_=>none
  |some (.array len el)=>match x with
   |some (.agg cs)=>match size P el with
    |some n=>bif Nat.blt i len then vm P el cs (i*n)else none
    |none=>none
   |_=>none
  |_=>none
 |none=>none
def Bm(s:S)(m:V):Option (List qi):=match m with
 |.nilmap=>some []
 |.map r=>match s.get r with
  |some (.map es _)=>some es
  |_=>none
 |_=>none
def Ni(P:Program)(el:TypeId)(ok:Bool)(x:Option (Option V)):Option V:=match x with
 |some (some v)=>some (bif ok then .tuple [v,.bool true] else v)
 |some none=>match zero P el with
  |some z=>some (bif ok then .tuple [z,.bool false] else z)
  |none=>none
 |none=>none
def eC(P:Program)(t:TypeId):Bool:=match P.underlying t with
 |some (.int _)=>true
 |some .string=>true
 |some .bool=>true
 |some (.pointer _)=>true
 |_=>false
def kh(P:Program)(s:S)(ty:TypeId)(m k:Option V)(ok:Bool):Option V:=match P.underlying ty with
 |some (.map kt el)=>match m with
  |some m=>match k with
   |some k=>match Bm s m with
    |some es=>bif eC P kt then Ni P el ok (cD (dq P (bU s) 20 kt) k es)else none
    |none=>none
   |none=>none
  |none=>none
 |_=>none
def xY(s:S)(r:Nat)(k x:V)(es:List qi)(clock:Nat)(u:Option (Option (List qi))):Option Nx:=match u with
 |some (some es)=>some (.skip (s.put r (.map es clock)))
 |some none=>some (.skip (s.put r (.map (es++[⟨k,x,clock⟩]) (clock+1))))
 |none=>none
def fJ(P:Program)(s:S)(ty:TypeId)(m k x:Option V):Option Nx:=match m with
 |some (.map r)=>match k with
  |some k=>match x with
   |some x=>match P.underlying ty with
    |some (.map kt _)=>match s.get r with
     |some (.map es clock)=>bif eC P kt then xY s r k x es clock (dp (dq P (bU s) 20 kt) k x es)else none
     |_=>none
    |_=>none
   |none=>none
  |none=>none
 |_=>none
def fI(P:Program)(ty:TypeId)(ok:Bool):Option V:=bif ok then match zero P ty with
 |some z=>some (.tuple [z,.bool false])
 |none=>none
 else none
def lZ(P:Program)(x:Option V)(ty:TypeId)(ok:Bool):Option V:=match P.underlying ty with
 |some (.interface _)=>none
 |some _=>match x with
  |some .nilIface=>fI P ty ok
  |some (.iface t v)=>bif Nat.beq t ty then some (bif ok then .tuple [v,.bool true] else v)else fI P ty ok
  |_=>none
 |none=>none
def pQ(x:Option V)(i:Nat):Option V:=match x with
 |some (.tuple vs)=>vs[i]?
 |_=>none
def NK(E:dL)(s:S)(args:List V)(f:Option V):Option Nx:=match f with
 |some (.func fn first cap)=>match fn with
  |.func g=>NL E g (first++(args++cap)) s
  |.yield l=>some (.round l (first++args) s)
  |_=>none
 |_=>none
def iA(E:dL)(t:T V)(s:S)(ts:Array TypeId)(args:Option (List V))(c:Callee):Option Nx:=match args with
 |some args=>match c with
  |.builtin b=>jy E.P b ts args s
  |.value f=>NK E s args (eval t f)
  |.invoke _ _=>none
 |none=>none
def Gi(s:S)(args:List V)(f:Option V):Option Nx:=match f with
 |some (.func fn first cap)=>some (.defer (.call fn cap (first++args)) s)
 |_=>none
def pS(t:T V)(s:S)(args:Option (List V))(c:Callee):Option Nx:=match args with
 |some args=>match c with
  |.value f=>Gi s args (eval t f)
  |_=>none
 |none=>none
def yA(s:S)(x:Option V):Option Nx:=match x with
 |some (.iface t v)=>some (.panic (.iface t v) s)
 |_=>none
def dH:Op->dL->T V->S->Option Nx
 |.move x,_,t,s=>bM s (eval t x)
 |.assign x,_,t,s=>bM s (eval t x)
 |.pick c a b,_,t,s=>nc t s c a b
 |.alloc elem,E,_,s=>jK E.P s elem
 |.box elem x,_,t,s=>tj s elem (eval t x)
 |.build ty parts,E,t,s=>bM s (pR E.P ty (eI t parts.toList))
 |.buildSlice ty len parts,E,t,s=>cL E.P s ty len (eI t parts.toList)
 |.load ty x,E,t,s=>jn E.P s ty (eval t x)
 |.store ty x y,E,t,s=>tc E.P s ty (eval t x) (eval t y)
 |.nilCheck x,_,t,s=>bM s (nf (eval t x))
 |.binOp op ty x y _,E,t,s=>bM s (gk E.P s op ty x y (eval t x) (eval t y))
 |.unOp op _ x,_,t,s=>bM s (aaS op (eval t x))
 |.convert d dst x,E,t,s=>gY E.P s d dst (eval t x)
 |.makeInterface ty x,E,t,s=>bM s (pO E.P ty (eval t x))
 |.makeFunc fn first cap,_,t,s=>bM s (tg fn (ij t first.toList) (ij t cap.toList))
 |.makeMap _ none,_,_,s=>some (.val (.map s.next) (s.alloc (.map [] 0)))
 |.makeSlice ty l c,E,t,s=>eK E.P s ty (et (eval t l)) (et (eval t c))
 |.slice ty x lo hi mx,E,t,s=>bM s (yz E.P ty (eval t x) (lV t lo) (lV t hi) (lV t mx))
 |.fieldAddr ty x f,E,t,s=>bM s (iT E.P ty (eval t x) f)
 |.field ty x f,E,t,s=>bM s (ti E.P ty (eval t x) f)
 |.indexAddr ty x i,E,t,s=>bM s (gA E.P ty (eval t x) (et (eval t i)))
 |.index ty x i,E,t,s=>bM s (pP E.P ty (eval t x) (et (eval t i)))
 |.lookup ty x k ok,E,t,s=>bM s (kh E.P s ty (eval t x) (eval t k) ok)
 |.mapUpdate ty m k x,E,t,s=>fJ E.P s ty (eval t m) (eval t k) (eval t x)
 |.insert ty m k x,E,t,s=>fJ E.P s ty (eval t m) (eval t k) (eval t x)
 |.typeAssert x _ ty ok,E,t,s=>bM s (lZ E.P (eval t x) ty ok)
 |.extract x i,_,t,s=>bM s (pQ (eval t x) i)
 |.call c,E,t,s=>iA E t s c.argTypes (ij t c.args.toList) c.callee
 |.defer c,_,t,s=>pS t s (ij t c.args.toList) c.callee
 |.panic x,_,t,s=>yA s (eval t x)
 |_,_,_,_=>none
def dI(E:dL)(t:T V)(s:S)(o:Oper):Option Nx:=dH o.op E t s
def pF(P:Program)(t:T V)(s:S):ResultVar->Option V
 |.tmp i=>t.get (fu i)
 |.cell a ty=>match t.get (fu a)with
  |some (.ptr a)=>loadVar P s ty a
  |_=>none
def kK(P:Program)(t:T V)(s:S):List ResultVar->Option (List V)
 |[]=>some []
 |x::r=>match pF P t s x with
  |some v=>match kK P t s r with
   |some l=>some (v::l)
   |none=>none
  |none=>none
def zJ:List V->V
 |[v]=>v
 |vs=>.tuple vs
def sf(P:Program)(fn:Func)(t:T V)(s:S):Option V:=match kK P t s fn.results.toList with
 |some l=>some (zJ l)
 |none=>none
def jB:Md->Md
 |.panicking (⟨_,true⟩::_)=>.returning
 |m=>m
def sk(m:Md)(c:List GN):Md:=match m with
 |.panicking old=>.panicking (c++old)
 |_=>.panicking c
def kU{β:Type}:List V->Nat->T V->(T V->β)->β
 |[],_,t,k=>k t
 |x::r,i,t,k=>t.setK (some x) (fu i) fun t=>kU r (i+1) t k
structure fo where
 e:End
 up:Option Md
 s:S
abbrev Go:=T V->List Item->List eS->Md->Option Md->Option Nat->S->Option fo
def mQ(go:Go)(t:T V)(ds:List eS)(up:Option Md)(rd:Option Nat)(s:S)(jump:Option Code):Option fo :=
 match rd with
 |none=>match jump with
  |none=>go t [] ds .returning up rd s
  |some .ret=>go t [] ds .returning up rd s
  |_=>none
 |some l=>match s.get l with
  |some (.loop _ _ f t ps a b d nt) =>some ⟨.returned (.bool jump.isNone),up,s.put l (.loop (bif jump.isNone then .ready else .done) jump f t ps a b d nt)⟩
  |_=>none
def cN{β:Type}:T V->List Tmp->List V->(T V->β)->β
 |t,p::ps,x::xs,k=>t.setK (some x) (fu p) fun t=>cN t ps xs k
 |t,_,_,k=>k t
inductive mg where
 |on (t:T V) (ds:List eS) (up:Option Md) (s:S)
 |panicked (c:List GN) (t:T V) (ds:List eS) (up:Option Md) (s:S)
abbrev iC:=FuncId->List V->Option Md->S->Option fo
abbrev CL:=Nat->List V->S->Option fo
abbrev RK:=T V->List eS->Option Md->S->Option mg
def fS(d:Option Tmp)(t:T V)(ds:List eS)(up:Option Md)(k:RK):Option fo->Option mg
 |some ⟨.returned v,_,s⟩=>nU t d (some v) fun t=>k t ds up s
 |some ⟨.panicked c,_,s⟩=>some (.panicked c t ds up s)
 |none=>none
def recovered(d:Option Tmp)(t:T V)(ds:List eS)(s:S)(k:RK):Option Md->Option mg
 |some (.panicking (⟨v,false⟩::older))=>nU t d (some v) fun t=>k t ds (some (.panicking (⟨v,true⟩::older))) s
 |some m=>nU t d (some .nilIface) fun t=>k t ds (some m) s
 |none=>none
def eo(rec:iC)(recR:CL)(rd:Option Nat)(d:Option Tmp)(t:T V)(ds:List eS)(up:Option Md)(k:RK):Option Nx->Option mg
 |some (.val v s)=>nU t d (some v) fun t=>k t ds up s
 |some (.skip s)=>nU t d (some V.undef) fun t=>k t ds up s
 |some (.enter f args s)=>fS d t ds up k (rec f args none s)
 |some (.round l args s)=>fS d t ds up k (recR l args s)
 |some (.defer df s)=>bif rd.isSome then none else nU t d (some V.undef) fun t=>k t (df::ds) up s
 |some (.recover s)=>recovered d t ds s k up
 |some (.panic v s)=>some (.panicked [⟨v,false⟩] t ds up s)
 |none=>none
def qS(E:dL)(rec:iC)(recR:CL)(rd:Option Nat)(o:Oper)(t:T V)(ds:List eS)(up:Option Md)(s:S)(k:RK):Option Bool->Option mg
 |some true=>eo rec recR rd o.dst t ds up k (dI E t s o)
 |some false=>nU t o.dst (some V.undef) fun t=>k t ds up s
 |none=>none
def qN(E:dL)(ops:Array Oper)(rec:iC)(recR:CL)(rd:Option Nat):List Oper->RK
 |[]=>fun t ds up s=>some (.on t ds up s)
 |o::r=>fun t ds up s=>qS E rec recR rd o t ds up s (qN E ops rec recR rd r) (bT ops t o)
def aP(P:Program):Op->Nat
 |.load ..|.lookup ..=>1
 |.binOp op ..=>bif oP op then 1 else 0
 |.alloc _|.box ..|.buildSlice ..|.makeMap ..|.makeSlice ..=>2
 |.convert _ dst _=>match P.underlying dst with
  |some (.slice _)=>2
  |some .string=>1
  |_=>0
 |.move _|.assign _|.pick ..|.build ..|.nilCheck _|.unOp ..|.makeInterface ..|.makeFunc ..|.slice ..|.fieldAddr ..|.field ..|.indexAddr ..|.index ..|.typeAssert ..|.extract ..=>0
 |.call c=>match c.callee with
  |.builtin .len|.builtin .cap|.builtin .max|.builtin .min=>1
  |_=>3
 |_=>3
def qW(o:Oper)(acc:List Nat):Nat :=
 o.after.toList.foldl (fun s e=>bif Region.binds .any e then Nat.lor s (Nat.lor (Nat.pow 2 e.on) (acc.getD e.on 0))else s) 0
def kR:List Oper->List Nat->List Nat
 |[],acc=>acc
 |o::r,acc=>kR r (acc++[qW o acc])
def sees(o:Oper):List Tmp:=o.op.operands.toList.filterMap fun|.tmp t=>some t|_=>none
def Le(ms:List Nat)(l:List (Nat×Oper)):Bool :=
 l.all fun(i,o) =>
  (o.after.toList.all fun e=>!(Region.binds .any e)||Nat.blt e.on i) &&
  (match o.guard with|some (g,_)=>(ms.getD i 0).testBit g|none=>true) &&
  l.all fun(j,q)=>Nat.beq i j||match q.dst with
   |none=>true
   |some d=>!(o.dst==some d)&&(!((sees o).contains d)||(ms.getD i 0).testBit j||(ms.getD j 0).testBit i)
def Ed(ms:List Nat):List Nat->Bool
 |a::b::r=>(ms.getD b 0).testBit a&&Ed ms (b::r)
 |_=>true
def sY(P:Program)(l:List (Nat×Oper)):List (Nat×Oper):=l.filter fun(_,o)=>Nat.beq (aP P o.op) 3
def bp:List V->List V->Bool
 |[],[]=>true
 |x::r,y::q=>sameV x y&&bp r q
 |_,_=>false
 where sameV:V->V->Bool
  |.bool a,.bool b=>a==b
  |.int j a,.int k b=>j==k&&a==b
  |.str a,.str b=>a==b
  |.ptr a,.ptr b=>Nat.beq a.f b.f&&Nat.beq a.v b.v&&Nat.beq a.c b.c
  |.nilptr,.nilptr=>true
  |.slice a z n c sz,.slice b y m d sy=>Nat.beq a.f b.f&&Nat.beq a.v b.v&&Nat.beq a.c b.c&&Nat.beq z y&&Nat.beq n m&&c==d&&Nat.beq sz sy
  |.nilslice,.nilslice=>true
  |.map a,.map b=>Nat.beq a b
  |.nilmap,.nilmap=>true
  |.nilFunc,.nilFunc=>true
  |.nilIface,.nilIface=>true
  |.func f a b,.func g c d=>decide (f=g)&&bp a c&&bp b d
  |.iface t v,.iface u w=>Nat.beq t u&&sameV v w
  |.agg a,.agg b=>bp a b
  |.tuple a,.tuple b=>bp a b
  |.atom a,.atom b=>Nat.beq a b
  |_,_=>false
def gL(E:dL)(t:T V)(o:Oper):List S->Option V
 |[]=>none
 |[s]=>match dI E t s o with
  |some (.val v _)=>some v
  |_=>none
 |s::r=>match dI E t s o with
  |some (.val v _)=>match gL E t o r with
   |some w=>bif bp [v] [w] then some v else none
   |none=>none
  |_=>none
def oQ(m:Nat):List (Nat×S)->List S
 |[]=>[]
 |(e,s)::r=>s::(bif m.testBit e then [] else oQ m r)
def xW(s:S):Option Nx->Option (V×S)
 |some (.val v _)=>some (v,s)
 |_=>none
def xX:Option Nx->Option (V×S)
 |some (.val v s)=>some (v,s)
 |_=>none
def si(s:S):Option V->Option (V×S)
 |some v=>some (v,s)
 |none=>none
def FO(E:dL)(a:List (Nat×S))(m:Nat)(t:T V)(s:S)(o:Oper):Nat->Option (V×S)
 |0=>xW s (dI E t s o)
 |1=>si s (gL E t o (oQ m a))
 |2=>xX (dI E t s o)
 |_=>none
def jR(E:dL)(a:List (Nat×S))(m:Nat)(t:T V)(s:S)(o:Oper):Option Bool->Option (V×S)
 |some true=>FO E a m t s o (aP E.P o.op)
 |some false=>some (V.undef,s)
 |none=>none
def cZ(E:dL)(ops:Array Oper)(ms:List Nat)(effs:Nat)(a:List (Nat×S))(m:Nat):List (Nat×Oper)->Nat->T V->S->Option (Nat×T V×S)
 |[],done,t,s=>some (done,t,s)
 |(i,o)::r,done,t,s =>
  bif !(m.testBit i)||done.testBit i then cZ E ops ms effs a m r done t s
  else bif effs.testBit i then none
  else match jR E a (ms.getD i 0) t s o (bT ops t o)with
   |some (v,s)=>nU t o.dst (some v) fun t=>cZ E ops ms effs a m r (Nat.lor done (Nat.pow 2 i)) t s
   |none=>none
def uK:Option fo->Option (V×S)
 |some ⟨.returned v,_,s⟩=>some (v,s)
 |_=>none
def lW(rec:iC):Option Nx->Option (V×S)
 |some (.val v s)=>some (v,s)
 |some (.skip s)=>some (V.undef,s)
 |some (.enter f args s)=>uK (rec f args none s)
 |_=>none
def fV(E:dL)(rec:iC)(t:T V)(s:S)(o:Oper):Option Bool->Option (V×S)
 |some true=>lW rec (dI E t s o)
 |some false=>some (V.undef,s)
 |none=>none
inductive PM where
 |val (v:V) (s:S)
 |pan (c:List GN) (s:S)
def sZ:Option fo->Option PM
 |some ⟨.returned v,_,s⟩=>some (.val v s)
 |some ⟨.panicked c,_,s⟩=>some (.pan c s)
 |none=>none
def ry(rec:iC):Option Nx->Option PM
 |some (.val v s)=>some (.val v s)
 |some (.skip s)=>some (.val V.undef s)
 |some (.enter f args s)=>sZ (rec f args none s)
 |some (.panic v s)=>some (.pan [⟨v,false⟩] s)
 |_=>none
def lA(E:dL)(rec:iC)(t:T V)(s:S)(o:Oper):Option Bool->Option PM
 |some true=>ry rec (dI E t s o)
 |some false=>some (.val V.undef s)
 |none=>none
def eH(ms:List Nat)(i:Nat):List (Nat×Oper)->Nat
 |[]=>0
 |(k,_)::r=>bif (ms.getD k 0).testBit i||Nat.beq k i then eH ms i r else Nat.lor (Nat.pow 2 k) (eH ms i r)
def gj(done:Nat):List (Nat×Oper)->T V->T V
 |[],t=>t
 |(k,o)::r,t=>bif done.testBit k then gj done r t else match o.dst with
  |some d=>t.setK none (fu d) fun t=>gj done r t
  |none=>gj done r t
def Rn(ds:List eS)(up:Option Md)(done:Nat)(all:List (Nat×Oper))(t:T V)(c:List GN)(s:S):Option (Nat×T V×S)->Option mg
 |some _=>some (.panicked c (gj done all t) ds up s)
 |none=>none
def gK(E:dL)(ops:Array Oper)(ms:List Nat)(effs:Nat)(all:List (Nat×Oper))(rec:iC)(ds:List eS)(up:Option Md) :
 List (Nat×Oper)->List (Nat×S)->Nat->T V->S->Option mg
 |[],a,done,t,s =>
  match cZ E ops ms effs a (Nat.pow 2 ops.size - 1) all done t s with
  |some (_,t,s)=>some (.on t ds up s)
  |none=>none
 |(i,o)::r,a,done,t,s =>
  match cZ E ops ms effs a (ms.getD i 0) all done t s with
  |some (done,t,s) =>
   match lA E rec t s o (bT ops t o)with
   |some (.val v s')=>bif Nat.ble s.next s'.next&&!(done.testBit i)&&effs.testBit i then nU t o.dst (some v) fun t=>gK E ops ms effs all rec ds up r ((i,s')::a) (Nat.lor done (Nat.pow 2 i)) t s' else none
   |some (.pan c s')=>bif done.testBit i then none else Rn ds up done all t c s' (cZ E ops ms effs a (eH ms i all) all done t s)
   |none=>none
  |none=>none
def dy:List Oper->Nat->List (Nat×Oper)
 |[],_=>[]
 |o::r,i=>(i,o)::dy r (i+1)
structure abs where
 ms:List Nat
 all:List (Nat×Oper)
 effs:List (Nat×Oper)
 mask:Nat
def Rj(P:Program)(ops:Array Oper):Option abs :=
 let l:=dy ops.toList 0
 let ms:=kR ops.toList []
 let es:=sY P l
 bif Le ms l&&Ed ms (es.map (·.1))then some ⟨ms,l,es,es.foldl (fun s x=>Nat.lor s (Nat.pow 2 x.1)) 0⟩else none
def iK(E:dL)(ops:Array Oper)(rec:iC)(_recR:CL)(t:T V)(ds:List eS)(up:Option Md)(s:S):Option mg :=
 match Rj E.P ops with
 |some ⟨ms,l,es,mask⟩=>gK E ops ms mask l rec ds up es [(ops.size,s)] 0 t s
 |none=>none
abbrev YC:=dL->FuncId->Func->Go->iC->CL->List Item->T V->List eS->Option Md->Option Nat->S->Option fo
def Gr(go:Go)(k:List Item)(t:T V)(ds:List eS)(up:Option Md)(rd:Option Nat)(s:S)(a b:Code):Option V->Option fo
 |some (.bool q)=>go t (.code (bif q then a else b)::k) ds .run up rd s
 |_=>none
def rg(go:Go)(t:T V)(ds:List eS)(up:Option Md)(rd:Option Nat)(s:S)(c:Code):Option (List Item)->Option fo
 |some k=>go t k ds .run up rd s
 |none=>mQ go t ds up rd s (some c)
def iL(go:Go)(k:List Item)(rd:Option Nat):Option mg->Option fo
 |some (.on t ds up s)=>go t k ds .run up rd s
 |some (.panicked c t ds up s)=>go t k ds (.panicking c) up rd s
 |none=>none
def sF(go:Go)(k:List Item)(t:T V)(ds:List eS)(up:Option Md)(rd:Option Nat)(d l:Nat)(s:S):Option eh->Option fo
 |some (.loop st pend f' t' ps' a b c nt)=>match st with
  |.busy=>none
  |_=>go t ((pend.map Item.code).toList++k) (.collected d::ds) .run up rd (s.put l (.loop .exhausted pend f' t' ps' a b c nt))
 |_=>none
def kL(go:Go)(k:List Item)(t:T V)(ds:List eS)(up:Option Md)(rd:Option Nat)(d l:Nat):Option fo->Option fo
 |some ⟨.returned _,_,s⟩=>sF go k t ds up rd d l s (s.get l)
 |some ⟨.panicked c,_,s⟩=>go t k (.collected d::ds) (.panicking c) up rd s
 |none=>none
def gw(f:FuncId)(nt:Nat)(go:Go)(rec:iC)(k:List Item)(t:T V)(ds:List eS)(up:Option Md)(rd:Option Nat)(s:S)
 (ps:Array Tmp) (assign body:Code):Option V->Option fo
 |some (.func fn first cap)=>match fn with
  |.func g=>match rd with
   |none =>
    let d:=s.next
    let s:=s.alloc .deferred
    let l:=s.next
    kL go k t ds up rd d l (rec g (first++([.func (.yield l) [] []]++cap)) none (s.alloc (.loop .ready none f t ps assign body d nt)))
   |some _=>none
  |_=>none
 |_=>none
def lX(ops:Array Oper)(n:Nat):Bool:=ops.toList.all fun o=>match o.dst with
 |some d=>Nat.blt d n
 |none=>true
def di:Code->YC
 |.ret=>fun _ _ _ go _ _ _ t ds up rd s=>mQ go t ds up rd s (some .ret)
 |.skip=>fun _ _ _ go _ _ k t ds up rd s=>go t k ds .run up rd s
 |.label _=>fun _ _ _ go _ _ k t ds up rd s=>go t k ds .run up rd s
 |.seq a b=>fun _ _ _ go _ _ k t ds up rd s=>go t (.code a::.code b::k) ds .run up rd s
 |.cond c a b=>fun _ _ _ go _ _ k t ds up rd s=>Gr go k t ds up rd s a b (eval t c)
 |.block id c=>fun _ _ _ go _ _ k t ds up rd s=>go t (.code c::.inBlock id::k) ds .run up rd s
 |.loop c=>fun _ _ _ go _ _ k t ds up rd s=>go t (.code c::.inLoop c::k) ds .run up rd s
 |.scope c=>fun _ _ _ go _ _ k t ds up rd s=>go t (.code c::.inScope c::k) ds .run up rd s
 |.exit id=>fun _ _ _ go _ _ k t ds up rd s=>rg go t ds up rd s (.exit id) (exitTo id k)
 |.goto l=>fun _ _ _ go _ _ k t ds up rd s=>rg go t ds up rd s (.goto l) (gotoIn l k)
 |.rangeFunc g ps assign body=>fun _ f fn go rec _ k t ds up rd s=>gw f fn.ntmps go rec k t ds up rd s ps assign body (eval t g)
 |.region _ ops true=>fun E _ fn go rec recR k t ds up rd s=>bif lX ops fn.ntmps then iL go k rd (iK E ops rec recR t ds up s)else none
 |.region _ ops false=>fun E _ fn go rec recR k t ds up rd s=>bif lX ops fn.ntmps then iL go k rd (qN E ops rec recR rd ops.toList t ds up s)else none
 |.refuse _=>fun _ _ _ _ _ _ _ _ _ _ _ _=>none
def yD(go:Go)(k:List Item)(t:T V)(ds:List eS)(up:Option Md)(rd:Option Nat)(l:Nat)(s:S):Option eh->Option fo
 |some (.loop .ready pend f t' ps a b d nt)=>go t k ds .run up rd (s.put l (.loop .busy pend f t' ps a b d nt))
 |_=>none
def lS:Item->YC
 |.code c=>di c
 |.inBlock _=>fun _ _ _ go _ _ k t ds up rd s=>go t k ds .run up rd s
 |.inScope _=>fun _ _ _ go _ _ k t ds up rd s=>go t k ds .run up rd s
 |.inLoop c=>fun _ _ _ go _ _ k t ds up rd s=>go t (.code c::.inLoop c::k) ds .run up rd s
 |.beginRound=>fun _ _ _ go _ _ k t ds up rd s=>match rd with
  |some l=>yD go k t ds up (some l) l s (s.get l)
  |none=>none
 |_=>fun _ _ _ _ _ _ _ _ _ _ _ _=>none
def oa:List Item->dL->FuncId->Func->Go->iC->CL->T V->List eS->Option Md->Option Nat->S->Option fo
 |[]=>fun _ _ _ go _ _ t ds up rd s=>mQ go t ds up rd s none
 |i::k=>fun E f fn go rec recR t ds up rd s=>lS i E f fn go rec recR k t ds up rd s
def kj(go:Go)(t:T V)(ds:List eS)(up:Option Md)(rd:Option Nat):Option fo->Option fo
 |some ⟨.returned _,some u,s⟩=>match u with
  |.run=>none
  |u=>go t [] ds (jB u) up rd s
 |some ⟨.panicked c,some u,s⟩=>go t [] ds (sk u c) up rd s
 |_=>none
def lc(go:Go)(t:T V)(ds:List eS)(m:Md)(up:Option Md)(rd:Option Nat)(s:S)(d:Nat):Option eh->Option fo
 |some .deferred=>go t [] ds m up rd (s.put d .gone)
 |_=>none
def QM(up:Option Md)(s:S):Option V->Option fo
 |some v=>some ⟨.returned v,up,s⟩
 |none=>none
def uo(E:dL)(fn:Func)(t:T V)(up:Option Md)(s:S):Md->Option fo
 |.returning=>QM up s (sf E.P fn t s)
 |.panicking c=>some ⟨.panicked c,up,s⟩
 |.run=>none
def dM:List eS->dL->Func->Go->iC->T V->Md->Option Md->Option Nat->S->Option fo
 |.collected d::ds=>fun _ _ go _ t m up rd s=>lc go t ds m up rd s d (s.get d)
 |.call (.func f) captured args::ds=>fun _ _ go rec t m up rd s=>kj go t ds up rd (rec f (args++captured) (some m) s)
 |.call _ _ _::_=>fun _ _ _ _ _ _ _ _ _=>none
 |[]=>fun E fn _ _ t m up _ s=>uo E fn t up s m
def gy(E:dL)(f:FuncId)(fn:Func)(go:Go)(rec:iC)(recR:CL)(t:T V)(todo:List Item)(ds:List eS)(m:Md)(up:Option Md)(rd:Option Nat)(s:S):Option fo :=
 match m with
 |.run=>oa todo E f fn go rec recR t ds up rd s
 |.returning=>dM ds E fn go rec t .returning up rd s
 |.panicking c=>dM ds E fn go rec t (.panicking c) up rd s
inductive tR where
 |frame (f:FuncId) (fn:Func) (t:T V) (todo:List Item) (ds:List eS) (m:Md) (up:Option Md) (rd:Option Nat)
 |call (f:FuncId) (args:List V) (up:Option Md)
 |round (l:Nat) (args:List V)
def gE(ih:tR->S->Option fo)(f:FuncId)(fn:Func):Go:=fun t todo ds m up rd s=>ih (.frame f fn t todo ds m up rd) s
def bR(ih:tR->S->Option fo):iC:=fun g args up s=>ih (.call g args up) s
def eD(ih:tR->S->Option fo):CL:=fun l args s=>ih (.round l args) s
def uI(ih:tR->S->Option fo)(f:FuncId)(args:List V)(up:Option Md)(s:S):Option Func->Option fo
 |some fn=>match fn.body with
  |some c=>bif fn.name == "runtime.NumGoroutine" then none else kU args 0 .leaf fun t=>ih (.frame f fn t [.code c] [] .run up none) s
  |none=>none
 |none=>none
def BD(ih:tR->S->Option fo)(f:FuncId)(args:List V)(up:Option Md)(s:S)(fn:Option Func):Option (V×S)->Option fo
 |some (v,s)=>some ⟨.returned v,up,s⟩
 |none=>uI ih f args up s fn
def zj(E:dL)(ih:tR->S->Option fo)(l:Nat)(args:List V)(s:S):Option eh->Option fo
 |some (.loop _ _ f t ps assign body _ nt)=>match E.P.funcs[f]? with
  |some fn=>bif Nat.ble fn.ntmps nt&&Nat.beq ps.size args.length&&ps.toList.all (fun p=>Nat.blt p nt)then
   cN t ps.toList args fun t=>ih (.frame f fn t [.code assign,.beginRound,.code body] [] .run none (some l)) s
   else none
  |none=>none
 |_=>none
def fx(E:dL)(ih:tR->S->Option fo):tR->S->Option fo
 |.frame f fn t todo ds m up rd,s=>gy E f fn (gE ih f fn) (bR ih) (eD ih) t todo ds m up rd s
 |.call f args up,s=>BD ih f args up s (E.P.funcs[f]?) (match up with|none=>E.orc f args s|some _=>none)
 |.round l args,s=>zj E ih l args s (s.get l)
def qO(E:dL)(n:Nat):tR->S->Option fo :=
 Nat.rec (motive:=fun _=>tR->S->Option fo) (fun _ _=>none) (fun _ ih j s=>fx E ih j s) n
end Go.AI
namespace Go.AI
def Ri:∀(n k n' b:Nat),k<=n->b<=n'->Cs n k=Cs n' b->k=b:=by
 intro n;induction n with
 |zero =>
  intro k n' b hk f h;obtain rfl:k=0:=by omega
  cases n' with
  |zero=>omega
  |succ n' =>
   cases b with
   |zero=>rfl
   |succ m =>simp only[Cs]at h;cases hb:Nat.beq (Nat.mod m 2) 1<;>simp[hb]at h
 |succ n ih =>
  intro k n' b hk f h;cases k with
  |zero =>
   cases n' with
   |zero=>omega
   |succ n' =>
    cases b with
    |zero=>rfl
    |succ m =>simp only[Cs]at h;cases hb:Nat.beq (Nat.mod m 2) 1<;>simp[hb]at h
  |succ m =>
   cases n' with
   |zero =>
    obtain rfl:b=0:=by omega
    simp only[Cs]at h;cases hb:Nat.beq (Nat.mod m 2) 1<;>simp[hb]at h
   |succ n' =>
    cases b with
    |zero =>simp only[Cs]at h;cases hb:Nat.beq (Nat.mod m 2) 1<;>simp[hb]at h
    |succ d =>
     simp only[Cs]at h;have c:∀ x:Nat,Nat.div x 2=x / 2:=fun _=>rfl;have hm:∀ x:Nat,Nat.mod x 2=x%2:=fun _=>rfl;cases hb:Nat.beq (Nat.mod m 2) 1<;>cases a:Nat.beq (Nat.mod d 2) 1<;>simp[hb,a]at h
     ·have g:=ih (Nat.div m 2) n' (Nat.div d 2) (by rw[c];omega) (by rw[c];omega) h;rw[c,c]at g;rw[hm]at hb a;have i:¬ m%2=1:=fun e=>by rw[e]at hb;simp at hb
      have j:¬ d%2=1:=fun e=>by rw[e]at a;simp at a
      omega
     ·have g:=ih (Nat.div m 2) n' (Nat.div d 2) (by rw[c];omega) (by rw[c];omega) h;rw[c,c]at g;rw[hm]at hb a;have i:m%2=1:=abr hb;have j:d%2=1:=abr a;omega
def UZ{k a:Nat}(h:fu k=fu a):k=a:=Ri k k a a (abD _) (abD _) h
namespace T
variable{α:Type}
section
variable{β:Type}(x:Option α)(p:GM)(l r:T α)(v:Option α)(k:T α->β)
def get_leaf(p:GM):(T.leaf:T α).get p=none:=by cases p<;>rfl
def get_o:(T.node l v r).get .o=v:=rfl
def get_l:(T.node l v r).get (.l p)=l.get p:=rfl
def get_r:(T.node l v r).get (.r p)=r.get p:=rfl
def oj:setK x (.l p) .leaf k=setK x p .leaf fun t=>k (.node t none .leaf):=rfl
def oi:setK x (.l p) (.node l v r) k=setK x p l fun t=>k (.node t v r):=rfl
def oh:setK x (.r p) .leaf k=setK x p .leaf fun t=>k (.node .leaf none t):=rfl
def od:setK x (.r p) (.node l v r) k=setK x p r fun t=>k (.node l v t):=rfl
end
def set(x:Option α)(p:GM)(t:T α):T α:=setK x p t id
def QC(x:Option α):∀(p:GM) (β:Type) (t:T α) (k:T α->β),setK x p t k=k (setK x p t id):=by
 intro p;induction p with
 |o=>intro β t k;cases t<;>rfl
 |l p ih =>
  intro β t k;cases t with
  |leaf=>rw[oj,oj,ih β,ih (T α) .leaf (fun t=>id (T.node t none .leaf))];rfl
  |node l v r=>rw[oi,oi,ih β,ih (T α) l (fun t=>id (T.node t v r))];rfl
 |r p ih =>
  intro β t k;cases t with
  |leaf=>rw[oh,oh,ih β,ih (T α) .leaf (fun t=>id (T.node .leaf none t))];rfl
  |node l v r=>rw[od,od,ih β,ih (T α) r (fun t=>id (T.node l v t))];rfl
def setK_eq{β:Type}(x:Option α)(p:GM)(t:T α)(k:T α->β):setK x p t k=k (set x p t):=QC x p β t k
def mB(x:Option α)(p:GM):set x (.l p) .leaf=.node (set x p .leaf) none .leaf:=by unfold set;rw[oj,setK_eq];rfl
def mz(x:Option α)(p:GM):set x (.r p) .leaf=.node .leaf none (set x p .leaf):=by unfold set;rw[oh,setK_eq];rfl
def mA(x:Option α)(p:GM)(l r:T α)(v:Option α):set x (.l p) (.node l v r)=.node (set x p l) v r:=by unfold set;rw[oi,setK_eq];rfl
def my(x:Option α)(p:GM)(l r:T α)(v:Option α):set x (.r p) (.node l v r)=.node l v (set x p r):=by unfold set;rw[od,setK_eq];rfl
def yZ(x:Option α):set x .o .leaf=.node .leaf x .leaf:=rfl
def yY(x:Option α)(l r:T α)(v:Option α):set x .o (.node l v r)=.node l x r:=rfl
def get_set_same(x:Option α):∀(p:GM) (t:T α),(set x p t).get p=x:=by
 intro p;induction p with
 |o=>intro t;cases t<;>rfl
 |l p ih=>intro t;cases t<;>simp[mB,mA,get_l,ih]
 |r p ih=>intro t;cases t<;>simp[mz,my,get_r,ih]
def Cy(x:Option α):∀(p q:GM) (t:T α),p≠q->(set x p t).get q=t.get q:=by
 intro p;induction p with
 |o =>
  intro q t h;cases q with
  |o=>exact absurd rfl h
  |l q=>cases t<;>simp[yZ,yY,get_l,get_r,get_leaf]
  |r q=>cases t<;>simp[yZ,yY,get_l,get_r,get_leaf]
 |l p ih =>
  intro q t h;cases q with
  |o=>cases t<;>simp[mB,mA,get_o,get_r,get_leaf]
  |l q =>have a:p≠q:=fun e=>h (by rw[e]);cases t<;>simp[mB,mA,get_l,ih q _ a,get_leaf]
  |r q=>cases t<;>simp[mB,mA,get_o,get_r,get_leaf]
 |r p ih =>
  intro q t h;cases q with
  |o=>cases t<;>simp[mz,my,get_o,get_l,get_leaf]
  |r q =>have a:p≠q:=fun e=>h (by rw[e]);cases t<;>simp[mz,my,get_r,ih q _ a,get_leaf]
  |l q=>cases t<;>simp[mz,my,get_o,get_l,get_leaf]
def get_setN(x:Option α)(i j:Nat)(t:T α):(set x (fu i) t).get (fu j)=if i=j then x else t.get (fu j):=by
 by_cases h:i=j
 ·subst h;simp[get_set_same]
 ·rw[aeD h];exact Cy x _ _ t (fun e=>h (UZ e))
end T
def DR{β:Type}(n:Nat)(k:Nat->β):FM n k=k n:=by cases n<;>rfl
def OR{β:Type}(n:Int)(k:Int->β):KO n k=k n:=by cases n<;>simp[KO,DR]
def cJ(k:IntKind)(n:Int):nM k n=.int k n:=OR n _
def S.put_eq(s:S)(f:Nat)(b:eh):s.put f b=⟨s.h.set (some b) (fu f),s.next⟩:=by cases s;simp only[S.put];rw[T.setK_eq]
def S.alloc_eq(s:S)(b:eh):s.alloc b=⟨s.h.set (some b) (fu s.next),s.next+1⟩:=by cases s;simp only[S.alloc];rw[T.setK_eq,DR]
def S.get_eq(s:S)(f:Nat):s.get f=s.h.get (fu f):=by cases s;rfl
def S.get_put(s:S)(f g:Nat)(b:eh):(s.put f b).get g=if f=g then some b else s.get g:=by rw[S.put_eq,S.get_eq,S.get_eq,T.get_setN]
def S.get_alloc(s:S)(g:Nat)(b:eh):(s.alloc b).get g=if s.next=g then some b else s.get g:=by rw[S.alloc_eq,S.get_eq,S.get_eq,T.get_setN]
def S.next_put(s:S)(f:Nat)(b:eh):(s.put f b).next=s.next:=by rw[S.put_eq]
def S.next_alloc(s:S)(b:eh):(s.alloc b).next=s.next+1:=by rw[S.alloc_eq]
def UY{β:Type}(t:T V)(d:Option Tmp)(v:Option V)(k:T V->β):nU t d v k=k (nU t d v id):=by
 cases d with
 |none=>rfl
 |some i=>simp only[nU];rw[T.setK_eq,T.setK_eq];rfl
def SH(t:T V)(d:Option Tmp)(v:Option V)(i:Nat):(nU t d v id).get (fu i)=if d=some i then v else t.get (fu i):=by
 cases d with
 |none=>simp[nU]
 |some j=>simp only[nU];rw[T.setK_eq];simp only[id];rw[T.get_setN];simp
end Go.AI
namespace Go.AI
structure Ch where
 b:Nat
 base:Nat
 lim:Nat
def Ch.ro(l:Ch):Prop:=l.lim<l.base
abbrev aN:=Nat->Nat->Option Ch
def aN.le(ρ ρ':aN):Prop:=∀ f v l,ρ f v=some l->ρ' f v=some l
def aN.le_refl(ρ:aN):ρ.le ρ:=fun _ _ _ h=>h
def aN.le_trans{a b c:aN}(h:a.le b)(k:b.le c):a.le c:=fun _ _ _ x=>k _ _ _ (h _ _ _ x)
def aK(l:List Nat):ByteArray:=⟨(l.map UInt8.ofNat).toArray⟩
def iv(ρ:aN)(a:Ad):Option Addr:=match ρ a.f a.v with
 |some l=>if l.base<=a.c then some ⟨l.b,a.c - l.base,none⟩else none
 |none=>none
def nR(ρ:aN):Fn->Option Fn
 |.yield l=>match ρ l 0 with
  |some x=>some (.yield x.b)
  |none=>none
 |f=>some f
def cE(l:Ch)(a:Ad)(cap:Option Nat)(sz:Nat):Nat:=match cap with
 |some c=>c
 |none=>(l.lim - a.c) / sz
def bC(l:Ch)(a:Ad)(z:Nat)(cap:Option Nat)(sz:Nat):Nat:=match cap with
 |some _=>a.c
 |none=>if(l.lim - a.c) / sz=0 then z else a.c
def Mo:Nat->Option Nat
 |0=>none
 |n+1=>some n
def ik(ρ:aN)(a:Ad)(z len:Nat)(cap:Option Nat)(sz:Nat):Option Value:=if sz=0 then(if len=0/\cap=some 0 then some (.slice (some ⟨a.f,a.c,Mo a.v⟩) 0 0)else none)else match ρ a.f a.v with
 |some l=>if l.base<=bC l a z cap sz/\l.base<=a.c/\len<=cE l a cap sz/\0<sz then
  some (.slice (some ⟨l.b,bC l a z cap sz - l.base,none⟩) len (cE l a cap sz))else none
 |none=>none
mutual
def den(ρ:aN):V->Option Value
 |.bool b=>some (.bool b)
 |.int k n=>some (.int k n)
 |.str l=>some (.string (aK l))
 |.ptr a=>match iv ρ a with
  |some x=>some (.pointer (some x))
  |none=>none
 |.nilptr=>some (.pointer none)
 |.slice a z len cap sz=>ik ρ a z len cap sz
 |.nilslice=>some (.slice none 0 0)
 |.map r=>match ρ r 0 with
  |some l=>some (.map (some l.b))
  |none=>none
 |.nilmap=>some (.map none)
 |.func fn first cap=>match nR ρ fn with
  |some fn=>match bd ρ first with
   |some first=>match bd ρ cap with
    |some cap=>some (.func fn first.toArray cap.toArray)
    |none=>none
   |none=>none
  |none=>none
 |.nilFunc=>some .nilFunc
 |.iface t v=>match den ρ v with
  |some x=>some (.iface t x)
  |none=>none
 |.nilIface=>some .nilIface
 |.agg cs=>match bd ρ cs with
  |some l=>some (.agg l.toArray)
  |none=>none
 |.tuple cs=>match bd ρ cs with
  |some l=>some (.tuple l.toArray)
  |none=>none
 |.atom _=>none
def bd(ρ:aN):List V->Option (List Value)
 |[]=>some []
 |x::r=>match den ρ x with
  |some y=>match bd ρ r with
   |some l=>some (y::l)
   |none=>none
  |none=>none
end
def Pe{ρ ρ':aN}(h:ρ.le ρ'){a:Ad}{x:Addr}(e:iv ρ a=some x):iv ρ' a=some x:=by
 unfold iv at e ⊢;cases hl:ρ a.f a.v with
 |none=>simp[hl]at e
 |some l=>rw[hl]at e;rw[h _ _ _ hl];exact e
def Bv{ρ ρ':aN}(h:ρ.le ρ'){a x:Fn}(e:nR ρ a=some x):nR ρ' a=some x:=by
 cases a<;>try exact e
 rename_i l;unfold nR at e ⊢;cases hl:ρ l 0 with
 |none=>simp[hl]at e
 |some y=>simp only[hl]at e;simp only[h _ _ _ hl];exact e
mutual
def bN{ρ ρ':aN}(h:ρ.le ρ'):∀(v:V) (x:Value),den ρ v=some x->den ρ' v=some x
 |.atom _,_,e=>by simp only[den]at e;cases e
 |.bool _,_,e=>e
 |.int _ _,_,e=>e
 |.str _,_,e=>e
 |.ptr a,x,e=>by
  simp only[den]at e ⊢;cases c:iv ρ a with
  |none=>simp[c]at e
  |some y=>rw[c]at e;rw[Pe h c];exact e
 |.nilptr,_,e=>e
 |.slice a z len cap sz,x,e=>by
  simp only[den,ik]at e ⊢;by_cases n:sz=0
  ·rw[aeM n]at e ⊢;exact e
  rw[aeD n]at e ⊢;cases hl:ρ a.f a.v with
  |none=>simp[hl]at e
  |some l=>rw[hl]at e;rw[h _ _ _ hl];exact e
 |.nilslice,_,e=>e
 |.map r,x,e=>by
  simp only[den]at e ⊢;cases hl:ρ r 0 with
  |none=>simp[hl]at e
  |some l=>rw[hl]at e;rw[h _ _ _ hl];exact e
 |.nilmap,_,e=>e
 |.func fn first cap,x,e=>by
  simp only[den]at e ⊢;cases d:nR ρ fn with
  |none=>simp[d]at e
  |some g =>
   rw[d]at e;rw[Bv h d];cases b:bd ρ first with
   |none=>simp[b]at e
   |some l =>
    cases i:bd ρ cap with
    |none=>simp[b,i]at e
    |some m=>simp only[b,i]at e;simp only[fW h first l b,fW h cap m i];exact e
 |.nilFunc,_,e=>e
 |.iface t v,x,e=>by
  simp only[den]at e ⊢;cases j:den ρ v with
  |none=>simp[j]at e
  |some y=>rw[j]at e;rw[bN h v y j];exact e
 |.nilIface,_,e=>e
 |.agg cs,x,e=>by
  simp only[den]at e ⊢;cases hl:bd ρ cs with
  |none=>simp[hl]at e
  |some l=>rw[hl]at e;rw[fW h cs l hl];exact e
 |.tuple cs,x,e=>by
  simp only[den]at e ⊢;cases hl:bd ρ cs with
  |none=>simp[hl]at e
  |some l=>rw[hl]at e;rw[fW h cs l hl];exact e
def fW{ρ ρ':aN}(h:ρ.le ρ'):∀(l:List V) (m:List Value),bd ρ l=some m->bd ρ' l=some m
 |[],_,e=>e
 |x::r,m,e=>by
  simp only[bd]at e ⊢;cases a:den ρ x with
  |none=>simp[a]at e
  |some y =>
   cases hr:bd ρ r with
   |none=>simp[a,hr]at e
   |some q=>simp only[a,hr]at e;simp only[bN h x y a,fW h r q hr];exact e
end
def be{ρ:aN}{x:V}{r:List V}{m:List Value}:bd ρ (x::r)=some m↔∃ y q,den ρ x=some y/\bd ρ r=some q/\m=y::q:=by
 simp only[bd];cases hx:den ρ x with
 |none=>simp
 |some y =>
  cases hr:bd ρ r with
  |none=>simp
  |some q=>simp[eq_comm]
def dG{ρ:aN}:∀ {x y:List V} {a b:List Value},bd ρ x=some a->bd ρ y=some b->bd ρ (x++y)=some (a++b)
 |[],y,a,b,c,hy=>by cases c;exact hy
 |v::x,y,a,b,c,hy=>by obtain⟨u,q,d,e,rfl⟩:=be.1 c;exact be.2 ⟨u,q++b,d,dG e hy,rfl⟩
def bS{ρ:aN}:∀ {x:List V} {a:List Value},bd ρ x=some a->a.length=x.length
 |[],a,h=>by cases h;rfl
 |v::x,a,h=>by obtain⟨u,q,h1,b,rfl⟩:=be.1 h;simp[bS b]
def eM{ρ:aN}:∀ {x:List V} {a:List Value} (i:Nat) {v:V},bd ρ x=some a->x[i]? = some v->∃ y,den ρ v=some y/\a[i]? = some y
 |[],a,i,v,h,e=>by simp at e
 |u::x,a,i,v,h,e=>by
  obtain⟨y,q,c,d,rfl⟩:=be.1 h;cases i with
  |zero=>simp at e;subst e;exact⟨y,c,rfl⟩
  |succ i=>simp at e;obtain⟨z,f,b⟩:=eM i d e;exact⟨z,f,by simpa using b⟩
def Eh{ρ:aN}:∀ {x:List V} {a:List Value} (n:Nat),bd ρ x=some a->bd ρ (x.drop n)=some (a.drop n)
 |[],a,n,h=>by cases h;simp[bd]
 |u::x,a,n,h=>by
  obtain⟨y,q,c,b,rfl⟩:=be.1 h;cases n with
  |zero=>exact be.2 ⟨y,q,c,b,rfl⟩
  |succ n=>simpa using Eh n b
def Eg{ρ:aN}:∀ {x:List V} {a:List Value} (n:Nat),bd ρ x=some a->bd ρ (x.take n)=some (a.take n)
 |[],a,n,h=>by cases h;simp[bd]
 |u::x,a,n,h=>by
  obtain⟨y,q,b,c,rfl⟩:=be.1 h;cases n with
  |zero=>simp[bd]
  |succ n=>simpa using be.2 ⟨y,q.take n,b,Eg n c,rfl⟩
def kZ{ρ:aN}:∀ {x:List V} {a:List Value},x.length=a.length->(∀(i:Nat) (v:V),x[i]? = some v->∃ y,den ρ v=some y/\a[i]? = some y)->bd ρ x=some a
 |[],a,hl,h=>by have:a=[]:=aka.1 hl.symm;subst this;rfl
 |u::x,[],hl,h=>by simp at hl
 |u::x,b::a,hl,h=>by obtain⟨y,hy,c⟩:=h 0 u rfl;simp at c;subst c;exact be.2 ⟨b,a,hy,kZ (by simpa using hl) (fun i v e=>by simpa using h (i+1) v (by simpa using e)),rfl⟩
def eL{ρ:aN}{v:V}{x:Value}(h:den ρ v=some x):bd ρ v.cells=some x.cells.toList:=by
 cases v<;>try(
  refine be.2 ⟨x,[],h,rfl,?_⟩;simp only[den]at h
  (repeat' split at h)<;>first|(cases h;done)|(cases h;rfl))
 case slice a z len cap sz =>
  refine be.2 ⟨x,[],h,rfl,?_⟩;simp only[den,ik]at h
  (repeat' split at h)<;>first|(cases h;done)|(cases h;rfl)
 case agg cs =>
  simp only[den]at h;split at h
  ·rename_i l hl;cases h;simpa[V.cells,Value.cells]using hl
  ·cases h
def zH{ρ:aN}{v:V}{x:Value}(h:den ρ v=some x)(b:v.one=true):x.oneCell'=true:=by
 cases v<;>simp[V.one]at b
 case atom i=>simp only[den]at h;cases h
 case slice a z len cap sz =>
  simp only[den,ik]at h
  (repeat' split at h)<;>first|(cases h;done)|(cases h;rfl)
 all_goals
  simp only[den]at h
  (repeat' split at h)<;>first|(cases h;done)|(cases h;rfl)
def TR(ρ:aN)(t:T V)(tm:Array Value):Prop:=∀(i:Nat) (v:V),t.get (fu i)=some v->∃ y,den ρ v=some y/\tm[i]? = some y
def TR.mono{ρ ρ':aN}(h:ρ.le ρ'){t:T V}{tm:Array Value}(k:TR ρ t tm):TR ρ' t tm:=fun i v e=>by obtain⟨y,hy,a⟩:=k i v e;exact⟨y,bN h v y hy,a⟩
def TR.leaf(ρ:aN)(tm:Array Value):TR ρ .leaf tm:=fun i v e=>by rw[T.get_leaf]at e;cases e
def TR.put{ρ:aN}{t:T V}{tm:Array Value}(k:TR ρ t tm){i:Nat}{v:V}{y:Value}(b:den ρ v=some y)(hi:i<tm.size) :
 TR ρ (t.set (some v) (fu i)) (tm.setIfInBounds i y):=fun j u e=>by
 rw[T.get_setN]at e;by_cases h:i=j
 ·subst h;rw[aeM rfl]at e;cases e;exact⟨y,b,by simp[hi]⟩
 ·rw[aeD h]at e;obtain⟨z,c,a⟩:=k j u e;exact⟨z,c,by rw[akn h];exact a⟩
def ain(ρ:aN)(e:qi)(r:MapEntry):Prop:=den ρ e.key=some r.key/\den ρ e.val=some r.val/\e.born=r.born
def gm(ρ:aN):List qi->List MapEntry->Prop
 |[],[]=>True
 |e::es,r::rs=>ain ρ e r/\gm ρ es rs
 |_,_=>False
def gm.mono{ρ ρ':aN}(h:ρ.le ρ'):∀ {es:List qi} {rs:List MapEntry},gm ρ es rs->gm ρ' es rs
 |[],[],_=>trivial
 |_::_,_::_,⟨⟨a,b,c⟩,k⟩=>⟨⟨bN h _ _ a,bN h _ _ b,c⟩,gm.mono h k⟩
 |[],_::_,k=>k.elim
 |_::_,[],k=>k.elim
def Jv(ρ:aN)(w:World)(f:Nat)(sb:Bool)(u:nW):Prop :=
 ∃(l:Ch) (c:Array Value) (e:TypeId) (fz:Nat×Nat),ρ f u.v=some l/\w.heap[l.b]? = some (.cells c e fz)/\l.base<=u.lo/\l.lim=l.base+c.size /\
  ((sb=false->fz=(0,0))/\∀ i,i<c.size->¬(fz.1<=i/\i<fz.2))/\∀(i:Nat) (x:V),u.cells[i]? = some x->∃ y,den ρ x=some y/\c[u.lo - l.base+i]? = some y
def aik(ρ:aN)(w:World)(f:Nat)(u:nW):Prop :=
 ∃(l:Ch) (c:Array Value) (e:TypeId) (fz:Nat×Nat),ρ f u.v=some l/\w.heap[l.b]? = some (.cells c e fz)/\l.base<=u.lo /\
  ∀(i:Nat) (x:V),u.cells[i]? = some x->∃ y,den ρ x=some y/\c[u.lo - l.base+i]? = some y
def aij(ρ:aN)(w:World)(f:Nat)(u:nW):Prop :=
 ∃(l:Ch) (c:Array Value) (e:TypeId) (fz:Nat×Nat),ρ f u.v=some l/\l.b=f/\w.heap[f]? = some (.cells c e fz)/\(u.v=127->l.base=u.lo/\c.size=u.cells.length)
def Cb(ρ:aN)(w:World)(f:Nat):eh->Prop
 |.ro vers=>∀ u∈vers,aik ρ w f u/\aij ρ w f u
 |.cells _ sb nv vers=>(∀ v,nv<=v->ρ f v=none)/\∀ u∈vers,u.v<nv/\Jv ρ w f sb u
 |.map es clock=>∃ l rs,ρ f 0=some l/\w.heap[l.b]? = some (.map rs clock)/\gm ρ es rs.toList
 |.gone=>True
 |.loop st pend fn t ps a b d nt=>∃ l ld tm,ρ f 0=some l/\ρ d 0=some ld/\TR ρ t tm/\nt<=tm.size/\w.heap[l.b]? = some (.loop { state:=st,pending:=pend,fn,tmps:=tm,params:=ps,assign:=a,body:=b,defers:=ld.b })
 |.deferred=>∃ l,ρ f 0=some l/\w.heap[l.b]? = some (.deferred (some []))
structure HR(ρ:aN)(s:S)(w:World):Prop where
 fresh:∀ f v,s.next<=f->ρ f v=none
 inj:∀ f v l f' v' l',ρ f v=some l->ρ f' v'=some l'->l.b=l'.b->f=f'/\l.base=l'.base
 low:∀ f v l,ρ f v=some l->l.b<w.heap.size
 blk:∀ f B,s.get f=some B->Cb ρ w f B
 dom:∀ f B,s.get f=some B->f<s.next
 rw:∀ f B,s.get f=some B->(∀ vers,B≠.ro vers)->∀ v l,ρ f v=some l->¬ l.ro
structure FR(ρ:aN)(w:World)(ρ':aN)(w':World):Prop where
 ext:ρ.le ρ'
 size:w.heap.size<=w'.heap.size
 os:w'.os=w.os
 tape:w'.tape=w.tape
 output:w'.output=w.output
 same:∀ b,b<w.heap.size->(∀ f v l,ρ f v=some l->¬ l.ro->l.b≠b)->w'.heap[b]? = w.heap[b]?
 new:∀ f v l,ρ' f v=some l->l.b<w.heap.size->∃ f' v' l',ρ f' v'=some l'/\l'.b=l.b/\(l'.ro->l.ro)
def FR.refl(ρ:aN)(w:World):FR ρ w ρ w:=⟨ρ.le_refl,abD _,rfl,rfl,rfl,fun _ _ _=>rfl,fun f v l h _=>⟨f,v,l,h,rfl,id⟩⟩
def FR.trans{ρ ρ1 ρ2:aN}{w d g:World}(h:FR ρ w ρ1 d)(k:FR ρ1 d ρ2 g):FR ρ w ρ2 g where
 ext:=aN.le_trans h.ext k.ext
 size:=ajd h.size k.size
 os:=k.os.trans h.os
 tape:=k.tape.trans h.tape
 output:=k.output.trans h.output
 same b hb i:=by
  rw[k.same b (aiN hb h.size) (fun f v l e a he=>?_)]
  ·exact h.same b hb i
  ·obtain⟨f',v',l',j,he',c⟩:=h.new f v l e (by omega);exact i f' v' l' j (fun q=>a (c q)) (by omega)
 new f v l e hl:=by obtain⟨m,n,l1,o,h1,s⟩:=k.new f v l e (aiN hl h.size);obtain⟨f2,t,l2,u,h2,y⟩:=h.new m n l1 o (by omega);exact⟨f2,t,l2,u,by omega,fun q=>s (y q)⟩
def FR.drawn{ρ:aN}(w:World)(n:Nat):FR ρ w ρ { w with drawn:=n }:=⟨ρ.le_refl,abD _,rfl,rfl,rfl,fun _ _ _=>rfl,fun f v l h _=>⟨f,v,l,h,rfl,id⟩⟩
def Jv.of_heap{ρ:aN}{w w':World}{f:Nat}{sb:Bool}{u:nW}(h:Jv ρ w f sb u)(d:∀ l,ρ f u.v=some l->w'.heap[l.b]? = w.heap[l.b]?):Jv ρ w' f sb u:=by obtain⟨l,c,e,fz,a,g,r⟩:=h;exact⟨l,c,e,fz,a,by rw[d l a];exact g,r⟩
def Jv.mono{ρ ρ':aN}(h:ρ.le ρ'){w:World}{f:Nat}{sb:Bool}{u:nW}(k:Jv ρ w f sb u):Jv ρ' w f sb u:=by obtain⟨l,c,e,fz,b,d,g,j,m,n⟩:=k;refine⟨l,c,e,fz,h _ _ _ b,d,g,j,m,fun i x o=>?_⟩;obtain⟨y,hy,a⟩:=n i x o;exact⟨y,bN h x y hy,a⟩
def HR.drawn{ρ:aN}{s:S}{w:World}(h:HR ρ s w)(n:Nat):HR ρ s { w with drawn:=n } :=
 ⟨h.fresh,h.inj,h.low,h.blk,h.dom,h.rw⟩
def eW:∀ {vers:List nW} {v:Nat} {u:nW},bV vers v=some u->u∈vers/\u.v=v
 |[],v,u,h=>by simp[bV]at h
 |x::r,v,u,h=>by
  simp only[bV]at h;cases hb:Nat.beq x.v v with
  |true=>simp[hb]at h;subst h;exact⟨by simp,abr hb⟩
  |false=>simp[hb]at h;obtain⟨a,b⟩:=eW h;exact⟨abE _ a,b⟩
def dN:∀ {n:Nat} {l m:List V},bv n l=some m->m=l.take n/\n<=l.length
 |0,l,m,h=>by simp[bv]at h;subst h;simp
 |n+1,[],m,h=>by simp[bv]at h
 |n+1,x::r,m,h=>by
  simp only[bv]at h;cases hr:bv n r with
  |none=>simp[hr]at h
  |some q =>simp[hr]at h;obtain⟨e,hl⟩:=dN hr;subst h;subst e;simp;omega
def HR.ver{ρ:aN}{s:S}{w:World}(h:HR ρ s w){a:Ad}{e:TypeId}{sb:Bool}{nv:Nat}{vers:List nW}{u:nW}
 (b:s.get a.f=some (.cells e sb nv vers)) (c:bV vers a.v=some u):Jv ρ w a.f sb u/\u∈vers/\u.v=a.v:=by
 obtain⟨hm,d⟩:=eW c;exact⟨((h.blk _ _ b).2 u hm).2,hm,d⟩
def zW{ρ:aN}{s:S}{w:World}(h:HR ρ s w){a:Ad}{x:V}(e:oM s a=some x) :
 ∃ ad y,iv ρ a=some ad/\den ρ x=some y/\w.cell? ad=some y:=by
 unfold oM at e;split at e
 ·rename_i el sb nv vers g;split at e
  ·rename_i u i;cases hb:Nat.ble u.lo a.c with
   |false=>simp[hb]at e
   |true =>simp only[hb,ge]at e;have j:=aeb hb;obtain⟨⟨l,c,el',fz,f,m,q,h4,h5,n⟩,_,o⟩:=h.ver g i;rw[o]at f;obtain⟨y,hy,d⟩:=n _ _ e;refine⟨⟨l.b,a.c - l.base,none⟩,y,by simp[iv,f];omega,hy,?_⟩;simp only[World.cell?,m];simp;rw[<- d];congr 1;omega
  ·cases e
 ·rename_i vers g;split at e
  ·rename_i u i;cases hb:Nat.ble u.lo a.c with
   |false=>simp[hb]at e
   |true =>simp only[hb,ge]at e;have j:=aeb hb;obtain⟨hm,o⟩:=eW i;obtain⟨l,c,el',fz,f,m,q,n⟩:=(h.blk _ _ g u hm).1;rw[o]at f;obtain⟨y,hy,d⟩:=n _ _ e;refine⟨⟨l.b,a.c - l.base,none⟩,y,by simp[iv,f];omega,hy,?_⟩;simp only[World.cell?,m];simp;rw[<- d];congr 1;omega
  ·cases e
 ·cases e
def Dx{ρ:aN}{w:World}{a:Ad}{n:Nat}{l:List V}{u:nW}{lo:Ch}{c:Array Value}{el':TypeId}{fz:Nat×Nat}(z:ρ a.f a.v=some lo)(A:w.heap[lo.b]? = some (.cells c el' fz))(h3:lo.base<=u.lo)(hle:u.lo<=a.c)
 (B:∀(i:Nat) (x:V),u.cells[i]? = some x->∃ y,den ρ x=some y/\c[u.lo - lo.base+i]? = some y) (e:bv n (u.cells.drop (a.c - u.lo))=some l) :
 ∃ ad ys,iv ρ a=some ad/\bd ρ l=some ys/\ys.length=n/\∀(j:Nat) (v:Value),ys[j]? = some v->w.cell? (ad.add j)=some v:=by
 obtain⟨rfl,hlen⟩:=dN e;have hcell:∀(j:Nat) (v:V),((u.cells.drop (a.c - u.lo)).take n)[j]? = some v->∃ y,den ρ v=some y/\c[a.c - lo.base+j]? = some y:=fun j v g=>by
  have h:j<n:=by
   rcases aiA j n with o|o
   ·exact o
   ·rw[aeF (by rw[aiu];omega)]at g;cases g
  rw[aiV h,ajK]at g;obtain⟨y,hy,d⟩:=B _ _ g;exact⟨y,hy,by rw[<- d];congr 1;omega⟩
 have m:((u.cells.drop (a.c - u.lo)).take n).length=n:=by rw[aiu];omega
 have q:n=0\/a.c - lo.base+n<=c.size:=by
  rcases ajx n with h0|h0
  ·exact .inl h0
  ·right;have E:∃ v,((u.cells.drop (a.c - u.lo)).take n)[n - 1]? = some v:=⟨_,abF (by omega)⟩;obtain⟨v,s⟩:=E;obtain⟨y,_,d⟩:=hcell _ _ s;have:=(ajg.1 d).1;omega
 refine⟨⟨lo.b,a.c - lo.base,none⟩,(c.toList.drop (a.c - lo.base)).take n,by simp[iv,z];omega,?_,?_,?_⟩
 ·refine kZ ?_ fun i v hi=>?_
  ·rw[m,aiu,aiS,ajm];rcases q with h0|h0<;>omega
  ·obtain⟨y,hy,d⟩:=hcell i v hi;refine⟨y,hy,?_⟩;have t:i<n:=by have:=(aez.1 hi).1;omega
   rw[aiV t,ajK,aiB];exact d
 ·rw[aiu,aiS,ajm];rcases q with h0|h0<;>omega
 ·intro j v g;have h:j<n:=by
   rcases aiA j n with o|o
   ·exact o
   ·rw[aeF (by rw[aiu];omega)]at g;cases g
  rw[aiV h,ajK,aiB]at g;have F:(⟨lo.b,a.c - lo.base,none⟩:Addr).add j=⟨lo.b,a.c - lo.base+j,none⟩:=by
   unfold Addr.add;split
   ·subst_vars;rfl
   ·rfl
  rw[F];simp only[World.cell?,A];simpa using g
def jk{ρ:aN}{s:S}{w:World}(h:HR ρ s w){a:Ad}{n:Nat}{l:List V}(e:loadCells s a n=some l) :
 ∃ ad ys,iv ρ a=some ad/\bd ρ l=some ys/\ys.length=n/\∀(j:Nat) (v:Value),ys[j]? = some v->w.cell? (ad.add j)=some v:=by
 unfold loadCells at e;split at e
 ·rename_i el sb nv vers d;split at e
  ·rename_i u f;cases hb:Nat.ble u.lo a.c with
   |false=>simp[hb]at e
   |true =>simp only[hb,ge]at e;obtain⟨⟨lo,c,el',fz,b,g,i,h4,h5,m⟩,_,o⟩:=h.ver d f;rw[o]at b;exact Dx b g i (aeb hb) m e
  ·cases e
 ·rename_i vers d;split at e
  ·rename_i u f;cases hb:Nat.ble u.lo a.c with
   |false=>simp[hb]at e
   |true =>simp only[hb,ge]at e;obtain⟨hm,o⟩:=eW f;obtain⟨lo,c,el',fz,b,g,i,m⟩:=(h.blk _ _ d u hm).1;rw[o]at b;exact Dx b g i (aeb hb) m e
  ·cases e
 ·cases e
def aN.put(ρ:aN)(f v:Nat)(l:Ch):aN:=fun g u=>if g=f/\u=v then some l else ρ g u
def aN.put_same(ρ:aN)(f v:Nat)(l:Ch):ρ.put f v l f v=some l:=by simp[aN.put]
def aN.le_put{ρ:aN}{f v:Nat}(l:Ch)(h:ρ f v=none):ρ.le (ρ.put f v l):=fun g u x a=>by unfold aN.put;rw[aeD (fun e=>by obtain⟨rfl,rfl⟩:=e;rw[h]at a;cases a)];exact a
def aN.of_put{ρ:aN}{f v g u:Nat}{l x:Ch}(h:ρ.put f v l g u=some x):(g=f/\u=v/\x=l)\/ρ g u=some x:=by
 unfold aN.put at h;split at h
 ·rename_i e;cases h;exact .inl ⟨e.1,e.2,rfl⟩
 ·exact .inr h
def Cb.keep{ρ ρ':aN}{w w':World}{f:Nat}{B:eh}(h:Cb ρ w f B)(j:ρ.le ρ')(F:∀ v,ρ f v=none->ρ' f v=none)
 (n:∀ v l,ρ f v=some l->w'.heap[l.b]? = w.heap[l.b]?):Cb ρ' w' f B:=by
 cases B with
 |ro vers =>intro u q;obtain⟨⟨l,c,e,fz,g,m,o,s⟩,l',G,H,fz',E,z,I,J⟩:=h u q;refine⟨⟨l,c,e,fz,j _ _ _ g,by rw[n _ l g];exact m,o,fun i x K=>?_⟩,l',G,H,fz',j _ _ _ E,z,by rw[<- z,n _ l' E,z];exact I,J⟩;obtain⟨y,hy,A⟩:=s i x K;exact⟨y,bN j x y hy,A⟩
 |cells e sb nv vers =>exact⟨fun v L=>F v (h.1 v L),fun u q=>⟨(h.2 u q).1,((h.2 u q).2.of_heap (fun l hl=>n _ l hl)).mono j⟩⟩
 |map es clock =>obtain⟨l,rs,g,m,o⟩:=h;exact⟨l,rs,j _ _ _ g,by rw[n _ l g];exact m,o.mono j⟩
 |gone=>trivial
 |loop st pend fn t ps a b d nt =>obtain⟨l,ld,tm,g,m,o,s⟩:=h;exact⟨l,ld,tm,j _ _ _ g,j _ _ _ m,o.mono j,by rw[n _ l g];exact s⟩
 |deferred =>obtain⟨l,g,m⟩:=h;exact⟨l,j _ _ _ g,by rw[n _ l g];exact m⟩
def iG(w:World)(o:Obj){k:Nat}(h:k<w.heap.size):(w.alloc o).heap[k]? = w.heap[k]?:=by show(w.heap.push o)[k]? = _;rw[Array.getElem?_push,aeD (by omega)]
def eF(w:World)(o:Obj):(w.alloc o).heap[w.heap.size]? = some o:=by show(w.heap.push o)[w.heap.size]? = _;simp
def HR.alloc{ρ:aN}{s:S}{w:World}(h:HR ρ s w)(B:eh)(o:Obj)(base lim:Nat)(hbl:base<=lim)
 (hB:Cb (ρ.put s.next 0 ⟨w.heap.size,base,lim⟩) (w.alloc o) s.next B) :
 HR (ρ.put s.next 0 ⟨w.heap.size,base,lim⟩) (s.alloc B) (w.alloc o)/\FR ρ w (ρ.put s.next 0 ⟨w.heap.size,base,lim⟩) (w.alloc o):=by
 have hfree:ρ s.next 0=none:=h.fresh _ _ (abD _);refine⟨⟨?_,?_,?_,?_,?_,?_⟩,⟨aN.le_put _ hfree,by simp,rfl,rfl,rfl,?_,?_⟩⟩
 ·intro f v g;rw[S.next_alloc]at g;unfold aN.put;rw[aeD (by omega)];exact h.fresh f v (by omega)
 ·intro f v l f' v' l' e c hb;rcases aN.of_put e with⟨rfl,rfl,rfl⟩|e
  ·rcases aN.of_put c with⟨rfl,rfl,rfl⟩|c
   ·exact⟨rfl,rfl⟩
   ·have:=h.low _ _ _ c;simp at hb;omega
  ·rcases aN.of_put c with⟨rfl,rfl,rfl⟩|c
   ·have:=h.low _ _ _ e;simp at hb;omega
   ·exact h.inj _ _ _ _ _ _ e c hb
 ·intro f v l e;rcases aN.of_put e with⟨rfl,rfl,rfl⟩|e
  ·simp
  ·have:=h.low _ _ _ e;simp;omega
 ·intro f B' a;rw[S.get_alloc]at a;split at a
  ·rename_i e;cases a;subst e;exact hB
  ·rename_i hne;refine(h.blk f B' a).keep (aN.le_put _ hfree) (fun v i=>?_) (fun v l hl=>iG _ _ (h.low _ _ _ hl));unfold aN.put;rw[aeD (by omega)];exact i
 ·intro f B' a;rw[S.get_alloc]at a;rw[S.next_alloc];split at a
  ·omega
  ·exact Nat.lt_succ_of_lt (h.dom f B' a)
 ·intro f B' a d v l hl;rw[S.get_alloc]at a;rcases aN.of_put hl with⟨rfl,rfl,rfl⟩|hl
  ·show ¬(lim<base);omega
  ·split at a
   ·rename_i j;subst j;rw[h.fresh _ _ (abD _)]at hl;cases hl
   ·exact h.rw f B' a d v l hl
 ·intro b hb _;exact iG _ _ hb
 ·intro f v l e hl;rcases aN.of_put e with⟨rfl,rfl,rfl⟩|e
  ·simp at hl
  ·exact⟨f,v,l,e,rfl,id⟩
def gQ{ρ:aN}{s:S}{w:World}(h:HR ρ s w)(sb:Bool)(elem elem':TypeId){cs:List V}{ys:Array Value}(e:bd ρ cs=some (ys.toList.take cs.length))(fz:Nat×Nat)(b:(sb=false->fz=(0,0))/\∀ i,i<ys.size->¬(fz.1<=i/\i<fz.2)) :
 ∃ ρ',ρ' s.next 0=some ⟨w.heap.size,0,ys.size⟩/\HR ρ' (bw sb s elem cs).2 (w.alloc (.cells ys elem' fz))/\FR ρ w ρ' (w.alloc (.cells ys elem' fz)):=by
 have hfree:ρ s.next 0=none:=h.fresh _ _ (abD _);refine⟨ρ.put s.next 0 ⟨w.heap.size,0,ys.size⟩,aN.put_same _ _ _ _,h.alloc (.cells elem sb 1 [⟨0,0,cs⟩]) _ 0 ys.size (aje _) ?_⟩;refine⟨fun v hv=>?_,fun u c=>?_⟩
 ·unfold aN.put;rw[aeD (by omega)];exact h.fresh _ _ (abD _)
 ·simp at c;subst c;refine⟨akV,⟨w.heap.size,0,ys.size⟩,ys,elem',fz,aN.put_same _ _ _ _,eF _ _,abD _,by simp,b,fun i x d=>?_⟩;obtain⟨y,hy,a⟩:=eM i e d;refine⟨y,bN (aN.le_put _ hfree) _ _ hy,?_⟩;have hi:i<cs.length:=(aez.1 d).1;rw[aiV hi,aiB]at a;simpa using a
structure YD(w w':World)(b:Nat):Prop where
 size:w'.heap.size=w.heap.size
 os:w'.os=w.os
 tape:w'.tape=w.tape
 output:w'.output=w.output
 other:∀ k,k≠b->w'.heap[k]? = w.heap[k]?
def YD.trans{a b c:World}{k:Nat}(h:YD a b k)(g:YD b c k):YD a c k :=
 ⟨g.size.trans h.size,g.os.trans h.os,g.tape.trans h.tape,g.output.trans h.output,fun i hi=>(g.other i hi).trans (h.other i hi)⟩
def CZ(P:Program)(b off:Nat)(e:TypeId)(fz:Nat×Nat):∀(ys:List Value) (i:Nat) (c:Array Value) (w:World),w.heap[b]? = some (.cells c e fz) ->
 (∀ k,k<c.size->¬(fz.1<=k/\k<fz.2))->off+i+ys.length<=c.size->(∀ v∈ys,v.oneCell'=true) ->
 ∃ w' d,(Go.storeCells ⟨b,off,none⟩ ys i).run P w=.ok () w'/\YD w w' b/\w'.heap[b]? = some (.cells d e fz)/\d.size=c.size /\
  ∀ j,d[j]? = if off+i<=j/\j<off+i+ys.length then ys[j - (off+i)]? else c[j]?:=by
 intro ys;induction ys with
 |nil =>intro i c w f a hl n;exact⟨w,c,rfl,⟨rfl,rfl,rfl,rfl,fun _ _=>rfl⟩,f,rfl,fun j=>by rw[aeD (by simp)]⟩
 |cons v r ih =>
  intro i c w f a hl n;simp only[aeJ]at hl;have s:(⟨b,off,none⟩:Addr).add i=⟨b,off+i,none⟩:=by
   unfold Addr.add;split
   ·subst_vars;rfl
   ·rfl
  have hcell:w.cell? ⟨b,off+i,none⟩=some (c[off+i]'(by omega)):=by simp only[World.cell?,f];simp[show off+i<c.size by omega]
  have o:w.frozen? ⟨b,off+i,none⟩=false:=by simp only[World.frozen?,f];have:=a (off+i) (by omega);simp;omega
  have g:(w.setCell ⟨b,off+i,none⟩ v).heap[b]? = some (.cells (c.setIfInBounds (off+i) v) e fz):=by simp only[World.setCell,Array.getElem?_modify,akC,f];simp
  obtain⟨w',d,t,y,z,A,B⟩:=ih (i+1) (c.setIfInBounds (off+i) v) (w.setCell ⟨b,off+i,none⟩ v) g
   (by simpa using a) (by simp;omega) (fun u E=>n u (abE _ E))
  have h:YD w (w.setCell ⟨b,off+i,none⟩ v) b:=⟨by simp,rfl,rfl,rfl,fun k hk=>by simp only[World.setCell,Array.getElem?_modify];rw[aeD (fun e=>hk e.symm)]⟩;refine⟨w',d,?_,h.trans y,z,by simpa using A,fun j=>?_⟩
  ·simp only[Go.storeCells,afx,s];rw[run_store P w _ v .plain (n v (by simp)),hcell];simp only[o,ajo,akG,aeq];exact t
  ·rw[B j];by_cases q:off+(i+1)<=j/\j<off+(i+1)+r.length
   ·rw[aeM q,aeM (by simp;omega)];have:j - (off+i)=(j - (off+(i+1)))+1:=by omega
    rw[this];simp
   ·rw[aeD q];by_cases m:j=off+i
    ·subst m;rw[aeM (by simp)];simp[show off+i<c.size by omega]
    ·rw[aeD (by simp;omega)];simp[akX m]
def gO:∀ {cs:List V} {n:Nat} {new out:List V},cC cs n new=some out ->
 out.length=cs.length/\(new=[]\/n+new.length<=cs.length)/\∀(j:Nat),out[j]? = if n<=j/\j<n+new.length then new[j - n]? else cs[j]?
 |cs,n,[],out,h=>by
  have:out=cs:=by cases cs<;>cases n<;>simp[cC]at h<;>first|exact h|exact h.symm
  subst this;exact⟨rfl,.inl rfl,fun j=>by rw[aeD (by simp)]⟩
 |[],n,y::new,out,h=>by cases n<;>simp[cC]at h
 |x::r,n+1,y::new,out,h=>by
  simp only[cC]at h;cases hr:cC r n (y::new)with
  |none=>simp[hr]at h
  |some q =>
   simp[hr]at h;subst h;obtain⟨c,a,d⟩:=gO hr;refine⟨by simp[c],.inr (by rcases a with a|a<;>simp at a ⊢;omega),fun j=>?_⟩;cases j with
   |zero=>rw[aeD (by omega)];rfl
   |succ j =>
    simp only[ajq];rw[d j];by_cases b:n<=j/\j<n+(y::new).length
    ·rw[aeM b,aeM (by omega)];congr 1;omega
    ·rw[aeD b,aeD (by omega)]
 |x::r,0,y::new,out,h=>by
  simp only[cC]at h;cases hr:cC r 0 new with
  |none=>simp[hr]at h
  |some q =>
   simp[hr]at h;subst h;obtain⟨c,a,d⟩:=gO hr;refine⟨by simp[c],.inr (by rcases a with a|a<;>simp[a]<;>simp at a<;>omega),fun j=>?_⟩;cases j with
   |zero=>rw[aeM (by simp)];rfl
   |succ j =>
    simp only[ajq];rw[d j];by_cases b:0<=j/\j<0+new.length
    ·rw[aeM b,aeM (by simp;omega)];simp
    ·rw[aeD b,aeD (by simp;omega)]
def HR.turn{ρ:aN}{s:S}{w w':World}(h:HR ρ s w){f v:Nat}{l:Ch}(hl:ρ f v=some l){B0:eh}(d:s.get f=some B0)(i:∀ vers,B0≠.ro vers)(hb:YD w w' l.b)(B:eh)(hB:Cb ρ w' f B) :
 HR ρ (s.put f B) w'/\FR ρ w ρ w':=by
 refine⟨⟨fun g u a=>h.fresh g u (by rw[S.next_put]at a;exact a),h.inj,fun g u x c=>by rw[hb.size];exact h.low g u x c,fun g B' a=>?_,fun g B' a=>?_,fun g B' a j u x c=>?_⟩,
  ⟨ρ.le_refl,by rw[hb.size];exact abD _,hb.os,hb.tape,hb.output,fun k hk n=>hb.other k (fun e=>n _ _ _ hl (h.rw f B0 d i _ _ hl) e.symm),fun g u x c _=>⟨g,u,x,c,rfl,id⟩⟩⟩
 ·rw[S.get_put]at a;split at a
  ·rename_i e;cases a;subst e;exact hB
  ·rename_i m;exact(h.blk g B' a).keep ρ.le_refl (fun _ o=>o) (fun u x c=>hb.other _ (fun e=>m (h.inj _ _ _ _ _ _ hl c e.symm).1))
 ·rw[S.get_put]at a;rw[S.next_put];split at a
  ·rename_i e;subst e;exact akD fun hc=>by have:=h.fresh f v hc;rw[hl]at this;cases this
  ·exact h.dom g B' a
 ·rw[S.get_put]at a;split at a
  ·rename_i e;subst e;exact h.rw f B0 d i u x c
  ·exact h.rw g B' a j u x c
def io{ρ:aN}{s s':S}{w:World}(P:Program)(h:HR ρ s w){a:Ad}{new:List V}{ys:List Value}(e:storeCells s a new=some s')(H:bd ρ new=some ys) :
 ∃ ad w',iv ρ a=some ad/\(Go.storeCells ad ys).run P w=.ok () w'/\HR ρ s' w'/\FR ρ w ρ w':=by
 unfold storeCells at e;split at e
 ·rename_i el sb nv vers o;split at e
  ·rename_i u R;cases hb:(Nat.ble u.lo a.c&&new.all V.one)with
   |false=>simp[hb]at e
   |true =>
    simp only[hb,ge]at e;simp only[abA]at hb;have hle:=aeb hb.1;split at e
    ·rename_i cs I;cases e;obtain⟨⟨l,c,el',fz,A,L,M,N,J,K⟩,f,U⟩:=h.ver o R;have B:=A;rw[U]at A;obtain⟨hlen,g,m⟩:=gO I;have hyl:=bS H;have E:∀ y∈ys,y.oneCell'=true:=fun y hy=>by
      obtain⟨i,hi⟩:=akT hy;have F:i<new.length:=by have:=(aez.1 hi).1;omega
      obtain⟨z,W,G⟩:=eM i H (abF F);rw[hi]at G;cases G;exact zH W (aiX.1 hb.2 _ (akg F))
     have hroom:new=[]\/a.c - l.base+0+ys.length<=c.size:=by
      rcases g with h0|g
      ·exact .inl h0
      ·rcases ajx new.length with h0|h0
       ·exact .inl (aka.1 h0)
       ·right;have hlast:(a.c - u.lo)+(new.length - 1)<u.cells.length:=by omega
        obtain⟨y,_,q⟩:=K _ _ (abF hlast);have:=(ajg.1 q).1;omega
     have n:iv ρ a=some ⟨l.b,a.c - l.base,none⟩:=by simp[iv,A];omega
     rcases hroom with h0|hroom
     ·subst h0;have:ys=[]:=by cases H;rfl
      subst this;have hsame:cs=u.cells:=akb fun j=>by rw[m j,aeD (by simp)]
      refine⟨_,w,n,rfl,?_⟩;refine h.turn A o (fun _ h=>by cases h) ⟨rfl,rfl,rfl,rfl,fun _ _=>rfl⟩ _ ⟨(h.blk _ _ o).1,fun X d=>?_⟩;simp at d;subst d;exact⟨((h.blk _ _ o).2 u f).1,l,c,el',fz,B,L,M,N,J,by rw[hsame];exact K⟩
     ·obtain⟨w',Y,Z,g2,g3,O,g5⟩:=CZ P l.b (a.c - l.base) el' fz ys 0 c w L J.2 hroom E;refine⟨_,w',n,Z,h.turn A o (fun _ h=>by cases h) g2 _ ⟨(h.blk _ _ o).1,fun X d=>?_⟩⟩;simp at d;subst d;refine⟨((h.blk _ _ o).2 u f).1,l,Y,el',fz,B,g3,M,by rw[O];exact N,by rw[O];exact J,fun i x t=>?_⟩;simp only at t ⊢;rw[m i]at t;rw[g5];by_cases Q:a.c - u.lo<=i/\i<a.c - u.lo+new.length
      ·rw[aeM Q]at t;rw[aeM (by omega)];obtain⟨y,hy,q⟩:=eM _ H t;exact⟨y,hy,by rw[<- q];congr 1;omega⟩
      ·rw[aeD Q]at t;rw[aeD (by omega)];exact K i x t
    ·cases e
  ·cases e
 ·cases e
instance (n:Nat):OfNat V n:=⟨.atom n⟩
abbrev iV(n:Int):V:=.int .i64 n
abbrev nS:V:=.nilslice
abbrev s0:V:=.str []
abbrev cB(e:TypeId)(l:List V):eh:=.cells e false 1 [⟨0,0,l⟩]
abbrev lf:T eh:=.leaf
abbrev n0(a c:T eh):T eh:=.node a none c
abbrev n1(a:T eh):T eh:=.node a none .leaf
abbrev n2(a:T eh):T eh:=.node .leaf none a
abbrev n3(b:eh):T eh:=.node .leaf (some b) .leaf
abbrev n4(a:T eh)(b:eh)(c:T eh):T eh:=.node a (some b) c
end Go.AI
