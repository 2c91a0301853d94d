/- Lemmas. No conditions. -/
import Derived.Laws.StructEq
import Derived.Laws.IdiomStrings
import Derived.Lib.Bytealg
import Derived.Recover
import Derived.RangeFuncRecord
set_option linter.all false
noncomputable section
namespace Go.AI
def ge:=@cond_true
def Xi:=@cond_false
def abf:=@List.length_singleton
def abg:=@List.length_append
def abh:=@List.length_map
def abj:=@Nat.eq_of_beq_eq_true
def abk:=@Bool.and_eq_true
def abH:=@Nat.le_refl
def abI:=@List.getElem?_eq_getElem
def acf:=@Option.some.injEq
def acl:=@List.mem_cons_of_mem
def act:=@Nat.le_of_ble_eq_true
def acv:=@decide_eq_true
def acw:=@Nat.ble_eq_true_of_le
def acy:=@List.getElem?_eq_some_iff
def acz:=@decide_eq_false
def acW:=@Result.andThen_ok
def ads:=@List.map_cons
def adG:=@Bool.true_and
def adN:=@List.mem_cons_self
def aei:=@List.getElem?_set_ne
def afS:=@List.mem_cons
def afX:=@Sem.run_bind
def afY:=@Nat.zero_add
def afZ:=@List.getElem?_append_left
def aga:=@List.length_cons
def agb:=@Bool.cond_false_right
def agc:=@List.nil_append
def agd:=@List.set_set
def age:=@Bool.not_true
def aiE:=@List.getElem?_map
def aiR:=@List.map_append
def ajo:=@List.cons_append
def ajA:=@List.set_append_right
def ajD:=@if_neg
def ajE:=@beq_eq_false_iff_ne
def ajF:=@Bool.eq_iff_iff
def ajG:=@Nat.beq_refl
def ajH:=@List.append_nil
def ajI:=@Bool.false_and
def ajJ:=@Sem.run_pure
def ajK:=@List.mem_append
def ajL:=@List.append_assoc
def ajM:=@Bool.not_false
def ajN:=@Nat.lt_of_lt_of_le
def ajO:=@step_lone_go
def ajQ:=@List.length_take
def akg:=@Int.lt_irrefl
def akF:=@Array.getElem?_toList
def akG:=@Nat.le_trans
def akI:=@bne_self_eq_false
def akJ:=@if_pos
def akM:=@of_decide_eq_true
def akN:=@Nat.sub_self
def akV:=@List.mem_of_getElem?
def ans:=@List.singleton_append
def anz:=@Nat.lt_irrefl
def anE:=@Int.toNat_natCast
def anH:=@List.getElem?_append_right
def anI:=@Nat.zero_le
def anJ:=@Option.some.inj
def anK:=@List.length_set
def anL:=@congrArg
def anM:=@decide_false
def anN:=@List.all_eq_true
def anP:=@Nat.add_zero
def anQ:=@Bool.and_self
def anR:=@List.length_nil
def anS:=@List.mem_append_right
def anT:=@List.mem_map
def anU:=@List.getElem?_cons_succ
def anV:=@List.eq_nil_of_length_eq_zero
def anW:=@Int.eq_ofNat_of_zero_le
def anX:=@Array.length_toList
def anY:=@Array.getElem?_eq_getElem
def anZ:=@Classical.byContradiction
def aoa:=@List.mem_append_left
def aob:=@List.getElem?_take_of_lt
def aoc:=@Option.isSome_none
def aod:=@List.length_drop
def aoe:=@Bool.not_eq_true'
def aof:=@List.all_cons
def aog:=@List.take_of_length_le
def aoh:=@Option.map_some
def aoi:=@List.drop_zero
def aoj:=@Nat.max_assoc
def aok:=@List.replicate_succ
def aol:=@List.take_succ_cons
def aom:=@List.length_replicate
def aon:=@Nat.max_zero
def aoo:=@Bool.false_eq_true
def aop:=@Bool.false_or
def aoq:=@List.prefix_rfl
def aor:=@Option.getD_some
def aos:=@Bool.and_true
def aot:=@Bool.and_false
def aou:=@List.cons.injEq
def aov:=@List.mem_singleton
def aow:=@Bool.or_eq_false_iff
def aox:=@List.getElem?_cons_zero
def aoy:=@Option.bind_eq_some_iff
def aoz:=@Prod.mk.injEq
def aoA:=@Nat.add_assoc
def aoB:=@List.Mem.tail
def aoC:=@List.ext_getElem?
def aoD:=@List.flatten_cons
def aoE:=@List.map_congr_left
def aoF:=@List.getElem?_eq_none
def aoG:=@Nat.eq_zero_or_pos
def aoH:=@run_loadCells_list
def aoI:=@decide_eq_decide
def aoJ:=@List.map_take
def aoK:=@List.length_eq_zero_iff
def aoL:=@List.mem_filter
def aoM:=@Nat.sub_zero
def aoN:=@Nat.lt_or_ge
def aoO:=@Int.le_refl
def aoP:=@List.getElem_mem
def aoQ:=@Eq.trans
def aoR:=@Array.getElem?_eq_some_iff
def aoS:=@List.map_singleton
def aoT:=@Nat.mul_le_mul_right
def aoU:=@true_and
def aoV:=@List.mem_of_mem_take
def aoW:=@List.map_nil
def aoX:=@Array.getElem?_setIfInBounds_ne
def aoY:=@Nat.add_mul
def aoZ:=@List.getElem?_drop
def apa:=@Nat.pos_of_ne_zero
def apb:=@List.append_of_mem
def apc:=@List.getElem?_take
def apd:=@Option.map_eq_some_iff
def ape:=@List.getElem?_set_self
def apf:=@List.set_cons_zero
def apg:=@and_true
def aph:=@Array.getD_eq_getD_getElem?
def api:=@Array.size_append
def apj:=@Nat.lt_of_succ_le
def apk:=@List.getElem?_of_mem
def apl:=@Int.ofNat_eq_natCast
def apm:=@List.set_append_left
def apn:=@if_true
def apo:=@Nat.zero_mul
def apq:=@List.drop_eq_getElem_cons
def apr:=@List.map_replicate
def aps:=@cond_eq_ite
def apt:=@List.all_nil
def apu:=@Nat.lt_of_not_le
def apv:=@Option.bind_some
def apw:=@beq_self_eq_true
def apx:=@Nat.lt_succ_self
def apy:=@List.mem_nil_iff
def apz:=@Ne.symm
def apA:=@grownCap_ge
def apB:=@List.mem_of_mem_drop
def apC:=@Bool.or_eq_true
def apD:=@List.foldl_cons
def apE:=@Bool.or_true
def apF:=@if_false
def apG:=@beq_iff_eq
def apH:=@Bool.and_assoc
def apI:=@List.drop_drop
end Go.AI
namespace Go.AI
structure Ad where
 f:Nat
 v:Nat
 c:Nat
 deriving Inhabited
inductive V where
 |bool (b:Bool)
 |int (k:IntKind) (n:Int)
 |str (s:List Nat)
 |ptr (a:Ad)
 |nilptr
 |slice (a:Ad) (z:Nat) (len:Nat) (cap:Option Nat) (sz:Nat)
 |nilslice
 |map (r:Nat)
 |nilmap
 |func (fn:Fn) (first captured:List V)
 |nilFunc
 |iface (t:TypeId) (v:V)
 |nilIface
 |agg (cs:List V)
 |tuple (vs:List V)
 |atom (i:Nat)
 deriving Inhabited
def V.undef:V:=.tuple []
def V.ofCell:Value->Option V
 |.bool b=>some (.bool b)
 |.int k n=>some (.int k n)
 |.string s=>some (.str (s.data.toList.map UInt8.toNat))
 |.pointer a=>match a with
  |none=>some .nilptr
  |some _=>none
 |.slice a n c=>match a with
  |none=>bif Nat.beq n 0&&Nat.beq c 0 then some .nilslice else none
  |some _=>none
 |.map a=>match a with
  |none=>some .nilmap
  |some _=>none
 |.nilFunc=>some .nilFunc
 |.nilIface=>some .nilIface
 |.func fn a b=>match fn with
  |.func f=>bif a.toList.isEmpty&&b.toList.isEmpty then some (.func (.func f) [] [])else none
  |_=>none
 |_=>none
def V.ofCells:List Value->Option (List V)
 |[]=>some []
 |x::r=>match V.ofCell x with
  |some v=>match V.ofCells r with
   |some l=>some (v::l)
   |none=>none
  |none=>none
def V.ofConst:Value->Option V
 |.agg cs=>match V.ofCells cs.toList with
  |some l=>some (.agg l)
  |none=>none
 |v=>V.ofCell v
def V.cells:V->List V
 |.agg cs=>cs
 |v=>[v]
inductive II where
 |o
 |l (p:II)
 |r (p:II)
def Ec:Nat->Nat->II
 |0,_=>.o
 |n+1,k=>match k with
  |0=>.o
  |m+1=>bif Nat.beq (Nat.mod m 2) 1 then .r (Ec n (Nat.div m 2))else .l (Ec n (Nat.div m 2))
def fQ(k:Nat):II:=Ec k k
inductive T(α:Type) where
 |leaf
 |node (l:T α) (v:Option α) (r:T α)
 deriving Inhabited
namespace T
variable{α:Type}
def get(t:T α)(p:II):Option α :=
 II.rec (motive:=λ_=>T α->Option α)
  (λt=>T.rec (motive:=λ_=>Option α) none (λ_ v _ _ _=>v) t)
  (λ_ ih t=>T.rec (motive:=λ_=>Option α) none (λl _ _ _ _=>ih l) t)
  (λ_ ih t=>T.rec (motive:=λ_=>Option α) none (λ_ _ r _ _=>ih r) t) p t
def setK{β:Type}(x:Option α)(p:II)(t:T α)(k:T α->β):β :=
 II.rec (motive:=λ_=>T α->(T α->β)->β)
  (λt k=>T.rec (motive:=λ_=>β) (k (.node .leaf x .leaf)) (λl _ r _ _=>k (.node l x r)) t)
  (λ_ ih t k=>T.rec (motive:=λ_=>β) (ih .leaf λt=>k (.node t none .leaf)) (λl v r _ _=>ih l λt=>k (.node t v r)) t)
  (λ_ ih t k=>T.rec (motive:=λ_=>β) (ih .leaf λt=>k (.node .leaf none t)) (λl v r _ _=>ih r λt=>k (.node l v t)) t) p t k
end T
structure om where
 v:Nat
 lo:Nat
 cells:List V
 deriving Inhabited
structure qE where
 key:V
 val:V
 born:Nat
 deriving Inhabited
inductive ef where
 |cells (elem:TypeId) (sb:Bool) (nextv:Nat) (vers:List om)
 |ro (vers:List om)
 |map (es:List qE) (clock:Nat)
 |loop (st:LoopState) (pending:Option Code) (fn:FuncId) (tmps:T V) (params:Array Tmp) (assign body:Code) (dfr:Nat) (nt:Nat)
 |deferred
 |gone
 deriving Inhabited
structure S where
 h:T ef
 next:Nat
 deriving Inhabited
def HI{β:Type}(n:Nat)(k:Nat->β):β:=match n with
 |0=>k 0
 |m+1=>k (m+1)
def Nb{β:Type}(n:Int)(k:Int->β):β:=match n with
 |.ofNat m=>HI m λm=>k (.ofNat m)
 |.negSucc m=>HI m λm=>k (.negSucc m)
def oV(k:IntKind)(n:Int):V:=Nb n λn=>.int k n
def S.get(s:S)(f:Nat):Option ef:=match s with|⟨h,_⟩=>h.get (fQ f)
def S.put(s:S)(f:Nat)(b:ef):S:=match s with|⟨h,n⟩=>h.setK (some b) (fQ f) λh=>⟨h,n⟩
def S.alloc(s:S)(b:ef):S:=match s with|⟨h,n⟩=>h.setK (some b) (fQ n) λh=>HI (n+1) λn=>⟨h,n⟩
def bD(sb:Bool)(s:S)(elem:TypeId)(cs:List V):Ad×S:=(⟨s.next,0,0⟩,s.alloc (.cells elem sb 1 [⟨0,0,cs⟩]))
def bE(s:S)(elem:TypeId)(cs:List V):Ad×S:=bD false s elem cs
def bY:List om->Nat->Option om
 |[],_=>none
 |u::r,v=>bif Nat.beq u.v v then some u else bY r v
def bA:Nat->List V->Option (List V)
 |0,_=>some []
 |n+1,x::r=>(bA n r).map (x::·)
 |_+1,[]=>none
def loadCells(s:S)(a:Ad)(n:Nat):Option (List V) :=
 match s.get a.f with
 |some (.cells _ _ _ vers) =>
  match bY vers a.v with
  |some u=>bif Nat.ble u.lo a.c then bA n (u.cells.drop (a.c - u.lo))else none
  |none=>none
 |some (.ro vers) =>
  match bY vers a.v with
  |some u=>bif Nat.ble u.lo a.c then bA n (u.cells.drop (a.c - u.lo))else none
  |none=>none
 |_=>none
def oY(s:S)(a:Ad):Option V :=
 match s.get a.f with
 |some (.cells _ _ _ vers) =>
  match bY vers a.v with
  |some u=>bif Nat.ble u.lo a.c then u.cells[a.c - u.lo]? else none
  |none=>none
 |some (.ro vers) =>
  match bY vers a.v with
  |some u=>bif Nat.ble u.lo a.c then u.cells[a.c - u.lo]? else none
  |none=>none
 |_=>none
def cI:List V->Nat->List V->Option (List V)
 |cs,_,[]=>some cs
 |x::r,n+1,new=>(cI r n new).map (x::·)
 |_::r,0,y::new=>(cI r 0 new).map (y::·)
 |[],_,_::_=>none
def V.one:V->Bool
 |.agg _=>false
 |.tuple _=>false
 |_=>true
def storeCells(s:S)(a:Ad)(new:List V):Option S :=
 match s.get a.f with
 |some (.cells e sb nv vers) =>
  match bY vers a.v with
  |some u=>bif Nat.ble u.lo a.c&&new.all V.one then
   match cI u.cells (a.c - u.lo) new with
   |some cs=>some (s.put a.f (.cells e sb nv [⟨u.v,u.lo,cs⟩]))
   |none=>none
   else none
  |none=>none
 |_=>none
section types
variable(P:Program)
def size(t:TypeId):Option Nat:=(P.info? t).map (·.size)
def zero(t:TypeId):Option V:=((P.info? t).bind (·.zero)).bind V.ofConst
def rU(t:TypeId):Option Bool:=(P.underlying t).map fun|.struct _=>true|.array _ _=>true|_=>false
def loadVar(s:S)(t:TypeId)(a:Ad):Option V :=
 match rU P t with
 |some true=>(size P t).bind λn=>(loadCells s a n).map .agg
 |some false=>oY s a
 |none=>none
def storeVar(s:S)(t:TypeId)(a:Ad)(v:V):Option S :=
 match size P t with
 |some n=>bif Nat.beq v.cells.length n then storeCells s a v.cells else none
 |none=>none
def wl(t:TypeId)(cs:List V)(off:Nat):Option V :=
 match rU P t with
 |some true=>(size P t).map λn=>.agg ((cs.drop off).take n)
 |some false=>cs[off]?
 |none=>none
end types
def ma:List Nat->List Nat->Option Bool
 |[],[]=>some true
 |a::x,b::y=>bif Nat.beq a b then ma x y else bif Nat.blt a 256&&Nat.blt b 256 then some false else none
 |_,_=>some false
def pL(l:List Nat):List UInt8:=l.map UInt8.ofNat
def dE(j k:IntKind):Bool:=decide (j=k)
def kh(P:Program)(eq:TypeId->V->V->Option Bool):List Field->List V->List V->Option Bool
 |[],_,_=>some true
 |f::r,xs,ys=>bif f.name == "_" then none else
  match wl P f.type xs f.offset,wl P f.type ys f.offset with
  |some a,some b=>match eq f.type a b with
   |some true=>kh P eq r xs ys
   |some false=>some false
   |none=>none
  |_,_=>none
def bX(s:S)(a:Ad):Bool:=match s.get a.f with
 |some (.cells _ sb _ vers)=>!sb&&(bY vers a.v).isSome
 |_=>false
def OY(ok:Ad->Bool)(a b:Ad):Option Bool :=
 bif ok a&&ok b then(bif Nat.beq a.f b.f then(bif Nat.beq a.v b.v then some (Nat.beq a.c b.c)else none)else some false)else none
def du(P:Program)(ok:Ad->Bool):Nat->TypeId->V->V->Option Bool
 |0,_,_,_=>none
 |d+1,t,x,y =>
  match P.underlying t with
  |some (.struct fs) =>
   match x,y with
   |.agg xs,.agg ys=>bif P.stoodInHeld t then none else kh P (du P ok d) fs.toList xs ys
   |_,_=>none
  |some (.interface _) =>
   match x,y with
   |.nilIface,.nilIface=>some true
   |.nilIface,.iface _ _=>some false
   |.iface _ _,.nilIface=>some false
   |.iface tx vx,.iface ty vy=>bif Nat.beq tx ty then(match P.info? tx with|some i=>bif i.comparable then du P ok d tx vx vy else none|none=>none)else some false
   |_,_=>none
  |some .bool=>match x,y with|.bool a,.bool b=>some (a==b)|_,_=>none
  |some (.int _)=>match x,y with|.int j a,.int k b=>bif dE j k then some (a==b)else none|_,_=>none
  |some .string=>match x,y with|.str a,.str b=>ma a b|_,_=>none
  |some (.pointer e)=>match x,y with
   |.nilptr,.nilptr=>some true
   |.nilptr,.ptr _=>some false
   |.ptr _,.nilptr=>some false
   |.ptr a,.ptr b=>match size P e with
    |some n=>bif Nat.beq n 0 then none else OY ok a b
    |none=>none
   |_,_=>none
  |some (.slice _)=>match x,y with
   |.nilslice,.nilslice=>some true
   |.nilslice,.slice ..=>some false
   |.slice ..,.nilslice=>some false
   |_,_=>none
  |some (.map _ _)=>match x,y with
   |.nilmap,.nilmap=>some true
   |.nilmap,.map _=>some false
   |.map _,.nilmap=>some false
   |_,_=>none
  |some (.func _ _ _)=>match x,y with
   |.nilFunc,.nilFunc=>some true
   |.nilFunc,.func ..=>some false
   |.func ..,.nilFunc=>some false
   |_,_=>none
  |_=>none
def FH(op:BinOp)(k:IntKind)(a b:Int):Option V :=
 match op with
 |.add=>some (oV k (k.wrap (a+b)))
 |.sub=>some (oV k (k.wrap (a - b)))
 |.mul=>some (oV k (k.wrap (a*b)))
 |.eql=>some (.bool (a==b))
 |.neq=>some (.bool (a != b))
 |.lss=>some (.bool (decide (a<b)))
 |.leq=>some (.bool (decide (a<=b)))
 |.gtr=>some (.bool (decide (a>b)))
 |.geq=>some (.bool (decide (a>=b)))
 |.quo=>bif b==0 then none else some (.int k (k.wrap (a.tdiv b)))
 |.rem=>bif b==0 then none else some (.int k (a.tmod b))
 |.and=>some (.int k (k.wrap (BitVec.ofInt k.bits a &&& BitVec.ofInt k.bits b).toNat))
 |.or=>some (.int k (k.wrap (BitVec.ofInt k.bits a ||| BitVec.ofInt k.bits b).toNat))
 |.xor=>some (.int k (k.wrap (BitVec.ofInt k.bits a ^^^ BitVec.ofInt k.bits b).toNat))
 |.andNot=>some (.int k (k.wrap (BitVec.ofInt k.bits a &&& ~~~ BitVec.ofInt k.bits b).toNat))
 |_=>none
def At(op:BinOp)(a b:List Nat):Option V :=
 match op with
 |.add=>bif Nat.ble (a.length+b.length) 1000000 then some (.str (a++b))else none
 |.eql=>(ma a b).map .bool
 |.neq=>(ma a b).map λq=>.bool (!q)
 |.lss=>some (.bool (Op.bytesLess (pL a) (pL b)))
 |_=>none
def GO(op:BinOp)(k:IntKind)(a:Int)(b:Int):Option V:=match b with
 |.ofNat n=>match op with
  |.shl=>some (oV k (k.wrap (a*2 ^ (min n k.bits))))
  |.shr=>some (oV k (a.fdiv (2 ^ (min n k.bits))))
  |_=>none
 |_=>none
def qb:BinOp->Bool
 |.shl|.shr=>true
 |_=>false
def fS:Operand->Bool
 |.const _=>true
 |_=>false
def vE:BinOp->Bool
 |.eql|.neq=>true
 |_=>false
def iq(P:Program)(op:BinOp)(t:TypeId)(x y:Operand)(a b:V):Bool :=
 bif vE op then match a,b with
  |.nilIface,.nilIface=>fS x||fS y
  |.agg _,.agg _=>!(P.eqGuardType P.depth t)
  |_,_=>true
 else true
def gx(P:Program)(ok:Ad->Bool)(op:BinOp)(t:TypeId)(x y:V):Option V :=
 match x,y with
 |.int j a,.int k b=>bif qb op then GO op j a b else bif dE j k then FH op j a b else none
 |.str a,.str b=>At op a b
 |_,_ =>
  match op with
  |.eql=>(du P ok 20 t x y).map .bool
  |.neq=>(du P ok 20 t x y).map λb=>.bool (!b)
  |_=>none
def Tn(op:UnOp)(x:V):Option V :=
 match op,x with
 |.not,.bool b=>some (.bool !b)
 |.neg,.int k n=>some (.int k (k.wrap (0 - n)))
 |_,_=>none
def qX(place:Nat->Option (Nat×Nat))(cs:List V):List (Nat×V)->Option (List V)
 |[]=>some cs
 |(i,v)::r =>
  match place i with
  |none=>none
  |some (off,n)=>bif Nat.beq v.cells.length n&&Nat.blt 0 n then(cI cs off v.cells).bind λcs=>qX place cs r else none
def lr(f:Field)(P:Program):Bool:=match size P f.type with|some n=>Nat.beq n 0|none=>true
def qN(v:V):Option Nat:=match v with|.int _ (.ofNat n)=>some n|_=>none
def cV(a:Ad)(n:Nat):Ad:={ a with c:=a.c+n }
def cJ(eq:V->V->Option Bool)(k:V):List qE->Option (Option V)
 |[]=>some none
 |⟨key,val,_⟩::r=>foundKey (eq k key) val (cJ eq k r)
 where foundKey (b:Option Bool) (v:V) (r:Option (Option V)):Option (Option V):=match b with
  |some true=>some (some v)
  |some false=>r
  |none=>none
def dt(eq:V->V->Option Bool)(k x:V):List qE->Option (Option (List qE))
 |[]=>some none
 |⟨key,val,born⟩::r=>setKey (eq k key) ⟨key,val,born⟩ ⟨k,x,born⟩ r (dt eq k x r)
 where setKey (b:Option Bool) (e a:qE) (r:List qE) (u:Option (Option (List qE))):Option (Option (List qE)):=match b with
  |some true=>some (some (a::r))
  |some false=>match u with
   |some (some d)=>some (some (e::d))
   |some none=>some none
   |none=>none
  |none=>none
structure NR where
 v:V
 recovered:Bool
 deriving Inhabited
inductive Md where
 |run
 |returning
 |panicking (c:List NR)
 deriving Inhabited
inductive ft where
 |call (fn:Fn) (captured args:List V)
 |collected (r:Nat)
 deriving Inhabited
inductive End where
 |returned (v:V)
 |panicked (c:List NR)
 deriving Inhabited
def eval(t:T V):Operand->Option V
 |.tmp i=>t.get (fQ i)
 |.const v=>V.ofConst v
 |.global _=>none
 |.func f=>some (.func (.func f) [] [])
def oj{β:Type}(t:T V)(d:Option Tmp)(v:Option V)(k:T V->β):β:=match d with
 |some i=>t.setK v (fQ i) k
 |none=>k t
def cK(ops:Array Oper)(t:T V)(o:Oper):Option Bool :=
 match o.guard with
 |none=>some true
 |some (j,want)=>match(ops[j]?).bind (·.dst)with
  |some d=>match t.get (fQ d)with
   |some (.bool b)=>some (b==want)
   |some (.tuple _)=>some false
   |_=>none
  |none=>none
inductive Nx where
 |val (v:V) (s:S)
 |skip (s:S)
 |enter (f:FuncId) (args:List V) (s:S)
 |round (l:Nat) (args:List V) (s:S)
 |defer (d:ft) (s:S)
 |recover (s:S)
 |panic (v:V) (s:S)
def fg(P:Program)(t:TypeId)(n:Nat):Bool:=match P.info? t with
 |some i=>Nat.ble (i.bytes*n) 100000000000000
 |none=>false
def pM(c:Nat):V:=.int .u8 (.ofNat (Nat.mod c 256))
def BL(s:S)(f c z len sz:Nat)(e:TypeId)(sb:Bool)(nv:Nat)(vers:List om)(cells:List V)(n:Nat):V×S :=
 (.slice ⟨f,nv,c⟩ z (len+n) none sz,s.put f (.cells e sb (nv+1) (⟨nv,c,cells⟩::vers.filter λu=>Nat.ble (u.lo+u.cells.length) (c+len*sz))))
def lu(s:S)(elem:TypeId)(cells:List V)(len sz:Nat):V×S:=match bE s elem cells with
 |(b,s)=>(.slice b 0 len none sz,s)
def HF(s:S)(elem:TypeId)(a:Ad)(z len c sz:Nat)(old new:List V)(n:Nat):Option (V×S) :=
 bif Nat.ble (len+n) c then
  match storeCells s (cV a (len*sz)) new with
  |some s=>some (.slice a z (len+n) (some c) sz,s)
  |none=>none
 else some (lu s elem (old++new) (len+n) sz)
def BK(s:S)(elem:TypeId)(a:Ad)(z len:Nat)(cap:Option Nat)(sz:Nat)(new:List V)(n:Nat):Option (V×S) :=
 match s.get a.f with
 |some (.cells e sb nv vers) =>
  match bY vers a.v with
  |some u =>
   bif Nat.ble u.lo a.c then
    match bA (len*sz) (u.cells.drop (a.c - u.lo))with
    |some old =>
     match cap with
     |some c=>HF s elem a z len c sz old new n
     |none=>bif new.all V.one then some (BL s a.f a.c z len sz e sb nv vers (old++new) n)else none
    |none=>none
   else none
  |none=>none
 |_=>none
def js(s:S)(sz:Nat):V->Option (List V×Nat)
 |.nilslice=>some ([],0)
 |.slice b _ n _ sz'=>bif Nat.beq n 0 then some ([],0)else bif Nat.beq sz' 0 then none else bif Nat.beq sz sz' then(match loadCells s b (n*sz)with|some l=>some (l,n)|none=>none)else none
 |.str l=>bif Nat.beq sz 1 then some (l.map pM,l.length)else none
 |_=>none
def vO(P:Program)(elem:TypeId)(sz:Nat):Bool :=
 match zero P elem with
 |some z=>Nat.beq z.cells.length sz&&Nat.blt 0 sz&&fg P elem 10000000
 |none=>false
def jI:Option Nat->Bool
 |some c=>Nat.beq c 0
 |none=>false
def aG(P:Program)(t:TypeId)(m:Nat):Bool:=match P.info? t with
 |some i=>Nat.ble (i.bytes*(m+Nat.div m 4+600)) 281474976710656&&Nat.ble m 4611686018427387904
 |none=>false
def fY(ok:Nat->Bool)(s:S)(elem:TypeId)(sz:Nat)(x:V):Option (List V×Nat)->Option (V×S)
 |some (l,n) =>
  bif ok n then
   match x with
   |.nilslice=>bif Nat.beq n 0 then some (.nilslice,s)else some (lu s elem l n sz)
   |.slice a z len cap sz'=>bif Nat.beq len 0&&jI cap then(bif Nat.beq n 0 then some (.slice a z len cap sz',s)else some (lu s elem l n sz))else
    bif Nat.beq sz sz'&&ok (len+n)then(bif Nat.beq n 0 then some (.slice a z len cap sz,s)else BK s elem a z len cap sz l n)else none
   |_=>none
  else none
 |none=>none
def Jv(P:Program)(t:TypeId):Bool:=match P.underlying t with
 |some (.int _)=>false
 |some _=>true
 |none=>false
def ut(P:Program)(sT xT:TypeId)(s:S)(x y:V):Option (V×S) :=
 match P.underlying sT with
 |some (.slice elem)=>bif Jv P xT then
  match size P elem with
  |some sz=>bif vO P elem sz then fY (aG P elem) s elem sz x (js s sz y)else none
  |none=>none
  else none
 |_=>none
def mu(P:Program)(t:TypeId)(s:S)(x:V):Option V :=
 match P.underlying t,x with
 |some .string,.str l=>some (oV .i64 l.length)
 |some (.array n _),_=>some (.int .i64 n)
 |some (.slice _),.slice _ _ n _ _=>some (oV .i64 n)
 |some (.slice _),.nilslice=>some (.int .i64 0)
 |some (.map _ _),.nilmap=>some (.int .i64 0)
 |some (.map _ _),.map r=>match s.get r with
  |some (.map es _)=>some (.int .i64 es.length)
  |_=>none
 |_,_=>none
def RP(x y:V):Option V:=match x,y with
 |.int j a,.int k b=>bif dE j k then some (.int j (bif decide (b>a)then b else a))else none
 |_,_=>none
def RN(x y:V):Option V:=match x,y with
 |.int j a,.int k b=>bif dE j k then some (.int j (bif decide (b<a)then b else a))else none
 |_,_=>none
def Ws(f:V->V->Option V):List V->Option V
 |[]=>none
 |x::r=>r.foldlM f x
def jk(c:Nat):List Nat->Nat->Option Nat
 |[],_=>none
 |x::r,i=>bif Nat.beq (Nat.mod x 256) c then some i else jk c r (i+1)
def countByte(c:Nat):List Nat->Nat
 |[]=>0
 |x::r=>bif Nat.beq (Nat.mod x 256) c then countByte c r+1 else countByte c r
inductive NU where
 |indexByte
 |count
structure dX where
 P:Program
 ext:FuncId->Option NU
 orc:FuncId->List V->S->Option (V×S)
def HP(k:NU)(args:List V):Option V :=
 match args with
 |[.str l,.int .u8 (.ofNat c)] =>
  match k with
  |.indexByte=>some (match jk (Nat.mod c 256) l 0 with|some i=>.int .i64 (.ofNat i)|none=>.int .i64 (-1))
  |.count=>some (oV .i64 (.ofNat (countByte (Nat.mod c 256) l)))
 |_=>none
def bS(s:S)(v:Option V):Option Nx:=match v with
 |some v=>some (.val v s)
 |none=>none
def jx(x:Option (V×S)):Option Nx:=match x with
 |some (v,s)=>some (.val v s)
 |none=>none
def QL(E:dX)(f:FuncId)(args:List V)(s:S):Option Nx :=
 match E.P.funcs[f]? with
 |none=>none
 |some fn=>match fn.body with
  |none=>match E.ext f with
   |some k=>bS s (HP k args)
   |none=>none
  |some _=>some (.enter f args s)
def afI(P:Program)(t:TypeId)(x:V):Option V:=match P.underlying t with
 |some (.slice _)=>match x with
  |.nilslice=>some (.int .i64 0)
  |.slice _ _ _ (some c) _=>some (oV .i64 c)
  |_=>none
 |_=>none
def jL(P:Program)(b:Builtin)(ts:Array TypeId)(args:List V)(s:S):Option Nx :=
 match b with
 |.append=>match ts[0]? with
  |some a=>match ts[1]? with
   |some b=>match args with
    |[x,y]=>jx (ut P a b s x y)
    |_=>none
   |none=>none
  |none=>none
 |.len=>match ts[0]? with
  |some a=>match args with
   |[x]=>bS s (mu P a s x)
   |_=>none
  |none=>none
 |.max=>bS s (Ws RP args)
 |.min=>bS s (Ws RN args)
 |.recover=>some (.recover s)
 |.cap=>match ts[0]? with
  |some a=>match args with
   |[x]=>bS s (afI P a x)
   |_=>none
  |none=>none
 |.panic=>match args with
  |[.iface t v]=>some (.panic (.iface t v) s)
  |_=>none
 |_=>none
def fK(o:Option V)(d:Nat):Option Nat:=match o with
 |some v=>qN v
 |none=>some d
def cv(o:Option Nat):Bool:=match o with
 |some n=>Nat.beq n 0
 |none=>false
def dP(P:Program)(t:TypeId)(x:V)(lo hi mx:Option V):Option V :=
 match P.underlying t with
 |some .string=>match x,mx with
  |.str l,none =>
   let h:=fK hi l.length
   let b:=fK lo 0
   match b,h with
   |some b,some h=>bif Nat.ble h l.length&&Nat.ble b h then some (.str ((l.drop b).take (h - b)))else none
   |_,_=>none
  |_,_=>none
 |some (.slice e) =>
  match size P e with
  |some sz =>
   match x with
   |.nilslice =>
    bif mx.isSome&&!hi.isSome then none else
    bif cv (fK lo 0)&&cv (fK hi 0)&&cv (fK mx 0)then some .nilslice else none
   |.slice a z len cap sz' =>
    bif Nat.beq sz' 0||(Nat.beq len 0&&jI cap)then(bif (cv (fK lo 0)&&cv (fK hi 0)&&cv (fK mx 0))&&!(mx.isSome&&!hi.isSome)then some (.slice a z len cap sz')else none)else
    bif Nat.beq sz sz'&&!(mx.isSome&&!hi.isSome)then
    let h:=fK hi len
    let b:=fK lo 0
    match b,h with
    |some b,some h =>
     match mx with
     |none =>
      match cap with
      |some c=>bif Nat.ble h c&&Nat.ble b h then
       (bif Nat.beq c b then some (.slice a 0 (h - b) (some 0) sz)else some (.slice (cV a (b*sz)) 0 (h - b) (some (c - b)) sz))else none
      |none=>bif Nat.ble h len&&Nat.ble b h then
       (bif Nat.beq b 0 then some (.slice a z h none sz)else some (.slice (cV a (b*sz)) a.c (h - b) none sz))else none
     |some m=>match qN m with
      |some m =>
       bif Nat.ble m len&&Nat.ble h m&&Nat.ble b h then
        (bif Nat.beq m b then(bif cap.isSome||Nat.blt 0 len||Nat.beq z a.c then some (.slice a 0 (h - b) (some 0) sz)else none)else some (.slice (cV a (b*sz)) 0 (h - b) (some (m - b)) sz))
       else none
      |none=>none
    |_,_=>none
    else none
   |_=>none
  |none=>none
 |_=>none
def mH:List V->Option (List Nat)
 |[]=>some []
 |.int .u8 (.ofNat n)::r=>(mH r).map (n::·)
 |_=>none
def io(P:Program)(el:TypeId):Bool:=match P.underlying el with
 |some (.int .u8)=>true
 |_=>false
def EM(P:Program)(s:S)(ds:TypeDesc)(x:V):Option (V×S):=match x with
 |.int _ n=>some (.str ((Utf8.encode n).data.toList.map UInt8.toNat),s)
 |.str l=>some (.str l,s)
 |.nilslice=>match ds with
  |.slice el=>bif io P el then some (.str [],s)else none
  |_=>none
 |.slice a _ n _ sz=>match ds with
  |.slice el=>bif io P el then(bif Nat.beq sz 0 then none else match(loadCells s a n).bind mH with|some l=>some (.str l,s)|none=>none)else none
  |_=>none
 |_=>none
def pQ(P:Program)(s:S)(ds:TypeDesc)(el:TypeId)(x:V):Option (V×S):=match x with
 |.str l=>match ds with
  |.string=>bif io P el then(match bD true s el (l.map pM)with|(a,s)=>some (.slice a 0 l.length none 1,s))else none
  |_=>none
 |_=>none
def kM(P:Program)(s:S)(a dst:TypeId)(x:V):Option (V×S) :=
 match P.underlying a with
 |some ds=>match P.underlying dst with
  |some (.int k)=>match x with
   |.int _ n=>some (oV k (k.wrap n),s)
   |_=>none
  |some .string=>EM P s ds x
  |some (.slice el)=>pQ P s ds el x
  |_=>none
 |none=>none
def Mm(s:Option S):Option Nx:=match s with
 |some s=>some (.skip s)
 |none=>none
def qM(x:Ad×S):Option Nx:=match x with
 |(a,s)=>some (.val (.ptr a) s)
def iI(t:T V):List Operand->Option (List V)
 |[]=>some []
 |x::r=>match eval t x with
  |some v=>match iI t r with
   |some l=>some (v::l)
   |none=>none
  |none=>none
def eP(t:T V):List (Nat×Operand)->Option (List (Nat×V))
 |[]=>some []
 |(i,x)::r=>match eval t x with
  |some v=>match eP t r with
   |some l=>some ((i,v)::l)
   |none=>none
  |none=>none
def mA(t:T V):Option Operand->Option (Option V)
 |none=>some none
 |some x=>match eval t x with
  |some v=>some (some v)
  |none=>none
def nI(t:T V)(s:S)(c a b:Operand):Option Nx:=match eval t c with
 |some (.bool q)=>bS s (eval t (bif q then a else b))
 |_=>none
def jU(P:Program)(s:S)(elem:TypeId):Option Nx:=match zero P elem with
 |some z=>qM (bE s elem z.cells)
 |none=>none
def uk(s:S)(elem:TypeId)(x:Option V):Option Nx:=match x with
 |some z=>qM (bE s elem z.cells)
 |none=>none
def pu(P:Program)(fs:Array Field)(i:Nat):Option (Nat×Nat):=match fs[i]? with
 |some f=>match size P f.type with
  |some n=>some (f.offset,n)
  |none=>none
 |none=>none
def Ll(x:Option (List V)):Option V:=match x with
 |some l=>some (.agg l)
 |none=>none
def qi(P:Program)(ty:TypeId)(l:Option (List (Nat×V))):Option V :=
 match zero P ty with
 |some z=>match l with
  |some l=>match P.underlying ty with
   |some (.struct fs)=>bif fs.toList.all (λf=>(size P f.type).isSome)then Ll (qX (pu P fs) z.cells l)else none
   |some (.array _ el)=>match size P el with
    |some n=>Ll (qX (λi=>some (i*n,n)) z.cells l)
    |none=>none
   |_=>none
  |none=>none
 |none=>none
def me(el:TypeId)(len n:Nat)(s:S)(cs:Option (List V)):Option Nx:=match cs with
 |some cs=>match bE s el cs with
  |(a,s)=>some (.val (.slice a 0 len (some len) n) s)
 |none=>none
def cP(P:Program)(s:S)(ty:TypeId)(len:Nat)(l:Option (List (Nat×V))):Option Nx :=
 match P.underlying ty with
 |some (.slice el)=>match l with
  |some l=>match zero P el with
   |some z=>match size P el with
    |some n=>bif Nat.ble (len*n) 10000&&!(Nat.beq n 0)&&Nat.beq z.cells.length n then me el len n s (qX (λi=>some (i*n,n)) (List.replicate len z.cells).flatten l)else none
    |none=>none
   |none=>none
  |none=>none
 |_=>none
def jC(P:Program)(s:S)(ty:TypeId)(x:Option V):Option Nx:=match x with
 |some (.ptr a)=>bS s (loadVar P s ty a)
 |_=>none
def uf(P:Program)(s:S)(ty:TypeId)(x y:Option V):Option Nx:=match x with
 |some (.ptr a)=>match y with
  |some v=>Mm (storeVar P s ty a v)
  |none=>none
 |_=>none
def nJ(x:Option V):Option V:=match x with
 |some (.ptr a)=>some (.ptr a)
 |some (.func fn fi ca)=>match fn with
  |.func f=>some (.func (.func f) fi ca)
  |.yield f=>some (.func (.yield f) fi ca)
  |_=>none
 |_=>none
def gC(P:Program)(s:S)(op:BinOp)(ty:TypeId)(ox oy:Operand)(x y:Option V):Option V:=match x with
 |some a=>match y with
  |some b=>bif iq P op ty ox oy a b then gx P (bX s) op ty a b else none
  |none=>none
 |none=>none
def afn(op:UnOp)(x:Option V):Option V:=match x with
 |some a=>Tn op a
 |none=>none
def iz(P:Program)(s:S)(b dst:TypeId)(x:Option V):Option Nx:=match x with
 |some a=>jx (kM P s b dst a)
 |none=>none
def qe(P:Program)(ty:TypeId)(x:Option V):Option V:=match P.underlying ty with
 |some (.interface _)=>none
 |some _=>match x with
  |some v=>some (.iface ty v)
  |none=>none
 |none=>none
def Ht(fn:Fn)(a b:Option (List V)):Option V:=match a with
 |some a=>match b with
  |some b=>some (.func fn a b)
  |none=>none
 |none=>none
def uh(fn:Fn)(a b:Option (List V)):Option V:=match fn with
 |.yield _=>none
 |fn=>Ht fn a b
def eR(P:Program)(s:S)(ty:TypeId)(l c:Option Nat):Option Nx:=match P.underlying ty with
 |some (.slice el)=>match l with
  |some l=>match c with
   |some c=>match zero P el with
    |some z=>match size P el with
     |some n=>bif Nat.ble l c&&Nat.ble c 2199023255552&&!(Nat.beq n 0)&&Nat.beq z.cells.length n&&fg P el c then
      match bE s el (List.replicate c z.cells).flatten with
      |(a,s)=>some (.val (.slice a 0 l (some c) n) s)
      else none
     |none=>none
    |none=>none
   |none=>none
  |none=>none
 |_=>none
def eA(x:Option V):Option Nat:=match x with
 |some v=>qN v
 |none=>none
def zS(P:Program)(ty:TypeId)(x:Option V)(lo hi mx:Option (Option V)):Option V:=match x with
 |some x=>match lo with
  |some lo=>match hi with
   |some hi=>match mx with
    |some mx=>dP P ty x lo hi mx
    |none=>none
   |none=>none
  |none=>none
 |none=>none
def jo(P:Program)(ty:TypeId)(x:Option V)(f:Nat):Option V:=match P.underlying ty with
 |some (.struct fs)=>match x with
  |some (.ptr a)=>match fs[f]? with
   |some b=>bif lr b P then none else some (.ptr (cV a b.offset))
   |none=>none
  |_=>none
 |_=>none
def uj(P:Program)(ty:TypeId)(x:Option V)(f:Nat):Option V:=match P.underlying ty with
 |some (.struct fs)=>match x with
  |some (.agg cs)=>match fs[f]? with
   |some a=>wl P a.type cs a.offset
   |none=>none
  |_=>none
 |_=>none
def gU(P:Program)(ty:TypeId)(x:Option V)(i:Option Nat):Option V:=match i with
 |some i=>match P.underlying ty with
  |some (.slice el)=>match x with
   |some (.slice a _ len _ sz)=>match size P el with
    |some n=>bif Nat.beq n sz&&Nat.blt i len then some (.ptr (cV a (i*n)))else none
    |none=>none
   |_=>none
  |some (.array len el)=>match x with
   |some (.ptr a)=>match size P el with
    |some n=>bif Nat.blt i len then some (.ptr (cV a (i*n)))else none
    |none=>none
   |_=>none
  |_=>none
 |none=>none
def qf(P:Program)(ty:TypeId)(x:Option V)(i:Option Nat):Option V:=match i with
 |some i=>match P.underlying ty with
  |some .string=>match x with
   |some (.str l)=>match l[i]? with
    |some c=>some (pM c)
    |none=>none
   |_=>none
  |some (.array len el)=>match x with
   |some (.agg cs)=>match size P el with
    |some n=>bif Nat.blt i len then wl P el cs (i*n)else none
    |none=>none
   |_=>none
  |_=>none
 |none=>none
def CS(s:S)(m:V):Option (List qE):=match m with
 |.nilmap=>some []
 |.map r=>match s.get r with
  |some (.map es _)=>some es
  |_=>none
 |_=>none
def Qd(P:Program)(el:TypeId)(ok:Bool)(x:Option (Option V)):Option V:=match x with
 |some (some v)=>some (bif ok then .tuple [v,.bool true] else v)
 |some none=>match zero P el with
  |some z=>some (bif ok then .tuple [z,.bool false] else z)
  |none=>none
 |none=>none
def eI(P:Program)(t:TypeId):Bool:=match P.underlying t with
 |some (.int _)=>true
 |some .string=>true
 |some .bool=>true
 |some (.pointer _)=>true
 |_=>false
def kJ(P:Program)(s:S)(ty:TypeId)(m k:Option V)(ok:Bool):Option V:=match P.underlying ty with
 |some (.map kt el)=>match m with
  |some m=>match k with
   |some k=>match CS s m with
    |some es=>bif eI P kt then Qd P el ok (cJ (du P (bX s) 20 kt) k es)else none
    |none=>none
   |none=>none
  |none=>none
 |_=>none
def zo(s:S)(r:Nat)(k x:V)(es:List qE)(clock:Nat)(u:Option (Option (List qE))):Option Nx:=match u with
 |some (some es)=>some (.skip (s.put r (.map es clock)))
 |some none=>some (.skip (s.put r (.map (es++[⟨k,x,clock⟩]) (clock+1))))
 |none=>none
def fV(P:Program)(s:S)(ty:TypeId)(m k x:Option V):Option Nx:=match m with
 |some (.map r)=>match k with
  |some k=>match x with
   |some x=>match P.underlying ty with
    |some (.map kt _)=>match s.get r with
     |some (.map es clock)=>bif eI P kt then zo s r k x es clock (dt (du P (bX s) 20 kt) k x es)else none
     |_=>none
    |_=>none
   |none=>none
  |none=>none
 |_=>none
def fU(P:Program)(ty:TypeId)(ok:Bool):Option V:=bif ok then match zero P ty with
 |some z=>some (.tuple [z,.bool false])
 |none=>none
 else none
def mD(P:Program)(x:Option V)(ty:TypeId)(ok:Bool):Option V:=match P.underlying ty with
 |some (.interface _)=>none
 |some _=>match x with
  |some .nilIface=>fU P ty ok
  |some (.iface t v)=>bif Nat.beq t ty then some (bif ok then .tuple [v,.bool true] else v)else fU P ty ok
  |_=>none
 |none=>none
def qh(x:Option V)(i:Nat):Option V:=match x with
 |some (.tuple vs)=>vs[i]?
 |_=>none
def QK(E:dX)(s:S)(args:List V)(f:Option V):Option Nx:=match f with
 |some (.func fn first cap)=>match fn with
  |.func g=>QL E g (first++(args++cap)) s
  |.yield l=>some (.round l (first++args) s)
  |_=>none
 |_=>none
def iU(E:dX)(t:T V)(s:S)(ts:Array TypeId)(args:Option (List V))(c:Callee):Option Nx:=match args with
 |some args=>match c with
  |.builtin b=>jL E.P b ts args s
  |.value f=>QK E s args (eval t f)
  |.invoke _ _=>none
 |none=>none
def Id(s:S)(args:List V)(f:Option V):Option Nx:=match f with
 |some (.func fn first cap)=>some (.defer (.call fn cap (first++args)) s)
 |_=>none
def qj(t:T V)(s:S)(args:Option (List V))(c:Callee):Option Nx:=match args with
 |some args=>match c with
  |.value f=>Id s args (eval t f)
  |_=>none
 |none=>none
def zT(s:S)(x:Option V):Option Nx:=match x with
 |some (.iface t v)=>some (.panic (.iface t v) s)
 |_=>none
def dF:Op->dX->T V->S->Option Nx
 |.move x,_,t,s=>bS s (eval t x)
 |.assign x,_,t,s=>bS s (eval t x)
 |.pick c a b,_,t,s=>nI t s c a b
 |.alloc elem,E,_,s=>jU E.P s elem
 |.box elem x,_,t,s=>uk s elem (eval t x)
 |.build ty parts,E,t,s=>bS s (qi E.P ty (eP t parts.toList))
 |.buildSlice ty len parts,E,t,s=>cP E.P s ty len (eP t parts.toList)
 |.load ty x,E,t,s=>jC E.P s ty (eval t x)
 |.store ty x y,E,t,s=>uf E.P s ty (eval t x) (eval t y)
 |.nilCheck x,_,t,s=>bS s (nJ (eval t x))
 |.binOp op ty x y _,E,t,s=>bS s (gC E.P s op ty x y (eval t x) (eval t y))
 |.unOp op _ x,_,t,s=>bS s (afn op (eval t x))
 |.convert d dst x,E,t,s=>iz E.P s d dst (eval t x)
 |.makeInterface ty x,E,t,s=>bS s (qe E.P ty (eval t x))
 |.makeFunc fn first cap,_,t,s=>bS s (uh fn (iI t first.toList) (iI t cap.toList))
 |.makeMap _ none,_,_,s=>some (.val (.map s.next) (s.alloc (.map [] 0)))
 |.makeSlice ty l c,E,t,s=>eR E.P s ty (eA (eval t l)) (eA (eval t c))
 |.slice ty x lo hi mx,E,t,s=>bS s (zS E.P ty (eval t x) (mA t lo) (mA t hi) (mA t mx))
 |.fieldAddr ty x f,E,t,s=>bS s (jo E.P ty (eval t x) f)
 |.field ty x f,E,t,s=>bS s (uj E.P ty (eval t x) f)
 |.indexAddr ty x i,E,t,s=>bS s (gU E.P ty (eval t x) (eA (eval t i)))
 |.index ty x i,E,t,s=>bS s (qf E.P ty (eval t x) (eA (eval t i)))
 |.lookup ty x k ok,E,t,s=>bS s (kJ E.P s ty (eval t x) (eval t k) ok)
 |.mapUpdate ty m k x,E,t,s=>fV E.P s ty (eval t m) (eval t k) (eval t x)
 |.insert ty m k x,E,t,s=>fV E.P s ty (eval t m) (eval t k) (eval t x)
 |.typeAssert x _ ty ok,E,t,s=>bS s (mD E.P (eval t x) ty ok)
 |.extract x i,_,t,s=>bS s (qh (eval t x) i)
 |.call c,E,t,s=>iU E t s c.argTypes (iI t c.args.toList) c.callee
 |.defer c,_,t,s=>qj t s (iI t c.args.toList) c.callee
 |.panic x,_,t,s=>zT s (eval t x)
 |_,_,_,_=>none
def ep(E:dX)(t:T V)(s:S)(o:Oper):Option Nx:=dF o.op E t s
def pS(P:Program)(t:T V)(s:S):ResultVar->Option V
 |.tmp i=>t.get (fQ i)
 |.cell a ty=>match t.get (fQ a)with
  |some (.ptr a)=>loadVar P s ty a
  |_=>none
def kY(P:Program)(t:T V)(s:S):List ResultVar->Option (List V)
 |[]=>some []
 |x::r=>match pS P t s x with
  |some v=>match kY P t s r with
   |some l=>some (v::l)
   |none=>none
  |none=>none
def Bb:List V->V
 |[v]=>v
 |vs=>.tuple vs
def sX(P:Program)(fn:Func)(t:T V)(s:S):Option V:=match kY P t s fn.results.toList with
 |some l=>some (Bb l)
 |none=>none
def jO:Md->Md
 |.panicking (⟨_,true⟩::_)=>.returning
 |m=>m
def tf(m:Md)(c:List NR):Md:=match m with
 |.panicking old=>.panicking (c++old)
 |_=>.panicking c
def ls{β:Type}:List V->Nat->T V->(T V->β)->β
 |[],_,t,k=>k t
 |x::r,i,t,k=>t.setK (some x) (fQ i) λt=>ls r (i+1) t k
structure fM where
 e:End
 up:Option Md
 s:S
abbrev Go:=T V->List Item->List ft->Md->Option Md->Option Nat->S->Option fM
def nj(go:Go)(t:T V)(ds:List ft)(up:Option Md)(rd:Option Nat)(s:S)(jump:Option Code):Option fM :=
 match rd with
 |none=>match jump with
  |none=>go t [] ds .returning up rd s
  |some .ret=>go t [] ds .returning up rd s
  |_=>none
 |some l=>match s.get l with
  |some (.loop _ _ f t ps a b d nt) =>some ⟨.returned (.bool jump.isNone),up,s.put l (.loop (bif jump.isNone then .ready else .done) jump f t ps a b d nt)⟩
  |_=>none
def cR{β:Type}:T V->List Tmp->List V->(T V->β)->β
 |t,p::ps,x::xs,k=>t.setK (some x) (fQ p) λt=>cR t ps xs k
 |t,_,_,k=>k t
inductive ol where
 |on (t:T V) (ds:List ft) (up:Option Md) (s:S)
 |panicked (c:List NR) (t:T V) (ds:List ft) (up:Option Md) (s:S)
abbrev kV:=FuncId->List V->Option Md->S->Option fM
abbrev EB:=Nat->List V->S->Option fM
abbrev RK:=T V->List ft->Option Md->S->Option ol
def gg(d:Option Tmp)(t:T V)(ds:List ft)(up:Option Md)(k:RK):Option fM->Option ol
 |some ⟨.returned v,_,s⟩=>oj t d (some v) λt=>k t ds up s
 |some ⟨.panicked c,_,s⟩=>some (.panicked c t ds up s)
 |none=>none
def recovered(d:Option Tmp)(t:T V)(ds:List ft)(s:S)(k:RK):Option Md->Option ol
 |some (.panicking (⟨v,false⟩::older))=>oj t d (some v) λt=>k t ds (some (.panicking (⟨v,true⟩::older))) s
 |some m=>oj t d (some .nilIface) λt=>k t ds (some m) s
 |none=>none
def ez(rec:kV)(recR:EB)(rd:Option Nat)(d:Option Tmp)(t:T V)(ds:List ft)(up:Option Md)(k:RK):Option Nx->Option ol
 |some (.val v s)=>oj t d (some v) λt=>k t ds up s
 |some (.skip s)=>oj t d (some V.undef) λt=>k t ds up s
 |some (.enter f args s)=>gg d t ds up k (rec f args none s)
 |some (.round l args s)=>gg d t ds up k (recR l args s)
 |some (.defer df s)=>bif rd.isSome then none else oj t d (some V.undef) λt=>k t (df::ds) up s
 |some (.recover s)=>recovered d t ds s k up
 |some (.panic v s)=>some (.panicked [⟨v,false⟩] t ds up s)
 |none=>none
def rF(E:dX)(rec:kV)(recR:EB)(rd:Option Nat)(o:Oper)(t:T V)(ds:List ft)(up:Option Md)(s:S)(k:RK):Option Bool->Option ol
 |some true=>ez rec recR rd o.dst t ds up k (ep E t s o)
 |some false=>oj t o.dst (some V.undef) λt=>k t ds up s
 |none=>none
def rB(E:dX)(ops:Array Oper)(rec:kV)(recR:EB)(rd:Option Nat):List Oper->RK
 |[]=>λt ds up s=>some (.on t ds up s)
 |o::r=>λt ds up s=>rF E rec recR rd o t ds up s (rB E ops rec recR rd r) (cK ops t o)
def aT(P:Program):Op->Nat
 |.load ..|.lookup ..=>1
 |.binOp op ..=>bif vE op then 1 else 0
 |.alloc _|.box ..|.buildSlice ..|.makeMap ..|.makeSlice ..=>2
 |.convert _ dst _=>match P.underlying dst with
  |some (.slice _)=>2
  |some .string=>1
  |_=>0
 |.move _|.assign _|.pick ..|.build ..|.nilCheck _|.unOp ..|.makeInterface ..|.makeFunc ..|.slice ..|.fieldAddr ..|.field ..|.indexAddr ..|.index ..|.typeAssert ..|.extract ..=>0
 |.call c=>match c.callee with
  |.builtin .len|.builtin .cap|.builtin .max|.builtin .min=>1
  |_=>3
 |_=>3
def rL(o:Oper)(acc:List Nat):Nat :=
 o.after.toList.foldl (λs e=>bif Region.binds .any e then Nat.lor s (Nat.lor (Nat.pow 2 e.on) (acc.getD e.on 0))else s) 0
def lm:List Oper->List Nat->List Nat
 |[],acc=>acc
 |o::r,acc=>lm r (acc++[rL o acc])
def sees(o:Oper):List Tmp:=o.op.operands.toList.filterMap fun|.tmp t=>some t|_=>none
def Nw(ms:List Nat)(l:List (Nat×Oper)):Bool :=
 l.all fun(i,o) =>
  (o.after.toList.all λe=>!(Region.binds .any e)||Nat.blt e.on i) &&
  (match o.guard with|some (g,_)=>(ms.getD i 0).testBit g|none=>true) &&
  l.all fun(j,q)=>Nat.beq i j||match q.dst with
   |none=>true
   |some d=>!(o.dst==some d)&&(!((sees o).contains d)||(ms.getD i 0).testBit j||(ms.getD j 0).testBit i)
def Gd(ms:List Nat):List Nat->Bool
 |a::b::r=>(ms.getD b 0).testBit a&&Gd ms (b::r)
 |_=>true
def ue(P:Program)(l:List (Nat×Oper)):List (Nat×Oper):=l.filter fun(_,o)=>Nat.beq (aT P o.op) 3
def bw:List V->List V->Bool
 |[],[]=>true
 |x::r,y::q=>sameV x y&&bw r q
 |_,_=>false
 where sameV:V->V->Bool
  |.bool a,.bool b=>a==b
  |.int j a,.int k b=>j==k&&a==b
  |.str a,.str b=>a==b
  |.ptr a,.ptr b=>Nat.beq a.f b.f&&Nat.beq a.v b.v&&Nat.beq a.c b.c
  |.nilptr,.nilptr=>true
  |.slice a z n c sz,.slice b y m d sy=>Nat.beq a.f b.f&&Nat.beq a.v b.v&&Nat.beq a.c b.c&&Nat.beq z y&&Nat.beq n m&&c==d&&Nat.beq sz sy
  |.nilslice,.nilslice=>true
  |.map a,.map b=>Nat.beq a b
  |.nilmap,.nilmap=>true
  |.nilFunc,.nilFunc=>true
  |.nilIface,.nilIface=>true
  |.func f a b,.func g c d=>decide (f=g)&&bw a c&&bw b d
  |.iface t v,.iface u w=>Nat.beq t u&&sameV v w
  |.agg a,.agg b=>bw a b
  |.tuple a,.tuple b=>bw a b
  |.atom a,.atom b=>Nat.beq a b
  |_,_=>false
def ii(E:dX)(t:T V)(o:Oper):List S->Option V
 |[]=>none
 |[s]=>match ep E t s o with
  |some (.val v _)=>some v
  |_=>none
 |s::r=>match ep E t s o with
  |some (.val v _)=>match ii E t o r with
   |some w=>bif bw [v] [w] then some v else none
   |none=>none
  |_=>none
def pi(m:Nat):List (Nat×S)->List S
 |[]=>[]
 |(e,s)::r=>s::(bif m.testBit e then [] else pi m r)
def zj(s:S):Option Nx->Option (V×S)
 |some (.val v _)=>some (v,s)
 |_=>none
def zl:Option Nx->Option (V×S)
 |some (.val v s)=>some (v,s)
 |_=>none
def sZ(s:S):Option V->Option (V×S)
 |some v=>some (v,s)
 |none=>none
def HK(E:dX)(a:List (Nat×S))(m:Nat)(t:T V)(s:S)(o:Oper):Nat->Option (V×S)
 |0=>zj s (ep E t s o)
 |1=>sZ s (ii E t o (pi m a))
 |2=>zl (ep E t s o)
 |_=>none
def kg(E:dX)(a:List (Nat×S))(m:Nat)(t:T V)(s:S)(o:Oper):Option Bool->Option (V×S)
 |some true=>HK E a m t s o (aT E.P o.op)
 |some false=>some (V.undef,s)
 |none=>none
def ei(E:dX)(ops:Array Oper)(ms:List Nat)(effs:Nat)(a:List (Nat×S))(m:Nat):List (Nat×Oper)->Nat->T V->S->Option (Nat×T V×S)
 |[],done,t,s=>some (done,t,s)
 |(i,o)::r,done,t,s =>
  bif !(m.testBit i)||done.testBit i then ei E ops ms effs a m r done t s
  else bif effs.testBit i then none
  else match kg E a (ms.getD i 0) t s o (cK ops t o)with
   |some (v,s)=>oj t o.dst (some v) λt=>ei E ops ms effs a m r (Nat.lor done (Nat.pow 2 i)) t s
   |none=>none
def HW:Option fM->Option (V×S)
 |some ⟨.returned v,_,s⟩=>some (v,s)
 |_=>none
def yx(rec:kV):Option Nx->Option (V×S)
 |some (.val v s)=>some (v,s)
 |some (.skip s)=>some (V.undef,s)
 |some (.enter f args s)=>HW (rec f args none s)
 |_=>none
def jf(E:dX)(rec:kV)(t:T V)(s:S)(o:Oper):Option Bool->Option (V×S)
 |some true=>yx rec (ep E t s o)
 |some false=>some (V.undef,s)
 |none=>none
def ig(E:dX)(ops:Array Oper)(ms:List Nat)(effs:Nat)(all:List (Nat×Oper))(rec:kV)(ds:List ft)(up:Option Md) :
 List (Nat×Oper)->List (Nat×S)->Nat->T V->S->Option ol
 |[],a,done,t,s =>
  match ei E ops ms effs a (Nat.pow 2 ops.size - 1) all done t s with
  |some (_,t,s)=>some (.on t ds up s)
  |none=>none
 |(i,o)::r,a,done,t,s =>
  match ei E ops ms effs a (ms.getD i 0) all done t s with
  |some (done,t,s) =>
   match jf E rec t s o (cK ops t o)with
   |some (v,s')=>bif Nat.ble s.next s'.next&&!(done.testBit i)&&effs.testBit i then oj t o.dst (some v) λt=>ig E ops ms effs all rec ds up r ((i,s')::a) (Nat.lor done (Nat.pow 2 i)) t s' else none
   |none=>none
  |none=>none
def gw:List Oper->Nat->List (Nat×Oper)
 |[],_=>[]
 |o::r,i=>(i,o)::gw r (i+1)
structure ajx where
 ms:List Nat
 all:List (Nat×Oper)
 effs:List (Nat×Oper)
 mask:Nat
def UL(P:Program)(ops:Array Oper):Option ajx :=
 let l:=gw ops.toList 0
 let ms:=lm ops.toList []
 let es:=ue P l
 bif Nw ms l&&Gd ms (es.map (·.1))then some ⟨ms,l,es,es.foldl (λs x=>Nat.lor s (Nat.pow 2 x.1)) 0⟩else none
def jh(E:dX)(ops:Array Oper)(rec:kV)(_recR:EB)(t:T V)(ds:List ft)(up:Option Md)(s:S):Option ol :=
 match UL E.P ops with
 |some ⟨ms,l,es,mask⟩=>ig E ops ms mask l rec ds up es [(ops.size,s)] 0 t s
 |none=>none
abbrev acu:=dX->FuncId->Func->Go->kV->EB->List Item->T V->List ft->Option Md->Option Nat->S->Option fM
def Ij(go:Go)(k:List Item)(t:T V)(ds:List ft)(up:Option Md)(rd:Option Nat)(s:S)(a b:Code):Option V->Option fM
 |some (.bool q)=>go t (.code (bif q then a else b)::k) ds .run up rd s
 |_=>none
def rS(go:Go)(t:T V)(ds:List ft)(up:Option Md)(rd:Option Nat)(s:S)(c:Code):Option (List Item)->Option fM
 |some k=>go t k ds .run up rd s
 |none=>nj go t ds up rd s (some c)
def ji(go:Go)(k:List Item)(rd:Option Nat):Option ol->Option fM
 |some (.on t ds up s)=>go t k ds .run up rd s
 |some (.panicked c t ds up s)=>go t k ds (.panicking c) up rd s
 |none=>none
def tG(go:Go)(k:List Item)(t:T V)(ds:List ft)(up:Option Md)(rd:Option Nat)(d l:Nat)(s:S):Option ef->Option fM
 |some (.loop st pend f' t' ps' a b e nt)=>match st with
  |.busy=>none
  |_=>go t ((pend.map Item.code).toList++k) (.collected d::ds) .run up rd (s.put l (.loop .exhausted pend f' t' ps' a b e nt))
 |_=>none
def kZ(go:Go)(k:List Item)(t:T V)(ds:List ft)(up:Option Md)(rd:Option Nat)(d l:Nat):Option fM->Option fM
 |some ⟨.returned _,_,s⟩=>tG go k t ds up rd d l s (s.get l)
 |some ⟨.panicked c,_,s⟩=>go t k (.collected d::ds) (.panicking c) up rd s
 |none=>none
def gQ(f:FuncId)(nt:Nat)(go:Go)(rec:kV)(k:List Item)(t:T V)(ds:List ft)(up:Option Md)(rd:Option Nat)(s:S)
 (ps:Array Tmp) (assign body:Code):Option V->Option fM
 |some (.func fn first cap)=>match fn with
  |.func g=>match rd with
   |none =>
    let d:=s.next
    let s:=s.alloc .deferred
    let l:=s.next
    kZ go k t ds up rd d l (rec g (first++([.func (.yield l) [] []]++cap)) none (s.alloc (.loop .ready none f t ps assign body d nt)))
   |some _=>none
  |_=>none
 |_=>none
def ob(ops:Array Oper)(n:Nat):Bool:=ops.toList.all λo=>match o.dst with
 |some d=>Nat.blt d n
 |none=>true
def dq:Code->acu
 |.ret=>λ_ _ _ go _ _ _ t ds up rd s=>nj go t ds up rd s (some .ret)
 |.skip=>λ_ _ _ go _ _ k t ds up rd s=>go t k ds .run up rd s
 |.label _=>λ_ _ _ go _ _ k t ds up rd s=>go t k ds .run up rd s
 |.seq a b=>λ_ _ _ go _ _ k t ds up rd s=>go t (.code a::.code b::k) ds .run up rd s
 |.cond c a b=>λ_ _ _ go _ _ k t ds up rd s=>Ij go k t ds up rd s a b (eval t c)
 |.block id c=>λ_ _ _ go _ _ k t ds up rd s=>go t (.code c::.inBlock id::k) ds .run up rd s
 |.loop c=>λ_ _ _ go _ _ k t ds up rd s=>go t (.code c::.inLoop c::k) ds .run up rd s
 |.scope c=>λ_ _ _ go _ _ k t ds up rd s=>go t (.code c::.inScope c::k) ds .run up rd s
 |.exit id=>λ_ _ _ go _ _ k t ds up rd s=>rS go t ds up rd s (.exit id) (exitTo id k)
 |.goto l=>λ_ _ _ go _ _ k t ds up rd s=>rS go t ds up rd s (.goto l) (gotoIn l k)
 |.rangeFunc g ps assign body=>λ_ f fn go rec _ k t ds up rd s=>gQ f fn.ntmps go rec k t ds up rd s ps assign body (eval t g)
 |.region _ ops true=>λE _ fn go rec recR k t ds up rd s=>bif ob ops fn.ntmps then ji go k rd (jh E ops rec recR t ds up s)else none
 |.region _ ops false=>λE _ fn go rec recR k t ds up rd s=>bif ob ops fn.ntmps then ji go k rd (rB E ops rec recR rd ops.toList t ds up s)else none
 |.refuse _=>λ_ _ _ _ _ _ _ _ _ _ _ _=>none
def Ac(go:Go)(k:List Item)(t:T V)(ds:List ft)(up:Option Md)(rd:Option Nat)(l:Nat)(s:S):Option ef->Option fM
 |some (.loop .ready pend f t' ps a b d nt)=>go t k ds .run up rd (s.put l (.loop .busy pend f t' ps a b d nt))
 |_=>none
def mw:Item->acu
 |.code c=>dq c
 |.inBlock _=>λ_ _ _ go _ _ k t ds up rd s=>go t k ds .run up rd s
 |.inScope _=>λ_ _ _ go _ _ k t ds up rd s=>go t k ds .run up rd s
 |.inLoop c=>λ_ _ _ go _ _ k t ds up rd s=>go t (.code c::.inLoop c::k) ds .run up rd s
 |.beginRound=>λ_ _ _ go _ _ k t ds up rd s=>match rd with
  |some l=>Ac go k t ds up (some l) l s (s.get l)
  |none=>none
 |_=>λ_ _ _ _ _ _ _ _ _ _ _ _=>none
def oB:List Item->dX->FuncId->Func->Go->kV->EB->T V->List ft->Option Md->Option Nat->S->Option fM
 |[]=>λ_ _ _ go _ _ t ds up rd s=>nj go t ds up rd s none
 |i::k=>λE f fn go rec recR t ds up rd s=>mw i E f fn go rec recR k t ds up rd s
def kL(go:Go)(t:T V)(ds:List ft)(up:Option Md)(rd:Option Nat):Option fM->Option fM
 |some ⟨.returned _,some u,s⟩=>match u with
  |.run=>none
  |u=>go t [] ds (jO u) up rd s
 |some ⟨.panicked c,some u,s⟩=>go t [] ds (tf u c) up rd s
 |_=>none
def lE(go:Go)(t:T V)(ds:List ft)(m:Md)(up:Option Md)(rd:Option Nat)(s:S)(d:Nat):Option ef->Option fM
 |some .deferred=>go t [] ds m up rd (s.put d .gone)
 |_=>none
def Ul(up:Option Md)(s:S):Option V->Option fM
 |some v=>some ⟨.returned v,up,s⟩
 |none=>none
def vi(E:dX)(fn:Func)(t:T V)(up:Option Md)(s:S):Md->Option fM
 |.returning=>Ul up s (sX E.P fn t s)
 |.panicking c=>some ⟨.panicked c,up,s⟩
 |.run=>none
def dN:List ft->dX->Func->Go->kV->T V->Md->Option Md->Option Nat->S->Option fM
 |.collected d::ds=>λ_ _ go _ t m up rd s=>lE go t ds m up rd s d (s.get d)
 |.call (.func f) captured args::ds=>λ_ _ go rec t m up rd s=>kL go t ds up rd (rec f (args++captured) (some m) s)
 |.call _ _ _::_=>λ_ _ _ _ _ _ _ _ _=>none
 |[]=>λE fn _ _ t m up _ s=>vi E fn t up s m
def gT(E:dX)(f:FuncId)(fn:Func)(go:Go)(rec:kV)(recR:EB)(t:T V)(todo:List Item)(ds:List ft)(m:Md)(up:Option Md)(rd:Option Nat)(s:S):Option fM :=
 match m with
 |.run=>oB todo E f fn go rec recR t ds up rd s
 |.returning=>dN ds E fn go rec t .returning up rd s
 |.panicking c=>dN ds E fn go rec t (.panicking c) up rd s
inductive uD where
 |frame (f:FuncId) (fn:Func) (t:T V) (todo:List Item) (ds:List ft) (m:Md) (up:Option Md) (rd:Option Nat)
 |call (f:FuncId) (args:List V) (up:Option Md)
 |round (l:Nat) (args:List V)
def gZ(ih:uD->S->Option fM)(f:FuncId)(fn:Func):Go:=λt todo ds m up rd s=>ih (.frame f fn t todo ds m up rd) s
def cD(ih:uD->S->Option fM):kV:=λg args up s=>ih (.call g args up) s
def eK(ih:uD->S->Option fM):EB:=λl args s=>ih (.round l args) s
def vN(ih:uD->S->Option fM)(f:FuncId)(args:List V)(up:Option Md)(s:S):Option Func->Option fM
 |some fn=>match fn.body with
  |some c=>bif fn.name == "runtime.NumGoroutine" then none else ls args 0 .leaf λt=>ih (.frame f fn t [.code c] [] .run up none) s
  |none=>none
 |none=>none
def Dn(ih:uD->S->Option fM)(f:FuncId)(args:List V)(up:Option Md)(s:S)(fn:Option Func):Option (V×S)->Option fM
 |some (v,s)=>some ⟨.returned v,up,s⟩
 |none=>vN ih f args up s fn
def AJ(E:dX)(ih:uD->S->Option fM)(l:Nat)(args:List V)(s:S):Option ef->Option fM
 |some (.loop _ _ f t ps assign body _ nt)=>match E.P.funcs[f]? with
  |some fn=>bif Nat.ble fn.ntmps nt&&Nat.beq ps.size args.length&&ps.toList.all (λp=>Nat.blt p nt)then
   cR t ps.toList args λt=>ih (.frame f fn t [.code assign,.beginRound,.code body] [] .run none (some l)) s
   else none
  |none=>none
 |_=>none
def fN(E:dX)(ih:uD->S->Option fM):uD->S->Option fM
 |.frame f fn t todo ds m up rd,s=>gT E f fn (gZ ih f fn) (cD ih) (eK ih) t todo ds m up rd s
 |.call f args up,s=>Dn ih f args up s (E.P.funcs[f]?) (match up with|none=>E.orc f args s|some _=>none)
 |.round l args,s=>AJ E ih l args s (s.get l)
def rC(E:dX)(n:Nat):uD->S->Option fM :=
 Nat.rec (motive:=λ_=>uD->S->Option fM) (λ_ _=>none) (λ_ ih j s=>fN E ih j s) n
end Go.AI
namespace Go.AI
def UK:∀(n k n' b:Nat),k<=n->b<=n'->Ec n k=Ec n' b->k=b:=by
 intro n;induction n with
 |zero =>
  intro k n' b hk g h;obtain rfl:k=0:=by omega
  cases n' with
  |zero=>omega
  |succ n' =>
   cases b with
   |zero=>rfl
   |succ m =>grind [Ec]
 |succ n ih =>
  intro k n' b hk g h;cases k with
  |zero =>
   cases n' with
   |zero=>omega
   |succ n' =>
    cases b with
    |zero=>rfl
    |succ m =>grind [Ec]
  |succ m =>
   cases n' with
   |zero =>grind [Ec]
   |succ n' =>
    cases b with
    |zero =>grind [Ec]
    |succ j =>
     simp only[Ec]at h;have d:∀ x:Nat,Nat.div x 2=x / 2:=λ_=>rfl;have hm:∀ x:Nat,Nat.mod x 2=x%2:=λ_=>rfl;cases hb:Nat.beq (Nat.mod m 2) 1<;>cases a:Nat.beq (Nat.mod j 2) 1<;>simp[hb,a]at h
     .have q:=ih (Nat.div m 2) n' (Nat.div j 2) (by rw[d];omega) (by rw[d];omega) h;rw[d,d]at q;rw[hm]at hb a;have e1:¬ m%2=1:=λe=>by rw[e]at hb;simp at hb
      have e2:¬ j%2=1:=λe=>by rw[e]at a;simp at a
      omega
     grind [Nat.eq_of_beq_eq_true]
theorem YR{k a:Nat}(h:fQ k=fQ a):k=a:=UK k k a a (abH _) (abH _) h
namespace T
variable{α:Type}
section
variable{β:Type}(x:Option α)(p:II)(l r:T α)(v:Option α)(k:T α->β)
theorem get_leaf(p:II):(T.leaf:T α).get p=none:=by cases p<;>rfl
def get_o:(T.node l v r).get .o=v:=rfl
def get_l:(T.node l v r).get (.l p)=l.get p:=rfl
def get_r:(T.node l v r).get (.r p)=r.get p:=rfl
def oI:setK x (.l p) .leaf k=setK x p .leaf λt=>k (.node t none .leaf):=rfl
def oG:setK x (.l p) (.node l v r) k=setK x p l λt=>k (.node t v r):=rfl
def oF:setK x (.r p) .leaf k=setK x p .leaf λt=>k (.node .leaf none t):=rfl
def oE:setK x (.r p) (.node l v r) k=setK x p r λt=>k (.node l v t):=rfl
end
def set(x:Option α)(p:II)(t:T α):T α:=setK x p t id
def TW(x:Option α):∀(p:II) (β:Type) (t:T α) (k:T α->β),setK x p t k=k (setK x p t id):=by
 intro p;induction p with
 |o=>intro β t k;cases t<;>rfl
 |l p ih =>
  intro β t k;cases t with
  |leaf=>rw[oI,oI,ih β,ih (T α) .leaf (λt=>id (T.node t none .leaf))];rfl
  |node l v r=>rw[oG,oG,ih β,ih (T α) l (λt=>id (T.node t v r))];rfl
 |r p ih =>
  intro β t k;cases t with
  |leaf=>rw[oF,oF,ih β,ih (T α) .leaf (λt=>id (T.node .leaf none t))];rfl
  |node l v r=>rw[oE,oE,ih β,ih (T α) r (λt=>id (T.node l v t))];rfl
def setK_eq{β:Type}(x:Option α)(p:II)(t:T α)(k:T α->β):setK x p t k=k (set x p t):=TW x p β t k
def mS(x:Option α)(p:II):set x (.l p) .leaf=.node (set x p .leaf) none .leaf:=by unfold set;rw[oI,setK_eq];rfl
def mQ(x:Option α)(p:II):set x (.r p) .leaf=.node .leaf none (set x p .leaf):=by unfold set;rw[oF,setK_eq];rfl
def mR(x:Option α)(p:II)(l r:T α)(v:Option α):set x (.l p) (.node l v r)=.node (set x p l) v r:=by unfold set;rw[oG,setK_eq];rfl
def mP(x:Option α)(p:II)(l r:T α)(v:Option α):set x (.r p) (.node l v r)=.node l v (set x p r):=by unfold set;rw[oE,setK_eq];rfl
def AD(x:Option α):set x .o .leaf=.node .leaf x .leaf:=rfl
def AC(x:Option α)(l r:T α)(v:Option α):set x .o (.node l v r)=.node l x r:=rfl
theorem get_set_same(x:Option α):∀(p:II) (t:T α),(set x p t).get p=x:=by
 intro p;induction p with
 |o=>intro t;cases t<;>rfl
 |l p ih=>intro t;cases t<;>simp[mS,mR,get_l,ih]
 |r p ih=>intro t;cases t<;>simp[mQ,mP,get_r,ih]
theorem Ek(x:Option α):∀(p q:II) (t:T α),p≠q->(set x p t).get q=t.get q:=by
 intro p;induction p with
 |o =>
  intro q t h;cases q with
  |o=>exact absurd rfl h
  |l q=>cases t<;>simp[AD,AC,get_l,get_r,get_leaf]
  |r q=>cases t<;>simp[AD,AC,get_l,get_r,get_leaf]
 |l p ih =>
  intro q t h;cases q with
  |o=>cases t<;>simp[mS,mR,get_o,get_r,get_leaf]
  |l q =>have a:p≠q:=λe=>h (by rw[e]);cases t<;>simp[mS,mR,get_l,ih q _ a,get_leaf]
  |r q=>cases t<;>simp[mS,mR,get_o,get_r,get_leaf]
 |r p ih =>
  intro q t h;cases q with
  |o=>cases t<;>simp[mQ,mP,get_o,get_l,get_leaf]
  |r q =>have a:p≠q:=λe=>h (by rw[e]);cases t<;>simp[mQ,mP,get_r,ih q _ a,get_leaf]
  |l q=>cases t<;>simp[mQ,mP,get_o,get_l,get_leaf]
theorem get_setN(x:Option α)(i j:Nat)(t:T α):(set x (fQ i) t).get (fQ j)=if i=j then x else t.get (fQ j):=by grind [get_set_same,Ek,YR]
end T
def FP{β:Type}(n:Nat)(k:Nat->β):HI n k=k n:=by cases n<;>rfl
def Sh{β:Type}(n:Int)(k:Int->β):Nb n k=k n:=by cases n<;>simp[Nb,FP]
theorem cX(k:IntKind)(n:Int):oV k n=.int k n:=Sh n _
def S.put_eq(s:S)(f:Nat)(b:ef):s.put f b=⟨s.h.set (some b) (fQ f),s.next⟩:=by simp_all[S.put,T.setK_eq]
def S.alloc_eq(s:S)(b:ef):s.alloc b=⟨s.h.set (some b) (fQ s.next),s.next+1⟩:=by simp_all[S.alloc,T.setK_eq,FP]
def S.get_eq(s:S)(f:Nat):s.get f=s.h.get (fQ f):=by cases s;rfl
def S.get_put(s:S)(f g:Nat)(b:ef):(s.put f b).get g=if f=g then some b else s.get g:=by rw[S.put_eq,S.get_eq,S.get_eq,T.get_setN]
def S.get_alloc(s:S)(g:Nat)(b:ef):(s.alloc b).get g=if s.next=g then some b else s.get g:=by rw[S.alloc_eq,S.get_eq,S.get_eq,T.get_setN]
def S.next_put(s:S)(f:Nat)(b:ef):(s.put f b).next=s.next:=by rw[S.put_eq]
theorem S.next_alloc(s:S)(b:ef):(s.alloc b).next=s.next+1:=by rw[S.alloc_eq]
def YQ{β:Type}(t:T V)(d:Option Tmp)(v:Option V)(k:T V->β):oj t d v k=k (oj t d v id):=by
 cases d with
 |none=>rfl
 |some i=>simp only[oj];rw[T.setK_eq,T.setK_eq];rfl
def Wl(t:T V)(d:Option Tmp)(v:Option V)(i:Nat):(oj t d v id).get (fQ i)=if d=some i then v else t.get (fQ i):=by
 cases d with
 |none=>simp[oj]
 |some j=>simp only[oj];rw[T.setK_eq];simp only[id];rw[T.get_setN];simp
end Go.AI
namespace Go.AI
structure DT where
 b:Nat
 base:Nat
 lim:Nat
def DT.ro(l:DT):Prop:=l.lim<l.base
abbrev aS:=Nat->Nat->Option DT
def aS.le(ρ ρ':aS):Prop:=∀ f v l,ρ f v=some l->ρ' f v=some l
def aS.le_refl(ρ:aS):ρ.le ρ:=λ_ _ _ h=>h
def aS.le_trans{a b c:aS}(h:a.le b)(k:b.le c):a.le c:=λ_ _ _ x=>k _ _ _ (h _ _ _ x)
def aR(l:List Nat):ByteArray:=⟨(l.map UInt8.ofNat).toArray⟩
def jp(ρ:aS)(a:Ad):Option Addr:=match ρ a.f a.v with
 |some l=>if l.base<=a.c then some ⟨l.b,a.c - l.base,none⟩else none
 |none=>none
def oi(ρ:aS):Fn->Option Fn
 |.yield l=>match ρ l 0 with
  |some x=>some (.yield x.b)
  |none=>none
 |f=>some f
def cM(l:DT)(a:Ad)(cap:Option Nat)(sz:Nat):Nat:=match cap with
 |some c=>c
 |none=>(l.lim - a.c) / sz
def bK(l:DT)(a:Ad)(z:Nat)(cap:Option Nat)(sz:Nat):Nat:=match cap with
 |some _=>a.c
 |none=>if(l.lim - a.c) / sz=0 then z else a.c
def OT:Nat->Option Nat
 |0=>none
 |n+1=>some n
def iJ(ρ:aS)(a:Ad)(z len:Nat)(cap:Option Nat)(sz:Nat):Option Value:=if sz=0 then(if len=0/\cap=some 0 then some (.slice (some ⟨a.f,a.c,OT a.v⟩) 0 0)else none)else match ρ a.f a.v with
 |some l=>if l.base<=bK l a z cap sz/\l.base<=a.c/\len<=cM l a cap sz/\0<sz then
  some (.slice (some ⟨l.b,bK l a z cap sz - l.base,none⟩) len (cM l a cap sz))else none
 |none=>none
mutual
def den(ρ:aS):V->Option Value
 |.bool b=>some (.bool b)
 |.int k n=>some (.int k n)
 |.str l=>some (.string (aR l))
 |.ptr a=>match jp ρ a with
  |some x=>some (.pointer (some x))
  |none=>none
 |.nilptr=>some (.pointer none)
 |.slice a z len cap sz=>iJ ρ a z len cap sz
 |.nilslice=>some (.slice none 0 0)
 |.map r=>match ρ r 0 with
  |some l=>some (.map (some l.b))
  |none=>none
 |.nilmap=>some (.map none)
 |.func fn first cap=>match oi ρ fn with
  |some fn=>match br ρ first with
   |some first=>match br ρ cap with
    |some cap=>some (.func fn first.toArray cap.toArray)
    |none=>none
   |none=>none
  |none=>none
 |.nilFunc=>some .nilFunc
 |.iface t v=>match den ρ v with
  |some x=>some (.iface t x)
  |none=>none
 |.nilIface=>some .nilIface
 |.agg cs=>match br ρ cs with
  |some l=>some (.agg l.toArray)
  |none=>none
 |.tuple cs=>match br ρ cs with
  |some l=>some (.tuple l.toArray)
  |none=>none
 |.atom _=>none
def br(ρ:aS):List V->Option (List Value)
 |[]=>some []
 |x::r=>match den ρ x with
  |some y=>match br ρ r with
   |some l=>some (y::l)
   |none=>none
  |none=>none
end
theorem Sr{ρ ρ':aS}(h:ρ.le ρ'){a:Ad}{x:Addr}(e:jp ρ a=some x):jp ρ' a=some x:=by
 unfold jp at e ⊢;cases hl:ρ a.f a.v with
 |none=>simp[hl]at e
 |some l=>rw[hl]at e;rw[h _ _ _ hl];exact e
def Db{ρ ρ':aS}(h:ρ.le ρ'){a x:Fn}(e:oi ρ a=some x):oi ρ' a=some x:=by
 cases a<;>try exact e
 rename_i l;unfold oi at e ⊢;cases hl:ρ l 0 with
 |none=>simp[hl]at e
 |some y=>simp only[hl]at e;simp only[h _ _ _ hl];exact e
mutual
theorem cr{ρ ρ':aS}(h:ρ.le ρ'):∀(v:V) (x:Value),den ρ v=some x->den ρ' v=some x
 |.atom _,_,e=>by simp only[den]at e;cases e
 |.bool _,_,e=>e
 |.int _ _,_,e=>e
 |.str _,_,e=>e
 |.ptr a,x,e=>by grind [den,Sr]
 |.nilptr,_,e=>e
 |.slice a z len cap sz,x,e=>by
  simp only[den,iJ]at e ⊢;by_cases q:sz=0
  .grind
  rw[ajD q]at e ⊢;cases hl:ρ a.f a.v with
  |none=>simp[hl]at e
  |some l=>rw[hl]at e;rw[h _ _ _ hl];exact e
 |.nilslice,_,e=>e
 |.map r,x,e=>by
  simp only[den]at e ⊢;cases hl:ρ r 0 with
  |none=>simp[hl]at e
  |some l=>rw[hl]at e;rw[h _ _ _ hl];exact e
 |.nilmap,_,e=>e
 |.func fn first cap,x,e=>by
  simp only[den]at e ⊢;cases d:oi ρ fn with
  |none=>simp[d]at e
  |some g =>
   rw[d]at e;rw[Db h d];cases b:br ρ first with
   |none=>simp[b]at e
   |some l =>
    cases j:br ρ cap with
    |none=>simp[b,j]at e
    |some m=>simp only[b,j]at e;simp only[gm h first l b,gm h cap m j];exact e
 |.nilFunc,_,e=>e
 |.iface t v,x,e=>by
  simp only[den]at e ⊢;cases n:den ρ v with
  |none=>simp[n]at e
  |some y=>rw[n]at e;rw[cr h v y n];exact e
 |.nilIface,_,e=>e
 |.agg cs,x,e=>by
  simp only[den]at e ⊢;cases hl:br ρ cs with
  |none=>simp[hl]at e
  |some l=>rw[hl]at e;rw[gm h cs l hl];exact e
 |.tuple cs,x,e=>by
  simp only[den]at e ⊢;cases hl:br ρ cs with
  |none=>simp[hl]at e
  |some l=>rw[hl]at e;rw[gm h cs l hl];exact e
theorem gm{ρ ρ':aS}(h:ρ.le ρ'):∀(l:List V) (m:List Value),br ρ l=some m->br ρ' l=some m
 |[],_,e=>e
 |x::r,m,e=>by
  simp only[br]at e ⊢;cases a:den ρ x with
  |none=>simp[a]at e
  |some y =>
   cases hr:br ρ r with
   |none=>simp[a,hr]at e
   |some q=>simp only[a,hr]at e;simp only[cr h x y a,gm h r q hr];exact e
end
def bt{ρ:aS}{x:V}{r:List V}{m:List Value}:br ρ (x::r)=some m↔∃ y q,den ρ x=some y/\br ρ r=some q/\m=y::q:=by grind [br]
def dJ{ρ:aS}:∀ {x y:List V} {a b:List Value},br ρ x=some a->br ρ y=some b->br ρ (x++y)=some (a++b)
 |[],y,a,b,d,hy=>by cases d;exact hy
 |v::x,y,a,b,d,hy=>by obtain⟨u,q,e,g,rfl⟩:=bt.1 d;exact bt.2 ⟨u,q++b,e,dJ g hy,rfl⟩
def bW{ρ:aS}:∀ {x:List V} {a:List Value},br ρ x=some a->a.length=x.length
 |[],a,h=>by cases h;rfl
 |v::x,a,h=>by obtain⟨u,q,h1,b,rfl⟩:=bt.1 h;simp[bW b]
def eT{ρ:aS}:∀ {x:List V} {a:List Value} (i:Nat) {v:V},br ρ x=some a->x[i]? = some v->∃ y,den ρ v=some y/\a[i]? = some y
 |[],a,i,v,h,e=>by simp at e
 |u::x,a,i,v,h,e=>by
  obtain⟨y,q,d,g,rfl⟩:=bt.1 h;cases i with
  |zero=>simp at e;subst e;exact⟨y,d,rfl⟩
  |succ i=>simp at e;obtain⟨z,j,b⟩:=eT i g e;exact⟨z,j,by simpa using b⟩
def Gi{ρ:aS}:∀ {x:List V} {a:List Value} (n:Nat),br ρ x=some a->br ρ (x.drop n)=some (a.drop n)
 |[],a,n,h=>by cases h;simp[br]
 |u::x,a,n,h=>by
  obtain⟨y,q,d,b,rfl⟩:=bt.1 h;cases n with
  |zero=>exact bt.2 ⟨y,q,d,b,rfl⟩
  |succ n=>simpa using Gi n b
def Gg{ρ:aS}:∀ {x:List V} {a:List Value} (n:Nat),br ρ x=some a->br ρ (x.take n)=some (a.take n)
 |[],a,n,h=>by cases h;simp[br]
 |u::x,a,n,h=>by
  obtain⟨y,q,b,d,rfl⟩:=bt.1 h;cases n with
  |zero=>simp[br]
  |succ n=>simpa using bt.2 ⟨y,q.take n,b,Gg n d,rfl⟩
def lC{ρ:aS}:∀ {x:List V} {a:List Value},x.length=a.length->(∀(i:Nat) (v:V),x[i]? = some v->∃ y,den ρ v=some y/\a[i]? = some y)->br ρ x=some a
 |[],a,hl,h=>by have:a=[]:=aoK.1 hl.symm;subst this;rfl
 |u::x,[],hl,h=>by simp at hl
 |u::x,b::a,hl,h=>by obtain⟨y,hy,d⟩:=h 0 u rfl;simp at d;subst d;exact bt.2 ⟨b,a,hy,lC (by simpa using hl) (λi v e=>by simpa using h (i+1) v (by simpa using e)),rfl⟩
def eS{ρ:aS}{v:V}{x:Value}(h:den ρ v=some x):br ρ v.cells=some x.cells.toList:=by
 cases v<;>try(
  refine bt.2 ⟨x,[],h,rfl,?_⟩;simp only[den]at h
  (repeat' split at h)<;>first|(cases h;done)|(cases h;rfl))
 case slice a z len cap sz =>
  refine bt.2 ⟨x,[],h,rfl,?_⟩;simp only[den,iJ]at h
  (repeat' split at h)<;>first|(cases h;done)|(cases h;rfl)
 case agg cs =>
  simp only[den]at h;split at h
  .rename_i l hl;cases h;simpa[V.cells,Value.cells]using hl
  .cases h
theorem AZ{ρ:aS}{v:V}{x:Value}(h:den ρ v=some x)(b:v.one=true):x.oneCell'=true:=by
 cases v<;>simp[V.one]at b
 case atom i=>simp only[den]at h;cases h
 case slice a z len cap sz =>
  simp only[den,iJ]at h
  (repeat' split at h)<;>first|(cases h;done)|(cases h;rfl)
 all_goals
  simp only[den]at h
  (repeat' split at h)<;>first|(cases h;done)|(cases h;rfl)
def TR(ρ:aS)(t:T V)(tm:Array Value):Prop:=∀(i:Nat) (v:V),t.get (fQ i)=some v->∃ y,den ρ v=some y/\tm[i]? = some y
def TR.mono{ρ ρ':aS}(h:ρ.le ρ'){t:T V}{tm:Array Value}(k:TR ρ t tm):TR ρ' t tm:=λi v e=>by
 obtain⟨y,hy,hy'⟩:=k i v e
 grind [cr]
def TR.leaf(ρ:aS)(tm:Array Value):TR ρ .leaf tm:=λi v e=>by rw[T.get_leaf]at e;cases e
theorem TR.put{ρ:aS}{t:T V}{tm:Array Value}(k:TR ρ t tm){i:Nat}{v:V}{y:Value}(b:den ρ v=some y)(hi:i<tm.size) :
 TR ρ (t.set (some v) (fQ i)) (tm.setIfInBounds i y):=λj u e=>by
 rw[T.get_setN]at e;by_cases h:i=j
 .subst h;rw[akJ rfl]at e;cases e;exact⟨y,b,by simp[hi]⟩
 .rw[ajD h]at e;obtain⟨z,d,a⟩:=k j u e;exact⟨z,d,by rw[aoX h];exact a⟩
def anF(ρ:aS)(e:qE)(r:MapEntry):Prop:=den ρ e.key=some r.key/\den ρ e.val=some r.val/\e.born=r.born
def gE(ρ:aS):List qE->List MapEntry->Prop
 |[],[]=>True
 |e::es,r::rs=>anF ρ e r/\gE ρ es rs
 |_,_=>False
def gE.mono{ρ ρ':aS}(h:ρ.le ρ'):∀ {es:List qE} {rs:List MapEntry},gE ρ es rs->gE ρ' es rs
 |[],[],_=>trivial
 |_::_,_::_,⟨⟨a,b,c⟩,k⟩=>⟨⟨cr h _ _ a,cr h _ _ b,c⟩,gE.mono h k⟩
 |[],_::_,k=>k.elim
 |_::_,[],k=>k.elim
def Lp(ρ:aS)(w:World)(f:Nat)(sb:Bool)(u:om):Prop :=
 ∃(l:DT) (c:Array Value) (e:TypeId) (fz:Nat×Nat),ρ f u.v=some l/\w.heap[l.b]? = some (.cells c e fz)/\l.base<=u.lo/\l.lim=l.base+c.size /\
  ((sb=false->fz=(0,0))/\∀ i,i<c.size->¬(fz.1<=i/\i<fz.2))/\∀(i:Nat) (x:V),u.cells[i]? = some x->∃ y,den ρ x=some y/\c[u.lo - l.base+i]? = some y
def anC(ρ:aS)(w:World)(f:Nat)(u:om):Prop :=
 ∃(l:DT) (c:Array Value) (e:TypeId) (fz:Nat×Nat),ρ f u.v=some l/\w.heap[l.b]? = some (.cells c e fz)/\l.base<=u.lo /\
  ∀(i:Nat) (x:V),u.cells[i]? = some x->∃ y,den ρ x=some y/\c[u.lo - l.base+i]? = some y
def anB(ρ:aS)(w:World)(f:Nat)(u:om):Prop :=
 ∃(l:DT) (c:Array Value) (e:TypeId) (fz:Nat×Nat),ρ f u.v=some l/\l.b=f/\w.heap[f]? = some (.cells c e fz)/\(u.v=127->l.base=u.lo/\c.size=u.cells.length)
def DP(ρ:aS)(w:World)(f:Nat):ef->Prop
 |.ro vers=>∀ u∈vers,anC ρ w f u/\anB ρ w f u
 |.cells _ sb nv vers=>(∀ v,nv<=v->ρ f v=none)/\∀ u∈vers,u.v<nv/\Lp ρ w f sb u
 |.map es clock=>∃ l rs,ρ f 0=some l/\w.heap[l.b]? = some (.map rs clock)/\gE ρ es rs.toList
 |.gone=>True
 |.loop st pend fn t ps a b d nt=>∃ l ld tm,ρ f 0=some l/\ρ d 0=some ld/\TR ρ t tm/\nt<=tm.size/\w.heap[l.b]? = some (.loop { state:=st,pending:=pend,fn,tmps:=tm,params:=ps,assign:=a,body:=b,defers:=ld.b })
 |.deferred=>∃ l,ρ f 0=some l/\w.heap[l.b]? = some (.deferred (some []))
structure HR(ρ:aS)(s:S)(w:World):Prop where
 fresh:∀ f v,s.next<=f->ρ f v=none
 inj:∀ f v l f' v' l',ρ f v=some l->ρ f' v'=some l'->l.b=l'.b->f=f'/\l.base=l'.base
 low:∀ f v l,ρ f v=some l->l.b<w.heap.size
 blk:∀ f B,s.get f=some B->DP ρ w f B
 dom:∀ f B,s.get f=some B->f<s.next
 rw:∀ f B,s.get f=some B->(∀ vers,B≠.ro vers)->∀ v l,ρ f v=some l->¬ l.ro
structure FR(ρ:aS)(w:World)(ρ':aS)(w':World):Prop where
 ext:ρ.le ρ'
 size:w.heap.size<=w'.heap.size
 os:w'.os=w.os
 tape:w'.tape=w.tape
 output:w'.output=w.output
 same:∀ b,b<w.heap.size->(∀ f v l,ρ f v=some l->¬ l.ro->l.b≠b)->w'.heap[b]? = w.heap[b]?
 new:∀ f v l,ρ' f v=some l->l.b<w.heap.size->∃ f' v' l',ρ f' v'=some l'/\l'.b=l.b/\(l'.ro->l.ro)
theorem FR.refl(ρ:aS)(w:World):FR ρ w ρ w:=⟨ρ.le_refl,abH _,rfl,rfl,rfl,λ_ _ _=>rfl,λf v l h _=>⟨f,v,l,h,rfl,id⟩⟩
def FR.trans{ρ ρ1 ρ2:aS}{w a d:World}(h:FR ρ w ρ1 a)(k:FR ρ1 a ρ2 d):FR ρ w ρ2 d where
 ext:=aS.le_trans h.ext k.ext
 size:=akG h.size k.size
 os:=k.os.trans h.os
 tape:=k.tape.trans h.tape
 output:=k.output.trans h.output
 same b hb g:=by
  rw[k.same b (ajN hb h.size) (λf v l e hro he=>?_)]
  .exact h.same b hb g
  .obtain⟨f',v',l',e',he',hr'⟩:=h.new f v l e (by omega)
   grind
 new f v l e hl:=by
  obtain⟨j,v1,l1,m,h1,r1⟩:=k.new f v l e (ajN hl h.size);obtain⟨f2,v2,l2,e2,h2,r2⟩:=h.new j v1 l1 m (by omega)
  grind
def FR.drawn{ρ:aS}(w:World)(n:Nat):FR ρ w ρ { w with drawn:=n }:=⟨ρ.le_refl,abH _,rfl,rfl,rfl,λ_ _ _=>rfl,λf v l h _=>⟨f,v,l,h,rfl,id⟩⟩
def Lp.of_heap{ρ:aS}{w w':World}{f:Nat}{sb:Bool}{u:om}(h:Lp ρ w f sb u)(d:∀ l,ρ f u.v=some l->w'.heap[l.b]? = w.heap[l.b]?):Lp ρ w' f sb u:=by obtain⟨l,c,e,fz,a,g,r⟩:=h;exact⟨l,c,e,fz,a,by rw[d l a];exact g,r⟩
def Lp.mono{ρ ρ':aS}(h:ρ.le ρ'){w:World}{f:Nat}{sb:Bool}{u:om}(k:Lp ρ w f sb u):Lp ρ' w f sb u:=by
 obtain⟨l,c,e,fz,a,b,d,g,j,h6⟩:=k;refine⟨l,c,e,fz,h _ _ _ a,b,d,g,j,λi x hx=>?_⟩
 grind [cr]
def HR.drawn{ρ:aS}{s:S}{w:World}(h:HR ρ s w)(n:Nat):HR ρ s { w with drawn:=n } :=
 ⟨h.fresh,h.inj,h.low,h.blk,h.dom,h.rw⟩
theorem fo:∀ {vers:List om} {v:Nat} {u:om},bY vers v=some u->u∈vers/\u.v=v
 |[],v,u,h=>by simp[bY]at h
 |x::r,v,u,h=>by
  simp only[bY]at h;cases hb:Nat.beq x.v v with
  |true=>simp[hb]at h;subst h;exact⟨by simp,abj hb⟩
  |false=>simp[hb]at h;obtain⟨a,b⟩:=fo h;exact⟨acl _ a,b⟩
theorem eH:∀ {n:Nat} {l m:List V},bA n l=some m->m=l.take n/\n<=l.length
 |0,l,m,h=>by simp[bA]at h;subst h;simp
 |n+1,[],m,h=>by simp[bA]at h
 |n+1,x::r,m,h=>by
  simp only[bA]at h;cases hr:bA n r with
  |none=>simp[hr]at h
  |some q =>
   simp[hr]at h;obtain⟨e,hl⟩:=eH hr
   grind
def HR.ver{ρ:aS}{s:S}{w:World}(h:HR ρ s w){a:Ad}{e:TypeId}{sb:Bool}{nv:Nat}{vers:List om}{u:om}
 (b:s.get a.f=some (.cells e sb nv vers)) (d:bY vers a.v=some u):Lp ρ w a.f sb u/\u∈vers/\u.v=a.v:=by
 obtain⟨hm,g⟩:=fo d;exact⟨((h.blk _ _ b).2 u hm).2,hm,g⟩
def Bq{ρ:aS}{s:S}{w:World}(h:HR ρ s w){a:Ad}{x:V}(e:oY s a=some x) :
 ∃ ad y,jp ρ a=some ad/\den ρ x=some y/\w.cell? ad=some y:=by
 unfold oY at e;split at e
 .rename_i el sb nv vers j;split at e
  .rename_i u m;cases hb:Nat.ble u.lo a.c with
   |false=>simp[hb]at e
   |true =>simp only[hb,ge]at e;have n:=act hb;obtain⟨⟨l,c,el',fz,g,q,B,h4,h5,z⟩,_,A⟩:=h.ver j m;rw[A]at g;obtain⟨y,hy,d⟩:=z _ _ e;refine⟨⟨l.b,a.c - l.base,none⟩,y,by simp[jp,g];omega,hy,?_⟩;simp only[World.cell?,q];simp;rw[<- d];congr 1;omega
  .cases e
 .rename_i vers j;split at e
  .rename_i u m;cases hb:Nat.ble u.lo a.c with
   |false=>simp[hb]at e
   |true =>simp only[hb,ge]at e;have n:=act hb;obtain⟨hm,A⟩:=fo m;obtain⟨l,c,el',fz,g,q,B,z⟩:=(h.blk _ _ j u hm).1;rw[A]at g;obtain⟨y,hy,d⟩:=z _ _ e;refine⟨⟨l.b,a.c - l.base,none⟩,y,by simp[jp,g];omega,hy,?_⟩;simp only[World.cell?,q];simp;rw[<- d];congr 1;omega
  .cases e
 .cases e
def Fx{ρ:aS}{w:World}{a:Ad}{n:Nat}{l:List V}{u:om}{lo:DT}{c:Array Value}{el':TypeId}{fz:Nat×Nat}(A:ρ a.f a.v=some lo)(B:w.heap[lo.b]? = some (.cells c el' fz))(h3:lo.base<=u.lo)(hle:u.lo<=a.c)
 (h6:∀(i:Nat) (x:V),u.cells[i]? = some x->∃ y,den ρ x=some y/\c[u.lo - lo.base+i]? = some y) (e:bA n (u.cells.drop (a.c - u.lo))=some l) :
 ∃ ad ys,jp ρ a=some ad/\br ρ l=some ys/\ys.length=n/\∀(j:Nat) (v:Value),ys[j]? = some v->w.cell? (ad.add j)=some v:=by
 obtain⟨rfl,hlen⟩:=eH e;have hcell:∀(j:Nat) (v:V),((u.cells.drop (a.c - u.lo)).take n)[j]? = some v->∃ y,den ρ v=some y/\c[a.c - lo.base+j]? = some y:=λj v h=>by grind
 have d:((u.cells.drop (a.c - u.lo)).take n).length=n:=by rw[ajQ];omega
 have g:n=0\/a.c - lo.base+n<=c.size:=by
  rcases aoG n with h0|h0
  .exact .inl h0
  .right;have hx:∃ v,((u.cells.drop (a.c - u.lo)).take n)[n - 1]? = some v:=⟨_,abI (by omega)⟩
   grind
 refine⟨⟨lo.b,a.c - lo.base,none⟩,(c.toList.drop (a.c - lo.base)).take n,by simp[jp,A];omega,?_,?_,?_⟩
 .refine lC ?_ λi v hi=>?_
  .rw[d,ajQ,aod,anX];rcases g with h0|h0<;>omega
  .obtain⟨y,hy,m⟩:=hcell i v hi;refine⟨y,hy,?_⟩;have q:i<n:=by have:=(acy.1 hi).1;omega
   rw[aob q,aoZ,akF];exact m
 .rw[ajQ,aod,anX];rcases g with h0|h0<;>omega
 .intro j v h;have z:j<n:=by grind
  rw[aob z,aoZ,akF]at h;have F:(⟨lo.b,a.c - lo.base,none⟩:Addr).add j=⟨lo.b,a.c - lo.base+j,none⟩:=by
   unfold Addr.add;split
   .grind
   .rfl
  rw[F];simp only[World.cell?,B];simpa using h
def jz{ρ:aS}{s:S}{w:World}(h:HR ρ s w){a:Ad}{n:Nat}{l:List V}(e:loadCells s a n=some l) :
 ∃ ad ys,jp ρ a=some ad/\br ρ l=some ys/\ys.length=n/\∀(j:Nat) (v:Value),ys[j]? = some v->w.cell? (ad.add j)=some v:=by
 unfold loadCells at e;split at e
 .rename_i el sb nv vers d;split at e
  .rename_i u g;cases hb:Nat.ble u.lo a.c with
   |false=>simp[hb]at e
   |true =>simp only[hb,ge]at e;obtain⟨⟨lo,c,el',fz,b,m,q,h4,h5,y⟩,_,z⟩:=h.ver d g;rw[z]at b;exact Fx b m q (act hb) y e
  .cases e
 .rename_i vers d;split at e
  .rename_i u g;cases hb:Nat.ble u.lo a.c with
   |false=>simp[hb]at e
   |true =>simp only[hb,ge]at e;obtain⟨hm,z⟩:=fo g;obtain⟨lo,c,el',fz,b,m,q,y⟩:=(h.blk _ _ d u hm).1;rw[z]at b;exact Fx b m q (act hb) y e
  .cases e
 .cases e
def aS.put(ρ:aS)(f v:Nat)(l:DT):aS:=λg u=>if g=f/\u=v then some l else ρ g u
def aS.put_same(ρ:aS)(f v:Nat)(l:DT):ρ.put f v l f v=some l:=by simp[aS.put]
def aS.le_put{ρ:aS}{f v:Nat}(l:DT)(h:ρ f v=none):ρ.le (ρ.put f v l):=λg u x hx=>by grind [aS.put]
def aS.of_put{ρ:aS}{f v g u:Nat}{l x:DT}(h:ρ.put f v l g u=some x):(g=f/\u=v/\x=l)\/ρ g u=some x:=by grind [aS.put]
def DP.keep{ρ ρ':aS}{w w':World}{f:Nat}{B:ef}(h:DP ρ w f B)(j:ρ.le ρ')(I:∀ v,ρ f v=none->ρ' f v=none)
 (n:∀ v l,ρ f v=some l->w'.heap[l.b]? = w.heap[l.b]?):DP ρ' w' f B:=by
 cases B with
 |ro vers =>intro u z;obtain⟨⟨l,c,e,fz,g,m,q,A⟩,l',J,K,fz',H,F,L,M⟩:=h u z;refine⟨⟨l,c,e,fz,j _ _ _ g,by rw[n _ l g];exact m,q,λi x N=>?_⟩,l',J,K,fz',j _ _ _ H,F,by rw[<- F,n _ l' H,F];exact L,M⟩;obtain⟨y,hy,G⟩:=A i x N;exact⟨y,cr j x y hy,G⟩
 |cells e sb nv vers =>exact⟨λv O=>I v (h.1 v O),λu z=>⟨(h.2 u z).1,((h.2 u z).2.of_heap (λl hl=>n _ l hl)).mono j⟩⟩
 |map es clock =>obtain⟨l,rs,g,m,q⟩:=h;exact⟨l,rs,j _ _ _ g,by rw[n _ l g];exact m,q.mono j⟩
 |gone=>trivial
 |loop st pend fn t ps a b d nt =>obtain⟨l,ld,tm,g,m,q,A⟩:=h;exact⟨l,ld,tm,j _ _ _ g,j _ _ _ m,q.mono j,by rw[n _ l g];exact A⟩
 |deferred =>obtain⟨l,g,m⟩:=h;exact⟨l,j _ _ _ g,by rw[n _ l g];exact m⟩
def jd(w:World)(o:Obj){k:Nat}(h:k<w.heap.size):(w.alloc o).heap[k]? = w.heap[k]?:=by
 show(w.heap.push o)[k]? = _
 grind
def eO(w:World)(o:Obj):(w.alloc o).heap[w.heap.size]? = some o:=by show(w.heap.push o)[w.heap.size]? = _;simp
def HR.alloc{ρ:aS}{s:S}{w:World}(h:HR ρ s w)(B:ef)(o:Obj)(base lim:Nat)(hbl:base<=lim)
 (hB:DP (ρ.put s.next 0 ⟨w.heap.size,base,lim⟩) (w.alloc o) s.next B) :
 HR (ρ.put s.next 0 ⟨w.heap.size,base,lim⟩) (s.alloc B) (w.alloc o)/\FR ρ w (ρ.put s.next 0 ⟨w.heap.size,base,lim⟩) (w.alloc o):=by
 have hfree:ρ s.next 0=none:=h.fresh _ _ (abH _);refine⟨⟨?_,?_,?_,?_,?_,?_⟩,⟨aS.le_put _ hfree,by simp,rfl,rfl,rfl,?_,?_⟩⟩
 .intro f v j;rw[S.next_alloc]at j;unfold aS.put;rw[ajD (by omega)];exact h.fresh f v (by omega)
 .intro f v l f' v' l' e d hb;rcases aS.of_put e with⟨rfl,rfl,rfl⟩|e
  .rcases aS.of_put d with⟨rfl,rfl,rfl⟩|d
   .exact⟨rfl,rfl⟩
   .have:=h.low _ _ _ d;simp at hb;omega
  .rcases aS.of_put d with⟨rfl,rfl,rfl⟩|d
   .have:=h.low _ _ _ e;simp at hb;omega
   .exact h.inj _ _ _ _ _ _ e d hb
 .intro f v l e;rcases aS.of_put e with⟨rfl,rfl,rfl⟩|e
  .simp
  .have:=h.low _ _ _ e;simp;omega
 .intro f B' a;rw[S.get_alloc]at a;split at a
  .rename_i e;cases a;subst e;exact hB
  .rename_i hne;refine(h.blk f B' a).keep (aS.le_put _ hfree) (λv m=>?_) (λv l hl=>jd _ _ (h.low _ _ _ hl));unfold aS.put;rw[ajD (by omega)];exact m
 .intro f B' a;rw[S.get_alloc]at a;rw[S.next_alloc];split at a
  .omega
  .exact Nat.lt_succ_of_lt (h.dom f B' a)
 .intro f B' a g v l hl;rw[S.get_alloc]at a;rcases aS.of_put hl with⟨rfl,rfl,rfl⟩|hl
  .show ¬(lim<base);omega
  .split at a
   .rename_i n;subst n;rw[h.fresh _ _ (abH _)]at hl;cases hl
   .exact h.rw f B' a g v l hl
 .intro b hb _;exact jd _ _ hb
 .intro f v l e hl;rcases aS.of_put e with⟨rfl,rfl,rfl⟩|e
  .simp at hl
  .exact⟨f,v,l,e,rfl,id⟩
def im{ρ:aS}{s:S}{w:World}(h:HR ρ s w)(sb:Bool)(elem elem':TypeId){cs:List V}{ys:Array Value}(g:br ρ cs=some (ys.toList.take cs.length))(fz:Nat×Nat)(b:(sb=false->fz=(0,0))/\∀ i,i<ys.size->¬(fz.1<=i/\i<fz.2)) :
 ∃ ρ',ρ' s.next 0=some ⟨w.heap.size,0,ys.size⟩/\HR ρ' (bD sb s elem cs).2 (w.alloc (.cells ys elem' fz))/\FR ρ w ρ' (w.alloc (.cells ys elem' fz)):=by
 have hfree:ρ s.next 0=none:=h.fresh _ _ (abH _);refine⟨ρ.put s.next 0 ⟨w.heap.size,0,ys.size⟩,aS.put_same _ _ _ _,h.alloc (.cells elem sb 1 [⟨0,0,cs⟩]) _ 0 ys.size (anI _) ?_⟩;refine⟨λv hv=>?_,λu d=>?_⟩
 .unfold aS.put;rw[ajD (by omega)];exact h.fresh _ _ (abH _)
 .simp at d;subst d;refine⟨Nat.zero_lt_one,⟨w.heap.size,0,ys.size⟩,ys,elem',fz,aS.put_same _ _ _ _,eO _ _,abH _,by simp,b,λi x e=>?_⟩;obtain⟨y,hy,a⟩:=eT i g e;refine⟨y,cr (aS.le_put _ hfree) _ _ hy,?_⟩;have hi:i<cs.length:=(acy.1 e).1;rw[aob hi,akF]at a;simpa using a
structure But(w w':World)(b:Nat):Prop where
 size:w'.heap.size=w.heap.size
 os:w'.os=w.os
 tape:w'.tape=w.tape
 output:w'.output=w.output
 other:∀ k,k≠b->w'.heap[k]? = w.heap[k]?
def But.trans{a b c:World}{k:Nat}(h:But a b k)(g:But b c k):But a c k :=
 ⟨g.size.trans h.size,g.os.trans h.os,g.tape.trans h.tape,g.output.trans h.output,λi hi=>(g.other i hi).trans (h.other i hi)⟩
def EP(P:Program)(b off:Nat)(e:TypeId)(fz:Nat×Nat):∀(ys:List Value) (i:Nat) (c:Array Value) (w:World),w.heap[b]? = some (.cells c e fz) ->
 (∀ k,k<c.size->¬(fz.1<=k/\k<fz.2))->off+i+ys.length<=c.size->(∀ v∈ys,v.oneCell'=true) ->
 ∃ w' d,(Go.storeCells ⟨b,off,none⟩ ys i).run P w=.ok () w'/\But w w' b/\w'.heap[b]? = some (.cells d e fz)/\d.size=c.size /\
  ∀ j,d[j]? = if off+i<=j/\j<off+i+ys.length then ys[j - (off+i)]? else c[j]?:=by
 intro ys;induction ys with
 |nil =>intro i c w g a hl q;exact⟨w,c,rfl,⟨rfl,rfl,rfl,rfl,λ_ _=>rfl⟩,g,rfl,λj=>by rw[ajD (by simp)]⟩
 |cons v r ih =>
  intro i c w g a hl q;simp only[aga]at hl;have A:(⟨b,off,none⟩:Addr).add i=⟨b,off+i,none⟩:=by
   unfold Addr.add;split
   .grind
   .rfl
  have hcell:w.cell? ⟨b,off+i,none⟩=some (c[off+i]'(by omega)):=by simp only[World.cell?,g];simp[show off+i<c.size by omega]
  have y:w.frozen? ⟨b,off+i,none⟩=false:=by simp only[World.frozen?,g];have:=a (off+i) (by omega);simp;omega
  have h:(w.setCell ⟨b,off+i,none⟩ v).heap[b]? = some (.cells (c.setIfInBounds (off+i) v) e fz):=by simp only[World.setCell,Array.getElem?_modify,apn,g];simp
  obtain⟨w',d,B,F,G,H,I⟩:=ih (i+1) (c.setIfInBounds (off+i) v) (w.setCell ⟨b,off+i,none⟩ v) h
   (by simpa using a) (by simp;omega) (λu J=>q u (acl _ J))
  have m:But w (w.setCell ⟨b,off+i,none⟩ v) b:=⟨by simp,rfl,rfl,rfl,λk hk=>by simp only[World.setCell,Array.getElem?_modify];rw[ajD (λe=>hk e.symm)]⟩;refine⟨w',d,?_,m.trans F,G,by simpa using H,λj=>?_⟩
  .simp only[Go.storeCells,afX,A];rw[run_store P w _ v .plain (q v (by simp)),hcell];simp only[y,aoo,apF,acW];exact B
  .rw[I j];by_cases z:off+(i+1)<=j/\j<off+(i+1)+r.length
   .rw[akJ z,akJ (by simp;omega)];have:j - (off+i)=(j - (off+(i+1)))+1:=by omega
    rw[this];simp
   .rw[ajD z];by_cases n:j=off+i
    .subst n;rw[akJ (by simp)];simp[show off+i<c.size by omega]
    .rw[ajD (by simp;omega)];simp[apz n]
def ij:∀ {cs:List V} {n:Nat} {new out:List V},cI cs n new=some out ->
 out.length=cs.length/\(new=[]\/n+new.length<=cs.length)/\∀(j:Nat),out[j]? = if n<=j/\j<n+new.length then new[j - n]? else cs[j]?
 |cs,n,[],out,h=>by grind [cI]
 |[],n,y::new,out,h=>by cases n<;>simp[cI]at h
 |x::r,n+1,y::new,out,h=>by
  simp only[cI]at h;cases hr:cI r n (y::new)with
  |none=>simp[hr]at h
  |some q =>
   simp[hr]at h;subst h;obtain⟨a,b,d⟩:=ij hr
   grind
 |x::r,0,y::new,out,h=>by
  simp only[cI]at h;cases hr:cI r 0 new with
  |none=>simp[hr]at h
  |some q =>
   simp[hr]at h;subst h;obtain⟨a,b,d⟩:=ij hr
   grind
def HR.turn{ρ:aS}{s:S}{w w':World}(h:HR ρ s w){f v:Nat}{l:DT}(hl:ρ f v=some l){B0:ef}(j:s.get f=some B0)(m:∀ vers,B0≠.ro vers)(hb:But w w' l.b)(B:ef)(hB:DP ρ w' f B) :
 HR ρ (s.put f B) w'/\FR ρ w ρ w':=by
 refine⟨⟨λg u a=>h.fresh g u (by rw[S.next_put]at a;exact a),h.inj,λg u x d=>by rw[hb.size];exact h.low g u x d,λg B' a=>?_,λg B' a=>?_,λg B' a n u x d=>?_⟩,
  ⟨ρ.le_refl,by rw[hb.size];exact abH _,hb.os,hb.tape,hb.output,λk hk y=>hb.other k (λe=>y _ _ _ hl (h.rw f B0 j m _ _ hl) e.symm),λg u x d _=>⟨g,u,x,d,rfl,id⟩⟩⟩
 .rw[S.get_put]at a;split at a
  .rename_i e;cases a;subst e;exact hB
  .rename_i q;exact(h.blk g B' a).keep ρ.le_refl (λ_ z=>z) (λu x d=>hb.other _ (λe=>q (h.inj _ _ _ _ _ _ hl d e.symm).1))
 .rw[S.get_put]at a;rw[S.next_put];split at a
  .rename_i e;subst e;exact apu λhc=>by have:=h.fresh f v hc;rw[hl]at this;cases this
  .exact h.dom g B' a
 .rw[S.get_put]at a;split at a
  .rename_i e;subst e;exact h.rw f B0 j m u x d
  .exact h.rw g B' a n u x d
def mb{ρ:aS}{s s':S}{w:World}(P:Program)(h:HR ρ s w){a:Ad}{new:List V}{ys:List Value}(e:storeCells s a new=some s')(J:br ρ new=some ys) :
 ∃ ad w',jp ρ a=some ad/\(Go.storeCells ad ys).run P w=.ok () w'/\HR ρ s' w'/\FR ρ w ρ w':=by
 unfold storeCells at e;split at e
 .rename_i el sb nv vers A;split at e
  .rename_i u Y;cases hb:(Nat.ble u.lo a.c&&new.all V.one)with
   |false=>simp[hb]at e
   |true =>
    simp only[hb,ge]at e;simp only[abk]at hb;have hle:=act hb.1;split at e
    .rename_i cs K;cases e;obtain⟨⟨l,c,el',fz,F,O,Q,U,L,M⟩,g,Z⟩:=h.ver A Y;have G:=F;rw[Z]at F;obtain⟨hlen,m,n⟩:=ij K;have hyl:=bW J;have H:∀ y∈ys,y.oneCell'=true:=λy hy=>by
      obtain⟨i,hi⟩:=apk hy;have N:i<new.length:=by have:=(acy.1 hi).1;omega
      obtain⟨z,hz,hz'⟩:=eT i J (abI N)
      grind [AZ]
     have hroom:new=[]\/a.c - l.base+0+ys.length<=c.size:=by
      rcases m with h0|m
      .exact .inl h0
      .rcases aoG new.length with h0|h0
       .grind
       .right;have hlast:(a.c - u.lo)+(new.length - 1)<u.cells.length:=by omega
        obtain⟨y,_,I⟩:=M _ _ (abI hlast)
        grind
     have q:jp ρ a=some ⟨l.b,a.c - l.base,none⟩:=by simp[jp,F];omega
     rcases hroom with h0|hroom
     .subst h0;have:ys=[]:=by cases J;rfl
      subst this;have hsame:cs=u.cells:=aoC λj=>by rw[n j,ajD (by simp)]
      refine⟨_,w,q,rfl,?_⟩;refine h.turn F A (λ_ h=>by cases h) ⟨rfl,rfl,rfl,rfl,λ_ _=>rfl⟩ _ ⟨(h.blk _ _ A).1,λu' d=>?_⟩;simp at d;subst d;exact⟨((h.blk _ _ A).2 u g).1,l,c,el',fz,G,O,Q,U,L,by rw[hsame];exact M⟩
     .obtain⟨w',c',g1,g2,g3,W,g5⟩:=EP P l.b (a.c - l.base) el' fz ys 0 c w O L.2 hroom H;refine⟨_,w',q,g1,h.turn F A (λ_ h=>by cases h) g2 _ ⟨(h.blk _ _ A).1,λu' d=>?_⟩⟩;simp at d;subst d;refine⟨((h.blk _ _ A).2 u g).1,l,c',el',fz,G,g3,Q,by rw[W];exact U,by rw[W];exact L,λi x B=>?_⟩;simp only at B ⊢;rw[n i]at B;rw[g5];by_cases X:a.c - u.lo<=i/\i<a.c - u.lo+new.length
      .rw[akJ X]at B;rw[akJ (by omega)];obtain⟨y,hy,I⟩:=eT _ J B;exact⟨y,hy,by rw[<- I];congr 1;omega⟩
      .rw[ajD X]at B;rw[ajD (by omega)];exact M i x B
    .cases e
  .cases e
 .cases e
def rv(tm:Array Value):Operand->Value
 |.tmp t=>tm.getD t Go.undef
 |.const v=>v
 |.global g=>.pointer (some ⟨g,0,none⟩)
 |.func f=>.func (.func f) #[] #[]
def rW(fr:Frame):fr.eval=rv fr.tmps:=funext λx=>by cases x<;>rfl
def yC(s:ByteArray):aR (s.data.toList.map UInt8.toNat)=s:=by
 unfold aR;have:(s.data.toList.map UInt8.toNat).map UInt8.ofNat=s.data.toList:=by
  rw[List.map_map]
  conv=>rhs;rw[<- List.map_id s.data.toList]
  exact aoE λx _=>by simp
 rw[this]
def Bc(ρ:aS)(v:Value)(x:V)(h:V.ofCell v=some x):den ρ x=some v:=by
 cases v<;>simp only[V.ofCell]at h
 case string s=>cases h;simp only[den];rw[yC]
 case pointer a=>cases a<;>simp at h;cases h;rfl
 case slice a n c =>
  cases a<;>simp only at h
  .cases hb:(Nat.beq n 0&&Nat.beq c 0)with
   |false=>simp[hb]at h
   |true =>simp only[hb,ge]at h;simp only[abk]at hb;cases h;rw[abj hb.1,abj hb.2];rfl
  .cases h
 case map a=>cases a<;>simp at h;cases h;rfl
 case func fn a b =>
  cases fn<;>simp only at h<;>try cases h
  cases hb:(a.toList.isEmpty&&b.toList.isEmpty)with
  |false=>rw[hb]at h;cases h
  |true =>
   simp only[hb,ge]at h;simp only[abk,List.isEmpty_iff]at hb;cases h;have e:a=#[]:=by cases a;simpa using hb.1
   have d:b=#[]:=by cases b;simpa using hb.2
   subst e;subst d;rfl
 all_goals first|(cases h;rfl)|cases h
def wo(ρ:aS):∀(l:List Value) (m:List V),V.ofCells l=some m->br ρ m=some l
 |[],m,h=>by cases h;rfl
 |x::r,m,h=>by
  simp only[V.ofCells]at h;cases a:V.ofCell x with
  |none=>simp[a]at h
  |some v =>
   cases hr:V.ofCells r with
   |none=>simp[a,hr]at h
   |some q =>simp only[a,hr]at h;cases h;exact bt.2 ⟨x,r,Bc ρ x v a,wo ρ r q hr,rfl⟩
theorem wn(ρ:aS)(v:Value)(x:V)(h:V.ofConst v=some x):den ρ x=some v:=by
 cases v
 case agg cs =>
  simp only[V.ofConst]at h;split at h
  .rename_i l hl;cases h;simp only[den,wo ρ _ _ hl]
  .cases h
 all_goals exact Bc ρ _ x h
def aO{ρ:aS}{t:T V}{tm:Array Value}(b:TR ρ t tm){x:Operand}{v:V}(h:eval t x=some v):den ρ v=some (rv tm x):=by
 cases x with
 |tmp i =>obtain⟨y,hy,a⟩:=b i v h;simp only[rv,aph,a,aor];exact hy
 |const c=>exact wn ρ c v h
 |global g=>cases h
 |func f=>cases h;rfl
def lw{ρ:aS}{t:T V}{tm:Array Value}(b:TR ρ t tm):∀ {l:List Operand} {vs:List V},iI t l=some vs->br ρ vs=some (l.map (rv tm))
 |[],vs,h=>by cases h;rfl
 |x::r,vs,h=>by
  simp only[iI]at h;cases a:eval t x with
  |none=>simp[a]at h
  |some v =>
   cases hr:iI t r with
   |none=>simp[a,hr]at h
   |some q =>simp only[a,hr]at h;cases h;exact bt.2 ⟨_,_,aO b a,lw b hr,rfl⟩
section types
variable{P:Program}
def fy{t:TypeId}{zv:V}(h:zero P t=some zv):∃ z i,P.info? t=some i/\i.zero=some z/\∀ ρ,den ρ zv=some z:=by
 unfold zero at h;cases hi:P.info? t with
 |none=>simp[hi]at h
 |some i =>
  cases a:i.zero with
  |none=>simp[hi,a]at h
  |some z =>grind [wn]
def gA{t:TypeId}{i:TypeInfo}{z:Value}(hi:P.info? t=some i)(a:i.zero=some z)(w:World):(zeroValue t).run P w=.ok z w:=by simp[zeroValue,typeInfo,hi,a]
def uN{t:TypeId}{n:Nat}(h:size P t=some n):∃ i,P.info? t=some i/\i.size=n:=by simp_all[size]
def cN{t:TypeId}{n:Nat}(h:size P t=some n)(w:World):(sizeOf t).run P w=.ok n w:=by obtain⟨i,hi,rfl⟩:=uN h;simp[Go.sizeOf,typeInfo,hi]
def aL{t:TypeId}{d:TypeDesc}(h:P.underlying t=some d)(w:World):(underlying t).run P w=.ok d w:=by simp[underlying,h]
def zz{t:TypeId}{b:Bool}(h:rU P t=some b)(w:World):(isAgg t).run P w=.ok b w:=by
 unfold rU at h;cases a:P.underlying t with
 |none=>simp[a]at h
 |some d =>simp only[a,aoh,acf]at h;subst h;simp only[isAgg,afX,aL a,acW];cases d<;>rfl
def qO{ρ:aS}{s:S}{w:World}(h:HR ρ s w){t:TypeId}{a:Ad}{x:V}(e:loadVar P s t a=some x) :
 ∃ ad y,jp ρ a=some ad/\den ρ x=some y/\(Go.loadVar t ad).run P w=.ok y w:=by
 unfold loadVar at e;cases hb:rU P t with
 |none=>simp[hb]at e
 |some b =>
  cases b with
  |false =>simp only[hb]at e;obtain⟨ad,y,d,g,j⟩:=Bq h e;exact⟨ad,y,d,g,by simp[Go.loadVar,zz hb,j]⟩
  |true =>
   simp only[hb]at e;cases m:size P t with
   |none=>simp[m]at e
   |some n =>
    simp only[m,apv]at e;cases hl:loadCells s a n with
    |none=>simp[hl]at e
    |some l =>simp only[hl,aoh,acf]at e;subst e;obtain⟨ad,ys,d,g,j,q⟩:=jz h hl;refine⟨ad,.agg ys.toArray,d,by simp only[den,g],?_⟩;have:=aoH (P:=P) (w:=w) ad ys q;rw[j]at this;simp[Go.loadVar,zz hb,cN m,this]
def Av{ρ:aS}{s s':S}{w:World}(h:HR ρ s w){t:TypeId}{a:Ad}{v:V}{y:Value}(e:storeVar P s t a v=some s')(d:den ρ v=some y) :
 ∃ ad w',jp ρ a=some ad/\(Go.storeVar t ad y).run P w=.ok () w'/\HR ρ s' w'/\FR ρ w ρ w':=by
 unfold storeVar at e;cases b:size P t with
 |none=>simp[b]at e
 |some n =>
  simp only[b]at e;cases hb:Nat.beq v.cells.length n with
  |false=>simp[hb]at e
  |true =>
   simp only[hb,ge]at e;obtain⟨ad,w',g,j,m,q⟩:=mb P h e (eS d);have hl:y.cells.size=n:=by have:=bW (eS d);simp_all
   exact⟨ad,w',g,by simp[Go.storeVar,cN b,hl,j],m,q⟩
def lh{ρ:aS}{w:World}{t:TypeId}{cs:List V}{ys:Array Value}{off:Nat}{x:V}(h:br ρ cs=some ys.toList)(e:wl P t cs off=some x) :
 ∃ y,den ρ x=some y/\(part t ys off).run P w=.ok y w:=by
 unfold wl at e;cases hb:rU P t with
 |none=>simp[hb]at e
 |some b =>
  cases b with
  |false =>simp only[hb]at e;obtain⟨y,d,a⟩:=eT off h e;rw[akF]at a;exact⟨y,d,by simp[part,zz hb,a]⟩
  |true =>
   simp only[hb]at e;cases g:size P t with
   |none=>simp[g]at e
   |some n =>
    simp only[g,aoh,acf]at e;subst e;have d:=Gg n (Gi off h);refine⟨.agg (ys.extract off (off+n)),?_,by simp[part,zz hb,cN g]⟩;have a:(ys.extract off (off+n))=((ys.toList.drop off).take n).toArray:=by grind
    simp only[den,d,a]
end types
def SX(ρ:aS):ft->Deferred->Prop
 |.call fn cap args,d=>∃ g c a,oi ρ fn=some g/\br ρ cap=some c/\br ρ args=some a/\d={ target:=.fn g c.toArray,args:=a.toArray }
 |.collected r,d=>∃ l,ρ r 0=some l/\d={ target:=.collected l.b,args:=#[] }
def Lq(P:Program)(ρ:aS)(w:World):Nx->Result Next->Prop
 |.val v s,r=>∃ ρ' y w',r=.ok (.value y) w'/\den ρ' v=some y/\HR ρ' s w'/\FR ρ w ρ' w'
 |.skip s,r=>∃ ρ' w',r=.ok .skip w'/\HR ρ' s w'/\FR ρ w ρ' w'
 |.enter f args s,r=>∃ ys,br ρ args=some ys/\r=(callFunc f ys.toArray).run P w/\HR ρ s w
 |.round l args s,r=>∃ lb ys,ρ l 0=some lb/\br ρ args=some ys/\r=(Instr.yield lb.b ys.toArray).run P w/\HR ρ s w
 |.defer d s,r=>∃ rd,SX ρ d rd/\r=.ok (.defer rd) w/\HR ρ s w
 |.recover s,r=>r=.ok .recover w/\HR ρ s w
 |.panic v s,r=>∃ y,den ρ v=some y/\r=.halt (.panic y) w/\HR ρ s w
def DN(P:Program)(ρ:aS)(w:World)(s:S)(nx:Nx)(r:Result Next):Prop:=∃ v y,nx=.val v s/\r=.ok (.value y) w/\den ρ v=some y
def DN.toR{P:Program}{ρ:aS}{s:S}{w:World}{nx:Nx}{r:Result Next}(h:HR ρ s w)(k:DN P ρ w s nx r):Lq P ρ w nx r:=by obtain⟨v,y,rfl,a,b⟩:=k;exact⟨ρ,y,w,a,b,h,FR.refl ρ w⟩
section ops
variable{P:Program}{ρ:aS}{s:S}{w:World}{t:T V}{tm:Array Value}
def bq(_h:HR ρ s w){x:Option V}{nx:Nx}(e:bS s x=some nx){m:Sem Value}
 (hm:∀ v,x=some v->∃ y,den ρ v=some y/\m.run P w=.ok y w):DN P ρ w s nx ((do pure (Next.value (<- m)):Sem Next).run P w):=by
 cases x with
 |none=>cases e
 |some v =>cases e;obtain⟨y,a,b⟩:=hm v rfl;exact⟨v,y,rfl,by simp[b],a⟩
def ug(h:HR ρ s w)(d:TR ρ t tm){c a b:Operand}{nx:Nx}(e:nI t s c a b=some nx) :
 DN P ρ w s nx ((do pure (Next.value (if <- asBool (rv tm c)then rv tm a else rv tm b)):Sem Next).run P w):=by
 unfold nI at e;split at e
 .rename_i q m;have g:=aO d m;simp only[den,acf]at g;unfold bS at e;split at e
  .rename_i v j;cases e;refine⟨_,if q then rv tm a else rv tm b,rfl,by simp[<- g,asBool],?_⟩;cases q
   .exact aO d j
   .exact aO d j
  .cases e
 .cases e
def nL{ρ:aS}{v:V}{y:Value}(h:den ρ v=some y):y.cells.size=v.cells.length:=by have:=bW (eS h);rwa [anX]at this
def wp(h:HR ρ s w){elem:TypeId}{v:V}{y:Value}(a:den ρ v=some y){nx:Nx}(e:qM (bE s elem v.cells)=some nx) :
 Lq P ρ w nx ((do pure (Next.value (.pointer (some (<- newVar elem y)))):Sem Next).run P w):=by
 obtain⟨ρ',b,d,g⟩:=im h false elem elem (cs:=v.cells) (ys:=y.cells) (by rw[eS a,<- nL a,aog (by simp)]) (0,0) ⟨λ_=>rfl,by simp⟩;simp only[qM,bE,bD]at e;cases e;exact⟨ρ',_,_,by simp[newVar,newRow];rfl,by simp[den,jp,b],d,g⟩
def Et(h:HR ρ s w){elem:TypeId}{nx:Nx}(e:jU P s elem=some nx) :
 Lq P ρ w nx ((do pure (Next.value (<- Instr.alloc elem true (.tuple #[]))):Sem Next).run P w):=by
 unfold jU at e;split at e
 .rename_i z b;obtain⟨y,i,hi,a,d⟩:=fy b;have:=wp (P:=P) h (d ρ) e;simp only[Instr.alloc,afX,gA hi a,acW,ajJ]at this ⊢;exact this
 .cases e
def Ky(h:HR ρ s w)(a:TR ρ t tm){elem:TypeId}{x:Operand}{nx:Nx}(e:uk s elem (eval t x)=some nx) :
 Lq P ρ w nx ((do pure (Next.value (<- Instr.box elem (rv tm x))):Sem Next).run P w):=by
 unfold uk at e;split at e
 .rename_i z b;have:=wp (P:=P) h (aO a b) e;simp only[Instr.box,afX,ajJ]at this ⊢;exact this
 .cases e
def ui(h:HR ρ s w)(d:TR ρ t tm){ty:TypeId}{x:Operand}{nx:Nx}(e:jC P s ty (eval t x)=some nx) :
 DN P ρ w s nx ((do pure (Next.value (<- Instr.loadAt ty (rv tm x))):Sem Next).run P w):=by
 unfold jC at e;split at e
 .rename_i a g;have b:=aO d g;refine bq h e λv j=>?_;obtain⟨ad,y,m,n,q⟩:=qO h j;simp only[den,m,acf]at b;exact⟨y,n,by simp[Instr.loadAt,Instr.sureAddr,<- b,q]⟩
 .cases e
def Ep(h:HR ρ s w)(b:TR ρ t tm){ty:TypeId}{x y:Operand}{nx:Nx}(e:uf P s ty (eval t x) (eval t y)=some nx) :
 Lq P ρ w nx ((do Instr.storeAt ty (rv tm x) (rv tm y);pure Next.skip:Sem Next).run P w):=by
 unfold uf at e;split at e
 .rename_i a g;have d:=aO b g;split at e
  .rename_i v j;have m:=aO b j;unfold Mm at e;split at e
   .rename_i s' n;cases e;obtain⟨ad,w',q,u,z,A⟩:=Av h n m;simp only[den,q,acf]at d;exact⟨ρ,w',by simp[Instr.storeAt,Instr.sureAddr,<- d,u],z,A⟩
   .cases e
  .cases e
 .cases e
def oh(h:HR ρ s w)(d:TR ρ t tm){x:Operand}{i:Nat}{nx:Nx}(e:bS s (qh (eval t x) i)=some nx) :
 DN P ρ w s nx ((do pure (Next.value (<- Instr.extract (rv tm x) i)):Sem Next).run P w):=by
 refine bq h e λv b=>?_;unfold qh at b;split at b
 .rename_i vs g;have a:=aO d g;simp only[den]at a;split at a
  .rename_i l hl;obtain⟨y,j,m⟩:=eT i hl b;simp only[acf]at a;exact⟨y,j,by simp[Instr.extract,<- a,m]⟩
  .cases a
 .cases b
def pE(h:HR ρ s w)(m:TR ρ t tm){fn:Fn}{first cap:Array Operand}{nx:Nx}(e:bS s (uh fn (iI t first.toList) (iI t cap.toList))=some nx) :
 DN P ρ w s nx ((do pure (Next.value (<- Instr.makeFunc fn (first.map (rv tm)) (cap.map (rv tm)))):Sem Next).run P w):=by
 refine bq h e λv d=>?_;unfold uh at d;split at d
 .cases d
 .rename_i j;unfold Ht at d;split at d
  .rename_i a n;split at d
   .rename_i b hb;cases d;have q:oi ρ fn=some fn:=by cases fn<;>first|rfl|exact absurd rfl (j _)
    refine⟨.func fn (first.map (rv tm)) (cap.map (rv tm)),?_,by simp[Instr.makeFunc]⟩;simp only[den,q,lw m n,lw m hb];have g:∀ l:Array Operand,(List.map (rv tm) l.toList).toArray=l.map (rv tm):=λl=>by cases l;simp
    rw[g,g]
   .cases d
  .cases d
def Ms{x:Option V}{n:Nat}(h:eA x=some n):∃ k,x=some (.int k (.ofNat n)):=by
 cases x with
 |none=>cases h
 |some v =>
  cases v<;>try(cases h;done)
  rename_i k m;cases m<;>cases h
  grind
def od(h:HR ρ s w)(g:TR ρ t tm){ty:TypeId}{x:Operand}{nx:Nx}(e:bS s (qe P ty (eval t x))=some nx) :
 DN P ρ w s nx ((do pure (Next.value (<- Instr.makeInterface ty (rv tm x))):Sem Next).run P w):=by
 refine bq h e λv a=>?_;unfold qe at a;split at a
 .cases a
 .rename_i d j b;split at a
  .rename_i y hy;cases a;refine⟨.iface ty (rv tm x),by simp only[den,aO g hy],?_⟩;simp only[Instr.makeInterface,afX,aL b,acW];cases d<;>first|rfl|exact absurd rfl (j _)
  .cases a
 .cases a
def rg(h:HR ρ s w)(j:TR ρ t tm){ty:TypeId}{x:Operand}{f:Nat}{nx:Nx}(e:bS s (uj P ty (eval t x) f)=some nx) :
 DN P ρ w s nx ((do pure (Next.value (<- Instr.field ty (rv tm x) f)):Sem Next).run P w):=by
 refine bq h e λv a=>?_;unfold uj at a;split at a
 .rename_i fs d;split at a
  .rename_i cs m;have b:=aO j m;simp only[den]at b;split at b
   .rename_i l hl;simp only[acf]at b;split at a
    .rename_i fd g;obtain⟨y,n,q⟩:=lh (w:=w) (ys:=l.toArray) (by simpa using hl) a;exact⟨y,n,by simp[Instr.field,aL d,g,<- b,asAgg,q]⟩
    .cases a
   .cases b
  .cases a
 .cases a
def kP(b off n:Nat):(⟨b,off,none⟩:Addr).add n=⟨b,off+n,none⟩:=by
 unfold Addr.add;split
 .grind
 .rfl
theorem zV{a:Ad}{l:DT}(hl:ρ a.f a.v=some l)(h:l.base<=a.c):jp ρ a=some ⟨l.b,a.c - l.base,none⟩:=by grind [jp]
def um{a:Ad}{x:Addr}(h:jp ρ a=some x):∃ l,ρ a.f a.v=some l/\l.base<=a.c/\x=⟨l.b,a.c - l.base,none⟩:=by grind [jp]
theorem un{a:Ad}{x:Addr}(n:Nat)(h:jp ρ a=some x):jp ρ (cV a n)=some (x.add n):=by
 obtain⟨l,b,h2,rfl⟩:=um h;have d:ρ (cV a n).f (cV a n).v=some l:=b;rw[zV d (by show l.base<=a.c+n;omega),kP];have:(cV a n).c - l.base=a.c - l.base+n:=by show a.c+n - l.base=_;omega
 rw[this]
def lB(h:HR ρ s w)(A:TR ρ t tm){ty:TypeId}{x:Operand}{f:Nat}{nx:Nx}(e:bS s (jo P ty (eval t x) f)=some nx) :
 DN P ρ w s nx ((do pure (Next.value (<- Instr.fieldAt ty (rv tm x) f)):Sem Next).run P w):=by
 refine bq h e λv b=>?_;unfold jo at b;split at b
 .rename_i fs m;split at b
  .rename_i a B;have g:=aO A B;simp only[den]at g;split at g
   .rename_i ad q;simp only[acf]at g;split at b
    .rename_i u y;cases d:lr u P with
     |true=>simp[d]at b
     |false =>
      simp only[d,Xi,acf]at b;subst b;have j:∃ n,size P u.type=some n/\n≠0:=by
       unfold lr at d;split at d
       .rename_i n j;exact⟨n,j,λe=>by subst e;simp at d⟩
       .cases d
      obtain⟨n,j,z⟩:=j;refine⟨.pointer (some (ad.add u.offset)),by simp only[den,un _ q],?_⟩;simp[Instr.fieldAt,aL m,y,<- g,Instr.sureAddr,fieldPlace,cN j,z]
    .cases b
   .cases g
  .cases b
 .cases b
def mB(h:HR ρ s w)(n:TR ρ t tm){x:Operand}{dst:Option Tmp}{type:TypeId}{pos:String}{after:Array Edge}{guard:Option (Nat×Bool)}{nx:Nx}(e:bS s (nJ (eval t x))=some nx) :
 DN P ρ w s nx ((execOp (rv tm) { dst,op:=.nilCheck x,type,pos,after,guard }).run P w):=by
 unfold bS at e;split at e
 .rename_i v d;cases e;unfold nJ at d;split at d
  .rename_i a j;cases d;have b:=aO n j;have g:=b;simp only[den]at g;split at g
   .rename_i ad m;simp only[acf]at g;refine⟨_,.pointer (some ad),rfl,?_,by simp only[den,m]⟩;simp only[execOp,<- g,ajJ]
   .cases g
  .rename_i fn fi ca j;have b:=aO n j;split at d
   .cases d;refine⟨_,rv tm x,rfl,?_,b⟩;simp only[den,oi]at b
    (repeat' split at b)<;>try cases b
    simp only[acf]at b;simp only[execOp,<- b,ajJ]
   .cases d;refine⟨_,rv tm x,rfl,?_,b⟩;simp only[den,oi]at b
    (repeat' split at b)<;>try cases b
    simp only[acf]at b;rename_i g _ _ _ _ _ _;simp only[execOp,<- b];split at g<;>cases g;simp only[ajJ]
   .cases d
  .cases d
 .cases e
end ops
def cA(l:List Nat):(aR l).toList=l.map UInt8.ofNat:=by unfold aR;simp
def mN:∀ {a b:List Nat} {r:Bool},ma a b=some r->((aR a).toList==(aR b).toList)=r:=by
 intro a;induction a with
 |nil =>
  intro b r h;cases b with
  |nil=>cases h;rw[cA];rfl
  |cons y b=>cases h;rw[cA,cA];rfl
 |cons x a ih =>
  intro b r h;cases b with
  |nil=>cases h;rw[cA,cA];rfl
  |cons y b =>
   simp only[ma]at h;cases hb:Nat.beq x y with
   |true =>simp only[hb,ge]at h;have e:=abj hb;have h1:=ih h;simp_all[cA]
   |false =>
    simp only[hb,Xi]at h;cases hc:(Nat.blt x 256&&Nat.blt y 256)with
    |false=>simp[hc]at h
    |true =>
     simp only[hc,ge,acf]at h;subst h;simp only[abk,Nat.blt_eq]at hc;rw[cA,cA];simp only[ads];have hne:¬ UInt8.ofNat x=UInt8.ofNat y:=λe=>by have:=anL UInt8.toNat e;rw[UInt8.toNat_ofNat',UInt8.toNat_ofNat']at this;simp_all[Nat.mod_eq_of_lt]
     grind
section
variable{P:Program}{ρ:aS}{s:S}{w:World}
def wj(h:HR ρ s w){a:Ad}(hp:bX s a=true):∃ l c e,ρ a.f a.v=some l/\w.heap[l.b]? = some (.cells c e (0,0)):=by
 unfold bX at hp;split at hp
 .rename_i el sb nv vers d;simp only[abk,aoe]at hp;obtain⟨u,g⟩:=Option.isSome_iff_exists.1 hp.2;obtain⟨⟨l,c,e,fz,h1,h2,h3,h4,⟨h5,_⟩,h6⟩,_,hv⟩:=h.ver d g
  grind
 .cases hp
def Jn(h:HR ρ s w){a b:Ad}{r:Bool}(e:OY (bX s) a b=some r){A B:Addr}(G:jp ρ a=some A)(hb:jp ρ b=some B) :
 (sameAddr A B).run P w=.ok r w:=by
 unfold OY at e;cases hp:(bX s a&&bX s b)with
 |false=>simp[hp]at e
 |true =>
  simp only[hp,ge]at e;simp only[abk]at hp;obtain⟨la,d,ha2,rfl⟩:=um G;obtain⟨lb,g,hb2,rfl⟩:=um hb;obtain⟨l1,c1,H,z,m⟩:=wj h hp.1;obtain⟨l2,c2,I,F,q⟩:=wj h hp.2;rw[d]at z;cases z;rw[g]at F;cases F;cases u:Nat.beq a.f b.f with
  |true =>
   simp only[u,ge]at e;cases y:Nat.beq a.v b.v with
   |false=>simp[y]at e
   |true =>
    simp only[y,ge,acf]at e;rw[abj u,abj y,g]at d;cases d;simp only[sameAddr,apw,apn];show Result.ok _ _=_;congr 1;subst e;cases hc:Nat.beq a.c b.c with
    |true=>rw[abj hc];simp
    |false =>
     have j:a.c≠b.c:=λe=>by rw[e]at hc;simp at hc
     simp;omega
  |false =>
   simp only[u,Xi,acf]at e;subst e;have j:la.b≠lb.b:=λe=>by have:=(h.inj _ _ _ _ _ _ d g e).1;simp_all
   have J:(la.b==lb.b)=false:=by simpa using j
   have fa:w.frozen? ⟨la.b,a.c - la.base,none⟩=false:=by simp[World.frozen?,m]
   have fb:w.frozen? ⟨lb.b,b.c - lb.base,none⟩=false:=by simp[World.frozen?,q]
   have fa':∀ n,w.frozen? { block:=la.b,off:=n }=false:=λn=>by simp[World.frozen?,m]
   have fb':∀ n,w.frozen? { block:=lb.b,off:=n }=false:=λn=>by simp[World.frozen?,q]
   have sa:w.shape? la.b=some (H,c1.size):=by simp[World.shape?,m]
   have sb:w.shape? lb.b=some (I,c2.size):=by simp[World.shape?,q]
   simp[sameAddr,J,fa,fb,noView,viewAt,sa,sb,mayBeOne,stringish,fa',fb']
def KA{fn:Fn}{fi ca:List V}{x:Value}(h:den ρ (.func fn fi ca)=some x):∃ g a b,x=.func g a b:=by grind [den]
def wD{t:TypeId}{fs:Array Field}(h:P.underlying t=some (.struct fs)):P.fieldsOf t=fs:=by unfold Program.fieldsOf;rw[h]
def pA{eq:TypeId->V->V->Option Bool}{d:Nat}(e:∀ t x y r X Y,eq t x y=some r->den ρ x=some X->den ρ y=some Y->(Op.equalIn d t X Y).run P w=.ok r w) :
 ∀(fs:List Field) (xs ys:List V) (X Y:Array Value) (r:Bool),kh P eq fs xs ys=some r->br ρ xs=some X.toList->br ρ ys=some Y.toList ->
  (Op.eqFields d X Y fs).run P w=.ok r w
 |[],xs,ys,X,Y,r,h,_,_=>by cases h;rfl
 |f::fs,xs,ys,X,Y,r,h,F,hy=>by
  simp only[kh]at h;cases m:(f.name == "_")with
  |true=>simp[m]at h
  |false =>
   simp only[m,Xi]at h;have n:f.name ≠ "_" := by simpa using m
   split at h
   .rename_i a b G hb;obtain⟨A,g,q⟩:=lh (P:=P) (w:=w) F G;obtain⟨B,j,u⟩:=lh (P:=P) (w:=w) hy hb;simp only[Op.eqFields,n,ne_eq,not_false_eq_true,apn,afX,q,u,acW];split at h
    .rename_i z;rw[e _ _ _ _ _ _ z g j];simpa using pA e fs xs ys X Y r h F hy
    .rename_i z;cases h;rw[e _ _ _ _ _ _ z g j];simp
    .cases h
   .cases h
set_option maxHeartbeats 3000000 in
def yw(h:HR ρ s w):∀(d:Nat) (t:TypeId) (x y:V) (r:Bool) (X Y:Value) (u:Nat),du P (bX s) d t x y=some r->den ρ x=some X->den ρ y=some Y->d<=u ->
 (Op.equalIn u t X Y).run P w=.ok r w:=by
 intro d;induction d with
 |zero=>intro t x y r X Y u e;cases e
 |succ d ih =>
  intro t x y r X Y u e m hy hd;obtain⟨u,rfl⟩:∃ n,u=n+1:=⟨u - 1,by omega⟩;simp only[du]at e;split at e
  .rename_i fs q;split at e
   .rename_i xs ys;cases H:P.stoodInHeld t with
    |true=>simp[H]at e
    |false =>
     simp only[H,Xi]at e;simp only[den]at m hy;split at m
     .rename_i lx I;split at hy
      .rename_i ly J;cases m;cases hy;rw[run_equalIn_struct w u t _ _ (by rw[wD q];exact q) H,wD q];exact pA (λt x y r X Y e O Q=>ih t x y r X Y u e O Q (by omega)) fs.toList xs ys _ _ r e (by simpa using I) (by simpa using J)
      .cases hy
     .cases m
   .cases e
  .rename_i ms q;split at e
   .cases m;cases hy;cases e;simp[Op.equalIn,aL q]
   .rename_i ty vy;simp only[den]at hy;split at hy
    .cases m;cases hy;cases e;simp[Op.equalIn,aL q]
    .cases hy
   .rename_i tx vx;simp only[den]at m;split at m
    .cases m;cases hy;cases e;simp[Op.equalIn,aL q]
    .cases m
   .rename_i tx vx ty vy;simp only[den]at m hy;split at m
    .rename_i zx K;split at hy
     .rename_i zy L;cases m;cases hy;cases G:Nat.beq tx ty with
      |false =>
       simp only[G,Xi,acf]at e;subst e;have F:tx≠ty:=λe=>by rw[e]at G;simp at G
       simp[Op.equalIn,aL q,F]
      |true =>
       simp only[G,ge]at e;have:=abj G;subst this;split at e
       .rename_i i hi;cases hc:i.comparable with
        |false=>simp[hc]at e
        |true =>simp only[hc,ge]at e;have:=ih _ _ _ _ _ _ u e K L (by omega);simp[Op.equalIn,aL q,typeInfo,hi,hc,this]
       .cases e
     .cases hy
    .cases m
   .cases e
  .rename_i q;split at e
   .cases m;cases hy;cases e;simp[Op.equalIn,aL q]
   .cases e
  .rename_i k0 q;split at e
   .rename_i j a k b;cases hk:dE j k with
    |false=>simp[hk]at e
    |true =>simp only[hk,ge,acf]at e;have M:j=k:=akM hk;subst M;cases m;cases hy;subst e;simp[Op.equalIn,aL q]
   .cases e
  .rename_i q;split at e
   .rename_i a b;cases m;cases hy;have:=mN e;simp[Op.equalIn,aL q,beq_toListBytes,this]
   .cases e
  .rename_i el q;split at e
   .cases m;cases hy;cases e;simp[Op.equalIn,aL q]
   .rename_i b;simp only[den]at hy;split at hy
    .cases m;cases hy;cases e;simp[Op.equalIn,aL q]
    .cases hy
   .rename_i a;simp only[den]at m;split at m
    .cases m;cases hy;cases e;simp[Op.equalIn,aL q]
    .cases m
   .rename_i a b;simp only[den]at m hy;split at m
    .rename_i A hA;split at hy
     .rename_i B hB;cases m;cases hy;split at e
      .rename_i n U;cases N:Nat.beq n 0 with
       |true=>simp[N]at e
       |false =>
        simp only[N,Xi]at e;have F:n≠0:=λe=>by subst e;simp at N
        have:=Jn (P:=P) h e hA hB;simp[Op.equalIn,aL q,cN U,F,this]
      .cases e
     .cases hy
    .cases m
   .cases e
  .rename_i el q;split at e
   .cases m;cases hy;cases e;simp[Op.equalIn,aL q]
   .rename_i a z n c sz;simp only[den,iJ]at hy
    (repeat' split at hy)<;>first|(cases hy;done)|(cases m;cases hy;cases e;simp[Op.equalIn,aL q])
   .rename_i a z n c sz;simp only[den,iJ]at m
    (repeat' split at m)<;>first|(cases m;done)|(cases m;cases hy;cases e;simp[Op.equalIn,aL q])
   .cases e
  .rename_i k el q;split at e
   .cases m;cases hy;cases e;simp[Op.equalIn,aL q]
   .simp only[den]at hy;split at hy
    .cases m;cases hy;cases e;simp[Op.equalIn,aL q]
    .cases hy
   .simp only[den]at m;split at m
    .cases m;cases hy;cases e;simp[Op.equalIn,aL q]
    .cases m
   .cases e
  .rename_i q;split at e
   .cases m;cases hy;cases e;simp[Op.equalIn,aL q]
   .obtain⟨g,a,b,rfl⟩:=KA hy;cases m;cases e;simp[Op.equalIn,aL q]
   .obtain⟨g,a,b,rfl⟩:=KA m;cases hy;cases e;simp[Op.equalIn,aL q]
   .cases e
  .cases e
end
section ops
variable{P:Program}{ρ:aS}{s:S}{w:World}{t:T V}{tm:Array Value}
def JS{op:BinOp}{k:IntKind}{a b:Int}{v:V}(ty:TypeId)(d:qb op=false)(h:FH op k a b=some v) :
 ∃ y,den ρ v=some y/\(Go.binOp op ty (.int k a) (.int k b)).run P w=.ok y w:=by
 cases op<;>simp only[qb,Bool.true_eq_false]at d<;>simp only[FH,cX]at h
 case quo =>
  cases hb:(b==0)with
  |true=>simp[hb]at h
  |false =>
   simp only[hb,Xi,acf]at h;subst h;have:b≠0:=by simpa using hb
   exact⟨_,rfl,by simp[Go.binOp,Op.intDiv,this]⟩
 case rem =>
  cases hb:(b==0)with
  |true=>simp[hb]at h
  |false =>
   simp only[hb,Xi,acf]at h;subst h;have:b≠0:=by simpa using hb
   exact⟨_,rfl,by simp[Go.binOp,Op.intDiv,this]⟩
 all_goals first
  |cases h;done
  |(cases h;exact⟨_,rfl,by simp[Go.binOp,Op.intArith,Op.intCmp,Op.intBits]⟩)
def DX{op:BinOp}{k yk:IntKind}{a b:Int}{v:V}(ty:TypeId)(h:GO op k a b=some v) :
 ∃ y,den ρ v=some y/\(Go.binOp op ty (.int k a) (.int yk b)).run P w=.ok y w:=by
 cases b with
 |negSucc n=>cases h
 |ofNat n =>
  have h0:¬(Int.ofNat n<0):=Int.not_lt.2 (Int.natCast_nonneg n)
  cases op<;>simp only[GO,cX]at h<;>first
   |(cases h;done)
   |(cases h;exact⟨_,rfl,by simp[Go.binOp,Op.shift];intro h;omega⟩)
def IX{op:BinOp}{a b:List Nat}{v:V}(ty:TypeId)(h:At op a b=some v) :
 ∃ y,den ρ v=some y/\(Go.binOp op ty (.string (aR a)) (.string (aR b))).run P w=.ok y w:=by
 cases op<;>simp only[At]at h
 case add =>
  cases hb:Nat.ble (a.length+b.length) 1000000 with
  |false=>simp[hb]at h
  |true =>
   simp only[hb,ge,acf]at h;subst h;have hl:=act hb;have sa:(aR a).size=a.length:=by unfold aR;simp[ByteArray.size]
   have sb:(aR b).size=b.length:=by unfold aR;simp[ByteArray.size]
   have e:aR a++aR b=aR (a++b):=by apply ByteArray.ext;simp[aR]
   refine⟨_,rfl,?_⟩;have g:¬(((aR a).size+(aR b).size:Nat):Int)>IntKind.i64.max:=by rw[sa,sb];simp only[IntKind.max,IntKind.signed,IntKind.bits];simp;omega
   simp only[Go.binOp,Op.stringOp];rw[ajD g,e];rfl
 case eql =>
  cases d:ma a b with
  |none=>simp[d]at h
  |some r =>simp only[d,aoh,acf]at h;subst h;exact⟨_,rfl,by simp only[Go.binOp,Op.stringOp,mN d];rfl⟩
 case neq =>
  cases d:ma a b with
  |none=>simp[d]at h
  |some r =>simp only[d,aoh,acf]at h;subst h;exact⟨_,rfl,by simp only[Go.binOp,Op.stringOp,mN d];rfl⟩
 case lss =>cases h;exact⟨_,rfl,by simp only[Go.binOp,Op.stringOp,cA,pL];rfl⟩
 all_goals cases h
def Nm{op:BinOp}{ty:TypeId}{ox oy:Operand}{a b:V}{A B:Value}(e:iq P op ty ox oy a b=true)(d:den ρ a=some A)(hb:den ρ b=some B) :
 (eqGuard op ty ox oy A B).run P w=.ok () w:=by
 unfold iq at e;cases g:vE op with
 |false=>cases op<;>simp only[vE,Bool.true_eq_false]at g<;>simp[eqGuard]
 |true =>
  rw[g]at e;simp only[ge]at e
  have key:∀(A B:Value),(A=.nilIface->B=.nilIface->(fS ox||fS oy)=true)->(∀ xs ys,A=.agg xs->B=.agg ys->P.eqGuardType P.depth ty=false) ->
   (eqGuard op ty ox oy A B).run P w=.ok () w:=by
   intro A B j m;by_cases h:A=.nilIface/\B=.nilIface
   .obtain⟨rfl,rfl⟩:=h;have:=j rfl rfl;cases op<;>simp only[vE,aoo]at g<;>cases ox<;>cases oy<;>simp[fS]at this<;>simp[eqGuard]
   .by_cases hm:∃ xs ys,A=.agg xs/\B=.agg ys
    .obtain⟨xs,ys,rfl,rfl⟩:=hm;exact run_eqGuard_agg w op ty ox oy xs ys (m xs ys rfl rfl)
    .cases op<;>simp only[vE,aoo]at g<;>(cases A<;>first|rfl|(cases B<;>first|rfl|(exact absurd ⟨rfl,rfl⟩ h)|(exact absurd ⟨_,_,rfl,rfl⟩ hm)))
  refine key A B (λhA hB=>?_) (λxs ys hA hB=>?_)
  .subst hA;subst hB;have na:a=.nilIface:=by cases a<;>simp only[den,iJ]at d<;>(repeat' split at d)<;>first|rfl|(simp at d;done)|cases d
   have nb:b=.nilIface:=by cases b<;>simp only[den,iJ]at hb<;>(repeat' split at hb)<;>first|rfl|(simp at hb;done)|cases hb
   subst na;subst nb;exact e
  .subst hA;subst hB;have na:∃ l,a=.agg l:=by cases a<;>simp only[den,iJ]at d<;>(repeat' split at d)<;>first|exact⟨_,rfl⟩|(simp at d;done)|cases d
   have nb:∃ l,b=.agg l:=by cases b<;>simp only[den,iJ]at hb<;>(repeat' split at hb)<;>first|exact⟨_,rfl⟩|(simp at hb;done)|cases hb
   obtain⟨la,rfl⟩:=na;obtain⟨lb,rfl⟩:=nb;simpa using e
def RE{x y:V}:(∃ j a k b,x=.int j a/\y=.int k b)\/(∃ a b,x=.str a/\y=.str b)\/((∀ j a k b,¬(x=.int j a/\y=.int k b))/\∀ a b,¬(x=.str a/\y=.str b)):=by grind
def Jg{ty:TypeId}{X Y:Value}{r:Bool}(h:(Op.equalIn 10000 ty X Y).run P w=.ok r w)(g:∀ j a k b,¬(X=.int j a/\Y=.int k b))(m:∀ a b,¬(X=.string a/\Y=.string b))
 (n:∀ k a,X≠.float k a) (hc:∀ k a b,X≠.complex k a b) :
 (Go.binOp .eql ty X Y).run P w=.ok (.bool r) w/\(Go.binOp .neq ty X Y).run P w=.ok (.bool (!r)) w:=by
 have d:∀(o:Sem Bool),o.run P w=.ok r w->((do pure (.bool (<- o)):Sem Value).run P w=.ok (.bool r) w/\(do pure (.bool (!(<- o))):Sem Value).run P w=.ok (.bool (!r)) w):=λo ho=>by simp[ho]
 have e:(Op.equal ty X Y).run P w=.ok r w:=h
 cases X<;>first
  |exact d _ e
  |(exact absurd rfl (n _ _))
  |(exact absurd rfl (hc _ _ _))
  |(cases Y<;>first
   |exact d _ e
   |(exact absurd ⟨rfl,rfl⟩ (g _ _ _ _))
   |(exact absurd ⟨rfl,rfl⟩ (m _ _)))
def Gf{v:V}{x:Value}(h:den ρ v=some x):(∀ k a,x≠.float k a)/\(∀ k a b,x≠.complex k a b)/\(∀ j a,x=.int j a->v=.int j a)/\(∀ a,x=.string a->∃ l,v=.str l):=by
 cases v<;>simp only[den,iJ]at h<;>(repeat' split at h)<;>first
  |(cases h;done)
  |(cases h;exact⟨λ_ _ e=>(by cases e),λ_ _ _ e=>(by cases e),λ_ _ e=>(by cases e<;>rfl),λ_ e=>(by cases e<;>exact⟨_,rfl⟩)⟩)
def yz(h:HR ρ s w)(I:TR ρ t tm){op:BinOp}{ty:TypeId}{x y:Operand}{nx:Nx}(e:bS s (gC P s op ty x y (eval t x) (eval t y))=some nx) :
 DN P ρ w s nx ((do pure (Next.value (<- (do eqGuard op ty x y (rv tm x) (rv tm y);Go.binOp op ty (rv tm x) (rv tm y):Sem Value))):Sem Next).run P w):=by
 refine bq h e λv d=>?_;unfold gC at d;split at d
 .rename_i a L;split at d
  .rename_i b hb;cases B:iq P op ty x y a b with
   |false=>simp[B]at d
   |true =>
    simp only[B,ge]at d;have da:=aO I L;have db:=aO I hb;have hgo:=Nm (w:=w) B da db;generalize rv tm x=X at *;generalize rv tm y=Y at *;suffices A:∃ y,den ρ v=some y/\(Go.binOp op ty X Y).run P w=.ok y w by simp_all
    rcases RE (x:=a) (y:=b)with⟨j,m,k,n,rfl,rfl⟩|⟨l,m,rfl,rfl⟩|⟨z,F⟩
    .cases da;cases db;simp only[gx]at d;cases A:qb op with
     |true=>rw[A]at d;exact DX ty d
     |false =>
      rw[A]at d;simp only[Xi]at d;cases hk:dE j k with
      |false=>simp[hk]at d
      |true =>simp only[hk,ge]at d;obtain rfl:j=k:=akM hk;exact JS ty A d
    .cases da;cases db;exact IX ty d
    .have g:(match(generalizing:=false) op with
      |.eql=>(du P (bX s) 20 ty a b).map .bool
      |.neq=>(du P (bX s) 20 ty a b).map λb=>.bool (!b)
      |_=>none)=some v:=by
      unfold gx at d;split at d
      .exact absurd ⟨rfl,rfl⟩ (z _ _ _ _)
      .exact absurd ⟨rfl,rfl⟩ (F _ _)
      .exact d
     obtain⟨s1,s2,M,s4⟩:=Gf da;obtain⟨q1,q2,N,q4⟩:=Gf db;have O:∀ j q k u,¬(X=.int j q/\Y=.int k u):=λj q k u ⟨J,K⟩=>z j q k u ⟨M _ _ J,N _ _ K⟩;have G:∀ q u,¬(X=.string q/\Y=.string u):=λq u ⟨J,K⟩=>by grind
     cases H:du P (bX s) 20 ty a b with
     |none=>cases op<;>simp[H]at g
     |some r =>
      have Q:=yw h 20 ty a b r X Y 10000 H da db (by omega);obtain⟨U,W⟩:=Jg Q O G s1 s2
      cases op<;>simp only[H,aoh,acf]at g<;>first
       |(subst g;exact⟨_,rfl,U⟩)
       |(subst g;exact⟨_,rfl,W⟩)
       |cases g
  .cases d
 .cases d
def CX(h:HR ρ s w)(d:TR ρ t tm){op:UnOp}{x:Operand}{nx:Nx}(e:bS s (afn op (eval t x))=some nx) :
 DN P ρ w s nx ((do pure (Next.value (<- Op.unary op (rv tm x))):Sem Next).run P w):=by
 refine bq h e λv b=>?_;unfold afn at b;split at b
 .rename_i a g;have da:=aO d g;generalize rv tm x=X at *
  cases op<;>cases a<;>simp only[Tn]at b<;>first
   |(cases b;done)
   |(cases b;cases da;exact⟨_,rfl,by simp[Op.unary,Op.intArith]⟩)
 .cases b
def pG(h:HR ρ s w)(H:TR ρ t tm){x:Operand}{xt ty:TypeId}{ok:Bool}{nx:Nx}(e:bS s (mD P (eval t x) ty ok)=some nx) :
 DN P ρ w s nx ((do pure (Next.value (<- Instr.typeAssert (rv tm x) xt ty ok)):Sem Next).run P w):=by
 refine bq h e λv b=>?_;unfold mD at b;split at b
 .cases b
 .rename_i d g n;have hfail:∀ v,fU P ty ok=some v->ok=true/\∃ z i,P.info? ty=some i/\i.zero=some z/\den ρ v=some (.tuple #[z,.bool false]):=λv j=>by
   unfold fU at j;cases ok with
   |false=>cases j
   |true =>
    simp only[ge]at j;split at j
    .rename_i z m;obtain⟨y,i,hi,A,a⟩:=fy m;cases j;exact⟨rfl,y,i,hi,A,by simp only[den,br,a ρ]⟩
    .cases j
  split at b
  .rename_i B;have dx:=aO H B;obtain⟨rfl,z,i,hi,m,a⟩:=hfail v b;simp only[den,acf]at dx;refine⟨_,a,?_⟩;simp only[Instr.typeAssert,afX,aL n,acW,<- dx];cases d<;>first|(simp[gA hi m];done)|exact absurd rfl (g _)
  .rename_i u q B;have dx:=aO H B;simp only[den]at dx;split at dx
   .rename_i z m;simp only[acf]at dx;cases hb:Nat.beq u ty with
    |true =>simp only[hb,ge,acf]at b;have F:=abj hb;subst F;subst b;refine⟨if ok then .tuple #[z,.bool true] else z,by cases ok<;>simp[den,br,m],?_⟩;simp only[Instr.typeAssert,afX,aL n,acW,<- dx];cases d<;>first|(simp;done)|exact absurd rfl (g _)
    |false =>
     simp only[hb,Xi]at b;have F:u≠ty:=λe=>by rw[e]at hb;simp at hb
     obtain⟨rfl,z',i,hi,G,a⟩:=hfail v b;refine⟨_,a,?_⟩;simp only[Instr.typeAssert,afX,aL n,acW,<- dx];cases d<;>first|(simp[F,gA hi G];done)|exact absurd rfl (g _)
   .cases dx
  .cases b
 .cases b
end ops
section ops
variable{P:Program}{ρ:aS}{s:S}{w:World}{t:T V}{tm:Array Value}
def ss{a b:Nat}(h:Nat.blt a b=true):a<b:=act h
def iM{a:Ad}{z len sz:Nat}{cap:Option Nat}{y:Value}(h:den ρ (.slice a z len cap sz)=some y)(hz:sz≠0\/0<len) :
 ∃ l,ρ a.f a.v=some l/\l.base<=bK l a z cap sz/\l.base<=a.c/\len<=cM l a cap sz/\0<sz/\y=.slice (some ⟨l.b,bK l a z cap sz - l.base,none⟩) len (cM l a cap sz):=by
 simp only[den,iJ]at h;split at h
 .rename_i h0;split at h
  .rename_i h1;omega
  .cases h
 split at h
 .rename_i l hl;split at h
  .rename_i hc;simp only[acf]at h;exact⟨l,hl,hc.1,hc.2.1,hc.2.2.1,hc.2.2.2,h.symm⟩
  .cases h
 .cases h
def dO{a:Ad}{z len sz:Nat}{cap:Option Nat}{l:DT}(hl:ρ a.f a.v=some l)(d:l.base<=bK l a z cap sz)(e:l.base<=a.c)(g:len<=cM l a cap sz)(h:0<sz) :
 den ρ (.slice a z len cap sz)=some (.slice (some ⟨l.b,bK l a z cap sz - l.base,none⟩) len (cM l a cap sz)):=by
 simp only[den,iJ];rw[ajD (show ¬ sz=0 by omega)];simp only[hl];rw[akJ ⟨d,e,g,h⟩]
def wh{a:Ad}{z len sz:Nat}{cap:Option Nat}{y:Value}(h:den ρ (.slice a z len cap sz)=some y):∃ b c,y=.slice b len c/\∀ d,cap=some d->c=d:=by
 by_cases e:sz=0
 .grind [den,iJ,Option.some.inj]
 .obtain⟨l,_,_,_,_,_,rfl⟩:=iM h (.inl e);exact⟨_,_,rfl,λd hc=>by subst hc;rfl⟩
def UV{n:Nat}(h:Nat.beq n 0=false):n≠0:=λe=>by subst e;cases h
theorem gp{l:DT}{a:Ad}{z len sz:Nat}{cap:Option Nat}(h:len<=cM l a cap sz)(h0:0<len):bK l a z cap sz=a.c:=by
 cases cap with
 |some c=>rfl
 |none=>simp only[bK,cM]at *;rw[ajD (by omega)]
def gS(a:TR ρ t tm){x:Operand}{n:Nat}(h:eA (eval t x)=some n):∃ k,rv tm x=.int k (.ofNat n):=by
 obtain⟨k,hk⟩:=Ms h;have:=aO a hk
 grind [den,Option.some.injEq]
def lA(h:HR ρ s w)(q:TR ρ t tm){ty:TypeId}{x i:Operand}{nx:Nx}(e:bS s (gU P ty (eval t x) (eA (eval t i)))=some nx) :
 DN P ρ w s nx ((do pure (Next.value (<- Instr.indexAt ty (rv tm x) (rv tm i))):Sem Next).run P w):=by
 refine bq h e λv d=>?_;unfold gU at d;split at d
 .rename_i j G;obtain⟨k,hi⟩:=gS q G;split at d
  .rename_i el u;split at d
   .rename_i a z len cap sz y;split at d
    .rename_i n A;cases hb:(Nat.beq n sz&&Nat.blt j len)with
     |false=>simp[hb]at d
     |true =>
      simp only[hb,ge,acf]at d;simp only[abk]at hb;obtain rfl:=abj hb.1;have g:j<len:=ss hb.2;obtain⟨l,m,h2,H,I,h5,F⟩:=iM (aO q y) (.inr (by omega));subst d;have hc:=gp (z:=z) I (by omega);rw[hc]at F;refine⟨.pointer (some ((⟨l.b,a.c - l.base,none⟩:Addr).add (j*n))),by simp only[den,un _ (zV m H)],?_⟩;have hr:(0:Int)<=(j:Int)/\(j:Int)<(len:Int):=by omega
      simp[Instr.indexAt,hi,F,asIntOf,aL u,cN A,g]
    .cases d
   .cases d
  .rename_i len el u;split at d
   .rename_i a y;have m:=aO q y;simp only[den]at m;split at m
    .rename_i ad B;simp only[acf]at m;split at d
     .rename_i n A;cases hb:Nat.blt j len with
      |false=>simp[hb]at d
      |true =>simp only[hb,ge,acf]at d;have g:j<len:=ss hb;subst d;refine⟨.pointer (some (ad.add (j*n))),by simp only[den,un _ B],?_⟩;simp[Instr.indexAt,hi,<- m,asIntOf,Instr.sureAddr,aL u,cN A,g]
     .cases d
    .cases m
   .cases d
  .cases d
 .cases d
theorem dz(l:List Nat)(i:Nat)(c:Nat)(h:l[i]? = some c):(aR l)[i]? = some (UInt8.ofNat c):=by
 have hi:i<l.length:=(acy.1 h).1;have hs:(aR l).size=l.length:=by simp[aR,ByteArray.size]
 have a:i<(aR l).size:=by omega
 rw[getElem?_pos (aR l) i a];have b:=(acy.1 h).2;congr 1;show(aR l).data[i]=_;simp[aR,b]
def ra(h:HR ρ s w)(d:TR ρ t tm){ty:TypeId}{x i:Operand}{nx:Nx}(e:bS s (qf P ty (eval t x) (eA (eval t i)))=some nx) :
 DN P ρ w s nx ((do pure (Next.value (<- Instr.index ty (rv tm x) (rv tm i))):Sem Next).run P w):=by
 refine bq h e λv a=>?_;unfold qf at a;split at a
 .rename_i j u;obtain⟨k,hi⟩:=gS d u;split at a
  .rename_i g;split at a
   .rename_i l m;have b:=aO d m;simp only[den,acf]at b;split at a
    .rename_i c hc;cases a;refine⟨_,rfl,?_⟩;have hb:=dz l j c hc;simp[Instr.index,hi,<- b,asIntOf,aL g,hb];rfl
    .cases a
   .cases a
  .rename_i len el g;split at a
   .rename_i cs m;have b:=aO d m;simp only[den]at b;split at b
    .rename_i l hl;simp only[acf]at b;split at a
     .rename_i n z;cases hb:Nat.blt j len with
      |false=>simp[hb]at a
      |true =>simp only[hb,ge]at a;have q:j<len:=ss hb;obtain⟨y,A,B⟩:=lh (w:=w) (ys:=l.toArray) (by simpa using hl) a;exact⟨y,A,by simp[Instr.index,hi,<- b,asIntOf,aL g,cN z,q,B]⟩
     .cases a
    .cases b
   .cases a
  .cases a
 .cases a
def yU(h:HR ρ s w){ty:TypeId}:Lq P ρ w (.val (.map s.next) (s.alloc (.map [] 0))) ((do pure (Next.value (<- Instr.makeMap ty none)):Sem Next).run P w):=by have hfree:ρ s.next 0=none:=h.fresh _ _ (abH _);obtain⟨a,b⟩:=h.alloc (.map [] 0) (.map #[] 0) 0 0 (abH _) ⟨⟨w.heap.size,0,0⟩,#[],aS.put_same _ _ _ _,eO _ _,trivial⟩;exact⟨_,.map (some w.heap.size),_,by simp[Instr.makeMap],by simp[den,aS.put_same],a,b⟩
def Dh(zs:List Value)(k:Nat)(hk:zs.length=k)(h0:0<k):∀ c:Nat,(List.range (c*k)).map (λi=>zs.toArray[i%zs.toArray.size]!)=(List.replicate c zs).flatten
 |0=>by simp
 |c+1=>by
  rw[aok,aoD,<- Dh zs k hk h0 c,Nat.succ_mul,Nat.add_comm,List.range_add,aiR,List.map_map];congr 1
  .apply List.ext_getElem
   .simp[hk]
   .intro i a b;simp at a;simp[hk,Nat.mod_eq_of_lt a];rw[abI b];rfl
  .apply aoE;intro i _;simp[hk]
def iA{l:List V}{m:List Value}(h:br ρ l=some m):∀ c:Nat,br ρ (List.replicate c l).flatten=some (List.replicate c m).flatten
 |0=>rfl
 |c+1=>by simp_all[aok,aoD,dJ,iA]
def tz(h:HR ρ s w){elem:TypeId}{cs:List V}{ys:Array Value}(d:br ρ cs=some ys.toList){len sz:Nat}{cap:Nat}(hl:len<=cap)(b:0<sz) :
 Lq P ρ w (.val (.slice (bE s elem cs).1 0 len (some cap) sz) (bE s elem cs).2) ((do pure (Next.value (.slice (some (<- newRow elem ys)) len cap)):Sem Next).run P w):=by
 have a:cs.length=ys.size:=by have:=bW d;simpa using this.symm
 obtain⟨ρ',e,g,j⟩:=im h false elem elem (cs:=cs) (ys:=ys) (by rw[d,a,aog (by simp)]) (0,0) ⟨λ_=>rfl,by simp⟩;refine⟨ρ',.slice (some ⟨w.heap.size,0,none⟩) len cap,_,by simp[newRow],?_,g,j⟩;exact dO (l:=⟨w.heap.size,0,ys.size⟩) e (anI _) (anI _) hl b
def mI(n:Nat)(h:n<=2199023255552):IntKind.i64.wrap (Int.ofNat n)=Int.ofNat n:=by simp only[IntKind.wrap,IntKind.bits,IntKind.signed];simp;omega
def yS(h:HR ρ s w)(K:TR ρ t tm){ty:TypeId}{l c:Operand}{nx:Nx}(e:eR P s ty (eA (eval t l)) (eA (eval t c))=some nx) :
 Lq P ρ w nx ((do pure (Next.value (<- Instr.makeSlice ty (rv tm l) (rv tm c))):Sem Next).run P w):=by
 unfold eR at e;split at e
 .rename_i el O;split at e
  .rename_i l' hl;split at e
   .rename_i a hc;obtain⟨k1,Q⟩:=gS K hl;obtain⟨k2,U⟩:=gS K hc;split at e
    .rename_i z W;obtain⟨zv,i,hi,y,d⟩:=fy W;split at e
     .rename_i n X;cases hb:(Nat.ble l' a&&Nat.ble a 2199023255552&&!(Nat.beq n 0)&&Nat.beq z.cells.length n&&fg P el a)with
      |false=>simp[hb]at e
      |true =>
       simp only[hb,ge]at e;simp only[abk]at hb;obtain⟨⟨⟨⟨A,B⟩,F⟩,L⟩,Y⟩:=hb;have A:=act A;have B:=act B;have L:=abj L;have F:0<n:=by grind
       have Y:i.bytes*a<=100000000000000:=by simp_all[fg,act]
       have j:=eS (d ρ);have G:zv.cells.toList.length=n:=by have:=bW j;omega
       have hrow:=Dh zv.cells.toList n G F a;have Z:br ρ (List.replicate a z.cells).flatten=some ((List.replicate a zv.cells.toList).flatten.toArray).toList:=by simpa using iA j a
       have key:=tz (P:=P) h (elem:=el) Z (len:=l') (sz:=n) (cap:=a) A F;simp only[bE,bD]at e key;cases e;have b:(Instr.makeSlice ty (rv tm l) (rv tm c)).run P w=(do pure (.slice (some (<- newRow el (List.replicate a zv.cells.toList).flatten.toArray)) l' a):Sem Value).run P w:=by
        have m:=cN X w;have M:=mI l' (by omega);have N:=mI a B;simp only[apl]at M N;have hA:∀ k n,(asInt (.int k n)).run P w=.ok n w:=λk n=>by simp[asInt,asIntOf]
        have hrow2:Array.map (λx=>zv.cells[x%zv.cells.size]!) (Array.range (a*n))=(List.replicate a zv.cells.toList).flatten.toArray:=by grind
        have q:(decide ((a:Int)<0)||decide ((i.bytes:Int)*(a:Int)>2 ^ 48))=false:=by grind
        have H:decide ((l':Int)<0)=false:=by simp
        have I:decide ((l':Int)>(a:Int))=false:=by simp;omega
        have J:(typeInfo el).run P w=.ok i w:=by simp[typeInfo,hi]
        have hzr:=gA hi y w;simp only[Instr.makeSlice,afX,aL O,acW,Q,U,hA,ajJ,J,apl,M,N,run_askRoom,m,anE];rw[ajD (by rw[q,H,I];simp)];simp only[afX,run_askRoom,acW,m];by_cases u:a*n=0
        .rw[akJ u];have g:∀ f:Nat->Value,Array.map f (Array.range 0)=#[]:=λf=>by simp
         simp only[afX,ajJ,acW,<- hrow2,u,g]
        simp_all
       simp only[afX]at b key ⊢;rw[b];simpa[newRow]using key
     .cases e
    .cases e
   .cases e
  .cases e
 .cases e
def RI{v:V}{n:Nat}(h:qN v=some n):∃ k,v=.int k (.ofNat n):=by
 cases v<;>try(cases h;done)
 rename_i k m;cases m<;>cases h
 grind
def IL(ρ:aS):Option V->Option Value->Prop
 |none,none=>True
 |some v,some y=>den ρ v=some y
 |_,_=>False
def py(a:TR ρ t tm){x:Option Operand}{v:Option V}(h:mA t x=some v):IL ρ v (x.map (rv tm)):=by
 cases x with
 |none=>cases h;trivial
 |some x =>
  simp only[mA]at h;split at h
  .rename_i u b;cases h;exact aO a b
  .cases h
def gb(k:IntKind)(n y:Nat)(c:BoundsCode)(h:n<=y):(Instr.sliceBound (.int k (.ofNat n)) y c).run P w=.ok n w:=by
 have:(0:Int)<=(n:Int)/\(n:Int)<=(y:Int):=by omega
 simp[Instr.sliceBound,asIntOf,h]
def iN{isS:Bool}{len cap m h b:Nat}{lo hi mx:Option V}{lo' a mx':Option Value}(j:IL ρ lo lo')(u:IL ρ hi a)(F:IL ρ mx mx')
 (G:fK mx cap=some m) (z:fK hi len=some h) (q:fK lo 0=some b)
 (l3:m<=cap) (l2:h<=m) (l1:b<=h) (hm:mx.isSome=true->hi.isSome=true):(Instr.sliceBounds isS len cap lo' a mx').run P w=.ok (b,h,m) w:=by
 have key:∀(o:Option V) (o':Option Value) (n:Nat),IL ρ o o'->∀ d:Nat,fK o d=some n->(o=none/\o'=none/\n=d)\/∃ k v,o=some v/\o'=some (.int k (.ofNat n)):=by
  intro o o' n hr d A;cases o with
  |none=>cases o' with
   |none=>exact .inl ⟨rfl,rfl,by cases A;rfl⟩
   |some _=>exact hr.elim
  |some v=>cases o' with
   |none=>exact hr.elim
   |some y =>obtain⟨k,rfl⟩:=RI A;simp only[IL,den,acf]at hr;exact .inr ⟨k,_,rfl,by rw[<- hr]⟩
 rcases key mx mx' m F cap G with⟨rfl,rfl,rfl⟩|⟨B,v3,rfl,rfl⟩
 .rcases key hi a h u len z with⟨rfl,rfl,rfl⟩|⟨e,v2,rfl,rfl⟩
  .rcases key lo lo' b j 0 q with⟨rfl,rfl,rfl⟩|⟨g,v1,rfl,rfl⟩
   .simp[Instr.sliceBounds]
   .simp only[Instr.sliceBounds,afX,ajJ,acW,gb g b _ _ l1]
  .rcases key lo lo' b j 0 q with⟨rfl,rfl,rfl⟩|⟨g,v1,rfl,rfl⟩
   .simp only[Instr.sliceBounds,afX,ajJ,acW,gb e h _ _ l2]
   .simp only[Instr.sliceBounds,afX,ajJ,acW,gb e h _ _ l2,gb g b _ _ l1]
 .rcases key hi a h u len z with⟨rfl,rfl,rfl⟩|⟨e,v2,rfl,rfl⟩
  .simp at hm
  .rcases key lo lo' b j 0 q with⟨rfl,rfl,rfl⟩|⟨g,v1,rfl,rfl⟩
   .simp only[Instr.sliceBounds,afX,ajJ,acW,gb B m _ _ l3,gb e h _ _ l2]
   .simp only[Instr.sliceBounds,afX,ajJ,acW,gb B m _ _ l3,gb e h _ _ l2,gb g b _ _ l1]
def qY(l:List Nat)(b h:Nat):(aR l).extract b h=aR ((l.drop b).take (h - b)):=by apply ByteArray.ext;simp_all[aR,List.map_drop,aoJ,List.extract_eq_take_drop]
def Sy{l:DT}{a:Ad}{sz b:Nat}(hsz:0<sz):(l.lim - (a.c+b*sz)) / sz=(l.lim - a.c) / sz - b:=by rw[<- Nat.sub_sub,Nat.mul_comm b sz,Nat.sub_mul_div]
def GN{ty:TypeId}{x:V}{X:Value}{lo hi mx:Option V}{lo' A mx':Option Value}{v:V}(B:den ρ x=some X)(Q:IL ρ lo lo')(U:IL ρ hi A)(J:IL ρ mx mx')
 (e:dP P ty x lo hi mx=some v):∃ y,den ρ v=some y/\(Instr.sliceAt ty X lo' A mx').run P w=.ok y w:=by
 unfold dP at e;split at e
 .rename_i M;split at e
  .rename_i l;cases mx' with
   |some _=>exact J.elim
   |none =>
   simp only at e;split at e
   .rename_i b h hb F;cases hc:(Nat.ble h l.length&&Nat.ble b h)with
    |false=>simp[hc]at e
    |true =>
     simp only[hc,ge,acf]at e;simp only[abk]at hc;subst e;cases B;have hs:(aR l).size=l.length:=by simp[aR,ByteArray.size]
     have:=iN (P:=P) (w:=w) (isS:=false) (len:=l.length) (cap:=l.length) (m:=l.length) Q U J rfl F hb (abH _) (act hc.1) (act hc.2) (by simp);exact⟨_,rfl,by simp[Instr.sliceAt,Instr.slice,aL M,hs,this,qY]⟩
   .cases e
  .cases e
 .rename_i el M;split at e
  .rename_i sz G;split at e
   .
    cases B;cases hm:(mx.isSome&&!hi.isSome)with
    |true=>rw[hm]at e;cases e
    |false =>
     rw[hm]at e;simp only[Xi]at e;cases hc:(cv (fK lo 0)&&cv (fK hi 0)&&cv (fK mx 0))with
     |false=>simp[hc]at e
     |true =>
      simp only[hc,ge,acf]at e;subst e;simp only[abk]at hc;have N:∀ o:Option Nat,cv o=true->o=some 0:=λo ho=>by
       cases o with
       |none=>cases ho
       |some n=>rw[abj ho]
      have:=iN (P:=P) (w:=w) (isS:=true) (len:=0) (cap:=0) Q U J (N _ hc.2) (N _ hc.1.2) (N _ hc.1.1) (abH _) (abH _) (abH _)
       (λZ=>by cases F:hi with|some _=>rfl|none=>simp[Z,F]at hm)
      exact⟨_,rfl,by simp[Instr.sliceAt,Instr.slice,aL M,cN G,this]⟩
   .
    rename_i a z len cap sz';cases g:(Nat.beq sz' 0||(Nat.beq len 0&&jI cap))with
    |true =>
     rw[g]at e;simp only[ge]at e;cases hc:((cv (fK lo 0)&&cv (fK hi 0)&&cv (fK mx 0))&&!(mx.isSome&&!hi.isSome))with
     |false=>rw[hc]at e;cases e
     |true =>
      rw[hc]at e;simp only[ge,acf]at e;subst e;simp only[abk]at hc;have N:∀ o:Option Nat,cv o=true->o=some 0:=λo ho=>by
       cases o with
       |none=>cases ho
       |some n=>rw[abj ho]
      have hs:∃ q,X=.slice (some q) 0 0:=by
       simp only[den,iJ]at B;split at B
       .grind
       .rename_i I;simp only[apC,abk]at g;rcases g with g|g
        .simp_all
        .obtain rfl:=abj g.1;obtain rfl:cap=some 0:=by
          cases cap with
          |none=>cases g.2
          |some c=>rw[abj g.2]
         split at B
         .split at B
          .cases B;exact⟨_,rfl⟩
          .cases B
         .cases B
      obtain⟨q,rfl⟩:=hs
      have:=iN (P:=P) (w:=w) (isS:=true) (len:=0) (cap:=0) Q U J (N _ hc.1.2) (N _ hc.1.1.2) (N _ hc.1.1.1) (abH _) (abH _) (abH _)
       (λZ=>by cases F:hi with|some _=>rfl|none=>simp[Z,F]at hc)
      exact⟨_,B,by simp[Instr.sliceAt,Instr.slice,aL M,cN G,this]⟩
    |false =>
    rw[g]at e;simp only[Xi]at e;have g:=(aow.1 g).1;obtain⟨l,W,g2,g3,Y,O,rfl⟩:=iM B (.inl (UV g));cases hm:(Nat.beq sz sz'&&!(mx.isSome&&!hi.isSome))with
    |false=>rw[hm]at e;cases e
    |true =>
     rw[hm]at e;simp only[ge]at e;simp only[abk]at hm;obtain rfl:=abj hm.1;have hmh:mx.isSome=true->hi.isSome=true:=λZ=>by cases F:hi with|some _=>rfl|none=>simp[Z,F]at hm
     split at e
     .rename_i b h hb F;split at e
      .cases mx' with
       |some _=>exact J.elim
       |none =>
       split at e
       .rename_i c;cases hc:(Nat.ble h c&&Nat.ble b h)with
        |false=>simp[hc]at e
        |true =>
         simp only[hc,ge]at e;simp only[abk]at hc;have c1:=act hc.1;have c2:=act hc.2;have j:=iN (P:=P) (w:=w) (isS:=true) (len:=len) (cap:=c) Q U J rfl F hb (abH _) c1 c2 (by simp);have u:(Instr.sliceAt ty (.slice (some ⟨l.b,a.c - l.base,none⟩) len c) lo' A none).run P w=.ok (.slice (some (if c=b then⟨l.b,a.c - l.base,none⟩else(⟨l.b,a.c - l.base,none⟩:Addr).add (b*sz))) (h - b) (c - b)) w:=by simp only[Instr.sliceAt,Instr.slice,afX,aL M,acW,j,cN G,ajJ];split<;>simp
         cases d:Nat.beq c b with
         |true =>simp only[d,ge,acf]at e;subst e;obtain rfl:=abj d;refine⟨_,dO W g3 g3 (by show h - c<=0;omega) O,?_⟩;refine aoQ u ?_;rw[akJ rfl];simp[bK,cM]
         |false =>
          simp only[d,Xi,acf]at e;subst e;have I:¬ c=b:=λe=>by subst e;simp at d
          refine⟨_,dO (l:=l) W (by show l.base<=a.c+b*sz;omega) (by show l.base<=a.c+b*sz;omega) (by show h - b<=c - b;omega) O,?_⟩;refine aoQ u ?_;rw[ajD I,kP];simp only[bK,cM,cV];rw[show a.c+b*sz - l.base=a.c - l.base+b*sz by omega]
       .cases hc:(Nat.ble h len&&Nat.ble b h)with
        |false=>simp[hc]at e
        |true =>
         simp only[hc,ge]at e;simp only[abk]at hc;have c1:=act hc.1;have c2:=act hc.2;have j:=iN (P:=P) (w:=w) (isS:=true) (len:=len) (cap:=cM l a none sz) Q U J rfl F hb (abH _) (akG c1 Y) c2 (by simp);have u:∀ q:Addr,(Instr.sliceAt ty (.slice (some q) len (cM l a none sz)) lo' A none).run P w=.ok (.slice (some (if cM l a none sz=b then q else q.add (b*sz))) (h - b) (cM l a none sz - b)) w:=by intro q;simp only[Instr.sliceAt,Instr.slice,afX,aL M,acW,j,cN G,ajJ];split<;>simp
         cases d:Nat.beq b 0 with
         |true =>simp only[d,ge,acf]at e;subst e;obtain rfl:=abj d;refine⟨_,dO W g2 g3 (akG c1 Y) O,?_⟩;rw[u];simp[kP]
         |false =>
          simp only[d,Xi,acf]at e;subst e;have hb0:0<b:=apa λe=>by subst e;simp at d
          have K:cM l (cV a (b*sz)) none sz=cM l a none sz - b:=Sy O;have H:bK l a z none sz=a.c:=gp (len:=len) Y (by omega);have L:bK l (cV a (b*sz)) a.c none sz=if cM l a none sz=b then a.c else a.c+b*sz:=by
           show(if cM l (cV a (b*sz)) none sz=0 then a.c else a.c+b*sz)=_
           grind
          refine⟨_,dO (l:=l) W (by rw[L];split<;>omega) (by show l.base<=a.c+b*sz;omega) (by rw[K];omega) O,?_⟩;rw[u,H,L,K];congr 4;split
          .rfl
          .rw[kP,show a.c+b*sz - l.base=a.c - l.base+b*sz by omega]
      .rename_i mv;split at e
       .rename_i m hmn;cases hc:(Nat.ble m len&&Nat.ble h m&&Nat.ble b h)with
        |false=>simp[hc]at e
        |true =>
         simp only[hc,ge]at e;simp only[abk]at hc;have c1:=act hc.1.1;have c2:=act hc.1.2;have c3:=act hc.2;have j:=iN (P:=P) (w:=w) (isS:=true) (len:=len) (cap:=cM l a cap sz) Q U J hmn F hb (akG c1 Y) c2 c3 hmh;have u:∀ q:Addr,(Instr.sliceAt ty (.slice (some q) len (cM l a cap sz)) lo' A mx').run P w=.ok (.slice (some (if m=b then q else q.add (b*sz))) (h - b) (m - b)) w:=by intro q;simp only[Instr.sliceAt,Instr.slice,afX,aL M,acW,j,cN G,ajJ];split<;>simp
         cases d:Nat.beq m b with
         |true =>
          simp only[d,ge]at e;cases hk:(cap.isSome||Nat.blt 0 len||Nat.beq z a.c)with
          |false=>simp[hk]at e
          |true =>
           simp only[hk,ge,acf]at e;subst e;obtain rfl:=abj d;have H:bK l a z cap sz=a.c:=by
            simp only[apC]at hk;rcases hk with(hk|hk)|hk
            .cases cap with
             |some c=>rfl
             |none=>cases hk
            .exact gp Y (ss hk)
            .obtain rfl:=abj hk;cases cap with
             |some c=>rfl
             |none=>simp[bK]
           refine⟨_,dO W g3 g3 (by show h - m<=0;omega) O,?_⟩;rw[u,akJ rfl,H];simp[bK,cM]
         |false =>
          simp only[d,Xi,acf]at e;subst e;have I:¬ m=b:=λe=>by subst e;simp at d
          have H:bK l a z cap sz=a.c:=gp Y (by omega);refine⟨_,dO (l:=l) W (by show l.base<=a.c+b*sz;omega) (by show l.base<=a.c+b*sz;omega) (by show h - b<=m - b;omega) O,?_⟩;rw[u,ajD I,H,kP];simp only[bK,cM,cV];rw[show a.c+b*sz - l.base=a.c - l.base+b*sz by omega]
       .cases e
     .cases e
   .cases e
  .cases e
 .cases e
def qZ(h:HR ρ s w)(b:TR ρ t tm){ty:TypeId}{x:Operand}{lo hi mx:Option Operand}{nx:Nx}(e:bS s (zS P ty (eval t x) (mA t lo) (mA t hi) (mA t mx))=some nx) :
 DN P ρ w s nx ((do pure (Next.value (<- Instr.sliceAt ty (rv tm x) (lo.map (rv tm)) (hi.map (rv tm)) (mx.map (rv tm)))):Sem Next).run P w):=by
 refine bq h e λv a=>?_;unfold zS at a;split at a
 .rename_i x' m;split at a
  .rename_i lo' d;split at a
   .rename_i hi' g;split at a
    .rename_i mx' j;exact GN (aO b m) (py b d) (py b g) (py b j) a
    .cases a
   .cases a
  .cases a
 .cases a
end ops
section ops
variable{P:Program}{ρ:aS}{s:S}{w:World}{t:T V}{tm:Array Value}
def NQ(ρ:aS):List (Nat×V)->List (Nat×Value)->Prop
 |[],[]=>True
 |(i,v)::r,(j,y)::q=>i=j/\den ρ v=some y/\NQ ρ r q
 |_,_=>False
def jT(b:TR ρ t tm):∀ {l:List (Nat×Operand)} {vs:List (Nat×V)},eP t l=some vs->NQ ρ vs (l.map fun(i,x)=>(i,rv tm x))
 |[],vs,h=>by cases h;trivial
 |(i,x)::r,vs,h=>by
  simp only[eP]at h;cases a:eval t x with
  |none=>simp[a]at h
  |some v =>
   cases hr:eP t r with
   |none=>simp[a,hr]at h
   |some q =>simp only[a,hr]at h;cases h;exact⟨rfl,aO b a,jT b hr⟩
def FQ(off:Nat):∀(vs:List Value) (k:Nat) (c:Array Value),off+k+vs.length<=c.size ->
 ((vs.zipIdx k).foldl (λcs x=>cs.setIfInBounds (off+x.2) x.1) c).size=c.size /\
 ∀ j,((vs.zipIdx k).foldl (λcs x=>cs.setIfInBounds (off+x.2) x.1) c)[j]? = if off+k<=j/\j<off+k+vs.length then vs[j - (off+k)]? else c[j]?
 |[],k,c,_=>⟨rfl,λj=>by rw[ajD (by simp)];rfl⟩
 |v::r,k,c,h=>by
  simp only[aga]at h;simp only[List.zipIdx_cons,apD];obtain⟨h1,h2⟩:=FQ off r (k+1) (c.setIfInBounds (off+k) v) (by simp;omega)
  grind
def kG{placeV place:Nat->Option (Nat×Nat)}(hp:∀ i x,placeV i=some x->place i=some x):∀ {parts:List (Nat×V)} {parts':List (Nat×Value)} {cs out:List V} {ys:Array Value},
 NQ ρ parts parts'->br ρ cs=some ys.toList->qX placeV cs parts=some out->∃ zs:Array Value,Instr.fill place ys parts'=some zs/\br ρ out=some zs.toList
 |[],[],cs,out,ys,_,A,h=>by cases h;exact⟨ys,rfl,A⟩
 |(i,v)::r,(j,y)::q,cs,out,ys,⟨F,M,hr⟩,A,h=>by
  subst F;simp only[qX]at h;split at h
  .cases h
  .rename_i off n G;cases hb:(Nat.beq v.cells.length n&&Nat.blt 0 n)with
   |false=>rw[hb]at h;cases h
   |true =>
    rw[hb]at h;simp only[ge]at h;simp only[abk]at hb;obtain rfl:=abj hb.1;have a:=ss hb.2;cases ho:cI cs off v.cells with
    |none=>simp[ho]at h
    |some cs' =>
     simp only[ho,apv]at h;obtain⟨O,B,Q⟩:=ij ho;have e:=nL M;have b:=bW A;rw[anX]at b;have H:=eS M;let g:Array Value:=(y.cells.toList.zipIdx 0).foldl (λcs x=>cs.setIfInBounds (off+x.2) x.1) ys
     have I:g=y.cells.zipIdx.foldl (λcs (c,j)=>cs.setIfInBounds (off+j) c) ys:=by show List.foldl _ _ _=_;rw[<- Array.foldl_toList,Array.toList_zipIdx]
     have hroom:off+0+y.cells.toList.length<=ys.size:=by
      rcases B with B|B
      .rw[B]at a;simp at a
      .rw[anX];omega
     obtain⟨U,W⟩:=FQ off y.cells.toList 0 ys hroom;have J:g.toList.length=ys.size:=(anX (xs:=g)).trans U;have K:br ρ cs'=some g.toList:=by
      refine lC (by rw[O,J,b]) λi x m=>?_;rw[Q i]at m;rw[akF,show g[i]? = _ from W i];have hyl:y.cells.toList.length=v.cells.length:=by rw[anX,e]
      by_cases N:off<=i/\i<off+v.cells.length
      .rw[akJ N]at m;rw[akJ (by omega)];obtain⟨z,u,d⟩:=eT _ H m;exact⟨z,u,by simpa using d⟩
      .rw[ajD N]at m;rw[ajD (by omega)];obtain⟨z,u,d⟩:=eT _ A m;exact⟨z,u,by rw[<- d,akF]⟩
     obtain⟨zs,u,L⟩:=kG hp hr K h;refine⟨zs,?_,L⟩;simp only[Instr.fill,hp _ _ G];rw[anX]at hroom;rw[ajD (by simp[e];omega),<- I];exact u
 |[],_::_,_,_,_,h,_,_=>h.elim
 |_::_,[],_,_,_,h,_,_=>h.elim
def Bm:∀ {fs:List Field},fs.all (λf=>(size P f.type).isSome)=true ->
 ∃ places,fs.mapM (λf=>(P.info? f.type).map λi=>(f.offset,i.size))=some places/\∀(i:Nat) (f:Field) (n:Nat),fs[i]? = some f->size P f.type=some n->places[i]? = some (f.offset,n)
 |[],_=>⟨[],rfl,λi f n h=>by simp at h⟩
 |f::r,h=>by
  simp only[aof,abk]at h;obtain⟨q,a,h2⟩:=Bm h.2;obtain⟨n,b⟩:=Option.isSome_iff_exists.1 h.1;obtain⟨i,hi,rfl⟩:=uN b;refine⟨(f.offset,i.size)::q,by simp[List.mapM_cons,hi,a],λj g m hj hm=>?_⟩
  grind
def DG{x:Option (List V)}{v:V}(h:Ll x=some v):∃ l,x=some l/\v=.agg l:=by
 cases x with
 |none=>cases h
 |some l=>cases h;exact⟨l,rfl,rfl⟩
def rh(h:HR ρ s w)(G:TR ρ t tm){ty:TypeId}{parts:Array (Nat×Operand)}{nx:Nx}(e:bS s (qi P ty (eP t parts.toList))=some nx) :
 DN P ρ w s nx ((do pure (Next.value (<- Instr.build ty (parts.map fun(i,x)=>(i,rv tm x)))):Sem Next).run P w):=by
 refine bq h e λv a=>?_;unfold qi at a;split at a
 .rename_i z H;obtain⟨zv,it,hi,j,q⟩:=fy H;have u:=eS (q ρ);split at a
  .rename_i l hl;have hp:=jT G hl;have y:(parts.toList.map fun(i,x)=>(i,rv tm x))=(parts.map fun(i,x)=>(i,rv tm x)).toList:=by simp
   rw[y]at hp;split at a
   .rename_i fs A;cases B:fs.toList.all (λf=>(size P f.type).isSome)with
    |false=>rw[B]at a;cases a
    |true =>
     rw[B]at a;simp only[ge]at a;obtain⟨out,ho,rfl⟩:=DG a;obtain⟨places,I,J⟩:=Bm B
     obtain⟨zs,d,g⟩:=kG (place:=(places.toArray[·]?)) (λi x b=>by
      unfold pu at b;split at b
      .rename_i f K;split at b
       .rename_i n L;cases b;simpa using J i f n (by simpa using K) L
       .cases b
      .cases b) hp u ho
     refine⟨.agg zs,by simp only[den,g],run_build w ty _ zs ?_⟩;simp only[Program.built,hi,A,j,I,d]
   .rename_i n el A;split at a
    .rename_i m hm;obtain⟨ie,F,rfl⟩:=uN hm;obtain⟨out,ho,rfl⟩:=DG a;obtain⟨zs,d,g⟩:=kG (place:=λi=>some (i*ie.size,ie.size)) (λi x b=>b) hp u ho;refine⟨.agg zs,by simp only[den,g],run_build w ty _ zs ?_⟩;simp only[Program.built,hi,A,j,F,d]
    .cases a
   .cases a
  .cases a
 .cases a
def sk(h:HR ρ s w)(G:TR ρ t tm){ty:TypeId}{len:Nat}{parts:Array (Nat×Operand)}{nx:Nx}(e:cP P s ty len (eP t parts.toList)=some nx) :
 Lq P ρ w nx ((do pure (Next.value (<- Instr.buildSlice ty len (parts.map fun(i,x)=>(i,rv tm x)))):Sem Next).run P w):=by
 unfold cP at e;split at e
 .rename_i el H;split at e
  .rename_i l hl;have hp:=jT G hl;have q:(parts.toList.map fun(i,x)=>(i,rv tm x))=(parts.map fun(i,x)=>(i,rv tm x)).toList:=by simp
   rw[q]at hp;split at e
   .rename_i z I;obtain⟨zv,it,hi,u,j⟩:=fy I;have m:=eS (j ρ);split at e
    .rename_i n J;cases hb:(Nat.ble (len*n) 10000&&!(Nat.beq n 0)&&Nat.beq z.cells.length n)with
     |false=>rw[hb]at e;cases e
     |true =>
      rw[hb]at e;simp only[ge]at e;simp only[abk]at hb;have b1:=act hb.1.1;have F:0<n:=by
       rcases aoG n with h0|h0
       .subst h0;simp at hb
       .exact h0
      have b3:=abj hb.2;unfold me at e;split at e
      .rename_i cs y;have A:zv.cells.toList.length=n:=by have:=bW m;omega
       have hrow:=Dh zv.cells.toList n A F len;have K:br ρ (List.replicate len z.cells).flatten=some ((List.replicate len zv.cells.toList).flatten.toArray).toList:=by simpa using iA m len
       obtain⟨zs,d,B⟩:=kG (place:=λi=>some (i*n,n)) (λi x L=>L) hp K y;have key:=tz (P:=P) h (elem:=el) B (len:=len) (sz:=n) (cap:=len) (abH _) F;simp only[bE,bD]at e key;cases e;have hrow2:Array.map (λx=>zv.cells[x%zv.cells.size]!) (Array.range (len*n))=(List.replicate len zv.cells.toList).flatten.toArray:=by grind
       have b:(Instr.buildSlice ty len (parts.map fun(i,x)=>(i,rv tm x))).run P w=(do pure (.slice (some (<- newRow el zs)) len len):Sem Value).run P w:=by
        simp only[Instr.buildSlice,afX,aL H,acW,cN J];rw[ajD (by omega)];by_cases a:len*n=0
        .rw[akJ a];have g:∀ f:Nat->Value,Array.map f (Array.range 0)=#[]:=λf=>by simp
         rw[<- hrow2,a,g]at d;simp only[afX,ajJ,acW,a,g,d]
        .rw[ajD a];simp only[afX,gA hi u,acW,ajJ,hrow2,d]
       simp only[afX]at b key ⊢;rw[b];simpa[newRow]using key
      .cases e
    .cases e
   .cases e
  .cases e
 .cases e
end ops
section ops
variable{P:Program}{ρ:aS}{s:S}{w:World}{t:T V}{tm:Array Value}
def mT{r:Nat}{es:Array MapEntry}{c:Nat}(h:w.heap[r]? = some (.map es c)):(getObj r).run P w=.ok (.map es c) w:=by simp only[getObj,Sem.run,h]
def AF{r:Nat}{es:Array MapEntry}{c:Nat}(h:w.heap[r]? = some (.map es c))(o:Obj):(setObj r o).run P w=.ok () { w with heap:=w.heap.setIfInBounds r o }:=by simp only[setObj,Sem.run,h]
def zY(w:World)(r:Nat)(o:Obj):But w { w with heap:=w.heap.setIfInBounds r o } r :=
 ⟨by simp,rfl,rfl,rfl,λk hk=>by simp[apz hk]⟩
def Jb{r:Nat}{o':Obj}(h:w.heap[r]? = some o')(o:Obj):({ w with heap:=w.heap.setIfInBounds r o }:World).heap[r]? = some o:=by grind
def kW{kt:TypeId}(h:eI P kt=true):∃ d,P.underlying kt=some d/\((∃ k,d=.int k)\/d=.string\/d=.bool\/∃ e,d=.pointer e):=by grind [eI]
def jP{kt:TypeId}(h:eI P kt=true)(b:Bool)(K:Value):(Instr.checkKey b 10000 kt K).run P w=.ok () w:=by obtain⟨d,a,g⟩:=kW h;show(Instr.checkKey b (9999+1) kt K).run P w=_;rw[Instr.checkKey];simp only[afX,aL a,acW];rcases g with⟨k,rfl⟩|rfl|rfl|⟨e,rfl⟩<;>rfl
structure abe(P:Program)(ρ:aS)(w:World)(kt:TypeId)(eq:V->V->Option Bool)(k:V)(K:Value):Prop where
 ask:∀ key y r,eq k key=some r->den ρ key=some y->(Op.equal kt K y).run P w=.ok r w
 same:∀ key y,eq k key=some true->den ρ key=some y->y=K
 now:∀ d,P.underlying kt=some d->(∀ key y r,eq k key=some r->den ρ key=some y->Instr.sameNow d K y=some r)\/(∀ y,Instr.sameNow d K y=none)
 bits:∀ n,Instr.sameBits (n+1) K K=true
def Au:∀ {a b:List Nat},ma a b=some true->a=b
 |[],[],_=>rfl
 |[],_::_,h=>by cases h
 |_::_,[],h=>by cases h
 |a::x,b::y,h=>by
  simp only[ma]at h;cases hb:Nat.beq a b with
  |true=>rw[hb]at h;rw[abj hb,Au h]
  |false =>grind
def Xu(a b:ByteArray):(a==b)=(a.data==b.data):=by cases a;cases b;rfl
def NH(a b:List Nat):(aR a==aR b)=((aR a).toList==(aR b).toList):=by rw[Xu,cA,cA];show((a.map UInt8.ofNat).toArray==(b.map UInt8.ofNat).toArray)=_;simp
def us(a:ByteArray):(a==a)=true:=by rw[Xu];simp
def aaI(h:HR ρ s w){kt:TypeId}(L:eI P kt=true){k:V}{K:Value}(hk:den ρ k=some K){e0:qE}{M:Bool}(h0:du P (bX s) 20 kt k e0.key=some M) :
 abe P ρ w kt (du P (bX s) 20 kt) k K:=by
 obtain⟨d,A,I⟩:=kW L
 have key:∀ key,du P (bX s) 20 kt k key≠none->(∃ a b i j,k=.int i a/\key=.int j b/\∃ F,d=.int F)\/(∃ a b,k=.str a/\key=.str b/\d=.string)\/(∃ a b,k=.bool a/\key=.bool b/\d=.bool) \/
  ((∃ e,d=.pointer e)/\((k=.nilptr/\key=.nilptr)\/(∃ a,k=.nilptr/\key=.ptr a)\/(∃ a,k=.ptr a/\key=.nilptr)\/(∃ a b,k=.ptr a/\key=.ptr b))):=by
  intro key q;rcases I with⟨F,rfl⟩|rfl|rfl|⟨e,rfl⟩<;>unfold du at q<;>simp only[A]at q
  .cases k<;>cases key<;>simp at q ⊢
  .cases k<;>cases key<;>simp at q ⊢
  .cases k<;>cases key<;>simp at q ⊢
  .cases k<;>cases key<;>simp at q ⊢
 refine⟨λkey' y r g hy=>yw h 20 kt k key' r K y 10000 g hk hy (by omega),λkey' y g hy=>?_,λd' B=>?_,λn=>?_⟩
 .have m:=g;rcases key key' (by rw[m];simp)with⟨a,b,i,j,rfl,rfl,F,rfl⟩|⟨a,b,rfl,rfl,rfl⟩|⟨a,b,rfl,rfl,rfl⟩|⟨⟨e,rfl⟩,⟨rfl,rfl⟩|⟨a,rfl,rfl⟩|⟨a,rfl,rfl⟩|⟨a,b,rfl,rfl⟩⟩<;>unfold du at g<;>simp only[A]at g
  . 
   cases z:dE i j with
   |false=>rw[z]at g;cases g
   |true =>rw[z]at g;obtain rfl:i=j:=akM z;simp at g;cases hk;cases hy;rw[g]
  .rw[Au g]at hk;rw[hk]at hy;exact(anJ hy).symm
  .simp at g;subst g;rw[hk]at hy;exact(anJ hy).symm
  .rw[hk]at hy;exact(anJ hy).symm
  .simp at g
  .simp at g
  .split at g
   .rename_i n hn;cases J:Nat.beq n 0 with
    |true=>rw[J]at g;cases g
    |false =>
     rw[J]at g;simp only[Xi,OY]at g;cases hp:(bX s a&&bX s b)with
     |false=>rw[hp]at g;cases g
     |true =>
     rw[hp]at g;simp only[ge]at g;cases G:Nat.beq a.f b.f with
     |false=>simp[G]at g
     |true =>
      cases H:Nat.beq a.v b.v with
      |false=>simp[G,H]at g
      |true =>
       simp[G,H]at g;have e1:=abj G;have e2:=abj H;have:a=b:=by cases a;cases b;simp_all
       subst this;rw[hk]at hy;exact(anJ hy).symm
   .cases g
 .rw[A]at B;cases B;rcases I with⟨F,rfl⟩|rfl|rfl|⟨e,rfl⟩
  .left;intro key' y r g hy;have m:=g;unfold du at g;simp only[A]at g;rcases key key' (by rw[m];simp)with⟨a,b,i,j,rfl,rfl,_,_⟩|⟨a,b,rfl,rfl,u⟩|⟨a,b,rfl,rfl,u⟩|⟨⟨e,u⟩,_⟩<;>try(cases u;done)
   simp only at g;cases z:dE i j with
   |false=>rw[z]at g;cases g
   |true =>rw[z]at g;obtain rfl:i=j:=akM z;cases hk;cases hy;simpa[Instr.sameNow]using g
  .left;intro key' y r g hy;have m:=g;unfold du at g;simp only[A]at g;rcases key key' (by rw[m];simp)with⟨a,b,i,j,rfl,rfl,_,u⟩|⟨a,b,rfl,rfl,_⟩|⟨a,b,rfl,rfl,u⟩|⟨⟨e,u⟩,_⟩<;>try(cases u;done)
   simp only at g;cases hk;cases hy;simp only[Instr.sameNow,NH,mN g]
  .left;intro key' y r g hy;have m:=g;unfold du at g;simp only[A]at g;rcases key key' (by rw[m];simp)with⟨a,b,i,j,rfl,rfl,_,u⟩|⟨a,b,rfl,rfl,u⟩|⟨a,b,rfl,rfl,_⟩|⟨⟨e,u⟩,_⟩<;>try(cases u;done)
   simp only at g;cases hk;cases hy;simpa[Instr.sameNow]using g
  .right;intro y;cases K<;>cases y<;>rfl
 .rcases key e0.key (by rw[h0];simp)with⟨a,b,i,j,rfl,_⟩|⟨a,b,rfl,_⟩|⟨a,b,rfl,_⟩|⟨_,⟨rfl,_⟩|⟨a,rfl,_⟩|⟨a,rfl,_⟩|⟨a,b,rfl,_⟩⟩
  .cases hk;simp[Instr.sameBits,us]
  .cases hk;simp[Instr.sameBits,us]
  .cases hk;simp[Instr.sameBits,us]
  .cases hk;simp[Instr.sameBits,us]
  .cases hk;simp[Instr.sameBits,us]
  .simp only[den]at hk;split at hk<;>cases hk;simp[Instr.sameBits]
  .simp only[den]at hk;split at hk<;>cases hk;simp[Instr.sameBits]
def XY(ρ:aS)(eq:V->V->Option Bool)(k:V)(y:Value)(r:Bool):Prop:=∃ key,den ρ key=some y/\eq k key=some r
def FY{eq:V->V->Option Bool}{k:V}:∀ {es:List qE} {rs:List MapEntry},gE ρ es rs->cJ eq k es=some none->∀ e∈rs,XY ρ eq k e.key false
 |[],[],_,_,e,d=>by cases d
 |a::es,b::rs,⟨j,m⟩,h,e,d=>by
  simp only[cJ]at h;cases g:eq k a.key with
  |none=>simp[g,cJ.foundKey]at h
  |some q =>
   cases q with
   |true=>simp[g,cJ.foundKey]at h
   |false =>
    simp only[g,cJ.foundKey]at h;rcases afS.1 d with rfl|d
    .exact⟨a.key,j.1,g⟩
    .exact FY m h e d
 |[],_::_,h,_,_,_=>h.elim
 |_::_,[],h,_,_,_=>h.elim
def Kf{eq:V->V->Option Bool}{k v:V}:∀ {es:List qE} {rs:List MapEntry},gE ρ es rs->cJ eq k es=some (some v) ->
 ∃ pre e post,rs=pre++e::post/\(∀ m∈pre,XY ρ eq k m.key false)/\XY ρ eq k e.key true/\den ρ v=some e.val
 |[],[],_,h=>by simp[cJ]at h
 |a::es,b::rs,⟨j,n⟩,h=>by
  simp only[cJ]at h;cases d:eq k a.key with
  |none=>simp[d,cJ.foundKey]at h
  |some q =>
   cases q with
   |true =>simp only[d,cJ.foundKey,acf]at h;subst h;exact⟨[],b,rs,rfl,(λ_ g=>by cases g),⟨a.key,j.1,d⟩,j.2.1⟩
   |false =>
    simp only[d,cJ.foundKey]at h;obtain⟨pre,e,post,rfl,g1,u,y⟩:=Kf n h;refine⟨b::pre,e,post,rfl,λm g=>?_,u,y⟩;rcases afS.1 g with rfl|g
    .exact⟨a.key,j.1,d⟩
    grind
 |[],_::_,h,_=>h.elim
 |_::_,[],h,_=>h.elim
def IN{eq:V->V->Option Bool}{k x:V}:∀ {es:List qE} {rs:List MapEntry},gE ρ es rs->dt eq k x es=some none->∀ e∈rs,XY ρ eq k e.key false
 |[],[],_,_,e,d=>by cases d
 |a::es,b::rs,⟨m,n⟩,h,e,d=>by
  simp only[dt]at h;cases g:eq k a.key with
  |none=>simp[g,dt.setKey]at h
  |some q =>
   cases q with
   |true=>simp[g,dt.setKey]at h
   |false =>
    simp only[g,dt.setKey]at h;cases j:dt eq k x es with
    |none=>simp[j]at h
    |some u =>
     cases u with
     |some l=>simp[j]at h
     |none =>
      rcases afS.1 d with rfl|d
      .exact⟨a.key,m.1,g⟩
      .exact IN n j e d
 |[],_::_,h,_,_,_=>h.elim
 |_::_,[],h,_,_,_=>h.elim
def Oc{eq:V->V->Option Bool}{k x:V}{K X:Value}(hk:den ρ k=some K)(n:den ρ x=some X):∀ {es es':List qE} {rs:List MapEntry},gE ρ es rs->dt eq k x es=some (some es') ->
 ∃ pre e post,rs=pre++e::post/\(∀ y∈pre,XY ρ eq k y.key false)/\XY ρ eq k e.key true/\gE ρ es' (pre++{ e with key:=K,val:=X }::post)
 |[],_,[],_,h=>by simp[dt]at h
 |a::es,es',b::rs,⟨g,z⟩,h=>by
  simp only[dt]at h;cases d:eq k a.key with
  |none=>simp[d,dt.setKey]at h
  |some q =>
   cases q with
   |true =>simp only[d,dt.setKey,acf]at h;subst h;exact⟨[],b,rs,rfl,(λ_ j=>by cases j),⟨a.key,g.1,d⟩,⟨hk,n,g.2.2⟩,z⟩
   |false =>
    simp only[d,dt.setKey]at h;cases m:dt eq k x es with
    |none=>simp[m]at h
    |some u =>
     cases u with
     |none=>simp[m]at h
     |some l =>
      simp only[m,acf]at h;subst h;obtain⟨pre,e,post,rfl,g1,A,B⟩:=Oc hk n z m;refine⟨b::pre,e,post,rfl,λy j=>?_,A,g,B⟩;rcases afS.1 j with rfl|j
      .exact⟨a.key,g.1,d⟩
      grind
 |[],_,_::_,h,_=>h.elim
 |_::_,_,[],h,_=>h.elim
def Ju{d:TypeDesc}{K:Value}:∀ {rs:List MapEntry} (i:Nat),(∀ e∈rs,Instr.sameNow d K e.key=some false)->Instr.findNow d K rs i=some none
 |[],_,_=>rfl
 |e::rs,i,h=>by rw[Instr.findNow,h e (by simp)];exact Ju (i+1) λa b=>h a (by simp[b])
def Po{d:TypeDesc}{K:Value}{e:MapEntry}{post:List MapEntry}(b:Instr.sameNow d K e.key=some true):∀ {pre:List MapEntry} (i:Nat),(∀ e∈pre,Instr.sameNow d K e.key=some false)->Instr.findNow d K (pre++e::post) i=some (some (i+pre.length,e.val))
 |[],i,_=>by simp[Instr.findNow,b]
 |a::pre,i,h=>by
  rw[ajo,Instr.findNow,h a (by simp)];have:=Po (post:=post) b (pre:=pre) (i+1) λg j=>h g (by simp[j])
  grind
def Lb{kt:TypeId}{K:Value}:∀ {rs:List MapEntry} (i:Nat),(∀ e∈rs,(Op.equal kt K e.key).run P w=.ok false w)->(Instr.findAsking kt K rs i).run P w=.ok none w
 |[],_,_=>by simp[Instr.findAsking]
 |e::rs,i,h=>by simp only[Instr.findAsking,afX,h e (by simp),acW,aoo,apF];exact Lb (i+1) λa b=>h a (by simp[b])
def QW{kt:TypeId}{K:Value}{e:MapEntry}{post:List MapEntry}(b:(Op.equal kt K e.key).run P w=.ok true w):∀ {pre:List MapEntry} (i:Nat),(∀ e∈pre,(Op.equal kt K e.key).run P w=.ok false w)->(Instr.findAsking kt K (pre++e::post) i).run P w=.ok (some (i+pre.length,e.val)) w
 |[],i,_=>by simp[Instr.findAsking,b]
 |a::pre,i,h=>by
  simp only[ajo,Instr.findAsking,afX,h a (by simp),acW,aoo,apF];have:=QW (post:=post) b (pre:=pre) (i+1) λd g=>h d (by simp[g])
  grind
def Je{kt:TypeId}{d:TypeDesc}(a:P.underlying kt=some d){eq:V->V->Option Bool}{k:V}{K:Value}{rs:List MapEntry}(A:rs≠[]->abe P ρ w kt eq k K)(h:∀ e∈rs,XY ρ eq k e.key false) :
 (Instr.findKey kt K rs).run P w=.ok none w:=by
 by_cases b:rs=[]
 .subst b;simp[Instr.findKey,aL a,Instr.findNow]
 .replace A:=A b;simp only[Instr.findKey,afX,aL a,acW];rcases A.now d a with g|g
  .rw[Ju 0 λe j=>by obtain⟨key,m,n⟩:=h e j;exact g _ _ _ n m];rfl
  .cases rs with
   |nil=>exact absurd rfl b
   |cons e rs =>rw[Instr.findNow,g];exact Lb 0 λq j=>by obtain⟨key,m,n⟩:=h q j;exact A.ask _ _ _ n m
def OH{kt:TypeId}{d:TypeDesc}(n:P.underlying kt=some d){eq:V->V->Option Bool}{k:V}{K:Value}{pre post:List MapEntry}{e:MapEntry}(A:abe P ρ w kt eq k K)(h:∀ e∈pre,XY ρ eq k e.key false)(a:XY ρ eq k e.key true) :
 (Instr.findKey kt K (pre++e::post)).run P w=.ok (some (pre.length,e.val)) w:=by
 simp only[Instr.findKey,afX,aL n,acW];obtain⟨key,q,u⟩:=a;rcases A.now d n with g|g
 .rw[Po (g _ _ _ u q) 0 λe b=>by obtain⟨key,a,j⟩:=h e b;exact g _ _ _ j a];simp
 .have m:Instr.findNow d K (pre++e::post) 0=none:=by cases pre<;>(simp only[agc,ajo];rw[Instr.findNow,g])
  rw[m];have:=QW (P:=P) (w:=w) (post:=post) (A.ask _ _ _ u q) 0 λe b=>by obtain⟨key,a,j⟩:=h e b;exact A.ask _ _ _ j a
  simpa using this
def ql(h:HR ρ s w){kt:TypeId}(a:eI P kt=true){k:V}{K:Value}(hk:den ρ k=some K){y:Value}{r:Bool}(b:XY ρ (du P (bX s) 20 kt) k y r) :
 abe P ρ w kt (du P (bX s) 20 kt) k K:=by
 obtain⟨key,_,d⟩:=b;exact aaI h a hk (e0:=⟨key,key,0⟩) d
def Hv{r:Nat}{y:Value}(h:den ρ (.map r)=some y):∃ l,ρ r 0=some l/\y=.map (some l.b):=by grind [den]
def pF(h:HR ρ s w)(J:TR ρ t tm){ty:TypeId}{x k:Operand}{ok:Bool}{nx:Nx}(e:bS s (kJ P s ty (eval t x) (eval t k) ok)=some nx) :
 DN P ρ w s nx ((do pure (Next.value (<- Instr.lookup ty (rv tm x) (rv tm k) ok)):Sem Next).run P w):=by
 refine bq h e λv a=>?_;unfold kJ at a;split at a
 .rename_i kt el L;split at a
  .rename_i m hm;split at a
   .rename_i k' hk;have dm:=aO J hm;have dk:=aO J hk;generalize rv tm x=X at *;generalize rv tm k=K at *;split at a
    .rename_i es b;cases n:eI P kt with
     |false=>rw[n]at a;cases a
     |true =>
      rw[n]at a;simp only[ge]at a;obtain⟨d,M,_⟩:=kW n
      have O:∃(rs:Array MapEntry),gE ρ es rs.toList/\∀(o:Option (Nat×Value)),(Instr.findKey kt K rs.toList).run P w=.ok o w ->
       (Instr.lookup ty X K ok).run P w=match o with
        |some (_,v)=>.ok (if ok then .tuple #[v,.bool true] else v) w
        |none=>((zeroValue el).run P w).andThen λv w=>.ok (if ok then .tuple #[v,.bool false] else v) w:=by
       unfold CS at b;split at b
       .cases b;cases dm;refine⟨#[],trivial,λo ho=>?_⟩;simp only[Instr.lookup,afX,aL L,acW,ajJ,jP n,ho];cases o with
        |none=>simp only[afX,ajJ];cases (zeroValue el).run P w<;>rfl
        |some o=>rfl
       .rename_i r;split at b
        .rename_i es' clock Q;cases b;obtain⟨l,hl,rfl⟩:=Hv dm;obtain⟨l',rs,y,F,B⟩:=h.blk _ _ Q;rw[hl]at y;cases y;refine⟨rs,B,λo ho=>?_⟩;simp only[Instr.lookup,afX,aL L,acW,mT F,ajJ,jP n,ho];cases o with
         |none=>simp only[afX,ajJ];cases (zeroValue el).run P w<;>rfl
         |some o=>rfl
        .cases b
       .cases b
      obtain⟨rs,q,g⟩:=O;unfold Qd at a;split at a
      .rename_i u G;cases a;obtain⟨pre,e,post,y,F,B,N⟩:=Kf q G;have A:=ql h n dk B;have:=g _ (by rw[y];exact OH M A F B);refine⟨_,?_,this⟩;cases ok
       .exact N
       .simp only[ge,apn,den,br,N]
      .rename_i G;have hm:=FY q G
       have:=g none (Je M (λH=>by
        cases hr:rs.toList with
        |nil=>exact absurd hr H
        |cons e r=>exact ql h n dk (hm e (by rw[hr];simp))) hm)
       split at a
       .rename_i z U;cases a;obtain⟨zv,it,hi,I,j⟩:=fy U;simp only[gA hi I,acW]at this;refine⟨_,?_,this⟩;cases ok
        .exact j ρ
        .simp only[ge,apn,den,br,j ρ]
       .cases a
      .cases a
    .cases a
   .cases a
  .cases a
 .cases a
def Rt(K old:Value)(a:old=K)(hb:∀ n,Instr.sameBits (n+1) K K=true):(Instr.keyThatStays old K).run P w=.ok K w:=by subst a;have:=hb 9999;simp only[Instr.keyThatStays];simp_all
theorem gE.length:∀ {es:List qE} {rs:List MapEntry},gE ρ es rs->es.length=rs.length
 |[],[],_=>rfl
 |_::_,_::_,⟨_,h⟩=>by simp[gE.length h]
 |[],_::_,h=>h.elim
 |_::_,[],h=>h.elim
def gE.snoc{k x:V}{K X:Value}{c:Nat}(hk:den ρ k=some K)(a:den ρ x=some X):∀ {es:List qE} {rs:List MapEntry},gE ρ es rs->gE ρ (es++[⟨k,x,c⟩]) (rs++[⟨K,X,c⟩])
 |[],[],_=>⟨⟨hk,a,rfl⟩,trivial⟩
 |_::_,_::_,⟨b,d⟩=>⟨b,gE.snoc hk a d⟩
 |[],_::_,h=>h.elim
 |_::_,[],h=>h.elim
def MA(pre post:List MapEntry)(e:MapEntry)(f:MapEntry->MapEntry):(pre++e::post).modify pre.length f=pre++f e::post:=by
 induction pre with
 |nil=>simp
 |cons a pre ih=>simpa using ih
def lz(h:HR ρ s w)(q:TR ρ t tm){ty:TypeId}{m k x:Operand}{nx:Nx}(e:fV P s ty (eval t m) (eval t k) (eval t x)=some nx) :
 Lq P ρ w nx ((do Instr.mapUpdate ty (rv tm m) (rv tm k) (rv tm x);pure Next.skip:Sem Next).run P w):=by
 unfold fV at e;split at e
 .rename_i r hm;split at e
  .rename_i Q hk;split at e
   .rename_i U W;have dm:=aO q hm;have dk:=aO q hk;have dx:=aO q W;generalize rv tm m=M at *;generalize rv tm k=K at *;generalize rv tm x=X at *;split at e
    .rename_i kt el L;split at e
     .rename_i es clock u;cases g:eI P kt with
      |false=>rw[g]at e;cases e
      |true =>
       rw[g]at e;simp only[ge]at e;obtain⟨d,N,_⟩:=kW g;obtain⟨l,hl,rfl⟩:=Hv dm;obtain⟨l',rs,O,j,y⟩:=h.blk _ _ u;rw[hl]at O;cases O;unfold zo at e;split at e
       .rename_i es' z;cases e;obtain⟨pre,e,post,B,Y,F,Z⟩:=Oc dk dx y z;have A:=ql h g dk F;have hsame:e.key=K:=by obtain⟨key,k1,k2⟩:=F;exact A.same _ _ k2 k1
        have hfind:(Instr.findKey kt K rs.toList).run P w=.ok (some (pre.length,e.val)) w:=by rw[B];exact OH N A Y F
        have G:rs[pre.length]? = some e:=by rw[<- akF,B];simp
        have hst:=Rt (P:=P) (w:=w) K e.key hsame A.bits;have n:(rs.modify pre.length λe=>{ e with key:=K,val:=X }).toList=pre++{ e with key:=K,val:=X }::post:=by rw[Array.toList_modify,B,MA]
        have a:(Instr.mapUpdate ty (.map (some l.b)) K X).run P w=.ok () { w with heap:=w.heap.setIfInBounds l.b (.map (rs.modify pre.length λe=>{ e with key:=K,val:=X }) clock) }:=by simp only[Instr.mapUpdate,afX,aL L,acW,mT j,jP g,hfind,G,aoh,aor,hst,AF j]
        obtain⟨H,I⟩:=h.turn hl u (λ_ h=>by cases h) (zY w l.b _) (.map es' clock) ⟨l,_,hl,Jb j _,by rw[n];exact Z⟩;exact⟨ρ,_,by simp only[afX,a,acW,ajJ],H,I⟩
       .rename_i z;cases e;have hmiss:=IN y z
        have hfind:(Instr.findKey kt K rs.toList).run P w=.ok none w:=Je N (λJ=>by
         cases hr:rs.toList with
         |nil=>exact absurd hr J
         |cons e r=>exact ql h g dk (hmiss e (by rw[hr];simp))) hmiss
        have a:(Instr.mapUpdate ty (.map (some l.b)) K X).run P w=.ok () { w with heap:=w.heap.setIfInBounds l.b (.map (rs.push { key:=K,val:=X,born:=clock }) (clock+1)) }:=by simp only[Instr.mapUpdate,afX,aL L,acW,mT j,jP g,hfind,AF j]
        obtain⟨H,I⟩:=h.turn hl u (λ_ h=>by cases h) (zY w l.b _) (.map (es++[⟨Q,U,clock⟩]) (clock+1)) ⟨l,_,hl,Jb j _,by rw[Array.toList_push];exact gE.snoc dk dx y⟩;exact⟨ρ,_,by simp only[afX,a,acW,ajJ],H,I⟩
       .cases e
     .cases e
    .cases e
   .cases e
  .cases e
 .cases e
end ops
section ops
variable{P:Program}{ρ:aS}{s:S}{w:World}{t:T V}{tm:Array Value}
def fe(l:List Nat):(aR l).size=l.length:=by simp[aR,ByteArray.size]
def vT(l:List Nat):br ρ (l.map pM)=some ((aR l).data.toList.map λb=>Value.int .u8 b.toNat):=by
 have:(aR l).data.toList=l.map UInt8.ofNat:=by simp[aR]
 rw[this];induction l with
 |nil=>rfl
 |cons c l ih =>have ih':=ih (by simp[aR]);refine bt.2 ⟨_,_,rfl,ih',?_⟩;simp[UInt8.toNat_ofNat'];rfl
def rl:∀ {cs:List V} {l:List Nat},mH cs=some l->br ρ cs=some ((l.map Int.ofNat).map (Value.int .u8))
 |[],l,h=>by cases h;rfl
 |v::r,l,h=>by
  unfold mH at h;split at h
  .cases ‹v::r=[]›
  .rename_i n r' a;cases a;cases hb:mH r with
   |none=>simp[hb]at h
   |some q =>simp[hb]at h;subst h;exact bt.2 ⟨_,_,rfl,rl hb,rfl⟩
  .cases h
def Jm:∀(l:List Nat) (r:ByteArray),(l.map Int.ofNat).foldl (λr n=>r.push (UInt8.ofNat n.toNat)) r=⟨r.data++(l.map UInt8.ofNat).toArray⟩
 |[],r=>by simp
 |c::l,r=>by simp_all[Jm]
def jS{el:TypeId}(h:io P el=true):P.underlying el=some (.int .u8):=by grind [io]
def tH{a:Ad}{n:Nat}{l:List V}(h:HR ρ s w)(e:loadCells s a n=some l):∃ lo ys,ρ a.f a.v=some lo/\lo.base<=a.c/\br ρ l=some ys/\ys.length=n /\
 (Go.loadCells ⟨lo.b,a.c - lo.base,none⟩ n).run P w=.ok ys.toArray w:=by
 obtain⟨ad,ys,g,j,d,m⟩:=jz h e;obtain⟨lo,q,u,rfl⟩:=um g;have:=aoH (P:=P) (w:=w) _ ys m;rw[d]at this;exact⟨lo,ys,q,u,j,d,this⟩
def we(h:HR ρ s w){d dst:TypeId}{ds:TypeDesc}(u:P.underlying d=some ds)(A:P.underlying dst=some .string){x:V}{X:Value}(B:den ρ x=some X){v:V}{s':S}(e:EM P s ds x=some (v,s')) :
 s'=s/\∃ y,den ρ v=some y/\(convert d dst X).run P w=.ok y w:=by
 unfold EM at e;split at e
 .rename_i k n;cases e;cases B;refine⟨rfl,.string (Utf8.encode n),?_,?_⟩
  .simp only[den];rw[yC]
  .cases ds<;>simp[convert,aL u,aL A,Conv.intToString]
 .cases e;cases B;refine⟨rfl,_,rfl,?_⟩;cases ds<;>simp[convert,aL u,aL A]
 .split at e
  .rename_i el;cases hb:io P el with
   |false=>rw[hb]at e;cases e
   |true =>rw[hb]at e;cases e;cases B;refine⟨rfl,.string .empty,rfl,?_⟩;simp[convert,aL u,aL A,aL (jS hb),Conv.bytesToString]
  .cases e
 .rename_i a z n cap sz;split at e
  .rename_i el;cases hb:io P el with
   |false=>rw[hb]at e;cases e
   |true =>
    rw[hb]at e;simp only[ge]at e;cases g:Nat.beq sz 0 with
    |true=>rw[g]at e;cases e
    |false =>
    rw[g]at e;simp only[Xi]at e;split at e
    .rename_i l hl;cases e;obtain⟨lo,G,g2,g3,g4,g5,rfl⟩:=iM B (.inl (UV g));cases m:loadCells s a n with
     |none=>simp[m]at hl
     |some cs =>
      simp only[m,apv]at hl;obtain⟨lo',ys,F,k2,H,I,k5⟩:=tH (P:=P) h m;rw[G]at F;cases F;have q:=rl (ρ:=ρ) hl;rw[H]at q;cases q;have hload:(Go.loadCells ⟨lo.b,bK lo a z cap sz - lo.base,none⟩ n).run P w=.ok ((l.map Int.ofNat).map (Value.int .u8)).toArray w:=by
       rcases aoG n with h0|h0
       .subst h0;have:l=[]:=by simpa using I
        subst this;exact aoH (P:=P) (w:=w) _ [] (λj v h=>by simp at h)
       grind [gp]
      refine⟨rfl,.string (aR l),rfl,?_⟩;rw[run_convert_bytes_string w d dst el _ _ _ u (jS hb) A,run_bytesToString w _ _ _ _ hload,Jm];congr 2;apply ByteArray.ext;simp[aR]
    .cases e
  .cases e
 .cases e
def DV(h:HR ρ s w){g dst el:TypeId}{ds:TypeDesc}(n:P.underlying g=some ds)(q:P.underlying dst=some (.slice el)){x:V}{X:Value}(u:den ρ x=some X){v:V}{s':S}(e:pQ P s ds el x=some (v,s')) :
 ∃ ρ' y w',(convert g dst X).run P w=.ok y w'/\den ρ' v=some y/\HR ρ' s' w'/\FR ρ w ρ' w':=by
 unfold pQ at e;split at e
 .rename_i l;split at e
  .cases hb:io P el with
   |false=>rw[hb]at e;cases e
   |true =>
    rw[hb]at e;simp only[ge]at e;simp only[bD]at e;cases e;cases u;have b:=run_bytes_of_string w g dst el (aR l) n q (jS hb);rw[fe]at b;have j:=apA w l.length 0 el;generalize hc:grownCap w l.length 0 el=cap at *;have d:(bytesRow (aR l) cap).size=cap:=by simp only[bytesRow,api,Array.size_map,Array.size_replicate,fe];simp_all[fe]
    rw[d]at b;have m:br ρ (l.map pM)=some ((bytesRow (aR l) cap).toList.take (l.map pM).length):=by
     rw[vT];have:(aR l).data.toList.length=l.length:=by simp[aR]
     simp[bytesRow,this]
    obtain⟨ρ',A,B,F⟩:=im (h.drawn (w.drawn+1)) true el el (cs:=l.map pM) (ys:=bytesRow (aR l) cap) m (cap,cap+1) ⟨(λh=>by cases h),λi hi=>by rw[d]at hi;simp;omega⟩;refine⟨ρ',_,_,b,?_,B,(FR.drawn w (w.drawn+1)).trans F⟩;have:=dO (a:=⟨s.next,0,0⟩) (z:=0) (len:=l.length) (cap:=none) (sz:=1) A (by simp) (anI _) (by show l.length<=(Array.size _ - 0) / 1;rw[d];simpa using j) Nat.one_pos;rw[this];simp only[cM,bK,d];simp
  .cases e
 .cases e
def HZ(h:HR ρ s w)(u:TR ρ t tm){a dst:TypeId}{x:Operand}{nx:Nx}(e:iz P s a dst (eval t x)=some nx) :
 Lq P ρ w nx ((do pure (Next.value (<- convert a dst (rv tm x))):Sem Next).run P w):=by
 unfold iz at e;split at e
 .rename_i v z;have dv:=aO u z;generalize rv tm x=X at *;unfold jx at e;split at e
  .rename_i y s' hc;cases e;unfold kM at hc;split at hc
   .rename_i ds d;split at hc
    .rename_i k b;split at hc
     .rename_i j n;cases hc;cases dv;refine⟨ρ,.int k (k.wrap n),w,?_,by rw[cX];rfl,h,FR.refl ρ w⟩;have:(convert a dst (.int j n)).run P w=.ok (.int k (k.wrap n)) w:=by cases ds<;>simp[convert,aL d,aL b,Conv.intToInt]
      simp[this]
     .cases hc
    .rename_i b;obtain⟨rfl,g,m,q⟩:=we h d b dv hc;exact⟨ρ,g,w,by simp[q],m,h,FR.refl ρ w⟩
    .rename_i el b;obtain⟨ρ',g,w',m,q,A,B⟩:=DV h d b dv hc;exact⟨ρ',g,w',by simp[m],q,A,B⟩
    .cases hc
   .cases hc
  .cases e
 .cases e
end ops
section ops
variable{P:Program}{ρ:aS}{s:S}{w:World}{t:T V}{tm:Array Value}
def Mr{t:TypeId}(h:Jv P t=true):∃ d,P.underlying t=some d/\∀ k,d≠.int k:=by grind [Jv]
def jt{ts:Array TypeId}{ty sT xT elem:TypeId}{d:TypeDesc}{n sz sLen sCap:Nat}{base:Option Addr}{Y:Value}(h0:ts[0]? = some sT)(b:ts[1]? = some xT)
 (e:P.underlying sT=some (.slice elem)) (g:P.underlying xT=some d) (h:∀ k,d≠.int k) (j:size P elem=some sz) (hl:(Builtin.lenOf Y).run P w=.ok n w)
 (hroom:sLen+n<=sCap) {news:Array Value} (m:(Builtin.firstCells sz n Y).run P w=.ok news w) :
 (Builtin.append_ ts ty #[.slice base sLen sCap,Y]).run P w=(match base with
  |some a=>((Go.storeCells (a.add (sLen*sz)) news.toList).run P w).andThen λ_ w=>.ok (.slice base (sLen+n) sCap) w
  |none=>.ok (.slice base (sLen+n) sCap) w):=by
 have hm:(match(generalizing:=false) d with|.int _=>true|_=>false)=false:=by cases d<;>first|rfl|exact absurd rfl (h _)
 cases base<;>simp[Builtin.append_,h0,b,aL e,cN j,aL g,hl,hroom,m,hm]
def next_le(need old:Nat)(h:old<need):Builtin.nextslicecap need old<=2*need+1000:=by
 have g:∀(r c:Nat),c<=2*need+500->Builtin.growBy need r c<=2*need+1000:=by
  intro r;induction r with
  |zero=>intro c hc;simp[Builtin.growBy];omega
  |succ r ih =>
   intro c hc;simp only[Builtin.growBy]
   grind
 unfold Builtin.nextslicecap
 grind
def Rv{elem:TypeId}{m:Nat}(h:aG P elem m=true){i:TypeInfo}(hi:P.info? elem=some i):i.bytes*(m+m / 4+600)<=281474976710656/\m<=4611686018427387904:=by unfold aG at h;rw[hi]at h;simp only[abk]at h;exact⟨act h.1,act h.2⟩
def Vf(need old:Nat)(h:old<need):Builtin.nextslicecap need old<=need+need / 4+600:=by
 have g:∀(r c:Nat),c<=need+need / 4+500->Builtin.growBy need r c<=need+need / 4+600:=by
  intro r;induction r with
  |zero=>intro c hc;simp[Builtin.growBy];omega
  |succ r ih =>
   intro c hc;simp only[Builtin.growBy]
   grind
 unfold Builtin.nextslicecap
 grind
def lI{ts:Array TypeId}{ty sT xT elem:TypeId}{d:TypeDesc}{n sz sLen sCap:Nat}{base:Option Addr}{Y:Value}(h0:ts[0]? = some sT)(a:ts[1]? = some xT)
 (q:P.underlying sT=some (.slice elem)) (u:P.underlying xT=some d) (y:∀ k,d≠.int k) (A:size P elem=some sz) {i:TypeInfo} (hi:P.info? elem=some i) {z:Value} (b:i.zero=some z)
 (hl:(Builtin.lenOf Y).run P w=.ok n w) (hroom:sCap<sLen+n) (hr:aG P elem (sLen+n)=true) {olds news:Array Value}
 (ho:(Builtin.firstCells sz sLen (.slice base sLen sCap)).run P w.drew=.ok olds w.drew) (B:(Builtin.firstCells sz n Y).run P w.drew=.ok news w.drew) :
 (Builtin.append_ ts ty #[.slice base sLen sCap,Y]).run P w=.ok (.slice (some ⟨w.heap.size,0,none⟩) (sLen+n) (grownCap w (sLen+n) sCap elem))
  (w.drew.alloc (.cells (olds++news++Builtin.zeroCells z.cells (grownCap w (sLen+n) sCap elem - (sLen+n))) elem)):=by
 have e:¬(sLen+n<=sCap):=by omega
 obtain⟨hb,hn⟩:=Rv hr hi;have g:¬(9223372036854775807<((sLen:Int)+(n:Int))):=by omega
 have h:¬(281474976710656<Builtin.nextslicecap (sLen+n) sCap*i.bytes):=by
  have a:=Vf (sLen+n) sCap hroom;have h3:=Nat.mul_le_mul_left i.bytes a
  grind
 have j:∀ w,(typeInfo elem).run P w=.ok i w:=λw=>by simp[typeInfo,hi]
 have m:∀ w,(zeroValue elem).run P w=.ok z w:=λw=>gA hi b w;have hm:(match(generalizing:=false) d with|.int _=>true|_=>false)=false:=by cases d<;>first|rfl|exact absurd rfl (y _)
 simp[Builtin.append_,h0,a,aL q,cN A,aL u,hl,e,j,m,g,h,Question.forced,ho,B,newRow,grownCap,hm]
def Nu{b:Ad}{z sz:Nat}{cap:Option Nat}{Y:Value}(h:den ρ (.slice b z 0 cap sz)=some Y):∃ q c,Y=.slice (some q) 0 c:=by grind [den,iJ]
def fX(h:HR ρ s w){sz n:Nat}{y:V}{Y:Value}{l:List V}(hy:den ρ y=some Y)(e:js s sz y=some (l,n)) :
 ∃ ys,br ρ l=some ys/\ys.length=n*sz/\(Builtin.lenOf Y).run P w=.ok n w/\(Builtin.firstCells sz n Y).run P w=.ok ys.toArray w:=by
 unfold js at e;split at e
 .cases e;cases hy;exact⟨[],rfl,by simp,rfl,rfl⟩
 .rename_i b z m cap sz';cases a:Nat.beq m 0 with
  |true =>rw[a]at e;cases e;obtain rfl:=abj a;obtain⟨q,c,rfl⟩:=Nu hy;have:=aoH (P:=P) (w:=w) q [] (λj v h=>by simp at h);exact⟨[],rfl,by simp,rfl,by simp only[Builtin.firstCells,apo];exact this⟩
  |false =>
  rw[a]at e;simp only[Xi]at e;cases d:Nat.beq sz' 0 with
  |true=>rw[d]at e;cases e
  |false =>
  rw[d]at e;simp only[Xi]at e;cases hb:Nat.beq sz sz' with
  |false=>rw[hb]at e;cases e
  |true =>
   rw[hb]at e;obtain rfl:=abj hb;simp only[ge]at e;split at e
   .rename_i l' hl;cases e;obtain⟨lo,A,g2,g3,B,g5,rfl⟩:=iM hy (.inl (UV d));obtain⟨lo',ys,g,k2,F,u,G⟩:=tH (P:=P) h hl;rw[A]at g;cases g;refine⟨ys,F,u,rfl,?_⟩;rcases aoG n with h0|h0
    .subst h0;have:ys=[]:=by simpa using u
     subst this;have:=aoH (P:=P) (w:=w) ⟨lo.b,bK lo b z cap sz - lo.base,none⟩ [] (λj v h=>by simp at h);simp only[Builtin.firstCells,apo];exact this
    .rw[gp B h0];exact G
   .cases e
 .rename_i l';cases hb:Nat.beq sz 1 with
  |false=>rw[hb]at e;cases e
  |true =>
   rw[hb]at e;obtain rfl:=abj hb;cases e;cases hy;refine⟨_,vT l',by simp[aR],by simp[Builtin.lenOf,fe],?_⟩;have:(aR l').extract 0 l'.length=aR l':=by rw[qY];simp
   have H:Array.map (λb=>Value.int IntKind.u8 (b.toNat:Int)) (aR l').data=((aR l').data.toList.map λb=>Value.int .u8 (b.toNat:Int)).toArray:=by simp[<- Array.toList_inj]
   simp only[Builtin.firstCells,this,ajJ,H]
 .cases e
end ops
section ops
variable{P:Program}{ρ:aS}{s:S}{w:World}{t:T V}{tm:Array Value}
def HR.grow{w':World}(h:HR ρ s w){f nv Q:Nat}{l l0:DT}(h0:ρ f Q=some l0)(z:ρ f nv=none)
 (n:∀ g v x,ρ g v=some x->x.b=l.b->g=f/\x.base=l.base) (A:l.b<w'.heap.size) (hsize:w.heap.size<=w'.heap.size)
 (I:w'.os=w.os) (htape:w'.tape=w.tape) (F:w'.output=w.output)
 (j:∀ k,k<w.heap.size->k≠l.b->w'.heap[k]? = w.heap[k]?) (m:l.b<w.heap.size->∃ g v x,ρ g v=some x/\x.b=l.b/\¬ x.ro) (J:¬ l.ro) (K:∀ v l,ρ f v=some l->¬ l.ro)
 {B:ef} (hB:DP (ρ.put f nv l) w' f B):HR (ρ.put f nv l) (s.put f B) w'/\FR ρ w (ρ.put f nv l) w':=by
 have W:f<s.next:=apu λhc=>by have:=h.fresh f Q hc;rw[h0]at this;cases this
 refine⟨⟨?_,?_,?_,?_,?_,?_⟩,⟨aS.le_put _ z,hsize,I,htape,F,?_,?_⟩⟩
 .intro g v a;rw[S.next_put]at a;unfold aS.put;rw[ajD (by omega)];exact h.fresh g v a
 .intro g v x g' v' x' e U hb;rcases aS.of_put e with⟨rfl,rfl,rfl⟩|d
  .rcases aS.of_put U with⟨rfl,rfl,rfl⟩|L
   .exact⟨rfl,rfl⟩
   .obtain⟨G,H⟩:=n _ _ _ L hb.symm;exact⟨G.symm,H.symm⟩
  .rcases aS.of_put U with⟨rfl,rfl,rfl⟩|L
   .exact n _ _ _ d hb
   .exact h.inj _ _ _ _ _ _ d L hb
 .intro g v x e;rcases aS.of_put e with⟨rfl,rfl,rfl⟩|e
  .exact A
  .exact ajN (h.low _ _ _ e) hsize
 .intro g B' a;rw[S.get_put]at a;split at a
  .rename_i e;cases a;subst e;exact hB
  .rename_i M;refine(h.blk g B' a).keep (aS.le_put _ z) (λv X=>?_) (λv x u=>j _ (h.low _ _ _ u) λe=>M (n _ _ _ u e).1.symm);unfold aS.put;rw[ajD (by omega)];exact X
 .intro g B' a;rw[S.get_put]at a;rw[S.next_put];split at a
  .rename_i e;subst e;exact W
  .exact h.dom g B' a
 .intro g B' a N v x u;rw[S.get_put]at a;rcases aS.of_put u with⟨rfl,rfl,rfl⟩|u
  .exact J
  .split at a
   .rename_i e;subst e;exact K v x u
   .exact h.rw g B' a N v x u
 .intro b hb Y;refine j b hb λe=>?_;subst e;obtain⟨g,v,x,G,H,O⟩:=m hb;exact Y g v x G O H
 .intro g v x e hl;rcases aS.of_put e with⟨rfl,rfl,rfl⟩|e
  .obtain⟨g,v,y,G,H,O⟩:=m hl;exact⟨g,v,y,G,H,λq=>absurd q O⟩
  .exact⟨g,v,x,e,rfl,id⟩
def FR.drew(ρ:aS)(w:World):FR ρ w ρ w.drew:=FR.drawn w _
def HR.drew(h:HR ρ s w):HR ρ s w.drew:=h.drawn _
def lP(h:HR ρ s w){elem:TypeId}{cs:List V}{ys:List Value}(j:br ρ cs=some ys){len sz cap:Nat}(hl:len<=cap)(b:0<sz)(d:ys.length=len*sz){rest:Array Value}(hr:rest.size=(cap - len)*sz)
 {v:V} {s':S} (e:lu s elem cs len sz=(v,s')) :
 ∃ ρ',den ρ' v=some (.slice (some ⟨w.heap.size,0,none⟩) len cap)/\HR ρ' s' (w.alloc (.cells (ys.toArray++rest) elem))/\FR ρ w ρ' (w.alloc (.cells (ys.toArray++rest) elem)):=by
 simp only[lu,bE]at e;have hsize:(ys.toArray++rest).size=cap*sz:=by
  rw[api,hr];have:ys.toArray.size=len*sz:=by simpa using d
  rw[this,<- aoY];congr 1;omega
 have g:=bW j
 obtain⟨ρ',m,n,u⟩:=im h false elem elem (cs:=cs) (ys:=ys.toArray++rest) (by rw[j];congr 1;simp[<- g]) (0,0) ⟨λ_=>rfl,by simp⟩
 simp only[bD]at e n;cases e;refine⟨ρ',?_,n,u⟩;rw[hsize]at m;have q:cap*sz / sz=cap:=Nat.mul_div_cancel _ b;rw[dO (a:=⟨s.next,0,0⟩) (z:=0) (cap:=none) m (by simp[bK]) (anI _) (by show len<=(cap*sz - 0) / sz;rw[aoM,q];exact hl) b];simp only[cM,bK];simp[aoM,q]
def hJ(z:Array Value)(n:Nat):(Builtin.zeroCells z n).size=n*z.size:=by simp[Builtin.zeroCells]
def Aq{a:Ad}{e:TypeId}{sb:Bool}{nv:Nat}{vers:List om}{u:om}{n:Nat}{old:List V}(b:s.get a.f=some (.cells e sb nv vers))(d:bY vers a.v=some u)(hb:Nat.ble u.lo a.c=true)
 (ho:bA n (u.cells.drop (a.c - u.lo))=some old):loadCells s a n=some old:=by
 unfold loadCells;rw[b];simp only[d,hb,ge,ho]
theorem pC{elem:TypeId}{sz:Nat}(h:vO P elem sz=true):∃ z i,P.info? elem=some i/\i.zero=some z/\z.cells.size=sz/\0<sz/\i.bytes*10000000<=100000000000000:=by
 unfold vO at h;split at h
 .rename_i zv b;simp only[abk]at h;obtain⟨z,i,hi,a,d⟩:=fy b;refine⟨z,i,hi,a,?_,ss h.1.2,?_⟩
  .rw[nL (d λ_ _=>none)];exact abj h.1.1
  simp_all[fg]
 .cases h
def JX(h:HR ρ s w){ts:Array TypeId}{ty sT xT elem:TypeId}{d:TypeDesc}{n sz len z:Nat}{a:Ad}{cap:Option Nat}{y:V}{Xv Yv:Value}{l:List V}(h0:ts[0]? = some sT)(h1:ts[1]? = some xT)
 (hs:P.underlying sT=some (.slice elem)) (J:P.underlying xT=some d) (hd:∀ k,d≠.int k) (hz:size P elem=some sz) (hok:vO P elem sz=true)
 (hX:den ρ (.slice a z len cap sz)=some Xv) (hY:den ρ y=some Yv) (ha:js s sz y=some (l,n)) (hrm:aG P elem (len+n)=true) (hn0:n≠0) {v:V} {s':S} (e:BK s elem a z len cap sz l n=some (v,s')) :
 ∃ ρ' r w',(Builtin.append_ ts ty #[Xv,Yv]).run P w=.ok r w'/\den ρ' v=some r/\HR ρ' s' w'/\FR ρ w ρ' w':=by
 obtain⟨zv,i,hi,hzi,hzs,W,hbytes⟩:=pC hok;obtain⟨lo,K,g2,g3,g4,g5,rfl⟩:=iM hX (.inl (by omega));obtain⟨ys,y1,y2,y3,y4⟩:=fX (P:=P) h hY ha;obtain⟨ys',y1',y2',y3',y4'⟩:=fX (P:=P) h.drew hY ha;rw[y1]at y1';cases y1';unfold BK at e;split at e
 .rename_i el sb nv vers hg;split at e
  .rename_i u hu;cases hb:Nat.ble u.lo a.c with
   |false=>rw[hb]at e;cases e
   |true =>
   rw[hb]at e;simp only[ge]at e;split at e
   .rename_i old ho;have hload:=Aq hg hu hb ho;obtain⟨lo',os,k1,k2,k3,k4,k5⟩:=tH (P:=P) h hload;obtain⟨lo'',os',k1',k2',k3',k4',k5'⟩:=tH (P:=P) h.drew hload;rw[k3]at k3';cases k3';rw[K]at k1 k1';cases k1;cases k1';have hcoord:0<len->bK lo a z cap sz=a.c:=gp g4;have X:(Builtin.firstCells sz len (.slice (some ⟨lo.b,bK lo a z cap sz - lo.base,none⟩) len (cM lo a cap sz))).run P w.drew=.ok os.toArray w.drew:=by
     rcases aoG len with q|q
     .subst q;have:os=[]:=by simpa using k4
      subst this;have:=aoH (P:=P) (w:=w.drew) ⟨lo.b,bK lo a z cap sz - lo.base,none⟩ [] (λj v h=>by simp at h);simp only[Builtin.firstCells,apo];exact this
     .rw[hcoord q];exact k5'
    have L:=dJ k3 y1;have hallLen:(os++ys).length=(len+n)*sz:=by rw[abg,k4,y2,aoY]
    have fresh:cM lo a cap sz<len+n->∀ v s',lu s elem (old++l) (len+n) sz=(v,s') ->
     ∃ ρ' r w',(Builtin.append_ ts ty #[.slice (some ⟨lo.b,bK lo a z cap sz - lo.base,none⟩) len (cM lo a cap sz),Yv]).run P w=.ok r w'/\den ρ' v=some r/\HR ρ' s' w'/\FR ρ w ρ' w':=by
     intro hlt v s' e;have m:=lI (ty:=ty) h0 h1 hs J hd hz hi hzi y3 hlt hrm X y4';obtain⟨ρ',j1,j2,j3⟩:=lP h.drew (elem:=elem) L (apA w (len+n) (cM lo a cap sz) elem) W hallLen (rest:=Builtin.zeroCells zv.cells (grownCap w (len+n) (cM lo a cap sz) elem - (len+n))) (by rw[hJ,hzs]) e;refine⟨ρ',_,_,m,j1,?_,(FR.drew ρ w).trans ?_⟩
     .simpa using j2
     .simpa using j3
    split at e
    .
     rename_i c;unfold HF at e;cases hc:Nat.ble (len+n) c with
     |false =>rw[hc]at e;simp only[Xi,acf]at e;refine fresh ?_ _ _ e;show c<len+n;exact apu λq=>by rw[acw q]at hc;cases hc
     |true =>
      rw[hc]at e;simp only[ge]at e;have hle:=act hc;split at e
      .rename_i s1 hst;cases e;obtain⟨ad,w',Y,H,q3,q4⟩:=mb P h hst y1;have m:=jt (ty:=ty) (w:=w) (base:=some ⟨lo.b,a.c - lo.base,none⟩) h0 h1 hs J hd hz y3 hle y4;have had:ad=(⟨lo.b,a.c - lo.base,none⟩:Addr).add (len*sz):=by grind [un,zV]
       simp only[<- had,H,acW]at m;refine⟨ρ,_,w',m,?_,q3,q4⟩;exact dO K g3 g3 hle g5
      .cases e
    .
     cases ha1:l.all V.one with
     |false=>rw[ha1]at e;cases e
     |true =>
     rw[ha1]at e;simp only[ge,acf]at e;unfold BL at e;cases e;obtain⟨vr,hmem,hv⟩:=h.ver hg hu;obtain⟨lv,c,el',fz,r1,r2,r3,r4,r5,r6⟩:=vr;rw[hv,K]at r1;cases r1;have hB:=h.blk _ _ hg;have A:ρ a.f nv=none:=hB.1 nv (abH _);have hcells:∀(j:Nat) (q:Value),os[j]? = some q->c[a.c - lo.base+j]? = some q:=by obtain⟨ad,os2,Z,t2,t3,t4⟩:=jz h hload;rw[k3]at t2;cases t2;rw[zV K g3]at Z;cases Z;intro j q hq;have:=t4 j q hq;rw[kP]at this;simpa[World.cell?,r2]using this
     rcases aoN (cM lo a none sz) (len+n)with hlt|N
     .
      have m:=lI (ty:=ty) h0 h1 hs J hd hz hi hzi y3 hlt hrm X y4';generalize hcap:grownCap w (len+n) (cM lo a none sz) elem=newCap at m;have hcge:len+n<=newCap:=by rw[<- hcap];exact apA w _ _ _
      have hsize:(os.toArray++ys.toArray++Builtin.zeroCells zv.cells (newCap - (len+n))).size=newCap*sz:=by rw[api,hJ,hzs,api,List.size_toArray,List.size_toArray,<- abg,hallLen,<- aoY];congr 1;omega
      have hq:newCap*sz / sz=newCap:=Nat.mul_div_cancel _ W;have hheap:∀ k,k<w.heap.size->(w.drew.alloc (.cells (os.toArray++ys.toArray++Builtin.zeroCells zv.cells (newCap - (len+n))) elem)).heap[k]? = w.heap[k]?:=λk hk=>jd w.drew _ hk
      obtain⟨j1,j2⟩:=h.grow (w':=w.drew.alloc (.cells (os.toArray++ys.toArray++Builtin.zeroCells zv.cells (newCap - (len+n))) elem)) (f:=a.f) (nv:=nv) (l:=⟨w.heap.size,a.c,a.c+newCap*sz⟩) K A
       (λg v x J hb=>by have:=h.low _ _ _ J;simp only at hb;omega) (by simp) (by simp) rfl rfl rfl
       (λk hk _=>hheap k hk) (λhb=>by simp at hb) (by show ¬(a.c+newCap*sz<a.c);omega) (λv x J=>h.rw _ _ hg (λ_ h=>by cases h) v x J)
       (B:=.cells el sb (nv+1) (⟨nv,a.c,old++l⟩::vers.filter λu=>Nat.ble (u.lo+u.cells.length) (a.c+len*sz))) (by
        refine⟨λv hv=>?_,λu' F=>?_⟩
        .unfold aS.put;rw[ajD (by omega)];exact hB.1 v (by omega)
        .rcases afS.1 F with rfl|F
         .refine⟨apx _,⟨w.heap.size,a.c,a.c+newCap*sz⟩,_,elem,(0,0),aS.put_same _ _ _ _,eO w.drew _,abH _,by rw[hsize],⟨λ_=>rfl,by simp⟩,λi x G=>?_⟩;obtain⟨q,Y,H⟩:=eT i L G;refine⟨q,cr (aS.le_put _ A) _ _ Y,?_⟩;have O:i<(os++ys).length:=(acy.1 H).1;simp only[akN,afY];rw[<- akF,Array.toList_append,Array.toList_append];rw[afZ (by simpa using O)];exact H
         .have hu2:=(aoL.1 F).1;obtain⟨p1,Q⟩:=hB.2 u' hu2;exact⟨by omega,(Q.of_heap λl' hl'=>hheap _ (h.low _ _ _ hl')).mono (aS.le_put _ A)⟩)
      refine⟨_,_,_,m,?_,j1,j2⟩;have I:cM ⟨w.heap.size,a.c,a.c+newCap*sz⟩ ⟨a.f,nv,a.c⟩ none sz=newCap:=by simp[cM,hq]
      have M:bK ⟨w.heap.size,a.c,a.c+newCap*sz⟩ ⟨a.f,nv,a.c⟩ z none sz=a.c:=gp (len:=len+n) (by rw[I];exact hcge) (by omega);rw[dO (a:=⟨a.f,nv,a.c⟩) (z:=z) (len:=len+n) (cap:=none) (l:=⟨w.heap.size,a.c,a.c+newCap*sz⟩) (aS.put_same _ _ _ _) (by rw[M];exact abH _) (abH _) (by rw[I];exact hcge) g5,M,I];simp
     .
      have hroom:=N;have hcoord':bK lo a z none sz=a.c:=gp (len:=len+n) N (by omega);have m:=jt (ty:=ty) (w:=w) (base:=some ⟨lo.b,a.c - lo.base,none⟩) h0 h1 hs J hd hz y3 hroom y4;have hfit:a.c - lo.base+len*sz+0+ys.length<=c.size:=by
       have Z:(len+n)*sz<=(lo.lim - a.c) / sz*sz:=aoT _ N;have t2:=Nat.div_mul_le_self (lo.lim - a.c) sz;have t3:1*sz<=(len+n)*sz:=aoT _ (by omega)
       grind
      have hone:∀ q∈ys,q.oneCell'=true:=λq hq=>by
       obtain⟨j,hj⟩:=apk hq;have hyl:=bW y1;have hj2:j<l.length:=by have:=(acy.1 hj).1;omega
       obtain⟨q',Z,t2⟩:=eT j y1 (abI hj2)
       grind [AZ]
      obtain⟨w',c',p1,Q,p3,p4,p5⟩:=EP P lo.b (a.c - lo.base+len*sz) el' fz ys 0 c w r2 r5.2 hfit hone;simp only[kP,p1,acW]at m;rw[<- hcoord']at m;have hin:∀ g v x,ρ g v=some x->x.b=lo.b->g=a.f/\x.base=lo.base:=λg v x J hb=>h.inj _ _ _ _ _ _ J K hb
      obtain⟨j1,j2⟩:=h.grow (w':=w') (f:=a.f) (nv:=nv) (l:=lo) K A hin (by rw[Q.size];exact h.low _ _ _ K) (by rw[Q.size];exact abH _) Q.os Q.tape Q.output
       (λk _ hk=>Q.other k hk) (λ_=>⟨_,_,_,K,rfl,h.rw _ _ hg (λ_ h=>by cases h) _ _ K⟩) (h.rw _ _ hg (λ_ h=>by cases h) _ _ K) (λv x J=>h.rw _ _ hg (λ_ h=>by cases h) v x J)
       (B:=.cells el sb (nv+1) (⟨nv,a.c,old++l⟩::vers.filter λu=>Nat.ble (u.lo+u.cells.length) (a.c+len*sz))) (by
        refine⟨λv hv=>?_,λu' F=>?_⟩
        .unfold aS.put;rw[ajD (by omega)];exact hB.1 v (by omega)
        .rcases afS.1 F with rfl|F
         .refine⟨apx _,lo,c',el',fz,aS.put_same _ _ _ _,p3,g3,by rw[p4];exact r4,by rw[p4];exact r5,λi x G=>?_⟩;obtain⟨q,Y,H⟩:=eT i L G;refine⟨q,cr (aS.le_put _ A) _ _ Y,?_⟩;rw[p5];have O:i<(os++ys).length:=(acy.1 H).1;rw[abg,k4]at O;simp only;by_cases hi3:i<len*sz
          .rw[ajD (by omega)];rw[afZ (by omega)]at H;exact hcells i q H
          .rw[akJ (by omega)];rw[anH (by omega),k4]at H;rw[<- H];congr 1;omega
         .have hu2:=(aoL.1 F).1;have hu3:=act (aoL.1 F).2;obtain⟨s1,l',c2,e2,f2,Z,t2,t3,t4,t5,t6⟩:=hB.2 u' hu2;refine⟨by omega,?_⟩;by_cases U:l'.b=lo.b
          .obtain⟨_,hbase⟩:=hin _ _ _ Z U;rw[U,r2]at t2;cases t2;refine⟨l',c',el',fz,aS.le_put _ A _ _ _ Z,by rw[U];exact p3,t3,by rw[p4];exact t4,by rw[p4];exact t5,λi x G=>?_⟩;obtain⟨q,Y,H⟩:=t6 i x G;refine⟨q,cr (aS.le_put _ A) _ _ Y,?_⟩;have O:i<u'.cells.length:=(acy.1 G).1;rw[p5,ajD (by omega)];exact H
          .exact⟨l',c2,e2,f2,aS.le_put _ A _ _ _ Z,by rw[Q.other _ U];exact t2,t3,t4,t5,λi x G=>by obtain⟨q,Y,H⟩:=t6 i x G;exact⟨q,cr (aS.le_put _ A) _ _ Y,H⟩⟩)
      refine⟨_,_,w',m,?_,j1,j2⟩;have I:cM lo ⟨a.f,nv,a.c⟩ none sz=cM lo a none sz:=rfl;have M:bK lo ⟨a.f,nv,a.c⟩ z none sz=bK lo a z none sz:=rfl;rw[dO (a:=⟨a.f,nv,a.c⟩) (z:=z) (len:=len+n) (cap:=none) (l:=lo) (aS.put_same _ _ _ _) (by rw[M];exact g2) g3 (by rw[I];exact N) g5,M,I]
   .cases e
  .cases e
 .cases e
def EA(h:HR ρ s w){ts:Array TypeId}{ty sT xT:TypeId}{x y:V}{X Y:Value}(h0:ts[0]? = some sT)(H:ts[1]? = some xT)(u:den ρ x=some X)(W:den ρ y=some Y)
 {v:V} {s':S} (e:ut P sT xT s x y=some (v,s')) :
 ∃ ρ' r w',(Builtin.append_ ts ty #[X,Y]).run P w=.ok r w'/\den ρ' v=some r/\HR ρ' s' w'/\FR ρ w ρ' w':=by
 unfold ut at e;split at e
 .rename_i elem I;cases F:Jv P xT with
  |false=>rw[F]at e;cases e
  |true =>
  rw[F]at e;simp only[ge]at e;obtain⟨d,J,K⟩:=Mr F;split at e
  .rename_i sz L;cases A:vO P elem sz with
   |false=>rw[A]at e;cases e
   |true =>
   rw[A]at e;simp only[ge]at e;unfold fY at e;split at e
   .rename_i l n Z;cases hn:aG P elem n with
    |false=>rw[hn]at e;cases e
    |true =>
    rw[hn]at e;simp only[ge]at e;obtain⟨zv,i,hi,M,N,B,hbytes⟩:=pC A;obtain⟨ys,y1,y2,O,y4⟩:=fX (P:=P) h W Z;split at e
    .cases u;cases hb:Nat.beq n 0 with
     |true =>rw[hb]at e;obtain rfl:=abj hb;cases e;refine⟨ρ,.slice none 0 0,w,?_,rfl,h,FR.refl ρ w⟩;exact jt (ty:=ty) (base:=none) (sLen:=0) (sCap:=0) h0 H I J K L O (abH _) y4
     |false =>
      rw[hb]at e;simp only[Xi,acf]at e;have hn0:0<n:=apa λq=>by subst q;simp at hb
      obtain⟨ys',y1',y2',y3',y4'⟩:=fX (P:=P) h.drew W Z;rw[y1]at y1';cases y1';have g:=lI (ty:=ty) (base:=none) (sLen:=0) (sCap:=0) (olds:=#[]) h0 H I J K L hi M O (by omega) (by rw[afY];exact hn) rfl y4';simp only[afY]at g;obtain⟨ρ',j1,j2,j3⟩:=lP h.drew (elem:=elem) y1 (apA w n 0 elem) B y2 (rest:=Builtin.zeroCells zv.cells (grownCap w n 0 elem - n)) (by rw[hJ,N]) e;refine⟨ρ',_,_,g,j1,?_,(FR.drew ρ w).trans ?_⟩
      .simpa using j2
      .simpa using j3
    .rename_i a z len cap sz';cases m:(Nat.beq len 0&&jI cap)with
     |true =>
      rw[m]at e;simp only[ge]at e;simp only[abk]at m;obtain rfl:=abj m.1;have Q:cap=some 0:=by
       cases cap with
       |none=>cases m.2
       |some c=>rw[abj m.2]
      subst Q;have hX0:∃ q,X=.slice (some q) 0 0:=by
       simp only[den,iJ]at u;split at u
       .grind
       .split at u
        .split at u
         .cases u;exact⟨_,rfl⟩
         .cases u
        .cases u
      obtain⟨q,rfl⟩:=hX0;cases hb:Nat.beq n 0 with
      |true =>
       rw[hb]at e;obtain rfl:=abj hb;cases e;refine⟨ρ,_,w,?_,u,h,FR.refl ρ w⟩;have:=jt (ty:=ty) (w:=w) (base:=some q) (sLen:=0) (sCap:=0) h0 H I J K L O (abH _) y4;have G:ys=[]:=by simpa using y2
       subst G;rw[this];simp[Go.storeCells]
      |false =>
       rw[hb]at e;simp only[Xi,acf]at e;have hn0:0<n:=apa λq=>by subst q;simp at hb
       obtain⟨ys',y1',y2',y3',y4'⟩:=fX (P:=P) h.drew W Z;rw[y1]at y1';cases y1';have hol:(Builtin.firstCells sz 0 (.slice (some q) 0 0)).run P w.drew=.ok #[] w.drew:=by have:=aoH (P:=P) (w:=w.drew) q [] (λj v h=>by simp at h);simp only[Builtin.firstCells,apo];exact this
       have g:=lI (ty:=ty) (base:=some q) (sLen:=0) (sCap:=0) (olds:=#[]) h0 H I J K L hi M O (by omega) (by rw[afY];exact hn) hol y4';simp only[afY]at g;obtain⟨ρ',j1,j2,j3⟩:=lP h.drew (elem:=elem) y1 (apA w n 0 elem) B y2 (rest:=Builtin.zeroCells zv.cells (grownCap w n 0 elem - n)) (by rw[hJ,N]) e;refine⟨ρ',_,_,g,j1,?_,(FR.drew ρ w).trans ?_⟩
       .simpa using j2
       .simpa using j3
     |false =>
     rw[m]at e;simp only[Xi]at e;cases hb:(Nat.beq sz sz'&&aG P elem (len+n))with
     |false=>rw[hb]at e;cases e
     |true =>
     rw[hb]at e;simp only[ge]at e;simp only[abk]at hb;obtain rfl:=abj hb.1;have U:=hb.2;cases hb:Nat.beq n 0 with
     |true =>
      rw[hb]at e;obtain rfl:=abj hb;cases e;obtain⟨lo,g1,g2,g3,g4,g5,rfl⟩:=iM u (.inl (by omega));refine⟨ρ,_,w,?_,u,h,FR.refl ρ w⟩;have:=jt (ty:=ty) (w:=w) (base:=some ⟨lo.b,bK lo a z cap sz - lo.base,none⟩) (sLen:=len) (sCap:=cM lo a cap sz) h0 H I J K L O g4 y4;have G:ys=[]:=by simpa using y2
      subst G;rw[this];simp[Go.storeCells]
     |false =>rw[hb]at e;simp only[Xi]at e;exact JX h h0 H I J K L A u W Z U (λq=>by subst q;simp at hb) e
    .cases e
   .cases e
  .cases e
 .cases e
end ops
section ops
variable{P:Program}{ρ:aS}{s:S}{w:World}{t:T V}{tm:Array Value}
theorem nK{x:V}{ys:List Value}(h:br ρ [x]=some ys):∃ X,den ρ x=some X/\ys=[X]:=by obtain⟨X,q,a,b,rfl⟩:=bt.1 h;cases b;exact⟨X,a,rfl⟩
def Qr{x y:V}{ys:List Value}(h:br ρ [x,y]=some ys):∃ X Y,den ρ x=some X/\den ρ y=some Y/\ys=[X,Y]:=by
 obtain⟨X,q,h1,h2,rfl⟩:=bt.1 h
 grind [nK]
def Bt(h:HR ρ s w){ts:Array TypeId}{ty t0:TypeId}{x:V}{X:Value}{v:V}(h0:ts[0]? = some t0)(d:den ρ x=some X)(e:mu P t0 s x=some v) :
 ∃ y,den ρ v=some y/\(Builtin.len_ ts ty #[X]).run P w=.ok y w:=by
 unfold mu at e;split at e
 .rename_i l b;cases e;cases d;exact⟨_,by rw[cX];rfl,by simp[Builtin.len_,h0,aL b,fe,goInt]⟩
 .rename_i n _ _ b;cases e;exact⟨_,rfl,by simp[Builtin.len_,h0,aL b,goInt]⟩
 .rename_i el a z n cap sz b;cases e;obtain⟨b',c',rfl,_⟩:=wh d;exact⟨_,by rw[cX];rfl,by simp[Builtin.len_,h0,aL b,goInt]⟩
 .rename_i el b;cases e;cases d;exact⟨_,rfl,by simp[Builtin.len_,h0,aL b,goInt]⟩
 .rename_i k el b;cases e;cases d;exact⟨_,rfl,by simp[Builtin.len_,h0,aL b,goInt]⟩
 .rename_i k el r b;split at e
  .rename_i es c j;cases e;obtain⟨l,hl,rfl⟩:=Hv d;obtain⟨l',rs,g,m,q⟩:=h.blk _ _ j;rw[hl]at g;cases g;have:es.length=rs.size:=(gE.length q).trans (anX (xs:=rs));exact⟨.int .i64 (rs.size:Nat),by rw[<- this];rfl,by simp[Builtin.len_,h0,aL b,goInt,mT m]⟩
  .cases e
 .cases e
def Dl{ts:Array TypeId}{ty t0:TypeId}{x:V}{X:Value}{v:V}(h0:ts[0]? = some t0)(d:den ρ x=some X)(e:afI P t0 x=some v) :
 ∃ y,den ρ v=some y/\(Builtin.cap_ ts ty #[X]).run P w=.ok y w:=by
 unfold afI at e;split at e
 .rename_i el g;split at e
  .cases e;cases d;exact⟨_,rfl,by simp[Builtin.cap_,h0,aL g,goInt]⟩
  .rename_i a z n c sz;cases e;obtain⟨b',c',rfl,b⟩:=wh d;obtain rfl:=b _ rfl;exact⟨_,by rw[cX];rfl,by simp[Builtin.cap_,h0,aL g,goInt]⟩
  .cases e
 .cases e
def kD{f:V->V->Option V}{g:Value->Value->Sem Value}(b:∀ x y v X Y,f x y=some v->den ρ x=some X->den ρ y=some Y->∃ z,den ρ v=some z/\(g X Y).run P w=.ok z w) :
 ∀(l:List V) (ys:List Value) (x:V) (X:Value) (v:V),br ρ l=some ys->den ρ x=some X->l.foldlM f x=some v->∃ y,den ρ v=some y/\(ys.foldlM g X).run P w=.ok y w
 |[],ys,x,X,v,hl,e,h=>by cases hl;simp_all
 |a::l,ys,x,X,v,hl,e,h=>by
  obtain⟨y,q,j,m,rfl⟩:=bt.1 hl;simp only[List.foldlM_cons]at h;cases d:f x a with
  |none=>rw[d]at h;simp at h
  |some u =>rw[d]at h;simp at h;obtain⟨z,n,z2⟩:=b _ _ _ _ _ d e j;obtain⟨y',k1,k2⟩:=kD b l q u z v m n h;simp_all
def Bl(x y v:V)(X Y:Value)(h:RP x y=some v)(d:den ρ x=some X)(hy:den ρ y=some Y):∃ z,den ρ v=some z/\(Builtin.max2 X Y).run P w=.ok z w:=by
 unfold RP at h;split at h
 .rename_i j a k b;cases hk:dE j k with
  |false=>rw[hk]at h;cases h
  |true =>
   rw[hk]at h;simp only[ge,acf]at h;subst h;cases d;cases hy;refine⟨_,rfl,?_⟩;simp only[Builtin.max2,ajJ]
   grind
 .cases h
def Bj(x y v:V)(X Y:Value)(h:RN x y=some v)(d:den ρ x=some X)(hy:den ρ y=some Y):∃ z,den ρ v=some z/\(Builtin.min2 X Y).run P w=.ok z w:=by
 unfold RN at h;split at h
 .rename_i j a k b;cases hk:dE j k with
  |false=>rw[hk]at h;cases h
  |true =>
   rw[hk]at h;simp only[ge,acf]at h;subst h;cases d;cases hy;refine⟨_,rfl,?_⟩;simp only[Builtin.min2,ajJ]
   grind
 .cases h
def KY(h:HR ρ s w){b:Builtin}{ts:Array TypeId}{ty:TypeId}{consts:Array Bool}{args:List V}{ys:List Value}(g:br ρ args=some ys){nx:Nx}(e:jL P b ts args s=some nx) :
 Lq P ρ w nx ((Go.builtin b ts ty consts ys.toArray).run P w):=by
 unfold jL at e;split at e
 .split at e
  .rename_i t0 h0;split at e
   .rename_i t1 j;split at e
    .rename_i x y;obtain⟨X,Y,a,hy,rfl⟩:=Qr g;unfold jx at e;split at e
     .rename_i v s' n;cases e;obtain⟨ρ',r,w',u,z,A,B⟩:=EA (ty:=ty) h h0 j a hy n;exact⟨ρ',r,w',by simp[Go.builtin,u],z,A,B⟩
     .cases e
    .cases e
   .cases e
  .cases e
 .split at e
  .rename_i t0 h0;split at e
   .rename_i x;obtain⟨X,a,rfl⟩:=nK g;exact(bq h e λv d=>Bt h h0 a d).toR h
   .cases e
  .cases e
 .refine(bq (m:=Builtin.max_ ts ty ys.toArray) h e λv d=>?_).toR h;cases args with
  |nil=>cases d
  |cons x r =>obtain⟨X,q,a,hr,rfl⟩:=bt.1 g;exact kD Bl r q x X v hr a d
 .refine(bq (m:=Builtin.min_ ts ty ys.toArray) h e λv d=>?_).toR h;cases args with
  |nil=>cases d
  |cons x r =>obtain⟨X,q,a,hr,rfl⟩:=bt.1 g;exact kD Bj r q x X v hr a d
 .cases e;exact⟨rfl,h⟩
 .split at e
  .rename_i t0 h0;split at e
   .rename_i x;obtain⟨X,a,rfl⟩:=nK g;exact(bq h e λv d=>Dl h0 a d).toR h
   .cases e
  .cases e
 .split at e
  .rename_i tt v;cases e;obtain⟨X,a,rfl⟩:=nK g;refine⟨X,a,?_,h⟩;simp only[den]at a;split at a
   .cases a;simp[Go.builtin,Instr.panic]
   .cases a
  .cases e
 .cases e
def NU.entry:NU->Array Value->Sem Value
 |.indexByte=>Extern.BytealgIndexByte.indexByte
 |.count=>Extern.BytealgCount.count
structure jM(E:dX):Prop where
 ext:∀ f k fn,E.ext f=some k->E.P.funcs[f]? = some fn->fn.body=none->(fn.name == "runtime.NumGoroutine")=false/\Extern.findNext fn=none/\Extern.find fn=some k.entry
def QN(x c:Nat):(UInt8.ofNat x==UInt8.ofNat c)=Nat.beq (Nat.mod x 256) (Nat.mod c 256):=by
 rw[ajF];simp only[apG,Nat.beq_eq];constructor
 .intro h;have:=anL UInt8.toNat h;simp at this;exact this
 .intro h;apply UInt8.toNat_inj.1;simp;exact h
def tQ(c:Nat):∀(l:List Nat) (i:Nat),(match jk (Nat.mod c 256) l i with|some j=>(Int.ofNat j)|none=>-1)=if Lib.indexByte (l.map UInt8.ofNat) (UInt8.ofNat c)=-1 then -1 else Lib.indexByte (l.map UInt8.ofNat) (UInt8.ofNat c)+i
 |[],i=>rfl
 |x::l,i=>by
  have ih:=tQ c l (i+1);have hge:=Lib.indexByte_ge (l.map UInt8.ofNat) (UInt8.ofNat c);simp only[jk,ads,Lib.indexByte,QN]
  grind
def Dg(c:Nat):∀(l:List Nat),countByte (Nat.mod c 256) l=Lib.countByte (l.map UInt8.ofNat) (UInt8.ofNat c)
 |[]=>rfl
 |x::l=>by
  have ih:=Dg c l;simp only[countByte,ads,Lib.countByte,List.count_cons,QN]at ih ⊢
  grind
def Eo{k:NU}{args:List V}{ys:List Value}(d:br ρ args=some ys){v:V}(e:HP k args=some v) :
 ∃ y,den ρ v=some y/\(k.entry ys.toArray).run P w=.ok y w:=by
 unfold HP at e;split at e
 .rename_i l c;obtain⟨X,Y,g,hy,rfl⟩:=Qr d;cases g;cases hy;have hl:(aR l).data.toList=l.map UInt8.ofNat:=by simp[aR]
  have hc:(Int.ofNat c).toNat.toUInt8=UInt8.ofNat c:=rfl;split at e
  .have:=Lib.run_indexByteString (P:=P) (aR l) (Int.ofNat c) w;have a:=tQ c l 0;rw[hl,hc]at this;refine⟨_,?_,this⟩;simp only[acf]at e;subst e;have hge:=Lib.indexByte_ge (l.map UInt8.ofNat) (UInt8.ofNat c);generalize Lib.indexByte (l.map UInt8.ofNat) (UInt8.ofNat c)=r at *;cases b:jk (Nat.mod c 256) l 0 with
   |none =>
    rw[b]at a;simp only at a ⊢;by_cases hr:r=-1
    .subst hr;rfl
    .rw[ajD hr]at a;simp at a;omega
   |some j =>
    rw[b]at a;simp only at a ⊢;by_cases hr:r=-1
    .rw[akJ hr]at a;simp at a
    .rw[ajD hr]at a;simp at a;rw[<- a];rfl
  .have:=Lib.run_countString (P:=P) (aR l) (Int.ofNat c) w;rw[hl,hc]at this;refine⟨_,?_,this⟩;simp only[acf]at e;subst e;rw[cX,Dg];rfl
 .cases e
def KX{E:dX}(d:jM E)(h:HR ρ s w){f:FuncId}{args:List V}{ys:List Value}(a:br ρ args=some ys){nx:Nx}(e:QL E f args s=some nx) :
 Lq E.P ρ w nx ((callFunc f ys.toArray).run E.P w):=by
 unfold QL at e;split at e
 .cases e
 .rename_i fn b;split at e
  .rename_i hb;split at e
   .rename_i k hk;obtain⟨g,j,m⟩:=d.ext f k fn hk b hb;unfold bS at e;split at e
    .rename_i v n;cases e;obtain⟨y,q,u⟩:=Eo (P:=E.P) (w:=w) a n;exact⟨ρ,y,w,by rw[run_callFunc_extern b g (by simp[hb]) j m,u];rfl,q,h,FR.refl ρ w⟩
    .cases e
   .cases e
  .cases e;exact⟨ys,a,rfl,h⟩
def BO{fn:Fn}{first cap:List V}{X:Value}(h:den ρ (.func fn first cap)=some X):∃ g a b,oi ρ fn=some g/\br ρ first=some a/\br ρ cap=some b/\X=.func g a.toArray b.toArray:=by grind [den]
def DA(a:TR ρ t tm){args:Array Operand}{vs:List V}(h:iI t args.toList=some vs):∃ ys,br ρ vs=some ys/\args.map (rv tm)=ys.toArray :=
 ⟨_,lw a h,by simp[<- Array.toList_inj]⟩
def Ir{E:dX}(z:jM E)(h:HR ρ s w)(q:TR ρ t tm){c:Call}{ty:TypeId}{nx:Nx}(e:iU E t s c.argTypes (iI t c.args.toList) c.callee=some nx) :
 Lq E.P ρ w nx ((do let d <- resolve (rv tm) c ty;invoke d.target d.args:Sem Next).run E.P w):=by
 unfold iU at e;split at e
 .rename_i args A;obtain⟨ys,m,u⟩:=DA q A;split at e
  .rename_i b hc;simp only[resolve,hc,afX,ajJ,acW,invoke,u];exact KY h m e
  .rename_i f hc;unfold QK at e;split at e
   .rename_i fn first cap B
    obtain⟨g,a,b,j,y,F,G⟩:=BO (aO q B);simp only[resolve,hc,G,Deferred.ofValue,afX,ajJ,acW,u];split at e
    .rename_i g';cases j;have:=KX z h (dJ y (dJ m F)) e;simpa[invoke]using this
    .rename_i l;simp only[oi]at j;split at j
     .rename_i lb n;cases j;cases e;exact⟨lb,a++ys,n,dJ y m,by simp[invoke],h⟩
     .cases j
    .cases e
   .cases e
  .cases e
 .cases e
def Eu(h:HR ρ s w)(d:TR ρ t tm){c:Call}{ty:TypeId}{nx:Nx}(e:qj t s (iI t c.args.toList) c.callee=some nx) :
 Lq P ρ w nx ((do pure (.defer (<- resolve (rv tm) c ty)):Sem Next).run P w):=by
 unfold qj at e;split at e
 .rename_i args j;obtain⟨ys,m,n⟩:=DA d j;split at e
  .rename_i f hc;unfold Id at e;split at e
   .rename_i fn first cap q
    cases e;obtain⟨g,a,b,u,y,z,A⟩:=BO (aO d q);refine⟨_,⟨g,b,a++ys,u,z,dJ y m,rfl⟩,?_,h⟩;simp[resolve,hc,A,Deferred.ofValue,n]
   .cases e
  .cases e
 .cases e
def Er(h:HR ρ s w)(b:TR ρ t tm){x:Operand}{nx:Nx}(e:zT s (eval t x)=some nx) :
 Lq P ρ w nx ((do pure (Next.value (<- Instr.panic (rv tm x))):Sem Next).run P w):=by
 unfold zT at e;split at e
 .rename_i tt v d;cases e;have a:=aO b d;refine⟨_,a,?_,h⟩;generalize rv tm x=X at *;simp only[den]at a;split at a
  .cases a;simp[Instr.panic]
  .cases a
 .cases e
def tC(h:HR ρ s w)(a:TR ρ t tm){x:Operand}{nx:Nx}(e:bS s (eval t x)=some nx):DN P ρ w s nx ((pure (Next.value (rv tm x)):Sem Next).run P w):=by
 unfold bS at e;split at e
 .rename_i v b;cases e;exact⟨_,_,rfl,rfl,aO a b⟩
 .cases e
def AW{E:dX}(g:jM E)(h:HR ρ s w)(d:TR ρ t tm)(o:Oper){nx:Nx}(e:ep E t s o=some nx):Lq E.P ρ w nx ((execOp (rv tm) o).run E.P w):=by
 obtain⟨dst,op,type,pos,after,guard⟩:=o;unfold ep at e;simp only at e;cases op<;>simp only[dF]at e<;>try(cases e;done)
 case move x=>exact(tC h d e).toR h
 case assign x=>exact(tC h d e).toR h
 case pick c a b=>exact(ug h d e).toR h
 case alloc elem=>exact Et h e
 case box elem x=>exact Ky h d e
 case build ty parts=>exact(rh h d e).toR h
 case buildSlice ty len parts=>exact sk h d e
 case load ty x=>exact(ui h d e).toR h
 case store ty x y=>exact Ep h d e
 case nilCheck x=>exact(mB h d e).toR h
 case binOp op ty x y z=>exact(yz h d e).toR h
 case unOp op ty x=>exact(CX h d e).toR h
 case convert src dst x=>exact HZ h d e
 case makeInterface ty x=>exact(od h d e).toR h
 case makeFunc fn first cap=>exact(pE h d e).toR h
 case makeMap ty r =>
  cases r with
  |none=>cases e;exact yU h
  |some _=>cases e
 case makeSlice ty l c=>exact yS h d e
 case slice ty x lo hi mx=>exact(qZ h d e).toR h
 case fieldAddr ty x f=>exact(lB h d e).toR h
 case field ty x f=>exact(rg h d e).toR h
 case indexAddr ty x i=>exact(lA h d e).toR h
 case index ty x i=>exact(ra h d e).toR h
 case lookup ty x k ok=>exact(pF h d e).toR h
 case mapUpdate ty m k x=>exact lz h d e
 case insert ty m k x=>exact lz h d e
 case typeAssert x xt ty ok=>exact(pG h d e).toR h
 case extract x i=>exact(oh h d e).toR h
 case call c=>exact Ir g h d e
 case defer c=>exact Eu h d e
 case panic x=>exact Er h d e
end ops
def nV(ρ:aS):List NR->List PanicEntry->Prop
 |[],[]=>True
 |p::ps,e::es=>(den ρ p.v=some e.v/\p.recovered=e.recovered/\e.goexit=false)/\nV ρ ps es
 |_,_=>False
def nV.mono{ρ ρ':aS}(h:ρ.le ρ'):∀ {c:List NR} {ch:List PanicEntry},nV ρ c ch->nV ρ' c ch
 |[],[],_=>trivial
 |_::_,_::_,⟨⟨a,b⟩,k⟩=>⟨⟨cr h _ _ a,b⟩,nV.mono h k⟩
 |[],_::_,k=>k.elim
 |_::_,[],k=>k.elim
def nV.append{ρ:aS}:∀ {c d:List NR} {ch dh:List PanicEntry},nV ρ c ch->nV ρ d dh->nV ρ (c++d) (ch++dh)
 |[],_,[],_,_,k=>k
 |_::_,_,_::_,_,⟨a,h⟩,k=>⟨a,nV.append h k⟩
 |[],_,_::_,_,h,_=>h.elim
 |_::_,_,[],_,h,_=>h.elim
def XR(ρ:aS):Md->FrameMode->Prop
 |.run,.run=>True
 |.returning,.returning=>True
 |.panicking c,.panicking ch=>nV ρ c ch
 |_,_=>False
def XR.mono{ρ ρ':aS}(h:ρ.le ρ'){m:Md}{a:FrameMode}(k:XR ρ m a):XR ρ' m a:=by cases m<;>cases a<;>first|exact k|exact nV.mono h k
def SX.mono{ρ ρ':aS}(h:ρ.le ρ'){d:ft}{r:Deferred}(k:SX ρ d r):SX ρ' d r:=by
 cases d with
 |call fn cap args =>obtain⟨g,c,a,b,e,j,m⟩:=k;exact⟨g,c,a,Db h b,gm h _ _ e,gm h _ _ j,m⟩
 |collected r =>obtain⟨l,b,e⟩:=k;exact⟨l,h _ _ _ b,e⟩
def GC(ρ:aS):List ft->List Deferred->Prop
 |[],[]=>True
 |d::ds,r::rs=>SX ρ d r/\GC ρ ds rs
 |_,_=>False
def GC.mono{ρ ρ':aS}(h:ρ.le ρ'):∀ {c:List ft} {ch:List Deferred},GC ρ c ch->GC ρ' c ch
 |[],[],_=>trivial
 |_::_,_::_,⟨a,k⟩=>⟨a.mono h,GC.mono h k⟩
 |[],_::_,k=>k.elim
 |_::_,[],k=>k.elim
def XT(ρ:aS):End->Ending->Prop
 |.returned v,.returned y=>den ρ v=some y
 |.panicked c,.panicked ch=>nV ρ c ch
 |_,_=>False
def ew(c:Frame):Ending->Frame
 |.returned v=>c.finish v
 |.panicked ch=>c.raise ch
 |.outgrown=>c
def RdR(ρ:aS)(up:Option Md)(rd ro:Option Nat):Prop:=match rd with
 |none=>ro=none
 |some l=>up=none/\∃ lb:DT,ρ l 0=some lb/\ro=some lb.b
def UpR(ρ:aS)(up:Option Md)(kind:CallKind)(cs:List Frame):Prop:=match up with
 |none=>kind=.normal
 |some u=>kind=.deferred/\∃ c cs',cs=c::cs'/\XR ρ u c.mode
structure lX(P:Program)(ρ:aS)(f:FuncId)(fn:Func)(t:T V)(todo:List Item)(ds:List ft)(m:Md)(up:Option Md)(rd:Option Nat)(fr:Frame)(cs:List Frame):Prop where
 name:fr.fn=f
 func:P.funcs[f]? = some fn
 tr:TR ρ t fr.tmps
 size:fn.ntmps<=fr.tmps.size
 todo:m=.run->fr.todo=todo
 ds:GC ρ ds fr.defers
 md:XR ρ m fr.mode
 rd:RdR ρ up rd fr.roundOf
 up:UpR ρ up fr.kind cs
def rq(P:Program)(f:FuncId)(up rd:Bool)(cs:List Frame)(M:Machine)(ρ:aS)(w:World)(out:fM):Prop :=
 ∃ ρ' w',HR ρ' out.s w'/\FR ρ w ρ' w' /\
  match rd,up with
  |true,_=>∀ c cs',cs=c::cs'->∃ e,XT ρ' out.e e/\Steps P M (lone (ew c e) cs' w')
  |false,false=>∃ fr' e,XT ρ' out.e e/\Steps P M (lone fr' cs w')/\fr'.fn=f/\fr'.leaving P w' e
  |false,true=>∀ c cs',cs=c::cs'->∃ fr' e u a,out.up=some u/\XR ρ' u a/\XT ρ' out.e e /\
   Steps P M (lone fr' ({ c with mode:=a }::cs') w')/\fr'.kind=.deferred/\fr'.going P w' e
def rq.of_steps{P:Program}{f:FuncId}{up rd:Bool}{cs:List Frame}{M M0:Machine}{ρ ρ1:aS}{w m:World}{out:fM}(d:Steps P M0 M)(n:FR ρ w ρ1 m)(h:rq P f up rd cs M ρ1 m out) :
 rq P f up rd cs M0 ρ w out:=by
 obtain⟨ρ',w',q,y,g⟩:=h;refine⟨ρ',w',q,n.trans y,?_⟩;cases rd with
 |true=>intro c cs' hc;obtain⟨e,a,b⟩:=g c cs' hc;exact⟨e,a,d.trans b⟩
 |false=>cases up with
  |false=>obtain⟨fr',e,a,b,j⟩:=g;exact⟨fr',e,a,d.trans b,j⟩
  |true=>intro c cs' hc;obtain⟨fr',e,u,z,a,b,j,A,B⟩:=g c cs' hc;exact⟨fr',e,u,z,a,b,j,d.trans A,B⟩
def rq.of_mode{P:Program}{f:FuncId}{c:Frame}{cs:List Frame}{M:Machine}{ρ:aS}{w:World}{out:fM}{a:FrameMode}(h:rq P f true false ({ c with mode:=a }::cs) M ρ w out) :
 rq P f true false (c::cs) M ρ w out:=by
 obtain⟨ρ',w',b,d,e⟩:=h;refine⟨ρ',w',b,d,λc1 cs1 hc=>?_⟩;cases hc;exact e { c with mode:=a } cs rfl
def IF(P:Program)(f:FuncId)(fn:Func)(t:T V)(todo:List Item)(ds:List ft)(m:Md)(up:Option Md)(rd:Option Nat)(s:S)(out:fM):Prop :=
 ∀ ρ w fr cs,HR ρ s w->lX P ρ f fn t todo ds m up rd fr cs->rq P f up.isSome rd.isSome cs (lone fr cs w) ρ w out
def aeh:Option Md->CallKind
 |none=>.normal
 |some _=>.deferred
def gP(P:Program)(f:FuncId)(args:List V)(up:Option Md)(s:S)(out:fM):Prop :=
 ∀ ρ w ys,HR ρ s w->br ρ args=some ys->(∀ w,(callFunc f ys.toArray).run P w=.ok (.enter f ys.toArray) w) /\
  ∀ cs,(∀ u,up=some u->∃ c cs',cs=c::cs'/\XR ρ u c.mode)->rq P f up.isSome false cs (lone (Frame.enter P f ys.toArray (aeh up)) cs w) ρ w out
def XP(P:Program)(l:Nat)(args:List V)(s:S)(out:fM):Prop :=
 ∀ ρ w lb ys,HR ρ s w->ρ l 0=some lb->br ρ args=some ys ->
  ∃ f tmps assign body,(Instr.yield lb.b ys.toArray).run P w=.ok (.round lb.b f tmps assign body) w /\
   ∀ cs,rq P f false true cs (lone (Frame.round lb.b f tmps assign body .normal) cs w) ρ w out
def ajw(P:Program):uD->S->fM->Prop
 |.frame f fn t todo ds m up rd,s,out=>IF P f fn t todo ds m up rd s out
 |.call f args up,s,out=>gP P f args up s out
 |.round l args,s,out=>XP P l args s out
def Good(P:Program)(ih:uD->S->Option fM):Prop:=∀ j s out,ih j s=some out->ajw P j s out
section steps
variable{P:Program}{fr:Frame}{k:List Item}{cs:List Frame}{w:World}
def Yp(hm:fr.mode=.run)(a:fr.todo=.code .skip::k):step P (lone fr cs w)=.next (lone { fr with todo:=k } cs w):=ajO (by simp[stepG,stepG.exec,hm,a])
def TM{l:Nat}(hm:fr.mode=.run)(a:fr.todo=.code (.label l)::k):step P (lone fr cs w)=.next (lone { fr with todo:=k } cs w):=ajO (by simp[stepG,stepG.exec,hm,a])
def LI{l:Nat}(hm:fr.mode=.run)(a:fr.todo=.inBlock l::k):step P (lone fr cs w)=.next (lone { fr with todo:=k } cs w):=ajO (by simp[stepG,stepG.exec,hm,a])
def LG{c:Code}(hm:fr.mode=.run)(a:fr.todo=.inScope c::k):step P (lone fr cs w)=.next (lone { fr with todo:=k } cs w):=ajO (by simp[stepG,stepG.exec,hm,a])
def acM{a b:Code}(hm:fr.mode=.run)(d:fr.todo=.code (.seq a b)::k):step P (lone fr cs w)=.next (lone { fr with todo:=.code a::.code b::k } cs w):=ajO (by simp[stepG,stepG.exec,hm,d])
def Ys{c:Operand}{a b:Code}{q:Bool}(hm:fr.mode=.run)(d:fr.todo=.code (.cond c a b)::k)(hc:rv fr.tmps c=.bool q):step P (lone fr cs w)=.next (lone { fr with todo:=.code (if q then a else b)::k } cs w) :=
 ajO (by
  have e:fr.eval c=.bool q:=by rw[rW];exact hc
  simp[stepG,stepG.exec,hm,d,e])
def TO{id:Nat}{c:Code}(hm:fr.mode=.run)(a:fr.todo=.code (.block id c)::k):step P (lone fr cs w)=.next (lone { fr with todo:=.code c::.inBlock id::k } cs w):=ajO (by simp[stepG,stepG.exec,hm,a])
def zu{c:Code}(hm:fr.mode=.run)(a:fr.todo=.code (.loop c)::k):step P (lone fr cs w)=.next (lone { fr with todo:=.code c::.inLoop c::k } cs w):=ajO (by simp[stepG,stepG.exec,hm,a])
def Rr{c:Code}(hm:fr.mode=.run)(a:fr.todo=.inLoop c::k):step P (lone fr cs w)=.next (lone { fr with todo:=.code c::.inLoop c::k } cs w):=ajO (by simp[stepG,stepG.exec,hm,a])
def TK{c:Code}(hm:fr.mode=.run)(a:fr.todo=.code (.scope c)::k):step P (lone fr cs w)=.next (lone { fr with todo:=.code c::.inScope c::k } cs w):=ajO (by simp[stepG,stepG.exec,hm,a])
def Yr{id:Nat}{a:List Item}(hm:fr.mode=.run)(b:fr.todo=.code (.exit id)::k)(h:exitTo id k=some a):step P (lone fr cs w)=.next (lone { fr with todo:=a } cs w):=ajO (by simp[stepG,stepG.exec,hm,b,h])
def Yq{l:Nat}{a:List Item}(hm:fr.mode=.run)(b:fr.todo=.code (.goto l)::k)(h:gotoIn l k=some a):step P (lone fr cs w)=.next (lone { fr with todo:=a } cs w):=ajO (by simp[stepG,stepG.exec,hm,b,h])
def acN(hm:fr.mode=.run)(a:fr.todo=.code .ret::k)(hr:fr.roundOf=none):step P (lone fr cs w)=.next (lone { fr with mode:=.returning } cs w):=ajO (by simp[stepG,stepG.exec,hm,a,hr])
def acO(hm:fr.mode=.run)(a:fr.todo=[])(hr:fr.roundOf=none):step P (lone fr cs w)=.next (lone { fr with mode:=.returning } cs w):=ajO (by simp[stepG,stepG.exec,hm,a,hr])
def Rq{id:Nat}{ops:Array Oper}(hm:fr.mode=.run)(a:fr.todo=.code (.region id ops false)::k):step P (lone fr cs w)=.next (lone { fr with todo:=.inRegion ops (List.range ops.size)::k } cs w):=ajO (by simp[stepG,stepG.exec,hm,a])
def sN{ops:Array Oper}(hm:fr.mode=.run)(a:fr.todo=.inRegion ops []::k):step P (lone fr cs w)=.next (lone { fr with todo:=k } cs w):=ajO (by simp[stepG,stepG.exec,hm,a])
def oD{ops:Array Oper}{i:Nat}{rest:List Nat}(hm:fr.mode=.run)(a:fr.todo=.inRegion ops (i::rest)::k)(h:((ops[i]?).map (Region.wanted · (yielded ops fr.tmps))).getD false=false) :
 step P (lone fr cs w)=.next (lone (fr.finish undef) cs w):=ajO (by simp[stepG,stepG.exec,hm,a,h])
def rz{ops:Array Oper}{i:Nat}{rest:List Nat}{o:Oper}(hm:fr.mode=.run)(b:fr.todo=.inRegion ops (i::rest)::k)(ho:ops[i]? = some o)(d:Region.wanted o (yielded ops fr.tmps)=true)
 (a:fr.roundOf=none\/∀ c,o.op≠.defer c) :
 stepG P true { frame:=fr,callers:=cs,status:=.running,dying:=none } w=stepG.apply P true fr cs none (execOp (rv fr.tmps) o) w:=by
 have e:fr.eval=rv fr.tmps:=rW fr;rcases a with a|a
 .simp[stepG,stepG.exec,stepG.oper,Frame.oper?,hm,b,ho,d,e,a]
 .cases hr:fr.roundOf with
  |none=>simp[stepG,stepG.exec,stepG.oper,Frame.oper?,hm,b,ho,d,e,hr]
  |some l =>
   simp only[stepG,stepG.exec,stepG.oper,Frame.oper?,hm,b,ho,d,e,hr,aoh,aor,apn];split
   .rename_i hc;exact absurd hc (a _)
   .rfl
end steps
def El{P:Program}{ρ:aS}{f:FuncId}{fn:Func}{t:T V}{todo:List Item}{ds:List ft}{up:Option Md}{rd:Option Nat}{fr:Frame}{cs:List Frame}
 (h:lX P ρ f fn t todo ds .run up rd fr cs):fr.mode=.run:=by
 have:=h.md;cases hm:fr.mode<;>rw[hm]at this<;>first|rfl|exact this.elim
theorem lX.to{P:Program}{ρ:aS}{f:FuncId}{fn:Func}{t:T V}{todo:List Item}{ds:List ft}{up:Option Md}{rd:Option Nat}{fr:Frame}{cs:List Frame}
 (h:lX P ρ f fn t todo ds .run up rd fr cs) (todo':List Item):lX P ρ f fn t todo' ds .run up rd { fr with todo:=todo' } cs :=
 ⟨h.name,h.func,h.tr,h.size,λ_=>rfl,h.ds,h.md,h.rd,h.up⟩
def lX.mono{P:Program}{ρ ρ':aS}(hl:ρ.le ρ'){f:FuncId}{fn:Func}{t:T V}{todo:List Item}{ds:List ft}{m:Md}{up:Option Md}{rd:Option Nat}{fr:Frame}{cs:List Frame}
 (h:lX P ρ f fn t todo ds m up rd fr cs):lX P ρ' f fn t todo ds m up rd fr cs:=by
 refine⟨h.name,h.func,h.tr.mono hl,h.size,h.todo,h.ds.mono hl,h.md.mono hl,?_,?_⟩
 .have:=h.rd;cases rd with
  |none=>exact this
  |some l=>obtain⟨a,lb,b,d⟩:=this;exact⟨a,lb,hl _ _ _ b,d⟩
 .have:=h.up;cases up with
  |none=>exact this
  |some u=>obtain⟨a,c,cs',b,d⟩:=this;exact⟨a,c,cs',b,d.mono hl⟩
def ej{P:Program}{ρ:aS}{w:World}{f:FuncId}{fn:Func}{t':T V}{todo':List Item}{ds':List ft}{b:Md}{up:Option Md}{rd:Option Nat}{fr fr':Frame}{cs:List Frame}{s:S}{out:fM}
 (h:HR ρ s w) (d:step P (lone fr cs w)=.next (lone fr' cs w)) (e:lX P ρ f fn t' todo' ds' b up rd fr' cs) (a:IF P f fn t' todo' ds' b up rd s out):rq P f up.isSome rd.isSome cs (lone fr cs w) ρ w out :=
 rq.of_steps (.one d) (FR.refl ρ w) (a _ _ _ _ h e)
def wb(up:Option Md)(cs cs':List Frame):Prop:=match up with
 |none=>cs'=cs
 |some _=>∃ c a u,cs=c::a/\cs'={ c with mode:=u }::a
theorem wb.refl{P:Program}{ρ:aS}{f:FuncId}{fn:Func}{t:T V}{todo:List Item}{ds:List ft}{m:Md}{up:Option Md}{rd:Option Nat}{fr:Frame}{cs:List Frame}
 (h:lX P ρ f fn t todo ds m up rd fr cs):wb up cs cs:=by
 have:=h.up;cases up with
 |none=>rfl
 |some u=>obtain⟨_,c,cs',a,_⟩:=this;exact⟨c,cs',c.mode,a,a⟩
def wb.trans{up up':Option Md}(d:up'.isSome=up.isSome){a b c:List Frame}(h:wb up a b)(k:wb up' b c):wb up a c:=by
 cases up with
 |none=>cases up' with
  |none=>exact aoQ k h
  |some _=>cases d
 |some _=>cases up' with
  |none=>cases d
  |some _ =>obtain⟨c1,e,u1,rfl,rfl⟩:=h;obtain⟨c2,t2,g,j,rfl⟩:=k;cases j;exact⟨c1,e,g,rfl,rfl⟩
def rq.of_tops{P:Program}{f:FuncId}{up:Option Md}{rd:Option Nat}{cs cs':List Frame}{M:Machine}{ρ:aS}{w:World}{out:fM}(hr:up.isSome=true->rd=none)
 (a:wb up cs cs') (h:rq P f up.isSome rd.isSome cs' M ρ w out):rq P f up.isSome rd.isSome cs M ρ w out:=by
 cases up with
 |none=>cases a;exact h
 |some u =>cases hr rfl;obtain⟨c,tl,u1,rfl,rfl⟩:=a;exact rq.of_mode h
def lX.lone_up{P:Program}{ρ:aS}{f:FuncId}{fn:Func}{t:T V}{todo:List Item}{ds:List ft}{m:Md}{up:Option Md}{rd:Option Nat}{fr:Frame}{cs:List Frame}
 (h:lX P ρ f fn t todo ds m up rd fr cs):up.isSome=true->rd=none:=by
 intro a;have:=h.rd;cases rd with
 |none=>rfl
 |some l=>rw[this.1]at a;cases a
def putD(t:T V)(d:Option Tmp)(v:V):T V:=oj t d (some v) id
theorem cO{β:Type}(t:T V)(d:Option Tmp)(v:V)(k:T V->β):oj t d (some v) k=k (putD t d v):=YQ t d (some v) k
def gX(tm:Array Value)(d:Option Tmp)(y:Value):Array Value:=match d with
 |some i=>tm.setIfInBounds i y
 |none=>tm
def TR.putD{ρ:aS}{t:T V}{tm:Array Value}(h:TR ρ t tm){d:Option Tmp}{v:V}{y:Value}(a:den ρ v=some y)(b:∀ i,d=some i->i<tm.size):TR ρ (AI.putD t d v) (gX tm d y):=by
 cases d with
 |none=>exact h
 |some i =>have:=TR.put h a (b i rfl);exact this
def FX{fr:Frame}{ops:Array Oper}{i:Nat}{rest:List Nat}{k:List Item}{o:Oper}(a:fr.todo=.inRegion ops (i::rest)::k)(ho:ops[i]? = some o)(y:Value) :
 fr.finish y={ fr with tmps:=gX fr.tmps o.dst y,todo:=.inRegion ops rest::k }:=by
 simp only[Frame.finish,a,ho,apv,gX];cases o.dst<;>rfl
section
variable{P:Program}{ρ:aS}{f:FuncId}{fn:Func}{t:T V}{ds:List ft}{up:Option Md}{rd:Option Nat}{fr:Frame}{cs:List Frame}{ops:Array Oper}{i:Nat}{rest:List Nat}{k:List Item}{o:Oper}
def lX.finish(h:lX P ρ f fn t (.inRegion ops (i::rest)::k) ds .run up rd fr cs)(ho:ops[i]? = some o)(a:∀ d,o.dst=some d->d<fn.ntmps){v:V}{y:Value}(b:den ρ v=some y) :
 lX P ρ f fn (putD t o.dst v) (.inRegion ops rest::k) ds .run up rd (fr.finish y) cs:=by
 rw[FX (h.todo rfl) ho];refine⟨h.name,h.func,h.tr.putD b λi hi=>ajN (a i hi) h.size,?_,λ_=>rfl,h.ds,h.md,h.rd,h.up⟩;show fn.ntmps<=(gX fr.tmps o.dst y).size;have:=h.size;unfold gX;split<;>simpa using this
theorem iZ(h:TR ρ t fr.tmps){b:Bool}(e:cK ops t o=some b):Region.wanted o (yielded ops fr.tmps)=b:=by
 unfold cK at e;unfold Region.wanted;split at e
 .grind
 .rename_i j want u;rw[u];split at e
  .rename_i d n;split at e
   .rename_i q g;obtain⟨y,a,m⟩:=h d _ g;cases a;cases e;simp[yielded,n,m]
   .rename_i q g;obtain⟨y,a,m⟩:=h d _ g;cases e;simp only[den]at a;split at a
    .cases a;simp[yielded,n,m]
    .cases a
   .cases e
  .cases e
end
def ROk(P:Program)(ρ:aS)(w:World)(f:FuncId)(fn:Func)(k:List Item)(up:Option Md)(rd:Option Nat)(cs:List Frame)(M:Machine)(r:ol):Prop :=
 ∃ ρ' w' fr' cs',Steps P M (lone fr' cs' w')/\FR ρ w ρ' w'/\wb up cs cs'/\match r with
  |.on t' ds' up' s'=>HR ρ' s' w'/\lX P ρ' f fn t' k ds' .run up' rd fr' cs'/\up'.isSome=up.isSome
  |.panicked c t' ds' up' s'=>HR ρ' s' w'/\lX P ρ' f fn t' k ds' (.panicking c) up' rd fr' cs'/\up'.isSome=up.isSome
def ROk.of_steps{P:Program}{ρ ρ1:aS}{w b:World}{f:FuncId}{fn:Func}{k:List Item}{up up1:Option Md}{rd:Option Nat}{cs cs1:List Frame}{M M0:Machine}{r:ol}
 (e:Steps P M0 M) (g:FR ρ w ρ1 b) (j:wb up cs cs1) (d:up1.isSome=up.isSome) (h:ROk P ρ1 b f fn k up1 rd cs1 M r):ROk P ρ w f fn k up rd cs M0 r:=by
 obtain⟨ρ',w',fr',cs',m,n,q,a⟩:=h;refine⟨ρ',w',fr',cs',e.trans m,g.trans n,j.trans d q,?_⟩;cases r<;>(simp only at a ⊢;exact⟨a.1,a.2.1,a.2.2.trans d⟩)
def CW{ops:Array Oper}{n:Nat}(h:ob ops n=true){i:Nat}{o:Oper}(ho:ops[i]? = some o):∀ d,o.dst=some d->d<n:=by
 intro d hd
 have:=anN.1 h o (by have:=Array.mem_of_getElem? ho;simpa using this)
 simp_all
def cQ{fr:Frame}(hm:fr.mode=.run)(ch:List PanicEntry):fr.raise ch={ fr with mode:=.panicking ch }:=by simp[Frame.raise,hm]
def uT{E:dX}{ih:uD->S->Option fM}(j:Good E.P ih){ρ:aS}{w:World}{s:S}(h:HR ρ s w){f:FuncId}{args:List V}{ys:List Value}(m:br ρ args=some ys){out:fM}
 (e:cD ih f args none s=some out):(∀ w,(callFunc f ys.toArray).run E.P w=.ok (.enter f ys.toArray) w)/\∀ c cs,∃ ρ' w' e,HR ρ' out.s w'/\FR ρ w ρ' w'/\XT ρ' out.e e /\
  Steps E.P (lone (Frame.enter E.P f ys.toArray .normal) (c::cs) w) (lone (ew c e) cs w'):=by
 have n:=j (.call f args none) s out e;obtain⟨q,y⟩:=n ρ w ys h m;refine⟨q,λc cs=>?_⟩;obtain⟨ρ',w',z,A,fr',d,b,B,k5,g⟩:=y (c::cs) (λu F=>by cases F);refine⟨ρ',w',d,z,A,b,B.trans (.one ?_)⟩;cases d with
 |returned v=>exact step_leave_returned g
 |panicked ch=>exact step_leave_panicked g
 |outgrown=>cases a:out.e<;>rw[a]at b<;>exact b.elim
section ap
variable{P:Program}{fr:Frame}{cs:List Frame}{w w':World}{sem:Sem Next}
def DC{v:Value}(hst:stepG P true { frame:=fr,callers:=cs,status:=.running,dying:=none } w=stepG.apply P true fr cs none sem w)(hr:sem.run P w=.ok (.value v) w') :
 step P (lone fr cs w)=.next (lone (fr.finish v) cs w'):=ajO (by rw[hst];simp[stepG.apply,hr])
def QY(hst:stepG P true { frame:=fr,callers:=cs,status:=.running,dying:=none } w=stepG.apply P true fr cs none sem w)(hr:sem.run P w=.ok .skip w') :
 step P (lone fr cs w)=.next (lone (fr.finish undef) cs w'):=ajO (by rw[hst];simp[stepG.apply,hr])
def Ld{ops:Array Oper}{l:List Nat}{k:List Item}{f:FuncId}{args:Array Value}(a:fr.todo=.inRegion ops l::k)(hst:stepG P true { frame:=fr,callers:=cs,status:=.running,dying:=none } w=stepG.apply P true fr cs none sem w)(hr:sem.run P w=.ok (.enter f args) w') :
 step P (lone fr cs w)=.next (lone (Frame.enter P f args .normal) (fr::cs) w'):=ajO (by rw[hst];simp[stepG.apply,hr,a])
def Xx{l:Nat}{f:FuncId}{tmps:Array Value}{a b:Code}(hst:stepG P true { frame:=fr,callers:=cs,status:=.running,dying:=none } w=stepG.apply P true fr cs none sem w)(hr:sem.run P w=.ok (.round l f tmps a b) w') :
 step P (lone fr cs w)=.next (lone (Frame.round l f tmps a b .normal) (fr::cs) w'):=ajO (by rw[hst];simp[stepG.apply,hr])
def XB{d:Deferred}(hst:stepG P true { frame:=fr,callers:=cs,status:=.running,dying:=none } w=stepG.apply P true fr cs none sem w)(hr:sem.run P w=.ok (.defer d) w') :
 step P (lone fr cs w)=.next (lone ({ fr with defers:=d::fr.defers }.finish undef) cs w'):=ajO (by rw[hst];simp[stepG.apply,hr])
def Xz{v:Value}(hst:stepG P true { frame:=fr,callers:=cs,status:=.running,dying:=none } w=stepG.apply P true fr cs none sem w)(hr:sem.run P w=.halt (.panic v) w') :
 step P (lone fr cs w)=.next (lone (fr.raise [{ v,recovered:=false }]) cs w'):=ajO (by rw[hst];simp[stepG.apply,hr])
def yY{v:Value}{cs':List Frame}(a:fr.roundOf=none)(b:tryRecover fr cs=some (v,cs'))(hst:stepG P true { frame:=fr,callers:=cs,status:=.running,dying:=none } w=stepG.apply P true fr cs none sem w)(hr:sem.run P w=.ok .recover w') :
 step P (lone fr cs w)=.next (lone (fr.finish v) cs' w'):=ajO (by rw[hst];simp[stepG.apply,hr,a,b])
def yZ(a:fr.roundOf=none)(b:tryRecover fr cs=none)(hst:stepG P true { frame:=fr,callers:=cs,status:=.running,dying:=none } w=stepG.apply P true fr cs none sem w)(hr:sem.run P w=.ok .recover w') :
 step P (lone fr cs w)=.next (lone (fr.finish .nilIface) cs w'):=ajO (by rw[hst];simp[stepG.apply,hr,a,b])
end ap
section
variable{E:dX}{ih:uD->S->Option fM}{f:FuncId}{fn:Func}{ops:Array Oper}{k:List Item}{rd:Option Nat}
def acr(P:Program)(f:FuncId)(fn:Func)(ops:Array Oper)(rest:List Nat)(k:List Item)(rd:Option Nat)(a:RK):Prop :=
 ∀ t ds up s r,a t ds up s=some r->∀ ρ w fr cs,HR ρ s w->lX P ρ f fn t (.inRegion ops rest::k) ds .run up rd fr cs->ROk P ρ w f fn k up rd cs (lone fr cs w) r
def gn{o:Oper}{t:T V}{s:S}{nx:Nx}(h:ep E t s o=some nx)(hn:∀ d s',nx≠.defer d s'):∀ c,o.op≠.defer c:=by
 intro c hc;unfold ep at h;rw[hc]at h;simp only[dF,qj]at h;split at h
 .split at h
  .unfold Id at h
   grind
  .cases h
 .cases h
def Hl(hE:jM E)(hg:Good E.P ih)(Z:ob ops fn.ntmps=true){i:Nat}{rest:List Nat}{o:Oper}(ho:ops[i]? = some o){kk:RK}(hk:acr E.P f fn ops rest k rd kk)
 {t:T V} {ds:List ft} {up:Option Md} {s:S} {r:ol} (e:rF E (cD ih) (eK ih) rd o t ds up s kk (cK ops t o)=some r)
 {ρ:aS} {w:World} {fr:Frame} {cs:List Frame} (h:HR ρ s w) (j:lX E.P ρ f fn t (.inRegion ops (i::rest)::k) ds .run up rd fr cs):ROk E.P ρ w f fn k up rd cs (lone fr cs w) r:=by
 have hm:=El j;have ht:=j.todo rfl;have U:=CW Z ho;have N:=wb.refl j;unfold rF at e;split at e
 .rename_i hw;have hwant:=iZ j.tr hw;cases B:ep E t s o with
  |none=>rw[B]at e;cases e
  |some nx =>
   rw[B]at e;have F:=AW hE h j.tr o B;have hst:fr.roundOf=none\/(∀ c,o.op≠.defer c)->stepG E.P true { frame:=fr,callers:=cs,status:=.running,dying:=none } w=stepG.apply E.P true fr cs none (execOp (rv fr.tmps) o) w:=λq=>rz hm ht ho hwant q;cases nx with
   |val v s1 =>obtain⟨ρ1,y,J,G,H,K,h4⟩:=F;have hst:=hst (.inr (gn B (λd s'=>by intro h;cases h)));simp only[ez,cO]at e;exact(hk _ _ _ _ _ e ρ1 J (fr.finish y) cs K ((j.mono h4.ext).finish ho U H)).of_steps (.one (DC hst G)) h4 N rfl
   |skip s1 =>obtain⟨ρ1,J,G,K,h4⟩:=F;have hst:=hst (.inr (gn B (λd s'=>by intro h;cases h)));simp only[ez,cO]at e;exact(hk _ _ _ _ _ e ρ1 J (fr.finish undef) cs K ((j.mono h4.ext).finish ho U rfl)).of_steps (.one (QY hst G)) h4 N rfl
   |enter g args s1 =>
    obtain⟨ys,G,H,K⟩:=F;have hst:=hst (.inr (gn B (λd s'=>by intro h;cases h)));simp only[ez]at e;cases hr:cD ih g args none s1 with
    |none=>rw[hr]at e;cases e
    |some out =>
     rw[hr]at e;obtain⟨hcall,L⟩:=uT hg K G hr;rw[hcall]at H;obtain⟨ρ1,J,en,j1,O,I,j4⟩:=L fr cs;have hsteps:Steps E.P (lone fr cs w) (lone (ew fr en) cs J):=.head (Ld ht hst H) j4;obtain⟨oe,oup,os⟩:=out;cases oe with
     |returned v =>
      cases en with
      |returned y =>simp only[gg,cO]at e;exact(hk _ _ _ _ _ e ρ1 J (fr.finish y) cs j1 ((j.mono O.ext).finish ho U I)).of_steps hsteps O N rfl
      |panicked _=>exact I.elim
      |outgrown=>exact I.elim
     |panicked c =>
      cases en with
      |returned _=>exact I.elim
      |outgrown=>exact I.elim
      |panicked ch =>simp only[gg,acf]at e;subst e;have m:=j.mono O.ext;exact⟨ρ1,J,_,cs,hsteps,O,N,j1,⟨m.name.symm▸(by rw[ew,cQ hm]),m.func,by rw[ew,cQ hm];exact m.tr,by rw[ew,cQ hm];exact m.size,(λq=>by cases q),by rw[ew,cQ hm];exact m.ds,by rw[ew,cQ hm];exact I,by rw[ew,cQ hm];exact m.rd,by rw[ew,cQ hm];exact m.up⟩,rfl⟩
   |round l args s1 =>
    obtain⟨lb,ys,h0,G,H,K⟩:=F;have hst:=hst (.inr (gn B (λd s'=>by intro h;cases h)));simp only[ez]at e;cases hr:eK ih l args s1 with
    |none=>rw[hr]at e;cases e
    |some out =>
     rw[hr]at e;obtain⟨f',tmps,a,b,hy,L⟩:=hg (.round l args) s1 out hr ρ w lb ys K h0 G;rw[hy]at H;obtain⟨ρ1,J,j1,O,j5⟩:=L (fr::cs);obtain⟨en,I,j4⟩:=j5 fr cs rfl;have hsteps:Steps E.P (lone fr cs w) (lone (ew fr en) cs J):=.head (Xx hst H) j4;obtain⟨oe,oup,os⟩:=out;cases oe with
     |returned v =>
      cases en with
      |returned y =>simp only[gg,cO]at e;exact(hk _ _ _ _ _ e ρ1 J (fr.finish y) cs j1 ((j.mono O.ext).finish ho U I)).of_steps hsteps O N rfl
      |panicked _=>exact I.elim
      |outgrown=>exact I.elim
     |panicked c =>
      cases en with
      |returned _=>exact I.elim
      |outgrown=>exact I.elim
      |panicked ch =>simp only[gg,acf]at e;subst e;have m:=j.mono O.ext;exact⟨ρ1,J,_,cs,hsteps,O,N,j1,⟨m.name.symm▸(by rw[ew,cQ hm]),m.func,by rw[ew,cQ hm];exact m.tr,by rw[ew,cQ hm];exact m.size,(λq=>by cases q),by rw[ew,cQ hm];exact m.ds,by rw[ew,cQ hm];exact I,by rw[ew,cQ hm];exact m.rd,by rw[ew,cQ hm];exact m.up⟩,rfl⟩
   |defer df s1 =>
    obtain⟨rdf,G,H,K⟩:=F;simp only[ez]at e;cases W:rd with
    |some l=>rw[W]at e;cases e
    |none =>
     rw[W]at e;simp only[aoc,Xi,cO]at e;subst W;have Q:fr.roundOf=none:=j.rd;have hst:=hst (.inl Q)
     have A:lX E.P ρ f fn t (.inRegion ops (i::rest)::k) (df::ds) .run up none { fr with defers:=rdf::fr.defers } cs :=
      ⟨j.name,j.func,j.tr,j.size,j.todo,⟨G,j.ds⟩,j.md,j.rd,j.up⟩
     exact(hk _ _ _ _ _ e ρ w _ cs K (A.finish ho U rfl)).of_steps (.one (XB hst H)) (FR.refl ρ w) N rfl
   |recover s1 =>
    obtain⟨G,H⟩:=F;have hst:=hst (.inr (gn B (λd s'=>by intro h;cases h)));simp only[ez]at e;cases up with
    |none=>cases e
    |some u =>
     have Q:fr.roundOf=none:=by cases j.lone_up rfl;exact j.rd
     obtain⟨M,c,tl,rfl,n⟩:=j.up;have hrec:∀ m',u=m'->(∀ v older,m'≠.panicking (⟨v,false⟩::older))->tryRecover fr (c::tl)=none:=by
      intro m' hu X;subst hu;cases z:c.mode with
      |run=>simp[tryRecover,M,z]
      |returning=>simp[tryRecover,M,z]
      |panicking ch =>
       cases u with
       |run=>rw[z]at n;exact n.elim
       |returning=>rw[z]at n;exact n.elim
       |panicking pl =>
        rw[z]at n;cases pl with
        |nil=>cases ch with
         |nil=>simp[tryRecover,M,z]
         |cons _ _=>exact n.elim
        |cons p ps=>cases ch with
         |nil=>exact n.elim
         |cons q qs =>
          obtain⟨⟨q1,q2,q3⟩,_⟩:=n;obtain⟨pv,pr⟩:=p;cases pr with
          |false=>exact absurd rfl (X pv ps)
          |true =>obtain⟨qv,qr,qg⟩:=q;simp only at q2 q3;subst q2;simp[tryRecover,M,z]
     unfold recovered at e;split at e
     .rename_i v older hu;cases hu;cases z:c.mode with
      |run=>rw[z]at n;exact n.elim
      |returning=>rw[z]at n;exact n.elim
      |panicking ch =>
       rw[z]at n;cases ch with
       |nil=>exact n.elim
       |cons q qs =>
        obtain⟨⟨q1,q2,q3⟩,q4⟩:=n;obtain⟨qv,qr,qg⟩:=q;simp only at q1 q2 q3;subst q2;subst q3;have Y:tryRecover fr (c::tl)=some (qv,{ c with mode:=.panicking ({ v:=qv,recovered:=true }::qs) }::tl):=by simp[tryRecover,M,z]
        rw[cO]at e;have A:=j.finish ho U q1;have hF'':lX E.P ρ f fn (putD t o.dst v) (.inRegion ops rest::k) ds .run (some (.panicking (⟨v,true⟩::older))) rd (fr.finish qv) ({ c with mode:=.panicking ({ v:=qv,recovered:=true }::qs) }::tl):=by
         refine⟨A.name,A.func,A.tr,A.size,A.todo,A.ds,A.md,?_,?_⟩
         .cases j.lone_up rfl;exact A.rd
         .exact⟨A.up.1,_,_,rfl,⟨⟨q1,rfl,rfl⟩,q4⟩⟩
        exact(hk _ _ _ _ _ e ρ w _ _ H hF'').of_steps (.one (yY Q Y hst G)) (FR.refl ρ w) ⟨c,tl,_,rfl,rfl⟩ rfl
     .rename_i X hu;cases hu;rw[cO]at e;have Y:=hrec _ rfl (λv older hq=>X v older hq);exact(hk _ _ _ _ _ e ρ w _ _ H (j.finish ho U rfl)).of_steps (.one (yZ Q Y hst G)) (FR.refl ρ w) N rfl
     .cases e
   |panic v s1 =>obtain⟨y,G,H,K⟩:=F;have hst:=hst (.inr (gn B (λd s'=>by intro h;cases h)));simp only[ez,acf]at e;subst e;refine⟨ρ,w,_,cs,.one (Xz hst H),FR.refl ρ w,N,K,?_,rfl⟩;rw[cQ hm];exact⟨j.name,j.func,j.tr,j.size,(λq=>by cases q),j.ds,⟨⟨G,rfl,rfl⟩,trivial⟩,j.rd,j.up⟩
 .rename_i hw;have hwant:=iZ j.tr hw;rw[cO]at e;exact(hk _ _ _ _ _ e ρ w _ _ h (j.finish ho U (y:=undef) rfl)).of_steps (.one (oD hm ht (by simp[ho,hwant]))) (FR.refl ρ w) N rfl
 .cases e
def sU(g:jM E)(j:Good E.P ih)(b:ob ops fn.ntmps=true):∀(l:List Oper) (a:List Nat),a.map (ops[·]?)=l.map some->acr E.P f fn ops a k rd (rB E ops (cD ih) (eK ih) rd l)
 |[],[],_=>λt ds up s r e ρ w fr cs h d=>by simp only[rB,acf]at e;subst e;exact⟨ρ,w,_,cs,.one (sN (El d) (d.todo rfl)),FR.refl ρ w,wb.refl d,h,d.to k,rfl⟩
 |o::l,i::a,hl=>λt ds up s r e ρ w fr cs h d=>by simp only[ads,aou]at hl;exact Hl g j b hl.1 (sU g j b l a hl.2) e h d
 |[],_::_,hl=>by cases hl
 |_::_,[],hl=>by cases hl
def ZK(ops:Array Oper):(List.range ops.size).map (ops[·]?)=ops.toList.map some:=by
 apply aoC
 grind
end
section st
variable{P:Program}{fr:Frame}{c:Frame}{cs:List Frame}{w w':World}{k:List Item}{l:Nat}{v:Value}
def adL(hm:fr.mode=.run)(hk:fr.kind=.normal)(a:fr.roundOf=some l)(b:fr.todo=[])(hr:(Instr.endRound l none).run P w=.ok v w') :
 step P (lone fr (c::cs) w)=.next (lone (c.finish v) cs w'):=ajO (by simp[stepG,stepG.exec,hm,b,a,hr,doReturn,hk])
def adK(hm:fr.mode=.run)(hk:fr.kind=.normal)(a:fr.roundOf=some l)(b:fr.todo=.code .ret::k)(hr:(Instr.endRound l (some .ret)).run P w=.ok v w') :
 step P (lone fr (c::cs) w)=.next (lone (c.finish v) cs w'):=ajO (by simp[stepG,stepG.exec,hm,b,a,hr,doReturn,hk])
def Zp{id:Nat}(hm:fr.mode=.run)(hk:fr.kind=.normal)(a:fr.roundOf=some l)(b:fr.todo=.code (.exit id)::k)(d:exitTo id k=none)(hr:(Instr.endRound l (some (.exit id))).run P w=.ok v w') :
 step P (lone fr (c::cs) w)=.next (lone (c.finish v) cs w'):=ajO (by simp[stepG,stepG.exec,hm,b,a,hr,doReturn,hk,d])
def Zo{id:Nat}(hm:fr.mode=.run)(hk:fr.kind=.normal)(a:fr.roundOf=some l)(b:fr.todo=.code (.goto id)::k)(d:gotoIn id k=none)(hr:(Instr.endRound l (some (.goto id))).run P w=.ok v w') :
 step P (lone fr (c::cs) w)=.next (lone (c.finish v) cs w'):=ajO (by simp[stepG,stepG.exec,hm,b,a,hr,doReturn,hk,d])
def DW(hm:fr.mode=.run)(a:fr.roundOf=some l)(b:fr.todo=.beginRound::k)(hr:(Instr.beginRound l).run P w=.ok () w') :
 step P (lone fr cs w)=.next (lone { fr with todo:=k } cs w'):=ajO (by simp[stepG,stepG.exec,stepG.apply,hm,b,a,hr,Frame.finish])
def IY{j:Option Code}(hm:fr.mode=.run)(a:fr.todo=.endRangeFunc l::k)(hr:(Instr.endLoop l).run P w=.ok j w') :
 step P (lone fr cs w)=.next (lone { fr with todo:=(j.map Item.code).toList++k } cs w'):=ajO (by simp[stepG,stepG.exec,hm,a,hr])
def TL{g:Operand}{ps:Array Tmp}{a b:Code}{fid:FuncId}{first cap:Array Value}{f2:FuncId}{args:Array Value}(hm:fr.mode=.run)(n:fr.todo=.code (.rangeFunc g ps a b)::k)(d:fr.roundOf=none)
 (q:rv fr.tmps g=.func (.func fid) first cap)
 (hc:∀ w,(callFunc fid (first++#[.func (.yield (w'.heap.size - 1)) #[] #[]]++cap)).run P w=.ok (.enter f2 args) w)
 (m:w'=(w.alloc (.deferred (some []))).alloc (.loop { state:=.ready,pending:=none,fn:=fr.fn,tmps:=fr.tmps,params:=ps,assign:=a,body:=b,defers:=w.heap.size })) :
 step P (lone fr cs w)=.next (lone (Frame.enter P f2 args .normal) ({ fr with todo:=.inRangeFunc (w'.heap.size - 1)::k,defers:={ target:=.collected w.heap.size,args:=#[] }::fr.defers }::cs) w'):=by
 refine ajO ?_;have hl:w'.heap.size - 1=w.heap.size+1:=by rw[m];simp
 rw[hl]at hc ⊢;have e:=run_enterLoop_outer (P:=P) (w:=w) fr.fn fr.tmps ps a b;rw[<- m]at e;simp only[stepG,stepG.exec,hm,n,d,Sem.runT_eq,e,GStep.bare_after];have h:∀ v:Value,rv fr.tmps (.const v)=v:=λ_=>rfl;have j:(callFunc fid (first.push (.func (.yield (w.heap.size+1)) #[] #[])++cap)).run P w'=.ok (.enter f2 args) w':=by simpa using hc w'
 simp[stepG.apply,rW,resolve,q,Deferred.ofValue,invoke,h,j,hm,d]
def GJ{b:Nat}{ds:List Deferred}{m:FrameMode}(hm:fr.mode=m)(a:m≠.run)(d:fr.defers={ target:=.collected b,args:=#[] }::ds){calls:List Deferred}(hr:(Instr.takeDeferred b).run P w=.ok calls w') :
 step P (lone fr cs w)=.next (lone { fr with defers:=calls++ds } cs w'):=by
 refine ajO ?_;cases m with
 |run=>exact absurd rfl a
 |returning=>simp[stepG,unwind,hm,d,hr]
 |panicking ch=>simp[stepG,unwind,hm,d,hr]
end st
section
variable{E:dX}{ih:uD->S->Option fM}{f:FuncId}{fn:Func}
def cq(a:Good E.P ih){t:T V}{todo:List Item}{ds:List ft}{m:Md}{up:Option Md}{rd:Option Nat}{s:S}{out:fM}(e:gZ ih f fn t todo ds m up rd s=some out):IF E.P f fn t todo ds m up rd s out :=
 a (.frame f fn t todo ds m up rd) s out e
def zI{ρ:aS}{s:S}{w:World}(h:HR ρ s w){l:Nat}{st:LoopState}{pend:Option Code}{f':FuncId}{t':T V}{ps:Array Tmp}{a b:Code}{d nt:Nat}(e:s.get l=some (.loop st pend f' t' ps a b d nt)){lb:DT}(hl:ρ l 0=some lb) :
 ∃(r:Loop),w.heap[lb.b]? = some (.loop r)/\r.state=st/\r.pending=pend/\r.fn=f'/\r.params=ps/\r.assign=a/\r.body=b/\TR ρ t' r.tmps/\nt<=r.tmps.size /\
  ∀ st2 pend2,HR ρ (s.put l (.loop st2 pend2 f' t' ps a b d nt)) (w.putObj lb.b (.loop { r with state:=st2,pending:=pend2 }))/\FR ρ w ρ (w.putObj lb.b (.loop { r with state:=st2,pending:=pend2 })):=by
 obtain⟨l1,ld,tm,g,n,j,m,q⟩:=h.blk _ _ e;rw[hl]at g;cases g;refine⟨_,q,rfl,rfl,rfl,rfl,rfl,rfl,j,m,λst2 pend2=>?_⟩;exact h.turn hl e (λ_ h=>by cases h) (zY w lb.b _) _ ⟨lb,ld,tm,hl,n,j,m,World.putObj_heap_same (h.low _ _ _ hl)⟩
def jR(u:Good E.P ih){t:T V}{todo:List Item}{ds:List ft}{up:Option Md}{rd:Option Nat}{s:S}{out:fM}{jump:Option Code}(e:nj (gZ ih f fn) t ds up rd s jump=some out)
 {ρ:aS} {w:World} {fr:Frame} {cs:List Frame} (h:HR ρ s w) (g:lX E.P ρ f fn t todo ds .run up rd fr cs)
 (h0:jump=none\/jump=some .ret->fr.roundOf=none->step E.P (lone fr cs w)=.next (lone { fr with mode:=.returning } cs w))
 (y:∀ l v w',fr.roundOf=some l->fr.kind=.normal->(Instr.endRound l jump).run E.P w=.ok v w'->∀ c cs',cs=c::cs'->step E.P (lone fr cs w)=.next (lone (c.finish v) cs' w')) :
 rq E.P f up.isSome rd.isSome cs (lone fr cs w) ρ w out:=by
 have ret:∀ up,lX E.P ρ f fn t todo ds .run up none fr cs->lX E.P ρ f fn t [] ds .returning up none { fr with mode:=.returning } cs:=λup g =>⟨g.name,g.func,g.tr,g.size,(λq=>by cases q),g.ds,trivial,g.rd,g.up⟩
 unfold nj at e;split at e
 .split at e
  .exact ej h (h0 (.inl rfl) g.rd) (ret up g) (cq u e)
  .exact ej h (h0 (.inr rfl) g.rd) (ret up g) (cq u e)
  .cases e
 .rename_i l;split at e
  .rename_i st pend f' t' ps a b d nt z;simp only[acf]at e;subst e;obtain⟨rfl,lb,hl,m⟩:=g.rd;obtain⟨r,A,r2,r3,r4,r5,r6,r7,r8,r9,r10⟩:=zI h z hl;have j:=run_endRound (P:=E.P) jump A;obtain⟨B,F⟩:=r10 (if jump.isNone then .ready else .done) jump;have hc:(bif jump.isNone then LoopState.ready else .done)=if jump.isNone then .ready else .done:=by cases jump.isNone<;>rfl
   rw[hc];refine⟨ρ,_,B,F,λc cs' n=>⟨.returned (.bool jump.isNone),rfl,.one (y _ _ _ m g.up j c cs' n)⟩⟩
  .cases e
def eC(E:dX):Prop:=∀(ih:uD->S->Option fM),Good E.P ih->∀(f:FuncId) (fn:Func) (id:Nat) (ops:Array Oper) (k:List Item) (rd:Option Nat) (t:T V) (ds:List ft) (up:Option Md) (s:S) (r:ol),
 ob ops fn.ntmps=true->jh E ops (cD ih) (eK ih) t ds up s=some r->∀ ρ w fr cs,HR ρ s w->lX E.P ρ f fn t (.code (.region id ops true)::k) ds .run up rd fr cs->ROk E.P ρ w f fn k up rd cs (lone fr cs w) r
def oM(g:Good E.P ih){k:List Item}{rd:Option Nat}{up:Option Md}{x:Option ol}{out:fM}(e:ji (gZ ih f fn) k rd x=some out){ρ:aS}{w:World}{cs:List Frame}{M:Machine}(hr:up.isSome=true->rd=none)
 (q:∀ r,x=some r->ROk E.P ρ w f fn k up rd cs M r):rq E.P f up.isSome rd.isSome cs M ρ w out:=by
 cases x with
 |none=>cases e
 |some r =>
  obtain⟨ρ',w',fr',cs',h,j,m,n⟩:=q r rfl;cases r with
  |on t' ds' up' s' =>obtain⟨a,b,d⟩:=n;have:=cq g e ρ' w' fr' cs' a b;rw[d]at this;exact rq.of_tops hr m (rq.of_steps h j this)
  |panicked c t' ds' up' s' =>obtain⟨a,b,d⟩:=n;have:=cq g e ρ' w' fr' cs' a b;rw[d]at this;exact rq.of_tops hr m (rq.of_steps h j this)
def yI(L:Good E.P ih){t:T V}{ds:List ft}{up:Option Md}{rd:Option Nat}{s:S}{out:fM}{k:List Item}{g:Operand}{ps:Array Tmp}{a b:Code}
 (e:gQ f fn.ntmps (gZ ih f fn) (cD ih) k t ds up rd s ps a b (eval t g)=some out) {ρ:aS} {w:World} {fr:Frame} {cs:List Frame} (h:HR ρ s w) (m:lX E.P ρ f fn t (.code (.rangeFunc g ps a b)::k) ds .run up rd fr cs) :
 rq E.P f up.isSome rd.isSome cs (lone fr cs w) ρ w out:=by
 unfold gQ at e;split at e
 .rename_i fnv first cap M
  obtain⟨gf,fi,ca,Y,Z,g3,g4⟩:=BO (aO m.tr M);split at e
  .rename_i fid;cases Y;split at e
   .
    have N:fr.roundOf=none:=m.rd;have hm:=El m;simp only at e;obtain⟨A1,A2⟩:=h.alloc .deferred (.deferred (some [])) 0 0 (abH _) ⟨⟨w.heap.size,0,0⟩,aS.put_same _ _ _ _,eO _ _⟩;have A:(ρ.put s.next 0 ⟨w.heap.size,0,0⟩) s.next 0=some ⟨w.heap.size,0,0⟩:=aS.put_same _ _ _ _
    obtain⟨B1,B2⟩:=A1.alloc (.loop .ready none f t ps a b s.next fn.ntmps) (.loop { state:=.ready,pending:=none,fn:=f,tmps:=fr.tmps,params:=ps,assign:=a,body:=b,defers:=w.heap.size }) 0 0 (abH _) (by have B:=aS.le_put (ρ:=ρ.put s.next 0 ⟨w.heap.size,0,0⟩) (f:=(s.alloc .deferred).next) (v:=0) ⟨(w.alloc (.deferred (some []))).heap.size,0,0⟩ (A1.fresh _ _ (abH _));exact⟨⟨(w.alloc (.deferred (some []))).heap.size,0,0⟩,⟨w.heap.size,0,0⟩,fr.tmps,aS.put_same _ _ _ _,B _ _ _ A,(m.tr.mono A2.ext).mono B,m.size,eO _ _⟩)
    generalize O:(ρ.put s.next 0 ⟨w.heap.size,0,0⟩).put (s.alloc .deferred).next 0 ⟨(w.alloc (.deferred (some []))).heap.size,0,0⟩=ρ2 at B1 B2;have F:ρ2 (s.alloc .deferred).next 0=some ⟨w.heap.size+1,0,0⟩:=by rw[<- O,aS.put_same];simp
    have Q:ρ2 s.next 0=some ⟨w.heap.size,0,0⟩:=B2.ext _ _ _ A;have u:=A2.trans B2;have hargs:br ρ2 (first++([.func (.yield (s.alloc .deferred).next) [] []]++cap))=some (fi++([Value.func (.yield (w.heap.size+1)) #[] #[]]++ca)):=by refine dJ (gm u.ext _ _ Z) (dJ ?_ (gm u.ext _ _ g3));simp[br,den,oi,F]
    cases hr:cD ih fid (first++([.func (.yield (s.alloc .deferred).next) [] []]++cap)) none ((s.alloc .deferred).alloc (.loop .ready none f t ps a b s.next fn.ntmps))with
    |none=>rw[hr]at e;cases e
    |some o1 =>
     rw[hr]at e;obtain⟨hcall,G⟩:=uT L B1 hargs hr;have hname:fr.fn=f:=m.name;obtain⟨ρ3,w3,en,X,U,H,j4⟩:=G { fr with todo:=.inRangeFunc (w.heap.size+1)::k,defers:={ target:=.collected w.heap.size,args:=#[] }::fr.defers } cs
     have hstep:=TL (P:=E.P) (fr:=fr) (cs:=cs) (w:=w) (w':=(w.alloc (.deferred (some []))).alloc (.loop { state:=.ready,pending:=none,fn:=f,tmps:=fr.tmps,params:=ps,assign:=a,body:=b,defers:=w.heap.size }))
      (k:=k) (El m) (m.todo rfl) N g4 (f2:=fid) (args:=(fi++([Value.func (.yield (w.heap.size+1)) #[] #[]]++ca)).toArray) (λw=>by have:=hcall w;simpa using this) (by rw[hname])
     have W:((w.alloc (.deferred (some []))).alloc (.loop { state:=.ready,pending:=none,fn:=f,tmps:=fr.tmps,params:=ps,assign:=a,body:=b,defers:=w.heap.size })).heap.size - 1=w.heap.size+1:=by simp
     rw[W]at hstep;have hsteps:=Steps.head hstep j4;have j:=u.trans U;have d:=m.mono j.ext;have I:SX ρ3 (.collected s.next) { target:=.collected w.heap.size,args:=#[] }:=⟨_,U.ext _ _ _ Q,rfl⟩;obtain⟨oe,oup,os⟩:=o1;cases oe with
     |returned v =>
      cases en with
      |panicked _=>exact H.elim
      |outgrown=>exact H.elim
      |returned y =>
       simp only[kZ]at e;unfold tG at e;split at e
       .rename_i st pend f' t' ps' a' b' d' nt hs;obtain⟨r,r1,r2,r3,r4,r5,r6,r7,r8,r9,r10⟩:=zI X hs (U.ext _ _ _ F);have z:∃ hb:st≠.busy,gZ ih f fn t ((pend.map Item.code).toList++k) (.collected s.next::ds) .run up none (os.put (s.alloc .deferred).next (.loop .exhausted pend f' t' ps' a' b' d' nt))=some out:=by grind
        obtain⟨hb,z⟩:=z;obtain⟨q1,q2⟩:=r10 .exhausted pend;have n:=run_endLoop (P:=E.P) r1 (by rw[r2];exact hb);rw[r3]at n;have J:ew { fr with todo:=.inRangeFunc (w.heap.size+1)::k,defers:={ target:=.collected w.heap.size,args:=#[] }::fr.defers } (.returned y)={ fr with todo:=.endRangeFunc (w.heap.size+1)::k,defers:={ target:=.collected w.heap.size,args:=#[] }::fr.defers }:=rfl;rw[J]at hsteps;have K:=IY (P:=E.P) (fr:={ fr with todo:=.endRangeFunc (w.heap.size+1)::k,defers:={ target:=.collected w.heap.size,args:=#[] }::fr.defers }) (cs:=cs) hm rfl n;refine rq.of_steps (hsteps.trans (.one K)) (j.trans q2) (cq L z _ _ _ _ q1 ?_);exact⟨d.name,d.func,d.tr,d.size,λ_=>rfl,⟨I,d.ds⟩,d.md,d.rd,d.up⟩
       .cases e
     |panicked c =>
      cases en with
      |returned _=>exact H.elim
      |outgrown=>exact H.elim
      |panicked ch =>simp only[kZ]at e;refine rq.of_steps hsteps j (cq L e _ _ _ _ X ?_);rw[ew,cQ (show({ fr with todo:=.inRangeFunc (w.heap.size+1)::k,defers:={ target:=.collected w.heap.size,args:=#[] }::fr.defers }:Frame).mode=.run from hm)];exact⟨d.name,d.func,d.tr,d.size,(λq=>by cases q),⟨I,d.ds⟩,H,d.rd,d.up⟩
   .cases e
  .cases e
 .cases e
end
def GQ{ρ:aS}{u:Md}{b:FrameMode}(h:XR ρ u b):XR ρ (jO u) (settle b):=by
 cases u with
 |run=>cases b<;>first|exact h|exact h.elim
 |returning=>cases b<;>first|exact h|exact h.elim
 |panicking c=>cases b with
  |run=>exact h.elim
  |returning=>exact h.elim
  |panicking ch =>
   cases c with
   |nil=>cases ch with
    |nil=>exact h
    |cons _ _=>exact h.elim
   |cons p ps=>cases ch with
    |nil=>exact h.elim
    |cons q a =>
     obtain⟨⟨j,m,n⟩,y⟩:=h;obtain⟨pv,pr⟩:=p;obtain⟨qv,qr,qg⟩:=q;simp only at j m n;subst m;subst n;cases pr with
     |false=>exact⟨⟨j,rfl,rfl⟩,y⟩
     |true =>
      have g:∀(ps:List NR) (a:List PanicEntry),nV ρ ps a->a.dropWhile (λe=>!e.goexit)=[]:=by
       intro ps;induction ps with
       |nil=>intro a d;cases a with
        |nil=>rfl
        |cons _ _=>exact d.elim
       |cons p ps ih=>intro a d;cases a with
        |nil=>exact d.elim
        |cons q a =>obtain⟨⟨_,_,z⟩,A⟩:=d;rw[List.dropWhile_cons,z];simpa using ih a A
      simp only[jO,settle,g ps a y];trivial
def Hf{ρ:aS}{u:Md}{a:FrameMode}{c:List NR}{ch:List PanicEntry}(h:XR ρ u a)(hc:nV ρ c ch):XR ρ (tf u c) (raised a ch):=by
 cases u with
 |run=>cases a<;>first|exact hc|exact h.elim
 |returning=>cases a<;>first|exact hc|exact h.elim
 |panicking d=>cases a with
  |run=>exact h.elim
  |returning=>exact h.elim
  |panicking dh=>exact nV.append hc h
section
variable{E:dX}{ih:uD->S->Option fM}{f:FuncId}{fn:Func}
def YG(tm:Array Value):ResultVar->Sem Value
 |.tmp t=>pure (tm.getD t undef)
 |.cell a t=>do Go.loadVar t (<- asAddr (tm.getD a undef))
def LV(fn:Func)(tm:Array Value):results fn tm=(do let vs <- fn.results.mapM (YG tm);pure (if h:vs.size=1 then vs[0] else .tuple vs)):=by unfold results;congr 1
def DZ{P:Program}{ρ:aS}{s:S}{w:World}(h:HR ρ s w){t:T V}{tm:Array Value}(g:TR ρ t tm){x:ResultVar}{v:V}(e:pS P t s x=some v) :
 ∃ y,den ρ v=some y/\(YG tm x).run P w=.ok y w:=by
 have at_:∀ i u,t.get (fQ i)=some u->den ρ u=some (tm.getD i undef):=λi u j=>by obtain⟨y,b,d⟩:=g i u j;simp_all
 cases x with
 |tmp i=>exact⟨_,at_ _ _ e,rfl⟩
 |cell a ty =>
  simp only[pS]at e;split at e
  .rename_i ad hp;obtain⟨a1,y,b,d,m⟩:=qO h e;have:=at_ _ _ hp;simp only[den,b,acf]at this;refine⟨y,d,?_⟩;simp only[YG,afX,<- this,asAddr,ajJ,acW,m]
  .cases e
def qK{P:Program}{ρ:aS}{s:S}{w:World}(h:HR ρ s w){t:T V}{tm:Array Value}(b:TR ρ t tm):∀ {l:List ResultVar} {vs:List V},kY P t s l=some vs ->
 ∃ ys,br ρ vs=some ys/\(l.mapM (YG tm)).run P w=.ok ys w
 |[],vs,e=>by cases e;exact⟨[],rfl,rfl⟩
 |x::l,vs,e=>by
  simp only[kY]at e;cases a:pS P t s x with
  |none=>simp[a]at e
  |some v =>
   cases hl:kY P t s l with
   |none=>simp[a,hl]at e
   |some q =>simp only[a,hl,acf]at e;subst e;obtain⟨y,d,h2⟩:=DZ (P:=P) (w:=w) h b a;obtain⟨ys,g,h4⟩:=qK h b hl;refine⟨y::ys,bt.2 ⟨y,ys,d,g,rfl⟩,?_⟩;simp_all
def DY{P:Program}{ρ:aS}{s:S}{w:World}(h:HR ρ s w){t:T V}{tm:Array Value}(b:TR ρ t tm){v:V}(e:sX P fn t s=some v):∃ y,den ρ v=some y/\(results fn tm).run P w=.ok y w:=by
 unfold sX at e;split at e
 .rename_i l hl;cases e;obtain⟨ys,a,d⟩:=qK (P:=P) (w:=w) h b hl;have hr:(results fn tm).run P w=.ok (if h:ys.toArray.size=1 then ys.toArray[0] else .tuple ys.toArray) w:=by rw[LV,Array.mapM_eq_mapM_toList];simp[d]
  refine⟨_,?_,hr⟩;have hlen:=bW a;cases l with
  |nil =>cases a;rfl
  |cons v l=>cases l with
   |nil =>obtain⟨y,hy,rfl⟩:=nK a;simpa[Bb]using hy
   |cons v2 l =>obtain⟨y,q,hy,g,rfl⟩:=bt.1 a;obtain⟨y2,q,hy2,hq2,rfl⟩:=bt.1 g;simp only[Bb,den,a];simp
 .cases e
def FC{P:Program}{ρ:aS}{s:S}{w:World}(h:HR ρ s w){t:T V}{todo:List Item}{m:Md}{up:Option Md}{rd:Option Nat}{fr:Frame}{cs:List Frame}(g:lX P ρ f fn t todo [] m up rd fr cs){e:End}{en:Ending}(j:XT ρ e en)
 (d:fr.going P w en):rq P f up.isSome rd.isSome cs (lone fr cs w) ρ w ⟨e,up,s⟩:=by
 refine⟨ρ,w,h,FR.refl ρ w,?_⟩;have hleave:up=none->fr.leaving P w en:=by
  intro n;have hk:fr.kind=.normal:=by have:=g.up;rw[n]at this;exact this
  cases en with
  |returned v=>obtain⟨a,b,c⟩:=d;exact⟨a,b,hk,c⟩
  |panicked ch=>exact d
  |outgrown=>trivial
 cases rd with
 |some l =>
  have n:up=none:=g.rd.1;intro c cs' hc;subst hc;refine⟨en,j,.one ?_⟩;cases en with
  |returned v=>exact step_leave_returned (hleave n)
  |panicked ch=>exact step_leave_panicked (hleave n)
  |outgrown=>cases e<;>exact j.elim
 |none =>
  cases up with
  |none=>exact⟨fr,en,j,Steps.refl _ _,g.name,hleave rfl⟩
  |some u =>obtain⟨hk,y,cs0,rfl,q⟩:=g.up;intro c cs' hc;cases hc;exact⟨fr,en,u,y.mode,rfl,q,j,Steps.refl _ _,hk,d⟩
def sG(O:Good E.P ih){t:T V}{todo:List Item}{ds:List ft}{m:Md}(hm:m≠.run){up:Option Md}{rd:Option Nat}{s:S}{out:fM}
 (e:dN ds E fn (gZ ih f fn) (cD ih) t m up rd s=some out) {ρ:aS} {w:World} {fr:Frame} {cs:List Frame} (h:HR ρ s w) (n:lX E.P ρ f fn t todo ds m up rd fr cs):rq E.P f up.isSome rd.isSome cs (lone fr cs w) ρ w out:=by
 have B:fr.mode≠.run:=by intro A;have:=n.md;rw[A]at this;cases m<;>first|exact hm rfl|exact this.elim
 unfold dN at e;split at e
 .rename_i d ds';have a:=n.ds;cases z:fr.defers with
  |nil=>rw[z]at a;exact a.elim
  |cons r rs =>
   rw[z]at a;obtain⟨⟨l,Q,W⟩,X⟩:=a;subst W;unfold lE at e;split at e
   .rename_i hs;obtain⟨l',g1,g2⟩:=h.blk _ _ hs;rw[Q]at g1;cases g1;have J:=run_takeDeferred (P:=E.P) g2;obtain⟨K,F⟩:=h.turn Q hs (λ_ h=>by cases h) (zY w l.b (.deferred none)) .gone trivial;have hstep:=GJ (P:=E.P) (cs:=cs) rfl B z J;have Y:lX E.P ρ f fn t [] ds' m up rd { fr with defers:=[]++rs } cs:=⟨n.name,n.func,n.tr,n.size,λq=>absurd q hm,X,n.md,n.rd,n.up⟩;exact rq.of_steps (.one hstep) F (cq O e _ _ _ _ K Y)
   .cases e
 .rename_i g captured args ds';have a:=n.ds;cases z:fr.defers with
  |nil=>rw[z]at a;exact a.elim
  |cons r rs =>
   rw[z]at a;obtain⟨⟨gf,cc,aa,Q,W,X,h4⟩,h5⟩:=a;cases Q;subst h4;cases hr:cD ih g (args++captured) (some m) s with
   |none=>rw[hr]at e;cases e
   |some o1 =>
    rw[hr]at e;obtain⟨hcall,L⟩:=O (.call g (args++captured) (some m)) s o1 hr ρ w _ h (dJ X W);obtain⟨ρ1,w1,K,F,j3⟩:=L ({ fr with defers:=rs }::cs) (λu hu=>by cases hu;exact⟨_,_,rfl,n.md⟩);obtain⟨frX,en,u,U,k1,k2,I,k4,k5,k6⟩:=j3 _ _ rfl
    have M:=step_defer (P:=E.P) (cs:=cs) (f:=g) (args:=(aa++cc).toArray) (w:=w) B z rfl (by have:=hcall w;simpa[invoke]using this)
    have j:=n.mono F.ext;obtain⟨oe,oup,os⟩:=o1;simp only at k1 I K;subst k1;cases oe with
    |returned v =>
     cases en with
     |panicked _=>exact I.elim
     |outgrown=>exact I.elim
     |returned y =>
      simp only[kL]at e;have G:=step_going_returned (c:={ fr with defers:=rs,mode:=U }) (cs:=cs) k5 k6;have N:u≠.run/\gZ ih f fn t [] ds' (jO u) up rd os=some out:=by grind
      have Z:jO u≠.run:=by
       obtain⟨hu,_⟩:=N;unfold jO
       grind
      have H:lX E.P ρ1 f fn t [] ds' (jO u) up rd { fr with defers:=rs,mode:=settle U } cs :=
       ⟨j.name,j.func,j.tr,j.size,λq=>absurd q Z,h5.mono F.ext,GQ k2,j.rd,j.up⟩
      exact rq.of_steps (.head M (k4.trans (.one G))) F (cq O N.2 _ _ _ _ K H)
    |panicked c =>
     cases en with
     |returned _=>exact I.elim
     |outgrown=>exact I.elim
     |panicked ch =>
      simp only[kL]at e;have G:=step_going_panicked (c:={ fr with defers:=rs,mode:=U }) (cs:=cs) k6
      have H:lX E.P ρ1 f fn t [] ds' (tf u c) up rd { fr with defers:=rs,mode:=raised U ch } cs :=
       ⟨j.name,j.func,j.tr,j.size,(λq=>by cases u<;>cases q),h5.mono F.ext,Hf k2 I,j.rd,j.up⟩
      exact rq.of_steps (.head M (k4.trans (.one G))) F (cq O e _ _ _ _ K H)
 .cases e
 .have a:=n.ds;have z:fr.defers=[]:=by
   cases A:fr.defers with
   |nil=>rfl
   |cons _ _=>rw[A]at a;exact a.elim
  unfold vi at e;split at e
  .unfold Ul at e;split at e
   .rename_i v hv;cases e;obtain⟨y,y1,y2⟩:=DY (P:=E.P) (fn:=fn) h n.tr hv;refine FC h n (en:=.returned y) y1 ⟨?_,z,fn,n.name▸n.func,y2⟩;have:=n.md;cases A:fr.mode<;>rw[A]at this<;>first|rfl|exact this.elim
   .cases e
  .rename_i c;cases e;have:=n.md;cases A:fr.mode with
   |run=>exact absurd A B
   |returning=>rw[A]at this;exact this.elim
   |panicking ch =>rw[A]at this;exact FC h n (en:=.panicked ch) this ⟨A,z,fn,n.name▸n.func⟩
  .cases e
end
section
variable{E:dX}{ih:uD->S->Option fM}{f:FuncId}{fn:Func}
def Di(B:jM E)(hD:eC E)(j:Good E.P ih){c:Code}{k:List Item}{t:T V}{ds:List ft}{up:Option Md}{rd:Option Nat}{s:S}{out:fM}
 (e:dq c E f fn (gZ ih f fn) (cD ih) (eK ih) k t ds up rd s=some out) {ρ:aS} {w:World} {fr:Frame} {cs:List Frame} (h:HR ρ s w) (d:lX E.P ρ f fn t (.code c::k) ds .run up rd fr cs) :
 rq E.P f up.isSome rd.isSome cs (lone fr cs w) ρ w out:=by
 have hm:=El d;have n:=d.todo rfl;cases c with
 |ret =>simp only[dq]at e;exact jR j e h d (λ_ m=>acN hm n m) (λl v w' m hk hr c cs' hc=>by subst hc;exact adK hm hk m n hr)
 |skip=>exact ej h (Yp hm n) (d.to k) (cq j e)
 |label l=>exact ej h (TM hm n) (d.to k) (cq j e)
 |seq a b=>exact ej h (acM hm n) (d.to _) (cq j e)
 |cond c a b =>
  simp only[dq]at e;cases A:eval t c with
  |none=>rw[A]at e;cases e
  |some v =>
   rw[A]at e;have u:=aO d.tr A;unfold Ij at e;split at e
   .rename_i q F;cases F;simp only[den,acf]at u;refine ej h (Ys hm n u.symm) (d.to _) ?_;have hb:(bif q then a else b)=if q then a else b:=by cases q<;>rfl
    rw[<- hb];exact cq j e
   .cases e
 |block id c=>exact ej h (TO hm n) (d.to _) (cq j e)
 |loop c=>exact ej h (zu hm n) (d.to _) (cq j e)
 |scope c=>exact ej h (TK hm n) (d.to _) (cq j e)
 |exit id =>
  simp only[dq]at e;cases y:exitTo id k with
  |none =>rw[y]at e;simp only[rS]at e;exact jR (jump:=some (.exit id)) j e h d (λz=>by rcases z with z|z<;>cases z) (λl v w' m hk hr c cs' hc=>by subst hc;exact Zp hm hk m n y hr)
  |some G=>rw[y]at e;exact ej h (Yr hm n y) (d.to _) (cq j e)
 |goto id =>
  simp only[dq]at e;cases y:gotoIn id k with
  |none =>rw[y]at e;simp only[rS]at e;exact jR (jump:=some (.goto id)) j e h d (λz=>by rcases z with z|z<;>cases z) (λl v w' m hk hr c cs' hc=>by subst hc;exact Zo hm hk m n y hr)
  |some G=>rw[y]at e;exact ej h (Yq hm n y) (d.to _) (cq j e)
 |rangeFunc g ps a b=>exact yI j e h d
 |region id ops draw =>
  cases draw with
  |true =>
   simp only[dq]at e;cases u:ob ops fn.ntmps with
   |false=>rw[u]at e;cases e
   |true =>rw[u]at e;exact oM j e d.lone_up λr hr=>hD ih j f fn id ops k rd t ds up s r u hr ρ w fr cs h d
  |false =>
   simp only[dq]at e;cases u:ob ops fn.ntmps with
   |false=>rw[u]at e;cases e
   |true =>rw[u]at e;refine oM j e d.lone_up λr hr=>?_;have:=sU (k:=k) (rd:=rd) B j u ops.toList (List.range ops.size) (ZK ops) t ds up s r hr ρ w _ cs h (d.to _);exact this.of_steps (.one (Rq hm n)) (FR.refl ρ w) (wb.refl d) rfl
 |refuse why=>cases e
def BC(y:jM E)(hD:eC E)(j:Good E.P ih){i:Item}{k:List Item}{t:T V}{ds:List ft}{up:Option Md}{rd:Option Nat}{s:S}{out:fM}
 (e:mw i E f fn (gZ ih f fn) (cD ih) (eK ih) k t ds up rd s=some out) {ρ:aS} {w:World} {fr:Frame} {cs:List Frame} (h:HR ρ s w) (g:lX E.P ρ f fn t (i::k) ds .run up rd fr cs) :
 rq E.P f up.isSome rd.isSome cs (lone fr cs w) ρ w out:=by
 have hm:=El g;have n:=g.todo rfl;cases i<;>try(cases e;done)
 case code c=>exact Di y hD j e h g
 case inBlock id=>exact ej h (LI hm n) (g.to k) (cq j e)
 case inScope c=>exact ej h (LG hm n) (g.to k) (cq j e)
 case inLoop c=>exact ej h (Rr hm n) (g.to _) (cq j e)
 case beginRound =>
  simp only[mw]at e;cases rd with
  |none=>cases e
  |some l =>
   simp only at e;unfold Ac at e;split at e
   .rename_i pend f' t' ps a b d nt z;obtain⟨hu,lb,hl,q⟩:=g.rd;obtain⟨r,A,B,F,r4,r5,r6,r7,r8,r9,r10⟩:=zI h z hl;obtain⟨G,H⟩:=r10 .busy pend;have m:=run_beginRound (P:=E.P) A B;have hst:=DW (P:=E.P) (cs:=cs) hm q n m;have u:({ r with state:=LoopState.busy }:Loop)={ r with state:=.busy,pending:=pend }:=by rw[<- F]
    rw[u]at hst;exact rq.of_steps (.one hst) H (cq j e _ _ _ _ G (g.to k))
   .cases e
def yR(j:jM E)(hD:eC E)(d:Good E.P ih){t:T V}{todo:List Item}{ds:List ft}{m:Md}{up:Option Md}{rd:Option Nat}{s:S}{out:fM}
 (e:gT E f fn (gZ ih f fn) (cD ih) (eK ih) t todo ds m up rd s=some out):IF E.P f fn t todo ds m up rd s out:=by
 intro ρ w fr cs h b;cases m with
 |run =>
  simp only[gT]at e;cases todo with
  |nil =>simp only[oB]at e;have hm:=El b;have g:=b.todo rfl;exact jR d e h b (λ_ a=>acO hm g a) (λl v w' a hk hr c cs' hc=>by subst hc;exact adL hm hk a g hr)
  |cons i k=>exact BC j hD d e h b
 |returning=>exact sG d (by intro q;cases q) e h b
 |panicking c=>exact sG d (by intro q;cases q) e h b
def tP{β:Type}:∀(l:List V) (i:Nat) (t:T V) (k:T V->β),ls l i t k=k (ls l i t id)
 |[],_,_,_=>rfl
 |x::r,i,t,k=>by simp only[ls,T.setK_eq];exact tP r (i+1) _ k
def FJ:∀(l:List V) (i:Nat) (t:T V) (j:Nat),(ls l i t id).get (fQ j)=if i<=j/\j<i+l.length then l[j - i]? else t.get (fQ j)
 |[],i,t,j=>by rw[ajD (by simp)];rfl
 |x::r,i,t,j=>by
  simp only[ls,T.setK_eq];rw[FJ r (i+1) _ j,T.get_setN]
  grind
def mX{β:Type}:∀(ps:List Tmp) (l:List V) (t:T V) (k:T V->β),cR t ps l k=k (cR t ps l id)
 |[],l,t,k=>by cases l<;>rfl
 |p::ps,[],t,k=>rfl
 |p::ps,x::l,t,k=>by simp only[cR,T.setK_eq];exact mX ps l _ k
def nX{ρ:aS}:∀(ps:List Tmp) (l:List V) (ys:List Value) (t:T V) (tm:Array Value),TR ρ t tm->br ρ l=some ys->(∀ p∈ps,p<tm.size) ->
 TR ρ (cR t ps l id) ((ps.zip ys).foldl (λtmps x=>tmps.setIfInBounds x.1 x.2) tm)/\((ps.zip ys).foldl (λtmps x=>tmps.setIfInBounds x.1 x.2) tm).size=tm.size
 |[],l,ys,t,tm,a,_,_=>by
  have:cR t [] l id=t:=by cases l<;>rfl
  simp_all
 |p::ps,[],ys,t,tm,a,b,_=>by cases b;exact⟨a,rfl⟩
 |p::ps,x::l,ys,t,tm,a,b,hp=>by
  obtain⟨y,q,e,g,rfl⟩:=bt.1 b;simp only[cR,T.setK_eq,List.zip_cons_cons,apD];obtain⟨k1,k2⟩:=nX ps l q _ (tm.setIfInBounds p y) (a.put e (hp p (by simp))) g (λh d=>by simpa using hp h (by simp[d]))
  grind
structure uA(E:dX):Prop where
 call:∀ f args s v s',E.orc f args s=some (v,s')->gP E.P f args none s ⟨.returned v,none,s'⟩
def HU(z:Good E.P ih){args:List V}{up:Option Md}{s:S}{out:fM}(e:vN ih f args up s (E.P.funcs[f]?)=some out):gP E.P f args up s out:=by
 unfold vN at e;split at e
 .rename_i fn b;split at e
  .rename_i c hb;cases d:(fn.name == "runtime.NumGoroutine")with
   |true=>rw[d]at e;cases e
   |false =>
    rw[d]at e;simp only[Xi]at e;rw[tP]at e;intro ρ w ys h q;have g:fn.name ≠ "runtime.NumGoroutine" := by simpa using d
    refine⟨λw=>by simp[callFunc,b,g,hb],λcs j=>?_⟩;refine z _ s out e ρ w _ cs h ⟨rfl,b,?_,?_,λ_=>?_,trivial,trivial,rfl,?_⟩
    .intro i v m;rw[FJ]at m;have hl:=bW q;split at m
     .rename_i hi;obtain⟨y,n,a⟩:=eT _ q m;refine⟨y,n,?_⟩;have hi2:i<ys.length:=(acy.1 a).1;simp only[aoM]at a;show(ys.toArray++Array.replicate _ undef)[i]? = some y
      grind
     grind [T.get_leaf]
    .show fn.ntmps<=(ys.toArray++Array.replicate _ undef).size
     grind
    .simp[Frame.enter,b,hb]
    .cases up with
     |none=>rfl
     |some u =>obtain⟨c,cs',n,a⟩:=j u rfl;exact⟨rfl,c,cs',n,a⟩
  .cases e
 .cases e
def GY(u:Good E.P ih){l:Nat}{args:List V}{s:S}{out:fM}(e:AJ E ih l args s (s.get l)=some out):XP E.P l args s out:=by
 intro ρ w lb ys h hl m;unfold AJ at e;split at e
 .rename_i st pend f' t' ps a b d nt y;split at e
  .rename_i fn z;cases hb:(Nat.ble fn.ntmps nt&&Nat.beq ps.size args.length&&ps.toList.all (λp=>Nat.blt p nt))with
   |false=>rw[hb]at e;cases e
   |true =>
    rw[hb]at e;simp only[ge]at e;simp only[abk]at hb;rw[mX]at e;obtain⟨r,A,r2,r3,B,n,F,G,H,q,r10⟩:=zI h y hl;have g:=bW m;have j:ys.toArray.size=r.params.size:=by have:=abj hb.1.2;rw[n,this];simpa using g
    have hy:=run_yield (P:=E.P) (args:=ys.toArray) A j;have hfold:(r.params.zip ys.toArray).foldl (λtmps (t,a)=>tmps.setIfInBounds t a) r.tmps=(ps.toList.zip ys).foldl (λtmps x=>tmps.setIfInBounds x.1 x.2) r.tmps:=by rw[<- Array.foldl_toList,n];simp
    obtain⟨I,J⟩:=nX ps.toList args ys t' r.tmps H m (λp hp=>ajN (ss (anN.1 hb.2 p hp)) q);rw[hfold]at hy;refine⟨_,_,_,_,hy,λcs=>?_⟩;rw[B,F,G];refine u _ s out e ρ w _ cs h ⟨rfl,z,I,?_,λ_=>rfl,trivial,trivial,⟨rfl,lb,hl,rfl⟩,rfl⟩;exact akG (akG (act hb.1.1) q) (Nat.le_of_eq J.symm)
  .cases e
 .cases e
def Ej(d:jM E)(g:uA E)(hD:eC E)(a:Good E.P ih):Good E.P (fN E ih):=by
 intro j s out e;cases j with
 |frame f fn t todo ds m up rd=>exact yR d hD a e
 |call f args up =>
  simp only[fN]at e;unfold Dn at e;split at e
  .rename_i v s' b;cases up with
   |some u=>cases b
   |none =>cases e;exact g.call f args s v s' b
  .exact HU a e
 |round l args=>exact GY a e
def mU(a:jM E)(b:uA E)(hD:eC E):∀ n,Good E.P (rC E n)
 |0=>λj s out e=>by cases e
 |n+1=>Ej a b hD (mU a b hD n)
end
abbrev Ih:=uD->S->Option fM
def GB(c:Nat->Ih)(R:Ih):Prop:=∀ j s o,R j s=some o->∃ n,∀ m,n<=m->c m j s=some o
def bT{α:Type}(c:Nat->Ih)(R:Ih)(Φ:Ih->Option α):Prop:=∀ x,Φ R=some x->∃ n,∀ m,n<=m->Φ (c m)=some x
section
variable{c:Nat->Ih}{R:Ih}{α β:Type}
def bT.const(x:Option α):bT c R (λ_=>x):=λ_ h=>⟨0,λ_ _=>h⟩
theorem bT.bind{Φ:Ih->Option α}{Ψ:Ih->Option α->Option β}(h:bT c R Φ)(b:∀ ih,Ψ ih none=none)(d:∀ x,bT c R (λih=>Ψ ih (some x))):bT c R (λih=>Ψ ih (Φ ih)):=by
 intro y hy;cases a:Φ R with
 |none=>simp only[a,b]at hy;cases hy
 |some x =>
  simp only[a]at hy;obtain⟨n1,h1⟩:=h x a;obtain⟨n2,h2⟩:=d x y hy;refine⟨max n1 n2,λm hm=>?_⟩
  grind
def bT.ih(h:GB c R)(j:uD)(s:S):bT c R (λih=>ih j s):=λo ho=>h j s o ho
def wC(h:GB c R){Φ:Ih->Option fM}(a:bT c R Φ)(d:Option Tmp)(t:T V)(ds:List ft)(up:Option Md){k:Ih->RK}(hk:∀ t ds up s,bT c R (λih=>k ih t ds up s)):bT c R (λih=>gg d t ds up (k ih) (Φ ih)):=by
 refine a.bind (Ψ:=λih x=>gg d t ds up (k ih) x) (λ_=>rfl) λo=>?_;obtain⟨e,u,s⟩:=o;cases e with
 |returned v=>simp only[gg,cO];exact hk _ _ _ _
 |panicked c=>exact bT.const _
def Ni(h:GB c R)(rd:Option Nat)(d:Option Tmp)(t:T V)(ds:List ft)(up:Option Md){k:Ih->RK}(hk:∀ t ds up s,bT c R (λih=>k ih t ds up s))(x:Option Nx) :
 bT c R (λih=>ez (cD ih) (eK ih) rd d t ds up (k ih) x):=by
 cases x with
 |none=>exact bT.const _
 |some x =>
  cases x with
  |val v s=>simp only[ez,cO];exact hk _ _ _ _
  |skip s=>simp only[ez,cO];exact hk _ _ _ _
  |enter f args s=>exact wC h (bT.ih h _ _) d t ds up hk
  |round l args s=>exact wC h (bT.ih h _ _) d t ds up hk
  |defer df s=>cases rd<;>simp only[ez,cO,Option.isSome_some,aoc,ge,Xi]<;>first|exact hk _ _ _ _|exact bT.const _
  |recover s =>
   simp only[ez];unfold recovered;split
   .simp only[cO];exact hk _ _ _ _
   .simp only[cO];exact hk _ _ _ _
   .exact bT.const _
  |panic v s=>exact bT.const _
def Nh(h:GB c R){E:dX}(rd:Option Nat)(o:Oper)(t:T V)(ds:List ft)(up:Option Md)(s:S){k:Ih->RK}(hk:∀ t ds up s,bT c R (λih=>k ih t ds up s))(b:Option Bool) :
 bT c R (λih=>rF E (cD ih) (eK ih) rd o t ds up s (k ih) b):=by
 cases b with
 |none=>exact bT.const _
 |some b=>cases b with
  |true=>exact Ni h rd _ t ds up hk _
  |false=>simp only[rF,cO];exact hk _ _ _ _
def BW(h:GB c R){E:dX}{ops:Array Oper}(rd:Option Nat):∀(l:List Oper) (t:T V) (ds:List ft) (up:Option Md) (s:S),bT c R (λih=>rB E ops (cD ih) (eK ih) rd l t ds up s)
 |[],_,_,_,_=>bT.const _
 |o::l,t,ds,up,s=>Nh h rd o t ds up s (λt ds up s=>BW h rd l t ds up s) _
def Kh(h:GB c R){E:dX}(t:T V)(s:S)(o:Oper)(b:Option Bool):bT c R (λih=>jf E (cD ih) t s o b):=by
 cases b with
 |none=>exact bT.const _
 |some b=>cases b with
  |false=>exact bT.const _
  |true =>
   simp only[jf];cases ep E t s o with
   |none=>exact bT.const _
   |some x=>cases x with
    |enter f args s =>simp only[yx];refine(bT.ih h (.call f args none) s).bind (Ψ:=λ_ x=>HW x) (λ_=>rfl) λo=>bT.const _
    |_=>exact bT.const _
def wB(h:GB c R){E:dX}{ops:Array Oper}{ms:List Nat}{effs:Nat}{all:List (Nat×Oper)}(ds:List ft)(up:Option Md):∀(es:List (Nat×Oper)) (a:List (Nat×S)) (done:Nat) (t:T V) (s:S),
 bT c R (λih=>ig E ops ms effs all (cD ih) ds up es a done t s)
 |[],_,_,_,_=>bT.const _
 |(i,o)::r,a,done,t,s=>by
  simp only[ig];cases ei E ops ms effs a (ms.getD i 0) all done t s with
  |none=>exact bT.const _
  |some x =>
   obtain⟨b,d,s1⟩:=x;simp only
   refine(Kh h d s1 o (cK ops d o)).bind (Ψ:=λih (x:Option (V×S))=>match x with
    |some (v,s')=>bif Nat.ble s1.next s'.next&&!(b.testBit i)&&effs.testBit i then oj d o.dst (some v) λt=>ig E ops ms effs all (cD ih) ds up r ((i,s')::a) (Nat.lor b (Nat.pow 2 i)) t s' else none
    |none=>none) (λ_=>rfl) λx=>?_
   obtain⟨v,s'⟩:=x;simp only;cases (Nat.ble s1.next s'.next&&!(b.testBit i)&&effs.testBit i)with
   |false=>exact bT.const _
   |true=>simp only[ge,cO];exact wB h ds up r _ _ _ _
def HM(h:GB c R){E:dX}{ops:Array Oper}(t:T V)(ds:List ft)(up:Option Md)(s:S):bT c R (λih=>jh E ops (cD ih) (eK ih) t ds up s):=by
 unfold jh;cases UL E.P ops with
 |none=>exact bT.const _
 |some p=>exact wB h ds up _ _ _ _ _
variable{f:FuncId}{fn:Func}
def iu(h:GB c R)(t:T V)(todo:List Item)(ds:List ft)(m:Md)(up:Option Md)(rd:Option Nat)(s:S):bT c R (λih=>gZ ih f fn t todo ds m up rd s):=bT.ih h _ _
def nz(h:GB c R)(t:T V)(ds:List ft)(up:Option Md)(rd:Option Nat)(s:S)(jump:Option Code):bT c R (λih=>nj (gZ ih f fn) t ds up rd s jump):=by
 unfold nj;split
 .split
  .simp_all[iu]
  .simp_all[iu]
  .exact bT.const _
 simp_all[bT.const]
def ub(h:GB c R){Φ:Ih->Option ol}(a:bT c R Φ)(k:List Item)(rd:Option Nat):bT c R (λih=>ji (gZ ih f fn) k rd (Φ ih)):=by refine a.bind (Ψ:=λih x=>ji (gZ ih f fn) k rd x) (λ_=>rfl) λx=>?_;cases x<;>exact iu h _ _ _ _ _ _ _
def Kg(h:GB c R){Φ:Ih->Option fM}(a:bT c R Φ)(k:List Item)(t:T V)(ds:List ft)(up:Option Md)(rd:Option Nat)(d l:Nat):bT c R (λih=>kZ (gZ ih f fn) k t ds up rd d l (Φ ih)):=by
 refine a.bind (Ψ:=λih x=>kZ (gZ ih f fn) k t ds up rd d l x) (λ_=>rfl) λx=>?_;obtain⟨e,u,s⟩:=x;cases e with
 |panicked c=>exact iu h _ _ _ _ _ _ _
 |returned v =>
  simp only[kZ];unfold tG;split
  .split
   .exact bT.const _
   simp_all[iu]
  .exact bT.const _
def En(h:GB c R)(nt:Nat)(k:List Item)(t:T V)(ds:List ft)(up:Option Md)(rd:Option Nat)(s:S)(ps:Array Tmp)(a b:Code)(x:Option V):bT c R (λih=>gQ f nt (gZ ih f fn) (cD ih) k t ds up rd s ps a b x):=by
 unfold gQ;split
 .split
  .split
   .exact Kg h (bT.ih h _ _) _ _ _ _ _ _ _
   .exact bT.const _
  .exact bT.const _
 .exact bT.const _
def HO(h:GB c R){E:dX}(co:Code)(k:List Item)(t:T V)(ds:List ft)(up:Option Md)(rd:Option Nat)(s:S):bT c R (λih=>dq co E f fn (gZ ih f fn) (cD ih) (eK ih) k t ds up rd s):=by
 cases co<;>simp only[dq]<;>try exact iu h _ _ _ _ _ _ _
 case ret=>exact nz h _ _ _ _ _ _
 case cond q a b =>
  unfold Ij;split
  .exact iu h _ _ _ _ _ _ _
  .exact bT.const _
 case exit id =>
  unfold rS;split
  .exact iu h _ _ _ _ _ _ _
  .exact nz h _ _ _ _ _ _
 case goto l =>
  unfold rS;split
  .exact iu h _ _ _ _ _ _ _
  .exact nz h _ _ _ _ _ _
 case rangeFunc g ps a b=>exact En h _ _ _ _ _ _ _ _ _ _ _
 case region id ops draws =>cases draws<;>simp only[dq]<;>cases ob ops fn.ntmps<;>simp only[ge,Xi]<;>first|exact bT.const _|exact ub h (BW h _ _ _ _ _ _) _ _|exact ub h (HM h _ _ _ _) _ _
 simp_all[bT.const]
def HN(h:GB c R){E:dX}(i:Item)(k:List Item)(t:T V)(ds:List ft)(up:Option Md)(rd:Option Nat)(s:S):bT c R (λih=>mw i E f fn (gZ ih f fn) (cD ih) (eK ih) k t ds up rd s):=by
 cases i<;>simp only[mw]<;>try(first|exact iu h _ _ _ _ _ _ _|exact bT.const _)
 case code co=>exact HO h co _ _ _ _ _ _
 case beginRound =>
  cases rd with
  |none=>exact bT.const _
  |some l =>
   simp only;unfold Ac;split
   .exact iu h _ _ _ _ _ _ _
   .exact bT.const _
def BV(h:GB c R){E:dX}(ds:List ft)(t:T V)(m:Md)(up:Option Md)(rd:Option Nat)(s:S):bT c R (λih=>dN ds E fn (gZ ih f fn) (cD ih) t m up rd s):=by
 cases ds with
 |nil=>exact bT.const _
 |cons d ds =>
  cases d with
  |collected b =>
   simp only[dN];unfold lE;split
   .simp_all[iu]
   .exact bT.const _
  |call fn cap args =>
   cases fn with
   |func g =>
    simp only[dN];refine(bT.ih h (.call g (args++cap) (some m)) s).bind (Ψ:=λih x=>kL (gZ ih f _) t ds up rd x) (λ_=>rfl) λx=>?_;unfold kL;split
    .split
     .exact bT.const _
     simp_all[iu]
    .simp_all[iu]
    .exact bT.const _
   |_=>exact bT.const _
def pt(h:GB c R){E:dX}(j:uD)(s:S):bT c R (λih=>fN E ih j s):=by
 cases j with
 |frame f fn t todo ds m up rd =>
  simp only[fN];cases m with
  |run =>
   simp only[gT];cases todo with
   |nil=>simp only[oB];exact nz h _ _ _ _ _ _
   |cons i k=>simp only[oB];exact HN h i _ _ _ _ _ _
  |returning=>simp only[gT];exact BV h _ _ _ _ _ _
  |panicking c=>simp only[gT];exact BV h _ _ _ _ _ _
 |call f args up =>
  simp only[fN];unfold Dn;split
  .exact bT.const _
  .unfold vN;split
   .split
    .rename_i fn _ _ co _;cases b:(fn.name == "runtime.NumGoroutine")with
     |true=>exact bT.const _
     |false =>have:(λih:Ih=>bif false then none else ls args 0 .leaf λt=>ih (.frame f fn t [.code co] [] .run up none) s)=λih=>ih (.frame f fn (ls args 0 .leaf id) [.code co] [] .run up none) s:=funext λih=>tP args 0 .leaf _;rw[this];exact bT.ih h _ _
    .exact bT.const _
   .exact bT.const _
 |round l args =>
  simp only[fN];unfold AJ;split
  .split
   .rename_i _ _ a t0 ps assign body _ nt _ _ fn _;cases b:(Nat.ble fn.ntmps nt&&Nat.beq ps.size args.length&&ps.toList.all (λp=>Nat.blt p nt))with
    |false=>exact bT.const _
    |true =>have:(λih:Ih=>bif true then cR t0 ps.toList args λt=>ih (.frame a fn t [.code assign,.beginRound,.code body] [] .run none (some l)) s else none)=λih=>ih (.frame a fn (cR t0 ps.toList args id) [.code assign,.beginRound,.code body] [] .run none (some l)) s:=funext λih=>mX ps.toList args t0 _;rw[this];exact bT.ih h _ _
   .exact bT.const _
  .exact bT.const _
end
def lim(E:dX):Ih:=λj s=>open Classical in if h:∃ o n,rC E n j s=some o then some h.choose else none
def AH(E:dX):∀ n j s o,rC E n j s=some o->rC E (n+1) j s=some o
 |0,_,_,_,h=>by cases h
 |n+1,j,s,o,h=>by have hl:GB (λ_=>rC E (n+1)) (rC E n):=λj s o h=>⟨0,λ_ _=>AH E n j s o h⟩;obtain⟨k,hk⟩:=pt hl (E:=E) j s o h;exact hk k (abH _)
theorem uQ(E:dX){n m:Nat}(hm:n<=m){j:uD}{s:S}{o:fM}(h:rC E n j s=some o):rC E m j s=some o:=by
 induction hm with
 |refl=>exact h
 |step _ ih=>exact AH E _ j s o ih
def Jh{E:dX}{n:Nat}{j:uD}{s:S}{o:fM}(h:rC E n j s=some o):lim E j s=some o:=by
 have a:∃ o n,rC E n j s=some o:=⟨o,n,h⟩;unfold lim;rw[dif_pos a];obtain⟨m,hm⟩:=a.choose_spec;have h1:=uQ E (Nat.le_max_left n m) h
 grind [uQ,Nat.le_max_right]
def Br{E:dX}{j:uD}{s:S}{o:fM}(h:lim E j s=some o):∃ n,rC E n j s=some o:=by
 unfold lim at h;split at h
 .grind
 .cases h
def Zw(E:dX):GB (rC E) (lim E):=λj s o h=>by obtain⟨n,a⟩:=Br h;exact⟨n,λm hm=>uQ E hm a⟩
def Vz(E:dX)(j:uD)(s:S):lim E j s=fN E (lim E) j s:=by
 cases h:fN E (lim E) j s with
 |some o =>obtain⟨n,a⟩:=pt (Zw E) j s o h;exact Jh (n:=n+1) (a n (abH _))
 |none =>
  cases b:lim E j s with
  |none=>rfl
  |some o =>
   obtain⟨n,a⟩:=Br b;cases n with
   |zero=>cases a
   |succ n =>
    have hl:GB (λ_=>lim E) (rC E n):=λj s o h=>⟨0,λ_ _=>Jh h⟩;obtain⟨k,hk⟩:=pt hl (E:=E) j s o a;have h3:fN E (lim E) j s=some o:=hk k (abH _)
    grind
def Vy{E:dX}(a:jM E)(b:uA E)(hD:eC E):Good E.P (lim E):=λj s o h=>by obtain⟨n,d⟩:=Br h;exact mU a b hD n j s o d
section ops
variable{P:Program}{ρ:aS}{s:S}{w:World}{t:T V}{tm:Array Value}
def NF(h:HR ρ s w){b:Builtin}(hb:b=.len\/b=.cap\/b=.max\/b=.min){ts:Array TypeId}{ty:TypeId}{consts:Array Bool}{args:List V}{ys:List Value}(g:br ρ args=some ys){nx:Nx}(e:jL P b ts args s=some nx) :
 DN P ρ w s nx ((Go.builtin b ts ty consts ys.toArray).run P w):=by
 rcases hb with rfl|rfl|rfl|rfl
 .simp only[jL]at e;split at e
  .rename_i t0 h0;split at e
   .rename_i x;obtain⟨X,d,rfl⟩:=nK g;exact bq h e λv a=>Bt h h0 d a
   .cases e
  .cases e
 .simp only[jL]at e;split at e
  .rename_i t0 h0;split at e
   .rename_i x;obtain⟨X,d,rfl⟩:=nK g;exact bq h e λv a=>Dl h0 d a
   .cases e
  .cases e
 .simp only[jL]at e;refine bq (m:=Builtin.max_ ts ty ys.toArray) h e λv a=>?_;cases args with
  |nil=>cases a
  |cons x r =>obtain⟨X,q,d,hr,rfl⟩:=bt.1 g;exact kD Bl r q x X v hr d a
 .simp only[jL]at e;refine bq (m:=Builtin.min_ ts ty ys.toArray) h e λv a=>?_;cases args with
  |nil=>cases a
  |cons x r =>obtain⟨X,q,d,hr,rfl⟩:=bt.1 g;exact kD Bj r q x X v hr d a
def Nz(h:HR ρ s w)(m:TR ρ t tm){a dst:TypeId}(b:∀ el,P.underlying dst≠some (.slice el)){x:Operand}{nx:Nx}(e:iz P s a dst (eval t x)=some nx) :
 DN P ρ w s nx ((do pure (Next.value (<- convert a dst (rv tm x))):Sem Next).run P w):=by
 unfold iz at e;split at e
 .rename_i v q;have dv:=aO m q;generalize rv tm x=X at *;unfold jx at e;split at e
  .rename_i y s' hc;cases e;unfold kM at hc;split at hc
   .rename_i ds g;split at hc
    .rename_i k d;split at hc
     .rename_i j n;cases hc;cases dv;have:(convert a dst (.int j n)).run P w=.ok (.int k (k.wrap n)) w:=by cases ds<;>simp[convert,aL g,aL d,Conv.intToInt]
      exact⟨_,.int k (k.wrap n),rfl,by simp[this],by rw[cX];rfl⟩
     .cases hc
    .rename_i d;obtain⟨rfl,u,z,A⟩:=we h g d dv hc;exact⟨_,u,rfl,by simp[A],z⟩
    .rename_i el d;exact absurd d (b el)
    .cases hc
   .cases hc
  .cases e
 .cases e
def Fi{E:dX}(h:HR ρ s w)(d:TR ρ t tm)(o:Oper)(hk:aT E.P o.op<=1){nx:Nx}(e:ep E t s o=some nx):DN E.P ρ w s nx ((execOp (rv tm) o).run E.P w):=by
 obtain⟨dst,op,type,pos,after,guard⟩:=o;unfold ep at e;simp only at e hk;cases op<;>simp only[dF]at e<;>try(cases e;done)
 case move x=>exact tC h d e
 case assign x=>exact tC h d e
 case pick c a b=>exact ug h d e
 case alloc elem=>simp[aT]at hk
 case box elem x=>simp[aT]at hk
 case build ty parts=>exact rh h d e
 case buildSlice ty len parts=>simp[aT]at hk
 case load ty x=>exact ui h d e
 case store ty x y=>simp[aT]at hk
 case nilCheck x=>exact mB h d e
 case binOp op ty x y z=>exact yz h d e
 case unOp op ty x=>exact CX h d e
 case convert src dst x =>refine Nz h d (λel g=>?_) e;simp[aT,g]at hk
 case makeInterface ty x=>exact od h d e
 case makeFunc fn first cap=>exact pE h d e
 case makeMap ty r=>simp[aT]at hk
 case makeSlice ty l c=>simp[aT]at hk
 case slice ty x lo hi mx=>exact qZ h d e
 case fieldAddr ty x f=>exact lB h d e
 case field ty x f=>exact rg h d e
 case indexAddr ty x i=>exact lA h d e
 case index ty x i=>exact ra h d e
 case lookup ty x k ok=>exact pF h d e
 case mapUpdate ty m k x=>simp[aT]at hk
 case insert ty m k x=>simp[aT]at hk
 case typeAssert x xt ty ok=>exact pG h d e
 case extract x i=>exact oh h d e
 case call c =>
  unfold iU at e;split at e
  .rename_i args j;obtain⟨ys,n,q⟩:=DA d j;split at e
   .rename_i b hc;have hb:b=.len\/b=.cap\/b=.max\/b=.min:=by grind [aT]
    simp only[execOp,resolve,hc,afX,ajJ,acW,invoke,q];exact NF h hb n e
   .rename_i f hc;simp[aT,hc]at hk
   .cases e
  .cases e
 case defer c=>simp[aT]at hk
 grind [aT]
end ops
section ops
variable{P:Program}{ρ:aS}{s:S}{w:World}{t:T V}{tm:Array Value}
def SW(P:Program)(ρ:aS)(w:World)(mk:Nat->V)(B:ef)(m:Sem Next):Prop :=
 ∃ y obj lim n,m.run P w=.ok (.value y) ({ w with drawn:=n }.alloc obj) /\
  ∀ ρ' f,ρ.le ρ'->ρ' f 0=some ⟨w.heap.size,0,lim⟩->(∀ v,1<=v->ρ' f v=none)->den ρ' (mk f)=some y/\∀ w':World,w'.heap[w.heap.size]? = some obj->DP ρ' w' f B
def vS{ρ':aS}{f:Nat}{lim b:Nat}{cs:List V}{ys:Array Value}{sb:Bool}{el g:TypeId}{fz:Nat×Nat}(m:br ρ cs=some (ys.toList.take cs.length))(e:(sb=false->fz=(0,0))/\∀ i,i<ys.size->¬(fz.1<=i/\i<fz.2))
 (hl:ρ.le ρ') (h0:ρ' f 0=some ⟨b,0,lim⟩) (n:∀ v,1<=v->ρ' f v=none) (a:lim=ys.size) {w':World} (q:w'.heap[b]? = some (.cells ys g fz)):DP ρ' w' f (.cells el sb 1 [⟨0,0,cs⟩]):=by
 refine⟨n,λu h=>?_⟩;simp at h;subst h;refine⟨Nat.zero_lt_one,_,ys,g,fz,h0,q,abH _,by simp[a],e,λi x j=>?_⟩;obtain⟨y,hy,d⟩:=eT i m j;refine⟨y,cr hl _ _ hy,?_⟩;have hi:i<cs.length:=(acy.1 j).1;rw[aob hi,akF]at d;simpa using d
def JB{elem:TypeId}{v:V}{y:Value}(a:den ρ v=some y):SW P ρ w (λf=>.ptr ⟨f,0,0⟩) (.cells elem false 1 [⟨0,0,v.cells⟩]) (do pure (Next.value (.pointer (some (<- newVar elem y))))):=by refine⟨_,_,y.cells.size,w.drawn,by simp[newVar,newRow];exact⟨rfl,rfl⟩,λρ' f hl h0 b=>⟨by simp[den,jp,h0],λw' d=>?_⟩⟩;exact vS (by rw[eS a,<- nL a,aog (by simp)]) ⟨λ_=>rfl,by simp⟩ hl h0 b rfl d
def Vq{elem:TypeId}{cs:List V}{ys:Array Value}(g:br ρ cs=some ys.toList){len sz cap:Nat}(hl:len<=cap)(d:0<sz) :
 SW P ρ w (λf=>.slice ⟨f,0,0⟩ 0 len (some cap) sz) (.cells elem false 1 [⟨0,0,cs⟩]) (do pure (Next.value (.slice (some (<- newRow elem ys)) len cap))):=by
 have b:cs.length=ys.size:=by have:=bW g;simpa using this.symm
 refine⟨_,_,ys.size,w.drawn,by simp[newRow];exact⟨rfl,rfl⟩,λρ' f e h0 h=>⟨?_,λw' j=>?_⟩⟩
 .exact dO (a:=⟨f,0,0⟩) (cap:=some cap) h0 (anI _) (anI _) hl d
 .exact vS (by rw[g,b,aog (by simp)]) ⟨λ_=>rfl,by simp⟩ e h0 h rfl j
def wc(P:Program)(ρ:aS)(w:World)(d:S->Option Nx)(m:Sem Next):Prop :=
 ∃ mk B,(∀ s',d s'=some (.val (mk s'.next) (s'.alloc B)))/\SW P ρ w mk B m
def SW.congr{mk:Nat->V}{B:ef}{m a:Sem Next}(h:SW P ρ w mk B m)(e:a.run P w=m.run P w):SW P ρ w mk B a:=by obtain⟨y,obj,lim,n,b,d⟩:=h;exact⟨y,obj,lim,n,e.trans b,d⟩
def Ia{elem:TypeId}{nx:Nx}(e:jU P s elem=some nx):wc P ρ w (λs=>jU P s elem) (do pure (Next.value (<- Instr.alloc elem true (.tuple #[])))):=by
 unfold jU at e;split at e
 .rename_i z b;obtain⟨y,i,hi,a,d⟩:=fy b;refine⟨_,_,λs'=>by simp only[jU,b,qM,bE,bD],(JB (P:=P) (w:=w) (elem:=elem) (d ρ)).congr ?_⟩;simp only[Instr.alloc,afX,gA hi a,acW,ajJ];simp[newVar,newRow]
 .cases e
def Nq(b:TR ρ t tm){elem:TypeId}{x:Operand}{nx:Nx}(e:uk s elem (eval t x)=some nx):wc P ρ w (λs=>uk s elem (eval t x)) (do pure (Next.value (<- Instr.box elem (rv tm x)))):=by
 unfold uk at e;split at e
 .rename_i z a;refine⟨_,_,λs'=>by simp only[uk,a,qM,bE,bD],(JB (P:=P) (w:=w) (elem:=elem) (aO b a)).congr ?_⟩;simp only[Instr.box,afX,ajJ];simp[newVar,newRow]
 .cases e
def CY{ty:TypeId}:wc P ρ w (λs=>some (.val (.map s.next) (s.alloc (.map [] 0)))) (do pure (Next.value (<- Instr.makeMap ty none))):=by refine⟨λf=>.map f,.map [] 0,λs'=>rfl,.map (some w.heap.size),.map #[] 0,0,w.drawn,by simp[Instr.makeMap],λρ' f hl h0 h1=>⟨by simp[den,h0],λw' a=>⟨_,#[],h0,a,trivial⟩⟩⟩
def Rg(P:Program)(ρ:aS)(w:World)(d:S->Option Nx)(m:Sem Value):Prop :=
 ∃(el:TypeId) (cs:List V) (ys:Array Value) (len cap sz:Nat),(∀ s',d s'=some (.val (.slice (bE s' el cs).1 0 len (some cap) sz) (bE s' el cs).2))/\br ρ cs=some ys.toList/\len<=cap/\0<sz /\
  m.run P w=(do pure (.slice (some (<- newRow el ys)) len cap):Sem Value).run P w
def Rg.made{d:S->Option Nx}{m:Sem Value}(h:Rg P ρ w d m):wc P ρ w d (do pure (Next.value (<- m))):=by obtain⟨el,cs,ys,len,cap,sz,b,e,g,j,a⟩:=h;refine⟨_,_,λs'=>by rw[b];simp only[bE,bD],(Vq (P:=P) (w:=w) (elem:=el) e g j).congr ?_⟩;simp only[afX]at a ⊢;rw[a];simp[newRow]
def Es(L:TR ρ t tm){ty:TypeId}{l c:Operand}{nx:Nx}(e:eR P s ty (eA (eval t l)) (eA (eval t c))=some nx) :
 Rg P ρ w (λs=>eR P s ty (eA (eval t l)) (eA (eval t c))) (Instr.makeSlice ty (rv tm l) (rv tm c)):=by
 unfold eR at e;split at e
 .rename_i el M;split at e
  .rename_i l' hl;split at e
   .rename_i a hc;obtain⟨k1,X⟩:=gS L hl;obtain⟨k2,Y⟩:=gS L hc;split at e
    .rename_i z N;obtain⟨zv,i,hi,u,b⟩:=fy N;split at e
     .rename_i n O;cases hb:(Nat.ble l' a&&Nat.ble a 2199023255552&&!(Nat.beq n 0)&&Nat.beq z.cells.length n&&fg P el a)with
      |false=>simp[hb]at e
      |true =>
       have y:=hb;simp only[hb,ge]at e;simp only[abk]at hb;obtain⟨⟨⟨⟨A,B⟩,F⟩,Q⟩,Z⟩:=hb;have A:=act A;have B:=act B;have Q:=abj Q;have F:0<n:=by grind
       have Z:i.bytes*a<=100000000000000:=by simp_all[fg]
       have d:=eS (b ρ);have G:zv.cells.toList.length=n:=by have:=bW d;omega
       have hrow:=Dh zv.cells.toList n G F a;have hd:br ρ (List.replicate a z.cells).flatten=some ((List.replicate a zv.cells.toList).flatten.toArray).toList:=by simpa using iA d a
       have h:(Instr.makeSlice ty (rv tm l) (rv tm c)).run P w=(do pure (.slice (some (<- newRow el (List.replicate a zv.cells.toList).flatten.toArray)) l' a):Sem Value).run P w:=by
        have j:=cN O w;have U:=mI l' (by omega);have W:=mI a B;simp only[apl]at U W;have hA:∀ k n,(asInt (.int k n)).run P w=.ok n w:=λk n=>by simp[asInt,asIntOf]
        have hrow2:Array.map (λx=>zv.cells[x%zv.cells.size]!) (Array.range (a*n))=(List.replicate a zv.cells.toList).flatten.toArray:=by grind
        have m:(decide ((a:Int)<0)||decide ((i.bytes:Int)*(a:Int)>2 ^ 48))=false:=by grind
        have H:decide ((l':Int)<0)=false:=by simp
        have I:decide ((l':Int)>(a:Int))=false:=by simp;omega
        have J:(typeInfo el).run P w=.ok i w:=by simp[typeInfo,hi]
        have hzr:=gA hi u w;simp only[Instr.makeSlice,afX,aL M,acW,X,Y,hA,ajJ,J,apl,U,W,run_askRoom,j,anE];rw[ajD (by rw[m,H,I];simp)];simp only[afX,run_askRoom,acW,j];by_cases q:a*n=0
        .rw[akJ q];have g:∀ f:Nat->Value,Array.map f (Array.range 0)=#[]:=λf=>by simp
         simp only[afX,ajJ,acW,<- hrow2,q,g]
        simp_all
       have K:(Nat.ble l' a&&Nat.ble a 2199023255552&&!(Nat.beq n 0)&&Nat.beq z.cells.length n&&fg P el a)=true:=y;exact⟨el,_,_,l',a,n,λs'=>by simp only[eR,M,hl,hc,N,O,K,ge,bE,bD],hd,A,F,h⟩
     .cases e
    .cases e
   .cases e
  .cases e
 .cases e
def vP(K:TR ρ t tm){ty:TypeId}{len:Nat}{parts:Array (Nat×Operand)}{nx:Nx}(e:cP P s ty len (eP t parts.toList)=some nx) :
 Rg P ρ w (λs=>cP P s ty len (eP t parts.toList)) (Instr.buildSlice ty len (parts.map fun(i,x)=>(i,rv tm x))):=by
 unfold cP at e;split at e
 .rename_i el G;split at e
  .rename_i l hl;have q:=hl;have hp:=jT K hl;have u:(parts.toList.map fun(i,x)=>(i,rv tm x))=(parts.map fun(i,x)=>(i,rv tm x)).toList:=by simp
   rw[u]at hp;split at e
   .rename_i z H;obtain⟨zv,it,hi,y,d⟩:=fy H;have h:=eS (d ρ);split at e
    .rename_i n I;cases hb:(Nat.ble (len*n) 10000&&!(Nat.beq n 0)&&Nat.beq z.cells.length n)with
     |false=>rw[hb]at e;cases e
     |true =>
      have A:=hb;rw[hb]at e;simp only[ge]at e;simp only[abk]at hb;have b1:=act hb.1.1;have J:0<n:=by
       rcases aoG n with h0|h0
       .subst h0;simp at hb
       .exact h0
      have b3:=abj hb.2;unfold me at e;split at e
      .rename_i cs j;have B:zv.cells.toList.length=n:=by have:=bW h;omega
       have hrow:=Dh zv.cells.toList n B J len;have L:br ρ (List.replicate len z.cells).flatten=some ((List.replicate len zv.cells.toList).flatten.toArray).toList:=by simpa using iA h len
       obtain⟨zs,b,F⟩:=kG (place:=λi=>some (i*n,n)) (λi x M=>M) hp L j;have hrow2:Array.map (λx=>zv.cells[x%zv.cells.size]!) (Array.range (len*n))=(List.replicate len zv.cells.toList).flatten.toArray:=by grind
       have m:(Instr.buildSlice ty len (parts.map fun(i,x)=>(i,rv tm x))).run P w=(do pure (.slice (some (<- newRow el zs)) len len):Sem Value).run P w:=by
        simp only[Instr.buildSlice,afX,aL G,acW,cN I];rw[ajD (by omega)];by_cases a:len*n=0
        .rw[akJ a];have g:∀ f:Nat->Value,Array.map f (Array.range 0)=#[]:=λf=>by simp
         rw[<- hrow2,a,g]at b;simp only[afX,ajJ,acW,a,g,b]
        .rw[ajD a];simp only[afX,gA hi y,acW,ajJ,hrow2,b]
       exact⟨el,_,_,len,len,n,λs'=>by simp only[cP,G,q,H,I,A,ge,me,j,bE,bD],F,abH _,J,m⟩
      .cases e
    .cases e
   .cases e
  .cases e
 .cases e
def Kx(y:TR ρ t tm){b dst el:TypeId}(d:P.underlying dst=some (.slice el)){x:Operand}{nx:Nx}(e:iz P s b dst (eval t x)=some nx) :
 wc P ρ w (λs=>iz P s b dst (eval t x)) (do pure (Next.value (<- convert b dst (rv tm x)))):=by
 unfold iz at e;split at e
 .rename_i v u;have dv:=aO y u;generalize rv tm x=X at *;unfold jx kM at e;cases m:P.underlying b with
  |none=>simp[m]at e
  |some ds =>
   simp only[m,d]at e;cases v<;>simp only[pQ]at e<;>try(cases e;done)
   rename_i l;cases ds<;>simp only at e<;>try(cases e;done)
   cases hb:io P el with
   |false=>rw[hb]at e;cases e
   |true =>
    cases dv;have g:=run_bytes_of_string w b dst el (aR l) m d (jS hb);rw[fe]at g;have n:=apA w l.length 0 el;generalize hc:grownCap w l.length 0 el=cap at *;have j:(bytesRow (aR l) cap).size=cap:=by simp only[bytesRow,api,Array.size_map,Array.size_replicate,fe];simp_all[fe]
    rw[j]at g;have q:br ρ (l.map pM)=some ((bytesRow (aR l) cap).toList.take (l.map pM).length):=by
     rw[vT];have:(aR l).data.toList.length=l.length:=by simp[aR]
     simp[bytesRow,this]
    refine⟨λf=>.slice ⟨f,0,0⟩ 0 l.length none 1,.cells el true 1 [⟨0,0,l.map pM⟩],λs'=>?_,_,_,cap,w.drawn+1,by simp only[afX,g,acW,ajJ];rfl,λρ' f hl h0 A=>⟨?_,λw' B=>?_⟩⟩
    .simp only[iz,u,jx,kM,m,d,pQ,hb,ge,bD]
    .have:=dO (a:=⟨f,0,0⟩) (z:=0) (len:=l.length) (cap:=none) (sz:=1) h0 (by simp) (anI _) (by simpa[cM]using n) Nat.one_pos;rw[this];simp[cM,bK]
    .exact vS q ⟨(λh=>by cases h),λi hi=>by rw[j]at hi;simp;omega⟩ hl h0 A j.symm B
 .cases e
def RA{E:dX}(a:TR ρ t tm)(o:Oper)(hk:aT E.P o.op=2){nx:Nx}(e:ep E t s o=some nx):wc E.P ρ w (λs=>ep E t s o) (execOp (rv tm) o):=by
 obtain⟨dst,op,type,pos,after,guard⟩:=o;unfold ep at e ⊢;simp only at e hk ⊢;cases op<;>simp only[dF]at e ⊢<;>try(cases e;done)
 case alloc elem=>exact Ia e
 case box elem x=>exact Nq a e
 case buildSlice ty len parts=>exact(vP a e).made
 case makeMap ty r =>
  cases r with
  |none=>exact CY
  |some _=>cases e
 case makeSlice ty l c=>exact(Es a e).made
 case convert src dst x =>
  cases b:E.P.underlying dst with
  |none=>simp[aT,b]at hk
  |some d=>cases d<;>simp[aT,b]at hk;exact Kx a b e
 case binOp op ty x y z=>simp only[aT]at hk;cases hb:vE op<;>simp[hb]at hk
 case call c=>simp only[aT]at hk;split at hk<;>simp at hk
 all_goals simp[aT]at hk
end ops
section ops
variable{s:S}{t t':T V}
def jn:∀ {l:List Operand},(∀ x∈l,eval t x=eval t' x)->iI t l=iI t' l
 |[],_=>rfl
 |x::r,h=>by simp_all[jn,acl,iI]
def nH:∀ {l:List (Nat×Operand)},(∀ x∈l,eval t x.2=eval t' x.2)->eP t l=eP t' l
 |[],_=>rfl
 |(i,x)::r,h=>by have ih:=nH (l:=r) λy hy=>h y (acl _ hy);simp_all[eP]
def pz{x:Option Operand}(h:∀ y,x=some y->eval t y=eval t' y):mA t x=mA t' x:=by
 cases x with
 |none=>rfl
 |some y=>simp only[mA,h y rfl]
def Nn{E:dX}(o:Oper)(h:∀ x∈o.op.operands,eval t x=eval t' x):ep E t s o=ep E t' s o:=by
 obtain⟨dst,op,type,pos,after,guard⟩:=o;unfold ep;simp only at h ⊢;cases op<;>simp only[Op.operands]at h<;>simp only[dF]<;>try rfl
 case move x=>rw[h x (by simp)]
 case assign x=>rw[h x (by simp)]
 case pick c a b =>
  have e:∀ q:Bool,eval t (bif q then a else b)=eval t' (bif q then a else b):=λq=>by cases q<;>exact h _ (by simp)
  simp only[nI,h c (by simp),e]
 case box elem x=>rw[h x (by simp)]
 case build ty parts=>rw[nH λx d=>h x.2 (by simp;exact⟨x.1,by simpa using d⟩)]
 case buildSlice ty len parts=>rw[nH λx d=>h x.2 (by simp;exact⟨x.1,by simpa using d⟩)]
 case load ty x=>rw[h x (by simp)]
 case store ty x y=>rw[h x (by simp),h y (by simp)]
 case nilCheck x=>rw[h x (by simp)]
 case binOp op ty x y z=>rw[h x (by simp),h y (by simp)]
 case unOp op ty x=>rw[h x (by simp)]
 case convert src dst x=>rw[h x (by simp)]
 case makeInterface ty x=>rw[h x (by simp)]
 case makeFunc fn first cap=>rw[jn λx d=>h x (by simp;left;simpa using d),jn (l:=cap.toList) λx d=>h x (by simp;right;simpa using d)]
 case makeMap ty r=>cases r<;>rfl
 case makeSlice ty l c=>rw[h l (by simp),h c (by simp)]
 case slice ty x lo hi mx =>rw[h x (by simp),pz (x:=lo) λy hy=>h y (by subst hy;simp),pz (x:=hi) λy hy=>h y (by subst hy;simp),pz (x:=mx) λy hy=>h y (by subst hy;simp)]
 case fieldAddr ty x f=>rw[h x (by simp)]
 case field ty x f=>rw[h x (by simp)]
 case indexAddr ty x i=>rw[h x (by simp),h i (by simp)]
 case index ty x i=>rw[h x (by simp),h i (by simp)]
 case lookup ty x k ok=>rw[h x (by simp),h k (by simp)]
 case mapUpdate ty m k x=>rw[h m (by simp),h k (by simp),h x (by simp)]
 case insert ty m k x=>rw[h m (by simp),h k (by simp),h x (by simp)]
 case typeAssert x xt ty ok=>rw[h x (by simp)]
 case extract x i=>rw[h x (by simp)]
 case call c =>
  rw[jn λx d=>h x (by simp only[Call.operands];exact Array.mem_append.2 (.inr (by simpa using d)))];unfold iU;split
  .split
   .rfl
   .rename_i f hc;rw[h f (by simp[Call.operands,hc])]
   .rfl
  .rfl
 case defer c =>
  rw[jn λx d=>h x (by simp only[Call.operands];exact Array.mem_append.2 (.inr (by simpa using d)))];unfold qj;split
  .split
   .rename_i f hc;rw[h f (by simp[Call.operands,hc])]
   .rfl
  .rfl
 grind
end ops
instance (n:Nat):OfNat V n:=⟨.atom n⟩
abbrev iV(n:Int):V:=.int .i64 n
abbrev nS:V:=.nilslice
abbrev s0:V:=.str []
abbrev cB(e:TypeId)(l:List V):ef:=.cells e false 1 [⟨0,0,l⟩]
abbrev lf:T ef:=.leaf
abbrev n0(a c:T ef):T ef:=.node a none c
abbrev n1(a:T ef):T ef:=.node a none .leaf
abbrev n2(a:T ef):T ef:=.node .leaf none a
abbrev n3(b:ef):T ef:=.node .leaf (some b) .leaf
abbrev n4(a:T ef)(b:ef)(c:T ef):T ef:=.node a (some b) c
