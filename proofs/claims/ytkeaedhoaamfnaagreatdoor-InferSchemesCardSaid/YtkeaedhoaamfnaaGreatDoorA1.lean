/- The evaluator by which runs of the program are reckoned, and that it is sound: part 1. No conditions beyond those of the row. -/
import GoSem.Step
set_option linter.unusedVariables false
set_option linter.unusedSimpArgs false
noncomputable section
namespace Go.AI
structure Ad where
 f : Nat
 v : Nat
 c : Nat
 deriving Inhabited
inductive V where
 | bool (b : Bool)
 | int (k : IntKind) (n : Int)
 | str (s : List Nat)
 | ptr (a : Ad)
 | nilptr
 | slice (a : Ad) (z : Nat) (len : Nat) (cap : Option Nat) (sz : Nat)
 | nilslice
 | map (r : Nat)
 | nilmap
 | func (fn : Fn) (first captured : List V)
 | nilFunc
 | iface (t : TypeId) (v : V)
 | nilIface
 | agg (cs : List V)
 | tuple (vs : List V)
 | atom (i : Nat)      -- stands for a value of one cell that is not known
 deriving Inhabited
def V.undef : V := .tuple []
def V.ofCell : Value → Option V
 | .bool b => some (.bool b)
 | .int k n => some (.int k n)
 | .string s => some (.str (s.data.toList.map UInt8.toNat))
 | .pointer a => match a with
  | none => some .nilptr
  | some _ => none
 | .slice a n c => match a with
  | none => bif Nat.beq n 0 && Nat.beq c 0 then some .nilslice else none
  | some _ => none
 | .map a => match a with
  | none => some .nilmap
  | some _ => none
 | .nilFunc => some .nilFunc
 | .nilIface => some .nilIface
 | .func fn a b => match fn with
  | .func f => bif a.toList.isEmpty && b.toList.isEmpty then some (.func (.func f) [] []) else none
  | _ => none
 | _ => none
def V.ofCells : List Value → Option (List V)
 | [] => some []
 | x :: r => match V.ofCell x with
  | some v => match V.ofCells r with
   | some l => some (v :: l)
   | none => none
  | none => none
def V.ofConst : Value → Option V
 | .agg cs => match V.ofCells cs.toList with
  | some l => some (.agg l)
  | none => none
 | v => V.ofCell v
def V.cells : V → List V
 | .agg cs => cs
 | v => [v]
inductive zu where
 | o
 | l (p : zu)
 | r (p : zu)
def yN : Nat → Nat → zu
 | 0, _ => .o
 | n + 1, k => match k with
  | 0 => .o
  | m + 1 => bif Nat.beq (Nat.mod m 2) 1 then .r (yN n (Nat.div m 2)) else .l (yN n (Nat.div m 2))
def eV (k : Nat) : zu := yN k k
inductive T (α : Type) where
 | leaf
 | node (l : T α) (v : Option α) (r : T α)
 deriving Inhabited
namespace T
variable {α : Type}
def getC : T α → zu → Option α
 | .leaf, _ => none
 | .node _ v _, .o => v
 | .node l _ _, .l p => l.getC p
 | .node _ _ r, .r p => r.getC p
def Rt {β : Type} (x : Option α) : zu → T α → (T α → β) → β
 | .o, .leaf, k => k (.node .leaf x .leaf)
 | .o, .node l _ r, k => k (.node l x r)
 | .l p, .leaf, k => Rt x p .leaf fun t => k (.node t none .leaf)
 | .l p, .node l v r, k => Rt x p l fun t => k (.node t v r)
 | .r p, .leaf, k => Rt x p .leaf fun t => k (.node .leaf none t)
 | .r p, .node l v r, k => Rt x p r fun t => k (.node l v t)
def get (t : T α) (p : zu) : Option α :=
 zu.rec (motive := fun _ => T α → Option α)
  (fun t => T.rec (motive := fun _ => Option α) none (fun _ v _ _ _ => v) t)
  (fun _ ih t => T.rec (motive := fun _ => Option α) none (fun l _ _ _ _ => ih l) t)
  (fun _ ih t => T.rec (motive := fun _ => Option α) none (fun _ _ r _ _ => ih r) t) p t
def setK {β : Type} (x : Option α) (p : zu) (t : T α) (k : T α → β) : β :=
 zu.rec (motive := fun _ => T α → (T α → β) → β)
  (fun t k => T.rec (motive := fun _ => β) (k (.node .leaf x .leaf)) (fun l _ r _ _ => k (.node l x r)) t)
  (fun _ ih t k => T.rec (motive := fun _ => β) (ih .leaf fun t => k (.node t none .leaf)) (fun l v r _ _ => ih l fun t => k (.node t v r)) t)
  (fun _ ih t k => T.rec (motive := fun _ => β) (ih .leaf fun t => k (.node .leaf none t)) (fun l v r _ _ => ih r fun t => k (.node l v t)) t) p t k
end T
structure nh where
 v : Nat
 lo : Nat
 cells : List V
 deriving Inhabited
structure qO where
 key : V
 val : V
 born : Nat
 deriving Inhabited
inductive bZ where
 | cells (elem : TypeId) (sb : Bool) (nextv : Nat) (vers : List nh)      -- sb: made of a text's bytes
 | ro (vers : List nh)      -- what came in: it is only read
 | map (es : List qO) (clock : Nat)
 | loop (st : LoopState) (pending : Option Code) (fn : FuncId) (tmps : T V) (params : Array Tmp) (assign body : Code) (dfr : Nat) (nt : Nat)
 | deferred
 | gone
 deriving Inhabited
structure S where
 h : T bZ
 next : Nat
 deriving Inhabited
def CR {β : Type} (n : Nat) (k : Nat → β) : β := match n with
 | 0 => k 0
 | m + 1 => k (m + 1)
def IS {β : Type} (n : Int) (k : Int → β) : β := match n with
 | .ofNat m => CR m fun m => k (.ofNat m)
 | .negSucc m => CR m fun m => k (.negSucc m)
def nq (k : IntKind) (n : Int) : V := IS n fun n => .int k n
def S.get (s : S) (f : Nat) : Option bZ := match s with | ⟨h, _⟩ => h.get (eV f)
def S.put (s : S) (f : Nat) (b : bZ) : S := match s with | ⟨h, n⟩ => h.setK (some b) (eV f) fun h => ⟨h, n⟩
def S.alloc (s : S) (b : bZ) : S := match s with | ⟨h, n⟩ => h.setK (some b) (eV n) fun h => CR (n + 1) fun n => ⟨h, n⟩
def cl (sb : Bool) (s : S) (elem : TypeId) (cs : List V) : Ad × S := (⟨s.next, 0, 0⟩, s.alloc (.cells elem sb 1 [⟨0, 0, cs⟩]))
def ci (s : S) (elem : TypeId) (cs : List V) : Ad × S := cl false s elem cs
def bw : List nh → Nat → Option nh
 | [], _ => none
 | u :: r, v => bif Nat.beq u.v v then some u else bw r v
def aW : Nat → List V → Option (List V)
 | 0, _ => some []
 | n + 1, x :: r => (aW n r).map (x :: ·)
 | _ + 1, [] => none
def loadCells (s : S) (a : Ad) (n : Nat) : Option (List V) :=
 match s.get a.f with
 | some (.cells _ _ _ vers) =>
  match bw vers a.v with
  | some u => bif Nat.ble u.lo a.c then aW n (u.cells.drop (a.c - u.lo)) else none
  | none => none
 | some (.ro vers) =>
  match bw vers a.v with
  | some u => bif Nat.ble u.lo a.c then aW n (u.cells.drop (a.c - u.lo)) else none
  | none => none
 | _ => none
def cO (s : S) (a : Ad) : Option V :=
 match s.get a.f with
 | some (.cells _ _ _ vers) =>
  match bw vers a.v with
  | some u => bif Nat.ble u.lo a.c then u.cells[a.c - u.lo]? else none
  | none => none
 | some (.ro vers) =>
  match bw vers a.v with
  | some u => bif Nat.ble u.lo a.c then u.cells[a.c - u.lo]? else none
  | none => none
 | _ => none
def bK : List V → Nat → List V → Option (List V)
 | cs, _, [] => some cs
 | x :: r, n + 1, new => (bK r n new).map (x :: ·)
 | _ :: r, 0, y :: new => (bK r 0 new).map (y :: ·)
 | [], _, _ :: _ => none
def V.one : V → Bool
 | .agg _ => false
 | .tuple _ => false
 | _ => true
def storeCells (s : S) (a : Ad) (new : List V) : Option S :=
 match s.get a.f with
 | some (.cells e sb nv vers) =>
  match bw vers a.v with
  | some u => bif Nat.ble u.lo a.c && new.all V.one then
   match bK u.cells (a.c - u.lo) new with
   | some cs => some (s.put a.f (.cells e sb nv [⟨u.v, u.lo, cs⟩]))
   | none => none
   else none
  | none => none
 | _ => none
section types
variable (P : Program)
def size (t : TypeId) : Option Nat := (P.info? t).map (·.size)
def zero (t : TypeId) : Option V := ((P.info? t).bind (·.zero)).bind V.ofConst
def fK (t : TypeId) : Option Bool := (P.underlying t).map fun | .struct _ => true | .array _ _ => true | _ => false
def loadVar (s : S) (t : TypeId) (a : Ad) : Option V :=
 match fK P t with
 | some true => (size P t).bind fun n => (loadCells s a n).map .agg
 | some false => cO s a
 | none => none
def storeVar (s : S) (t : TypeId) (a : Ad) (v : V) : Option S :=
 match size P t with
 | some n => bif Nat.beq v.cells.length n then storeCells s a v.cells else none
 | none => none
def ri (t : TypeId) (cs : List V) (off : Nat) : Option V :=
 match fK P t with
 | some true => (size P t).map fun n => .agg ((cs.drop off).take n)
 | some false => cs[off]?
 | none => none
end types
def iF : List Nat → List Nat → Option Bool
 | [], [] => some true
 | a :: x, b :: y => bif Nat.beq a b then iF x y else bif Nat.blt a 256 && Nat.blt b 256 then some false else none
 | _, _ => some false
def xU (l : List Nat) : List UInt8 := l.map UInt8.ofNat
def aU (j k : IntKind) : Bool := decide (j = k)
def pf (P : Program) (eq : TypeId → V → V → Option Bool) : List Field → List V → List V → Option Bool
 | [], _, _ => some true
 | f :: r, xs, ys => bif f.name == "_" then none else
  match ri P f.type xs f.offset, ri P f.type ys f.offset with
  | some a, some b => match eq f.type a b with
   | some true => pf P eq r xs ys
   | some false => some false
   | none => none
  | _, _ => none
def plainAt (s : S) (a : Ad) : Bool := match s.get a.f with
 | some (.cells _ sb _ vers) => !sb && (bw vers a.v).isSome
 | _ => false
def KT (ok : Ad → Bool) (a b : Ad) : Option Bool :=
 bif ok a && ok b then (bif Nat.beq a.f b.f then (bif Nat.beq a.v b.v then some (Nat.beq a.c b.c) else none) else some false) else none
def eb (P : Program) (ok : Ad → Bool) : Nat → TypeId → V → V → Option Bool
 | 0, _, _, _ => none
 | d + 1, t, x, y =>
  match P.underlying t with
  | some (.struct fs) =>
   match x, y with
   | .agg xs, .agg ys => bif P.stoodInHeld t then none else pf P (eb P ok d) fs.toList xs ys
   | _, _ => none
  | some (.interface _) =>
   match x, y with
   | .nilIface, .nilIface => some true
   | .nilIface, .iface _ _ => some false
   | .iface _ _, .nilIface => some false
   | .iface tx vx, .iface ty vy => bif Nat.beq tx ty then (match P.info? tx with | some i => bif i.comparable then eb P ok d tx vx vy else none | none => none) else some false
   | _, _ => none
  | some .bool => match x, y with | .bool a, .bool b => some (a == b) | _, _ => none
  | some (.int _) => match x, y with | .int j a, .int k b => bif aU j k then some (a == b) else none | _, _ => none
  | some .string => match x, y with | .str a, .str b => iF a b | _, _ => none
  | some (.pointer e) => match x, y with
   | .nilptr, .nilptr => some true
   | .nilptr, .ptr _ => some false
   | .ptr _, .nilptr => some false
   | .ptr a, .ptr b => match size P e with
    | some n => bif Nat.beq n 0 then none else KT ok a b
    | none => none
   | _, _ => none
  | some (.slice _) => match x, y with
   | .nilslice, .nilslice => some true
   | .nilslice, .slice .. => some false
   | .slice .., .nilslice => some false
   | _, _ => none
  | some (.map _ _) => match x, y with
   | .nilmap, .nilmap => some true
   | .nilmap, .map _ => some false
   | .map _, .nilmap => some false
   | _, _ => none
  | some (.func _ _ _) => match x, y with
   | .nilFunc, .nilFunc => some true
   | .nilFunc, .func .. => some false
   | .func .., .nilFunc => some false
   | _, _ => none
  | _ => none
def di (op : BinOp) (k : IntKind) (a b : Int) : Option V :=
 match op with
 | .add => some (nq k (k.wrap (a + b)))
 | .sub => some (nq k (k.wrap (a - b)))
 | .mul => some (nq k (k.wrap (a * b)))
 | .eql => some (.bool (a == b))
 | .neq => some (.bool (a != b))
 | .lss => some (.bool (decide (a < b)))
 | .leq => some (.bool (decide (a ≤ b)))
 | .gtr => some (.bool (decide (a > b)))
 | .geq => some (.bool (decide (a ≥ b)))
 | .quo => bif b == 0 then none else some (.int k (k.wrap (a.tdiv b)))
 | .rem => bif b == 0 then none else some (.int k (a.tmod b))
 | .and => some (.int k (k.wrap (BitVec.ofInt k.bits a &&& BitVec.ofInt k.bits b).toNat))
 | .or => some (.int k (k.wrap (BitVec.ofInt k.bits a ||| BitVec.ofInt k.bits b).toNat))
 | .xor => some (.int k (k.wrap (BitVec.ofInt k.bits a ^^^ BitVec.ofInt k.bits b).toNat))
 | .andNot => some (.int k (k.wrap (BitVec.ofInt k.bits a &&& ~~~ BitVec.ofInt k.bits b).toNat))
 | _ => none
def lG (op : BinOp) (a b : List Nat) : Option V :=
 match op with
 | .add => bif Nat.ble (a.length + b.length) 1000000 then some (.str (a ++ b)) else none
 | .eql => (iF a b).map .bool
 | .neq => (iF a b).map fun q => .bool (!q)
 | .lss => some (.bool (Op.bytesLess (xU a) (xU b)))
 | _ => none
def qZ (op : BinOp) (k : IntKind) (a : Int) (b : Int) : Option V := match b with
 | .ofNat n => match op with
  | .shl => some (nq k (k.wrap (a * 2 ^ (min n k.bits))))
  | .shr => some (nq k (a.fdiv (2 ^ (min n k.bits))))
  | _ => none
 | _ => none
def bH : BinOp → Bool
 | .shl | .shr => true
 | _ => false
def fJ : Operand → Bool
 | .const _ => true
 | _ => false
def eg : BinOp → Bool
 | .eql | .neq => true
 | _ => false
def bd (P : Program) (op : BinOp) (t : TypeId) (x y : Operand) (a b : V) : Bool :=
 bif eg op then match a, b with
  | .nilIface, .nilIface => fJ x || fJ y
  | .agg _, .agg _ => !(P.eqGuardType P.depth t)
  | _, _ => true
 else true
def bt (P : Program) (ok : Ad → Bool) (op : BinOp) (t : TypeId) (x y : V) : Option V :=
 match x, y with
 | .int j a, .int k b => bif bH op then qZ op j a b else bif aU j k then di op j a b else none
 | .str a, .str b => lG op a b
 | _, _ =>
  match op with
  | .eql => (eb P ok 20 t x y).map .bool
  | .neq => (eb P ok 20 t x y).map fun b => .bool (!b)
  | _ => none
def pu (op : UnOp) (x : V) : Option V :=
 match op, x with
 | .not, .bool b => some (.bool !b)
 | .neg, .int k n => some (.int k (k.wrap (0 - n)))
 | _, _ => none
def kR (place : Nat → Option (Nat × Nat)) (cs : List V) : List (Nat × V) → Option (List V)
 | [] => some cs
 | (i, v) :: r =>
  match place i with
  | none => none
  | some (off, n) => bif Nat.beq v.cells.length n && Nat.blt 0 n then (bK cs off v.cells).bind fun cs => kR place cs r else none
def kQ (f : Field) (P : Program) : Bool := match size P f.type with | some n => Nat.beq n 0 | none => true
def jy (v : V) : Option Nat := match v with | .int _ (.ofNat n) => some n | _ => none
def dZ (a : Ad) (n : Nat) : Ad := { a with c := a.c + n }
def bX (eq : V → V → Option Bool) (k : V) : List qO → Option (Option V)
 | [] => some none
 | ⟨key, val, _⟩ :: r => foundKey (eq k key) val (bX eq k r)
 where foundKey (b : Option Bool) (v : V) (r : Option (Option V)) : Option (Option V) := match b with
  | some true => some (some v)
  | some false => r
  | none => none
def cD (eq : V → V → Option Bool) (k x : V) : List qO → Option (Option (List qO))
 | [] => some none
 | ⟨key, val, born⟩ :: r => setKey (eq k key) ⟨key, val, born⟩ ⟨k, x, born⟩ r (cD eq k x r)
 where setKey (b : Option Bool) (e e' : qO) (r : List qO) (u : Option (Option (List qO))) : Option (Option (List qO)) := match b with
  | some true => some (some (e' :: r))
  | some false => match u with
   | some (some r') => some (some (e :: r'))
   | some none => some none
   | none => none
  | none => none
structure vJ where
 v : V
 recovered : Bool
 deriving Inhabited
inductive Md where
 | run
 | returning
 | panicking (c : List vJ)
 deriving Inhabited
inductive ei where
 | call (fn : Fn) (captured args : List V)
 | collected (r : Nat)
 deriving Inhabited
inductive XE where
 | returned (v : V)
 | panicked (c : List vJ)
 deriving Inhabited
def eval (t : T V) : Operand → Option V
 | .tmp i => t.get (eV i)
 | .const v => V.ofConst v
 | .global _ => none
 | .func f => some (.func (.func f) [] [])
def nz {β : Type} (t : T V) (d : Option Tmp) (v : Option V) (k : T V → β) : β := match d with
 | some i => t.setK v (eV i) k
 | none => k t
def ba (ops : Array Oper) (t : T V) (o : Oper) : Option Bool :=
 match o.guard with
 | none => some true
 | some (j, want) => match (ops[j]?).bind (·.dst) with
  | some d => match t.get (eV d) with
   | some (.bool b) => some (b == want)
   | some (.tuple _) => some false
   | _ => none
  | none => none
inductive Nx where
 | val (v : V) (s : S)
 | skip (s : S)
 | enter (f : FuncId) (args : List V) (s : S)
 | round (l : Nat) (args : List V) (s : S)
 | defer (d : ei) (s : S)
 | recover (s : S)
 | panic (v : V) (s : S)
def nQ (P : Program) (t : TypeId) (n : Nat) : Bool := match P.info? t with
 | some i => Nat.ble (i.bytes * n) 100000000000000
 | none => false
def lV (c : Nat) : V := .int .u8 (.ofNat (Nat.mod c 256))
def xc (s : S) (f c z len sz : Nat) (e : TypeId) (sb : Bool) (nv : Nat) (vers : List nh) (cells : List V) (n : Nat) : V × S :=
 (.slice ⟨f, nv, c⟩ z (len + n) none sz, s.put f (.cells e sb (nv + 1) (⟨nv, c, cells⟩ :: vers.filter fun u => Nat.ble (u.lo + u.cells.length) (c + len * sz))))
def rB (s : S) (elem : TypeId) (cells : List V) (len sz : Nat) : V × S := match ci s elem cells with
 | (b, s) => (.slice b 0 len none sz, s)
def Lq (s : S) (elem : TypeId) (a : Ad) (z len c sz : Nat) (old new : List V) (n : Nat) : Option (V × S) :=
 bif Nat.ble (len + n) c then
  match storeCells s (dZ a (len * sz)) new with
  | some s => some (.slice a z (len + n) (some c) sz, s)
  | none => none
 else some (rB s elem (old ++ new) (len + n) sz)
def Ac (s : S) (elem : TypeId) (a : Ad) (z len : Nat) (cap : Option Nat) (sz : Nat) (new : List V) (n : Nat) : Option (V × S) :=
 match s.get a.f with
 | some (.cells e sb nv vers) =>
  match bw vers a.v with
  | some u =>
   bif Nat.ble u.lo a.c then
    match aW (len * sz) (u.cells.drop (a.c - u.lo)) with
    | some old =>
     match cap with
     | some c => Lq s elem a z len c sz old new n
     | none => bif new.all V.one then some (xc s a.f a.c z len sz e sb nv vers (old ++ new) n) else none
    | none => none
   else none
  | none => none
 | _ => none
def lW (s : S) (sz : Nat) : V → Option (List V × Nat)
 | .nilslice => some ([], 0)
 | .slice b _ n _ sz' => bif Nat.beq sz' 0 then none else bif Nat.beq sz sz' then (match loadCells s b (n * sz) with | some l => some (l, n) | none => none) else none
 | .str l => bif Nat.beq sz 1 then some (l.map lV, l.length) else none
 | _ => none
def tn (P : Program) (elem : TypeId) (sz : Nat) : Bool :=
 match zero P elem with
 | some z => Nat.beq z.cells.length sz && Nat.blt 0 sz && nQ P elem 10000000
 | none => false
def oJ (s : S) (elem : TypeId) (sz : Nat) (x : V) : Option (List V × Nat) → Option (V × S)
 | some (l, n) =>
  bif Nat.ble n 1000000 then
   match x with
   | .nilslice => bif Nat.beq n 0 then some (.nilslice, s) else some (rB s elem l n sz)
   | .slice a z len cap sz' => bif Nat.beq sz sz' && Nat.ble len 1000000 then (bif Nat.beq n 0 then some (.slice a z len cap sz, s) else Ac s elem a z len cap sz l n) else none
   | _ => none
  else none
 | none => none
def noInt (P : Program) (t : TypeId) : Bool := match P.underlying t with
 | some (.int _) => false
 | some _ => true
 | none => false
def iZ (P : Program) (sT xT : TypeId) (s : S) (x y : V) : Option (V × S) :=
 match P.underlying sT with
 | some (.slice elem) => bif noInt P xT then
  match size P elem with
  | some sz => bif tn P elem sz then oJ s elem sz x (lW s sz y) else none
  | none => none
  else none
 | _ => none
def lM (P : Program) (t : TypeId) (s : S) (x : V) : Option V :=
 match P.underlying t, x with
 | some .string, .str l => some (nq .i64 l.length)
 | some (.array n _), _ => some (.int .i64 n)
 | some (.slice _), .slice _ _ n _ _ => some (nq .i64 n)
 | some (.slice _), .nilslice => some (.int .i64 0)
 | some (.map _ _), .nilmap => some (.int .i64 0)
 | some (.map _ _), .map r => match s.get r with
  | some (.map es _) => some (.int .i64 es.length)
  | _ => none
 | _, _ => none
def TV (x y : V) : Option V := match x, y with
 | .int j a, .int k b => bif aU j k then some (.int j (bif decide (b > a) then b else a)) else none
 | _, _ => none
def TU (x y : V) : Option V := match x, y with
 | .int j a, .int k b => bif aU j k then some (.int j (bif decide (b < a) then b else a)) else none
 | _, _ => none
def PP (f : V → V → Option V) : List V → Option V
 | [] => none
 | x :: r => r.foldlM f x
def cv (c : Nat) : List Nat → Nat → Option Nat
 | [], _ => none
 | x :: r, i => bif Nat.beq (Nat.mod x 256) c then some i else cv c r (i + 1)
def countByte (c : Nat) : List Nat → Nat
 | [] => 0
 | x :: r => bif Nat.beq (Nat.mod x 256) c then countByte c r + 1 else countByte c r
inductive zz where
 | indexByte
 | count
structure cx where
 P : Program
 ext : FuncId → Option zz
 orc : FuncId → List V → S → Option (V × S)
def gE (k : zz) (args : List V) : Option V :=
 match args with
 | [.str l, .int .u8 (.ofNat c)] =>
  match k with
  | .indexByte => some (match cv (Nat.mod c 256) l 0 with | some i => .int .i64 (.ofNat i) | none => .int .i64 (-1))
  | .count => some (nq .i64 (.ofNat (countByte (Nat.mod c 256) l)))
 | _ => none
def bp (s : S) (v : Option V) : Option Nx := match v with
 | some v => some (.val v s)
 | none => none
def fF (x : Option (V × S)) : Option Nx := match x with
 | some (v, s) => some (.val v s)
 | none => none
def gc (E : cx) (f : FuncId) (args : List V) (s : S) : Option Nx :=
 match E.P.funcs[f]? with
 | none => none
 | some fn => match fn.body with
  | none => match E.ext f with
   | some k => bp s (gE k args)
   | none => none
  | some _ => some (.enter f args s)
def Jg (s : S) (sz n : Nat) : V → Option (List V × Nat)
 | .nilslice => some ([], 0)
 | .slice b _ m _ sz' => bif Nat.beq sz' 0 then none else bif Nat.beq sz sz' then (match loadCells s b (Nat.min m n * sz) with | some l => some (l, Nat.min m n) | none => none) else none
 | .str l => some ((l.take (Nat.min l.length n)).map lV, Nat.min l.length n)
 | _ => none
def Qa (s : S) (a : Ad) : Option (List V × Nat) → Option Nx
 | some (l, k) => match storeCells s a l with
  | some s => some (.val (nq .i64 k) s)
  | none => none
 | none => none
def PZ (P : Program) (t : TypeId) (s : S) (x y : V) : Option Nx := match P.underlying t with
 | some (.slice el) => match x with
  | .slice a _ n _ sz => match size P el with
   | some sz' => bif Nat.beq sz sz' && Nat.blt 0 n then Qa s a (Jg s sz n y) else none
   | none => none
  | _ => none
 | _ => none
def Vg (P : Program) (t : TypeId) (x : V) : Option V := match P.underlying t with
 | some (.slice _) => match x with
  | .nilslice => some (.int .i64 0)
  | .slice _ _ _ (some c) _ => some (nq .i64 c)
  | _ => none
 | _ => none
def dS (P : Program) (b : Builtin) (ts : Array TypeId) (args : List V) (s : S) : Option Nx :=
 match b with
 | .append => match ts[0]? with
  | some a => match ts[1]? with
   | some b => match args with
    | [x, y] => fF (iZ P a b s x y)
    | _ => none
   | none => none
  | none => none
 | .len => match ts[0]? with
  | some a => match args with
   | [x] => bp s (lM P a s x)
   | _ => none
  | none => none
 | .max => bp s (PP TV args)
 | .min => bp s (PP TU args)
 | .recover => some (.recover s)
 | .copy => match ts[0]? with
  | some a => match args with
   | [x, y] => PZ P a s x y
   | _ => none
  | none => none
 | .cap => match ts[0]? with
  | some a => match args with
   | [x] => bp s (Vg P a x)
   | _ => none
  | none => none
 | .panic => match args with
  | [.iface t v] => some (.panic (.iface t v) s)
  | _ => none
 | _ => none
def nf (o : Option V) (d : Nat) : Option Nat := match o with
 | some v => jy v
 | none => some d
def mb (o : Option Nat) : Bool := match o with
 | some n => Nat.beq n 0
 | none => false
def qk (P : Program) (t : TypeId) (x : V) (lo hi mx : Option V) : Option V :=
 match P.underlying t with
 | some .string => match x, mx with
  | .str l, none =>
   let h := nf hi l.length
   let b := nf lo 0
   match b, h with
   | some b, some h => bif Nat.ble h l.length && Nat.ble b h then some (.str ((l.drop b).take (h - b))) else none
   | _, _ => none
  | _, _ => none
 | some (.slice e) =>
  match size P e with
  | some sz =>
   match x with
   | .nilslice =>
    bif mx.isSome && !hi.isSome then none else
    bif mb (nf lo 0) && mb (nf hi 0) && mb (nf mx 0) then some .nilslice else none
   | .slice a z len cap sz' =>
    bif Nat.beq sz' 0 then none else
    bif Nat.beq sz sz' && !(mx.isSome && !hi.isSome) then
    let h := nf hi len
    let b := nf lo 0
    match b, h with
    | some b, some h =>
     match mx with
     | none =>
      match cap with
      | some c => bif Nat.ble h c && Nat.ble b h then
       (bif Nat.beq c b then some (.slice a 0 (h - b) (some 0) sz) else some (.slice (dZ a (b * sz)) 0 (h - b) (some (c - b)) sz)) else none
      | none => bif Nat.ble h len && Nat.ble b h then
       (bif Nat.beq b 0 then some (.slice a z h none sz) else some (.slice (dZ a (b * sz)) a.c (h - b) none sz)) else none
     | some m => match jy m with
      | some m =>
       bif Nat.ble m len && Nat.ble h m && Nat.ble b h then
        (bif Nat.beq m b then (bif cap.isSome || Nat.blt 0 len || Nat.beq z a.c then some (.slice a 0 (h - b) (some 0) sz) else none) else some (.slice (dZ a (b * sz)) 0 (h - b) (some (m - b)) sz))
       else none
      | none => none
    | _, _ => none
    else none
   | _ => none
  | none => none
 | _ => none
def lU : List V → Option (List Nat)
 | [] => some []
 | .int .u8 (.ofNat n) :: r => (lU r).map (n :: ·)
 | _ => none
def fX (P : Program) (el : TypeId) : Bool := match P.underlying el with
 | some (.int .u8) => true
 | _ => false
def zC (P : Program) (s : S) (ds : TypeDesc) (x : V) : Option (V × S) := match x with
 | .int _ n => some (.str ((Utf8.encode n).data.toList.map UInt8.toNat), s)
 | .str l => some (.str l, s)
 | .nilslice => match ds with
  | .slice el => bif fX P el then some (.str [], s) else none
  | _ => none
 | .slice a _ n _ sz => match ds with
  | .slice el => bif fX P el then (bif Nat.beq sz 0 then none else match (loadCells s a n).bind lU with | some l => some (.str l, s) | none => none) else none
  | _ => none
 | _ => none
def oO (P : Program) (s : S) (ds : TypeDesc) (el : TypeId) (x : V) : Option (V × S) := match x with
 | .str l => match ds with
  | .string => bif fX P el then (match cl true s el (l.map lV) with | (a, s) => some (.slice a 0 l.length none 1, s)) else none
  | _ => none
 | _ => none
def jm (P : Program) (s : S) (src dst : TypeId) (x : V) : Option (V × S) :=
 match P.underlying src with
 | some ds => match P.underlying dst with
  | some (.int k) => match x with
   | .int _ n => some (nq k (k.wrap n), s)
   | _ => none
  | some .string => zC P s ds x
  | some (.slice el) => oO P s ds el x
  | _ => none
 | none => none
def wz (s : Option S) : Option Nx := match s with
 | some s => some (.skip s)
 | none => none
def tZ (x : Ad × S) : Option Nx := match x with
 | (a, s) => some (.val (.ptr a) s)
def evals (t : T V) : List Operand → Option (List V)
 | [] => some []
 | x :: r => match eval t x with
  | some v => match evals t r with
   | some l => some (v :: l)
   | none => none
  | none => none
def dW (t : T V) : List (Nat × Operand) → Option (List (Nat × V))
 | [] => some []
 | (i, x) :: r => match eval t x with
  | some v => match dW t r with
   | some l => some ((i, v) :: l)
   | none => none
  | none => none
def gX (t : T V) : Option Operand → Option (Option V)
 | none => some none
 | some x => match eval t x with
  | some v => some (some v)
  | none => none
def gK (t : T V) (s : S) (c a b : Operand) : Option Nx := match eval t c with
 | some (.bool q) => bp s (eval t (bif q then a else b))
 | _ => none
def fe (P : Program) (s : S) (elem : TypeId) : Option Nx := match zero P elem with
 | some z => tZ (ci s elem z.cells)
 | none => none
def oF (s : S) (elem : TypeId) (x : Option V) : Option Nx := match x with
 | some z => tZ (ci s elem z.cells)
 | none => none
def oo (P : Program) (fs : Array Field) (i : Nat) : Option (Nat × Nat) := match fs[i]? with
 | some f => match size P f.type with
  | some n => some (f.offset, n)
  | none => none
 | none => none
def Hc (x : Option (List V)) : Option V := match x with
 | some l => some (.agg l)
 | none => none
def gF (P : Program) (ty : TypeId) (l : Option (List (Nat × V))) : Option V :=
 match zero P ty with
 | some z => match l with
  | some l => match P.underlying ty with
   | some (.struct fs) => bif fs.toList.all (fun f => (size P f.type).isSome) then Hc (kR (oo P fs) z.cells l) else none
   | some (.array _ el) => match size P el with
    | some n => Hc (kR (fun i => some (i * n, n)) z.cells l)
    | none => none
   | _ => none
  | none => none
 | none => none
def lH (el : TypeId) (len n : Nat) (s : S) (cs : Option (List V)) : Option Nx := match cs with
 | some cs => match ci s el cs with
  | (a, s) => some (.val (.slice a 0 len (some len) n) s)
 | none => none
def bz (P : Program) (s : S) (ty : TypeId) (len : Nat) (l : Option (List (Nat × V))) : Option Nx :=
 match P.underlying ty with
 | some (.slice el) => match l with
  | some l => match zero P el with
   | some z => match size P el with
    | some n => bif Nat.ble (len * n) 10000 && !(Nat.beq n 0) && Nat.beq z.cells.length n then lH el len n s (kR (fun i => some (i * n, n)) (List.replicate len z.cells).flatten l) else none
    | none => none
   | none => none
  | none => none
 | _ => none
def eQ (P : Program) (s : S) (ty : TypeId) (x : Option V) : Option Nx := match x with
 | some (.ptr a) => bp s (loadVar P s ty a)
 | _ => none
def kU (P : Program) (s : S) (ty : TypeId) (x y : Option V) : Option Nx := match x with
 | some (.ptr a) => match y with
  | some v => wz (storeVar P s ty a v)
  | none => none
 | _ => none
def fM (x : Option V) : Option V := match x with
 | some (.ptr a) => some (.ptr a)
 | some (.func fn fi ca) => match fn with
  | .func f => some (.func (.func f) fi ca)
  | .yield f => some (.func (.yield f) fi ca)
  | _ => none
 | _ => none
def cw (P : Program) (s : S) (op : BinOp) (ty : TypeId) (ox oy : Operand) (x y : Option V) : Option V := match x with
 | some a => match y with
  | some b => bif bd P op ty ox oy a b then bt P (plainAt s) op ty a b else none
  | none => none
 | none => none
def Nj (op : UnOp) (x : Option V) : Option V := match x with
 | some a => pu op a
 | none => none
def fN (P : Program) (s : S) (src dst : TypeId) (x : Option V) : Option Nx := match x with
 | some a => fF (jm P s src dst a)
 | none => none
def ft (P : Program) (ty : TypeId) (x : Option V) : Option V := match P.underlying ty with
 | some (.interface _) => none
 | some _ => match x with
  | some v => some (.iface ty v)
  | none => none
 | none => none
def Lf (fn : Fn) (a b : Option (List V)) : Option V := match a with
 | some a => match b with
  | some b => some (.func fn a b)
  | none => none
 | none => none
def oC (fn : Fn) (a b : Option (List V)) : Option V := match fn with
 | .yield _ => none
 | fn => Lf fn a b
def fq (P : Program) (s : S) (ty : TypeId) (l c : Option Nat) : Option Nx := match P.underlying ty with
 | some (.slice el) => match l with
  | some l => match c with
   | some c => match zero P el with
    | some z => match size P el with
     | some n => bif Nat.ble l c && Nat.ble c 2199023255552 && !(Nat.beq n 0) && Nat.beq z.cells.length n && nQ P el c then
      match ci s el (List.replicate c z.cells).flatten with
      | (a, s) => some (.val (.slice a 0 l (some c) n) s)
      else none
     | none => none
    | none => none
   | none => none
  | none => none
 | _ => none
def fu (x : Option V) : Option Nat := match x with
 | some v => jy v
 | none => none
def iA (P : Program) (ty : TypeId) (x : Option V) (lo hi mx : Option (Option V)) : Option V := match x with
 | some x => match lo with
  | some lo => match hi with
   | some hi => match mx with
    | some mx => qk P ty x lo hi mx
    | none => none
   | none => none
  | none => none
 | none => none
def aQ (P : Program) (ty : TypeId) (x : Option V) (f : Nat) : Option V := match P.underlying ty with
 | some (.struct fs) => match x with
  | some (.ptr a) => match fs[f]? with
   | some fd => bif kQ fd P then none else some (.ptr (dZ a fd.offset))
   | none => none
  | _ => none
 | _ => none
def jL (P : Program) (ty : TypeId) (x : Option V) (f : Nat) : Option V := match P.underlying ty with
 | some (.struct fs) => match x with
  | some (.agg cs) => match fs[f]? with
   | some fd => ri P fd.type cs fd.offset
   | none => none
  | _ => none
 | _ => none
def bJ (P : Program) (ty : TypeId) (x : Option V) (i : Option Nat) : Option V := match i with
 | some i => match P.underlying ty with
  | some (.slice el) => match x with
   | some (.slice a _ len _ sz) => match size P el with
    | some n => bif Nat.beq n sz && Nat.blt i len then some (.ptr (dZ a (i * n))) else none
    | none => none
   | _ => none
  | some (.array len el) => match x with
   | some (.ptr a) => match size P el with
    | some n => bif Nat.blt i len then some (.ptr (dZ a (i * n))) else none
    | none => none
   | _ => none
  | _ => none
 | none => none
def kX (P : Program) (ty : TypeId) (x : Option V) (i : Option Nat) : Option V := match i with
 | some i => match P.underlying ty with
  | some .string => match x with
   | some (.str l) => match l[i]? with
    | some c => some (lV c)
    | none => none
   | _ => none
  | some (.array len el) => match x with
   | some (.agg cs) => match size P el with
    | some n => bif Nat.blt i len then ri P el cs (i * n) else none
    | none => none
   | _ => none
  | _ => none
 | none => none
def oz (s : S) (m : V) : Option (List qO) := match m with
 | .nilmap => some []
 | .map r => match s.get r with
  | some (.map es _) => some es
  | _ => none
 | _ => none
def rE (P : Program) (el : TypeId) (ok : Bool) (x : Option (Option V)) : Option V := match x with
 | some (some v) => some (bif ok then .tuple [v, .bool true] else v)
 | some none => match zero P el with
  | some z => some (bif ok then .tuple [z, .bool false] else z)
  | none => none
 | none => none
def fk (P : Program) (t : TypeId) : Bool := match P.underlying t with
 | some (.int _) => true
 | some .string => true
 | some .bool => true
 | some (.pointer _) => true
 | _ => false
def cp (P : Program) (s : S) (ty : TypeId) (m k : Option V) (ok : Bool) : Option V := match P.underlying ty with
 | some (.map kt el) => match m with
  | some m => match k with
   | some k => match oz s m with
    | some es => bif fk P kt then rE P el ok (bX (eb P (plainAt s) 20 kt) k es) else none
    | none => none
   | none => none
  | none => none
 | _ => none
def qT (s : S) (r : Nat) (k x : V) (es : List qO) (clock : Nat) (u : Option (Option (List qO))) : Option Nx := match u with
 | some (some es) => some (.skip (s.put r (.map es clock)))
 | some none => some (.skip (s.put r (.map (es ++ [⟨k, x, clock⟩]) (clock + 1))))
 | none => none
def dJ (P : Program) (s : S) (ty : TypeId) (m k x : Option V) : Option Nx := match m with
 | some (.map r) => match k with
  | some k => match x with
   | some x => match P.underlying ty with
    | some (.map kt _) => match s.get r with
     | some (.map es clock) => bif fk P kt then qT s r k x es clock (cD (eb P (plainAt s) 20 kt) k x es) else none
     | _ => none
    | _ => none
   | none => none
  | none => none
 | _ => none
def iN (P : Program) (ty : TypeId) (ok : Bool) : Option V := bif ok then match zero P ty with
 | some z => some (.tuple [z, .bool false])
 | none => none
 else none
def gv (P : Program) (x : Option V) (ty : TypeId) (ok : Bool) : Option V := match P.underlying ty with
 | some (.interface _) => none
 | some _ => match x with
  | some .nilIface => iN P ty ok
  | some (.iface t v) => bif Nat.beq t ty then some (bif ok then .tuple [v, .bool true] else v) else iN P ty ok
  | _ => none
 | none => none
def fZ (x : Option V) (i : Nat) : Option V := match x with
 | some (.tuple vs) => vs[i]?
 | _ => none
def fA (E : cx) (s : S) (args : List V) (f : Option V) : Option Nx := match f with
 | some (.func fn first cap) => match fn with
  | .func g => gc E g (first ++ (args ++ cap)) s
  | .yield l => some (.round l (first ++ args) s)
  | _ => none
 | _ => none
def bB (E : cx) (t : T V) (s : S) (ts : Array TypeId) (args : Option (List V)) (c : Callee) : Option Nx := match args with
 | some args => match c with
  | .builtin b => dS E.P b ts args s
  | .value f => fA E s args (eval t f)
  | .invoke _ _ => none
 | none => none
def Jd (s : S) (args : List V) (f : Option V) : Option Nx := match f with
 | some (.func fn first cap) => some (.defer (.call fn cap (first ++ args)) s)
 | _ => none
def rR (t : T V) (s : S) (args : Option (List V)) (c : Callee) : Option Nx := match args with
 | some args => match c with
  | .value f => Jd s args (eval t f)
  | _ => none
 | none => none
def rM (s : S) (x : Option V) : Option Nx := match x with
 | some (.iface t v) => some (.panic (.iface t v) s)
 | _ => none
def aG : Op → cx → T V → S → Option Nx
 | .move x, _, t, s => bp s (eval t x)
 | .assign x, _, t, s => bp s (eval t x)
 | .pick c a b, _, t, s => gK t s c a b
 | .alloc elem, E, _, s => fe E.P s elem
 | .box elem x, _, t, s => oF s elem (eval t x)
 | .build ty parts, E, t, s => bp s (gF E.P ty (dW t parts.toList))
 | .buildSlice ty len parts, E, t, s => bz E.P s ty len (dW t parts.toList)
 | .load ty x, E, t, s => eQ E.P s ty (eval t x)
 | .store ty x y, E, t, s => kU E.P s ty (eval t x) (eval t y)
 | .nilCheck x, _, t, s => bp s (fM (eval t x))
 | .binOp op ty x y _, E, t, s => bp s (cw E.P s op ty x y (eval t x) (eval t y))
 | .unOp op _ x, _, t, s => bp s (Nj op (eval t x))
 | .convert src dst x, E, t, s => fN E.P s src dst (eval t x)
 | .makeInterface ty x, E, t, s => bp s (ft E.P ty (eval t x))
 | .makeFunc fn first cap, _, t, s => bp s (oC fn (evals t first.toList) (evals t cap.toList))
 | .makeMap _ none, _, _, s => some (.val (.map s.next) (s.alloc (.map [] 0)))
 | .makeSlice ty l c, E, t, s => fq E.P s ty (fu (eval t l)) (fu (eval t c))
 | .slice ty x lo hi mx, E, t, s => bp s (iA E.P ty (eval t x) (gX t lo) (gX t hi) (gX t mx))
 | .fieldAddr ty x f, E, t, s => bp s (aQ E.P ty (eval t x) f)
 | .field ty x f, E, t, s => bp s (jL E.P ty (eval t x) f)
 | .indexAddr ty x i, E, t, s => bp s (bJ E.P ty (eval t x) (fu (eval t i)))
 | .index ty x i, E, t, s => bp s (kX E.P ty (eval t x) (fu (eval t i)))
 | .lookup ty x k ok, E, t, s => bp s (cp E.P s ty (eval t x) (eval t k) ok)
 | .mapUpdate ty m k x, E, t, s => dJ E.P s ty (eval t m) (eval t k) (eval t x)
 | .insert ty m k x, E, t, s => dJ E.P s ty (eval t m) (eval t k) (eval t x)
 | .typeAssert x _ ty ok, E, t, s => bp s (gv E.P (eval t x) ty ok)
 | .extract x i, _, t, s => bp s (fZ (eval t x) i)
 | .call c, E, t, s => bB E t s c.argTypes (evals t c.args.toList) c.callee
 | .defer c, _, t, s => rR t s (evals t c.args.toList) c.callee
 | .panic x, _, t, s => rM s (eval t x)
 | _, _, _, _ => none
def em (E : cx) (t : T V) (s : S) (o : Oper) : Option Nx := aG o.op E t s
def gD (P : Program) (t : T V) (s : S) : ResultVar → Option V
 | .tmp i => t.get (eV i)
 | .cell a ty => match t.get (eV a) with
  | some (.ptr a) => loadVar P s ty a
  | _ => none
def fW (P : Program) (t : T V) (s : S) : List ResultVar → Option (List V)
 | [] => some []
 | x :: r => match gD P t s x with
  | some v => match fW P t s r with
   | some l => some (v :: l)
   | none => none
  | none => none
def rj : List V → V
 | [v] => v
 | vs => .tuple vs
def de (P : Program) (fn : Func) (t : T V) (s : S) : Option V := match fW P t s fn.results.toList with
 | some l => some (rj l)
 | none => none
def kI : Md → Md
 | .panicking (⟨_, true⟩ :: _) => .returning
 | m => m
def Cr (m : Md) (c : List vJ) : Md := match m with
 | .panicking old => .panicking (c ++ old)
 | _ => .panicking c
def aO {β : Type} : List V → Nat → T V → (T V → β) → β
 | [], _, t, k => k t
 | x :: r, i, t, k => t.setK (some x) (eV i) fun t => aO r (i + 1) t k
structure dz where
 e : XE
 up : Option Md
 s : S
abbrev Go := T V → List Item → List ei → Md → Option Md → Option Nat → S → Option dz
def js (go : Go) (t : T V) (ds : List ei) (up : Option Md) (rd : Option Nat) (s : S) (jump : Option Code) : Option dz :=
 match rd with
 | none => match jump with
  | none => go t [] ds .returning up rd s
  | some .ret => go t [] ds .returning up rd s
  | _ => none
 | some l => match s.get l with
  | some (.loop _ _ f t ps a b d nt) =>
   some ⟨.returned (.bool jump.isNone), up, s.put l (.loop (bif jump.isNone then .ready else .done) jump f t ps a b d nt)⟩
  | _ => none
def dl {β : Type} : T V → List Tmp → List V → (T V → β) → β
 | t, p :: ps, x :: xs, k => t.setK (some x) (eV p) fun t => dl t ps xs k
 | t, _, _, k => k t
inductive fQ where
 | on (t : T V) (ds : List ei) (up : Option Md) (s : S)
 | panicked (c : List vJ) (t : T V) (ds : List ei) (up : Option Md) (s : S)
abbrev fO := FuncId → List V → Option Md → S → Option dz
abbrev qK := Nat → List V → S → Option dz
abbrev RK := T V → List ei → Option Md → S → Option fQ
def eZ (d : Option Tmp) (t : T V) (ds : List ei) (up : Option Md) (k : RK) : Option dz → Option fQ
 | some ⟨.returned v, _, s⟩ => nz t d (some v) fun t => k t ds up s
 | some ⟨.panicked c, _, s⟩ => some (.panicked c t ds up s)
 | none => none
def recovered (d : Option Tmp) (t : T V) (ds : List ei) (s : S) (k : RK) : Option Md → Option fQ
 | some (.panicking (⟨v, false⟩ :: older)) => nz t d (some v) fun t => k t ds (some (.panicking (⟨v, true⟩ :: older))) s
 | some m => nz t d (some .nilIface) fun t => k t ds (some m) s
 | none => none
def et (rec : fO) (recR : qK) (rd : Option Nat) (d : Option Tmp) (t : T V) (ds : List ei) (up : Option Md) (k : RK) : Option Nx → Option fQ
 | some (.val v s) => nz t d (some v) fun t => k t ds up s
 | some (.skip s) => nz t d (some V.undef) fun t => k t ds up s
 | some (.enter f args s) => eZ d t ds up k (rec f args none s)
 | some (.round l args s) => eZ d t ds up k (recR l args s)
 | some (.defer df s) => bif rd.isSome then none else nz t d (some V.undef) fun t => k t (df :: ds) up s
 | some (.recover s) => recovered d t ds s k up
 | some (.panic v s) => some (.panicked [⟨v, false⟩] t ds up s)
 | none => none
def mQ (E : cx) (rec : fO) (recR : qK) (rd : Option Nat) (o : Oper) (t : T V) (ds : List ei) (up : Option Md) (s : S) (k : RK) : Option Bool → Option fQ
 | some true => et rec recR rd o.dst t ds up k (em E t s o)
 | some false => nz t o.dst (some V.undef) fun t => k t ds up s
 | none => none
def ij (E : cx) (ops : Array Oper) (rec : fO) (recR : qK) (rd : Option Nat) : List Oper → RK
 | [] => fun t ds up s => some (.on t ds up s)
 | o :: r => fun t ds up s => mQ E rec recR rd o t ds up s (ij E ops rec recR rd r) (ba ops t o)
def aC (P : Program) : Op → Nat
 | .load .. | .lookup .. => 1
 | .binOp op .. => bif eg op then 1 else 0
 | .alloc _ | .box .. | .buildSlice .. | .makeMap .. | .makeSlice .. => 2
 | .convert _ dst _ => match P.underlying dst with
  | some (.slice _) => 2
  | some .string => 1
  | _ => 0
 | .move _ | .assign _ | .pick .. | .build .. | .nilCheck _ | .unOp .. | .makeInterface .. | .makeFunc .. | .slice .. | .fieldAddr .. | .field .. | .indexAddr .. | .index .. | .typeAssert .. | .extract .. => 0
 | .call c => match c.callee with
  | .builtin .len | .builtin .cap | .builtin .max | .builtin .min => 1
  | _ => 3
 | _ => 3
def qt (o : Oper) (acc : List Nat) : Nat :=
 o.after.toList.foldl (fun s e => bif Region.binds .any e then Nat.lor s (Nat.lor (Nat.pow 2 e.on) (acc.getD e.on 0)) else s) 0
def kP : List Oper → List Nat → List Nat
 | [], acc => acc
 | o :: r, acc => kP r (acc ++ [qt o acc])
def sees (o : Oper) : List Tmp := o.op.operands.toList.filterMap fun | .tmp t => some t | _ => none
def Je (ms : List Nat) (l : List (Nat × Oper)) : Bool :=
 l.all fun (i, o) =>
  (o.after.toList.all fun e => !(Region.binds .any e) || Nat.blt e.on i) &&
  (match o.guard with | some (g, _) => (ms.getD i 0).testBit g | none => true) &&
  l.all fun (j, q) => Nat.beq i j || match q.dst with
   | none => true
   | some d => !(o.dst == some d) && (!((sees o).contains d) || (ms.getD i 0).testBit j || (ms.getD j 0).testBit i)
def Aq (ms : List Nat) : List Nat → Bool
 | a :: b :: r => (ms.getD b 0).testBit a && Aq ms (b :: r)
 | _ => true
def rJ (P : Program) (l : List (Nat × Oper)) : List (Nat × Oper) := l.filter fun (_, o) => Nat.beq (aC P o.op) 3
def bn : List V → List V → Bool
 | [], [] => true
 | x :: r, y :: q => sameV x y && bn r q
 | _, _ => false
 where sameV : V → V → Bool
  | .bool a, .bool b => a == b
  | .int j a, .int k b => j == k && a == b
  | .str a, .str b => a == b
  | .ptr a, .ptr b => Nat.beq a.f b.f && Nat.beq a.v b.v && Nat.beq a.c b.c
  | .nilptr, .nilptr => true
  | .slice a z n c sz, .slice b y m d sy => Nat.beq a.f b.f && Nat.beq a.v b.v && Nat.beq a.c b.c && Nat.beq z y && Nat.beq n m && c == d && Nat.beq sz sy
  | .nilslice, .nilslice => true
  | .map a, .map b => Nat.beq a b
  | .nilmap, .nilmap => true
  | .nilFunc, .nilFunc => true
  | .nilIface, .nilIface => true
  | .func f a b, .func g c d => decide (f = g) && bn a c && bn b d
  | .iface t v, .iface u w => Nat.beq t u && sameV v w
  | .agg a, .agg b => bn a b
  | .tuple a, .tuple b => bn a b
  | .atom a, .atom b => Nat.beq a b
  | _, _ => false
def dK (E : cx) (t : T V) (o : Oper) : List S → Option V
 | [] => none
 | [s] => match em E t s o with
  | some (.val v _) => some v
  | _ => none
 | s :: r => match em E t s o with
  | some (.val v _) => match dK E t o r with
   | some w => bif bn [v] [w] then some v else none
   | none => none
  | _ => none
def oj (m : Nat) : List (Nat × S) → List S
 | [] => []
 | (e, s) :: r => s :: (bif m.testBit e then [] else oj m r)
def qR (s : S) : Option Nx → Option (V × S)
 | some (.val v _) => some (v, s)
 | _ => none
def qS : Option Nx → Option (V × S)
 | some (.val v s) => some (v, s)
 | _ => none
def kf (s : S) : Option V → Option (V × S)
 | some v => some (v, s)
 | none => none
def CU (E : cx) (hist : List (Nat × S)) (m : Nat) (t : T V) (s : S) (o : Oper) : Nat → Option (V × S)
 | 0 => qR s (em E t s o)
 | 1 => kf s (dK E t o (oj m hist))
 | 2 => qS (em E t s o)
 | _ => none
def jS (E : cx) (hist : List (Nat × S)) (m : Nat) (t : T V) (s : S) (o : Oper) : Option Bool → Option (V × S)
 | some true => CU E hist m t s o (aC E.P o.op)
 | some false => some (V.undef, s)
 | none => none
def dH (E : cx) (ops : Array Oper) (ms : List Nat) (effs : Nat) (hist : List (Nat × S)) (m : Nat) : List (Nat × Oper) → Nat → T V → S → Option (Nat × T V × S)
 | [], done, t, s => some (done, t, s)
 | (i, o) :: r, done, t, s =>
  bif !(m.testBit i) || done.testBit i then dH E ops ms effs hist m r done t s
  else bif effs.testBit i then none
  else match jS E hist (ms.getD i 0) t s o (ba ops t o) with
   | some (v, s) => nz t o.dst (some v) fun t => dH E ops ms effs hist m r (Nat.lor done (Nat.pow 2 i)) t s
   | none => none
def oA : Option dz → Option (V × S)
 | some ⟨.returned v, _, s⟩ => some (v, s)
 | _ => none
def kT (rec : fO) : Option Nx → Option (V × S)
 | some (.val v s) => some (v, s)
 | some (.skip s) => some (V.undef, s)
 | some (.enter f args s) => oA (rec f args none s)
 | _ => none
def dY (E : cx) (rec : fO) (t : T V) (s : S) (o : Oper) : Option Bool → Option (V × S)
 | some true => kT rec (em E t s o)
 | some false => some (V.undef, s)
 | none => none
inductive NK where
 | val (v : V) (s : S)
 | pan (c : List vJ) (s : S)
def rK : Option dz → Option NK
 | some ⟨.returned v, _, s⟩ => some (.val v s)
 | some ⟨.panicked c, _, s⟩ => some (.pan c s)
 | none => none
def qC (rec : fO) : Option Nx → Option NK
 | some (.val v s) => some (.val v s)
 | some (.skip s) => some (.val V.undef s)
 | some (.enter f args s) => rK (rec f args none s)
 | some (.panic v s) => some (.pan [⟨v, false⟩] s)
 | _ => none
def lB (E : cx) (rec : fO) (t : T V) (s : S) (o : Oper) : Option Bool → Option NK
 | some true => qC rec (em E t s o)
 | some false => some (.val V.undef s)
 | none => none
def eP (ms : List Nat) (i : Nat) : List (Nat × Oper) → Nat
 | [] => 0
 | (k, _) :: r => bif (ms.getD k 0).testBit i || Nat.beq k i then eP ms i r else Nat.lor (Nat.pow 2 k) (eP ms i r)
def gt (done : Nat) : List (Nat × Oper) → T V → T V
 | [], t => t
 | (k, o) :: r, t => bif done.testBit k then gt done r t else match o.dst with
  | some d => t.setK none (eV d) fun t => gt done r t
  | none => gt done r t
def Pf (ds : List ei) (up : Option Md) (done : Nat) (all : List (Nat × Oper)) (t : T V) (c : List vJ) (s : S) : Option (Nat × T V × S) → Option fQ
 | some _ => some (.panicked c (gt done all t) ds up s)
 | none => none
def ik (E : cx) (ops : Array Oper) (ms : List Nat) (effs : Nat) (all : List (Nat × Oper)) (rec : fO) (ds : List ei) (up : Option Md) :
 List (Nat × Oper) → List (Nat × S) → Nat → T V → S → Option fQ
 | [], hist, done, t, s =>
  match dH E ops ms effs hist (Nat.pow 2 ops.size - 1) all done t s with
  | some (_, t, s) => some (.on t ds up s)
  | none => none
 | (i, o) :: r, hist, done, t, s =>
  match dH E ops ms effs hist (ms.getD i 0) all done t s with
  | some (done, t, s) =>
   match lB E rec t s o (ba ops t o) with
   | some (.val v s') => bif Nat.ble s.next s'.next && !(done.testBit i) && effs.testBit i then nz t o.dst (some v) fun t => ik E ops ms effs all rec ds up r ((i, s') :: hist) (Nat.lor done (Nat.pow 2 i)) t s' else none
   | some (.pan c s') => bif done.testBit i then none else Pf ds up done all t c s' (dH E ops ms effs hist (eP ms i all) all done t s)
   | none => none
  | none => none
def dN : List Oper → Nat → List (Nat × Oper)
 | [], _ => []
 | o :: r, i => (i, o) :: dN r (i + 1)
structure Vq where
 ms : List Nat
 all : List (Nat × Oper)
 effs : List (Nat × Oper)
 mask : Nat
def Pe (P : Program) (ops : Array Oper) : Option Vq :=
 let l := dN ops.toList 0
 let ms := kP ops.toList []
 let es := rJ P l
 bif Je ms l && Aq ms (es.map (·.1)) then some ⟨ms, l, es, es.foldl (fun s x => Nat.lor s (Nat.pow 2 x.1)) 0⟩ else none
def il (E : cx) (ops : Array Oper) (rec : fO) (_recR : qK) (t : T V) (ds : List ei) (up : Option Md) (s : S) : Option fQ :=
 match Pe E.P ops with
 | some ⟨ms, l, es, mask⟩ => ik E ops ms mask l rec ds up es [(ops.size, s)] 0 t s
 | none => none
abbrev Tn := cx → FuncId → Func → Go → fO → qK → List Item → T V → List ei → Option Md → Option Nat → S → Option dz
def xw (go : Go) (k : List Item) (t : T V) (ds : List ei) (up : Option Md) (rd : Option Nat) (s : S) (a b : Code) : Option V → Option dz
 | some (.bool q) => go t (.code (bif q then a else b) :: k) ds .run up rd s
 | _ => none
def qx (go : Go) (t : T V) (ds : List ei) (up : Option Md) (rd : Option Nat) (s : S) (c : Code) : Option (List Item) → Option dz
 | some k => go t k ds .run up rd s
 | none => js go t ds up rd s (some c)
def jd (go : Go) (k : List Item) (rd : Option Nat) : Option fQ → Option dz
 | some (.on t ds up s) => go t k ds .run up rd s
 | some (.panicked c t ds up s) => go t k ds (.panicking c) up rd s
 | none => none
def ry (go : Go) (k : List Item) (t : T V) (ds : List ei) (up : Option Md) (rd : Option Nat) (d l : Nat) (s : S) : Option bZ → Option dz
 | some (.loop st pend f' t' ps' a' b' d' nt) => match st with
  | .busy => none
  | _ => go t ((pend.map Item.code).toList ++ k) (.collected d :: ds) .run up rd (s.put l (.loop .exhausted pend f' t' ps' a' b' d' nt))
 | _ => none
def kK (go : Go) (k : List Item) (t : T V) (ds : List ei) (up : Option Md) (rd : Option Nat) (d l : Nat) : Option dz → Option dz
 | some ⟨.returned _, _, s⟩ => ry go k t ds up rd d l s (s.get l)
 | some ⟨.panicked c, _, s⟩ => go t k (.collected d :: ds) (.panicking c) up rd s
 | none => none
def iK (f : FuncId) (nt : Nat) (go : Go) (rec : fO) (k : List Item) (t : T V) (ds : List ei) (up : Option Md) (rd : Option Nat) (s : S)
 (ps : Array Tmp) (assign body : Code) : Option V → Option dz
 | some (.func fn first cap) => match fn with
  | .func g => match rd with
   | none =>
    let d := s.next
    let s := s.alloc .deferred
    let l := s.next
    kK go k t ds up rd d l (rec g (first ++ ([.func (.yield l) [] []] ++ cap)) none (s.alloc (.loop .ready none f t ps assign body d nt)))
   | some _ => none
  | _ => none
 | _ => none
def gY (ops : Array Oper) (n : Nat) : Bool := ops.toList.all fun o => match o.dst with
 | some d => Nat.blt d n
 | none => true
def cR : Code → Tn
 | .ret => fun _ _ _ go _ _ _ t ds up rd s => js go t ds up rd s (some .ret)
 | .skip => fun _ _ _ go _ _ k t ds up rd s => go t k ds .run up rd s
 | .label _ => fun _ _ _ go _ _ k t ds up rd s => go t k ds .run up rd s
 | .seq a b => fun _ _ _ go _ _ k t ds up rd s => go t (.code a :: .code b :: k) ds .run up rd s
 | .cond c a b => fun _ _ _ go _ _ k t ds up rd s => xw go k t ds up rd s a b (eval t c)
 | .block id c => fun _ _ _ go _ _ k t ds up rd s => go t (.code c :: .inBlock id :: k) ds .run up rd s
 | .loop c => fun _ _ _ go _ _ k t ds up rd s => go t (.code c :: .inLoop c :: k) ds .run up rd s
 | .scope c => fun _ _ _ go _ _ k t ds up rd s => go t (.code c :: .inScope c :: k) ds .run up rd s
 | .exit id => fun _ _ _ go _ _ k t ds up rd s => qx go t ds up rd s (.exit id) (exitTo id k)
 | .goto l => fun _ _ _ go _ _ k t ds up rd s => qx go t ds up rd s (.goto l) (gotoIn l k)
 | .rangeFunc g ps assign body => fun _ f fn go rec _ k t ds up rd s => iK f fn.ntmps go rec k t ds up rd s ps assign body (eval t g)
 | .region _ ops true => fun E _ fn go rec recR k t ds up rd s => bif gY ops fn.ntmps then jd go k rd (il E ops rec recR t ds up s) else none
 | .region _ ops false => fun E _ fn go rec recR k t ds up rd s => bif gY ops fn.ntmps then jd go k rd (ij E ops rec recR rd ops.toList t ds up s) else none
 | .refuse _ => fun _ _ _ _ _ _ _ _ _ _ _ _ => none
def vI (go : Go) (k : List Item) (t : T V) (ds : List ei) (up : Option Md) (rd : Option Nat) (l : Nat) (s : S) : Option bZ → Option dz
 | some (.loop .ready pend f t' ps a b d nt) => go t k ds .run up rd (s.put l (.loop .busy pend f t' ps a b d nt))
 | _ => none
def dQ : Item → Tn
 | .code c => cR c
 | .inBlock _ => fun _ _ _ go _ _ k t ds up rd s => go t k ds .run up rd s
 | .inScope _ => fun _ _ _ go _ _ k t ds up rd s => go t k ds .run up rd s
 | .inLoop c => fun _ _ _ go _ _ k t ds up rd s => go t (.code c :: .inLoop c :: k) ds .run up rd s
 | .beginRound => fun _ _ _ go _ _ k t ds up rd s => match rd with
  | some l => vI go k t ds up (some l) l s (s.get l)
  | none => none
 | _ => fun _ _ _ _ _ _ _ _ _ _ _ _ => none
def dy : List Item → cx → FuncId → Func → Go → fO → qK → T V → List ei → Option Md → Option Nat → S → Option dz
 | [] => fun _ _ _ go _ _ t ds up rd s => js go t ds up rd s none
 | i :: k => fun E f fn go rec recR t ds up rd s => dQ i E f fn go rec recR k t ds up rd s
def kw (go : Go) (t : T V) (ds : List ei) (up : Option Md) (rd : Option Nat) : Option dz → Option dz
 | some ⟨.returned _, some u, s⟩ => match u with
  | .run => none
  | u => go t [] ds (kI u) up rd s
 | some ⟨.panicked c, some u, s⟩ => go t [] ds (Cr u c) up rd s
 | _ => none
def jn (go : Go) (t : T V) (ds : List ei) (m : Md) (up : Option Md) (rd : Option Nat) (s : S) (d : Nat) : Option bZ → Option dz
 | some .deferred => go t [] ds m up rd (s.put d .gone)
 | _ => none
def Fh (up : Option Md) (s : S) : Option V → Option dz
 | some v => some ⟨.returned v, up, s⟩
 | none => none
def jR (E : cx) (fn : Func) (t : T V) (up : Option Md) (s : S) : Md → Option dz
 | .returning => Fh up s (de E.P fn t s)
 | .panicking c => some ⟨.panicked c, up, s⟩
 | .run => none
def cF : List ei → cx → Func → Go → fO → T V → Md → Option Md → Option Nat → S → Option dz
 | .collected d :: ds => fun _ _ go _ t m up rd s => jn go t ds m up rd s d (s.get d)
 | .call (.func f) captured args :: ds => fun _ _ go rec t m up rd s => kw go t ds up rd (rec f (args ++ captured) (some m) s)
 | .call _ _ _ :: _ => fun _ _ _ _ _ _ _ _ _ => none
 | [] => fun E fn _ _ t m up _ s => jR E fn t up s m
def bh (E : cx) (f : FuncId) (fn : Func) (go : Go) (rec : fO) (recR : qK) (t : T V) (todo : List Item) (ds : List ei) (m : Md) (up : Option Md) (rd : Option Nat) (s : S) : Option dz :=
 match m with
 | .run => dy todo E f fn go rec recR t ds up rd s
 | .returning => cF ds E fn go rec t .returning up rd s
 | .panicking c => cF ds E fn go rec t (.panicking c) up rd s
inductive tA where
 | frame (f : FuncId) (fn : Func) (t : T V) (todo : List Item) (ds : List ei) (m : Md) (up : Option Md) (rd : Option Nat)
 | call (f : FuncId) (args : List V) (up : Option Md)
 | round (l : Nat) (args : List V)
def fY (ih : tA → S → Option dz) (f : FuncId) (fn : Func) : Go := fun t todo ds m up rd s => ih (.frame f fn t todo ds m up rd) s
def bI (ih : tA → S → Option dz) : fO := fun g args up s => ih (.call g args up) s
def er (ih : tA → S → Option dz) : qK := fun l args s => ih (.round l args) s
def qB (ih : tA → S → Option dz) (f : FuncId) (args : List V) (up : Option Md) (s : S) : Option Func → Option dz
 | some fn => match fn.body with
  | some c => bif fn.name == "runtime.NumGoroutine" then none else aO args 0 .leaf fun t => ih (.frame f fn t [.code c] [] .run up none) s
  | none => none
 | none => none
def nc (ih : tA → S → Option dz) (f : FuncId) (args : List V) (up : Option Md) (s : S) (fn : Option Func) : Option (V × S) → Option dz
 | some (v, s) => some ⟨.returned v, up, s⟩
 | none => qB ih f args up s fn
def wp (E : cx) (ih : tA → S → Option dz) (l : Nat) (args : List V) (s : S) : Option bZ → Option dz
 | some (.loop _ _ f t ps assign body _ nt) => match E.P.funcs[f]? with
  | some fn => bif Nat.ble fn.ntmps nt && Nat.beq ps.size args.length && ps.toList.all (fun p => Nat.blt p nt) then
   dl t ps.toList args fun t => ih (.frame f fn t [.code assign, .beginRound, .code body] [] .run none (some l)) s
   else none
  | none => none
 | _ => none
def bg (E : cx) (ih : tA → S → Option dz) : tA → S → Option dz
 | .frame f fn t todo ds m up rd, s => bh E f fn (fY ih f fn) (bI ih) (er ih) t todo ds m up rd s
 | .call f args up, s => nc ih f args up s (E.P.funcs[f]?) (match up with | none => E.orc f args s | some _ => none)
 | .round l args, s => wp E ih l args s (s.get l)
def qn (E : cx) (n : Nat) : tA → S → Option dz :=
 Nat.rec (motive := fun _ => tA → S → Option dz) (fun _ _ => none) (fun _ ih j s => bg E ih j s) n
end Go.AI
namespace Go.AI
theorem Pd : ∀ (n k n' k' : Nat), k ≤ n → k' ≤ n' → yN n k = yN n' k' → k = k' := by
 intro n
 induction n with
 | zero =>
  intro k n' k' hk hk' h
  obtain rfl : k = 0 := by omega
  cases n' with
  | zero => omega
  | succ n' =>
   cases k' with
   | zero => rfl
   | succ m =>
    simp only [yN] at h
    cases hb : Nat.beq (Nat.mod m 2) 1 <;> simp [hb] at h
 | succ n ih =>
  intro k n' k' hk hk' h
  cases k with
  | zero =>
   cases n' with
   | zero => omega
   | succ n' =>
    cases k' with
    | zero => rfl
    | succ m =>
     simp only [yN] at h
     cases hb : Nat.beq (Nat.mod m 2) 1 <;> simp [hb] at h
  | succ m =>
   cases n' with
   | zero =>
    obtain rfl : k' = 0 := by omega
    simp only [yN] at h
    cases hb : Nat.beq (Nat.mod m 2) 1 <;> simp [hb] at h
   | succ n' =>
    cases k' with
    | zero =>
     simp only [yN] at h
     cases hb : Nat.beq (Nat.mod m 2) 1 <;> simp [hb] at h
    | succ m' =>
     simp only [yN] at h
     have hd : ∀ x : Nat, Nat.div x 2 = x / 2 := fun _ => rfl
     have hm : ∀ x : Nat, Nat.mod x 2 = x % 2 := fun _ => rfl
     cases hb : Nat.beq (Nat.mod m 2) 1 <;> cases hb' : Nat.beq (Nat.mod m' 2) 1 <;> simp [hb, hb'] at h
     ·have h1 := ih (Nat.div m 2) n' (Nat.div m' 2) (by rw [hd]; omega) (by rw [hd]; omega) h
      rw [hd, hd] at h1
      rw [hm] at hb hb'
      have e1 : ¬ m % 2 = 1 := fun e => by rw [e] at hb; simp at hb
      have e2 : ¬ m' % 2 = 1 := fun e => by rw [e] at hb'; simp at hb'
      omega
     ·have h1 := ih (Nat.div m 2) n' (Nat.div m' 2) (by rw [hd]; omega) (by rw [hd]; omega) h
      rw [hd, hd] at h1
      rw [hm] at hb hb'
      have e1 : m % 2 = 1 := Nat.eq_of_beq_eq_true hb
      have e2 : m' % 2 = 1 := Nat.eq_of_beq_eq_true hb'
      omega
theorem Rx {k k' : Nat} (h : eV k = eV k') : k = k' := Pd k k k' k' (Nat.le_refl _) (Nat.le_refl _) h
namespace T
variable {α : Type}
section
variable {β : Type} (x : Option α) (p : zu) (l r : T α) (v : Option α) (k : T α → β)
theorem get_leaf (p : zu) : (T.leaf : T α).get p = none := by cases p <;> rfl
theorem get_o : (T.node l v r).get .o = v := rfl
theorem get_l : (T.node l v r).get (.l p) = l.get p := rfl
theorem get_r : (T.node l v r).get (.r p) = r.get p := rfl
theorem nV : setK x (.l p) .leaf k = setK x p .leaf fun t => k (.node t none .leaf) := rfl
theorem nU : setK x (.l p) (.node l v r) k = setK x p l fun t => k (.node t v r) := rfl
theorem nT : setK x (.r p) .leaf k = setK x p .leaf fun t => k (.node .leaf none t) := rfl
theorem nR : setK x (.r p) (.node l v r) k = setK x p r fun t => k (.node l v t) := rfl
end
def set (x : Option α) (p : zu) (t : T α) : T α := setK x p t id
theorem OA (x : Option α) : ∀ (p : zu) (β : Type) (t : T α) (k : T α → β), setK x p t k = k (setK x p t id) := by
 intro p
 induction p with
 | o => intro β t k; cases t <;> rfl
 | l p ih =>
  intro β t k
  cases t with
  | leaf => rw [nV, nV, ih β, ih (T α) .leaf (fun t => id (T.node t none .leaf))]; rfl
  | node l v r => rw [nU, nU, ih β, ih (T α) l (fun t => id (T.node t v r))]; rfl
 | r p ih =>
  intro β t k
  cases t with
  | leaf => rw [nT, nT, ih β, ih (T α) .leaf (fun t => id (T.node .leaf none t))]; rfl
  | node l v r => rw [nR, nR, ih β, ih (T α) r (fun t => id (T.node l v t))]; rfl
theorem setK_eq {β : Type} (x : Option α) (p : zu) (t : T α) (k : T α → β) : setK x p t k = k (set x p t) := OA x p β t k
theorem mF (x : Option α) (p : zu) : set x (.l p) .leaf = .node (set x p .leaf) none .leaf := by unfold set; rw [nV, setK_eq]; rfl
theorem mD (x : Option α) (p : zu) : set x (.r p) .leaf = .node .leaf none (set x p .leaf) := by unfold set; rw [nT, setK_eq]; rfl
theorem mE (x : Option α) (p : zu) (l r : T α) (v : Option α) : set x (.l p) (.node l v r) = .node (set x p l) v r := by unfold set; rw [nU, setK_eq]; rfl
theorem mC (x : Option α) (p : zu) (l r : T α) (v : Option α) : set x (.r p) (.node l v r) = .node l v (set x p r) := by unfold set; rw [nR, setK_eq]; rfl
theorem we (x : Option α) : set x .o .leaf = .node .leaf x .leaf := rfl
theorem wd (x : Option α) (l r : T α) (v : Option α) : set x .o (.node l v r) = .node l x r := rfl
theorem CP (x : Option α) : ∀ (p : zu) (t : T α), (set x p t).get p = x := by
 intro p
 induction p with
 | o => intro t; cases t <;> rfl
 | l p ih => intro t; cases t <;> simp [mF, mE, get_l, ih]
 | r p ih => intro t; cases t <;> simp [mD, mC, get_r, ih]
theorem yT (x : Option α) : ∀ (p q : zu) (t : T α), p ≠ q → (set x p t).get q = t.get q := by
 intro p
 induction p with
 | o =>
  intro q t h
  cases q with
  | o => exact absurd rfl h
  | l q => cases t <;> simp [we, wd, get_l, get_leaf]
  | r q => cases t <;> simp [we, wd, get_r, get_leaf]
 | l p ih =>
  intro q t h
  cases q with
  | o => cases t <;> simp [mF, mE, get_o, get_leaf]
  | l q =>
   have h' : p ≠ q := fun e => h (by rw [e])
   cases t <;> simp [mF, mE, get_l, ih q _ h', get_leaf]
  | r q => cases t <;> simp [mF, mE, get_r, get_leaf]
 | r p ih =>
  intro q t h
  cases q with
  | o => cases t <;> simp [mD, mC, get_o, get_leaf]
  | r q =>
   have h' : p ≠ q := fun e => h (by rw [e])
   cases t <;> simp [mD, mC, get_r, ih q _ h', get_leaf]
  | l q => cases t <;> simp [mD, mC, get_l, get_leaf]
theorem get_setN (x : Option α) (i j : Nat) (t : T α) : (set x (eV i) t).get (eV j) = if i = j then x else t.get (eV j) := by
 by_cases h : i = j
 ·subst h; simp [CP]
 ·rw [if_neg h]; exact yT x _ _ t (fun e => h (Rx e))
end T
theorem Af {β : Type} (n : Nat) (k : Nat → β) : CR n k = k n := by cases n <;> rfl
theorem Nc {β : Type} (n : Int) (k : Int → β) : IS n k = k n := by cases n <;> simp [IS, Af]
theorem aX (k : IntKind) (n : Int) : nq k n = .int k n := Nc n _
theorem S.put_eq (s : S) (f : Nat) (b : bZ) : s.put f b = ⟨s.h.set (some b) (eV f), s.next⟩ := by
 cases s; simp only [S.put]; rw [T.setK_eq]
theorem S.alloc_eq (s : S) (b : bZ) : s.alloc b = ⟨s.h.set (some b) (eV s.next), s.next + 1⟩ := by
 cases s; simp only [S.alloc]; rw [T.setK_eq, Af]
theorem S.get_eq (s : S) (f : Nat) : s.get f = s.h.get (eV f) := by cases s; rfl
theorem S.get_put (s : S) (f g : Nat) (b : bZ) : (s.put f b).get g = if f = g then some b else s.get g := by
 rw [S.put_eq, S.get_eq, S.get_eq, T.get_setN]
theorem S.get_alloc (s : S) (g : Nat) (b : bZ) : (s.alloc b).get g = if s.next = g then some b else s.get g := by
 rw [S.alloc_eq, S.get_eq, S.get_eq, T.get_setN]
theorem S.next_put (s : S) (f : Nat) (b : bZ) : (s.put f b).next = s.next := by rw [S.put_eq]
theorem S.next_alloc (s : S) (b : bZ) : (s.alloc b).next = s.next + 1 := by rw [S.alloc_eq]
theorem Rw {β : Type} (t : T V) (d : Option Tmp) (v : Option V) (k : T V → β) : nz t d v k = k (nz t d v id) := by
 cases d with
 | none => rfl
 | some i => simp only [nz]; rw [T.setK_eq, T.setK_eq]; rfl
theorem PI (t : T V) (d : Option Tmp) (v : Option V) (i : Nat) : (nz t d v id).get (eV i) = if d = some i then v else t.get (eV i) := by
 cases d with
 | none => simp [nz]
 | some j => simp only [nz]; rw [T.setK_eq]; simp only [id]; rw [T.get_setN]; simp
end Go.AI
namespace Go.AI
instance (n : Nat) : OfNat V n := ⟨.atom n⟩
abbrev iV (n : Int) : V := .int .i64 n
abbrev nS : V := .nilslice
abbrev s0 : V := .str []
abbrev cB (e : TypeId) (l : List V) : bZ := .cells e false 1 [⟨0, 0, l⟩]
abbrev lf : T bZ := .leaf
abbrev n0 (a c : T bZ) : T bZ := .node a none c
abbrev n1 (a : T bZ) : T bZ := .node a none .leaf
abbrev n2 (a : T bZ) : T bZ := .node .leaf none a
abbrev n3 (b : bZ) : T bZ := .node .leaf (some b) .leaf
abbrev n4 (a : T bZ) (b : bZ) (c : T bZ) : T bZ := .node a (some b) c
end Go.AI
