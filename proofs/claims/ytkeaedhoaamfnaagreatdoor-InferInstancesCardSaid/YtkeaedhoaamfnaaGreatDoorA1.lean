/- The evaluator by which runs of the program are reckoned, and that it is sound: part 1. No conditions beyond those of the row. -/
import GoSem.Step
set_option linter.unusedVariables false
set_option linter.unusedSimpArgs false
noncomputable section
namespace Go.AI
structure Ad where
 f : Nat
 v : Nat
 c : Nat
 deriving Inhabited
inductive V where
 | bool (b : Bool)
 | int (k : IntKind) (n : Int)
 | str (s : List Nat)
 | ptr (a : Ad)
 | nilptr
 | slice (a : Ad) (z : Nat) (len : Nat) (cap : Option Nat) (sz : Nat)
 | nilslice
 | map (r : Nat)
 | nilmap
 | func (fn : Fn) (first captured : List V)
 | nilFunc
 | iface (t : TypeId) (v : V)
 | nilIface
 | agg (cs : List V)
 | tuple (vs : List V)
 | atom (i : Nat)      -- stands for a value of one cell that is not known
 deriving Inhabited
def V.undef : V := .tuple []
def V.ofCell : Value → Option V
 | .bool b => some (.bool b)
 | .int k n => some (.int k n)
 | .string s => some (.str (s.data.toList.map UInt8.toNat))
 | .pointer a => match a with
  | none => some .nilptr
  | some _ => none
 | .slice a n c => match a with
  | none => bif Nat.beq n 0 && Nat.beq c 0 then some .nilslice else none
  | some _ => none
 | .map a => match a with
  | none => some .nilmap
  | some _ => none
 | .nilFunc => some .nilFunc
 | .nilIface => some .nilIface
 | .func fn a b => match fn with
  | .func f => bif a.toList.isEmpty && b.toList.isEmpty then some (.func (.func f) [] []) else none
  | _ => none
 | _ => none
def V.ofCells : List Value → Option (List V)
 | [] => some []
 | x :: r => match V.ofCell x with
  | some v => match V.ofCells r with
   | some l => some (v :: l)
   | none => none
  | none => none
def V.ofConst : Value → Option V
 | .agg cs => match V.ofCells cs.toList with
  | some l => some (.agg l)
  | none => none
 | v => V.ofCell v
def V.cells : V → List V
 | .agg cs => cs
 | v => [v]
inductive xB where
 | o
 | l (p : xB)
 | r (p : xB)
def wY : Nat → Nat → xB
 | 0, _ => .o
 | n + 1, k => match k with
  | 0 => .o
  | m + 1 => bif Nat.beq (Nat.mod m 2) 1 then .r (wY n (Nat.div m 2)) else .l (wY n (Nat.div m 2))
def eT (k : Nat) : xB := wY k k
inductive T (α : Type) where
 | leaf
 | node (l : T α) (v : Option α) (r : T α)
 deriving Inhabited
namespace T
variable {α : Type}
def getC : T α → xB → Option α
 | .leaf, _ => none
 | .node _ v _, .o => v
 | .node l _ _, .l p => l.getC p
 | .node _ _ r, .r p => r.getC p
def NB {β : Type} (x : Option α) : xB → T α → (T α → β) → β
 | .o, .leaf, k => k (.node .leaf x .leaf)
 | .o, .node l _ r, k => k (.node l x r)
 | .l p, .leaf, k => NB x p .leaf fun t => k (.node t none .leaf)
 | .l p, .node l v r, k => NB x p l fun t => k (.node t v r)
 | .r p, .leaf, k => NB x p .leaf fun t => k (.node .leaf none t)
 | .r p, .node l v r, k => NB x p r fun t => k (.node l v t)
def get (t : T α) (p : xB) : Option α :=
 xB.rec (motive := fun _ => T α → Option α)
  (fun t => T.rec (motive := fun _ => Option α) none (fun _ v _ _ _ => v) t)
  (fun _ ih t => T.rec (motive := fun _ => Option α) none (fun l _ _ _ _ => ih l) t)
  (fun _ ih t => T.rec (motive := fun _ => Option α) none (fun _ _ r _ _ => ih r) t) p t
def setK {β : Type} (x : Option α) (p : xB) (t : T α) (k : T α → β) : β :=
 xB.rec (motive := fun _ => T α → (T α → β) → β)
  (fun t k => T.rec (motive := fun _ => β) (k (.node .leaf x .leaf)) (fun l _ r _ _ => k (.node l x r)) t)
  (fun _ ih t k => T.rec (motive := fun _ => β) (ih .leaf fun t => k (.node t none .leaf)) (fun l v r _ _ => ih l fun t => k (.node t v r)) t)
  (fun _ ih t k => T.rec (motive := fun _ => β) (ih .leaf fun t => k (.node .leaf none t)) (fun l v r _ _ => ih r fun t => k (.node l v t)) t) p t k
end T
structure mH where
 v : Nat
 lo : Nat
 cells : List V
 deriving Inhabited
structure pL where
 key : V
 val : V
 born : Nat
 deriving Inhabited
inductive bP where
 | cells (elem : TypeId) (sb : Bool) (nextv : Nat) (vers : List mH)      -- sb: made of a text's bytes
 | ro (vers : List mH)      -- what came in: it is only read
 | map (es : List pL) (clock : Nat)
 | loop (st : LoopState) (pending : Option Code) (fn : FuncId) (tmps : T V) (params : Array Tmp) (assign body : Code) (dfr : Nat) (nt : Nat)
 | deferred
 | gone
 deriving Inhabited
structure S where
 h : T bP
 next : Nat
 deriving Inhabited
def Ay {β : Type} (n : Nat) (k : Nat → β) : β := match n with
 | 0 => k 0
 | m + 1 => k (m + 1)
def Fy {β : Type} (n : Int) (k : Int → β) : β := match n with
 | .ofNat m => Ay m fun m => k (.ofNat m)
 | .negSucc m => Ay m fun m => k (.negSucc m)
def mB (k : IntKind) (n : Int) : V := Fy n fun n => .int k n
def S.get (s : S) (f : Nat) : Option bP := match s with | ⟨h, _⟩ => h.get (eT f)
def S.put (s : S) (f : Nat) (b : bP) : S := match s with | ⟨h, n⟩ => h.setK (some b) (eT f) fun h => ⟨h, n⟩
def S.alloc (s : S) (b : bP) : S := match s with | ⟨h, n⟩ => h.setK (some b) (eT n) fun h => Ay (n + 1) fun n => ⟨h, n⟩
def bV (sb : Bool) (s : S) (elem : TypeId) (cs : List V) : Ad × S := (⟨s.next, 0, 0⟩, s.alloc (.cells elem sb 1 [⟨0, 0, cs⟩]))
def bS (s : S) (elem : TypeId) (cs : List V) : Ad × S := bV false s elem cs
def bg : List mH → Nat → Option mH
 | [], _ => none
 | u :: r, v => bif Nat.beq u.v v then some u else bg r v
def aO : Nat → List V → Option (List V)
 | 0, _ => some []
 | n + 1, x :: r => (aO n r).map (x :: ·)
 | _ + 1, [] => none
def loadCells (s : S) (a : Ad) (n : Nat) : Option (List V) :=
 match s.get a.f with
 | some (.cells _ _ _ vers) =>
  match bg vers a.v with
  | some u => bif Nat.ble u.lo a.c then aO n (u.cells.drop (a.c - u.lo)) else none
  | none => none
 | some (.ro vers) =>
  match bg vers a.v with
  | some u => bif Nat.ble u.lo a.c then aO n (u.cells.drop (a.c - u.lo)) else none
  | none => none
 | _ => none
def cz (s : S) (a : Ad) : Option V :=
 match s.get a.f with
 | some (.cells _ _ _ vers) =>
  match bg vers a.v with
  | some u => bif Nat.ble u.lo a.c then u.cells[a.c - u.lo]? else none
  | none => none
 | some (.ro vers) =>
  match bg vers a.v with
  | some u => bif Nat.ble u.lo a.c then u.cells[a.c - u.lo]? else none
  | none => none
 | _ => none
def bw : List V → Nat → List V → Option (List V)
 | cs, _, [] => some cs
 | x :: r, n + 1, new => (bw r n new).map (x :: ·)
 | _ :: r, 0, y :: new => (bw r 0 new).map (y :: ·)
 | [], _, _ :: _ => none
def V.one : V → Bool
 | .agg _ => false
 | .tuple _ => false
 | _ => true
def storeCells (s : S) (a : Ad) (new : List V) : Option S :=
 match s.get a.f with
 | some (.cells e sb nv vers) =>
  match bg vers a.v with
  | some u => bif Nat.ble u.lo a.c && new.all V.one then
   match bw u.cells (a.c - u.lo) new with
   | some cs => some (s.put a.f (.cells e sb nv [⟨u.v, u.lo, cs⟩]))
   | none => none
   else none
  | none => none
 | _ => none
section types
variable (P : Program)
def size (t : TypeId) : Option Nat := (P.info? t).map (·.size)
def zero (t : TypeId) : Option V := ((P.info? t).bind (·.zero)).bind V.ofConst
def fj (t : TypeId) : Option Bool := (P.underlying t).map fun | .struct _ => true | .array _ _ => true | _ => false
def loadVar (s : S) (t : TypeId) (a : Ad) : Option V :=
 match fj P t with
 | some true => (size P t).bind fun n => (loadCells s a n).map .agg
 | some false => cz s a
 | none => none
def storeVar (s : S) (t : TypeId) (a : Ad) (v : V) : Option S :=
 match size P t with
 | some n => bif Nat.beq v.cells.length n then storeCells s a v.cells else none
 | none => none
def qf (t : TypeId) (cs : List V) (off : Nat) : Option V :=
 match fj P t with
 | some true => (size P t).map fun n => .agg ((cs.drop off).take n)
 | some false => cs[off]?
 | none => none
end types
def ia : List Nat → List Nat → Option Bool
 | [], [] => some true
 | a :: x, b :: y => bif Nat.beq a b then ia x y else bif Nat.blt a 256 && Nat.blt b 256 then some false else none
 | _, _ => some false
def wj (l : List Nat) : List UInt8 := l.map UInt8.ofNat
def aR (j k : IntKind) : Bool := decide (j = k)
def om (P : Program) (eq : TypeId → V → V → Option Bool) : List Field → List V → List V → Option Bool
 | [], _, _ => some true
 | f :: r, xs, ys => bif f.name == "_" then none else
  match qf P f.type xs f.offset, qf P f.type ys f.offset with
  | some a, some b => match eq f.type a b with
   | some true => om P eq r xs ys
   | some false => some false
   | none => none
  | _, _ => none
def plainAt (s : S) (a : Ad) : Bool := match s.get a.f with
 | some (.cells _ sb _ vers) => !sb && (bg vers a.v).isSome
 | _ => false
def Hl (ok : Ad → Bool) (a b : Ad) : Option Bool :=
 bif ok a && ok b then (bif Nat.beq a.f b.f then (bif Nat.beq a.v b.v then some (Nat.beq a.c b.c) else none) else some false) else none
def dJ (P : Program) (ok : Ad → Bool) : Nat → TypeId → V → V → Option Bool
 | 0, _, _, _ => none
 | d + 1, t, x, y =>
  match P.underlying t with
  | some (.struct fs) =>
   match x, y with
   | .agg xs, .agg ys => bif P.stoodInHeld t then none else om P (dJ P ok d) fs.toList xs ys
   | _, _ => none
  | some (.interface _) =>
   match x, y with
   | .nilIface, .nilIface => some true
   | .nilIface, .iface _ _ => some false
   | .iface _ _, .nilIface => some false
   | .iface tx vx, .iface ty vy => bif Nat.beq tx ty then (match P.info? tx with | some i => bif i.comparable then dJ P ok d tx vx vy else none | none => none) else some false
   | _, _ => none
  | some .bool => match x, y with | .bool a, .bool b => some (a == b) | _, _ => none
  | some (.int _) => match x, y with | .int j a, .int k b => bif aR j k then some (a == b) else none | _, _ => none
  | some .string => match x, y with | .str a, .str b => ia a b | _, _ => none
  | some (.pointer e) => match x, y with
   | .nilptr, .nilptr => some true
   | .nilptr, .ptr _ => some false
   | .ptr _, .nilptr => some false
   | .ptr a, .ptr b => match size P e with
    | some n => bif Nat.beq n 0 then none else Hl ok a b
    | none => none
   | _, _ => none
  | some (.slice _) => match x, y with
   | .nilslice, .nilslice => some true
   | .nilslice, .slice .. => some false
   | .slice .., .nilslice => some false
   | _, _ => none
  | some (.map _ _) => match x, y with
   | .nilmap, .nilmap => some true
   | .nilmap, .map _ => some false
   | .map _, .nilmap => some false
   | _, _ => none
  | some (.func _ _ _) => match x, y with
   | .nilFunc, .nilFunc => some true
   | .nilFunc, .func .. => some false
   | .func .., .nilFunc => some false
   | _, _ => none
  | _ => none
def dI (op : BinOp) (k : IntKind) (a b : Int) : Option V :=
 match op with
 | .add => some (mB k (k.wrap (a + b)))
 | .sub => some (mB k (k.wrap (a - b)))
 | .mul => some (mB k (k.wrap (a * b)))
 | .eql => some (.bool (a == b))
 | .neq => some (.bool (a != b))
 | .lss => some (.bool (decide (a < b)))
 | .leq => some (.bool (decide (a ≤ b)))
 | .gtr => some (.bool (decide (a > b)))
 | .geq => some (.bool (decide (a ≥ b)))
 | .quo => bif b == 0 then none else some (.int k (k.wrap (a.tdiv b)))
 | .rem => bif b == 0 then none else some (.int k (a.tmod b))
 | .and => some (.int k (k.wrap (BitVec.ofInt k.bits a &&& BitVec.ofInt k.bits b).toNat))
 | .or => some (.int k (k.wrap (BitVec.ofInt k.bits a ||| BitVec.ofInt k.bits b).toNat))
 | .xor => some (.int k (k.wrap (BitVec.ofInt k.bits a ^^^ BitVec.ofInt k.bits b).toNat))
 | .andNot => some (.int k (k.wrap (BitVec.ofInt k.bits a &&& ~~~ BitVec.ofInt k.bits b).toNat))
 | _ => none
def oB (op : BinOp) (a b : List Nat) : Option V :=
 match op with
 | .add => bif Nat.ble (a.length + b.length) 1000000 then some (.str (a ++ b)) else none
 | .eql => (ia a b).map .bool
 | .neq => (ia a b).map fun q => .bool (!q)
 | .lss => some (.bool (Op.bytesLess (wj a) (wj b)))
 | _ => none
def pW (op : BinOp) (k : IntKind) (a : Int) (b : Int) : Option V := match b with
 | .ofNat n => match op with
  | .shl => some (mB k (k.wrap (a * 2 ^ (min n k.bits))))
  | .shr => some (mB k (a.fdiv (2 ^ (min n k.bits))))
  | _ => none
 | _ => none
def bQ : BinOp → Bool
 | .shl | .shr => true
 | _ => false
def fh : Operand → Bool
 | .const _ => true
 | _ => false
def eE : BinOp → Bool
 | .eql | .neq => true
 | _ => false
def bj (P : Program) (op : BinOp) (t : TypeId) (x y : Operand) (a b : V) : Bool :=
 bif eE op then match a, b with
  | .nilIface, .nilIface => fh x || fh y
  | .agg _, .agg _ => !(P.eqGuardType P.depth t)
  | _, _ => true
 else true
def bD (P : Program) (ok : Ad → Bool) (op : BinOp) (t : TypeId) (x y : V) : Option V :=
 match x, y with
 | .int j a, .int k b => bif bQ op then pW op j a b else bif aR j k then dI op j a b else none
 | .str a, .str b => oB op a b
 | _, _ =>
  match op with
  | .eql => (dJ P ok 20 t x y).map .bool
  | .neq => (dJ P ok 20 t x y).map fun b => .bool (!b)
  | _ => none
def pU (op : UnOp) (x : V) : Option V :=
 match op, x with
 | .not, .bool b => some (.bool !b)
 | .neg, .int k n => some (.int k (k.wrap (0 - n)))
 | _, _ => none
def kE (place : Nat → Option (Nat × Nat)) (cs : List V) : List (Nat × V) → Option (List V)
 | [] => some cs
 | (i, v) :: r =>
  match place i with
  | none => none
  | some (off, n) => bif Nat.beq v.cells.length n && Nat.blt 0 n then (bw cs off v.cells).bind fun cs => kE place cs r else none
def kA (f : Field) (P : Program) : Bool := match size P f.type with | some n => Nat.beq n 0 | none => true
def jL (v : V) : Option Nat := match v with | .int _ (.ofNat n) => some n | _ => none
def eK (a : Ad) (n : Nat) : Ad := { a with c := a.c + n }
def bN (eq : V → V → Option Bool) (k : V) : List pL → Option (Option V)
 | [] => some none
 | ⟨key, val, _⟩ :: r => foundKey (eq k key) val (bN eq k r)
 where foundKey (b : Option Bool) (v : V) (r : Option (Option V)) : Option (Option V) := match b with
  | some true => some (some v)
  | some false => r
  | none => none
def cl (eq : V → V → Option Bool) (k x : V) : List pL → Option (Option (List pL))
 | [] => some none
 | ⟨key, val, born⟩ :: r => setKey (eq k key) ⟨key, val, born⟩ ⟨k, x, born⟩ r (cl eq k x r)
 where setKey (b : Option Bool) (e e' : pL) (r : List pL) (u : Option (Option (List pL))) : Option (Option (List pL)) := match b with
  | some true => some (some (e' :: r))
  | some false => match u with
   | some (some r') => some (some (e :: r'))
   | some none => some none
   | none => none
  | none => none
structure tX where
 v : V
 recovered : Bool
 deriving Inhabited
inductive Md where
 | run
 | returning
 | panicking (c : List tX)
 deriving Inhabited
inductive dT where
 | call (fn : Fn) (captured args : List V)
 | collected (r : Nat)
 deriving Inhabited
inductive TH where
 | returned (v : V)
 | panicked (c : List tX)
 deriving Inhabited
def eval (t : T V) : Operand → Option V
 | .tmp i => t.get (eT i)
 | .const v => V.ofConst v
 | .global _ => none
 | .func f => some (.func (.func f) [] [])
def mJ {β : Type} (t : T V) (d : Option Tmp) (v : Option V) (k : T V → β) : β := match d with
 | some i => t.setK v (eT i) k
 | none => k t
def aM (ops : Array Oper) (t : T V) (o : Oper) : Option Bool :=
 match o.guard with
 | none => some true
 | some (j, want) => match (ops[j]?).bind (·.dst) with
  | some d => match t.get (eT d) with
   | some (.bool b) => some (b == want)
   | some (.tuple _) => some false
   | _ => none
  | none => none
inductive Nx where
 | val (v : V) (s : S)
 | skip (s : S)
 | enter (f : FuncId) (args : List V) (s : S)
 | round (l : Nat) (args : List V) (s : S)
 | defer (d : dT) (s : S)
 | recover (s : S)
 | panic (v : V) (s : S)
def mX (P : Program) (t : TypeId) (n : Nat) : Bool := match P.info? t with
 | some i => Nat.ble (i.bytes * n) 100000000000000
 | none => false
def mG (c : Nat) : V := .int .u8 (.ofNat (Nat.mod c 256))
def vD (s : S) (f c z len sz : Nat) (e : TypeId) (sb : Bool) (nv : Nat) (vers : List mH) (cells : List V) (n : Nat) : V × S :=
 (.slice ⟨f, nv, c⟩ z (len + n) none sz, s.put f (.cells e sb (nv + 1) (⟨nv, c, cells⟩ :: vers.filter fun u => Nat.ble (u.lo + u.cells.length) (c + len * sz))))
def qx (s : S) (elem : TypeId) (cells : List V) (len sz : Nat) : V × S := match bS s elem cells with
 | (b, s) => (.slice b 0 len none sz, s)
def HH (s : S) (elem : TypeId) (a : Ad) (z len c sz : Nat) (old new : List V) (n : Nat) : Option (V × S) :=
 bif Nat.ble (len + n) c then
  match storeCells s (eK a (len * sz)) new with
  | some s => some (.slice a z (len + n) (some c) sz, s)
  | none => none
 else some (qx s elem (old ++ new) (len + n) sz)
def yp (s : S) (elem : TypeId) (a : Ad) (z len : Nat) (cap : Option Nat) (sz : Nat) (new : List V) (n : Nat) : Option (V × S) :=
 match s.get a.f with
 | some (.cells e sb nv vers) =>
  match bg vers a.v with
  | some u =>
   bif Nat.ble u.lo a.c then
    match aO (len * sz) (u.cells.drop (a.c - u.lo)) with
    | some old =>
     match cap with
     | some c => HH s elem a z len c sz old new n
     | none => bif new.all V.one then some (vD s a.f a.c z len sz e sb nv vers (old ++ new) n) else none
    | none => none
   else none
  | none => none
 | _ => none
def lz (s : S) (sz : Nat) : V → Option (List V × Nat)
 | .nilslice => some ([], 0)
 | .slice b _ n _ sz' => bif Nat.beq sz' 0 then none else bif Nat.beq sz sz' then (match loadCells s b (n * sz) with | some l => some (l, n) | none => none) else none
 | .str l => bif Nat.beq sz 1 then some (l.map mG, l.length) else none
 | _ => none
def rR (P : Program) (elem : TypeId) (sz : Nat) : Bool :=
 match zero P elem with
 | some z => Nat.beq z.cells.length sz && Nat.blt 0 sz && mX P elem 10000000
 | none => false
def nP (s : S) (elem : TypeId) (sz : Nat) (x : V) : Option (List V × Nat) → Option (V × S)
 | some (l, n) =>
  bif Nat.ble n 1000000 then
   match x with
   | .nilslice => bif Nat.beq n 0 then some (.nilslice, s) else some (qx s elem l n sz)
   | .slice a z len cap sz' => bif Nat.beq sz sz' && Nat.ble len 1000000 then (bif Nat.beq n 0 then some (.slice a z len cap sz, s) else yp s elem a z len cap sz l n) else none
   | _ => none
  else none
 | none => none
def noInt (P : Program) (t : TypeId) : Bool := match P.underlying t with
 | some (.int _) => false
 | some _ => true
 | none => false
def iz (P : Program) (sT xT : TypeId) (s : S) (x y : V) : Option (V × S) :=
 match P.underlying sT with
 | some (.slice elem) => bif noInt P xT then
  match size P elem with
  | some sz => bif rR P elem sz then nP s elem sz x (lz s sz y) else none
  | none => none
  else none
 | _ => none
def mK (P : Program) (t : TypeId) (s : S) (x : V) : Option V :=
 match P.underlying t, x with
 | some .string, .str l => some (mB .i64 l.length)
 | some (.array n _), _ => some (.int .i64 n)
 | some (.slice _), .slice _ _ n _ _ => some (mB .i64 n)
 | some (.slice _), .nilslice => some (.int .i64 0)
 | some (.map _ _), .nilmap => some (.int .i64 0)
 | some (.map _ _), .map r => match s.get r with
  | some (.map es _) => some (.int .i64 es.length)
  | _ => none
 | _, _ => none
def Qh (x y : V) : Option V := match x, y with
 | .int j a, .int k b => bif aR j k then some (.int j (bif decide (b > a) then b else a)) else none
 | _, _ => none
def Qg (x y : V) : Option V := match x, y with
 | .int j a, .int k b => bif aR j k then some (.int j (bif decide (b < a) then b else a)) else none
 | _, _ => none
def LX (f : V → V → Option V) : List V → Option V
 | [] => none
 | x :: r => r.foldlM f x
def ce (c : Nat) : List Nat → Nat → Option Nat
 | [], _ => none
 | x :: r, i => bif Nat.beq (Nat.mod x 256) c then some i else ce c r (i + 1)
def countByte (c : Nat) : List Nat → Nat
 | [] => 0
 | x :: r => bif Nat.beq (Nat.mod x 256) c then countByte c r + 1 else countByte c r
inductive xE where
 | indexByte
 | count
structure cg where
 P : Program
 ext : FuncId → Option xE
 orc : FuncId → List V → S → Option (V × S)
def fY (k : xE) (args : List V) : Option V :=
 match args with
 | [.str l, .int .u8 (.ofNat c)] =>
  match k with
  | .indexByte => some (match ce (Nat.mod c 256) l 0 with | some i => .int .i64 (.ofNat i) | none => .int .i64 (-1))
  | .count => some (mB .i64 (.ofNat (countByte (Nat.mod c 256) l)))
 | _ => none
def bc (s : S) (v : Option V) : Option Nx := match v with
 | some v => some (.val v s)
 | none => none
def ff (x : Option (V × S)) : Option Nx := match x with
 | some (v, s) => some (.val v s)
 | none => none
def fU (E : cg) (f : FuncId) (args : List V) (s : S) : Option Nx :=
 match E.P.funcs[f]? with
 | none => none
 | some fn => match fn.body with
  | none => match E.ext f with
   | some k => bc s (fY k args)
   | none => none
  | some _ => some (.enter f args s)
def FN (s : S) (sz n : Nat) : V → Option (List V × Nat)
 | .nilslice => some ([], 0)
 | .slice b _ m _ sz' => bif Nat.beq sz' 0 then none else bif Nat.beq sz sz' then (match loadCells s b (Nat.min m n * sz) with | some l => some (l, Nat.min m n) | none => none) else none
 | .str l => some ((l.take (Nat.min l.length n)).map mG, Nat.min l.length n)
 | _ => none
def Mh (s : S) (a : Ad) : Option (List V × Nat) → Option Nx
 | some (l, k) => match storeCells s a l with
  | some s => some (.val (mB .i64 k) s)
  | none => none
 | none => none
def Mg (P : Program) (t : TypeId) (s : S) (x y : V) : Option Nx := match P.underlying t with
 | some (.slice el) => match x with
  | .slice a _ n _ sz => match size P el with
   | some sz' => bif Nat.beq sz sz' && Nat.blt 0 n then Mh s a (FN s sz n y) else none
   | none => none
  | _ => none
 | _ => none
def Rp (P : Program) (t : TypeId) (x : V) : Option V := match P.underlying t with
 | some (.slice _) => match x with
  | .nilslice => some (.int .i64 0)
  | .slice _ _ _ (some c) _ => some (mB .i64 c)
  | _ => none
 | _ => none
def eg (P : Program) (b : Builtin) (ts : Array TypeId) (args : List V) (s : S) : Option Nx :=
 match b with
 | .append => match ts[0]? with
  | some a => match ts[1]? with
   | some b => match args with
    | [x, y] => ff (iz P a b s x y)
    | _ => none
   | none => none
  | none => none
 | .len => match ts[0]? with
  | some a => match args with
   | [x] => bc s (mK P a s x)
   | _ => none
  | none => none
 | .max => bc s (LX Qh args)
 | .min => bc s (LX Qg args)
 | .recover => some (.recover s)
 | .copy => match ts[0]? with
  | some a => match args with
   | [x, y] => Mg P a s x y
   | _ => none
  | none => none
 | .cap => match ts[0]? with
  | some a => match args with
   | [x] => bc s (Rp P a x)
   | _ => none
  | none => none
 | .panic => match args with
  | [.iface t v] => some (.panic (.iface t v) s)
  | _ => none
 | _ => none
def mq (o : Option V) (d : Nat) : Option Nat := match o with
 | some v => jL v
 | none => some d
def lC (o : Option Nat) : Bool := match o with
 | some n => Nat.beq n 0
 | none => false
def pd (P : Program) (t : TypeId) (x : V) (lo hi mx : Option V) : Option V :=
 match P.underlying t with
 | some .string => match x, mx with
  | .str l, none =>
   let h := mq hi l.length
   let b := mq lo 0
   match b, h with
   | some b, some h => bif Nat.ble h l.length && Nat.ble b h then some (.str ((l.drop b).take (h - b))) else none
   | _, _ => none
  | _, _ => none
 | some (.slice e) =>
  match size P e with
  | some sz =>
   match x with
   | .nilslice =>
    bif mx.isSome && !hi.isSome then none else
    bif lC (mq lo 0) && lC (mq hi 0) && lC (mq mx 0) then some .nilslice else none
   | .slice a z len cap sz' =>
    bif Nat.beq sz' 0 then none else
    bif Nat.beq sz sz' && !(mx.isSome && !hi.isSome) then
    let h := mq hi len
    let b := mq lo 0
    match b, h with
    | some b, some h =>
     match mx with
     | none =>
      match cap with
      | some c => bif Nat.ble h c && Nat.ble b h then
       (bif Nat.beq c b then some (.slice a 0 (h - b) (some 0) sz) else some (.slice (eK a (b * sz)) 0 (h - b) (some (c - b)) sz)) else none
      | none => bif Nat.ble h len && Nat.ble b h then
       (bif Nat.beq b 0 then some (.slice a z h none sz) else some (.slice (eK a (b * sz)) a.c (h - b) none sz)) else none
     | some m => match jL m with
      | some m =>
       bif Nat.ble m len && Nat.ble h m && Nat.ble b h then
        (bif Nat.beq m b then (bif cap.isSome || Nat.blt 0 len || Nat.beq z a.c then some (.slice a 0 (h - b) (some 0) sz) else none) else some (.slice (eK a (b * sz)) 0 (h - b) (some (m - b)) sz))
       else none
      | none => none
    | _, _ => none
    else none
   | _ => none
  | none => none
 | _ => none
def lw : List V → Option (List Nat)
 | [] => some []
 | .int .u8 (.ofNat n) :: r => (lw r).map (n :: ·)
 | _ => none
def fE (P : Program) (el : TypeId) : Bool := match P.underlying el with
 | some (.int .u8) => true
 | _ => false
def xK (P : Program) (s : S) (ds : TypeDesc) (x : V) : Option (V × S) := match x with
 | .int _ n => some (.str ((Utf8.encode n).data.toList.map UInt8.toNat), s)
 | .str l => some (.str l, s)
 | .nilslice => match ds with
  | .slice el => bif fE P el then some (.str [], s) else none
  | _ => none
 | .slice a _ n _ sz => match ds with
  | .slice el => bif fE P el then (bif Nat.beq sz 0 then none else match (loadCells s a n).bind lw with | some l => some (.str l, s) | none => none) else none
  | _ => none
 | _ => none
def nV (P : Program) (s : S) (ds : TypeDesc) (el : TypeId) (x : V) : Option (V × S) := match x with
 | .str l => match ds with
  | .string => bif fE P el then (match bV true s el (l.map mG) with | (a, s) => some (.slice a 0 l.length none 1, s)) else none
  | _ => none
 | _ => none
def iN (P : Program) (s : S) (src dst : TypeId) (x : V) : Option (V × S) :=
 match P.underlying src with
 | some ds => match P.underlying dst with
  | some (.int k) => match x with
   | .int _ n => some (mB k (k.wrap n), s)
   | _ => none
  | some .string => xK P s ds x
  | some (.slice el) => nV P s ds el x
  | _ => none
 | none => none
def uQ (s : Option S) : Option Nx := match s with
 | some s => some (.skip s)
 | none => none
def sD (x : Ad × S) : Option Nx := match x with
 | (a, s) => some (.val (.ptr a) s)
def evals (t : T V) : List Operand → Option (List V)
 | [] => some []
 | x :: r => match eval t x with
  | some v => match evals t r with
   | some l => some (v :: l)
   | none => none
  | none => none
def dR (t : T V) : List (Nat × Operand) → Option (List (Nat × V))
 | [] => some []
 | (i, x) :: r => match eval t x with
  | some v => match dR t r with
   | some l => some ((i, v) :: l)
   | none => none
  | none => none
def gm (t : T V) : Option Operand → Option (Option V)
 | none => some none
 | some x => match eval t x with
  | some v => some (some v)
  | none => none
def ip (t : T V) (s : S) (c a b : Operand) : Option Nx := match eval t c with
 | some (.bool q) => bc s (eval t (bif q then a else b))
 | _ => none
def eJ (P : Program) (s : S) (elem : TypeId) : Option Nx := match zero P elem with
 | some z => sD (bS s elem z.cells)
 | none => none
def nL (s : S) (elem : TypeId) (x : Option V) : Option Nx := match x with
 | some z => sD (bS s elem z.cells)
 | none => none
def nz (P : Program) (fs : Array Field) (i : Nat) : Option (Nat × Nat) := match fs[i]? with
 | some f => match size P f.type with
  | some n => some (f.offset, n)
  | none => none
 | none => none
def DO (x : Option (List V)) : Option V := match x with
 | some l => some (.agg l)
 | none => none
def fZ (P : Program) (ty : TypeId) (l : Option (List (Nat × V))) : Option V :=
 match zero P ty with
 | some z => match l with
  | some l => match P.underlying ty with
   | some (.struct fs) => bif fs.toList.all (fun f => (size P f.type).isSome) then DO (kE (nz P fs) z.cells l) else none
   | some (.array _ el) => match size P el with
    | some n => DO (kE (fun i => some (i * n, n)) z.cells l)
    | none => none
   | _ => none
  | none => none
 | none => none
def lh (el : TypeId) (len n : Nat) (s : S) (cs : Option (List V)) : Option Nx := match cs with
 | some cs => match bS s el cs with
  | (a, s) => some (.val (.slice a 0 len (some len) n) s)
 | none => none
def bt (P : Program) (s : S) (ty : TypeId) (len : Nat) (l : Option (List (Nat × V))) : Option Nx :=
 match P.underlying ty with
 | some (.slice el) => match l with
  | some l => match zero P el with
   | some z => match size P el with
    | some n => bif Nat.ble (len * n) 10000 && !(Nat.beq n 0) && Nat.beq z.cells.length n then lh el len n s (kE (fun i => some (i * n, n)) (List.replicate len z.cells).flatten l) else none
    | none => none
   | none => none
  | none => none
 | _ => none
def eI (P : Program) (s : S) (ty : TypeId) (x : Option V) : Option Nx := match x with
 | some (.ptr a) => bc s (loadVar P s ty a)
 | _ => none
def kH (P : Program) (s : S) (ty : TypeId) (x y : Option V) : Option Nx := match x with
 | some (.ptr a) => match y with
  | some v => uQ (storeVar P s ty a v)
  | none => none
 | _ => none
def fo (x : Option V) : Option V := match x with
 | some (.ptr a) => some (.ptr a)
 | some (.func fn fi ca) => match fn with
  | .func f => some (.func (.func f) fi ca)
  | .yield f => some (.func (.yield f) fi ca)
  | _ => none
 | _ => none
def cS (P : Program) (s : S) (op : BinOp) (ty : TypeId) (ox oy : Operand) (x y : Option V) : Option V := match x with
 | some a => match y with
  | some b => bif bj P op ty ox oy a b then bD P (plainAt s) op ty a b else none
  | none => none
 | none => none
def Jh (op : UnOp) (x : Option V) : Option V := match x with
 | some a => pU op a
 | none => none
def fp (P : Program) (s : S) (src dst : TypeId) (x : Option V) : Option Nx := match x with
 | some a => ff (iN P s src dst a)
 | none => none
def eR (P : Program) (ty : TypeId) (x : Option V) : Option V := match P.underlying ty with
 | some (.interface _) => none
 | some _ => match x with
  | some v => some (.iface ty v)
  | none => none
 | none => none
def Hv (fn : Fn) (a b : Option (List V)) : Option V := match a with
 | some a => match b with
  | some b => some (.func fn a b)
  | none => none
 | none => none
def nI (fn : Fn) (a b : Option (List V)) : Option V := match fn with
 | .yield _ => none
 | fn => Hv fn a b
def eQ (P : Program) (s : S) (ty : TypeId) (l c : Option Nat) : Option Nx := match P.underlying ty with
 | some (.slice el) => match l with
  | some l => match c with
   | some c => match zero P el with
    | some z => match size P el with
     | some n => bif Nat.ble l c && Nat.ble c 2199023255552 && !(Nat.beq n 0) && Nat.beq z.cells.length n && mX P el c then
      match bS s el (List.replicate c z.cells).flatten with
      | (a, s) => some (.val (.slice a 0 l (some c) n) s)
      else none
     | none => none
    | none => none
   | none => none
  | none => none
 | _ => none
def eU (x : Option V) : Option Nat := match x with
 | some v => jL v
 | none => none
def gT (P : Program) (ty : TypeId) (x : Option V) (lo hi mx : Option (Option V)) : Option V := match x with
 | some x => match lo with
  | some lo => match hi with
   | some hi => match mx with
    | some mx => pd P ty x lo hi mx
    | none => none
   | none => none
  | none => none
 | none => none
def aP (P : Program) (ty : TypeId) (x : Option V) (f : Nat) : Option V := match P.underlying ty with
 | some (.struct fs) => match x with
  | some (.ptr a) => match fs[f]? with
   | some fd => bif kA fd P then none else some (.ptr (eK a fd.offset))
   | none => none
  | _ => none
 | _ => none
def jo (P : Program) (ty : TypeId) (x : Option V) (f : Nat) : Option V := match P.underlying ty with
 | some (.struct fs) => match x with
  | some (.agg cs) => match fs[f]? with
   | some fd => qf P fd.type cs fd.offset
   | none => none
  | _ => none
 | _ => none
def bF (P : Program) (ty : TypeId) (x : Option V) (i : Option Nat) : Option V := match i with
 | some i => match P.underlying ty with
  | some (.slice el) => match x with
   | some (.slice a _ len _ sz) => match size P el with
    | some n => bif Nat.beq n sz && Nat.blt i len then some (.ptr (eK a (i * n))) else none
    | none => none
   | _ => none
  | some (.array len el) => match x with
   | some (.ptr a) => match size P el with
    | some n => bif Nat.blt i len then some (.ptr (eK a (i * n))) else none
    | none => none
   | _ => none
  | _ => none
 | none => none
def mj (P : Program) (ty : TypeId) (x : Option V) (i : Option Nat) : Option V := match i with
 | some i => match P.underlying ty with
  | some .string => match x with
   | some (.str l) => match l[i]? with
    | some c => some (mG c)
    | none => none
   | _ => none
  | some (.array len el) => match x with
   | some (.agg cs) => match size P el with
    | some n => bif Nat.blt i len then qf P el cs (i * n) else none
    | none => none
   | _ => none
  | _ => none
 | none => none
def nE (s : S) (m : V) : Option (List pL) := match m with
 | .nilmap => some []
 | .map r => match s.get r with
  | some (.map es _) => some es
  | _ => none
 | _ => none
def qz (P : Program) (el : TypeId) (ok : Bool) (x : Option (Option V)) : Option V := match x with
 | some (some v) => some (bif ok then .tuple [v, .bool true] else v)
 | some none => match zero P el with
  | some z => some (bif ok then .tuple [z, .bool false] else z)
  | none => none
 | none => none
def eO (P : Program) (t : TypeId) : Bool := match P.underlying t with
 | some (.int _) => true
 | some .string => true
 | some .bool => true
 | some (.pointer _) => true
 | _ => false
def bZ (P : Program) (s : S) (ty : TypeId) (m k : Option V) (ok : Bool) : Option V := match P.underlying ty with
 | some (.map kt el) => match m with
  | some m => match k with
   | some k => match nE s m with
    | some es => bif eO P kt then qz P el ok (bN (dJ P (plainAt s) 20 kt) k es) else none
    | none => none
   | none => none
  | none => none
 | _ => none
def pR (s : S) (r : Nat) (k x : V) (es : List pL) (clock : Nat) (u : Option (Option (List pL))) : Option Nx := match u with
 | some (some es) => some (.skip (s.put r (.map es clock)))
 | some none => some (.skip (s.put r (.map (es ++ [⟨k, x, clock⟩]) (clock + 1))))
 | none => none
def dt (P : Program) (s : S) (ty : TypeId) (m k x : Option V) : Option Nx := match m with
 | some (.map r) => match k with
  | some k => match x with
   | some x => match P.underlying ty with
    | some (.map kt _) => match s.get r with
     | some (.map es clock) => bif eO P kt then pR s r k x es clock (cl (dJ P (plainAt s) 20 kt) k x es) else none
     | _ => none
    | _ => none
   | none => none
  | none => none
 | _ => none
def im (P : Program) (ty : TypeId) (ok : Bool) : Option V := bif ok then match zero P ty with
 | some z => some (.tuple [z, .bool false])
 | none => none
 else none
def fT (P : Program) (x : Option V) (ty : TypeId) (ok : Bool) : Option V := match P.underlying ty with
 | some (.interface _) => none
 | some _ => match x with
  | some .nilIface => im P ty ok
  | some (.iface t v) => bif Nat.beq t ty then some (bif ok then .tuple [v, .bool true] else v) else im P ty ok
  | _ => none
 | none => none
def fH (x : Option V) (i : Nat) : Option V := match x with
 | some (.tuple vs) => vs[i]?
 | _ => none
def ft (E : cg) (s : S) (args : List V) (f : Option V) : Option Nx := match f with
 | some (.func fn first cap) => match fn with
  | .func g => fU E g (first ++ (args ++ cap)) s
  | .yield l => some (.round l (first ++ args) s)
  | _ => none
 | _ => none
def bx (E : cg) (t : T V) (s : S) (ts : Array TypeId) (args : Option (List V)) (c : Callee) : Option Nx := match args with
 | some args => match c with
  | .builtin b => eg E.P b ts args s
  | .value f => ft E s args (eval t f)
  | .invoke _ _ => none
 | none => none
def FJ (s : S) (args : List V) (f : Option V) : Option Nx := match f with
 | some (.func fn first cap) => some (.defer (.call fn cap (first ++ args)) s)
 | _ => none
def qM (t : T V) (s : S) (args : Option (List V)) (c : Callee) : Option Nx := match args with
 | some args => match c with
  | .value f => FJ s args (eval t f)
  | _ => none
 | none => none
def qH (s : S) (x : Option V) : Option Nx := match x with
 | some (.iface t v) => some (.panic (.iface t v) s)
 | _ => none
def az : Op → cg → T V → S → Option Nx
 | .move x, _, t, s => bc s (eval t x)
 | .assign x, _, t, s => bc s (eval t x)
 | .pick c a b, _, t, s => ip t s c a b
 | .alloc elem, E, _, s => eJ E.P s elem
 | .box elem x, _, t, s => nL s elem (eval t x)
 | .build ty parts, E, t, s => bc s (fZ E.P ty (dR t parts.toList))
 | .buildSlice ty len parts, E, t, s => bt E.P s ty len (dR t parts.toList)
 | .load ty x, E, t, s => eI E.P s ty (eval t x)
 | .store ty x y, E, t, s => kH E.P s ty (eval t x) (eval t y)
 | .nilCheck x, _, t, s => bc s (fo (eval t x))
 | .binOp op ty x y _, E, t, s => bc s (cS E.P s op ty x y (eval t x) (eval t y))
 | .unOp op _ x, _, t, s => bc s (Jh op (eval t x))
 | .convert src dst x, E, t, s => fp E.P s src dst (eval t x)
 | .makeInterface ty x, E, t, s => bc s (eR E.P ty (eval t x))
 | .makeFunc fn first cap, _, t, s => bc s (nI fn (evals t first.toList) (evals t cap.toList))
 | .makeMap _ none, _, _, s => some (.val (.map s.next) (s.alloc (.map [] 0)))
 | .makeSlice ty l c, E, t, s => eQ E.P s ty (eU (eval t l)) (eU (eval t c))
 | .slice ty x lo hi mx, E, t, s => bc s (gT E.P ty (eval t x) (gm t lo) (gm t hi) (gm t mx))
 | .fieldAddr ty x f, E, t, s => bc s (aP E.P ty (eval t x) f)
 | .field ty x f, E, t, s => bc s (jo E.P ty (eval t x) f)
 | .indexAddr ty x i, E, t, s => bc s (bF E.P ty (eval t x) (eU (eval t i)))
 | .index ty x i, E, t, s => bc s (mj E.P ty (eval t x) (eU (eval t i)))
 | .lookup ty x k ok, E, t, s => bc s (bZ E.P s ty (eval t x) (eval t k) ok)
 | .mapUpdate ty m k x, E, t, s => dt E.P s ty (eval t m) (eval t k) (eval t x)
 | .insert ty m k x, E, t, s => dt E.P s ty (eval t m) (eval t k) (eval t x)
 | .typeAssert x _ ty ok, E, t, s => bc s (fT E.P (eval t x) ty ok)
 | .extract x i, _, t, s => bc s (fH (eval t x) i)
 | .call c, E, t, s => bx E t s c.argTypes (evals t c.args.toList) c.callee
 | .defer c, _, t, s => qM t s (evals t c.args.toList) c.callee
 | .panic x, _, t, s => qH s (eval t x)
 | _, _, _, _ => none
def dV (E : cg) (t : T V) (s : S) (o : Oper) : Option Nx := az o.op E t s
def fX (P : Program) (t : T V) (s : S) : ResultVar → Option V
 | .tmp i => t.get (eT i)
 | .cell a ty => match t.get (eT a) with
  | some (.ptr a) => loadVar P s ty a
  | _ => none
def fC (P : Program) (t : T V) (s : S) : List ResultVar → Option (List V)
 | [] => some []
 | x :: r => match fX P t s x with
  | some v => match fC P t s r with
   | some l => some (v :: l)
   | none => none
  | none => none
def qi : List V → V
 | [v] => v
 | vs => .tuple vs
def cJ (P : Program) (fn : Func) (t : T V) (s : S) : Option V := match fC P t s fn.results.toList with
 | some l => some (qi l)
 | none => none
def kq : Md → Md
 | .panicking (⟨_, true⟩ :: _) => .returning
 | m => m
def Ah (m : Md) (c : List tX) : Md := match m with
 | .panicking old => .panicking (c ++ old)
 | _ => .panicking c
def bi {β : Type} : List V → Nat → T V → (T V → β) → β
 | [], _, t, k => k t
 | x :: r, i, t, k => t.setK (some x) (eT i) fun t => bi r (i + 1) t k
structure cX where
 e : TH
 up : Option Md
 s : S
abbrev Go := T V → List Item → List dT → Md → Option Md → Option Nat → S → Option cX
def iU (go : Go) (t : T V) (ds : List dT) (up : Option Md) (rd : Option Nat) (s : S) (jump : Option Code) : Option cX :=
 match rd with
 | none => match jump with
  | none => go t [] ds .returning up rd s
  | some .ret => go t [] ds .returning up rd s
  | _ => none
 | some l => match s.get l with
  | some (.loop _ _ f t ps a b d nt) =>
   some ⟨.returned (.bool jump.isNone), up, s.put l (.loop (bif jump.isNone then .ready else .done) jump f t ps a b d nt)⟩
  | _ => none
def cK {β : Type} : T V → List Tmp → List V → (T V → β) → β
 | t, p :: ps, x :: xs, k => t.setK (some x) (eT p) fun t => cK t ps xs k
 | t, _, _, k => k t
inductive fv where
 | on (t : T V) (ds : List dT) (up : Option Md) (s : S)
 | panicked (c : List tX) (t : T V) (ds : List dT) (up : Option Md) (s : S)
abbrev fu := FuncId → List V → Option Md → S → Option cX
abbrev pK := Nat → List V → S → Option cX
abbrev RK := T V → List dT → Option Md → S → Option fv
def eH (d : Option Tmp) (t : T V) (ds : List dT) (up : Option Md) (k : RK) : Option cX → Option fv
 | some ⟨.returned v, _, s⟩ => mJ t d (some v) fun t => k t ds up s
 | some ⟨.panicked c, _, s⟩ => some (.panicked c t ds up s)
 | none => none
def recovered (d : Option Tmp) (t : T V) (ds : List dT) (s : S) (k : RK) : Option Md → Option fv
 | some (.panicking (⟨v, false⟩ :: older)) => mJ t d (some v) fun t => k t ds (some (.panicking (⟨v, true⟩ :: older))) s
 | some m => mJ t d (some .nilIface) fun t => k t ds (some m) s
 | none => none
def dX (rec : fu) (recR : pK) (rd : Option Nat) (d : Option Tmp) (t : T V) (ds : List dT) (up : Option Md) (k : RK) : Option Nx → Option fv
 | some (.val v s) => mJ t d (some v) fun t => k t ds up s
 | some (.skip s) => mJ t d (some V.undef) fun t => k t ds up s
 | some (.enter f args s) => eH d t ds up k (rec f args none s)
 | some (.round l args s) => eH d t ds up k (recR l args s)
 | some (.defer df s) => bif rd.isSome then none else mJ t d (some V.undef) fun t => k t (df :: ds) up s
 | some (.recover s) => recovered d t ds s k up
 | some (.panic v s) => some (.panicked [⟨v, false⟩] t ds up s)
 | none => none
def lZ (E : cg) (rec : fu) (recR : pK) (rd : Option Nat) (o : Oper) (t : T V) (ds : List dT) (up : Option Md) (s : S) (k : RK) : Option Bool → Option fv
 | some true => dX rec recR rd o.dst t ds up k (dV E t s o)
 | some false => mJ t o.dst (some V.undef) fun t => k t ds up s
 | none => none
def gG (E : cg) (ops : Array Oper) (rec : fu) (recR : pK) (rd : Option Nat) : List Oper → RK
 | [] => fun t ds up s => some (.on t ds up s)
 | o :: r => fun t ds up s => lZ E rec recR rd o t ds up s (gG E ops rec recR rd r) (aM ops t o)
def al (P : Program) : Op → Nat
 | .load .. | .lookup .. => 1
 | .binOp op .. => bif eE op then 1 else 0
 | .alloc _ | .box .. | .buildSlice .. | .makeMap .. | .makeSlice .. => 2
 | .convert _ dst _ => match P.underlying dst with
  | some (.slice _) => 2
  | some .string => 1
  | _ => 0
 | .move _ | .assign _ | .pick .. | .build .. | .nilCheck _ | .unOp .. | .makeInterface .. | .makeFunc .. | .slice .. | .fieldAddr .. | .field .. | .indexAddr .. | .index .. | .typeAssert .. | .extract .. => 0
 | .call c => match c.callee with
  | .builtin .len | .builtin .cap | .builtin .max | .builtin .min => 1
  | _ => 3
 | _ => 3
def po (o : Oper) (acc : List Nat) : Nat :=
 o.after.toList.foldl (fun s e => bif Region.binds .any e then Nat.lor s (Nat.lor (Nat.pow 2 e.on) (acc.getD e.on 0)) else s) 0
def kz : List Oper → List Nat → List Nat
 | [], acc => acc
 | o :: r, acc => kz r (acc ++ [po o acc])
def sees (o : Oper) : List Tmp := o.op.operands.toList.filterMap fun | .tmp t => some t | _ => none
def FK (ms : List Nat) (l : List (Nat × Oper)) : Bool :=
 l.all fun (i, o) =>
  (o.after.toList.all fun e => !(Region.binds .any e) || Nat.blt e.on i) &&
  (match o.guard with | some (g, _) => (ms.getD i 0).testBit g | none => true) &&
  l.all fun (j, q) => Nat.beq i j || match q.dst with
   | none => true
   | some d => !(o.dst == some d) && (!((sees o).contains d) || (ms.getD i 0).testBit j || (ms.getD j 0).testBit i)
def yD (ms : List Nat) : List Nat → Bool
 | a :: b :: r => (ms.getD b 0).testBit a && yD ms (b :: r)
 | _ => true
def qE (P : Program) (l : List (Nat × Oper)) : List (Nat × Oper) := l.filter fun (_, o) => Nat.beq (al P o.op) 3
def ba : List V → List V → Bool
 | [], [] => true
 | x :: r, y :: q => sameV x y && ba r q
 | _, _ => false
 where sameV : V → V → Bool
  | .bool a, .bool b => a == b
  | .int j a, .int k b => j == k && a == b
  | .str a, .str b => a == b
  | .ptr a, .ptr b => Nat.beq a.f b.f && Nat.beq a.v b.v && Nat.beq a.c b.c
  | .nilptr, .nilptr => true
  | .slice a z n c sz, .slice b y m d sy => Nat.beq a.f b.f && Nat.beq a.v b.v && Nat.beq a.c b.c && Nat.beq z y && Nat.beq n m && c == d && Nat.beq sz sy
  | .nilslice, .nilslice => true
  | .map a, .map b => Nat.beq a b
  | .nilmap, .nilmap => true
  | .nilFunc, .nilFunc => true
  | .nilIface, .nilIface => true
  | .func f a b, .func g c d => decide (f = g) && ba a c && ba b d
  | .iface t v, .iface u w => Nat.beq t u && sameV v w
  | .agg a, .agg b => ba a b
  | .tuple a, .tuple b => ba a b
  | .atom a, .atom b => Nat.beq a b
  | _, _ => false
def du (E : cg) (t : T V) (o : Oper) : List S → Option V
 | [] => none
 | [s] => match dV E t s o with
  | some (.val v _) => some v
  | _ => none
 | s :: r => match dV E t s o with
  | some (.val v _) => match du E t o r with
   | some w => bif ba [v] [w] then some v else none
   | none => none
  | _ => none
def ns (m : Nat) : List (Nat × S) → List S
 | [] => []
 | (e, s) :: r => s :: (bif m.testBit e then [] else ns m r)
def pO (s : S) : Option Nx → Option (V × S)
 | some (.val v _) => some (v, s)
 | _ => none
def pP : Option Nx → Option (V × S)
 | some (.val v s) => some (v, s)
 | _ => none
def jI (s : S) : Option V → Option (V × S)
 | some v => some (v, s)
 | none => none
def AA (E : cg) (hist : List (Nat × S)) (m : Nat) (t : T V) (s : S) (o : Oper) : Nat → Option (V × S)
 | 0 => pO s (dV E t s o)
 | 1 => jI s (du E t o (ns m hist))
 | 2 => pP (dV E t s o)
 | _ => none
def jw (E : cg) (hist : List (Nat × S)) (m : Nat) (t : T V) (s : S) (o : Oper) : Option Bool → Option (V × S)
 | some true => AA E hist m t s o (al E.P o.op)
 | some false => some (V.undef, s)
 | none => none
def dl (E : cg) (ops : Array Oper) (ms : List Nat) (effs : Nat) (hist : List (Nat × S)) (m : Nat) : List (Nat × Oper) → Nat → T V → S → Option (Nat × T V × S)
 | [], done, t, s => some (done, t, s)
 | (i, o) :: r, done, t, s =>
  bif !(m.testBit i) || done.testBit i then dl E ops ms effs hist m r done t s
  else bif effs.testBit i then none
  else match jw E hist (ms.getD i 0) t s o (aM ops t o) with
   | some (v, s) => mJ t o.dst (some v) fun t => dl E ops ms effs hist m r (Nat.lor done (Nat.pow 2 i)) t s
   | none => none
def nG : Option cX → Option (V × S)
 | some ⟨.returned v, _, s⟩ => some (v, s)
 | _ => none
def kG (rec : fu) : Option Nx → Option (V × S)
 | some (.val v s) => some (v, s)
 | some (.skip s) => some (V.undef, s)
 | some (.enter f args s) => nG (rec f args none s)
 | _ => none
def dH (E : cg) (rec : fu) (t : T V) (s : S) (o : Oper) : Option Bool → Option (V × S)
 | some true => kG rec (dV E t s o)
 | some false => some (V.undef, s)
 | none => none
inductive JA where
 | val (v : V) (s : S)
 | pan (c : List tX) (s : S)
def qF : Option cX → Option JA
 | some ⟨.returned v, _, s⟩ => some (.val v s)
 | some ⟨.panicked c, _, s⟩ => some (.pan c s)
 | none => none
def pC (rec : fu) : Option Nx → Option JA
 | some (.val v s) => some (.val v s)
 | some (.skip s) => some (.val V.undef s)
 | some (.enter f args s) => qF (rec f args none s)
 | some (.panic v s) => some (.pan [⟨v, false⟩] s)
 | _ => none
def kW (E : cg) (rec : fu) (t : T V) (s : S) (o : Oper) : Option Bool → Option JA
 | some true => pC rec (dV E t s o)
 | some false => some (.val V.undef s)
 | none => none
def eA (ms : List Nat) (i : Nat) : List (Nat × Oper) → Nat
 | [] => 0
 | (k, _) :: r => bif (ms.getD k 0).testBit i || Nat.beq k i then eA ms i r else Nat.lor (Nat.pow 2 k) (eA ms i r)
def fS (done : Nat) : List (Nat × Oper) → T V → T V
 | [], t => t
 | (k, o) :: r, t => bif done.testBit k then fS done r t else match o.dst with
  | some d => t.setK none (eT d) fun t => fS done r t
  | none => fS done r t
def Lf (ds : List dT) (up : Option Md) (done : Nat) (all : List (Nat × Oper)) (t : T V) (c : List tX) (s : S) : Option (Nat × T V × S) → Option fv
 | some _ => some (.panicked c (fS done all t) ds up s)
 | none => none
def gH (E : cg) (ops : Array Oper) (ms : List Nat) (effs : Nat) (all : List (Nat × Oper)) (rec : fu) (ds : List dT) (up : Option Md) :
 List (Nat × Oper) → List (Nat × S) → Nat → T V → S → Option fv
 | [], hist, done, t, s =>
  match dl E ops ms effs hist (Nat.pow 2 ops.size - 1) all done t s with
  | some (_, t, s) => some (.on t ds up s)
  | none => none
 | (i, o) :: r, hist, done, t, s =>
  match dl E ops ms effs hist (ms.getD i 0) all done t s with
  | some (done, t, s) =>
   match kW E rec t s o (aM ops t o) with
   | some (.val v s') => bif Nat.ble s.next s'.next && !(done.testBit i) && effs.testBit i then mJ t o.dst (some v) fun t => gH E ops ms effs all rec ds up r ((i, s') :: hist) (Nat.lor done (Nat.pow 2 i)) t s' else none
   | some (.pan c s') => bif done.testBit i then none else Lf ds up done all t c s' (dl E ops ms effs hist (eA ms i all) all done t s)
   | none => none
  | none => none
def dz : List Oper → Nat → List (Nat × Oper)
 | [], _ => []
 | o :: r, i => (i, o) :: dz r (i + 1)
structure Rx where
 ms : List Nat
 all : List (Nat × Oper)
 effs : List (Nat × Oper)
 mask : Nat
def Le (P : Program) (ops : Array Oper) : Option Rx :=
 let l := dz ops.toList 0
 let ms := kz ops.toList []
 let es := qE P l
 bif FK ms l && yD ms (es.map (·.1)) then some ⟨ms, l, es, es.foldl (fun s x => Nat.lor s (Nat.pow 2 x.1)) 0⟩ else none
def gI (E : cg) (ops : Array Oper) (rec : fu) (_recR : pK) (t : T V) (ds : List dT) (up : Option Md) (s : S) : Option fv :=
 match Le E.P ops with
 | some ⟨ms, l, es, mask⟩ => gH E ops ms mask l rec ds up es [(ops.size, s)] 0 t s
 | none => none
abbrev Py := cg → FuncId → Func → Go → fu → pK → List Item → T V → List dT → Option Md → Option Nat → S → Option cX
def vT (go : Go) (k : List Item) (t : T V) (ds : List dT) (up : Option Md) (rd : Option Nat) (s : S) (a b : Code) : Option V → Option cX
 | some (.bool q) => go t (.code (bif q then a else b) :: k) ds .run up rd s
 | _ => none
def px (go : Go) (t : T V) (ds : List dT) (up : Option Md) (rd : Option Nat) (s : S) (c : Code) : Option (List Item) → Option cX
 | some k => go t k ds .run up rd s
 | none => iU go t ds up rd s (some c)
def iE (go : Go) (k : List Item) (rd : Option Nat) : Option fv → Option cX
 | some (.on t ds up s) => go t k ds .run up rd s
 | some (.panicked c t ds up s) => go t k ds (.panicking c) up rd s
 | none => none
def qq (go : Go) (k : List Item) (t : T V) (ds : List dT) (up : Option Md) (rd : Option Nat) (d l : Nat) (s : S) : Option bP → Option cX
 | some (.loop st pend f' t' ps' a' b' d' nt) => match st with
  | .busy => none
  | _ => go t ((pend.map Item.code).toList ++ k) (.collected d :: ds) .run up rd (s.put l (.loop .exhausted pend f' t' ps' a' b' d' nt))
 | _ => none
def kv (go : Go) (k : List Item) (t : T V) (ds : List dT) (up : Option Md) (rd : Option Nat) (d l : Nat) : Option cX → Option cX
 | some ⟨.returned _, _, s⟩ => qq go k t ds up rd d l s (s.get l)
 | some ⟨.panicked c, _, s⟩ => go t k (.collected d :: ds) (.panicking c) up rd s
 | none => none
def ik (f : FuncId) (nt : Nat) (go : Go) (rec : fu) (k : List Item) (t : T V) (ds : List dT) (up : Option Md) (rd : Option Nat) (s : S)
 (ps : Array Tmp) (assign body : Code) : Option V → Option cX
 | some (.func fn first cap) => match fn with
  | .func g => match rd with
   | none =>
    let d := s.next
    let s := s.alloc .deferred
    let l := s.next
    kv go k t ds up rd d l (rec g (first ++ ([.func (.yield l) [] []] ++ cap)) none (s.alloc (.loop .ready none f t ps assign body d nt)))
   | some _ => none
  | _ => none
 | _ => none
def gp (ops : Array Oper) (n : Nat) : Bool := ops.toList.all fun o => match o.dst with
 | some d => Nat.blt d n
 | none => true
def cA : Code → Py
 | .ret => fun _ _ _ go _ _ _ t ds up rd s => iU go t ds up rd s (some .ret)
 | .skip => fun _ _ _ go _ _ k t ds up rd s => go t k ds .run up rd s
 | .label _ => fun _ _ _ go _ _ k t ds up rd s => go t k ds .run up rd s
 | .seq a b => fun _ _ _ go _ _ k t ds up rd s => go t (.code a :: .code b :: k) ds .run up rd s
 | .cond c a b => fun _ _ _ go _ _ k t ds up rd s => vT go k t ds up rd s a b (eval t c)
 | .block id c => fun _ _ _ go _ _ k t ds up rd s => go t (.code c :: .inBlock id :: k) ds .run up rd s
 | .loop c => fun _ _ _ go _ _ k t ds up rd s => go t (.code c :: .inLoop c :: k) ds .run up rd s
 | .scope c => fun _ _ _ go _ _ k t ds up rd s => go t (.code c :: .inScope c :: k) ds .run up rd s
 | .exit id => fun _ _ _ go _ _ k t ds up rd s => px go t ds up rd s (.exit id) (exitTo id k)
 | .goto l => fun _ _ _ go _ _ k t ds up rd s => px go t ds up rd s (.goto l) (gotoIn l k)
 | .rangeFunc g ps assign body => fun _ f fn go rec _ k t ds up rd s => ik f fn.ntmps go rec k t ds up rd s ps assign body (eval t g)
 | .region _ ops true => fun E _ fn go rec recR k t ds up rd s => bif gp ops fn.ntmps then iE go k rd (gI E ops rec recR t ds up s) else none
 | .region _ ops false => fun E _ fn go rec recR k t ds up rd s => bif gp ops fn.ntmps then iE go k rd (gG E ops rec recR rd ops.toList t ds up s) else none
 | .refuse _ => fun _ _ _ _ _ _ _ _ _ _ _ _ => none
def tV (go : Go) (k : List Item) (t : T V) (ds : List dT) (up : Option Md) (rd : Option Nat) (l : Nat) (s : S) : Option bP → Option cX
 | some (.loop .ready pend f t' ps a b d nt) => go t k ds .run up rd (s.put l (.loop .busy pend f t' ps a b d nt))
 | _ => none
def dD : Item → Py
 | .code c => cA c
 | .inBlock _ => fun _ _ _ go _ _ k t ds up rd s => go t k ds .run up rd s
 | .inScope _ => fun _ _ _ go _ _ k t ds up rd s => go t k ds .run up rd s
 | .inLoop c => fun _ _ _ go _ _ k t ds up rd s => go t (.code c :: .inLoop c :: k) ds .run up rd s
 | .beginRound => fun _ _ _ go _ _ k t ds up rd s => match rd with
  | some l => tV go k t ds up (some l) l s (s.get l)
  | none => none
 | _ => fun _ _ _ _ _ _ _ _ _ _ _ _ => none
def cQ : List Item → cg → FuncId → Func → Go → fu → pK → T V → List dT → Option Md → Option Nat → S → Option cX
 | [] => fun _ _ _ go _ _ t ds up rd s => iU go t ds up rd s none
 | i :: k => fun E f fn go rec recR t ds up rd s => dD i E f fn go rec recR k t ds up rd s
def jX (go : Go) (t : T V) (ds : List dT) (up : Option Md) (rd : Option Nat) : Option cX → Option cX
 | some ⟨.returned _, some u, s⟩ => match u with
  | .run => none
  | u => go t [] ds (kq u) up rd s
 | some ⟨.panicked c, some u, s⟩ => go t [] ds (Ah u c) up rd s
 | _ => none
def iO (go : Go) (t : T V) (ds : List dT) (m : Md) (up : Option Md) (rd : Option Nat) (s : S) (d : Nat) : Option bP → Option cX
 | some .deferred => go t [] ds m up rd (s.put d .gone)
 | _ => none
def Cm (up : Option Md) (s : S) : Option V → Option cX
 | some v => some ⟨.returned v, up, s⟩
 | none => none
def jt (E : cg) (fn : Func) (t : T V) (up : Option Md) (s : S) : Md → Option cX
 | .returning => Cm up s (cJ E.P fn t s)
 | .panicking c => some ⟨.panicked c, up, s⟩
 | .run => none
def cn : List dT → cg → Func → Go → fu → T V → Md → Option Md → Option Nat → S → Option cX
 | .collected d :: ds => fun _ _ go _ t m up rd s => iO go t ds m up rd s d (s.get d)
 | .call (.func f) captured args :: ds => fun _ _ go rec t m up rd s => jX go t ds up rd (rec f (args ++ captured) (some m) s)
 | .call _ _ _ :: _ => fun _ _ _ _ _ _ _ _ _ => none
 | [] => fun E fn _ _ t m up _ s => jt E fn t up s m
def aV (E : cg) (f : FuncId) (fn : Func) (go : Go) (rec : fu) (recR : pK) (t : T V) (todo : List Item) (ds : List dT) (m : Md) (up : Option Md) (rd : Option Nat) (s : S) : Option cX :=
 match m with
 | .run => cQ todo E f fn go rec recR t ds up rd s
 | .returning => cn ds E fn go rec t .returning up rd s
 | .panicking c => cn ds E fn go rec t (.panicking c) up rd s
inductive sd where
 | frame (f : FuncId) (fn : Func) (t : T V) (todo : List Item) (ds : List dT) (m : Md) (up : Option Md) (rd : Option Nat)
 | call (f : FuncId) (args : List V) (up : Option Md)
 | round (l : Nat) (args : List V)
def fF (ih : sd → S → Option cX) (f : FuncId) (fn : Func) : Go := fun t todo ds m up rd s => ih (.frame f fn t todo ds m up rd) s
def bq (ih : sd → S → Option cX) : fu := fun g args up s => ih (.call g args up) s
def dW (ih : sd → S → Option cX) : pK := fun l args s => ih (.round l args) s
def pB (ih : sd → S → Option cX) (f : FuncId) (args : List V) (up : Option Md) (s : S) : Option Func → Option cX
 | some fn => match fn.body with
  | some c => bif fn.name == "runtime.NumGoroutine" then none else bi args 0 .leaf fun t => ih (.frame f fn t [.code c] [] .run up none) s
  | none => none
 | none => none
def mp (ih : sd → S → Option cX) (f : FuncId) (args : List V) (up : Option Md) (s : S) (fn : Option Func) : Option (V × S) → Option cX
 | some (v, s) => some ⟨.returned v, up, s⟩
 | none => pB ih f args up s fn
def uH (E : cg) (ih : sd → S → Option cX) (l : Nat) (args : List V) (s : S) : Option bP → Option cX
 | some (.loop _ _ f t ps assign body _ nt) => match E.P.funcs[f]? with
  | some fn => bif Nat.ble fn.ntmps nt && Nat.beq ps.size args.length && ps.toList.all (fun p => Nat.blt p nt) then
   cK t ps.toList args fun t => ih (.frame f fn t [.code assign, .beginRound, .code body] [] .run none (some l)) s
   else none
  | none => none
 | _ => none
def aU (E : cg) (ih : sd → S → Option cX) : sd → S → Option cX
 | .frame f fn t todo ds m up rd, s => aV E f fn (fF ih f fn) (bq ih) (dW ih) t todo ds m up rd s
 | .call f args up, s => mp ih f args up s (E.P.funcs[f]?) (match up with | none => E.orc f args s | some _ => none)
 | .round l args, s => uH E ih l args s (s.get l)
def pi (E : cg) (n : Nat) : sd → S → Option cX :=
 Nat.rec (motive := fun _ => sd → S → Option cX) (fun _ _ => none) (fun _ ih j s => aU E ih j s) n
end Go.AI
namespace Go.AI
theorem Ld : ∀ (n k n' k' : Nat), k ≤ n → k' ≤ n' → wY n k = wY n' k' → k = k' := by
 intro n
 induction n with
 | zero =>
  intro k n' k' hk hk' h
  obtain rfl : k = 0 := by omega
  cases n' with
  | zero => omega
  | succ n' =>
   cases k' with
   | zero => rfl
   | succ m =>
    simp only [wY] at h
    cases hb : Nat.beq (Nat.mod m 2) 1 <;> simp [hb] at h
 | succ n ih =>
  intro k n' k' hk hk' h
  cases k with
  | zero =>
   cases n' with
   | zero => omega
   | succ n' =>
    cases k' with
    | zero => rfl
    | succ m =>
     simp only [wY] at h
     cases hb : Nat.beq (Nat.mod m 2) 1 <;> simp [hb] at h
  | succ m =>
   cases n' with
   | zero =>
    obtain rfl : k' = 0 := by omega
    simp only [wY] at h
    cases hb : Nat.beq (Nat.mod m 2) 1 <;> simp [hb] at h
   | succ n' =>
    cases k' with
    | zero =>
     simp only [wY] at h
     cases hb : Nat.beq (Nat.mod m 2) 1 <;> simp [hb] at h
    | succ m' =>
     simp only [wY] at h
     have hd : ∀ x : Nat, Nat.div x 2 = x / 2 := fun _ => rfl
     have hm : ∀ x : Nat, Nat.mod x 2 = x % 2 := fun _ => rfl
     cases hb : Nat.beq (Nat.mod m 2) 1 <;> cases hb' : Nat.beq (Nat.mod m' 2) 1 <;> simp [hb, hb'] at h
     ·have h1 := ih (Nat.div m 2) n' (Nat.div m' 2) (by rw [hd]; omega) (by rw [hd]; omega) h
      rw [hd, hd] at h1
      rw [hm] at hb hb'
      have e1 : ¬ m % 2 = 1 := fun e => by rw [e] at hb; simp at hb
      have e2 : ¬ m' % 2 = 1 := fun e => by rw [e] at hb'; simp at hb'
      omega
     ·have h1 := ih (Nat.div m 2) n' (Nat.div m' 2) (by rw [hd]; omega) (by rw [hd]; omega) h
      rw [hd, hd] at h1
      rw [hm] at hb hb'
      have e1 : m % 2 = 1 := Nat.eq_of_beq_eq_true hb
      have e2 : m' % 2 = 1 := Nat.eq_of_beq_eq_true hb'
      omega
theorem NI {k k' : Nat} (h : eT k = eT k') : k = k' := Ld k k k' k' (Nat.le_refl _) (Nat.le_refl _) h
namespace T
variable {α : Type}
section
variable {β : Type} (x : Option α) (p : xB) (l r : T α) (v : Option α) (k : T α → β)
theorem get_leaf (p : xB) : (T.leaf : T α).get p = none := by cases p <;> rfl
theorem get_o : (T.node l v r).get .o = v := rfl
theorem get_l : (T.node l v r).get (.l p) = l.get p := rfl
theorem get_r : (T.node l v r).get (.r p) = r.get p := rfl
theorem nf : setK x (.l p) .leaf k = setK x p .leaf fun t => k (.node t none .leaf) := rfl
theorem nc : setK x (.l p) (.node l v r) k = setK x p l fun t => k (.node t v r) := rfl
theorem mZ : setK x (.r p) .leaf k = setK x p .leaf fun t => k (.node .leaf none t) := rfl
theorem mY : setK x (.r p) (.node l v r) k = setK x p r fun t => k (.node l v t) := rfl
end
def set (x : Option α) (p : xB) (t : T α) : T α := setK x p t id
theorem Kr (x : Option α) : ∀ (p : xB) (β : Type) (t : T α) (k : T α → β), setK x p t k = k (setK x p t id) := by
 intro p
 induction p with
 | o => intro β t k; cases t <;> rfl
 | l p ih =>
  intro β t k
  cases t with
  | leaf => rw [nf, nf, ih β, ih (T α) .leaf (fun t => id (T.node t none .leaf))]; rfl
  | node l v r => rw [nc, nc, ih β, ih (T α) l (fun t => id (T.node t v r))]; rfl
 | r p ih =>
  intro β t k
  cases t with
  | leaf => rw [mZ, mZ, ih β, ih (T α) .leaf (fun t => id (T.node .leaf none t))]; rfl
  | node l v r => rw [mY, mY, ih β, ih (T α) r (fun t => id (T.node l v t))]; rfl
theorem setK_eq {β : Type} (x : Option α) (p : xB) (t : T α) (k : T α → β) : setK x p t k = k (set x p t) := Kr x p β t k
theorem lR (x : Option α) (p : xB) : set x (.l p) .leaf = .node (set x p .leaf) none .leaf := by unfold set; rw [nf, setK_eq]; rfl
theorem lP (x : Option α) (p : xB) : set x (.r p) .leaf = .node .leaf none (set x p .leaf) := by unfold set; rw [mZ, setK_eq]; rfl
theorem lQ (x : Option α) (p : xB) (l r : T α) (v : Option α) : set x (.l p) (.node l v r) = .node (set x p l) v r := by unfold set; rw [nc, setK_eq]; rfl
theorem lO (x : Option α) (p : xB) (l r : T α) (v : Option α) : set x (.r p) (.node l v r) = .node l v (set x p r) := by unfold set; rw [mY, setK_eq]; rfl
theorem ux (x : Option α) : set x .o .leaf = .node .leaf x .leaf := rfl
theorem uw (x : Option α) (l r : T α) (v : Option α) : set x .o (.node l v r) = .node l x r := rfl
theorem Aw (x : Option α) : ∀ (p : xB) (t : T α), (set x p t).get p = x := by
 intro p
 induction p with
 | o => intro t; cases t <;> rfl
 | l p ih => intro t; cases t <;> simp [lR, lQ, get_l, ih]
 | r p ih => intro t; cases t <;> simp [lP, lO, get_r, ih]
theorem xc (x : Option α) : ∀ (p q : xB) (t : T α), p ≠ q → (set x p t).get q = t.get q := by
 intro p
 induction p with
 | o =>
  intro q t h
  cases q with
  | o => exact absurd rfl h
  | l q => cases t <;> simp [ux, uw, get_l, get_leaf]
  | r q => cases t <;> simp [ux, uw, get_r, get_leaf]
 | l p ih =>
  intro q t h
  cases q with
  | o => cases t <;> simp [lR, lQ, get_o, get_leaf]
  | l q =>
   have h' : p ≠ q := fun e => h (by rw [e])
   cases t <;> simp [lR, lQ, get_l, ih q _ h', get_leaf]
  | r q => cases t <;> simp [lR, lQ, get_r, get_leaf]
 | r p ih =>
  intro q t h
  cases q with
  | o => cases t <;> simp [lP, lO, get_o, get_leaf]
  | r q =>
   have h' : p ≠ q := fun e => h (by rw [e])
   cases t <;> simp [lP, lO, get_r, ih q _ h', get_leaf]
  | l q => cases t <;> simp [lP, lO, get_l, get_leaf]
theorem get_setN (x : Option α) (i j : Nat) (t : T α) : (set x (eT i) t).get (eT j) = if i = j then x else t.get (eT j) := by
 by_cases h : i = j
 ·subst h; simp [Aw]
 ·rw [if_neg h]; exact xc x _ _ t (fun e => h (NI e))
end T
theorem yr {β : Type} (n : Nat) (k : Nat → β) : Ay n k = k n := by cases n <;> rfl
theorem Jb {β : Type} (n : Int) (k : Int → β) : Fy n k = k n := by cases n <;> simp [Fy, yr]
theorem aS (k : IntKind) (n : Int) : mB k n = .int k n := Jb n _
theorem S.put_eq (s : S) (f : Nat) (b : bP) : s.put f b = ⟨s.h.set (some b) (eT f), s.next⟩ := by
 cases s; simp only [S.put]; rw [T.setK_eq]
theorem S.alloc_eq (s : S) (b : bP) : s.alloc b = ⟨s.h.set (some b) (eT s.next), s.next + 1⟩ := by
 cases s; simp only [S.alloc]; rw [T.setK_eq, yr]
theorem S.get_eq (s : S) (f : Nat) : s.get f = s.h.get (eT f) := by cases s; rfl
theorem S.get_put (s : S) (f g : Nat) (b : bP) : (s.put f b).get g = if f = g then some b else s.get g := by
 rw [S.put_eq, S.get_eq, S.get_eq, T.get_setN]
theorem S.get_alloc (s : S) (g : Nat) (b : bP) : (s.alloc b).get g = if s.next = g then some b else s.get g := by
 rw [S.alloc_eq, S.get_eq, S.get_eq, T.get_setN]
theorem S.next_put (s : S) (f : Nat) (b : bP) : (s.put f b).next = s.next := by rw [S.put_eq]
theorem S.next_alloc (s : S) (b : bP) : (s.alloc b).next = s.next + 1 := by rw [S.alloc_eq]
theorem NH {β : Type} (t : T V) (d : Option Tmp) (v : Option V) (k : T V → β) : mJ t d v k = k (mJ t d v id) := by
 cases d with
 | none => rfl
 | some i => simp only [mJ]; rw [T.setK_eq, T.setK_eq]; rfl
theorem LP (t : T V) (d : Option Tmp) (v : Option V) (i : Nat) : (mJ t d v id).get (eT i) = if d = some i then v else t.get (eT i) := by
 cases d with
 | none => simp [mJ]
 | some j => simp only [mJ]; rw [T.setK_eq]; simp only [id]; rw [T.get_setN]; simp
end Go.AI
namespace Go.AI
instance (n : Nat) : OfNat V n := ⟨.atom n⟩
abbrev iV (n : Int) : V := .int .i64 n
abbrev nS : V := .nilslice
abbrev s0 : V := .str []
abbrev cB (e : TypeId) (l : List V) : bP := .cells e false 1 [⟨0, 0, l⟩]
abbrev lf : T bP := .leaf
abbrev n0 (a c : T bP) : T bP := .node a none c
abbrev n1 (a : T bP) : T bP := .node a none .leaf
abbrev n2 (a : T bP) : T bP := .node .leaf none a
abbrev n3 (b : bP) : T bP := .node .leaf (some b) .leaf
abbrev n4 (a : T bP) (b : bP) (c : T bP) : T bP := .node a (some b) c
end Go.AI
