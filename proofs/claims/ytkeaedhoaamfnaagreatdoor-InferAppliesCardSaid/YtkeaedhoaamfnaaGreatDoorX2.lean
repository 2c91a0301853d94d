/- Symbolic walks in the evaluator: part 2. No conditions beyond those of the row. -/
import Derived.Test.YtkeaedhoaamfnaaGreatDoorX1
import Derived.Test.YtkeaedhoaamfnaaGreatDoorA6
set_option linter.unusedVariables false
set_option linter.unusedSimpArgs false
noncomputable section
/- Symbolic walks: the executor, and what its tree says. -/
namespace Go.AI
inductive Ask where
  | bin (op : BinOp) (ty : TypeId) (c : Bool) (x y : V)
  | un (op : UnOp) (x : V)
  | conv (src dst : TypeId) (x : V)
  | load (ty : TypeId) (x : V)
  | index (ty : TypeId) (x i : V)
  | indexAddr (ty : TypeId) (x i : V)
  | field (ty : TypeId) (x : V) (f : Nat)
  | fieldAddr (ty : TypeId) (x : V) (f : Nat)
  | nilCheck (x : V)
  | slice (ty : TypeId) (x : V) (lo hi mx : Option V)
  | lookup (ty : TypeId) (m k : V) (ok : Bool)
  | assert (ty : TypeId) (x : V) (ok : Bool)
  | iface (ty : TypeId) (x : V)
  | bif (b : Builtin) (ts : Array TypeId) (args : List V)
  | ext (k : ExtK) (args : List V)
inductive Act where
  | mapUpd (ty : TypeId) (m k x : V)
  | makeMap
  | makeSlice (ty : TypeId) (l c : V)
  | conv (src dst : TypeId) (x : V)
  | store (ty : TypeId) (x y : V)
  | bif (b : Builtin) (ts : Array TypeId) (args : List V)
def plainDst (P : Program) (dst : TypeId) : Bool := match P.underlying dst with
  | some (.slice _) => false
  | _ => true
def nxVal1 : Option Nx → Option V
  | some (.val v _) => some v
  | _ => none
def nxBoth : Option Nx → Option (V × S)
  | some (.val v s) => some (v, s)
  | some (.skip s) => some (V.undef, s)
  | _ => none
def guardA (P : Program) (op : BinOp) (t : TypeId) (c : Bool) (a b : V) : Bool :=
  bif isEq op then match a, b with
    | .nilIface, .nilIface => c
    | .agg _, .agg _ => !(P.eqGuardType P.depth t)
    | _, _ => true
  else true
def doBinA (P : Program) (s : S) (op : BinOp) (ty : TypeId) (c : Bool) (a b : V) : Option V := bif guardA P op ty c a b then binOpV P (plainAt s) op ty a b else none
theorem doBinA_eq (P : Program) (s : S) (op : BinOp) (ty : TypeId) (x y : Operand) (a b : V) : doBin P s op ty x y (some a) (some b) = doBinA P s op ty (isConstO x || isConstO y) a b := by
  have : guardOk P op ty x y a b = guardA P op ty (isConstO x || isConstO y) a b := by
    unfold guardOk guardA
    cases isEq op <;> rfl
  simp only [doBin, doBinA, this]
def Ask.run (P : Program) (s : S) : Ask → Option V
  | .bin op ty c x y => doBinA P s op ty c x y
  | .un op x => unOpV op x
  | .conv src dst x => bif plainDst P dst then (convV P s src dst x).map (·.1) else none
  | .load ty x => nxVal1 (doLoad P s ty (some x))
  | .index ty x i => doIndex P ty (some x) (natOf i)
  | .indexAddr ty x i => doIndexAddr P ty (some x) (natOf i)
  | .field ty x f => doField P ty (some x) f
  | .fieldAddr ty x f => doFieldAddr P ty (some x) f
  | .nilCheck x => doNilCheck (some x)
  | .slice ty x lo hi mx => doSlice P ty (some x) (some lo) (some hi) (some mx)
  | .lookup ty m k ok => doLookup P s ty (some m) (some k) ok
  | .assert ty x ok => doAssert P (some x) ty ok
  | .iface ty x => doMkIface P ty (some x)
  | .bif b ts args => match b with
    | .len | .cap | .max | .min => nxVal1 (callB P b ts args s)
    | _ => none
  | .ext k args => externV k args
def Act.run (P : Program) (s : S) : Act → Option (V × S)
  | .mapUpd ty m k x => nxBoth (doMapUpdate P s ty (some m) (some k) (some x))
  | .makeMap => some (.map s.next, s.alloc (.map [] 0))
  | .makeSlice ty l c => nxBoth (doMkSlice P s ty (natOf l) (natOf c))
  | .conv src dst x => convV P s src dst x
  | .store ty x y => nxBoth (doStore P s ty (some x) (some y))
  | .bif b ts args => match b with
    | .append | .copy => nxBoth (callB P b ts args s)
    | _ => none
def subO (e : Sg) (v : Option V) : Option V := v.map (sub e)
def Ask.sub (e : Sg) : Ask → Ask
  | .bin op ty c x y => .bin op ty c (Go.AI.sub e x) (Go.AI.sub e y)
  | .un op x => .un op (Go.AI.sub e x)
  | .conv src dst x => .conv src dst (Go.AI.sub e x)
  | .load ty x => .load ty (Go.AI.sub e x)
  | .index ty x i => .index ty (Go.AI.sub e x) (Go.AI.sub e i)
  | .indexAddr ty x i => .indexAddr ty (Go.AI.sub e x) (Go.AI.sub e i)
  | .field ty x f => .field ty (Go.AI.sub e x) f
  | .fieldAddr ty x f => .fieldAddr ty (Go.AI.sub e x) f
  | .nilCheck x => .nilCheck (Go.AI.sub e x)
  | .slice ty x lo hi mx => .slice ty (Go.AI.sub e x) (subO e lo) (subO e hi) (subO e mx)
  | .lookup ty m k ok => .lookup ty (Go.AI.sub e m) (Go.AI.sub e k) ok
  | .assert ty x ok => .assert ty (Go.AI.sub e x) ok
  | .iface ty x => .iface ty (Go.AI.sub e x)
  | .bif b ts args => .bif b ts (subL e args)
  | .ext k args => .ext k (subL e args)
def Act.sub (e : Sg) : Act → Act
  | .mapUpd ty m k x => .mapUpd ty (Go.AI.sub e m) (Go.AI.sub e k) (Go.AI.sub e x)
  | .makeMap => .makeMap
  | .makeSlice ty l c => .makeSlice ty (Go.AI.sub e l) (Go.AI.sub e c)
  | .conv src dst x => .conv src dst (Go.AI.sub e x)
  | .store ty x y => .store ty (Go.AI.sub e x) (Go.AI.sub e y)
  | .bif b ts args => .bif b ts (subL e args)
def o2 (x y : Option V) (k : V → V → Ask) : Option Ask := match x with
  | some x => match y with
    | some y => some (k x y)
    | none => none
  | none => none
def extOf (E : Env) (g : FuncId) : Option ExtK := match E.P.funcs[g]? with
  | some fn => match fn.body with
    | none => E.ext g
    | some _ => none
  | none => none
def askOf (E : Env) (tx : T V) : Op → Option Ask
  | .binOp op ty x y _ => o2 (eval tx x) (eval tx y) (.bin op ty (isConstO x || isConstO y))
  | .unOp op _ x => (eval tx x).map (.un op)
  | .convert src dst x => bif plainDst E.P dst then (eval tx x).map (.conv src dst) else none
  | .load ty x => (eval tx x).map (.load ty)
  | .index ty x i => o2 (eval tx x) (eval tx i) (.index ty)
  | .indexAddr ty x i => o2 (eval tx x) (eval tx i) (.indexAddr ty)
  | .field ty x f => (eval tx x).map (fun v => .field ty v f)
  | .fieldAddr ty x f => (eval tx x).map (fun v => .fieldAddr ty v f)
  | .nilCheck x => (eval tx x).map .nilCheck
  | .slice ty x lo hi mx => match eval tx x with
    | some x => match evalO tx lo with
      | some lo => match evalO tx hi with
        | some hi => match evalO tx mx with
          | some mx => some (.slice ty x lo hi mx)
          | none => none
        | none => none
      | none => none
    | none => none
  | .lookup ty x k ok => o2 (eval tx x) (eval tx k) (fun a b => .lookup ty a b ok)
  | .typeAssert x _ ty ok => (eval tx x).map (fun v => .assert ty v ok)
  | .makeInterface ty x => (eval tx x).map (.iface ty)
  | .call c => match c.callee with
    | .builtin b => match b with
      | .len | .cap | .max | .min => (evals tx c.args.toList).map (.bif b c.argTypes)
      | _ => none
    | .value f => match eval tx f with
      | some (.func (.func g) fi ca) => match extOf E g with
        | some k => (evals tx c.args.toList).map (fun a => .ext k (fi ++ (a ++ ca)))
        | none => none
      | _ => none
    | _ => none
  | _ => none
def actOf (P : Program) (tx : T V) : Op → Option Act
  | .mapUpdate ty m k x => match eval tx m with
    | some m => match eval tx k with
      | some k => match eval tx x with
        | some x => some (.mapUpd ty m k x)
        | none => none
      | none => none
    | none => none
  | .makeMap _ none => some .makeMap
  | .makeSlice ty l c => match eval tx l with
    | some l => match eval tx c with
      | some c => some (.makeSlice ty l c)
      | none => none
    | none => none
  | .convert src dst x => bif plainDst P dst then none else (eval tx x).map (.conv src dst)
  | .store ty x y => match eval tx x with
    | some x => match eval tx y with
      | some y => some (.store ty x y)
      | none => none
    | none => none
  | .call c => match c.callee with
    | .builtin b => match b with
      | .append | .copy => (evals tx c.args.toList).map (.bif b c.argTypes)
      | _ => none
    | _ => none
  | _ => none
inductive Tree where
  | ask (a : Ask) (u : Bool) (own : List (Nat × Blk)) (n : Nat) (v : V) (k : Tree)
  | act (a : Act) (own : List (Nat × Blk)) (n : Nat) (v : V) (k : Tree)
  | new (k : Tree)
  | call (f : FuncId) (args : List V) (own after : List (Nat × Blk)) (n : Nat) (v : V) (pk : Bool) (k : Tree)
  | calla (f : V) (args : List V) (own : List (Nat × Blk)) (n : Nat) (v : V) (k : Tree)
  | callS (f : FuncId) (args : List V) (own : List (Nat × Blk)) (n : Nat) (v : V) (k : Tree)
  | cond (i : Nat) (a b : Tree)
  | ret (v : V) (own : List (Nat × Blk))
  | pan (v : V) (own : List (Nat × Blk))
  | loop (d n : Nat) (vs : List V) (bs : List Nat) (own : List Blk) (k : Tree)
  | back (d : Nat) (vs : List V) (bs : List Nat)
  | cut (n : Nat) (vs : List V) (bs : List Nat) (own : List Blk) (k : Tree)
  deriving Inhabited
def atoms (na : Nat) : Nat → List V
  | 0 => []
  | n + 1 => .atom na :: atoms (na + 1) n
mutual
def tmpl (P : Program) : Nat → TypeId → Nat → V × Nat
  | 0, _, na => (.atom na, 1)
  | d + 1, ty, na => match P.underlying ty with
    | some (.tuple es) => match tmpls P d es.toList na with
      | (l, n) => (.tuple l, n)
    | some (.struct _) => match size P ty with
      | some n => (.agg (atoms na n), n)
      | none => (.atom na, 1)
    | some (.array _ _) => match size P ty with
      | some n => (.agg (atoms na n), n)
      | none => (.atom na, 1)
    | _ => (.atom na, 1)
def tmpls (P : Program) : Nat → List TypeId → Nat → List V × Nat
  | 0, _, _ => ([], 0)
  | _, [], _ => ([], 0)
  | d + 1, ty :: r, na => match tmpl P d ty na with
    | (v, n) => match tmpls P d r (na + n) with
      | (l, m) => (v :: l, n + m)
end
def tmplO (P : Program) (o : Oper) (na : Nat) : V × Nat := match o.op with
  | .binOp .. | .unOp .. | .nilCheck .. | .indexAddr .. | .fieldAddr .. => (.atom na, 1)
  | _ => tmpl P 12 o.type na
mutual
def bnd (na nb : Nat) : V → Bool
  | .ptr a => Nat.blt a.f nb
  | .slice a _ _ _ _ => Nat.blt a.f nb
  | .map r => Nat.blt r nb
  | .func fn fi ca => (match fn with | .yield l => Nat.blt l nb | _ => true) && bndL na nb fi && bndL na nb ca
  | .iface _ v => bnd na nb v
  | .agg l => bndL na nb l
  | .tuple l => bndL na nb l
  | .atom i => Nat.blt i na
  | _ => true
def bndL (na nb : Nat) : List V → Bool
  | [] => true
  | v :: r => bnd na nb v && bndL na nb r
end
def bndB (na nb : Nat) : Blk → Bool
  | .cells _ _ _ vers => vers.all fun u => bndL na nb u.cells
  | .map es _ => es.all fun x => bnd na nb x.key && bnd na nb x.val
  | _ => false
def heads : List V → List Nat
  | [] => []
  | .ptr a :: r => a.f :: heads r
  | .slice a _ _ _ _ :: r => a.f :: heads r
  | .map m :: r => m :: heads r
  | .func _ _ ca :: r => (ca.filterMap fun | .ptr a => some a.f | _ => none) ++ heads r
  | _ :: r => heads r
def factsOf (xs : S) : List Nat → List (Nat × Blk)
  | [] => []
  | f :: r => match xs.get f with
    | some B => (f, B) :: factsOf xs r
    | none => factsOf xs r
def Ask.heads : Ask → List Nat
  | .load _ x => Go.AI.heads [x]
  | .lookup _ m _ _ => Go.AI.heads [m]
  | .bif _ _ args => Go.AI.heads args
  | .conv _ _ x => Go.AI.heads [x]
  | .bin _ _ _ x y => Go.AI.heads [x, y]
  | _ => []
def Act.heads : Act → List Nat
  | .mapUpd _ m _ _ => Go.AI.heads [m]
  | .makeMap => []
  | .makeSlice _ _ _ => []
  | .conv _ _ x => Go.AI.heads [x]
  | .store _ x y => Go.AI.heads [x, y]
  | .bif _ _ args => Go.AI.heads args
abbrev Mods := List (Nat × List Nat)
structure CallSpec where
  mods : Mods
  pk : Bool
structure LoopAnn where
  key : Nat
  slots : List (Nat × Bool)
  blks : List (Nat × List Nat)
structure LoopRec where
  slots : List (Nat × V)
  blks : List Blk
  na : Nat
structure Cfg where
  E : Env
  fn : Func
  anns : List LoopAnn
  ct : List (FuncId × CallSpec)
  cuts : List LoopAnn      -- regions ahead of which paths meet
  nF : Nat      -- the first blocks: what the caller asks after at the end
def firstRegion : Code → Option Nat
  | .region id _ _ => some id
  | .seq a b => match firstRegion a with
    | some i => some i
    | none => firstRegion b
  | .cond _ a b => match firstRegion a with
    | some i => some i
    | none => firstRegion b
  | .block _ c => firstRegion c
  | .loop c => firstRegion c
  | .scope c => firstRegion c
  | _ => none
/- ---- heads of loops ---- -/
def posOf (f : Nat) : List Nat → Nat → Option Nat
  | [], _ => none
  | g :: r, i => bif Nat.beq f g then some i else posOf f r (i + 1)
mutual
def absV (bs : List Nat) (g : Bool) : V → List V → V × List V
  | .ptr a, l => match posOf a.f bs 0 with
    | some j => (.ptr ⟨j, a.v, a.c⟩, l)
    | none => (.atom l.length, l ++ [.ptr a])
  | .slice a z n c sz, l => match posOf a.f bs 0 with
    | some j => (.slice ⟨j, a.v, a.c⟩ z n c sz, l)
    | none => (.atom l.length, l ++ [.slice a z n c sz])
  | .map r, l => match posOf r bs 0 with
    | some j => (.map j, l)
    | none => (.atom l.length, l ++ [.map r])
  | .agg cs, l => match absL bs g cs l with
    | (cs, l) => (.agg cs, l)
  | .tuple cs, l => match absL bs g cs l with
    | (cs, l) => (.tuple cs, l)
  | .func fn fi ca, l => match absL bs false fi l with
    | (fi, l) => match absL bs false ca l with
      | (ca, l) => (.func fn fi ca, l)
  | .atom i, l => (.atom l.length, l ++ [.atom i])
  | v, l => bif g then (.atom l.length, l ++ [v]) else (v, l)
def absL (bs : List Nat) (g : Bool) : List V → List V → List V × List V
  | [], l => ([], l)
  | v :: r, l => match absV bs g v l with
    | (v, l) => match absL bs g r l with
      | (r, l) => (v :: r, l)
end
def absCells (bs : List Nat) (gs : List Nat) : Nat → List V → List V → List V × List V
  | _, [], l => ([], l)
  | i, v :: r, l => match absV bs (gs.contains i) v l with
    | (v, l) => match absCells bs gs (i + 1) r l with
      | (r, l) => (v :: r, l)
def absSlots (bs : List Nat) (tx : T V) : List (Nat × Bool) → List V → Option (List (Nat × V) × List V)
  | [], l => some ([], l)
  | (i, g) :: r, l => match tx.get (pth i) with
    | some v => match absV bs g v l with
      | (v, l) => match absSlots bs tx r l with
        | some (r, l) => some ((i, v) :: r, l)
        | none => none
    | none => none
def absBlks (bs : List Nat) (xs : S) : List (Nat × List Nat) → List V → Option (List Blk × List V)
  | [], l => some ([], l)
  | (f, gs) :: r, l => match xs.get f with
    | some (.cells el sb nv [⟨v, lo, cs⟩]) => match absCells bs gs 0 cs l with
      | (cs, l) => match absBlks bs xs r l with
        | some (r, l) => some (.cells el sb nv [⟨v, lo, cs⟩] :: r, l)
        | none => none
    | _ => none
mutual
def findV : V → V → List (Nat × V) × List (Nat × Nat)
  | .atom i, w => ([(i, w)], [])
  | .ptr a, .ptr b => ([], [(a.f, b.f)])
  | .slice a _ _ _ _, .slice b _ _ _ _ => ([], [(a.f, b.f)])
  | .map a, .map b => ([], [(a, b)])
  | .agg a, .agg b => findL a b
  | .tuple a, .tuple b => findL a b
  | .func _ a b, .func _ c d => match findL a c with
    | (x, y) => match findL b d with
      | (z, w) => (x ++ z, y ++ w)
  | _, _ => ([], [])
def findL : List V → List V → List (Nat × V) × List (Nat × Nat)
  | a :: r, b :: q => match findV a b with
    | (x, y) => match findL r q with
      | (z, w) => (x ++ z, y ++ w)
  | _, _ => ([], [])
end
def lookN {α : Type} : List (Nat × α) → Nat → Option α
  | [], _ => none
  | (j, x) :: r, i => bif Nat.beq i j then some x else lookN r i
def findSlots (tx : T V) : List (Nat × V) → List (Nat × V) × List (Nat × Nat)
  | [] => ([], [])
  | (i, v) :: r => match tx.get (pth i) with
    | some w => match findV v w with
      | (x, y) => match findSlots tx r with
        | (z, u) => (x ++ z, y ++ u)
    | none => ([], [])
def bsOf (m : List (Nat × Nat)) (j : Nat) : Nat := match lookN m j with
  | some f => f
  | none => j
def findBlks (xs : S) (m : List (Nat × Nat)) : Nat → List Blk → List (Nat × V)
  | _, [] => []
  | j, .cells _ _ _ [⟨_, _, cs⟩] :: r => match xs.get (bsOf m j) with
    | some (.cells _ _ _ [⟨_, _, ds⟩]) => (findL cs ds).1 ++ findBlks xs m (j + 1) r
    | _ => []
  | _, _ => []
def sameB : Blk → Blk → Bool
  | .cells e sb nv [⟨v, lo, cs⟩], .cells e' sb' nv' [⟨v', lo', cs'⟩] => Nat.beq e e' && sb == sb' && Nat.beq nv nv' && Nat.beq v v' && Nat.beq lo lo' && sameVs cs cs'
  | _, _ => false
def fitsSlots (tx : T V) (q : Sg) : List (Nat × V) → Bool
  | [] => true
  | (i, v) :: r => (match tx.get (pth i) with
    | some w => sameVs [sub q v] [w]
    | none => false) && fitsSlots tx q r
def fitsBlks (xs : S) (q : Sg) : List Nat → List Blk → Bool
  | [], [] => true
  | f :: fs, B :: r => (match xs.get f with
    | some C => sameB (subB q B) C
    | none => false) && fitsBlks xs q fs r
  | _, _ => false
def distinct : List Nat → Bool
  | [] => true
  | f :: r => !(r.contains f) && distinct r
def fits (R : LoopRec) (tx : T V) (xs : S) (vs : List V) (bs : List Nat) : Bool :=
  Nat.beq vs.length R.na && vs.all V.one && distinct bs && bs.all (fun f => Nat.blt f xs.next) &&
  R.slots.all (fun x => bnd R.na bs.length x.2) && R.blks.all (fun B => bndB R.na bs.length B && B.isOwn) && fitsSlots tx ⟨vs, bs⟩ R.slots && fitsBlks xs ⟨vs, bs⟩ bs R.blks
def valsOf (m : List (Nat × V)) : Nat → Nat → List V
  | _, 0 => []
  | i, n + 1 => (match lookN m i with | some v => v | none => .nilptr) :: valsOf m (i + 1) n
def bssOf (m : List (Nat × Nat)) : Nat → Nat → List Nat
  | _, 0 => []
  | j, n + 1 => bsOf m j :: bssOf m (j + 1) n
def listT : List (Nat × V) → T V
  | [] => .leaf
  | (i, v) :: r => (listT r).setK (some v) (pth i) id
def listS : S → List Blk → S
  | s, [] => s
  | s, B :: r => listS (s.alloc B) r
def depth : List Item → Nat
  | [] => 0
  | .inLoop _ :: r => depth r + 1
  | _ :: r => depth r
/- ---- the executor ---- -/
abbrev Kx := T V → S → Nat → Option Tree
def atomAt (tx : T V) (d : Option Tmp) : Option Nat := match d with
  | some d => match tx.get (pth d) with
    | some (.atom i) => some i
    | _ => none
  | none => none
def splitAt (ops : Array Oper) (tx : T V) (o : Oper) : Option Tmp :=
  match o.guard with
  | some (j, _) => match atomAt tx ((ops[j]?).bind (·.dst)) with
    | some _ => (ops[j]?).bind (·.dst)
    | none => pickAt
  | none => pickAt
 where pickAt : Option Tmp := match o.op with
  | .pick (.tmp d) _ _ => match atomAt tx (some d) with
    | some _ => some d
    | none => none
  | _ => none
def condT (i : Nat) (a b : Option Tree) : Option Tree := match a with
  | some a => match b with
    | some b => some (.cond i a b)
    | none => none
  | none => none
def xsplit (ops : Array Oper) (o : Oper) (k : T V → Option Tree) : Nat → T V → Option Tree
  | 0, tx => k tx
  | n + 1, tx => match splitAt ops tx o with
    | some d => match atomAt tx (some d) with
      | some i => condT i (xsplit ops o k n (putD tx (some d) (.bool true))) (xsplit ops o k n (putD tx (some d) (.bool false)))
      | none => none
    | none => k tx
def setAtoms (na : Nat) (gs : List Nat) : Nat → List V → List V × Nat
  | _, [] => ([], na)
  | i, v :: r => bif gs.contains i then (match setAtoms (na + 1) gs (i + 1) r with | (r, n) => (.atom na :: r, n)) else (match setAtoms na gs (i + 1) r with | (r, n) => (v :: r, n))
def modded (xs : S) (args : List V) : Nat → Mods → List (Nat × Blk) × Nat
  | na, [] => ([], na)
  | na, (i, gs) :: r => match args[i]? with
    | some (.ptr a) => match xs.get a.f with
      | some (.cells el sb nv [⟨v, lo, cs⟩]) => match setAtoms na gs 0 cs with
        | (cs, na) => match modded xs args na r with
          | (l, na) => ((a.f, .cells el sb nv [⟨v, lo, cs⟩]) :: l, na)
      | _ => modded xs args na r
    | _ => modded xs args na r
def putAll (xs : S) : List (Nat × Blk) → S
  | [] => xs
  | (f, B) :: r => putAll (xs.put f B) r
def okAfter (xs : S) (na : Nat) (l : List (Nat × Blk)) : Bool := distinct (l.map (·.1)) && l.all fun x => (match xs.get x.1 with | some _ => true | none => false) && bndB na xs.next x.2 && x.2.isOwn
def xcall (C : Cfg) (f : FuncId) (args : List V) (ty : TypeId) (xs : S) (na : Nat) (plain : Bool) (k : V → S → Nat → Option Tree) : Option Tree :=
  match lookN C.ct f with
  | some c => match modded xs args na c.mods with
    | (after, na1) => match tmpl C.E.P 12 ty na1 with
      | (v, n) => bif Nat.ble na na1 && okAfter xs (na1 + n) after && bnd (na1 + n) xs.next v && (plain || !c.pk) then
          (k v (putAll xs after) (na1 + n)).map (.call f args (factsOf xs (heads args)) after (na1 + n - na) v c.pk) else none
  | none => match tmpl C.E.P 12 ty na with
    | (v, n) => bif bnd (na + n) xs.next v then (k v xs (na + n)).map (.call f args (factsOf xs (heads args)) [] n v false) else none
def newT (xs xs' : S) (k : Option Tree) : Option Tree := bif Nat.beq xs'.next xs.next then k else bif Nat.beq xs'.next (xs.next + 1) then k.map .new else none
def callaOf (tx : T V) : Op → Option (V × List V)
  | .call c => match c.callee with
    | .value f => match eval tx f with
      | some (.atom i) => match evals tx c.args.toList with
        | some args => some (.atom i, args)
        | none => none
      | _ => none
    | _ => none
  | _ => none
def xstep (C : Cfg) (o : Oper) (tx : T V) (xs : S) (na : Nat) (plain : Bool) (k : V → S → Nat → Option Tree) : Option Tree :=
  match bif xOk tx o.op then opDo o.op C.E tx xs else none with
  | some (.val v xs') => newT xs xs' (k v xs' na)
  | some (.skip xs') => newT xs xs' (k V.undef xs' na)
  | some (.enter f args _) => xcall C f args o.type xs na plain k
  | some (.panic v _) => bif !plain then none else some (.pan v (factsOf xs (List.range C.nF)))
  | some _ => none
  | none => match askOf C.E tx o.op with
    | some a => match tmplO C.E.P o na with
      | (v, n) => bif bnd (na + n) xs.next v then (k v xs (na + n)).map (.ask a true (factsOf xs a.heads) n v) else none
    | none => match actOf C.E.P tx o.op with
      | some a => match tmplO C.E.P o na with
        | (v, n) => bif bnd (na + n) xs.next v then (k v xs (na + n)).map (.act a (factsOf xs a.heads) n v) else none
      | none => match bif plain then callaOf tx o.op else none with
        | some (f, args) => match tmplO C.E.P o na with
          | (v, n) => bif bnd (na + n) xs.next v then (k v xs (na + n)).map (.calla f args (factsOf xs (heads args)) n v) else none
        | none => none
def xops (C : Cfg) (ops : Array Oper) (k : Kx) : List Oper → Kx
  | [] => k
  | o :: r => fun tx xs na => xsplit ops o (fun tx => match wantedV ops tx o with
    | some true => xstep C o tx xs na true fun v xs na => xops C ops k r (putD tx o.dst v) xs na
    | some false => xops C ops k r (putD tx o.dst V.undef) xs na
    | none => none) 2 tx
def Cfg.uf (C : Cfg) : Bool := C.cuts.any fun a => Nat.beq a.key 999999
def Cfg.us (C : Cfg) : Bool := C.cuts.any fun a => Nat.beq a.key 999998
def xcallS (C : Cfg) (f : FuncId) (args : List V) (ty : TypeId) (xs : S) (na : Nat) (k : V → S → Nat → Option Tree) : Option Tree :=
  match tmpl C.E.P 12 ty na with
  | (v, n) => bif bnd (na + n) xs.next v then (k v xs (na + n)).map (.callS f args (factsOf xs (heads args)) n v) else none
def plainCt (C : Cfg) (f : FuncId) : Bool := match lookN C.ct f with
  | some c => c.mods.isEmpty && !c.pk
  | none => true
def enterOf (C : Cfg) (o : Oper) (tx : T V) (xs : S) : Option (FuncId × List V) := match bif xOk tx o.op then opDo o.op C.E tx xs else none with
  | some (.enter f args _) => bif plainCt C f then some (f, args) else none
  | _ => none
def xfloat (C : Cfg) (o : Oper) (hist : List S) (fr : Bool) (tx : T V) (xs : S) (na : Nat) (k : V → S → Nat → Option Tree) : Option Tree :=
  match opKind C.E.P o.op with
  | 0 => match bif xOk tx o.op then opDo o.op C.E tx xs else none with
    | some (.val v _) => k v xs na
    | some _ => none
    | none => askF xs false false
  | 1 => match bif xOk tx o.op then readAll C.E tx o hist else none with
    | some v => k v xs na
    | none => match hist with
      | [x] => askF x true fr
      | [] => none
      | _ => askF xs false fr
  | 2 => match bif xOk tx o.op then opDo o.op C.E tx xs else none with
    | some (.val v xs') => newT xs xs' (k v xs' na)
    | some _ => none
    | none => match actOf C.E.P tx o.op with
      | some a => match tmplO C.E.P o na with
        | (v, n) => bif bnd (na + n) xs.next v then (k v xs (na + n)).map (.act a (factsOf xs a.heads) n v) else none
      | none => none
  | _ => none
 where askF (x : S) (own u : Bool) : Option Tree := match askOf C.E tx o.op with
  | some a => match tmplO C.E.P o na with
    | (v, n) => bif bnd (na + n) xs.next v then (k v xs (na + n)).map (.ask a u (bif own then factsOf x a.heads else []) n v) else none
  | none => none
def xsch (C : Cfg) (ops : Array Oper) (k : Kx) : List (Option Nat × Nat) → List S → Nat → Kx
  | [], _, _ => k
  | (c, i) :: r, hist, uc => fun tx xs na => match ops[i]? with
    | none => none
    | some o => xsplit ops o (fun tx => match wantedV ops tx o with
      | some true => match c with
        | some c => xfloat C o (hist.take c) (Nat.ble (hist.take c).length uc) tx xs na fun v xs' na => xsch C ops k r hist (bif Nat.beq (opKind C.E.P o.op) 2 && Nat.beq xs'.next xs.next then 0 else uc) (putD tx o.dst v) xs' na
        | none => match bif C.us then enterOf C o tx xs else none with
          | some (f, args) => xcallS C f args o.type xs na fun v xs na => xsch C ops k r (xs :: hist) (uc + 1) (putD tx o.dst v) xs na
          | none => xstep C o tx xs na false fun v xs na => xsch C ops k r (xs :: hist) (bif C.uf then 1 else 0) (putD tx o.dst v) xs na
      | some false => match c with
        | some _ => xsch C ops k r hist uc (putD tx o.dst V.undef) xs na
        | none => xsch C ops k r (xs :: hist) (bif C.uf then 1 else 0) (putD tx o.dst V.undef) xs na
      | none => none) 2 tx
def annOf : List LoopAnn → Option Nat → Option LoopAnn
  | [], _ => none
  | a :: r, k => match k with
    | some k => bif Nat.beq a.key k then some a else annOf r (some k)
    | none => none
def reachB (xs : S) : Nat → List Nat → List V → List Nat
  | 0, seen, _ => seen
  | n + 1, seen, l => match (heads l).filter fun f => !(seen.contains f) with
    | [] => seen
    | new => match new.eraseDups with
      | new => reachB xs n (seen ++ new) (new.flatMap fun f => match xs.get f with
        | some (.cells _ _ _ [⟨_, _, cs⟩]) => cs.flatMap V.cells
        | _ => [])
def autoBlks (A : LoopAnn) (tx : T V) (xs : S) : List (Nat × List Nat) := match A.blks with
  | [] => (reachB xs 5 [] (A.slots.flatMap fun x => match tx.get (pth x.1) with
    | some v => v.cells.flatMap fun v => match v with | .tuple l => l | v => [v]
    | none => [])).filterMap fun f => match xs.get f with
      | some (.cells _ _ _ [⟨_, _, cs⟩]) => some (f, List.range cs.length)
      | _ => none
  | l => l
def xloopB (A : LoopAnn) (d : Nat) (tx : T V) (xs : S) (bk : List (Nat × List Nat)) (k : LoopRec → Option Tree) : Option Tree :=
  match absSlots (bk.map (·.1)) tx A.slots [] with
  | some (sl, l) => match absBlks (bk.map (·.1)) xs bk l with
    | some (bl, l) => match LoopRec.mk sl bl l.length with
      | R => bif fits R tx xs l (bk.map (·.1)) then (k R).map (.loop d l.length l (bk.map (·.1)) bl) else none
    | none => none
  | none => none
def xloop (A : LoopAnn) (d : Nat) (tx : T V) (xs : S) (k : LoopRec → Option Tree) : Option Tree := xloopB A d tx xs (autoBlks A tx xs) k
def xcutB (tx : T V) (xs : S) (A : LoopAnn) (bk : List (Nat × List Nat)) (k : LoopRec → Option Tree) : Option Tree :=
  match absSlots (bk.map (·.1)) tx A.slots [] with
  | some (sl, l) => match absBlks (bk.map (·.1)) xs bk l with
    | some (bl, l) => match LoopRec.mk sl bl l.length with
      | R => bif fits R tx xs l (bk.map (·.1)) then (k R).map (.cut l.length l (bk.map (·.1)) bl) else none
    | none => none
  | none => none
def xregion (C : Cfg) (ops : Array Oper) (dr : Bool) (k : Kx) : Kx := fun tx xs na => bif dstOk ops C.fn.ntmps then (match dr with
  | false => xops C ops k ops.toList tx xs na
  | true => match schOf C.E.P ops with
    | some sc => xsch C ops k sc [xs] (bif C.uf then 1 else 0) tx xs na
    | none => none) else none
def condKey (c : Code) : Option Nat := match firstRegion c with
  | some i => some (i + 100000)
  | none => none
def xcond (c : Operand) (ka kb : Kx) : Kx := fun tx xs na => match eval tx c with
  | some (.bool q) => bif q then ka tx xs na else kb tx xs na
  | some (.atom i) => match c with
    | .tmp d => condT i (ka (putD tx (some d) (.bool true)) xs na) (kb (putD tx (some d) (.bool false)) xs na)
    | _ => none
  | _ => none
def xback (R : LoopRec) (d : Nat) (tx : T V) (xs : S) : Option Tree :=
  match findSlots tx R.slots with
  | (vs, bs) => match findBlks xs bs 0 R.blks with
    | ws => match valsOf (vs ++ ws) 0 R.na with
      | l => match bssOf bs 0 R.blks.length with
        | b => bif fits R tx xs l b then some (.back d l b) else none
def xrun (C : Cfg) : Nat → List LoopRec → List Item → Kx
  | 0, _, _ => fun _ _ _ => none
  | n + 1, L, todo => match todo with
    | [] => fun tx xs _ => retT tx xs
    | i :: k => match i with
      | .code c => match c with
        | .ret => fun tx xs _ => retT tx xs
        | .skip => xrun C n L k
        | .label _ => xrun C n L k
        | .seq a b => xrun C n L (.code a :: .code b :: k)
        | .block id c => xrun C n L (.code c :: .inBlock id :: k)
        | .scope c => xrun C n L (.code c :: .inScope c :: k)
        | .exit id => match exitTo id k with
          | some k => xrun C n L k
          | none => fun _ _ _ => none
        | .cond c a b => fun tx xs na => match annOf C.cuts (condKey (.cond c a b)) with
          | some A => xcutB tx xs A (autoBlks A tx xs) fun R => xcond c (xrun C n L (.code a :: k)) (xrun C n L (.code b :: k)) (listT R.slots) (listS ⟨.leaf, 0⟩ R.blks) R.na
          | none => xcond c (xrun C n L (.code a :: k)) (xrun C n L (.code b :: k)) tx xs na
        | .region id ops dr => fun tx xs na => match annOf C.cuts (some id) with
          | some A => xcutB tx xs A (autoBlks A tx xs) fun R => xregion C ops dr (xrun C n L k) (listT R.slots) (listS ⟨.leaf, 0⟩ R.blks) R.na
          | none => xregion C ops dr (xrun C n L k) tx xs na
        | .loop c => fun tx xs _ => match annOf C.anns (firstRegion c) with
          | some A => xloop A (depth k) tx xs fun R => xrun C n (L.take (depth k) ++ [R]) (.code c :: .inLoop c :: k) (listT R.slots) (listS ⟨.leaf, 0⟩ R.blks) R.na
          | none => none
        | _ => fun _ _ _ => none
      | .inBlock _ => xrun C n L k
      | .inScope _ => xrun C n L k
      | .inLoop _ => fun tx xs _ => match L[depth k]? with
        | some R => xback R (depth k) tx xs
        | none => none
      | _ => fun _ _ _ => none
 where retT (tx : T V) (xs : S) : Option Tree := match resultsV C.E.P C.fn tx xs with
  | some v => some (.ret v (factsOf xs (List.range C.nF ++ heads v.cells)))
  | none => none
end Go.AI
/- Symbolic walks: what a tree says. -/
namespace Go.AI
def Stb (D : List Nat) (U : S → Prop) : Prop := ∀ s s', U s → (∀ g ∈ D, ∀ B, s.get g = some B → s'.get g = some B) → s.next ≤ s'.next → U s'
theorem stb_true : Stb [] fun _ => True := fun _ _ _ _ _ => trivial
def facts (e : Sg) (s : S) : List (Nat × Blk) → Prop
  | [] => True
  | x :: r => s.get (e.bl x.1) = some (subB e x.2) ∧ facts e s r
def onesV (l : List V) : Prop := l.all V.one = true
def idsOf (e : Sg) (l : List (Nat × Blk)) : List Nat := l.map fun x => e.bl x.1
def Sg.add (e : Sg) (vs : List V) : Sg := ⟨e.σ ++ vs, e.β⟩
abbrev LProp := List V → List Nat → List Nat → (S → Prop) → Prop
def FCall (E : Env) (f : V) (args : List V) (s : S) (w : V) (s' : S) : Prop :=
  (∃ g fi ca, f = .func (.func g) fi ca ∧ callF E g (fi ++ (args ++ ca)) s = some (.enter g (fi ++ (args ++ ca)) s) ∧ lim E (.call g (fi ++ (args ++ ca)) none) s = some ⟨.returned w, none, s'⟩) ∨
  (∃ l fi ca u, f = .func (.yield l) fi ca ∧ lim E (.round l (fi ++ args)) s = some ⟨.returned w, u, s'⟩)
def holds (E : Env) (F : List Nat) (s0 : S) (Q : Out → Prop) : Tree → Sg → List Nat → (S → Prop) → List LProp → Prop
  | .ask a u own n v k => fun e D U L => ∃ vs : List V, vs.length = n ∧ onesV vs ∧
      (∀ s, Fw F s0 s → WF s → (u = true → U s) → facts e s own → (a.sub e).run E.P s = some (sub (e.add vs) v)) ∧ holds E F s0 Q k (e.add vs) D U L
  | .act a own n v k => fun e D U L => ∀ s, Fw F s0 s → WF s → U s → facts e s own → ∃ (vs : List V) (s' : S) (D' : List Nat) (U' : S → Prop), vs.length = n ∧ onesV vs ∧
      (a.sub e).run E.P s = some (sub (e.add vs) v, s') ∧ Fw D s s' ∧ Stb D' U' ∧ U' s' ∧ (∀ g ∈ D', g < s'.next ∧ (g ∈ D ∨ s.next ≤ g)) ∧ holds E F s0 Q k (e.add vs) D' U' L
  | .new k => fun e D U L => ∀ b, s0.next ≤ b → b ∉ D → holds E F s0 Q k ⟨e.σ, e.β ++ [b]⟩ D U L
  | .call f args own after n v pk k => fun e D U L => ∀ s, Fw F s0 s → WF s → U s → facts e s own →
      (∃ (vs : List V) (s' : S), vs.length = n ∧ onesV vs ∧ lim E (.call f (args.map (sub e)) none) s = some ⟨.returned (sub (e.add vs) v), none, s'⟩ ∧ Fw (idsOf e after) s s' ∧ facts (e.add vs) s' after ∧ holds E F s0 Q k (e.add vs) D U L) ∨
      (∃ (vs : List V) (s' : S) (D' : List Nat) (U' : S → Prop), vs.length = n ∧ onesV vs ∧ lim E (.call f (args.map (sub e)) none) s = some ⟨.returned (sub (e.add vs) v), none, s'⟩ ∧ Fw (idsOf e after ++ D) s s' ∧ facts (e.add vs) s' after ∧
        Stb D' U' ∧ U' s' ∧ (∀ g ∈ D', g < s'.next ∧ (g ∈ D ∨ s.next ≤ g)) ∧ holds E F s0 Q k (e.add vs) D' U' L) ∨
      (pk = true ∧ ∃ c s', lim E (.call f (args.map (sub e)) none) s = some ⟨.panicked c, none, s'⟩ ∧ Q ⟨.panicked c, none, s'⟩)
  | .calla f args own n v k => fun e D U L => ∀ s, Fw F s0 s → WF s → U s → facts e s own → ∃ (vs : List V) (s' : S) (D' : List Nat) (U' : S → Prop), vs.length = n ∧ onesV vs ∧
      FCall E (sub e f) (args.map (sub e)) s (sub (e.add vs) v) s' ∧ Fw D s s' ∧ Stb D' U' ∧ U' s' ∧ (∀ g ∈ D', g < s'.next ∧ (g ∈ D ∨ s.next ≤ g)) ∧ holds E F s0 Q k (e.add vs) D' U' L
  | .callS f args own n v k => fun e D U L => ∀ s, Fw F s0 s → WF s → U s → facts e s own → ∃ (vs : List V) (s' : S), vs.length = n ∧ onesV vs ∧
      lim E (.call f (args.map (sub e)) none) s = some ⟨.returned (sub (e.add vs) v), none, s'⟩ ∧ Fw [] s s' ∧ holds E F s0 Q k (e.add vs) D U L
  | .cond i a b => fun e D U L => ∃ q : Bool, e.val i = .bool q ∧ (q = true → holds E F s0 Q a e D U L) ∧ (q = false → holds E F s0 Q b e D U L)
  | .ret v own => fun e D U L => ∀ s, Fw F s0 s → WF s → U s → facts e s own → Q ⟨.returned (sub e v), none, s⟩
  | .pan v own => fun e D U L => ∀ s, Fw F s0 s → WF s → U s → facts e s own → Q ⟨.panicked [⟨sub e v, false⟩], none, s⟩
  | .loop d n vs bs own k => fun e D U L => ∃ I : Nat → LProp,
      (∃ j U', Stb D U' ∧ (∀ s, Fw F s0 s → WF s → U s → U' s) ∧ I j (vs.map (sub e)) (bs.map e.bl) D U') ∧
      (∀ j vs' bs' D' U', I j vs' bs' D' U' → vs'.length = n → onesV vs' → bs'.length = bs.length → holds E F s0 Q k ⟨vs', bs'⟩ D' U' (L.take d ++ [fun vs bs D U => ∃ j', j' < j ∧ I j' vs bs D U]))
  | .cut n vs bs own k => fun e D U L => ∃ P : LProp, (∃ U', Stb D U' ∧ (∀ s, Fw F s0 s → WF s → U s → U' s) ∧ P (vs.map (sub e)) (bs.map e.bl) D U') ∧
      (∀ vs' bs' D' U', P vs' bs' D' U' → vs'.length = n → onesV vs' → bs'.length = bs.length → holds E F s0 Q k ⟨vs', bs'⟩ D' U' L)
  | .back d vs bs => fun e D U L => ∃ P U', L[d]? = some P ∧ Stb D U' ∧ (∀ s, Fw F s0 s → WF s → U s → U' s) ∧ P (vs.map (sub e)) (bs.map e.bl) D U'
structure XI (F : List Nat) (s0 : S) (e : Sg) (D : List Nat) (U : S → Prop) (xs s : S) : Prop where
  x : XR F s0 e xs s
  u : U s
  st : Stb D U
  d : ∀ g ∈ D, g < s.next ∧ (s0.next ≤ g ∨ g ∈ F) ∧ ∀ f, f < xs.next → e.bl f ≠ g
section
variable {F : List Nat} {s0 : S} {e : Sg} {xs s : S} {D : List Nat} {U : S → Prop}
/- ---- bounds ---- -/
mutual
theorem sub_bnd {na nb : Nat} {a b : Sg} (h : a.le b) (h1 : na ≤ a.σ.length) (h2 : nb ≤ a.β.length) : ∀ v : V, bnd na nb v = true → sub b v = sub a v
  | .ptr x, hb => by
    have := Nat.le_of_ble_eq_true hb
    simp only [sub, subA, h.bl (f := x.f) (by omega)]
  | .slice x z n c sz, hb => by
    have := Nat.le_of_ble_eq_true hb
    simp only [sub, subA, h.bl (f := x.f) (by omega)]
  | .map r, hb => by
    have := Nat.le_of_ble_eq_true hb
    simp only [sub, h.bl (f := r) (by omega)]
  | .func fn fi ca, hb => by
    simp only [bnd, Bool.and_eq_true] at hb
    have hf : subFn b fn = subFn a fn := by
      cases fn with
      | yield l =>
        have := Nat.le_of_ble_eq_true hb.1.1
        simp only [subFn, h.bl (f := l) (by omega)]
      | _ => rfl
    simp only [sub, hf, subL_bnd h h1 h2 fi hb.1.2, subL_bnd h h1 h2 ca hb.2]
  | .iface ty v, hb => by simp only [sub, sub_bnd h h1 h2 v hb]
  | .agg l, hb => by simp only [sub, subL_bnd h h1 h2 l hb]
  | .tuple l, hb => by simp only [sub, subL_bnd h h1 h2 l hb]
  | .atom i, hb => by
    have := Nat.le_of_ble_eq_true hb
    simp only [sub, h.val (i := i) (by omega)]
  | .bool _, _ | .int .., _ | .str _, _ | .nilptr, _ | .nilslice, _ | .nilmap, _ | .nilFunc, _ | .nilIface, _ => rfl
theorem subL_bnd {na nb : Nat} {a b : Sg} (h : a.le b) (h1 : na ≤ a.σ.length) (h2 : nb ≤ a.β.length) : ∀ l : List V, bndL na nb l = true → subL b l = subL a l
  | [], _ => rfl
  | v :: r, hb => by
    simp only [bndL, Bool.and_eq_true] at hb
    simp only [subL, sub_bnd h h1 h2 v hb.1, subL_bnd h h1 h2 r hb.2]
end
theorem subB_bnd {na nb : Nat} {a b : Sg} (h : a.le b) (h1 : na ≤ a.σ.length) (h2 : nb ≤ a.β.length) {B : Blk} (hb : bndB na nb B = true) : subB b B = subB a B := by
  cases B with
  | cells el sb nv vers =>
    simp only [bndB, List.all_eq_true] at hb
    simp only [subB, Blk.cells.injEq, true_and]
    refine List.map_congr_left fun u hu => ?_
    have := subL_bnd h h1 h2 u.cells (hb u hu)
    simp only [subVer, ← subL_map, this]
  | map es c =>
    simp only [bndB, List.all_eq_true, Bool.and_eq_true] at hb
    simp only [subB, Blk.map.injEq, and_true]
    refine List.map_congr_left fun u hu => ?_
    simp only [subEnt, sub_bnd h h1 h2 _ (hb u hu).1, sub_bnd h h1 h2 _ (hb u hu).2]
  | _ => rfl
theorem rv_bnd {na nb : Nat} (ok : e.ok) (h1 : na ≤ e.σ.length) (h2 : nb ≤ e.β.length) {v : V} (hb : bnd na nb v = true) : RV e v (sub e v) := fun e' he => sub_bnd he h1 h2 v hb
theorem onesV_mem {l : List V} (h : onesV l) : ∀ v ∈ l, v.one = true := List.all_eq_true.1 h
theorem add_le (ok : e.ok) {vs : List V} (hv : onesV vs) : e.le (e.add vs) := ⟨List.prefix_append _ _, List.prefix_rfl, fun v hm => by
  rcases List.mem_append.1 hm with hm | hm
  · exact ok v hm
  · exact onesV_mem hv v hm⟩
theorem XR.add (h : XR F s0 e xs s) {vs : List V} (hv : onesV vs) : XR F s0 (e.add vs) xs s := (h.more (onesV_mem hv)).2
theorem add_len (vs : List V) : (e.add vs).σ.length = e.σ.length + vs.length := by simp [Sg.add]
theorem facts_of (h : HK e xs s) : ∀ l : List Nat, facts e s (factsOf xs l)
  | [] => trivial
  | f :: r => by
    simp only [factsOf]
    split
    · rename_i B hB; exact ⟨(h.k e (Sg.le_refl h.ok) f B hB).1, facts_of h r⟩
    · exact facts_of h r
theorem XR.turn (h : XR F s0 e xs s) {W : List Nat} {s' : S} (hw : Fw W s s') (hW : ∀ g ∈ W, s0.next ≤ g ∨ g ∈ F) (hd : ∀ f, f < xs.next → e.bl f ∉ W) : XR F s0 e xs s' := by
  have hfw : Fw F s0 s' := by
    refine ⟨fun g B hg hB => ?_, fun g vs hB => hw.ro g vs (h.fw.ro g vs hB), Nat.le_trans h.fw.next hw.next, fun hh => hw.wf (h.fw.wf hh)⟩
    refine hw.keep g B (fun hgW => ?_) (h.fw.keep g B hg hB)
    rcases hW g hgW with h1 | h1
    · have := h.wf0 g B hB; omega
    · exact hg h1
  refine ⟨h.ok, h.nx, h.wf0, hfw, h.dom, fun e' he f B hB => ?_, h.inj, h.hi, fun f hf => Nat.lt_of_lt_of_le (h.lt f hf) hw.next⟩
  obtain ⟨h1, h2⟩ := h.k e' he f B hB
  refine ⟨hw.keep _ _ ?_ h1, h2⟩
  rw [he.bl (f := f) (by rw [← h.nx]; exact h.dom f B hB)]
  exact hd f (h.dom f B hB)
end
end Go.AI
/- Symbolic walks: the executor is sound, operations. -/
namespace Go.AI
section
variable {F : List Nat} {s0 : S} {e : Sg} {xs s : S} {D : List Nat} {U : S → Prop} {Q : Out → Prop} {L : List LProp} {E : Env} {tx t : T V}
inductive StepV (E : Env) (pl : Bool) (t : T V) (s : S) (o : Oper) (w : V) (s' : S) : Prop where
  | val : opDo o.op E t s = some (.val w s') → StepV E pl t s o w s'
  | skip : opDo o.op E t s = some (.skip s') → w = V.undef → StepV E pl t s o w s'
  | enter (f : FuncId) (args : List V) (s1 : S) : opDo o.op E t s = some (.enter f args s1) → lim E (.call f args none) s1 = some ⟨.returned w, none, s'⟩ → StepV E pl t s o w s'
  | round (l : Nat) (args : List V) (s1 : S) (u : Option Md) : pl = true → opDo o.op E t s = some (.round l args s1) → lim E (.round l args) s1 = some ⟨.returned w, u, s'⟩ → StepV E pl t s o w s'
inductive StepP (E : Env) (t : T V) (s : S) (o : Oper) (c : List Pan) (s' : S) : Prop where
  | panic (v : V) : opDo o.op E t s = some (.panic v s') → c = [⟨v, false⟩] → StepP E t s o c s'
  | enter (f : FuncId) (args : List V) (s1 : S) : opDo o.op E t s = some (.enter f args s1) → lim E (.call f args none) s1 = some ⟨.panicked c, none, s'⟩ → StepP E t s o c s'
theorem XI.step (h : XI F s0 e D U xs s) {e' : Sg} {xs' s' : S} (hx : XR F s0 e' xs' s') (hle : e.le e') (kp : Kp e xs s e' xs' s') : XI F s0 e' D U xs' s' := by
  refine ⟨hx, h.st s s' h.u (fun g hg B hB => kp.keep g B (h.d g hg).2.2 hB) kp.next, h.st, fun g hg => ⟨Nat.lt_of_lt_of_le (h.d g hg).1 kp.next, (h.d g hg).2.1, fun f hf => ?_⟩⟩
  by_cases h1 : f < xs.next
  · rw [hle.bl (by rw [← h.x.nx]; exact h1)]; exact (h.d g hg).2.2 f h1
  · have := kp.new f (by omega) hf
    have := (h.d g hg).1
    omega
theorem XI.add (h : XI F s0 e D U xs s) {vs : List V} (hv : onesV vs) : XI F s0 (e.add vs) D U xs s := ⟨h.x.add hv, h.u, h.st, h.d⟩
theorem ex_eq {e e' : Sg} (h : e.ex e') (hl : e'.β.length = e.β.length) : e' = e := by
  obtain ⟨σ, β⟩ := e; obtain ⟨σ', β'⟩ := e'
  have h1 := h.same; have h2 := h.le.pb
  simp only at h1 h2 hl
  subst h1
  rw [h2.eq_of_length hl.symm]
theorem ex_one {e e' : Sg} (h : e.ex e') (hl : e'.β.length = e.β.length + 1) : e' = ⟨e.σ, e.β ++ [e'.bl e.β.length]⟩ := by
  obtain ⟨σ, β⟩ := e; obtain ⟨σ', β'⟩ := e'
  have h1 := h.same; have h2 := h.le.pb
  simp only at h1 h2 hl
  subst h1
  obtain ⟨q, rfl⟩ := h2
  rw [List.length_append] at hl
  obtain ⟨b, rfl⟩ : ∃ b, q = [b] := List.length_eq_one_iff.1 (by omega)
  unfold Sg.bl
  rw [List.getD_eq_getElem?_getD, List.getElem?_append_right (Nat.le_refl _)]
  simp
abbrev Kv := V → S → Nat → Option Tree
def Cont (E : Env) (F : List Nat) (s0 : S) (Q : Out → Prop) (L : List LProp) (e : Sg) (s : S) (k : Kv) (stp : V → S → Prop) : Prop :=
  ∃ v xs' na' tree' e' D' U' w s', k v xs' na' = some tree' ∧ stp w s' ∧ s.next ≤ s'.next ∧ e.le e' ∧ holds E F s0 Q tree' e' D' U' L ∧ na' = e'.σ.length ∧ RV e' v w ∧ XI F s0 e' D' U' xs' s'
def ContU (E : Env) (F : List Nat) (s0 : S) (Q : Out → Prop) (L : List LProp) (e : Sg) (s : S) (U : S → Prop) (xs : S) (kd : Nat) (k : Kv) (stp : V → S → Prop) : Prop :=
  ∃ v xs' na' tree' e' D' U' w s', k v xs' na' = some tree' ∧ stp w s' ∧ s.next ≤ s'.next ∧ e.le e' ∧ holds E F s0 Q tree' e' D' U' L ∧ na' = e'.σ.length ∧ RV e' v w ∧ XI F s0 e' D' U' xs' s' ∧ ((kd = 2 ∧ xs'.next = xs.next) ∨ ∀ s1, U s1 → U' s1)
theorem ContU.cont {kd : Nat} {k : Kv} {stp : V → S → Prop} (h : ContU E F s0 Q L e s U xs kd k stp) : Cont E F s0 Q L e s k stp := by
  obtain ⟨v, xs', na', tree', e', D', U', w, s', h1, h2, h3, h4, h5, h6, h7, h8, _⟩ := h
  exact ⟨v, xs', na', tree', e', D', U', w, s', h1, h2, h3, h4, h5, h6, h7, h8⟩
theorem cont_open {kd : Nat} (h : XI F s0 e D U xs s) {na : Nat} (hna : na = e.σ.length) {e' : Sg} (hex : e.ex e') {v w : V} {xs' s' : S} (hv : RV e' v w) (hx : XR F s0 e' xs' s') (kp : Kp e xs s e' xs' s')
    {k : Kv} {tree : Tree} (ht : newT xs xs' (k v xs' na) = some tree) (hh : holds E F s0 Q tree e D U L) {stp : V → S → Prop} (hs : stp w s') : ContU E F s0 Q L e s U xs kd k stp := by
  have hxi := h.step hx hex.le kp
  unfold newT at ht
  cases h1 : Nat.beq xs'.next xs.next with
  | true =>
    rw [h1] at ht
    simp only [cond_true] at ht
    have h2 := Nat.eq_of_beq_eq_true h1
    have h3 := ex_eq hex (by rw [← hx.nx, ← h.x.nx, h2])
    subst h3
    exact ⟨v, xs', na, tree, e', D, U, w, s', ht, hs, kp.next, hex.le, hh, hna, hv, hxi, .inr fun _ h => h⟩
  | false =>
    rw [h1] at ht
    simp only [cond_false] at ht
    cases h2 : Nat.beq xs'.next (xs.next + 1) with
    | false => rw [h2] at ht; cases ht
    | true =>
      rw [h2] at ht
      simp only [cond_true] at ht
      have h3 := Nat.eq_of_beq_eq_true h2
      cases hk : k v xs' na with
      | none => rw [hk] at ht; cases ht
      | some tr =>
        rw [hk] at ht; cases ht
        have h4 := ex_one hex (by rw [← hx.nx, ← h.x.nx, h3])
        have hb : s.next ≤ e'.bl xs.next := kp.new xs.next (Nat.le_refl _) (by omega)
        have h5 := hh (e'.bl e.β.length) (by rw [← h.x.nx]; exact Nat.le_trans h.x.fw.next hb) (fun hm => by
          have := (h.d _ hm).1
          rw [← h.x.nx] at this; omega)
        rw [← h4] at h5
        exact ⟨v, xs', na, tr, e', D, U, w, s', hk, hs, kp.next, hex.le, h5, by rw [hna, hex.same], hv, hxi, .inr fun _ h => h⟩
/- ---- asks ---- -/
theorem bump {vs : List V} {n na : Nat} (hna : na = e.σ.length) (hl : vs.length = n) : na + n = (e.add vs).σ.length := by rw [add_len, hna, hl]
theorem o2_some {x y : Option V} {k : V → V → Ask} {a : Ask} (h : o2 x y k = some a) : ∃ u v, x = some u ∧ y = some v ∧ a = k u v := by
  unfold o2 at h
  split at h
  · split at h
    · cases h; exact ⟨_, _, rfl, rfl, rfl⟩
    · cases h
  · cases h
theorem map_some' {α β : Type} {x : Option α} {k : α → β} {a : β} (h : x.map k = some a) : ∃ u, x = some u ∧ a = k u := by
  cases x with
  | none => cases h
  | some u => cases h; exact ⟨u, rfl, rfl⟩
theorem rt_O (ht : RT e tx t) (ok : e.ok) {o : Option Operand} {v : Option V} (h : evalO tx o = some v) : evalO t o = some (subO e v) := by
  cases o with
  | none => cases h; rfl
  | some o =>
    simp only [evalO] at h ⊢
    split at h
    · rename_i u hu; cases h; rw [ht.atR ok hu]; rfl
    · cases h
theorem rt_evals (ht : RT e tx t) (ok : e.ok) {l : List Operand} {vs : List V} (hv : evals tx l = some vs) : evals t l = some (subL e vs) := by
  obtain ⟨ws, h1, h2⟩ := ht.evalsR hv
  rw [h1, ← h2 e (Sg.le_refl ok), subL_map]
theorem conv_plain {P : Program} {src dst : TypeId} {x : V} (hp : plainDst P dst = true) {r : V × S} (h : convV P s src dst x = some r) : r.2 = s := by
  unfold convV at h
  split at h
  · split at h
    · split at h <;> first | (cases h; rfl) | (cases h; done)
    · unfold toStr at h
      split at h
      · cases h; rfl
      · cases h; rfl
      · split at h
        · revert h; cases isBytes P _ <;> intro h <;> first | (cases h; rfl) | (cases h; done)
        · cases h
      · split at h
        · revert h
          cases isBytes P _ with
          | false => intro h; cases h
          | true =>
            intro h
            simp only [cond_true] at h
            revert h
            cases Nat.beq _ 0 with
            | true => intro h; cases h
            | false =>
              intro h
              simp only [cond_false] at h
              split at h
              · cases h; rfl
              · cases h
        · cases h
      · cases h
    · rename_i el hd
      unfold plainDst at hp
      rw [hd] at hp; cases hp
    · cases h
  · cases h
theorem nxVal1_pure {x : Option Nx} {w : V} (h : nxVal1 x = some w) : ∃ s', x = some (.val w s') := by
  unfold nxVal1 at h
  split at h
  · rename_i v s'; cases h; exact ⟨s', rfl⟩
  · cases h
theorem nxVal_val {x : Option V} {w : V} (h : x = some w) : nxVal s x = some (.val w s) := by rw [h]; rfl
theorem bif_pure {P : Program} {b : Builtin} {ts : Array TypeId} {args : List V} {w : V} (hb : b = .len ∨ b = .cap ∨ b = .max ∨ b = .min) (h : nxVal1 (callB P b ts args s) = some w) : callB P b ts args s = some (.val w s) := by
  obtain ⟨s', h1⟩ := nxVal1_pure h
  rw [h1]
  have key : ∀ {x : Option V}, nxVal s x = some (.val w s') → s' = s := by
    intro x hx; cases x with
    | none => cases hx
    | some v => cases hx; rfl
  have : s' = s := by
    unfold callB at h1
    rcases hb with rfl | rfl | rfl | rfl
    · simp only at h1
      (repeat' split at h1) <;> first | (exact key h1) | (cases h1; done)
    · simp only at h1
      (repeat' split at h1) <;> first | (exact key h1) | (cases h1; done)
    · exact key h1
    · exact key h1
  rw [this]
theorem ask_do (ht : RT e tx t) (ok : e.ok) {op : Op} {a : Ask} (ha : askOf E tx op = some a) {w : V} (hw : (a.sub e).run E.P s = some w) : opDo op E t s = some (.val w s) := by
  cases op with
  | binOp op ty x y _ =>
    obtain ⟨u, v, h1, h2, rfl⟩ := o2_some ha
    simp only [opDo, ht.atR ok h1, ht.atR ok h2, doBinA_eq]
    exact nxVal_val hw
  | unOp op ty x =>
    obtain ⟨u, h1, rfl⟩ := map_some' ha
    simp only [opDo, ht.atR ok h1]
    exact nxVal_val hw
  | convert src dst x =>
    simp only [askOf] at ha
    cases hp : plainDst E.P dst with
    | false => rw [hp] at ha; cases ha
    | true =>
      rw [hp] at ha
      obtain ⟨u, h1, rfl⟩ := map_some' ha
      simp only [Ask.sub, Ask.run, hp, cond_true] at hw
      obtain ⟨r, h2, h3⟩ := map_some' hw
      simp only [opDo, ht.atR ok h1, doConv, h2]
      obtain ⟨v, s'⟩ := r
      have := conv_plain hp h2
      simp only at this h3
      subst this; subst h3
      rfl
  | load ty x =>
    obtain ⟨u, h1, rfl⟩ := map_some' ha
    simp only [opDo, ht.atR ok h1]
    obtain ⟨s', h2⟩ := nxVal1_pure hw
    rw [h2]
    unfold doLoad at h2
    split at h2
    · cases hl : loadVar E.P s ty _ with
      | none => rw [hl] at h2; cases h2
      | some v => rw [hl] at h2; cases h2; rfl
    · cases h2
  | index ty x i =>
    obtain ⟨u, v, h1, h2, rfl⟩ := o2_some ha
    simp only [opDo, ht.atR ok h1, ht.atR ok h2]
    exact nxVal_val hw
  | indexAddr ty x i =>
    obtain ⟨u, v, h1, h2, rfl⟩ := o2_some ha
    simp only [opDo, ht.atR ok h1, ht.atR ok h2]
    exact nxVal_val hw
  | field ty x f =>
    obtain ⟨u, h1, rfl⟩ := map_some' ha
    simp only [opDo, ht.atR ok h1]
    exact nxVal_val hw
  | fieldAddr ty x f =>
    obtain ⟨u, h1, rfl⟩ := map_some' ha
    simp only [opDo, ht.atR ok h1]
    exact nxVal_val hw
  | nilCheck x =>
    obtain ⟨u, h1, rfl⟩ := map_some' ha
    simp only [opDo, ht.atR ok h1]
    exact nxVal_val hw
  | slice ty x lo hi mx =>
    simp only [askOf] at ha
    split at ha
    · rename_i vx h1
      split at ha
      · rename_i vl h2
        split at ha
        · rename_i vh h3
          split at ha
          · rename_i vm h4
            cases ha
            simp only [opDo, ht.atR ok h1, rt_O ht ok h2, rt_O ht ok h3, rt_O ht ok h4]
            exact nxVal_val hw
          · cases ha
        · cases ha
      · cases ha
    · cases ha
  | lookup ty x k q =>
    obtain ⟨u, v, h1, h2, rfl⟩ := o2_some ha
    simp only [opDo, ht.atR ok h1, ht.atR ok h2]
    exact nxVal_val hw
  | typeAssert x q ty b =>
    obtain ⟨u, h1, rfl⟩ := map_some' ha
    simp only [opDo, ht.atR ok h1]
    exact nxVal_val hw
  | makeInterface ty x =>
    obtain ⟨u, h1, rfl⟩ := map_some' ha
    simp only [opDo, ht.atR ok h1]
    exact nxVal_val hw
  | call c =>
    simp only [askOf] at ha
    split at ha
    · rename_i b hc
      split at ha
      all_goals first
        | (cases ha; done)
        | (obtain ⟨u, h1, rfl⟩ := map_some' ha
           simp only [opDo, hc, callTo, rt_evals ht ok h1]
           refine bif_pure ?_ hw
           simp)
    · rename_i f hc
      split at ha
      · rename_i g fi ca hf
        split at ha
        · rename_i k hk
          obtain ⟨u, h1, rfl⟩ := map_some' ha
          have h2 := ht.atR ok hf
          simp only [Go.AI.sub, subFn] at h2
          have hl : subL e fi ++ (subL e u ++ subL e ca) = subL e (fi ++ (u ++ ca)) := by simp only [subL_map, List.map_append]
          simp only [opDo, hc, callTo, rt_evals ht ok h1, callV, h2, hl]
          unfold extOf at hk
          split at hk
          · rename_i fn hfn
            split at hk
            · rename_i hb
              unfold callF
              simp only [hfn, hb, hk]
              exact nxVal_val hw
            · cases hk
          · cases hk
        · cases ha
      · cases ha
    · cases ha
  | _ => cases ha
end
end Go.AI
/- Symbolic walks: the executor is sound, one operation. -/
namespace Go.AI
section
variable {F : List Nat} {s0 : S} {e : Sg} {xs s : S} {D : List Nat} {U : S → Prop} {Q : Out → Prop} {L : List LProp} {E : Env} {tx t : T V}
theorem nxBoth_spec {x : Option Nx} {w : V} {s' : S} (h : nxBoth x = some (w, s')) : x = some (.val w s') ∨ (x = some (.skip s') ∧ w = V.undef) := by
  unfold nxBoth at h
  split at h
  · cases h; exact .inl rfl
  · cases h; exact .inr ⟨rfl, rfl⟩
  · cases h
theorem act_do {P : Program} (hP : E.P = P) (ht : RT e tx t) (ok : e.ok) {op : Op} {a : Act} (ha : actOf P tx op = some a) {w : V} {s' : S} (hw : (a.sub e).run P s = some (w, s')) :
    opDo op E t s = some (.val w s') ∨ (opDo op E t s = some (.skip s') ∧ w = V.undef) := by
  subst hP
  cases op with
  | mapUpdate ty m k x =>
    simp only [actOf] at ha
    split at ha
    · rename_i vm h1
      split at ha
      · rename_i vk h2
        split at ha
        · rename_i vx h3
          cases ha
          simp only [opDo, ht.atR ok h1, ht.atR ok h2, ht.atR ok h3]
          exact nxBoth_spec hw
        · cases ha
      · cases ha
    · cases ha
  | makeMap ty x =>
    cases x with
    | none => cases ha; cases hw; exact .inl rfl
    | some x => cases ha
  | makeSlice ty l c =>
    simp only [actOf] at ha
    split at ha
    · rename_i vl h1
      split at ha
      · rename_i vc h2
        cases ha
        simp only [opDo, ht.atR ok h1, ht.atR ok h2]
        exact nxBoth_spec hw
      · cases ha
    · cases ha
  | convert src dst x =>
    simp only [actOf] at ha
    cases hp : plainDst E.P dst with
    | true => rw [hp] at ha; cases ha
    | false =>
      rw [hp] at ha
      obtain ⟨u, h1, rfl⟩ := map_some' ha
      simp only [opDo, ht.atR ok h1, doConv]
      simp only [Act.sub, Act.run] at hw
      rw [hw]
      exact .inl rfl
  | store ty x y =>
    simp only [actOf] at ha
    split at ha
    · rename_i vl h1
      split at ha
      · rename_i vc h2
        cases ha
        simp only [opDo, ht.atR ok h1, ht.atR ok h2]
        exact nxBoth_spec hw
      · cases ha
    · cases ha
  | call c =>
    simp only [actOf] at ha
    split at ha
    · rename_i b hc
      split at ha
      all_goals first
        | (cases ha; done)
        | (obtain ⟨u, h1, rfl⟩ := map_some' ha
           simp only [opDo, hc, callTo, rt_evals ht ok h1]
           exact nxBoth_spec hw)
    · cases ha
  | _ => cases ha
theorem opt_map {α : Type} {x : Option Tree} {g : Tree → Tree} {tree : Tree} (h : x.map g = some tree) : ∃ tr, x = some tr ∧ tree = g tr := by
  cases x with
  | none => cases h
  | some tr => cases h; exact ⟨tr, rfl, rfl⟩
theorem cont_ask {kd : Nat} (h : XI F s0 e D U xs s) {na n : Nat} (hna : na = e.σ.length) {v : V} {k : Kv} {a : Ask} {u : Bool} {own : List (Nat × Blk)} {tree : Tree}
    (hb : bnd (na + n) xs.next v = true) (ht : (k v xs (na + n)).map (.ask a u own n v) = some tree) (hh : holds E F s0 Q tree e D U L) {stp : V → S → Prop}
    (hs : ∀ w, (∀ s', Fw F s0 s' → WF s' → (u = true → U s') → facts e s' own → (a.sub e).run E.P s' = some w) → stp w s) : ContU E F s0 Q L e s U xs kd k stp := by
  obtain ⟨tr, h1, rfl⟩ := opt_map (α := Nat) ht
  obtain ⟨vs, hl, hv, hr, hk⟩ := hh
  have hle := add_le h.x.ok hv
  exact ⟨v, xs, na + n, tr, e.add vs, D, U, _, s, h1, hs _ hr, Nat.le_refl _, hle, hk, bump hna hl, rv_bnd hle.ok (by rw [bump hna hl]; exact Nat.le_refl _) (by rw [h.x.nx]; exact Nat.le_refl _) hb, h.add hv, .inr fun _ h => h⟩
theorem XI.turn (h : XI F s0 e D U xs s) {vs : List V} (hv : onesV vs) {s' : S} {D' : List Nat} {U' : S → Prop} (hw : Fw D s s') (hst : Stb D' U') (hu : U' s') (hd : ∀ g ∈ D', g < s'.next ∧ (g ∈ D ∨ s.next ≤ g)) : XI F s0 (e.add vs) D' U' xs s' := by
  refine ⟨(h.x.turn hw (fun g hg => (h.d g hg).2.1) fun f hf hm => (h.d _ hm).2.2 f hf rfl).add hv, hu, hst, fun g hg => ⟨(hd g hg).1, ?_, fun f hf hh => ?_⟩⟩
  · rcases (hd g hg).2 with h1 | h1
    · exact (h.d g h1).2.1
    · exact .inl (Nat.le_trans h.x.fw.next h1)
  · rcases (hd g hg).2 with h1 | h1
    · exact (h.d g h1).2.2 f hf hh
    · have := h.x.lt f hf
      have h2 : (e.add vs).bl f = e.bl f := rfl
      rw [h2] at hh; omega
theorem cont_act {kd : Nat} (hkd : kd = 2) (h : XI F s0 e D U xs s) {na n : Nat} (hna : na = e.σ.length) {v : V} {k : Kv} {a : Act} {hs' : List Nat} {tree : Tree}
    (hb : bnd (na + n) xs.next v = true) (ht : (k v xs (na + n)).map (.act a (factsOf xs hs') n v) = some tree) (hh : holds E F s0 Q tree e D U L) {stp : V → S → Prop}
    (hs : ∀ w s', (a.sub e).run E.P s = some (w, s') → stp w s') : ContU E F s0 Q L e s U xs kd k stp := by
  obtain ⟨tr, h1, rfl⟩ := opt_map (α := Nat) ht
  obtain ⟨vs, s', D', U', hl, hv, hr, hw, hst, hu, hd, hk⟩ := hh s h.x.fw h.x.wf h.u (facts_of h.x.hk hs')
  have hle := add_le h.x.ok hv
  exact ⟨v, xs, na + n, tr, e.add vs, D', U', _, s', h1, hs _ _ hr, hw.next, hle, hk, bump hna hl, rv_bnd hle.ok (by rw [bump hna hl]; exact Nat.le_refl _) (by rw [h.x.nx]; exact Nat.le_refl _) hb, h.turn hv hw hst hu hd, .inl ⟨hkd, rfl⟩⟩
theorem cont_calla (h : XI F s0 e D U xs s) {na n : Nat} (hna : na = e.σ.length) {v f : V} {args : List V} {k : Kv} {hs' : List Nat} {tree : Tree}
    (hb : bnd (na + n) xs.next v = true) (ht : (k v xs (na + n)).map (.calla f args (factsOf xs hs') n v) = some tree) (hh : holds E F s0 Q tree e D U L) {stp : V → S → Prop}
    (hs : ∀ w s', FCall E (sub e f) (args.map (sub e)) s w s' → stp w s') : Cont E F s0 Q L e s k stp := by
  obtain ⟨tr, h1, rfl⟩ := opt_map (α := Nat) ht
  obtain ⟨vs, s', D', U', hl, hv, hr, hw, hst, hu, hd, hk⟩ := hh s h.x.fw h.x.wf h.u (facts_of h.x.hk hs')
  have hle := add_le h.x.ok hv
  exact ⟨v, xs, na + n, tr, e.add vs, D', U', _, s', h1, hs _ _ hr, hw.next, hle, hk, bump hna hl, rv_bnd hle.ok (by rw [bump hna hl]; exact Nat.le_refl _) (by rw [h.x.nx]; exact Nat.le_refl _) hb, h.turn hv hw hst hu hd⟩
theorem calla_do (hT : RT e tx t) (ok : e.ok) {o : Oper} {f : V} {args : List V} (ha : callaOf tx o.op = some (f, args)) {w : V} {s' : S} (hw : FCall E (sub e f) (args.map (sub e)) s w s') : StepV E true t s o w s' := by
  unfold callaOf at ha
  split at ha
  · rename_i c hop
    split at ha
    · rename_i g hc
      split at ha
      · rename_i i hf
        split at ha
        · rename_i as has
          cases ha
          have h1 := hT.atR ok hf
          have h2 := rt_evals hT ok has
          rw [subL_map] at h2
          rcases hw with ⟨q, fi, ca, h3, h4, h5⟩ | ⟨l, fi, ca, u, h3, h4⟩
          · refine .enter q _ s ?_ h5
            rw [hop]
            simp only [opDo, hc, callTo, h1, h2, h3, callV]
            exact h4
          · refine .round l _ s u rfl ?_ h4
            rw [hop]
            simp only [opDo, hc, callTo, h1, h2, h3, callV]
        · cases ha
      · cases ha
    · cases ha
  · cases ha
/- ---- calls ---- -/
theorem putAll_next : ∀ (l : List (Nat × Blk)) (xs : S), (putAll xs l).next = xs.next
  | [], _ => rfl
  | x :: r, xs => by
    obtain ⟨f, B⟩ := x
    simp only [putAll, putAll_next r, S.next_put]
theorem putAll_get : ∀ (l : List (Nat × Blk)) (xs : S) {f : Nat} {B : Blk}, (putAll xs l).get f = some B → (f, B) ∈ l ∨ ((∀ x ∈ l, x.1 ≠ f) ∧ xs.get f = some B)
  | [], _, _, _, h => .inr ⟨by simp, h⟩
  | (g, C) :: r, xs, f, B, h => by
    rcases putAll_get r _ h with h1 | ⟨h1, h2⟩
    · exact .inl (List.mem_cons_of_mem _ h1)
    · rw [S.get_put] at h2
      split at h2
      · rename_i hg; cases h2; subst hg; exact .inl (by simp)
      · rename_i hg
        exact .inr ⟨fun x hx => by
          rcases List.mem_cons.1 hx with rfl | hx
          · exact hg
          · exact h1 x hx, h2⟩
theorem facts_mem {e : Sg} {s : S} : ∀ {l : List (Nat × Blk)} {x : Nat × Blk}, facts e s l → x ∈ l → s.get (e.bl x.1) = some (subB e x.2)
  | [], _, _, hx => by cases hx
  | y :: r, x, h, hx => by
    rcases List.mem_cons.1 hx with rfl | hx
    · exact h.1
    · exact facts_mem h.2 hx
theorem XR.called (h : XR F s0 e xs s) {vs : List V} (hv : onesV vs) {l : List (Nat × Blk)} {na : Nat} (hok : okAfter xs na l = true) (hna : na ≤ (e.add vs).σ.length) {W : List Nat} {s' : S} (hw : Fw (idsOf e l ++ W) s s') (hf : facts (e.add vs) s' l)
    (hW : ∀ g ∈ W, s0.next ≤ g ∨ g ∈ F) (hd : ∀ f, f < xs.next → e.bl f ∉ W) : XR F s0 (e.add vs) (putAll xs l) s' := by
  simp only [okAfter, Bool.and_eq_true, List.all_eq_true] at hok
  have hin : ∀ x ∈ l, x.1 < xs.next ∧ bndB na xs.next x.2 = true ∧ x.2.isOwn = true := fun x hx => by
    obtain ⟨⟨h1, h2⟩, h3⟩ := hok.2 x hx
    refine ⟨?_, h2, h3⟩
    split at h1
    · rename_i B hB; exact h.dom _ _ hB
    · cases h1
  have hids : ∀ g ∈ idsOf e l, s0.next ≤ g ∨ g ∈ F := fun g hg => by
    simp only [idsOf, List.mem_map] at hg
    obtain ⟨x, hx, rfl⟩ := hg
    exact h.hi _ (hin x hx).1
  have hfw : Fw F s0 s' := by
    refine ⟨fun g B hg hB => ?_, fun g vs hB => hw.ro g vs (h.fw.ro g vs hB), Nat.le_trans h.fw.next hw.next, fun hh => hw.wf (h.fw.wf hh)⟩
    refine hw.keep g B (fun hgW => ?_) (h.fw.keep g B hg hB)
    have h1 : s0.next ≤ g ∨ g ∈ F := by
      rcases List.mem_append.1 hgW with hh | hh
      · exact hids g hh
      · exact hW g hh
    rcases h1 with h1 | h1
    · have := h.wf0 g B hB; omega
    · exact hg h1
  have hle := add_le h.ok hv
  refine ⟨hle.ok, by rw [putAll_next]; exact h.nx, h.wf0, hfw, fun f B hB => ?_, fun e' he f B hB => ?_, fun f g hf hg hh => ?_, fun f hf => ?_, fun f hf => ?_⟩
  · rw [putAll_next]
    rcases putAll_get l xs hB with h1 | ⟨_, h1⟩
    · exact (hin _ h1).1
    · exact h.dom f B h1
  · rcases putAll_get l xs hB with h1 | ⟨h0, h1⟩
    · obtain ⟨h2, h3, h4⟩ := hin _ h1
      have h5 := facts_mem hf h1
      rw [he.bl (f := f) (by rw [show (e.add vs).β.length = e.β.length from rfl, ← h.nx]; exact h2), subB_bnd he hna (by rw [h.nx]; exact Nat.le_refl _) h3]
      exact ⟨h5, h4⟩
    · have hdm := h.dom f B h1
      obtain ⟨h2, h3⟩ := h.k e' (hle.trans he) f B h1
      refine ⟨hw.keep _ _ (fun hm => ?_) h2, h3⟩
      rw [(hle.trans he).bl (f := f) (by rw [← h.nx]; exact hdm)] at hm
      rcases List.mem_append.1 hm with hm | hm
      · simp only [idsOf, List.mem_map] at hm
        obtain ⟨x, hx, hxe⟩ := hm
        exact h0 x hx (h.inj _ _ (hin x hx).1 hdm hxe)
      · exact hd f hdm hm
  · rw [putAll_next] at hf hg; exact h.inj f g hf hg hh
  · rw [putAll_next] at hf; exact h.hi f hf
  · rw [putAll_next] at hf; exact Nat.lt_of_lt_of_le (h.lt f hf) hw.next
theorem cont_call (h : XI F s0 e D U xs s) {na n m : Nat} (hna : na = e.σ.length) {v : V} {k : Kv} {f : FuncId} {args : List V} {hs' : List Nat} {after : List (Nat × Blk)} {pk : Bool} {tree : Tree}
    (hm : m = na + n) (hok : okAfter xs m after = true) (hb : bnd m xs.next v = true) (ht : (k v (putAll xs after) m).map (.call f args (factsOf xs hs') after n v pk) = some tree) (hh : holds E F s0 Q tree e D U L)
    {stp : V → S → Prop} (hs : ∀ w s', lim E (.call f (args.map (sub e)) none) s = some ⟨.returned w, none, s'⟩ → stp w s') :
    Cont E F s0 Q L e s k stp ∨ (pk = true ∧ ∃ c s', lim E (.call f (args.map (sub e)) none) s = some ⟨.panicked c, none, s'⟩ ∧ Q ⟨.panicked c, none, s'⟩) := by
  obtain ⟨tr, h1, rfl⟩ := opt_map (α := Nat) ht
  have hdD : ∀ f, f < xs.next → e.bl f ∉ D := fun f hf hm => (h.d _ hm).2.2 f hf rfl
  rcases hh s h.x.fw h.x.wf h.u (facts_of h.x.hk hs') with ⟨vs, s', hl, hv, hr, hw, hf, hk⟩ | ⟨vs, s', D', U', hl, hv, hr, hw, hf, hst, hu, hd, hk⟩ | hp
  · have hle := add_le h.x.ok hv
    have hmm : m = (e.add vs).σ.length := by rw [hm]; exact bump hna hl
    have hx := h.x.called hv hok (by rw [hmm]; exact Nat.le_refl _) (W := []) (by simpa using hw) hf (by simp) (by simp)
    have hkeep : ∀ g ∈ D, ∀ B, s.get g = some B → s'.get g = some B := fun g hg B hB => hw.keep g B (fun hmm => by
      simp only [idsOf, List.mem_map] at hmm
      obtain ⟨x, hx, hxe⟩ := hmm
      simp only [okAfter, Bool.and_eq_true, List.all_eq_true] at hok
      obtain ⟨⟨h1, _⟩, _⟩ := hok.2 x hx
      split at h1
      · rename_i B hB; exact (h.d g hg).2.2 x.1 (h.x.dom _ _ hB) hxe
      · cases h1) hB
    refine .inl ⟨v, putAll xs after, m, tr, e.add vs, D, U, _, s', h1, hs _ _ hr, hw.next, hle, hk, hmm, rv_bnd hle.ok (by rw [hmm]; exact Nat.le_refl _) (by rw [h.x.nx]; exact Nat.le_refl _) hb, ⟨hx, h.st s s' h.u hkeep hw.next, h.st, fun g hg => ⟨Nat.lt_of_lt_of_le (h.d g hg).1 hw.next, (h.d g hg).2.1, fun f hf => ?_⟩⟩⟩
    rw [putAll_next] at hf
    exact (h.d g hg).2.2 f hf
  · have hle := add_le h.x.ok hv
    have hmm : m = (e.add vs).σ.length := by rw [hm]; exact bump hna hl
    have hx := h.x.called hv hok (by rw [hmm]; exact Nat.le_refl _) hw hf (fun g hg => (h.d g hg).2.1) hdD
    refine .inl ⟨v, putAll xs after, m, tr, e.add vs, D', U', _, s', h1, hs _ _ hr, hw.next, hle, hk, hmm, rv_bnd hle.ok (by rw [hmm]; exact Nat.le_refl _) (by rw [h.x.nx]; exact Nat.le_refl _) hb, ⟨hx, hu, hst, fun g hg => ⟨(hd g hg).1, ?_, fun f hf hh => ?_⟩⟩⟩
    · rcases (hd g hg).2 with h1 | h1
      · exact (h.d g h1).2.1
      · exact .inl (Nat.le_trans h.x.fw.next h1)
    · rw [putAll_next] at hf
      rcases (hd g hg).2 with h1 | h1
      · exact (h.d g h1).2.2 f hf hh
      · have := h.x.lt f hf
        have h2 : (e.add vs).bl f = e.bl f := rfl
        rw [h2] at hh; omega
  · exact .inr hp
end
end Go.AI
/- Symbolic walks: the executor is sound, operations that float, operations that act. -/
namespace Go.AI
section
variable {F : List Nat} {s0 : S} {e : Sg} {xs s : S} {D : List Nat} {U : S → Prop} {Q : Out → Prop} {L : List LProp} {C : Cfg} {tx t : T V}
theorem xcall_sound (h : XI F s0 e D U xs s) {na : Nat} (hna : na = e.σ.length) {f : FuncId} {args : List V} {ty : TypeId} {plain : Bool} {k : Kv} {tree : Tree} (ht : xcall C f args ty xs na plain k = some tree)
    (hh : holds C.E F s0 Q tree e D U L) {stp : V → S → Prop} (hs : ∀ w s', lim C.E (.call f (args.map (sub e)) none) s = some ⟨.returned w, none, s'⟩ → stp w s') :
    Cont C.E F s0 Q L e s k stp ∨ (plain = true ∧ ∃ c s', lim C.E (.call f (args.map (sub e)) none) s = some ⟨.panicked c, none, s'⟩ ∧ Q ⟨.panicked c, none, s'⟩) := by
  unfold xcall at ht
  split at ht
  · rename_i c hc
    generalize hmod : modded xs args na c.mods = md at ht
    obtain ⟨after, na1⟩ := md
    simp only at ht
    generalize htm : tmpl C.E.P 12 ty na1 = tm at ht
    obtain ⟨v, n⟩ := tm
    simp only at ht
    cases hb : (Nat.ble na na1 && okAfter xs (na1 + n) after && bnd (na1 + n) xs.next v && (plain || !c.pk)) with
    | false => rw [hb] at ht; cases ht
    | true =>
      rw [hb] at ht
      simp only [cond_true] at ht
      simp only [Bool.and_eq_true] at hb
      obtain ⟨⟨⟨h1, h2⟩, h3⟩, h4⟩ := hb
      have h5 := Nat.le_of_ble_eq_true h1
      rcases cont_call h hna (m := na1 + n) (n := na1 + n - na) (by omega) h2 h3 ht hh hs with h6 | ⟨h6, h7⟩
      · exact .inl h6
      · rw [h6] at h4
        exact .inr ⟨by simpa using h4, h7⟩
  · generalize htm : tmpl C.E.P 12 ty na = tm at ht
    obtain ⟨v, n⟩ := tm
    simp only at ht
    cases hb : bnd (na + n) xs.next v with
    | false => rw [hb] at ht; cases ht
    | true =>
      rw [hb] at ht
      simp only [cond_true] at ht
      rcases cont_call h hna (m := na + n) (after := []) rfl rfl hb ht hh hs with h6 | ⟨h6, _⟩
      · exact .inl h6
      · cases h6
theorem xtail_sound (h : XI F s0 e D U xs s) (hT : RT e tx t) {na : Nat} (hna : na = e.σ.length) {o : Oper} {plain : Bool} {k : Kv} {tree : Tree} (hh : holds C.E F s0 Q tree e D U L) (ht : (match askOf C.E tx o.op with
    | some a => match tmplO C.E.P o na with
      | (v, n) => bif bnd (na + n) xs.next v then (k v xs (na + n)).map (.ask a true (factsOf xs a.heads) n v) else none
    | none => match actOf C.E.P tx o.op with
      | some a => match tmplO C.E.P o na with
        | (v, n) => bif bnd (na + n) xs.next v then (k v xs (na + n)).map (.act a (factsOf xs a.heads) n v) else none
      | none => match bif plain then callaOf tx o.op else none with
        | some (f, args) => match tmplO C.E.P o na with
          | (v, n) => bif bnd (na + n) xs.next v then (k v xs (na + n)).map (.calla f args (factsOf xs (heads args)) n v) else none
        | none => none) = some tree) : Cont C.E F s0 Q L e s k (StepV C.E plain t s o) := by
    split at ht
    · rename_i a ha
      generalize htm : tmplO C.E.P o na = tm at ht
      obtain ⟨v, n⟩ := tm
      simp only at ht
      cases hb : bnd (na + n) xs.next v with
      | false => rw [hb] at ht; cases ht
      | true =>
        rw [hb] at ht
        simp only [cond_true] at ht
        exact (cont_ask (kd := 2) h hna hb ht hh fun w hw => .val (ask_do hT h.x.ok ha (hw s h.x.fw h.x.wf (fun _ => h.u) (facts_of h.x.hk _)))).cont
    · split at ht
      · rename_i a ha
        generalize htm : tmplO C.E.P o na = tm at ht
        obtain ⟨v, n⟩ := tm
        simp only at ht
        cases hb : bnd (na + n) xs.next v with
        | false => rw [hb] at ht; cases ht
        | true =>
          rw [hb] at ht
          simp only [cond_true] at ht
          refine (cont_act rfl h hna hb ht hh fun w s' hw => ?_).cont; exact by
            rcases act_do rfl hT h.x.ok ha hw with h1 | ⟨h1, h2⟩
            · exact .val h1
            · exact .skip h1 h2
      · cases plain with
        | false => cases ht
        | true =>
          simp only [cond_true] at ht
          split at ht
          · rename_i f args hf
            generalize htm : tmplO C.E.P o na = tm at ht
            obtain ⟨v, n⟩ := tm
            simp only at ht
            cases hb : bnd (na + n) xs.next v with
            | false => rw [hb] at ht; cases ht
            | true =>
              rw [hb] at ht
              simp only [cond_true] at ht
              exact cont_calla h hna hb ht hh fun w s' hw => calla_do hT h.x.ok hf hw
          · cases ht
theorem xstep_sound (h : XI F s0 e D U xs s) (hT : RT e tx t) {na : Nat} (hna : na = e.σ.length) {o : Oper} {plain : Bool} {k : Kv} {tree : Tree} (ht : xstep C o tx xs na plain k = some tree) (hh : holds C.E F s0 Q tree e D U L) :
    Cont C.E F s0 Q L e s k (StepV C.E plain t s o) ∨ (plain = true ∧ ∃ c s', StepP C.E t s o c s' ∧ Q ⟨.panicked c, none, s'⟩) := by
  unfold xstep at ht
  cases hok : xOk tx o.op with
  | true =>
    rw [hok] at ht
    simp only [cond_true] at ht
    cases hn : opDo o.op C.E tx xs with
    | none =>
      rw [hn] at ht
      exact .inl (xtail_sound h hT hna hh ht)
    | some nx =>
      rw [hn] at ht
      obtain ⟨e', hex, nx', hn', hx⟩ := x_op h.x hT hok hn
      cases hx with
      | val hv hx kp => exact .inl (cont_open (kd := 2) h hna hex hv hx kp ht hh (.val hn')).cont
      | skip hx kp => exact .inl (cont_open (kd := 2) h hna hex (fun e' _ => rfl) hx kp ht hh (.skip hn' rfl)).cont
      | enter ha hx =>
        have he := ex_eq hex (by rw [← hx.nx, ← h.x.nx])
        subst he
        simp only at ht
        rw [← ha _ (Sg.le_refl h.x.ok)] at hn'
        rcases xcall_sound h hna ht hh (stp := StepV C.E plain t s o) (fun w s' hl => .enter _ _ _ hn' hl) with h1 | ⟨h1, c, s', h2, h3⟩
        · exact .inl h1
        · exact .inr ⟨h1, c, s', .enter _ _ _ hn' h2, h3⟩
      | panic hv hx =>
        have he := ex_eq hex (by rw [← hx.nx, ← h.x.nx])
        subst he
        simp only at ht
        revert ht
        cases plain with
        | false => intro ht; cases ht
        | true =>
          intro ht
          simp only [Bool.not_true, cond_false] at ht
          cases ht
          refine .inr ⟨rfl, _, _, .panic _ hn' rfl, ?_⟩
          have h1 := hh s h.x.fw h.x.wf h.u (facts_of h.x.hk _)
          rw [hv _ (Sg.le_refl h.x.ok)] at h1
          exact h1
  | false =>
    rw [hok] at ht
    simp only [cond_false] at ht
    exact .inl (xtail_sound h hT hna hh ht)
end
end Go.AI
