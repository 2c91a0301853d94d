/- Symbolic walks in the evaluator: part 2. No conditions beyond those of the row. -/
import Derived.Test.YtkeaedhoaamfnaaGreatDoorX1
set_option linter.unusedVariables false
set_option linter.unusedSimpArgs false
noncomputable section
namespace Go.AI
inductive mt where
 | bin (op : BinOp) (ty : TypeId) (c : Bool) (x y : V)
 | un (op : UnOp) (x : V)
 | conv (src dst : TypeId) (x : V)
 | load (ty : TypeId) (x : V)
 | index (ty : TypeId) (x i : V)
 | indexAddr (ty : TypeId) (x i : V)
 | field (ty : TypeId) (x : V) (f : Nat)
 | fieldAddr (ty : TypeId) (x : V) (f : Nat)
 | nilCheck (x : V)
 | slice (ty : TypeId) (x : V) (lo hi mx : Option V)
 | lookup (ty : TypeId) (m k : V) (ok : Bool)
 | assert (ty : TypeId) (x : V) (ok : Bool)
 | iface (ty : TypeId) (x : V)
 | bif (b : Builtin) (ts : Array TypeId) (args : List V)
 | ext (k : xE) (args : List V)
inductive wG where
 | mapUpd (ty : TypeId) (m k x : V)
 | makeMap
 | makeSlice (ty : TypeId) (l c : V)
 | conv (src dst : TypeId) (x : V)
 | store (ty : TypeId) (x y : V)
 | bif (b : Builtin) (ts : Array TypeId) (args : List V)
def iG (P : Program) (dst : TypeId) : Bool := match P.underlying dst with
 | some (.slice _) => false
 | _ => true
def gc : Option Nx → Option V
 | some (.val v _) => some v
 | _ => none
def gK : Option Nx → Option (V × S)
 | some (.val v s) => some (v, s)
 | some (.skip s) => some (V.undef, s)
 | _ => none
def py (P : Program) (op : BinOp) (t : TypeId) (c : Bool) (a b : V) : Bool :=
 bif eE op then match a, b with
  | .nilIface, .nilIface => c
  | .agg _, .agg _ => !(P.eqGuardType P.depth t)
  | _, _ => true
 else true
def vP (P : Program) (s : S) (op : BinOp) (ty : TypeId) (c : Bool) (a b : V) : Option V := bif py P op ty c a b then bD P (plainAt s) op ty a b else none
theorem Jj (P : Program) (s : S) (op : BinOp) (ty : TypeId) (x y : Operand) (a b : V) : cS P s op ty x y (some a) (some b) = vP P s op ty (fh x || fh y) a b := by
 have : bj P op ty x y a b = py P op ty (fh x || fh y) a b := by
  unfold bj py
  cases eE op <;> rfl
 simp only [cS, vP, this]
def mt.run (P : Program) (s : S) : mt → Option V
 | .bin op ty c x y => vP P s op ty c x y
 | .un op x => pU op x
 | .conv src dst x => bif iG P dst then (iN P s src dst x).map (·.1) else none
 | .load ty x => gc (eI P s ty (some x))
 | .index ty x i => mj P ty (some x) (jL i)
 | .indexAddr ty x i => bF P ty (some x) (jL i)
 | .field ty x f => jo P ty (some x) f
 | .fieldAddr ty x f => aP P ty (some x) f
 | .nilCheck x => fo (some x)
 | .slice ty x lo hi mx => gT P ty (some x) (some lo) (some hi) (some mx)
 | .lookup ty m k ok => bZ P s ty (some m) (some k) ok
 | .assert ty x ok => fT P (some x) ty ok
 | .iface ty x => eR P ty (some x)
 | .bif b ts args => match b with
  | .len | .cap | .max | .min => gc (eg P b ts args s)
  | _ => none
 | .ext k args => fY k args
def wG.run (P : Program) (s : S) : wG → Option (V × S)
 | .mapUpd ty m k x => gK (dt P s ty (some m) (some k) (some x))
 | .makeMap => some (.map s.next, s.alloc (.map [] 0))
 | .makeSlice ty l c => gK (eQ P s ty (jL l) (jL c))
 | .conv src dst x => iN P s src dst x
 | .store ty x y => gK (kH P s ty (some x) (some y))
 | .bif b ts args => match b with
  | .append | .copy => gK (eg P b ts args s)
  | _ => none
def EB (e : Sg) (v : Option V) : Option V := v.map (sub e)
def mt.sub (e : Sg) : mt → mt
 | .bin op ty c x y => .bin op ty c (Go.AI.sub e x) (Go.AI.sub e y)
 | .un op x => .un op (Go.AI.sub e x)
 | .conv src dst x => .conv src dst (Go.AI.sub e x)
 | .load ty x => .load ty (Go.AI.sub e x)
 | .index ty x i => .index ty (Go.AI.sub e x) (Go.AI.sub e i)
 | .indexAddr ty x i => .indexAddr ty (Go.AI.sub e x) (Go.AI.sub e i)
 | .field ty x f => .field ty (Go.AI.sub e x) f
 | .fieldAddr ty x f => .fieldAddr ty (Go.AI.sub e x) f
 | .nilCheck x => .nilCheck (Go.AI.sub e x)
 | .slice ty x lo hi mx => .slice ty (Go.AI.sub e x) (EB e lo) (EB e hi) (EB e mx)
 | .lookup ty m k ok => .lookup ty (Go.AI.sub e m) (Go.AI.sub e k) ok
 | .assert ty x ok => .assert ty (Go.AI.sub e x) ok
 | .iface ty x => .iface ty (Go.AI.sub e x)
 | .bif b ts args => .bif b ts (gZ e args)
 | .ext k args => .ext k (gZ e args)
def wG.sub (e : Sg) : wG → wG
 | .mapUpd ty m k x => .mapUpd ty (Go.AI.sub e m) (Go.AI.sub e k) (Go.AI.sub e x)
 | .makeMap => .makeMap
 | .makeSlice ty l c => .makeSlice ty (Go.AI.sub e l) (Go.AI.sub e c)
 | .conv src dst x => .conv src dst (Go.AI.sub e x)
 | .store ty x y => .store ty (Go.AI.sub e x) (Go.AI.sub e y)
 | .bif b ts args => .bif b ts (gZ e args)
def o2 (x y : Option V) (k : V → V → mt) : Option mt := match x with
 | some x => match y with
  | some y => some (k x y)
  | none => none
 | none => none
def Pl (E : cg) (g : FuncId) : Option xE := match E.P.funcs[g]? with
 | some fn => match fn.body with
  | none => E.ext g
  | some _ => none
 | none => none
def wm (E : cg) (tx : T V) : Op → Option mt
 | .binOp op ty x y _ => o2 (eval tx x) (eval tx y) (.bin op ty (fh x || fh y))
 | .unOp op _ x => (eval tx x).map (.un op)
 | .convert src dst x => bif iG E.P dst then (eval tx x).map (.conv src dst) else none
 | .load ty x => (eval tx x).map (.load ty)
 | .index ty x i => o2 (eval tx x) (eval tx i) (.index ty)
 | .indexAddr ty x i => o2 (eval tx x) (eval tx i) (.indexAddr ty)
 | .field ty x f => (eval tx x).map (fun v => .field ty v f)
 | .fieldAddr ty x f => (eval tx x).map (fun v => .fieldAddr ty v f)
 | .nilCheck x => (eval tx x).map .nilCheck
 | .slice ty x lo hi mx => match eval tx x with
  | some x => match gm tx lo with
   | some lo => match gm tx hi with
    | some hi => match gm tx mx with
     | some mx => some (.slice ty x lo hi mx)
     | none => none
    | none => none
   | none => none
  | none => none
 | .lookup ty x k ok => o2 (eval tx x) (eval tx k) (fun a b => .lookup ty a b ok)
 | .typeAssert x _ ty ok => (eval tx x).map (fun v => .assert ty v ok)
 | .makeInterface ty x => (eval tx x).map (.iface ty)
 | .call c => match c.callee with
  | .builtin b => match b with
   | .len | .cap | .max | .min => (evals tx c.args.toList).map (.bif b c.argTypes)
   | _ => none
  | .value f => match eval tx f with
   | some (.func (.func g) fi ca) => match Pl E g with
    | some k => (evals tx c.args.toList).map (fun a => .ext k (fi ++ (a ++ ca)))
    | none => none
   | _ => none
  | _ => none
 | _ => none
def oS (P : Program) (tx : T V) : Op → Option wG
 | .mapUpdate ty m k x => match eval tx m with
  | some m => match eval tx k with
   | some k => match eval tx x with
    | some x => some (.mapUpd ty m k x)
    | none => none
   | none => none
  | none => none
 | .makeMap _ none => some .makeMap
 | .makeSlice ty l c => match eval tx l with
  | some l => match eval tx c with
   | some c => some (.makeSlice ty l c)
   | none => none
  | none => none
 | .convert src dst x => bif iG P dst then none else (eval tx x).map (.conv src dst)
 | .store ty x y => match eval tx x with
  | some x => match eval tx y with
   | some y => some (.store ty x y)
   | none => none
  | none => none
 | .call c => match c.callee with
  | .builtin b => match b with
   | .append | .copy => (evals tx c.args.toList).map (.bif b c.argTypes)
   | _ => none
  | _ => none
 | _ => none
inductive aB where
 | ask (a : mt) (u : Bool) (own : List (Nat × bP)) (n : Nat) (v : V) (k : aB)
 | act (a : wG) (own : List (Nat × bP)) (n : Nat) (v : V) (k : aB)
 | new (k : aB)
 | call (f : FuncId) (args : List V) (own after : List (Nat × bP)) (n : Nat) (v : V) (pk : Bool) (k : aB)
 | calla (f : V) (args : List V) (own : List (Nat × bP)) (n : Nat) (v : V) (k : aB)
 | callS (f : FuncId) (args : List V) (own : List (Nat × bP)) (n : Nat) (v : V) (k : aB)
 | cond (i : Nat) (a b : aB)
 | ret (v : V) (own : List (Nat × bP))
 | pan (v : V) (own : List (Nat × bP))
 | loop (d n : Nat) (vs : List V) (bs : List Nat) (own : List bP) (k : aB)
 | back (d : Nat) (vs : List V) (bs : List Nat)
 | cut (n : Nat) (vs : List V) (bs : List Nat) (own : List bP) (k : aB)
 deriving Inhabited
def MB (na : Nat) : Nat → List V
 | 0 => []
 | n + 1 => .atom na :: MB (na + 1) n
mutual
def BP (P : Program) : Nat → TypeId → Nat → V × Nat
 | 0, _, na => (.atom na, 1)
 | d + 1, ty, na => match P.underlying ty with
  | some (.tuple es) => match OP P d es.toList na with
   | (l, n) => (.tuple l, n)
  | some (.struct _) => match size P ty with
   | some n => (.agg (MB na n), n)
   | none => (.atom na, 1)
  | some (.array _ _) => match size P ty with
   | some n => (.agg (MB na n), n)
   | none => (.atom na, 1)
  | _ => (.atom na, 1)
def OP (P : Program) : Nat → List TypeId → Nat → List V × Nat
 | 0, _, _ => ([], 0)
 | _, [], _ => ([], 0)
 | d + 1, ty :: r, na => match BP P d ty na with
  | (v, n) => match OP P d r (na + n) with
   | (l, m) => (v :: l, n + m)
end
def kj (P : Program) (o : Oper) (na : Nat) : V × Nat := match o.op with
 | .binOp .. | .unOp .. | .nilCheck .. | .indexAddr .. | .fieldAddr .. => (.atom na, 1)
 | _ => BP P 12 o.type na
mutual
def mM (na nb : Nat) : V → Bool
 | .ptr a => Nat.blt a.f nb
 | .slice a _ _ _ _ => Nat.blt a.f nb
 | .map r => Nat.blt r nb
 | .func fn fi ca => (match fn with | .yield l => Nat.blt l nb | _ => true) && xu na nb fi && xu na nb ca
 | .iface _ v => mM na nb v
 | .agg l => xu na nb l
 | .tuple l => xu na nb l
 | .atom i => Nat.blt i na
 | _ => true
def xu (na nb : Nat) : List V → Bool
 | [] => true
 | v :: r => mM na nb v && xu na nb r
end
def xv (na nb : Nat) : bP → Bool
 | .cells _ _ _ vers => vers.all fun u => xu na nb u.cells
 | .map es _ => es.all fun x => mM na nb x.key && mM na nb x.val
 | _ => false
def heads : List V → List Nat
 | [] => []
 | .ptr a :: r => a.f :: heads r
 | .slice a _ _ _ _ :: r => a.f :: heads r
 | .map m :: r => m :: heads r
 | .func _ _ ca :: r => (ca.filterMap fun | .ptr a => some a.f | _ => none) ++ heads r
 | _ :: r => heads r
def dc (xs : S) : List Nat → List (Nat × bP)
 | [] => []
 | f :: r => match xs.get f with
  | some B => (f, B) :: dc xs r
  | none => dc xs r
def mt.heads : mt → List Nat
 | .load _ x => Go.AI.heads [x]
 | .lookup _ m _ _ => Go.AI.heads [m]
 | .bif _ _ args => Go.AI.heads args
 | .conv _ _ x => Go.AI.heads [x]
 | .bin _ _ _ x y => Go.AI.heads [x, y]
 | _ => []
def wG.heads : wG → List Nat
 | .mapUpd _ m _ _ => Go.AI.heads [m]
 | .makeMap => []
 | .makeSlice _ _ _ => []
 | .conv _ _ x => Go.AI.heads [x]
 | .store _ x y => Go.AI.heads [x, y]
 | .bif _ _ args => Go.AI.heads args
abbrev SR := List (Nat × List Nat)
structure MW where
 mods : SR
 pk : Bool
structure aH where
 key : Nat
 slots : List (Nat × Bool)
 blks : List (Nat × List Nat)
structure eW where
 slots : List (Nat × V)
 blks : List bP
 na : Nat
structure gX where
 E : cg
 fn : Func
 anns : List aH
 ct : List (FuncId × MW)
 cuts : List aH      -- regions ahead of which paths meet
 nF : Nat      -- the first blocks: what the caller asks after at the end
def ee : Code → Option Nat
 | .region id _ _ => some id
 | .seq a b => match ee a with
  | some i => some i
  | none => ee b
 | .cond _ a b => match ee a with
  | some i => some i
  | none => ee b
 | .block _ c => ee c
 | .loop c => ee c
 | .scope c => ee c
 | _ => none
def Ho (f : Nat) : List Nat → Nat → Option Nat
 | [], _ => none
 | g :: r, i => bif Nat.beq f g then some i else Ho f r (i + 1)
mutual
def Rv (bs : List Nat) (g : Bool) : V → List V → V × List V
 | .ptr a, l => match Ho a.f bs 0 with
  | some j => (.ptr ⟨j, a.v, a.c⟩, l)
  | none => (.atom l.length, l ++ [.ptr a])
 | .slice a z n c sz, l => match Ho a.f bs 0 with
  | some j => (.slice ⟨j, a.v, a.c⟩ z n c sz, l)
  | none => (.atom l.length, l ++ [.slice a z n c sz])
 | .map r, l => match Ho r bs 0 with
  | some j => (.map j, l)
  | none => (.atom l.length, l ++ [.map r])
 | .agg cs, l => match MH bs g cs l with
  | (cs, l) => (.agg cs, l)
 | .tuple cs, l => match MH bs g cs l with
  | (cs, l) => (.tuple cs, l)
 | .func fn fi ca, l => match MH bs false fi l with
  | (fi, l) => match MH bs false ca l with
   | (ca, l) => (.func fn fi ca, l)
 | .atom i, l => (.atom l.length, l ++ [.atom i])
 | v, l => bif g then (.atom l.length, l ++ [v]) else (v, l)
def MH (bs : List Nat) (g : Bool) : List V → List V → List V × List V
 | [], l => ([], l)
 | v :: r, l => match Rv bs g v l with
  | (v, l) => match MH bs g r l with
   | (r, l) => (v :: r, l)
end
def DQ (bs : List Nat) (gs : List Nat) : Nat → List V → List V → List V × List V
 | _, [], l => ([], l)
 | i, v :: r, l => match Rv bs (gs.contains i) v l with
  | (v, l) => match DQ bs gs (i + 1) r l with
   | (r, l) => (v :: r, l)
def wt (bs : List Nat) (tx : T V) : List (Nat × Bool) → List V → Option (List (Nat × V) × List V)
 | [], l => some ([], l)
 | (i, g) :: r, l => match tx.get (eT i) with
  | some v => match Rv bs g v l with
   | (v, l) => match wt bs tx r l with
    | some (r, l) => some ((i, v) :: r, l)
    | none => none
  | none => none
def Bk (bs : List Nat) (xs : S) : List (Nat × List Nat) → List V → Option (List bP × List V)
 | [], l => some ([], l)
 | (f, gs) :: r, l => match xs.get f with
  | some (.cells el sb nv [⟨v, lo, cs⟩]) => match DQ bs gs 0 cs l with
   | (cs, l) => match Bk bs xs r l with
    | some (r, l) => some (.cells el sb nv [⟨v, lo, cs⟩] :: r, l)
    | none => none
  | _ => none
mutual
def Pj : V → V → List (Nat × V) × List (Nat × Nat)
 | .atom i, w => ([(i, w)], [])
 | .ptr a, .ptr b => ([], [(a.f, b.f)])
 | .slice a _ _ _ _, .slice b _ _ _ _ => ([], [(a.f, b.f)])
 | .map a, .map b => ([], [(a, b)])
 | .agg a, .agg b => yA a b
 | .tuple a, .tuple b => yA a b
 | .func _ a b, .func _ c d => match yA a c with
  | (x, y) => match yA b d with
   | (z, w) => (x ++ z, y ++ w)
 | _, _ => ([], [])
def yA : List V → List V → List (Nat × V) × List (Nat × Nat)
 | a :: r, b :: q => match Pj a b with
  | (x, y) => match yA r q with
   | (z, w) => (x ++ z, y ++ w)
 | _, _ => ([], [])
end
def CM {α : Type} : List (Nat × α) → Nat → Option α
 | [], _ => none
 | (j, x) :: r, i => bif Nat.beq i j then some x else CM r i
def yz (tx : T V) : List (Nat × V) → List (Nat × V) × List (Nat × Nat)
 | [] => ([], [])
 | (i, v) :: r => match tx.get (eT i) with
  | some w => match Pj v w with
   | (x, y) => match yz tx r with
    | (z, u) => (x ++ z, y ++ u)
  | none => ([], [])
def SI (m : List (Nat × Nat)) (j : Nat) : Nat := match CM m j with
 | some f => f
 | none => j
def Dc (xs : S) (m : List (Nat × Nat)) : Nat → List bP → List (Nat × V)
 | _, [] => []
 | j, .cells _ _ _ [⟨_, _, cs⟩] :: r => match xs.get (SI m j) with
  | some (.cells _ _ _ [⟨_, _, ds⟩]) => (yA cs ds).1 ++ Dc xs m (j + 1) r
  | _ => []
 | _, _ => []
def Hc : bP → bP → Bool
 | .cells e sb nv [⟨v, lo, cs⟩], .cells e' sb' nv' [⟨v', lo', cs'⟩] => Nat.beq e e' && sb == sb' && Nat.beq nv nv' && Nat.beq v v' && Nat.beq lo lo' && ba cs cs'
 | _, _ => false
def oj (tx : T V) (q : Sg) : List (Nat × V) → Bool
 | [] => true
 | (i, v) :: r => (match tx.get (eT i) with
  | some w => ba [sub q v] [w]
  | none => false) && oj tx q r
def qA (xs : S) (q : Sg) : List Nat → List bP → Bool
 | [], [] => true
 | f :: fs, B :: r => (match xs.get f with
  | some C => Hc (hQ q B) C
  | none => false) && qA xs q fs r
 | _, _ => false
def iM : List Nat → Bool
 | [] => true
 | f :: r => !(r.contains f) && iM r
def fits (R : eW) (tx : T V) (xs : S) (vs : List V) (bs : List Nat) : Bool :=
 Nat.beq vs.length R.na && vs.all V.one && iM bs && bs.all (fun f => Nat.blt f xs.next) &&
 R.slots.all (fun x => mM R.na bs.length x.2) && R.blks.all (fun B => xv R.na bs.length B && B.isOwn) && oj tx ⟨vs, bs⟩ R.slots && qA xs ⟨vs, bs⟩ bs R.blks
def Ee (m : List (Nat × V)) : Nat → Nat → List V
 | _, 0 => []
 | i, n + 1 => (match CM m i with | some v => v | none => .nilptr) :: Ee m (i + 1) n
def Ms (m : List (Nat × Nat)) : Nat → Nat → List Nat
 | _, 0 => []
 | j, n + 1 => SI m j :: Ms m (j + 1) n
def mC : List (Nat × V) → T V
 | [] => .leaf
 | (i, v) :: r => (mC r).setK (some v) (eT i) id
def br : S → List bP → S
 | s, [] => s
 | s, B :: r => br (s.alloc B) r
def depth : List Item → Nat
 | [] => 0
 | .inLoop _ :: r => depth r + 1
 | _ :: r => depth r
abbrev Kx := T V → S → Nat → Option aB
def wl (tx : T V) (d : Option Tmp) : Option Nat := match d with
 | some d => match tx.get (eT d) with
  | some (.atom i) => some i
  | _ => none
 | none => none
def Ny (ops : Array Oper) (tx : T V) (o : Oper) : Option Tmp :=
 match o.guard with
 | some (j, _) => match wl tx ((ops[j]?).bind (·.dst)) with
  | some _ => (ops[j]?).bind (·.dst)
  | none => pickAt
 | none => pickAt
 where pickAt : Option Tmp := match o.op with
  | .pick (.tmp d) _ _ => match wl tx (some d) with
   | some _ => some d
   | none => none
  | _ => none
def HQ (i : Nat) (a b : Option aB) : Option aB := match a with
 | some a => match b with
  | some b => some (.cond i a b)
  | none => none
 | none => none
def qY (ops : Array Oper) (o : Oper) (k : T V → Option aB) : Nat → T V → Option aB
 | 0, tx => k tx
 | n + 1, tx => match Ny ops tx o with
  | some d => match wl tx (some d) with
   | some i => HQ i (qY ops o k n (putD tx (some d) (.bool true))) (qY ops o k n (putD tx (some d) (.bool false)))
   | none => none
  | none => k tx
def uy (na : Nat) (gs : List Nat) : Nat → List V → List V × Nat
 | _, [] => ([], na)
 | i, v :: r => bif gs.contains i then (match uy (na + 1) gs (i + 1) r with | (r, n) => (.atom na :: r, n)) else (match uy na gs (i + 1) r with | (r, n) => (v :: r, n))
def uU (xs : S) (args : List V) : Nat → SR → List (Nat × bP) × Nat
 | na, [] => ([], na)
 | na, (i, gs) :: r => match args[i]? with
  | some (.ptr a) => match xs.get a.f with
   | some (.cells el sb nv [⟨v, lo, cs⟩]) => match uy na gs 0 cs with
    | (cs, na) => match uU xs args na r with
     | (l, na) => ((a.f, .cells el sb nv [⟨v, lo, cs⟩]) :: l, na)
   | _ => uU xs args na r
  | _ => uU xs args na r
def lX (xs : S) : List (Nat × bP) → S
 | [] => xs
 | (f, B) :: r => lX (xs.put f B) r
def oa (xs : S) (na : Nat) (l : List (Nat × bP)) : Bool := iM (l.map (·.1)) && l.all fun x => (match xs.get x.1 with | some _ => true | none => false) && xv na xs.next x.2 && x.2.isOwn
def JG (C : gX) (f : FuncId) (args : List V) (ty : TypeId) (xs : S) (na : Nat) (plain : Bool) (k : V → S → Nat → Option aB) : Option aB :=
 match CM C.ct f with
 | some c => match uU xs args na c.mods with
  | (after, na1) => match BP C.E.P 12 ty na1 with
   | (v, n) => bif Nat.ble na na1 && oa xs (na1 + n) after && mM (na1 + n) xs.next v && (plain || !c.pk) then
    (k v (lX xs after) (na1 + n)).map (.call f args (dc xs (heads args)) after (na1 + n - na) v c.pk) else none
 | none => match BP C.E.P 12 ty na with
  | (v, n) => bif mM (na + n) xs.next v then (k v xs (na + n)).map (.call f args (dc xs (heads args)) [] n v false) else none
def Lj (xs xs' : S) (k : Option aB) : Option aB := bif Nat.beq xs'.next xs.next then k else bif Nat.beq xs'.next (xs.next + 1) then k.map .new else none
def tS (tx : T V) : Op → Option (V × List V)
 | .call c => match c.callee with
  | .value f => match eval tx f with
   | some (.atom i) => match evals tx c.args.toList with
    | some args => some (.atom i, args)
    | none => none
   | _ => none
  | _ => none
 | _ => none
def Bu (C : gX) (o : Oper) (tx : T V) (xs : S) (na : Nat) (plain : Bool) (k : V → S → Nat → Option aB) : Option aB :=
 match bif zo tx o.op then az o.op C.E tx xs else none with
 | some (.val v xs') => Lj xs xs' (k v xs' na)
 | some (.skip xs') => Lj xs xs' (k V.undef xs' na)
 | some (.enter f args _) => JG C f args o.type xs na plain k
 | some (.panic v _) => bif !plain then none else some (.pan v (dc xs (List.range C.nF)))
 | some _ => none
 | none => match wm C.E tx o.op with
  | some a => match kj C.E.P o na with
   | (v, n) => bif mM (na + n) xs.next v then (k v xs (na + n)).map (.ask a true (dc xs a.heads) n v) else none
  | none => match oS C.E.P tx o.op with
   | some a => match kj C.E.P o na with
    | (v, n) => bif mM (na + n) xs.next v then (k v xs (na + n)).map (.act a (dc xs a.heads) n v) else none
   | none => match bif plain then tS tx o.op else none with
    | some (f, args) => match kj C.E.P o na with
     | (v, n) => bif mM (na + n) xs.next v then (k v xs (na + n)).map (.calla f args (dc xs (heads args)) n v) else none
    | none => none
def JE (C : gX) (ops : Array Oper) (k : Kx) : List Oper → Kx
 | [] => k
 | o :: r => fun tx xs na => qY ops o (fun tx => match aM ops tx o with
  | some true => Bu C o tx xs na true fun v xs na => JE C ops k r (putD tx o.dst v) xs na
  | some false => JE C ops k r (putD tx o.dst V.undef) xs na
  | none => none) 2 tx
def gX.uf (C : gX) : Bool := C.cuts.any fun a => Nat.beq a.key 999999
def gX.us (C : gX) : Bool := C.cuts.any fun a => Nat.beq a.key 999998
def DZ (C : gX) (f : FuncId) (args : List V) (ty : TypeId) (xs : S) (na : Nat) (k : V → S → Nat → Option aB) : Option aB :=
 match BP C.E.P 12 ty na with
 | (v, n) => bif mM (na + n) xs.next v then (k v xs (na + n)).map (.callS f args (dc xs (heads args)) n v) else none
def Hq (C : gX) (f : FuncId) : Bool := match CM C.ct f with
 | some c => c.mods.isEmpty && !c.pk
 | none => true
def tP (C : gX) (o : Oper) (tx : T V) (xs : S) : Option (FuncId × List V) := match bif zo tx o.op then az o.op C.E tx xs else none with
 | some (.enter f args _) => bif Hq C f then some (f, args) else none
 | _ => none
def oW (C : gX) (o : Oper) (hist : List S) (fr : Bool) (tx : T V) (xs : S) (na : Nat) (k : V → S → Nat → Option aB) : Option aB :=
 match al C.E.P o.op with
 | 0 => match bif zo tx o.op then az o.op C.E tx xs else none with
  | some (.val v _) => k v xs na
  | some _ => none
  | none => askF xs false false
 | 1 => match bif zo tx o.op then du C.E tx o hist else none with
  | some v => k v xs na
  | none => match hist with
   | [x] => askF x true fr
   | [] => none
   | _ => askF xs false fr
 | 2 => match bif zo tx o.op then az o.op C.E tx xs else none with
  | some (.val v xs') => Lj xs xs' (k v xs' na)
  | some _ => none
  | none => match oS C.E.P tx o.op with
   | some a => match kj C.E.P o na with
    | (v, n) => bif mM (na + n) xs.next v then (k v xs (na + n)).map (.act a (dc xs a.heads) n v) else none
   | none => none
 | _ => none
 where askF (x : S) (own u : Bool) : Option aB := match wm C.E tx o.op with
  | some a => match kj C.E.P o na with
   | (v, n) => bif mM (na + n) xs.next v then (k v xs (na + n)).map (.ask a u (bif own then dc x a.heads else []) n v) else none
  | none => none
def zk (C : gX) (ops : Array Oper) (k : Kx) : List (Option Nat × Nat) → List S → Nat → Kx
 | [], _, _ => k
 | (c, i) :: r, hist, uc => fun tx xs na => match ops[i]? with
  | none => none
  | some o => qY ops o (fun tx => match aM ops tx o with
   | some true => match c with
    | some c => oW C o (hist.take c) (Nat.ble (hist.take c).length uc) tx xs na fun v xs' na => zk C ops k r hist (bif Nat.beq (al C.E.P o.op) 2 && Nat.beq xs'.next xs.next then 0 else uc) (putD tx o.dst v) xs' na
    | none => match bif C.us then tP C o tx xs else none with
     | some (f, args) => DZ C f args o.type xs na fun v xs na => zk C ops k r (xs :: hist) (uc + 1) (putD tx o.dst v) xs na
     | none => Bu C o tx xs na false fun v xs na => zk C ops k r (xs :: hist) (bif C.uf then 1 else 0) (putD tx o.dst v) xs na
   | some false => match c with
    | some _ => zk C ops k r hist uc (putD tx o.dst V.undef) xs na
    | none => zk C ops k r (xs :: hist) (bif C.uf then 1 else 0) (putD tx o.dst V.undef) xs na
   | none => none) 2 tx
def zg : List aH → Option Nat → Option aH
 | [], _ => none
 | a :: r, k => match k with
  | some k => bif Nat.beq a.key k then some a else zg r (some k)
  | none => none
def KY (xs : S) : Nat → List Nat → List V → List Nat
 | 0, seen, _ => seen
 | n + 1, seen, l => match (heads l).filter fun f => !(seen.contains f) with
  | [] => seen
  | new => match new.eraseDups with
   | new => KY xs n (seen ++ new) (new.flatMap fun f => match xs.get f with
    | some (.cells _ _ _ [⟨_, _, cs⟩]) => cs.flatMap V.cells
    | _ => [])
def qU (A : aH) (tx : T V) (xs : S) : List (Nat × List Nat) := match A.blks with
 | [] => (KY xs 5 [] (A.slots.flatMap fun x => match tx.get (eT x.1) with
  | some v => v.cells.flatMap fun v => match v with | .tuple l => l | v => [v]
  | none => [])).filterMap fun f => match xs.get f with
   | some (.cells _ _ _ [⟨_, _, cs⟩]) => some (f, List.range cs.length)
   | _ => none
 | l => l
def JF (A : aH) (d : Nat) (tx : T V) (xs : S) (bk : List (Nat × List Nat)) (k : eW → Option aB) : Option aB :=
 match wt (bk.map (·.1)) tx A.slots [] with
 | some (sl, l) => match Bk (bk.map (·.1)) xs bk l with
  | some (bl, l) => match eW.mk sl bl l.length with
   | R => bif fits R tx xs l (bk.map (·.1)) then (k R).map (.loop d l.length l (bk.map (·.1)) bl) else none
  | none => none
 | none => none
def OM (A : aH) (d : Nat) (tx : T V) (xs : S) (k : eW → Option aB) : Option aB := JF A d tx xs (qU A tx xs) k
def GH (tx : T V) (xs : S) (A : aH) (bk : List (Nat × List Nat)) (k : eW → Option aB) : Option aB :=
 match wt (bk.map (·.1)) tx A.slots [] with
 | some (sl, l) => match Bk (bk.map (·.1)) xs bk l with
  | some (bl, l) => match eW.mk sl bl l.length with
   | R => bif fits R tx xs l (bk.map (·.1)) then (k R).map (.cut l.length l (bk.map (·.1)) bl) else none
  | none => none
 | none => none
def tA (C : gX) (ops : Array Oper) (dr : Bool) (k : Kx) : Kx := fun tx xs na => bif gp ops C.fn.ntmps then (match dr with
 | false => JE C ops k ops.toList tx xs na
 | true => match xR C.E.P ops with
  | some sc => zk C ops k sc [xs] (bif C.uf then 1 else 0) tx xs na
  | none => none) else none
def HS (c : Code) : Option Nat := match ee c with
 | some i => some (i + 100000)
 | none => none
def GI (c : Operand) (ka kb : Kx) : Kx := fun tx xs na => match eval tx c with
 | some (.bool q) => bif q then ka tx xs na else kb tx xs na
 | some (.atom i) => match c with
  | .tmp d => HQ i (ka (putD tx (some d) (.bool true)) xs na) (kb (putD tx (some d) (.bool false)) xs na)
  | _ => none
 | _ => none
def ON (R : eW) (d : Nat) (tx : T V) (xs : S) : Option aB :=
 match yz tx R.slots with
 | (vs, bs) => match Dc xs bs 0 R.blks with
  | ws => match Ee (vs ++ ws) 0 R.na with
   | l => match Ms bs 0 R.blks.length with
    | b => bif fits R tx xs l b then some (.back d l b) else none
def cb (C : gX) : Nat → List eW → List Item → Kx
 | 0, _, _ => fun _ _ _ => none
 | n + 1, L, todo => match todo with
  | [] => fun tx xs _ => retT tx xs
  | i :: k => match i with
   | .code c => match c with
    | .ret => fun tx xs _ => retT tx xs
    | .skip => cb C n L k
    | .label _ => cb C n L k
    | .seq a b => cb C n L (.code a :: .code b :: k)
    | .block id c => cb C n L (.code c :: .inBlock id :: k)
    | .scope c => cb C n L (.code c :: .inScope c :: k)
    | .exit id => match exitTo id k with
     | some k => cb C n L k
     | none => fun _ _ _ => none
    | .cond c a b => fun tx xs na => match zg C.cuts (HS (.cond c a b)) with
     | some A => GH tx xs A (qU A tx xs) fun R => GI c (cb C n L (.code a :: k)) (cb C n L (.code b :: k)) (mC R.slots) (br ⟨.leaf, 0⟩ R.blks) R.na
     | none => GI c (cb C n L (.code a :: k)) (cb C n L (.code b :: k)) tx xs na
    | .region id ops dr => fun tx xs na => match zg C.cuts (some id) with
     | some A => GH tx xs A (qU A tx xs) fun R => tA C ops dr (cb C n L k) (mC R.slots) (br ⟨.leaf, 0⟩ R.blks) R.na
     | none => tA C ops dr (cb C n L k) tx xs na
    | .loop c => fun tx xs _ => match zg C.anns (ee c) with
     | some A => OM A (depth k) tx xs fun R => cb C n (L.take (depth k) ++ [R]) (.code c :: .inLoop c :: k) (mC R.slots) (br ⟨.leaf, 0⟩ R.blks) R.na
     | none => none
    | _ => fun _ _ _ => none
   | .inBlock _ => cb C n L k
   | .inScope _ => cb C n L k
   | .inLoop _ => fun tx xs _ => match L[depth k]? with
    | some R => ON R (depth k) tx xs
    | none => none
   | _ => fun _ _ _ => none
 where retT (tx : T V) (xs : S) : Option aB := match cJ C.E.P C.fn tx xs with
  | some v => some (.ret v (dc xs (List.range C.nF ++ heads v.cells)))
  | none => none
def iA (D : List Nat) (U : S → Prop) : Prop := ∀ s s', U s → (∀ g ∈ D, ∀ B, s.get g = some B → s'.get g = some B) → s.next ≤ s'.next → U s'
theorem ay : iA [] fun _ => True := fun _ _ _ _ _ => trivial
def ef (e : Sg) (s : S) : List (Nat × bP) → Prop
 | [] => True
 | x :: r => s.get (e.bl x.1) = some (hQ e x.2) ∧ ef e s r
def aA (l : List V) : Prop := l.all V.one = true
def fk (e : Sg) (l : List (Nat × bP)) : List Nat := l.map fun x => e.bl x.1
def Sg.add (e : Sg) (vs : List V) : Sg := ⟨e.σ ++ vs, e.β⟩
abbrev ck := List V → List Nat → List Nat → (S → Prop) → Prop
def DT (E : cg) (f : V) (args : List V) (s : S) (w : V) (s' : S) : Prop :=
 (∃ g fi ca, f = .func (.func g) fi ca ∧ fU E g (fi ++ (args ++ ca)) s = some (.enter g (fi ++ (args ++ ca)) s) ∧ lim E (.call g (fi ++ (args ++ ca)) none) s = some ⟨.returned w, none, s'⟩) ∨
 (∃ l fi ca u, f = .func (.yield l) fi ca ∧ lim E (.round l (fi ++ args)) s = some ⟨.returned w, u, s'⟩)
def ah (E : cg) (F : List Nat) (s0 : S) (Q : cX → Prop) : aB → Sg → List Nat → (S → Prop) → List ck → Prop
 | .ask a u own n v k => fun e D U L => ∃ vs : List V, vs.length = n ∧ aA vs ∧
  (∀ s, Fw F s0 s → WF s → (u = true → U s) → ef e s own → (a.sub e).run E.P s = some (sub (e.add vs) v)) ∧ ah E F s0 Q k (e.add vs) D U L
 | .act a own n v k => fun e D U L => ∀ s, Fw F s0 s → WF s → U s → ef e s own → ∃ (vs : List V) (s' : S) (D' : List Nat) (U' : S → Prop), vs.length = n ∧ aA vs ∧
  (a.sub e).run E.P s = some (sub (e.add vs) v, s') ∧ Fw D s s' ∧ iA D' U' ∧ U' s' ∧ (∀ g ∈ D', g < s'.next ∧ (g ∈ D ∨ s.next ≤ g)) ∧ ah E F s0 Q k (e.add vs) D' U' L
 | .new k => fun e D U L => ∀ b, s0.next ≤ b → b ∉ D → ah E F s0 Q k ⟨e.σ, e.β ++ [b]⟩ D U L
 | .call f args own after n v pk k => fun e D U L => ∀ s, Fw F s0 s → WF s → U s → ef e s own →
  (∃ (vs : List V) (s' : S), vs.length = n ∧ aA vs ∧ lim E (.call f (args.map (sub e)) none) s = some ⟨.returned (sub (e.add vs) v), none, s'⟩ ∧ Fw (fk e after) s s' ∧ ef (e.add vs) s' after ∧ ah E F s0 Q k (e.add vs) D U L) ∨
  (∃ (vs : List V) (s' : S) (D' : List Nat) (U' : S → Prop), vs.length = n ∧ aA vs ∧ lim E (.call f (args.map (sub e)) none) s = some ⟨.returned (sub (e.add vs) v), none, s'⟩ ∧ Fw (fk e after ++ D) s s' ∧ ef (e.add vs) s' after ∧
   iA D' U' ∧ U' s' ∧ (∀ g ∈ D', g < s'.next ∧ (g ∈ D ∨ s.next ≤ g)) ∧ ah E F s0 Q k (e.add vs) D' U' L) ∨
  (pk = true ∧ ∃ c s', lim E (.call f (args.map (sub e)) none) s = some ⟨.panicked c, none, s'⟩ ∧ Q ⟨.panicked c, none, s'⟩)
 | .calla f args own n v k => fun e D U L => ∀ s, Fw F s0 s → WF s → U s → ef e s own → ∃ (vs : List V) (s' : S) (D' : List Nat) (U' : S → Prop), vs.length = n ∧ aA vs ∧
  DT E (sub e f) (args.map (sub e)) s (sub (e.add vs) v) s' ∧ Fw D s s' ∧ iA D' U' ∧ U' s' ∧ (∀ g ∈ D', g < s'.next ∧ (g ∈ D ∨ s.next ≤ g)) ∧ ah E F s0 Q k (e.add vs) D' U' L
 | .callS f args own n v k => fun e D U L => ∀ s, Fw F s0 s → WF s → U s → ef e s own → ∃ (vs : List V) (s' : S), vs.length = n ∧ aA vs ∧
  lim E (.call f (args.map (sub e)) none) s = some ⟨.returned (sub (e.add vs) v), none, s'⟩ ∧ Fw [] s s' ∧ ah E F s0 Q k (e.add vs) D U L
 | .cond i a b => fun e D U L => ∃ q : Bool, e.val i = .bool q ∧ (q = true → ah E F s0 Q a e D U L) ∧ (q = false → ah E F s0 Q b e D U L)
 | .ret v own => fun e D U L => ∀ s, Fw F s0 s → WF s → U s → ef e s own → Q ⟨.returned (sub e v), none, s⟩
 | .pan v own => fun e D U L => ∀ s, Fw F s0 s → WF s → U s → ef e s own → Q ⟨.panicked [⟨sub e v, false⟩], none, s⟩
 | .loop d n vs bs own k => fun e D U L => ∃ I : Nat → ck,
  (∃ j U', iA D U' ∧ (∀ s, Fw F s0 s → WF s → U s → U' s) ∧ I j (vs.map (sub e)) (bs.map e.bl) D U') ∧
  (∀ j vs' bs' D' U', I j vs' bs' D' U' → vs'.length = n → aA vs' → bs'.length = bs.length → ah E F s0 Q k ⟨vs', bs'⟩ D' U' (L.take d ++ [fun vs bs D U => ∃ j', j' < j ∧ I j' vs bs D U]))
 | .cut n vs bs own k => fun e D U L => ∃ P : ck, (∃ U', iA D U' ∧ (∀ s, Fw F s0 s → WF s → U s → U' s) ∧ P (vs.map (sub e)) (bs.map e.bl) D U') ∧
  (∀ vs' bs' D' U', P vs' bs' D' U' → vs'.length = n → aA vs' → bs'.length = bs.length → ah E F s0 Q k ⟨vs', bs'⟩ D' U' L)
 | .back d vs bs => fun e D U L => ∃ P U', L[d]? = some P ∧ iA D U' ∧ (∀ s, Fw F s0 s → WF s → U s → U' s) ∧ P (vs.map (sub e)) (bs.map e.bl) D U'
structure XI (F : List Nat) (s0 : S) (e : Sg) (D : List Nat) (U : S → Prop) (xs s : S) : Prop where
 x : XR F s0 e xs s
 u : U s
 st : iA D U
 d : ∀ g ∈ D, g < s.next ∧ (s0.next ≤ g ∨ g ∈ F) ∧ ∀ f, f < xs.next → e.bl f ≠ g
section
variable {F : List Nat} {s0 : S} {e : Sg} {xs s : S} {D : List Nat} {U : S → Prop}
mutual
theorem nX {na nb : Nat} {a b : Sg} (h : a.le b) (h1 : na ≤ a.σ.length) (h2 : nb ≤ a.β.length) : ∀ v : V, mM na nb v = true → sub b v = sub a v
 | .ptr x, hb => by
  have := Nat.le_of_ble_eq_true hb
  simp only [sub, ig, h.bl (f := x.f) (by omega)]
 | .slice x z n c sz, hb => by
  have := Nat.le_of_ble_eq_true hb
  simp only [sub, ig, h.bl (f := x.f) (by omega)]
 | .map r, hb => by
  have := Nat.le_of_ble_eq_true hb
  simp only [sub, h.bl (f := r) (by omega)]
 | .func fn fi ca, hb => by
  simp only [mM, Bool.and_eq_true] at hb
  have hf : mw b fn = mw a fn := by
   cases fn with
   | yield l =>
    have := Nat.le_of_ble_eq_true hb.1.1
    simp only [mw, h.bl (f := l) (by omega)]
   | _ => rfl
  simp only [sub, hf, lg h h1 h2 fi hb.1.2, lg h h1 h2 ca hb.2]
 | .iface ty v, hb => by simp only [sub, nX h h1 h2 v hb]
 | .agg l, hb => by simp only [sub, lg h h1 h2 l hb]
 | .tuple l, hb => by simp only [sub, lg h h1 h2 l hb]
 | .atom i, hb => by
  have := Nat.le_of_ble_eq_true hb
  simp only [sub, h.val (i := i) (by omega)]
 | .bool _, _ | .int .., _ | .str _, _ | .nilptr, _ | .nilslice, _ | .nilmap, _ | .nilFunc, _ | .nilIface, _ => rfl
theorem lg {na nb : Nat} {a b : Sg} (h : a.le b) (h1 : na ≤ a.σ.length) (h2 : nb ≤ a.β.length) : ∀ l : List V, xu na nb l = true → gZ b l = gZ a l
 | [], _ => rfl
 | v :: r, hb => by
  simp only [xu, Bool.and_eq_true] at hb
  simp only [gZ, nX h h1 h2 v hb.1, lg h h1 h2 r hb.2]
end
theorem uk {na nb : Nat} {a b : Sg} (h : a.le b) (h1 : na ≤ a.σ.length) (h2 : nb ≤ a.β.length) {B : bP} (hb : xv na nb B = true) : hQ b B = hQ a B := by
 cases B with
 | cells el sb nv vers =>
  simp only [xv, List.all_eq_true] at hb
  simp only [hQ, bP.cells.injEq, true_and]
  refine List.map_congr_left fun u hu => ?_
  have := lg h h1 h2 u.cells (hb u hu)
  simp only [eu, ← de, this]
 | map es c =>
  simp only [xv, List.all_eq_true, Bool.and_eq_true] at hb
  simp only [hQ, bP.map.injEq, and_true]
  refine List.map_congr_left fun u hu => ?_
  simp only [EC, nX h h1 h2 _ (hb u hu).1, nX h h1 h2 _ (hb u hu).2]
 | _ => rfl
theorem ph {na nb : Nat} (ok : e.ok) (h1 : na ≤ e.σ.length) (h2 : nb ≤ e.β.length) {v : V} (hb : mM na nb v = true) : RV e v (sub e v) := fun e' he => nX he h1 h2 v hb
theorem ya {l : List V} (h : aA l) : ∀ v ∈ l, v.one = true := List.all_eq_true.1 h
theorem pI (ok : e.ok) {vs : List V} (hv : aA vs) : e.le (e.add vs) := ⟨List.prefix_append _ _, List.prefix_rfl, fun v hm => by
 rcases List.mem_append.1 hm with hm | hm
 ·exact ok v hm
 ·exact ya hv v hm⟩
theorem XR.add (h : XR F s0 e xs s) {vs : List V} (hv : aA vs) : XR F s0 (e.add vs) xs s := (h.more (ya hv)).2
theorem OI (vs : List V) : (e.add vs).σ.length = e.σ.length + vs.length := by simp [Sg.add]
theorem fR (h : HK e xs s) : ∀ l : List Nat, ef e s (dc xs l)
 | [] => trivial
 | f :: r => by
  simp only [dc]
  split
  ·rename_i B hB; exact ⟨(h.k e (Sg.le_refl h.ok) f B hB).1, fR h r⟩
  ·exact fR h r
theorem XR.turn (h : XR F s0 e xs s) {W : List Nat} {s' : S} (hw : Fw W s s') (hW : ∀ g ∈ W, s0.next ≤ g ∨ g ∈ F) (hd : ∀ f, f < xs.next → e.bl f ∉ W) : XR F s0 e xs s' := by
 have hfw : Fw F s0 s' := by
  refine ⟨fun g B hg hB => ?_, fun g vs hB => hw.ro g vs (h.fw.ro g vs hB), Nat.le_trans h.fw.next hw.next, fun hh => hw.wf (h.fw.wf hh)⟩
  refine hw.keep g B (fun hgW => ?_) (h.fw.keep g B hg hB)
  rcases hW g hgW with h1 | h1
  ·have := h.wf0 g B hB; omega
  ·exact hg h1
 refine ⟨h.ok, h.nx, h.wf0, hfw, h.dom, fun e' he f B hB => ?_, h.inj, h.hi, fun f hf => Nat.lt_of_lt_of_le (h.lt f hf) hw.next⟩
 obtain ⟨h1, h2⟩ := h.k e' he f B hB
 refine ⟨hw.keep _ _ ?_ h1, h2⟩
 rw [he.bl (f := f) (by rw [← h.nx]; exact h.dom f B hB)]
 exact hd f (h.dom f B hB)
end
section
variable {F : List Nat} {s0 : S} {e : Sg} {xs s : S} {D : List Nat} {U : S → Prop} {Q : cX → Prop} {L : List ck} {E : cg} {tx t : T V}
inductive oT (E : cg) (pl : Bool) (t : T V) (s : S) (o : Oper) (w : V) (s' : S) : Prop where
 | val : az o.op E t s = some (.val w s') → oT E pl t s o w s'
 | skip : az o.op E t s = some (.skip s') → w = V.undef → oT E pl t s o w s'
 | enter (f : FuncId) (args : List V) (s1 : S) : az o.op E t s = some (.enter f args s1) → lim E (.call f args none) s1 = some ⟨.returned w, none, s'⟩ → oT E pl t s o w s'
 | round (l : Nat) (args : List V) (s1 : S) (u : Option Md) : pl = true → az o.op E t s = some (.round l args s1) → lim E (.round l args) s1 = some ⟨.returned w, u, s'⟩ → oT E pl t s o w s'
inductive MJ (E : cg) (t : T V) (s : S) (o : Oper) (c : List tX) (s' : S) : Prop where
 | panic (v : V) : az o.op E t s = some (.panic v s') → c = [⟨v, false⟩] → MJ E t s o c s'
 | enter (f : FuncId) (args : List V) (s1 : S) : az o.op E t s = some (.enter f args s1) → lim E (.call f args none) s1 = some ⟨.panicked c, none, s'⟩ → MJ E t s o c s'
theorem XI.step (h : XI F s0 e D U xs s) {e' : Sg} {xs' s' : S} (hx : XR F s0 e' xs' s') (hle : e.le e') (kp : Kp e xs s e' xs' s') : XI F s0 e' D U xs' s' := by
 refine ⟨hx, h.st s s' h.u (fun g hg B hB => kp.keep g B (h.d g hg).2.2 hB) kp.next, h.st, fun g hg => ⟨Nat.lt_of_lt_of_le (h.d g hg).1 kp.next, (h.d g hg).2.1, fun f hf => ?_⟩⟩
 by_cases h1 : f < xs.next
 ·rw [hle.bl (by rw [← h.x.nx]; exact h1)]; exact (h.d g hg).2.2 f h1
 ·have := kp.new f (by omega) hf
  have := (h.d g hg).1
  omega
theorem XI.add (h : XI F s0 e D U xs s) {vs : List V} (hv : aA vs) : XI F s0 (e.add vs) D U xs s := ⟨h.x.add hv, h.u, h.st, h.d⟩
theorem Dh {e e' : Sg} (h : e.ex e') (hl : e'.β.length = e.β.length) : e' = e := by
 obtain ⟨σ, β⟩ := e; obtain ⟨σ', β'⟩ := e'
 have h1 := h.same; have h2 := h.le.pb
 simp only at h1 h2 hl
 subst h1
 rw [h2.eq_of_length hl.symm]
theorem Rl {e e' : Sg} (h : e.ex e') (hl : e'.β.length = e.β.length + 1) : e' = ⟨e.σ, e.β ++ [e'.bl e.β.length]⟩ := by
 obtain ⟨σ, β⟩ := e; obtain ⟨σ', β'⟩ := e'
 have h1 := h.same; have h2 := h.le.pb
 simp only at h1 h2 hl
 subst h1
 obtain ⟨q, rfl⟩ := h2
 rw [List.length_append] at hl
 obtain ⟨b, rfl⟩ : ∃ b, q = [b] := List.length_eq_one_iff.1 (by omega)
 unfold Sg.bl
 rw [List.getD_eq_getElem?_getD, List.getElem?_append_right (Nat.le_refl _)]
 simp
abbrev Kv := V → S → Nat → Option aB
def JC (E : cg) (F : List Nat) (s0 : S) (Q : cX → Prop) (L : List ck) (e : Sg) (s : S) (k : Kv) (stp : V → S → Prop) : Prop :=
 ∃ v xs' na' tree' e' D' U' w s', k v xs' na' = some tree' ∧ stp w s' ∧ s.next ≤ s'.next ∧ e.le e' ∧ ah E F s0 Q tree' e' D' U' L ∧ na' = e'.σ.length ∧ RV e' v w ∧ XI F s0 e' D' U' xs' s'
def mI (E : cg) (F : List Nat) (s0 : S) (Q : cX → Prop) (L : List ck) (e : Sg) (s : S) (U : S → Prop) (xs : S) (kd : Nat) (k : Kv) (stp : V → S → Prop) : Prop :=
 ∃ v xs' na' tree' e' D' U' w s', k v xs' na' = some tree' ∧ stp w s' ∧ s.next ≤ s'.next ∧ e.le e' ∧ ah E F s0 Q tree' e' D' U' L ∧ na' = e'.σ.length ∧ RV e' v w ∧ XI F s0 e' D' U' xs' s' ∧ ((kd = 2 ∧ xs'.next = xs.next) ∨ ∀ s1, U s1 → U' s1)
theorem mI.cont {kd : Nat} {k : Kv} {stp : V → S → Prop} (h : mI E F s0 Q L e s U xs kd k stp) : JC E F s0 Q L e s k stp := by
 obtain ⟨v, xs', na', tree', e', D', U', w, s', h1, h2, h3, h4, h5, h6, h7, h8, _⟩ := h
 exact ⟨v, xs', na', tree', e', D', U', w, s', h1, h2, h3, h4, h5, h6, h7, h8⟩
theorem rU {kd : Nat} (h : XI F s0 e D U xs s) {na : Nat} (hna : na = e.σ.length) {e' : Sg} (hex : e.ex e') {v w : V} {xs' s' : S} (hv : RV e' v w) (hx : XR F s0 e' xs' s') (kp : Kp e xs s e' xs' s')
 {k : Kv} {tree : aB} (ht : Lj xs xs' (k v xs' na) = some tree) (hh : ah E F s0 Q tree e D U L) {stp : V → S → Prop} (hs : stp w s') : mI E F s0 Q L e s U xs kd k stp := by
 have hxi := h.step hx hex.le kp
 unfold Lj at ht
 cases h1 : Nat.beq xs'.next xs.next with
 | true =>
  rw [h1] at ht
  simp only [cond_true] at ht
  have h2 := Nat.eq_of_beq_eq_true h1
  have h3 := Dh hex (by rw [← hx.nx, ← h.x.nx, h2])
  subst h3
  exact ⟨v, xs', na, tree, e', D, U, w, s', ht, hs, kp.next, hex.le, hh, hna, hv, hxi, .inr fun _ h => h⟩
 | false =>
  rw [h1] at ht
  simp only [cond_false] at ht
  cases h2 : Nat.beq xs'.next (xs.next + 1) with
  | false => rw [h2] at ht; cases ht
  | true =>
   rw [h2] at ht
   simp only [cond_true] at ht
   have h3 := Nat.eq_of_beq_eq_true h2
   cases hk : k v xs' na with
   | none => rw [hk] at ht; cases ht
   | some tr =>
    rw [hk] at ht; cases ht
    have h4 := Rl hex (by rw [← hx.nx, ← h.x.nx, h3])
    have hb : s.next ≤ e'.bl xs.next := kp.new xs.next (Nat.le_refl _) (by omega)
    have h5 := hh (e'.bl e.β.length) (by rw [← h.x.nx]; exact Nat.le_trans h.x.fw.next hb) (fun hm => by
     have := (h.d _ hm).1
     rw [← h.x.nx] at this; omega)
    rw [← h4] at h5
    exact ⟨v, xs', na, tr, e', D, U, w, s', hk, hs, kp.next, hex.le, h5, by rw [hna, hex.same], hv, hxi, .inr fun _ h => h⟩
theorem bump {vs : List V} {n na : Nat} (hna : na = e.σ.length) (hl : vs.length = n) : na + n = (e.add vs).σ.length := by rw [OI, hna, hl]
theorem tF {x y : Option V} {k : V → V → mt} {a : mt} (h : o2 x y k = some a) : ∃ u v, x = some u ∧ y = some v ∧ a = k u v := by
 unfold o2 at h
 split at h
 ·split at h
  ·cases h; exact ⟨_, _, rfl, rfl, rfl⟩
  ·cases h
 ·cases h
theorem dL {α β : Type} {x : Option α} {k : α → β} {a : β} (h : x.map k = some a) : ∃ u, x = some u ∧ a = k u := by
 cases x with
 | none => cases h
 | some u => cases h; exact ⟨u, rfl, rfl⟩
theorem PP (ht : RT e tx t) (ok : e.ok) {o : Option Operand} {v : Option V} (h : gm tx o = some v) : gm t o = some (EB e v) := by
 cases o with
 | none => cases h; rfl
 | some o =>
  simp only [gm] at h ⊢
  split at h
  ·rename_i u hu; cases h; rw [ht.atR ok hu]; rfl
  ·cases h
theorem qc (ht : RT e tx t) (ok : e.ok) {l : List Operand} {vs : List V} (hv : evals tx l = some vs) : evals t l = some (gZ e vs) := by
 obtain ⟨ws, h1, h2⟩ := ht.evalsR hv
 rw [h1, ← h2 e (Sg.le_refl ok), de]
theorem FO {P : Program} {src dst : TypeId} {x : V} (hp : iG P dst = true) {r : V × S} (h : iN P s src dst x = some r) : r.2 = s := by
 unfold iN at h
 split at h
 ·split at h
  ·split at h <;> first | (cases h; rfl) | (cases h; done)
  ·unfold xK at h
   split at h
   ·cases h; rfl
   ·cases h; rfl
   ·split at h
    ·revert h; cases fE P _ <;> intro h <;> first | (cases h; rfl) | (cases h; done)
    ·cases h
   ·split at h
    ·revert h
     cases fE P _ with
     | false => intro h; cases h
     | true =>
      intro h
      simp only [cond_true] at h
      revert h
      cases Nat.beq _ 0 with
      | true => intro h; cases h
      | false =>
       intro h
       simp only [cond_false] at h
       split at h
       ·cases h; rfl
       ·cases h
    ·cases h
   ·cases h
  ·rename_i el hd
   unfold iG at hp
   rw [hd] at hp; cases hp
  ·cases h
 ·cases h
theorem sA {x : Option Nx} {w : V} (h : gc x = some w) : ∃ s', x = some (.val w s') := by
 unfold gc at h
 split at h
 ·rename_i v s'; cases h; exact ⟨s', rfl⟩
 ·cases h
theorem dZ {x : Option V} {w : V} (h : x = some w) : bc s x = some (.val w s) := by rw [h]; rfl
theorem Mw {P : Program} {b : Builtin} {ts : Array TypeId} {args : List V} {w : V} (hb : b = .len ∨ b = .cap ∨ b = .max ∨ b = .min) (h : gc (eg P b ts args s) = some w) : eg P b ts args s = some (.val w s) := by
 obtain ⟨s', h1⟩ := sA h
 rw [h1]
 have key : ∀ {x : Option V}, bc s x = some (.val w s') → s' = s := by
  intro x hx; cases x with
  | none => cases hx
  | some v => cases hx; rfl
 have : s' = s := by
  unfold eg at h1
  rcases hb with rfl | rfl | rfl | rfl
  ·simp only at h1
   (repeat' split at h1) <;> first | (exact key h1) | (cases h1; done)
  ·simp only at h1
   (repeat' split at h1) <;> first | (exact key h1) | (cases h1; done)
  ·exact key h1
  ·exact key h1
 rw [this]
theorem MC (ht : RT e tx t) (ok : e.ok) {op : Op} {a : mt} (ha : wm E tx op = some a) {w : V} (hw : (a.sub e).run E.P s = some w) : az op E t s = some (.val w s) := by
 cases op with
 | binOp op ty x y _ =>
  obtain ⟨u, v, h1, h2, rfl⟩ := tF ha
  simp only [az, ht.atR ok h1, ht.atR ok h2, Jj]
  exact dZ hw
 | unOp op ty x =>
  obtain ⟨u, h1, rfl⟩ := dL ha
  simp only [az, ht.atR ok h1]
  exact dZ hw
 | convert src dst x =>
  simp only [wm] at ha
  cases hp : iG E.P dst with
  | false => rw [hp] at ha; cases ha
  | true =>
   rw [hp] at ha
   obtain ⟨u, h1, rfl⟩ := dL ha
   simp only [mt.sub, mt.run, hp, cond_true] at hw
   obtain ⟨r, h2, h3⟩ := dL hw
   simp only [az, ht.atR ok h1, fp, h2]
   obtain ⟨v, s'⟩ := r
   have := FO hp h2
   simp only at this h3
   subst this; subst h3
   rfl
 | load ty x =>
  obtain ⟨u, h1, rfl⟩ := dL ha
  simp only [az, ht.atR ok h1]
  obtain ⟨s', h2⟩ := sA hw
  rw [h2]
  unfold eI at h2
  split at h2
  ·cases hl : loadVar E.P s ty _ with
   | none => rw [hl] at h2; cases h2
   | some v => rw [hl] at h2; cases h2; rfl
  ·cases h2
 | index ty x i =>
  obtain ⟨u, v, h1, h2, rfl⟩ := tF ha
  simp only [az, ht.atR ok h1, ht.atR ok h2]
  exact dZ hw
 | indexAddr ty x i =>
  obtain ⟨u, v, h1, h2, rfl⟩ := tF ha
  simp only [az, ht.atR ok h1, ht.atR ok h2]
  exact dZ hw
 | field ty x f =>
  obtain ⟨u, h1, rfl⟩ := dL ha
  simp only [az, ht.atR ok h1]
  exact dZ hw
 | fieldAddr ty x f =>
  obtain ⟨u, h1, rfl⟩ := dL ha
  simp only [az, ht.atR ok h1]
  exact dZ hw
 | nilCheck x =>
  obtain ⟨u, h1, rfl⟩ := dL ha
  simp only [az, ht.atR ok h1]
  exact dZ hw
 | slice ty x lo hi mx =>
  simp only [wm] at ha
  split at ha
  ·rename_i vx h1
   split at ha
   ·rename_i vl h2
    split at ha
    ·rename_i vh h3
     split at ha
     ·rename_i vm h4
      cases ha
      simp only [az, ht.atR ok h1, PP ht ok h2, PP ht ok h3, PP ht ok h4]
      exact dZ hw
     ·cases ha
    ·cases ha
   ·cases ha
  ·cases ha
 | lookup ty x k q =>
  obtain ⟨u, v, h1, h2, rfl⟩ := tF ha
  simp only [az, ht.atR ok h1, ht.atR ok h2]
  exact dZ hw
 | typeAssert x q ty b =>
  obtain ⟨u, h1, rfl⟩ := dL ha
  simp only [az, ht.atR ok h1]
  exact dZ hw
 | makeInterface ty x =>
  obtain ⟨u, h1, rfl⟩ := dL ha
  simp only [az, ht.atR ok h1]
  exact dZ hw
 | call c =>
  simp only [wm] at ha
  split at ha
  ·rename_i b hc
   split at ha
   all_goals first
    | (cases ha; done)
    | (obtain ⟨u, h1, rfl⟩ := dL ha
       simp only [az, hc, bx, qc ht ok h1]
       refine Mw ?_ hw
       simp)
  ·rename_i f hc
   split at ha
   ·rename_i g fi ca hf
    split at ha
    ·rename_i k hk
     obtain ⟨u, h1, rfl⟩ := dL ha
     have h2 := ht.atR ok hf
     simp only [Go.AI.sub, mw] at h2
     have hl : gZ e fi ++ (gZ e u ++ gZ e ca) = gZ e (fi ++ (u ++ ca)) := by simp only [de, List.map_append]
     simp only [az, hc, bx, qc ht ok h1, ft, h2, hl]
     unfold Pl at hk
     split at hk
     ·rename_i fn hfn
      split at hk
      ·rename_i hb
       unfold fU
       simp only [hfn, hb, hk]
       exact dZ hw
      ·cases hk
     ·cases hk
    ·cases ha
   ·cases ha
  ·cases ha
 | _ => cases ha
end
section
variable {F : List Nat} {s0 : S} {e : Sg} {xs s : S} {D : List Nat} {U : S → Prop} {Q : cX → Prop} {L : List ck} {E : cg} {tx t : T V}
theorem ky {x : Option Nx} {w : V} {s' : S} (h : gK x = some (w, s')) : x = some (.val w s') ∨ (x = some (.skip s') ∧ w = V.undef) := by
 unfold gK at h
 split at h
 ·cases h; exact .inl rfl
 ·cases h; exact .inr ⟨rfl, rfl⟩
 ·cases h
theorem MG {P : Program} (hP : E.P = P) (ht : RT e tx t) (ok : e.ok) {op : Op} {a : wG} (ha : oS P tx op = some a) {w : V} {s' : S} (hw : (a.sub e).run P s = some (w, s')) :
 az op E t s = some (.val w s') ∨ (az op E t s = some (.skip s') ∧ w = V.undef) := by
 subst hP
 cases op with
 | mapUpdate ty m k x =>
  simp only [oS] at ha
  split at ha
  ·rename_i vm h1
   split at ha
   ·rename_i vk h2
    split at ha
    ·rename_i vx h3
     cases ha
     simp only [az, ht.atR ok h1, ht.atR ok h2, ht.atR ok h3]
     exact ky hw
    ·cases ha
   ·cases ha
  ·cases ha
 | makeMap ty x =>
  cases x with
  | none => cases ha; cases hw; exact .inl rfl
  | some x => cases ha
 | makeSlice ty l c =>
  simp only [oS] at ha
  split at ha
  ·rename_i vl h1
   split at ha
   ·rename_i vc h2
    cases ha
    simp only [az, ht.atR ok h1, ht.atR ok h2]
    exact ky hw
   ·cases ha
  ·cases ha
 | convert src dst x =>
  simp only [oS] at ha
  cases hp : iG E.P dst with
  | true => rw [hp] at ha; cases ha
  | false =>
   rw [hp] at ha
   obtain ⟨u, h1, rfl⟩ := dL ha
   simp only [az, ht.atR ok h1, fp]
   simp only [wG.sub, wG.run] at hw
   rw [hw]
   exact .inl rfl
 | store ty x y =>
  simp only [oS] at ha
  split at ha
  ·rename_i vl h1
   split at ha
   ·rename_i vc h2
    cases ha
    simp only [az, ht.atR ok h1, ht.atR ok h2]
    exact ky hw
   ·cases ha
  ·cases ha
 | call c =>
  simp only [oS] at ha
  split at ha
  ·rename_i b hc
   split at ha
   all_goals first
    | (cases ha; done)
    | (obtain ⟨u, h1, rfl⟩ := dL ha
       simp only [az, hc, bx, qc ht ok h1]
       exact ky hw)
  ·cases ha
 | _ => cases ha
theorem lY {α : Type} {x : Option aB} {g : aB → aB} {tree : aB} (h : x.map g = some tree) : ∃ tr, x = some tr ∧ tree = g tr := by
 cases x with
 | none => cases h
 | some tr => cases h; exact ⟨tr, rfl, rfl⟩
theorem Dp {kd : Nat} (h : XI F s0 e D U xs s) {na n : Nat} (hna : na = e.σ.length) {v : V} {k : Kv} {a : mt} {u : Bool} {own : List (Nat × bP)} {tree : aB}
 (hb : mM (na + n) xs.next v = true) (ht : (k v xs (na + n)).map (.ask a u own n v) = some tree) (hh : ah E F s0 Q tree e D U L) {stp : V → S → Prop}
 (hs : ∀ w, (∀ s', Fw F s0 s' → WF s' → (u = true → U s') → ef e s' own → (a.sub e).run E.P s' = some w) → stp w s) : mI E F s0 Q L e s U xs kd k stp := by
 obtain ⟨tr, h1, rfl⟩ := lY (α := Nat) ht
 obtain ⟨vs, hl, hv, hr, hk⟩ := hh
 have hle := pI h.x.ok hv
 exact ⟨v, xs, na + n, tr, e.add vs, D, U, _, s, h1, hs _ hr, Nat.le_refl _, hle, hk, bump hna hl, ph hle.ok (by rw [bump hna hl]; exact Nat.le_refl _) (by rw [h.x.nx]; exact Nat.le_refl _) hb, h.add hv, .inr fun _ h => h⟩
theorem XI.turn (h : XI F s0 e D U xs s) {vs : List V} (hv : aA vs) {s' : S} {D' : List Nat} {U' : S → Prop} (hw : Fw D s s') (hst : iA D' U') (hu : U' s') (hd : ∀ g ∈ D', g < s'.next ∧ (g ∈ D ∨ s.next ≤ g)) : XI F s0 (e.add vs) D' U' xs s' := by
 refine ⟨(h.x.turn hw (fun g hg => (h.d g hg).2.1) fun f hf hm => (h.d _ hm).2.2 f hf rfl).add hv, hu, hst, fun g hg => ⟨(hd g hg).1, ?_, fun f hf hh => ?_⟩⟩
 ·rcases (hd g hg).2 with h1 | h1
  ·exact (h.d g h1).2.1
  ·exact .inl (Nat.le_trans h.x.fw.next h1)
 ·rcases (hd g hg).2 with h1 | h1
  ·exact (h.d g h1).2.2 f hf hh
  ·have := h.x.lt f hf
   have h2 : (e.add vs).bl f = e.bl f := rfl
   rw [h2] at hh; omega
theorem Dq {kd : Nat} (hkd : kd = 2) (h : XI F s0 e D U xs s) {na n : Nat} (hna : na = e.σ.length) {v : V} {k : Kv} {a : wG} {hs' : List Nat} {tree : aB}
 (hb : mM (na + n) xs.next v = true) (ht : (k v xs (na + n)).map (.act a (dc xs hs') n v) = some tree) (hh : ah E F s0 Q tree e D U L) {stp : V → S → Prop}
 (hs : ∀ w s', (a.sub e).run E.P s = some (w, s') → stp w s') : mI E F s0 Q L e s U xs kd k stp := by
 obtain ⟨tr, h1, rfl⟩ := lY (α := Nat) ht
 obtain ⟨vs, s', D', U', hl, hv, hr, hw, hst, hu, hd, hk⟩ := hh s h.x.fw h.x.wf h.u (fR h.x.hk hs')
 have hle := pI h.x.ok hv
 exact ⟨v, xs, na + n, tr, e.add vs, D', U', _, s', h1, hs _ _ hr, hw.next, hle, hk, bump hna hl, ph hle.ok (by rw [bump hna hl]; exact Nat.le_refl _) (by rw [h.x.nx]; exact Nat.le_refl _) hb, h.turn hv hw hst hu hd, .inl ⟨hkd, rfl⟩⟩
theorem FQ (h : XI F s0 e D U xs s) {na n : Nat} (hna : na = e.σ.length) {v f : V} {args : List V} {k : Kv} {hs' : List Nat} {tree : aB}
 (hb : mM (na + n) xs.next v = true) (ht : (k v xs (na + n)).map (.calla f args (dc xs hs') n v) = some tree) (hh : ah E F s0 Q tree e D U L) {stp : V → S → Prop}
 (hs : ∀ w s', DT E (sub e f) (args.map (sub e)) s w s' → stp w s') : JC E F s0 Q L e s k stp := by
 obtain ⟨tr, h1, rfl⟩ := lY (α := Nat) ht
 obtain ⟨vs, s', D', U', hl, hv, hr, hw, hst, hu, hd, hk⟩ := hh s h.x.fw h.x.wf h.u (fR h.x.hk hs')
 have hle := pI h.x.ok hv
 exact ⟨v, xs, na + n, tr, e.add vs, D', U', _, s', h1, hs _ _ hr, hw.next, hle, hk, bump hna hl, ph hle.ok (by rw [bump hna hl]; exact Nat.le_refl _) (by rw [h.x.nx]; exact Nat.le_refl _) hb, h.turn hv hw hst hu hd⟩
theorem Mn (hT : RT e tx t) (ok : e.ok) {o : Oper} {f : V} {args : List V} (ha : tS tx o.op = some (f, args)) {w : V} {s' : S} (hw : DT E (sub e f) (args.map (sub e)) s w s') : oT E true t s o w s' := by
 unfold tS at ha
 split at ha
 ·rename_i c hop
  split at ha
  ·rename_i g hc
   split at ha
   ·rename_i i hf
    split at ha
    ·rename_i as has
     cases ha
     have h1 := hT.atR ok hf
     have h2 := qc hT ok has
     rw [de] at h2
     rcases hw with ⟨q, fi, ca, h3, h4, h5⟩ | ⟨l, fi, ca, u, h3, h4⟩
     ·refine .enter q _ s ?_ h5
      rw [hop]
      simp only [az, hc, bx, h1, h2, h3, ft]
      exact h4
     ·refine .round l _ s u rfl ?_ h4
      rw [hop]
      simp only [az, hc, bx, h1, h2, h3, ft]
    ·cases ha
   ·cases ha
  ·cases ha
 ·cases ha
theorem eF : ∀ (l : List (Nat × bP)) (xs : S), (lX xs l).next = xs.next
 | [], _ => rfl
 | x :: r, xs => by
  obtain ⟨f, B⟩ := x
  simp only [lX, eF r, S.next_put]
theorem pj : ∀ (l : List (Nat × bP)) (xs : S) {f : Nat} {B : bP}, (lX xs l).get f = some B → (f, B) ∈ l ∨ ((∀ x ∈ l, x.1 ≠ f) ∧ xs.get f = some B)
 | [], _, _, _, h => .inr ⟨by simp, h⟩
 | (g, C) :: r, xs, f, B, h => by
  rcases pj r _ h with h1 | ⟨h1, h2⟩
  ·exact .inl (List.mem_cons_of_mem _ h1)
  ·rw [S.get_put] at h2
   split at h2
   ·rename_i hg; cases h2; subst hg; exact .inl (by simp)
   ·rename_i hg
    exact .inr ⟨fun x hx => by
     rcases List.mem_cons.1 hx with rfl | hx
     ·exact hg
     ·exact h1 x hx, h2⟩
theorem rQ {e : Sg} {s : S} : ∀ {l : List (Nat × bP)} {x : Nat × bP}, ef e s l → x ∈ l → s.get (e.bl x.1) = some (hQ e x.2)
 | [], _, _, hx => by cases hx
 | y :: r, x, h, hx => by
  rcases List.mem_cons.1 hx with rfl | hx
  ·exact h.1
  ·exact rQ h.2 hx
theorem XR.called (h : XR F s0 e xs s) {vs : List V} (hv : aA vs) {l : List (Nat × bP)} {na : Nat} (hok : oa xs na l = true) (hna : na ≤ (e.add vs).σ.length) {W : List Nat} {s' : S} (hw : Fw (fk e l ++ W) s s') (hf : ef (e.add vs) s' l)
 (hW : ∀ g ∈ W, s0.next ≤ g ∨ g ∈ F) (hd : ∀ f, f < xs.next → e.bl f ∉ W) : XR F s0 (e.add vs) (lX xs l) s' := by
 simp only [oa, Bool.and_eq_true, List.all_eq_true] at hok
 have hin : ∀ x ∈ l, x.1 < xs.next ∧ xv na xs.next x.2 = true ∧ x.2.isOwn = true := fun x hx => by
  obtain ⟨⟨h1, h2⟩, h3⟩ := hok.2 x hx
  refine ⟨?_, h2, h3⟩
  split at h1
  ·rename_i B hB; exact h.dom _ _ hB
  ·cases h1
 have hids : ∀ g ∈ fk e l, s0.next ≤ g ∨ g ∈ F := fun g hg => by
  simp only [fk, List.mem_map] at hg
  obtain ⟨x, hx, rfl⟩ := hg
  exact h.hi _ (hin x hx).1
 have hfw : Fw F s0 s' := by
  refine ⟨fun g B hg hB => ?_, fun g vs hB => hw.ro g vs (h.fw.ro g vs hB), Nat.le_trans h.fw.next hw.next, fun hh => hw.wf (h.fw.wf hh)⟩
  refine hw.keep g B (fun hgW => ?_) (h.fw.keep g B hg hB)
  have h1 : s0.next ≤ g ∨ g ∈ F := by
   rcases List.mem_append.1 hgW with hh | hh
   ·exact hids g hh
   ·exact hW g hh
  rcases h1 with h1 | h1
  ·have := h.wf0 g B hB; omega
  ·exact hg h1
 have hle := pI h.ok hv
 refine ⟨hle.ok, by rw [eF]; exact h.nx, h.wf0, hfw, fun f B hB => ?_, fun e' he f B hB => ?_, fun f g hf hg hh => ?_, fun f hf => ?_, fun f hf => ?_⟩
 ·rw [eF]
  rcases pj l xs hB with h1 | ⟨_, h1⟩
  ·exact (hin _ h1).1
  ·exact h.dom f B h1
 ·rcases pj l xs hB with h1 | ⟨h0, h1⟩
  ·obtain ⟨h2, h3, h4⟩ := hin _ h1
   have h5 := rQ hf h1
   rw [he.bl (f := f) (by rw [show (e.add vs).β.length = e.β.length from rfl, ← h.nx]; exact h2), uk he hna (by rw [h.nx]; exact Nat.le_refl _) h3]
   exact ⟨h5, h4⟩
  ·have hdm := h.dom f B h1
   obtain ⟨h2, h3⟩ := h.k e' (hle.trans he) f B h1
   refine ⟨hw.keep _ _ (fun hm => ?_) h2, h3⟩
   rw [(hle.trans he).bl (f := f) (by rw [← h.nx]; exact hdm)] at hm
   rcases List.mem_append.1 hm with hm | hm
   ·simp only [fk, List.mem_map] at hm
    obtain ⟨x, hx, hxe⟩ := hm
    exact h0 x hx (h.inj _ _ (hin x hx).1 hdm hxe)
   ·exact hd f hdm hm
 ·rw [eF] at hf hg; exact h.inj f g hf hg hh
 ·rw [eF] at hf; exact h.hi f hf
 ·rw [eF] at hf; exact Nat.lt_of_lt_of_le (h.lt f hf) hw.next
theorem yN (h : XI F s0 e D U xs s) {na n m : Nat} (hna : na = e.σ.length) {v : V} {k : Kv} {f : FuncId} {args : List V} {hs' : List Nat} {after : List (Nat × bP)} {pk : Bool} {tree : aB}
 (hm : m = na + n) (hok : oa xs m after = true) (hb : mM m xs.next v = true) (ht : (k v (lX xs after) m).map (.call f args (dc xs hs') after n v pk) = some tree) (hh : ah E F s0 Q tree e D U L)
 {stp : V → S → Prop} (hs : ∀ w s', lim E (.call f (args.map (sub e)) none) s = some ⟨.returned w, none, s'⟩ → stp w s') :
 JC E F s0 Q L e s k stp ∨ (pk = true ∧ ∃ c s', lim E (.call f (args.map (sub e)) none) s = some ⟨.panicked c, none, s'⟩ ∧ Q ⟨.panicked c, none, s'⟩) := by
 obtain ⟨tr, h1, rfl⟩ := lY (α := Nat) ht
 have hdD : ∀ f, f < xs.next → e.bl f ∉ D := fun f hf hm => (h.d _ hm).2.2 f hf rfl
 rcases hh s h.x.fw h.x.wf h.u (fR h.x.hk hs') with ⟨vs, s', hl, hv, hr, hw, hf, hk⟩ | ⟨vs, s', D', U', hl, hv, hr, hw, hf, hst, hu, hd, hk⟩ | hp
 ·have hle := pI h.x.ok hv
  have hmm : m = (e.add vs).σ.length := by rw [hm]; exact bump hna hl
  have hx := h.x.called hv hok (by rw [hmm]; exact Nat.le_refl _) (W := []) (by simpa using hw) hf (by simp) (by simp)
  have hkeep : ∀ g ∈ D, ∀ B, s.get g = some B → s'.get g = some B := fun g hg B hB => hw.keep g B (fun hmm => by
   simp only [fk, List.mem_map] at hmm
   obtain ⟨x, hx, hxe⟩ := hmm
   simp only [oa, Bool.and_eq_true, List.all_eq_true] at hok
   obtain ⟨⟨h1, _⟩, _⟩ := hok.2 x hx
   split at h1
   ·rename_i B hB; exact (h.d g hg).2.2 x.1 (h.x.dom _ _ hB) hxe
   ·cases h1) hB
  refine .inl ⟨v, lX xs after, m, tr, e.add vs, D, U, _, s', h1, hs _ _ hr, hw.next, hle, hk, hmm, ph hle.ok (by rw [hmm]; exact Nat.le_refl _) (by rw [h.x.nx]; exact Nat.le_refl _) hb, ⟨hx, h.st s s' h.u hkeep hw.next, h.st, fun g hg => ⟨Nat.lt_of_lt_of_le (h.d g hg).1 hw.next, (h.d g hg).2.1, fun f hf => ?_⟩⟩⟩
  rw [eF] at hf
  exact (h.d g hg).2.2 f hf
 ·have hle := pI h.x.ok hv
  have hmm : m = (e.add vs).σ.length := by rw [hm]; exact bump hna hl
  have hx := h.x.called hv hok (by rw [hmm]; exact Nat.le_refl _) hw hf (fun g hg => (h.d g hg).2.1) hdD
  refine .inl ⟨v, lX xs after, m, tr, e.add vs, D', U', _, s', h1, hs _ _ hr, hw.next, hle, hk, hmm, ph hle.ok (by rw [hmm]; exact Nat.le_refl _) (by rw [h.x.nx]; exact Nat.le_refl _) hb, ⟨hx, hu, hst, fun g hg => ⟨(hd g hg).1, ?_, fun f hf hh => ?_⟩⟩⟩
  ·rcases (hd g hg).2 with h1 | h1
   ·exact (h.d g h1).2.1
   ·exact .inl (Nat.le_trans h.x.fw.next h1)
  ·rw [eF] at hf
   rcases (hd g hg).2 with h1 | h1
   ·exact (h.d g h1).2.2 f hf hh
   ·have := h.x.lt f hf
    have h2 : (e.add vs).bl f = e.bl f := rfl
    rw [h2] at hh; omega
 ·exact .inr hp
end
section
variable {F : List Nat} {s0 : S} {e : Sg} {xs s : S} {D : List Nat} {U : S → Prop} {Q : cX → Prop} {L : List ck} {C : gX} {tx t : T V}
theorem Bv (h : XI F s0 e D U xs s) {na : Nat} (hna : na = e.σ.length) {f : FuncId} {args : List V} {ty : TypeId} {plain : Bool} {k : Kv} {tree : aB} (ht : JG C f args ty xs na plain k = some tree)
 (hh : ah C.E F s0 Q tree e D U L) {stp : V → S → Prop} (hs : ∀ w s', lim C.E (.call f (args.map (sub e)) none) s = some ⟨.returned w, none, s'⟩ → stp w s') :
 JC C.E F s0 Q L e s k stp ∨ (plain = true ∧ ∃ c s', lim C.E (.call f (args.map (sub e)) none) s = some ⟨.panicked c, none, s'⟩ ∧ Q ⟨.panicked c, none, s'⟩) := by
 unfold JG at ht
 split at ht
 ·rename_i c hc
  generalize hmod : uU xs args na c.mods = md at ht
  obtain ⟨after, na1⟩ := md
  simp only at ht
  generalize htm : BP C.E.P 12 ty na1 = tm at ht
  obtain ⟨v, n⟩ := tm
  simp only at ht
  cases hb : (Nat.ble na na1 && oa xs (na1 + n) after && mM (na1 + n) xs.next v && (plain || !c.pk)) with
  | false => rw [hb] at ht; cases ht
  | true =>
   rw [hb] at ht
   simp only [cond_true] at ht
   simp only [Bool.and_eq_true] at hb
   obtain ⟨⟨⟨h1, h2⟩, h3⟩, h4⟩ := hb
   have h5 := Nat.le_of_ble_eq_true h1
   rcases yN h hna (m := na1 + n) (n := na1 + n - na) (by omega) h2 h3 ht hh hs with h6 | ⟨h6, h7⟩
   ·exact .inl h6
   ·rw [h6] at h4
    exact .inr ⟨by simpa using h4, h7⟩
 ·generalize htm : BP C.E.P 12 ty na = tm at ht
  obtain ⟨v, n⟩ := tm
  simp only at ht
  cases hb : mM (na + n) xs.next v with
  | false => rw [hb] at ht; cases ht
  | true =>
   rw [hb] at ht
   simp only [cond_true] at ht
   rcases yN h hna (m := na + n) (after := []) rfl rfl hb ht hh hs with h6 | ⟨h6, _⟩
   ·exact .inl h6
   ·cases h6
theorem sf (h : XI F s0 e D U xs s) (hT : RT e tx t) {na : Nat} (hna : na = e.σ.length) {o : Oper} {plain : Bool} {k : Kv} {tree : aB} (hh : ah C.E F s0 Q tree e D U L) (ht : (match wm C.E tx o.op with
 | some a => match kj C.E.P o na with
  | (v, n) => bif mM (na + n) xs.next v then (k v xs (na + n)).map (.ask a true (dc xs a.heads) n v) else none
 | none => match oS C.E.P tx o.op with
  | some a => match kj C.E.P o na with
   | (v, n) => bif mM (na + n) xs.next v then (k v xs (na + n)).map (.act a (dc xs a.heads) n v) else none
  | none => match bif plain then tS tx o.op else none with
   | some (f, args) => match kj C.E.P o na with
    | (v, n) => bif mM (na + n) xs.next v then (k v xs (na + n)).map (.calla f args (dc xs (heads args)) n v) else none
   | none => none) = some tree) : JC C.E F s0 Q L e s k (oT C.E plain t s o) := by
 split at ht
 ·rename_i a ha
  generalize htm : kj C.E.P o na = tm at ht
  obtain ⟨v, n⟩ := tm
  simp only at ht
  cases hb : mM (na + n) xs.next v with
  | false => rw [hb] at ht; cases ht
  | true =>
   rw [hb] at ht
   simp only [cond_true] at ht
   exact (Dp (kd := 2) h hna hb ht hh fun w hw => .val (MC hT h.x.ok ha (hw s h.x.fw h.x.wf (fun _ => h.u) (fR h.x.hk _)))).cont
 ·split at ht
  ·rename_i a ha
   generalize htm : kj C.E.P o na = tm at ht
   obtain ⟨v, n⟩ := tm
   simp only at ht
   cases hb : mM (na + n) xs.next v with
   | false => rw [hb] at ht; cases ht
   | true =>
    rw [hb] at ht
    simp only [cond_true] at ht
    refine (Dq rfl h hna hb ht hh fun w s' hw => ?_).cont; exact by
     rcases MG rfl hT h.x.ok ha hw with h1 | ⟨h1, h2⟩
     ·exact .val h1
     ·exact .skip h1 h2
  ·cases plain with
   | false => cases ht
   | true =>
    simp only [cond_true] at ht
    split at ht
    ·rename_i f args hf
     generalize htm : kj C.E.P o na = tm at ht
     obtain ⟨v, n⟩ := tm
     simp only at ht
     cases hb : mM (na + n) xs.next v with
     | false => rw [hb] at ht; cases ht
     | true =>
      rw [hb] at ht
      simp only [cond_true] at ht
      exact FQ h hna hb ht hh fun w s' hw => Mn hT h.x.ok hf hw
    ·cases ht
theorem sg (h : XI F s0 e D U xs s) (hT : RT e tx t) {na : Nat} (hna : na = e.σ.length) {o : Oper} {plain : Bool} {k : Kv} {tree : aB} (ht : Bu C o tx xs na plain k = some tree) (hh : ah C.E F s0 Q tree e D U L) :
 JC C.E F s0 Q L e s k (oT C.E plain t s o) ∨ (plain = true ∧ ∃ c s', MJ C.E t s o c s' ∧ Q ⟨.panicked c, none, s'⟩) := by
 unfold Bu at ht
 cases hok : zo tx o.op with
 | true =>
  rw [hok] at ht
  simp only [cond_true] at ht
  cases hn : az o.op C.E tx xs with
  | none =>
   rw [hn] at ht
   exact .inl (sf h hT hna hh ht)
  | some nx =>
   rw [hn] at ht
   obtain ⟨e', hex, nx', hn', hx⟩ := Nc h.x hT hok hn
   cases hx with
   | val hv hx kp => exact .inl (rU (kd := 2) h hna hex hv hx kp ht hh (.val hn')).cont
   | skip hx kp => exact .inl (rU (kd := 2) h hna hex (fun e' _ => rfl) hx kp ht hh (.skip hn' rfl)).cont
   | enter ha hx =>
    have he := Dh hex (by rw [← hx.nx, ← h.x.nx])
    subst he
    simp only at ht
    rw [← ha _ (Sg.le_refl h.x.ok)] at hn'
    rcases Bv h hna ht hh (stp := oT C.E plain t s o) (fun w s' hl => .enter _ _ _ hn' hl) with h1 | ⟨h1, c, s', h2, h3⟩
    ·exact .inl h1
    ·exact .inr ⟨h1, c, s', .enter _ _ _ hn' h2, h3⟩
   | panic hv hx =>
    have he := Dh hex (by rw [← hx.nx, ← h.x.nx])
    subst he
    simp only at ht
    revert ht
    cases plain with
    | false => intro ht; cases ht
    | true =>
     intro ht
     simp only [Bool.not_true, cond_false] at ht
     cases ht
     refine .inr ⟨rfl, _, _, .panic _ hn' rfl, ?_⟩
     have h1 := hh s h.x.fw h.x.wf h.u (fR h.x.hk _)
     rw [hv _ (Sg.le_refl h.x.ok)] at h1
     exact h1
 | false =>
  rw [hok] at ht
  simp only [cond_false] at ht
  exact .inl (sf h hT hna hh ht)
end
abbrev aT (q : mt) (v : V) (k : aB) : aB := .ask q true [] 1 v k
abbrev aF (q : mt) (v : V) (k : aB) : aB := .ask q false [] 1 v k
abbrev cT (f : FuncId) (a : List V) (v : V) (k : aB) : aB := .call f a [] [] 1 v false k
abbrev rT (v : V) : aB := .ret v []
end Go.AI
