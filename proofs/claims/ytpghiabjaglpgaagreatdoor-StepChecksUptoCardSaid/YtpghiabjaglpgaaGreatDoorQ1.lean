/- Lemmas. No conditions. -/
import Derived.Test.YtpghiabjaglpgaaGreatDoorD6
import Derived.Test.YtpghiabjaglpgaaGreatDoorProg
import Derived.KernelRfl
import Derived.Lib.AtoiAllCases
import Derived.Lib.ItoaLen
import Derived.Lib.ReplaceLaws
set_option linter.all false
noncomputable section
namespace Go.AI
def gn(s:S)(g:Nat):Option (List V):=match s.get g with
 |some (.ro vers)=>match bV vers 127 with
  |some u=>some u.cells
  |none=>none
 |_=>none
end Go.AI
namespace Go.Proofs.YtpghiabjaglpgaaGreatDoor
open Go.AI
def WB(n:Int):ByteArray:=⟨(Lib.replace (Lib.itoa n) [45] [126] 1).toArray⟩
def Cq(s:ByteArray):ByteArray:=⟨(Lib.replace s.data.toList [126] [45] 1).toArray⟩
def qT(s:ByteArray):Int×Int:=match Lib.atoiAll (Cq s).data.toList with
 |.ok v=>bif (WB v).toList==s.toList then(v,0)else(0,13)
 |_=>(0,13)
def yy:List V->Bool
 |[.nilIface]=>true
 |[.iface _ _]=>true
 |_=>false
def MY:List V->Bool
 |[.int .i64 _]=>true
 |_=>false
def Hz:List V:=Lib.pow10Tab.map fun z=>.int .u64 z
structure uW(s:S):Prop where
 mx:∃ c,gn s 0=some c/\MY c=true
 syn:∃ c,gn s 1=some c/\yy c=true
 rng:∃ c,gn s 2=some c/\yy c=true
 pow:gn s 5=some Hz
open Classical in
def zO(args:List V)(s:S):Option (V×S):=match args with
 |[.str l]=>if uW s/\l.length<=1000 then some (.tuple [.int .i64 (qT (aK l)).1,.int .i64 (qT (aK l)).2],s)else none
 |_=>none
def xJ:List Nat->Nat->Int->Int
 |[],_,_=>-1
 |x::r,c,n=>bif Nat.beq x c then n else xJ r c (n+1)
def Ap(args:List V)(s:S):Option (V×S):=match args with
 |[.str l,.int .u8 (.ofNat c)]=>bif Nat.blt c 256&&l.all (fun x=>Nat.blt x 256)then some (.int .i64 (xJ l c 0),s)else none
 |_=>none
def aaR(f:FuncId)(args:List D)(H:DH):Option (D×DH) :=
 bif Nat.beq f 351 then(match args with
  |[.str l,.int .u8 (.ofNat c)]=>bif Nat.blt c 256&&Nat.ble l.length 1000 then some (.int .i64 (xJ l c 0),H)else none
  |_=>none)
 else bif Nat.beq f 355 then(match args with
  |[.str l]=>bif Nat.ble l.length 1000 then some (.tuple [.int .i64 (qT (aK l)).1,.int .i64 (qT (aK l)).2],H)else none
  |_=>none)
 else bif Nat.beq f 9 then(match args with
  |[]=>some (.bool true,H)
  |_=>none)
 else none
def dvo(f:FuncId):Bool:=Nat.beq f 355||(Nat.beq f 9||Nat.beq f 351)
def uH(f:FuncId)(args:List V)(s:S):Option (V×S) :=
 bif Nat.beq f 351 then Ap args s else bif Nat.beq f 355 then zO args s else bif Nat.beq f 9 then(match args with
  |[]=>some (.bool true,s)
  |_=>none)else none
def bY:dL:={ P:=Tryz.prog,ext:=fun f=>bif Nat.beq f 363 then some .indexByte else bif Nat.beq f 380 then some .count else none,orc:=uH }
end Go.Proofs.YtpghiabjaglpgaaGreatDoor
