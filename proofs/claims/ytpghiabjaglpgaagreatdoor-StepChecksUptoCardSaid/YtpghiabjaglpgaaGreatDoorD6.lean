/- Lemmas. No conditions. -/
import Derived.Test.YtpghiabjaglpgaaGreatDoorD5
set_option linter.all false
noncomputable section
namespace Go.AI
def Ge(E:dl)(n:Nat):PY E (eP E) n=eP E:=@IH ⟨fun _=>True,[],fun _ _ _ h=>h⟩ E n
def Lb(E:dl)(j:CO)(H:DH):eP E j H=rQ E (eP E) (PP (eP E)) j H:=@Nu ⟨fun _=>True,[],fun _ _ _ h=>h⟩ E j H
def vD(key:Nat):Code->List Item->Option (List Item)
 |.seq a b,k=>Cw key (.code (.seq a b)::k) (match vD key a (.code b::k)with
  |some l=>some l
  |none=>vD key b k)
 |.cond c a b,k=>Cw key (.code (.cond c a b)::k) (match vD key a k with
  |some l=>some l
  |none=>vD key b k)
 |.block id c,k=>Cw key (.code (.block id c)::k) (vD key c (.inBlock id::k))
 |.loop c,k=>Cw key (.code (.loop c)::k) (vD key c (.inLoop c::k))
 |.scope c,k=>Cw key (.code (.scope c)::k) (vD key c (.inScope c::k))
 |c,k=>Cw key (.code c::k) none
 where Cw (key:Nat) (l:List Item) (r:Option (List Item)):Option (List Item):=match Yg l with
  |some i=>bif Nat.beq i key then some l else r
  |none=>r
def jmp(E:dl)(R:aI)(f key:Nat)(xs:List LD)(L:LS)(H:DH):au:=match E.E.P.funcs[f]? with
 |some fn=>match fn.body with
  |some c=>match vD key c []with
   |some todo=>match Yr (E.ann f) todo with
    |some (live,_)=>R (.frame f fn (Yc live xs .leaf) L todo [] .run none) H
    |none=>none
   |none=>none
  |none=>none
 |none=>none
def VN(E:dl)(R:aI)(n f key:Nat)(xs:List LD)(L:LS)(H:DH):au:=jmp E (PY E R n) f key xs L H
def VM(E:dl)(n f key:Nat)(xs:List LD)(L:LS)(H:DH):VN E (eP E) n f key xs L H=jmp E (eP E) f key xs L H:=by rw[VN,Ge]
def C(R:aI)(f:FuncId)(args:List D)(H:DH)(k:D->DH->au):au:=bB (R (.call f args none) H) k fun c H=>some ⟨.pan c,none,H⟩
def sU:Code->Option (Array Tmp×Code×Code)
 |.rangeFunc _ ps a b=>some (ps,a,b)
 |.seq a b=>(sU a).or (sU b)
 |.cond _ a b=>(sU a).or (sU b)
 |.block _ c=>sU c
 |.loop c=>sU c
 |.scope c=>sU c
 |_=>none
def ZH(E:dl)(f:FuncId)(is:List Nat)(xs:List LD):DB:=match E.E.P.funcs[f]? with
 |some fn=>match fn.body with
  |some c=>match sU c with
   |some (ps,a,b)=>.loop true f fn.ntmps (Yc is xs .leaf) ps a b
   |none=>.dead
  |none=>.dead
 |none=>.dead
def rnd(E:dl)(R:aI)(f o:Nat)(is:List Nat)(xs:List LD)(args:List D)(H:DH):au:=match E.E.P.funcs[f]? with
 |some fn=>match fn.body with
  |some c=>match sU c with
   |some (ps,a,b)=>R (.frame f fn (mG (Yc is xs .leaf) ps.toList args id) [] [.code a,.beginRound,.code b] [] .run (some (.round o))) H
   |none=>none
  |none=>none
 |none=>none
def Zc(E:dl)(R:aI)(n f o:Nat)(is:List Nat)(xs:List LD)(args:List D)(H:DH):au:=rnd E (PY E R n) f o is xs args H
def kH(E:dL)(f:D)(κ:FuncId->List D->List D->au):au:=match f with
 |.func g a b=>bif aW E g then κ g a b else none
 |_=>none
abbrev ret(d:D)(H:DH):au:=some ⟨.ret d,none,H⟩
abbrev pan(d:D)(H:DH):au:=some ⟨.pan [⟨d,false⟩],none,H⟩
end Go.AI
