/- Deep values: an evaluator over what rows hold, and that it is sound: part 6. No conditions beyond those of the row. -/
import Derived.Test.YtpghiabjaglpgaaGreatDoorD5
set_option linter.all false
noncomputable section
namespace Go.AI
theorem CP(E:cD)(n:Nat):br E (ab E) n=ab E:=@Fl ⟨fun _=>True,[],fun _ _ _ h=>h⟩ E n
theorem Hz(E:cD)(j:zP)(H:DH):ab E j H=pT E (ab E) (LG (ab E)) j H:=@JB ⟨fun _=>True,[],fun _ _ _ h=>h⟩ E j H
def tB(key:Nat):Code->List Item->Option (List Item)
 |.seq a b,k=>zw key (.code (.seq a b)::k) (match tB key a (.code b::k)with
  |some l=>some l
  |none=>tB key b k)
 |.cond c a b,k=>zw key (.code (.cond c a b)::k) (match tB key a k with
  |some l=>some l
  |none=>tB key b k)
 |.block id c,k=>zw key (.code (.block id c)::k) (tB key c (.inBlock id::k))
 |.loop c,k=>zw key (.code (.loop c)::k) (tB key c (.inLoop c::k))
 |.scope c,k=>zw key (.code (.scope c)::k) (tB key c (.inScope c::k))
 |c,k=>zw key (.code c::k) none
 where zw (key:Nat) (l:List Item) (r:Option (List Item)):Option (List Item):=match SH l with
  |some i=>bif Nat.beq i key then some l else r
  |none=>r
def ao(E:cD)(R:aE)(f key:Nat)(xs:List LD)(L:LS)(H:DH):ai:=match E.E.P.funcs[f]? with
 |some fn=>match fn.body with
  |some c=>match tB key c []with
   |some todo=>match SU (E.ann f) todo with
    |some (live,_)=>R (.frame f fn (SC live xs .leaf) L todo [] .run none) H
    |none=>none
   |none=>none
  |none=>none
 |none=>none
def aQ(E:cD)(R:aE)(n f key:Nat)(xs:List LD)(L:LS)(H:DH):ai:=ao E (br E R n) f key xs L H
theorem QS(E:cD)(n f key:Nat)(xs:List LD)(L:LS)(H:DH):aQ E (ab E) n f key xs L H=ao E (ab E) f key xs L H:=by
 rw[aQ,CP]
def C(R:aE)(f:FuncId)(args:List D)(H:DH)(k:D->DH->ai):ai:=cH (R (.call f args none) H) k fun c H=>some ⟨.pan c,none,H⟩
def qO:Code->Option (Array Tmp×Code×Code)
 |.rangeFunc _ ps a b=>some (ps,a,b)
 |.seq a b=>(qO a).or (qO b)
 |.cond _ a b=>(qO a).or (qO b)
 |.block _ c=>qO c
 |.loop c=>qO c
 |.scope c=>qO c
 |_=>none
def Ua(E:cD)(f:FuncId)(is:List Nat)(xs:List LD):DB:=match E.E.P.funcs[f]? with
 |some fn=>match fn.body with
  |some c=>match qO c with
   |some (ps,a,b)=>.loop true f fn.ntmps (SC is xs .leaf) ps a b
   |none=>.dead
  |none=>.dead
 |none=>.dead
def Yo(E:cD)(R:aE)(f o:Nat)(is:List Nat)(xs:List LD)(args:List D)(H:DH):ai:=match E.E.P.funcs[f]? with
 |some fn=>match fn.body with
  |some c=>match qO c with
   |some (ps,a,b)=>R (.frame f fn (kZ (SC is xs .leaf) ps.toList args id) [] [.code a,.beginRound,.code b] [] .run (some (.round o))) H
   |none=>none
  |none=>none
 |none=>none
def Tu(E:cD)(R:aE)(n f o:Nat)(is:List Nat)(xs:List LD)(args:List D)(H:DH):ai:=Yo E (br E R n) f o is xs args H
def lw(E:cU)(f:D)(κ:FuncId->List D->List D->ai):ai:=match f with
 |.func g a b=>bif aT E g then κ g a b else none
 |_=>none
abbrev ret(d:D)(H:DH):ai:=some ⟨.ret d,none,H⟩
abbrev pan(d:D)(H:DH):ai:=some ⟨.pan [⟨d,false⟩],none,H⟩
end Go.AI
