/- Lemmas. No conditions. -/
import Derived.Test.YtpghiabjaglpgaaGreatDoorA6
import Derived.IntWalk
set_option linter.all false
noncomputable section
namespace Go.AI
def KJ(x:V)(r:List V)(i:Nat)(t:T V):kU (x::r) i t id=kU r (i+1) (putD t (some i) x) id:=by simp only[kU,T.setK_eq];rfl
def If(t:T V)(d i:Nat)(v:V):(putD t (some d) v).get (fu i)=if d=i then some v else t.get (fu i):=by rw[Ig];simp
def ki(P:Program)(s:S)(ty:TypeId)(a:Ad):jn P s ty (some (.ptr a))=bM s (loadVar P s ty a):=rfl
def xh(P:Program)(s:S)(ty:TypeId)(a:Ad)(v:V):tc P s ty (some (.ptr a)) (some v)=Kf (storeVar P s ty a v):=rfl
def WF(s:S):Prop:=∀ f B,s.get f=some B->f<s.next
def Ex(a s:S):Prop:=∀ f vs,a.get f=some (.ro vs)->s.get f=some (.ro vs)
structure Fw(F:List Nat)(s s':S):Prop where
 keep:∀ g B,g∉F->s.get g=some B->s'.get g=some B
 ro:∀ g vs,s.get g=some (.ro vs)->s'.get g=some (.ro vs)
 next:s.next<=s'.next
 wf:WF s->WF s'
def Fw.alloc(F:List Nat){s:S}(b:WF s)(B:eh):Fw F s (s.alloc B):=by
 refine⟨fun g C _ a=>?_,fun g vs a=>?_,by rw[S.next_alloc];omega,fun _ g C a=>?_⟩
 ·rw[S.get_alloc,aeD (by have:=b g C a;omega)];exact a
 ·rw[S.get_alloc,aeD (by have:=b g _ a;omega)];exact a
 ·rw[S.get_alloc]at a;rw[S.next_alloc];split at a
  ·omega
  ·have:=b g C a;omega
section
variable{s:S}{f:Nat}{e:TypeId}{sb:Bool}{nv:Nat}{cs:List V}
def xP(c:Nat):Nat.ble 0 c=true:=aeI (aje c)
def ldn(h:s.get f=some (.cells e sb nv [⟨0,0,cs⟩]))(c n:Nat):loadCells s ⟨f,0,c⟩ n=bv n (cs.drop c):=by unfold loadCells;rw[h];simp[bV,xP]
def ib(h:s.get f=some (.cells e sb nv [⟨0,0,cs⟩]))(c:Nat)(new:List V)(a:new.all V.one=true){cs':List V}(b:cC cs c new=some cs'):storeCells s ⟨f,0,c⟩ new=some (s.put f (.cells e sb nv [⟨0,0,cs'⟩])):=by unfold storeCells;rw[h];simp[bV,a,b,xP]
end
def gU(s:S)(B:eh):(s.alloc B).get s.next=some B:=by rw[S.get_alloc,aeM rfl]
def Ly(n:Int)(h:-9223372036854775808<=n/\n<=9223372036854775807):IntKind.i64.wrap n=n:=IntWalk.i64_in n h
def ei:∀(l:List V) (n:Nat),l.length=n->bv n l=some l
 |[],0,_=>rfl
 |[],_+1,h=>by simp at h
 |_::_,0,h=>by simp at h
 |x::l,n+1,h=>by simp[bv,ei l n (by simpa using h)]
end Go.AI
namespace Go.AI
def wI{i:Nat}(h:i<9223372036854775807):IntKind.wrap .i64 (((i:Nat):Int)+1)=((i+1:Nat):Int):=by rw[show((i:Nat):Int)+1=((i+1:Nat):Int)by omega];exact Ly _ ⟨by omega,by omega⟩
end Go.AI
