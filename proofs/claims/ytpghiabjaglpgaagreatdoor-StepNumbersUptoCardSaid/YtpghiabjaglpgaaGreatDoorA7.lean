/- The evaluator by which runs of the program are reckoned, and that it is sound: part 7. No conditions beyond those of the row. -/
import Derived.Test.YtpghiabjaglpgaaGreatDoorA6
import Derived.IntWalk
set_option linter.all false
noncomputable section
namespace Go.AI
theorem Hl(x:V)(r:List V)(i:Nat)(t:T V):jw (x::r) i t id=jw r (i+1) (putD t (some i) x) id:=by
 simp only[jw,T.setK_eq];rfl
theorem EI(t:T V)(d i:Nat)(v:V):(putD t (some d) v).get (et i)=if d=i then some v else t.get (et i):=by
 rw[EJ];simp
theorem jd(P:Program)(s:S)(ty:TypeId)(a:Ad):ii P s ty (some (.ptr a))=bj s (loadVar P s ty a):=rfl
theorem uC(P:Program)(s:S)(ty:TypeId)(a:Ad)(v:V):qU P s ty (some (.ptr a)) (some v)=GL (storeVar P s ty a v):=rfl
def WF(s:S):Prop:=∀ f B,s.get f=some B->f<s.next
def Ex(a s:S):Prop:=∀ f vs,a.get f=some (.ro vs)->s.get f=some (.ro vs)
structure Fw(F:List Nat)(s s':S):Prop where
 keep:∀ g B,g∉F->s.get g=some B->s'.get g=some B
 ro:∀ g vs,s.get g=some (.ro vs)->s'.get g=some (.ro vs)
 next:s.next<=s'.next
 wf:WF s->WF s'
theorem Fw.alloc(F:List Nat){s:S}(hw:WF s)(B:dB):Fw F s (s.alloc B):=by
 refine⟨fun g C _ hg=>?_,fun g vs hg=>?_,by rw[S.next_alloc];omega,fun _ g C hg=>?_⟩
 ·rw[S.get_alloc,if_neg (by have:=hw g C hg;omega)];exact hg
 ·rw[S.get_alloc,if_neg (by have:=hw g _ hg;omega)];exact hg
 ·rw[S.get_alloc]at hg
  rw[S.next_alloc]
  split at hg
  ·omega
  ·have:=hw g C hg;omega
section
variable{s:S}{f:Nat}{e:TypeId}{sb:Bool}{nv:Nat}{cs:List V}
theorem uT(c:Nat):Nat.ble 0 c=true:=Nat.ble_eq_true_of_le (Nat.zero_le c)
theorem ldn(h:s.get f=some (.cells e sb nv [⟨0,0,cs⟩]))(c n:Nat):loadCells s ⟨f,0,c⟩ n=aU n (cs.drop c):=by
 unfold loadCells;rw[h];simp[bA,uT]
theorem gi(h:s.get f=some (.cells e sb nv [⟨0,0,cs⟩]))(c:Nat)(new:List V)(h1:new.all V.one=true){cs':List V}(h2:bR cs c new=some cs'):storeCells s ⟨f,0,c⟩ new=some (s.put f (.cells e sb nv [⟨0,0,cs'⟩])):=by
 unfold storeCells;rw[h];simp[bA,h1,h2,uT]
end
theorem fV(s:S)(B:dB):(s.alloc B).get s.next=some B:=by rw[S.get_alloc,if_pos rfl]
theorem HY(n:Int)(h:-9223372036854775808<=n/\n<=9223372036854775807):IntKind.i64.wrap n=n:=IntWalk.i64_in n h
theorem dC:∀(l:List V) (n:Nat),l.length=n->aU n l=some l
 |[],0,_=>rfl
 |[],_+1,h=>by simp at h
 |_::_,0,h=>by simp at h
 |x::l,n+1,h=>by simp[aU,dC l n (by simpa using h)]
end Go.AI
namespace Go.AI
theorem wI{i:Nat}(h:i<9223372036854775807):IntKind.wrap .i64 (((i:Nat):Int)+1)=((i+1:Nat):Int):=by
 rw[show((i:Nat):Int)+1=((i+1:Nat):Int)by omega];exact HY _ ⟨by omega,by omega⟩
end Go.AI
