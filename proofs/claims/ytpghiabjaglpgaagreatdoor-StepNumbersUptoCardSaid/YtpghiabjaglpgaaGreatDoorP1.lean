/- What the functions answer, in deep values: part 1. No conditions beyond those of the row. -/
import Derived.Test.YtpghiabjaglpgaaGreatDoorQ2
import Derived.Test.YtpghiabjaglpgaaGreatDoorD7
set_option linter.all false
noncomputable section
namespace Go.Proofs.YtpghiabjaglpgaaGreatDoor
open Go.AI
theorem ol{α:Type}{l:List α}{i:Nat}{x:α}(h:l[i]? = some x):l.set i x=l:=@jK ⟨fun _=>True,[],fun _ _ _ h=>h⟩ α l i x h
inductive Ty where
 |mk (n:List Nat) (xs:List Ty)
inductive Pa where
 |mk (k:Int) (n:List Nat) (xs:List Pa)
inductive Ex where
 |mk (k m:Int) (n a:List Nat) (xs:List Ex) (ps:List Pa)
structure Fu where
 n:List Nat
 a:List Nat
 b:Ex
structure Co where
 n:List Nat
 xs:List Ty
structure Da where
 n:List Nat
 vs:List (List Nat)
 cs:List Co
structure De where
 k:Int
 d:Da
 n:List Nat
 t:Ty
 fs:List Fu
 b:Ex
mutual
def cN:Ty->List D
 |.mk n xs=>[.str n,.row 2 (bJ xs)]
def bJ:List Ty->List (List D)
 |[]=>[]
 |t::r=>cN t::bJ r
end
mutual
def dD:Pa->List D
 |.mk k n xs=>[.int .i64 k,.str n,.row 3 (bM xs)]
def bM:List Pa->List (List D)
 |[]=>[]
 |t::r=>dD t::bM r
end
mutual
def bU:Ex->List D
 |.mk k m n a xs ps=>[.int .i64 k,.int .i64 m,.str n,.str a,.row 6 (bI xs),.row 3 (bM ps)]
def bI:List Ex->List (List D)
 |[]=>[]
 |t::r=>bU t::bI r
end
def ir:Fu->List D
 |⟨n,a,.mk k m en ea xs ps⟩=>[.str n,.str a,.int .i64 k,.int .i64 m,.str en,.str ea,.row 6 (bI xs),.row 3 (bM ps)]
def kO(s:List Nat):List D:=[.str s]
def gI:Co->List D
 |⟨n,xs⟩=>[.str n,.row 2 (bJ xs)]
def VB:Da->List D
 |⟨n,vs,cs⟩=>[.str n,.row 1 (vs.map kO),.row 2 (cs.map gI)]
def bo:De->List D
 |⟨k,⟨dn,vs,cs⟩,n,.mk tn ts,fs,.mk ek em en ea xs ps⟩=>[.int .i64 k,.str dn,.row 1 (vs.map kO),.row 2 (cs.map gI),.str n,.str tn,.row 2 (bJ ts),.row 8 (fs.map ir),.int .i64 ek,.int .i64 em,.str en,.str ea,.row 6 (bI xs),.row 3 (bM ps)]
theorem gJ:∀ l,bJ l=l.map cN
 |[]=>rfl
 |t::r=>by simp[bJ,gJ r]
theorem jX:∀ l,bM l=l.map dD
 |[]=>rfl
 |t::r=>by simp[bM,jX r]
theorem kj:∀ l,bI l=l.map bU
 |[]=>rfl
 |t::r=>by simp[bI,kj r]
mutual
def Ty.ok:Ty->Prop
 |.mk _ xs=>xs.length<2^62/\Ty.oks xs
def Ty.oks:List Ty->Prop
 |[]=>True
 |t::r=>t.ok/\Ty.oks r
end
mutual
def Pa.ok:Pa->Prop
 |.mk _ _ xs=>xs.length<2^62/\Pa.oks xs
def Pa.oks:List Pa->Prop
 |[]=>True
 |t::r=>t.ok/\Pa.oks r
end
mutual
def Ex.ok:Ex->Prop
 |.mk _ _ _ _ xs ps=>xs.length<2^62/\Ex.oks xs/\ps.length<2^62/\Pa.oks ps
def Ex.oks:List Ex->Prop
 |[]=>True
 |t::r=>t.ok/\Ex.oks r
end
def Co.ok(c:Co):Prop:=c.xs.length<2^62/\Ty.oks c.xs
def Da.ok(d:Da):Prop:=d.vs.length<2^62/\d.cs.length<2^62/\∀ c∈d.cs,c.ok
def De.ok(d:De):Prop:=d.d.ok/\d.t.ok/\d.fs.length<2^62/\(∀ f∈d.fs,f.b.ok)/\d.b.ok
theorem Ty.oks_iff:∀ {l},Ty.oks l↔∀ t∈l,Ty.ok t
 |[]=>by simp[Ty.oks]
 |t::r=>by simp[Ty.oks,Ty.oks_iff (l:=r)]
theorem Pa.oks_iff:∀ {l},Pa.oks l↔∀ t∈l,Pa.ok t
 |[]=>by simp[Pa.oks]
 |t::r=>by simp[Pa.oks,Pa.oks_iff (l:=r)]
theorem Ex.oks_iff:∀ {l},Ex.oks l↔∀ t∈l,Ex.ok t
 |[]=>by simp[Ex.oks]
 |t::r=>by simp[Ex.oks,Ex.oks_iff (l:=r)]
theorem bO{α β:Type}(f:α->β)(pre:List α)(t:α)(suf:List α):((pre++t::suf).map f)[pre.length]? = some (f t):=by simp
end Go.Proofs.YtpghiabjaglpgaaGreatDoor
