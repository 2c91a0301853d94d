/- Lemmas. No conditions. -/
import Derived.Test.YtpghiabjaglpgaaGreatDoorS1
set_option linter.all false
noncomputable section
namespace Go.Proofs.YtpghiabjaglpgaaGreatDoor
open Go.AI
def uy:lj:={ f:=30,args:=[.str [102,117,110,32,102,32,120,32,61,32,120,32,43,32,49,59,32,111,117,116,112,117,116,32,111,32,61,32,102,32,50,59]],a:=⟨.leaf,0⟩,v:=.tuple [.agg [.slice ⟨149,1,0⟩ 0 2 none 14],.int .i64 0,.int .i64 0],b:=⟨(n0 (n0 (n1 (n1 (n2 (n1 (n1 (n3 (cB 86 [iV 2,iV 0,.str [120],s0,nS,nS,iV 1,iV 1,s0,s0,nS,nS]))))))) (n0 (n1 (n2 (n2 (n1 (n3 (cB 86 [iV 2,iV 0,.str [102],s0,nS,nS,iV 1,iV 2,s0,s0,nS,nS])))))) (n1 (n2 (n1 (n1 (n3 (.cells 147 false 2 [⟨1,0,[iV 3,s0,nS,nS,s0,s0,nS,.slice ⟨146,0,0⟩ 0 1 (some 1) 8,iV 0,iV 0,s0,s0,nS,nS,iV 5,s0,nS,nS,.str [111],s0,nS,nS,iV 4,iV 0,s0,s0,.slice ⟨177,0,0⟩ 0 2 (some 2) 6,nS]⟩,⟨0,0,[iV 3,s0,nS,nS,s0,s0,nS,.slice ⟨146,0,0⟩ 0 1 (some 1) 8,iV 0,iV 0,s0,s0,nS,nS]⟩])))))))) (n2 (n1 (n1 (n2 (n1 (n1 (n3 (cB 149 [.str [102],.str [120],iV 9,iV 0,.str [43],s0,.slice ⟨143,0,0⟩ 0 2 (some 2) 6,nS]))))))))),282⟩ }
theorem afd:lq pi 32000 uy.f uy.args uy.a uy.v uy.b=true:=by kernel_rfl
end Go.Proofs.YtpghiabjaglpgaaGreatDoor
