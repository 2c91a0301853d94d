/- Lemmas. No conditions. -/
import Derived.Test.YtpghiabjaglpgaaGreatDoorCards
import Derived.JoinedCond
import Derived.KernelRfl
set_option linter.all false
noncomputable section
namespace Go.Proofs.YtpghiabjaglpgaaGreatDoor.stepChecks
theorem c1:Rows.stepChecksUptoRow.wfByText (Rows.OpenSpec.upto Rows.stepChecksSpec)=true:=by kernel_rfl
end Go.Proofs.YtpghiabjaglpgaaGreatDoor.stepChecks
namespace Go.Proofs.YtpghiabjaglpgaaGreatDoor.stepChecks
open Go
theorem plain(f:FuncId)(fn:Func)(d:Tryz.pinned.checked.prog.funcNamed Rows.stepChecksUptoRow.func=some f)(b:Tryz.pinned.checked.prog.funcs[f]? = some fn) :
 true=Tryz.pinned.checked.prog.looks []/\∀(j:Nat) t,fn.params[j]? = some t->Tryz.pinned.checked.prog.wantsStandIn t=false:=by
 obtain rfl:f=7:=Option.some.inj ((show Tryz.prog.funcNamed Rows.stepChecksUptoRow.func=some 7 by kernel_rfl).symm.trans d) |>.symm;obtain rfl:fn=Tryz.f7:=(Option.some.inj (Tryz.func7.symm.trans b)).symm;refine⟨by kernel_rfl,fun j t c=>?_⟩;rw[Tryz.params7]at c;have hm:t∈[24,43,9]:=by simpa using Array.mem_of_getElem? c
 have a:([24,43,9].all fun u=>!Tryz.prog.wantsStandIn u)=true:=by kernel_rfl
 exact(show Tryz.prog.wantsStandIn t=false by simpa using List.all_eq_true.1 a t hm)
end Go.Proofs.YtpghiabjaglpgaaGreatDoor.stepChecks
