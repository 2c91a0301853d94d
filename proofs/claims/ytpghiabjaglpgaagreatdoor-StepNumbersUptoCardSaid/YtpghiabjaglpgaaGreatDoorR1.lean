/- From the row to the evaluator: part 1. No conditions beyond those of the row. -/
import Derived.Test.YtpghiabjaglpgaaGreatDoorRows
import Derived.JoinedCond
import Derived.KernelRfl
set_option linter.all false
noncomputable section
namespace Go.Proofs.YtpghiabjaglpgaaGreatDoor.stepNumbers
open Go
theorem Xl:(Rows.stepNumbersUptoRow.wf (OpenSpec.ofChange (Rows.OpenSpec.upto Rows.stepNumbersSpec).bare))=true:=by kernel_rfl
theorem Xk:(laidOutB Tryz.prog)=true:=by kernel_rfl
theorem Xj:(mapsRowed Tryz.prog)=true:=by kernel_rfl
theorem Xi:(Tryz.f3.params.all (Tryz.prog.readableRec ·))=true:=by kernel_rfl
theorem Xh:(namedTie Tryz.prog Rows.stepNumbersUptoRow.named (Rows.OpenSpec.upto Rows.stepNumbersSpec).bare.vars)=true:=by kernel_rfl
theorem Xg:((Rows.stepNumbersUptoRow.stops==[]))=true:=by kernel_rfl
theorem Xf:((Tryz.prog.stops==[]))=true:=by kernel_rfl
theorem Xe:((Rows.stepNumbersUptoRow.knobs==[]))=true:=by kernel_rfl
theorem Xd:((Tryz.prog.stopKnobs==[]))=true:=by kernel_rfl
theorem Xc:((Rows.stepNumbersUptoRow.inPlace==Tryz.prog.inPlace 3))=true:=by kernel_rfl
theorem UM:((Rows.stepNumbersUptoRow.unfollowed==Tryz.prog.unfollowed 3))=true:=by kernel_rfl
end Go.Proofs.YtpghiabjaglpgaaGreatDoor.stepNumbers
