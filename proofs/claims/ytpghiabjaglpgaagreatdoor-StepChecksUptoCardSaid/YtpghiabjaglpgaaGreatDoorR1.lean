/- Lemmas. No conditions. -/
import Derived.Test.YtpghiabjaglpgaaGreatDoorRows
import Derived.JoinedCond
import Derived.KernelRfl
set_option linter.all false
noncomputable section
namespace Go.Proofs.YtpghiabjaglpgaaGreatDoor.stepChecks
open Go
theorem aea:(Rows.stepChecksUptoRow.wf (OpenSpec.ofChange (Rows.OpenSpec.upto Rows.stepChecksSpec).bare))=true:=by kernel_rfl
theorem adZ:(laidOutB Tryz.prog)=true:=by kernel_rfl
theorem adY:(mapsRowed Tryz.prog)=true:=by kernel_rfl
theorem adX:(Tryz.f7.params.all (Tryz.prog.readableRec ·))=true:=by kernel_rfl
theorem adW:(namedTie Tryz.prog Rows.stepChecksUptoRow.named (Rows.OpenSpec.upto Rows.stepChecksSpec).bare.vars)=true:=by kernel_rfl
theorem adV:((Rows.stepChecksUptoRow.stops==[]))=true:=by kernel_rfl
theorem adU:((Tryz.prog.stops==[]))=true:=by kernel_rfl
theorem adT:((Rows.stepChecksUptoRow.knobs==[]))=true:=by kernel_rfl
theorem adS:((Tryz.prog.stopKnobs==[]))=true:=by kernel_rfl
theorem adR:((Rows.stepChecksUptoRow.inPlace==Tryz.prog.inPlace 7))=true:=by kernel_rfl
theorem aaB:((Rows.stepChecksUptoRow.unfollowed==Tryz.prog.unfollowed 7))=true:=by kernel_rfl
end Go.Proofs.YtpghiabjaglpgaaGreatDoor.stepChecks
