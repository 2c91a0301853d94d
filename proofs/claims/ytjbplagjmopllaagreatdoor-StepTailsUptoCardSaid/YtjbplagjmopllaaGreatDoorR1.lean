/- Lemmas. No conditions. -/
import Derived.Test.YtjbplagjmopllaaGreatDoorRows
import Derived.JoinedCond
set_option linter.all false
noncomputable section
namespace Go.Proofs.YtjbplagjmopllaaGreatDoor.stepTails
open Go
theorem aea:(Rows.stepTailsUptoRow.wf (OpenSpec.ofChange (Rows.OpenSpec.upto Rows.stepTailsSpec).bare))=true:=by kernel_rfl
theorem adZ:(laidOutB Tryz.prog)=true:=by kernel_rfl
theorem adY:(mapsRowed Tryz.prog)=true:=by kernel_rfl
theorem adX:(Tryz.f3.params.all (Tryz.prog.readableRec ·))=true:=by kernel_rfl
theorem adW:(namedTie Tryz.prog Rows.stepTailsUptoRow.named (Rows.OpenSpec.upto Rows.stepTailsSpec).bare.vars)=true:=by kernel_rfl
theorem adV:((Rows.stepTailsUptoRow.stops==[]))=true:=by kernel_rfl
theorem adU:((Tryz.prog.stops==[]))=true:=by kernel_rfl
theorem adT:((Rows.stepTailsUptoRow.knobs==[]))=true:=by kernel_rfl
theorem adS:((Tryz.prog.stopKnobs==[]))=true:=by kernel_rfl
theorem adR:((Rows.stepTailsUptoRow.inPlace==Tryz.prog.inPlace 3))=true:=by kernel_rfl
theorem aaf:((Rows.stepTailsUptoRow.unfollowed==Tryz.prog.unfollowed 3))=true:=by kernel_rfl
