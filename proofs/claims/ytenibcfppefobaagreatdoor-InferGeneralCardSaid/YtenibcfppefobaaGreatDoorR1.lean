/- Closed facts of the row: part 1. No conditions beyond those of the row. -/
import Derived.Test.YtenibcfppefobaaGreatDoorRows
import Derived.JoinedCond
import Derived.KernelRfl
set_option linter.all false
noncomputable section
namespace Go.Proofs.YtenibcfppefobaaGreatDoor.inferGeneral
open Go
theorem RZ:(Rows.inferGeneralRow.wf (OpenSpec.ofChange (OpenSpec.ofChange Rows.inferGeneralSpec).bare))=true:=by kernel_rfl
theorem RY:(laidOutB Tryz.prog)=true:=by kernel_rfl
theorem RX:(mapsRowed Tryz.prog)=true:=by kernel_rfl
theorem RW:(Tryz.f3.params.all (Tryz.prog.readableRec ·))=true:=by kernel_rfl
theorem RV:(namedTie Tryz.prog Rows.inferGeneralRow.named (OpenSpec.ofChange Rows.inferGeneralSpec).bare.vars)=true:=by kernel_rfl
theorem RU:((Rows.inferGeneralRow.stops==[]))=true:=by kernel_rfl
theorem RT:((Tryz.prog.stops==[]))=true:=by kernel_rfl
theorem RQ:((Rows.inferGeneralRow.knobs==[]))=true:=by kernel_rfl
theorem RP:((Tryz.prog.stopKnobs==[]))=true:=by kernel_rfl
theorem RO:((Rows.inferGeneralRow.inPlace==Tryz.prog.inPlace 3))=true:=by kernel_rfl
theorem Qf:((Rows.inferGeneralRow.unfollowed==Tryz.prog.unfollowed 3))=true:=by kernel_rfl
end Go.Proofs.YtenibcfppefobaaGreatDoor.inferGeneral
