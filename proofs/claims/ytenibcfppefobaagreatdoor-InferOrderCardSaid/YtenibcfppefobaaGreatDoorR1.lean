/- Closed facts of the row: part 1. No conditions beyond those of the row. -/
import Derived.Test.YtenibcfppefobaaGreatDoorRows
import Derived.JoinedCond
import Derived.KernelRfl
set_option linter.all false
noncomputable section
namespace Go.Proofs.YtenibcfppefobaaGreatDoor.inferOrder
open Go
theorem TU:(Rows.inferOrderRow.wf (OpenSpec.ofChange (OpenSpec.ofChange Rows.inferOrderSpec).bare))=true:=by kernel_rfl
theorem TT:(laidOutB Tryz.prog)=true:=by kernel_rfl
theorem TS:(mapsRowed Tryz.prog)=true:=by kernel_rfl
theorem TQ:(Tryz.f4.params.all (Tryz.prog.readableRec ·))=true:=by kernel_rfl
theorem TP:(namedTie Tryz.prog Rows.inferOrderRow.named (OpenSpec.ofChange Rows.inferOrderSpec).bare.vars)=true:=by kernel_rfl
theorem TO:((Rows.inferOrderRow.stops==[]))=true:=by kernel_rfl
theorem TN:((Tryz.prog.stops==[]))=true:=by kernel_rfl
theorem TM:((Rows.inferOrderRow.knobs==[]))=true:=by kernel_rfl
theorem TL:((Tryz.prog.stopKnobs==[]))=true:=by kernel_rfl
theorem TK:((Rows.inferOrderRow.inPlace==Tryz.prog.inPlace 4))=true:=by kernel_rfl
theorem Sc:((Rows.inferOrderRow.unfollowed==Tryz.prog.unfollowed 4))=true:=by kernel_rfl
end Go.Proofs.YtenibcfppefobaaGreatDoor.inferOrder
