/- Closed facts of the row: part 1. No conditions beyond those of the row. -/
import Derived.Test.YtenibcfppefobaaGreatDoorRows
import Derived.JoinedCond
import Derived.KernelRfl
set_option linter.all false
noncomputable section
namespace Go.Proofs.YtenibcfppefobaaGreatDoor.inferSolves
open Go
theorem Wq:(Rows.inferSolvesRow.wf (OpenSpec.ofChange (OpenSpec.ofChange Rows.inferSolvesSpec).bare))=true:=by kernel_rfl
theorem Wp:(laidOutB Tryz.prog)=true:=by kernel_rfl
theorem Wo:(mapsRowed Tryz.prog)=true:=by kernel_rfl
theorem Wn:(Tryz.f5.params.all (Tryz.prog.readableRec ·))=true:=by kernel_rfl
theorem Wm:(namedTie Tryz.prog Rows.inferSolvesRow.named (OpenSpec.ofChange Rows.inferSolvesSpec).bare.vars)=true:=by kernel_rfl
theorem Wl:((Rows.inferSolvesRow.stops==[]))=true:=by kernel_rfl
theorem Wk:((Tryz.prog.stops==[]))=true:=by kernel_rfl
theorem Wj:((Rows.inferSolvesRow.knobs==[]))=true:=by kernel_rfl
theorem Wi:((Tryz.prog.stopKnobs==[]))=true:=by kernel_rfl
theorem Wh:((Rows.inferSolvesRow.inPlace==Tryz.prog.inPlace 5))=true:=by kernel_rfl
theorem Ul:((Rows.inferSolvesRow.unfollowed==Tryz.prog.unfollowed 5))=true:=by kernel_rfl
end Go.Proofs.YtenibcfppefobaaGreatDoor.inferSolves
