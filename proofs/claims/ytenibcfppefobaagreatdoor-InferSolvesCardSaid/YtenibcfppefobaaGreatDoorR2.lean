/- Closed facts of the row: part 2. No conditions beyond those of the row. -/
import Derived.Test.YtenibcfppefobaaGreatDoorRows
import Derived.JoinedCond
import Derived.KernelRfl
set_option linter.all false
noncomputable section
namespace Go.Proofs.YtenibcfppefobaaGreatDoor.inferSolves
open Go
theorem Uk:((Rows.inferSolvesRow.recurses==Tryz.prog.recurses 5))=true:=by kernel_rfl
theorem Uj:((Rows.inferSolvesRow.named==Tryz.prog.varsNamed 5))=true:=by kernel_rfl
theorem Ui:((Rows.inferSolvesRow.maps==(Tryz.f5.params.toList++(OpenSpec.ofChange Rows.inferSolvesSpec).bare.plain.varTypes Tryz.prog).any (Tryz.prog.mapsRec ·)))=true:=by kernel_rfl
theorem Uh:((Rows.inferSolvesRow.ifaces==(Tryz.f5.params.toList++(OpenSpec.ofChange Rows.inferSolvesSpec).bare.plain.varTypes Tryz.prog).any (Tryz.prog.ifacesRec ·)))=true:=by kernel_rfl
theorem Ug:((Rows.inferSolvesRow.mapsOut==Tryz.prog.mapsAmong Tryz.f5.resultTypes.toList))=true:=by kernel_rfl
theorem Uf:((Rows.inferSolvesRow.loops==(Tryz.f5.params.toList++(OpenSpec.ofChange Rows.inferSolvesSpec).bare.plain.varTypes Tryz.prog).any (Tryz.prog.loopsFrom ·)))=true:=by kernel_rfl
theorem Ue:((Rows.inferSolvesRow.wideKeys==(Tryz.f5.params.toList++(OpenSpec.ofChange Rows.inferSolvesSpec).bare.plain.varTypes Tryz.prog++Tryz.f5.resultTypes.toList).any (Tryz.prog.wideKeysFrom ·)))=true:=by kernel_rfl
theorem Ud:((OpenSpec.ofChange Rows.inferSolvesSpec).bare.vars.all (Tryz.prog.varReadable ·))=true:=by kernel_rfl
theorem Uc:(Tryz.f5.resultTypes.all (fun t=>Tryz.prog.readableRec t&&decide (t<Tryz.prog.types.size)))=true:=by kernel_rfl
theorem Ub:((Rows.inferSolvesRow.ifacesOut==Tryz.f5.resultTypes.toList.any (Tryz.prog.ifacesRec ·)))=true:=by kernel_rfl
theorem Ua:((Rows.inferSolvesRow.loopsOut==Tryz.f5.resultTypes.toList.any (Tryz.prog.loopsFrom ·)))=true:=by kernel_rfl
theorem TZ:((Rows.inferSolvesRow.plainKeys==Tryz.prog.plainKeys))=true:=by kernel_rfl
theorem TY:(Rows.inferSolvesRow.shortTexts.isNone)=true:=by kernel_rfl
theorem TX:(Tryz.prog.stopsHeard)=true:=by kernel_rfl
theorem TW:(Tryz.prog.mayEnter)=true:=by kernel_rfl
theorem TV:((Rows.inferSolvesRow.lifted==Tryz.prog.liftsFinal))=true:=by kernel_rfl
theorem TU:((Tryz.prog.make==some Rows.inferSolvesRow.make))=true:=by kernel_rfl
theorem TT:((Rows.inferSolvesRow.kinds==(if Rows.inferSolvesRow.domain.isEmpty then [] else Tryz.f5.params.toList.map fun t=>match Tryz.prog.underlying t with|some (.int k)=>some k|_=>none)))=true:=by kernel_rfl
theorem TS:((Rows.inferSolvesRow.pinned==Rows.inferSolvesRow.pinnedBy))=true:=by kernel_rfl
theorem TQ:((Rows.inferSolvesRow.veiled==(Tryz.f5.params.toList++(OpenSpec.ofChange Rows.inferSolvesSpec).bare.plain.varTypes Tryz.prog++Tryz.f5.resultTypes.toList).any (Tryz.prog.veiledRec ·)))=true:=by kernel_rfl
theorem TP:(Rows.inferSolvesRow.veiledFits Tryz.prog Tryz.f5.params.toList (Tryz.f5.params.toList++(OpenSpec.ofChange Rows.inferSolvesSpec).bare.plain.varTypes Tryz.prog++Tryz.f5.resultTypes.toList))=true:=by kernel_rfl
end Go.Proofs.YtenibcfppefobaaGreatDoor.inferSolves
