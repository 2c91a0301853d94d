/- From the row to the evaluator: part 2. No conditions beyond those of the row. -/
import Derived.Test.YtpghiabjaglpgaaGreatDoorRows
import Derived.JoinedCond
import Derived.KernelRfl
set_option linter.all false
noncomputable section
namespace Go.Proofs.YtpghiabjaglpgaaGreatDoor.stepNumbers
open Go
theorem UL:((Rows.stepNumbersUptoRow.recurses==Tryz.prog.recurses 3))=true:=by kernel_rfl
theorem UK:((Rows.stepNumbersUptoRow.named==Tryz.prog.varsNamed 3))=true:=by kernel_rfl
theorem UJ:((Rows.stepNumbersUptoRow.maps==(Tryz.f3.params.toList++(Rows.OpenSpec.upto Rows.stepNumbersSpec).bare.plain.varTypes Tryz.prog).any (Tryz.prog.mapsRec ·)))=true:=by kernel_rfl
theorem UI:((Rows.stepNumbersUptoRow.ifaces==(Tryz.f3.params.toList++(Rows.OpenSpec.upto Rows.stepNumbersSpec).bare.plain.varTypes Tryz.prog).any (Tryz.prog.ifacesRec ·)))=true:=by kernel_rfl
theorem UH:((Rows.stepNumbersUptoRow.mapsOut==Tryz.prog.mapsAmong Tryz.f3.resultTypes.toList))=true:=by kernel_rfl
theorem UG:((Rows.stepNumbersUptoRow.loops==(Tryz.f3.params.toList++(Rows.OpenSpec.upto Rows.stepNumbersSpec).bare.plain.varTypes Tryz.prog).any (Tryz.prog.loopsFrom ·)))=true:=by kernel_rfl
theorem UF:((Rows.stepNumbersUptoRow.wideKeys==(Tryz.f3.params.toList++(Rows.OpenSpec.upto Rows.stepNumbersSpec).bare.plain.varTypes Tryz.prog++Tryz.f3.resultTypes.toList).any (Tryz.prog.wideKeysFrom ·)))=true:=by kernel_rfl
theorem UE:((Rows.OpenSpec.upto Rows.stepNumbersSpec).bare.vars.all (Tryz.prog.varReadable ·))=true:=by kernel_rfl
theorem UD:(Tryz.f3.resultTypes.all (fun t=>Tryz.prog.readableRec t&&decide (t<Tryz.prog.types.size)))=true:=by kernel_rfl
theorem UC:((Rows.stepNumbersUptoRow.ifacesOut==Tryz.f3.resultTypes.toList.any (Tryz.prog.ifacesRec ·)))=true:=by kernel_rfl
theorem UB:((Rows.stepNumbersUptoRow.loopsOut==Tryz.f3.resultTypes.toList.any (Tryz.prog.loopsFrom ·)))=true:=by kernel_rfl
theorem UA:((Rows.stepNumbersUptoRow.plainKeys==Tryz.prog.plainKeys))=true:=by kernel_rfl
theorem Uz:(Rows.stepNumbersUptoRow.shortTexts.isNone)=true:=by kernel_rfl
theorem Uy:(Tryz.prog.stopsHeard)=true:=by kernel_rfl
theorem Ux:(Tryz.prog.mayEnter)=true:=by kernel_rfl
theorem Uw:((Rows.stepNumbersUptoRow.lifted==Tryz.prog.liftsFinal))=true:=by kernel_rfl
theorem Uv:((Tryz.prog.make==some Rows.stepNumbersUptoRow.make))=true:=by kernel_rfl
theorem Uu:((Rows.stepNumbersUptoRow.kinds==(if Rows.stepNumbersUptoRow.domain.isEmpty then [] else Tryz.f3.params.toList.map fun t=>match Tryz.prog.underlying t with|some (.int k)=>some k|_=>none)))=true:=by kernel_rfl
theorem Ut:((Rows.stepNumbersUptoRow.pinned==Rows.stepNumbersUptoRow.pinnedBy))=true:=by kernel_rfl
theorem Us:((Rows.stepNumbersUptoRow.veiled==(Tryz.f3.params.toList++(Rows.OpenSpec.upto Rows.stepNumbersSpec).bare.plain.varTypes Tryz.prog++Tryz.f3.resultTypes.toList).any (Tryz.prog.veiledRec ·)))=true:=by kernel_rfl
theorem Ur:(Rows.stepNumbersUptoRow.veiledFits Tryz.prog Tryz.f3.params.toList (Tryz.f3.params.toList++(Rows.OpenSpec.upto Rows.stepNumbersSpec).bare.plain.varTypes Tryz.prog++Tryz.f3.resultTypes.toList))=true:=by kernel_rfl
end Go.Proofs.YtpghiabjaglpgaaGreatDoor.stepNumbers
