/- Lemmas. No conditions. -/
import Derived.Test.YtpghiabjaglpgaaGreatDoorRows
import Derived.JoinedCond
import Derived.KernelRfl
set_option linter.all false
noncomputable section
namespace Go.Proofs.YtpghiabjaglpgaaGreatDoor.stepChecks
open Go
theorem aaA:((Rows.stepChecksUptoRow.recurses==Tryz.prog.recurses 7))=true:=by kernel_rfl
theorem aaz:((Rows.stepChecksUptoRow.named==Tryz.prog.varsNamed 7))=true:=by kernel_rfl
theorem aay:((Rows.stepChecksUptoRow.maps==(Tryz.f7.params.toList++(Rows.OpenSpec.upto Rows.stepChecksSpec).bare.plain.varTypes Tryz.prog).any (Tryz.prog.mapsRec ·)))=true:=by kernel_rfl
theorem aax:((Rows.stepChecksUptoRow.ifaces==(Tryz.f7.params.toList++(Rows.OpenSpec.upto Rows.stepChecksSpec).bare.plain.varTypes Tryz.prog).any (Tryz.prog.ifacesRec ·)))=true:=by kernel_rfl
theorem aaw:((Rows.stepChecksUptoRow.mapsOut==Tryz.prog.mapsAmong Tryz.f7.resultTypes.toList))=true:=by kernel_rfl
theorem aav:((Rows.stepChecksUptoRow.loops==(Tryz.f7.params.toList++(Rows.OpenSpec.upto Rows.stepChecksSpec).bare.plain.varTypes Tryz.prog).any (Tryz.prog.loopsFrom ·)))=true:=by kernel_rfl
theorem aau:((Rows.stepChecksUptoRow.wideKeys==(Tryz.f7.params.toList++(Rows.OpenSpec.upto Rows.stepChecksSpec).bare.plain.varTypes Tryz.prog++Tryz.f7.resultTypes.toList).any (Tryz.prog.wideKeysFrom ·)))=true:=by kernel_rfl
theorem aat:((Rows.OpenSpec.upto Rows.stepChecksSpec).bare.vars.all (Tryz.prog.varReadable ·))=true:=by kernel_rfl
theorem aas:(Tryz.f7.resultTypes.all (fun t=>Tryz.prog.readableRec t&&decide (t<Tryz.prog.types.size)))=true:=by kernel_rfl
theorem aar:((Rows.stepChecksUptoRow.ifacesOut==Tryz.f7.resultTypes.toList.any (Tryz.prog.ifacesRec ·)))=true:=by kernel_rfl
theorem aaq:((Rows.stepChecksUptoRow.loopsOut==Tryz.f7.resultTypes.toList.any (Tryz.prog.loopsFrom ·)))=true:=by kernel_rfl
theorem aap:((Rows.stepChecksUptoRow.plainKeys==Tryz.prog.plainKeys))=true:=by kernel_rfl
theorem aao:(Rows.stepChecksUptoRow.shortTexts.isNone)=true:=by kernel_rfl
theorem aan:(Tryz.prog.stopsHeard)=true:=by kernel_rfl
theorem aam:(Tryz.prog.mayEnter)=true:=by kernel_rfl
theorem aal:((Rows.stepChecksUptoRow.lifted==Tryz.prog.liftsFinal))=true:=by kernel_rfl
theorem aak:((Tryz.prog.make==some Rows.stepChecksUptoRow.make))=true:=by kernel_rfl
theorem aaj:((Rows.stepChecksUptoRow.kinds==(if Rows.stepChecksUptoRow.domain.isEmpty then [] else Tryz.f7.params.toList.map fun t=>match Tryz.prog.underlying t with|some (.int k)=>some k|_=>none)))=true:=by kernel_rfl
theorem aai:((Rows.stepChecksUptoRow.pinned==Rows.stepChecksUptoRow.pinnedBy))=true:=by kernel_rfl
theorem aah:((Rows.stepChecksUptoRow.veiled==(Tryz.f7.params.toList++(Rows.OpenSpec.upto Rows.stepChecksSpec).bare.plain.varTypes Tryz.prog++Tryz.f7.resultTypes.toList).any (Tryz.prog.veiledRec ·)))=true:=by kernel_rfl
theorem aag:(Rows.stepChecksUptoRow.veiledFits Tryz.prog Tryz.f7.params.toList (Tryz.f7.params.toList++(Rows.OpenSpec.upto Rows.stepChecksSpec).bare.plain.varTypes Tryz.prog++Tryz.f7.resultTypes.toList))=true:=by kernel_rfl
end Go.Proofs.YtpghiabjaglpgaaGreatDoor.stepChecks
