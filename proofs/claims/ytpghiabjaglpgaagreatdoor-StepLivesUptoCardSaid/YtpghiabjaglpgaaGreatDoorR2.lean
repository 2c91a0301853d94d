/- Lemmas. No conditions. -/
import Derived.Test.YtpghiabjaglpgaaGreatDoorRows
import Derived.JoinedCond
set_option linter.all false
noncomputable section
namespace Go.Proofs.YtpghiabjaglpgaaGreatDoor.stepLives
open Go
theorem aeW:((Rows.stepLivesUptoRow.recurses==Tryz.prog.recurses 8))=true:=by kernel_rfl
theorem aeV:((Rows.stepLivesUptoRow.named==Tryz.prog.varsNamed 8))=true:=by kernel_rfl
theorem aeU:((Rows.stepLivesUptoRow.maps==(Tryz.f8.params.toList++(Rows.OpenSpec.upto Rows.stepLivesSpec).bare.plain.varTypes Tryz.prog).any (Tryz.prog.mapsRec ·)))=true:=by kernel_rfl
theorem aeT:((Rows.stepLivesUptoRow.ifaces==(Tryz.f8.params.toList++(Rows.OpenSpec.upto Rows.stepLivesSpec).bare.plain.varTypes Tryz.prog).any (Tryz.prog.ifacesRec ·)))=true:=by kernel_rfl
theorem aeS:((Rows.stepLivesUptoRow.mapsOut==Tryz.prog.mapsAmong Tryz.f8.resultTypes.toList))=true:=by kernel_rfl
theorem aeR:((Rows.stepLivesUptoRow.loops==(Tryz.f8.params.toList++(Rows.OpenSpec.upto Rows.stepLivesSpec).bare.plain.varTypes Tryz.prog).any (Tryz.prog.loopsFrom ·)))=true:=by kernel_rfl
theorem aeQ:((Rows.stepLivesUptoRow.wideKeys==(Tryz.f8.params.toList++(Rows.OpenSpec.upto Rows.stepLivesSpec).bare.plain.varTypes Tryz.prog++Tryz.f8.resultTypes.toList).any (Tryz.prog.wideKeysFrom ·)))=true:=by kernel_rfl
theorem aeP:((Rows.OpenSpec.upto Rows.stepLivesSpec).bare.vars.all (Tryz.prog.varReadable ·))=true:=by kernel_rfl
theorem aeO:(Tryz.f8.resultTypes.all (λt=>Tryz.prog.readableRec t&&decide (t<Tryz.prog.types.size)))=true:=by kernel_rfl
theorem aeN:((Rows.stepLivesUptoRow.ifacesOut==Tryz.f8.resultTypes.toList.any (Tryz.prog.ifacesRec ·)))=true:=by kernel_rfl
theorem aeM:((Rows.stepLivesUptoRow.loopsOut==Tryz.f8.resultTypes.toList.any (Tryz.prog.loopsFrom ·)))=true:=by kernel_rfl
theorem aeL:((Rows.stepLivesUptoRow.plainKeys==Tryz.prog.plainKeys))=true:=by kernel_rfl
theorem aeK:(Rows.stepLivesUptoRow.shortTexts.isNone)=true:=by kernel_rfl
theorem aeJ:(Tryz.prog.stopsHeard)=true:=by kernel_rfl
theorem aeI:(Tryz.prog.mayEnter)=true:=by kernel_rfl
theorem aeH:((Rows.stepLivesUptoRow.lifted==Tryz.prog.liftsFinal))=true:=by kernel_rfl
theorem aeG:((Tryz.prog.make==some Rows.stepLivesUptoRow.make))=true:=by kernel_rfl
theorem aeF:((Rows.stepLivesUptoRow.kinds==(if Rows.stepLivesUptoRow.domain.isEmpty then [] else Tryz.f8.params.toList.map λt=>match Tryz.prog.underlying t with|some (.int k)=>some k|_=>none)))=true:=by kernel_rfl
theorem aeE:((Rows.stepLivesUptoRow.pinned==Rows.stepLivesUptoRow.pinnedBy))=true:=by kernel_rfl
theorem aeD:((Rows.stepLivesUptoRow.veiled==(Tryz.f8.params.toList++(Rows.OpenSpec.upto Rows.stepLivesSpec).bare.plain.varTypes Tryz.prog++Tryz.f8.resultTypes.toList).any (Tryz.prog.veiledRec ·)))=true:=by kernel_rfl
theorem aeC:(Rows.stepLivesUptoRow.veiledFits Tryz.prog Tryz.f8.params.toList (Tryz.f8.params.toList++(Rows.OpenSpec.upto Rows.stepLivesSpec).bare.plain.varTypes Tryz.prog++Tryz.f8.resultTypes.toList))=true:=by kernel_rfl
