/- Lemmas. No conditions. -/
import Derived.Test.YtjbplagjmopllaaGreatDoorRows
import Derived.JoinedCond
set_option linter.all false
noncomputable section
namespace Go.Proofs.YtjbplagjmopllaaGreatDoor.stepTails
open Go
theorem aae:((Rows.stepTailsUptoRow.recurses==Tryz.prog.recurses 3))=true:=by kernel_rfl
theorem aad:((Rows.stepTailsUptoRow.named==Tryz.prog.varsNamed 3))=true:=by kernel_rfl
theorem aac:((Rows.stepTailsUptoRow.maps==(Tryz.f3.params.toList++(Rows.OpenSpec.upto Rows.stepTailsSpec).bare.plain.varTypes Tryz.prog).any (Tryz.prog.mapsRec ·)))=true:=by kernel_rfl
theorem aab:((Rows.stepTailsUptoRow.ifaces==(Tryz.f3.params.toList++(Rows.OpenSpec.upto Rows.stepTailsSpec).bare.plain.varTypes Tryz.prog).any (Tryz.prog.ifacesRec ·)))=true:=by kernel_rfl
theorem aaa:((Rows.stepTailsUptoRow.mapsOut==Tryz.prog.mapsAmong Tryz.f3.resultTypes.toList))=true:=by kernel_rfl
theorem ZZ:((Rows.stepTailsUptoRow.loops==(Tryz.f3.params.toList++(Rows.OpenSpec.upto Rows.stepTailsSpec).bare.plain.varTypes Tryz.prog).any (Tryz.prog.loopsFrom ·)))=true:=by kernel_rfl
theorem ZY:((Rows.stepTailsUptoRow.wideKeys==(Tryz.f3.params.toList++(Rows.OpenSpec.upto Rows.stepTailsSpec).bare.plain.varTypes Tryz.prog++Tryz.f3.resultTypes.toList).any (Tryz.prog.wideKeysFrom ·)))=true:=by kernel_rfl
theorem ZX:((Rows.OpenSpec.upto Rows.stepTailsSpec).bare.vars.all (Tryz.prog.varReadable ·))=true:=by kernel_rfl
theorem ZW:(Tryz.f3.resultTypes.all (λt=>Tryz.prog.readableRec t&&decide (t<Tryz.prog.types.size)))=true:=by kernel_rfl
theorem ZV:((Rows.stepTailsUptoRow.ifacesOut==Tryz.f3.resultTypes.toList.any (Tryz.prog.ifacesRec ·)))=true:=by kernel_rfl
theorem ZU:((Rows.stepTailsUptoRow.loopsOut==Tryz.f3.resultTypes.toList.any (Tryz.prog.loopsFrom ·)))=true:=by kernel_rfl
theorem ZT:((Rows.stepTailsUptoRow.plainKeys==Tryz.prog.plainKeys))=true:=by kernel_rfl
theorem ZS:(Rows.stepTailsUptoRow.shortTexts.isNone)=true:=by kernel_rfl
theorem ZR:(Tryz.prog.stopsHeard)=true:=by kernel_rfl
theorem ZQ:(Tryz.prog.mayEnter)=true:=by kernel_rfl
theorem ZP:((Rows.stepTailsUptoRow.lifted==Tryz.prog.liftsFinal))=true:=by kernel_rfl
theorem ZO:((Tryz.prog.make==some Rows.stepTailsUptoRow.make))=true:=by kernel_rfl
theorem ZN:((Rows.stepTailsUptoRow.kinds==(if Rows.stepTailsUptoRow.domain.isEmpty then [] else Tryz.f3.params.toList.map λt=>match Tryz.prog.underlying t with|some (.int k)=>some k|_=>none)))=true:=by kernel_rfl
theorem ZM:((Rows.stepTailsUptoRow.pinned==Rows.stepTailsUptoRow.pinnedBy))=true:=by kernel_rfl
theorem ZL:((Rows.stepTailsUptoRow.veiled==(Tryz.f3.params.toList++(Rows.OpenSpec.upto Rows.stepTailsSpec).bare.plain.varTypes Tryz.prog++Tryz.f3.resultTypes.toList).any (Tryz.prog.veiledRec ·)))=true:=by kernel_rfl
theorem ZK:(Rows.stepTailsUptoRow.veiledFits Tryz.prog Tryz.f3.params.toList (Tryz.f3.params.toList++(Rows.OpenSpec.upto Rows.stepTailsSpec).bare.plain.varTypes Tryz.prog++Tryz.f3.resultTypes.toList))=true:=by kernel_rfl
