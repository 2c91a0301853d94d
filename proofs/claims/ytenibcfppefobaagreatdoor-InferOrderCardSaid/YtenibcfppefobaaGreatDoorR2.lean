/- Closed facts of the row: part 2. No conditions beyond those of the row. -/
import Derived.Test.YtenibcfppefobaaGreatDoorRows
import Derived.JoinedCond
import Derived.KernelRfl
set_option linter.all false
noncomputable section
namespace Go.Proofs.YtenibcfppefobaaGreatDoor.inferOrder
open Go
theorem Sb:((Rows.inferOrderRow.recurses==Tryz.prog.recurses 4))=true:=by kernel_rfl
theorem Sa:((Rows.inferOrderRow.named==Tryz.prog.varsNamed 4))=true:=by kernel_rfl
theorem RZ:((Rows.inferOrderRow.maps==(Tryz.f4.params.toList++(OpenSpec.ofChange Rows.inferOrderSpec).bare.plain.varTypes Tryz.prog).any (Tryz.prog.mapsRec ·)))=true:=by kernel_rfl
theorem RY:((Rows.inferOrderRow.ifaces==(Tryz.f4.params.toList++(OpenSpec.ofChange Rows.inferOrderSpec).bare.plain.varTypes Tryz.prog).any (Tryz.prog.ifacesRec ·)))=true:=by kernel_rfl
theorem RX:((Rows.inferOrderRow.mapsOut==Tryz.prog.mapsAmong Tryz.f4.resultTypes.toList))=true:=by kernel_rfl
theorem RW:((Rows.inferOrderRow.loops==(Tryz.f4.params.toList++(OpenSpec.ofChange Rows.inferOrderSpec).bare.plain.varTypes Tryz.prog).any (Tryz.prog.loopsFrom ·)))=true:=by kernel_rfl
theorem RV:((Rows.inferOrderRow.wideKeys==(Tryz.f4.params.toList++(OpenSpec.ofChange Rows.inferOrderSpec).bare.plain.varTypes Tryz.prog++Tryz.f4.resultTypes.toList).any (Tryz.prog.wideKeysFrom ·)))=true:=by kernel_rfl
theorem RU:((OpenSpec.ofChange Rows.inferOrderSpec).bare.vars.all (Tryz.prog.varReadable ·))=true:=by kernel_rfl
theorem RT:(Tryz.f4.resultTypes.all (fun t=>Tryz.prog.readableRec t&&decide (t<Tryz.prog.types.size)))=true:=by kernel_rfl
theorem RQ:((Rows.inferOrderRow.ifacesOut==Tryz.f4.resultTypes.toList.any (Tryz.prog.ifacesRec ·)))=true:=by kernel_rfl
theorem RP:((Rows.inferOrderRow.loopsOut==Tryz.f4.resultTypes.toList.any (Tryz.prog.loopsFrom ·)))=true:=by kernel_rfl
theorem RO:((Rows.inferOrderRow.plainKeys==Tryz.prog.plainKeys))=true:=by kernel_rfl
theorem RN:(Rows.inferOrderRow.shortTexts.isNone)=true:=by kernel_rfl
theorem RM:(Tryz.prog.stopsHeard)=true:=by kernel_rfl
theorem RJ:(Tryz.prog.mayEnter)=true:=by kernel_rfl
theorem RI:((Rows.inferOrderRow.lifted==Tryz.prog.liftsFinal))=true:=by kernel_rfl
theorem RH:((Tryz.prog.make==some Rows.inferOrderRow.make))=true:=by kernel_rfl
theorem RG:((Rows.inferOrderRow.kinds==(if Rows.inferOrderRow.domain.isEmpty then [] else Tryz.f4.params.toList.map fun t=>match Tryz.prog.underlying t with|some (.int k)=>some k|_=>none)))=true:=by kernel_rfl
theorem RF:((Rows.inferOrderRow.pinned==Rows.inferOrderRow.pinnedBy))=true:=by kernel_rfl
theorem RE:((Rows.inferOrderRow.veiled==(Tryz.f4.params.toList++(OpenSpec.ofChange Rows.inferOrderSpec).bare.plain.varTypes Tryz.prog++Tryz.f4.resultTypes.toList).any (Tryz.prog.veiledRec ·)))=true:=by kernel_rfl
theorem RC:(Rows.inferOrderRow.veiledFits Tryz.prog Tryz.f4.params.toList (Tryz.f4.params.toList++(OpenSpec.ofChange Rows.inferOrderSpec).bare.plain.varTypes Tryz.prog++Tryz.f4.resultTypes.toList))=true:=by kernel_rfl
end Go.Proofs.YtenibcfppefobaaGreatDoor.inferOrder
