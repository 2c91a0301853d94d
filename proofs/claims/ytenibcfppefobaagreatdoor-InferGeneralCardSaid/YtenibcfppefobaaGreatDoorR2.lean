/- Closed facts of the row: part 2. No conditions beyond those of the row. -/
import Derived.Test.YtenibcfppefobaaGreatDoorRows
import Derived.JoinedCond
import Derived.KernelRfl
set_option linter.all false
noncomputable section
namespace Go.Proofs.YtenibcfppefobaaGreatDoor.inferGeneral
open Go
theorem Qe:((Rows.inferGeneralRow.recurses==Tryz.prog.recurses 3))=true:=by kernel_rfl
theorem Qd:((Rows.inferGeneralRow.named==Tryz.prog.varsNamed 3))=true:=by kernel_rfl
theorem Qc:((Rows.inferGeneralRow.maps==(Tryz.f3.params.toList++(OpenSpec.ofChange Rows.inferGeneralSpec).bare.plain.varTypes Tryz.prog).any (Tryz.prog.mapsRec ·)))=true:=by kernel_rfl
theorem Qb:((Rows.inferGeneralRow.ifaces==(Tryz.f3.params.toList++(OpenSpec.ofChange Rows.inferGeneralSpec).bare.plain.varTypes Tryz.prog).any (Tryz.prog.ifacesRec ·)))=true:=by kernel_rfl
theorem Qa:((Rows.inferGeneralRow.mapsOut==Tryz.prog.mapsAmong Tryz.f3.resultTypes.toList))=true:=by kernel_rfl
theorem PZ:((Rows.inferGeneralRow.loops==(Tryz.f3.params.toList++(OpenSpec.ofChange Rows.inferGeneralSpec).bare.plain.varTypes Tryz.prog).any (Tryz.prog.loopsFrom ·)))=true:=by kernel_rfl
theorem PY:((Rows.inferGeneralRow.wideKeys==(Tryz.f3.params.toList++(OpenSpec.ofChange Rows.inferGeneralSpec).bare.plain.varTypes Tryz.prog++Tryz.f3.resultTypes.toList).any (Tryz.prog.wideKeysFrom ·)))=true:=by kernel_rfl
theorem PX:((OpenSpec.ofChange Rows.inferGeneralSpec).bare.vars.all (Tryz.prog.varReadable ·))=true:=by kernel_rfl
theorem PW:(Tryz.f3.resultTypes.all (fun t=>Tryz.prog.readableRec t&&decide (t<Tryz.prog.types.size)))=true:=by kernel_rfl
theorem PV:((Rows.inferGeneralRow.ifacesOut==Tryz.f3.resultTypes.toList.any (Tryz.prog.ifacesRec ·)))=true:=by kernel_rfl
theorem PU:((Rows.inferGeneralRow.loopsOut==Tryz.f3.resultTypes.toList.any (Tryz.prog.loopsFrom ·)))=true:=by kernel_rfl
theorem PT:((Rows.inferGeneralRow.plainKeys==Tryz.prog.plainKeys))=true:=by kernel_rfl
theorem PS:(Rows.inferGeneralRow.shortTexts.isNone)=true:=by kernel_rfl
theorem PR:(Tryz.prog.stopsHeard)=true:=by kernel_rfl
theorem PQ:(Tryz.prog.mayEnter)=true:=by kernel_rfl
theorem PP:((Rows.inferGeneralRow.lifted==Tryz.prog.liftsFinal))=true:=by kernel_rfl
theorem PO:((Tryz.prog.make==some Rows.inferGeneralRow.make))=true:=by kernel_rfl
theorem PN:((Rows.inferGeneralRow.kinds==(if Rows.inferGeneralRow.domain.isEmpty then [] else Tryz.f3.params.toList.map fun t=>match Tryz.prog.underlying t with|some (.int k)=>some k|_=>none)))=true:=by kernel_rfl
theorem PM:((Rows.inferGeneralRow.pinned==Rows.inferGeneralRow.pinnedBy))=true:=by kernel_rfl
theorem PL:((Rows.inferGeneralRow.veiled==(Tryz.f3.params.toList++(OpenSpec.ofChange Rows.inferGeneralSpec).bare.plain.varTypes Tryz.prog++Tryz.f3.resultTypes.toList).any (Tryz.prog.veiledRec ·)))=true:=by kernel_rfl
theorem PK:(Rows.inferGeneralRow.veiledFits Tryz.prog Tryz.f3.params.toList (Tryz.f3.params.toList++(OpenSpec.ofChange Rows.inferGeneralSpec).bare.plain.varTypes Tryz.prog++Tryz.f3.resultTypes.toList))=true:=by kernel_rfl
end Go.Proofs.YtenibcfppefobaaGreatDoor.inferGeneral
