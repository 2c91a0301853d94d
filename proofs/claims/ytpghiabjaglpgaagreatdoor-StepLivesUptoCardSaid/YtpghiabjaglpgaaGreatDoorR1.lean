/- Lemmas. No conditions. -/
import Derived.Test.YtpghiabjaglpgaaGreatDoorRows
import Derived.JoinedCond
set_option linter.all false
noncomputable section
namespace Go.Proofs.YtpghiabjaglpgaaGreatDoor.stepLives
open Go
theorem aiQ:(Rows.stepLivesUptoRow.wf (OpenSpec.ofChange (Rows.OpenSpec.upto Rows.stepLivesSpec).bare))=true:=by kernel_rfl
theorem aiP:(laidOutB Tryz.prog)=true:=by kernel_rfl
theorem aiO:(mapsRowed Tryz.prog)=true:=by kernel_rfl
theorem aiN:(Tryz.f8.params.all (Tryz.prog.readableRec ·))=true:=by kernel_rfl
theorem aiM:(namedTie Tryz.prog Rows.stepLivesUptoRow.named (Rows.OpenSpec.upto Rows.stepLivesSpec).bare.vars)=true:=by kernel_rfl
theorem aiL:((Rows.stepLivesUptoRow.stops==[]))=true:=by kernel_rfl
theorem aiK:((Tryz.prog.stops==[]))=true:=by kernel_rfl
theorem aiJ:((Rows.stepLivesUptoRow.knobs==[]))=true:=by kernel_rfl
theorem aiI:((Tryz.prog.stopKnobs==[]))=true:=by kernel_rfl
theorem aiH:((Rows.stepLivesUptoRow.inPlace==Tryz.prog.inPlace 8))=true:=by kernel_rfl
theorem aeX:((Rows.stepLivesUptoRow.unfollowed==Tryz.prog.unfollowed 8))=true:=by kernel_rfl
