/- Lemmas. No conditions. -/
import Derived.Test.YtjbplagjmopllaaGreatDoorA6
import Derived.Test.YtjbplagjmopllaaGreatDoorR1
import Derived.Test.YtjbplagjmopllaaGreatDoorR2
set_option linter.all false
noncomputable section
namespace Go.Proofs.YtjbplagjmopllaaGreatDoor.stepTails
open Go.ChangeShapes Go.WideShapes Go.ChangeAt Go.RowKit
open Go.AI
theorem gt{a b:Bool}(c:a=true)(hb:b=true):(a&&b)=true:=by rw[c,hb];rfl
set_option maxRecDepth 100000 in
theorem aaC:joinedFacts Tryz.prog 3 Tryz.f3 (Rows.OpenSpec.upto Rows.stepTailsSpec).bare Rows.stepTailsUptoRow=true:=gt (gt (gt (gt (gt (gt (gt (gt (gt (gt (gt (gt (gt (gt (gt (gt (gt (gt (gt (gt (gt (gt (gt (gt (gt (gt (gt (gt (gt (gt (gt aea adZ) adY) adX) adW) adV) adU) adT) adS) adR) aaf) aae) aad) aac) aab) aaa) ZZ) ZY) ZX) ZW) ZV) ZU) ZT) ZS) ZR) ZQ) ZP) ZO) ZN) ZM) ZL) ZK
theorem afK:Rows.StepTailsUptoSaid :=
 OpenClaim.holds_of_cond 3 Tryz.f3 rfl rfl rfl rfl rfl rfl rfl ⟨rfl,rfl,rfl,rfl,rfl⟩ rfl rfl rfl rfl rfl (by kernel_rfl) Tryz.func3 aaC
  (agj (by kernel_rfl)) (by unfold Func.isWrapper;first|(rw[agC (by decide +kernel)];kernel_rfl)|(rw[afp (by decide +kernel)];exact⟨rfl,rfl⟩))
  (λos started H enc _ F=>by rw[OpenClaim.pre_eq_preRow];exact lifted os started H enc F)
