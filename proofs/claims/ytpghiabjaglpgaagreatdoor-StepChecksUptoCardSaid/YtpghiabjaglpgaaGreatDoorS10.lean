/- Lemmas. No conditions. -/
import Derived.Test.YtpghiabjaglpgaaGreatDoorS2
import Derived.Test.YtpghiabjaglpgaaGreatDoorS3
import Derived.Test.YtpghiabjaglpgaaGreatDoorS4
import Derived.Test.YtpghiabjaglpgaaGreatDoorS5
import Derived.Test.YtpghiabjaglpgaaGreatDoorS6
import Derived.Test.YtpghiabjaglpgaaGreatDoorS7
import Derived.Test.YtpghiabjaglpgaaGreatDoorS8
import Derived.Test.YtpghiabjaglpgaaGreatDoorS9
set_option linter.all false
noncomputable section
namespace Go.Proofs.YtpghiabjaglpgaaGreatDoor
open Go.AI
def Si:List lj:=[uy,ux,uw,uv,uu,ut,us,ur]
def Wz:dL:={ P:=Tryz.prog,ext:=FX.ext,orc:=fun f args s=>match ir 253 kinds f args s with|some x=>some x|none=>yw Si f args s }
theorem aft:tN Wz:=by
 refine⟨fun f args s v s' h=>?_⟩;simp only[Wz]at h;split at h
 ·rename_i x b;cases h;exact Ff.call f args s v s' b
 ·obtain⟨k,hm,rfl,rfl,a,rfl,rfl⟩:=sG h;simp only[Si,aff,akR,or_false]at hm;rcases hm with rfl|rfl|rfl|rfl|rfl|rfl|rfl|rfl
  ·exact ec (E:=pi) (gW rfl rfl) Ff (eJ rfl rfl) afd a
  ·exact ec (E:=pi) (gW rfl rfl) Ff (eJ rfl rfl) afc a
  ·exact ec (E:=pi) (gW rfl rfl) Ff (eJ rfl rfl) afb a
  ·exact ec (E:=pi) (gW rfl rfl) Ff (eJ rfl rfl) afa a
  ·exact ec (E:=pi) (gW rfl rfl) Ff (eJ rfl rfl) aeZ a
  ·exact ec (E:=pi) (gW rfl rfl) Ff (eJ rfl rfl) aeY a
  ·exact ec (E:=pi) (gW rfl rfl) Ff (eJ rfl rfl) aeX a
  ·exact ec (E:=pi) (gW rfl rfl) Ff (eJ rfl rfl) aeW a
theorem QG:ui Wz 4000 9 [] (.bool true)=true:=by kernel_rfl
theorem JR(s:S):gv Tryz.prog 9 [] none s ⟨.returned (.bool true),none,s⟩:=jD (E:=Wz) (gW rfl rfl) aft (eJ rfl rfl) QG rfl rfl s
end Go.Proofs.YtpghiabjaglpgaaGreatDoor
