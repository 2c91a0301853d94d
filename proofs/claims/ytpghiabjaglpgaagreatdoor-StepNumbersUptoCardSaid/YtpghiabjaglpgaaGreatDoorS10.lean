/- The fixed examples with which the law begins come out true: part 10. No conditions beyond those of the row. -/
import Derived.Test.YtpghiabjaglpgaaGreatDoorS2
import Derived.Test.YtpghiabjaglpgaaGreatDoorS3
import Derived.Test.YtpghiabjaglpgaaGreatDoorS4
import Derived.Test.YtpghiabjaglpgaaGreatDoorS5
import Derived.Test.YtpghiabjaglpgaaGreatDoorS6
import Derived.Test.YtpghiabjaglpgaaGreatDoorS7
import Derived.Test.YtpghiabjaglpgaaGreatDoorS8
import Derived.Test.YtpghiabjaglpgaaGreatDoorS9
set_option linter.all false
noncomputable section
namespace Go.Proofs.YtpghiabjaglpgaaGreatDoor
open Go.AI
def NM:List jE:=[sv,su,ss,sr,sq,so,sm,sk]
def Rs:cU:={ P:=Tryz.prog,ext:=CJ.ext,orc:=fun f args s=>match gv 253 kinds f args s with|some x=>some x|none=>vn NM f args s }
theorem Yy:rD Rs:=by
 refine⟨fun f args s v s' h=>?_⟩
 simp only[Rs]at h
 split at h
 ·rename_i x hx
  cases h
  exact Ca.call f args s v s' hx
 ·obtain⟨k,hm,rfl,rfl,hs,rfl,rfl⟩:=qD h
  simp only[NM,List.mem_cons,List.mem_nil_iff,or_false]at hm
  rcases hm with rfl|rfl|rfl|rfl|rfl|rfl|rfl|rfl
  ·exact du (E:=mX) (fY rfl rfl) Ca (dQ rfl rfl) Yn hs
  ·exact du (E:=mX) (fY rfl rfl) Ca (dQ rfl rfl) Ym hs
  ·exact du (E:=mX) (fY rfl rfl) Ca (dQ rfl rfl) Yl hs
  ·exact du (E:=mX) (fY rfl rfl) Ca (dQ rfl rfl) Yk hs
  ·exact du (E:=mX) (fY rfl rfl) Ca (dQ rfl rfl) Yj hs
  ·exact du (E:=mX) (fY rfl rfl) Ca (dQ rfl rfl) Yi hs
  ·exact du (E:=mX) (fY rfl rfl) Ca (dQ rfl rfl) Yh hs
  ·exact du (E:=mX) (fY rfl rfl) Ca (dQ rfl rfl) Yg hs
theorem Mw:rY Rs 4000 9 [] (.bool true)=true:=by kernel_rfl
theorem Gx(s:S):fB Tryz.prog 9 [] none s ⟨.returned (.bool true),none,s⟩:=iz (E:=Rs) (fY rfl rfl) Yy (dQ rfl rfl) Mw rfl rfl s
end Go.Proofs.YtpghiabjaglpgaaGreatDoor
