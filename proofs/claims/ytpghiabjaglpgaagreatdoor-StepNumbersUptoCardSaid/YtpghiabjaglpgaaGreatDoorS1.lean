/- The fixed examples with which the law begins come out true: part 1. No conditions beyond those of the row. -/
import Derived.Test.YtpghiabjaglpgaaGreatDoorA6
import Derived.Test.YtpghiabjaglpgaaGreatDoorChecked
import Derived.KernelRfl
set_option linter.all false
noncomputable section
namespace Go.Proofs.YtpghiabjaglpgaaGreatDoor
open Go.AI
def CJ:cU:={ P:=Tryz.prog,ext:=fun f=>bif Nat.beq f 363 then some .indexByte else bif Nat.beq f 380 then some .count else none,orc:=fun _ _ _=>none }
def kinds:List (List Nat×V):=[([102],.int .i64 2),([111],.int .i64 2),([120],.int .i64 2)]
def mX:cU:={ P:=Tryz.prog,ext:=CJ.ext,orc:=gv 253 kinds }
theorem mixed:Tryz.prog.follows .mixedOrders=true:=by kernel_rfl
theorem UY:(Tryz.f363.name == "runtime.NumGoroutine")=false/\Extern.findNext Tryz.f363=none/\Extern.find Tryz.f363=some HV.indexByte.entry:=⟨by kernel_rfl,by kernel_rfl,by kernel_rfl⟩
theorem UZ:(Tryz.f380.name == "runtime.NumGoroutine")=false/\Extern.findNext Tryz.f380=none/\Extern.find Tryz.f380=some HV.count.entry:=⟨by kernel_rfl,by kernel_rfl,by kernel_rfl⟩
theorem fY{E:cU}(hP:E.P=Tryz.prog)(hx:E.ext=CJ.ext):gZ E:=by
 refine⟨fun f k fn h hf _=>?_⟩
 rw[hx]at h
 rw[hP]at hf
 simp only[CJ]at h
 cases h1:Nat.beq f 363 with
 |true =>
  rw[h1]at h;cases h
  have:=Nat.eq_of_beq_eq_true h1;subst this
  rw[Tryz.func363]at hf;cases hf
  exact UY
 |false =>
  rw[h1]at h
  cases h2:Nat.beq f 380 with
  |true =>
   rw[h2]at h;cases h
   have:=Nat.eq_of_beq_eq_true h2;subst this
   rw[Tryz.func380]at hf;cases hf
   exact UZ
  |false=>rw[h2]at h;cases h
theorem dQ{E:cU}(hP:E.P=Tryz.prog)(hx:E.ext=CJ.ext):dH E:=Fi (fY hP hx) (by rw[hP];exact mixed)
theorem TI:rD CJ:=⟨fun _ _ _ _ _ h=>by cases h⟩
theorem WS:rY CJ 4000 253 [.str [102]] (.int .i64 2)=true:=by kernel_rfl
theorem WR:rY CJ 4000 253 [.str [111]] (.int .i64 2)=true:=by kernel_rfl
theorem WQ:rY CJ 4000 253 [.str [120]] (.int .i64 2)=true:=by kernel_rfl
theorem Ca:rD mX:=by
 refine⟨fun f args s v s' h=>?_⟩
 obtain⟨rfl,x,rfl,hm,rfl⟩:=wS h
 simp only[kinds,List.mem_cons,List.mem_nil_iff,or_false,Prod.mk.injEq]at hm
 rcases hm with⟨rfl,rfl⟩|⟨rfl,rfl⟩|⟨rfl,rfl⟩
 ·exact iz (fY rfl rfl) TI (dQ rfl rfl) WS rfl rfl _
 ·exact iz (fY rfl rfl) TI (dQ rfl rfl) WR rfl rfl _
 ·exact iz (fY rfl rfl) TI (dQ rfl rfl) WQ rfl rfl _
end Go.Proofs.YtpghiabjaglpgaaGreatDoor
