/- Lemmas. No conditions. -/
import Derived.Test.YtpghiabjaglpgaaGreatDoorA6
import Derived.Test.YtpghiabjaglpgaaGreatDoorChecked
import Derived.KernelRfl
set_option linter.all false
noncomputable section
namespace Go.Proofs.YtpghiabjaglpgaaGreatDoor
open Go.AI
def FX:dL:={ P:=Tryz.prog,ext:=fun f=>bif Nat.beq f 363 then some .indexByte else bif Nat.beq f 380 then some .count else none,orc:=fun _ _ _=>none }
def kinds:List (List Nat×V):=[([102],.int .i64 2),([111],.int .i64 2),([120],.int .i64 2)]
def pi:dL:={ P:=Tryz.prog,ext:=FX.ext,orc:=ir 253 kinds }
theorem mixed:Tryz.prog.follows .mixedOrders=true:=by kernel_rfl
theorem aaO:(Tryz.f363.name == "runtime.NumGoroutine")=false/\Extern.findNext Tryz.f363=none/\Extern.find Tryz.f363=some Lv.indexByte.entry:=⟨by kernel_rfl,by kernel_rfl,by kernel_rfl⟩
theorem aaP:(Tryz.f380.name == "runtime.NumGoroutine")=false/\Extern.findNext Tryz.f380=none/\Extern.find Tryz.f380=some Lv.count.entry:=⟨by kernel_rfl,by kernel_rfl,by kernel_rfl⟩
theorem gW{E:dL}(d:E.P=Tryz.prog)(e:E.ext=FX.ext):jc E:=by
 refine⟨fun f k fn h a _=>?_⟩;rw[e]at h;rw[d]at a;simp only[FX]at h;cases b:Nat.beq f 363 with
 |true =>rw[b]at h;cases h;have:=abr b;subst this;rw[Tryz.func363]at a;cases a;exact aaO
 |false =>
  rw[b]at h;cases c:Nat.beq f 380 with
  |true =>rw[c]at h;cases h;have:=abr c;subst this;rw[Tryz.func380]at a;cases a;exact aaP
  |false=>rw[c]at h;cases h
theorem eJ{E:dL}(a:E.P=Tryz.prog)(b:E.ext=FX.ext):eu E:=IE (gW a b) (by rw[a];exact mixed)
theorem Zm:tN FX:=⟨fun _ _ _ _ _ h=>by cases h⟩
theorem ady:ui FX 4000 253 [.str [102]] (.int .i64 2)=true:=by kernel_rfl
theorem adx:ui FX 4000 253 [.str [111]] (.int .i64 2)=true:=by kernel_rfl
theorem adw:ui FX 4000 253 [.str [120]] (.int .i64 2)=true:=by kernel_rfl
theorem Ff:tN pi:=by
 refine⟨fun f args s v s' h=>?_⟩;obtain⟨rfl,x,rfl,hm,rfl⟩:=Ah h;simp only[kinds,aff,akR,or_false,ajr]at hm;rcases hm with⟨rfl,rfl⟩|⟨rfl,rfl⟩|⟨rfl,rfl⟩
 ·exact jD (gW rfl rfl) Zm (eJ rfl rfl) ady rfl rfl _
 ·exact jD (gW rfl rfl) Zm (eJ rfl rfl) adx rfl rfl _
 ·exact jD (gW rfl rfl) Zm (eJ rfl rfl) adw rfl rfl _
end Go.Proofs.YtpghiabjaglpgaaGreatDoor
