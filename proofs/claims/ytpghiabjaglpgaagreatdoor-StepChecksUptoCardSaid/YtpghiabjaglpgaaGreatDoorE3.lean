/- Lemmas. No conditions. -/
import Derived.Test.YtpghiabjaglpgaaGreatDoorT1
import Derived.Test.YtpghiabjaglpgaaGreatDoorQ1
import Derived.Lib.QuietBelow
set_option linter.all false
noncomputable section
namespace Go.Proofs.YtpghiabjaglpgaaGreatDoor
open Go.RowKit Go.Lib
structure pZ(w:World):Prop where
 mx:∃ m,w.cell? ⟨0,0,none⟩=some (.int .i64 m)
 syn:∃ ev,w.cell? ⟨1,0,none⟩=some ev/\(ev=.nilIface\/∃ te pe,ev=.iface te pe)
 rng:∃ ev,w.cell? ⟨2,0,none⟩=some ev/\(ev=.nilIface\/∃ te pe,ev=.iface te pe)
 pow:Lib.TabIs Tryz.prog w "internal/strconv.uint64pow10" .u64 Lib.pow10Tab
 sz:6<=w.heap.size
 pw:∀ w',Below w.heap.size w w'->Lib.TabIs Tryz.prog w' "internal/strconv.uint64pow10" .u64 Lib.pow10Tab
def pZ.below{w w':World}(h:pZ w)(b:Below w.heap.size w w'):pZ w':=by
 have hs:=h.sz;refine⟨?_,?_,?_,h.pw w' b,Nat.le_trans h.sz b.size,fun d a=>h.pw d (b.trans ⟨a.os,a.tape,a.output,a.size,fun k hk=>a.block k (Nat.lt_of_lt_of_le hk b.size)⟩)⟩
 ·obtain⟨m,hm⟩:=h.mx;exact⟨m,(b.cell (p:=⟨0,0,none⟩) (show 0<w.heap.size by omega)).trans hm⟩
 ·obtain⟨m,hm,c⟩:=h.syn;exact⟨m,(b.cell (p:=⟨1,0,none⟩) (show 1<w.heap.size by omega)).trans hm,c⟩
 ·obtain⟨m,hm,c⟩:=h.rng;exact⟨m,(b.cell (p:=⟨2,0,none⟩) (show 2<w.heap.size by omega)).trans hm,c⟩
def Below.up{a b c:World}(h:Below a.heap.size a b)(k:Below b.heap.size b c):Below a.heap.size a c :=
 h.trans ⟨k.os,k.tape,k.output,k.size,fun i hi=>k.block i (Nat.lt_of_lt_of_le hi h.size)⟩
def sh(old new:List UInt8):∀(k:Nat) (s:List UInt8),(Lib.replaceK old new k s).length<=s.length+k*new.length
 |0,s=>by simp[Lib.replaceK]
 |k+1,s=>by
  rw[Lib.replaceK];split
  ·omega
  ·have ih:=sh old new k (s.drop ((Lib.index s old).toNat+old.length));have hi:=Lib.index_le s old;simp only[List.length_append,List.length_take,List.length_drop]at ih ⊢;rw[Nat.succ_mul];omega
def Hs(s old new:List UInt8):(Lib.replace s old new 1).length<=s.length+new.length:=by
 unfold Lib.replace;split
 ·omega
 ·have h1:=sh old new (Lib.replaceNum s old 1) s;have a:Lib.replaceNum s old 1<=1:=by unfold Lib.replaceNum;split<;>simp_all;omega
  have h3:Lib.replaceNum s old 1*new.length<=1*new.length:=Nat.mul_le_mul_right _ a;omega
def Gf(n:Int)(h0:-9223372036854775808<=n)(g:n<=9223372036854775807)(w:World)(h:pZ w) :
 Calls Tryz.prog 362 #[.int .i64 n] w fun e w'=>e=.returned (.string (WB n))/\Below w.heap.size w w':=by
 go_enter Tryz.func362,Tryz.ntmps362
 go_wp2_with (first
  |(go_at_call 373;refine(Tryz.strconv_Itoa n h0 g _ h.pow).mono ?_;rintro e W1 ⟨rfl,k,os,rfl⟩))
 have a:Below w.heap.size w (Go.Sort.grow (w.drewN k) os):=below_regrown w _ os;have b:=h.below a;obtain⟨m,hm⟩:=b.mx;have hlen:=Lib.itoa_length_le n h0 g;have hsz:(ByteArray.mk (Lib.itoa n).toArray).size=(Lib.itoa n).length:=by simp[ByteArray.size]
 have c:=Lib.countB_mul_le (ByteArray.mk #[45]) (by decide) _ (ByteArray.mk (Lib.itoa n).toArray) (Nat.le_refl _);refine(Tryz.strings_Replace ⟨(Lib.itoa n).toArray⟩ ⟨#[45]⟩ ⟨#[126]⟩ 1 m _ (by omega) hm (by decide) ?_).mono ?_
 ·have:(ByteArray.mk #[126]).size=1:=rfl;have d:(ByteArray.mk #[45]).size=1:=rfl;rw[this];rw[d]at c;omega
 rintro e W2 ⟨rfl,f⟩
 go_wp2
 go_ret
 exact⟨rfl,Below.up a f⟩
def Fk(s:ByteArray)(hs:s.size<=1000)(w:World)(q:pZ w) :
 Calls Tryz.prog 355 #[.string s] w fun e w'=>e=.returned (.tuple #[.int .i64 (qT s).1,.int .i64 (qT s).2])/\Below w.heap.size w w':=by
 obtain⟨m,hm⟩:=q.mx;have j:=Lib.countB_mul_le (ByteArray.mk #[126]) (by decide) _ s (Nat.le_refl _);have h:(ByteArray.mk #[126]).size=1:=rfl;have k:(ByteArray.mk #[45]).size=1:=rfl;rw[h]at j
 go_enter Tryz.func355,Tryz.ntmps355
 go_wp2_with (first
  |(go_at_call 361;refine(Tryz.strings_Replace s ⟨#[126]⟩ ⟨#[45]⟩ 1 m _ (by omega) hm (by decide) (by rw[k];omega)).mono ?_;rintro e W1 ⟨rfl,b⟩))
 have d:=q.below b;have hrl:=Hs s.data.toList [126] [45];have l:(Cq s).size=(Lib.replace s.data.toList [126] [45] 1).length:=by simp[Cq,ByteArray.size]
 have hsl:s.size=s.data.toList.length:=by rw[Array.length_toList];rfl
 have hr2:(Cq s).size<=1001:=by rw[l];have:[(45:UInt8)].length=1:=rfl;omega
 change Calls Tryz.prog 360 #[.string (Cq s)] W1 _;rcases c:Lib.atoiAll (Cq s).data.toList with v|_|_
 ·obtain⟨g0,r⟩:=Lib.atoiAll_bounds c;refine(Tryz.strconv_Atoi_ok (Cq s) (by omega) v c W1).mono ?_;rintro e W2 ⟨rfl,a⟩;have a:Below W1.heap.size W1 W2:=by
   rcases a with rfl|⟨t,rfl⟩
   ·exact Below.refl _ _
   ·exact Lib.bytesWorld_below _ _ _
  have n:=d.below a
  go_wp2_with (first
   |(go_at_call 362;refine(Gf v g0 r _ n).mono ?_;rintro e W3 ⟨rfl,i⟩))
  ·rename_i o
   go_ret2
   refine⟨?_,Below.up (Below.up b a) i⟩;have f:((WB v).toList==s.toList)=false:=by simpa using o
   simp only[qT,c];rw[f];rfl
  ·rename_i o;have f:((WB v).toList==s.toList)=true:=by simpa using o
   go_wp2
   go_ret2
   refine⟨?_,Below.up (Below.up b a) i⟩;simp only[qT,c];rw[f];rfl
 ·obtain⟨ev,p,g⟩:=d.syn;refine(show Calls Tryz.prog 360 #[.string (Cq s)] W1 _ from Any.strconv_Atoi_syntax Tryz.laysC172 (Cq s) (by omega) c ev W1 p g).mono ?_;rintro e W2 ⟨N,rfl,u,hcell,a⟩
  go_wp2
  go_ret2
  refine⟨?_,Below.up b a⟩;simp only[qT,c];rfl
 ·obtain⟨ev,p,g⟩:=d.rng;refine(Tryz.strconv_Atoi_range (Cq s) (by omega) c ev W1 p g).mono ?_;rintro e W2 ⟨N,rfl,u,hcell,a⟩
  go_wp2
  go_ret2
  refine⟨?_,Below.up b a⟩;simp only[qT,c];rfl
end Go.Proofs.YtpghiabjaglpgaaGreatDoor
