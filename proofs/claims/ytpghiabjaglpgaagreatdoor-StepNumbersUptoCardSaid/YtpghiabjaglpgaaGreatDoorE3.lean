/- From the row to deep values: part 3. No conditions beyond those of the row. -/
import Derived.Test.YtpghiabjaglpgaaGreatDoorT1
import Derived.Test.YtpghiabjaglpgaaGreatDoorQ1
import Derived.Lib.QuietBelow
set_option linter.all false
noncomputable section
namespace Go.Proofs.YtpghiabjaglpgaaGreatDoor
open Go.RowKit Go.Lib
structure oh(w:World):Prop where
 mx:∃ m,w.cell? ⟨0,0,none⟩=some (.int .i64 m)
 syn:∃ ev,w.cell? ⟨1,0,none⟩=some ev/\(ev=.nilIface\/∃ te pe,ev=.iface te pe)
 rng:∃ ev,w.cell? ⟨2,0,none⟩=some ev/\(ev=.nilIface\/∃ te pe,ev=.iface te pe)
 pow:Lib.TabIs Tryz.prog w "internal/strconv.uint64pow10" .u64 Lib.pow10Tab
 sz:6<=w.heap.size
 pw:∀ w',Below w.heap.size w w'->Lib.TabIs Tryz.prog w' "internal/strconv.uint64pow10" .u64 Lib.pow10Tab
theorem oh.below{w w':World}(h:oh w)(b:Below w.heap.size w w'):oh w':=by
 have hs:=h.sz
 refine⟨?_,?_,?_,h.pw w' b,Nat.le_trans h.sz b.size,fun w2 b2=>h.pw w2 (b.trans ⟨b2.os,b2.tape,b2.output,b2.size,fun k hk=>b2.block k (Nat.lt_of_lt_of_le hk b.size)⟩)⟩
 ·obtain⟨m,hm⟩:=h.mx;exact⟨m,(b.cell (p:=⟨0,0,none⟩) (show 0<w.heap.size by omega)).trans hm⟩
 ·obtain⟨m,hm,h2⟩:=h.syn;exact⟨m,(b.cell (p:=⟨1,0,none⟩) (show 1<w.heap.size by omega)).trans hm,h2⟩
 ·obtain⟨m,hm,h2⟩:=h.rng;exact⟨m,(b.cell (p:=⟨2,0,none⟩) (show 2<w.heap.size by omega)).trans hm,h2⟩
theorem Below.up{a b c:World}(h:Below a.heap.size a b)(k:Below b.heap.size b c):Below a.heap.size a c :=
 h.trans ⟨k.os,k.tape,k.output,k.size,fun i hi=>k.block i (Nat.lt_of_lt_of_le hi h.size)⟩
theorem qf(old new:List UInt8):∀(k:Nat) (s:List UInt8),(Lib.replaceK old new k s).length<=s.length+k*new.length
 |0,s=>by simp[Lib.replaceK]
 |k+1,s=>by
  rw[Lib.replaceK]
  split
  ·omega
  ·have ih:=qf old new k (s.drop ((Lib.index s old).toNat+old.length))
   have hi:=Lib.index_le s old
   simp only[List.length_append,List.length_take,List.length_drop]at ih ⊢
   rw[Nat.succ_mul]
   omega
theorem DV(s old new:List UInt8):(Lib.replace s old new 1).length<=s.length+new.length:=by
 unfold Lib.replace
 split
 ·omega
 ·have h1:=qf old new (Lib.replaceNum s old 1) s
  have h2:Lib.replaceNum s old 1<=1:=by unfold Lib.replaceNum;split<;>simp_all;omega
  have h3:Lib.replaceNum s old 1*new.length<=1*new.length:=Nat.mul_le_mul_right _ h2
  omega
theorem CQ(n:Int)(h0:-9223372036854775808<=n)(h1:n<=9223372036854775807)(w:World)(hw:oh w) :
 Calls Tryz.prog 362 #[.int .i64 n] w fun e w'=>e=.returned (.string (Ru n))/\Below w.heap.size w w':=by
 go_enter Tryz.func362,Tryz.ntmps362
 go_wp2_with (first
  |(go_at_call 373;refine(Tryz.strconv_Itoa n h0 h1 _ hw.pow).mono ?_;rintro e W1 ⟨rfl,k,os,rfl⟩))
 have hb1:Below w.heap.size w (Go.Sort.grow (w.drewN k) os):=below_regrown w _ os
 have hw1:=hw.below hb1
 obtain⟨m,hm⟩:=hw1.mx
 have hlen:=Lib.itoa_length_le n h0 h1
 have hsz:(ByteArray.mk (Lib.itoa n).toArray).size=(Lib.itoa n).length:=by simp[ByteArray.size]
 have hcb:=Lib.countB_mul_le (ByteArray.mk #[45]) (by decide) _ (ByteArray.mk (Lib.itoa n).toArray) (Nat.le_refl _)
 refine(Tryz.strings_Replace ⟨(Lib.itoa n).toArray⟩ ⟨#[45]⟩ ⟨#[126]⟩ 1 m _ (by omega) hm (by decide) ?_).mono ?_
 ·have:(ByteArray.mk #[126]).size=1:=rfl
  have h45:(ByteArray.mk #[45]).size=1:=rfl
  rw[this];rw[h45]at hcb;omega
 rintro e W2 ⟨rfl,hb2⟩
 go_wp2
 go_ret
 exact⟨rfl,Below.up hb1 hb2⟩
theorem Ce(s:ByteArray)(hs:s.size<=1000)(w:World)(hw:oh w) :
 Calls Tryz.prog 355 #[.string s] w fun e w'=>e=.returned (.tuple #[.int .i64 (pj s).1,.int .i64 (pj s).2])/\Below w.heap.size w w':=by
 obtain⟨m,hm⟩:=hw.mx
 have hcb:=Lib.countB_mul_le (ByteArray.mk #[126]) (by decide) _ s (Nat.le_refl _)
 have h126:(ByteArray.mk #[126]).size=1:=rfl
 have h45:(ByteArray.mk #[45]).size=1:=rfl
 rw[h126]at hcb
 go_enter Tryz.func355,Tryz.ntmps355
 go_wp2_with (first
  |(go_at_call 361;refine(Tryz.strings_Replace s ⟨#[126]⟩ ⟨#[45]⟩ 1 m _ (by omega) hm (by decide) (by rw[h45];omega)).mono ?_;rintro e W1 ⟨rfl,hb1⟩))
 have hw1:=hw.below hb1
 have hrl:=DV s.data.toList [126] [45]
 have hrs:(zo s).size=(Lib.replace s.data.toList [126] [45] 1).length:=by simp[zo,ByteArray.size]
 have hsl:s.size=s.data.toList.length:=by rw[Array.length_toList];rfl
 have hr2:(zo s).size<=1001:=by rw[hrs];have:[(45:UInt8)].length=1:=rfl;omega
 change Calls Tryz.prog 360 #[.string (zo s)] W1 _
 rcases ha:Lib.atoiAll (zo s).data.toList with v|_|_
 ·obtain⟨g0,g1⟩:=Lib.atoiAll_bounds ha
  refine(Tryz.strconv_Atoi_ok (zo s) (by omega) v ha W1).mono ?_
  rintro e W2 ⟨rfl,hb2⟩
  have hb2:Below W1.heap.size W1 W2:=by
   rcases hb2 with rfl|⟨t,rfl⟩
   ·exact Below.refl _ _
   ·exact Lib.bytesWorld_below _ _ _
  have hw2:=hw1.below hb2
  go_wp2_with (first
   |(go_at_call 362;refine(CQ v g0 g1 _ hw2).mono ?_;rintro e W3 ⟨rfl,hb3⟩))
  ·rename_i hq
   go_ret2
   refine⟨?_,Below.up (Below.up hb1 hb2) hb3⟩
   have hq2:((Ru v).toList==s.toList)=false:=by simpa using hq
   simp only[pj,ha];rw[hq2];rfl
  ·rename_i hq
   have hq2:((Ru v).toList==s.toList)=true:=by simpa using hq
   go_wp2
   go_ret2
   refine⟨?_,Below.up (Below.up hb1 hb2) hb3⟩
   simp only[pj,ha];rw[hq2];rfl
 ·obtain⟨ev,hv,hev⟩:=hw1.syn
  refine(show Calls Tryz.prog 360 #[.string (zo s)] W1 _ from Any.strconv_Atoi_syntax Tryz.laysC172 (zo s) (by omega) ha ev W1 hv hev).mono ?_
  rintro e W2 ⟨N,rfl,hN,hcell,hb2⟩
  go_wp2
  go_ret2
  refine⟨?_,Below.up hb1 hb2⟩
  simp only[pj,ha]
  rfl
 ·obtain⟨ev,hv,hev⟩:=hw1.rng
  refine(Tryz.strconv_Atoi_range (zo s) (by omega) ha ev W1 hv hev).mono ?_
  rintro e W2 ⟨N,rfl,hN,hcell,hb2⟩
  go_wp2
  go_ret2
  refine⟨?_,Below.up hb1 hb2⟩
  simp only[pj,ha]
  rfl
end Go.Proofs.YtpghiabjaglpgaaGreatDoor
