/- From the row to deep values: part 4. No conditions beyond those of the row. -/
import Derived.Test.YtpghiabjaglpgaaGreatDoorE3
set_option linter.all false
noncomputable section
namespace Go.AI
open Go.RowKit
theorem pV{P:Program}{f:FuncId}{args:List V}{s:S}{v:V} (he:∀ ρ w ys,HR ρ s w->aN ρ args=some ys->(∀ w,(callFunc f ys.toArray).run P w=.ok (.enter f ys.toArray) w) /\
 Calls P f ys.toArray w fun e w'=>∃ y,e=.returned y/\(∀ ρ,den ρ v=some y)/\Below w.heap.size w w'):fB P f args none s ⟨.returned v,none,s⟩:=by
 intro ρ w ys hr hd
 obtain⟨h1,h2⟩:=he ρ w ys hr hd
 refine⟨h1,fun cs hup=>?_⟩
 obtain⟨e,w',fr,⟨y,rfl,h3,h4⟩,h5,h6,h7⟩:=h2 cs
 exact⟨ρ,w',hr.frame h4.size h4.block,⟨ρ.le_refl,h4.size,h4.os,h4.tape,h4.output,fun b hb _=>h4.block b hb,fun f v l e _=>⟨f,v,l,e,rfl,id⟩⟩,fr,.returned y,h3 ρ,h5,h6,h7⟩
theorem kJ{ρ:aB}{s:S}{w:World}(h:HR ρ s w){g:Nat}{cs:List V}(hc:ft s g=some cs):∃(c:Array Value) (e:TypeId) (fz:Nat×Nat),w.heap[g]? = some (.cells c e fz)/\aN ρ cs=some c.toList:=by
 unfold ft at hc
 split at hc
 ·rename_i vers hg
  split at hc
  ·rename_i u hu
   cases hc
   obtain⟨hm,hv⟩:=eb hu
   obtain⟨⟨l,c,e,fz,h1,h2,h3,h4⟩,l',c',e',fz',g1,g2,g3,g4⟩:=h.blk _ _ hg u hm
   rw[h1]at g1;cases g1
   rw[g2,g3]at h2;cases h2
   obtain⟨k1,k2⟩:=g4 hv
   refine⟨c,e,fz,g3,jB (by rw[<- k2];simp) fun i x hx=>?_⟩
   obtain⟨y,hy,hy'⟩:=h4 i x hx
   refine⟨y,hy,?_⟩
   rw[k1]at hy'
   rw[Array.getElem?_toList]
   simpa using hy'
  ·cases hc
 ·cases hc
end Go.AI
namespace Go.Proofs.YtpghiabjaglpgaaGreatDoor
open Go.AI Go.RowKit
theorem OP{w:World}{g:Nat}{c:Array Value}{e:TypeId}{fz:Nat×Nat}{v:Value}(h:w.heap[g]? = some (.cells c e fz))(hc:c.toList=[v]):w.cell? ⟨g,0,none⟩=some v:=by
 unfold World.cell?
 simp only[h]
 have:c[0]? = some v:=by rw[<- Array.getElem?_toList,hc];rfl
 simpa using this
theorem Ou{ρ:aB}{s:S}{w:World}(h:HR ρ s w){g:Nat}(hc:∃ c,ft s g=some c/\vt c=true):∃ ev,w.cell? ⟨g,0,none⟩=some ev/\(ev=.nilIface\/∃ te pe,ev=.iface te pe):=by
 obtain⟨c,h1,h2⟩:=hc
 obtain⟨ca,e,fz,h3,h4⟩:=kJ h h1
 unfold vt at h2
 split at h2
 ·simp only[aN,den]at h4
  exact⟨_,OP h3 (Option.some.inj h4).symm,.inl rfl⟩
 ·rename_i t v
  obtain⟨y,q,k1,k2,k3⟩:=aM.1 h4
  simp only[aN]at k2;cases k2
  simp only[den]at k1
  split at k1
  ·rename_i x hx;cases k1;exact⟨_,OP h3 k3,.inr ⟨_,_,rfl⟩⟩
  ·cases k1
 ·cases h2
theorem Ry(ρ:aB):aN ρ DZ=some (Lib.pow10Tab.map fun z=>Value.int .u64 z):=by rfl
theorem GN{ρ:aB}{s:S}{w:World}(h:HR ρ s w)(hg:sV s):oh w:=by
 have htab:∀ w':World,w'.heap[5]? = w.heap[5]?->Lib.TabIs Tryz.prog w' "internal/strconv.uint64pow10" .u64 Lib.pow10Tab:=by
  intro w' hw'
  obtain⟨c,e,fz,h1,h2⟩:=kJ h hg.pow
  rw[Ry]at h2
  unfold Lib.TabIs World.var?
  have hn:Tryz.prog.globalNamed "internal/strconv.uint64pow10" = some 5:=by kernel_rfl
  rw[hn]
  simp only[Option.bind,hw',h1]
  rw[Option.some.inj h2]
 have hsz:6<=w.heap.size:=by
  obtain⟨ca,e,fz,h3,_⟩:=kJ h hg.pow
  have:=(Array.getElem?_eq_some_iff.1 h3).1
  omega
 refine⟨?_,Ou h hg.syn,Ou h hg.rng,htab w rfl,hsz,fun w' b=>htab w' (b.block 5 (by omega))⟩
 obtain⟨c,h1,h2⟩:=hg.mx
 obtain⟨ca,e,fz,h3,h4⟩:=kJ h h1
 unfold Jo at h2
 split at h2
 ·simp only[aN,den]at h4
  exact⟨_,OP h3 (Option.some.inj h4).symm⟩
 ·cases h2
theorem Cf{args:List V}{s:S}{v:V}{s':S}(h:ww args s=some (v,s')):fB Tryz.prog 355 args none s ⟨.returned v,none,s'⟩:=by
 unfold ww at h
 split at h
 ·rename_i l
  split at h
  ·rename_i hg
   cases h
   refine pV fun ρ w ys hr hd=>?_
   simp only[aN,den]at hd
   cases hd
   refine⟨fun w=>enters_of Tryz.func355 (by kernel_rfl) rfl _ w,(Ce (ay l) ?_ w (GN hr hg.1)).mono ?_⟩
   ·have:(ay l).size=l.length:=by unfold ay ByteArray.size;simp
    omega
   ·rintro e w' ⟨rfl,hb⟩
    exact⟨_,rfl,fun ρ=>rfl,hb⟩
  ·cases h
 ·cases h
theorem EE(c:Nat)(hc:c<256):∀(l:List Nat) (n:Int),0<=n->(∀ x∈l,x<256)->uN l c n=if Lib.indexByte (l.map UInt8.ofNat) (UInt8.ofNat c)=-1 then -1 else Lib.indexByte (l.map UInt8.ofNat) (UInt8.ofNat c)+n
 |[],n,_,_=>rfl
 |x::l,n,hn,h=>by
  have ih:=EE c hc l (n+1) (by omega) fun y hy=>h y (List.mem_cons_of_mem _ hy)
  have hx:=h x List.mem_cons_self
  have hge:=Lib.indexByte_ge (l.map UInt8.ofNat) (UInt8.ofNat c)
  have he:(UInt8.ofNat x==UInt8.ofNat c)=Nat.beq x c:=by
   rw[Bool.eq_iff_iff]
   simp only[beq_iff_eq,Nat.beq_eq]
   constructor
   ·intro h
    have:=congrArg UInt8.toNat h
    simp at this;omega
   ·rintro rfl;rfl
  simp only[uN,List.map_cons,Lib.indexByte,he]
  cases hb:Nat.beq x c with
  |true=>simp
  |false =>
   simp only[cond_false,Bool.false_eq_true,if_false]
   rw[ih]
   by_cases hq:Lib.indexByte (l.map UInt8.ofNat) (UInt8.ofNat c)=-1
   ·simp[hq]
   ·have h1:(Lib.indexByte (l.map UInt8.ofNat) (UInt8.ofNat c)==-1)=false:=by simpa using hq
    rw[if_neg hq,h1]
    simp only[Bool.false_eq_true,if_false]
    rw[if_neg (by omega)]
    omega
theorem Cu{args:List V}{s:S}{v:V}{s':S}(h:wY args s=some (v,s')):fB Tryz.prog 351 args none s ⟨.returned v,none,s'⟩:=by
 unfold wY at h
 split at h
 ·rename_i l c
  cases hb:Nat.blt c 256&&l.all (fun x=>Nat.blt x 256)with
  |false=>rw[hb,cond_false]at h;cases h
  |true =>
   rw[hb,cond_true]at h
   cases h
   simp only[Bool.and_eq_true,List.all_eq_true]at hb
   have hc:c<256:=Nat.lt_of_succ_le (Nat.le_of_ble_eq_true hb.1)
   have hl:∀ x∈l,x<256:=fun x hx=>Nat.lt_of_succ_le (Nat.le_of_ble_eq_true (hb.2 x hx))
   refine pV fun ρ w ys hr hd=>?_
   simp only[aN,den]at hd
   cases hd
   refine⟨fun w=>enters_of Tryz.func351 (by kernel_rfl) rfl _ w,(Tryz.strings_IndexByte (ay l) (Int.ofNat c) w).mono ?_⟩
   rintro e w' ⟨rfl,rfl⟩
   refine⟨_,rfl,fun ρ=>?_,Below.refl _ _⟩
   have e1:(ay l).data.toList=l.map UInt8.ofNat:=by simp[ay]
   have e2:uN l c 0=Lib.indexByte (l.map UInt8.ofNat) (UInt8.ofNat c):=by
    rw[EE c hc l 0 (Int.le_refl _) hl]
    split
    ·rename_i h;exact h.symm
    ·omega
   rw[e1]
   show some (Value.int .i64 (uN l c 0))=_
   rw[e2]
   rfl
 ·cases h
end Go.Proofs.YtpghiabjaglpgaaGreatDoor
