/- From the row to deep values: part 2. No conditions beyond those of the row. -/
import Derived.Test.YtpghiabjaglpgaaGreatDoorE1
import Derived.Test.YtpghiabjaglpgaaGreatDoorQ1
import Derived.OpenShut
set_option linter.all false
noncomputable section
namespace Go.Proofs.YtpghiabjaglpgaaGreatDoor.Rd
open Go.AI Go.Proofs Go.Proofs.YtpghiabjaglpgaaGreatDoor
theorem pN{W:World}{g:Nat}{c:Array Value}{e:TypeId}{fz:Nat×Nat}{l:List V}(h:W.heap[g]? = some (.cells c e fz))(ha:ji W.heap.size c.toList=some l):ft (bN W) g=some l:=by
 have hg:g<W.heap.size:=(Array.getElem?_eq_some_iff.1 h).1
 have hst:(bN W).get g=some (.ro (oY W.heap.size c.toList)):=by
  unfold bN
  rw[vk,if_pos hg,h];rfl
 unfold ft
 rw[hst]
 simp only[zB ha]
 try rfl
theorem yS{N:Nat}:∀(l:List Int),ji N (l.map fun z=>Value.int .u64 z)=some (l.map fun z=>V.int .u64 z)
 |[]=>rfl
 |x::r=>by simp only[List.map_cons,ji,Lz,yS r]
structure Kg(W:World):Prop where
 mx:∃ m e fz,W.heap[0]? = some (.cells #[.int .i64 m] e fz)
 syn:∃ te b off e fz,W.heap[1]? = some (.cells #[.iface te (.pointer (some ⟨b,off,none⟩))] e fz)/\b<W.heap.size
 rng:∃ te b off e fz,W.heap[2]? = some (.cells #[.iface te (.pointer (some ⟨b,off,none⟩))] e fz)/\b<W.heap.size
 pow:∃ c e fz,W.heap[5]? = some (.cells c e fz)/\c.toList=Lib.pow10Tab.map fun z=>Value.int .u64 z
theorem KM{W:World}(h:Kg W):sV (bN W):=by
 obtain⟨⟨m,e1,f1,h1⟩,⟨t2,b2,o2,e2,f2,h2,k2⟩,⟨t3,b3,o3,e3,f3,h3,k3⟩,⟨c,e4,f4,h4,k4⟩⟩:=h
 refine⟨⟨[.int .i64 m],pN h1 rfl,rfl⟩,⟨[.iface t2 (.ptr ⟨b2,0,1+o2⟩)],pN h2 (by simp[ji,Lz,k2]),rfl⟩,⟨[.iface t3 (.ptr ⟨b3,0,1+o3⟩)],pN h3 (by simp[ji,Lz,k3]),rfl⟩,pN h4 (by rw[k4];exact yS _)⟩
end Go.Proofs.YtpghiabjaglpgaaGreatDoor.Rd
namespace Go.Proofs.YtpghiabjaglpgaaGreatDoor.Rd
open Go.AI Go.Proofs Go.Proofs.YtpghiabjaglpgaaGreatDoor Go.ChangeShapes
section
variable{W:World}{t:TypeId}{fuel:Nat}{cs:List Value}{ps:List MemPlace}
abbrev Tl(W:World)(fuel:Nat)(t:TypeId)(cs:List Value):Option (DataW Unit×List MemPlace):=DataW.trod (fun _=>()) Tryz.prog W 0 (fun _=>true) false fuel t cs
theorem Tf{e n:Nat}{l:List Int}(ht:Tryz.prog.underlying t=some (.array n e))(he:Tryz.prog.underlying e=some (.int .u64))(hc:Tryz.prog.cellsOf e=1)(hct:Tryz.prog.cellsOf t=n)(h:Tl W fuel t cs=some (.agg (l.map fun z=>.lit (.int .u64 z)),ps)) :
 cs=l.map fun z=>Value.int .u64 z:=by
 obtain⟨xs,m,_,hx,hl,hxl,hat⟩:=DataW.trod_array ht h
 have hm:xs.map (·.1)=l.map fun z=>DataW.lit (.int .u64 z):=by
  have:=congrArg Prod.fst hx
  simp only[DataW.agg.injEq]at this
  exact this.symm
 have hll:l.length=n:=by
  have:=congrArg List.length hm
  simp only[List.length_map]at this
  omega
 rw[hct]at hl
 refine List.ext_getElem (by rw[List.length_map];omega) fun i hi hi'=>?_
 rw[List.length_map]at hi'
 have h1:=hat i (by omega)
 rw[hc,Nat.mul_one,List.drop_eq_getElem_cons hi,List.take_succ_cons,List.take_zero,List.getElem?_eq_getElem (by omega)]at h1
 obtain⟨z,h2,h3,_⟩:=DataW.trod_int he h1
 have h4:(xs.map (·.1))[i]'(by rw[List.length_map];omega)=(l.map fun z=>DataW.lit (H:=Unit) (.int .u64 z))[i]'(by rw[List.length_map];omega):=by
  simp only[hm]
 rw[List.getElem_map,List.getElem_map,h3]at h4
 simp only[DataW.lit.injEq,Lit.int.injEq,true_and]at h4
 rw[List.getElem_map,<- h4]
 simpa using h2
end
section
variable{W:World}{t:TypeId}{fuel:Nat}{cs:List Value}{ps:List MemPlace}
theorem Nk{s:List UInt8}(h:Tl W fuel t []=some (.lit (.string s),ps)):False:=by
 cases fuel with
 |zero=>simp[Tl,DataW.trod]at h
 |succ n =>
  unfold Tl DataW.trod at h
  split at h<;>simp_all
theorem TN{s:List UInt8}(h:Tl W fuel t []=some (.agg [.lit (.string s)],ps)):False:=by
 cases hu:Tryz.prog.underlying t with
 |none =>
  cases fuel with
  |zero=>simp[Tl,DataW.trod]at h
  |succ n=>unfold Tl DataW.trod at h;rw[hu]at h;simp at h
 |some d =>
  cases d with
  |struct fs =>
   obtain⟨xs,n,_,hx,_,hl,hf⟩:=DataW.trod_struct hu h
   have h1:xs.map (·.1)=[.lit (.string s)]:=by
    have:=congrArg Prod.fst hx
    simp only[DataW.agg.injEq]at this
    exact this.symm
   obtain⟨x,rfl⟩:∃ x,xs=[x]:=List.length_eq_one_iff.1 (by have:=congrArg List.length h1;simpa using this)
   have hs:0<fs.size:=by simp at hl;omega
   have h2:=hf 0 fs[0] (Array.getElem?_eq_getElem hs)
   simp only[List.drop_nil,List.take_nil,List.getElem?_cons_zero]at h2
   simp at h1
   exact Nk (W:=W) (s:=s) (ps:=x.2) (by unfold Tl;rw[h2,<- h1])
  |array m e =>
   obtain⟨xs,n,_,hx,_,hl,hf⟩:=DataW.trod_array hu h
   have h1:xs.map (·.1)=[.lit (.string s)]:=by
    have:=congrArg Prod.fst hx
    simp only[DataW.agg.injEq]at this
    exact this.symm
   obtain⟨x,rfl⟩:∃ x,xs=[x]:=List.length_eq_one_iff.1 (by have:=congrArg List.length h1;simpa using this)
   have hs:0<m:=by simp at hl;omega
   have h2:=hf 0 hs
   simp only[List.drop_nil,List.take_nil,List.getElem?_cons_zero]at h2
   simp at h1
   exact Nk (W:=W) (s:=s) (ps:=x.2) (by unfold Tl;rw[h2,<- h1])
  |_ =>
   cases fuel with
   |zero=>simp[Tl,DataW.trod]at h
   |succ n=>unfold Tl DataW.trod at h;rw[hu]at h;simp at h
theorem TB{s:List UInt8}(h:Tl W fuel t cs=some (.ptr (.agg [.lit (.string s)]),ps)):∃ a,cs=[.pointer (some a)]/\a.spot=none/\a.block<W.heap.size/\∃ e,Tryz.prog.underlying t=some (.pointer e):=by
 have key:∃ e,Tryz.prog.underlying t=some (.pointer e):=by
  cases fuel with
  |zero=>simp[Tl,DataW.trod]at h
  |succ n =>
   unfold Tl DataW.trod at h
   split at h<;>simp_all
   all_goals first
    |(simp[Option.bind_eq_some_iff,Option.map_eq_some_iff]at h;done)
    |(split at h<;>simp[Option.bind_eq_some_iff,Option.map_eq_some_iff]at h;done)
    |(repeat' split at h)<;>simp_all[Option.bind_eq_some_iff,Option.map_eq_some_iff]
 obtain⟨e,he⟩:=key
 rcases DataW.trod_pointer he h with⟨_,h1⟩|⟨a,cs',y,n,_,rfl,h1,h2,h3⟩
 ·simp at h1
 ·have hy:y.1=.agg [.lit (.string s)]:=by
   have:=congrArg Prod.fst h1
   simp only[DataW.ptr.injEq]at this
   exact this.symm
  have hne:cs'≠[]:=fun hh=>by
   subst hh
   exact TN (W:=W) (s:=s) (ps:=y.2) (by unfold Tl;rw[h3,<- hy])
  obtain⟨_,hc1,hc2⟩:=World.cells?_some h2
  have h0:0<cs'.length:=List.length_pos_iff.2 hne
  have hcell:=hc2 0 (by omega)
  rw[List.getElem?_eq_getElem h0]at hcell
  obtain⟨c,e',fz,h4,h5,h6⟩:=FH hcell
  refine⟨a,rfl,?_,?_,e,he⟩
  ·simpa[Addr.add]using h5
  ·have:=(Array.getElem?_eq_some_iff.1 h4).1
   simpa[Addr.add]using this
theorem NW{name:String}{ms:Array (String×TypeId)}{s:List UInt8}(ht:Tryz.prog.underlying t=some (.interface ms))(h:Tl W fuel t cs=some (.iface name (.ptr (.agg [.lit (.string s)])),ps)) :
 ∃ u v a,cs=[.iface u v]/\v.cells.toList=[.pointer (some a)]/\a.spot=none/\a.block<W.heap.size/\∃ e,Tryz.prog.underlying u=some (.pointer e):=by
 cases fuel with
 |zero=>simp[Tl,DataW.trod]at h
 |succ n =>
  unfold Tl DataW.trod at h
  rw[ht]at h
  split at h<;>simp_all
  rename_i u v _
  split at h
  ·cases h
  ·simp only[Option.map_eq_some_iff]at h
   obtain⟨y,hy,h1⟩:=h
   simp only[Prod.mk.injEq,DataW.iface.injEq]at h1
   obtain⟨a,h2,h3,h4,h5⟩:=TB (W:=W) (s:=s) (ps:=y.2) (by unfold Tl;rw[hy,<- h1.1.2])
   exact⟨u,v,⟨rfl,rfl⟩,a,h2,h3,h4,h5⟩
  ·cases h
end
end Go.Proofs.YtpghiabjaglpgaaGreatDoor.Rd
namespace Go.Proofs.YtpghiabjaglpgaaGreatDoor.Rd
open Go.AI Go.Proofs Go.Proofs.YtpghiabjaglpgaaGreatDoor Go.ChangeShapes
set_option maxRecDepth 10000
theorem wR{P:Program}{w:World}:∀ {l:List (String×DataW Unit)} {ps:List MemPlace} {n:String} {d:DataW Unit},DataW.LaidVars P w l ps->(n,d)∈l ->
 ∃ g t cs fuel p,P.globalNamed n=some g/\(P.globals[g]?).map (·.type)=some t/\w.var? P n=some cs/\DataW.trod (fun _=>()) P w 0 (fun _=>true) false fuel t cs.toList=some (d,p)/\∀ x∈MemPlace.row ⟨g,0,none⟩ cs.size++p,x∈ps
 |[],ps,n,d,_,h=>by cases h
 |(m,c)::r,ps,n,d,hl,h=>by
  obtain⟨g,t,cs,fuel,p,q,e1,e2,e3,e4,hr,rfl⟩:=hl
  rcases List.mem_cons.1 h with h|h
  ·cases h
   exact⟨g,t,cs,fuel,p,e1,e2,e3,e4,fun x hx=>List.mem_append_left _ hx⟩
  ·obtain⟨g',t',cs',fuel',p',a,b,c',d',e⟩:=wR hr h
   exact⟨g',t',cs',fuel',p',a,b,c',d',fun x hx=>List.mem_append_right _ (e x hx)⟩
theorem zR{P:Program}{w:World}{n:String}{g:Nat}{cs:Array Value}(hg:P.globalNamed n=some g)(h:w.var? P n=some cs):∃ e fz,w.heap[g]? = some (.cells cs e fz):=by
 unfold World.var? at h
 rw[hg]at h
 simp only[Option.bind_some]at h
 split at h
 ·rename_i c e fz hh;cases h;exact⟨e,fz,hh⟩
 ·cases h
theorem Od:Tryz.prog.globalNamed "internal/strconv.uint64pow10" = some 5:=by kernel_rfl
theorem Un:Tryz.prog.globalNamed "strconv.ErrSyntax" = some 1:=by kernel_rfl
theorem Uo:Tryz.prog.globalNamed "strconv.ErrRange" = some 2:=by kernel_rfl
theorem Jz{W:World}{l:List (String×DataW Unit)}{n:String}{g:Nat}{t:TypeId}{name:String}{ms:Array (String×TypeId)}{s:List UInt8}(hl:laidMet Tryz.prog l W)(hm:(n,.iface name (.ptr (.agg [.lit (.string s)])))∈l)
 (hg:Tryz.prog.globalNamed n=some g) (ht:(Tryz.prog.globals[g]?).map (·.type)=some t) (hu:Tryz.prog.underlying t=some (.interface ms)) :
 ∃ te b off e fz,W.heap[g]? = some (.cells #[.iface te (.pointer (some ⟨b,off,none⟩))] e fz)/\b<W.heap.size:=by
 obtain⟨ps,hv,_,hrow⟩:=hl
 obtain⟨g',t',cs,fuel,p,e1,e2,e3,e4,e5⟩:=wR hv hm
 rw[hg]at e1;cases e1
 rw[ht]at e2;cases e2
 obtain⟨e,fz,hh⟩:=zR hg e3
 obtain⟨u,v,a,h1,h2,h3,h4,e',h5⟩:=NW hu e4
 have hcs:cs=#[.iface u v]:=by
  exact Array.ext' h1
 subst hcs
 have hcell:W.cell? ⟨g,0,none⟩=some (.iface u v):=by
  unfold World.cell?
  simp only[hh];rfl
 have hin:MemPlace.cell g 0∈MemPlace.row ⟨g,0,none⟩ (#[Value.iface u v]).size:=by
  unfold MemPlace.row
  exact List.mem_map.2 ⟨0,List.mem_range.2 Nat.zero_lt_one,rfl⟩
 have hin2:=e5 _ (List.mem_append_left _ hin)
 have hok:=(hrow g 0 hin2).2 u v hcell
 have hvp:v=.pointer (some a):=by
  unfold Value.okWide at hok
  rw[h5]at hok
  simp only[]at hok
  unfold Cell.okWide at hok
  rw[h5]at hok
  cases v with
  |agg c=>simp only[Value.cells]at h2;simp[Cell.ok,h5]at hok
  |_=>simp_all[Value.cells]
 subst hvp
 obtain⟨b,off,spot⟩:=a
 simp only at h3 h4
 subst h3
 exact⟨u,b,off,e,fz,hh,h4⟩
theorem Um:(Tryz.prog.globals[5]?).map (·.type)=some 452:=by kernel_rfl
theorem Uk:(Tryz.prog.globals[1]?).map (·.type)=some 402:=by kernel_rfl
theorem Ul:(Tryz.prog.globals[2]?).map (·.type)=some 402:=by kernel_rfl
theorem Ti{W:World}(hl:laidMet Tryz.prog Rows.stepNumbersUptoRow.laid W):∃ te b off e fz,W.heap[1]? = some (.cells #[.iface te (.pointer (some ⟨b,off,none⟩))] e fz)/\b<W.heap.size :=
 Jz hl (n := "strconv.ErrSyntax") (name := "*errors.errorString") (s:=[105,110,118,97,108,105,100,32,115,121,110,116,97,120]) (List.Mem.tail _ (List.Mem.tail _ (List.Mem.tail _ (List.Mem.tail _ (List.Mem.tail _ (List.Mem.head _)))))) Un Uk Tryz.underlying402
theorem Ts{W:World}(hl:laidMet Tryz.prog Rows.stepNumbersUptoRow.laid W):∃ te b off e fz,W.heap[2]? = some (.cells #[.iface te (.pointer (some ⟨b,off,none⟩))] e fz)/\b<W.heap.size :=
 Jz hl (n := "strconv.ErrRange") (name := "*errors.errorString") (s:=[118,97,108,117,101,32,111,117,116,32,111,102,32,114,97,110,103,101]) (List.Mem.tail _ (List.Mem.tail _ (List.Mem.tail _ (List.Mem.tail _ (List.Mem.head _))))) Uo Ul Tryz.underlying402
theorem NL:Rows.laid_internal_strconv_uint64pow10 (H:=Unit)=DataW.agg (Lib.pow10Tab.map fun z=>.lit (.int .u64 z)):=by rfl
theorem TD{W:World}(hl:laidMet Tryz.prog Rows.stepNumbersUptoRow.laid W):∃ c e fz,W.heap[5]? = some (.cells c e fz)/\c.toList=Lib.pow10Tab.map fun z=>Value.int .u64 z:=by
 obtain⟨ps,hv,_,_⟩:=hl
 obtain⟨g',t',cs,fuel,p,e1,e2,e3,e4,e5⟩:=wR hv (n := "internal/strconv.uint64pow10") (d:=Rows.laid_internal_strconv_uint64pow10) (List.Mem.tail _ (List.Mem.tail _ (List.Mem.head _)))
 rw[Od]at e1;cases e1
 rw[Um]at e2;cases e2
 obtain⟨e,fz,hh⟩:=zR Od e3
 rw[NL]at e4
 exact⟨cs,e,fz,hh,Tf Tryz.underlying452 (by kernel_rfl) (by kernel_rfl) (by kernel_rfl) e4⟩
theorem Wv{W:World}(hs:W.ShapedOpen Tryz.prog):∃ m e fz,W.heap[0]? = some (.cells #[.int .i64 m] e fz):=by
 obtain⟨cs,h1,h2,h3⟩:=hs.1 0 #[.int .i64 0] 3 (of_decide_eq_true (by kernel_rfl)) (by kernel_rfl)
 obtain⟨ts,h5,_,h6⟩:=h3 (by kernel_rfl)
 have hts:Tryz.prog.cellTypes Tryz.prog.depth 3=some [3]:=by kernel_rfl
 rw[hts]at h5;cases h5
 have hsz:cs.size=1:=h2
 have h0:cs[0]? = some (cs[0]'(by omega)):=Array.getElem?_eq_getElem (by omega)
 obtain⟨u,h7,h8⟩:=h6 0 _ h0
 cases h7
 unfold Cell.ok at h8
 rw[Tryz.underlying3]at h8
 have hcs:cs=#[cs[0]'(by omega)]:=Array.ext (by simp[hsz]) (fun i hi hi'=>by
  have:i=0:=by omega
  subst this;rfl)
 generalize cs[0]'(by omega)=v at hcs h8
 subst hcs
 cases v<;>simp_all
 all_goals first
  |(obtain⟨rfl,_⟩:=h8;exact⟨_,_,_,h1⟩)
  |exact⟨_,_,_,h1⟩
  |skip
end Go.Proofs.YtpghiabjaglpgaaGreatDoor.Rd
namespace Go.Proofs.YtpghiabjaglpgaaGreatDoor.Rd
open Go.AI Go.Proofs Go.Proofs.YtpghiabjaglpgaaGreatDoor Go.ChangeShapes
theorem Oe{W:World}(hl:laidMet Tryz.prog Rows.stepNumbersUptoRow.laid W)(hs:W.ShapedOpen Tryz.prog):Kg W:=⟨Wv hs,Ti hl,Ts hl,TD hl⟩
end Go.Proofs.YtpghiabjaglpgaaGreatDoor.Rd
