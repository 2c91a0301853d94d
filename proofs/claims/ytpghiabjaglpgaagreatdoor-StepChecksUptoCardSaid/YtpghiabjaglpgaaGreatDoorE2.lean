/- Lemmas. No conditions. -/
import Derived.Test.YtpghiabjaglpgaaGreatDoorE1
import Derived.Test.YtpghiabjaglpgaaGreatDoorQ1
import Derived.OpenShut
set_option linter.all false
noncomputable section
namespace Go.Proofs.YtpghiabjaglpgaaGreatDoor.Rd
open Go.AI Go.Proofs Go.Proofs.YtpghiabjaglpgaaGreatDoor
def rH{W:World}{g:Nat}{c:Array Value}{e:TypeId}{fz:Nat×Nat}{l:List V}(h:W.heap[g]? = some (.cells c e fz))(a:kB W.heap.size c.toList=some l):gn (cw W) g=some l:=by
 have b:g<W.heap.size:=(ajg.1 h).1;have hst:(cw W).get g=some (.ro (qL W.heap.size c.toList)):=by unfold cw;rw[yo,aeM b,h];rfl
 unfold gn;rw[hst];simp only[Cz a];try rfl
def BV{N:Nat}:∀(l:List Int),kB N (l.map fun z=>Value.int .u64 z)=some (l.map fun z=>V.int .u64 z)
 |[]=>rfl
 |x::r=>by simp only[aeL,kB,PG,BV r]
structure Od(W:World):Prop where
 mx:∃ m e fz,W.heap[0]? = some (.cells #[.int .i64 m] e fz)
 syn:∃ te b off e fz,W.heap[1]? = some (.cells #[.iface te (.pointer (some ⟨b,off,none⟩))] e fz)/\b<W.heap.size
 rng:∃ te b off e fz,W.heap[2]? = some (.cells #[.iface te (.pointer (some ⟨b,off,none⟩))] e fz)/\b<W.heap.size
 pow:∃ c e fz,W.heap[5]? = some (.cells c e fz)/\c.toList=Lib.pow10Tab.map fun z=>Value.int .u64 z
def ON{W:World}(h:Od W):uW (cw W):=by obtain⟨⟨m,e1,f1,a⟩,⟨b,d,e,e2,f2,f,g⟩,⟨i,j,k,e3,f3,l,n⟩,⟨c,e4,f4,o,p⟩⟩:=h;refine⟨⟨[.int .i64 m],rH a rfl,rfl⟩,⟨[.iface b (.ptr ⟨d,0,1+e⟩)],rH f (by simp[kB,PG,g]),rfl⟩,⟨[.iface i (.ptr ⟨j,0,1+k⟩)],rH l (by simp[kB,PG,n]),rfl⟩,rH o (by rw[p];exact BV _)⟩
end Go.Proofs.YtpghiabjaglpgaaGreatDoor.Rd
namespace Go.Proofs.YtpghiabjaglpgaaGreatDoor.Rd
open Go.AI Go.Proofs Go.Proofs.YtpghiabjaglpgaaGreatDoor Go.ChangeShapes
section
variable{W:World}{t:TypeId}{fuel:Nat}{cs:List Value}{ps:List MemPlace}
abbrev Tl(W:World)(fuel:Nat)(t:TypeId)(cs:List Value):Option (DataW Unit×List MemPlace):=DataW.trod (fun _=>()) Tryz.prog W 0 (fun _=>true) false fuel t cs
def YM{e n:Nat}{l:List Int}(g:Tryz.prog.underlying t=some (.array n e))(j:Tryz.prog.underlying e=some (.int .u64))(hc:Tryz.prog.cellsOf e=1)(a:Tryz.prog.cellsOf t=n)(h:Tl W fuel t cs=some (.agg (l.map fun z=>.lit (.int .u64 z)),ps)) :
 cs=l.map fun z=>Value.int .u64 z:=by
 obtain⟨xs,m,_,k,hl,hxl,b⟩:=DataW.trod_array g h;have hm:xs.map (·.1)=l.map fun z=>DataW.lit (.int .u64 z):=by have:=aiK Prod.fst k;simp only[DataW.agg.injEq]at this;exact this.symm
 have hll:l.length=n:=by have:=aiK List.length hm;simp only[aby]at this;omega
 rw[a]at hl;refine List.ext_getElem (by rw[aby];omega) fun i hi c=>?_;rw[aby]at c;have f:=b i (by omega);rw[hc,Nat.mul_one,akF hi,ajs,List.take_zero,abF (by omega)]at f;obtain⟨z,o,p,_⟩:=DataW.trod_int j f;have d:(xs.map (·.1))[i]'(by rw[aby];omega)=(l.map fun z=>DataW.lit (H:=Unit) (.int .u64 z))[i]'(by rw[aby];omega):=by simp only[hm]
 rw[List.getElem_map,List.getElem_map,p]at d;simp only[DataW.lit.injEq,Lit.int.injEq,akh]at d;rw[List.getElem_map,<- d];simpa using o
end
section
variable{W:World}{t:TypeId}{fuel:Nat}{cs:List Value}{ps:List MemPlace}
def Rw{s:List UInt8}(h:Tl W fuel t []=some (.lit (.string s),ps)):False:=by
 cases fuel with
 |zero=>simp[Tl,DataW.trod]at h
 |succ n =>unfold Tl DataW.trod at h;split at h<;>simp_all
def Zt{s:List UInt8}(h:Tl W fuel t []=some (.agg [.lit (.string s)],ps)):False:=by
 cases c:Tryz.prog.underlying t with
 |none =>
  cases fuel with
  |zero=>simp[Tl,DataW.trod]at h
  |succ n=>unfold Tl DataW.trod at h;rw[c]at h;simp at h
 |some d =>
  cases d with
  |struct fs =>
   obtain⟨xs,n,_,f,_,hl,g⟩:=DataW.trod_struct c h;have a:xs.map (·.1)=[.lit (.string s)]:=by have:=aiK Prod.fst f;simp only[DataW.agg.injEq]at this;exact this.symm
   obtain⟨x,rfl⟩:∃ x,xs=[x]:=List.length_eq_one_iff.1 (by have:=aiK List.length a;simpa using this);have i:0<fs.size:=by simp at hl;omega
   have b:=g 0 fs[0] (aiP i);simp only[List.drop_nil,List.take_nil,akc]at b;simp at a;exact Rw (W:=W) (s:=s) (ps:=x.2) (by unfold Tl;rw[b,<- a])
  |array m e =>
   obtain⟨xs,n,_,f,_,hl,g⟩:=DataW.trod_array c h;have a:xs.map (·.1)=[.lit (.string s)]:=by have:=aiK Prod.fst f;simp only[DataW.agg.injEq]at this;exact this.symm
   obtain⟨x,rfl⟩:∃ x,xs=[x]:=List.length_eq_one_iff.1 (by have:=aiK List.length a;simpa using this);have i:0<m:=by simp at hl;omega
   have b:=g 0 i;simp only[List.drop_nil,List.take_nil,akc]at b;simp at a;exact Rw (W:=W) (s:=s) (ps:=x.2) (by unfold Tl;rw[b,<- a])
  |_ =>
   cases fuel with
   |zero=>simp[Tl,DataW.trod]at h
   |succ n=>unfold Tl DataW.trod at h;rw[c]at h;simp at h
def Zg{s:List UInt8}(h:Tl W fuel t cs=some (.ptr (.agg [.lit (.string s)]),ps)):∃ a,cs=[.pointer (some a)]/\a.spot=none/\a.block<W.heap.size/\∃ e,Tryz.prog.underlying t=some (.pointer e):=by
 have key:∃ e,Tryz.prog.underlying t=some (.pointer e):=by
  cases fuel with
  |zero=>simp[Tl,DataW.trod]at h
  |succ n =>
   unfold Tl DataW.trod at h;split at h<;>simp_all
   all_goals first
    |(simp[ajO,akt]at h;done)
    |(split at h<;>simp[ajO,akt]at h;done)
    |(repeat' split at h)<;>simp_all[ajO,akt]
 obtain⟨e,g⟩:=key;rcases DataW.trod_pointer g h with⟨_,b⟩|⟨a,cs',y,n,_,rfl,b,i,j⟩
 ·simp at b
 ·have hy:y.1=.agg [.lit (.string s)]:=by have:=aiK Prod.fst b;simp only[DataW.ptr.injEq]at this;exact this.symm
  have d:cs'≠[]:=fun k=>by subst k;exact Zt (W:=W) (s:=s) (ps:=y.2) (by unfold Tl;rw[j,<- hy])
  obtain⟨_,hc1,f⟩:=World.cells?_some i;have h0:0<cs'.length:=List.length_pos_iff.2 d;have hcell:=f 0 (by omega);rw[abF h0]at hcell;obtain⟨c,e',fz,l,m,h6⟩:=Jc hcell;refine⟨a,rfl,?_,?_,e,g⟩
  ·simpa[Addr.add]using m
  ·have:=(ajg.1 l).1;simpa[Addr.add]using this
def Sv{name:String}{ms:Array (String×TypeId)}{s:List UInt8}(c:Tryz.prog.underlying t=some (.interface ms))(h:Tl W fuel t cs=some (.iface name (.ptr (.agg [.lit (.string s)])),ps)) :
 ∃ u v a,cs=[.iface u v]/\v.cells.toList=[.pointer (some a)]/\a.spot=none/\a.block<W.heap.size/\∃ e,Tryz.prog.underlying u=some (.pointer e):=by
 cases fuel with
 |zero=>simp[Tl,DataW.trod]at h
 |succ n =>
  unfold Tl DataW.trod at h;rw[c]at h;split at h<;>simp_all;rename_i u v _;split at h
  ·cases h
  ·simp only[akt]at h;obtain⟨y,hy,b⟩:=h;simp only[ajr,DataW.iface.injEq]at b;obtain⟨a,d,f,g,i⟩:=Zg (W:=W) (s:=s) (ps:=y.2) (by unfold Tl;rw[hy,<- b.1.2]);exact⟨u,v,⟨rfl,rfl⟩,a,d,f,g,i⟩
  ·cases h
end
end Go.Proofs.YtpghiabjaglpgaaGreatDoor.Rd
namespace Go.Proofs.YtpghiabjaglpgaaGreatDoor.Rd
open Go.AI Go.Proofs Go.Proofs.YtpghiabjaglpgaaGreatDoor Go.ChangeShapes
set_option maxRecDepth 10000
def Ag{P:Program}{w:World}:∀ {l:List (String×DataW Unit)} {ps:List MemPlace} {n:String} {d:DataW Unit},DataW.LaidVars P w l ps->(n,d)∈l ->
 ∃ g t cs fuel p,P.globalNamed n=some g/\(P.globals[g]?).map (·.type)=some t/\w.var? P n=some cs/\DataW.trod (fun _=>()) P w 0 (fun _=>true) false fuel t cs.toList=some (d,p)/\∀ x∈MemPlace.row ⟨g,0,none⟩ cs.size++p,x∈ps
 |[],ps,n,d,_,h=>by cases h
 |(m,c)::r,ps,n,d,hl,h=>by
  obtain⟨g,t,cs,fuel,p,q,i,j,k,o,hr,rfl⟩:=hl;rcases aff.1 h with h|h
  ·cases h;exact⟨g,t,cs,fuel,p,i,j,k,o,fun x f=>aiT _ f⟩
  ·obtain⟨g',t',cs',fuel',s,a,b,u,v,e⟩:=Ag hr h;exact⟨g',t',cs',fuel',s,a,b,u,v,fun x f=>aiH _ (e x f)⟩
def CQ{P:Program}{w:World}{n:String}{g:Nat}{cs:Array Value}(a:P.globalNamed n=some g)(h:w.var? P n=some cs):∃ e fz,w.heap[g]? = some (.cells cs e fz):=by
 unfold World.var? at h;rw[a]at h;simp only[ako]at h;split at h
 ·rename_i c e fz b;cases h;exact⟨e,fz,b⟩
 ·cases h
def SF:Tryz.prog.globalNamed "internal/strconv.uint64pow10" = some 5:=by kernel_rfl
def ZZ:Tryz.prog.globalNamed "strconv.ErrSyntax" = some 1:=by kernel_rfl
def aaa:Tryz.prog.globalNamed "strconv.ErrRange" = some 2:=by kernel_rfl
def Nq{W:World}{l:List (String×DataW Unit)}{n:String}{g:Nat}{t:TypeId}{name:String}{ms:Array (String×TypeId)}{s:List UInt8}(hl:laidMet Tryz.prog l W)(hm:(n,.iface name (.ptr (.agg [.lit (.string s)])))∈l)
 (o:Tryz.prog.globalNamed n=some g) (z:(Tryz.prog.globals[g]?).map (·.type)=some t) (A:Tryz.prog.underlying t=some (.interface ms)) :
 ∃ te b off e fz,W.heap[g]? = some (.cells #[.iface te (.pointer (some ⟨b,off,none⟩))] e fz)/\b<W.heap.size:=by
 obtain⟨ps,B,_,f⟩:=hl;obtain⟨g',t',cs,fuel,p,q,r,E,F,G⟩:=Ag B hm;rw[o]at q;cases q;rw[z]at r;cases r;obtain⟨e,fz,w⟩:=CQ o E;obtain⟨u,v,a,H,I,x,y,e',i⟩:=Sv A F;have j:cs=#[.iface u v]:=by exact Array.ext' H
 subst j;have hcell:W.cell? ⟨g,0,none⟩=some (.iface u v):=by unfold World.cell?;simp only[w];rfl
 have k:MemPlace.cell g 0∈MemPlace.row ⟨g,0,none⟩ (#[Value.iface u v]).size:=by unfold MemPlace.row;exact ajt.2 ⟨0,List.mem_range.2 akV,rfl⟩
 have h:=G _ (aiT _ k);have d:=(f g 0 h).2 u v hcell;have m:v=.pointer (some a):=by
  unfold Value.okWide at d;rw[i]at d;simp only[]at d;unfold Cell.okWide at d;rw[i]at d;cases v with
  |agg c=>simp only[Value.cells]at I;simp[Cell.ok,i]at d
  |_=>simp_all[Value.cells]
 subst m;obtain⟨b,off,spot⟩:=a;simp only at x y;subst x;exact⟨u,b,off,e,fz,w,y⟩
def ZY:(Tryz.prog.globals[5]?).map (·.type)=some 452:=by kernel_rfl
def ZW:(Tryz.prog.globals[1]?).map (·.type)=some 402:=by kernel_rfl
def ZX:(Tryz.prog.globals[2]?).map (·.type)=some 402:=by kernel_rfl
def YP{W:World}(hl:laidMet Tryz.prog Rows.stepNumbersUptoRow.laid W):∃ te b off e fz,W.heap[1]? = some (.cells #[.iface te (.pointer (some ⟨b,off,none⟩))] e fz)/\b<W.heap.size :=
 Nq hl (n := "strconv.ErrSyntax") (name := "*errors.errorString") (s:=[105,110,118,97,108,105,100,32,115,121,110,116,97,120]) (ajR _ (ajR _ (ajR _ (ajR _ (ajR _ (List.Mem.head _)))))) ZZ ZW Tryz.underlying402
def Za{W:World}(hl:laidMet Tryz.prog Rows.stepNumbersUptoRow.laid W):∃ te b off e fz,W.heap[2]? = some (.cells #[.iface te (.pointer (some ⟨b,off,none⟩))] e fz)/\b<W.heap.size :=
 Nq hl (n := "strconv.ErrRange") (name := "*errors.errorString") (s:=[118,97,108,117,101,32,111,117,116,32,111,102,32,114,97,110,103,101]) (ajR _ (ajR _ (ajR _ (ajR _ (List.Mem.head _))))) aaa ZX Tryz.underlying402
def Sh:Rows.laid_internal_strconv_uint64pow10 (H:=Unit)=DataW.agg (Lib.pow10Tab.map fun z=>.lit (.int .u64 z)):=by rfl
def Zi{W:World}(hl:laidMet Tryz.prog Rows.stepNumbersUptoRow.laid W):∃ c e fz,W.heap[5]? = some (.cells c e fz)/\c.toList=Lib.pow10Tab.map fun z=>Value.int .u64 z:=by obtain⟨ps,g,_,_⟩:=hl;obtain⟨g',t',cs,fuel,p,a,b,h,f,e5⟩:=Ag g (n := "internal/strconv.uint64pow10") (d:=Rows.laid_internal_strconv_uint64pow10) (ajR _ (ajR _ (List.Mem.head _)));rw[SF]at a;cases a;rw[ZY]at b;cases b;obtain⟨e,fz,i⟩:=CQ SF h;rw[Sh]at f;exact⟨cs,e,fz,i,YM Tryz.underlying452 (by kernel_rfl) (by kernel_rfl) (by kernel_rfl) f⟩
def acR{W:World}(h:W.ShapedOpen Tryz.prog):∃ m e fz,W.heap[0]? = some (.cells #[.int .i64 m] e fz):=by
 obtain⟨cs,f,j,k⟩:=h.1 0 #[.int .i64 0] 3 (aiF (by kernel_rfl)) (by kernel_rfl);obtain⟨ts,g,_,l⟩:=k (by kernel_rfl);have c:Tryz.prog.cellTypes Tryz.prog.depth 3=some [3]:=by kernel_rfl
 rw[c]at g;cases g;have d:cs.size=1:=j;have h0:cs[0]? = some (cs[0]'(by omega)):=aiP (by omega);obtain⟨u,n,b⟩:=l 0 _ h0;cases n;unfold Cell.ok at b;rw[Tryz.underlying3]at b
 have a:cs=#[cs[0]'(by omega)]:=Array.ext (by simp[d]) (fun i hi hi'=>by
  have:i=0:=by omega
  subst this;rfl)
 generalize cs[0]'(by omega)=v at a b;subst a;cases v<;>simp_all
 all_goals first
  |(obtain⟨rfl,_⟩:=b;exact⟨_,_,_,f⟩)
  |exact⟨_,_,_,f⟩
  |skip
end Go.Proofs.YtpghiabjaglpgaaGreatDoor.Rd
namespace Go.Proofs.YtpghiabjaglpgaaGreatDoor.Rd
open Go.AI Go.Proofs Go.Proofs.YtpghiabjaglpgaaGreatDoor Go.ChangeShapes
def SG{W:World}(hl:laidMet Tryz.prog Rows.stepNumbersUptoRow.laid W)(a:W.ShapedOpen Tryz.prog):Od W:=⟨acR a,YP hl,Za hl,Zi hl⟩
end Go.Proofs.YtpghiabjaglpgaaGreatDoor.Rd
