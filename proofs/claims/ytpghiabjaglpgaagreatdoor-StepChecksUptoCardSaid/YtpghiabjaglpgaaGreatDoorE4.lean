/- Lemmas. No conditions. -/
import Derived.Test.YtpghiabjaglpgaaGreatDoorE3
set_option linter.all false
noncomputable section
namespace Go.AI
open Go.RowKit
def rS{P:Program}{f:FuncId}{args:List V}{s:S}{v:V} (c:∀ ρ w ys,HR ρ s w->bd ρ args=some ys->(∀ w,(callFunc f ys.toArray).run P w=.ok (.enter f ys.toArray) w) /\
 Calls P f ys.toArray w fun e w'=>∃ y,e=.returned y/\(∀ ρ,den ρ v=some y)/\Below w.heap.size w w'):gv P f args none s ⟨.returned v,none,s⟩:=by
 intro ρ w ys hr d;obtain⟨g,h⟩:=c ρ w ys hr d;refine⟨g,fun cs hup=>?_⟩;obtain⟨e,w',fr,⟨y,rfl,i,a⟩,j,k,m⟩:=h cs;exact⟨ρ,w',hr.frame a.size a.block,⟨ρ.le_refl,a.size,a.os,a.tape,a.output,fun b hb _=>a.block b hb,fun f v l e _=>⟨f,v,l,e,rfl,id⟩⟩,fr,.returned y,i ρ,j,k,m⟩
def mj{ρ:aN}{s:S}{w:World}(h:HR ρ s w){g:Nat}{cs:List V}(hc:gn s g=some cs):∃(c:Array Value) (e:TypeId) (fz:Nat×Nat),w.heap[g]? = some (.cells c e fz)/\bd ρ cs=some c.toList:=by
 unfold gn at hc;split at hc
 ·rename_i vers j;split at hc
  ·rename_i u k;cases hc;obtain⟨hm,m⟩:=eW k;obtain⟨⟨l,c,e,fz,n,b,h3,o⟩,l',c',e',fz',d,p,f,q⟩:=h.blk _ _ j u hm;rw[n]at d;cases d;rw[p,f]at b;cases b;obtain⟨r,t⟩:=q m;refine⟨c,e,fz,f,kZ (by rw[<- t];simp) fun i x v=>?_⟩;obtain⟨y,hy,a⟩:=o i x v;refine⟨y,hy,?_⟩;rw[r]at a;rw[aiB];simpa using a
  ·cases hc
 ·cases hc
end Go.AI
namespace Go.Proofs.YtpghiabjaglpgaaGreatDoor
open Go.AI Go.RowKit
def TC{w:World}{g:Nat}{c:Array Value}{e:TypeId}{fz:Nat×Nat}{v:Value}(h:w.heap[g]? = some (.cells c e fz))(hc:c.toList=[v]):w.cell? ⟨g,0,none⟩=some v:=by
 unfold World.cell?;simp only[h];have:c[0]? = some v:=by rw[<- aiB,hc];rfl
 simpa using this
def SY{ρ:aN}{s:S}{w:World}(h:HR ρ s w){g:Nat}(hc:∃ c,gn s g=some c/\yy c=true):∃ ev,w.cell? ⟨g,0,none⟩=some ev/\(ev=.nilIface\/∃ te pe,ev=.iface te pe):=by
 obtain⟨c,j,b⟩:=hc;obtain⟨ca,e,fz,f,d⟩:=mj h j;unfold yy at b;split at b
 ·simp only[bd,den]at d;exact⟨_,TC f (aiJ d).symm,.inl rfl⟩
 ·rename_i t v;obtain⟨y,q,a,i,k⟩:=be.1 d;simp only[bd]at i;cases i;simp only[den]at a;split at a
  ·rename_i x hx;cases a;exact⟨_,TC f k,.inr ⟨_,_,rfl⟩⟩
  ·cases a
 ·cases b
def WG(ρ:aN):bd ρ Hz=some (Lib.pow10Tab.map fun z=>Value.int .u64 z):=by rfl
def Kh{ρ:aN}{s:S}{w:World}(h:HR ρ s w)(f:uW s):pZ w:=by
 have a:∀ w':World,w'.heap[5]? = w.heap[5]?->Lib.TabIs Tryz.prog w' "internal/strconv.uint64pow10" .u64 Lib.pow10Tab:=by
  intro w' g;obtain⟨c,e,fz,i,d⟩:=mj h f.pow;rw[WG]at d;unfold Lib.TabIs World.var?;have m:Tryz.prog.globalNamed "internal/strconv.uint64pow10" = some 5:=by kernel_rfl
  rw[m];simp only[Option.bind,g,i];rw[aiJ d]
 have j:6<=w.heap.size:=by obtain⟨ca,e,fz,k,_⟩:=mj h f.pow;have:=(ajg.1 k).1;omega
 refine⟨?_,SY h f.syn,SY h f.rng,a w rfl,j,fun w' b=>a w' (b.block 5 (by omega))⟩;obtain⟨c,i,d⟩:=f.mx;obtain⟨ca,e,fz,k,l⟩:=mj h i;unfold MY at d;split at d
 ·simp only[bd,den]at l;exact⟨_,TC k (aiJ l).symm⟩
 ·cases d
def Fl{args:List V}{s:S}{v:V}{s':S}(h:zO args s=some (v,s')):gv Tryz.prog 355 args none s ⟨.returned v,none,s'⟩:=by
 unfold zO at h;split at h
 ·rename_i l;split at h
  ·rename_i b;cases h;refine rS fun ρ w ys hr a=>?_;simp only[bd,den]at a;cases a;refine⟨fun w=>enters_of Tryz.func355 (by kernel_rfl) rfl _ w,(Fk (aK l) ?_ w (Kh hr b.1)).mono ?_⟩
   ·have:(aK l).size=l.length:=by unfold aK ByteArray.size;simp
    omega
   ·rintro e w' ⟨rfl,hb⟩;exact⟨_,rfl,fun ρ=>rfl,hb⟩
  ·cases h
 ·cases h
def Ib(c:Nat)(hc:c<256):∀(l:List Nat) (n:Int),0<=n->(∀ x∈l,x<256)->xJ l c n=if Lib.indexByte (l.map UInt8.ofNat) (UInt8.ofNat c)=-1 then -1 else Lib.indexByte (l.map UInt8.ofNat) (UInt8.ofNat c)+n
 |[],n,_,_=>rfl
 |x::l,n,hn,h=>by
  have ih:=Ib c hc l (n+1) (by omega) fun y hy=>h y (abE _ hy);have hx:=h x aeK;have hge:=Lib.indexByte_ge (l.map UInt8.ofNat) (UInt8.ofNat c);have b:(UInt8.ofNat x==UInt8.ofNat c)=Nat.beq x c:=by
   rw[aiz];simp only[akr,Nat.beq_eq];constructor
   ·intro h;have:=aiK UInt8.toNat h;simp at this;omega
   ·rintro rfl;rfl
  simp only[xJ,aeL,Lib.indexByte,b];cases hb:Nat.beq x c with
  |true=>simp
  |false =>
   simp only[TD,ajo,akG];rw[ih];by_cases a:Lib.indexByte (l.map UInt8.ofNat) (UInt8.ofNat c)=-1
   ·simp[a]
   ·have d:(Lib.indexByte (l.map UInt8.ofNat) (UInt8.ofNat c)==-1)=false:=by simpa using a
    rw[aeD a,d];simp only[ajo,akG];rw[aeD (by omega)];omega
def FG{args:List V}{s:S}{v:V}{s':S}(h:Ap args s=some (v,s')):gv Tryz.prog 351 args none s ⟨.returned v,none,s'⟩:=by
 unfold Ap at h;split at h
 ·rename_i l c;cases hb:Nat.blt c 256&&l.all (fun x=>Nat.blt x 256)with
  |false=>rw[hb,TD]at h;cases h
  |true =>
   rw[hb,ge]at h;cases h;simp only[abA,aiX]at hb;have hc:c<256:=akz (aeb hb.1);have hl:∀ x∈l,x<256:=fun x b=>akz (aeb (hb.2 x b));refine rS fun ρ w ys hr a=>?_;simp only[bd,den]at a;cases a;refine⟨fun w=>enters_of Tryz.func351 (by kernel_rfl) rfl _ w,(Tryz.strings_IndexByte (aK l) (Int.ofNat c) w).mono ?_⟩;rintro e w' ⟨rfl,rfl⟩;refine⟨_,rfl,fun ρ=>?_,Below.refl _ _⟩;have d:(aK l).data.toList=l.map UInt8.ofNat:=by simp[aK]
   have f:xJ l c 0=Lib.indexByte (l.map UInt8.ofNat) (UInt8.ofNat c):=by
    rw[Ib c hc l 0 (akL _) hl];split
    ·rename_i h;exact h.symm
    ·omega
   rw[d];show some (Value.int .i64 (xJ l c 0))=_;rw[f];rfl
 ·cases h
end Go.Proofs.YtpghiabjaglpgaaGreatDoor
