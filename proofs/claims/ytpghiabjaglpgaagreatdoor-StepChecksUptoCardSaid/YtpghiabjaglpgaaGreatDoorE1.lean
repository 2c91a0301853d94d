/- Lemmas. No conditions. -/
import Derived.Test.YtpghiabjaglpgaaGreatDoorD5
import Derived.Deep.Slices
import Derived.ChangeArms
import Derived.DataReads
import GoSem.ClaimJoined
import Derived.KernelRfl
import Derived.Test.YtpghiabjaglpgaaGreatDoorProg
import Derived.Test.YtpghiabjaglpgaaGreatDoorRows
set_option linter.all false
noncomputable section
namespace Go.Proofs.YtpghiabjaglpgaaGreatDoor.Rd
open Go.AI Go.Proofs Go.ChangeShapes Go.Proofs.YtpghiabjaglpgaaGreatDoor
inductive Ck where
 |bool|int|str|sl (t:Nat)
def Qe:List Nat:=[22,25,38,39,40,41,70,83,84,91,109,139,142,145]
def Sg(P:Program)(tT:Nat->Option (List Ck)):List Field->Nat->Option (List Ck)
 |[],_=>some []
 |f::r,off=>bif Nat.beq f.offset off then(match tT f.type with
  |some l=>bif Nat.beq l.length (P.cellsOf f.type)then(match Sg P tT r (off+l.length)with
   |some m=>some (l++m)
   |none=>none)else none
  |none=>none)else none
def KE(P:Program):Nat->TypeId->Option (List Ck)
 |0,_=>none
 |n+1,t=>match P.underlying t with
  |some .bool=>some [.bool]
  |some (.int .i64)=>some [.int]
  |some .string=>some [.str]
  |some (.slice _)=>bif Qe.contains t then some [.sl t] else none
  |some (.struct fs)=>Sg P (KE P n) fs.toList 0
  |_=>none
abbrev HT(n:Nat)(t:TypeId):Option (List Ck):=KE Tryz.prog n t
def tT(t:Nat):List Ck:=match Tryz.prog.underlying t with
 |some (.slice e)=>(HT 8 e).getD []
 |_=>[]
def okT(t:Nat):Bool:=match Tryz.prog.underlying t with
 |some (.slice e)=>(match HT 8 e with
  |some l=>Nat.blt 0 l.length&&(Nat.beq (Tryz.prog.cellsOf e) l.length&&((match size Tryz.prog e with
   |some n=>Nat.beq n l.length
   |none=>false)&&Nat.blt 0 (Tryz.prog.bytesOf e)))
  |none=>false)
 |_=>false
def Ql:(Qe.all fun t=>(Nat.blt t 512&&!Nat.beq t 127)&&okT t)=true:=by kernel_rfl
def uz(t i:Nat):Ck:=(tT t).getD (i%(tT t).length) .bool
def bytesOf(s:ByteArray):List Nat:=s.data.toList.map UInt8.toNat
def Pq(s:ByteArray):aK (bytesOf s)=s:=by
 obtain⟨a⟩:=s;simp only[aK,bytesOf,akN];congr 1;have:(UInt8.ofNat ∘ UInt8.toNat)=id:=by funext x;simp
 rw[this,List.map_id]
def TE(s:ByteArray):∀ b∈bytesOf s,b<256:=by intro b hb;simp only[bytesOf,ajt]at hb;obtain⟨x,_,rfl⟩:=hb;exact x.toNat_lt
def JL:Option Nat->Nat
 |none=>0
 |some n=>n+1
def JU(o:Option Nat):Mo (JL o)=o:=by cases o<;>rfl
def Ju(N t:Nat)(a:Addr)(len cap:Nat):Option V :=
 if cap=0 then(if len=0 then some (.slice ⟨a.block,JL a.spot,a.off⟩ 0 0 (some 0) 0)else none)
 else if a.spot=none/\len<=cap/\a.block<N/\0<(tT t).length then some (.slice ⟨a.block,a.off*512+t,1+a.off⟩ 0 len (some cap) (tT t).length)else none
def uU(N:Nat):Ck->Value->Option V
 |.bool,.bool b=>some (.bool b)
 |.int,.int .i64 n=>some (.int .i64 n)
 |.str,.string s=>some (.str (bytesOf s))
 |.sl _,.slice none 0 0=>some .nilslice
 |.sl t,.slice (some a) len cap=>Ju N t a len cap
 |_,_=>none
def Ro(N:Nat):aN:=fun f _=>if f<N then some ⟨f,1,0⟩else none
def IJ{N:Nat}{k:Ck}{v:Value}{x:V}(h:uU N k v=some x):den (Ro N) x=some v:=by
 unfold uU at h;split at h
 ·cases h;rfl
 ·cases h;rfl
 ·cases h;simp only[den,Pq]
 ·cases h;rfl
 ·rename_i t a len cap;unfold Ju at h;split at h
  ·rename_i hc;split at h
   ·rename_i hl;cases h;subst hc;subst hl;simp only[den,ik,akC,and_self,JU]
   ·cases h
  ·split at h
   ·rename_i hc;obtain⟨c,d,e,f⟩:=hc;cases h;have hr:Ro N a.block (a.off*512+t)=some ⟨a.block,1,0⟩:=by simp[Ro,e]
    have:=dO (ρ:=Ro N) (a:=⟨a.block,a.off*512+t,1+a.off⟩) (z:=0) (len:=len) (cap:=some cap) (sz:=(tT t).length) hr (by simp[bC]) (by simp) (by simpa[cE]using d) f;rw[this];obtain⟨b,o,sp⟩:=a;simp only at c;subst c;simp[bC,cE]
   ·cases h
 ·cases h
def iB(N:Nat)(t:Nat->Ck):Nat->List Value->List V
 |_,[]=>[]
 |i,c::r=>match uU N (t i) c with
  |some x=>x::iB N t (i+1) r
  |none=>[]
def BU{N:Nat}{t:Nat->Ck}:∀(i:Nat) (cs:List Value) (j:Nat) (x:V),(iB N t i cs)[j]? = some x->∃ y,den (Ro N) x=some y/\cs[j]? = some y
 |i,[],j,x,h=>by simp[iB]at h
 |i,c::r,j,x,h=>by
  simp only[iB]at h;split at h
  ·rename_i x' a;cases j with
   |zero=>simp at h;subst h;exact⟨c,IJ a,rfl⟩
   |succ j=>exact BU (i+1) r j x (by simpa using h)
  ·simp at h
def PG(N:Nat):Value->Option V
 |.int k n=>some (.int k n)
 |.nilIface=>some .nilIface
 |.iface te (.pointer (some ⟨b,off,none⟩))=>if b<N then some (.iface te (.ptr ⟨b,0,1+off⟩))else none
 |_=>none
def Tf{N:Nat}{v:Value}{x:V}(h:PG N v=some x):den (Ro N) x=some v:=by
 unfold PG at h;split at h
 ·cases h;rfl
 ·cases h;rfl
 ·rename_i te b off;split at h
  ·rename_i hb;cases h;have hr:Ro N b 0=some ⟨b,1,0⟩:=by simp[Ro,hb]
   simp only[den,iv,hr];simp
  ·cases h
 ·cases h
def kB(N:Nat):List Value->Option (List V)
 |[]=>some []
 |c::r=>match PG N c with
  |some x=>match kB N r with
   |some l=>some (x::l)
   |none=>none
  |none=>none
def BW{N:Nat}:∀ {l:List Value} {m:List V},kB N l=some m->m.length=l.length/\∀(i:Nat) (x:V),m[i]? = some x->∃ y,den (Ro N) x=some y/\l[i]? = some y
 |[],m,h=>by cases h;exact⟨rfl,fun i x h=>by simp at h⟩
 |c::r,m,h=>by
  simp only[kB]at h;split at h
  ·rename_i x b;split at h
   ·rename_i l hl;cases h;obtain⟨d,e⟩:=BW hl;refine⟨by simp[d],fun i z a=>?_⟩;cases i with
    |zero=>simp at a;subst a;exact⟨c,Tf b,rfl⟩
    |succ i=>simpa using e i z (by simpa using a)
   ·cases h
  ·cases h
def yJ(N:Nat)(c:List Value):List nW:=match kB N c with
 |some l=>[⟨127,1,l⟩]
 |none=>[]
def qL(N:Nat)(c:List Value):List nW:=yJ N c++(List.range c.length).flatMap fun off=>Qe.map fun t=>⟨off*512+t,1+off,iB N (uz t) 0 (c.drop off)⟩
def Ep(N:Nat):Option Obj->eh
 |some (.cells c _ _)=>.ro (qL N c.toList)
 |_=>.ro []
def AH{v:Nat}{u:nW}:∀ {vers:List nW},u∈vers->u.v=v->(∀ a∈vers,a.v=v->a=u)->bV vers v=some u
 |[],h,_,_=>by cases h
 |w::r,h,c,d=>by
  simp only[bV];cases hb:Nat.beq w.v v with
  |true=>rw[d w (by simp) (abr hb)];rfl
  |false =>
   rcases aff.1 h with rfl|h
   ·rw[c,aiw]at hb;cases hb
   ·exact AH h c fun a b=>d a (abE _ b)
def Qb{t:Nat}(h:t∈Qe):t<512/\t≠127:=by have:=aiX.1 Ql t h;simp only[abA,ajv]at this;refine⟨akz (aeb this.1.1),fun e=>?_⟩;rw[e]at this;cases this.1.2
def Qc{t:Nat}(h:t∈Qe):t<512:=(Qb h).1
def Lz{N:Nat}{c:List Value}{u:nW}(h:u∈yJ N c):u.v=127/\u.lo=1/\kB N c=some u.cells:=by
 unfold yJ at h;split at h
 ·rename_i l hl;simp at h;subst h;exact⟨rfl,rfl,hl⟩
 ·cases h
def QN{N:Nat}{c:List Value}{u:nW}(h:u∈(List.range c.length).flatMap fun off=>Qe.map fun t=>(⟨off*512+t,1+off,iB N (uz t) 0 (c.drop off)⟩:nW)):∃ off t,off<c.length/\t∈Qe/\u=⟨off*512+t,1+off,iB N (uz t) 0 (c.drop off)⟩:=by simp only[List.mem_flatMap,List.mem_range,ajt]at h;obtain⟨o,a,t,b,rfl⟩:=h;exact⟨o,t,a,b,rfl⟩
def Qa{t off:Nat}(h:t∈Qe):off*512+t≠127:=by have:=Qb h;omega
def FP{N:Nat}{c:List Value}{off t:Nat}(h:off<c.length)(b:t∈Qe):bV (qL N c) (off*512+t)=some ⟨off*512+t,1+off,iB N (uz t) 0 (c.drop off)⟩:=by
 refine AH (aiH _ ?_) rfl ?_
 ·simp only[List.mem_flatMap,List.mem_range,ajt];exact⟨off,h,t,b,rfl⟩
 ·intro u' a d;rcases aiq.1 a with a|a
  ·rw[(Lz a).1]at d;exact absurd d.symm (Qa b)
  ·obtain⟨o,t',ho,e,rfl⟩:=QN a;simp only at d;have h1:=Qc b;have h2:=Qc e;obtain rfl:o=off:=by omega
   obtain rfl:t'=t:=by omega
   rfl
def Cz{N:Nat}{c:List Value}{l:List V}(h:kB N c=some l):bV (qL N c) 127=some ⟨127,1,l⟩:=by
 have:yJ N c=[⟨127,1,l⟩]:=by unfold yJ;rw[h]
 unfold qL;rw[this];rfl
def ZC(N:Nat)(W:World):Nat->S
 |0=>⟨.leaf,0⟩
 |n+1=>(ZC N W n).alloc (Ep N W.heap[n]?)
def lN(N:Nat)(W:World):∀ n,(ZC N W n).next=n
 |0=>rfl
 |n+1=>by simp only[ZC,S.next_alloc,lN N W n]
def yo(N:Nat)(W:World):∀ n f,(ZC N W n).get f=if f<n then some (Ep N W.heap[f]?)else none
 |0,f=>by simp only[ZC,S.get_eq,T.get_leaf];simp
 |n+1,f=>by
  simp only[ZC,S.get_alloc,lN,yo N W n f];by_cases a:n=f
  ·subst a;simp
  ·by_cases b:f<n
   ·simp[a,b,show f<n+1 by omega]
   ·simp[a,b,show ¬ f<n+1 by omega]
def cw(W:World):S:=ZC W.heap.size W W.heap.size
def yV{W:World}{f:Nat}{B:eh}(h:(cw W).get f=some B):f<W.heap.size/\B=Ep W.heap.size W.heap[f]?:=by
 unfold cw at h;rw[yo]at h;split at h
 ·rename_i a;exact⟨a,by cases h;rfl⟩
 ·cases h
def TH(N:Nat)(o:Option Obj):∃ vs,Ep N o=.ro vs:=by
 unfold Ep;split
 ·exact⟨_,rfl⟩
 ·exact⟨_,rfl⟩
def LV(W:World):HR (Ro W.heap.size) (cw W) W:=by
 refine⟨?_,?_,?_,?_,?_,?_⟩
 ·intro f v b;unfold cw at b;rw[lN]at b;simp[Ro,show ¬ f<W.heap.size by omega]
 ·intro f v l f' v' l' e g hb;unfold Ro at e g;split at e
  ·split at g
   ·cases e;cases g;exact⟨hb,rfl⟩
   ·cases g
  ·cases e
 ·intro f v l e;unfold Ro at e;split at e
  ·rename_i b;cases e;exact b
  ·cases e
 ·intro f B hB;obtain⟨b,rfl⟩:=yV hB;unfold Ep;split
  ·rename_i c e fz ho;intro u a;have hr:∀ v,Ro W.heap.size f v=some ⟨f,1,0⟩:=fun v=>by simp[Ro,b]
   rcases aiq.1 a with a|a
   ·obtain⟨k,d,n⟩:=Lz a;obtain⟨o,p⟩:=BW n;refine⟨⟨⟨f,1,0⟩,c,e,fz,hr _,ho,by simp[d],fun i x h=>?_⟩,⟨⟨f,1,0⟩,c,e,fz,hr _,rfl,ho,fun _=>⟨d.symm,by rw[o,ajm]⟩⟩⟩;obtain⟨y,q,m⟩:=p i x h;refine⟨y,q,?_⟩;rw[aiB]at m;rw[d];simpa using m
   ·obtain⟨off,t,hoff,r,rfl⟩:=QN a;refine⟨⟨⟨f,1,0⟩,c,e,fz,hr _,ho,by simp,fun i x h=>?_⟩,⟨⟨f,1,0⟩,c,e,fz,hr _,rfl,ho,fun j=>absurd j (Qa r)⟩⟩;obtain⟨y,k,d⟩:=BU 0 _ i x h;refine⟨y,k,?_⟩;rw[ajK,aiB]at d;simp only;rw[show 1+off - 1+i=off+i by omega];exact d
  ·intro u a;cases a
 ·intro f B hB;have:=(yV hB).1;unfold cw;rw[lN];exact this
 ·intro f B hB s;obtain⟨_,rfl⟩:=yV hB;obtain⟨vs,j⟩:=TH W.heap.size W.heap[f]?;exact absurd j (s vs)
def UD(W:World):WF (cw W):=(LV W).dom
def je(N:Nat):List Ck->List Value->List V->Prop
 |[],[],[]=>True
 |k::ks,c::cs,x::xs=>uU N k c=some x/\je N ks cs xs
 |_,_,_=>False
def je.get{N:Nat}:∀ {ks:List Ck} {cs:List Value} {l:List V},je N ks cs l->ks.length=l.length/\cs.length=l.length/\∀(j:Nat) (x:V),l[j]? = some x->∃ y,cs[j]? = some y/\uU N (ks.getD j .bool) y=some x
 |[],[],[],_=>⟨rfl,rfl,fun j x h=>by simp at h⟩
 |k::ks,c::cs,x::xs,h=>by
  obtain⟨b,d,e⟩:=je.get h.2;refine⟨by simp[b],by simp[d],fun j z a=>?_⟩;cases j with
  |zero=>simp at a;subst a;exact⟨c,rfl,h.1⟩
  |succ j=>simpa using e j z (by simpa using a)
 |[],[],_::_,h=>h.elim
 |[],_::_,_,h=>h.elim
 |_::_,[],_,h=>h.elim
 |_::_,_::_,[],h=>h.elim
def je.den{N:Nat}:∀ {ks:List Ck} {cs:List Value} {l:List V},je N ks cs l->bd (Ro N) l=some cs
 |[],[],[],_=>rfl
 |k::ks,c::cs,x::xs,h=>by simp only[bd,IJ h.1,je.den h.2]
 |[],[],_::_,h=>h.elim
 |[],_::_,_,h=>h.elim
 |_::_,[],_,h=>h.elim
 |_::_,_::_,[],h=>h.elim
def TZ{N:Nat}{k:Ck}{v:Value}{x:V}(h:uU N k v=some x):x.one=true:=by
 unfold uU at h;split at h
 ·cases h;rfl
 ·cases h;rfl
 ·cases h;rfl
 ·cases h;rfl
 ·unfold Ju at h
  (repeat' split at h)<;>first|(cases h;done)|(cases h;rfl)
 ·cases h
def je.one{N:Nat}:∀ {ks:List Ck} {cs:List Value} {l:List V},je N ks cs l->l.all V.one=true
 |[],[],[],_=>rfl
 |k::ks,c::cs,x::xs,h=>by simp only[ajb,TZ h.1,je.one h.2,ajc]
 |[],[],_::_,h=>h.elim
 |[],_::_,_,h=>h.elim
 |_::_,[],_,h=>h.elim
 |_::_,_::_,[],h=>h.elim
section
variable{H:Type}{enc:TypeId×Value->H}{W:World}{fuel:Nat}{t:TypeId}{cs:List Value}{x:DataW H×List MemPlace}
abbrev Td(enc:TypeId×Value->H)(W:World)(fuel:Nat)(t:TypeId)(cs:List Value):Option (DataW H×List MemPlace):=DataW.trod enc Tryz.prog W 0 (fun _=>true) true fuel t cs
def BE{α:Type}{Q:Nat->α->Prop}:∀(n:Nat),(∀ k,k<n->∃ z,Q k z)->∃ xs:List α,xs.length=n/\∀ k z,xs[k]? = some z->Q k z
 |0,_=>⟨[],rfl,fun k z h=>by simp at h⟩
 |n+1,h=>by
  obtain⟨xs,a,b⟩:=BE n fun k hk=>h k (by omega);obtain⟨z,c⟩:=h n (by omega);refine⟨xs++[z],by simp[a],fun k y hy=>?_⟩;by_cases hk:k<n
  ·rw[aeN (by omega)]at hy;exact b k y hy
  ·have hk:k=n:=by have:=(aez.1 hy).1;simp at this;omega
   subst hk;rw[ajh (by omega)]at hy;simp[a]at hy;subst hy;exact c
def Wt(t:TypeId)(d:DataW H):Prop:=∀ n∈DataW.weights Tryz.prog t d,n<=reachBytes
def nY{e:TypeId}:∀ {ds:List (DataW H)} {d:DataW H},d∈ds->∀ n∈DataW.weights Tryz.prog e d,n∈DataW.weightsAll Tryz.prog e ds
 |[],_,h,_,_=>by cases h
 |x::r,d,h,n,a=>by
  rw[DataW.weightsAll];rcases aff.1 h with rfl|h
  ·exact aiT _ a
  ·exact aiH _ (nY h n a)
def jT:∀ {ts:List TypeId} {ds:List (DataW H)} {i:Nat} {t:TypeId} {d:DataW H},ts[i]? = some t->ds[i]? = some d->∀ n∈DataW.weights Tryz.prog t d,n∈DataW.weightsEach Tryz.prog ts ds
 |[],_,i,_,_,h,_,_,_=>by simp at h
 |_::_,[],i,_,_,_,h,_,_=>by simp at h
 |t::ts,d::ds,0,_,_,h,k,n,a=>by simp at h k;subst h;subst k;rw[DataW.weightsEach];exact aiT _ a
 |t::ts,d::ds,i+1,_,_,h,k,n,a=>by rw[DataW.weightsEach];exact aiH _ (jT (ts:=ts) (ds:=ds) (i:=i) (by simpa using h) (by simpa using k) n a)
def Ez{N:Nat}{t:Nat->Ck}:∀(m i:Nat) (cs:List Value),(∀ j,j<m->∃ y x,cs[j]? = some y/\uU N (t (i+j)) y=some x) ->
 ∀ j,j<m->∀ y x,cs[j]? = some y->uU N (t (i+j)) y=some x->(iB N t i cs)[j]? = some x
 |0,i,cs,_,j,a,_,_,_,_=>by omega
 |m+1,i,[],h,j,a,_,_,e,_=>by simp at e
 |m+1,i,c::cs,h,j,a,y,x,e,k=>by
  obtain⟨y0,x0,d,b⟩:=h 0 (by omega);simp at d;subst d;simp only[aiU]at b;simp only[iB,b];cases j with
  |zero =>simp at e;subst e;simp only[aiU]at k;rw[b]at k;cases k;rfl
  |succ j =>
   have ih:=Ez m (i+1) cs (fun j a=>by obtain⟨y,x,f,g⟩:=h (j+1) (by omega);exact⟨y,x,by simpa using f,by rw[show i+1+j=i+(j+1)by omega];exact g⟩) j (by omega) y x (by simpa using e) (by rw[show i+1+j=i+(j+1)by omega];exact k)
   simpa using ih
def Jc{w:World}{a:Addr}{v:Value}(h:w.cell? a=some v):∃ c e fz,w.heap[a.block]? = some (.cells c e fz)/\a.spot=none/\c[a.off]? = some v:=by
 unfold World.cell? at h;split at h
 ·rename_i c e fz f;split at h
  ·cases h
  ·rename_i d;refine⟨c,e,fz,f,?_,h⟩;cases b:a.spot with
   |none=>rfl
   |some n=>rw[b]at d;simp at d
 ·cases h
def ob:∀(l:List V) (n:Nat),n<=l.length->bv n l=some (l.take n)
 |l,0,_=>by cases l<;>rfl
 |[],n+1,h=>by simp at h
 |x::r,n+1,h=>by simp only[bv,ob r n (by simpa using h),Option.map,ajs]
end
def je.app{N:Nat}:∀ {ks:List Ck} {cs:List Value} {l:List V} {ks':List Ck} {cs':List Value} {l':List V},je N ks cs l->je N ks' cs' l'->je N (ks++ks') (cs++cs') (l++l')
 |[],[],[],_,_,_,_,h=>h
 |k::ks,c::cs,x::xs,_,_,_,h,a=>⟨h.1,je.app h.2 a⟩
 |[],[],_::_,_,_,_,h,_=>h.elim
 |[],_::_,_,_,_,_,h,_=>h.elim
 |_::_,[],_,_,_,_,h,_=>h.elim
 |_::_,_::_,[],_,_,_,h,_=>h.elim
mutual
def PQ:D->Nat
 |.row _ l=>kn l+1
 |_=>1
def iy:List D->Nat
 |[]=>0
 |d::r=>PQ d+iy r
def kn:List (List D)->Nat
 |[]=>0
 |c::r=>iy c+kn r
end
def IZ:∀(a b:List D),iy (a++b)=iy a+iy b
 |[],b=>by simp[iy]
 |d::r,b=>by simp only[aiL,iy,IZ r b];omega
def zI{H:Type}(d:DataW H):1<=Rows.uptoBulk d:=by
 cases d with
 |lit l=>cases l<;>simp[Rows.uptoBulk]
 |nil=>simp[Rows.uptoBulk]
 |ptr d=>simp[Rows.uptoBulk]
 |slice elems spare=>simp[Rows.uptoBulk]
 |agg parts=>simp[Rows.uptoBulk]
 |iface t d=>simp[Rows.uptoBulk]
 |map entries=>simp[Rows.uptoBulk]
 |held h=>simp[Rows.uptoBulk]
def IX{H:Type}:∀(l:List (List D)) (ds:List (DataW H)),l.length=ds.length->(∀(i:Nat) a d,l[i]? = some a->ds[i]? = some d->iy a<=Rows.uptoBulk d)->kn l<=Rows.uptoBulkAll ds
 |[],ds,_,_=>by simp[kn]
 |a::l,[],h,_=>by simp at h
 |a::l,d::ds,h,k=>by have h1:=k 0 a d rfl rfl;have h2:=IX l ds (by simpa using h) fun i a d b c=>k (i+1) a d (by simpa using b) (by simpa using c);simp only[kn,Rows.uptoBulkAll];omega
inductive xU:Ck->D->Prop
 |bool (b:Bool):xU .bool (.bool b)
 |int (n:Int):xU .int (.int .i64 n)
 |str (l:List Nat):xU .str (.str l)
 |row (t:Nat) (ly:List Ck) (l:List (List D)):tT t=ly->l.length<2^50->(∀ cs∈l,cs.length=ly.length)->(∀ cs∈l,∀(i:Nat) k d,ly[i]? = some k->cs[i]? = some d->xU k d)->xU (.sl t) (.row ly.length l)
def GK(ks:List Ck)(ds:List D):Prop:=ds.length=ks.length/\∀(i:Nat) k d,ks[i]? = some k->ds[i]? = some d->xU k d
def GK.nil:GK [] []:=⟨rfl,fun i k d h=>by simp at h⟩
def GK.one{k:Ck}{d:D}(h:xU k d):GK [k] [d]:=⟨rfl,fun i k' d' a b=>by
 cases i with
 |zero=>simp at a b;subst a;subst b;exact h
 |succ i=>simp at a⟩
def GK.app{ks ks':List Ck}{ds ds':List D}(h:GK ks ds)(c:GK ks' ds'):GK (ks++ks') (ds++ds'):=by
 refine⟨by simp[h.1,c.1],fun i k d a b=>?_⟩;by_cases hi:i<ks.length
 ·rw[aeN hi]at a;rw[aeN (by rw[h.1];exact hi)]at b;exact h.2 i k d a b
 ·rw[ajh (by omega)]at a;rw[ajh (by rw[h.1];omega),h.1]at b;exact c.2 _ k d a b
def g0(W:World):Gh:=⟨[],[],[],cw W⟩
def aab{W:World}{f:Nat}(h:f<W.heap.size):(g0 W).Imm f:=by
 refine⟨?_,?_,fun o v h=>?_⟩
 ·show f<(cw W).next;unfold cw;rw[lN];exact h
 ·show f∉([]:List Nat);simp
 ·have h:([]:List (Option (Nat×Nat)))[o]? = some (some (f,v)):=h;simp at h
section
variable{H:Type}{enc:TypeId×Value->H}{W:World}
def Rd(W:World)(ks:List Ck)(cs:List Value)(b:Nat):Prop:=∃(vs:List V) (ds:List D),je W.heap.size ks cs vs/\RL (g0 W) ds vs/\GK ks ds/\iy ds<=b
def RL.one{g:Gh}{d:D}{v:V}(h:RD g d v):RL g [d] [v]:=by simp only[RL];exact⟨v,[],rfl,h,rfl⟩
def UO{ty e:Nat}{ly:List Ck}{kd:Nat->Ck}(u:tT ty=ly)(hkd:∀ i,kd i=ly.getD (i%ly.length) .bool)(hfv:∀ {N:Nat} {c:List Value} {off:Nat},off<c.length->bV (qL N c) (off*512+ty)=some ⟨off*512+ty,1+off,iB N kd 0 (c.drop off)⟩)(hu:Tryz.prog.underlying ty=some (.slice e))(hc:Tryz.prog.cellsOf e=ly.length)
 (h0:0<ly.length) (hb:0<Tryz.prog.bytesOf e) {fuel:Nat} {cs:List Value} {x:DataW H×List MemPlace} (h:Td enc W fuel ty cs=some x) (hw:Wt ty x.1)
 (hel:∀ n cells y,fuel=n+1->Td enc W n e cells=some y->Wt e y.1->Rd W ly cells (Rows.uptoBulk y.1)):Rd W [.sl ty] cs (Rows.uptoBulk x.1):=by
 rcases DataW.trod_slice hu h with⟨rfl,_⟩|⟨a,len,cap,elems,rest,n,hn,rfl,hx,_,J,_,K,w,hsp,_⟩
 ·exact⟨[.nilslice],[.row ly.length []],⟨rfl,trivial⟩,RL.one (by rw[RD];exact .inl ⟨rfl,rfl⟩),.one (.row ty ly [] u (by simp) (fun _ h=>by cases h) (fun _ h=>by cases h)),by simpa[iy,PQ,kn]using zI x.1⟩
 ·subst hn;by_cases A:cap=0
  ·obtain rfl:len=0:=by omega
   subst A;exact⟨[.slice ⟨a.block,JL a.spot,a.off⟩ 0 0 (some 0) 0],[.row ly.length []],⟨by simp only[uU,Ju,akC,and_self],trivial⟩,RL.one (by rw[RD];exact .inr (.inl ⟨rfl,_,_,_,rfl⟩)),.one (.row ty ly [] u (by simp) (fun _ h=>by cases h) (fun _ h=>by cases h)),by simpa[iy,PQ,kn]using zI x.1⟩
  ·obtain⟨hrl,hre⟩:=hsp rfl;have hwe:∀ y,y∈elems->Wt e y.1:=fun y hy m hm=>by refine hw m ?_;rw[hx];simp only[DataW.weights,hu];exact abE _ (aiT _ (nY (List.mem_map_of_mem hy) m hm))
   have hbn:len*Tryz.prog.bytesOf e<=reachBytes:=by have:=hw ((elems.length+rest.length)*Tryz.prog.bytesOf e) (by rw[hx];simp only[DataW.weights,hu,aby];exact aeK);refine ajd (ajY _ ?_) this;omega
   have hfirst:∃ cells,W.cells? 0 (a.add 0) ly.length=some cells:=by
    by_cases p:0<len
    ·have:=w 0 p;rw[akk,hc,abF (by omega)]at this;obtain⟨cells,f,_⟩:=ajO.1 this;exact⟨cells,f⟩
    ·have:=hre 0 (by omega);rw[show(len+0)*Tryz.prog.cellsOf e=0 by rw[show len=0 by omega];simp,hc,abF (by omega)]at this;obtain⟨cells,f,_⟩:=ajO.1 this;exact⟨cells,f⟩
   obtain⟨c0,hc0⟩:=hfirst;obtain⟨_,hc1,hc2⟩:=World.cells?_some hc0;have hcell:=hc2 0 h0;rw[abF (by omega)]at hcell;simp only[Addr.add,akC]at hcell;obtain⟨carr,e',fz,hheap,hspot,hcell⟩:=Jc hcell;obtain⟨b,off,spot⟩:=a;simp only at hspot hheap hcell;subst hspot;have q:b<W.heap.size:=by have:=(ajg.1 hheap).1;exact this
   have L:off<carr.size:=(ajg.1 hcell).1
   obtain⟨zs,r,M⟩:=BE (Q:=fun k (z:List D×List V)=>∃ cells,W.cells? 0 ((⟨b,off,none⟩:Addr).add (k*ly.length)) ly.length=some cells/\je W.heap.size ly cells z.2/\RL (g0 W) z.1 z.2/\GK ly z.1/\∀ y,elems[k]? = some y->iy z.1<=Rows.uptoBulk y.1) len (fun k hk=>by have:=w k hk;rw[hc,abF (by omega)]at this;obtain⟨cells,f,o⟩:=ajO.1 this;obtain⟨l,z,g,O,h6,h7⟩:=hel n cells _ rfl o (hwe _ (akg _));exact⟨(z,l),cells,f,g,O,h6,fun y hy=>by rw[abF (by omega)]at hy;cases hy;exact h7⟩)
   have hcellat:∀ k,k<len->∀ cells,W.cells? 0 ((⟨b,off,none⟩:Addr).add (k*ly.length)) ly.length=some cells->∀ i,i<ly.length->carr.toList[off+(k*ly.length+i)]? = cells[i]?:=fun k hk cells F i hi=>by
    obtain⟨_,p,f⟩:=World.cells?_some F;have o:=f i hi;have g:((⟨b,off,none⟩:Addr).add (k*ly.length)).add i=⟨b,off+(k*ly.length+i),none⟩:=by
     simp only[Addr.add];by_cases v:k*ly.length=0
     ·by_cases s:i=0
      ·simp[v,s]
      ·simp[v,s]
     ·by_cases s:i=0
      ·simp[v,s]
      ·simp[v,s];omega
    rw[g]at o;simp only[World.cell?,hheap]at o;rw[aiB];simpa using o
   have B:∀ k,k<len->∀ cells l,W.cells? 0 ((⟨b,off,none⟩:Addr).add (k*ly.length)) ly.length=some cells->je W.heap.size ly cells l->∀ i,i<ly.length->∃ y x,(carr.toList.drop off)[k*ly.length+i]? = some y/\l[i]? = some x/\uU W.heap.size (kd (0+(k*ly.length+i))) y=some x:=fun k hk cells l F hab i hi=>by
    obtain⟨p,f,o⟩:=je.get hab;have R:i<l.length:=by omega
    obtain⟨y,hy1,hy2⟩:=o i l[i] (abF R);refine⟨y,l[i],?_,abF R,?_⟩
    ·rw[ajK,hcellat k hk cells F i hi];exact hy1
    ·rw[hkd,aiv,Nat.add_comm,Nat.add_mul_mod_self_right,akQ hi];exact hy2
   have U:∀ j,j<len*ly.length->∃ y x,(carr.toList.drop off)[j]? = some y/\uU W.heap.size (kd (0+j)) y=some x:=fun j hj=>by
    have hk:j / ly.length<len:=Nat.div_lt_of_lt_mul (by rw[Nat.mul_comm];exact hj);obtain⟨cells,p,f,_⟩:=M (j / ly.length) _ (abF (by omega));obtain⟨y,x,o,_,g⟩:=B _ hk cells _ p f (j%ly.length) (Nat.mod_lt _ h0);have hj2:j / ly.length*ly.length+j%ly.length=j:=by rw[Nat.mul_comm];exact Nat.div_add_mod j ly.length
    rw[hj2]at o g;exact⟨y,x,o,g⟩
   have X:len<2^50:=by have:len<=reachBytes:=ajd (Nat.le_mul_of_pos_right _ hb) hbn;unfold reachBytes at this;omega
   refine⟨[.slice ⟨b,off*512+ty,1+off⟩ 0 len (some cap) ly.length],[.row ly.length (zs.map (·.1))],⟨by simp only[uU,Ju];rw[aeD A,u,aeM ⟨trivial,J,q,h0⟩],trivial⟩,RL.one ?_,.one (.row ty ly _ u (by simp[r,X]) ?_ ?_),?_⟩
   ·rw[RD];refine .inr (.inr ⟨⟨b,off*512+ty,1+off⟩,0,some cap,by simp[r],h0,.inl rfl,fun c hc=>by cases hc;simp[r,J],fun _=>aab q,RR.of fun k l0 hk=>?_⟩);rw[aiO]at hk;obtain⟨z,Y,Z⟩:∃ z,zs[k]? = some z/\z.1=l0:=by
     cases hh:zs[k]? with
     |none=>rw[hh]at hk;cases hk
     |some z=>rw[hh]at hk;cases hk;exact⟨z,rfl,rfl⟩
    have hkl:k<len:=by rw[<- r];exact(aez.1 Y).1
    obtain⟨cells,p,f,o,g,_⟩:=M k z Y;obtain⟨_,l⟩:=z;simp only at Z f o g;subst Z;refine⟨l,g.1,?_,o,f.one⟩;have hg:(cw W).get b=some (.ro (qL W.heap.size carr.toList)):=by unfold cw;rw[yo,aeM q,hheap];rfl
    show Go.AI.loadCells (cw W) (cM ⟨b,off*512+ty,1+off⟩ (k*ly.length)) ly.length=some l;simp only[Go.AI.loadCells,cM,hg,hfv (N:=W.heap.size) (c:=carr.toList) (off:=off) (by simpa using L)];rw[aeI (show 1+off<=1+off+k*ly.length by omega),ge,show 1+off+k*ly.length - (1+off)=k*ly.length by omega];obtain⟨k1,k2,k3⟩:=je.get f;have E:∀ i,i<ly.length->((iB W.heap.size kd 0 (carr.toList.drop off)).drop (k*ly.length))[i]? = l[i]?:=fun i hi=>by
     obtain⟨y,x,g,O,h6⟩:=B k hkl cells l p f i hi;rw[ajK,O];refine Ez (len*ly.length) 0 _ U _ ?_ y x g h6
     calc k*ly.length+i<k*ly.length+ly.length:=by omega
      _=(k+1)*ly.length:=by rw[Nat.succ_mul]
      _<=len*ly.length:=ajY _ hkl
    have hlen2:ly.length<=((iB W.heap.size kd 0 (carr.toList.drop off)).drop (k*ly.length)).length:=by have:=E (ly.length - 1) (by omega);rw[abF (show ly.length - 1<l.length by omega)]at this;have:=(aez.1 this).1;omega
    rw[ob _ _ hlen2];refine aiK some ?_;refine akb fun i=>?_;by_cases hi:i<ly.length
    ·rw[aiV hi,E i hi]
    ·rw[aeF (by rw[aiu];omega),aeF (by omega)]
   ·intro cs G;obtain⟨z,I,rfl⟩:=ajt.1 G;obtain⟨k,hk,rfl⟩:=List.mem_iff_getElem.1 I;obtain⟨_,_,_,_,g,_⟩:=M k _ (abF hk);exact g.1
   ·intro cs G;obtain⟨z,I,rfl⟩:=ajt.1 G;obtain⟨k,hk,rfl⟩:=List.mem_iff_getElem.1 I;obtain⟨_,_,_,_,g,_⟩:=M k _ (abF hk);exact g.2
   ·have:=IX (zs.map (·.1)) (elems.map (·.1)) (by simp[r,K]) fun i a d e1 e2=>by
     rw[aiO]at e1 e2;cases p:zs[i]? with
     |none=>rw[p]at e1;cases e1
     |some z =>
      cases f:elems[i]? with
      |none=>rw[f]at e2;cases e2
      |some y =>rw[p]at e1;rw[f]at e2;cases e1;cases e2;obtain⟨_,_,_,_,_,O⟩:=M i z p;exact O y f
    rw[hx];simp only[iy,PQ,Rows.uptoBulk];omega
def Mm{m:Nat}{P:TypeId->List Value->DataW H->Prop}{cs:List Value}(d:∀ t ks c y,HT m t=some ks->Tryz.prog.cellsOf t=ks.length->P t c y->Rd W ks c (Rows.uptoBulk y)):∀(fs:List Field) (ys:List (DataW H)) (off:Nat) (ks:List Ck),Sg Tryz.prog (KE Tryz.prog m) fs off=some ks->fs.length=ys.length ->
 (∀(i:Nat) f y,fs[i]? = some f->ys[i]? = some y->P f.type ((cs.drop f.offset).take (Tryz.prog.cellsOf f.type)) y)->Rd W ks ((cs.drop off).take ks.length) (Rows.uptoBulkAll ys)
 |[],ys,off,ks,h,_,_=>by simp only[Sg,abB]at h;subst h;exact⟨[],[],by simp[je],by simp only[RL],.nil,by simp[iy]⟩
 |f::r,[],off,ks,_,hl,_=>by simp at hl
 |f::r,y::ys,off,ks,h,a,e=>by
  simp only[Sg]at h;cases ho:Nat.beq f.offset off with
  |false=>rw[ho,TD]at h;cases h
  |true =>
   rw[ho,ge]at h;have ho:=abr ho;split at h
   ·rename_i l hl;cases hc:Nat.beq l.length (Tryz.prog.cellsOf f.type)with
    |false=>rw[hc,TD]at h;cases h
    |true =>
     rw[hc,ge]at h;have hc:=abr hc;split at h
     ·rename_i b hm;cases h;obtain⟨j,k,n,o,p,a4⟩:=d f.type l _ y hl hc.symm (e 0 f y rfl rfl);obtain⟨q,s,u,v,w,b4⟩:=Mm d r ys (off+l.length) b hm (by simpa using a) fun i g z A B=>e (i+1) g z (by simpa using A) (by simpa using B);refine⟨j++q,k++s,?_,RL.append o v,p.app w,by rw[IZ];simp only[Rows.uptoBulkAll];omega⟩;have:(cs.drop off).take (l++b).length=(cs.drop f.offset).take (Tryz.prog.cellsOf f.type)++(cs.drop (off+l.length)).take b.length:=by rw[ho,<- hc,aae,<- ala,<- List.take_add]
      rw[this];exact n.app u
     ·cases h
   ·cases h
def UQ:∀(N m:Nat) {fuel:Nat} {t:TypeId} {cs:List Value} {ks:List Ck} {x:DataW H×List MemPlace},fuel<=N->HT m t=some ks->Tryz.prog.cellsOf t=ks.length->Td enc W fuel t cs=some x->Wt t x.1->Rd W ks cs (Rows.uptoBulk x.1):=by
 intro N;induction N with
 |zero =>
  intro m fuel t cs ks x K _ _ h _;obtain rfl:fuel=0:=by omega
  simp[Td,DataW.trod]at h
 |succ N ih =>
  intro m fuel t cs ks x K hk hcl h E;cases m with
  |zero=>change KE Tryz.prog 0 t=_ at hk;rw[KE]at hk;cases hk
  |succ m =>
   change KE Tryz.prog (m+1) t=_ at hk;rw[KE]at hk;split at hk
   ·rename_i g;cases hk;obtain⟨b,rfl,_⟩:=DataW.trod_bool g h;exact⟨[.bool b],[.bool b],⟨rfl,trivial⟩,RL.one (by simp only[RD]),.one (.bool b),by simpa[iy,PQ]using zI x.1⟩
   ·rename_i g;cases hk;obtain⟨n,rfl,_⟩:=DataW.trod_int g h;exact⟨[.int .i64 n],[.int .i64 n],⟨rfl,trivial⟩,RL.one (by simp only[RD]),.one (.int n),by simpa[iy,PQ]using zI x.1⟩
   ·rename_i g;cases hk;obtain⟨s,rfl,_⟩:=DataW.trod_string g h;exact⟨[.str (bytesOf s)],[.str (bytesOf s)],⟨rfl,trivial⟩,RL.one (by simp only[RD];exact⟨trivial,TE s⟩),.one (.str _),by simpa[iy,PQ]using zI x.1⟩
   ·rename_i e g;cases hc:Qe.contains t with
    |false=>rw[hc,TD]at hk;cases hk
    |true =>
     rw[hc,ge]at hk;cases hk;have k:t∈Qe:=by simpa using hc
     have a:=aiX.1 Ql t k;simp only[abA]at a;have a:=a.2;unfold okT at a;rw[g]at a;simp only at a;have j:tT t=(HT 8 e).getD []:=by unfold tT;rw[g]
     split at a
     ·rename_i l F;rw[F]at j;have j:tT t=l:=j;simp only[abA]at a;obtain⟨u,p,k3,v⟩:=a;have u:0<l.length:=akz (aeb u);have p:=abr p;have v:0<Tryz.prog.bytesOf e:=akz (aeb v);exact UO (kd:=uz t) j (fun i=>by unfold uz;rw[j]) (fun h=>FP h k) g p u v h E fun n cells y G hy w=>ih 8 (by omega) F p hy w
     ·cases a
   ·rename_i fs g;obtain⟨xs,n,hn,I,hl,A,G⟩:=DataW.trod_struct g h
    have hr:=Mm (W:=W) (m:=m) (cs:=cs) (P:=fun t c y=>∃ z,Td enc W n t c=some z/\z.1=y/\Wt t z.1) (fun t ks c y B h0 ⟨z,L,M,O⟩=>by rw[<- M];exact ih m (by omega) B h0 L O) fs.toList (xs.map (·.1)) 0 ks hk (by simp[A]) (fun i f y Q o=>by
     have J:fs[i]? = some f:=by rw[<- aiB];exact Q
     rw[aiO]at o;cases r:xs[i]? with
     |none=>rw[r]at o;cases o
     |some z =>
      rw[r]at o;cases o;refine⟨z,(G i f J).trans r,rfl,fun q R=>E q ?_⟩;rw[I];simp only[DataW.weights,g];refine jT (i:=i) (t:=f.type) (d:=z.1) ?_ ?_ q R
      ·rw[aiO,aiB,J];rfl
      ·rw[aiO,r];rfl)
    rw[ajA,ajn (by omega)]at hr;obtain⟨vs,ds,U,X,Y,r4⟩:=hr;exact⟨vs,ds,U,X,Y,by rw[I];simp only[Rows.uptoBulk];omega⟩
   ·cases hk
end
end Go.Proofs.YtpghiabjaglpgaaGreatDoor.Rd
