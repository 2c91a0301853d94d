/- From the row to deep values: part 1. No conditions beyond those of the row. -/
import Derived.Test.YtpghiabjaglpgaaGreatDoorD5
import Derived.Deep.Slices
import Derived.ChangeArms
import Derived.DataReads
import GoSem.ClaimJoined
import Derived.KernelRfl
import Derived.Test.YtpghiabjaglpgaaGreatDoorProg
import Derived.Test.YtpghiabjaglpgaaGreatDoorRows
set_option linter.all false
noncomputable section
namespace Go.Proofs.YtpghiabjaglpgaaGreatDoor.Rd
open Go.AI Go.Proofs Go.ChangeShapes Go.Proofs.YtpghiabjaglpgaaGreatDoor
inductive Ck where
 |bool|int|str|sl (t:Nat)
def LV:List Nat:=[22,25,83,84,91,139,142,145]
def NK(P:Program)(wQ:Nat->Option (List Ck)):List Field->Nat->Option (List Ck)
 |[],_=>some []
 |f::r,off=>bif Nat.beq f.offset off then(match wQ f.type with
  |some l=>bif Nat.beq l.length (P.cellsOf f.type)then(match NK P wQ r (off+l.length)with
   |some m=>some (l++m)
   |none=>none)else none
  |none=>none)else none
def Hi(P:Program):Nat->TypeId->Option (List Ck)
 |0,_=>none
 |n+1,t=>match P.underlying t with
  |some .bool=>some [.bool]
  |some (.int .i64)=>some [.int]
  |some .string=>some [.str]
  |some (.slice _)=>bif LV.contains t then some [.sl t] else none
  |some (.struct fs)=>NK P (Hi P n) fs.toList 0
  |_=>none
abbrev Hh(n:Nat)(t:TypeId):Option (List Ck):=Hi Tryz.prog n t
def wQ(t:Nat):List Ck:=match Tryz.prog.underlying t with
 |some (.slice e)=>(Hh 8 e).getD []
 |_=>[]
def okT(t:Nat):Bool:=match Tryz.prog.underlying t with
 |some (.slice e)=>(match Hh 8 e with
  |some l=>Nat.blt 0 l.length&&(Nat.beq (Tryz.prog.cellsOf e) l.length&&((match size Tryz.prog e with
   |some n=>Nat.beq n l.length
   |none=>false)&&Nat.blt 0 (Tryz.prog.bytesOf e)))
  |none=>false)
 |_=>false
theorem Mb:(LV.all fun t=>(Nat.blt t 512&&!Nat.beq t 127)&&okT t)=true:=by kernel_rfl
def sw(t i:Nat):Ck:=(wQ t).getD (i%(wQ t).length) .bool
def bytesOf(s:ByteArray):List Nat:=s.data.toList.map UInt8.toNat
theorem Lk(s:ByteArray):ay (bytesOf s)=s:=by
 obtain⟨a⟩:=s
 simp only[ay,bytesOf,List.map_map]
 congr 1
 have:(UInt8.ofNat ∘ UInt8.toNat)=id:=by funext x;simp
 rw[this,List.map_id]
theorem OR(s:ByteArray):∀ b∈bytesOf s,b<256:=by
 intro b hb
 simp only[bytesOf,List.mem_map]at hb
 obtain⟨x,_,rfl⟩:=hb
 exact x.toNat_lt
def Gr:Option Nat->Nat
 |none=>0
 |some n=>n+1
theorem GA(o:Option Nat):IH (Gr o)=o:=by cases o<;>rfl
def Ga(N t:Nat)(a:Addr)(len cap:Nat):Option V :=
 if cap=0 then(if len=0 then some (.slice ⟨a.block,Gr a.spot,a.off⟩ 0 0 (some 0) 0)else none)
 else if a.spot=none/\len<=cap/\a.block<N/\0<(wQ t).length then some (.slice ⟨a.block,a.off*512+t,1+a.off⟩ 0 len (some cap) (wQ t).length)else none
def sS(N:Nat):Ck->Value->Option V
 |.bool,.bool b=>some (.bool b)
 |.int,.int .i64 n=>some (.int .i64 n)
 |.str,.string s=>some (.str (bytesOf s))
 |.sl _,.slice none 0 0=>some .nilslice
 |.sl t,.slice (some a) len cap=>Ga N t a len cap
 |_,_=>none
def Ro(N:Nat):aB:=fun f _=>if f<N then some ⟨f,1,0⟩else none
theorem Fo{N:Nat}{k:Ck}{v:Value}{x:V}(h:sS N k v=some x):den (Ro N) x=some v:=by
 unfold sS at h
 split at h
 ·cases h;rfl
 ·cases h;rfl
 ·cases h;simp only[den,Lk]
 ·cases h;rfl
 ·rename_i t a len cap
  unfold Ga at h
  split at h
  ·rename_i hc
   split at h
   ·rename_i hl
    cases h;subst hc;subst hl
    simp only[den,gp,if_true,and_self,GA]
   ·cases h
  ·split at h
   ·rename_i hc
    obtain⟨h1,h2,h3,h4⟩:=hc
    cases h
    have hr:Ro N a.block (a.off*512+t)=some ⟨a.block,1,0⟩:=by simp[Ro,h3]
    have:=cX (ρ:=Ro N) (a:=⟨a.block,a.off*512+t,1+a.off⟩) (z:=0) (len:=len) (cap:=some cap) (sz:=(wQ t).length) hr (by simp[ba]) (by simp) (by simpa[bT]using h2) h4
    rw[this]
    obtain⟨b,o,sp⟩:=a
    simp only at h1
    subst h1
    simp[ba,bT]
   ·cases h
 ·cases h
def gz(N:Nat)(t:Nat->Ck):Nat->List Value->List V
 |_,[]=>[]
 |i,c::r=>match sS N (t i) c with
  |some x=>x::gz N t (i+1) r
  |none=>[]
theorem yR{N:Nat}{t:Nat->Ck}:∀(i:Nat) (cs:List Value) (j:Nat) (x:V),(gz N t i cs)[j]? = some x->∃ y,den (Ro N) x=some y/\cs[j]? = some y
 |i,[],j,x,h=>by simp[gz]at h
 |i,c::r,j,x,h=>by
  simp only[gz]at h
  split at h
  ·rename_i x' hx
   cases j with
   |zero=>simp at h;subst h;exact⟨c,Fo hx,rfl⟩
   |succ j=>exact yR (i+1) r j x (by simpa using h)
  ·simp at h
def Lz(N:Nat):Value->Option V
 |.int k n=>some (.int k n)
 |.nilIface=>some .nilIface
 |.iface te (.pointer (some ⟨b,off,none⟩))=>if b<N then some (.iface te (.ptr ⟨b,0,1+off⟩))else none
 |_=>none
theorem Oz{N:Nat}{v:Value}{x:V}(h:Lz N v=some x):den (Ro N) x=some v:=by
 unfold Lz at h
 split at h
 ·cases h;rfl
 ·cases h;rfl
 ·rename_i te b off
  split at h
  ·rename_i hb
   cases h
   have hr:Ro N b 0=some ⟨b,1,0⟩:=by simp[Ro,hb]
   simp only[den,gw,hr]
   simp
  ·cases h
 ·cases h
def ji(N:Nat):List Value->Option (List V)
 |[]=>some []
 |c::r=>match Lz N c with
  |some x=>match ji N r with
   |some l=>some (x::l)
   |none=>none
  |none=>none
theorem yU{N:Nat}:∀ {l:List Value} {m:List V},ji N l=some m->m.length=l.length/\∀(i:Nat) (x:V),m[i]? = some x->∃ y,den (Ro N) x=some y/\l[i]? = some y
 |[],m,h=>by cases h;exact⟨rfl,fun i x h=>by simp at h⟩
 |c::r,m,h=>by
  simp only[ji]at h
  split at h
  ·rename_i x hx
   split at h
   ·rename_i l hl
    cases h
    obtain⟨h1,h2⟩:=yU hl
    refine⟨by simp[h1],fun i z hz=>?_⟩
    cases i with
    |zero=>simp at hz;subst hz;exact⟨c,Oz hx,rfl⟩
    |succ i=>simpa using h2 i z (by simpa using hz)
   ·cases h
  ·cases h
def vI(N:Nat)(c:List Value):List mb:=match ji N c with
 |some l=>[⟨127,1,l⟩]
 |none=>[]
def oY(N:Nat)(c:List Value):List mb:=vI N c++(List.range c.length).flatMap fun off=>LV.map fun t=>⟨off*512+t,1+off,gz N (sw t) 0 (c.drop off)⟩
def Bs(N:Nat):Option Obj->dB
 |some (.cells c _ _)=>.ro (oY N c.toList)
 |_=>.ro []
theorem xB{v:Nat}{u:mb}:∀ {vers:List mb},u∈vers->u.v=v->(∀ u'∈vers,u'.v=v->u'=u)->bA vers v=some u
 |[],h,_,_=>by cases h
 |w::r,h,hv,hu=>by
  simp only[bA]
  cases hb:Nat.beq w.v v with
  |true=>rw[hu w (by simp) (Nat.eq_of_beq_eq_true hb)];rfl
  |false =>
   rcases List.mem_cons.1 h with rfl|h
   ·rw[hv,Nat.beq_refl]at hb;cases hb
   ·exact xB h hv fun u' hu'=>hu u' (List.mem_cons_of_mem _ hu')
theorem LQ{t:Nat}(h:t∈LV):t<512/\t≠127:=by
 have:=List.all_eq_true.1 Mb t h
 simp only[Bool.and_eq_true,Bool.not_eq_true']at this
 refine⟨Nat.lt_of_succ_le (Nat.le_of_ble_eq_true this.1.1),fun e=>?_⟩
 rw[e]at this;cases this.1.2
theorem LT{t:Nat}(h:t∈LV):t<512:=(LQ h).1
theorem HZ{N:Nat}{c:List Value}{u:mb}(h:u∈vI N c):u.v=127/\u.lo=1/\ji N c=some u.cells:=by
 unfold vI at h
 split at h
 ·rename_i l hl
  simp at h;subst h;exact⟨rfl,rfl,hl⟩
 ·cases h
theorem MD{N:Nat}{c:List Value}{u:mb}(h:u∈(List.range c.length).flatMap fun off=>LV.map fun t=>(⟨off*512+t,1+off,gz N (sw t) 0 (c.drop off)⟩:mb)):∃ off t,off<c.length/\t∈LV/\u=⟨off*512+t,1+off,gz N (sw t) 0 (c.drop off)⟩:=by
 simp only[List.mem_flatMap,List.mem_range,List.mem_map]at h
 obtain⟨o,h1,t,h2,rfl⟩:=h
 exact⟨o,t,h1,h2,rfl⟩
theorem LP{t off:Nat}(h:t∈LV):off*512+t≠127:=by
 have:=LQ h;omega
theorem CD{N:Nat}{c:List Value}{off t:Nat}(h:off<c.length)(ht:t∈LV):bA (oY N c) (off*512+t)=some ⟨off*512+t,1+off,gz N (sw t) 0 (c.drop off)⟩:=by
 refine xB (List.mem_append_right _ ?_) rfl ?_
 ·simp only[List.mem_flatMap,List.mem_range,List.mem_map]
  exact⟨off,h,t,ht,rfl⟩
 ·intro u' hu' hv
  rcases List.mem_append.1 hu' with hu'|hu'
  ·rw[(HZ hu').1]at hv
   exact absurd hv.symm (LP ht)
  ·obtain⟨o,t',ho,ht',rfl⟩:=MD hu'
   simp only at hv
   have h1:=LT ht
   have h2:=LT ht'
   obtain rfl:o=off:=by omega
   obtain rfl:t'=t:=by omega
   rfl
theorem zB{N:Nat}{c:List Value}{l:List V}(h:ji N c=some l):bA (oY N c) 127=some ⟨127,1,l⟩:=by
 have:vI N c=[⟨127,1,l⟩]:=by unfold vI;rw[h]
 unfold oY
 rw[this]
 rfl
def TV(N:Nat)(W:World):Nat->S
 |0=>⟨.leaf,0⟩
 |n+1=>(TV N W n).alloc (Bs N W.heap[n]?)
theorem jZ(N:Nat)(W:World):∀ n,(TV N W n).next=n
 |0=>rfl
 |n+1=>by simp only[TV,S.next_alloc,jZ N W n]
theorem vk(N:Nat)(W:World):∀ n f,(TV N W n).get f=if f<n then some (Bs N W.heap[f]?)else none
 |0,f=>by simp only[TV,S.get_eq,T.get_leaf];simp
 |n+1,f=>by
  simp only[TV,S.get_alloc,jZ,vk N W n f]
  by_cases hf:n=f
  ·subst hf;simp
  ·by_cases h2:f<n
   ·simp[hf,h2,show f<n+1 by omega]
   ·simp[hf,h2,show ¬ f<n+1 by omega]
def bN(W:World):S:=TV W.heap.size W W.heap.size
theorem vR{W:World}{f:Nat}{B:dB}(h:(bN W).get f=some B):f<W.heap.size/\B=Bs W.heap.size W.heap[f]?:=by
 unfold bN at h
 rw[vk]at h
 split at h
 ·rename_i hf;exact⟨hf,by cases h;rfl⟩
 ·cases h
theorem OU(N:Nat)(o:Option Obj):∃ vs,Bs N o=.ro vs:=by
 unfold Bs
 split
 ·exact⟨_,rfl⟩
 ·exact⟨_,rfl⟩
theorem Iq(W:World):HR (Ro W.heap.size) (bN W) W:=by
 refine⟨?_,?_,?_,?_,?_,?_⟩
 ·intro f v hf
  unfold bN at hf
  rw[jZ]at hf
  simp[Ro,show ¬ f<W.heap.size by omega]
 ·intro f v l f' v' l' e e' hb
  unfold Ro at e e'
  split at e
  ·split at e'
   ·cases e;cases e';exact⟨hb,rfl⟩
   ·cases e'
  ·cases e
 ·intro f v l e
  unfold Ro at e
  split at e
  ·rename_i hf;cases e;exact hf
  ·cases e
 ·intro f B hB
  obtain⟨hf,rfl⟩:=vR hB
  unfold Bs
  split
  ·rename_i c e fz ho
   intro u hu
   have hr:∀ v,Ro W.heap.size f v=some ⟨f,1,0⟩:=fun v=>by simp[Ro,hf]
   rcases List.mem_append.1 hu with hu|hu
   ·obtain⟨h1,h2,h3⟩:=HZ hu
    obtain⟨h4,h5⟩:=yU h3
    refine⟨⟨⟨f,1,0⟩,c,e,fz,hr _,ho,by simp[h2],fun i x hx=>?_⟩,⟨⟨f,1,0⟩,c,e,fz,hr _,rfl,ho,fun _=>⟨h2.symm,by rw[h4,Array.length_toList]⟩⟩⟩
    obtain⟨y,h6,h7⟩:=h5 i x hx
    refine⟨y,h6,?_⟩
    rw[Array.getElem?_toList]at h7
    rw[h2]
    simpa using h7
   ·obtain⟨off,t,hoff,ht,rfl⟩:=MD hu
    refine⟨⟨⟨f,1,0⟩,c,e,fz,hr _,ho,by simp,fun i x hx=>?_⟩,⟨⟨f,1,0⟩,c,e,fz,hr _,rfl,ho,fun hv=>absurd hv (LP ht)⟩⟩
    obtain⟨y,h1,h2⟩:=yR 0 _ i x hx
    refine⟨y,h1,?_⟩
    rw[List.getElem?_drop,Array.getElem?_toList]at h2
    simp only
    rw[show 1+off - 1+i=off+i by omega]
    exact h2
  ·intro u hu;cases hu
 ·intro f B hB
  have:=(vR hB).1
  unfold bN
  rw[jZ];exact this
 ·intro f B hB hn
  obtain⟨_,rfl⟩:=vR hB
  obtain⟨vs,hv⟩:=OU W.heap.size W.heap[f]?
  exact absurd hv (hn vs)
theorem PQ(W:World):WF (bN W):=(Iq W).dom
def io(N:Nat):List Ck->List Value->List V->Prop
 |[],[],[]=>True
 |k::ks,c::cs,x::xs=>sS N k c=some x/\io N ks cs xs
 |_,_,_=>False
theorem io.get{N:Nat}:∀ {ks:List Ck} {cs:List Value} {l:List V},io N ks cs l->ks.length=l.length/\cs.length=l.length/\∀(j:Nat) (x:V),l[j]? = some x->∃ y,cs[j]? = some y/\sS N (ks.getD j .bool) y=some x
 |[],[],[],_=>⟨rfl,rfl,fun j x h=>by simp at h⟩
 |k::ks,c::cs,x::xs,h=>by
  obtain⟨h1,h2,h3⟩:=io.get h.2
  refine⟨by simp[h1],by simp[h2],fun j z hz=>?_⟩
  cases j with
  |zero=>simp at hz;subst hz;exact⟨c,rfl,h.1⟩
  |succ j=>simpa using h3 j z (by simpa using hz)
 |[],[],_::_,h=>h.elim
 |[],_::_,_,h=>h.elim
 |_::_,[],_,h=>h.elim
 |_::_,_::_,[],h=>h.elim
theorem io.den{N:Nat}:∀ {ks:List Ck} {cs:List Value} {l:List V},io N ks cs l->aN (Ro N) l=some cs
 |[],[],[],_=>rfl
 |k::ks,c::cs,x::xs,h=>by simp only[aN,Fo h.1,io.den h.2]
 |[],[],_::_,h=>h.elim
 |[],_::_,_,h=>h.elim
 |_::_,[],_,h=>h.elim
 |_::_,_::_,[],h=>h.elim
theorem Po{N:Nat}{k:Ck}{v:Value}{x:V}(h:sS N k v=some x):x.one=true:=by
 unfold sS at h
 split at h
 ·cases h;rfl
 ·cases h;rfl
 ·cases h;rfl
 ·cases h;rfl
 ·unfold Ga at h
  (repeat' split at h)<;>first|(cases h;done)|(cases h;rfl)
 ·cases h
theorem io.one{N:Nat}:∀ {ks:List Ck} {cs:List Value} {l:List V},io N ks cs l->l.all V.one=true
 |[],[],[],_=>rfl
 |k::ks,c::cs,x::xs,h=>by simp only[List.all_cons,Po h.1,io.one h.2,Bool.and_self]
 |[],[],_::_,h=>h.elim
 |[],_::_,_,h=>h.elim
 |_::_,[],_,h=>h.elim
 |_::_,_::_,[],h=>h.elim
section
variable{H:Type}{enc:TypeId×Value->H}{W:World}{fuel:Nat}{t:TypeId}{cs:List Value}{x:DataW H×List MemPlace}
abbrev Td(enc:TypeId×Value->H)(W:World)(fuel:Nat)(t:TypeId)(cs:List Value):Option (DataW H×List MemPlace):=DataW.trod enc Tryz.prog W 0 (fun _=>true) true fuel t cs
theorem yC{α:Type}{Q:Nat->α->Prop}:∀(n:Nat),(∀ k,k<n->∃ z,Q k z)->∃ xs:List α,xs.length=n/\∀ k z,xs[k]? = some z->Q k z
 |0,_=>⟨[],rfl,fun k z h=>by simp at h⟩
 |n+1,h=>by
  obtain⟨xs,h1,h2⟩:=yC n fun k hk=>h k (by omega)
  obtain⟨z,hz⟩:=h n (by omega)
  refine⟨xs++[z],by simp[h1],fun k y hy=>?_⟩
  by_cases hk:k<n
  ·rw[List.getElem?_append_left (by omega)]at hy;exact h2 k y hy
  ·have hk:k=n:=by
    have:=(List.getElem?_eq_some_iff.1 hy).1
    simp at this;omega
   subst hk
   rw[List.getElem?_append_right (by omega)]at hy
   simp[h1]at hy;subst hy;exact hz
def Wt(t:TypeId)(d:DataW H):Prop:=∀ n∈DataW.weights Tryz.prog t d,n<=reachBytes
theorem me{e:TypeId}:∀ {ds:List (DataW H)} {d:DataW H},d∈ds->∀ n∈DataW.weights Tryz.prog e d,n∈DataW.weightsAll Tryz.prog e ds
 |[],_,h,_,_=>by cases h
 |x::r,d,h,n,hn=>by
  rw[DataW.weightsAll]
  rcases List.mem_cons.1 h with rfl|h
  ·exact List.mem_append_left _ hn
  ·exact List.mem_append_right _ (me h n hn)
theorem iO:∀ {ts:List TypeId} {ds:List (DataW H)} {i:Nat} {t:TypeId} {d:DataW H},ts[i]? = some t->ds[i]? = some d->∀ n∈DataW.weights Tryz.prog t d,n∈DataW.weightsEach Tryz.prog ts ds
 |[],_,i,_,_,h,_,_,_=>by simp at h
 |_::_,[],i,_,_,_,h,_,_=>by simp at h
 |t::ts,d::ds,0,_,_,h,k,n,hn=>by
  simp at h k;subst h;subst k
  rw[DataW.weightsEach]
  exact List.mem_append_left _ hn
 |t::ts,d::ds,i+1,_,_,h,k,n,hn=>by
  rw[DataW.weightsEach]
  exact List.mem_append_right _ (iO (ts:=ts) (ds:=ds) (i:=i) (by simpa using h) (by simpa using k) n hn)
theorem Bw{N:Nat}{t:Nat->Ck}:∀(m i:Nat) (cs:List Value),(∀ j,j<m->∃ y x,cs[j]? = some y/\sS N (t (i+j)) y=some x) ->
 ∀ j,j<m->∀ y x,cs[j]? = some y->sS N (t (i+j)) y=some x->(gz N t i cs)[j]? = some x
 |0,i,cs,_,j,hj,_,_,_,_=>by omega
 |m+1,i,[],h,j,hj,_,_,e,_=>by simp at e
 |m+1,i,c::cs,h,j,hj,y,x,e,k=>by
  obtain⟨y0,x0,h1,h2⟩:=h 0 (by omega)
  simp at h1;subst h1
  simp only[Nat.add_zero]at h2
  simp only[gz,h2]
  cases j with
  |zero =>
   simp at e;subst e
   simp only[Nat.add_zero]at k
   rw[h2]at k;cases k;rfl
  |succ j =>
   have ih:=Bw m (i+1) cs (fun j hj=>by
    obtain⟨y,x,h3,h4⟩:=h (j+1) (by omega)
    exact⟨y,x,by simpa using h3,by rw[show i+1+j=i+(j+1)by omega];exact h4⟩) j (by omega) y x (by simpa using e) (by rw[show i+1+j=i+(j+1)by omega];exact k)
   simpa using ih
theorem FH{w:World}{a:Addr}{v:Value}(h:w.cell? a=some v):∃ c e fz,w.heap[a.block]? = some (.cells c e fz)/\a.spot=none/\c[a.off]? = some v:=by
 unfold World.cell? at h
 split at h
 ·rename_i c e fz hh
  split at h
  ·cases h
  ·rename_i hs
   refine⟨c,e,fz,hh,?_,h⟩
   cases hsp:a.spot with
   |none=>rfl
   |some n=>rw[hsp]at hs;simp at hs
 ·cases h
theorem mh:∀(l:List V) (n:Nat),n<=l.length->aU n l=some (l.take n)
 |l,0,_=>by cases l<;>rfl
 |[],n+1,h=>by simp at h
 |x::r,n+1,h=>by simp only[aU,mh r n (by simpa using h),Option.map,List.take_succ_cons]
end
theorem io.app{N:Nat}:∀ {ks:List Ck} {cs:List Value} {l:List V} {ks':List Ck} {cs':List Value} {l':List V},io N ks cs l->io N ks' cs' l'->io N (ks++ks') (cs++cs') (l++l')
 |[],[],[],_,_,_,_,h=>h
 |k::ks,c::cs,x::xs,_,_,_,h,h'=>⟨h.1,io.app h.2 h'⟩
 |[],[],_::_,_,_,_,h,_=>h.elim
 |[],_::_,_,_,_,_,h,_=>h.elim
 |_::_,[],_,_,_,_,h,_=>h.elim
 |_::_,_::_,[],_,_,_,h,_=>h.elim
mutual
def LH:D->Nat
 |.row _ l=>jf l+1
 |_=>1
def gx:List D->Nat
 |[]=>0
 |d::r=>LH d+gx r
def jf:List (List D)->Nat
 |[]=>0
 |c::r=>gx c+jf r
end
theorem FF:∀(a b:List D),gx (a++b)=gx a+gx b
 |[],b=>by simp[gx]
 |d::r,b=>by simp only[List.cons_append,gx,FF r b];omega
theorem wo{H:Type}(d:DataW H):1<=Rows.uptoBulk d:=by
 cases d with
 |lit l=>cases l<;>simp[Rows.uptoBulk]
 |nil=>simp[Rows.uptoBulk]
 |ptr d=>simp[Rows.uptoBulk]
 |slice elems spare=>simp[Rows.uptoBulk]
 |agg parts=>simp[Rows.uptoBulk]
 |iface t d=>simp[Rows.uptoBulk]
 |map entries=>simp[Rows.uptoBulk]
 |held h=>simp[Rows.uptoBulk]
theorem FD{H:Type}:∀(l:List (List D)) (ds:List (DataW H)),l.length=ds.length->(∀(i:Nat) a d,l[i]? = some a->ds[i]? = some d->gx a<=Rows.uptoBulk d)->jf l<=Rows.uptoBulkAll ds
 |[],ds,_,_=>by simp[jf]
 |a::l,[],h,_=>by simp at h
 |a::l,d::ds,h,k=>by
  have h1:=k 0 a d rfl rfl
  have h2:=FD l ds (by simpa using h) fun i a d e1 e2=>k (i+1) a d (by simpa using e1) (by simpa using e2)
  simp only[jf,Rows.uptoBulkAll];omega
inductive Dq:Ck->D->Prop
 |bool (b:Bool):Dq .bool (.bool b)
 |int (n:Int):Dq .int (.int .i64 n)
 |str (l:List Nat):Dq .str (.str l)
 |row (t:Nat) (ly:List Ck) (l:List (List D)):wQ t=ly->l.length<2^50->(∀ cs∈l,cs.length=ly.length)->(∀ cs∈l,∀(i:Nat) k d,ly[i]? = some k->cs[i]? = some d->Dq k d)->Dq (.sl t) (.row ly.length l)
def Gc(ks:List Ck)(ds:List D):Prop:=ds.length=ks.length/\∀(i:Nat) k d,ks[i]? = some k->ds[i]? = some d->Dq k d
theorem Gc.nil:Gc [] []:=⟨rfl,fun i k d h=>by simp at h⟩
theorem Gc.one{k:Ck}{d:D}(h:Dq k d):Gc [k] [d]:=⟨rfl,fun i k' d' h1 h2=>by
 cases i with
 |zero=>simp at h1 h2;subst h1;subst h2;exact h
 |succ i=>simp at h1⟩
theorem Gc.app{ks ks':List Ck}{ds ds':List D}(h:Gc ks ds)(h':Gc ks' ds'):Gc (ks++ks') (ds++ds'):=by
 refine⟨by simp[h.1,h'.1],fun i k d h1 h2=>?_⟩
 by_cases hi:i<ks.length
 ·rw[List.getElem?_append_left hi]at h1
  rw[List.getElem?_append_left (by rw[h.1];exact hi)]at h2
  exact h.2 i k d h1 h2
 ·rw[List.getElem?_append_right (by omega)]at h1
  rw[List.getElem?_append_right (by rw[h.1];omega),h.1]at h2
  exact h'.2 _ k d h1 h2
def g0(W:World):Gh:=⟨[],[],[],bN W⟩
theorem Up{W:World}{f:Nat}(h:f<W.heap.size):(g0 W).Imm f:=by
 refine⟨?_,?_,fun o v h=>?_⟩
 ·show f<(bN W).next
  unfold bN;rw[jZ];exact h
 ·show f∉([]:List Nat)
  simp
 ·have h:([]:List (Option (Nat×Nat)))[o]? = some (some (f,v)):=h
  simp at h
section
variable{H:Type}{enc:TypeId×Value->H}{W:World}
def Rd(W:World)(ks:List Ck)(cs:List Value)(b:Nat):Prop:=∃(vs:List V) (ds:List D),io W.heap.size ks cs vs/\RL (g0 W) ds vs/\Gc ks ds/\gx ds<=b
theorem RL.one{g:Gh}{d:D}{v:V}(h:RD g d v):RL g [d] [v]:=by
 simp only[RL];exact⟨v,[],rfl,h,rfl⟩
theorem Qc{ty e:Nat}{ly:List Ck}{kd:Nat->Ck}(hly:wQ ty=ly)(hkd:∀ i,kd i=ly.getD (i%ly.length) .bool)(hfv:∀ {N:Nat} {c:List Value} {off:Nat},off<c.length->bA (oY N c) (off*512+ty)=some ⟨off*512+ty,1+off,gz N kd 0 (c.drop off)⟩)(hu:Tryz.prog.underlying ty=some (.slice e))(hc:Tryz.prog.cellsOf e=ly.length)
 (h0:0<ly.length) (hb:0<Tryz.prog.bytesOf e) {fuel:Nat} {cs:List Value} {x:DataW H×List MemPlace} (h:Td enc W fuel ty cs=some x) (hw:Wt ty x.1)
 (hel:∀ n cells y,fuel=n+1->Td enc W n e cells=some y->Wt e y.1->Rd W ly cells (Rows.uptoBulk y.1)):Rd W [.sl ty] cs (Rows.uptoBulk x.1):=by
 rcases DataW.trod_slice hu h with⟨rfl,_⟩|⟨a,len,cap,elems,rest,n,hn,rfl,hx,_,hle,_,hlen,hel',hsp,_⟩
 ·exact⟨[.nilslice],[.row ly.length []],⟨rfl,trivial⟩,RL.one (by rw[RD];exact .inl ⟨rfl,rfl⟩),.one (.row ty ly [] hly (by simp) (fun _ h=>by cases h) (fun _ h=>by cases h)),by simpa[gx,LH,jf]using wo x.1⟩
 ·subst hn
  by_cases hcap:cap=0
  ·obtain rfl:len=0:=by omega
   subst hcap
   exact⟨[.slice ⟨a.block,Gr a.spot,a.off⟩ 0 0 (some 0) 0],[.row ly.length []],⟨by simp only[sS,Ga,if_true],trivial⟩,RL.one (by rw[RD];exact .inr (.inl ⟨rfl,_,_,_,rfl⟩)),.one (.row ty ly [] hly (by simp) (fun _ h=>by cases h) (fun _ h=>by cases h)),by simpa[gx,LH,jf]using wo x.1⟩
  ·obtain⟨hrl,hre⟩:=hsp rfl
   have hwe:∀ y,y∈elems->Wt e y.1:=fun y hy m hm=>by
    refine hw m ?_
    rw[hx]
    simp only[DataW.weights,hu]
    exact List.mem_cons_of_mem _ (List.mem_append_left _ (me (List.mem_map_of_mem hy) m hm))
   have hbn:len*Tryz.prog.bytesOf e<=reachBytes:=by
    have:=hw ((elems.length+rest.length)*Tryz.prog.bytesOf e) (by rw[hx];simp only[DataW.weights,hu,List.length_map];exact List.mem_cons_self)
    refine Nat.le_trans (Nat.mul_le_mul_right _ ?_) this
    omega
   have hfirst:∃ cells,W.cells? 0 (a.add 0) ly.length=some cells:=by
    by_cases h1:0<len
    ·have:=hel' 0 h1
     rw[Nat.zero_mul,hc,List.getElem?_eq_getElem (by omega)]at this
     obtain⟨cells,h2,_⟩:=Option.bind_eq_some_iff.1 this
     exact⟨cells,h2⟩
    ·have:=hre 0 (by omega)
     rw[show(len+0)*Tryz.prog.cellsOf e=0 by rw[show len=0 by omega];simp,hc,List.getElem?_eq_getElem (by omega)]at this
     obtain⟨cells,h2,_⟩:=Option.bind_eq_some_iff.1 this
     exact⟨cells,h2⟩
   obtain⟨c0,hc0⟩:=hfirst
   obtain⟨_,hc1,hc2⟩:=World.cells?_some hc0
   have hcell:=hc2 0 h0
   rw[List.getElem?_eq_getElem (by omega)]at hcell
   simp only[Addr.add,if_true]at hcell
   obtain⟨carr,e',fz,hheap,hspot,hcell⟩:=FH hcell
   obtain⟨b,off,spot⟩:=a
   simp only at hspot hheap hcell
   subst hspot
   have hblk:b<W.heap.size:=by
    have:=(Array.getElem?_eq_some_iff.1 hheap).1
    exact this
   have hoff:off<carr.size:=(Array.getElem?_eq_some_iff.1 hcell).1
   obtain⟨zs,hzl,hz⟩:=yC (Q:=fun k (z:List D×List V)=>∃ cells,W.cells? 0 ((⟨b,off,none⟩:Addr).add (k*ly.length)) ly.length=some cells/\io W.heap.size ly cells z.2/\RL (g0 W) z.1 z.2/\Gc ly z.1/\∀ y,elems[k]? = some y->gx z.1<=Rows.uptoBulk y.1) len (fun k hk=>by
    have:=hel' k hk
    rw[hc,List.getElem?_eq_getElem (by omega)]at this
    obtain⟨cells,h2,h3⟩:=Option.bind_eq_some_iff.1 this
    obtain⟨l,z,h4,h5,h6,h7⟩:=hel n cells _ rfl h3 (hwe _ (List.getElem_mem _))
    exact⟨(z,l),cells,h2,h4,h5,h6,fun y hy=>by rw[List.getElem?_eq_getElem (by omega)]at hy;cases hy;exact h7⟩)
   have hcellat:∀ k,k<len->∀ cells,W.cells? 0 ((⟨b,off,none⟩:Addr).add (k*ly.length)) ly.length=some cells->∀ i,i<ly.length->carr.toList[off+(k*ly.length+i)]? = cells[i]?:=fun k hk cells hcl i hi=>by
    obtain⟨_,h1,h2⟩:=World.cells?_some hcl
    have h3:=h2 i hi
    have h4:((⟨b,off,none⟩:Addr).add (k*ly.length)).add i=⟨b,off+(k*ly.length+i),none⟩:=by
     simp only[Addr.add]
     by_cases hk0:k*ly.length=0
     ·by_cases hi0:i=0
      ·simp[hk0,hi0]
      ·simp[hk0,hi0]
     ·by_cases hi0:i=0
      ·simp[hk0,hi0]
      ·simp[hk0,hi0];omega
    rw[h4]at h3
    simp only[World.cell?,hheap]at h3
    rw[Array.getElem?_toList]
    simpa using h3
   have hrow:∀ k,k<len->∀ cells l,W.cells? 0 ((⟨b,off,none⟩:Addr).add (k*ly.length)) ly.length=some cells->io W.heap.size ly cells l->∀ i,i<ly.length->∃ y x,(carr.toList.drop off)[k*ly.length+i]? = some y/\l[i]? = some x/\sS W.heap.size (kd (0+(k*ly.length+i))) y=some x:=fun k hk cells l hcl hab i hi=>by
    obtain⟨h1,h2,h3⟩:=io.get hab
    have hi':i<l.length:=by omega
    obtain⟨y,hy1,hy2⟩:=h3 i l[i] (List.getElem?_eq_getElem hi')
    refine⟨y,l[i],?_,List.getElem?_eq_getElem hi',?_⟩
    ·rw[List.getElem?_drop,hcellat k hk cells hcl i hi];exact hy1
    ·rw[hkd,Nat.zero_add,Nat.add_comm,Nat.add_mul_mod_self_right,Nat.mod_eq_of_lt hi]
     exact hy2
   have hall:∀ j,j<len*ly.length->∃ y x,(carr.toList.drop off)[j]? = some y/\sS W.heap.size (kd (0+j)) y=some x:=fun j hj=>by
    have hk:j / ly.length<len:=Nat.div_lt_of_lt_mul (by rw[Nat.mul_comm];exact hj)
    obtain⟨cells,h1,h2,_⟩:=hz (j / ly.length) _ (List.getElem?_eq_getElem (by omega))
    obtain⟨y,x,h3,_,h4⟩:=hrow _ hk cells _ h1 h2 (j%ly.length) (Nat.mod_lt _ h0)
    have hj2:j / ly.length*ly.length+j%ly.length=j:=by rw[Nat.mul_comm];exact Nat.div_add_mod j ly.length
    rw[hj2]at h3 h4
    exact⟨y,x,h3,h4⟩
   have hn50:len<2^50:=by
    have:len<=reachBytes:=Nat.le_trans (Nat.le_mul_of_pos_right _ hb) hbn
    unfold reachBytes at this
    omega
   refine⟨[.slice ⟨b,off*512+ty,1+off⟩ 0 len (some cap) ly.length],[.row ly.length (zs.map (·.1))],⟨by simp only[sS,Ga];rw[if_neg hcap,hly,if_pos ⟨trivial,hle,hblk,h0⟩],trivial⟩,RL.one ?_,.one (.row ty ly _ hly (by simp[hzl,hn50]) ?_ ?_),?_⟩
   ·rw[RD]
    refine .inr (.inr ⟨⟨b,off*512+ty,1+off⟩,0,some cap,by simp[hzl],h0,.inl rfl,fun c hc=>by cases hc;simp[hzl,hle],fun _=>Up hblk,RR.of fun k l0 hk=>?_⟩)
    rw[List.getElem?_map]at hk
    obtain⟨z,hkz,hz0⟩:∃ z,zs[k]? = some z/\z.1=l0:=by
     cases hh:zs[k]? with
     |none=>rw[hh]at hk;cases hk
     |some z=>rw[hh]at hk;cases hk;exact⟨z,rfl,rfl⟩
    have hkl:k<len:=by rw[<- hzl];exact(List.getElem?_eq_some_iff.1 hkz).1
    obtain⟨cells,h1,h2,h3,h4,_⟩:=hz k z hkz
    obtain⟨_,l⟩:=z
    simp only at hz0 h2 h3 h4
    subst hz0
    refine⟨l,h4.1,?_,h3,h2.one⟩
    have hg:(bN W).get b=some (.ro (oY W.heap.size carr.toList)):=by
     unfold bN
     rw[vk,if_pos hblk,hheap]
     rfl
    show Go.AI.loadCells (bN W) (ci ⟨b,off*512+ty,1+off⟩ (k*ly.length)) ly.length=some l
    simp only[Go.AI.loadCells,ci,hg,hfv (N:=W.heap.size) (c:=carr.toList) (off:=off) (by simpa using hoff)]
    rw[Nat.ble_eq_true_of_le (show 1+off<=1+off+k*ly.length by omega),cond_true,show 1+off+k*ly.length - (1+off)=k*ly.length by omega]
    obtain⟨k1,k2,k3⟩:=io.get h2
    have hget:∀ i,i<ly.length->((gz W.heap.size kd 0 (carr.toList.drop off)).drop (k*ly.length))[i]? = l[i]?:=fun i hi=>by
     obtain⟨y,x,h4,h5,h6⟩:=hrow k hkl cells l h1 h2 i hi
     rw[List.getElem?_drop,h5]
     refine Bw (len*ly.length) 0 _ hall _ ?_ y x h4 h6
     calc k*ly.length+i<k*ly.length+ly.length:=by omega
      _=(k+1)*ly.length:=by rw[Nat.succ_mul]
      _<=len*ly.length:=Nat.mul_le_mul_right _ hkl
    have hlen2:ly.length<=((gz W.heap.size kd 0 (carr.toList.drop off)).drop (k*ly.length)).length:=by
     have:=hget (ly.length - 1) (by omega)
     rw[List.getElem?_eq_getElem (show ly.length - 1<l.length by omega)]at this
     have:=(List.getElem?_eq_some_iff.1 this).1
     omega
    rw[mh _ _ hlen2]
    refine congrArg some ?_
    refine List.ext_getElem? fun i=>?_
    by_cases hi:i<ly.length
    ·rw[List.getElem?_take_of_lt hi,hget i hi]
    ·rw[List.getElem?_eq_none (by rw[List.length_take];omega),List.getElem?_eq_none (by omega)]
   ·intro cs hcs
    obtain⟨z,hz1,rfl⟩:=List.mem_map.1 hcs
    obtain⟨k,hk,rfl⟩:=List.mem_iff_getElem.1 hz1
    obtain⟨_,_,_,_,h4,_⟩:=hz k _ (List.getElem?_eq_getElem hk)
    exact h4.1
   ·intro cs hcs
    obtain⟨z,hz1,rfl⟩:=List.mem_map.1 hcs
    obtain⟨k,hk,rfl⟩:=List.mem_iff_getElem.1 hz1
    obtain⟨_,_,_,_,h4,_⟩:=hz k _ (List.getElem?_eq_getElem hk)
    exact h4.2
   ·have:=FD (zs.map (·.1)) (elems.map (·.1)) (by simp[hzl,hlen]) fun i a d e1 e2=>by
     rw[List.getElem?_map]at e1 e2
     cases h1:zs[i]? with
     |none=>rw[h1]at e1;cases e1
     |some z =>
      cases h2:elems[i]? with
      |none=>rw[h2]at e2;cases e2
      |some y =>
       rw[h1]at e1;rw[h2]at e2
       cases e1;cases e2
       obtain⟨_,_,_,_,_,h5⟩:=hz i z h1
       exact h5 y h2
    rw[hx]
    simp only[gx,LH,Rows.uptoBulk]
    omega
theorem IF{m:Nat}{P:TypeId->List Value->DataW H->Prop}{cs:List Value}(hP:∀ t ks c y,Hh m t=some ks->Tryz.prog.cellsOf t=ks.length->P t c y->Rd W ks c (Rows.uptoBulk y)):∀(fs:List Field) (ys:List (DataW H)) (off:Nat) (ks:List Ck),NK Tryz.prog (Hi Tryz.prog m) fs off=some ks->fs.length=ys.length ->
 (∀(i:Nat) f y,fs[i]? = some f->ys[i]? = some y->P f.type ((cs.drop f.offset).take (Tryz.prog.cellsOf f.type)) y)->Rd W ks ((cs.drop off).take ks.length) (Rows.uptoBulkAll ys)
 |[],ys,off,ks,h,_,_=>by
  simp only[NK,Option.some.injEq]at h
  subst h
  exact⟨[],[],by simp[io],by simp only[RL],.nil,by simp[gx]⟩
 |f::r,[],off,ks,_,hl,_=>by simp at hl
 |f::r,y::ys,off,ks,h,hlen,hf=>by
  simp only[NK]at h
  cases ho:Nat.beq f.offset off with
  |false=>rw[ho,cond_false]at h;cases h
  |true =>
   rw[ho,cond_true]at h
   have ho:=Nat.eq_of_beq_eq_true ho
   split at h
   ·rename_i l hl
    cases hc:Nat.beq l.length (Tryz.prog.cellsOf f.type)with
    |false=>rw[hc,cond_false]at h;cases h
    |true =>
     rw[hc,cond_true]at h
     have hc:=Nat.eq_of_beq_eq_true hc
     split at h
     ·rename_i m' hm
      cases h
      obtain⟨v1,d1,a1,a2,a3,a4⟩:=hP f.type l _ y hl hc.symm (hf 0 f y rfl rfl)
      obtain⟨v2,d2,b1,b2,b3,b4⟩:=IF hP r ys (off+l.length) m' hm (by simpa using hlen) fun i g z e1 e2=>hf (i+1) g z (by simpa using e1) (by simpa using e2)
      refine⟨v1++v2,d1++d2,?_,RL.append a2 b2,a3.app b3,by rw[FF];simp only[Rows.uptoBulkAll];omega⟩
      have:(cs.drop off).take (l++m').length=(cs.drop f.offset).take (Tryz.prog.cellsOf f.type)++(cs.drop (off+l.length)).take m'.length:=by
       rw[ho,<- hc,List.length_append,<- List.drop_drop,<- List.take_add]
      rw[this]
      exact a1.app b1
     ·cases h
   ·cases h
theorem Tv:∀(N m:Nat) {fuel:Nat} {t:TypeId} {cs:List Value} {ks:List Ck} {x:DataW H×List MemPlace},fuel<=N->Hh m t=some ks->Tryz.prog.cellsOf t=ks.length->Td enc W fuel t cs=some x->Wt t x.1->Rd W ks cs (Rows.uptoBulk x.1):=by
 intro N
 induction N with
 |zero =>
  intro m fuel t cs ks x hN _ _ h _
  obtain rfl:fuel=0:=by omega
  simp[Td,DataW.trod]at h
 |succ N ih =>
  intro m fuel t cs ks x hN hk hcl h hw
  cases m with
  |zero=>change Hi Tryz.prog 0 t=_ at hk;rw[Hi]at hk;cases hk
  |succ m =>
   change Hi Tryz.prog (m+1) t=_ at hk
   rw[Hi]at hk
   split at hk
   ·rename_i ht
    cases hk
    obtain⟨b,rfl,_⟩:=DataW.trod_bool ht h
    exact⟨[.bool b],[.bool b],⟨rfl,trivial⟩,RL.one (by simp only[RD]),.one (.bool b),by simpa[gx,LH]using wo x.1⟩
   ·rename_i ht
    cases hk
    obtain⟨n,rfl,_⟩:=DataW.trod_int ht h
    exact⟨[.int .i64 n],[.int .i64 n],⟨rfl,trivial⟩,RL.one (by simp only[RD]),.one (.int n),by simpa[gx,LH]using wo x.1⟩
   ·rename_i ht
    cases hk
    obtain⟨s,rfl,_⟩:=DataW.trod_string ht h
    exact⟨[.str (bytesOf s)],[.str (bytesOf s)],⟨rfl,trivial⟩,RL.one (by simp only[RD];exact⟨trivial,OR s⟩),.one (.str _),by simpa[gx,LH]using wo x.1⟩
   ·rename_i e ht
    cases hc:LV.contains t with
    |false=>rw[hc,cond_false]at hk;cases hk
    |true =>
     rw[hc,cond_true]at hk
     cases hk
     have hty:t∈LV:=by simpa using hc
     have hok:=List.all_eq_true.1 Mb t hty
     simp only[Bool.and_eq_true]at hok
     have hok:=hok.2
     unfold okT at hok
     rw[ht]at hok
     simp only at hok
     have hly:wQ t=(Hh 8 e).getD []:=by unfold wQ;rw[ht]
     split at hok
     ·rename_i l he
      rw[he]at hly
      have hly:wQ t=l:=hly
      simp only[Bool.and_eq_true]at hok
      obtain⟨k1,k2,k3,k4⟩:=hok
      have k1:0<l.length:=Nat.lt_of_succ_le (Nat.le_of_ble_eq_true k1)
      have k2:=Nat.eq_of_beq_eq_true k2
      have k4:0<Tryz.prog.bytesOf e:=Nat.lt_of_succ_le (Nat.le_of_ble_eq_true k4)
      exact Qc (kd:=sw t) hly (fun i=>by unfold sw;rw[hly]) (fun h=>CD h hty) ht k2 k1 k4 h hw fun n cells y hf hy hwy=>ih 8 (by omega) he k2 hy hwy
     ·cases hok
   ·rename_i fs ht
    obtain⟨xs,n,hn,hx,hl,hsz,hf⟩:=DataW.trod_struct ht h
    have hr:=IF (W:=W) (m:=m) (cs:=cs) (P:=fun t c y=>∃ z,Td enc W n t c=some z/\z.1=y/\Wt t z.1) (fun t ks c y hks h0 ⟨z,h1,h2,h3⟩=>by rw[<- h2];exact ih m (by omega) hks h0 h1 h3) fs.toList (xs.map (·.1)) 0 ks hk (by simp[hsz]) (fun i f y e1 e2=>by
     have e3:fs[i]? = some f:=by rw[<- Array.getElem?_toList];exact e1
     rw[List.getElem?_map]at e2
     cases e4:xs[i]? with
     |none=>rw[e4]at e2;cases e2
     |some z =>
      rw[e4]at e2;cases e2
      refine⟨z,(hf i f e3).trans e4,rfl,fun q hq=>hw q ?_⟩
      rw[hx]
      simp only[DataW.weights,ht]
      refine iO (i:=i) (t:=f.type) (d:=z.1) ?_ ?_ q hq
      ·rw[List.getElem?_map,Array.getElem?_toList,e3];rfl
      ·rw[List.getElem?_map,e4];rfl)
    rw[List.drop_zero,List.take_of_length_le (by omega)]at hr
    obtain⟨vs,ds,r1,r2,r3,r4⟩:=hr
    exact⟨vs,ds,r1,r2,r3,by rw[hx];simp only[Rows.uptoBulk];omega⟩
   ·cases hk
end
end Go.Proofs.YtpghiabjaglpgaaGreatDoor.Rd
