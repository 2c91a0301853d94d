/- The evaluator by which runs of the program are reckoned, and that it is sound: part 3. No conditions beyond those of the row. -/
import Derived.Test.YtpghiabjaglpgaaGreatDoorA2
import Derived.Laws.IdiomStrings
import Derived.Lib.Bytealg
import Derived.Defers
import Derived.Recover
import Derived.RangeFuncRecord
set_option linter.all false
noncomputable section
namespace Go.AI
section ops
variable{P:Program}{ρ:aB}{s:S}{w:World}{t:T V}{tm:Array Value}
theorem kW{r:Nat}{es:Array MapEntry}{c:Nat}(h:w.heap[r]? = some (.map es c)):(getObj r).run P w=.ok (.map es c) w:=by
 simp only[getObj,Sem.run,h]
theorem vY{r:Nat}{es:Array MapEntry}{c:Nat}(h:w.heap[r]? = some (.map es c))(o:Obj):(setObj r o).run P w=.ok () { w with heap:=w.heap.setIfInBounds r o }:=by
 simp only[setObj,Sem.run,h]
theorem vB(w:World)(r:Nat)(o:Obj):Ta w { w with heap:=w.heap.setIfInBounds r o } r :=
 ⟨by simp,rfl,rfl,rfl,fun k hk=>by simp[Ne.symm hk]⟩
theorem DO{r:Nat}{o':Obj}(h:w.heap[r]? = some o')(o:Obj):({ w with heap:=w.heap.setIfInBounds r o }:World).heap[r]? = some o:=by
 have hlt:=(Array.getElem?_eq_some_iff.1 h).1
 simp[hlt]
theorem jm{kt:TypeId}(h:dJ P kt=true):∃ d,P.underlying kt=some d/\((∃ k,d=.int k)\/d=.string\/d=.bool\/∃ e,d=.pointer e):=by
 unfold dJ at h
 split at h<;>first|(cases h;done)|(rename_i hd;refine⟨_,hd,?_⟩;simp)
theorem iy{kt:TypeId}(h:dJ P kt=true)(b:Bool)(K:Value):(Instr.checkKey b 10000 kt K).run P w=.ok () w:=by
 obtain⟨d,hd,h1⟩:=jm h
 show(Instr.checkKey b (9999+1) kt K).run P w=_
 rw[Instr.checkKey]
 simp only[Sem.run_bind,av hd,Result.andThen_ok]
 rcases h1 with⟨k,rfl⟩|rfl|rfl|⟨e,rfl⟩<;>rfl
structure Sq(P:Program)(ρ:aB)(w:World)(kt:TypeId)(eq:V->V->Option Bool)(k:V)(K:Value):Prop where
 ask:∀ key y r,eq k key=some r->den ρ key=some y->(Op.equal kt K y).run P w=.ok r w
 same:∀ key y,eq k key=some true->den ρ key=some y->y=K
 now:∀ d,P.underlying kt=some d->(∀ key y r,eq k key=some r->den ρ key=some y->Instr.sameNow d K y=some r)\/(∀ y,Instr.sameNow d K y=none)
 bits:∀ n,Instr.sameBits (n+1) K K=true
theorem vO:∀ {a b:List Nat},jT a b=some true->a=b
 |[],[],_=>rfl
 |[],_::_,h=>by cases h
 |_::_,[],h=>by cases h
 |a::x,b::y,h=>by
  simp only[jT]at h
  cases hb:Nat.beq a b with
  |true=>rw[hb]at h;rw[Nat.eq_of_beq_eq_true hb,vO h]
  |false =>
   rw[hb]at h
   cases hc:(Nat.blt a 256&&Nat.blt b 256)with
   |true=>rw[hc]at h;cases h
   |false=>rw[hc]at h;cases h
theorem OZ(a b:ByteArray):(a==b)=(a.data==b.data):=by cases a;cases b;rfl
theorem HK(a b:List Nat):(ay a==ay b)=((ay a).toList==(ay b).toList):=by
 rw[OZ,bE,bE]
 show((a.map UInt8.ofNat).toArray==(b.map UInt8.ofNat).toArray)=_
 simp
theorem RW(a:ByteArray):(a==a)=true:=by rw[OZ];simp
theorem RY(h:HR ρ s w){kt:TypeId}(hs:dJ P kt=true){k:V}{K:Value}(hk:den ρ k=some K){e0:oz}{r0:Bool}(h0:cF P (bz s) 20 kt k e0.key=some r0) :
 Sq P ρ w kt (cF P (bz s) 20 kt) k K:=by
 obtain⟨d,hd,h1⟩:=jm hs
 have key:∀ key,cF P (bz s) 20 kt k key≠none->(∃ a b i j,k=.int i a/\key=.int j b/\∃ kk,d=.int kk)\/(∃ a b,k=.str a/\key=.str b/\d=.string)\/(∃ a b,k=.bool a/\key=.bool b/\d=.bool) \/
  ((∃ e,d=.pointer e)/\((k=.nilptr/\key=.nilptr)\/(∃ a,k=.nilptr/\key=.ptr a)\/(∃ a,k=.ptr a/\key=.nilptr)\/(∃ a b,k=.ptr a/\key=.ptr b))):=by
  intro key hne
  rcases h1 with⟨kk,rfl⟩|rfl|rfl|⟨e,rfl⟩<;>unfold cF at hne<;>simp only[hd]at hne
  ·cases k<;>cases key<;>simp at hne ⊢
  ·cases k<;>cases key<;>simp at hne ⊢
  ·cases k<;>cases key<;>simp at hne ⊢
  ·cases k<;>cases key<;>simp at hne ⊢
 refine⟨fun key' y r he hy=>uB h 20 kt k key' r K y 10000 he hk hy (by omega),fun key' y he hy=>?_,fun d' hd'=>?_,fun n=>?_⟩
 ·have he2:=he
  rcases key key' (by rw[he2];simp)with⟨a,b,i,j,rfl,rfl,kk,rfl⟩|⟨a,b,rfl,rfl,rfl⟩|⟨a,b,rfl,rfl,rfl⟩|⟨⟨e,rfl⟩,⟨rfl,rfl⟩|⟨a,rfl,rfl⟩|⟨a,rfl,rfl⟩|⟨a,b,rfl,rfl⟩⟩<;>unfold cF at he<;>simp only[hd]at he
  · 
   cases hq:cP i j with
   |false=>rw[hq]at he;cases he
   |true =>
    rw[hq]at he
    obtain rfl:i=j:=of_decide_eq_true hq
    simp at he
    cases hk;cases hy;rw[he]
  ·rw[vO he]at hk
   rw[hk]at hy;exact(Option.some.inj hy).symm
  ·simp at he
   subst he
   rw[hk]at hy;exact(Option.some.inj hy).symm
  ·rw[hk]at hy;exact(Option.some.inj hy).symm
  ·simp at he
  ·simp at he
  ·split at he
   ·rename_i n hn
    cases hz:Nat.beq n 0 with
    |true=>rw[hz]at he;cases he
    |false =>
     rw[hz]at he
     simp only[cond_false,IM]at he
     cases hp:(bz s a&&bz s b)with
     |false=>rw[hp]at he;cases he
     |true =>
     rw[hp]at he
     simp only[cond_true]at he
     cases hf:Nat.beq a.f b.f with
     |false=>simp[hf]at he
     |true =>
      cases hv:Nat.beq a.v b.v with
      |false=>simp[hf,hv]at he
      |true =>
       simp[hf,hv]at he
       have e1:=Nat.eq_of_beq_eq_true hf
       have e2:=Nat.eq_of_beq_eq_true hv
       have:a=b:=by cases a;cases b;simp_all
       subst this
       rw[hk]at hy;exact(Option.some.inj hy).symm
   ·cases he
 ·rw[hd]at hd'
  cases hd'
  rcases h1 with⟨kk,rfl⟩|rfl|rfl|⟨e,rfl⟩
  ·left;intro key' y r he hy
   have he2:=he
   unfold cF at he
   simp only[hd]at he
   rcases key key' (by rw[he2];simp)with⟨a,b,i,j,rfl,rfl,_,_⟩|⟨a,b,rfl,rfl,hh⟩|⟨a,b,rfl,rfl,hh⟩|⟨⟨e,hh⟩,_⟩<;>try(cases hh;done)
   simp only at he
   cases hq:cP i j with
   |false=>rw[hq]at he;cases he
   |true =>
    rw[hq]at he
    obtain rfl:i=j:=of_decide_eq_true hq
    cases hk;cases hy
    simpa[Instr.sameNow]using he
  ·left;intro key' y r he hy
   have he2:=he
   unfold cF at he
   simp only[hd]at he
   rcases key key' (by rw[he2];simp)with⟨a,b,i,j,rfl,rfl,_,hh⟩|⟨a,b,rfl,rfl,_⟩|⟨a,b,rfl,rfl,hh⟩|⟨⟨e,hh⟩,_⟩<;>try(cases hh;done)
   simp only at he
   cases hk;cases hy
   simp only[Instr.sameNow,HK,kN he]
  ·left;intro key' y r he hy
   have he2:=he
   unfold cF at he
   simp only[hd]at he
   rcases key key' (by rw[he2];simp)with⟨a,b,i,j,rfl,rfl,_,hh⟩|⟨a,b,rfl,rfl,hh⟩|⟨a,b,rfl,rfl,_⟩|⟨⟨e,hh⟩,_⟩<;>try(cases hh;done)
   simp only at he
   cases hk;cases hy
   simpa[Instr.sameNow]using he
  ·right;intro y;cases K<;>cases y<;>rfl
 ·rcases key e0.key (by rw[h0];simp)with⟨a,b,i,j,rfl,_⟩|⟨a,b,rfl,_⟩|⟨a,b,rfl,_⟩|⟨_,⟨rfl,_⟩|⟨a,rfl,_⟩|⟨a,rfl,_⟩|⟨a,b,rfl,_⟩⟩
  ·cases hk;simp[Instr.sameBits]
  ·cases hk;simp[Instr.sameBits,RW]
  ·cases hk;simp[Instr.sameBits]
  ·cases hk;simp[Instr.sameBits]
  ·cases hk;simp[Instr.sameBits]
  ·simp only[den]at hk;split at hk<;>cases hk;simp[Instr.sameBits]
  ·simp only[den]at hk;split at hk<;>cases hk;simp[Instr.sameBits]
def PA(ρ:aB)(eq:V->V->Option Bool)(k:V)(y:Value)(r:Bool):Prop:=∃ key,den ρ key=some y/\eq k key=some r
theorem AY{eq:V->V->Option Bool}{k:V}:∀ {es:List oz} {rs:List MapEntry},fq ρ es rs->bS eq k es=some none->∀ e∈rs,PA ρ eq k e.key false
 |[],[],_,_,e,he=>by cases he
 |a::es,b::rs,⟨h1,h2⟩,h,e,he=>by
  simp only[bS]at h
  cases hq:eq k a.key with
  |none=>simp[hq,bS.foundKey]at h
  |some q =>
   cases q with
   |true=>simp[hq,bS.foundKey]at h
   |false =>
    simp only[hq,bS.foundKey]at h
    rcases List.mem_cons.1 he with rfl|he
    ·exact⟨a.key,h1.1,hq⟩
    ·exact AY h2 h e he
 |[],_::_,h,_,_,_=>h.elim
 |_::_,[],h,_,_,_=>h.elim
theorem EQ{eq:V->V->Option Bool}{k v:V}:∀ {es:List oz} {rs:List MapEntry},fq ρ es rs->bS eq k es=some (some v) ->
 ∃ pre e post,rs=pre++e::post/\(∀ e'∈pre,PA ρ eq k e'.key false)/\PA ρ eq k e.key true/\den ρ v=some e.val
 |[],[],_,h=>by simp[bS]at h
 |a::es,b::rs,⟨h1,h2⟩,h=>by
  simp only[bS]at h
  cases hq:eq k a.key with
  |none=>simp[hq,bS.foundKey]at h
  |some q =>
   cases q with
   |true =>
    simp only[hq,bS.foundKey,Option.some.injEq]at h
    subst h
    exact⟨[],b,rs,rfl,(fun _ he=>by cases he),⟨a.key,h1.1,hq⟩,h1.2.1⟩
   |false =>
    simp only[hq,bS.foundKey]at h
    obtain⟨pre,e,post,rfl,g1,g2,g3⟩:=EQ h2 h
    refine⟨b::pre,e,post,rfl,fun e' he=>?_,g2,g3⟩
    rcases List.mem_cons.1 he with rfl|he
    ·exact⟨a.key,h1.1,hq⟩
    ·exact g1 e' he
 |[],_::_,h,_=>h.elim
 |_::_,[],h,_=>h.elim
theorem Dy{eq:V->V->Option Bool}{k x:V}:∀ {es:List oz} {rs:List MapEntry},fq ρ es rs->cE eq k x es=some none->∀ e∈rs,PA ρ eq k e.key false
 |[],[],_,_,e,he=>by cases he
 |a::es,b::rs,⟨h1,h2⟩,h,e,he=>by
  simp only[cE]at h
  cases hq:eq k a.key with
  |none=>simp[hq,cE.setKey]at h
  |some q =>
   cases q with
   |true=>simp[hq,cE.setKey]at h
   |false =>
    simp only[hq,cE.setKey]at h
    cases hu:cE eq k x es with
    |none=>simp[hu]at h
    |some u =>
     cases u with
     |some l=>simp[hu]at h
     |none =>
      rcases List.mem_cons.1 he with rfl|he
      ·exact⟨a.key,h1.1,hq⟩
      ·exact Dy h2 hu e he
 |[],_::_,h,_,_,_=>h.elim
 |_::_,[],h,_,_,_=>h.elim
theorem Ib{eq:V->V->Option Bool}{k x:V}{K X:Value}(hk:den ρ k=some K)(hx:den ρ x=some X):∀ {es es':List oz} {rs:List MapEntry},fq ρ es rs->cE eq k x es=some (some es') ->
 ∃ pre e post,rs=pre++e::post/\(∀ e'∈pre,PA ρ eq k e'.key false)/\PA ρ eq k e.key true/\fq ρ es' (pre++{ e with key:=K,val:=X }::post)
 |[],_,[],_,h=>by simp[cE]at h
 |a::es,es',b::rs,⟨h1,h2⟩,h=>by
  simp only[cE]at h
  cases hq:eq k a.key with
  |none=>simp[hq,cE.setKey]at h
  |some q =>
   cases q with
   |true =>
    simp only[hq,cE.setKey,Option.some.injEq]at h
    subst h
    exact⟨[],b,rs,rfl,(fun _ he=>by cases he),⟨a.key,h1.1,hq⟩,⟨hk,hx,h1.2.2⟩,h2⟩
   |false =>
    simp only[hq,cE.setKey]at h
    cases hu:cE eq k x es with
    |none=>simp[hu]at h
    |some u =>
     cases u with
     |none=>simp[hu]at h
     |some l =>
      simp only[hu,Option.some.injEq]at h
      subst h
      obtain⟨pre,e,post,rfl,g1,g2,g3⟩:=Ib hk hx h2 hu
      refine⟨b::pre,e,post,rfl,fun e' he=>?_,g2,h1,g3⟩
      rcases List.mem_cons.1 he with rfl|he
      ·exact⟨a.key,h1.1,hq⟩
      ·exact g1 e' he
 |[],_,_::_,h,_=>h.elim
 |_::_,_,[],h,_=>h.elim
theorem Ej{d:TypeDesc}{K:Value}:∀ {rs:List MapEntry} (i:Nat),(∀ e∈rs,Instr.sameNow d K e.key=some false)->Instr.findNow d K rs i=some none
 |[],_,_=>rfl
 |e::rs,i,h=>by
  rw[Instr.findNow,h e (by simp)]
  exact Ej (i+1) fun e' he=>h e' (by simp[he])
theorem IW{d:TypeDesc}{K:Value}{e:MapEntry}{post:List MapEntry}(h1:Instr.sameNow d K e.key=some true):∀ {pre:List MapEntry} (i:Nat),(∀ e∈pre,Instr.sameNow d K e.key=some false)->Instr.findNow d K (pre++e::post) i=some (some (i+pre.length,e.val))
 |[],i,_=>by simp[Instr.findNow,h1]
 |a::pre,i,h=>by
  rw[List.cons_append,Instr.findNow,h a (by simp)]
  have:=IW (post:=post) h1 (pre:=pre) (i+1) fun e' he=>h e' (by simp[he])
  rw[show i+(a::pre).length=i+1+pre.length by simp;omega]
  exact this
theorem FO{kt:TypeId}{K:Value}:∀ {rs:List MapEntry} (i:Nat),(∀ e∈rs,(Op.equal kt K e.key).run P w=.ok false w)->(Instr.findAsking kt K rs i).run P w=.ok none w
 |[],_,_=>by simp[Instr.findAsking]
 |e::rs,i,h=>by
  simp only[Instr.findAsking,Sem.run_bind,h e (by simp),Result.andThen_ok,Bool.false_eq_true,if_false]
  exact FO (i+1) fun e' he=>h e' (by simp[he])
theorem JZ{kt:TypeId}{K:Value}{e:MapEntry}{post:List MapEntry}(h1:(Op.equal kt K e.key).run P w=.ok true w):∀ {pre:List MapEntry} (i:Nat),(∀ e∈pre,(Op.equal kt K e.key).run P w=.ok false w)->(Instr.findAsking kt K (pre++e::post) i).run P w=.ok (some (i+pre.length,e.val)) w
 |[],i,_=>by simp[Instr.findAsking,h1]
 |a::pre,i,h=>by
  simp only[List.cons_append,Instr.findAsking,Sem.run_bind,h a (by simp),Result.andThen_ok,Bool.false_eq_true,if_false]
  have:=JZ (post:=post) h1 (pre:=pre) (i+1) fun e' he=>h e' (by simp[he])
  rw[show i+(a::pre).length=i+1+pre.length by simp;omega]
  exact this
theorem DR{kt:TypeId}{d:TypeDesc}(hd:P.underlying kt=some d){eq:V->V->Option Bool}{k:V}{K:Value}{rs:List MapEntry}(A:rs≠[]->Sq P ρ w kt eq k K)(h:∀ e∈rs,PA ρ eq k e.key false) :
 (Instr.findKey kt K rs).run P w=.ok none w:=by
 by_cases hn:rs=[]
 ·subst hn;simp[Instr.findKey,av hd,Instr.findNow]
 ·replace A:=A hn
  simp only[Instr.findKey,Sem.run_bind,av hd,Result.andThen_ok]
  rcases A.now d hd with g|g
  ·rw[Ej 0 fun e he=>by obtain⟨key,h1,h2⟩:=h e he;exact g _ _ _ h2 h1];rfl
  ·cases rs with
   |nil=>exact absurd rfl hn
   |cons e rs =>
    rw[Instr.findNow,g]
    exact FO 0 fun e' he=>by obtain⟨key,h1,h2⟩:=h e' he;exact A.ask _ _ _ h2 h1
theorem Iy{kt:TypeId}{d:TypeDesc}(hd:P.underlying kt=some d){eq:V->V->Option Bool}{k:V}{K:Value}{pre post:List MapEntry}{e:MapEntry}(A:Sq P ρ w kt eq k K)(h:∀ e∈pre,PA ρ eq k e.key false)(h1:PA ρ eq k e.key true) :
 (Instr.findKey kt K (pre++e::post)).run P w=.ok (some (pre.length,e.val)) w:=by
 simp only[Instr.findKey,Sem.run_bind,av hd,Result.andThen_ok]
 obtain⟨key,k1,k2⟩:=h1
 rcases A.now d hd with g|g
 ·rw[IW (g _ _ _ k2 k1) 0 fun e he=>by obtain⟨key,h1,h2⟩:=h e he;exact g _ _ _ h2 h1]
  simp
 ·have hno:Instr.findNow d K (pre++e::post) 0=none:=by
   cases pre<;>(simp only[List.nil_append,List.cons_append];rw[Instr.findNow,g])
  rw[hno]
  have:=JZ (P:=P) (w:=w) (post:=post) (A.ask _ _ _ k2 k1) 0 fun e he=>by obtain⟨key,h1,h2⟩:=h e he;exact A.ask _ _ _ h2 h1
  simpa using this
theorem oa(h:HR ρ s w){kt:TypeId}(hs:dJ P kt=true){k:V}{K:Value}(hk:den ρ k=some K){y:Value}{r:Bool}(ha:PA ρ (cF P (bz s) 20 kt) k y r) :
 Sq P ρ w kt (cF P (bz s) 20 kt) k K:=by
 obtain⟨key,_,h2⟩:=ha
 exact RY h hs hk (e0:=⟨key,key,0⟩) h2
theorem Cl{r:Nat}{y:Value}(h:den ρ (.map r)=some y):∃ l,ρ r 0=some l/\y=.map (some l.b):=by
 simp only[den]at h
 split at h
 ·rename_i l hl;cases h;exact⟨l,hl,rfl⟩
 ·cases h
theorem ng(h:HR ρ s w)(ht:TR ρ t tm){ty:TypeId}{x k:Operand}{ok:Bool}{nx:Nx}(e:bj s (jc P s ty (eval t x) (eval t k) ok)=some nx) :
 yW P ρ w s nx ((do pure (Next.value (<- Instr.lookup ty (rv tm x) (rv tm k) ok)):Sem Next).run P w):=by
 refine aP h e fun v hv=>?_
 unfold jc at hv
 split at hv
 ·rename_i kt el hu
  split at hv
  ·rename_i m hm
   split at hv
   ·rename_i k' hk
    have dm:=az ht hm
    have dk:=az ht hk
    generalize rv tm x=X at *
    generalize rv tm k=K at *
    split at hv
    ·rename_i es hes
     cases hs:dJ P kt with
     |false=>rw[hs]at hv;cases hv
     |true =>
      rw[hs]at hv
      simp only[cond_true]at hv
      obtain⟨d,hd,_⟩:=jm hs
      have hX:∃(rs:Array MapEntry),fq ρ es rs.toList/\∀(o:Option (Nat×Value)),(Instr.findKey kt K rs.toList).run P w=.ok o w ->
       (Instr.lookup ty X K ok).run P w=match o with
        |some (_,v)=>.ok (if ok then .tuple #[v,.bool true] else v) w
        |none=>((zeroValue el).run P w).andThen fun v w=>.ok (if ok then .tuple #[v,.bool false] else v) w:=by
       unfold yg at hes
       split at hes
       ·cases hes;cases dm
        refine⟨#[],trivial,fun o ho=>?_⟩
        simp only[Instr.lookup,Sem.run_bind,av hu,Result.andThen_ok,Sem.run_pure,iy hs,ho]
        cases o with
        |none=>simp only[Sem.run_bind,Sem.run_pure];cases (zeroValue el).run P w<;>rfl
        |some o=>rfl
       ·rename_i r
        split at hes
        ·rename_i es' clock hg
         cases hes
         obtain⟨l,hl,rfl⟩:=Cl dm
         obtain⟨l',rs,g1,g2,g3⟩:=h.blk _ _ hg
         rw[hl]at g1;cases g1
         refine⟨rs,g3,fun o ho=>?_⟩
         simp only[Instr.lookup,Sem.run_bind,av hu,Result.andThen_ok,kW g2,Sem.run_pure,iy hs,ho]
         cases o with
         |none=>simp only[Sem.run_bind,Sem.run_pure];cases (zeroValue el).run P w<;>rfl
         |some o=>rfl
        ·cases hes
       ·cases hes
      obtain⟨rs,hrs,hrun⟩:=hX
      unfold Jt at hv
      split at hv
      ·rename_i u hf
       cases hv
       obtain⟨pre,e,post,g1,g2,g3,g4⟩:=EQ hrs hf
       have A:=oa h hs dk g3
       have:=hrun _ (by rw[g1];exact Iy hd A g2 g3)
       refine⟨_,?_,this⟩
       cases ok
       ·exact g4
       ·simp only[cond_true,if_true,den,aN,g4]
      ·rename_i hf
       have hm:=AY hrs hf
       have:=hrun none (DR hd (fun hne=>by
        cases hr:rs.toList with
        |nil=>exact absurd hr hne
        |cons e r=>exact oa h hs dk (hm e (by rw[hr];simp))) hm)
       split at hv
       ·rename_i z hz
        cases hv
        obtain⟨zv,it,hi,hzi,hden⟩:=eh hz
        simp only[fj hi hzi,Result.andThen_ok]at this
        refine⟨_,?_,this⟩
        cases ok
        ·exact hden ρ
        ·simp only[cond_true,if_true,den,aN,hden ρ]
       ·cases hv
      ·cases hv
    ·cases hv
   ·cases hv
  ·cases hv
 ·cases hv
theorem Km(K old:Value)(h1:old=K)(hb:∀ n,Instr.sameBits (n+1) K K=true):(Instr.keyThatStays old K).run P w=.ok K w:=by
 subst h1
 have:=hb 9999
 simp only[Instr.keyThatStays]
 rw[if_pos this];rfl
theorem fq.length:∀ {es:List oz} {rs:List MapEntry},fq ρ es rs->es.length=rs.length
 |[],[],_=>rfl
 |_::_,_::_,⟨_,h⟩=>by simp[fq.length h]
 |[],_::_,h=>h.elim
 |_::_,[],h=>h.elim
theorem fq.snoc{k x:V}{K X:Value}{c:Nat}(hk:den ρ k=some K)(hx:den ρ x=some X):∀ {es:List oz} {rs:List MapEntry},fq ρ es rs->fq ρ (es++[⟨k,x,c⟩]) (rs++[⟨K,X,c⟩])
 |[],[],_=>⟨⟨hk,hx,rfl⟩,trivial⟩
 |_::_,_::_,⟨h1,h2⟩=>⟨h1,fq.snoc hk hx h2⟩
 |[],_::_,h=>h.elim
 |_::_,[],h=>h.elim
theorem GZ(pre post:List MapEntry)(e:MapEntry)(f:MapEntry->MapEntry):(pre++e::post).modify pre.length f=pre++f e::post:=by
 induction pre with
 |nil=>simp
 |cons a pre ih=>simpa using ih
theorem jy(h:HR ρ s w)(ht:TR ρ t tm){ty:TypeId}{m k x:Operand}{nx:Nx}(e:eJ P s ty (eval t m) (eval t k) (eval t x)=some nx) :
 Dx P ρ w nx ((do Instr.mapUpdate ty (rv tm m) (rv tm k) (rv tm x);pure Next.skip:Sem Next).run P w):=by
 unfold eJ at e
 split at e
 ·rename_i r hm
  split at e
  ·rename_i k' hk
   split at e
   ·rename_i x' hx
    have dm:=az ht hm
    have dk:=az ht hk
    have dx:=az ht hx
    generalize rv tm m=M at *
    generalize rv tm k=K at *
    generalize rv tm x=X at *
    split at e
    ·rename_i kt el hu
     split at e
     ·rename_i es clock hg
      cases hs:dJ P kt with
      |false=>rw[hs]at e;cases e
      |true =>
       rw[hs]at e
       simp only[cond_true]at e
       obtain⟨d,hd,_⟩:=jm hs
       obtain⟨l,hl,rfl⟩:=Cl dm
       obtain⟨l',rs,g1,g2,g3⟩:=h.blk _ _ hg
       rw[hl]at g1;cases g1
       unfold vc at e
       split at e
       ·rename_i es' hf
        cases e
        obtain⟨pre,e,post,q1,q2,q3,q4⟩:=Ib dk dx g3 hf
        have A:=oa h hs dk q3
        have hsame:e.key=K:=by
         obtain⟨key,k1,k2⟩:=q3
         exact A.same _ _ k2 k1
        have hfind:(Instr.findKey kt K rs.toList).run P w=.ok (some (pre.length,e.val)) w:=by rw[q1];exact Iy hd A q2 q3
        have hat:rs[pre.length]? = some e:=by rw[<- Array.getElem?_toList,q1];simp
        have hst:=Km (P:=P) (w:=w) K e.key hsame A.bits
        have hmod:(rs.modify pre.length fun e=>{ e with key:=K,val:=X }).toList=pre++{ e with key:=K,val:=X }::post:=by
         rw[Array.toList_modify,q1,GZ]
        have hrun:(Instr.mapUpdate ty (.map (some l.b)) K X).run P w=.ok () { w with heap:=w.heap.setIfInBounds l.b (.map (rs.modify pre.length fun e=>{ e with key:=K,val:=X }) clock) }:=by
         simp only[Instr.mapUpdate,Sem.run_bind,av hu,Result.andThen_ok,kW g2,iy hs,hfind,hat,Option.map_some,Option.getD_some,hst,vY g2]
        obtain⟨j1,j2⟩:=h.turn hl hg (fun _ h=>by cases h) (vB w l.b _) (.map es' clock) ⟨l,_,hl,DO g2 _,by rw[hmod];exact q4⟩
        exact⟨ρ,_,by simp only[Sem.run_bind,hrun,Result.andThen_ok,Sem.run_pure],j1,j2⟩
       ·rename_i hf
        cases e
        have hmiss:=Dy g3 hf
        have hfind:(Instr.findKey kt K rs.toList).run P w=.ok none w:=DR hd (fun hne=>by
         cases hr:rs.toList with
         |nil=>exact absurd hr hne
         |cons e r=>exact oa h hs dk (hmiss e (by rw[hr];simp))) hmiss
        have hrun:(Instr.mapUpdate ty (.map (some l.b)) K X).run P w=.ok () { w with heap:=w.heap.setIfInBounds l.b (.map (rs.push { key:=K,val:=X,born:=clock }) (clock+1)) }:=by
         simp only[Instr.mapUpdate,Sem.run_bind,av hu,Result.andThen_ok,kW g2,iy hs,hfind,vY g2]
        obtain⟨j1,j2⟩:=h.turn hl hg (fun _ h=>by cases h) (vB w l.b _) (.map (es++[⟨k',x',clock⟩]) (clock+1)) ⟨l,_,hl,DO g2 _,by rw[Array.toList_push];exact fq.snoc dk dx g3⟩
        exact⟨ρ,_,by simp only[Sem.run_bind,hrun,Result.andThen_ok,Sem.run_pure],j1,j2⟩
       ·cases e
     ·cases e
    ·cases e
   ·cases e
  ·cases e
 ·cases e
end ops
section ops
variable{P:Program}{ρ:aB}{s:S}{w:World}{t:T V}{tm:Array Value}
theorem dy(l:List Nat):(ay l).size=l.length:=by simp[ay,ByteArray.size]
theorem nX(l:List Nat):aN ρ (l.map kD)=some ((ay l).data.toList.map fun b=>Value.int .u8 b.toNat):=by
 have:(ay l).data.toList=l.map UInt8.ofNat:=by simp[ay]
 rw[this]
 induction l with
 |nil=>rfl
 |cons c l ih =>
  have ih':=ih (by simp[ay])
  refine aM.2 ⟨_,_,rfl,ih',?_⟩
  simp[UInt8.toNat_ofNat']
  rfl
theorem oW:∀ {cs:List V} {l:List Nat},kC cs=some l->aN ρ cs=some ((l.map Int.ofNat).map (Value.int .u8))
 |[],l,h=>by cases h;rfl
 |v::r,l,h=>by
  unfold kC at h
  split at h
  ·cases ‹v::r=[]›
  ·rename_i n r' he
   cases he
   cases hb:kC r with
   |none=>simp[hb]at h
   |some q =>
    simp[hb]at h
    subst h
    exact aM.2 ⟨_,_,rfl,oW hb,rfl⟩
  ·cases h
theorem DX:∀(l:List Nat) (r:ByteArray),(l.map Int.ofNat).foldl (fun r n=>r.push (UInt8.ofNat n.toNat)) r=⟨r.data++(l.map UInt8.ofNat).toArray⟩
 |[],r=>by simp
 |c::l,r=>by
  simp only[List.map_cons,List.foldl_cons]
  rw[DX l]
  simp[ByteArray.push]
theorem iB{el:TypeId}(h:fS P el=true):P.underlying el=some (.int .u8):=by
 unfold fS at h
 split at h
 ·assumption
 ·cases h
theorem mH{a:Ad}{n:Nat}{l:List V}(h:HR ρ s w)(e:loadCells s a n=some l):∃ lo ys,ρ a.f a.v=some lo/\lo.base<=a.c/\aN ρ l=some ys/\ys.length=n /\
 (Go.loadCells ⟨lo.b,a.c - lo.base,none⟩ n).run P w=.ok ys.toArray w:=by
 obtain⟨ad,ys,h1,h2,h3,h4⟩:=ib h e
 obtain⟨lo,g1,g2,rfl⟩:=rc h1
 have:=run_loadCells_list (P:=P) (w:=w) _ ys h4
 rw[h3]at this
 exact⟨lo,ys,g1,g2,h2,h3,this⟩
theorem sX(h:HR ρ s w){src dst:TypeId}{ds:TypeDesc}(hs:P.underlying src=some ds)(hd:P.underlying dst=some .string){x:V}{X:Value}(hx:den ρ x=some X){v:V}{s':S}(e:zU P s ds x=some (v,s')) :
 s'=s/\∃ y,den ρ v=some y/\(convert src dst X).run P w=.ok y w:=by
 unfold zU at e
 split at e
 ·rename_i k n
  cases e;cases hx
  refine⟨rfl,.string (Utf8.encode n),?_,?_⟩
  ·simp only[den];rw[uF]
  ·cases ds<;>simp[convert,av hs,av hd,Conv.intToString]
 ·cases e;cases hx
  refine⟨rfl,_,rfl,?_⟩
  cases ds<;>simp[convert,av hs,av hd]
 ·split at e
  ·rename_i el
   cases hb:fS P el with
   |false=>rw[hb]at e;cases e
   |true =>
    rw[hb]at e
    cases e;cases hx
    refine⟨rfl,.string .empty,rfl,?_⟩
    simp[convert,av hs,av hd,av (iB hb),Conv.bytesToString]
  ·cases e
 ·rename_i a z n cap sz
  split at e
  ·rename_i el
   cases hb:fS P el with
   |false=>rw[hb]at e;cases e
   |true =>
    rw[hb]at e
    simp only[cond_true]at e
    cases hz0:Nat.beq sz 0 with
    |true=>rw[hz0]at e;cases e
    |false =>
    rw[hz0]at e
    simp only[cond_false]at e
    split at e
    ·rename_i l hl
     cases e
     obtain⟨lo,g1,g2,g3,g4,g5,rfl⟩:=eO hx (.inl (IV hz0))
     cases hlc:loadCells s a n with
     |none=>simp[hlc]at hl
     |some cs =>
      simp only[hlc,Option.bind_some]at hl
      obtain⟨lo',ys,k1,k2,k3,k4,k5⟩:=mH (P:=P) h hlc
      rw[g1]at k1;cases k1
      have hys:=oW (ρ:=ρ) hl
      rw[k3]at hys;cases hys
      have hload:(Go.loadCells ⟨lo.b,ba lo a z cap sz - lo.base,none⟩ n).run P w=.ok ((l.map Int.ofNat).map (Value.int .u8)).toArray w:=by
       rcases Nat.eq_zero_or_pos n with h0|h0
       ·subst h0
        have:l=[]:=by simpa using k4
        subst this
        exact run_loadCells_list (P:=P) (w:=w) _ [] (fun j v h=>by simp at h)
       ·rw[dU g4 h0];exact k5
      refine⟨rfl,.string (ay l),rfl,?_⟩
      rw[run_convert_bytes_string w src dst el _ _ _ hs (iB hb) hd,run_bytesToString w _ _ _ _ hload,DX]
      congr 2
      apply ByteArray.ext
      simp[ay]
    ·cases e
  ·cases e
 ·cases e
theorem zg(h:HR ρ s w){src dst el:TypeId}{ds:TypeDesc}(hs:P.underlying src=some ds)(hd:P.underlying dst=some (.slice el)){x:V}{X:Value}(hx:den ρ x=some X){v:V}{s':S}(e:nF P s ds el x=some (v,s')) :
 ∃ ρ' y w',(convert src dst X).run P w=.ok y w'/\den ρ' v=some y/\HR ρ' s' w'/\FR ρ w ρ' w':=by
 unfold nF at e
 split at e
 ·rename_i l
  split at e
  ·cases hb:fS P el with
   |false=>rw[hb]at e;cases e
   |true =>
    rw[hb]at e
    simp only[cond_true]at e
    simp only[aV]at e
    cases e;cases hx
    have hrun:=run_bytes_of_string w src dst el (ay l) hs hd (iB hb)
    rw[dy]at hrun
    have hge:=grownCap_ge w l.length 0 el
    generalize hc:grownCap w l.length 0 el=cap at *
    have hsz:(bytesRow (ay l) cap).size=cap:=by
     simp only[bytesRow,Array.size_append,Array.size_map,Array.size_replicate,dy]
     have:(ay l).data.size=l.length:=dy l
     omega
    rw[hsz]at hrun
    have hd':aN ρ (l.map kD)=some ((bytesRow (ay l) cap).toList.take (l.map kD).length):=by
     rw[nX]
     have:(ay l).data.toList.length=l.length:=by simp[ay]
     simp[bytesRow,this]
    obtain⟨ρ',h1,h2,h3⟩:=fR (h.drawn (w.drawn+1)) true el el (cs:=l.map kD) (ys:=bytesRow (ay l) cap) hd' (cap,cap+1) ⟨(fun h=>by cases h),fun i hi=>by rw[hsz]at hi;simp;omega⟩
    refine⟨ρ',_,_,hrun,?_,h2,(FR.drawn w (w.drawn+1)).trans h3⟩
    have:=cX (a:=⟨s.next,0,0⟩) (z:=0) (len:=l.length) (cap:=none) (sz:=1) h1 (by simp) (Nat.zero_le _) (by show l.length<=(Array.size _ - 0) / 1;rw[hsz];simpa using hge) Nat.one_pos
    rw[this]
    simp only[bT,ba,hsz]
    simp
  ·cases e
 ·cases e
theorem CN(h:HR ρ s w)(ht:TR ρ t tm){src dst:TypeId}{x:Operand}{nx:Nx}(e:ga P s src dst (eval t x)=some nx) :
 Dx P ρ w nx ((do pure (Next.value (<- convert src dst (rv tm x))):Sem Next).run P w):=by
 unfold ga at e
 split at e
 ·rename_i v hv
  have dv:=az ht hv
  generalize rv tm x=X at *
  unfold ia at e
  split at e
  ·rename_i y s' hc
   cases e
   unfold gU at hc
   split at hc
   ·rename_i ds hs
    split at hc
    ·rename_i k hd
     split at hc
     ·rename_i j n
      cases hc;cases dv
      refine⟨ρ,.int k (k.wrap n),w,?_,by rw[cb];rfl,h,FR.refl ρ w⟩
      have:(convert src dst (.int j n)).run P w=.ok (.int k (k.wrap n)) w:=by
       cases ds<;>simp[convert,av hs,av hd,Conv.intToInt]
      simp[this]
     ·cases hc
    ·rename_i hd
     obtain⟨rfl,y',h1,h2⟩:=sX h hs hd dv hc
     exact⟨ρ,y',w,by simp[h2],h1,h,FR.refl ρ w⟩
    ·rename_i el hd
     obtain⟨ρ',y',w',h1,h2,h3,h4⟩:=zg h hs hd dv hc
     exact⟨ρ',y',w',by simp[h1],h2,h3,h4⟩
    ·cases hc
   ·cases hc
  ·cases e
 ·cases e
end ops
section ops
variable{P:Program}{ρ:aB}{s:S}{w:World}{t:T V}{tm:Array Value}
theorem GQ{t:TypeId}(h:Ek P t=true):∃ d,P.underlying t=some d/\∀ k,d≠.int k:=by
 unfold Ek at h
 split at h
 ·cases h
 ·rename_i d h1 h2;exact⟨d,h2,fun k e=>h1 k (by rw[<- e])⟩
 ·cases h
theorem gX{ts:Array TypeId}{ty sT xT elem:TypeId}{d:TypeDesc}{n sz sLen sCap:Nat}{base:Option Addr}{Y:Value}(h0:ts[0]? = some sT)(h1:ts[1]? = some xT)
 (hs:P.underlying sT=some (.slice elem)) (hx:P.underlying xT=some d) (hd:∀ k,d≠.int k) (hz:size P elem=some sz) (hl:(Builtin.lenOf Y).run P w=.ok n w)
 (hroom:sLen+n<=sCap) {news:Array Value} (hf:(Builtin.firstCells sz n Y).run P w=.ok news w) :
 (Builtin.append_ ts ty #[.slice base sLen sCap,Y]).run P w=(match base with
  |some a=>((Go.storeCells (a.add (sLen*sz)) news.toList).run P w).andThen fun _ w=>.ok (.slice base (sLen+n) sCap) w
  |none=>.ok (.slice base (sLen+n) sCap) w):=by
 have hm:(match(generalizing:=false) d with|.int _=>true|_=>false)=false:=by cases d<;>first|rfl|exact absurd rfl (hd _)
 cases base<;>simp[Builtin.append_,h0,h1,av hs,bQ hz,av hx,hl,hroom,hf]
theorem next_le(need old:Nat)(h:old<need):Builtin.nextslicecap need old<=2*need+1000:=by
 have g:∀(r c:Nat),c<=2*need+500->Builtin.growBy need r c<=2*need+1000:=by
  intro r
  induction r with
  |zero=>intro c hc;simp[Builtin.growBy];omega
  |succ r ih =>
   intro c hc
   simp only[Builtin.growBy]
   split
   ·omega
   ·exact ih _ (by omega)
 unfold Builtin.nextslicecap
 split
 ·omega
 ·split
  ·omega
  ·exact g 4 old (by omega)
theorem Ko{elem:TypeId}{m:Nat}(h:aF P elem m=true){i:TypeInfo}(hi:P.info? elem=some i):i.bytes*(m+m / 4+600)<=281474976710656/\m<=4611686018427387904:=by
 unfold aF at h
 rw[hi]at h
 simp only[Bool.and_eq_true]at h
 exact⟨Nat.le_of_ble_eq_true h.1,Nat.le_of_ble_eq_true h.2⟩
theorem Nn(need old:Nat)(h:old<need):Builtin.nextslicecap need old<=need+need / 4+600:=by
 have g:∀(r c:Nat),c<=need+need / 4+500->Builtin.growBy need r c<=need+need / 4+600:=by
  intro r
  induction r with
  |zero=>intro c hc;simp[Builtin.growBy];omega
  |succ r ih =>
   intro c hc
   simp only[Builtin.growBy]
   split
   ·omega
   ·exact ih _ (by omega)
 unfold Builtin.nextslicecap
 split
 ·omega
 ·split
  ·omega
  ·exact g 4 old (by omega)
theorem jD{ts:Array TypeId}{ty sT xT elem:TypeId}{d:TypeDesc}{n sz sLen sCap:Nat}{base:Option Addr}{Y:Value}(h0:ts[0]? = some sT)(h1:ts[1]? = some xT)
 (hs:P.underlying sT=some (.slice elem)) (hx:P.underlying xT=some d) (hd:∀ k,d≠.int k) (hz:size P elem=some sz) {i:TypeInfo} (hi:P.info? elem=some i) {z:Value} (hzi:i.zero=some z)
 (hl:(Builtin.lenOf Y).run P w=.ok n w) (hroom:sCap<sLen+n) (hr:aF P elem (sLen+n)=true) {olds news:Array Value}
 (ho:(Builtin.firstCells sz sLen (.slice base sLen sCap)).run P w.drew=.ok olds w.drew) (hf:(Builtin.firstCells sz n Y).run P w.drew=.ok news w.drew) :
 (Builtin.append_ ts ty #[.slice base sLen sCap,Y]).run P w=.ok (.slice (some ⟨w.heap.size,0,none⟩) (sLen+n) (grownCap w (sLen+n) sCap elem))
  (w.drew.alloc (.cells (olds++news++Builtin.zeroCells z.cells (grownCap w (sLen+n) sCap elem - (sLen+n))) elem)):=by
 have hno:¬(sLen+n<=sCap):=by omega
 obtain⟨hb,hn⟩:=Ko hr hi
 have h63:¬(9223372036854775807<((sLen:Int)+(n:Int))):=by omega
 have h48:¬(281474976710656<Builtin.nextslicecap (sLen+n) sCap*i.bytes):=by
  have h1:=Nn (sLen+n) sCap hroom
  have h3:=Nat.mul_le_mul_left i.bytes h1
  rw[Nat.mul_comm i.bytes (Builtin.nextslicecap _ _)]at h3
  omega
 have hti:∀ w,(typeInfo elem).run P w=.ok i w:=fun w=>by simp[typeInfo,hi]
 have hzr:∀ w,(zeroValue elem).run P w=.ok z w:=fun w=>fj hi hzi w
 have hm:(match(generalizing:=false) d with|.int _=>true|_=>false)=false:=by cases d<;>first|rfl|exact absurd rfl (hd _)
 simp[Builtin.append_,h0,h1,av hs,bQ hz,av hx,hl,hno,hti,hzr,h63,h48,Question.forced,ho,hf,newRow,grownCap]
theorem HB{b:Ad}{z sz:Nat}{cap:Option Nat}{Y:Value}(h:den ρ (.slice b z 0 cap sz)=some Y):∃ q c,Y=.slice (some q) 0 c:=by
 simp only[den,gp]at h
 split at h
 ·split at h
  ·cases h;exact⟨_,_,rfl⟩
  ·cases h
 ·split at h
  ·split at h
   ·cases h;exact⟨_,_,rfl⟩
   ·cases h
  ·cases h
theorem eL(h:HR ρ s w){sz n:Nat}{y:V}{Y:Value}{l:List V}(hy:den ρ y=some Y)(e:gW s sz y=some (l,n)) :
 ∃ ys,aN ρ l=some ys/\ys.length=n*sz/\(Builtin.lenOf Y).run P w=.ok n w/\(Builtin.firstCells sz n Y).run P w=.ok ys.toArray w:=by
 unfold gW at e
 split at e
 ·cases e;cases hy
  exact⟨[],rfl,by simp,rfl,rfl⟩
 ·rename_i b z m cap sz'
  cases hm0:Nat.beq m 0 with
  |true =>
   rw[hm0]at e
   cases e
   obtain rfl:=Nat.eq_of_beq_eq_true hm0
   obtain⟨q,c,rfl⟩:=HB hy
   have:=run_loadCells_list (P:=P) (w:=w) q [] (fun j v h=>by simp at h)
   exact⟨[],rfl,by simp,rfl,by simp only[Builtin.firstCells,Nat.zero_mul];exact this⟩
  |false =>
  rw[hm0]at e
  simp only[cond_false]at e
  cases hz0:Nat.beq sz' 0 with
  |true=>rw[hz0]at e;cases e
  |false =>
  rw[hz0]at e
  simp only[cond_false]at e
  cases hb:Nat.beq sz sz' with
  |false=>rw[hb]at e;cases e
  |true =>
   rw[hb]at e
   obtain rfl:=Nat.eq_of_beq_eq_true hb
   simp only[cond_true]at e
   split at e
   ·rename_i l' hl
    cases e
    obtain⟨lo,g1,g2,g3,g4,g5,rfl⟩:=eO hy (.inl (IV hz0))
    obtain⟨lo',ys,k1,k2,k3,k4,k5⟩:=mH (P:=P) h hl
    rw[g1]at k1;cases k1
    refine⟨ys,k3,k4,rfl,?_⟩
    rcases Nat.eq_zero_or_pos n with h0|h0
    ·subst h0
     have:ys=[]:=by simpa using k4
     subst this
     have:=run_loadCells_list (P:=P) (w:=w) ⟨lo.b,ba lo b z cap sz - lo.base,none⟩ [] (fun j v h=>by simp at h)
     simp only[Builtin.firstCells,Nat.zero_mul]
     exact this
    ·rw[dU g4 h0];exact k5
   ·cases e
 ·rename_i l'
  cases hb:Nat.beq sz 1 with
  |false=>rw[hb]at e;cases e
  |true =>
   rw[hb]at e
   obtain rfl:=Nat.eq_of_beq_eq_true hb
   cases e;cases hy
   refine⟨_,nX l',by simp[ay],by simp[Builtin.lenOf,dy],?_⟩
   have:(ay l').extract 0 l'.length=ay l':=by rw[jN];simp
   have e2:Array.map (fun b=>Value.int IntKind.u8 (b.toNat:Int)) (ay l').data=((ay l').data.toList.map fun b=>Value.int .u8 (b.toNat:Int)).toArray:=by simp[<- Array.toList_inj]
   simp only[Builtin.firstCells,this,Sem.run_pure,e2]
 ·cases e
end ops
section ops
variable{P:Program}{ρ:aB}{s:S}{w:World}{t:T V}{tm:Array Value}
theorem HR.grow{w':World}(h:HR ρ s w){f nv v0:Nat}{l l0:ze}(h0:ρ f v0=some l0)(hnv:ρ f nv=none)
 (hin:∀ g v x,ρ g v=some x->x.b=l.b->g=f/\x.base=l.base) (hlow:l.b<w'.heap.size) (hsize:w.heap.size<=w'.heap.size)
 (hos:w'.os=w.os) (htape:w'.tape=w.tape) (hout:w'.output=w.output)
 (hoth:∀ k,k<w.heap.size->k≠l.b->w'.heap[k]? = w.heap[k]?) (hnew:l.b<w.heap.size->∃ g v x,ρ g v=some x/\x.b=l.b/\¬ x.ro) (hnl:¬ l.ro) (hrw:∀ v l,ρ f v=some l->¬ l.ro)
 {B:dB} (hB:yZ (ρ.put f nv l) w' f B):HR (ρ.put f nv l) (s.put f B) w'/\FR ρ w (ρ.put f nv l) w':=by
 have hf:f<s.next:=Nat.lt_of_not_le fun hc=>by have:=h.fresh f v0 hc;rw[h0]at this;cases this
 refine⟨⟨?_,?_,?_,?_,?_,?_⟩,⟨aB.le_put _ hnv,hsize,hos,htape,hout,?_,?_⟩⟩
 ·intro g v hg
  rw[S.next_put]at hg
  unfold aB.put
  rw[if_neg (by omega)]
  exact h.fresh g v hg
 ·intro g v x g' v' x' e e' hb
  rcases aB.of_put e with⟨rfl,rfl,rfl⟩|d
  ·rcases aB.of_put e' with⟨rfl,rfl,rfl⟩|d'
   ·exact⟨rfl,rfl⟩
   ·obtain⟨q1,q2⟩:=hin _ _ _ d' hb.symm
    exact⟨q1.symm,q2.symm⟩
  ·rcases aB.of_put e' with⟨rfl,rfl,rfl⟩|d'
   ·exact hin _ _ _ d hb
   ·exact h.inj _ _ _ _ _ _ d d' hb
 ·intro g v x e
  rcases aB.of_put e with⟨rfl,rfl,rfl⟩|e
  ·exact hlow
  ·exact Nat.lt_of_lt_of_le (h.low _ _ _ e) hsize
 ·intro g B' hg
  rw[S.get_put]at hg
  split at hg
  ·rename_i e;cases hg;subst e;exact hB
  ·rename_i hne
   refine(h.blk g B' hg).keep (aB.le_put _ hnv) (fun v hv=>?_) (fun v x hx=>hoth _ (h.low _ _ _ hx) fun e=>hne (hin _ _ _ hx e).1.symm)
   unfold aB.put;rw[if_neg (by omega)];exact hv
 ·intro g B' hg
  rw[S.get_put]at hg
  rw[S.next_put]
  split at hg
  ·rename_i e;subst e;exact hf
  ·exact h.dom g B' hg
 ·intro g B' hg hnr v x hx
  rw[S.get_put]at hg
  rcases aB.of_put hx with⟨rfl,rfl,rfl⟩|hx
  ·exact hnl
  ·split at hg
   ·rename_i e;subst e;exact hrw v x hx
   ·exact h.rw g B' hg hnr v x hx
 ·intro b hb hn
  refine hoth b hb fun e=>?_
  subst e
  obtain⟨g,v,x,q1,q2,q3⟩:=hnew hb
  exact hn g v x q1 q3 q2
 ·intro g v x e hl
  rcases aB.of_put e with⟨rfl,rfl,rfl⟩|e
  ·obtain⟨g,v,y,q1,q2,q3⟩:=hnew hl
   exact⟨g,v,y,q1,q2,fun q=>absurd q q3⟩
  ·exact⟨g,v,x,e,rfl,id⟩
theorem FR.drew(ρ:aB)(w:World):FR ρ w ρ w.drew:=FR.drawn w _
theorem HR.drew(h:HR ρ s w):HR ρ s w.drew:=h.drawn _
theorem jM(h:HR ρ s w){elem:TypeId}{cs:List V}{ys:List Value}(hd:aN ρ cs=some ys){len sz cap:Nat}(hl:len<=cap)(hsz:0<sz)(hlen:ys.length=len*sz){rest:Array Value}(hr:rest.size=(cap - len)*sz)
 {v:V} {s':S} (e:iD s elem cs len sz=(v,s')) :
 ∃ ρ',den ρ' v=some (.slice (some ⟨w.heap.size,0,none⟩) len cap)/\HR ρ' s' (w.alloc (.cells (ys.toArray++rest) elem))/\FR ρ w ρ' (w.alloc (.cells (ys.toArray++rest) elem)):=by
 simp only[iD,aW]at e
 have hsize:(ys.toArray++rest).size=cap*sz:=by
  rw[Array.size_append,hr]
  have:ys.toArray.size=len*sz:=by simpa using hlen
  rw[this,<- Nat.add_mul];congr 1;omega
 have hlc:=bu hd
 obtain⟨ρ',h1,h2,h3⟩:=fR h false elem elem (cs:=cs) (ys:=ys.toArray++rest) (by
  rw[hd];congr 1
  simp[<- hlc]) (0,0) ⟨fun _=>rfl,by simp⟩
 simp only[aV]at e h2
 cases e
 refine⟨ρ',?_,h2,h3⟩
 rw[hsize]at h1
 have hq:cap*sz / sz=cap:=Nat.mul_div_cancel _ hsz
 rw[cX (a:=⟨s.next,0,0⟩) (z:=0) (cap:=none) h1 (by simp[ba]) (Nat.zero_le _) (by show len<=(cap*sz - 0) / sz;rw[Nat.sub_zero,hq];exact hl) hsz]
 simp only[bT,ba]
 simp[Nat.sub_zero,hq]
theorem fJ(z:Array Value)(n:Nat):(Builtin.zeroCells z n).size=n*z.size:=by simp[Builtin.zeroCells]
theorem vM{a:Ad}{e:TypeId}{sb:Bool}{nv:Nat}{vers:List mb}{u:mb}{n:Nat}{old:List V}(hg:s.get a.f=some (.cells e sb nv vers))(hu:bA vers a.v=some u)(hb:Nat.ble u.lo a.c=true)
 (ho:aU n (u.cells.drop (a.c - u.lo))=some old):loadCells s a n=some old:=by
 unfold loadCells
 rw[hg]
 simp only[hu,hb,cond_true,ho]
theorem mY{elem:TypeId}{sz:Nat}(h:sJ P elem sz=true):∃ z i,P.info? elem=some i/\i.zero=some z/\z.cells.size=sz/\0<sz/\i.bytes*10000000<=100000000000000:=by
 unfold sJ at h
 split at h
 ·rename_i zv hz
  simp only[Bool.and_eq_true]at h
  obtain⟨z,i,hi,hzi,hd⟩:=eh hz
  refine⟨z,i,hi,hzi,?_,jg h.1.2,?_⟩
  ·rw[lH (hd fun _ _=>none)];exact Nat.eq_of_beq_eq_true h.1.1
  ·have:=h.2
   unfold kP at this
   rw[hi]at this
   exact Nat.le_of_ble_eq_true this
 ·cases h
theorem EH(h:HR ρ s w){ts:Array TypeId}{ty sT xT elem:TypeId}{d:TypeDesc}{n sz len z:Nat}{a:Ad}{cap:Option Nat}{y:V}{Xv Yv:Value}{l:List V}(h0:ts[0]? = some sT)(h1:ts[1]? = some xT)
 (hs:P.underlying sT=some (.slice elem)) (hx:P.underlying xT=some d) (hd:∀ k,d≠.int k) (hz:size P elem=some sz) (hok:sJ P elem sz=true)
 (hX:den ρ (.slice a z len cap sz)=some Xv) (hY:den ρ y=some Yv) (ha:gW s sz y=some (l,n)) (hrm:aF P elem (len+n)=true) (hn0:n≠0) {v:V} {s':S} (e:xh s elem a z len cap sz l n=some (v,s')) :
 ∃ ρ' r w',(Builtin.append_ ts ty #[Xv,Yv]).run P w=.ok r w'/\den ρ' v=some r/\HR ρ' s' w'/\FR ρ w ρ' w':=by
 obtain⟨zv,i,hi,hzi,hzs,hsz0,hbytes⟩:=mY hok
 obtain⟨lo,g1,g2,g3,g4,g5,rfl⟩:=eO hX (.inl (by omega))
 obtain⟨ys,y1,y2,y3,y4⟩:=eL (P:=P) h hY ha
 obtain⟨ys',y1',y2',y3',y4'⟩:=eL (P:=P) h.drew hY ha
 rw[y1]at y1';cases y1'
 unfold xh at e
 split at e
 ·rename_i el sb nv vers hg
  split at e
  ·rename_i u hu
   cases hb:Nat.ble u.lo a.c with
   |false=>rw[hb]at e;cases e
   |true =>
   rw[hb]at e
   simp only[cond_true]at e
   split at e
   ·rename_i old ho
    have hload:=vM hg hu hb ho
    obtain⟨lo',os,k1,k2,k3,k4,k5⟩:=mH (P:=P) h hload
    obtain⟨lo'',os',k1',k2',k3',k4',k5'⟩:=mH (P:=P) h.drew hload
    rw[k3]at k3';cases k3'
    rw[g1]at k1 k1';cases k1;cases k1'
    have hcoord:0<len->ba lo a z cap sz=a.c:=dU g4
    have hold:(Builtin.firstCells sz len (.slice (some ⟨lo.b,ba lo a z cap sz - lo.base,none⟩) len (bT lo a cap sz))).run P w.drew=.ok os.toArray w.drew:=by
     rcases Nat.eq_zero_or_pos len with q|q
     ·subst q
      have:os=[]:=by simpa using k4
      subst this
      have:=run_loadCells_list (P:=P) (w:=w.drew) ⟨lo.b,ba lo a z cap sz - lo.base,none⟩ [] (fun j v h=>by simp at h)
      simp only[Builtin.firstCells,Nat.zero_mul]
      exact this
     ·rw[hcoord q];exact k5'
    have hall:=cR k3 y1
    have hallLen:(os++ys).length=(len+n)*sz:=by rw[List.length_append,k4,y2,Nat.add_mul]
    have fresh:bT lo a cap sz<len+n->∀ v s',iD s elem (old++l) (len+n) sz=(v,s') ->
     ∃ ρ' r w',(Builtin.append_ ts ty #[.slice (some ⟨lo.b,ba lo a z cap sz - lo.base,none⟩) len (bT lo a cap sz),Yv]).run P w=.ok r w'/\den ρ' v=some r/\HR ρ' s' w'/\FR ρ w ρ' w':=by
     intro hlt v s' e
     have hrun:=jD (ty:=ty) h0 h1 hs hx hd hz hi hzi y3 hlt hrm hold y4'
     obtain⟨ρ',j1,j2,j3⟩:=jM h.drew (elem:=elem) hall (grownCap_ge w (len+n) (bT lo a cap sz) elem) hsz0 hallLen (rest:=Builtin.zeroCells zv.cells (grownCap w (len+n) (bT lo a cap sz) elem - (len+n))) (by rw[fJ,hzs]) e
     refine⟨ρ',_,_,hrun,j1,?_,(FR.drew ρ w).trans ?_⟩
     ·simpa using j2
     ·simpa using j3
    split at e
    ·
     rename_i c
     unfold Cx at e
     cases hc:Nat.ble (len+n) c with
     |false =>
      rw[hc]at e
      simp only[cond_false,Option.some.injEq]at e
      refine fresh ?_ _ _ e
      show c<len+n
      exact Nat.lt_of_not_le fun q=>by rw[Nat.ble_eq_true_of_le q]at hc;cases hc
     |true =>
      rw[hc]at e
      simp only[cond_true]at e
      have hle:=Nat.le_of_ble_eq_true hc
      split at e
      ·rename_i s1 hst
       cases e
       obtain⟨ad,w',q1,q2,q3,q4⟩:=gr P h hst y1
       have hrun:=gX (ty:=ty) (w:=w) (base:=some ⟨lo.b,a.c - lo.base,none⟩) h0 h1 hs hx hd hz y3 hle y4
       have had:ad=(⟨lo.b,a.c - lo.base,none⟩:Addr).add (len*sz):=by
        have:=re (ρ:=ρ) (len*sz) (rb g1 g3)
        rw[this]at q1;exact(Option.some.inj q1).symm
       simp only[<- had,q2,Result.andThen_ok]at hrun
       refine⟨ρ,_,w',hrun,?_,q3,q4⟩
       exact cX g1 g3 g3 hle g5
      ·cases e
    ·
     cases ha1:l.all V.one with
     |false=>rw[ha1]at e;cases e
     |true =>
     rw[ha1]at e
     simp only[cond_true,Option.some.injEq]at e
     unfold xl at e
     cases e
     obtain⟨vr,hmem,hv⟩:=h.ver hg hu
     obtain⟨lv,c,el',fz,r1,r2,r3,r4,r5,r6⟩:=vr
     rw[hv,g1]at r1;cases r1
     have hB:=h.blk _ _ hg
     have hnv:ρ a.f nv=none:=hB.1 nv (Nat.le_refl _)
     have hcells:∀(j:Nat) (q:Value),os[j]? = some q->c[a.c - lo.base+j]? = some q:=by
      obtain⟨ad,os2,t1,t2,t3,t4⟩:=ib h hload
      rw[k3]at t2;cases t2
      rw[rb g1 g3]at t1;cases t1
      intro j q hq
      have:=t4 j q hq
      rw[jh]at this
      simpa[World.cell?,r2]using this
     rcases Nat.lt_or_ge (bT lo a none sz) (len+n)with hlt|hge
     ·
      have hrun:=jD (ty:=ty) h0 h1 hs hx hd hz hi hzi y3 hlt hrm hold y4'
      generalize hcap:grownCap w (len+n) (bT lo a none sz) elem=newCap at hrun
      have hcge:len+n<=newCap:=by rw[<- hcap];exact grownCap_ge w _ _ _
      have hsize:(os.toArray++ys.toArray++Builtin.zeroCells zv.cells (newCap - (len+n))).size=newCap*sz:=by
       rw[Array.size_append,fJ,hzs,Array.size_append,List.size_toArray,List.size_toArray,<- List.length_append,hallLen,<- Nat.add_mul]
       congr 1;omega
      have hq:newCap*sz / sz=newCap:=Nat.mul_div_cancel _ hsz0
      have hheap:∀ k,k<w.heap.size->(w.drew.alloc (.cells (os.toArray++ys.toArray++Builtin.zeroCells zv.cells (newCap - (len+n))) elem)).heap[k]? = w.heap[k]?:=fun k hk=>gF w.drew _ hk
      obtain⟨j1,j2⟩:=h.grow (w':=w.drew.alloc (.cells (os.toArray++ys.toArray++Builtin.zeroCells zv.cells (newCap - (len+n))) elem)) (f:=a.f) (nv:=nv) (l:=⟨w.heap.size,a.c,a.c+newCap*sz⟩) g1 hnv
       (fun g v x hx hb=>by have:=h.low _ _ _ hx;simp only at hb;omega) (by simp) (by simp) rfl rfl rfl
       (fun k hk _=>hheap k hk) (fun hb=>by simp at hb) (by show ¬(a.c+newCap*sz<a.c);omega) (fun v x hx=>h.rw _ _ hg (fun _ h=>by cases h) v x hx)
       (B:=.cells el sb (nv+1) (⟨nv,a.c,old++l⟩::vers.filter fun u=>Nat.ble (u.lo+u.cells.length) (a.c+len*sz))) (by
        refine⟨fun v hv=>?_,fun u' hu'=>?_⟩
        ·unfold aB.put;rw[if_neg (by omega)];exact hB.1 v (by omega)
        ·rcases List.mem_cons.1 hu' with rfl|hu'
         ·refine⟨Nat.lt_succ_self _,⟨w.heap.size,a.c,a.c+newCap*sz⟩,_,elem,(0,0),aB.put_same _ _ _ _,dN w.drew _,Nat.le_refl _,by rw[hsize],⟨fun _=>rfl,by simp⟩,fun i x hxi=>?_⟩
          obtain⟨q,q1,q2⟩:=dT i hall hxi
          refine⟨q,bk (aB.le_put _ hnv) _ _ q1,?_⟩
          have hi2:i<(os++ys).length:=(List.getElem?_eq_some_iff.1 q2).1
          simp only[Nat.sub_self,Nat.zero_add]
          rw[<- Array.getElem?_toList,Array.toList_append,Array.toList_append]
          rw[List.getElem?_append_left (by simpa using hi2)]
          exact q2
         ·have hu2:=(List.mem_filter.1 hu').1
          obtain⟨p1,p2⟩:=hB.2 u' hu2
          exact⟨by omega,(p2.of_heap fun l' hl'=>hheap _ (h.low _ _ _ hl')).mono (aB.le_put _ hnv)⟩)
      refine⟨_,_,_,hrun,?_,j1,j2⟩
      have hcp:bT ⟨w.heap.size,a.c,a.c+newCap*sz⟩ ⟨a.f,nv,a.c⟩ none sz=newCap:=by simp[bT,hq]
      have hco:ba ⟨w.heap.size,a.c,a.c+newCap*sz⟩ ⟨a.f,nv,a.c⟩ z none sz=a.c:=dU (len:=len+n) (by rw[hcp];exact hcge) (by omega)
      rw[cX (a:=⟨a.f,nv,a.c⟩) (z:=z) (len:=len+n) (cap:=none) (l:=⟨w.heap.size,a.c,a.c+newCap*sz⟩) (aB.put_same _ _ _ _) (by rw[hco];exact Nat.le_refl _) (Nat.le_refl _) (by rw[hcp];exact hcge) g5,hco,hcp]
      simp
     ·
      have hroom:=hge
      have hcoord':ba lo a z none sz=a.c:=dU (len:=len+n) hge (by omega)
      have hrun:=gX (ty:=ty) (w:=w) (base:=some ⟨lo.b,a.c - lo.base,none⟩) h0 h1 hs hx hd hz y3 hroom y4
      have hfit:a.c - lo.base+len*sz+0+ys.length<=c.size:=by
       have t1:(len+n)*sz<=(lo.lim - a.c) / sz*sz:=Nat.mul_le_mul_right _ hge
       have t2:=Nat.div_mul_le_self (lo.lim - a.c) sz
       have t3:1*sz<=(len+n)*sz:=Nat.mul_le_mul_right _ (by omega)
       rw[y2]
       rw[Nat.add_mul]at t1 t3
       omega
      have hone:∀ q∈ys,q.oneCell'=true:=fun q hq=>by
       obtain⟨j,hj⟩:=List.getElem?_of_mem hq
       have hyl:=bu y1
       have hj2:j<l.length:=by have:=(List.getElem?_eq_some_iff.1 hj).1;omega
       obtain⟨q',t1,t2⟩:=dT j y1 (List.getElem?_eq_getElem hj2)
       rw[hj]at t2;cases t2
       exact wn t1 (List.all_eq_true.1 ha1 _ (List.getElem_mem hj2))
      obtain⟨w',c',p1,p2,p3,p4,p5⟩:=zY P lo.b (a.c - lo.base+len*sz) el' fz ys 0 c w r2 r5.2 hfit hone
      simp only[jh,p1,Result.andThen_ok]at hrun
      rw[<- hcoord']at hrun
      have hin:∀ g v x,ρ g v=some x->x.b=lo.b->g=a.f/\x.base=lo.base:=fun g v x hx hb=>h.inj _ _ _ _ _ _ hx g1 hb
      obtain⟨j1,j2⟩:=h.grow (w':=w') (f:=a.f) (nv:=nv) (l:=lo) g1 hnv hin (by rw[p2.size];exact h.low _ _ _ g1) (by rw[p2.size];exact Nat.le_refl _) p2.os p2.tape p2.output
       (fun k _ hk=>p2.other k hk) (fun _=>⟨_,_,_,g1,rfl,h.rw _ _ hg (fun _ h=>by cases h) _ _ g1⟩) (h.rw _ _ hg (fun _ h=>by cases h) _ _ g1) (fun v x hx=>h.rw _ _ hg (fun _ h=>by cases h) v x hx)
       (B:=.cells el sb (nv+1) (⟨nv,a.c,old++l⟩::vers.filter fun u=>Nat.ble (u.lo+u.cells.length) (a.c+len*sz))) (by
        refine⟨fun v hv=>?_,fun u' hu'=>?_⟩
        ·unfold aB.put;rw[if_neg (by omega)];exact hB.1 v (by omega)
        ·rcases List.mem_cons.1 hu' with rfl|hu'
         ·refine⟨Nat.lt_succ_self _,lo,c',el',fz,aB.put_same _ _ _ _,p3,g3,by rw[p4];exact r4,by rw[p4];exact r5,fun i x hxi=>?_⟩
          obtain⟨q,q1,q2⟩:=dT i hall hxi
          refine⟨q,bk (aB.le_put _ hnv) _ _ q1,?_⟩
          rw[p5]
          have hi2:i<(os++ys).length:=(List.getElem?_eq_some_iff.1 q2).1
          rw[List.length_append,k4]at hi2
          simp only
          by_cases hi3:i<len*sz
          ·rw[if_neg (by omega)]
           rw[List.getElem?_append_left (by omega)]at q2
           exact hcells i q q2
          ·rw[if_pos (by omega)]
           rw[List.getElem?_append_right (by omega),k4]at q2
           rw[<- q2];congr 1;omega
         ·have hu2:=(List.mem_filter.1 hu').1
          have hu3:=Nat.le_of_ble_eq_true (List.mem_filter.1 hu').2
          obtain⟨s1,l',c2,e2,f2,t1,t2,t3,t4,t5,t6⟩:=hB.2 u' hu2
          refine⟨by omega,?_⟩
          by_cases hbl:l'.b=lo.b
          ·obtain⟨_,hbase⟩:=hin _ _ _ t1 hbl
           rw[hbl,r2]at t2;cases t2
           refine⟨l',c',el',fz,aB.le_put _ hnv _ _ _ t1,by rw[hbl];exact p3,t3,by rw[p4];exact t4,by rw[p4];exact t5,fun i x hxi=>?_⟩
           obtain⟨q,q1,q2⟩:=t6 i x hxi
           refine⟨q,bk (aB.le_put _ hnv) _ _ q1,?_⟩
           have hi2:i<u'.cells.length:=(List.getElem?_eq_some_iff.1 hxi).1
           rw[p5,if_neg (by omega)]
           exact q2
          ·exact⟨l',c2,e2,f2,aB.le_put _ hnv _ _ _ t1,by rw[p2.other _ hbl];exact t2,t3,t4,t5,fun i x hxi=>by
            obtain⟨q,q1,q2⟩:=t6 i x hxi
            exact⟨q,bk (aB.le_put _ hnv) _ _ q1,q2⟩⟩)
      refine⟨_,_,w',hrun,?_,j1,j2⟩
      have hcp:bT lo ⟨a.f,nv,a.c⟩ none sz=bT lo a none sz:=rfl
      have hco:ba lo ⟨a.f,nv,a.c⟩ z none sz=ba lo a z none sz:=rfl
      rw[cX (a:=⟨a.f,nv,a.c⟩) (z:=z) (len:=len+n) (cap:=none) (l:=lo) (aB.put_same _ _ _ _) (by rw[hco];exact g2) g3 (by rw[hcp];exact hge) g5,hco,hcp]
   ·cases e
  ·cases e
 ·cases e
theorem zL(h:HR ρ s w){ts:Array TypeId}{ty sT xT:TypeId}{x y:V}{X Y:Value}(h0:ts[0]? = some sT)(h1:ts[1]? = some xT)(hX:den ρ x=some X)(hY:den ρ y=some Y)
 {v:V} {s':S} (e:rm P sT xT s x y=some (v,s')) :
 ∃ ρ' r w',(Builtin.append_ ts ty #[X,Y]).run P w=.ok r w'/\den ρ' v=some r/\HR ρ' s' w'/\FR ρ w ρ' w':=by
 unfold rm at e
 split at e
 ·rename_i elem hs
  cases hni:Ek P xT with
  |false=>rw[hni]at e;cases e
  |true =>
  rw[hni]at e
  simp only[cond_true]at e
  obtain⟨d,hx,hd⟩:=GQ hni
  split at e
  ·rename_i sz hz
   cases hok:sJ P elem sz with
   |false=>rw[hok]at e;cases e
   |true =>
   rw[hok]at e
   simp only[cond_true]at e
   unfold dV at e
   split at e
   ·rename_i l n ha
    cases hn:aF P elem n with
    |false=>rw[hn]at e;cases e
    |true =>
    rw[hn]at e
    simp only[cond_true]at e
    obtain⟨zv,i,hi,hzi,hzs,hsz0,hbytes⟩:=mY hok
    obtain⟨ys,y1,y2,y3,y4⟩:=eL (P:=P) h hY ha
    split at e
    ·cases hX
     cases hb:Nat.beq n 0 with
     |true =>
      rw[hb]at e
      obtain rfl:=Nat.eq_of_beq_eq_true hb
      cases e
      refine⟨ρ,.slice none 0 0,w,?_,rfl,h,FR.refl ρ w⟩
      exact gX (ty:=ty) (base:=none) (sLen:=0) (sCap:=0) h0 h1 hs hx hd hz y3 (Nat.le_refl _) y4
     |false =>
      rw[hb]at e
      simp only[cond_false,Option.some.injEq]at e
      have hn0:0<n:=Nat.pos_of_ne_zero fun q=>by subst q;simp at hb
      obtain⟨ys',y1',y2',y3',y4'⟩:=eL (P:=P) h.drew hY ha
      rw[y1]at y1';cases y1'
      have hrun:=jD (ty:=ty) (base:=none) (sLen:=0) (sCap:=0) (olds:=#[]) h0 h1 hs hx hd hz hi hzi y3 (by omega) (by rw[Nat.zero_add];exact hn) rfl y4'
      simp only[Nat.zero_add]at hrun
      obtain⟨ρ',j1,j2,j3⟩:=jM h.drew (elem:=elem) y1 (grownCap_ge w n 0 elem) hsz0 y2 (rest:=Builtin.zeroCells zv.cells (grownCap w n 0 elem - n)) (by rw[fJ,hzs]) e
      refine⟨ρ',_,_,hrun,j1,?_,(FR.drew ρ w).trans ?_⟩
      ·simpa using j2
      ·simpa using j3
    ·rename_i a z len cap sz'
     cases hnc:(Nat.beq len 0&&ip cap)with
     |true =>
      rw[hnc]at e
      simp only[cond_true]at e
      simp only[Bool.and_eq_true]at hnc
      obtain rfl:=Nat.eq_of_beq_eq_true hnc.1
      have hcap:cap=some 0:=by
       cases cap with
       |none=>cases hnc.2
       |some c=>rw[Nat.eq_of_beq_eq_true hnc.2]
      subst hcap
      have hX0:∃ q,X=.slice (some q) 0 0:=by
       simp only[den,gp]at hX
       split at hX
       ·split at hX
        ·cases hX;exact⟨_,rfl⟩
        ·cases hX
       ·split at hX
        ·split at hX
         ·cases hX;exact⟨_,rfl⟩
         ·cases hX
        ·cases hX
      obtain⟨q,rfl⟩:=hX0
      cases hb:Nat.beq n 0 with
      |true =>
       rw[hb]at e
       obtain rfl:=Nat.eq_of_beq_eq_true hb
       cases e
       refine⟨ρ,_,w,?_,hX,h,FR.refl ρ w⟩
       have:=gX (ty:=ty) (w:=w) (base:=some q) (sLen:=0) (sCap:=0) h0 h1 hs hx hd hz y3 (Nat.le_refl _) y4
       have hys:ys=[]:=by simpa using y2
       subst hys
       rw[this]
       simp[Go.storeCells]
      |false =>
       rw[hb]at e
       simp only[cond_false,Option.some.injEq]at e
       have hn0:0<n:=Nat.pos_of_ne_zero fun q=>by subst q;simp at hb
       obtain⟨ys',y1',y2',y3',y4'⟩:=eL (P:=P) h.drew hY ha
       rw[y1]at y1';cases y1'
       have hol:(Builtin.firstCells sz 0 (.slice (some q) 0 0)).run P w.drew=.ok #[] w.drew:=by
        have:=run_loadCells_list (P:=P) (w:=w.drew) q [] (fun j v h=>by simp at h)
        simp only[Builtin.firstCells,Nat.zero_mul];exact this
       have hrun:=jD (ty:=ty) (base:=some q) (sLen:=0) (sCap:=0) (olds:=#[]) h0 h1 hs hx hd hz hi hzi y3 (by omega) (by rw[Nat.zero_add];exact hn) hol y4'
       simp only[Nat.zero_add]at hrun
       obtain⟨ρ',j1,j2,j3⟩:=jM h.drew (elem:=elem) y1 (grownCap_ge w n 0 elem) hsz0 y2 (rest:=Builtin.zeroCells zv.cells (grownCap w n 0 elem - n)) (by rw[fJ,hzs]) e
       refine⟨ρ',_,_,hrun,j1,?_,(FR.drew ρ w).trans ?_⟩
       ·simpa using j2
       ·simpa using j3
     |false =>
     rw[hnc]at e
     simp only[cond_false]at e
     cases hb:(Nat.beq sz sz'&&aF P elem (len+n))with
     |false=>rw[hb]at e;cases e
     |true =>
     rw[hb]at e
     simp only[cond_true]at e
     simp only[Bool.and_eq_true]at hb
     obtain rfl:=Nat.eq_of_beq_eq_true hb.1
     have hlen:=hb.2
     cases hb:Nat.beq n 0 with
     |true =>
      rw[hb]at e
      obtain rfl:=Nat.eq_of_beq_eq_true hb
      cases e
      obtain⟨lo,g1,g2,g3,g4,g5,rfl⟩:=eO hX (.inl (by omega))
      refine⟨ρ,_,w,?_,hX,h,FR.refl ρ w⟩
      have:=gX (ty:=ty) (w:=w) (base:=some ⟨lo.b,ba lo a z cap sz - lo.base,none⟩) (sLen:=len) (sCap:=bT lo a cap sz) h0 h1 hs hx hd hz y3 g4 y4
      have hys:ys=[]:=by simpa using y2
      subst hys
      rw[this]
      simp[Go.storeCells]
     |false =>
      rw[hb]at e
      simp only[cond_false]at e
      exact EH h h0 h1 hs hx hd hz hok hX hY ha hlen (fun q=>by subst q;simp at hb) e
    ·cases e
   ·cases e
  ·cases e
 ·cases e
end ops
section ops
variable{P:Program}{ρ:aB}{s:S}{w:World}{t:T V}{tm:Array Value}
theorem lF{x:V}{ys:List Value}(h:aN ρ [x]=some ys):∃ X,den ρ x=some X/\ys=[X]:=by
 obtain⟨X,q,h1,h2,rfl⟩:=aM.1 h
 cases h2;exact⟨X,h1,rfl⟩
theorem CR{x y:V}{ys:List Value}(h:aN ρ [x,y]=some ys):∃ X Y,den ρ x=some X/\den ρ y=some Y/\ys=[X,Y]:=by
 obtain⟨X,q,h1,h2,rfl⟩:=aM.1 h
 obtain⟨Y,h3,rfl⟩:=lF h2
 exact⟨X,Y,h1,h3,rfl⟩
theorem wL(h:HR ρ s w){ts:Array TypeId}{ty t0:TypeId}{x:V}{X:Value}{v:V}(h0:ts[0]? = some t0)(hx:den ρ x=some X)(e:kb P t0 s x=some v) :
 ∃ y,den ρ v=some y/\(Builtin.len_ ts ty #[X]).run P w=.ok y w:=by
 unfold kb at e
 split at e
 ·rename_i l hu
  cases e;cases hx
  exact⟨_,by rw[cb];rfl,by simp[Builtin.len_,h0,av hu,dy,goInt]⟩
 ·rename_i n _ _ hu
  cases e
  exact⟨_,rfl,by simp[Builtin.len_,h0,av hu,goInt]⟩
 ·rename_i el a z n cap sz hu
  cases e
  obtain⟨b',c',rfl,_⟩:=sZ hx
  exact⟨_,by rw[cb];rfl,by simp[Builtin.len_,h0,av hu,goInt]⟩
 ·rename_i el hu
  cases e;cases hx
  exact⟨_,rfl,by simp[Builtin.len_,h0,av hu,goInt]⟩
 ·rename_i k el hu
  cases e;cases hx
  exact⟨_,rfl,by simp[Builtin.len_,h0,av hu,goInt]⟩
 ·rename_i k el r hu
  split at e
  ·rename_i es c hg
   cases e
   obtain⟨l,hl,rfl⟩:=Cl hx
   obtain⟨l',rs,g1,g2,g3⟩:=h.blk _ _ hg
   rw[hl]at g1;cases g1
   have:es.length=rs.size:=(fq.length g3).trans (Array.length_toList (xs:=rs))
   exact⟨.int .i64 (rs.size:Nat),by rw[<- this];rfl,by simp[Builtin.len_,h0,av hu,goInt,kW g2]⟩
  ·cases e
 ·cases e
theorem yz{ts:Array TypeId}{ty t0:TypeId}{x:V}{X:Value}{v:V}(h0:ts[0]? = some t0)(hx:den ρ x=some X)(e:Vk P t0 x=some v) :
 ∃ y,den ρ v=some y/\(Builtin.cap_ ts ty #[X]).run P w=.ok y w:=by
 unfold Vk at e
 split at e
 ·rename_i el hu
  split at e
  ·cases e;cases hx
   exact⟨_,rfl,by simp[Builtin.cap_,h0,av hu,goInt]⟩
  ·rename_i a z n c sz
   cases e
   obtain⟨b',c',rfl,hcc⟩:=sZ hx
   obtain rfl:=hcc _ rfl
   exact⟨_,by rw[cb];rfl,by simp[Builtin.cap_,h0,av hu,goInt]⟩
  ·cases e
 ·cases e
theorem iX{f:V->V->Option V}{g:Value->Value->Sem Value}(hfg:∀ x y v X Y,f x y=some v->den ρ x=some X->den ρ y=some Y->∃ z,den ρ v=some z/\(g X Y).run P w=.ok z w) :
 ∀(l:List V) (ys:List Value) (x:V) (X:Value) (v:V),aN ρ l=some ys->den ρ x=some X->l.foldlM f x=some v->∃ y,den ρ v=some y/\(ys.foldlM g X).run P w=.ok y w
 |[],ys,x,X,v,hl,hx,h=>by
  cases hl
  simp at h;subst h
  exact⟨X,hx,rfl⟩
 |a::l,ys,x,X,v,hl,hx,h=>by
  obtain⟨y,q,h1,h2,rfl⟩:=aM.1 hl
  simp only[List.foldlM_cons]at h
  cases hf:f x a with
  |none=>rw[hf]at h;simp at h
  |some u =>
   rw[hf]at h
   simp at h
   obtain⟨z,z1,z2⟩:=hfg _ _ _ _ _ hf hx h1
   obtain⟨y',k1,k2⟩:=iX hfg l q u z v h2 z1 h
   exact⟨y',k1,by simp only[List.foldlM_cons,Sem.run_bind,z2,Result.andThen_ok,k2]⟩
theorem wB(x y v:V)(X Y:Value)(h:KF x y=some v)(hx:den ρ x=some X)(hy:den ρ y=some Y):∃ z,den ρ v=some z/\(Builtin.max2 X Y).run P w=.ok z w:=by
 unfold KF at h
 split at h
 ·rename_i j a k b
  cases hk:cP j k with
  |false=>rw[hk]at h;cases h
  |true =>
   rw[hk]at h
   simp only[cond_true,Option.some.injEq]at h
   subst h;cases hx;cases hy
   refine⟨_,rfl,?_⟩
   simp only[Builtin.max2,Sem.run_pure]
   by_cases hc:b>a<;>simp[hc]
 ·cases h
theorem wz(x y v:V)(X Y:Value)(h:KD x y=some v)(hx:den ρ x=some X)(hy:den ρ y=some Y):∃ z,den ρ v=some z/\(Builtin.min2 X Y).run P w=.ok z w:=by
 unfold KD at h
 split at h
 ·rename_i j a k b
  cases hk:cP j k with
  |false=>rw[hk]at h;cases h
  |true =>
   rw[hk]at h
   simp only[cond_true,Option.some.injEq]at h
   subst h;cases hx;cases hy
   refine⟨_,rfl,?_⟩
   simp only[Builtin.min2,Sem.run_pure]
   by_cases hc:b<a<;>simp[hc]
 ·cases h
theorem CX(h:HR ρ s w){sz n k:Nat}{y:V}{Y:Value}{l:List V}(hy:den ρ y=some Y)(e:HE s sz n y=some (l,k)) :
 ∃ ys m,aN ρ l=some ys/\(Builtin.lenOf Y).run P w=.ok m w/\k=Nat.min m n/\(Builtin.firstCells sz k Y).run P w=.ok ys.toArray w:=by
 unfold HE at e
 split at e
 ·cases e;cases hy
  exact⟨[],0,rfl,rfl,by simp,rfl⟩
 ·rename_i b z m cap sz'
  cases hz0:Nat.beq sz' 0 with
  |true=>rw[hz0]at e;cases e
  |false =>
  rw[hz0]at e
  simp only[cond_false]at e
  cases hb:Nat.beq sz sz' with
  |false=>rw[hb]at e;cases e
  |true =>
   rw[hb]at e
   obtain rfl:=Nat.eq_of_beq_eq_true hb
   simp only[cond_true]at e
   split at e
   ·rename_i l' hl
    cases e
    obtain⟨lo,g1,g2,g3,g4,g5,rfl⟩:=eO hy (.inl (IV hz0))
    obtain⟨lo',ys,k1,k2,k3,k4,k5⟩:=mH (P:=P) h hl
    rw[g1]at k1;cases k1
    refine⟨ys,m,k3,rfl,rfl,?_⟩
    rcases Nat.eq_zero_or_pos m with h0|h0
    ·subst h0
     have:ys=[]:=by simpa using k4
     subst this
     have:=run_loadCells_list (P:=P) (w:=w) ⟨lo.b,ba lo b z cap sz - lo.base,none⟩ [] (fun j v h=>by simp at h)
     simp only[Builtin.firstCells,Nat.zero_min,Nat.zero_mul]
     simpa using this
    ·rw[dU g4 h0];exact k5
   ·cases e
 ·rename_i l'
  cases e;cases hy
  refine⟨_,l'.length,nX (l'.take (Nat.min l'.length n)),by simp[Builtin.lenOf,dy],rfl,?_⟩
  have:(ay l').extract 0 (Nat.min l'.length n)=ay (l'.take (Nat.min l'.length n)):=by rw[jN];simp
  have e2:∀ q:List Nat,Array.map (fun b=>Value.int IntKind.u8 (b.toNat:Int)) (ay q).data=((ay q).data.toList.map fun b=>Value.int .u8 (b.toNat:Int)).toArray:=fun q=>by simp[<- Array.toList_inj]
  simp only[Builtin.firstCells,this,Sem.run_pure,e2]
 ·cases e
theorem FB(h:HR ρ s w){ts:Array TypeId}{ty t0:TypeId}{x y:V}{X Y:Value}{nx:Nx}(h0:ts[0]? = some t0)(hx:den ρ x=some X)(hy:den ρ y=some Y)(e:OF P t0 s x y=some nx) :
 Dx P ρ w nx ((do pure (Next.value (<- Builtin.copy_ ts ty #[X,Y])):Sem Next).run P w):=by
 unfold OF at e
 split at e
 ·rename_i el hu
  split at e
  ·rename_i a z n cap sz
   split at e
   ·rename_i sz' hsz
    cases hb:(Nat.beq sz sz'&&Nat.blt 0 n)with
    |false=>rw[hb]at e;cases e
    |true =>
     rw[hb]at e
     simp only[cond_true]at e
     simp only[Bool.and_eq_true]at hb
     obtain rfl:=Nat.eq_of_beq_eq_true hb.1
     have hn:=jg hb.2
     obtain⟨lo,g1,g2,g3,g4,g5,rfl⟩:=eO hx (.inr hn)
     rw[dU g4 hn]
     unfold OG at e
     split at e
     ·rename_i l k hc
      obtain⟨ys,m,y1,y2,rfl,y4⟩:=CX (P:=P) h hy hc
      split at e
      ·rename_i s1 hst
       cases e
       obtain⟨ad,w',q1,q2,q3,q4⟩:=gr P h hst y1
       rw[rb g1 g3]at q1;cases q1
       refine⟨ρ,_,w',?_,by rw[cb];rfl,q3,q4⟩
       simp[Builtin.copy_,h0,av hu,bQ hsz,y2,y4,q2,goInt]
      ·cases e
     ·cases e
   ·cases e
  ·cases e
 ·cases e
theorem FK(h:HR ρ s w){b:Builtin}{ts:Array TypeId}{ty:TypeId}{consts:Array Bool}{args:List V}{ys:List Value}(hd:aN ρ args=some ys){nx:Nx}(e:iv P b ts args s=some nx) :
 Dx P ρ w nx ((Go.builtin b ts ty consts ys.toArray).run P w):=by
 unfold iv at e
 split at e
 ·split at e
  ·rename_i t0 h0
   split at e
   ·rename_i t1 h1
    split at e
    ·rename_i x y
     obtain⟨X,Y,hx,hy,rfl⟩:=CR hd
     unfold ia at e
     split at e
     ·rename_i v s' ha
      cases e
      obtain⟨ρ',r,w',j1,j2,j3,j4⟩:=zL (ty:=ty) h h0 h1 hx hy ha
      exact⟨ρ',r,w',by simp[Go.builtin,j1],j2,j3,j4⟩
     ·cases e
    ·cases e
   ·cases e
  ·cases e
 ·split at e
  ·rename_i t0 h0
   split at e
   ·rename_i x
    obtain⟨X,hx,rfl⟩:=lF hd
    exact(aP h e fun v hv=>wL h h0 hx hv).toR h
   ·cases e
  ·cases e
 ·refine(aP (m:=Builtin.max_ ts ty ys.toArray) h e fun v hv=>?_).toR h
  cases args with
  |nil=>cases hv
  |cons x r =>
   obtain⟨X,q,hx,hr,rfl⟩:=aM.1 hd
   exact iX wB r q x X v hr hx hv
 ·refine(aP (m:=Builtin.min_ ts ty ys.toArray) h e fun v hv=>?_).toR h
  cases args with
  |nil=>cases hv
  |cons x r =>
   obtain⟨X,q,hx,hr,rfl⟩:=aM.1 hd
   exact iX wz r q x X v hr hx hv
 ·cases e;exact⟨rfl,h⟩
 ·split at e
  ·rename_i t0 h0
   split at e
   ·rename_i x y
    obtain⟨X,Y,hx,hy,rfl⟩:=CR hd
    exact FB h h0 hx hy e
   ·cases e
  ·cases e
 ·split at e
  ·rename_i t0 h0
   split at e
   ·rename_i x
    obtain⟨X,hx,rfl⟩:=lF hd
    exact(aP h e fun v hv=>yz h0 hx hv).toR h
   ·cases e
  ·cases e
 ·split at e
  ·rename_i tt v
   cases e
   obtain⟨X,hx,rfl⟩:=lF hd
   refine⟨X,hx,?_,h⟩
   simp only[den]at hx
   split at hx
   ·cases hx
    simp[Go.builtin,Instr.panic]
   ·cases hx
  ·cases e
 ·cases e
def HV.entry:HV->Array Value->Sem Value
 |.indexByte=>Extern.BytealgIndexByte.indexByte
 |.count=>Extern.BytealgCount.count
structure gZ(E:cU):Prop where
 ext:∀ f k fn,E.ext f=some k->E.P.funcs[f]? = some fn->fn.body=none->(fn.name == "runtime.NumGoroutine")=false/\Extern.findNext fn=none/\Extern.find fn=some k.entry
theorem JS(x c:Nat):(UInt8.ofNat x==UInt8.ofNat c)=Nat.beq (Nat.mod x 256) (Nat.mod c 256):=by
 rw[Bool.eq_iff_iff]
 simp only[beq_iff_eq,Nat.beq_eq]
 constructor
 ·intro h
  have:=congrArg UInt8.toNat h
  simp at this;exact this
 ·intro h
  apply UInt8.toNat_inj.1
  simp;exact h
theorem qI(c:Nat):∀(l:List Nat) (i:Nat),(match gQ (Nat.mod c 256) l i with|some j=>(Int.ofNat j)|none=>-1)=if Lib.indexByte (l.map UInt8.ofNat) (UInt8.ofNat c)=-1 then -1 else Lib.indexByte (l.map UInt8.ofNat) (UInt8.ofNat c)+i
 |[],i=>rfl
 |x::l,i=>by
  have ih:=qI c l (i+1)
  have hge:=Lib.indexByte_ge (l.map UInt8.ofNat) (UInt8.ofNat c)
  simp only[gQ,List.map_cons,Lib.indexByte,JS]
  cases hb:Nat.beq (Nat.mod x 256) (Nat.mod c 256)with
  |true=>simp
  |false =>
   simp only[cond_false,Bool.false_eq_true,if_false]
   rw[ih]
   by_cases hq:Lib.indexByte (l.map UInt8.ofNat) (UInt8.ofNat c)=-1
   ·simp[hq]
   ·have h1:(Lib.indexByte (l.map UInt8.ofNat) (UInt8.ofNat c)==-1)=false:=by simpa using hq
    rw[if_neg hq,h1]
    simp only[Bool.false_eq_true,if_false]
    rw[if_neg (by omega)]
    push_cast
    omega
theorem yt(c:Nat):∀(l:List Nat),countByte (Nat.mod c 256) l=Lib.countByte (l.map UInt8.ofNat) (UInt8.ofNat c)
 |[]=>rfl
 |x::l=>by
  have ih:=yt c l
  simp only[countByte,List.map_cons,Lib.countByte,List.count_cons,JS]at ih ⊢
  cases hb:Nat.beq (Nat.mod x 256) (Nat.mod c 256)with
  |true=>simp[ih]
  |false=>simp[ih]
theorem zD{k:HV}{args:List V}{ys:List Value}(hd:aN ρ args=some ys){v:V}(e:CH k args=some v) :
 ∃ y,den ρ v=some y/\(k.entry ys.toArray).run P w=.ok y w:=by
 unfold CH at e
 split at e
 ·rename_i l c
  obtain⟨X,Y,hx,hy,rfl⟩:=CR hd
  cases hx;cases hy
  have hl:(ay l).data.toList=l.map UInt8.ofNat:=by simp[ay]
  have hc:(Int.ofNat c).toNat.toUInt8=UInt8.ofNat c:=rfl
  split at e
  ·have:=Lib.run_indexByteString (P:=P) (ay l) (Int.ofNat c) w
   have h2:=qI c l 0
   rw[hl,hc]at this
   refine⟨_,?_,this⟩
   simp only[Option.some.injEq]at e
   subst e
   have hge:=Lib.indexByte_ge (l.map UInt8.ofNat) (UInt8.ofNat c)
   generalize Lib.indexByte (l.map UInt8.ofNat) (UInt8.ofNat c)=r at *
   cases hq:gQ (Nat.mod c 256) l 0 with
   |none =>
    rw[hq]at h2
    simp only at h2 ⊢
    by_cases hr:r=-1
    ·subst hr;rfl
    ·rw[if_neg hr]at h2;simp at h2;omega
   |some j =>
    rw[hq]at h2
    simp only at h2 ⊢
    by_cases hr:r=-1
    ·rw[if_pos hr]at h2;simp at h2
    ·rw[if_neg hr]at h2;simp at h2;rw[<- h2];rfl
  ·have:=Lib.run_countString (P:=P) (ay l) (Int.ofNat c) w
   rw[hl,hc]at this
   refine⟨_,?_,this⟩
   simp only[Option.some.injEq]at e
   subst e
   rw[cb,yt];rfl
 ·cases e
theorem FJ{E:cU}(hE:gZ E)(h:HR ρ s w){f:FuncId}{args:List V}{ys:List Value}(hd:aN ρ args=some ys){nx:Nx}(e:JQ E f args s=some nx) :
 Dx E.P ρ w nx ((callFunc f ys.toArray).run E.P w):=by
 unfold JQ at e
 split at e
 ·cases e
 ·rename_i fn hf
  split at e
  ·rename_i hb
   split at e
   ·rename_i k hk
    obtain⟨h1,h2,h3⟩:=hE.ext f k fn hk hf hb
    unfold bj at e
    split at e
    ·rename_i v hv
     cases e
     obtain⟨y,y1,y2⟩:=zD (P:=E.P) (w:=w) hd hv
     exact⟨ρ,y,w,by rw[run_callFunc_extern hf h1 (by simp[hb]) h2 h3,y2];rfl,y1,h,FR.refl ρ w⟩
    ·cases e
   ·cases e
  ·cases e
   exact⟨ys,hd,rfl,h⟩
theorem xq{fn:Fn}{first cap:List V}{X:Value}(h:den ρ (.func fn first cap)=some X):∃ g a b,lW ρ fn=some g/\aN ρ first=some a/\aN ρ cap=some b/\X=.func g a.toArray b.toArray:=by
 simp only[den]at h
 split at h
 ·rename_i g hg
  split at h
  ·rename_i a ha
   split at h
   ·rename_i b hb
    cases h
    exact⟨g,a,b,hg,ha,hb,rfl⟩
   ·cases h
  ·cases h
 ·cases h
theorem yL(ht:TR ρ t tm){args:Array Operand}{vs:List V}(h:gn t args.toList=some vs):∃ ys,aN ρ vs=some ys/\args.map (rv tm)=ys.toArray :=
 ⟨_,jx ht h,by simp[<- Array.toList_inj]⟩
theorem Dd{E:cU}(hE:gZ E)(h:HR ρ s w)(ht:TR ρ t tm){c:Call}{ty:TypeId}{nx:Nx}(e:gy E t s c.argTypes (gn t c.args.toList) c.callee=some nx) :
 Dx E.P ρ w nx ((do let d <- resolve (rv tm) c ty;invoke d.target d.args:Sem Next).run E.P w):=by
 unfold gy at e
 split at e
 ·rename_i args ha
  obtain⟨ys,y1,y2⟩:=yL ht ha
  split at e
  ·rename_i b hc
   simp only[resolve,hc,Sem.run_bind,Sem.run_pure,Result.andThen_ok,invoke,y2]
   exact FK h y1 e
  ·rename_i f hc
   unfold JP at e
   split at e
   ·rename_i fn first cap hf
    obtain⟨g,a,b,g1,g2,g3,g4⟩:=xq (az ht hf)
    simp only[resolve,hc,g4,Deferred.ofValue,Sem.run_bind,Sem.run_pure,Result.andThen_ok,y2]
    split at e
    ·rename_i g'
     cases g1
     have:=FJ hE h (cR g2 (cR y1 g3)) e
     simpa[invoke]using this
    ·rename_i l
     simp only[lW]at g1
     split at g1
     ·rename_i lb hlb
      cases g1
      cases e
      exact⟨lb,a++ys,hlb,cR g2 y1,by simp[invoke],h⟩
     ·cases g1
    ·cases e
   ·cases e
  ·cases e
 ·cases e
theorem zI(h:HR ρ s w)(ht:TR ρ t tm){c:Call}{ty:TypeId}{nx:Nx}(e:nW t s (gn t c.args.toList) c.callee=some nx) :
 Dx P ρ w nx ((do pure (.defer (<- resolve (rv tm) c ty)):Sem Next).run P w):=by
 unfold nW at e
 split at e
 ·rename_i args ha
  obtain⟨ys,y1,y2⟩:=yL ht ha
  split at e
  ·rename_i f hc
   unfold CS at e
   split at e
   ·rename_i fn first cap hf
    cases e
    obtain⟨g,a,b,g1,g2,g3,g4⟩:=xq (az ht hf)
    refine⟨_,⟨g,b,a++ys,g1,g3,cR g2 y1,rfl⟩,?_,h⟩
    simp[resolve,hc,g4,Deferred.ofValue,y2]
   ·cases e
  ·cases e
 ·cases e
theorem zF(h:HR ρ s w)(ht:TR ρ t tm){x:Operand}{nx:Nx}(e:vz s (eval t x)=some nx) :
 Dx P ρ w nx ((do pure (Next.value (<- Instr.panic (rv tm x))):Sem Next).run P w):=by
 unfold vz at e
 split at e
 ·rename_i tt v hx
  cases e
  have hv:=az ht hx
  refine⟨_,hv,?_,h⟩
  generalize rv tm x=X at *
  simp only[den]at hv
  split at hv
  ·cases hv
   simp[Instr.panic]
  ·cases hv
 ·cases e
theorem qy(h:HR ρ s w)(ht:TR ρ t tm){x:Operand}{nx:Nx}(e:bj s (eval t x)=some nx):yW P ρ w s nx ((pure (Next.value (rv tm x)):Sem Next).run P w):=by
 unfold bj at e
 split at e
 ·rename_i v hv
  cases e
  exact⟨_,_,rfl,rfl,az ht hv⟩
 ·cases e
theorem lj{E:cU}(hE:gZ E)(h:HR ρ s w)(ht:TR ρ t tm)(o:Oper){nx:Nx}(e:cT E t s o=some nx):Dx E.P ρ w nx ((execOp (rv tm) o).run E.P w):=by
 obtain⟨dst,op,type,pos,after,guard⟩:=o
 unfold cT at e
 simp only at e
 cases op<;>simp only[cS]at e<;>try(cases e;done)
 case move x=>exact(qy h ht e).toR h
 case assign x=>exact(qy h ht e).toR h
 case pick c a b=>exact(qV h ht e).toR h
 case alloc elem=>exact zH h e
 case box elem x=>exact Fk h ht e
 case build ty parts=>exact(oU h ht e).toR h
 case buildSlice ty len parts=>exact pF h ht e
 case load ty x=>exact(qX h ht e).toR h
 case store ty x y=>exact zE h ht e
 case nilCheck x=>exact(ku h ht e).toR h
 case binOp op ty x y z=>exact(uD h ht e).toR h
 case unOp op ty x=>exact(yl h ht e).toR h
 case convert src dst x=>exact CN h ht e
 case makeInterface ty x=>exact(lU h ht e).toR h
 case makeFunc fn first cap=>exact(nc h ht e).toR h
 case makeMap ty r =>
  cases r with
  |none=>cases e;exact uQ h
  |some _=>cases e
 case makeSlice ty l c=>exact uP h ht e
 case slice ty x lo hi mx=>exact(oR h ht e).toR h
 case fieldAddr ty x f=>exact(jA h ht e).toR h
 case field ty x f=>exact(oT h ht e).toR h
 case indexAddr ty x i=>exact(jz h ht e).toR h
 case index ty x i=>exact(oS h ht e).toR h
 case lookup ty x k ok=>exact(ng h ht e).toR h
 case mapUpdate ty m k x=>exact jy h ht e
 case insert ty m k x=>exact jy h ht e
 case typeAssert x xt ty ok=>exact(nh h ht e).toR h
 case extract x i=>exact(lV h ht e).toR h
 case call c=>exact Dd hE h ht e
 case defer c=>exact zI h ht e
 case panic x=>exact zF h ht e
end ops
def lP(ρ:aB):List Dt->List PanicEntry->Prop
 |[],[]=>True
 |p::ps,e::es=>(den ρ p.v=some e.v/\p.recovered=e.recovered/\e.goexit=false)/\lP ρ ps es
 |_,_=>False
theorem lP.mono{ρ ρ':aB}(h:ρ.le ρ'):∀ {c:List Dt} {ch:List PanicEntry},lP ρ c ch->lP ρ' c ch
 |[],[],_=>trivial
 |_::_,_::_,⟨⟨a,b⟩,k⟩=>⟨⟨bk h _ _ a,b⟩,lP.mono h k⟩
 |[],_::_,k=>k.elim
 |_::_,[],k=>k.elim
theorem lP.append{ρ:aB}:∀ {c d:List Dt} {ch dh:List PanicEntry},lP ρ c ch->lP ρ d dh->lP ρ (c++d) (ch++dh)
 |[],_,[],_,_,k=>k
 |_::_,_,_::_,_,⟨a,h⟩,k=>⟨a,lP.append h k⟩
 |[],_,_::_,_,h,_=>h.elim
 |_::_,_,[],_,h,_=>h.elim
def Pt(ρ:aB):Md->FrameMode->Prop
 |.run,.run=>True
 |.returning,.returning=>True
 |.panicking c,.panicking ch=>lP ρ c ch
 |_,_=>False
theorem Pt.mono{ρ ρ':aB}(h:ρ.le ρ'){m:Md}{fm:FrameMode}(k:Pt ρ m fm):Pt ρ' m fm:=by
 cases m<;>cases fm<;>first|exact k|exact lP.mono h k
theorem LE.mono{ρ ρ':aB}(h:ρ.le ρ'){d:dX}{r:Deferred}(k:LE ρ d r):LE ρ' d r:=by
 cases d with
 |call fn cap args =>
  obtain⟨g,c,a,h1,h2,h3,h4⟩:=k
  exact⟨g,c,a,yo h h1,eV h _ _ h2,eV h _ _ h3,h4⟩
 |collected r =>
  obtain⟨l,h1,h2⟩:=k
  exact⟨l,h _ _ _ h1,h2⟩
def Bz(ρ:aB):List dX->List Deferred->Prop
 |[],[]=>True
 |d::ds,r::rs=>LE ρ d r/\Bz ρ ds rs
 |_,_=>False
theorem Bz.mono{ρ ρ':aB}(h:ρ.le ρ'):∀ {c:List dX} {ch:List Deferred},Bz ρ c ch->Bz ρ' c ch
 |[],[],_=>trivial
 |_::_,_::_,⟨a,k⟩=>⟨a.mono h,Bz.mono h k⟩
 |[],_::_,k=>k.elim
 |_::_,[],k=>k.elim
def Pu(ρ:aB):XM->Ending->Prop
 |.returned v,.returned y=>den ρ v=some y
 |.panicked c,.panicked ch=>lP ρ c ch
 |_,_=>False
def bW(c:Frame):Ending->Frame
 |.returned v=>c.finish v
 |.panicked ch=>c.raise ch
 |.outgrown=>c
def RdR(ρ:aB)(up:Option Md)(rd ro:Option Nat):Prop:=match rd with
 |none=>ro=none
 |some l=>up=none/\∃ lb:ze,ρ l 0=some lb/\ro=some lb.b
def UpR(ρ:aB)(up:Option Md)(kind:CallKind)(cs:List Frame):Prop:=match up with
 |none=>kind=.normal
 |some u=>kind=.deferred/\∃ c cs',cs=c::cs'/\Pt ρ u c.mode
structure jl(P:Program)(ρ:aB)(f:FuncId)(fn:Func)(t:T V)(todo:List Item)(ds:List dX)(m:Md)(up:Option Md)(rd:Option Nat)(fr:Frame)(cs:List Frame):Prop where
 name:fr.fn=f
 func:P.funcs[f]? = some fn
 tr:TR ρ t fr.tmps
 size:fn.ntmps<=fr.tmps.size
 todo:m=.run->fr.todo=todo
 ds:Bz ρ ds fr.defers
 md:Pt ρ m fr.mode
 rd:RdR ρ up rd fr.roundOf
 up:UpR ρ up fr.kind cs
def oX(P:Program)(f:FuncId)(up rd:Bool)(cs:List Frame)(M:Machine)(ρ:aB)(w:World)(out:eo):Prop :=
 ∃ ρ' w',HR ρ' out.s w'/\FR ρ w ρ' w' /\
  match rd,up with
  |true,_=>∀ c cs',cs=c::cs'->∃ e,Pu ρ' out.e e/\Steps P M (lone (bW c e) cs' w')
  |false,false=>∃ fr' e,Pu ρ' out.e e/\Steps P M (lone fr' cs w')/\fr'.fn=f/\fr'.leaving P w' e
  |false,true=>∀ c cs',cs=c::cs'->∃ fr' e u u',out.up=some u/\Pt ρ' u u'/\Pu ρ' out.e e /\
   Steps P M (lone fr' ({ c with mode:=u' }::cs') w')/\fr'.kind=.deferred/\fr'.going P w' e
theorem oX.of_steps{P:Program}{f:FuncId}{up rd:Bool}{cs:List Frame}{M M0:Machine}{ρ ρ1:aB}{w w1:World}{out:eo}(hs:Steps P M0 M)(hf:FR ρ w ρ1 w1)(h:oX P f up rd cs M ρ1 w1 out) :
 oX P f up rd cs M0 ρ w out:=by
 obtain⟨ρ',w',h1,h2,h3⟩:=h
 refine⟨ρ',w',h1,hf.trans h2,?_⟩
 cases rd with
 |true=>intro c cs' hc;obtain⟨e,k1,k2⟩:=h3 c cs' hc;exact⟨e,k1,hs.trans k2⟩
 |false=>cases up with
  |false=>obtain⟨fr',e,k1,k2,k3⟩:=h3;exact⟨fr',e,k1,hs.trans k2,k3⟩
  |true=>intro c cs' hc;obtain⟨fr',e,u,u',k1,k2,k3,k4,k5⟩:=h3 c cs' hc;exact⟨fr',e,u,u',k1,k2,k3,hs.trans k4,k5⟩
theorem oX.of_mode{P:Program}{f:FuncId}{c:Frame}{cs:List Frame}{M:Machine}{ρ:aB}{w:World}{out:eo}{u1:FrameMode}(h:oX P f true false ({ c with mode:=u1 }::cs) M ρ w out) :
 oX P f true false (c::cs) M ρ w out:=by
 obtain⟨ρ',w',h1,h2,h3⟩:=h
 refine⟨ρ',w',h1,h2,fun c1 cs1 hc=>?_⟩
 cases hc
 exact h3 { c with mode:=u1 } cs rfl
def Dp(P:Program)(f:FuncId)(fn:Func)(t:T V)(todo:List Item)(ds:List dX)(m:Md)(up:Option Md)(rd:Option Nat)(s:S)(out:eo):Prop :=
 ∀ ρ w fr cs,HR ρ s w->jl P ρ f fn t todo ds m up rd fr cs->oX P f up.isSome rd.isSome cs (lone fr cs w) ρ w out
def Ug:Option Md->CallKind
 |none=>.normal
 |some _=>.deferred
def fB(P:Program)(f:FuncId)(args:List V)(up:Option Md)(s:S)(out:eo):Prop :=
 ∀ ρ w ys,HR ρ s w->aN ρ args=some ys->(∀ w,(callFunc f ys.toArray).run P w=.ok (.enter f ys.toArray) w) /\
  ∀ cs,(∀ u,up=some u->∃ c cs',cs=c::cs'/\Pt ρ u c.mode)->oX P f up.isSome false cs (lone (Frame.enter P f ys.toArray (Ug up)) cs w) ρ w out
def Pq(P:Program)(l:Nat)(args:List V)(s:S)(out:eo):Prop :=
 ∀ ρ w lb ys,HR ρ s w->ρ l 0=some lb->aN ρ args=some ys ->
  ∃ f tmps assign body,(Instr.yield lb.b ys.toArray).run P w=.ok (.round lb.b f tmps assign body) w /\
   ∀ cs,oX P f false true cs (lone (Frame.round lb.b f tmps assign body .normal) cs w) ρ w out
def XJ(P:Program):rG->S->eo->Prop
 |.frame f fn t todo ds m up rd,s,out=>Dp P f fn t todo ds m up rd s out
 |.call f args up,s,out=>fB P f args up s out
 |.round l args,s,out=>Pq P l args s out
def Good(P:Program)(ih:rG->S->Option eo):Prop:=∀ j s out,ih j s=some out->XJ P j s out
section steps
variable{P:Program}{fr:Frame}{k:List Item}{cs:List Frame}{w:World}
theorem PK(hm:fr.mode=.run)(ht:fr.todo=.code .skip::k):step P (lone fr cs w)=.next (lone { fr with todo:=k } cs w):=step_lone_go (by simp[stepG,stepG.exec,hm,ht])
theorem Mi{l:Nat}(hm:fr.mode=.run)(ht:fr.todo=.code (.label l)::k):step P (lone fr cs w)=.next (lone { fr with todo:=k } cs w):=step_lone_go (by simp[stepG,stepG.exec,hm,ht])
theorem Gq{l:Nat}(hm:fr.mode=.run)(ht:fr.todo=.inBlock l::k):step P (lone fr cs w)=.next (lone { fr with todo:=k } cs w):=step_lone_go (by simp[stepG,stepG.exec,hm,ht])
theorem Gp{c:Code}(hm:fr.mode=.run)(ht:fr.todo=.inScope c::k):step P (lone fr cs w)=.next (lone { fr with todo:=k } cs w):=step_lone_go (by simp[stepG,stepG.exec,hm,ht])
theorem Tk{a b:Code}(hm:fr.mode=.run)(ht:fr.todo=.code (.seq a b)::k):step P (lone fr cs w)=.next (lone { fr with todo:=.code a::.code b::k } cs w):=step_lone_go (by simp[stepG,stepG.exec,hm,ht])
theorem PP{c:Operand}{a b:Code}{q:Bool}(hm:fr.mode=.run)(ht:fr.todo=.code (.cond c a b)::k)(hc:rv fr.tmps c=.bool q):step P (lone fr cs w)=.next (lone { fr with todo:=.code (if q then a else b)::k } cs w) :=
 step_lone_go (by
  have he:fr.eval c=.bool q:=by rw[pA];exact hc
  simp[stepG,stepG.exec,hm,ht,he])
theorem Mk{id:Nat}{c:Code}(hm:fr.mode=.run)(ht:fr.todo=.code (.block id c)::k):step P (lone fr cs w)=.next (lone { fr with todo:=.code c::.inBlock id::k } cs w):=step_lone_go (by simp[stepG,stepG.exec,hm,ht])
theorem PM{c:Code}(hm:fr.mode=.run)(ht:fr.todo=.code (.loop c)::k):step P (lone fr cs w)=.next (lone { fr with todo:=.code c::.inLoop c::k } cs w):=step_lone_go (by simp[stepG,stepG.exec,hm,ht])
theorem Kl{c:Code}(hm:fr.mode=.run)(ht:fr.todo=.inLoop c::k):step P (lone fr cs w)=.next (lone { fr with todo:=.code c::.inLoop c::k } cs w):=step_lone_go (by simp[stepG,stepG.exec,hm,ht])
theorem Mg{c:Code}(hm:fr.mode=.run)(ht:fr.todo=.code (.scope c)::k):step P (lone fr cs w)=.next (lone { fr with todo:=.code c::.inScope c::k } cs w):=step_lone_go (by simp[stepG,stepG.exec,hm,ht])
theorem PO{id:Nat}{k':List Item}(hm:fr.mode=.run)(ht:fr.todo=.code (.exit id)::k)(h:exitTo id k=some k'):step P (lone fr cs w)=.next (lone { fr with todo:=k' } cs w):=step_lone_go (by simp[stepG,stepG.exec,hm,ht,h])
theorem PN{l:Nat}{k':List Item}(hm:fr.mode=.run)(ht:fr.todo=.code (.goto l)::k)(h:gotoIn l k=some k'):step P (lone fr cs w)=.next (lone { fr with todo:=k' } cs w):=step_lone_go (by simp[stepG,stepG.exec,hm,ht,h])
theorem Tm(hm:fr.mode=.run)(ht:fr.todo=.code .ret::k)(hr:fr.roundOf=none):step P (lone fr cs w)=.next (lone { fr with mode:=.returning } cs w):=step_lone_go (by simp[stepG,stepG.exec,hm,ht,hr])
theorem Tn(hm:fr.mode=.run)(ht:fr.todo=[])(hr:fr.roundOf=none):step P (lone fr cs w)=.next (lone { fr with mode:=.returning } cs w):=step_lone_go (by simp[stepG,stepG.exec,hm,ht,hr])
theorem Kk{id:Nat}{ops:Array Oper}(hm:fr.mode=.run)(ht:fr.todo=.code (.region id ops false)::k):step P (lone fr cs w)=.next (lone { fr with todo:=.inRegion ops (List.range ops.size)::k } cs w):=step_lone_go (by simp[stepG,stepG.exec,hm,ht])
theorem pU{ops:Array Oper}(hm:fr.mode=.run)(ht:fr.todo=.inRegion ops []::k):step P (lone fr cs w)=.next (lone { fr with todo:=k } cs w):=step_lone_go (by simp[stepG,stepG.exec,hm,ht])
theorem gK{ops:Array Oper}{i:Nat}{rest:List Nat}(hm:fr.mode=.run)(ht:fr.todo=.inRegion ops (i::rest)::k)(h:((ops[i]?).map (Region.wanted · (yielded ops fr.tmps))).getD false=false) :
 step P (lone fr cs w)=.next (lone (fr.finish undef) cs w):=step_lone_go (by simp[stepG,stepG.exec,hm,ht,h])
theorem gt{ops:Array Oper}{i:Nat}{rest:List Nat}{o:Oper}(hm:fr.mode=.run)(ht:fr.todo=.inRegion ops (i::rest)::k)(ho:ops[i]? = some o)(hw:Region.wanted o (yielded ops fr.tmps)=true)
 (hd:fr.roundOf=none\/∀ c,o.op≠.defer c) :
 stepG P true { frame:=fr,callers:=cs,status:=.running,dying:=none } w=stepG.apply P true fr cs none (execOp (rv fr.tmps) o) w:=by
 have he:fr.eval=rv fr.tmps:=pA fr
 rcases hd with hd|hd
 ·simp[stepG,stepG.exec,stepG.oper,Frame.oper?,hm,ht,ho,hw,he,hd]
 ·cases hr:fr.roundOf with
  |none=>simp[stepG,stepG.exec,stepG.oper,Frame.oper?,hm,ht,ho,hw,he,hr]
  |some l =>
   simp only[stepG,stepG.exec,stepG.oper,Frame.oper?,hm,ht,ho,hw,he,hr,Option.map_some,Option.getD_some,if_true]
   split
   ·rename_i hc;exact absurd hc (hd _)
   ·rfl
end steps
theorem xu{P:Program}{ρ:aB}{f:FuncId}{fn:Func}{t:T V}{todo:List Item}{ds:List dX}{up:Option Md}{rd:Option Nat}{fr:Frame}{cs:List Frame}
 (h:jl P ρ f fn t todo ds .run up rd fr cs):fr.mode=.run:=by
 have:=h.md
 cases hm:fr.mode<;>rw[hm]at this<;>first|rfl|exact this.elim
theorem jl.to{P:Program}{ρ:aB}{f:FuncId}{fn:Func}{t:T V}{todo:List Item}{ds:List dX}{up:Option Md}{rd:Option Nat}{fr:Frame}{cs:List Frame}
 (h:jl P ρ f fn t todo ds .run up rd fr cs) (todo':List Item):jl P ρ f fn t todo' ds .run up rd { fr with todo:=todo' } cs :=
 ⟨h.name,h.func,h.tr,h.size,fun _=>rfl,h.ds,h.md,h.rd,h.up⟩
theorem jl.mono{P:Program}{ρ ρ':aB}(hl:ρ.le ρ'){f:FuncId}{fn:Func}{t:T V}{todo:List Item}{ds:List dX}{m:Md}{up:Option Md}{rd:Option Nat}{fr:Frame}{cs:List Frame}
 (h:jl P ρ f fn t todo ds m up rd fr cs):jl P ρ' f fn t todo ds m up rd fr cs:=by
 refine⟨h.name,h.func,h.tr.mono hl,h.size,h.todo,h.ds.mono hl,h.md.mono hl,?_,?_⟩
 ·have:=h.rd
  cases rd with
  |none=>exact this
  |some l=>obtain⟨h1,lb,h2,h3⟩:=this;exact⟨h1,lb,hl _ _ _ h2,h3⟩
 ·have:=h.up
  cases up with
  |none=>exact this
  |some u=>obtain⟨h1,c,cs',h2,h3⟩:=this;exact⟨h1,c,cs',h2,h3.mono hl⟩
theorem dt{P:Program}{ρ:aB}{w:World}{f:FuncId}{fn:Func}{t':T V}{todo':List Item}{ds':List dX}{m':Md}{up:Option Md}{rd:Option Nat}{fr fr':Frame}{cs:List Frame}{s:S}{out:eo}
 (h:HR ρ s w) (hs:step P (lone fr cs w)=.next (lone fr' cs w)) (hF:jl P ρ f fn t' todo' ds' m' up rd fr' cs) (hgo:Dp P f fn t' todo' ds' m' up rd s out):oX P f up.isSome rd.isSome cs (lone fr cs w) ρ w out :=
 oX.of_steps (.one hs) (FR.refl ρ w) (hgo _ _ _ _ h hF)
def rB(up:Option Md)(cs cs':List Frame):Prop:=match up with
 |none=>cs'=cs
 |some _=>∃ c tl u,cs=c::tl/\cs'={ c with mode:=u }::tl
theorem rB.refl{P:Program}{ρ:aB}{f:FuncId}{fn:Func}{t:T V}{todo:List Item}{ds:List dX}{m:Md}{up:Option Md}{rd:Option Nat}{fr:Frame}{cs:List Frame}
 (h:jl P ρ f fn t todo ds m up rd fr cs):rB up cs cs:=by
 have:=h.up
 cases up with
 |none=>rfl
 |some u=>obtain⟨_,c,cs',h2,_⟩:=this;exact⟨c,cs',c.mode,h2,h2⟩
theorem rB.trans{up up':Option Md}(hu:up'.isSome=up.isSome){a b c:List Frame}(h:rB up a b)(k:rB up' b c):rB up a c:=by
 cases up with
 |none=>cases up' with
  |none=>exact Eq.trans k h
  |some _=>cases hu
 |some _=>cases up' with
  |none=>cases hu
  |some _ =>
   obtain⟨c1,t1,u1,rfl,rfl⟩:=h
   obtain⟨c2,t2,u2,h1,rfl⟩:=k
   cases h1
   exact⟨c1,t1,u2,rfl,rfl⟩
theorem oX.of_tops{P:Program}{f:FuncId}{up:Option Md}{rd:Option Nat}{cs cs':List Frame}{M:Machine}{ρ:aB}{w:World}{out:eo}(hr:up.isSome=true->rd=none)
 (ht:rB up cs cs') (h:oX P f up.isSome rd.isSome cs' M ρ w out):oX P f up.isSome rd.isSome cs M ρ w out:=by
 cases up with
 |none=>cases ht;exact h
 |some u =>
  cases hr rfl
  obtain⟨c,tl,u1,rfl,rfl⟩:=ht
  exact oX.of_mode h
theorem jl.lone_up{P:Program}{ρ:aB}{f:FuncId}{fn:Func}{t:T V}{todo:List Item}{ds:List dX}{m:Md}{up:Option Md}{rd:Option Nat}{fr:Frame}{cs:List Frame}
 (h:jl P ρ f fn t todo ds m up rd fr cs):up.isSome=true->rd=none:=by
 intro hu
 have:=h.rd
 cases rd with
 |none=>rfl
 |some l=>rw[this.1]at hu;cases hu
def putD(t:T V)(d:Option Tmp)(v:V):T V:=lY t d (some v) id
theorem bZ{β:Type}(t:T V)(d:Option Tmp)(v:V)(k:T V->β):lY t d (some v) k=k (putD t d v):=Qh t d (some v) k
def gj(tm:Array Value)(d:Option Tmp)(y:Value):Array Value:=match d with
 |some i=>tm.setIfInBounds i y
 |none=>tm
theorem TR.putD{ρ:aB}{t:T V}{tm:Array Value}(h:TR ρ t tm){d:Option Tmp}{v:V}{y:Value}(hv:den ρ v=some y)(hd:∀ i,d=some i->i<tm.size):TR ρ (AI.putD t d v) (gj tm d y):=by
 cases d with
 |none=>exact h
 |some i =>
  have:=TR.put h hv (hd i rfl)
  exact this
theorem AX{fr:Frame}{ops:Array Oper}{i:Nat}{rest:List Nat}{k:List Item}{o:Oper}(ht:fr.todo=.inRegion ops (i::rest)::k)(ho:ops[i]? = some o)(y:Value) :
 fr.finish y={ fr with tmps:=gj fr.tmps o.dst y,todo:=.inRegion ops rest::k }:=by
 simp only[Frame.finish,ht,ho,Option.bind_some,gj]
 cases o.dst<;>rfl
section
variable{P:Program}{ρ:aB}{f:FuncId}{fn:Func}{t:T V}{ds:List dX}{up:Option Md}{rd:Option Nat}{fr:Frame}{cs:List Frame}{ops:Array Oper}{i:Nat}{rest:List Nat}{k:List Item}{o:Oper}
theorem jl.finish(h:jl P ρ f fn t (.inRegion ops (i::rest)::k) ds .run up rd fr cs)(ho:ops[i]? = some o)(hd:∀ d,o.dst=some d->d<fn.ntmps){v:V}{y:Value}(hv:den ρ v=some y) :
 jl P ρ f fn (putD t o.dst v) (.inRegion ops rest::k) ds .run up rd (fr.finish y) cs:=by
 rw[AX (h.todo rfl) ho]
 refine⟨h.name,h.func,h.tr.putD hv fun i hi=>Nat.lt_of_lt_of_le (hd i hi) h.size,?_,fun _=>rfl,h.ds,h.md,h.rd,h.up⟩
 show fn.ntmps<=(gj fr.tmps o.dst y).size
 have:=h.size
 unfold gj
 split<;>simpa using this
theorem ei(h:TR ρ t fr.tmps){b:Bool}(e:bw ops t o=some b):Region.wanted o (yielded ops fr.tmps)=b:=by
 unfold bw at e
 unfold Region.wanted
 split at e
 ·rename_i hg;rw[hg];cases e;rfl
 ·rename_i j want hg
  rw[hg]
  split at e
  ·rename_i d hd
   split at e
   ·rename_i q hq
    obtain⟨y,h1,h2⟩:=h d _ hq
    cases h1;cases e
    simp[yielded,hd,h2]
   ·rename_i q hq
    obtain⟨y,h1,h2⟩:=h d _ hq
    cases e
    simp only[den]at h1
    split at h1
    ·cases h1;simp[yielded,hd,h2]
    ·cases h1
   ·cases e
  ·cases e
end
def Vs(P:Program)(ρ:aB)(w:World)(f:FuncId)(fn:Func)(k:List Item)(up:Option Md)(rd:Option Nat)(cs:List Frame)(M:Machine)(r:kG):Prop :=
 ∃ ρ' w' fr' cs',Steps P M (lone fr' cs' w')/\FR ρ w ρ' w'/\rB up cs cs'/\match r with
  |.on t' ds' up' s'=>HR ρ' s' w'/\jl P ρ' f fn t' k ds' .run up' rd fr' cs'/\up'.isSome=up.isSome
  |.panicked c t' ds' up' s'=>HR ρ' s' w'/\jl P ρ' f fn t' k ds' (.panicking c) up' rd fr' cs'/\up'.isSome=up.isSome
theorem Vs.of_steps{P:Program}{ρ ρ1:aB}{w w1:World}{f:FuncId}{fn:Func}{k:List Item}{up up1:Option Md}{rd:Option Nat}{cs cs1:List Frame}{M M0:Machine}{r:kG}
 (hs:Steps P M0 M) (hf:FR ρ w ρ1 w1) (ht:rB up cs cs1) (hu:up1.isSome=up.isSome) (h:Vs P ρ1 w1 f fn k up1 rd cs1 M r):Vs P ρ w f fn k up rd cs M0 r:=by
 obtain⟨ρ',w',fr',cs',h1,h2,h3,h4⟩:=h
 refine⟨ρ',w',fr',cs',hs.trans h1,hf.trans h2,ht.trans hu h3,?_⟩
 cases r<;>(simp only at h4 ⊢;exact⟨h4.1,h4.2.1,h4.2.2.trans hu⟩)
theorem pE{ops:Array Oper}{n:Nat}(h:kn ops n=true){i:Nat}{o:Oper}(ho:ops[i]? = some o):∀ d,o.dst=some d->d<n:=by
 intro d hd
 have:=List.all_eq_true.1 h o (by
  have:=Array.mem_of_getElem? ho
  simpa using this)
 rw[hd]at this
 exact jg this
theorem bb{fr:Frame}(hm:fr.mode=.run)(ch:List PanicEntry):fr.raise ch={ fr with mode:=.panicking ch }:=by
 simp[Frame.raise,hm]
theorem jW{E:cU}{ih:rG->S->Option eo}(hg:Good E.P ih){ρ:aB}{w:World}{s:S}(h:HR ρ s w){f:FuncId}{args:List V}{ys:List Value}(hd:aN ρ args=some ys){out:eo}
 (e:bt ih f args none s=some out):(∀ w,(callFunc f ys.toArray).run E.P w=.ok (.enter f ys.toArray) w)/\∀ c cs,∃ ρ' w' e,HR ρ' out.s w'/\FR ρ w ρ' w'/\Pu ρ' out.e e /\
  Steps E.P (lone (Frame.enter E.P f ys.toArray .normal) (c::cs) w) (lone (bW c e) cs w'):=by
 have hs:=hg (.call f args none) s out e
 obtain⟨h1,h2⟩:=hs ρ w ys h hd
 refine⟨h1,fun c cs=>?_⟩
 obtain⟨ρ',w',k1,k2,fr',e',k3,k4,k5,k6⟩:=h2 (c::cs) (fun u hu=>by cases hu)
 refine⟨ρ',w',e',k1,k2,k3,k4.trans (.one ?_)⟩
 cases e' with
 |returned v=>exact step_leave_returned k6
 |panicked ch=>exact step_leave_panicked k6
 |outgrown=>cases hout:out.e<;>rw[hout]at k3<;>exact k3.elim
end Go.AI
