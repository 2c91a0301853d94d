/- Lemmas. No conditions. -/
import Derived.Test.YtpghiabjaglpgaaGreatDoorA2
import Derived.Laws.IdiomStrings
import Derived.Lib.Bytealg
import Derived.Defers
import Derived.Recover
import Derived.RangeFuncRecord
set_option linter.all false
noncomputable section
namespace Go.AI
section ops
variable{P:Program}{ρ:aN}{s:S}{w:World}{t:T V}{tm:Array Value}
def mD{r:Nat}{es:Array MapEntry}{c:Nat}(h:w.heap[r]? = some (.map es c)):(getObj r).run P w=.ok (.map es c) w:=by simp only[getObj,Sem.run,h]
def zg{r:Nat}{es:Array MapEntry}{c:Nat}(h:w.heap[r]? = some (.map es c))(o:Obj):(setObj r o).run P w=.ok () { w with heap:=w.heap.setIfInBounds r o }:=by simp only[setObj,Sem.run,h]
def yC(w:World)(r:Nat)(o:Obj):YD w { w with heap:=w.heap.setIfInBounds r o } r :=
 ⟨by simp,rfl,rfl,rfl,fun k hk=>by simp[akX hk]⟩
def Hj{r:Nat}{o':Obj}(h:w.heap[r]? = some o')(o:Obj):({ w with heap:=w.heap.setIfInBounds r o }:World).heap[r]? = some o:=by have a:=(ajg.1 h).1;simp[a]
def kI{kt:TypeId}(h:eC P kt=true):∃ d,P.underlying kt=some d/\((∃ k,d=.int k)\/d=.string\/d=.bool\/∃ e,d=.pointer e):=by unfold eC at h;split at h<;>first|(cases h;done)|(rename_i a;refine⟨_,a,?_⟩;simp)
def jC{kt:TypeId}(h:eC P kt=true)(b:Bool)(K:Value):(Instr.checkKey b 10000 kt K).run P w=.ok () w:=by obtain⟨d,a,c⟩:=kI h;show(Instr.checkKey b (9999+1) kt K).run P w=_;rw[Instr.checkKey];simp only[afx,aG a,aeq];rcases c with⟨k,rfl⟩|rfl|rfl|⟨e,rfl⟩<;>rfl
structure Xz(P:Program)(ρ:aN)(w:World)(kt:TypeId)(eq:V->V->Option Bool)(k:V)(K:Value):Prop where
 ask:∀ key y r,eq k key=some r->den ρ key=some y->(Op.equal kt K y).run P w=.ok r w
 same:∀ key y,eq k key=some true->den ρ key=some y->y=K
 now:∀ d,P.underlying kt=some d->(∀ key y r,eq k key=some r->den ρ key=some y->Instr.sameNow d K y=some r)\/(∀ y,Instr.sameNow d K y=none)
 bits:∀ n,Instr.sameBits (n+1) K K=true
def yR:∀ {a b:List Nat},lF a b=some true->a=b
 |[],[],_=>rfl
 |[],_::_,h=>by cases h
 |_::_,[],h=>by cases h
 |a::x,b::y,h=>by
  simp only[lF]at h;cases hb:Nat.beq a b with
  |true=>rw[hb]at h;rw[abr hb,yR h]
  |false =>
   rw[hb]at h;cases hc:(Nat.blt a 256&&Nat.blt b 256)with
   |true=>rw[hc]at h;cases h
   |false=>rw[hc]at h;cases h
def TL(a b:ByteArray):(a==b)=(a.data==b.data):=by cases a;cases b;rfl
def Ll(a b:List Nat):(aK a==aK b)=((aK a).toList==(aK b).toList):=by rw[TL,bX,bX];show((a.map UInt8.ofNat).toArray==(b.map UInt8.ofNat).toArray)=_;simp
def tD(a:ByteArray):(a==a)=true:=by rw[TL];simp
def Xc(h:HR ρ s w){kt:TypeId}(F:eC P kt=true){k:V}{K:Value}(hk:den ρ k=some K){e0:qi}{G:Bool}(h0:dq P (bU s) 20 kt k e0.key=some G) :
 Xz P ρ w kt (dq P (bU s) 20 kt) k K:=by
 obtain⟨d,q,B⟩:=kI F
 have key:∀ key,dq P (bU s) 20 kt k key≠none->(∃ a b i j,k=.int i a/\key=.int j b/\∃ x,d=.int x)\/(∃ a b,k=.str a/\key=.str b/\d=.string)\/(∃ a b,k=.bool a/\key=.bool b/\d=.bool) \/
  ((∃ e,d=.pointer e)/\((k=.nilptr/\key=.nilptr)\/(∃ a,k=.nilptr/\key=.ptr a)\/(∃ a,k=.ptr a/\key=.nilptr)\/(∃ a b,k=.ptr a/\key=.ptr b))):=by
  intro key l;rcases B with⟨x,rfl⟩|rfl|rfl|⟨e,rfl⟩<;>unfold dq at l<;>simp only[q]at l
  ·cases k<;>cases key<;>simp at l ⊢
  ·cases k<;>cases key<;>simp at l ⊢
  ·cases k<;>cases key<;>simp at l ⊢
  ·cases k<;>cases key<;>simp at l ⊢
 refine⟨fun key' y r c hy=>xg h 20 kt k key' r K y 10000 c hk hy (by omega),fun key' y c hy=>?_,fun d' u=>?_,fun n=>?_⟩
 ·have g:=c;rcases key key' (by rw[g];simp)with⟨a,b,i,j,rfl,rfl,x,rfl⟩|⟨a,b,rfl,rfl,rfl⟩|⟨a,b,rfl,rfl,rfl⟩|⟨⟨e,rfl⟩,⟨rfl,rfl⟩|⟨a,rfl,rfl⟩|⟨a,rfl,rfl⟩|⟨a,b,rfl,rfl⟩⟩<;>unfold dq at c<;>simp only[q]at c
  · 
   cases p:dC i j with
   |false=>rw[p]at c;cases c
   |true =>rw[p]at c;obtain rfl:i=j:=aiF p;simp at c;cases hk;cases hy;rw[c]
  ·rw[yR c]at hk;rw[hk]at hy;exact(aiJ hy).symm
  ·simp at c;subst c;rw[hk]at hy;exact(aiJ hy).symm
  ·rw[hk]at hy;exact(aiJ hy).symm
  ·simp at c
  ·simp at c
  ·split at c
   ·rename_i n hn;cases E:Nat.beq n 0 with
    |true=>rw[E]at c;cases c
    |false =>
     rw[E]at c;simp only[TD,Mt]at c;cases hp:(bU s a&&bU s b)with
     |false=>rw[hp]at c;cases c
     |true =>
     rw[hp]at c;simp only[ge]at c;cases z:Nat.beq a.f b.f with
     |false=>simp[z]at c
     |true =>
      cases A:Nat.beq a.v b.v with
      |false=>simp[z,A]at c
      |true =>
       simp[z,A]at c;have e1:=abr z;have e2:=abr A;have:a=b:=by cases a;cases b;simp_all
       subst this;rw[hk]at hy;exact(aiJ hy).symm
   ·cases c
 ·rw[q]at u;cases u;rcases B with⟨x,rfl⟩|rfl|rfl|⟨e,rfl⟩
  ·left;intro key' y r c hy;have g:=c;unfold dq at c;simp only[q]at c;rcases key key' (by rw[g];simp)with⟨a,b,i,j,rfl,rfl,_,_⟩|⟨a,b,rfl,rfl,m⟩|⟨a,b,rfl,rfl,m⟩|⟨⟨e,m⟩,_⟩<;>try(cases m;done)
   simp only at c;cases p:dC i j with
   |false=>rw[p]at c;cases c
   |true =>rw[p]at c;obtain rfl:i=j:=aiF p;cases hk;cases hy;simpa[Instr.sameNow]using c
  ·left;intro key' y r c hy;have g:=c;unfold dq at c;simp only[q]at c;rcases key key' (by rw[g];simp)with⟨a,b,i,j,rfl,rfl,_,m⟩|⟨a,b,rfl,rfl,_⟩|⟨a,b,rfl,rfl,m⟩|⟨⟨e,m⟩,_⟩<;>try(cases m;done)
   simp only at c;cases hk;cases hy;simp only[Instr.sameNow,Ll,mt c]
  ·left;intro key' y r c hy;have g:=c;unfold dq at c;simp only[q]at c;rcases key key' (by rw[g];simp)with⟨a,b,i,j,rfl,rfl,_,m⟩|⟨a,b,rfl,rfl,m⟩|⟨a,b,rfl,rfl,_⟩|⟨⟨e,m⟩,_⟩<;>try(cases m;done)
   simp only at c;cases hk;cases hy;simpa[Instr.sameNow]using c
  ·right;intro y;cases K<;>cases y<;>rfl
 ·rcases key e0.key (by rw[h0];simp)with⟨a,b,i,j,rfl,_⟩|⟨a,b,rfl,_⟩|⟨a,b,rfl,_⟩|⟨_,⟨rfl,_⟩|⟨a,rfl,_⟩|⟨a,rfl,_⟩|⟨a,b,rfl,_⟩⟩
  ·cases hk;simp[Instr.sameBits,tD]
  ·cases hk;simp[Instr.sameBits,tD]
  ·cases hk;simp[Instr.sameBits,tD]
  ·cases hk;simp[Instr.sameBits,tD]
  ·cases hk;simp[Instr.sameBits,tD]
  ·simp only[den]at hk;split at hk<;>cases hk;simp[Instr.sameBits]
  ·simp only[den]at hk;split at hk<;>cases hk;simp[Instr.sameBits]
def Ul(ρ:aN)(eq:V->V->Option Bool)(k:V)(y:Value)(r:Bool):Prop:=∃ key,den ρ key=some y/\eq k key=some r
def DY{eq:V->V->Option Bool}{k:V}:∀ {es:List qi} {rs:List MapEntry},gm ρ es rs->cD eq k es=some none->∀ e∈rs,Ul ρ eq k e.key false
 |[],[],_,_,e,c=>by cases c
 |a::es,b::rs,⟨g,j⟩,h,e,c=>by
  simp only[cD]at h;cases d:eq k a.key with
  |none=>simp[d,cD.foundKey]at h
  |some q =>
   cases q with
   |true=>simp[d,cD.foundKey]at h
   |false =>
    simp only[d,cD.foundKey]at h;rcases aff.1 c with rfl|c
    ·exact⟨a.key,g.1,d⟩
    ·exact DY j h e c
 |[],_::_,h,_,_,_=>h.elim
 |_::_,[],h,_,_,_=>h.elim
def Io{eq:V->V->Option Bool}{k v:V}:∀ {es:List qi} {rs:List MapEntry},gm ρ es rs->cD eq k es=some (some v) ->
 ∃ pre e post,rs=pre++e::post/\(∀ g∈pre,Ul ρ eq k g.key false)/\Ul ρ eq k e.key true/\den ρ v=some e.val
 |[],[],_,h=>by simp[cD]at h
 |a::es,b::rs,⟨j,l⟩,h=>by
  simp only[cD]at h;cases c:eq k a.key with
  |none=>simp[c,cD.foundKey]at h
  |some q =>
   cases q with
   |true =>simp only[c,cD.foundKey,abB]at h;subst h;exact⟨[],b,rs,rfl,(fun _ d=>by cases d),⟨a.key,j.1,c⟩,j.2.1⟩
   |false =>
    simp only[c,cD.foundKey]at h;obtain⟨pre,e,post,rfl,m,n,p⟩:=Io l h;refine⟨b::pre,e,post,rfl,fun g d=>?_,n,p⟩;rcases aff.1 d with rfl|d
    ·exact⟨a.key,j.1,c⟩
    ·exact m g d
 |[],_::_,h,_=>h.elim
 |_::_,[],h,_=>h.elim
def GT{eq:V->V->Option Bool}{k x:V}:∀ {es:List qi} {rs:List MapEntry},gm ρ es rs->dp eq k x es=some none->∀ e∈rs,Ul ρ eq k e.key false
 |[],[],_,_,e,c=>by cases c
 |a::es,b::rs,⟨j,m⟩,h,e,c=>by
  simp only[dp]at h;cases d:eq k a.key with
  |none=>simp[d,dp.setKey]at h
  |some q =>
   cases q with
   |true=>simp[d,dp.setKey]at h
   |false =>
    simp only[d,dp.setKey]at h;cases g:dp eq k x es with
    |none=>simp[g]at h
    |some u =>
     cases u with
     |some l=>simp[g]at h
     |none =>
      rcases aff.1 c with rfl|c
      ·exact⟨a.key,j.1,d⟩
      ·exact GT m g e c
 |[],_::_,h,_,_,_=>h.elim
 |_::_,[],h,_,_,_=>h.elim
def LB{eq:V->V->Option Bool}{k x:V}{K X:Value}(hk:den ρ k=some K)(n:den ρ x=some X):∀ {es es':List qi} {rs:List MapEntry},gm ρ es rs->dp eq k x es=some (some es') ->
 ∃ pre e post,rs=pre++e::post/\(∀ m∈pre,Ul ρ eq k m.key false)/\Ul ρ eq k e.key true/\gm ρ es' (pre++{ e with key:=K,val:=X }::post)
 |[],_,[],_,h=>by simp[dp]at h
 |a::es,es',b::rs,⟨g,p⟩,h=>by
  simp only[dp]at h;cases c:eq k a.key with
  |none=>simp[c,dp.setKey]at h
  |some q =>
   cases q with
   |true =>simp only[c,dp.setKey,abB]at h;subst h;exact⟨[],b,rs,rfl,(fun _ d=>by cases d),⟨a.key,g.1,c⟩,⟨hk,n,g.2.2⟩,p⟩
   |false =>
    simp only[c,dp.setKey]at h;cases j:dp eq k x es with
    |none=>simp[j]at h
    |some u =>
     cases u with
     |none=>simp[j]at h
     |some l =>
      simp only[j,abB]at h;subst h;obtain⟨pre,e,post,rfl,r,v,y⟩:=LB hk n p j;refine⟨b::pre,e,post,rfl,fun m d=>?_,v,g,y⟩;rcases aff.1 d with rfl|d
      ·exact⟨a.key,g.1,c⟩
      ·exact r m d
 |[],_,_::_,h,_=>h.elim
 |_::_,_,[],h,_=>h.elim
def HG{d:TypeDesc}{K:Value}:∀ {rs:List MapEntry} (i:Nat),(∀ e∈rs,Instr.sameNow d K e.key=some false)->Instr.findNow d K rs i=some none
 |[],_,_=>rfl
 |e::rs,i,h=>by rw[Instr.findNow,h e (by simp)];exact HG (i+1) fun a b=>h a (by simp[b])
def ME{d:TypeDesc}{K:Value}{e:MapEntry}{post:List MapEntry}(b:Instr.sameNow d K e.key=some true):∀ {pre:List MapEntry} (i:Nat),(∀ e∈pre,Instr.sameNow d K e.key=some false)->Instr.findNow d K (pre++e::post) i=some (some (i+pre.length,e.val))
 |[],i,_=>by simp[Instr.findNow,b]
 |a::pre,i,h=>by rw[aiL,Instr.findNow,h a (by simp)];have:=ME (post:=post) b (pre:=pre) (i+1) fun c g=>h c (by simp[g]);rw[show i+(a::pre).length=i+1+pre.length by simp;omega];exact this
def Jj{kt:TypeId}{K:Value}:∀ {rs:List MapEntry} (i:Nat),(∀ e∈rs,(Op.equal kt K e.key).run P w=.ok false w)->(Instr.findAsking kt K rs i).run P w=.ok none w
 |[],_,_=>by simp[Instr.findAsking]
 |e::rs,i,h=>by simp only[Instr.findAsking,afx,h e (by simp),aeq,ajo,akG];exact Jj (i+1) fun a b=>h a (by simp[b])
def NV{kt:TypeId}{K:Value}{e:MapEntry}{post:List MapEntry}(b:(Op.equal kt K e.key).run P w=.ok true w):∀ {pre:List MapEntry} (i:Nat),(∀ e∈pre,(Op.equal kt K e.key).run P w=.ok false w)->(Instr.findAsking kt K (pre++e::post) i).run P w=.ok (some (i+pre.length,e.val)) w
 |[],i,_=>by simp[Instr.findAsking,b]
 |a::pre,i,h=>by simp only[aiL,Instr.findAsking,afx,h a (by simp),aeq,ajo,akG];have:=NV (post:=post) b (pre:=pre) (i+1) fun c d=>h c (by simp[d]);rw[show i+(a::pre).length=i+1+pre.length by simp;omega];exact this
def Hn{kt:TypeId}{d:TypeDesc}(a:P.underlying kt=some d){eq:V->V->Option Bool}{k:V}{K:Value}{rs:List MapEntry}(A:rs≠[]->Xz P ρ w kt eq k K)(h:∀ e∈rs,Ul ρ eq k e.key false) :
 (Instr.findKey kt K rs).run P w=.ok none w:=by
 by_cases b:rs=[]
 ·subst b;simp[Instr.findKey,aG a,Instr.findNow]
 ·replace A:=A b;simp only[Instr.findKey,afx,aG a,aeq];rcases A.now d a with g|g
  ·rw[HG 0 fun e c=>by obtain⟨key,j,l⟩:=h e c;exact g _ _ _ l j];rfl
  ·cases rs with
   |nil=>exact absurd rfl b
   |cons e rs =>rw[Instr.findNow,g];exact Jj 0 fun m c=>by obtain⟨key,j,l⟩:=h m c;exact A.ask _ _ _ l j
def Mf{kt:TypeId}{d:TypeDesc}(l:P.underlying kt=some d){eq:V->V->Option Bool}{k:V}{K:Value}{pre post:List MapEntry}{e:MapEntry}(A:Xz P ρ w kt eq k K)(h:∀ e∈pre,Ul ρ eq k e.key false)(a:Ul ρ eq k e.key true) :
 (Instr.findKey kt K (pre++e::post)).run P w=.ok (some (pre.length,e.val)) w:=by
 simp only[Instr.findKey,afx,aG l,aeq];obtain⟨key,m,n⟩:=a;rcases A.now d l with g|g
 ·rw[ME (g _ _ _ n m) 0 fun e b=>by obtain⟨key,a,c⟩:=h e b;exact g _ _ _ c a];simp
 ·have j:Instr.findNow d K (pre++e::post) 0=none:=by cases pre<;>(simp only[air,aiL];rw[Instr.findNow,g])
  rw[j];have:=NV (P:=P) (w:=w) (post:=post) (A.ask _ _ _ n m) 0 fun e b=>by obtain⟨key,a,c⟩:=h e b;exact A.ask _ _ _ c a
  simpa using this
def pW(h:HR ρ s w){kt:TypeId}(a:eC P kt=true){k:V}{K:Value}(hk:den ρ k=some K){y:Value}{r:Bool}(b:Ul ρ (dq P (bU s) 20 kt) k y r) :
 Xz P ρ w kt (dq P (bU s) 20 kt) k K:=by
 obtain⟨key,_,c⟩:=b;exact Xc h a hk (e0:=⟨key,key,0⟩) c
def Ft{r:Nat}{y:Value}(h:den ρ (.map r)=some y):∃ l,ρ r 0=some l/\y=.map (some l.b):=by
 simp only[den]at h;split at h
 ·rename_i l hl;cases h;exact⟨l,hl,rfl⟩
 ·cases h
def po(h:HR ρ s w)(G:TR ρ t tm){ty:TypeId}{x k:Operand}{ok:Bool}{nx:Nx}(e:bM s (kh P s ty (eval t x) (eval t k) ok)=some nx) :
 BY P ρ w s nx ((do pure (Next.value (<- Instr.lookup ty (rv tm x) (rv tm k) ok)):Sem Next).run P w):=by
 refine bj h e fun v a=>?_;unfold kh at a;split at a
 ·rename_i kt el H;split at a
  ·rename_i m hm;split at a
   ·rename_i k' hk;have dm:=aL G hm;have dk:=aL G hk;generalize rv tm x=X at *;generalize rv tm k=K at *;split at a
    ·rename_i es b;cases j:eC P kt with
     |false=>rw[j]at a;cases a
     |true =>
      rw[j]at a;simp only[ge]at a;obtain⟨d,I,_⟩:=kI j
      have L:∃(rs:Array MapEntry),gm ρ es rs.toList/\∀(o:Option (Nat×Value)),(Instr.findKey kt K rs.toList).run P w=.ok o w ->
       (Instr.lookup ty X K ok).run P w=match o with
        |some (_,v)=>.ok (if ok then .tuple #[v,.bool true] else v) w
        |none=>((zeroValue el).run P w).andThen fun v w=>.ok (if ok then .tuple #[v,.bool false] else v) w:=by
       unfold Bm at b;split at b
       ·cases b;cases dm;refine⟨#[],trivial,fun o ho=>?_⟩;simp only[Instr.lookup,afx,aG H,aeq,aiy,jC j,ho];cases o with
        |none=>simp only[afx,aiy];cases (zeroValue el).run P w<;>rfl
        |some o=>rfl
       ·rename_i r;split at b
        ·rename_i es' clock M;cases b;obtain⟨l,hl,rfl⟩:=Ft dm;obtain⟨l',rs,p,y,q⟩:=h.blk _ _ M;rw[hl]at p;cases p;refine⟨rs,q,fun o ho=>?_⟩;simp only[Instr.lookup,afx,aG H,aeq,mD y,aiy,jC j,ho];cases o with
         |none=>simp only[afx,aiy];cases (zeroValue el).run P w<;>rfl
         |some o=>rfl
        ·cases b
       ·cases b
      obtain⟨rs,n,c⟩:=L;unfold Ni at a;split at a
      ·rename_i u B;cases a;obtain⟨pre,e,post,p,y,q,J⟩:=Io n B;have A:=pW h j dk q;have:=c _ (by rw[p];exact Mf I A y q);refine⟨_,?_,this⟩;cases ok
       ·exact J
       ·simp only[ge,akC,den,bd,J]
      ·rename_i B;have hm:=DY n B
       have:=c none (Hn I (fun E=>by
        cases hr:rs.toList with
        |nil=>exact absurd hr E
        |cons e r=>exact pW h j dk (hm e (by rw[hr];simp))) hm)
       split at a
       ·rename_i z N;cases a;obtain⟨zv,it,hi,F,g⟩:=ff N;simp only[gi hi F,aeq]at this;refine⟨_,?_,this⟩;cases ok
        ·exact g ρ
        ·simp only[ge,akC,den,bd,g ρ]
       ·cases a
      ·cases a
    ·cases a
   ·cases a
  ·cases a
 ·cases a
def Oj(K old:Value)(a:old=K)(hb:∀ n,Instr.sameBits (n+1) K K=true):(Instr.keyThatStays old K).run P w=.ok K w:=by subst a;have:=hb 9999;simp only[Instr.keyThatStays];rw[aeM this];rfl
def gm.length:∀ {es:List qi} {rs:List MapEntry},gm ρ es rs->es.length=rs.length
 |[],[],_=>rfl
 |_::_,_::_,⟨_,h⟩=>by simp[gm.length h]
 |[],_::_,h=>h.elim
 |_::_,[],h=>h.elim
def gm.snoc{k x:V}{K X:Value}{c:Nat}(hk:den ρ k=some K)(a:den ρ x=some X):∀ {es:List qi} {rs:List MapEntry},gm ρ es rs->gm ρ (es++[⟨k,x,c⟩]) (rs++[⟨K,X,c⟩])
 |[],[],_=>⟨⟨hk,a,rfl⟩,trivial⟩
 |_::_,_::_,⟨b,d⟩=>⟨b,gm.snoc hk a d⟩
 |[],_::_,h=>h.elim
 |_::_,[],h=>h.elim
def Kv(pre post:List MapEntry)(e:MapEntry)(f:MapEntry->MapEntry):(pre++e::post).modify pre.length f=pre++f e::post:=by
 induction pre with
 |nil=>simp
 |cons a pre ih=>simpa using ih
def kW(h:HR ρ s w)(n:TR ρ t tm){ty:TypeId}{m k x:Operand}{nx:Nx}(e:fJ P s ty (eval t m) (eval t k) (eval t x)=some nx) :
 GR P ρ w nx ((do Instr.mapUpdate ty (rv tm m) (rv tm k) (rv tm x);pure Next.skip:Sem Next).run P w):=by
 unfold fJ at e;split at e
 ·rename_i r hm;split at e
  ·rename_i J hk;split at e
   ·rename_i L N;have dm:=aL n hm;have dk:=aL n hk;have dx:=aL n N;generalize rv tm m=M at *;generalize rv tm k=K at *;generalize rv tm x=X at *;split at e
    ·rename_i kt el G;split at e
     ·rename_i es clock p;cases c:eC P kt with
      |false=>rw[c]at e;cases e
      |true =>
       rw[c]at e;simp only[ge]at e;obtain⟨d,H,_⟩:=kI c;obtain⟨l,hl,rfl⟩:=Ft dm;obtain⟨l',rs,I,g,q⟩:=h.blk _ _ p;rw[hl]at I;cases I;unfold xY at e;split at e
       ·rename_i es' u;cases e;obtain⟨pre,e,post,v,O,y,Q⟩:=LB dk dx q u;have A:=pW h c dk y;have hsame:e.key=K:=by obtain⟨key,R,U⟩:=y;exact A.same _ _ U R
        have hfind:(Instr.findKey kt K rs.toList).run P w=.ok (some (pre.length,e.val)) w:=by rw[v];exact Mf H A O y
        have z:rs[pre.length]? = some e:=by rw[<- aiB,v];simp
        have hst:=Oj (P:=P) (w:=w) K e.key hsame A.bits;have j:(rs.modify pre.length fun e=>{ e with key:=K,val:=X }).toList=pre++{ e with key:=K,val:=X }::post:=by rw[Array.toList_modify,v,Kv]
        have a:(Instr.mapUpdate ty (.map (some l.b)) K X).run P w=.ok () { w with heap:=w.heap.setIfInBounds l.b (.map (rs.modify pre.length fun e=>{ e with key:=K,val:=X }) clock) }:=by simp only[Instr.mapUpdate,afx,aG G,aeq,mD g,jC c,hfind,z,ajl,ajG,hst,zg g]
        obtain⟨B,E⟩:=h.turn hl p (fun _ h=>by cases h) (yC w l.b _) (.map es' clock) ⟨l,_,hl,Hj g _,by rw[j];exact Q⟩;exact⟨ρ,_,by simp only[afx,a,aeq,aiy],B,E⟩
       ·rename_i u;cases e;have hmiss:=GT q u
        have hfind:(Instr.findKey kt K rs.toList).run P w=.ok none w:=Hn H (fun F=>by
         cases hr:rs.toList with
         |nil=>exact absurd hr F
         |cons e r=>exact pW h c dk (hmiss e (by rw[hr];simp))) hmiss
        have a:(Instr.mapUpdate ty (.map (some l.b)) K X).run P w=.ok () { w with heap:=w.heap.setIfInBounds l.b (.map (rs.push { key:=K,val:=X,born:=clock }) (clock+1)) }:=by simp only[Instr.mapUpdate,afx,aG G,aeq,mD g,jC c,hfind,zg g]
        obtain⟨B,E⟩:=h.turn hl p (fun _ h=>by cases h) (yC w l.b _) (.map (es++[⟨J,L,clock⟩]) (clock+1)) ⟨l,_,hl,Hj g _,by rw[Array.toList_push];exact gm.snoc dk dx q⟩;exact⟨ρ,_,by simp only[afx,a,aeq,aiy],B,E⟩
       ·cases e
     ·cases e
    ·cases e
   ·cases e
  ·cases e
 ·cases e
end ops
section ops
variable{P:Program}{ρ:aN}{s:S}{w:World}{t:T V}{tm:Array Value}
def ee(l:List Nat):(aK l).size=l.length:=by simp[aK,ByteArray.size]
def pU(l:List Nat):bd ρ (l.map mf)=some ((aK l).data.toList.map fun b=>Value.int .u8 b.toNat):=by
 have:(aK l).data.toList=l.map UInt8.ofNat:=by simp[aK]
 rw[this];induction l with
 |nil=>rfl
 |cons c l ih =>have ih':=ih (by simp[aK]);refine be.2 ⟨_,_,rfl,ih',?_⟩;simp[UInt8.toNat_ofNat'];rfl
def qJ:∀ {cs:List V} {l:List Nat},me cs=some l->bd ρ cs=some ((l.map Int.ofNat).map (Value.int .u8))
 |[],l,h=>by cases h;rfl
 |v::r,l,h=>by
  unfold me at h;split at h
  ·cases ‹v::r=[]›
  ·rename_i n r' a;cases a;cases hb:me r with
   |none=>simp[hb]at h
   |some q =>simp[hb]at h;subst h;exact be.2 ⟨_,_,rfl,qJ hb,rfl⟩
  ·cases h
def Hx:∀(l:List Nat) (r:ByteArray),(l.map Int.ofNat).foldl (fun r n=>r.push (UInt8.ofNat n.toNat)) r=⟨r.data++(l.map UInt8.ofNat).toArray⟩
 |[],r=>by simp
 |c::l,r=>by simp only[aeL,akI];rw[Hx l];simp[ByteArray.push]
def jF{el:TypeId}(h:gR P el=true):P.underlying el=some (.int .u8):=by
 unfold gR at h;split at h
 ·assumption
 ·cases h
def oL{a:Ad}{n:Nat}{l:List V}(h:HR ρ s w)(e:loadCells s a n=some l):∃ lo ys,ρ a.f a.v=some lo/\lo.base<=a.c/\bd ρ l=some ys/\ys.length=n /\
 (Go.loadCells ⟨lo.b,a.c - lo.base,none⟩ n).run P w=.ok ys.toArray w:=by
 obtain⟨ad,ys,g,j,d,m⟩:=jk h e;obtain⟨lo,p,q,rfl⟩:=tu g;have:=ajL (P:=P) (w:=w) _ ys m;rw[d]at this;exact⟨lo,ys,p,q,j,d,this⟩
def uY(h:HR ρ s w){c dst:TypeId}{ds:TypeDesc}(p:P.underlying c=some ds)(q:P.underlying dst=some .string){x:V}{X:Value}(r:den ρ x=some X){v:V}{s':S}(e:CV P s ds x=some (v,s')) :
 s'=s/\∃ y,den ρ v=some y/\(convert c dst X).run P w=.ok y w:=by
 unfold CV at e;split at e
 ·rename_i k n;cases e;cases r;refine⟨rfl,.string (Utf8.encode n),?_,?_⟩
  ·simp only[den];rw[xu]
  ·cases ds<;>simp[convert,aG p,aG q,Conv.intToString]
 ·cases e;cases r;refine⟨rfl,_,rfl,?_⟩;cases ds<;>simp[convert,aG p,aG q]
 ·split at e
  ·rename_i el;cases hb:gR P el with
   |false=>rw[hb]at e;cases e
   |true =>rw[hb]at e;cases e;cases r;refine⟨rfl,.string .empty,rfl,?_⟩;simp[convert,aG p,aG q,aG (jF hb),Conv.bytesToString]
  ·cases e
 ·rename_i a z n cap sz;split at e
  ·rename_i el;cases hb:gR P el with
   |false=>rw[hb]at e;cases e
   |true =>
    rw[hb]at e;simp only[ge]at e;cases d:Nat.beq sz 0 with
    |true=>rw[d]at e;cases e
    |false =>
    rw[d]at e;simp only[TD]at e;split at e
    ·rename_i l hl;cases e;obtain⟨lo,A,g2,g3,B,g5,rfl⟩:=fO r (.inl (MD d));cases g:loadCells s a n with
     |none=>simp[g]at hl
     |some cs =>
      simp only[g,ako]at hl;obtain⟨lo',ys,u,k2,E,F,G⟩:=oL (P:=P) h g;rw[A]at u;cases u;have m:=qJ (ρ:=ρ) hl;rw[E]at m;cases m;have hload:(Go.loadCells ⟨lo.b,bC lo a z cap sz - lo.base,none⟩ n).run P w=.ok ((l.map Int.ofNat).map (Value.int .u8)).toArray w:=by
       rcases ajx n with h0|h0
       ·subst h0;have:l=[]:=by simpa using F
        subst this;exact ajL (P:=P) (w:=w) _ [] (fun j v h=>by simp at h)
       ·rw[eN B h0];exact G
      refine⟨rfl,.string (aK l),rfl,?_⟩;rw[run_convert_bytes_string w c dst el _ _ _ p (jF hb) q,run_bytesToString w _ _ _ _ hload,Hx];congr 2;apply ByteArray.ext;simp[aK]
    ·cases e
  ·cases e
 ·cases e
def Cj(h:HR ρ s w){d dst el:TypeId}{ds:TypeDesc}(m:P.underlying d=some ds)(n:P.underlying dst=some (.slice el)){x:V}{X:Value}(p:den ρ x=some X){v:V}{s':S}(e:pD P s ds el x=some (v,s')) :
 ∃ ρ' y w',(convert d dst X).run P w=.ok y w'/\den ρ' v=some y/\HR ρ' s' w'/\FR ρ w ρ' w':=by
 unfold pD at e;split at e
 ·rename_i l;split at e
  ·cases hb:gR P el with
   |false=>rw[hb]at e;cases e
   |true =>
    rw[hb]at e;simp only[ge]at e;simp only[bw]at e;cases e;cases p;have b:=run_bytes_of_string w d dst el (aK l) m n (jF hb);rw[ee]at b;have g:=grownCap_ge w l.length 0 el;generalize hc:grownCap w l.length 0 el=cap at *;have c:(bytesRow (aK l) cap).size=cap:=by simp only[bytesRow,aky,Array.size_map,Array.size_replicate,ee];have:(aK l).data.size=l.length:=ee l;omega
    rw[c]at b;have j:bd ρ (l.map mf)=some ((bytesRow (aK l) cap).toList.take (l.map mf).length):=by
     rw[pU];have:(aK l).data.toList.length=l.length:=by simp[aK]
     simp[bytesRow,this]
    obtain⟨ρ',q,r,u⟩:=gQ (h.drawn (w.drawn+1)) true el el (cs:=l.map mf) (ys:=bytesRow (aK l) cap) j (cap,cap+1) ⟨(fun h=>by cases h),fun i hi=>by rw[c]at hi;simp;omega⟩;refine⟨ρ',_,_,b,?_,r,(FR.drawn w (w.drawn+1)).trans u⟩;have:=dO (a:=⟨s.next,0,0⟩) (z:=0) (len:=l.length) (cap:=none) (sz:=1) q (by simp) (aje _) (by show l.length<=(Array.size _ - 0) / 1;rw[c];simpa using g) Nat.one_pos;rw[this];simp only[cE,bC,c];simp
  ·cases e
 ·cases e
def Gc(h:HR ρ s w)(m:TR ρ t tm){a dst:TypeId}{x:Operand}{nx:Nx}(e:gY P s a dst (eval t x)=some nx) :
 GR P ρ w nx ((do pure (Next.value (<- convert a dst (rv tm x))):Sem Next).run P w):=by
 unfold gY at e;split at e
 ·rename_i v p;have dv:=aL m p;generalize rv tm x=X at *;unfold ji at e;split at e
  ·rename_i y s' hc;cases e;unfold iU at hc;split at hc
   ·rename_i ds c;split at hc
    ·rename_i k b;split at hc
     ·rename_i j n;cases hc;cases dv;refine⟨ρ,.int k (k.wrap n),w,?_,by rw[cJ];rfl,h,FR.refl ρ w⟩;have:(convert a dst (.int j n)).run P w=.ok (.int k (k.wrap n)) w:=by cases ds<;>simp[convert,aG c,aG b,Conv.intToInt]
      simp[this]
     ·cases hc
    ·rename_i b;obtain⟨rfl,d,g,l⟩:=uY h c b dv hc;exact⟨ρ,d,w,by simp[l],g,h,FR.refl ρ w⟩
    ·rename_i el b;obtain⟨ρ',d,w',g,l,q,r⟩:=Cj h c b dv hc;exact⟨ρ',d,w',by simp[g],l,q,r⟩
    ·cases hc
   ·cases hc
  ·cases e
 ·cases e
end ops
section ops
variable{P:Program}{ρ:aN}{s:S}{w:World}{t:T V}{tm:Array Value}
def Kk{t:TypeId}(h:HH P t=true):∃ d,P.underlying t=some d/\∀ k,d≠.int k:=by
 unfold HH at h;split at h
 ·cases h
 ·rename_i d a b;exact⟨d,b,fun k e=>a k (by rw[<- e])⟩
 ·cases h
def ja{ts:Array TypeId}{ty sT xT elem:TypeId}{d:TypeDesc}{n sz sLen sCap:Nat}{base:Option Addr}{Y:Value}(h0:ts[0]? = some sT)(b:ts[1]? = some xT)
 (c:P.underlying sT=some (.slice elem)) (e:P.underlying xT=some d) (g:∀ k,d≠.int k) (h:size P elem=some sz) (hl:(Builtin.lenOf Y).run P w=.ok n w)
 (hroom:sLen+n<=sCap) {news:Array Value} (j:(Builtin.firstCells sz n Y).run P w=.ok news w) :
 (Builtin.append_ ts ty #[.slice base sLen sCap,Y]).run P w=(match base with
  |some a=>((Go.storeCells (a.add (sLen*sz)) news.toList).run P w).andThen fun _ w=>.ok (.slice base (sLen+n) sCap) w
  |none=>.ok (.slice base (sLen+n) sCap) w):=by
 have hm:(match(generalizing:=false) d with|.int _=>true|_=>false)=false:=by cases d<;>first|rfl|exact absurd rfl (g _)
 cases base<;>simp[Builtin.append_,h0,b,aG c,cA h,aG e,hl,hroom,j,hm]
def next_le(need old:Nat)(h:old<need):Builtin.nextslicecap need old<=2*need+1000:=by
 have g:∀(r c:Nat),c<=2*need+500->Builtin.growBy need r c<=2*need+1000:=by
  intro r;induction r with
  |zero=>intro c hc;simp[Builtin.growBy];omega
  |succ r ih =>
   intro c hc;simp only[Builtin.growBy];split
   ·omega
   ·exact ih _ (by omega)
 unfold Builtin.nextslicecap;split
 ·omega
 ·split
  ·omega
  ·exact g 4 old (by omega)
def Om{elem:TypeId}{m:Nat}(h:aM P elem m=true){i:TypeInfo}(hi:P.info? elem=some i):i.bytes*(m+m / 4+600)<=281474976710656/\m<=4611686018427387904:=by unfold aM at h;rw[hi]at h;simp only[abA]at h;exact⟨aeb h.1,aeb h.2⟩
def RC(need old:Nat)(h:old<need):Builtin.nextslicecap need old<=need+need / 4+600:=by
 have g:∀(r c:Nat),c<=need+need / 4+500->Builtin.growBy need r c<=need+need / 4+600:=by
  intro r;induction r with
  |zero=>intro c hc;simp[Builtin.growBy];omega
  |succ r ih =>
   intro c hc;simp only[Builtin.growBy];split
   ·omega
   ·exact ih _ (by omega)
 unfold Builtin.nextslicecap;split
 ·omega
 ·split
  ·omega
  ·exact g 4 old (by omega)
def lg{ts:Array TypeId}{ty sT xT elem:TypeId}{d:TypeDesc}{n sz sLen sCap:Nat}{base:Option Addr}{Y:Value}(h0:ts[0]? = some sT)(a:ts[1]? = some xT)
 (l:P.underlying sT=some (.slice elem)) (m:P.underlying xT=some d) (p:∀ k,d≠.int k) (q:size P elem=some sz) {i:TypeInfo} (hi:P.info? elem=some i) {z:Value} (b:i.zero=some z)
 (hl:(Builtin.lenOf Y).run P w=.ok n w) (hroom:sCap<sLen+n) (hr:aM P elem (sLen+n)=true) {olds news:Array Value}
 (ho:(Builtin.firstCells sz sLen (.slice base sLen sCap)).run P w.drew=.ok olds w.drew) (r:(Builtin.firstCells sz n Y).run P w.drew=.ok news w.drew) :
 (Builtin.append_ ts ty #[.slice base sLen sCap,Y]).run P w=.ok (.slice (some ⟨w.heap.size,0,none⟩) (sLen+n) (grownCap w (sLen+n) sCap elem))
  (w.drew.alloc (.cells (olds++news++Builtin.zeroCells z.cells (grownCap w (sLen+n) sCap elem - (sLen+n))) elem)):=by
 have c:¬(sLen+n<=sCap):=by omega
 obtain⟨hb,hn⟩:=Om hr hi;have e:¬(9223372036854775807<((sLen:Int)+(n:Int))):=by omega
 have g:¬(281474976710656<Builtin.nextslicecap (sLen+n) sCap*i.bytes):=by have a:=RC (sLen+n) sCap hroom;have u:=Nat.mul_le_mul_left i.bytes a;rw[Nat.mul_comm i.bytes (Builtin.nextslicecap _ _)]at u;omega
 have h:∀ w,(typeInfo elem).run P w=.ok i w:=fun w=>by simp[typeInfo,hi]
 have j:∀ w,(zeroValue elem).run P w=.ok z w:=fun w=>gi hi b w;have hm:(match(generalizing:=false) d with|.int _=>true|_=>false)=false:=by cases d<;>first|rfl|exact absurd rfl (p _)
 simp[Builtin.append_,h0,a,aG l,cA q,aG m,hl,c,h,j,e,g,Question.forced,ho,r,newRow,grownCap,hm]
def Ld{b:Ad}{z sz:Nat}{cap:Option Nat}{Y:Value}(h:den ρ (.slice b z 0 cap sz)=some Y):∃ q c,Y=.slice (some q) 0 c:=by
 simp only[den,ik]at h;split at h
 ·split at h
  ·cases h;exact⟨_,_,rfl⟩
  ·cases h
 ·split at h
  ·split at h
   ·cases h;exact⟨_,_,rfl⟩
   ·cases h
  ·cases h
def fL(h:HR ρ s w){sz n:Nat}{y:V}{Y:Value}{l:List V}(hy:den ρ y=some Y)(e:iZ s sz y=some (l,n)) :
 ∃ ys,bd ρ l=some ys/\ys.length=n*sz/\(Builtin.lenOf Y).run P w=.ok n w/\(Builtin.firstCells sz n Y).run P w=.ok ys.toArray w:=by
 unfold iZ at e;split at e
 ·cases e;cases hy;exact⟨[],rfl,by simp,rfl,rfl⟩
 ·rename_i b z m cap sz';cases a:Nat.beq m 0 with
  |true =>rw[a]at e;cases e;obtain rfl:=abr a;obtain⟨q,c,rfl⟩:=Ld hy;have:=ajL (P:=P) (w:=w) q [] (fun j v h=>by simp at h);exact⟨[],rfl,by simp,rfl,by simp only[Builtin.firstCells,akk];exact this⟩
  |false =>
  rw[a]at e;simp only[TD]at e;cases d:Nat.beq sz' 0 with
  |true=>rw[d]at e;cases e
  |false =>
  rw[d]at e;simp only[TD]at e;cases hb:Nat.beq sz sz' with
  |false=>rw[hb]at e;cases e
  |true =>
   rw[hb]at e;obtain rfl:=abr hb;simp only[ge]at e;split at e
   ·rename_i l' hl;cases e;obtain⟨lo,r,g2,g3,u,g5,rfl⟩:=fO hy (.inl (MD d));obtain⟨lo',ys,g,k2,x,p,A⟩:=oL (P:=P) h hl;rw[r]at g;cases g;refine⟨ys,x,p,rfl,?_⟩;rcases ajx n with h0|h0
    ·subst h0;have:ys=[]:=by simpa using p
     subst this;have:=ajL (P:=P) (w:=w) ⟨lo.b,bC lo b z cap sz - lo.base,none⟩ [] (fun j v h=>by simp at h);simp only[Builtin.firstCells,akk];exact this
    ·rw[eN u h0];exact A
   ·cases e
 ·rename_i l';cases hb:Nat.beq sz 1 with
  |false=>rw[hb]at e;cases e
  |true =>
   rw[hb]at e;obtain rfl:=abr hb;cases e;cases hy;refine⟨_,pU l',by simp[aK],by simp[Builtin.lenOf,ee],?_⟩;have:(aK l').extract 0 l'.length=aK l':=by rw[lz];simp
   have B:Array.map (fun b=>Value.int IntKind.u8 (b.toNat:Int)) (aK l').data=((aK l').data.toList.map fun b=>Value.int .u8 (b.toNat:Int)).toArray:=by simp[<- ajN]
   simp only[Builtin.firstCells,this,aiy,B]
 ·cases e
end ops
section ops
variable{P:Program}{ρ:aN}{s:S}{w:World}{t:T V}{tm:Array Value}
def HR.grow{w':World}(h:HR ρ s w){f nv L:Nat}{l l0:Ch}(h0:ρ f L=some l0)(p:ρ f nv=none)
 (m:∀ g v x,ρ g v=some x->x.b=l.b->g=f/\x.base=l.base) (r:l.b<w'.heap.size) (hsize:w.heap.size<=w'.heap.size)
 (E:w'.os=w.os) (htape:w'.tape=w.tape) (u:w'.output=w.output)
 (c:∀ k,k<w.heap.size->k≠l.b->w'.heap[k]? = w.heap[k]?) (j:l.b<w.heap.size->∃ g v x,ρ g v=some x/\x.b=l.b/\¬ x.ro) (F:¬ l.ro) (G:∀ v l,ρ f v=some l->¬ l.ro)
 {B:eh} (hB:Cb (ρ.put f nv l) w' f B):HR (ρ.put f nv l) (s.put f B) w'/\FR ρ w (ρ.put f nv l) w':=by
 have N:f<s.next:=akD fun hc=>by have:=h.fresh f L hc;rw[h0]at this;cases this
 refine⟨⟨?_,?_,?_,?_,?_,?_⟩,⟨aN.le_put _ p,hsize,E,htape,u,?_,?_⟩⟩
 ·intro g v a;rw[S.next_put]at a;unfold aN.put;rw[aeD (by omega)];exact h.fresh g v a
 ·intro g v x g' v' x' e M hb;rcases aN.of_put e with⟨rfl,rfl,rfl⟩|d
  ·rcases aN.of_put M with⟨rfl,rfl,rfl⟩|H
   ·exact⟨rfl,rfl⟩
   ·obtain⟨z,A⟩:=m _ _ _ H hb.symm;exact⟨z.symm,A.symm⟩
  ·rcases aN.of_put M with⟨rfl,rfl,rfl⟩|H
   ·exact m _ _ _ d hb
   ·exact h.inj _ _ _ _ _ _ d H hb
 ·intro g v x e;rcases aN.of_put e with⟨rfl,rfl,rfl⟩|e
  ·exact r
  ·exact aiN (h.low _ _ _ e) hsize
 ·intro g B' a;rw[S.get_put]at a;split at a
  ·rename_i e;cases a;subst e;exact hB
  ·rename_i I;refine(h.blk g B' a).keep (aN.le_put _ p) (fun v O=>?_) (fun v x n=>c _ (h.low _ _ _ n) fun e=>I (m _ _ _ n e).1.symm);unfold aN.put;rw[aeD (by omega)];exact O
 ·intro g B' a;rw[S.get_put]at a;rw[S.next_put];split at a
  ·rename_i e;subst e;exact N
  ·exact h.dom g B' a
 ·intro g B' a J v x n;rw[S.get_put]at a;rcases aN.of_put n with⟨rfl,rfl,rfl⟩|n
  ·exact F
  ·split at a
   ·rename_i e;subst e;exact G v x n
   ·exact h.rw g B' a J v x n
 ·intro b hb Q;refine c b hb fun e=>?_;subst e;obtain⟨g,v,x,z,A,K⟩:=j hb;exact Q g v x z K A
 ·intro g v x e hl;rcases aN.of_put e with⟨rfl,rfl,rfl⟩|e
  ·obtain⟨g,v,y,z,A,K⟩:=j hl;exact⟨g,v,y,z,A,fun q=>absurd q K⟩
  ·exact⟨g,v,x,e,rfl,id⟩
def FR.drew(ρ:aN)(w:World):FR ρ w ρ w.drew:=FR.drawn w _
def HR.drew(h:HR ρ s w):HR ρ s w.drew:=h.drawn _
def lu(h:HR ρ s w){elem:TypeId}{cs:List V}{ys:List Value}(g:bd ρ cs=some ys){len sz cap:Nat}(hl:len<=cap)(b:0<sz)(c:ys.length=len*sz){rest:Array Value}(hr:rest.size=(cap - len)*sz)
 {v:V} {s':S} (e:jG s elem cs len sz=(v,s')) :
 ∃ ρ',den ρ' v=some (.slice (some ⟨w.heap.size,0,none⟩) len cap)/\HR ρ' s' (w.alloc (.cells (ys.toArray++rest) elem))/\FR ρ w ρ' (w.alloc (.cells (ys.toArray++rest) elem)):=by
 simp only[jG,bz]at e;have hsize:(ys.toArray++rest).size=cap*sz:=by
  rw[aky,hr];have:ys.toArray.size=len*sz:=by simpa using c
  rw[this,<- akf];congr 1;omega
 have d:=bS g
 obtain⟨ρ',j,l,n⟩:=gQ h false elem elem (cs:=cs) (ys:=ys.toArray++rest) (by rw[g];congr 1;simp[<- d]) (0,0) ⟨fun _=>rfl,by simp⟩
 simp only[bw]at e l;cases e;refine⟨ρ',?_,l,n⟩;rw[hsize]at j;have m:cap*sz / sz=cap:=Nat.mul_div_cancel _ b;rw[dO (a:=⟨s.next,0,0⟩) (z:=0) (cap:=none) j (by simp[bC]) (aje _) (by show len<=(cap*sz - 0) / sz;rw[ajS,m];exact hl) b];simp only[cE,bC];simp[ajS,m]
def gF(z:Array Value)(n:Nat):(Builtin.zeroCells z n).size=n*z.size:=by simp[Builtin.zeroCells]
def yO{a:Ad}{e:TypeId}{sb:Bool}{nv:Nat}{vers:List nW}{u:nW}{n:Nat}{old:List V}(b:s.get a.f=some (.cells e sb nv vers))(d:bV vers a.v=some u)(hb:Nat.ble u.lo a.c=true)
 (ho:bv n (u.cells.drop (a.c - u.lo))=some old):loadCells s a n=some old:=by
 unfold loadCells;rw[b];simp only[d,hb,ge,ho]
def pj{elem:TypeId}{sz:Nat}(h:uJ P elem sz=true):∃ z i,P.info? elem=some i/\i.zero=some z/\z.cells.size=sz/\0<sz/\i.bytes*10000000<=100000000000000:=by
 unfold uJ at h;split at h
 ·rename_i zv b;simp only[abA]at h;obtain⟨z,i,hi,a,c⟩:=ff b;refine⟨z,i,hi,a,?_,kw h.1.2,?_⟩
  ·rw[nj (c fun _ _=>none)];exact abr h.1.1
  ·have:=h.2;unfold mu at this;rw[hi]at this;exact aeb this
 ·cases h
def Ie(h:HR ρ s w){ts:Array TypeId}{ty sT xT elem:TypeId}{d:TypeDesc}{n sz len z:Nat}{a:Ad}{cap:Option Nat}{y:V}{Xv Yv:Value}{l:List V}(h0:ts[0]? = some sT)(h1:ts[1]? = some xT)
 (hs:P.underlying sT=some (.slice elem)) (H:P.underlying xT=some d) (hd:∀ k,d≠.int k) (hz:size P elem=some sz) (hok:uJ P elem sz=true)
 (hX:den ρ (.slice a z len cap sz)=some Xv) (hY:den ρ y=some Yv) (ha:iZ s sz y=some (l,n)) (hrm:aM P elem (len+n)=true) (hn0:n≠0) {v:V} {s':S} (e:Au s elem a z len cap sz l n=some (v,s')) :
 ∃ ρ' r w',(Builtin.append_ ts ty #[Xv,Yv]).run P w=.ok r w'/\den ρ' v=some r/\HR ρ' s' w'/\FR ρ w ρ' w':=by
 obtain⟨zv,i,hi,hzi,hzs,W,hbytes⟩:=pj hok;obtain⟨lo,I,g2,g3,g4,g5,rfl⟩:=fO hX (.inl (by omega));obtain⟨ys,y1,y2,y3,y4⟩:=fL (P:=P) h hY ha;obtain⟨ys',y1',y2',y3',y4'⟩:=fL (P:=P) h.drew hY ha;rw[y1]at y1';cases y1';unfold Au at e;split at e
 ·rename_i el sb nv vers Z;split at e
  ·rename_i u hu;cases hb:Nat.ble u.lo a.c with
   |false=>rw[hb]at e;cases e
   |true =>
   rw[hb]at e;simp only[ge]at e;split at e
   ·rename_i old ho;have hload:=yO Z hu hb ho;obtain⟨lo',os,k1,k2,k3,k4,k5⟩:=oL (P:=P) h hload;obtain⟨lo'',os',k1',k2',k3',k4',k5'⟩:=oL (P:=P) h.drew hload;rw[k3]at k3';cases k3';rw[I]at k1 k1';cases k1;cases k1';have hcoord:0<len->bC lo a z cap sz=a.c:=eN g4;have X:(Builtin.firstCells sz len (.slice (some ⟨lo.b,bC lo a z cap sz - lo.base,none⟩) len (cE lo a cap sz))).run P w.drew=.ok os.toArray w.drew:=by
     rcases ajx len with q|q
     ·subst q;have:os=[]:=by simpa using k4
      subst this;have:=ajL (P:=P) (w:=w.drew) ⟨lo.b,bC lo a z cap sz - lo.base,none⟩ [] (fun j v h=>by simp at h);simp only[Builtin.firstCells,akk];exact this
     ·rw[hcoord q];exact k5'
    have J:=dG k3 y1;have hallLen:(os++ys).length=(len+n)*sz:=by rw[aae,k4,y2,akf]
    have fresh:cE lo a cap sz<len+n->∀ v s',jG s elem (old++l) (len+n) sz=(v,s') ->
     ∃ ρ' r w',(Builtin.append_ ts ty #[.slice (some ⟨lo.b,bC lo a z cap sz - lo.base,none⟩) len (cE lo a cap sz),Yv]).run P w=.ok r w'/\den ρ' v=some r/\HR ρ' s' w'/\FR ρ w ρ' w':=by
     intro hlt v s' e;have m:=lg (ty:=ty) h0 h1 hs H hd hz hi hzi y3 hlt hrm X y4';obtain⟨ρ',j1,j2,j3⟩:=lu h.drew (elem:=elem) J (grownCap_ge w (len+n) (cE lo a cap sz) elem) W hallLen (rest:=Builtin.zeroCells zv.cells (grownCap w (len+n) (cE lo a cap sz) elem - (len+n))) (by rw[gF,hzs]) e;refine⟨ρ',_,_,m,j1,?_,(FR.drew ρ w).trans ?_⟩
     ·simpa using j2
     ·simpa using j3
    split at e
    ·
     rename_i c;unfold FJ at e;cases hc:Nat.ble (len+n) c with
     |false =>rw[hc]at e;simp only[TD,abB]at e;refine fresh ?_ _ _ e;show c<len+n;exact akD fun q=>by rw[aeI q]at hc;cases hc
     |true =>
      rw[hc]at e;simp only[ge]at e;have hle:=aeb hc;split at e
      ·rename_i s1 hst;cases e;obtain⟨ad,w',L,F,q3,q4⟩:=io P h hst y1;have m:=ja (ty:=ty) (w:=w) (base:=some ⟨lo.b,a.c - lo.base,none⟩) h0 h1 hs H hd hz y3 hle y4;have had:ad=(⟨lo.b,a.c - lo.base,none⟩:Addr).add (len*sz):=by have:=tw (ρ:=ρ) (len*sz) (tq I g3);rw[this]at L;exact(aiJ L).symm
       simp only[<- had,F,aeq]at m;refine⟨ρ,_,w',m,?_,q3,q4⟩;exact dO I g3 g3 hle g5
      ·cases e
    ·
     cases ha1:l.all V.one with
     |false=>rw[ha1]at e;cases e
     |true =>
     rw[ha1]at e;simp only[ge,abB]at e;unfold Av at e;cases e;obtain⟨vr,hmem,hv⟩:=h.ver Z hu;obtain⟨lv,c,el',fz,r1,r2,r3,r4,r5,r6⟩:=vr;rw[hv,I]at r1;cases r1;have hB:=h.blk _ _ Z;have p:ρ a.f nv=none:=hB.1 nv (abD _);have hcells:∀(j:Nat) (q:Value),os[j]? = some q->c[a.c - lo.base+j]? = some q:=by obtain⟨ad,os2,M,N,t3,t4⟩:=jk h hload;rw[k3]at N;cases N;rw[tq I g3]at M;cases M;intro j q hq;have:=t4 j q hq;rw[kz]at this;simpa[World.cell?,r2]using this
     rcases aiA (cE lo a none sz) (len+n)with hlt|O
     ·
      have m:=lg (ty:=ty) h0 h1 hs H hd hz hi hzi y3 hlt hrm X y4';generalize hcap:grownCap w (len+n) (cE lo a none sz) elem=newCap at m;have Y:len+n<=newCap:=by rw[<- hcap];exact grownCap_ge w _ _ _
      have hsize:(os.toArray++ys.toArray++Builtin.zeroCells zv.cells (newCap - (len+n))).size=newCap*sz:=by rw[aky,gF,hzs,aky,List.size_toArray,List.size_toArray,<- aae,hallLen,<- akf];congr 1;omega
      have hq:newCap*sz / sz=newCap:=Nat.mul_div_cancel _ W;have hheap:∀ k,k<w.heap.size->(w.drew.alloc (.cells (os.toArray++ys.toArray++Builtin.zeroCells zv.cells (newCap - (len+n))) elem)).heap[k]? = w.heap[k]?:=fun k hk=>iG w.drew _ hk
      obtain⟨j1,j2⟩:=h.grow (w':=w.drew.alloc (.cells (os.toArray++ys.toArray++Builtin.zeroCells zv.cells (newCap - (len+n))) elem)) (f:=a.f) (nv:=nv) (l:=⟨w.heap.size,a.c,a.c+newCap*sz⟩) I p
       (fun g v x H hb=>by have:=h.low _ _ _ H;simp only at hb;omega) (by simp) (by simp) rfl rfl rfl
       (fun k hk _=>hheap k hk) (fun hb=>by simp at hb) (by show ¬(a.c+newCap*sz<a.c);omega) (fun v x H=>h.rw _ _ Z (fun _ h=>by cases h) v x H)
       (B:=.cells el sb (nv+1) (⟨nv,a.c,old++l⟩::vers.filter fun u=>Nat.ble (u.lo+u.cells.length) (a.c+len*sz))) (by
        refine⟨fun v hv=>?_,fun u' A=>?_⟩
        ·unfold aN.put;rw[aeD (by omega)];exact hB.1 v (by omega)
        ·rcases aff.1 A with rfl|A
         ·refine⟨akp _,⟨w.heap.size,a.c,a.c+newCap*sz⟩,_,elem,(0,0),aN.put_same _ _ _ _,eF w.drew _,abD _,by rw[hsize],⟨fun _=>rfl,by simp⟩,fun i x E=>?_⟩;obtain⟨q,L,F⟩:=eM i J E;refine⟨q,bN (aN.le_put _ p) _ _ L,?_⟩;have Q:i<(os++ys).length:=(aez.1 F).1;simp only[ajj,aiv];rw[<- aiB,Array.toList_append,Array.toList_append];rw[aeN (by simpa using Q)];exact F
         ·have hu2:=(akd.1 A).1;obtain⟨p1,R⟩:=hB.2 u' hu2;exact⟨by omega,(R.of_heap fun l' hl'=>hheap _ (h.low _ _ _ hl')).mono (aN.le_put _ p)⟩)
      refine⟨_,_,_,m,?_,j1,j2⟩;have G:cE ⟨w.heap.size,a.c,a.c+newCap*sz⟩ ⟨a.f,nv,a.c⟩ none sz=newCap:=by simp[cE,hq]
      have K:bC ⟨w.heap.size,a.c,a.c+newCap*sz⟩ ⟨a.f,nv,a.c⟩ z none sz=a.c:=eN (len:=len+n) (by rw[G];exact Y) (by omega);rw[dO (a:=⟨a.f,nv,a.c⟩) (z:=z) (len:=len+n) (cap:=none) (l:=⟨w.heap.size,a.c,a.c+newCap*sz⟩) (aN.put_same _ _ _ _) (by rw[K];exact abD _) (abD _) (by rw[G];exact Y) g5,K,G];simp
     ·
      have hroom:=O;have hcoord':bC lo a z none sz=a.c:=eN (len:=len+n) O (by omega);have m:=ja (ty:=ty) (w:=w) (base:=some ⟨lo.b,a.c - lo.base,none⟩) h0 h1 hs H hd hz y3 hroom y4;have hfit:a.c - lo.base+len*sz+0+ys.length<=c.size:=by have M:(len+n)*sz<=(lo.lim - a.c) / sz*sz:=ajY _ O;have N:=Nat.div_mul_le_self (lo.lim - a.c) sz;have t3:1*sz<=(len+n)*sz:=ajY _ (by omega);rw[y2];rw[akf]at M t3;omega
      have hone:∀ q∈ys,q.oneCell'=true:=fun q hq=>by
       obtain⟨j,hj⟩:=akT hq;have hyl:=bS y1;have hj2:j<l.length:=by have:=(aez.1 hj).1;omega
       obtain⟨q',M,N⟩:=eM j y1 (abF hj2);rw[hj]at N;cases N;exact zH M (aiX.1 ha1 _ (akg hj2))
      obtain⟨w',c',p1,R,p3,p4,p5⟩:=CZ P lo.b (a.c - lo.base+len*sz) el' fz ys 0 c w r2 r5.2 hfit hone;simp only[kz,p1,aeq]at m;rw[<- hcoord']at m;have hin:∀ g v x,ρ g v=some x->x.b=lo.b->g=a.f/\x.base=lo.base:=fun g v x H hb=>h.inj _ _ _ _ _ _ H I hb
      obtain⟨j1,j2⟩:=h.grow (w':=w') (f:=a.f) (nv:=nv) (l:=lo) I p hin (by rw[R.size];exact h.low _ _ _ I) (by rw[R.size];exact abD _) R.os R.tape R.output
       (fun k _ hk=>R.other k hk) (fun _=>⟨_,_,_,I,rfl,h.rw _ _ Z (fun _ h=>by cases h) _ _ I⟩) (h.rw _ _ Z (fun _ h=>by cases h) _ _ I) (fun v x H=>h.rw _ _ Z (fun _ h=>by cases h) v x H)
       (B:=.cells el sb (nv+1) (⟨nv,a.c,old++l⟩::vers.filter fun u=>Nat.ble (u.lo+u.cells.length) (a.c+len*sz))) (by
        refine⟨fun v hv=>?_,fun u' A=>?_⟩
        ·unfold aN.put;rw[aeD (by omega)];exact hB.1 v (by omega)
        ·rcases aff.1 A with rfl|A
         ·refine⟨akp _,lo,c',el',fz,aN.put_same _ _ _ _,p3,g3,by rw[p4];exact r4,by rw[p4];exact r5,fun i x E=>?_⟩;obtain⟨q,L,F⟩:=eM i J E;refine⟨q,bN (aN.le_put _ p) _ _ L,?_⟩;rw[p5];have Q:i<(os++ys).length:=(aez.1 F).1;rw[aae,k4]at Q;simp only;by_cases hi3:i<len*sz
          ·rw[aeD (by omega)];rw[aeN (by omega)]at F;exact hcells i q F
          ·rw[aeM (by omega)];rw[ajh (by omega),k4]at F;rw[<- F];congr 1;omega
         ·have hu2:=(akd.1 A).1;have hu3:=aeb (akd.1 A).2;obtain⟨s1,l',c2,e2,f2,M,N,t3,t4,t5,t6⟩:=hB.2 u' hu2;refine⟨by omega,?_⟩;by_cases U:l'.b=lo.b
          ·obtain⟨_,hbase⟩:=hin _ _ _ M U;rw[U,r2]at N;cases N;refine⟨l',c',el',fz,aN.le_put _ p _ _ _ M,by rw[U];exact p3,t3,by rw[p4];exact t4,by rw[p4];exact t5,fun i x E=>?_⟩;obtain⟨q,L,F⟩:=t6 i x E;refine⟨q,bN (aN.le_put _ p) _ _ L,?_⟩;have Q:i<u'.cells.length:=(aez.1 E).1;rw[p5,aeD (by omega)];exact F
          ·exact⟨l',c2,e2,f2,aN.le_put _ p _ _ _ M,by rw[R.other _ U];exact N,t3,t4,t5,fun i x E=>by obtain⟨q,L,F⟩:=t6 i x E;exact⟨q,bN (aN.le_put _ p) _ _ L,F⟩⟩)
      refine⟨_,_,w',m,?_,j1,j2⟩;have G:cE lo ⟨a.f,nv,a.c⟩ none sz=cE lo a none sz:=rfl;have K:bC lo ⟨a.f,nv,a.c⟩ z none sz=bC lo a z none sz:=rfl;rw[dO (a:=⟨a.f,nv,a.c⟩) (z:=z) (len:=len+n) (cap:=none) (l:=lo) (aN.put_same _ _ _ _) (by rw[K];exact g2) g3 (by rw[G];exact O) g5,K,G]
   ·cases e
  ·cases e
 ·cases e
def CK(h:HR ρ s w){ts:Array TypeId}{ty sT xT:TypeId}{x y:V}{X Y:Value}(h0:ts[0]? = some sT)(F:ts[1]? = some xT)(m:den ρ x=some X)(Q:den ρ y=some Y)
 {v:V} {s':S} (e:tE P sT xT s x y=some (v,s')) :
 ∃ ρ' r w',(Builtin.append_ ts ty #[X,Y]).run P w=.ok r w'/\den ρ' v=some r/\HR ρ' s' w'/\FR ρ w ρ' w':=by
 unfold tE at e;split at e
 ·rename_i elem G;cases B:HH P xT with
  |false=>rw[B]at e;cases e
  |true =>
  rw[B]at e;simp only[ge]at e;obtain⟨d,H,I⟩:=Kk B;split at e
  ·rename_i sz J;cases u:uJ P elem sz with
   |false=>rw[u]at e;cases e
   |true =>
   rw[u]at e;simp only[ge]at e;unfold eO at e;split at e
   ·rename_i l n R;cases U:aM P elem n with
    |false=>rw[U]at e;cases e
    |true =>
    rw[U]at e;simp only[ge]at e;obtain⟨zv,i,hi,K,L,A,hbytes⟩:=pj u;obtain⟨ys,W,Z,M,y4⟩:=fL (P:=P) h Q R;split at e
    ·cases m;cases hb:Nat.beq n 0 with
     |true =>rw[hb]at e;obtain rfl:=abr hb;cases e;refine⟨ρ,.slice none 0 0,w,?_,rfl,h,FR.refl ρ w⟩;exact ja (ty:=ty) (base:=none) (sLen:=0) (sCap:=0) h0 F G H I J M (abD _) y4
     |false =>
      rw[hb]at e;simp only[TD,abB]at e;have hn0:0<n:=akq fun q=>by subst q;simp at hb
      obtain⟨ys',y1',y2',y3',y4'⟩:=fL (P:=P) h.drew Q R;rw[W]at y1';cases y1';have g:=lg (ty:=ty) (base:=none) (sLen:=0) (sCap:=0) (olds:=#[]) h0 F G H I J hi K M (by omega) (by rw[aiv];exact U) rfl y4';simp only[aiv]at g;obtain⟨ρ',j1,j2,j3⟩:=lu h.drew (elem:=elem) W (grownCap_ge w n 0 elem) A Z (rest:=Builtin.zeroCells zv.cells (grownCap w n 0 elem - n)) (by rw[gF,L]) e;refine⟨ρ',_,_,g,j1,?_,(FR.drew ρ w).trans ?_⟩
      ·simpa using j2
      ·simpa using j3
    ·rename_i a z len cap sz';cases p:(Nat.beq len 0&&jv cap)with
     |true =>
      rw[p]at e;simp only[ge]at e;simp only[abA]at p;obtain rfl:=abr p.1;have N:cap=some 0:=by
       cases cap with
       |none=>cases p.2
       |some c=>rw[abr p.2]
      subst N;have hX0:∃ q,X=.slice (some q) 0 0:=by
       simp only[den,ik]at m;split at m
       ·split at m
        ·cases m;exact⟨_,rfl⟩
        ·cases m
       ·split at m
        ·split at m
         ·cases m;exact⟨_,rfl⟩
         ·cases m
        ·cases m
      obtain⟨q,rfl⟩:=hX0;cases hb:Nat.beq n 0 with
      |true =>
       rw[hb]at e;obtain rfl:=abr hb;cases e;refine⟨ρ,_,w,?_,m,h,FR.refl ρ w⟩;have:=ja (ty:=ty) (w:=w) (base:=some q) (sLen:=0) (sCap:=0) h0 F G H I J M (abD _) y4;have E:ys=[]:=by simpa using Z
       subst E;rw[this];simp[Go.storeCells]
      |false =>
       rw[hb]at e;simp only[TD,abB]at e;have hn0:0<n:=akq fun q=>by subst q;simp at hb
       obtain⟨ys',y1',y2',y3',y4'⟩:=fL (P:=P) h.drew Q R;rw[W]at y1';cases y1';have hol:(Builtin.firstCells sz 0 (.slice (some q) 0 0)).run P w.drew=.ok #[] w.drew:=by have:=ajL (P:=P) (w:=w.drew) q [] (fun j v h=>by simp at h);simp only[Builtin.firstCells,akk];exact this
       have g:=lg (ty:=ty) (base:=some q) (sLen:=0) (sCap:=0) (olds:=#[]) h0 F G H I J hi K M (by omega) (by rw[aiv];exact U) hol y4';simp only[aiv]at g;obtain⟨ρ',j1,j2,j3⟩:=lu h.drew (elem:=elem) W (grownCap_ge w n 0 elem) A Z (rest:=Builtin.zeroCells zv.cells (grownCap w n 0 elem - n)) (by rw[gF,L]) e;refine⟨ρ',_,_,g,j1,?_,(FR.drew ρ w).trans ?_⟩
       ·simpa using j2
       ·simpa using j3
     |false =>
     rw[p]at e;simp only[TD]at e;cases hb:(Nat.beq sz sz'&&aM P elem (len+n))with
     |false=>rw[hb]at e;cases e
     |true =>
     rw[hb]at e;simp only[ge]at e;simp only[abA]at hb;obtain rfl:=abr hb.1;have O:=hb.2;cases hb:Nat.beq n 0 with
     |true =>
      rw[hb]at e;obtain rfl:=abr hb;cases e;obtain⟨lo,g1,g2,g3,g4,g5,rfl⟩:=fO m (.inl (by omega));refine⟨ρ,_,w,?_,m,h,FR.refl ρ w⟩;have:=ja (ty:=ty) (w:=w) (base:=some ⟨lo.b,bC lo a z cap sz - lo.base,none⟩) (sLen:=len) (sCap:=cE lo a cap sz) h0 F G H I J M g4 y4;have E:ys=[]:=by simpa using Z
      subst E;rw[this];simp[Go.storeCells]
     |false =>rw[hb]at e;simp only[TD]at e;exact Ie h h0 F G H I J u m Q R O (fun q=>by subst q;simp at hb) e
    ·cases e
   ·cases e
  ·cases e
 ·cases e
end ops
section ops
variable{P:Program}{ρ:aN}{s:S}{w:World}{t:T V}{tm:Array Value}
def ng{x:V}{ys:List Value}(h:bd ρ [x]=some ys):∃ X,den ρ x=some X/\ys=[X]:=by obtain⟨X,q,a,b,rfl⟩:=be.1 h;cases b;exact⟨X,a,rfl⟩
def Gg{x y:V}{ys:List Value}(h:bd ρ [x,y]=some ys):∃ X Y,den ρ x=some X/\den ρ y=some Y/\ys=[X,Y]:=by obtain⟨X,q,a,b,rfl⟩:=be.1 h;obtain⟨Y,c,rfl⟩:=ng b;exact⟨X,Y,a,c,rfl⟩
def Aa(h:HR ρ s w){ts:Array TypeId}{ty t0:TypeId}{x:V}{X:Value}{v:V}(h0:ts[0]? = some t0)(d:den ρ x=some X)(e:lQ P t0 s x=some v) :
 ∃ y,den ρ v=some y/\(Builtin.len_ ts ty #[X]).run P w=.ok y w:=by
 unfold lQ at e;split at e
 ·rename_i l b;cases e;cases d;exact⟨_,by rw[cJ];rfl,by simp[Builtin.len_,h0,aG b,ee,goInt]⟩
 ·rename_i n _ _ b;cases e;exact⟨_,rfl,by simp[Builtin.len_,h0,aG b,goInt]⟩
 ·rename_i el a z n cap sz b;cases e;obtain⟨b',c',rfl,_⟩:=vg d;exact⟨_,by rw[cJ];rfl,by simp[Builtin.len_,h0,aG b,goInt]⟩
 ·rename_i el b;cases e;cases d;exact⟨_,rfl,by simp[Builtin.len_,h0,aG b,goInt]⟩
 ·rename_i k el b;cases e;cases d;exact⟨_,rfl,by simp[Builtin.len_,h0,aG b,goInt]⟩
 ·rename_i k el r b;split at e
  ·rename_i es c j;cases e;obtain⟨l,hl,rfl⟩:=Ft d;obtain⟨l',rs,g,m,p⟩:=h.blk _ _ j;rw[hl]at g;cases g;have:es.length=rs.size:=(gm.length p).trans (ajm (xs:=rs));exact⟨.int .i64 (rs.size:Nat),by rw[<- this];rfl,by simp[Builtin.len_,h0,aG b,goInt,mD m]⟩
  ·cases e
 ·cases e
def BB{ts:Array TypeId}{ty t0:TypeId}{x:V}{X:Value}{v:V}(h0:ts[0]? = some t0)(d:den ρ x=some X)(e:abh P t0 x=some v) :
 ∃ y,den ρ v=some y/\(Builtin.cap_ ts ty #[X]).run P w=.ok y w:=by
 unfold abh at e;split at e
 ·rename_i el g;split at e
  ·cases e;cases d;exact⟨_,rfl,by simp[Builtin.cap_,h0,aG g,goInt]⟩
  ·rename_i a z n c sz;cases e;obtain⟨b',c',rfl,b⟩:=vg d;obtain rfl:=b _ rfl;exact⟨_,by rw[cJ];rfl,by simp[Builtin.cap_,h0,aG g,goInt]⟩
  ·cases e
 ·cases e
def ka{f:V->V->Option V}{g:Value->Value->Sem Value}(b:∀ x y v X Y,f x y=some v->den ρ x=some X->den ρ y=some Y->∃ z,den ρ v=some z/\(g X Y).run P w=.ok z w) :
 ∀(l:List V) (ys:List Value) (x:V) (X:Value) (v:V),bd ρ l=some ys->den ρ x=some X->l.foldlM f x=some v->∃ y,den ρ v=some y/\(ys.foldlM g X).run P w=.ok y w
 |[],ys,x,X,v,hl,c,h=>by cases hl;simp at h;subst h;exact⟨X,c,rfl⟩
 |a::l,ys,x,X,v,hl,c,h=>by
  obtain⟨y,q,e,j,rfl⟩:=be.1 hl;simp only[List.foldlM_cons]at h;cases d:f x a with
  |none=>rw[d]at h;simp at h
  |some u =>rw[d]at h;simp at h;obtain⟨z,m,n⟩:=b _ _ _ _ _ d c e;obtain⟨p,r,A⟩:=ka b l q u z v j m h;exact⟨p,r,by simp only[List.foldlM_cons,afx,n,aeq,A]⟩
def zS(x y v:V)(X Y:Value)(h:OD x y=some v)(c:den ρ x=some X)(hy:den ρ y=some Y):∃ z,den ρ v=some z/\(Builtin.max2 X Y).run P w=.ok z w:=by
 unfold OD at h;split at h
 ·rename_i j a k b;cases hk:dC j k with
  |false=>rw[hk]at h;cases h
  |true =>rw[hk]at h;simp only[ge,abB]at h;subst h;cases c;cases hy;refine⟨_,rfl,?_⟩;simp only[Builtin.max2,aiy];by_cases hc:b>a<;>simp[hc]
 ·cases h
def zQ(x y v:V)(X Y:Value)(h:OC x y=some v)(c:den ρ x=some X)(hy:den ρ y=some Y):∃ z,den ρ v=some z/\(Builtin.min2 X Y).run P w=.ok z w:=by
 unfold OC at h;split at h
 ·rename_i j a k b;cases hk:dC j k with
  |false=>rw[hk]at h;cases h
  |true =>rw[hk]at h;simp only[ge,abB]at h;subst h;cases c;cases hy;refine⟨_,rfl,?_⟩;simp only[Builtin.min2,aiy];by_cases hc:b<a<;>simp[hc]
 ·cases h
def Gq(h:HR ρ s w){sz n k:Nat}{y:V}{Y:Value}{l:List V}(hy:den ρ y=some Y)(e:Lg s sz n y=some (l,k)) :
 ∃ ys m,bd ρ l=some ys/\(Builtin.lenOf Y).run P w=.ok m w/\k=Nat.min m n/\(Builtin.firstCells sz k Y).run P w=.ok ys.toArray w:=by
 unfold Lg at e;split at e
 ·cases e;cases hy;exact⟨[],0,rfl,rfl,by simp,rfl⟩
 ·rename_i b z m cap sz';cases a:Nat.beq sz' 0 with
  |true=>rw[a]at e;cases e
  |false =>
  rw[a]at e;simp only[TD]at e;cases hb:Nat.beq sz sz' with
  |false=>rw[hb]at e;cases e
  |true =>
   rw[hb]at e;obtain rfl:=abr hb;simp only[ge]at e;split at e
   ·rename_i l' hl;cases e;obtain⟨lo,d,g2,g3,g,g5,rfl⟩:=fO hy (.inl (MD a));obtain⟨lo',ys,c,k2,p,r,u⟩:=oL (P:=P) h hl;rw[d]at c;cases c;refine⟨ys,m,p,rfl,rfl,?_⟩;rcases ajx m with h0|h0
    ·subst h0;have:ys=[]:=by simpa using r
     subst this;have:=ajL (P:=P) (w:=w) ⟨lo.b,bC lo b z cap sz - lo.base,none⟩ [] (fun j v h=>by simp at h);simp only[Builtin.firstCells,Nat.zero_min,akk];simpa using this
    ·rw[eN g h0];exact u
   ·cases e
 ·rename_i l';cases e;cases hy;refine⟨_,l'.length,pU (l'.take (Nat.min l'.length n)),by simp[Builtin.lenOf,ee],rfl,?_⟩;have:(aK l').extract 0 (Nat.min l'.length n)=aK (l'.take (Nat.min l'.length n)):=by rw[lz];simp
  have x:∀ q:List Nat,Array.map (fun b=>Value.int IntKind.u8 (b.toNat:Int)) (aK q).data=((aK q).data.toList.map fun b=>Value.int .u8 (b.toNat:Int)).toArray:=fun q=>by simp[<- ajN]
  simp only[Builtin.firstCells,this,aiy,x]
 ·cases e
def IU(h:HR ρ s w){ts:Array TypeId}{ty t0:TypeId}{x y:V}{X Y:Value}{nx:Nx}(h0:ts[0]? = some t0)(g:den ρ x=some X)(hy:den ρ y=some Y)(e:Tm P t0 s x y=some nx) :
 GR P ρ w nx ((do pure (Next.value (<- Builtin.copy_ ts ty #[X,Y])):Sem Next).run P w):=by
 unfold Tm at e;split at e
 ·rename_i el j;split at e
  ·rename_i a z n cap sz;split at e
   ·rename_i sz' b;cases hb:(Nat.beq sz sz'&&Nat.blt 0 n)with
    |false=>rw[hb]at e;cases e
    |true =>
     rw[hb]at e;simp only[ge]at e;simp only[abA]at hb;obtain rfl:=abr hb.1;have c:=kw hb.2;obtain⟨lo,p,g2,q,r,g5,rfl⟩:=fO g (.inr c);rw[eN r c];unfold Tn at e;split at e
     ·rename_i l k hc;obtain⟨ys,m,u,v,rfl,A⟩:=Gq (P:=P) h hy hc;split at e
      ·rename_i s1 hst;cases e;obtain⟨ad,w',d,B,E,F⟩:=io P h hst u;rw[tq p q]at d;cases d;refine⟨ρ,_,w',?_,by rw[cJ];rfl,E,F⟩;simp[Builtin.copy_,h0,aG j,cA b,v,A,B,goInt]
      ·cases e
     ·cases e
   ·cases e
  ·cases e
 ·cases e
def Jf(h:HR ρ s w){b:Builtin}{ts:Array TypeId}{ty:TypeId}{consts:Array Bool}{args:List V}{ys:List Value}(d:bd ρ args=some ys){nx:Nx}(e:jy P b ts args s=some nx) :
 GR P ρ w nx ((Go.builtin b ts ty consts ys.toArray).run P w):=by
 unfold jy at e;split at e
 ·split at e
  ·rename_i t0 h0;split at e
   ·rename_i t1 g;split at e
    ·rename_i x y;obtain⟨X,Y,a,hy,rfl⟩:=Gg d;unfold ji at e;split at e
     ·rename_i v s' j;cases e;obtain⟨ρ',r,w',l,n,p,u⟩:=CK (ty:=ty) h h0 g a hy j;exact⟨ρ',r,w',by simp[Go.builtin,l],n,p,u⟩
     ·cases e
    ·cases e
   ·cases e
  ·cases e
 ·split at e
  ·rename_i t0 h0;split at e
   ·rename_i x;obtain⟨X,a,rfl⟩:=ng d;exact(bj h e fun v c=>Aa h h0 a c).toR h
   ·cases e
  ·cases e
 ·refine(bj (m:=Builtin.max_ ts ty ys.toArray) h e fun v c=>?_).toR h;cases args with
  |nil=>cases c
  |cons x r =>obtain⟨X,q,a,hr,rfl⟩:=be.1 d;exact ka zS r q x X v hr a c
 ·refine(bj (m:=Builtin.min_ ts ty ys.toArray) h e fun v c=>?_).toR h;cases args with
  |nil=>cases c
  |cons x r =>obtain⟨X,q,a,hr,rfl⟩:=be.1 d;exact ka zQ r q x X v hr a c
 ·cases e;exact⟨rfl,h⟩
 ·split at e
  ·rename_i t0 h0;split at e
   ·rename_i x y;obtain⟨X,Y,a,hy,rfl⟩:=Gg d;exact IU h h0 a hy e
   ·cases e
  ·cases e
 ·split at e
  ·rename_i t0 h0;split at e
   ·rename_i x;obtain⟨X,a,rfl⟩:=ng d;exact(bj h e fun v c=>BB h0 a c).toR h
   ·cases e
  ·cases e
 ·split at e
  ·rename_i tt v;cases e;obtain⟨X,a,rfl⟩:=ng d;refine⟨X,a,?_,h⟩;simp only[den]at a;split at a
   ·cases a;simp[Go.builtin,Instr.panic]
   ·cases a
  ·cases e
 ·cases e
def Lv.entry:Lv->Array Value->Sem Value
 |.indexByte=>Extern.BytealgIndexByte.indexByte
 |.count=>Extern.BytealgCount.count
structure jc(E:dL):Prop where
 ext:∀ f k fn,E.ext f=some k->E.P.funcs[f]? = some fn->fn.body=none->(fn.name == "runtime.NumGoroutine")=false/\Extern.findNext fn=none/\Extern.find fn=some k.entry
def NN(x c:Nat):(UInt8.ofNat x==UInt8.ofNat c)=Nat.beq (Nat.mod x 256) (Nat.mod c 256):=by
 rw[aiz];simp only[akr,Nat.beq_eq];constructor
 ·intro h;have:=aiK UInt8.toNat h;simp at this;exact this
 ·intro h;apply UInt8.toNat_inj.1;simp;exact h
def sL(c:Nat):∀(l:List Nat) (i:Nat),(match iQ (Nat.mod c 256) l i with|some j=>(Int.ofNat j)|none=>-1)=if Lib.indexByte (l.map UInt8.ofNat) (UInt8.ofNat c)=-1 then -1 else Lib.indexByte (l.map UInt8.ofNat) (UInt8.ofNat c)+i
 |[],i=>rfl
 |x::l,i=>by
  have ih:=sL c l (i+1);have hge:=Lib.indexByte_ge (l.map UInt8.ofNat) (UInt8.ofNat c);simp only[iQ,aeL,Lib.indexByte,NN];cases hb:Nat.beq (Nat.mod x 256) (Nat.mod c 256)with
  |true=>simp
  |false =>
   simp only[TD,ajo,akG];rw[ih];by_cases a:Lib.indexByte (l.map UInt8.ofNat) (UInt8.ofNat c)=-1
   ·simp[a]
   ·have b:(Lib.indexByte (l.map UInt8.ofNat) (UInt8.ofNat c)==-1)=false:=by simpa using a
    rw[aeD a,b];simp only[ajo,akG];rw[aeD (by omega)]
    push_cast
    omega
def Bx(c:Nat):∀(l:List Nat),countByte (Nat.mod c 256) l=Lib.countByte (l.map UInt8.ofNat) (UInt8.ofNat c)
 |[]=>rfl
 |x::l=>by
  have ih:=Bx c l;simp only[countByte,aeL,Lib.countByte,List.count_cons,NN]at ih ⊢;cases hb:Nat.beq (Nat.mod x 256) (Nat.mod c 256)with
  |true=>simp[ih]
  |false=>simp[ih]
def CB{k:Lv}{args:List V}{ys:List Value}(d:bd ρ args=some ys){v:V}(e:FV k args=some v) :
 ∃ y,den ρ v=some y/\(k.entry ys.toArray).run P w=.ok y w:=by
 unfold FV at e;split at e
 ·rename_i l c;obtain⟨X,Y,g,hy,rfl⟩:=Gg d;cases g;cases hy;have hl:(aK l).data.toList=l.map UInt8.ofNat:=by simp[aK]
  have hc:(Int.ofNat c).toNat.toUInt8=UInt8.ofNat c:=rfl;split at e
  ·have:=Lib.run_indexByteString (P:=P) (aK l) (Int.ofNat c) w;have a:=sL c l 0;rw[hl,hc]at this;refine⟨_,?_,this⟩;simp only[abB]at e;subst e;have hge:=Lib.indexByte_ge (l.map UInt8.ofNat) (UInt8.ofNat c);generalize Lib.indexByte (l.map UInt8.ofNat) (UInt8.ofNat c)=r at *;cases b:iQ (Nat.mod c 256) l 0 with
   |none =>
    rw[b]at a;simp only at a ⊢;by_cases hr:r=-1
    ·subst hr;rfl
    ·rw[aeD hr]at a;simp at a;omega
   |some j =>
    rw[b]at a;simp only at a ⊢;by_cases hr:r=-1
    ·rw[aeM hr]at a;simp at a
    ·rw[aeD hr]at a;simp at a;rw[<- a];rfl
  ·have:=Lib.run_countString (P:=P) (aK l) (Int.ofNat c) w;rw[hl,hc]at this;refine⟨_,?_,this⟩;simp only[abB]at e;subst e;rw[cJ,Bx];rfl
 ·cases e
def Je{E:dL}(c:jc E)(h:HR ρ s w){f:FuncId}{args:List V}{ys:List Value}(a:bd ρ args=some ys){nx:Nx}(e:NL E f args s=some nx) :
 GR E.P ρ w nx ((callFunc f ys.toArray).run E.P w):=by
 unfold NL at e;split at e
 ·cases e
 ·rename_i fn b;split at e
  ·rename_i hb;split at e
   ·rename_i k hk;obtain⟨d,g,j⟩:=c.ext f k fn hk b hb;unfold bM at e;split at e
    ·rename_i v l;cases e;obtain⟨y,m,n⟩:=CB (P:=E.P) (w:=w) a l;exact⟨ρ,y,w,by rw[run_callFunc_extern b d (by simp[hb]) g j,n];rfl,m,h,FR.refl ρ w⟩
    ·cases e
   ·cases e
  ·cases e;exact⟨ys,a,rfl,h⟩
def AA{fn:Fn}{first cap:List V}{X:Value}(h:den ρ (.func fn first cap)=some X):∃ g a b,nR ρ fn=some g/\bd ρ first=some a/\bd ρ cap=some b/\X=.func g a.toArray b.toArray:=by
 simp only[den]at h;split at h
 ·rename_i g c;split at h
  ·rename_i a d;split at h
   ·rename_i b hb;cases h;exact⟨g,a,b,c,d,hb,rfl⟩
   ·cases h
  ·cases h
 ·cases h
def BO(a:TR ρ t tm){args:Array Operand}{vs:List V}(h:ij t args.toList=some vs):∃ ys,bd ρ vs=some ys/\args.map (rv tm)=ys.toArray :=
 ⟨_,kV a h,by simp[<- ajN]⟩
def Gx{E:dL}(u:jc E)(h:HR ρ s w)(p:TR ρ t tm){c:Call}{ty:TypeId}{nx:Nx}(e:iA E t s c.argTypes (ij t c.args.toList) c.callee=some nx) :
 GR E.P ρ w nx ((do let d <- resolve (rv tm) c ty;invoke d.target d.args:Sem Next).run E.P w):=by
 unfold iA at e;split at e
 ·rename_i args v;obtain⟨ys,m,q⟩:=BO p v;split at e
  ·rename_i b hc;simp only[resolve,hc,afx,aiy,aeq,invoke,q];exact Jf h m e
  ·rename_i f hc;unfold NK at e;split at e
   ·rename_i fn first cap x
    obtain⟨g,a,b,j,r,y,z⟩:=AA (aL p x);simp only[resolve,hc,z,Deferred.ofValue,afx,aiy,aeq,q];split at e
    ·rename_i g';cases j;have:=Je u h (dG r (dG m y)) e;simpa[invoke]using this
    ·rename_i l;simp only[nR]at j;split at j
     ·rename_i lb n;cases j;cases e;exact⟨lb,a++ys,n,dG r m,by simp[invoke],h⟩
     ·cases j
    ·cases e
   ·cases e
  ·cases e
 ·cases e
def CG(h:HR ρ s w)(d:TR ρ t tm){c:Call}{ty:TypeId}{nx:Nx}(e:pS t s (ij t c.args.toList) c.callee=some nx) :
 GR P ρ w nx ((do pure (.defer (<- resolve (rv tm) c ty)):Sem Next).run P w):=by
 unfold pS at e;split at e
 ·rename_i args j;obtain⟨ys,l,m⟩:=BO d j;split at e
  ·rename_i f hc;unfold Gi at e;split at e
   ·rename_i fn first cap n
    cases e;obtain⟨g,a,b,p,q,r,u⟩:=AA (aL d n);refine⟨_,⟨g,b,a++ys,p,r,dG q l,rfl⟩,?_,h⟩;simp[resolve,hc,u,Deferred.ofValue,m]
   ·cases e
  ·cases e
 ·cases e
def CD(h:HR ρ s w)(b:TR ρ t tm){x:Operand}{nx:Nx}(e:yA s (eval t x)=some nx) :
 GR P ρ w nx ((do pure (Next.value (<- Instr.panic (rv tm x))):Sem Next).run P w):=by
 unfold yA at e;split at e
 ·rename_i tt v c;cases e;have a:=aL b c;refine⟨_,a,?_,h⟩;generalize rv tm x=X at *;simp only[den]at a;split at a
  ·cases a;simp[Instr.panic]
  ·cases a
 ·cases e
def sD(h:HR ρ s w)(a:TR ρ t tm){x:Operand}{nx:Nx}(e:bM s (eval t x)=some nx):BY P ρ w s nx ((pure (Next.value (rv tm x)):Sem Next).run P w):=by
 unfold bM at e;split at e
 ·rename_i v b;cases e;exact⟨_,_,rfl,rfl,aL a b⟩
 ·cases e
def mL{E:dL}(g:jc E)(h:HR ρ s w)(d:TR ρ t tm)(o:Oper){nx:Nx}(e:dI E t s o=some nx):GR E.P ρ w nx ((execOp (rv tm) o).run E.P w):=by
 obtain⟨dst,op,type,pos,after,guard⟩:=o;unfold dI at e;simp only at e;cases op<;>simp only[dH]at e<;>try(cases e;done)
 case move x=>exact(sD h d e).toR h
 case assign x=>exact(sD h d e).toR h
 case pick c a b=>exact(tf h d e).toR h
 case alloc elem=>exact CF h e
 case box elem x=>exact IG h d e
 case build ty parts=>exact(qH h d e).toR h
 case buildSlice ty len parts=>exact rA h d e
 case load ty x=>exact(th h d e).toR h
 case store ty x y=>exact CC h d e
 case nilCheck x=>exact(lY h d e).toR h
 case binOp op ty x y z=>exact(xl h d e).toR h
 case unOp op ty x=>exact(Bs h d e).toR h
 case convert src dst x=>exact Gc h d e
 case makeInterface ty x=>exact(nP h d e).toR h
 case makeFunc fn first cap=>exact(pn h d e).toR h
 case makeMap ty r =>
  cases r with
  |none=>cases e;exact xN h
  |some _=>cases e
 case makeSlice ty l c=>exact xM h d e
 case slice ty x lo hi mx=>exact(qE h d e).toR h
 case fieldAddr ty x f=>exact(kY h d e).toR h
 case field ty x f=>exact(qG h d e).toR h
 case indexAddr ty x i=>exact(kX h d e).toR h
 case index ty x i=>exact(qF h d e).toR h
 case lookup ty x k ok=>exact(po h d e).toR h
 case mapUpdate ty m k x=>exact kW h d e
 case insert ty m k x=>exact kW h d e
 case typeAssert x xt ty ok=>exact(pp h d e).toR h
 case extract x i=>exact(nQ h d e).toR h
 case call c=>exact Gx g h d e
 case defer c=>exact CG h d e
 case panic x=>exact CD h d e
end ops
def nI(ρ:aN):List GN->List PanicEntry->Prop
 |[],[]=>True
 |p::ps,e::es=>(den ρ p.v=some e.v/\p.recovered=e.recovered/\e.goexit=false)/\nI ρ ps es
 |_,_=>False
def nI.mono{ρ ρ':aN}(h:ρ.le ρ'):∀ {c:List GN} {ch:List PanicEntry},nI ρ c ch->nI ρ' c ch
 |[],[],_=>trivial
 |_::_,_::_,⟨⟨a,b⟩,k⟩=>⟨⟨bN h _ _ a,b⟩,nI.mono h k⟩
 |[],_::_,k=>k.elim
 |_::_,[],k=>k.elim
def nI.append{ρ:aN}:∀ {c d:List GN} {ch dh:List PanicEntry},nI ρ c ch->nI ρ d dh->nI ρ (c++d) (ch++dh)
 |[],_,[],_,_,k=>k
 |_::_,_,_::_,_,⟨a,h⟩,k=>⟨a,nI.append h k⟩
 |[],_,_::_,_,h,_=>h.elim
 |_::_,_,[],_,h,_=>h.elim
def Uf(ρ:aN):Md->FrameMode->Prop
 |.run,.run=>True
 |.returning,.returning=>True
 |.panicking c,.panicking ch=>nI ρ c ch
 |_,_=>False
def Uf.mono{ρ ρ':aN}(h:ρ.le ρ'){m:Md}{a:FrameMode}(k:Uf ρ m a):Uf ρ' m a:=by cases m<;>cases a<;>first|exact k|exact nI.mono h k
def PN.mono{ρ ρ':aN}(h:ρ.le ρ'){d:eS}{r:Deferred}(k:PN ρ d r):PN ρ' d r:=by
 cases d with
 |call fn cap args =>obtain⟨g,c,a,b,e,j,m⟩:=k;exact⟨g,c,a,Bv h b,fW h _ _ e,fW h _ _ j,m⟩
 |collected r =>obtain⟨l,b,e⟩:=k;exact⟨l,h _ _ _ b,e⟩
def EC(ρ:aN):List eS->List Deferred->Prop
 |[],[]=>True
 |d::ds,r::rs=>PN ρ d r/\EC ρ ds rs
 |_,_=>False
def EC.mono{ρ ρ':aN}(h:ρ.le ρ'):∀ {c:List eS} {ch:List Deferred},EC ρ c ch->EC ρ' c ch
 |[],[],_=>trivial
 |_::_,_::_,⟨a,k⟩=>⟨a.mono h,EC.mono h k⟩
 |[],_::_,k=>k.elim
 |_::_,[],k=>k.elim
def Ug(ρ:aN):End->Ending->Prop
 |.returned v,.returned y=>den ρ v=some y
 |.panicked c,.panicked ch=>nI ρ c ch
 |_,_=>False
def cG(c:Frame):Ending->Frame
 |.returned v=>c.finish v
 |.panicked ch=>c.raise ch
 |.outgrown=>c
def RdR(ρ:aN)(up:Option Md)(rd ro:Option Nat):Prop:=match rd with
 |none=>ro=none
 |some l=>up=none/\∃ lb:Ch,ρ l 0=some lb/\ro=some lb.b
def UpR(ρ:aN)(up:Option Md)(kind:CallKind)(cs:List Frame):Prop:=match up with
 |none=>kind=.normal
 |some u=>kind=.deferred/\∃ c cs',cs=c::cs'/\Uf ρ u c.mode
structure kG(P:Program)(ρ:aN)(f:FuncId)(fn:Func)(t:T V)(todo:List Item)(ds:List eS)(m:Md)(up:Option Md)(rd:Option Nat)(fr:Frame)(cs:List Frame):Prop where
 name:fr.fn=f
 func:P.funcs[f]? = some fn
 tr:TR ρ t fr.tmps
 size:fn.ntmps<=fr.tmps.size
 todo:m=.run->fr.todo=todo
 ds:EC ρ ds fr.defers
 md:Uf ρ m fr.mode
 rd:RdR ρ up rd fr.roundOf
 up:UpR ρ up fr.kind cs
def qK(P:Program)(f:FuncId)(up rd:Bool)(cs:List Frame)(M:Machine)(ρ:aN)(w:World)(out:fo):Prop :=
 ∃ ρ' w',HR ρ' out.s w'/\FR ρ w ρ' w' /\
  match rd,up with
  |true,_=>∀ c cs',cs=c::cs'->∃ e,Ug ρ' out.e e/\Steps P M (lone (cG c e) cs' w')
  |false,false=>∃ fr' e,Ug ρ' out.e e/\Steps P M (lone fr' cs w')/\fr'.fn=f/\fr'.leaving P w' e
  |false,true=>∀ c cs',cs=c::cs'->∃ fr' e u a,out.up=some u/\Uf ρ' u a/\Ug ρ' out.e e /\
   Steps P M (lone fr' ({ c with mode:=a }::cs') w')/\fr'.kind=.deferred/\fr'.going P w' e
def qK.of_steps{P:Program}{f:FuncId}{up rd:Bool}{cs:List Frame}{M M0:Machine}{ρ ρ1:aN}{w l:World}{out:fo}(d:Steps P M0 M)(m:FR ρ w ρ1 l)(h:qK P f up rd cs M ρ1 l out) :
 qK P f up rd cs M0 ρ w out:=by
 obtain⟨ρ',w',n,p,g⟩:=h;refine⟨ρ',w',n,m.trans p,?_⟩;cases rd with
 |true=>intro c cs' hc;obtain⟨e,a,b⟩:=g c cs' hc;exact⟨e,a,d.trans b⟩
 |false=>cases up with
  |false=>obtain⟨fr',e,a,b,j⟩:=g;exact⟨fr',e,a,d.trans b,j⟩
  |true=>intro c cs' hc;obtain⟨fr',e,u,q,a,b,j,r,v⟩:=g c cs' hc;exact⟨fr',e,u,q,a,b,j,d.trans r,v⟩
def qK.of_mode{P:Program}{f:FuncId}{c:Frame}{cs:List Frame}{M:Machine}{ρ:aN}{w:World}{out:fo}{a:FrameMode}(h:qK P f true false ({ c with mode:=a }::cs) M ρ w out) :
 qK P f true false (c::cs) M ρ w out:=by
 obtain⟨ρ',w',b,d,e⟩:=h;refine⟨ρ',w',b,d,fun c1 cs1 hc=>?_⟩;cases hc;exact e { c with mode:=a } cs rfl
def GJ(P:Program)(f:FuncId)(fn:Func)(t:T V)(todo:List Item)(ds:List eS)(m:Md)(up:Option Md)(rd:Option Nat)(s:S)(out:fo):Prop :=
 ∀ ρ w fr cs,HR ρ s w->kG P ρ f fn t todo ds m up rd fr cs->qK P f up.isSome rd.isSome cs (lone fr cs w) ρ w out
def ZQ:Option Md->CallKind
 |none=>.normal
 |some _=>.deferred
def gv(P:Program)(f:FuncId)(args:List V)(up:Option Md)(s:S)(out:fo):Prop :=
 ∀ ρ w ys,HR ρ s w->bd ρ args=some ys->(∀ w,(callFunc f ys.toArray).run P w=.ok (.enter f ys.toArray) w) /\
  ∀ cs,(∀ u,up=some u->∃ c cs',cs=c::cs'/\Uf ρ u c.mode)->qK P f up.isSome false cs (lone (Frame.enter P f ys.toArray (ZQ up)) cs w) ρ w out
def Ub(P:Program)(l:Nat)(args:List V)(s:S)(out:fo):Prop :=
 ∀ ρ w lb ys,HR ρ s w->ρ l 0=some lb->bd ρ args=some ys ->
  ∃ f tmps assign body,(Instr.yield lb.b ys.toArray).run P w=.ok (.round lb.b f tmps assign body) w /\
   ∀ cs,qK P f false true cs (lone (Frame.round lb.b f tmps assign body .normal) cs w) ρ w out
def aey(P:Program):tR->S->fo->Prop
 |.frame f fn t todo ds m up rd,s,out=>GJ P f fn t todo ds m up rd s out
 |.call f args up,s,out=>gv P f args up s out
 |.round l args,s,out=>Ub P l args s out
def Good(P:Program)(ih:tR->S->Option fo):Prop:=∀ j s out,ih j s=some out->aey P j s out
section steps
variable{P:Program}{fr:Frame}{k:List Item}{cs:List Frame}{w:World}
def Uz(hm:fr.mode=.run)(a:fr.todo=.code .skip::k):step P (lone fr cs w)=.next (lone { fr with todo:=k } cs w):=aiI (by simp[stepG,stepG.exec,hm,a])
def Qt{l:Nat}(hm:fr.mode=.run)(a:fr.todo=.code (.label l)::k):step P (lone fr cs w)=.next (lone { fr with todo:=k } cs w):=aiI (by simp[stepG,stepG.exec,hm,a])
def JJ{l:Nat}(hm:fr.mode=.run)(a:fr.todo=.inBlock l::k):step P (lone fr cs w)=.next (lone { fr with todo:=k } cs w):=aiI (by simp[stepG,stepG.exec,hm,a])
def JI{c:Code}(hm:fr.mode=.run)(a:fr.todo=.inScope c::k):step P (lone fr cs w)=.next (lone { fr with todo:=k } cs w):=aiI (by simp[stepG,stepG.exec,hm,a])
def YS{a b:Code}(hm:fr.mode=.run)(c:fr.todo=.code (.seq a b)::k):step P (lone fr cs w)=.next (lone { fr with todo:=.code a::.code b::k } cs w):=aiI (by simp[stepG,stepG.exec,hm,c])
def UC{c:Operand}{a b:Code}{q:Bool}(hm:fr.mode=.run)(d:fr.todo=.code (.cond c a b)::k)(hc:rv fr.tmps c=.bool q):step P (lone fr cs w)=.next (lone { fr with todo:=.code (if q then a else b)::k } cs w) :=
 aiI (by
  have e:fr.eval c=.bool q:=by rw[rq];exact hc
  simp[stepG,stepG.exec,hm,d,e])
def Qv{id:Nat}{c:Code}(hm:fr.mode=.run)(a:fr.todo=.code (.block id c)::k):step P (lone fr cs w)=.next (lone { fr with todo:=.code c::.inBlock id::k } cs w):=aiI (by simp[stepG,stepG.exec,hm,a])
def ye{c:Code}(hm:fr.mode=.run)(a:fr.todo=.code (.loop c)::k):step P (lone fr cs w)=.next (lone { fr with todo:=.code c::.inLoop c::k } cs w):=aiI (by simp[stepG,stepG.exec,hm,a])
def Oi{c:Code}(hm:fr.mode=.run)(a:fr.todo=.inLoop c::k):step P (lone fr cs w)=.next (lone { fr with todo:=.code c::.inLoop c::k } cs w):=aiI (by simp[stepG,stepG.exec,hm,a])
def Qq{c:Code}(hm:fr.mode=.run)(a:fr.todo=.code (.scope c)::k):step P (lone fr cs w)=.next (lone { fr with todo:=.code c::.inScope c::k } cs w):=aiI (by simp[stepG,stepG.exec,hm,a])
def UB{id:Nat}{a:List Item}(hm:fr.mode=.run)(b:fr.todo=.code (.exit id)::k)(h:exitTo id k=some a):step P (lone fr cs w)=.next (lone { fr with todo:=a } cs w):=aiI (by simp[stepG,stepG.exec,hm,b,h])
def UA{l:Nat}{a:List Item}(hm:fr.mode=.run)(b:fr.todo=.code (.goto l)::k)(h:gotoIn l k=some a):step P (lone fr cs w)=.next (lone { fr with todo:=a } cs w):=aiI (by simp[stepG,stepG.exec,hm,b,h])
def YT(hm:fr.mode=.run)(a:fr.todo=.code .ret::k)(hr:fr.roundOf=none):step P (lone fr cs w)=.next (lone { fr with mode:=.returning } cs w):=aiI (by simp[stepG,stepG.exec,hm,a,hr])
def YU(hm:fr.mode=.run)(a:fr.todo=[])(hr:fr.roundOf=none):step P (lone fr cs w)=.next (lone { fr with mode:=.returning } cs w):=aiI (by simp[stepG,stepG.exec,hm,a,hr])
def Oh{id:Nat}{ops:Array Oper}(hm:fr.mode=.run)(a:fr.todo=.code (.region id ops false)::k):step P (lone fr cs w)=.next (lone { fr with todo:=.inRegion ops (List.range ops.size)::k } cs w):=aiI (by simp[stepG,stepG.exec,hm,a])
def rR{ops:Array Oper}(hm:fr.mode=.run)(a:fr.todo=.inRegion ops []::k):step P (lone fr cs w)=.next (lone { fr with todo:=k } cs w):=aiI (by simp[stepG,stepG.exec,hm,a])
def iJ{ops:Array Oper}{i:Nat}{rest:List Nat}(hm:fr.mode=.run)(a:fr.todo=.inRegion ops (i::rest)::k)(h:((ops[i]?).map (Region.wanted · (yielded ops fr.tmps))).getD false=false) :
 step P (lone fr cs w)=.next (lone (fr.finish undef) cs w):=aiI (by simp[stepG,stepG.exec,hm,a,h])
def ip{ops:Array Oper}{i:Nat}{rest:List Nat}{o:Oper}(hm:fr.mode=.run)(b:fr.todo=.inRegion ops (i::rest)::k)(ho:ops[i]? = some o)(d:Region.wanted o (yielded ops fr.tmps)=true)
 (a:fr.roundOf=none\/∀ c,o.op≠.defer c) :
 stepG P true { frame:=fr,callers:=cs,status:=.running,dying:=none } w=stepG.apply P true fr cs none (execOp (rv fr.tmps) o) w:=by
 have e:fr.eval=rv fr.tmps:=rq fr;rcases a with a|a
 ·simp[stepG,stepG.exec,stepG.oper,Frame.oper?,hm,b,ho,d,e,a]
 ·cases hr:fr.roundOf with
  |none=>simp[stepG,stepG.exec,stepG.oper,Frame.oper?,hm,b,ho,d,e,hr]
  |some l =>
   simp only[stepG,stepG.exec,stepG.oper,Frame.oper?,hm,b,ho,d,e,hr,ajl,ajG,akC];split
   ·rename_i hc;exact absurd hc (a _)
   ·rfl
end steps
def AC{P:Program}{ρ:aN}{f:FuncId}{fn:Func}{t:T V}{todo:List Item}{ds:List eS}{up:Option Md}{rd:Option Nat}{fr:Frame}{cs:List Frame}
 (h:kG P ρ f fn t todo ds .run up rd fr cs):fr.mode=.run:=by
 have:=h.md;cases hm:fr.mode<;>rw[hm]at this<;>first|rfl|exact this.elim
def kG.to{P:Program}{ρ:aN}{f:FuncId}{fn:Func}{t:T V}{todo:List Item}{ds:List eS}{up:Option Md}{rd:Option Nat}{fr:Frame}{cs:List Frame}
 (h:kG P ρ f fn t todo ds .run up rd fr cs) (todo':List Item):kG P ρ f fn t todo' ds .run up rd { fr with todo:=todo' } cs :=
 ⟨h.name,h.func,h.tr,h.size,fun _=>rfl,h.ds,h.md,h.rd,h.up⟩
def kG.mono{P:Program}{ρ ρ':aN}(hl:ρ.le ρ'){f:FuncId}{fn:Func}{t:T V}{todo:List Item}{ds:List eS}{m:Md}{up:Option Md}{rd:Option Nat}{fr:Frame}{cs:List Frame}
 (h:kG P ρ f fn t todo ds m up rd fr cs):kG P ρ' f fn t todo ds m up rd fr cs:=by
 refine⟨h.name,h.func,h.tr.mono hl,h.size,h.todo,h.ds.mono hl,h.md.mono hl,?_,?_⟩
 ·have:=h.rd;cases rd with
  |none=>exact this
  |some l=>obtain⟨a,lb,b,d⟩:=this;exact⟨a,lb,hl _ _ _ b,d⟩
 ·have:=h.up;cases up with
  |none=>exact this
  |some u=>obtain⟨a,c,cs',b,d⟩:=this;exact⟨a,c,cs',b,d.mono hl⟩
def eb{P:Program}{ρ:aN}{w:World}{f:FuncId}{fn:Func}{t':T V}{todo':List Item}{ds':List eS}{b:Md}{up:Option Md}{rd:Option Nat}{fr fr':Frame}{cs:List Frame}{s:S}{out:fo}
 (h:HR ρ s w) (c:step P (lone fr cs w)=.next (lone fr' cs w)) (d:kG P ρ f fn t' todo' ds' b up rd fr' cs) (a:GJ P f fn t' todo' ds' b up rd s out):qK P f up.isSome rd.isSome cs (lone fr cs w) ρ w out :=
 qK.of_steps (.one c) (FR.refl ρ w) (a _ _ _ _ h d)
def tL(up:Option Md)(cs cs':List Frame):Prop:=match up with
 |none=>cs'=cs
 |some _=>∃ c a u,cs=c::a/\cs'={ c with mode:=u }::a
def tL.refl{P:Program}{ρ:aN}{f:FuncId}{fn:Func}{t:T V}{todo:List Item}{ds:List eS}{m:Md}{up:Option Md}{rd:Option Nat}{fr:Frame}{cs:List Frame}
 (h:kG P ρ f fn t todo ds m up rd fr cs):tL up cs cs:=by
 have:=h.up;cases up with
 |none=>rfl
 |some u=>obtain⟨_,c,cs',a,_⟩:=this;exact⟨c,cs',c.mode,a,a⟩
def tL.trans{up up':Option Md}(d:up'.isSome=up.isSome){a b c:List Frame}(h:tL up a b)(k:tL up' b c):tL up a c:=by
 cases up with
 |none=>cases up' with
  |none=>exact ake k h
  |some _=>cases d
 |some _=>cases up' with
  |none=>cases d
  |some _ =>obtain⟨c1,e,u1,rfl,rfl⟩:=h;obtain⟨c2,t2,g,j,rfl⟩:=k;cases j;exact⟨c1,e,g,rfl,rfl⟩
def qK.of_tops{P:Program}{f:FuncId}{up:Option Md}{rd:Option Nat}{cs cs':List Frame}{M:Machine}{ρ:aN}{w:World}{out:fo}(hr:up.isSome=true->rd=none)
 (a:tL up cs cs') (h:qK P f up.isSome rd.isSome cs' M ρ w out):qK P f up.isSome rd.isSome cs M ρ w out:=by
 cases up with
 |none=>cases a;exact h
 |some u =>cases hr rfl;obtain⟨c,tl,u1,rfl,rfl⟩:=a;exact qK.of_mode h
def kG.lone_up{P:Program}{ρ:aN}{f:FuncId}{fn:Func}{t:T V}{todo:List Item}{ds:List eS}{m:Md}{up:Option Md}{rd:Option Nat}{fr:Frame}{cs:List Frame}
 (h:kG P ρ f fn t todo ds m up rd fr cs):up.isSome=true->rd=none:=by
 intro a;have:=h.rd;cases rd with
 |none=>rfl
 |some l=>rw[this.1]at a;cases a
def putD(t:T V)(d:Option Tmp)(v:V):T V:=nU t d (some v) id
def cI{β:Type}(t:T V)(d:Option Tmp)(v:V)(k:T V->β):nU t d (some v) k=k (putD t d v):=UY t d (some v) k
def gt(tm:Array Value)(d:Option Tmp)(y:Value):Array Value:=match d with
 |some i=>tm.setIfInBounds i y
 |none=>tm
def TR.putD{ρ:aN}{t:T V}{tm:Array Value}(h:TR ρ t tm){d:Option Tmp}{v:V}{y:Value}(a:den ρ v=some y)(b:∀ i,d=some i->i<tm.size):TR ρ (AI.putD t d v) (gt tm d y):=by
 cases d with
 |none=>exact h
 |some i =>have:=TR.put h a (b i rfl);exact this
def DX{fr:Frame}{ops:Array Oper}{i:Nat}{rest:List Nat}{k:List Item}{o:Oper}(a:fr.todo=.inRegion ops (i::rest)::k)(ho:ops[i]? = some o)(y:Value) :
 fr.finish y={ fr with tmps:=gt fr.tmps o.dst y,todo:=.inRegion ops rest::k }:=by
 simp only[Frame.finish,a,ho,ako,gt];cases o.dst<;>rfl
section
variable{P:Program}{ρ:aN}{f:FuncId}{fn:Func}{t:T V}{ds:List eS}{up:Option Md}{rd:Option Nat}{fr:Frame}{cs:List Frame}{ops:Array Oper}{i:Nat}{rest:List Nat}{k:List Item}{o:Oper}
def kG.finish(h:kG P ρ f fn t (.inRegion ops (i::rest)::k) ds .run up rd fr cs)(ho:ops[i]? = some o)(a:∀ d,o.dst=some d->d<fn.ntmps){v:V}{y:Value}(b:den ρ v=some y) :
 kG P ρ f fn (putD t o.dst v) (.inRegion ops rest::k) ds .run up rd (fr.finish y) cs:=by
 rw[DX (h.todo rfl) ho];refine⟨h.name,h.func,h.tr.putD b fun i hi=>aiN (a i hi) h.size,?_,fun _=>rfl,h.ds,h.md,h.rd,h.up⟩;show fn.ntmps<=(gt fr.tmps o.dst y).size;have:=h.size;unfold gt;split<;>simpa using this
def fg(h:TR ρ t fr.tmps){b:Bool}(e:bT ops t o=some b):Region.wanted o (yielded ops fr.tmps)=b:=by
 unfold bT at e;unfold Region.wanted;split at e
 ·rename_i c;rw[c];cases e;rfl
 ·rename_i j want c;rw[c];split at e
  ·rename_i d m;split at e
   ·rename_i q g;obtain⟨y,a,l⟩:=h d _ g;cases a;cases e;simp[yielded,m,l]
   ·rename_i q g;obtain⟨y,a,l⟩:=h d _ g;cases e;simp only[den]at a;split at a
    ·cases a;simp[yielded,m,l]
    ·cases a
   ·cases e
  ·cases e
end
def ROk(P:Program)(ρ:aN)(w:World)(f:FuncId)(fn:Func)(k:List Item)(up:Option Md)(rd:Option Nat)(cs:List Frame)(M:Machine)(r:mg):Prop :=
 ∃ ρ' w' fr' cs',Steps P M (lone fr' cs' w')/\FR ρ w ρ' w'/\tL up cs cs'/\match r with
  |.on t' ds' up' s'=>HR ρ' s' w'/\kG P ρ' f fn t' k ds' .run up' rd fr' cs'/\up'.isSome=up.isSome
  |.panicked c t' ds' up' s'=>HR ρ' s' w'/\kG P ρ' f fn t' k ds' (.panicking c) up' rd fr' cs'/\up'.isSome=up.isSome
def ROk.of_steps{P:Program}{ρ ρ1:aN}{w b:World}{f:FuncId}{fn:Func}{k:List Item}{up up1:Option Md}{rd:Option Nat}{cs cs1:List Frame}{M M0:Machine}{r:mg}
 (d:Steps P M0 M) (e:FR ρ w ρ1 b) (g:tL up cs cs1) (c:up1.isSome=up.isSome) (h:ROk P ρ1 b f fn k up1 rd cs1 M r):ROk P ρ w f fn k up rd cs M0 r:=by
 obtain⟨ρ',w',fr',cs',j,l,m,a⟩:=h;refine⟨ρ',w',fr',cs',d.trans j,e.trans l,g.trans c m,?_⟩;cases r<;>(simp only at a ⊢;exact⟨a.1,a.2.1,a.2.2.trans c⟩)
def rz{ops:Array Oper}{n:Nat}(h:lX ops n=true){i:Nat}{o:Oper}(ho:ops[i]? = some o):∀ d,o.dst=some d->d<n:=by
 intro d a
 have:=aiX.1 h o (by have:=Array.mem_of_getElem? ho;simpa using this)
 rw[a]at this;exact kw this
def bE{fr:Frame}(hm:fr.mode=.run)(ch:List PanicEntry):fr.raise ch={ fr with mode:=.panicking ch }:=by simp[Frame.raise,hm]
def lI{E:dL}{ih:tR->S->Option fo}(j:Good E.P ih){ρ:aN}{w:World}{s:S}(h:HR ρ s w){f:FuncId}{args:List V}{ys:List Value}(l:bd ρ args=some ys){out:fo}
 (e:bR ih f args none s=some out):(∀ w,(callFunc f ys.toArray).run E.P w=.ok (.enter f ys.toArray) w)/\∀ c cs,∃ ρ' w' e,HR ρ' out.s w'/\FR ρ w ρ' w'/\Ug ρ' out.e e /\
  Steps E.P (lone (Frame.enter E.P f ys.toArray .normal) (c::cs) w) (lone (cG c e) cs w'):=by
 have m:=j (.call f args none) s out e;obtain⟨n,p⟩:=m ρ w ys h l;refine⟨n,fun c cs=>?_⟩;obtain⟨ρ',w',q,r,fr',d,b,x,k5,g⟩:=p (c::cs) (fun u y=>by cases y);refine⟨ρ',w',d,q,r,b,x.trans (.one ?_)⟩;cases d with
 |returned v=>exact step_leave_returned g
 |panicked ch=>exact step_leave_panicked g
 |outgrown=>cases a:out.e<;>rw[a]at b<;>exact b.elim
end Go.AI
