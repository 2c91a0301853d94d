/- Evaluators by which runs of the program are reckoned, that they are sound, and what the functions answer: part 3. No conditions beyond those of the row. -/
import Derived.Test.YtenibcfppefobaaGreatDoorS1
import Derived.Test.YtenibcfppefobaaGreatDoorS2
import Derived.Test.YtenibcfppefobaaGreatDoorS3
import Derived.Test.YtenibcfppefobaaGreatDoorS4
import Derived.IntWalk
set_option linter.all false
noncomputable section
namespace Go.Proofs.YtenibcfppefobaaGreatDoor
open Go.AI
def LP:List jn:=[sx,sw,sv,su,ss,sr,sq,so,sk]
def OX:cV:={ P:=Tryz.prog,ext:=mc.ext,orc:=fun f args s=>match gA 57 kinds f args s with|some x=>some x|none=>uw LP f args s }
theorem UN:rB OX:=by
 refine⟨fun f args s v s' h=>?_⟩
 simp only[OX]at h
 split at h
 ·rename_i x hx
  cases h
  exact ye.call f args s v s' hx
 ·obtain⟨k,hm,rfl,rfl,hs,rfl,rfl⟩:=qG h
  simp only[LP,List.mem_cons,List.mem_nil_iff,or_false]at hm
  rcases hm with rfl|rfl|rfl|rfl|rfl|rfl|rfl|rfl|rfl
  ·exact cM (E:=lJ) (cP rfl rfl) ye (bB rfl rfl) UH hs
  ·exact cM (E:=lJ) (cP rfl rfl) ye (bB rfl rfl) UG hs
  ·exact cM (E:=lJ) (cP rfl rfl) ye (bB rfl rfl) UF hs
  ·exact cM (E:=lJ) (cP rfl rfl) ye (bB rfl rfl) UE hs
  ·exact cM (E:=lJ) (cP rfl rfl) ye (bB rfl rfl) UD hs
  ·exact cM (E:=lJ) (cP rfl rfl) ye (bB rfl rfl) UC hs
  ·exact cM (E:=lJ) (cP rfl rfl) ye (bB rfl rfl) UB hs
  ·exact cM (E:=lJ) (cP rfl rfl) ye (bB rfl rfl) Uz hs
  ·exact cM (E:=lJ) (cP rfl rfl) ye (bB rfl rfl) Uy hs
theorem KH:fE OX 4000 6 [] (.bool true)=true:=by kernel_rfl
theorem EO(s:S):fv Tryz.prog 6 [] none s ⟨.returned (.bool true),none,s⟩:=bF (E:=OX) (cP rfl rfl) UN (bB rfl rfl) KH rfl rfl s
end Go.Proofs.YtenibcfppefobaaGreatDoor
set_option linter.all false
noncomputable section
namespace Go.AI
def DQ(m:Nat):List Nat->Nat
 |[]=>0
 |e::r=>bif m.testBit e then 1 else DQ m r+1
def mI(ms:List Nat)(effs m:Nat)(H:List Nat):List (Nat×Oper)->Nat->Option (List (Option Nat×Nat)×Nat)
 |[],done=>some ([],done)
 |(i,_)::r,done =>
  bif !(m.testBit i)||done.testBit i then mI ms effs m H r done
  else bif effs.testBit i then none
  else match mI ms effs m H r (Nat.lor done (Nat.pow 2 i))with
   |some (l,d)=>some ((some (DQ (ms.getD i 0) H),i)::l,d)
   |none=>none
def pz(ms:List Nat)(effs n:Nat)(all:List (Nat×Oper)):List (Nat×Oper)->List Nat->Nat->Option (List (Option Nat×Nat))
 |[],H,done=>match mI ms effs (Nat.pow 2 n - 1) H all done with
  |some (l,_)=>some l
  |none=>none
 |(i,_)::r,H,done=>match mI ms effs (ms.getD i 0) H all done with
  |some (l,d)=>bif !(d.testBit i)&&effs.testBit i then(match pz ms effs n all r (i::H) (Nat.lor d (Nat.pow 2 i))with
   |some l2=>some (l++(none,i)::l2)
   |none=>none)else none
  |none=>none
def KE(P:Program)(ops:Array Oper):Option (List (Option Nat×Nat)):=match La P ops with
 |some ⟨ms,l,es,mask⟩=>pz ms mask ops.size l es [ops.size] 0
 |none=>none
def kB(E:cV)(hist:List S)(t:T V)(s:S)(o:Oper):Nat->Option (V×S)
 |0=>pN s (cQ E t s o)
 |1=>qj s (ff E t o hist)
 |2=>ud (cQ E t s o)
 |_=>none
def jc(E:cV)(hist:List S)(t:T V)(s:S)(o:Oper):Option Bool->Option (V×S)
 |some true=>kB E hist t s o (aD E.P o.op)
 |some false=>some (V.undef,s)
 |none=>none
def DF(t:T V):Option Tmp->T V
 |some d=>t.setK none (eB d) id
 |none=>t
def gz(E:cV)(ops:Array Oper)(rec:gH)(ds:List eh)(up:Option Md):List (Option Nat×Nat)->List S->T V->S->Option jq
 |[],_,t,s=>some (.on t ds up s)
 |(c,i)::r,hist,t,s=>match ops[i]? with
  |none=>none
  |some o=>match c with
   |some c=>match jc E (hist.take c) t s o (bz ops t o)with
    |some (v,s)=>gz E ops rec ds up r hist (putD t o.dst v) s
    |none=>none
   |none=>match gh E rec t s o (bz ops t o)with
    |some (.val v s')=>bif Nat.ble s.next s'.next then gz E ops rec ds up r (s'::hist) (putD t o.dst v) s' else none
    |some (.pan c s')=>(match r with|[]=>some (.panicked c (DF t o.dst) ds up s')|_::_=>none)
    |none=>none
theorem tw(m:Nat):∀(h:List (Nat×S)),mR m h=(h.map (·.2)).take (DQ m (h.map (·.1)))
 |[]=>rfl
 |(e,s)::r=>by
  simp only[mR,List.map_cons,DQ]
  cases m.testBit e with
  |true=>simp
  |false=>simp[tw m r]
theorem Dj{E:cV}{h:List (Nat×S)}{m:Nat}{t:T V}{s:S}{o:Oper}(b:Option Bool):iM E h m t s o b=jc E ((h.map (·.2)).take (DQ m (h.map (·.1)))) t s o b:=by
 cases b with
 |none=>rfl
 |some b=>cases b with
  |false=>rfl
  |true =>
   simp only[iM,jc]
   unfold Bk kB
   rw[tw]
   generalize aD E.P o.op=q
   match q with
   |0=>rfl
   |1=>rfl
   |2=>rfl
   |_+3=>rfl
theorem qn{E:cV}{ops:Array Oper}{rec:gH}{ds:List eh}{up:Option Md}{ms:List Nat}{effs m:Nat}{hist:List (Nat×S)} :
 ∀(l:List (Nat×Oper)) (done:Nat) (t:T V) (s:S),(∀ x∈l,ops[x.1]? = some x.2)->∀ sc d,mI ms effs m (hist.map (·.1)) l done=some (sc,d)->∀(rest:List (Option Nat×Nat)),
  gz E ops rec ds up (sc++rest) (hist.map (·.2)) t s=match bT E ops ms effs hist m l done t s with
   |some (_,t,s)=>gz E ops rec ds up rest (hist.map (·.2)) t s
   |none=>none
 |[],done,t,s,_,sc,d,h,rest=>by cases h;rfl
 |(i,o)::l,done,t,s,hops,sc,d,h,rest=>by
  simp only[mI]at h
  simp only[bT]
  cases hb:(!(m.testBit i)||done.testBit i)with
  |true =>
   rw[hb]at h
   simp only[cond_true]at h ⊢
   exact qn l done t s (fun x hx=>hops x (List.mem_cons_of_mem _ hx)) sc d h rest
  |false =>
   rw[hb]at h
   simp only[cond_false]at h ⊢
   cases he:effs.testBit i with
   |true=>rw[he]at h;cases h
   |false =>
    rw[he]at h
    simp only[cond_false]at h ⊢
    split at h
    ·rename_i l1 d1 hp
     cases h
     simp only[List.cons_append,gz]
     have ho:ops[i]? = some o:=hops (i,o) (by simp)
     rw[ho]
     simp only
     rw[<- Dj]
     cases iM E hist (ms.getD i 0) t s o (bz ops t o)with
     |none=>rfl
     |some x =>
      obtain⟨v,s1⟩:=x
      simp only[bZ]
      exact qn l _ _ s1 (fun x hx=>hops x (List.mem_cons_of_mem _ hx)) l1 _ hp rest
    ·cases h
theorem oX{E:cV}{ops:Array Oper}{ms:List Nat}{effs m:Nat}{hist:List (Nat×S)}:∀(l:List (Nat×Oper)) (done:Nat) (t:T V) (s:S) sc d,mI ms effs m (hist.map (·.1)) l done=some (sc,d) ->
 ∀ d' t' s',bT E ops ms effs hist m l done t s=some (d',t',s')->d'=d
 |[],done,t,s,sc,d,h,d',t',s',e=>by cases h;cases e;rfl
 |(i,o)::l,done,t,s,sc,d,h,d',t',s',e=>by
  simp only[mI]at h
  simp only[bT]at e
  cases hb:(!(m.testBit i)||done.testBit i)with
  |true =>
   rw[hb]at h e
   exact oX l done t s sc d h d' t' s' e
  |false =>
   rw[hb]at h e
   simp only[cond_false]at h e
   cases he:effs.testBit i with
   |true=>rw[he]at h;cases h
   |false =>
    rw[he]at h e
    simp only[cond_false]at h e
    split at h
    ·rename_i l1 d1 hp
     cases h
     split at e
     ·rename_i v s1 hf
      rw[bZ]at e
      exact oX l _ _ s1 l1 d hp d' t' s' e
     ·cases e
    ·cases h
theorem yV{ms:List Nat}{effs m:Nat}{H:List Nat}:∀(l:List (Nat×Oper)) (done d:Nat),mI ms effs m H l done=some ([],d)->∀ x∈l,(!(m.testBit x.1)||done.testBit x.1)=true
 |[],_,_,_,x,hx=>by cases hx
 |(i,o)::l,done,d,h,x,hx=>by
  simp only[mI]at h
  cases hb:(!(m.testBit i)||done.testBit i)with
  |true =>
   rw[hb]at h
   rcases List.mem_cons.1 hx with rfl|hx
   ·exact hb
   ·exact yV l done d h x hx
  |false =>
   rw[hb]at h
   simp only[cond_false]at h
   cases he:effs.testBit i with
   |true=>rw[he]at h;cases h
   |false =>
    rw[he]at h
    simp only[cond_false]at h
    split at h<;>cases h
theorem oz{E:cV}{ops:Array Oper}{ms:List Nat}{effs m:Nat}{hist:List (Nat×S)}:∀(l:List (Nat×Oper)) (done:Nat) (t:T V) (s:S),(∀ x∈l,(!(m.testBit x.1)||done.testBit x.1)=true)->bT E ops ms effs hist m l done t s=some (done,t,s)
 |[],_,_,_,_=>rfl
 |(i,o)::l,done,t,s,h=>by
  simp only[bT]
  rw[h (i,o) (by simp),cond_true]
  exact oz l done t s fun x hx=>h x (List.mem_cons_of_mem _ hx)
theorem zN{done:Nat}:∀(l:List (Nat×Oper)) (t:T V),(∀ x∈l,done.testBit x.1=true)->dq done l t=t
 |[],_,_=>rfl
 |(i,o)::l,t,h=>by
  simp only[dq]
  rw[h (i,o) (by simp),cond_true]
  exact zN l t fun x hx=>h x (List.mem_cons_of_mem _ hx)
theorem DE{done i:Nat}{o:Oper}:∀(l:List (Nat×Oper)) (t:T V),(l.map (·.1)).Nodup->(i,o)∈l->(∀ x∈l,x.1≠i->done.testBit x.1=true)->done.testBit i=false->dq done l t=DF t o.dst
 |(k,q)::l,t,hn,hm,h,hi=>by
  simp only[dq]
  rw[List.map_cons,List.nodup_cons]at hn
  by_cases hk:k=i
  ·subst hk
   have hq:q=o:=by
    rcases List.mem_cons.1 hm with e|e
    ·cases e;rfl
    ·exact absurd (List.mem_map.2 ⟨_,e,rfl⟩) hn.1
   subst hq
   have hs:∀ t:T V,dq done l t=t:=fun t=>zN l t fun x hx=>h x (List.mem_cons_of_mem _ hx) fun e=>hn.1 (e▸List.mem_map.2 ⟨x,hx,rfl⟩)
   rw[hi,cond_false]
   cases q.dst with
   |none=>simp only[hs];rfl
   |some d=>simp only[T.setK_eq,hs,DF];rfl
  ·rw[h (k,q) (by simp) hk,cond_true]
   refine DE l t hn.2 ?_ (fun x hx=>h x (List.mem_cons_of_mem _ hx)) hi
   rcases List.mem_cons.1 hm with e|e
   ·cases e;exact absurd rfl hk
   ·exact e
theorem za:∀(l:List Oper) (n:Nat),∀ x∈cj l n,n<=x.1
 |[],_,x,h=>by cases h
 |o::l,n,x,h=>by
  rcases List.mem_cons.1 h with rfl|h
  ·exact Nat.le_refl _
  ·have:=za l (n+1) x h;omega
theorem qw:∀(l:List Oper) (n:Nat),((cj l n).map (·.1)).Nodup
 |[],_=>List.nodup_nil
 |o::l,n=>by
  rw[cj,List.map_cons,List.nodup_cons]
  refine⟨fun h=>?_,qw l (n+1)⟩
  obtain⟨x,hx,e⟩:=List.mem_map.1 h
  have:=za l (n+1) x hx
  simp only at e;omega
theorem zK{E:cV}{ops:Array Oper}{rec:gH}{ds:List eh}{up:Option Md}{ms:List Nat}{effs:Nat}{all:List (Nat×Oper)}(hall:∀ x∈all,ops[x.1]? = some x.2)(hnd:(all.map (·.1)).Nodup) :
 ∀(es:List (Nat×Oper)),(∀ x∈es,x∈all)->∀(hist:List (Nat×S)) (done:Nat) (t:T V) (s:S) sc,pz ms effs ops.size all es (hist.map (·.1)) done=some sc ->
  ∀ rr,gz E ops rec ds up sc (hist.map (·.2)) t s=some rr->fV E ops ms effs all rec ds up es hist done t s=some rr
 |[],_,hist,done,t,s,sc,h,rr,e=>by
  simp only[pz]at h
  simp only[fV]
  split at h
  ·rename_i l d hp
   cases h
   have:=qn (E:=E) (rec:=rec) (ds:=ds) (up:=up) all done t s hall _ _ hp []
   rw[List.append_nil]at this
   rw[this]at e
   rw[<- e]
   cases bT E ops ms effs hist (Nat.pow 2 ops.size - 1) all done t s with
   |none=>rfl
   |some x=>rfl
  ·cases h
 |(i,o)::r,hes,hist,done,t,s,sc,h,rr,e=>by
  simp only[pz]at h
  simp only[fV]
  split at h
  ·rename_i l d hp
   cases hb:(!(d.testBit i)&&effs.testBit i)with
   |false=>rw[hb]at h;cases h
   |true =>
    rw[hb]at h
    simp only[cond_true]at h
    split at h
    ·rename_i l2 h2
     cases h
     rw[qn (E:=E) (rec:=rec) (ds:=ds) (up:=up) all done t s hall _ _ hp]at e
     cases hph:bT E ops ms effs hist (ms.getD i 0) all done t s with
     |none=>rw[hph]at e;cases e
     |some x =>
      obtain⟨d1,t1,s1⟩:=x
      have hd:=oX all done t s _ _ hp _ _ _ hph
      subst hd
      rw[hph]at e
      simp only[gz]at e
      have ho:ops[i]? = some o:=hall _ (hes (i,o) (by simp))
      rw[ho]at e
      simp only at e ⊢
      cases hst:gh E rec t1 s1 o (bz ops t1 o)with
      |none=>rw[hst]at e;cases e
      |some y=>cases y with
       |val v s2 =>
        rw[hst]at e
        simp only[bZ,Bool.and_assoc,hb,Bool.and_true]at e ⊢
        cases hn:Nat.ble s1.next s2.next with
        |false=>rw[hn]at e;cases e
        |true =>
         rw[hn]at e
         simp only[cond_true]at e ⊢
         exact zK hall hnd r (fun x hx=>hes x (List.mem_cons_of_mem _ hx)) ((i,s2)::hist) _ _ s2 l2 h2 rr e
       |pan c s2 =>
        rw[hst]at e
        simp only at e ⊢
        simp only[Bool.and_eq_true,Bool.not_eq_true']at hb
        cases l2 with
        |cons x l2=>cases e
        |nil =>
         have hd2:∃ d2,mI ms effs (Nat.pow 2 ops.size - 1) (i::hist.map (·.1)) all (Nat.lor d1 (Nat.pow 2 i))=some ([],d2):=by
          cases r with
          |nil =>
           simp only[pz]at h2
           split at h2
           ·rename_i l3 d3 hq;cases h2;exact⟨d3,hq⟩
           ·cases h2
          |cons x r =>
           obtain⟨xi,xo⟩:=x
           simp only[pz]at h2
           split at h2
           ·rename_i l3 d3 hq
            cases hz:(!(d3.testBit xi)&&effs.testBit xi)with
            |false=>rw[hz]at h2;cases h2
            |true =>
             rw[hz,cond_true]at h2
             split at h2
             ·simp at h2
             ·cases h2
           ·cases h2
         obtain⟨d2,hq⟩:=hd2
         have hdn:∀ x∈all,x.1≠i->d1.testBit x.1=true:=fun x hx hxi=>by
          have h1:=yV all _ _ hq x hx
          have hlt:x.1<ops.size:=by
           have:=hall x hx
           rcases Nat.lt_or_ge x.1 ops.size with h|h
           ·exact h
           ·rw[Array.getElem?_eq_none h]at this;cases this
          have hm:(Nat.pow 2 ops.size - 1).testBit x.1=true:=by
           show(2 ^ ops.size - 1).testBit x.1=true
           rw[Nat.testBit_two_pow_sub_one];simpa using hlt
          rw[hm,fS]at h1
          simpa[Ne.symm hxi]using h1
         have hsk:bT E ops ms effs hist (dj ms i all) all d1 t1 s1=some (d1,t1,s1):=oz all d1 t1 s1 fun x hx=>by
          by_cases hxi:x.1=i
          ·have:(dj ms i all).testBit x.1=false:=by
            rw[<- Bool.not_eq_true]
            intro hz
            exact(lG.1 hz).2.2 hxi
           rw[this];rfl
          ·rw[hdn x hx hxi,Bool.or_true]
         rw[hb.1,cond_false,hsk,Hl,DE all t1 hnd (hes (i,o) (by simp)) hdn hb.1]
         exact e
    ·cases h
  ·cases h
theorem Av{E:cV}{ops:Array Oper}{sc:List (Option Nat×Nat)}(h:KE E.P ops=some sc)(rec:gH)(recR:yw)(t:T V)(ds:List eh)(up:Option Md)(s:S) :
 ∀ rr,gz E ops rec ds up sc [s] t s=some rr->gP E ops rec recR t ds up s=some rr:=by
 intro rr e
 unfold KE at h
 unfold gP
 split at h
 ·rename_i ms l es mask hp
  rw[hp]
  simp only
  have hl:l=cj ops.toList 0/\es=qQ E.P (cj ops.toList 0):=by
   simp only[La]at hp
   grind
  obtain⟨rfl,rfl⟩:=hl
  have hall:∀ x∈cj ops.toList 0,ops[x.1]? = some x.2:=fun x hx=>dI.1 (by obtain⟨a,b⟩:=x;exact hx)
  exact zK hall (qw _ _) _ (fun x hx=>(List.mem_filter.1 hx).1) [(ops.size,s)] 0 t s sc h rr e
 ·cases h
end Go.AI
set_option linter.all false
noncomputable section
namespace Go.AI
noncomputable section
inductive D where
 |bool (b:Bool)
 |int (k:IntKind) (n:Int)
 |str (s:List Nat)
 |ptr (o c:Nat)
 |eptr (cs:List D) (c:Nat)
 |bptr (o n i c:Nat)
 |tptr (o s i c:Nat)
 |nilptr
 |row (sz:Nat) (l:List (List D))
 |buf (sz o n:Nat)
 |tb (sz o s k:Nat)
 |nilrow
 |nilx
 |map (o:Nat)
 |nilmap
 |func (fn:FuncId) (first captured:List D)
 |nilFunc
 |iface (t:TypeId) (d:D)
 |nilIface
 |agg (cs:List D)
 |tuple (ds:List D)
 |yld (o:Nat)          -- the rounds of a loop over a function
 |abool                  -- true or false
 deriving Inhabited
inductive LD where
 |g (d:D)
 |lp (k c:Nat)
 |u
 deriving Inhabited
inductive DB where
 |dead
 |cells (st:Nat) (cs:List D)
 |buf (sz:Nat) (st cap:Bool) (l:List (List D))
 |tbuf (sz s:Nat) (l:List (List D))
 |map (es:List (D×D))
 |coll                   -- what waits for the end of a loop over a function
 |loop (rdy:Bool) (f:FuncId) (nt:Nat) (t:T LD) (ps:Array Tmp) (a b:Code)
 |opq
 deriving Inhabited
structure fo where
 v:D
 recovered:Bool
inductive eH where
 |run
 |returning
 |panicking (c:List fo)
 |round (o:Nat)
structure Ui where
 fn:FuncId
 captured:List D
 args:List D
inductive pG where
 |call (d:Ui)
 |coll (o:Nat)
inductive Nm where
 |ret (d:D)
 |pan (c:List fo)
abbrev DH:=List DB
abbrev LS:=List (Nat×List D)
structure gI where
 e:Nm
 up:Option eH
 H:DH
abbrev ag:=Option gI
inductive xO where
 |val (d:LD) (L:LS) (H:DH)
 |skip (L:LS) (H:DH)
 |enter (f:FuncId) (args:List D) (L:LS) (H:DH)
 |defer (d:Ui) (L:LS) (H:DH)
 |recover (L:LS) (H:DH)
 |panic (d:D) (L:LS) (H:DH)
 |round (o:Nat) (args:List D) (L:LS) (H:DH)
inductive Hk where
 |fz (sz:Nat)
 |acc (sz:Nat)
structure gJ where
 cuts:List (Nat×List Nat×List Nat)
 esc:List Nat
 hooks:List (Nat×List (Nat×Hk))
 rfz:List (Nat×Nat×Hk)
 trim:Bool
def gJ.no:gJ:=⟨[],[],[],[],false⟩
structure cw where
 E:cV
 an:T gJ
 orc:FuncId->List D->DH->Option (D×DH)
 vo:FuncId->Bool      -- known beforehand to the evaluator below
def cw.ann(E:cw)(f:FuncId):gJ:=match E.an.get (eB f)with
 |some a=>a
 |none=>gJ.no
def Pc:V->Option D
 |.bool b=>some (.bool b)
 |.int k n=>some (.int k n)
 |.str l=>bif l.all (fun c=>Nat.blt c 256)then some (.str l)else none
 |.nilptr=>some .nilptr
 |.nilslice=>some .nilrow
 |.nilmap=>some .nilmap
 |.func fn a b=>match fn with
  |.func f=>bif a.isEmpty&&b.isEmpty then some (.func f [] [])else none
  |_=>none
 |.nilFunc=>some .nilFunc
 |.nilIface=>some .nilIface
 |_=>none
def xe:List V->Option (List D)
 |[]=>some []
 |v::r=>match Pc v with
  |some d=>match xe r with
   |some l=>some (d::l)
   |none=>none
  |none=>none
def SK:V->Option D
 |.agg cs=>match xe cs with
  |some l=>some (.agg l)
  |none=>none
 |v=>Pc v
def D.cells:D->List D
 |.agg cs=>cs
 |d=>[d]
def oo(P:Program)(t:TypeId):Option D:=match zero P t with
 |some z=>SK z
 |none=>none
def TY:List V->List D->List D
 |v::r,d::l=>(match v with|.nilslice=>.nilx|_=>d)::TY r l
 |_,l=>l
def JV(P:Program)(t:TypeId):Option D:=match zero P t with
 |some (.agg cs)=>match xe cs with
  |some l=>some (.agg (TY cs l))
  |none=>none
 |_=>none
def gq(t:T LD):Operand->Option LD
 |.tmp i=>t.get (eB i)
 |.const v=>match V.ofConst v with
  |some v=>match SK v with
   |some d=>some (.g d)
   |none=>none
  |none=>none
 |.global _=>none
 |.func f=>some (.g (.func f [] []))
def kx:Unit:=(fun _=>()) @gz
def T.setQ{α β:Type}(x:Option α)(p:xR)(t:T α)(k:T α->β):β:=(fun _ =>
 xR.rec (motive:=fun _=>T α->(T α->β)->β)
  (fun t k=>T.rec (motive:=fun _=>β) (k (.node .leaf x .leaf)) (fun l _ r _ _=>k (.node l x r)) t)
  (fun _ ih t k=>T.rec (motive:=fun _=>β) (ih .leaf fun t=>k (.node t none .leaf)) (fun l v r _ _=>ih l fun t=>k (.node t v r)) t)
  (fun _ ih t k=>T.rec (motive:=fun _=>β) (ih .leaf fun t=>k (.node .leaf none t)) (fun l v r _ _=>ih r fun t=>k (.node l v t)) t) p t k) kx
theorem T.setQ_eq{α β:Type}(x:Option α)(p:xR)(t:T α)(k:T α->β):T.setQ x p t k=k (T.set x p t):=T.setK_eq x p t k
def gD(x:Option LD)(κ:D->ag):ag:=(fun _=>match x with
 |some (.g d)=>κ d
 |_=>none) kx
def lD(x:Option LD)(κ:LD->ag):ag:=(fun _=>match x with
 |some d=>κ d
 |none=>none) kx
def DA(t:T LD):List Operand->(List D->ag)->ag
 |[],κ=>κ []
 |x::r,κ=>gD (gq t x) fun d=>DA t r fun l=>κ (d::l)
def HY(a b:ag):ag:=open Classical in if a=b then a else none
def brD(d:D)(a b:ag):ag:=match d with
 |.bool q=>cond q a b
 |.abool=>HY a b
 |_=>none
def VS(d:D)(a b:ag):ag:=match d with
 |.bool q=>cond q a b
 |_=>none
def aF(cs:List D)(c:Nat)(κ:D->ag):ag:=match cs[c]? with
 |some d=>κ d
 |none=>none
def yH:Nat->List D->Nat->(List D->ag)->ag
 |0,_,_,κ=>κ []
 |n+1,cs,c,κ=>aF cs c fun d=>yH n cs (c+1) fun l=>κ (d::l)
def ah(n:Nat)(d:D)(κ:List D->ag):ag:=match d with
 |.agg cs=>bif Nat.beq cs.length n then κ cs else none
 |.tuple _=>none
 |d=>bif Nat.beq n 1 then κ [d] else none
def aG(H:DH)(o:Nat)(κ:Nat->List D->ag):ag:=match H[o]? with
 |some (.cells st cs)=>κ st cs
 |_=>none
def gF(H:DH)(o n:Nat)(κ:Nat->Bool->Bool->List (List D)->ag):ag:=match H[o]? with
 |some (.buf sz st cap l)=>bif Nat.beq n l.length then κ sz st cap l else none
 |_=>none
def JO(H:DH)(o s:Nat)(κ:Nat->List (List D)->ag):ag:=match H[o]? with
 |some (.tbuf sz s' l)=>bif Nat.beq s s' then κ sz l else none
 |_=>none
def jW(H:DH)(o:Nat)(κ:List (D×D)->ag):ag:=match H[o]? with
 |some (.map es)=>κ es
 |_=>none
def dJ(n:Int)(κ:Nat->ag):ag:=match n with
 |.ofNat n=>κ n
 |_=>none
def eP(l:List (List D))(i:Nat)(κ:List D->ag):ag:=match l[i]? with
 |some cs=>κ cs
 |none=>none
def boK(b:Bool)(κ:ag):ag:=bif b then κ else none
def tQ:List D->Nat->List D->Option (List D)
 |cs,_,[]=>some cs
 |x::r,n+1,new=>match tQ r n new with
  |some l=>some (x::l)
  |none=>none
 |_::r,0,y::new=>match tQ r 0 new with
  |some l=>some (y::l)
  |none=>none
 |[],_,_::_=>none
def ar(cs:List D)(c:Nat)(new:List D)(κ:List D->ag):ag:=match tQ cs c new with
 |some l=>κ l
 |none=>none
def cN(P:Program)(ty:TypeId)(cs:List D)(c:Nat)(κ:D->ag):ag:=match pp P ty with
 |some true=>match size P ty with
  |some n=>bif Nat.blt 0 n then yH n cs c fun l=>κ (.agg l)else none
  |none=>none
 |some false=>aF cs c κ
 |none=>none
def eZ(P:Program)(ty:TypeId)(d:D)(H:DH)(κ:D->ag):ag:=match d with
 |.eptr cs c=>cN P ty cs c κ
 |.ptr o c=>aG H o fun _ cs=>cN P ty cs c κ
 |.bptr o n i c=>gF H o n fun _ _ _ l=>eP l i fun cs=>cN P ty cs c κ
 |.tptr o s i c=>JO H o s fun _ l=>eP l i fun cs=>cN P ty cs c κ
 |_=>none
def jF(P:Program)(ty:TypeId)(x:LD)(L:LS)(H:DH)(κ:D->ag):ag:=(fun _=>match x with
 |.lp k c=>match L[k]? with
  |some (_,cs)=>cN P ty cs c κ
  |none=>none
 |.g d=>eZ P ty d H κ
 |.u=>none) kx
def NI(d:D)(new:List D)(H:DH)(κ:DH->ag):ag:=match d with
 |.ptr o c=>aG H o fun st cs=>ar cs c new fun cs=>κ (H.set o (.cells (st+1) cs))
 |.bptr o n i c=>gF H o n fun sz st cap l=>boK st (eP l i fun cs=>ar cs c new fun cs=>κ (H.set o (.buf sz st cap (l.set i cs))))
 |_=>none
def uU(P:Program)(ty:TypeId)(x:LD)(v:D)(L:LS)(H:DH)(κ:LS->DH->ag):ag:=(fun _=>match size P ty with
 |some n=>(match Nat.blt 0 n with|false=>(none)|true=>(ah n v fun new=>match x with
  |.lp k c=>match L[k]? with
   |some (st,cs)=>ar cs c new fun cs=>κ (L.set k (st+1,cs)) H
   |none=>none
  |.g d=>NI d new H fun H=>κ L H
  |.u=>none))
 |none=>none) kx
def zE(place:Nat->Option (Nat×Nat))(t:T LD):List (Nat×Operand)->List D->(List D->ag)->ag
 |[],cs,κ=>κ cs
 |(i,x)::r,cs,κ=>gD (gq t x) fun d=>match place i with
  |none=>none
  |some (off,n)=>bif Nat.blt 0 n then ah n d fun new=>ar cs off new fun cs=>zE place t r cs κ else none
def pD(P:Program)(t:T LD)(ty:TypeId)(parts:List (Nat×Operand))(z:Option D)(κ:D->ag):ag:=match z with
 |some z=>match P.underlying ty with
  |some (.struct fs)=>bif fs.toList.all (fun f=>(size P f.type).isSome)then zE (mV P fs) t parts z.cells fun cs=>κ (.agg cs)else none
  |some (.array _ el)=>match size P el with
   |some n=>zE (fun i=>some (i*n,n)) t parts z.cells fun cs=>κ (.agg cs)
   |none=>none
  |_=>none
 |none=>none
def Gn(P:Program)(t:T LD)(ty:TypeId)(parts:List (Nat×Operand))(κ:D->ag):ag:=pD P t ty parts (oo P ty) κ
def mB(t:T LD)(n len:Nat):List (Nat×Operand)->List (List D)->(List (List D)->ag)->ag
 |[],l,κ=>κ l
 |(i,x)::r,l,κ=>gD (gq t x) fun d=>bif Nat.blt i len then ah n d fun new=>mB t n len r (l.set i new) κ else none
def KI(n:Nat)(l:List (List D)):D:=match l with
 |[]=>.nilrow
 |x::r=>.row n (x::r)
def hJ(P:Program)(t:T LD)(ty:TypeId)(len:Nat)(parts:List (Nat×Operand))(κ:D->ag):ag:=match P.underlying ty with
 |some (.slice el)=>match oo P el with
  |some z=>match size P el with
   |some n=>(match Nat.ble (len*n) 10000&&!(Nat.beq n 0)&&Nat.beq z.cells.length n with|true=>(mB t n len parts (List.replicate len z.cells) fun l=>κ (KI n l))|false=>(none))
   |none=>none
  |none=>none
 |_=>none
def eD(d:D)(κ:D->ag):ag:=match d with
 |.ptr o c=>κ (.ptr o c)
 |.eptr cs c=>κ (.eptr cs c)
 |.bptr o n i c=>κ (.bptr o n i c)
 |.tptr o s i c=>κ (.tptr o s i c)
 |.func f a b=>κ (.func f a b)
 |.yld o=>κ (.yld o)
 |_=>none
def Pf(x:LD)(κ:LD->ag):ag:=(fun _=>match x with
 |.lp k c=>κ (.lp k c)
 |.g d=>eD d fun d=>κ (.g d)
 |.u=>none) kx
def Rr(op:BinOp)(k:IntKind)(a b:Int)(κ:D->ag):ag:=match op with
 |.add=>κ (.int k (k.wrap (a+b)))
 |.sub=>κ (.int k (k.wrap (a - b)))
 |.mul=>κ (.int k (k.wrap (a*b)))
 |.eql=>κ (.bool (a==b))
 |.neq=>κ (.bool (a != b))
 |.lss=>κ (.bool (decide (a<b)))
 |.leq=>κ (.bool (decide (a<=b)))
 |.gtr=>κ (.bool (decide (a>b)))
 |.geq=>κ (.bool (decide (a>=b)))
 |.quo=>boK (!(b==0)) (κ (.int k (k.wrap (a.tdiv b))))
 |.rem=>boK (!(b==0)) (κ (.int k (a.tmod b)))
 |_=>none
def Qt(op:BinOp)(a b:List Nat)(κ:D->ag):ag:=match op with
 |.add=>boK (Nat.ble (a.length+b.length) 1000000) (κ (.str (a++b)))
 |.eql=>κ (.bool (a==b))
 |.neq=>κ (.bool (!(a==b)))
 |.lss=>κ (.bool (Op.bytesLess (nq a) (nq b)))
 |_=>none
def Lc(P:Program)(t:TypeId)(cs:List D)(off:Nat)(κ:D->ag):ag:=cN P t cs off κ
def Mt(P:Program)(eq:TypeId->D->D->(Bool->ag)->ag):List Field->List D->List D->Bool->(Bool->ag)->ag
 |[],_,_,q,κ=>κ q
 |f::r,xs,ys,q,κ=>bif f.name == "_" then none else Lc P f.type xs f.offset fun a=>Lc P f.type ys f.offset fun b=>eq f.type a b fun p=>Mt P eq r xs ys (q&&p) κ
def Jf(P:Program):Nat->TypeId->D->D->(Bool->ag)->ag
 |0,_,_,_,_=>none
 |d+1,t,x,y,κ=>match P.underlying t with
  |some (.struct fs)=>match x,y with
   |.agg xs,.agg ys=>bif P.stoodInHeld t then none else Mt P (Jf P d) fs.toList xs ys true κ
   |_,_=>none
  |some (.interface _)=>match x,y with
   |.nilIface,.nilIface=>κ true
   |.nilIface,.iface _ _=>κ false
   |.iface _ _,.nilIface=>κ false
   |_,_=>none
  |some .bool=>match x,y with
   |.bool a,.bool b=>κ (a==b)
   |_,_=>none
  |some (.int _)=>match x,y with
   |.int j a,.int k b=>bif cY j k then κ (a==b)else none
   |_,_=>none
  |some .string=>match x,y with
   |.str a,.str b=>κ (a==b)
   |_,_=>none
  |some (.pointer _)=>match x,y with
   |.nilptr,.nilptr=>κ true
   |.nilptr,.ptr _ _=>κ false
   |.nilptr,.eptr _ _=>κ false
   |.nilptr,.bptr _ _ _ _=>κ false
   |.ptr _ _,.nilptr=>κ false
   |.eptr _ _,.nilptr=>κ false
   |.bptr _ _ _ _,.nilptr=>κ false
   |_,_=>none
  |some (.func _ _ _)=>match x,y with
   |.nilFunc,.nilFunc=>κ true
   |.nilFunc,.func ..=>κ false
   |.func ..,.nilFunc=>κ false
   |_,_=>none
  |_=>none
def Mg(P:Program)(op:BinOp)(t:TypeId)(c:Bool)(a b:D):Bool :=
 bif lE op then match a,b with
  |.nilIface,.nilIface=>c
  |.agg _,.agg _=>!(P.eqGuardType P.depth t)
  |_,_=>true
 else true
def ay(P:Program)(op:BinOp)(t:TypeId)(c:Bool)(x y:D)(κ:D->ag):ag:=match x,y with
 |.int j a,.int k b=>bif nR op then none else bif cY j k then Rr op j a b κ else none
 |.str a,.str b=>Qt op a b κ
 |x,y=>bif Mg P op t c x y then(match op with
  |.eql=>Jf P 20 t x y fun q=>κ (.bool q)
  |.neq=>Jf P 20 t x y fun q=>κ (.bool !q)
  |_=>none)else none
def Hi(H:DH)(o:Nat):Bool:=match H[o]? with
 |some (.cells _ _)=>true
 |_=>false
def yc(P:Program)(d:TypeDesc):Bool:=match d with
 |.pointer e=>(match size P e with
  |some n=>!(Nat.beq n 0)
  |none=>false)
 |_=>false
def QF(P:Program)(t:TypeId):Bool:=match P.underlying t with
 |some d=>yc P d
 |none=>false
def Fa(P:Program)(t:TypeId)(c:Bool)(op:BinOp)(x y:D)(H:DH)(q:Bool->Bool)(κ:D->ag):ag:=match QF P t with
 |true=>(match y with
  |.ptr o2 c2=>(match x with
   |.ptr o1 c1=>bif Hi H o1&&Hi H o2 then κ (.bool (q (Nat.beq o1 o2&&Nat.beq c1 c2)))else none
   |x=>ay P op t c x (.ptr o2 c2) κ)
  |y=>ay P op t c x y κ)
 |false=>ay P op t c x y κ
def xA(P:Program)(op:BinOp)(t:TypeId)(c:Bool)(x y:D)(H:DH)(κ:D->ag):ag:=match op with
 |.eql=>Fa P t c .eql x y H (fun b=>b) κ
 |.neq=>Fa P t c .neq x y H (fun b=>!b) κ
 |op=>ay P op t c x y κ
def po:Operand->Bool
 |.const c=>match V.ofConst c with
  |some .nilslice=>true
  |_=>false
 |_=>false
def QP:BinOp->Bool
 |.eql=>false
 |_=>true
def QO(op:BinOp)(l:List (List D))(κ:D->ag):ag:=match l with
 |[]=>κ .abool
 |_::_=>κ (.bool (QP op))
def IJ(op:BinOp)(x:D)(κ:D->ag):ag:=bif lE op then(match x with
 |.nilrow=>κ .abool
 |.row _ l=>QO op l κ
 |.buf _ _ n=>(match n with|0=>κ .abool|_+1=>κ (.bool (QP op)))
 |_=>none)else none
def rI(op:UnOp)(x:D)(κ:D->ag):ag:=match op with
 |.not=>match x with
  |.bool b=>κ (.bool !b)
  |_=>none
 |.neg=>match x with
  |.int k n=>κ (.int k (k.wrap (0 - n)))
  |_=>none
 |_=>none
def oO(P:Program)(src dst:TypeId)(x:D)(κ:D->ag):ag:=bif (P.underlying src).isNone then none else match P.underlying dst with
 |some (.int k)=>match x with
  |.int _ n=>κ (.int k (k.wrap n))
  |_=>none
 |some .string=>match x with
  |.str l=>κ (.str l)
  |.int _ n=>κ (.str ((Utf8.encode n).data.toList.map UInt8.toNat))
  |_=>none
 |_=>none
def Ly(P:Program)(el:TypeId)(n:Nat)(κ:List (List D)->Nat->ag):ag:=match oo P el with
 |some z=>match size P el with
  |some sz=>bif !(Nat.beq sz 0)&&Nat.beq z.cells.length sz then boK (Nat.ble n 2199023255552&&kW P el n) (κ (List.replicate n z.cells) sz)else none
  |none=>none
 |none=>none
def sR(o:Option D)(d:Nat)(κ:Nat->ag):ag:=match o with
 |some (.int _ n)=>dJ n κ
 |some _=>none
 |none=>κ d
def Je(t:T LD):Option Operand->(Option D->ag)->ag
 |none,κ=>κ none
 |some x,κ=>gD (gq t x) fun d=>κ (some d)
def Cs(sz:Nat)(l:List (List D))(lo hi:Option D)(κ:D->ag):ag :=
 sR hi l.length fun h=>sR lo 0 fun b=>boK (Nat.ble h l.length&&Nat.beq b 0) (κ (.row sz (l.take h)))
def cy(P:Program)(t:TypeId)(x:D)(lo hi mx:Option D)(H:DH)(κ:D->DH->ag):ag:=match P.underlying t with
 |some .string=>match x with
  |.str l=>match mx with
   |none=>sR hi l.length fun h=>sR lo 0 fun b=>boK (Nat.ble h l.length&&Nat.ble b h) (κ (.str ((l.drop b).take (h - b))) H)
   |some _=>none
  |_=>none
 |some (.slice e)=>match size P e with
  |some sz=>match mx with
   |none=>match x with
    |.row s l=>bif Nat.beq s sz then Cs sz l lo hi fun d=>κ d H else none
    |.buf s' o n=>gF H o n fun s _ cap l=>boK (Nat.beq s' sz) (Cs sz l lo hi fun d=>κ d (H.set o (.buf s false cap l)))
    |.nilrow=>sR hi 0 fun h=>sR lo 0 fun b=>boK (Nat.beq h 0&&Nat.beq b 0) (κ .nilrow H)
    |_=>none
   |some m=>sR (some m) 0 fun m=>sR hi 0 fun h=>sR lo 0 fun b=>bif hi.isSome&&(Nat.beq m 0&&Nat.beq h 0&&Nat.beq b 0)then(match x with
    |.row s _=>bif Nat.beq s sz then κ .nilrow H else none
    |.buf s' o n=>gF H o n fun _ _ _ _=>boK (Nat.beq s' sz) (κ .nilrow H)
    |.nilrow=>κ .nilrow H
    |_=>none)else none
  |none=>none
 |_=>none
def Qp(P:Program)(t:TypeId)(x:D)(lo hi mx:Option D)(H:DH)(κ:D->DH->ag):ag:=match P.underlying t with
 |some (.slice e)=>match size P e with
  |some sz=>match lo with
   |none=>match mx with
    |none=>match hi with
     |some (.int _ h)=>dJ h fun h=>match x with
      |.buf s o n=>bif Nat.beq s sz then gF H o n fun z st cap l=>boK (Nat.beq z sz&&(st&&(!cap&&(Nat.ble h n&&Nat.blt 0 n)))) (κ (.tb sz o (n+1) h) (H.set o (.tbuf sz (n+1) (l.take h))))else none
      |.tb s o st k=>bif Nat.beq s sz then JO H o st fun z l=>boK (Nat.beq z sz&&Nat.ble h k) (κ (.tb sz o (st+1) h) (H.set o (.tbuf sz (st+1) (l.take h))))else none
      |_=>none
     |_=>none
    |_=>none
   |_=>none
  |none=>none
 |_=>none
def dt(d:D)(off:Nat)(κ:D->ag):ag:=match d with
 |.ptr o c=>κ (.ptr o (c+off))
 |.eptr cs c=>κ (.eptr cs (c+off))
 |.bptr o n i c=>κ (.bptr o n i (c+off))
 |.tptr o s i c=>κ (.tptr o s i (c+off))
 |_=>none
def OM(x:LD)(off:Nat)(κ:LD->ag):ag:=(fun _=>match x with
 |.lp k c=>κ (.lp k (c+off))
 |.g d=>dt d off fun d=>κ (.g d)
 |.u=>none) kx
def wF(P:Program)(ty:TypeId)(x:LD)(f:Nat)(κ:LD->ag):ag:=(fun _=>match P.underlying ty with
 |some (.struct fs)=>match fs[f]? with
  |some fd=>(match jH fd P with|true=>(none)|false=>(OM x fd.offset κ))
  |none=>none
 |_=>none) kx
def wD(P:Program)(ty:TypeId)(x:D)(f:Nat)(κ:D->ag):ag:=match P.underlying ty with
 |some (.struct fs)=>match fs[f]? with
  |some fd=>match x with
   |.agg cs=>Lc P fd.type cs fd.offset κ
   |_=>none
  |none=>none
 |_=>none
def FC(x:D)(sz:Nat)(i:Int)(κ:D->ag):ag:=match x with
 |.row s l=>bif Nat.beq s sz then dJ i fun i=>eP l i fun cs=>κ (.eptr cs 0)else none
 |.buf s o n=>bif Nat.beq s sz then dJ i fun i=>boK (Nat.blt i n) (κ (.bptr o n i 0))else none
 |.tb s o st k=>bif Nat.beq s sz then dJ i fun i=>boK (Nat.blt i k) (κ (.tptr o st i 0))else none
 |_=>none
def cE(P:Program)(ty:TypeId)(x i:D)(κ:D->ag):ag:=match P.underlying ty with
 |some (.slice el)=>match size P el with
  |some sz=>match i with
   |.int _ i=>FC x sz i κ
   |_=>none
  |none=>none
 |_=>none
def eE(l:List Nat)(i:Nat)(κ:D->ag):ag:=match l[i]? with
 |some c=>κ (.int .u8 (.ofNat (Nat.mod c 256)))
 |none=>none
def ja(P:Program)(ty:TypeId)(x i:D)(κ:D->ag):ag:=match P.underlying ty with
 |some .string=>match x with
  |.str l=>match i with
   |.int _ i=>dJ i fun i=>eE l i κ
   |_=>none
  |_=>none
 |some (.array len el)=>match x with
  |.agg cs=>match size P el with
   |some sz=>match i with
    |.int _ i=>dJ i fun i=>bif Nat.blt i len then cN P el cs (Nat.mul i sz) κ else none
    |_=>none
   |none=>none
  |_=>none
 |_=>none
def iY:D->D->Option Bool
 |.int j a,.int k b=>bif cY j k then some (a==b)else none
 |.str a,.str b=>some (a==b)
 |.bool a,.bool b=>some (a==b)
 |.ptr o c,.ptr o' c'=>some (Nat.beq o o'&&Nat.beq c c')
 |_,_=>none
def iX(H:DH):List (D×D)->Bool
 |[]=>true
 |(.ptr o _,_)::r=>Hi H o&&iX H r
 |_::r=>iX H r
def qB(k:D):List (D×D)->Option (Option D)
 |[]=>some none
 |(x,v)::r=>match iY k x with
  |some true=>some (some v)
  |some false=>qB k r
  |none=>none
def rZ(k v:D):List (D×D)->Option (List (D×D))
 |[]=>some [(k,v)]
 |(x,w)::r=>match iY k x with
  |some true=>some ((k,v)::r)
  |some false=>match rZ k v r with
   |some r=>some ((x,w)::r)
   |none=>none
  |none=>none
def gR(k:D)(es:List (D×D))(κ:Option D->ag):ag:=match qB k es with
 |some o=>κ o
 |none=>none
def gQ(k v:D)(es:List (D×D))(κ:List (D×D)->ag):ag:=match rZ k v es with
 |some es=>κ es
 |none=>none
def dL(P:Program)(el:TypeId)(ok:Bool)(o:Option D)(κ:D->ag):ag:=match o with
 |some d=>κ (bif ok then .tuple [d,.bool true] else d)
 |none=>match oo P el with
  |some z=>κ (bif ok then .tuple [z,.bool false] else z)
  |none=>none
def qH(d:TypeDesc):Bool:=match d with
 |.int _=>true
 |.string=>true
 |.bool=>true
 |_=>false
def ut(P:Program)(ty:TypeId):Option (TypeDesc×TypeId):=match P.underlying ty with
 |some (.map kt el)=>match P.underlying kt with
  |some d=>bif qH d||yc P d then some (d,el)else none
  |none=>none
 |_=>none
def pj(td:TypeDesc)(d:D):Bool:=match td with
 |.int _=>match d with
  |.int _ _=>true
  |_=>false
 |.string=>match d with
  |.str _=>true
  |_=>false
 |.bool=>match d with
  |.bool _=>true
  |_=>false
 |.pointer _=>match d with
  |.ptr _ _=>true
  |_=>false
 |_=>false
def eR(P:Program)(ty:TypeId)(m k:D)(ok:Bool)(H:DH)(κ:D->ag):ag:=match ut P ty with
 |some (td,el)=>match m with
  |.map o=>bif pj td k then jW H o fun es=>(match k with
   |.ptr o2 c2=>bif Hi H o2&&iX H es then gR (.ptr o2 c2) es fun r=>dL P el ok r κ else none
   |k=>gR k es fun r=>dL P el ok r κ)else none
  |.nilmap=>dL P el ok none κ
  |_=>none
 |none=>none
def fM(P:Program)(ty:TypeId)(m k v:D)(H:DH)(κ:DH->ag):ag:=match ut P ty with
 |some (td,_)=>match m with
  |.map o=>bif pj td k then jW H o fun es=>(match k with
   |.ptr o2 c2=>bif Hi H o2&&iX H es then gQ (.ptr o2 c2) v es fun es=>κ (H.set o (.map es))else none
   |k=>gQ k v es fun es=>κ (H.set o (.map es)))else none
  |_=>none
 |none=>none
def lS(P:Program)(x:D)(ty:TypeId)(ok:Bool)(κ:D->ag):ag:=match P.underlying ty with
 |some (.interface _)=>none
 |some _=>match x with
  |.iface t d=>bif Nat.beq t ty then κ (bif ok then .tuple [d,.bool true] else d)else bif ok then(match oo P ty with
   |some z=>κ (.tuple [z,.bool false])
   |none=>none)else none
  |.nilIface=>bif ok then(match oo P ty with
   |some z=>κ (.tuple [z,.bool false])
   |none=>none)else none
  |_=>none
 |none=>none
def cO(x:D)(i:Nat)(κ:D->ag):ag:=match x with
 |.tuple ds=>aF ds i κ
 |_=>none
def Mw(y:D)(H:DH)(sz:Nat)(κ:List (List D)->ag):ag:=(fun _=>match y with
 |.row s l=>(match Nat.beq s sz with|true=>(κ l)|false=>(none))
 |.nilrow=>κ []
 |.nilx=>κ []
 |.buf s o n=>(match Nat.beq s sz with|true=>(gF H o n fun _ _ _ l=>κ l)|false=>(none))
 |_=>none) kx
def grow(o:Nat)(sz:Nat)(st cap:Bool)(l els:List (List D))(H:DH)(κ:D->DH->ag):ag :=
 bif cap then κ (.buf sz H.length (l.length+els.length)) (H++[.buf sz true false (l++els)])
 else κ (.buf sz o (l.length+els.length)) (H.set o (.buf sz st false (l++els)))
def eG(ok:Nat->Bool)(sz:Nat)(x:D)(els:List (List D))(H:DH)(κ:D->DH->ag):ag:=boK (ok els.length) (match x with
 |.nilrow=>match els with
  |[]=>κ .nilrow H
  |e::r=>κ (.buf sz H.length (r.length+1)) (H++[.buf sz true false (e::r)])
 |.nilx=>match els with
  |[]=>κ .nilrow H
  |e::r=>κ (.buf sz H.length (r.length+1)) (H++[.buf sz true false (e::r)])
 |.buf s o n=>bif Nat.beq s sz then gF H o n fun _ st cap l=>boK (ok (l.length+els.length)&&!(cap&&els.isEmpty)) (grow o sz st cap l els H κ)else none
 |.tb s o st k=>bif Nat.beq s sz then JO H o st fun _ l=>boK (ok (k+els.length)&&!els.isEmpty) (κ (.tb sz o (st+1) (k+els.length)) (H.set o (.tbuf sz (st+1) (l++els))))else none
 |_=>none)
def rp(P:Program)(sT xT:TypeId)(x y:D)(H:DH)(κ:D->DH->ag):ag:=(fun _=>match P.underlying sT with
 |some (.slice elem)=>(match CM P xT with|false=>(none)|true=>((match size P elem with
  |some sz=>(match sK P elem sz with|true=>(Mw y H sz fun els=>eG (aT P elem) sz x els H κ)|false=>(none))
  |none=>none)))
 |_=>none) kx
def eC(P:Program)(t:TypeId)(x:D)(H:DH)(κ:D->ag):ag:=match P.underlying t with
 |some .string=>match x with
  |.str l=>κ (.int .i64 l.length)
  |_=>none
 |some (.slice _)=>match x with
  |.row _ l=>κ (.int .i64 l.length)
  |.buf _ _ n=>κ (.int .i64 n)
  |.tb _ _ _ k=>κ (.int .i64 k)
  |.nilrow=>κ (.int .i64 0)
  |.nilx=>κ (.int .i64 0)
  |_=>none
 |some (.map _ _)=>match x with
  |.map o=>jW H o fun es=>κ (.int .i64 es.length)
  |.nilmap=>κ (.int .i64 0)
  |_=>none
 |_=>none
def LB(g:Bool)(x y:D)(κ:D->ag):ag:=match x with
 |.int j a=>match y with
  |.int k b=>bif cY j k then κ (.int j (bif g then(bif decide (b>a)then b else a)else(bif decide (b<a)then b else a)))else none
  |_=>none
 |_=>none
def zd(g:Bool):D->List D->(D->ag)->ag
 |x,[],κ=>κ x
 |x,y::r,κ=>LB g x y fun z=>zd g z r κ
def IK(esc:Bool)(cs:List D)(L:LS)(H:DH)(κ:xO->ag):ag:=(fun _=>  (match esc with|true=>(κ (.val (.g (.ptr H.length 0)) L (H++[.cells 0 cs])))|false=>(κ (.val (.lp L.length 0) (L++[(0,cs)]) H)))) kx
def KD(t:T LD)(o:Operand)(b:Bool)(κ:T LD->ag):ag:=(fun _=>match o with
 |.tmp i=>t.setQ (some (.g (.bool b))) (eB i) κ
 |_=>κ t) kx
def PM(t:T LD)(L:LS)(H:DH)(c a b:Operand)(κ:T LD->xO->ag):ag :=
 gD (gq t c) fun d=>VS d (KD t c true fun t=>lD (gq t a) fun x=>κ t (.val x L H)) (KD t c false fun t=>lD (gq t b) fun x=>κ t (.val x L H))
def et(E:cV)(f:FuncId):Bool:=match E.P.funcs[f]? with
 |some fn=>fn.body.isSome
 |none=>false
def BH(E:cV)(L:LS)(H:DH)(args:List D)(f:D)(κ:xO->ag):ag:=(fun _=>match f with
 |.func g first cap=>(match et E g with|true=>(κ (.enter g (first++(args++cap)) L H))|false=>(none))
 |_=>none) kx
def GD(L:LS)(H:DH)(args:List D)(f:D)(κ:xO->ag):ag:=(fun _=>match f with
 |.yld o=>κ (.round o args L H)
 |_=>none) kx
def lR(P:Program)(b:Builtin)(ts:Array TypeId)(args:List D)(L:LS)(H:DH)(κ:xO->ag):ag:=(fun _=>match b with
 |.append=>match ts[0]? with
  |some a=>match ts[1]? with
   |some b=>match args with
    |[x,y]=>rp P a b x y H fun d H=>κ (.val (.g d) L H)
    |_=>none
   |none=>none
  |none=>none
 |.len=>match ts[0]? with
  |some a=>match args with
   |[x]=>eC P a x H fun d=>κ (.val (.g d) L H)
   |_=>none
  |none=>none
 |.max=>match args with
  |x::r=>zd true x r fun d=>κ (.val (.g d) L H)
  |_=>none
 |.min=>match args with
  |x::r=>zd false x r fun d=>κ (.val (.g d) L H)
  |_=>none
 |.recover=>κ (.recover L H)
 |.panic=>match args with
  |[.iface t v]=>κ (.panic (.iface t v) L H)
  |_=>none
 |_=>none) kx
def jB:Op->cw->Bool->T LD->LS->DH->(T LD->xO->ag)->ag
 |.move x,_,_,t,L,H,κ=>lD (gq t x) fun d=>κ t (.val d L H)
 |.assign x,_,_,t,L,H,κ=>lD (gq t x) fun d=>κ t (.val d L H)
 |.pick c a b,_,_,t,L,H,κ=>PM t L H c a b κ
 |.alloc elem,E,esc,t,L,H,κ=>match oo E.E.P elem with
  |some z=>IK esc z.cells L H (κ t)
  |none=>none
 |.box elem x,E,esc,t,L,H,κ=>match size E.E.P elem with
  |some n=>gD (gq t x) fun d=>ah n d fun cs=>IK esc cs L H (κ t)
  |none=>none
 |.build ty parts,E,esc,t,L,H,κ=>match esc with
  |true=>pD E.E.P t ty parts.toList (JV E.E.P ty) fun d=>κ t (.val (.g d) L H)
  |false=>Gn E.E.P t ty parts.toList fun d=>κ t (.val (.g d) L H)
 |.buildSlice ty len parts,E,_,t,L,H,κ=>hJ E.E.P t ty len parts.toList fun d=>κ t (.val (.g d) L H)
 |.load ty x,E,_,t,L,H,κ=>lD (gq t x) fun x=>jF E.E.P ty x L H fun d=>κ t (.val (.g d) L H)
 |.store ty x y,E,_,t,L,H,κ=>lD (gq t x) fun x=>gD (gq t y) fun v=>uU E.E.P ty x v L H fun L H=>κ t (.skip L H)
 |.nilCheck x,_,_,t,L,H,κ=>lD (gq t x) fun x=>Pf x fun x=>κ t (.val x L H)
 |.binOp op ty x y _,E,_,t,L,H,κ=>gD (gq t x) fun a=>gD (gq t y) fun b=>(match po y with|false=>(xA E.E.P op ty (dc x||dc y) a b H fun d=>κ t (.val (.g d) L H))|true=>((match E.E.P.underlying ty with
  |some (.slice _)=>IJ op a fun d=>κ t (.val (.g d) L H)
  |_=>none)))
 |.unOp op _ x,_,_,t,L,H,κ=>gD (gq t x) fun a=>rI op a fun d=>κ t (.val (.g d) L H)
 |.convert src dst x,E,_,t,L,H,κ=>gD (gq t x) fun a=>oO E.E.P src dst a fun d=>κ t (.val (.g d) L H)
 |.makeInterface ty x,E,_,t,L,H,κ=>gD (gq t x) fun a=>match E.E.P.underlying ty with
  |some (.interface _)=>none
  |some _=>κ t (.val (.g (.iface ty a)) L H)
  |none=>none
 |.makeFunc fn first cap,_,_,t,L,H,κ=>match fn with
  |.func f=>DA t first.toList fun a=>DA t cap.toList fun b=>κ t (.val (.g (.func f a b)) L H)
  |_=>none
 |.makeMap _ none,_,_,t,L,H,κ=>κ t (.val (.g (.map H.length)) L (H++[.map []]))
 |.makeSlice ty l c,E,_,t,L,H,κ=>match E.E.P.underlying ty with
  |some (.slice el)=>match l with
   |.tmp i=>match c with
    |.tmp j=>(match Nat.beq i j with|false=>(none)|true=>(gD (gq t (.tmp i)) fun d=>match d with
     |.int _ n=>dJ n fun n=>Ly E.E.P el n fun l sz=>κ t (.val (.g (.buf sz H.length n)) L (H++[.buf sz true true l]))
     |_=>none))
    |_=>none
   |_=>none
  |_=>none
 |.slice ty x lo hi mx,E,esc,t,L,H,κ=>gD (gq t x) fun x=>Je t lo fun lo=>Je t hi fun hi=>Je t mx fun mx=>match esc with
  |true=>Qp E.E.P ty x lo hi mx H fun d H=>κ t (.val (.g d) L H)
  |false=>cy E.E.P ty x lo hi mx H fun d H=>κ t (.val (.g d) L H)
 |.fieldAddr ty x f,E,_,t,L,H,κ=>lD (gq t x) fun x=>wF E.E.P ty x f fun x=>κ t (.val x L H)
 |.field ty x f,E,_,t,L,H,κ=>gD (gq t x) fun x=>wD E.E.P ty x f fun d=>κ t (.val (.g d) L H)
 |.indexAddr ty x i,E,_,t,L,H,κ=>gD (gq t x) fun x=>gD (gq t i) fun i=>cE E.E.P ty x i fun d=>κ t (.val (.g d) L H)
 |.index ty x i,E,_,t,L,H,κ=>gD (gq t x) fun x=>gD (gq t i) fun i=>ja E.E.P ty x i fun d=>κ t (.val (.g d) L H)
 |.lookup ty x k ok,E,_,t,L,H,κ=>gD (gq t x) fun x=>gD (gq t k) fun k=>eR E.E.P ty x k ok H fun d=>κ t (.val (.g d) L H)
 |.mapUpdate ty m k x,E,_,t,L,H,κ=>gD (gq t m) fun m=>gD (gq t k) fun k=>gD (gq t x) fun x=>fM E.E.P ty m k x H fun H=>κ t (.skip L H)
 |.insert ty m k x,E,_,t,L,H,κ=>gD (gq t m) fun m=>gD (gq t k) fun k=>gD (gq t x) fun x=>fM E.E.P ty m k x H fun H=>κ t (.skip L H)
 |.typeAssert x _ ty ok,E,_,t,L,H,κ=>gD (gq t x) fun x=>lS E.E.P x ty ok fun d=>κ t (.val (.g d) L H)
 |.extract x i,_,_,t,L,H,κ=>gD (gq t x) fun x=>cO x i fun d=>κ t (.val (.g d) L H)
 |.call c,E,esc,t,L,H,κ=>DA t c.args.toList fun args=>match c.callee with
  |.builtin b=>lR E.E.P b c.argTypes args L H (κ t)
  |.value f=>gD (gq t f) fun f=>match esc with
   |true=>GD L H args f (κ t)
   |false=>BH E.E L H args f (κ t)
  |.invoke _ _=>none
 |.defer c,E,_,t,L,H,κ=>DA t c.args.toList fun args=>match c.callee with
  |.value f=>gD (gq t f) fun f=>match f with
   |.func g first cap=>(match et E.E g with|true=>(κ t (.defer ⟨g,cap,first++args⟩ L H))|false=>(none))
   |_=>none
  |_=>none
 |.panic x,_,_,t,L,H,κ=>gD (gq t x) fun x=>match x with
  |.iface ty d=>κ t (.panic (.iface ty d) L H)
  |_=>none
 |_,_,_,_,_,_,_=>none
def fN(h:Hk)(d:D)(H:DH)(κ:D->DH->ag):ag:=match h with
 |.fz sz=>match d with
  |.buf s' o n=>gF H o n fun s _ cap l=>boK (Nat.beq s' sz) (κ (.row sz l) (H.set o (.buf s false cap l)))
  |.nilrow=>κ (.row sz []) H
  |.nilx=>κ (.row sz []) H
  |.row s l=>κ (.row s l) H
  |_=>none
 |.acc sz=>match d with
  |.nilrow=>bif Nat.blt 0 sz then κ (.buf sz H.length 0) (H++[.buf sz true false []])else none
  |.buf s o n=>κ (.buf s o n) H
  |_=>none
def il(h:Hk)(c:Nat)(d:D)(H:DH)(κ:D->DH->ag):ag:=match d with
 |.agg cs=>aF cs c fun x=>fN h x H fun y H=>κ (.agg (cs.set c y)) H
 |d=>bif Nat.beq c 0 then fN h d H κ else none
def wq:List (Nat×Hk)->D->DH->(D->DH->ag)->ag
 |[],d,H,κ=>κ d H
 |(c,h)::r,d,H,κ=>il h c d H fun d H=>wq r d H κ
def HC{α:Type}:List (Nat×α)->Nat->Option α
 |[],_=>none
 |(j,x)::r,i=>bif Nat.beq i j then some x else HC r i
def qL(hs:List (Nat×List (Nat×Hk)))(dst:Option Tmp)(x:LD)(H:DH)(κ:LD->DH->ag):ag:=(fun _=>match hs with
 |[]=>κ x H
 |_::_=>match dst with
  |none=>κ x H
  |some i=>match HC hs i with
   |none=>κ x H
   |some l=>match x with
    |.g d=>wq l d H fun d H=>κ (.g d) H
    |_=>none) kx
def QX(i:Nat):List Nat->Bool
 |[]=>false
 |j::r=>bif Nat.beq i j then true else QX i r
def oG(an:gJ)(dst:Option Tmp):Bool:=match an.esc with
 |[]=>false
 |l=>match dst with
  |some i=>QX i l
  |none=>false
def jz(t:T LD)(d:Option Tmp)(x:LD)(κ:T LD->ag):ag:=(fun _=>match d with
 |some i=>t.setQ (some x) (eB i) κ
 |none=>κ t) kx
def dP(x:ag)(kr:D->DH->ag)(kp:List fo->DH->ag):ag:=match x with
 |some ⟨.ret d,_,H⟩=>kr d H
 |some ⟨.pan c,_,H⟩=>kp c H
 |none=>none
def uN(ops:Array Oper)(t:T LD)(o:Oper)(kT kF:T LD->ag):ag:=(fun _=>match o.guard with
 |none=>kT t
 |some (j,want)=>match(ops[j]?).bind (·.dst)with
  |some i=>match t.get (eB i)with
   |some (.g d)=>match want with
    |true=>brD d (t.setQ (some (.g (.bool true))) (eB i) kT) (t.setQ (some (.g (.bool false))) (eB i) kF)
    |false=>brD d (t.setQ (some (.g (.bool true))) (eB i) kF) (t.setQ (some (.g (.bool false))) (eB i) kT)
   |some .u=>kF t
   |_=>none
  |none=>none) kx
abbrev om:=FuncId->List D->Option eH->DH->ag
abbrev Es:=T LD->LS->List pG->Option eH->DH->ag
def notRnd(up:Option eH)(r:ag):ag:=(fun _=>match up with
 |some (.round _)=>none
 |_=>r) kx
def ll(d:Option Tmp)(t:T LD)(L:LS)(ds:List pG)(H:DH)(k:Es):Option eH->ag
 |some (.round _)=>(fun _=>none) kx
 |some (.panicking (⟨v,false⟩::older))=>jz t d (.g v) fun t=>k t L ds (some (.panicking (⟨v,true⟩::older))) H
 |some m=>jz t d (.g .nilIface) fun t=>k t L ds (some m) H
 |none=>none
def Fi(an:gJ)(rec:om)(d:Option Tmp)(t:T LD)(ds:List pG)(up:Option eH)(k:Es)(kp:List fo->Es):xO->ag
 |.val x L H=>(fun _=>qL an.hooks d x H fun x H=>jz t d x fun t=>k t L ds up H) kx
 |.skip L H=>jz t d .u fun t=>k t L ds up H
 |.enter f args L H=>dP (rec f args none H) (fun x H=>qL an.hooks d (.g x) H fun x H=>jz t d x fun t=>k t L ds up H) fun c H=>kp c t L ds up H
 |.defer df L H=>notRnd up (jz t d .u fun t=>k t L (.call df::ds) up H)
 |.recover L H=>ll d t L ds H k up
 |.panic v L H=>kp [⟨v,false⟩] t L ds up H
 |.round o args L H=>dP (rec 0 args (some (.round o)) H) (fun x H=>qL an.hooks d (.g x) H fun x H=>jz t d x fun t=>k t L ds up H) fun c H=>kp c t L ds up H
def nJ(E:cw)(an:gJ)(ops:Array Oper)(rec:om):List Oper->Es->(List fo->Es)->Es
 |[],k,_,t,L,ds,up,H=>k t L ds up H
 |o::r,k,kp,t,L,ds,up,H=>uN ops t o
  (fun t=>jB o.op E (oG an o.dst) t L H fun t x=>Fi an rec o.dst t ds up (nJ E an ops rec r k kp) kp x)
  (fun t=>jz t o.dst .u fun t=>nJ E an ops rec r k kp t L ds up H)
def sQ(bs:T Nat)(i:Nat):Nat:=match bs.get (eB i)with
 |some b=>b
 |none=>0
def fl(bs:T Nat):List Tmp->Nat
 |[]=>0
 |i::r=>Nat.max (sQ bs i) (fl bs r)
def KY{β:Type}(bs:T Nat)(d:Option Tmp)(n:Nat)(κ:T Nat->β):β:=(fun _=>match d with
 |some i=>bs.setQ (some n) (eB i) κ
 |none=>κ bs) kx
def eX(L:LS):List (LS×DH)->LS
 |[]=>L
 |(M,_)::r=>eX (meet L M) r
 where meet:LS->LS->LS
  |(a,cs)::l,(b,_)::m=>bif Nat.beq a b then(a,cs)::meet l m else(a,[])::meet l m
  |(a,_)::l,[]=>(a,[])::meet l []
  |[],_=>[]
def oS(κ:T LD->LD->LS->DH->ag)(t:T LD):xO->ag
 |.val x L H=>(fun _=>κ t x L H) kx
 |_=>none
def sD(an:gJ)(d:Option Tmp):Bool:=match an.hooks with
 |[]=>false
 |l=>match d with
  |some i=>(HC l i).isSome
  |none=>false
def CW(r:List DH)(o:Nat):DB->DB
 |.cells st cs=>open Classical in if ∀ H2∈r,H2[o]? = some (.cells st cs)then .cells st cs else .dead
 |_=>.dead
def Jl(r:List DH):Nat->DH->DH
 |_,[]=>[]
 |i,b::t=>CW r i b::Jl r (i+1) t
def cH(H:DH)(r:List DH):DH:=Jl r 0 H
def JR(H:DH):D->Bool
 |.nilx=>true
 |.buf _ o n=>match H[o]? with
  |some (.buf _ _ _ l)=>Nat.beq n l.length&&Nat.blt 0 n
  |_=>false
 |_=>false
def EW(P:Program)(ty:TypeId)(H:DH)(r:List DH)(o n i c:Nat)(κ:D->ag):ag:=gF H o n fun sz st cap l=>eP l i fun cs=>cN P ty cs c fun d=>open Classical in if(∀ H2∈r,H2[o]? = some (.buf sz st cap l))/\∀ H2∈H::r,JR H2 d=true then κ d else none
def Ox(P:Program)(ty:TypeId)(d:D)(H:DH)(r:List DH)(κ:D->ag):ag:=match d with
 |.bptr o n i c=>EW P ty H r o n i c κ
 |d=>eZ P ty d (cH H r) κ
def Th(P:Program)(ty:TypeId)(p:D)(H:DH)(r:List DH)(κ:D->ag):ag:=open Classical in if ∃ d,∀ H2∈H::r,JR H2 d=true/\∀ κ':D->ag,eZ P ty p H2 κ'=κ' d then eZ P ty p H κ else none
def ph(P:Program)(ty:TypeId)(x:LD)(L:LS)(H:DH)(r:List DH)(κ:D->ag):ag:=(fun _=>match x with
 |.g d=>Ox P ty d H r κ
 |x=>jF P ty x L (cH H r) κ) kx
def KV(op:Op)(a:TypeId->Operand->ag)(b:ag):ag:=(fun _=>match op with
 |.load ty x=>a ty x
 |_=>b) kx
def vt(E:cw)(o:Oper)(hist:List (LS×DH))(t:T LD)(κ:T LD->LD->ag):ag:=match hist with
 |[]=>none
 |(L,H)::r=>match r with
  |[]=>jB o.op E false t L H fun t x=>oS (fun t x _ _=>κ t x) t x
  |_::_=>KV o.op (fun ty x=>lD (gq t x) fun x=>ph E.E.P ty x (eX L r) H (r.map (·.2)) fun d=>κ t (.g d)) (jB o.op E false t (eX L r) (cH H (r.map (·.2))) fun t x=>oS (fun t x _ _=>κ t x) t x)
def vq(E:cw)(o:Oper)(hist:List (LS×DH))(t:T LD)(κ:T LD->LD->ag):ag:=match hist with
 |[]=>none
 |(_,H)::r=>match o.op with
  |.load ty x=>lD (gq t x) fun x=>match x with
   |.g p=>Th E.E.P ty p H (r.map (·.2)) fun d=>κ t (.g d)
   |_=>none
  |_=>none
def cuts(an:gJ)(o:Oper):Bool:=match o.op with
 |.slice _ _ _ _ _=>(match oG an o.dst with|true=>true|false=>oG an (o.dst.map fun i=>i+100000))
 |_=>false
def pt(E:cw)(an:gJ)(o:Oper)(hist:List (LS×DH))(n c:Nat)(bs:T Nat)(t:T LD)(L:LS)(H:DH)(κ:T LD->LD->LS->DH->Nat->ag):Nat->ag
 |0=>(match cuts an o with
  |true=>jB o.op E (oG an o.dst) t L H fun t x=>oS (fun t x L H=>κ t x L H n) t x
  |false=>jB o.op E false t [] [] fun t x=>oS (fun t x _ _=>κ t x L H ((match sD an o.dst with|true=>(n)|false=>(fl bs (sees o))))) t x)
 |1=>(match Nat.ble (fl bs (sees o)) (n - c)&&Nat.ble c n with|true=>((match oG an o.dst with|true=>vq|false=>vt) E o (hist.take c) t fun t x=>κ t x L H ((match sD an o.dst with|true=>(n)|false=>(n - c))))|false=>(none))
 |2=>jB o.op E (oG an o.dst) t L H fun t x=>oS (fun t x L H=>κ t x L H n) t x
 |_=>none
def Bu(rec:om)(t:T LD)(κ:T LD->LD->LS->DH->ag)(kp:List fo->LS->DH->ag):xO->ag
 |.val x L H=>(fun _=>κ t x L H) kx
 |.skip L H=>κ t .u L H
 |.enter f args L H=>dP (rec f args none H) (fun x H=>κ t (.g x) L H) fun c H=>kp c L H
 |_=>none
def HP(t:T LD)(d:Option Tmp)(κ:T LD->ag):ag:=match d with
 |some d=>t.setQ none (eB d) κ
 |none=>κ t
def fU(E:cw)(an:gJ)(ops:Array Oper)(rec:om)(k:T LD->LS->DH->ag)(kp:List fo->T LD->LS->DH->ag):List (Option Nat×Nat)->List (LS×DH)->Nat->T Nat->T LD->LS->DH->ag
 |[],_,_,_,t,L,H=>k t L H
 |(c,i)::r,hist,n,bs,t,L,H=>match ops[i]? with
  |none=>none
  |some o=>match c with
   |some c=>uN ops t o
    (fun t=>pt E an o hist n c bs t L H (fun t x L H b=>qL an.hooks o.dst x H fun x H=>jz t o.dst x fun t=>KY bs o.dst b fun bs=>fU E an ops rec k kp r hist n bs t L H) (aD E.E.P o.op))
    (fun t=>jz t o.dst .u fun t=>KY bs o.dst 0 fun bs=>fU E an ops rec k kp r hist n bs t L H)
   |none=>uN ops t o
    (fun t=>jB o.op E false t L H fun t x=>Bu rec t (fun t x L H=>qL an.hooks o.dst x H fun x H=>jz t o.dst x fun t=>KY bs o.dst n fun bs=>fU E an ops rec k kp r ((L,H)::hist) (n+1) bs t L H) (fun c L H=>(match r with|[]=>(match oG an (o.dst.map fun i=>i+200000)with|true=>HP t o.dst fun t=>kp c t L H|false=>none)|_::_=>none)) x)
    (fun t=>jz t o.dst .u fun t=>KY bs o.dst 0 fun bs=>fU E an ops rec k kp r ((L,H)::hist) (n+1) bs t L H)
abbrev rF:=T LD->LS->List Item->List pG->eH->Option eH->DH->ag
def vk(H:DH)(o:Nat):ag:=match H[o]? with
 |some (.loop _ f nt t ps a b)=>some ⟨.ret (.bool true),none,H.set o (.loop true f nt t ps a b)⟩
 |_=>none
def wd(go:rF)(t:T LD)(L:LS)(ds:List pG)(up:Option eH)(H:DH):Option Code->ag
 |none=>match up with
  |some (.round o)=>vk H o
  |up=>go t L [] ds .returning up H
 |some .ret=>(fun _=>notRnd up (go t L [] ds .returning up H)) kx
 |_=>none
def Jt(H:DH)(o:Nat)(κ:DH->ag):ag:=match H[o]? with
 |some (.loop true f nt t ps a b)=>κ (H.set o (.loop false f nt t ps a b))
 |_=>none
def Gq(go:rF)(k:List Item)(t:T LD)(L:LS)(ds:List pG)(up:Option eH)(H:DH):ag:=(fun _=>match up with
 |some (.round o)=>Jt H o fun H=>go t L k ds .run up H
 |_=>none) kx
def zf(H:DH)(o:Nat)(κ:DH->ag):ag:=match H[o]? with
 |some (.loop true _ _ _ _ _ _)=>κ (H.set o .opq)
 |_=>none
def IX(d:D)(κ:FuncId->List D->List D->ag):ag:=match d with
 |.func g a b=>κ g a b
 |_=>none
def AD(f:FuncId)(nt:Nat)(go:rF)(rec:om)(k:List Item)(t:T LD)(L:LS)(ds:List pG)(up:Option eH)(H:DH)(ps:Array Tmp)(a b:Code)(d:D):ag:=(fun _=>match L with
 |[]=>IX d fun g first cap=>notRnd up (dP (rec g (first++(.yld (H.length+1)::cap)) none (H++[.coll,.loop true f nt t ps a b]))
  (fun _ H'=>zf H' (H.length+1) fun H'=>go t L k (.coll H.length::ds) .run up H') fun c H'=>go t L k (.coll H.length::ds) (.panicking c) up H')
 |_=>none) kx
def zm(go:rF)(t:T LD)(L:LS)(ds:List pG)(up:Option eH)(H:DH):Option (List Item)->ag
 |some k=>(fun _=>go t L k ds .run up H) kx
 |none=>none
def kH:Code->cw->gJ->FuncId->Func->rF->om->List Item->T LD->LS->List pG->Option eH->DH->ag
 |.ret=>fun _ _ _ _ go _ _ t L ds up H=>wd go t L ds up H (some .ret)
 |.skip=>fun _ _ _ _ go _ k t L ds up H=>go t L k ds .run up H
 |.label _=>fun _ _ _ _ go _ k t L ds up H=>go t L k ds .run up H
 |.seq a b=>fun _ _ _ _ go _ k t L ds up H=>go t L (.code a::.code b::k) ds .run up H
 |.cond c a b=>fun _ _ _ _ go _ k t L ds up H=>gD (gq t c) fun d=>brD d (KD t c true fun t=>go t L (.code a::k) ds .run up H) (KD t c false fun t=>go t L (.code b::k) ds .run up H)
 |.block id c=>fun _ _ _ _ go _ k t L ds up H=>go t L (.code c::.inBlock id::k) ds .run up H
 |.loop c=>fun _ _ _ _ go _ k t L ds up H=>go t L (.code c::.inLoop c::k) ds .run up H
 |.scope c=>fun _ _ _ _ go _ k t L ds up H=>go t L (.code c::.inScope c::k) ds .run up H
 |.exit id=>fun _ _ _ _ go _ k t L ds up H=>zm go t L ds up H (exitTo id k)
 |.goto l=>fun _ _ _ _ go _ k t L ds up H=>zm go t L ds up H (gotoIn l k)
 |.region _ ops true=>fun E an f fn go rec k t L ds up H=>(match kD ops fn.ntmps with|false=>(none)|true=>((match KE E.E.P ops with
  |some sc=>fU E an ops rec (fun t L H=>go t L k ds .run up H) (fun c t L H=>go t L k ds (.panicking c) up H) sc [(L,H)] 1 .leaf t L H
  |none=>none)))
 |.region _ ops false=>fun E an f fn go rec k t L ds up H=>(match kD ops fn.ntmps with|true=>(nJ E an ops rec ops.toList (fun t L ds up H=>go t L k ds .run up H) (fun c t L ds up H=>go t L k ds (.panicking c) up H) t L ds up H)|false=>(none))
 |.rangeFunc g ps a b=>fun _ _ f fn go rec k t L ds up H=>gD (gq t g) fun d=>AD f fn.ntmps go rec k t L ds up H ps a b d
 |_=>fun _ _ _ _ _ _ _ _ _ _ _ _=>none
def LU:Item->cw->gJ->FuncId->Func->rF->om->List Item->T LD->LS->List pG->Option eH->DH->ag
 |.code c=>(fun _=>kH c) kx
 |.inBlock _=>fun _ _ _ _ go _ k t L ds up H=>go t L k ds .run up H
 |.inScope _=>fun _ _ _ _ go _ k t L ds up H=>go t L k ds .run up H
 |.inLoop c=>fun _ _ _ _ go _ k t L ds up H=>go t L (.code c::.inLoop c::k) ds .run up H
 |.beginRound=>fun _ _ _ _ go _ k t L ds up H=>Gq go k t L ds up H
 |_=>fun _ _ _ _ _ _ _ _ _ _ _ _=>none
def GO:List Item->cw->gJ->FuncId->Func->rF->om->T LD->LS->List pG->Option eH->DH->ag
 |[]=>(fun _=>fun _ _ _ _ go _ t L ds up H=>wd go t L ds up H none) kx
 |i::k=>fun E an f fn go rec t L ds up H=>LU i E an f fn go rec k t L ds up H
def Fd(c:List fo)(a:ag)(b:List fo->ag):ag:=match c with
 |⟨_,true⟩::_=>a
 |c=>b c
def Ga(r:ag)(a:DH->ag)(b:List fo->DH->ag):ag:=match r with
 |some ⟨.ret _,some u,H⟩=>match u with
  |.returning=>a H
  |.panicking c=>Fd c (a H) fun c=>b c H
  |_=>none
 |some ⟨.pan c,some u,H⟩=>match u with
  |.returning=>b c H
  |.panicking old=>b (c++old) H
  |_=>none
 |_=>none
def pC(go:rF)(t:T LD)(L:LS)(ds:List pG)(up:Option eH)(r:ag):ag:=(fun _=>Ga r (fun H=>go t L [] ds .returning up H) fun c H=>go t L [] ds (.panicking c) up H) kx
def rg(H:DH)(o:Nat)(κ:DH->ag):ag:=match H[o]? with
 |some .coll=>κ (H.set o .opq)
 |_=>none
def mD(P:Program)(t:T LD)(L:LS)(H:DH):List ResultVar->(List D->ag)->ag
 |[],κ=>κ []
 |x::r,κ=>match x with
  |.tmp i=>gD (t.get (eB i)) fun d=>mD P t L H r fun l=>κ (d::l)
  |.cell a ty=>lD (t.get (eB a)) fun x=>jF P ty x L H fun d=>mD P t L H r fun l=>κ (d::l)
def NO:List (Nat×Nat×Hk)->List D->DH->(List D->DH->ag)->ag
 |[],l,H,κ=>κ l H
 |(i,c,h)::r,l,H,κ=>aF l i fun d=>il h c d H fun d H=>NO r (l.set i d) H κ
def Li:List D->D
 |[d]=>d
 |ds=>.tuple ds
def Lg(up:Option eH):Option eH:=match up with
 |some (.round _)=>none
 |up=>up
def iW(E:cw)(an:gJ)(fn:Func)(t:T LD)(L:LS)(up:Option eH)(H:DH):eH->ag
 |.returning=>notRnd up (mD E.E.P t L H fn.results.toList fun l=>NO an.rfz l H fun l H=>some ⟨.ret (Li l),up,H⟩)
 |.panicking c=>some ⟨.pan c,Lg up,H⟩
 |_=>none
def ir:List pG->cw->gJ->Func->rF->om->T LD->LS->eH->Option eH->DH->ag
 |.call ⟨f,cap,args⟩::ds=>fun _ _ _ go rec t L m up H=>pC go t L ds up (rec f (args++cap) (some m) H)
 |.coll o::ds=>fun _ _ _ go _ t L m up H=>rg H o fun H=>go t L [] ds m up H
 |[]=>fun E an fn _ _ t L m up H=>iW E an fn t L up H m
def sE(E:cw)(an:gJ)(f:FuncId)(fn:Func)(go:rF)(rec:om)(t:T LD)(L:LS)(todo:List Item)(ds:List pG)(m:eH)(up:Option eH)(H:DH):ag:=match m with
 |.run=>GO todo E an f fn go rec t L ds up H
 |.returning=>ir ds E an fn go rec t L .returning up H
 |.panicking c=>ir ds E an fn go rec t L (.panicking c) up H
 |.round _=>none
inductive Cd where
 |frame (f:FuncId) (fn:Func) (t:T LD) (L:LS) (todo:List Item) (ds:List pG) (m:eH) (up:Option eH)
 |call (f:FuncId) (args:List D) (up:Option eH)
abbrev bm:=Cd->DH->ag
def lF:Code->Nat
 |.region id _ _=>id
 |.seq a b=>match hasReg a with
  |true=>lF a
  |false=>lF b
 |.cond _ a b=>match hasReg a with
  |true=>lF a
  |false=>lF b
 |.block _ c=>lF c
 |.loop c=>lF c
 |.scope c=>lF c
 |_=>0
 where hasReg:Code->Bool
  |.region _ _ _=>true
  |.seq a b=>hasReg a||hasReg b
  |.cond _ a b=>hasReg a||hasReg b
  |.block _ c=>hasReg c
  |.loop c=>hasReg c
  |.scope c=>hasReg c
  |_=>false
def PS:List Item->Option Nat
 |.code c::.inLoop _::_=>some (lF c+200000)
 |.code (.region id _ _)::_=>some id
 |.code (.cond _ a b)::_=>some (lF (.seq a b)+100000)
 |_=>none
def Qc(an:gJ)(todo:List Item):Option (List Nat×List Nat):=match an.cuts with
 |[]=>none
 |l=>match PS todo with
  |some k=>HC l k
  |none=>none
def uX(t:T LD):List Nat->(List LD->ag)->ag
 |[],κ=>κ []
 |i::r,κ=>lD (t.get (eB i)) fun x=>uX t r fun l=>κ (x::l)
def PQ:List Nat->List LD->T LD->T LD
 |i::r,x::l,t=>PQ r l (T.setQ (some x) (eB i) t id)
 |_,_,t=>t
def qI(ks:List Nat):Nat->LS->LS
 |_,[]=>[]
 |i,(_,cs)::r=>(0,bif QX i ks then cs else [])::qI ks (i+1) r
def mQ:List Nat->Nat
 |[]=>0
 |k::r=>bif Nat.blt k (mQ r)then mQ r else k+1
def ze(n:Nat):List LD->Bool
 |[]=>true
 |x::r=>(match x with
  |.lp k _=>Nat.blt k n
  |_=>true)&&ze n r
def DP(an:gJ)(ih:rF)(go:rF):rF:=fun t L todo ds m up H=>match m with
 |.run=>match Qc an todo with
  |some (live,ks)=>uX t live fun xs=>(match ze (mQ ks) xs with|true=>(ih (PQ live xs .leaf) (qI ks 0 (L.take (mQ ks))) todo ds m up H)|false=>(none))
  |none=>go t L todo ds m up H
 |m=>go t L todo ds m up H
mutual
def D.bel(n:Nat):D->Prop
 |.ptr o _=>o<n
 |.bptr o _ _ _=>o<n
 |.tptr o _ _ _=>o<n
 |.buf _ o _=>o<n
 |.tb _ o _ _=>o<n
 |.map o=>o<n
 |.yld o=>o<n
 |.eptr cs _=>tX n cs
 |.row _ l=>DZ n l
 |.func _ a b=>tX n a/\tX n b
 |.iface _ d=>d.bel n
 |.agg cs=>tX n cs
 |.tuple ds=>tX n ds
 |_=>True
def tX(n:Nat):List D->Prop
 |[]=>True
 |d::r=>d.bel n/\tX n r
def DZ(n:Nat):List (List D)->Prop
 |[]=>True
 |l::r=>tX n l/\DZ n r
end
def DB.bel(n:Nat):DB->Prop
 |.dead=>True
 |.cells _ cs=>tX n cs
 |.buf _ _ _ l=>DZ n l
 |.tbuf _ _ l=>DZ n l
 |.map es=>∀ x∈es,x.1.bel n/\x.2.bel n
 |.loop _ _ _ t _ _ _=>∀ i d,t.get (eB i)=some (.g d)->d.bel n
 |.coll=>True
 |.opq=>True
def Nm.bel(n:Nat):Nm->Prop
 |.ret d=>d.bel n
 |.pan c=>∀ x∈c,x.v.bel n
def Nc(H:DH)(o:gI):Prop:=o.e.bel H.length/\o.up=none/\H.length<=o.H.length/\∀ i b,i<H.length->o.H[i]? = some b->H[i]? = some b\/b.bel H.length
def pU(H:DH)(r:ag):ag:=match r with
 |some o=>open Classical in if Nc H o then some ⟨o.e,o.up,o.H.take H.length⟩else none
 |none=>none
def gc{β:Type}:List D->Nat->T LD->(T LD->β)->β
 |[],_,t,k=>(fun _=>k t) kx
 |x::r,i,t,k=>t.setQ (some (.g x)) (eB i) fun t=>gc r (i+1) t k
def wV(E:cw)(go:FuncId->Func->rF)(f:FuncId)(args:List D)(up:Option eH)(H:DH):ag:=(fun _=>match E.E.P.funcs[f]? with
 |some fn=>match fn.body with
  |some c=>(match fn.name == "runtime.NumGoroutine" || E.vo f with|true=>(none)|false=>((match(E.ann f).trim with|true=>(pU H (gc args 0 .leaf fun t=>go f fn t [] [.code c] [] .run up H))|false=>(gc args 0 .leaf fun t=>go f fn t [] [.code c] [] .run up H))))
  |none=>none
 |none=>none) kx
def lm{β:Type}:T LD->List Tmp->List D->(T LD->β)->β
 |t,p::ps,x::xs,k=>(fun _=>t.setQ (some (.g x)) (eB p) fun t=>lm t ps xs k) kx
 |t,_,_,k=>k t
def rQ(E:cw)(go:FuncId->Func->rF)(o:Nat)(args:List D)(H:DH):ag:=(fun _=>match H[o]? with
 |some (.loop _ f nt t ps a b)=>match E.E.P.funcs[f]? with
  |some fn=>(match Nat.ble fn.ntmps nt&&Nat.beq ps.size args.length&&ps.toList.all (fun p=>Nat.blt p nt)with|true=>(lm t ps.toList args fun t=>go f fn t [] [.code a,.beginRound,.code b] [] .run (some (.round o)) H)|false=>(none))
  |none=>none
 |_=>none) kx
def Lh(E:cw)(f:FuncId)(args:List D)(H:DH)(up:Option eH)(k:ag):ag:=(fun _=>match(match up with|none=>E.orc f args H|some _=>none)with
 |some (d,H)=>some ⟨.ret d,up,H⟩
 |none=>k) kx
def HW(E:cw)(go:FuncId->Func->rF)(f:FuncId)(args:List D)(up:Option eH)(H:DH):ag:=(fun _=>match up with
 |some (.round o)=>rQ E go o args H
 |up=>Lh E f args H up (wV E go f args up H)) kx
def JQ(ih:bm)(f:FuncId)(fn:Func):rF:=(fun _=>fun t L todo ds m up H=>ih (.frame f fn t L todo ds m up) H) kx
def vp(ih:bm):om:=(fun _=>fun f args up H=>ih (.call f args up) H) kx
def pW(E:cw)(ih:bm)(go:FuncId->Func->rF):bm
 |.frame f fn t L todo ds m up,H=>sE E (E.ann f) f fn (DP (E.ann f) (JQ ih f fn) (go f fn)) (vp ih) t L todo ds m up H
 |.call f args up,H=>HW E go f args up H
def dK(E:cw):Nat->bm
 |0=>fun _ _=>none
 |n+1=>pW E (dK E n) (JQ (dK E n))
def JY(E:cw)(R:bm):Nat->bm
 |0=>R
 |n+1=>pW E R (JQ (JY E R n))
end
end Go.AI
set_option linter.all false
noncomputable section
namespace Go.AI
def Al{α:Type}(c:(α->ag)->ag):Prop:=∀ κ out,c κ=some out->∃ a,∀ κ',c κ'=κ' a
variable{α β:Type}
theorem Al.ret(a:α):Al (fun κ=>κ a):=fun _ _ _=>⟨a,fun _=>rfl⟩
theorem Al.none:Al (fun(_:α->ag)=>none):=fun _ _ h=>by cases h
theorem Al.bind{c:(α->ag)->ag}{d:α->(β->ag)->ag}(h:Al c)(k:∀ a,Al (d a)):Al (fun κ=>c fun a=>d a κ):=fun κ out e=>by
 obtain⟨a,ha⟩:=h _ out e
 obtain⟨x,hx⟩:=k a κ out ((ha _).symm.trans e)
 exact⟨x,fun _=>(ha _).trans (hx _)⟩
theorem Al.map{c:(α->ag)->ag}(h:Al c)(f:α->β):Al (fun κ=>c fun a=>κ (f a)):=h.bind fun a=>.ret (f a)
theorem Al.boK(b:Bool){c:(α->ag)->ag}(h:Al c):Al (fun κ=>boK b (c κ)):=by
 cases b
 ·exact .none
 ·exact h
theorem Al.cond(b:Bool){c d:(α->ag)->ag}(h:Al c)(k:Al d):Al (fun κ=>cond b (c κ) (d κ)):=by
 cases b
 ·exact k
 ·exact h
theorem cJ(x:Option LD):Al (gD x):=by
 cases x with
 |none=>exact .none
 |some x=>cases x<;>first|exact .ret _|exact .none
theorem nz(x:Option LD):Al (lD x):=by
 cases x with
 |none=>exact .none
 |some x=>exact .ret x
theorem ry(t:T LD):∀ l,Al (DA t l)
 |[]=>.ret []
 |x::r=>(cJ _).bind fun d=>(ry t r).map (d::·)
theorem BV(cs:List D)(c:Nat):Al (aF cs c):=by
 unfold aF
 cases cs[c]? with
 |none=>exact .none
 |some d=>exact .ret d
theorem Ec:∀ n cs c,Al (yH n cs c)
 |0,_,_=>.ret []
 |n+1,cs,c=>(BV cs c).bind fun d=>(Ec n cs (c+1)).map (d::·)
theorem od(n:Nat)(d:D):Al (ah n d):=by
 cases d<;>first|exact .none|exact Al.cond _ (.ret _) .none
theorem Ii{c:(β->ag)->Nat->List D->ag}(H:DH)(o:Nat)(h:∀ st cs,Al (fun κ=>c κ st cs)):Al (fun κ=>aG H o (c κ)):=by
 unfold aG
 split
 ·exact h _ _
 ·exact .none
theorem uG{c:(β->ag)->Nat->Bool->Bool->List (List D)->ag}(H:DH)(o n:Nat)(h:∀ sz st cap l,Al (fun κ=>c κ sz st cap l)):Al (fun κ=>gF H o n (c κ)):=by
 unfold gF
 split
 ·exact Al.cond _ (h _ _ _ _) .none
 ·exact .none
theorem Sw{c:(β->ag)->Nat->List (List D)->ag}(H:DH)(o s:Nat)(h:∀ sz l,Al (fun κ=>c κ sz l)):Al (fun κ=>JO H o s (c κ)):=by
 unfold JO
 split
 ·exact Al.cond _ (h _ _) .none
 ·exact .none
theorem BS(H:DH)(o:Nat):Al (jW H o):=by
 unfold jW
 split
 ·exact .ret _
 ·exact .none
theorem jV(n:Int):Al (dJ n):=by
 cases n
 ·exact .ret _
 ·exact .none
theorem rx(l:List (List D))(i:Nat):Al (eP l i):=by
 unfold eP
 split
 ·exact .ret _
 ·exact .none
theorem uF(cs:List D)(c:Nat)(new:List D):Al (ar cs c new):=by
 unfold ar
 split
 ·exact .ret _
 ·exact .none
theorem eg(P:Program)(ty:TypeId)(cs:List D)(c:Nat):Al (cN P ty cs c):=by
 unfold cN
 split
 ·split
  ·exact Al.cond _ ((Ec _ _ _).map _) .none
  ·exact .none
 ·exact BV _ _
 ·exact .none
theorem Gu(P:Program)(ty:TypeId)(d:D)(H:DH):Al (eZ P ty d H):=by
 cases d<;>first
  |exact .none
  |exact eg _ _ _ _
  |exact Ii _ _ fun _ _=>eg _ _ _ _
  |exact uG _ _ _ fun _ _ _ _=>(rx _ _).bind fun _=>eg _ _ _ _
  |exact Sw _ _ _ fun _ _=>(rx _ _).bind fun _=>eg _ _ _ _
theorem Eh(P:Program)(ty:TypeId)(x:LD)(L:LS)(H:DH):Al (jF P ty x L H):=by
 cases x with
 |g d=>exact Gu _ _ _ _
 |lp k c =>
  show Al (fun κ=>jF P ty (.lp k c) L H κ)
  simp only[jF]
  split
  ·grind [eg]
  ·exact .none
 |u=>exact .none
theorem Sx(d:D)(new:List D)(H:DH):Al (NI d new H):=by
 cases d<;>first
  |exact .none
  |exact Ii _ _ fun _ _=>(uF _ _ _).map _
  |exact uG _ _ _ fun _ st _ _=>Al.boK st ((rx _ _).bind fun _=>(uF _ _ _).map _)
def fJ(c:(α->β->ag)->ag):Prop:=∀ κ out,c κ=some out->∃ a b,∀ κ',c κ'=κ' a b
theorem fJ.bind{γ:Type}{c:(α->β->ag)->ag}{d:α->β->(γ->ag)->ag}(h:fJ c)(k:∀ a b,Al (d a b)):Al (fun κ=>c fun a b=>d a b κ):=fun κ out e=>by
 obtain⟨a,b,ha⟩:=h _ out e
 obtain⟨x,hx⟩:=k a b κ out ((ha _).symm.trans e)
 exact⟨x,fun _=>(ha _).trans (hx _)⟩
theorem fJ.ret(a:α)(b:β):fJ (fun κ=>κ a b):=fun _ _ _=>⟨a,b,fun _=>rfl⟩
theorem fJ.none:fJ (fun(_:α->β->ag)=>none):=fun _ _ h=>by cases h
theorem Pq(P:Program)(ty:TypeId)(H:DH)(r:List DH)(o n i c:Nat):Al (EW P ty H r o n i c):=by
 unfold EW
 refine uG _ _ _ fun sz st cap l=>(rx _ _).bind fun cs=>(eg _ _ _ _).bind fun d=>?_
 split
 ·exact .ret _
 ·exact .none
theorem Pw(P:Program)(ty:TypeId)(d:D)(H:DH)(r:List DH):Al (Ox P ty d H r):=by
 unfold Ox
 split
 ·grind [Pq]
 grind [Gu]
theorem Sy(P:Program)(ty:TypeId)(p:D)(H:DH)(r:List DH):Al (Th P ty p H r):=by
 unfold Th
 split
 ·exact Gu _ _ _ _
 ·exact .none
theorem Jw(P:Program)(ty:TypeId)(x:LD)(L:LS)(H:DH)(r:List DH):Al (ph P ty x L H r):=by
 unfold ph
 split
 ·grind [Pw]
 grind [Eh]
theorem Al.bind2{γ:Type}{c:(γ->ag)->ag}{d:γ->(α->β->ag)->ag}(h:Al c)(k:∀ a,fJ (d a)):fJ (fun κ=>c fun a=>d a κ):=fun κ out e=>by
 obtain⟨a,ha⟩:=h _ out e
 obtain⟨x,y,hx⟩:=k a κ out ((ha _).symm.trans e)
 exact⟨x,y,fun _=>(ha _).trans (hx _)⟩
theorem fJ.boK(b:Bool){c:(α->β->ag)->ag}(h:fJ c):fJ (fun κ=>Go.AI.boK b (c κ)):=by
 cases b
 ·exact .none
 ·exact h
theorem fJ.cond(b:Bool){c d:(α->β->ag)->ag}(h:fJ c)(k:fJ d):fJ (fun κ=>cond b (c κ) (d κ)):=by
 cases b
 ·exact k
 ·exact h
theorem nD{γ:Type}{c:(γ->β->ag)->Nat->Bool->Bool->List (List D)->ag}(H:DH)(o n:Nat)(h:∀ sz st cap l,fJ (fun κ=>c κ sz st cap l)):fJ (fun κ=>gF H o n (c κ)):=by
 unfold gF
 split
 ·exact fJ.cond _ (h _ _ _ _) .none
 ·exact .none
theorem Il{γ:Type}{c:(γ->β->ag)->Nat->List (List D)->ag}(H:DH)(o s:Nat)(h:∀ sz l,fJ (fun κ=>c κ sz l)):fJ (fun κ=>JO H o s (c κ)):=by
 unfold JO
 split
 ·exact fJ.cond _ (h _ _) .none
 ·exact .none
theorem Ju(P:Program)(ty:TypeId)(x:LD)(v:D)(L:LS)(H:DH):fJ (uU P ty x v L H):=by
 unfold uU
 split
 ·dsimp only
  split
  ·exact .none
  refine(od _ _).bind2 fun new=>?_
  cases x with
  |g d=>exact(Sx _ _ _).bind2 fun H=>.ret L H
  |lp k c =>
   simp only
   split
   ·exact(uF _ _ _).bind2 fun _=>.ret _ _
   ·exact .none
  |u=>exact .none
 ·exact .none
theorem xE(place:Nat->Option (Nat×Nat))(t:T LD):∀ l cs,Al (zE place t l cs)
 |[],cs=>.ret cs
 |(i,x)::r,cs=>by
  refine(cJ _).bind fun d=>?_
  split
  ·exact .none
  ·exact Al.cond _ ((od _ _).bind fun _=>(uF _ _ _).bind fun _=>xE place t r _) .none
theorem zV(P:Program)(t:T LD)(ty:TypeId)(parts:List (Nat×Operand))(z:Option D):Al (pD P t ty parts z):=by
 unfold pD
 split
 ·split
  ·exact Al.cond _ ((xE _ _ _ _).map _) .none
  ·split
   ·exact(xE _ _ _ _).map _
   ·exact .none
  ·exact .none
 ·exact .none
theorem JE(P:Program)(t:T LD)(ty:TypeId)(parts:List (Nat×Operand)):Al (Gn P t ty parts):=zV _ _ _ _ _
theorem tL(t:T LD)(n len:Nat):∀ l cs,Al (mB t n len l cs)
 |[],cs=>.ret cs
 |(i,x)::r,cs=>(cJ _).bind fun d=>Al.cond _ ((od _ _).bind fun _=>tL t n len r _) .none
theorem xF(P:Program)(t:T LD)(ty:TypeId)(len:Nat)(parts:List (Nat×Operand)):Al (hJ P t ty len parts):=by
 unfold hJ
 split
 ·split
  ·split
   ·exact Al.cond _ ((tL _ _ _ _ _).map _) .none
   ·exact .none
  ·exact .none
 ·exact .none
theorem PD(x:LD):Al (Pf x):=by
 cases x with
 |g d=>cases d<;>first|exact .none|exact .ret _
 |lp k c=>exact .ret _
 |u=>exact .none
theorem Py(op:BinOp)(k:IntKind)(a b:Int):Al (Rr op k a b):=by
 cases op<;>first|exact .none|exact .ret _|exact Al.boK _ (.ret _)
theorem Pp(op:BinOp)(a b:List Nat):Al (Qt op a b):=by
 cases op<;>first|exact .none|exact .ret _|exact Al.boK _ (.ret _)
theorem Ik(P:Program){eq:TypeId->D->D->(Bool->ag)->ag}(h:∀ t x y,Al (eq t x y)):∀ fs xs ys q,Al (Mt P eq fs xs ys q)
 |[],_,_,q=>.ret q
 |f::r,xs,ys,q=>Al.cond _ .none ((eg _ _ _ _).bind fun a=>(eg _ _ _ _).bind fun b=>(h _ a b).bind fun p=>Ik P h r xs ys _)
theorem BU(P:Program):∀ d t x y,Al (Jf P d t x y)
 |0,_,_,_=>.none
 |d+1,t,x,y=>by
  show Al (fun κ=>Jf P (d+1) t x y κ)
  simp only[Jf]
  split
  ·split
   ·exact Al.cond _ .none (Ik P (BU P d) _ _ _ _)
   ·exact .none
  all_goals first
   |exact .none
   |(split<;>first|exact .ret _|exact .none|exact Al.cond _ (.ret _) .none)
theorem Pr(op:BinOp)(x:D):Al (IJ op x):=by
 unfold IJ
 refine Al.cond _ ?_ .none
 split
 ·exact .ret _
 ·rename_i l;cases l<;>exact .ret _
 ·rename_i n;cases n<;>exact .ret _
 ·exact .none
theorem uH(P:Program)(op:BinOp)(t:TypeId)(c:Bool)(x y:D):Al (ay P op t c x y):=by
 unfold ay
 split
 ·exact Al.cond _ .none (Al.cond _ (Py _ _ _ _) .none)
 ·exact Pp _ _ _
 ·refine Al.cond _ ?_ .none
  split
  ·exact(BU _ _ _ _ _).map _
  ·exact(BU _ _ _ _ _).map _
  ·exact .none
theorem Ig(P:Program)(t:TypeId)(c:Bool)(op:BinOp)(x y:D)(H:DH)(q:Bool->Bool):Al (Fa P t c op x y H q):=by
 unfold Fa
 split
 ·split
  ·split
   ·exact Al.cond _ (.ret _) .none
   ·exact uH _ _ _ _ _ _
  ·exact uH _ _ _ _ _ _
 ·exact uH _ _ _ _ _ _
theorem PE(P:Program)(op:BinOp)(t:TypeId)(c:Bool)(x y:D)(H:DH):Al (xA P op t c x y H):=by
 unfold xA
 split
 ·exact Ig _ _ _ _ _ _ _ _
 ·exact Ig _ _ _ _ _ _ _ _
 ·exact uH _ _ _ _ _ _
theorem Su(op:UnOp)(x:D):Al (rI op x):=by
 unfold rI
 split
 ·split<;>first|exact .ret _|exact .none
 ·split<;>first|exact .ret _|exact .none
 ·exact .none
theorem MV(P:Program)(src dst:TypeId)(x:D):Al (oO P src dst x):=by
 unfold oO
 refine Al.cond _ .none ?_
 split
 ·split<;>first|exact .ret _|exact .none
 ·split<;>first|exact .ret _|exact .none
 ·exact .none
theorem Ps(P:Program)(el:TypeId)(n:Nat):fJ (Ly P el n):=by
 unfold Ly
 split
 ·split
  ·exact fJ.cond _ (fJ.boK _ (.ret _ _)) .none
  ·exact .none
 ·exact .none
theorem iI(o:Option D)(d:Nat):Al (sR o d):=by
 unfold sR
 split
 ·exact jV _
 ·exact .none
 ·exact .ret _
theorem BT(t:T LD)(x:Option Operand):Al (Je t x):=by
 cases x with
 |none=>exact .ret _
 |some x=>exact(cJ _).map _
theorem Ed(sz:Nat)(l:List (List D))(lo hi:Option D):Al (Cs sz l lo hi) :=
 (iI _ _).bind fun _=>(iI _ _).bind fun _=>Al.boK _ (.ret _)
theorem Jv(P:Program)(t:TypeId)(x:D)(lo hi mx:Option D)(H:DH):fJ (cy P t x lo hi mx H):=by
 unfold cy
 split
 ·split
  ·split
   ·exact(iI _ _).bind2 fun _=>(iI _ _).bind2 fun _=>fJ.boK _ (.ret _ _)
   ·exact .none
  ·exact .none
 ·split
  ·split
   ·split
    ·exact fJ.cond _ ((Ed _ _ _ _).bind2 fun _=>.ret _ _) .none
    ·exact nD _ _ _ fun _ _ _ _=>fJ.boK _ ((Ed _ _ _ _).bind2 fun _=>.ret _ _)
    ·exact(iI _ _).bind2 fun _=>(iI _ _).bind2 fun _=>fJ.boK _ (.ret _ _)
    ·exact .none
   ·refine(iI _ _).bind2 fun _=>(iI _ _).bind2 fun _=>(iI _ _).bind2 fun _=>fJ.cond _ ?_ .none
    split
    ·exact fJ.cond _ (.ret _ _) .none
    ·exact nD _ _ _ fun _ _ _ _=>fJ.boK _ (.ret _ _)
    ·exact .ret _ _
    ·exact .none
  ·exact .none
 ·exact .none
theorem Sv(P:Program)(t:TypeId)(x:D)(lo hi mx:Option D)(H:DH):fJ (Qp P t x lo hi mx H):=by
 unfold Qp
 split
 ·split
  ·split
   ·split
    ·split
     ·refine(jV _).bind2 fun _=>?_
      split
      ·exact fJ.cond _ (nD _ _ _ fun _ _ _ _=>fJ.boK _ (.ret _ _)) .none
      ·exact fJ.cond _ (Il _ _ _ fun _ _=>fJ.boK _ (.ret _ _)) .none
      ·exact .none
     ·exact .none
    ·exact .none
   ·exact .none
  ·exact .none
 ·exact .none
theorem PA(x:LD)(off:Nat):Al (OM x off):=by
 cases x with
 |g d=>cases d<;>first|exact .none|exact .ret _
 |lp k c=>exact .ret _
 |u=>exact .none
theorem JB(P:Program)(ty:TypeId)(x:LD)(f:Nat):Al (wF P ty x f):=by
 unfold wF
 split
 ·split
  ·exact Al.cond _ .none (PA _ _)
  ·exact .none
 ·exact .none
theorem JA(P:Program)(ty:TypeId)(x:D)(f:Nat):Al (wD P ty x f):=by
 unfold wD
 split
 ·split
  ·split
   ·exact eg _ _ _ _
   ·exact .none
  ·exact .none
 ·exact .none
theorem Px(x:D)(sz:Nat)(i:Int):Al (FC x sz i):=by
 unfold FC
 split
 ·exact Al.cond _ ((jV _).bind fun _=>(rx _ _).map _) .none
 ·exact Al.cond _ ((jV _).bind fun _=>Al.boK _ (.ret _)) .none
 ·exact Al.cond _ ((jV _).bind fun _=>Al.boK _ (.ret _)) .none
 ·exact .none
theorem Jy(P:Program)(ty:TypeId)(x i:D):Al (cE P ty x i):=by
 unfold cE
 split
 ·split
  ·split
   ·exact Px _ _ _
   ·exact .none
  ·exact .none
 ·exact .none
theorem MW(l:List Nat)(i:Nat):Al (eE l i):=by
 unfold eE
 split
 ·exact .ret _
 ·exact .none
theorem Jx(P:Program)(ty:TypeId)(x i:D):Al (ja P ty x i):=by
 unfold ja
 split
 ·split
  ·split
   ·exact(jV _).bind fun _=>MW _ _
   ·exact .none
  ·exact .none
 ·split
  ·split
   ·split
    ·exact(jV _).bind fun _=>Al.cond _ (eg _ _ _ _) .none
    ·exact .none
   ·exact .none
  ·exact .none
 ·exact .none
theorem Eg(k:D)(es:List (D×D)):Al (gR k es):=by
 unfold gR
 split
 ·exact .ret _
 ·exact .none
theorem Ef(k v:D)(es:List (D×D)):Al (gQ k v es):=by
 unfold gQ
 split
 ·exact .ret _
 ·exact .none
theorem sV(P:Program)(el:TypeId)(ok:Bool)(o:Option D):Al (dL P el ok o):=by
 unfold dL
 split
 ·exact .ret _
 ·split
  ·exact .ret _
  ·exact .none
theorem MU(P:Program)(ty:TypeId)(m k:D)(ok:Bool)(H:DH):Al (eR P ty m k ok H):=by
 unfold eR
 split
 ·split
  ·refine Al.cond _ ((BS _ _).bind fun _=>?_) .none
   split
   ·exact Al.cond _ ((Eg _ _).bind fun _=>sV _ _ _ _) .none
   ·exact(Eg _ _).bind fun _=>sV _ _ _ _
  ·grind [sV]
  ·exact .none
 ·exact .none
theorem Ee(P:Program)(ty:TypeId)(m k v:D)(H:DH):Al (fM P ty m k v H):=by
 unfold fM
 split
 ·split
  ·refine Al.cond _ ((BS _ _).bind fun _=>?_) .none
   split
   ·exact Al.cond _ ((Ef _ _ _).map _) .none
   ·exact(Ef _ _ _).map _
  ·exact .none
 ·exact .none
theorem Gv(P:Program)(x:D)(ty:TypeId)(ok:Bool):Al (lS P x ty ok):=by
 unfold lS
 split
 ·exact .none
 ·split
  ·refine Al.cond _ (.ret _) (Al.cond _ ?_ .none)
   split<;>first|exact .ret _|exact .none
  ·refine Al.cond _ ?_ .none
   split<;>first|exact .ret _|exact .none
  ·exact .none
 ·exact .none
theorem PB(x:D)(i:Nat):Al (cO x i):=by
 unfold cO
 split
 ·exact BV _ _
 ·exact .none
theorem PC(y:D)(H:DH)(sz:Nat):Al (Mw y H sz):=by
 unfold Mw
 split
 ·exact Al.cond _ (.ret _) .none
 ·exact .ret _
 ·exact .ret _
 ·exact Al.cond _ (uG _ _ _ fun _ _ _ _=>.ret _) .none
 ·exact .none
theorem Pz(o sz:Nat)(st cap:Bool)(l els:List (List D))(H:DH):fJ (grow o sz st cap l els H):=by
 unfold grow
 exact fJ.cond _ (.ret _ _) (.ret _ _)
theorem PF(ok:Nat->Bool)(sz:Nat)(x:D)(els:List (List D))(H:DH):fJ (eG ok sz x els H):=by
 unfold eG
 refine fJ.boK _ ?_
 split
 ·split
  ·exact .ret _ _
  ·exact .ret _ _
 ·split
  ·exact .ret _ _
  ·exact .ret _ _
 ·exact fJ.cond _ (nD _ _ _ fun _ _ _ _=>fJ.boK _ (Pz _ _ _ _ _ _ _)) .none
 ·exact fJ.cond _ (Il _ _ _ fun _ _=>fJ.boK _ (.ret _ _)) .none
 ·exact .none
theorem Gw(P:Program)(sT xT:TypeId)(x y:D)(H:DH):fJ (rp P sT xT x y H):=by
 unfold rp
 split
 ·dsimp only
  split
  ·exact .none
  split
  ·split
   ·exact(PC _ _ _).bind2 fun _=>PF _ _ _ _ _
   ·exact .none
  ·exact .none
 ·exact .none
theorem Pu(P:Program)(t:TypeId)(x:D)(H:DH):Al (eC P t x H):=by
 unfold eC
 split
 ·split<;>first|exact .ret _|exact .none
 ·split<;>first|exact .ret _|exact .none
 ·split
  ·exact(BS _ _).map _
  ·exact .ret _
  ·exact .none
 ·exact .none
theorem Pt(g:Bool)(x y:D):Al (LB g x y):=by
 unfold LB
 split
 ·split
  ·exact Al.cond _ (.ret _) .none
  ·exact .none
 ·exact .none
theorem xD(g:Bool):∀ l x,Al (zd g x l)
 |[],x=>.ret x
 |y::r,x=>(Pt g x y).bind fun z=>xD g r z
theorem Ij(esc:Bool)(cs:List D)(L:LS)(H:DH):Al (IK esc cs L H):=by
 unfold IK
 exact Al.cond _ (.ret _) (.ret _)
theorem JC(E:cV)(L:LS)(H:DH)(args:List D)(f:D):Al (BH E L H args f):=by
 unfold BH
 split
 ·exact Al.cond _ (.ret _) .none
 ·exact .none
theorem MT(L:LS)(H:DH)(args:List D)(f:D):Al (GD L H args f):=by
 unfold GD
 split
 ·exact .ret _
 ·exact .none
theorem JD(P:Program)(b:Builtin)(ts:Array TypeId)(args:List D)(L:LS)(H:DH):Al (lR P b ts args L H):=by
 unfold lR
 split
 ·split
  ·split
   ·split
    ·exact(Gw _ _ _ _ _ _).bind fun _ _=>.ret _
    ·exact .none
   ·exact .none
  ·exact .none
 ·split
  ·split
   ·exact(Pu _ _ _ _).map _
   ·exact .none
  ·exact .none
 ·split
  ·exact(xD _ _ _).map _
  ·exact .none
 ·split
  ·exact(xD _ _ _).map _
  ·exact .none
 ·exact .ret _
 ·split
  ·exact .ret _
  ·exact .none
 ·exact .none
def GS(t:T LD)(o:Operand)(b:Bool):T LD:=match o with
 |.tmp i=>T.set (some (.g (.bool b))) (eB i) t
 |_=>t
theorem qa(t:T LD)(o:Operand)(b:Bool)(κ:T LD->ag):KD t o b κ=κ (GS t o b):=by
 cases o<;>first|rfl|exact T.setQ_eq _ _ _ _
theorem sU(o:Op)(E:cw)(esc:Bool)(t:T LD)(L:LS)(H:DH):fJ (jB o E esc t L H):=by
 have r:∀(x:xO),fJ (fun(κ:T LD->xO->ag)=>κ t x):=fun x=>.ret t x
 show fJ (fun κ=>jB o E esc t L H κ)
 cases o with
 |move x=>exact(nz _).bind2 fun _=>r _
 |assign x=>exact(nz _).bind2 fun _=>r _
 |pick c a b =>
  refine(cJ _).bind2 fun d=>?_
  cases d<;>first|exact .none|skip
  rename_i q
  simp only[qa]
  cases q
  ·exact(nz _).bind2 fun _=>.ret _ _
  ·exact(nz _).bind2 fun _=>.ret _ _
 |alloc elem =>
  simp only[jB]
  split
  ·exact(Ij _ _ _ _).bind2 fun x=>r x
  ·exact .none
 |box elem x =>
  simp only[jB]
  split
  ·exact(cJ _).bind2 fun d=>(od _ _).bind2 fun cs=>(Ij _ _ _ _).bind2 fun x=>r x
  ·exact .none
 |build ty parts =>
  simp only[jB]
  cases esc
  ·exact(JE _ _ _ _).bind2 fun _=>r _
  ·exact(zV _ _ _ _ _).bind2 fun _=>r _
 |buildSlice ty len parts=>simp only[jB];exact(xF _ _ _ _ _).bind2 fun _=>r _
 |load ty x=>exact(nz _).bind2 fun _=>(Eh _ _ _ _ _).bind2 fun _=>r _
 |store ty x y=>exact(nz _).bind2 fun _=>(cJ _).bind2 fun _=>fun κ out e=>(by
  obtain⟨a,b,h⟩:=Ju _ _ _ _ _ _ _ _ e
  exact⟨t,.skip a b,fun κ'=>h _⟩)
 |nilCheck x=>exact(nz _).bind2 fun _=>(PD _).bind2 fun _=>r _
 |binOp op ty x y _ =>
  simp only[jB]
  refine(cJ _).bind2 fun _=>(cJ _).bind2 fun _=>?_
  cases po y with
  |false=>exact(PE _ _ _ _ _ _ _).bind2 fun _=>r _
  |true =>
   dsimp only
   split
   ·exact(Pr _ _).bind2 fun _=>r _
   ·exact .none
 |unOp op _ x=>exact(cJ _).bind2 fun _=>(Su _ _).bind2 fun _=>r _
 |convert _ dst x=>exact(cJ _).bind2 fun _=>(MV _ _ _ _).bind2 fun _=>r _
 |makeInterface ty x =>
  refine(cJ _).bind2 fun a=>?_
  split
  ·exact .none
  ·exact r _
  ·exact .none
 |makeFunc fn first cap =>
  simp only[jB]
  split
  ·exact(ry _ _).bind2 fun _=>(ry _ _).bind2 fun _=>r _
  ·exact .none
 |makeMap ty n=>cases n<;>first|exact r _|exact .none
 |makeSlice ty l c =>
  simp only[jB]
  split
  ·split
   ·split
    ·split
     ·exact .none
     refine(cJ _).bind2 fun d=>?_
     split
     ·exact(jV _).bind2 fun n=>fun κ out e=>(by
       obtain⟨a,b,h⟩:=Ps _ _ _ _ _ e
       exact⟨t,_,fun κ'=>h _⟩)
     ·exact .none
    ·exact .none
   ·exact .none
  ·exact .none
 |slice ty x lo hi mx=>exact(cJ _).bind2 fun _=>(BT _ _).bind2 fun _=>(BT _ _).bind2 fun _=>(BT _ _).bind2 fun _=>fun κ out e=>(by
  cases esc
  ·obtain⟨a,b,h⟩:=Jv _ _ _ _ _ _ _ _ _ e
   exact⟨t,_,fun κ'=>h _⟩
  ·obtain⟨a,b,h⟩:=Sv _ _ _ _ _ _ _ _ _ e
   exact⟨t,_,fun κ'=>h _⟩)
 |fieldAddr ty x f=>exact(nz _).bind2 fun _=>(JB _ _ _ _).bind2 fun _=>r _
 |field ty x f=>exact(cJ _).bind2 fun _=>(JA _ _ _ _).bind2 fun _=>r _
 |indexAddr ty x i=>exact(cJ _).bind2 fun _=>(cJ _).bind2 fun _=>(Jy _ _ _ _).bind2 fun _=>r _
 |index ty x i=>exact(cJ _).bind2 fun _=>(cJ _).bind2 fun _=>(Jx _ _ _ _).bind2 fun _=>r _
 |lookup ty x k ok=>exact(cJ _).bind2 fun _=>(cJ _).bind2 fun _=>(MU _ _ _ _ _ _).bind2 fun _=>r _
 |mapUpdate ty m k x=>exact(cJ _).bind2 fun _=>(cJ _).bind2 fun _=>(cJ _).bind2 fun _=>(Ee _ _ _ _ _ _).bind2 fun _=>r _
 |insert ty m k x=>exact(cJ _).bind2 fun _=>(cJ _).bind2 fun _=>(cJ _).bind2 fun _=>(Ee _ _ _ _ _ _).bind2 fun _=>r _
 |typeAssert x _ ty ok=>exact(cJ _).bind2 fun _=>(Gv _ _ _ _).bind2 fun _=>r _
 |extract x i=>exact(cJ _).bind2 fun _=>(PB _ _).bind2 fun _=>r _
 |call c =>
  simp only[jB]
  refine(ry _ _).bind2 fun args=>?_
  split
  ·exact(JD _ _ _ _ _ _).bind2 fun x=>r x
  ·refine(cJ _).bind2 fun f=>?_
   cases esc
   ·exact(JC _ _ _ _ _).bind2 fun x=>r x
   ·exact(MT _ _ _ _).bind2 fun x=>r x
  ·exact .none
 |defer c =>
  simp only[jB]
  refine(ry _ _).bind2 fun args=>?_
  split
  ·refine(cJ _).bind2 fun f=>?_
   split
   ·exact fJ.cond _ (r _) .none
   ·exact .none
  ·exact .none
 |panic x =>
  simp only[jB]
  refine(cJ _).bind2 fun x=>?_
  split
  ·exact r _
  ·exact .none
 |_=>exact .none
theorem Ei(h:Hk)(d:D)(H:DH):fJ (fN h d H):=by
 unfold fN
 split
 ·split
  ·exact nD _ _ _ fun _ _ _ _=>fJ.boK _ (.ret _ _)
  ·exact .ret _ _
  ·exact .ret _ _
  ·exact .ret _ _
  ·exact .none
 ·split
  ·exact fJ.cond _ (.ret _ _) .none
  ·exact .ret _ _
  ·exact .none
theorem Jz(h:Hk)(c:Nat)(d:D)(H:DH):fJ (il h c d H):=by
 unfold il
 split
 ·refine(BV _ _).bind2 fun x=>fun κ out e=>?_
  obtain⟨a,b,k⟩:=Ei _ _ _ _ _ e
  exact⟨_,_,fun κ'=>k _⟩
 ·exact fJ.cond _ (Ei _ _ _) .none
theorem fJ.bind2{γ δ:Type}{c:(α->β->ag)->ag}{d:α->β->(γ->δ->ag)->ag}(h:fJ c)(k:∀ a b,fJ (d a b)):fJ (fun κ=>c fun a b=>d a b κ):=fun κ out e=>by
 obtain⟨a,b,ha⟩:=h _ out e
 obtain⟨x,y,hx⟩:=k a b κ out ((ha _).symm.trans e)
 exact⟨x,y,fun _=>(ha _).trans (hx _)⟩
theorem zU:∀ l d H,fJ (wq l d H)
 |[],d,H=>.ret d H
 |(c,h)::r,d,H=>(Jz h c d H).bind2 fun d H=>zU r d H
theorem nC(hs:List (Nat×List (Nat×Hk)))(dst:Option Tmp)(x:LD)(H:DH):fJ (qL hs dst x H):=by
 unfold qL
 split
 ·exact .ret _ _
 ·split
  ·exact .ret _ _
  ·split
   ·exact .ret _ _
   ·split
    ·exact(zU _ _ _).bind2 fun _ _=>.ret _ _
    ·exact .none
end Go.AI
set_option linter.all false
noncomputable section
namespace Go.AI
theorem FD(x:V)(r:List V)(i:Nat)(t:T V):jJ (x::r) i t id=jJ r (i+1) (putD t (some i) x) id:=by
 simp only[jJ,T.setK_eq];rfl
theorem Dg(t:T V)(d i:Nat)(v:V):(putD t (some d) v).get (eB i)=if d=i then some v else t.get (eB i):=by
 rw[Dh];simp
theorem gB(P:Program)(s:S)(ty:TypeId)(a:Ad):im P s ty (some (.ptr a))=bp s (loadVar P s ty a):=rfl
theorem tH(P:Program)(s:S)(ty:TypeId)(a:Ad)(v:V):qR P s ty (some (.ptr a)) (some v)=Fh (storeVar P s ty a v):=rfl
end Go.AI
set_option linter.all false
noncomputable section
namespace Go.AI
def WF(s:S):Prop:=∀ f B,s.get f=some B->f<s.next
structure Fw(F:List Nat)(s s':S):Prop where
 keep:∀ g B,g∉F->s.get g=some B->s'.get g=some B
 ro:∀ g vs,s.get g=some (.ro vs)->s'.get g=some (.ro vs)
 next:s.next<=s'.next
 wf:WF s->WF s'
theorem Fw.alloc(F:List Nat){s:S}(hw:WF s)(B:dG):Fw F s (s.alloc B):=by
 refine⟨fun g C _ hg=>?_,fun g vs hg=>?_,by rw[S.next_alloc];omega,fun _ g C hg=>?_⟩
 ·rw[S.get_alloc,if_neg (by have:=hw g C hg;omega)];exact hg
 ·rw[S.get_alloc,if_neg (by have:=hw g _ hg;omega)];exact hg
 ·rw[S.get_alloc]at hg
  rw[S.next_alloc]
  split at hg
  ·omega
  ·have:=hw g C hg;omega
section
variable{s:S}{f:Nat}{e:TypeId}{sb:Bool}{nv:Nat}{cs:List V}
theorem oj(c:Nat):Nat.ble 0 c=true:=Nat.ble_eq_true_of_le (Nat.zero_le c)
theorem WE(h:s.get f=some (.cells e sb nv [⟨0,0,cs⟩]))(c n:Nat):loadCells s ⟨f,0,c⟩ n=aN n (cs.drop c):=by
 simp_all[loadCells,bj,oj]
theorem Kw(h:s.get f=some (.cells e sb nv [⟨0,0,cs⟩]))(c:Nat)(new:List V)(h1:new.all V.one=true){cs':List V}(h2:bU cs c new=some cs'):storeCells s ⟨f,0,c⟩ new=some (s.put f (.cells e sb nv [⟨0,0,cs'⟩])):=by
 unfold storeCells;rw[h];simp[bj,h1,h2,oj]
end
theorem gd(s:S)(B:dG):(s.alloc B).get s.next=some B:=by rw[S.get_alloc,if_pos rfl]
theorem GE(n:Int)(h:-9223372036854775808<=n/\n<=9223372036854775807):IntKind.i64.wrap n=n:=IntWalk.i64_in n h
theorem cT:∀(l:List V) (n:Nat),l.length=n->aN n l=some l
 |[],0,_=>rfl
 |[],_+1,h=>by simp at h
 |_::_,0,h=>by simp at h
 |x::l,n+1,h=>by simp[aN,cT l n (by simpa using h)]
end Go.AI
set_option linter.all false
noncomputable section
namespace Go.AI
structure Gh where
 O:List (Option (Nat×Nat))
 H:DH
 Pv:List Nat
 s:S
def Gh.Imm(g:Gh)(f:Nat):Prop:=f<g.s.next/\f∉g.Pv/\∀(o v:Nat),g.O[o]? = some (some (f,v))->∃ sz cap l,g.H[o]? = some (DB.buf sz false cap l)
def aJ(vs:List V):Prop:=vs.all V.one=true
def Gi(cap:Bool)(n:Nat):Option Nat:=bif cap then some n else none
def yy(g:Gh)(o:Nat):Prop:=∃ z s l,g.H[o]? = some (DB.tbuf z s l)
def Wh(sz n:Nat)(v:V):Prop:=(n=0/\(v=.nilslice\/∃ a z sz',v=.slice a z 0 (some 0) sz'))\/∃ a z c,v=.slice a z n c sz
def Np(g:Gh)(sz o n:Nat)(v:V):Prop:=(yy g o/\Wh sz n v)\/∃ st cap l,g.H[o]? = some (DB.buf sz st cap l)/\n<=l.length /\
 ((n=0/\(v=.nilslice\/∃ a z sz',v=.slice a z 0 (some 0) sz'))\/(0<n/\∃ f ver ver' cap',g.O[o]? = some (some (f,ver))/\v=.slice ⟨f,ver',0⟩ 0 n cap' sz/\(n=l.length->ver'=ver/\cap'=Gi cap n)))
mutual
def RD(g:Gh):D->V->Prop
 |.bool b,v=>v=.bool b
 |.int k n,v=>v=.int k n
 |.str l,v=>v=.str l/\∀ c∈l,c<256
 |.ptr o c,v=>∃ f ver,g.O[o]? = some (some (f,ver))/\v=.ptr ⟨f,0,c⟩
 |.eptr cs c,v=>∃ a vs,v=.ptr (bN a c)/\g.Imm a.f/\loadCells g.s a cs.length=some vs/\RL g cs vs/\aJ vs
 |.tptr o s i c,v=>∃ f ver sz s' l ver',g.O[o]? = some (some (f,ver))/\g.H[o]? = some (DB.tbuf sz s' l)/\s<=s'/\v=.ptr ⟨f,ver',i*sz+c⟩/\(s=s'->i<l.length/\ver'=ver)
 |.tb sz o s k,v=>∃ f ver s' l ver',g.O[o]? = some (some (f,ver))/\g.H[o]? = some (DB.tbuf sz s' l)/\s<=s'/\v=.slice ⟨f,ver',0⟩ 0 k none sz/\(s=s'->k=l.length/\ver'=ver)
 |.bptr o n i c,v=>(yy g o/\∃ a,v=.ptr a)\/∃ f ver sz st cap l ver',g.O[o]? = some (some (f,ver))/\g.H[o]? = some (DB.buf sz st cap l)/\n<=l.length/\i<n/\v=.ptr ⟨f,ver',i*sz+c⟩/\(n=l.length->ver'=ver)
 |.nilptr,v=>v=.nilptr
 |.row sz l,v=>(l=[]/\v=.nilslice)\/(l=[]/\∃ a z sz',v=.slice a z 0 (some 0) sz') \/
  ∃ a z cap,v=.slice a z l.length cap sz/\0<sz/\(cap.isSome=true\/z=a.c)/\(∀ c,cap=some c->l.length<=c)/\(l≠[]->g.Imm a.f)/\RR g a sz l
 |.buf sz o n,v=>Np g sz o n v
 |.nilrow,v=>v=.nilslice\/∃ a z sz,v=.slice a z 0 (some 0) sz
 |.nilx,v=>v=.nilslice
 |.map o,v=>∃ f ver,g.O[o]? = some (some (f,ver))/\v=.map f
 |.nilmap,v=>v=.nilmap
 |.func fn a b,v=>∃ a' b',v=.func (.func fn) a' b'/\RL g a a'/\RL g b b'
 |.nilFunc,v=>v=.nilFunc
 |.iface t d,v=>∃ v',v=.iface t v'/\RD g d v'
 |.nilIface,v=>v=.nilIface
 |.yld o,v=>∃ f ver,g.O[o]? = some (some (f,ver))/\v=.func (.yield f) [] []
 |.abool,v=>∃ q,v=.bool q
 |.agg cs,v=>∃ vs,v=.agg vs/\RL g cs vs/\aJ vs
 |.tuple ds,v=>∃ vs,v=.tuple vs/\RL g ds vs
def RL(g:Gh):List D->List V->Prop
 |[],vs=>vs=[]
 |d::r,vs=>∃ v vs',vs=v::vs'/\RD g d v/\RL g r vs'
def RR(g:Gh)(a:Ad)(sz:Nat):List (List D)->Prop
 |[]=>True
 |cs::r=>(∃ vs,cs.length=sz/\loadCells g.s a sz=some vs/\RL g cs vs/\aJ vs)/\RR g (bN a sz) sz r
end
theorem xH(a:Ad)(m n:Nat):bN (bN a m) n=bN a (m+n):=by simp only[bN,Nat.add_assoc]
theorem MX(a:Ad)(m:Nat):(bN a m).f=a.f:=rfl
structure mj(g g':Gh):Prop where
 hl:g.H.length<=g'.H.length
 o1:∀(o f v:Nat),g.O[o]? = some (some (f,v))->∃ v',g'.O[o]? = some (some (f,v'))
 buf:∀(o:Nat) sz st cap l,g.H[o]? = some (DB.buf sz st cap l)->yy g' o\/∃ st' cap' l',g'.H[o]? = some (DB.buf sz st' cap' l')/\l.length<=l'.length/\(st=false->st'=false)/\(l.length=l'.length->cap'=cap/\g'.O[o]? = g.O[o]?)
 tb:∀(o:Nat) sz s l,g.H[o]? = some (DB.tbuf sz s l)->∃ s' l',g'.H[o]? = some (DB.tbuf sz s' l')/\s<=s'/\(s=s'->l'.length=l.length/\g'.O[o]? = g.O[o]?)
 imm:∀ f,g.Imm f->g'.Imm f
 cells:∀ a n vs,g.Imm a.f->loadCells g.s a n=some vs->loadCells g'.s a n=some vs
 next:g.s.next<=g'.s.next
theorem mj.refl(g:Gh):mj g g:=⟨Nat.le_refl _,fun _ _ v h=>⟨v,h⟩,fun _ _ st cap l h=>.inr ⟨st,cap,l,h,Nat.le_refl _,id,fun _=>⟨rfl,rfl⟩⟩,fun _ _ s l h=>⟨s,l,h,Nat.le_refl _,fun _=>⟨rfl,rfl⟩⟩,fun _ h=>h,fun _ _ _ _ h=>h,Nat.le_refl _⟩
theorem mj.trans{a b c:Gh}(h:mj a b)(k:mj b c):mj a c:=by
 refine⟨Nat.le_trans h.hl k.hl,fun o f v ho=>?_,fun o sz st cap l ho=>?_,fun o sz s l ho=>?_,fun f hf=>k.imm f (h.imm f hf),fun x n vs hi hx=>k.cells x n vs (h.imm _ hi) (h.cells x n vs hi hx),Nat.le_trans h.next k.next⟩
 ·obtain⟨v',h1⟩:=h.o1 o f v ho;exact k.o1 o f v' h1
 ·rcases h.buf o sz st cap l ho with⟨z,s,l',h1⟩|⟨st',cap',l',h1,h2,h3,h4⟩
  ·obtain⟨s2,l2,k1,_⟩:=k.tb o z s l' h1
   exact .inl ⟨z,s2,l2,k1⟩
  ·rcases k.buf o sz st' cap' l' h1 with k1|⟨st2,cap2,l2,k1,k2,k3,k4⟩
   ·exact .inl k1
   ·exact .inr (by grind)
 ·obtain⟨s1,l1,h1,h2,h3⟩:=h.tb o sz s l ho
  obtain⟨s2,l2,k1,k2,k3⟩:=k.tb o sz s1 l1 h1
  exact⟨s2,l2,k1,Nat.le_trans h2 k2,fun e=>by grind⟩
theorem yy.mono{g g':Gh}(h:mj g g'){o:Nat}(r:yy g o):yy g' o:=by
 obtain⟨z,s,l,h1⟩:=r
 obtain⟨s',l',k1,_⟩:=h.tb o z s l h1
 exact⟨z,s',l',k1⟩
theorem Np.mono{g g':Gh}(h:mj g g'){sz o n:Nat}{v:V}(r:Np g sz o n v):Np g' sz o n v:=by
 rcases r with⟨r,r2⟩|⟨st,cap,l,h1,h2,h3⟩
 ·exact .inl ⟨r.mono h,r2⟩
 rcases h.buf o sz st cap l h1 with k1|⟨st',cap',l',k1,k2,k3,k4⟩
 ·refine .inl ⟨k1,?_⟩
  rcases h3 with h3|⟨h3,f,ver,ver',c,h4,h5,h6⟩
  ·exact .inl h3
  ·exact .inr ⟨_,_,_,h5⟩
 refine .inr ⟨st',cap',l',k1,Nat.le_trans h2 k2,?_⟩
 rcases h3 with h3|⟨h3,f,ver,ver',c,h4,h5,h6⟩
 ·exact .inl h3
 ·obtain⟨v2,h7⟩:=h.o1 o f ver h4
  refine .inr ⟨h3,f,v2,ver',c,h7,h5,fun e=>?_⟩
  grind
mutual
theorem RD.mono{g g':Gh}(h:mj g g'):∀ {d:D} {v:V},RD g d v->RD g' d v
 |.bool _,_,r=>by simpa only[RD]using r
 |.int ..,_,r=>by simpa only[RD]using r
 |.str _,_,r=>by simpa only[RD]using r
 |.ptr o c,v,r=>by
  simp only[RD]at r ⊢
  obtain⟨f,ver,h1,h2⟩:=r
  obtain⟨v',h3⟩:=h.o1 o f ver h1
  grind
 |.eptr cs c,v,r=>by
  simp only[RD]at r ⊢
  obtain⟨a,vs,h1,h2,h3,h4,h5⟩:=r
  exact⟨a,vs,h1,h.imm _ h2,h.cells _ _ _ h2 h3,RL.mono h h4,h5⟩
 |.bptr o n i c,v,r=>by
  simp only[RD]at r ⊢
  rcases r with⟨r,r2⟩|⟨f,ver,sz,st,cap,l,ver',h1,h2,h3,h4,h5,h6⟩
  ·exact .inl ⟨r.mono h,r2⟩
  rcases h.buf o sz st cap l h2 with k1|⟨st',cap',l',k1,k2,k3,k4⟩
  ·exact .inl ⟨k1,_,h5⟩
  obtain⟨v2,h7⟩:=h.o1 o f ver h1
  exact .inr (by grind)
 |.tptr o s i c,v,r=>by
  simp only[RD]at r ⊢
  obtain⟨f,ver,sz,s',l,ver',h1,h2,h3,h4,h5⟩:=r
  obtain⟨s2,l2,k1,k2,k3⟩:=h.tb o sz s' l h2
  obtain⟨v2,h7⟩:=h.o1 o f ver h1
  exact⟨f,v2,sz,s2,l2,ver',h7,k1,Nat.le_trans h3 k2,h4,fun e=>by grind⟩
 |.tb sz o s k,v,r=>by
  simp only[RD]at r ⊢
  obtain⟨f,ver,s',l,ver',h1,h2,h3,h4,h5⟩:=r
  obtain⟨s2,l2,k1,k2,k3⟩:=h.tb o sz s' l h2
  obtain⟨v2,h7⟩:=h.o1 o f ver h1
  exact⟨f,v2,s2,l2,ver',h7,k1,Nat.le_trans h3 k2,h4,fun e=>by grind⟩
 |.nilptr,_,r=>by simpa only[RD]using r
 |.row sz l,v,r=>by
  simp only[RD]at r ⊢
  rcases r with r|r|⟨a,z,cap,h1,h2,h3,h4,h5,h6⟩
  ·exact .inl r
  ·grind
  ·refine .inr (.inr ⟨a,z,cap,h1,h2,h3,h4,fun e=>h.imm _ (h5 e),?_⟩)
   cases hl:l with
   |nil=>simp only[RR]
   |cons x y=>rw[<- hl];exact RR.mono h (h5 (by rw[hl];simp)) h6
 |.buf sz o n,v,r=>by
  simp only[RD]at r ⊢
  exact r.mono h
 |.nilrow,_,r=>by simpa only[RD]using r
 |.nilx,_,r=>by simpa only[RD]using r
 |.map o,v,r=>by
  simp only[RD]at r ⊢
  obtain⟨f,ver,h1,h2⟩:=r
  obtain⟨v',h3⟩:=h.o1 o f ver h1
  grind
 |.nilmap,_,r=>by simpa only[RD]using r
 |.func fn a b,v,r=>by
  simp only[RD]at r ⊢
  obtain⟨a',b',h1,h2,h3⟩:=r
  exact⟨a',b',h1,RL.mono h h2,RL.mono h h3⟩
 |.nilFunc,_,r=>by simpa only[RD]using r
 |.iface t d,v,r=>by
  simp only[RD]at r ⊢
  obtain⟨v',h1,h2⟩:=r
  exact⟨v',h1,RD.mono h h2⟩
 |.nilIface,_,r=>by simpa only[RD]using r
 |.yld o,v,r=>by
  simp only[RD]at r ⊢
  obtain⟨f,ver,h1,h2⟩:=r
  obtain⟨v',h3⟩:=h.o1 o f ver h1
  grind
 |.abool,_,r=>by simpa only[RD]using r
 |.agg cs,v,r=>by
  simp only[RD]at r ⊢
  obtain⟨vs,h1,h2,h3⟩:=r
  exact⟨vs,h1,RL.mono h h2,h3⟩
 |.tuple ds,v,r=>by
  simp only[RD]at r ⊢
  obtain⟨vs,h1,h2⟩:=r
  exact⟨vs,h1,RL.mono h h2⟩
theorem RL.mono{g g':Gh}(h:mj g g'):∀ {ds:List D} {vs:List V},RL g ds vs->RL g' ds vs
 |[],_,r=>by simpa only[RL]using r
 |d::l,vs,r=>by
  simp only[RL]at r ⊢
  obtain⟨v,vs',h1,h2,h3⟩:=r
  exact⟨v,vs',h1,RD.mono h h2,RL.mono h h3⟩
theorem RR.mono{g g':Gh}(h:mj g g'):∀ {l:List (List D)} {a:Ad} {sz:Nat},g.Imm a.f->RR g a sz l->RR g' a sz l
 |[],_,_,_,_=>by simp only[RR]
 |cs::l,a,sz,hi,r=>by
  simp only[RR]at r ⊢
  obtain⟨⟨vs,h1,h2,h3,h4⟩,h5⟩:=r
  exact⟨⟨vs,h1,h.cells _ _ _ hi h2,RL.mono h h3,h4⟩,RR.mono h (by rw[MX];exact hi) h5⟩
end
theorem RL.len{g:Gh}:∀ {ds:List D} {vs:List V},RL g ds vs->vs.length=ds.length
 |[],_,r=>by simp only[RL]at r;rw[r];rfl
 |d::l,_,r=>by
  simp only[RL]at r
  obtain⟨v,vs',rfl,_,h3⟩:=r
  simp only[List.length_cons,RL.len h3]
theorem RL.at{g:Gh}:∀ {ds:List D} {vs:List V} {i:Nat} {d:D},RL g ds vs->ds[i]? = some d->∃ v,vs[i]? = some v/\RD g d v
 |[],_,i,d,r,h=>by simp at h
 |x::l,_,i,d,r,h=>by
  simp only[RL]at r
  obtain⟨v,vs',rfl,h2,h3⟩:=r
  cases i with
  |zero=>simp at h;subst h;exact⟨v,rfl,h2⟩
  |succ i=>simpa using RL.at h3 (by simpa using h)
theorem RL.append{g:Gh}:∀ {a:List D} {x:List V} {b:List D} {y:List V},RL g a x->RL g b y->RL g (a++b) (x++y)
 |[],_,b,y,h,k=>by simp only[RL]at h;subst h;exact k
 |d::l,_,b,y,h,k=>by
  simp only[RL]at h
  obtain⟨v,vs',rfl,h2,h3⟩:=h
  simp only[List.cons_append,RL]
  exact⟨v,vs'++y,rfl,h2,RL.append h3 k⟩
theorem RL.drop{g:Gh}:∀ {a:List D} {x:List V} (n:Nat),RL g a x->RL g (a.drop n) (x.drop n)
 |a,x,0,h=>h
 |[],_,n+1,h=>by simp only[RL]at h;subst h;simp[RL]
 |d::l,_,n+1,h=>by
  simp only[RL]at h
  obtain⟨v,vs',rfl,_,h3⟩:=h
  simp_all[RL.drop]
theorem RL.take{g:Gh}:∀ {a:List D} {x:List V} (n:Nat),RL g a x->RL g (a.take n) (x.take n)
 |a,x,0,h=>by simp[RL]
 |[],_,n+1,h=>by simp only[RL]at h;subst h;simp[RL]
 |d::l,_,n+1,h=>by
  simp only[RL]at h
  obtain⟨v,vs',rfl,h2,h3⟩:=h
  simp only[List.take_succ_cons,RL]
  exact⟨v,_,rfl,h2,RL.take n h3⟩
theorem RL.set{g:Gh}:∀ {a:List D} {x:List V} (i:Nat) {d:D} {v:V},RL g a x->RD g d v->RL g (a.set i d) (x.set i v)
 |[],_,i,d,v,h,k=>by simp only[RL]at h;subst h;simp[RL]
 |y::l,_,0,d,v,h,k=>by
  grind [RL]
 |y::l,_,i+1,d,v,h,k=>by
  simp only[RL]at h
  obtain⟨w,vs',rfl,h2,h3⟩:=h
  simp only[List.set_cons_succ,RL]
  exact⟨w,_,rfl,h2,RL.set i h3 k⟩
theorem RR.at{g:Gh}:∀ {l:List (List D)} {a:Ad} {sz i:Nat} {cs:List D},RR g a sz l->l[i]? = some cs->∃ vs,cs.length=sz/\loadCells g.s (bN a (i*sz)) sz=some vs/\RL g cs vs/\aJ vs
 |[],_,_,_,_,_,h=>by simp at h
 |x::l,a,sz,i,cs,r,h=>by
  simp only[RR]at r
  cases i with
  |zero=>simp at h;subst h;rw[Nat.zero_mul];exact r.1
  |succ i =>
   have:=RR.at r.2 (i:=i) (by simpa using h)
   simp_all[xH,Nat.add_mul,Nat.one_mul,Nat.add_comm]
theorem RR.of{g:Gh}:∀ {l:List (List D)} {a:Ad} {sz:Nat},(∀ i cs,l[i]? = some cs->∃ vs,cs.length=sz/\loadCells g.s (bN a (i*sz)) sz=some vs/\RL g cs vs/\aJ vs)->RR g a sz l
 |[],_,_,_=>by simp only[RR]
 |x::l,a,sz,h=>by
  simp only[RR]
  refine⟨?_,RR.of fun i cs hx=>?_⟩
  ·have:=h 0 x rfl;rw[Nat.zero_mul]at this;exact this
  ·rw[xH,show sz+i*sz=(i+1)*sz by rw[Nat.add_mul,Nat.one_mul,Nat.add_comm]]
   exact h (i+1) cs (by simpa using hx)
def RS(g:Gh)(LO:List Nat):LD->V->Prop
 |.g d,v=>RD g d v
 |.lp k c,v=>∃ f,LO[k]? = some f/\v=.ptr ⟨f,0,c⟩
 |.u,v=>v=V.undef
theorem RS.mono{g g':Gh}(h:mj g g'){LO:List Nat}{x:LD}{v:V}(r:RS g LO x v):RS g' LO x v:=by
 cases x with
 |g d=>exact RD.mono h r
 |lp k c=>exact r
 |u=>exact r
theorem RS.ext{g:Gh}{LO LO':List Nat}(h:LO <+: LO'){x:LD}{v:V}(r:RS g LO x v):RS g LO' x v:=by
 cases x with
 |g d=>exact r
 |lp k c =>
  obtain⟨f,h1,h2⟩:=r
  obtain⟨m,rfl⟩:=h
  refine⟨f,?_,h2⟩
  grind
 |u=>exact r
def yx(g:Gh)(LO:List Nat)(t:T LD)(tv:T V):Prop:=∀ i x,t.get (eB i)=some x->∃ v,tv.get (eB i)=some v/\RS g LO x v
theorem yx.mono{g g':Gh}(h:mj g g'){LO LO':List Nat}(hl:LO <+: LO'){t:T LD}{tv:T V}(r:yx g LO t tv):yx g' LO' t tv:=fun i x hx=>by
 obtain⟨v,h1,h2⟩:=r i x hx
 exact⟨v,h1,(h2.mono h).ext hl⟩
def Xi(g:Gh)(x:Nat×List D)(f:Nat):Prop:=f∈g.Pv/\(x.2=[]\/∃ el vs,g.s.get f=some (.cells el false 1 [⟨0,0,vs⟩])/\RL g x.2 vs/\aJ vs)
def SN(g:Gh)(L:LS)(LO:List Nat):Prop:=∀(k:Nat) x f,L[k]? = some x->LO[k]? = some f->Xi g x f
def LR(g:Gh)(L:LS)(LO:List Nat):Prop:=L.length=LO.length/\SN g L LO
def pJ(g:Gh):List (D×D)->List ol->Prop
 |[],es=>es=[]
 |(k,v)::r,es=>∃ e es',es=e::es'/\RD g k e.key/\RD g v e.val/\e.key.one=true/\pJ g r es'
theorem pJ.mono{g g':Gh}(h:mj g g'):∀ {l:List (D×D)} {es:List ol},pJ g l es->pJ g' l es
 |[],_,r=>r
 |(k,v)::l,_,r=>by
  obtain⟨e,es',h1,h2,h3,h4,h5⟩:=r
  exact⟨e,es',h1,RD.mono h h2,RD.mono h h3,h4,pJ.mono h h5⟩
def jr(g:Gh)(o:Nat):DB->Prop
 |.dead=>False
 |.opq=>∃ f v,g.O[o]? = some (some (f,v))
 |.coll=>∃ f,g.O[o]? = some (some (f,0))/\g.s.get f=some .deferred
 |.loop rdy fn nt t ps a b=>∃ f tv d,g.O[o]? = some (some (f,0))/\g.s.get f=some (.loop (bif rdy then .ready else .busy) none fn tv ps a b d nt)/\yx g [] t tv
 |.cells _ cs=>∃ f el vs,g.O[o]? = some (some (f,0))/\g.s.get f=some (.cells el false 1 [⟨0,0,vs⟩])/\RL g cs vs/\aJ vs
 |.map es=>∃ f ents clock,g.O[o]? = some (some (f,0))/\g.s.get f=some (.map ents clock)/\pJ g es ents
 |.buf sz _ _ l=>0<sz/\((l=[]/\g.O[o]? = some none)\/(l≠[]/\∃ f ver el nv vers cells,g.O[o]? = some (some (f,ver))/\g.s.get f=some (.cells el false nv vers) /\
  bj vers ver=some ⟨ver,0,cells⟩/\cells.length=l.length*sz/\(∀ u∈vers,u.v<nv/\u.lo+u.cells.length<=cells.length)/\RR g ⟨f,ver,0⟩ sz l))
 |.tbuf sz _ l=>0<sz/\∃ f ver el nv vers cells,g.O[o]? = some (some (f,ver))/\g.s.get f=some (.cells el false nv vers) /\
  bj vers ver=some ⟨ver,0,cells⟩/\l.length*sz<=cells.length/\(∀ u∈vers,u.v<nv)/\RR g ⟨f,ver,0⟩ sz l
class ft where
 I:S->Prop
 bl:List Nat
 stb:∀ s s':S,(∀ f∈bl,s'.get f=s.get f)->I s->I s'
variable[ft]
structure Gl(g:Gh):Prop where
 i:ft.I g.s
 b:∀ f∈ft.bl,f<g.s.next/\f∉g.Pv/\∀(o v:Nat),g.O[o]?≠some (some (f,v))
theorem Gl.to{g g':Gh}(h:Gl g)(k:∀ f,f<g.s.next->f∉g.Pv->(∀(o v:Nat),g.O[o]?≠some (some (f,v)))->g'.s.get f=g.s.get f/\f<g'.s.next/\f∉g'.Pv/\∀(o v:Nat),g'.O[o]?≠some (some (f,v))):Gl g' :=
 ⟨ft.stb _ _ (fun f hf=>(k f (h.b f hf).1 (h.b f hf).2.1 (h.b f hf).2.2).1) h.i,fun f hf=>(k f (h.b f hf).1 (h.b f hf).2.1 (h.b f hf).2.2).2⟩
structure Ok(g:Gh):Prop where
 len:g.O.length=g.H.length
 wf:WF g.s
 inj:∀(o o' f v v':Nat),g.O[o]? = some (some (f,v))->g.O[o']? = some (some (f,v'))->o=o'
 lt:∀(o f v:Nat),g.O[o]? = some (some (f,v))->f<g.s.next/\f∉g.Pv
 pv:∀ f∈g.Pv,f<g.s.next
 obj:∀(o:Nat) b,g.H[o]? = some b->jr g o b
 gl:Gl g
structure Mv(b:Nat)(g g':Gh):Prop where
 le:mj g g'
 out:∀ f,f<b->(∀(o v:Nat),g.O[o]?≠some (some (f,v)))->g'.s.get f=g.s.get f
 fresh:∀(o f v:Nat),g'.O[o]? = some (some (f,v))->f<b->∃ v',g.O[o]? = some (some (f,v'))
 stm:∀(o:Nat) s1 c1 f v,g.H[o]? = some (.cells s1 c1)->g.O[o]? = some (some (f,v))->∃ s2 c2,g'.H[o]? = some (.cells s2 c2)/\s1<=s2/\(s1=s2->c2=c1/\g'.s.get f=g.s.get f)
theorem Mv.refl(b:Nat)(g:Gh):Mv b g g:=⟨.refl g,fun _ _ _=>rfl,fun _ _ v h _=>⟨v,h⟩,fun _ s1 c1 _ _ h _=>⟨s1,c1,h,Nat.le_refl _,fun _=>⟨rfl,rfl⟩⟩⟩
theorem Mv.trans{b:Nat}{x y z:Gh}(h:Mv b x y)(k:Mv b y z):Mv b x z:=by
 refine⟨h.le.trans k.le,fun f hf hn=>?_,fun o f v ho hf=>?_,fun o s1 c1 f v h1 h2=>?_⟩
 ·rw[k.out f hf fun o v e=>?_,h.out f hf hn]
  obtain⟨v',h1⟩:=h.fresh o f v e hf
  grind
 ·obtain⟨v',h1⟩:=k.fresh o f v ho hf
  exact h.fresh o f v' h1 hf
 ·obtain⟨s2,c2,k1,k2,k3⟩:=h.stm o s1 c1 f v h1 h2
  obtain⟨v',k4⟩:=h.le.o1 o f v h2
  obtain⟨s3,c3,j1,j2,j3⟩:=k.stm o s2 c2 f v' k1 k4
  grind
theorem Mv.down{b c:Nat}{g g':Gh}(h:Mv b g g')(hc:c<=b):Mv c g g':=⟨h.le,fun f hf=>h.out f (Nat.lt_of_lt_of_le hf hc),fun o f v ho hf=>h.fresh o f v ho (Nat.lt_of_lt_of_le hf hc),h.stm⟩
structure FI(b:Nat)(P0:List Nat)(g:Gh)(t:T LD)(L:LS)(tv:T V)(LO:List Nat):Prop where
 ok:Ok g
 slots:yx g LO t tv
 own:LR g L LO
 pv:g.Pv=P0++LO
 low:∀ f∈LO,b<=f
 nd:LO.Nodup
 bl:b<=g.s.next
end Go.AI
set_option linter.all false
noncomputable section
namespace Go.AI
variable[ft]
theorem cL{s s':S}{a:Ad}(h:s'.get a.f=s.get a.f)(n:Nat):loadCells s' a n=loadCells s a n:=by
 grind [loadCells]
theorem RR.keep{g g':Gh}(h:mj g g'):∀ {l:List (List D)} {a:Ad} {sz:Nat},g'.s.get a.f=g.s.get a.f->RR g a sz l->RR g' a sz l
 |[],_,_,_,_=>by simp only[RR]
 |cs::l,a,sz,hi,r=>by
  simp only[RR]at r ⊢
  obtain⟨⟨vs,h1,h2,h3,h4⟩,h5⟩:=r
  exact⟨⟨vs,h1,by rw[cL hi];exact h2,RL.mono h h3,h4⟩,RR.keep h (by rw[MX];exact hi) h5⟩
theorem jr.keep{g g':Gh}(h:mj g g'){o:Nat}{b:DB}(hO:g'.O[o]? = g.O[o]?)(hs:∀ f v,g.O[o]? = some (some (f,v))->g'.s.get f=g.s.get f)(r:jr g o b):jr g' o b:=by
 cases b with
 |dead=>exact r
 |opq=>obtain⟨f,v,h1⟩:=r;exact⟨f,v,by rw[hO];exact h1⟩
 |coll=>obtain⟨f,h1,h2⟩:=r;exact⟨f,by rw[hO];exact h1,by rw[hs f 0 h1];exact h2⟩
 |loop _ _ _ _ _ _ _=>obtain⟨f,tv,d,h1,h2,h3⟩:=r;exact⟨f,tv,d,by rw[hO];exact h1,by rw[hs f 0 h1];exact h2,h3.mono h List.prefix_rfl⟩
 |cells st cs =>
  obtain⟨f,el,vs,h1,h2,h3,h4⟩:=r
  exact⟨f,el,vs,by rw[hO];exact h1,by rw[hs f 0 h1];exact h2,h3.mono h,h4⟩
 |map es =>
  obtain⟨f,ents,c,h1,h2,h3⟩:=r
  exact⟨f,ents,c,by rw[hO];exact h1,by rw[hs f 0 h1];exact h2,h3.mono h⟩
 |buf sz st cap l =>
  obtain⟨h0,h1|⟨h1,f,ver,el,nv,vers,cells,h2,h3,h4,h5,h6,h7⟩⟩:=r
  ·exact⟨h0,.inl ⟨h1.1,by rw[hO];exact h1.2⟩⟩
  ·exact⟨h0,.inr ⟨h1,f,ver,el,nv,vers,cells,by rw[hO];exact h2,by rw[hs f ver h2];exact h3,h4,h5,h6,h7.keep h (hs f ver h2)⟩⟩
 |tbuf sz s l =>
  obtain⟨h0,f,ver,el,nv,vers,cells,h2,h3,h4,h5,h6,h7⟩:=r
  exact⟨h0,f,ver,el,nv,vers,cells,by rw[hO];exact h2,by rw[hs f ver h2];exact h3,h4,h5,h6,h7.keep h (hs f ver h2)⟩
theorem LR.keep{g g':Gh}(h:mj g g'){L:LS}{LO:List Nat}(hp:∀ f∈LO,f∈g'.Pv)(hs:∀ f∈LO,g'.s.get f=g.s.get f)(r:LR g L LO):LR g' L LO:=by
 refine⟨r.1,fun k x f hx hf=>?_⟩
 have hm:=List.mem_of_getElem? hf
 obtain⟨h1,h2⟩:=r.2 k x f hx hf
 refine⟨hp f hm,?_⟩
 rcases h2 with h2|⟨el,vs,h2,h3,h4⟩
 ·exact .inl h2
 ·exact .inr ⟨el,vs,by rw[hs f hm];exact h2,h3.mono h,h4⟩
theorem aH{s:S}{B:dG}{f:Nat}(h:f<s.next):(s.alloc B).get f=s.get f:=by rw[S.get_alloc,if_neg (by omega)]
theorem ru{s:S}{B:dG}{f:Nat}(h:f<s.next):f<(s.alloc B).next:=by rw[S.next_alloc];omega
theorem pL{s:S}(hw:WF s)(B:dG):WF (s.alloc B):=(Fw.alloc [] hw B).wf hw
theorem JW{s:S}(hw:WF s){f:Nat}{B0:dG}(h0:s.get f=some B0)(B:dG):WF (s.put f B):=fun g C hg=>by
 rw[S.get_put]at hg
 rw[S.next_put]
 split at hg
 ·rename_i e;subst e;exact hw _ _ h0
 ·exact hw g C hg
theorem gU{α:Type}(l:List α)(x:α):(l++[x])[l.length]? = some x:=by simp
theorem dX{α:Type}{l:List α}{i:Nat}{x:α}(m:List α)(h:l[i]? = some x):(l++m)[i]? = some x:=by
 grind
theorem bh{α:Type}{l:List α}{i:Nat}{x y:α}(h:(l++[y])[i]? = some x):l[i]? = some x\/(i=l.length/\x=y):=by
 grind
section
variable{b:Nat}{P0:List Nat}{g:Gh}{t:T LD}{L:LS}{tv:T V}{LO:List Nat}
def Gh.blk(g:Gh)(B:dG):Gh:=⟨g.O,g.H,g.Pv,g.s.alloc B⟩
theorem OF(B:dG){f:Nat}(h:g.Imm f):(g.blk B).Imm f:=⟨by show f<(g.s.alloc B).next;rw[S.next_alloc];have:=h.1;omega,h.2.1,h.2.2⟩
theorem Fy(B:dG):mj g (g.blk B):=by
 refine⟨Nat.le_refl _,fun _ _ v h=>⟨v,h⟩,fun _ _ st cap l h=>.inr ⟨st,cap,l,h,Nat.le_refl _,id,fun _=>⟨rfl,rfl⟩⟩,fun _ _ s l h=>⟨s,l,h,Nat.le_refl _,fun _=>⟨rfl,rfl⟩⟩,fun f h=>OF B h,fun a n vs hi hx=>?_,by show _<=(g.s.alloc B).next;rw[S.next_alloc];omega⟩
 rw[<- hx];exact cL (aH hi.1) n
theorem Ok.blk(h:Ok g)(B:dG):Ok (g.blk B):=by
 refine⟨h.len,pL h.wf B,h.inj,fun o f v ho=>⟨?_,(h.lt o f v ho).2⟩,fun f hf=>?_,fun o b hb=>(h.obj o b hb).keep (Fy B) rfl fun f v ho=>aH (h.lt o f v ho).1,h.gl.to fun f hf hp ho=>⟨aH hf,ru hf,hp,ho⟩⟩
 ·have:=(h.lt o f v ho).1;show f<(g.s.alloc B).next;rw[S.next_alloc];omega
 ·have:=h.pv f hf;show f<(g.s.alloc B).next;rw[S.next_alloc];omega
theorem Fo(h:Ok g)(hb:b<=g.s.next)(B:dG):Mv b g (g.blk B):=⟨Fy B,fun f hf _=>aH (Nat.lt_of_lt_of_le hf hb),fun _ _ v h _=>⟨v,h⟩,fun o s1 c1 f v h1 h2=>⟨s1,c1,h1,Nat.le_refl _,fun _=>⟨rfl,aH (h.lt o f v h2).1⟩⟩⟩
theorem FI.to(h:FI b P0 g t L tv LO){g':Gh}(hok:Ok g')(hm:Mv b g g')(hp:g'.Pv=g.Pv)(hs:∀ f∈LO,g'.s.get f=g.s.get f):FI b P0 g' t L tv LO :=
 ⟨hok,h.slots.mono hm.le List.prefix_rfl,h.own.keep hm.le (fun f hf=>by rw[hp,h.pv];exact List.mem_append_right _ hf) hs,by rw[hp];exact h.pv,h.low,h.nd,Nat.le_trans h.bl hm.le.next⟩
theorem FI.lo_lt(h:FI b P0 g t L tv LO){f:Nat}(hf:f∈LO):f<g.s.next:=h.ok.pv f (by rw[h.pv];exact List.mem_append_right _ hf)
theorem FI.lo_out(h:FI b P0 g t L tv LO){f:Nat}(hf:f∈LO)(o v:Nat):g.O[o]?≠some (some (f,v)):=fun e=>(h.ok.lt o f v e).2 (by rw[h.pv];exact List.mem_append_right _ hf)
theorem FI.blk(h:FI b P0 g t L tv LO)(B:dG):FI b P0 (g.blk B) t L tv LO:=h.to (h.ok.blk B) (Fo h.ok h.bl B) rfl fun _ hf=>aH (h.lo_lt hf)
def Gh.obj(g:Gh)(x:DB)(B:dG):Gh:=⟨g.O++[some (g.s.next,0)],g.H++[x],g.Pv,g.s.alloc B⟩
theorem OE(hl:g.O.length=g.H.length)(x:DB)(B:dG){f:Nat}(h:g.Imm f):(g.obj x B).Imm f:=by
 refine⟨by show f<(g.s.alloc B).next;rw[S.next_alloc];have:=h.1;omega,h.2.1,fun o v ho=>?_⟩
 rcases bh ho with ho|⟨_,e⟩
 ·obtain⟨sz,cap,l,h1⟩:=h.2.2 o v ho
  exact⟨sz,cap,l,dX _ h1⟩
 ·simp only[Option.some.injEq,Prod.mk.injEq]at e
  have:=h.1;omega
theorem we(hl:g.O.length=g.H.length)(x:DB)(B:dG):mj g (g.obj x B):=by
 refine⟨by simp[Gh.obj],fun _ _ v h=>⟨v,dX _ h⟩,fun o _ st cap l h=>.inr ⟨st,cap,l,dX _ h,Nat.le_refl _,id,fun _=>⟨rfl,?_⟩⟩,fun o _ s l h=>⟨s,l,dX _ h,Nat.le_refl _,fun _=>⟨rfl,?_⟩⟩,fun f h=>OE hl x B h,fun a n vs hi hx=>?_,by show _<=(g.s.alloc B).next;rw[S.next_alloc];omega⟩
 ·have:o<g.H.length:=by
   grind
  show(g.O++_)[o]? = _
  grind
 ·have:o<g.H.length:=by
   grind
  show(g.O++_)[o]? = _
  grind
 ·rw[<- hx];exact cL (aH hi.1) n
theorem Ok.mkobj(h:Ok g){x:DB}{B:dG}(hx:jr (g.obj x B) g.H.length x):Ok (g.obj x B):=by
 refine⟨by simp[Gh.obj,h.len],pL h.wf B,fun o o' f v v' h1 h2=>?_,fun o f v ho=>?_,fun f hf=>?_,fun o c hc=>?_,h.gl.to fun f hf hp ho=>⟨aH hf,ru hf,hp,fun o v k=>?_⟩⟩
 ·rcases bh h1 with h1|⟨e1,e2⟩<;>rcases bh h2 with h2|⟨e3,e4⟩
  ·exact h.inj o o' f v v' h1 h2
  ·cases e4;have:=(h.lt o _ v h1).1;omega
  ·cases e2;have:=(h.lt o' _ v' h2).1;omega
  ·omega
 ·rcases bh ho with ho|⟨_,e⟩
  ·exact⟨by have:=(h.lt o f v ho).1;show f<(g.s.alloc B).next;rw[S.next_alloc];omega,(h.lt o f v ho).2⟩
  ·cases e
   exact⟨by show g.s.next<(g.s.alloc B).next;rw[S.next_alloc];omega,fun hp=>by have:=h.pv _ hp;omega⟩
 ·have:=h.pv f hf;show f<(g.s.alloc B).next;rw[S.next_alloc];omega
 ·rcases bh hc with hc|⟨e1,e2⟩
  ·have hlt:o<g.O.length:=by
    rw[h.len]
    grind
   exact(h.obj o c hc).keep (we h.len x B) (by show(g.O++_)[o]? = _;rw[List.getElem?_append_left hlt]) fun f v ho=>aH (h.lt o f v ho).1
  grind
 ·rcases bh k with k|⟨_,e⟩
  ·exact ho o v k
  grind
theorem pd(h:Ok g)(hb:b<=g.s.next)(x:DB)(B:dG):Mv b g (g.obj x B):=by
 refine⟨we h.len x B,fun f hf _=>aH (Nat.lt_of_lt_of_le hf hb),fun o f v ho hf=>?_,fun o s1 c1 f v h1 h2=>⟨s1,c1,dX _ h1,Nat.le_refl _,fun _=>⟨rfl,aH (h.lt o f v h2).1⟩⟩⟩
 rcases bh ho with ho|⟨_,e⟩
 ·grind
 grind
theorem FI.mkobj(h:FI b P0 g t L tv LO){x:DB}{B:dG}(hx:jr (g.obj x B) g.H.length x):FI b P0 (g.obj x B) t L tv LO :=
 h.to (h.ok.mkobj hx) (pd h.ok h.bl x B) rfl fun _ hf=>aH (h.lo_lt hf)
theorem mK(h:Ok g)(x:DB)(B:dG):(g.obj x B).O[g.H.length]? = some (some (g.s.next,0)):=by
 show(g.O++_)[_]? = _;rw[<- h.len];exact gU _ _
theorem qu(x:DB)(B:dG):(g.obj x B).s.get g.s.next=some B:=gd _ _
def Gh.prv(g:Gh)(B:dG):Gh:=⟨g.O,g.H,g.Pv++[g.s.next],g.s.alloc B⟩
theorem Fu(B:dG):mj g (g.prv B):=by
 refine⟨Nat.le_refl _,fun _ _ v h=>⟨v,h⟩,fun _ _ st cap l h=>.inr ⟨st,cap,l,h,Nat.le_refl _,id,fun _=>⟨rfl,rfl⟩⟩,fun _ _ s l h=>⟨s,l,h,Nat.le_refl _,fun _=>⟨rfl,rfl⟩⟩,fun f h=>⟨?_,fun hm=>?_,h.2.2⟩,fun a n vs hi hx=>?_,by show _<=(g.s.alloc B).next;rw[S.next_alloc];omega⟩
 ·show f<(g.s.alloc B).next;rw[S.next_alloc];have:=h.1;omega
 ·rcases List.mem_append.1 hm with hm|hm
  ·exact h.2.1 hm
  ·simp at hm;have:=h.1;omega
 ·rw[<- hx];exact cL (aH hi.1) n
theorem Ok.prv(h:Ok g)(B:dG):Ok (g.prv B):=by
 refine⟨h.len,pL h.wf B,h.inj,fun o f v ho=>⟨?_,fun hm=>?_⟩,fun f hf=>?_,fun o b hb=>(h.obj o b hb).keep (Fu B) rfl fun f v ho=>aH (h.lt o f v ho).1,h.gl.to fun f hf hp ho=>⟨aH hf,ru hf,fun hm=>?_,ho⟩⟩
 ·have:=(h.lt o f v ho).1;show f<(g.s.alloc B).next;rw[S.next_alloc];omega
 ·rcases List.mem_append.1 hm with hm|hm
  ·exact(h.lt o f v ho).2 hm
  ·simp at hm;have:=(h.lt o f v ho).1;omega
 ·show f<(g.s.alloc B).next
  rw[S.next_alloc]
  rcases List.mem_append.1 hf with hf|hf
  ·have:=h.pv f hf;omega
  grind
 ·rcases List.mem_append.1 hm with hm|hm
  ·exact hp hm
  grind
theorem QT(h:Ok g)(hb:b<=g.s.next)(B:dG):Mv b g (g.prv B):=⟨Fu B,fun f hf _=>aH (Nat.lt_of_lt_of_le hf hb),fun _ _ v h _=>⟨v,h⟩,fun o s1 c1 f v h1 h2=>⟨s1,c1,h1,Nat.le_refl _,fun _=>⟨rfl,aH (h.lt o f v h2).1⟩⟩⟩
theorem FI.prv(h:FI b P0 g t L tv LO){el:TypeId}{cs:List D}{vs:List V}{st:Nat}(hr:RL g cs vs)(ho:aJ vs) :
 FI b P0 (g.prv (.cells el false 1 [⟨0,0,vs⟩])) t (L++[(st,cs)]) tv (LO++[g.s.next]):=by
 have hle:=Fu (g:=g) (.cells el false 1 [⟨0,0,vs⟩])
 have hlt:∀ f∈LO,f<g.s.next:=fun f hf=>h.lo_lt hf
 refine⟨h.ok.prv _,h.slots.mono hle (List.prefix_append _ _),⟨by simp[h.own.1],fun k x f hx hf=>?_⟩,by show g.Pv++_=_;rw[h.pv,List.append_assoc],fun f hf=>?_,?_,Nat.le_trans h.bl hle.next⟩
 ·rcases bh hx with hx|⟨e1,e2⟩
  ·rcases bh hf with hf|⟨e3,_⟩
   ·have hm:=List.mem_of_getElem? hf
    obtain⟨h1,h2⟩:=h.own.2 k x f hx hf
    refine⟨List.mem_append_left _ h1,?_⟩
    rcases h2 with h2|⟨el',vs',h2,h3,h4⟩
    ·exact .inl h2
    ·exact .inr ⟨el',vs',by show(g.s.alloc _).get f=_;rw[aH (hlt f hm)];exact h2,h3.mono hle,h4⟩
   ·subst e3
    rw[<- h.own.1,List.getElem?_eq_none (Nat.le_refl _)]at hx;cases hx
  ·subst e1;subst e2
   rw[h.own.1,gU]at hf
   cases hf
   exact⟨List.mem_append_right _ (by simp),.inr ⟨el,vs,gd _ _,hr.mono hle,ho⟩⟩
 ·rcases List.mem_append.1 hf with hf|hf
  ·exact h.low f hf
  ·simp at hf;subst hf;exact h.bl
 ·rw[List.nodup_append]
  exact⟨h.nd,by simp,fun x hx y hy e=>by simp at hy;subst hy;subst e;have:=hlt _ hx;omega⟩
def Gh.pput(g:Gh)(f:Nat)(B:dG):Gh:=⟨g.O,g.H,g.Pv,g.s.put f B⟩
theorem AZ{f:Nat}(hf:f∈g.Pv)(B:dG):mj g (g.pput f B):=by
 refine⟨Nat.le_refl _,fun _ _ v h=>⟨v,h⟩,fun _ _ st cap l h=>.inr ⟨st,cap,l,h,Nat.le_refl _,id,fun _=>⟨rfl,rfl⟩⟩,fun _ _ s l h=>⟨s,l,h,Nat.le_refl _,fun _=>⟨rfl,rfl⟩⟩,fun f' h=>⟨by show f'<(g.s.put f B).next;rw[S.next_put];exact h.1,h.2.1,h.2.2⟩,fun a n vs hi hx=>?_,by show _<=(g.s.put f B).next;rw[S.next_put];exact Nat.le_refl _⟩
 rw[<- hx]
 exact cL (by show(g.s.put f B).get _=_;rw[S.get_put,if_neg (fun e=>hi.2.1 (by rw[<- e];exact hf))]) n
theorem cr{s:S}{f f':Nat}{B:dG}(h:f≠f'):(s.put f B).get f'=s.get f':=by rw[S.get_put,if_neg h]
theorem di{s:S}{f:Nat}{B:dG}:(s.put f B).get f=some B:=by rw[S.get_put,if_pos rfl]
theorem Ok.pput(h:Ok g){f:Nat}(hf:f∈g.Pv){B0:dG}(h0:g.s.get f=some B0)(B:dG):Ok (g.pput f B):=by
 refine⟨h.len,JW h.wf h0 B,h.inj,fun o f' v ho=>⟨by show f'<(g.s.put f B).next;rw[S.next_put];exact(h.lt o f' v ho).1,(h.lt o f' v ho).2⟩,fun f' hf'=>by show f'<(g.s.put f B).next;rw[S.next_put];exact h.pv f' hf',fun o b hb=>(h.obj o b hb).keep (AZ hf B) rfl fun f' v ho=>cr fun e=>(h.lt o f' v ho).2 (by rw[<- e];exact hf),h.gl.to fun f' h1 hp ho=>⟨cr fun e=>hp (by rw[<- e];exact hf),by show f'<(g.s.put f B).next;rw[S.next_put];exact h1,hp,ho⟩⟩
theorem Oa(h:Ok g){f:Nat}(hf:f∈g.Pv)(hb:b<=f)(B:dG):Mv b g (g.pput f B):=⟨AZ hf B,fun f' hf' _=>cr (by omega),fun _ _ v h _=>⟨v,h⟩,fun o s1 c1 f' v h1 h2=>⟨s1,c1,h1,Nat.le_refl _,fun _=>⟨rfl,cr fun e=>(h.lt o f' v h2).2 (by rw[<- e];exact hf)⟩⟩⟩
theorem rY:∀ {l:List Nat} (_:l.Nodup) {i j x:Nat} (_:l[i]? = some x) (_:l[j]? = some x),i=j
 |[],_,i,_,_,h1,_=>by simp at h1
 |y::l,h,i,j,x,h1,h2=>by
  rw[List.nodup_cons]at h
  cases i with
  |zero=>cases j with
   |zero=>rfl
   |succ j =>
    simp only[List.getElem?_cons_zero,Option.some.injEq,List.getElem?_cons_succ]at h1 h2
    subst h1
    exact(h.1 (List.mem_of_getElem? h2)).elim
  |succ i=>cases j with
   |zero =>
    simp only[List.getElem?_cons_zero,Option.some.injEq,List.getElem?_cons_succ]at h1 h2
    subst h2
    exact(h.1 (List.mem_of_getElem? h1)).elim
   |succ j =>
    simp only[List.getElem?_cons_succ]at h1 h2
    rw[rY h.2 h1 h2]
theorem FI.pput(h:FI b P0 g t L tv LO){k f st:Nat}{el:TypeId}{cs:List D}{vs0 vs:List V}(hk:LO[k]? = some f)(h0:g.s.get f=some (.cells el false 1 [⟨0,0,vs0⟩]))(hr:RL g cs vs)(ho:aJ vs) :
 FI b P0 (g.pput f (.cells el false 1 [⟨0,0,vs⟩])) t (L.set k (st,cs)) tv LO:=by
 have hm:=List.mem_of_getElem? hk
 have hp:f∈g.Pv:=by rw[h.pv];exact List.mem_append_right _ hm
 have hle:=AZ hp (.cells el false 1 [⟨0,0,vs⟩])
 refine⟨h.ok.pput hp h0 _,h.slots.mono hle List.prefix_rfl,⟨by rw[List.length_set];exact h.own.1,fun k' x f' hx hf'=>?_⟩,h.pv,h.low,h.nd,Nat.le_trans h.bl hle.next⟩
 have hm':=List.mem_of_getElem? hf'
 rw[List.getElem?_set]at hx
 split at hx
 ·rename_i e
  subst e
  rw[hk]at hf'
  cases hf'
  split at hx
  ·cases hx
   exact⟨hp,.inr ⟨el,vs,di,hr.mono hle,ho⟩⟩
  ·cases hx
 ·rename_i hne
  obtain⟨h1,h2⟩:=h.own.2 k' x f' hx hf'
  refine⟨h1,?_⟩
  rcases h2 with h2|⟨el',vs',h2,h3,h4⟩
  ·exact .inl h2
  ·exact .inr ⟨el',vs',by show(g.s.put f _).get f'=_;rw[cr (fun e=>hne (rY h.nd hk (by rw[e];exact hf')))];exact h2,h3.mono hle,h4⟩
end
end Go.AI
set_option linter.all false
noncomputable section
namespace Go.AI
variable[ft]
theorem dQ{α:Type}{l:List α}{i j:Nat}{x y:α}(h:(l.set i x)[j]? = some y):(i=j/\y=x)\/(i≠j/\l[j]? = some y):=by
 grind
theorem aU{α:Type}{l:List α}{i:Nat}{x y:α}(h:l[i]? = some y):(l.set i x)[i]? = some x:=by
 grind
theorem cK{α:Type}{l:List α}{i j:Nat}{x:α}(h:i≠j):(l.set i x)[j]? = l[j]?:=by rw[List.getElem?_set,if_neg h]
def Ug(ver ver':Nat)(x0 x:DB):Prop:=(∀ sz st cap l,x0=.buf sz st cap l->(st=true/\∃ z s l',x=.tbuf z s l')\/∃ st' cap' l',x=.buf sz st' cap' l'/\l.length<=l'.length/\(st=false->st'=false)/\(l.length=l'.length->cap'=cap/\ver'=ver)) /\
 ∀ sz s l,x0=.tbuf sz s l->∃ s' l',x=.tbuf sz s' l'/\s<s'
section
variable{b:Nat}{P0:List Nat}{g:Gh}{t:T LD}{L:LS}{tv:T V}{LO:List Nat}{o f ver ver':Nat}{x0 x:DB}{B0 B:dG}
def Gh.oput(g:Gh)(o:Nat)(x:DB)(f ver':Nat)(B:dG):Gh:=⟨g.O.set o (some (f,ver')),g.H.set o x,g.Pv,g.s.put f B⟩
structure sY(g:Gh)(o:Nat)(x:DB)(f ver ver':Nat)(x0:DB)(B0 B:dG):Prop where
 ho:g.O[o]? = some (some (f,ver))
 hx0:g.H[o]? = some x0
 h0:g.s.get f=some B0
 hb:Ug ver ver' x0 x
 hi:∀ a n vs,g.Imm a.f->a.f=f->loadCells g.s a n=some vs->loadCells (g.s.put f B) a n=some vs
 hst:∀ s1 c1,x0=.cells s1 c1->∃ c2,x=.cells (s1+1) c2
theorem jG(h:Ok g)(c:sY g o x f ver ver' x0 B0 B):mj g (g.oput o x f ver' B):=by
 refine⟨by show _<=(g.H.set o x).length;rw[List.length_set];exact Nat.le_refl _,fun o' f' v h1=>?_,fun o' sz st cap l h1=>?_,fun o' sz s l h1=>?_,fun f' h1=>⟨by show f'<(g.s.put f B).next;rw[S.next_put];exact h1.1,h1.2.1,fun o' v h2=>?_⟩,fun a n vs hi hx=>?_,by show _<=(g.s.put f B).next;rw[S.next_put];exact Nat.le_refl _⟩
 ·by_cases e:o=o'
  ·subst e
   rw[c.ho]at h1;cases h1
   exact⟨ver',aU c.ho⟩
  ·exact⟨v,by show(g.O.set o _)[o']? = _;rw[cK e];exact h1⟩
 ·by_cases e:o=o'
  ·subst e
   rw[c.hx0]at h1;cases h1
   rcases c.hb.1 sz st cap l rfl with⟨_,z,s,l',k1⟩|⟨st',cap',l',k1,k2,k3,k4⟩
   ·exact .inl ⟨z,s,l',by rw[<- k1];exact aU c.hx0⟩
   refine .inr ⟨st',cap',l',by rw[<- k1];exact aU c.hx0,k2,k3,fun e=>?_⟩
   obtain⟨k5,k6⟩:=k4 e
   exact⟨k5,by rw[c.ho,k6];exact aU c.ho⟩
  ·exact .inr ⟨st,cap,l,by show(g.H.set o _)[o']? = _;rw[cK e];exact h1,Nat.le_refl _,id,fun _=>⟨rfl,by show(g.O.set o _)[o']? = _;rw[cK e]⟩⟩
 ·by_cases e:o=o'
  ·subst e
   rw[c.hx0]at h1;cases h1
   obtain⟨s',l',k1,k2⟩:=c.hb.2 sz s l rfl
   exact⟨s',l',by rw[<- k1];exact aU c.hx0,by omega,fun e=>by omega⟩
  ·exact⟨s,l,by show(g.H.set o _)[o']? = _;rw[cK e];exact h1,Nat.le_refl _,fun _=>⟨rfl,by show(g.O.set o _)[o']? = _;rw[cK e]⟩⟩
 ·rcases dQ h2 with⟨e,e2⟩|⟨e,h2⟩
  ·subst e
   cases e2
   obtain⟨sz,cap,l,h3⟩:=h1.2.2 o ver c.ho
   rw[c.hx0]at h3;cases h3
   rcases c.hb.1 sz false cap l rfl with⟨k0,_⟩|⟨st',cap',l',k1,k2,k3,k4⟩
   ·cases k0
   rw[k3 rfl]at k1
   exact⟨sz,cap',l',by rw[<- k1];exact aU c.hx0⟩
  ·obtain⟨sz,cap,l,h3⟩:=h1.2.2 o' v h2
   exact⟨sz,cap,l,by show(g.H.set o _)[o']? = _;rw[cK e];exact h3⟩
 ·by_cases e:a.f=f
  ·exact c.hi a n vs hi e hx
  ·rw[<- hx];exact cL (cr (Ne.symm e)) n
theorem Ok.oput(h:Ok g)(c:sY g o x f ver ver' x0 B0 B)(hx:jr (g.oput o x f ver' B) o x):Ok (g.oput o x f ver' B):=by
 refine⟨by simp[Gh.oput,h.len],JW h.wf c.h0 B,fun o1 o2 f' v v' h1 h2=>?_,fun o' f' v h1=>?_,fun f' hf'=>by show f'<(g.s.put f B).next;rw[S.next_put];exact h.pv f' hf',fun o' y hy=>?_,h.gl.to fun f' h1 hp ho=>⟨cr fun e=>ho o ver (by rw[<- e];exact c.ho),by show f'<(g.s.put f B).next;rw[S.next_put];exact h1,hp,fun o' v k=>?_⟩⟩
 rotate_right 1
 ·rcases dQ k with⟨e,e2⟩|⟨e,k⟩
  ·cases e2;exact ho o ver c.ho
  grind
 ·rcases dQ h1 with⟨e,e2⟩|⟨e,h1⟩<;>rcases dQ h2 with⟨e3,e4⟩|⟨e3,h2⟩
  ·grind
  ·cases e2;rw[<- e];exact h.inj o o2 f ver v' c.ho h2
  ·cases e4;rw[<- e3];exact h.inj o1 o f v ver h1 c.ho
  ·exact h.inj o1 o2 f' v v' h1 h2
 ·rcases dQ h1 with⟨e,e2⟩|⟨e,h1⟩
  ·cases e2
   exact⟨by show f<(g.s.put f B).next;rw[S.next_put];exact(h.lt o f ver c.ho).1,(h.lt o f ver c.ho).2⟩
  ·exact⟨by show f'<(g.s.put f B).next;rw[S.next_put];exact(h.lt o' f' v h1).1,(h.lt o' f' v h1).2⟩
 ·rcases dQ hy with⟨e,e2⟩|⟨e,hy⟩
  ·grind
  ·exact(h.obj o' y hy).keep (jG h c) (by show(g.O.set o _)[o']? = _;rw[cK e]) fun f' v h1=>cr fun q=>e (h.inj o o' f ver v c.ho (by rw[q];exact h1))
theorem iA(h:Ok g)(c:sY g o x f ver ver' x0 B0 B):Mv b g (g.oput o x f ver' B):=by
 refine⟨jG h c,fun f' _ hn=>cr fun e=>hn o ver (by rw[<- e];exact c.ho),fun o' f' v h1 _=>?_,fun o' s1 c1 f' v h1 h2=>?_⟩
 rcases dQ h1 with⟨e,e2⟩|⟨e,h1⟩
 ·subst e;cases e2;exact⟨ver,c.ho⟩
 ·grind
 ·by_cases e:o=o'
  ·subst e
   rw[c.hx0]at h1
   obtain⟨c2,h3⟩:=c.hst s1 c1 (Option.some.inj h1)
   exact⟨s1+1,c2,by rw[<- h3];exact aU c.hx0,Nat.le_succ _,fun q=>by omega⟩
  ·exact⟨s1,c1,by show(g.H.set o _)[o']? = _;rw[cK e];exact h1,Nat.le_refl _,fun _=>⟨rfl,cr fun q=>e (h.inj o o' f ver v c.ho (by rw[q];exact h2))⟩⟩
theorem FI.oput(h:FI b P0 g t L tv LO)(c:sY g o x f ver ver' x0 B0 B)(hx:jr (g.oput o x f ver' B) o x):FI b P0 (g.oput o x f ver' B) t L tv LO :=
 h.to (h.ok.oput c hx) (iA h.ok c) rfl fun f' hf'=>cr fun e=>h.lo_out hf' o ver (by rw[<- e];exact c.ho)
def Gh.bnew(g:Gh)(o:Nat)(x:DB)(B:dG):Gh:=⟨g.O.set o (some (g.s.next,0)),g.H.set o x,g.Pv,g.s.alloc B⟩
theorem Ba(h:Ok g){sz:Nat}{st cap st' cap':Bool}{l:List (List D)}(hO:g.O[o]? = some none)(h0:g.H[o]? = some (.buf sz st cap []))(hx:x=.buf sz st' cap' l)(hs:st=false->st'=false)(hl:l≠[]):mj g (g.bnew o x B):=by
 refine⟨by show _<=(g.H.set o x).length;rw[List.length_set];exact Nat.le_refl _,fun o' f' v h1=>?_,fun o' sz' Kw cap1 l1 h1=>?_,fun o' sz' s1 l1 h1=>?_,fun f' h1=>⟨by show f'<(g.s.alloc B).next;rw[S.next_alloc];have:=h1.1;omega,h1.2.1,fun o' v h2=>?_⟩,fun a n vs hi hx=>?_,by show _<=(g.s.alloc B).next;rw[S.next_alloc];omega⟩
 ·have e:o≠o':=fun e=>by subst e;rw[hO]at h1;cases h1
  exact⟨v,by show(g.O.set o _)[o']? = _;rw[cK e];exact h1⟩
 ·by_cases e:o=o'
  ·subst e
   rw[h0]at h1;cases h1
   refine .inr ⟨st',cap',l,by rw[<- hx];exact aU h0,by simp,hs,fun e=>?_⟩
   exact(hl (List.eq_nil_of_length_eq_zero (by simpa using e.symm))).elim
  ·exact .inr ⟨Kw,cap1,l1,by show(g.H.set o _)[o']? = _;rw[cK e];exact h1,Nat.le_refl _,id,fun _=>⟨rfl,by show(g.O.set o _)[o']? = _;rw[cK e]⟩⟩
 ·have e:o≠o':=fun e=>by subst e;rw[h0]at h1;cases h1
  exact⟨s1,l1,by show(g.H.set o _)[o']? = _;rw[cK e];exact h1,Nat.le_refl _,fun _=>⟨rfl,by show(g.O.set o _)[o']? = _;rw[cK e]⟩⟩
 ·rcases dQ h2 with⟨e,e2⟩|⟨e,h2⟩
  ·simp only[Option.some.injEq,Prod.mk.injEq]at e2
   have:=h1.1;omega
  ·obtain⟨sz1,cap1,l1,h3⟩:=h1.2.2 o' v h2
   exact⟨sz1,cap1,l1,by show(g.H.set o _)[o']? = _;rw[cK (fun e=>by subst e;rw[hO]at h2;cases h2)];exact h3⟩
 ·rw[<- hx];exact cL (aH hi.1) n
theorem Ok.bnew(h:Ok g){sz:Nat}{st cap st' cap':Bool}{l:List (List D)}(hO:g.O[o]? = some none)(h0:g.H[o]? = some (.buf sz st cap []))(hx:x=.buf sz st' cap' l)(hs:st=false->st'=false)(hl:l≠[])(hr:jr (g.bnew o x B) o x):Ok (g.bnew o x B):=by
 refine⟨by simp[Gh.bnew,h.len],pL h.wf B,fun o1 o2 f' v v' h1 h2=>?_,fun o' f' v h1=>?_,fun f' hf'=>?_,fun o' y hy=>?_,h.gl.to fun f' h1 hp ho=>⟨aH h1,ru h1,hp,fun o' v k=>?_⟩⟩
 rotate_right 1
 ·rcases dQ k with⟨e,e2⟩|⟨e,k⟩
  ·grind
  grind
 ·rcases dQ h1 with⟨e,e2⟩|⟨e,h1⟩<;>rcases dQ h2 with⟨e3,e4⟩|⟨e3,h2⟩
  ·grind
  ·cases e2;have:=(h.lt o2 _ v' h2).1;omega
  ·cases e4;have:=(h.lt o1 _ v h1).1;omega
  ·exact h.inj o1 o2 f' v v' h1 h2
 ·rcases dQ h1 with⟨e,e2⟩|⟨e,h1⟩
  ·cases e2
   exact⟨by show g.s.next<(g.s.alloc B).next;rw[S.next_alloc];omega,fun hp=>by have:=h.pv _ hp;omega⟩
  ·exact⟨by have:=(h.lt o' f' v h1).1;show f'<(g.s.alloc B).next;rw[S.next_alloc];omega,(h.lt o' f' v h1).2⟩
 ·have:=h.pv f' hf';show f'<(g.s.alloc B).next;rw[S.next_alloc];omega
 ·rcases dQ hy with⟨e,e2⟩|⟨e,hy⟩
  ·grind
  ·exact(h.obj o' y hy).keep (Ba h hO h0 hx hs hl) (by show(g.O.set o _)[o']? = _;rw[cK e]) fun f' v h1=>aH (h.lt o' f' v h1).1
theorem Hu(h:Ok g)(hb:b<=g.s.next){sz:Nat}{st cap st' cap':Bool}{l:List (List D)}(hO:g.O[o]? = some none)(h0:g.H[o]? = some (.buf sz st cap []))(hx:x=.buf sz st' cap' l)(hs:st=false->st'=false)(hl:l≠[]):Mv b g (g.bnew o x B):=by
 refine⟨Ba h hO h0 hx hs hl,fun f hf _=>aH (Nat.lt_of_lt_of_le hf hb),fun o' f v ho hf=>?_,fun o' s1 c1 f v h1 h2=>?_⟩
 ·rcases dQ ho with⟨_,e⟩|⟨_,ho⟩
  ·cases e;omega
  grind
 ·have e:o≠o':=fun e=>by subst e;rw[h0]at h1;cases h1
  exact⟨s1,c1,by show(g.H.set o _)[o']? = _;rw[cK e];exact h1,Nat.le_refl _,fun _=>⟨rfl,aH (h.lt o' f v h2).1⟩⟩
theorem FI.bnew(h:FI b P0 g t L tv LO){sz:Nat}{st cap st' cap':Bool}{l:List (List D)}(hO:g.O[o]? = some none)(h0:g.H[o]? = some (.buf sz st cap []))(hx:x=.buf sz st' cap' l)(hs:st=false->st'=false)(hl:l≠[])(hr:jr (g.bnew o x B) o x):FI b P0 (g.bnew o x B) t L tv LO :=
 h.to (h.ok.bnew hO h0 hx hs hl hr) (Hu h.ok h.bl hO h0 hx hs hl) rfl fun _ hf=>aH (h.lo_lt hf)
def Gh.frz(g:Gh)(o sz:Nat)(cap:Bool)(l:List (List D)):Gh:=⟨g.O,g.H.set o (.buf sz false cap l),g.Pv,g.s⟩
theorem sj{sz:Nat}{st cap:Bool}{l:List (List D)}(h0:g.H[o]? = some (.buf sz st cap l)):mj g (g.frz o sz cap l):=by
 refine⟨by show _<=(g.H.set o _).length;rw[List.length_set];exact Nat.le_refl _,fun o' f' v h1=>⟨v,h1⟩,fun o' sz' Kw cap1 l1 h1=>?_,fun o' sz' s1 l1 h1=>⟨s1,l1,by show(g.H.set o _)[o']? = _;rw[cK (fun e=>by subst e;rw[h0]at h1;cases h1)];exact h1,Nat.le_refl _,fun _=>⟨rfl,rfl⟩⟩,fun f' h1=>⟨h1.1,h1.2.1,fun o' v h2=>?_⟩,fun a n vs hi hx=>hx,Nat.le_refl _⟩
 ·by_cases e:o=o'
  ·subst e
   rw[h0]at h1;cases h1
   exact .inr ⟨false,cap,l,aU h0,Nat.le_refl _,fun _=>rfl,fun _=>⟨rfl,rfl⟩⟩
  ·exact .inr ⟨Kw,cap1,l1,by show(g.H.set o _)[o']? = _;rw[cK e];exact h1,Nat.le_refl _,id,fun _=>⟨rfl,rfl⟩⟩
 ·by_cases e:o=o'
  ·subst e;exact⟨sz,cap,l,aU h0⟩
  ·obtain⟨sz1,cap1,l1,h3⟩:=h1.2.2 o' v h2
   exact⟨sz1,cap1,l1,by show(g.H.set o _)[o']? = _;rw[cK e];exact h3⟩
theorem Ok.frz(h:Ok g){sz:Nat}{st cap:Bool}{l:List (List D)}(h0:g.H[o]? = some (.buf sz st cap l)):Ok (g.frz o sz cap l):=by
 refine⟨by simp[Gh.frz,h.len],h.wf,h.inj,h.lt,h.pv,fun o' y hy=>?_,h.gl.to fun f h1 hp ho=>⟨rfl,h1,hp,ho⟩⟩
 rcases dQ hy with⟨e,e2⟩|⟨e,hy⟩
 ·subst e;subst e2
  exact(h.obj o _ h0).keep (b:=.buf sz st cap l) (sj h0) rfl (fun _ _ _=>rfl)
 ·exact(h.obj o' y hy).keep (sj h0) rfl fun _ _ _=>rfl
theorem Fm{sz:Nat}{st cap:Bool}{l:List (List D)}(h0:g.H[o]? = some (.buf sz st cap l)):Mv b g (g.frz o sz cap l):=⟨sj h0,fun _ _ _=>rfl,fun _ _ v h _=>⟨v,h⟩,fun o' s1 c1 f v h1 _=>⟨s1,c1,by show(g.H.set o _)[o']? = _;rw[cK (fun e=>by subst e;rw[h0]at h1;cases h1)];exact h1,Nat.le_refl _,fun _=>⟨rfl,rfl⟩⟩⟩
def Gh.cut(g:Gh)(o sz s:Nat)(l:List (List D)):Gh:=⟨g.O,g.H.set o (.tbuf sz s l),g.Pv,g.s⟩
def Nn(sz s:Nat)(x:DB):Prop:=(∃ cap l,x=.buf sz true cap l)\/∃ s0 l,x=.tbuf sz s0 l/\s0<s
theorem Fv{sz s:Nat}{l:List (List D)}(h0:g.H[o]? = some x)(hc:Nn sz s x):mj g (g.cut o sz s l):=by
 refine⟨by show _<=(g.H.set o _).length;rw[List.length_set];exact Nat.le_refl _,fun o' f' v h1=>⟨v,h1⟩,fun o' sz' Kw cap1 l1 h1=>?_,fun o' sz' s1 l1 h1=>?_,fun f' h1=>⟨h1.1,h1.2.1,fun o' v h2=>?_⟩,fun a n vs hi hx=>hx,Nat.le_refl _⟩
 ·by_cases e:o=o'
  ·subst e
   exact .inl ⟨sz,s,l,aU h0⟩
  ·exact .inr ⟨Kw,cap1,l1,by show(g.H.set o _)[o']? = _;rw[cK e];exact h1,Nat.le_refl _,id,fun _=>⟨rfl,rfl⟩⟩
 ·by_cases e:o=o'
  ·subst e
   rw[h0]at h1;cases h1
   rcases hc with⟨_,_,k⟩|⟨_,_,k,k2⟩<;>cases k
   exact⟨s,l,aU h0,by omega,fun e=>by omega⟩
  ·exact⟨s1,l1,by show(g.H.set o _)[o']? = _;rw[cK e];exact h1,Nat.le_refl _,fun _=>⟨rfl,rfl⟩⟩
 ·obtain⟨sz1,cap1,l1,h3⟩:=h1.2.2 o' v h2
  refine⟨sz1,cap1,l1,?_⟩
  show(g.H.set o _)[o']? = _
  rw[cK (fun e=>?_)];exact h3
  subst e
  rw[h0]at h3;cases h3
  rcases hc with⟨_,_,k⟩|⟨_,_,k,k2⟩<;>cases k
theorem Ok.cut(h:Ok g){sz s:Nat}{l:List (List D)}(h0:g.H[o]? = some x)(hc:Nn sz s x)(hr:jr (g.cut o sz s l) o (.tbuf sz s l)):Ok (g.cut o sz s l):=by
 refine⟨by simp[Gh.cut,h.len],h.wf,h.inj,h.lt,h.pv,fun o' y hy=>?_,h.gl.to fun f h1 hp ho=>⟨rfl,h1,hp,ho⟩⟩
 rcases dQ hy with⟨e,e2⟩|⟨e,hy⟩
 ·subst e;subst e2
  exact hr
 ·exact(h.obj o' y hy).keep (Fv h0 hc) rfl fun _ _ _=>rfl
theorem Lv{sz s:Nat}{l:List (List D)}(h0:g.H[o]? = some x)(hc:Nn sz s x):Mv b g (g.cut o sz s l):=⟨Fv h0 hc,fun _ _ _=>rfl,fun _ _ v h _=>⟨v,h⟩,fun o' s1 c1 f v h1 _=>⟨s1,c1,by show(g.H.set o _)[o']? = _;rw[cK (fun e=>by subst e;rw[h0]at h1;cases h1;rcases hc with⟨_,_,k⟩|⟨_,_,k,_⟩<;>cases k)];exact h1,Nat.le_refl _,fun _=>⟨rfl,rfl⟩⟩⟩
theorem FI.cut(h:FI b P0 g t L tv LO){sz s:Nat}{l:List (List D)}(h0:g.H[o]? = some x)(hc:Nn sz s x)(hr:jr (g.cut o sz s l) o (.tbuf sz s l)):FI b P0 (g.cut o sz s l) t L tv LO :=
 h.to (h.ok.cut h0 hc hr) (Lv h0 hc) rfl fun _ _=>rfl
theorem FI.frz(h:FI b P0 g t L tv LO){sz:Nat}{st cap:Bool}{l:List (List D)}(h0:g.H[o]? = some (.buf sz st cap l)):FI b P0 (g.frz o sz cap l) t L tv LO :=
 h.to (h.ok.frz h0) (Fm h0) rfl fun _ _=>rfl
theorem Bh(h:Ok g){sz:Nat}{st cap:Bool}{l:List (List D)}(h0:g.H[o]? = some (.buf sz st cap l)){n:Nat}(hn:n=l.length){v:V}(hv:Np g sz o n v):RD (g.frz o sz cap l) (.row sz l) v:=by
 rcases hv with⟨⟨_,_,_,k1⟩,_⟩|⟨st',cap',l',k1,k2,k3⟩
 ·rw[h0]at k1;cases k1
 rw[h0]at k1;cases k1
 simp only[RD]
 rcases k3 with⟨e1,e2⟩|⟨e1,f,ver,ver2,c,e2,e3,e4⟩
 ·have hl:l=[]:=List.eq_nil_of_length_eq_zero (by omega)
  subst hl
  rcases e2 with rfl|⟨a,z,sz',rfl⟩
  ·exact .inl ⟨rfl,rfl⟩
  ·exact .inr (.inl ⟨rfl,a,z,sz',rfl⟩)
 ·obtain⟨e5,e6⟩:=e4 hn
  subst e5 e6
  obtain⟨i0,i1|⟨i1,f',ver',el,nv,vers,cells,i2,i3,i4,i5,i6,i7⟩⟩:=h.obj o _ h0
  ·rw[i1.1]at hn;simp at hn;omega
  ·rw[e2]at i2;cases i2
   subst e3 hn
   refine .inr (.inr ⟨⟨f,ver2,0⟩,0,Gi cap l.length,rfl,i0,.inr rfl,fun c hc=>?_,fun _=>⟨(h.lt o f ver2 e2).1,(h.lt o f ver2 e2).2,fun o' v' ho'=>?_⟩,i7.keep (sj h0) rfl⟩)
   ·cases cap with
    |true=>cases hc;exact Nat.le_refl _
    |false=>cases hc
   ·rw[h.inj o' o f v' ver2 ho' e2]
    exact⟨sz,cap,l,aU h0⟩
def Gh.acc(g:Gh)(sz:Nat)(cap:Bool):Gh:=⟨g.O++[none],g.H++[.buf sz true cap []],g.Pv,g.s⟩
theorem LI(h:Ok g)(sz:Nat)(cap:Bool):mj g (g.acc sz cap):=by
 refine⟨by simp[Gh.acc],fun _ _ v h=>⟨v,dX _ h⟩,fun o _ st cap l h1=>.inr ⟨st,cap,l,dX _ h1,Nat.le_refl _,id,fun _=>⟨rfl,?_⟩⟩,fun o _ s l h1=>⟨s,l,dX _ h1,Nat.le_refl _,fun _=>⟨rfl,?_⟩⟩,fun f h1=>⟨h1.1,h1.2.1,fun o v ho=>?_⟩,fun a n vs hi hx=>hx,Nat.le_refl _⟩
 ·have:o<g.H.length:=by
   grind
  show(g.O++_)[o]? = _
  rw[List.getElem?_append_left (by rw[h.len];exact this)]
 ·have:o<g.H.length:=by
   grind
  show(g.O++_)[o]? = _
  rw[List.getElem?_append_left (by rw[h.len];exact this)]
 ·rcases bh ho with ho|⟨_,e⟩
  ·obtain⟨sz,cap,l,h2⟩:=h1.2.2 o v ho
   exact⟨sz,cap,l,dX _ h2⟩
  ·cases e
theorem Ok.acc(h:Ok g){sz:Nat}(hs:0<sz)(cap:Bool):Ok (g.acc sz cap):=by
 refine⟨by simp[Gh.acc,h.len],h.wf,fun o o' f v v' h1 h2=>?_,fun o f v ho=>?_,h.pv,fun o c hc=>?_,h.gl.to fun f h1 hp ho=>⟨rfl,h1,hp,fun o v k=>?_⟩⟩
 rotate_right 1
 ·rcases bh k with k|⟨_,e⟩
  ·exact ho o v k
  ·cases e
 ·rcases bh h1 with h1|⟨e1,e2⟩<;>rcases bh h2 with h2|⟨e3,e4⟩
  ·exact h.inj o o' f v v' h1 h2
  ·cases e4
  ·cases e2
  ·cases e2
 ·rcases bh ho with ho|⟨_,e⟩
  ·exact h.lt o f v ho
  ·cases e
 ·rcases bh hc with hc|⟨e1,e2⟩
  ·have hlt:o<g.O.length:=by
    rw[h.len]
    grind
   exact(h.obj o c hc).keep (LI h sz cap) (by show(g.O++_)[o]? = _;rw[List.getElem?_append_left hlt]) fun _ _ _=>rfl
  ·subst e1;subst e2
   exact⟨hs,.inl ⟨rfl,by show(g.O++_)[_]? = _;rw[<- h.len];exact gU _ _⟩⟩
theorem Fp(h:Ok g)(sz:Nat)(cap:Bool):Mv b g (g.acc sz cap):=by
 refine⟨LI h sz cap,fun _ _ _=>rfl,fun o f v ho _=>?_,fun o s1 c1 f v h1 _=>⟨s1,c1,dX _ h1,Nat.le_refl _,fun _=>⟨rfl,rfl⟩⟩⟩
 rcases bh ho with ho|⟨_,e⟩
 ·grind
 ·cases e
theorem FI.acc(h:FI b P0 g t L tv LO){sz:Nat}(hs:0<sz)(cap:Bool):FI b P0 (g.acc sz cap) t L tv LO:=h.to (h.ok.acc hs cap) (Fp h.ok sz cap) rfl fun _ _=>rfl
end
end Go.AI
set_option linter.all false
noncomputable section
namespace Go.AI
variable[ft]
variable{g:Gh}{LO:List Nat}{t:T LD}{tv:T V}{P:Program}{out:gI}
theorem eK{v:V}{vs:List V}:aJ (v::vs)↔v.one=true/\aJ vs:=by unfold aJ;simp
theorem CJ{a b:List V}(h:aJ a)(hs:∀ v∈b,v∈a):aJ b:=List.all_eq_true.2 fun v hv=>List.all_eq_true.1 h v (hs v hv)
theorem rV{vs:List V}(h:aJ vs)(n:Nat):aJ (vs.drop n):=CJ h fun _=>List.mem_of_mem_drop
theorem rU{vs:List V}(h:aJ vs)(n:Nat):aJ (vs.take n):=CJ h fun _=>List.mem_of_mem_take
theorem qt{a b:List V}(h:aJ a)(k:aJ b):aJ (a++b):=by unfold aJ at *;rw[List.all_append,h,k];rfl
theorem BD:∀ {v:V} {d:D},Pc v=some d->RD g d v/\v.one=true:=by
 intro v d h
 unfold Pc at h
 split at h
 ·cases h;exact⟨by simp only[RD],rfl⟩
 ·cases h;exact⟨by simp only[RD],rfl⟩
 ·rename_i l
  cases hb:l.all (fun c=>Nat.blt c 256)with
  |false=>rw[hb]at h;cases h
  |true =>
   rw[hb]at h;cases h
   refine⟨?_,rfl⟩
   simp_all[RD,List.all_eq_true.1,Nat.le_of_ble_eq_true]
 ·cases h;exact⟨by simp only[RD],rfl⟩
 ·cases h;exact⟨by simp only[RD];exact .inl trivial,rfl⟩
 ·cases h;exact⟨by simp only[RD],rfl⟩
 ·rename_i fn a b
  split at h
  ·cases hb:(a.isEmpty&&b.isEmpty)with
   |false=>rw[hb]at h;cases h
   |true =>
    rw[hb]at h;cases h
    simp only[Bool.and_eq_true,List.isEmpty_iff]at hb
    obtain⟨rfl,rfl⟩:=hb
    exact⟨by simp only[RD];exact⟨[],[],rfl,by simp only[RL],by simp only[RL]⟩,rfl⟩
  ·cases h
 ·cases h;exact⟨by simp only[RD],rfl⟩
 ·cases h;exact⟨by simp only[RD],rfl⟩
 ·cases h
theorem BC:∀ {vs:List V} {ds:List D},xe vs=some ds->RL g ds vs/\aJ vs
 |[],ds,h=>by cases h;exact⟨by simp only[RL],rfl⟩
 |v::r,ds,h=>by
  simp only[xe]at h
  split at h
  ·rename_i d hd
   split at h
   ·rename_i l hl
    cases h
    obtain⟨h1,h2⟩:=BD (g:=g) hd
    obtain⟨h3,h4⟩:=BC hl
    exact⟨by simp only[RL];exact⟨v,r,rfl,h1,h3⟩,eK.2 ⟨h2,h4⟩⟩
   ·cases h
  ·cases h
theorem MA{v:V}{d:D}(h:SK v=some d):RD g d v:=by
 unfold SK at h
 grind [BC,RD,BD]
theorem RL.one1{d:D}{v:V}(h:RD g d v):RL g [d] [v]:=by simp only[RL];exact⟨v,[],rfl,h,rfl⟩
theorem rh{v:V}(h:v.one=true):v.cells=[v]:=by cases v<;>first|rfl|cases h
theorem Jj{v:V}{d:D}(h:SK v=some d):RL g d.cells v.cells/\aJ v.cells:=by
 unfold SK at h
 split at h
 ·split at h
  ·rename_i cs l hl
   cases h
   exact BC hl
  ·cases h
 ·rename_i hne
  obtain⟨h1,h2⟩:=BD (g:=g) h
  rw[rh h2]
  refine⟨?_,eK.2 ⟨h2,rfl⟩⟩
  have:d.cells=[d]:=by
   cases d<;>first|rfl|skip
   grind [RD]
  grind [RL.one1]
theorem iK{ty:TypeId}{d:D}(h:oo P ty=some d):∃ z,zero P ty=some z/\RD g d z/\RL g d.cells z.cells/\aJ z.cells:=by
 grind [oo,MA,Jj]
def uI(g:Gh)(LO:List Nat)(t:T LD)(tv:T V)(x:Operand):Prop:=∀ y,gq t x=some y->∃ v,eval tv x=some v/\RS g LO y v
theorem yx.op(h:yx g LO t tv)(x:Operand):uI g LO t tv x:=by
 intro y hy
 cases x with
 |tmp i=>exact h i y hy
 |const c =>
  simp only[gq]at hy
  split at hy
  ·rename_i v hv
   split at hy
   ·rename_i d hd;cases hy;exact⟨v,hv,MA hd⟩
   ·cases hy
  ·cases hy
 |global _=>cases hy
 |func f=>cases hy;exact⟨_,rfl,by show RD _ _ _;simp only[RD];exact⟨[],[],rfl,by simp only[RL],by simp only[RL]⟩⟩
theorem bk{x:Operand}{κ:D->ag}(h:gD (gq t x) κ=some out)(hr:uI g LO t tv x):∃ d v,κ d=some out/\gq t x=some (.g d)/\eval tv x=some v/\RD g d v:=by
 unfold gD at h
 split at h
 ·rename_i d hd
  obtain⟨v,h1,h2⟩:=hr _ hd
  exact⟨d,v,h,hd,h1,h2⟩
 ·cases h
theorem jY{x:Operand}{κ:LD->ag}(h:lD (gq t x) κ=some out)(hr:uI g LO t tv x):∃ d v,κ d=some out/\gq t x=some d/\eval tv x=some v/\RS g LO d v:=by
 unfold lD at h
 split at h
 ·rename_i d hd
  obtain⟨v,h1,h2⟩:=hr _ hd
  grind
 ·cases h
theorem jf:∀ {l:List Operand} {κ:List D->ag},DA t l κ=some out->(∀ x∈l,uI g LO t tv x)->∃ ds vs,κ ds=some out/\gp tv l=some vs/\RL g ds vs
 |[],κ,h,_=>⟨[],[],h,rfl,by simp only[RL]⟩
 |x::r,κ,h,hr=>by
  simp only[DA]at h
  obtain⟨d,v,h1,_,h2,h3⟩:=bk h (hr x List.mem_cons_self)
  obtain⟨ds,vs,k1,k2,k3⟩:=jf h1 fun y hy=>hr y (List.mem_cons_of_mem _ hy)
  grind [only,gp,RL]
theorem cR{b:Bool}{κ:ag}(h:boK b κ=some out):b=true/\κ=some out:=by
 cases b with
 |false=>cases h
 |true=>exact⟨rfl,h⟩
theorem aC{b:Bool}{κ:ag}(h:cond b κ none=some out):b=true/\κ=some out:=by
 grind
theorem iH{cs:List D}{c:Nat}{κ:D->ag}(h:aF cs c κ=some out):∃ d,cs[c]? = some d/\κ d=some out:=by
 grind [aF]
theorem gv:∀ {n:Nat} {cs:List D} {c:Nat} {κ:List D->ag},yH n cs c κ=some out->κ ((cs.drop c).take n)=some out/\(n=0\/c+n<=cs.length)
 |0,cs,c,κ,h=>⟨by simp only[yH]at h;simpa using h,.inl rfl⟩
 |n+1,cs,c,κ,h=>by
  simp only[yH]at h
  obtain⟨d,h1,h2⟩:=iH h
  have hc:c<cs.length:=by
   rcases Nat.lt_or_ge c cs.length with q|q
   ·exact q
   ·rw[List.getElem?_eq_none q]at h1;cases h1
  obtain⟨h3,h4⟩:=gv h2
  refine⟨?_,.inr (by omega)⟩
  rw[List.drop_eq_getElem_cons hc,List.take_succ_cons]
  rw[List.getElem?_eq_getElem hc]at h1
  cases h1
  exact h3
theorem kR:∀ {l:List V} {n:Nat},n<=l.length->aN n l=some (l.take n)
 |l,0,_=>rfl
 |[],n+1,h=>by simp at h
 |x::l,n+1,h=>by simp only[aN,kR (l:=l) (n:=n) (by simpa using h),Option.map,List.take_succ_cons]
theorem gK{s:S}{a:Ad}{N:Nat}{vs:List V}(h:loadCells s a N=some vs){c n:Nat}(hc:c+n<=N):loadCells s (bN a c) n=some ((vs.drop c).take n):=by
 have key:∀(u:mf),(bif Nat.ble u.lo a.c then aN N (u.cells.drop (a.c - u.lo))else none)=some vs->(bif Nat.ble u.lo (a.c+c)then aN n (u.cells.drop (a.c+c - u.lo))else none)=some ((vs.drop c).take n):=fun u hu=>by
  cases hb:Nat.ble u.lo a.c with
  |false=>rw[hb]at hu;cases hu
  |true =>
   rw[hb]at hu
   have hle:=Nat.le_of_ble_eq_true hb
   grind [dS,Nat.ble,Nat.ble_eq_true_of_le,List.length_drop,kR,List.drop_take,List.drop_drop,Nat.min_eq_left]
 unfold loadCells at h ⊢
 simp only[bN]
 split at h
 ·split at h
  ·grind
  ·cases h
 ·split at h
  ·grind
  ·cases h
 ·cases h
theorem qF{s:S}{a:Ad}{N:Nat}{vs:List V}(h:loadCells s a N=some vs){c:Nat}{v:V}(hc:vs[c]? = some v):mP s (bN a c)=some v:=by
 have key:∀(u:mf),(bif Nat.ble u.lo a.c then aN N (u.cells.drop (a.c - u.lo))else none)=some vs->(bif Nat.ble u.lo (a.c+c)then u.cells[a.c+c - u.lo]? else none)=some v:=fun u hu=>by
  cases hb:Nat.ble u.lo a.c with
  |false=>rw[hb]at hu;cases hu
  |true =>
   rw[hb]at hu
   have hle:=Nat.le_of_ble_eq_true hb
   obtain⟨rfl,h2⟩:=dS hu
   rw[show Nat.ble u.lo (a.c+c)=true from Nat.ble_eq_true_of_le (by omega)]
   simp only[cond_true]
   rw[List.getElem?_take]at hc
   split at hc
   ·rw[List.getElem?_drop]at hc
    rw[show a.c+c - u.lo=a.c - u.lo+c by omega];exact hc
   ·cases hc
 unfold loadCells at h
 unfold mP
 simp only[bN]
 split at h
 ·split at h
  ·rename_i u hu;exact key u h
  ·cases h
 ·split at h
  ·rename_i u hu;exact key u h
  ·cases h
 ·cases h
theorem yf{s:S}{a:Ad}{N:Nat}{vs:List V}(h:loadCells s a N=some vs):vs.length=N:=by
 have key:∀(u:mf),(bif Nat.ble u.lo a.c then aN N (u.cells.drop (a.c - u.lo))else none)=some vs->vs.length=N:=fun u hu=>by
  cases hb:Nat.ble u.lo a.c with
  |false=>rw[hb]at hu;cases hu
  |true =>
   rw[hb]at hu
   obtain⟨rfl,h2⟩:=dS hu
   grind
 grind [loadCells]
theorem iT{s:S}{ty:TypeId}{cs:List D}{c:Nat}{κ:D->ag}(h:cN P ty cs c κ=some out){a:Ad}{vs:List V}(hl:loadCells s a cs.length=some vs)(hr:RL g cs vs)(ho:aJ vs) :
 ∃ d v,κ d=some out/\loadVar P s ty (bN a c)=some v/\RD g d v:=by
 unfold cN at h
 unfold loadVar
 split at h
 ·rename_i ha
  split at h
  ·rename_i n hn
   obtain⟨hn0,h⟩:=aC h
   obtain⟨h1,h2⟩:=gv h
   have hn0:=Nat.le_of_ble_eq_true hn0
   refine⟨_,.agg ((vs.drop c).take n),h1,?_,?_⟩
   ·rw[ha,hn]
    simp only[Option.bind]
    rw[gK hl (by omega)];rfl
   ·simp only[RD]
    exact⟨_,rfl,(hr.drop c).take n,rU (rV ho c) n⟩
  ·cases h
 ·rename_i ha
  obtain⟨d,h1,h2⟩:=iH h
  obtain⟨v,h3,h4⟩:=hr.at h1
  exact⟨d,v,h2,by rw[ha];exact qF hl h3,h4⟩
 ·cases h
end Go.AI
set_option linter.all false
noncomputable section
namespace Go.AI
theorem pV:∀ {p q:List Nat},(∀ z∈p,z<256)->(∀ z∈q,z<256)->kh p q=some (decide (p=q))
 |[],[],_,_=>rfl
 |[],_::_,_,_=>rfl
 |_::_,[],_,_=>rfl
 |x::p,y::q,hp,hq=>by
  have ih:=pV (p:=p) (q:=q) (fun z hz=>hp z (List.mem_cons_of_mem _ hz)) (fun z hz=>hq z (List.mem_cons_of_mem _ hz))
  have hx:Nat.blt x 256=true:=Nat.ble_eq_true_of_le (hp x (by simp))
  have hy:Nat.blt y 256=true:=Nat.ble_eq_true_of_le (hq y (by simp))
  grind [kh,Nat.eq_of_beq_eq_true,List.cons.injEq,Nat.beq_refl,Bool.and_self]
variable[ft]
variable{g:Gh}{LO:List Nat}{t:T LD}{tv:T V}{P:Program}{out:gI}
theorem Pe{x:LD}{κ:LD->ag}(h:Pf x κ=some out){v:V}(r:RS g LO x v):κ x=some out/\lN (some v)=some v:=by
 unfold Pf eD at h
 split at h
 ·obtain⟨f,h1,rfl⟩:=r;exact⟨h,rfl⟩
 ·rename_i d
  have r:RD g d v:=r
  split at h
  ·simp only[RD]at r;obtain⟨f,ver,h1,rfl⟩:=r;exact⟨h,rfl⟩
  ·simp only[RD]at r;obtain⟨a,vs,rfl,_⟩:=r;exact⟨h,rfl⟩
  ·simp only[RD]at r;rcases r with⟨_,a,rfl⟩|⟨f,ver,sz,st,cap,l,ver',_,_,_,_,rfl,_⟩<;>exact⟨h,rfl⟩
  ·simp only[RD]at r;obtain⟨f,ver,sz,s',l,ver',_,_,_,rfl,_⟩:=r;exact⟨h,rfl⟩
  ·simp only[RD]at r;obtain⟨a',b',rfl,_⟩:=r;exact⟨h,rfl⟩
  ·simp only[RD]at r;obtain⟨f,ver,_,rfl⟩:=r;exact⟨h,rfl⟩
  ·cases h
 ·cases h
theorem OL{x:LD}{off:Nat}{κ:LD->ag}(h:OM x off κ=some out){v:V}(r:RS g LO x v):∃ x' a,κ x'=some out/\v=.ptr a/\RS g LO x' (.ptr (bN a off)):=by
 unfold OM dt at h
 split at h
 ·obtain⟨f,h1,rfl⟩:=r;exact⟨_,_,h,rfl,f,h1,rfl⟩
 ·rename_i d
  have r:RD g d v:=r
  split at h
  ·simp only[RD]at r
   obtain⟨f,ver,h1,rfl⟩:=r
   exact⟨_,_,h,rfl,by show RD _ _ _;simp only[RD];exact⟨f,ver,h1,rfl⟩⟩
  ·simp only[RD]at r
   obtain⟨a,vs,rfl,h1⟩:=r
   exact⟨_,_,h,rfl,by show RD _ _ _;simp only[RD];exact⟨a,vs,by rw[xH],h1⟩⟩
  ·simp only[RD]at r
   rcases r with⟨k1,a,rfl⟩|⟨f,ver,sz,st,cap,l,ver',h1,h2,h3,h4,rfl,h5⟩
   ·exact⟨_,_,h,rfl,by show RD _ _ _;simp only[RD];exact .inl ⟨k1,_,rfl⟩⟩
   exact⟨_,_,h,rfl,by show RD _ _ _;simp only[RD];exact .inr ⟨f,ver,sz,st,cap,l,ver',h1,h2,h3,h4,by simp only[bN,Nat.add_assoc],h5⟩⟩
  ·simp only[RD]at r
   obtain⟨f,ver,sz,s',l,ver',h1,h2,h3,rfl,h5⟩:=r
   exact⟨_,_,h,rfl,by show RD _ _ _;simp only[RD];exact⟨f,ver,sz,s',l,ver',h1,h2,h3,by simp only[bN,Nat.add_assoc],h5⟩⟩
  ·cases h
 ·cases h
theorem Jd{ty:TypeId}{x:LD}{f:Nat}{κ:LD->ag}(h:wF P ty x f κ=some out){v:V}(r:RS g LO x v):∃ x' v',κ x'=some out/\gY P ty (some v) f=some v'/\RS g LO x' v':=by
 unfold wF at h
 dsimp only at h
 split at h
 ·split at h
  ·split at h
   ·cases h
   ·grind [OL,only,gY]
  ·cases h
 ·cases h
theorem qp{ty:TypeId}{cs:List D}{c:Nat}{κ:D->ag}(h:cN P ty cs c κ=some out){vs:List V}(hr:RL g cs vs)(ho:aJ vs) :
 ∃ d v,κ d=some out/\tj P ty vs c=some v/\RD g d v:=by
 unfold cN at h
 unfold tj
 split at h
 ·rename_i ha
  split at h
  ·rename_i n hn
   obtain⟨hn0,h⟩:=aC h
   obtain⟨h1,h2⟩:=gv h
   refine⟨_,.agg ((vs.drop c).take n),h1,by rw[ha,hn];rfl,?_⟩
   simp only[RD]
   exact⟨_,rfl,(hr.drop c).take n,rU (rV ho c) n⟩
  ·cases h
 ·rename_i ha
  obtain⟨d,h1,h2⟩:=iH h
  obtain⟨v,h3,h4⟩:=hr.at h1
  exact⟨d,v,h2,by rw[ha];exact h3,h4⟩
 ·cases h
theorem Jc{ty:TypeId}{x:D}{f:Nat}{κ:D->ag}(h:wD P ty x f κ=some out){v:V}(r:RD g x v):∃ d v',κ d=some out/\qW P ty (some v) f=some v'/\RD g d v':=by
 unfold wD at h
 split at h
 ·rename_i fs hu
  split at h
  ·rename_i fd hf
   split at h
   ·simp only[RD]at r
    obtain⟨vs,rfl,h1,h2⟩:=r
    obtain⟨d,v',k1,k2,k3⟩:=qp h h1 h2
    grind [only,qW]
   ·cases h
  ·cases h
 ·cases h
theorem iz{n:Int}{κ:Nat->ag}(h:dJ n κ=some out):∃ m:Nat,n=(m:Int)/\κ m=some out:=by
 unfold dJ at h
 split at h
 ·grind
 ·cases h
theorem NN{sz:Nat}{l:List (List D)}{v:V}(r:RD g (.row sz l) v){i:Nat}{cs:List D}(hi:l[i]? = some cs) :
 ∃ a z cap vs,v=.slice a z l.length cap sz/\i<l.length/\g.Imm a.f/\cs.length=sz/\loadCells g.s (bN a (i*sz)) sz=some vs/\RL g cs vs/\aJ vs:=by
 have hlt:i<l.length:=by
  grind
 simp only[RD]at r
 rcases r with⟨rfl,_⟩|⟨rfl,_⟩|⟨a,z,cap,h1,_,_,_,h5,h6⟩
 ·simp at hi
 ·simp at hi
 ·obtain⟨vs,k1,k2,k3,k4⟩:=h6.at hi
  exact⟨a,z,cap,vs,h1,hlt,h5 (by intro e;rw[e]at hi;simp at hi),k1,k2,k3,k4⟩
theorem xz{m n:Nat}(h:m<n):Nat.blt m n=true:=Nat.ble_eq_true_of_le h
theorem IV{ty:TypeId}{x i:D}{κ:D->ag}(h:cE P ty x i κ=some out){v w:V}(r:RD g x v)(ri:RD g i w):∃ d v',κ d=some out/\ei P ty (some v) (cZ (some w))=some v'/\RD g d v':=by
 unfold cE at h
 split at h
 ·rename_i el hu
  split at h
  ·rename_i sz hs
   split at h
   ·rename_i k n
    simp only[RD]at ri
    subst ri
    unfold FC at h
    split at h
    ·rename_i s l
     obtain⟨hb,h'⟩:=aC h
     clear h
     obtain rfl:=Nat.eq_of_beq_eq_true hb
     obtain⟨m,rfl,h⟩:=iz h'
     unfold eP at h
     split at h
     ·rename_i cs hc
      obtain⟨a,z,cap,vs,rfl,h2,h3,h4,h5,h6,h7⟩:=NN r hc
      grind [bN,only,cZ,kn,ei,Nat.beq_refl,xz,Bool.and_self,RD]
     ·cases h
    ·rename_i s o n
     obtain⟨hb,h'⟩:=aC h
     clear h
     obtain rfl:=Nat.eq_of_beq_eq_true hb
     obtain⟨m,rfl,h''⟩:=iz h'
     obtain⟨hb,h⟩:=cR h''
     have hm:m<n:=Nat.le_of_ble_eq_true hb
     simp only[RD]at r
     rcases r with⟨h1,⟨h3,_⟩|⟨a,z,c,rfl⟩⟩|⟨st,cap,l,h1,h2,⟨h3,_⟩|⟨h3,f,ver,ver',c,h4,rfl,h5⟩⟩
     ·omega
     ·refine⟨_,.ptr (bN a (m*s)),h,by simp only[cZ,kn,ei,hu,hs,Nat.beq_refl,xz hm,Bool.and_self,cond_true],?_⟩
      simp only[RD]
      exact .inl ⟨h1,_,rfl⟩
     ·omega
     refine⟨_,.ptr (bN ⟨f,ver',0⟩ (m*s)),h,by simp only[cZ,kn,ei,hu,hs,Nat.beq_refl,xz hm,Bool.and_self,cond_true],?_⟩
     simp only[RD]
     exact .inr ⟨f,ver,_,st,cap,l,ver',h4,h1,h2,hm,by simp only[bN,Nat.zero_add,Nat.add_zero],fun e=>(h5 e).1⟩
    ·rename_i s o st n
     obtain⟨hb,h'⟩:=aC h
     clear h
     obtain rfl:=Nat.eq_of_beq_eq_true hb
     obtain⟨m,rfl,h''⟩:=iz h'
     obtain⟨hb,h⟩:=cR h''
     have hm:m<n:=Nat.le_of_ble_eq_true hb
     simp only[RD]at r
     obtain⟨f,ver,s',l,ver',h1,h2,h3,rfl,h5⟩:=r
     refine⟨_,.ptr (bN ⟨f,ver',0⟩ (m*s)),h,by simp only[cZ,kn,ei,hu,hs,Nat.beq_refl,xz hm,Bool.and_self,cond_true],?_⟩
     simp only[RD]
     exact⟨f,ver,_,s',l,ver',h1,h2,h3,by simp only[bN,Nat.zero_add,Nat.add_zero],fun e=>⟨by have:=(h5 e).1;omega,(h5 e).2⟩⟩
    ·cases h
   ·cases h
  ·cases h
 ·cases h
theorem IU{ty:TypeId}{x i:D}{κ:D->ag}(h:ja P ty x i κ=some out){v w:V}(r:RD g x v)(ri:RD g i w):∃ d v',κ d=some out/\nX P ty (some v) (cZ (some w))=some v'/\RD g d v':=by
 unfold ja at h
 split at h
 ·rename_i hu
  split at h
  ·rename_i l
   split at h
   ·grind [RD,iz,eE,ns,only,cZ,kn,nX]
   ·cases h
  ·cases h
 ·rename_i len el hu
  split at h
  ·rename_i cs
   split at h
   ·rename_i sz hs
    split at h
    ·rename_i k n
     simp only[RD]at r ri
     obtain⟨vs,rfl,h1,h2⟩:=r
     subst ri
     obtain⟨m,rfl,h'⟩:=iz h
     obtain⟨hl,h3⟩:=aC h'
     grind [qp,only,cZ,kn,nX]
    ·cases h
   ·cases h
  ·cases h
 ·cases h
theorem Gr{ty:TypeId}{x:D}{ok:Bool}{κ:D->ag}(h:lS P x ty ok κ=some out){v:V}(r:RD g x v):∃ d v',κ d=some out/\kG P (some v) ty ok=some v'/\RD g d v':=by
 have fail:∀ {κ:D->ag},(bif ok then(match oo P ty with|some z=>κ (.tuple [z,.bool false])|none=>none)else none)=some out->∃ d v',κ d=some out/\eV P ty ok=some v'/\RD g d v':=fun {κ} h=>by
  obtain⟨hk,h⟩:=aC h
  split at h
  ·rename_i z hz
   obtain⟨zv,h1,h2,_⟩:=iK (g:=g) hz
   grind [eV,RD,RL]
  ·cases h
 unfold lS at h
 split at h
 ·cases h
 ·rename_i td hni hu
  have hda:∀ w,kG P (some w) ty ok=match some w with
   |some .nilIface=>eV P ty ok
   |some (.iface t v)=>bif Nat.beq t ty then some (bif ok then .tuple [v,.bool true] else v)else eV P ty ok
   |_=>none:=fun w=>by
    grind [kG]
  split at h
  ·simp only[RD]at r
   obtain⟨v',rfl,h1⟩:=r
   rename_i t d
   rw[hda]
   simp only
   cases hb:Nat.beq t ty with
   |true =>
    grind [RD,RL]
   |false =>
    rw[hb]at h
    exact fail h
  ·simp only[RD]at r
   subst r
   rw[hda]
   exact fail h
  ·cases h
 ·cases h
theorem OT{x:D}{i:Nat}{κ:D->ag}(h:cO x i κ=some out){v:V}(r:RD g x v):∃ d v',κ d=some out/\nY (some v) i=some v'/\RD g d v':=by
 unfold cO at h
 split at h
 ·simp only[RD]at r
  obtain⟨vs,rfl,h1⟩:=r
  obtain⟨d,h2,h3⟩:=iH h
  obtain⟨v',h4,h5⟩:=h1.at h2
  exact⟨d,v',h3,h4,h5⟩
 ·cases h
theorem Ql{op:UnOp}{x:D}{κ:D->ag}(h:rI op x κ=some out){v:V}(r:RD g x v):∃ d v',κ d=some out/\JZ op v=some v'/\RD g d v':=by
 unfold rI at h
 split at h
 ·split at h
  ·simp only[RD]at r;subst r;exact⟨_,_,h,rfl,by simp only[RD]⟩
  ·cases h
 ·split at h
  ·simp only[RD]at r;subst r;exact⟨_,_,h,rfl,by simp only[RD]⟩
  ·cases h
 ·cases h
theorem ME{src dst:TypeId}{x:D}{κ:D->ag}(h:oO P src dst x κ=some out){v:V}(r:RD g x v)(s:S):∃ d v',κ d=some out/\jj P s src dst v=some (v',s)/\RD g d v':=by
 have hb:∀(n:Int) (w:Nat),w∈(Utf8.encode n).data.toList.map UInt8.toNat->w<256:=fun n w h=>by
  obtain⟨x,_,rfl⟩:=List.mem_map.1 h
  exact x.toNat_lt
 unfold oO at h
 grind [Option.isNone_some,RD,only,jj,bO,yF]
theorem OD{op:BinOp}{k:IntKind}{a b:Int}{κ:D->ag}(h:Rr op k a b κ=some out):∃ d v',κ d=some out/\zn op k a b=some v'/\RD g d v':=by
 have hz:∀ {κ:ag},boK (!(b==0)) κ=some out->(b==0)=false/\κ=some out:=fun h=>by
  grind [cR]
 cases op
 case add=>exact⟨_,_,h,congrArg some (bO _ _),by simp only[RD]⟩
 case sub=>exact⟨_,_,h,congrArg some (bO _ _),by simp only[RD]⟩
 case mul=>exact⟨_,_,h,congrArg some (bO _ _),by simp only[RD]⟩
 case quo=>obtain⟨h1,h2⟩:=hz h;exact⟨_,.int k (k.wrap (a.tdiv b)),h2,by simp only[zn,h1,cond_false],by simp only[RD]⟩
 case rem=>obtain⟨h1,h2⟩:=hz h;exact⟨_,.int k (a.tmod b),h2,by simp only[zn,h1,cond_false],by simp only[RD]⟩
 all_goals first|(cases h;done)|exact⟨_,_,h,rfl,by simp only[RD]⟩
theorem NA{op:BinOp}{a b:List Nat}{κ:D->ag}(h:Qt op a b κ=some out)(ha:∀ c∈a,c<256)(hb:∀ c∈b,c<256):∃ d v',κ d=some out/\uR op a b=some v'/\RD g d v':=by
 have he:kh a b=some (a==b):=by rw[pV ha hb];congr 1;rw[Bool.eq_iff_iff];simp
 cases op
 case add =>
  obtain⟨hq,h⟩:=cR h
  refine⟨_,.str (a++b),h,by simp only[uR,hq,cond_true],?_⟩
  simp only[RD]
  refine⟨trivial,fun c hc=>?_⟩
  rcases List.mem_append.1 hc with hc|hc
  ·exact ha c hc
  ·exact hb c hc
 case eql=>exact⟨_,.bool (a==b),h,by simp only[uR,he,Option.map],by simp only[RD]⟩
 case neq=>exact⟨_,.bool (!(a==b)),h,by simp only[uR,he,Option.map],by simp only[RD]⟩
 all_goals first|(cases h;done)|exact⟨_,_,h,rfl,by simp only[RD]⟩
theorem DD{eq:TypeId->D->D->(Bool->ag)->ag}{eqv:TypeId->V->V->Option Bool}(he:∀ ty x y (κ:Bool->ag) (v w:V),eq ty x y κ=some out->RD g x v->RD g y w->∃ q,κ q=some out/\eqv ty v w=some q) :
 ∀ {fs:List Field} {xs ys:List D} {q:Bool} {κ:Bool->ag} {vs ws:List V},Mt P eq fs xs ys q κ=some out->RL g xs vs->aJ vs->RL g ys ws->aJ ws->∃ p,κ (q&&p)=some out/\(iN P eqv fs vs ws=some p)
 |[],xs,ys,q,κ,vs,ws,h,_,_,_,_=>⟨true,by rw[Bool.and_true];exact h,rfl⟩
 |f::r,xs,ys,q,κ,vs,ws,h,h1,h2,h3,h4=>by
  simp only[Mt]at h
  cases hn:(f.name == "_")with
  |true=>rw[hn]at h;cases h
  |false =>
   rw[hn]at h
   simp only[cond_false]at h
   obtain⟨a,va,k1,k2,k3⟩:=qp h h1 h2
   obtain⟨b,vb,j1,j2,j3⟩:=qp k1 h3 h4
   obtain⟨p,i1,i2⟩:=he _ _ _ _ _ _ j1 k3 j3
   obtain⟨p',i3,i4⟩:=DD he i1 h1 h2 h3 h4
   grind [Bool.and_assoc,iN]
theorem Bs(okf:Ad->Bool):∀ {d:Nat} {ty:TypeId} {x y:D} {κ:Bool->ag} {v w:V},Jf P d ty x y κ=some out->RD g x v->RD g y w->∃ q,κ q=some out/\cn P okf d ty v w=some q
 |0,_,_,_,_,_,_,h,_,_=>by cases h
 |d+1,ty,x,y,κ,v,w,h,r1,r2=>by
  simp only[Jf]at h
  unfold cn
  split at h
  ·rename_i fs hu
   split at h
   ·simp only[RD]at r1 r2
    obtain⟨vs,rfl,h1,h2⟩:=r1
    obtain⟨ws,rfl,h3,h4⟩:=r2
    cases hs:P.stoodInHeld ty with
    |true=>rw[hs]at h;cases h
    |false =>
     rw[hs]at h
     simp only[cond_false]at h
     obtain⟨p,k1,k2⟩:=DD (eqv:=cn P okf d) (fun ty x y κ v w a b c=>Bs okf (d:=d) a b c) h h1 h2 h3 h4
     grind
   ·cases h
  ·grind [RD]
  ·grind [RD]
  ·rename_i hu
   split at h
   ·simp only[RD]at r1 r2;subst r1 r2
    grind
   ·cases h
  ·rename_i hu
   split at h
   ·simp only[RD]at r1 r2
    obtain⟨rfl,ha⟩:=r1
    obtain⟨rfl,hb⟩:=r2
    refine⟨_,h,?_⟩
    rw[hu]
    simp only
    rw[pV ha hb];congr 1;rw[Bool.eq_iff_iff];simp
   ·cases h
  ·grind [RD]
  ·grind [RD]
  ·cases h
def Uq:V->Nat
 |.bool _=>0|.int ..=>1|.str _=>2|.ptr _=>3|.nilptr=>4|.slice ..=>5|.nilslice=>5|.map _=>6|.nilmap=>7|.func ..=>8|.nilFunc=>9|.iface ..=>10|.nilIface=>11|.agg _=>12|.tuple _=>13|.atom _=>14
def Mx:D->Nat
 |.bool _=>0|.int ..=>1|.str _=>2|.ptr ..=>3|.eptr ..=>3|.bptr ..=>3|.tptr ..=>3|.tb ..=>5|.nilptr=>4|.row ..=>5|.buf ..=>5|.nilrow=>5|.nilx=>5|.map _=>6|.nilmap=>7|.func ..=>8|.nilFunc=>9|.iface ..=>10|.nilIface=>11|.agg _=>12|.tuple _=>13|.yld _=>8|.abool=>0
theorem RD.tag{d:D}{v:V}(r:RD g d v):Uq v=Mx d:=by
 cases d<;>simp only[RD]at r
 case bool=>subst r;rfl
 case int=>subst r;rfl
 case str=>obtain⟨rfl,_⟩:=r;rfl
 case ptr=>obtain⟨f,ver,_,rfl⟩:=r;rfl
 case eptr=>obtain⟨a,vs,rfl,_⟩:=r;rfl
 case bptr=>rcases r with⟨_,a,rfl⟩|⟨f,ver,sz,st,cap,l,ver',_,_,_,_,rfl,_⟩<;>rfl
 case tptr=>obtain⟨f,ver,sz,s',l,ver',_,_,_,rfl,_⟩:=r;rfl
 case tb=>obtain⟨f,ver,s',l,ver',_,_,_,rfl,_⟩:=r;rfl
 case nilptr=>subst r;rfl
 case row=>rcases r with⟨_,rfl⟩|⟨_,a,z,sz',rfl⟩|⟨a,z,cap,rfl,_⟩<;>rfl
 case buf=>rcases r with⟨_,⟨_,rfl|⟨a,z,sz',rfl⟩⟩|⟨a,z,c,rfl⟩⟩|⟨st,cap,l,_,_,⟨_,rfl|⟨a,z,sz',rfl⟩⟩|⟨_,f,ver,ver',c,_,rfl,_⟩⟩<;>rfl
 case nilrow=>rcases r with rfl|⟨a,z,sz',rfl⟩<;>rfl
 case nilx=>subst r;rfl
 case map=>obtain⟨f,ver,_,rfl⟩:=r;rfl
 case nilmap=>subst r;rfl
 case func=>obtain⟨a',b',rfl,_⟩:=r;rfl
 case nilFunc=>subst r;rfl
 case iface=>obtain⟨v',rfl,_⟩:=r;rfl
 case nilIface=>subst r;rfl
 case agg=>obtain⟨vs,rfl,_⟩:=r;rfl
 case tuple=>obtain⟨vs,rfl,_⟩:=r;rfl
 case yld=>obtain⟨f,ver,_,rfl⟩:=r;rfl
 case abool=>obtain⟨q,rfl⟩:=r;rfl
theorem ug{d:D}{j:IntKind}{n:Int}(r:RD g d (.int j n)):d=.int j n:=by
 have h:=r.tag
 cases d<;>first|(cases h;done)|skip
 grind [RD]
theorem uf{d:D}{l:List Nat}(r:RD g d (.str l)):d=.str l:=by
 have h:=r.tag
 cases d<;>first|(cases h;done)|skip
 grind [RD]
theorem Kk{d:D}(r:RD g d .nilIface):d=.nilIface:=by
 have h:=r.tag
 cases d<;>first|(cases h;done)|rfl
theorem Ny{d:D}{vs:List V}(r:RD g d (.agg vs)):∃ cs,d=.agg cs:=by
 have h:=r.tag
 cases d<;>first|(cases h;done)|exact⟨_,rfl⟩
theorem BN{op:BinOp}{ty:TypeId}{x y:Operand}{a b:D}{κ:D->ag}(h:ay P op ty (dc x||dc y) a b κ=some out){v w:V}(r1:RD g a v)(r2:RD g b w)(s:S):∃ d v',κ d=some out/\dO P s op ty x y (some v) (some w)=some v'/\RD g d v':=by
 have gen:∀ {κ:D->ag},eu P op ty x y v w=true->(op=.eql->ee P (bg s) op ty v w=(cn P (bg s) 20 ty v w).map .bool)->(op=.neq->ee P (bg s) op ty v w=(cn P (bg s) 20 ty v w).map fun b=>.bool (!b)) ->
  (op=.eql/\(Jf P 20 ty a b fun q=>κ (.bool q))=some out\/op=.neq/\(Jf P 20 ty a b fun q=>κ (.bool !q))=some out)->∃ d v',κ d=some out/\dO P s op ty x y (some v) (some w)=some v'/\RD g d v':=fun {κ} hg h1 h2 h=>by
  rcases h with⟨e,h⟩|⟨e,h⟩
  ·obtain⟨q,k1,k2⟩:=Bs (bg s) h r1 r2
   grind [only,dO,Option.map,RD]
  ·obtain⟨q,k1,k2⟩:=Bs (bg s) h r1 r2
   grind [only,dO,Option.map,RD]
 unfold ay at h
 split at h
 ·rename_i j m k n
  simp only[RD]at r1 r2;subst r1 r2
  cases hs:nR op with
  |true=>rw[hs]at h;cases h
  |false =>
   rw[hs]at h
   simp only[cond_false]at h
   obtain⟨hk,h⟩:=aC h
   obtain⟨d,v',h1,h2,h3⟩:=OD h
   refine⟨d,v',h1,?_,h3⟩
   grind [eu,lE,dO,ee]
 ·simp only[RD]at r1 r2
  obtain⟨rfl,ha⟩:=r1
  obtain⟨rfl,hb⟩:=r2
  obtain⟨d,v',h1,h2,h3⟩:=NA h ha hb
  refine⟨d,v',h1,?_,h3⟩
  grind [eu,lE,dO,ee]
 ·rename_i n1 n2
  obtain⟨hg,h⟩:=aC h
  have hh:op=.eql/\(Jf P 20 ty a b fun q=>κ (.bool q))=some out\/op=.neq/\(Jf P 20 ty a b fun q=>κ (.bool !q))=some out:=by
   grind
  refine gen ?_ (fun e=>?_) (fun e=>?_) hh
  ·unfold Mg at hg
   unfold eu
   grind [Kk,Ny]
  ·subst e
   unfold ee
   split
   ·obtain rfl:=ug r1
    obtain rfl:=ug r2
    grind
   ·obtain rfl:=uf r1
    obtain rfl:=uf r2
    grind
   ·rfl
  ·subst e
   unfold ee
   split
   ·obtain rfl:=ug r1
    obtain rfl:=ug r2
    grind
   ·obtain rfl:=uf r1
    obtain rfl:=uf r2
    grind
   ·rfl
def dM(H:DH)(g:Gh):Prop:=∀(o:Nat) b,H[o]? = some b->b=.dead\/g.H[o]? = some b
theorem ul{H:DH}(hs:dM H g)(hok:Ok g){o:Nat}(h:Hi H o=true):∃ st cs f,H[o]? = some (.cells st cs)/\g.O[o]? = some (some (f,0))/\∀(s':S) c,s'.get f=g.s.get f->bg s' ⟨f,0,c⟩=true:=by
 unfold Hi at h
 split at h
 ·rename_i st cs hc
  have hg:=(hs o _ hc).resolve_left (fun e=>by cases e)
  obtain⟨f,el,vs,h1,h2,_⟩:=hok.obj o _ hg
  refine⟨st,cs,f,hc,h1,fun s' c hq=>?_⟩
  simp only[bg,hq,h2]
  rfl
 ·cases h
theorem Hf(hok:Ok g){okf:Ad->Bool}{ty:TypeId}{td:TypeDesc}(hu:P.underlying ty=some td)(hd:yc P td=true){o1 o2 f1 f2 c1 c2:Nat}(h1:g.O[o1]? = some (some (f1,0)))(h2:g.O[o2]? = some (some (f2,0)))(k1:okf ⟨f1,0,c1⟩=true)(k2:okf ⟨f2,0,c2⟩=true) :
 cn P okf 20 ty (.ptr ⟨f1,0,c1⟩) (.ptr ⟨f2,0,c2⟩)=some (Nat.beq o1 o2&&Nat.beq c1 c2):=by
 unfold yc at hd
 split at hd
 ·rename_i e
  split at hd
  ·rename_i n hn
   have hz:Nat.beq n 0=false:=by simpa using hd
   unfold cn
   rw[hu]
   simp only[hn,hz,cond_false,CG,k1,k2,Bool.and_self,cond_true,Nat.beq_refl]
   by_cases e:o1=o2
   ·subst e
    rw[h1]at h2;cases h2
    simp only[Nat.beq_refl,cond_true,Bool.true_and]
   ·have hf:f1≠f2:=fun q=>by subst q;exact e (hok.inj _ _ _ _ _ h1 h2)
    have e1:Nat.beq f1 f2=false:=by cases q:Nat.beq f1 f2 with
     |false=>rfl
     |true=>exact(hf (Nat.eq_of_beq_eq_true q)).elim
    have e2:Nat.beq o1 o2=false:=by cases q:Nat.beq o1 o2 with
     |false=>rfl
     |true=>exact(e (Nat.eq_of_beq_eq_true q)).elim
    simp only[e1,e2,cond_false,Bool.false_and]
  ·cases hd
 ·cases hd
theorem qm{H:DH}(hs:dM H g)(hok:Ok g){op:BinOp}{ty:TypeId}{c:Bool}{a b:D}{q:Bool->Bool}{κ:D->ag}(h:Fa P ty c op a b H q κ=some out){v w:V}(r1:RD g a v)(r2:RD g b w) :
 ay P op ty c a b κ=some out\/∃ p,κ (.bool (q p))=some out/\∀ s':S,(∀(o:Nat) st cs f v,H[o]? = some (.cells st cs)->g.O[o]? = some (some (f,v))->s'.get f=g.s.get f)->cn P (bg s') 20 ty v w=some p/\∃ x y,v=.ptr x/\w=.ptr y:=by
 unfold Fa at h
 split at h
 ·rename_i ht
  split at h
  ·split at h
   ·obtain⟨hp,h⟩:=aC h
    simp only[Bool.and_eq_true]at hp
    obtain⟨s1,t1,f1,j1,j2,j3⟩:=ul hs hok hp.1
    obtain⟨s2,t2,f2,k1,k2,k3⟩:=ul hs hok hp.2
    simp only[RD]at r1 r2
    obtain⟨f1',v1,l1,rfl⟩:=r1
    obtain⟨f2',v2,l2,rfl⟩:=r2
    rw[j2]at l1;cases l1
    rw[k2]at l2;cases l2
    refine .inr ⟨_,h,fun s' hs'=>⟨?_,_,_,rfl,rfl⟩⟩
    unfold QF at ht
    split at ht
    ·rename_i td hu
     exact Hf hok hu ht j2 k2 (j3 s' _ (hs' _ _ _ _ _ j1 j2)) (k3 s' _ (hs' _ _ _ _ _ k1 k2))
    ·cases ht
   ·exact .inl h
  ·exact .inl h
 ·exact .inl h
theorem ML{H:DH}(hs:dM H g)(hok:Ok g){op:BinOp}{ty:TypeId}{x y:Operand}{a b:D}{κ:D->ag}(h:xA P op ty (dc x||dc y) a b H κ=some out){v w:V}(r1:RD g a v)(r2:RD g b w):∃ d v',κ d=some out/\dO P g.s op ty x y (some v) (some w)=some v'/\RD g d v':=by
 unfold xA at h
 split at h
 ·rcases qm hs hok h r1 r2 with h|⟨p,h1,h2⟩
  ·exact BN h r1 r2 g.s
  ·obtain⟨h3,x',y',rfl,rfl⟩:=h2 g.s fun _ _ _ _ _ _ _=>rfl
   exact⟨_,.bool p,h1,by simp only[dO,eu,lE,cond_true,ee,h3,Option.map],by simp only[RD]⟩
 ·rcases qm hs hok h r1 r2 with h|⟨p,h1,h2⟩
  ·exact BN h r1 r2 g.s
  ·obtain⟨h3,x',y',rfl,rfl⟩:=h2 g.s fun _ _ _ _ _ _ _=>rfl
   exact⟨_,.bool !p,h1,by simp only[dO,eu,lE,cond_true,ee,h3,Option.map],by simp only[RD]⟩
 ·exact BN h r1 r2 g.s
end Go.AI
set_option linter.all false
noncomputable section
namespace Go.AI
variable[ft]
variable{g:Gh}{LO:List Nat}{t:T LD}{tv:T V}{P:Program}{out:gI}
theorem RD.one{d:D}{v:V}(r:RD g d v)(h1:Mx d≠12)(h2:Mx d≠13):v.one=true:=by
 have h:=r.tag
 cases v<;>first|rfl|(exfalso;first|exact h1 h.symm|exact h2 h.symm)
theorem lQ{n:Nat}{d:D}{κ:List D->ag}(h:ah n d κ=some out){v:V}(r:RD g d v):∃ new,κ new=some out/\RL g new v.cells/\aJ v.cells/\v.cells.length=n:=by
 unfold ah at h
 split at h
 ·simp only[RD]at r
  obtain⟨vs,rfl,h1,h2⟩:=r
  obtain⟨hb,h⟩:=aC h
  refine⟨_,h,h1,h2,?_⟩
  rw[<- Nat.eq_of_beq_eq_true hb]
  exact h1.len
 ·cases h
 ·rename_i n1 n2
  obtain⟨hb,h⟩:=aC h
  have h1:v.one=true:=r.one (by cases d<;>first|exact(n1 _ rfl).elim|(exact fun e=>by cases e)) (by cases d<;>first|exact(n2 _ rfl).elim|(exact fun e=>by cases e))
  rw[rh h1]
  exact⟨_,h,RL.one1 r,eK.2 ⟨h1,rfl⟩,(Nat.eq_of_beq_eq_true hb).symm⟩
theorem nL:∀ {cs:List D} {c:Nat} {new cs':List D} {vs ws:List V},tQ cs c new=some cs'->RL g cs vs->aJ vs->RL g new ws->aJ ws->∃ vs',bU vs c ws=some vs'/\RL g cs' vs'/\aJ vs'/\cs'.length=cs.length
 |cs,c,[],cs',vs,ws,h,h1,h2,h3,_=>by
  simp only[RL]at h3;subst h3
  have:cs'=cs:=by cases cs<;>cases c<;>(simp only[tQ]at h;cases h;rfl)
  subst this
  refine⟨vs,?_,h1,h2,rfl⟩
  cases vs<;>cases c<;>rfl
 |x::r,n+1,y::new,cs',vs,ws,h,h1,h2,h3,h4=>by
  simp only[tQ]at h
  split at h
  ·rename_i l hl
   cases h
   simp only[RL]at h1
   obtain⟨v,vs',rfl,k1,k2⟩:=h1
   obtain⟨vs2,j1,j2,j3,j4⟩:=nL hl k2 (eK.1 h2).2 h3 h4
   simp only[RL]at h3
   obtain⟨w,ws',rfl,_,_⟩:=h3
   exact⟨v::vs2,by simp only[bU,j1,Option.map],by simp only[RL];exact⟨v,vs2,rfl,k1,j2⟩,eK.2 ⟨(eK.1 h2).1,j3⟩,by simp only[List.length_cons,j4]⟩
  ·cases h
 |x::r,0,y::new,cs',vs,ws,h,h1,h2,h3,h4=>by
  simp only[tQ]at h
  split at h
  ·rename_i l hl
   cases h
   simp only[RL]at h1 h3
   obtain⟨v,vs',rfl,k1,k2⟩:=h1
   obtain⟨w,ws',rfl,i1,i2⟩:=h3
   obtain⟨vs2,j1,j2,j3,j4⟩:=nL hl k2 (eK.1 h2).2 i2 (eK.1 h4).2
   exact⟨w::vs2,by simp only[bU,j1,Option.map],by simp only[RL];exact⟨w,vs2,rfl,i1,j2⟩,eK.2 ⟨(eK.1 h4).1,j3⟩,by simp only[List.length_cons,j4]⟩
  ·cases h
 |[],c,y::new,cs',vs,ws,h,_,_,_,_=>by cases c<;>(simp only[tQ]at h;cases h)
theorem vE{cs:List D}{c:Nat}{new:List D}{κ:List D->ag}(h:ar cs c new κ=some out){vs ws:List V}(h1:RL g cs vs)(h2:aJ vs)(h3:RL g new ws)(h4:aJ ws):∃ cs' vs',κ cs'=some out/\bU vs c ws=some vs'/\RL g cs' vs'/\aJ vs'/\cs'.length=cs.length:=by
 grind [ar,nL]
theorem wC(place:Nat->Option (Nat×Nat)):∀ {parts:List (Nat×Operand)} {cs:List D} {κ:List D->ag} {vs:List V},zE place t parts cs κ=some out->(∀ x∈parts,uI g LO t tv x.2)->RL g cs vs->aJ vs ->
 ∃ cs' vs' ws,κ cs'=some out/\du tv parts=some ws/\oE place vs ws=some vs'/\RL g cs' vs'/\aJ vs'
 |[],cs,κ,vs,h,_,h1,h2=>⟨cs,vs,[],h,rfl,rfl,h1,h2⟩
 |(i,x)::r,cs,κ,vs,h,ho,h1,h2=>by
  simp only[zE]at h
  obtain⟨d,v,h,_,k1,k2⟩:=bk h (ho (i,x) List.mem_cons_self)
  split at h
  ·cases h
  ·rename_i off n hp
   obtain⟨hn,h⟩:=aC h
   obtain⟨new,h,k3,k4,k5⟩:=lQ h k2
   obtain⟨cs1,vs1,h,k6,k7,k8,_⟩:=vE h h1 h2 k3 k4
   obtain⟨cs2,vs2,ws,j1,j2,j3,j4,j5⟩:=wC place h (fun y hy=>ho y (List.mem_cons_of_mem _ hy)) k7 k8
   grind [only,du,oE,Nat.beq_refl,Bool.and_self,Option.bind]
theorem xu{ty:TypeId}{parts:List (Nat×Operand)}{z:Option D}{κ:D->ag}(h:pD P t ty parts z κ=some out)(ho:∀ x∈parts,uI g LO t tv x.2)(hz:∀ d,z=some d->∃ z,zero P ty=some z/\RL g d.cells z.cells/\aJ z.cells):∃ d v,κ d=some out/\jP P ty (du tv parts)=some v/\RD g d v:=by
 unfold pD at h
 split at h
 ·rename_i z
  obtain⟨zv,h1,h3,h4⟩:=hz z rfl
  split at h
  ·rename_i fs hu
   obtain⟨ha,h⟩:=aC h
   obtain⟨cs',vs',ws,k1,k2,k3,k4,k5⟩:=wC _ h ho h3 h4
   grind [only,jP,Ej,RD]
  ·rename_i nn el hu
   split at h
   ·rename_i n hn
    obtain⟨cs',vs',ws,k1,k2,k3,k4,k5⟩:=wC _ h ho h3 h4
    exact⟨_,.agg vs',k1,by simp only[jP,h1,k2,hu,hn,k3,Ej],by simp only[RD];exact⟨vs',rfl,k4,k5⟩⟩
   ·cases h
  ·cases h
 ·cases h
theorem Jr{ty:TypeId}{parts:List (Nat×Operand)}{κ:D->ag}(h:Gn P t ty parts κ=some out)(ho:∀ x∈parts,uI g LO t tv x.2):∃ d v,κ d=some out/\jP P ty (du tv parts)=some v/\RD g d v :=
 xu h ho fun d hd=>by obtain⟨zv,h1,_,h3,h4⟩:=iK (g:=g) hd;exact⟨zv,h1,h3,h4⟩
theorem Qa:∀ {vs:List V} {ds:List D},xe vs=some ds->RL g (TY vs ds) vs/\aJ vs
 |[],ds,h=>by cases h;exact⟨by simp only[TY,RL],rfl⟩
 |v::r,ds,h=>by
  simp only[xe]at h
  split at h
  ·rename_i d hd
   split at h
   ·rename_i l hl
    cases h
    obtain⟨h1,h2⟩:=BD (g:=g) hd
    obtain⟨h3,h4⟩:=Qa hl
    refine⟨?_,by simp only[aJ,h2,h4,List.all_cons]at *;simp_all⟩
    simp only[TY,RL]
    refine⟨v,r,rfl,?_,h3⟩
    cases v<;>first|exact h1|(simp only[RD])
   ·cases h
  ·cases h
theorem Gm{ty:TypeId}{parts:List (Nat×Operand)}{κ:D->ag}(h:pD P t ty parts (JV P ty) κ=some out)(ho:∀ x∈parts,uI g LO t tv x.2):∃ d v,κ d=some out/\jP P ty (du tv parts)=some v/\RD g d v :=
 xu h ho fun d hd=>by
  unfold JV at hd
  split at hd
  ·rename_i cs hz
   split at hd
   ·rename_i l hl
    cases hd
    obtain⟨h1,h2⟩:=Qa (g:=g) hl
    exact⟨_,hz,h1,h2⟩
   ·cases hd
  ·cases hd
theorem dM.nil(g:Gh):dM [] g:=fun o b h=>by simp at h
theorem dM.refl(g:Gh):dM g.H g:=fun _ _ h=>.inr h
theorem AK{H:DH}{o:Nat}{κ:Nat->List D->ag}(h:aG H o κ=some out)(hs:dM H g)(hok:Ok g):∃ st cs f el vs,κ st cs=some out/\H[o]? = some (.cells st cs)/\g.H[o]? = some (.cells st cs)/\g.O[o]? = some (some (f,0))/\g.s.get f=some (.cells el false 1 [⟨0,0,vs⟩])/\RL g cs vs/\aJ vs:=by
 unfold aG at h
 split at h
 ·rename_i st cs hc
  have hg:g.H[o]? = some (.cells st cs):=(hs o _ hc).resolve_left (fun e=>by cases e)
  obtain⟨f,el,vs,h1⟩:=hok.obj o _ hg
  grind
 ·cases h
theorem jS{H:DH}{o n:Nat}{κ:Nat->Bool->Bool->List (List D)->ag}(h:gF H o n κ=some out)(hs:dM H g):∃ sz st cap l,κ sz st cap l=some out/\H[o]? = some (.buf sz st cap l)/\g.H[o]? = some (.buf sz st cap l)/\n=l.length:=by
 unfold gF at h
 split at h
 ·rename_i sz st cap l hc
  obtain⟨hb,h⟩:=aC h
  exact⟨sz,st,cap,l,h,hc,(hs o _ hc).resolve_left (fun e=>by cases e),Nat.eq_of_beq_eq_true hb⟩
 ·cases h
theorem EB{H:DH}{o s:Nat}{κ:Nat->List (List D)->ag}(h:JO H o s κ=some out)(hs:dM H g):∃ sz l,κ sz l=some out/\H[o]? = some (.tbuf sz s l)/\g.H[o]? = some (.tbuf sz s l):=by
 unfold JO at h
 split at h
 ·rename_i sz s' l hc
  obtain⟨hb,h'⟩:=aC h
  clear h
  obtain rfl:=Nat.eq_of_beq_eq_true hb
  exact⟨sz,l,h',hc,(hs o _ hc).resolve_left (fun e=>by cases e)⟩
 ·cases h
theorem Fz{s:S}{f el:Nat}{vs:List V}(h:s.get f=some (.cells el false 1 [⟨0,0,vs⟩])):loadCells s ⟨f,0,0⟩ vs.length=some vs:=by
 rw[WE h,List.drop_zero];exact cT _ _ rfl
theorem Ow{ty:TypeId}{d:D}{H:DH}{κ:D->ag}(h:eZ P ty d H κ=some out)(hs:dM H g)(hok:Ok g){v:V}(r:RD g d v):∃ d' v',κ d'=some out/\im P g.s ty (some v)=some (.val v' g.s)/\RD g d' v':=by
 unfold eZ at h
 split at h
 ·simp only[RD]at r
  obtain⟨a,vs,rfl,h1,h2,h3,h4⟩:=r
  obtain⟨d',v',k1,k2,k3⟩:=iT h h2 h3 h4
  exact⟨d',v',k1,by rw[gB,k2];rfl,k3⟩
 ·rename_i o c
  simp only[RD]at r
  obtain⟨f,ver,h1,rfl⟩:=r
  obtain⟨_,cs,f',el,vs,h,_,_,h2,h3,h4,h5⟩:=AK h hs hok
  rw[h1]at h2;cases h2
  obtain⟨d',v',k1,k2,k3⟩:=iT h (a:=⟨f,0,0⟩) (by rw[<- h4.len];exact Fz h3) h4 h5
  refine⟨d',v',k1,?_,k3⟩
  rw[gB,show(⟨f,0,c⟩:Ad)=bN ⟨f,0,0⟩ c by simp[bN],k2];rfl
 ·rename_i o n i c
  simp only[RD]at r
  obtain⟨sz',st',cap',l',h,_,h6,h7⟩:=jS h hs
  rcases r with⟨⟨_,_,_,k1⟩,_⟩|⟨f,ver,sz,st,cap,l,ver',h1,h2,h3,h4,rfl,h5⟩
  ·rw[h6]at k1;cases k1
  rw[h2]at h6;cases h6
  unfold eP at h
  split at h
  ·rename_i cs hc
   obtain⟨_,i1|⟨i1,f',ver2,el,nv,vers,cells,i2,i3,i4,i5,i6,i7⟩⟩:=hok.obj o _ h2
   ·grind
   ·rw[h1]at i2;cases i2
    rw[h5 h7]
    obtain⟨vs,j1,j2,j3,j4⟩:=i7.at hc
    obtain⟨d',v',k1,k2,k3⟩:=iT h (a:=bN ⟨f,ver,0⟩ (i*sz')) (by rw[j1];exact j2) j3 j4
    refine⟨d',v',k1,?_,k3⟩
    rw[gB,show(⟨f,ver,i*sz'+c⟩:Ad)=bN (bN ⟨f,ver,0⟩ (i*sz')) c by simp[bN],k2];rfl
  ·cases h
 ·rename_i o s i c
  simp only[RD]at r
  obtain⟨sz',l',h,_,h6⟩:=EB h hs
  obtain⟨f,ver,sz,s',l,ver',h1,h2,h3,rfl,h5⟩:=r
  rw[h2]at h6;cases h6
  obtain⟨h4,rfl⟩:=h5 rfl
  unfold eP at h
  split at h
  ·rename_i cs hc
   obtain⟨_,f',ver2,el,nv,vers,cells,i2,i3,i4,i5,i6,i7⟩:=hok.obj o _ h2
   rw[h1]at i2;cases i2
   obtain⟨vs,j1,j2,j3,j4⟩:=i7.at hc
   obtain⟨d',v',k1,k2,k3⟩:=iT h (a:=bN ⟨f,ver',0⟩ (i*sz')) (by rw[j1];exact j2) j3 j4
   refine⟨d',v',k1,?_,k3⟩
   rw[gB,show(⟨f,ver',i*sz'+c⟩:Ad)=bN (bN ⟨f,ver',0⟩ (i*sz')) c by simp[bN],k2];rfl
  ·cases h
 ·cases h
theorem CR{ty:TypeId}{x:LD}{L:LS}{H:DH}{κ:D->ag}(h:jF P ty x L H κ=some out)(hs:dM H g)(hok:Ok g)(hl:SN g L LO){v:V}(r:RS g LO x v):∃ d' v',κ d'=some out/\im P g.s ty (some v)=some (.val v' g.s)/\RD g d' v':=by
 cases x with
 |g d=>exact Ow h hs hok r
 |u=>cases h
 |lp k c =>
  simp only[jF]at h
  obtain⟨f,h1,rfl⟩:=r
  split at h
  ·rename_i st cs hc
   obtain⟨_,h2|⟨el,vs,h2,h3,h4⟩⟩:=hl k _ f hc h1
   ·simp only at h2
    subst h2
    exfalso
    unfold cN at h
    split at h
    ·split at h
     ·rename_i n _
      obtain⟨hn,h⟩:=aC h
      obtain⟨_,q⟩:=gv h
      have:=Nat.le_of_ble_eq_true hn
      grind
     ·cases h
    ·grind [iH]
    ·cases h
   ·obtain⟨d',v',k1,k2,k3⟩:=iT h (a:=⟨f,0,0⟩) (by rw[<- h3.len];exact Fz h2) h3 h4
    refine⟨d',v',k1,?_,k3⟩
    rw[gB,show(⟨f,0,c⟩:Ad)=bN ⟨f,0,0⟩ c by simp[bN],k2];rfl
  ·cases h
theorem mN{ty el:TypeId}{d:TypeDesc}(h:ut P ty=some (d,el)):∃ kt,P.underlying ty=some (.map kt el)/\P.underlying kt=some d/\(qH d||yc P d)=true/\dT P kt=true:=by
 unfold ut at h
 split at h
 ·rename_i kt el' hu
  split at h
  ·rename_i d' hd
   cases hk:qH d'||yc P d' with
   |false=>rw[hk]at h;cases h
   |true =>
    rw[hk]at h;cases h
    refine⟨kt,hu,hd,hk,?_⟩
    unfold dT
    rw[hd]
    cases d<;>first|(cases hk;done)|rfl
  ·cases h
 ·cases h
def JI(H:DH)(d:D):Prop:=∀ o c,d=.ptr o c->Hi H o=true
theorem nP{H:DH}:∀ {es:List (D×D)},iX H es=true->∀ p∈es,JI H p.1
 |[],_,_,hp=>nomatch hp
 |(x,v)::r,h,p,hp=>by
  cases x
  case ptr o c =>
   simp only[iX,Bool.and_eq_true]at h
   rcases List.mem_cons.1 hp with rfl|hp
   ·intro o' c' e;cases e;exact h.1
   ·exact nP h.2 p hp
  all_goals
   simp only[iX]at h
   rcases List.mem_cons.1 hp with rfl|hp
   ·intro o' c' e;cases e
   ·exact nP h p hp
theorem nQ{H:DH}(hs:dM H g)(hok:Ok g){kt:TypeId}{td:TypeDesc}(hu:P.underlying kt=some td)(hd:(qH td||yc P td)=true){a b:D}(pa:JI H a)(pb:JI H b){v w:V}{q:Bool}(h:iY a b=some q)(hf:pj td a=true)(r1:RD g a v)(r2:RD g b w):cn P (bg g.s) 20 kt v w=some q:=by
 by_cases hp:∃ o1 c1 o2 c2,a=.ptr o1 c1/\b=.ptr o2 c2
 ·obtain⟨o1,c1,o2,c2,rfl,rfl⟩:=hp
  obtain⟨s1,t1,f1,j1,j2,j3⟩:=ul hs hok (pa o1 c1 rfl)
  obtain⟨s2,t2,f2,k1,k2,k3⟩:=ul hs hok (pb o2 c2 rfl)
  simp only[RD]at r1 r2
  obtain⟨f1',v1,l1,rfl⟩:=r1
  obtain⟨f2',v2,l2,rfl⟩:=r2
  rw[j2]at l1;cases l1
  rw[k2]at l2;cases l2
  cases h
  have hd':yc P td=true:=by
   cases td<;>first|(cases hf;done)|simpa[qH]using hd
  exact Hf hok hu hd' j2 k2 (j3 g.s _ rfl) (k3 g.s _ rfl)
 unfold iY at h
 unfold cn
 rw[hu]
 split at h
 ·simp only[RD]at r1 r2;subst r1 r2
  revert h
  cases hk:cY _ _ with
  |false=>intro h;cases h
  |true =>
   intro h
   simp only[cond_true]at h
   cases td<;>first|(cases hf;done)|(simp only[hk,cond_true];exact h)
 ·simp only[RD]at r1 r2
  obtain⟨rfl,ha⟩:=r1
  obtain⟨rfl,hb⟩:=r2
  cases h
  cases td<;>first|(cases hf;done)|(simp only;rw[pV ha hb];congr 1;rw[Bool.eq_iff_iff];simp)
 ·simp only[RD]at r1 r2;subst r1 r2
  cases h
  cases td<;>first|(cases hf;done)|rfl
 ·rename_i o c o' c'
  exact(hp ⟨o,c,o',c',rfl,rfl⟩).elim
 ·cases h
def Uf(g:Gh):Option D->Option V->Prop
 |some d,some v=>RD g d v
 |none,none=>True
 |_,_=>False
theorem pJ.find{H:DH}(hs:dM H g)(hok:Ok g){kt:TypeId}{td:TypeDesc}(hu:P.underlying kt=some td)(hd:(qH td||yc P td)=true){k:D}{kv:V}(hf:pj td k=true)(pk:JI H k)(rk:RD g k kv):∀ {es:List (D×D)} {ents:List ol} {r:Option D},((∃ o c,k=.ptr o c)->∀ p∈es,JI H p.1)->pJ g es ents->qB k es=some r->∃ rv,bV (cn P (bg g.s) 20 kt) kv ents=some rv/\Uf g r rv
 |[],_,r,_,h,e=>by
  simp only[pJ]at h;subst h
  cases e;exact⟨none,rfl,trivial⟩
 |(x,v)::l,_,r,ps,h,e=>by
  simp only[pJ]at h
  obtain⟨⟨ke,ve,born⟩,es',rfl,h1,h2,_,h4⟩:=h
  simp only[qB]at e
  have px:∀ {q},iY k x=some q->JI H x:=fun {q} hq o c ex=>by
   subst ex
   cases k<;>first|(cases hq;done)|exact ps ⟨_,_,rfl⟩ _ List.mem_cons_self o c rfl
  split at e
  ·rename_i hq
   cases e
   exact⟨some ve,by simp only[bV,nQ hs hok hu hd pk (px hq) hq hf rk h1,bV.foundKey],h2⟩
  ·rename_i hq
   obtain⟨rv,k1,k2⟩:=pJ.find hs hok hu hd hf pk rk (fun e p hp=>ps e p (List.mem_cons_of_mem _ hp)) h4 e
   exact⟨rv,by simp only[bV,nQ hs hok hu hd pk (px hq) hq hf rk h1,bV.foundKey,k1],k2⟩
  ·cases e
theorem wZ{H:DH}{o:Nat}{κ:List (D×D)->ag}(h:jW H o κ=some out)(hs:dM H g)(hok:Ok g):∃ es f ents clock,κ es=some out/\H[o]? = some (.map es)/\g.H[o]? = some (.map es)/\g.O[o]? = some (some (f,0))/\g.s.get f=some (.map ents clock)/\pJ g es ents:=by
 unfold jW at h
 split at h
 ·rename_i es hc
  have hg:g.H[o]? = some (.map es):=(hs o _ hc).resolve_left (fun e=>by cases e)
  obtain⟨f,ents,clock,h1,h2,h3⟩:=hok.obj o _ hg
  grind
 ·cases h
theorem zr{el:TypeId}{ok:Bool}{o:Option D}{κ:D->ag}(h:dL P el ok o κ=some out){rv:Option V}(hr:Uf g o rv):∃ d v,κ d=some out/\HK P el ok (some rv)=some v/\RD g d v:=by
 cases o with
 |some d =>
  cases rv with
  |none=>exact hr.elim
  |some v =>
   refine⟨_,_,h,rfl,?_⟩
   cases ok with
   |false=>exact hr
   |true=>simp only[cond_true,RD,RL];exact⟨_,rfl,v,_,rfl,hr,_,_,rfl,rfl,rfl⟩
 |none =>
  cases rv with
  |some _=>exact hr.elim
  |none =>
   simp only[dL]at h
   split at h
   ·rename_i z hz
    obtain⟨zv,h1,h2,_⟩:=iK (g:=g) hz
    grind [HK,RD,RL]
   ·cases h
theorem LF{ty:TypeId}{m k:D}{ok:Bool}{H:DH}{κ:D->ag}(h:eR P ty m k ok H κ=some out)(hs:dM H g)(hok:Ok g){mv kv:V}(r1:RD g m mv)(r2:RD g k kv):∃ d v,κ d=some out/\jh P g.s ty (some mv) (some kv) ok=some v/\RD g d v:=by
 unfold eR at h
 split at h
 ·rename_i td el hm
  obtain⟨kt,hu,hk,hd,hsk⟩:=mN hm
  split at h
  ·obtain⟨hf,h⟩:=aC h
   simp only[RD]at r1
   obtain⟨f,ver,h1,rfl⟩:=r1
   obtain⟨es,f',ents,clock,h,_,_,h2,h3,h4⟩:=wZ h hs hok
   rw[h1]at h2;cases h2
   have hh:JI H k/\((∃ o c,k=.ptr o c)->∀ p∈es,JI H p.1)/\(gR k es fun r=>dL P el ok r κ)=some out:=by
    split at h
    ·obtain⟨hp,h⟩:=aC h
     simp only[Bool.and_eq_true]at hp
     exact⟨fun o c e=>by cases e;exact hp.1,fun _=>nP hp.2,h⟩
    ·rename_i hne
     exact⟨fun o c e=>(hne o c e).elim,fun⟨o,c,e⟩=>(hne o c e).elim,h⟩
   obtain⟨pk,ps,h⟩:=hh
   unfold gR at h
   split at h
   ·rename_i r hr
    obtain⟨rv,k1,k2⟩:=h4.find (P:=P) hs hok hk hd hf pk r2 ps hr
    grind [zr,only,jh,wU]
   ·cases h
  ·simp only[RD]at r1;subst r1
   obtain⟨d,v,j1,j2,j3⟩:=zr (g:=g) h (rv:=none) trivial
   grind [only,jh,wU,bV]
  ·cases h
 ·cases h
theorem pJ.len:∀ {es:List (D×D)} {ents:List ol},pJ g es ents->ents.length=es.length
 |[],_,h=>by simp only[pJ]at h;subst h;rfl
 |(x,v)::l,_,h=>by
  simp only[pJ]at h
  obtain⟨e,es',rfl,_,_,_,h4⟩:=h
  simp only[List.length_cons,pJ.len h4]
theorem Ot{ty:TypeId}{x:D}{H:DH}{κ:D->ag}(h:eC P ty x H κ=some out)(hs:dM H g)(hok:Ok g){v:V}(r:RD g x v):∃ d v',κ d=some out/\ik P ty g.s v=some v'/\RD g d v':=by
 unfold eC at h
 split at h
 ·rename_i hu
  split at h
  ·simp only[RD]at r
   obtain⟨rfl,_⟩:=r
   exact⟨_,.int .i64 _,h,by simp only[ik,hu,bO];rfl,by simp only[RD]⟩
  ·cases h
 ·rename_i hu
  split at h
  ·rename_i l
   simp only[RD]at r
   refine⟨_,.int .i64 (l.length:Nat),h,?_,by simp only[RD]⟩
   rcases r with⟨rfl,rfl⟩|⟨rfl,a,z,sz',rfl⟩|⟨a,z,cap,rfl,_⟩
   ·simp_all[ik]
   ·simp_all[ik,bO]
   simp_all[ik,bO]
  ·rename_i n
   simp only[RD]at r
   rcases r with⟨_,⟨rfl,rfl|⟨a,z,sz',rfl⟩⟩|⟨a,z,c,rfl⟩⟩|⟨st,cap,l,_,_,⟨rfl,rfl|⟨a,z,sz',rfl⟩⟩|⟨_,f,ver,ver',c,_,rfl,_⟩⟩
   ·exact⟨_,.int .i64 0,h,by simp only[ik,hu],by simp only[RD];rfl⟩
   ·exact⟨_,.int .i64 0,h,by simp only[ik,hu,bO];rfl,by simp only[RD];rfl⟩
   ·exact⟨_,.int .i64 (n:Nat),h,by simp only[ik,hu,bO],by simp only[RD]⟩
   ·exact⟨_,.int .i64 0,h,by simp only[ik,hu],by simp only[RD];rfl⟩
   ·exact⟨_,.int .i64 0,h,by simp only[ik,hu,bO];rfl,by simp only[RD];rfl⟩
   ·exact⟨_,.int .i64 (n:Nat),h,by simp only[ik,hu,bO],by simp only[RD]⟩
  ·rename_i n
   simp only[RD]at r
   obtain⟨f,ver,s',l,ver',_,_,_,rfl,_⟩:=r
   exact⟨_,.int .i64 (n:Nat),h,by simp only[ik,hu,bO],by simp only[RD]⟩
  ·simp only[RD]at r
   refine⟨_,.int .i64 0,h,?_,by simp only[RD]⟩
   rcases r with rfl|⟨a,z,sz',rfl⟩
   ·simp_all[ik]
   simp_all[ik,bO]
  ·simp only[RD]at r;subst r
   exact⟨_,.int .i64 0,h,by simp only[ik,hu],by simp only[RD]⟩
  ·cases h
 ·rename_i hu
  split at h
  ·simp only[RD]at r
   obtain⟨f,ver,h1,rfl⟩:=r
   obtain⟨es,f',ents,clock,h,_,_,h2,h3,h4⟩:=wZ h hs hok
   rw[h1]at h2;cases h2
   exact⟨_,.int .i64 (es.length:Nat),h,by simp only[ik,hu,h3,h4.len],by simp only[RD]⟩
  ·simp only[RD]at r;subst r
   exact⟨_,.int .i64 0,h,by simp only[ik,hu],by simp only[RD]⟩
  ·cases h
 ·cases h
theorem Of{q:Bool}{x y:D}{κ:D->ag}(h:LB q x y κ=some out){v w:V}(r1:RD g x v)(r2:RD g y w):∃ d v',κ d=some out/\(bif q then IP v w else IN v w)=some v'/\RD g d v':=by
 unfold LB at h
 split at h
 ·split at h
  ·simp only[RD]at r1 r2;subst r1 r2
   obtain⟨hk,h⟩:=aC h
   refine⟨_,_,h,?_,by simp only[RD];rfl⟩
   grind [IP,IN]
  ·cases h
 ·cases h
theorem vR{q:Bool}:∀ {l:List D} {x:D} {κ:D->ag} {ws:List V} {v:V},zd q x l κ=some out->RD g x v->RL g l ws->∃ d v',κ d=some out/\ws.foldlM (fun a b=>bif q then IP a b else IN a b) v=some v'/\RD g d v'
 |[],x,κ,ws,v,h,r1,r2=>by simp only[RL]at r2;subst r2;exact⟨x,v,h,rfl,r1⟩
 |y::l,x,κ,ws,v,h,r1,r2=>by
  simp only[RL]at r2
  obtain⟨w,ws',rfl,r3,r4⟩:=r2
  simp only[zd]at h
  obtain⟨d,v1,h,h1,h2⟩:=Of h r1 r3
  obtain⟨d',v',k1,k2,k3⟩:=vR h h2 r4
  grind
end Go.AI
set_option linter.all false
noncomputable section
namespace Go.AI
variable[ft]
variable{b:Nat}{P0:List Nat}{g:Gh}{LO:List Nat}{t:T LD}{L:LS}{tv:T V}{P:Program}{out:gI}
def JS(g:Gh)(L:LS)(LO:List Nat)(g':Gh)(L':LS):Prop:=∀(k:Nat) st cs f,L[k]? = some (st,cs)->LO[k]? = some f->∃ st' cs',L'[k]? = some (st',cs')/\st<=st'/\(st=st'->cs'=cs/\g'.s.get f=g.s.get f)
structure Ca(g:Gh)(L:LS)(LO:List Nat)(g':Gh)(L':LS)(LO':List Nat):Prop where
 pre:LO <+: LO'
 pvn:JS g L LO g' L'
theorem JS.of{L:LS}{g g':Gh}{LO:List Nat}(hs:∀ f∈LO,g'.s.get f=g.s.get f):JS g L LO g' L:=fun _ st cs f h1 h2=>⟨st,cs,h1,Nat.le_refl _,fun _=>⟨rfl,hs f (List.mem_of_getElem? h2)⟩⟩
theorem JS.trans{x y z:Gh}{L M N:LS}{LO LO':List Nat}(h:JS x L LO y M)(hp:LO <+: LO')(k:JS y M LO' z N):JS x L LO z N:=fun i st cs f h1 h2=>by
 obtain⟨st',cs',h3,h4,h5⟩:=h i st cs f h1 h2
 obtain⟨q,rfl⟩:=hp
 obtain⟨s2,c2,k1,k2,k3⟩:=k i st' cs' f h3 (dX q h2)
 grind
theorem Ca.refl(g:Gh)(L:LS)(LO:List Nat):Ca g L LO g L LO:=⟨List.prefix_rfl,JS.of fun _ _=>rfl⟩
theorem Ca.trans{x y z:Gh}{L M N:LS}{A B C:List Nat}(h:Ca x L A y M B)(k:Ca y M B z N C):Ca x L A z N C:=⟨h.pre.trans k.pre,h.pvn.trans h.pre k.pvn⟩
theorem Ca.ps{g g':Gh}{L:LS}{LO:List Nat}(hg:g'.s=g.s):Ca g L LO g' L LO:=⟨List.prefix_rfl,JS.of fun _ _=>by rw[hg]⟩
theorem Ca.al(h:FI b P0 g t L tv LO){g':Gh}(B:dG)(hg:g'.s=g.s.alloc B):Ca g L LO g' L LO:=⟨List.prefix_rfl,JS.of fun f hf=>by rw[hg];exact aH (h.lo_lt hf)⟩
theorem Ca.op(h:FI b P0 g t L tv LO){g':Gh}{o f ver:Nat}{B:dG}(ho:g.O[o]? = some (some (f,ver)))(hg:g'.s=g.s.put f B):Ca g L LO g' L LO:=⟨List.prefix_rfl,JS.of fun f' hf=>by rw[hg];exact cr fun e=>h.lo_out hf o ver (by rw[<- e];exact ho)⟩
theorem Ca.new(h:FI b P0 g t L tv LO){g':Gh}{B:dG}(x:Nat×List D)(f:Nat)(hg:g'.s=g.s.alloc B):Ca g L LO g' (L++[x]) (LO++[f]):=⟨List.prefix_append _ _,fun _ st cs f h1 h2=>⟨st,cs,dX _ h1,Nat.le_refl _,fun _=>⟨rfl,by rw[hg];exact aH (h.lo_lt (List.mem_of_getElem? h2))⟩⟩⟩
theorem Ca.put(h:FI b P0 g t L tv LO){g':Gh}{B:dG}{k f st:Nat}{cs0:List D}(hk:L[k]? = some (st,cs0))(hf:LO[k]? = some f)(cs:List D)(hg:g'.s=g.s.put f B):Ca g L LO g' (L.set k (st+1,cs)) LO:=⟨List.prefix_rfl,fun k' st' cs' f' h1 h2=>by
 by_cases e:k=k'
 ·subst e
  rw[hk]at h1;cases h1
  exact⟨st+1,cs,aU hk,Nat.le_succ _,fun q=>by omega⟩
 ·exact⟨st',cs',by rw[cK e];exact h1,Nat.le_refl _,fun _=>⟨rfl,by rw[hg];exact cr fun q=>e (rY h.nd hf (by rw[q];exact h2))⟩⟩⟩
def rH(b:Nat)(P0:List Nat)(g:Gh)(t:T LD)(L:LS)(tv:T V)(LO:List Nat)(L':LS)(H':DH)(s':S)(Q:Gh->List Nat->Prop):Prop :=
 ∃ g' LO',g'.H=H'/\g'.s=s'/\FI b P0 g' t L' tv LO'/\Mv b g g'/\Ca g L LO g' L' LO'/\Q g' LO'
theorem rH.same(h:FI b P0 g t L tv LO){Q:Gh->List Nat->Prop}(q:Q g LO):rH b P0 g t L tv LO L g.H g.s Q:=⟨g,LO,rfl,rfl,h,.refl b g,.refl g L LO,q⟩
theorem Hs(h:FI b P0 g t L tv LO){esc:Bool}{cs:List D}{κ:xO->ag}(e:IK esc cs L g.H κ=some out){vs:List V}(hr:RL g cs vs)(ho:aJ vs)(el:TypeId) :
 ∃ x L' H',κ (.val x L' H')=some out/\rH b P0 g t L tv LO L' H' (g.s.alloc (.cells el false 1 [⟨0,0,vs⟩])) fun g' LO'=>RS g' LO' x (.ptr ⟨g.s.next,0,0⟩):=by
 unfold IK at e
 cases esc with
 |true =>
  refine⟨_,_,_,e,g.obj (.cells 0 cs) (.cells el false 1 [⟨0,0,vs⟩]),LO,rfl,rfl,?_,pd h.ok h.bl _ _,.al h _ rfl,?_⟩
  ·exact h.mkobj ⟨g.s.next,el,vs,mK h.ok _ _,qu _ _,hr.mono (we h.ok.len _ _),ho⟩
  ·show RD _ _ _
   simp only[RD]
   exact⟨g.s.next,0,mK h.ok _ _,rfl⟩
 |false =>
  refine⟨_,_,_,e,g.prv (.cells el false 1 [⟨0,0,vs⟩]),LO++[g.s.next],rfl,rfl,h.prv hr ho,QT h.ok h.bl _,.new h _ _ rfl,?_⟩
  exact⟨g.s.next,by rw[h.own.1];exact gU _ _,rfl⟩
theorem uo:∀(l:List D) (c:Nat),tQ l c []=some l
 |[],0=>rfl
 |[],_+1=>rfl
 |_::_,0=>rfl
 |_::_,_+1=>rfl
theorem Hm:∀(x r new:List D),new.length=x.length->tQ (x++r) 0 new=some (new++r)
 |[],r,[],_=>uo r 0
 |a::x,r,b::new,h=>by simp only[List.cons_append,tQ,Hm x r new (by simpa using h)]
 |[],_,_::_,h=>by simp at h
 |_::_,_,[],h=>by simp at h
theorem CI:∀(x r new:List D) (k:Nat),tQ (x++r) (x.length+k) new=(tQ r k new).map (x++·)
 |[],r,new,k=>by simp
 |a::x,r,[],k=>by rw[uo,uo];rfl
 |a::x,r,b::new,k=>by
  rw[List.cons_append,List.length_cons,show x.length+1+k=(x.length+k)+1 by omega]
  simp only[tQ,CI x r (b::new) k]
  cases tQ r k (b::new)<;>rfl
theorem Fe:∀(x r new:List D) (k:Nat) (x':List D),tQ x k new=some x'->tQ (x++r) k new=some (x'++r)
 |x,r,[],k,x',h=>by rw[uo]at h ⊢;cases h;rfl
 |a::x,r,b::new,k+1,x',h=>by
  simp only[tQ]at h
  split at h
  ·rename_i l hl;cases h;simp only[List.cons_append,tQ,Fe x r (b::new) k l hl]
  ·cases h
 |a::x,r,b::new,0,x',h=>by
  simp only[tQ]at h
  split at h
  ·rename_i l hl;cases h;simp only[List.cons_append,tQ,Fe x r new 0 l hl]
  ·cases h
 |[],r,b::new,k,x',h=>by cases k<;>(simp only[tQ]at h;cases h)
theorem vC{n:Nat}:∀ {l:List (List D)} {i c:Nat} {cs cs' new:List D},(∀ x∈l,x.length=n)->l[i]? = some cs->tQ cs c new=some cs'->tQ l.flatten (i*n+c) new=some (l.set i cs').flatten
 |[],i,c,cs,cs',new,_,h,_=>by simp at h
 |x::l,0,c,cs,cs',new,hn,h,e=>by
  simp_all[List.flatten_cons,List.set_cons_zero,Nat.zero_mul,Nat.zero_add,Fe]
 |x::l,i+1,c,cs,cs',new,hn,h,e=>by
  simp only[List.flatten_cons,List.set_cons_succ]
  have hx:=hn x List.mem_cons_self
  rw[show(i+1)*n+c=x.length+(i*n+c)by rw[hx,Nat.add_mul];omega,CI,vC (fun y hy=>hn y (List.mem_cons_of_mem _ hy)) (by simpa using h) e]
  rfl
theorem HL{n:Nat}:∀ {l:List (List D)} {i:Nat} {cs:List D},(∀ x∈l,x.length=n)->l[i]? = some cs->(l.flatten.drop (i*n)).take n=cs
 |[],i,cs,_,h=>by simp at h
 |x::l,0,cs,hn,h=>by
  grind
 |x::l,i+1,cs,hn,h=>by
  have hx:=hn x List.mem_cons_self
  rw[List.flatten_cons,show(i+1)*n=x.length+i*n by rw[hx,Nat.add_mul];omega,<- List.drop_drop,List.drop_left]
  simp_all[HL,List.mem_cons_of_mem]
theorem jd{n:Nat}:∀ {l:List (List D)},(∀ x∈l,x.length=n)->l.flatten.length=l.length*n
 |[],_=>by simp
 |x::l,hn=>by
  rw[List.flatten_cons,List.length_append,jd (fun y hy=>hn y (List.mem_cons_of_mem _ hy)),hn x List.mem_cons_self,List.length_cons,Nat.add_mul];omega
theorem RR.flat{a:Ad}{n:Nat}{l:List (List D)}{vs:List V}(hn:∀ x∈l,x.length=n)(hl:loadCells g.s a (l.length*n)=some vs)(hr:RL g l.flatten vs)(ho:aJ vs):RR g a n l:=RR.of fun i cs hx=>by
 have hi:i<l.length:=by
  grind
 have hle:i*n+n<=l.length*n:=by
  have:=Nat.mul_le_mul_right n (show i+1<=l.length from hi)
  grind
 refine⟨_,hn cs (List.mem_of_getElem? hx),gK hl hle,?_,rU (rV ho _) _⟩
 have:=(hr.drop (i*n)).take n
 grind [HL]
theorem RR.lens:∀ {l:List (List D)} {a:Ad} {n:Nat},RR g a n l->∀ x∈l,x.length=n
 |[],_,_,_,x,hx=>by cases hx
 |y::l,a,n,r,x,hx=>by
  simp only[RR]at r
  rcases List.mem_cons.1 hx with rfl|hx
  ·grind
  ·exact RR.lens r.2 x hx
theorem yg{s:S}{a:Ad}{m n:Nat}{x y:List V}(h1:loadCells s a m=some x)(h2:loadCells s (bN a m) n=some y):loadCells s a (m+n)=some (x++y):=by
 have key:∀(u:mf),(bif Nat.ble u.lo a.c then aN m (u.cells.drop (a.c - u.lo))else none)=some x->(bif Nat.ble u.lo (a.c+m)then aN n (u.cells.drop (a.c+m - u.lo))else none)=some y->(bif Nat.ble u.lo a.c then aN (m+n) (u.cells.drop (a.c - u.lo))else none)=some (x++y):=fun u e1 e2=>by
  grind [Nat.le_of_ble_eq_true,Nat.ble,Nat.ble_eq_true_of_le,dS,List.length_drop,kR,List.drop_drop]
 unfold loadCells at h1 h2 ⊢
 simp only[bN]at h2
 split at h1
 ·rename_i hg
  rw[hg]at h2
  simp only at h2
  split at h1
  ·grind
  ·cases h1
 ·rename_i hg
  rw[hg]at h2
  simp only at h2
  split at h1
  ·grind
  ·cases h1
 ·cases h1
theorem RR.cells:∀ {l:List (List D)} {a:Ad} {n:Nat},RR g a n l->l≠[]->∃ vs,loadCells g.s a (l.length*n)=some vs/\RL g l.flatten vs/\aJ vs
 |[],_,_,_,h=>(h rfl).elim
 |[x],a,n,r,_=>by
  grind [RR]
 |x::y::l,a,n,r,_=>by
  rw[RR]at r
  obtain⟨⟨vs,h1,h2,h3,h4⟩,r⟩:=r
  obtain⟨ws,k1,k2,k3⟩:=RR.cells r (by simp)
  refine⟨vs++ws,?_,?_,qt h4 k3⟩
  ·grind [yg,only,List.length_cons,Nat.add_mul]
  ·rw[List.flatten_cons];exact h3.append k2
theorem qe{n len:Nat}(hn0:0<n):∀ {parts:List (Nat×Operand)} {l:List (List D)} {κ:List (List D)->ag} {vs:List V},mB t n len parts l κ=some out->(∀ x∈parts,uI g LO t tv x.2)->l.length=len->(∀ x∈l,x.length=n)->RL g l.flatten vs->aJ vs ->
 ∃ l' vs' ws,κ l'=some out/\du tv parts=some ws/\oE (fun i=>some (i*n,n)) vs ws=some vs'/\l'.length=len/\(∀ x∈l',x.length=n)/\RL g l'.flatten vs'/\aJ vs'
 |[],l,κ,vs,h,_,h1,h2,h3,h4=>⟨l,vs,[],h,rfl,rfl,h1,h2,h3,h4⟩
 |(i,x)::r,l,κ,vs,h,ho,h1,h2,h3,h4=>by
  simp only[mB]at h
  obtain⟨d,v,h,_,k1,k2⟩:=bk h (ho (i,x) List.mem_cons_self)
  obtain⟨hb,h⟩:=aC h
  have hi:i<l.length:=by rw[h1];exact Nat.le_of_ble_eq_true hb
  obtain⟨new,h,k3,k4,k5⟩:=lQ h k2
  have hnl:new.length=n:=by rw[<- k5,k3.len]
  have hx:l[i]? = some l[i]:=List.getElem?_eq_getElem hi
  have hov:=vC (c:=0) (new:=new) h2 hx (by have:=Hm l[i] [] new (by rw[hnl,h2 _ (List.getElem_mem hi)]);simpa using this)
  obtain⟨vs1,j1,j2,j3,_⟩:=nL hov h3 h4 k3 k4
  have hset:∀ y∈l.set i new,y.length=n:=fun y hy=>by
   grind
  obtain⟨l',vs',ws,i1,i2,i3,i4⟩:=qe hn0 h (fun y hy=>ho y (List.mem_cons_of_mem _ hy)) (by rw[List.length_set];exact h1) hset j2 j3
  grind [only,du,oE,Nat.beq_refl,xz,Bool.and_self,Option.bind]
theorem RL.flat_rep{z:List D}{zv:List V}(h:RL g z zv):∀ n,RL g (List.replicate n z).flatten (List.replicate n zv).flatten
 |0=>by simp[RL]
 |n+1=>by simp only[List.replicate_succ,List.flatten_cons];exact h.append (RL.flat_rep h n)
theorem vG{zv:List V}(h:aJ zv):∀ n,aJ (List.replicate n zv).flatten
 |0=>rfl
 |n+1=>by simp only[List.replicate_succ,List.flatten_cons];exact qt h (vG h n)
theorem FA{s:S}{el n:Nat}{vs:List V}(h:n=vs.length):loadCells (s.alloc (.cells el false 1 [⟨0,0,vs⟩])) ⟨s.next,0,0⟩ n=some vs:=by
 grind [Fz,gd]
theorem xw(h:FI b P0 g t L tv LO){ty:TypeId}{len:Nat}{parts:List (Nat×Operand)}{κ:D->ag}(e:hJ P t ty len parts κ=some out)(ho:∀ x∈parts,uI g LO t tv x.2) :
 ∃ d v s',κ d=some out/\cb P g.s ty len (du tv parts)=some (.val v s')/\rH b P0 g t L tv LO L g.H s' fun g' _=>RD g' d v:=by
 unfold hJ at e
 split at e
 ·rename_i el hu
  split at e
  ·rename_i z hz
   obtain⟨zv,h1,_,h3,h4⟩:=iK (g:=g) hz
   split at e
   ·rename_i n hn
    obtain⟨hc,e⟩:=aC e
    simp only[Bool.and_eq_true,Bool.not_eq_true']at hc
    obtain⟨⟨hc1,hc2⟩,hc3⟩:=hc
    have hn0:0<n:=Nat.pos_of_ne_zero fun q=>by subst q;simp at hc2
    have hzl:z.cells.length=n:=Nat.eq_of_beq_eq_true hc3
    have hzv:zv.cells.length=n:=by rw[h3.len,hzl]
    obtain⟨l',vs',ws,k1,k2,k3,k4,k5,k6,k7⟩:=qe hn0 e ho (List.length_replicate ..) (fun x hx=>by rw[List.eq_of_mem_replicate hx];exact hzl) (h3.flat_rep len) (vG h4 len)
    have hv:cb P g.s ty len (du tv parts)=some (.val (.slice ⟨g.s.next,0,0⟩ 0 len (some len) n) (g.s.alloc (.cells el false 1 [⟨0,0,vs'⟩]))):=by
     grind [cb,Nat.beq_refl,Bool.not_false,Bool.and_self,kl,aZ,aY]
    refine⟨_,_,_,k1,hv,g.blk (.cells el false 1 [⟨0,0,vs'⟩]),LO,rfl,rfl,h.blk _,Fo h.ok h.bl _,.al h _ rfl,?_⟩
    have hfl:vs'.length=l'.length*n:=by rw[k6.len,jd k5]
    cases l' with
    |nil =>
     simp only[KI,RD]
     exact .inr ⟨_,_,_,by rw[<- k4];rfl⟩
    |cons x r =>
     simp only[KI,RD]
     refine .inr (.inr ⟨⟨g.s.next,0,0⟩,0,some len,by rw[k4],hn0,.inl rfl,fun c hc=>by cases hc;rw[k4];exact Nat.le_refl _,fun _=>⟨?_,fun hp=>?_,fun o v ho=>?_⟩,?_⟩)
     ·show _<(g.s.alloc _).next;rw[S.next_alloc];exact Nat.lt_succ_self _
     ·exact Nat.lt_irrefl _ (h.ok.pv _ hp)
     ·exact(Nat.lt_irrefl _ (h.ok.lt o _ v ho).1).elim
     ·exact RR.flat k5 (FA hfl.symm) (k6.mono (Fy _)) k7
   ·cases e
  ·cases e
 ·cases e
theorem IM(h:FI b P0 g t L tv LO):rH b P0 g t L tv LO L (g.H++[.map []]) (g.s.alloc (.map [] 0)) fun g' _=>RD g' (.map g.H.length) (.map g.s.next):=by
 refine⟨g.obj (.map []) (.map [] 0),LO,rfl,rfl,h.mkobj ⟨g.s.next,[],0,mK h.ok _ _,qu _ _,rfl⟩,pd h.ok h.bl _ _,.al h _ rfl,?_⟩
 simp only[RD]
 exact⟨g.s.next,0,mK h.ok _ _,rfl⟩
end Go.AI
set_option linter.all false
noncomputable section
namespace Go.AI
variable[ft]
variable{b:Nat}{P0:List Nat}{g:Gh}{LO:List Nat}{t:T LD}{L:LS}{tv:T V}{P:Program}{out:gI}
theorem tg{s:S}{ty n:Nat}{a:Ad}{v:V}(hn:size P ty=some n)(hl:v.cells.length=n):storeVar P s ty a v=storeCells s a v.cells:=by
 grind [storeVar,Nat.beq_refl]
theorem jD(h:Ok g){o f ver:Nat}(ho:g.O[o]? = some (some (f,ver))){x:DB}(hx:g.H[o]? = some x)(hn:∀ sz cap l,x≠.buf sz false cap l):¬ g.Imm f:=fun hi=>by
 obtain⟨sz,cap,l,h1⟩:=hi.2.2 o ver ho
 grind
theorem NW{l:List (List D)}{i:Nat}{κ:List D->ag}(h:eP l i κ=some out):∃ cs,l[i]? = some cs/\κ cs=some out:=by
 grind [eP]
theorem yX{cs new:List D}{c:Nat}{κ:List D->ag}(h:ar cs c new κ=some out):∃ cs',tQ cs c new=some cs'/\κ cs'=some out:=by
 grind [ar]
theorem NH(h:FI b P0 g t L tv LO){d:D}{new:List D}{κ:DH->ag}(e:NI d new g.H κ=some out){v:V}(r:RD g d v){ws:List V}(h3:RL g new ws)(h4:aJ ws) :
 ∃ a s' H',v=.ptr a/\κ H'=some out/\storeCells g.s a ws=some s'/\rH b P0 g t L tv LO L H' s' fun _ _=>True:=by
 unfold NI at e
 split at e
 ·rename_i o c
  simp only[RD]at r
  obtain⟨f,ver,h1,rfl⟩:=r
  obtain⟨st,cs,f',el,vs,e,_,hc,h2,k1,k2,k3⟩:=AK e (dM.refl g) h.ok
  rw[h1]at h2;cases h2
  obtain⟨cs',vs',e,j1,j2,j3,_⟩:=vE e k2 k3 h3 h4
  have hst:=Kw k1 c ws h4 j1
  have cc:sY g o (.cells (st+1) cs') f 0 0 (.cells st cs) (.cells el false 1 [⟨0,0,vs⟩]) (.cells el false 1 [⟨0,0,vs'⟩]) :=
   ⟨h1,hc,k1,⟨fun _ _ _ _ q=>by(cases q),fun _ _ _ q=>by(cases q)⟩,fun a n ws hi ha=>by rw[ha]at hi;exact(jD h.ok h1 hc (fun _ _ _ q=>by(cases q)) hi).elim,fun s1 c1 q=>by cases q;exact⟨_,rfl⟩⟩
  refine⟨_,_,_,rfl,e,hst,g.oput o (.cells (st+1) cs') f 0 (.cells el false 1 [⟨0,0,vs'⟩]),LO,rfl,rfl,h.oput cc ?_,iA h.ok cc,.op h h1 rfl,trivial⟩
  exact⟨f,el,vs',aU h1,di,j2.mono (jG h.ok cc),j3⟩
 ·rename_i o n i c
  simp only[RD]at r
  obtain⟨sz,st,cap,l,e,hc,hc2,hn⟩:=jS e (dM.refl g)
  rcases r with⟨⟨_,_,_,k1⟩,_⟩|⟨f,ver,sz',st',cap',l',ver',h1,h2,h5,h6,rfl,h7⟩
  ·rw[hc2]at k1;cases k1
  rw[h2]at hc2;cases hc2
  obtain⟨hst,e⟩:=cR e
  subst hst
  obtain⟨cs,hcs,e⟩:=NW e
  ·obtain⟨i0,i1|⟨i1,f',ver2,el,nv,vers,cells,i2,i3,i4,i5,i6,i7⟩⟩:=h.ok.obj o _ h2
   ·rw[i1.1]at hcs;simp at hcs
   rw[h1]at i2;cases i2
   rw[h7 hn]
   obtain⟨ks,k1,k2,k3⟩:=i7.cells i1
   have hlens:=i7.lens
   have hcells:ks=cells:=by
    simp_all[loadCells,oj,Nat.sub_zero,List.drop_zero,cT,Option.some.inj]
   subst hcells
   obtain⟨cs',hcs',e⟩:=yX e
   ·have hov:=vC hlens hcs hcs'
    obtain⟨vs',j1,j2,j3,j4⟩:=nL hov k2 k3 h3 h4
    have hcl:cs'.length=sz:=by
     obtain⟨x1,x2⟩:=i7.at hcs
     grind [nL]
    have hset:∀ y∈l.set i cs',y.length=sz:=fun y hy=>by
     grind
    have hst:storeCells g.s ⟨f,ver,i*sz+c⟩ ws=some (g.s.put f (.cells el false nv [⟨ver,0,vs'⟩])):=by
     unfold storeCells
     simp only[i3,i4,oj,Bool.true_and,Nat.sub_zero,j1]
     rw[show ws.all V.one=true from h4]
     rfl
    have cc:sY g o (.buf sz true cap (l.set i cs')) f ver ver (.buf sz true cap l) (.cells el false nv vers) (.cells el false nv [⟨ver,0,vs'⟩]) :=
     ⟨h1,h2,i3,⟨fun sz1 Kw cap1 l1 q=>by cases q;exact .inr ⟨true,cap,_,rfl,by rw[List.length_set];exact Nat.le_refl _,id,fun _=>⟨rfl,rfl⟩⟩,fun _ _ _ q=>by(cases q)⟩,fun a n ws hi ha=>by rw[ha]at hi;exact(jD h.ok h1 h2 (fun _ _ _ q=>by(cases q)) hi).elim,fun _ _ q=>by cases q⟩
    refine⟨_,_,_,rfl,e,hst,g.oput o (.buf sz true cap (l.set i cs')) f ver (.cells el false nv [⟨ver,0,vs'⟩]),LO,rfl,rfl,h.oput cc ?_,iA h.ok cc,.op h h1 rfl,trivial⟩
    have hle:=jG h.ok cc
    have hvl:vs'.length=(l.set i cs').length*sz:=by rw[j2.len,jd hset]
    have hmem:(⟨ver,0,ks⟩:mf)∈vers:=(ew i4).1
    refine⟨i0,.inr ⟨fun q=>i1 (by have:=congrArg List.length q;rw[List.length_set]at this;exact List.eq_nil_of_length_eq_zero (by simpa using this)),f,ver,el,nv,[⟨ver,0,vs'⟩],vs',aU h1,di,?_,hvl,fun u hu=>?_,?_⟩⟩
    ·simp only[bj,Nat.beq_refl,cond_true]
    ·simp at hu;subst hu
     exact⟨(i6 _ hmem).1,by simp⟩
    ·refine RR.flat hset ?_ (j2.mono hle) j3
     unfold loadCells
     simp only[di,Gh.oput,bj,Nat.beq_refl,cond_true,oj,Nat.sub_zero,List.drop_zero]
     exact cT _ _ hvl
 ·cases e
theorem Iv(h:FI b P0 g t L tv LO){ty:TypeId}{x:LD}{y:D}{κ:LS->DH->ag}(e:uU P ty x y L g.H κ=some out){v w:V}(r1:RS g LO x v)(r2:RD g y w) :
 ∃ s' L' H',κ L' H'=some out/\qR P g.s ty (some v) (some w)=some (.skip s')/\rH b P0 g t L tv LO L' H' s' fun _ _=>True:=by
 unfold uU at e
 split at e
 ·rename_i n hn
  dsimp only at e
  split at e
  ·cases e
  rename_i hn0
  obtain⟨new,e,k1,k2,k3⟩:=lQ e r2
  cases x with
  |u=>cases e
  |g d =>
   simp only at e
   have r1:RD g d v:=r1
   obtain⟨a,s',H',rfl,e,j1,j2⟩:=NH h e r1 k1 k2
   exact⟨s',L,H',e,by rw[tH,tg hn k3,j1];rfl,j2⟩
  |lp k c =>
   obtain⟨f,h1,rfl⟩:=r1
   simp only at e
   split at e
   ·rename_i st cs hc
    obtain⟨_,h2|⟨el,vs,h2,h3,h4⟩⟩:=h.own.2 k _ f hc h1
    ·simp only at h2
     subst h2
     obtain⟨cs',h3,_⟩:=yX e
     cases new with
     |nil=>simp only[RL]at k1;rw[k1]at k3;simp at k3;subst k3;cases hn0
     |cons a r=>cases c<;>cases h3
    ·obtain⟨cs',vs',e,j1,j2,j3,_⟩:=vE e h3 h4 k1 k2
     have hst:=Kw h2 c w.cells k2 j1
     have hp:f∈g.Pv:=by rw[h.pv];exact List.mem_append_right _ (List.mem_of_getElem? h1)
     refine⟨_,_,_,e,by rw[tH,tg hn k3,hst];rfl,g.pput f (.cells el false 1 [⟨0,0,vs'⟩]),LO,rfl,rfl,h.pput h1 h2 j2 j3,Oa h.ok hp (h.low f (List.mem_of_getElem? h1)) _,.put h hc h1 _ rfl,trivial⟩
   ·cases e
 ·cases e
theorem pJ.upd{H:DH}(hs:dM H g)(hok:Ok g){kt:TypeId}{td:TypeDesc}(hu:P.underlying kt=some td)(hd:(qH td||yc P td)=true){k v:D}{kv vv:V}(hf:pj td k=true)(pk:JI H k)(rk:RD g k kv)(rv:RD g v vv)(ho:kv.one=true)(clock:Nat):∀ {es es':List (D×D)} {ents:List ol},((∃ o c,k=.ptr o c)->∀ p∈es,JI H p.1)->pJ g es ents->rZ k v es=some es' ->
 ∃ u,cF (cn P (bg g.s) 20 kt) kv vv ents=some u/\∃ ents',(match u with|some e=>ents'=e|none=>ents'=ents++[⟨kv,vv,clock⟩])/\pJ g es' ents'
 |[],es',ents,_,h,e=>by
  simp only[pJ]at h;subst h
  cases e
  exact⟨none,rfl,_,rfl,⟨_,_,rfl,rk,rv,ho,rfl⟩⟩
 |(x,w)::l,es',ents,ps,h,e=>by
  simp only[pJ]at h
  obtain⟨⟨ke,ve,born⟩,r',rfl,h1,h2,h3,h4⟩:=h
  simp only[rZ]at e
  have px:∀ {q},iY k x=some q->JI H x:=fun {q} hq o c ex=>by
   subst ex
   cases k<;>first|(cases hq;done)|exact ps ⟨_,_,rfl⟩ _ List.mem_cons_self o c rfl
  split at e
  ·rename_i hq
   cases e
   exact⟨some (⟨kv,vv,born⟩::r'),by simp only[cF,nQ hs hok hu hd pk (px hq) hq hf rk h1,cF.setKey],_,rfl,⟨_,_,rfl,rk,rv,ho,h4⟩⟩
  ·rename_i hq
   split at e
   ·rename_i r hr
    cases e
    obtain⟨u,k1,ents',k2,k3⟩:=pJ.upd hs hok hu hd hf pk rk rv ho clock (fun e p hp=>ps e p (List.mem_cons_of_mem _ hp)) h4 hr
    refine⟨u.map (⟨ke,ve,born⟩::·),?_,⟨ke,ve,born⟩::ents',?_,⟨_,_,rfl,h1,h2,h3,k3⟩⟩
    ·simp only[cF,nQ hs hok hu hd pk (px hq) hq hf rk h1,cF.setKey,k1]
     grind
    grind
   ·cases e
  ·cases e
theorem wi{td:TypeDesc}{k:D}(h:pj td k=true):Mx k≠12/\Mx k≠13:=by
 unfold pj at h
 split at h
 ·split at h
  ·exact⟨(fun e=>by cases e),(fun e=>by cases e)⟩
  ·cases h
 ·split at h
  ·exact⟨(fun e=>by cases e),(fun e=>by cases e)⟩
  ·cases h
 ·split at h
  ·exact⟨(fun e=>by cases e),(fun e=>by cases e)⟩
  ·cases h
 ·split at h
  ·exact⟨(fun e=>by cases e),(fun e=>by cases e)⟩
  ·cases h
 ·cases h
theorem CO(h:FI b P0 g t L tv LO){ty:TypeId}{m k v:D}{κ:DH->ag}(e:fM P ty m k v g.H κ=some out){mv kv vv:V}(r1:RD g m mv)(r2:RD g k kv)(r3:RD g v vv) :
 ∃ s' H',κ H'=some out/\eW P g.s ty (some mv) (some kv) (some vv)=some (.skip s')/\rH b P0 g t L tv LO L H' s' fun _ _=>True:=by
 unfold fM at e
 split at e
 ·rename_i td el hm
  obtain⟨kt,hu,hk,hd,hsk⟩:=mN hm
  split at e
  ·rename_i o
   obtain⟨hf,e⟩:=aC e
   simp only[RD]at r1
   obtain⟨f,ver,h1,rfl⟩:=r1
   obtain⟨es,f',ents,clock,e,_,h0,h2,h3,h4⟩:=wZ e (dM.refl g) h.ok
   rw[h1]at h2;cases h2
   have hh:JI g.H k/\((∃ o c,k=.ptr o c)->∀ p∈es,JI g.H p.1)/\(gQ k v es fun es=>κ (g.H.set o (.map es)))=some out:=by
    split at e
    ·obtain⟨hp,e⟩:=aC e
     simp only[Bool.and_eq_true]at hp
     exact⟨fun o c e=>by cases e;exact hp.1,fun _=>nP hp.2,e⟩
    ·rename_i hne
     exact⟨fun o c e=>(hne o c e).elim,fun⟨o,c,e⟩=>(hne o c e).elim,e⟩
   obtain⟨pk,ps,e⟩:=hh
   unfold gQ at e
   split at e
   ·rename_i es' he
    obtain⟨u,k1,ents',k2,k3⟩:=h4.upd (dM.refl g) h.ok hk hd hf pk r2 r3 (r2.one (wi hf).1 (wi hf).2) clock ps he
    have cc:∀ c',sY g o (.map es') f 0 0 (.map es) (.map ents clock) (.map ents' c'):=fun c' =>
     ⟨h1,h0,h3,⟨fun _ _ _ _ q=>by(cases q),fun _ _ _ q=>by(cases q)⟩,fun a n ws hi ha=>by rw[ha]at hi;exact(jD h.ok h1 h0 (fun _ _ _ q=>by(cases q)) hi).elim,fun _ _ q=>by cases q⟩
    have fin:∀ c',rH b P0 g t L tv LO L (g.H.set o (.map es')) (g.s.put f (.map ents' c')) fun _ _=>True:=fun c' =>
     ⟨g.oput o (.map es') f 0 (.map ents' c'),LO,rfl,rfl,h.oput (cc c') ⟨f,ents',c',aU h1,di,k3.mono (jG h.ok (cc c'))⟩,iA h.ok (cc c'),.op h h1 rfl,trivial⟩
    cases u with
    |some q =>
     simp only at k2;subst k2
     exact⟨_,_,e,by simp only[eW,hu,h3,hsk,cond_true,k1,ue],fin clock⟩
    |none =>
     simp only at k2;subst k2
     exact⟨_,_,e,by simp only[eW,hu,h3,hsk,cond_true,k1,ue],fin (clock+1)⟩
   ·cases e
  ·cases e
 ·cases e
end Go.AI
set_option linter.all false
noncomputable section
namespace Go.AI
variable[ft]
variable{b:Nat}{P0:List Nat}{g:Gh}{LO:List Nat}{t:T LD}{L:LS}{tv:T V}{P:Program}{out:gI}
theorem zR{sz:Nat}{st cap:Bool}{l:List (List D)}{B:dG}{el:Nat}{vs:List V}(h:Ok g)(h0:0<sz)(hl:l≠[])(hn:∀ x∈l,x.length=sz)(hB:B=.cells el false 1 [⟨0,0,vs⟩])(hr:RL g l.flatten vs)(ho:aJ vs) :
 jr (g.obj (.buf sz st cap l) B) g.H.length (.buf sz st cap l):=by
 subst hB
 have hfl:vs.length=l.length*sz:=by rw[hr.len,jd hn]
 refine⟨h0,.inr ⟨hl,g.s.next,0,el,1,_,vs,mK h _ _,qu _ _,by simp only[bj,Nat.beq_refl,cond_true],hfl,fun u hu=>?_,RR.flat hn (FA hfl.symm) (hr.mono (we h.len _ _)) ho⟩⟩
 simp at hu;subst hu;exact⟨Nat.lt_succ_self _,by simp⟩
theorem Oe(h:FI b P0 g t L tv LO){el ty n:Nat}(hu:P.underlying ty=some (.slice el)){κ:List (List D)->Nat->ag}(e:Ly P el n κ=some out) :
 ∃ l sz v s',κ l sz=some out/\dY P g.s ty (some n) (some n)=some (.val v s')/\rH b P0 g t L tv LO L (g.H++[.buf sz true true l]) s' fun g' _=>RD g' (.buf sz g.H.length n) v:=by
 unfold Ly at e
 split at e
 ·rename_i z hz
  obtain⟨zv,h1,_,h3,h4⟩:=iK (g:=g) hz
  split at e
  ·rename_i sz hs
   obtain⟨hc,e⟩:=aC e
   obtain⟨hd,e⟩:=cR e
   simp only[Bool.and_eq_true,Bool.not_eq_true']at hc hd
   obtain⟨hc1,hc2⟩:=hc
   obtain⟨hd1,hd2⟩:=hd
   have hn0:0<sz:=Nat.pos_of_ne_zero fun q=>by subst q;simp at hc1
   have hzl:z.cells.length=sz:=Nat.eq_of_beq_eq_true hc2
   have hzv:zv.cells.length=sz:=by rw[h3.len,hzl]
   have hlen:∀ x∈List.replicate n z.cells,x.length=sz:=fun x hx=>by rw[List.eq_of_mem_replicate hx];exact hzl
   have hv:dY P g.s ty (some n) (some n)=some (.val (.slice ⟨g.s.next,0,0⟩ 0 n (some n) sz) (g.s.alloc (.cells el false 1 [⟨0,0,(List.replicate n zv.cells).flatten⟩]))):=by
    simp_all[dY,Nat.ble_eq_true_of_le,Nat.le_refl,Nat.beq_refl,Bool.not_false,Bool.and_self,aZ,aY]
   refine⟨_,sz,_,_,e,hv,?_⟩
   cases n with
   |zero =>
    have h':=h.blk (.cells el false 1 [⟨0,0,(List.replicate 0 zv.cells).flatten⟩])
    refine⟨(g.blk (.cells el false 1 [⟨0,0,(List.replicate 0 zv.cells).flatten⟩])).acc sz true,LO,rfl,rfl,h'.acc hn0 true,(Fo h.ok h.bl _).trans (Fp h'.ok sz true),.al h _ rfl,?_⟩
    simp only[RD]
    exact .inr ⟨true,true,[],gU _ _,Nat.le_refl _,.inl ⟨rfl,.inr ⟨_,_,_,rfl⟩⟩⟩
   |succ n =>
    have hne:List.replicate (n+1) z.cells≠[]:=by simp[List.replicate_succ]
    refine⟨g.obj (.buf sz true true (List.replicate (n+1) z.cells)) (.cells el false 1 [⟨0,0,(List.replicate (n+1) zv.cells).flatten⟩]),LO,rfl,rfl,h.mkobj (zR h.ok hn0 hne hlen rfl (h3.flat_rep _) (vG h4 _)),pd h.ok h.bl _ _,.al h _ rfl,?_⟩
    simp only[RD]
    exact .inr ⟨true,true,_,gU _ _,by simp,.inr ⟨Nat.succ_pos _,g.s.next,0,0,_,mK h.ok _ _,rfl,fun _=>⟨rfl,rfl⟩⟩⟩
  ·cases e
 ·cases e
theorem OY(h:Ok g){y:D}{sz:Nat}{κ:List (List D)->ag}(e:Mw y g.H sz κ=some out){v:V}(r:RD g y v)(hsz:0<sz) :
 ∃ els vs,κ els=some out/\hQ g.s sz v=some (vs,els.length)/\RL g els.flatten vs/\aJ vs/\∀ x∈els,x.length=sz:=by
 have emp:∀ {v:V},(v=.nilslice\/∃ a z cap sz',v=.slice a z 0 cap sz')->hQ g.s sz v=some ([],0):=fun {v} hv=>by
  rcases hv with rfl|⟨a,z,cap,sz',rfl⟩<;>rfl
 have full:∀ {a:Ad} {z:Nat} {cap:Option Nat} {l:List (List D)},RR g a sz l->l≠[]->∃ vs,hQ g.s sz (.slice a z l.length cap sz)=some (vs,l.length)/\RL g l.flatten vs/\aJ vs/\∀ x∈l,x.length=sz:=fun {a z cap l} hr hl=>by
  obtain⟨vs,k1,k2,k3⟩:=hr.cells hl
  have h0:Nat.beq l.length 0=false:=by cases l with|nil=>exact(hl rfl).elim|cons _ _=>rfl
  have h1:Nat.beq sz 0=false:=by cases sz with|zero=>omega|succ _=>rfl
  exact⟨vs,by simp only[hQ,h0,h1,Nat.beq_refl,cond_true,cond_false,k1],k2,k3,hr.lens⟩
 unfold Mw at e
 split at e
 ·rename_i s l
  obtain⟨hb,e1⟩:=aC e
  clear e
  have e:=e1
  clear e1
  obtain rfl:=Nat.eq_of_beq_eq_true hb
  simp only[RD]at r
  rcases r with⟨rfl,rfl⟩|⟨rfl,a,z,sz',rfl⟩|⟨a,z,cap,rfl,_,_,_,_,h6⟩
  ·exact⟨[],[],e,emp (.inl rfl),by simp[RL],rfl,fun x hx=>by cases hx⟩
  ·exact⟨[],[],e,emp (.inr ⟨_,_,_,_,rfl⟩),by simp[RL],rfl,fun x hx=>by cases hx⟩
  ·by_cases hl:l=[]
   ·subst hl;exact⟨[],[],e,emp (.inr ⟨_,_,_,_,rfl⟩),by simp[RL],rfl,fun x hx=>by cases hx⟩
   ·obtain⟨vs,k1,k2⟩:=full (z:=z) (cap:=cap) h6 hl
    exact⟨l,vs,e,k1,k2⟩
 ·simp only[RD]at r
  refine⟨[],[],e,emp ?_,by simp[RL],rfl,fun x hx=>by cases hx⟩
  rcases r with rfl|⟨a,z,sz',rfl⟩
  ·exact .inl rfl
  ·exact .inr ⟨_,_,_,_,rfl⟩
 ·simp only[RD]at r
  exact⟨[],[],e,emp (.inl r),by simp[RL],rfl,fun x hx=>by cases hx⟩
 ·rename_i s o n
  obtain⟨hb,e1⟩:=aC e
  clear e
  obtain rfl:=Nat.eq_of_beq_eq_true hb
  obtain⟨sz',st,cap,l,e,_,h2,hn⟩:=jS e1 (dM.refl g)
  clear e1
  simp only[RD]at r
  rcases r with⟨⟨_,_,_,k1⟩,_⟩|⟨st',cap',l',h1,_,h3⟩
  ·rw[h2]at k1;cases k1
  rw[h2]at h1;cases h1
  rcases h3 with⟨hn0,h3⟩|⟨h3,f,ver,ver',c,h4,rfl,h5⟩
  ·have:l=[]:=List.eq_nil_of_length_eq_zero (by omega)
   subst this
   refine⟨[],[],e,emp ?_,by simp[RL],rfl,fun x hx=>by cases hx⟩
   rcases h3 with rfl|⟨a,z,sz',rfl⟩
   ·exact .inl rfl
   ·exact .inr ⟨_,_,_,_,rfl⟩
  ·obtain⟨rfl,rfl⟩:=h5 hn
   obtain⟨_,i1|⟨i1,f',ver2,el,nv,vers,cells,i2,_,_,_,_,i7⟩⟩:=h.obj o _ h2
   ·rw[i1.1]at hn;simp at hn;omega
   ·rw[h4]at i2;cases i2
    subst hn
    obtain⟨vs,k1,k2⟩:=full (z:=0) (cap:=Gi cap l.length) i7 i1
    exact⟨l,vs,e,k1,k2⟩
 ·cases e
theorem Dl(a c:List (List D)):(a++c).flatten=a.flatten++c.flatten:=by simp
theorem CT{a c:List (List D)}{sz:Nat}(h:∀ x∈a,x.length=sz)(k:∀ x∈c,x.length=sz):∀ x∈a++c,x.length=sz:=fun x hx=>by
 grind
theorem mS{p:mf->Bool}:∀ {vers:List mf},(∀ u∈vers,p u=true)->vers.filter p=vers
 |[],_=>rfl
 |u::r,h=>by rw[List.filter_cons_of_pos (h u List.mem_cons_self),mS fun w hw=>h w (List.mem_cons_of_mem _ hw)]
theorem Po(h:FI b P0 g t L tv LO){ok:Nat->Bool}{sz:Nat}{x:D}{els:List (List D)}{κ:D->DH->ag}(e:eG ok sz x els g.H κ=some out){xv:V}(r:RD g x xv){vs:List V}(h1:RL g els.flatten vs)(h2:aJ vs)(h3:∀ x∈els,x.length=sz)(h0:0<sz)(el:TypeId) :
 ∃ d H' v s',κ d H'=some out/\ef ok g.s el sz xv (some (vs,els.length))=some (v,s')/\rH b P0 g t L tv LO L H' s' fun g' _=>RD g' d v:=by
 unfold eG at e
 obtain⟨hm,e⟩:=cR e
 have emp:els=[]->∀ {v:V},(v=.nilslice\/∃ a z sz',v=.slice a z 0 (some 0) sz')->ef ok g.s el sz v (some (vs,els.length))=some (v,g.s):=fun he {v} hv=>by
  grind [ef,List.length_nil,Nat.beq_refl,gm,Bool.and_self]
 have hnew:els≠[]->∀ {v:V},(v=.nilslice\/∃ a z sz',v=.slice a z 0 (some 0) sz')->ef ok g.s el sz v (some (vs,els.length))=some (.slice ⟨g.s.next,0,0⟩ 0 els.length none sz,g.s.alloc (.cells el false 1 [⟨0,0,vs⟩])):=fun he {v} hv=>by
  have hz:Nat.beq els.length 0=false:=by cases els with|nil=>exact(he rfl).elim|cons _ _=>rfl
  grind [ef,jK,aZ,aY,gm,Nat.beq_refl,Bool.and_self]
 have mk:∀ {st cap:Bool} {l:List (List D)} {ws:List V},l≠[]->(∀ x∈l,x.length=sz)->RL g l.flatten ws->aJ ws->rH b P0 g t L tv LO L (g.H++[.buf sz st cap l]) (g.s.alloc (.cells el false 1 [⟨0,0,ws⟩])) fun g' _=>∀ c,c=Gi cap l.length->RD g' (.buf sz g.H.length l.length) (.slice ⟨g.s.next,0,0⟩ 0 l.length c sz):=fun {st cap l ws} hl hn hr ho=>by
  refine⟨g.obj (.buf sz st cap l) (.cells el false 1 [⟨0,0,ws⟩]),LO,rfl,rfl,h.mkobj (zR h.ok h0 hl hn rfl hr ho),pd h.ok h.bl _ _,.al h _ rfl,fun c hc=>?_⟩
  simp only[RD]
  refine .inr ⟨st,cap,l,gU _ _,Nat.le_refl _,.inr ⟨?_,g.s.next,0,0,c,mK h.ok _ _,rfl,fun _=>⟨rfl,hc⟩⟩⟩
  grind
 split at e
 ·
  simp only[RD]at r
  split at e
  ·exact⟨_,_,xv,_,e,emp rfl r,rH.same h (by simp only[RD];exact r)⟩
  ·rename_i y ys
   obtain⟨g',LO',k1,k2,k3,k4,k5,k6⟩:=mk (st:=true) (cap:=false) (by simp) h3 h1 h2
   exact⟨_,_,_,_,e,hnew (by simp) r,g',LO',k1,k2,k3,k4,k5,k6 none rfl⟩
 ·
  simp only[RD]at r
  split at e
  ·exact⟨_,_,xv,_,e,emp rfl (.inl r),rH.same h (by simp only[RD];exact .inl r)⟩
  ·rename_i y ys
   obtain⟨g',LO',k1,k2,k3,k4,k5,k6⟩:=mk (st:=true) (cap:=false) (by simp) h3 h1 h2
   exact⟨_,_,_,_,e,hnew (by simp) (.inl r),g',LO',k1,k2,k3,k4,k5,k6 none rfl⟩
 ·
  rename_i s o n _
  obtain⟨hb,e1⟩:=aC e
  clear e
  obtain rfl:=Nat.eq_of_beq_eq_true hb
  obtain⟨sz',st,cap,l,e2,hc,hc2,hn⟩:=jS e1 (dM.refl g)
  clear e1
  obtain⟨hk,e⟩:=cR e2
  clear e2
  simp only[Bool.and_eq_true,Bool.not_eq_true']at hk
  obtain⟨hk1,hk2⟩:=hk
  simp only[RD]at r
  rcases r with⟨⟨_,_,_,k1⟩,_⟩|⟨st',cap',l',j1,_,j2⟩
  ·rw[hc2]at k1;cases k1
  rw[hc2]at j1;cases j1
  unfold grow at e
  by_cases hz:els=[]
  ·subst hz
   have hcap:cap=false:=by cases cap with|false=>rfl|true=>simp at hk2
   subst hcap
   simp only[cond_false,List.append_nil,List.length_nil,Nat.add_zero]at e
   have hH:g.H.set o (.buf s st false l)=g.H:=by
    apply List.ext_getElem?
    grind
   rw[hH,<- hn]at e
   have hv:ef ok g.s el s xv (some (vs,0))=some (xv,g.s):=by
    rcases j2 with⟨_,j2⟩|⟨j3,f,ver,ver',c,j4,rfl,j5⟩
    ·grind
    simp_all[zero,ef,Bool.false_and,Nat.beq_refl,Bool.true_and]
   exact⟨_,_,xv,_,e,hv,rH.same h (by simp only[RD];exact .inr ⟨st,false,l,hc2,by omega,j2⟩)⟩
  ·have hel:0<els.length:=by cases els with|nil=>exact(hz rfl).elim|cons _ _=>simp
   rcases j2 with⟨hn0,j2⟩|⟨j3,f,ver,ver',c,j4,rfl,j5⟩
   ·have hl:l=[]:=List.eq_nil_of_length_eq_zero (by omega)
    subst hl
    simp only[List.nil_append,List.length_nil,Nat.zero_add]at e
    cases cap with
    |true =>
     simp only[cond_true]at e
     obtain⟨g',LO',k1,k2,k3,k4,k5,k6⟩:=mk (st:=true) (cap:=false) hz h3 h1 h2
     exact⟨_,_,_,_,e,hnew hz j2,g',LO',k1,k2,k3,k4,k5,k6 none rfl⟩
    |false =>
     simp only[cond_false]at e
     have hO:g.O[o]? = some none:=by
      obtain⟨_,i1|⟨i1,_⟩⟩:=h.ok.obj o _ hc2
      ·exact i1.2
      grind
     have hfl:vs.length=els.length*s:=by rw[h1.len,jd h3]
     have hle:=Ba (B:=.cells el false 1 [⟨0,0,vs⟩]) h.ok hO hc2 rfl (st':=st) (cap':=false) id hz
     have hobj:jr (g.bnew o (.buf s st false els) (.cells el false 1 [⟨0,0,vs⟩])) o (.buf s st false els):=by
      refine⟨h0,.inr ⟨hz,g.s.next,0,el,1,_,vs,aU hO,gd _ _,by simp only[bj,Nat.beq_refl,cond_true],hfl,fun u hu=>?_,RR.flat h3 (FA hfl.symm) (h1.mono hle) h2⟩⟩
      grind
     refine⟨_,_,_,_,e,hnew hz j2,g.bnew o (.buf s st false els) (.cells el false 1 [⟨0,0,vs⟩]),LO,rfl,rfl,h.bnew hO hc2 rfl id hz hobj,Hu h.ok h.bl hO hc2 rfl id hz,.al h _ rfl,?_⟩
     simp only[RD]
     exact .inr ⟨st,false,els,aU hc2,Nat.le_refl _,.inr ⟨hel,g.s.next,0,0,none,aU hO,rfl,fun _=>⟨rfl,rfl⟩⟩⟩
   ·obtain⟨rfl,rfl⟩:=j5 hn
    obtain⟨_,i1|⟨i1,f',ver2,el0,nv,vers,cells,i2,i3,i4,i5,i6,i7⟩⟩:=h.ok.obj o _ hc2
    ·rw[i1.1]at hn;simp at hn;omega
    rw[j4]at i2;cases i2
    subst hn
    have hnz:Nat.beq l.length 0=false:=by cases l with|nil=>exact(i1 rfl).elim|cons _ _=>rfl
    have hez:Nat.beq els.length 0=false:=by cases els with|nil=>exact(hz rfl).elim|cons _ _=>rfl
    obtain⟨ks,k1,k2,k3⟩:=i7.cells i1
    have hcells:ks=cells:=by
     have:loadCells g.s ⟨f,ver',0⟩ (l.length*s)=some cells:=by
      simp_all[loadCells,oj,Nat.sub_zero,List.drop_zero,cT]
     grind
    subst hcells
    have htk:aN (l.length*s) (ks.drop (0 - 0))=some ks:=by simpa using cT _ _ i5
    have hstart:ef ok g.s el s (.slice ⟨f,ver',0⟩ 0 l.length (Gi cap l.length) s) (some (vs,els.length))=tz g.s el ⟨f,ver',0⟩ 0 l.length (Gi cap l.length) s vs els.length:=by
     simp_all[ef,Bool.false_and,Nat.beq_refl,Bool.and_self]
    have hlen2:=CT i7.lens h3
    have hr2:RL g (l++els).flatten (ks++vs):=by rw[Dl];exact k2.append h1
    have ho2:=qt k3 h2
    have hne2:l++els≠[]:=by simp[i1]
    cases cap with
    |true =>
     simp only[cond_true]at e
     obtain⟨g',LO',m1,m2,m3,m4,m5,m6⟩:=mk (st:=true) (cap:=false) hne2 hlen2 hr2 ho2
     have hno:Nat.ble (l.length+els.length) l.length=false:=by
      cases hq:Nat.ble (l.length+els.length) l.length with
      |false=>rfl
      |true=>have:=Nat.le_of_ble_eq_true hq;omega
     refine⟨_,_,_,_,e,?_,g',LO',m1,m2,m3,m4,m5,by have:=m6 none rfl;rwa [List.length_append]at this⟩
     rw[hstart]
     simp only[tz,i3,i4,oj,cond_true,htk,Gi,Be,hno,cond_false,jK,aZ,aY]
    |false =>
     simp only[cond_false]at e
     have hfil:vers.filter (fun u=>Nat.ble (u.lo+u.cells.length) (0+l.length*s))=vers:=mS fun u hu=>Nat.ble_eq_true_of_le (by have:=(i6 u hu).2;omega)
     have hgrow:tz g.s el ⟨f,ver',0⟩ 0 l.length none s vs els.length=some (.slice ⟨f,nv,0⟩ 0 (l.length+els.length) none s,g.s.put f (.cells el0 false (nv+1) (⟨nv,0,ks++vs⟩::vers))):=by
      simp only[tz,i3,i4,oj,cond_true,htk,qM,hfil]
      rw[show vs.all V.one=true from h2];rfl
     have hold:∀ a n ws,a.f=f->loadCells g.s a n=some ws->loadCells (g.s.put f (.cells el0 false (nv+1) (⟨nv,0,ks++vs⟩::vers))) a n=some ws:=fun a n ws ha hld=>by
      grind [loadCells,di,ew,Nat.eq_of_beq_eq_true,bj]
     have cc:sY g o (.buf s st false (l++els)) f ver' nv (.buf s st false l) (.cells el0 false nv vers) (.cells el0 false (nv+1) (⟨nv,0,ks++vs⟩::vers)) :=
      ⟨j4,hc2,i3,⟨fun sz1 Kw cap1 l1 q=>by cases q;exact .inr ⟨st,false,_,rfl,by rw[List.length_append];omega,id,fun q=>by rw[List.length_append]at q;omega⟩,fun _ _ _ q=>by(cases q)⟩,fun a n ws _ ha hld=>hold a n ws ha hld,fun _ _ q=>by cases q⟩
     have hle:=jG h.ok cc
     have hfl:(ks++vs).length=(l++els).length*s:=by rw[hr2.len,jd hlen2]
     have hobj:jr (g.oput o (.buf s st false (l++els)) f nv (.cells el0 false (nv+1) (⟨nv,0,ks++vs⟩::vers))) o (.buf s st false (l++els)):=by
      refine⟨h0,.inr ⟨hne2,f,nv,el0,nv+1,_,ks++vs,aU j4,di,by simp only[bj,Nat.beq_refl,cond_true],hfl,fun u hu=>?_,?_⟩⟩
      ·grind
      ·refine RR.flat hlen2 ?_ (hr2.mono hle) ho2
       unfold loadCells
       simp only[di,Gh.oput,bj,Nat.beq_refl,cond_true,oj,Nat.sub_zero,List.drop_zero]
       exact cT _ _ hfl
     refine⟨_,_,_,_,e,by rw[hstart];exact hgrow,g.oput o (.buf s st false (l++els)) f nv (.cells el0 false (nv+1) (⟨nv,0,ks++vs⟩::vers)),LO,rfl,rfl,h.oput cc hobj,iA h.ok cc,.op h j4 rfl,?_⟩
     simp only[RD]
     exact .inr ⟨st,false,l++els,aU hc2,by rw[List.length_append];exact Nat.le_refl _,.inr ⟨by omega,f,nv,nv,none,aU j4,rfl,fun _=>⟨rfl,rfl⟩⟩⟩
 ·
  rename_i s o st k _
  obtain⟨hb,e1⟩:=aC e
  clear e
  obtain rfl:=Nat.eq_of_beq_eq_true hb
  obtain⟨sz',l,e2,hc,hc2⟩:=EB e1 (dM.refl g)
  clear e1
  obtain⟨hk,e⟩:=cR e2
  clear e2
  simp only[Bool.and_eq_true,Bool.not_eq_true',List.isEmpty_eq_false_iff]at hk
  obtain⟨hk1,hz⟩:=hk
  simp only[RD]at r
  obtain⟨f,ver,s',l',ver',j4,j1,_,rfl,j5⟩:=r
  rw[hc2]at j1;cases j1
  obtain⟨rfl,rfl⟩:=j5 rfl
  obtain⟨_,f',ver2,el0,nv,vers,cells,i2,i3,i4,i5,i6,i7⟩:=h.ok.obj o _ hc2
  rw[j4]at i2;cases i2
  have hez:Nat.beq els.length 0=false:=by cases els with|nil=>exact(hz rfl).elim|cons _ _=>rfl
  obtain⟨ks,k1,k2,k3⟩:∃ ks,aN (l.length*s) cells=some ks/\RL g l.flatten ks/\aJ ks:=by
   by_cases i1:l=[]
   ·subst i1;exact⟨[],by simp[aN],by simp[RL],rfl⟩
   ·obtain⟨ks,k1,k2,k3⟩:=i7.cells i1
    refine⟨ks,?_,k2,k3⟩
    simpa[loadCells,i3,i4,oj]using k1
  have hlens:=i7.lens
  have hlen2:=CT hlens h3
  have hr2:RL g (l++els).flatten (ks++vs):=by rw[Dl];exact k2.append h1
  have ho2:=qt k3 h2
  have hgrow:ef ok g.s el s (.slice ⟨f,ver',0⟩ 0 l.length none s) (some (vs,els.length))=some (.slice ⟨f,nv,0⟩ 0 (l.length+els.length) none s,g.s.put f (.cells el0 false (nv+1) (⟨nv,0,ks++vs⟩::vers.filter fun u=>Nat.ble (u.lo+u.cells.length) (0+l.length*s)))):=by
   simp only[ef,hm,cond_true,gm,Bool.and_false,cond_false,Nat.beq_refl,hk1,Bool.and_self,hez,tz,i3,i4,oj,Nat.sub_zero,List.drop_zero,k1,qM]
   rw[show vs.all V.one=true from h2];rfl
  have cc:sY g o (.tbuf s (st+1) (l++els)) f ver' nv (.tbuf s st l) (.cells el0 false nv vers) (.cells el0 false (nv+1) (⟨nv,0,ks++vs⟩::vers.filter fun u=>Nat.ble (u.lo+u.cells.length) (0+l.length*s))) :=
   ⟨j4,hc2,i3,⟨fun _ _ _ _ q=>by(cases q),fun sz1 s1 l1 q=>by cases q;exact⟨_,_,rfl,Nat.lt_succ_self _⟩⟩,fun a n ws hi ha=>by rw[ha]at hi;exact(jD h.ok j4 hc2 (fun _ _ _ q=>by(cases q)) hi).elim,fun _ _ q=>by cases q⟩
  have hle:=jG h.ok cc
  have hfl:(ks++vs).length=(l++els).length*s:=by rw[hr2.len,jd hlen2]
  have hobj:jr (g.oput o (.tbuf s (st+1) (l++els)) f nv (.cells el0 false (nv+1) (⟨nv,0,ks++vs⟩::vers.filter fun u=>Nat.ble (u.lo+u.cells.length) (0+l.length*s)))) o (.tbuf s (st+1) (l++els)):=by
   refine⟨h0,f,nv,el0,nv+1,_,ks++vs,aU j4,di,by simp only[bj,Nat.beq_refl,cond_true],Nat.le_of_eq hfl.symm,fun u hu=>?_,?_⟩
   ·rcases List.mem_cons.1 hu with rfl|hu
    ·exact Nat.lt_succ_self _
    ·have:=i6 u (List.mem_filter.1 hu).1;omega
   ·refine RR.flat hlen2 ?_ (hr2.mono hle) ho2
    unfold loadCells
    simp only[di,Gh.oput,bj,Nat.beq_refl,cond_true,oj,Nat.sub_zero,List.drop_zero]
    exact cT _ _ hfl
  refine⟨_,_,_,_,e,hgrow,g.oput o (.tbuf s (st+1) (l++els)) f nv (.cells el0 false (nv+1) (⟨nv,0,ks++vs⟩::vers.filter fun u=>Nat.ble (u.lo+u.cells.length) (0+l.length*s))),LO,rfl,rfl,h.oput cc hobj,iA h.ok cc,.op h j4 rfl,?_⟩
  simp only[RD]
  exact⟨f,nv,st+1,l++els,nv,aU j4,aU hc2,Nat.le_refl _,rfl,fun _=>⟨by rw[List.length_append],rfl⟩⟩
 ·cases e
theorem Gs(h:FI b P0 g t L tv LO){sT xT:TypeId}{x y:D}{κ:D->DH->ag}(e:rp P sT xT x y g.H κ=some out){xv yv:V}(r1:RD g x xv)(r2:RD g y yv) :
 ∃ d H' v s',κ d H'=some out/\rm P sT xT g.s xv yv=some (v,s')/\rH b P0 g t L tv LO L H' s' fun g' _=>RD g' d v:=by
 unfold rp at e
 split at e
 ·rename_i elem hu
  dsimp only at e
  split at e
  ·cases e
  rename_i hni
  split at e
  ·rename_i sz hs
   split at e
   rotate_left
   ·cases e
   rename_i hok
   have h0:0<sz:=by
    grind [mZ]
   obtain⟨els,vs,e,k1,k2,k3,k4⟩:=OY h.ok e r2 h0
   obtain⟨d,H',v,s',e,j1,j2⟩:=Po h e r1 k2 k3 k4 h0 elem
   exact⟨d,H',v,s',e,by simp only[rm,hu,hni,cond_true,hs,hok,k1];exact j1,j2⟩
  ·cases e
 ·cases e
end Go.AI
set_option linter.all false
noncomputable section
namespace Go.AI
variable[ft]
variable{b:Nat}{P0:List Nat}{g:Gh}{LO:List Nat}{t:T LD}{L:LS}{tv:T V}{P:Program}{out:gI}
def nF(g:Gh):Option D->Option V->Prop
 |none,none=>True
 |some d,some v=>RD g d v
 |_,_=>False
theorem nV{x:Option Operand}{κ:Option D->ag}(h:Je t x κ=some out)(hr:∀ y,x=some y->uI g LO t tv y):∃ d v,κ d=some out/\kC tv x=some v/\nF g d v:=by
 cases x with
 |none=>exact⟨none,none,h,rfl,trivial⟩
 |some x =>
  simp only[Je]at h
  obtain⟨d,v,h1,_,h2,h3⟩:=bk h (hr x rfl)
  exact⟨some d,some v,h1,by simp only[kC,h2],h3⟩
theorem dR{o:Option D}{d:Nat}{κ:Nat->ag}(h:sR o d κ=some out){ov:Option V}(hr:nF g o ov):∃ n,κ n=some out/\eF ov d=some n/\(o=none->n=d):=by
 unfold sR at h
 split at h
 ·cases ov with
  |none=>exact hr.elim
  |some v =>
   have hr:RD g _ v:=hr
   simp only[RD]at hr
   subst hr
   obtain⟨m,rfl,h⟩:=iz h
   exact⟨m,h,rfl,fun e=>by cases e⟩
 ·cases h
 ·cases ov with
  |none=>exact⟨d,h,rfl,fun _=>rfl⟩
  |some _=>exact hr.elim
theorem nF.isSome{o:Option D}{ov:Option V}(h:nF g o ov):ov.isSome=o.isSome:=by
 cases o<;>cases ov<;>first|rfl|exact h.elim
theorem RR.take:∀ {l:List (List D)} {a:Ad} {sz:Nat} (n:Nat),RR g a sz l->RR g a sz (l.take n)
 |[],_,_,n,_=>by simp[RR]
 |x::l,a,sz,0,_=>by simp[RR]
 |x::l,a,sz,n+1,r=>by
  simp_all[RR,List.take_succ_cons,RR.take]
theorem rN{sz:Nat}{l:List (List D)}{lo hi:Option D}{κ:D->ag}(h:Cs sz l lo hi κ=some out){v:V}(r:RD g (.row sz l) v){lov hiv:Option V}(r1:nF g lo lov)(r2:nF g hi hiv){ty e:TypeId}(hu:P.underlying ty=some (.slice e))(hs:size P e=some sz) :
 ∃ d v',κ d=some out/\cx P ty v lov hiv none=some v'/\RD g d v':=by
 unfold Cs at h
 obtain⟨hn,e1,h1,_⟩:=dR h r2
 obtain⟨bn,e2,h2,_⟩:=dR e1 r1
 clear e1 h
 obtain⟨hb,h⟩:=cR e2
 clear e2
 simp only[Bool.and_eq_true]at hb
 have hle:=Nat.le_of_ble_eq_true hb.1
 obtain rfl:=Nat.eq_of_beq_eq_true hb.2
 have zero:l=[]->(bI (eF lov 0)&&bI (eF hiv 0)&&bI (eF none 0))=true:=fun hl=>by
  subst hl
  have:hn=0:=by simpa using hle
  subst this
  simp only[List.length_nil]at h1
  rw[h1,h2];rfl
 simp only[RD]at r
 rcases r with⟨rfl,rfl⟩|⟨rfl,a,z,sz',rfl⟩|⟨a,z,cap,rfl,k1,k2,k3,k4,k5⟩
 ·refine⟨_,.nilslice,h,?_,by simp only[RD];exact .inl ⟨by simp,trivial⟩⟩
  simp only[cx,hu,hs,zero rfl,cond_true,Option.isSome_none,Bool.false_and,cond_false]
 ·refine⟨_,.slice a z 0 (some 0) sz',h,?_,by simp only[RD];exact .inr (.inl ⟨by simp,a,z,sz',rfl⟩)⟩
  simp only[cx,hu,hs,gm,Nat.beq_refl,Bool.and_self,Bool.or_true,cond_true,zero rfl,Option.isSome_none,Bool.false_and,Bool.not_false]
 ·by_cases hnc:(Nat.beq l.length 0&&gm cap)=true
  ·simp only[Bool.and_eq_true]at hnc
   have hl:l=[]:=List.eq_nil_of_length_eq_zero (Nat.eq_of_beq_eq_true hnc.1)
   subst hl
   refine⟨_,.slice a z 0 cap sz,h,?_,?_⟩
   ·simp only[cx,hu,hs,List.length_nil,Nat.beq_refl,hnc.2,Bool.and_self,Bool.or_true,cond_true,zero rfl,Option.isSome_none,Bool.false_and,Bool.not_false]
   ·simp only[RD];exact .inr (.inr ⟨a,z,cap,by simp,k1,k2,fun c hc=>by simp,fun q=>by simp at q,by simp[RR]⟩)
  ·have hz:(Nat.beq sz 0||(Nat.beq l.length 0&&gm cap))=false:=by
    cases sz with
    |zero=>omega
    |succ _=>cases hq:(Nat.beq l.length 0&&gm cap)with
     |true=>exact(hnc hq).elim
     |false=>rfl
   have hlt:(l.take hn).length=hn:=by rw[List.length_take];omega
   cases cap with
   |some c =>
    have hc:=k3 c rfl
    have hc0:Nat.beq c 0=false:=by
     cases hq:Nat.beq c 0 with
     |false=>rfl
     |true =>
      have:=Nat.eq_of_beq_eq_true hq
      subst this
      have hl0:l.length=0:=by omega
      rw[hl0]at hnc
      exact(hnc rfl).elim
    refine⟨_,.slice (bN a (0*sz)) 0 (hn - 0) (some (c - 0)) sz,h,?_,?_⟩
    ·simp only[cx,hu,hs,hz,cond_false,Nat.beq_refl,Option.isSome_none,Bool.false_and,Bool.not_false,Bool.and_self,cond_true,h1,h2,Nat.ble_eq_true_of_le (Nat.le_trans hle hc),oj,hc0]
    ·simp only[RD]
     refine .inr (.inr ⟨bN a (0*sz),0,some (c - 0),by rw[hlt];rfl,k1,.inl rfl,fun c' hc'=>by cases hc';rw[hlt];omega,fun q=>k4 (fun e=>by subst e;simp at q),?_⟩)
     rw[show bN a (0*sz)=a by simp[bN]]
     exact k5.take hn
   |none =>
    have hza:z=a.c:=k2.elim (fun q=>by cases q) id
    refine⟨_,.slice a z hn none sz,h,?_,?_⟩
    ·simp only[cx,hu,hs,hz,cond_false,Nat.beq_refl,Option.isSome_none,Bool.false_and,Bool.not_false,Bool.and_self,cond_true,h1,h2,hb.1,oj]
    ·simp only[RD]
     exact .inr (.inr ⟨a,z,none,by rw[hlt],k1,.inr hza,(fun c' hc'=>by cases hc'),fun q=>k4 (fun e=>by subst e;simp at q),k5.take hn⟩)
theorem pZ{ty e sz:TypeId}(hu:P.underlying ty=some (.slice e))(hs:size P e=some sz){v:V}(r:RD g .nilrow v\/∃ l,RD g (.row sz l) v){lov hiv:Option V}{m:V}(h1:eF lov 0=some 0)(h2:eF hiv 0=some 0)(h3:kn m=some 0)(h4:hiv.isSome=true) :
 ∃ v',cx P ty v lov hiv (some m)=some v'/\RD g .nilrow v':=by
 have zero:(bI (eF lov 0)&&bI (eF hiv 0)&&bI (eF (some m) 0))=true:=by
  rw[h1,h2];simp only[eF,h3];rfl
 have hd:∀ d,eF hiv d=some 0:=fun d=>by
  cases hiv with
  |none=>cases h4
  |some q=>exact h2
 have hnil:cx P ty .nilslice lov hiv (some m)=some .nilslice:=by
  simp_all[cx,zero,Option.isSome_some,Bool.not_true,Bool.and_false]
 have hno:∀ a z sz',cx P ty (.slice a z 0 (some 0) sz') lov hiv (some m)=some (.slice a z 0 (some 0) sz'):=fun a z sz'=>by
  simp only[cx,hu,hs,gm,Nat.beq_refl,Bool.and_self,Bool.or_true,cond_true,zero,h4,Option.isSome_some,Bool.not_true,Bool.and_false,Bool.not_false]
 rcases r with r|⟨l,r⟩
 ·simp only[RD]at r
  rcases r with rfl|⟨a,z,sz',rfl⟩
  ·exact⟨_,hnil,by simp only[RD];exact .inl trivial⟩
  ·exact⟨_,hno a z sz',by simp only[RD];exact .inr ⟨a,z,sz',rfl⟩⟩
 ·simp only[RD]at r
  rcases r with⟨rfl,rfl⟩|⟨rfl,a,z,sz',rfl⟩|⟨a,z,cap,rfl,k1,k2,k3,k4,k5⟩
  ·exact⟨_,hnil,by simp only[RD];exact .inl trivial⟩
  ·exact⟨_,hno a z sz',by simp only[RD];exact .inr ⟨a,z,sz',rfl⟩⟩
  ·by_cases hnc:(Nat.beq l.length 0&&gm cap)=true
   ·simp only[Bool.and_eq_true]at hnc
    have hl:=Nat.eq_of_beq_eq_true hnc.1
    rw[hl]
    have hc:cap=some 0:=by
     cases cap with
     |none=>cases hnc.2
     |some c=>rw[Nat.eq_of_beq_eq_true hnc.2]
    subst hc
    exact⟨_,hno a z sz,by simp only[RD];exact .inr ⟨a,z,sz,rfl⟩⟩
   ·have hz:(Nat.beq sz 0||(Nat.beq l.length 0&&gm cap))=false:=by
     cases sz with
     |zero=>exact(Nat.lt_irrefl _ k1).elim
     |succ _=>cases hq:(Nat.beq l.length 0&&gm cap)with
      |true=>exact(hnc hq).elim
      |false=>rfl
    have hk:(cap.isSome||Nat.blt 0 l.length||Nat.beq z a.c)=true:=by
     grind [Nat.beq_refl]
    refine⟨.slice a 0 (0 - 0) (some 0) sz,?_,by simp only[RD];exact .inr ⟨a,0,sz,rfl⟩⟩
    simp only[cx,hu,hs,hz,cond_false,Nat.beq_refl,h4,Option.isSome_some,Bool.not_true,Bool.and_false,Bool.not_false,Bool.and_self,cond_true,h1,hd,h3,oj,hk]
theorem EJ(h:FI b P0 g t L tv LO){ty:TypeId}{x:D}{lo hi mx:Option D}{κ:D->DH->ag}(e:cy P ty x lo hi mx g.H κ=some out){v:V}(r:RD g x v){lov hiv mxv:Option V}(r1:nF g lo lov)(r2:nF g hi hiv)(r3:nF g mx mxv) :
 ∃ d H' v',κ d H'=some out/\cx P ty v lov hiv mxv=some v'/\rH b P0 g t L tv LO L H' g.s fun g' _=>RD g' d v':=by
 unfold cy at e
 split at e
 ·rename_i hu
  split at e
  ·rename_i l
   simp only[RD]at r
   obtain⟨rfl,hb⟩:=r
   split at e
   ·cases mxv with
    |some _=>exact r3.elim
    |none =>
    obtain⟨hn,e,h1,_⟩:=dR e r2
    obtain⟨bn,e,h2,_⟩:=dR e r1
    obtain⟨hc,e⟩:=cR e
    refine⟨_,_,.str ((l.drop bn).take (hn - bn)),e,by simp only[cx,hu,h1,h2,hc,cond_true],rH.same h ?_⟩
    simp only[RD]
    exact⟨trivial,fun c hc=>hb c (List.mem_of_mem_drop (List.mem_of_mem_take hc))⟩
   ·cases e
  ·cases e
 ·rename_i el hu
  split at e
  ·rename_i sz hs
   split at e
   ·cases mxv with
    |some _=>exact r3.elim
    |none =>
    split at e
    ·rename_i s l
     obtain⟨hb,e1⟩:=aC e
     clear e
     have hb:=Nat.eq_of_beq_eq_true hb
     subst hb
     obtain⟨d,v',e,k1,k2⟩:=rN e1 r r1 r2 hu hs
     exact⟨d,_,v',e,k1,rH.same h k2⟩
    ·rename_i s o n
     obtain⟨sz',st,cap,l,e1,hc,hc2,hn⟩:=jS e (dM.refl g)
     clear e
     obtain⟨hb,e⟩:=cR e1
     clear e1
     have hb:=Nat.eq_of_beq_eq_true hb
     subst hb
     simp only[RD]at r
     have hsz:sz'=s:=by
      rcases r with⟨⟨_,_,_,k1⟩,_⟩|⟨st',cap',l',j1,_⟩
      ·rw[hc2]at k1;cases k1
      grind
     subst hsz
     have hr:=Bh h.ok hc2 hn r
     have r1':nF (g.frz o sz' cap l) lo lov:=by cases lo<;>cases lov<;>first|exact r1|exact RD.mono (sj hc2) r1
     have r2':nF (g.frz o sz' cap l) hi hiv:=by cases hi<;>cases hiv<;>first|exact r2|exact RD.mono (sj hc2) r2
     obtain⟨d,v',e2,k1,k2⟩:=rN e hr r1' r2' hu hs
     exact⟨d,_,v',e2,k1,g.frz o sz' cap l,LO,rfl,rfl,h.frz hc2,Fm hc2,.ps rfl,k2⟩
    ·obtain⟨hn,e1,h1,_⟩:=dR e r2
     obtain⟨bn,e2,h2,_⟩:=dR e1 r1
     clear e e1
     obtain⟨hc,e⟩:=cR e2
     clear e2
     simp only[Bool.and_eq_true]at hc
     obtain rfl:=Nat.eq_of_beq_eq_true hc.1
     obtain rfl:=Nat.eq_of_beq_eq_true hc.2
     have zero:(bI (eF lov 0)&&bI (eF hiv 0)&&bI (eF none 0))=true:=by rw[h1,h2];rfl
     have r0:=r
     simp only[RD]at r
     refine⟨_,_,v,e,?_,rH.same h r0⟩
     rcases r with rfl|⟨a,z,sz',rfl⟩
     ·simp only[cx,hu,hs,zero,cond_true,Option.isSome_none,Bool.false_and,cond_false]
     ·simp only[cx,hu,hs,gm,Nat.beq_refl,Bool.and_self,Bool.or_true,cond_true,zero,Option.isSome_none,Bool.false_and,Bool.not_false]
    ·cases e
   ·rename_i md
    cases mxv with
    |none=>exact r3.elim
    |some mv =>
    obtain⟨mn,e1,h3,_⟩:=dR (o:=some md) (ov:=some mv) e r3
    obtain⟨hn,e2,h1,_⟩:=dR e1 r2
    obtain⟨bn,e3,h2,_⟩:=dR e2 r1
    clear e e1 e2
    obtain⟨hc,e⟩:=aC e3
    clear e3
    simp only[Bool.and_eq_true]at hc
    obtain⟨hc1,⟨hc2,hc3⟩,hc4⟩:=hc
    obtain rfl:=Nat.eq_of_beq_eq_true hc2
    obtain rfl:=Nat.eq_of_beq_eq_true hc3
    obtain rfl:=Nat.eq_of_beq_eq_true hc4
    have h4:hiv.isSome=true:=by rw[r2.isSome];exact hc1
    split at e
    ·rename_i s l
     obtain⟨hb,e1⟩:=aC e
     clear e
     have hb:=Nat.eq_of_beq_eq_true hb
     subst hb
     obtain⟨v',k1,k2⟩:=pZ (g:=g) hu hs (.inr ⟨_,r⟩) h2 h1 h3 h4
     exact⟨_,_,v',e1,k1,rH.same h k2⟩
    ·rename_i s o n
     obtain⟨sz',st,cap,l,e1,hc,hc2,hn⟩:=jS e (dM.refl g)
     clear e
     obtain⟨hb,e⟩:=cR e1
     clear e1
     have hb:=Nat.eq_of_beq_eq_true hb
     subst hb
     simp only[RD]at r
     have hsz:sz'=s:=by
      rcases r with⟨⟨_,_,_,k1⟩,_⟩|⟨st',cap',l',j1,_⟩
      ·rw[hc2]at k1;cases k1
      grind
     subst hsz
     have hr:=Bh h.ok hc2 hn r
     obtain⟨v',k1,k2⟩:=pZ hu hs (.inr ⟨_,hr⟩) h2 h1 h3 h4
     simp only[RD]at k2
     exact⟨_,_,v',e,k1,rH.same h (by simp only[RD];exact k2)⟩
    ·obtain⟨v',k1,k2⟩:=pZ (g:=g) hu hs (.inl r) h2 h1 h3 h4
     exact⟨_,_,v',e,k1,rH.same h k2⟩
    ·cases e
  ·cases e
 ·cases e
theorem Qn(h:FI b P0 g t L tv LO){ty:TypeId}{x:D}{lo hi mx:Option D}{κ:D->DH->ag}(e:Qp P ty x lo hi mx g.H κ=some out){v:V}(r:RD g x v){lov hiv mxv:Option V}(r1:nF g lo lov)(r2:nF g hi hiv)(r3:nF g mx mxv) :
 ∃ d H' v',κ d H'=some out/\cx P ty v lov hiv mxv=some v'/\rH b P0 g t L tv LO L H' g.s fun g' _=>RD g' d v':=by
 unfold Qp at e
 split at e
 ·rename_i el hu
  split at e
  ·rename_i sz hs
   split at e
   ·cases lov with
    |some _=>exact r1.elim
    |none =>
    split at e
    ·cases mxv with
     |some _=>exact r3.elim
     |none =>
     split at e
     ·rename_i k hn
      cases hiv with
      |none=>exact r2.elim
      |some hv =>
      have hv0:hv=.int k hn:=by have q:RD g (.int k hn) hv:=r2;simpa only[RD]using q
      subst hv0
      obtain⟨m,rfl,e1⟩:=iz e
      clear e r1 r2 r3
      have fin:∀ {f ver n:Nat},0<sz->m<=n->cx P ty (.slice ⟨f,ver,0⟩ 0 n none sz) none (some (.int k (m:Nat))) none=some (.slice ⟨f,ver,0⟩ 0 m none sz):=fun {f ver n} hz hm=>by
       have hz2:Nat.beq sz 0=false:=by cases sz with|zero=>cases hz|succ _=>rfl
       simp only[cx,hu,hs,hz2,gm,Bool.and_false,Bool.or_false,cond_false,Nat.beq_refl,Option.isSome_none,Bool.false_and,Bool.not_false,Bool.and_self,cond_true,eF,kn,Nat.ble_eq_true_of_le hm,oj,Nat.sub_zero]
      have cutR:∀ {f ver el nv:Nat} {vers:List mf} {cells:List V} {o s:Nat} {l:List (List D)} {x0:DB},0<sz->g.O[o]? = some (some (f,ver))->g.s.get f=some (.cells el false nv vers)->bj vers ver=some ⟨ver,0,cells⟩->l.length*sz<=cells.length->(∀ u∈vers,u.v<nv)->RR g ⟨f,ver,0⟩ sz l->g.H[o]? = some x0->Nn sz s x0->m<=l.length ->
       rH b P0 g t L tv LO L (g.H.set o (.tbuf sz s (l.take m))) g.s fun g' _=>RD g' (.tb sz o s m) (.slice ⟨f,ver,0⟩ 0 m none sz):=fun {f ver el nv vers cells o s l x0} hz q1 q2 q3 q4 q5 q6 q7 q8 q9=>by
       have hle:=Fv (l:=l.take m) q7 q8
       have hl:(l.take m).length=m:=by rw[List.length_take];omega
       refine⟨g.cut o sz s (l.take m),LO,rfl,rfl,h.cut q7 q8 ⟨hz,f,ver,el,nv,vers,cells,q1,q2,q3,?_,q5,(q6.keep hle rfl).take m⟩,Lv q7 q8,.ps rfl,?_⟩
       ·rw[hl];exact Nat.le_trans (Nat.mul_le_mul_right _ q9) q4
       ·simp only[RD]
        exact⟨f,ver,s,l.take m,ver,q1,aU q7,Nat.le_refl _,rfl,fun _=>⟨hl.symm,rfl⟩⟩
      split at e1
      ·rename_i s o n
       obtain⟨hb,e2⟩:=aC e1
       clear e1
       have hb:=Nat.eq_of_beq_eq_true hb
       subst hb
       obtain⟨sz',st,cap,l,e3,hc,hc2,hn⟩:=jS e2 (dM.refl g)
       clear e2
       obtain⟨hk,e⟩:=cR e3
       clear e3
       simp only[Bool.and_eq_true,Bool.not_eq_true']at hk
       obtain⟨hk1,rfl,rfl,hk2,hk3⟩:=hk
       have hk1:=Nat.eq_of_beq_eq_true hk1
       subst hk1
       have hk2:=Nat.le_of_ble_eq_true hk2
       have hk3:0<n:=Nat.le_of_ble_eq_true hk3
       simp only[RD]at r
       rcases r with⟨⟨_,_,_,k1⟩,_⟩|⟨st',cap',l',j1,_,j2⟩
       ·rw[hc2]at k1;cases k1
       rw[hc2]at j1;cases j1
       rcases j2 with⟨j3,_⟩|⟨_,f,ver,ver',c,j4,rfl,j5⟩
       ·omega
       obtain⟨rfl,rfl⟩:=j5 hn
       obtain⟨hz,i1|⟨i1,f',ver2,el,nv,vers,cells,i2,i3,i4,i5,i6,i7⟩⟩:=h.ok.obj o _ hc2
       ·rw[i1.1]at hn;simp at hn;omega
       rw[j4]at i2;cases i2
       exact⟨_,_,_,e,fin hz hk2,cutR hz j4 i3 i4 (Nat.le_of_eq i5.symm) (fun u hu=>(i6 u hu).1) i7 hc2 (.inl ⟨_,_,rfl⟩) (by omega)⟩
      ·rename_i s o st n
       obtain⟨hb,e2⟩:=aC e1
       clear e1
       have hb:=Nat.eq_of_beq_eq_true hb
       subst hb
       obtain⟨sz',l,e3,hc,hc2⟩:=EB e2 (dM.refl g)
       clear e2
       obtain⟨hk,e⟩:=cR e3
       clear e3
       simp only[Bool.and_eq_true]at hk
       have hk1:=Nat.eq_of_beq_eq_true hk.1
       subst hk1
       have hk2:=Nat.le_of_ble_eq_true hk.2
       simp only[RD]at r
       obtain⟨f,ver,s',l',ver',j4,j1,_,rfl,j5⟩:=r
       rw[hc2]at j1;cases j1
       obtain⟨rfl,rfl⟩:=j5 rfl
       obtain⟨hz,f',ver2,el,nv,vers,cells,i2,i3,i4,i5,i6,i7⟩:=h.ok.obj o _ hc2
       rw[j4]at i2;cases i2
       exact⟨_,_,_,e,fin hz hk2,cutR hz j4 i3 i4 i5 i6 i7 hc2 (.inr ⟨_,_,rfl,Nat.lt_succ_self _⟩) hk2⟩
      ·cases e1
     ·cases e
    ·cases e
   ·cases e
  ·cases e
 ·cases e
theorem EK{ty:TypeId}{x:D}{lo hi mx:Option D}{κ:D->DH->ag}(e:cy P ty x lo hi mx [] κ=some out){v:V}(r:RD g x v){lov hiv mxv:Option V}(r1:nF g lo lov)(r2:nF g hi hiv)(r3:nF g mx mxv) :
 ∃ d v',κ d []=some out/\cx P ty v lov hiv mxv=some v'/\RD g d v':=by
 have nob:∀ {o n:Nat} {k:Nat->Bool->Bool->List (List D)->ag},gF [] o n k=some out->False:=fun h=>by simp[gF]at h
 unfold cy at e
 split at e
 ·rename_i hu
  split at e
  ·rename_i l
   simp only[RD]at r
   obtain⟨rfl,hb⟩:=r
   split at e
   ·cases mxv with
    |some _=>exact r3.elim
    |none =>
    obtain⟨hn,e,h1,_⟩:=dR e r2
    obtain⟨bn,e,h2,_⟩:=dR e r1
    obtain⟨hc,e⟩:=cR e
    refine⟨_,.str ((l.drop bn).take (hn - bn)),e,by simp only[cx,hu,h1,h2,hc,cond_true],?_⟩
    simp only[RD]
    exact⟨trivial,fun c hc=>hb c (List.mem_of_mem_drop (List.mem_of_mem_take hc))⟩
   ·cases e
  ·cases e
 ·rename_i el hu
  split at e
  ·rename_i sz hs
   split at e
   ·cases mxv with
    |some _=>exact r3.elim
    |none =>
    split at e
    ·rename_i s l
     obtain⟨hb,e1⟩:=aC e
     clear e
     have hb:=Nat.eq_of_beq_eq_true hb
     subst hb
     obtain⟨d,v',e,k1,k2⟩:=rN e1 r r1 r2 hu hs
     exact⟨d,v',e,k1,k2⟩
    ·exact(nob e).elim
    ·obtain⟨hn,e1,h1,_⟩:=dR e r2
     obtain⟨bn,e2,h2,_⟩:=dR e1 r1
     clear e e1
     obtain⟨hc,e⟩:=cR e2
     clear e2
     simp only[Bool.and_eq_true]at hc
     obtain rfl:=Nat.eq_of_beq_eq_true hc.1
     obtain rfl:=Nat.eq_of_beq_eq_true hc.2
     have zero:(bI (eF lov 0)&&bI (eF hiv 0)&&bI (eF none 0))=true:=by rw[h1,h2];rfl
     have r0:=r
     simp only[RD]at r
     refine⟨_,v,e,?_,r0⟩
     rcases r with rfl|⟨a,z,sz',rfl⟩
     ·simp only[cx,hu,hs,zero,cond_true,Option.isSome_none,Bool.false_and,cond_false]
     ·simp only[cx,hu,hs,gm,Nat.beq_refl,Bool.and_self,Bool.or_true,cond_true,zero,Option.isSome_none,Bool.false_and,Bool.not_false]
    ·cases e
   ·rename_i md
    cases mxv with
    |none=>exact r3.elim
    |some mv =>
    obtain⟨mn,e1,h3,_⟩:=dR (o:=some md) (ov:=some mv) e r3
    obtain⟨hn,e2,h1,_⟩:=dR e1 r2
    obtain⟨bn,e3,h2,_⟩:=dR e2 r1
    clear e e1 e2
    obtain⟨hc,e⟩:=aC e3
    clear e3
    simp only[Bool.and_eq_true]at hc
    obtain⟨hc1,⟨hc2,hc3⟩,hc4⟩:=hc
    obtain rfl:=Nat.eq_of_beq_eq_true hc2
    obtain rfl:=Nat.eq_of_beq_eq_true hc3
    obtain rfl:=Nat.eq_of_beq_eq_true hc4
    have h4:hiv.isSome=true:=by rw[r2.isSome];exact hc1
    split at e
    ·rename_i s l
     obtain⟨hb,e1⟩:=aC e
     clear e
     have hb:=Nat.eq_of_beq_eq_true hb
     subst hb
     obtain⟨v',k1,k2⟩:=pZ (g:=g) hu hs (.inr ⟨_,r⟩) h2 h1 h3 h4
     exact⟨_,v',e1,k1,k2⟩
    ·exact(nob e).elim
    ·obtain⟨v',k1,k2⟩:=pZ (g:=g) hu hs (.inl r) h2 h1 h3 h4
     exact⟨_,v',e,k1,k2⟩
    ·cases e
  ·cases e
 ·cases e
end Go.AI
set_option linter.all false
noncomputable section
namespace Go.AI
variable[ft]
variable{b:Nat}{P0:List Nat}{g:Gh}{LO:List Nat}{t:T LD}{L:LS}{tv:T V}{P:Program}{out:gI}{E:cw}
def Rf(t t':T LD)(tv:T V):Prop:=∀(Q:Nat->LD->V->Prop),(∀ i q,Q i (.g (.bool q)) (.bool q))->(∀ i x,t.get (eB i)=some x->∃ v,tv.get (eB i)=some v/\Q i x v)->∀ i x,t'.get (eB i)=some x->∃ v,tv.get (eB i)=some v/\Q i x v
theorem Rf.refl(t:T LD)(tv:T V):Rf t t tv:=fun _ _ h=>h
theorem Rf.rt{t t':T LD}(r:Rf t t' tv)(h:yx g LO t tv):yx g LO t' tv:=r (fun _ x v=>RS g LO x v) (fun _ q=>by show RD _ _ _;simp only[RD]) h
theorem vm{i:Nat}{q:Bool}(hv:tv.get (eB i)=some (.bool q)):Rf t (T.set (some (.g (.bool q))) (eB i) t) tv:=fun Q hq h j x hx=>by
 grind [T.get_set_same,T.get_setN]
theorem uj{x:Operand}{q:Bool}(hv:eval tv x=some (.bool q)):Rf t (GS t x q) tv:=by
 cases x with
 |tmp i=>exact vm hv
 |_=>exact Rf.refl t tv
theorem Pj{d:D}{x y:ag}(h:VS d x y=some out):∃ q,d=.bool q/\(bif q then x else y)=some out:=by
 unfold VS at h
 grind
theorem zS{x y:ag}(h:HY x y=some out):x=some out/\y=some out:=by
 grind [HY]
theorem BJ{d:D}{x y:ag}(h:brD d x y=some out){v:V}(r:RD g d v):∃ q,v=.bool q/\(bif q then x else y)=some out:=by
 unfold brD at h
 grind [RD,zS]
theorem NY{P:Program}{op:BinOp}{ty el:TypeId}{x y:Operand}{d:D}{κ:D->ag}(h:IJ op d κ=some out)(hu:P.underlying ty=some (.slice el)){v w:V}(r:RD g d v)(hy:po y=true)(hw:eval tv y=some w)(s:S) :
 ∃ d' v',κ d'=some out/\dO P s op ty x y (some v) (some w)=some v'/\RD g d' v':=by
 have hw2:w=.nilslice:=by
  unfold po at hy
  grind [eval,Option.some.inj]
 subst hw2
 unfold IJ at h
 obtain⟨hq,h⟩:=aC h
 have key:∀ {v:V},(v=.nilslice\/∃ a z n c sz,v=.slice a z n c sz)->∃ q,dO P s op ty x y (some v) (some .nilslice)=some (.bool q)/\((∃ a z n c sz,v=.slice a z n c sz)->q=QP op):=fun {v} hv=>by
  have hg:eu P op ty x y v .nilslice=true:=by
   grind [eu]
  simp only[dO,hg,cond_true]
  rcases hv with rfl|⟨a,z,n,c,sz,rfl⟩
  ·cases op<;>first|(cases hq;done)|(simp only[ee,cn,hu,Option.map];exact⟨_,rfl,fun⟨a,z,n,c,sz,q⟩=>by cases q⟩)
  ·cases op<;>first|(cases hq;done)|(simp only[ee,cn,hu,Option.map];exact⟨_,rfl,fun _=>rfl⟩)
 split at h
 ·simp only[RD]at r
  obtain⟨q,h1,_⟩:=key (v:=v) (by rcases r with rfl|⟨a,z,sz,rfl⟩;exact .inl rfl;exact .inr ⟨_,_,_,_,_,rfl⟩)
  exact⟨_,_,h,h1,by simp only[RD];exact⟨q,rfl⟩⟩
 ·rename_i sz l _
  simp only[RD]at r
  cases l with
  |nil =>
   obtain⟨q,h1,_⟩:=key (v:=v) (by rcases r with⟨_,rfl⟩|⟨_,a,z,sz,rfl⟩|⟨a,z,cap,rfl,_⟩;exact .inl rfl;exact .inr ⟨_,_,_,_,_,rfl⟩;exact .inr ⟨_,_,_,_,_,rfl⟩)
   exact⟨_,_,h,h1,by simp only[RD];exact⟨q,rfl⟩⟩
  |cons e l =>
   rcases r with⟨q,_⟩|⟨q,_⟩|⟨a,z,cap,rfl,_⟩
   ·cases q
   ·cases q
   ·obtain⟨q,h1,h2⟩:=key (v:=.slice a z (e::l).length cap sz) (.inr ⟨_,_,_,_,_,rfl⟩)
    refine⟨_,_,h,h1,?_⟩
    rw[h2 ⟨_,_,_,_,_,rfl⟩]
    show RD _ _ _
    simp only[RD]
 ·rename_i sz o n _
  simp only[RD]at r
  have hv:(v=.nilslice\/∃ a z n c sz,v=.slice a z n c sz)/\(0<n->∃ a z n c sz,v=.slice a z n c sz):=by
   rcases r with⟨_,r⟩|⟨_,_,_,_,_,r⟩
   ·rcases r with⟨h0,r⟩|⟨a,z,c,rfl⟩
    ·refine⟨?_,fun q=>by omega⟩
     rcases r with rfl|⟨a,z,sz',rfl⟩
     ·exact .inl rfl
     ·exact .inr ⟨_,_,_,_,_,rfl⟩
    ·exact⟨.inr ⟨_,_,_,_,_,rfl⟩,fun _=>⟨_,_,_,_,_,rfl⟩⟩
   ·rcases r with⟨h0,r⟩|⟨_,f,ver,ver',cap',_,rfl,_⟩
    ·refine⟨?_,fun q=>by omega⟩
     rcases r with rfl|⟨a,z,sz',rfl⟩
     ·exact .inl rfl
     ·exact .inr ⟨_,_,_,_,_,rfl⟩
    ·exact⟨.inr ⟨_,_,_,_,_,rfl⟩,fun _=>⟨_,_,_,_,_,rfl⟩⟩
  obtain⟨q,h1,h2⟩:=key hv.1
  cases n with
  |zero=>exact⟨_,_,h,h1,by simp only[RD];exact⟨q,rfl⟩⟩
  |succ n =>
   refine⟨_,_,h,h1,?_⟩
   rw[h2 (hv.2 (by omega))]
   show RD _ _ _
   simp only[RD]
 ·cases h
theorem uI.set{x:Operand}{q:Bool}{c:Operand}(hc:eval tv c=some (.bool q))(h:uI g LO t tv x):uI g LO (GS t c q) tv x:=by
 intro y hy
 cases x with
 |tmp j =>
  cases c with
  |tmp i =>
   simp only[gq,GS]at hy
   by_cases hd:i=j
   ·subst hd
    rw[T.get_set_same]at hy
    cases hy
    exact⟨_,hc,by show RD _ _ _;simp only[RD]⟩
   ·rw[T.get_setN,if_neg hd]at hy
    exact h y hy
  |_=>exact h y hy
 |_=>exact h y hy
theorem Ww{ty:TypeId}{x:D}{lo hi mx:Option D}{κ:D->DH->ag}(e:Qp P ty x lo hi mx [] κ=some out):False:=by
 unfold Qp at e
 split at e
 ·split at e
  ·split at e
   ·split at e
    ·split at e
     ·obtain⟨m,_,e1⟩:=iz e
      split at e1
      ·have:=(aC e1).2;simp[gF]at this
      ·have:=(aC e1).2;simp[JO]at this
      ·cases e1
     ·cases e
    ·cases e
   ·cases e
  ·cases e
 ·cases e
theorem lw(o:Op){esc:Bool}{H:DH}{κ:T LD->xO->ag}(hk:aD E.E.P o<=1)(hs:(∀ ty x lo hi mx,o≠.slice ty x lo hi mx)\/H=[])(ho:∀ x∈o.operands.toList,uI g LO t tv x)(hok:Ok g)(hl:SN g L LO)(hH:dM H g)(e:jB o E esc t L H κ=some out) :
 ∃ t' d v,κ t' (.val d L H)=some out/\cC o E.E tv g.s=some (.val v g.s)/\RS g LO d v/\Rf t t' tv:=by
 have fin:∀ {d:D} {v:V} {r:Option V},κ t (.val (.g d) L H)=some out->r=some v->RD g d v->∃ t' d v,κ t' (.val d L H)=some out/\bp g.s r=some (.val v g.s)/\RS g LO d v/\Rf t t' tv:=fun h1 h2 h3=>⟨t,_,_,h1,by rw[h2];rfl,h3,.refl t tv⟩
 cases o with
 |move x =>
  obtain⟨d,v,h1,_,h2,h3⟩:=jY e (ho x (by simp[Op.operands]))
  exact⟨t,d,v,h1,by simp only[cC,h2];rfl,h3,.refl t tv⟩
 |assign x =>
  obtain⟨d,v,h1,_,h2,h3⟩:=jY e (ho x (by simp[Op.operands]))
  exact⟨t,d,v,h1,by simp only[cC,h2];rfl,h3,.refl t tv⟩
 |pick c x y =>
  simp only[jB,PM,qa]at e
  obtain⟨d,v,h1,_,h2,h3⟩:=bk e (ho c (by simp[Op.operands]))
  obtain⟨q,rfl,h4⟩:=Pj h1
  simp only[RD]at h3
  subst h3
  cases q with
  |true =>
   obtain⟨d',v',k1,_,k2,k3⟩:=jY (x:=x) h4 ((ho x (by simp[Op.operands])).set h2)
   exact⟨_,d',v',k1,by simp only[cC,lM,h2,cond_true,k2];rfl,k3,uj h2⟩
  |false =>
   obtain⟨d',v',k1,_,k2,k3⟩:=jY (x:=y) h4 ((ho y (by simp[Op.operands])).set h2)
   exact⟨_,d',v',k1,by simp only[cC,lM,h2,cond_false,k2];rfl,k3,uj h2⟩
 |build ty parts =>
  simp only[jB]at e
  have ho':∀ x∈parts.toList,uI g LO t tv x.2:=fun x hx=>ho x.2 (by simp only[Op.operands,List.mem_map];exact⟨x,hx,rfl⟩)
  cases esc
  ·obtain⟨d,v,h1,h2,h3⟩:=Jr (LO:=LO) (tv:=tv) (g:=g) e ho'
   exact fin h1 h2 h3
  ·obtain⟨d,v,h1,h2,h3⟩:=Gm (LO:=LO) (tv:=tv) (g:=g) e ho'
   exact fin h1 h2 h3
 |load ty x =>
  obtain⟨d,v,h1,_,h2,h3⟩:=jY e (ho x (by simp[Op.operands]))
  obtain⟨d',v',k1,k2,k3⟩:=CR h1 hH hok hl h3
  exact⟨t,_,v',k1,by simp only[cC,h2];exact k2,k3,.refl t tv⟩
 |nilCheck x =>
  obtain⟨d,v,h1,_,h2,h3⟩:=jY e (ho x (by simp[Op.operands]))
  obtain⟨k1,k2⟩:=Pe h1 h3
  exact⟨t,d,v,k1,by simp only[cC,h2,k2];rfl,h3,.refl t tv⟩
 |binOp op ty x y yT =>
  obtain⟨a,v,h1,_,h2,h3⟩:=bk e (ho x (by simp[Op.operands]))
  obtain⟨c,w,h4,_,h5,h6⟩:=bk h1 (ho y (by simp[Op.operands]))
  cases hn:po y with
  |true =>
   rw[hn]at h4;dsimp only at h4
   split at h4
   ·rename_i hu
    obtain⟨d,v',k1,k2,k3⟩:=NY (x:=x) h4 hu h3 hn h5 g.s
    exact fin k1 (by rw[h2,h5];exact k2) k3
   ·cases h4
  |false =>
  rw[hn]at h4;dsimp only at h4
  obtain⟨d,v',k1,k2,k3⟩:=ML hH hok h4 h3 h6
  exact fin k1 (by rw[h2,h5];exact k2) k3
 |unOp op ty x =>
  obtain⟨a,v,h1,_,h2,h3⟩:=bk e (ho x (by simp[Op.operands]))
  obtain⟨d,v',k1,k2,k3⟩:=Ql h1 h3
  exact fin k1 (by rw[h2];exact k2) k3
 |convert src dst x =>
  obtain⟨a,v,h1,_,h2,h3⟩:=bk e (ho x (by simp[Op.operands]))
  obtain⟨d,v',k1,k2,k3⟩:=ME h1 h3 g.s
  exact⟨t,_,v',k1,by simp only[cC,h2,gj,k2];rfl,k3,.refl t tv⟩
 |makeInterface ty x =>
  obtain⟨a,v,h1,_,h2,h3⟩:=bk e (ho x (by simp[Op.operands]))
  split at h1
  ·cases h1
  ·rename_i hni hu
   refine fin (v:=.iface ty v) h1 ?_ (by simp only[RD];exact⟨v,rfl,h3⟩)
   rw[h2]
   unfold nW
   rw[hu]
   split
   ·rename_i q;exact(hni _ (Option.some.inj q)).elim
   ·rfl
   ·rename_i q;cases q
  ·cases h1
 |makeFunc fn first cap =>
  simp only[jB]at e
  split at e
  ·obtain⟨ds,vs,h1,h2,h3⟩:=jf e (fun x hx=>ho x (by simp[Op.operands]at hx ⊢;exact .inl hx))
   obtain⟨es,ws,h4,h5,h6⟩:=jf h1 (fun x hx=>ho x (by simp[Op.operands]at hx ⊢;exact .inr hx))
   refine fin (v:=.func (.func _) vs ws) h4 ?_ (by simp only[RD];exact⟨vs,ws,rfl,h3,h6⟩)
   simp only[qU,h2,h5,AR]
  ·cases e
 |fieldAddr ty x f =>
  obtain⟨d,v,h1,_,h2,h3⟩:=jY e (ho x (by simp[Op.operands]))
  obtain⟨d',v',k1,k2,k3⟩:=Jd h1 h3
  exact⟨t,d',v',k1,by simp only[cC,h2,k2];rfl,k3,.refl t tv⟩
 |field ty x f =>
  obtain⟨a,v,h1,_,h2,h3⟩:=bk e (ho x (by simp[Op.operands]))
  obtain⟨d,v',k1,k2,k3⟩:=Jc h1 h3
  exact fin k1 (by rw[h2];exact k2) k3
 |indexAddr ty x i =>
  obtain⟨a,v,h1,_,h2,h3⟩:=bk e (ho x (by simp[Op.operands]))
  obtain⟨c,w,h4,_,h5,h6⟩:=bk h1 (ho i (by simp[Op.operands]))
  obtain⟨d,v',k1,k2,k3⟩:=IV h4 h3 h6
  exact fin k1 (by rw[h2,h5];exact k2) k3
 |index ty x i =>
  obtain⟨a,v,h1,_,h2,h3⟩:=bk e (ho x (by simp[Op.operands]))
  obtain⟨c,w,h4,_,h5,h6⟩:=bk h1 (ho i (by simp[Op.operands]))
  obtain⟨d,v',k1,k2,k3⟩:=IU h4 h3 h6
  exact fin k1 (by rw[h2,h5];exact k2) k3
 |lookup ty x k ok =>
  obtain⟨a,v,h1,_,h2,h3⟩:=bk e (ho x (by simp[Op.operands]))
  obtain⟨c,w,h4,_,h5,h6⟩:=bk h1 (ho k (by simp[Op.operands]))
  obtain⟨d,v',k1,k2,k3⟩:=LF h4 hH hok h3 h6
  exact fin k1 (by rw[h2,h5];exact k2) k3
 |typeAssert x xT ty ok =>
  obtain⟨a,v,h1,_,h2,h3⟩:=bk e (ho x (by simp[Op.operands]))
  obtain⟨d,v',k1,k2,k3⟩:=Gr h1 h3
  exact fin k1 (by rw[h2];exact k2) k3
 |extract x i =>
  obtain⟨a,v,h1,_,h2,h3⟩:=bk e (ho x (by simp[Op.operands]))
  obtain⟨d,v',k1,k2,k3⟩:=OT h1 h3
  exact fin k1 (by rw[h2];exact k2) k3
 |slice ty x lo hi mx =>
  rcases hs with hs|rfl
  ·exact(hs _ _ _ _ _ rfl).elim
  obtain⟨d,v,h1,_,h2,h3⟩:=bk e (ho x (by simp[Op.operands]))
  obtain⟨d1,v1,h4,h5,h6⟩:=nV h1 (fun y hy=>ho y (by subst hy;simp[Op.operands]))
  obtain⟨d2,v2,h7,h8,h9⟩:=nV h4 (fun y hy=>ho y (by subst hy;simp[Op.operands]))
  obtain⟨d3,v3,i1,i2,i3⟩:=nV h7 (fun y hy=>ho y (by subst hy;simp[Op.operands]))
  cases esc
  rotate_left
  ·exact(Ww i1).elim
  obtain⟨d',v',k1,k2,k3⟩:=EK i1 h3 h6 h9 i3
  exact fin k1 (by rw[h2,h5,h8,i2];exact k2) k3
 |call c =>
  simp only[jB]at e
  obtain⟨ds,vs,h1,h2,h3⟩:=jf e (fun x hx=>ho x (by simp[Op.operands,Call.operands]at hx ⊢;exact .inr hx))
  simp only[cC,h2,gE]
  split at h1
  ·rename_i bi hc
   rw[hc]
   simp only[aD,hc]at hk
   simp only
   cases bi<;>first|(simp at hk;done)|skip
   case len =>
    simp only[lR]at h1
    simp only[ip]
    split at h1
    ·rename_i a ha
     split at h1
     ·rename_i x
      simp only[RL]at h3
      obtain⟨v,vs',rfl,k1,rfl⟩:=h3
      obtain⟨d,v',j1,j2,j3⟩:=Ot h1 hH hok k1
      rw[ha]
      exact fin j1 j2 j3
     ·cases h1
    ·cases h1
   case max =>
    simp only[lR]at h1
    simp only[ip]
    split at h1
    ·simp only[RL]at h3
     obtain⟨v,vs',rfl,k1,k2⟩:=h3
     obtain⟨d,v',j1,j2,j3⟩:=vR h1 k1 k2
     exact fin j1 j2 j3
    ·cases h1
   case min =>
    simp only[lR]at h1
    simp only[ip]
    split at h1
    ·simp only[RL]at h3
     obtain⟨v,vs',rfl,k1,k2⟩:=h3
     obtain⟨d,v',j1,j2,j3⟩:=vR h1 k1 k2
     exact fin j1 j2 j3
    ·cases h1
   case cap=>cases h1
  ·rename_i f hc
   simp[aD,hc]at hk
  ·cases h1
 |_=>first|(cases e;done)|(simp[aD]at hk;done)
def Wb(E:cV)(b:Nat)(P0:List Nat)(g:Gh)(t:T LD)(tv:T V)(L:LS)(LO:List Nat)(x:xO)(nx:Nx):Prop:=match x with
 |.val d L' H'=>∃ v s',nx=.val v s'/\rH b P0 g t L tv LO L' H' s' fun g' LO'=>RS g' LO' d v
 |.skip L' H'=>∃ s',nx=.skip s'/\rH b P0 g t L tv LO L' H' s' fun _ _=>True
 |.enter f args L' H'=>∃ vs,nx=.enter f vs g.s/\L'=L/\H'=g.H/\RL g args vs/\et E f=true
 |.defer df L' H'=>∃ c a,nx=.defer (.call (.func df.fn) c a) g.s/\L'=L/\H'=g.H/\RL g df.captured c/\RL g df.args a/\et E df.fn=true
 |.recover L' H'=>nx=.recover g.s/\L'=L/\H'=g.H
 |.panic d L' H'=>∃ v,nx=.panic v g.s/\L'=L/\H'=g.H/\RD g d v
 |.round o args L' H'=>∃ vs l v,nx=.round l vs g.s/\L'=L/\H'=g.H/\RL g args vs/\g.O[o]? = some (some (l,v))
theorem FI.rf(h:FI b P0 g t L tv LO){t':T LD}(r:Rf t t' tv):FI b P0 g t' L tv LO:=⟨h.ok,r.rt h.slots,h.own,h.pv,h.low,h.nd,h.bl⟩
theorem yx.ops(h:yx g LO t tv)(l:List Operand):∀ x∈l,uI g LO t tv x:=fun x _=>h.op x
theorem AG(o:Op){esc:Bool}{κ:T LD->xO->ag}(h:FI b P0 g t L tv LO)(e:jB o E esc t L g.H κ=some out) :
 ∃ t' x nx,κ t' x=some out/\cC o E.E tv g.s=some nx/\Rf t t' tv/\Wb E.E b P0 g t tv L LO x nx:=by
 have rd:aD E.E.P o<=1->(∀ ty x lo hi mx,o≠.slice ty x lo hi mx)->∃ t' x nx,κ t' x=some out/\cC o E.E tv g.s=some nx/\Rf t t' tv/\Wb E.E b P0 g t tv L LO x nx:=fun hk hs=>by
  obtain⟨t',d,v,h1,h2,h3,h4⟩:=lw o hk (.inl hs) (h.slots.ops _) h.ok h.own.2 (dM.refl g) e
  exact⟨t',_,_,h1,h2,h4,v,g.s,rfl,rH.same h h3⟩
 cases o with
 |alloc elem =>
  simp only[jB]at e
  split at e
  ·rename_i z hz
   obtain⟨zv,h1,_,h3,h4⟩:=iK (g:=g) hz
   obtain⟨x,L',H',k1,k2⟩:=Hs h e h3 h4 elem
   exact⟨t,_,_,k1,by simp only[cC,iG,h1,oB,aZ,aY],.refl t tv,_,_,rfl,k2⟩
  ·cases e
 |box elem x =>
  simp only[jB]at e
  split at e
  ·obtain⟨d,v,h1,_,h2,h3⟩:=bk e (h.slots.op x)
   obtain⟨cs,h4,h5,h6,_⟩:=lQ h1 h3
   obtain⟨x,L',H',k1,k2⟩:=Hs h h4 h5 h6 elem
   exact⟨t,_,_,k1,by simp only[cC,qX,h2,oB,aZ,aY],.refl t tv,_,_,rfl,k2⟩
  ·cases e
 |buildSlice ty len parts =>
  simp only[jB]at e
  obtain⟨d,v,s',h1,h2,h3⟩:=xw h e (fun x _=>h.slots.op x.2)
  exact⟨t,_,_,h1,by simp only[cC];exact h2,.refl t tv,v,s',rfl,h3⟩
 |store ty x y =>
  obtain⟨d,v,h1,_,h2,h3⟩:=jY e (h.slots.op x)
  obtain⟨c,w,h4,_,h5,h6⟩:=bk h1 (h.slots.op y)
  obtain⟨s',L',H',k1,k2,k3⟩:=Iv h h4 h3 h6
  exact⟨t,_,_,k1,by simp only[cC,h2,h5];exact k2,.refl t tv,s',rfl,k3⟩
 |makeMap ty n =>
  cases n with
  |some _=>cases e
  |none=>exact⟨t,_,_,e,rfl,.refl t tv,_,_,rfl,IM h⟩
 |makeSlice ty l c =>
  simp only[jB]at e
  split at e
  ·rename_i el hu
   split at e
   ·rename_i i
    split at e
    ·rename_i j
     split at e
     ·cases e
     rename_i hb
     have hb:=Nat.eq_of_beq_eq_true hb
     subst hb
     obtain⟨d,v,h1,_,h2,h3⟩:=bk e (h.slots.op _)
     split at h1
     ·simp only[RD]at h3
      subst h3
      obtain⟨m,hm,h4⟩:=iz h1
      subst hm
      obtain⟨l,sz,v,s',k1,k2,k3⟩:=Oe h hu h4
      exact⟨t,_,_,k1,by simp only[cC,h2,cZ,kn];exact k2,.refl t tv,v,s',rfl,k3⟩
     ·cases h1
    ·cases e
   ·cases e
  ·cases e
 |slice ty x lo hi mx =>
  obtain⟨d,v,h1,_,h2,h3⟩:=bk e (h.slots.op x)
  obtain⟨d1,v1,h4,h5,h6⟩:=nV h1 (fun y _=>h.slots.op y)
  obtain⟨d2,v2,h7,h8,h9⟩:=nV h4 (fun y _=>h.slots.op y)
  obtain⟨d3,v3,i1,i2,i3⟩:=nV h7 (fun y _=>h.slots.op y)
  cases esc
  ·obtain⟨d',H',v',k1,k2,k3⟩:=EJ h i1 h3 h6 h9 i3
   exact⟨t,_,_,k1,by simp only[cC,h2,h5,h8,i2,qS,k2];rfl,.refl t tv,v',g.s,rfl,k3⟩
  ·obtain⟨d',H',v',k1,k2,k3⟩:=Qn h i1 h3 h6 h9 i3
   exact⟨t,_,_,k1,by simp only[cC,h2,h5,h8,i2,qS,k2];rfl,.refl t tv,v',g.s,rfl,k3⟩
 |mapUpdate ty m k x =>
  obtain⟨d1,v1,h1,_,h2,h3⟩:=bk e (h.slots.op m)
  obtain⟨d2,v2,h4,_,h5,h6⟩:=bk h1 (h.slots.op k)
  obtain⟨d3,v3,h7,_,h8,h9⟩:=bk h4 (h.slots.op x)
  obtain⟨s',H',k1,k2,k3⟩:=CO h h7 h3 h6 h9
  exact⟨t,_,_,k1,by simp only[cC,h2,h5,h8];exact k2,.refl t tv,s',rfl,k3⟩
 |insert ty m k x =>
  obtain⟨d1,v1,h1,_,h2,h3⟩:=bk e (h.slots.op m)
  obtain⟨d2,v2,h4,_,h5,h6⟩:=bk h1 (h.slots.op k)
  obtain⟨d3,v3,h7,_,h8,h9⟩:=bk h4 (h.slots.op x)
  obtain⟨s',H',k1,k2,k3⟩:=CO h h7 h3 h6 h9
  exact⟨t,_,_,k1,by simp only[cC,h2,h5,h8];exact k2,.refl t tv,s',rfl,k3⟩
 |call c =>
  have e0:=e
  simp only[jB]at e
  obtain⟨ds,vs,h1,h2,h3⟩:=jf e (fun x _=>h.slots.op x)
  split at h1
  ·rename_i bi hc
   have pure:(bi=.len\/bi=.max\/bi=.min)->∃ t' x nx,κ t' x=some out/\cC (.call c) E.E tv g.s=some nx/\Rf t t' tv/\Wb E.E b P0 g t tv L LO x nx:=fun hb=>by
    refine rd ?_ (fun _ _ _ _ _ q=>by cases q)
    grind [aD]
   cases bi<;>first|(cases h1;done)|exact pure (.inl rfl)|exact pure (.inr (.inl rfl))|exact pure (.inr (.inr rfl))|skip
   case append =>
    simp only[lR]at h1
    split at h1
    ·rename_i a ha
     split at h1
     ·rename_i c2 hb
      split at h1
      ·simp only[RL]at h3
       obtain⟨v1,vs1,rfl,k1,v2,vs2,rfl,k2,rfl⟩:=h3
       obtain⟨d,H',v,s',j1,j2,j3⟩:=Gs h h1 k1 k2
       exact⟨t,_,_,j1,by simp only[cC,h2,gE,hc,ip,ha,hb,j2,ii],.refl t tv,v,s',rfl,j3⟩
      ·cases h1
     ·cases h1
    ·cases h1
   case recover=>exact⟨t,_,_,h1,by simp only[cC,h2,gE,hc,ip],.refl t tv,rfl,rfl,rfl⟩
   case panic =>
    simp only[lR]at h1
    split at h1
    ·simp only[RL,RD]at h3
     obtain⟨v1,vs1,rfl,⟨v',rfl,k1⟩,rfl⟩:=h3
     exact⟨t,_,.panic (.iface _ v') g.s,h1,by simp only[cC,h2,gE,hc,ip];rfl,.refl t tv,_,rfl,rfl,rfl,by simp only[RD];exact⟨v',rfl,k1⟩⟩
    ·cases h1
  ·rename_i f hc
   obtain⟨d,v,k1,_,k2,k3⟩:=bk h1 (h.slots.op f)
   split at k1
   ·unfold GD at k1
    split at k1
    ·simp only[RD]at k3
     obtain⟨l,v',j1,rfl⟩:=k3
     exact⟨t,_,.round l vs g.s,k1,by simp only[cC,h2,gE,hc,k2,HU,List.nil_append],.refl t tv,vs,l,v',rfl,rfl,rfl,h3,j1⟩
    ·cases k1
   unfold BH at k1
   split at k1
   ·rename_i gf first cap
    obtain⟨hb,k1⟩:=aC k1
    simp only[RD]at k3
    obtain⟨a',b',rfl,j1,j2⟩:=k3
    refine⟨t,_,_,k1,?_,.refl t tv,a'++(vs++b'),rfl,rfl,rfl,j1.append (h3.append j2),hb⟩
    simp only[cC,h2,gE,hc,k2,HU,HV]
    unfold et at hb
    split at hb
    ·rename_i fn hf
     rw[hf]
     simp only
     split
     ·rename_i q;rw[q]at hb;cases hb
     ·rfl
    ·cases hb
   ·cases k1
  ·cases h1
 |defer c =>
  simp only[jB]at e
  obtain⟨ds,vs,h1,h2,h3⟩:=jf e (fun x _=>h.slots.op x)
  split at h1
  ·rename_i f hc
   obtain⟨d,v,k1,_,k2,k3⟩:=bk h1 (h.slots.op f)
   split at k1
   ·obtain⟨hb,k1⟩:=aC k1
    simp only[RD]at k3
    obtain⟨a',b',rfl,j1,j2⟩:=k3
    exact⟨t,_,_,k1,by simp only[cC,h2,nZ,hc,k2,BB],.refl t tv,b',a'++vs,rfl,rfl,rfl,j2,j1.append h3,hb⟩
   ·cases k1
  ·cases h1
 |panic x =>
  simp only[jB]at e
  obtain⟨d,v,k1,_,k2,k3⟩:=bk e (h.slots.op x)
  split at k1
  ·simp only[RD]at k3
   obtain⟨v',rfl,j1⟩:=k3
   exact⟨t,_,.panic (.iface _ v') g.s,k1,by simp only[cC,k2,uz];rfl,.refl t tv,_,rfl,rfl,rfl,by simp only[RD];exact⟨v',rfl,j1⟩⟩
  ·cases k1
 |convert src dst x =>
  refine rd ?_ (fun _ _ _ _ _ q=>by cases q)
  obtain⟨a,v,h1,_,h2,h3⟩:=bk e (h.slots.op x)
  unfold oO at h1
  revert h1
  cases (E.E.P.underlying src).isNone with
  |true=>intro h1;cases h1
  |false =>
   intro h1
   simp only[cond_false]at h1
   split at h1
   ·rename_i hu;simp[aD,hu]
   ·rename_i hu;simp[aD,hu]
   ·cases h1
 |binOp op ty x y yT=>exact rd (by simp only[aD];cases lE op<;>simp) (fun _ _ _ _ _ q=>by cases q)
 |_=>first
  |(cases e;done)
  |exact rd (by simp[aD]) (fun _ _ _ _ _ q=>by cases q)
end Go.AI
namespace Go.AI
theorem wI{i:Nat}(h:i<9223372036854775807):IntKind.wrap .i64 (((i:Nat):Int)+1)=((i+1:Nat):Int):=by
 rw[show((i:Nat):Int)+1=((i+1:Nat):Int)by omega];exact GE _ ⟨by omega,by omega⟩
end Go.AI
