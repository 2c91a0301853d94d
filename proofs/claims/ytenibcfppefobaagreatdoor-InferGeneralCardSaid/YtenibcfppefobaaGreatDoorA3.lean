/- Evaluators by which runs of the program are reckoned, that they are sound, and what the functions answer: part 3. No conditions beyond those of the row. -/
import Derived.Test.YtenibcfppefobaaGreatDoorS1
import Derived.Test.YtenibcfppefobaaGreatDoorS2
import Derived.Test.YtenibcfppefobaaGreatDoorS3
import Derived.Test.YtenibcfppefobaaGreatDoorS4
import Derived.IntWalk
set_option linter.all false
noncomputable section
namespace Go.Proofs.YtenibcfppefobaaGreatDoor
open Go.AI
def Kx:List je:=[rZ,rY,rX,rW,rV,rU,rT,rS,rR]
def Nn:cT:={ P:=Tryz.prog,ext:=lV.ext,orc:=fun f args s=>match gy 57 kinds f args s with|some x=>some x|none=>tY Kx f args s }
theorem SQ:qZ Nn:=by
 refine⟨fun f args s v s' h=>?_⟩
 simp only[Nn]at h
 split at h
 ·rename_i x hx
  cases h
  exact xA.call f args s v s' hx
 ·obtain⟨k,hm,rfl,rfl,hs,rfl,rfl⟩:=qp h
  simp only[Kx,List.mem_cons,List.mem_nil_iff,or_false]at hm
  rcases hm with rfl|rfl|rfl|rfl|rfl|rfl|rfl|rfl|rfl
  ·exact cN (E:=lE) (cO rfl rfl) xA (bz rfl rfl) SK hs
  ·exact cN (E:=lE) (cO rfl rfl) xA (bz rfl rfl) SJ hs
  ·exact cN (E:=lE) (cO rfl rfl) xA (bz rfl rfl) SI hs
  ·exact cN (E:=lE) (cO rfl rfl) xA (bz rfl rfl) SH hs
  ·exact cN (E:=lE) (cO rfl rfl) xA (bz rfl rfl) SG hs
  ·exact cN (E:=lE) (cO rfl rfl) xA (bz rfl rfl) SF hs
  ·exact cN (E:=lE) (cO rfl rfl) xA (bz rfl rfl) SE hs
  ·exact cN (E:=lE) (cO rfl rfl) xA (bz rfl rfl) SD hs
  ·exact cN (E:=lE) (cO rfl rfl) xA (bz rfl rfl) SC hs
theorem Jw:fB Nn 4000 6 [] (.bool true)=true:=by kernel_rfl
theorem DU(s:S):fE Tryz.prog 6 [] none s ⟨.returned (.bool true),none,s⟩:=bA (E:=Nn) (cO rfl rfl) SQ (bz rfl rfl) Jw rfl rfl s
end Go.Proofs.YtenibcfppefobaaGreatDoor
set_option linter.all false
noncomputable section
namespace Go.AI
def Db(m:Nat):List Nat->Nat
 |[]=>0
 |e::r=>bif m.testBit e then 1 else Db m r+1
def mt(ms:List Nat)(effs m:Nat)(H:List Nat):List (Nat×Oper)->Nat->Option (List (Option Nat×Nat)×Nat)
 |[],done=>some ([],done)
 |(i,_)::r,done =>
  bif !(m.testBit i)||done.testBit i then mt ms effs m H r done
  else bif effs.testBit i then none
  else match mt ms effs m H r (Nat.lor done (Nat.pow 2 i))with
   |some (l,d)=>some ((some (Db (ms.getD i 0) H),i)::l,d)
   |none=>none
def pf(ms:List Nat)(effs n:Nat)(all:List (Nat×Oper)):List (Nat×Oper)->List Nat->Nat->Option (List (Option Nat×Nat))
 |[],H,done=>match mt ms effs (Nat.pow 2 n - 1) H all done with
  |some (l,_)=>some l
  |none=>none
 |(i,_)::r,H,done=>match mt ms effs (ms.getD i 0) H all done with
  |some (l,d)=>bif !(d.testBit i)&&effs.testBit i then(match pf ms effs n all r (i::H) (Nat.lor d (Nat.pow 2 i))with
   |some l2=>some (l++(none,i)::l2)
   |none=>none)else none
  |none=>none
def Jt(P:Program)(ops:Array Oper):Option (List (Option Nat×Nat)):=match JM P ops with
 |some ⟨ms,l,es,mask⟩=>pf ms mask ops.size l es [ops.size] 0
 |none=>none
def kn(E:cT)(hist:List S)(t:T V)(s:S)(o:Oper):Nat->Option (V×S)
 |0=>pA s (cP E t s o)
 |1=>pV s (eV E t o hist)
 |2=>tK (cP E t s o)
 |_=>none
def iT(E:cT)(hist:List S)(t:T V)(s:S)(o:Oper):Option Bool->Option (V×S)
 |some true=>kn E hist t s o (aA E.P o.op)
 |some false=>some (V.undef,s)
 |none=>none
def CR(t:T V):Option Tmp->T V
 |some d=>t.setK none (et d) id
 |none=>t
def gx(E:cT)(ops:Array Oper)(rec:gE)(ds:List ec)(up:Option Md):List (Option Nat×Nat)->List S->T V->S->Option ji
 |[],_,t,s=>some (.on t ds up s)
 |(c,i)::r,hist,t,s=>match ops[i]? with
  |none=>none
  |some o=>match c with
   |some c=>match iT E (hist.take c) t s o (bt ops t o)with
    |some (v,s)=>gx E ops rec ds up r hist (putD t o.dst v) s
    |none=>none
   |none=>match gb E rec t s o (bt ops t o)with
    |some (.val v s')=>bif Nat.ble s.next s'.next then gx E ops rec ds up r (s'::hist) (putD t o.dst v) s' else none
    |some (.pan c s')=>(match r with|[]=>some (.panicked c (CR t o.dst) ds up s')|_::_=>none)
    |none=>none
theorem sS(m:Nat):∀(h:List (Nat×S)),mF m h=(h.map (·.2)).take (Db m (h.map (·.1)))
 |[]=>rfl
 |(e,s)::r=>by
  simp only[mF,List.map_cons,Db]
  cases m.testBit e with
  |true=>simp
  |false=>simp[sS m r]
theorem Cy{E:cT}{h:List (Nat×S)}{m:Nat}{t:T V}{s:S}{o:Oper}(b:Option Bool):iG E h m t s o b=iT E ((h.map (·.2)).take (Db m (h.map (·.1)))) t s o b:=by
 cases b with
 |none=>rfl
 |some b=>cases b with
  |false=>rfl
  |true =>
   simp only[iG,iT]
   unfold AD kn
   rw[sS]
   generalize aA E.P o.op=q
   match q with
   |0=>rfl
   |1=>rfl
   |2=>rfl
   |_+3=>rfl
theorem qa{E:cT}{ops:Array Oper}{rec:gE}{ds:List ec}{up:Option Md}{ms:List Nat}{effs m:Nat}{hist:List (Nat×S)} :
 ∀(l:List (Nat×Oper)) (done:Nat) (t:T V) (s:S),(∀ x∈l,ops[x.1]? = some x.2)->∀ sc d,mt ms effs m (hist.map (·.1)) l done=some (sc,d)->∀(rest:List (Option Nat×Nat)),
  gx E ops rec ds up (sc++rest) (hist.map (·.2)) t s=match bP E ops ms effs hist m l done t s with
   |some (_,t,s)=>gx E ops rec ds up rest (hist.map (·.2)) t s
   |none=>none
 |[],done,t,s,_,sc,d,h,rest=>by cases h;rfl
 |(i,o)::l,done,t,s,hops,sc,d,h,rest=>by
  simp only[mt]at h
  simp only[bP]
  cases hb:(!(m.testBit i)||done.testBit i)with
  |true =>
   rw[hb]at h
   simp only[cond_true]at h ⊢
   exact qa l done t s (fun x hx=>hops x (List.mem_cons_of_mem _ hx)) sc d h rest
  |false =>
   rw[hb]at h
   simp only[cond_false]at h ⊢
   cases he:effs.testBit i with
   |true=>rw[he]at h;cases h
   |false =>
    rw[he]at h
    simp only[cond_false]at h ⊢
    split at h
    ·rename_i l1 d1 hp
     cases h
     simp only[List.cons_append,gx]
     have ho:ops[i]? = some o:=hops (i,o) (by simp)
     rw[ho]
     simp only
     rw[<- Cy]
     cases iG E hist (ms.getD i 0) t s o (bt ops t o)with
     |none=>rfl
     |some x =>
      obtain⟨v,s1⟩:=x
      simp only[bX]
      exact qa l _ _ s1 (fun x hx=>hops x (List.mem_cons_of_mem _ hx)) l1 _ hp rest
    ·cases h
theorem oM{E:cT}{ops:Array Oper}{ms:List Nat}{effs m:Nat}{hist:List (Nat×S)}:∀(l:List (Nat×Oper)) (done:Nat) (t:T V) (s:S) sc d,mt ms effs m (hist.map (·.1)) l done=some (sc,d) ->
 ∀ d' t' s',bP E ops ms effs hist m l done t s=some (d',t',s')->d'=d
 |[],done,t,s,sc,d,h,d',t',s',e=>by cases h;cases e;rfl
 |(i,o)::l,done,t,s,sc,d,h,d',t',s',e=>by
  simp only[mt]at h
  simp only[bP]at e
  cases hb:(!(m.testBit i)||done.testBit i)with
  |true =>
   rw[hb]at h e
   exact oM l done t s sc d h d' t' s' e
  |false =>
   rw[hb]at h e
   simp only[cond_false]at h e
   cases he:effs.testBit i with
   |true=>rw[he]at h;cases h
   |false =>
    rw[he]at h e
    simp only[cond_false]at h e
    split at h
    ·rename_i l1 d1 hp
     cases h
     split at e
     ·rename_i v s1 hf
      rw[bX]at e
      exact oM l _ _ s1 l1 d hp d' t' s' e
     ·cases e
    ·cases h
theorem ym{ms:List Nat}{effs m:Nat}{H:List Nat}:∀(l:List (Nat×Oper)) (done d:Nat),mt ms effs m H l done=some ([],d)->∀ x∈l,(!(m.testBit x.1)||done.testBit x.1)=true
 |[],_,_,_,x,hx=>by cases hx
 |(i,o)::l,done,d,h,x,hx=>by
  simp only[mt]at h
  cases hb:(!(m.testBit i)||done.testBit i)with
  |true =>
   rw[hb]at h
   rcases List.mem_cons.1 hx with rfl|hx
   ·exact hb
   ·exact ym l done d h x hx
  |false =>
   rw[hb]at h
   simp only[cond_false]at h
   cases he:effs.testBit i with
   |true=>rw[he]at h;cases h
   |false =>
    rw[he]at h
    simp only[cond_false]at h
    split at h<;>cases h
theorem nY{E:cT}{ops:Array Oper}{ms:List Nat}{effs m:Nat}{hist:List (Nat×S)}:∀(l:List (Nat×Oper)) (done:Nat) (t:T V) (s:S),(∀ x∈l,(!(m.testBit x.1)||done.testBit x.1)=true)->bP E ops ms effs hist m l done t s=some (done,t,s)
 |[],_,_,_,_=>rfl
 |(i,o)::l,done,t,s,h=>by
  simp only[bP]
  rw[h (i,o) (by simp),cond_true]
  exact nY l done t s fun x hx=>h x (List.mem_cons_of_mem _ hx)
theorem ze{done:Nat}:∀(l:List (Nat×Oper)) (t:T V),(∀ x∈l,done.testBit x.1=true)->dj done l t=t
 |[],_,_=>rfl
 |(i,o)::l,t,h=>by
  simp only[dj]
  rw[h (i,o) (by simp),cond_true]
  exact ze l t fun x hx=>h x (List.mem_cons_of_mem _ hx)
theorem CQ{done i:Nat}{o:Oper}:∀(l:List (Nat×Oper)) (t:T V),(l.map (·.1)).Nodup->(i,o)∈l->(∀ x∈l,x.1≠i->done.testBit x.1=true)->done.testBit i=false->dj done l t=CR t o.dst
 |(k,q)::l,t,hn,hm,h,hi=>by
  simp only[dj]
  rw[List.map_cons,List.nodup_cons]at hn
  by_cases hk:k=i
  ·subst hk
   have hq:q=o:=by
    rcases List.mem_cons.1 hm with e|e
    ·cases e;rfl
    ·exact absurd (List.mem_map.2 ⟨_,e,rfl⟩) hn.1
   subst hq
   have hs:∀ t:T V,dj done l t=t:=fun t=>ze l t fun x hx=>h x (List.mem_cons_of_mem _ hx) fun e=>hn.1 (e▸List.mem_map.2 ⟨x,hx,rfl⟩)
   rw[hi,cond_false]
   cases q.dst with
   |none=>simp only[hs];rfl
   |some d=>simp only[T.setK_eq,hs,CR];rfl
  ·rw[h (k,q) (by simp) hk,cond_true]
   refine CQ l t hn.2 ?_ (fun x hx=>h x (List.mem_cons_of_mem _ hx)) hi
   rcases List.mem_cons.1 hm with e|e
   ·cases e;exact absurd rfl hk
   ·exact e
theorem yt:∀(l:List Oper) (n:Nat),∀ x∈cg l n,n<=x.1
 |[],_,x,h=>by cases h
 |o::l,n,x,h=>by
  rcases List.mem_cons.1 h with rfl|h
  ·exact Nat.le_refl _
  ·have:=yt l (n+1) x h;omega
theorem qf:∀(l:List Oper) (n:Nat),((cg l n).map (·.1)).Nodup
 |[],_=>List.nodup_nil
 |o::l,n=>by
  rw[cg,List.map_cons,List.nodup_cons]
  refine⟨fun h=>?_,qf l (n+1)⟩
  obtain⟨x,hx,e⟩:=List.mem_map.1 h
  have:=yt l (n+1) x hx
  simp only at e;omega
theorem zb{E:cT}{ops:Array Oper}{rec:gE}{ds:List ec}{up:Option Md}{ms:List Nat}{effs:Nat}{all:List (Nat×Oper)}(hall:∀ x∈all,ops[x.1]? = some x.2)(hnd:(all.map (·.1)).Nodup) :
 ∀(es:List (Nat×Oper)),(∀ x∈es,x∈all)->∀(hist:List (Nat×S)) (done:Nat) (t:T V) (s:S) sc,pf ms effs ops.size all es (hist.map (·.1)) done=some sc ->
  ∀ rr,gx E ops rec ds up sc (hist.map (·.2)) t s=some rr->fR E ops ms effs all rec ds up es hist done t s=some rr
 |[],_,hist,done,t,s,sc,h,rr,e=>by
  simp only[pf]at h
  simp only[fR]
  split at h
  ·rename_i l d hp
   cases h
   have:=qa (E:=E) (rec:=rec) (ds:=ds) (up:=up) all done t s hall _ _ hp []
   rw[List.append_nil]at this
   rw[this]at e
   rw[<- e]
   cases bP E ops ms effs hist (Nat.pow 2 ops.size - 1) all done t s with
   |none=>rfl
   |some x=>rfl
  ·cases h
 |(i,o)::r,hes,hist,done,t,s,sc,h,rr,e=>by
  simp only[pf]at h
  simp only[fR]
  split at h
  ·rename_i l d hp
   cases hb:(!(d.testBit i)&&effs.testBit i)with
   |false=>rw[hb]at h;cases h
   |true =>
    rw[hb]at h
    simp only[cond_true]at h
    split at h
    ·rename_i l2 h2
     cases h
     rw[qa (E:=E) (rec:=rec) (ds:=ds) (up:=up) all done t s hall _ _ hp]at e
     cases hph:bP E ops ms effs hist (ms.getD i 0) all done t s with
     |none=>rw[hph]at e;cases e
     |some x =>
      obtain⟨d1,t1,s1⟩:=x
      have hd:=oM all done t s _ _ hp _ _ _ hph
      subst hd
      rw[hph]at e
      simp only[gx]at e
      have ho:ops[i]? = some o:=hall _ (hes (i,o) (by simp))
      rw[ho]at e
      simp only at e ⊢
      cases hst:gb E rec t1 s1 o (bt ops t1 o)with
      |none=>rw[hst]at e;cases e
      |some y=>cases y with
       |val v s2 =>
        rw[hst]at e
        simp only[bX,Bool.and_assoc,hb,Bool.and_true]at e ⊢
        cases hn:Nat.ble s1.next s2.next with
        |false=>rw[hn]at e;cases e
        |true =>
         rw[hn]at e
         simp only[cond_true]at e ⊢
         exact zb hall hnd r (fun x hx=>hes x (List.mem_cons_of_mem _ hx)) ((i,s2)::hist) _ _ s2 l2 h2 rr e
       |pan c s2 =>
        rw[hst]at e
        simp only at e ⊢
        simp only[Bool.and_eq_true,Bool.not_eq_true']at hb
        cases l2 with
        |cons x l2=>cases e
        |nil =>
         have hd2:∃ d2,mt ms effs (Nat.pow 2 ops.size - 1) (i::hist.map (·.1)) all (Nat.lor d1 (Nat.pow 2 i))=some ([],d2):=by
          cases r with
          |nil =>
           simp only[pf]at h2
           split at h2
           ·rename_i l3 d3 hq;cases h2;exact⟨d3,hq⟩
           ·cases h2
          |cons x r =>
           obtain⟨xi,xo⟩:=x
           simp only[pf]at h2
           split at h2
           ·rename_i l3 d3 hq
            cases hz:(!(d3.testBit xi)&&effs.testBit xi)with
            |false=>rw[hz]at h2;cases h2
            |true =>
             rw[hz,cond_true]at h2
             split at h2
             ·simp at h2
             ·cases h2
           ·cases h2
         obtain⟨d2,hq⟩:=hd2
         have hdn:∀ x∈all,x.1≠i->d1.testBit x.1=true:=fun x hx hxi=>by
          have h1:=ym all _ _ hq x hx
          have hlt:x.1<ops.size:=by
           have:=hall x hx
           rcases Nat.lt_or_ge x.1 ops.size with h|h
           ·exact h
           ·rw[Array.getElem?_eq_none h]at this;cases this
          have hm:(Nat.pow 2 ops.size - 1).testBit x.1=true:=by
           show(2 ^ ops.size - 1).testBit x.1=true
           rw[Nat.testBit_two_pow_sub_one];simpa using hlt
          rw[hm,fP]at h1
          simpa[Ne.symm hxi]using h1
         have hsk:bP E ops ms effs hist (dg ms i all) all d1 t1 s1=some (d1,t1,s1):=nY all d1 t1 s1 fun x hx=>by
          by_cases hxi:x.1=i
          ·have:(dg ms i all).testBit x.1=false:=by
            rw[<- Bool.not_eq_true]
            intro hz
            exact(lA.1 hz).2.2 hxi
           rw[this];rfl
          ·rw[hdn x hx hxi,Bool.or_true]
         rw[hb.1,cond_false,hsk,Gg,CQ all t1 hnd (hes (i,o) (by simp)) hdn hb.1]
         exact e
    ·cases h
  ·cases h
theorem zO{E:cT}{ops:Array Oper}{sc:List (Option Nat×Nat)}(h:Jt E.P ops=some sc)(rec:gE)(recR:xO)(t:T V)(ds:List ec)(up:Option Md)(s:S) :
 ∀ rr,gx E ops rec ds up sc [s] t s=some rr->gK E ops rec recR t ds up s=some rr:=by
 intro rr e
 unfold Jt at h
 unfold gK
 split at h
 ·rename_i ms l es mask hp
  rw[hp]
  simp only
  have hl:l=cg ops.toList 0/\es=qD E.P (cg ops.toList 0):=by
   simp only[JM]at hp
   grind
  obtain⟨rfl,rfl⟩:=hl
  have hall:∀ x∈cg ops.toList 0,ops[x.1]? = some x.2:=fun x hx=>dD.1 (by obtain⟨a,b⟩:=x;exact hx)
  exact zb hall (qf _ _) _ (fun x hx=>(List.mem_filter.1 hx).1) [(ops.size,s)] 0 t s sc h rr e
 ·cases h
end Go.AI
set_option linter.all false
noncomputable section
namespace Go.AI
noncomputable section
inductive D where
 |bool (b:Bool)
 |int (k:IntKind) (n:Int)
 |str (s:List Nat)
 |ptr (o c:Nat)
 |eptr (cs:List D) (c:Nat)
 |bptr (o n i c:Nat)
 |tptr (o s i c:Nat)
 |nilptr
 |row (sz:Nat) (l:List (List D))
 |buf (sz o n:Nat)
 |tb (sz o s k:Nat)
 |nilrow
 |nilx
 |map (o:Nat)
 |nilmap
 |func (fn:FuncId) (first captured:List D)
 |nilFunc
 |iface (t:TypeId) (d:D)
 |nilIface
 |agg (cs:List D)
 |tuple (ds:List D)
 |yld (o:Nat)          -- the rounds of a loop over a function
 |abool                  -- true or false
 deriving Inhabited
inductive LD where
 |g (d:D)
 |lp (k c:Nat)
 |u
 deriving Inhabited
inductive DB where
 |dead
 |cells (st:Nat) (cs:List D)
 |buf (sz:Nat) (st cap:Bool) (l:List (List D))
 |tbuf (sz s:Nat) (l:List (List D))
 |map (es:List (D×D))
 |coll                   -- what waits for the end of a loop over a function
 |loop (rdy:Bool) (f:FuncId) (nt:Nat) (t:T LD) (ps:Array Tmp) (a b:Code)
 |opq
 deriving Inhabited
structure ff where
 v:D
 recovered:Bool
inductive eB where
 |run
 |returning
 |panicking (c:List ff)
 |round (o:Nat)
structure Sm where
 fn:FuncId
 captured:List D
 args:List D
inductive pp where
 |call (d:Sm)
 |coll (o:Nat)
inductive LF where
 |ret (d:D)
 |pan (c:List ff)
abbrev DH:=List DB
abbrev LS:=List (Nat×List D)
structure hJ where
 e:LF
 up:Option eB
 H:DH
abbrev ag:=Option hJ
inductive xd where
 |val (d:LD) (L:LS) (H:DH)
 |skip (L:LS) (H:DH)
 |enter (f:FuncId) (args:List D) (L:LS) (H:DH)
 |defer (d:Sm) (L:LS) (H:DH)
 |recover (L:LS) (H:DH)
 |panic (d:D) (L:LS) (H:DH)
 |round (o:Nat) (args:List D) (L:LS) (H:DH)
inductive Hk where
 |fz (sz:Nat)
 |acc (sz:Nat)
structure gF where
 cuts:List (Nat×List Nat×List Nat)
 esc:List Nat
 hooks:List (Nat×List (Nat×Hk))
 rfz:List (Nat×Nat×Hk)
 trim:Bool
def gF.no:gF:=⟨[],[],[],[],false⟩
structure cu where
 E:cT
 an:T gF
 orc:FuncId->List D->DH->Option (D×DH)
 vo:FuncId->Bool      -- known beforehand to the evaluator below
def cu.ann(E:cu)(f:FuncId):gF:=match E.an.get (et f)with
 |some a=>a
 |none=>gF.no
def Nt:V->Option D
 |.bool b=>some (.bool b)
 |.int k n=>some (.int k n)
 |.str l=>bif l.all (fun c=>Nat.blt c 256)then some (.str l)else none
 |.nilptr=>some .nilptr
 |.nilslice=>some .nilrow
 |.nilmap=>some .nilmap
 |.func fn a b=>match fn with
  |.func f=>bif a.isEmpty&&b.isEmpty then some (.func f [] [])else none
  |_=>none
 |.nilFunc=>some .nilFunc
 |.nilIface=>some .nilIface
 |_=>none
def wx:List V->Option (List D)
 |[]=>some []
 |v::r=>match Nt v with
  |some d=>match wx r with
   |some l=>some (d::l)
   |none=>none
  |none=>none
def QN:V->Option D
 |.agg cs=>match wx cs with
  |some l=>some (.agg l)
  |none=>none
 |v=>Nt v
def D.cells:D->List D
 |.agg cs=>cs
 |d=>[d]
def nV(P:Program)(t:TypeId):Option D:=match zero P t with
 |some z=>QN z
 |none=>none
def Sd:List V->List D->List D
 |v::r,d::l=>(match v with|.nilslice=>.nilx|_=>d)::Sd r l
 |_,l=>l
def IQ(P:Program)(t:TypeId):Option D:=match zero P t with
 |some (.agg cs)=>match wx cs with
  |some l=>some (.agg (Sd cs l))
  |none=>none
 |_=>none
def gm(t:T LD):Operand->Option LD
 |.tmp i=>t.get (et i)
 |.const v=>match V.ofConst v with
  |some v=>match QN v with
   |some d=>some (.g d)
   |none=>none
  |none=>none
 |.global _=>none
 |.func f=>some (.g (.func f [] []))
def kl:Unit:=(fun _=>()) @gx
def T.setQ{α β:Type}(x:Option α)(p:xg)(t:T α)(k:T α->β):β:=(fun _ =>
 xg.rec (motive:=fun _=>T α->(T α->β)->β)
  (fun t k=>T.rec (motive:=fun _=>β) (k (.node .leaf x .leaf)) (fun l _ r _ _=>k (.node l x r)) t)
  (fun _ ih t k=>T.rec (motive:=fun _=>β) (ih .leaf fun t=>k (.node t none .leaf)) (fun l v r _ _=>ih l fun t=>k (.node t v r)) t)
  (fun _ ih t k=>T.rec (motive:=fun _=>β) (ih .leaf fun t=>k (.node .leaf none t)) (fun l v r _ _=>ih r fun t=>k (.node l v t)) t) p t k) kl
theorem T.setQ_eq{α β:Type}(x:Option α)(p:xg)(t:T α)(k:T α->β):T.setQ x p t k=k (T.set x p t):=T.setK_eq x p t k
def gD(x:Option LD)(κ:D->ag):ag:=(fun _=>match x with
 |some (.g d)=>κ d
 |_=>none) kl
def lD(x:Option LD)(κ:LD->ag):ag:=(fun _=>match x with
 |some d=>κ d
 |none=>none) kl
def CO(t:T LD):List Operand->(List D->ag)->ag
 |[],κ=>κ []
 |x::r,κ=>gD (gm t x) fun d=>CO t r fun l=>κ (d::l)
def GU(a b:ag):ag:=open Classical in if a=b then a else none
def brD(d:D)(a b:ag):ag:=match d with
 |.bool q=>cond q a b
 |.abool=>GU a b
 |_=>none
def TW(d:D)(a b:ag):ag:=match d with
 |.bool q=>cond q a b
 |_=>none
def aC(cs:List D)(c:Nat)(κ:D->ag):ag:=match cs[c]? with
 |some d=>κ d
 |none=>none
def ya:Nat->List D->Nat->(List D->ag)->ag
 |0,_,_,κ=>κ []
 |n+1,cs,c,κ=>aC cs c fun d=>ya n cs (c+1) fun l=>κ (d::l)
def ah(n:Nat)(d:D)(κ:List D->ag):ag:=match d with
 |.agg cs=>bif Nat.beq cs.length n then κ cs else none
 |.tuple _=>none
 |d=>bif Nat.beq n 1 then κ [d] else none
def aF(H:DH)(o:Nat)(κ:Nat->List D->ag):ag:=match H[o]? with
 |some (.cells st cs)=>κ st cs
 |_=>none
def gB(H:DH)(o n:Nat)(κ:Nat->Bool->Bool->List (List D)->ag):ag:=match H[o]? with
 |some (.buf sz st cap l)=>bif Nat.beq n l.length then κ sz st cap l else none
 |_=>none
def IH(H:DH)(o s:Nat)(κ:Nat->List (List D)->ag):ag:=match H[o]? with
 |some (.tbuf sz s' l)=>bif Nat.beq s s' then κ sz l else none
 |_=>none
def lm(H:DH)(o:Nat)(κ:List (D×D)->ag):ag:=match H[o]? with
 |some (.map es)=>κ es
 |_=>none
def dE(n:Int)(κ:Nat->ag):ag:=match n with
 |.ofNat n=>κ n
 |_=>none
def eO(l:List (List D))(i:Nat)(κ:List D->ag):ag:=match l[i]? with
 |some cs=>κ cs
 |none=>none
def boK(b:Bool)(κ:ag):ag:=bif b then κ else none
def tu:List D->Nat->List D->Option (List D)
 |cs,_,[]=>some cs
 |x::r,n+1,new=>match tu r n new with
  |some l=>some (x::l)
  |none=>none
 |_::r,0,y::new=>match tu r 0 new with
  |some l=>some (y::l)
  |none=>none
 |[],_,_::_=>none
def az(cs:List D)(c:Nat)(new:List D)(κ:List D->ag):ag:=match tu cs c new with
 |some l=>κ l
 |none=>none
def dq(P:Program)(ty:TypeId)(cs:List D)(c:Nat)(κ:D->ag):ag:=match oY P ty with
 |some true=>match size P ty with
  |some n=>bif Nat.blt 0 n then ya n cs c fun l=>κ (.agg l)else none
  |none=>none
 |some false=>aC cs c κ
 |none=>none
def ft(P:Program)(ty:TypeId)(d:D)(H:DH)(κ:D->ag):ag:=match d with
 |.eptr cs c=>dq P ty cs c κ
 |.ptr o c=>aF H o fun _ cs=>dq P ty cs c κ
 |.bptr o n i c=>gB H o n fun _ _ _ l=>eO l i fun cs=>dq P ty cs c κ
 |.tptr o s i c=>IH H o s fun _ l=>eO l i fun cs=>dq P ty cs c κ
 |_=>none
def jx(P:Program)(ty:TypeId)(x:LD)(L:LS)(H:DH)(κ:D->ag):ag:=(fun _=>match x with
 |.lp k c=>match L[k]? with
  |some (_,cs)=>dq P ty cs c κ
  |none=>none
 |.g d=>ft P ty d H κ
 |.u=>none) kl
def Me(d:D)(new:List D)(H:DH)(κ:DH->ag):ag:=match d with
 |.ptr o c=>aF H o fun st cs=>az cs c new fun cs=>κ (H.set o (.cells (st+1) cs))
 |.bptr o n i c=>gB H o n fun sz st cap l=>boK st (eO l i fun cs=>az cs c new fun cs=>κ (H.set o (.buf sz st cap (l.set i cs))))
 |_=>none
def uB(P:Program)(ty:TypeId)(x:LD)(v:D)(L:LS)(H:DH)(κ:LS->DH->ag):ag:=(fun _=>match size P ty with
 |some n=>(match Nat.blt 0 n with|false=>(none)|true=>(ah n v fun new=>match x with
  |.lp k c=>match L[k]? with
   |some (st,cs)=>az cs c new fun cs=>κ (L.set k (st+1,cs)) H
   |none=>none
  |.g d=>Me d new H fun H=>κ L H
  |.u=>none))
 |none=>none) kl
def yU(place:Nat->Option (Nat×Nat))(t:T LD):List (Nat×Operand)->List D->(List D->ag)->ag
 |[],cs,κ=>κ cs
 |(i,x)::r,cs,κ=>gD (gm t x) fun d=>match place i with
  |none=>none
  |some (off,n)=>bif Nat.blt 0 n then ah n d fun new=>az cs off new fun cs=>yU place t r cs κ else none
def pm(P:Program)(t:T LD)(ty:TypeId)(parts:List (Nat×Operand))(z:Option D)(κ:D->ag):ag:=match z with
 |some z=>match P.underlying ty with
  |some (.struct fs)=>bif fs.toList.all (fun f=>(size P f.type).isSome)then yU (mJ P fs) t parts z.cells fun cs=>κ (.agg cs)else none
  |some (.array _ el)=>match size P el with
   |some n=>yU (fun i=>some (i*n,n)) t parts z.cells fun cs=>κ (.agg cs)
   |none=>none
  |_=>none
 |none=>none
def Fk(P:Program)(t:T LD)(ty:TypeId)(parts:List (Nat×Operand))(κ:D->ag):ag:=pm P t ty parts (nV P ty) κ
def mh(t:T LD)(n len:Nat):List (Nat×Operand)->List (List D)->(List (List D)->ag)->ag
 |[],l,κ=>κ l
 |(i,x)::r,l,κ=>gD (gm t x) fun d=>bif Nat.blt i len then ah n d fun new=>mh t n len r (l.set i new) κ else none
def Jx(n:Nat)(l:List (List D)):D:=match l with
 |[]=>.nilrow
 |x::r=>.row n (x::r)
def gV(P:Program)(t:T LD)(ty:TypeId)(len:Nat)(parts:List (Nat×Operand))(κ:D->ag):ag:=match P.underlying ty with
 |some (.slice el)=>match nV P el with
  |some z=>match size P el with
   |some n=>(match Nat.ble (len*n) 10000&&!(Nat.beq n 0)&&Nat.beq z.cells.length n with|true=>(mh t n len parts (List.replicate len z.cells) fun l=>κ (Jx n l))|false=>(none))
   |none=>none
  |none=>none
 |_=>none
def eu(d:D)(κ:D->ag):ag:=match d with
 |.ptr o c=>κ (.ptr o c)
 |.eptr cs c=>κ (.eptr cs c)
 |.bptr o n i c=>κ (.bptr o n i c)
 |.tptr o s i c=>κ (.tptr o s i c)
 |.func f a b=>κ (.func f a b)
 |.yld o=>κ (.yld o)
 |_=>none
def Nw(x:LD)(κ:LD->ag):ag:=(fun _=>match x with
 |.lp k c=>κ (.lp k c)
 |.g d=>eu d fun d=>κ (.g d)
 |.u=>none) kl
def PB(op:BinOp)(k:IntKind)(a b:Int)(κ:D->ag):ag:=match op with
 |.add=>κ (.int k (k.wrap (a+b)))
 |.sub=>κ (.int k (k.wrap (a - b)))
 |.mul=>κ (.int k (k.wrap (a*b)))
 |.eql=>κ (.bool (a==b))
 |.neq=>κ (.bool (a != b))
 |.lss=>κ (.bool (decide (a<b)))
 |.leq=>κ (.bool (decide (a<=b)))
 |.gtr=>κ (.bool (decide (a>b)))
 |.geq=>κ (.bool (decide (a>=b)))
 |.quo=>boK (!(b==0)) (κ (.int k (k.wrap (a.tdiv b))))
 |.rem=>boK (!(b==0)) (κ (.int k (a.tmod b)))
 |_=>none
def OI(op:BinOp)(a b:List Nat)(κ:D->ag):ag:=match op with
 |.add=>boK (Nat.ble (a.length+b.length) 1000000) (κ (.str (a++b)))
 |.eql=>κ (.bool (a==b))
 |.neq=>κ (.bool (!(a==b)))
 |.lss=>κ (.bool (Op.bytesLess (mV a) (mV b)))
 |_=>none
def JO(P:Program)(t:TypeId)(cs:List D)(off:Nat)(κ:D->ag):ag:=dq P t cs off κ
def KS(P:Program)(eq:TypeId->D->D->(Bool->ag)->ag):List Field->List D->List D->Bool->(Bool->ag)->ag
 |[],_,_,q,κ=>κ q
 |f::r,xs,ys,q,κ=>bif f.name == "_" then none else JO P f.type xs f.offset fun a=>JO P f.type ys f.offset fun b=>eq f.type a b fun p=>KS P eq r xs ys (q&&p) κ
def HY(P:Program):Nat->TypeId->D->D->(Bool->ag)->ag
 |0,_,_,_,_=>none
 |d+1,t,x,y,κ=>match P.underlying t with
  |some (.struct fs)=>match x,y with
   |.agg xs,.agg ys=>bif P.stoodInHeld t then none else KS P (HY P d) fs.toList xs ys true κ
   |_,_=>none
  |some (.interface _)=>match x,y with
   |.nilIface,.nilIface=>κ true
   |.nilIface,.iface _ _=>κ false
   |.iface _ _,.nilIface=>κ false
   |_,_=>none
  |some .bool=>match x,y with
   |.bool a,.bool b=>κ (a==b)
   |_,_=>none
  |some (.int _)=>match x,y with
   |.int j a,.int k b=>bif cW j k then κ (a==b)else none
   |_,_=>none
  |some .string=>match x,y with
   |.str a,.str b=>κ (a==b)
   |_,_=>none
  |some (.pointer _)=>match x,y with
   |.nilptr,.nilptr=>κ true
   |.nilptr,.ptr _ _=>κ false
   |.nilptr,.eptr _ _=>κ false
   |.nilptr,.bptr _ _ _ _=>κ false
   |.ptr _ _,.nilptr=>κ false
   |.eptr _ _,.nilptr=>κ false
   |.bptr _ _ _ _,.nilptr=>κ false
   |_,_=>none
  |some (.func _ _ _)=>match x,y with
   |.nilFunc,.nilFunc=>κ true
   |.nilFunc,.func ..=>κ false
   |.func ..,.nilFunc=>κ false
   |_,_=>none
  |_=>none
def KI(P:Program)(op:BinOp)(t:TypeId)(c:Bool)(a b:D):Bool :=
 bif lw op then match a,b with
  |.nilIface,.nilIface=>c
  |.agg _,.agg _=>!(P.eqGuardType P.depth t)
  |_,_=>true
 else true
def aB(P:Program)(op:BinOp)(t:TypeId)(c:Bool)(x y:D)(κ:D->ag):ag:=match x,y with
 |.int j a,.int k b=>bif nE op then none else bif cW j k then PB op j a b κ else none
 |.str a,.str b=>OI op a b κ
 |x,y=>bif KI P op t c x y then(match op with
  |.eql=>HY P 20 t x y fun q=>κ (.bool q)
  |.neq=>HY P 20 t x y fun q=>κ (.bool !q)
  |_=>none)else none
def Ge(H:DH)(o:Nat):Bool:=match H[o]? with
 |some (.cells _ _)=>true
 |_=>false
def xy(P:Program)(d:TypeDesc):Bool:=match d with
 |.pointer e=>(match size P e with
  |some n=>!(Nat.beq n 0)
  |none=>false)
 |_=>false
def OT(P:Program)(t:TypeId):Bool:=match P.underlying t with
 |some d=>xy P d
 |none=>false
def Ee(P:Program)(t:TypeId)(c:Bool)(op:BinOp)(x y:D)(H:DH)(q:Bool->Bool)(κ:D->ag):ag:=match OT P t with
 |true=>(match y with
  |.ptr o2 c2=>(match x with
   |.ptr o1 c1=>bif Ge H o1&&Ge H o2 then κ (.bool (q (Nat.beq o1 o2&&Nat.beq c1 c2)))else none
   |x=>aB P op t c x (.ptr o2 c2) κ)
  |y=>aB P op t c x y κ)
 |false=>aB P op t c x y κ
def wM(P:Program)(op:BinOp)(t:TypeId)(c:Bool)(x y:D)(H:DH)(κ:D->ag):ag:=match op with
 |.eql=>Ee P t c .eql x y H (fun b=>b) κ
 |.neq=>Ee P t c .neq x y H (fun b=>!b) κ
 |op=>aB P op t c x y κ
def oX:Operand->Bool
 |.const c=>match V.ofConst c with
  |some .nilslice=>true
  |_=>false
 |_=>false
def Pd:BinOp->Bool
 |.eql=>false
 |_=>true
def Pc(op:BinOp)(l:List (List D))(κ:D->ag):ag:=match l with
 |[]=>κ .abool
 |_::_=>κ (.bool (Pd op))
def HD(op:BinOp)(x:D)(κ:D->ag):ag:=bif lw op then(match x with
 |.nilrow=>κ .abool
 |.row _ l=>Pc op l κ
 |.buf _ _ n=>(match n with|0=>κ .abool|_+1=>κ (.bool (Pd op)))
 |_=>none)else none
def rl(op:UnOp)(x:D)(κ:D->ag):ag:=match op with
 |.not=>match x with
  |.bool b=>κ (.bool !b)
  |_=>none
 |.neg=>match x with
  |.int k n=>κ (.int k (k.wrap (0 - n)))
  |_=>none
 |_=>none
def oD(P:Program)(src dst:TypeId)(x:D)(κ:D->ag):ag:=bif (P.underlying src).isNone then none else match P.underlying dst with
 |some (.int k)=>match x with
  |.int _ n=>κ (.int k (k.wrap n))
  |_=>none
 |some .string=>match x with
  |.str l=>κ (.str l)
  |_=>none
 |_=>none
def Kg(P:Program)(el:TypeId)(n:Nat)(κ:List (List D)->Nat->ag):ag:=match nV P el with
 |some z=>match size P el with
  |some sz=>bif !(Nat.beq sz 0)&&Nat.beq z.cells.length sz then boK (Nat.ble n 2199023255552&&kO P el n) (κ (List.replicate n z.cells) sz)else none
  |none=>none
 |none=>none
def sv(o:Option D)(d:Nat)(κ:Nat->ag):ag:=match o with
 |some (.int _ n)=>dE n κ
 |some _=>none
 |none=>κ d
def HX(t:T LD):Option Operand->(Option D->ag)->ag
 |none,κ=>κ none
 |some x,κ=>gD (gm t x) fun d=>κ (some d)
def BI(sz:Nat)(l:List (List D))(lo hi:Option D)(κ:D->ag):ag :=
 sv hi l.length fun h=>sv lo 0 fun b=>boK (Nat.ble h l.length&&Nat.beq b 0) (κ (.row sz (l.take h)))
def cA(P:Program)(t:TypeId)(x:D)(lo hi mx:Option D)(H:DH)(κ:D->DH->ag):ag:=match P.underlying t with
 |some .string=>match x with
  |.str l=>match mx with
   |none=>sv hi l.length fun h=>sv lo 0 fun b=>boK (Nat.ble h l.length&&Nat.ble b h) (κ (.str ((l.drop b).take (h - b))) H)
   |some _=>none
  |_=>none
 |some (.slice e)=>match size P e with
  |some sz=>match mx with
   |none=>match x with
    |.row s l=>bif Nat.beq s sz then BI sz l lo hi fun d=>κ d H else none
    |.buf s' o n=>gB H o n fun s _ cap l=>boK (Nat.beq s' sz) (BI sz l lo hi fun d=>κ d (H.set o (.buf s false cap l)))
    |.nilrow=>sv hi 0 fun h=>sv lo 0 fun b=>boK (Nat.beq h 0&&Nat.beq b 0) (κ .nilrow H)
    |_=>none
   |some m=>sv (some m) 0 fun m=>sv hi 0 fun h=>sv lo 0 fun b=>bif hi.isSome&&(Nat.beq m 0&&Nat.beq h 0&&Nat.beq b 0)then(match x with
    |.row s _=>bif Nat.beq s sz then κ .nilrow H else none
    |.buf s' o n=>gB H o n fun _ _ _ _=>boK (Nat.beq s' sz) (κ .nilrow H)
    |.nilrow=>κ .nilrow H
    |_=>none)else none
  |none=>none
 |_=>none
def OE(P:Program)(t:TypeId)(x:D)(lo hi mx:Option D)(H:DH)(κ:D->DH->ag):ag:=match P.underlying t with
 |some (.slice e)=>match size P e with
  |some sz=>match lo with
   |none=>match mx with
    |none=>match hi with
     |some (.int _ h)=>dE h fun h=>match x with
      |.buf s o n=>bif Nat.beq s sz then gB H o n fun z st cap l=>boK (Nat.beq z sz&&(st&&(!cap&&(Nat.ble h n&&Nat.blt 0 n)))) (κ (.tb sz o (n+1) h) (H.set o (.tbuf sz (n+1) (l.take h))))else none
      |.tb s o st k=>bif Nat.beq s sz then IH H o st fun z l=>boK (Nat.beq z sz&&Nat.ble h k) (κ (.tb sz o (st+1) h) (H.set o (.tbuf sz (st+1) (l.take h))))else none
      |_=>none
     |_=>none
    |_=>none
   |_=>none
  |none=>none
 |_=>none
def dt(d:D)(off:Nat)(κ:D->ag):ag:=match d with
 |.ptr o c=>κ (.ptr o (c+off))
 |.eptr cs c=>κ (.eptr cs (c+off))
 |.bptr o n i c=>κ (.bptr o n i (c+off))
 |.tptr o s i c=>κ (.tptr o s i (c+off))
 |_=>none
def Nf(x:LD)(off:Nat)(κ:LD->ag):ag:=(fun _=>match x with
 |.lp k c=>κ (.lp k (c+off))
 |.g d=>dt d off fun d=>κ (.g d)
 |.u=>none) kl
def wa(P:Program)(ty:TypeId)(x:LD)(f:Nat)(κ:LD->ag):ag:=(fun _=>match P.underlying ty with
 |some (.struct fs)=>match fs[f]? with
  |some fd=>(match jz fd P with|true=>(none)|false=>(Nf x fd.offset κ))
  |none=>none
 |_=>none) kl
def vZ(P:Program)(ty:TypeId)(x:D)(f:Nat)(κ:D->ag):ag:=match P.underlying ty with
 |some (.struct fs)=>match fs[f]? with
  |some fd=>match x with
   |.agg cs=>JO P fd.type cs fd.offset κ
   |_=>none
  |none=>none
 |_=>none
def HL(x:D)(sz:Nat)(i:Int)(κ:D->ag):ag:=match x with
 |.row s l=>bif Nat.beq s sz then dE i fun i=>eO l i fun cs=>κ (.eptr cs 0)else none
 |.buf s o n=>bif Nat.beq s sz then dE i fun i=>boK (Nat.blt i n) (κ (.bptr o n i 0))else none
 |.tb s o st k=>bif Nat.beq s sz then dE i fun i=>boK (Nat.blt i k) (κ (.tptr o st i 0))else none
 |_=>none
def dF(P:Program)(ty:TypeId)(x i:D)(κ:D->ag):ag:=match P.underlying ty with
 |some (.slice el)=>match size P el with
  |some sz=>match i with
   |.int _ i=>HL x sz i κ
   |_=>none
  |none=>none
 |_=>none
def ew(l:List Nat)(i:Nat)(κ:D->ag):ag:=match l[i]? with
 |some c=>κ (.int .u8 (.ofNat (Nat.mod c 256)))
 |none=>none
def iR(P:Program)(ty:TypeId)(x i:D)(κ:D->ag):ag:=match P.underlying ty with
 |some .string=>match x with
  |.str l=>match i with
   |.int _ i=>dE i fun i=>ew l i κ
   |_=>none
  |_=>none
 |some (.array len el)=>match x with
  |.agg cs=>match size P el with
   |some sz=>match i with
    |.int _ i=>dE i fun i=>bif Nat.blt i len then dq P el cs (Nat.mul i sz) κ else none
    |_=>none
   |none=>none
  |_=>none
 |_=>none
def ki:D->D->Option Bool
 |.int j a,.int k b=>bif cW j k then some (a==b)else none
 |.str a,.str b=>some (a==b)
 |.bool a,.bool b=>some (a==b)
 |.ptr o c,.ptr o' c'=>some (Nat.beq o o'&&Nat.beq c c')
 |_,_=>none
def iP(H:DH):List (D×D)->Bool
 |[]=>true
 |(.ptr o _,_)::r=>Ge H o&&iP H r
 |_::r=>iP H r
def tz(k:D):List (D×D)->Option (Option D)
 |[]=>some none
 |(x,v)::r=>match ki k x with
  |some true=>some (some v)
  |some false=>tz k r
  |none=>none
def vh(k v:D):List (D×D)->Option (List (D×D))
 |[]=>some [(k,v)]
 |(x,w)::r=>match ki k x with
  |some true=>some ((k,v)::r)
  |some false=>match vh k v r with
   |some r=>some ((x,w)::r)
   |none=>none
  |none=>none
def jv(k:D)(es:List (D×D))(κ:Option D->ag):ag:=match tz k es with
 |some o=>κ o
 |none=>none
def ju(k v:D)(es:List (D×D))(κ:List (D×D)->ag):ag:=match vh k v es with
 |some es=>κ es
 |none=>none
def eH(P:Program)(el:TypeId)(ok:Bool)(o:Option D)(κ:D->ag):ag:=match o with
 |some d=>κ (bif ok then .tuple [d,.bool true] else d)
 |none=>match nV P el with
  |some z=>κ (bif ok then .tuple [z,.bool false] else z)
  |none=>none
def qt(d:TypeDesc):Bool:=match d with
 |.int _=>true
 |.string=>true
 |.bool=>true
 |_=>false
def tW(P:Program)(ty:TypeId):Option (TypeDesc×TypeId):=match P.underlying ty with
 |some (.map kt el)=>match P.underlying kt with
  |some d=>bif qt d||xy P d then some (d,el)else none
  |none=>none
 |_=>none
def oV(td:TypeDesc)(d:D):Bool:=match td with
 |.int _=>match d with
  |.int _ _=>true
  |_=>false
 |.string=>match d with
  |.str _=>true
  |_=>false
 |.bool=>match d with
  |.bool _=>true
  |_=>false
 |.pointer _=>match d with
  |.ptr _ _=>true
  |_=>false
 |_=>false
def fp(P:Program)(ty:TypeId)(m k:D)(ok:Bool)(H:DH)(κ:D->ag):ag:=match tW P ty with
 |some (td,el)=>match m with
  |.map o=>bif oV td k then lm H o fun es=>(match k with
   |.ptr o2 c2=>bif Ge H o2&&iP H es then jv (.ptr o2 c2) es fun r=>eH P el ok r κ else none
   |k=>jv k es fun r=>eH P el ok r κ)else none
  |.nilmap=>eH P el ok none κ
  |_=>none
 |none=>none
def gL(P:Program)(ty:TypeId)(m k v:D)(H:DH)(κ:DH->ag):ag:=match tW P ty with
 |some (td,_)=>match m with
  |.map o=>bif oV td k then lm H o fun es=>(match k with
   |.ptr o2 c2=>bif Ge H o2&&iP H es then ju (.ptr o2 c2) v es fun es=>κ (H.set o (.map es))else none
   |k=>ju k v es fun es=>κ (H.set o (.map es)))else none
  |_=>none
 |none=>none
def lN(P:Program)(x:D)(ty:TypeId)(ok:Bool)(κ:D->ag):ag:=match P.underlying ty with
 |some (.interface _)=>none
 |some _=>match x with
  |.iface t d=>bif Nat.beq t ty then κ (bif ok then .tuple [d,.bool true] else d)else bif ok then(match nV P ty with
   |some z=>κ (.tuple [z,.bool false])
   |none=>none)else none
  |.nilIface=>bif ok then(match nV P ty with
   |some z=>κ (.tuple [z,.bool false])
   |none=>none)else none
  |_=>none
 |none=>none
def di(x:D)(i:Nat)(κ:D->ag):ag:=match x with
 |.tuple ds=>aC ds i κ
 |_=>none
def KU(y:D)(H:DH)(sz:Nat)(κ:List (List D)->ag):ag:=(fun _=>match y with
 |.row s l=>(match Nat.beq s sz with|true=>(κ l)|false=>(none))
 |.nilrow=>κ []
 |.nilx=>κ []
 |.buf s o n=>(match Nat.beq s sz with|true=>(gB H o n fun _ _ _ l=>κ l)|false=>(none))
 |_=>none) kl
def grow(o:Nat)(sz:Nat)(st cap:Bool)(l els:List (List D))(H:DH)(κ:D->DH->ag):ag :=
 bif cap then κ (.buf sz H.length (l.length+els.length)) (H++[.buf sz true false (l++els)])
 else κ (.buf sz o (l.length+els.length)) (H.set o (.buf sz st false (l++els)))
def fN(ok:Nat->Bool)(sz:Nat)(x:D)(els:List (List D))(H:DH)(κ:D->DH->ag):ag:=boK (ok els.length) (match x with
 |.nilrow=>match els with
  |[]=>κ .nilrow H
  |e::r=>κ (.buf sz H.length (r.length+1)) (H++[.buf sz true false (e::r)])
 |.nilx=>match els with
  |[]=>κ .nilrow H
  |e::r=>κ (.buf sz H.length (r.length+1)) (H++[.buf sz true false (e::r)])
 |.buf s o n=>bif Nat.beq s sz then gB H o n fun _ st cap l=>boK (ok (l.length+els.length)&&!(cap&&els.isEmpty)) (grow o sz st cap l els H κ)else none
 |.tb s o st k=>bif Nat.beq s sz then IH H o st fun _ l=>boK (ok (k+els.length)&&!els.isEmpty) (κ (.tb sz o (st+1) (k+els.length)) (H.set o (.tbuf sz (st+1) (l++els))))else none
 |_=>none)
def qT(P:Program)(sT xT:TypeId)(x y:D)(H:DH)(κ:D->DH->ag):ag:=(fun _=>match P.underlying sT with
 |some (.slice elem)=>(match Ca P xT with|false=>(none)|true=>((match size P elem with
  |some sz=>(match sn P elem sz with|true=>(KU y H sz fun els=>fN (br P elem) sz x els H κ)|false=>(none))
  |none=>none)))
 |_=>none) kl
def fq(P:Program)(t:TypeId)(x:D)(H:DH)(κ:D->ag):ag:=match P.underlying t with
 |some .string=>match x with
  |.str l=>κ (.int .i64 l.length)
  |_=>none
 |some (.slice _)=>match x with
  |.row _ l=>κ (.int .i64 l.length)
  |.buf _ _ n=>κ (.int .i64 n)
  |.tb _ _ _ k=>κ (.int .i64 k)
  |.nilrow=>κ (.int .i64 0)
  |.nilx=>κ (.int .i64 0)
  |_=>none
 |some (.map _ _)=>match x with
  |.map o=>lm H o fun es=>κ (.int .i64 es.length)
  |.nilmap=>κ (.int .i64 0)
  |_=>none
 |_=>none
def Kj(g:Bool)(x y:D)(κ:D->ag):ag:=match x with
 |.int j a=>match y with
  |.int k b=>bif cW j k then κ (.int j (bif g then(bif decide (b>a)then b else a)else(bif decide (b<a)then b else a)))else none
  |_=>none
 |_=>none
def yx(g:Bool):D->List D->(D->ag)->ag
 |x,[],κ=>κ x
 |x,y::r,κ=>Kj g x y fun z=>yx g z r κ
def HE(esc:Bool)(cs:List D)(L:LS)(H:DH)(κ:xd->ag):ag:=(fun _=>  (match esc with|true=>(κ (.val (.g (.ptr H.length 0)) L (H++[.cells 0 cs])))|false=>(κ (.val (.lp L.length 0) (L++[(0,cs)]) H)))) kl
def Js(t:T LD)(o:Operand)(b:Bool)(κ:T LD->ag):ag:=(fun _=>match o with
 |.tmp i=>t.setQ (some (.g (.bool b))) (et i) κ
 |_=>κ t) kl
def NY(t:T LD)(L:LS)(H:DH)(c a b:Operand)(κ:T LD->xd->ag):ag :=
 gD (gm t c) fun d=>TW d (Js t c true fun t=>lD (gm t a) fun x=>κ t (.val x L H)) (Js t c false fun t=>lD (gm t b) fun x=>κ t (.val x L H))
def ei(E:cT)(f:FuncId):Bool:=match E.P.funcs[f]? with
 |some fn=>fn.body.isSome
 |none=>false
def AZ(E:cT)(L:LS)(H:DH)(args:List D)(f:D)(κ:xd->ag):ag:=(fun _=>match f with
 |.func g first cap=>(match ei E g with|true=>(κ (.enter g (first++(args++cap)) L H))|false=>(none))
 |_=>none) kl
def FD(L:LS)(H:DH)(args:List D)(f:D)(κ:xd->ag):ag:=(fun _=>match f with
 |.yld o=>κ (.round o args L H)
 |_=>none) kl
def lM(P:Program)(b:Builtin)(ts:Array TypeId)(args:List D)(L:LS)(H:DH)(κ:xd->ag):ag:=(fun _=>match b with
 |.append=>match ts[0]? with
  |some a=>match ts[1]? with
   |some b=>match args with
    |[x,y]=>qT P a b x y H fun d H=>κ (.val (.g d) L H)
    |_=>none
   |none=>none
  |none=>none
 |.len=>match ts[0]? with
  |some a=>match args with
   |[x]=>fq P a x H fun d=>κ (.val (.g d) L H)
   |_=>none
  |none=>none
 |.max=>match args with
  |x::r=>yx true x r fun d=>κ (.val (.g d) L H)
  |_=>none
 |.min=>match args with
  |x::r=>yx false x r fun d=>κ (.val (.g d) L H)
  |_=>none
 |.recover=>κ (.recover L H)
 |.panic=>match args with
  |[.iface t v]=>κ (.panic (.iface t v) L H)
  |_=>none
 |_=>none) kl
def jr:Op->cu->Bool->T LD->LS->DH->(T LD->xd->ag)->ag
 |.move x,_,_,t,L,H,κ=>lD (gm t x) fun d=>κ t (.val d L H)
 |.assign x,_,_,t,L,H,κ=>lD (gm t x) fun d=>κ t (.val d L H)
 |.pick c a b,_,_,t,L,H,κ=>NY t L H c a b κ
 |.alloc elem,E,esc,t,L,H,κ=>match nV E.E.P elem with
  |some z=>HE esc z.cells L H (κ t)
  |none=>none
 |.box elem x,E,esc,t,L,H,κ=>match size E.E.P elem with
  |some n=>gD (gm t x) fun d=>ah n d fun cs=>HE esc cs L H (κ t)
  |none=>none
 |.build ty parts,E,esc,t,L,H,κ=>match esc with
  |true=>pm E.E.P t ty parts.toList (IQ E.E.P ty) fun d=>κ t (.val (.g d) L H)
  |false=>Fk E.E.P t ty parts.toList fun d=>κ t (.val (.g d) L H)
 |.buildSlice ty len parts,E,_,t,L,H,κ=>gV E.E.P t ty len parts.toList fun d=>κ t (.val (.g d) L H)
 |.load ty x,E,_,t,L,H,κ=>lD (gm t x) fun x=>jx E.E.P ty x L H fun d=>κ t (.val (.g d) L H)
 |.store ty x y,E,_,t,L,H,κ=>lD (gm t x) fun x=>gD (gm t y) fun v=>uB E.E.P ty x v L H fun L H=>κ t (.skip L H)
 |.nilCheck x,_,_,t,L,H,κ=>lD (gm t x) fun x=>Nw x fun x=>κ t (.val x L H)
 |.binOp op ty x y _,E,_,t,L,H,κ=>gD (gm t x) fun a=>gD (gm t y) fun b=>(match oX y with|false=>(wM E.E.P op ty (cY x||cY y) a b H fun d=>κ t (.val (.g d) L H))|true=>((match E.E.P.underlying ty with
  |some (.slice _)=>HD op a fun d=>κ t (.val (.g d) L H)
  |_=>none)))
 |.unOp op _ x,_,_,t,L,H,κ=>gD (gm t x) fun a=>rl op a fun d=>κ t (.val (.g d) L H)
 |.convert src dst x,E,_,t,L,H,κ=>gD (gm t x) fun a=>oD E.E.P src dst a fun d=>κ t (.val (.g d) L H)
 |.makeInterface ty x,E,_,t,L,H,κ=>gD (gm t x) fun a=>match E.E.P.underlying ty with
  |some (.interface _)=>none
  |some _=>κ t (.val (.g (.iface ty a)) L H)
  |none=>none
 |.makeFunc fn first cap,_,_,t,L,H,κ=>match fn with
  |.func f=>CO t first.toList fun a=>CO t cap.toList fun b=>κ t (.val (.g (.func f a b)) L H)
  |_=>none
 |.makeMap _ none,_,_,t,L,H,κ=>κ t (.val (.g (.map H.length)) L (H++[.map []]))
 |.makeSlice ty l c,E,_,t,L,H,κ=>match E.E.P.underlying ty with
  |some (.slice el)=>match l with
   |.tmp i=>match c with
    |.tmp j=>(match Nat.beq i j with|false=>(none)|true=>(gD (gm t (.tmp i)) fun d=>match d with
     |.int _ n=>dE n fun n=>Kg E.E.P el n fun l sz=>κ t (.val (.g (.buf sz H.length n)) L (H++[.buf sz true true l]))
     |_=>none))
    |_=>none
   |_=>none
  |_=>none
 |.slice ty x lo hi mx,E,esc,t,L,H,κ=>gD (gm t x) fun x=>HX t lo fun lo=>HX t hi fun hi=>HX t mx fun mx=>match esc with
  |true=>OE E.E.P ty x lo hi mx H fun d H=>κ t (.val (.g d) L H)
  |false=>cA E.E.P ty x lo hi mx H fun d H=>κ t (.val (.g d) L H)
 |.fieldAddr ty x f,E,_,t,L,H,κ=>lD (gm t x) fun x=>wa E.E.P ty x f fun x=>κ t (.val x L H)
 |.field ty x f,E,_,t,L,H,κ=>gD (gm t x) fun x=>vZ E.E.P ty x f fun d=>κ t (.val (.g d) L H)
 |.indexAddr ty x i,E,_,t,L,H,κ=>gD (gm t x) fun x=>gD (gm t i) fun i=>dF E.E.P ty x i fun d=>κ t (.val (.g d) L H)
 |.index ty x i,E,_,t,L,H,κ=>gD (gm t x) fun x=>gD (gm t i) fun i=>iR E.E.P ty x i fun d=>κ t (.val (.g d) L H)
 |.lookup ty x k ok,E,_,t,L,H,κ=>gD (gm t x) fun x=>gD (gm t k) fun k=>fp E.E.P ty x k ok H fun d=>κ t (.val (.g d) L H)
 |.mapUpdate ty m k x,E,_,t,L,H,κ=>gD (gm t m) fun m=>gD (gm t k) fun k=>gD (gm t x) fun x=>gL E.E.P ty m k x H fun H=>κ t (.skip L H)
 |.insert ty m k x,E,_,t,L,H,κ=>gD (gm t m) fun m=>gD (gm t k) fun k=>gD (gm t x) fun x=>gL E.E.P ty m k x H fun H=>κ t (.skip L H)
 |.typeAssert x _ ty ok,E,_,t,L,H,κ=>gD (gm t x) fun x=>lN E.E.P x ty ok fun d=>κ t (.val (.g d) L H)
 |.extract x i,_,_,t,L,H,κ=>gD (gm t x) fun x=>di x i fun d=>κ t (.val (.g d) L H)
 |.call c,E,esc,t,L,H,κ=>CO t c.args.toList fun args=>match c.callee with
  |.builtin b=>lM E.E.P b c.argTypes args L H (κ t)
  |.value f=>gD (gm t f) fun f=>match esc with
   |true=>FD L H args f (κ t)
   |false=>AZ E.E L H args f (κ t)
  |.invoke _ _=>none
 |.defer c,E,_,t,L,H,κ=>CO t c.args.toList fun args=>match c.callee with
  |.value f=>gD (gm t f) fun f=>match f with
   |.func g first cap=>(match ei E.E g with|true=>(κ t (.defer ⟨g,cap,first++args⟩ L H))|false=>(none))
   |_=>none
  |_=>none
 |.panic x,_,_,t,L,H,κ=>gD (gm t x) fun x=>match x with
  |.iface ty d=>κ t (.panic (.iface ty d) L H)
  |_=>none
 |_,_,_,_,_,_,_=>none
def ij(h:Hk)(d:D)(H:DH)(κ:D->DH->ag):ag:=match h with
 |.fz sz=>match d with
  |.buf s' o n=>gB H o n fun s _ cap l=>boK (Nat.beq s' sz) (κ (.row sz l) (H.set o (.buf s false cap l)))
  |.nilrow=>κ (.row sz []) H
  |.nilx=>κ (.row sz []) H
  |.row s l=>κ (.row s l) H
  |_=>none
 |.acc sz=>match d with
  |.nilrow=>bif Nat.blt 0 sz then κ (.buf sz H.length 0) (H++[.buf sz true false []])else none
  |.buf s o n=>κ (.buf s o n) H
  |_=>none
def mE(h:Hk)(c:Nat)(d:D)(H:DH)(κ:D->DH->ag):ag:=match d with
 |.agg cs=>aC cs c fun x=>ij h x H fun y H=>κ (.agg (cs.set c y)) H
 |d=>bif Nat.beq c 0 then ij h d H κ else none
def vO:List (Nat×Hk)->D->DH->(D->DH->ag)->ag
 |[],d,H,κ=>κ d H
 |(c,h)::r,d,H,κ=>mE h c d H fun d H=>vO r d H κ
def Gy{α:Type}:List (Nat×α)->Nat->Option α
 |[],_=>none
 |(j,x)::r,i=>bif Nat.beq i j then some x else Gy r i
def qy(hs:List (Nat×List (Nat×Hk)))(dst:Option Tmp)(x:LD)(H:DH)(κ:LD->DH->ag):ag:=(fun _=>match hs with
 |[]=>κ x H
 |_::_=>match dst with
  |none=>κ x H
  |some i=>match Gy hs i with
   |none=>κ x H
   |some l=>match x with
    |.g d=>vO l d H fun d H=>κ (.g d) H
    |_=>none) kl
def Pl(i:Nat):List Nat->Bool
 |[]=>false
 |j::r=>bif Nat.beq i j then true else Pl i r
def om(an:gF)(dst:Option Tmp):Bool:=match an.esc with
 |[]=>false
 |l=>match dst with
  |some i=>Pl i l
  |none=>false
def jp(t:T LD)(d:Option Tmp)(x:LD)(κ:T LD->ag):ag:=(fun _=>match d with
 |some i=>t.setQ (some x) (et i) κ
 |none=>κ t) kl
def eK(x:ag)(kr:D->DH->ag)(kp:List ff->DH->ag):ag:=match x with
 |some ⟨.ret d,_,H⟩=>kr d H
 |some ⟨.pan c,_,H⟩=>kp c H
 |none=>none
def ut(ops:Array Oper)(t:T LD)(o:Oper)(kT kF:T LD->ag):ag:=(fun _=>match o.guard with
 |none=>kT t
 |some (j,want)=>match(ops[j]?).bind (·.dst)with
  |some i=>match t.get (et i)with
   |some (.g d)=>match want with
    |true=>brD d (t.setQ (some (.g (.bool true))) (et i) kT) (t.setQ (some (.g (.bool false))) (et i) kF)
    |false=>brD d (t.setQ (some (.g (.bool true))) (et i) kF) (t.setQ (some (.g (.bool false))) (et i) kT)
   |some .u=>kF t
   |_=>none
  |none=>none) kl
abbrev nU:=FuncId->List D->Option eB->DH->ag
abbrev DA:=T LD->LS->List pp->Option eB->DH->ag
def notRnd(up:Option eB)(r:ag):ag:=(fun _=>match up with
 |some (.round _)=>none
 |_=>r) kl
def kY(d:Option Tmp)(t:T LD)(L:LS)(ds:List pp)(H:DH)(k:DA):Option eB->ag
 |some (.round _)=>(fun _=>none) kl
 |some (.panicking (⟨v,false⟩::older))=>jp t d (.g v) fun t=>k t L ds (some (.panicking (⟨v,true⟩::older))) H
 |some m=>jp t d (.g .nilIface) fun t=>k t L ds (some m) H
 |none=>none
def En(an:gF)(rec:nU)(d:Option Tmp)(t:T LD)(ds:List pp)(up:Option eB)(k:DA)(kp:List ff->DA):xd->ag
 |.val x L H=>(fun _=>qy an.hooks d x H fun x H=>jp t d x fun t=>k t L ds up H) kl
 |.skip L H=>jp t d .u fun t=>k t L ds up H
 |.enter f args L H=>eK (rec f args none H) (fun x H=>qy an.hooks d (.g x) H fun x H=>jp t d x fun t=>k t L ds up H) fun c H=>kp c t L ds up H
 |.defer df L H=>notRnd up (jp t d .u fun t=>k t L (.call df::ds) up H)
 |.recover L H=>kY d t L ds H k up
 |.panic v L H=>kp [⟨v,false⟩] t L ds up H
 |.round o args L H=>eK (rec 0 args (some (.round o)) H) (fun x H=>qy an.hooks d (.g x) H fun x H=>jp t d x fun t=>k t L ds up H) fun c H=>kp c t L ds up H
def nq(E:cu)(an:gF)(ops:Array Oper)(rec:nU):List Oper->DA->(List ff->DA)->DA
 |[],k,_,t,L,ds,up,H=>k t L ds up H
 |o::r,k,kp,t,L,ds,up,H=>ut ops t o
  (fun t=>jr o.op E (om an o.dst) t L H fun t x=>En an rec o.dst t ds up (nq E an ops rec r k kp) kp x)
  (fun t=>jp t o.dst .u fun t=>nq E an ops rec r k kp t L ds up H)
def su(bs:T Nat)(i:Nat):Nat:=match bs.get (et i)with
 |some b=>b
 |none=>0
def fe(bs:T Nat):List Tmp->Nat
 |[]=>0
 |i::r=>Nat.max (su bs i) (fe bs r)
def JK{β:Type}(bs:T Nat)(d:Option Tmp)(n:Nat)(κ:T Nat->β):β:=(fun _=>match d with
 |some i=>bs.setQ (some n) (et i) κ
 |none=>κ bs) kl
def eR(L:LS):List (LS×DH)->LS
 |[]=>L
 |(M,_)::r=>eR (meet L M) r
 where meet:LS->LS->LS
  |(a,cs)::l,(b,_)::m=>bif Nat.beq a b then(a,cs)::meet l m else(a,[])::meet l m
  |(a,_)::l,[]=>(a,[])::meet l []
  |[],_=>[]
def oI(κ:T LD->LD->LS->DH->ag)(t:T LD):xd->ag
 |.val x L H=>(fun _=>κ t x L H) kl
 |_=>none
def se(an:gF)(d:Option Tmp):Bool:=match an.hooks with
 |[]=>false
 |l=>match d with
  |some i=>(Gy l i).isSome
  |none=>false
def Cn(r:List DH)(o:Nat):DB->DB
 |.cells st cs=>open Classical in if ∀ H2∈r,H2[o]? = some (.cells st cs)then .cells st cs else .dead
 |_=>.dead
def Ie(r:List DH):Nat->DH->DH
 |_,[]=>[]
 |i,b::t=>Cn r i b::Ie r (i+1) t
def cH(H:DH)(r:List DH):DH:=Ie r 0 H
def IJ(H:DH):D->Bool
 |.nilx=>true
 |.buf _ o n=>match H[o]? with
  |some (.buf _ _ _ l)=>Nat.beq n l.length&&Nat.blt 0 n
  |_=>false
 |_=>false
def Ea(P:Program)(ty:TypeId)(H:DH)(r:List DH)(o n i c:Nat)(κ:D->ag):ag:=gB H o n fun sz st cap l=>eO l i fun cs=>dq P ty cs c fun d=>open Classical in if(∀ H2∈r,H2[o]? = some (.buf sz st cap l))/\∀ H2∈H::r,IJ H2 d=true then κ d else none
def MQ(P:Program)(ty:TypeId)(d:D)(H:DH)(r:List DH)(κ:D->ag):ag:=match d with
 |.bptr o n i c=>Ea P ty H r o n i c κ
 |d=>ft P ty d (cH H r) κ
def Rk(P:Program)(ty:TypeId)(p:D)(H:DH)(r:List DH)(κ:D->ag):ag:=open Classical in if ∃ d,∀ H2∈H::r,IJ H2 d=true/\∀ κ':D->ag,ft P ty p H2 κ'=κ' d then ft P ty p H κ else none
def oT(P:Program)(ty:TypeId)(x:LD)(L:LS)(H:DH)(r:List DH)(κ:D->ag):ag:=(fun _=>match x with
 |.g d=>MQ P ty d H r κ
 |x=>jx P ty x L (cH H r) κ) kl
def JI(op:Op)(a:TypeId->Operand->ag)(b:ag):ag:=(fun _=>match op with
 |.load ty x=>a ty x
 |_=>b) kl
def uQ(E:cu)(o:Oper)(hist:List (LS×DH))(t:T LD)(κ:T LD->LD->ag):ag:=match hist with
 |[]=>none
 |(L,H)::r=>match r with
  |[]=>jr o.op E false t L H fun t x=>oI (fun t x _ _=>κ t x) t x
  |_::_=>JI o.op (fun ty x=>lD (gm t x) fun x=>oT E.E.P ty x (eR L r) H (r.map (·.2)) fun d=>κ t (.g d)) (jr o.op E false t (eR L r) (cH H (r.map (·.2))) fun t x=>oI (fun t x _ _=>κ t x) t x)
def uP(E:cu)(o:Oper)(hist:List (LS×DH))(t:T LD)(κ:T LD->LD->ag):ag:=match hist with
 |[]=>none
 |(_,H)::r=>match o.op with
  |.load ty x=>lD (gm t x) fun x=>match x with
   |.g p=>Rk E.E.P ty p H (r.map (·.2)) fun d=>κ t (.g d)
   |_=>none
  |_=>none
def cuts(an:gF)(o:Oper):Bool:=match o.op with
 |.slice _ _ _ _ _=>(match om an o.dst with|true=>true|false=>om an (o.dst.map fun i=>i+100000))
 |_=>false
def pc(E:cu)(an:gF)(o:Oper)(hist:List (LS×DH))(n c:Nat)(bs:T Nat)(t:T LD)(L:LS)(H:DH)(κ:T LD->LD->LS->DH->Nat->ag):Nat->ag
 |0=>(match cuts an o with
  |true=>jr o.op E (om an o.dst) t L H fun t x=>oI (fun t x L H=>κ t x L H n) t x
  |false=>jr o.op E false t [] [] fun t x=>oI (fun t x _ _=>κ t x L H ((match se an o.dst with|true=>(n)|false=>(fe bs (sees o))))) t x)
 |1=>(match Nat.ble (fe bs (sees o)) (n - c)&&Nat.ble c n with|true=>((match om an o.dst with|true=>uP|false=>uQ) E o (hist.take c) t fun t x=>κ t x L H ((match se an o.dst with|true=>(n)|false=>(n - c))))|false=>(none))
 |2=>jr o.op E (om an o.dst) t L H fun t x=>oI (fun t x L H=>κ t x L H n) t x
 |_=>none
def AN(rec:nU)(t:T LD)(κ:T LD->LD->LS->DH->ag)(kp:List ff->LS->DH->ag):xd->ag
 |.val x L H=>(fun _=>κ t x L H) kl
 |.skip L H=>κ t .u L H
 |.enter f args L H=>eK (rec f args none H) (fun x H=>κ t (.g x) L H) fun c H=>kp c L H
 |_=>none
def GK(t:T LD)(d:Option Tmp)(κ:T LD->ag):ag:=match d with
 |some d=>t.setQ none (et d) κ
 |none=>κ t
def fQ(E:cu)(an:gF)(ops:Array Oper)(rec:nU)(k:T LD->LS->DH->ag)(kp:List ff->T LD->LS->DH->ag):List (Option Nat×Nat)->List (LS×DH)->Nat->T Nat->T LD->LS->DH->ag
 |[],_,_,_,t,L,H=>k t L H
 |(c,i)::r,hist,n,bs,t,L,H=>match ops[i]? with
  |none=>none
  |some o=>match c with
   |some c=>ut ops t o
    (fun t=>pc E an o hist n c bs t L H (fun t x L H b=>qy an.hooks o.dst x H fun x H=>jp t o.dst x fun t=>JK bs o.dst b fun bs=>fQ E an ops rec k kp r hist n bs t L H) (aA E.E.P o.op))
    (fun t=>jp t o.dst .u fun t=>JK bs o.dst 0 fun bs=>fQ E an ops rec k kp r hist n bs t L H)
   |none=>ut ops t o
    (fun t=>jr o.op E false t L H fun t x=>AN rec t (fun t x L H=>qy an.hooks o.dst x H fun x H=>jp t o.dst x fun t=>JK bs o.dst n fun bs=>fQ E an ops rec k kp r ((L,H)::hist) (n+1) bs t L H) (fun c L H=>(match r with|[]=>(match om an (o.dst.map fun i=>i+200000)with|true=>GK t o.dst fun t=>kp c t L H|false=>none)|_::_=>none)) x)
    (fun t=>jp t o.dst .u fun t=>JK bs o.dst 0 fun bs=>fQ E an ops rec k kp r ((L,H)::hist) (n+1) bs t L H)
abbrev rj:=T LD->LS->List Item->List pp->eB->Option eB->DH->ag
def uM(H:DH)(o:Nat):ag:=match H[o]? with
 |some (.loop _ f nt t ps a b)=>some ⟨.ret (.bool true),none,H.set o (.loop true f nt t ps a b)⟩
 |_=>none
def vF(go:rj)(t:T LD)(L:LS)(ds:List pp)(up:Option eB)(H:DH):Option Code->ag
 |none=>match up with
  |some (.round o)=>uM H o
  |up=>go t L [] ds .returning up H
 |some .ret=>(fun _=>notRnd up (go t L [] ds .returning up H)) kl
 |_=>none
def In(H:DH)(o:Nat)(κ:DH->ag):ag:=match H[o]? with
 |some (.loop true f nt t ps a b)=>κ (H.set o (.loop false f nt t ps a b))
 |_=>none
def Fm(go:rj)(k:List Item)(t:T LD)(L:LS)(ds:List pp)(up:Option eB)(H:DH):ag:=(fun _=>match up with
 |some (.round o)=>In H o fun H=>go t L k ds .run up H
 |_=>none) kl
def yz(H:DH)(o:Nat)(κ:DH->ag):ag:=match H[o]? with
 |some (.loop true _ _ _ _ _ _)=>κ (H.set o .opq)
 |_=>none
def HP(d:D)(κ:FuncId->List D->List D->ag):ag:=match d with
 |.func g a b=>κ g a b
 |_=>none
def zU(f:FuncId)(nt:Nat)(go:rj)(rec:nU)(k:List Item)(t:T LD)(L:LS)(ds:List pp)(up:Option eB)(H:DH)(ps:Array Tmp)(a b:Code)(d:D):ag:=(fun _=>match L with
 |[]=>HP d fun g first cap=>notRnd up (eK (rec g (first++(.yld (H.length+1)::cap)) none (H++[.coll,.loop true f nt t ps a b]))
  (fun _ H'=>yz H' (H.length+1) fun H'=>go t L k (.coll H.length::ds) .run up H') fun c H'=>go t L k (.coll H.length::ds) (.panicking c) up H')
 |_=>none) kl
def yI(go:rj)(t:T LD)(L:LS)(ds:List pp)(up:Option eB)(H:DH):Option (List Item)->ag
 |some k=>(fun _=>go t L k ds .run up H) kl
 |none=>none
def kB:Code->cu->gF->FuncId->Func->rj->nU->List Item->T LD->LS->List pp->Option eB->DH->ag
 |.ret=>fun _ _ _ _ go _ _ t L ds up H=>vF go t L ds up H (some .ret)
 |.skip=>fun _ _ _ _ go _ k t L ds up H=>go t L k ds .run up H
 |.label _=>fun _ _ _ _ go _ k t L ds up H=>go t L k ds .run up H
 |.seq a b=>fun _ _ _ _ go _ k t L ds up H=>go t L (.code a::.code b::k) ds .run up H
 |.cond c a b=>fun _ _ _ _ go _ k t L ds up H=>gD (gm t c) fun d=>brD d (Js t c true fun t=>go t L (.code a::k) ds .run up H) (Js t c false fun t=>go t L (.code b::k) ds .run up H)
 |.block id c=>fun _ _ _ _ go _ k t L ds up H=>go t L (.code c::.inBlock id::k) ds .run up H
 |.loop c=>fun _ _ _ _ go _ k t L ds up H=>go t L (.code c::.inLoop c::k) ds .run up H
 |.scope c=>fun _ _ _ _ go _ k t L ds up H=>go t L (.code c::.inScope c::k) ds .run up H
 |.exit id=>fun _ _ _ _ go _ k t L ds up H=>yI go t L ds up H (exitTo id k)
 |.goto l=>fun _ _ _ _ go _ k t L ds up H=>yI go t L ds up H (gotoIn l k)
 |.region _ ops true=>fun E an f fn go rec k t L ds up H=>(match kw ops fn.ntmps with|false=>(none)|true=>((match Jt E.E.P ops with
  |some sc=>fQ E an ops rec (fun t L H=>go t L k ds .run up H) (fun c t L H=>go t L k ds (.panicking c) up H) sc [(L,H)] 1 .leaf t L H
  |none=>none)))
 |.region _ ops false=>fun E an f fn go rec k t L ds up H=>(match kw ops fn.ntmps with|true=>(nq E an ops rec ops.toList (fun t L ds up H=>go t L k ds .run up H) (fun c t L ds up H=>go t L k ds (.panicking c) up H) t L ds up H)|false=>(none))
 |.rangeFunc g ps a b=>fun _ _ f fn go rec k t L ds up H=>gD (gm t g) fun d=>zU f fn.ntmps go rec k t L ds up H ps a b d
 |_=>fun _ _ _ _ _ _ _ _ _ _ _ _=>none
def KA:Item->cu->gF->FuncId->Func->rj->nU->List Item->T LD->LS->List pp->Option eB->DH->ag
 |.code c=>(fun _=>kB c) kl
 |.inBlock _=>fun _ _ _ _ go _ k t L ds up H=>go t L k ds .run up H
 |.inScope _=>fun _ _ _ _ go _ k t L ds up H=>go t L k ds .run up H
 |.inLoop c=>fun _ _ _ _ go _ k t L ds up H=>go t L (.code c::.inLoop c::k) ds .run up H
 |.beginRound=>fun _ _ _ _ go _ k t L ds up H=>Fm go k t L ds up H
 |_=>fun _ _ _ _ _ _ _ _ _ _ _ _=>none
def FN:List Item->cu->gF->FuncId->Func->rj->nU->T LD->LS->List pp->Option eB->DH->ag
 |[]=>(fun _=>fun _ _ _ _ go _ t L ds up H=>vF go t L ds up H none) kl
 |i::k=>fun E an f fn go rec t L ds up H=>KA i E an f fn go rec k t L ds up H
def Eh(c:List ff)(a:ag)(b:List ff->ag):ag:=match c with
 |⟨_,true⟩::_=>a
 |c=>b c
def Fa(r:ag)(a:DH->ag)(b:List ff->DH->ag):ag:=match r with
 |some ⟨.ret _,some u,H⟩=>match u with
  |.returning=>a H
  |.panicking c=>Eh c (a H) fun c=>b c H
  |_=>none
 |some ⟨.pan c,some u,H⟩=>match u with
  |.returning=>b c H
  |.panicking old=>b (c++old) H
  |_=>none
 |_=>none
def pj(go:rj)(t:T LD)(L:LS)(ds:List pp)(up:Option eB)(r:ag):ag:=(fun _=>Fa r (fun H=>go t L [] ds .returning up H) fun c H=>go t L [] ds (.panicking c) up H) kl
def qO(H:DH)(o:Nat)(κ:DH->ag):ag:=match H[o]? with
 |some .coll=>κ (H.set o .opq)
 |_=>none
def mj(P:Program)(t:T LD)(L:LS)(H:DH):List ResultVar->(List D->ag)->ag
 |[],κ=>κ []
 |x::r,κ=>match x with
  |.tmp i=>gD (t.get (et i)) fun d=>mj P t L H r fun l=>κ (d::l)
  |.cell a ty=>lD (t.get (et a)) fun x=>jx P ty x L H fun d=>mj P t L H r fun l=>κ (d::l)
def Mk:List (Nat×Nat×Hk)->List D->DH->(List D->DH->ag)->ag
 |[],l,H,κ=>κ l H
 |(i,c,h)::r,l,H,κ=>aC l i fun d=>mE h c d H fun d H=>Mk r (l.set i d) H κ
def JU:List D->D
 |[d]=>d
 |ds=>.tuple ds
def JS(up:Option eB):Option eB:=match up with
 |some (.round _)=>none
 |up=>up
def iO(E:cu)(an:gF)(fn:Func)(t:T LD)(L:LS)(up:Option eB)(H:DH):eB->ag
 |.returning=>notRnd up (mj E.E.P t L H fn.results.toList fun l=>Mk an.rfz l H fun l H=>some ⟨.ret (JU l),up,H⟩)
 |.panicking c=>some ⟨.pan c,JS up,H⟩
 |_=>none
def im:List pp->cu->gF->Func->rj->nU->T LD->LS->eB->Option eB->DH->ag
 |.call ⟨f,cap,args⟩::ds=>fun _ _ _ go rec t L m up H=>pj go t L ds up (rec f (args++cap) (some m) H)
 |.coll o::ds=>fun _ _ _ go _ t L m up H=>qO H o fun H=>go t L [] ds m up H
 |[]=>fun E an fn _ _ t L m up H=>iO E an fn t L up H m
def sf(E:cu)(an:gF)(f:FuncId)(fn:Func)(go:rj)(rec:nU)(t:T LD)(L:LS)(todo:List Item)(ds:List pp)(m:eB)(up:Option eB)(H:DH):ag:=match m with
 |.run=>FN todo E an f fn go rec t L ds up H
 |.returning=>im ds E an fn go rec t L .returning up H
 |.panicking c=>im ds E an fn go rec t L (.panicking c) up H
 |.round _=>none
inductive Bs where
 |frame (f:FuncId) (fn:Func) (t:T LD) (L:LS) (todo:List Item) (ds:List pp) (m:eB) (up:Option eB)
 |call (f:FuncId) (args:List D) (up:Option eB)
abbrev bv:=Bs->DH->ag
def lz:Code->Nat
 |.region id _ _=>id
 |.seq a b=>match hasReg a with
  |true=>lz a
  |false=>lz b
 |.cond _ a b=>match hasReg a with
  |true=>lz a
  |false=>lz b
 |.block _ c=>lz c
 |.loop c=>lz c
 |.scope c=>lz c
 |_=>0
 where hasReg:Code->Bool
  |.region _ _ _=>true
  |.seq a b=>hasReg a||hasReg b
  |.cond _ a b=>hasReg a||hasReg b
  |.block _ c=>hasReg c
  |.loop c=>hasReg c
  |.scope c=>hasReg c
  |_=>false
def Oe:List Item->Option Nat
 |.code c::.inLoop _::_=>some (lz c+200000)
 |.code (.region id _ _)::_=>some id
 |.code (.cond _ a b)::_=>some (lz (.seq a b)+100000)
 |_=>none
def Oo(an:gF)(todo:List Item):Option (List Nat×List Nat):=match an.cuts with
 |[]=>none
 |l=>match Oe todo with
  |some k=>Gy l k
  |none=>none
def uE(t:T LD):List Nat->(List LD->ag)->ag
 |[],κ=>κ []
 |i::r,κ=>lD (t.get (et i)) fun x=>uE t r fun l=>κ (x::l)
def Oc:List Nat->List LD->T LD->T LD
 |i::r,x::l,t=>Oc r l (T.setQ (some x) (et i) t id)
 |_,_,t=>t
def qu(ks:List Nat):Nat->LS->LS
 |_,[]=>[]
 |i,(_,cs)::r=>(0,bif Pl i ks then cs else [])::qu ks (i+1) r
def mC:List Nat->Nat
 |[]=>0
 |k::r=>bif Nat.blt k (mC r)then mC r else k+1
def yy(n:Nat):List LD->Bool
 |[]=>true
 |x::r=>(match x with
  |.lp k _=>Nat.blt k n
  |_=>true)&&yy n r
def Da(an:gF)(ih:rj)(go:rj):rj:=fun t L todo ds m up H=>match m with
 |.run=>match Oo an todo with
  |some (live,ks)=>uE t live fun xs=>(match yy (mC ks) xs with|true=>(ih (Oc live xs .leaf) (qu ks 0 (L.take (mC ks))) todo ds m up H)|false=>(none))
  |none=>go t L todo ds m up H
 |m=>go t L todo ds m up H
mutual
def D.bel(n:Nat):D->Prop
 |.ptr o _=>o<n
 |.bptr o _ _ _=>o<n
 |.tptr o _ _ _=>o<n
 |.buf _ o _=>o<n
 |.tb _ o _ _=>o<n
 |.map o=>o<n
 |.yld o=>o<n
 |.eptr cs _=>tF n cs
 |.row _ l=>Dj n l
 |.func _ a b=>tF n a/\tF n b
 |.iface _ d=>d.bel n
 |.agg cs=>tF n cs
 |.tuple ds=>tF n ds
 |_=>True
def tF(n:Nat):List D->Prop
 |[]=>True
 |d::r=>d.bel n/\tF n r
def Dj(n:Nat):List (List D)->Prop
 |[]=>True
 |l::r=>tF n l/\Dj n r
end
def DB.bel(n:Nat):DB->Prop
 |.dead=>True
 |.cells _ cs=>tF n cs
 |.buf _ _ _ l=>Dj n l
 |.tbuf _ _ l=>Dj n l
 |.map es=>∀ x∈es,x.1.bel n/\x.2.bel n
 |.loop _ _ _ t _ _ _=>∀ i d,t.get (et i)=some (.g d)->d.bel n
 |.coll=>True
 |.opq=>True
def LF.bel(n:Nat):LF->Prop
 |.ret d=>d.bel n
 |.pan c=>∀ x∈c,x.v.bel n
def Lx(H:DH)(o:hJ):Prop:=o.e.bel H.length/\o.up=none/\H.length<=o.H.length/\∀ i b,i<H.length->o.H[i]? = some b->H[i]? = some b\/b.bel H.length
def pF(H:DH)(r:ag):ag:=match r with
 |some o=>open Classical in if Lx H o then some ⟨o.e,o.up,o.H.take H.length⟩else none
 |none=>none
def fY{β:Type}:List D->Nat->T LD->(T LD->β)->β
 |[],_,t,k=>(fun _=>k t) kl
 |x::r,i,t,k=>t.setQ (some (.g x)) (et i) fun t=>fY r (i+1) t k
def wm(E:cu)(go:FuncId->Func->rj)(f:FuncId)(args:List D)(up:Option eB)(H:DH):ag:=(fun _=>match E.E.P.funcs[f]? with
 |some fn=>match fn.body with
  |some c=>(match fn.name == "runtime.NumGoroutine" || E.vo f with|true=>(none)|false=>((match(E.ann f).trim with|true=>(pF H (fY args 0 .leaf fun t=>go f fn t [] [.code c] [] .run up H))|false=>(fY args 0 .leaf fun t=>go f fn t [] [.code c] [] .run up H))))
  |none=>none
 |none=>none) kl
def kZ{β:Type}:T LD->List Tmp->List D->(T LD->β)->β
 |t,p::ps,x::xs,k=>(fun _=>t.setQ (some (.g x)) (et p) fun t=>kZ t ps xs k) kl
 |t,_,_,k=>k t
def rD(E:cu)(go:FuncId->Func->rj)(o:Nat)(args:List D)(H:DH):ag:=(fun _=>match H[o]? with
 |some (.loop _ f nt t ps a b)=>match E.E.P.funcs[f]? with
  |some fn=>(match Nat.ble fn.ntmps nt&&Nat.beq ps.size args.length&&ps.toList.all (fun p=>Nat.blt p nt)with|true=>(kZ t ps.toList args fun t=>go f fn t [] [.code a,.beginRound,.code b] [] .run (some (.round o)) H)|false=>(none))
  |none=>none
 |_=>none) kl
def JT(E:cu)(f:FuncId)(args:List D)(H:DH)(up:Option eB)(k:ag):ag:=(fun _=>match(match up with|none=>E.orc f args H|some _=>none)with
 |some (d,H)=>some ⟨.ret d,up,H⟩
 |none=>k) kl
def GR(E:cu)(go:FuncId->Func->rj)(f:FuncId)(args:List D)(up:Option eB)(H:DH):ag:=(fun _=>match up with
 |some (.round o)=>rD E go o args H
 |up=>JT E f args H up (wm E go f args up H)) kl
def II(ih:bv)(f:FuncId)(fn:Func):rj:=(fun _=>fun t L todo ds m up H=>ih (.frame f fn t L todo ds m up) H) kl
def uO(ih:bv):nU:=(fun _=>fun f args up H=>ih (.call f args up) H) kl
def pI(E:cu)(ih:bv)(go:FuncId->Func->rj):bv
 |.frame f fn t L todo ds m up,H=>sf E (E.ann f) f fn (Da (E.ann f) (II ih f fn) (go f fn)) (uO ih) t L todo ds m up H
 |.call f args up,H=>GR E go f args up H
def dK(E:cu):Nat->bv
 |0=>fun _ _=>none
 |n+1=>pI E (dK E n) (II (dK E n))
def IT(E:cu)(R:bv):Nat->bv
 |0=>R
 |n+1=>pI E R (II (IT E R n))
end
end Go.AI
set_option linter.all false
noncomputable section
namespace Go.AI
def Al{α:Type}(c:(α->ag)->ag):Prop:=∀ κ out,c κ=some out->∃ a,∀ κ',c κ'=κ' a
variable{α β:Type}
theorem Al.ret(a:α):Al (fun κ=>κ a):=fun _ _ _=>⟨a,fun _=>rfl⟩
theorem Al.none:Al (fun(_:α->ag)=>none):=fun _ _ h=>by cases h
theorem Al.bind{c:(α->ag)->ag}{d:α->(β->ag)->ag}(h:Al c)(k:∀ a,Al (d a)):Al (fun κ=>c fun a=>d a κ):=fun κ out e=>by
 obtain⟨a,ha⟩:=h _ out e
 obtain⟨x,hx⟩:=k a κ out ((ha _).symm.trans e)
 exact⟨x,fun _=>(ha _).trans (hx _)⟩
theorem Al.map{c:(α->ag)->ag}(h:Al c)(f:α->β):Al (fun κ=>c fun a=>κ (f a)):=h.bind fun a=>.ret (f a)
theorem Al.boK(b:Bool){c:(α->ag)->ag}(h:Al c):Al (fun κ=>boK b (c κ)):=by
 cases b
 ·exact .none
 ·exact h
theorem Al.cond(b:Bool){c d:(α->ag)->ag}(h:Al c)(k:Al d):Al (fun κ=>cond b (c κ) (d κ)):=by
 cases b
 ·exact k
 ·exact h
theorem cJ(x:Option LD):Al (gD x):=by
 cases x with
 |none=>exact .none
 |some x=>cases x<;>first|exact .ret _|exact .none
theorem mZ(x:Option LD):Al (lD x):=by
 cases x with
 |none=>exact .none
 |some x=>exact .ret x
theorem qX(t:T LD):∀ l,Al (CO t l)
 |[]=>.ret []
 |x::r=>(cJ _).bind fun d=>(qX t r).map (d::·)
theorem Bl(cs:List D)(c:Nat):Al (aC cs c):=by
 unfold aC
 cases cs[c]? with
 |none=>exact .none
 |some d=>exact .ret d
theorem Dm:∀ n cs c,Al (ya n cs c)
 |0,_,_=>.ret []
 |n+1,cs,c=>(Bl cs c).bind fun d=>(Dm n cs (c+1)).map (d::·)
theorem nO(n:Nat)(d:D):Al (ah n d):=by
 cases d<;>first|exact .none|exact Al.cond _ (.ret _) .none
theorem Hc{c:(β->ag)->Nat->List D->ag}(H:DH)(o:Nat)(h:∀ st cs,Al (fun κ=>c κ st cs)):Al (fun κ=>aF H o (c κ)):=by
 unfold aF
 split
 ·exact h _ _
 ·exact .none
theorem ui{c:(β->ag)->Nat->Bool->Bool->List (List D)->ag}(H:DH)(o n:Nat)(h:∀ sz st cap l,Al (fun κ=>c κ sz st cap l)):Al (fun κ=>gB H o n (c κ)):=by
 unfold gB
 split
 ·exact Al.cond _ (h _ _ _ _) .none
 ·exact .none
theorem Qz{c:(β->ag)->Nat->List (List D)->ag}(H:DH)(o s:Nat)(h:∀ sz l,Al (fun κ=>c κ sz l)):Al (fun κ=>IH H o s (c κ)):=by
 unfold IH
 split
 ·exact Al.cond _ (h _ _) .none
 ·exact .none
theorem Bi(H:DH)(o:Nat):Al (lm H o):=by
 unfold lm
 split
 ·exact .ret _
 ·exact .none
theorem jM(n:Int):Al (dE n):=by
 cases n
 ·exact .ret _
 ·exact .none
theorem qW(l:List (List D))(i:Nat):Al (eO l i):=by
 unfold eO
 split
 ·exact .ret _
 ·exact .none
theorem uh(cs:List D)(c:Nat)(new:List D):Al (az cs c new):=by
 unfold az
 split
 ·exact .ret _
 ·exact .none
theorem dZ(P:Program)(ty:TypeId)(cs:List D)(c:Nat):Al (dq P ty cs c):=by
 unfold dq
 split
 ·split
  ·exact Al.cond _ ((Dm _ _ _).map _) .none
  ·exact .none
 ·exact Bl _ _
 ·exact .none
theorem Ft(P:Program)(ty:TypeId)(d:D)(H:DH):Al (ft P ty d H):=by
 cases d<;>first
  |exact .none
  |exact dZ _ _ _ _
  |exact Hc _ _ fun _ _=>dZ _ _ _ _
  |exact ui _ _ _ fun _ _ _ _=>(qW _ _).bind fun _=>dZ _ _ _ _
  |exact Qz _ _ _ fun _ _=>(qW _ _).bind fun _=>dZ _ _ _ _
theorem Ds(P:Program)(ty:TypeId)(x:LD)(L:LS)(H:DH):Al (jx P ty x L H):=by
 cases x with
 |g d=>exact Ft _ _ _ _
 |lp k c =>
  show Al (fun κ=>jx P ty (.lp k c) L H κ)
  simp only[jx]
  split
  ·grind [dZ]
  ·exact .none
 |u=>exact .none
theorem QA(d:D)(new:List D)(H:DH):Al (Me d new H):=by
 cases d<;>first
  |exact .none
  |exact Hc _ _ fun _ _=>(uh _ _ _).map _
  |exact ui _ _ _ fun _ st _ _=>Al.boK st ((qW _ _).bind fun _=>(uh _ _ _).map _)
def fG(c:(α->β->ag)->ag):Prop:=∀ κ out,c κ=some out->∃ a b,∀ κ',c κ'=κ' a b
theorem fG.bind{γ:Type}{c:(α->β->ag)->ag}{d:α->β->(γ->ag)->ag}(h:fG c)(k:∀ a b,Al (d a b)):Al (fun κ=>c fun a b=>d a b κ):=fun κ out e=>by
 obtain⟨a,b,ha⟩:=h _ out e
 obtain⟨x,hx⟩:=k a b κ out ((ha _).symm.trans e)
 exact⟨x,fun _=>(ha _).trans (hx _)⟩
theorem fG.ret(a:α)(b:β):fG (fun κ=>κ a b):=fun _ _ _=>⟨a,b,fun _=>rfl⟩
theorem fG.none:fG (fun(_:α->β->ag)=>none):=fun _ _ h=>by cases h
theorem NG(P:Program)(ty:TypeId)(H:DH)(r:List DH)(o n i c:Nat):Al (Ea P ty H r o n i c):=by
 unfold Ea
 refine ui _ _ _ fun sz st cap l=>(qW _ _).bind fun cs=>(dZ _ _ _ _).bind fun d=>?_
 split
 ·exact .ret _
 ·exact .none
theorem NL(P:Program)(ty:TypeId)(d:D)(H:DH)(r:List DH):Al (MQ P ty d H r):=by
 unfold MQ
 split
 ·grind [NG]
 grind [Ft]
theorem QB(P:Program)(ty:TypeId)(p:D)(H:DH)(r:List DH):Al (Rk P ty p H r):=by
 unfold Rk
 split
 ·exact Ft _ _ _ _
 ·exact .none
theorem Iq(P:Program)(ty:TypeId)(x:LD)(L:LS)(H:DH)(r:List DH):Al (oT P ty x L H r):=by
 unfold oT
 split
 ·grind [NL]
 grind [Ds]
theorem Al.bind2{γ:Type}{c:(γ->ag)->ag}{d:γ->(α->β->ag)->ag}(h:Al c)(k:∀ a,fG (d a)):fG (fun κ=>c fun a=>d a κ):=fun κ out e=>by
 obtain⟨a,ha⟩:=h _ out e
 obtain⟨x,y,hx⟩:=k a κ out ((ha _).symm.trans e)
 exact⟨x,y,fun _=>(ha _).trans (hx _)⟩
theorem fG.boK(b:Bool){c:(α->β->ag)->ag}(h:fG c):fG (fun κ=>Go.AI.boK b (c κ)):=by
 cases b
 ·exact .none
 ·exact h
theorem fG.cond(b:Bool){c d:(α->β->ag)->ag}(h:fG c)(k:fG d):fG (fun κ=>cond b (c κ) (d κ)):=by
 cases b
 ·exact k
 ·exact h
theorem nf{γ:Type}{c:(γ->β->ag)->Nat->Bool->Bool->List (List D)->ag}(H:DH)(o n:Nat)(h:∀ sz st cap l,fG (fun κ=>c κ sz st cap l)):fG (fun κ=>gB H o n (c κ)):=by
 unfold gB
 split
 ·exact fG.cond _ (h _ _ _ _) .none
 ·exact .none
theorem Hf{γ:Type}{c:(γ->β->ag)->Nat->List (List D)->ag}(H:DH)(o s:Nat)(h:∀ sz l,fG (fun κ=>c κ sz l)):fG (fun κ=>IH H o s (c κ)):=by
 unfold IH
 split
 ·exact fG.cond _ (h _ _) .none
 ·exact .none
theorem Io(P:Program)(ty:TypeId)(x:LD)(v:D)(L:LS)(H:DH):fG (uB P ty x v L H):=by
 unfold uB
 split
 ·dsimp only
  split
  ·exact .none
  refine(nO _ _).bind2 fun new=>?_
  cases x with
  |g d=>exact(QA _ _ _).bind2 fun H=>.ret L H
  |lp k c =>
   simp only
   split
   ·exact(uh _ _ _).bind2 fun _=>.ret _ _
   ·exact .none
  |u=>exact .none
 ·exact .none
theorem wR(place:Nat->Option (Nat×Nat))(t:T LD):∀ l cs,Al (yU place t l cs)
 |[],cs=>.ret cs
 |(i,x)::r,cs=>by
  refine(cJ _).bind fun d=>?_
  split
  ·exact .none
  ·exact Al.cond _ ((nO _ _).bind fun _=>(uh _ _ _).bind fun _=>wR place t r _) .none
theorem zm(P:Program)(t:T LD)(ty:TypeId)(parts:List (Nat×Operand))(z:Option D):Al (pm P t ty parts z):=by
 unfold pm
 split
 ·split
  ·exact Al.cond _ ((wR _ _ _ _).map _) .none
  ·split
   ·exact(wR _ _ _ _).map _
   ·exact .none
  ·exact .none
 ·exact .none
theorem Iy(P:Program)(t:T LD)(ty:TypeId)(parts:List (Nat×Operand)):Al (Fk P t ty parts):=zm _ _ _ _ _
theorem ti(t:T LD)(n len:Nat):∀ l cs,Al (mh t n len l cs)
 |[],cs=>.ret cs
 |(i,x)::r,cs=>(cJ _).bind fun d=>Al.cond _ ((nO _ _).bind fun _=>ti t n len r _) .none
theorem wS(P:Program)(t:T LD)(ty:TypeId)(len:Nat)(parts:List (Nat×Operand)):Al (gV P t ty len parts):=by
 unfold gV
 split
 ·split
  ·split
   ·exact Al.cond _ ((ti _ _ _ _ _).map _) .none
   ·exact .none
  ·exact .none
 ·exact .none
theorem NS(x:LD):Al (Nw x):=by
 cases x with
 |g d=>cases d<;>first|exact .none|exact .ret _
 |lp k c=>exact .ret _
 |u=>exact .none
theorem NN(op:BinOp)(k:IntKind)(a b:Int):Al (PB op k a b):=by
 cases op<;>first|exact .none|exact .ret _|exact Al.boK _ (.ret _)
theorem NF(op:BinOp)(a b:List Nat):Al (OI op a b):=by
 cases op<;>first|exact .none|exact .ret _|exact Al.boK _ (.ret _)
theorem He(P:Program){eq:TypeId->D->D->(Bool->ag)->ag}(h:∀ t x y,Al (eq t x y)):∀ fs xs ys q,Al (KS P eq fs xs ys q)
 |[],_,_,q=>.ret q
 |f::r,xs,ys,q=>Al.cond _ .none ((dZ _ _ _ _).bind fun a=>(dZ _ _ _ _).bind fun b=>(h _ a b).bind fun p=>He P h r xs ys _)
theorem Bk(P:Program):∀ d t x y,Al (HY P d t x y)
 |0,_,_,_=>.none
 |d+1,t,x,y=>by
  show Al (fun κ=>HY P (d+1) t x y κ)
  simp only[HY]
  split
  ·split
   ·exact Al.cond _ .none (He P (Bk P d) _ _ _ _)
   ·exact .none
  all_goals first
   |exact .none
   |(split<;>first|exact .ret _|exact .none|exact Al.cond _ (.ret _) .none)
theorem NH(op:BinOp)(x:D):Al (HD op x):=by
 unfold HD
 refine Al.cond _ ?_ .none
 split
 ·exact .ret _
 ·rename_i l;cases l<;>exact .ret _
 ·rename_i n;cases n<;>exact .ret _
 ·exact .none
theorem uj(P:Program)(op:BinOp)(t:TypeId)(c:Bool)(x y:D):Al (aB P op t c x y):=by
 unfold aB
 split
 ·exact Al.cond _ .none (Al.cond _ (NN _ _ _ _) .none)
 ·exact NF _ _ _
 ·refine Al.cond _ ?_ .none
  split
  ·exact(Bk _ _ _ _ _).map _
  ·exact(Bk _ _ _ _ _).map _
  ·exact .none
theorem Hb(P:Program)(t:TypeId)(c:Bool)(op:BinOp)(x y:D)(H:DH)(q:Bool->Bool):Al (Ee P t c op x y H q):=by
 unfold Ee
 split
 ·split
  ·split
   ·exact Al.cond _ (.ret _) .none
   ·exact uj _ _ _ _ _ _
  ·exact uj _ _ _ _ _ _
 ·exact uj _ _ _ _ _ _
theorem NT(P:Program)(op:BinOp)(t:TypeId)(c:Bool)(x y:D)(H:DH):Al (wM P op t c x y H):=by
 unfold wM
 split
 ·exact Hb _ _ _ _ _ _ _ _
 ·exact Hb _ _ _ _ _ _ _ _
 ·exact uj _ _ _ _ _ _
theorem Qx(op:UnOp)(x:D):Al (rl op x):=by
 unfold rl
 split
 ·split<;>first|exact .ret _|exact .none
 ·split<;>first|exact .ret _|exact .none
 ·exact .none
theorem Ls(P:Program)(src dst:TypeId)(x:D):Al (oD P src dst x):=by
 unfold oD
 refine Al.cond _ .none ?_
 split
 ·split<;>first|exact .ret _|exact .none
 ·split<;>first|exact .ret _|exact .none
 ·exact .none
theorem NI(P:Program)(el:TypeId)(n:Nat):fG (Kg P el n):=by
 unfold Kg
 split
 ·split
  ·exact fG.cond _ (fG.boK _ (.ret _ _)) .none
  ·exact .none
 ·exact .none
theorem iC(o:Option D)(d:Nat):Al (sv o d):=by
 unfold sv
 split
 ·exact jM _
 ·exact .none
 ·exact .ret _
theorem Bj(t:T LD)(x:Option Operand):Al (HX t x):=by
 cases x with
 |none=>exact .ret _
 |some x=>exact(cJ _).map _
theorem Do(sz:Nat)(l:List (List D))(lo hi:Option D):Al (BI sz l lo hi) :=
 (iC _ _).bind fun _=>(iC _ _).bind fun _=>Al.boK _ (.ret _)
theorem Ip(P:Program)(t:TypeId)(x:D)(lo hi mx:Option D)(H:DH):fG (cA P t x lo hi mx H):=by
 unfold cA
 split
 ·split
  ·split
   ·exact(iC _ _).bind2 fun _=>(iC _ _).bind2 fun _=>fG.boK _ (.ret _ _)
   ·exact .none
  ·exact .none
 ·split
  ·split
   ·split
    ·exact fG.cond _ ((Do _ _ _ _).bind2 fun _=>.ret _ _) .none
    ·exact nf _ _ _ fun _ _ _ _=>fG.boK _ ((Do _ _ _ _).bind2 fun _=>.ret _ _)
    ·exact(iC _ _).bind2 fun _=>(iC _ _).bind2 fun _=>fG.boK _ (.ret _ _)
    ·exact .none
   ·refine(iC _ _).bind2 fun _=>(iC _ _).bind2 fun _=>(iC _ _).bind2 fun _=>fG.cond _ ?_ .none
    split
    ·exact fG.cond _ (.ret _ _) .none
    ·exact nf _ _ _ fun _ _ _ _=>fG.boK _ (.ret _ _)
    ·exact .ret _ _
    ·exact .none
  ·exact .none
 ·exact .none
theorem Qy(P:Program)(t:TypeId)(x:D)(lo hi mx:Option D)(H:DH):fG (OE P t x lo hi mx H):=by
 unfold OE
 split
 ·split
  ·split
   ·split
    ·split
     ·refine(jM _).bind2 fun _=>?_
      split
      ·exact fG.cond _ (nf _ _ _ fun _ _ _ _=>fG.boK _ (.ret _ _)) .none
      ·exact fG.cond _ (Hf _ _ _ fun _ _=>fG.boK _ (.ret _ _)) .none
      ·exact .none
     ·exact .none
    ·exact .none
   ·exact .none
  ·exact .none
 ·exact .none
theorem NP(x:LD)(off:Nat):Al (Nf x off):=by
 cases x with
 |g d=>cases d<;>first|exact .none|exact .ret _
 |lp k c=>exact .ret _
 |u=>exact .none
theorem Iv(P:Program)(ty:TypeId)(x:LD)(f:Nat):Al (wa P ty x f):=by
 unfold wa
 split
 ·split
  ·exact Al.cond _ .none (NP _ _)
  ·exact .none
 ·exact .none
theorem Iu(P:Program)(ty:TypeId)(x:D)(f:Nat):Al (vZ P ty x f):=by
 unfold vZ
 split
 ·split
  ·split
   ·exact dZ _ _ _ _
   ·exact .none
  ·exact .none
 ·exact .none
theorem NM(x:D)(sz:Nat)(i:Int):Al (HL x sz i):=by
 unfold HL
 split
 ·exact Al.cond _ ((jM _).bind fun _=>(qW _ _).map _) .none
 ·exact Al.cond _ ((jM _).bind fun _=>Al.boK _ (.ret _)) .none
 ·exact Al.cond _ ((jM _).bind fun _=>Al.boK _ (.ret _)) .none
 ·exact .none
theorem Is(P:Program)(ty:TypeId)(x i:D):Al (dF P ty x i):=by
 unfold dF
 split
 ·split
  ·split
   ·exact NM _ _ _
   ·exact .none
  ·exact .none
 ·exact .none
theorem Lt(l:List Nat)(i:Nat):Al (ew l i):=by
 unfold ew
 split
 ·exact .ret _
 ·exact .none
theorem Ir(P:Program)(ty:TypeId)(x i:D):Al (iR P ty x i):=by
 unfold iR
 split
 ·split
  ·split
   ·exact(jM _).bind fun _=>Lt _ _
   ·exact .none
  ·exact .none
 ·split
  ·split
   ·split
    ·exact(jM _).bind fun _=>Al.cond _ (dZ _ _ _ _) .none
    ·exact .none
   ·exact .none
  ·exact .none
 ·exact .none
theorem Dr(k:D)(es:List (D×D)):Al (jv k es):=by
 unfold jv
 split
 ·exact .ret _
 ·exact .none
theorem Dq(k v:D)(es:List (D×D)):Al (ju k v es):=by
 unfold ju
 split
 ·exact .ret _
 ·exact .none
theorem sC(P:Program)(el:TypeId)(ok:Bool)(o:Option D):Al (eH P el ok o):=by
 unfold eH
 split
 ·exact .ret _
 ·split
  ·exact .ret _
  ·exact .none
theorem Lr(P:Program)(ty:TypeId)(m k:D)(ok:Bool)(H:DH):Al (fp P ty m k ok H):=by
 unfold fp
 split
 ·split
  ·refine Al.cond _ ((Bi _ _).bind fun _=>?_) .none
   split
   ·exact Al.cond _ ((Dr _ _).bind fun _=>sC _ _ _ _) .none
   ·exact(Dr _ _).bind fun _=>sC _ _ _ _
  ·grind [sC]
  ·exact .none
 ·exact .none
theorem Dp(P:Program)(ty:TypeId)(m k v:D)(H:DH):Al (gL P ty m k v H):=by
 unfold gL
 split
 ·split
  ·refine Al.cond _ ((Bi _ _).bind fun _=>?_) .none
   split
   ·exact Al.cond _ ((Dq _ _ _).map _) .none
   ·exact(Dq _ _ _).map _
  ·exact .none
 ·exact .none
theorem Fu(P:Program)(x:D)(ty:TypeId)(ok:Bool):Al (lN P x ty ok):=by
 unfold lN
 split
 ·exact .none
 ·split
  ·refine Al.cond _ (.ret _) (Al.cond _ ?_ .none)
   split<;>first|exact .ret _|exact .none
  ·refine Al.cond _ ?_ .none
   split<;>first|exact .ret _|exact .none
  ·exact .none
 ·exact .none
theorem NQ(x:D)(i:Nat):Al (di x i):=by
 unfold di
 split
 ·exact Bl _ _
 ·exact .none
theorem NR(y:D)(H:DH)(sz:Nat):Al (KU y H sz):=by
 unfold KU
 split
 ·exact Al.cond _ (.ret _) .none
 ·exact .ret _
 ·exact .ret _
 ·exact Al.cond _ (ui _ _ _ fun _ _ _ _=>.ret _) .none
 ·exact .none
theorem NO(o sz:Nat)(st cap:Bool)(l els:List (List D))(H:DH):fG (grow o sz st cap l els H):=by
 unfold grow
 exact fG.cond _ (.ret _ _) (.ret _ _)
theorem NU(ok:Nat->Bool)(sz:Nat)(x:D)(els:List (List D))(H:DH):fG (fN ok sz x els H):=by
 unfold fN
 refine fG.boK _ ?_
 split
 ·split
  ·exact .ret _ _
  ·exact .ret _ _
 ·split
  ·exact .ret _ _
  ·exact .ret _ _
 ·exact fG.cond _ (nf _ _ _ fun _ _ _ _=>fG.boK _ (NO _ _ _ _ _ _ _)) .none
 ·exact fG.cond _ (Hf _ _ _ fun _ _=>fG.boK _ (.ret _ _)) .none
 ·exact .none
theorem Fv(P:Program)(sT xT:TypeId)(x y:D)(H:DH):fG (qT P sT xT x y H):=by
 unfold qT
 split
 ·dsimp only
  split
  ·exact .none
  split
  ·split
   ·exact(NR _ _ _).bind2 fun _=>NU _ _ _ _ _
   ·exact .none
  ·exact .none
 ·exact .none
theorem NK(P:Program)(t:TypeId)(x:D)(H:DH):Al (fq P t x H):=by
 unfold fq
 split
 ·split<;>first|exact .ret _|exact .none
 ·split<;>first|exact .ret _|exact .none
 ·split
  ·exact(Bi _ _).map _
  ·exact .ret _
  ·exact .none
 ·exact .none
theorem NJ(g:Bool)(x y:D):Al (Kj g x y):=by
 unfold Kj
 split
 ·split
  ·exact Al.cond _ (.ret _) .none
  ·exact .none
 ·exact .none
theorem wQ(g:Bool):∀ l x,Al (yx g x l)
 |[],x=>.ret x
 |y::r,x=>(NJ g x y).bind fun z=>wQ g r z
theorem Hd(esc:Bool)(cs:List D)(L:LS)(H:DH):Al (HE esc cs L H):=by
 unfold HE
 exact Al.cond _ (.ret _) (.ret _)
theorem Iw(E:cT)(L:LS)(H:DH)(args:List D)(f:D):Al (AZ E L H args f):=by
 unfold AZ
 split
 ·exact Al.cond _ (.ret _) .none
 ·exact .none
theorem Lq(L:LS)(H:DH)(args:List D)(f:D):Al (FD L H args f):=by
 unfold FD
 split
 ·exact .ret _
 ·exact .none
theorem Ix(P:Program)(b:Builtin)(ts:Array TypeId)(args:List D)(L:LS)(H:DH):Al (lM P b ts args L H):=by
 unfold lM
 split
 ·split
  ·split
   ·split
    ·exact(Fv _ _ _ _ _ _).bind fun _ _=>.ret _
    ·exact .none
   ·exact .none
  ·exact .none
 ·split
  ·split
   ·exact(NK _ _ _ _).map _
   ·exact .none
  ·exact .none
 ·split
  ·exact(wQ _ _ _).map _
  ·exact .none
 ·split
  ·exact(wQ _ _ _).map _
  ·exact .none
 ·exact .ret _
 ·split
  ·exact .ret _
  ·exact .none
 ·exact .none
def FQ(t:T LD)(o:Operand)(b:Bool):T LD:=match o with
 |.tmp i=>T.set (some (.g (.bool b))) (et i) t
 |_=>t
theorem pM(t:T LD)(o:Operand)(b:Bool)(κ:T LD->ag):Js t o b κ=κ (FQ t o b):=by
 cases o<;>first|rfl|exact T.setQ_eq _ _ _ _
theorem sx(o:Op)(E:cu)(esc:Bool)(t:T LD)(L:LS)(H:DH):fG (jr o E esc t L H):=by
 have r:∀(x:xd),fG (fun(κ:T LD->xd->ag)=>κ t x):=fun x=>.ret t x
 show fG (fun κ=>jr o E esc t L H κ)
 cases o with
 |move x=>exact(mZ _).bind2 fun _=>r _
 |assign x=>exact(mZ _).bind2 fun _=>r _
 |pick c a b =>
  refine(cJ _).bind2 fun d=>?_
  cases d<;>first|exact .none|skip
  rename_i q
  simp only[pM]
  cases q
  ·exact(mZ _).bind2 fun _=>.ret _ _
  ·exact(mZ _).bind2 fun _=>.ret _ _
 |alloc elem =>
  simp only[jr]
  split
  ·exact(Hd _ _ _ _).bind2 fun x=>r x
  ·exact .none
 |box elem x =>
  simp only[jr]
  split
  ·exact(cJ _).bind2 fun d=>(nO _ _).bind2 fun cs=>(Hd _ _ _ _).bind2 fun x=>r x
  ·exact .none
 |build ty parts =>
  simp only[jr]
  cases esc
  ·exact(Iy _ _ _ _).bind2 fun _=>r _
  ·exact(zm _ _ _ _ _).bind2 fun _=>r _
 |buildSlice ty len parts=>simp only[jr];exact(wS _ _ _ _ _).bind2 fun _=>r _
 |load ty x=>exact(mZ _).bind2 fun _=>(Ds _ _ _ _ _).bind2 fun _=>r _
 |store ty x y=>exact(mZ _).bind2 fun _=>(cJ _).bind2 fun _=>fun κ out e=>(by
  obtain⟨a,b,h⟩:=Io _ _ _ _ _ _ _ _ e
  exact⟨t,.skip a b,fun κ'=>h _⟩)
 |nilCheck x=>exact(mZ _).bind2 fun _=>(NS _).bind2 fun _=>r _
 |binOp op ty x y _ =>
  simp only[jr]
  refine(cJ _).bind2 fun _=>(cJ _).bind2 fun _=>?_
  cases oX y with
  |false=>exact(NT _ _ _ _ _ _ _).bind2 fun _=>r _
  |true =>
   dsimp only
   split
   ·exact(NH _ _).bind2 fun _=>r _
   ·exact .none
 |unOp op _ x=>exact(cJ _).bind2 fun _=>(Qx _ _).bind2 fun _=>r _
 |convert _ dst x=>exact(cJ _).bind2 fun _=>(Ls _ _ _ _).bind2 fun _=>r _
 |makeInterface ty x =>
  refine(cJ _).bind2 fun a=>?_
  split
  ·exact .none
  ·exact r _
  ·exact .none
 |makeFunc fn first cap =>
  simp only[jr]
  split
  ·exact(qX _ _).bind2 fun _=>(qX _ _).bind2 fun _=>r _
  ·exact .none
 |makeMap ty n=>cases n<;>first|exact r _|exact .none
 |makeSlice ty l c =>
  simp only[jr]
  split
  ·split
   ·split
    ·split
     ·exact .none
     refine(cJ _).bind2 fun d=>?_
     split
     ·exact(jM _).bind2 fun n=>fun κ out e=>(by
       obtain⟨a,b,h⟩:=NI _ _ _ _ _ e
       exact⟨t,_,fun κ'=>h _⟩)
     ·exact .none
    ·exact .none
   ·exact .none
  ·exact .none
 |slice ty x lo hi mx=>exact(cJ _).bind2 fun _=>(Bj _ _).bind2 fun _=>(Bj _ _).bind2 fun _=>(Bj _ _).bind2 fun _=>fun κ out e=>(by
  cases esc
  ·obtain⟨a,b,h⟩:=Ip _ _ _ _ _ _ _ _ _ e
   exact⟨t,_,fun κ'=>h _⟩
  ·obtain⟨a,b,h⟩:=Qy _ _ _ _ _ _ _ _ _ e
   exact⟨t,_,fun κ'=>h _⟩)
 |fieldAddr ty x f=>exact(mZ _).bind2 fun _=>(Iv _ _ _ _).bind2 fun _=>r _
 |field ty x f=>exact(cJ _).bind2 fun _=>(Iu _ _ _ _).bind2 fun _=>r _
 |indexAddr ty x i=>exact(cJ _).bind2 fun _=>(cJ _).bind2 fun _=>(Is _ _ _ _).bind2 fun _=>r _
 |index ty x i=>exact(cJ _).bind2 fun _=>(cJ _).bind2 fun _=>(Ir _ _ _ _).bind2 fun _=>r _
 |lookup ty x k ok=>exact(cJ _).bind2 fun _=>(cJ _).bind2 fun _=>(Lr _ _ _ _ _ _).bind2 fun _=>r _
 |mapUpdate ty m k x=>exact(cJ _).bind2 fun _=>(cJ _).bind2 fun _=>(cJ _).bind2 fun _=>(Dp _ _ _ _ _ _).bind2 fun _=>r _
 |insert ty m k x=>exact(cJ _).bind2 fun _=>(cJ _).bind2 fun _=>(cJ _).bind2 fun _=>(Dp _ _ _ _ _ _).bind2 fun _=>r _
 |typeAssert x _ ty ok=>exact(cJ _).bind2 fun _=>(Fu _ _ _ _).bind2 fun _=>r _
 |extract x i=>exact(cJ _).bind2 fun _=>(NQ _ _).bind2 fun _=>r _
 |call c =>
  simp only[jr]
  refine(qX _ _).bind2 fun args=>?_
  split
  ·exact(Ix _ _ _ _ _ _).bind2 fun x=>r x
  ·refine(cJ _).bind2 fun f=>?_
   cases esc
   ·exact(Iw _ _ _ _ _).bind2 fun x=>r x
   ·exact(Lq _ _ _ _).bind2 fun x=>r x
  ·exact .none
 |defer c =>
  simp only[jr]
  refine(qX _ _).bind2 fun args=>?_
  split
  ·refine(cJ _).bind2 fun f=>?_
   split
   ·exact fG.cond _ (r _) .none
   ·exact .none
  ·exact .none
 |panic x =>
  simp only[jr]
  refine(cJ _).bind2 fun x=>?_
  split
  ·exact r _
  ·exact .none
 |_=>exact .none
theorem Dt(h:Hk)(d:D)(H:DH):fG (ij h d H):=by
 unfold ij
 split
 ·split
  ·exact nf _ _ _ fun _ _ _ _=>fG.boK _ (.ret _ _)
  ·exact .ret _ _
  ·exact .ret _ _
  ·exact .ret _ _
  ·exact .none
 ·split
  ·exact fG.cond _ (.ret _ _) .none
  ·exact .ret _ _
  ·exact .none
theorem It(h:Hk)(c:Nat)(d:D)(H:DH):fG (mE h c d H):=by
 unfold mE
 split
 ·refine(Bl _ _).bind2 fun x=>fun κ out e=>?_
  obtain⟨a,b,k⟩:=Dt _ _ _ _ _ e
  exact⟨_,_,fun κ'=>k _⟩
 ·exact fG.cond _ (Dt _ _ _) .none
theorem fG.bind2{γ δ:Type}{c:(α->β->ag)->ag}{d:α->β->(γ->δ->ag)->ag}(h:fG c)(k:∀ a b,fG (d a b)):fG (fun κ=>c fun a b=>d a b κ):=fun κ out e=>by
 obtain⟨a,b,ha⟩:=h _ out e
 obtain⟨x,y,hx⟩:=k a b κ out ((ha _).symm.trans e)
 exact⟨x,y,fun _=>(ha _).trans (hx _)⟩
theorem zl:∀ l d H,fG (vO l d H)
 |[],d,H=>.ret d H
 |(c,h)::r,d,H=>(It h c d H).bind2 fun d H=>zl r d H
theorem nc(hs:List (Nat×List (Nat×Hk)))(dst:Option Tmp)(x:LD)(H:DH):fG (qy hs dst x H):=by
 unfold qy
 split
 ·exact .ret _ _
 ·split
  ·exact .ret _ _
  ·split
   ·exact .ret _ _
   ·split
    ·exact(zl _ _ _).bind2 fun _ _=>.ret _ _
    ·exact .none
end Go.AI
set_option linter.all false
noncomputable section
namespace Go.AI
theorem EG(x:V)(r:List V)(i:Nat)(t:T V):jA (x::r) i t id=jA r (i+1) (putD t (some i) x) id:=by
 simp only[jA,T.setK_eq];rfl
theorem Cw(t:T V)(d i:Nat)(v:V):(putD t (some d) v).get (et i)=if d=i then some v else t.get (et i):=by
 rw[Cx];simp
theorem gz(P:Program)(s:S)(ty:TypeId)(a:Ad):ig P s ty (some (.ptr a))=bg s (loadVar P s ty a):=rfl
theorem tf(P:Program)(s:S)(ty:TypeId)(a:Ad)(v:V):qE P s ty (some (.ptr a)) (some v)=El (storeVar P s ty a v):=rfl
end Go.AI
set_option linter.all false
noncomputable section
namespace Go.AI
def WF(s:S):Prop:=∀ f B,s.get f=some B->f<s.next
structure Fw(F:List Nat)(s s':S):Prop where
 keep:∀ g B,g∉F->s.get g=some B->s'.get g=some B
 ro:∀ g vs,s.get g=some (.ro vs)->s'.get g=some (.ro vs)
 next:s.next<=s'.next
 wf:WF s->WF s'
theorem Fw.alloc(F:List Nat){s:S}(hw:WF s)(B:dB):Fw F s (s.alloc B):=by
 refine⟨fun g C _ hg=>?_,fun g vs hg=>?_,by rw[S.next_alloc];omega,fun _ g C hg=>?_⟩
 ·rw[S.get_alloc,if_neg (by have:=hw g C hg;omega)];exact hg
 ·rw[S.get_alloc,if_neg (by have:=hw g _ hg;omega)];exact hg
 ·rw[S.get_alloc]at hg
  rw[S.next_alloc]
  split at hg
  ·omega
  ·have:=hw g C hg;omega
section
variable{s:S}{f:Nat}{e:TypeId}{sb:Bool}{nv:Nat}{cs:List V}
theorem nR(c:Nat):Nat.ble 0 c=true:=Nat.ble_eq_true_of_le (Nat.zero_le c)
theorem Uz(h:s.get f=some (.cells e sb nv [⟨0,0,cs⟩]))(c n:Nat):loadCells s ⟨f,0,c⟩ n=aN n (cs.drop c):=by
 simp_all[loadCells,be,nR]
theorem Jl(h:s.get f=some (.cells e sb nv [⟨0,0,cs⟩]))(c:Nat)(new:List V)(h1:new.all V.one=true){cs':List V}(h2:bQ cs c new=some cs'):storeCells s ⟨f,0,c⟩ new=some (s.put f (.cells e sb nv [⟨0,0,cs'⟩])):=by
 unfold storeCells;rw[h];simp[be,h1,h2,nR]
end
theorem fZ(s:S)(B:dB):(s.alloc B).get s.next=some B:=by rw[S.get_alloc,if_pos rfl]
theorem FE(n:Int)(h:-9223372036854775808<=n/\n<=9223372036854775807):IntKind.i64.wrap n=n:=IntWalk.i64_in n h
theorem cR:∀(l:List V) (n:Nat),l.length=n->aN n l=some l
 |[],0,_=>rfl
 |[],_+1,h=>by simp at h
 |_::_,0,h=>by simp at h
 |x::l,n+1,h=>by simp[aN,cR l n (by simpa using h)]
end Go.AI
set_option linter.all false
noncomputable section
namespace Go.AI
structure Gh where
 O:List (Option (Nat×Nat))
 H:DH
 Pv:List Nat
 s:S
def Gh.Imm(g:Gh)(f:Nat):Prop:=f<g.s.next/\f∉g.Pv/\∀(o v:Nat),g.O[o]? = some (some (f,v))->∃ sz cap l,g.H[o]? = some (DB.buf sz false cap l)
def aH(vs:List V):Prop:=vs.all V.one=true
def Fg(cap:Bool)(n:Nat):Option Nat:=bif cap then some n else none
def xQ(g:Gh)(o:Nat):Prop:=∃ z s l,g.H[o]? = some (DB.tbuf z s l)
def Uk(sz n:Nat)(v:V):Prop:=(n=0/\(v=.nilslice\/∃ a z sz',v=.slice a z 0 (some 0) sz'))\/∃ a z c,v=.slice a z n c sz
def LI(g:Gh)(sz o n:Nat)(v:V):Prop:=(xQ g o/\Uk sz n v)\/∃ st cap l,g.H[o]? = some (DB.buf sz st cap l)/\n<=l.length /\
 ((n=0/\(v=.nilslice\/∃ a z sz',v=.slice a z 0 (some 0) sz'))\/(0<n/\∃ f ver ver' cap',g.O[o]? = some (some (f,ver))/\v=.slice ⟨f,ver',0⟩ 0 n cap' sz/\(n=l.length->ver'=ver/\cap'=Fg cap n)))
mutual
def RD(g:Gh):D->V->Prop
 |.bool b,v=>v=.bool b
 |.int k n,v=>v=.int k n
 |.str l,v=>v=.str l/\∀ c∈l,c<256
 |.ptr o c,v=>∃ f ver,g.O[o]? = some (some (f,ver))/\v=.ptr ⟨f,0,c⟩
 |.eptr cs c,v=>∃ a vs,v=.ptr (bF a c)/\g.Imm a.f/\loadCells g.s a cs.length=some vs/\RL g cs vs/\aH vs
 |.tptr o s i c,v=>∃ f ver sz s' l ver',g.O[o]? = some (some (f,ver))/\g.H[o]? = some (DB.tbuf sz s' l)/\s<=s'/\v=.ptr ⟨f,ver',i*sz+c⟩/\(s=s'->i<l.length/\ver'=ver)
 |.tb sz o s k,v=>∃ f ver s' l ver',g.O[o]? = some (some (f,ver))/\g.H[o]? = some (DB.tbuf sz s' l)/\s<=s'/\v=.slice ⟨f,ver',0⟩ 0 k none sz/\(s=s'->k=l.length/\ver'=ver)
 |.bptr o n i c,v=>(xQ g o/\∃ a,v=.ptr a)\/∃ f ver sz st cap l ver',g.O[o]? = some (some (f,ver))/\g.H[o]? = some (DB.buf sz st cap l)/\n<=l.length/\i<n/\v=.ptr ⟨f,ver',i*sz+c⟩/\(n=l.length->ver'=ver)
 |.nilptr,v=>v=.nilptr
 |.row sz l,v=>(l=[]/\v=.nilslice)\/(l=[]/\∃ a z sz',v=.slice a z 0 (some 0) sz') \/
  ∃ a z cap,v=.slice a z l.length cap sz/\0<sz/\(cap.isSome=true\/z=a.c)/\(∀ c,cap=some c->l.length<=c)/\(l≠[]->g.Imm a.f)/\RR g a sz l
 |.buf sz o n,v=>LI g sz o n v
 |.nilrow,v=>v=.nilslice\/∃ a z sz,v=.slice a z 0 (some 0) sz
 |.nilx,v=>v=.nilslice
 |.map o,v=>∃ f ver,g.O[o]? = some (some (f,ver))/\v=.map f
 |.nilmap,v=>v=.nilmap
 |.func fn a b,v=>∃ a' b',v=.func (.func fn) a' b'/\RL g a a'/\RL g b b'
 |.nilFunc,v=>v=.nilFunc
 |.iface t d,v=>∃ v',v=.iface t v'/\RD g d v'
 |.nilIface,v=>v=.nilIface
 |.yld o,v=>∃ f ver,g.O[o]? = some (some (f,ver))/\v=.func (.yield f) [] []
 |.abool,v=>∃ q,v=.bool q
 |.agg cs,v=>∃ vs,v=.agg vs/\RL g cs vs/\aH vs
 |.tuple ds,v=>∃ vs,v=.tuple vs/\RL g ds vs
def RL(g:Gh):List D->List V->Prop
 |[],vs=>vs=[]
 |d::r,vs=>∃ v vs',vs=v::vs'/\RD g d v/\RL g r vs'
def RR(g:Gh)(a:Ad)(sz:Nat):List (List D)->Prop
 |[]=>True
 |cs::r=>(∃ vs,cs.length=sz/\loadCells g.s a sz=some vs/\RL g cs vs/\aH vs)/\RR g (bF a sz) sz r
end
theorem wU(a:Ad)(m n:Nat):bF (bF a m) n=bF a (m+n):=by simp only[bF,Nat.add_assoc]
theorem Lu(a:Ad)(m:Nat):(bF a m).f=a.f:=rfl
structure lY(g g':Gh):Prop where
 hl:g.H.length<=g'.H.length
 o1:∀(o f v:Nat),g.O[o]? = some (some (f,v))->∃ v',g'.O[o]? = some (some (f,v'))
 buf:∀(o:Nat) sz st cap l,g.H[o]? = some (DB.buf sz st cap l)->xQ g' o\/∃ st' cap' l',g'.H[o]? = some (DB.buf sz st' cap' l')/\l.length<=l'.length/\(st=false->st'=false)/\(l.length=l'.length->cap'=cap/\g'.O[o]? = g.O[o]?)
 tb:∀(o:Nat) sz s l,g.H[o]? = some (DB.tbuf sz s l)->∃ s' l',g'.H[o]? = some (DB.tbuf sz s' l')/\s<=s'/\(s=s'->l'.length=l.length/\g'.O[o]? = g.O[o]?)
 imm:∀ f,g.Imm f->g'.Imm f
 cells:∀ a n vs,g.Imm a.f->loadCells g.s a n=some vs->loadCells g'.s a n=some vs
 next:g.s.next<=g'.s.next
theorem lY.refl(g:Gh):lY g g:=⟨Nat.le_refl _,fun _ _ v h=>⟨v,h⟩,fun _ _ st cap l h=>.inr ⟨st,cap,l,h,Nat.le_refl _,id,fun _=>⟨rfl,rfl⟩⟩,fun _ _ s l h=>⟨s,l,h,Nat.le_refl _,fun _=>⟨rfl,rfl⟩⟩,fun _ h=>h,fun _ _ _ _ h=>h,Nat.le_refl _⟩
theorem lY.trans{a b c:Gh}(h:lY a b)(k:lY b c):lY a c:=by
 refine⟨Nat.le_trans h.hl k.hl,fun o f v ho=>?_,fun o sz st cap l ho=>?_,fun o sz s l ho=>?_,fun f hf=>k.imm f (h.imm f hf),fun x n vs hi hx=>k.cells x n vs (h.imm _ hi) (h.cells x n vs hi hx),Nat.le_trans h.next k.next⟩
 ·obtain⟨v',h1⟩:=h.o1 o f v ho;exact k.o1 o f v' h1
 ·rcases h.buf o sz st cap l ho with⟨z,s,l',h1⟩|⟨st',cap',l',h1,h2,h3,h4⟩
  ·obtain⟨s2,l2,k1,_⟩:=k.tb o z s l' h1
   exact .inl ⟨z,s2,l2,k1⟩
  ·rcases k.buf o sz st' cap' l' h1 with k1|⟨st2,cap2,l2,k1,k2,k3,k4⟩
   ·exact .inl k1
   ·exact .inr (by grind)
 ·obtain⟨s1,l1,h1,h2,h3⟩:=h.tb o sz s l ho
  obtain⟨s2,l2,k1,k2,k3⟩:=k.tb o sz s1 l1 h1
  exact⟨s2,l2,k1,Nat.le_trans h2 k2,fun e=>by grind⟩
theorem xQ.mono{g g':Gh}(h:lY g g'){o:Nat}(r:xQ g o):xQ g' o:=by
 obtain⟨z,s,l,h1⟩:=r
 obtain⟨s',l',k1,_⟩:=h.tb o z s l h1
 exact⟨z,s',l',k1⟩
theorem LI.mono{g g':Gh}(h:lY g g'){sz o n:Nat}{v:V}(r:LI g sz o n v):LI g' sz o n v:=by
 rcases r with⟨r,r2⟩|⟨st,cap,l,h1,h2,h3⟩
 ·exact .inl ⟨r.mono h,r2⟩
 rcases h.buf o sz st cap l h1 with k1|⟨st',cap',l',k1,k2,k3,k4⟩
 ·refine .inl ⟨k1,?_⟩
  rcases h3 with h3|⟨h3,f,ver,ver',c,h4,h5,h6⟩
  ·exact .inl h3
  ·exact .inr ⟨_,_,_,h5⟩
 refine .inr ⟨st',cap',l',k1,Nat.le_trans h2 k2,?_⟩
 rcases h3 with h3|⟨h3,f,ver,ver',c,h4,h5,h6⟩
 ·exact .inl h3
 ·obtain⟨v2,h7⟩:=h.o1 o f ver h4
  refine .inr ⟨h3,f,v2,ver',c,h7,h5,fun e=>?_⟩
  grind
mutual
theorem RD.mono{g g':Gh}(h:lY g g'):∀ {d:D} {v:V},RD g d v->RD g' d v
 |.bool _,_,r=>by simpa only[RD]using r
 |.int ..,_,r=>by simpa only[RD]using r
 |.str _,_,r=>by simpa only[RD]using r
 |.ptr o c,v,r=>by
  simp only[RD]at r ⊢
  obtain⟨f,ver,h1,h2⟩:=r
  obtain⟨v',h3⟩:=h.o1 o f ver h1
  grind
 |.eptr cs c,v,r=>by
  simp only[RD]at r ⊢
  obtain⟨a,vs,h1,h2,h3,h4,h5⟩:=r
  exact⟨a,vs,h1,h.imm _ h2,h.cells _ _ _ h2 h3,RL.mono h h4,h5⟩
 |.bptr o n i c,v,r=>by
  simp only[RD]at r ⊢
  rcases r with⟨r,r2⟩|⟨f,ver,sz,st,cap,l,ver',h1,h2,h3,h4,h5,h6⟩
  ·exact .inl ⟨r.mono h,r2⟩
  rcases h.buf o sz st cap l h2 with k1|⟨st',cap',l',k1,k2,k3,k4⟩
  ·exact .inl ⟨k1,_,h5⟩
  obtain⟨v2,h7⟩:=h.o1 o f ver h1
  exact .inr (by grind)
 |.tptr o s i c,v,r=>by
  simp only[RD]at r ⊢
  obtain⟨f,ver,sz,s',l,ver',h1,h2,h3,h4,h5⟩:=r
  obtain⟨s2,l2,k1,k2,k3⟩:=h.tb o sz s' l h2
  obtain⟨v2,h7⟩:=h.o1 o f ver h1
  exact⟨f,v2,sz,s2,l2,ver',h7,k1,Nat.le_trans h3 k2,h4,fun e=>by grind⟩
 |.tb sz o s k,v,r=>by
  simp only[RD]at r ⊢
  obtain⟨f,ver,s',l,ver',h1,h2,h3,h4,h5⟩:=r
  obtain⟨s2,l2,k1,k2,k3⟩:=h.tb o sz s' l h2
  obtain⟨v2,h7⟩:=h.o1 o f ver h1
  exact⟨f,v2,s2,l2,ver',h7,k1,Nat.le_trans h3 k2,h4,fun e=>by grind⟩
 |.nilptr,_,r=>by simpa only[RD]using r
 |.row sz l,v,r=>by
  simp only[RD]at r ⊢
  rcases r with r|r|⟨a,z,cap,h1,h2,h3,h4,h5,h6⟩
  ·exact .inl r
  ·grind
  ·refine .inr (.inr ⟨a,z,cap,h1,h2,h3,h4,fun e=>h.imm _ (h5 e),?_⟩)
   cases hl:l with
   |nil=>simp only[RR]
   |cons x y=>rw[<- hl];exact RR.mono h (h5 (by rw[hl];simp)) h6
 |.buf sz o n,v,r=>by
  simp only[RD]at r ⊢
  exact r.mono h
 |.nilrow,_,r=>by simpa only[RD]using r
 |.nilx,_,r=>by simpa only[RD]using r
 |.map o,v,r=>by
  simp only[RD]at r ⊢
  obtain⟨f,ver,h1,h2⟩:=r
  obtain⟨v',h3⟩:=h.o1 o f ver h1
  grind
 |.nilmap,_,r=>by simpa only[RD]using r
 |.func fn a b,v,r=>by
  simp only[RD]at r ⊢
  obtain⟨a',b',h1,h2,h3⟩:=r
  exact⟨a',b',h1,RL.mono h h2,RL.mono h h3⟩
 |.nilFunc,_,r=>by simpa only[RD]using r
 |.iface t d,v,r=>by
  simp only[RD]at r ⊢
  obtain⟨v',h1,h2⟩:=r
  exact⟨v',h1,RD.mono h h2⟩
 |.nilIface,_,r=>by simpa only[RD]using r
 |.yld o,v,r=>by
  simp only[RD]at r ⊢
  obtain⟨f,ver,h1,h2⟩:=r
  obtain⟨v',h3⟩:=h.o1 o f ver h1
  grind
 |.abool,_,r=>by simpa only[RD]using r
 |.agg cs,v,r=>by
  simp only[RD]at r ⊢
  obtain⟨vs,h1,h2,h3⟩:=r
  exact⟨vs,h1,RL.mono h h2,h3⟩
 |.tuple ds,v,r=>by
  simp only[RD]at r ⊢
  obtain⟨vs,h1,h2⟩:=r
  exact⟨vs,h1,RL.mono h h2⟩
theorem RL.mono{g g':Gh}(h:lY g g'):∀ {ds:List D} {vs:List V},RL g ds vs->RL g' ds vs
 |[],_,r=>by simpa only[RL]using r
 |d::l,vs,r=>by
  simp only[RL]at r ⊢
  obtain⟨v,vs',h1,h2,h3⟩:=r
  exact⟨v,vs',h1,RD.mono h h2,RL.mono h h3⟩
theorem RR.mono{g g':Gh}(h:lY g g'):∀ {l:List (List D)} {a:Ad} {sz:Nat},g.Imm a.f->RR g a sz l->RR g' a sz l
 |[],_,_,_,_=>by simp only[RR]
 |cs::l,a,sz,hi,r=>by
  simp only[RR]at r ⊢
  obtain⟨⟨vs,h1,h2,h3,h4⟩,h5⟩:=r
  exact⟨⟨vs,h1,h.cells _ _ _ hi h2,RL.mono h h3,h4⟩,RR.mono h (by rw[Lu];exact hi) h5⟩
end
theorem RL.len{g:Gh}:∀ {ds:List D} {vs:List V},RL g ds vs->vs.length=ds.length
 |[],_,r=>by simp only[RL]at r;rw[r];rfl
 |d::l,_,r=>by
  simp only[RL]at r
  obtain⟨v,vs',rfl,_,h3⟩:=r
  simp only[List.length_cons,RL.len h3]
theorem RL.at{g:Gh}:∀ {ds:List D} {vs:List V} {i:Nat} {d:D},RL g ds vs->ds[i]? = some d->∃ v,vs[i]? = some v/\RD g d v
 |[],_,i,d,r,h=>by simp at h
 |x::l,_,i,d,r,h=>by
  simp only[RL]at r
  obtain⟨v,vs',rfl,h2,h3⟩:=r
  cases i with
  |zero=>simp at h;subst h;exact⟨v,rfl,h2⟩
  |succ i=>simpa using RL.at h3 (by simpa using h)
theorem RL.append{g:Gh}:∀ {a:List D} {x:List V} {b:List D} {y:List V},RL g a x->RL g b y->RL g (a++b) (x++y)
 |[],_,b,y,h,k=>by simp only[RL]at h;subst h;exact k
 |d::l,_,b,y,h,k=>by
  simp only[RL]at h
  obtain⟨v,vs',rfl,h2,h3⟩:=h
  simp only[List.cons_append,RL]
  exact⟨v,vs'++y,rfl,h2,RL.append h3 k⟩
theorem RL.drop{g:Gh}:∀ {a:List D} {x:List V} (n:Nat),RL g a x->RL g (a.drop n) (x.drop n)
 |a,x,0,h=>h
 |[],_,n+1,h=>by simp only[RL]at h;subst h;simp[RL]
 |d::l,_,n+1,h=>by
  simp only[RL]at h
  obtain⟨v,vs',rfl,_,h3⟩:=h
  simp_all[RL.drop]
theorem RL.take{g:Gh}:∀ {a:List D} {x:List V} (n:Nat),RL g a x->RL g (a.take n) (x.take n)
 |a,x,0,h=>by simp[RL]
 |[],_,n+1,h=>by simp only[RL]at h;subst h;simp[RL]
 |d::l,_,n+1,h=>by
  simp only[RL]at h
  obtain⟨v,vs',rfl,h2,h3⟩:=h
  simp only[List.take_succ_cons,RL]
  exact⟨v,_,rfl,h2,RL.take n h3⟩
theorem RL.set{g:Gh}:∀ {a:List D} {x:List V} (i:Nat) {d:D} {v:V},RL g a x->RD g d v->RL g (a.set i d) (x.set i v)
 |[],_,i,d,v,h,k=>by simp only[RL]at h;subst h;simp[RL]
 |y::l,_,0,d,v,h,k=>by
  grind [RL]
 |y::l,_,i+1,d,v,h,k=>by
  simp only[RL]at h
  obtain⟨w,vs',rfl,h2,h3⟩:=h
  simp only[List.set_cons_succ,RL]
  exact⟨w,_,rfl,h2,RL.set i h3 k⟩
theorem RR.at{g:Gh}:∀ {l:List (List D)} {a:Ad} {sz i:Nat} {cs:List D},RR g a sz l->l[i]? = some cs->∃ vs,cs.length=sz/\loadCells g.s (bF a (i*sz)) sz=some vs/\RL g cs vs/\aH vs
 |[],_,_,_,_,_,h=>by simp at h
 |x::l,a,sz,i,cs,r,h=>by
  simp only[RR]at r
  cases i with
  |zero=>simp at h;subst h;rw[Nat.zero_mul];exact r.1
  |succ i =>
   have:=RR.at r.2 (i:=i) (by simpa using h)
   simp_all[wU,Nat.add_mul,Nat.one_mul,Nat.add_comm]
theorem RR.of{g:Gh}:∀ {l:List (List D)} {a:Ad} {sz:Nat},(∀ i cs,l[i]? = some cs->∃ vs,cs.length=sz/\loadCells g.s (bF a (i*sz)) sz=some vs/\RL g cs vs/\aH vs)->RR g a sz l
 |[],_,_,_=>by simp only[RR]
 |x::l,a,sz,h=>by
  simp only[RR]
  refine⟨?_,RR.of fun i cs hx=>?_⟩
  ·have:=h 0 x rfl;rw[Nat.zero_mul]at this;exact this
  ·rw[wU,show sz+i*sz=(i+1)*sz by rw[Nat.add_mul,Nat.one_mul,Nat.add_comm]]
   exact h (i+1) cs (by simpa using hx)
def RS(g:Gh)(LO:List Nat):LD->V->Prop
 |.g d,v=>RD g d v
 |.lp k c,v=>∃ f,LO[k]? = some f/\v=.ptr ⟨f,0,c⟩
 |.u,v=>v=V.undef
theorem RS.mono{g g':Gh}(h:lY g g'){LO:List Nat}{x:LD}{v:V}(r:RS g LO x v):RS g' LO x v:=by
 cases x with
 |g d=>exact RD.mono h r
 |lp k c=>exact r
 |u=>exact r
theorem RS.ext{g:Gh}{LO LO':List Nat}(h:LO <+: LO'){x:LD}{v:V}(r:RS g LO x v):RS g LO' x v:=by
 cases x with
 |g d=>exact r
 |lp k c =>
  obtain⟨f,h1,h2⟩:=r
  obtain⟨m,rfl⟩:=h
  refine⟨f,?_,h2⟩
  grind
 |u=>exact r
def xP(g:Gh)(LO:List Nat)(t:T LD)(tv:T V):Prop:=∀ i x,t.get (et i)=some x->∃ v,tv.get (et i)=some v/\RS g LO x v
theorem xP.mono{g g':Gh}(h:lY g g'){LO LO':List Nat}(hl:LO <+: LO'){t:T LD}{tv:T V}(r:xP g LO t tv):xP g' LO' t tv:=fun i x hx=>by
 obtain⟨v,h1,h2⟩:=r i x hx
 exact⟨v,h1,(h2.mono h).ext hl⟩
def UR(g:Gh)(x:Nat×List D)(f:Nat):Prop:=f∈g.Pv/\(x.2=[]\/∃ el vs,g.s.get f=some (.cells el false 1 [⟨0,0,vs⟩])/\RL g x.2 vs/\aH vs)
def QP(g:Gh)(L:LS)(LO:List Nat):Prop:=∀(k:Nat) x f,L[k]? = some x->LO[k]? = some f->UR g x f
def LR(g:Gh)(L:LS)(LO:List Nat):Prop:=L.length=LO.length/\QP g L LO
def pu(g:Gh):List (D×D)->List nT->Prop
 |[],es=>es=[]
 |(k,v)::r,es=>∃ e es',es=e::es'/\RD g k e.key/\RD g v e.val/\e.key.one=true/\pu g r es'
theorem pu.mono{g g':Gh}(h:lY g g'):∀ {l:List (D×D)} {es:List nT},pu g l es->pu g' l es
 |[],_,r=>r
 |(k,v)::l,_,r=>by
  obtain⟨e,es',h1,h2,h3,h4,h5⟩:=r
  exact⟨e,es',h1,RD.mono h h2,RD.mono h h3,h4,pu.mono h h5⟩
def jj(g:Gh)(o:Nat):DB->Prop
 |.dead=>False
 |.opq=>∃ f v,g.O[o]? = some (some (f,v))
 |.coll=>∃ f,g.O[o]? = some (some (f,0))/\g.s.get f=some .deferred
 |.loop rdy fn nt t ps a b=>∃ f tv d,g.O[o]? = some (some (f,0))/\g.s.get f=some (.loop (bif rdy then .ready else .busy) none fn tv ps a b d nt)/\xP g [] t tv
 |.cells _ cs=>∃ f el vs,g.O[o]? = some (some (f,0))/\g.s.get f=some (.cells el false 1 [⟨0,0,vs⟩])/\RL g cs vs/\aH vs
 |.map es=>∃ f ents clock,g.O[o]? = some (some (f,0))/\g.s.get f=some (.map ents clock)/\pu g es ents
 |.buf sz _ _ l=>0<sz/\((l=[]/\g.O[o]? = some none)\/(l≠[]/\∃ f ver el nv vers cells,g.O[o]? = some (some (f,ver))/\g.s.get f=some (.cells el false nv vers) /\
  be vers ver=some ⟨ver,0,cells⟩/\cells.length=l.length*sz/\(∀ u∈vers,u.v<nv/\u.lo+u.cells.length<=cells.length)/\RR g ⟨f,ver,0⟩ sz l))
 |.tbuf sz _ l=>0<sz/\∃ f ver el nv vers cells,g.O[o]? = some (some (f,ver))/\g.s.get f=some (.cells el false nv vers) /\
  be vers ver=some ⟨ver,0,cells⟩/\l.length*sz<=cells.length/\(∀ u∈vers,u.v<nv)/\RR g ⟨f,ver,0⟩ sz l
class fj where
 I:S->Prop
 bl:List Nat
 stb:∀ s s':S,(∀ f∈bl,s'.get f=s.get f)->I s->I s'
variable[fj]
structure Gl(g:Gh):Prop where
 i:fj.I g.s
 b:∀ f∈fj.bl,f<g.s.next/\f∉g.Pv/\∀(o v:Nat),g.O[o]?≠some (some (f,v))
theorem Gl.to{g g':Gh}(h:Gl g)(k:∀ f,f<g.s.next->f∉g.Pv->(∀(o v:Nat),g.O[o]?≠some (some (f,v)))->g'.s.get f=g.s.get f/\f<g'.s.next/\f∉g'.Pv/\∀(o v:Nat),g'.O[o]?≠some (some (f,v))):Gl g' :=
 ⟨fj.stb _ _ (fun f hf=>(k f (h.b f hf).1 (h.b f hf).2.1 (h.b f hf).2.2).1) h.i,fun f hf=>(k f (h.b f hf).1 (h.b f hf).2.1 (h.b f hf).2.2).2⟩
structure Ok(g:Gh):Prop where
 len:g.O.length=g.H.length
 wf:WF g.s
 inj:∀(o o' f v v':Nat),g.O[o]? = some (some (f,v))->g.O[o']? = some (some (f,v'))->o=o'
 lt:∀(o f v:Nat),g.O[o]? = some (some (f,v))->f<g.s.next/\f∉g.Pv
 pv:∀ f∈g.Pv,f<g.s.next
 obj:∀(o:Nat) b,g.H[o]? = some b->jj g o b
 gl:Gl g
structure Mv(b:Nat)(g g':Gh):Prop where
 le:lY g g'
 out:∀ f,f<b->(∀(o v:Nat),g.O[o]?≠some (some (f,v)))->g'.s.get f=g.s.get f
 fresh:∀(o f v:Nat),g'.O[o]? = some (some (f,v))->f<b->∃ v',g.O[o]? = some (some (f,v'))
 stm:∀(o:Nat) s1 c1 f v,g.H[o]? = some (.cells s1 c1)->g.O[o]? = some (some (f,v))->∃ s2 c2,g'.H[o]? = some (.cells s2 c2)/\s1<=s2/\(s1=s2->c2=c1/\g'.s.get f=g.s.get f)
theorem Mv.refl(b:Nat)(g:Gh):Mv b g g:=⟨.refl g,fun _ _ _=>rfl,fun _ _ v h _=>⟨v,h⟩,fun _ s1 c1 _ _ h _=>⟨s1,c1,h,Nat.le_refl _,fun _=>⟨rfl,rfl⟩⟩⟩
theorem Mv.trans{b:Nat}{x y z:Gh}(h:Mv b x y)(k:Mv b y z):Mv b x z:=by
 refine⟨h.le.trans k.le,fun f hf hn=>?_,fun o f v ho hf=>?_,fun o s1 c1 f v h1 h2=>?_⟩
 ·rw[k.out f hf fun o v e=>?_,h.out f hf hn]
  obtain⟨v',h1⟩:=h.fresh o f v e hf
  grind
 ·obtain⟨v',h1⟩:=k.fresh o f v ho hf
  exact h.fresh o f v' h1 hf
 ·obtain⟨s2,c2,k1,k2,k3⟩:=h.stm o s1 c1 f v h1 h2
  obtain⟨v',k4⟩:=h.le.o1 o f v h2
  obtain⟨s3,c3,j1,j2,j3⟩:=k.stm o s2 c2 f v' k1 k4
  grind
theorem Mv.down{b c:Nat}{g g':Gh}(h:Mv b g g')(hc:c<=b):Mv c g g':=⟨h.le,fun f hf=>h.out f (Nat.lt_of_lt_of_le hf hc),fun o f v ho hf=>h.fresh o f v ho (Nat.lt_of_lt_of_le hf hc),h.stm⟩
structure FI(b:Nat)(P0:List Nat)(g:Gh)(t:T LD)(L:LS)(tv:T V)(LO:List Nat):Prop where
 ok:Ok g
 slots:xP g LO t tv
 own:LR g L LO
 pv:g.Pv=P0++LO
 low:∀ f∈LO,b<=f
 nd:LO.Nodup
 bl:b<=g.s.next
end Go.AI
set_option linter.all false
noncomputable section
namespace Go.AI
variable[fj]
theorem cL{s s':S}{a:Ad}(h:s'.get a.f=s.get a.f)(n:Nat):loadCells s' a n=loadCells s a n:=by
 grind [loadCells]
theorem RR.keep{g g':Gh}(h:lY g g'):∀ {l:List (List D)} {a:Ad} {sz:Nat},g'.s.get a.f=g.s.get a.f->RR g a sz l->RR g' a sz l
 |[],_,_,_,_=>by simp only[RR]
 |cs::l,a,sz,hi,r=>by
  simp only[RR]at r ⊢
  obtain⟨⟨vs,h1,h2,h3,h4⟩,h5⟩:=r
  exact⟨⟨vs,h1,by rw[cL hi];exact h2,RL.mono h h3,h4⟩,RR.keep h (by rw[Lu];exact hi) h5⟩
theorem jj.keep{g g':Gh}(h:lY g g'){o:Nat}{b:DB}(hO:g'.O[o]? = g.O[o]?)(hs:∀ f v,g.O[o]? = some (some (f,v))->g'.s.get f=g.s.get f)(r:jj g o b):jj g' o b:=by
 cases b with
 |dead=>exact r
 |opq=>obtain⟨f,v,h1⟩:=r;exact⟨f,v,by rw[hO];exact h1⟩
 |coll=>obtain⟨f,h1,h2⟩:=r;exact⟨f,by rw[hO];exact h1,by rw[hs f 0 h1];exact h2⟩
 |loop _ _ _ _ _ _ _=>obtain⟨f,tv,d,h1,h2,h3⟩:=r;exact⟨f,tv,d,by rw[hO];exact h1,by rw[hs f 0 h1];exact h2,h3.mono h List.prefix_rfl⟩
 |cells st cs =>
  obtain⟨f,el,vs,h1,h2,h3,h4⟩:=r
  exact⟨f,el,vs,by rw[hO];exact h1,by rw[hs f 0 h1];exact h2,h3.mono h,h4⟩
 |map es =>
  obtain⟨f,ents,c,h1,h2,h3⟩:=r
  exact⟨f,ents,c,by rw[hO];exact h1,by rw[hs f 0 h1];exact h2,h3.mono h⟩
 |buf sz st cap l =>
  obtain⟨h0,h1|⟨h1,f,ver,el,nv,vers,cells,h2,h3,h4,h5,h6,h7⟩⟩:=r
  ·exact⟨h0,.inl ⟨h1.1,by rw[hO];exact h1.2⟩⟩
  ·exact⟨h0,.inr ⟨h1,f,ver,el,nv,vers,cells,by rw[hO];exact h2,by rw[hs f ver h2];exact h3,h4,h5,h6,h7.keep h (hs f ver h2)⟩⟩
 |tbuf sz s l =>
  obtain⟨h0,f,ver,el,nv,vers,cells,h2,h3,h4,h5,h6,h7⟩:=r
  exact⟨h0,f,ver,el,nv,vers,cells,by rw[hO];exact h2,by rw[hs f ver h2];exact h3,h4,h5,h6,h7.keep h (hs f ver h2)⟩
theorem LR.keep{g g':Gh}(h:lY g g'){L:LS}{LO:List Nat}(hp:∀ f∈LO,f∈g'.Pv)(hs:∀ f∈LO,g'.s.get f=g.s.get f)(r:LR g L LO):LR g' L LO:=by
 refine⟨r.1,fun k x f hx hf=>?_⟩
 have hm:=List.mem_of_getElem? hf
 obtain⟨h1,h2⟩:=r.2 k x f hx hf
 refine⟨hp f hm,?_⟩
 rcases h2 with h2|⟨el,vs,h2,h3,h4⟩
 ·exact .inl h2
 ·exact .inr ⟨el,vs,by rw[hs f hm];exact h2,h3.mono h,h4⟩
theorem aG{s:S}{B:dB}{f:Nat}(h:f<s.next):(s.alloc B).get f=s.get f:=by rw[S.get_alloc,if_neg (by omega)]
theorem qV{s:S}{B:dB}{f:Nat}(h:f<s.next):f<(s.alloc B).next:=by rw[S.next_alloc];omega
theorem pz{s:S}(hw:WF s)(B:dB):WF (s.alloc B):=(Fw.alloc [] hw B).wf hw
theorem IR{s:S}(hw:WF s){f:Nat}{B0:dB}(h0:s.get f=some B0)(B:dB):WF (s.put f B):=fun g C hg=>by
 rw[S.get_put]at hg
 rw[S.next_put]
 split at hg
 ·rename_i e;subst e;exact hw _ _ h0
 ·exact hw g C hg
theorem gP{α:Type}(l:List α)(x:α):(l++[x])[l.length]? = some x:=by simp
theorem dT{α:Type}{l:List α}{i:Nat}{x:α}(m:List α)(h:l[i]? = some x):(l++m)[i]? = some x:=by
 grind
theorem ba{α:Type}{l:List α}{i:Nat}{x y:α}(h:(l++[y])[i]? = some x):l[i]? = some x\/(i=l.length/\x=y):=by
 grind
section
variable{b:Nat}{P0:List Nat}{g:Gh}{t:T LD}{L:LS}{tv:T V}{LO:List Nat}
def Gh.blk(g:Gh)(B:dB):Gh:=⟨g.O,g.H,g.Pv,g.s.alloc B⟩
theorem MX(B:dB){f:Nat}(h:g.Imm f):(g.blk B).Imm f:=⟨by show f<(g.s.alloc B).next;rw[S.next_alloc];have:=h.1;omega,h.2.1,h.2.2⟩
theorem EB(B:dB):lY g (g.blk B):=by
 refine⟨Nat.le_refl _,fun _ _ v h=>⟨v,h⟩,fun _ _ st cap l h=>.inr ⟨st,cap,l,h,Nat.le_refl _,id,fun _=>⟨rfl,rfl⟩⟩,fun _ _ s l h=>⟨s,l,h,Nat.le_refl _,fun _=>⟨rfl,rfl⟩⟩,fun f h=>MX B h,fun a n vs hi hx=>?_,by show _<=(g.s.alloc B).next;rw[S.next_alloc];omega⟩
 rw[<- hx];exact cL (aG hi.1) n
theorem Ok.blk(h:Ok g)(B:dB):Ok (g.blk B):=by
 refine⟨h.len,pz h.wf B,h.inj,fun o f v ho=>⟨?_,(h.lt o f v ho).2⟩,fun f hf=>?_,fun o b hb=>(h.obj o b hb).keep (EB B) rfl fun f v ho=>aG (h.lt o f v ho).1,h.gl.to fun f hf hp ho=>⟨aG hf,qV hf,hp,ho⟩⟩
 ·have:=(h.lt o f v ho).1;show f<(g.s.alloc B).next;rw[S.next_alloc];omega
 ·have:=h.pv f hf;show f<(g.s.alloc B).next;rw[S.next_alloc];omega
theorem Eu(h:Ok g)(hb:b<=g.s.next)(B:dB):Mv b g (g.blk B):=⟨EB B,fun f hf _=>aG (Nat.lt_of_lt_of_le hf hb),fun _ _ v h _=>⟨v,h⟩,fun o s1 c1 f v h1 h2=>⟨s1,c1,h1,Nat.le_refl _,fun _=>⟨rfl,aG (h.lt o f v h2).1⟩⟩⟩
theorem FI.to(h:FI b P0 g t L tv LO){g':Gh}(hok:Ok g')(hm:Mv b g g')(hp:g'.Pv=g.Pv)(hs:∀ f∈LO,g'.s.get f=g.s.get f):FI b P0 g' t L tv LO :=
 ⟨hok,h.slots.mono hm.le List.prefix_rfl,h.own.keep hm.le (fun f hf=>by rw[hp,h.pv];exact List.mem_append_right _ hf) hs,by rw[hp];exact h.pv,h.low,h.nd,Nat.le_trans h.bl hm.le.next⟩
theorem FI.lo_lt(h:FI b P0 g t L tv LO){f:Nat}(hf:f∈LO):f<g.s.next:=h.ok.pv f (by rw[h.pv];exact List.mem_append_right _ hf)
theorem FI.lo_out(h:FI b P0 g t L tv LO){f:Nat}(hf:f∈LO)(o v:Nat):g.O[o]?≠some (some (f,v)):=fun e=>(h.ok.lt o f v e).2 (by rw[h.pv];exact List.mem_append_right _ hf)
theorem FI.blk(h:FI b P0 g t L tv LO)(B:dB):FI b P0 (g.blk B) t L tv LO:=h.to (h.ok.blk B) (Eu h.ok h.bl B) rfl fun _ hf=>aG (h.lo_lt hf)
def Gh.obj(g:Gh)(x:DB)(B:dB):Gh:=⟨g.O++[some (g.s.next,0)],g.H++[x],g.Pv,g.s.alloc B⟩
theorem MW(hl:g.O.length=g.H.length)(x:DB)(B:dB){f:Nat}(h:g.Imm f):(g.obj x B).Imm f:=by
 refine⟨by show f<(g.s.alloc B).next;rw[S.next_alloc];have:=h.1;omega,h.2.1,fun o v ho=>?_⟩
 rcases ba ho with ho|⟨_,e⟩
 ·obtain⟨sz,cap,l,h1⟩:=h.2.2 o v ho
  exact⟨sz,cap,l,dT _ h1⟩
 ·simp only[Option.some.injEq,Prod.mk.injEq]at e
  have:=h.1;omega
theorem vG(hl:g.O.length=g.H.length)(x:DB)(B:dB):lY g (g.obj x B):=by
 refine⟨by simp[Gh.obj],fun _ _ v h=>⟨v,dT _ h⟩,fun o _ st cap l h=>.inr ⟨st,cap,l,dT _ h,Nat.le_refl _,id,fun _=>⟨rfl,?_⟩⟩,fun o _ s l h=>⟨s,l,dT _ h,Nat.le_refl _,fun _=>⟨rfl,?_⟩⟩,fun f h=>MW hl x B h,fun a n vs hi hx=>?_,by show _<=(g.s.alloc B).next;rw[S.next_alloc];omega⟩
 ·have:o<g.H.length:=by
   grind
  show(g.O++_)[o]? = _
  grind
 ·have:o<g.H.length:=by
   grind
  show(g.O++_)[o]? = _
  grind
 ·rw[<- hx];exact cL (aG hi.1) n
theorem Ok.mkobj(h:Ok g){x:DB}{B:dB}(hx:jj (g.obj x B) g.H.length x):Ok (g.obj x B):=by
 refine⟨by simp[Gh.obj,h.len],pz h.wf B,fun o o' f v v' h1 h2=>?_,fun o f v ho=>?_,fun f hf=>?_,fun o c hc=>?_,h.gl.to fun f hf hp ho=>⟨aG hf,qV hf,hp,fun o v k=>?_⟩⟩
 ·rcases ba h1 with h1|⟨e1,e2⟩<;>rcases ba h2 with h2|⟨e3,e4⟩
  ·exact h.inj o o' f v v' h1 h2
  ·cases e4;have:=(h.lt o _ v h1).1;omega
  ·cases e2;have:=(h.lt o' _ v' h2).1;omega
  ·omega
 ·rcases ba ho with ho|⟨_,e⟩
  ·exact⟨by have:=(h.lt o f v ho).1;show f<(g.s.alloc B).next;rw[S.next_alloc];omega,(h.lt o f v ho).2⟩
  ·cases e
   exact⟨by show g.s.next<(g.s.alloc B).next;rw[S.next_alloc];omega,fun hp=>by have:=h.pv _ hp;omega⟩
 ·have:=h.pv f hf;show f<(g.s.alloc B).next;rw[S.next_alloc];omega
 ·rcases ba hc with hc|⟨e1,e2⟩
  ·have hlt:o<g.O.length:=by
    rw[h.len]
    grind
   exact(h.obj o c hc).keep (vG h.len x B) (by show(g.O++_)[o]? = _;rw[List.getElem?_append_left hlt]) fun f v ho=>aG (h.lt o f v ho).1
  grind
 ·rcases ba k with k|⟨_,e⟩
  ·exact ho o v k
  grind
theorem oR(h:Ok g)(hb:b<=g.s.next)(x:DB)(B:dB):Mv b g (g.obj x B):=by
 refine⟨vG h.len x B,fun f hf _=>aG (Nat.lt_of_lt_of_le hf hb),fun o f v ho hf=>?_,fun o s1 c1 f v h1 h2=>⟨s1,c1,dT _ h1,Nat.le_refl _,fun _=>⟨rfl,aG (h.lt o f v h2).1⟩⟩⟩
 rcases ba ho with ho|⟨_,e⟩
 ·grind
 grind
theorem FI.mkobj(h:FI b P0 g t L tv LO){x:DB}{B:dB}(hx:jj (g.obj x B) g.H.length x):FI b P0 (g.obj x B) t L tv LO :=
 h.to (h.ok.mkobj hx) (oR h.ok h.bl x B) rfl fun _ hf=>aG (h.lo_lt hf)
theorem mw(h:Ok g)(x:DB)(B:dB):(g.obj x B).O[g.H.length]? = some (some (g.s.next,0)):=by
 show(g.O++_)[_]? = _;rw[<- h.len];exact gP _ _
theorem qe(x:DB)(B:dB):(g.obj x B).s.get g.s.next=some B:=fZ _ _
def Gh.prv(g:Gh)(B:dB):Gh:=⟨g.O,g.H,g.Pv++[g.s.next],g.s.alloc B⟩
theorem Ez(B:dB):lY g (g.prv B):=by
 refine⟨Nat.le_refl _,fun _ _ v h=>⟨v,h⟩,fun _ _ st cap l h=>.inr ⟨st,cap,l,h,Nat.le_refl _,id,fun _=>⟨rfl,rfl⟩⟩,fun _ _ s l h=>⟨s,l,h,Nat.le_refl _,fun _=>⟨rfl,rfl⟩⟩,fun f h=>⟨?_,fun hm=>?_,h.2.2⟩,fun a n vs hi hx=>?_,by show _<=(g.s.alloc B).next;rw[S.next_alloc];omega⟩
 ·show f<(g.s.alloc B).next;rw[S.next_alloc];have:=h.1;omega
 ·rcases List.mem_append.1 hm with hm|hm
  ·exact h.2.1 hm
  ·simp at hm;have:=h.1;omega
 ·rw[<- hx];exact cL (aG hi.1) n
theorem Ok.prv(h:Ok g)(B:dB):Ok (g.prv B):=by
 refine⟨h.len,pz h.wf B,h.inj,fun o f v ho=>⟨?_,fun hm=>?_⟩,fun f hf=>?_,fun o b hb=>(h.obj o b hb).keep (Ez B) rfl fun f v ho=>aG (h.lt o f v ho).1,h.gl.to fun f hf hp ho=>⟨aG hf,qV hf,fun hm=>?_,ho⟩⟩
 ·have:=(h.lt o f v ho).1;show f<(g.s.alloc B).next;rw[S.next_alloc];omega
 ·rcases List.mem_append.1 hm with hm|hm
  ·exact(h.lt o f v ho).2 hm
  ·simp at hm;have:=(h.lt o f v ho).1;omega
 ·show f<(g.s.alloc B).next
  rw[S.next_alloc]
  rcases List.mem_append.1 hf with hf|hf
  ·have:=h.pv f hf;omega
  grind
 ·rcases List.mem_append.1 hm with hm|hm
  ·exact hp hm
  grind
theorem Pg(h:Ok g)(hb:b<=g.s.next)(B:dB):Mv b g (g.prv B):=⟨Ez B,fun f hf _=>aG (Nat.lt_of_lt_of_le hf hb),fun _ _ v h _=>⟨v,h⟩,fun o s1 c1 f v h1 h2=>⟨s1,c1,h1,Nat.le_refl _,fun _=>⟨rfl,aG (h.lt o f v h2).1⟩⟩⟩
theorem FI.prv(h:FI b P0 g t L tv LO){el:TypeId}{cs:List D}{vs:List V}{st:Nat}(hr:RL g cs vs)(ho:aH vs) :
 FI b P0 (g.prv (.cells el false 1 [⟨0,0,vs⟩])) t (L++[(st,cs)]) tv (LO++[g.s.next]):=by
 have hle:=Ez (g:=g) (.cells el false 1 [⟨0,0,vs⟩])
 have hlt:∀ f∈LO,f<g.s.next:=fun f hf=>h.lo_lt hf
 refine⟨h.ok.prv _,h.slots.mono hle (List.prefix_append _ _),⟨by simp[h.own.1],fun k x f hx hf=>?_⟩,by show g.Pv++_=_;rw[h.pv,List.append_assoc],fun f hf=>?_,?_,Nat.le_trans h.bl hle.next⟩
 ·rcases ba hx with hx|⟨e1,e2⟩
  ·rcases ba hf with hf|⟨e3,_⟩
   ·have hm:=List.mem_of_getElem? hf
    obtain⟨h1,h2⟩:=h.own.2 k x f hx hf
    refine⟨List.mem_append_left _ h1,?_⟩
    rcases h2 with h2|⟨el',vs',h2,h3,h4⟩
    ·exact .inl h2
    ·exact .inr ⟨el',vs',by show(g.s.alloc _).get f=_;rw[aG (hlt f hm)];exact h2,h3.mono hle,h4⟩
   ·subst e3
    rw[<- h.own.1,List.getElem?_eq_none (Nat.le_refl _)]at hx;cases hx
  ·subst e1;subst e2
   rw[h.own.1,gP]at hf
   cases hf
   exact⟨List.mem_append_right _ (by simp),.inr ⟨el,vs,fZ _ _,hr.mono hle,ho⟩⟩
 ·rcases List.mem_append.1 hf with hf|hf
  ·exact h.low f hf
  ·simp at hf;subst hf;exact h.bl
 ·rw[List.nodup_append]
  exact⟨h.nd,by simp,fun x hx y hy e=>by simp at hy;subst hy;subst e;have:=hlt _ hx;omega⟩
def Gh.pput(g:Gh)(f:Nat)(B:dB):Gh:=⟨g.O,g.H,g.Pv,g.s.put f B⟩
theorem Aq{f:Nat}(hf:f∈g.Pv)(B:dB):lY g (g.pput f B):=by
 refine⟨Nat.le_refl _,fun _ _ v h=>⟨v,h⟩,fun _ _ st cap l h=>.inr ⟨st,cap,l,h,Nat.le_refl _,id,fun _=>⟨rfl,rfl⟩⟩,fun _ _ s l h=>⟨s,l,h,Nat.le_refl _,fun _=>⟨rfl,rfl⟩⟩,fun f' h=>⟨by show f'<(g.s.put f B).next;rw[S.next_put];exact h.1,h.2.1,h.2.2⟩,fun a n vs hi hx=>?_,by show _<=(g.s.put f B).next;rw[S.next_put];exact Nat.le_refl _⟩
 rw[<- hx]
 exact cL (by show(g.s.put f B).get _=_;rw[S.get_put,if_neg (fun e=>hi.2.1 (by rw[<- e];exact hf))]) n
theorem cq{s:S}{f f':Nat}{B:dB}(h:f≠f'):(s.put f B).get f'=s.get f':=by rw[S.get_put,if_neg h]
theorem dc{s:S}{f:Nat}{B:dB}:(s.put f B).get f=some B:=by rw[S.get_put,if_pos rfl]
theorem Ok.pput(h:Ok g){f:Nat}(hf:f∈g.Pv){B0:dB}(h0:g.s.get f=some B0)(B:dB):Ok (g.pput f B):=by
 refine⟨h.len,IR h.wf h0 B,h.inj,fun o f' v ho=>⟨by show f'<(g.s.put f B).next;rw[S.next_put];exact(h.lt o f' v ho).1,(h.lt o f' v ho).2⟩,fun f' hf'=>by show f'<(g.s.put f B).next;rw[S.next_put];exact h.pv f' hf',fun o b hb=>(h.obj o b hb).keep (Aq hf B) rfl fun f' v ho=>cq fun e=>(h.lt o f' v ho).2 (by rw[<- e];exact hf),h.gl.to fun f' h1 hp ho=>⟨cq fun e=>hp (by rw[<- e];exact hf),by show f'<(g.s.put f B).next;rw[S.next_put];exact h1,hp,ho⟩⟩
theorem My(h:Ok g){f:Nat}(hf:f∈g.Pv)(hb:b<=f)(B:dB):Mv b g (g.pput f B):=⟨Aq hf B,fun f' hf' _=>cq (by omega),fun _ _ v h _=>⟨v,h⟩,fun o s1 c1 f' v h1 h2=>⟨s1,c1,h1,Nat.le_refl _,fun _=>⟨rfl,cq fun e=>(h.lt o f' v h2).2 (by rw[<- e];exact hf)⟩⟩⟩
theorem rM:∀ {l:List Nat} (_:l.Nodup) {i j x:Nat} (_:l[i]? = some x) (_:l[j]? = some x),i=j
 |[],_,i,_,_,h1,_=>by simp at h1
 |y::l,h,i,j,x,h1,h2=>by
  rw[List.nodup_cons]at h
  cases i with
  |zero=>cases j with
   |zero=>rfl
   |succ j =>
    simp only[List.getElem?_cons_zero,Option.some.injEq,List.getElem?_cons_succ]at h1 h2
    subst h1
    exact(h.1 (List.mem_of_getElem? h2)).elim
  |succ i=>cases j with
   |zero =>
    simp only[List.getElem?_cons_zero,Option.some.injEq,List.getElem?_cons_succ]at h1 h2
    subst h2
    exact(h.1 (List.mem_of_getElem? h1)).elim
   |succ j =>
    simp only[List.getElem?_cons_succ]at h1 h2
    rw[rM h.2 h1 h2]
theorem FI.pput(h:FI b P0 g t L tv LO){k f st:Nat}{el:TypeId}{cs:List D}{vs0 vs:List V}(hk:LO[k]? = some f)(h0:g.s.get f=some (.cells el false 1 [⟨0,0,vs0⟩]))(hr:RL g cs vs)(ho:aH vs) :
 FI b P0 (g.pput f (.cells el false 1 [⟨0,0,vs⟩])) t (L.set k (st,cs)) tv LO:=by
 have hm:=List.mem_of_getElem? hk
 have hp:f∈g.Pv:=by rw[h.pv];exact List.mem_append_right _ hm
 have hle:=Aq hp (.cells el false 1 [⟨0,0,vs⟩])
 refine⟨h.ok.pput hp h0 _,h.slots.mono hle List.prefix_rfl,⟨by rw[List.length_set];exact h.own.1,fun k' x f' hx hf'=>?_⟩,h.pv,h.low,h.nd,Nat.le_trans h.bl hle.next⟩
 have hm':=List.mem_of_getElem? hf'
 rw[List.getElem?_set]at hx
 split at hx
 ·rename_i e
  subst e
  rw[hk]at hf'
  cases hf'
  split at hx
  ·cases hx
   exact⟨hp,.inr ⟨el,vs,dc,hr.mono hle,ho⟩⟩
  ·cases hx
 ·rename_i hne
  obtain⟨h1,h2⟩:=h.own.2 k' x f' hx hf'
  refine⟨h1,?_⟩
  rcases h2 with h2|⟨el',vs',h2,h3,h4⟩
  ·exact .inl h2
  ·exact .inr ⟨el',vs',by show(g.s.put f _).get f'=_;rw[cq (fun e=>hne (rM h.nd hk (by rw[e];exact hf')))];exact h2,h3.mono hle,h4⟩
end
end Go.AI
set_option linter.all false
noncomputable section
namespace Go.AI
variable[fj]
theorem dL{α:Type}{l:List α}{i j:Nat}{x y:α}(h:(l.set i x)[j]? = some y):(i=j/\y=x)\/(i≠j/\l[j]? = some y):=by
 grind
theorem aR{α:Type}{l:List α}{i:Nat}{x y:α}(h:l[i]? = some y):(l.set i x)[i]? = some x:=by
 grind
theorem cK{α:Type}{l:List α}{i j:Nat}{x:α}(h:i≠j):(l.set i x)[j]? = l[j]?:=by rw[List.getElem?_set,if_neg h]
def Sk(ver ver':Nat)(x0 x:DB):Prop:=(∀ sz st cap l,x0=.buf sz st cap l->(st=true/\∃ z s l',x=.tbuf z s l')\/∃ st' cap' l',x=.buf sz st' cap' l'/\l.length<=l'.length/\(st=false->st'=false)/\(l.length=l'.length->cap'=cap/\ver'=ver)) /\
 ∀ sz s l,x0=.tbuf sz s l->∃ s' l',x=.tbuf sz s' l'/\s<s'
section
variable{b:Nat}{P0:List Nat}{g:Gh}{t:T LD}{L:LS}{tv:T V}{LO:List Nat}{o f ver ver':Nat}{x0 x:DB}{B0 B:dB}
def Gh.oput(g:Gh)(o:Nat)(x:DB)(f ver':Nat)(B:dB):Gh:=⟨g.O.set o (some (f,ver')),g.H.set o x,g.Pv,g.s.put f B⟩
structure sF(g:Gh)(o:Nat)(x:DB)(f ver ver':Nat)(x0:DB)(B0 B:dB):Prop where
 ho:g.O[o]? = some (some (f,ver))
 hx0:g.H[o]? = some x0
 h0:g.s.get f=some B0
 hb:Sk ver ver' x0 x
 hi:∀ a n vs,g.Imm a.f->a.f=f->loadCells g.s a n=some vs->loadCells (g.s.put f B) a n=some vs
 hst:∀ s1 c1,x0=.cells s1 c1->∃ c2,x=.cells (s1+1) c2
theorem jy(h:Ok g)(c:sF g o x f ver ver' x0 B0 B):lY g (g.oput o x f ver' B):=by
 refine⟨by show _<=(g.H.set o x).length;rw[List.length_set];exact Nat.le_refl _,fun o' f' v h1=>?_,fun o' sz st cap l h1=>?_,fun o' sz s l h1=>?_,fun f' h1=>⟨by show f'<(g.s.put f B).next;rw[S.next_put];exact h1.1,h1.2.1,fun o' v h2=>?_⟩,fun a n vs hi hx=>?_,by show _<=(g.s.put f B).next;rw[S.next_put];exact Nat.le_refl _⟩
 ·by_cases e:o=o'
  ·subst e
   rw[c.ho]at h1;cases h1
   exact⟨ver',aR c.ho⟩
  ·exact⟨v,by show(g.O.set o _)[o']? = _;rw[cK e];exact h1⟩
 ·by_cases e:o=o'
  ·subst e
   rw[c.hx0]at h1;cases h1
   rcases c.hb.1 sz st cap l rfl with⟨_,z,s,l',k1⟩|⟨st',cap',l',k1,k2,k3,k4⟩
   ·exact .inl ⟨z,s,l',by rw[<- k1];exact aR c.hx0⟩
   refine .inr ⟨st',cap',l',by rw[<- k1];exact aR c.hx0,k2,k3,fun e=>?_⟩
   obtain⟨k5,k6⟩:=k4 e
   exact⟨k5,by rw[c.ho,k6];exact aR c.ho⟩
  ·exact .inr ⟨st,cap,l,by show(g.H.set o _)[o']? = _;rw[cK e];exact h1,Nat.le_refl _,id,fun _=>⟨rfl,by show(g.O.set o _)[o']? = _;rw[cK e]⟩⟩
 ·by_cases e:o=o'
  ·subst e
   rw[c.hx0]at h1;cases h1
   obtain⟨s',l',k1,k2⟩:=c.hb.2 sz s l rfl
   exact⟨s',l',by rw[<- k1];exact aR c.hx0,by omega,fun e=>by omega⟩
  ·exact⟨s,l,by show(g.H.set o _)[o']? = _;rw[cK e];exact h1,Nat.le_refl _,fun _=>⟨rfl,by show(g.O.set o _)[o']? = _;rw[cK e]⟩⟩
 ·rcases dL h2 with⟨e,e2⟩|⟨e,h2⟩
  ·subst e
   cases e2
   obtain⟨sz,cap,l,h3⟩:=h1.2.2 o ver c.ho
   rw[c.hx0]at h3;cases h3
   rcases c.hb.1 sz false cap l rfl with⟨k0,_⟩|⟨st',cap',l',k1,k2,k3,k4⟩
   ·cases k0
   rw[k3 rfl]at k1
   exact⟨sz,cap',l',by rw[<- k1];exact aR c.hx0⟩
  ·obtain⟨sz,cap,l,h3⟩:=h1.2.2 o' v h2
   exact⟨sz,cap,l,by show(g.H.set o _)[o']? = _;rw[cK e];exact h3⟩
 ·by_cases e:a.f=f
  ·exact c.hi a n vs hi e hx
  ·rw[<- hx];exact cL (cq (Ne.symm e)) n
theorem Ok.oput(h:Ok g)(c:sF g o x f ver ver' x0 B0 B)(hx:jj (g.oput o x f ver' B) o x):Ok (g.oput o x f ver' B):=by
 refine⟨by simp[Gh.oput,h.len],IR h.wf c.h0 B,fun o1 o2 f' v v' h1 h2=>?_,fun o' f' v h1=>?_,fun f' hf'=>by show f'<(g.s.put f B).next;rw[S.next_put];exact h.pv f' hf',fun o' y hy=>?_,h.gl.to fun f' h1 hp ho=>⟨cq fun e=>ho o ver (by rw[<- e];exact c.ho),by show f'<(g.s.put f B).next;rw[S.next_put];exact h1,hp,fun o' v k=>?_⟩⟩
 rotate_right 1
 ·rcases dL k with⟨e,e2⟩|⟨e,k⟩
  ·cases e2;exact ho o ver c.ho
  grind
 ·rcases dL h1 with⟨e,e2⟩|⟨e,h1⟩<;>rcases dL h2 with⟨e3,e4⟩|⟨e3,h2⟩
  ·grind
  ·cases e2;rw[<- e];exact h.inj o o2 f ver v' c.ho h2
  ·cases e4;rw[<- e3];exact h.inj o1 o f v ver h1 c.ho
  ·exact h.inj o1 o2 f' v v' h1 h2
 ·rcases dL h1 with⟨e,e2⟩|⟨e,h1⟩
  ·cases e2
   exact⟨by show f<(g.s.put f B).next;rw[S.next_put];exact(h.lt o f ver c.ho).1,(h.lt o f ver c.ho).2⟩
  ·exact⟨by show f'<(g.s.put f B).next;rw[S.next_put];exact(h.lt o' f' v h1).1,(h.lt o' f' v h1).2⟩
 ·rcases dL hy with⟨e,e2⟩|⟨e,hy⟩
  ·grind
  ·exact(h.obj o' y hy).keep (jy h c) (by show(g.O.set o _)[o']? = _;rw[cK e]) fun f' v h1=>cq fun q=>e (h.inj o o' f ver v c.ho (by rw[q];exact h1))
theorem ir(h:Ok g)(c:sF g o x f ver ver' x0 B0 B):Mv b g (g.oput o x f ver' B):=by
 refine⟨jy h c,fun f' _ hn=>cq fun e=>hn o ver (by rw[<- e];exact c.ho),fun o' f' v h1 _=>?_,fun o' s1 c1 f' v h1 h2=>?_⟩
 rcases dL h1 with⟨e,e2⟩|⟨e,h1⟩
 ·subst e;cases e2;exact⟨ver,c.ho⟩
 ·grind
 ·by_cases e:o=o'
  ·subst e
   rw[c.hx0]at h1
   obtain⟨c2,h3⟩:=c.hst s1 c1 (Option.some.inj h1)
   exact⟨s1+1,c2,by rw[<- h3];exact aR c.hx0,Nat.le_succ _,fun q=>by omega⟩
  ·exact⟨s1,c1,by show(g.H.set o _)[o']? = _;rw[cK e];exact h1,Nat.le_refl _,fun _=>⟨rfl,cq fun q=>e (h.inj o o' f ver v c.ho (by rw[q];exact h2))⟩⟩
theorem FI.oput(h:FI b P0 g t L tv LO)(c:sF g o x f ver ver' x0 B0 B)(hx:jj (g.oput o x f ver' B) o x):FI b P0 (g.oput o x f ver' B) t L tv LO :=
 h.to (h.ok.oput c hx) (ir h.ok c) rfl fun f' hf'=>cq fun e=>h.lo_out hf' o ver (by rw[<- e];exact c.ho)
def Gh.bnew(g:Gh)(o:Nat)(x:DB)(B:dB):Gh:=⟨g.O.set o (some (g.s.next,0)),g.H.set o x,g.Pv,g.s.alloc B⟩
theorem Ar(h:Ok g){sz:Nat}{st cap st' cap':Bool}{l:List (List D)}(hO:g.O[o]? = some none)(h0:g.H[o]? = some (.buf sz st cap []))(hx:x=.buf sz st' cap' l)(hs:st=false->st'=false)(hl:l≠[]):lY g (g.bnew o x B):=by
 refine⟨by show _<=(g.H.set o x).length;rw[List.length_set];exact Nat.le_refl _,fun o' f' v h1=>?_,fun o' sz' Jl cap1 l1 h1=>?_,fun o' sz' s1 l1 h1=>?_,fun f' h1=>⟨by show f'<(g.s.alloc B).next;rw[S.next_alloc];have:=h1.1;omega,h1.2.1,fun o' v h2=>?_⟩,fun a n vs hi hx=>?_,by show _<=(g.s.alloc B).next;rw[S.next_alloc];omega⟩
 ·have e:o≠o':=fun e=>by subst e;rw[hO]at h1;cases h1
  exact⟨v,by show(g.O.set o _)[o']? = _;rw[cK e];exact h1⟩
 ·by_cases e:o=o'
  ·subst e
   rw[h0]at h1;cases h1
   refine .inr ⟨st',cap',l,by rw[<- hx];exact aR h0,by simp,hs,fun e=>?_⟩
   exact(hl (List.eq_nil_of_length_eq_zero (by simpa using e.symm))).elim
  ·exact .inr ⟨Jl,cap1,l1,by show(g.H.set o _)[o']? = _;rw[cK e];exact h1,Nat.le_refl _,id,fun _=>⟨rfl,by show(g.O.set o _)[o']? = _;rw[cK e]⟩⟩
 ·have e:o≠o':=fun e=>by subst e;rw[h0]at h1;cases h1
  exact⟨s1,l1,by show(g.H.set o _)[o']? = _;rw[cK e];exact h1,Nat.le_refl _,fun _=>⟨rfl,by show(g.O.set o _)[o']? = _;rw[cK e]⟩⟩
 ·rcases dL h2 with⟨e,e2⟩|⟨e,h2⟩
  ·simp only[Option.some.injEq,Prod.mk.injEq]at e2
   have:=h1.1;omega
  ·obtain⟨sz1,cap1,l1,h3⟩:=h1.2.2 o' v h2
   exact⟨sz1,cap1,l1,by show(g.H.set o _)[o']? = _;rw[cK (fun e=>by subst e;rw[hO]at h2;cases h2)];exact h3⟩
 ·rw[<- hx];exact cL (aG hi.1) n
theorem Ok.bnew(h:Ok g){sz:Nat}{st cap st' cap':Bool}{l:List (List D)}(hO:g.O[o]? = some none)(h0:g.H[o]? = some (.buf sz st cap []))(hx:x=.buf sz st' cap' l)(hs:st=false->st'=false)(hl:l≠[])(hr:jj (g.bnew o x B) o x):Ok (g.bnew o x B):=by
 refine⟨by simp[Gh.bnew,h.len],pz h.wf B,fun o1 o2 f' v v' h1 h2=>?_,fun o' f' v h1=>?_,fun f' hf'=>?_,fun o' y hy=>?_,h.gl.to fun f' h1 hp ho=>⟨aG h1,qV h1,hp,fun o' v k=>?_⟩⟩
 rotate_right 1
 ·rcases dL k with⟨e,e2⟩|⟨e,k⟩
  ·grind
  grind
 ·rcases dL h1 with⟨e,e2⟩|⟨e,h1⟩<;>rcases dL h2 with⟨e3,e4⟩|⟨e3,h2⟩
  ·grind
  ·cases e2;have:=(h.lt o2 _ v' h2).1;omega
  ·cases e4;have:=(h.lt o1 _ v h1).1;omega
  ·exact h.inj o1 o2 f' v v' h1 h2
 ·rcases dL h1 with⟨e,e2⟩|⟨e,h1⟩
  ·cases e2
   exact⟨by show g.s.next<(g.s.alloc B).next;rw[S.next_alloc];omega,fun hp=>by have:=h.pv _ hp;omega⟩
  ·exact⟨by have:=(h.lt o' f' v h1).1;show f'<(g.s.alloc B).next;rw[S.next_alloc];omega,(h.lt o' f' v h1).2⟩
 ·have:=h.pv f' hf';show f'<(g.s.alloc B).next;rw[S.next_alloc];omega
 ·rcases dL hy with⟨e,e2⟩|⟨e,hy⟩
  ·grind
  ·exact(h.obj o' y hy).keep (Ar h hO h0 hx hs hl) (by show(g.O.set o _)[o']? = _;rw[cK e]) fun f' v h1=>aG (h.lt o' f' v h1).1
theorem Gr(h:Ok g)(hb:b<=g.s.next){sz:Nat}{st cap st' cap':Bool}{l:List (List D)}(hO:g.O[o]? = some none)(h0:g.H[o]? = some (.buf sz st cap []))(hx:x=.buf sz st' cap' l)(hs:st=false->st'=false)(hl:l≠[]):Mv b g (g.bnew o x B):=by
 refine⟨Ar h hO h0 hx hs hl,fun f hf _=>aG (Nat.lt_of_lt_of_le hf hb),fun o' f v ho hf=>?_,fun o' s1 c1 f v h1 h2=>?_⟩
 ·rcases dL ho with⟨_,e⟩|⟨_,ho⟩
  ·cases e;omega
  grind
 ·have e:o≠o':=fun e=>by subst e;rw[h0]at h1;cases h1
  exact⟨s1,c1,by show(g.H.set o _)[o']? = _;rw[cK e];exact h1,Nat.le_refl _,fun _=>⟨rfl,aG (h.lt o' f v h2).1⟩⟩
theorem FI.bnew(h:FI b P0 g t L tv LO){sz:Nat}{st cap st' cap':Bool}{l:List (List D)}(hO:g.O[o]? = some none)(h0:g.H[o]? = some (.buf sz st cap []))(hx:x=.buf sz st' cap' l)(hs:st=false->st'=false)(hl:l≠[])(hr:jj (g.bnew o x B) o x):FI b P0 (g.bnew o x B) t L tv LO :=
 h.to (h.ok.bnew hO h0 hx hs hl hr) (Gr h.ok h.bl hO h0 hx hs hl) rfl fun _ hf=>aG (h.lo_lt hf)
def Gh.frz(g:Gh)(o sz:Nat)(cap:Bool)(l:List (List D)):Gh:=⟨g.O,g.H.set o (.buf sz false cap l),g.Pv,g.s⟩
theorem rQ{sz:Nat}{st cap:Bool}{l:List (List D)}(h0:g.H[o]? = some (.buf sz st cap l)):lY g (g.frz o sz cap l):=by
 refine⟨by show _<=(g.H.set o _).length;rw[List.length_set];exact Nat.le_refl _,fun o' f' v h1=>⟨v,h1⟩,fun o' sz' Jl cap1 l1 h1=>?_,fun o' sz' s1 l1 h1=>⟨s1,l1,by show(g.H.set o _)[o']? = _;rw[cK (fun e=>by subst e;rw[h0]at h1;cases h1)];exact h1,Nat.le_refl _,fun _=>⟨rfl,rfl⟩⟩,fun f' h1=>⟨h1.1,h1.2.1,fun o' v h2=>?_⟩,fun a n vs hi hx=>hx,Nat.le_refl _⟩
 ·by_cases e:o=o'
  ·subst e
   rw[h0]at h1;cases h1
   exact .inr ⟨false,cap,l,aR h0,Nat.le_refl _,fun _=>rfl,fun _=>⟨rfl,rfl⟩⟩
  ·exact .inr ⟨Jl,cap1,l1,by show(g.H.set o _)[o']? = _;rw[cK e];exact h1,Nat.le_refl _,id,fun _=>⟨rfl,rfl⟩⟩
 ·by_cases e:o=o'
  ·subst e;exact⟨sz,cap,l,aR h0⟩
  ·obtain⟨sz1,cap1,l1,h3⟩:=h1.2.2 o' v h2
   exact⟨sz1,cap1,l1,by show(g.H.set o _)[o']? = _;rw[cK e];exact h3⟩
theorem Ok.frz(h:Ok g){sz:Nat}{st cap:Bool}{l:List (List D)}(h0:g.H[o]? = some (.buf sz st cap l)):Ok (g.frz o sz cap l):=by
 refine⟨by simp[Gh.frz,h.len],h.wf,h.inj,h.lt,h.pv,fun o' y hy=>?_,h.gl.to fun f h1 hp ho=>⟨rfl,h1,hp,ho⟩⟩
 rcases dL hy with⟨e,e2⟩|⟨e,hy⟩
 ·subst e;subst e2
  exact(h.obj o _ h0).keep (b:=.buf sz st cap l) (rQ h0) rfl (fun _ _ _=>rfl)
 ·exact(h.obj o' y hy).keep (rQ h0) rfl fun _ _ _=>rfl
theorem Et{sz:Nat}{st cap:Bool}{l:List (List D)}(h0:g.H[o]? = some (.buf sz st cap l)):Mv b g (g.frz o sz cap l):=⟨rQ h0,fun _ _ _=>rfl,fun _ _ v h _=>⟨v,h⟩,fun o' s1 c1 f v h1 _=>⟨s1,c1,by show(g.H.set o _)[o']? = _;rw[cK (fun e=>by subst e;rw[h0]at h1;cases h1)];exact h1,Nat.le_refl _,fun _=>⟨rfl,rfl⟩⟩⟩
def Gh.cut(g:Gh)(o sz s:Nat)(l:List (List D)):Gh:=⟨g.O,g.H.set o (.tbuf sz s l),g.Pv,g.s⟩
def LG(sz s:Nat)(x:DB):Prop:=(∃ cap l,x=.buf sz true cap l)\/∃ s0 l,x=.tbuf sz s0 l/\s0<s
theorem EA{sz s:Nat}{l:List (List D)}(h0:g.H[o]? = some x)(hc:LG sz s x):lY g (g.cut o sz s l):=by
 refine⟨by show _<=(g.H.set o _).length;rw[List.length_set];exact Nat.le_refl _,fun o' f' v h1=>⟨v,h1⟩,fun o' sz' Jl cap1 l1 h1=>?_,fun o' sz' s1 l1 h1=>?_,fun f' h1=>⟨h1.1,h1.2.1,fun o' v h2=>?_⟩,fun a n vs hi hx=>hx,Nat.le_refl _⟩
 ·by_cases e:o=o'
  ·subst e
   exact .inl ⟨sz,s,l,aR h0⟩
  ·exact .inr ⟨Jl,cap1,l1,by show(g.H.set o _)[o']? = _;rw[cK e];exact h1,Nat.le_refl _,id,fun _=>⟨rfl,rfl⟩⟩
 ·by_cases e:o=o'
  ·subst e
   rw[h0]at h1;cases h1
   rcases hc with⟨_,_,k⟩|⟨_,_,k,k2⟩<;>cases k
   exact⟨s,l,aR h0,by omega,fun e=>by omega⟩
  ·exact⟨s1,l1,by show(g.H.set o _)[o']? = _;rw[cK e];exact h1,Nat.le_refl _,fun _=>⟨rfl,rfl⟩⟩
 ·obtain⟨sz1,cap1,l1,h3⟩:=h1.2.2 o' v h2
  refine⟨sz1,cap1,l1,?_⟩
  show(g.H.set o _)[o']? = _
  rw[cK (fun e=>?_)];exact h3
  subst e
  rw[h0]at h3;cases h3
  rcases hc with⟨_,_,k⟩|⟨_,_,k,k2⟩<;>cases k
theorem Ok.cut(h:Ok g){sz s:Nat}{l:List (List D)}(h0:g.H[o]? = some x)(hc:LG sz s x)(hr:jj (g.cut o sz s l) o (.tbuf sz s l)):Ok (g.cut o sz s l):=by
 refine⟨by simp[Gh.cut,h.len],h.wf,h.inj,h.lt,h.pv,fun o' y hy=>?_,h.gl.to fun f h1 hp ho=>⟨rfl,h1,hp,ho⟩⟩
 rcases dL hy with⟨e,e2⟩|⟨e,hy⟩
 ·subst e;subst e2
  exact hr
 ·exact(h.obj o' y hy).keep (EA h0 hc) rfl fun _ _ _=>rfl
theorem Kd{sz s:Nat}{l:List (List D)}(h0:g.H[o]? = some x)(hc:LG sz s x):Mv b g (g.cut o sz s l):=⟨EA h0 hc,fun _ _ _=>rfl,fun _ _ v h _=>⟨v,h⟩,fun o' s1 c1 f v h1 _=>⟨s1,c1,by show(g.H.set o _)[o']? = _;rw[cK (fun e=>by subst e;rw[h0]at h1;cases h1;rcases hc with⟨_,_,k⟩|⟨_,_,k,_⟩<;>cases k)];exact h1,Nat.le_refl _,fun _=>⟨rfl,rfl⟩⟩⟩
theorem FI.cut(h:FI b P0 g t L tv LO){sz s:Nat}{l:List (List D)}(h0:g.H[o]? = some x)(hc:LG sz s x)(hr:jj (g.cut o sz s l) o (.tbuf sz s l)):FI b P0 (g.cut o sz s l) t L tv LO :=
 h.to (h.ok.cut h0 hc hr) (Kd h0 hc) rfl fun _ _=>rfl
theorem FI.frz(h:FI b P0 g t L tv LO){sz:Nat}{st cap:Bool}{l:List (List D)}(h0:g.H[o]? = some (.buf sz st cap l)):FI b P0 (g.frz o sz cap l) t L tv LO :=
 h.to (h.ok.frz h0) (Et h0) rfl fun _ _=>rfl
theorem Az(h:Ok g){sz:Nat}{st cap:Bool}{l:List (List D)}(h0:g.H[o]? = some (.buf sz st cap l)){n:Nat}(hn:n=l.length){v:V}(hv:LI g sz o n v):RD (g.frz o sz cap l) (.row sz l) v:=by
 rcases hv with⟨⟨_,_,_,k1⟩,_⟩|⟨st',cap',l',k1,k2,k3⟩
 ·rw[h0]at k1;cases k1
 rw[h0]at k1;cases k1
 simp only[RD]
 rcases k3 with⟨e1,e2⟩|⟨e1,f,ver,ver2,c,e2,e3,e4⟩
 ·have hl:l=[]:=List.eq_nil_of_length_eq_zero (by omega)
  subst hl
  rcases e2 with rfl|⟨a,z,sz',rfl⟩
  ·exact .inl ⟨rfl,rfl⟩
  ·exact .inr (.inl ⟨rfl,a,z,sz',rfl⟩)
 ·obtain⟨e5,e6⟩:=e4 hn
  subst e5 e6
  obtain⟨i0,i1|⟨i1,f',ver',el,nv,vers,cells,i2,i3,i4,i5,i6,i7⟩⟩:=h.obj o _ h0
  ·rw[i1.1]at hn;simp at hn;omega
  ·rw[e2]at i2;cases i2
   subst e3 hn
   refine .inr (.inr ⟨⟨f,ver2,0⟩,0,Fg cap l.length,rfl,i0,.inr rfl,fun c hc=>?_,fun _=>⟨(h.lt o f ver2 e2).1,(h.lt o f ver2 e2).2,fun o' v' ho'=>?_⟩,i7.keep (rQ h0) rfl⟩)
   ·cases cap with
    |true=>cases hc;exact Nat.le_refl _
    |false=>cases hc
   ·rw[h.inj o' o f v' ver2 ho' e2]
    exact⟨sz,cap,l,aR h0⟩
def Gh.acc(g:Gh)(sz:Nat)(cap:Bool):Gh:=⟨g.O++[none],g.H++[.buf sz true cap []],g.Pv,g.s⟩
theorem Kr(h:Ok g)(sz:Nat)(cap:Bool):lY g (g.acc sz cap):=by
 refine⟨by simp[Gh.acc],fun _ _ v h=>⟨v,dT _ h⟩,fun o _ st cap l h1=>.inr ⟨st,cap,l,dT _ h1,Nat.le_refl _,id,fun _=>⟨rfl,?_⟩⟩,fun o _ s l h1=>⟨s,l,dT _ h1,Nat.le_refl _,fun _=>⟨rfl,?_⟩⟩,fun f h1=>⟨h1.1,h1.2.1,fun o v ho=>?_⟩,fun a n vs hi hx=>hx,Nat.le_refl _⟩
 ·have:o<g.H.length:=by
   grind
  show(g.O++_)[o]? = _
  rw[List.getElem?_append_left (by rw[h.len];exact this)]
 ·have:o<g.H.length:=by
   grind
  show(g.O++_)[o]? = _
  rw[List.getElem?_append_left (by rw[h.len];exact this)]
 ·rcases ba ho with ho|⟨_,e⟩
  ·obtain⟨sz,cap,l,h2⟩:=h1.2.2 o v ho
   exact⟨sz,cap,l,dT _ h2⟩
  ·cases e
theorem Ok.acc(h:Ok g){sz:Nat}(hs:0<sz)(cap:Bool):Ok (g.acc sz cap):=by
 refine⟨by simp[Gh.acc,h.len],h.wf,fun o o' f v v' h1 h2=>?_,fun o f v ho=>?_,h.pv,fun o c hc=>?_,h.gl.to fun f h1 hp ho=>⟨rfl,h1,hp,fun o v k=>?_⟩⟩
 rotate_right 1
 ·rcases ba k with k|⟨_,e⟩
  ·exact ho o v k
  ·cases e
 ·rcases ba h1 with h1|⟨e1,e2⟩<;>rcases ba h2 with h2|⟨e3,e4⟩
  ·exact h.inj o o' f v v' h1 h2
  ·cases e4
  ·cases e2
  ·cases e2
 ·rcases ba ho with ho|⟨_,e⟩
  ·exact h.lt o f v ho
  ·cases e
 ·rcases ba hc with hc|⟨e1,e2⟩
  ·have hlt:o<g.O.length:=by
    rw[h.len]
    grind
   exact(h.obj o c hc).keep (Kr h sz cap) (by show(g.O++_)[o]? = _;rw[List.getElem?_append_left hlt]) fun _ _ _=>rfl
  ·subst e1;subst e2
   exact⟨hs,.inl ⟨rfl,by show(g.O++_)[_]? = _;rw[<- h.len];exact gP _ _⟩⟩
theorem Ew(h:Ok g)(sz:Nat)(cap:Bool):Mv b g (g.acc sz cap):=by
 refine⟨Kr h sz cap,fun _ _ _=>rfl,fun o f v ho _=>?_,fun o s1 c1 f v h1 _=>⟨s1,c1,dT _ h1,Nat.le_refl _,fun _=>⟨rfl,rfl⟩⟩⟩
 rcases ba ho with ho|⟨_,e⟩
 ·grind
 ·cases e
theorem FI.acc(h:FI b P0 g t L tv LO){sz:Nat}(hs:0<sz)(cap:Bool):FI b P0 (g.acc sz cap) t L tv LO:=h.to (h.ok.acc hs cap) (Ew h.ok sz cap) rfl fun _ _=>rfl
end
end Go.AI
set_option linter.all false
noncomputable section
namespace Go.AI
variable[fj]
variable{g:Gh}{LO:List Nat}{t:T LD}{tv:T V}{P:Program}{out:hJ}
theorem eE{v:V}{vs:List V}:aH (v::vs)↔v.one=true/\aH vs:=by unfold aH;simp
theorem BX{a b:List V}(h:aH a)(hs:∀ v∈b,v∈a):aH b:=List.all_eq_true.2 fun v hv=>List.all_eq_true.1 h v (hs v hv)
theorem rJ{vs:List V}(h:aH vs)(n:Nat):aH (vs.drop n):=BX h fun _=>List.mem_of_mem_drop
theorem rI{vs:List V}(h:aH vs)(n:Nat):aH (vs.take n):=BX h fun _=>List.mem_of_mem_take
theorem qd{a b:List V}(h:aH a)(k:aH b):aH (a++b):=by unfold aH at *;rw[List.all_append,h,k];rfl
theorem AV:∀ {v:V} {d:D},Nt v=some d->RD g d v/\v.one=true:=by
 intro v d h
 unfold Nt at h
 split at h
 ·cases h;exact⟨by simp only[RD],rfl⟩
 ·cases h;exact⟨by simp only[RD],rfl⟩
 ·rename_i l
  cases hb:l.all (fun c=>Nat.blt c 256)with
  |false=>rw[hb]at h;cases h
  |true =>
   rw[hb]at h;cases h
   refine⟨?_,rfl⟩
   simp_all[RD,List.all_eq_true.1,Nat.le_of_ble_eq_true]
 ·cases h;exact⟨by simp only[RD],rfl⟩
 ·cases h;exact⟨by simp only[RD];exact .inl trivial,rfl⟩
 ·cases h;exact⟨by simp only[RD],rfl⟩
 ·rename_i fn a b
  split at h
  ·cases hb:(a.isEmpty&&b.isEmpty)with
   |false=>rw[hb]at h;cases h
   |true =>
    rw[hb]at h;cases h
    simp only[Bool.and_eq_true,List.isEmpty_iff]at hb
    obtain⟨rfl,rfl⟩:=hb
    exact⟨by simp only[RD];exact⟨[],[],rfl,by simp only[RL],by simp only[RL]⟩,rfl⟩
  ·cases h
 ·cases h;exact⟨by simp only[RD],rfl⟩
 ·cases h;exact⟨by simp only[RD],rfl⟩
 ·cases h
theorem AU:∀ {vs:List V} {ds:List D},wx vs=some ds->RL g ds vs/\aH vs
 |[],ds,h=>by cases h;exact⟨by simp only[RL],rfl⟩
 |v::r,ds,h=>by
  simp only[wx]at h
  split at h
  ·rename_i d hd
   split at h
   ·rename_i l hl
    cases h
    obtain⟨h1,h2⟩:=AV (g:=g) hd
    obtain⟨h3,h4⟩:=AU hl
    exact⟨by simp only[RL];exact⟨v,r,rfl,h1,h3⟩,eE.2 ⟨h2,h4⟩⟩
   ·cases h
  ·cases h
theorem KX{v:V}{d:D}(h:QN v=some d):RD g d v:=by
 unfold QN at h
 grind [AU,RD,AV]
theorem RL.one1{d:D}{v:V}(h:RD g d v):RL g [d] [v]:=by simp only[RL];exact⟨v,[],rfl,h,rfl⟩
theorem qP{v:V}(h:v.one=true):v.cells=[v]:=by cases v<;>first|rfl|cases h
theorem Ic{v:V}{d:D}(h:QN v=some d):RL g d.cells v.cells/\aH v.cells:=by
 unfold QN at h
 split at h
 ·split at h
  ·rename_i cs l hl
   cases h
   exact AU hl
  ·cases h
 ·rename_i hne
  obtain⟨h1,h2⟩:=AV (g:=g) h
  rw[qP h2]
  refine⟨?_,eE.2 ⟨h2,rfl⟩⟩
  have:d.cells=[d]:=by
   cases d<;>first|rfl|skip
   grind [RD]
  grind [RL.one1]
theorem iE{ty:TypeId}{d:D}(h:nV P ty=some d):∃ z,zero P ty=some z/\RD g d z/\RL g d.cells z.cells/\aH z.cells:=by
 grind [nV,KX,Ic]
def uk(g:Gh)(LO:List Nat)(t:T LD)(tv:T V)(x:Operand):Prop:=∀ y,gm t x=some y->∃ v,eval tv x=some v/\RS g LO y v
theorem xP.op(h:xP g LO t tv)(x:Operand):uk g LO t tv x:=by
 intro y hy
 cases x with
 |tmp i=>exact h i y hy
 |const c =>
  simp only[gm]at hy
  split at hy
  ·rename_i v hv
   split at hy
   ·rename_i d hd;cases hy;exact⟨v,hv,KX hd⟩
   ·cases hy
  ·cases hy
 |global _=>cases hy
 |func f=>cases hy;exact⟨_,rfl,by show RD _ _ _;simp only[RD];exact⟨[],[],rfl,by simp only[RL],by simp only[RL]⟩⟩
theorem bf{x:Operand}{κ:D->ag}(h:gD (gm t x) κ=some out)(hr:uk g LO t tv x):∃ d v,κ d=some out/\gm t x=some (.g d)/\eval tv x=some v/\RD g d v:=by
 unfold gD at h
 split at h
 ·rename_i d hd
  obtain⟨v,h1,h2⟩:=hr _ hd
  exact⟨d,v,h,hd,h1,h2⟩
 ·cases h
theorem jP{x:Operand}{κ:LD->ag}(h:lD (gm t x) κ=some out)(hr:uk g LO t tv x):∃ d v,κ d=some out/\gm t x=some d/\eval tv x=some v/\RS g LO d v:=by
 unfold lD at h
 split at h
 ·rename_i d hd
  obtain⟨v,h1,h2⟩:=hr _ hd
  grind
 ·cases h
theorem iX:∀ {l:List Operand} {κ:List D->ag},CO t l κ=some out->(∀ x∈l,uk g LO t tv x)->∃ ds vs,κ ds=some out/\gk tv l=some vs/\RL g ds vs
 |[],κ,h,_=>⟨[],[],h,rfl,by simp only[RL]⟩
 |x::r,κ,h,hr=>by
  simp only[CO]at h
  obtain⟨d,v,h1,_,h2,h3⟩:=bf h (hr x List.mem_cons_self)
  obtain⟨ds,vs,k1,k2,k3⟩:=iX h1 fun y hy=>hr y (List.mem_cons_of_mem _ hy)
  grind [only,gk,RL]
theorem cQ{b:Bool}{κ:ag}(h:boK b κ=some out):b=true/\κ=some out:=by
 cases b with
 |false=>cases h
 |true=>exact⟨rfl,h⟩
theorem ay{b:Bool}{κ:ag}(h:cond b κ none=some out):b=true/\κ=some out:=by
 grind
theorem iB{cs:List D}{c:Nat}{κ:D->ag}(h:aC cs c κ=some out):∃ d,cs[c]? = some d/\κ d=some out:=by
 grind [aC]
theorem gt:∀ {n:Nat} {cs:List D} {c:Nat} {κ:List D->ag},ya n cs c κ=some out->κ ((cs.drop c).take n)=some out/\(n=0\/c+n<=cs.length)
 |0,cs,c,κ,h=>⟨by simp only[ya]at h;simpa using h,.inl rfl⟩
 |n+1,cs,c,κ,h=>by
  simp only[ya]at h
  obtain⟨d,h1,h2⟩:=iB h
  have hc:c<cs.length:=by
   rcases Nat.lt_or_ge c cs.length with q|q
   ·exact q
   ·rw[List.getElem?_eq_none q]at h1;cases h1
  obtain⟨h3,h4⟩:=gt h2
  refine⟨?_,.inr (by omega)⟩
  rw[List.drop_eq_getElem_cons hc,List.take_succ_cons]
  rw[List.getElem?_eq_getElem hc]at h1
  cases h1
  exact h3
theorem kM:∀ {l:List V} {n:Nat},n<=l.length->aN n l=some (l.take n)
 |l,0,_=>rfl
 |[],n+1,h=>by simp at h
 |x::l,n+1,h=>by simp only[aN,kM (l:=l) (n:=n) (by simpa using h),Option.map,List.take_succ_cons]
theorem gH{s:S}{a:Ad}{N:Nat}{vs:List V}(h:loadCells s a N=some vs){c n:Nat}(hc:c+n<=N):loadCells s (bF a c) n=some ((vs.drop c).take n):=by
 have key:∀(u:lW),(bif Nat.ble u.lo a.c then aN N (u.cells.drop (a.c - u.lo))else none)=some vs->(bif Nat.ble u.lo (a.c+c)then aN n (u.cells.drop (a.c+c - u.lo))else none)=some ((vs.drop c).take n):=fun u hu=>by
  cases hb:Nat.ble u.lo a.c with
  |false=>rw[hb]at hu;cases hu
  |true =>
   rw[hb]at hu
   have hle:=Nat.le_of_ble_eq_true hb
   grind [dO,Nat.ble,Nat.ble_eq_true_of_le,List.length_drop,kM,List.drop_take,List.drop_drop,Nat.min_eq_left]
 unfold loadCells at h ⊢
 simp only[bF]
 split at h
 ·split at h
  ·grind
  ·cases h
 ·split at h
  ·grind
  ·cases h
 ·cases h
theorem qo{s:S}{a:Ad}{N:Nat}{vs:List V}(h:loadCells s a N=some vs){c:Nat}{v:V}(hc:vs[c]? = some v):mB s (bF a c)=some v:=by
 have key:∀(u:lW),(bif Nat.ble u.lo a.c then aN N (u.cells.drop (a.c - u.lo))else none)=some vs->(bif Nat.ble u.lo (a.c+c)then u.cells[a.c+c - u.lo]? else none)=some v:=fun u hu=>by
  cases hb:Nat.ble u.lo a.c with
  |false=>rw[hb]at hu;cases hu
  |true =>
   rw[hb]at hu
   have hle:=Nat.le_of_ble_eq_true hb
   obtain⟨rfl,h2⟩:=dO hu
   rw[show Nat.ble u.lo (a.c+c)=true from Nat.ble_eq_true_of_le (by omega)]
   simp only[cond_true]
   rw[List.getElem?_take]at hc
   split at hc
   ·rw[List.getElem?_drop]at hc
    rw[show a.c+c - u.lo=a.c - u.lo+c by omega];exact hc
   ·cases hc
 unfold loadCells at h
 unfold mB
 simp only[bF]
 split at h
 ·split at h
  ·rename_i u hu;exact key u h
  ·cases h
 ·split at h
  ·rename_i u hu;exact key u h
  ·cases h
 ·cases h
theorem xB{s:S}{a:Ad}{N:Nat}{vs:List V}(h:loadCells s a N=some vs):vs.length=N:=by
 have key:∀(u:lW),(bif Nat.ble u.lo a.c then aN N (u.cells.drop (a.c - u.lo))else none)=some vs->vs.length=N:=fun u hu=>by
  cases hb:Nat.ble u.lo a.c with
  |false=>rw[hb]at hu;cases hu
  |true =>
   rw[hb]at hu
   obtain⟨rfl,h2⟩:=dO hu
   grind
 grind [loadCells]
theorem iM{s:S}{ty:TypeId}{cs:List D}{c:Nat}{κ:D->ag}(h:dq P ty cs c κ=some out){a:Ad}{vs:List V}(hl:loadCells s a cs.length=some vs)(hr:RL g cs vs)(ho:aH vs) :
 ∃ d v,κ d=some out/\loadVar P s ty (bF a c)=some v/\RD g d v:=by
 unfold dq at h
 unfold loadVar
 split at h
 ·rename_i ha
  split at h
  ·rename_i n hn
   obtain⟨hn0,h⟩:=ay h
   obtain⟨h1,h2⟩:=gt h
   have hn0:=Nat.le_of_ble_eq_true hn0
   refine⟨_,.agg ((vs.drop c).take n),h1,?_,?_⟩
   ·rw[ha,hn]
    simp only[Option.bind]
    rw[gH hl (by omega)];rfl
   ·simp only[RD]
    exact⟨_,rfl,(hr.drop c).take n,rI (rJ ho c) n⟩
  ·cases h
 ·rename_i ha
  obtain⟨d,h1,h2⟩:=iB h
  obtain⟨v,h3,h4⟩:=hr.at h1
  exact⟨d,v,h2,by rw[ha];exact qo hl h3,h4⟩
 ·cases h
end Go.AI
set_option linter.all false
noncomputable section
namespace Go.AI
theorem pH:∀ {p q:List Nat},(∀ z∈p,z<256)->(∀ z∈q,z<256)->jV p q=some (decide (p=q))
 |[],[],_,_=>rfl
 |[],_::_,_,_=>rfl
 |_::_,[],_,_=>rfl
 |x::p,y::q,hp,hq=>by
  have ih:=pH (p:=p) (q:=q) (fun z hz=>hp z (List.mem_cons_of_mem _ hz)) (fun z hz=>hq z (List.mem_cons_of_mem _ hz))
  have hx:Nat.blt x 256=true:=Nat.ble_eq_true_of_le (hp x (by simp))
  have hy:Nat.blt y 256=true:=Nat.ble_eq_true_of_le (hq y (by simp))
  grind [jV,Nat.eq_of_beq_eq_true,List.cons.injEq,Nat.beq_refl,Bool.and_self]
variable[fj]
variable{g:Gh}{LO:List Nat}{t:T LD}{tv:T V}{P:Program}{out:hJ}
theorem Nv{x:LD}{κ:LD->ag}(h:Nw x κ=some out){v:V}(r:RS g LO x v):κ x=some out/\lI (some v)=some v:=by
 unfold Nw eu at h
 split at h
 ·obtain⟨f,h1,rfl⟩:=r;exact⟨h,rfl⟩
 ·rename_i d
  have r:RD g d v:=r
  split at h
  ·simp only[RD]at r;obtain⟨f,ver,h1,rfl⟩:=r;exact⟨h,rfl⟩
  ·simp only[RD]at r;obtain⟨a,vs,rfl,_⟩:=r;exact⟨h,rfl⟩
  ·simp only[RD]at r;rcases r with⟨_,a,rfl⟩|⟨f,ver,sz,st,cap,l,ver',_,_,_,_,rfl,_⟩<;>exact⟨h,rfl⟩
  ·simp only[RD]at r;obtain⟨f,ver,sz,s',l,ver',_,_,_,rfl,_⟩:=r;exact⟨h,rfl⟩
  ·simp only[RD]at r;obtain⟨a',b',rfl,_⟩:=r;exact⟨h,rfl⟩
  ·simp only[RD]at r;obtain⟨f,ver,_,rfl⟩:=r;exact⟨h,rfl⟩
  ·cases h
 ·cases h
theorem Nd{x:LD}{off:Nat}{κ:LD->ag}(h:Nf x off κ=some out){v:V}(r:RS g LO x v):∃ x' a,κ x'=some out/\v=.ptr a/\RS g LO x' (.ptr (bF a off)):=by
 unfold Nf dt at h
 split at h
 ·obtain⟨f,h1,rfl⟩:=r;exact⟨_,_,h,rfl,f,h1,rfl⟩
 ·rename_i d
  have r:RD g d v:=r
  split at h
  ·simp only[RD]at r
   obtain⟨f,ver,h1,rfl⟩:=r
   exact⟨_,_,h,rfl,by show RD _ _ _;simp only[RD];exact⟨f,ver,h1,rfl⟩⟩
  ·simp only[RD]at r
   obtain⟨a,vs,rfl,h1⟩:=r
   exact⟨_,_,h,rfl,by show RD _ _ _;simp only[RD];exact⟨a,vs,by rw[wU],h1⟩⟩
  ·simp only[RD]at r
   rcases r with⟨k1,a,rfl⟩|⟨f,ver,sz,st,cap,l,ver',h1,h2,h3,h4,rfl,h5⟩
   ·exact⟨_,_,h,rfl,by show RD _ _ _;simp only[RD];exact .inl ⟨k1,_,rfl⟩⟩
   exact⟨_,_,h,rfl,by show RD _ _ _;simp only[RD];exact .inr ⟨f,ver,sz,st,cap,l,ver',h1,h2,h3,h4,by simp only[bF,Nat.add_assoc],h5⟩⟩
  ·simp only[RD]at r
   obtain⟨f,ver,sz,s',l,ver',h1,h2,h3,rfl,h5⟩:=r
   exact⟨_,_,h,rfl,by show RD _ _ _;simp only[RD];exact⟨f,ver,sz,s',l,ver',h1,h2,h3,by simp only[bF,Nat.add_assoc],h5⟩⟩
  ·cases h
 ·cases h
theorem HW{ty:TypeId}{x:LD}{f:Nat}{κ:LD->ag}(h:wa P ty x f κ=some out){v:V}(r:RS g LO x v):∃ x' v',κ x'=some out/\gT P ty (some v) f=some v'/\RS g LO x' v':=by
 unfold wa at h
 dsimp only at h
 split at h
 ·split at h
  ·split at h
   ·cases h
   ·grind [Nd,only,gT]
  ·cases h
 ·cases h
theorem qc{ty:TypeId}{cs:List D}{c:Nat}{κ:D->ag}(h:dq P ty cs c κ=some out){vs:List V}(hr:RL g cs vs)(ho:aH vs) :
 ∃ d v,κ d=some out/\sO P ty vs c=some v/\RD g d v:=by
 unfold dq at h
 unfold sO
 split at h
 ·rename_i ha
  split at h
  ·rename_i n hn
   obtain⟨hn0,h⟩:=ay h
   obtain⟨h1,h2⟩:=gt h
   refine⟨_,.agg ((vs.drop c).take n),h1,by rw[ha,hn];rfl,?_⟩
   simp only[RD]
   exact⟨_,rfl,(hr.drop c).take n,rI (rJ ho c) n⟩
  ·cases h
 ·rename_i ha
  obtain⟨d,h1,h2⟩:=iB h
  obtain⟨v,h3,h4⟩:=hr.at h1
  exact⟨d,v,h2,by rw[ha];exact h3,h4⟩
 ·cases h
theorem HV{ty:TypeId}{x:D}{f:Nat}{κ:D->ag}(h:vZ P ty x f κ=some out){v:V}(r:RD g x v):∃ d v',κ d=some out/\qJ P ty (some v) f=some v'/\RD g d v':=by
 unfold vZ at h
 split at h
 ·rename_i fs hu
  split at h
  ·rename_i fd hf
   split at h
   ·simp only[RD]at r
    obtain⟨vs,rfl,h1,h2⟩:=r
    obtain⟨d,v',k1,k2,k3⟩:=qc h h1 h2
    grind [only,qJ]
   ·cases h
  ·cases h
 ·cases h
theorem iq{n:Int}{κ:Nat->ag}(h:dE n κ=some out):∃ m:Nat,n=(m:Int)/\κ m=some out:=by
 unfold dE at h
 split at h
 ·grind
 ·cases h
theorem Mj{sz:Nat}{l:List (List D)}{v:V}(r:RD g (.row sz l) v){i:Nat}{cs:List D}(hi:l[i]? = some cs) :
 ∃ a z cap vs,v=.slice a z l.length cap sz/\i<l.length/\g.Imm a.f/\cs.length=sz/\loadCells g.s (bF a (i*sz)) sz=some vs/\RL g cs vs/\aH vs:=by
 have hlt:i<l.length:=by
  grind
 simp only[RD]at r
 rcases r with⟨rfl,_⟩|⟨rfl,_⟩|⟨a,z,cap,h1,_,_,_,h5,h6⟩
 ·simp at hi
 ·simp at hi
 ·obtain⟨vs,k1,k2,k3,k4⟩:=h6.at hi
  exact⟨a,z,cap,vs,h1,hlt,h5 (by intro e;rw[e]at hi;simp at hi),k1,k2,k3,k4⟩
theorem wL{m n:Nat}(h:m<n):Nat.blt m n=true:=Nat.ble_eq_true_of_le h
theorem HN{ty:TypeId}{x i:D}{κ:D->ag}(h:dF P ty x i κ=some out){v w:V}(r:RD g x v)(ri:RD g i w):∃ d v',κ d=some out/\ee P ty (some v) (cX (some w))=some v'/\RD g d v':=by
 unfold dF at h
 split at h
 ·rename_i el hu
  split at h
  ·rename_i sz hs
   split at h
   ·rename_i k n
    simp only[RD]at ri
    subst ri
    unfold HL at h
    split at h
    ·rename_i s l
     obtain⟨hb,h'⟩:=ay h
     clear h
     obtain rfl:=Nat.eq_of_beq_eq_true hb
     obtain⟨m,rfl,h⟩:=iq h'
     unfold eO at h
     split at h
     ·rename_i cs hc
      obtain⟨a,z,cap,vs,rfl,h2,h3,h4,h5,h6,h7⟩:=Mj r hc
      grind [bF,only,cX,kg,ee,Nat.beq_refl,wL,Bool.and_self,RD]
     ·cases h
    ·rename_i s o n
     obtain⟨hb,h'⟩:=ay h
     clear h
     obtain rfl:=Nat.eq_of_beq_eq_true hb
     obtain⟨m,rfl,h''⟩:=iq h'
     obtain⟨hb,h⟩:=cQ h''
     have hm:m<n:=Nat.le_of_ble_eq_true hb
     simp only[RD]at r
     rcases r with⟨h1,⟨h3,_⟩|⟨a,z,c,rfl⟩⟩|⟨st,cap,l,h1,h2,⟨h3,_⟩|⟨h3,f,ver,ver',c,h4,rfl,h5⟩⟩
     ·omega
     ·refine⟨_,.ptr (bF a (m*s)),h,by simp only[cX,kg,ee,hu,hs,Nat.beq_refl,wL hm,Bool.and_self,cond_true],?_⟩
      simp only[RD]
      exact .inl ⟨h1,_,rfl⟩
     ·omega
     refine⟨_,.ptr (bF ⟨f,ver',0⟩ (m*s)),h,by simp only[cX,kg,ee,hu,hs,Nat.beq_refl,wL hm,Bool.and_self,cond_true],?_⟩
     simp only[RD]
     exact .inr ⟨f,ver,_,st,cap,l,ver',h4,h1,h2,hm,by simp only[bF,Nat.zero_add,Nat.add_zero],fun e=>(h5 e).1⟩
    ·rename_i s o st n
     obtain⟨hb,h'⟩:=ay h
     clear h
     obtain rfl:=Nat.eq_of_beq_eq_true hb
     obtain⟨m,rfl,h''⟩:=iq h'
     obtain⟨hb,h⟩:=cQ h''
     have hm:m<n:=Nat.le_of_ble_eq_true hb
     simp only[RD]at r
     obtain⟨f,ver,s',l,ver',h1,h2,h3,rfl,h5⟩:=r
     refine⟨_,.ptr (bF ⟨f,ver',0⟩ (m*s)),h,by simp only[cX,kg,ee,hu,hs,Nat.beq_refl,wL hm,Bool.and_self,cond_true],?_⟩
     simp only[RD]
     exact⟨f,ver,_,s',l,ver',h1,h2,h3,by simp only[bF,Nat.zero_add,Nat.add_zero],fun e=>⟨by have:=(h5 e).1;omega,(h5 e).2⟩⟩
    ·cases h
   ·cases h
  ·cases h
 ·cases h
theorem HM{ty:TypeId}{x i:D}{κ:D->ag}(h:iR P ty x i κ=some out){v w:V}(r:RD g x v)(ri:RD g i w):∃ d v',κ d=some out/\nK P ty (some v) (cX (some w))=some v'/\RD g d v':=by
 unfold iR at h
 split at h
 ·rename_i hu
  split at h
  ·rename_i l
   split at h
   ·grind [RD,iq,ew,mW,only,cX,kg,nK]
   ·cases h
  ·cases h
 ·rename_i len el hu
  split at h
  ·rename_i cs
   split at h
   ·rename_i sz hs
    split at h
    ·rename_i k n
     simp only[RD]at r ri
     obtain⟨vs,rfl,h1,h2⟩:=r
     subst ri
     obtain⟨m,rfl,h'⟩:=iq h
     obtain⟨hl,h3⟩:=ay h'
     grind [qc,only,cX,kg,nK]
    ·cases h
   ·cases h
  ·cases h
 ·cases h
theorem Fo{ty:TypeId}{x:D}{ok:Bool}{κ:D->ag}(h:lN P x ty ok κ=some out){v:V}(r:RD g x v):∃ d v',κ d=some out/\kz P (some v) ty ok=some v'/\RD g d v':=by
 have fail:∀ {κ:D->ag},(bif ok then(match nV P ty with|some z=>κ (.tuple [z,.bool false])|none=>none)else none)=some out->∃ d v',κ d=some out/\eP P ty ok=some v'/\RD g d v':=fun {κ} h=>by
  obtain⟨hk,h⟩:=ay h
  split at h
  ·rename_i z hz
   obtain⟨zv,h1,h2,_⟩:=iE (g:=g) hz
   grind [eP,RD,RL]
  ·cases h
 unfold lN at h
 split at h
 ·cases h
 ·rename_i td hni hu
  have hda:∀ w,kz P (some w) ty ok=match some w with
   |some .nilIface=>eP P ty ok
   |some (.iface t v)=>bif Nat.beq t ty then some (bif ok then .tuple [v,.bool true] else v)else eP P ty ok
   |_=>none:=fun w=>by
    grind [kz]
  split at h
  ·simp only[RD]at r
   obtain⟨v',rfl,h1⟩:=r
   rename_i t d
   rw[hda]
   simp only
   cases hb:Nat.beq t ty with
   |true =>
    grind [RD,RL]
   |false =>
    rw[hb]at h
    exact fail h
  ·simp only[RD]at r
   subst r
   rw[hda]
   exact fail h
  ·cases h
 ·cases h
theorem Nm{x:D}{i:Nat}{κ:D->ag}(h:di x i κ=some out){v:V}(r:RD g x v):∃ d v',κ d=some out/\nL (some v) i=some v'/\RD g d v':=by
 unfold di at h
 split at h
 ·simp only[RD]at r
  obtain⟨vs,rfl,h1⟩:=r
  obtain⟨d,h2,h3⟩:=iB h
  obtain⟨v',h4,h5⟩:=h1.at h2
  exact⟨d,v',h3,h4,h5⟩
 ·cases h
theorem OB{op:UnOp}{x:D}{κ:D->ag}(h:rl op x κ=some out){v:V}(r:RD g x v):∃ d v',κ d=some out/\IU op v=some v'/\RD g d v':=by
 unfold rl at h
 split at h
 ·split at h
  ·simp only[RD]at r;subst r;exact⟨_,_,h,rfl,by simp only[RD]⟩
  ·cases h
 ·split at h
  ·simp only[RD]at r;subst r;exact⟨_,_,h,rfl,by simp only[RD]⟩
  ·cases h
 ·cases h
theorem Lb{src dst:TypeId}{x:D}{κ:D->ag}(h:oD P src dst x κ=some out){v:V}(r:RD g x v)(s:S):∃ d v',κ d=some out/\jb P s src dst v=some (v',s)/\RD g d v':=by
 unfold oD at h
 grind [Option.isNone_some,RD,only,jb,bI,xY]
theorem MV{op:BinOp}{k:IntKind}{a b:Int}{κ:D->ag}(h:PB op k a b κ=some out):∃ d v',κ d=some out/\yJ op k a b=some v'/\RD g d v':=by
 have hz:∀ {κ:ag},boK (!(b==0)) κ=some out->(b==0)=false/\κ=some out:=fun h=>by
  grind [cQ]
 cases op
 case add=>exact⟨_,_,h,congrArg some (bI _ _),by simp only[RD]⟩
 case sub=>exact⟨_,_,h,congrArg some (bI _ _),by simp only[RD]⟩
 case mul=>exact⟨_,_,h,congrArg some (bI _ _),by simp only[RD]⟩
 case quo=>obtain⟨h1,h2⟩:=hz h;exact⟨_,.int k (k.wrap (a.tdiv b)),h2,by simp only[yJ,h1,cond_false],by simp only[RD]⟩
 case rem=>obtain⟨h1,h2⟩:=hz h;exact⟨_,.int k (a.tmod b),h2,by simp only[yJ,h1,cond_false],by simp only[RD]⟩
 all_goals first|(cases h;done)|exact⟨_,_,h,rfl,by simp only[RD]⟩
theorem LV{op:BinOp}{a b:List Nat}{κ:D->ag}(h:OI op a b κ=some out)(ha:∀ c∈a,c<256)(hb:∀ c∈b,c<256):∃ d v',κ d=some out/\uy op a b=some v'/\RD g d v':=by
 have he:jV a b=some (a==b):=by rw[pH ha hb];congr 1;rw[Bool.eq_iff_iff];simp
 cases op
 case add =>
  obtain⟨hq,h⟩:=cQ h
  refine⟨_,.str (a++b),h,by simp only[uy,hq,cond_true],?_⟩
  simp only[RD]
  refine⟨trivial,fun c hc=>?_⟩
  rcases List.mem_append.1 hc with hc|hc
  ·exact ha c hc
  ·exact hb c hc
 case eql=>exact⟨_,.bool (a==b),h,by simp only[uy,he,Option.map],by simp only[RD]⟩
 case neq=>exact⟨_,.bool (!(a==b)),h,by simp only[uy,he,Option.map],by simp only[RD]⟩
 all_goals first|(cases h;done)|exact⟨_,_,h,rfl,by simp only[RD]⟩
theorem CP{eq:TypeId->D->D->(Bool->ag)->ag}{eqv:TypeId->V->V->Option Bool}(he:∀ ty x y (κ:Bool->ag) (v w:V),eq ty x y κ=some out->RD g x v->RD g y w->∃ q,κ q=some out/\eqv ty v w=some q) :
 ∀ {fs:List Field} {xs ys:List D} {q:Bool} {κ:Bool->ag} {vs ws:List V},KS P eq fs xs ys q κ=some out->RL g xs vs->aH vs->RL g ys ws->aH ws->∃ p,κ (q&&p)=some out/\(iH P eqv fs vs ws=some p)
 |[],xs,ys,q,κ,vs,ws,h,_,_,_,_=>⟨true,by rw[Bool.and_true];exact h,rfl⟩
 |f::r,xs,ys,q,κ,vs,ws,h,h1,h2,h3,h4=>by
  simp only[KS]at h
  cases hn:(f.name == "_")with
  |true=>rw[hn]at h;cases h
  |false =>
   rw[hn]at h
   simp only[cond_false]at h
   obtain⟨a,va,k1,k2,k3⟩:=qc h h1 h2
   obtain⟨b,vb,j1,j2,j3⟩:=qc k1 h3 h4
   obtain⟨p,i1,i2⟩:=he _ _ _ _ _ _ j1 k3 j3
   obtain⟨p',i3,i4⟩:=CP he i1 h1 h2 h3 h4
   grind [Bool.and_assoc,iH]
theorem AL(okf:Ad->Bool):∀ {d:Nat} {ty:TypeId} {x y:D} {κ:Bool->ag} {v w:V},HY P d ty x y κ=some out->RD g x v->RD g y w->∃ q,κ q=some out/\ck P okf d ty v w=some q
 |0,_,_,_,_,_,_,h,_,_=>by cases h
 |d+1,ty,x,y,κ,v,w,h,r1,r2=>by
  simp only[HY]at h
  unfold ck
  split at h
  ·rename_i fs hu
   split at h
   ·simp only[RD]at r1 r2
    obtain⟨vs,rfl,h1,h2⟩:=r1
    obtain⟨ws,rfl,h3,h4⟩:=r2
    cases hs:P.stoodInHeld ty with
    |true=>rw[hs]at h;cases h
    |false =>
     rw[hs]at h
     simp only[cond_false]at h
     obtain⟨p,k1,k2⟩:=CP (eqv:=ck P okf d) (fun ty x y κ v w a b c=>AL okf (d:=d) a b c) h h1 h2 h3 h4
     grind
   ·cases h
  ·grind [RD]
  ·grind [RD]
  ·rename_i hu
   split at h
   ·simp only[RD]at r1 r2;subst r1 r2
    grind
   ·cases h
  ·rename_i hu
   split at h
   ·simp only[RD]at r1 r2
    obtain⟨rfl,ha⟩:=r1
    obtain⟨rfl,hb⟩:=r2
    refine⟨_,h,?_⟩
    rw[hu]
    simp only
    rw[pH ha hb];congr 1;rw[Bool.eq_iff_iff];simp
   ·cases h
  ·grind [RD]
  ·grind [RD]
  ·cases h
def Su:V->Nat
 |.bool _=>0|.int ..=>1|.str _=>2|.ptr _=>3|.nilptr=>4|.slice ..=>5|.nilslice=>5|.map _=>6|.nilmap=>7|.func ..=>8|.nilFunc=>9|.iface ..=>10|.nilIface=>11|.agg _=>12|.tuple _=>13|.atom _=>14
def KV:D->Nat
 |.bool _=>0|.int ..=>1|.str _=>2|.ptr ..=>3|.eptr ..=>3|.bptr ..=>3|.tptr ..=>3|.tb ..=>5|.nilptr=>4|.row ..=>5|.buf ..=>5|.nilrow=>5|.nilx=>5|.map _=>6|.nilmap=>7|.func ..=>8|.nilFunc=>9|.iface ..=>10|.nilIface=>11|.agg _=>12|.tuple _=>13|.yld _=>8|.abool=>0
theorem RD.tag{d:D}{v:V}(r:RD g d v):Su v=KV d:=by
 cases d<;>simp only[RD]at r
 case bool=>subst r;rfl
 case int=>subst r;rfl
 case str=>obtain⟨rfl,_⟩:=r;rfl
 case ptr=>obtain⟨f,ver,_,rfl⟩:=r;rfl
 case eptr=>obtain⟨a,vs,rfl,_⟩:=r;rfl
 case bptr=>rcases r with⟨_,a,rfl⟩|⟨f,ver,sz,st,cap,l,ver',_,_,_,_,rfl,_⟩<;>rfl
 case tptr=>obtain⟨f,ver,sz,s',l,ver',_,_,_,rfl,_⟩:=r;rfl
 case tb=>obtain⟨f,ver,s',l,ver',_,_,_,rfl,_⟩:=r;rfl
 case nilptr=>subst r;rfl
 case row=>rcases r with⟨_,rfl⟩|⟨_,a,z,sz',rfl⟩|⟨a,z,cap,rfl,_⟩<;>rfl
 case buf=>rcases r with⟨_,⟨_,rfl|⟨a,z,sz',rfl⟩⟩|⟨a,z,c,rfl⟩⟩|⟨st,cap,l,_,_,⟨_,rfl|⟨a,z,sz',rfl⟩⟩|⟨_,f,ver,ver',c,_,rfl,_⟩⟩<;>rfl
 case nilrow=>rcases r with rfl|⟨a,z,sz',rfl⟩<;>rfl
 case nilx=>subst r;rfl
 case map=>obtain⟨f,ver,_,rfl⟩:=r;rfl
 case nilmap=>subst r;rfl
 case func=>obtain⟨a',b',rfl,_⟩:=r;rfl
 case nilFunc=>subst r;rfl
 case iface=>obtain⟨v',rfl,_⟩:=r;rfl
 case nilIface=>subst r;rfl
 case agg=>obtain⟨vs,rfl,_⟩:=r;rfl
 case tuple=>obtain⟨vs,rfl,_⟩:=r;rfl
 case yld=>obtain⟨f,ver,_,rfl⟩:=r;rfl
 case abool=>obtain⟨q,rfl⟩:=r;rfl
theorem tN{d:D}{j:IntKind}{n:Int}(r:RD g d (.int j n)):d=.int j n:=by
 have h:=r.tag
 cases d<;>first|(cases h;done)|skip
 grind [RD]
theorem tM{d:D}{l:List Nat}(r:RD g d (.str l)):d=.str l:=by
 have h:=r.tag
 cases d<;>first|(cases h;done)|skip
 grind [RD]
theorem Jc{d:D}(r:RD g d .nilIface):d=.nilIface:=by
 have h:=r.tag
 cases d<;>first|(cases h;done)|rfl
theorem LT{d:D}{vs:List V}(r:RD g d (.agg vs)):∃ cs,d=.agg cs:=by
 have h:=r.tag
 cases d<;>first|(cases h;done)|exact⟨_,rfl⟩
theorem Be{op:BinOp}{ty:TypeId}{x y:Operand}{a b:D}{κ:D->ag}(h:aB P op ty (cY x||cY y) a b κ=some out){v w:V}(r1:RD g a v)(r2:RD g b w)(s:S):∃ d v',κ d=some out/\dJ P s op ty x y (some v) (some w)=some v'/\RD g d v':=by
 have gen:∀ {κ:D->ag},eo P op ty x y v w=true->(op=.eql->dX P (aZ s) op ty v w=(ck P (aZ s) 20 ty v w).map .bool)->(op=.neq->dX P (aZ s) op ty v w=(ck P (aZ s) 20 ty v w).map fun b=>.bool (!b)) ->
  (op=.eql/\(HY P 20 ty a b fun q=>κ (.bool q))=some out\/op=.neq/\(HY P 20 ty a b fun q=>κ (.bool !q))=some out)->∃ d v',κ d=some out/\dJ P s op ty x y (some v) (some w)=some v'/\RD g d v':=fun {κ} hg h1 h2 h=>by
  rcases h with⟨e,h⟩|⟨e,h⟩
  ·obtain⟨q,k1,k2⟩:=AL (aZ s) h r1 r2
   grind [only,dJ,Option.map,RD]
  ·obtain⟨q,k1,k2⟩:=AL (aZ s) h r1 r2
   grind [only,dJ,Option.map,RD]
 unfold aB at h
 split at h
 ·rename_i j m k n
  simp only[RD]at r1 r2;subst r1 r2
  cases hs:nE op with
  |true=>rw[hs]at h;cases h
  |false =>
   rw[hs]at h
   simp only[cond_false]at h
   obtain⟨hk,h⟩:=ay h
   obtain⟨d,v',h1,h2,h3⟩:=MV h
   refine⟨d,v',h1,?_,h3⟩
   grind [eo,lw,dJ,dX]
 ·simp only[RD]at r1 r2
  obtain⟨rfl,ha⟩:=r1
  obtain⟨rfl,hb⟩:=r2
  obtain⟨d,v',h1,h2,h3⟩:=LV h ha hb
  refine⟨d,v',h1,?_,h3⟩
  grind [eo,lw,dJ,dX]
 ·rename_i n1 n2
  obtain⟨hg,h⟩:=ay h
  have hh:op=.eql/\(HY P 20 ty a b fun q=>κ (.bool q))=some out\/op=.neq/\(HY P 20 ty a b fun q=>κ (.bool !q))=some out:=by
   grind
  refine gen ?_ (fun e=>?_) (fun e=>?_) hh
  ·unfold KI at hg
   unfold eo
   grind [Jc,LT]
  ·subst e
   unfold dX
   split
   ·obtain rfl:=tN r1
    obtain rfl:=tN r2
    grind
   ·obtain rfl:=tM r1
    obtain rfl:=tM r2
    grind
   ·rfl
  ·subst e
   unfold dX
   split
   ·obtain rfl:=tN r1
    obtain rfl:=tN r2
    grind
   ·obtain rfl:=tM r1
    obtain rfl:=tM r2
    grind
   ·rfl
def dH(H:DH)(g:Gh):Prop:=∀(o:Nat) b,H[o]? = some b->b=.dead\/g.H[o]? = some b
theorem tT{H:DH}(hs:dH H g)(hok:Ok g){o:Nat}(h:Ge H o=true):∃ st cs f,H[o]? = some (.cells st cs)/\g.O[o]? = some (some (f,0))/\∀(s':S) c,s'.get f=g.s.get f->aZ s' ⟨f,0,c⟩=true:=by
 unfold Ge at h
 split at h
 ·rename_i st cs hc
  have hg:=(hs o _ hc).resolve_left (fun e=>by cases e)
  obtain⟨f,el,vs,h1,h2,_⟩:=hok.obj o _ hg
  refine⟨st,cs,f,hc,h1,fun s' c hq=>?_⟩
  simp only[aZ,hq,h2]
  rfl
 ·cases h
theorem Gb(hok:Ok g){okf:Ad->Bool}{ty:TypeId}{td:TypeDesc}(hu:P.underlying ty=some td)(hd:xy P td=true){o1 o2 f1 f2 c1 c2:Nat}(h1:g.O[o1]? = some (some (f1,0)))(h2:g.O[o2]? = some (some (f2,0)))(k1:okf ⟨f1,0,c1⟩=true)(k2:okf ⟨f2,0,c2⟩=true) :
 ck P okf 20 ty (.ptr ⟨f1,0,c1⟩) (.ptr ⟨f2,0,c2⟩)=some (Nat.beq o1 o2&&Nat.beq c1 c2):=by
 unfold xy at hd
 split at hd
 ·rename_i e
  split at hd
  ·rename_i n hn
   have hz:Nat.beq n 0=false:=by simpa using hd
   unfold ck
   rw[hu]
   simp only[hn,hz,cond_false,BU,k1,k2,Bool.and_self,cond_true,Nat.beq_refl]
   by_cases e:o1=o2
   ·subst e
    rw[h1]at h2;cases h2
    simp only[Nat.beq_refl,cond_true,Bool.true_and]
   ·have hf:f1≠f2:=fun q=>by subst q;exact e (hok.inj _ _ _ _ _ h1 h2)
    have e1:Nat.beq f1 f2=false:=by cases q:Nat.beq f1 f2 with
     |false=>rfl
     |true=>exact(hf (Nat.eq_of_beq_eq_true q)).elim
    have e2:Nat.beq o1 o2=false:=by cases q:Nat.beq o1 o2 with
     |false=>rfl
     |true=>exact(e (Nat.eq_of_beq_eq_true q)).elim
    simp only[e1,e2,cond_false,Bool.false_and]
  ·cases hd
 ·cases hd
theorem pZ{H:DH}(hs:dH H g)(hok:Ok g){op:BinOp}{ty:TypeId}{c:Bool}{a b:D}{q:Bool->Bool}{κ:D->ag}(h:Ee P ty c op a b H q κ=some out){v w:V}(r1:RD g a v)(r2:RD g b w) :
 aB P op ty c a b κ=some out\/∃ p,κ (.bool (q p))=some out/\∀ s':S,(∀(o:Nat) st cs f v,H[o]? = some (.cells st cs)->g.O[o]? = some (some (f,v))->s'.get f=g.s.get f)->ck P (aZ s') 20 ty v w=some p/\∃ x y,v=.ptr x/\w=.ptr y:=by
 unfold Ee at h
 split at h
 ·rename_i ht
  split at h
  ·split at h
   ·obtain⟨hp,h⟩:=ay h
    simp only[Bool.and_eq_true]at hp
    obtain⟨s1,t1,f1,j1,j2,j3⟩:=tT hs hok hp.1
    obtain⟨s2,t2,f2,k1,k2,k3⟩:=tT hs hok hp.2
    simp only[RD]at r1 r2
    obtain⟨f1',v1,l1,rfl⟩:=r1
    obtain⟨f2',v2,l2,rfl⟩:=r2
    rw[j2]at l1;cases l1
    rw[k2]at l2;cases l2
    refine .inr ⟨_,h,fun s' hs'=>⟨?_,_,_,rfl,rfl⟩⟩
    unfold OT at ht
    split at ht
    ·rename_i td hu
     exact Gb hok hu ht j2 k2 (j3 s' _ (hs' _ _ _ _ _ j1 j2)) (k3 s' _ (hs' _ _ _ _ _ k1 k2))
    ·cases ht
   ·exact .inl h
  ·exact .inl h
 ·exact .inl h
theorem Lh{H:DH}(hs:dH H g)(hok:Ok g){op:BinOp}{ty:TypeId}{x y:Operand}{a b:D}{κ:D->ag}(h:wM P op ty (cY x||cY y) a b H κ=some out){v w:V}(r1:RD g a v)(r2:RD g b w):∃ d v',κ d=some out/\dJ P g.s op ty x y (some v) (some w)=some v'/\RD g d v':=by
 unfold wM at h
 split at h
 ·rcases pZ hs hok h r1 r2 with h|⟨p,h1,h2⟩
  ·exact Be h r1 r2 g.s
  ·obtain⟨h3,x',y',rfl,rfl⟩:=h2 g.s fun _ _ _ _ _ _ _=>rfl
   exact⟨_,.bool p,h1,by simp only[dJ,eo,lw,cond_true,dX,h3,Option.map],by simp only[RD]⟩
 ·rcases pZ hs hok h r1 r2 with h|⟨p,h1,h2⟩
  ·exact Be h r1 r2 g.s
  ·obtain⟨h3,x',y',rfl,rfl⟩:=h2 g.s fun _ _ _ _ _ _ _=>rfl
   exact⟨_,.bool !p,h1,by simp only[dJ,eo,lw,cond_true,dX,h3,Option.map],by simp only[RD]⟩
 ·exact Be h r1 r2 g.s
end Go.AI
set_option linter.all false
noncomputable section
namespace Go.AI
variable[fj]
variable{g:Gh}{LO:List Nat}{t:T LD}{tv:T V}{P:Program}{out:hJ}
theorem RD.one{d:D}{v:V}(r:RD g d v)(h1:KV d≠12)(h2:KV d≠13):v.one=true:=by
 have h:=r.tag
 cases v<;>first|rfl|(exfalso;first|exact h1 h.symm|exact h2 h.symm)
theorem lL{n:Nat}{d:D}{κ:List D->ag}(h:ah n d κ=some out){v:V}(r:RD g d v):∃ new,κ new=some out/\RL g new v.cells/\aH v.cells/\v.cells.length=n:=by
 unfold ah at h
 split at h
 ·simp only[RD]at r
  obtain⟨vs,rfl,h1,h2⟩:=r
  obtain⟨hb,h⟩:=ay h
  refine⟨_,h,h1,h2,?_⟩
  rw[<- Nat.eq_of_beq_eq_true hb]
  exact h1.len
 ·cases h
 ·rename_i n1 n2
  obtain⟨hb,h⟩:=ay h
  have h1:v.one=true:=r.one (by cases d<;>first|exact(n1 _ rfl).elim|(exact fun e=>by cases e)) (by cases d<;>first|exact(n2 _ rfl).elim|(exact fun e=>by cases e))
  rw[qP h1]
  exact⟨_,h,RL.one1 r,eE.2 ⟨h1,rfl⟩,(Nat.eq_of_beq_eq_true hb).symm⟩
theorem nu:∀ {cs:List D} {c:Nat} {new cs':List D} {vs ws:List V},tu cs c new=some cs'->RL g cs vs->aH vs->RL g new ws->aH ws->∃ vs',bQ vs c ws=some vs'/\RL g cs' vs'/\aH vs'/\cs'.length=cs.length
 |cs,c,[],cs',vs,ws,h,h1,h2,h3,_=>by
  simp only[RL]at h3;subst h3
  have:cs'=cs:=by cases cs<;>cases c<;>(simp only[tu]at h;cases h;rfl)
  subst this
  refine⟨vs,?_,h1,h2,rfl⟩
  cases vs<;>cases c<;>rfl
 |x::r,n+1,y::new,cs',vs,ws,h,h1,h2,h3,h4=>by
  simp only[tu]at h
  split at h
  ·rename_i l hl
   cases h
   simp only[RL]at h1
   obtain⟨v,vs',rfl,k1,k2⟩:=h1
   obtain⟨vs2,j1,j2,j3,j4⟩:=nu hl k2 (eE.1 h2).2 h3 h4
   simp only[RL]at h3
   obtain⟨w,ws',rfl,_,_⟩:=h3
   exact⟨v::vs2,by simp only[bQ,j1,Option.map],by simp only[RL];exact⟨v,vs2,rfl,k1,j2⟩,eE.2 ⟨(eE.1 h2).1,j3⟩,by simp only[List.length_cons,j4]⟩
  ·cases h
 |x::r,0,y::new,cs',vs,ws,h,h1,h2,h3,h4=>by
  simp only[tu]at h
  split at h
  ·rename_i l hl
   cases h
   simp only[RL]at h1 h3
   obtain⟨v,vs',rfl,k1,k2⟩:=h1
   obtain⟨w,ws',rfl,i1,i2⟩:=h3
   obtain⟨vs2,j1,j2,j3,j4⟩:=nu hl k2 (eE.1 h2).2 i2 (eE.1 h4).2
   exact⟨w::vs2,by simp only[bQ,j1,Option.map],by simp only[RL];exact⟨w,vs2,rfl,i1,j2⟩,eE.2 ⟨(eE.1 h4).1,j3⟩,by simp only[List.length_cons,j4]⟩
  ·cases h
 |[],c,y::new,cs',vs,ws,h,_,_,_,_=>by cases c<;>(simp only[tu]at h;cases h)
theorem uU{cs:List D}{c:Nat}{new:List D}{κ:List D->ag}(h:az cs c new κ=some out){vs ws:List V}(h1:RL g cs vs)(h2:aH vs)(h3:RL g new ws)(h4:aH ws):∃ cs' vs',κ cs'=some out/\bQ vs c ws=some vs'/\RL g cs' vs'/\aH vs'/\cs'.length=cs.length:=by
 grind [az,nu]
theorem vY(place:Nat->Option (Nat×Nat)):∀ {parts:List (Nat×Operand)} {cs:List D} {κ:List D->ag} {vs:List V},yU place t parts cs κ=some out->(∀ x∈parts,uk g LO t tv x.2)->RL g cs vs->aH vs ->
 ∃ cs' vs' ws,κ cs'=some out/\du tv parts=some ws/\oj place vs ws=some vs'/\RL g cs' vs'/\aH vs'
 |[],cs,κ,vs,h,_,h1,h2=>⟨cs,vs,[],h,rfl,rfl,h1,h2⟩
 |(i,x)::r,cs,κ,vs,h,ho,h1,h2=>by
  simp only[yU]at h
  obtain⟨d,v,h,_,k1,k2⟩:=bf h (ho (i,x) List.mem_cons_self)
  split at h
  ·cases h
  ·rename_i off n hp
   obtain⟨hn,h⟩:=ay h
   obtain⟨new,h,k3,k4,k5⟩:=lL h k2
   obtain⟨cs1,vs1,h,k6,k7,k8,_⟩:=uU h h1 h2 k3 k4
   obtain⟨cs2,vs2,ws,j1,j2,j3,j4,j5⟩:=vY place h (fun y hy=>ho y (List.mem_cons_of_mem _ hy)) k7 k8
   grind [only,du,oj,Nat.beq_refl,Bool.and_self,Option.bind]
theorem wH{ty:TypeId}{parts:List (Nat×Operand)}{z:Option D}{κ:D->ag}(h:pm P t ty parts z κ=some out)(ho:∀ x∈parts,uk g LO t tv x.2)(hz:∀ d,z=some d->∃ z,zero P ty=some z/\RL g d.cells z.cells/\aH z.cells):∃ d v,κ d=some out/\jG P ty (du tv parts)=some v/\RD g d v:=by
 unfold pm at h
 split at h
 ·rename_i z
  obtain⟨zv,h1,h3,h4⟩:=hz z rfl
  split at h
  ·rename_i fs hu
   obtain⟨ha,h⟩:=ay h
   obtain⟨cs',vs',ws,k1,k2,k3,k4,k5⟩:=vY _ h ho h3 h4
   grind [only,jG,Du,RD]
  ·rename_i nn el hu
   split at h
   ·rename_i n hn
    obtain⟨cs',vs',ws,k1,k2,k3,k4,k5⟩:=vY _ h ho h3 h4
    exact⟨_,.agg vs',k1,by simp only[jG,h1,k2,hu,hn,k3,Du],by simp only[RD];exact⟨vs',rfl,k4,k5⟩⟩
   ·cases h
  ·cases h
 ·cases h
theorem Il{ty:TypeId}{parts:List (Nat×Operand)}{κ:D->ag}(h:Fk P t ty parts κ=some out)(ho:∀ x∈parts,uk g LO t tv x.2):∃ d v,κ d=some out/\jG P ty (du tv parts)=some v/\RD g d v :=
 wH h ho fun d hd=>by obtain⟨zv,h1,_,h3,h4⟩:=iE (g:=g) hd;exact⟨zv,h1,h3,h4⟩
theorem Om:∀ {vs:List V} {ds:List D},wx vs=some ds->RL g (Sd vs ds) vs/\aH vs
 |[],ds,h=>by cases h;exact⟨by simp only[Sd,RL],rfl⟩
 |v::r,ds,h=>by
  simp only[wx]at h
  split at h
  ·rename_i d hd
   split at h
   ·rename_i l hl
    cases h
    obtain⟨h1,h2⟩:=AV (g:=g) hd
    obtain⟨h3,h4⟩:=Om hl
    refine⟨?_,by simp only[aH,h2,h4,List.all_cons]at *;simp_all⟩
    simp only[Sd,RL]
    refine⟨v,r,rfl,?_,h3⟩
    cases v<;>first|exact h1|(simp only[RD])
   ·cases h
  ·cases h
theorem Fj{ty:TypeId}{parts:List (Nat×Operand)}{κ:D->ag}(h:pm P t ty parts (IQ P ty) κ=some out)(ho:∀ x∈parts,uk g LO t tv x.2):∃ d v,κ d=some out/\jG P ty (du tv parts)=some v/\RD g d v :=
 wH h ho fun d hd=>by
  unfold IQ at hd
  split at hd
  ·rename_i cs hz
   split at hd
   ·rename_i l hl
    cases hd
    obtain⟨h1,h2⟩:=Om (g:=g) hl
    exact⟨_,hz,h1,h2⟩
   ·cases hd
  ·cases hd
theorem dH.nil(g:Gh):dH [] g:=fun o b h=>by simp at h
theorem dH.refl(g:Gh):dH g.H g:=fun _ _ h=>.inr h
theorem zZ{H:DH}{o:Nat}{κ:Nat->List D->ag}(h:aF H o κ=some out)(hs:dH H g)(hok:Ok g):∃ st cs f el vs,κ st cs=some out/\H[o]? = some (.cells st cs)/\g.H[o]? = some (.cells st cs)/\g.O[o]? = some (some (f,0))/\g.s.get f=some (.cells el false 1 [⟨0,0,vs⟩])/\RL g cs vs/\aH vs:=by
 unfold aF at h
 split at h
 ·rename_i st cs hc
  have hg:g.H[o]? = some (.cells st cs):=(hs o _ hc).resolve_left (fun e=>by cases e)
  obtain⟨f,el,vs,h1⟩:=hok.obj o _ hg
  grind
 ·cases h
theorem jJ{H:DH}{o n:Nat}{κ:Nat->Bool->Bool->List (List D)->ag}(h:gB H o n κ=some out)(hs:dH H g):∃ sz st cap l,κ sz st cap l=some out/\H[o]? = some (.buf sz st cap l)/\g.H[o]? = some (.buf sz st cap l)/\n=l.length:=by
 unfold gB at h
 split at h
 ·rename_i sz st cap l hc
  obtain⟨hb,h⟩:=ay h
  exact⟨sz,st,cap,l,h,hc,(hs o _ hc).resolve_left (fun e=>by cases e),Nat.eq_of_beq_eq_true hb⟩
 ·cases h
theorem DG{H:DH}{o s:Nat}{κ:Nat->List (List D)->ag}(h:IH H o s κ=some out)(hs:dH H g):∃ sz l,κ sz l=some out/\H[o]? = some (.tbuf sz s l)/\g.H[o]? = some (.tbuf sz s l):=by
 unfold IH at h
 split at h
 ·rename_i sz s' l hc
  obtain⟨hb,h'⟩:=ay h
  clear h
  obtain rfl:=Nat.eq_of_beq_eq_true hb
  exact⟨sz,l,h',hc,(hs o _ hc).resolve_left (fun e=>by cases e)⟩
 ·cases h
theorem EC{s:S}{f el:Nat}{vs:List V}(h:s.get f=some (.cells el false 1 [⟨0,0,vs⟩])):loadCells s ⟨f,0,0⟩ vs.length=some vs:=by
 rw[Uz h,List.drop_zero];exact cR _ _ rfl
theorem MP{ty:TypeId}{d:D}{H:DH}{κ:D->ag}(h:ft P ty d H κ=some out)(hs:dH H g)(hok:Ok g){v:V}(r:RD g d v):∃ d' v',κ d'=some out/\ig P g.s ty (some v)=some (.val v' g.s)/\RD g d' v':=by
 unfold ft at h
 split at h
 ·simp only[RD]at r
  obtain⟨a,vs,rfl,h1,h2,h3,h4⟩:=r
  obtain⟨d',v',k1,k2,k3⟩:=iM h h2 h3 h4
  exact⟨d',v',k1,by rw[gz,k2];rfl,k3⟩
 ·rename_i o c
  simp only[RD]at r
  obtain⟨f,ver,h1,rfl⟩:=r
  obtain⟨_,cs,f',el,vs,h,_,_,h2,h3,h4,h5⟩:=zZ h hs hok
  rw[h1]at h2;cases h2
  obtain⟨d',v',k1,k2,k3⟩:=iM h (a:=⟨f,0,0⟩) (by rw[<- h4.len];exact EC h3) h4 h5
  refine⟨d',v',k1,?_,k3⟩
  rw[gz,show(⟨f,0,c⟩:Ad)=bF ⟨f,0,0⟩ c by simp[bF],k2];rfl
 ·rename_i o n i c
  simp only[RD]at r
  obtain⟨sz',st',cap',l',h,_,h6,h7⟩:=jJ h hs
  rcases r with⟨⟨_,_,_,k1⟩,_⟩|⟨f,ver,sz,st,cap,l,ver',h1,h2,h3,h4,rfl,h5⟩
  ·rw[h6]at k1;cases k1
  rw[h2]at h6;cases h6
  unfold eO at h
  split at h
  ·rename_i cs hc
   obtain⟨_,i1|⟨i1,f',ver2,el,nv,vers,cells,i2,i3,i4,i5,i6,i7⟩⟩:=hok.obj o _ h2
   ·grind
   ·rw[h1]at i2;cases i2
    rw[h5 h7]
    obtain⟨vs,j1,j2,j3,j4⟩:=i7.at hc
    obtain⟨d',v',k1,k2,k3⟩:=iM h (a:=bF ⟨f,ver,0⟩ (i*sz')) (by rw[j1];exact j2) j3 j4
    refine⟨d',v',k1,?_,k3⟩
    rw[gz,show(⟨f,ver,i*sz'+c⟩:Ad)=bF (bF ⟨f,ver,0⟩ (i*sz')) c by simp[bF],k2];rfl
  ·cases h
 ·rename_i o s i c
  simp only[RD]at r
  obtain⟨sz',l',h,_,h6⟩:=DG h hs
  obtain⟨f,ver,sz,s',l,ver',h1,h2,h3,rfl,h5⟩:=r
  rw[h2]at h6;cases h6
  obtain⟨h4,rfl⟩:=h5 rfl
  unfold eO at h
  split at h
  ·rename_i cs hc
   obtain⟨_,f',ver2,el,nv,vers,cells,i2,i3,i4,i5,i6,i7⟩:=hok.obj o _ h2
   rw[h1]at i2;cases i2
   obtain⟨vs,j1,j2,j3,j4⟩:=i7.at hc
   obtain⟨d',v',k1,k2,k3⟩:=iM h (a:=bF ⟨f,ver',0⟩ (i*sz')) (by rw[j1];exact j2) j3 j4
   refine⟨d',v',k1,?_,k3⟩
   rw[gz,show(⟨f,ver',i*sz'+c⟩:Ad)=bF (bF ⟨f,ver',0⟩ (i*sz')) c by simp[bF],k2];rfl
  ·cases h
 ·cases h
theorem Cg{ty:TypeId}{x:LD}{L:LS}{H:DH}{κ:D->ag}(h:jx P ty x L H κ=some out)(hs:dH H g)(hok:Ok g)(hl:QP g L LO){v:V}(r:RS g LO x v):∃ d' v',κ d'=some out/\ig P g.s ty (some v)=some (.val v' g.s)/\RD g d' v':=by
 cases x with
 |g d=>exact MP h hs hok r
 |u=>cases h
 |lp k c =>
  simp only[jx]at h
  obtain⟨f,h1,rfl⟩:=r
  split at h
  ·rename_i st cs hc
   obtain⟨_,h2|⟨el,vs,h2,h3,h4⟩⟩:=hl k _ f hc h1
   ·simp only at h2
    subst h2
    exfalso
    unfold dq at h
    split at h
    ·split at h
     ·rename_i n _
      obtain⟨hn,h⟩:=ay h
      obtain⟨_,q⟩:=gt h
      have:=Nat.le_of_ble_eq_true hn
      grind
     ·cases h
    ·grind [iB]
    ·cases h
   ·obtain⟨d',v',k1,k2,k3⟩:=iM h (a:=⟨f,0,0⟩) (by rw[<- h3.len];exact EC h2) h3 h4
    refine⟨d',v',k1,?_,k3⟩
    rw[gz,show(⟨f,0,c⟩:Ad)=bF ⟨f,0,0⟩ c by simp[bF],k2];rfl
  ·cases h
theorem mA{ty el:TypeId}{d:TypeDesc}(h:tW P ty=some (d,el)):∃ kt,P.underlying ty=some (.map kt el)/\P.underlying kt=some d/\(qt d||xy P d)=true/\dP P kt=true:=by
 unfold tW at h
 split at h
 ·rename_i kt el' hu
  split at h
  ·rename_i d' hd
   cases hk:qt d'||xy P d' with
   |false=>rw[hk]at h;cases h
   |true =>
    rw[hk]at h;cases h
    refine⟨kt,hu,hd,hk,?_⟩
    unfold dP
    rw[hd]
    cases d<;>first|(cases hk;done)|rfl
  ·cases h
 ·cases h
def IC(H:DH)(d:D):Prop:=∀ o c,d=.ptr o c->Ge H o=true
theorem nC{H:DH}:∀ {es:List (D×D)},iP H es=true->∀ p∈es,IC H p.1
 |[],_,_,hp=>nomatch hp
 |(x,v)::r,h,p,hp=>by
  cases x
  case ptr o c =>
   simp only[iP,Bool.and_eq_true]at h
   rcases List.mem_cons.1 hp with rfl|hp
   ·intro o' c' e;cases e;exact h.1
   ·exact nC h.2 p hp
  all_goals
   simp only[iP]at h
   rcases List.mem_cons.1 hp with rfl|hp
   ·intro o' c' e;cases e
   ·exact nC h p hp
theorem nD{H:DH}(hs:dH H g)(hok:Ok g){kt:TypeId}{td:TypeDesc}(hu:P.underlying kt=some td)(hd:(qt td||xy P td)=true){a b:D}(pa:IC H a)(pb:IC H b){v w:V}{q:Bool}(h:ki a b=some q)(hf:oV td a=true)(r1:RD g a v)(r2:RD g b w):ck P (aZ g.s) 20 kt v w=some q:=by
 by_cases hp:∃ o1 c1 o2 c2,a=.ptr o1 c1/\b=.ptr o2 c2
 ·obtain⟨o1,c1,o2,c2,rfl,rfl⟩:=hp
  obtain⟨s1,t1,f1,j1,j2,j3⟩:=tT hs hok (pa o1 c1 rfl)
  obtain⟨s2,t2,f2,k1,k2,k3⟩:=tT hs hok (pb o2 c2 rfl)
  simp only[RD]at r1 r2
  obtain⟨f1',v1,l1,rfl⟩:=r1
  obtain⟨f2',v2,l2,rfl⟩:=r2
  rw[j2]at l1;cases l1
  rw[k2]at l2;cases l2
  cases h
  have hd':xy P td=true:=by
   cases td<;>first|(cases hf;done)|simpa[qt]using hd
  exact Gb hok hu hd' j2 k2 (j3 g.s _ rfl) (k3 g.s _ rfl)
 unfold ki at h
 unfold ck
 rw[hu]
 split at h
 ·simp only[RD]at r1 r2;subst r1 r2
  revert h
  cases hk:cW _ _ with
  |false=>intro h;cases h
  |true =>
   intro h
   simp only[cond_true]at h
   cases td<;>first|(cases hf;done)|(simp only[hk,cond_true];exact h)
 ·simp only[RD]at r1 r2
  obtain⟨rfl,ha⟩:=r1
  obtain⟨rfl,hb⟩:=r2
  cases h
  cases td<;>first|(cases hf;done)|(simp only;rw[pH ha hb];congr 1;rw[Bool.eq_iff_iff];simp)
 ·simp only[RD]at r1 r2;subst r1 r2
  cases h
  cases td<;>first|(cases hf;done)|rfl
 ·rename_i o c o' c'
  exact(hp ⟨o,c,o',c',rfl,rfl⟩).elim
 ·cases h
def Sj(g:Gh):Option D->Option V->Prop
 |some d,some v=>RD g d v
 |none,none=>True
 |_,_=>False
theorem pu.find{H:DH}(hs:dH H g)(hok:Ok g){kt:TypeId}{td:TypeDesc}(hu:P.underlying kt=some td)(hd:(qt td||xy P td)=true){k:D}{kv:V}(hf:oV td k=true)(pk:IC H k)(rk:RD g k kv):∀ {es:List (D×D)} {ents:List nT} {r:Option D},((∃ o c,k=.ptr o c)->∀ p∈es,IC H p.1)->pu g es ents->tz k es=some r->∃ rv,bR (ck P (aZ g.s) 20 kt) kv ents=some rv/\Sj g r rv
 |[],_,r,_,h,e=>by
  simp only[pu]at h;subst h
  cases e;exact⟨none,rfl,trivial⟩
 |(x,v)::l,_,r,ps,h,e=>by
  simp only[pu]at h
  obtain⟨⟨ke,ve,born⟩,es',rfl,h1,h2,_,h4⟩:=h
  simp only[tz]at e
  have px:∀ {q},ki k x=some q->IC H x:=fun {q} hq o c ex=>by
   subst ex
   cases k<;>first|(cases hq;done)|exact ps ⟨_,_,rfl⟩ _ List.mem_cons_self o c rfl
  split at e
  ·rename_i hq
   cases e
   exact⟨some ve,by simp only[bR,nD hs hok hu hd pk (px hq) hq hf rk h1,bR.foundKey],h2⟩
  ·rename_i hq
   obtain⟨rv,k1,k2⟩:=pu.find hs hok hu hd hf pk rk (fun e p hp=>ps e p (List.mem_cons_of_mem _ hp)) h4 e
   exact⟨rv,by simp only[bR,nD hs hok hu hd pk (px hq) hq hf rk h1,bR.foundKey,k1],k2⟩
  ·cases e
theorem wq{H:DH}{o:Nat}{κ:List (D×D)->ag}(h:lm H o κ=some out)(hs:dH H g)(hok:Ok g):∃ es f ents clock,κ es=some out/\H[o]? = some (.map es)/\g.H[o]? = some (.map es)/\g.O[o]? = some (some (f,0))/\g.s.get f=some (.map ents clock)/\pu g es ents:=by
 unfold lm at h
 split at h
 ·rename_i es hc
  have hg:g.H[o]? = some (.map es):=(hs o _ hc).resolve_left (fun e=>by cases e)
  obtain⟨f,ents,clock,h1,h2,h3⟩:=hok.obj o _ hg
  grind
 ·cases h
theorem yM{el:TypeId}{ok:Bool}{o:Option D}{κ:D->ag}(h:eH P el ok o κ=some out){rv:Option V}(hr:Sj g o rv):∃ d v,κ d=some out/\GF P el ok (some rv)=some v/\RD g d v:=by
 cases o with
 |some d =>
  cases rv with
  |none=>exact hr.elim
  |some v =>
   refine⟨_,_,h,rfl,?_⟩
   cases ok with
   |false=>exact hr
   |true=>simp only[cond_true,RD,RL];exact⟨_,rfl,v,_,rfl,hr,_,_,rfl,rfl,rfl⟩
 |none =>
  cases rv with
  |some _=>exact hr.elim
  |none =>
   simp only[eH]at h
   split at h
   ·rename_i z hz
    obtain⟨zv,h1,h2,_⟩:=iE (g:=g) hz
    grind [GF,RD,RL]
   ·cases h
theorem Km{ty:TypeId}{m k:D}{ok:Bool}{H:DH}{κ:D->ag}(h:fp P ty m k ok H κ=some out)(hs:dH H g)(hok:Ok g){mv kv:V}(r1:RD g m mv)(r2:RD g k kv):∃ d v,κ d=some out/\iZ P g.s ty (some mv) (some kv) ok=some v/\RD g d v:=by
 unfold fp at h
 split at h
 ·rename_i td el hm
  obtain⟨kt,hu,hk,hd,hsk⟩:=mA hm
  split at h
  ·obtain⟨hf,h⟩:=ay h
   simp only[RD]at r1
   obtain⟨f,ver,h1,rfl⟩:=r1
   obtain⟨es,f',ents,clock,h,_,_,h2,h3,h4⟩:=wq h hs hok
   rw[h1]at h2;cases h2
   have hh:IC H k/\((∃ o c,k=.ptr o c)->∀ p∈es,IC H p.1)/\(jv k es fun r=>eH P el ok r κ)=some out:=by
    split at h
    ·obtain⟨hp,h⟩:=ay h
     simp only[Bool.and_eq_true]at hp
     exact⟨fun o c e=>by cases e;exact hp.1,fun _=>nC hp.2,h⟩
    ·rename_i hne
     exact⟨fun o c e=>(hne o c e).elim,fun⟨o,c,e⟩=>(hne o c e).elim,h⟩
   obtain⟨pk,ps,h⟩:=hh
   unfold jv at h
   split at h
   ·rename_i r hr
    obtain⟨rv,k1,k2⟩:=h4.find (P:=P) hs hok hk hd hf pk r2 ps hr
    grind [yM,only,iZ,wk]
   ·cases h
  ·simp only[RD]at r1;subst r1
   obtain⟨d,v,j1,j2,j3⟩:=yM (g:=g) h (rv:=none) trivial
   grind [only,iZ,wk,bR]
  ·cases h
 ·cases h
theorem pu.len:∀ {es:List (D×D)} {ents:List nT},pu g es ents->ents.length=es.length
 |[],_,h=>by simp only[pu]at h;subst h;rfl
 |(x,v)::l,_,h=>by
  simp only[pu]at h
  obtain⟨e,es',rfl,_,_,_,h4⟩:=h
  simp only[List.length_cons,pu.len h4]
theorem MM{ty:TypeId}{x:D}{H:DH}{κ:D->ag}(h:fq P ty x H κ=some out)(hs:dH H g)(hok:Ok g){v:V}(r:RD g x v):∃ d v',κ d=some out/\ic P ty g.s v=some v'/\RD g d v':=by
 unfold fq at h
 split at h
 ·rename_i hu
  split at h
  ·simp only[RD]at r
   obtain⟨rfl,_⟩:=r
   exact⟨_,.int .i64 _,h,by simp only[ic,hu,bI];rfl,by simp only[RD]⟩
  ·cases h
 ·rename_i hu
  split at h
  ·rename_i l
   simp only[RD]at r
   refine⟨_,.int .i64 (l.length:Nat),h,?_,by simp only[RD]⟩
   rcases r with⟨rfl,rfl⟩|⟨rfl,a,z,sz',rfl⟩|⟨a,z,cap,rfl,_⟩
   ·simp_all[ic]
   ·simp_all[ic,bI]
   simp_all[ic,bI]
  ·rename_i n
   simp only[RD]at r
   rcases r with⟨_,⟨rfl,rfl|⟨a,z,sz',rfl⟩⟩|⟨a,z,c,rfl⟩⟩|⟨st,cap,l,_,_,⟨rfl,rfl|⟨a,z,sz',rfl⟩⟩|⟨_,f,ver,ver',c,_,rfl,_⟩⟩
   ·exact⟨_,.int .i64 0,h,by simp only[ic,hu],by simp only[RD];rfl⟩
   ·exact⟨_,.int .i64 0,h,by simp only[ic,hu,bI];rfl,by simp only[RD];rfl⟩
   ·exact⟨_,.int .i64 (n:Nat),h,by simp only[ic,hu,bI],by simp only[RD]⟩
   ·exact⟨_,.int .i64 0,h,by simp only[ic,hu],by simp only[RD];rfl⟩
   ·exact⟨_,.int .i64 0,h,by simp only[ic,hu,bI];rfl,by simp only[RD];rfl⟩
   ·exact⟨_,.int .i64 (n:Nat),h,by simp only[ic,hu,bI],by simp only[RD]⟩
  ·rename_i n
   simp only[RD]at r
   obtain⟨f,ver,s',l,ver',_,_,_,rfl,_⟩:=r
   exact⟨_,.int .i64 (n:Nat),h,by simp only[ic,hu,bI],by simp only[RD]⟩
  ·simp only[RD]at r
   refine⟨_,.int .i64 0,h,?_,by simp only[RD]⟩
   rcases r with rfl|⟨a,z,sz',rfl⟩
   ·simp_all[ic]
   simp_all[ic,bI]
  ·simp only[RD]at r;subst r
   exact⟨_,.int .i64 0,h,by simp only[ic,hu],by simp only[RD]⟩
  ·cases h
 ·rename_i hu
  split at h
  ·simp only[RD]at r
   obtain⟨f,ver,h1,rfl⟩:=r
   obtain⟨es,f',ents,clock,h,_,_,h2,h3,h4⟩:=wq h hs hok
   rw[h1]at h2;cases h2
   exact⟨_,.int .i64 (es.length:Nat),h,by simp only[ic,hu,h3,h4.len],by simp only[RD]⟩
  ·simp only[RD]at r;subst r
   exact⟨_,.int .i64 0,h,by simp only[ic,hu],by simp only[RD]⟩
  ·cases h
 ·cases h
theorem MC{q:Bool}{x y:D}{κ:D->ag}(h:Kj q x y κ=some out){v w:V}(r1:RD g x v)(r2:RD g y w):∃ d v',κ d=some out/\(bif q then HI v w else HH v w)=some v'/\RD g d v':=by
 unfold Kj at h
 split at h
 ·split at h
  ·simp only[RD]at r1 r2;subst r1 r2
   obtain⟨hk,h⟩:=ay h
   refine⟨_,_,h,?_,by simp only[RD];rfl⟩
   grind [HI,HH]
  ·cases h
 ·cases h
theorem vk{q:Bool}:∀ {l:List D} {x:D} {κ:D->ag} {ws:List V} {v:V},yx q x l κ=some out->RD g x v->RL g l ws->∃ d v',κ d=some out/\ws.foldlM (fun a b=>bif q then HI a b else HH a b) v=some v'/\RD g d v'
 |[],x,κ,ws,v,h,r1,r2=>by simp only[RL]at r2;subst r2;exact⟨x,v,h,rfl,r1⟩
 |y::l,x,κ,ws,v,h,r1,r2=>by
  simp only[RL]at r2
  obtain⟨w,ws',rfl,r3,r4⟩:=r2
  simp only[yx]at h
  obtain⟨d,v1,h,h1,h2⟩:=MC h r1 r3
  obtain⟨d',v',k1,k2,k3⟩:=vk h h2 r4
  grind
end Go.AI
set_option linter.all false
noncomputable section
namespace Go.AI
variable[fj]
variable{b:Nat}{P0:List Nat}{g:Gh}{LO:List Nat}{t:T LD}{L:LS}{tv:T V}{P:Program}{out:hJ}
def IM(g:Gh)(L:LS)(LO:List Nat)(g':Gh)(L':LS):Prop:=∀(k:Nat) st cs f,L[k]? = some (st,cs)->LO[k]? = some f->∃ st' cs',L'[k]? = some (st',cs')/\st<=st'/\(st=st'->cs'=cs/\g'.s.get f=g.s.get f)
structure Bp(g:Gh)(L:LS)(LO:List Nat)(g':Gh)(L':LS)(LO':List Nat):Prop where
 pre:LO <+: LO'
 pvn:IM g L LO g' L'
theorem IM.of{L:LS}{g g':Gh}{LO:List Nat}(hs:∀ f∈LO,g'.s.get f=g.s.get f):IM g L LO g' L:=fun _ st cs f h1 h2=>⟨st,cs,h1,Nat.le_refl _,fun _=>⟨rfl,hs f (List.mem_of_getElem? h2)⟩⟩
theorem IM.trans{x y z:Gh}{L M N:LS}{LO LO':List Nat}(h:IM x L LO y M)(hp:LO <+: LO')(k:IM y M LO' z N):IM x L LO z N:=fun i st cs f h1 h2=>by
 obtain⟨st',cs',h3,h4,h5⟩:=h i st cs f h1 h2
 obtain⟨q,rfl⟩:=hp
 obtain⟨s2,c2,k1,k2,k3⟩:=k i st' cs' f h3 (dT q h2)
 grind
theorem Bp.refl(g:Gh)(L:LS)(LO:List Nat):Bp g L LO g L LO:=⟨List.prefix_rfl,IM.of fun _ _=>rfl⟩
theorem Bp.trans{x y z:Gh}{L M N:LS}{A B C:List Nat}(h:Bp x L A y M B)(k:Bp y M B z N C):Bp x L A z N C:=⟨h.pre.trans k.pre,h.pvn.trans h.pre k.pvn⟩
theorem Bp.ps{g g':Gh}{L:LS}{LO:List Nat}(hg:g'.s=g.s):Bp g L LO g' L LO:=⟨List.prefix_rfl,IM.of fun _ _=>by rw[hg]⟩
theorem Bp.al(h:FI b P0 g t L tv LO){g':Gh}(B:dB)(hg:g'.s=g.s.alloc B):Bp g L LO g' L LO:=⟨List.prefix_rfl,IM.of fun f hf=>by rw[hg];exact aG (h.lo_lt hf)⟩
theorem Bp.op(h:FI b P0 g t L tv LO){g':Gh}{o f ver:Nat}{B:dB}(ho:g.O[o]? = some (some (f,ver)))(hg:g'.s=g.s.put f B):Bp g L LO g' L LO:=⟨List.prefix_rfl,IM.of fun f' hf=>by rw[hg];exact cq fun e=>h.lo_out hf o ver (by rw[<- e];exact ho)⟩
theorem Bp.new(h:FI b P0 g t L tv LO){g':Gh}{B:dB}(x:Nat×List D)(f:Nat)(hg:g'.s=g.s.alloc B):Bp g L LO g' (L++[x]) (LO++[f]):=⟨List.prefix_append _ _,fun _ st cs f h1 h2=>⟨st,cs,dT _ h1,Nat.le_refl _,fun _=>⟨rfl,by rw[hg];exact aG (h.lo_lt (List.mem_of_getElem? h2))⟩⟩⟩
theorem Bp.put(h:FI b P0 g t L tv LO){g':Gh}{B:dB}{k f st:Nat}{cs0:List D}(hk:L[k]? = some (st,cs0))(hf:LO[k]? = some f)(cs:List D)(hg:g'.s=g.s.put f B):Bp g L LO g' (L.set k (st+1,cs)) LO:=⟨List.prefix_rfl,fun k' st' cs' f' h1 h2=>by
 by_cases e:k=k'
 ·subst e
  rw[hk]at h1;cases h1
  exact⟨st+1,cs,aR hk,Nat.le_succ _,fun q=>by omega⟩
 ·exact⟨st',cs',by rw[cK e];exact h1,Nat.le_refl _,fun _=>⟨rfl,by rw[hg];exact cq fun q=>e (rM h.nd hf (by rw[q];exact h2))⟩⟩⟩
def ru(b:Nat)(P0:List Nat)(g:Gh)(t:T LD)(L:LS)(tv:T V)(LO:List Nat)(L':LS)(H':DH)(s':S)(Q:Gh->List Nat->Prop):Prop :=
 ∃ g' LO',g'.H=H'/\g'.s=s'/\FI b P0 g' t L' tv LO'/\Mv b g g'/\Bp g L LO g' L' LO'/\Q g' LO'
theorem ru.same(h:FI b P0 g t L tv LO){Q:Gh->List Nat->Prop}(q:Q g LO):ru b P0 g t L tv LO L g.H g.s Q:=⟨g,LO,rfl,rfl,h,.refl b g,.refl g L LO,q⟩
theorem Gp(h:FI b P0 g t L tv LO){esc:Bool}{cs:List D}{κ:xd->ag}(e:HE esc cs L g.H κ=some out){vs:List V}(hr:RL g cs vs)(ho:aH vs)(el:TypeId) :
 ∃ x L' H',κ (.val x L' H')=some out/\ru b P0 g t L tv LO L' H' (g.s.alloc (.cells el false 1 [⟨0,0,vs⟩])) fun g' LO'=>RS g' LO' x (.ptr ⟨g.s.next,0,0⟩):=by
 unfold HE at e
 cases esc with
 |true =>
  refine⟨_,_,_,e,g.obj (.cells 0 cs) (.cells el false 1 [⟨0,0,vs⟩]),LO,rfl,rfl,?_,oR h.ok h.bl _ _,.al h _ rfl,?_⟩
  ·exact h.mkobj ⟨g.s.next,el,vs,mw h.ok _ _,qe _ _,hr.mono (vG h.ok.len _ _),ho⟩
  ·show RD _ _ _
   simp only[RD]
   exact⟨g.s.next,0,mw h.ok _ _,rfl⟩
 |false =>
  refine⟨_,_,_,e,g.prv (.cells el false 1 [⟨0,0,vs⟩]),LO++[g.s.next],rfl,rfl,h.prv hr ho,Pg h.ok h.bl _,.new h _ _ rfl,?_⟩
  exact⟨g.s.next,by rw[h.own.1];exact gP _ _,rfl⟩
theorem tU:∀(l:List D) (c:Nat),tu l c []=some l
 |[],0=>rfl
 |[],_+1=>rfl
 |_::_,0=>rfl
 |_::_,_+1=>rfl
theorem Gi:∀(x r new:List D),new.length=x.length->tu (x++r) 0 new=some (new++r)
 |[],r,[],_=>tU r 0
 |a::x,r,b::new,h=>by simp only[List.cons_append,tu,Gi x r new (by simpa using h)]
 |[],_,_::_,h=>by simp at h
 |_::_,_,[],h=>by simp at h
theorem BW:∀(x r new:List D) (k:Nat),tu (x++r) (x.length+k) new=(tu r k new).map (x++·)
 |[],r,new,k=>by simp
 |a::x,r,[],k=>by rw[tU,tU];rfl
 |a::x,r,b::new,k=>by
  rw[List.cons_append,List.length_cons,show x.length+1+k=(x.length+k)+1 by omega]
  simp only[tu,BW x r (b::new) k]
  cases tu r k (b::new)<;>rfl
theorem Ei:∀(x r new:List D) (k:Nat) (x':List D),tu x k new=some x'->tu (x++r) k new=some (x'++r)
 |x,r,[],k,x',h=>by rw[tU]at h ⊢;cases h;rfl
 |a::x,r,b::new,k+1,x',h=>by
  simp only[tu]at h
  split at h
  ·rename_i l hl;cases h;simp only[List.cons_append,tu,Ei x r (b::new) k l hl]
  ·cases h
 |a::x,r,b::new,0,x',h=>by
  simp only[tu]at h
  split at h
  ·rename_i l hl;cases h;simp only[List.cons_append,tu,Ei x r new 0 l hl]
  ·cases h
 |[],r,b::new,k,x',h=>by cases k<;>(simp only[tu]at h;cases h)
theorem uT{n:Nat}:∀ {l:List (List D)} {i c:Nat} {cs cs' new:List D},(∀ x∈l,x.length=n)->l[i]? = some cs->tu cs c new=some cs'->tu l.flatten (i*n+c) new=some (l.set i cs').flatten
 |[],i,c,cs,cs',new,_,h,_=>by simp at h
 |x::l,0,c,cs,cs',new,hn,h,e=>by
  simp_all[List.flatten_cons,List.set_cons_zero,Nat.zero_mul,Nat.zero_add,Ei]
 |x::l,i+1,c,cs,cs',new,hn,h,e=>by
  simp only[List.flatten_cons,List.set_cons_succ]
  have hx:=hn x List.mem_cons_self
  rw[show(i+1)*n+c=x.length+(i*n+c)by rw[hx,Nat.add_mul];omega,BW,uT (fun y hy=>hn y (List.mem_cons_of_mem _ hy)) (by simpa using h) e]
  rfl
theorem GG{n:Nat}:∀ {l:List (List D)} {i:Nat} {cs:List D},(∀ x∈l,x.length=n)->l[i]? = some cs->(l.flatten.drop (i*n)).take n=cs
 |[],i,cs,_,h=>by simp at h
 |x::l,0,cs,hn,h=>by
  grind
 |x::l,i+1,cs,hn,h=>by
  have hx:=hn x List.mem_cons_self
  rw[List.flatten_cons,show(i+1)*n=x.length+i*n by rw[hx,Nat.add_mul];omega,<- List.drop_drop,List.drop_left]
  simp_all[GG,List.mem_cons_of_mem]
theorem iU{n:Nat}:∀ {l:List (List D)},(∀ x∈l,x.length=n)->l.flatten.length=l.length*n
 |[],_=>by simp
 |x::l,hn=>by
  rw[List.flatten_cons,List.length_append,iU (fun y hy=>hn y (List.mem_cons_of_mem _ hy)),hn x List.mem_cons_self,List.length_cons,Nat.add_mul];omega
theorem RR.flat{a:Ad}{n:Nat}{l:List (List D)}{vs:List V}(hn:∀ x∈l,x.length=n)(hl:loadCells g.s a (l.length*n)=some vs)(hr:RL g l.flatten vs)(ho:aH vs):RR g a n l:=RR.of fun i cs hx=>by
 have hi:i<l.length:=by
  grind
 have hle:i*n+n<=l.length*n:=by
  have:=Nat.mul_le_mul_right n (show i+1<=l.length from hi)
  grind
 refine⟨_,hn cs (List.mem_of_getElem? hx),gH hl hle,?_,rI (rJ ho _) _⟩
 have:=(hr.drop (i*n)).take n
 grind [GG]
theorem RR.lens:∀ {l:List (List D)} {a:Ad} {n:Nat},RR g a n l->∀ x∈l,x.length=n
 |[],_,_,_,x,hx=>by cases hx
 |y::l,a,n,r,x,hx=>by
  simp only[RR]at r
  rcases List.mem_cons.1 hx with rfl|hx
  ·grind
  ·exact RR.lens r.2 x hx
theorem xC{s:S}{a:Ad}{m n:Nat}{x y:List V}(h1:loadCells s a m=some x)(h2:loadCells s (bF a m) n=some y):loadCells s a (m+n)=some (x++y):=by
 have key:∀(u:lW),(bif Nat.ble u.lo a.c then aN m (u.cells.drop (a.c - u.lo))else none)=some x->(bif Nat.ble u.lo (a.c+m)then aN n (u.cells.drop (a.c+m - u.lo))else none)=some y->(bif Nat.ble u.lo a.c then aN (m+n) (u.cells.drop (a.c - u.lo))else none)=some (x++y):=fun u e1 e2=>by
  grind [Nat.le_of_ble_eq_true,Nat.ble,Nat.ble_eq_true_of_le,dO,List.length_drop,kM,List.drop_drop]
 unfold loadCells at h1 h2 ⊢
 simp only[bF]at h2
 split at h1
 ·rename_i hg
  rw[hg]at h2
  simp only at h2
  split at h1
  ·grind
  ·cases h1
 ·rename_i hg
  rw[hg]at h2
  simp only at h2
  split at h1
  ·grind
  ·cases h1
 ·cases h1
theorem RR.cells:∀ {l:List (List D)} {a:Ad} {n:Nat},RR g a n l->l≠[]->∃ vs,loadCells g.s a (l.length*n)=some vs/\RL g l.flatten vs/\aH vs
 |[],_,_,_,h=>(h rfl).elim
 |[x],a,n,r,_=>by
  grind [RR]
 |x::y::l,a,n,r,_=>by
  rw[RR]at r
  obtain⟨⟨vs,h1,h2,h3,h4⟩,r⟩:=r
  obtain⟨ws,k1,k2,k3⟩:=RR.cells r (by simp)
  refine⟨vs++ws,?_,?_,qd h4 k3⟩
  ·grind [xC,only,List.length_cons,Nat.add_mul]
  ·rw[List.flatten_cons];exact h3.append k2
theorem pQ{n len:Nat}(hn0:0<n):∀ {parts:List (Nat×Operand)} {l:List (List D)} {κ:List (List D)->ag} {vs:List V},mh t n len parts l κ=some out->(∀ x∈parts,uk g LO t tv x.2)->l.length=len->(∀ x∈l,x.length=n)->RL g l.flatten vs->aH vs ->
 ∃ l' vs' ws,κ l'=some out/\du tv parts=some ws/\oj (fun i=>some (i*n,n)) vs ws=some vs'/\l'.length=len/\(∀ x∈l',x.length=n)/\RL g l'.flatten vs'/\aH vs'
 |[],l,κ,vs,h,_,h1,h2,h3,h4=>⟨l,vs,[],h,rfl,rfl,h1,h2,h3,h4⟩
 |(i,x)::r,l,κ,vs,h,ho,h1,h2,h3,h4=>by
  simp only[mh]at h
  obtain⟨d,v,h,_,k1,k2⟩:=bf h (ho (i,x) List.mem_cons_self)
  obtain⟨hb,h⟩:=ay h
  have hi:i<l.length:=by rw[h1];exact Nat.le_of_ble_eq_true hb
  obtain⟨new,h,k3,k4,k5⟩:=lL h k2
  have hnl:new.length=n:=by rw[<- k5,k3.len]
  have hx:l[i]? = some l[i]:=List.getElem?_eq_getElem hi
  have hov:=uT (c:=0) (new:=new) h2 hx (by have:=Gi l[i] [] new (by rw[hnl,h2 _ (List.getElem_mem hi)]);simpa using this)
  obtain⟨vs1,j1,j2,j3,_⟩:=nu hov h3 h4 k3 k4
  have hset:∀ y∈l.set i new,y.length=n:=fun y hy=>by
   grind
  obtain⟨l',vs',ws,i1,i2,i3,i4⟩:=pQ hn0 h (fun y hy=>ho y (List.mem_cons_of_mem _ hy)) (by rw[List.length_set];exact h1) hset j2 j3
  grind [only,du,oj,Nat.beq_refl,wL,Bool.and_self,Option.bind]
theorem RL.flat_rep{z:List D}{zv:List V}(h:RL g z zv):∀ n,RL g (List.replicate n z).flatten (List.replicate n zv).flatten
 |0=>by simp[RL]
 |n+1=>by simp only[List.replicate_succ,List.flatten_cons];exact h.append (RL.flat_rep h n)
theorem uW{zv:List V}(h:aH zv):∀ n,aH (List.replicate n zv).flatten
 |0=>rfl
 |n+1=>by simp only[List.replicate_succ,List.flatten_cons];exact qd h (uW h n)
theorem ED{s:S}{el n:Nat}{vs:List V}(h:n=vs.length):loadCells (s.alloc (.cells el false 1 [⟨0,0,vs⟩])) ⟨s.next,0,0⟩ n=some vs:=by
 grind [EC,fZ]
theorem wJ(h:FI b P0 g t L tv LO){ty:TypeId}{len:Nat}{parts:List (Nat×Operand)}{κ:D->ag}(e:gV P t ty len parts κ=some out)(ho:∀ x∈parts,uk g LO t tv x.2) :
 ∃ d v s',κ d=some out/\bY P g.s ty len (du tv parts)=some (.val v s')/\ru b P0 g t L tv LO L g.H s' fun g' _=>RD g' d v:=by
 unfold gV at e
 split at e
 ·rename_i el hu
  split at e
  ·rename_i z hz
   obtain⟨zv,h1,_,h3,h4⟩:=iE (g:=g) hz
   split at e
   ·rename_i n hn
    obtain⟨hc,e⟩:=ay e
    simp only[Bool.and_eq_true,Bool.not_eq_true']at hc
    obtain⟨⟨hc1,hc2⟩,hc3⟩:=hc
    have hn0:0<n:=Nat.pos_of_ne_zero fun q=>by subst q;simp at hc2
    have hzl:z.cells.length=n:=Nat.eq_of_beq_eq_true hc3
    have hzv:zv.cells.length=n:=by rw[h3.len,hzl]
    obtain⟨l',vs',ws,k1,k2,k3,k4,k5,k6,k7⟩:=pQ hn0 e ho (List.length_replicate ..) (fun x hx=>by rw[List.eq_of_mem_replicate hx];exact hzl) (h3.flat_rep len) (uW h4 len)
    have hv:bY P g.s ty len (du tv parts)=some (.val (.slice ⟨g.s.next,0,0⟩ 0 len (some len) n) (g.s.alloc (.cells el false 1 [⟨0,0,vs'⟩]))):=by
     grind [bY,Nat.beq_refl,Bool.not_false,Bool.and_self,jY,aW,aV]
    refine⟨_,_,_,k1,hv,g.blk (.cells el false 1 [⟨0,0,vs'⟩]),LO,rfl,rfl,h.blk _,Eu h.ok h.bl _,.al h _ rfl,?_⟩
    have hfl:vs'.length=l'.length*n:=by rw[k6.len,iU k5]
    cases l' with
    |nil =>
     simp only[Jx,RD]
     exact .inr ⟨_,_,_,by rw[<- k4];rfl⟩
    |cons x r =>
     simp only[Jx,RD]
     refine .inr (.inr ⟨⟨g.s.next,0,0⟩,0,some len,by rw[k4],hn0,.inl rfl,fun c hc=>by cases hc;rw[k4];exact Nat.le_refl _,fun _=>⟨?_,fun hp=>?_,fun o v ho=>?_⟩,?_⟩)
     ·show _<(g.s.alloc _).next;rw[S.next_alloc];exact Nat.lt_succ_self _
     ·exact Nat.lt_irrefl _ (h.ok.pv _ hp)
     ·exact(Nat.lt_irrefl _ (h.ok.lt o _ v ho).1).elim
     ·exact RR.flat k5 (ED hfl.symm) (k6.mono (EB _)) k7
   ·cases e
  ·cases e
 ·cases e
theorem HG(h:FI b P0 g t L tv LO):ru b P0 g t L tv LO L (g.H++[.map []]) (g.s.alloc (.map [] 0)) fun g' _=>RD g' (.map g.H.length) (.map g.s.next):=by
 refine⟨g.obj (.map []) (.map [] 0),LO,rfl,rfl,h.mkobj ⟨g.s.next,[],0,mw h.ok _ _,qe _ _,rfl⟩,oR h.ok h.bl _ _,.al h _ rfl,?_⟩
 simp only[RD]
 exact⟨g.s.next,0,mw h.ok _ _,rfl⟩
end Go.AI
set_option linter.all false
noncomputable section
namespace Go.AI
variable[fj]
variable{b:Nat}{P0:List Nat}{g:Gh}{LO:List Nat}{t:T LD}{L:LS}{tv:T V}{P:Program}{out:hJ}
theorem sK{s:S}{ty n:Nat}{a:Ad}{v:V}(hn:size P ty=some n)(hl:v.cells.length=n):storeVar P s ty a v=storeCells s a v.cells:=by
 grind [storeVar,Nat.beq_refl]
theorem jt(h:Ok g){o f ver:Nat}(ho:g.O[o]? = some (some (f,ver))){x:DB}(hx:g.H[o]? = some x)(hn:∀ sz cap l,x≠.buf sz false cap l):¬ g.Imm f:=fun hi=>by
 obtain⟨sz,cap,l,h1⟩:=hi.2.2 o ver ho
 grind
theorem Mt{l:List (List D)}{i:Nat}{κ:List D->ag}(h:eO l i κ=some out):∃ cs,l[i]? = some cs/\κ cs=some out:=by
 grind [eO]
theorem yo{cs new:List D}{c:Nat}{κ:List D->ag}(h:az cs c new κ=some out):∃ cs',tu cs c new=some cs'/\κ cs'=some out:=by
 grind [az]
theorem Mc(h:FI b P0 g t L tv LO){d:D}{new:List D}{κ:DH->ag}(e:Me d new g.H κ=some out){v:V}(r:RD g d v){ws:List V}(h3:RL g new ws)(h4:aH ws) :
 ∃ a s' H',v=.ptr a/\κ H'=some out/\storeCells g.s a ws=some s'/\ru b P0 g t L tv LO L H' s' fun _ _=>True:=by
 unfold Me at e
 split at e
 ·rename_i o c
  simp only[RD]at r
  obtain⟨f,ver,h1,rfl⟩:=r
  obtain⟨st,cs,f',el,vs,e,_,hc,h2,k1,k2,k3⟩:=zZ e (dH.refl g) h.ok
  rw[h1]at h2;cases h2
  obtain⟨cs',vs',e,j1,j2,j3,_⟩:=uU e k2 k3 h3 h4
  have hst:=Jl k1 c ws h4 j1
  have cc:sF g o (.cells (st+1) cs') f 0 0 (.cells st cs) (.cells el false 1 [⟨0,0,vs⟩]) (.cells el false 1 [⟨0,0,vs'⟩]) :=
   ⟨h1,hc,k1,⟨fun _ _ _ _ q=>by(cases q),fun _ _ _ q=>by(cases q)⟩,fun a n ws hi ha=>by rw[ha]at hi;exact(jt h.ok h1 hc (fun _ _ _ q=>by(cases q)) hi).elim,fun s1 c1 q=>by cases q;exact⟨_,rfl⟩⟩
  refine⟨_,_,_,rfl,e,hst,g.oput o (.cells (st+1) cs') f 0 (.cells el false 1 [⟨0,0,vs'⟩]),LO,rfl,rfl,h.oput cc ?_,ir h.ok cc,.op h h1 rfl,trivial⟩
  exact⟨f,el,vs',aR h1,dc,j2.mono (jy h.ok cc),j3⟩
 ·rename_i o n i c
  simp only[RD]at r
  obtain⟨sz,st,cap,l,e,hc,hc2,hn⟩:=jJ e (dH.refl g)
  rcases r with⟨⟨_,_,_,k1⟩,_⟩|⟨f,ver,sz',st',cap',l',ver',h1,h2,h5,h6,rfl,h7⟩
  ·rw[hc2]at k1;cases k1
  rw[h2]at hc2;cases hc2
  obtain⟨hst,e⟩:=cQ e
  subst hst
  obtain⟨cs,hcs,e⟩:=Mt e
  ·obtain⟨i0,i1|⟨i1,f',ver2,el,nv,vers,cells,i2,i3,i4,i5,i6,i7⟩⟩:=h.ok.obj o _ h2
   ·rw[i1.1]at hcs;simp at hcs
   rw[h1]at i2;cases i2
   rw[h7 hn]
   obtain⟨ks,k1,k2,k3⟩:=i7.cells i1
   have hlens:=i7.lens
   have hcells:ks=cells:=by
    simp_all[loadCells,nR,Nat.sub_zero,List.drop_zero,cR,Option.some.inj]
   subst hcells
   obtain⟨cs',hcs',e⟩:=yo e
   ·have hov:=uT hlens hcs hcs'
    obtain⟨vs',j1,j2,j3,j4⟩:=nu hov k2 k3 h3 h4
    have hcl:cs'.length=sz:=by
     obtain⟨x1,x2⟩:=i7.at hcs
     grind [nu]
    have hset:∀ y∈l.set i cs',y.length=sz:=fun y hy=>by
     grind
    have hst:storeCells g.s ⟨f,ver,i*sz+c⟩ ws=some (g.s.put f (.cells el false nv [⟨ver,0,vs'⟩])):=by
     unfold storeCells
     simp only[i3,i4,nR,Bool.true_and,Nat.sub_zero,j1]
     rw[show ws.all V.one=true from h4]
     rfl
    have cc:sF g o (.buf sz true cap (l.set i cs')) f ver ver (.buf sz true cap l) (.cells el false nv vers) (.cells el false nv [⟨ver,0,vs'⟩]) :=
     ⟨h1,h2,i3,⟨fun sz1 Jl cap1 l1 q=>by cases q;exact .inr ⟨true,cap,_,rfl,by rw[List.length_set];exact Nat.le_refl _,id,fun _=>⟨rfl,rfl⟩⟩,fun _ _ _ q=>by(cases q)⟩,fun a n ws hi ha=>by rw[ha]at hi;exact(jt h.ok h1 h2 (fun _ _ _ q=>by(cases q)) hi).elim,fun _ _ q=>by cases q⟩
    refine⟨_,_,_,rfl,e,hst,g.oput o (.buf sz true cap (l.set i cs')) f ver (.cells el false nv [⟨ver,0,vs'⟩]),LO,rfl,rfl,h.oput cc ?_,ir h.ok cc,.op h h1 rfl,trivial⟩
    have hle:=jy h.ok cc
    have hvl:vs'.length=(l.set i cs').length*sz:=by rw[j2.len,iU hset]
    have hmem:(⟨ver,0,ks⟩:lW)∈vers:=(er i4).1
    refine⟨i0,.inr ⟨fun q=>i1 (by have:=congrArg List.length q;rw[List.length_set]at this;exact List.eq_nil_of_length_eq_zero (by simpa using this)),f,ver,el,nv,[⟨ver,0,vs'⟩],vs',aR h1,dc,?_,hvl,fun u hu=>?_,?_⟩⟩
    ·simp only[be,Nat.beq_refl,cond_true]
    ·simp at hu;subst hu
     exact⟨(i6 _ hmem).1,by simp⟩
    ·refine RR.flat hset ?_ (j2.mono hle) j3
     unfold loadCells
     simp only[dc,Gh.oput,be,Nat.beq_refl,cond_true,nR,Nat.sub_zero,List.drop_zero]
     exact cR _ _ hvl
 ·cases e
theorem Hp(h:FI b P0 g t L tv LO){ty:TypeId}{x:LD}{y:D}{κ:LS->DH->ag}(e:uB P ty x y L g.H κ=some out){v w:V}(r1:RS g LO x v)(r2:RD g y w) :
 ∃ s' L' H',κ L' H'=some out/\qE P g.s ty (some v) (some w)=some (.skip s')/\ru b P0 g t L tv LO L' H' s' fun _ _=>True:=by
 unfold uB at e
 split at e
 ·rename_i n hn
  dsimp only at e
  split at e
  ·cases e
  rename_i hn0
  obtain⟨new,e,k1,k2,k3⟩:=lL e r2
  cases x with
  |u=>cases e
  |g d =>
   simp only at e
   have r1:RD g d v:=r1
   obtain⟨a,s',H',rfl,e,j1,j2⟩:=Mc h e r1 k1 k2
   exact⟨s',L,H',e,by rw[tf,sK hn k3,j1];rfl,j2⟩
  |lp k c =>
   obtain⟨f,h1,rfl⟩:=r1
   simp only at e
   split at e
   ·rename_i st cs hc
    obtain⟨_,h2|⟨el,vs,h2,h3,h4⟩⟩:=h.own.2 k _ f hc h1
    ·simp only at h2
     subst h2
     obtain⟨cs',h3,_⟩:=yo e
     cases new with
     |nil=>simp only[RL]at k1;rw[k1]at k3;simp at k3;subst k3;cases hn0
     |cons a r=>cases c<;>cases h3
    ·obtain⟨cs',vs',e,j1,j2,j3,_⟩:=uU e h3 h4 k1 k2
     have hst:=Jl h2 c w.cells k2 j1
     have hp:f∈g.Pv:=by rw[h.pv];exact List.mem_append_right _ (List.mem_of_getElem? h1)
     refine⟨_,_,_,e,by rw[tf,sK hn k3,hst];rfl,g.pput f (.cells el false 1 [⟨0,0,vs'⟩]),LO,rfl,rfl,h.pput h1 h2 j2 j3,My h.ok hp (h.low f (List.mem_of_getElem? h1)) _,.put h hc h1 _ rfl,trivial⟩
   ·cases e
 ·cases e
theorem pu.upd{H:DH}(hs:dH H g)(hok:Ok g){kt:TypeId}{td:TypeDesc}(hu:P.underlying kt=some td)(hd:(qt td||xy P td)=true){k v:D}{kv vv:V}(hf:oV td k=true)(pk:IC H k)(rk:RD g k kv)(rv:RD g v vv)(ho:kv.one=true)(clock:Nat):∀ {es es':List (D×D)} {ents:List nT},((∃ o c,k=.ptr o c)->∀ p∈es,IC H p.1)->pu g es ents->vh k v es=some es' ->
 ∃ u,cF (ck P (aZ g.s) 20 kt) kv vv ents=some u/\∃ ents',(match u with|some e=>ents'=e|none=>ents'=ents++[⟨kv,vv,clock⟩])/\pu g es' ents'
 |[],es',ents,_,h,e=>by
  simp only[pu]at h;subst h
  cases e
  exact⟨none,rfl,_,rfl,⟨_,_,rfl,rk,rv,ho,rfl⟩⟩
 |(x,w)::l,es',ents,ps,h,e=>by
  simp only[pu]at h
  obtain⟨⟨ke,ve,born⟩,r',rfl,h1,h2,h3,h4⟩:=h
  simp only[vh]at e
  have px:∀ {q},ki k x=some q->IC H x:=fun {q} hq o c ex=>by
   subst ex
   cases k<;>first|(cases hq;done)|exact ps ⟨_,_,rfl⟩ _ List.mem_cons_self o c rfl
  split at e
  ·rename_i hq
   cases e
   exact⟨some (⟨kv,vv,born⟩::r'),by simp only[cF,nD hs hok hu hd pk (px hq) hq hf rk h1,cF.setKey],_,rfl,⟨_,_,rfl,rk,rv,ho,h4⟩⟩
  ·rename_i hq
   split at e
   ·rename_i r hr
    cases e
    obtain⟨u,k1,ents',k2,k3⟩:=pu.upd hs hok hu hd hf pk rk rv ho clock (fun e p hp=>ps e p (List.mem_cons_of_mem _ hp)) h4 hr
    refine⟨u.map (⟨ke,ve,born⟩::·),?_,⟨ke,ve,born⟩::ents',?_,⟨_,_,rfl,h1,h2,h3,k3⟩⟩
    ·simp only[cF,nD hs hok hu hd pk (px hq) hq hf rk h1,cF.setKey,k1]
     grind
    grind
   ·cases e
  ·cases e
theorem vJ{td:TypeDesc}{k:D}(h:oV td k=true):KV k≠12/\KV k≠13:=by
 unfold oV at h
 split at h
 ·split at h
  ·exact⟨(fun e=>by cases e),(fun e=>by cases e)⟩
  ·cases h
 ·split at h
  ·exact⟨(fun e=>by cases e),(fun e=>by cases e)⟩
  ·cases h
 ·split at h
  ·exact⟨(fun e=>by cases e),(fun e=>by cases e)⟩
  ·cases h
 ·split at h
  ·exact⟨(fun e=>by cases e),(fun e=>by cases e)⟩
  ·cases h
 ·cases h
theorem Cc(h:FI b P0 g t L tv LO){ty:TypeId}{m k v:D}{κ:DH->ag}(e:gL P ty m k v g.H κ=some out){mv kv vv:V}(r1:RD g m mv)(r2:RD g k kv)(r3:RD g v vv) :
 ∃ s' H',κ H'=some out/\eQ P g.s ty (some mv) (some kv) (some vv)=some (.skip s')/\ru b P0 g t L tv LO L H' s' fun _ _=>True:=by
 unfold gL at e
 split at e
 ·rename_i td el hm
  obtain⟨kt,hu,hk,hd,hsk⟩:=mA hm
  split at e
  ·rename_i o
   obtain⟨hf,e⟩:=ay e
   simp only[RD]at r1
   obtain⟨f,ver,h1,rfl⟩:=r1
   obtain⟨es,f',ents,clock,e,_,h0,h2,h3,h4⟩:=wq e (dH.refl g) h.ok
   rw[h1]at h2;cases h2
   have hh:IC g.H k/\((∃ o c,k=.ptr o c)->∀ p∈es,IC g.H p.1)/\(ju k v es fun es=>κ (g.H.set o (.map es)))=some out:=by
    split at e
    ·obtain⟨hp,e⟩:=ay e
     simp only[Bool.and_eq_true]at hp
     exact⟨fun o c e=>by cases e;exact hp.1,fun _=>nC hp.2,e⟩
    ·rename_i hne
     exact⟨fun o c e=>(hne o c e).elim,fun⟨o,c,e⟩=>(hne o c e).elim,e⟩
   obtain⟨pk,ps,e⟩:=hh
   unfold ju at e
   split at e
   ·rename_i es' he
    obtain⟨u,k1,ents',k2,k3⟩:=h4.upd (dH.refl g) h.ok hk hd hf pk r2 r3 (r2.one (vJ hf).1 (vJ hf).2) clock ps he
    have cc:∀ c',sF g o (.map es') f 0 0 (.map es) (.map ents clock) (.map ents' c'):=fun c' =>
     ⟨h1,h0,h3,⟨fun _ _ _ _ q=>by(cases q),fun _ _ _ q=>by(cases q)⟩,fun a n ws hi ha=>by rw[ha]at hi;exact(jt h.ok h1 h0 (fun _ _ _ q=>by(cases q)) hi).elim,fun _ _ q=>by cases q⟩
    have fin:∀ c',ru b P0 g t L tv LO L (g.H.set o (.map es')) (g.s.put f (.map ents' c')) fun _ _=>True:=fun c' =>
     ⟨g.oput o (.map es') f 0 (.map ents' c'),LO,rfl,rfl,h.oput (cc c') ⟨f,ents',c',aR h1,dc,k3.mono (jy h.ok (cc c'))⟩,ir h.ok (cc c'),.op h h1 rfl,trivial⟩
    cases u with
    |some q =>
     simp only at k2;subst k2
     exact⟨_,_,e,by simp only[eQ,hu,h3,hsk,cond_true,k1,tL],fin clock⟩
    |none =>
     simp only at k2;subst k2
     exact⟨_,_,e,by simp only[eQ,hu,h3,hsk,cond_true,k1,tL],fin (clock+1)⟩
   ·cases e
  ·cases e
 ·cases e
end Go.AI
set_option linter.all false
noncomputable section
namespace Go.AI
variable[fj]
variable{b:Nat}{P0:List Nat}{g:Gh}{LO:List Nat}{t:T LD}{L:LS}{tv:T V}{P:Program}{out:hJ}
theorem zi{sz:Nat}{st cap:Bool}{l:List (List D)}{B:dB}{el:Nat}{vs:List V}(h:Ok g)(h0:0<sz)(hl:l≠[])(hn:∀ x∈l,x.length=sz)(hB:B=.cells el false 1 [⟨0,0,vs⟩])(hr:RL g l.flatten vs)(ho:aH vs) :
 jj (g.obj (.buf sz st cap l) B) g.H.length (.buf sz st cap l):=by
 subst hB
 have hfl:vs.length=l.length*sz:=by rw[hr.len,iU hn]
 refine⟨h0,.inr ⟨hl,g.s.next,0,el,1,_,vs,mw h _ _,qe _ _,by simp only[be,Nat.beq_refl,cond_true],hfl,fun u hu=>?_,RR.flat hn (ED hfl.symm) (hr.mono (vG h.len _ _)) ho⟩⟩
 simp at hu;subst hu;exact⟨Nat.lt_succ_self _,by simp⟩
theorem MB(h:FI b P0 g t L tv LO){el ty n:Nat}(hu:P.underlying ty=some (.slice el)){κ:List (List D)->Nat->ag}(e:Kg P el n κ=some out) :
 ∃ l sz v s',κ l sz=some out/\dU P g.s ty (some n) (some n)=some (.val v s')/\ru b P0 g t L tv LO L (g.H++[.buf sz true true l]) s' fun g' _=>RD g' (.buf sz g.H.length n) v:=by
 unfold Kg at e
 split at e
 ·rename_i z hz
  obtain⟨zv,h1,_,h3,h4⟩:=iE (g:=g) hz
  split at e
  ·rename_i sz hs
   obtain⟨hc,e⟩:=ay e
   obtain⟨hd,e⟩:=cQ e
   simp only[Bool.and_eq_true,Bool.not_eq_true']at hc hd
   obtain⟨hc1,hc2⟩:=hc
   obtain⟨hd1,hd2⟩:=hd
   have hn0:0<sz:=Nat.pos_of_ne_zero fun q=>by subst q;simp at hc1
   have hzl:z.cells.length=sz:=Nat.eq_of_beq_eq_true hc2
   have hzv:zv.cells.length=sz:=by rw[h3.len,hzl]
   have hlen:∀ x∈List.replicate n z.cells,x.length=sz:=fun x hx=>by rw[List.eq_of_mem_replicate hx];exact hzl
   have hv:dU P g.s ty (some n) (some n)=some (.val (.slice ⟨g.s.next,0,0⟩ 0 n (some n) sz) (g.s.alloc (.cells el false 1 [⟨0,0,(List.replicate n zv.cells).flatten⟩]))):=by
    simp_all[dU,Nat.ble_eq_true_of_le,Nat.le_refl,Nat.beq_refl,Bool.not_false,Bool.and_self,aW,aV]
   refine⟨_,sz,_,_,e,hv,?_⟩
   cases n with
   |zero =>
    have h':=h.blk (.cells el false 1 [⟨0,0,(List.replicate 0 zv.cells).flatten⟩])
    refine⟨(g.blk (.cells el false 1 [⟨0,0,(List.replicate 0 zv.cells).flatten⟩])).acc sz true,LO,rfl,rfl,h'.acc hn0 true,(Eu h.ok h.bl _).trans (Ew h'.ok sz true),.al h _ rfl,?_⟩
    simp only[RD]
    exact .inr ⟨true,true,[],gP _ _,Nat.le_refl _,.inl ⟨rfl,.inr ⟨_,_,_,rfl⟩⟩⟩
   |succ n =>
    have hne:List.replicate (n+1) z.cells≠[]:=by simp[List.replicate_succ]
    refine⟨g.obj (.buf sz true true (List.replicate (n+1) z.cells)) (.cells el false 1 [⟨0,0,(List.replicate (n+1) zv.cells).flatten⟩]),LO,rfl,rfl,h.mkobj (zi h.ok hn0 hne hlen rfl (h3.flat_rep _) (uW h4 _)),oR h.ok h.bl _ _,.al h _ rfl,?_⟩
    simp only[RD]
    exact .inr ⟨true,true,_,gP _ _,by simp,.inr ⟨Nat.succ_pos _,g.s.next,0,0,_,mw h.ok _ _,rfl,fun _=>⟨rfl,rfl⟩⟩⟩
  ·cases e
 ·cases e
theorem Np(h:Ok g){y:D}{sz:Nat}{κ:List (List D)->ag}(e:KU y g.H sz κ=some out){v:V}(r:RD g y v)(hsz:0<sz) :
 ∃ els vs,κ els=some out/\gW g.s sz v=some (vs,els.length)/\RL g els.flatten vs/\aH vs/\∀ x∈els,x.length=sz:=by
 have emp:∀ {v:V},(v=.nilslice\/∃ a z cap sz',v=.slice a z 0 cap sz')->gW g.s sz v=some ([],0):=fun {v} hv=>by
  rcases hv with rfl|⟨a,z,cap,sz',rfl⟩<;>rfl
 have full:∀ {a:Ad} {z:Nat} {cap:Option Nat} {l:List (List D)},RR g a sz l->l≠[]->∃ vs,gW g.s sz (.slice a z l.length cap sz)=some (vs,l.length)/\RL g l.flatten vs/\aH vs/\∀ x∈l,x.length=sz:=fun {a z cap l} hr hl=>by
  obtain⟨vs,k1,k2,k3⟩:=hr.cells hl
  have h0:Nat.beq l.length 0=false:=by cases l with|nil=>exact(hl rfl).elim|cons _ _=>rfl
  have h1:Nat.beq sz 0=false:=by cases sz with|zero=>omega|succ _=>rfl
  exact⟨vs,by simp only[gW,h0,h1,Nat.beq_refl,cond_true,cond_false,k1],k2,k3,hr.lens⟩
 unfold KU at e
 split at e
 ·rename_i s l
  obtain⟨hb,e1⟩:=ay e
  clear e
  have e:=e1
  clear e1
  obtain rfl:=Nat.eq_of_beq_eq_true hb
  simp only[RD]at r
  rcases r with⟨rfl,rfl⟩|⟨rfl,a,z,sz',rfl⟩|⟨a,z,cap,rfl,_,_,_,_,h6⟩
  ·exact⟨[],[],e,emp (.inl rfl),by simp[RL],rfl,fun x hx=>by cases hx⟩
  ·exact⟨[],[],e,emp (.inr ⟨_,_,_,_,rfl⟩),by simp[RL],rfl,fun x hx=>by cases hx⟩
  ·by_cases hl:l=[]
   ·subst hl;exact⟨[],[],e,emp (.inr ⟨_,_,_,_,rfl⟩),by simp[RL],rfl,fun x hx=>by cases hx⟩
   ·obtain⟨vs,k1,k2⟩:=full (z:=z) (cap:=cap) h6 hl
    exact⟨l,vs,e,k1,k2⟩
 ·simp only[RD]at r
  refine⟨[],[],e,emp ?_,by simp[RL],rfl,fun x hx=>by cases hx⟩
  rcases r with rfl|⟨a,z,sz',rfl⟩
  ·exact .inl rfl
  ·exact .inr ⟨_,_,_,_,rfl⟩
 ·simp only[RD]at r
  exact⟨[],[],e,emp (.inl r),by simp[RL],rfl,fun x hx=>by cases hx⟩
 ·rename_i s o n
  obtain⟨hb,e1⟩:=ay e
  clear e
  obtain rfl:=Nat.eq_of_beq_eq_true hb
  obtain⟨sz',st,cap,l,e,_,h2,hn⟩:=jJ e1 (dH.refl g)
  clear e1
  simp only[RD]at r
  rcases r with⟨⟨_,_,_,k1⟩,_⟩|⟨st',cap',l',h1,_,h3⟩
  ·rw[h2]at k1;cases k1
  rw[h2]at h1;cases h1
  rcases h3 with⟨hn0,h3⟩|⟨h3,f,ver,ver',c,h4,rfl,h5⟩
  ·have:l=[]:=List.eq_nil_of_length_eq_zero (by omega)
   subst this
   refine⟨[],[],e,emp ?_,by simp[RL],rfl,fun x hx=>by cases hx⟩
   rcases h3 with rfl|⟨a,z,sz',rfl⟩
   ·exact .inl rfl
   ·exact .inr ⟨_,_,_,_,rfl⟩
  ·obtain⟨rfl,rfl⟩:=h5 hn
   obtain⟨_,i1|⟨i1,f',ver2,el,nv,vers,cells,i2,_,_,_,_,i7⟩⟩:=h.obj o _ h2
   ·rw[i1.1]at hn;simp at hn;omega
   ·rw[h4]at i2;cases i2
    subst hn
    obtain⟨vs,k1,k2⟩:=full (z:=0) (cap:=Fg cap l.length) i7 i1
    exact⟨l,vs,e,k1,k2⟩
 ·cases e
theorem CA(a c:List (List D)):(a++c).flatten=a.flatten++c.flatten:=by simp
theorem Ci{a c:List (List D)}{sz:Nat}(h:∀ x∈a,x.length=sz)(k:∀ x∈c,x.length=sz):∀ x∈a++c,x.length=sz:=fun x hx=>by
 grind
theorem mG{p:lW->Bool}:∀ {vers:List lW},(∀ u∈vers,p u=true)->vers.filter p=vers
 |[],_=>rfl
 |u::r,h=>by rw[List.filter_cons_of_pos (h u List.mem_cons_self),mG fun w hw=>h w (List.mem_cons_of_mem _ hw)]
theorem NE(h:FI b P0 g t L tv LO){ok:Nat->Bool}{sz:Nat}{x:D}{els:List (List D)}{κ:D->DH->ag}(e:fN ok sz x els g.H κ=some out){xv:V}(r:RD g x xv){vs:List V}(h1:RL g els.flatten vs)(h2:aH vs)(h3:∀ x∈els,x.length=sz)(h0:0<sz)(el:TypeId) :
 ∃ d H' v s',κ d H'=some out/\dY ok g.s el sz xv (some (vs,els.length))=some (v,s')/\ru b P0 g t L tv LO L H' s' fun g' _=>RD g' d v:=by
 unfold fN at e
 obtain⟨hm,e⟩:=cQ e
 have emp:els=[]->∀ {v:V},(v=.nilslice\/∃ a z sz',v=.slice a z 0 (some 0) sz')->dY ok g.s el sz v (some (vs,els.length))=some (v,g.s):=fun he {v} hv=>by
  grind [dY,List.length_nil,Nat.beq_refl,gj,Bool.and_self]
 have hnew:els≠[]->∀ {v:V},(v=.nilslice\/∃ a z sz',v=.slice a z 0 (some 0) sz')->dY ok g.s el sz v (some (vs,els.length))=some (.slice ⟨g.s.next,0,0⟩ 0 els.length none sz,g.s.alloc (.cells el false 1 [⟨0,0,vs⟩])):=fun he {v} hv=>by
  have hz:Nat.beq els.length 0=false:=by cases els with|nil=>exact(he rfl).elim|cons _ _=>rfl
  grind [dY,jB,aW,aV,gj,Nat.beq_refl,Bool.and_self]
 have mk:∀ {st cap:Bool} {l:List (List D)} {ws:List V},l≠[]->(∀ x∈l,x.length=sz)->RL g l.flatten ws->aH ws->ru b P0 g t L tv LO L (g.H++[.buf sz st cap l]) (g.s.alloc (.cells el false 1 [⟨0,0,ws⟩])) fun g' _=>∀ c,c=Fg cap l.length->RD g' (.buf sz g.H.length l.length) (.slice ⟨g.s.next,0,0⟩ 0 l.length c sz):=fun {st cap l ws} hl hn hr ho=>by
  refine⟨g.obj (.buf sz st cap l) (.cells el false 1 [⟨0,0,ws⟩]),LO,rfl,rfl,h.mkobj (zi h.ok h0 hl hn rfl hr ho),oR h.ok h.bl _ _,.al h _ rfl,fun c hc=>?_⟩
  simp only[RD]
  refine .inr ⟨st,cap,l,gP _ _,Nat.le_refl _,.inr ⟨?_,g.s.next,0,0,c,mw h.ok _ _,rfl,fun _=>⟨rfl,hc⟩⟩⟩
  grind
 split at e
 ·
  simp only[RD]at r
  split at e
  ·exact⟨_,_,xv,_,e,emp rfl r,ru.same h (by simp only[RD];exact r)⟩
  ·rename_i y ys
   obtain⟨g',LO',k1,k2,k3,k4,k5,k6⟩:=mk (st:=true) (cap:=false) (by simp) h3 h1 h2
   exact⟨_,_,_,_,e,hnew (by simp) r,g',LO',k1,k2,k3,k4,k5,k6 none rfl⟩
 ·
  simp only[RD]at r
  split at e
  ·exact⟨_,_,xv,_,e,emp rfl (.inl r),ru.same h (by simp only[RD];exact .inl r)⟩
  ·rename_i y ys
   obtain⟨g',LO',k1,k2,k3,k4,k5,k6⟩:=mk (st:=true) (cap:=false) (by simp) h3 h1 h2
   exact⟨_,_,_,_,e,hnew (by simp) (.inl r),g',LO',k1,k2,k3,k4,k5,k6 none rfl⟩
 ·
  rename_i s o n _
  obtain⟨hb,e1⟩:=ay e
  clear e
  obtain rfl:=Nat.eq_of_beq_eq_true hb
  obtain⟨sz',st,cap,l,e2,hc,hc2,hn⟩:=jJ e1 (dH.refl g)
  clear e1
  obtain⟨hk,e⟩:=cQ e2
  clear e2
  simp only[Bool.and_eq_true,Bool.not_eq_true']at hk
  obtain⟨hk1,hk2⟩:=hk
  simp only[RD]at r
  rcases r with⟨⟨_,_,_,k1⟩,_⟩|⟨st',cap',l',j1,_,j2⟩
  ·rw[hc2]at k1;cases k1
  rw[hc2]at j1;cases j1
  unfold grow at e
  by_cases hz:els=[]
  ·subst hz
   have hcap:cap=false:=by cases cap with|false=>rfl|true=>simp at hk2
   subst hcap
   simp only[cond_false,List.append_nil,List.length_nil,Nat.add_zero]at e
   have hH:g.H.set o (.buf s st false l)=g.H:=by
    apply List.ext_getElem?
    grind
   rw[hH,<- hn]at e
   have hv:dY ok g.s el s xv (some (vs,0))=some (xv,g.s):=by
    rcases j2 with⟨_,j2⟩|⟨j3,f,ver,ver',c,j4,rfl,j5⟩
    ·grind
    simp_all[zero,dY,Bool.false_and,Nat.beq_refl,Bool.true_and]
   exact⟨_,_,xv,_,e,hv,ru.same h (by simp only[RD];exact .inr ⟨st,false,l,hc2,by omega,j2⟩)⟩
  ·have hel:0<els.length:=by cases els with|nil=>exact(hz rfl).elim|cons _ _=>simp
   rcases j2 with⟨hn0,j2⟩|⟨j3,f,ver,ver',c,j4,rfl,j5⟩
   ·have hl:l=[]:=List.eq_nil_of_length_eq_zero (by omega)
    subst hl
    simp only[List.nil_append,List.length_nil,Nat.zero_add]at e
    cases cap with
    |true =>
     simp only[cond_true]at e
     obtain⟨g',LO',k1,k2,k3,k4,k5,k6⟩:=mk (st:=true) (cap:=false) hz h3 h1 h2
     exact⟨_,_,_,_,e,hnew hz j2,g',LO',k1,k2,k3,k4,k5,k6 none rfl⟩
    |false =>
     simp only[cond_false]at e
     have hO:g.O[o]? = some none:=by
      obtain⟨_,i1|⟨i1,_⟩⟩:=h.ok.obj o _ hc2
      ·exact i1.2
      grind
     have hfl:vs.length=els.length*s:=by rw[h1.len,iU h3]
     have hle:=Ar (B:=.cells el false 1 [⟨0,0,vs⟩]) h.ok hO hc2 rfl (st':=st) (cap':=false) id hz
     have hobj:jj (g.bnew o (.buf s st false els) (.cells el false 1 [⟨0,0,vs⟩])) o (.buf s st false els):=by
      refine⟨h0,.inr ⟨hz,g.s.next,0,el,1,_,vs,aR hO,fZ _ _,by simp only[be,Nat.beq_refl,cond_true],hfl,fun u hu=>?_,RR.flat h3 (ED hfl.symm) (h1.mono hle) h2⟩⟩
      grind
     refine⟨_,_,_,_,e,hnew hz j2,g.bnew o (.buf s st false els) (.cells el false 1 [⟨0,0,vs⟩]),LO,rfl,rfl,h.bnew hO hc2 rfl id hz hobj,Gr h.ok h.bl hO hc2 rfl id hz,.al h _ rfl,?_⟩
     simp only[RD]
     exact .inr ⟨st,false,els,aR hc2,Nat.le_refl _,.inr ⟨hel,g.s.next,0,0,none,aR hO,rfl,fun _=>⟨rfl,rfl⟩⟩⟩
   ·obtain⟨rfl,rfl⟩:=j5 hn
    obtain⟨_,i1|⟨i1,f',ver2,el0,nv,vers,cells,i2,i3,i4,i5,i6,i7⟩⟩:=h.ok.obj o _ hc2
    ·rw[i1.1]at hn;simp at hn;omega
    rw[j4]at i2;cases i2
    subst hn
    have hnz:Nat.beq l.length 0=false:=by cases l with|nil=>exact(i1 rfl).elim|cons _ _=>rfl
    have hez:Nat.beq els.length 0=false:=by cases els with|nil=>exact(hz rfl).elim|cons _ _=>rfl
    obtain⟨ks,k1,k2,k3⟩:=i7.cells i1
    have hcells:ks=cells:=by
     have:loadCells g.s ⟨f,ver',0⟩ (l.length*s)=some cells:=by
      simp_all[loadCells,nR,Nat.sub_zero,List.drop_zero,cR]
     grind
    subst hcells
    have htk:aN (l.length*s) (ks.drop (0 - 0))=some ks:=by simpa using cR _ _ i5
    have hstart:dY ok g.s el s (.slice ⟨f,ver',0⟩ 0 l.length (Fg cap l.length) s) (some (vs,els.length))=sU g.s el ⟨f,ver',0⟩ 0 l.length (Fg cap l.length) s vs els.length:=by
     simp_all[dY,Bool.false_and,Nat.beq_refl,Bool.and_self]
    have hlen2:=Ci i7.lens h3
    have hr2:RL g (l++els).flatten (ks++vs):=by rw[CA];exact k2.append h1
    have ho2:=qd k3 h2
    have hne2:l++els≠[]:=by simp[i1]
    cases cap with
    |true =>
     simp only[cond_true]at e
     obtain⟨g',LO',m1,m2,m3,m4,m5,m6⟩:=mk (st:=true) (cap:=false) hne2 hlen2 hr2 ho2
     have hno:Nat.ble (l.length+els.length) l.length=false:=by
      cases hq:Nat.ble (l.length+els.length) l.length with
      |false=>rfl
      |true=>have:=Nat.le_of_ble_eq_true hq;omega
     refine⟨_,_,_,_,e,?_,g',LO',m1,m2,m3,m4,m5,by have:=m6 none rfl;rwa [List.length_append]at this⟩
     rw[hstart]
     simp only[sU,i3,i4,nR,cond_true,htk,Fg,Av,hno,cond_false,jB,aW,aV]
    |false =>
     simp only[cond_false]at e
     have hfil:vers.filter (fun u=>Nat.ble (u.lo+u.cells.length) (0+l.length*s))=vers:=mG fun u hu=>Nat.ble_eq_true_of_le (by have:=(i6 u hu).2;omega)
     have hgrow:sU g.s el ⟨f,ver',0⟩ 0 l.length none s vs els.length=some (.slice ⟨f,nv,0⟩ 0 (l.length+els.length) none s,g.s.put f (.cells el0 false (nv+1) (⟨nv,0,ks++vs⟩::vers))):=by
      simp only[sU,i3,i4,nR,cond_true,htk,qz,hfil]
      rw[show vs.all V.one=true from h2];rfl
     have hold:∀ a n ws,a.f=f->loadCells g.s a n=some ws->loadCells (g.s.put f (.cells el0 false (nv+1) (⟨nv,0,ks++vs⟩::vers))) a n=some ws:=fun a n ws ha hld=>by
      grind [loadCells,dc,er,Nat.eq_of_beq_eq_true,be]
     have cc:sF g o (.buf s st false (l++els)) f ver' nv (.buf s st false l) (.cells el0 false nv vers) (.cells el0 false (nv+1) (⟨nv,0,ks++vs⟩::vers)) :=
      ⟨j4,hc2,i3,⟨fun sz1 Jl cap1 l1 q=>by cases q;exact .inr ⟨st,false,_,rfl,by rw[List.length_append];omega,id,fun q=>by rw[List.length_append]at q;omega⟩,fun _ _ _ q=>by(cases q)⟩,fun a n ws _ ha hld=>hold a n ws ha hld,fun _ _ q=>by cases q⟩
     have hle:=jy h.ok cc
     have hfl:(ks++vs).length=(l++els).length*s:=by rw[hr2.len,iU hlen2]
     have hobj:jj (g.oput o (.buf s st false (l++els)) f nv (.cells el0 false (nv+1) (⟨nv,0,ks++vs⟩::vers))) o (.buf s st false (l++els)):=by
      refine⟨h0,.inr ⟨hne2,f,nv,el0,nv+1,_,ks++vs,aR j4,dc,by simp only[be,Nat.beq_refl,cond_true],hfl,fun u hu=>?_,?_⟩⟩
      ·grind
      ·refine RR.flat hlen2 ?_ (hr2.mono hle) ho2
       unfold loadCells
       simp only[dc,Gh.oput,be,Nat.beq_refl,cond_true,nR,Nat.sub_zero,List.drop_zero]
       exact cR _ _ hfl
     refine⟨_,_,_,_,e,by rw[hstart];exact hgrow,g.oput o (.buf s st false (l++els)) f nv (.cells el0 false (nv+1) (⟨nv,0,ks++vs⟩::vers)),LO,rfl,rfl,h.oput cc hobj,ir h.ok cc,.op h j4 rfl,?_⟩
     simp only[RD]
     exact .inr ⟨st,false,l++els,aR hc2,by rw[List.length_append];exact Nat.le_refl _,.inr ⟨by omega,f,nv,nv,none,aR j4,rfl,fun _=>⟨rfl,rfl⟩⟩⟩
 ·
  rename_i s o st k _
  obtain⟨hb,e1⟩:=ay e
  clear e
  obtain rfl:=Nat.eq_of_beq_eq_true hb
  obtain⟨sz',l,e2,hc,hc2⟩:=DG e1 (dH.refl g)
  clear e1
  obtain⟨hk,e⟩:=cQ e2
  clear e2
  simp only[Bool.and_eq_true,Bool.not_eq_true',List.isEmpty_eq_false_iff]at hk
  obtain⟨hk1,hz⟩:=hk
  simp only[RD]at r
  obtain⟨f,ver,s',l',ver',j4,j1,_,rfl,j5⟩:=r
  rw[hc2]at j1;cases j1
  obtain⟨rfl,rfl⟩:=j5 rfl
  obtain⟨_,f',ver2,el0,nv,vers,cells,i2,i3,i4,i5,i6,i7⟩:=h.ok.obj o _ hc2
  rw[j4]at i2;cases i2
  have hez:Nat.beq els.length 0=false:=by cases els with|nil=>exact(hz rfl).elim|cons _ _=>rfl
  obtain⟨ks,k1,k2,k3⟩:∃ ks,aN (l.length*s) cells=some ks/\RL g l.flatten ks/\aH ks:=by
   by_cases i1:l=[]
   ·subst i1;exact⟨[],by simp[aN],by simp[RL],rfl⟩
   ·obtain⟨ks,k1,k2,k3⟩:=i7.cells i1
    refine⟨ks,?_,k2,k3⟩
    simpa[loadCells,i3,i4,nR]using k1
  have hlens:=i7.lens
  have hlen2:=Ci hlens h3
  have hr2:RL g (l++els).flatten (ks++vs):=by rw[CA];exact k2.append h1
  have ho2:=qd k3 h2
  have hgrow:dY ok g.s el s (.slice ⟨f,ver',0⟩ 0 l.length none s) (some (vs,els.length))=some (.slice ⟨f,nv,0⟩ 0 (l.length+els.length) none s,g.s.put f (.cells el0 false (nv+1) (⟨nv,0,ks++vs⟩::vers.filter fun u=>Nat.ble (u.lo+u.cells.length) (0+l.length*s)))):=by
   simp only[dY,hm,cond_true,gj,Bool.and_false,cond_false,Nat.beq_refl,hk1,Bool.and_self,hez,sU,i3,i4,nR,Nat.sub_zero,List.drop_zero,k1,qz]
   rw[show vs.all V.one=true from h2];rfl
  have cc:sF g o (.tbuf s (st+1) (l++els)) f ver' nv (.tbuf s st l) (.cells el0 false nv vers) (.cells el0 false (nv+1) (⟨nv,0,ks++vs⟩::vers.filter fun u=>Nat.ble (u.lo+u.cells.length) (0+l.length*s))) :=
   ⟨j4,hc2,i3,⟨fun _ _ _ _ q=>by(cases q),fun sz1 s1 l1 q=>by cases q;exact⟨_,_,rfl,Nat.lt_succ_self _⟩⟩,fun a n ws hi ha=>by rw[ha]at hi;exact(jt h.ok j4 hc2 (fun _ _ _ q=>by(cases q)) hi).elim,fun _ _ q=>by cases q⟩
  have hle:=jy h.ok cc
  have hfl:(ks++vs).length=(l++els).length*s:=by rw[hr2.len,iU hlen2]
  have hobj:jj (g.oput o (.tbuf s (st+1) (l++els)) f nv (.cells el0 false (nv+1) (⟨nv,0,ks++vs⟩::vers.filter fun u=>Nat.ble (u.lo+u.cells.length) (0+l.length*s)))) o (.tbuf s (st+1) (l++els)):=by
   refine⟨h0,f,nv,el0,nv+1,_,ks++vs,aR j4,dc,by simp only[be,Nat.beq_refl,cond_true],Nat.le_of_eq hfl.symm,fun u hu=>?_,?_⟩
   ·rcases List.mem_cons.1 hu with rfl|hu
    ·exact Nat.lt_succ_self _
    ·have:=i6 u (List.mem_filter.1 hu).1;omega
   ·refine RR.flat hlen2 ?_ (hr2.mono hle) ho2
    unfold loadCells
    simp only[dc,Gh.oput,be,Nat.beq_refl,cond_true,nR,Nat.sub_zero,List.drop_zero]
    exact cR _ _ hfl
  refine⟨_,_,_,_,e,hgrow,g.oput o (.tbuf s (st+1) (l++els)) f nv (.cells el0 false (nv+1) (⟨nv,0,ks++vs⟩::vers.filter fun u=>Nat.ble (u.lo+u.cells.length) (0+l.length*s))),LO,rfl,rfl,h.oput cc hobj,ir h.ok cc,.op h j4 rfl,?_⟩
  simp only[RD]
  exact⟨f,nv,st+1,l++els,nv,aR j4,aR hc2,Nat.le_refl _,rfl,fun _=>⟨by rw[List.length_append],rfl⟩⟩
 ·cases e
theorem Fp(h:FI b P0 g t L tv LO){sT xT:TypeId}{x y:D}{κ:D->DH->ag}(e:qT P sT xT x y g.H κ=some out){xv yv:V}(r1:RD g x xv)(r2:RD g y yv) :
 ∃ d H' v s',κ d H'=some out/\qS P sT xT g.s xv yv=some (v,s')/\ru b P0 g t L tv LO L H' s' fun g' _=>RD g' d v:=by
 unfold qT at e
 split at e
 ·rename_i elem hu
  dsimp only at e
  split at e
  ·cases e
  rename_i hni
  split at e
  ·rename_i sz hs
   split at e
   rotate_left
   ·cases e
   rename_i hok
   have h0:0<sz:=by
    grind [mN]
   obtain⟨els,vs,e,k1,k2,k3,k4⟩:=Np h.ok e r2 h0
   obtain⟨d,H',v,s',e,j1,j2⟩:=NE h e r1 k2 k3 k4 h0 elem
   exact⟨d,H',v,s',e,by simp only[qS,hu,hni,cond_true,hs,hok,k1];exact j1,j2⟩
  ·cases e
 ·cases e
end Go.AI
set_option linter.all false
noncomputable section
namespace Go.AI
variable[fj]
variable{b:Nat}{P0:List Nat}{g:Gh}{LO:List Nat}{t:T LD}{L:LS}{tv:T V}{P:Program}{out:hJ}
def nh(g:Gh):Option D->Option V->Prop
 |none,none=>True
 |some d,some v=>RD g d v
 |_,_=>False
theorem nI{x:Option Operand}{κ:Option D->ag}(h:HX t x κ=some out)(hr:∀ y,x=some y->uk g LO t tv y):∃ d v,κ d=some out/\ku tv x=some v/\nh g d v:=by
 cases x with
 |none=>exact⟨none,none,h,rfl,trivial⟩
 |some x =>
  simp only[HX]at h
  obtain⟨d,v,h1,_,h2,h3⟩:=bf h (hr x rfl)
  exact⟨some d,some v,h1,by simp only[ku,h2],h3⟩
theorem dM{o:Option D}{d:Nat}{κ:Nat->ag}(h:sv o d κ=some out){ov:Option V}(hr:nh g o ov):∃ n,κ n=some out/\ez ov d=some n/\(o=none->n=d):=by
 unfold sv at h
 split at h
 ·cases ov with
  |none=>exact hr.elim
  |some v =>
   have hr:RD g _ v:=hr
   simp only[RD]at hr
   subst hr
   obtain⟨m,rfl,h⟩:=iq h
   exact⟨m,h,rfl,fun e=>by cases e⟩
 ·cases h
 ·cases ov with
  |none=>exact⟨d,h,rfl,fun _=>rfl⟩
  |some _=>exact hr.elim
theorem nh.isSome{o:Option D}{ov:Option V}(h:nh g o ov):ov.isSome=o.isSome:=by
 cases o<;>cases ov<;>first|rfl|exact h.elim
theorem RR.take:∀ {l:List (List D)} {a:Ad} {sz:Nat} (n:Nat),RR g a sz l->RR g a sz (l.take n)
 |[],_,_,n,_=>by simp[RR]
 |x::l,a,sz,0,_=>by simp[RR]
 |x::l,a,sz,n+1,r=>by
  simp_all[RR,List.take_succ_cons,RR.take]
theorem rA{sz:Nat}{l:List (List D)}{lo hi:Option D}{κ:D->ag}(h:BI sz l lo hi κ=some out){v:V}(r:RD g (.row sz l) v){lov hiv:Option V}(r1:nh g lo lov)(r2:nh g hi hiv){ty e:TypeId}(hu:P.underlying ty=some (.slice e))(hs:size P e=some sz) :
 ∃ d v',κ d=some out/\cy P ty v lov hiv none=some v'/\RD g d v':=by
 unfold BI at h
 obtain⟨hn,e1,h1,_⟩:=dM h r2
 obtain⟨bn,e2,h2,_⟩:=dM e1 r1
 clear e1 h
 obtain⟨hb,h⟩:=cQ e2
 clear e2
 simp only[Bool.and_eq_true]at hb
 have hle:=Nat.le_of_ble_eq_true hb.1
 obtain rfl:=Nat.eq_of_beq_eq_true hb.2
 have zero:l=[]->(bD (ez lov 0)&&bD (ez hiv 0)&&bD (ez none 0))=true:=fun hl=>by
  subst hl
  have:hn=0:=by simpa using hle
  subst this
  simp only[List.length_nil]at h1
  rw[h1,h2];rfl
 simp only[RD]at r
 rcases r with⟨rfl,rfl⟩|⟨rfl,a,z,sz',rfl⟩|⟨a,z,cap,rfl,k1,k2,k3,k4,k5⟩
 ·refine⟨_,.nilslice,h,?_,by simp only[RD];exact .inl ⟨by simp,trivial⟩⟩
  simp only[cy,hu,hs,zero rfl,cond_true,Option.isSome_none,Bool.false_and,cond_false]
 ·refine⟨_,.slice a z 0 (some 0) sz',h,?_,by simp only[RD];exact .inr (.inl ⟨by simp,a,z,sz',rfl⟩)⟩
  simp only[cy,hu,hs,gj,Nat.beq_refl,Bool.and_self,Bool.or_true,cond_true,zero rfl,Option.isSome_none,Bool.false_and,Bool.not_false]
 ·by_cases hnc:(Nat.beq l.length 0&&gj cap)=true
  ·simp only[Bool.and_eq_true]at hnc
   have hl:l=[]:=List.eq_nil_of_length_eq_zero (Nat.eq_of_beq_eq_true hnc.1)
   subst hl
   refine⟨_,.slice a z 0 cap sz,h,?_,?_⟩
   ·simp only[cy,hu,hs,List.length_nil,Nat.beq_refl,hnc.2,Bool.and_self,Bool.or_true,cond_true,zero rfl,Option.isSome_none,Bool.false_and,Bool.not_false]
   ·simp only[RD];exact .inr (.inr ⟨a,z,cap,by simp,k1,k2,fun c hc=>by simp,fun q=>by simp at q,by simp[RR]⟩)
  ·have hz:(Nat.beq sz 0||(Nat.beq l.length 0&&gj cap))=false:=by
    cases sz with
    |zero=>omega
    |succ _=>cases hq:(Nat.beq l.length 0&&gj cap)with
     |true=>exact(hnc hq).elim
     |false=>rfl
   have hlt:(l.take hn).length=hn:=by rw[List.length_take];omega
   cases cap with
   |some c =>
    have hc:=k3 c rfl
    have hc0:Nat.beq c 0=false:=by
     cases hq:Nat.beq c 0 with
     |false=>rfl
     |true =>
      have:=Nat.eq_of_beq_eq_true hq
      subst this
      have hl0:l.length=0:=by omega
      rw[hl0]at hnc
      exact(hnc rfl).elim
    refine⟨_,.slice (bF a (0*sz)) 0 (hn - 0) (some (c - 0)) sz,h,?_,?_⟩
    ·simp only[cy,hu,hs,hz,cond_false,Nat.beq_refl,Option.isSome_none,Bool.false_and,Bool.not_false,Bool.and_self,cond_true,h1,h2,Nat.ble_eq_true_of_le (Nat.le_trans hle hc),nR,hc0]
    ·simp only[RD]
     refine .inr (.inr ⟨bF a (0*sz),0,some (c - 0),by rw[hlt];rfl,k1,.inl rfl,fun c' hc'=>by cases hc';rw[hlt];omega,fun q=>k4 (fun e=>by subst e;simp at q),?_⟩)
     rw[show bF a (0*sz)=a by simp[bF]]
     exact k5.take hn
   |none =>
    have hza:z=a.c:=k2.elim (fun q=>by cases q) id
    refine⟨_,.slice a z hn none sz,h,?_,?_⟩
    ·simp only[cy,hu,hs,hz,cond_false,Nat.beq_refl,Option.isSome_none,Bool.false_and,Bool.not_false,Bool.and_self,cond_true,h1,h2,hb.1,nR]
    ·simp only[RD]
     exact .inr (.inr ⟨a,z,none,by rw[hlt],k1,.inr hza,(fun c' hc'=>by cases hc'),fun q=>k4 (fun e=>by subst e;simp at q),k5.take hn⟩)
theorem pL{ty e sz:TypeId}(hu:P.underlying ty=some (.slice e))(hs:size P e=some sz){v:V}(r:RD g .nilrow v\/∃ l,RD g (.row sz l) v){lov hiv:Option V}{m:V}(h1:ez lov 0=some 0)(h2:ez hiv 0=some 0)(h3:kg m=some 0)(h4:hiv.isSome=true) :
 ∃ v',cy P ty v lov hiv (some m)=some v'/\RD g .nilrow v':=by
 have zero:(bD (ez lov 0)&&bD (ez hiv 0)&&bD (ez (some m) 0))=true:=by
  rw[h1,h2];simp only[ez,h3];rfl
 have hd:∀ d,ez hiv d=some 0:=fun d=>by
  cases hiv with
  |none=>cases h4
  |some q=>exact h2
 have hnil:cy P ty .nilslice lov hiv (some m)=some .nilslice:=by
  simp_all[cy,zero,Option.isSome_some,Bool.not_true,Bool.and_false]
 have hno:∀ a z sz',cy P ty (.slice a z 0 (some 0) sz') lov hiv (some m)=some (.slice a z 0 (some 0) sz'):=fun a z sz'=>by
  simp only[cy,hu,hs,gj,Nat.beq_refl,Bool.and_self,Bool.or_true,cond_true,zero,h4,Option.isSome_some,Bool.not_true,Bool.and_false,Bool.not_false]
 rcases r with r|⟨l,r⟩
 ·simp only[RD]at r
  rcases r with rfl|⟨a,z,sz',rfl⟩
  ·exact⟨_,hnil,by simp only[RD];exact .inl trivial⟩
  ·exact⟨_,hno a z sz',by simp only[RD];exact .inr ⟨a,z,sz',rfl⟩⟩
 ·simp only[RD]at r
  rcases r with⟨rfl,rfl⟩|⟨rfl,a,z,sz',rfl⟩|⟨a,z,cap,rfl,k1,k2,k3,k4,k5⟩
  ·exact⟨_,hnil,by simp only[RD];exact .inl trivial⟩
  ·exact⟨_,hno a z sz',by simp only[RD];exact .inr ⟨a,z,sz',rfl⟩⟩
  ·by_cases hnc:(Nat.beq l.length 0&&gj cap)=true
   ·simp only[Bool.and_eq_true]at hnc
    have hl:=Nat.eq_of_beq_eq_true hnc.1
    rw[hl]
    have hc:cap=some 0:=by
     cases cap with
     |none=>cases hnc.2
     |some c=>rw[Nat.eq_of_beq_eq_true hnc.2]
    subst hc
    exact⟨_,hno a z sz,by simp only[RD];exact .inr ⟨a,z,sz,rfl⟩⟩
   ·have hz:(Nat.beq sz 0||(Nat.beq l.length 0&&gj cap))=false:=by
     cases sz with
     |zero=>exact(Nat.lt_irrefl _ k1).elim
     |succ _=>cases hq:(Nat.beq l.length 0&&gj cap)with
      |true=>exact(hnc hq).elim
      |false=>rfl
    have hk:(cap.isSome||Nat.blt 0 l.length||Nat.beq z a.c)=true:=by
     grind [Nat.beq_refl]
    refine⟨.slice a 0 (0 - 0) (some 0) sz,?_,by simp only[RD];exact .inr ⟨a,0,sz,rfl⟩⟩
    simp only[cy,hu,hs,hz,cond_false,Nat.beq_refl,h4,Option.isSome_some,Bool.not_true,Bool.and_false,Bool.not_false,Bool.and_self,cond_true,h1,hd,h3,nR,hk]
theorem DO(h:FI b P0 g t L tv LO){ty:TypeId}{x:D}{lo hi mx:Option D}{κ:D->DH->ag}(e:cA P ty x lo hi mx g.H κ=some out){v:V}(r:RD g x v){lov hiv mxv:Option V}(r1:nh g lo lov)(r2:nh g hi hiv)(r3:nh g mx mxv) :
 ∃ d H' v',κ d H'=some out/\cy P ty v lov hiv mxv=some v'/\ru b P0 g t L tv LO L H' g.s fun g' _=>RD g' d v':=by
 unfold cA at e
 split at e
 ·rename_i hu
  split at e
  ·rename_i l
   simp only[RD]at r
   obtain⟨rfl,hb⟩:=r
   split at e
   ·cases mxv with
    |some _=>exact r3.elim
    |none =>
    obtain⟨hn,e,h1,_⟩:=dM e r2
    obtain⟨bn,e,h2,_⟩:=dM e r1
    obtain⟨hc,e⟩:=cQ e
    refine⟨_,_,.str ((l.drop bn).take (hn - bn)),e,by simp only[cy,hu,h1,h2,hc,cond_true],ru.same h ?_⟩
    simp only[RD]
    exact⟨trivial,fun c hc=>hb c (List.mem_of_mem_drop (List.mem_of_mem_take hc))⟩
   ·cases e
  ·cases e
 ·rename_i el hu
  split at e
  ·rename_i sz hs
   split at e
   ·cases mxv with
    |some _=>exact r3.elim
    |none =>
    split at e
    ·rename_i s l
     obtain⟨hb,e1⟩:=ay e
     clear e
     have hb:=Nat.eq_of_beq_eq_true hb
     subst hb
     obtain⟨d,v',e,k1,k2⟩:=rA e1 r r1 r2 hu hs
     exact⟨d,_,v',e,k1,ru.same h k2⟩
    ·rename_i s o n
     obtain⟨sz',st,cap,l,e1,hc,hc2,hn⟩:=jJ e (dH.refl g)
     clear e
     obtain⟨hb,e⟩:=cQ e1
     clear e1
     have hb:=Nat.eq_of_beq_eq_true hb
     subst hb
     simp only[RD]at r
     have hsz:sz'=s:=by
      rcases r with⟨⟨_,_,_,k1⟩,_⟩|⟨st',cap',l',j1,_⟩
      ·rw[hc2]at k1;cases k1
      grind
     subst hsz
     have hr:=Az h.ok hc2 hn r
     have r1':nh (g.frz o sz' cap l) lo lov:=by cases lo<;>cases lov<;>first|exact r1|exact RD.mono (rQ hc2) r1
     have r2':nh (g.frz o sz' cap l) hi hiv:=by cases hi<;>cases hiv<;>first|exact r2|exact RD.mono (rQ hc2) r2
     obtain⟨d,v',e2,k1,k2⟩:=rA e hr r1' r2' hu hs
     exact⟨d,_,v',e2,k1,g.frz o sz' cap l,LO,rfl,rfl,h.frz hc2,Et hc2,.ps rfl,k2⟩
    ·obtain⟨hn,e1,h1,_⟩:=dM e r2
     obtain⟨bn,e2,h2,_⟩:=dM e1 r1
     clear e e1
     obtain⟨hc,e⟩:=cQ e2
     clear e2
     simp only[Bool.and_eq_true]at hc
     obtain rfl:=Nat.eq_of_beq_eq_true hc.1
     obtain rfl:=Nat.eq_of_beq_eq_true hc.2
     have zero:(bD (ez lov 0)&&bD (ez hiv 0)&&bD (ez none 0))=true:=by rw[h1,h2];rfl
     have r0:=r
     simp only[RD]at r
     refine⟨_,_,v,e,?_,ru.same h r0⟩
     rcases r with rfl|⟨a,z,sz',rfl⟩
     ·simp only[cy,hu,hs,zero,cond_true,Option.isSome_none,Bool.false_and,cond_false]
     ·simp only[cy,hu,hs,gj,Nat.beq_refl,Bool.and_self,Bool.or_true,cond_true,zero,Option.isSome_none,Bool.false_and,Bool.not_false]
    ·cases e
   ·rename_i md
    cases mxv with
    |none=>exact r3.elim
    |some mv =>
    obtain⟨mn,e1,h3,_⟩:=dM (o:=some md) (ov:=some mv) e r3
    obtain⟨hn,e2,h1,_⟩:=dM e1 r2
    obtain⟨bn,e3,h2,_⟩:=dM e2 r1
    clear e e1 e2
    obtain⟨hc,e⟩:=ay e3
    clear e3
    simp only[Bool.and_eq_true]at hc
    obtain⟨hc1,⟨hc2,hc3⟩,hc4⟩:=hc
    obtain rfl:=Nat.eq_of_beq_eq_true hc2
    obtain rfl:=Nat.eq_of_beq_eq_true hc3
    obtain rfl:=Nat.eq_of_beq_eq_true hc4
    have h4:hiv.isSome=true:=by rw[r2.isSome];exact hc1
    split at e
    ·rename_i s l
     obtain⟨hb,e1⟩:=ay e
     clear e
     have hb:=Nat.eq_of_beq_eq_true hb
     subst hb
     obtain⟨v',k1,k2⟩:=pL (g:=g) hu hs (.inr ⟨_,r⟩) h2 h1 h3 h4
     exact⟨_,_,v',e1,k1,ru.same h k2⟩
    ·rename_i s o n
     obtain⟨sz',st,cap,l,e1,hc,hc2,hn⟩:=jJ e (dH.refl g)
     clear e
     obtain⟨hb,e⟩:=cQ e1
     clear e1
     have hb:=Nat.eq_of_beq_eq_true hb
     subst hb
     simp only[RD]at r
     have hsz:sz'=s:=by
      rcases r with⟨⟨_,_,_,k1⟩,_⟩|⟨st',cap',l',j1,_⟩
      ·rw[hc2]at k1;cases k1
      grind
     subst hsz
     have hr:=Az h.ok hc2 hn r
     obtain⟨v',k1,k2⟩:=pL hu hs (.inr ⟨_,hr⟩) h2 h1 h3 h4
     simp only[RD]at k2
     exact⟨_,_,v',e,k1,ru.same h (by simp only[RD];exact k2)⟩
    ·obtain⟨v',k1,k2⟩:=pL (g:=g) hu hs (.inl r) h2 h1 h3 h4
     exact⟨_,_,v',e,k1,ru.same h k2⟩
    ·cases e
  ·cases e
 ·cases e
theorem OD(h:FI b P0 g t L tv LO){ty:TypeId}{x:D}{lo hi mx:Option D}{κ:D->DH->ag}(e:OE P ty x lo hi mx g.H κ=some out){v:V}(r:RD g x v){lov hiv mxv:Option V}(r1:nh g lo lov)(r2:nh g hi hiv)(r3:nh g mx mxv) :
 ∃ d H' v',κ d H'=some out/\cy P ty v lov hiv mxv=some v'/\ru b P0 g t L tv LO L H' g.s fun g' _=>RD g' d v':=by
 unfold OE at e
 split at e
 ·rename_i el hu
  split at e
  ·rename_i sz hs
   split at e
   ·cases lov with
    |some _=>exact r1.elim
    |none =>
    split at e
    ·cases mxv with
     |some _=>exact r3.elim
     |none =>
     split at e
     ·rename_i k hn
      cases hiv with
      |none=>exact r2.elim
      |some hv =>
      have hv0:hv=.int k hn:=by have q:RD g (.int k hn) hv:=r2;simpa only[RD]using q
      subst hv0
      obtain⟨m,rfl,e1⟩:=iq e
      clear e r1 r2 r3
      have fin:∀ {f ver n:Nat},0<sz->m<=n->cy P ty (.slice ⟨f,ver,0⟩ 0 n none sz) none (some (.int k (m:Nat))) none=some (.slice ⟨f,ver,0⟩ 0 m none sz):=fun {f ver n} hz hm=>by
       have hz2:Nat.beq sz 0=false:=by cases sz with|zero=>cases hz|succ _=>rfl
       simp only[cy,hu,hs,hz2,gj,Bool.and_false,Bool.or_false,cond_false,Nat.beq_refl,Option.isSome_none,Bool.false_and,Bool.not_false,Bool.and_self,cond_true,ez,kg,Nat.ble_eq_true_of_le hm,nR,Nat.sub_zero]
      have cutR:∀ {f ver el nv:Nat} {vers:List lW} {cells:List V} {o s:Nat} {l:List (List D)} {x0:DB},0<sz->g.O[o]? = some (some (f,ver))->g.s.get f=some (.cells el false nv vers)->be vers ver=some ⟨ver,0,cells⟩->l.length*sz<=cells.length->(∀ u∈vers,u.v<nv)->RR g ⟨f,ver,0⟩ sz l->g.H[o]? = some x0->LG sz s x0->m<=l.length ->
       ru b P0 g t L tv LO L (g.H.set o (.tbuf sz s (l.take m))) g.s fun g' _=>RD g' (.tb sz o s m) (.slice ⟨f,ver,0⟩ 0 m none sz):=fun {f ver el nv vers cells o s l x0} hz q1 q2 q3 q4 q5 q6 q7 q8 q9=>by
       have hle:=EA (l:=l.take m) q7 q8
       have hl:(l.take m).length=m:=by rw[List.length_take];omega
       refine⟨g.cut o sz s (l.take m),LO,rfl,rfl,h.cut q7 q8 ⟨hz,f,ver,el,nv,vers,cells,q1,q2,q3,?_,q5,(q6.keep hle rfl).take m⟩,Kd q7 q8,.ps rfl,?_⟩
       ·rw[hl];exact Nat.le_trans (Nat.mul_le_mul_right _ q9) q4
       ·simp only[RD]
        exact⟨f,ver,s,l.take m,ver,q1,aR q7,Nat.le_refl _,rfl,fun _=>⟨hl.symm,rfl⟩⟩
      split at e1
      ·rename_i s o n
       obtain⟨hb,e2⟩:=ay e1
       clear e1
       have hb:=Nat.eq_of_beq_eq_true hb
       subst hb
       obtain⟨sz',st,cap,l,e3,hc,hc2,hn⟩:=jJ e2 (dH.refl g)
       clear e2
       obtain⟨hk,e⟩:=cQ e3
       clear e3
       simp only[Bool.and_eq_true,Bool.not_eq_true']at hk
       obtain⟨hk1,rfl,rfl,hk2,hk3⟩:=hk
       have hk1:=Nat.eq_of_beq_eq_true hk1
       subst hk1
       have hk2:=Nat.le_of_ble_eq_true hk2
       have hk3:0<n:=Nat.le_of_ble_eq_true hk3
       simp only[RD]at r
       rcases r with⟨⟨_,_,_,k1⟩,_⟩|⟨st',cap',l',j1,_,j2⟩
       ·rw[hc2]at k1;cases k1
       rw[hc2]at j1;cases j1
       rcases j2 with⟨j3,_⟩|⟨_,f,ver,ver',c,j4,rfl,j5⟩
       ·omega
       obtain⟨rfl,rfl⟩:=j5 hn
       obtain⟨hz,i1|⟨i1,f',ver2,el,nv,vers,cells,i2,i3,i4,i5,i6,i7⟩⟩:=h.ok.obj o _ hc2
       ·rw[i1.1]at hn;simp at hn;omega
       rw[j4]at i2;cases i2
       exact⟨_,_,_,e,fin hz hk2,cutR hz j4 i3 i4 (Nat.le_of_eq i5.symm) (fun u hu=>(i6 u hu).1) i7 hc2 (.inl ⟨_,_,rfl⟩) (by omega)⟩
      ·rename_i s o st n
       obtain⟨hb,e2⟩:=ay e1
       clear e1
       have hb:=Nat.eq_of_beq_eq_true hb
       subst hb
       obtain⟨sz',l,e3,hc,hc2⟩:=DG e2 (dH.refl g)
       clear e2
       obtain⟨hk,e⟩:=cQ e3
       clear e3
       simp only[Bool.and_eq_true]at hk
       have hk1:=Nat.eq_of_beq_eq_true hk.1
       subst hk1
       have hk2:=Nat.le_of_ble_eq_true hk.2
       simp only[RD]at r
       obtain⟨f,ver,s',l',ver',j4,j1,_,rfl,j5⟩:=r
       rw[hc2]at j1;cases j1
       obtain⟨rfl,rfl⟩:=j5 rfl
       obtain⟨hz,f',ver2,el,nv,vers,cells,i2,i3,i4,i5,i6,i7⟩:=h.ok.obj o _ hc2
       rw[j4]at i2;cases i2
       exact⟨_,_,_,e,fin hz hk2,cutR hz j4 i3 i4 i5 i6 i7 hc2 (.inr ⟨_,_,rfl,Nat.lt_succ_self _⟩) hk2⟩
      ·cases e1
     ·cases e
    ·cases e
   ·cases e
  ·cases e
 ·cases e
theorem DP{ty:TypeId}{x:D}{lo hi mx:Option D}{κ:D->DH->ag}(e:cA P ty x lo hi mx [] κ=some out){v:V}(r:RD g x v){lov hiv mxv:Option V}(r1:nh g lo lov)(r2:nh g hi hiv)(r3:nh g mx mxv) :
 ∃ d v',κ d []=some out/\cy P ty v lov hiv mxv=some v'/\RD g d v':=by
 have nob:∀ {o n:Nat} {k:Nat->Bool->Bool->List (List D)->ag},gB [] o n k=some out->False:=fun h=>by simp[gB]at h
 unfold cA at e
 split at e
 ·rename_i hu
  split at e
  ·rename_i l
   simp only[RD]at r
   obtain⟨rfl,hb⟩:=r
   split at e
   ·cases mxv with
    |some _=>exact r3.elim
    |none =>
    obtain⟨hn,e,h1,_⟩:=dM e r2
    obtain⟨bn,e,h2,_⟩:=dM e r1
    obtain⟨hc,e⟩:=cQ e
    refine⟨_,.str ((l.drop bn).take (hn - bn)),e,by simp only[cy,hu,h1,h2,hc,cond_true],?_⟩
    simp only[RD]
    exact⟨trivial,fun c hc=>hb c (List.mem_of_mem_drop (List.mem_of_mem_take hc))⟩
   ·cases e
  ·cases e
 ·rename_i el hu
  split at e
  ·rename_i sz hs
   split at e
   ·cases mxv with
    |some _=>exact r3.elim
    |none =>
    split at e
    ·rename_i s l
     obtain⟨hb,e1⟩:=ay e
     clear e
     have hb:=Nat.eq_of_beq_eq_true hb
     subst hb
     obtain⟨d,v',e,k1,k2⟩:=rA e1 r r1 r2 hu hs
     exact⟨d,v',e,k1,k2⟩
    ·exact(nob e).elim
    ·obtain⟨hn,e1,h1,_⟩:=dM e r2
     obtain⟨bn,e2,h2,_⟩:=dM e1 r1
     clear e e1
     obtain⟨hc,e⟩:=cQ e2
     clear e2
     simp only[Bool.and_eq_true]at hc
     obtain rfl:=Nat.eq_of_beq_eq_true hc.1
     obtain rfl:=Nat.eq_of_beq_eq_true hc.2
     have zero:(bD (ez lov 0)&&bD (ez hiv 0)&&bD (ez none 0))=true:=by rw[h1,h2];rfl
     have r0:=r
     simp only[RD]at r
     refine⟨_,v,e,?_,r0⟩
     rcases r with rfl|⟨a,z,sz',rfl⟩
     ·simp only[cy,hu,hs,zero,cond_true,Option.isSome_none,Bool.false_and,cond_false]
     ·simp only[cy,hu,hs,gj,Nat.beq_refl,Bool.and_self,Bool.or_true,cond_true,zero,Option.isSome_none,Bool.false_and,Bool.not_false]
    ·cases e
   ·rename_i md
    cases mxv with
    |none=>exact r3.elim
    |some mv =>
    obtain⟨mn,e1,h3,_⟩:=dM (o:=some md) (ov:=some mv) e r3
    obtain⟨hn,e2,h1,_⟩:=dM e1 r2
    obtain⟨bn,e3,h2,_⟩:=dM e2 r1
    clear e e1 e2
    obtain⟨hc,e⟩:=ay e3
    clear e3
    simp only[Bool.and_eq_true]at hc
    obtain⟨hc1,⟨hc2,hc3⟩,hc4⟩:=hc
    obtain rfl:=Nat.eq_of_beq_eq_true hc2
    obtain rfl:=Nat.eq_of_beq_eq_true hc3
    obtain rfl:=Nat.eq_of_beq_eq_true hc4
    have h4:hiv.isSome=true:=by rw[r2.isSome];exact hc1
    split at e
    ·rename_i s l
     obtain⟨hb,e1⟩:=ay e
     clear e
     have hb:=Nat.eq_of_beq_eq_true hb
     subst hb
     obtain⟨v',k1,k2⟩:=pL (g:=g) hu hs (.inr ⟨_,r⟩) h2 h1 h3 h4
     exact⟨_,v',e1,k1,k2⟩
    ·exact(nob e).elim
    ·obtain⟨v',k1,k2⟩:=pL (g:=g) hu hs (.inl r) h2 h1 h3 h4
     exact⟨_,v',e,k1,k2⟩
    ·cases e
  ·cases e
 ·cases e
end Go.AI
set_option linter.all false
noncomputable section
namespace Go.AI
variable[fj]
variable{b:Nat}{P0:List Nat}{g:Gh}{LO:List Nat}{t:T LD}{L:LS}{tv:T V}{P:Program}{out:hJ}{E:cu}
def Rf(t t':T LD)(tv:T V):Prop:=∀(Q:Nat->LD->V->Prop),(∀ i q,Q i (.g (.bool q)) (.bool q))->(∀ i x,t.get (et i)=some x->∃ v,tv.get (et i)=some v/\Q i x v)->∀ i x,t'.get (et i)=some x->∃ v,tv.get (et i)=some v/\Q i x v
theorem Rf.refl(t:T LD)(tv:T V):Rf t t tv:=fun _ _ h=>h
theorem Rf.rt{t t':T LD}(r:Rf t t' tv)(h:xP g LO t tv):xP g LO t' tv:=r (fun _ x v=>RS g LO x v) (fun _ q=>by show RD _ _ _;simp only[RD]) h
theorem uN{i:Nat}{q:Bool}(hv:tv.get (et i)=some (.bool q)):Rf t (T.set (some (.g (.bool q))) (et i) t) tv:=fun Q hq h j x hx=>by
 grind [T.get_set_same,T.get_setN]
theorem tR{x:Operand}{q:Bool}(hv:eval tv x=some (.bool q)):Rf t (FQ t x q) tv:=by
 cases x with
 |tmp i=>exact uN hv
 |_=>exact Rf.refl t tv
theorem NA{d:D}{x y:ag}(h:TW d x y=some out):∃ q,d=.bool q/\(bif q then x else y)=some out:=by
 unfold TW at h
 grind
theorem zj{x y:ag}(h:GU x y=some out):x=some out/\y=some out:=by
 grind [GU]
theorem Bb{d:D}{x y:ag}(h:brD d x y=some out){v:V}(r:RD g d v):∃ q,v=.bool q/\(bif q then x else y)=some out:=by
 unfold brD at h
 grind [RD,zj]
theorem Mw{P:Program}{op:BinOp}{ty el:TypeId}{x y:Operand}{d:D}{κ:D->ag}(h:HD op d κ=some out)(hu:P.underlying ty=some (.slice el)){v w:V}(r:RD g d v)(hy:oX y=true)(hw:eval tv y=some w)(s:S) :
 ∃ d' v',κ d'=some out/\dJ P s op ty x y (some v) (some w)=some v'/\RD g d' v':=by
 have hw2:w=.nilslice:=by
  unfold oX at hy
  grind [eval,Option.some.inj]
 subst hw2
 unfold HD at h
 obtain⟨hq,h⟩:=ay h
 have key:∀ {v:V},(v=.nilslice\/∃ a z n c sz,v=.slice a z n c sz)->∃ q,dJ P s op ty x y (some v) (some .nilslice)=some (.bool q)/\((∃ a z n c sz,v=.slice a z n c sz)->q=Pd op):=fun {v} hv=>by
  have hg:eo P op ty x y v .nilslice=true:=by
   grind [eo]
  simp only[dJ,hg,cond_true]
  rcases hv with rfl|⟨a,z,n,c,sz,rfl⟩
  ·cases op<;>first|(cases hq;done)|(simp only[dX,ck,hu,Option.map];exact⟨_,rfl,fun⟨a,z,n,c,sz,q⟩=>by cases q⟩)
  ·cases op<;>first|(cases hq;done)|(simp only[dX,ck,hu,Option.map];exact⟨_,rfl,fun _=>rfl⟩)
 split at h
 ·simp only[RD]at r
  obtain⟨q,h1,_⟩:=key (v:=v) (by rcases r with rfl|⟨a,z,sz,rfl⟩;exact .inl rfl;exact .inr ⟨_,_,_,_,_,rfl⟩)
  exact⟨_,_,h,h1,by simp only[RD];exact⟨q,rfl⟩⟩
 ·rename_i sz l _
  simp only[RD]at r
  cases l with
  |nil =>
   obtain⟨q,h1,_⟩:=key (v:=v) (by rcases r with⟨_,rfl⟩|⟨_,a,z,sz,rfl⟩|⟨a,z,cap,rfl,_⟩;exact .inl rfl;exact .inr ⟨_,_,_,_,_,rfl⟩;exact .inr ⟨_,_,_,_,_,rfl⟩)
   exact⟨_,_,h,h1,by simp only[RD];exact⟨q,rfl⟩⟩
  |cons e l =>
   rcases r with⟨q,_⟩|⟨q,_⟩|⟨a,z,cap,rfl,_⟩
   ·cases q
   ·cases q
   ·obtain⟨q,h1,h2⟩:=key (v:=.slice a z (e::l).length cap sz) (.inr ⟨_,_,_,_,_,rfl⟩)
    refine⟨_,_,h,h1,?_⟩
    rw[h2 ⟨_,_,_,_,_,rfl⟩]
    show RD _ _ _
    simp only[RD]
 ·rename_i sz o n _
  simp only[RD]at r
  have hv:(v=.nilslice\/∃ a z n c sz,v=.slice a z n c sz)/\(0<n->∃ a z n c sz,v=.slice a z n c sz):=by
   rcases r with⟨_,r⟩|⟨_,_,_,_,_,r⟩
   ·rcases r with⟨h0,r⟩|⟨a,z,c,rfl⟩
    ·refine⟨?_,fun q=>by omega⟩
     rcases r with rfl|⟨a,z,sz',rfl⟩
     ·exact .inl rfl
     ·exact .inr ⟨_,_,_,_,_,rfl⟩
    ·exact⟨.inr ⟨_,_,_,_,_,rfl⟩,fun _=>⟨_,_,_,_,_,rfl⟩⟩
   ·rcases r with⟨h0,r⟩|⟨_,f,ver,ver',cap',_,rfl,_⟩
    ·refine⟨?_,fun q=>by omega⟩
     rcases r with rfl|⟨a,z,sz',rfl⟩
     ·exact .inl rfl
     ·exact .inr ⟨_,_,_,_,_,rfl⟩
    ·exact⟨.inr ⟨_,_,_,_,_,rfl⟩,fun _=>⟨_,_,_,_,_,rfl⟩⟩
  obtain⟨q,h1,h2⟩:=key hv.1
  cases n with
  |zero=>exact⟨_,_,h,h1,by simp only[RD];exact⟨q,rfl⟩⟩
  |succ n =>
   refine⟨_,_,h,h1,?_⟩
   rw[h2 (hv.2 (by omega))]
   show RD _ _ _
   simp only[RD]
 ·cases h
theorem uk.set{x:Operand}{q:Bool}{c:Operand}(hc:eval tv c=some (.bool q))(h:uk g LO t tv x):uk g LO (FQ t c q) tv x:=by
 intro y hy
 cases x with
 |tmp j =>
  cases c with
  |tmp i =>
   simp only[gm,FQ]at hy
   by_cases hd:i=j
   ·subst hd
    rw[T.get_set_same]at hy
    cases hy
    exact⟨_,hc,by show RD _ _ _;simp only[RD]⟩
   ·rw[T.get_setN,if_neg hd]at hy
    exact h y hy
  |_=>exact h y hy
 |_=>exact h y hy
theorem Uv{ty:TypeId}{x:D}{lo hi mx:Option D}{κ:D->DH->ag}(e:OE P ty x lo hi mx [] κ=some out):False:=by
 unfold OE at e
 split at e
 ·split at e
  ·split at e
   ·split at e
    ·split at e
     ·obtain⟨m,_,e1⟩:=iq e
      split at e1
      ·have:=(ay e1).2;simp[gB]at this
      ·have:=(ay e1).2;simp[IH]at this
      ·cases e1
     ·cases e
    ·cases e
   ·cases e
  ·cases e
 ·cases e
theorem li(o:Op){esc:Bool}{H:DH}{κ:T LD->xd->ag}(hk:aA E.E.P o<=1)(hs:(∀ ty x lo hi mx,o≠.slice ty x lo hi mx)\/H=[])(ho:∀ x∈o.operands.toList,uk g LO t tv x)(hok:Ok g)(hl:QP g L LO)(hH:dH H g)(e:jr o E esc t L H κ=some out) :
 ∃ t' d v,κ t' (.val d L H)=some out/\cD o E.E tv g.s=some (.val v g.s)/\RS g LO d v/\Rf t t' tv:=by
 have fin:∀ {d:D} {v:V} {r:Option V},κ t (.val (.g d) L H)=some out->r=some v->RD g d v->∃ t' d v,κ t' (.val d L H)=some out/\bg g.s r=some (.val v g.s)/\RS g LO d v/\Rf t t' tv:=fun h1 h2 h3=>⟨t,_,_,h1,by rw[h2];rfl,h3,.refl t tv⟩
 cases o with
 |move x =>
  obtain⟨d,v,h1,_,h2,h3⟩:=jP e (ho x (by simp[Op.operands]))
  exact⟨t,d,v,h1,by simp only[cD,h2];rfl,h3,.refl t tv⟩
 |assign x =>
  obtain⟨d,v,h1,_,h2,h3⟩:=jP e (ho x (by simp[Op.operands]))
  exact⟨t,d,v,h1,by simp only[cD,h2];rfl,h3,.refl t tv⟩
 |pick c x y =>
  simp only[jr,NY,pM]at e
  obtain⟨d,v,h1,_,h2,h3⟩:=bf e (ho c (by simp[Op.operands]))
  obtain⟨q,rfl,h4⟩:=NA h1
  simp only[RD]at h3
  subst h3
  cases q with
  |true =>
   obtain⟨d',v',k1,_,k2,k3⟩:=jP (x:=x) h4 ((ho x (by simp[Op.operands])).set h2)
   exact⟨_,d',v',k1,by simp only[cD,lH,h2,cond_true,k2];rfl,k3,tR h2⟩
  |false =>
   obtain⟨d',v',k1,_,k2,k3⟩:=jP (x:=y) h4 ((ho y (by simp[Op.operands])).set h2)
   exact⟨_,d',v',k1,by simp only[cD,lH,h2,cond_false,k2];rfl,k3,tR h2⟩
 |build ty parts =>
  simp only[jr]at e
  have ho':∀ x∈parts.toList,uk g LO t tv x.2:=fun x hx=>ho x.2 (by simp only[Op.operands,List.mem_map];exact⟨x,hx,rfl⟩)
  cases esc
  ·obtain⟨d,v,h1,h2,h3⟩:=Il (LO:=LO) (tv:=tv) (g:=g) e ho'
   exact fin h1 h2 h3
  ·obtain⟨d,v,h1,h2,h3⟩:=Fj (LO:=LO) (tv:=tv) (g:=g) e ho'
   exact fin h1 h2 h3
 |load ty x =>
  obtain⟨d,v,h1,_,h2,h3⟩:=jP e (ho x (by simp[Op.operands]))
  obtain⟨d',v',k1,k2,k3⟩:=Cg h1 hH hok hl h3
  exact⟨t,_,v',k1,by simp only[cD,h2];exact k2,k3,.refl t tv⟩
 |nilCheck x =>
  obtain⟨d,v,h1,_,h2,h3⟩:=jP e (ho x (by simp[Op.operands]))
  obtain⟨k1,k2⟩:=Nv h1 h3
  exact⟨t,d,v,k1,by simp only[cD,h2,k2];rfl,h3,.refl t tv⟩
 |binOp op ty x y yT =>
  obtain⟨a,v,h1,_,h2,h3⟩:=bf e (ho x (by simp[Op.operands]))
  obtain⟨c,w,h4,_,h5,h6⟩:=bf h1 (ho y (by simp[Op.operands]))
  cases hn:oX y with
  |true =>
   rw[hn]at h4;dsimp only at h4
   split at h4
   ·rename_i hu
    obtain⟨d,v',k1,k2,k3⟩:=Mw (x:=x) h4 hu h3 hn h5 g.s
    exact fin k1 (by rw[h2,h5];exact k2) k3
   ·cases h4
  |false =>
  rw[hn]at h4;dsimp only at h4
  obtain⟨d,v',k1,k2,k3⟩:=Lh hH hok h4 h3 h6
  exact fin k1 (by rw[h2,h5];exact k2) k3
 |unOp op ty x =>
  obtain⟨a,v,h1,_,h2,h3⟩:=bf e (ho x (by simp[Op.operands]))
  obtain⟨d,v',k1,k2,k3⟩:=OB h1 h3
  exact fin k1 (by rw[h2];exact k2) k3
 |convert src dst x =>
  obtain⟨a,v,h1,_,h2,h3⟩:=bf e (ho x (by simp[Op.operands]))
  obtain⟨d,v',k1,k2,k3⟩:=Lb h1 h3 g.s
  exact⟨t,_,v',k1,by simp only[cD,h2,gd,k2];rfl,k3,.refl t tv⟩
 |makeInterface ty x =>
  obtain⟨a,v,h1,_,h2,h3⟩:=bf e (ho x (by simp[Op.operands]))
  split at h1
  ·cases h1
  ·rename_i hni hu
   refine fin (v:=.iface ty v) h1 ?_ (by simp only[RD];exact⟨v,rfl,h3⟩)
   rw[h2]
   unfold nJ
   rw[hu]
   split
   ·rename_i q;exact(hni _ (Option.some.inj q)).elim
   ·rfl
   ·rename_i q;cases q
  ·cases h1
 |makeFunc fn first cap =>
  simp only[jr]at e
  split at e
  ·obtain⟨ds,vs,h1,h2,h3⟩:=iX e (fun x hx=>ho x (by simp[Op.operands]at hx ⊢;exact .inl hx))
   obtain⟨es,ws,h4,h5,h6⟩:=iX h1 (fun x hx=>ho x (by simp[Op.operands]at hx ⊢;exact .inr hx))
   refine fin (v:=.func (.func _) vs ws) h4 ?_ (by simp only[RD];exact⟨vs,ws,rfl,h3,h6⟩)
   simp only[qH,h2,h5,Ai]
  ·cases e
 |fieldAddr ty x f =>
  obtain⟨d,v,h1,_,h2,h3⟩:=jP e (ho x (by simp[Op.operands]))
  obtain⟨d',v',k1,k2,k3⟩:=HW h1 h3
  exact⟨t,d',v',k1,by simp only[cD,h2,k2];rfl,k3,.refl t tv⟩
 |field ty x f =>
  obtain⟨a,v,h1,_,h2,h3⟩:=bf e (ho x (by simp[Op.operands]))
  obtain⟨d,v',k1,k2,k3⟩:=HV h1 h3
  exact fin k1 (by rw[h2];exact k2) k3
 |indexAddr ty x i =>
  obtain⟨a,v,h1,_,h2,h3⟩:=bf e (ho x (by simp[Op.operands]))
  obtain⟨c,w,h4,_,h5,h6⟩:=bf h1 (ho i (by simp[Op.operands]))
  obtain⟨d,v',k1,k2,k3⟩:=HN h4 h3 h6
  exact fin k1 (by rw[h2,h5];exact k2) k3
 |index ty x i =>
  obtain⟨a,v,h1,_,h2,h3⟩:=bf e (ho x (by simp[Op.operands]))
  obtain⟨c,w,h4,_,h5,h6⟩:=bf h1 (ho i (by simp[Op.operands]))
  obtain⟨d,v',k1,k2,k3⟩:=HM h4 h3 h6
  exact fin k1 (by rw[h2,h5];exact k2) k3
 |lookup ty x k ok =>
  obtain⟨a,v,h1,_,h2,h3⟩:=bf e (ho x (by simp[Op.operands]))
  obtain⟨c,w,h4,_,h5,h6⟩:=bf h1 (ho k (by simp[Op.operands]))
  obtain⟨d,v',k1,k2,k3⟩:=Km h4 hH hok h3 h6
  exact fin k1 (by rw[h2,h5];exact k2) k3
 |typeAssert x xT ty ok =>
  obtain⟨a,v,h1,_,h2,h3⟩:=bf e (ho x (by simp[Op.operands]))
  obtain⟨d,v',k1,k2,k3⟩:=Fo h1 h3
  exact fin k1 (by rw[h2];exact k2) k3
 |extract x i =>
  obtain⟨a,v,h1,_,h2,h3⟩:=bf e (ho x (by simp[Op.operands]))
  obtain⟨d,v',k1,k2,k3⟩:=Nm h1 h3
  exact fin k1 (by rw[h2];exact k2) k3
 |slice ty x lo hi mx =>
  rcases hs with hs|rfl
  ·exact(hs _ _ _ _ _ rfl).elim
  obtain⟨d,v,h1,_,h2,h3⟩:=bf e (ho x (by simp[Op.operands]))
  obtain⟨d1,v1,h4,h5,h6⟩:=nI h1 (fun y hy=>ho y (by subst hy;simp[Op.operands]))
  obtain⟨d2,v2,h7,h8,h9⟩:=nI h4 (fun y hy=>ho y (by subst hy;simp[Op.operands]))
  obtain⟨d3,v3,i1,i2,i3⟩:=nI h7 (fun y hy=>ho y (by subst hy;simp[Op.operands]))
  cases esc
  rotate_left
  ·exact(Uv i1).elim
  obtain⟨d',v',k1,k2,k3⟩:=DP i1 h3 h6 h9 i3
  exact fin k1 (by rw[h2,h5,h8,i2];exact k2) k3
 |call c =>
  simp only[jr]at e
  obtain⟨ds,vs,h1,h2,h3⟩:=iX e (fun x hx=>ho x (by simp[Op.operands,Call.operands]at hx ⊢;exact .inr hx))
  simp only[cD,h2,gA]
  split at h1
  ·rename_i bi hc
   rw[hc]
   simp only[aA,hc]at hk
   simp only
   cases bi<;>first|(simp at hk;done)|skip
   case len =>
    simp only[lM]at h1
    simp only[ik]
    split at h1
    ·rename_i a ha
     split at h1
     ·rename_i x
      simp only[RL]at h3
      obtain⟨v,vs',rfl,k1,rfl⟩:=h3
      obtain⟨d,v',j1,j2,j3⟩:=MM h1 hH hok k1
      rw[ha]
      exact fin j1 j2 j3
     ·cases h1
    ·cases h1
   case max =>
    simp only[lM]at h1
    simp only[ik]
    split at h1
    ·simp only[RL]at h3
     obtain⟨v,vs',rfl,k1,k2⟩:=h3
     obtain⟨d,v',j1,j2,j3⟩:=vk h1 k1 k2
     exact fin j1 j2 j3
    ·cases h1
   case min =>
    simp only[lM]at h1
    simp only[ik]
    split at h1
    ·simp only[RL]at h3
     obtain⟨v,vs',rfl,k1,k2⟩:=h3
     obtain⟨d,v',j1,j2,j3⟩:=vk h1 k1 k2
     exact fin j1 j2 j3
    ·cases h1
   case cap=>cases h1
  ·rename_i f hc
   simp[aA,hc]at hk
  ·cases h1
 |_=>first|(cases e;done)|(simp[aA]at hk;done)
def Ug(E:cT)(b:Nat)(P0:List Nat)(g:Gh)(t:T LD)(tv:T V)(L:LS)(LO:List Nat)(x:xd)(nx:Nx):Prop:=match x with
 |.val d L' H'=>∃ v s',nx=.val v s'/\ru b P0 g t L tv LO L' H' s' fun g' LO'=>RS g' LO' d v
 |.skip L' H'=>∃ s',nx=.skip s'/\ru b P0 g t L tv LO L' H' s' fun _ _=>True
 |.enter f args L' H'=>∃ vs,nx=.enter f vs g.s/\L'=L/\H'=g.H/\RL g args vs/\ei E f=true
 |.defer df L' H'=>∃ c a,nx=.defer (.call (.func df.fn) c a) g.s/\L'=L/\H'=g.H/\RL g df.captured c/\RL g df.args a/\ei E df.fn=true
 |.recover L' H'=>nx=.recover g.s/\L'=L/\H'=g.H
 |.panic d L' H'=>∃ v,nx=.panic v g.s/\L'=L/\H'=g.H/\RD g d v
 |.round o args L' H'=>∃ vs l v,nx=.round l vs g.s/\L'=L/\H'=g.H/\RL g args vs/\g.O[o]? = some (some (l,v))
theorem FI.rf(h:FI b P0 g t L tv LO){t':T LD}(r:Rf t t' tv):FI b P0 g t' L tv LO:=⟨h.ok,r.rt h.slots,h.own,h.pv,h.low,h.nd,h.bl⟩
theorem xP.ops(h:xP g LO t tv)(l:List Operand):∀ x∈l,uk g LO t tv x:=fun x _=>h.op x
theorem zX(o:Op){esc:Bool}{κ:T LD->xd->ag}(h:FI b P0 g t L tv LO)(e:jr o E esc t L g.H κ=some out) :
 ∃ t' x nx,κ t' x=some out/\cD o E.E tv g.s=some nx/\Rf t t' tv/\Ug E.E b P0 g t tv L LO x nx:=by
 have rd:aA E.E.P o<=1->(∀ ty x lo hi mx,o≠.slice ty x lo hi mx)->∃ t' x nx,κ t' x=some out/\cD o E.E tv g.s=some nx/\Rf t t' tv/\Ug E.E b P0 g t tv L LO x nx:=fun hk hs=>by
  obtain⟨t',d,v,h1,h2,h3,h4⟩:=li o hk (.inl hs) (h.slots.ops _) h.ok h.own.2 (dH.refl g) e
  exact⟨t',_,_,h1,h2,h4,v,g.s,rfl,ru.same h h3⟩
 cases o with
 |alloc elem =>
  simp only[jr]at e
  split at e
  ·rename_i z hz
   obtain⟨zv,h1,_,h3,h4⟩:=iE (g:=g) hz
   obtain⟨x,L',H',k1,k2⟩:=Gp h e h3 h4 elem
   exact⟨t,_,_,k1,by simp only[cD,iA,h1,od,aW,aV],.refl t tv,_,_,rfl,k2⟩
  ·cases e
 |box elem x =>
  simp only[jr]at e
  split at e
  ·obtain⟨d,v,h1,_,h2,h3⟩:=bf e (h.slots.op x)
   obtain⟨cs,h4,h5,h6,_⟩:=lL h1 h3
   obtain⟨x,L',H',k1,k2⟩:=Gp h h4 h5 h6 elem
   exact⟨t,_,_,k1,by simp only[cD,qK,h2,od,aW,aV],.refl t tv,_,_,rfl,k2⟩
  ·cases e
 |buildSlice ty len parts =>
  simp only[jr]at e
  obtain⟨d,v,s',h1,h2,h3⟩:=wJ h e (fun x _=>h.slots.op x.2)
  exact⟨t,_,_,h1,by simp only[cD];exact h2,.refl t tv,v,s',rfl,h3⟩
 |store ty x y =>
  obtain⟨d,v,h1,_,h2,h3⟩:=jP e (h.slots.op x)
  obtain⟨c,w,h4,_,h5,h6⟩:=bf h1 (h.slots.op y)
  obtain⟨s',L',H',k1,k2,k3⟩:=Hp h h4 h3 h6
  exact⟨t,_,_,k1,by simp only[cD,h2,h5];exact k2,.refl t tv,s',rfl,k3⟩
 |makeMap ty n =>
  cases n with
  |some _=>cases e
  |none=>exact⟨t,_,_,e,rfl,.refl t tv,_,_,rfl,HG h⟩
 |makeSlice ty l c =>
  simp only[jr]at e
  split at e
  ·rename_i el hu
   split at e
   ·rename_i i
    split at e
    ·rename_i j
     split at e
     ·cases e
     rename_i hb
     have hb:=Nat.eq_of_beq_eq_true hb
     subst hb
     obtain⟨d,v,h1,_,h2,h3⟩:=bf e (h.slots.op _)
     split at h1
     ·simp only[RD]at h3
      subst h3
      obtain⟨m,hm,h4⟩:=iq h1
      subst hm
      obtain⟨l,sz,v,s',k1,k2,k3⟩:=MB h hu h4
      exact⟨t,_,_,k1,by simp only[cD,h2,cX,kg];exact k2,.refl t tv,v,s',rfl,k3⟩
     ·cases h1
    ·cases e
   ·cases e
  ·cases e
 |slice ty x lo hi mx =>
  obtain⟨d,v,h1,_,h2,h3⟩:=bf e (h.slots.op x)
  obtain⟨d1,v1,h4,h5,h6⟩:=nI h1 (fun y _=>h.slots.op y)
  obtain⟨d2,v2,h7,h8,h9⟩:=nI h4 (fun y _=>h.slots.op y)
  obtain⟨d3,v3,i1,i2,i3⟩:=nI h7 (fun y _=>h.slots.op y)
  cases esc
  ·obtain⟨d',H',v',k1,k2,k3⟩:=DO h i1 h3 h6 h9 i3
   exact⟨t,_,_,k1,by simp only[cD,h2,h5,h8,i2,qF,k2];rfl,.refl t tv,v',g.s,rfl,k3⟩
  ·obtain⟨d',H',v',k1,k2,k3⟩:=OD h i1 h3 h6 h9 i3
   exact⟨t,_,_,k1,by simp only[cD,h2,h5,h8,i2,qF,k2];rfl,.refl t tv,v',g.s,rfl,k3⟩
 |mapUpdate ty m k x =>
  obtain⟨d1,v1,h1,_,h2,h3⟩:=bf e (h.slots.op m)
  obtain⟨d2,v2,h4,_,h5,h6⟩:=bf h1 (h.slots.op k)
  obtain⟨d3,v3,h7,_,h8,h9⟩:=bf h4 (h.slots.op x)
  obtain⟨s',H',k1,k2,k3⟩:=Cc h h7 h3 h6 h9
  exact⟨t,_,_,k1,by simp only[cD,h2,h5,h8];exact k2,.refl t tv,s',rfl,k3⟩
 |insert ty m k x =>
  obtain⟨d1,v1,h1,_,h2,h3⟩:=bf e (h.slots.op m)
  obtain⟨d2,v2,h4,_,h5,h6⟩:=bf h1 (h.slots.op k)
  obtain⟨d3,v3,h7,_,h8,h9⟩:=bf h4 (h.slots.op x)
  obtain⟨s',H',k1,k2,k3⟩:=Cc h h7 h3 h6 h9
  exact⟨t,_,_,k1,by simp only[cD,h2,h5,h8];exact k2,.refl t tv,s',rfl,k3⟩
 |call c =>
  have e0:=e
  simp only[jr]at e
  obtain⟨ds,vs,h1,h2,h3⟩:=iX e (fun x _=>h.slots.op x)
  split at h1
  ·rename_i bi hc
   have pure:(bi=.len\/bi=.max\/bi=.min)->∃ t' x nx,κ t' x=some out/\cD (.call c) E.E tv g.s=some nx/\Rf t t' tv/\Ug E.E b P0 g t tv L LO x nx:=fun hb=>by
    refine rd ?_ (fun _ _ _ _ _ q=>by cases q)
    grind [aA]
   cases bi<;>first|(cases h1;done)|exact pure (.inl rfl)|exact pure (.inr (.inl rfl))|exact pure (.inr (.inr rfl))|skip
   case append =>
    simp only[lM]at h1
    split at h1
    ·rename_i a ha
     split at h1
     ·rename_i c2 hb
      split at h1
      ·simp only[RL]at h3
       obtain⟨v1,vs1,rfl,k1,v2,vs2,rfl,k2,rfl⟩:=h3
       obtain⟨d,H',v,s',j1,j2,j3⟩:=Fp h h1 k1 k2
       exact⟨t,_,_,j1,by simp only[cD,h2,gA,hc,ik,ha,hb,j2,hQ],.refl t tv,v,s',rfl,j3⟩
      ·cases h1
     ·cases h1
    ·cases h1
   case recover=>exact⟨t,_,_,h1,by simp only[cD,h2,gA,hc,ik],.refl t tv,rfl,rfl,rfl⟩
   case panic =>
    simp only[lM]at h1
    split at h1
    ·simp only[RL,RD]at h3
     obtain⟨v1,vs1,rfl,⟨v',rfl,k1⟩,rfl⟩:=h3
     exact⟨t,_,.panic (.iface _ v') g.s,h1,by simp only[cD,h2,gA,hc,ik];rfl,.refl t tv,_,rfl,rfl,rfl,by simp only[RD];exact⟨v',rfl,k1⟩⟩
    ·cases h1
  ·rename_i f hc
   obtain⟨d,v,k1,_,k2,k3⟩:=bf h1 (h.slots.op f)
   split at k1
   ·unfold FD at k1
    split at k1
    ·simp only[RD]at k3
     obtain⟨l,v',j1,rfl⟩:=k3
     exact⟨t,_,.round l vs g.s,k1,by simp only[cD,h2,gA,hc,k2,GP,List.nil_append],.refl t tv,vs,l,v',rfl,rfl,rfl,h3,j1⟩
    ·cases k1
   unfold AZ at k1
   split at k1
   ·rename_i gf first cap
    obtain⟨hb,k1⟩:=ay k1
    simp only[RD]at k3
    obtain⟨a',b',rfl,j1,j2⟩:=k3
    refine⟨t,_,_,k1,?_,.refl t tv,a'++(vs++b'),rfl,rfl,rfl,j1.append (h3.append j2),hb⟩
    simp only[cD,h2,gA,hc,k2,GP,GQ]
    unfold ei at hb
    split at hb
    ·rename_i fn hf
     rw[hf]
     simp only
     split
     ·rename_i q;rw[q]at hb;cases hb
     ·rfl
    ·cases hb
   ·cases k1
  ·cases h1
 |defer c =>
  simp only[jr]at e
  obtain⟨ds,vs,h1,h2,h3⟩:=iX e (fun x _=>h.slots.op x)
  split at h1
  ·rename_i f hc
   obtain⟨d,v,k1,_,k2,k3⟩:=bf h1 (h.slots.op f)
   split at k1
   ·obtain⟨hb,k1⟩:=ay k1
    simp only[RD]at k3
    obtain⟨a',b',rfl,j1,j2⟩:=k3
    exact⟨t,_,_,k1,by simp only[cD,h2,nM,hc,k2,AT],.refl t tv,b',a'++vs,rfl,rfl,rfl,j2,j1.append h3,hb⟩
   ·cases k1
  ·cases h1
 |panic x =>
  simp only[jr]at e
  obtain⟨d,v,k1,_,k2,k3⟩:=bf e (h.slots.op x)
  split at k1
  ·simp only[RD]at k3
   obtain⟨v',rfl,j1⟩:=k3
   exact⟨t,_,.panic (.iface _ v') g.s,k1,by simp only[cD,k2,ua];rfl,.refl t tv,_,rfl,rfl,rfl,by simp only[RD];exact⟨v',rfl,j1⟩⟩
  ·cases k1
 |convert src dst x =>
  refine rd ?_ (fun _ _ _ _ _ q=>by cases q)
  obtain⟨a,v,h1,_,h2,h3⟩:=bf e (h.slots.op x)
  unfold oD at h1
  revert h1
  cases (E.E.P.underlying src).isNone with
  |true=>intro h1;cases h1
  |false =>
   intro h1
   simp only[cond_false]at h1
   split at h1
   ·rename_i hu;simp[aA,hu]
   ·rename_i hu;simp[aA,hu]
   ·cases h1
 |binOp op ty x y yT=>exact rd (by simp only[aA];cases lw op<;>simp) (fun _ _ _ _ _ q=>by cases q)
 |_=>first
  |(cases e;done)
  |exact rd (by simp[aA]) (fun _ _ _ _ _ q=>by cases q)
end Go.AI
namespace Go.AI
theorem wI{i:Nat}(h:i<9223372036854775807):IntKind.wrap .i64 (((i:Nat):Int)+1)=((i+1:Nat):Int):=by
 rw[show((i:Nat):Int)+1=((i+1:Nat):Int)by omega];exact FE _ ⟨by omega,by omega⟩
end Go.AI
