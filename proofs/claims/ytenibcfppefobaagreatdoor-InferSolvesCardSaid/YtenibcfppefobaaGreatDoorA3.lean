/- Evaluators by which runs of the program are reckoned, that they are sound, and what the functions answer: part 3. No conditions beyond those of the row. -/
import Derived.Test.YtenibcfppefobaaGreatDoorS1
import Derived.Test.YtenibcfppefobaaGreatDoorS2
import Derived.Test.YtenibcfppefobaaGreatDoorS3
import Derived.Test.YtenibcfppefobaaGreatDoorS4
import Derived.IntWalk
set_option linter.all false
noncomputable section
namespace Go.Proofs.YtenibcfppefobaaGreatDoor
open Go.AI
def NG:List jF:=[tB,tA,tz,tw,tu,tq,tp,tj,ti]
def QP:dA:={ P:=Tryz.prog,ext:=mJ.ext,orc:=fun f args s=>match gW 57 kinds f args s with|some x=>some x|none=>vw NG f args s }
theorem XC:ss QP:=by
 refine⟨fun f args s v s' h=>?_⟩
 simp only[QP]at h
 split at h
 ·rename_i x hx
  cases h
  exact zq.call f args s v s' hx
 ·obtain⟨k,hm,rfl,rfl,hs,rfl,rfl⟩:=rz h
  simp only[NG,List.mem_cons,List.mem_nil_iff,or_false]at hm
  rcases hm with rfl|rfl|rfl|rfl|rfl|rfl|rfl|rfl|rfl
  ·exact cX (E:=mb) (dc rfl rfl) zq (bF rfl rfl) Xp hs
  ·exact cX (E:=mb) (dc rfl rfl) zq (bF rfl rfl) Xo hs
  ·exact cX (E:=mb) (dc rfl rfl) zq (bF rfl rfl) Xm hs
  ·exact cX (E:=mb) (dc rfl rfl) zq (bF rfl rfl) Xl hs
  ·exact cX (E:=mb) (dc rfl rfl) zq (bF rfl rfl) Xk hs
  ·exact cX (E:=mb) (dc rfl rfl) zq (bF rfl rfl) Xj hs
  ·exact cX (E:=mb) (dc rfl rfl) zq (bF rfl rfl) Xi hs
  ·exact cX (E:=mb) (dc rfl rfl) zq (bF rfl rfl) Xh hs
  ·exact cX (E:=mb) (dc rfl rfl) zq (bF rfl rfl) Xg hs
theorem MF:fQ QP 4000 6 [] (.bool true)=true:=by kernel_rfl
theorem Gt(s:S):fI Tryz.prog 6 [] none s ⟨.returned (.bool true),none,s⟩:=bG (E:=QP) (dc rfl rfl) XC (bF rfl rfl) MF rfl rfl s
end Go.Proofs.YtenibcfppefobaaGreatDoor
namespace Go.AI
def Fm(m:Nat):List Nat->Nat
 |[]=>0
 |e::r=>bif m.testBit e then 1 else Fm m r+1
def nq(ms:List Nat)(effs m:Nat)(H:List Nat):List (Nat×Oper)->Nat->Option (List (Option Nat×Nat)×Nat)
 |[],done=>some ([],done)
 |(i,_)::r,done =>
  bif !(m.testBit i)||done.testBit i then nq ms effs m H r done
  else bif effs.testBit i then none
  else match nq ms effs m H r (Nat.lor done (Nat.pow 2 i))with
   |some (l,d)=>some ((some (Fm (ms.getD i 0) H),i)::l,d)
   |none=>none
def qh(ms:List Nat)(effs n:Nat)(all:List (Nat×Oper)):List (Nat×Oper)->List Nat->Nat->Option (List (Option Nat×Nat))
 |[],H,done=>match nq ms effs (Nat.pow 2 n - 1) H all done with
  |some (l,_)=>some l
  |none=>none
 |(i,_)::r,H,done=>match nq ms effs (ms.getD i 0) H all done with
  |some (l,d)=>bif !(d.testBit i)&&effs.testBit i then(match qh ms effs n all r (i::H) (Nat.lor d (Nat.pow 2 i))with
   |some l2=>some (l++(none,i)::l2)
   |none=>none)else none
  |none=>none
def MD(P:Program)(ops:Array Oper):Option (List (Option Nat×Nat)):=match MW P ops with
 |some ⟨ms,l,es,mask⟩=>qh ms mask ops.size l es [ops.size] 0
 |none=>none
def kV(E:dA)(hist:List S)(t:T V)(s:S)(o:Oper):Nat->Option (V×S)
 |0=>qA s (dg E t s o)
 |1=>qQ s (fu E t o hist)
 |2=>uQ (dg E t s o)
 |_=>none
def jv(E:dA)(hist:List S)(t:T V)(s:S)(o:Oper):Option Bool->Option (V×S)
 |some true=>kV E hist t s o (aF E.P o.op)
 |some false=>some (V.undef,s)
 |none=>none
def Fa(t:T V):Option Tmp->T V
 |some d=>t.setK none (eQ d) id
 |none=>t
def gV(E:dA)(ops:Array Oper)(rec:ig)(ds:List eD)(up:Option Md):List (Option Nat×Nat)->List S->T V->S->Option jL
 |[],_,t,s=>some (.on t ds up s)
 |(c,i)::r,hist,t,s=>match ops[i]? with
  |none=>none
  |some o=>match c with
   |some c=>match jv E (hist.take c) t s o (bC ops t o)with
    |some (v,s)=>gV E ops rec ds up r hist (putD t o.dst v) s
    |none=>none
   |none=>match gB E rec t s o (bC ops t o)with
    |some (.val v s')=>bif Nat.ble s.next s'.next then gV E ops rec ds up r (s'::hist) (putD t o.dst v) s' else none
    |some (.pan c s')=>(match r with|[]=>some (.panicked c (Fa t o.dst) ds up s')|_::_=>none)
    |none=>none
theorem ui(m:Nat):∀(h:List (Nat×S)),nK m h=(h.map (·.2)).take (Fm m (h.map (·.1)))
 |[]=>rfl
 |(e,s)::r=>by
  simp only[nK,List.map_cons,Fm]
  cases m.testBit e with
  |true=>simp
  |false=>simp[ui m r]
theorem EF{E:dA}{h:List (Nat×S)}{m:Nat}{t:T V}{s:S}{o:Oper}(b:Option Bool):je E h m t s o b=jv E ((h.map (·.2)).take (Fm m (h.map (·.1)))) t s o b:=by
 cases b with
 |none=>rfl
 |some b=>cases b with
  |false=>rfl
  |true =>
   simp only[je,jv]
   unfold CE kV
   rw[ui]
   generalize aF E.P o.op=q
   match q with
   |0=>rfl
   |1=>rfl
   |2=>rfl
   |_+3=>rfl
theorem qV{E:dA}{ops:Array Oper}{rec:ig}{ds:List eD}{up:Option Md}{ms:List Nat}{effs m:Nat}{hist:List (Nat×S)} :
 ∀(l:List (Nat×Oper)) (done:Nat) (t:T V) (s:S),(∀ x∈l,ops[x.1]? = some x.2)->∀ sc d,nq ms effs m (hist.map (·.1)) l done=some (sc,d)->∀(rest:List (Option Nat×Nat)),
  gV E ops rec ds up (sc++rest) (hist.map (·.2)) t s=match bW E ops ms effs hist m l done t s with
   |some (_,t,s)=>gV E ops rec ds up rest (hist.map (·.2)) t s
   |none=>none
 |[],done,t,s,_,sc,d,h,rest=>by cases h;rfl
 |(i,o)::l,done,t,s,hops,sc,d,h,rest=>by
  simp only[nq]at h
  simp only[bW]
  cases hb:(!(m.testBit i)||done.testBit i)with
  |true =>
   rw[hb]at h
   simp only[cond_true]at h ⊢
   exact qV l done t s (fun x hx=>hops x (List.mem_cons_of_mem _ hx)) sc d h rest
  |false =>
   rw[hb]at h
   simp only[cond_false]at h ⊢
   cases he:effs.testBit i with
   |true=>rw[he]at h;cases h
   |false =>
    rw[he]at h
    simp only[cond_false]at h ⊢
    split at h
    ·rename_i l1 d1 hp
     cases h
     simp only[List.cons_append,gV]
     have ho:ops[i]? = some o:=hops (i,o) (by simp)
     rw[ho]
     simp only
     rw[<- EF]
     cases je E hist (ms.getD i 0) t s o (bC ops t o)with
     |none=>rfl
     |some x =>
      obtain⟨v,s1⟩:=x
      simp only[cg]
      exact qV l _ _ s1 (fun x hx=>hops x (List.mem_cons_of_mem _ hx)) l1 _ hp rest
    ·cases h
theorem pM{E:dA}{ops:Array Oper}{ms:List Nat}{effs m:Nat}{hist:List (Nat×S)}:∀(l:List (Nat×Oper)) (done:Nat) (t:T V) (s:S) sc d,nq ms effs m (hist.map (·.1)) l done=some (sc,d) ->
 ∀ d' t' s',bW E ops ms effs hist m l done t s=some (d',t',s')->d'=d
 |[],done,t,s,sc,d,h,d',t',s',e=>by cases h;cases e;rfl
 |(i,o)::l,done,t,s,sc,d,h,d',t',s',e=>by
  simp only[nq]at h
  simp only[bW]at e
  cases hb:(!(m.testBit i)||done.testBit i)with
  |true =>
   rw[hb]at h e
   exact pM l done t s sc d h d' t' s' e
  |false =>
   rw[hb]at h e
   simp only[cond_false]at h e
   cases he:effs.testBit i with
   |true=>rw[he]at h;cases h
   |false =>
    rw[he]at h e
    simp only[cond_false]at h e
    split at h
    ·rename_i l1 d1 hp
     cases h
     split at e
     ·rename_i v s1 hf
      rw[cg]at e
      exact pM l _ _ s1 l1 d hp d' t' s' e
     ·cases e
    ·cases h
theorem Ap{ms:List Nat}{effs m:Nat}{H:List Nat}:∀(l:List (Nat×Oper)) (done d:Nat),nq ms effs m H l done=some ([],d)->∀ x∈l,(!(m.testBit x.1)||done.testBit x.1)=true
 |[],_,_,_,x,hx=>by cases hx
 |(i,o)::l,done,d,h,x,hx=>by
  simp only[nq]at h
  cases hb:(!(m.testBit i)||done.testBit i)with
  |true =>
   rw[hb]at h
   rcases List.mem_cons.1 hx with rfl|hx
   ·exact hb
   ·exact Ap l done d h x hx
  |false =>
   rw[hb]at h
   simp only[cond_false]at h
   cases he:effs.testBit i with
   |true=>rw[he]at h;cases h
   |false =>
    rw[he]at h
    simp only[cond_false]at h
    split at h<;>cases h
theorem ph{E:dA}{ops:Array Oper}{ms:List Nat}{effs m:Nat}{hist:List (Nat×S)}:∀(l:List (Nat×Oper)) (done:Nat) (t:T V) (s:S),(∀ x∈l,(!(m.testBit x.1)||done.testBit x.1)=true)->bW E ops ms effs hist m l done t s=some (done,t,s)
 |[],_,_,_,_=>rfl
 |(i,o)::l,done,t,s,h=>by
  simp only[bW]
  rw[h (i,o) (by simp),cond_true]
  exact ph l done t s fun x hx=>h x (List.mem_cons_of_mem _ hx)
theorem Bi{done:Nat}:∀(l:List (Nat×Oper)) (t:T V),(∀ x∈l,done.testBit x.1=true)->dL done l t=t
 |[],_,_=>rfl
 |(i,o)::l,t,h=>by
  simp only[dL]
  rw[h (i,o) (by simp),cond_true]
  exact Bi l t fun x hx=>h x (List.mem_cons_of_mem _ hx)
theorem EZ{done i:Nat}{o:Oper}:∀(l:List (Nat×Oper)) (t:T V),(l.map (·.1)).Nodup->(i,o)∈l->(∀ x∈l,x.1≠i->done.testBit x.1=true)->done.testBit i=false->dL done l t=Fa t o.dst
 |(k,q)::l,t,hn,hm,h,hi=>by
  simp only[dL]
  rw[List.map_cons,List.nodup_cons]at hn
  by_cases hk:k=i
  ·subst hk
   have hq:q=o:=by
    rcases List.mem_cons.1 hm with e|e
    ·cases e;rfl
    ·exact absurd (List.mem_map.2 ⟨_,e,rfl⟩) hn.1
   subst hq
   have hs:∀ t:T V,dL done l t=t:=fun t=>Bi l t fun x hx=>h x (List.mem_cons_of_mem _ hx) fun e=>hn.1 (e▸List.mem_map.2 ⟨x,hx,rfl⟩)
   rw[hi,cond_false]
   cases q.dst with
   |none=>simp only[hs];rfl
   |some d=>simp only[T.setK_eq,hs,Fa];rfl
  ·rw[h (k,q) (by simp) hk,cond_true]
   refine EZ l t hn.2 ?_ (fun x hx=>h x (List.mem_cons_of_mem _ hx)) hi
   rcases List.mem_cons.1 hm with e|e
   ·cases e;exact absurd rfl hk
   ·exact e
theorem Au:∀(l:List Oper) (n:Nat),∀ x∈cr l n,n<=x.1
 |[],_,x,h=>by cases h
 |o::l,n,x,h=>by
  rcases List.mem_cons.1 h with rfl|h
  ·exact Nat.le_refl _
  ·have:=Au l (n+1) x h;omega
theorem rg:∀(l:List Oper) (n:Nat),((cr l n).map (·.1)).Nodup
 |[],_=>List.nodup_nil
 |o::l,n=>by
  rw[cr,List.map_cons,List.nodup_cons]
  refine⟨fun h=>?_,rg l (n+1)⟩
  obtain⟨x,hx,e⟩:=List.mem_map.1 h
  have:=Au l (n+1) x hx
  simp only at e;omega
theorem Bf{E:dA}{ops:Array Oper}{rec:ig}{ds:List eD}{up:Option Md}{ms:List Nat}{effs:Nat}{all:List (Nat×Oper)}(hall:∀ x∈all,ops[x.1]? = some x.2)(hnd:(all.map (·.1)).Nodup) :
 ∀(es:List (Nat×Oper)),(∀ x∈es,x∈all)->∀(hist:List (Nat×S)) (done:Nat) (t:T V) (s:S) sc,qh ms effs ops.size all es (hist.map (·.1)) done=some sc ->
  ∀ rr,gV E ops rec ds up sc (hist.map (·.2)) t s=some rr->gj E ops ms effs all rec ds up es hist done t s=some rr
 |[],_,hist,done,t,s,sc,h,rr,e=>by
  simp only[qh]at h
  simp only[gj]
  split at h
  ·rename_i l d hp
   cases h
   have:=qV (E:=E) (rec:=rec) (ds:=ds) (up:=up) all done t s hall _ _ hp []
   rw[List.append_nil]at this
   rw[this]at e
   rw[<- e]
   cases bW E ops ms effs hist (Nat.pow 2 ops.size - 1) all done t s with
   |none=>rfl
   |some x=>rfl
  ·cases h
 |(i,o)::r,hes,hist,done,t,s,sc,h,rr,e=>by
  simp only[qh]at h
  simp only[gj]
  split at h
  ·rename_i l d hp
   cases hb:(!(d.testBit i)&&effs.testBit i)with
   |false=>rw[hb]at h;cases h
   |true =>
    rw[hb]at h
    simp only[cond_true]at h
    split at h
    ·rename_i l2 h2
     cases h
     rw[qV (E:=E) (rec:=rec) (ds:=ds) (up:=up) all done t s hall _ _ hp]at e
     cases hph:bW E ops ms effs hist (ms.getD i 0) all done t s with
     |none=>rw[hph]at e;cases e
     |some x =>
      obtain⟨d1,t1,s1⟩:=x
      have hd:=pM all done t s _ _ hp _ _ _ hph
      subst hd
      rw[hph]at e
      simp only[gV]at e
      have ho:ops[i]? = some o:=hall _ (hes (i,o) (by simp))
      rw[ho]at e
      simp only at e ⊢
      cases hst:gB E rec t1 s1 o (bC ops t1 o)with
      |none=>rw[hst]at e;cases e
      |some y=>cases y with
       |val v s2 =>
        rw[hst]at e
        simp only[cg,Bool.and_assoc,hb,Bool.and_true]at e ⊢
        cases hn:Nat.ble s1.next s2.next with
        |false=>rw[hn]at e;cases e
        |true =>
         rw[hn]at e
         simp only[cond_true]at e ⊢
         exact Bf hall hnd r (fun x hx=>hes x (List.mem_cons_of_mem _ hx)) ((i,s2)::hist) _ _ s2 l2 h2 rr e
       |pan c s2 =>
        rw[hst]at e
        simp only at e ⊢
        simp only[Bool.and_eq_true,Bool.not_eq_true']at hb
        cases l2 with
        |cons x l2=>cases e
        |nil =>
         have hd2:∃ d2,nq ms effs (Nat.pow 2 ops.size - 1) (i::hist.map (·.1)) all (Nat.lor d1 (Nat.pow 2 i))=some ([],d2):=by
          cases r with
          |nil =>
           simp only[qh]at h2
           split at h2
           ·rename_i l3 d3 hq;cases h2;exact⟨d3,hq⟩
           ·cases h2
          |cons x r =>
           obtain⟨xi,xo⟩:=x
           simp only[qh]at h2
           split at h2
           ·rename_i l3 d3 hq
            cases hz:(!(d3.testBit xi)&&effs.testBit xi)with
            |false=>rw[hz]at h2;cases h2
            |true =>
             rw[hz,cond_true]at h2
             split at h2
             ·simp at h2
             ·cases h2
           ·cases h2
         obtain⟨d2,hq⟩:=hd2
         have hdn:∀ x∈all,x.1≠i->d1.testBit x.1=true:=fun x hx hxi=>by
          have h1:=Ap all _ _ hq x hx
          have hlt:x.1<ops.size:=by
           have:=hall x hx
           rcases Nat.lt_or_ge x.1 ops.size with h|h
           ·exact h
           ·rw[Array.getElem?_eq_none h]at this;cases this
          have hm:(Nat.pow 2 ops.size - 1).testBit x.1=true:=by
           show(2 ^ ops.size - 1).testBit x.1=true
           rw[Nat.testBit_two_pow_sub_one];simpa using hlt
          rw[hm,gh]at h1
          simpa[Ne.symm hxi]using h1
         have hsk:bW E ops ms effs hist (dJ ms i all) all d1 t1 s1=some (d1,t1,s1):=ph all d1 t1 s1 fun x hx=>by
          by_cases hxi:x.1=i
          ·have:(dJ ms i all).testBit x.1=false:=by
            rw[<- Bool.not_eq_true]
            intro hz
            exact(lW.1 hz).2.2 hxi
           rw[this];rfl
          ·rw[hdn x hx hxi,Bool.or_true]
         rw[hb.1,cond_false,hsk,IM,EZ all t1 hnd (hes (i,o) (by simp)) hdn hb.1]
         exact e
    ·cases h
  ·cases h
theorem BR{E:dA}{ops:Array Oper}{sc:List (Option Nat×Nat)}(h:MD E.P ops=some sc)(rec:ig)(recR:zM)(t:T V)(ds:List eD)(up:Option Md)(s:S) :
 ∀ rr,gV E ops rec ds up sc [s] t s=some rr->ip E ops rec recR t ds up s=some rr:=by
 intro rr e
 unfold MD at h
 unfold ip
 split at h
 ·rename_i ms l es mask hp
  rw[hp]
  simp only
  have hl:l=cr ops.toList 0/\es=rM E.P (cr ops.toList 0):=by
   simp only[MW]at hp
   grind
  obtain⟨rfl,rfl⟩:=hl
  have hall:∀ x∈cr ops.toList 0,ops[x.1]? = some x.2:=fun x hx=>dU.1 (by obtain⟨a,b⟩:=x;exact hx)
  exact Bf hall (rg _ _) _ (fun x hx=>(List.mem_filter.1 hx).1) [(ops.size,s)] 0 t s sc h rr e
 ·cases h
noncomputable section
inductive D where
 |bool (b:Bool)
 |int (k:IntKind) (n:Int)
 |str (s:List Nat)
 |ptr (o c:Nat)
 |eptr (cs:List D) (c:Nat)
 |bptr (o n i c:Nat)
 |tptr (o s i c:Nat)
 |nilptr
 |row (sz:Nat) (l:List (List D))
 |buf (sz o n:Nat)
 |tb (sz o s k:Nat)
 |nilrow
 |nilx
 |map (o:Nat)
 |nilmap
 |func (fn:FuncId) (first captured:List D)
 |nilFunc
 |iface (t:TypeId) (d:D)
 |nilIface
 |agg (cs:List D)
 |tuple (ds:List D)
 |yld (o:Nat)          -- the rounds of a loop over a function
 |abool                  -- true or false
 deriving Inhabited
inductive LD where
 |g (d:D)
 |lp (k c:Nat)
 |u
 deriving Inhabited
inductive DB where
 |dead
 |cells (st:Nat) (cs:List D)
 |buf (sz:Nat) (st cap:Bool) (l:List (List D))
 |tbuf (sz s:Nat) (l:List (List D))
 |map (es:List (D×D))
 |coll                   -- what waits for the end of a loop over a function
 |loop (rdy:Bool) (f:FuncId) (nt:Nat) (t:T LD) (ps:Array Tmp) (a b:Code)
 |opq
 deriving Inhabited
structure fB where
 v:D
 recovered:Bool
inductive eU where
 |run
 |returning
 |panicking (c:List fB)
 |round (o:Nat)
structure WL where
 fn:FuncId
 captured:List D
 args:List D
inductive qo where
 |call (d:WL)
 |coll (o:Nat)
inductive Pb where
 |ret (d:D)
 |pan (c:List fB)
abbrev DH:=List DB
abbrev LS:=List (Nat×List D)
structure iC where
 e:Pb
 up:Option eU
 H:DH
abbrev ah:=Option iC
inductive zb where
 |val (d:LD) (L:LS) (H:DH)
 |skip (L:LS) (H:DH)
 |enter (f:FuncId) (args:List D) (L:LS) (H:DH)
 |defer (d:WL) (L:LS) (H:DH)
 |recover (L:LS) (H:DH)
 |panic (d:D) (L:LS) (H:DH)
 |round (o:Nat) (args:List D) (L:LS) (H:DH)
inductive Hk where
 |fz (sz:Nat)
 |acc (sz:Nat)
structure ii where
 cuts:List (Nat×List Nat×List Nat)
 esc:List Nat
 hooks:List (Nat×List (Nat×Hk))
 rfz:List (Nat×Nat×Hk)
 trim:Bool
def ii.no:ii:=⟨[],[],[],[],false⟩
structure cF where
 E:dA
 an:T ii
 orc:FuncId->List D->DH->Option (D×DH)
 vo:FuncId->Bool      -- known beforehand to the evaluator below
def cF.ann(E:cF)(f:FuncId):ii:=match E.an.get (eQ f)with
 |some a=>a
 |none=>ii.no
def QU:V->Option D
 |.bool b=>some (.bool b)
 |.int k n=>some (.int k n)
 |.str l=>bif l.all (fun c=>Nat.blt c 256)then some (.str l)else none
 |.nilptr=>some .nilptr
 |.nilslice=>some .nilrow
 |.nilmap=>some .nilmap
 |.func fn a b=>match fn with
  |.func f=>bif a.isEmpty&&b.isEmpty then some (.func f [] [])else none
  |_=>none
 |.nilFunc=>some .nilFunc
 |.nilIface=>some .nilIface
 |_=>none
def yw:List V->Option (List D)
 |[]=>some []
 |v::r=>match QU v with
  |some d=>match yw r with
   |some l=>some (d::l)
   |none=>none
  |none=>none
def Vc:V->Option D
 |.agg cs=>match yw cs with
  |some l=>some (.agg l)
  |none=>none
 |v=>QU v
def D.cells:D->List D
 |.agg cs=>cs
 |d=>[d]
def pc(P:Program)(t:TypeId):Option D:=match zero P t with
 |some z=>Vc z
 |none=>none
def Wu:List V->List D->List D
 |v::r,d::l=>(match v with|.nilslice=>.nilx|_=>d)::Wu r l
 |_,l=>l
def LL(P:Program)(t:TypeId):Option D:=match zero P t with
 |some (.agg cs)=>match yw cs with
  |some l=>some (.agg (Wu cs l))
  |none=>none
 |_=>none
def gI(t:T LD):Operand->Option LD
 |.tmp i=>t.get (eQ i)
 |.const v=>match V.ofConst v with
  |some v=>match Vc v with
   |some d=>some (.g d)
   |none=>none
  |none=>none
 |.global _=>none
 |.func f=>some (.g (.func f [] []))
def kU:Unit:=(fun _=>()) @gV
def T.setQ{α β:Type}(x:Option α)(p:zf)(t:T α)(k:T α->β):β:=(fun _ =>
 zf.rec (motive:=fun _=>T α->(T α->β)->β)
  (fun t k=>T.rec (motive:=fun _=>β) (k (.node .leaf x .leaf)) (fun l _ r _ _=>k (.node l x r)) t)
  (fun _ ih t k=>T.rec (motive:=fun _=>β) (ih .leaf fun t=>k (.node t none .leaf)) (fun l v r _ _=>ih l fun t=>k (.node t v r)) t)
  (fun _ ih t k=>T.rec (motive:=fun _=>β) (ih .leaf fun t=>k (.node .leaf none t)) (fun l v r _ _=>ih r fun t=>k (.node l v t)) t) p t k) kU
theorem T.setQ_eq{α β:Type}(x:Option α)(p:zf)(t:T α)(k:T α->β):T.setQ x p t k=k (T.set x p t):=T.setK_eq x p t k
def gD(x:Option LD)(κ:D->ah):ah:=(fun _=>match x with
 |some (.g d)=>κ d
 |_=>none) kU
def lD(x:Option LD)(κ:LD->ah):ah:=(fun _=>match x with
 |some d=>κ d
 |none=>none) kU
def EV(t:T LD):List Operand->(List D->ah)->ah
 |[],κ=>κ []
 |x::r,κ=>gD (gI t x) fun d=>EV t r fun l=>κ (d::l)
def JG(a b:ah):ah:=open Classical in if a=b then a else none
def brD(d:D)(a b:ah):ah:=match d with
 |.bool q=>cond q a b
 |.abool=>JG a b
 |_=>none
def YT(d:D)(a b:ah):ah:=match d with
 |.bool q=>cond q a b
 |_=>none
def aA(cs:List D)(c:Nat)(κ:D->ah):ah:=match cs[c]? with
 |some d=>κ d
 |none=>none
def zY:Nat->List D->Nat->(List D->ah)->ah
 |0,_,_,κ=>κ []
 |n+1,cs,c,κ=>aA cs c fun d=>zY n cs (c+1) fun l=>κ (d::l)
def ai(n:Nat)(d:D)(κ:List D->ah):ah:=match d with
 |.agg cs=>bif Nat.beq cs.length n then κ cs else none
 |.tuple _=>none
 |d=>bif Nat.beq n 1 then κ [d] else none
def au(H:DH)(o:Nat)(κ:Nat->List D->ah):ah:=match H[o]? with
 |some (.cells st cs)=>κ st cs
 |_=>none
def gG(H:DH)(o n:Nat)(κ:Nat->Bool->Bool->List (List D)->ah):ah:=match H[o]? with
 |some (.buf sz st cap l)=>bif Nat.beq n l.length then κ sz st cap l else none
 |_=>none
def Ir(H:DH)(o s:Nat)(κ:Nat->List (List D)->ah):ah:=match H[o]? with
 |some (.tbuf sz s' l)=>bif Nat.beq s s' then κ sz l else none
 |_=>none
def nF(H:DH)(o:Nat)(κ:List (D×D)->ah):ah:=match H[o]? with
 |some (.map es)=>κ es
 |_=>none
def cY(n:Int)(κ:Nat->ah):ah:=match n with
 |.ofNat n=>κ n
 |_=>none
def dM(l:List (List D))(i:Nat)(κ:List D->ah):ah:=match l[i]? with
 |some cs=>κ cs
 |none=>none
def boK(b:Bool)(κ:ah):ah:=bif b then κ else none
def uD:List D->Nat->List D->Option (List D)
 |cs,_,[]=>some cs
 |x::r,n+1,new=>match uD r n new with
  |some l=>some (x::l)
  |none=>none
 |_::r,0,y::new=>match uD r 0 new with
  |some l=>some (y::l)
  |none=>none
 |[],_,_::_=>none
def az(cs:List D)(c:Nat)(new:List D)(κ:List D->ah):ah:=match uD cs c new with
 |some l=>κ l
 |none=>none
def ci(P:Program)(ty:TypeId)(cs:List D)(c:Nat)(κ:D->ah):ah:=match pY P ty with
 |some true=>match size P ty with
  |some n=>bif Nat.blt 0 n then zY n cs c fun l=>κ (.agg l)else none
  |none=>none
 |some false=>aA cs c κ
 |none=>none
def bQ(P:Program)(ty:TypeId)(d:D)(H:DH)(κ:D->ah):ah:=match d with
 |.eptr cs c=>ci P ty cs c κ
 |.ptr o c=>au H o fun _ cs=>ci P ty cs c κ
 |.bptr o n i c=>gG H o n fun _ _ _ l=>dM l i fun cs=>ci P ty cs c κ
 |.tptr o s i c=>Ir H o s fun _ l=>dM l i fun cs=>ci P ty cs c κ
 |_=>none
def kf(P:Program)(ty:TypeId)(x:LD)(L:LS)(H:DH)(κ:D->ah):ah:=(fun _=>match x with
 |.lp k c=>match L[k]? with
  |some (_,cs)=>ci P ty cs c κ
  |none=>none
 |.g d=>bQ P ty d H κ
 |.u=>none) kU
def sK(d:D)(new:List D)(H:DH)(κ:DH->ah):ah:=match d with
 |.ptr o c=>au H o fun st cs=>az cs c new fun cs=>κ (H.set o (.cells (st+1) cs))
 |.bptr o n i c=>gG H o n fun sz st cap l=>boK st (dM l i fun cs=>az cs c new fun cs=>κ (H.set o (.buf sz st cap (l.set i cs))))
 |_=>none
def wd(P:Program)(ty:TypeId)(x:LD)(v:D)(L:LS)(H:DH)(κ:LS->DH->ah):ah:=(fun _=>match size P ty with
 |some n=>(match Nat.blt 0 n with|false=>(none)|true=>(ai n v fun new=>match x with
  |.lp k c=>match L[k]? with
   |some (st,cs)=>az cs c new fun cs=>κ (L.set k (st+1,cs)) H
   |none=>none
  |.g d=>sK d new H fun H=>κ L H
  |.u=>none))
 |none=>none) kU
def Bb(place:Nat->Option (Nat×Nat))(t:T LD):List (Nat×Operand)->List D->(List D->ah)->ah
 |[],cs,κ=>κ cs
 |(i,x)::r,cs,κ=>gD (gI t x) fun d=>match place i with
  |none=>none
  |some (off,n)=>bif Nat.blt 0 n then ai n d fun new=>az cs off new fun cs=>Bb place t r cs κ else none
def ql(P:Program)(t:T LD)(ty:TypeId)(parts:List (Nat×Operand))(z:Option D)(κ:D->ah):ah:=match z with
 |some z=>match P.underlying ty with
  |some (.struct fs)=>bif fs.toList.all (fun f=>(size P f.type).isSome)then Bb (nO P fs) t parts z.cells fun cs=>κ (.agg cs)else none
  |some (.array _ el)=>match size P el with
   |some n=>Bb (fun i=>some (i*n,n)) t parts z.cells fun cs=>κ (.agg cs)
   |none=>none
  |_=>none
 |none=>none
def HL(P:Program)(t:T LD)(ty:TypeId)(parts:List (Nat×Operand))(κ:D->ah):ah:=ql P t ty parts (pc P ty) κ
def mY(t:T LD)(n len:Nat):List (Nat×Operand)->List (List D)->(List (List D)->ah)->ah
 |[],l,κ=>κ l
 |(i,x)::r,l,κ=>gD (gI t x) fun d=>bif Nat.blt i len then ai n d fun new=>mY t n len r (l.set i new) κ else none
def DV(n:Nat)(l:List (List D)):D:=match l with
 |[]=>.nilrow
 |x::r=>.row n (x::r)
def fo(P:Program)(t:T LD)(ty:TypeId)(len:Nat)(parts:List (Nat×Operand))(κ:D->ah):ah:=match P.underlying ty with
 |some (.slice el)=>match pc P el with
  |some z=>match size P el with
   |some n=>(match Nat.ble (len*n) 10000&&!(Nat.beq n 0)&&Nat.beq z.cells.length n with|true=>(mY t n len parts (List.replicate len z.cells) fun l=>κ (DV n l))|false=>(none))
   |none=>none
  |none=>none
 |_=>none
def Kj(esc:Bool)(d:D)(H:DH)(κ:D->DH->ah):ah:=match esc with
 |false=>κ d H
 |true=>match d with
  |.row sz (x::r)=>κ (.buf sz H.length (r.length+1)) (H++[.buf sz true false (x::r)])
  |_=>none
def eR(d:D)(κ:D->ah):ah:=match d with
 |.ptr o c=>κ (.ptr o c)
 |.eptr cs c=>κ (.eptr cs c)
 |.bptr o n i c=>κ (.bptr o n i c)
 |.tptr o s i c=>κ (.tptr o s i c)
 |.func f a b=>κ (.func f a b)
 |.yld o=>κ (.yld o)
 |_=>none
def QX(x:LD)(κ:LD->ah):ah:=(fun _=>match x with
 |.lp k c=>κ (.lp k c)
 |.g d=>eR d fun d=>κ (.g d)
 |.u=>none) kU
def TF(op:BinOp)(k:IntKind)(a b:Int)(κ:D->ah):ah:=match op with
 |.add=>κ (.int k (k.wrap (a+b)))
 |.sub=>κ (.int k (k.wrap (a - b)))
 |.mul=>κ (.int k (k.wrap (a*b)))
 |.eql=>κ (.bool (a==b))
 |.neq=>κ (.bool (a != b))
 |.lss=>κ (.bool (decide (a<b)))
 |.leq=>κ (.bool (decide (a<=b)))
 |.gtr=>κ (.bool (decide (a>b)))
 |.geq=>κ (.bool (decide (a>=b)))
 |.quo=>boK (!(b==0)) (κ (.int k (k.wrap (a.tdiv b))))
 |.rem=>boK (!(b==0)) (κ (.int k (a.tmod b)))
 |_=>none
def Sy(op:BinOp)(a b:List Nat)(κ:D->ah):ah:=match op with
 |.add=>boK (Nat.ble (a.length+b.length) 1000000) (κ (.str (a++b)))
 |.eql=>κ (.bool (a==b))
 |.neq=>κ (.bool (!(a==b)))
 |.lss=>κ (.bool (Op.bytesLess (oh a) (oh b)))
 |_=>none
def MY(P:Program)(t:TypeId)(cs:List D)(off:Nat)(κ:D->ah):ah:=ci P t cs off κ
def Og(P:Program)(eq:TypeId->D->D->(Bool->ah)->ah):List Field->List D->List D->Bool->(Bool->ah)->ah
 |[],_,_,q,κ=>κ q
 |f::r,xs,ys,q,κ=>bif f.name == "_" then none else MY P f.type xs f.offset fun a=>MY P f.type ys f.offset fun b=>eq f.type a b fun p=>Og P eq r xs ys (q&&p) κ
def KP(P:Program):Nat->TypeId->D->D->(Bool->ah)->ah
 |0,_,_,_,_=>none
 |d+1,t,x,y,κ=>match P.underlying t with
  |some (.struct fs)=>match x,y with
   |.agg xs,.agg ys=>bif P.stoodInHeld t then none else Og P (KP P d) fs.toList xs ys true κ
   |_,_=>none
  |some (.interface _)=>match x,y with
   |.nilIface,.nilIface=>κ true
   |.nilIface,.iface _ _=>κ false
   |.iface _ _,.nilIface=>κ false
   |_,_=>none
  |some .bool=>match x,y with
   |.bool a,.bool b=>κ (a==b)
   |_,_=>none
  |some (.int _)=>match x,y with
   |.int j a,.int k b=>bif dF j k then κ (a==b)else none
   |_,_=>none
  |some .string=>match x,y with
   |.str a,.str b=>κ (a==b)
   |_,_=>none
  |some (.pointer _)=>match x,y with
   |.nilptr,.nilptr=>κ true
   |.nilptr,.ptr _ _=>κ false
   |.nilptr,.eptr _ _=>κ false
   |.nilptr,.bptr _ _ _ _=>κ false
   |.ptr _ _,.nilptr=>κ false
   |.eptr _ _,.nilptr=>κ false
   |.bptr _ _ _ _,.nilptr=>κ false
   |_,_=>none
  |some (.func _ _ _)=>match x,y with
   |.nilFunc,.nilFunc=>κ true
   |.nilFunc,.func ..=>κ false
   |.func ..,.nilFunc=>κ false
   |_,_=>none
  |_=>none
def NR(P:Program)(op:BinOp)(t:TypeId)(c:Bool)(a b:D):Bool :=
 bif lU op then match a,b with
  |.nilIface,.nilIface=>c
  |.agg _,.agg _=>!(P.eqGuardType P.depth t)
  |_,_=>true
 else true
def av(P:Program)(op:BinOp)(t:TypeId)(c:Bool)(x y:D)(κ:D->ah):ah:=match x,y with
 |.int j a,.int k b=>bif oJ op then none else bif dF j k then TF op j a b κ else none
 |.str a,.str b=>Sy op a b κ
 |x,y=>bif NR P op t c x y then(match op with
  |.eql=>KP P 20 t x y fun q=>κ (.bool q)
  |.neq=>KP P 20 t x y fun q=>κ (.bool !q)
  |_=>none)else none
def IK(H:DH)(o:Nat):Bool:=match H[o]? with
 |some (.cells _ _)=>true
 |_=>false
def zo(P:Program)(d:TypeDesc):Bool:=match d with
 |.pointer e=>(match size P e with
  |some n=>!(Nat.beq n 0)
  |none=>false)
 |_=>false
def SP(P:Program)(t:TypeId):Bool:=match P.underlying t with
 |some d=>zo P d
 |none=>false
def GC(P:Program)(t:TypeId)(c:Bool)(op:BinOp)(x y:D)(H:DH)(q:Bool->Bool)(κ:D->ah):ah:=match SP P t with
 |true=>(match y with
  |.ptr o2 c2=>(match x with
   |.ptr o1 c1=>bif IK H o1&&IK H o2 then κ (.bool (q (Nat.beq o1 o2&&Nat.beq c1 c2)))else none
   |x=>av P op t c x (.ptr o2 c2) κ)
  |y=>av P op t c x y κ)
 |false=>av P op t c x y κ
def yK(P:Program)(op:BinOp)(t:TypeId)(c:Bool)(x y:D)(H:DH)(κ:D->ah):ah:=match op with
 |.eql=>GC P t c .eql x y H (fun b=>b) κ
 |.neq=>GC P t c .neq x y H (fun b=>!b) κ
 |op=>av P op t c x y κ
def pW:Operand->Bool
 |.const c=>match V.ofConst c with
  |some .nilslice=>true
  |_=>false
 |_=>false
def Ta:BinOp->Bool
 |.eql=>false
 |_=>true
def SZ(op:BinOp)(l:List (List D))(κ:D->ah):ah:=match l with
 |[]=>κ .abool
 |_::_=>κ (.bool (Ta op))
def Ku(op:BinOp)(x:D)(κ:D->ah):ah:=bif lU op then(match x with
 |.nilrow=>κ .abool
 |.row _ l=>SZ op l κ
 |.buf _ _ n=>(match n with|0=>κ .abool|_+1=>κ (.bool (Ta op)))
 |_=>none)else none
def sF(op:UnOp)(x:D)(κ:D->ah):ah:=match op with
 |.not=>match x with
  |.bool b=>κ (.bool !b)
  |_=>none
 |.neg=>match x with
  |.int k n=>κ (.int k (k.wrap (0 - n)))
  |_=>none
 |_=>none
def pD(P:Program)(src dst:TypeId)(x:D)(κ:D->ah):ah:=bif (P.underlying src).isNone then none else match P.underlying dst with
 |some (.int k)=>match x with
  |.int _ n=>κ (.int k (k.wrap n))
  |_=>none
 |some .string=>match x with
  |.str l=>κ (.str l)
  |.int _ n=>κ (.str ((Utf8.encode n).data.toList.map UInt8.toNat))
  |_=>none
 |_=>none
def Ns(P:Program)(el:TypeId)(n:Nat)(κ:List (List D)->Nat->ah):ah:=match pc P el with
 |some z=>match size P el with
  |some sz=>bif !(Nat.beq sz 0)&&Nat.beq z.cells.length sz then boK (Nat.ble n 2199023255552&&iD P el n) (κ (List.replicate n z.cells) sz)else none
  |none=>none
 |none=>none
def tR(o:Option D)(d:Nat)(κ:Nat->ah):ah:=match o with
 |some (.int _ n)=>cY n κ
 |some _=>none
 |none=>κ d
def KO(t:T LD):Option Operand->(Option D->ah)->ah
 |none,κ=>κ none
 |some x,κ=>gD (gI t x) fun d=>κ (some d)
def DN(sz:Nat)(l:List (List D))(lo hi:Option D)(κ:D->ah):ah :=
 tR hi l.length fun h=>tR lo 0 fun b=>boK (Nat.ble h l.length&&Nat.beq b 0) (κ (.row sz (l.take h)))
def cI(P:Program)(t:TypeId)(x:D)(lo hi mx:Option D)(H:DH)(κ:D->DH->ah):ah:=match P.underlying t with
 |some .string=>match x with
  |.str l=>match mx with
   |none=>tR hi l.length fun h=>tR lo 0 fun b=>boK (Nat.ble h l.length&&Nat.ble b h) (κ (.str ((l.drop b).take (h - b))) H)
   |some _=>none
  |_=>none
 |some (.slice e)=>match size P e with
  |some sz=>match mx with
   |none=>match x with
    |.row s l=>bif Nat.beq s sz then DN sz l lo hi fun d=>κ d H else none
    |.buf s' o n=>gG H o n fun s _ cap l=>boK (Nat.beq s' sz) (DN sz l lo hi fun d=>κ d (H.set o (.buf s false cap l)))
    |.nilrow=>tR hi 0 fun h=>tR lo 0 fun b=>boK (Nat.beq h 0&&Nat.beq b 0) (κ .nilrow H)
    |_=>none
   |some m=>tR (some m) 0 fun m=>tR hi 0 fun h=>tR lo 0 fun b=>bif hi.isSome&&(Nat.beq m 0&&Nat.beq h 0&&Nat.beq b 0)then(match x with
    |.row s _=>bif Nat.beq s sz then κ .nilrow H else none
    |.buf s' o n=>gG H o n fun _ _ _ _=>boK (Nat.beq s' sz) (κ .nilrow H)
    |.nilrow=>κ .nilrow H
    |_=>none)else none
  |none=>none
 |_=>none
def Me(P:Program)(t:TypeId)(x:D)(lo hi mx:Option D)(H:DH)(κ:D->DH->ah):ah:=match P.underlying t with
 |some (.slice e)=>match size P e with
  |some sz=>match lo with
   |none=>match mx with
    |none=>match hi with
     |some (.int _ h)=>cY h fun h=>match x with
      |.buf s o n=>bif Nat.beq s sz then gG H o n fun z st cap l=>boK (Nat.beq z sz&&(st&&(!cap&&(Nat.ble h n&&Nat.blt 0 n)))) (κ (.tb sz o (n+1) h) (H.set o (.tbuf sz (n+1) (l.take h))))else none
      |.tb s o st k=>bif Nat.beq s sz then Ir H o st fun z l=>boK (Nat.beq z sz&&Nat.ble h k) (κ (.tb sz o (st+1) h) (H.set o (.tbuf sz (st+1) (l.take h))))else none
      |_=>none
     |_=>none
    |_=>none
   |_=>none
  |none=>none
 |_=>none
def dz(d:D)(off:Nat)(κ:D->ah):ah:=match d with
 |.ptr o c=>κ (.ptr o (c+off))
 |.eptr cs c=>κ (.eptr cs (c+off))
 |.bptr o n i c=>κ (.bptr o n i (c+off))
 |.tptr o s i c=>κ (.tptr o s i (c+off))
 |_=>none
def NZ(x:LD)(off:Nat)(κ:LD->ah):ah:=(fun _=>match x with
 |.lp k c=>κ (.lp k (c+off))
 |.g d=>dz d off fun d=>κ (.g d)
 |.u=>none) kU
def xL(P:Program)(ty:TypeId)(x:LD)(f:Nat)(κ:LD->ah):ah:=(fun _=>match P.underlying ty with
 |some (.struct fs)=>match fs[f]? with
  |some fd=>(match kh fd P with|true=>(none)|false=>(NZ x fd.offset κ))
  |none=>none
 |_=>none) kU
def OE(P:Program)(ty:TypeId):Option (Nat×TypeId):=match P.underlying ty with
 |some (.array len el)=>some (len,el)
 |_=>none
def OM(P:Program)(el:TypeId)(len:Nat)(x:LD)(i:D)(κ:LD->ah):ah:=match size P el with
 |some n=>match i with
  |.int _ i=>cY i fun i=>boK (Nat.blt i len) (NZ x (i*n) κ)
  |_=>none
 |none=>none
def xK(P:Program)(ty:TypeId)(x:D)(f:Nat)(κ:D->ah):ah:=match P.underlying ty with
 |some (.struct fs)=>match fs[f]? with
  |some fd=>match x with
   |.agg cs=>MY P fd.type cs fd.offset κ
   |_=>none
  |none=>none
 |_=>none
def mI(x:D)(sz:Nat)(i:Int)(κ:D->ah):ah:=match x with
 |.row s l=>bif Nat.beq s sz then cY i fun i=>dM l i fun cs=>κ (.eptr cs 0)else none
 |.buf s o n=>bif Nat.beq s sz then cY i fun i=>boK (Nat.blt i n) (κ (.bptr o n i 0))else none
 |.tb s o st k=>bif Nat.beq s sz then cY i fun i=>boK (Nat.blt i k) (κ (.tptr o st i 0))else none
 |_=>none
def aq(P:Program)(ty:TypeId)(x i:D)(κ:D->ah):ah:=match P.underlying ty with
 |some (.slice el)=>match size P el with
  |some sz=>match i with
   |.int _ i=>mI x sz i κ
   |_=>none
  |none=>none
 |_=>none
def eI(l:List Nat)(i:Nat)(κ:D->ah):ah:=match l[i]? with
 |some c=>κ (.int .u8 (.ofNat (Nat.mod c 256)))
 |none=>none
def js(P:Program)(ty:TypeId)(x i:D)(κ:D->ah):ah:=match P.underlying ty with
 |some .string=>match x with
  |.str l=>match i with
   |.int _ i=>cY i fun i=>eI l i κ
   |_=>none
  |_=>none
 |some (.array len el)=>match x with
  |.agg cs=>match size P el with
   |some sz=>match i with
    |.int _ i=>cY i fun i=>bif Nat.blt i len then ci P el cs (Nat.mul i sz) κ else none
    |_=>none
   |none=>none
  |_=>none
 |_=>none
def nI:D->D->Option Bool
 |.int j a,.int k b=>bif dF j k then some (a==b)else none
 |.str a,.str b=>some (a==b)
 |.bool a,.bool b=>some (a==b)
 |.ptr o c,.ptr o' c'=>some (Nat.beq o o'&&Nat.beq c c')
 |_,_=>none
def jr(H:DH):List (D×D)->Bool
 |[]=>true
 |(.ptr o _,_)::r=>IK H o&&jr H r
 |_::r=>jr H r
def zr(k:D):List (D×D)->Option (Option D)
 |[]=>some none
 |(x,v)::r=>match nI k x with
  |some true=>some (some v)
  |some false=>zr k r
  |none=>none
def Cj(k v:D):List (D×D)->Option (List (D×D))
 |[]=>some [(k,v)]
 |(x,w)::r=>match nI k x with
  |some true=>some ((k,v)::r)
  |some false=>match Cj k v r with
   |some r=>some ((x,w)::r)
   |none=>none
  |none=>none
def mC(k:D)(es:List (D×D))(κ:Option D->ah):ah:=match zr k es with
 |some o=>κ o
 |none=>none
def mB(k v:D)(es:List (D×D))(κ:List (D×D)->ah):ah:=match Cj k v es with
 |some es=>κ es
 |none=>none
def fS(P:Program)(el:TypeId)(ok:Bool)(o:Option D)(κ:D->ah):ah:=match o with
 |some d=>κ (bif ok then .tuple [d,.bool true] else d)
 |none=>match pc P el with
  |some z=>κ (bif ok then .tuple [z,.bool false] else z)
  |none=>none
def rA(d:TypeDesc):Bool:=match d with
 |.int _=>true
 |.string=>true
 |.bool=>true
 |_=>false
def vk(P:Program)(ty:TypeId):Option (TypeDesc×TypeId):=match P.underlying ty with
 |some (.map kt el)=>match P.underlying kt with
  |some d=>bif rA d||zo P d then some (d,el)else none
  |none=>none
 |_=>none
def pU(td:TypeDesc)(d:D):Bool:=match td with
 |.int _=>match d with
  |.int _ _=>true
  |_=>false
 |.string=>match d with
  |.str _=>true
  |_=>false
 |.bool=>match d with
  |.bool _=>true
  |_=>false
 |.pointer _=>match d with
  |.ptr _ _=>true
  |_=>false
 |_=>false
def jm(P:Program)(ty:TypeId)(m k:D)(ok:Bool)(H:DH)(κ:D->ah):ah:=match vk P ty with
 |some (td,el)=>match m with
  |.map o=>bif pU td k then nF H o fun es=>(match k with
   |.ptr o2 c2=>bif IK H o2&&jr H es then mC (.ptr o2 c2) es fun r=>fS P el ok r κ else none
   |k=>mC k es fun r=>fS P el ok r κ)else none
  |.nilmap=>fS P el ok none κ
  |_=>none
 |none=>none
def jY(P:Program)(ty:TypeId)(m k v:D)(H:DH)(κ:DH->ah):ah:=match vk P ty with
 |some (td,_)=>match m with
  |.map o=>bif pU td k then nF H o fun es=>(match k with
   |.ptr o2 c2=>bif IK H o2&&jr H es then mB (.ptr o2 c2) v es fun es=>κ (H.set o (.map es))else none
   |k=>mB k v es fun es=>κ (H.set o (.map es)))else none
  |_=>none
 |none=>none
def mq(P:Program)(x:D)(ty:TypeId)(ok:Bool)(κ:D->ah):ah:=match P.underlying ty with
 |some (.interface _)=>none
 |some _=>match x with
  |.iface t d=>bif Nat.beq t ty then κ (bif ok then .tuple [d,.bool true] else d)else bif ok then(match pc P ty with
   |some z=>κ (.tuple [z,.bool false])
   |none=>none)else none
  |.nilIface=>bif ok then(match pc P ty with
   |some z=>κ (.tuple [z,.bool false])
   |none=>none)else none
  |_=>none
 |none=>none
def gY(x:D)(i:Nat)(κ:D->ah):ah:=match x with
 |.tuple ds=>aA ds i κ
 |_=>none
def EY(y:D)(H:DH)(sz:Nat)(κ:List (List D)->ah):ah:=(fun _=>match y with
 |.row s l=>(match Nat.beq s sz with|true=>(κ l)|false=>(none))
 |.nilrow=>κ []
 |.nilx=>κ []
 |.buf s o n=>(match Nat.beq s sz with|true=>(gG H o n fun _ _ _ l=>κ l)|false=>(none))
 |_=>none) kU
def grow(o:Nat)(sz:Nat)(st cap:Bool)(l els:List (List D))(H:DH)(κ:D->DH->ah):ah :=
 bif cap then κ (.buf sz H.length (l.length+els.length)) (H++[.buf sz true false (l++els)])
 else κ (.buf sz o (l.length+els.length)) (H.set o (.buf sz st false (l++els)))
def cE(ok:Nat->Bool)(sz:Nat)(x:D)(els:List (List D))(H:DH)(κ:D->DH->ah):ah:=boK (ok els.length) (match x with
 |.nilrow=>match els with
  |[]=>κ .nilrow H
  |e::r=>κ (.buf sz H.length (r.length+1)) (H++[.buf sz true false (e::r)])
 |.nilx=>match els with
  |[]=>κ .nilrow H
  |e::r=>κ (.buf sz H.length (r.length+1)) (H++[.buf sz true false (e::r)])
 |.buf s o n=>bif Nat.beq s sz then gG H o n fun _ st cap l=>boK (ok (l.length+els.length)&&!(cap&&els.isEmpty)) (grow o sz st cap l els H κ)else none
 |.tb s o st k=>bif Nat.beq s sz then Ir H o st fun _ l=>boK (ok (k+els.length)&&!els.isEmpty) (κ (.tb sz o (st+1) (k+els.length)) (H.set o (.tbuf sz (st+1) (l++els))))else none
 |_=>none)
def sf(P:Program)(sT xT:TypeId)(x y:D)(H:DH)(κ:D->DH->ah):ah:=(fun _=>match P.underlying sT with
 |some (.slice elem)=>(match Eg P xT with|false=>(none)|true=>((match size P elem with
  |some sz=>(match tJ P elem sz with|true=>(EY y H sz fun els=>cE (aJ P elem) sz x els H κ)|false=>(none))
  |none=>none)))
 |_=>none) kU
def bJ(P:Program)(t:TypeId)(x:D)(H:DH)(κ:D->ah):ah:=match P.underlying t with
 |some .string=>match x with
  |.str l=>κ (.int .i64 l.length)
  |_=>none
 |some (.slice _)=>match x with
  |.row _ l=>κ (.int .i64 l.length)
  |.buf _ _ n=>κ (.int .i64 n)
  |.tb _ _ _ k=>κ (.int .i64 k)
  |.nilrow=>κ (.int .i64 0)
  |.nilx=>κ (.int .i64 0)
  |_=>none
 |some (.map _ _)=>match x with
  |.map o=>nF H o fun es=>κ (.int .i64 es.length)
  |.nilmap=>κ (.int .i64 0)
  |_=>none
 |_=>none
def Nu(g:Bool)(x y:D)(κ:D->ah):ah:=match x with
 |.int j a=>match y with
  |.int k b=>bif dF j k then κ (.int j (bif g then(bif decide (b>a)then b else a)else(bif decide (b<a)then b else a)))else none
  |_=>none
 |_=>none
def fX(g:Bool):D->List D->(D->ah)->ah
 |x,[],κ=>κ x
 |x,y::r,κ=>Nu g x y fun z=>fX g z r κ
def Kv(esc:Bool)(cs:List D)(L:LS)(H:DH)(κ:zb->ah):ah:=(fun _=>  (match esc with|true=>(κ (.val (.g (.ptr H.length 0)) L (H++[.cells 0 cs])))|false=>(κ (.val (.lp L.length 0) (L++[(0,cs)]) H)))) kU
def MC(t:T LD)(o:Operand)(b:Bool)(κ:T LD->ah):ah:=(fun _=>match o with
 |.tmp i=>t.setQ (some (.g (.bool b))) (eQ i) κ
 |_=>κ t) kU
def RM(t:T LD)(L:LS)(H:DH)(c a b:Operand)(κ:T LD->zb->ah):ah :=
 gD (gI t c) fun d=>YT d (MC t c true fun t=>lD (gI t a) fun x=>κ t (.val x L H)) (MC t c false fun t=>lD (gI t b) fun x=>κ t (.val x L H))
def eK(E:dA)(f:FuncId):Bool:=match E.P.funcs[f]? with
 |some fn=>fn.body.isSome
 |none=>false
def Db(E:dA)(L:LS)(H:DH)(args:List D)(f:D)(κ:zb->ah):ah:=(fun _=>match f with
 |.func g first cap=>(match eK E g with|true=>(κ (.enter g (first++(args++cap)) L H))|false=>(none))
 |_=>none) kU
def Ic(L:LS)(H:DH)(args:List D)(f:D)(κ:zb->ah):ah:=(fun _=>match f with
 |.yld o=>κ (.round o args L H)
 |_=>none) kU
def mm(P:Program)(b:Builtin)(ts:Array TypeId)(args:List D)(L:LS)(H:DH)(κ:zb->ah):ah:=(fun _=>match b with
 |.append=>match ts[0]? with
  |some a=>match ts[1]? with
   |some b=>match args with
    |[x,y]=>sf P a b x y H fun d H=>κ (.val (.g d) L H)
    |_=>none
   |none=>none
  |none=>none
 |.len=>match ts[0]? with
  |some a=>match args with
   |[x]=>bJ P a x H fun d=>κ (.val (.g d) L H)
   |_=>none
  |none=>none
 |.max=>match args with
  |x::r=>fX true x r fun d=>κ (.val (.g d) L H)
  |_=>none
 |.min=>match args with
  |x::r=>fX false x r fun d=>κ (.val (.g d) L H)
  |_=>none
 |.recover=>κ (.recover L H)
 |.panic=>match args with
  |[.iface t v]=>κ (.panic (.iface t v) L H)
  |_=>none
 |_=>none) kU
def jH:Op->cF->Bool->T LD->LS->DH->(T LD->zb->ah)->ah
 |.move x,_,_,t,L,H,κ=>lD (gI t x) fun d=>κ t (.val d L H)
 |.assign x,_,_,t,L,H,κ=>lD (gI t x) fun d=>κ t (.val d L H)
 |.pick c a b,_,_,t,L,H,κ=>RM t L H c a b κ
 |.alloc elem,E,esc,t,L,H,κ=>match pc E.E.P elem with
  |some z=>Kv esc z.cells L H (κ t)
  |none=>none
 |.box elem x,E,esc,t,L,H,κ=>match size E.E.P elem with
  |some n=>gD (gI t x) fun d=>ai n d fun cs=>Kv esc cs L H (κ t)
  |none=>none
 |.build ty parts,E,esc,t,L,H,κ=>match esc with
  |true=>ql E.E.P t ty parts.toList (LL E.E.P ty) fun d=>κ t (.val (.g d) L H)
  |false=>HL E.E.P t ty parts.toList fun d=>κ t (.val (.g d) L H)
 |.buildSlice ty len parts,E,esc,t,L,H,κ=>fo E.E.P t ty len parts.toList fun d=>Kj esc d H fun d H=>κ t (.val (.g d) L H)
 |.load ty x,E,_,t,L,H,κ=>lD (gI t x) fun x=>kf E.E.P ty x L H fun d=>κ t (.val (.g d) L H)
 |.store ty x y,E,_,t,L,H,κ=>lD (gI t x) fun x=>gD (gI t y) fun v=>wd E.E.P ty x v L H fun L H=>κ t (.skip L H)
 |.nilCheck x,_,_,t,L,H,κ=>lD (gI t x) fun x=>QX x fun x=>κ t (.val x L H)
 |.binOp op ty x y _,E,_,t,L,H,κ=>gD (gI t x) fun a=>gD (gI t y) fun b=>(match pW y with|false=>(yK E.E.P op ty (dG x||dG y) a b H fun d=>κ t (.val (.g d) L H))|true=>((match E.E.P.underlying ty with
  |some (.slice _)=>Ku op a fun d=>κ t (.val (.g d) L H)
  |_=>none)))
 |.unOp op _ x,_,_,t,L,H,κ=>gD (gI t x) fun a=>sF op a fun d=>κ t (.val (.g d) L H)
 |.convert src dst x,E,_,t,L,H,κ=>gD (gI t x) fun a=>pD E.E.P src dst a fun d=>κ t (.val (.g d) L H)
 |.makeInterface ty x,E,_,t,L,H,κ=>gD (gI t x) fun a=>match E.E.P.underlying ty with
  |some (.interface _)=>none
  |some _=>κ t (.val (.g (.iface ty a)) L H)
  |none=>none
 |.makeFunc fn first cap,_,_,t,L,H,κ=>match fn with
  |.func f=>EV t first.toList fun a=>EV t cap.toList fun b=>κ t (.val (.g (.func f a b)) L H)
  |_=>none
 |.makeMap _ none,_,_,t,L,H,κ=>κ t (.val (.g (.map H.length)) L (H++[.map []]))
 |.makeSlice ty l c,E,_,t,L,H,κ=>match E.E.P.underlying ty with
  |some (.slice el)=>match l with
   |.tmp i=>match c with
    |.tmp j=>(match Nat.beq i j with|false=>(none)|true=>(gD (gI t (.tmp i)) fun d=>match d with
     |.int _ n=>cY n fun n=>Ns E.E.P el n fun l sz=>κ t (.val (.g (.buf sz H.length n)) L (H++[.buf sz true true l]))
     |_=>none))
    |_=>none
   |_=>none
  |_=>none
 |.slice ty x lo hi mx,E,esc,t,L,H,κ=>gD (gI t x) fun x=>KO t lo fun lo=>KO t hi fun hi=>KO t mx fun mx=>match esc with
  |true=>Me E.E.P ty x lo hi mx H fun d H=>κ t (.val (.g d) L H)
  |false=>cI E.E.P ty x lo hi mx H fun d H=>κ t (.val (.g d) L H)
 |.fieldAddr ty x f,E,_,t,L,H,κ=>lD (gI t x) fun x=>xL E.E.P ty x f fun x=>κ t (.val x L H)
 |.field ty x f,E,_,t,L,H,κ=>gD (gI t x) fun x=>xK E.E.P ty x f fun d=>κ t (.val (.g d) L H)
 |.indexAddr ty x i,E,_,t,L,H,κ=>match OE E.E.P ty with
  |some (len,el)=>lD (gI t x) fun x=>gD (gI t i) fun i=>OM E.E.P el len x i fun x=>κ t (.val x L H)
  |none=>gD (gI t x) fun x=>gD (gI t i) fun i=>aq E.E.P ty x i fun d=>κ t (.val (.g d) L H)
 |.index ty x i,E,_,t,L,H,κ=>gD (gI t x) fun x=>gD (gI t i) fun i=>js E.E.P ty x i fun d=>κ t (.val (.g d) L H)
 |.lookup ty x k ok,E,_,t,L,H,κ=>gD (gI t x) fun x=>gD (gI t k) fun k=>jm E.E.P ty x k ok H fun d=>κ t (.val (.g d) L H)
 |.mapUpdate ty m k x,E,_,t,L,H,κ=>gD (gI t m) fun m=>gD (gI t k) fun k=>gD (gI t x) fun x=>jY E.E.P ty m k x H fun H=>κ t (.skip L H)
 |.insert ty m k x,E,_,t,L,H,κ=>gD (gI t m) fun m=>gD (gI t k) fun k=>gD (gI t x) fun x=>jY E.E.P ty m k x H fun H=>κ t (.skip L H)
 |.typeAssert x _ ty ok,E,_,t,L,H,κ=>gD (gI t x) fun x=>mq E.E.P x ty ok fun d=>κ t (.val (.g d) L H)
 |.extract x i,_,_,t,L,H,κ=>gD (gI t x) fun x=>gY x i fun d=>κ t (.val (.g d) L H)
 |.call c,E,esc,t,L,H,κ=>EV t c.args.toList fun args=>match c.callee with
  |.builtin b=>mm E.E.P b c.argTypes args L H (κ t)
  |.value f=>gD (gI t f) fun f=>match esc with
   |true=>Ic L H args f (κ t)
   |false=>Db E.E L H args f (κ t)
  |.invoke _ _=>none
 |.defer c,E,_,t,L,H,κ=>EV t c.args.toList fun args=>match c.callee with
  |.value f=>gD (gI t f) fun f=>match f with
   |.func g first cap=>(match eK E.E g with|true=>(κ t (.defer ⟨g,cap,first++args⟩ L H))|false=>(none))
   |_=>none
  |_=>none
 |.panic x,_,_,t,L,H,κ=>gD (gI t x) fun x=>match x with
  |.iface ty d=>κ t (.panic (.iface ty d) L H)
  |_=>none
 |_,_,_,_,_,_,_=>none
def fK(h:Hk)(d:D)(H:DH)(κ:D->DH->ah):ah:=match h with
 |.fz sz=>match d with
  |.buf s' o n=>gG H o n fun s _ cap l=>boK (Nat.beq s' sz) (κ (.row sz l) (H.set o (.buf s false cap l)))
  |.nilrow=>κ (.row sz []) H
  |.nilx=>κ (.row sz []) H
  |.row s l=>κ (.row s l) H
  |_=>none
 |.acc sz=>match d with
  |.nilrow=>bif Nat.blt 0 sz then κ (.buf sz H.length 0) (H++[.buf sz true false []])else none
  |.buf s o n=>κ (.buf s o n) H
  |_=>none
def jt(h:Hk)(c:Nat)(d:D)(H:DH)(κ:D->DH->ah):ah:=match d with
 |.agg cs=>aA cs c fun x=>fK h x H fun y H=>κ (.agg (cs.set c y)) H
 |d=>bif Nat.beq c 0 then fK h d H κ else none
def xz:List (Nat×Hk)->D->DH->(D->DH->ah)->ah
 |[],d,H,κ=>κ d H
 |(c,h)::r,d,H,κ=>jt h c d H fun d H=>xz r d H κ
def Je{α:Type}:List (Nat×α)->Nat->Option α
 |[],_=>none
 |(j,x)::r,i=>bif Nat.beq i j then some x else Je r i
def rH(hs:List (Nat×List (Nat×Hk)))(dst:Option Tmp)(x:LD)(H:DH)(κ:LD->DH->ah):ah:=(fun _=>match hs with
 |[]=>κ x H
 |_::_=>match dst with
  |none=>κ x H
  |some i=>match Je hs i with
   |none=>κ x H
   |some l=>match x with
    |.g d=>xz l d H fun d H=>κ (.g d) H
    |_=>none) kU
def Tk(i:Nat):List Nat->Bool
 |[]=>false
 |j::r=>bif Nat.beq i j then true else Tk i r
def pu(an:ii)(dst:Option Tmp):Bool:=match an.esc with
 |[]=>false
 |l=>match dst with
  |some i=>Tk i l
  |none=>false
def jT(t:T LD)(d:Option Tmp)(x:LD)(κ:T LD->ah):ah:=(fun _=>match d with
 |some i=>t.setQ (some x) (eQ i) κ
 |none=>κ t) kU
def dw(x:ah)(kr:D->DH->ah)(kp:List fB->DH->ah):ah:=match x with
 |some ⟨.ret d,_,H⟩=>kr d H
 |some ⟨.pan c,_,H⟩=>kp c H
 |none=>none
def vR(ops:Array Oper)(t:T LD)(o:Oper)(kT kF:T LD->ah):ah:=(fun _=>match o.guard with
 |none=>kT t
 |some (j,want)=>match(ops[j]?).bind (·.dst)with
  |some i=>match t.get (eQ i)with
   |some (.g d)=>match want with
    |true=>brD d (t.setQ (some (.g (.bool true))) (eQ i) kT) (t.setQ (some (.g (.bool false))) (eQ i) kF)
    |false=>brD d (t.setQ (some (.g (.bool true))) (eQ i) kF) (t.setQ (some (.g (.bool false))) (eQ i) kT)
   |some .u=>kF t
   |_=>none
  |none=>none) kU
abbrev oZ:=FuncId->List D->Option eU->DH->ah
abbrev FQ:=T LD->LS->List qo->Option eU->DH->ah
def notRnd(up:Option eU)(r:ah):ah:=(fun _=>match up with
 |some (.round _)=>none
 |_=>r) kU
def lK(d:Option Tmp)(t:T LD)(L:LS)(ds:List qo)(H:DH)(k:FQ):Option eU->ah
 |some (.round _)=>(fun _=>none) kU
 |some (.panicking (⟨v,false⟩::older))=>jT t d (.g v) fun t=>k t L ds (some (.panicking (⟨v,true⟩::older))) H
 |some m=>jT t d (.g .nilIface) fun t=>k t L ds (some m) H
 |none=>none
def GL(an:ii)(rec:oZ)(d:Option Tmp)(t:T LD)(ds:List qo)(up:Option eU)(k:FQ)(kp:List fB->FQ):zb->ah
 |.val x L H=>(fun _=>rH an.hooks d x H fun x H=>jT t d x fun t=>k t L ds up H) kU
 |.skip L H=>jT t d .u fun t=>k t L ds up H
 |.enter f args L H=>dw (rec f args none H) (fun x H=>rH an.hooks d (.g x) H fun x H=>jT t d x fun t=>k t L ds up H) fun c H=>kp c t L ds up H
 |.defer df L H=>notRnd up (jT t d .u fun t=>k t L (.call df::ds) up H)
 |.recover L H=>lK d t L ds H k up
 |.panic v L H=>kp [⟨v,false⟩] t L ds up H
 |.round o args L H=>dw (rec 0 args (some (.round o)) H) (fun x H=>rH an.hooks d (.g x) H fun x H=>jT t d x fun t=>k t L ds up H) fun c H=>kp c t L ds up H
def oB(E:cF)(an:ii)(ops:Array Oper)(rec:oZ):List Oper->FQ->(List fB->FQ)->FQ
 |[],k,_,t,L,ds,up,H=>k t L ds up H
 |o::r,k,kp,t,L,ds,up,H=>vR ops t o
  (fun t=>jH o.op E (pu an o.dst) t L H fun t x=>GL an rec o.dst t ds up (oB E an ops rec r k kp) kp x)
  (fun t=>jT t o.dst .u fun t=>oB E an ops rec r k kp t L ds up H)
def tQ(bs:T Nat)(i:Nat):Nat:=match bs.get (eQ i)with
 |some b=>b
 |none=>0
def fA(bs:T Nat):List Tmp->Nat
 |[]=>0
 |i::r=>Nat.max (tQ bs i) (fA bs r)
def MU{β:Type}(bs:T Nat)(d:Option Tmp)(n:Nat)(κ:T Nat->β):β:=(fun _=>match d with
 |some i=>bs.setQ (some n) (eQ i) κ
 |none=>κ bs) kU
def fl(L:LS):List (LS×DH)->LS
 |[]=>L
 |(M,_)::r=>fl (meet L M) r
 where meet:LS->LS->LS
  |(a,cs)::l,(b,_)::m=>bif Nat.beq a b then(a,cs)::meet l m else(a,[])::meet l m
  |(a,_)::l,[]=>(a,[])::meet l []
  |[],_=>[]
def pH(κ:T LD->LD->LS->DH->ah)(t:T LD):zb->ah
 |.val x L H=>(fun _=>κ t x L H) kU
 |_=>none
def tD(an:ii)(d:Option Tmp):Bool:=match an.hooks with
 |[]=>false
 |l=>match d with
  |some i=>(Je l i).isSome
  |none=>false
def Et(r:List DH)(o:Nat):DB->DB
 |.cells st cs=>open Classical in if ∀ H2∈r,H2[o]? = some (.cells st cs)then .cells st cs else .dead
 |_=>.dead
def KX(r:List DH):Nat->DH->DH
 |_,[]=>[]
 |i,b::t=>Et r i b::KX r (i+1) t
def cR(H:DH)(r:List DH):DH:=KX r 0 H
def LE(H:DH):D->Bool
 |.nilx=>true
 |.bool _=>true
 |.int _ _=>true
 |.str _=>true
 |.buf _ o n=>match H[o]? with
  |some (.buf _ _ _ l)=>Nat.beq n l.length&&Nat.blt 0 n
  |_=>false
 |_=>false
def BX(P:Program)(ty:TypeId)(H:DH)(r:List DH)(o n i c:Nat)(κ:D->ah):ah:=gG H o n fun sz st cap l=>dM l i fun cs=>ci P ty cs c fun d=>open Classical in if(∀ H2∈r,H2[o]? = some (.buf sz st cap l))/\∀ H2∈H::r,LE H2 d=true then κ d else none
def th(P:Program)(ty:TypeId)(d:D)(H:DH)(r:List DH)(κ:D->ah):ah:=match d with
 |.bptr o n i c=>BX P ty H r o n i c κ
 |d=>bQ P ty d (cR H r) κ
def VE(P:Program)(ty:TypeId)(p:D)(H:DH)(r:List DH)(κ:D->ah):ah:=open Classical in if ∃ d,∀ H2∈H::r,LE H2 d=true/\∀ κ':D->ah,bQ P ty p H2 κ'=κ' d then bQ P ty p H κ else none
def pR(P:Program)(ty:TypeId)(x:LD)(L:LS)(H:DH)(r:List DH)(κ:D->ah):ah:=(fun _=>match x with
 |.g d=>th P ty d H r κ
 |x=>kf P ty x L (cR H r) κ) kU
def MS(op:Op)(a:TypeId->Operand->ah)(b:ah):ah:=(fun _=>match op with
 |.load ty x=>a ty x
 |_=>b) kU
def wx(E:cF)(o:Oper)(hist:List (LS×DH))(t:T LD)(κ:T LD->LD->ah):ah:=match hist with
 |[]=>none
 |(L,H)::r=>match r with
  |[]=>jH o.op E false t L H fun t x=>pH (fun t x _ _=>κ t x) t x
  |_::_=>MS o.op (fun ty x=>lD (gI t x) fun x=>pR E.E.P ty x (fl L r) H (r.map (·.2)) fun d=>κ t (.g d)) (jH o.op E false t (fl L r) (cR H (r.map (·.2))) fun t x=>pH (fun t x _ _=>κ t x) t x)
def ww(E:cF)(o:Oper)(hist:List (LS×DH))(t:T LD)(κ:T LD->LD->ah):ah:=match hist with
 |[]=>none
 |(_,H)::r=>match o.op with
  |.load ty x=>lD (gI t x) fun x=>match x with
   |.g p=>VE E.E.P ty p H (r.map (·.2)) fun d=>κ t (.g d)
   |_=>none
  |_=>none
def cuts(an:ii)(o:Oper):Bool:=match o.op with
 |.slice _ _ _ _ _=>(match pu an o.dst with|true=>true|false=>pu an (o.dst.map fun i=>i+100000))
 |_=>false
def qa(E:cF)(an:ii)(o:Oper)(hist:List (LS×DH))(n c:Nat)(bs:T Nat)(t:T LD)(L:LS)(H:DH)(κ:T LD->LD->LS->DH->Nat->ah):Nat->ah
 |0=>(match cuts an o with
  |true=>jH o.op E (pu an o.dst) t L H fun t x=>pH (fun t x L H=>κ t x L H n) t x
  |false=>jH o.op E false t [] [] fun t x=>pH (fun t x _ _=>κ t x L H ((match tD an o.dst with|true=>(n)|false=>(fA bs (sees o))))) t x)
 |1=>(match Nat.ble (fA bs (sees o)) (n - c)&&Nat.ble c n with|true=>((match pu an o.dst with|true=>ww|false=>wx) E o (hist.take c) t fun t x=>κ t x L H ((match tD an o.dst with|true=>(n)|false=>(n - c))))|false=>(none))
 |2=>jH o.op E (pu an o.dst) t L H fun t x=>pH (fun t x L H=>κ t x L H n) t x
 |_=>none
def CO(rec:oZ)(t:T LD)(κ:T LD->LD->LS->DH->ah)(kp:List fB->LS->DH->ah):zb->ah
 |.val x L H=>(fun _=>κ t x L H) kU
 |.skip L H=>κ t .u L H
 |.enter f args L H=>dw (rec f args none H) (fun x H=>κ t (.g x) L H) fun c H=>kp c L H
 |_=>none
def Js(t:T LD)(d:Option Tmp)(κ:T LD->ah):ah:=match d with
 |some d=>t.setQ none (eQ d) κ
 |none=>κ t
def gi(E:cF)(an:ii)(ops:Array Oper)(rec:oZ)(k:T LD->LS->DH->ah)(kp:List fB->T LD->LS->DH->ah):List (Option Nat×Nat)->List (LS×DH)->Nat->T Nat->T LD->LS->DH->ah
 |[],_,_,_,t,L,H=>k t L H
 |(c,i)::r,hist,n,bs,t,L,H=>match ops[i]? with
  |none=>none
  |some o=>match c with
   |some c=>vR ops t o
    (fun t=>qa E an o hist n c bs t L H (fun t x L H b=>rH an.hooks o.dst x H fun x H=>jT t o.dst x fun t=>MU bs o.dst b fun bs=>gi E an ops rec k kp r hist n bs t L H) (aF E.E.P o.op))
    (fun t=>jT t o.dst .u fun t=>MU bs o.dst 0 fun bs=>gi E an ops rec k kp r hist n bs t L H)
   |none=>vR ops t o
    (fun t=>jH o.op E false t L H fun t x=>CO rec t (fun t x L H=>rH an.hooks o.dst x H fun x H=>jT t o.dst x fun t=>MU bs o.dst n fun bs=>gi E an ops rec k kp r ((L,H)::hist) (n+1) bs t L H) (fun c L H=>(match r with|[]=>(match pu an (o.dst.map fun i=>i+200000)with|true=>Js t o.dst fun t=>kp c t L H|false=>none)|_::_=>none)) x)
    (fun t=>jT t o.dst .u fun t=>MU bs o.dst 0 fun bs=>gi E an ops rec k kp r ((L,H)::hist) (n+1) bs t L H)
abbrev sC:=T LD->LS->List Item->List qo->eU->Option eU->DH->ah
def wt(H:DH)(o:Nat):ah:=match H[o]? with
 |some (.loop _ f nt t ps a b)=>some ⟨.ret (.bool true),none,H.set o (.loop true f nt t ps a b)⟩
 |_=>none
def xj(go:sC)(t:T LD)(L:LS)(ds:List qo)(up:Option eU)(H:DH):Option Code->ah
 |none=>match up with
  |some (.round o)=>wt H o
  |up=>go t L [] ds .returning up H
 |some .ret=>(fun _=>notRnd up (go t L [] ds .returning up H)) kU
 |_=>none
def Lf(H:DH)(o:Nat)(κ:DH->ah):ah:=match H[o]? with
 |some (.loop true f nt t ps a b)=>κ (H.set o (.loop false f nt t ps a b))
 |_=>none
def HN(go:sC)(k:List Item)(t:T LD)(L:LS)(ds:List qo)(up:Option eU)(H:DH):ah:=(fun _=>match up with
 |some (.round o)=>Lf H o fun H=>go t L k ds .run up H
 |_=>none) kU
def AA(H:DH)(o:Nat)(κ:DH->ah):ah:=match H[o]? with
 |some (.loop true _ _ _ _ _ _)=>κ (H.set o .opq)
 |_=>none
def KH(d:D)(κ:FuncId->List D->List D->ah):ah:=match d with
 |.func g a b=>κ g a b
 |_=>none
def BY(f:FuncId)(nt:Nat)(go:sC)(rec:oZ)(k:List Item)(t:T LD)(L:LS)(ds:List qo)(up:Option eU)(H:DH)(ps:Array Tmp)(a b:Code)(d:D):ah:=(fun _=>match L with
 |[]=>KH d fun g first cap=>notRnd up (dw (rec g (first++(.yld (H.length+1)::cap)) none (H++[.coll,.loop true f nt t ps a b]))
  (fun _ H'=>AA H' (H.length+1) fun H'=>go t L k (.coll H.length::ds) .run up H') fun c H'=>go t L k (.coll H.length::ds) (.panicking c) up H')
 |_=>none) kU
def AK(go:sC)(t:T LD)(L:LS)(ds:List qo)(up:Option eU)(H:DH):Option (List Item)->ah
 |some k=>(fun _=>go t L k ds .run up H) kU
 |none=>none
def lc:Code->cF->ii->FuncId->Func->sC->oZ->List Item->T LD->LS->List qo->Option eU->DH->ah
 |.ret=>fun _ _ _ _ go _ _ t L ds up H=>xj go t L ds up H (some .ret)
 |.skip=>fun _ _ _ _ go _ k t L ds up H=>go t L k ds .run up H
 |.label _=>fun _ _ _ _ go _ k t L ds up H=>go t L k ds .run up H
 |.seq a b=>fun _ _ _ _ go _ k t L ds up H=>go t L (.code a::.code b::k) ds .run up H
 |.cond c a b=>fun _ _ _ _ go _ k t L ds up H=>gD (gI t c) fun d=>brD d (MC t c true fun t=>go t L (.code a::k) ds .run up H) (MC t c false fun t=>go t L (.code b::k) ds .run up H)
 |.block id c=>fun _ _ _ _ go _ k t L ds up H=>go t L (.code c::.inBlock id::k) ds .run up H
 |.loop c=>fun _ _ _ _ go _ k t L ds up H=>go t L (.code c::.inLoop c::k) ds .run up H
 |.scope c=>fun _ _ _ _ go _ k t L ds up H=>go t L (.code c::.inScope c::k) ds .run up H
 |.exit id=>fun _ _ _ _ go _ k t L ds up H=>AK go t L ds up H (exitTo id k)
 |.goto l=>fun _ _ _ _ go _ k t L ds up H=>AK go t L ds up H (gotoIn l k)
 |.region _ ops true=>fun E an f fn go rec k t L ds up H=>(match kX ops fn.ntmps with|false=>(none)|true=>((match MD E.E.P ops with
  |some sc=>gi E an ops rec (fun t L H=>go t L k ds .run up H) (fun c t L H=>go t L k ds (.panicking c) up H) sc [(L,H)] 1 .leaf t L H
  |none=>none)))
 |.region _ ops false=>fun E an f fn go rec k t L ds up H=>(match kX ops fn.ntmps with|true=>(oB E an ops rec ops.toList (fun t L ds up H=>go t L k ds .run up H) (fun c t L ds up H=>go t L k ds (.panicking c) up H) t L ds up H)|false=>(none))
 |.rangeFunc g ps a b=>fun _ _ f fn go rec k t L ds up H=>gD (gI t g) fun d=>BY f fn.ntmps go rec k t L ds up H ps a b d
 |_=>fun _ _ _ _ _ _ _ _ _ _ _ _=>none
def NJ:Item->cF->ii->FuncId->Func->sC->oZ->List Item->T LD->LS->List qo->Option eU->DH->ah
 |.code c=>(fun _=>lc c) kU
 |.inBlock _=>fun _ _ _ _ go _ k t L ds up H=>go t L k ds .run up H
 |.inScope _=>fun _ _ _ _ go _ k t L ds up H=>go t L k ds .run up H
 |.inLoop c=>fun _ _ _ _ go _ k t L ds up H=>go t L (.code c::.inLoop c::k) ds .run up H
 |.beginRound=>fun _ _ _ _ go _ k t L ds up H=>HN go k t L ds up H
 |_=>fun _ _ _ _ _ _ _ _ _ _ _ _=>none
def Ip:List Item->cF->ii->FuncId->Func->sC->oZ->T LD->LS->List qo->Option eU->DH->ah
 |[]=>(fun _=>fun _ _ _ _ go _ t L ds up H=>xj go t L ds up H none) kU
 |i::k=>fun E an f fn go rec t L ds up H=>NJ i E an f fn go rec k t L ds up H
def GF(c:List fB)(a:ah)(b:List fB->ah):ah:=match c with
 |⟨_,true⟩::_=>a
 |c=>b c
def HA(r:ah)(a:DH->ah)(b:List fB->DH->ah):ah:=match r with
 |some ⟨.ret _,some u,H⟩=>match u with
  |.returning=>a H
  |.panicking c=>GF c (a H) fun c=>b c H
  |_=>none
 |some ⟨.pan c,some u,H⟩=>match u with
  |.returning=>b c H
  |.panicking old=>b (c++old) H
  |_=>none
 |_=>none
def qk(go:sC)(t:T LD)(L:LS)(ds:List qo)(up:Option eU)(r:ah):ah:=(fun _=>HA r (fun H=>go t L [] ds .returning up H) fun c H=>go t L [] ds (.panicking c) up H) kU
def rX(H:DH)(o:Nat)(κ:DH->ah):ah:=match H[o]? with
 |some .coll=>κ (H.set o .opq)
 |_=>none
def nf(P:Program)(t:T LD)(L:LS)(H:DH):List ResultVar->(List D->ah)->ah
 |[],κ=>κ []
 |x::r,κ=>match x with
  |.tmp i=>gD (t.get (eQ i)) fun d=>nf P t L H r fun l=>κ (d::l)
  |.cell a ty=>lD (t.get (eQ a)) fun x=>kf P ty x L H fun d=>nf P t L H r fun l=>κ (d::l)
def PH:List (Nat×Nat×Hk)->List D->DH->(List D->DH->ah)->ah
 |[],l,H,κ=>κ l H
 |(i,c,h)::r,l,H,κ=>aA l i fun d=>jt h c d H fun d H=>PH r (l.set i d) H κ
def Nf:List D->D
 |[d]=>d
 |ds=>.tuple ds
def Nc(up:Option eU):Option eU:=match up with
 |some (.round _)=>none
 |up=>up
def jp(E:cF)(an:ii)(fn:Func)(t:T LD)(L:LS)(up:Option eU)(H:DH):eU->ah
 |.returning=>notRnd up (nf E.E.P t L H fn.results.toList fun l=>PH an.rfz l H fun l H=>some ⟨.ret (Nf l),up,H⟩)
 |.panicking c=>some ⟨.pan c,Nc up,H⟩
 |_=>none
def iL:List qo->cF->ii->Func->sC->oZ->T LD->LS->eU->Option eU->DH->ah
 |.call ⟨f,cap,args⟩::ds=>fun _ _ _ go rec t L m up H=>qk go t L ds up (rec f (args++cap) (some m) H)
 |.coll o::ds=>fun _ _ _ go _ t L m up H=>rX H o fun H=>go t L [] ds m up H
 |[]=>fun E an fn _ _ t L m up H=>jp E an fn t L up H m
def tE(E:cF)(an:ii)(f:FuncId)(fn:Func)(go:sC)(rec:oZ)(t:T LD)(L:LS)(todo:List Item)(ds:List qo)(m:eU)(up:Option eU)(H:DH):ah:=match m with
 |.run=>Ip todo E an f fn go rec t L ds up H
 |.returning=>iL ds E an fn go rec t L .returning up H
 |.panicking c=>iL ds E an fn go rec t L (.panicking c) up H
 |.round _=>none
inductive Dw where
 |frame (f:FuncId) (fn:Func) (t:T LD) (L:LS) (todo:List Item) (ds:List qo) (m:eU) (up:Option eU)
 |call (f:FuncId) (args:List D) (up:Option eU)
abbrev be:=Dw->DH->ah
def lV:Code->Nat
 |.region id _ _=>id
 |.seq a b=>match hasReg a with
  |true=>lV a
  |false=>lV b
 |.cond _ a b=>match hasReg a with
  |true=>lV a
  |false=>lV b
 |.block _ c=>lV c
 |.loop c=>lV c
 |.scope c=>lV c
 |_=>0
 where hasReg:Code->Bool
  |.region _ _ _=>true
  |.seq a b=>hasReg a||hasReg b
  |.cond _ a b=>hasReg a||hasReg b
  |.block _ c=>hasReg c
  |.loop c=>hasReg c
  |.scope c=>hasReg c
  |_=>false
def RT:List Item->Option Nat
 |.code c::.inLoop _::_=>some (lV c+200000)
 |.code (.region id _ _)::_=>some id
 |.code (.cond _ a b)::_=>some (lV (.seq a b)+100000)
 |_=>none
def Sc(an:ii)(todo:List Item):Option (List Nat×List Nat):=match an.cuts with
 |[]=>none
 |l=>match RT todo with
  |some k=>Je l k
  |none=>none
def wh(t:T LD):List Nat->(List LD->ah)->ah
 |[],κ=>κ []
 |i::r,κ=>lD (t.get (eQ i)) fun x=>wh t r fun l=>κ (x::l)
def RP:List Nat->List LD->T LD->T LD
 |i::r,x::l,t=>RP r l (T.setQ (some x) (eQ i) t id)
 |_,_,t=>t
def rB(ks:List Nat):Nat->LS->LS
 |_,[]=>[]
 |i,(_,cs)::r=>(0,bif Tk i ks then cs else [])::rB ks (i+1) r
def nJ:List Nat->Nat
 |[]=>0
 |k::r=>bif Nat.blt k (nJ r)then nJ r else k+1
def Az(n:Nat):List LD->Bool
 |[]=>true
 |x::r=>(match x with
  |.lp k _=>Nat.blt k n
  |_=>true)&&Az n r
def Fk(an:ii)(ih:sC)(go:sC):sC:=fun t L todo ds m up H=>match m with
 |.run=>match Sc an todo with
  |some (live,ks)=>wh t live fun xs=>(match Az (nJ ks) xs with|true=>(ih (RP live xs .leaf) (rB ks 0 (L.take (nJ ks))) todo ds m up H)|false=>(none))
  |none=>go t L todo ds m up H
 |m=>go t L todo ds m up H
mutual
def D.bel(n:Nat):D->Prop
 |.ptr o _=>o<n
 |.bptr o _ _ _=>o<n
 |.tptr o _ _ _=>o<n
 |.buf _ o _=>o<n
 |.tb _ o _ _=>o<n
 |.map o=>o<n
 |.yld o=>o<n
 |.eptr cs _=>uL n cs
 |.row _ l=>Fz n l
 |.func _ a b=>uL n a/\uL n b
 |.iface _ d=>d.bel n
 |.agg cs=>uL n cs
 |.tuple ds=>uL n ds
 |_=>True
def uL(n:Nat):List D->Prop
 |[]=>True
 |d::r=>d.bel n/\uL n r
def Fz(n:Nat):List (List D)->Prop
 |[]=>True
 |l::r=>uL n l/\Fz n r
end
def DB.bel(n:Nat):DB->Prop
 |.dead=>True
 |.cells _ cs=>uL n cs
 |.buf _ _ _ l=>Fz n l
 |.tbuf _ _ l=>Fz n l
 |.map es=>∀ x∈es,x.1.bel n/\x.2.bel n
 |.loop _ _ _ t _ _ _=>∀ i d,t.get (eQ i)=some (.g d)->d.bel n
 |.coll=>True
 |.opq=>True
def Pb.bel(n:Nat):Pb->Prop
 |.ret d=>d.bel n
 |.pan c=>∀ x∈c,x.v.bel n
def OS(H:DH)(o:iC):Prop:=o.e.bel H.length/\o.up=none/\H.length<=o.H.length/\∀ i b,i<H.length->o.H[i]? = some b->H[i]? = some b\/b.bel H.length
def qD(H:DH)(r:ah):ah:=match r with
 |some o=>open Classical in if OS H o then some ⟨o.e,o.up,o.H.take H.length⟩else none
 |none=>none
def gx{β:Type}:List D->Nat->T LD->(T LD->β)->β
 |[],_,t,k=>(fun _=>k t) kU
 |x::r,i,t,k=>t.setQ (some (.g x)) (eQ i) fun t=>gx r (i+1) t k
def yl(E:cF)(go:FuncId->Func->sC)(f:FuncId)(args:List D)(up:Option eU)(H:DH):ah:=(fun _=>match E.E.P.funcs[f]? with
 |some fn=>match fn.body with
  |some c=>(match fn.name == "runtime.NumGoroutine" || E.vo f with|true=>(none)|false=>((match(E.ann f).trim with|true=>(qD H (gx args 0 .leaf fun t=>go f fn t [] [.code c] [] .run up H))|false=>(gx args 0 .leaf fun t=>go f fn t [] [.code c] [] .run up H))))
  |none=>none
 |none=>none) kU
def lL{β:Type}:T LD->List Tmp->List D->(T LD->β)->β
 |t,p::ps,x::xs,k=>(fun _=>t.setQ (some (.g x)) (eQ p) fun t=>lL t ps xs k) kU
 |t,_,_,k=>k t
def sP(E:cF)(go:FuncId->Func->sC)(o:Nat)(args:List D)(H:DH):ah:=(fun _=>match H[o]? with
 |some (.loop _ f nt t ps a b)=>match E.E.P.funcs[f]? with
  |some fn=>(match Nat.ble fn.ntmps nt&&Nat.beq ps.size args.length&&ps.toList.all (fun p=>Nat.blt p nt)with|true=>(lL t ps.toList args fun t=>go f fn t [] [.code a,.beginRound,.code b] [] .run (some (.round o)) H)|false=>(none))
  |none=>none
 |_=>none) kU
def Nd(E:cF)(f:FuncId)(args:List D)(H:DH)(up:Option eU)(k:ah):ah:=(fun _=>match(match up with|none=>E.orc f args H|some _=>none)with
 |some (d,H)=>some ⟨.ret d,up,H⟩
 |none=>k) kU
def JE(E:cF)(go:FuncId->Func->sC)(f:FuncId)(args:List D)(up:Option eU)(H:DH):ah:=(fun _=>match up with
 |some (.round o)=>sP E go o args H
 |up=>Nd E f args H up (yl E go f args up H)) kU
def LC(ih:be)(f:FuncId)(fn:Func):sC:=(fun _=>fun t L todo ds m up H=>ih (.frame f fn t L todo ds m up) H) kU
def wv(ih:be):oZ:=(fun _=>fun f args up H=>ih (.call f args up) H) kU
def qF(E:cF)(ih:be)(go:FuncId->Func->sC):be
 |.frame f fn t L todo ds m up,H=>tE E (E.ann f) f fn (Fk (E.ann f) (LC ih f fn) (go f fn)) (wv ih) t L todo ds m up H
 |.call f args up,H=>JE E go f args up H
def dK(E:cF):Nat->be
 |0=>fun _ _=>none
 |n+1=>qF E (dK E n) (LC (dK E n))
def LT(E:cF)(R:be):Nat->be
 |0=>R
 |n+1=>qF E R (LC (LT E R n))
end
def Al{α:Type}(c:(α->ah)->ah):Prop:=∀ κ out,c κ=some out->∃ a,∀ κ',c κ'=κ' a
variable{α β:Type}
theorem Al.ret(a:α):Al (fun κ=>κ a):=fun _ _ _=>⟨a,fun _=>rfl⟩
theorem Al.none:Al (fun(_:α->ah)=>none):=fun _ _ h=>by cases h
theorem Al.bind{c:(α->ah)->ah}{d:α->(β->ah)->ah}(h:Al c)(k:∀ a,Al (d a)):Al (fun κ=>c fun a=>d a κ):=fun κ out e=>by
 obtain⟨a,ha⟩:=h _ out e
 obtain⟨x,hx⟩:=k a κ out ((ha _).symm.trans e)
 exact⟨x,fun _=>(ha _).trans (hx _)⟩
theorem Al.map{c:(α->ah)->ah}(h:Al c)(f:α->β):Al (fun κ=>c fun a=>κ (f a)):=h.bind fun a=>.ret (f a)
theorem Al.boK(b:Bool){c:(α->ah)->ah}(h:Al c):Al (fun κ=>boK b (c κ)):=by
 cases b
 ·exact .none
 ·exact h
theorem Al.cond(b:Bool){c d:(α->ah)->ah}(h:Al c)(k:Al d):Al (fun κ=>cond b (c κ) (d κ)):=by
 cases b
 ·exact k
 ·exact h
theorem cN(x:Option LD):Al (gD x):=by
 cases x with
 |none=>exact .none
 |some x=>cases x<;>first|exact .ret _|exact .none
theorem mG(x:Option LD):Al (lD x):=by
 cases x with
 |none=>exact .none
 |some x=>exact .ret x
theorem so(t:T LD):∀ l,Al (EV t l)
 |[]=>.ret []
 |x::r=>(cN _).bind fun d=>(so t r).map (d::·)
theorem Dp(cs:List D)(c:Nat):Al (aA cs c):=by
 unfold aA
 cases cs[c]? with
 |none=>exact .none
 |some d=>exact .ret d
theorem FD:∀ n cs c,Al (zY n cs c)
 |0,_,_=>.ret []
 |n+1,cs,c=>(Dp cs c).bind fun d=>(FD n cs (c+1)).map (d::·)
theorem oV(n:Nat)(d:D):Al (ai n d):=by
 cases d<;>first|exact .none|exact Al.cond _ (.ret _) .none
theorem JN{c:(β->ah)->Nat->List D->ah}(H:DH)(o:Nat)(h:∀ st cs,Al (fun κ=>c κ st cs)):Al (fun κ=>au H o (c κ)):=by
 unfold au
 split
 ·exact h _ _
 ·exact .none
theorem vJ{c:(β->ah)->Nat->Bool->Bool->List (List D)->ah}(H:DH)(o n:Nat)(h:∀ sz st cap l,Al (fun κ=>c κ sz st cap l)):Al (fun κ=>gG H o n (c κ)):=by
 unfold gG
 split
 ·exact Al.cond _ (h _ _ _ _) .none
 ·exact .none
theorem UK{c:(β->ah)->Nat->List (List D)->ah}(H:DH)(o s:Nat)(h:∀ sz l,Al (fun κ=>c κ sz l)):Al (fun κ=>Ir H o s (c κ)):=by
 unfold Ir
 split
 ·exact Al.cond _ (h _ _) .none
 ·exact .none
theorem Dl(H:DH)(o:Nat):Al (nF H o):=by
 unfold nF
 split
 ·exact .ret _
 ·exact .none
theorem iZ(n:Int):Al (cY n):=by
 cases n
 ·exact .ret _
 ·exact .none
theorem sk(l:List (List D))(i:Nat):Al (dM l i):=by
 unfold dM
 split
 ·exact .ret _
 ·exact .none
theorem vI(cs:List D)(c:Nat)(new:List D):Al (az cs c new):=by
 unfold az
 split
 ·exact .ret _
 ·exact .none
theorem eC(P:Program)(ty:TypeId)(cs:List D)(c:Nat):Al (ci P ty cs c):=by
 unfold ci
 split
 ·split
  ·exact Al.cond _ ((FD _ _ _).map _) .none
  ·exact .none
 ·exact Dp _ _
 ·exact .none
theorem HS(P:Program)(ty:TypeId)(d:D)(H:DH):Al (bQ P ty d H):=by
 cases d<;>first
  |exact .none
  |exact eC _ _ _ _
  |exact JN _ _ fun _ _=>eC _ _ _ _
  |exact vJ _ _ _ fun _ _ _ _=>(sk _ _).bind fun _=>eC _ _ _ _
  |exact UK _ _ _ fun _ _=>(sk _ _).bind fun _=>eC _ _ _ _
theorem FJ(P:Program)(ty:TypeId)(x:LD)(L:LS)(H:DH):Al (kf P ty x L H):=by
 cases x with
 |g d=>exact HS _ _ _ _
 |lp k c =>
  show Al (fun κ=>kf P ty (.lp k c) L H κ)
  simp only[kf]
  split
  ·grind [eC]
  ·exact .none
 |u=>exact .none
theorem UM(d:D)(new:List D)(H:DH):Al (sK d new H):=by
 cases d<;>first
  |exact .none
  |exact JN _ _ fun _ _=>(vI _ _ _).map _
  |exact vJ _ _ _ fun _ st _ _=>Al.boK st ((sk _ _).bind fun _=>(vI _ _ _).map _)
def fP(c:(α->β->ah)->ah):Prop:=∀ κ out,c κ=some out->∃ a b,∀ κ',c κ'=κ' a b
theorem fP.bind{γ:Type}{c:(α->β->ah)->ah}{d:α->β->(γ->ah)->ah}(h:fP c)(k:∀ a b,Al (d a b)):Al (fun κ=>c fun a b=>d a b κ):=fun κ out e=>by
 obtain⟨a,b,ha⟩:=h _ out e
 obtain⟨x,hx⟩:=k a b κ out ((ha _).symm.trans e)
 exact⟨x,fun _=>(ha _).trans (hx _)⟩
theorem fP.ret(a:α)(b:β):fP (fun κ=>κ a b):=fun _ _ _=>⟨a,b,fun _=>rfl⟩
theorem fP.none:fP (fun(_:α->β->ah)=>none):=fun _ _ h=>by cases h
theorem Rj(esc:Bool)(d:D)(H:DH):fP (Kj esc d H):=by
 unfold Kj
 split
 ·exact .ret _ _
 ·split
  ·exact .ret _ _
  ·exact .none
theorem Ri(P:Program)(ty:TypeId)(H:DH)(r:List DH)(o n i c:Nat):Al (BX P ty H r o n i c):=by
 unfold BX
 refine vJ _ _ _ fun sz st cap l=>(sk _ _).bind fun cs=>(eC _ _ _ _).bind fun d=>?_
 split
 ·exact .ret _
 ·exact .none
theorem Rp(P:Program)(ty:TypeId)(d:D)(H:DH)(r:List DH):Al (th P ty d H r):=by
 unfold th
 split
 ·grind [Ri]
 grind [HS]
theorem UN(P:Program)(ty:TypeId)(p:D)(H:DH)(r:List DH):Al (VE P ty p H r):=by
 unfold VE
 split
 ·exact HS _ _ _ _
 ·exact .none
theorem Li(P:Program)(ty:TypeId)(x:LD)(L:LS)(H:DH)(r:List DH):Al (pR P ty x L H r):=by
 unfold pR
 split
 ·grind [Rp]
 grind [FJ]
theorem Al.bind2{γ:Type}{c:(γ->ah)->ah}{d:γ->(α->β->ah)->ah}(h:Al c)(k:∀ a,fP (d a)):fP (fun κ=>c fun a=>d a κ):=fun κ out e=>by
 obtain⟨a,ha⟩:=h _ out e
 obtain⟨x,y,hx⟩:=k a κ out ((ha _).symm.trans e)
 exact⟨x,y,fun _=>(ha _).trans (hx _)⟩
theorem fP.boK(b:Bool){c:(α->β->ah)->ah}(h:fP c):fP (fun κ=>Go.AI.boK b (c κ)):=by
 cases b
 ·exact .none
 ·exact h
theorem fP.cond(b:Bool){c d:(α->β->ah)->ah}(h:fP c)(k:fP d):fP (fun κ=>cond b (c κ) (d κ)):=by
 cases b
 ·exact k
 ·exact h
theorem om{γ:Type}{c:(γ->β->ah)->Nat->Bool->Bool->List (List D)->ah}(H:DH)(o n:Nat)(h:∀ sz st cap l,fP (fun κ=>c κ sz st cap l)):fP (fun κ=>gG H o n (c κ)):=by
 unfold gG
 split
 ·exact fP.cond _ (h _ _ _ _) .none
 ·exact .none
theorem JR{γ:Type}{c:(γ->β->ah)->Nat->List (List D)->ah}(H:DH)(o s:Nat)(h:∀ sz l,fP (fun κ=>c κ sz l)):fP (fun κ=>Ir H o s (c κ)):=by
 unfold Ir
 split
 ·exact fP.cond _ (h _ _) .none
 ·exact .none
theorem Lg(P:Program)(ty:TypeId)(x:LD)(v:D)(L:LS)(H:DH):fP (wd P ty x v L H):=by
 unfold wd
 split
 ·dsimp only
  split
  ·exact .none
  refine(oV _ _).bind2 fun new=>?_
  cases x with
  |g d=>exact(UM _ _ _).bind2 fun H=>.ret L H
  |lp k c =>
   simp only
   split
   ·exact(vI _ _ _).bind2 fun _=>.ret _ _
   ·exact .none
  |u=>exact .none
 ·exact .none
theorem yQ(place:Nat->Option (Nat×Nat))(t:T LD):∀ l cs,Al (Bb place t l cs)
 |[],cs=>.ret cs
 |(i,x)::r,cs=>by
  refine(cN _).bind fun d=>?_
  split
  ·exact .none
  ·exact Al.cond _ ((oV _ _).bind fun _=>(vI _ _ _).bind fun _=>yQ place t r _) .none
theorem Bv(P:Program)(t:T LD)(ty:TypeId)(parts:List (Nat×Operand))(z:Option D):Al (ql P t ty parts z):=by
 unfold ql
 split
 ·split
  ·exact Al.cond _ ((yQ _ _ _ _).map _) .none
  ·split
   ·exact(yQ _ _ _ _).map _
   ·exact .none
  ·exact .none
 ·exact .none
theorem Ls(P:Program)(t:T LD)(ty:TypeId)(parts:List (Nat×Operand)):Al (HL P t ty parts):=Bv _ _ _ _ _
theorem uA(t:T LD)(n len:Nat):∀ l cs,Al (mY t n len l cs)
 |[],cs=>.ret cs
 |(i,x)::r,cs=>(cN _).bind fun d=>Al.cond _ ((oV _ _).bind fun _=>uA t n len r _) .none
theorem yR(P:Program)(t:T LD)(ty:TypeId)(len:Nat)(parts:List (Nat×Operand)):Al (fo P t ty len parts):=by
 unfold fo
 split
 ·split
  ·split
   ·exact Al.cond _ ((uA _ _ _ _ _).map _) .none
   ·exact .none
  ·exact .none
 ·exact .none
theorem Rw(x:LD):Al (QX x):=by
 cases x with
 |g d=>cases d<;>first|exact .none|exact .ret _
 |lp k c=>exact .ret _
 |u=>exact .none
theorem Rr(op:BinOp)(k:IntKind)(a b:Int):Al (TF op k a b):=by
 cases op<;>first|exact .none|exact .ret _|exact Al.boK _ (.ret _)
theorem Rh(op:BinOp)(a b:List Nat):Al (Sy op a b):=by
 cases op<;>first|exact .none|exact .ret _|exact Al.boK _ (.ret _)
theorem JQ(P:Program){eq:TypeId->D->D->(Bool->ah)->ah}(h:∀ t x y,Al (eq t x y)):∀ fs xs ys q,Al (Og P eq fs xs ys q)
 |[],_,_,q=>.ret q
 |f::r,xs,ys,q=>Al.cond _ .none ((eC _ _ _ _).bind fun a=>(eC _ _ _ _).bind fun b=>(h _ a b).bind fun p=>JQ P h r xs ys _)
theorem Do(P:Program):∀ d t x y,Al (KP P d t x y)
 |0,_,_,_=>.none
 |d+1,t,x,y=>by
  show Al (fun κ=>KP P (d+1) t x y κ)
  simp only[KP]
  split
  ·split
   ·exact Al.cond _ .none (JQ P (Do P d) _ _ _ _)
   ·exact .none
  all_goals first
   |exact .none
   |(split<;>first|exact .ret _|exact .none|exact Al.cond _ (.ret _) .none)
theorem Rk(op:BinOp)(x:D):Al (Ku op x):=by
 unfold Ku
 refine Al.cond _ ?_ .none
 split
 ·exact .ret _
 ·rename_i l;cases l<;>exact .ret _
 ·rename_i n;cases n<;>exact .ret _
 ·exact .none
theorem vK(P:Program)(op:BinOp)(t:TypeId)(c:Bool)(x y:D):Al (av P op t c x y):=by
 unfold av
 split
 ·exact Al.cond _ .none (Al.cond _ (Rr _ _ _ _) .none)
 ·exact Rh _ _ _
 ·refine Al.cond _ ?_ .none
  split
  ·exact(Do _ _ _ _ _).map _
  ·exact(Do _ _ _ _ _).map _
  ·exact .none
theorem JM(P:Program)(t:TypeId)(c:Bool)(op:BinOp)(x y:D)(H:DH)(q:Bool->Bool):Al (GC P t c op x y H q):=by
 unfold GC
 split
 ·split
  ·split
   ·exact Al.cond _ (.ret _) .none
   ·exact vK _ _ _ _ _ _
  ·exact vK _ _ _ _ _ _
 ·exact vK _ _ _ _ _ _
theorem Rx(P:Program)(op:BinOp)(t:TypeId)(c:Bool)(x y:D)(H:DH):Al (yK P op t c x y H):=by
 unfold yK
 split
 ·exact JM _ _ _ _ _ _ _ _
 ·exact JM _ _ _ _ _ _ _ _
 ·exact vK _ _ _ _ _ _
theorem UI(op:UnOp)(x:D):Al (sF op x):=by
 unfold sF
 split
 ·split<;>first|exact .ret _|exact .none
 ·split<;>first|exact .ret _|exact .none
 ·exact .none
theorem OK(P:Program)(src dst:TypeId)(x:D):Al (pD P src dst x):=by
 unfold pD
 refine Al.cond _ .none ?_
 split
 ·split<;>first|exact .ret _|exact .none
 ·split<;>first|exact .ret _|exact .none
 ·exact .none
theorem Rl(P:Program)(el:TypeId)(n:Nat):fP (Ns P el n):=by
 unfold Ns
 split
 ·split
  ·exact fP.cond _ (fP.boK _ (.ret _ _)) .none
  ·exact .none
 ·exact .none
theorem ja(o:Option D)(d:Nat):Al (tR o d):=by
 unfold tR
 split
 ·exact iZ _
 ·exact .none
 ·exact .ret _
theorem Dm(t:T LD)(x:Option Operand):Al (KO t x):=by
 cases x with
 |none=>exact .ret _
 |some x=>exact(cN _).map _
theorem FE(sz:Nat)(l:List (List D))(lo hi:Option D):Al (DN sz l lo hi) :=
 (ja _ _).bind fun _=>(ja _ _).bind fun _=>Al.boK _ (.ret _)
theorem Lh(P:Program)(t:TypeId)(x:D)(lo hi mx:Option D)(H:DH):fP (cI P t x lo hi mx H):=by
 unfold cI
 split
 ·split
  ·split
   ·exact(ja _ _).bind2 fun _=>(ja _ _).bind2 fun _=>fP.boK _ (.ret _ _)
   ·exact .none
  ·exact .none
 ·split
  ·split
   ·split
    ·exact fP.cond _ ((FE _ _ _ _).bind2 fun _=>.ret _ _) .none
    ·exact om _ _ _ fun _ _ _ _=>fP.boK _ ((FE _ _ _ _).bind2 fun _=>.ret _ _)
    ·exact(ja _ _).bind2 fun _=>(ja _ _).bind2 fun _=>fP.boK _ (.ret _ _)
    ·exact .none
   ·refine(ja _ _).bind2 fun _=>(ja _ _).bind2 fun _=>(ja _ _).bind2 fun _=>fP.cond _ ?_ .none
    split
    ·exact fP.cond _ (.ret _ _) .none
    ·exact om _ _ _ fun _ _ _ _=>fP.boK _ (.ret _ _)
    ·exact .ret _ _
    ·exact .none
  ·exact .none
 ·exact .none
theorem UJ(P:Program)(t:TypeId)(x:D)(lo hi mx:Option D)(H:DH):fP (Me P t x lo hi mx H):=by
 unfold Me
 split
 ·split
  ·split
   ·split
    ·split
     ·refine(iZ _).bind2 fun _=>?_
      split
      ·exact fP.cond _ (om _ _ _ fun _ _ _ _=>fP.boK _ (.ret _ _)) .none
      ·exact fP.cond _ (JR _ _ _ fun _ _=>fP.boK _ (.ret _ _)) .none
      ·exact .none
     ·exact .none
    ·exact .none
   ·exact .none
  ·exact .none
 ·exact .none
theorem JP(x:LD)(off:Nat):Al (NZ x off):=by
 cases x with
 |g d=>cases d<;>first|exact .none|exact .ret _
 |lp k c=>exact .ret _
 |u=>exact .none
theorem Lp(P:Program)(ty:TypeId)(x:LD)(f:Nat):Al (xL P ty x f):=by
 unfold xL
 split
 ·split
  ·exact Al.cond _ .none (JP _ _)
  ·exact .none
 ·exact .none
theorem Rz(P:Program)(el:TypeId)(len:Nat)(x:LD)(i:D):Al (OM P el len x i):=by
 unfold OM
 split
 ·split
  ·exact(iZ _).bind fun _=>Al.boK _ (JP _ _)
  ·exact .none
 ·exact .none
theorem Ln(P:Program)(ty:TypeId)(x:D)(f:Nat):Al (xK P ty x f):=by
 unfold xK
 split
 ·split
  ·split
   ·exact eC _ _ _ _
   ·exact .none
  ·exact .none
 ·exact .none
theorem Rq(x:D)(sz:Nat)(i:Int):Al (mI x sz i):=by
 unfold mI
 split
 ·exact Al.cond _ ((iZ _).bind fun _=>(sk _ _).map _) .none
 ·exact Al.cond _ ((iZ _).bind fun _=>Al.boK _ (.ret _)) .none
 ·exact Al.cond _ ((iZ _).bind fun _=>Al.boK _ (.ret _)) .none
 ·exact .none
theorem Ll(P:Program)(ty:TypeId)(x i:D):Al (aq P ty x i):=by
 unfold aq
 split
 ·split
  ·split
   ·exact Rq _ _ _
   ·exact .none
  ·exact .none
 ·exact .none
theorem OL(l:List Nat)(i:Nat):Al (eI l i):=by
 unfold eI
 split
 ·exact .ret _
 ·exact .none
theorem Lj(P:Program)(ty:TypeId)(x i:D):Al (js P ty x i):=by
 unfold js
 split
 ·split
  ·split
   ·exact(iZ _).bind fun _=>OL _ _
   ·exact .none
  ·exact .none
 ·split
  ·split
   ·split
    ·exact(iZ _).bind fun _=>Al.cond _ (eC _ _ _ _) .none
    ·exact .none
   ·exact .none
  ·exact .none
 ·exact .none
theorem FH(k:D)(es:List (D×D)):Al (mC k es):=by
 unfold mC
 split
 ·exact .ret _
 ·exact .none
theorem FG(k v:D)(es:List (D×D)):Al (mB k v es):=by
 unfold mB
 split
 ·exact .ret _
 ·exact .none
theorem tU(P:Program)(el:TypeId)(ok:Bool)(o:Option D):Al (fS P el ok o):=by
 unfold fS
 split
 ·exact .ret _
 ·split
  ·exact .ret _
  ·exact .none
theorem OJ(P:Program)(ty:TypeId)(m k:D)(ok:Bool)(H:DH):Al (jm P ty m k ok H):=by
 unfold jm
 split
 ·split
  ·refine Al.cond _ ((Dl _ _).bind fun _=>?_) .none
   split
   ·exact Al.cond _ ((FH _ _).bind fun _=>tU _ _ _ _) .none
   ·exact(FH _ _).bind fun _=>tU _ _ _ _
  ·grind [tU]
  ·exact .none
 ·exact .none
theorem FF(P:Program)(ty:TypeId)(m k v:D)(H:DH):Al (jY P ty m k v H):=by
 unfold jY
 split
 ·split
  ·refine Al.cond _ ((Dl _ _).bind fun _=>?_) .none
   split
   ·exact Al.cond _ ((FG _ _ _).map _) .none
   ·exact(FG _ _ _).map _
  ·exact .none
 ·exact .none
theorem HT(P:Program)(x:D)(ty:TypeId)(ok:Bool):Al (mq P x ty ok):=by
 unfold mq
 split
 ·exact .none
 ·split
  ·refine Al.cond _ (.ret _) (Al.cond _ ?_ .none)
   split<;>first|exact .ret _|exact .none
  ·refine Al.cond _ ?_ .none
   split<;>first|exact .ret _|exact .none
  ·exact .none
 ·exact .none
theorem Ru(x:D)(i:Nat):Al (gY x i):=by
 unfold gY
 split
 ·exact Dp _ _
 ·exact .none
theorem Rv(y:D)(H:DH)(sz:Nat):Al (EY y H sz):=by
 unfold EY
 split
 ·exact Al.cond _ (.ret _) .none
 ·exact .ret _
 ·exact .ret _
 ·exact Al.cond _ (vJ _ _ _ fun _ _ _ _=>.ret _) .none
 ·exact .none
theorem Rs(o sz:Nat)(st cap:Bool)(l els:List (List D))(H:DH):fP (grow o sz st cap l els H):=by
 unfold grow
 exact fP.cond _ (.ret _ _) (.ret _ _)
theorem Ry(ok:Nat->Bool)(sz:Nat)(x:D)(els:List (List D))(H:DH):fP (cE ok sz x els H):=by
 unfold cE
 refine fP.boK _ ?_
 split
 ·split
  ·exact .ret _ _
  ·exact .ret _ _
 ·split
  ·exact .ret _ _
  ·exact .ret _ _
 ·exact fP.cond _ (om _ _ _ fun _ _ _ _=>fP.boK _ (Rs _ _ _ _ _ _ _)) .none
 ·exact fP.cond _ (JR _ _ _ fun _ _=>fP.boK _ (.ret _ _)) .none
 ·exact .none
theorem HU(P:Program)(sT xT:TypeId)(x y:D)(H:DH):fP (sf P sT xT x y H):=by
 unfold sf
 split
 ·dsimp only
  split
  ·exact .none
  split
  ·split
   ·exact(Rv _ _ _).bind2 fun _=>Ry _ _ _ _ _
   ·exact .none
  ·exact .none
 ·exact .none
theorem Rn(P:Program)(t:TypeId)(x:D)(H:DH):Al (bJ P t x H):=by
 unfold bJ
 split
 ·split<;>first|exact .ret _|exact .none
 ·split<;>first|exact .ret _|exact .none
 ·split
  ·exact(Dl _ _).map _
  ·exact .ret _
  ·exact .none
 ·exact .none
theorem Rm(g:Bool)(x y:D):Al (Nu g x y):=by
 unfold Nu
 split
 ·split
  ·exact Al.cond _ (.ret _) .none
  ·exact .none
 ·exact .none
theorem yP(g:Bool):∀ l x,Al (fX g x l)
 |[],x=>.ret x
 |y::r,x=>(Rm g x y).bind fun z=>yP g r z
theorem JO(esc:Bool)(cs:List D)(L:LS)(H:DH):Al (Kv esc cs L H):=by
 unfold Kv
 exact Al.cond _ (.ret _) (.ret _)
theorem Lq(E:dA)(L:LS)(H:DH)(args:List D)(f:D):Al (Db E L H args f):=by
 unfold Db
 split
 ·exact Al.cond _ (.ret _) .none
 ·exact .none
theorem OI(L:LS)(H:DH)(args:List D)(f:D):Al (Ic L H args f):=by
 unfold Ic
 split
 ·exact .ret _
 ·exact .none
theorem Lr(P:Program)(b:Builtin)(ts:Array TypeId)(args:List D)(L:LS)(H:DH):Al (mm P b ts args L H):=by
 unfold mm
 split
 ·split
  ·split
   ·split
    ·exact(HU _ _ _ _ _ _).bind fun _ _=>.ret _
    ·exact .none
   ·exact .none
  ·exact .none
 ·split
  ·split
   ·exact(Rn _ _ _ _).map _
   ·exact .none
  ·exact .none
 ·split
  ·exact(yP _ _ _).map _
  ·exact .none
 ·split
  ·exact(yP _ _ _).map _
  ·exact .none
 ·exact .ret _
 ·split
  ·exact .ret _
  ·exact .none
 ·exact .none
def Iv(t:T LD)(o:Operand)(b:Bool):T LD:=match o with
 |.tmp i=>T.set (some (.g (.bool b))) (eQ i) t
 |_=>t
theorem qI(t:T LD)(o:Operand)(b:Bool)(κ:T LD->ah):MC t o b κ=κ (Iv t o b):=by
 cases o<;>first|rfl|exact T.setQ_eq _ _ _ _
theorem tT(o:Op)(E:cF)(esc:Bool)(t:T LD)(L:LS)(H:DH):fP (jH o E esc t L H):=by
 have r:∀(x:zb),fP (fun(κ:T LD->zb->ah)=>κ t x):=fun x=>.ret t x
 show fP (fun κ=>jH o E esc t L H κ)
 cases o with
 |move x=>exact(mG _).bind2 fun _=>r _
 |assign x=>exact(mG _).bind2 fun _=>r _
 |pick c a b =>
  refine(cN _).bind2 fun d=>?_
  cases d<;>first|exact .none|skip
  rename_i q
  simp only[qI]
  cases q
  ·exact(mG _).bind2 fun _=>.ret _ _
  ·exact(mG _).bind2 fun _=>.ret _ _
 |alloc elem =>
  simp only[jH]
  split
  ·exact(JO _ _ _ _).bind2 fun x=>r x
  ·exact .none
 |box elem x =>
  simp only[jH]
  split
  ·exact(cN _).bind2 fun d=>(oV _ _).bind2 fun cs=>(JO _ _ _ _).bind2 fun x=>r x
  ·exact .none
 |build ty parts =>
  simp only[jH]
  cases esc
  ·exact(Ls _ _ _ _).bind2 fun _=>r _
  ·exact(Bv _ _ _ _ _).bind2 fun _=>r _
 |buildSlice ty len parts =>
  simp only[jH]
  exact fun κ out e=>(by
   obtain⟨d,hd⟩:=yR _ _ _ _ _ _ _ e
   obtain⟨a,b,hx⟩:=Rj esc d H _ out ((hd _).symm.trans e)
   exact⟨t,.val (.g a) L b,fun κ'=>(hd _).trans (hx _)⟩)
 |load ty x=>exact(mG _).bind2 fun _=>(FJ _ _ _ _ _).bind2 fun _=>r _
 |store ty x y=>exact(mG _).bind2 fun _=>(cN _).bind2 fun _=>fun κ out e=>(by
  obtain⟨a,b,h⟩:=Lg _ _ _ _ _ _ _ _ e
  exact⟨t,.skip a b,fun κ'=>h _⟩)
 |nilCheck x=>exact(mG _).bind2 fun _=>(Rw _).bind2 fun _=>r _
 |binOp op ty x y _ =>
  simp only[jH]
  refine(cN _).bind2 fun _=>(cN _).bind2 fun _=>?_
  cases pW y with
  |false=>exact(Rx _ _ _ _ _ _ _).bind2 fun _=>r _
  |true =>
   dsimp only
   split
   ·exact(Rk _ _).bind2 fun _=>r _
   ·exact .none
 |unOp op _ x=>exact(cN _).bind2 fun _=>(UI _ _).bind2 fun _=>r _
 |convert _ dst x=>exact(cN _).bind2 fun _=>(OK _ _ _ _).bind2 fun _=>r _
 |makeInterface ty x =>
  refine(cN _).bind2 fun a=>?_
  split
  ·exact .none
  ·exact r _
  ·exact .none
 |makeFunc fn first cap =>
  simp only[jH]
  split
  ·exact(so _ _).bind2 fun _=>(so _ _).bind2 fun _=>r _
  ·exact .none
 |makeMap ty n=>cases n<;>first|exact r _|exact .none
 |makeSlice ty l c =>
  simp only[jH]
  split
  ·split
   ·split
    ·split
     ·exact .none
     refine(cN _).bind2 fun d=>?_
     split
     ·exact(iZ _).bind2 fun n=>fun κ out e=>(by
       obtain⟨a,b,h⟩:=Rl _ _ _ _ _ e
       exact⟨t,_,fun κ'=>h _⟩)
     ·exact .none
    ·exact .none
   ·exact .none
  ·exact .none
 |slice ty x lo hi mx=>exact(cN _).bind2 fun _=>(Dm _ _).bind2 fun _=>(Dm _ _).bind2 fun _=>(Dm _ _).bind2 fun _=>fun κ out e=>(by
  cases esc
  ·obtain⟨a,b,h⟩:=Lh _ _ _ _ _ _ _ _ _ e
   exact⟨t,_,fun κ'=>h _⟩
  ·obtain⟨a,b,h⟩:=UJ _ _ _ _ _ _ _ _ _ e
   exact⟨t,_,fun κ'=>h _⟩)
 |fieldAddr ty x f=>exact(mG _).bind2 fun _=>(Lp _ _ _ _).bind2 fun _=>r _
 |field ty x f=>exact(cN _).bind2 fun _=>(Ln _ _ _ _).bind2 fun _=>r _
 |indexAddr ty x i =>
  simp only[jH]
  split
  ·exact(mG _).bind2 fun _=>(cN _).bind2 fun _=>(Rz _ _ _ _ _).bind2 fun _=>r _
  ·exact(cN _).bind2 fun _=>(cN _).bind2 fun _=>(Ll _ _ _ _).bind2 fun _=>r _
 |index ty x i=>exact(cN _).bind2 fun _=>(cN _).bind2 fun _=>(Lj _ _ _ _).bind2 fun _=>r _
 |lookup ty x k ok=>exact(cN _).bind2 fun _=>(cN _).bind2 fun _=>(OJ _ _ _ _ _ _).bind2 fun _=>r _
 |mapUpdate ty m k x=>exact(cN _).bind2 fun _=>(cN _).bind2 fun _=>(cN _).bind2 fun _=>(FF _ _ _ _ _ _).bind2 fun _=>r _
 |insert ty m k x=>exact(cN _).bind2 fun _=>(cN _).bind2 fun _=>(cN _).bind2 fun _=>(FF _ _ _ _ _ _).bind2 fun _=>r _
 |typeAssert x _ ty ok=>exact(cN _).bind2 fun _=>(HT _ _ _ _).bind2 fun _=>r _
 |extract x i=>exact(cN _).bind2 fun _=>(Ru _ _).bind2 fun _=>r _
 |call c =>
  simp only[jH]
  refine(so _ _).bind2 fun args=>?_
  split
  ·exact(Lr _ _ _ _ _ _).bind2 fun x=>r x
  ·refine(cN _).bind2 fun f=>?_
   cases esc
   ·exact(Lq _ _ _ _ _).bind2 fun x=>r x
   ·exact(OI _ _ _ _).bind2 fun x=>r x
  ·exact .none
 |defer c =>
  simp only[jH]
  refine(so _ _).bind2 fun args=>?_
  split
  ·refine(cN _).bind2 fun f=>?_
   split
   ·exact fP.cond _ (r _) .none
   ·exact .none
  ·exact .none
 |panic x =>
  simp only[jH]
  refine(cN _).bind2 fun x=>?_
  split
  ·exact r _
  ·exact .none
 |_=>exact .none
theorem FK(h:Hk)(d:D)(H:DH):fP (fK h d H):=by
 unfold fK
 split
 ·split
  ·exact om _ _ _ fun _ _ _ _=>fP.boK _ (.ret _ _)
  ·exact .ret _ _
  ·exact .ret _ _
  ·exact .ret _ _
  ·exact .none
 ·split
  ·exact fP.cond _ (.ret _ _) .none
  ·exact .ret _ _
  ·exact .none
theorem Lm(h:Hk)(c:Nat)(d:D)(H:DH):fP (jt h c d H):=by
 unfold jt
 split
 ·refine(Dp _ _).bind2 fun x=>fun κ out e=>?_
  obtain⟨a,b,k⟩:=FK _ _ _ _ _ e
  exact⟨_,_,fun κ'=>k _⟩
 ·exact fP.cond _ (FK _ _ _) .none
theorem fP.bind2{γ δ:Type}{c:(α->β->ah)->ah}{d:α->β->(γ->δ->ah)->ah}(h:fP c)(k:∀ a b,fP (d a b)):fP (fun κ=>c fun a b=>d a b κ):=fun κ out e=>by
 obtain⟨a,b,ha⟩:=h _ out e
 obtain⟨x,y,hx⟩:=k a b κ out ((ha _).symm.trans e)
 exact⟨x,y,fun _=>(ha _).trans (hx _)⟩
theorem Bu:∀ l d H,fP (xz l d H)
 |[],d,H=>.ret d H
 |(c,h)::r,d,H=>(Lm h c d H).bind2 fun d H=>Bu r d H
theorem ol(hs:List (Nat×List (Nat×Hk)))(dst:Option Tmp)(x:LD)(H:DH):fP (rH hs dst x H):=by
 unfold rH
 split
 ·exact .ret _ _
 ·split
  ·exact .ret _ _
  ·split
   ·exact .ret _ _
   ·split
    ·exact(Bu _ _ _).bind2 fun _ _=>.ret _ _
    ·exact .none
theorem He(x:V)(r:List V)(i:Nat)(t:T V):ki (x::r) i t id=ki r (i+1) (putD t (some i) x) id:=by
 simp only[ki,T.setK_eq];rfl
theorem EC(t:T V)(d i:Nat)(v:V):(putD t (some d) v).get (eQ i)=if d=i then some v else t.get (eQ i):=by
 rw[ED];simp
theorem gZ(P:Program)(s:S)(ty:TypeId)(a:Ad):iI P s ty (some (.ptr a))=bv s (loadVar P s ty a):=rfl
theorem uv(P:Program)(s:S)(ty:TypeId)(a:Ad)(v:V):rN P s ty (some (.ptr a)) (some v)=GK (storeVar P s ty a v):=rfl
def WF(s:S):Prop:=∀ f B,s.get f=some B->f<s.next
structure Fw(F:List Nat)(s s':S):Prop where
 keep:∀ g B,g∉F->s.get g=some B->s'.get g=some B
 ro:∀ g vs,s.get g=some (.ro vs)->s'.get g=some (.ro vs)
 next:s.next<=s'.next
 wf:WF s->WF s'
theorem Fw.alloc(F:List Nat){s:S}(hw:WF s)(B:dS):Fw F s (s.alloc B):=by
 refine⟨fun g C _ hg=>?_,fun g vs hg=>?_,by rw[S.next_alloc];omega,fun _ g C hg=>?_⟩
 ·rw[S.get_alloc,if_neg (by have:=hw g C hg;omega)];exact hg
 ·rw[S.get_alloc,if_neg (by have:=hw g _ hg;omega)];exact hg
 ·rw[S.get_alloc]at hg
  rw[S.next_alloc]
  split at hg
  ·omega
  ·have:=hw g C hg;omega
section
variable{s:S}{f:Nat}{e:TypeId}{sb:Bool}{nv:Nat}{cs:List V}
theorem oX(c:Nat):Nat.ble 0 c=true:=Nat.ble_eq_true_of_le (Nat.zero_le c)
theorem ZL(h:s.get f=some (.cells e sb nv [⟨0,0,cs⟩]))(c n:Nat):loadCells s ⟨f,0,c⟩ n=aU n (cs.drop c):=by
 simp_all[loadCells,bu,oX]
theorem Mt(h:s.get f=some (.cells e sb nv [⟨0,0,cs⟩]))(c:Nat)(new:List V)(h1:new.all V.one=true){cs':List V}(h2:bX cs c new=some cs'):storeCells s ⟨f,0,c⟩ new=some (s.put f (.cells e sb nv [⟨0,0,cs'⟩])):=by
 unfold storeCells;rw[h];simp[bu,h1,h2,oX]
end
theorem gz(s:S)(B:dS):(s.alloc B).get s.next=some B:=by rw[S.get_alloc,if_pos rfl]
theorem Id(n:Int)(h:-9223372036854775808<=n/\n<=9223372036854775807):IntKind.i64.wrap n=n:=IntWalk.i64_in n h
theorem dj:∀(l:List V) (n:Nat),l.length=n->aU n l=some l
 |[],0,_=>rfl
 |[],_+1,h=>by simp at h
 |_::_,0,h=>by simp at h
 |x::l,n+1,h=>by simp[aU,dj l n (by simpa using h)]
structure Gh where
 O:List (Option (Nat×Nat))
 H:DH
 Pv:List Nat
 s:S
def Gh.Imm(g:Gh)(f:Nat):Prop:=f<g.s.next/\f∉g.Pv/\∀(o v:Nat),g.O[o]? = some (some (f,v))->∃ sz cap l,g.H[o]? = some (DB.buf sz false cap l)
def aK(vs:List V):Prop:=vs.all V.one=true
def HH(cap:Bool)(n:Nat):Option Nat:=bif cap then some n else none
def zO(g:Gh)(o:Nat):Prop:=∃ z s l,g.H[o]? = some (DB.tbuf z s l)
def Zg(sz n:Nat)(v:V):Prop:=(n=0/\(v=.nilslice\/∃ a z sz',v=.slice a z 0 (some 0) sz'))\/∃ a z c,v=.slice a z n c sz
def Pd(g:Gh)(sz o n:Nat)(v:V):Prop:=(zO g o/\Zg sz n v)\/∃ st cap l,g.H[o]? = some (DB.buf sz st cap l)/\n<=l.length /\
 ((n=0/\(v=.nilslice\/∃ a z sz',v=.slice a z 0 (some 0) sz'))\/(0<n/\∃ f ver ver' cap',g.O[o]? = some (some (f,ver))/\v=.slice ⟨f,ver',0⟩ 0 n cap' sz/\(n=l.length->ver'=ver/\cap'=HH cap n)))
mutual
def RD(g:Gh):D->V->Prop
 |.bool b,v=>v=.bool b
 |.int k n,v=>v=.int k n
 |.str l,v=>v=.str l/\∀ c∈l,c<256
 |.ptr o c,v=>∃ f ver,g.O[o]? = some (some (f,ver))/\v=.ptr ⟨f,0,c⟩
 |.eptr cs c,v=>∃ a vs,v=.ptr (bN a c)/\g.Imm a.f/\loadCells g.s a cs.length=some vs/\RL g cs vs/\aK vs
 |.tptr o s i c,v=>∃ f ver sz s' l ver',g.O[o]? = some (some (f,ver))/\g.H[o]? = some (DB.tbuf sz s' l)/\s<=s'/\v=.ptr ⟨f,ver',i*sz+c⟩/\(s=s'->i<l.length/\ver'=ver)
 |.tb sz o s k,v=>∃ f ver s' l ver',g.O[o]? = some (some (f,ver))/\g.H[o]? = some (DB.tbuf sz s' l)/\s<=s'/\v=.slice ⟨f,ver',0⟩ 0 k none sz/\(s=s'->k=l.length/\ver'=ver)
 |.bptr o n i c,v=>(zO g o/\∃ a,v=.ptr a)\/∃ f ver sz st cap l ver',g.O[o]? = some (some (f,ver))/\g.H[o]? = some (DB.buf sz st cap l)/\n<=l.length/\i<n/\v=.ptr ⟨f,ver',i*sz+c⟩/\(n=l.length->ver'=ver)
 |.nilptr,v=>v=.nilptr
 |.row sz l,v=>(l=[]/\v=.nilslice)\/(l=[]/\∃ a z sz',v=.slice a z 0 (some 0) sz') \/
  ∃ a z cap,v=.slice a z l.length cap sz/\0<sz/\(cap.isSome=true\/z=a.c)/\(∀ c,cap=some c->l.length<=c)/\(l≠[]->g.Imm a.f)/\RR g a sz l
 |.buf sz o n,v=>Pd g sz o n v
 |.nilrow,v=>v=.nilslice\/∃ a z sz,v=.slice a z 0 (some 0) sz
 |.nilx,v=>v=.nilslice
 |.map o,v=>∃ f ver,g.O[o]? = some (some (f,ver))/\v=.map f
 |.nilmap,v=>v=.nilmap
 |.func fn a b,v=>∃ a' b',v=.func (.func fn) a' b'/\RL g a a'/\RL g b b'
 |.nilFunc,v=>v=.nilFunc
 |.iface t d,v=>∃ v',v=.iface t v'/\RD g d v'
 |.nilIface,v=>v=.nilIface
 |.yld o,v=>∃ f ver,g.O[o]? = some (some (f,ver))/\v=.func (.yield f) [] []
 |.abool,v=>∃ q,v=.bool q
 |.agg cs,v=>∃ vs,v=.agg vs/\RL g cs vs/\aK vs
 |.tuple ds,v=>∃ vs,v=.tuple vs/\RL g ds vs
def RL(g:Gh):List D->List V->Prop
 |[],vs=>vs=[]
 |d::r,vs=>∃ v vs',vs=v::vs'/\RD g d v/\RL g r vs'
def RR(g:Gh)(a:Ad)(sz:Nat):List (List D)->Prop
 |[]=>True
 |cs::r=>(∃ vs,cs.length=sz/\loadCells g.s a sz=some vs/\RL g cs vs/\aK vs)/\RR g (bN a sz) sz r
end
theorem yU(a:Ad)(m n:Nat):bN (bN a m) n=bN a (m+n):=by simp only[bN,Nat.add_assoc]
theorem OO(a:Ad)(m:Nat):(bN a m).f=a.f:=rfl
structure mP(g g':Gh):Prop where
 hl:g.H.length<=g'.H.length
 o1:∀(o f v:Nat),g.O[o]? = some (some (f,v))->∃ v',g'.O[o]? = some (some (f,v'))
 buf:∀(o:Nat) sz st cap l,g.H[o]? = some (DB.buf sz st cap l)->zO g' o\/∃ st' cap' l',g'.H[o]? = some (DB.buf sz st' cap' l')/\l.length<=l'.length/\(st=false->st'=false)/\(l.length=l'.length->cap'=cap/\g'.O[o]? = g.O[o]?)
 tb:∀(o:Nat) sz s l,g.H[o]? = some (DB.tbuf sz s l)->∃ s' l',g'.H[o]? = some (DB.tbuf sz s' l')/\s<=s'/\(s=s'->l'.length=l.length/\g'.O[o]? = g.O[o]?)
 imm:∀ f,g.Imm f->g'.Imm f
 cells:∀ a n vs,g.Imm a.f->loadCells g.s a n=some vs->loadCells g'.s a n=some vs
 next:g.s.next<=g'.s.next
theorem mP.refl(g:Gh):mP g g:=⟨Nat.le_refl _,fun _ _ v h=>⟨v,h⟩,fun _ _ st cap l h=>.inr ⟨st,cap,l,h,Nat.le_refl _,id,fun _=>⟨rfl,rfl⟩⟩,fun _ _ s l h=>⟨s,l,h,Nat.le_refl _,fun _=>⟨rfl,rfl⟩⟩,fun _ h=>h,fun _ _ _ _ h=>h,Nat.le_refl _⟩
theorem mP.trans{a b c:Gh}(h:mP a b)(k:mP b c):mP a c:=by
 refine⟨Nat.le_trans h.hl k.hl,fun o f v ho=>?_,fun o sz st cap l ho=>?_,fun o sz s l ho=>?_,fun f hf=>k.imm f (h.imm f hf),fun x n vs hi hx=>k.cells x n vs (h.imm _ hi) (h.cells x n vs hi hx),Nat.le_trans h.next k.next⟩
 ·obtain⟨v',h1⟩:=h.o1 o f v ho;exact k.o1 o f v' h1
 ·rcases h.buf o sz st cap l ho with⟨z,s,l',h1⟩|⟨st',cap',l',h1,h2,h3,h4⟩
  ·obtain⟨s2,l2,k1,_⟩:=k.tb o z s l' h1
   exact .inl ⟨z,s2,l2,k1⟩
  ·rcases k.buf o sz st' cap' l' h1 with k1|⟨st2,cap2,l2,k1,k2,k3,k4⟩
   ·exact .inl k1
   ·exact .inr (by grind)
 ·obtain⟨s1,l1,h1,h2,h3⟩:=h.tb o sz s l ho
  obtain⟨s2,l2,k1,k2,k3⟩:=k.tb o sz s1 l1 h1
  exact⟨s2,l2,k1,Nat.le_trans h2 k2,fun e=>by grind⟩
theorem zO.mono{g g':Gh}(h:mP g g'){o:Nat}(r:zO g o):zO g' o:=by
 obtain⟨z,s,l,h1⟩:=r
 obtain⟨s',l',k1,_⟩:=h.tb o z s l h1
 exact⟨z,s',l',k1⟩
theorem Pd.mono{g g':Gh}(h:mP g g'){sz o n:Nat}{v:V}(r:Pd g sz o n v):Pd g' sz o n v:=by
 rcases r with⟨r,r2⟩|⟨st,cap,l,h1,h2,h3⟩
 ·exact .inl ⟨r.mono h,r2⟩
 rcases h.buf o sz st cap l h1 with k1|⟨st',cap',l',k1,k2,k3,k4⟩
 ·refine .inl ⟨k1,?_⟩
  rcases h3 with h3|⟨h3,f,ver,ver',c,h4,h5,h6⟩
  ·exact .inl h3
  ·exact .inr ⟨_,_,_,h5⟩
 refine .inr ⟨st',cap',l',k1,Nat.le_trans h2 k2,?_⟩
 rcases h3 with h3|⟨h3,f,ver,ver',c,h4,h5,h6⟩
 ·exact .inl h3
 ·obtain⟨v2,h7⟩:=h.o1 o f ver h4
  refine .inr ⟨h3,f,v2,ver',c,h7,h5,fun e=>?_⟩
  grind
mutual
theorem RD.mono{g g':Gh}(h:mP g g'):∀ {d:D} {v:V},RD g d v->RD g' d v
 |.bool _,_,r=>by simpa only[RD]using r
 |.int ..,_,r=>by simpa only[RD]using r
 |.str _,_,r=>by simpa only[RD]using r
 |.ptr o c,v,r=>by
  simp only[RD]at r ⊢
  obtain⟨f,ver,h1,h2⟩:=r
  obtain⟨v',h3⟩:=h.o1 o f ver h1
  grind
 |.eptr cs c,v,r=>by
  simp only[RD]at r ⊢
  obtain⟨a,vs,h1,h2,h3,h4,h5⟩:=r
  exact⟨a,vs,h1,h.imm _ h2,h.cells _ _ _ h2 h3,RL.mono h h4,h5⟩
 |.bptr o n i c,v,r=>by
  simp only[RD]at r ⊢
  rcases r with⟨r,r2⟩|⟨f,ver,sz,st,cap,l,ver',h1,h2,h3,h4,h5,h6⟩
  ·exact .inl ⟨r.mono h,r2⟩
  rcases h.buf o sz st cap l h2 with k1|⟨st',cap',l',k1,k2,k3,k4⟩
  ·exact .inl ⟨k1,_,h5⟩
  obtain⟨v2,h7⟩:=h.o1 o f ver h1
  exact .inr (by grind)
 |.tptr o s i c,v,r=>by
  simp only[RD]at r ⊢
  obtain⟨f,ver,sz,s',l,ver',h1,h2,h3,h4,h5⟩:=r
  obtain⟨s2,l2,k1,k2,k3⟩:=h.tb o sz s' l h2
  obtain⟨v2,h7⟩:=h.o1 o f ver h1
  exact⟨f,v2,sz,s2,l2,ver',h7,k1,Nat.le_trans h3 k2,h4,fun e=>by grind⟩
 |.tb sz o s k,v,r=>by
  simp only[RD]at r ⊢
  obtain⟨f,ver,s',l,ver',h1,h2,h3,h4,h5⟩:=r
  obtain⟨s2,l2,k1,k2,k3⟩:=h.tb o sz s' l h2
  obtain⟨v2,h7⟩:=h.o1 o f ver h1
  exact⟨f,v2,s2,l2,ver',h7,k1,Nat.le_trans h3 k2,h4,fun e=>by grind⟩
 |.nilptr,_,r=>by simpa only[RD]using r
 |.row sz l,v,r=>by
  simp only[RD]at r ⊢
  rcases r with r|r|⟨a,z,cap,h1,h2,h3,h4,h5,h6⟩
  ·exact .inl r
  ·grind
  ·refine .inr (.inr ⟨a,z,cap,h1,h2,h3,h4,fun e=>h.imm _ (h5 e),?_⟩)
   cases hl:l with
   |nil=>simp only[RR]
   |cons x y=>rw[<- hl];exact RR.mono h (h5 (by rw[hl];simp)) h6
 |.buf sz o n,v,r=>by
  simp only[RD]at r ⊢
  exact r.mono h
 |.nilrow,_,r=>by simpa only[RD]using r
 |.nilx,_,r=>by simpa only[RD]using r
 |.map o,v,r=>by
  simp only[RD]at r ⊢
  obtain⟨f,ver,h1,h2⟩:=r
  obtain⟨v',h3⟩:=h.o1 o f ver h1
  grind
 |.nilmap,_,r=>by simpa only[RD]using r
 |.func fn a b,v,r=>by
  simp only[RD]at r ⊢
  obtain⟨a',b',h1,h2,h3⟩:=r
  exact⟨a',b',h1,RL.mono h h2,RL.mono h h3⟩
 |.nilFunc,_,r=>by simpa only[RD]using r
 |.iface t d,v,r=>by
  simp only[RD]at r ⊢
  obtain⟨v',h1,h2⟩:=r
  exact⟨v',h1,RD.mono h h2⟩
 |.nilIface,_,r=>by simpa only[RD]using r
 |.yld o,v,r=>by
  simp only[RD]at r ⊢
  obtain⟨f,ver,h1,h2⟩:=r
  obtain⟨v',h3⟩:=h.o1 o f ver h1
  grind
 |.abool,_,r=>by simpa only[RD]using r
 |.agg cs,v,r=>by
  simp only[RD]at r ⊢
  obtain⟨vs,h1,h2,h3⟩:=r
  exact⟨vs,h1,RL.mono h h2,h3⟩
 |.tuple ds,v,r=>by
  simp only[RD]at r ⊢
  obtain⟨vs,h1,h2⟩:=r
  exact⟨vs,h1,RL.mono h h2⟩
theorem RL.mono{g g':Gh}(h:mP g g'):∀ {ds:List D} {vs:List V},RL g ds vs->RL g' ds vs
 |[],_,r=>by simpa only[RL]using r
 |d::l,vs,r=>by
  simp only[RL]at r ⊢
  obtain⟨v,vs',h1,h2,h3⟩:=r
  exact⟨v,vs',h1,RD.mono h h2,RL.mono h h3⟩
theorem RR.mono{g g':Gh}(h:mP g g'):∀ {l:List (List D)} {a:Ad} {sz:Nat},g.Imm a.f->RR g a sz l->RR g' a sz l
 |[],_,_,_,_=>by simp only[RR]
 |cs::l,a,sz,hi,r=>by
  simp only[RR]at r ⊢
  obtain⟨⟨vs,h1,h2,h3,h4⟩,h5⟩:=r
  exact⟨⟨vs,h1,h.cells _ _ _ hi h2,RL.mono h h3,h4⟩,RR.mono h (by rw[OO];exact hi) h5⟩
end
theorem RL.len{g:Gh}:∀ {ds:List D} {vs:List V},RL g ds vs->vs.length=ds.length
 |[],_,r=>by simp only[RL]at r;rw[r];rfl
 |d::l,_,r=>by
  simp only[RL]at r
  obtain⟨v,vs',rfl,_,h3⟩:=r
  simp only[List.length_cons,RL.len h3]
theorem RL.at{g:Gh}:∀ {ds:List D} {vs:List V} {i:Nat} {d:D},RL g ds vs->ds[i]? = some d->∃ v,vs[i]? = some v/\RD g d v
 |[],_,i,d,r,h=>by simp at h
 |x::l,_,i,d,r,h=>by
  simp only[RL]at r
  obtain⟨v,vs',rfl,h2,h3⟩:=r
  cases i with
  |zero=>simp at h;subst h;exact⟨v,rfl,h2⟩
  |succ i=>simpa using RL.at h3 (by simpa using h)
theorem RL.append{g:Gh}:∀ {a:List D} {x:List V} {b:List D} {y:List V},RL g a x->RL g b y->RL g (a++b) (x++y)
 |[],_,b,y,h,k=>by simp only[RL]at h;subst h;exact k
 |d::l,_,b,y,h,k=>by
  simp only[RL]at h
  obtain⟨v,vs',rfl,h2,h3⟩:=h
  simp only[List.cons_append,RL]
  exact⟨v,vs'++y,rfl,h2,RL.append h3 k⟩
theorem RL.drop{g:Gh}:∀ {a:List D} {x:List V} (n:Nat),RL g a x->RL g (a.drop n) (x.drop n)
 |a,x,0,h=>h
 |[],_,n+1,h=>by simp only[RL]at h;subst h;simp[RL]
 |d::l,_,n+1,h=>by
  simp only[RL]at h
  obtain⟨v,vs',rfl,_,h3⟩:=h
  simp_all[RL.drop]
theorem RL.take{g:Gh}:∀ {a:List D} {x:List V} (n:Nat),RL g a x->RL g (a.take n) (x.take n)
 |a,x,0,h=>by simp[RL]
 |[],_,n+1,h=>by simp only[RL]at h;subst h;simp[RL]
 |d::l,_,n+1,h=>by
  simp only[RL]at h
  obtain⟨v,vs',rfl,h2,h3⟩:=h
  simp only[List.take_succ_cons,RL]
  exact⟨v,_,rfl,h2,RL.take n h3⟩
theorem RL.set{g:Gh}:∀ {a:List D} {x:List V} (i:Nat) {d:D} {v:V},RL g a x->RD g d v->RL g (a.set i d) (x.set i v)
 |[],_,i,d,v,h,k=>by simp only[RL]at h;subst h;simp[RL]
 |y::l,_,0,d,v,h,k=>by
  grind [RL]
 |y::l,_,i+1,d,v,h,k=>by
  simp only[RL]at h
  obtain⟨w,vs',rfl,h2,h3⟩:=h
  simp only[List.set_cons_succ,RL]
  exact⟨w,_,rfl,h2,RL.set i h3 k⟩
theorem RR.at{g:Gh}:∀ {l:List (List D)} {a:Ad} {sz i:Nat} {cs:List D},RR g a sz l->l[i]? = some cs->∃ vs,cs.length=sz/\loadCells g.s (bN a (i*sz)) sz=some vs/\RL g cs vs/\aK vs
 |[],_,_,_,_,_,h=>by simp at h
 |x::l,a,sz,i,cs,r,h=>by
  simp only[RR]at r
  cases i with
  |zero=>simp at h;subst h;rw[Nat.zero_mul];exact r.1
  |succ i =>
   have:=RR.at r.2 (i:=i) (by simpa using h)
   simp_all[yU,Nat.add_mul,Nat.one_mul,Nat.add_comm]
theorem RR.of{g:Gh}:∀ {l:List (List D)} {a:Ad} {sz:Nat},(∀ i cs,l[i]? = some cs->∃ vs,cs.length=sz/\loadCells g.s (bN a (i*sz)) sz=some vs/\RL g cs vs/\aK vs)->RR g a sz l
 |[],_,_,_=>by simp only[RR]
 |x::l,a,sz,h=>by
  simp only[RR]
  refine⟨?_,RR.of fun i cs hx=>?_⟩
  ·have:=h 0 x rfl;rw[Nat.zero_mul]at this;exact this
  ·rw[yU,show sz+i*sz=(i+1)*sz by rw[Nat.add_mul,Nat.one_mul,Nat.add_comm]]
   exact h (i+1) cs (by simpa using hx)
def RS(g:Gh)(LO:List Nat):LD->V->Prop
 |.g d,v=>RD g d v
 |.lp k c,v=>∃ f,LO[k]? = some f/\v=.ptr ⟨f,0,c⟩
 |.u,v=>v=V.undef
theorem RS.mono{g g':Gh}(h:mP g g'){LO:List Nat}{x:LD}{v:V}(r:RS g LO x v):RS g' LO x v:=by
 cases x with
 |g d=>exact RD.mono h r
 |lp k c=>exact r
 |u=>exact r
theorem RS.ext{g:Gh}{LO LO':List Nat}(h:LO <+: LO'){x:LD}{v:V}(r:RS g LO x v):RS g LO' x v:=by
 cases x with
 |g d=>exact r
 |lp k c =>
  obtain⟨f,h1,h2⟩:=r
  obtain⟨m,rfl⟩:=h
  refine⟨f,?_,h2⟩
  grind
 |u=>exact r
def zN(g:Gh)(LO:List Nat)(t:T LD)(tv:T V):Prop:=∀ i x,t.get (eQ i)=some x->∃ v,tv.get (eQ i)=some v/\RS g LO x v
theorem zN.mono{g g':Gh}(h:mP g g'){LO LO':List Nat}(hl:LO <+: LO'){t:T LD}{tv:T V}(r:zN g LO t tv):zN g' LO' t tv:=fun i x hx=>by
 obtain⟨v,h1,h2⟩:=r i x hx
 exact⟨v,h1,(h2.mono h).ext hl⟩
def PvR(g:Gh)(x:Nat×List D)(f:Nat):Prop:=f∈g.Pv/\(x.2=[]\/∃ el vs,g.s.get f=some (.cells el false 1 [⟨0,0,vs⟩])/\RL g x.2 vs/\aK vs)
def Ve(g:Gh)(L:LS)(LO:List Nat):Prop:=∀(k:Nat) x f,L[k]? = some x->LO[k]? = some f->PvR g x f
def LR(g:Gh)(L:LS)(LO:List Nat):Prop:=L.length=LO.length/\Ve g L LO
def qu(g:Gh):List (D×D)->List oY->Prop
 |[],es=>es=[]
 |(k,v)::r,es=>∃ e es',es=e::es'/\RD g k e.key/\RD g v e.val/\e.key.one=true/\qu g r es'
theorem qu.mono{g g':Gh}(h:mP g g'):∀ {l:List (D×D)} {es:List oY},qu g l es->qu g' l es
 |[],_,r=>r
 |(k,v)::l,_,r=>by
  obtain⟨e,es',h1,h2,h3,h4,h5⟩:=r
  exact⟨e,es',h1,RD.mono h h2,RD.mono h h3,h4,qu.mono h h5⟩
def jM(g:Gh)(o:Nat):DB->Prop
 |.dead=>False
 |.opq=>∃ f v,g.O[o]? = some (some (f,v))
 |.coll=>∃ f,g.O[o]? = some (some (f,0))/\g.s.get f=some .deferred
 |.loop rdy fn nt t ps a b=>∃ f tv d,g.O[o]? = some (some (f,0))/\g.s.get f=some (.loop (bif rdy then .ready else .busy) none fn tv ps a b d nt)/\zN g [] t tv
 |.cells _ cs=>∃ f el vs,g.O[o]? = some (some (f,0))/\g.s.get f=some (.cells el false 1 [⟨0,0,vs⟩])/\RL g cs vs/\aK vs
 |.map es=>∃ f ents clock,g.O[o]? = some (some (f,0))/\g.s.get f=some (.map ents clock)/\qu g es ents
 |.buf sz _ _ l=>0<sz/\((l=[]/\g.O[o]? = some none)\/(l≠[]/\∃ f ver el nv vers cells,g.O[o]? = some (some (f,ver))/\g.s.get f=some (.cells el false nv vers) /\
  bu vers ver=some ⟨ver,0,cells⟩/\cells.length=l.length*sz/\(∀ u∈vers,u.v<nv/\u.lo+u.cells.length<=cells.length)/\RR g ⟨f,ver,0⟩ sz l))
 |.tbuf sz _ l=>0<sz/\∃ f ver el nv vers cells,g.O[o]? = some (some (f,ver))/\g.s.get f=some (.cells el false nv vers) /\
  bu vers ver=some ⟨ver,0,cells⟩/\l.length*sz<=cells.length/\(∀ u∈vers,u.v<nv)/\RR g ⟨f,ver,0⟩ sz l
class fE where
 I:S->Prop
 bl:List Nat
 stb:∀ s s':S,(∀ f∈bl,s'.get f=s.get f)->I s->I s'
variable[fE]
structure Gl(g:Gh):Prop where
 i:fE.I g.s
 b:∀ f∈fE.bl,f<g.s.next/\f∉g.Pv/\∀(o v:Nat),g.O[o]?≠some (some (f,v))
theorem Gl.to{g g':Gh}(h:Gl g)(k:∀ f,f<g.s.next->f∉g.Pv->(∀(o v:Nat),g.O[o]?≠some (some (f,v)))->g'.s.get f=g.s.get f/\f<g'.s.next/\f∉g'.Pv/\∀(o v:Nat),g'.O[o]?≠some (some (f,v))):Gl g' :=
 ⟨fE.stb _ _ (fun f hf=>(k f (h.b f hf).1 (h.b f hf).2.1 (h.b f hf).2.2).1) h.i,fun f hf=>(k f (h.b f hf).1 (h.b f hf).2.1 (h.b f hf).2.2).2⟩
structure Ok(g:Gh):Prop where
 len:g.O.length=g.H.length
 wf:WF g.s
 inj:∀(o o' f v v':Nat),g.O[o]? = some (some (f,v))->g.O[o']? = some (some (f,v'))->o=o'
 lt:∀(o f v:Nat),g.O[o]? = some (some (f,v))->f<g.s.next/\f∉g.Pv
 pv:∀ f∈g.Pv,f<g.s.next
 obj:∀(o:Nat) b,g.H[o]? = some b->jM g o b
 gl:Gl g
structure Mv(b:Nat)(g g':Gh):Prop where
 le:mP g g'
 out:∀ f,f<b->(∀(o v:Nat),g.O[o]?≠some (some (f,v)))->g'.s.get f=g.s.get f
 fresh:∀(o f v:Nat),g'.O[o]? = some (some (f,v))->f<b->∃ v',g.O[o]? = some (some (f,v'))
 stm:∀(o:Nat) s1 c1 f v,g.H[o]? = some (.cells s1 c1)->g.O[o]? = some (some (f,v))->∃ s2 c2,g'.H[o]? = some (.cells s2 c2)/\s1<=s2/\(s1=s2->c2=c1/\g'.s.get f=g.s.get f)
theorem Mv.refl(b:Nat)(g:Gh):Mv b g g:=⟨.refl g,fun _ _ _=>rfl,fun _ _ v h _=>⟨v,h⟩,fun _ s1 c1 _ _ h _=>⟨s1,c1,h,Nat.le_refl _,fun _=>⟨rfl,rfl⟩⟩⟩
theorem Mv.trans{b:Nat}{x y z:Gh}(h:Mv b x y)(k:Mv b y z):Mv b x z:=by
 refine⟨h.le.trans k.le,fun f hf hn=>?_,fun o f v ho hf=>?_,fun o s1 c1 f v h1 h2=>?_⟩
 ·rw[k.out f hf fun o v e=>?_,h.out f hf hn]
  obtain⟨v',h1⟩:=h.fresh o f v e hf
  grind
 ·obtain⟨v',h1⟩:=k.fresh o f v ho hf
  exact h.fresh o f v' h1 hf
 ·obtain⟨s2,c2,k1,k2,k3⟩:=h.stm o s1 c1 f v h1 h2
  obtain⟨v',k4⟩:=h.le.o1 o f v h2
  obtain⟨s3,c3,j1,j2,j3⟩:=k.stm o s2 c2 f v' k1 k4
  grind
theorem Mv.down{b c:Nat}{g g':Gh}(h:Mv b g g')(hc:c<=b):Mv c g g':=⟨h.le,fun f hf=>h.out f (Nat.lt_of_lt_of_le hf hc),fun o f v ho hf=>h.fresh o f v ho (Nat.lt_of_lt_of_le hf hc),h.stm⟩
structure FI(b:Nat)(P0:List Nat)(g:Gh)(t:T LD)(L:LS)(tv:T V)(LO:List Nat):Prop where
 ok:Ok g
 slots:zN g LO t tv
 own:LR g L LO
 pv:g.Pv=P0++LO
 low:∀ f∈LO,b<=f
 nd:LO.Nodup
 bl:b<=g.s.next
end Go.AI
namespace Go.AI
variable[fE]
theorem cV{s s':S}{a:Ad}(h:s'.get a.f=s.get a.f)(n:Nat):loadCells s' a n=loadCells s a n:=by
 grind [loadCells]
theorem RR.keep{g g':Gh}(h:mP g g'):∀ {l:List (List D)} {a:Ad} {sz:Nat},g'.s.get a.f=g.s.get a.f->RR g a sz l->RR g' a sz l
 |[],_,_,_,_=>by simp only[RR]
 |cs::l,a,sz,hi,r=>by
  simp only[RR]at r ⊢
  obtain⟨⟨vs,h1,h2,h3,h4⟩,h5⟩:=r
  exact⟨⟨vs,h1,by rw[cV hi];exact h2,RL.mono h h3,h4⟩,RR.keep h (by rw[OO];exact hi) h5⟩
theorem jM.keep{g g':Gh}(h:mP g g'){o:Nat}{b:DB}(hO:g'.O[o]? = g.O[o]?)(hs:∀ f v,g.O[o]? = some (some (f,v))->g'.s.get f=g.s.get f)(r:jM g o b):jM g' o b:=by
 cases b with
 |dead=>exact r
 |opq=>obtain⟨f,v,h1⟩:=r;exact⟨f,v,by rw[hO];exact h1⟩
 |coll=>obtain⟨f,h1,h2⟩:=r;exact⟨f,by rw[hO];exact h1,by rw[hs f 0 h1];exact h2⟩
 |loop _ _ _ _ _ _ _=>obtain⟨f,tv,d,h1,h2,h3⟩:=r;exact⟨f,tv,d,by rw[hO];exact h1,by rw[hs f 0 h1];exact h2,h3.mono h List.prefix_rfl⟩
 |cells st cs =>
  obtain⟨f,el,vs,h1,h2,h3,h4⟩:=r
  exact⟨f,el,vs,by rw[hO];exact h1,by rw[hs f 0 h1];exact h2,h3.mono h,h4⟩
 |map es =>
  obtain⟨f,ents,c,h1,h2,h3⟩:=r
  exact⟨f,ents,c,by rw[hO];exact h1,by rw[hs f 0 h1];exact h2,h3.mono h⟩
 |buf sz st cap l =>
  obtain⟨h0,h1|⟨h1,f,ver,el,nv,vers,cells,h2,h3,h4,h5,h6,h7⟩⟩:=r
  ·exact⟨h0,.inl ⟨h1.1,by rw[hO];exact h1.2⟩⟩
  ·exact⟨h0,.inr ⟨h1,f,ver,el,nv,vers,cells,by rw[hO];exact h2,by rw[hs f ver h2];exact h3,h4,h5,h6,h7.keep h (hs f ver h2)⟩⟩
 |tbuf sz s l =>
  obtain⟨h0,f,ver,el,nv,vers,cells,h2,h3,h4,h5,h6,h7⟩:=r
  exact⟨h0,f,ver,el,nv,vers,cells,by rw[hO];exact h2,by rw[hs f ver h2];exact h3,h4,h5,h6,h7.keep h (hs f ver h2)⟩
theorem LR.keep{g g':Gh}(h:mP g g'){L:LS}{LO:List Nat}(hp:∀ f∈LO,f∈g'.Pv)(hs:∀ f∈LO,g'.s.get f=g.s.get f)(r:LR g L LO):LR g' L LO:=by
 refine⟨r.1,fun k x f hx hf=>?_⟩
 have hm:=List.mem_of_getElem? hf
 obtain⟨h1,h2⟩:=r.2 k x f hx hf
 refine⟨hp f hm,?_⟩
 rcases h2 with h2|⟨el,vs,h2,h3,h4⟩
 ·exact .inl h2
 ·exact .inr ⟨el,vs,by rw[hs f hm];exact h2,h3.mono h,h4⟩
theorem aG{s:S}{B:dS}{f:Nat}(h:f<s.next):(s.alloc B).get f=s.get f:=by rw[S.get_alloc,if_neg (by omega)]
theorem sj{s:S}{B:dS}{f:Nat}(h:f<s.next):f<(s.alloc B).next:=by rw[S.next_alloc];omega
theorem qy{s:S}(hw:WF s)(B:dS):WF (s.alloc B):=(Fw.alloc [] hw B).wf hw
theorem LM{s:S}(hw:WF s){f:Nat}{B0:dS}(h0:s.get f=some B0)(B:dS):WF (s.put f B):=fun g C hg=>by
 rw[S.get_put]at hg
 rw[S.next_put]
 split at hg
 ·rename_i e;subst e;exact hw _ _ h0
 ·exact hw g C hg
theorem gy{α:Type}(l:List α)(x:α):(l++[x])[l.length]? = some x:=by simp
theorem ei{α:Type}{l:List α}{i:Nat}{x:α}(m:List α)(h:l[i]? = some x):(l++m)[i]? = some x:=by
 grind
theorem bt{α:Type}{l:List α}{i:Nat}{x y:α}(h:(l++[y])[i]? = some x):l[i]? = some x\/(i=l.length/\x=y):=by
 grind
section
variable{b:Nat}{P0:List Nat}{g:Gh}{t:T LD}{L:LS}{tv:T V}{LO:List Nat}
def Gh.blk(g:Gh)(B:dS):Gh:=⟨g.O,g.H,g.Pv,g.s.alloc B⟩
theorem Qy(B:dS){f:Nat}(h:g.Imm f):(g.blk B).Imm f:=⟨by show f<(g.s.alloc B).next;rw[S.next_alloc];have:=h.1;omega,h.2.1,h.2.2⟩
theorem GZ(B:dS):mP g (g.blk B):=by
 refine⟨Nat.le_refl _,fun _ _ v h=>⟨v,h⟩,fun _ _ st cap l h=>.inr ⟨st,cap,l,h,Nat.le_refl _,id,fun _=>⟨rfl,rfl⟩⟩,fun _ _ s l h=>⟨s,l,h,Nat.le_refl _,fun _=>⟨rfl,rfl⟩⟩,fun f h=>Qy B h,fun a n vs hi hx=>?_,by show _<=(g.s.alloc B).next;rw[S.next_alloc];omega⟩
 rw[<- hx];exact cV (aG hi.1) n
theorem Ok.blk(h:Ok g)(B:dS):Ok (g.blk B):=by
 refine⟨h.len,qy h.wf B,h.inj,fun o f v ho=>⟨?_,(h.lt o f v ho).2⟩,fun f hf=>?_,fun o b hb=>(h.obj o b hb).keep (GZ B) rfl fun f v ho=>aG (h.lt o f v ho).1,h.gl.to fun f hf hp ho=>⟨aG hf,sj hf,hp,ho⟩⟩
 ·have:=(h.lt o f v ho).1;show f<(g.s.alloc B).next;rw[S.next_alloc];omega
 ·have:=h.pv f hf;show f<(g.s.alloc B).next;rw[S.next_alloc];omega
theorem GR(h:Ok g)(hb:b<=g.s.next)(B:dS):Mv b g (g.blk B):=⟨GZ B,fun f hf _=>aG (Nat.lt_of_lt_of_le hf hb),fun _ _ v h _=>⟨v,h⟩,fun o s1 c1 f v h1 h2=>⟨s1,c1,h1,Nat.le_refl _,fun _=>⟨rfl,aG (h.lt o f v h2).1⟩⟩⟩
theorem FI.to(h:FI b P0 g t L tv LO){g':Gh}(hok:Ok g')(hm:Mv b g g')(hp:g'.Pv=g.Pv)(hs:∀ f∈LO,g'.s.get f=g.s.get f):FI b P0 g' t L tv LO :=
 ⟨hok,h.slots.mono hm.le List.prefix_rfl,h.own.keep hm.le (fun f hf=>by rw[hp,h.pv];exact List.mem_append_right _ hf) hs,by rw[hp];exact h.pv,h.low,h.nd,Nat.le_trans h.bl hm.le.next⟩
theorem FI.lo_lt(h:FI b P0 g t L tv LO){f:Nat}(hf:f∈LO):f<g.s.next:=h.ok.pv f (by rw[h.pv];exact List.mem_append_right _ hf)
theorem FI.lo_out(h:FI b P0 g t L tv LO){f:Nat}(hf:f∈LO)(o v:Nat):g.O[o]?≠some (some (f,v)):=fun e=>(h.ok.lt o f v e).2 (by rw[h.pv];exact List.mem_append_right _ hf)
theorem FI.blk(h:FI b P0 g t L tv LO)(B:dS):FI b P0 (g.blk B) t L tv LO:=h.to (h.ok.blk B) (GR h.ok h.bl B) rfl fun _ hf=>aG (h.lo_lt hf)
def Gh.obj(g:Gh)(x:DB)(B:dS):Gh:=⟨g.O++[some (g.s.next,0)],g.H++[x],g.Pv,g.s.alloc B⟩
theorem Qx(hl:g.O.length=g.H.length)(x:DB)(B:dS){f:Nat}(h:g.Imm f):(g.obj x B).Imm f:=by
 refine⟨by show f<(g.s.alloc B).next;rw[S.next_alloc];have:=h.1;omega,h.2.1,fun o v ho=>?_⟩
 rcases bt ho with ho|⟨_,e⟩
 ·obtain⟨sz,cap,l,h1⟩:=h.2.2 o v ho
  exact⟨sz,cap,l,ei _ h1⟩
 ·simp only[Option.some.injEq,Prod.mk.injEq]at e
  have:=h.1;omega
theorem xk(hl:g.O.length=g.H.length)(x:DB)(B:dS):mP g (g.obj x B):=by
 refine⟨by simp[Gh.obj],fun _ _ v h=>⟨v,ei _ h⟩,fun o _ st cap l h=>.inr ⟨st,cap,l,ei _ h,Nat.le_refl _,id,fun _=>⟨rfl,?_⟩⟩,fun o _ s l h=>⟨s,l,ei _ h,Nat.le_refl _,fun _=>⟨rfl,?_⟩⟩,fun f h=>Qx hl x B h,fun a n vs hi hx=>?_,by show _<=(g.s.alloc B).next;rw[S.next_alloc];omega⟩
 ·have:o<g.H.length:=by
   grind
  show(g.O++_)[o]? = _
  grind
 ·have:o<g.H.length:=by
   grind
  show(g.O++_)[o]? = _
  grind
 ·rw[<- hx];exact cV (aG hi.1) n
theorem Ok.mkobj(h:Ok g){x:DB}{B:dS}(hx:jM (g.obj x B) g.H.length x):Ok (g.obj x B):=by
 refine⟨by simp[Gh.obj,h.len],qy h.wf B,fun o o' f v v' h1 h2=>?_,fun o f v ho=>?_,fun f hf=>?_,fun o c hc=>?_,h.gl.to fun f hf hp ho=>⟨aG hf,sj hf,hp,fun o v k=>?_⟩⟩
 ·rcases bt h1 with h1|⟨e1,e2⟩<;>rcases bt h2 with h2|⟨e3,e4⟩
  ·exact h.inj o o' f v v' h1 h2
  ·cases e4;have:=(h.lt o _ v h1).1;omega
  ·cases e2;have:=(h.lt o' _ v' h2).1;omega
  ·omega
 ·rcases bt ho with ho|⟨_,e⟩
  ·exact⟨by have:=(h.lt o f v ho).1;show f<(g.s.alloc B).next;rw[S.next_alloc];omega,(h.lt o f v ho).2⟩
  ·cases e
   exact⟨by show g.s.next<(g.s.alloc B).next;rw[S.next_alloc];omega,fun hp=>by have:=h.pv _ hp;omega⟩
 ·have:=h.pv f hf;show f<(g.s.alloc B).next;rw[S.next_alloc];omega
 ·rcases bt hc with hc|⟨e1,e2⟩
  ·have hlt:o<g.O.length:=by
    rw[h.len]
    grind
   exact(h.obj o c hc).keep (xk h.len x B) (by show(g.O++_)[o]? = _;rw[List.getElem?_append_left hlt]) fun f v ho=>aG (h.lt o f v ho).1
  grind
 ·rcases bt k with k|⟨_,e⟩
  ·exact ho o v k
  grind
theorem nD(h:Ok g)(hb:b<=g.s.next)(x:DB)(B:dS):Mv b g (g.obj x B):=by
 refine⟨xk h.len x B,fun f hf _=>aG (Nat.lt_of_lt_of_le hf hb),fun o f v ho hf=>?_,fun o s1 c1 f v h1 h2=>⟨s1,c1,ei _ h1,Nat.le_refl _,fun _=>⟨rfl,aG (h.lt o f v h2).1⟩⟩⟩
 rcases bt ho with ho|⟨_,e⟩
 ·grind
 grind
theorem FI.mkobj(h:FI b P0 g t L tv LO){x:DB}{B:dS}(hx:jM (g.obj x B) g.H.length x):FI b P0 (g.obj x B) t L tv LO :=
 h.to (h.ok.mkobj hx) (nD h.ok h.bl x B) rfl fun _ hf=>aG (h.lo_lt hf)
theorem mA(h:Ok g)(x:DB)(B:dS):(g.obj x B).O[g.H.length]? = some (some (g.s.next,0)):=by
 show(g.O++_)[_]? = _;rw[<- h.len];exact gy _ _
theorem re(x:DB)(B:dS):(g.obj x B).s.get g.s.next=some B:=gz _ _
def Gh.prv(g:Gh)(B:dS):Gh:=⟨g.O,g.H,g.Pv++[g.s.next],g.s.alloc B⟩
theorem GX(B:dS):mP g (g.prv B):=by
 refine⟨Nat.le_refl _,fun _ _ v h=>⟨v,h⟩,fun _ _ st cap l h=>.inr ⟨st,cap,l,h,Nat.le_refl _,id,fun _=>⟨rfl,rfl⟩⟩,fun _ _ s l h=>⟨s,l,h,Nat.le_refl _,fun _=>⟨rfl,rfl⟩⟩,fun f h=>⟨?_,fun hm=>?_,h.2.2⟩,fun a n vs hi hx=>?_,by show _<=(g.s.alloc B).next;rw[S.next_alloc];omega⟩
 ·show f<(g.s.alloc B).next;rw[S.next_alloc];have:=h.1;omega
 ·rcases List.mem_append.1 hm with hm|hm
  ·exact h.2.1 hm
  ·simp at hm;have:=h.1;omega
 ·rw[<- hx];exact cV (aG hi.1) n
theorem Ok.prv(h:Ok g)(B:dS):Ok (g.prv B):=by
 refine⟨h.len,qy h.wf B,h.inj,fun o f v ho=>⟨?_,fun hm=>?_⟩,fun f hf=>?_,fun o b hb=>(h.obj o b hb).keep (GX B) rfl fun f v ho=>aG (h.lt o f v ho).1,h.gl.to fun f hf hp ho=>⟨aG hf,sj hf,fun hm=>?_,ho⟩⟩
 ·have:=(h.lt o f v ho).1;show f<(g.s.alloc B).next;rw[S.next_alloc];omega
 ·rcases List.mem_append.1 hm with hm|hm
  ·exact(h.lt o f v ho).2 hm
  ·simp at hm;have:=(h.lt o f v ho).1;omega
 ·show f<(g.s.alloc B).next
  rw[S.next_alloc]
  rcases List.mem_append.1 hf with hf|hf
  ·have:=h.pv f hf;omega
  grind
 ·rcases List.mem_append.1 hm with hm|hm
  ·exact hp hm
  grind
theorem Tf(h:Ok g)(hb:b<=g.s.next)(B:dS):Mv b g (g.prv B):=⟨GX B,fun f hf _=>aG (Nat.lt_of_lt_of_le hf hb),fun _ _ v h _=>⟨v,h⟩,fun o s1 c1 f v h1 h2=>⟨s1,c1,h1,Nat.le_refl _,fun _=>⟨rfl,aG (h.lt o f v h2).1⟩⟩⟩
theorem FI.prv(h:FI b P0 g t L tv LO){el:TypeId}{cs:List D}{vs:List V}{st:Nat}(hr:RL g cs vs)(ho:aK vs) :
 FI b P0 (g.prv (.cells el false 1 [⟨0,0,vs⟩])) t (L++[(st,cs)]) tv (LO++[g.s.next]):=by
 have hle:=GX (g:=g) (.cells el false 1 [⟨0,0,vs⟩])
 have hlt:∀ f∈LO,f<g.s.next:=fun f hf=>h.lo_lt hf
 refine⟨h.ok.prv _,h.slots.mono hle (List.prefix_append _ _),⟨by simp[h.own.1],fun k x f hx hf=>?_⟩,by show g.Pv++_=_;rw[h.pv,List.append_assoc],fun f hf=>?_,?_,Nat.le_trans h.bl hle.next⟩
 ·rcases bt hx with hx|⟨e1,e2⟩
  ·rcases bt hf with hf|⟨e3,_⟩
   ·have hm:=List.mem_of_getElem? hf
    obtain⟨h1,h2⟩:=h.own.2 k x f hx hf
    refine⟨List.mem_append_left _ h1,?_⟩
    rcases h2 with h2|⟨el',vs',h2,h3,h4⟩
    ·exact .inl h2
    ·exact .inr ⟨el',vs',by show(g.s.alloc _).get f=_;rw[aG (hlt f hm)];exact h2,h3.mono hle,h4⟩
   ·subst e3
    rw[<- h.own.1,List.getElem?_eq_none (Nat.le_refl _)]at hx;cases hx
  ·subst e1;subst e2
   rw[h.own.1,gy]at hf
   cases hf
   exact⟨List.mem_append_right _ (by simp),.inr ⟨el,vs,gz _ _,hr.mono hle,ho⟩⟩
 ·rcases List.mem_append.1 hf with hf|hf
  ·exact h.low f hf
  ·simp at hf;subst hf;exact h.bl
 ·rw[List.nodup_append]
  exact⟨h.nd,by simp,fun x hx y hy e=>by simp at hy;subst hy;subst e;have:=hlt _ hx;omega⟩
def Gh.pput(g:Gh)(f:Nat)(B:dS):Gh:=⟨g.O,g.H,g.Pv,g.s.put f B⟩
theorem Cr{f:Nat}(hf:f∈g.Pv)(B:dS):mP g (g.pput f B):=by
 refine⟨Nat.le_refl _,fun _ _ v h=>⟨v,h⟩,fun _ _ st cap l h=>.inr ⟨st,cap,l,h,Nat.le_refl _,id,fun _=>⟨rfl,rfl⟩⟩,fun _ _ s l h=>⟨s,l,h,Nat.le_refl _,fun _=>⟨rfl,rfl⟩⟩,fun f' h=>⟨by show f'<(g.s.put f B).next;rw[S.next_put];exact h.1,h.2.1,h.2.2⟩,fun a n vs hi hx=>?_,by show _<=(g.s.put f B).next;rw[S.next_put];exact Nat.le_refl _⟩
 rw[<- hx]
 exact cV (by show(g.s.put f B).get _=_;rw[S.get_put,if_neg (fun e=>hi.2.1 (by rw[<- e];exact hf))]) n
theorem cA{s:S}{f f':Nat}{B:dS}(h:f≠f'):(s.put f B).get f'=s.get f':=by rw[S.get_put,if_neg h]
theorem dI{s:S}{f:Nat}{B:dS}:(s.put f B).get f=some B:=by rw[S.get_put,if_pos rfl]
theorem Ok.pput(h:Ok g){f:Nat}(hf:f∈g.Pv){B0:dS}(h0:g.s.get f=some B0)(B:dS):Ok (g.pput f B):=by
 refine⟨h.len,LM h.wf h0 B,h.inj,fun o f' v ho=>⟨by show f'<(g.s.put f B).next;rw[S.next_put];exact(h.lt o f' v ho).1,(h.lt o f' v ho).2⟩,fun f' hf'=>by show f'<(g.s.put f B).next;rw[S.next_put];exact h.pv f' hf',fun o b hb=>(h.obj o b hb).keep (Cr hf B) rfl fun f' v ho=>cA fun e=>(h.lt o f' v ho).2 (by rw[<- e];exact hf),h.gl.to fun f' h1 hp ho=>⟨cA fun e=>hp (by rw[<- e];exact hf),by show f'<(g.s.put f B).next;rw[S.next_put];exact h1,hp,ho⟩⟩
theorem PX(h:Ok g){f:Nat}(hf:f∈g.Pv)(hb:b<=f)(B:dS):Mv b g (g.pput f B):=⟨Cr hf B,fun f' hf' _=>cA (by omega),fun _ _ v h _=>⟨v,h⟩,fun o s1 c1 f' v h1 h2=>⟨s1,c1,h1,Nat.le_refl _,fun _=>⟨rfl,cA fun e=>(h.lt o f' v h2).2 (by rw[<- e];exact hf)⟩⟩⟩
theorem sY:∀ {l:List Nat} (_:l.Nodup) {i j x:Nat} (_:l[i]? = some x) (_:l[j]? = some x),i=j
 |[],_,i,_,_,h1,_=>by simp at h1
 |y::l,h,i,j,x,h1,h2=>by
  rw[List.nodup_cons]at h
  cases i with
  |zero=>cases j with
   |zero=>rfl
   |succ j =>
    simp only[List.getElem?_cons_zero,Option.some.injEq,List.getElem?_cons_succ]at h1 h2
    subst h1
    exact(h.1 (List.mem_of_getElem? h2)).elim
  |succ i=>cases j with
   |zero =>
    simp only[List.getElem?_cons_zero,Option.some.injEq,List.getElem?_cons_succ]at h1 h2
    subst h2
    exact(h.1 (List.mem_of_getElem? h1)).elim
   |succ j =>
    simp only[List.getElem?_cons_succ]at h1 h2
    rw[sY h.2 h1 h2]
theorem FI.pput(h:FI b P0 g t L tv LO){k f st:Nat}{el:TypeId}{cs:List D}{vs0 vs:List V}(hk:LO[k]? = some f)(h0:g.s.get f=some (.cells el false 1 [⟨0,0,vs0⟩]))(hr:RL g cs vs)(ho:aK vs) :
 FI b P0 (g.pput f (.cells el false 1 [⟨0,0,vs⟩])) t (L.set k (st,cs)) tv LO:=by
 have hm:=List.mem_of_getElem? hk
 have hp:f∈g.Pv:=by rw[h.pv];exact List.mem_append_right _ hm
 have hle:=Cr hp (.cells el false 1 [⟨0,0,vs⟩])
 refine⟨h.ok.pput hp h0 _,h.slots.mono hle List.prefix_rfl,⟨by rw[List.length_set];exact h.own.1,fun k' x f' hx hf'=>?_⟩,h.pv,h.low,h.nd,Nat.le_trans h.bl hle.next⟩
 have hm':=List.mem_of_getElem? hf'
 rw[List.getElem?_set]at hx
 split at hx
 ·rename_i e
  subst e
  rw[hk]at hf'
  cases hf'
  split at hx
  ·cases hx
   exact⟨hp,.inr ⟨el,vs,dI,hr.mono hle,ho⟩⟩
  ·cases hx
 ·rename_i hne
  obtain⟨h1,h2⟩:=h.own.2 k' x f' hx hf'
  refine⟨h1,?_⟩
  rcases h2 with h2|⟨el',vs',h2,h3,h4⟩
  ·exact .inl h2
  ·exact .inr ⟨el',vs',by show(g.s.put f _).get f'=_;rw[cA (fun e=>hne (sY h.nd hk (by rw[e];exact hf')))];exact h2,h3.mono hle,h4⟩
end
end Go.AI
namespace Go.AI
variable[fE]
theorem dY{α:Type}{l:List α}{i j:Nat}{x y:α}(h:(l.set i x)[j]? = some y):(i=j/\y=x)\/(i≠j/\l[j]? = some y):=by
 grind
theorem aZ{α:Type}{l:List α}{i:Nat}{x y:α}(h:l[i]? = some y):(l.set i x)[i]? = some x:=by
 grind
theorem cU{α:Type}{l:List α}{i j:Nat}{x:α}(h:i≠j):(l.set i x)[j]? = l[j]?:=by rw[List.getElem?_set,if_neg h]
def WJ(ver ver':Nat)(x0 x:DB):Prop:=(∀ sz st cap l,x0=.buf sz st cap l->(st=true/\∃ z s l',x=.tbuf z s l')\/∃ st' cap' l',x=.buf sz st' cap' l'/\l.length<=l'.length/\(st=false->st'=false)/\(l.length=l'.length->cap'=cap/\ver'=ver)) /\
 ∀ sz s l,x0=.tbuf sz s l->∃ s' l',x=.tbuf sz s' l'/\s<s'
section
variable{b:Nat}{P0:List Nat}{g:Gh}{t:T LD}{L:LS}{tv:T V}{LO:List Nat}{o f ver ver':Nat}{x0 x:DB}{B0 B:dS}
def Gh.oput(g:Gh)(o:Nat)(x:DB)(f ver':Nat)(B:dS):Gh:=⟨g.O.set o (some (f,ver')),g.H.set o x,g.Pv,g.s.put f B⟩
structure tW(g:Gh)(o:Nat)(x:DB)(f ver ver':Nat)(x0:DB)(B0 B:dS):Prop where
 ho:g.O[o]? = some (some (f,ver))
 hx0:g.H[o]? = some x0
 h0:g.s.get f=some B0
 hb:WJ ver ver' x0 x
 hi:∀ a n vs,g.Imm a.f->a.f=f->loadCells g.s a n=some vs->loadCells (g.s.put f B) a n=some vs
 hst:∀ s1 c1,x0=.cells s1 c1->∃ c2,x=.cells (s1+1) c2
theorem kg(h:Ok g)(c:tW g o x f ver ver' x0 B0 B):mP g (g.oput o x f ver' B):=by
 refine⟨by show _<=(g.H.set o x).length;rw[List.length_set];exact Nat.le_refl _,fun o' f' v h1=>?_,fun o' sz st cap l h1=>?_,fun o' sz s l h1=>?_,fun f' h1=>⟨by show f'<(g.s.put f B).next;rw[S.next_put];exact h1.1,h1.2.1,fun o' v h2=>?_⟩,fun a n vs hi hx=>?_,by show _<=(g.s.put f B).next;rw[S.next_put];exact Nat.le_refl _⟩
 ·by_cases e:o=o'
  ·subst e
   rw[c.ho]at h1;cases h1
   exact⟨ver',aZ c.ho⟩
  ·exact⟨v,by show(g.O.set o _)[o']? = _;rw[cU e];exact h1⟩
 ·by_cases e:o=o'
  ·subst e
   rw[c.hx0]at h1;cases h1
   rcases c.hb.1 sz st cap l rfl with⟨_,z,s,l',k1⟩|⟨st',cap',l',k1,k2,k3,k4⟩
   ·exact .inl ⟨z,s,l',by rw[<- k1];exact aZ c.hx0⟩
   refine .inr ⟨st',cap',l',by rw[<- k1];exact aZ c.hx0,k2,k3,fun e=>?_⟩
   obtain⟨k5,k6⟩:=k4 e
   exact⟨k5,by rw[c.ho,k6];exact aZ c.ho⟩
  ·exact .inr ⟨st,cap,l,by show(g.H.set o _)[o']? = _;rw[cU e];exact h1,Nat.le_refl _,id,fun _=>⟨rfl,by show(g.O.set o _)[o']? = _;rw[cU e]⟩⟩
 ·by_cases e:o=o'
  ·subst e
   rw[c.hx0]at h1;cases h1
   obtain⟨s',l',k1,k2⟩:=c.hb.2 sz s l rfl
   exact⟨s',l',by rw[<- k1];exact aZ c.hx0,by omega,fun e=>by omega⟩
  ·exact⟨s,l,by show(g.H.set o _)[o']? = _;rw[cU e];exact h1,Nat.le_refl _,fun _=>⟨rfl,by show(g.O.set o _)[o']? = _;rw[cU e]⟩⟩
 ·rcases dY h2 with⟨e,e2⟩|⟨e,h2⟩
  ·subst e
   cases e2
   obtain⟨sz,cap,l,h3⟩:=h1.2.2 o ver c.ho
   rw[c.hx0]at h3;cases h3
   rcases c.hb.1 sz false cap l rfl with⟨k0,_⟩|⟨st',cap',l',k1,k2,k3,k4⟩
   ·cases k0
   rw[k3 rfl]at k1
   exact⟨sz,cap',l',by rw[<- k1];exact aZ c.hx0⟩
  ·obtain⟨sz,cap,l,h3⟩:=h1.2.2 o' v h2
   exact⟨sz,cap,l,by show(g.H.set o _)[o']? = _;rw[cU e];exact h3⟩
 ·by_cases e:a.f=f
  ·exact c.hi a n vs hi e hx
  ·rw[<- hx];exact cV (cA (Ne.symm e)) n
theorem Ok.oput(h:Ok g)(c:tW g o x f ver ver' x0 B0 B)(hx:jM (g.oput o x f ver' B) o x):Ok (g.oput o x f ver' B):=by
 refine⟨by simp[Gh.oput,h.len],LM h.wf c.h0 B,fun o1 o2 f' v v' h1 h2=>?_,fun o' f' v h1=>?_,fun f' hf'=>by show f'<(g.s.put f B).next;rw[S.next_put];exact h.pv f' hf',fun o' y hy=>?_,h.gl.to fun f' h1 hp ho=>⟨cA fun e=>ho o ver (by rw[<- e];exact c.ho),by show f'<(g.s.put f B).next;rw[S.next_put];exact h1,hp,fun o' v k=>?_⟩⟩
 rotate_right 1
 ·rcases dY k with⟨e,e2⟩|⟨e,k⟩
  ·cases e2;exact ho o ver c.ho
  grind
 ·rcases dY h1 with⟨e,e2⟩|⟨e,h1⟩<;>rcases dY h2 with⟨e3,e4⟩|⟨e3,h2⟩
  ·grind
  ·cases e2;rw[<- e];exact h.inj o o2 f ver v' c.ho h2
  ·cases e4;rw[<- e3];exact h.inj o1 o f v ver h1 c.ho
  ·exact h.inj o1 o2 f' v v' h1 h2
 ·rcases dY h1 with⟨e,e2⟩|⟨e,h1⟩
  ·cases e2
   exact⟨by show f<(g.s.put f B).next;rw[S.next_put];exact(h.lt o f ver c.ho).1,(h.lt o f ver c.ho).2⟩
  ·exact⟨by show f'<(g.s.put f B).next;rw[S.next_put];exact(h.lt o' f' v h1).1,(h.lt o' f' v h1).2⟩
 ·rcases dY hy with⟨e,e2⟩|⟨e,hy⟩
  ·grind
  ·exact(h.obj o' y hy).keep (kg h c) (by show(g.O.set o _)[o']? = _;rw[cU e]) fun f' v h1=>cA fun q=>e (h.inj o o' f ver v c.ho (by rw[q];exact h1))
theorem iQ(h:Ok g)(c:tW g o x f ver ver' x0 B0 B):Mv b g (g.oput o x f ver' B):=by
 refine⟨kg h c,fun f' _ hn=>cA fun e=>hn o ver (by rw[<- e];exact c.ho),fun o' f' v h1 _=>?_,fun o' s1 c1 f' v h1 h2=>?_⟩
 rcases dY h1 with⟨e,e2⟩|⟨e,h1⟩
 ·subst e;cases e2;exact⟨ver,c.ho⟩
 ·grind
 ·by_cases e:o=o'
  ·subst e
   rw[c.hx0]at h1
   obtain⟨c2,h3⟩:=c.hst s1 c1 (Option.some.inj h1)
   exact⟨s1+1,c2,by rw[<- h3];exact aZ c.hx0,Nat.le_succ _,fun q=>by omega⟩
  ·exact⟨s1,c1,by show(g.H.set o _)[o']? = _;rw[cU e];exact h1,Nat.le_refl _,fun _=>⟨rfl,cA fun q=>e (h.inj o o' f ver v c.ho (by rw[q];exact h2))⟩⟩
theorem FI.oput(h:FI b P0 g t L tv LO)(c:tW g o x f ver ver' x0 B0 B)(hx:jM (g.oput o x f ver' B) o x):FI b P0 (g.oput o x f ver' B) t L tv LO :=
 h.to (h.ok.oput c hx) (iQ h.ok c) rfl fun f' hf'=>cA fun e=>h.lo_out hf' o ver (by rw[<- e];exact c.ho)
def Gh.bnew(g:Gh)(o:Nat)(x:DB)(B:dS):Gh:=⟨g.O.set o (some (g.s.next,0)),g.H.set o x,g.Pv,g.s.alloc B⟩
theorem Cs(h:Ok g){sz:Nat}{st cap st' cap':Bool}{l:List (List D)}(hO:g.O[o]? = some none)(h0:g.H[o]? = some (.buf sz st cap []))(hx:x=.buf sz st' cap' l)(hs:st=false->st'=false)(hl:l≠[]):mP g (g.bnew o x B):=by
 refine⟨by show _<=(g.H.set o x).length;rw[List.length_set];exact Nat.le_refl _,fun o' f' v h1=>?_,fun o' sz' Mt cap1 l1 h1=>?_,fun o' sz' s1 l1 h1=>?_,fun f' h1=>⟨by show f'<(g.s.alloc B).next;rw[S.next_alloc];have:=h1.1;omega,h1.2.1,fun o' v h2=>?_⟩,fun a n vs hi hx=>?_,by show _<=(g.s.alloc B).next;rw[S.next_alloc];omega⟩
 ·have e:o≠o':=fun e=>by subst e;rw[hO]at h1;cases h1
  exact⟨v,by show(g.O.set o _)[o']? = _;rw[cU e];exact h1⟩
 ·by_cases e:o=o'
  ·subst e
   rw[h0]at h1;cases h1
   refine .inr ⟨st',cap',l,by rw[<- hx];exact aZ h0,by simp,hs,fun e=>?_⟩
   exact(hl (List.eq_nil_of_length_eq_zero (by simpa using e.symm))).elim
  ·exact .inr ⟨Mt,cap1,l1,by show(g.H.set o _)[o']? = _;rw[cU e];exact h1,Nat.le_refl _,id,fun _=>⟨rfl,by show(g.O.set o _)[o']? = _;rw[cU e]⟩⟩
 ·have e:o≠o':=fun e=>by subst e;rw[h0]at h1;cases h1
  exact⟨s1,l1,by show(g.H.set o _)[o']? = _;rw[cU e];exact h1,Nat.le_refl _,fun _=>⟨rfl,by show(g.O.set o _)[o']? = _;rw[cU e]⟩⟩
 ·rcases dY h2 with⟨e,e2⟩|⟨e,h2⟩
  ·simp only[Option.some.injEq,Prod.mk.injEq]at e2
   have:=h1.1;omega
  ·obtain⟨sz1,cap1,l1,h3⟩:=h1.2.2 o' v h2
   exact⟨sz1,cap1,l1,by show(g.H.set o _)[o']? = _;rw[cU (fun e=>by subst e;rw[hO]at h2;cases h2)];exact h3⟩
 ·rw[<- hx];exact cV (aG hi.1) n
theorem Ok.bnew(h:Ok g){sz:Nat}{st cap st' cap':Bool}{l:List (List D)}(hO:g.O[o]? = some none)(h0:g.H[o]? = some (.buf sz st cap []))(hx:x=.buf sz st' cap' l)(hs:st=false->st'=false)(hl:l≠[])(hr:jM (g.bnew o x B) o x):Ok (g.bnew o x B):=by
 refine⟨by simp[Gh.bnew,h.len],qy h.wf B,fun o1 o2 f' v v' h1 h2=>?_,fun o' f' v h1=>?_,fun f' hf'=>?_,fun o' y hy=>?_,h.gl.to fun f' h1 hp ho=>⟨aG h1,sj h1,hp,fun o' v k=>?_⟩⟩
 rotate_right 1
 ·rcases dY k with⟨e,e2⟩|⟨e,k⟩
  ·grind
  grind
 ·rcases dY h1 with⟨e,e2⟩|⟨e,h1⟩<;>rcases dY h2 with⟨e3,e4⟩|⟨e3,h2⟩
  ·grind
  ·cases e2;have:=(h.lt o2 _ v' h2).1;omega
  ·cases e4;have:=(h.lt o1 _ v h1).1;omega
  ·exact h.inj o1 o2 f' v v' h1 h2
 ·rcases dY h1 with⟨e,e2⟩|⟨e,h1⟩
  ·cases e2
   exact⟨by show g.s.next<(g.s.alloc B).next;rw[S.next_alloc];omega,fun hp=>by have:=h.pv _ hp;omega⟩
  ·exact⟨by have:=(h.lt o' f' v h1).1;show f'<(g.s.alloc B).next;rw[S.next_alloc];omega,(h.lt o' f' v h1).2⟩
 ·have:=h.pv f' hf';show f'<(g.s.alloc B).next;rw[S.next_alloc];omega
 ·rcases dY hy with⟨e,e2⟩|⟨e,hy⟩
  ·grind
  ·exact(h.obj o' y hy).keep (Cs h hO h0 hx hs hl) (by show(g.O.set o _)[o']? = _;rw[cU e]) fun f' v h1=>aG (h.lt o' f' v h1).1
theorem IY(h:Ok g)(hb:b<=g.s.next){sz:Nat}{st cap st' cap':Bool}{l:List (List D)}(hO:g.O[o]? = some none)(h0:g.H[o]? = some (.buf sz st cap []))(hx:x=.buf sz st' cap' l)(hs:st=false->st'=false)(hl:l≠[]):Mv b g (g.bnew o x B):=by
 refine⟨Cs h hO h0 hx hs hl,fun f hf _=>aG (Nat.lt_of_lt_of_le hf hb),fun o' f v ho hf=>?_,fun o' s1 c1 f v h1 h2=>?_⟩
 ·rcases dY ho with⟨_,e⟩|⟨_,ho⟩
  ·cases e;omega
  grind
 ·have e:o≠o':=fun e=>by subst e;rw[h0]at h1;cases h1
  exact⟨s1,c1,by show(g.H.set o _)[o']? = _;rw[cU e];exact h1,Nat.le_refl _,fun _=>⟨rfl,aG (h.lt o' f v h2).1⟩⟩
theorem FI.bnew(h:FI b P0 g t L tv LO){sz:Nat}{st cap st' cap':Bool}{l:List (List D)}(hO:g.O[o]? = some none)(h0:g.H[o]? = some (.buf sz st cap []))(hx:x=.buf sz st' cap' l)(hs:st=false->st'=false)(hl:l≠[])(hr:jM (g.bnew o x B) o x):FI b P0 (g.bnew o x B) t L tv LO :=
 h.to (h.ok.bnew hO h0 hx hs hl hr) (IY h.ok h.bl hO h0 hx hs hl) rfl fun _ hf=>aG (h.lo_lt hf)
def Gh.frz(g:Gh)(o sz:Nat)(cap:Bool)(l:List (List D)):Gh:=⟨g.O,g.H.set o (.buf sz false cap l),g.Pv,g.s⟩
theorem tg{sz:Nat}{st cap:Bool}{l:List (List D)}(h0:g.H[o]? = some (.buf sz st cap l)):mP g (g.frz o sz cap l):=by
 refine⟨by show _<=(g.H.set o _).length;rw[List.length_set];exact Nat.le_refl _,fun o' f' v h1=>⟨v,h1⟩,fun o' sz' Mt cap1 l1 h1=>?_,fun o' sz' s1 l1 h1=>⟨s1,l1,by show(g.H.set o _)[o']? = _;rw[cU (fun e=>by subst e;rw[h0]at h1;cases h1)];exact h1,Nat.le_refl _,fun _=>⟨rfl,rfl⟩⟩,fun f' h1=>⟨h1.1,h1.2.1,fun o' v h2=>?_⟩,fun a n vs hi hx=>hx,Nat.le_refl _⟩
 ·by_cases e:o=o'
  ·subst e
   rw[h0]at h1;cases h1
   exact .inr ⟨false,cap,l,aZ h0,Nat.le_refl _,fun _=>rfl,fun _=>⟨rfl,rfl⟩⟩
  ·exact .inr ⟨Mt,cap1,l1,by show(g.H.set o _)[o']? = _;rw[cU e];exact h1,Nat.le_refl _,id,fun _=>⟨rfl,rfl⟩⟩
 ·by_cases e:o=o'
  ·subst e;exact⟨sz,cap,l,aZ h0⟩
  ·obtain⟨sz1,cap1,l1,h3⟩:=h1.2.2 o' v h2
   exact⟨sz1,cap1,l1,by show(g.H.set o _)[o']? = _;rw[cU e];exact h3⟩
theorem Ok.frz(h:Ok g){sz:Nat}{st cap:Bool}{l:List (List D)}(h0:g.H[o]? = some (.buf sz st cap l)):Ok (g.frz o sz cap l):=by
 refine⟨by simp[Gh.frz,h.len],h.wf,h.inj,h.lt,h.pv,fun o' y hy=>?_,h.gl.to fun f h1 hp ho=>⟨rfl,h1,hp,ho⟩⟩
 rcases dY hy with⟨e,e2⟩|⟨e,hy⟩
 ·subst e;subst e2
  exact(h.obj o _ h0).keep (b:=.buf sz st cap l) (tg h0) rfl (fun _ _ _=>rfl)
 ·exact(h.obj o' y hy).keep (tg h0) rfl fun _ _ _=>rfl
theorem GQ{sz:Nat}{st cap:Bool}{l:List (List D)}(h0:g.H[o]? = some (.buf sz st cap l)):Mv b g (g.frz o sz cap l):=⟨tg h0,fun _ _ _=>rfl,fun _ _ v h _=>⟨v,h⟩,fun o' s1 c1 f v h1 _=>⟨s1,c1,by show(g.H.set o _)[o']? = _;rw[cU (fun e=>by subst e;rw[h0]at h1;cases h1)];exact h1,Nat.le_refl _,fun _=>⟨rfl,rfl⟩⟩⟩
def Gh.cut(g:Gh)(o sz s:Nat)(l:List (List D)):Gh:=⟨g.O,g.H.set o (.tbuf sz s l),g.Pv,g.s⟩
def Pc(sz s:Nat)(x:DB):Prop:=(∃ cap l,x=.buf sz true cap l)\/∃ s0 l,x=.tbuf sz s0 l/\s0<s
theorem GY{sz s:Nat}{l:List (List D)}(h0:g.H[o]? = some x)(hc:Pc sz s x):mP g (g.cut o sz s l):=by
 refine⟨by show _<=(g.H.set o _).length;rw[List.length_set];exact Nat.le_refl _,fun o' f' v h1=>⟨v,h1⟩,fun o' sz' Mt cap1 l1 h1=>?_,fun o' sz' s1 l1 h1=>?_,fun f' h1=>⟨h1.1,h1.2.1,fun o' v h2=>?_⟩,fun a n vs hi hx=>hx,Nat.le_refl _⟩
 ·by_cases e:o=o'
  ·subst e
   exact .inl ⟨sz,s,l,aZ h0⟩
  ·exact .inr ⟨Mt,cap1,l1,by show(g.H.set o _)[o']? = _;rw[cU e];exact h1,Nat.le_refl _,id,fun _=>⟨rfl,rfl⟩⟩
 ·by_cases e:o=o'
  ·subst e
   rw[h0]at h1;cases h1
   rcases hc with⟨_,_,k⟩|⟨_,_,k,k2⟩<;>cases k
   exact⟨s,l,aZ h0,by omega,fun e=>by omega⟩
  ·exact⟨s1,l1,by show(g.H.set o _)[o']? = _;rw[cU e];exact h1,Nat.le_refl _,fun _=>⟨rfl,rfl⟩⟩
 ·obtain⟨sz1,cap1,l1,h3⟩:=h1.2.2 o' v h2
  refine⟨sz1,cap1,l1,?_⟩
  show(g.H.set o _)[o']? = _
  rw[cU (fun e=>?_)];exact h3
  subst e
  rw[h0]at h3;cases h3
  rcases hc with⟨_,_,k⟩|⟨_,_,k,k2⟩<;>cases k
theorem Ok.cut(h:Ok g){sz s:Nat}{l:List (List D)}(h0:g.H[o]? = some x)(hc:Pc sz s x)(hr:jM (g.cut o sz s l) o (.tbuf sz s l)):Ok (g.cut o sz s l):=by
 refine⟨by simp[Gh.cut,h.len],h.wf,h.inj,h.lt,h.pv,fun o' y hy=>?_,h.gl.to fun f h1 hp ho=>⟨rfl,h1,hp,ho⟩⟩
 rcases dY hy with⟨e,e2⟩|⟨e,hy⟩
 ·subst e;subst e2
  exact hr
 ·exact(h.obj o' y hy).keep (GY h0 hc) rfl fun _ _ _=>rfl
theorem Nq{sz s:Nat}{l:List (List D)}(h0:g.H[o]? = some x)(hc:Pc sz s x):Mv b g (g.cut o sz s l):=⟨GY h0 hc,fun _ _ _=>rfl,fun _ _ v h _=>⟨v,h⟩,fun o' s1 c1 f v h1 _=>⟨s1,c1,by show(g.H.set o _)[o']? = _;rw[cU (fun e=>by subst e;rw[h0]at h1;cases h1;rcases hc with⟨_,_,k⟩|⟨_,_,k,_⟩<;>cases k)];exact h1,Nat.le_refl _,fun _=>⟨rfl,rfl⟩⟩⟩
theorem FI.cut(h:FI b P0 g t L tv LO){sz s:Nat}{l:List (List D)}(h0:g.H[o]? = some x)(hc:Pc sz s x)(hr:jM (g.cut o sz s l) o (.tbuf sz s l)):FI b P0 (g.cut o sz s l) t L tv LO :=
 h.to (h.ok.cut h0 hc hr) (Nq h0 hc) rfl fun _ _=>rfl
theorem FI.frz(h:FI b P0 g t L tv LO){sz:Nat}{st cap:Bool}{l:List (List D)}(h0:g.H[o]? = some (.buf sz st cap l)):FI b P0 (g.frz o sz cap l) t L tv LO :=
 h.to (h.ok.frz h0) (GQ h0) rfl fun _ _=>rfl
theorem CB(h:Ok g){sz:Nat}{st cap:Bool}{l:List (List D)}(h0:g.H[o]? = some (.buf sz st cap l)){n:Nat}(hn:n=l.length){v:V}(hv:Pd g sz o n v):RD (g.frz o sz cap l) (.row sz l) v:=by
 rcases hv with⟨⟨_,_,_,k1⟩,_⟩|⟨st',cap',l',k1,k2,k3⟩
 ·rw[h0]at k1;cases k1
 rw[h0]at k1;cases k1
 simp only[RD]
 rcases k3 with⟨e1,e2⟩|⟨e1,f,ver,ver2,c,e2,e3,e4⟩
 ·have hl:l=[]:=List.eq_nil_of_length_eq_zero (by omega)
  subst hl
  rcases e2 with rfl|⟨a,z,sz',rfl⟩
  ·exact .inl ⟨rfl,rfl⟩
  ·exact .inr (.inl ⟨rfl,a,z,sz',rfl⟩)
 ·obtain⟨e5,e6⟩:=e4 hn
  subst e5 e6
  obtain⟨i0,i1|⟨i1,f',ver',el,nv,vers,cells,i2,i3,i4,i5,i6,i7⟩⟩:=h.obj o _ h0
  ·rw[i1.1]at hn;simp at hn;omega
  ·rw[e2]at i2;cases i2
   subst e3 hn
   refine .inr (.inr ⟨⟨f,ver2,0⟩,0,HH cap l.length,rfl,i0,.inr rfl,fun c hc=>?_,fun _=>⟨(h.lt o f ver2 e2).1,(h.lt o f ver2 e2).2,fun o' v' ho'=>?_⟩,i7.keep (tg h0) rfl⟩)
   ·cases cap with
    |true=>cases hc;exact Nat.le_refl _
    |false=>cases hc
   ·rw[h.inj o' o f v' ver2 ho' e2]
    exact⟨sz,cap,l,aZ h0⟩
def Gh.acc(g:Gh)(sz:Nat)(cap:Bool):Gh:=⟨g.O++[none],g.H++[.buf sz true cap []],g.Pv,g.s⟩
theorem NC(h:Ok g)(sz:Nat)(cap:Bool):mP g (g.acc sz cap):=by
 refine⟨by simp[Gh.acc],fun _ _ v h=>⟨v,ei _ h⟩,fun o _ st cap l h1=>.inr ⟨st,cap,l,ei _ h1,Nat.le_refl _,id,fun _=>⟨rfl,?_⟩⟩,fun o _ s l h1=>⟨s,l,ei _ h1,Nat.le_refl _,fun _=>⟨rfl,?_⟩⟩,fun f h1=>⟨h1.1,h1.2.1,fun o v ho=>?_⟩,fun a n vs hi hx=>hx,Nat.le_refl _⟩
 ·have:o<g.H.length:=by
   grind
  show(g.O++_)[o]? = _
  rw[List.getElem?_append_left (by rw[h.len];exact this)]
 ·have:o<g.H.length:=by
   grind
  show(g.O++_)[o]? = _
  rw[List.getElem?_append_left (by rw[h.len];exact this)]
 ·rcases bt ho with ho|⟨_,e⟩
  ·obtain⟨sz,cap,l,h2⟩:=h1.2.2 o v ho
   exact⟨sz,cap,l,ei _ h2⟩
  ·cases e
theorem Ok.acc(h:Ok g){sz:Nat}(hs:0<sz)(cap:Bool):Ok (g.acc sz cap):=by
 refine⟨by simp[Gh.acc,h.len],h.wf,fun o o' f v v' h1 h2=>?_,fun o f v ho=>?_,h.pv,fun o c hc=>?_,h.gl.to fun f h1 hp ho=>⟨rfl,h1,hp,fun o v k=>?_⟩⟩
 rotate_right 1
 ·rcases bt k with k|⟨_,e⟩
  ·exact ho o v k
  ·cases e
 ·rcases bt h1 with h1|⟨e1,e2⟩<;>rcases bt h2 with h2|⟨e3,e4⟩
  ·exact h.inj o o' f v v' h1 h2
  ·cases e4
  ·cases e2
  ·cases e2
 ·rcases bt ho with ho|⟨_,e⟩
  ·exact h.lt o f v ho
  ·cases e
 ·rcases bt hc with hc|⟨e1,e2⟩
  ·have hlt:o<g.O.length:=by
    rw[h.len]
    grind
   exact(h.obj o c hc).keep (NC h sz cap) (by show(g.O++_)[o]? = _;rw[List.getElem?_append_left hlt]) fun _ _ _=>rfl
  ·subst e1;subst e2
   exact⟨hs,.inl ⟨rfl,by show(g.O++_)[_]? = _;rw[<- h.len];exact gy _ _⟩⟩
theorem GU(h:Ok g)(sz:Nat)(cap:Bool):Mv b g (g.acc sz cap):=by
 refine⟨NC h sz cap,fun _ _ _=>rfl,fun o f v ho _=>?_,fun o s1 c1 f v h1 _=>⟨s1,c1,ei _ h1,Nat.le_refl _,fun _=>⟨rfl,rfl⟩⟩⟩
 rcases bt ho with ho|⟨_,e⟩
 ·grind
 ·cases e
theorem FI.acc(h:FI b P0 g t L tv LO){sz:Nat}(hs:0<sz)(cap:Bool):FI b P0 (g.acc sz cap) t L tv LO:=h.to (h.ok.acc hs cap) (GU h.ok sz cap) rfl fun _ _=>rfl
end
end Go.AI
namespace Go.AI
variable[fE]
variable{g:Gh}{LO:List Nat}{t:T LD}{tv:T V}{P:Program}{out:iC}
theorem eX{v:V}{vs:List V}:aK (v::vs)↔v.one=true/\aK vs:=by unfold aK;simp
theorem Ed{a b:List V}(h:aK a)(hs:∀ v∈b,v∈a):aK b:=List.all_eq_true.2 fun v hv=>List.all_eq_true.1 h v (hs v hv)
theorem sV{vs:List V}(h:aK vs)(n:Nat):aK (vs.drop n):=Ed h fun _=>List.mem_of_mem_drop
theorem sU{vs:List V}(h:aK vs)(n:Nat):aK (vs.take n):=Ed h fun _=>List.mem_of_mem_take
theorem qZ{a b:List V}(h:aK a)(k:aK b):aK (a++b):=by unfold aK at *;rw[List.all_append,h,k];rfl
theorem CW:∀ {v:V} {d:D},QU v=some d->RD g d v/\v.one=true:=by
 intro v d h
 unfold QU at h
 split at h
 ·cases h;exact⟨by simp only[RD],rfl⟩
 ·cases h;exact⟨by simp only[RD],rfl⟩
 ·rename_i l
  cases hb:l.all (fun c=>Nat.blt c 256)with
  |false=>rw[hb]at h;cases h
  |true =>
   rw[hb]at h;cases h
   refine⟨?_,rfl⟩
   simp_all[RD,List.all_eq_true.1,Nat.le_of_ble_eq_true]
 ·cases h;exact⟨by simp only[RD],rfl⟩
 ·cases h;exact⟨by simp only[RD];exact .inl trivial,rfl⟩
 ·cases h;exact⟨by simp only[RD],rfl⟩
 ·rename_i fn a b
  split at h
  ·cases hb:(a.isEmpty&&b.isEmpty)with
   |false=>rw[hb]at h;cases h
   |true =>
    rw[hb]at h;cases h
    simp only[Bool.and_eq_true,List.isEmpty_iff]at hb
    obtain⟨rfl,rfl⟩:=hb
    exact⟨by simp only[RD];exact⟨[],[],rfl,by simp only[RL],by simp only[RL]⟩,rfl⟩
  ·cases h
 ·cases h;exact⟨by simp only[RD],rfl⟩
 ·cases h;exact⟨by simp only[RD],rfl⟩
 ·cases h
theorem CV:∀ {vs:List V} {ds:List D},yw vs=some ds->RL g ds vs/\aK vs
 |[],ds,h=>by cases h;exact⟨by simp only[RL],rfl⟩
 |v::r,ds,h=>by
  simp only[yw]at h
  split at h
  ·rename_i d hd
   split at h
   ·rename_i l hl
    cases h
    obtain⟨h1,h2⟩:=CW (g:=g) hd
    obtain⟨h3,h4⟩:=CV hl
    exact⟨by simp only[RL];exact⟨v,r,rfl,h1,h3⟩,eX.2 ⟨h2,h4⟩⟩
   ·cases h
  ·cases h
theorem Ol{v:V}{d:D}(h:Vc v=some d):RD g d v:=by
 unfold Vc at h
 grind [CV,RD,CW]
theorem RL.one1{d:D}{v:V}(h:RD g d v):RL g [d] [v]:=by simp only[RL];exact⟨v,[],rfl,h,rfl⟩
theorem rY{v:V}(h:v.one=true):v.cells=[v]:=by cases v<;>first|rfl|cases h
theorem KV{v:V}{d:D}(h:Vc v=some d):RL g d.cells v.cells/\aK v.cells:=by
 unfold Vc at h
 split at h
 ·split at h
  ·rename_i cs l hl
   cases h
   exact CV hl
  ·cases h
 ·rename_i hne
  obtain⟨h1,h2⟩:=CW (g:=g) h
  rw[rY h2]
  refine⟨?_,eX.2 ⟨h2,rfl⟩⟩
  have:d.cells=[d]:=by
   cases d<;>first|rfl|skip
   grind [RD]
  grind [RL.one1]
theorem gP{ty:TypeId}{d:D}(h:pc P ty=some d):∃ z,zero P ty=some z/\RD g d z/\RL g d.cells z.cells/\aK z.cells:=by
 grind [pc,Ol,KV]
def uO(g:Gh)(LO:List Nat)(t:T LD)(tv:T V)(x:Operand):Prop:=∀ y,gI t x=some y->∃ v,eval tv x=some v/\RS g LO y v
theorem zN.op(h:zN g LO t tv)(x:Operand):uO g LO t tv x:=by
 intro y hy
 cases x with
 |tmp i=>exact h i y hy
 |const c =>
  simp only[gI]at hy
  split at hy
  ·rename_i v hv
   split at hy
   ·rename_i d hd;cases hy;exact⟨v,hv,Ol hd⟩
   ·cases hy
  ·cases hy
 |global _=>cases hy
 |func f=>cases hy;exact⟨_,rfl,by show RD _ _ _;simp only[RD];exact⟨[],[],rfl,by simp only[RL],by simp only[RL]⟩⟩
theorem bq{x:Operand}{κ:D->ah}(h:gD (gI t x) κ=some out)(hr:uO g LO t tv x):∃ d v,κ d=some out/\gI t x=some (.g d)/\eval tv x=some v/\RD g d v:=by
 unfold gD at h
 split at h
 ·rename_i d hd
  obtain⟨v,h1,h2⟩:=hr _ hd
  exact⟨d,v,h,hd,h1,h2⟩
 ·cases h
theorem jq{x:Operand}{κ:LD->ah}(h:lD (gI t x) κ=some out)(hr:uO g LO t tv x):∃ d v,κ d=some out/\gI t x=some d/\eval tv x=some v/\RS g LO d v:=by
 unfold lD at h
 split at h
 ·rename_i d hd
  obtain⟨v,h1,h2⟩:=hr _ hd
  grind
 ·cases h
theorem jx:∀ {l:List Operand} {κ:List D->ah},EV t l κ=some out->(∀ x∈l,uO g LO t tv x)->∃ ds vs,κ ds=some out/\gK tv l=some vs/\RL g ds vs
 |[],κ,h,_=>⟨[],[],h,rfl,by simp only[RL]⟩
 |x::r,κ,h,hr=>by
  simp only[EV]at h
  obtain⟨d,v,h1,_,h2,h3⟩:=bq h (hr x List.mem_cons_self)
  obtain⟨ds,vs,k1,k2,k3⟩:=jx h1 fun y hy=>hr y (List.mem_cons_of_mem _ hy)
  grind [only,gK,RL]
theorem cT{b:Bool}{κ:ah}(h:boK b κ=some out):b=true/\κ=some out:=by
 cases b with
 |false=>cases h
 |true=>exact⟨rfl,h⟩
theorem aE{b:Bool}{κ:ah}(h:cond b κ none=some out):b=true/\κ=some out:=by
 grind
theorem iY{cs:List D}{c:Nat}{κ:D->ah}(h:aA cs c κ=some out):∃ d,cs[c]? = some d/\κ d=some out:=by
 grind [aA]
theorem gQ:∀ {n:Nat} {cs:List D} {c:Nat} {κ:List D->ah},zY n cs c κ=some out->κ ((cs.drop c).take n)=some out/\(n=0\/c+n<=cs.length)
 |0,cs,c,κ,h=>⟨by simp only[zY]at h;simpa using h,.inl rfl⟩
 |n+1,cs,c,κ,h=>by
  simp only[zY]at h
  obtain⟨d,h1,h2⟩:=iY h
  have hc:c<cs.length:=by
   rcases Nat.lt_or_ge c cs.length with q|q
   ·exact q
   ·rw[List.getElem?_eq_none q]at h1;cases h1
  obtain⟨h3,h4⟩:=gQ h2
  refine⟨?_,.inr (by omega)⟩
  rw[List.drop_eq_getElem_cons hc,List.take_succ_cons]
  rw[List.getElem?_eq_getElem hc]at h1
  cases h1
  exact h3
theorem lw:∀ {l:List V} {n:Nat},n<=l.length->aU n l=some (l.take n)
 |l,0,_=>rfl
 |[],n+1,h=>by simp at h
 |x::l,n+1,h=>by simp only[aU,lw (l:=l) (n:=n) (by simpa using h),Option.map,List.take_succ_cons]
theorem il{s:S}{a:Ad}{N:Nat}{vs:List V}(h:loadCells s a N=some vs){c n:Nat}(hc:c+n<=N):loadCells s (bN a c) n=some ((vs.drop c).take n):=by
 have key:∀(u:mK),(bif Nat.ble u.lo a.c then aU N (u.cells.drop (a.c - u.lo))else none)=some vs->(bif Nat.ble u.lo (a.c+c)then aU n (u.cells.drop (a.c+c - u.lo))else none)=some ((vs.drop c).take n):=fun u hu=>by
  cases hb:Nat.ble u.lo a.c with
  |false=>rw[hb]at hu;cases hu
  |true =>
   rw[hb]at hu
   have hle:=Nat.le_of_ble_eq_true hb
   grind [ed,Nat.ble,Nat.ble_eq_true_of_le,List.length_drop,lw,List.drop_take,List.drop_drop,Nat.min_eq_left]
 unfold loadCells at h ⊢
 simp only[bN]
 split at h
 ·split at h
  ·grind
  ·cases h
 ·split at h
  ·grind
  ·cases h
 ·cases h
theorem rx{s:S}{a:Ad}{N:Nat}{vs:List V}(h:loadCells s a N=some vs){c:Nat}{v:V}(hc:vs[c]? = some v):nH s (bN a c)=some v:=by
 have key:∀(u:mK),(bif Nat.ble u.lo a.c then aU N (u.cells.drop (a.c - u.lo))else none)=some vs->(bif Nat.ble u.lo (a.c+c)then u.cells[a.c+c - u.lo]? else none)=some v:=fun u hu=>by
  cases hb:Nat.ble u.lo a.c with
  |false=>rw[hb]at hu;cases hu
  |true =>
   rw[hb]at hu
   have hle:=Nat.le_of_ble_eq_true hb
   obtain⟨rfl,h2⟩:=ed hu
   rw[show Nat.ble u.lo (a.c+c)=true from Nat.ble_eq_true_of_le (by omega)]
   simp only[cond_true]
   rw[List.getElem?_take]at hc
   split at hc
   ·rw[List.getElem?_drop]at hc
    rw[show a.c+c - u.lo=a.c - u.lo+c by omega];exact hc
   ·cases hc
 unfold loadCells at h
 unfold nH
 simp only[bN]
 split at h
 ·split at h
  ·rename_i u hu;exact key u h
  ·cases h
 ·split at h
  ·rename_i u hu;exact key u h
  ·cases h
 ·cases h
theorem zt{s:S}{a:Ad}{N:Nat}{vs:List V}(h:loadCells s a N=some vs):vs.length=N:=by
 have key:∀(u:mK),(bif Nat.ble u.lo a.c then aU N (u.cells.drop (a.c - u.lo))else none)=some vs->vs.length=N:=fun u hu=>by
  cases hb:Nat.ble u.lo a.c with
  |false=>rw[hb]at hu;cases hu
  |true =>
   rw[hb]at hu
   obtain⟨rfl,h2⟩:=ed hu
   grind
 grind [loadCells]
theorem jn{s:S}{ty:TypeId}{cs:List D}{c:Nat}{κ:D->ah}(h:ci P ty cs c κ=some out){a:Ad}{vs:List V}(hl:loadCells s a cs.length=some vs)(hr:RL g cs vs)(ho:aK vs) :
 ∃ d v,κ d=some out/\loadVar P s ty (bN a c)=some v/\RD g d v:=by
 unfold ci at h
 unfold loadVar
 split at h
 ·rename_i ha
  split at h
  ·rename_i n hn
   obtain⟨hn0,h⟩:=aE h
   obtain⟨h1,h2⟩:=gQ h
   have hn0:=Nat.le_of_ble_eq_true hn0
   refine⟨_,.agg ((vs.drop c).take n),h1,?_,?_⟩
   ·rw[ha,hn]
    simp only[Option.bind]
    rw[il hl (by omega)];rfl
   ·simp only[RD]
    exact⟨_,rfl,(hr.drop c).take n,sU (sV ho c) n⟩
  ·cases h
 ·rename_i ha
  obtain⟨d,h1,h2⟩:=iY h
  obtain⟨v,h3,h4⟩:=hr.at h1
  exact⟨d,v,h2,by rw[ha];exact rx hl h3,h4⟩
 ·cases h
end Go.AI
namespace Go.AI
theorem qE:∀ {p q:List Nat},(∀ z∈p,z<256)->(∀ z∈q,z<256)->kK p q=some (decide (p=q))
 |[],[],_,_=>rfl
 |[],_::_,_,_=>rfl
 |_::_,[],_,_=>rfl
 |x::p,y::q,hp,hq=>by
  have ih:=qE (p:=p) (q:=q) (fun z hz=>hp z (List.mem_cons_of_mem _ hz)) (fun z hz=>hq z (List.mem_cons_of_mem _ hz))
  have hx:Nat.blt x 256=true:=Nat.ble_eq_true_of_le (hp x (by simp))
  have hy:Nat.blt y 256=true:=Nat.ble_eq_true_of_le (hq y (by simp))
  grind [kK,Nat.eq_of_beq_eq_true,List.cons.injEq,Nat.beq_refl,Bool.and_self]
variable[fE]
variable{g:Gh}{LO:List Nat}{t:T LD}{tv:T V}{P:Program}{out:iC}
theorem QW{x:LD}{κ:LD->ah}(h:QX x κ=some out){v:V}(r:RS g LO x v):κ x=some out/\mh (some v)=some v:=by
 unfold QX eR at h
 split at h
 ·obtain⟨f,h1,rfl⟩:=r;exact⟨h,rfl⟩
 ·rename_i d
  have r:RD g d v:=r
  split at h
  ·simp only[RD]at r;obtain⟨f,ver,h1,rfl⟩:=r;exact⟨h,rfl⟩
  ·simp only[RD]at r;obtain⟨a,vs,rfl,_⟩:=r;exact⟨h,rfl⟩
  ·simp only[RD]at r;rcases r with⟨_,a,rfl⟩|⟨f,ver,sz,st,cap,l,ver',_,_,_,_,rfl,_⟩<;>exact⟨h,rfl⟩
  ·simp only[RD]at r;obtain⟨f,ver,sz,s',l,ver',_,_,_,rfl,_⟩:=r;exact⟨h,rfl⟩
  ·simp only[RD]at r;obtain⟨a',b',rfl,_⟩:=r;exact⟨h,rfl⟩
  ·simp only[RD]at r;obtain⟨f,ver,_,rfl⟩:=r;exact⟨h,rfl⟩
  ·cases h
 ·cases h
theorem Jo{x:LD}{off:Nat}{κ:LD->ah}(h:NZ x off κ=some out){v:V}(r:RS g LO x v):∃ x' a,κ x'=some out/\v=.ptr a/\RS g LO x' (.ptr (bN a off)):=by
 unfold NZ dz at h
 split at h
 ·obtain⟨f,h1,rfl⟩:=r;exact⟨_,_,h,rfl,f,h1,rfl⟩
 ·rename_i d
  have r:RD g d v:=r
  split at h
  ·simp only[RD]at r
   obtain⟨f,ver,h1,rfl⟩:=r
   exact⟨_,_,h,rfl,by show RD _ _ _;simp only[RD];exact⟨f,ver,h1,rfl⟩⟩
  ·simp only[RD]at r
   obtain⟨a,vs,rfl,h1⟩:=r
   exact⟨_,_,h,rfl,by show RD _ _ _;simp only[RD];exact⟨a,vs,by rw[yU],h1⟩⟩
  ·simp only[RD]at r
   rcases r with⟨k1,a,rfl⟩|⟨f,ver,sz,st,cap,l,ver',h1,h2,h3,h4,rfl,h5⟩
   ·exact⟨_,_,h,rfl,by show RD _ _ _;simp only[RD];exact .inl ⟨k1,_,rfl⟩⟩
   exact⟨_,_,h,rfl,by show RD _ _ _;simp only[RD];exact .inr ⟨f,ver,sz,st,cap,l,ver',h1,h2,h3,h4,by simp only[bN,Nat.add_assoc],h5⟩⟩
  ·simp only[RD]at r
   obtain⟨f,ver,sz,s',l,ver',h1,h2,h3,rfl,h5⟩:=r
   exact⟨_,_,h,rfl,by show RD _ _ _;simp only[RD];exact⟨f,ver,sz,s',l,ver',h1,h2,h3,by simp only[bN,Nat.add_assoc],h5⟩⟩
  ·cases h
 ·cases h
theorem KN{ty:TypeId}{x:LD}{f:Nat}{κ:LD->ah}(h:xL P ty x f κ=some out){v:V}(r:RS g LO x v):∃ x' v',κ x'=some out/\ix P ty (some v) f=some v'/\RS g LO x' v':=by
 unfold xL at h
 dsimp only at h
 split at h
 ·split at h
  ·split at h
   ·cases h
   ·grind [Jo,only,ix]
  ·cases h
 ·cases h
theorem qX{ty:TypeId}{cs:List D}{c:Nat}{κ:D->ah}(h:ci P ty cs c κ=some out){vs:List V}(hr:RL g cs vs)(ho:aK vs) :
 ∃ d v,κ d=some out/\ue P ty vs c=some v/\RD g d v:=by
 unfold ci at h
 unfold ue
 split at h
 ·rename_i ha
  split at h
  ·rename_i n hn
   obtain⟨hn0,h⟩:=aE h
   obtain⟨h1,h2⟩:=gQ h
   refine⟨_,.agg ((vs.drop c).take n),h1,by rw[ha,hn];rfl,?_⟩
   simp only[RD]
   exact⟨_,rfl,(hr.drop c).take n,sU (sV ho c) n⟩
  ·cases h
 ·rename_i ha
  obtain⟨d,h1,h2⟩:=iY h
  obtain⟨v,h3,h4⟩:=hr.at h1
  exact⟨d,v,h2,by rw[ha];exact h3,h4⟩
 ·cases h
theorem KM{ty:TypeId}{x:D}{f:Nat}{κ:D->ah}(h:xK P ty x f κ=some out){v:V}(r:RD g x v):∃ d v',κ d=some out/\rS P ty (some v) f=some v'/\RD g d v':=by
 unfold xK at h
 split at h
 ·rename_i fs hu
  split at h
  ·rename_i fd hf
   split at h
   ·simp only[RD]at r
    obtain⟨vs,rfl,h1,h2⟩:=r
    obtain⟨d,v',k1,k2,k3⟩:=qX h h1 h2
    grind [only,rS]
   ·cases h
  ·cases h
 ·cases h
theorem ik{n:Int}{κ:Nat->ah}(h:cY n κ=some out):∃ m:Nat,n=(m:Int)/\κ m=some out:=by
 unfold cY at h
 split at h
 ·grind
 ·cases h
theorem PG{sz:Nat}{l:List (List D)}{v:V}(r:RD g (.row sz l) v){i:Nat}{cs:List D}(hi:l[i]? = some cs) :
 ∃ a z cap vs,v=.slice a z l.length cap sz/\i<l.length/\g.Imm a.f/\cs.length=sz/\loadCells g.s (bN a (i*sz)) sz=some vs/\RL g cs vs/\aK vs:=by
 have hlt:i<l.length:=by
  grind
 simp only[RD]at r
 rcases r with⟨rfl,_⟩|⟨rfl,_⟩|⟨a,z,cap,h1,_,_,_,h5,h6⟩
 ·simp at hi
 ·simp at hi
 ·obtain⟨vs,k1,k2,k3,k4⟩:=h6.at hi
  exact⟨a,z,cap,vs,h1,hlt,h5 (by intro e;rw[e]at hi;simp at hi),k1,k2,k3,k4⟩
theorem yJ{m n:Nat}(h:m<n):Nat.blt m n=true:=Nat.ble_eq_true_of_le h
theorem RA{ty:TypeId}{len el:Nat}(ha:OE P ty=some (len,el)){x:LD}{i:D}{κ:LD->ah}(h:OM P el len x i κ=some out){v w:V}(r:RS g LO x v)(ri:RD g i w):∃ x' v',κ x'=some out/\dq P ty (some v) (cL (some w))=some v'/\RS g LO x' v':=by
 have hu:P.underlying ty=some (.array len el):=by
  unfold OE at ha
  split at ha
  ·rename_i q;cases ha;exact q
  ·cases ha
 unfold OM at h
 split at h
 ·rename_i n hs
  split at h
  ·rename_i k m
   simp only[RD]at ri
   subst ri
   obtain⟨m,rfl,h⟩:=ik h
   obtain⟨hb,h⟩:=cT h
   obtain⟨x',a,h1,rfl,h2⟩:=Jo h r
   refine⟨x',_,h1,?_,h2⟩
   have e:cL (some (V.int k (m:Int)))=some m:=by simp[cL,jX]
   simp only[dq,e,hu,hs,hb,cond_true]
  ·cases h
 ·cases h
theorem KF{ty:TypeId}{x i:D}{κ:D->ah}(h:aq P ty x i κ=some out){v w:V}(r:RD g x v)(ri:RD g i w):∃ d v',κ d=some out/\dq P ty (some v) (cL (some w))=some v'/\RD g d v':=by
 unfold aq at h
 split at h
 ·rename_i el hu
  split at h
  ·rename_i sz hs
   split at h
   ·rename_i k n
    simp only[RD]at ri
    subst ri
    unfold mI at h
    split at h
    ·rename_i s l
     obtain⟨hb,h'⟩:=aE h
     clear h
     obtain rfl:=Nat.eq_of_beq_eq_true hb
     obtain⟨m,rfl,h⟩:=ik h'
     unfold dM at h
     split at h
     ·rename_i cs hc
      obtain⟨a,z,cap,vs,rfl,h2,h3,h4,h5,h6,h7⟩:=PG r hc
      grind [bN,only,cL,jX,dq,Nat.beq_refl,yJ,Bool.and_self,RD]
     ·cases h
    ·rename_i s o n
     obtain⟨hb,h'⟩:=aE h
     clear h
     obtain rfl:=Nat.eq_of_beq_eq_true hb
     obtain⟨m,rfl,h''⟩:=ik h'
     obtain⟨hb,h⟩:=cT h''
     have hm:m<n:=Nat.le_of_ble_eq_true hb
     simp only[RD]at r
     rcases r with⟨h1,⟨h3,_⟩|⟨a,z,c,rfl⟩⟩|⟨st,cap,l,h1,h2,⟨h3,_⟩|⟨h3,f,ver,ver',c,h4,rfl,h5⟩⟩
     ·omega
     ·refine⟨_,.ptr (bN a (m*s)),h,by simp only[cL,jX,dq,hu,hs,Nat.beq_refl,yJ hm,Bool.and_self,cond_true],?_⟩
      simp only[RD]
      exact .inl ⟨h1,_,rfl⟩
     ·omega
     refine⟨_,.ptr (bN ⟨f,ver',0⟩ (m*s)),h,by simp only[cL,jX,dq,hu,hs,Nat.beq_refl,yJ hm,Bool.and_self,cond_true],?_⟩
     simp only[RD]
     exact .inr ⟨f,ver,_,st,cap,l,ver',h4,h1,h2,hm,by simp only[bN,Nat.zero_add,Nat.add_zero],fun e=>(h5 e).1⟩
    ·rename_i s o st n
     obtain⟨hb,h'⟩:=aE h
     clear h
     obtain rfl:=Nat.eq_of_beq_eq_true hb
     obtain⟨m,rfl,h''⟩:=ik h'
     obtain⟨hb,h⟩:=cT h''
     have hm:m<n:=Nat.le_of_ble_eq_true hb
     simp only[RD]at r
     obtain⟨f,ver,s',l,ver',h1,h2,h3,rfl,h5⟩:=r
     refine⟨_,.ptr (bN ⟨f,ver',0⟩ (m*s)),h,by simp only[cL,jX,dq,hu,hs,Nat.beq_refl,yJ hm,Bool.and_self,cond_true],?_⟩
     simp only[RD]
     exact⟨f,ver,_,s',l,ver',h1,h2,h3,by simp only[bN,Nat.zero_add,Nat.add_zero],fun e=>⟨by have:=(h5 e).1;omega,(h5 e).2⟩⟩
    ·cases h
   ·cases h
  ·cases h
 ·cases h
theorem KE{ty:TypeId}{x i:D}{κ:D->ah}(h:js P ty x i κ=some out){v w:V}(r:RD g x v)(ri:RD g i w):∃ d v',κ d=some out/\oP P ty (some v) (cL (some w))=some v'/\RD g d v':=by
 unfold js at h
 split at h
 ·rename_i hu
  split at h
  ·rename_i l
   split at h
   ·grind [RD,ik,eI,oi,only,cL,jX,oP]
   ·cases h
  ·cases h
 ·rename_i len el hu
  split at h
  ·rename_i cs
   split at h
   ·rename_i sz hs
    split at h
    ·rename_i k n
     simp only[RD]at r ri
     obtain⟨vs,rfl,h1,h2⟩:=r
     subst ri
     obtain⟨m,rfl,h'⟩:=ik h
     obtain⟨hl,h3⟩:=aE h'
     grind [qX,only,cL,jX,oP]
    ·cases h
   ·cases h
  ·cases h
 ·cases h
theorem HO{ty:TypeId}{x:D}{ok:Bool}{κ:D->ah}(h:mq P x ty ok κ=some out){v:V}(r:RD g x v):∃ d v',κ d=some out/\kZ P (some v) ty ok=some v'/\RD g d v':=by
 have fail:∀ {κ:D->ah},(bif ok then(match pc P ty with|some z=>κ (.tuple [z,.bool false])|none=>none)else none)=some out->∃ d v',κ d=some out/\fj P ty ok=some v'/\RD g d v':=fun {κ} h=>by
  obtain⟨hk,h⟩:=aE h
  split at h
  ·rename_i z hz
   obtain⟨zv,h1,h2,_⟩:=gP (g:=g) hz
   grind [fj,RD,RL]
  ·cases h
 unfold mq at h
 split at h
 ·cases h
 ·rename_i td hni hu
  have hda:∀ w,kZ P (some w) ty ok=match some w with
   |some .nilIface=>fj P ty ok
   |some (.iface t v)=>bif Nat.beq t ty then some (bif ok then .tuple [v,.bool true] else v)else fj P ty ok
   |_=>none:=fun w=>by
    grind [kZ]
  split at h
  ·simp only[RD]at r
   obtain⟨v',rfl,h1⟩:=r
   rename_i t d
   rw[hda]
   simp only
   cases hb:Nat.beq t ty with
   |true =>
    grind [RD,RL]
   |false =>
    rw[hb]at h
    exact fail h
  ·simp only[RD]at r
   subst r
   rw[hda]
   exact fail h
  ·cases h
 ·cases h
theorem QL{x:D}{i:Nat}{κ:D->ah}(h:gY x i κ=some out){v:V}(r:RD g x v):∃ d v',κ d=some out/\oQ (some v) i=some v'/\RD g d v':=by
 unfold gY at h
 split at h
 ·simp only[RD]at r
  obtain⟨vs,rfl,h1⟩:=r
  obtain⟨d,h2,h3⟩:=iY h
  obtain⟨v',h4,h5⟩:=h1.at h2
  exact⟨d,v',h3,h4,h5⟩
 ·cases h
theorem Sl{op:UnOp}{x:D}{κ:D->ah}(h:sF op x κ=some out){v:V}(r:RD g x v):∃ d v',κ d=some out/\LV op v=some v'/\RD g d v':=by
 unfold sF at h
 split at h
 ·split at h
  ·simp only[RD]at r;subst r;exact⟨_,_,h,rfl,by simp only[RD]⟩
  ·cases h
 ·split at h
  ·simp only[RD]at r;subst r;exact⟨_,_,h,rfl,by simp only[RD]⟩
  ·cases h
 ·cases h
theorem Ot{src dst:TypeId}{x:D}{κ:D->ah}(h:pD P src dst x κ=some out){v:V}(r:RD g x v)(s:S):∃ d v',κ d=some out/\jB P s src dst v=some (v',s)/\RD g d v':=by
 have hb:∀(n:Int) (w:Nat),w∈(Utf8.encode n).data.toList.map UInt8.toNat->w<256:=fun n w h=>by
  obtain⟨x,_,rfl⟩:=List.mem_map.1 h
  exact x.toNat_lt
 unfold pD at h
 grind [Option.isNone_some,RD,only,jB,bO,zW]
theorem Qv{op:BinOp}{k:IntKind}{a b:Int}{κ:D->ah}(h:TF op k a b κ=some out):∃ d v',κ d=some out/\AL op k a b=some v'/\RD g d v':=by
 have hz:∀ {κ:ah},boK (!(b==0)) κ=some out->(b==0)=false/\κ=some out:=fun h=>by
  grind [cT]
 cases op
 case add=>exact⟨_,_,h,congrArg some (bO _ _),by simp only[RD]⟩
 case sub=>exact⟨_,_,h,congrArg some (bO _ _),by simp only[RD]⟩
 case mul=>exact⟨_,_,h,congrArg some (bO _ _),by simp only[RD]⟩
 case quo=>obtain⟨h1,h2⟩:=hz h;exact⟨_,.int k (k.wrap (a.tdiv b)),h2,by simp only[AL,h1,cond_false],by simp only[RD]⟩
 case rem=>obtain⟨h1,h2⟩:=hz h;exact⟨_,.int k (a.tmod b),h2,by simp only[AL,h1,cond_false],by simp only[RD]⟩
 all_goals first|(cases h;done)|exact⟨_,_,h,rfl,by simp only[RD]⟩
theorem Pr{op:BinOp}{a b:List Nat}{κ:D->ah}(h:Sy op a b κ=some out)(ha:∀ c∈a,c<256)(hb:∀ c∈b,c<256):∃ d v',κ d=some out/\vY op a b=some v'/\RD g d v':=by
 have he:kK a b=some (a==b):=by rw[qE ha hb];congr 1;rw[Bool.eq_iff_iff];simp
 cases op
 case add =>
  obtain⟨hq,h⟩:=cT h
  refine⟨_,.str (a++b),h,by simp only[vY,hq,cond_true],?_⟩
  simp only[RD]
  refine⟨trivial,fun c hc=>?_⟩
  rcases List.mem_append.1 hc with hc|hc
  ·exact ha c hc
  ·exact hb c hc
 case eql=>exact⟨_,.bool (a==b),h,by simp only[vY,he,Option.map],by simp only[RD]⟩
 case neq=>exact⟨_,.bool (!(a==b)),h,by simp only[vY,he,Option.map],by simp only[RD]⟩
 all_goals first|(cases h;done)|exact⟨_,_,h,rfl,by simp only[RD]⟩
theorem EX{eq:TypeId->D->D->(Bool->ah)->ah}{eqv:TypeId->V->V->Option Bool}(he:∀ ty x y (κ:Bool->ah) (v w:V),eq ty x y κ=some out->RD g x v->RD g y w->∃ q,κ q=some out/\eqv ty v w=some q) :
 ∀ {fs:List Field} {xs ys:List D} {q:Bool} {κ:Bool->ah} {vs ws:List V},Og P eq fs xs ys q κ=some out->RL g xs vs->aK vs->RL g ys ws->aK ws->∃ p,κ (q&&p)=some out/\(jf P eqv fs vs ws=some p)
 |[],xs,ys,q,κ,vs,ws,h,_,_,_,_=>⟨true,by rw[Bool.and_true];exact h,rfl⟩
 |f::r,xs,ys,q,κ,vs,ws,h,h1,h2,h3,h4=>by
  simp only[Og]at h
  cases hn:(f.name == "_")with
  |true=>rw[hn]at h;cases h
  |false =>
   rw[hn]at h
   simp only[cond_false]at h
   obtain⟨a,va,k1,k2,k3⟩:=qX h h1 h2
   obtain⟨b,vb,j1,j2,j3⟩:=qX k1 h3 h4
   obtain⟨p,i1,i2⟩:=he _ _ _ _ _ _ j1 k3 j3
   obtain⟨p',i3,i4⟩:=EX he i1 h1 h2 h3 h4
   grind [Bool.and_assoc,jf]
theorem CM(okf:Ad->Bool):∀ {d:Nat} {ty:TypeId} {x y:D} {κ:Bool->ah} {v w:V},KP P d ty x y κ=some out->RD g x v->RD g y w->∃ q,κ q=some out/\cw P okf d ty v w=some q
 |0,_,_,_,_,_,_,h,_,_=>by cases h
 |d+1,ty,x,y,κ,v,w,h,r1,r2=>by
  simp only[KP]at h
  unfold cw
  split at h
  ·rename_i fs hu
   split at h
   ·simp only[RD]at r1 r2
    obtain⟨vs,rfl,h1,h2⟩:=r1
    obtain⟨ws,rfl,h3,h4⟩:=r2
    cases hs:P.stoodInHeld ty with
    |true=>rw[hs]at h;cases h
    |false =>
     rw[hs]at h
     simp only[cond_false]at h
     obtain⟨p,k1,k2⟩:=EX (eqv:=cw P okf d) (fun ty x y κ v w a b c=>CM okf (d:=d) a b c) h h1 h2 h3 h4
     grind
   ·cases h
  ·grind [RD]
  ·grind [RD]
  ·rename_i hu
   split at h
   ·simp only[RD]at r1 r2;subst r1 r2
    grind
   ·cases h
  ·rename_i hu
   split at h
   ·simp only[RD]at r1 r2
    obtain⟨rfl,ha⟩:=r1
    obtain⟨rfl,hb⟩:=r2
    refine⟨_,h,?_⟩
    rw[hu]
    simp only
    rw[qE ha hb];congr 1;rw[Bool.eq_iff_iff];simp
   ·cases h
  ·grind [RD]
  ·grind [RD]
  ·cases h
def WV:V->Nat
 |.bool _=>0|.int ..=>1|.str _=>2|.ptr _=>3|.nilptr=>4|.slice ..=>5|.nilslice=>5|.map _=>6|.nilmap=>7|.func ..=>8|.nilFunc=>9|.iface ..=>10|.nilIface=>11|.agg _=>12|.tuple _=>13|.atom _=>14
def Oi:D->Nat
 |.bool _=>0|.int ..=>1|.str _=>2|.ptr ..=>3|.eptr ..=>3|.bptr ..=>3|.tptr ..=>3|.tb ..=>5|.nilptr=>4|.row ..=>5|.buf ..=>5|.nilrow=>5|.nilx=>5|.map _=>6|.nilmap=>7|.func ..=>8|.nilFunc=>9|.iface ..=>10|.nilIface=>11|.agg _=>12|.tuple _=>13|.yld _=>8|.abool=>0
theorem RD.tag{d:D}{v:V}(r:RD g d v):WV v=Oi d:=by
 cases d<;>simp only[RD]at r
 case bool=>subst r;rfl
 case int=>subst r;rfl
 case str=>obtain⟨rfl,_⟩:=r;rfl
 case ptr=>obtain⟨f,ver,_,rfl⟩:=r;rfl
 case eptr=>obtain⟨a,vs,rfl,_⟩:=r;rfl
 case bptr=>rcases r with⟨_,a,rfl⟩|⟨f,ver,sz,st,cap,l,ver',_,_,_,_,rfl,_⟩<;>rfl
 case tptr=>obtain⟨f,ver,sz,s',l,ver',_,_,_,rfl,_⟩:=r;rfl
 case tb=>obtain⟨f,ver,s',l,ver',_,_,_,rfl,_⟩:=r;rfl
 case nilptr=>subst r;rfl
 case row=>rcases r with⟨_,rfl⟩|⟨_,a,z,sz',rfl⟩|⟨a,z,cap,rfl,_⟩<;>rfl
 case buf=>rcases r with⟨_,⟨_,rfl|⟨a,z,sz',rfl⟩⟩|⟨a,z,c,rfl⟩⟩|⟨st,cap,l,_,_,⟨_,rfl|⟨a,z,sz',rfl⟩⟩|⟨_,f,ver,ver',c,_,rfl,_⟩⟩<;>rfl
 case nilrow=>rcases r with rfl|⟨a,z,sz',rfl⟩<;>rfl
 case nilx=>subst r;rfl
 case map=>obtain⟨f,ver,_,rfl⟩:=r;rfl
 case nilmap=>subst r;rfl
 case func=>obtain⟨a',b',rfl,_⟩:=r;rfl
 case nilFunc=>subst r;rfl
 case iface=>obtain⟨v',rfl,_⟩:=r;rfl
 case nilIface=>subst r;rfl
 case agg=>obtain⟨vs,rfl,_⟩:=r;rfl
 case tuple=>obtain⟨vs,rfl,_⟩:=r;rfl
 case yld=>obtain⟨f,ver,_,rfl⟩:=r;rfl
 case abool=>obtain⟨q,rfl⟩:=r;rfl
theorem uW{d:D}{j:IntKind}{n:Int}(r:RD g d (.int j n)):d=.int j n:=by
 have h:=r.tag
 cases d<;>first|(cases h;done)|skip
 grind [RD]
theorem uV{d:D}{l:List Nat}(r:RD g d (.str l)):d=.str l:=by
 have h:=r.tag
 cases d<;>first|(cases h;done)|skip
 grind [RD]
theorem Mh{d:D}(r:RD g d .nilIface):d=.nilIface:=by
 have h:=r.tag
 cases d<;>first|(cases h;done)|rfl
theorem Pp{d:D}{vs:List V}(r:RD g d (.agg vs)):∃ cs,d=.agg cs:=by
 have h:=r.tag
 cases d<;>first|(cases h;done)|exact⟨_,rfl⟩
theorem Dg{op:BinOp}{ty:TypeId}{x y:Operand}{a b:D}{κ:D->ah}(h:av P op ty (dG x||dG y) a b κ=some out){v w:V}(r1:RD g a v)(r2:RD g b w)(s:S):∃ d v',κ d=some out/\dX P s op ty x y (some v) (some w)=some v'/\RD g d v':=by
 have gen:∀ {κ:D->ah},eL P op ty x y v w=true->(op=.eql->eA P (br s) op ty v w=(cw P (br s) 20 ty v w).map .bool)->(op=.neq->eA P (br s) op ty v w=(cw P (br s) 20 ty v w).map fun b=>.bool (!b)) ->
  (op=.eql/\(KP P 20 ty a b fun q=>κ (.bool q))=some out\/op=.neq/\(KP P 20 ty a b fun q=>κ (.bool !q))=some out)->∃ d v',κ d=some out/\dX P s op ty x y (some v) (some w)=some v'/\RD g d v':=fun {κ} hg h1 h2 h=>by
  rcases h with⟨e,h⟩|⟨e,h⟩
  ·obtain⟨q,k1,k2⟩:=CM (br s) h r1 r2
   grind [only,dX,Option.map,RD]
  ·obtain⟨q,k1,k2⟩:=CM (br s) h r1 r2
   grind [only,dX,Option.map,RD]
 unfold av at h
 split at h
 ·rename_i j m k n
  simp only[RD]at r1 r2;subst r1 r2
  cases hs:oJ op with
  |true=>rw[hs]at h;cases h
  |false =>
   rw[hs]at h
   simp only[cond_false]at h
   obtain⟨hk,h⟩:=aE h
   obtain⟨d,v',h1,h2,h3⟩:=Qv h
   refine⟨d,v',h1,?_,h3⟩
   grind [eL,lU,dX,eA]
 ·simp only[RD]at r1 r2
  obtain⟨rfl,ha⟩:=r1
  obtain⟨rfl,hb⟩:=r2
  obtain⟨d,v',h1,h2,h3⟩:=Pr h ha hb
  refine⟨d,v',h1,?_,h3⟩
  grind [eL,lU,dX,eA]
 ·rename_i n1 n2
  obtain⟨hg,h⟩:=aE h
  have hh:op=.eql/\(KP P 20 ty a b fun q=>κ (.bool q))=some out\/op=.neq/\(KP P 20 ty a b fun q=>κ (.bool !q))=some out:=by
   grind
  refine gen ?_ (fun e=>?_) (fun e=>?_) hh
  ·unfold NR at hg
   unfold eL
   grind [Mh,Pp]
  ·subst e
   unfold eA
   split
   ·obtain rfl:=uW r1
    obtain rfl:=uW r2
    grind
   ·obtain rfl:=uV r1
    obtain rfl:=uV r2
    grind
   ·rfl
  ·subst e
   unfold eA
   split
   ·obtain rfl:=uW r1
    obtain rfl:=uW r2
    grind
   ·obtain rfl:=uV r1
    obtain rfl:=uV r2
    grind
   ·rfl
def dV(H:DH)(g:Gh):Prop:=∀(o:Nat) b,H[o]? = some b->b=.dead\/g.H[o]? = some b
theorem vf{H:DH}(hs:dV H g)(hok:Ok g){o:Nat}(h:IK H o=true):∃ st cs f,H[o]? = some (.cells st cs)/\g.O[o]? = some (some (f,0))/\∀(s':S) c,s'.get f=g.s.get f->br s' ⟨f,0,c⟩=true:=by
 unfold IK at h
 split at h
 ·rename_i st cs hc
  have hg:=(hs o _ hc).resolve_left (fun e=>by cases e)
  obtain⟨f,el,vs,h1,h2,_⟩:=hok.obj o _ hg
  refine⟨st,cs,f,hc,h1,fun s' c hq=>?_⟩
  simp only[br,hq,h2]
  rfl
 ·cases h
theorem IG(hok:Ok g){okf:Ad->Bool}{ty:TypeId}{td:TypeDesc}(hu:P.underlying ty=some td)(hd:zo P td=true){o1 o2 f1 f2 c1 c2:Nat}(h1:g.O[o1]? = some (some (f1,0)))(h2:g.O[o2]? = some (some (f2,0)))(k1:okf ⟨f1,0,c1⟩=true)(k2:okf ⟨f2,0,c2⟩=true) :
 cw P okf 20 ty (.ptr ⟨f1,0,c1⟩) (.ptr ⟨f2,0,c2⟩)=some (Nat.beq o1 o2&&Nat.beq c1 c2):=by
 unfold zo at hd
 split at hd
 ·rename_i e
  split at hd
  ·rename_i n hn
   have hz:Nat.beq n 0=false:=by simpa using hd
   unfold cw
   rw[hu]
   simp only[hn,hz,cond_false,Ea,k1,k2,Bool.and_self,cond_true,Nat.beq_refl]
   by_cases e:o1=o2
   ·subst e
    rw[h1]at h2;cases h2
    simp only[Nat.beq_refl,cond_true,Bool.true_and]
   ·have hf:f1≠f2:=fun q=>by subst q;exact e (hok.inj _ _ _ _ _ h1 h2)
    have e1:Nat.beq f1 f2=false:=by cases q:Nat.beq f1 f2 with
     |false=>rfl
     |true=>exact(hf (Nat.eq_of_beq_eq_true q)).elim
    have e2:Nat.beq o1 o2=false:=by cases q:Nat.beq o1 o2 with
     |false=>rfl
     |true=>exact(e (Nat.eq_of_beq_eq_true q)).elim
    simp only[e1,e2,cond_false,Bool.false_and]
  ·cases hd
 ·cases hd
theorem qT{H:DH}(hs:dV H g)(hok:Ok g){op:BinOp}{ty:TypeId}{c:Bool}{a b:D}{q:Bool->Bool}{κ:D->ah}(h:GC P ty c op a b H q κ=some out){v w:V}(r1:RD g a v)(r2:RD g b w) :
 av P op ty c a b κ=some out\/∃ p,κ (.bool (q p))=some out/\∀ s':S,(∀(o:Nat) st cs f v,H[o]? = some (.cells st cs)->g.O[o]? = some (some (f,v))->s'.get f=g.s.get f)->cw P (br s') 20 ty v w=some p/\∃ x y,v=.ptr x/\w=.ptr y:=by
 unfold GC at h
 split at h
 ·rename_i ht
  split at h
  ·split at h
   ·obtain⟨hp,h⟩:=aE h
    simp only[Bool.and_eq_true]at hp
    obtain⟨s1,t1,f1,j1,j2,j3⟩:=vf hs hok hp.1
    obtain⟨s2,t2,f2,k1,k2,k3⟩:=vf hs hok hp.2
    simp only[RD]at r1 r2
    obtain⟨f1',v1,l1,rfl⟩:=r1
    obtain⟨f2',v2,l2,rfl⟩:=r2
    rw[j2]at l1;cases l1
    rw[k2]at l2;cases l2
    refine .inr ⟨_,h,fun s' hs'=>⟨?_,_,_,rfl,rfl⟩⟩
    unfold SP at ht
    split at ht
    ·rename_i td hu
     exact IG hok hu ht j2 k2 (j3 s' _ (hs' _ _ _ _ _ j1 j2)) (k3 s' _ (hs' _ _ _ _ _ k1 k2))
    ·cases ht
   ·exact .inl h
  ·exact .inl h
 ·exact .inl h
theorem OA{H:DH}(hs:dV H g)(hok:Ok g){op:BinOp}{ty:TypeId}{x y:Operand}{a b:D}{κ:D->ah}(h:yK P op ty (dG x||dG y) a b H κ=some out){v w:V}(r1:RD g a v)(r2:RD g b w):∃ d v',κ d=some out/\dX P g.s op ty x y (some v) (some w)=some v'/\RD g d v':=by
 unfold yK at h
 split at h
 ·rcases qT hs hok h r1 r2 with h|⟨p,h1,h2⟩
  ·exact Dg h r1 r2 g.s
  ·obtain⟨h3,x',y',rfl,rfl⟩:=h2 g.s fun _ _ _ _ _ _ _=>rfl
   exact⟨_,.bool p,h1,by simp only[dX,eL,lU,cond_true,eA,h3,Option.map],by simp only[RD]⟩
 ·rcases qT hs hok h r1 r2 with h|⟨p,h1,h2⟩
  ·exact Dg h r1 r2 g.s
  ·obtain⟨h3,x',y',rfl,rfl⟩:=h2 g.s fun _ _ _ _ _ _ _=>rfl
   exact⟨_,.bool !p,h1,by simp only[dX,eL,lU,cond_true,eA,h3,Option.map],by simp only[RD]⟩
 ·exact Dg h r1 r2 g.s
end Go.AI
namespace Go.AI
variable[fE]
variable{g:Gh}{LO:List Nat}{t:T LD}{tv:T V}{P:Program}{out:iC}
theorem RD.one{d:D}{v:V}(r:RD g d v)(h1:Oi d≠12)(h2:Oi d≠13):v.one=true:=by
 have h:=r.tag
 cases v<;>first|rfl|(exfalso;first|exact h1 h.symm|exact h2 h.symm)
theorem ml{n:Nat}{d:D}{κ:List D->ah}(h:ai n d κ=some out){v:V}(r:RD g d v):∃ new,κ new=some out/\RL g new v.cells/\aK v.cells/\v.cells.length=n:=by
 unfold ai at h
 split at h
 ·simp only[RD]at r
  obtain⟨vs,rfl,h1,h2⟩:=r
  obtain⟨hb,h⟩:=aE h
  refine⟨_,h,h1,h2,?_⟩
  rw[<- Nat.eq_of_beq_eq_true hb]
  exact h1.len
 ·cases h
 ·rename_i n1 n2
  obtain⟨hb,h⟩:=aE h
  have h1:v.one=true:=r.one (by cases d<;>first|exact(n1 _ rfl).elim|(exact fun e=>by cases e)) (by cases d<;>first|exact(n2 _ rfl).elim|(exact fun e=>by cases e))
  rw[rY h1]
  exact⟨_,h,RL.one1 r,eX.2 ⟨h1,rfl⟩,(Nat.eq_of_beq_eq_true hb).symm⟩
theorem oD:∀ {cs:List D} {c:Nat} {new cs':List D} {vs ws:List V},uD cs c new=some cs'->RL g cs vs->aK vs->RL g new ws->aK ws->∃ vs',bX vs c ws=some vs'/\RL g cs' vs'/\aK vs'/\cs'.length=cs.length
 |cs,c,[],cs',vs,ws,h,h1,h2,h3,_=>by
  simp only[RL]at h3;subst h3
  have:cs'=cs:=by cases cs<;>cases c<;>(simp only[uD]at h;cases h;rfl)
  subst this
  refine⟨vs,?_,h1,h2,rfl⟩
  cases vs<;>cases c<;>rfl
 |x::r,n+1,y::new,cs',vs,ws,h,h1,h2,h3,h4=>by
  simp only[uD]at h
  split at h
  ·rename_i l hl
   cases h
   simp only[RL]at h1
   obtain⟨v,vs',rfl,k1,k2⟩:=h1
   obtain⟨vs2,j1,j2,j3,j4⟩:=oD hl k2 (eX.1 h2).2 h3 h4
   simp only[RL]at h3
   obtain⟨w,ws',rfl,_,_⟩:=h3
   exact⟨v::vs2,by simp only[bX,j1,Option.map],by simp only[RL];exact⟨v,vs2,rfl,k1,j2⟩,eX.2 ⟨(eX.1 h2).1,j3⟩,by simp only[List.length_cons,j4]⟩
  ·cases h
 |x::r,0,y::new,cs',vs,ws,h,h1,h2,h3,h4=>by
  simp only[uD]at h
  split at h
  ·rename_i l hl
   cases h
   simp only[RL]at h1 h3
   obtain⟨v,vs',rfl,k1,k2⟩:=h1
   obtain⟨w,ws',rfl,i1,i2⟩:=h3
   obtain⟨vs2,j1,j2,j3,j4⟩:=oD hl k2 (eX.1 h2).2 i2 (eX.1 h4).2
   exact⟨w::vs2,by simp only[bX,j1,Option.map],by simp only[RL];exact⟨w,vs2,rfl,i1,j2⟩,eX.2 ⟨(eX.1 h4).1,j3⟩,by simp only[List.length_cons,j4]⟩
  ·cases h
 |[],c,y::new,cs',vs,ws,h,_,_,_,_=>by cases c<;>(simp only[uD]at h;cases h)
theorem wC{cs:List D}{c:Nat}{new:List D}{κ:List D->ah}(h:az cs c new κ=some out){vs ws:List V}(h1:RL g cs vs)(h2:aK vs)(h3:RL g new ws)(h4:aK ws):∃ cs' vs',κ cs'=some out/\bX vs c ws=some vs'/\RL g cs' vs'/\aK vs'/\cs'.length=cs.length:=by
 grind [az,oD]
theorem xJ(place:Nat->Option (Nat×Nat)):∀ {parts:List (Nat×Operand)} {cs:List D} {κ:List D->ah} {vs:List V},Bb place t parts cs κ=some out->(∀ x∈parts,uO g LO t tv x.2)->RL g cs vs->aK vs ->
 ∃ cs' vs' ws,κ cs'=some out/\cZ tv parts=some ws/\pq place vs ws=some vs'/\RL g cs' vs'/\aK vs'
 |[],cs,κ,vs,h,_,h1,h2=>⟨cs,vs,[],h,rfl,rfl,h1,h2⟩
 |(i,x)::r,cs,κ,vs,h,ho,h1,h2=>by
  simp only[Bb]at h
  obtain⟨d,v,h,_,k1,k2⟩:=bq h (ho (i,x) List.mem_cons_self)
  split at h
  ·cases h
  ·rename_i off n hp
   obtain⟨hn,h⟩:=aE h
   obtain⟨new,h,k3,k4,k5⟩:=ml h k2
   obtain⟨cs1,vs1,h,k6,k7,k8,_⟩:=wC h h1 h2 k3 k4
   obtain⟨cs2,vs2,ws,j1,j2,j3,j4,j5⟩:=xJ place h (fun y hy=>ho y (List.mem_cons_of_mem _ hy)) k7 k8
   grind [only,cZ,pq,Nat.beq_refl,Bool.and_self,Option.bind]
theorem yG{ty:TypeId}{parts:List (Nat×Operand)}{z:Option D}{κ:D->ah}(h:ql P t ty parts z κ=some out)(ho:∀ x∈parts,uO g LO t tv x.2)(hz:∀ d,z=some d->∃ z,zero P ty=some z/\RL g d.cells z.cells/\aK z.cells):∃ d v,κ d=some out/\kw P ty (cZ tv parts)=some v/\RD g d v:=by
 unfold ql at h
 split at h
 ·rename_i z
  obtain⟨zv,h1,h3,h4⟩:=hz z rfl
  split at h
  ·rename_i fs hu
   obtain⟨ha,h⟩:=aE h
   obtain⟨cs',vs',ws,k1,k2,k3,k4,k5⟩:=xJ _ h ho h3 h4
   grind [only,kw,FL,RD]
  ·rename_i nn el hu
   split at h
   ·rename_i n hn
    obtain⟨cs',vs',ws,k1,k2,k3,k4,k5⟩:=xJ _ h ho h3 h4
    exact⟨_,.agg vs',k1,by simp only[kw,h1,k2,hu,hn,k3,FL],by simp only[RD];exact⟨vs',rfl,k4,k5⟩⟩
   ·cases h
  ·cases h
 ·cases h
theorem Ld{ty:TypeId}{parts:List (Nat×Operand)}{κ:D->ah}(h:HL P t ty parts κ=some out)(ho:∀ x∈parts,uO g LO t tv x.2):∃ d v,κ d=some out/\kw P ty (cZ tv parts)=some v/\RD g d v :=
 yG h ho fun d hd=>by obtain⟨zv,h1,_,h3,h4⟩:=gP (g:=g) hd;exact⟨zv,h1,h3,h4⟩
theorem Sa:∀ {vs:List V} {ds:List D},yw vs=some ds->RL g (Wu vs ds) vs/\aK vs
 |[],ds,h=>by cases h;exact⟨by simp only[Wu,RL],rfl⟩
 |v::r,ds,h=>by
  simp only[yw]at h
  split at h
  ·rename_i d hd
   split at h
   ·rename_i l hl
    cases h
    obtain⟨h1,h2⟩:=CW (g:=g) hd
    obtain⟨h3,h4⟩:=Sa hl
    refine⟨?_,by simp only[aK,h2,h4,List.all_cons]at *;simp_all⟩
    simp only[Wu,RL]
    refine⟨v,r,rfl,?_,h3⟩
    cases v<;>first|exact h1|(simp only[RD])
   ·cases h
  ·cases h
theorem HK{ty:TypeId}{parts:List (Nat×Operand)}{κ:D->ah}(h:ql P t ty parts (LL P ty) κ=some out)(ho:∀ x∈parts,uO g LO t tv x.2):∃ d v,κ d=some out/\kw P ty (cZ tv parts)=some v/\RD g d v :=
 yG h ho fun d hd=>by
  unfold LL at hd
  split at hd
  ·rename_i cs hz
   split at hd
   ·rename_i l hl
    cases hd
    obtain⟨h1,h2⟩:=Sa (g:=g) hl
    exact⟨_,hz,h1,h2⟩
   ·cases hd
  ·cases hd
theorem dV.nil(g:Gh):dV [] g:=fun o b h=>by simp at h
theorem dV.refl(g:Gh):dV g.H g:=fun _ _ h=>.inr h
theorem Cd{H:DH}{o:Nat}{κ:Nat->List D->ah}(h:au H o κ=some out)(hs:dV H g)(hok:Ok g):∃ st cs f el vs,κ st cs=some out/\H[o]? = some (.cells st cs)/\g.H[o]? = some (.cells st cs)/\g.O[o]? = some (some (f,0))/\g.s.get f=some (.cells el false 1 [⟨0,0,vs⟩])/\RL g cs vs/\aK vs:=by
 unfold au at h
 split at h
 ·rename_i st cs hc
  have hg:g.H[o]? = some (.cells st cs):=(hs o _ hc).resolve_left (fun e=>by cases e)
  obtain⟨f,el,vs,h1⟩:=hok.obj o _ hg
  grind
 ·cases h
theorem kB{H:DH}{o n:Nat}{κ:Nat->Bool->Bool->List (List D)->ah}(h:gG H o n κ=some out)(hs:dV H g):∃ sz st cap l,κ sz st cap l=some out/\H[o]? = some (.buf sz st cap l)/\g.H[o]? = some (.buf sz st cap l)/\n=l.length:=by
 unfold gG at h
 split at h
 ·rename_i sz st cap l hc
  obtain⟨hb,h⟩:=aE h
  exact⟨sz,st,cap,l,h,hc,(hs o _ hc).resolve_left (fun e=>by cases e),Nat.eq_of_beq_eq_true hb⟩
 ·cases h
theorem Gc{H:DH}{o s:Nat}{κ:Nat->List (List D)->ah}(h:Ir H o s κ=some out)(hs:dV H g):∃ sz l,κ sz l=some out/\H[o]? = some (.tbuf sz s l)/\g.H[o]? = some (.tbuf sz s l):=by
 unfold Ir at h
 split at h
 ·rename_i sz s' l hc
  obtain⟨hb,h'⟩:=aE h
  clear h
  obtain rfl:=Nat.eq_of_beq_eq_true hb
  exact⟨sz,l,h',hc,(hs o _ hc).resolve_left (fun e=>by cases e)⟩
 ·cases h
theorem Ha{s:S}{f el:Nat}{vs:List V}(h:s.get f=some (.cells el false 1 [⟨0,0,vs⟩])):loadCells s ⟨f,0,0⟩ vs.length=some vs:=by
 rw[ZL h,List.drop_zero];exact dj _ _ rfl
theorem Qp{ty:TypeId}{d:D}{H:DH}{κ:D->ah}(h:bQ P ty d H κ=some out)(hs:dV H g)(hok:Ok g){v:V}(r:RD g d v):∃ d' v',κ d'=some out/\iI P g.s ty (some v)=some (.val v' g.s)/\RD g d' v':=by
 unfold bQ at h
 split at h
 ·simp only[RD]at r
  obtain⟨a,vs,rfl,h1,h2,h3,h4⟩:=r
  obtain⟨d',v',k1,k2,k3⟩:=jn h h2 h3 h4
  exact⟨d',v',k1,by rw[gZ,k2];rfl,k3⟩
 ·rename_i o c
  simp only[RD]at r
  obtain⟨f,ver,h1,rfl⟩:=r
  obtain⟨_,cs,f',el,vs,h,_,_,h2,h3,h4,h5⟩:=Cd h hs hok
  rw[h1]at h2;cases h2
  obtain⟨d',v',k1,k2,k3⟩:=jn h (a:=⟨f,0,0⟩) (by rw[<- h4.len];exact Ha h3) h4 h5
  refine⟨d',v',k1,?_,k3⟩
  rw[gZ,show(⟨f,0,c⟩:Ad)=bN ⟨f,0,0⟩ c by simp[bN],k2];rfl
 ·rename_i o n i c
  simp only[RD]at r
  obtain⟨sz',st',cap',l',h,_,h6,h7⟩:=kB h hs
  rcases r with⟨⟨_,_,_,k1⟩,_⟩|⟨f,ver,sz,st,cap,l,ver',h1,h2,h3,h4,rfl,h5⟩
  ·rw[h6]at k1;cases k1
  rw[h2]at h6;cases h6
  unfold dM at h
  split at h
  ·rename_i cs hc
   obtain⟨_,i1|⟨i1,f',ver2,el,nv,vers,cells,i2,i3,i4,i5,i6,i7⟩⟩:=hok.obj o _ h2
   ·grind
   ·rw[h1]at i2;cases i2
    rw[h5 h7]
    obtain⟨vs,j1,j2,j3,j4⟩:=i7.at hc
    obtain⟨d',v',k1,k2,k3⟩:=jn h (a:=bN ⟨f,ver,0⟩ (i*sz')) (by rw[j1];exact j2) j3 j4
    refine⟨d',v',k1,?_,k3⟩
    rw[gZ,show(⟨f,ver,i*sz'+c⟩:Ad)=bN (bN ⟨f,ver,0⟩ (i*sz')) c by simp[bN],k2];rfl
  ·cases h
 ·rename_i o s i c
  simp only[RD]at r
  obtain⟨sz',l',h,_,h6⟩:=Gc h hs
  obtain⟨f,ver,sz,s',l,ver',h1,h2,h3,rfl,h5⟩:=r
  rw[h2]at h6;cases h6
  obtain⟨h4,rfl⟩:=h5 rfl
  unfold dM at h
  split at h
  ·rename_i cs hc
   obtain⟨_,f',ver2,el,nv,vers,cells,i2,i3,i4,i5,i6,i7⟩:=hok.obj o _ h2
   rw[h1]at i2;cases i2
   obtain⟨vs,j1,j2,j3,j4⟩:=i7.at hc
   obtain⟨d',v',k1,k2,k3⟩:=jn h (a:=bN ⟨f,ver',0⟩ (i*sz')) (by rw[j1];exact j2) j3 j4
   refine⟨d',v',k1,?_,k3⟩
   rw[gZ,show(⟨f,ver',i*sz'+c⟩:Ad)=bN (bN ⟨f,ver',0⟩ (i*sz')) c by simp[bN],k2];rfl
  ·cases h
 ·cases h
theorem El{ty:TypeId}{x:LD}{L:LS}{H:DH}{κ:D->ah}(h:kf P ty x L H κ=some out)(hs:dV H g)(hok:Ok g)(hl:Ve g L LO){v:V}(r:RS g LO x v):∃ d' v',κ d'=some out/\iI P g.s ty (some v)=some (.val v' g.s)/\RD g d' v':=by
 cases x with
 |g d=>exact Qp h hs hok r
 |u=>cases h
 |lp k c =>
  simp only[kf]at h
  obtain⟨f,h1,rfl⟩:=r
  split at h
  ·rename_i st cs hc
   obtain⟨_,h2|⟨el,vs,h2,h3,h4⟩⟩:=hl k _ f hc h1
   ·simp only at h2
    subst h2
    exfalso
    unfold ci at h
    split at h
    ·split at h
     ·rename_i n _
      obtain⟨hn,h⟩:=aE h
      obtain⟨_,q⟩:=gQ h
      have:=Nat.le_of_ble_eq_true hn
      grind
     ·cases h
    ·grind [iY]
    ·cases h
   ·obtain⟨d',v',k1,k2,k3⟩:=jn h (a:=⟨f,0,0⟩) (by rw[<- h3.len];exact Ha h2) h3 h4
    refine⟨d',v',k1,?_,k3⟩
    rw[gZ,show(⟨f,0,c⟩:Ad)=bN ⟨f,0,0⟩ c by simp[bN],k2];rfl
  ·cases h
theorem nG{ty el:TypeId}{d:TypeDesc}(h:vk P ty=some (d,el)):∃ kt,P.underlying ty=some (.map kt el)/\P.underlying kt=some d/\(rA d||zo P d)=true/\ef P kt=true:=by
 unfold vk at h
 split at h
 ·rename_i kt el' hu
  split at h
  ·rename_i d' hd
   cases hk:rA d'||zo P d' with
   |false=>rw[hk]at h;cases h
   |true =>
    rw[hk]at h;cases h
    refine⟨kt,hu,hd,hk,?_⟩
    unfold ef
    rw[hd]
    cases d<;>first|(cases hk;done)|rfl
  ·cases h
 ·cases h
def Lx(H:DH)(d:D):Prop:=∀ o c,d=.ptr o c->IK H o=true
theorem oG{H:DH}:∀ {es:List (D×D)},jr H es=true->∀ p∈es,Lx H p.1
 |[],_,_,hp=>nomatch hp
 |(x,v)::r,h,p,hp=>by
  cases x
  case ptr o c =>
   simp only[jr,Bool.and_eq_true]at h
   rcases List.mem_cons.1 hp with rfl|hp
   ·intro o' c' e;cases e;exact h.1
   ·exact oG h.2 p hp
  all_goals
   simp only[jr]at h
   rcases List.mem_cons.1 hp with rfl|hp
   ·intro o' c' e;cases e
   ·exact oG h p hp
theorem oI{H:DH}(hs:dV H g)(hok:Ok g){kt:TypeId}{td:TypeDesc}(hu:P.underlying kt=some td)(hd:(rA td||zo P td)=true){a b:D}(pa:Lx H a)(pb:Lx H b){v w:V}{q:Bool}(h:nI a b=some q)(hf:pU td a=true)(r1:RD g a v)(r2:RD g b w):cw P (br g.s) 20 kt v w=some q:=by
 by_cases hp:∃ o1 c1 o2 c2,a=.ptr o1 c1/\b=.ptr o2 c2
 ·obtain⟨o1,c1,o2,c2,rfl,rfl⟩:=hp
  obtain⟨s1,t1,f1,j1,j2,j3⟩:=vf hs hok (pa o1 c1 rfl)
  obtain⟨s2,t2,f2,k1,k2,k3⟩:=vf hs hok (pb o2 c2 rfl)
  simp only[RD]at r1 r2
  obtain⟨f1',v1,l1,rfl⟩:=r1
  obtain⟨f2',v2,l2,rfl⟩:=r2
  rw[j2]at l1;cases l1
  rw[k2]at l2;cases l2
  cases h
  have hd':zo P td=true:=by
   cases td<;>first|(cases hf;done)|simpa[rA]using hd
  exact IG hok hu hd' j2 k2 (j3 g.s _ rfl) (k3 g.s _ rfl)
 unfold nI at h
 unfold cw
 rw[hu]
 split at h
 ·simp only[RD]at r1 r2;subst r1 r2
  revert h
  cases hk:dF _ _ with
  |false=>intro h;cases h
  |true =>
   intro h
   simp only[cond_true]at h
   cases td<;>first|(cases hf;done)|(simp only[hk,cond_true];exact h)
 ·simp only[RD]at r1 r2
  obtain⟨rfl,ha⟩:=r1
  obtain⟨rfl,hb⟩:=r2
  cases h
  cases td<;>first|(cases hf;done)|(simp only;rw[qE ha hb];congr 1;rw[Bool.eq_iff_iff];simp)
 ·simp only[RD]at r1 r2;subst r1 r2
  cases h
  cases td<;>first|(cases hf;done)|rfl
 ·rename_i o c o' c'
  exact(hp ⟨o,c,o',c',rfl,rfl⟩).elim
 ·cases h
def WI(g:Gh):Option D->Option V->Prop
 |some d,some v=>RD g d v
 |none,none=>True
 |_,_=>False
theorem qu.find{H:DH}(hs:dV H g)(hok:Ok g){kt:TypeId}{td:TypeDesc}(hu:P.underlying kt=some td)(hd:(rA td||zo P td)=true){k:D}{kv:V}(hf:pU td k=true)(pk:Lx H k)(rk:RD g k kv):∀ {es:List (D×D)} {ents:List oY} {r:Option D},((∃ o c,k=.ptr o c)->∀ p∈es,Lx H p.1)->qu g es ents->zr k es=some r->∃ rv,bY (cw P (br g.s) 20 kt) kv ents=some rv/\WI g r rv
 |[],_,r,_,h,e=>by
  simp only[qu]at h;subst h
  cases e;exact⟨none,rfl,trivial⟩
 |(x,v)::l,_,r,ps,h,e=>by
  simp only[qu]at h
  obtain⟨⟨ke,ve,born⟩,es',rfl,h1,h2,_,h4⟩:=h
  simp only[zr]at e
  have px:∀ {q},nI k x=some q->Lx H x:=fun {q} hq o c ex=>by
   subst ex
   cases k<;>first|(cases hq;done)|exact ps ⟨_,_,rfl⟩ _ List.mem_cons_self o c rfl
  split at e
  ·rename_i hq
   cases e
   exact⟨some ve,by simp only[bY,oI hs hok hu hd pk (px hq) hq hf rk h1,bY.foundKey],h2⟩
  ·rename_i hq
   obtain⟨rv,k1,k2⟩:=qu.find hs hok hu hd hf pk rk (fun e p hp=>ps e p (List.mem_cons_of_mem _ hp)) h4 e
   exact⟨rv,by simp only[bY,oI hs hok hu hd pk (px hq) hq hf rk h1,bY.foundKey,k1],k2⟩
  ·cases e
theorem yq{H:DH}{o:Nat}{κ:List (D×D)->ah}(h:nF H o κ=some out)(hs:dV H g)(hok:Ok g):∃ es f ents clock,κ es=some out/\H[o]? = some (.map es)/\g.H[o]? = some (.map es)/\g.O[o]? = some (some (f,0))/\g.s.get f=some (.map ents clock)/\qu g es ents:=by
 unfold nF at h
 split at h
 ·rename_i es hc
  have hg:g.H[o]? = some (.map es):=(hs o _ hc).resolve_left (fun e=>by cases e)
  obtain⟨f,ents,clock,h1,h2,h3⟩:=hok.obj o _ hg
  grind
 ·cases h
theorem AQ{el:TypeId}{ok:Bool}{o:Option D}{κ:D->ah}(h:fS P el ok o κ=some out){rv:Option V}(hr:WI g o rv):∃ d v,κ d=some out/\Jk P el ok (some rv)=some v/\RD g d v:=by
 cases o with
 |some d =>
  cases rv with
  |none=>exact hr.elim
  |some v =>
   refine⟨_,_,h,rfl,?_⟩
   cases ok with
   |false=>exact hr
   |true=>simp only[cond_true,RD,RL];exact⟨_,rfl,v,_,rfl,hr,_,_,rfl,rfl,rfl⟩
 |none =>
  cases rv with
  |some _=>exact hr.elim
  |none =>
   simp only[fS]at h
   split at h
   ·rename_i z hz
    obtain⟨zv,h1,h2,_⟩:=gP (g:=g) hz
    grind [Jk,RD,RL]
   ·cases h
theorem Ny{ty:TypeId}{m k:D}{ok:Bool}{H:DH}{κ:D->ah}(h:jm P ty m k ok H κ=some out)(hs:dV H g)(hok:Ok g){mv kv:V}(r1:RD g m mv)(r2:RD g k kv):∃ d v,κ d=some out/\jz P g.s ty (some mv) (some kv) ok=some v/\RD g d v:=by
 unfold jm at h
 split at h
 ·rename_i td el hm
  obtain⟨kt,hu,hk,hd,hsk⟩:=nG hm
  split at h
  ·obtain⟨hf,h⟩:=aE h
   simp only[RD]at r1
   obtain⟨f,ver,h1,rfl⟩:=r1
   obtain⟨es,f',ents,clock,h,_,_,h2,h3,h4⟩:=yq h hs hok
   rw[h1]at h2;cases h2
   have hh:Lx H k/\((∃ o c,k=.ptr o c)->∀ p∈es,Lx H p.1)/\(mC k es fun r=>fS P el ok r κ)=some out:=by
    split at h
    ·obtain⟨hp,h⟩:=aE h
     simp only[Bool.and_eq_true]at hp
     exact⟨fun o c e=>by cases e;exact hp.1,fun _=>oG hp.2,h⟩
    ·rename_i hne
     exact⟨fun o c e=>(hne o c e).elim,fun⟨o,c,e⟩=>(hne o c e).elim,h⟩
   obtain⟨pk,ps,h⟩:=hh
   unfold mC at h
   split at h
   ·rename_i r hr
    obtain⟨rv,k1,k2⟩:=h4.find (P:=P) hs hok hk hd hf pk r2 ps hr
    grind [AQ,only,jz,yj]
   ·cases h
  ·simp only[RD]at r1;subst r1
   obtain⟨d,v,j1,j2,j3⟩:=AQ (g:=g) h (rv:=none) trivial
   grind [only,jz,yj,bY]
  ·cases h
 ·cases h
theorem qu.len:∀ {es:List (D×D)} {ents:List oY},qu g es ents->ents.length=es.length
 |[],_,h=>by simp only[qu]at h;subst h;rfl
 |(x,v)::l,_,h=>by
  simp only[qu]at h
  obtain⟨e,es',rfl,_,_,_,h4⟩:=h
  simp only[List.length_cons,qu.len h4]
theorem Ql{ty:TypeId}{x:D}{H:DH}{κ:D->ah}(h:bJ P ty x H κ=some out)(hs:dV H g)(hok:Ok g){v:V}(r:RD g x v):∃ d v',κ d=some out/\iH P ty g.s v=some v'/\RD g d v':=by
 unfold bJ at h
 split at h
 ·rename_i hu
  split at h
  ·simp only[RD]at r
   obtain⟨rfl,_⟩:=r
   exact⟨_,.int .i64 _,h,by simp only[iH,hu,bO];rfl,by simp only[RD]⟩
  ·cases h
 ·rename_i hu
  split at h
  ·rename_i l
   simp only[RD]at r
   refine⟨_,.int .i64 (l.length:Nat),h,?_,by simp only[RD]⟩
   rcases r with⟨rfl,rfl⟩|⟨rfl,a,z,sz',rfl⟩|⟨a,z,cap,rfl,_⟩
   ·simp_all[iH]
   ·simp_all[iH,bO]
   simp_all[iH,bO]
  ·rename_i n
   simp only[RD]at r
   rcases r with⟨_,⟨rfl,rfl|⟨a,z,sz',rfl⟩⟩|⟨a,z,c,rfl⟩⟩|⟨st,cap,l,_,_,⟨rfl,rfl|⟨a,z,sz',rfl⟩⟩|⟨_,f,ver,ver',c,_,rfl,_⟩⟩
   ·exact⟨_,.int .i64 0,h,by simp only[iH,hu],by simp only[RD];rfl⟩
   ·exact⟨_,.int .i64 0,h,by simp only[iH,hu,bO];rfl,by simp only[RD];rfl⟩
   ·exact⟨_,.int .i64 (n:Nat),h,by simp only[iH,hu,bO],by simp only[RD]⟩
   ·exact⟨_,.int .i64 0,h,by simp only[iH,hu],by simp only[RD];rfl⟩
   ·exact⟨_,.int .i64 0,h,by simp only[iH,hu,bO];rfl,by simp only[RD];rfl⟩
   ·exact⟨_,.int .i64 (n:Nat),h,by simp only[iH,hu,bO],by simp only[RD]⟩
  ·rename_i n
   simp only[RD]at r
   obtain⟨f,ver,s',l,ver',_,_,_,rfl,_⟩:=r
   exact⟨_,.int .i64 (n:Nat),h,by simp only[iH,hu,bO],by simp only[RD]⟩
  ·simp only[RD]at r
   refine⟨_,.int .i64 0,h,?_,by simp only[RD]⟩
   rcases r with rfl|⟨a,z,sz',rfl⟩
   ·simp_all[iH]
   simp_all[iH,bO]
  ·simp only[RD]at r;subst r
   exact⟨_,.int .i64 0,h,by simp only[iH,hu],by simp only[RD]⟩
  ·cases h
 ·rename_i hu
  split at h
  ·simp only[RD]at r
   obtain⟨f,ver,h1,rfl⟩:=r
   obtain⟨es,f',ents,clock,h,_,_,h2,h3,h4⟩:=yq h hs hok
   rw[h1]at h2;cases h2
   exact⟨_,.int .i64 (es.length:Nat),h,by simp only[iH,hu,h3,h4.len],by simp only[RD]⟩
  ·simp only[RD]at r;subst r
   exact⟨_,.int .i64 0,h,by simp only[iH,hu],by simp only[RD]⟩
  ·cases h
 ·cases h
theorem Qc{q:Bool}{x y:D}{κ:D->ah}(h:Nu q x y κ=some out){v w:V}(r1:RD g x v)(r2:RD g y w):∃ d v',κ d=some out/\(bif q then Kz v w else Ky v w)=some v'/\RD g d v':=by
 unfold Nu at h
 split at h
 ·split at h
  ·simp only[RD]at r1 r2;subst r1 r2
   obtain⟨hk,h⟩:=aE h
   refine⟨_,_,h,?_,by simp only[RD];rfl⟩
   grind [Kz,Ky]
  ·cases h
 ·cases h
theorem wT{q:Bool}:∀ {l:List D} {x:D} {κ:D->ah} {ws:List V} {v:V},fX q x l κ=some out->RD g x v->RL g l ws->∃ d v',κ d=some out/\ws.foldlM (fun a b=>bif q then Kz a b else Ky a b) v=some v'/\RD g d v'
 |[],x,κ,ws,v,h,r1,r2=>by simp only[RL]at r2;subst r2;exact⟨x,v,h,rfl,r1⟩
 |y::l,x,κ,ws,v,h,r1,r2=>by
  simp only[RL]at r2
  obtain⟨w,ws',rfl,r3,r4⟩:=r2
  simp only[fX]at h
  obtain⟨d,v1,h,h1,h2⟩:=Qc h r1 r3
  obtain⟨d',v',k1,k2,k3⟩:=wT h h2 r4
  grind
end Go.AI
namespace Go.AI
variable[fE]
variable{b:Nat}{P0:List Nat}{g:Gh}{LO:List Nat}{t:T LD}{L:LS}{tv:T V}{P:Program}{out:iC}
def LG(g:Gh)(L:LS)(LO:List Nat)(g':Gh)(L':LS):Prop:=∀(k:Nat) st cs f,L[k]? = some (st,cs)->LO[k]? = some f->∃ st' cs',L'[k]? = some (st',cs')/\st<=st'/\(st=st'->cs'=cs/\g'.s.get f=g.s.get f)
structure Dt(g:Gh)(L:LS)(LO:List Nat)(g':Gh)(L':LS)(LO':List Nat):Prop where
 pre:LO <+: LO'
 pvn:LG g L LO g' L'
theorem LG.of{L:LS}{g g':Gh}{LO:List Nat}(hs:∀ f∈LO,g'.s.get f=g.s.get f):LG g L LO g' L:=fun _ st cs f h1 h2=>⟨st,cs,h1,Nat.le_refl _,fun _=>⟨rfl,hs f (List.mem_of_getElem? h2)⟩⟩
theorem LG.trans{x y z:Gh}{L M N:LS}{LO LO':List Nat}(h:LG x L LO y M)(hp:LO <+: LO')(k:LG y M LO' z N):LG x L LO z N:=fun i st cs f h1 h2=>by
 obtain⟨st',cs',h3,h4,h5⟩:=h i st cs f h1 h2
 obtain⟨q,rfl⟩:=hp
 obtain⟨s2,c2,k1,k2,k3⟩:=k i st' cs' f h3 (ei q h2)
 grind
theorem Dt.refl(g:Gh)(L:LS)(LO:List Nat):Dt g L LO g L LO:=⟨List.prefix_rfl,LG.of fun _ _=>rfl⟩
theorem Dt.trans{x y z:Gh}{L M N:LS}{A B C:List Nat}(h:Dt x L A y M B)(k:Dt y M B z N C):Dt x L A z N C:=⟨h.pre.trans k.pre,h.pvn.trans h.pre k.pvn⟩
theorem Dt.ps{g g':Gh}{L:LS}{LO:List Nat}(hg:g'.s=g.s):Dt g L LO g' L LO:=⟨List.prefix_rfl,LG.of fun _ _=>by rw[hg]⟩
theorem Dt.al(h:FI b P0 g t L tv LO){g':Gh}(B:dS)(hg:g'.s=g.s.alloc B):Dt g L LO g' L LO:=⟨List.prefix_rfl,LG.of fun f hf=>by rw[hg];exact aG (h.lo_lt hf)⟩
theorem Dt.op(h:FI b P0 g t L tv LO){g':Gh}{o f ver:Nat}{B:dS}(ho:g.O[o]? = some (some (f,ver)))(hg:g'.s=g.s.put f B):Dt g L LO g' L LO:=⟨List.prefix_rfl,LG.of fun f' hf=>by rw[hg];exact cA fun e=>h.lo_out hf o ver (by rw[<- e];exact ho)⟩
theorem Dt.new(h:FI b P0 g t L tv LO){g':Gh}{B:dS}(x:Nat×List D)(f:Nat)(hg:g'.s=g.s.alloc B):Dt g L LO g' (L++[x]) (LO++[f]):=⟨List.prefix_append _ _,fun _ st cs f h1 h2=>⟨st,cs,ei _ h1,Nat.le_refl _,fun _=>⟨rfl,by rw[hg];exact aG (h.lo_lt (List.mem_of_getElem? h2))⟩⟩⟩
theorem Dt.put(h:FI b P0 g t L tv LO){g':Gh}{B:dS}{k f st:Nat}{cs0:List D}(hk:L[k]? = some (st,cs0))(hf:LO[k]? = some f)(cs:List D)(hg:g'.s=g.s.put f B):Dt g L LO g' (L.set k (st+1,cs)) LO:=⟨List.prefix_rfl,fun k' st' cs' f' h1 h2=>by
 by_cases e:k=k'
 ·subst e
  rw[hk]at h1;cases h1
  exact⟨st+1,cs,aZ hk,Nat.le_succ _,fun q=>by omega⟩
 ·exact⟨st',cs',by rw[cU e];exact h1,Nat.le_refl _,fun _=>⟨rfl,by rw[hg];exact cA fun q=>e (sY h.nd hf (by rw[q];exact h2))⟩⟩⟩
def sr(b:Nat)(P0:List Nat)(g:Gh)(t:T LD)(L:LS)(tv:T V)(LO:List Nat)(L':LS)(H':DH)(s':S)(Q:Gh->List Nat->Prop):Prop :=
 ∃ g' LO',g'.H=H'/\g'.s=s'/\FI b P0 g' t L' tv LO'/\Mv b g g'/\Dt g L LO g' L' LO'/\Q g' LO'
theorem sr.same(h:FI b P0 g t L tv LO){Q:Gh->List Nat->Prop}(q:Q g LO):sr b P0 g t L tv LO L g.H g.s Q:=⟨g,LO,rfl,rfl,h,.refl b g,.refl g L LO,q⟩
theorem IW(h:FI b P0 g t L tv LO){esc:Bool}{cs:List D}{κ:zb->ah}(e:Kv esc cs L g.H κ=some out){vs:List V}(hr:RL g cs vs)(ho:aK vs)(el:TypeId) :
 ∃ x L' H',κ (.val x L' H')=some out/\sr b P0 g t L tv LO L' H' (g.s.alloc (.cells el false 1 [⟨0,0,vs⟩])) fun g' LO'=>RS g' LO' x (.ptr ⟨g.s.next,0,0⟩):=by
 unfold Kv at e
 cases esc with
 |true =>
  refine⟨_,_,_,e,g.obj (.cells 0 cs) (.cells el false 1 [⟨0,0,vs⟩]),LO,rfl,rfl,?_,nD h.ok h.bl _ _,.al h _ rfl,?_⟩
  ·exact h.mkobj ⟨g.s.next,el,vs,mA h.ok _ _,re _ _,hr.mono (xk h.ok.len _ _),ho⟩
  ·show RD _ _ _
   simp only[RD]
   exact⟨g.s.next,0,mA h.ok _ _,rfl⟩
 |false =>
  refine⟨_,_,_,e,g.prv (.cells el false 1 [⟨0,0,vs⟩]),LO++[g.s.next],rfl,rfl,h.prv hr ho,Tf h.ok h.bl _,.new h _ _ rfl,?_⟩
  exact⟨g.s.next,by rw[h.own.1];exact gy _ _,rfl⟩
theorem vg:∀(l:List D) (c:Nat),uD l c []=some l
 |[],0=>rfl
 |[],_+1=>rfl
 |_::_,0=>rfl
 |_::_,_+1=>rfl
theorem IN:∀(x r new:List D),new.length=x.length->uD (x++r) 0 new=some (new++r)
 |[],r,[],_=>vg r 0
 |a::x,r,b::new,h=>by simp only[List.cons_append,uD,IN x r new (by simpa using h)]
 |[],_,_::_,h=>by simp at h
 |_::_,_,[],h=>by simp at h
theorem Ec:∀(x r new:List D) (k:Nat),uD (x++r) (x.length+k) new=(uD r k new).map (x++·)
 |[],r,new,k=>by simp
 |a::x,r,[],k=>by rw[vg,vg];rfl
 |a::x,r,b::new,k=>by
  rw[List.cons_append,List.length_cons,show x.length+1+k=(x.length+k)+1 by omega]
  simp only[uD,Ec x r (b::new) k]
  cases uD r k (b::new)<;>rfl
theorem GH:∀(x r new:List D) (k:Nat) (x':List D),uD x k new=some x'->uD (x++r) k new=some (x'++r)
 |x,r,[],k,x',h=>by rw[vg]at h ⊢;cases h;rfl
 |a::x,r,b::new,k+1,x',h=>by
  simp only[uD]at h
  split at h
  ·rename_i l hl;cases h;simp only[List.cons_append,uD,GH x r (b::new) k l hl]
  ·cases h
 |a::x,r,b::new,0,x',h=>by
  simp only[uD]at h
  split at h
  ·rename_i l hl;cases h;simp only[List.cons_append,uD,GH x r new 0 l hl]
  ·cases h
 |[],r,b::new,k,x',h=>by cases k<;>(simp only[uD]at h;cases h)
theorem wB{n:Nat}:∀ {l:List (List D)} {i c:Nat} {cs cs' new:List D},(∀ x∈l,x.length=n)->l[i]? = some cs->uD cs c new=some cs'->uD l.flatten (i*n+c) new=some (l.set i cs').flatten
 |[],i,c,cs,cs',new,_,h,_=>by simp at h
 |x::l,0,c,cs,cs',new,hn,h,e=>by
  simp_all[List.flatten_cons,List.set_cons_zero,Nat.zero_mul,Nat.zero_add,GH]
 |x::l,i+1,c,cs,cs',new,hn,h,e=>by
  simp only[List.flatten_cons,List.set_cons_succ]
  have hx:=hn x List.mem_cons_self
  rw[show(i+1)*n+c=x.length+(i*n+c)by rw[hx,Nat.add_mul];omega,Ec,wB (fun y hy=>hn y (List.mem_cons_of_mem _ hy)) (by simpa using h) e]
  rfl
theorem Jl{n:Nat}:∀ {l:List (List D)} {i:Nat} {cs:List D},(∀ x∈l,x.length=n)->l[i]? = some cs->(l.flatten.drop (i*n)).take n=cs
 |[],i,cs,_,h=>by simp at h
 |x::l,0,cs,hn,h=>by
  grind
 |x::l,i+1,cs,hn,h=>by
  have hx:=hn x List.mem_cons_self
  rw[List.flatten_cons,show(i+1)*n=x.length+i*n by rw[hx,Nat.add_mul];omega,<- List.drop_drop,List.drop_left]
  simp_all[Jl,List.mem_cons_of_mem]
theorem ir{n:Nat}:∀ {l:List (List D)},(∀ x∈l,x.length=n)->l.flatten.length=l.length*n
 |[],_=>by simp
 |x::l,hn=>by
  rw[List.flatten_cons,List.length_append,ir (fun y hy=>hn y (List.mem_cons_of_mem _ hy)),hn x List.mem_cons_self,List.length_cons,Nat.add_mul];omega
theorem RR.flat{a:Ad}{n:Nat}{l:List (List D)}{vs:List V}(hn:∀ x∈l,x.length=n)(hl:loadCells g.s a (l.length*n)=some vs)(hr:RL g l.flatten vs)(ho:aK vs):RR g a n l:=RR.of fun i cs hx=>by
 have hi:i<l.length:=by
  grind
 have hle:i*n+n<=l.length*n:=by
  have:=Nat.mul_le_mul_right n (show i+1<=l.length from hi)
  grind
 refine⟨_,hn cs (List.mem_of_getElem? hx),il hl hle,?_,sU (sV ho _) _⟩
 have:=(hr.drop (i*n)).take n
 grind [Jl]
theorem RR.lens:∀ {l:List (List D)} {a:Ad} {n:Nat},RR g a n l->∀ x∈l,x.length=n
 |[],_,_,_,x,hx=>by cases hx
 |y::l,a,n,r,x,hx=>by
  simp only[RR]at r
  rcases List.mem_cons.1 hx with rfl|hx
  ·grind
  ·exact RR.lens r.2 x hx
theorem zu{s:S}{a:Ad}{m n:Nat}{x y:List V}(h1:loadCells s a m=some x)(h2:loadCells s (bN a m) n=some y):loadCells s a (m+n)=some (x++y):=by
 have key:∀(u:mK),(bif Nat.ble u.lo a.c then aU m (u.cells.drop (a.c - u.lo))else none)=some x->(bif Nat.ble u.lo (a.c+m)then aU n (u.cells.drop (a.c+m - u.lo))else none)=some y->(bif Nat.ble u.lo a.c then aU (m+n) (u.cells.drop (a.c - u.lo))else none)=some (x++y):=fun u e1 e2=>by
  grind [Nat.le_of_ble_eq_true,Nat.ble,Nat.ble_eq_true_of_le,ed,List.length_drop,lw,List.drop_drop]
 unfold loadCells at h1 h2 ⊢
 simp only[bN]at h2
 split at h1
 ·rename_i hg
  rw[hg]at h2
  simp only at h2
  split at h1
  ·grind
  ·cases h1
 ·rename_i hg
  rw[hg]at h2
  simp only at h2
  split at h1
  ·grind
  ·cases h1
 ·cases h1
theorem RR.cells:∀ {l:List (List D)} {a:Ad} {n:Nat},RR g a n l->l≠[]->∃ vs,loadCells g.s a (l.length*n)=some vs/\RL g l.flatten vs/\aK vs
 |[],_,_,_,h=>(h rfl).elim
 |[x],a,n,r,_=>by
  grind [RR]
 |x::y::l,a,n,r,_=>by
  rw[RR]at r
  obtain⟨⟨vs,h1,h2,h3,h4⟩,r⟩:=r
  obtain⟨ws,k1,k2,k3⟩:=RR.cells r (by simp)
  refine⟨vs++ws,?_,?_,qZ h4 k3⟩
  ·grind [zu,only,List.length_cons,Nat.add_mul]
  ·rw[List.flatten_cons];exact h3.append k2
theorem lJ{n len:Nat}(hn0:0<n):∀ {parts:List (Nat×Operand)} {l:List (List D)} {κ:List (List D)->ah} {vs:List V},mY t n len parts l κ=some out->(∀ x∈parts,uO g LO t tv x.2)->l.length=len->(∀ x∈l,x.length=n)->RL g l.flatten vs->aK vs ->
 ∃ l' vs' ws,κ l'=some out/\cZ tv parts=some ws/\pq (fun i=>some (i*n,n)) vs ws=some vs'/\l'.length=len/\(∀ x∈l',x.length=n)/\RL g l'.flatten vs'/\aK vs'
 |[],l,κ,vs,h,_,h1,h2,h3,h4=>⟨l,vs,[],h,rfl,rfl,h1,h2,h3,h4⟩
 |(i,x)::r,l,κ,vs,h,ho,h1,h2,h3,h4=>by
  simp only[mY]at h
  obtain⟨d,v,h,_,k1,k2⟩:=bq h (ho (i,x) List.mem_cons_self)
  obtain⟨hb,h⟩:=aE h
  have hi:i<l.length:=by rw[h1];exact Nat.le_of_ble_eq_true hb
  obtain⟨new,h,k3,k4,k5⟩:=ml h k2
  have hnl:new.length=n:=by rw[<- k5,k3.len]
  have hx:l[i]? = some l[i]:=List.getElem?_eq_getElem hi
  have hov:=wB (c:=0) (new:=new) h2 hx (by have:=IN l[i] [] new (by rw[hnl,h2 _ (List.getElem_mem hi)]);simpa using this)
  obtain⟨vs1,j1,j2,j3,_⟩:=oD hov h3 h4 k3 k4
  have hset:∀ y∈l.set i new,y.length=n:=fun y hy=>by
   grind
  obtain⟨l',vs',ws,i1,i2,i3,i4⟩:=lJ hn0 h (fun y hy=>ho y (List.mem_cons_of_mem _ hy)) (by rw[List.length_set];exact h1) hset j2 j3
  grind [only,cZ,pq,Nat.beq_refl,yJ,Bool.and_self,Option.bind]
theorem RL.flat_rep{z:List D}{zv:List V}(h:RL g z zv):∀ n,RL g (List.replicate n z).flatten (List.replicate n zv).flatten
 |0=>by simp[RL]
 |n+1=>by simp only[List.replicate_succ,List.flatten_cons];exact h.append (RL.flat_rep h n)
theorem qY{zv:List V}(h:aK zv):∀ n,aK (List.replicate n zv).flatten
 |0=>rfl
 |n+1=>by simp only[List.replicate_succ,List.flatten_cons];exact qZ h (qY h n)
theorem Hb{s:S}{el n:Nat}{vs:List V}(h:n=vs.length):loadCells (s.alloc (.cells el false 1 [⟨0,0,vs⟩])) ⟨s.next,0,0⟩ n=some vs:=by
 grind [Ha,gz]
theorem yH(h:FI b P0 g t L tv LO){ty:TypeId}{len:Nat}{parts:List (Nat×Operand)}{κ:D->ah}(e:fo P t ty len parts κ=some out)(ho:∀ x∈parts,uO g LO t tv x.2) :
 ∃ d v s',κ d=some out/\bD P g.s ty len (cZ tv parts)=some (.val v s')/\sr b P0 g t L tv LO L g.H s' fun g' _=>RD g' d v:=by
 unfold fo at e
 split at e
 ·rename_i el hu
  split at e
  ·rename_i z hz
   obtain⟨zv,h1,_,h3,h4⟩:=gP (g:=g) hz
   split at e
   ·rename_i n hn
    obtain⟨hc,e⟩:=aE e
    simp only[Bool.and_eq_true,Bool.not_eq_true']at hc
    obtain⟨⟨hc1,hc2⟩,hc3⟩:=hc
    have hn0:0<n:=Nat.pos_of_ne_zero fun q=>by subst q;simp at hc2
    have hzl:z.cells.length=n:=Nat.eq_of_beq_eq_true hc3
    have hzv:zv.cells.length=n:=by rw[h3.len,hzl]
    obtain⟨l',vs',ws,k1,k2,k3,k4,k5,k6,k7⟩:=lJ hn0 e ho (List.length_replicate ..) (fun x hx=>by rw[List.eq_of_mem_replicate hx];exact hzl) (h3.flat_rep len) (qY h4 len)
    have hv:bD P g.s ty len (cZ tv parts)=some (.val (.slice ⟨g.s.next,0,0⟩ 0 len (tN len n vs') n) (g.s.alloc (.cells el false 1 [⟨0,0,vs'⟩]))):=by
     grind [bD,Nat.beq_refl,Bool.not_false,Bool.and_self,jk,ba,aY]
    refine⟨_,_,_,k1,hv,g.blk (.cells el false 1 [⟨0,0,vs'⟩]),LO,rfl,rfl,h.blk _,GR h.ok h.bl _,.al h _ rfl,?_⟩
    have hfl:vs'.length=l'.length*n:=by rw[k6.len,ir k5]
    cases l' with
    |nil =>
     simp only[DV,RD]
     have h0:len=0:=by rw[<- k4];rfl
     have e:tN len n vs'=some 0:=by rw[h0];simp only[tN,Nat.beq_refl,Bool.not_true,Bool.and_false,cond_false]
     exact .inr ⟨_,_,_,by rw[e,h0]⟩
    |cons x r =>
     simp only[DV,RD]
     have hcl:∀ c,tN len n vs'=some c->(x::r).length<=c:=fun c hc=>by
      rcases Da len n vs' with q|⟨q,_⟩
      ·rw[q]at hc;cases hc;rw[k4];exact Nat.le_refl _
      ·rw[q]at hc;cases hc
     refine .inr (.inr ⟨⟨g.s.next,0,0⟩,0,tN len n vs',by rw[k4],hn0,.inr rfl,hcl,fun _=>⟨?_,fun hp=>?_,fun o v ho=>?_⟩,?_⟩)
     ·show _<(g.s.alloc _).next;rw[S.next_alloc];exact Nat.lt_succ_self _
     ·exact Nat.lt_irrefl _ (h.ok.pv _ hp)
     ·exact(Nat.lt_irrefl _ (h.ok.lt o _ v ho).1).elim
     ·exact RR.flat k5 (Hb hfl.symm) (k6.mono (GZ _)) k7
   ·cases e
  ·cases e
 ·cases e
theorem Kx(h:FI b P0 g t L tv LO):sr b P0 g t L tv LO L (g.H++[.map []]) (g.s.alloc (.map [] 0)) fun g' _=>RD g' (.map g.H.length) (.map g.s.next):=by
 refine⟨g.obj (.map []) (.map [] 0),LO,rfl,rfl,h.mkobj ⟨g.s.next,[],0,mA h.ok _ _,re _ _,rfl⟩,nD h.ok h.bl _ _,.al h _ rfl,?_⟩
 simp only[RD]
 exact⟨g.s.next,0,mA h.ok _ _,rfl⟩
end Go.AI
namespace Go.AI
variable[fE]
variable{b:Nat}{P0:List Nat}{g:Gh}{LO:List Nat}{t:T LD}{L:LS}{tv:T V}{P:Program}{out:iC}
theorem ua{s:S}{ty n:Nat}{a:Ad}{v:V}(hn:size P ty=some n)(hl:v.cells.length=n):storeVar P s ty a v=storeCells s a v.cells:=by
 grind [storeVar,Nat.beq_refl]
theorem jW(h:Ok g){o f ver:Nat}(ho:g.O[o]? = some (some (f,ver))){x:DB}(hx:g.H[o]? = some x)(hn:∀ sz cap l,x≠.buf sz false cap l):¬ g.Imm f:=fun hi=>by
 obtain⟨sz,cap,l,h1⟩:=hi.2.2 o ver ho
 grind
theorem PS{l:List (List D)}{i:Nat}{κ:List D->ah}(h:dM l i κ=some out):∃ cs,l[i]? = some cs/\κ cs=some out:=by
 grind [dM]
theorem Ar{cs new:List D}{c:Nat}{κ:List D->ah}(h:az cs c new κ=some out):∃ cs',uD cs c new=some cs'/\κ cs'=some out:=by
 grind [az]
theorem Pz(h:FI b P0 g t L tv LO){d:D}{new:List D}{κ:DH->ah}(e:sK d new g.H κ=some out){v:V}(r:RD g d v){ws:List V}(h3:RL g new ws)(h4:aK ws) :
 ∃ a s' H',v=.ptr a/\κ H'=some out/\storeCells g.s a ws=some s'/\sr b P0 g t L tv LO L H' s' fun _ _=>True:=by
 unfold sK at e
 split at e
 ·rename_i o c
  simp only[RD]at r
  obtain⟨f,ver,h1,rfl⟩:=r
  obtain⟨st,cs,f',el,vs,e,_,hc,h2,k1,k2,k3⟩:=Cd e (dV.refl g) h.ok
  rw[h1]at h2;cases h2
  obtain⟨cs',vs',e,j1,j2,j3,_⟩:=wC e k2 k3 h3 h4
  have hst:=Mt k1 c ws h4 j1
  have cc:tW g o (.cells (st+1) cs') f 0 0 (.cells st cs) (.cells el false 1 [⟨0,0,vs⟩]) (.cells el false 1 [⟨0,0,vs'⟩]) :=
   ⟨h1,hc,k1,⟨fun _ _ _ _ q=>by(cases q),fun _ _ _ q=>by(cases q)⟩,fun a n ws hi ha=>by rw[ha]at hi;exact(jW h.ok h1 hc (fun _ _ _ q=>by(cases q)) hi).elim,fun s1 c1 q=>by cases q;exact⟨_,rfl⟩⟩
  refine⟨_,_,_,rfl,e,hst,g.oput o (.cells (st+1) cs') f 0 (.cells el false 1 [⟨0,0,vs'⟩]),LO,rfl,rfl,h.oput cc ?_,iQ h.ok cc,.op h h1 rfl,trivial⟩
  exact⟨f,el,vs',aZ h1,dI,j2.mono (kg h.ok cc),j3⟩
 ·rename_i o n i c
  simp only[RD]at r
  obtain⟨sz,st,cap,l,e,hc,hc2,hn⟩:=kB e (dV.refl g)
  rcases r with⟨⟨_,_,_,k1⟩,_⟩|⟨f,ver,sz',st',cap',l',ver',h1,h2,h5,h6,rfl,h7⟩
  ·rw[hc2]at k1;cases k1
  rw[h2]at hc2;cases hc2
  obtain⟨hst,e⟩:=cT e
  subst hst
  obtain⟨cs,hcs,e⟩:=PS e
  ·obtain⟨i0,i1|⟨i1,f',ver2,el,nv,vers,cells,i2,i3,i4,i5,i6,i7⟩⟩:=h.ok.obj o _ h2
   ·rw[i1.1]at hcs;simp at hcs
   rw[h1]at i2;cases i2
   rw[h7 hn]
   obtain⟨ks,k1,k2,k3⟩:=i7.cells i1
   have hlens:=i7.lens
   have hcells:ks=cells:=by
    simp_all[loadCells,oX,Nat.sub_zero,List.drop_zero,dj,Option.some.inj]
   subst hcells
   obtain⟨cs',hcs',e⟩:=Ar e
   ·have hov:=wB hlens hcs hcs'
    obtain⟨vs',j1,j2,j3,j4⟩:=oD hov k2 k3 h3 h4
    have hcl:cs'.length=sz:=by
     obtain⟨x1,x2⟩:=i7.at hcs
     grind [oD]
    have hset:∀ y∈l.set i cs',y.length=sz:=fun y hy=>by
     grind
    have hst:storeCells g.s ⟨f,ver,i*sz+c⟩ ws=some (g.s.put f (.cells el false nv [⟨ver,0,vs'⟩])):=by
     unfold storeCells
     simp only[i3,i4,oX,Bool.true_and,Nat.sub_zero,j1]
     rw[show ws.all V.one=true from h4]
     rfl
    have cc:tW g o (.buf sz true cap (l.set i cs')) f ver ver (.buf sz true cap l) (.cells el false nv vers) (.cells el false nv [⟨ver,0,vs'⟩]) :=
     ⟨h1,h2,i3,⟨fun sz1 Mt cap1 l1 q=>by cases q;exact .inr ⟨true,cap,_,rfl,by rw[List.length_set];exact Nat.le_refl _,id,fun _=>⟨rfl,rfl⟩⟩,fun _ _ _ q=>by(cases q)⟩,fun a n ws hi ha=>by rw[ha]at hi;exact(jW h.ok h1 h2 (fun _ _ _ q=>by(cases q)) hi).elim,fun _ _ q=>by cases q⟩
    refine⟨_,_,_,rfl,e,hst,g.oput o (.buf sz true cap (l.set i cs')) f ver (.cells el false nv [⟨ver,0,vs'⟩]),LO,rfl,rfl,h.oput cc ?_,iQ h.ok cc,.op h h1 rfl,trivial⟩
    have hle:=kg h.ok cc
    have hvl:vs'.length=(l.set i cs').length*sz:=by rw[j2.len,ir hset]
    have hmem:(⟨ver,0,ks⟩:mK)∈vers:=(eM i4).1
    refine⟨i0,.inr ⟨fun q=>i1 (by have:=congrArg List.length q;rw[List.length_set]at this;exact List.eq_nil_of_length_eq_zero (by simpa using this)),f,ver,el,nv,[⟨ver,0,vs'⟩],vs',aZ h1,dI,?_,hvl,fun u hu=>?_,?_⟩⟩
    ·simp only[bu,Nat.beq_refl,cond_true]
    ·simp at hu;subst hu
     exact⟨(i6 _ hmem).1,by simp⟩
    ·refine RR.flat hset ?_ (j2.mono hle) j3
     unfold loadCells
     simp only[dI,Gh.oput,bu,Nat.beq_refl,cond_true,oX,Nat.sub_zero,List.drop_zero]
     exact dj _ _ hvl
 ·cases e
theorem Kb(h:FI b P0 g t L tv LO){ty:TypeId}{x:LD}{y:D}{κ:LS->DH->ah}(e:wd P ty x y L g.H κ=some out){v w:V}(r1:RS g LO x v)(r2:RD g y w) :
 ∃ s' L' H',κ L' H'=some out/\rN P g.s ty (some v) (some w)=some (.skip s')/\sr b P0 g t L tv LO L' H' s' fun _ _=>True:=by
 unfold wd at e
 split at e
 ·rename_i n hn
  dsimp only at e
  split at e
  ·cases e
  rename_i hn0
  obtain⟨new,e,k1,k2,k3⟩:=ml e r2
  cases x with
  |u=>cases e
  |g d =>
   simp only at e
   have r1:RD g d v:=r1
   obtain⟨a,s',H',rfl,e,j1,j2⟩:=Pz h e r1 k1 k2
   exact⟨s',L,H',e,by rw[uv,ua hn k3,j1];rfl,j2⟩
  |lp k c =>
   obtain⟨f,h1,rfl⟩:=r1
   simp only at e
   split at e
   ·rename_i st cs hc
    obtain⟨_,h2|⟨el,vs,h2,h3,h4⟩⟩:=h.own.2 k _ f hc h1
    ·simp only at h2
     subst h2
     obtain⟨cs',h3,_⟩:=Ar e
     cases new with
     |nil=>simp only[RL]at k1;rw[k1]at k3;simp at k3;subst k3;cases hn0
     |cons a r=>cases c<;>cases h3
    ·obtain⟨cs',vs',e,j1,j2,j3,_⟩:=wC e h3 h4 k1 k2
     have hst:=Mt h2 c w.cells k2 j1
     have hp:f∈g.Pv:=by rw[h.pv];exact List.mem_append_right _ (List.mem_of_getElem? h1)
     refine⟨_,_,_,e,by rw[uv,ua hn k3,hst];rfl,g.pput f (.cells el false 1 [⟨0,0,vs'⟩]),LO,rfl,rfl,h.pput h1 h2 j2 j3,PX h.ok hp (h.low f (List.mem_of_getElem? h1)) _,.put h hc h1 _ rfl,trivial⟩
   ·cases e
 ·cases e
theorem qu.upd{H:DH}(hs:dV H g)(hok:Ok g){kt:TypeId}{td:TypeDesc}(hu:P.underlying kt=some td)(hd:(rA td||zo P td)=true){k v:D}{kv vv:V}(hf:pU td k=true)(pk:Lx H k)(rk:RD g k kv)(rv:RD g v vv)(ho:kv.one=true)(clock:Nat):∀ {es es':List (D×D)} {ents:List oY},((∃ o c,k=.ptr o c)->∀ p∈es,Lx H p.1)->qu g es ents->Cj k v es=some es' ->
 ∃ u,cO (cw P (br g.s) 20 kt) kv vv ents=some u/\∃ ents',(match u with|some e=>ents'=e|none=>ents'=ents++[⟨kv,vv,clock⟩])/\qu g es' ents'
 |[],es',ents,_,h,e=>by
  simp only[qu]at h;subst h
  cases e
  exact⟨none,rfl,_,rfl,⟨_,_,rfl,rk,rv,ho,rfl⟩⟩
 |(x,w)::l,es',ents,ps,h,e=>by
  simp only[qu]at h
  obtain⟨⟨ke,ve,born⟩,r',rfl,h1,h2,h3,h4⟩:=h
  simp only[Cj]at e
  have px:∀ {q},nI k x=some q->Lx H x:=fun {q} hq o c ex=>by
   subst ex
   cases k<;>first|(cases hq;done)|exact ps ⟨_,_,rfl⟩ _ List.mem_cons_self o c rfl
  split at e
  ·rename_i hq
   cases e
   exact⟨some (⟨kv,vv,born⟩::r'),by simp only[cO,oI hs hok hu hd pk (px hq) hq hf rk h1,cO.setKey],_,rfl,⟨_,_,rfl,rk,rv,ho,h4⟩⟩
  ·rename_i hq
   split at e
   ·rename_i r hr
    cases e
    obtain⟨u,k1,ents',k2,k3⟩:=qu.upd hs hok hu hd hf pk rk rv ho clock (fun e p hp=>ps e p (List.mem_cons_of_mem _ hp)) h4 hr
    refine⟨u.map (⟨ke,ve,born⟩::·),?_,⟨ke,ve,born⟩::ents',?_,⟨_,_,rfl,h1,h2,h3,k3⟩⟩
    ·simp only[cO,oI hs hok hu hd pk (px hq) hq hf rk h1,cO.setKey,k1]
     grind
    grind
   ·cases e
  ·cases e
theorem xq{td:TypeDesc}{k:D}(h:pU td k=true):Oi k≠12/\Oi k≠13:=by
 unfold pU at h
 split at h
 ·split at h
  ·exact⟨(fun e=>by cases e),(fun e=>by cases e)⟩
  ·cases h
 ·split at h
  ·exact⟨(fun e=>by cases e),(fun e=>by cases e)⟩
  ·cases h
 ·split at h
  ·exact⟨(fun e=>by cases e),(fun e=>by cases e)⟩
  ·cases h
 ·split at h
  ·exact⟨(fun e=>by cases e),(fun e=>by cases e)⟩
  ·cases h
 ·cases h
theorem Ei(h:FI b P0 g t L tv LO){ty:TypeId}{m k v:D}{κ:DH->ah}(e:jY P ty m k v g.H κ=some out){mv kv vv:V}(r1:RD g m mv)(r2:RD g k kv)(r3:RD g v vv) :
 ∃ s' H',κ H'=some out/\fk P g.s ty (some mv) (some kv) (some vv)=some (.skip s')/\sr b P0 g t L tv LO L H' s' fun _ _=>True:=by
 unfold jY at e
 split at e
 ·rename_i td el hm
  obtain⟨kt,hu,hk,hd,hsk⟩:=nG hm
  split at e
  ·rename_i o
   obtain⟨hf,e⟩:=aE e
   simp only[RD]at r1
   obtain⟨f,ver,h1,rfl⟩:=r1
   obtain⟨es,f',ents,clock,e,_,h0,h2,h3,h4⟩:=yq e (dV.refl g) h.ok
   rw[h1]at h2;cases h2
   have hh:Lx g.H k/\((∃ o c,k=.ptr o c)->∀ p∈es,Lx g.H p.1)/\(mB k v es fun es=>κ (g.H.set o (.map es)))=some out:=by
    split at e
    ·obtain⟨hp,e⟩:=aE e
     simp only[Bool.and_eq_true]at hp
     exact⟨fun o c e=>by cases e;exact hp.1,fun _=>oG hp.2,e⟩
    ·rename_i hne
     exact⟨fun o c e=>(hne o c e).elim,fun⟨o,c,e⟩=>(hne o c e).elim,e⟩
   obtain⟨pk,ps,e⟩:=hh
   unfold mB at e
   split at e
   ·rename_i es' he
    obtain⟨u,k1,ents',k2,k3⟩:=h4.upd (dV.refl g) h.ok hk hd hf pk r2 r3 (r2.one (xq hf).1 (xq hf).2) clock ps he
    have cc:∀ c',tW g o (.map es') f 0 0 (.map es) (.map ents clock) (.map ents' c'):=fun c' =>
     ⟨h1,h0,h3,⟨fun _ _ _ _ q=>by(cases q),fun _ _ _ q=>by(cases q)⟩,fun a n ws hi ha=>by rw[ha]at hi;exact(jW h.ok h1 h0 (fun _ _ _ q=>by(cases q)) hi).elim,fun _ _ q=>by cases q⟩
    have fin:∀ c',sr b P0 g t L tv LO L (g.H.set o (.map es')) (g.s.put f (.map ents' c')) fun _ _=>True:=fun c' =>
     ⟨g.oput o (.map es') f 0 (.map ents' c'),LO,rfl,rfl,h.oput (cc c') ⟨f,ents',c',aZ h1,dI,k3.mono (kg h.ok (cc c'))⟩,iQ h.ok (cc c'),.op h h1 rfl,trivial⟩
    cases u with
    |some q =>
     simp only at k2;subst k2
     exact⟨_,_,e,by simp only[fk,hu,h3,hsk,cond_true,k1,uR],fin clock⟩
    |none =>
     simp only at k2;subst k2
     exact⟨_,_,e,by simp only[fk,hu,h3,hsk,cond_true,k1,uR],fin (clock+1)⟩
   ·cases e
  ·cases e
 ·cases e
end Go.AI
namespace Go.AI
variable[fE]
variable{b:Nat}{P0:List Nat}{g:Gh}{LO:List Nat}{t:T LD}{L:LS}{tv:T V}{P:Program}{out:iC}
theorem tP{sz:Nat}{st cap:Bool}{l:List (List D)}{B:dS}{el:Nat}{vs:List V}(h:Ok g)(h0:0<sz)(hl:l≠[])(hn:∀ x∈l,x.length=sz)(hB:B=.cells el false 1 [⟨0,0,vs⟩])(hr:RL g l.flatten vs)(ho:aK vs) :
 jM (g.obj (.buf sz st cap l) B) g.H.length (.buf sz st cap l):=by
 subst hB
 have hfl:vs.length=l.length*sz:=by rw[hr.len,ir hn]
 refine⟨h0,.inr ⟨hl,g.s.next,0,el,1,_,vs,mA h _ _,re _ _,by simp only[bu,Nat.beq_refl,cond_true],hfl,fun u hu=>?_,RR.flat hn (Hb hfl.symm) (hr.mono (xk h.len _ _)) ho⟩⟩
 simp at hu;subst hu;exact⟨Nat.lt_succ_self _,by simp⟩
theorem Qa(h:FI b P0 g t L tv LO){el ty n:Nat}(hu:P.underlying ty=some (.slice el)){κ:List (List D)->Nat->ah}(e:Ns P el n κ=some out) :
 ∃ l sz v s',κ l sz=some out/\eo P g.s ty (some n) (some n)=some (.val v s')/\sr b P0 g t L tv LO L (g.H++[.buf sz true true l]) s' fun g' _=>RD g' (.buf sz g.H.length n) v:=by
 unfold Ns at e
 split at e
 ·rename_i z hz
  obtain⟨zv,h1,_,h3,h4⟩:=gP (g:=g) hz
  split at e
  ·rename_i sz hs
   obtain⟨hc,e⟩:=aE e
   obtain⟨hd,e⟩:=cT e
   simp only[Bool.and_eq_true,Bool.not_eq_true']at hc hd
   obtain⟨hc1,hc2⟩:=hc
   obtain⟨hd1,hd2⟩:=hd
   have hn0:0<sz:=Nat.pos_of_ne_zero fun q=>by subst q;simp at hc1
   have hzl:z.cells.length=sz:=Nat.eq_of_beq_eq_true hc2
   have hzv:zv.cells.length=sz:=by rw[h3.len,hzl]
   have hlen:∀ x∈List.replicate n z.cells,x.length=sz:=fun x hx=>by rw[List.eq_of_mem_replicate hx];exact hzl
   have hv:eo P g.s ty (some n) (some n)=some (.val (.slice ⟨g.s.next,0,0⟩ 0 n (some n) sz) (g.s.alloc (.cells el false 1 [⟨0,0,(List.replicate n zv.cells).flatten⟩]))):=by
    simp_all[eo,Nat.ble_eq_true_of_le,Nat.le_refl,Nat.beq_refl,Bool.not_false,Bool.and_self,ba,aY]
   refine⟨_,sz,_,_,e,hv,?_⟩
   cases n with
   |zero =>
    have h':=h.blk (.cells el false 1 [⟨0,0,(List.replicate 0 zv.cells).flatten⟩])
    refine⟨(g.blk (.cells el false 1 [⟨0,0,(List.replicate 0 zv.cells).flatten⟩])).acc sz true,LO,rfl,rfl,h'.acc hn0 true,(GR h.ok h.bl _).trans (GU h'.ok sz true),.al h _ rfl,?_⟩
    simp only[RD]
    exact .inr ⟨true,true,[],gy _ _,Nat.le_refl _,.inl ⟨rfl,.inr ⟨_,_,_,rfl⟩⟩⟩
   |succ n =>
    have hne:List.replicate (n+1) z.cells≠[]:=by simp[List.replicate_succ]
    refine⟨g.obj (.buf sz true true (List.replicate (n+1) z.cells)) (.cells el false 1 [⟨0,0,(List.replicate (n+1) zv.cells).flatten⟩]),LO,rfl,rfl,h.mkobj (tP h.ok hn0 hne hlen rfl (h3.flat_rep _) (qY h4 _)),nD h.ok h.bl _ _,.al h _ rfl,?_⟩
    simp only[RD]
    exact .inr ⟨true,true,_,gy _ _,by simp,.inr ⟨Nat.succ_pos _,g.s.next,0,0,_,mA h.ok _ _,rfl,fun _=>⟨rfl,rfl⟩⟩⟩
  ·cases e
 ·cases e
theorem QQ(h:Ok g){y:D}{sz:Nat}{κ:List (List D)->ah}(e:EY y g.H sz κ=some out){v:V}(r:RD g y v)(hsz:0<sz) :
 ∃ els vs,κ els=some out/\iz g.s sz v=some (vs,els.length)/\RL g els.flatten vs/\aK vs/\∀ x∈els,x.length=sz:=by
 have emp:∀ {v:V},(v=.nilslice\/∃ a z cap sz',v=.slice a z 0 cap sz')->iz g.s sz v=some ([],0):=fun {v} hv=>by
  rcases hv with rfl|⟨a,z,cap,sz',rfl⟩<;>rfl
 have full:∀ {a:Ad} {z:Nat} {cap:Option Nat} {l:List (List D)},RR g a sz l->l≠[]->∃ vs,iz g.s sz (.slice a z l.length cap sz)=some (vs,l.length)/\RL g l.flatten vs/\aK vs/\∀ x∈l,x.length=sz:=fun {a z cap l} hr hl=>by
  obtain⟨vs,k1,k2,k3⟩:=hr.cells hl
  have h0:Nat.beq l.length 0=false:=by cases l with|nil=>exact(hl rfl).elim|cons _ _=>rfl
  have h1:Nat.beq sz 0=false:=by cases sz with|zero=>omega|succ _=>rfl
  exact⟨vs,by simp only[iz,h0,h1,Nat.beq_refl,cond_true,cond_false,k1],k2,k3,hr.lens⟩
 unfold EY at e
 split at e
 ·rename_i s l
  obtain⟨hb,e1⟩:=aE e
  clear e
  have e:=e1
  clear e1
  obtain rfl:=Nat.eq_of_beq_eq_true hb
  simp only[RD]at r
  rcases r with⟨rfl,rfl⟩|⟨rfl,a,z,sz',rfl⟩|⟨a,z,cap,rfl,_,_,_,_,h6⟩
  ·exact⟨[],[],e,emp (.inl rfl),by simp[RL],rfl,fun x hx=>by cases hx⟩
  ·exact⟨[],[],e,emp (.inr ⟨_,_,_,_,rfl⟩),by simp[RL],rfl,fun x hx=>by cases hx⟩
  ·by_cases hl:l=[]
   ·subst hl;exact⟨[],[],e,emp (.inr ⟨_,_,_,_,rfl⟩),by simp[RL],rfl,fun x hx=>by cases hx⟩
   ·obtain⟨vs,k1,k2⟩:=full (z:=z) (cap:=cap) h6 hl
    exact⟨l,vs,e,k1,k2⟩
 ·simp only[RD]at r
  refine⟨[],[],e,emp ?_,by simp[RL],rfl,fun x hx=>by cases hx⟩
  rcases r with rfl|⟨a,z,sz',rfl⟩
  ·exact .inl rfl
  ·exact .inr ⟨_,_,_,_,rfl⟩
 ·simp only[RD]at r
  exact⟨[],[],e,emp (.inl r),by simp[RL],rfl,fun x hx=>by cases hx⟩
 ·rename_i s o n
  obtain⟨hb,e1⟩:=aE e
  clear e
  obtain rfl:=Nat.eq_of_beq_eq_true hb
  obtain⟨sz',st,cap,l,e,_,h2,hn⟩:=kB e1 (dV.refl g)
  clear e1
  simp only[RD]at r
  rcases r with⟨⟨_,_,_,k1⟩,_⟩|⟨st',cap',l',h1,_,h3⟩
  ·rw[h2]at k1;cases k1
  rw[h2]at h1;cases h1
  rcases h3 with⟨hn0,h3⟩|⟨h3,f,ver,ver',c,h4,rfl,h5⟩
  ·have:l=[]:=List.eq_nil_of_length_eq_zero (by omega)
   subst this
   refine⟨[],[],e,emp ?_,by simp[RL],rfl,fun x hx=>by cases hx⟩
   rcases h3 with rfl|⟨a,z,sz',rfl⟩
   ·exact .inl rfl
   ·exact .inr ⟨_,_,_,_,rfl⟩
  ·obtain⟨rfl,rfl⟩:=h5 hn
   obtain⟨_,i1|⟨i1,f',ver2,el,nv,vers,cells,i2,_,_,_,_,i7⟩⟩:=h.obj o _ h2
   ·rw[i1.1]at hn;simp at hn;omega
   ·rw[h4]at i2;cases i2
    subst hn
    obtain⟨vs,k1,k2⟩:=full (z:=0) (cap:=HH cap l.length) i7 i1
    exact⟨l,vs,e,k1,k2⟩
 ·cases e
theorem EH(a c:List (List D)):(a++c).flatten=a.flatten++c.flatten:=by simp
theorem Eo{a c:List (List D)}{sz:Nat}(h:∀ x∈a,x.length=sz)(k:∀ x∈c,x.length=sz):∀ x∈a++c,x.length=sz:=fun x hx=>by
 grind
theorem nL{p:mK->Bool}:∀ {vers:List mK},(∀ u∈vers,p u=true)->vers.filter p=vers
 |[],_=>rfl
 |u::r,h=>by rw[List.filter_cons_of_pos (h u List.mem_cons_self),nL fun w hw=>h w (List.mem_cons_of_mem _ hw)]
theorem uK(h:FI b P0 g t L tv LO){ty:TypeId}{len:Nat}{parts:List (Nat×Operand)}{κ:D->DH->ah}(e:fo P t ty len parts (fun d=>Kj true d g.H κ)=some out)(ho:∀ x∈parts,uO g LO t tv x.2) :
 ∃ d H' v s',κ d H'=some out/\bD P g.s ty len (cZ tv parts)=some (.val v s')/\sr b P0 g t L tv LO L H' s' fun g' _=>RD g' d v:=by
 unfold fo at e
 split at e
 ·rename_i el hu
  split at e
  ·rename_i z hz
   obtain⟨zv,h1,_,h3,h4⟩:=gP (g:=g) hz
   split at e
   ·rename_i n hn
    obtain⟨hc,e⟩:=aE e
    simp only[Bool.and_eq_true,Bool.not_eq_true']at hc
    obtain⟨⟨hc1,hc2⟩,hc3⟩:=hc
    have hn0:0<n:=Nat.pos_of_ne_zero fun q=>by subst q;simp at hc2
    have hzl:z.cells.length=n:=Nat.eq_of_beq_eq_true hc3
    have hzv:zv.cells.length=n:=by rw[h3.len,hzl]
    obtain⟨l',vs',ws,k1,k2,k3,k4,k5,k6,k7⟩:=lJ hn0 e ho (List.length_replicate ..) (fun x hx=>by rw[List.eq_of_mem_replicate hx];exact hzl) (h3.flat_rep len) (qY h4 len)
    have hv:bD P g.s ty len (cZ tv parts)=some (.val (.slice ⟨g.s.next,0,0⟩ 0 len (tN len n vs') n) (g.s.alloc (.cells el false 1 [⟨0,0,vs'⟩]))):=by
     grind [bD,Nat.beq_refl,Bool.not_false,Bool.and_self,jk,ba,aY]
    have hfl:vs'.length=l'.length*n:=by rw[k6.len,ir k5]
    cases l' with
    |nil=>simp only[DV,Kj]at k1;cases k1
    |cons x r =>
     simp only[DV,Kj]at k1
     have hcap:tN len n vs'=none:=by
      have e1:Nat.beq vs'.length (len*n)=true:=by rw[hfl,k4];exact Nat.beq_refl _
      have e2:Nat.beq len 0=false:=by rw[<- k4];rfl
      simp only[tN,e1,e2,Bool.not_false,Bool.and_self,cond_true]
     have hl:(x::r)≠[]:=by simp
     refine⟨_,_,_,_,k1,hv,g.obj (.buf n true false (x::r)) (.cells el false 1 [⟨0,0,vs'⟩]),LO,rfl,rfl,h.mkobj (tP h.ok hn0 hl k5 rfl k6 k7),nD h.ok h.bl _ _,.al h _ rfl,?_⟩
     rw[hcap]
     simp only[RD]
     refine .inr ⟨true,false,x::r,gy _ _,Nat.le_refl _,.inr ⟨by simp,g.s.next,0,0,none,mA h.ok _ _,by rw[<- k4];rfl,fun _=>⟨rfl,rfl⟩⟩⟩
   ·cases e
  ·cases e
 ·cases e
theorem Re(h:FI b P0 g t L tv LO){ok:Nat->Bool}{sz:Nat}{x:D}{els:List (List D)}{κ:D->DH->ah}(e:cE ok sz x els g.H κ=some out){xv:V}(r:RD g x xv){vs:List V}(h1:RL g els.flatten vs)(h2:aK vs)(h3:∀ x∈els,x.length=sz)(h0:0<sz)(el:TypeId) :
 ∃ d H' v s',κ d H'=some out/\eB ok g.s el sz xv (some (vs,els.length))=some (v,s')/\sr b P0 g t L tv LO L H' s' fun g' _=>RD g' d v:=by
 unfold cE at e
 obtain⟨hm,e⟩:=cT e
 have emp:els=[]->∀ {v:V},(v=.nilslice\/∃ a z sz',v=.slice a z 0 (some 0) sz')->eB ok g.s el sz v (some (vs,els.length))=some (v,g.s):=fun he {v} hv=>by
  grind [eB,List.length_nil,Nat.beq_refl,gJ,Bool.and_self]
 have hnew:els≠[]->∀ {v:V},(v=.nilslice\/∃ a z sz',v=.slice a z 0 (some 0) sz')->eB ok g.s el sz v (some (vs,els.length))=some (.slice ⟨g.s.next,0,0⟩ 0 els.length none sz,g.s.alloc (.cells el false 1 [⟨0,0,vs⟩])):=fun he {v} hv=>by
  have hz:Nat.beq els.length 0=false:=by cases els with|nil=>exact(he rfl).elim|cons _ _=>rfl
  grind [eB,kj,ba,aY,gJ,Nat.beq_refl,Bool.and_self]
 have mk:∀ {st cap:Bool} {l:List (List D)} {ws:List V},l≠[]->(∀ x∈l,x.length=sz)->RL g l.flatten ws->aK ws->sr b P0 g t L tv LO L (g.H++[.buf sz st cap l]) (g.s.alloc (.cells el false 1 [⟨0,0,ws⟩])) fun g' _=>∀ c,c=HH cap l.length->RD g' (.buf sz g.H.length l.length) (.slice ⟨g.s.next,0,0⟩ 0 l.length c sz):=fun {st cap l ws} hl hn hr ho=>by
  refine⟨g.obj (.buf sz st cap l) (.cells el false 1 [⟨0,0,ws⟩]),LO,rfl,rfl,h.mkobj (tP h.ok h0 hl hn rfl hr ho),nD h.ok h.bl _ _,.al h _ rfl,fun c hc=>?_⟩
  simp only[RD]
  refine .inr ⟨st,cap,l,gy _ _,Nat.le_refl _,.inr ⟨?_,g.s.next,0,0,c,mA h.ok _ _,rfl,fun _=>⟨rfl,hc⟩⟩⟩
  grind
 split at e
 ·
  simp only[RD]at r
  split at e
  ·exact⟨_,_,xv,_,e,emp rfl r,sr.same h (by simp only[RD];exact r)⟩
  ·rename_i y ys
   obtain⟨g',LO',k1,k2,k3,k4,k5,k6⟩:=mk (st:=true) (cap:=false) (by simp) h3 h1 h2
   exact⟨_,_,_,_,e,hnew (by simp) r,g',LO',k1,k2,k3,k4,k5,k6 none rfl⟩
 ·
  simp only[RD]at r
  split at e
  ·exact⟨_,_,xv,_,e,emp rfl (.inl r),sr.same h (by simp only[RD];exact .inl r)⟩
  ·rename_i y ys
   obtain⟨g',LO',k1,k2,k3,k4,k5,k6⟩:=mk (st:=true) (cap:=false) (by simp) h3 h1 h2
   exact⟨_,_,_,_,e,hnew (by simp) (.inl r),g',LO',k1,k2,k3,k4,k5,k6 none rfl⟩
 ·
  rename_i s o n _
  obtain⟨hb,e1⟩:=aE e
  clear e
  obtain rfl:=Nat.eq_of_beq_eq_true hb
  obtain⟨sz',st,cap,l,e2,hc,hc2,hn⟩:=kB e1 (dV.refl g)
  clear e1
  obtain⟨hk,e⟩:=cT e2
  clear e2
  simp only[Bool.and_eq_true,Bool.not_eq_true']at hk
  obtain⟨hk1,hk2⟩:=hk
  simp only[RD]at r
  rcases r with⟨⟨_,_,_,k1⟩,_⟩|⟨st',cap',l',j1,_,j2⟩
  ·rw[hc2]at k1;cases k1
  rw[hc2]at j1;cases j1
  unfold grow at e
  by_cases hz:els=[]
  ·subst hz
   have hcap:cap=false:=by cases cap with|false=>rfl|true=>simp at hk2
   subst hcap
   simp only[cond_false,List.append_nil,List.length_nil,Nat.add_zero]at e
   have hH:g.H.set o (.buf s st false l)=g.H:=by
    apply List.ext_getElem?
    grind
   rw[hH,<- hn]at e
   have hv:eB ok g.s el s xv (some (vs,0))=some (xv,g.s):=by
    rcases j2 with⟨_,j2⟩|⟨j3,f,ver,ver',c,j4,rfl,j5⟩
    ·grind
    simp_all[zero,eB,Bool.false_and,Nat.beq_refl,Bool.true_and]
   exact⟨_,_,xv,_,e,hv,sr.same h (by simp only[RD];exact .inr ⟨st,false,l,hc2,by omega,j2⟩)⟩
  ·have hel:0<els.length:=by cases els with|nil=>exact(hz rfl).elim|cons _ _=>simp
   rcases j2 with⟨hn0,j2⟩|⟨j3,f,ver,ver',c,j4,rfl,j5⟩
   ·have hl:l=[]:=List.eq_nil_of_length_eq_zero (by omega)
    subst hl
    simp only[List.nil_append,List.length_nil,Nat.zero_add]at e
    cases cap with
    |true =>
     simp only[cond_true]at e
     obtain⟨g',LO',k1,k2,k3,k4,k5,k6⟩:=mk (st:=true) (cap:=false) hz h3 h1 h2
     exact⟨_,_,_,_,e,hnew hz j2,g',LO',k1,k2,k3,k4,k5,k6 none rfl⟩
    |false =>
     simp only[cond_false]at e
     have hO:g.O[o]? = some none:=by
      obtain⟨_,i1|⟨i1,_⟩⟩:=h.ok.obj o _ hc2
      ·exact i1.2
      grind
     have hfl:vs.length=els.length*s:=by rw[h1.len,ir h3]
     have hle:=Cs (B:=.cells el false 1 [⟨0,0,vs⟩]) h.ok hO hc2 rfl (st':=st) (cap':=false) id hz
     have hobj:jM (g.bnew o (.buf s st false els) (.cells el false 1 [⟨0,0,vs⟩])) o (.buf s st false els):=by
      refine⟨h0,.inr ⟨hz,g.s.next,0,el,1,_,vs,aZ hO,gz _ _,by simp only[bu,Nat.beq_refl,cond_true],hfl,fun u hu=>?_,RR.flat h3 (Hb hfl.symm) (h1.mono hle) h2⟩⟩
      grind
     refine⟨_,_,_,_,e,hnew hz j2,g.bnew o (.buf s st false els) (.cells el false 1 [⟨0,0,vs⟩]),LO,rfl,rfl,h.bnew hO hc2 rfl id hz hobj,IY h.ok h.bl hO hc2 rfl id hz,.al h _ rfl,?_⟩
     simp only[RD]
     exact .inr ⟨st,false,els,aZ hc2,Nat.le_refl _,.inr ⟨hel,g.s.next,0,0,none,aZ hO,rfl,fun _=>⟨rfl,rfl⟩⟩⟩
   ·obtain⟨rfl,rfl⟩:=j5 hn
    obtain⟨_,i1|⟨i1,f',ver2,el0,nv,vers,cells,i2,i3,i4,i5,i6,i7⟩⟩:=h.ok.obj o _ hc2
    ·rw[i1.1]at hn;simp at hn;omega
    rw[j4]at i2;cases i2
    subst hn
    have hnz:Nat.beq l.length 0=false:=by cases l with|nil=>exact(i1 rfl).elim|cons _ _=>rfl
    have hez:Nat.beq els.length 0=false:=by cases els with|nil=>exact(hz rfl).elim|cons _ _=>rfl
    obtain⟨ks,k1,k2,k3⟩:=i7.cells i1
    have hcells:ks=cells:=by
     have:loadCells g.s ⟨f,ver',0⟩ (l.length*s)=some cells:=by
      simp_all[loadCells,oX,Nat.sub_zero,List.drop_zero,dj]
     grind
    subst hcells
    have htk:aU (l.length*s) (ks.drop (0 - 0))=some ks:=by simpa using dj _ _ i5
    have hstart:eB ok g.s el s (.slice ⟨f,ver',0⟩ 0 l.length (HH cap l.length) s) (some (vs,els.length))=uj g.s el ⟨f,ver',0⟩ 0 l.length (HH cap l.length) s vs els.length:=by
     simp_all[eB,Bool.false_and,Nat.beq_refl,Bool.and_self]
    have hlen2:=Eo i7.lens h3
    have hr2:RL g (l++els).flatten (ks++vs):=by rw[EH];exact k2.append h1
    have ho2:=qZ k3 h2
    have hne2:l++els≠[]:=by simp[i1]
    cases cap with
    |true =>
     simp only[cond_true]at e
     obtain⟨g',LO',m1,m2,m3,m4,m5,m6⟩:=mk (st:=true) (cap:=false) hne2 hlen2 hr2 ho2
     have hno:Nat.ble (l.length+els.length) l.length=false:=by
      cases hq:Nat.ble (l.length+els.length) l.length with
      |false=>rfl
      |true=>have:=Nat.le_of_ble_eq_true hq;omega
     refine⟨_,_,_,_,e,?_,g',LO',m1,m2,m3,m4,m5,by have:=m6 none rfl;rwa [List.length_append]at this⟩
     rw[hstart]
     simp only[uj,i3,i4,oX,cond_true,htk,HH,Cx,hno,cond_false,kj,ba,aY]
    |false =>
     simp only[cond_false]at e
     have hfil:vers.filter (fun u=>Nat.ble (u.lo+u.cells.length) (0+l.length*s))=vers:=nL fun u hu=>Nat.ble_eq_true_of_le (by have:=(i6 u hu).2;omega)
     have hgrow:uj g.s el ⟨f,ver',0⟩ 0 l.length none s vs els.length=some (.slice ⟨f,nv,0⟩ 0 (l.length+els.length) none s,g.s.put f (.cells el0 false (nv+1) (⟨nv,0,ks++vs⟩::vers))):=by
      simp only[uj,i3,i4,oX,cond_true,htk,rI,hfil]
      rw[show vs.all V.one=true from h2];rfl
     have hold:∀ a n ws,a.f=f->loadCells g.s a n=some ws->loadCells (g.s.put f (.cells el0 false (nv+1) (⟨nv,0,ks++vs⟩::vers))) a n=some ws:=fun a n ws ha hld=>by
      grind [loadCells,dI,eM,Nat.eq_of_beq_eq_true,bu]
     have cc:tW g o (.buf s st false (l++els)) f ver' nv (.buf s st false l) (.cells el0 false nv vers) (.cells el0 false (nv+1) (⟨nv,0,ks++vs⟩::vers)) :=
      ⟨j4,hc2,i3,⟨fun sz1 Mt cap1 l1 q=>by cases q;exact .inr ⟨st,false,_,rfl,by rw[List.length_append];omega,id,fun q=>by rw[List.length_append]at q;omega⟩,fun _ _ _ q=>by(cases q)⟩,fun a n ws _ ha hld=>hold a n ws ha hld,fun _ _ q=>by cases q⟩
     have hle:=kg h.ok cc
     have hfl:(ks++vs).length=(l++els).length*s:=by rw[hr2.len,ir hlen2]
     have hobj:jM (g.oput o (.buf s st false (l++els)) f nv (.cells el0 false (nv+1) (⟨nv,0,ks++vs⟩::vers))) o (.buf s st false (l++els)):=by
      refine⟨h0,.inr ⟨hne2,f,nv,el0,nv+1,_,ks++vs,aZ j4,dI,by simp only[bu,Nat.beq_refl,cond_true],hfl,fun u hu=>?_,?_⟩⟩
      ·grind
      ·refine RR.flat hlen2 ?_ (hr2.mono hle) ho2
       unfold loadCells
       simp only[dI,Gh.oput,bu,Nat.beq_refl,cond_true,oX,Nat.sub_zero,List.drop_zero]
       exact dj _ _ hfl
     refine⟨_,_,_,_,e,by rw[hstart];exact hgrow,g.oput o (.buf s st false (l++els)) f nv (.cells el0 false (nv+1) (⟨nv,0,ks++vs⟩::vers)),LO,rfl,rfl,h.oput cc hobj,iQ h.ok cc,.op h j4 rfl,?_⟩
     simp only[RD]
     exact .inr ⟨st,false,l++els,aZ hc2,by rw[List.length_append];exact Nat.le_refl _,.inr ⟨by omega,f,nv,nv,none,aZ j4,rfl,fun _=>⟨rfl,rfl⟩⟩⟩
 ·
  rename_i s o st k _
  obtain⟨hb,e1⟩:=aE e
  clear e
  obtain rfl:=Nat.eq_of_beq_eq_true hb
  obtain⟨sz',l,e2,hc,hc2⟩:=Gc e1 (dV.refl g)
  clear e1
  obtain⟨hk,e⟩:=cT e2
  clear e2
  simp only[Bool.and_eq_true,Bool.not_eq_true',List.isEmpty_eq_false_iff]at hk
  obtain⟨hk1,hz⟩:=hk
  simp only[RD]at r
  obtain⟨f,ver,s',l',ver',j4,j1,_,rfl,j5⟩:=r
  rw[hc2]at j1;cases j1
  obtain⟨rfl,rfl⟩:=j5 rfl
  obtain⟨_,f',ver2,el0,nv,vers,cells,i2,i3,i4,i5,i6,i7⟩:=h.ok.obj o _ hc2
  rw[j4]at i2;cases i2
  have hez:Nat.beq els.length 0=false:=by cases els with|nil=>exact(hz rfl).elim|cons _ _=>rfl
  obtain⟨ks,k1,k2,k3⟩:∃ ks,aU (l.length*s) cells=some ks/\RL g l.flatten ks/\aK ks:=by
   by_cases i1:l=[]
   ·subst i1;exact⟨[],by simp[aU],by simp[RL],rfl⟩
   ·obtain⟨ks,k1,k2,k3⟩:=i7.cells i1
    refine⟨ks,?_,k2,k3⟩
    simpa[loadCells,i3,i4,oX]using k1
  have hlens:=i7.lens
  have hlen2:=Eo hlens h3
  have hr2:RL g (l++els).flatten (ks++vs):=by rw[EH];exact k2.append h1
  have ho2:=qZ k3 h2
  have hgrow:eB ok g.s el s (.slice ⟨f,ver',0⟩ 0 l.length none s) (some (vs,els.length))=some (.slice ⟨f,nv,0⟩ 0 (l.length+els.length) none s,g.s.put f (.cells el0 false (nv+1) (⟨nv,0,ks++vs⟩::vers.filter fun u=>Nat.ble (u.lo+u.cells.length) (0+l.length*s)))):=by
   simp only[eB,hm,cond_true,gJ,Bool.and_false,cond_false,Nat.beq_refl,hk1,Bool.and_self,hez,uj,i3,i4,oX,Nat.sub_zero,List.drop_zero,k1,rI]
   rw[show vs.all V.one=true from h2];rfl
  have cc:tW g o (.tbuf s (st+1) (l++els)) f ver' nv (.tbuf s st l) (.cells el0 false nv vers) (.cells el0 false (nv+1) (⟨nv,0,ks++vs⟩::vers.filter fun u=>Nat.ble (u.lo+u.cells.length) (0+l.length*s))) :=
   ⟨j4,hc2,i3,⟨fun _ _ _ _ q=>by(cases q),fun sz1 s1 l1 q=>by cases q;exact⟨_,_,rfl,Nat.lt_succ_self _⟩⟩,fun a n ws hi ha=>by rw[ha]at hi;exact(jW h.ok j4 hc2 (fun _ _ _ q=>by(cases q)) hi).elim,fun _ _ q=>by cases q⟩
  have hle:=kg h.ok cc
  have hfl:(ks++vs).length=(l++els).length*s:=by rw[hr2.len,ir hlen2]
  have hobj:jM (g.oput o (.tbuf s (st+1) (l++els)) f nv (.cells el0 false (nv+1) (⟨nv,0,ks++vs⟩::vers.filter fun u=>Nat.ble (u.lo+u.cells.length) (0+l.length*s)))) o (.tbuf s (st+1) (l++els)):=by
   refine⟨h0,f,nv,el0,nv+1,_,ks++vs,aZ j4,dI,by simp only[bu,Nat.beq_refl,cond_true],Nat.le_of_eq hfl.symm,fun u hu=>?_,?_⟩
   ·rcases List.mem_cons.1 hu with rfl|hu
    ·exact Nat.lt_succ_self _
    ·have:=i6 u (List.mem_filter.1 hu).1;omega
   ·refine RR.flat hlen2 ?_ (hr2.mono hle) ho2
    unfold loadCells
    simp only[dI,Gh.oput,bu,Nat.beq_refl,cond_true,oX,Nat.sub_zero,List.drop_zero]
    exact dj _ _ hfl
  refine⟨_,_,_,_,e,hgrow,g.oput o (.tbuf s (st+1) (l++els)) f nv (.cells el0 false (nv+1) (⟨nv,0,ks++vs⟩::vers.filter fun u=>Nat.ble (u.lo+u.cells.length) (0+l.length*s))),LO,rfl,rfl,h.oput cc hobj,iQ h.ok cc,.op h j4 rfl,?_⟩
  simp only[RD]
  exact⟨f,nv,st+1,l++els,nv,aZ j4,aZ hc2,Nat.le_refl _,rfl,fun _=>⟨by rw[List.length_append],rfl⟩⟩
 ·cases e
theorem HP(h:FI b P0 g t L tv LO){sT xT:TypeId}{x y:D}{κ:D->DH->ah}(e:sf P sT xT x y g.H κ=some out){xv yv:V}(r1:RD g x xv)(r2:RD g y yv) :
 ∃ d H' v s',κ d H'=some out/\se P sT xT g.s xv yv=some (v,s')/\sr b P0 g t L tv LO L H' s' fun g' _=>RD g' d v:=by
 unfold sf at e
 split at e
 ·rename_i elem hu
  dsimp only at e
  split at e
  ·cases e
  rename_i hni
  split at e
  ·rename_i sz hs
   split at e
   rotate_left
   ·cases e
   rename_i hok
   have h0:0<sz:=by
    grind [nT]
   obtain⟨els,vs,e,k1,k2,k3,k4⟩:=QQ h.ok e r2 h0
   obtain⟨d,H',v,s',e,j1,j2⟩:=Re h e r1 k2 k3 k4 h0 elem
   exact⟨d,H',v,s',e,by simp only[se,hu,hni,cond_true,hs,hok,k1];exact j1,j2⟩
  ·cases e
 ·cases e
end Go.AI
namespace Go.AI
variable[fE]
variable{b:Nat}{P0:List Nat}{g:Gh}{LO:List Nat}{t:T LD}{L:LS}{tv:T V}{P:Program}{out:iC}
def ow(g:Gh):Option D->Option V->Prop
 |none,none=>True
 |some d,some v=>RD g d v
 |_,_=>False
theorem oM{x:Option Operand}{κ:Option D->ah}(h:KO t x κ=some out)(hr:∀ y,x=some y->uO g LO t tv y):∃ d v,κ d=some out/\kW tv x=some v/\ow g d v:=by
 cases x with
 |none=>exact⟨none,none,h,rfl,trivial⟩
 |some x =>
  simp only[KO]at h
  obtain⟨d,v,h1,_,h2,h3⟩:=bq h (hr x rfl)
  exact⟨some d,some v,h1,by simp only[kW,h2],h3⟩
theorem dZ{o:Option D}{d:Nat}{κ:Nat->ah}(h:tR o d κ=some out){ov:Option V}(hr:ow g o ov):∃ n,κ n=some out/\eS ov d=some n/\(o=none->n=d):=by
 unfold tR at h
 split at h
 ·cases ov with
  |none=>exact hr.elim
  |some v =>
   have hr:RD g _ v:=hr
   simp only[RD]at hr
   subst hr
   obtain⟨m,rfl,h⟩:=ik h
   exact⟨m,h,rfl,fun e=>by cases e⟩
 ·cases h
 ·cases ov with
  |none=>exact⟨d,h,rfl,fun _=>rfl⟩
  |some _=>exact hr.elim
theorem ow.isSome{o:Option D}{ov:Option V}(h:ow g o ov):ov.isSome=o.isSome:=by
 cases o<;>cases ov<;>first|rfl|exact h.elim
theorem RR.take:∀ {l:List (List D)} {a:Ad} {sz:Nat} (n:Nat),RR g a sz l->RR g a sz (l.take n)
 |[],_,_,n,_=>by simp[RR]
 |x::l,a,sz,0,_=>by simp[RR]
 |x::l,a,sz,n+1,r=>by
  simp_all[RR,List.take_succ_cons,RR.take]
theorem sL{sz:Nat}{l:List (List D)}{lo hi:Option D}{κ:D->ah}(h:DN sz l lo hi κ=some out){v:V}(r:RD g (.row sz l) v){lov hiv:Option V}(r1:ow g lo lov)(r2:ow g hi hiv){ty e:TypeId}(hu:P.underlying ty=some (.slice e))(hs:size P e=some sz) :
 ∃ d v',κ d=some out/\cH P ty v lov hiv none=some v'/\RD g d v':=by
 unfold DN at h
 obtain⟨hn,e1,h1,_⟩:=dZ h r2
 obtain⟨bn,e2,h2,_⟩:=dZ e1 r1
 clear e1 h
 obtain⟨hb,h⟩:=cT e2
 clear e2
 simp only[Bool.and_eq_true]at hb
 have hle:=Nat.le_of_ble_eq_true hb.1
 obtain rfl:=Nat.eq_of_beq_eq_true hb.2
 have zero:l=[]->(bL (eS lov 0)&&bL (eS hiv 0)&&bL (eS none 0))=true:=fun hl=>by
  subst hl
  have:hn=0:=by simpa using hle
  subst this
  simp only[List.length_nil]at h1
  rw[h1,h2];rfl
 simp only[RD]at r
 rcases r with⟨rfl,rfl⟩|⟨rfl,a,z,sz',rfl⟩|⟨a,z,cap,rfl,k1,k2,k3,k4,k5⟩
 ·refine⟨_,.nilslice,h,?_,by simp only[RD];exact .inl ⟨by simp,trivial⟩⟩
  simp only[cH,hu,hs,zero rfl,cond_true,Option.isSome_none,Bool.false_and,cond_false]
 ·refine⟨_,.slice a z 0 (some 0) sz',h,?_,by simp only[RD];exact .inr (.inl ⟨by simp,a,z,sz',rfl⟩)⟩
  simp only[cH,hu,hs,gJ,Nat.beq_refl,Bool.and_self,Bool.or_true,cond_true,zero rfl,Option.isSome_none,Bool.false_and,Bool.not_false]
 ·by_cases hnc:(Nat.beq l.length 0&&gJ cap)=true
  ·simp only[Bool.and_eq_true]at hnc
   have hl:l=[]:=List.eq_nil_of_length_eq_zero (Nat.eq_of_beq_eq_true hnc.1)
   subst hl
   refine⟨_,.slice a z 0 cap sz,h,?_,?_⟩
   ·simp only[cH,hu,hs,List.length_nil,Nat.beq_refl,hnc.2,Bool.and_self,Bool.or_true,cond_true,zero rfl,Option.isSome_none,Bool.false_and,Bool.not_false]
   ·simp only[RD];exact .inr (.inr ⟨a,z,cap,by simp,k1,k2,fun c hc=>by simp,fun q=>by simp at q,by simp[RR]⟩)
  ·have hz:(Nat.beq sz 0||(Nat.beq l.length 0&&gJ cap))=false:=by
    cases sz with
    |zero=>omega
    |succ _=>cases hq:(Nat.beq l.length 0&&gJ cap)with
     |true=>exact(hnc hq).elim
     |false=>rfl
   have hlt:(l.take hn).length=hn:=by rw[List.length_take];omega
   cases cap with
   |some c =>
    have hc:=k3 c rfl
    have hc0:Nat.beq c 0=false:=by
     cases hq:Nat.beq c 0 with
     |false=>rfl
     |true =>
      have:=Nat.eq_of_beq_eq_true hq
      subst this
      have hl0:l.length=0:=by omega
      rw[hl0]at hnc
      exact(hnc rfl).elim
    refine⟨_,.slice (bN a (0*sz)) 0 (hn - 0) (some (c - 0)) sz,h,?_,?_⟩
    ·simp only[cH,hu,hs,hz,cond_false,Nat.beq_refl,Option.isSome_none,Bool.false_and,Bool.not_false,Bool.and_self,cond_true,h1,h2,Nat.ble_eq_true_of_le (Nat.le_trans hle hc),oX,hc0]
    ·simp only[RD]
     refine .inr (.inr ⟨bN a (0*sz),0,some (c - 0),by rw[hlt];rfl,k1,.inl rfl,fun c' hc'=>by cases hc';rw[hlt];omega,fun q=>k4 (fun e=>by subst e;simp at q),?_⟩)
     rw[show bN a (0*sz)=a by simp[bN]]
     exact k5.take hn
   |none =>
    have hza:z=a.c:=k2.elim (fun q=>by cases q) id
    refine⟨_,.slice a z hn none sz,h,?_,?_⟩
    ·simp only[cH,hu,hs,hz,cond_false,Nat.beq_refl,Option.isSome_none,Bool.false_and,Bool.not_false,Bool.and_self,cond_true,h1,h2,hb.1,oX]
    ·simp only[RD]
     exact .inr (.inr ⟨a,z,none,by rw[hlt],k1,.inr hza,(fun c' hc'=>by cases hc'),fun q=>k4 (fun e=>by subst e;simp at q),k5.take hn⟩)
theorem qH{ty e sz:TypeId}(hu:P.underlying ty=some (.slice e))(hs:size P e=some sz){v:V}(r:RD g .nilrow v\/∃ l,RD g (.row sz l) v){lov hiv:Option V}{m:V}(h1:eS lov 0=some 0)(h2:eS hiv 0=some 0)(h3:jX m=some 0)(h4:hiv.isSome=true) :
 ∃ v',cH P ty v lov hiv (some m)=some v'/\RD g .nilrow v':=by
 have zero:(bL (eS lov 0)&&bL (eS hiv 0)&&bL (eS (some m) 0))=true:=by
  rw[h1,h2];simp only[eS,h3];rfl
 have hd:∀ d,eS hiv d=some 0:=fun d=>by
  cases hiv with
  |none=>cases h4
  |some q=>exact h2
 have hnil:cH P ty .nilslice lov hiv (some m)=some .nilslice:=by
  simp_all[cH,zero,Option.isSome_some,Bool.not_true,Bool.and_false]
 have hno:∀ a z sz',cH P ty (.slice a z 0 (some 0) sz') lov hiv (some m)=some (.slice a z 0 (some 0) sz'):=fun a z sz'=>by
  simp only[cH,hu,hs,gJ,Nat.beq_refl,Bool.and_self,Bool.or_true,cond_true,zero,h4,Option.isSome_some,Bool.not_true,Bool.and_false,Bool.not_false]
 rcases r with r|⟨l,r⟩
 ·simp only[RD]at r
  rcases r with rfl|⟨a,z,sz',rfl⟩
  ·exact⟨_,hnil,by simp only[RD];exact .inl trivial⟩
  ·exact⟨_,hno a z sz',by simp only[RD];exact .inr ⟨a,z,sz',rfl⟩⟩
 ·simp only[RD]at r
  rcases r with⟨rfl,rfl⟩|⟨rfl,a,z,sz',rfl⟩|⟨a,z,cap,rfl,k1,k2,k3,k4,k5⟩
  ·exact⟨_,hnil,by simp only[RD];exact .inl trivial⟩
  ·exact⟨_,hno a z sz',by simp only[RD];exact .inr ⟨a,z,sz',rfl⟩⟩
  ·by_cases hnc:(Nat.beq l.length 0&&gJ cap)=true
   ·simp only[Bool.and_eq_true]at hnc
    have hl:=Nat.eq_of_beq_eq_true hnc.1
    rw[hl]
    have hc:cap=some 0:=by
     cases cap with
     |none=>cases hnc.2
     |some c=>rw[Nat.eq_of_beq_eq_true hnc.2]
    subst hc
    exact⟨_,hno a z sz,by simp only[RD];exact .inr ⟨a,z,sz,rfl⟩⟩
   ·have hz:(Nat.beq sz 0||(Nat.beq l.length 0&&gJ cap))=false:=by
     cases sz with
     |zero=>exact(Nat.lt_irrefl _ k1).elim
     |succ _=>cases hq:(Nat.beq l.length 0&&gJ cap)with
      |true=>exact(hnc hq).elim
      |false=>rfl
    have hk:(cap.isSome||Nat.blt 0 l.length||Nat.beq z a.c)=true:=by
     grind [Nat.beq_refl]
    refine⟨.slice a 0 (0 - 0) (some 0) sz,?_,by simp only[RD];exact .inr ⟨a,0,sz,rfl⟩⟩
    simp only[cH,hu,hs,hz,cond_false,Nat.beq_refl,h4,Option.isSome_some,Bool.not_true,Bool.and_false,Bool.not_false,Bool.and_self,cond_true,h1,hd,h3,oX,hk]
theorem Gm(h:FI b P0 g t L tv LO){ty:TypeId}{x:D}{lo hi mx:Option D}{κ:D->DH->ah}(e:cI P ty x lo hi mx g.H κ=some out){v:V}(r:RD g x v){lov hiv mxv:Option V}(r1:ow g lo lov)(r2:ow g hi hiv)(r3:ow g mx mxv) :
 ∃ d H' v',κ d H'=some out/\cH P ty v lov hiv mxv=some v'/\sr b P0 g t L tv LO L H' g.s fun g' _=>RD g' d v':=by
 unfold cI at e
 split at e
 ·rename_i hu
  split at e
  ·rename_i l
   simp only[RD]at r
   obtain⟨rfl,hb⟩:=r
   split at e
   ·cases mxv with
    |some _=>exact r3.elim
    |none =>
    obtain⟨hn,e,h1,_⟩:=dZ e r2
    obtain⟨bn,e,h2,_⟩:=dZ e r1
    obtain⟨hc,e⟩:=cT e
    refine⟨_,_,.str ((l.drop bn).take (hn - bn)),e,by simp only[cH,hu,h1,h2,hc,cond_true],sr.same h ?_⟩
    simp only[RD]
    exact⟨trivial,fun c hc=>hb c (List.mem_of_mem_drop (List.mem_of_mem_take hc))⟩
   ·cases e
  ·cases e
 ·rename_i el hu
  split at e
  ·rename_i sz hs
   split at e
   ·cases mxv with
    |some _=>exact r3.elim
    |none =>
    split at e
    ·rename_i s l
     obtain⟨hb,e1⟩:=aE e
     clear e
     have hb:=Nat.eq_of_beq_eq_true hb
     subst hb
     obtain⟨d,v',e,k1,k2⟩:=sL e1 r r1 r2 hu hs
     exact⟨d,_,v',e,k1,sr.same h k2⟩
    ·rename_i s o n
     obtain⟨sz',st,cap,l,e1,hc,hc2,hn⟩:=kB e (dV.refl g)
     clear e
     obtain⟨hb,e⟩:=cT e1
     clear e1
     have hb:=Nat.eq_of_beq_eq_true hb
     subst hb
     simp only[RD]at r
     have hsz:sz'=s:=by
      rcases r with⟨⟨_,_,_,k1⟩,_⟩|⟨st',cap',l',j1,_⟩
      ·rw[hc2]at k1;cases k1
      grind
     subst hsz
     have hr:=CB h.ok hc2 hn r
     have r1':ow (g.frz o sz' cap l) lo lov:=by cases lo<;>cases lov<;>first|exact r1|exact RD.mono (tg hc2) r1
     have r2':ow (g.frz o sz' cap l) hi hiv:=by cases hi<;>cases hiv<;>first|exact r2|exact RD.mono (tg hc2) r2
     obtain⟨d,v',e2,k1,k2⟩:=sL e hr r1' r2' hu hs
     exact⟨d,_,v',e2,k1,g.frz o sz' cap l,LO,rfl,rfl,h.frz hc2,GQ hc2,.ps rfl,k2⟩
    ·obtain⟨hn,e1,h1,_⟩:=dZ e r2
     obtain⟨bn,e2,h2,_⟩:=dZ e1 r1
     clear e e1
     obtain⟨hc,e⟩:=cT e2
     clear e2
     simp only[Bool.and_eq_true]at hc
     obtain rfl:=Nat.eq_of_beq_eq_true hc.1
     obtain rfl:=Nat.eq_of_beq_eq_true hc.2
     have zero:(bL (eS lov 0)&&bL (eS hiv 0)&&bL (eS none 0))=true:=by rw[h1,h2];rfl
     have r0:=r
     simp only[RD]at r
     refine⟨_,_,v,e,?_,sr.same h r0⟩
     rcases r with rfl|⟨a,z,sz',rfl⟩
     ·simp only[cH,hu,hs,zero,cond_true,Option.isSome_none,Bool.false_and,cond_false]
     ·simp only[cH,hu,hs,gJ,Nat.beq_refl,Bool.and_self,Bool.or_true,cond_true,zero,Option.isSome_none,Bool.false_and,Bool.not_false]
    ·cases e
   ·rename_i md
    cases mxv with
    |none=>exact r3.elim
    |some mv =>
    obtain⟨mn,e1,h3,_⟩:=dZ (o:=some md) (ov:=some mv) e r3
    obtain⟨hn,e2,h1,_⟩:=dZ e1 r2
    obtain⟨bn,e3,h2,_⟩:=dZ e2 r1
    clear e e1 e2
    obtain⟨hc,e⟩:=aE e3
    clear e3
    simp only[Bool.and_eq_true]at hc
    obtain⟨hc1,⟨hc2,hc3⟩,hc4⟩:=hc
    obtain rfl:=Nat.eq_of_beq_eq_true hc2
    obtain rfl:=Nat.eq_of_beq_eq_true hc3
    obtain rfl:=Nat.eq_of_beq_eq_true hc4
    have h4:hiv.isSome=true:=by rw[r2.isSome];exact hc1
    split at e
    ·rename_i s l
     obtain⟨hb,e1⟩:=aE e
     clear e
     have hb:=Nat.eq_of_beq_eq_true hb
     subst hb
     obtain⟨v',k1,k2⟩:=qH (g:=g) hu hs (.inr ⟨_,r⟩) h2 h1 h3 h4
     exact⟨_,_,v',e1,k1,sr.same h k2⟩
    ·rename_i s o n
     obtain⟨sz',st,cap,l,e1,hc,hc2,hn⟩:=kB e (dV.refl g)
     clear e
     obtain⟨hb,e⟩:=cT e1
     clear e1
     have hb:=Nat.eq_of_beq_eq_true hb
     subst hb
     simp only[RD]at r
     have hsz:sz'=s:=by
      rcases r with⟨⟨_,_,_,k1⟩,_⟩|⟨st',cap',l',j1,_⟩
      ·rw[hc2]at k1;cases k1
      grind
     subst hsz
     have hr:=CB h.ok hc2 hn r
     obtain⟨v',k1,k2⟩:=qH hu hs (.inr ⟨_,hr⟩) h2 h1 h3 h4
     simp only[RD]at k2
     exact⟨_,_,v',e,k1,sr.same h (by simp only[RD];exact k2)⟩
    ·obtain⟨v',k1,k2⟩:=qH (g:=g) hu hs (.inl r) h2 h1 h3 h4
     exact⟨_,_,v',e,k1,sr.same h k2⟩
    ·cases e
  ·cases e
 ·cases e
theorem Sp(h:FI b P0 g t L tv LO){ty:TypeId}{x:D}{lo hi mx:Option D}{κ:D->DH->ah}(e:Me P ty x lo hi mx g.H κ=some out){v:V}(r:RD g x v){lov hiv mxv:Option V}(r1:ow g lo lov)(r2:ow g hi hiv)(r3:ow g mx mxv) :
 ∃ d H' v',κ d H'=some out/\cH P ty v lov hiv mxv=some v'/\sr b P0 g t L tv LO L H' g.s fun g' _=>RD g' d v':=by
 unfold Me at e
 split at e
 ·rename_i el hu
  split at e
  ·rename_i sz hs
   split at e
   ·cases lov with
    |some _=>exact r1.elim
    |none =>
    split at e
    ·cases mxv with
     |some _=>exact r3.elim
     |none =>
     split at e
     ·rename_i k hn
      cases hiv with
      |none=>exact r2.elim
      |some hv =>
      have hv0:hv=.int k hn:=by have q:RD g (.int k hn) hv:=r2;simpa only[RD]using q
      subst hv0
      obtain⟨m,rfl,e1⟩:=ik e
      clear e r1 r2 r3
      have fin:∀ {f ver n:Nat},0<sz->m<=n->cH P ty (.slice ⟨f,ver,0⟩ 0 n none sz) none (some (.int k (m:Nat))) none=some (.slice ⟨f,ver,0⟩ 0 m none sz):=fun {f ver n} hz hm=>by
       have hz2:Nat.beq sz 0=false:=by cases sz with|zero=>cases hz|succ _=>rfl
       simp only[cH,hu,hs,hz2,gJ,Bool.and_false,Bool.or_false,cond_false,Nat.beq_refl,Option.isSome_none,Bool.false_and,Bool.not_false,Bool.and_self,cond_true,eS,jX,Nat.ble_eq_true_of_le hm,oX,Nat.sub_zero]
      have cutR:∀ {f ver el nv:Nat} {vers:List mK} {cells:List V} {o s:Nat} {l:List (List D)} {x0:DB},0<sz->g.O[o]? = some (some (f,ver))->g.s.get f=some (.cells el false nv vers)->bu vers ver=some ⟨ver,0,cells⟩->l.length*sz<=cells.length->(∀ u∈vers,u.v<nv)->RR g ⟨f,ver,0⟩ sz l->g.H[o]? = some x0->Pc sz s x0->m<=l.length ->
       sr b P0 g t L tv LO L (g.H.set o (.tbuf sz s (l.take m))) g.s fun g' _=>RD g' (.tb sz o s m) (.slice ⟨f,ver,0⟩ 0 m none sz):=fun {f ver el nv vers cells o s l x0} hz q1 q2 q3 q4 q5 q6 q7 q8 q9=>by
       have hle:=GY (l:=l.take m) q7 q8
       have hl:(l.take m).length=m:=by rw[List.length_take];omega
       refine⟨g.cut o sz s (l.take m),LO,rfl,rfl,h.cut q7 q8 ⟨hz,f,ver,el,nv,vers,cells,q1,q2,q3,?_,q5,(q6.keep hle rfl).take m⟩,Nq q7 q8,.ps rfl,?_⟩
       ·rw[hl];exact Nat.le_trans (Nat.mul_le_mul_right _ q9) q4
       ·simp only[RD]
        exact⟨f,ver,s,l.take m,ver,q1,aZ q7,Nat.le_refl _,rfl,fun _=>⟨hl.symm,rfl⟩⟩
      split at e1
      ·rename_i s o n
       obtain⟨hb,e2⟩:=aE e1
       clear e1
       have hb:=Nat.eq_of_beq_eq_true hb
       subst hb
       obtain⟨sz',st,cap,l,e3,hc,hc2,hn⟩:=kB e2 (dV.refl g)
       clear e2
       obtain⟨hk,e⟩:=cT e3
       clear e3
       simp only[Bool.and_eq_true,Bool.not_eq_true']at hk
       obtain⟨hk1,rfl,rfl,hk2,hk3⟩:=hk
       have hk1:=Nat.eq_of_beq_eq_true hk1
       subst hk1
       have hk2:=Nat.le_of_ble_eq_true hk2
       have hk3:0<n:=Nat.le_of_ble_eq_true hk3
       simp only[RD]at r
       rcases r with⟨⟨_,_,_,k1⟩,_⟩|⟨st',cap',l',j1,_,j2⟩
       ·rw[hc2]at k1;cases k1
       rw[hc2]at j1;cases j1
       rcases j2 with⟨j3,_⟩|⟨_,f,ver,ver',c,j4,rfl,j5⟩
       ·omega
       obtain⟨rfl,rfl⟩:=j5 hn
       obtain⟨hz,i1|⟨i1,f',ver2,el,nv,vers,cells,i2,i3,i4,i5,i6,i7⟩⟩:=h.ok.obj o _ hc2
       ·rw[i1.1]at hn;simp at hn;omega
       rw[j4]at i2;cases i2
       exact⟨_,_,_,e,fin hz hk2,cutR hz j4 i3 i4 (Nat.le_of_eq i5.symm) (fun u hu=>(i6 u hu).1) i7 hc2 (.inl ⟨_,_,rfl⟩) (by omega)⟩
      ·rename_i s o st n
       obtain⟨hb,e2⟩:=aE e1
       clear e1
       have hb:=Nat.eq_of_beq_eq_true hb
       subst hb
       obtain⟨sz',l,e3,hc,hc2⟩:=Gc e2 (dV.refl g)
       clear e2
       obtain⟨hk,e⟩:=cT e3
       clear e3
       simp only[Bool.and_eq_true]at hk
       have hk1:=Nat.eq_of_beq_eq_true hk.1
       subst hk1
       have hk2:=Nat.le_of_ble_eq_true hk.2
       simp only[RD]at r
       obtain⟨f,ver,s',l',ver',j4,j1,_,rfl,j5⟩:=r
       rw[hc2]at j1;cases j1
       obtain⟨rfl,rfl⟩:=j5 rfl
       obtain⟨hz,f',ver2,el,nv,vers,cells,i2,i3,i4,i5,i6,i7⟩:=h.ok.obj o _ hc2
       rw[j4]at i2;cases i2
       exact⟨_,_,_,e,fin hz hk2,cutR hz j4 i3 i4 i5 i6 i7 hc2 (.inr ⟨_,_,rfl,Nat.lt_succ_self _⟩) hk2⟩
      ·cases e1
     ·cases e
    ·cases e
   ·cases e
  ·cases e
 ·cases e
theorem Gn{ty:TypeId}{x:D}{lo hi mx:Option D}{κ:D->DH->ah}(e:cI P ty x lo hi mx [] κ=some out){v:V}(r:RD g x v){lov hiv mxv:Option V}(r1:ow g lo lov)(r2:ow g hi hiv)(r3:ow g mx mxv) :
 ∃ d v',κ d []=some out/\cH P ty v lov hiv mxv=some v'/\RD g d v':=by
 have nob:∀ {o n:Nat} {k:Nat->Bool->Bool->List (List D)->ah},gG [] o n k=some out->False:=fun h=>by simp[gG]at h
 unfold cI at e
 split at e
 ·rename_i hu
  split at e
  ·rename_i l
   simp only[RD]at r
   obtain⟨rfl,hb⟩:=r
   split at e
   ·cases mxv with
    |some _=>exact r3.elim
    |none =>
    obtain⟨hn,e,h1,_⟩:=dZ e r2
    obtain⟨bn,e,h2,_⟩:=dZ e r1
    obtain⟨hc,e⟩:=cT e
    refine⟨_,.str ((l.drop bn).take (hn - bn)),e,by simp only[cH,hu,h1,h2,hc,cond_true],?_⟩
    simp only[RD]
    exact⟨trivial,fun c hc=>hb c (List.mem_of_mem_drop (List.mem_of_mem_take hc))⟩
   ·cases e
  ·cases e
 ·rename_i el hu
  split at e
  ·rename_i sz hs
   split at e
   ·cases mxv with
    |some _=>exact r3.elim
    |none =>
    split at e
    ·rename_i s l
     obtain⟨hb,e1⟩:=aE e
     clear e
     have hb:=Nat.eq_of_beq_eq_true hb
     subst hb
     obtain⟨d,v',e,k1,k2⟩:=sL e1 r r1 r2 hu hs
     exact⟨d,v',e,k1,k2⟩
    ·exact(nob e).elim
    ·obtain⟨hn,e1,h1,_⟩:=dZ e r2
     obtain⟨bn,e2,h2,_⟩:=dZ e1 r1
     clear e e1
     obtain⟨hc,e⟩:=cT e2
     clear e2
     simp only[Bool.and_eq_true]at hc
     obtain rfl:=Nat.eq_of_beq_eq_true hc.1
     obtain rfl:=Nat.eq_of_beq_eq_true hc.2
     have zero:(bL (eS lov 0)&&bL (eS hiv 0)&&bL (eS none 0))=true:=by rw[h1,h2];rfl
     have r0:=r
     simp only[RD]at r
     refine⟨_,v,e,?_,r0⟩
     rcases r with rfl|⟨a,z,sz',rfl⟩
     ·simp only[cH,hu,hs,zero,cond_true,Option.isSome_none,Bool.false_and,cond_false]
     ·simp only[cH,hu,hs,gJ,Nat.beq_refl,Bool.and_self,Bool.or_true,cond_true,zero,Option.isSome_none,Bool.false_and,Bool.not_false]
    ·cases e
   ·rename_i md
    cases mxv with
    |none=>exact r3.elim
    |some mv =>
    obtain⟨mn,e1,h3,_⟩:=dZ (o:=some md) (ov:=some mv) e r3
    obtain⟨hn,e2,h1,_⟩:=dZ e1 r2
    obtain⟨bn,e3,h2,_⟩:=dZ e2 r1
    clear e e1 e2
    obtain⟨hc,e⟩:=aE e3
    clear e3
    simp only[Bool.and_eq_true]at hc
    obtain⟨hc1,⟨hc2,hc3⟩,hc4⟩:=hc
    obtain rfl:=Nat.eq_of_beq_eq_true hc2
    obtain rfl:=Nat.eq_of_beq_eq_true hc3
    obtain rfl:=Nat.eq_of_beq_eq_true hc4
    have h4:hiv.isSome=true:=by rw[r2.isSome];exact hc1
    split at e
    ·rename_i s l
     obtain⟨hb,e1⟩:=aE e
     clear e
     have hb:=Nat.eq_of_beq_eq_true hb
     subst hb
     obtain⟨v',k1,k2⟩:=qH (g:=g) hu hs (.inr ⟨_,r⟩) h2 h1 h3 h4
     exact⟨_,v',e1,k1,k2⟩
    ·exact(nob e).elim
    ·obtain⟨v',k1,k2⟩:=qH (g:=g) hu hs (.inl r) h2 h1 h3 h4
     exact⟨_,v',e,k1,k2⟩
    ·cases e
  ·cases e
 ·cases e
end Go.AI
namespace Go.AI
variable[fE]
variable{b:Nat}{P0:List Nat}{g:Gh}{LO:List Nat}{t:T LD}{L:LS}{tv:T V}{P:Program}{out:iC}{E:cF}
def Rf(t t':T LD)(tv:T V):Prop:=∀(Q:Nat->LD->V->Prop),(∀ i q,Q i (.g (.bool q)) (.bool q))->(∀ i x,t.get (eQ i)=some x->∃ v,tv.get (eQ i)=some v/\Q i x v)->∀ i x,t'.get (eQ i)=some x->∃ v,tv.get (eQ i)=some v/\Q i x v
theorem Rf.refl(t:T LD)(tv:T V):Rf t t tv:=fun _ _ h=>h
theorem Rf.rt{t t':T LD}(r:Rf t t' tv)(h:zN g LO t tv):zN g LO t' tv:=r (fun _ x v=>RS g LO x v) (fun _ q=>by show RD _ _ _;simp only[RD]) h
theorem wu{i:Nat}{q:Bool}(hv:tv.get (eQ i)=some (.bool q)):Rf t (T.set (some (.g (.bool q))) (eQ i) t) tv:=fun Q hq h j x hx=>by
 grind [T.get_set_same,T.get_setN]
theorem uZ{x:Operand}{q:Bool}(hv:eval tv x=some (.bool q)):Rf t (Iv t x q) tv:=by
 cases x with
 |tmp i=>exact wu hv
 |_=>exact Rf.refl t tv
theorem QZ{d:D}{x y:ah}(h:YT d x y=some out):∃ q,d=.bool q/\(bif q then x else y)=some out:=by
 unfold YT at h
 grind
theorem Bq{x y:ah}(h:JG x y=some out):x=some out/\y=some out:=by
 grind [JG]
theorem Dd{d:D}{x y:ah}(h:brD d x y=some out){v:V}(r:RD g d v):∃ q,v=.bool q/\(bif q then x else y)=some out:=by
 unfold brD at h
 grind [RD,Bq]
theorem PV{P:Program}{op:BinOp}{ty el:TypeId}{x y:Operand}{d:D}{κ:D->ah}(h:Ku op d κ=some out)(hu:P.underlying ty=some (.slice el)){v w:V}(r:RD g d v)(hy:pW y=true)(hw:eval tv y=some w)(s:S) :
 ∃ d' v',κ d'=some out/\dX P s op ty x y (some v) (some w)=some v'/\RD g d' v':=by
 have hw2:w=.nilslice:=by
  unfold pW at hy
  grind [eval,Option.some.inj]
 subst hw2
 unfold Ku at h
 obtain⟨hq,h⟩:=aE h
 have key:∀ {v:V},(v=.nilslice\/∃ a z n c sz,v=.slice a z n c sz)->∃ q,dX P s op ty x y (some v) (some .nilslice)=some (.bool q)/\((∃ a z n c sz,v=.slice a z n c sz)->q=Ta op):=fun {v} hv=>by
  have hg:eL P op ty x y v .nilslice=true:=by
   grind [eL]
  simp only[dX,hg,cond_true]
  rcases hv with rfl|⟨a,z,n,c,sz,rfl⟩
  ·cases op<;>first|(cases hq;done)|(simp only[eA,cw,hu,Option.map];exact⟨_,rfl,fun⟨a,z,n,c,sz,q⟩=>by cases q⟩)
  ·cases op<;>first|(cases hq;done)|(simp only[eA,cw,hu,Option.map];exact⟨_,rfl,fun _=>rfl⟩)
 split at h
 ·simp only[RD]at r
  obtain⟨q,h1,_⟩:=key (v:=v) (by rcases r with rfl|⟨a,z,sz,rfl⟩;exact .inl rfl;exact .inr ⟨_,_,_,_,_,rfl⟩)
  exact⟨_,_,h,h1,by simp only[RD];exact⟨q,rfl⟩⟩
 ·rename_i sz l _
  simp only[RD]at r
  cases l with
  |nil =>
   obtain⟨q,h1,_⟩:=key (v:=v) (by rcases r with⟨_,rfl⟩|⟨_,a,z,sz,rfl⟩|⟨a,z,cap,rfl,_⟩;exact .inl rfl;exact .inr ⟨_,_,_,_,_,rfl⟩;exact .inr ⟨_,_,_,_,_,rfl⟩)
   exact⟨_,_,h,h1,by simp only[RD];exact⟨q,rfl⟩⟩
  |cons e l =>
   rcases r with⟨q,_⟩|⟨q,_⟩|⟨a,z,cap,rfl,_⟩
   ·cases q
   ·cases q
   ·obtain⟨q,h1,h2⟩:=key (v:=.slice a z (e::l).length cap sz) (.inr ⟨_,_,_,_,_,rfl⟩)
    refine⟨_,_,h,h1,?_⟩
    rw[h2 ⟨_,_,_,_,_,rfl⟩]
    show RD _ _ _
    simp only[RD]
 ·rename_i sz o n _
  simp only[RD]at r
  have hv:(v=.nilslice\/∃ a z n c sz,v=.slice a z n c sz)/\(0<n->∃ a z n c sz,v=.slice a z n c sz):=by
   rcases r with⟨_,r⟩|⟨_,_,_,_,_,r⟩
   ·rcases r with⟨h0,r⟩|⟨a,z,c,rfl⟩
    ·refine⟨?_,fun q=>by omega⟩
     rcases r with rfl|⟨a,z,sz',rfl⟩
     ·exact .inl rfl
     ·exact .inr ⟨_,_,_,_,_,rfl⟩
    ·exact⟨.inr ⟨_,_,_,_,_,rfl⟩,fun _=>⟨_,_,_,_,_,rfl⟩⟩
   ·rcases r with⟨h0,r⟩|⟨_,f,ver,ver',cap',_,rfl,_⟩
    ·refine⟨?_,fun q=>by omega⟩
     rcases r with rfl|⟨a,z,sz',rfl⟩
     ·exact .inl rfl
     ·exact .inr ⟨_,_,_,_,_,rfl⟩
    ·exact⟨.inr ⟨_,_,_,_,_,rfl⟩,fun _=>⟨_,_,_,_,_,rfl⟩⟩
  obtain⟨q,h1,h2⟩:=key hv.1
  cases n with
  |zero=>exact⟨_,_,h,h1,by simp only[RD];exact⟨q,rfl⟩⟩
  |succ n =>
   refine⟨_,_,h,h1,?_⟩
   rw[h2 (hv.2 (by omega))]
   show RD _ _ _
   simp only[RD]
 ·cases h
theorem uO.set{x:Operand}{q:Bool}{c:Operand}(hc:eval tv c=some (.bool q))(h:uO g LO t tv x):uO g LO (Iv t c q) tv x:=by
 intro y hy
 cases x with
 |tmp j =>
  cases c with
  |tmp i =>
   simp only[gI,Iv]at hy
   by_cases hd:i=j
   ·subst hd
    rw[T.get_set_same]at hy
    cases hy
    exact⟨_,hc,by show RD _ _ _;simp only[RD]⟩
   ·rw[T.get_setN,if_neg hd]at hy
    exact h y hy
  |_=>exact h y hy
 |_=>exact h y hy
theorem ZF{ty:TypeId}{x:D}{lo hi mx:Option D}{κ:D->DH->ah}(e:Me P ty x lo hi mx [] κ=some out):False:=by
 unfold Me at e
 split at e
 ·split at e
  ·split at e
   ·split at e
    ·split at e
     ·obtain⟨m,_,e1⟩:=ik e
      split at e1
      ·have:=(aE e1).2;simp[gG]at this
      ·have:=(aE e1).2;simp[Ir]at this
      ·cases e1
     ·cases e
    ·cases e
   ·cases e
  ·cases e
 ·cases e
theorem lP(o:Op){esc:Bool}{H:DH}{κ:T LD->zb->ah}(hk:aF E.E.P o<=1)(hs:(∀ ty x lo hi mx,o≠.slice ty x lo hi mx)\/H=[])(ho:∀ x∈o.operands.toList,uO g LO t tv x)(hok:Ok g)(hl:Ve g L LO)(hH:dV H g)(e:jH o E esc t L H κ=some out) :
 ∃ t' d v,κ t' (.val d L H)=some out/\cy o E.E tv g.s=some (.val v g.s)/\RS g LO d v/\Rf t t' tv:=by
 have fin:∀ {d:D} {v:V} {r:Option V},κ t (.val (.g d) L H)=some out->r=some v->RD g d v->∃ t' d v,κ t' (.val d L H)=some out/\bv g.s r=some (.val v g.s)/\RS g LO d v/\Rf t t' tv:=fun h1 h2 h3=>⟨t,_,_,h1,by rw[h2];rfl,h3,.refl t tv⟩
 cases o with
 |move x =>
  obtain⟨d,v,h1,_,h2,h3⟩:=jq e (ho x (by simp[Op.operands]))
  exact⟨t,d,v,h1,by simp only[cy,h2];rfl,h3,.refl t tv⟩
 |assign x =>
  obtain⟨d,v,h1,_,h2,h3⟩:=jq e (ho x (by simp[Op.operands]))
  exact⟨t,d,v,h1,by simp only[cy,h2];rfl,h3,.refl t tv⟩
 |pick c x y =>
  simp only[jH,RM,qI]at e
  obtain⟨d,v,h1,_,h2,h3⟩:=bq e (ho c (by simp[Op.operands]))
  obtain⟨q,rfl,h4⟩:=QZ h1
  simp only[RD]at h3
  subst h3
  cases q with
  |true =>
   obtain⟨d',v',k1,_,k2,k3⟩:=jq (x:=x) h4 ((ho x (by simp[Op.operands])).set h2)
   exact⟨_,d',v',k1,by simp only[cy,mf,h2,cond_true,k2];rfl,k3,uZ h2⟩
  |false =>
   obtain⟨d',v',k1,_,k2,k3⟩:=jq (x:=y) h4 ((ho y (by simp[Op.operands])).set h2)
   exact⟨_,d',v',k1,by simp only[cy,mf,h2,cond_false,k2];rfl,k3,uZ h2⟩
 |build ty parts =>
  simp only[jH]at e
  have ho':∀ x∈parts.toList,uO g LO t tv x.2:=fun x hx=>ho x.2 (by simp only[Op.operands,List.mem_map];exact⟨x,hx,rfl⟩)
  cases esc
  ·obtain⟨d,v,h1,h2,h3⟩:=Ld (LO:=LO) (tv:=tv) (g:=g) e ho'
   exact fin h1 h2 h3
  ·obtain⟨d,v,h1,h2,h3⟩:=HK (LO:=LO) (tv:=tv) (g:=g) e ho'
   exact fin h1 h2 h3
 |load ty x =>
  obtain⟨d,v,h1,_,h2,h3⟩:=jq e (ho x (by simp[Op.operands]))
  obtain⟨d',v',k1,k2,k3⟩:=El h1 hH hok hl h3
  exact⟨t,_,v',k1,by simp only[cy,h2];exact k2,k3,.refl t tv⟩
 |nilCheck x =>
  obtain⟨d,v,h1,_,h2,h3⟩:=jq e (ho x (by simp[Op.operands]))
  obtain⟨k1,k2⟩:=QW h1 h3
  exact⟨t,d,v,k1,by simp only[cy,h2,k2];rfl,h3,.refl t tv⟩
 |binOp op ty x y yT =>
  obtain⟨a,v,h1,_,h2,h3⟩:=bq e (ho x (by simp[Op.operands]))
  obtain⟨c,w,h4,_,h5,h6⟩:=bq h1 (ho y (by simp[Op.operands]))
  cases hn:pW y with
  |true =>
   rw[hn]at h4;dsimp only at h4
   split at h4
   ·rename_i hu
    obtain⟨d,v',k1,k2,k3⟩:=PV (x:=x) h4 hu h3 hn h5 g.s
    exact fin k1 (by rw[h2,h5];exact k2) k3
   ·cases h4
  |false =>
  rw[hn]at h4;dsimp only at h4
  obtain⟨d,v',k1,k2,k3⟩:=OA hH hok h4 h3 h6
  exact fin k1 (by rw[h2,h5];exact k2) k3
 |unOp op ty x =>
  obtain⟨a,v,h1,_,h2,h3⟩:=bq e (ho x (by simp[Op.operands]))
  obtain⟨d,v',k1,k2,k3⟩:=Sl h1 h3
  exact fin k1 (by rw[h2];exact k2) k3
 |convert src dst x =>
  obtain⟨a,v,h1,_,h2,h3⟩:=bq e (ho x (by simp[Op.operands]))
  obtain⟨d,v',k1,k2,k3⟩:=Ot h1 h3 g.s
  exact⟨t,_,v',k1,by simp only[cy,h2,gE,k2];rfl,k3,.refl t tv⟩
 |makeInterface ty x =>
  obtain⟨a,v,h1,_,h2,h3⟩:=bq e (ho x (by simp[Op.operands]))
  split at h1
  ·cases h1
  ·rename_i hni hu
   refine fin (v:=.iface ty v) h1 ?_ (by simp only[RD];exact⟨v,rfl,h3⟩)
   rw[h2]
   unfold oO
   rw[hu]
   split
   ·rename_i q;exact(hni _ (Option.some.inj q)).elim
   ·rfl
   ·rename_i q;cases q
  ·cases h1
 |makeFunc fn first cap =>
  simp only[jH]at e
  split at e
  ·obtain⟨ds,vs,h1,h2,h3⟩:=jx e (fun x hx=>ho x (by simp[Op.operands]at hx ⊢;exact .inl hx))
   obtain⟨es,ws,h4,h5,h6⟩:=jx h1 (fun x hx=>ho x (by simp[Op.operands]at hx ⊢;exact .inr hx))
   refine fin (v:=.func (.func _) vs ws) h4 ?_ (by simp only[RD];exact⟨vs,ws,rfl,h3,h6⟩)
   simp only[rQ,h2,h5,Cl]
  ·cases e
 |fieldAddr ty x f =>
  obtain⟨d,v,h1,_,h2,h3⟩:=jq e (ho x (by simp[Op.operands]))
  obtain⟨d',v',k1,k2,k3⟩:=KN h1 h3
  exact⟨t,d',v',k1,by simp only[cy,h2,k2];rfl,k3,.refl t tv⟩
 |field ty x f =>
  obtain⟨a,v,h1,_,h2,h3⟩:=bq e (ho x (by simp[Op.operands]))
  obtain⟨d,v',k1,k2,k3⟩:=KM h1 h3
  exact fin k1 (by rw[h2];exact k2) k3
 |indexAddr ty x i =>
  simp only[jH]at e
  split at e
  ·rename_i len el ha
   obtain⟨d,v,h1,_,h2,h3⟩:=jq e (ho x (by simp[Op.operands]))
   obtain⟨c,w,h4,_,h5,h6⟩:=bq h1 (ho i (by simp[Op.operands]))
   obtain⟨d',v',k1,k2,k3⟩:=RA ha h4 h3 h6
   exact⟨t,d',v',k1,by simp only[cy,h2,h5,k2];rfl,k3,.refl t tv⟩
  ·obtain⟨a,v,h1,_,h2,h3⟩:=bq e (ho x (by simp[Op.operands]))
   obtain⟨c,w,h4,_,h5,h6⟩:=bq h1 (ho i (by simp[Op.operands]))
   obtain⟨d,v',k1,k2,k3⟩:=KF h4 h3 h6
   exact fin k1 (by rw[h2,h5];exact k2) k3
 |index ty x i =>
  obtain⟨a,v,h1,_,h2,h3⟩:=bq e (ho x (by simp[Op.operands]))
  obtain⟨c,w,h4,_,h5,h6⟩:=bq h1 (ho i (by simp[Op.operands]))
  obtain⟨d,v',k1,k2,k3⟩:=KE h4 h3 h6
  exact fin k1 (by rw[h2,h5];exact k2) k3
 |lookup ty x k ok =>
  obtain⟨a,v,h1,_,h2,h3⟩:=bq e (ho x (by simp[Op.operands]))
  obtain⟨c,w,h4,_,h5,h6⟩:=bq h1 (ho k (by simp[Op.operands]))
  obtain⟨d,v',k1,k2,k3⟩:=Ny h4 hH hok h3 h6
  exact fin k1 (by rw[h2,h5];exact k2) k3
 |typeAssert x xT ty ok =>
  obtain⟨a,v,h1,_,h2,h3⟩:=bq e (ho x (by simp[Op.operands]))
  obtain⟨d,v',k1,k2,k3⟩:=HO h1 h3
  exact fin k1 (by rw[h2];exact k2) k3
 |extract x i =>
  obtain⟨a,v,h1,_,h2,h3⟩:=bq e (ho x (by simp[Op.operands]))
  obtain⟨d,v',k1,k2,k3⟩:=QL h1 h3
  exact fin k1 (by rw[h2];exact k2) k3
 |slice ty x lo hi mx =>
  rcases hs with hs|rfl
  ·exact(hs _ _ _ _ _ rfl).elim
  obtain⟨d,v,h1,_,h2,h3⟩:=bq e (ho x (by simp[Op.operands]))
  obtain⟨d1,v1,h4,h5,h6⟩:=oM h1 (fun y hy=>ho y (by subst hy;simp[Op.operands]))
  obtain⟨d2,v2,h7,h8,h9⟩:=oM h4 (fun y hy=>ho y (by subst hy;simp[Op.operands]))
  obtain⟨d3,v3,i1,i2,i3⟩:=oM h7 (fun y hy=>ho y (by subst hy;simp[Op.operands]))
  cases esc
  rotate_left
  ·exact(ZF i1).elim
  obtain⟨d',v',k1,k2,k3⟩:=Gn i1 h3 h6 h9 i3
  exact fin k1 (by rw[h2,h5,h8,i2];exact k2) k3
 |call c =>
  simp only[jH]at e
  obtain⟨ds,vs,h1,h2,h3⟩:=jx e (fun x hx=>ho x (by simp[Op.operands,Call.operands]at hx ⊢;exact .inr hx))
  simp only[cy,h2,hJ]
  split at h1
  ·rename_i bi hc
   rw[hc]
   simp only[aF,hc]at hk
   simp only
   cases bi<;>first|(simp at hk;done)|skip
   case len =>
    simp only[mm]at h1
    simp only[iJ]
    split at h1
    ·rename_i a ha
     split at h1
     ·rename_i x
      simp only[RL]at h3
      obtain⟨v,vs',rfl,k1,rfl⟩:=h3
      obtain⟨d,v',j1,j2,j3⟩:=Ql h1 hH hok k1
      rw[ha]
      exact fin j1 j2 j3
     ·cases h1
    ·cases h1
   case max =>
    simp only[mm]at h1
    simp only[iJ]
    split at h1
    ·simp only[RL]at h3
     obtain⟨v,vs',rfl,k1,k2⟩:=h3
     obtain⟨d,v',j1,j2,j3⟩:=wT h1 k1 k2
     exact fin j1 j2 j3
    ·cases h1
   case min =>
    simp only[mm]at h1
    simp only[iJ]
    split at h1
    ·simp only[RL]at h3
     obtain⟨v,vs',rfl,k1,k2⟩:=h3
     obtain⟨d,v',j1,j2,j3⟩:=wT h1 k1 k2
     exact fin j1 j2 j3
    ·cases h1
   case cap=>cases h1
  ·rename_i f hc
   simp[aF,hc]at hk
  ·cases h1
 |_=>first|(cases e;done)|(simp[aF]at hk;done)
def Za(E:dA)(b:Nat)(P0:List Nat)(g:Gh)(t:T LD)(tv:T V)(L:LS)(LO:List Nat)(x:zb)(nx:Nx):Prop:=match x with
 |.val d L' H'=>∃ v s',nx=.val v s'/\sr b P0 g t L tv LO L' H' s' fun g' LO'=>RS g' LO' d v
 |.skip L' H'=>∃ s',nx=.skip s'/\sr b P0 g t L tv LO L' H' s' fun _ _=>True
 |.enter f args L' H'=>∃ vs,nx=.enter f vs g.s/\L'=L/\H'=g.H/\RL g args vs/\eK E f=true
 |.defer df L' H'=>∃ c a,nx=.defer (.call (.func df.fn) c a) g.s/\L'=L/\H'=g.H/\RL g df.captured c/\RL g df.args a/\eK E df.fn=true
 |.recover L' H'=>nx=.recover g.s/\L'=L/\H'=g.H
 |.panic d L' H'=>∃ v,nx=.panic v g.s/\L'=L/\H'=g.H/\RD g d v
 |.round o args L' H'=>∃ vs l v,nx=.round l vs g.s/\L'=L/\H'=g.H/\RL g args vs/\g.O[o]? = some (some (l,v))
theorem FI.rf(h:FI b P0 g t L tv LO){t':T LD}(r:Rf t t' tv):FI b P0 g t' L tv LO:=⟨h.ok,r.rt h.slots,h.own,h.pv,h.low,h.nd,h.bl⟩
theorem zN.ops(h:zN g LO t tv)(l:List Operand):∀ x∈l,uO g LO t tv x:=fun x _=>h.op x
theorem Cb(o:Op){esc:Bool}{κ:T LD->zb->ah}(h:FI b P0 g t L tv LO)(e:jH o E esc t L g.H κ=some out) :
 ∃ t' x nx,κ t' x=some out/\cy o E.E tv g.s=some nx/\Rf t t' tv/\Za E.E b P0 g t tv L LO x nx:=by
 have rd:aF E.E.P o<=1->(∀ ty x lo hi mx,o≠.slice ty x lo hi mx)->∃ t' x nx,κ t' x=some out/\cy o E.E tv g.s=some nx/\Rf t t' tv/\Za E.E b P0 g t tv L LO x nx:=fun hk hs=>by
  obtain⟨t',d,v,h1,h2,h3,h4⟩:=lP o hk (.inl hs) (h.slots.ops _) h.ok h.own.2 (dV.refl g) e
  exact⟨t',_,_,h1,h2,h4,v,g.s,rfl,sr.same h h3⟩
 cases o with
 |alloc elem =>
  simp only[jH]at e
  split at e
  ·rename_i z hz
   obtain⟨zv,h1,_,h3,h4⟩:=gP (g:=g) hz
   obtain⟨x,L',H',k1,k2⟩:=IW h e h3 h4 elem
   exact⟨t,_,_,k1,by simp only[cy,iX,h1,pj,ba,aY],.refl t tv,_,_,rfl,k2⟩
  ·cases e
 |box elem x =>
  simp only[jH]at e
  split at e
  ·obtain⟨d,v,h1,_,h2,h3⟩:=bq e (h.slots.op x)
   obtain⟨cs,h4,h5,h6,_⟩:=ml h1 h3
   obtain⟨x,L',H',k1,k2⟩:=IW h h4 h5 h6 elem
   exact⟨t,_,_,k1,by simp only[cy,rT,h2,pj,ba,aY],.refl t tv,_,_,rfl,k2⟩
  ·cases e
 |buildSlice ty len parts =>
  simp only[jH]at e
  cases esc with
  |false =>
   obtain⟨d,v,s',h1,h2,h3⟩:=yH h e (fun x _=>h.slots.op x.2)
   exact⟨t,_,_,h1,by simp only[cy];exact h2,.refl t tv,v,s',rfl,h3⟩
  |true =>
   obtain⟨d,H',v,s',h1,h2,h3⟩:=uK h e (fun x _=>h.slots.op x.2)
   exact⟨t,_,_,h1,by simp only[cy];exact h2,.refl t tv,v,s',rfl,h3⟩
 |store ty x y =>
  obtain⟨d,v,h1,_,h2,h3⟩:=jq e (h.slots.op x)
  obtain⟨c,w,h4,_,h5,h6⟩:=bq h1 (h.slots.op y)
  obtain⟨s',L',H',k1,k2,k3⟩:=Kb h h4 h3 h6
  exact⟨t,_,_,k1,by simp only[cy,h2,h5];exact k2,.refl t tv,s',rfl,k3⟩
 |makeMap ty n =>
  cases n with
  |some _=>cases e
  |none=>exact⟨t,_,_,e,rfl,.refl t tv,_,_,rfl,Kx h⟩
 |makeSlice ty l c =>
  simp only[jH]at e
  split at e
  ·rename_i el hu
   split at e
   ·rename_i i
    split at e
    ·rename_i j
     split at e
     ·cases e
     rename_i hb
     have hb:=Nat.eq_of_beq_eq_true hb
     subst hb
     obtain⟨d,v,h1,_,h2,h3⟩:=bq e (h.slots.op _)
     split at h1
     ·simp only[RD]at h3
      subst h3
      obtain⟨m,hm,h4⟩:=ik h1
      subst hm
      obtain⟨l,sz,v,s',k1,k2,k3⟩:=Qa h hu h4
      exact⟨t,_,_,k1,by simp only[cy,h2,cL,jX];exact k2,.refl t tv,v,s',rfl,k3⟩
     ·cases h1
    ·cases e
   ·cases e
  ·cases e
 |slice ty x lo hi mx =>
  obtain⟨d,v,h1,_,h2,h3⟩:=bq e (h.slots.op x)
  obtain⟨d1,v1,h4,h5,h6⟩:=oM h1 (fun y _=>h.slots.op y)
  obtain⟨d2,v2,h7,h8,h9⟩:=oM h4 (fun y _=>h.slots.op y)
  obtain⟨d3,v3,i1,i2,i3⟩:=oM h7 (fun y _=>h.slots.op y)
  cases esc
  ·obtain⟨d',H',v',k1,k2,k3⟩:=Gm h i1 h3 h6 h9 i3
   exact⟨t,_,_,k1,by simp only[cy,h2,h5,h8,i2,rO,k2];rfl,.refl t tv,v',g.s,rfl,k3⟩
  ·obtain⟨d',H',v',k1,k2,k3⟩:=Sp h i1 h3 h6 h9 i3
   exact⟨t,_,_,k1,by simp only[cy,h2,h5,h8,i2,rO,k2];rfl,.refl t tv,v',g.s,rfl,k3⟩
 |mapUpdate ty m k x =>
  obtain⟨d1,v1,h1,_,h2,h3⟩:=bq e (h.slots.op m)
  obtain⟨d2,v2,h4,_,h5,h6⟩:=bq h1 (h.slots.op k)
  obtain⟨d3,v3,h7,_,h8,h9⟩:=bq h4 (h.slots.op x)
  obtain⟨s',H',k1,k2,k3⟩:=Ei h h7 h3 h6 h9
  exact⟨t,_,_,k1,by simp only[cy,h2,h5,h8];exact k2,.refl t tv,s',rfl,k3⟩
 |insert ty m k x =>
  obtain⟨d1,v1,h1,_,h2,h3⟩:=bq e (h.slots.op m)
  obtain⟨d2,v2,h4,_,h5,h6⟩:=bq h1 (h.slots.op k)
  obtain⟨d3,v3,h7,_,h8,h9⟩:=bq h4 (h.slots.op x)
  obtain⟨s',H',k1,k2,k3⟩:=Ei h h7 h3 h6 h9
  exact⟨t,_,_,k1,by simp only[cy,h2,h5,h8];exact k2,.refl t tv,s',rfl,k3⟩
 |call c =>
  have e0:=e
  simp only[jH]at e
  obtain⟨ds,vs,h1,h2,h3⟩:=jx e (fun x _=>h.slots.op x)
  split at h1
  ·rename_i bi hc
   have pure:(bi=.len\/bi=.max\/bi=.min)->∃ t' x nx,κ t' x=some out/\cy (.call c) E.E tv g.s=some nx/\Rf t t' tv/\Za E.E b P0 g t tv L LO x nx:=fun hb=>by
    refine rd ?_ (fun _ _ _ _ _ q=>by cases q)
    grind [aF]
   cases bi<;>first|(cases h1;done)|exact pure (.inl rfl)|exact pure (.inr (.inl rfl))|exact pure (.inr (.inr rfl))|skip
   case append =>
    simp only[mm]at h1
    split at h1
    ·rename_i a ha
     split at h1
     ·rename_i c2 hb
      split at h1
      ·simp only[RL]at h3
       obtain⟨v1,vs1,rfl,k1,v2,vs2,rfl,k2,rfl⟩:=h3
       obtain⟨d,H',v,s',j1,j2,j3⟩:=HP h h1 k1 k2
       exact⟨t,_,_,j1,by simp only[cy,h2,hJ,hc,iJ,ha,hb,j2,iE],.refl t tv,v,s',rfl,j3⟩
      ·cases h1
     ·cases h1
    ·cases h1
   case recover=>exact⟨t,_,_,h1,by simp only[cy,h2,hJ,hc,iJ],.refl t tv,rfl,rfl,rfl⟩
   case panic =>
    simp only[mm]at h1
    split at h1
    ·simp only[RL,RD]at h3
     obtain⟨v1,vs1,rfl,⟨v',rfl,k1⟩,rfl⟩:=h3
     exact⟨t,_,.panic (.iface _ v') g.s,h1,by simp only[cy,h2,hJ,hc,iJ];rfl,.refl t tv,_,rfl,rfl,rfl,by simp only[RD];exact⟨v',rfl,k1⟩⟩
    ·cases h1
  ·rename_i f hc
   obtain⟨d,v,k1,_,k2,k3⟩:=bq h1 (h.slots.op f)
   split at k1
   ·unfold Ic at k1
    split at k1
    ·simp only[RD]at k3
     obtain⟨l,v',j1,rfl⟩:=k3
     exact⟨t,_,.round l vs g.s,k1,by simp only[cy,h2,hJ,hc,k2,JC,List.nil_append],.refl t tv,vs,l,v',rfl,rfl,rfl,h3,j1⟩
    ·cases k1
   unfold Db at k1
   split at k1
   ·rename_i gf first cap
    obtain⟨hb,k1⟩:=aE k1
    simp only[RD]at k3
    obtain⟨a',b',rfl,j1,j2⟩:=k3
    refine⟨t,_,_,k1,?_,.refl t tv,a'++(vs++b'),rfl,rfl,rfl,j1.append (h3.append j2),hb⟩
    simp only[cy,h2,hJ,hc,k2,JC,JD]
    unfold eK at hb
    split at hb
    ·rename_i fn hf
     rw[hf]
     simp only
     split
     ·rename_i q;rw[q]at hb;cases hb
     ·rfl
    ·cases hb
   ·cases k1
  ·cases h1
 |defer c =>
  simp only[jH]at e
  obtain⟨ds,vs,h1,h2,h3⟩:=jx e (fun x _=>h.slots.op x)
  split at h1
  ·rename_i f hc
   obtain⟨d,v,k1,_,k2,k3⟩:=bq h1 (h.slots.op f)
   split at k1
   ·obtain⟨hb,k1⟩:=aE k1
    simp only[RD]at k3
    obtain⟨a',b',rfl,j1,j2⟩:=k3
    exact⟨t,_,_,k1,by simp only[cy,h2,oR,hc,k2,CU],.refl t tv,b',a'++vs,rfl,rfl,rfl,j2,j1.append h3,hb⟩
   ·cases k1
  ·cases h1
 |panic x =>
  simp only[jH]at e
  obtain⟨d,v,k1,_,k2,k3⟩:=bq e (h.slots.op x)
  split at k1
  ·simp only[RD]at k3
   obtain⟨v',rfl,j1⟩:=k3
   exact⟨t,_,.panic (.iface _ v') g.s,k1,by simp only[cy,k2,vC];rfl,.refl t tv,_,rfl,rfl,rfl,by simp only[RD];exact⟨v',rfl,j1⟩⟩
  ·cases k1
 |convert src dst x =>
  refine rd ?_ (fun _ _ _ _ _ q=>by cases q)
  obtain⟨a,v,h1,_,h2,h3⟩:=bq e (h.slots.op x)
  unfold pD at h1
  revert h1
  cases (E.E.P.underlying src).isNone with
  |true=>intro h1;cases h1
  |false =>
   intro h1
   simp only[cond_false]at h1
   split at h1
   ·rename_i hu;simp[aF,hu]
   ·rename_i hu;simp[aF,hu]
   ·cases h1
 |binOp op ty x y yT=>exact rd (by simp only[aF];cases lU op<;>simp) (fun _ _ _ _ _ q=>by cases q)
 |_=>first
  |(cases e;done)
  |exact rd (by simp[aF]) (fun _ _ _ _ _ q=>by cases q)
end Go.AI
namespace Go.AI
theorem wI{i:Nat}(h:i<9223372036854775807):IntKind.wrap .i64 (((i:Nat):Int)+1)=((i+1:Nat):Int):=by
 rw[show((i:Nat):Int)+1=((i+1:Nat):Int)by omega];exact Id _ ⟨by omega,by omega⟩
end Go.AI
