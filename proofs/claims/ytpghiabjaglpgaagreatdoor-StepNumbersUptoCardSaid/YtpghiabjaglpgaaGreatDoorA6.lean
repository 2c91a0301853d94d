/- The evaluator by which runs of the program are reckoned, and that it is sound: part 6. No conditions beyond those of the row. -/
import Derived.Test.YtpghiabjaglpgaaGreatDoorA5
set_option linter.all false
noncomputable section
namespace Go.AI
def jI(E:cU)(n:Nat)(f:FuncId)(args:List V)(a:S)(v:V)(b:S):Bool :=
 match pf E n (.call f args none) a with
 |some ⟨.returned v',none,s'⟩=>aR [v] [v']&&PI b s'
 |_=>false
theorem du{E:cU}(hE:gZ E)(hO:rD E)(hD:dH E){n:Nat}{f:FuncId}{args:List V}{a:S}{v:V}{b:S}(h:jI E n f args a v b=true){s:S}(hs:VE a s):fB E.P f args none s ⟨.returned v,none,b⟩:=by
 unfold jI at h
 split at h
 ·rename_i v' s' hr
  simp only[Bool.and_eq_true]at h
  have h1:=cv h.1
  simp at h1
  subst h1
  exact Gs (kX hE hO hD n _ _ _ hr) hs (zX h.2)
 ·cases h
def rY(E:cU)(n:Nat)(f:FuncId)(args:List V)(v:V):Bool :=
 match pf E n (.call f args none) ⟨.leaf,0⟩with
 |some ⟨.returned v',none,_⟩=>aR [v] [v']
 |_=>false
def V.flat:V->Bool
 |.bool _=>true
 |.int _ _=>true
 |.str _=>true
 |.nilptr=>true
 |.nilslice=>true
 |.nilmap=>true
 |.nilFunc=>true
 |.nilIface=>true
 |_=>false
theorem EP{v:V}(h:v.flat=true):∀ ρ y,den ρ v=some y->∀ ρ',den ρ' v=some y:=by
 intro ρ y e ρ'
 cases v<;>simp[V.flat]at h<;>exact e
theorem AW:∀ {l:List V},l.all V.flat=true->∀ ρ ys,aN ρ l=some ys->aN aB.no l=some ys
 |[],_,_,_,e=>e
 |v::l,h,ρ,ys,e=>by
  simp only[List.all_cons,Bool.and_eq_true]at h
  obtain⟨y,q,h1,h2,rfl⟩:=aM.1 e
  exact aM.2 ⟨y,q,EP h.1 _ _ h1 _,AW h.2 _ _ h2,rfl⟩
theorem iz{E:cU}(hE:gZ E)(hO:rD E)(hD:dH E){n:Nat}{f:FuncId}{args:List V}{v:V}(h:rY E n f args v=true)(ha:args.all V.flat=true)(hv:v.flat=true)(s:S):fB E.P f args none s ⟨.returned v,none,s⟩:=by
 unfold rY at h
 split at h
 ·rename_i v' s' hr
  have h1:=cv h
  simp at h1
  subst h1
  exact DL (kX hE hO hD n _ _ _ hr) (AW ha) (EP hv) s
 ·cases h
structure jE where
 f:FuncId
 args:List V
 a:S
 v:V
 b:S
def jE.fits(k:jE)(f:FuncId)(args:List V)(s:S):Bool:=Nat.beq f k.f&&(aR args k.args&&PI k.a s)
def vn:List jE->FuncId->List V->S->Option (V×S)
 |[],_,_,_=>none
 |k::r,f,args,s=>bif k.fits f args s then some (k.v,k.b)else vn r f args s
theorem qD:∀ {l:List jE} {f:FuncId} {args:List V} {s:S} {v:V} {s':S},vn l f args s=some (v,s')->∃ k∈l,k.f=f/\k.args=args/\VE k.a s/\k.v=v/\k.b=s'
 |[],_,_,_,_,_,h=>by cases h
 |k::r,f,args,s,v,s',h=>by
  simp only[vn]at h
  cases hb:k.fits f args s with
  |true =>
   rw[hb]at h
   cases h
   unfold jE.fits at hb
   simp only[Bool.and_eq_true]at hb
   exact⟨k,by simp,(Nat.eq_of_beq_eq_true hb.1).symm,(cv hb.2.1).symm,zX hb.2.2,rfl,rfl⟩
  |false =>
   rw[hb]at h
   obtain⟨k',h1,h2⟩:=qD h
   exact⟨k',List.mem_cons_of_mem _ h1,h2⟩
def gv(f0:FuncId)(l:List (List Nat×V))(f:FuncId)(args:List V)(s:S):Option (V×S):=bif Nat.beq f f0 then look args l else none
 where
  look:List V->List (List Nat×V)->Option (V×S)
   |[.str x],(y,v)::r=>bif x==y then some (v,s)else look [.str x] r
   |_,_=>none
theorem Ax{s:S}:∀ {l:List (List Nat×V)} {args:List V} {v:V} {s':S},gv.look s args l=some (v,s')->∃ x,args=[.str x]/\(x,v)∈l/\s'=s
 |[],args,v,s',h=>by
  have:gv.look s args []=none:=by cases args with
   |nil=>rfl
   |cons a r=>cases a<;>cases r<;>rfl
  rw[this]at h;cases h
 |(y,u)::r,args,v,s',h=>by
  unfold gv.look at h
  split at h
  ·rename_i x y' u' r' he
   cases he
   cases hb:(x==y)with
   |true =>
    rw[hb]at h
    cases h
    have:x=y:=by simpa using hb
    subst this
    exact⟨x,rfl,by simp,rfl⟩
   |false =>
    rw[hb]at h
    obtain⟨x',h1,h2,h3⟩:=Ax h
    exact⟨x',h1,List.mem_cons_of_mem _ h2,h3⟩
  ·cases h
theorem wS{f0:FuncId}{l:List (List Nat×V)}{f:FuncId}{args:List V}{s:S}{v:V}{s':S}(h:gv f0 l f args s=some (v,s')):f=f0/\∃ x,args=[.str x]/\(x,v)∈l/\s'=s:=by
 unfold gv at h
 cases hb:Nat.beq f f0 with
 |false=>rw[hb]at h;cases h
 |true=>rw[hb]at h;exact⟨Nat.eq_of_beq_eq_true hb,Ax h⟩
def FC(m:Nat):List Nat->Nat
 |[]=>0
 |e::r=>bif m.testBit e then 1 else FC m r+1
def th(ms:List Nat)(effs m:Nat)(H:List Nat):List (Nat×Oper)->Nat->Option (List (Option Nat×Nat)×Nat)
 |[],done=>some ([],done)
 |(i,_)::r,done =>
  bif !(m.testBit i)||done.testBit i then th ms effs m H r done
  else bif effs.testBit i then none
  else match th ms effs m H r (Nat.lor done (Nat.pow 2 i))with
   |some (l,d)=>some ((some (FC (ms.getD i 0) H),i)::l,d)
   |none=>none
def yi(ms:List Nat)(effs n:Nat)(all:List (Nat×Oper)):List (Nat×Oper)->List Nat->Nat->Option (List (Option Nat×Nat))
 |[],H,done=>match th ms effs (Nat.pow 2 n - 1) H all done with
  |some (l,_)=>some l
  |none=>none
 |(i,_)::r,H,done=>match th ms effs (ms.getD i 0) H all done with
  |some (l,d)=>bif !(d.testBit i)&&effs.testBit i then(match yi ms effs n all r (i::H) (Nat.lor d (Nat.pow 2 i))with
   |some l2=>some (l++(none,i)::l2)
   |none=>none)else none
  |none=>none
def Ms(P:Program)(ops:Array Oper):Option (List (Option Nat×Nat)):=match MR P ops with
 |some ⟨ms,l,es,mask⟩=>yi ms mask ops.size l es [ops.size] 0
 |none=>none
def mO(E:cU)(hist:List S)(t:T V)(s:S)(o:Oper):Nat->Option (V×S)
 |0=>uY s (cT E t s o)
 |1=>qh s (fO E t o hist)
 |2=>uZ (cT E t s o)
 |_=>none
def iY(E:cU)(hist:List S)(t:T V)(s:S)(o:Oper):Option Bool->Option (V×S)
 |some true=>mO E hist t s o (aD E.P o.op)
 |some false=>some (V.undef,s)
 |none=>none
def hU(E:cU)(ops:Array Oper)(rec:gA)(ds:List dX)(up:Option Md):List (Option Nat×Nat)->List S->T V->S->Option kG
 |[],_,t,s=>some (.on t ds up s)
 |(c,i)::r,hist,t,s=>match ops[i]? with
  |none=>none
  |some o=>match c with
   |some c=>match iY E (hist.take c) t s o (bw ops t o)with
    |some (v,s)=>hU E ops rec ds up r hist (putD t o.dst v) s
    |none=>none
   |none=>match eU E rec t s o (bw ops t o)with
    |some (v,s')=>bif Nat.ble s.next s'.next then hU E ops rec ds up r (s'::hist) (putD t o.dst v) s' else none
    |none=>none
theorem tA(m:Nat):∀(h:List (Nat×S)),mK m h=(h.map (·.2)).take (FC m (h.map (·.1)))
 |[]=>rfl
 |(e,s)::r=>by
  simp only[mK,List.map_cons,FC]
  cases m.testBit e with
  |true=>simp
  |false=>simp[tA m r]
theorem EO{E:cU}{h:List (Nat×S)}{m:Nat}{t:T V}{s:S}{o:Oper}(b:Option Bool):iM E h m t s o b=iY E ((h.map (·.2)).take (FC m (h.map (·.1)))) t s o b:=by
 cases b with
 |none=>rfl
 |some b=>cases b with
  |false=>rfl
  |true =>
   simp only[iM,iY]
   unfold CC mO
   rw[tA]
   generalize aD E.P o.op=q
   match q with
   |0=>rfl
   |1=>rfl
   |2=>rfl
   |_+3=>rfl
theorem ql{E:cU}{ops:Array Oper}{rec:gA}{ds:List dX}{up:Option Md}{ms:List Nat}{effs m:Nat}{hist:List (Nat×S)} :
 ∀(l:List (Nat×Oper)) (done:Nat) (t:T V) (s:S),(∀ x∈l,ops[x.1]? = some x.2)->∀ sc d,th ms effs m (hist.map (·.1)) l done=some (sc,d)->∀(rest:List (Option Nat×Nat)),
  hU E ops rec ds up (sc++rest) (hist.map (·.2)) t s=match cw E ops ms effs hist m l done t s with
   |some (_,t,s)=>hU E ops rec ds up rest (hist.map (·.2)) t s
   |none=>none
 |[],done,t,s,_,sc,d,h,rest=>by cases h;rfl
 |(i,o)::l,done,t,s,hops,sc,d,h,rest=>by
  simp only[th]at h
  simp only[cw]
  cases hb:(!(m.testBit i)||done.testBit i)with
  |true =>
   rw[hb]at h
   simp only[cond_true]at h ⊢
   exact ql l done t s (fun x hx=>hops x (List.mem_cons_of_mem _ hx)) sc d h rest
  |false =>
   rw[hb]at h
   simp only[cond_false]at h ⊢
   cases he:effs.testBit i with
   |true=>rw[he]at h;cases h
   |false =>
    rw[he]at h
    simp only[cond_false]at h ⊢
    split at h
    ·rename_i l1 d1 hp
     cases h
     simp only[List.cons_append,hU]
     have ho:ops[i]? = some o:=hops (i,o) (by simp)
     rw[ho]
     simp only
     rw[<- EO]
     cases iM E hist (ms.getD i 0) t s o (bw ops t o)with
     |none=>rfl
     |some x =>
      obtain⟨v,s1⟩:=x
      simp only[bZ]
      exact ql l _ _ s1 (fun x hx=>hops x (List.mem_cons_of_mem _ hx)) l1 _ hp rest
    ·cases h
theorem pg{E:cU}{ops:Array Oper}{ms:List Nat}{effs m:Nat}{hist:List (Nat×S)}:∀(l:List (Nat×Oper)) (done:Nat) (t:T V) (s:S) sc d,th ms effs m (hist.map (·.1)) l done=some (sc,d) ->
 ∀ d' t' s',cw E ops ms effs hist m l done t s=some (d',t',s')->d'=d
 |[],done,t,s,sc,d,h,d',t',s',e=>by cases h;cases e;rfl
 |(i,o)::l,done,t,s,sc,d,h,d',t',s',e=>by
  simp only[th]at h
  simp only[cw]at e
  cases hb:(!(m.testBit i)||done.testBit i)with
  |true =>
   rw[hb]at h e
   exact pg l done t s sc d h d' t' s' e
  |false =>
   rw[hb]at h e
   simp only[cond_false]at h e
   cases he:effs.testBit i with
   |true=>rw[he]at h;cases h
   |false =>
    rw[he]at h e
    simp only[cond_false]at h e
    split at h
    ·rename_i l1 d1 hp
     cases h
     split at e
     ·rename_i v s1 hf
      rw[bZ]at e
      exact pg l _ _ s1 l1 d hp d' t' s' e
     ·cases e
    ·cases h
theorem Bc{E:cU}{ops:Array Oper}{rec:gA}{ds:List dX}{up:Option Md}{ms:List Nat}{effs:Nat}{all:List (Nat×Oper)}(hall:∀ x∈all,ops[x.1]? = some x.2) :
 ∀(es:List (Nat×Oper)),(∀ x∈es,ops[x.1]? = some x.2)->∀(hist:List (Nat×S)) (done:Nat) (t:T V) (s:S) sc,yi ms effs ops.size all es (hist.map (·.1)) done=some sc ->
  ∀ rr,hU E ops rec ds up sc (hist.map (·.2)) t s=some rr->fN E ops ms effs all rec ds up es hist done t s=some rr
 |[],_,hist,done,t,s,sc,h,rr,e=>by
  simp only[yi]at h
  simp only[fN]
  split at h
  ·rename_i l d hp
   cases h
   have:=ql (E:=E) (rec:=rec) (ds:=ds) (up:=up) all done t s hall _ _ hp []
   rw[List.append_nil]at this
   rw[this]at e
   rw[<- e]
   cases cw E ops ms effs hist (Nat.pow 2 ops.size - 1) all done t s with
   |none=>rfl
   |some x=>rfl
  ·cases h
 |(i,o)::r,hes,hist,done,t,s,sc,h,rr,e=>by
  simp only[yi]at h
  simp only[fN]
  split at h
  ·rename_i l d hp
   cases hb:(!(d.testBit i)&&effs.testBit i)with
   |false=>rw[hb]at h;cases h
   |true =>
    rw[hb]at h
    simp only[cond_true]at h
    split at h
    ·rename_i l2 h2
     cases h
     rw[ql (E:=E) (rec:=rec) (ds:=ds) (up:=up) all done t s hall _ _ hp]at e
     cases hph:cw E ops ms effs hist (ms.getD i 0) all done t s with
     |none=>rw[hph]at e;cases e
     |some x =>
      obtain⟨d1,t1,s1⟩:=x
      have hd:=pg all done t s _ _ hp _ _ _ hph
      subst hd
      rw[hph]at e
      simp only[hU]at e
      have ho:ops[i]? = some o:=hes (i,o) (by simp)
      rw[ho]at e
      simp only at e ⊢
      cases hst:eU E rec t1 s1 o (bw ops t1 o)with
      |none=>rw[hst]at e;cases e
      |some y =>
       obtain⟨v,s2⟩:=y
       rw[hst]at e
       rw[yj.2 hst]
       simp only[bZ,Bool.and_assoc,hb,Bool.and_true]at e ⊢
       cases hn:Nat.ble s1.next s2.next with
       |false=>rw[hn]at e;cases e
       |true =>
        rw[hn]at e
        simp only[cond_true]at e ⊢
        exact Bc hall r (fun x hx=>hes x (List.mem_cons_of_mem _ hx)) ((i,s2)::hist) _ _ s2 l2 h2 rr e
    ·cases h
  ·cases h
theorem BQ{E:cU}{ops:Array Oper}{sc:List (Option Nat×Nat)}(h:Ms E.P ops=some sc)(rec:gA)(recR:zM)(t:T V)(ds:List dX)(up:Option Md)(s:S) :
 ∀ rr,hU E ops rec ds up sc [s] t s=some rr->gL E ops rec recR t ds up s=some rr:=by
 intro rr e
 unfold Ms at h
 unfold gL
 split at h
 ·rename_i ms l es mask hp
  rw[hp]
  simp only
  have hl:l=cK ops.toList 0/\es=qS E.P (cK ops.toList 0):=by
   simp only[MR]at hp
   have hp:=rl hp
   simp only[Option.some.injEq,Vt.mk.injEq]at hp
   exact⟨hp.2.1.symm,hp.2.2.1.symm⟩
  obtain⟨rfl,rfl⟩:=hl
  have hall:∀ x∈cK ops.toList 0,ops[x.1]? = some x.2:=fun x hx=>dF.1 (by obtain⟨a,b⟩:=x;exact hx)
  exact Bc hall _ (fun x hx=>hall x (List.mem_filter.1 hx).1) [(ops.size,s)] 0 t s sc h rr e
 ·cases h
end Go.AI
