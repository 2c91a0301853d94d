/- Lemmas. No conditions. -/
import Derived.Test.YtpghiabjaglpgaaGreatDoorA5
set_option linter.all false
noncomputable section
namespace Go.AI
def lq(E:dL)(n:Nat)(f:FuncId)(args:List V)(a:S)(v:V)(b:S):Bool :=
 match qO E n (.call f args none) a with
 |some ⟨.returned v',none,s'⟩=>bp [v] [v']&&Uu b s'
 |_=>false
def ec{E:dL}(d:jc E)(e:tN E)(hD:eu E){n:Nat}{f:FuncId}{args:List V}{a:S}{v:V}{b:S}(h:lq E n f args a v b=true){s:S}(g:Sub a s):gv E.P f args none s ⟨.returned v,none,b⟩:=by
 unfold lq at h;split at h
 ·rename_i v' s' hr;simp only[abA]at h;have c:=cY h.1;simp at c;subst c;exact JM (mE d e hD n _ _ _ hr) g (CY h.2)
 ·cases h
def ui(E:dL)(n:Nat)(f:FuncId)(args:List V)(v:V):Bool :=
 match qO E n (.call f args none) ⟨.leaf,0⟩with
 |some ⟨.returned v',none,_⟩=>bp [v] [v']
 |_=>false
def V.flat:V->Bool
 |.bool _=>true
 |.int _ _=>true
 |.str _=>true
 |.nilptr=>true
 |.nilslice=>true
 |.nilmap=>true
 |.nilFunc=>true
 |.nilIface=>true
 |_=>false
def In{v:V}(h:v.flat=true):∀ ρ y,den ρ v=some y->∀ ρ',den ρ' v=some y:=by intro ρ y e ρ';cases v<;>simp[V.flat]at h<;>exact e
def DW:∀ {l:List V},l.all V.flat=true->∀ ρ ys,bd ρ l=some ys->bd aN.no l=some ys
 |[],_,_,_,e=>e
 |v::l,h,ρ,ys,e=>by simp only[ajb,abA]at h;obtain⟨y,q,a,b,rfl⟩:=be.1 e;exact be.2 ⟨y,q,In h.1 _ _ a _,DW h.2 _ _ b,rfl⟩
def jD{E:dL}(b:jc E)(c:tN E)(hD:eu E){n:Nat}{f:FuncId}{args:List V}{v:V}(h:ui E n f args v=true)(d:args.all V.flat=true)(e:v.flat=true)(s:S):gv E.P f args none s ⟨.returned v,none,s⟩:=by
 unfold ui at h;split at h
 ·rename_i v' s' hr;have a:=cY h;simp at a;subst a;exact Hg (mE b c hD n _ _ _ hr) (DW d) (In e) s
 ·cases h
structure lj where
 f:FuncId
 args:List V
 a:S
 v:V
 b:S
def lj.fits(k:lj)(f:FuncId)(args:List V)(s:S):Bool:=Nat.beq f k.f&&(bp args k.args&&Uu k.a s)
def yw:List lj->FuncId->List V->S->Option (V×S)
 |[],_,_,_=>none
 |k::r,f,args,s=>bif k.fits f args s then some (k.v,k.b)else yw r f args s
def sG:∀ {l:List lj} {f:FuncId} {args:List V} {s:S} {v:V} {s':S},yw l f args s=some (v,s')->∃ k∈l,k.f=f/\k.args=args/\Sub k.a s/\k.v=v/\k.b=s'
 |[],_,_,_,_,_,h=>by cases h
 |k::r,f,args,s,v,s',h=>by
  simp only[yw]at h;cases hb:k.fits f args s with
  |true =>rw[hb]at h;cases h;unfold lj.fits at hb;simp only[abA]at hb;exact⟨k,by simp,(abr hb.1).symm,(cY hb.2.1).symm,CY hb.2.2,rfl,rfl⟩
  |false =>rw[hb]at h;obtain⟨c,d,e⟩:=sG h;exact⟨c,abE _ d,e⟩
def ir(a:FuncId)(l:List (List Nat×V))(f:FuncId)(args:List V)(s:S):Option (V×S):=bif Nat.beq f a then look args l else none
 where
  look:List V->List (List Nat×V)->Option (V×S)
   |[.str x],(y,v)::r=>bif x==y then some (v,s)else look [.str x] r
   |_,_=>none
def Dv{s:S}:∀ {l:List (List Nat×V)} {args:List V} {v:V} {s':S},ir.look s args l=some (v,s')->∃ x,args=[.str x]/\(x,v)∈l/\s'=s
 |[],args,v,s',h=>by
  have:ir.look s args []=none:=by cases args with
   |nil=>rfl
   |cons a r=>cases a<;>cases r<;>rfl
  rw[this]at h;cases h
 |(y,u)::r,args,v,s',h=>by
  unfold ir.look at h;split at h
  ·rename_i x y' u' r' b;cases b;cases hb:(x==y)with
   |true =>
    rw[hb]at h;cases h;have:x=y:=by simpa using hb
    subst this;exact⟨x,rfl,by simp,rfl⟩
   |false =>rw[hb]at h;obtain⟨c,d,e,f⟩:=Dv h;exact⟨c,d,abE _ e,f⟩
  ·cases h
def Ah{a:FuncId}{l:List (List Nat×V)}{f:FuncId}{args:List V}{s:S}{v:V}{s':S}(h:ir a l f args s=some (v,s')):f=a/\∃ x,args=[.str x]/\(x,v)∈l/\s'=s:=by
 unfold ir at h;cases hb:Nat.beq f a with
 |false=>rw[hb]at h;cases h
 |true=>rw[hb]at h;exact⟨abr hb,Dv h⟩
def IW(m:Nat):List Nat->Nat
 |[]=>0
 |e::r=>bif m.testBit e then 1 else IW m r+1
def vl(ms:List Nat)(effs m:Nat)(H:List Nat):List (Nat×Oper)->Nat->Option (List (Option Nat×Nat)×Nat)
 |[],done=>some ([],done)
 |(i,_)::r,done =>
  bif !(m.testBit i)||done.testBit i then vl ms effs m H r done
  else bif effs.testBit i then none
  else match vl ms effs m H r (Nat.lor done (Nat.pow 2 i))with
   |some (l,d)=>some ((some (IW (ms.getD i 0) H),i)::l,d)
   |none=>none
def Bq(ms:List Nat)(effs n:Nat)(all:List (Nat×Oper)):List (Nat×Oper)->List Nat->Nat->Option (List (Option Nat×Nat))
 |[],H,done=>match vl ms effs (Nat.pow 2 n - 1) H all done with
  |some (l,_)=>some l
  |none=>none
 |(i,_)::r,H,done=>match vl ms effs (ms.getD i 0) H all done with
  |some (l,d)=>bif !(d.testBit i)&&effs.testBit i then(match Bq ms effs n all r (i::H) (Nat.lor d (Nat.pow 2 i))with
   |some l2=>some (l++(none,i)::l2)
   |none=>none)else none
  |none=>none
def QE(P:Program)(ops:Array Oper):Option (List (Option Nat×Nat)):=match Rj P ops with
 |some ⟨ms,l,es,mask⟩=>Bq ms mask ops.size l es [ops.size] 0
 |none=>none
def oT(E:dL)(a:List S)(t:T V)(s:S)(o:Oper):Nat->Option (V×S)
 |0=>xW s (dI E t s o)
 |1=>si s (gL E t o a)
 |2=>xX (dI E t s o)
 |_=>none
def kb(E:dL)(a:List S)(t:T V)(s:S)(o:Oper):Option Bool->Option (V×S)
 |some true=>oT E a t s o (aP E.P o.op)
 |some false=>some (V.undef,s)
 |none=>none
def jh(E:dL)(ops:Array Oper)(rec:iC)(ds:List eS)(up:Option Md):List (Option Nat×Nat)->List S->T V->S->Option mg
 |[],_,t,s=>some (.on t ds up s)
 |(c,i)::r,a,t,s=>match ops[i]? with
  |none=>none
  |some o=>match c with
   |some c=>match kb E (a.take c) t s o (bT ops t o)with
    |some (v,s)=>jh E ops rec ds up r a (putD t o.dst v) s
    |none=>none
   |none=>match fV E rec t s o (bT ops t o)with
    |some (v,s')=>bif Nat.ble s.next s'.next then jh E ops rec ds up r (s'::a) (putD t o.dst v) s' else none
    |none=>none
def vC(m:Nat):∀(h:List (Nat×S)),oQ m h=(h.map (·.2)).take (IW m (h.map (·.1)))
 |[]=>rfl
 |(e,s)::r=>by
  simp only[oQ,aeL,IW];cases m.testBit e with
  |true=>simp
  |false=>simp[vC m r]
def Im{E:dL}{h:List (Nat×S)}{m:Nat}{t:T V}{s:S}{o:Oper}(b:Option Bool):jR E h m t s o b=kb E ((h.map (·.2)).take (IW m (h.map (·.1)))) t s o b:=by
 cases b with
 |none=>rfl
 |some b=>cases b with
  |false=>rfl
  |true =>
   simp only[jR,kb];unfold FO oT;rw[vC];generalize aP E.P o.op=q;match q with
   |0=>rfl
   |1=>rfl
   |2=>rfl
   |_+3=>rfl
def sm{E:dL}{ops:Array Oper}{rec:iC}{ds:List eS}{up:Option Md}{ms:List Nat}{effs m:Nat}{a:List (Nat×S)} :
 ∀(l:List (Nat×Oper)) (done:Nat) (t:T V) (s:S),(∀ x∈l,ops[x.1]? = some x.2)->∀ sc d,vl ms effs m (a.map (·.1)) l done=some (sc,d)->∀(rest:List (Option Nat×Nat)),
  jh E ops rec ds up (sc++rest) (a.map (·.2)) t s=match cZ E ops ms effs a m l done t s with
   |some (_,t,s)=>jh E ops rec ds up rest (a.map (·.2)) t s
   |none=>none
 |[],done,t,s,_,sc,d,h,rest=>by cases h;rfl
 |(i,o)::l,done,t,s,b,sc,d,h,rest=>by
  simp only[vl]at h;simp only[cZ];cases hb:(!(m.testBit i)||done.testBit i)with
  |true =>rw[hb]at h;simp only[ge]at h ⊢;exact sm l done t s (fun x c=>b x (abE _ c)) sc d h rest
  |false =>
   rw[hb]at h;simp only[TD]at h ⊢;cases e:effs.testBit i with
   |true=>rw[e]at h;cases h
   |false =>
    rw[e]at h;simp only[TD]at h ⊢;split at h
    ·rename_i l1 d1 hp;cases h;simp only[aiL,jh];have ho:ops[i]? = some o:=b (i,o) (by simp);rw[ho];simp only;rw[<- Im];cases jR E a (ms.getD i 0) t s o (bT ops t o)with
     |none=>rfl
     |some x =>obtain⟨v,s1⟩:=x;simp only[cI];exact sm l _ _ s1 (fun x c=>b x (abE _ c)) l1 _ hp rest
    ·cases h
def qP{E:dL}{ops:Array Oper}{ms:List Nat}{effs m:Nat}{a:List (Nat×S)}:∀(l:List (Nat×Oper)) (done:Nat) (t:T V) (s:S) sc d,vl ms effs m (a.map (·.1)) l done=some (sc,d) ->
 ∀ b t' s',cZ E ops ms effs a m l done t s=some (b,t',s')->b=d
 |[],done,t,s,sc,d,h,b,t',s',e=>by cases h;cases e;rfl
 |(i,o)::l,done,t,s,sc,d,h,b,t',s',e=>by
  simp only[vl]at h;simp only[cZ]at e;cases hb:(!(m.testBit i)||done.testBit i)with
  |true =>rw[hb]at h e;exact qP l done t s sc d h b t' s' e
  |false =>
   rw[hb]at h e;simp only[TD]at h e;cases c:effs.testBit i with
   |true=>rw[c]at h;cases h
   |false =>
    rw[c]at h e;simp only[TD]at h e;split at h
    ·rename_i l1 d1 hp;cases h;split at e
     ·rename_i v s1 hf;rw[cI]at e;exact qP l _ _ s1 l1 d hp b t' s' e
     ·cases e
    ·cases h
def Ec{E:dL}{ops:Array Oper}{rec:iC}{ds:List eS}{up:Option Md}{ms:List Nat}{effs:Nat}{all:List (Nat×Oper)}(b:∀ x∈all,ops[x.1]? = some x.2) :
 ∀(es:List (Nat×Oper)),(∀ x∈es,ops[x.1]? = some x.2)->∀(a:List (Nat×S)) (done:Nat) (t:T V) (s:S) sc,Bq ms effs ops.size all es (a.map (·.1)) done=some sc ->
  ∀ rr,jh E ops rec ds up sc (a.map (·.2)) t s=some rr->gK E ops ms effs all rec ds up es a done t s=some rr
 |[],_,a,done,t,s,sc,h,rr,e=>by
  simp only[Bq]at h;simp only[gK];split at h
  ·rename_i l d hp;cases h;have:=sm (E:=E) (rec:=rec) (ds:=ds) (up:=up) all done t s b _ _ hp [];rw[aic]at this;rw[this]at e;rw[<- e];cases cZ E ops ms effs a (Nat.pow 2 ops.size - 1) all done t s with
   |none=>rfl
   |some x=>rfl
  ·cases h
 |(i,o)::r,f,a,done,t,s,sc,h,rr,e=>by
  simp only[Bq]at h;simp only[gK];split at h
  ·rename_i l d hp;cases hb:(!(d.testBit i)&&effs.testBit i)with
   |false=>rw[hb]at h;cases h
   |true =>
    rw[hb]at h;simp only[ge]at h;split at h
    ·rename_i l2 k;cases h;rw[sm (E:=E) (rec:=rec) (ds:=ds) (up:=up) all done t s b _ _ hp]at e;cases c:cZ E ops ms effs a (ms.getD i 0) all done t s with
     |none=>rw[c]at e;cases e
     |some x =>
      obtain⟨d1,g,s1⟩:=x;have m:=qP all done t s _ _ hp _ _ _ c;subst m;rw[c]at e;simp only[jh]at e;have ho:ops[i]? = some o:=f (i,o) (by simp);rw[ho]at e;simp only at e ⊢;cases hst:fV E rec g s1 o (bT ops g o)with
      |none=>rw[hst]at e;cases e
      |some y =>
       obtain⟨v,s2⟩:=y;rw[hst]at e;rw[Br.2 hst];simp only[cI,akP,hb,aiW]at e ⊢;cases j:Nat.ble s1.next s2.next with
       |false=>rw[j]at e;cases e
       |true =>rw[j]at e;simp only[ge]at e ⊢;exact Ec b r (fun x n=>f x (abE _ n)) ((i,s2)::a) _ _ s2 l2 k rr e
    ·cases h
  ·cases h
def EW{E:dL}{ops:Array Oper}{sc:List (Option Nat×Nat)}(h:QE E.P ops=some sc)(rec:iC)(recR:CL)(t:T V)(ds:List eS)(up:Option Md)(s:S) :
 ∀ rr,jh E ops rec ds up sc [s] t s=some rr->iK E ops rec recR t ds up s=some rr:=by
 intro rr e;unfold QE at h;unfold iK;split at h
 ·rename_i ms l es mask hp;rw[hp];simp only;have hl:l=dy ops.toList 0/\es=sY E.P (dy ops.toList 0):=by simp only[Rj]at hp;have hp:=tC hp;simp only[abB,abs.mk.injEq]at hp;exact⟨hp.2.1.symm,hp.2.2.1.symm⟩
  obtain⟨rfl,rfl⟩:=hl;have c:∀ x∈dy ops.toList 0,ops[x.1]? = some x.2:=fun x d=>ep.1 (by obtain⟨a,b⟩:=x;exact d);exact Ec c _ (fun x d=>c x (akd.1 d).1) [(ops.size,s)] 0 t s sc h rr e
 ·cases h
end Go.AI
