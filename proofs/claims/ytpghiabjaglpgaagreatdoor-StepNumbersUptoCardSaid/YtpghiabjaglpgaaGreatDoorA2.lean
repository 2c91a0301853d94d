/- The evaluator by which runs of the program are reckoned, and that it is sound: part 2. No conditions beyond those of the row. -/
import Derived.Test.YtpghiabjaglpgaaGreatDoorA1
import Derived.Laws.Entries
import Derived.Laws.StructEq
import Derived.Laws.Tables
set_option linter.all false
noncomputable section
namespace Go.AI
def rv(tm:Array Value):Operand->Value
 |.tmp t=>tm.getD t Go.undef
 |.const v=>v
 |.global g=>.pointer (some ⟨g,0,none⟩)
 |.func f=>.func (.func f) #[] #[]
theorem pA(fr:Frame):fr.eval=rv fr.tmps:=funext fun x=>by cases x<;>rfl
theorem uF(s:ByteArray):ay (s.data.toList.map UInt8.toNat)=s:=by
 unfold ay
 have:(s.data.toList.map UInt8.toNat).map UInt8.ofNat=s.data.toList:=by
  rw[List.map_map]
  conv=>rhs;rw[<- List.map_id s.data.toList]
  exact List.map_congr_left fun x _=>by simp
 rw[this]
theorem wq(ρ:aB)(v:Value)(x:V)(h:V.ofCell v=some x):den ρ x=some v:=by
 cases v<;>simp only[V.ofCell]at h
 case string s=>cases h;simp only[den];rw[uF]
 case pointer a=>cases a<;>simp at h;cases h;rfl
 case slice a n c =>
  cases a<;>simp only at h
  ·cases hb:(Nat.beq n 0&&Nat.beq c 0)with
   |false=>simp[hb]at h
   |true =>
    simp only[hb,cond_true]at h
    simp only[Bool.and_eq_true]at hb
    cases h
    rw[Nat.eq_of_beq_eq_true hb.1,Nat.eq_of_beq_eq_true hb.2];rfl
  ·cases h
 case map a=>cases a<;>simp at h;cases h;rfl
 case func fn a b =>
  cases fn<;>simp only at h<;>try cases h
  cases hb:(a.toList.isEmpty&&b.toList.isEmpty)with
  |false=>rw[hb]at h;cases h
  |true =>
   simp only[hb,cond_true]at h
   simp only[Bool.and_eq_true,List.isEmpty_iff]at hb
   cases h
   have ha:a=#[]:=by cases a;simpa using hb.1
   have hb':b=#[]:=by cases b;simpa using hb.2
   subst ha;subst hb';rfl
 all_goals first|(cases h;rfl)|cases h
theorem tp(ρ:aB):∀(l:List Value) (m:List V),V.ofCells l=some m->aN ρ m=some l
 |[],m,h=>by cases h;rfl
 |x::r,m,h=>by
  simp only[V.ofCells]at h
  cases hx:V.ofCell x with
  |none=>simp[hx]at h
  |some v =>
   cases hr:V.ofCells r with
   |none=>simp[hx,hr]at h
   |some q =>
    simp only[hx,hr]at h
    cases h
    exact aM.2 ⟨x,r,wq ρ x v hx,tp ρ r q hr,rfl⟩
theorem tj(ρ:aB)(v:Value)(x:V)(h:V.ofConst v=some x):den ρ x=some v:=by
 cases v
 case agg cs =>
  simp only[V.ofConst]at h
  split at h
  ·rename_i l hl;cases h;simp only[den,tp ρ _ _ hl]
  ·cases h
 all_goals exact wq ρ _ x h
theorem az{ρ:aB}{t:T V}{tm:Array Value}(ht:TR ρ t tm){x:Operand}{v:V}(h:eval t x=some v):den ρ v=some (rv tm x):=by
 cases x with
 |tmp i =>
  obtain⟨y,hy,hy'⟩:=ht i v h
  simp only[rv,Array.getD_eq_getD_getElem?,hy',Option.getD_some];exact hy
 |const c=>exact tj ρ c v h
 |global g=>cases h
 |func f=>cases h;rfl
theorem jx{ρ:aB}{t:T V}{tm:Array Value}(ht:TR ρ t tm):∀ {l:List Operand} {vs:List V},gn t l=some vs->aN ρ vs=some (l.map (rv tm))
 |[],vs,h=>by cases h;rfl
 |x::r,vs,h=>by
  simp only[gn]at h
  cases hx:eval t x with
  |none=>simp[hx]at h
  |some v =>
   cases hr:gn t r with
   |none=>simp[hx,hr]at h
   |some q =>
    simp only[hx,hr]at h;cases h
    exact aM.2 ⟨_,_,az ht hx,jx ht hr,rfl⟩
section types
variable{P:Program}
theorem eh{t:TypeId}{zv:V}(h:zero P t=some zv):∃ z i,P.info? t=some i/\i.zero=some z/\∀ ρ,den ρ zv=some z:=by
 unfold zero at h
 cases hi:P.info? t with
 |none=>simp[hi]at h
 |some i =>
  cases hz:i.zero with
  |none=>simp[hi,hz]at h
  |some z =>
   simp only[hi,hz,Option.bind_some]at h
   exact⟨z,i,rfl,hz,fun ρ=>tj ρ z zv h⟩
theorem fj{t:TypeId}{i:TypeInfo}{z:Value}(hi:P.info? t=some i)(hz:i.zero=some z)(w:World):(zeroValue t).run P w=.ok z w:=by
 simp[zeroValue,typeInfo,hi,hz]
theorem rN{t:TypeId}{n:Nat}(h:size P t=some n):∃ i,P.info? t=some i/\i.size=n:=by
 unfold size at h
 cases hi:P.info? t with
 |none=>simp[hi]at h
 |some i=>simp[hi]at h;exact⟨i,rfl,h⟩
theorem bQ{t:TypeId}{n:Nat}(h:size P t=some n)(w:World):(sizeOf t).run P w=.ok n w:=by
 obtain⟨i,hi,rfl⟩:=rN h
 simp[Go.sizeOf,typeInfo,hi]
theorem av{t:TypeId}{d:TypeDesc}(h:P.underlying t=some d)(w:World):(underlying t).run P w=.ok d w:=by
 simp[underlying,h]
theorem vg{t:TypeId}{b:Bool}(h:px P t=some b)(w:World):(isAgg t).run P w=.ok b w:=by
 unfold px at h
 cases hd:P.underlying t with
 |none=>simp[hd]at h
 |some d =>
  simp only[hd,Option.map_some,Option.some.injEq]at h
  subst h
  simp only[isAgg,Sem.run_bind,av hd,Result.andThen_ok]
  cases d<;>rfl
theorem oJ{ρ:aB}{s:S}{w:World}(h:HR ρ s w){t:TypeId}{a:Ad}{x:V}(e:loadVar P s t a=some x) :
 ∃ ad y,gw ρ a=some ad/\den ρ x=some y/\(Go.loadVar t ad).run P w=.ok y w:=by
 unfold loadVar at e
 cases hb:px P t with
 |none=>simp[hb]at e
 |some b =>
  cases b with
  |false =>
   simp only[hb]at e
   obtain⟨ad,y,h1,h2,h3⟩:=wG h e
   exact⟨ad,y,h1,h2,by simp[Go.loadVar,vg hb,h3]⟩
  |true =>
   simp only[hb]at e
   cases hn:size P t with
   |none=>simp[hn]at e
   |some n =>
    simp only[hn,Option.bind_some]at e
    cases hl:loadCells s a n with
    |none=>simp[hl]at e
    |some l =>
     simp only[hl,Option.map_some,Option.some.injEq]at e
     subst e
     obtain⟨ad,ys,h1,h2,h3,h4⟩:=ib h hl
     refine⟨ad,.agg ys.toArray,h1,by simp only[den,h2],?_⟩
     have:=run_loadCells_list (P:=P) (w:=w) ad ys h4
     rw[h3]at this
     simp[Go.loadVar,vg hb,bQ hn,this]
theorem vP{ρ:aB}{s s':S}{w:World}(h:HR ρ s w){t:TypeId}{a:Ad}{v:V}{y:Value}(e:storeVar P s t a v=some s')(hv:den ρ v=some y) :
 ∃ ad w',gw ρ a=some ad/\(Go.storeVar t ad y).run P w=.ok () w'/\HR ρ s' w'/\FR ρ w ρ w':=by
 unfold storeVar at e
 cases hn:size P t with
 |none=>simp[hn]at e
 |some n =>
  simp only[hn]at e
  cases hb:Nat.beq v.cells.length n with
  |false=>simp[hb]at e
  |true =>
   simp only[hb,cond_true]at e
   obtain⟨ad,w',h1,h2,h3,h4⟩:=gr P h e (dS hv)
   have hl:y.cells.size=n:=by
    have:=bu (dS hv)
    rw[Array.length_toList]at this
    rw[this];exact Nat.eq_of_beq_eq_true hb
   exact⟨ad,w',h1,by simp[Go.storeVar,bQ hn,hl,h2],h3,h4⟩
theorem jr{ρ:aB}{w:World}{t:TypeId}{cs:List V}{ys:Array Value}{off:Nat}{x:V}(hd:aN ρ cs=some ys.toList)(e:ti P t cs off=some x) :
 ∃ y,den ρ x=some y/\(part t ys off).run P w=.ok y w:=by
 unfold ti at e
 cases hb:px P t with
 |none=>simp[hb]at e
 |some b =>
  cases b with
  |false =>
   simp only[hb]at e
   obtain⟨y,h1,h2⟩:=dT off hd e
   rw[Array.getElem?_toList]at h2
   exact⟨y,h1,by simp[part,vg hb,h2]⟩
  |true =>
   simp only[hb]at e
   cases hn:size P t with
   |none=>simp[hn]at e
   |some n =>
    simp only[hn,Option.map_some,Option.some.injEq]at e
    subst e
    have h1:=Bh n (Bi off hd)
    refine⟨.agg (ys.extract off (off+n)),?_,by simp[part,vg hb,bQ hn]⟩
    have h2:(ys.extract off (off+n))=((ys.toList.drop off).take n).toArray:=by
     apply Array.toList_inj.1
     rw[Array.toList_extract,List.extract_eq_take_drop]
     simp
    simp only[den,h1,h2]
end types
def LE(ρ:aB):dX->Deferred->Prop
 |.call fn cap args,d=>∃ g c a,lW ρ fn=some g/\aN ρ cap=some c/\aN ρ args=some a/\d={ target:=.fn g c.toArray,args:=a.toArray }
 |.collected r,d=>∃ l,ρ r 0=some l/\d={ target:=.collected l.b,args:=#[] }
def Dx(P:Program)(ρ:aB)(w:World):Nx->Result Next->Prop
 |.val v s,r=>∃ ρ' y w',r=.ok (.value y) w'/\den ρ' v=some y/\HR ρ' s w'/\FR ρ w ρ' w'
 |.skip s,r=>∃ ρ' w',r=.ok .skip w'/\HR ρ' s w'/\FR ρ w ρ' w'
 |.enter f args s,r=>∃ ys,aN ρ args=some ys/\r=(callFunc f ys.toArray).run P w/\HR ρ s w
 |.round l args s,r=>∃ lb ys,ρ l 0=some lb/\aN ρ args=some ys/\r=(Instr.yield lb.b ys.toArray).run P w/\HR ρ s w
 |.defer d s,r=>∃ rd,LE ρ d rd/\r=.ok (.defer rd) w/\HR ρ s w
 |.recover s,r=>r=.ok .recover w/\HR ρ s w
 |.panic v s,r=>∃ y,den ρ v=some y/\r=.halt (.panic y) w/\HR ρ s w
def yW(P:Program)(ρ:aB)(w:World)(s:S)(nx:Nx)(r:Result Next):Prop:=∃ v y,nx=.val v s/\r=.ok (.value y) w/\den ρ v=some y
theorem yW.toR{P:Program}{ρ:aB}{s:S}{w:World}{nx:Nx}{r:Result Next}(h:HR ρ s w)(k:yW P ρ w s nx r):Dx P ρ w nx r:=by
 obtain⟨v,y,rfl,h2,h3⟩:=k
 exact⟨ρ,y,w,h2,h3,h,FR.refl ρ w⟩
section ops
variable{P:Program}{ρ:aB}{s:S}{w:World}{t:T V}{tm:Array Value}
theorem aP(_h:HR ρ s w){x:Option V}{nx:Nx}(e:bj s x=some nx){m:Sem Value}
 (hm:∀ v,x=some v->∃ y,den ρ v=some y/\m.run P w=.ok y w):yW P ρ w s nx ((do pure (Next.value (<- m)):Sem Next).run P w):=by
 cases x with
 |none=>cases e
 |some v =>
  cases e
  obtain⟨y,h1,h2⟩:=hm v rfl
  exact⟨v,y,rfl,by simp[h2],h1⟩
theorem qV(h:HR ρ s w)(ht:TR ρ t tm){c a b:Operand}{nx:Nx}(e:lC t s c a b=some nx) :
 yW P ρ w s nx ((do pure (Next.value (if <- asBool (rv tm c)then rv tm a else rv tm b)):Sem Next).run P w):=by
 unfold lC at e
 split at e
 ·rename_i q hq
  have h1:=az ht hq
  simp only[den,Option.some.injEq]at h1
  unfold bj at e
  split at e
  ·rename_i v hv
   cases e
   refine⟨_,if q then rv tm a else rv tm b,rfl,by simp[<- h1,asBool],?_⟩
   cases q
   ·exact az ht hv
   ·exact az ht hv
  ·cases e
 ·cases e
theorem lH{ρ:aB}{v:V}{y:Value}(h:den ρ v=some y):y.cells.size=v.cells.length:=by
 have:=bu (dS h);rwa [Array.length_toList]at this
theorem tq(h:HR ρ s w){elem:TypeId}{v:V}{y:Value}(hv:den ρ v=some y){nx:Nx}(e:oG (aW s elem v.cells)=some nx) :
 Dx P ρ w nx ((do pure (Next.value (.pointer (some (<- newVar elem y)))):Sem Next).run P w):=by
 obtain⟨ρ',h1,h2,h3⟩:=fR h false elem elem (cs:=v.cells) (ys:=y.cells) (by rw[dS hv,<- lH hv,List.take_of_length_le (by simp)]) (0,0) ⟨fun _=>rfl,by simp⟩
 simp only[oG,aW,aV]at e
 cases e
 exact⟨ρ',_,_,by simp[newVar,newRow];rfl,by simp[den,gw,h1],h2,h3⟩
theorem zH(h:HR ρ s w){elem:TypeId}{nx:Nx}(e:iG P s elem=some nx) :
 Dx P ρ w nx ((do pure (Next.value (<- Instr.alloc elem true (.tuple #[]))):Sem Next).run P w):=by
 unfold iG at e
 split at e
 ·rename_i z hz
  obtain⟨y,i,hi,hzi,hd⟩:=eh hz
  have:=tq (P:=P) h (hd ρ) e
  simp only[Instr.alloc,Sem.run_bind,fj hi hzi,Result.andThen_ok,Sem.run_pure]at this ⊢
  exact this
 ·cases e
theorem Fk(h:HR ρ s w)(ht:TR ρ t tm){elem:TypeId}{x:Operand}{nx:Nx}(e:qZ s elem (eval t x)=some nx) :
 Dx P ρ w nx ((do pure (Next.value (<- Instr.box elem (rv tm x))):Sem Next).run P w):=by
 unfold qZ at e
 split at e
 ·rename_i z hz
  have:=tq (P:=P) h (az ht hz) e
  simp only[Instr.box,Sem.run_bind,Sem.run_pure]at this ⊢
  exact this
 ·cases e
theorem qX(h:HR ρ s w)(ht:TR ρ t tm){ty:TypeId}{x:Operand}{nx:Nx}(e:ii P s ty (eval t x)=some nx) :
 yW P ρ w s nx ((do pure (Next.value (<- Instr.loadAt ty (rv tm x))):Sem Next).run P w):=by
 unfold ii at e
 split at e
 ·rename_i a ha
  have h1:=az ht ha
  refine aP h e fun v hv=>?_
  obtain⟨ad,y,h2,h3,h4⟩:=oJ h hv
  simp only[den,h2,Option.some.injEq]at h1
  exact⟨y,h3,by simp[Instr.loadAt,Instr.sureAddr,<- h1,h4]⟩
 ·cases e
theorem zE(h:HR ρ s w)(ht:TR ρ t tm){ty:TypeId}{x y:Operand}{nx:Nx}(e:qU P s ty (eval t x) (eval t y)=some nx) :
 Dx P ρ w nx ((do Instr.storeAt ty (rv tm x) (rv tm y);pure Next.skip:Sem Next).run P w):=by
 unfold qU at e
 split at e
 ·rename_i a ha
  have h1:=az ht ha
  split at e
  ·rename_i v hv
   have h2:=az ht hv
   unfold GL at e
   split at e
   ·rename_i s' hs
    cases e
    obtain⟨ad,w',h3,h4,h5,h6⟩:=vP h hs h2
    simp only[den,h3,Option.some.injEq]at h1
    exact⟨ρ,w',by simp[Instr.storeAt,Instr.sureAddr,<- h1,h4],h5,h6⟩
   ·cases e
  ·cases e
 ·cases e
theorem lV(h:HR ρ s w)(ht:TR ρ t tm){x:Operand}{i:Nat}{nx:Nx}(e:bj s (nU (eval t x) i)=some nx) :
 yW P ρ w s nx ((do pure (Next.value (<- Instr.extract (rv tm x) i)):Sem Next).run P w):=by
 refine aP h e fun v hv=>?_
 unfold nU at hv
 split at hv
 ·rename_i vs hx
  have h1:=az ht hx
  simp only[den]at h1
  split at h1
  ·rename_i l hl
   obtain⟨y,h2,h3⟩:=dT i hl hv
   simp only[Option.some.injEq]at h1
   exact⟨y,h2,by simp[Instr.extract,<- h1,h3]⟩
  ·cases h1
 ·cases hv
theorem nc(h:HR ρ s w)(ht:TR ρ t tm){fn:Fn}{first cap:Array Operand}{nx:Nx}(e:bj s (qW fn (gn t first.toList) (gn t cap.toList))=some nx) :
 yW P ρ w s nx ((do pure (Next.value (<- Instr.makeFunc fn (first.map (rv tm)) (cap.map (rv tm)))):Sem Next).run P w):=by
 refine aP h e fun v hv=>?_
 unfold qW at hv
 split at hv
 ·cases hv
 ·rename_i hfn
  unfold Ci at hv
  split at hv
  ·rename_i a ha
   split at hv
   ·rename_i b hb
    cases hv
    have hf:lW ρ fn=some fn:=by cases fn<;>first|rfl|exact absurd rfl (hfn _)
    refine⟨.func fn (first.map (rv tm)) (cap.map (rv tm)),?_,by simp[Instr.makeFunc]⟩
    simp only[den,hf,jx ht ha,jx ht hb]
    have g:∀ l:Array Operand,(List.map (rv tm) l.toList).toArray=l.map (rv tm):=fun l=>by cases l;simp
    rw[g,g]
   ·cases hv
  ·cases hv
theorem GS{x:Option V}{n:Nat}(h:dG x=some n):∃ k,x=some (.int k (.ofNat n)):=by
 cases x with
 |none=>cases h
 |some v =>
  cases v<;>try(cases h;done)
  rename_i k m
  cases m<;>cases h
  exact⟨k,rfl⟩
theorem lU(h:HR ρ s w)(ht:TR ρ t tm){ty:TypeId}{x:Operand}{nx:Nx}(e:bj s (nR P ty (eval t x))=some nx) :
 yW P ρ w s nx ((do pure (Next.value (<- Instr.makeInterface ty (rv tm x))):Sem Next).run P w):=by
 refine aP h e fun v hv=>?_
 unfold nR at hv
 split at hv
 ·cases hv
 ·rename_i d hd hni
  split at hv
  ·rename_i y hy
   cases hv
   refine⟨.iface ty (rv tm x),by simp only[den,az ht hy],?_⟩
   simp only[Instr.makeInterface,Sem.run_bind,av hni,Result.andThen_ok]
   cases d<;>first|rfl|exact absurd rfl (hd _)
  ·cases hv
 ·cases hv
theorem oT(h:HR ρ s w)(ht:TR ρ t tm){ty:TypeId}{x:Operand}{f:Nat}{nx:Nx}(e:bj s (qY P ty (eval t x) f)=some nx) :
 yW P ρ w s nx ((do pure (Next.value (<- Instr.field ty (rv tm x) f)):Sem Next).run P w):=by
 refine aP h e fun v hv=>?_
 unfold qY at hv
 split at hv
 ·rename_i fs hfs
  split at hv
  ·rename_i cs hx
   have h1:=az ht hx
   simp only[den]at h1
   split at h1
   ·rename_i l hl
    simp only[Option.some.injEq]at h1
    split at hv
    ·rename_i fd hfd
     obtain⟨y,h2,h3⟩:=jr (w:=w) (ys:=l.toArray) (by simpa using hl) hv
     exact⟨y,h2,by simp[Instr.field,av hfs,hfd,<- h1,asAgg,h3]⟩
    ·cases hv
   ·cases h1
  ·cases hv
 ·cases hv
theorem jh(b off n:Nat):(⟨b,off,none⟩:Addr).add n=⟨b,off+n,none⟩:=by
 unfold Addr.add;split
 ·subst_vars;rfl
 ·rfl
theorem rb{a:Ad}{l:ze}(hl:ρ a.f a.v=some l)(h:l.base<=a.c):gw ρ a=some ⟨l.b,a.c - l.base,none⟩:=by
 unfold gw;rw[hl];exact if_pos h
theorem rc{a:Ad}{x:Addr}(h:gw ρ a=some x):∃ l,ρ a.f a.v=some l/\l.base<=a.c/\x=⟨l.b,a.c - l.base,none⟩:=by
 unfold gw at h
 cases hl:ρ a.f a.v with
 |none=>simp[hl]at h
 |some l =>
  simp only[hl]at h
  split at h
  ·cases h;exact⟨l,rfl,by assumption,rfl⟩
  ·cases h
theorem re{a:Ad}{x:Addr}(n:Nat)(h:gw ρ a=some x):gw ρ (ci a n)=some (x.add n):=by
 obtain⟨l,h1,h2,rfl⟩:=rc h
 have h3:ρ (ci a n).f (ci a n).v=some l:=h1
 rw[rb h3 (by show l.base<=a.c+n;omega),jh]
 have:(ci a n).c - l.base=a.c - l.base+n:=by show a.c+n - l.base=_;omega
 rw[this]
theorem jA(h:HR ρ s w)(ht:TR ρ t tm){ty:TypeId}{x:Operand}{f:Nat}{nx:Nx}(e:bj s (gT P ty (eval t x) f)=some nx) :
 yW P ρ w s nx ((do pure (Next.value (<- Instr.fieldAt ty (rv tm x) f)):Sem Next).run P w):=by
 refine aP h e fun v hv=>?_
 unfold gT at hv
 split at hv
 ·rename_i fs hfs
  split at hv
  ·rename_i a hx
   have h1:=az ht hx
   simp only[den]at h1
   split at h1
   ·rename_i ad had
    simp only[Option.some.injEq]at h1
    split at hv
    ·rename_i fd hfd
     cases hz:gP fd P with
     |true=>simp[hz]at hv
     |false =>
      simp only[hz,cond_false,Option.some.injEq]at hv
      subst hv
      have hn:∃ n,size P fd.type=some n/\n≠0:=by
       unfold gP at hz
       split at hz
       ·rename_i n hn;exact⟨n,hn,fun e=>by subst e;simp at hz⟩
       ·cases hz
      obtain⟨n,hn,hne⟩:=hn
      refine⟨.pointer (some (ad.add fd.offset)),by simp only[den,re _ had],?_⟩
      simp[Instr.fieldAt,av hfs,hfd,<- h1,Instr.sureAddr,fieldPlace,bQ hn,hne]
    ·cases hv
   ·cases h1
  ·cases hv
 ·cases hv
theorem ku(h:HR ρ s w)(ht:TR ρ t tm){x:Operand}{dst:Option Tmp}{type:TypeId}{pos:String}{after:Array Edge}{guard:Option (Nat×Bool)}{nx:Nx}(e:bj s (lE (eval t x))=some nx) :
 yW P ρ w s nx ((execOp (rv tm) { dst,op:=.nilCheck x,type,pos,after,guard }).run P w):=by
 unfold bj at e
 split at e
 ·rename_i v hv
  cases e
  unfold lE at hv
  split at hv
  ·rename_i a hx
   cases hv
   have h1:=az ht hx
   have h2:=h1
   simp only[den]at h2
   split at h2
   ·rename_i ad had
    simp only[Option.some.injEq]at h2
    refine⟨_,.pointer (some ad),rfl,?_,by simp only[den,had]⟩
    simp only[execOp,<- h2,Sem.run_pure]
   ·cases h2
  ·rename_i fn fi ca hx
   have h1:=az ht hx
   split at hv
   ·cases hv
    refine⟨_,rv tm x,rfl,?_,h1⟩
    simp only[den,lW]at h1
    (repeat' split at h1)<;>try cases h1
    simp only[Option.some.injEq]at h1
    simp only[execOp,<- h1,Sem.run_pure]
   ·cases hv
    refine⟨_,rv tm x,rfl,?_,h1⟩
    simp only[den,lW]at h1
    (repeat' split at h1)<;>try cases h1
    simp only[Option.some.injEq]at h1
    rename_i h2 _ _ _ _ _ _
    simp only[execOp,<- h1]
    split at h2<;>cases h2
    simp only[Sem.run_pure]
   ·cases hv
  ·cases hv
 ·cases e
end ops
theorem bE(l:List Nat):(ay l).toList=l.map UInt8.ofNat:=by unfold ay;simp
theorem kN:∀ {a b:List Nat} {r:Bool},jT a b=some r->((ay a).toList==(ay b).toList)=r:=by
 intro a
 induction a with
 |nil =>
  intro b r h
  cases b with
  |nil=>cases h;rw[bE];rfl
  |cons y b=>cases h;rw[bE,bE];rfl
 |cons x a ih =>
  intro b r h
  cases b with
  |nil=>cases h;rw[bE,bE];rfl
  |cons y b =>
   simp only[jT]at h
   cases hb:Nat.beq x y with
   |true =>
    simp only[hb,cond_true]at h
    have e:=Nat.eq_of_beq_eq_true hb
    have h1:=ih h
    rw[bE,bE]at h1 ⊢
    subst e
    simp only[List.map_cons]
    rw[<- h1,List.cons_beq_cons]
    simp
   |false =>
    simp only[hb,cond_false]at h
    cases hc:(Nat.blt x 256&&Nat.blt y 256)with
    |false=>simp[hc]at h
    |true =>
     simp only[hc,cond_true,Option.some.injEq]at h
     subst h
     simp only[Bool.and_eq_true,Nat.blt_eq]at hc
     rw[bE,bE]
     simp only[List.map_cons]
     have hne:¬ UInt8.ofNat x=UInt8.ofNat y:=fun e=>by
      have:=congrArg UInt8.toNat e
      rw[UInt8.toNat_ofNat',UInt8.toNat_ofNat']at this
      rw[Nat.mod_eq_of_lt hc.1,Nat.mod_eq_of_lt hc.2]at this
      subst this
      simp at hb
     rw[List.cons_beq_cons]
     simp[hne]
section
variable{P:Program}{ρ:aB}{s:S}{w:World}
theorem tg(h:HR ρ s w){a:Ad}(hp:bz s a=true):∃ l c e,ρ a.f a.v=some l/\w.heap[l.b]? = some (.cells c e (0,0)):=by
 unfold bz at hp
 split at hp
 ·rename_i el sb nv vers hg
  simp only[Bool.and_eq_true,Bool.not_eq_true']at hp
  obtain⟨u,hu⟩:=Option.isSome_iff_exists.1 hp.2
  obtain⟨⟨l,c,e,fz,h1,h2,h3,h4,⟨h5,_⟩,h6⟩,_,hv⟩:=h.ver hg hu
  rw[hv]at h1
  rw[h5 hp.1]at h2
  exact⟨l,c,e,h1,h2⟩
 ·cases hp
theorem DY(h:HR ρ s w){a b:Ad}{r:Bool}(e:IM (bz s) a b=some r){A B:Addr}(ha:gw ρ a=some A)(hb:gw ρ b=some B) :
 (sameAddr A B).run P w=.ok r w:=by
 unfold IM at e
 cases hp:(bz s a&&bz s b)with
 |false=>simp[hp]at e
 |true =>
  simp only[hp,cond_true]at e
  simp only[Bool.and_eq_true]at hp
  obtain⟨la,ha1,ha2,rfl⟩:=rc ha
  obtain⟨lb,hb1,hb2,rfl⟩:=rc hb
  obtain⟨l1,c1,e1,g1,g2⟩:=tg h hp.1
  obtain⟨l2,c2,e2,g3,g4⟩:=tg h hp.2
  rw[ha1]at g1;cases g1
  rw[hb1]at g3;cases g3
  cases hf:Nat.beq a.f b.f with
  |true =>
   simp only[hf,cond_true]at e
   cases hv:Nat.beq a.v b.v with
   |false=>simp[hv]at e
   |true =>
    simp only[hv,cond_true,Option.some.injEq]at e
    rw[Nat.eq_of_beq_eq_true hf,Nat.eq_of_beq_eq_true hv,hb1]at ha1
    cases ha1
    simp only[sameAddr,beq_self_eq_true,if_true]
    show Result.ok _ _=_
    congr 1
    subst e
    cases hc:Nat.beq a.c b.c with
    |true=>rw[Nat.eq_of_beq_eq_true hc];simp
    |false =>
     have hne:a.c≠b.c:=fun e=>by rw[e]at hc;simp at hc
     simp;omega
  |false =>
   simp only[hf,cond_false,Option.some.injEq]at e
   subst e
   have hne:la.b≠lb.b:=fun e=>by
    have:=(h.inj _ _ _ _ _ _ ha1 hb1 e).1
    rw[this]at hf;simp at hf
   have hn:(la.b==lb.b)=false:=by simpa using hne
   have fa:w.frozen? ⟨la.b,a.c - la.base,none⟩=false:=by simp[World.frozen?,g2]
   have fb:w.frozen? ⟨lb.b,b.c - lb.base,none⟩=false:=by simp[World.frozen?,g4]
   have fa':∀ n,w.frozen? { block:=la.b,off:=n }=false:=fun n=>by simp[World.frozen?,g2]
   have fb':∀ n,w.frozen? { block:=lb.b,off:=n }=false:=fun n=>by simp[World.frozen?,g4]
   have sa:w.shape? la.b=some (e1,c1.size):=by simp[World.shape?,g2]
   have sb:w.shape? lb.b=some (e2,c2.size):=by simp[World.shape?,g4]
   simp[sameAddr,hn,fa,fb,noView,viewAt,sa,sb,mayBeOne,stringish,fa',fb']
theorem Fm{fn:Fn}{fi ca:List V}{x:Value}(h:den ρ (.func fn fi ca)=some x):∃ g a b,x=.func g a b:=by
 simp only[den]at h
 split at h
 ·split at h
  ·split at h
   ·cases h;exact⟨_,_,_,rfl⟩
   ·cases h
  ·cases h
 ·cases h
theorem tE{t:TypeId}{fs:Array Field}(h:P.underlying t=some (.struct fs)):P.fieldsOf t=fs:=by
 unfold Program.fieldsOf;rw[h]
theorem mW{eq:TypeId->V->V->Option Bool}{d:Nat}(heq:∀ t x y r X Y,eq t x y=some r->den ρ x=some X->den ρ y=some Y->(Op.equalIn d t X Y).run P w=.ok r w) :
 ∀(fs:List Field) (xs ys:List V) (X Y:Array Value) (r:Bool),iN P eq fs xs ys=some r->aN ρ xs=some X.toList->aN ρ ys=some Y.toList ->
  (Op.eqFields d X Y fs).run P w=.ok r w
 |[],xs,ys,X,Y,r,h,_,_=>by cases h;rfl
 |f::fs,xs,ys,X,Y,r,h,hx,hy=>by
  simp only[iN]at h
  cases hn:(f.name == "_")with
  |true=>simp[hn]at h
  |false =>
   simp only[hn,cond_false]at h
   have hne:f.name ≠ "_" := by simpa using hn
   split at h
   ·rename_i a b ha hb
    obtain⟨A,ha1,ha2⟩:=jr (P:=P) (w:=w) hx ha
    obtain⟨B,hb1,hb2⟩:=jr (P:=P) (w:=w) hy hb
    simp only[Op.eqFields,hne,ne_eq,not_false_eq_true,if_true,Sem.run_bind,ha2,hb2,Result.andThen_ok]
    split at h
    ·rename_i hq
     rw[heq _ _ _ _ _ _ hq ha1 hb1]
     simpa using mW heq fs xs ys X Y r h hx hy
    ·rename_i hq
     cases h
     rw[heq _ _ _ _ _ _ hq ha1 hb1]
     simp
    ·cases h
   ·cases h
set_option maxHeartbeats 3000000 in
theorem uB(h:HR ρ s w):∀(d:Nat) (t:TypeId) (x y:V) (r:Bool) (X Y:Value) (d':Nat),cF P (bz s) d t x y=some r->den ρ x=some X->den ρ y=some Y->d<=d' ->
 (Op.equalIn d' t X Y).run P w=.ok r w:=by
 intro d
 induction d with
 |zero=>intro t x y r X Y d' e;cases e
 |succ d ih =>
  intro t x y r X Y d' e hx hy hd
  obtain⟨d',rfl⟩:∃ n,d'=n+1:=⟨d' - 1,by omega⟩
  simp only[cF]at e
  split at e
  ·rename_i fs hu
   split at e
   ·rename_i xs ys
    cases hs:P.stoodInHeld t with
    |true=>simp[hs]at e
    |false =>
     simp only[hs,cond_false]at e
     simp only[den]at hx hy
     split at hx
     ·rename_i lx hlx
      split at hy
      ·rename_i ly hly
       cases hx;cases hy
       rw[run_equalIn_struct w d' t _ _ (by rw[tE hu];exact hu) hs,tE hu]
       exact mW (fun t x y r X Y e h1 h2=>ih t x y r X Y d' e h1 h2 (by omega)) fs.toList xs ys _ _ r e (by simpa using hlx) (by simpa using hly)
      ·cases hy
     ·cases hx
   ·cases e
  ·rename_i ms hu
   split at e
   ·cases hx;cases hy;cases e;simp[Op.equalIn,av hu]
   ·rename_i ty vy
    simp only[den]at hy
    split at hy
    ·cases hx;cases hy;cases e;simp[Op.equalIn,av hu]
    ·cases hy
   ·rename_i tx vx
    simp only[den]at hx
    split at hx
    ·cases hx;cases hy;cases e;simp[Op.equalIn,av hu]
    ·cases hx
   ·rename_i tx vx ty vy
    simp only[den]at hx hy
    split at hx
    ·rename_i zx hzx
     split at hy
     ·rename_i zy hzy
      cases hx;cases hy
      cases ht:Nat.beq tx ty with
      |false =>
       simp only[ht,cond_false,Option.some.injEq]at e
       subst e
       have hne:tx≠ty:=fun e=>by rw[e]at ht;simp at ht
       simp[Op.equalIn,av hu,hne]
      |true =>
       simp only[ht,cond_true]at e
       have:=Nat.eq_of_beq_eq_true ht
       subst this
       split at e
       ·rename_i i hi
        cases hc:i.comparable with
        |false=>simp[hc]at e
        |true =>
         simp only[hc,cond_true]at e
         have:=ih _ _ _ _ _ _ d' e hzx hzy (by omega)
         simp[Op.equalIn,av hu,typeInfo,hi,hc,this]
       ·cases e
     ·cases hy
    ·cases hx
   ·cases e
  ·rename_i hu
   split at e
   ·cases hx;cases hy;cases e;simp[Op.equalIn,av hu]
   ·cases e
  ·rename_i k0 hu
   split at e
   ·rename_i j a k b
    cases hk:cP j k with
    |false=>simp[hk]at e
    |true =>
     simp only[hk,cond_true,Option.some.injEq]at e
     have hjk:j=k:=of_decide_eq_true hk
     subst hjk
     cases hx;cases hy;subst e
     simp[Op.equalIn,av hu]
   ·cases e
  ·rename_i hu
   split at e
   ·rename_i a b
    cases hx;cases hy
    have:=kN e
    simp[Op.equalIn,av hu,beq_toListBytes,this]
   ·cases e
  ·rename_i el hu
   split at e
   ·cases hx;cases hy;cases e;simp[Op.equalIn,av hu]
   ·rename_i b
    simp only[den]at hy
    split at hy
    ·cases hx;cases hy;cases e;simp[Op.equalIn,av hu]
    ·cases hy
   ·rename_i a
    simp only[den]at hx
    split at hx
    ·cases hx;cases hy;cases e;simp[Op.equalIn,av hu]
    ·cases hx
   ·rename_i a b
    simp only[den]at hx hy
    split at hx
    ·rename_i A hA
     split at hy
     ·rename_i B hB
      cases hx;cases hy
      split at e
      ·rename_i n hn
       cases hz:Nat.beq n 0 with
       |true=>simp[hz]at e
       |false =>
        simp only[hz,cond_false]at e
        have hne:n≠0:=fun e=>by subst e;simp at hz
        have:=DY (P:=P) h e hA hB
        simp[Op.equalIn,av hu,bQ hn,hne,this]
      ·cases e
     ·cases hy
    ·cases hx
   ·cases e
  ·rename_i el hu
   split at e
   ·cases hx;cases hy;cases e;simp[Op.equalIn,av hu]
   ·rename_i a z n c sz
    simp only[den,gp]at hy
    (repeat' split at hy)<;>first|(cases hy;done)|(cases hx;cases hy;cases e;simp[Op.equalIn,av hu])
   ·rename_i a z n c sz
    simp only[den,gp]at hx
    (repeat' split at hx)<;>first|(cases hx;done)|(cases hx;cases hy;cases e;simp[Op.equalIn,av hu])
   ·cases e
  ·rename_i k el hu
   split at e
   ·cases hx;cases hy;cases e;simp[Op.equalIn,av hu]
   ·simp only[den]at hy
    split at hy
    ·cases hx;cases hy;cases e;simp[Op.equalIn,av hu]
    ·cases hy
   ·simp only[den]at hx
    split at hx
    ·cases hx;cases hy;cases e;simp[Op.equalIn,av hu]
    ·cases hx
   ·cases e
  ·rename_i hu
   split at e
   ·cases hx;cases hy;cases e;simp[Op.equalIn,av hu]
   ·obtain⟨g,a,b,rfl⟩:=Fm hy
    cases hx;cases e;simp[Op.equalIn,av hu]
   ·obtain⟨g,a,b,rfl⟩:=Fm hx
    cases hy;cases e;simp[Op.equalIn,av hu]
   ·cases e
  ·cases e
end
section ops
variable{P:Program}{ρ:aB}{s:S}{w:World}{t:T V}{tm:Array Value}
theorem ED{op:BinOp}{k:IntKind}{a b:Int}{v:V}(ty:TypeId)(hns:nN op=false)(h:AJ op k a b=some v) :
 ∃ y,den ρ v=some y/\(Go.binOp op ty (.int k a) (.int k b)).run P w=.ok y w:=by
 cases op<;>simp only[nN,Bool.true_eq_false]at hns<;>simp only[AJ,cb]at h
 case quo =>
  cases hb:(b==0)with
  |true=>simp[hb]at h
  |false =>
   simp only[hb,cond_false,Option.some.injEq]at h
   subst h
   have:b≠0:=by simpa using hb
   exact⟨_,rfl,by simp[Go.binOp,Op.intDiv,this]⟩
 case rem =>
  cases hb:(b==0)with
  |true=>simp[hb]at h
  |false =>
   simp only[hb,cond_false,Option.some.injEq]at h
   subst h
   have:b≠0:=by simpa using hb
   exact⟨_,rfl,by simp[Go.binOp,Op.intDiv,this]⟩
 all_goals first
  |cases h;done
  |(cases h;exact⟨_,rfl,by simp[Go.binOp,Op.intArith,Op.intCmp,Op.intBits]⟩)
theorem zi{op:BinOp}{k yk:IntKind}{a b:Int}{v:V}(ty:TypeId)(h:BI op k a b=some v) :
 ∃ y,den ρ v=some y/\(Go.binOp op ty (.int k a) (.int yk b)).run P w=.ok y w:=by
 cases b with
 |negSucc n=>cases h
 |ofNat n =>
  have h0:¬(Int.ofNat n<0):=Int.not_lt.2 (Int.natCast_nonneg n)
  cases op<;>simp only[BI,cb]at h<;>first
   |(cases h;done)
   |(cases h;exact⟨_,rfl,by simp[Go.binOp,Op.shift];intro h;omega⟩)
theorem DJ{op:BinOp}{a b:List Nat}{v:V}(ty:TypeId)(h:vN op a b=some v) :
 ∃ y,den ρ v=some y/\(Go.binOp op ty (.string (ay a)) (.string (ay b))).run P w=.ok y w:=by
 cases op<;>simp only[vN]at h
 case add =>
  cases hb:Nat.ble (a.length+b.length) 1000000 with
  |false=>simp[hb]at h
  |true =>
   simp only[hb,cond_true,Option.some.injEq]at h
   subst h
   have hl:=Nat.le_of_ble_eq_true hb
   have sa:(ay a).size=a.length:=by unfold ay;simp[ByteArray.size]
   have sb:(ay b).size=b.length:=by unfold ay;simp[ByteArray.size]
   have hcat:ay a++ay b=ay (a++b):=by
    apply ByteArray.ext
    simp[ay]
   refine⟨_,rfl,?_⟩
   have hle:¬(((ay a).size+(ay b).size:Nat):Int)>IntKind.i64.max:=by
    rw[sa,sb];simp only[IntKind.max,IntKind.signed,IntKind.bits];simp;omega
   simp only[Go.binOp,Op.stringOp]
   rw[if_neg hle,hcat];rfl
 case eql =>
  cases hq:jT a b with
  |none=>simp[hq]at h
  |some r =>
   simp only[hq,Option.map_some,Option.some.injEq]at h;subst h
   exact⟨_,rfl,by simp only[Go.binOp,Op.stringOp,kN hq];rfl⟩
 case neq =>
  cases hq:jT a b with
  |none=>simp[hq]at h
  |some r =>
   simp only[hq,Option.map_some,Option.some.injEq]at h;subst h
   exact⟨_,rfl,by simp only[Go.binOp,Op.stringOp,kN hq];rfl⟩
 case lss =>
  cases h
  exact⟨_,rfl,by simp only[Go.binOp,Op.stringOp,bE,nq];rfl⟩
 all_goals cases h
theorem Hu{op:BinOp}{ty:TypeId}{ox oy:Operand}{a b:V}{A B:Value}(hg:eT P op ty ox oy a b=true)(ha:den ρ a=some A)(hb:den ρ b=some B) :
 (eqGuard op ty ox oy A B).run P w=.ok () w:=by
 unfold eT at hg
 cases he:mJ op with
 |false=>cases op<;>simp only[mJ,Bool.true_eq_false]at he<;>simp[eqGuard]
 |true =>
  rw[he]at hg
  simp only[cond_true]at hg
  have key:∀(A B:Value),(A=.nilIface->B=.nilIface->(eF ox||eF oy)=true)->(∀ xs ys,A=.agg xs->B=.agg ys->P.eqGuardType P.depth ty=false) ->
   (eqGuard op ty ox oy A B).run P w=.ok () w:=by
   intro A B h1 h2
   by_cases hn:A=.nilIface/\B=.nilIface
   ·obtain⟨rfl,rfl⟩:=hn
    have:=h1 rfl rfl
    cases op<;>simp only[mJ,Bool.false_eq_true]at he<;>cases ox<;>cases oy<;>simp[eF]at this<;>simp[eqGuard]
   ·by_cases hm:∃ xs ys,A=.agg xs/\B=.agg ys
    ·obtain⟨xs,ys,rfl,rfl⟩:=hm
     exact run_eqGuard_agg w op ty ox oy xs ys (h2 xs ys rfl rfl)
    ·cases op<;>simp only[mJ,Bool.false_eq_true]at he<;>(cases A<;>first|rfl|(cases B<;>first|rfl|(exact absurd ⟨rfl,rfl⟩ hn)|(exact absurd ⟨_,_,rfl,rfl⟩ hm)))
  refine key A B (fun hA hB=>?_) (fun xs ys hA hB=>?_)
  ·subst hA;subst hB
   have na:a=.nilIface:=by
    cases a<;>simp only[den,gp]at ha<;>(repeat' split at ha)<;>first|rfl|(simp at ha;done)|cases ha
   have nb:b=.nilIface:=by
    cases b<;>simp only[den,gp]at hb<;>(repeat' split at hb)<;>first|rfl|(simp at hb;done)|cases hb
   subst na;subst nb;exact hg
  ·subst hA;subst hB
   have na:∃ l,a=.agg l:=by
    cases a<;>simp only[den,gp]at ha<;>(repeat' split at ha)<;>first|exact⟨_,rfl⟩|(simp at ha;done)|cases ha
   have nb:∃ l,b=.agg l:=by
    cases b<;>simp only[den,gp]at hb<;>(repeat' split at hb)<;>first|exact⟨_,rfl⟩|(simp at hb;done)|cases hb
   obtain⟨la,rfl⟩:=na
   obtain⟨lb,rfl⟩:=nb
   simpa using hg
theorem Kx{x y:V}:(∃ j a k b,x=.int j a/\y=.int k b)\/(∃ a b,x=.str a/\y=.str b)\/((∀ j a k b,¬(x=.int j a/\y=.int k b))/\∀ a b,¬(x=.str a/\y=.str b)):=by
 by_cases h1:∃ j a k b,x=.int j a/\y=.int k b
 ·exact .inl h1
 ·by_cases h2:∃ a b,x=.str a/\y=.str b
  ·exact .inr (.inl h2)
  ·exact .inr (.inr ⟨fun j a k b h=>h1 ⟨j,a,k,b,h⟩,fun a b h=>h2 ⟨a,b,h⟩⟩)
theorem DT{ty:TypeId}{X Y:Value}{r:Bool}(h:(Op.equalIn 10000 ty X Y).run P w=.ok r w)(hn:∀ j a k b,¬(X=.int j a/\Y=.int k b))(hs:∀ a b,¬(X=.string a/\Y=.string b))
 (hf:∀ k a,X≠.float k a) (hc:∀ k a b,X≠.complex k a b) :
 (Go.binOp .eql ty X Y).run P w=.ok (.bool r) w/\(Go.binOp .neq ty X Y).run P w=.ok (.bool (!r)) w:=by
 have e1:∀(o:Sem Bool),o.run P w=.ok r w->((do pure (.bool (<- o)):Sem Value).run P w=.ok (.bool r) w/\(do pure (.bool (!(<- o))):Sem Value).run P w=.ok (.bool (!r)) w):=fun o ho=>by simp[ho]
 have h':(Op.equal ty X Y).run P w=.ok r w:=h
 cases X<;>first
  |exact e1 _ h'
  |(exact absurd rfl (hf _ _))
  |(exact absurd rfl (hc _ _ _))
  |(cases Y<;>first
   |exact e1 _ h'
   |(exact absurd ⟨rfl,rfl⟩ (hn _ _ _ _))
   |(exact absurd ⟨rfl,rfl⟩ (hs _ _)))
theorem Bg{v:V}{x:Value}(h:den ρ v=some x):(∀ k a,x≠.float k a)/\(∀ k a b,x≠.complex k a b)/\(∀ j a,x=.int j a->v=.int j a)/\(∀ a,x=.string a->∃ l,v=.str l):=by
 cases v<;>simp only[den,gp]at h<;>(repeat' split at h)<;>first
  |(cases h;done)
  |(cases h;exact⟨fun _ _ e=>(by cases e),fun _ _ _ e=>(by cases e),fun _ _ e=>(by cases e<;>rfl),fun _ e=>(by cases e<;>exact⟨_,rfl⟩)⟩)
theorem uD(h:HR ρ s w)(ht:TR ρ t tm){op:BinOp}{ty:TypeId}{x y:Operand}{nx:Nx}(e:bj s (fp P s op ty x y (eval t x) (eval t y))=some nx) :
 yW P ρ w s nx ((do pure (Next.value (<- (do eqGuard op ty x y (rv tm x) (rv tm y);Go.binOp op ty (rv tm x) (rv tm y):Sem Value))):Sem Next).run P w):=by
 refine aP h e fun v hv=>?_
 unfold fp at hv
 split at hv
 ·rename_i a ha
  split at hv
  ·rename_i b hb
   cases hg:eT P op ty x y a b with
   |false=>simp[hg]at hv
   |true =>
    simp only[hg,cond_true]at hv
    have da:=az ht ha
    have db:=az ht hb
    have hgo:=Hu (w:=w) hg da db
    generalize rv tm x=X at *
    generalize rv tm y=Y at *
    suffices hs:∃ y,den ρ v=some y/\(Go.binOp op ty X Y).run P w=.ok y w by
     obtain⟨z,h1,h2⟩:=hs
     exact⟨z,h1,by simp[hgo,h2]⟩
    rcases Kx (x:=a) (y:=b)with⟨j,m,k,n,rfl,rfl⟩|⟨l,m,rfl,rfl⟩|⟨hni,hns⟩
    ·cases da;cases db
     simp only[ff]at hv
     cases hs:nN op with
     |true=>rw[hs]at hv;exact zi ty hv
     |false =>
      rw[hs]at hv
      simp only[cond_false]at hv
      cases hk:cP j k with
      |false=>simp[hk]at hv
      |true =>
       simp only[hk,cond_true]at hv
       obtain rfl:j=k:=of_decide_eq_true hk
       exact ED ty hs hv
    ·cases da;cases db
     exact DJ ty hv
    ·have hv':(match(generalizing:=false) op with
      |.eql=>(cF P (bz s) 20 ty a b).map .bool
      |.neq=>(cF P (bz s) 20 ty a b).map fun b=>.bool (!b)
      |_=>none)=some v:=by
      unfold ff at hv
      split at hv
      ·exact absurd ⟨rfl,rfl⟩ (hni _ _ _ _)
      ·exact absurd ⟨rfl,rfl⟩ (hns _ _)
      ·exact hv
     obtain⟨s1,s2,s3,s4⟩:=Bg da
     obtain⟨q1,q2,q3,q4⟩:=Bg db
     have hn:∀ j a' k b',¬(X=.int j a'/\Y=.int k b'):=fun j a' k b' ⟨e1,e2⟩=>hni j a' k b' ⟨s3 _ _ e1,q3 _ _ e2⟩
     have hss:∀ a' b',¬(X=.string a'/\Y=.string b'):=fun a' b' ⟨e1,e2⟩=>by
      obtain⟨l,rfl⟩:=s4 _ e1
      obtain⟨m,rfl⟩:=q4 _ e2
      exact hns _ _ ⟨rfl,rfl⟩
     cases hq:cF P (bz s) 20 ty a b with
     |none=>cases op<;>simp[hq]at hv'
     |some r =>
      have he:=uB h 20 ty a b r X Y 10000 hq da db (by omega)
      obtain⟨g1,g2⟩:=DT he hn hss s1 s2
      cases op<;>simp only[hq,Option.map_some,Option.some.injEq]at hv'<;>first
       |(subst hv';exact⟨_,rfl,g1⟩)
       |(subst hv';exact⟨_,rfl,g2⟩)
       |cases hv'
  ·cases hv
 ·cases hv
theorem yl(h:HR ρ s w)(ht:TR ρ t tm){op:UnOp}{x:Operand}{nx:Nx}(e:bj s (Vb op (eval t x))=some nx) :
 yW P ρ w s nx ((do pure (Next.value (<- Op.unary op (rv tm x))):Sem Next).run P w):=by
 refine aP h e fun v hv=>?_
 unfold Vb at hv
 split at hv
 ·rename_i a ha
  have da:=az ht ha
  generalize rv tm x=X at *
  cases op<;>cases a<;>simp only[LN]at hv<;>first
   |(cases hv;done)
   |(cases hv;cases da;exact⟨_,rfl,by simp[Op.unary,Op.intArith]⟩)
 ·cases hv
theorem nh(h:HR ρ s w)(ht:TR ρ t tm){x:Operand}{xt ty:TypeId}{ok:Bool}{nx:Nx}(e:bj s (kw P (eval t x) ty ok)=some nx) :
 yW P ρ w s nx ((do pure (Next.value (<- Instr.typeAssert (rv tm x) xt ty ok)):Sem Next).run P w):=by
 refine aP h e fun v hv=>?_
 unfold kw at hv
 split at hv
 ·cases hv
 ·rename_i d hni hd
  have hfail:∀ v,eI P ty ok=some v->ok=true/\∃ z i,P.info? ty=some i/\i.zero=some z/\den ρ v=some (.tuple #[z,.bool false]):=fun v hf=>by
   unfold eI at hf
   cases ok with
   |false=>cases hf
   |true =>
    simp only[cond_true]at hf
    split at hf
    ·rename_i z hz
     obtain⟨y,i,hi,hzi,hden⟩:=eh hz
     cases hf
     exact⟨rfl,y,i,hi,hzi,by simp only[den,aN,hden ρ]⟩
    ·cases hf
  split at hv
  ·rename_i hx
   have dx:=az ht hx
   obtain⟨rfl,z,i,hi,hz,hden⟩:=hfail v hv
   simp only[den,Option.some.injEq]at dx
   refine⟨_,hden,?_⟩
   simp only[Instr.typeAssert,Sem.run_bind,av hd,Result.andThen_ok,<- dx]
   cases d<;>first|(simp[fj hi hz];done)|exact absurd rfl (hni _)
  ·rename_i u q hx
   have dx:=az ht hx
   simp only[den]at dx
   split at dx
   ·rename_i z hz
    simp only[Option.some.injEq]at dx
    cases hb:Nat.beq u ty with
    |true =>
     simp only[hb,cond_true,Option.some.injEq]at hv
     have hu:=Nat.eq_of_beq_eq_true hb
     subst hu
     subst hv
     refine⟨if ok then .tuple #[z,.bool true] else z,by cases ok<;>simp[den,aN,hz],?_⟩
     simp only[Instr.typeAssert,Sem.run_bind,av hd,Result.andThen_ok,<- dx]
     cases d<;>first|(simp;done)|exact absurd rfl (hni _)
    |false =>
     simp only[hb,cond_false]at hv
     have hu:u≠ty:=fun e=>by rw[e]at hb;simp at hb
     obtain⟨rfl,z',i,hi,hz',hden⟩:=hfail v hv
     refine⟨_,hden,?_⟩
     simp only[Instr.typeAssert,Sem.run_bind,av hd,Result.andThen_ok,<- dx]
     cases d<;>first|(simp[hu,fj hi hz'];done)|exact absurd rfl (hni _)
   ·cases dx
  ·cases hv
 ·cases hv
end ops
section ops
variable{P:Program}{ρ:aB}{s:S}{w:World}{t:T V}{tm:Array Value}
theorem jg{a b:Nat}(h:Nat.blt a b=true):a<b:=Nat.le_of_ble_eq_true h
theorem eO{a:Ad}{z len sz:Nat}{cap:Option Nat}{y:Value}(h:den ρ (.slice a z len cap sz)=some y)(hz:sz≠0\/0<len) :
 ∃ l,ρ a.f a.v=some l/\l.base<=ba l a z cap sz/\l.base<=a.c/\len<=bT l a cap sz/\0<sz/\y=.slice (some ⟨l.b,ba l a z cap sz - l.base,none⟩) len (bT l a cap sz):=by
 simp only[den,gp]at h
 split at h
 ·rename_i h0
  split at h
  ·rename_i h1;omega
  ·cases h
 split at h
 ·rename_i l hl
  split at h
  ·rename_i hc
   simp only[Option.some.injEq]at h
   exact⟨l,hl,hc.1,hc.2.1,hc.2.2.1,hc.2.2.2,h.symm⟩
  ·cases h
 ·cases h
theorem cX{a:Ad}{z len sz:Nat}{cap:Option Nat}{l:ze}(hl:ρ a.f a.v=some l)(h1:l.base<=ba l a z cap sz)(h2:l.base<=a.c)(h3:len<=bT l a cap sz)(h4:0<sz) :
 den ρ (.slice a z len cap sz)=some (.slice (some ⟨l.b,ba l a z cap sz - l.base,none⟩) len (bT l a cap sz)):=by
 simp only[den,gp]
 rw[if_neg (show ¬ sz=0 by omega)]
 simp only[hl]
 rw[if_pos ⟨h1,h2,h3,h4⟩]
theorem sZ{a:Ad}{z len sz:Nat}{cap:Option Nat}{y:Value}(h:den ρ (.slice a z len cap sz)=some y):∃ b c,y=.slice b len c/\∀ c',cap=some c'->c=c':=by
 by_cases hz:sz=0
 ·simp only[den,gp]at h
  rw[if_pos hz]at h
  split at h
  ·rename_i h1
   cases h
   exact⟨_,0,by rw[h1.1],fun c' hc=>by rw[h1.2]at hc;exact Option.some.inj hc⟩
  ·cases h
 ·obtain⟨l,_,_,_,_,_,rfl⟩:=eO h (.inl hz)
  exact⟨_,_,rfl,fun c' hc=>by subst hc;rfl⟩
theorem IV{n:Nat}(h:Nat.beq n 0=false):n≠0:=fun e=>by subst e;cases h
theorem dU{l:ze}{a:Ad}{z len sz:Nat}{cap:Option Nat}(h:len<=bT l a cap sz)(h0:0<len):ba l a z cap sz=a.c:=by
 cases cap with
 |some c=>rfl
 |none=>simp only[ba,bT]at *;rw[if_neg (by omega)]
theorem fD(ht:TR ρ t tm){x:Operand}{n:Nat}(h:dG (eval t x)=some n):∃ k,rv tm x=.int k (.ofNat n):=by
 obtain⟨k,hk⟩:=GS h
 have:=az ht hk
 simp only[den,Option.some.injEq]at this
 exact⟨k,this.symm⟩
theorem jz(h:HR ρ s w)(ht:TR ρ t tm){ty:TypeId}{x i:Operand}{nx:Nx}(e:bj s (fF P ty (eval t x) (dG (eval t i)))=some nx) :
 yW P ρ w s nx ((do pure (Next.value (<- Instr.indexAt ty (rv tm x) (rv tm i))):Sem Next).run P w):=by
 refine aP h e fun v hv=>?_
 unfold fF at hv
 split at hv
 ·rename_i j hj
  obtain⟨k,hi⟩:=fD ht hj
  split at hv
  ·rename_i el hu
   split at hv
   ·rename_i a z len cap sz hx
    split at hv
    ·rename_i n hn
     cases hb:(Nat.beq n sz&&Nat.blt j len)with
     |false=>simp[hb]at hv
     |true =>
      simp only[hb,cond_true,Option.some.injEq]at hv
      simp only[Bool.and_eq_true]at hb
      obtain rfl:=Nat.eq_of_beq_eq_true hb.1
      have hlt:j<len:=jg hb.2
      obtain⟨l,h1,h2,h3,h4,h5,h6⟩:=eO (az ht hx) (.inr (by omega))
      subst hv
      have hc:=dU (z:=z) h4 (by omega)
      rw[hc]at h6
      refine⟨.pointer (some ((⟨l.b,a.c - l.base,none⟩:Addr).add (j*n))),by simp only[den,re _ (rb h1 h3)],?_⟩
      have hr:(0:Int)<=(j:Int)/\(j:Int)<(len:Int):=by omega
      simp[Instr.indexAt,hi,h6,asIntOf,av hu,bQ hn,hlt]
    ·cases hv
   ·cases hv
  ·rename_i len el hu
   split at hv
   ·rename_i a hx
    have h1:=az ht hx
    simp only[den]at h1
    split at h1
    ·rename_i ad had
     simp only[Option.some.injEq]at h1
     split at hv
     ·rename_i n hn
      cases hb:Nat.blt j len with
      |false=>simp[hb]at hv
      |true =>
       simp only[hb,cond_true,Option.some.injEq]at hv
       have hlt:j<len:=jg hb
       subst hv
       refine⟨.pointer (some (ad.add (j*n))),by simp only[den,re _ had],?_⟩
       simp[Instr.indexAt,hi,<- h1,asIntOf,Instr.sureAddr,av hu,bQ hn,hlt]
     ·cases hv
    ·cases h1
   ·cases hv
  ·cases hv
 ·cases hv
theorem cI(l:List Nat)(i:Nat)(c:Nat)(h:l[i]? = some c):(ay l)[i]? = some (UInt8.ofNat c):=by
 have hi:i<l.length:=(List.getElem?_eq_some_iff.1 h).1
 have hs:(ay l).size=l.length:=by simp[ay,ByteArray.size]
 have hi':i<(ay l).size:=by omega
 rw[getElem?_pos (ay l) i hi']
 have hv:=(List.getElem?_eq_some_iff.1 h).2
 congr 1
 show(ay l).data[i]=_
 simp[ay,hv]
theorem oS(h:HR ρ s w)(ht:TR ρ t tm){ty:TypeId}{x i:Operand}{nx:Nx}(e:bj s (nT P ty (eval t x) (dG (eval t i)))=some nx) :
 yW P ρ w s nx ((do pure (Next.value (<- Instr.index ty (rv tm x) (rv tm i))):Sem Next).run P w):=by
 refine aP h e fun v hv=>?_
 unfold nT at hv
 split at hv
 ·rename_i j hj
  obtain⟨k,hi⟩:=fD ht hj
  split at hv
  ·rename_i hu
   split at hv
   ·rename_i l hx
    have h1:=az ht hx
    simp only[den,Option.some.injEq]at h1
    split at hv
    ·rename_i c hc
     cases hv
     refine⟨_,rfl,?_⟩
     have hb:=cI l j c hc
     simp[Instr.index,hi,<- h1,asIntOf,av hu,hb]
     rfl
    ·cases hv
   ·cases hv
  ·rename_i len el hu
   split at hv
   ·rename_i cs hx
    have h1:=az ht hx
    simp only[den]at h1
    split at h1
    ·rename_i l hl
     simp only[Option.some.injEq]at h1
     split at hv
     ·rename_i n hn
      cases hb:Nat.blt j len with
      |false=>simp[hb]at hv
      |true =>
       simp only[hb,cond_true]at hv
       have hlt:j<len:=jg hb
       obtain⟨y,h2,h3⟩:=jr (w:=w) (ys:=l.toArray) (by simpa using hl) hv
       exact⟨y,h2,by simp[Instr.index,hi,<- h1,asIntOf,av hu,bQ hn,hlt,h3]⟩
     ·cases hv
    ·cases h1
   ·cases hv
  ·cases hv
 ·cases hv
theorem uQ(h:HR ρ s w){ty:TypeId}:Dx P ρ w (.val (.map s.next) (s.alloc (.map [] 0))) ((do pure (Next.value (<- Instr.makeMap ty none)):Sem Next).run P w):=by
 have hfree:ρ s.next 0=none:=h.fresh _ _ (Nat.le_refl _)
 obtain⟨h1,h2⟩:=h.alloc (.map [] 0) (.map #[] 0) 0 0 (Nat.le_refl _) ⟨⟨w.heap.size,0,0⟩,#[],aB.put_same _ _ _ _,dN _ _,trivial⟩
 exact⟨_,.map (some w.heap.size),_,by simp[Instr.makeMap],by simp[den,aB.put_same],h1,h2⟩
theorem yu(zs:List Value)(k:Nat)(hk:zs.length=k)(h0:0<k):∀ c:Nat,(List.range (c*k)).map (fun i=>zs.toArray[i%zs.toArray.size]!)=(List.replicate c zs).flatten
 |0=>by simp
 |c+1=>by
  rw[List.replicate_succ,List.flatten_cons,<- yu zs k hk h0 c,Nat.succ_mul,Nat.add_comm,List.range_add,List.map_append,List.map_map]
  congr 1
  ·apply List.ext_getElem
   ·simp[hk]
   ·intro i h1 h2
    simp at h1
    simp[hk,Nat.mod_eq_of_lt h1]
    rw[List.getElem?_eq_getElem h2];rfl
  ·apply List.map_congr_left
   intro i _
   simp[hk]
theorem gb{l:List V}{m:List Value}(h:aN ρ l=some m):∀ c:Nat,aN ρ (List.replicate c l).flatten=some (List.replicate c m).flatten
 |0=>rfl
 |c+1=>by
  rw[List.replicate_succ,List.flatten_cons,List.replicate_succ,List.flatten_cons]
  exact cR h (gb h c)
theorem qw(h:HR ρ s w){elem:TypeId}{cs:List V}{ys:Array Value}(hd:aN ρ cs=some ys.toList){len sz:Nat}{cap:Nat}(hl:len<=cap)(hsz:0<sz) :
 Dx P ρ w (.val (.slice (aW s elem cs).1 0 len (some cap) sz) (aW s elem cs).2) ((do pure (Next.value (.slice (some (<- newRow elem ys)) len cap)):Sem Next).run P w):=by
 have hlen:cs.length=ys.size:=by have:=bu hd;simpa using this.symm
 obtain⟨ρ',h1,h2,h3⟩:=fR h false elem elem (cs:=cs) (ys:=ys) (by rw[hd,hlen,List.take_of_length_le (by simp)]) (0,0) ⟨fun _=>rfl,by simp⟩
 refine⟨ρ',.slice (some ⟨w.heap.size,0,none⟩) len cap,_,by simp[newRow],?_,h2,h3⟩
 exact cX (l:=⟨w.heap.size,0,ys.size⟩) h1 (Nat.zero_le _) (Nat.zero_le _) hl hsz
theorem kI(n:Nat)(h:n<=2199023255552):IntKind.i64.wrap (Int.ofNat n)=Int.ofNat n:=by
 simp only[IntKind.wrap,IntKind.bits,IntKind.signed]
 simp
 omega
theorem uP(h:HR ρ s w)(ht:TR ρ t tm){ty:TypeId}{l c:Operand}{nx:Nx}(e:dR P s ty (dG (eval t l)) (dG (eval t c))=some nx) :
 Dx P ρ w nx ((do pure (Next.value (<- Instr.makeSlice ty (rv tm l) (rv tm c))):Sem Next).run P w):=by
 unfold dR at e
 split at e
 ·rename_i el hu
  split at e
  ·rename_i l' hl
   split at e
   ·rename_i c' hc
    obtain⟨k1,e1⟩:=fD ht hl
    obtain⟨k2,e2⟩:=fD ht hc
    split at e
    ·rename_i z hz
     obtain⟨zv,i,hi,hzi,hden⟩:=eh hz
     split at e
     ·rename_i n hn
      cases hb:(Nat.ble l' c'&&Nat.ble c' 2199023255552&&!(Nat.beq n 0)&&Nat.beq z.cells.length n&&kP P el c')with
      |false=>simp[hb]at e
      |true =>
       simp only[hb,cond_true]at e
       simp only[Bool.and_eq_true]at hb
       obtain⟨⟨⟨⟨b1,b2⟩,b3⟩,b4⟩,b5⟩:=hb
       have b1:=Nat.le_of_ble_eq_true b1
       have b2:=Nat.le_of_ble_eq_true b2
       have b4:=Nat.eq_of_beq_eq_true b4
       have b3:0<n:=by
        rcases Nat.eq_zero_or_pos n with h0|h0
        ·subst h0;simp at b3
        ·exact h0
       have b5:i.bytes*c'<=100000000000000:=by
        unfold kP at b5
        simp only[hi]at b5
        exact Nat.le_of_ble_eq_true b5
       have hzc:=dS (hden ρ)
       have hzl:zv.cells.toList.length=n:=by have:=bu hzc;omega
       have hrow:=yu zv.cells.toList n hzl b3 c'
       have hd:aN ρ (List.replicate c' z.cells).flatten=some ((List.replicate c' zv.cells.toList).flatten.toArray).toList:=by simpa using gb hzc c'
       have key:=qw (P:=P) h (elem:=el) hd (len:=l') (sz:=n) (cap:=c') b1 b3
       simp only[aW,aV]at e key
       cases e
       have hrun:(Instr.makeSlice ty (rv tm l) (rv tm c)).run P w=(do pure (.slice (some (<- newRow el (List.replicate c' zv.cells.toList).flatten.toArray)) l' c'):Sem Value).run P w:=by
        have hsz:=bQ hn w
        have w1:=kI l' (by omega)
        have w2:=kI c' b2
        simp only[Int.ofNat_eq_natCast]at w1 w2
        have hA:∀ k n,(asInt (.int k n)).run P w=.ok n w:=fun k n=>by simp[asInt,asIntOf]
        have hrow2:Array.map (fun x=>zv.cells[x%zv.cells.size]!) (Array.range (c'*n))=(List.replicate c' zv.cells.toList).flatten.toArray:=by
         apply Array.toList_inj.1
         rw[<- hrow]
         simp[Array.toList_range]
        have hbig:(decide ((c':Int)<0)||decide ((i.bytes:Int)*(c':Int)>2 ^ 48))=false:=by
         have g1:¬((c':Int)<0):=by omega
         have g2:¬((i.bytes:Int)*(c':Int)>2 ^ 48):=by
          have e:(i.bytes:Int)*(c':Int)=((i.bytes*c':Nat):Int):=(Int.natCast_mul _ _).symm
          rw[e]
          generalize i.bytes*c'=q at b5
          have:(2:Int) ^ 48=281474976710656:=rfl
          omega
         rw[decide_eq_false g1,decide_eq_false g2];rfl
        have hl0:decide ((l':Int)<0)=false:=by simp
        have hlc:decide ((l':Int)>(c':Int))=false:=by simp;omega
        have hti:(typeInfo el).run P w=.ok i w:=by simp[typeInfo,hi]
        have hzr:=fj hi hzi w
        simp only[Instr.makeSlice,Sem.run_bind,av hu,Result.andThen_ok,e1,e2,hA,Sem.run_pure,hti,Int.ofNat_eq_natCast,w1,w2,Int.toNat_natCast]
        rw[if_neg (by rw[hbig,hl0,hlc];simp)]
        simp only[Sem.run_bind,run_askRoom,Result.andThen_ok,hsz]
        by_cases hc0:c'*n=0
        ·rw[if_pos hc0]
         have g:∀ f:Nat->Value,Array.map f (Array.range 0)=#[]:=fun f=>by simp
         simp only[Sem.run_bind,Sem.run_pure,Result.andThen_ok,<- hrow2,hc0,g]
        ·rw[if_neg hc0]
         simp only[Sem.run_bind,hzr,Result.andThen_ok,Sem.run_pure,hrow2]
       simp only[Sem.run_bind]at hrun key ⊢
       rw[hrun]
       simpa[newRow]using key
     ·cases e
    ·cases e
   ·cases e
  ·cases e
 ·cases e
theorem KB{v:V}{n:Nat}(h:oI v=some n):∃ k,v=.int k (.ofNat n):=by
 cases v<;>try(cases h;done)
 rename_i k m
 cases m<;>cases h
 exact⟨k,rfl⟩
def Dw(ρ:aB):Option V->Option Value->Prop
 |none,none=>True
 |some v,some y=>den ρ v=some y
 |_,_=>False
theorem mU(ht:TR ρ t tm){x:Option Operand}{v:Option V}(h:kl t x=some v):Dw ρ v (x.map (rv tm)):=by
 cases x with
 |none=>cases h;trivial
 |some x =>
  simp only[kl]at h
  split at h
  ·rename_i u hu;cases h;exact az ht hu
  ·cases h
theorem eP(k:IntKind)(n y:Nat)(c:BoundsCode)(h:n<=y):(Instr.sliceBound (.int k (.ofNat n)) y c).run P w=.ok n w:=by
 have:(0:Int)<=(n:Int)/\(n:Int)<=(y:Int):=by omega
 simp[Instr.sliceBound,asIntOf,h]
theorem gu{isS:Bool}{len cap m h b:Nat}{lo hi mx:Option V}{lo' hi' mx':Option Value}(r1:Dw ρ lo lo')(r2:Dw ρ hi hi')(r3:Dw ρ mx mx')
 (e3:er mx cap=some m) (e2:er hi len=some h) (e1:er lo 0=some b)
 (l3:m<=cap) (l2:h<=m) (l1:b<=h) (hm:mx.isSome=true->hi.isSome=true):(Instr.sliceBounds isS len cap lo' hi' mx').run P w=.ok (b,h,m) w:=by
 have key:∀(o:Option V) (o':Option Value) (n:Nat),Dw ρ o o'->∀ d:Nat,er o d=some n->(o=none/\o'=none/\n=d)\/∃ k v,o=some v/\o'=some (.int k (.ofNat n)):=by
  intro o o' n hr d he
  cases o with
  |none=>cases o' with
   |none=>exact .inl ⟨rfl,rfl,by cases he;rfl⟩
   |some _=>exact hr.elim
  |some v=>cases o' with
   |none=>exact hr.elim
   |some y =>
    obtain⟨k,rfl⟩:=KB he
    simp only[Dw,den,Option.some.injEq]at hr
    exact .inr ⟨k,_,rfl,by rw[<- hr]⟩
 rcases key mx mx' m r3 cap e3 with⟨rfl,rfl,rfl⟩|⟨k3,v3,rfl,rfl⟩
 ·rcases key hi hi' h r2 len e2 with⟨rfl,rfl,rfl⟩|⟨k2,v2,rfl,rfl⟩
  ·rcases key lo lo' b r1 0 e1 with⟨rfl,rfl,rfl⟩|⟨k1,v1,rfl,rfl⟩
   ·simp[Instr.sliceBounds]
   ·simp only[Instr.sliceBounds,Sem.run_bind,Sem.run_pure,Result.andThen_ok,eP k1 b _ _ l1]
  ·rcases key lo lo' b r1 0 e1 with⟨rfl,rfl,rfl⟩|⟨k1,v1,rfl,rfl⟩
   ·simp only[Instr.sliceBounds,Sem.run_bind,Sem.run_pure,Result.andThen_ok,eP k2 h _ _ l2]
   ·simp only[Instr.sliceBounds,Sem.run_bind,Sem.run_pure,Result.andThen_ok,eP k2 h _ _ l2,eP k1 b _ _ l1]
 ·rcases key hi hi' h r2 len e2 with⟨rfl,rfl,rfl⟩|⟨k2,v2,rfl,rfl⟩
  ·simp at hm
  ·rcases key lo lo' b r1 0 e1 with⟨rfl,rfl,rfl⟩|⟨k1,v1,rfl,rfl⟩
   ·simp only[Instr.sliceBounds,Sem.run_bind,Sem.run_pure,Result.andThen_ok,eP k3 m _ _ l3,eP k2 h _ _ l2]
   ·simp only[Instr.sliceBounds,Sem.run_bind,Sem.run_pure,Result.andThen_ok,eP k3 m _ _ l3,eP k2 h _ _ l2,eP k1 b _ _ l1]
theorem jN(l:List Nat)(b h:Nat):(ay l).extract b h=ay ((l.drop b).take (h - b)):=by
 apply ByteArray.ext
 apply Array.toList_inj.1
 simp[ay,ByteArray.data_extract,List.map_drop,List.map_take,List.extract_eq_take_drop]
theorem Lg{l:ze}{a:Ad}{sz b:Nat}(hsz:0<sz):(l.lim - (a.c+b*sz)) / sz=(l.lim - a.c) / sz - b:=by
 rw[<- Nat.sub_sub,Nat.mul_comm b sz,Nat.sub_mul_div]
theorem BH{ty:TypeId}{x:V}{X:Value}{lo hi mx:Option V}{lo' hi' mx':Option Value}{v:V}(hx:den ρ x=some X)(r1:Dw ρ lo lo')(r2:Dw ρ hi hi')(r3:Dw ρ mx mx')
 (e:cY P ty x lo hi mx=some v):∃ y,den ρ v=some y/\(Instr.sliceAt ty X lo' hi' mx').run P w=.ok y w:=by
 unfold cY at e
 split at e
 ·rename_i hu
  split at e
  ·rename_i l
   cases mx' with
   |some _=>exact r3.elim
   |none =>
   simp only at e
   split at e
   ·rename_i b h hb hh
    cases hc:(Nat.ble h l.length&&Nat.ble b h)with
    |false=>simp[hc]at e
    |true =>
     simp only[hc,cond_true,Option.some.injEq]at e
     simp only[Bool.and_eq_true]at hc
     subst e
     cases hx
     have hs:(ay l).size=l.length:=by simp[ay,ByteArray.size]
     have:=gu (P:=P) (w:=w) (isS:=false) (len:=l.length) (cap:=l.length) (m:=l.length) r1 r2 r3 rfl hh hb (Nat.le_refl _) (Nat.le_of_ble_eq_true hc.1) (Nat.le_of_ble_eq_true hc.2) (by simp)
     exact⟨_,rfl,by simp[Instr.sliceAt,Instr.slice,av hu,hs,this,jN]⟩
   ·cases e
  ·cases e
 ·rename_i el hu
  split at e
  ·rename_i sz hsz
   split at e
   ·
    cases hx
    cases hm:(mx.isSome&&!hi.isSome)with
    |true=>rw[hm]at e;cases e
    |false =>
     rw[hm]at e
     simp only[cond_false]at e
     cases hc:(bK (er lo 0)&&bK (er hi 0)&&bK (er mx 0))with
     |false=>simp[hc]at e
     |true =>
      simp only[hc,cond_true,Option.some.injEq]at e
      subst e
      simp only[Bool.and_eq_true]at hc
      have hz:∀ o:Option Nat,bK o=true->o=some 0:=fun o ho=>by
       cases o with
       |none=>cases ho
       |some n=>rw[Nat.eq_of_beq_eq_true ho]
      have:=gu (P:=P) (w:=w) (isS:=true) (len:=0) (cap:=0) r1 r2 r3 (hz _ hc.2) (hz _ hc.1.2) (hz _ hc.1.1) (Nat.le_refl _) (Nat.le_refl _) (Nat.le_refl _)
       (fun h1=>by cases hh:hi with|some _=>rfl|none=>simp[h1,hh]at hm)
      exact⟨_,rfl,by simp[Instr.sliceAt,Instr.slice,av hu,bQ hsz,this]⟩
   ·
    rename_i a z len cap sz'
    cases hz0:(Nat.beq sz' 0||(Nat.beq len 0&&ip cap))with
    |true =>
     rw[hz0]at e
     simp only[cond_true]at e
     cases hc:((bK (er lo 0)&&bK (er hi 0)&&bK (er mx 0))&&!(mx.isSome&&!hi.isSome))with
     |false=>rw[hc]at e;cases e
     |true =>
      rw[hc]at e
      simp only[cond_true,Option.some.injEq]at e
      subst e
      simp only[Bool.and_eq_true]at hc
      have hz:∀ o:Option Nat,bK o=true->o=some 0:=fun o ho=>by
       cases o with
       |none=>cases ho
       |some n=>rw[Nat.eq_of_beq_eq_true ho]
      have hs:∃ q,X=.slice (some q) 0 0:=by
       simp only[den,gp]at hx
       split at hx
       ·split at hx
        ·cases hx;exact⟨_,rfl⟩
        ·cases hx
       ·rename_i hne
        simp only[Bool.or_eq_true,Bool.and_eq_true]at hz0
        rcases hz0 with hz0|hz0
        ·exact(hne (Nat.eq_of_beq_eq_true hz0)).elim
        ·obtain rfl:=Nat.eq_of_beq_eq_true hz0.1
         obtain rfl:cap=some 0:=by
          cases cap with
          |none=>cases hz0.2
          |some c=>rw[Nat.eq_of_beq_eq_true hz0.2]
         split at hx
         ·split at hx
          ·cases hx;exact⟨_,rfl⟩
          ·cases hx
         ·cases hx
      obtain⟨q,rfl⟩:=hs
      have:=gu (P:=P) (w:=w) (isS:=true) (len:=0) (cap:=0) r1 r2 r3 (hz _ hc.1.2) (hz _ hc.1.1.2) (hz _ hc.1.1.1) (Nat.le_refl _) (Nat.le_refl _) (Nat.le_refl _)
       (fun h1=>by cases hh:hi with|some _=>rfl|none=>simp[h1,hh]at hc)
      exact⟨_,hx,by simp[Instr.sliceAt,Instr.slice,av hu,bQ hsz,this]⟩
    |false =>
    rw[hz0]at e
    simp only[cond_false]at e
    have hz0:=(Bool.or_eq_false_iff.1 hz0).1
    obtain⟨l,g1,g2,g3,g4,g5,rfl⟩:=eO hx (.inl (IV hz0))
    cases hm:(Nat.beq sz sz'&&!(mx.isSome&&!hi.isSome))with
    |false=>rw[hm]at e;cases e
    |true =>
     rw[hm]at e
     simp only[cond_true]at e
     simp only[Bool.and_eq_true]at hm
     obtain rfl:=Nat.eq_of_beq_eq_true hm.1
     have hmh:mx.isSome=true->hi.isSome=true:=fun h1=>by cases hh:hi with|some _=>rfl|none=>simp[h1,hh]at hm
     split at e
     ·rename_i b h hb hh
      split at e
      ·cases mx' with
       |some _=>exact r3.elim
       |none =>
       split at e
       ·rename_i c
        cases hc:(Nat.ble h c&&Nat.ble b h)with
        |false=>simp[hc]at e
        |true =>
         simp only[hc,cond_true]at e
         simp only[Bool.and_eq_true]at hc
         have c1:=Nat.le_of_ble_eq_true hc.1
         have c2:=Nat.le_of_ble_eq_true hc.2
         have hrun:=gu (P:=P) (w:=w) (isS:=true) (len:=len) (cap:=c) r1 r2 r3 rfl hh hb (Nat.le_refl _) c1 c2 (by simp)
         have hgo:(Instr.sliceAt ty (.slice (some ⟨l.b,a.c - l.base,none⟩) len c) lo' hi' none).run P w=.ok (.slice (some (if c=b then⟨l.b,a.c - l.base,none⟩else(⟨l.b,a.c - l.base,none⟩:Addr).add (b*sz))) (h - b) (c - b)) w:=by
          simp only[Instr.sliceAt,Instr.slice,Sem.run_bind,av hu,Result.andThen_ok,hrun,bQ hsz,Sem.run_pure]
          split<;>simp
         cases hcb:Nat.beq c b with
         |true =>
          simp only[hcb,cond_true,Option.some.injEq]at e
          subst e
          obtain rfl:=Nat.eq_of_beq_eq_true hcb
          refine⟨_,cX g1 g3 g3 (by show h - c<=0;omega) g5,?_⟩
          refine Eq.trans hgo ?_
          rw[if_pos rfl]
          simp[ba,bT]
         |false =>
          simp only[hcb,cond_false,Option.some.injEq]at e
          subst e
          have hne:¬ c=b:=fun e=>by subst e;simp at hcb
          refine⟨_,cX (l:=l) g1 (by show l.base<=a.c+b*sz;omega) (by show l.base<=a.c+b*sz;omega) (by show h - b<=c - b;omega) g5,?_⟩
          refine Eq.trans hgo ?_
          rw[if_neg hne,jh]
          simp only[ba,bT,ci]
          rw[show a.c+b*sz - l.base=a.c - l.base+b*sz by omega]
       ·cases hc:(Nat.ble h len&&Nat.ble b h)with
        |false=>simp[hc]at e
        |true =>
         simp only[hc,cond_true]at e
         simp only[Bool.and_eq_true]at hc
         have c1:=Nat.le_of_ble_eq_true hc.1
         have c2:=Nat.le_of_ble_eq_true hc.2
         have hrun:=gu (P:=P) (w:=w) (isS:=true) (len:=len) (cap:=bT l a none sz) r1 r2 r3 rfl hh hb (Nat.le_refl _) (Nat.le_trans c1 g4) c2 (by simp)
         have hgo:∀ q:Addr,(Instr.sliceAt ty (.slice (some q) len (bT l a none sz)) lo' hi' none).run P w=.ok (.slice (some (if bT l a none sz=b then q else q.add (b*sz))) (h - b) (bT l a none sz - b)) w:=by
          intro q
          simp only[Instr.sliceAt,Instr.slice,Sem.run_bind,av hu,Result.andThen_ok,hrun,bQ hsz,Sem.run_pure]
          split<;>simp
         cases hcb:Nat.beq b 0 with
         |true =>
          simp only[hcb,cond_true,Option.some.injEq]at e
          subst e
          obtain rfl:=Nat.eq_of_beq_eq_true hcb
          refine⟨_,cX g1 g2 g3 (Nat.le_trans c1 g4) g5,?_⟩
          rw[hgo]
          simp[jh]
         |false =>
          simp only[hcb,cond_false,Option.some.injEq]at e
          subst e
          have hb0:0<b:=Nat.pos_of_ne_zero fun e=>by subst e;simp at hcb
          have hcap:bT l (ci a (b*sz)) none sz=bT l a none sz - b:=Lg g5
          have hco:ba l a z none sz=a.c:=dU (len:=len) g4 (by omega)
          have hco2:ba l (ci a (b*sz)) a.c none sz=if bT l a none sz=b then a.c else a.c+b*sz:=by
           show(if bT l (ci a (b*sz)) none sz=0 then a.c else a.c+b*sz)=_
           rw[hcap]
           by_cases hq:bT l a none sz=b
           ·rw[if_pos hq,if_pos (by omega)]
           ·rw[if_neg hq,if_neg (by omega)]
          refine⟨_,cX (l:=l) g1 (by rw[hco2];split<;>omega) (by show l.base<=a.c+b*sz;omega) (by rw[hcap];omega) g5,?_⟩
          rw[hgo,hco,hco2,hcap]
          congr 4
          split
          ·rfl
          ·rw[jh,show a.c+b*sz - l.base=a.c - l.base+b*sz by omega]
      ·rename_i mv
       split at e
       ·rename_i m hmn
        cases hc:(Nat.ble m len&&Nat.ble h m&&Nat.ble b h)with
        |false=>simp[hc]at e
        |true =>
         simp only[hc,cond_true]at e
         simp only[Bool.and_eq_true]at hc
         have c1:=Nat.le_of_ble_eq_true hc.1.1
         have c2:=Nat.le_of_ble_eq_true hc.1.2
         have c3:=Nat.le_of_ble_eq_true hc.2
         have hrun:=gu (P:=P) (w:=w) (isS:=true) (len:=len) (cap:=bT l a cap sz) r1 r2 r3 hmn hh hb (Nat.le_trans c1 g4) c2 c3 hmh
         have hgo:∀ q:Addr,(Instr.sliceAt ty (.slice (some q) len (bT l a cap sz)) lo' hi' mx').run P w=.ok (.slice (some (if m=b then q else q.add (b*sz))) (h - b) (m - b)) w:=by
          intro q
          simp only[Instr.sliceAt,Instr.slice,Sem.run_bind,av hu,Result.andThen_ok,hrun,bQ hsz,Sem.run_pure]
          split<;>simp
         cases hcb:Nat.beq m b with
         |true =>
          simp only[hcb,cond_true]at e
          cases hk:(cap.isSome||Nat.blt 0 len||Nat.beq z a.c)with
          |false=>simp[hk]at e
          |true =>
           simp only[hk,cond_true,Option.some.injEq]at e
           subst e
           obtain rfl:=Nat.eq_of_beq_eq_true hcb
           have hco:ba l a z cap sz=a.c:=by
            simp only[Bool.or_eq_true]at hk
            rcases hk with(hk|hk)|hk
            ·cases cap with
             |some c=>rfl
             |none=>cases hk
            ·exact dU g4 (jg hk)
            ·obtain rfl:=Nat.eq_of_beq_eq_true hk
             cases cap with
             |some c=>rfl
             |none=>simp[ba]
           refine⟨_,cX g1 g3 g3 (by show h - m<=0;omega) g5,?_⟩
           rw[hgo,if_pos rfl,hco]
           simp[ba,bT]
         |false =>
          simp only[hcb,cond_false,Option.some.injEq]at e
          subst e
          have hne:¬ m=b:=fun e=>by subst e;simp at hcb
          have hco:ba l a z cap sz=a.c:=dU g4 (by omega)
          refine⟨_,cX (l:=l) g1 (by show l.base<=a.c+b*sz;omega) (by show l.base<=a.c+b*sz;omega) (by show h - b<=m - b;omega) g5,?_⟩
          rw[hgo,if_neg hne,hco,jh]
          simp only[ba,bT,ci]
          rw[show a.c+b*sz - l.base=a.c - l.base+b*sz by omega]
       ·cases e
     ·cases e
   ·cases e
  ·cases e
 ·cases e
theorem oR(h:HR ρ s w)(ht:TR ρ t tm){ty:TypeId}{x:Operand}{lo hi mx:Option Operand}{nx:Nx}(e:bj s (vw P ty (eval t x) (kl t lo) (kl t hi) (kl t mx))=some nx) :
 yW P ρ w s nx ((do pure (Next.value (<- Instr.sliceAt ty (rv tm x) (lo.map (rv tm)) (hi.map (rv tm)) (mx.map (rv tm)))):Sem Next).run P w):=by
 refine aP h e fun v hv=>?_
 unfold vw at hv
 split at hv
 ·rename_i x' hx
  split at hv
  ·rename_i lo' hlo
   split at hv
   ·rename_i hi' hhi
    split at hv
    ·rename_i mx' hmx
     exact BH (az ht hx) (mU ht hlo) (mU ht hhi) (mU ht hmx) hv
    ·cases hv
   ·cases hv
  ·cases hv
 ·cases hv
end ops
section ops
variable{P:Program}{ρ:aB}{s:S}{w:World}{t:T V}{tm:Array Value}
def HT(ρ:aB):List (Nat×V)->List (Nat×Value)->Prop
 |[],[]=>True
 |(i,v)::r,(j,y)::q=>i=j/\den ρ v=some y/\HT ρ r q
 |_,_=>False
theorem iE(ht:TR ρ t tm):∀ {l:List (Nat×Operand)} {vs:List (Nat×V)},dP t l=some vs->HT ρ vs (l.map fun(i,x)=>(i,rv tm x))
 |[],vs,h=>by cases h;trivial
 |(i,x)::r,vs,h=>by
  simp only[dP]at h
  cases hx:eval t x with
  |none=>simp[hx]at h
  |some v =>
   cases hr:dP t r with
   |none=>simp[hx,hr]at h
   |some q =>
    simp only[hx,hr]at h;cases h
    exact⟨rfl,az ht hx,iE ht hr⟩
theorem AT(off:Nat):∀(vs:List Value) (k:Nat) (c:Array Value),off+k+vs.length<=c.size ->
 ((vs.zipIdx k).foldl (fun cs x=>cs.setIfInBounds (off+x.2) x.1) c).size=c.size /\
 ∀ j,((vs.zipIdx k).foldl (fun cs x=>cs.setIfInBounds (off+x.2) x.1) c)[j]? = if off+k<=j/\j<off+k+vs.length then vs[j - (off+k)]? else c[j]?
 |[],k,c,_=>⟨rfl,fun j=>by rw[if_neg (by simp)];rfl⟩
 |v::r,k,c,h=>by
  simp only[List.length_cons]at h
  simp only[List.zipIdx_cons,List.foldl_cons]
  obtain⟨h1,h2⟩:=AT off r (k+1) (c.setIfInBounds (off+k) v) (by simp;omega)
  refine⟨by simpa using h1,fun j=>?_⟩
  rw[h2 j]
  by_cases hj:off+(k+1)<=j/\j<off+(k+1)+r.length
  ·rw[if_pos hj,if_pos (by simp;omega)]
   have:j - (off+k)=(j - (off+(k+1)))+1:=by omega
   rw[this];simp
  ·rw[if_neg hj]
   by_cases hj2:j=off+k
   ·subst hj2;rw[if_pos (by simp)];simp[show off+k<c.size by omega]
   ·rw[if_neg (by simp;omega)];simp[Ne.symm hj2]
theorem ja{placeV place:Nat->Option (Nat×Nat)}(hp:∀ i x,placeV i=some x->place i=some x):∀ {parts:List (Nat×V)} {parts':List (Nat×Value)} {cs out:List V} {ys:Array Value},
 HT ρ parts parts'->aN ρ cs=some ys.toList->oQ placeV cs parts=some out->∃ zs:Array Value,Instr.fill place ys parts'=some zs/\aN ρ out=some zs.toList
 |[],[],cs,out,ys,_,hd,h=>by cases h;exact⟨ys,rfl,hd⟩
 |(i,v)::r,(j,y)::q,cs,out,ys,⟨hij,hv,hr⟩,hd,h=>by
  subst hij
  simp only[oQ]at h
  split at h
  ·cases h
  ·rename_i off n hpl
   cases hb:(Nat.beq v.cells.length n&&Nat.blt 0 n)with
   |false=>rw[hb]at h;cases h
   |true =>
    rw[hb]at h
    simp only[cond_true]at h
    simp only[Bool.and_eq_true]at hb
    obtain rfl:=Nat.eq_of_beq_eq_true hb.1
    have hpos:=jg hb.2
    cases ho:bR cs off v.cells with
    |none=>simp[ho]at h
    |some cs' =>
     simp only[ho,Option.bind_some]at h
     obtain⟨g1,g2,g3⟩:=fP ho
     have hcl:=lH hv
     have hlen:=bu hd
     rw[Array.length_toList]at hlen
     have hvc:=dS hv
     let c':Array Value:=(y.cells.toList.zipIdx 0).foldl (fun cs x=>cs.setIfInBounds (off+x.2) x.1) ys
     have hc':c'=y.cells.zipIdx.foldl (fun cs (c,j)=>cs.setIfInBounds (off+j) c) ys:=by
      show List.foldl _ _ _=_
      rw[<- Array.foldl_toList,Array.toList_zipIdx]
     have hroom:off+0+y.cells.toList.length<=ys.size:=by
      rcases g2 with g2|g2
      ·rw[g2]at hpos;simp at hpos
      ·rw[Array.length_toList];omega
     obtain⟨k1,k2⟩:=AT off y.cells.toList 0 ys hroom
     have hsz:c'.toList.length=ys.size:=(Array.length_toList (xs:=c')).trans k1
     have hd':aN ρ cs'=some c'.toList:=by
      refine jB (by rw[g1,hsz,hlen]) fun i x hx=>?_
      rw[g3 i]at hx
      rw[Array.getElem?_toList,show c'[i]? = _ from k2 i]
      have hyl:y.cells.toList.length=v.cells.length:=by rw[Array.length_toList,hcl]
      by_cases hj:off<=i/\i<off+v.cells.length
      ·rw[if_pos hj]at hx
       rw[if_pos (by omega)]
       obtain⟨z,hz,hz'⟩:=dT _ hvc hx
       exact⟨z,hz,by simpa using hz'⟩
      ·rw[if_neg hj]at hx
       rw[if_neg (by omega)]
       obtain⟨z,hz,hz'⟩:=dT _ hd hx
       exact⟨z,hz,by rw[<- hz',Array.getElem?_toList]⟩
     obtain⟨zs,hz,hzd⟩:=ja hp hr hd' h
     refine⟨zs,?_,hzd⟩
     simp only[Instr.fill,hp _ _ hpl]
     rw[Array.length_toList]at hroom
     rw[if_neg (by simp[hcl];omega),<- hc']
     exact hz
 |[],_::_,_,_,_,h,_,_=>h.elim
 |_::_,[],_,_,_,h,_,_=>h.elim
theorem wC:∀ {fs:List Field},fs.all (fun f=>(size P f.type).isSome)=true ->
 ∃ li,fs.mapM (fun f=>(P.info? f.type).map fun i=>(f.offset,i.size))=some li/\∀(i:Nat) (f:Field) (n:Nat),fs[i]? = some f->size P f.type=some n->li[i]? = some (f.offset,n)
 |[],_=>⟨[],rfl,fun i f n h=>by simp at h⟩
 |f::r,h=>by
  simp only[List.all_cons,Bool.and_eq_true]at h
  obtain⟨q,h1,h2⟩:=wC h.2
  obtain⟨n,hn⟩:=Option.isSome_iff_exists.1 h.1
  obtain⟨i,hi,rfl⟩:=rN hn
  refine⟨(f.offset,i.size)::q,by simp[List.mapM_cons,hi,h1],fun j g m hj hm=>?_⟩
  cases j with
  |zero=>simp at hj;subst hj;rw[hn]at hm;cases hm;rfl
  |succ j=>simp at hj;simpa using h2 j g m hj hm
theorem yP{x:Option (List V)}{v:V}(h:FW x=some v):∃ l,x=some l/\v=.agg l:=by
 cases x with
 |none=>cases h
 |some l=>cases h;exact⟨l,rfl,rfl⟩
theorem oU(h:HR ρ s w)(ht:TR ρ t tm){ty:TypeId}{parts:Array (Nat×Operand)}{nx:Nx}(e:bj s (nV P ty (dP t parts.toList))=some nx) :
 yW P ρ w s nx ((do pure (Next.value (<- Instr.build ty (parts.map fun(i,x)=>(i,rv tm x)))):Sem Next).run P w):=by
 refine aP h e fun v hv=>?_
 unfold nV at hv
 split at hv
 ·rename_i z hz
  obtain⟨zv,it,hi,hzi,hden⟩:=eh hz
  have hzc:=dS (hden ρ)
  split at hv
  ·rename_i l hl
   have hp:=iE ht hl
   have hpl:(parts.toList.map fun(i,x)=>(i,rv tm x))=(parts.map fun(i,x)=>(i,rv tm x)).toList:=by simp
   rw[hpl]at hp
   split at hv
   ·rename_i fs hu
    cases hs:fs.toList.all (fun f=>(size P f.type).isSome)with
    |false=>rw[hs]at hv;cases hv
    |true =>
     rw[hs]at hv
     simp only[cond_true]at hv
     obtain⟨out,ho,rfl⟩:=yP hv
     obtain⟨li,h1,h2⟩:=wC hs
     obtain⟨zs,hz1,hz2⟩:=ja (place:=(li.toArray[·]?)) (fun i x hx=>by
      unfold mS at hx
      split at hx
      ·rename_i f hf
       split at hx
       ·rename_i n hn
        cases hx
        simpa using h2 i f n (by simpa using hf) hn
       ·cases hx
      ·cases hx) hp hzc ho
     refine⟨.agg zs,by simp only[den,hz2],run_build w ty _ zs ?_⟩
     simp only[Program.built,hi,hu,hzi,h1,hz1]
   ·rename_i n el hu
    split at hv
    ·rename_i m hm
     obtain⟨ie,hie,rfl⟩:=rN hm
     obtain⟨out,ho,rfl⟩:=yP hv
     obtain⟨zs,hz1,hz2⟩:=ja (place:=fun i=>some (i*ie.size,ie.size)) (fun i x hx=>hx) hp hzc ho
     refine⟨.agg zs,by simp only[den,hz2],run_build w ty _ zs ?_⟩
     simp only[Program.built,hi,hu,hzi,hie,hz1]
    ·cases hv
   ·cases hv
  ·cases hv
 ·cases hv
theorem pF(h:HR ρ s w)(ht:TR ρ t tm){ty:TypeId}{len:Nat}{parts:Array (Nat×Operand)}{nx:Nx}(e:ce P s ty len (dP t parts.toList)=some nx) :
 Dx P ρ w nx ((do pure (Next.value (<- Instr.buildSlice ty len (parts.map fun(i,x)=>(i,rv tm x)))):Sem Next).run P w):=by
 unfold ce at e
 split at e
 ·rename_i el hu
  split at e
  ·rename_i l hl
   have hp:=iE ht hl
   have hpl:(parts.toList.map fun(i,x)=>(i,rv tm x))=(parts.map fun(i,x)=>(i,rv tm x)).toList:=by simp
   rw[hpl]at hp
   split at e
   ·rename_i z hz
    obtain⟨zv,it,hi,hzi,hden⟩:=eh hz
    have hzc:=dS (hden ρ)
    split at e
    ·rename_i n hn
     cases hb:(Nat.ble (len*n) 10000&&!(Nat.beq n 0)&&Nat.beq z.cells.length n)with
     |false=>rw[hb]at e;cases e
     |true =>
      rw[hb]at e
      simp only[cond_true]at e
      simp only[Bool.and_eq_true]at hb
      have b1:=Nat.le_of_ble_eq_true hb.1.1
      have b2:0<n:=by
       rcases Nat.eq_zero_or_pos n with h0|h0
       ·subst h0;simp at hb
       ·exact h0
      have b3:=Nat.eq_of_beq_eq_true hb.2
      unfold jV at e
      split at e
      ·rename_i cs hcs
       have hzl:zv.cells.toList.length=n:=by have:=bu hzc;omega
       have hrow:=yu zv.cells.toList n hzl b2 len
       have hd:aN ρ (List.replicate len z.cells).flatten=some ((List.replicate len zv.cells.toList).flatten.toArray).toList:=by simpa using gb hzc len
       obtain⟨zs,hz1,hz2⟩:=ja (place:=fun i=>some (i*n,n)) (fun i x hx=>hx) hp hd hcs
       have key:=qw (P:=P) h (elem:=el) hz2 (len:=len) (sz:=n) (cap:=len) (Nat.le_refl _) b2
       simp only[aW,aV]at e key
       cases e
       have hrow2:Array.map (fun x=>zv.cells[x%zv.cells.size]!) (Array.range (len*n))=(List.replicate len zv.cells.toList).flatten.toArray:=by
        apply Array.toList_inj.1
        rw[<- hrow]
        simp[Array.toList_range]
       have hrun:(Instr.buildSlice ty len (parts.map fun(i,x)=>(i,rv tm x))).run P w=(do pure (.slice (some (<- newRow el zs)) len len):Sem Value).run P w:=by
        simp only[Instr.buildSlice,Sem.run_bind,av hu,Result.andThen_ok,bQ hn]
        rw[if_neg (by omega)]
        by_cases hc0:len*n=0
        ·rw[if_pos hc0]
         have g:∀ f:Nat->Value,Array.map f (Array.range 0)=#[]:=fun f=>by simp
         rw[<- hrow2,hc0,g]at hz1
         simp only[Sem.run_bind,Sem.run_pure,Result.andThen_ok,hc0,g,hz1]
        ·rw[if_neg hc0]
         simp only[Sem.run_bind,fj hi hzi,Result.andThen_ok,Sem.run_pure,hrow2,hz1]
       simp only[Sem.run_bind]at hrun key ⊢
       rw[hrun]
       simpa[newRow]using key
      ·cases e
    ·cases e
   ·cases e
  ·cases e
 ·cases e
end ops
end Go.AI
