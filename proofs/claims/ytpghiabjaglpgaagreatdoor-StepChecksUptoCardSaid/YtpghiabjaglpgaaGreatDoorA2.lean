/- Lemmas. No conditions. -/
import Derived.Test.YtpghiabjaglpgaaGreatDoorA1
import Derived.Laws.Entries
import Derived.Laws.StructEq
import Derived.Laws.Tables
set_option linter.all false
noncomputable section
namespace Go.AI
def rv(tm:Array Value):Operand->Value
 |.tmp t=>tm.getD t Go.undef
 |.const v=>v
 |.global g=>.pointer (some ⟨g,0,none⟩)
 |.func f=>.func (.func f) #[] #[]
def rq(fr:Frame):fr.eval=rv fr.tmps:=funext fun x=>by cases x<;>rfl
def xu(s:ByteArray):aK (s.data.toList.map UInt8.toNat)=s:=by
 unfold aK;have:(s.data.toList.map UInt8.toNat).map UInt8.ofNat=s.data.toList:=by
  rw[akN]
  conv=>rhs;rw[<- List.map_id s.data.toList]
  exact List.map_congr_left fun x _=>by simp
 rw[this]
def zK(ρ:aN)(v:Value)(x:V)(h:V.ofCell v=some x):den ρ x=some v:=by
 cases v<;>simp only[V.ofCell]at h
 case string s=>cases h;simp only[den];rw[xu]
 case pointer a=>cases a<;>simp at h;cases h;rfl
 case slice a n c =>
  cases a<;>simp only at h
  ·cases hb:(Nat.beq n 0&&Nat.beq c 0)with
   |false=>simp[hb]at h
   |true =>simp only[hb,ge]at h;simp only[abA]at hb;cases h;rw[abr hb.1,abr hb.2];rfl
  ·cases h
 case map a=>cases a<;>simp at h;cases h;rfl
 case func fn a b =>
  cases fn<;>simp only at h<;>try cases h
  cases hb:(a.toList.isEmpty&&b.toList.isEmpty)with
  |false=>rw[hb]at h;cases h
  |true =>
   simp only[hb,ge]at h;simp only[abA,List.isEmpty_iff]at hb;cases h;have e:a=#[]:=by cases a;simpa using hb.1
   have d:b=#[]:=by cases b;simpa using hb.2
   subst e;subst d;rfl
 all_goals first|(cases h;rfl)|cases h
def vq(ρ:aN):∀(l:List Value) (m:List V),V.ofCells l=some m->bd ρ m=some l
 |[],m,h=>by cases h;rfl
 |x::r,m,h=>by
  simp only[V.ofCells]at h;cases a:V.ofCell x with
  |none=>simp[a]at h
  |some v =>
   cases hr:V.ofCells r with
   |none=>simp[a,hr]at h
   |some q =>simp only[a,hr]at h;cases h;exact be.2 ⟨x,r,zK ρ x v a,vq ρ r q hr,rfl⟩
def vp(ρ:aN)(v:Value)(x:V)(h:V.ofConst v=some x):den ρ x=some v:=by
 cases v
 case agg cs =>
  simp only[V.ofConst]at h;split at h
  ·rename_i l hl;cases h;simp only[den,vq ρ _ _ hl]
  ·cases h
 all_goals exact zK ρ _ x h
def aL{ρ:aN}{t:T V}{tm:Array Value}(b:TR ρ t tm){x:Operand}{v:V}(h:eval t x=some v):den ρ v=some (rv tm x):=by
 cases x with
 |tmp i =>obtain⟨y,hy,a⟩:=b i v h;simp only[rv,ajP,a,ajG];exact hy
 |const c=>exact vp ρ c v h
 |global g=>cases h
 |func f=>cases h;rfl
def kV{ρ:aN}{t:T V}{tm:Array Value}(b:TR ρ t tm):∀ {l:List Operand} {vs:List V},ij t l=some vs->bd ρ vs=some (l.map (rv tm))
 |[],vs,h=>by cases h;rfl
 |x::r,vs,h=>by
  simp only[ij]at h;cases a:eval t x with
  |none=>simp[a]at h
  |some v =>
   cases hr:ij t r with
   |none=>simp[a,hr]at h
   |some q =>simp only[a,hr]at h;cases h;exact be.2 ⟨_,_,aL b a,kV b hr,rfl⟩
section types
variable{P:Program}
def ff{t:TypeId}{zv:V}(h:zero P t=some zv):∃ z i,P.info? t=some i/\i.zero=some z/\∀ ρ,den ρ zv=some z:=by
 unfold zero at h;cases hi:P.info? t with
 |none=>simp[hi]at h
 |some i =>
  cases a:i.zero with
  |none=>simp[hi,a]at h
  |some z =>simp only[hi,a,ako]at h;exact⟨z,i,rfl,a,fun ρ=>vp ρ z zv h⟩
def gi{t:TypeId}{i:TypeInfo}{z:Value}(hi:P.info? t=some i)(a:i.zero=some z)(w:World):(zeroValue t).run P w=.ok z w:=by simp[zeroValue,typeInfo,hi,a]
def tX{t:TypeId}{n:Nat}(h:size P t=some n):∃ i,P.info? t=some i/\i.size=n:=by
 unfold size at h;cases hi:P.info? t with
 |none=>simp[hi]at h
 |some i=>simp[hi]at h;exact⟨i,rfl,h⟩
def cA{t:TypeId}{n:Nat}(h:size P t=some n)(w:World):(sizeOf t).run P w=.ok n w:=by obtain⟨i,hi,rfl⟩:=tX h;simp[Go.sizeOf,typeInfo,hi]
def aG{t:TypeId}{d:TypeDesc}(h:P.underlying t=some d)(w:World):(underlying t).run P w=.ok d w:=by simp[underlying,h]
def yg{t:TypeId}{b:Bool}(h:rj P t=some b)(w:World):(isAgg t).run P w=.ok b w:=by
 unfold rj at h;cases a:P.underlying t with
 |none=>simp[a]at h
 |some d =>simp only[a,ajl,abB]at h;subst h;simp only[isAgg,afx,aG a,aeq];cases d<;>rfl
def qw{ρ:aN}{s:S}{w:World}(h:HR ρ s w){t:TypeId}{a:Ad}{x:V}(e:loadVar P s t a=some x) :
 ∃ ad y,iv ρ a=some ad/\den ρ x=some y/\(Go.loadVar t ad).run P w=.ok y w:=by
 unfold loadVar at e;cases hb:rj P t with
 |none=>simp[hb]at e
 |some b =>
  cases b with
  |false =>simp only[hb]at e;obtain⟨ad,y,c,d,f⟩:=zW h e;exact⟨ad,y,c,d,by simp[Go.loadVar,yg hb,f]⟩
  |true =>
   simp only[hb]at e;cases g:size P t with
   |none=>simp[g]at e
   |some n =>
    simp only[g,ako]at e;cases hl:loadCells s a n with
    |none=>simp[hl]at e
    |some l =>simp only[hl,ajl,abB]at e;subst e;obtain⟨ad,ys,c,d,f,i⟩:=jk h hl;refine⟨ad,.agg ys.toArray,c,by simp only[den,d],?_⟩;have:=ajL (P:=P) (w:=w) ad ys i;rw[f]at this;simp[Go.loadVar,yg hb,cA g,this]
def yS{ρ:aN}{s s':S}{w:World}(h:HR ρ s w){t:TypeId}{a:Ad}{v:V}{y:Value}(e:storeVar P s t a v=some s')(c:den ρ v=some y) :
 ∃ ad w',iv ρ a=some ad/\(Go.storeVar t ad y).run P w=.ok () w'/\HR ρ s' w'/\FR ρ w ρ w':=by
 unfold storeVar at e;cases b:size P t with
 |none=>simp[b]at e
 |some n =>
  simp only[b]at e;cases hb:Nat.beq v.cells.length n with
  |false=>simp[hb]at e
  |true =>
   simp only[hb,ge]at e;obtain⟨ad,w',d,f,g,i⟩:=io P h e (eL c);have hl:y.cells.size=n:=by have:=bS (eL c);rw[ajm]at this;rw[this];exact abr hb
   exact⟨ad,w',d,by simp[Go.storeVar,cA b,hl,f],g,i⟩
def kO{ρ:aN}{w:World}{t:TypeId}{cs:List V}{ys:Array Value}{off:Nat}{x:V}(f:bd ρ cs=some ys.toList)(e:vm P t cs off=some x) :
 ∃ y,den ρ x=some y/\(part t ys off).run P w=.ok y w:=by
 unfold vm at e;cases hb:rj P t with
 |none=>simp[hb]at e
 |some b =>
  cases b with
  |false =>simp only[hb]at e;obtain⟨y,c,a⟩:=eM off f e;rw[aiB]at a;exact⟨y,c,by simp[part,yg hb,a]⟩
  |true =>
   simp only[hb]at e;cases d:size P t with
   |none=>simp[d]at e
   |some n =>
    simp only[d,ajl,abB]at e;subst e;have c:=Eg n (Eh off f);refine⟨.agg (ys.extract off (off+n)),?_,by simp[part,yg hb,cA d]⟩;have a:(ys.extract off (off+n))=((ys.toList.drop off).take n).toArray:=by apply ajN.1;rw[Array.toList_extract,List.extract_eq_take_drop];simp
    simp only[den,c,a]
end types
def PN(ρ:aN):eS->Deferred->Prop
 |.call fn cap args,d=>∃ g c a,nR ρ fn=some g/\bd ρ cap=some c/\bd ρ args=some a/\d={ target:=.fn g c.toArray,args:=a.toArray }
 |.collected r,d=>∃ l,ρ r 0=some l/\d={ target:=.collected l.b,args:=#[] }
def GR(P:Program)(ρ:aN)(w:World):Nx->Result Next->Prop
 |.val v s,r=>∃ ρ' y w',r=.ok (.value y) w'/\den ρ' v=some y/\HR ρ' s w'/\FR ρ w ρ' w'
 |.skip s,r=>∃ ρ' w',r=.ok .skip w'/\HR ρ' s w'/\FR ρ w ρ' w'
 |.enter f args s,r=>∃ ys,bd ρ args=some ys/\r=(callFunc f ys.toArray).run P w/\HR ρ s w
 |.round l args s,r=>∃ lb ys,ρ l 0=some lb/\bd ρ args=some ys/\r=(Instr.yield lb.b ys.toArray).run P w/\HR ρ s w
 |.defer d s,r=>∃ rd,PN ρ d rd/\r=.ok (.defer rd) w/\HR ρ s w
 |.recover s,r=>r=.ok .recover w/\HR ρ s w
 |.panic v s,r=>∃ y,den ρ v=some y/\r=.halt (.panic y) w/\HR ρ s w
def BY(P:Program)(ρ:aN)(w:World)(s:S)(nx:Nx)(r:Result Next):Prop:=∃ v y,nx=.val v s/\r=.ok (.value y) w/\den ρ v=some y
def BY.toR{P:Program}{ρ:aN}{s:S}{w:World}{nx:Nx}{r:Result Next}(h:HR ρ s w)(k:BY P ρ w s nx r):GR P ρ w nx r:=by obtain⟨v,y,rfl,a,b⟩:=k;exact⟨ρ,y,w,a,b,h,FR.refl ρ w⟩
section ops
variable{P:Program}{ρ:aN}{s:S}{w:World}{t:T V}{tm:Array Value}
def bj(_h:HR ρ s w){x:Option V}{nx:Nx}(e:bM s x=some nx){m:Sem Value}
 (hm:∀ v,x=some v->∃ y,den ρ v=some y/\m.run P w=.ok y w):BY P ρ w s nx ((do pure (Next.value (<- m)):Sem Next).run P w):=by
 cases x with
 |none=>cases e
 |some v =>cases e;obtain⟨y,a,b⟩:=hm v rfl;exact⟨v,y,rfl,by simp[b],a⟩
def tf(h:HR ρ s w)(d:TR ρ t tm){c a b:Operand}{nx:Nx}(e:nc t s c a b=some nx) :
 BY P ρ w s nx ((do pure (Next.value (if <- asBool (rv tm c)then rv tm a else rv tm b)):Sem Next).run P w):=by
 unfold nc at e;split at e
 ·rename_i q i;have f:=aL d i;simp only[den,abB]at f;unfold bM at e;split at e
  ·rename_i v g;cases e;refine⟨_,if q then rv tm a else rv tm b,rfl,by simp[<- f,asBool],?_⟩;cases q
   ·exact aL d g
   ·exact aL d g
  ·cases e
 ·cases e
def nj{ρ:aN}{v:V}{y:Value}(h:den ρ v=some y):y.cells.size=v.cells.length:=by have:=bS (eL h);rwa [ajm]at this
def vt(h:HR ρ s w){elem:TypeId}{v:V}{y:Value}(a:den ρ v=some y){nx:Nx}(e:qt (bz s elem v.cells)=some nx) :
 GR P ρ w nx ((do pure (Next.value (.pointer (some (<- newVar elem y)))):Sem Next).run P w):=by
 obtain⟨ρ',b,c,d⟩:=gQ h false elem elem (cs:=v.cells) (ys:=y.cells) (by rw[eL a,<- nj a,ajn (by simp)]) (0,0) ⟨fun _=>rfl,by simp⟩;simp only[qt,bz,bw]at e;cases e;exact⟨ρ',_,_,by simp[newVar,newRow];rfl,by simp[den,iv,b],c,d⟩
def CF(h:HR ρ s w){elem:TypeId}{nx:Nx}(e:jK P s elem=some nx) :
 GR P ρ w nx ((do pure (Next.value (<- Instr.alloc elem true (.tuple #[]))):Sem Next).run P w):=by
 unfold jK at e;split at e
 ·rename_i z b;obtain⟨y,i,hi,a,c⟩:=ff b;have:=vt (P:=P) h (c ρ) e;simp only[Instr.alloc,afx,gi hi a,aeq,aiy]at this ⊢;exact this
 ·cases e
def IG(h:HR ρ s w)(a:TR ρ t tm){elem:TypeId}{x:Operand}{nx:Nx}(e:tj s elem (eval t x)=some nx) :
 GR P ρ w nx ((do pure (Next.value (<- Instr.box elem (rv tm x))):Sem Next).run P w):=by
 unfold tj at e;split at e
 ·rename_i z b;have:=vt (P:=P) h (aL a b) e;simp only[Instr.box,afx,aiy]at this ⊢;exact this
 ·cases e
def th(h:HR ρ s w)(c:TR ρ t tm){ty:TypeId}{x:Operand}{nx:Nx}(e:jn P s ty (eval t x)=some nx) :
 BY P ρ w s nx ((do pure (Next.value (<- Instr.loadAt ty (rv tm x))):Sem Next).run P w):=by
 unfold jn at e;split at e
 ·rename_i a d;have b:=aL c d;refine bj h e fun v f=>?_;obtain⟨ad,y,g,i,j⟩:=qw h f;simp only[den,g,abB]at b;exact⟨y,i,by simp[Instr.loadAt,Instr.sureAddr,<- b,j]⟩
 ·cases e
def CC(h:HR ρ s w)(b:TR ρ t tm){ty:TypeId}{x y:Operand}{nx:Nx}(e:tc P s ty (eval t x) (eval t y)=some nx) :
 GR P ρ w nx ((do Instr.storeAt ty (rv tm x) (rv tm y);pure Next.skip:Sem Next).run P w):=by
 unfold tc at e;split at e
 ·rename_i a d;have c:=aL b d;split at e
  ·rename_i v f;have g:=aL b f;unfold Kf at e;split at e
   ·rename_i s' i;cases e;obtain⟨ad,w',j,k,l,m⟩:=yS h i g;simp only[den,j,abB]at c;exact⟨ρ,w',by simp[Instr.storeAt,Instr.sureAddr,<- c,k],l,m⟩
   ·cases e
  ·cases e
 ·cases e
def nQ(h:HR ρ s w)(c:TR ρ t tm){x:Operand}{i:Nat}{nx:Nx}(e:bM s (pQ (eval t x) i)=some nx) :
 BY P ρ w s nx ((do pure (Next.value (<- Instr.extract (rv tm x) i)):Sem Next).run P w):=by
 refine bj h e fun v b=>?_;unfold pQ at b;split at b
 ·rename_i vs d;have a:=aL c d;simp only[den]at a;split at a
  ·rename_i l hl;obtain⟨y,f,g⟩:=eM i hl b;simp only[abB]at a;exact⟨y,f,by simp[Instr.extract,<- a,g]⟩
  ·cases a
 ·cases b
def pn(h:HR ρ s w)(f:TR ρ t tm){fn:Fn}{first cap:Array Operand}{nx:Nx}(e:bM s (tg fn (ij t first.toList) (ij t cap.toList))=some nx) :
 BY P ρ w s nx ((do pure (Next.value (<- Instr.makeFunc fn (first.map (rv tm)) (cap.map (rv tm)))):Sem Next).run P w):=by
 refine bj h e fun v c=>?_;unfold tg at c;split at c
 ·cases c
 ·rename_i d;unfold Fq at c;split at c
  ·rename_i a i;split at c
   ·rename_i b hb;cases c;have j:nR ρ fn=some fn:=by cases fn<;>first|rfl|exact absurd rfl (d _)
    refine⟨.func fn (first.map (rv tm)) (cap.map (rv tm)),?_,by simp[Instr.makeFunc]⟩;simp only[den,j,kV f i,kV f hb];have g:∀ l:Array Operand,(List.map (rv tm) l.toList).toArray=l.map (rv tm):=fun l=>by cases l;simp
    rw[g,g]
   ·cases c
  ·cases c
def Km{x:Option V}{n:Nat}(h:et x=some n):∃ k,x=some (.int k (.ofNat n)):=by
 cases x with
 |none=>cases h
 |some v =>
  cases v<;>try(cases h;done)
  rename_i k m;cases m<;>cases h;exact⟨k,rfl⟩
def nP(h:HR ρ s w)(c:TR ρ t tm){ty:TypeId}{x:Operand}{nx:Nx}(e:bM s (pO P ty (eval t x))=some nx) :
 BY P ρ w s nx ((do pure (Next.value (<- Instr.makeInterface ty (rv tm x))):Sem Next).run P w):=by
 refine bj h e fun v a=>?_;unfold pO at a;split at a
 ·cases a
 ·rename_i d f b;split at a
  ·rename_i y hy;cases a;refine⟨.iface ty (rv tm x),by simp only[den,aL c hy],?_⟩;simp only[Instr.makeInterface,afx,aG b,aeq];cases d<;>first|rfl|exact absurd rfl (f _)
  ·cases a
 ·cases a
def qG(h:HR ρ s w)(g:TR ρ t tm){ty:TypeId}{x:Operand}{f:Nat}{nx:Nx}(e:bM s (ti P ty (eval t x) f)=some nx) :
 BY P ρ w s nx ((do pure (Next.value (<- Instr.field ty (rv tm x) f)):Sem Next).run P w):=by
 refine bj h e fun v a=>?_;unfold ti at a;split at a
 ·rename_i fs c;split at a
  ·rename_i cs i;have b:=aL g i;simp only[den]at b;split at b
   ·rename_i l hl;simp only[abB]at b;split at a
    ·rename_i fd d;obtain⟨y,j,k⟩:=kO (w:=w) (ys:=l.toArray) (by simpa using hl) a;exact⟨y,j,by simp[Instr.field,aG c,d,<- b,asAgg,k]⟩
    ·cases a
   ·cases b
  ·cases a
 ·cases a
def kz(b off n:Nat):(⟨b,off,none⟩:Addr).add n=⟨b,off+n,none⟩:=by
 unfold Addr.add;split
 ·subst_vars;rfl
 ·rfl
def tq{a:Ad}{l:Ch}(hl:ρ a.f a.v=some l)(h:l.base<=a.c):iv ρ a=some ⟨l.b,a.c - l.base,none⟩:=by unfold iv;rw[hl];exact aeM h
def tu{a:Ad}{x:Addr}(h:iv ρ a=some x):∃ l,ρ a.f a.v=some l/\l.base<=a.c/\x=⟨l.b,a.c - l.base,none⟩:=by
 unfold iv at h;cases hl:ρ a.f a.v with
 |none=>simp[hl]at h
 |some l =>
  simp only[hl]at h;split at h
  ·cases h;exact⟨l,rfl,by assumption,rfl⟩
  ·cases h
def tw{a:Ad}{x:Addr}(n:Nat)(h:iv ρ a=some x):iv ρ (cM a n)=some (x.add n):=by
 obtain⟨l,b,h2,rfl⟩:=tu h;have d:ρ (cM a n).f (cM a n).v=some l:=b;rw[tq d (by show l.base<=a.c+n;omega),kz];have:(cM a n).c - l.base=a.c - l.base+n:=by show a.c+n - l.base=_;omega
 rw[this]
def kY(h:HR ρ s w)(o:TR ρ t tm){ty:TypeId}{x:Operand}{f:Nat}{nx:Nx}(e:bM s (iT P ty (eval t x) f)=some nx) :
 BY P ρ w s nx ((do pure (Next.value (<- Instr.fieldAt ty (rv tm x) f)):Sem Next).run P w):=by
 refine bj h e fun v b=>?_;unfold iT at b;split at b
 ·rename_i fs i;split at b
  ·rename_i a p;have d:=aL o p;simp only[den]at d;split at d
   ·rename_i ad j;simp only[abB]at d;split at b
    ·rename_i k l;cases c:iP k P with
     |true=>simp[c]at b
     |false =>
      simp only[c,TD,abB]at b;subst b;have g:∃ n,size P k.type=some n/\n≠0:=by
       unfold iP at c;split at c
       ·rename_i n g;exact⟨n,g,fun e=>by subst e;simp at c⟩
       ·cases c
      obtain⟨n,g,m⟩:=g;refine⟨.pointer (some (ad.add k.offset)),by simp only[den,tw _ j],?_⟩;simp[Instr.fieldAt,aG i,l,<- d,Instr.sureAddr,fieldPlace,cA g,m]
    ·cases b
   ·cases d
  ·cases b
 ·cases b
def lY(h:HR ρ s w)(i:TR ρ t tm){x:Operand}{dst:Option Tmp}{type:TypeId}{pos:String}{after:Array Edge}{guard:Option (Nat×Bool)}{nx:Nx}(e:bM s (nf (eval t x))=some nx) :
 BY P ρ w s nx ((execOp (rv tm) { dst,op:=.nilCheck x,type,pos,after,guard }).run P w):=by
 unfold bM at e;split at e
 ·rename_i v c;cases e;unfold nf at c;split at c
  ·rename_i a f;cases c;have b:=aL i f;have d:=b;simp only[den]at d;split at d
   ·rename_i ad g;simp only[abB]at d;refine⟨_,.pointer (some ad),rfl,?_,by simp only[den,g]⟩;simp only[execOp,<- d,aiy]
   ·cases d
  ·rename_i fn fi ca f;have b:=aL i f;split at c
   ·cases c;refine⟨_,rv tm x,rfl,?_,b⟩;simp only[den,nR]at b
    (repeat' split at b)<;>try cases b
    simp only[abB]at b;simp only[execOp,<- b,aiy]
   ·cases c;refine⟨_,rv tm x,rfl,?_,b⟩;simp only[den,nR]at b
    (repeat' split at b)<;>try cases b
    simp only[abB]at b;rename_i d _ _ _ _ _ _;simp only[execOp,<- b];split at d<;>cases d;simp only[aiy]
   ·cases c
  ·cases c
 ·cases e
end ops
def bX(l:List Nat):(aK l).toList=l.map UInt8.ofNat:=by unfold aK;simp
def mt:∀ {a b:List Nat} {r:Bool},lF a b=some r->((aK a).toList==(aK b).toList)=r:=by
 intro a;induction a with
 |nil =>
  intro b r h;cases b with
  |nil=>cases h;rw[bX];rfl
  |cons y b=>cases h;rw[bX,bX];rfl
 |cons x a ih =>
  intro b r h;cases b with
  |nil=>cases h;rw[bX,bX];rfl
  |cons y b =>
   simp only[lF]at h;cases hb:Nat.beq x y with
   |true =>simp only[hb,ge]at h;have e:=abr hb;have d:=ih h;rw[bX,bX]at d ⊢;subst e;simp only[aeL];rw[<- d,List.cons_beq_cons];simp
   |false =>
    simp only[hb,TD]at h;cases hc:(Nat.blt x 256&&Nat.blt y 256)with
    |false=>simp[hc]at h
    |true =>
     simp only[hc,ge,abB]at h;subst h;simp only[abA,Nat.blt_eq]at hc;rw[bX,bX];simp only[aeL];have c:¬ UInt8.ofNat x=UInt8.ofNat y:=fun e=>by have:=aiK UInt8.toNat e;rw[UInt8.toNat_ofNat',UInt8.toNat_ofNat']at this;rw[akQ hc.1,akQ hc.2]at this;subst this;simp at hb
     rw[List.cons_beq_cons];simp[c]
section
variable{P:Program}{ρ:aN}{s:S}{w:World}
def vk(h:HR ρ s w){a:Ad}(hp:bU s a=true):∃ l c e,ρ a.f a.v=some l/\w.heap[l.b]? = some (.cells c e (0,0)):=by
 unfold bU at hp;split at hp
 ·rename_i el sb nv vers i;simp only[abA,ajv]at hp;obtain⟨u,j⟩:=Option.isSome_iff_exists.1 hp.2;obtain⟨⟨l,c,e,fz,d,g,h3,h4,⟨k,_⟩,h6⟩,_,m⟩:=h.ver i j;rw[m]at d;rw[k hp.1]at g;exact⟨l,c,e,d,g⟩
 ·cases hp
def Hy(h:HR ρ s w){a b:Ad}{r:Bool}(e:Mt (bU s) a b=some r){A B:Addr}(q:iv ρ a=some A)(hb:iv ρ b=some B) :
 (sameAddr A B).run P w=.ok r w:=by
 unfold Mt at e;cases hp:(bU s a&&bU s b)with
 |false=>simp[hp]at e
 |true =>
  simp only[hp,ge]at e;simp only[abA]at hp;obtain⟨la,d,ha2,rfl⟩:=tu q;obtain⟨lb,g,hb2,rfl⟩:=tu hb;obtain⟨l1,c1,u,o,k⟩:=vk h hp.1;obtain⟨l2,c2,x,p,l⟩:=vk h hp.2;rw[d]at o;cases o;rw[g]at p;cases p;cases i:Nat.beq a.f b.f with
  |true =>
   simp only[i,ge]at e;cases m:Nat.beq a.v b.v with
   |false=>simp[m]at e
   |true =>
    simp only[m,ge,abB]at e;rw[abr i,abr m,g]at d;cases d;simp only[sameAddr,akE,akC];show Result.ok _ _=_;congr 1;subst e;cases hc:Nat.beq a.c b.c with
    |true=>rw[abr hc];simp
    |false =>
     have j:a.c≠b.c:=fun e=>by rw[e]at hc;simp at hc
     simp;omega
  |false =>
   simp only[i,TD,abB]at e;subst e;have j:la.b≠lb.b:=fun e=>by have:=(h.inj _ _ _ _ _ _ d g e).1;rw[this]at i;simp at i
   have y:(la.b==lb.b)=false:=by simpa using j
   have fa:w.frozen? ⟨la.b,a.c - la.base,none⟩=false:=by simp[World.frozen?,k]
   have fb:w.frozen? ⟨lb.b,b.c - lb.base,none⟩=false:=by simp[World.frozen?,l]
   have fa':∀ n,w.frozen? { block:=la.b,off:=n }=false:=fun n=>by simp[World.frozen?,k]
   have fb':∀ n,w.frozen? { block:=lb.b,off:=n }=false:=fun n=>by simp[World.frozen?,l]
   have sa:w.shape? la.b=some (u,c1.size):=by simp[World.shape?,k]
   have sb:w.shape? lb.b=some (x,c2.size):=by simp[World.shape?,l]
   simp[sameAddr,y,fa,fb,noView,viewAt,sa,sb,mayBeOne,stringish,fa',fb']
def II{fn:Fn}{fi ca:List V}{x:Value}(h:den ρ (.func fn fi ca)=some x):∃ g a b,x=.func g a b:=by
 simp only[den]at h;split at h
 ·split at h
  ·split at h
   ·cases h;exact⟨_,_,_,rfl⟩
   ·cases h
  ·cases h
 ·cases h
def vG{t:TypeId}{fs:Array Field}(h:P.underlying t=some (.struct fs)):P.fieldsOf t=fs:=by unfold Program.fieldsOf;rw[h]
def ph{eq:TypeId->V->V->Option Bool}{d:Nat}(c:∀ t x y r X Y,eq t x y=some r->den ρ x=some X->den ρ y=some Y->(Op.equalIn d t X Y).run P w=.ok r w) :
 ∀(fs:List Field) (xs ys:List V) (X Y:Array Value) (r:Bool),jS P eq fs xs ys=some r->bd ρ xs=some X.toList->bd ρ ys=some Y.toList ->
  (Op.eqFields d X Y fs).run P w=.ok r w
 |[],xs,ys,X,Y,r,h,_,_=>by cases h;rfl
 |f::fs,xs,ys,X,Y,r,h,n,hy=>by
  simp only[jS]at h;cases i:(f.name == "_")with
  |true=>simp[i]at h
  |false =>
   simp only[i,TD]at h;have j:f.name ≠ "_" := by simpa using i
   split at h
   ·rename_i a b o hb;obtain⟨A,e,k⟩:=kO (P:=P) (w:=w) n o;obtain⟨B,g,l⟩:=kO (P:=P) (w:=w) hy hb;simp only[Op.eqFields,j,ne_eq,not_false_eq_true,akC,afx,k,l,aeq];split at h
    ·rename_i m;rw[c _ _ _ _ _ _ m e g];simpa using ph c fs xs ys X Y r h n hy
    ·rename_i m;cases h;rw[c _ _ _ _ _ _ m e g];simp
    ·cases h
   ·cases h
set_option maxHeartbeats 3000000 in
def xg(h:HR ρ s w):∀(d:Nat) (t:TypeId) (x y:V) (r:Bool) (X Y:Value) (m:Nat),dq P (bU s) d t x y=some r->den ρ x=some X->den ρ y=some Y->d<=m ->
 (Op.equalIn m t X Y).run P w=.ok r w:=by
 intro d;induction d with
 |zero=>intro t x y r X Y m e;cases e
 |succ d ih =>
  intro t x y r X Y m e f hy hd;obtain⟨m,rfl⟩:∃ n,m=n+1:=⟨m - 1,by omega⟩;simp only[dq]at e;split at e
  ·rename_i fs l;split at e
   ·rename_i xs ys;cases q:P.stoodInHeld t with
    |true=>simp[q]at e
    |false =>
     simp only[q,TD]at e;simp only[den]at f hy;split at f
     ·rename_i lx u;split at hy
      ·rename_i ly v;cases f;cases hy;rw[run_equalIn_struct w m t _ _ (by rw[vG l];exact l) q,vG l];exact ph (fun t x y r X Y e I J=>ih t x y r X Y m e I J (by omega)) fs.toList xs ys _ _ r e (by simpa using u) (by simpa using v)
      ·cases hy
     ·cases f
   ·cases e
  ·rename_i ms l;split at e
   ·cases f;cases hy;cases e;simp[Op.equalIn,aG l]
   ·rename_i ty vy;simp only[den]at hy;split at hy
    ·cases f;cases hy;cases e;simp[Op.equalIn,aG l]
    ·cases hy
   ·rename_i tx vx;simp only[den]at f;split at f
    ·cases f;cases hy;cases e;simp[Op.equalIn,aG l]
    ·cases f
   ·rename_i tx vx ty vy;simp only[den]at f hy;split at f
    ·rename_i zx E;split at hy
     ·rename_i zy F;cases f;cases hy;cases p:Nat.beq tx ty with
      |false =>
       simp only[p,TD,abB]at e;subst e;have o:tx≠ty:=fun e=>by rw[e]at p;simp at p
       simp[Op.equalIn,aG l,o]
      |true =>
       simp only[p,ge]at e;have:=abr p;subst this;split at e
       ·rename_i i hi;cases hc:i.comparable with
        |false=>simp[hc]at e
        |true =>simp only[hc,ge]at e;have:=ih _ _ _ _ _ _ m e E F (by omega);simp[Op.equalIn,aG l,typeInfo,hi,hc,this]
       ·cases e
     ·cases hy
    ·cases f
   ·cases e
  ·rename_i l;split at e
   ·cases f;cases hy;cases e;simp[Op.equalIn,aG l]
   ·cases e
  ·rename_i k0 l;split at e
   ·rename_i j a k b;cases hk:dC j k with
    |false=>simp[hk]at e
    |true =>simp only[hk,ge,abB]at e;have G:j=k:=aiF hk;subst G;cases f;cases hy;subst e;simp[Op.equalIn,aG l]
   ·cases e
  ·rename_i l;split at e
   ·rename_i a b;cases f;cases hy;have:=mt e;simp[Op.equalIn,aG l,beq_toListBytes,this]
   ·cases e
  ·rename_i el l;split at e
   ·cases f;cases hy;cases e;simp[Op.equalIn,aG l]
   ·rename_i b;simp only[den]at hy;split at hy
    ·cases f;cases hy;cases e;simp[Op.equalIn,aG l]
    ·cases hy
   ·rename_i a;simp only[den]at f;split at f
    ·cases f;cases hy;cases e;simp[Op.equalIn,aG l]
    ·cases f
   ·rename_i a b;simp only[den]at f hy;split at f
    ·rename_i A hA;split at hy
     ·rename_i B hB;cases f;cases hy;split at e
      ·rename_i n K;cases H:Nat.beq n 0 with
       |true=>simp[H]at e
       |false =>
        simp only[H,TD]at e;have o:n≠0:=fun e=>by subst e;simp at H
        have:=Hy (P:=P) h e hA hB;simp[Op.equalIn,aG l,cA K,o,this]
      ·cases e
     ·cases hy
    ·cases f
   ·cases e
  ·rename_i el l;split at e
   ·cases f;cases hy;cases e;simp[Op.equalIn,aG l]
   ·rename_i a z n c sz;simp only[den,ik]at hy
    (repeat' split at hy)<;>first|(cases hy;done)|(cases f;cases hy;cases e;simp[Op.equalIn,aG l])
   ·rename_i a z n c sz;simp only[den,ik]at f
    (repeat' split at f)<;>first|(cases f;done)|(cases f;cases hy;cases e;simp[Op.equalIn,aG l])
   ·cases e
  ·rename_i k el l;split at e
   ·cases f;cases hy;cases e;simp[Op.equalIn,aG l]
   ·simp only[den]at hy;split at hy
    ·cases f;cases hy;cases e;simp[Op.equalIn,aG l]
    ·cases hy
   ·simp only[den]at f;split at f
    ·cases f;cases hy;cases e;simp[Op.equalIn,aG l]
    ·cases f
   ·cases e
  ·rename_i l;split at e
   ·cases f;cases hy;cases e;simp[Op.equalIn,aG l]
   ·obtain⟨g,a,b,rfl⟩:=II hy;cases f;cases e;simp[Op.equalIn,aG l]
   ·obtain⟨g,a,b,rfl⟩:=II f;cases hy;cases e;simp[Op.equalIn,aG l]
   ·cases e
  ·cases e
end
section ops
variable{P:Program}{ρ:aN}{s:S}{w:World}{t:T V}{tm:Array Value}
def HZ{op:BinOp}{k:IntKind}{a b:Int}{v:V}(ty:TypeId)(c:pK op=false)(h:DG op k a b=some v) :
 ∃ y,den ρ v=some y/\(Go.binOp op ty (.int k a) (.int k b)).run P w=.ok y w:=by
 cases op<;>simp only[pK,Bool.true_eq_false]at c<;>simp only[DG,cJ]at h
 case quo =>
  cases hb:(b==0)with
  |true=>simp[hb]at h
  |false =>
   simp only[hb,TD,abB]at h;subst h;have:b≠0:=by simpa using hb
   exact⟨_,rfl,by simp[Go.binOp,Op.intDiv,this]⟩
 case rem =>
  cases hb:(b==0)with
  |true=>simp[hb]at h
  |false =>
   simp only[hb,TD,abB]at h;subst h;have:b≠0:=by simpa using hb
   exact⟨_,rfl,by simp[Go.binOp,Op.intDiv,this]⟩
 all_goals first
  |cases h;done
  |(cases h;exact⟨_,rfl,by simp[Go.binOp,Op.intArith,Op.intCmp,Op.intBits]⟩)
def Cm{op:BinOp}{k yk:IntKind}{a b:Int}{v:V}(ty:TypeId)(h:EN op k a b=some v) :
 ∃ y,den ρ v=some y/\(Go.binOp op ty (.int k a) (.int yk b)).run P w=.ok y w:=by
 cases b with
 |negSucc n=>cases h
 |ofNat n =>
  have h0:¬(Int.ofNat n<0):=Int.not_lt.2 (Int.natCast_nonneg n)
  cases op<;>simp only[EN,cJ]at h<;>first
   |(cases h;done)
   |(cases h;exact⟨_,rfl,by simp[Go.binOp,Op.shift];intro h;omega⟩)
def He{op:BinOp}{a b:List Nat}{v:V}(ty:TypeId)(h:yQ op a b=some v) :
 ∃ y,den ρ v=some y/\(Go.binOp op ty (.string (aK a)) (.string (aK b))).run P w=.ok y w:=by
 cases op<;>simp only[yQ]at h
 case add =>
  cases hb:Nat.ble (a.length+b.length) 1000000 with
  |false=>simp[hb]at h
  |true =>
   simp only[hb,ge,abB]at h;subst h;have hl:=aeb hb;have sa:(aK a).size=a.length:=by unfold aK;simp[ByteArray.size]
   have sb:(aK b).size=b.length:=by unfold aK;simp[ByteArray.size]
   have d:aK a++aK b=aK (a++b):=by apply ByteArray.ext;simp[aK]
   refine⟨_,rfl,?_⟩;have e:¬(((aK a).size+(aK b).size:Nat):Int)>IntKind.i64.max:=by rw[sa,sb];simp only[IntKind.max,IntKind.signed,IntKind.bits];simp;omega
   simp only[Go.binOp,Op.stringOp];rw[aeD e,d];rfl
 case eql =>
  cases c:lF a b with
  |none=>simp[c]at h
  |some r =>simp only[c,ajl,abB]at h;subst h;exact⟨_,rfl,by simp only[Go.binOp,Op.stringOp,mt c];rfl⟩
 case neq =>
  cases c:lF a b with
  |none=>simp[c]at h
  |some r =>simp only[c,ajl,abB]at h;subst h;exact⟨_,rfl,by simp only[Go.binOp,Op.stringOp,mt c];rfl⟩
 case lss =>cases h;exact⟨_,rfl,by simp only[Go.binOp,Op.stringOp,bX,px];rfl⟩
 all_goals cases h
def KW{op:BinOp}{ty:TypeId}{ox oy:Operand}{a b:V}{A B:Value}(d:fU P op ty ox oy a b=true)(c:den ρ a=some A)(hb:den ρ b=some B) :
 (eqGuard op ty ox oy A B).run P w=.ok () w:=by
 unfold fU at d;cases e:oP op with
 |false=>cases op<;>simp only[oP,Bool.true_eq_false]at e<;>simp[eqGuard]
 |true =>
  rw[e]at d;simp only[ge]at d
  have key:∀(A B:Value),(A=.nilIface->B=.nilIface->(fF ox||fF oy)=true)->(∀ xs ys,A=.agg xs->B=.agg ys->P.eqGuardType P.depth ty=false) ->
   (eqGuard op ty ox oy A B).run P w=.ok () w:=by
   intro A B g h;by_cases f:A=.nilIface/\B=.nilIface
   ·obtain⟨rfl,rfl⟩:=f;have:=g rfl rfl;cases op<;>simp only[oP,ajo]at e<;>cases ox<;>cases oy<;>simp[fF]at this<;>simp[eqGuard]
   ·by_cases hm:∃ xs ys,A=.agg xs/\B=.agg ys
    ·obtain⟨xs,ys,rfl,rfl⟩:=hm;exact run_eqGuard_agg w op ty ox oy xs ys (h xs ys rfl rfl)
    ·cases op<;>simp only[oP,ajo]at e<;>(cases A<;>first|rfl|(cases B<;>first|rfl|(exact absurd ⟨rfl,rfl⟩ f)|(exact absurd ⟨_,_,rfl,rfl⟩ hm)))
  refine key A B (fun hA hB=>?_) (fun xs ys hA hB=>?_)
  ·subst hA;subst hB;have na:a=.nilIface:=by cases a<;>simp only[den,ik]at c<;>(repeat' split at c)<;>first|rfl|(simp at c;done)|cases c
   have nb:b=.nilIface:=by cases b<;>simp only[den,ik]at hb<;>(repeat' split at hb)<;>first|rfl|(simp at hb;done)|cases hb
   subst na;subst nb;exact d
  ·subst hA;subst hB;have na:∃ l,a=.agg l:=by cases a<;>simp only[den,ik]at c<;>(repeat' split at c)<;>first|exact⟨_,rfl⟩|(simp at c;done)|cases c
   have nb:∃ l,b=.agg l:=by cases b<;>simp only[den,ik]at hb<;>(repeat' split at hb)<;>first|exact⟨_,rfl⟩|(simp at hb;done)|cases hb
   obtain⟨la,rfl⟩:=na;obtain⟨lb,rfl⟩:=nb;simpa using d
def Ow{x y:V}:(∃ j a k b,x=.int j a/\y=.int k b)\/(∃ a b,x=.str a/\y=.str b)\/((∀ j a k b,¬(x=.int j a/\y=.int k b))/\∀ a b,¬(x=.str a/\y=.str b)):=by
 by_cases c:∃ j a k b,x=.int j a/\y=.int k b
 ·exact .inl c
 ·by_cases d:∃ a b,x=.str a/\y=.str b
  ·exact .inr (.inl d)
  ·exact .inr (.inr ⟨fun j a k b h=>c ⟨j,a,k,b,h⟩,fun a b h=>d ⟨a,b,h⟩⟩)
def Hq{ty:TypeId}{X Y:Value}{r:Bool}(h:(Op.equalIn 10000 ty X Y).run P w=.ok r w)(e:∀ j a k b,¬(X=.int j a/\Y=.int k b))(f:∀ a b,¬(X=.string a/\Y=.string b))
 (g:∀ k a,X≠.float k a) (hc:∀ k a b,X≠.complex k a b) :
 (Go.binOp .eql ty X Y).run P w=.ok (.bool r) w/\(Go.binOp .neq ty X Y).run P w=.ok (.bool (!r)) w:=by
 have c:∀(o:Sem Bool),o.run P w=.ok r w->((do pure (.bool (<- o)):Sem Value).run P w=.ok (.bool r) w/\(do pure (.bool (!(<- o))):Sem Value).run P w=.ok (.bool (!r)) w):=fun o ho=>by simp[ho]
 have d:(Op.equal ty X Y).run P w=.ok r w:=h
 cases X<;>first
  |exact c _ d
  |(exact absurd rfl (g _ _))
  |(exact absurd rfl (hc _ _ _))
  |(cases Y<;>first
   |exact c _ d
   |(exact absurd ⟨rfl,rfl⟩ (e _ _ _ _))
   |(exact absurd ⟨rfl,rfl⟩ (f _ _)))
def Ef{v:V}{x:Value}(h:den ρ v=some x):(∀ k a,x≠.float k a)/\(∀ k a b,x≠.complex k a b)/\(∀ j a,x=.int j a->v=.int j a)/\(∀ a,x=.string a->∃ l,v=.str l):=by
 cases v<;>simp only[den,ik]at h<;>(repeat' split at h)<;>first
  |(cases h;done)
  |(cases h;exact⟨fun _ _ e=>(by cases e),fun _ _ _ e=>(by cases e),fun _ _ e=>(by cases e<;>rfl),fun _ e=>(by cases e<;>exact⟨_,rfl⟩)⟩)
def xl(h:HR ρ s w)(G:TR ρ t tm){op:BinOp}{ty:TypeId}{x y:Operand}{nx:Nx}(e:bM s (gk P s op ty x y (eval t x) (eval t y))=some nx) :
 BY P ρ w s nx ((do pure (Next.value (<- (do eqGuard op ty x y (rv tm x) (rv tm y);Go.binOp op ty (rv tm x) (rv tm y):Sem Value))):Sem Next).run P w):=by
 refine bj h e fun v c=>?_;unfold gk at c;split at c
 ·rename_i a H;split at c
  ·rename_i b hb;cases q:fU P op ty x y a b with
   |false=>simp[q]at c
   |true =>
    simp only[q,ge]at c;have da:=aL G H;have db:=aL G hb;have u:=KW (w:=w) q da db;generalize rv tm x=X at *;generalize rv tm y=Y at *;suffices i:∃ y,den ρ v=some y/\(Go.binOp op ty X Y).run P w=.ok y w by obtain⟨z,I,J⟩:=i;exact⟨z,I,by simp[u,J]⟩
    rcases Ow (x:=a) (y:=b)with⟨j,m,k,n,rfl,rfl⟩|⟨l,m,rfl,rfl⟩|⟨o,p⟩
    ·cases da;cases db;simp only[gc]at c;cases i:pK op with
     |true=>rw[i]at c;exact Cm ty c
     |false =>
      rw[i]at c;simp only[TD]at c;cases hk:dC j k with
      |false=>simp[hk]at c
      |true =>simp only[hk,ge]at c;obtain rfl:j=k:=aiF hk;exact HZ ty i c
    ·cases da;cases db;exact He ty c
    ·have d:(match(generalizing:=false) op with
      |.eql=>(dq P (bU s) 20 ty a b).map .bool
      |.neq=>(dq P (bU s) 20 ty a b).map fun b=>.bool (!b)
      |_=>none)=some v:=by
      unfold gc at c;split at c
      ·exact absurd ⟨rfl,rfl⟩ (o _ _ _ _)
      ·exact absurd ⟨rfl,rfl⟩ (p _ _)
      ·exact c
     obtain⟨s1,s2,K,L⟩:=Ef da;obtain⟨q1,q2,M,N⟩:=Ef db;have O:∀ j f k g,¬(X=.int j f/\Y=.int k g):=fun j f k g ⟨A,B⟩=>o j f k g ⟨K _ _ A,M _ _ B⟩;have E:∀ f g,¬(X=.string f/\Y=.string g):=fun f g ⟨A,B⟩=>by obtain⟨l,rfl⟩:=L _ A;obtain⟨m,rfl⟩:=N _ B;exact p _ _ ⟨rfl,rfl⟩
     cases F:dq P (bU s) 20 ty a b with
     |none=>cases op<;>simp[F]at d
     |some r =>
      have Q:=xg h 20 ty a b r X Y 10000 F da db (by omega);obtain⟨R,U⟩:=Hq Q O E s1 s2
      cases op<;>simp only[F,ajl,abB]at d<;>first
       |(subst d;exact⟨_,rfl,R⟩)
       |(subst d;exact⟨_,rfl,U⟩)
       |cases d
  ·cases c
 ·cases c
def Bs(h:HR ρ s w)(c:TR ρ t tm){op:UnOp}{x:Operand}{nx:Nx}(e:bM s (aaS op (eval t x))=some nx) :
 BY P ρ w s nx ((do pure (Next.value (<- Op.unary op (rv tm x))):Sem Next).run P w):=by
 refine bj h e fun v b=>?_;unfold aaS at b;split at b
 ·rename_i a d;have da:=aL c d;generalize rv tm x=X at *
  cases op<;>cases a<;>simp only[PZ]at b<;>first
   |(cases b;done)
   |(cases b;cases da;exact⟨_,rfl,by simp[Op.unary,Op.intArith]⟩)
 ·cases b
def pp(h:HR ρ s w)(o:TR ρ t tm){x:Operand}{xt ty:TypeId}{ok:Bool}{nx:Nx}(e:bM s (lZ P (eval t x) ty ok)=some nx) :
 BY P ρ w s nx ((do pure (Next.value (<- Instr.typeAssert (rv tm x) xt ty ok)):Sem Next).run P w):=by
 refine bj h e fun v b=>?_;unfold lZ at b;split at b
 ·cases b
 ·rename_i d c j;have hfail:∀ v,fI P ty ok=some v->ok=true/\∃ z i,P.info? ty=some i/\i.zero=some z/\den ρ v=some (.tuple #[z,.bool false]):=fun v f=>by
   unfold fI at f;cases ok with
   |false=>cases f
   |true =>
    simp only[ge]at f;split at f
    ·rename_i z g;obtain⟨y,i,hi,k,a⟩:=ff g;cases f;exact⟨rfl,y,i,hi,k,by simp only[den,bd,a ρ]⟩
    ·cases f
  split at b
  ·rename_i l;have dx:=aL o l;obtain⟨rfl,z,i,hi,g,a⟩:=hfail v b;simp only[den,abB]at dx;refine⟨_,a,?_⟩;simp only[Instr.typeAssert,afx,aG j,aeq,<- dx];cases d<;>first|(simp[gi hi g];done)|exact absurd rfl (c _)
  ·rename_i u q l;have dx:=aL o l;simp only[den]at dx;split at dx
   ·rename_i z g;simp only[abB]at dx;cases hb:Nat.beq u ty with
    |true =>simp only[hb,ge,abB]at b;have m:=abr hb;subst m;subst b;refine⟨if ok then .tuple #[z,.bool true] else z,by cases ok<;>simp[den,bd,g],?_⟩;simp only[Instr.typeAssert,afx,aG j,aeq,<- dx];cases d<;>first|(simp;done)|exact absurd rfl (c _)
    |false =>
     simp only[hb,TD]at b;have m:u≠ty:=fun e=>by rw[e]at hb;simp at hb
     obtain⟨rfl,z',i,hi,n,a⟩:=hfail v b;refine⟨_,a,?_⟩;simp only[Instr.typeAssert,afx,aG j,aeq,<- dx];cases d<;>first|(simp[m,gi hi n];done)|exact absurd rfl (c _)
   ·cases dx
  ·cases b
 ·cases b
end ops
section ops
variable{P:Program}{ρ:aN}{s:S}{w:World}{t:T V}{tm:Array Value}
def kw{a b:Nat}(h:Nat.blt a b=true):a<b:=aeb h
def fO{a:Ad}{z len sz:Nat}{cap:Option Nat}{y:Value}(h:den ρ (.slice a z len cap sz)=some y)(hz:sz≠0\/0<len) :
 ∃ l,ρ a.f a.v=some l/\l.base<=bC l a z cap sz/\l.base<=a.c/\len<=cE l a cap sz/\0<sz/\y=.slice (some ⟨l.b,bC l a z cap sz - l.base,none⟩) len (cE l a cap sz):=by
 simp only[den,ik]at h;split at h
 ·rename_i h0;split at h
  ·rename_i h1;omega
  ·cases h
 split at h
 ·rename_i l hl;split at h
  ·rename_i hc;simp only[abB]at h;exact⟨l,hl,hc.1,hc.2.1,hc.2.2.1,hc.2.2.2,h.symm⟩
  ·cases h
 ·cases h
def dO{a:Ad}{z len sz:Nat}{cap:Option Nat}{l:Ch}(hl:ρ a.f a.v=some l)(d:l.base<=bC l a z cap sz)(e:l.base<=a.c)(g:len<=cE l a cap sz)(h:0<sz) :
 den ρ (.slice a z len cap sz)=some (.slice (some ⟨l.b,bC l a z cap sz - l.base,none⟩) len (cE l a cap sz)):=by
 simp only[den,ik];rw[aeD (show ¬ sz=0 by omega)];simp only[hl];rw[aeM ⟨d,e,g,h⟩]
def vg{a:Ad}{z len sz:Nat}{cap:Option Nat}{y:Value}(h:den ρ (.slice a z len cap sz)=some y):∃ b c,y=.slice b len c/\∀ d,cap=some d->c=d:=by
 by_cases e:sz=0
 ·simp only[den,ik]at h;rw[aeM e]at h;split at h
  ·rename_i f;cases h;exact⟨_,0,by rw[f.1],fun d hc=>by rw[f.2]at hc;exact aiJ hc⟩
  ·cases h
 ·obtain⟨l,_,_,_,_,_,rfl⟩:=fO h (.inl e);exact⟨_,_,rfl,fun d hc=>by subst hc;rfl⟩
def MD{n:Nat}(h:Nat.beq n 0=false):n≠0:=fun e=>by subst e;cases h
def eN{l:Ch}{a:Ad}{z len sz:Nat}{cap:Option Nat}(h:len<=cE l a cap sz)(h0:0<len):bC l a z cap sz=a.c:=by
 cases cap with
 |some c=>rfl
 |none=>simp only[bC,cE]at *;rw[aeD (by omega)]
def gx(a:TR ρ t tm){x:Operand}{n:Nat}(h:et (eval t x)=some n):∃ k,rv tm x=.int k (.ofNat n):=by obtain⟨k,hk⟩:=Km h;have:=aL a hk;simp only[den,abB]at this;exact⟨k,this.symm⟩
def kX(h:HR ρ s w)(m:TR ρ t tm){ty:TypeId}{x i:Operand}{nx:Nx}(e:bM s (gA P ty (eval t x) (et (eval t i)))=some nx) :
 BY P ρ w s nx ((do pure (Next.value (<- Instr.indexAt ty (rv tm x) (rv tm i))):Sem Next).run P w):=by
 refine bj h e fun v d=>?_;unfold gA at d;split at d
 ·rename_i j y;obtain⟨k,hi⟩:=gx m y;split at d
  ·rename_i el o;split at d
   ·rename_i a z len cap sz p;split at d
    ·rename_i n q;cases hb:(Nat.beq n sz&&Nat.blt j len)with
     |false=>simp[hb]at d
     |true =>
      simp only[hb,ge,abB]at d;simp only[abA]at hb;obtain rfl:=abr hb.1;have f:j<len:=kw hb.2;obtain⟨l,g,h2,A,B,h5,u⟩:=fO (aL m p) (.inr (by omega));subst d;have hc:=eN (z:=z) B (by omega);rw[hc]at u;refine⟨.pointer (some ((⟨l.b,a.c - l.base,none⟩:Addr).add (j*n))),by simp only[den,tw _ (tq g A)],?_⟩;have hr:(0:Int)<=(j:Int)/\(j:Int)<(len:Int):=by omega
      simp[Instr.indexAt,hi,u,asIntOf,aG o,cA q,f]
    ·cases d
   ·cases d
  ·rename_i len el o;split at d
   ·rename_i a p;have g:=aL m p;simp only[den]at g;split at g
    ·rename_i ad r;simp only[abB]at g;split at d
     ·rename_i n q;cases hb:Nat.blt j len with
      |false=>simp[hb]at d
      |true =>simp only[hb,ge,abB]at d;have f:j<len:=kw hb;subst d;refine⟨.pointer (some (ad.add (j*n))),by simp only[den,tw _ r],?_⟩;simp[Instr.indexAt,hi,<- g,asIntOf,Instr.sureAddr,aG o,cA q,f]
     ·cases d
    ·cases g
   ·cases d
  ·cases d
 ·cases d
def dt(l:List Nat)(i:Nat)(c:Nat)(h:l[i]? = some c):(aK l)[i]? = some (UInt8.ofNat c):=by
 have hi:i<l.length:=(aez.1 h).1;have hs:(aK l).size=l.length:=by simp[aK,ByteArray.size]
 have a:i<(aK l).size:=by omega
 rw[getElem?_pos (aK l) i a];have b:=(aez.1 h).2;congr 1;show(aK l).data[i]=_;simp[aK,b]
def qF(h:HR ρ s w)(d:TR ρ t tm){ty:TypeId}{x i:Operand}{nx:Nx}(e:bM s (pP P ty (eval t x) (et (eval t i)))=some nx) :
 BY P ρ w s nx ((do pure (Next.value (<- Instr.index ty (rv tm x) (rv tm i))):Sem Next).run P w):=by
 refine bj h e fun v a=>?_;unfold pP at a;split at a
 ·rename_i j o;obtain⟨k,hi⟩:=gx d o;split at a
  ·rename_i f;split at a
   ·rename_i l g;have b:=aL d g;simp only[den,abB]at b;split at a
    ·rename_i c hc;cases a;refine⟨_,rfl,?_⟩;have hb:=dt l j c hc;simp[Instr.index,hi,<- b,asIntOf,aG f,hb];rfl
    ·cases a
   ·cases a
  ·rename_i len el f;split at a
   ·rename_i cs g;have b:=aL d g;simp only[den]at b;split at b
    ·rename_i l hl;simp only[abB]at b;split at a
     ·rename_i n p;cases hb:Nat.blt j len with
      |false=>simp[hb]at a
      |true =>simp only[hb,ge]at a;have m:j<len:=kw hb;obtain⟨y,q,r⟩:=kO (w:=w) (ys:=l.toArray) (by simpa using hl) a;exact⟨y,q,by simp[Instr.index,hi,<- b,asIntOf,aG f,cA p,m,r]⟩
     ·cases a
    ·cases b
   ·cases a
  ·cases a
 ·cases a
def xN(h:HR ρ s w){ty:TypeId}:GR P ρ w (.val (.map s.next) (s.alloc (.map [] 0))) ((do pure (Next.value (<- Instr.makeMap ty none)):Sem Next).run P w):=by have hfree:ρ s.next 0=none:=h.fresh _ _ (abD _);obtain⟨a,b⟩:=h.alloc (.map [] 0) (.map #[] 0) 0 0 (abD _) ⟨⟨w.heap.size,0,0⟩,#[],aN.put_same _ _ _ _,eF _ _,trivial⟩;exact⟨_,.map (some w.heap.size),_,by simp[Instr.makeMap],by simp[den,aN.put_same],a,b⟩
def By(zs:List Value)(k:Nat)(hk:zs.length=k)(h0:0<k):∀ c:Nat,(List.range (c*k)).map (fun i=>zs.toArray[i%zs.toArray.size]!)=(List.replicate c zs).flatten
 |0=>by simp
 |c+1=>by
  rw[ajU,ajw,<- By zs k hk h0 c,Nat.succ_mul,Nat.add_comm,List.range_add,ais,akN];congr 1
  ·apply List.ext_getElem
   ·simp[hk]
   ·intro i a b;simp at a;simp[hk,akQ a];rw[abF b];rfl
  ·apply List.map_congr_left;intro i _;simp[hk]
def gZ{l:List V}{m:List Value}(h:bd ρ l=some m):∀ c:Nat,bd ρ (List.replicate c l).flatten=some (List.replicate c m).flatten
 |0=>rfl
 |c+1=>by rw[ajU,ajw,ajU,ajw];exact dG h (gZ h c)
def sx(h:HR ρ s w){elem:TypeId}{cs:List V}{ys:Array Value}(c:bd ρ cs=some ys.toList){len sz:Nat}{cap:Nat}(hl:len<=cap)(b:0<sz) :
 GR P ρ w (.val (.slice (bz s elem cs).1 0 len (some cap) sz) (bz s elem cs).2) ((do pure (Next.value (.slice (some (<- newRow elem ys)) len cap)):Sem Next).run P w):=by
 have a:cs.length=ys.size:=by have:=bS c;simpa using this.symm
 obtain⟨ρ',d,e,f⟩:=gQ h false elem elem (cs:=cs) (ys:=ys) (by rw[c,a,ajn (by simp)]) (0,0) ⟨fun _=>rfl,by simp⟩;refine⟨ρ',.slice (some ⟨w.heap.size,0,none⟩) len cap,_,by simp[newRow],?_,e,f⟩;exact dO (l:=⟨w.heap.size,0,ys.size⟩) d (aje _) (aje _) hl b
def mi(n:Nat)(h:n<=2199023255552):IntKind.i64.wrap (Int.ofNat n)=Int.ofNat n:=by simp only[IntKind.wrap,IntKind.bits,IntKind.signed];simp;omega
def xM(h:HR ρ s w)(J:TR ρ t tm){ty:TypeId}{l c:Operand}{nx:Nx}(e:eK P s ty (et (eval t l)) (et (eval t c))=some nx) :
 GR P ρ w nx ((do pure (Next.value (<- Instr.makeSlice ty (rv tm l) (rv tm c))):Sem Next).run P w):=by
 unfold eK at e;split at e
 ·rename_i el N;split at e
  ·rename_i l' hl;split at e
   ·rename_i a hc;obtain⟨k1,O⟩:=gx J hl;obtain⟨k2,Q⟩:=gx J hc;split at e
    ·rename_i z R;obtain⟨zv,i,hi,y,j⟩:=ff R;split at e
     ·rename_i n U;cases hb:(Nat.ble l' a&&Nat.ble a 2199023255552&&!(Nat.beq n 0)&&Nat.beq z.cells.length n&&mu P el a)with
      |false=>simp[hb]at e
      |true =>
       simp only[hb,ge]at e;simp only[abA]at hb;obtain⟨⟨⟨⟨A,B⟩,v⟩,K⟩,m⟩:=hb;have A:=aeb A;have B:=aeb B;have K:=abr K;have v:0<n:=by
        rcases ajx n with h0|h0
        ·subst h0;simp at v
        ·exact h0
       have m:i.bytes*a<=100000000000000:=by unfold mu at m;simp only[hi]at m;exact aeb m
       have o:=eL (j ρ);have E:zv.cells.toList.length=n:=by have:=bS o;omega
       have p:=By zv.cells.toList n E v a;have W:bd ρ (List.replicate a z.cells).flatten=some ((List.replicate a zv.cells.toList).flatten.toArray).toList:=by simpa using gZ o a
       have key:=sx (P:=P) h (elem:=el) W (len:=l') (sz:=n) (cap:=a) A v;simp only[bz,bw]at e key;cases e;have b:(Instr.makeSlice ty (rv tm l) (rv tm c)).run P w=(do pure (.slice (some (<- newRow el (List.replicate a zv.cells.toList).flatten.toArray)) l' a):Sem Value).run P w:=by
        have r:=cA U w;have L:=mi l' (by omega);have M:=mi a B;simp only[akA]at L M;have hA:∀ k n,(asInt (.int k n)).run P w=.ok n w:=fun k n=>by simp[asInt,asIntOf]
        have hrow2:Array.map (fun x=>zv.cells[x%zv.cells.size]!) (Array.range (a*n))=(List.replicate a zv.cells.toList).flatten.toArray:=by apply ajN.1;rw[<- p];simp[akJ]
        have u:(decide ((a:Int)<0)||decide ((i.bytes:Int)*(a:Int)>2 ^ 48))=false:=by
         have X:¬((a:Int)<0):=by omega
         have Y:¬((i.bytes:Int)*(a:Int)>2 ^ 48):=by have e:(i.bytes:Int)*(a:Int)=((i.bytes*a:Nat):Int):=(Int.natCast_mul _ _).symm;rw[e];generalize i.bytes*a=q at m;have:(2:Int) ^ 48=281474976710656:=rfl;omega
         rw[abz X,abz Y];rfl
        have F:decide ((l':Int)<0)=false:=by simp
        have G:decide ((l':Int)>(a:Int))=false:=by simp;omega
        have H:(typeInfo el).run P w=.ok i w:=by simp[typeInfo,hi]
        have I:=gi hi y w;simp only[Instr.makeSlice,afx,aG N,aeq,O,Q,hA,aiy,H,akA,L,M,run_askRoom,r,aiZ];rw[aeD (by rw[u,F,G];simp)];simp only[afx,run_askRoom,aeq,r];by_cases d:a*n=0
        ·rw[aeM d];have g:∀ f:Nat->Value,Array.map f (Array.range 0)=#[]:=fun f=>by simp
         simp only[afx,aiy,aeq,<- hrow2,d,g]
        ·rw[aeD d];simp only[afx,I,aeq,aiy,hrow2]
       simp only[afx]at b key ⊢;rw[b];simpa[newRow]using key
     ·cases e
    ·cases e
   ·cases e
  ·cases e
 ·cases e
def OA{v:V}{n:Nat}(h:qu v=some n):∃ k,v=.int k (.ofNat n):=by
 cases v<;>try(cases h;done)
 rename_i k m;cases m<;>cases h;exact⟨k,rfl⟩
def GQ(ρ:aN):Option V->Option Value->Prop
 |none,none=>True
 |some v,some y=>den ρ v=some y
 |_,_=>False
def pf(a:TR ρ t tm){x:Option Operand}{v:Option V}(h:lV t x=some v):GQ ρ v (x.map (rv tm)):=by
 cases x with
 |none=>cases h;trivial
 |some x =>
  simp only[lV]at h;split at h
  ·rename_i u b;cases h;exact aL a b
  ·cases h
def fP(k:IntKind)(n y:Nat)(c:BoundsCode)(h:n<=y):(Instr.sliceBound (.int k (.ofNat n)) y c).run P w=.ok n w:=by
 have:(0:Int)<=(n:Int)/\(n:Int)<=(y:Int):=by omega
 simp[Instr.sliceBound,asIntOf,h]
def iq{isS:Bool}{len cap m h b:Nat}{lo hi mx:Option V}{lo' a mx':Option Value}(f:GQ ρ lo lo')(i:GQ ρ hi a)(r:GQ ρ mx mx')
 (u:ft mx cap=some m) (j:ft hi len=some h) (g:ft lo 0=some b)
 (l3:m<=cap) (l2:h<=m) (l1:b<=h) (hm:mx.isSome=true->hi.isSome=true):(Instr.sliceBounds isS len cap lo' a mx').run P w=.ok (b,h,m) w:=by
 have key:∀(o:Option V) (o':Option Value) (n:Nat),GQ ρ o o'->∀ d:Nat,ft o d=some n->(o=none/\o'=none/\n=d)\/∃ k v,o=some v/\o'=some (.int k (.ofNat n)):=by
  intro o o' n hr d l;cases o with
  |none=>cases o' with
   |none=>exact .inl ⟨rfl,rfl,by cases l;rfl⟩
   |some _=>exact hr.elim
  |some v=>cases o' with
   |none=>exact hr.elim
   |some y =>obtain⟨k,rfl⟩:=OA l;simp only[GQ,den,abB]at hr;exact .inr ⟨k,_,rfl,by rw[<- hr]⟩
 rcases key mx mx' m r cap u with⟨rfl,rfl,rfl⟩|⟨p,v3,rfl,rfl⟩
 ·rcases key hi a h i len j with⟨rfl,rfl,rfl⟩|⟨c,x,rfl,rfl⟩
  ·rcases key lo lo' b f 0 g with⟨rfl,rfl,rfl⟩|⟨e,q,rfl,rfl⟩
   ·simp[Instr.sliceBounds]
   ·simp only[Instr.sliceBounds,afx,aiy,aeq,fP e b _ _ l1]
  ·rcases key lo lo' b f 0 g with⟨rfl,rfl,rfl⟩|⟨e,q,rfl,rfl⟩
   ·simp only[Instr.sliceBounds,afx,aiy,aeq,fP c h _ _ l2]
   ·simp only[Instr.sliceBounds,afx,aiy,aeq,fP c h _ _ l2,fP e b _ _ l1]
 ·rcases key hi a h i len j with⟨rfl,rfl,rfl⟩|⟨c,x,rfl,rfl⟩
  ·simp at hm
  ·rcases key lo lo' b f 0 g with⟨rfl,rfl,rfl⟩|⟨e,q,rfl,rfl⟩
   ·simp only[Instr.sliceBounds,afx,aiy,aeq,fP p m _ _ l3,fP c h _ _ l2]
   ·simp only[Instr.sliceBounds,afx,aiy,aeq,fP p m _ _ l3,fP c h _ _ l2,fP e b _ _ l1]
def lz(l:List Nat)(b h:Nat):(aK l).extract b h=aK ((l.drop b).take (h - b)):=by apply ByteArray.ext;apply ajN.1;simp[aK,ByteArray.data_extract,List.map_drop,ajQ,List.extract_eq_take_drop]
def Pm{l:Ch}{a:Ad}{sz b:Nat}(hsz:0<sz):(l.lim - (a.c+b*sz)) / sz=(l.lim - a.c) / sz - b:=by rw[<- Nat.sub_sub,Nat.mul_comm b sz,Nat.sub_mul_div]
def EM{ty:TypeId}{x:V}{X:Value}{lo hi mx:Option V}{lo' k mx':Option Value}{v:V}(j:den ρ x=some X)(J:GQ ρ lo lo')(K:GQ ρ hi k)(E:GQ ρ mx mx')
 (e:dP P ty x lo hi mx=some v):∃ y,den ρ v=some y/\(Instr.sliceAt ty X lo' k mx').run P w=.ok y w:=by
 unfold dP at e;split at e
 ·rename_i G;split at e
  ·rename_i l;cases mx' with
   |some _=>exact E.elim
   |none =>
   simp only at e;split at e
   ·rename_i b h hb p;cases hc:(Nat.ble h l.length&&Nat.ble b h)with
    |false=>simp[hc]at e
    |true =>
     simp only[hc,ge,abB]at e;simp only[abA]at hc;subst e;cases j;have Q:(aK l).size=l.length:=by simp[aK,ByteArray.size]
     have:=iq (P:=P) (w:=w) (isS:=false) (len:=l.length) (cap:=l.length) (m:=l.length) J K E rfl p hb (abD _) (aeb hc.1) (aeb hc.2) (by simp);exact⟨_,rfl,by simp[Instr.sliceAt,Instr.slice,aG G,Q,this,lz]⟩
   ·cases e
  ·cases e
 ·rename_i el G;split at e
  ·rename_i sz r;split at e
   ·
    cases j;cases hm:(mx.isSome&&!hi.isSome)with
    |true=>rw[hm]at e;cases e
    |false =>
     rw[hm]at e;simp only[TD]at e;cases hc:(cq (ft lo 0)&&cq (ft hi 0)&&cq (ft mx 0))with
     |false=>simp[hc]at e
     |true =>
      simp only[hc,ge,abB]at e;subst e;simp only[abA]at hc;have H:∀ o:Option Nat,cq o=true->o=some 0:=fun o ho=>by
       cases o with
       |none=>cases ho
       |some n=>rw[abr ho]
      have:=iq (P:=P) (w:=w) (isS:=true) (len:=0) (cap:=0) J K E (H _ hc.2) (H _ hc.1.2) (H _ hc.1.1) (abD _) (abD _) (abD _)
       (fun N=>by cases p:hi with|some _=>rfl|none=>simp[N,p]at hm)
      exact⟨_,rfl,by simp[Instr.sliceAt,Instr.slice,aG G,cA r,this]⟩
   ·
    rename_i a z len cap sz';cases f:(Nat.beq sz' 0||(Nat.beq len 0&&jv cap))with
    |true =>
     rw[f]at e;simp only[ge]at e;cases hc:((cq (ft lo 0)&&cq (ft hi 0)&&cq (ft mx 0))&&!(mx.isSome&&!hi.isSome))with
     |false=>rw[hc]at e;cases e
     |true =>
      rw[hc]at e;simp only[ge,abB]at e;subst e;simp only[abA]at hc;have H:∀ o:Option Nat,cq o=true->o=some 0:=fun o ho=>by
       cases o with
       |none=>cases ho
       |some n=>rw[abr ho]
      have Q:∃ q,X=.slice (some q) 0 0:=by
       simp only[den,ik]at j;split at j
       ·split at j
        ·cases j;exact⟨_,rfl⟩
        ·cases j
       ·rename_i u;simp only[ajD,abA]at f;rcases f with f|f
        ·exact(u (abr f)).elim
        ·obtain rfl:=abr f.1;obtain rfl:cap=some 0:=by
          cases cap with
          |none=>cases f.2
          |some c=>rw[abr f.2]
         split at j
         ·split at j
          ·cases j;exact⟨_,rfl⟩
          ·cases j
         ·cases j
      obtain⟨q,rfl⟩:=Q
      have:=iq (P:=P) (w:=w) (isS:=true) (len:=0) (cap:=0) J K E (H _ hc.1.2) (H _ hc.1.1.2) (H _ hc.1.1.1) (abD _) (abD _) (abD _)
       (fun N=>by cases p:hi with|some _=>rfl|none=>simp[N,p]at hc)
      exact⟨_,j,by simp[Instr.sliceAt,Instr.slice,aG G,cA r,this]⟩
    |false =>
    rw[f]at e;simp only[TD]at e;have f:=(ajC.1 f).1;obtain⟨l,L,Y,O,M,I,rfl⟩:=fO j (.inl (MD f));cases hm:(Nat.beq sz sz'&&!(mx.isSome&&!hi.isSome))with
    |false=>rw[hm]at e;cases e
    |true =>
     rw[hm]at e;simp only[ge]at e;simp only[abA]at hm;obtain rfl:=abr hm.1;have R:mx.isSome=true->hi.isSome=true:=fun N=>by cases p:hi with|some _=>rfl|none=>simp[N,p]at hm
     split at e
     ·rename_i b h hb p;split at e
      ·cases mx' with
       |some _=>exact E.elim
       |none =>
       split at e
       ·rename_i c;cases hc:(Nat.ble h c&&Nat.ble b h)with
        |false=>simp[hc]at e
        |true =>
         simp only[hc,ge]at e;simp only[abA]at hc;have c1:=aeb hc.1;have c2:=aeb hc.2;have g:=iq (P:=P) (w:=w) (isS:=true) (len:=len) (cap:=c) J K E rfl p hb (abD _) c1 c2 (by simp);have i:(Instr.sliceAt ty (.slice (some ⟨l.b,a.c - l.base,none⟩) len c) lo' k none).run P w=.ok (.slice (some (if c=b then⟨l.b,a.c - l.base,none⟩else(⟨l.b,a.c - l.base,none⟩:Addr).add (b*sz))) (h - b) (c - b)) w:=by simp only[Instr.sliceAt,Instr.slice,afx,aG G,aeq,g,cA r,aiy];split<;>simp
         cases d:Nat.beq c b with
         |true =>simp only[d,ge,abB]at e;subst e;obtain rfl:=abr d;refine⟨_,dO L O O (by show h - c<=0;omega) I,?_⟩;refine ake i ?_;rw[aeM rfl];simp[bC,cE]
         |false =>
          simp only[d,TD,abB]at e;subst e;have u:¬ c=b:=fun e=>by subst e;simp at d
          refine⟨_,dO (l:=l) L (by show l.base<=a.c+b*sz;omega) (by show l.base<=a.c+b*sz;omega) (by show h - b<=c - b;omega) I,?_⟩;refine ake i ?_;rw[aeD u,kz];simp only[bC,cE,cM];rw[show a.c+b*sz - l.base=a.c - l.base+b*sz by omega]
       ·cases hc:(Nat.ble h len&&Nat.ble b h)with
        |false=>simp[hc]at e
        |true =>
         simp only[hc,ge]at e;simp only[abA]at hc;have c1:=aeb hc.1;have c2:=aeb hc.2;have g:=iq (P:=P) (w:=w) (isS:=true) (len:=len) (cap:=cE l a none sz) J K E rfl p hb (abD _) (ajd c1 M) c2 (by simp);have i:∀ q:Addr,(Instr.sliceAt ty (.slice (some q) len (cE l a none sz)) lo' k none).run P w=.ok (.slice (some (if cE l a none sz=b then q else q.add (b*sz))) (h - b) (cE l a none sz - b)) w:=by intro q;simp only[Instr.sliceAt,Instr.slice,afx,aG G,aeq,g,cA r,aiy];split<;>simp
         cases d:Nat.beq b 0 with
         |true =>simp only[d,ge,abB]at e;subst e;obtain rfl:=abr d;refine⟨_,dO L Y O (ajd c1 M) I,?_⟩;rw[i];simp[kz]
         |false =>
          simp only[d,TD,abB]at e;subst e;have hb0:0<b:=akq fun e=>by subst e;simp at d
          have A:cE l (cM a (b*sz)) none sz=cE l a none sz - b:=Pm I;have B:bC l a z none sz=a.c:=eN (len:=len) M (by omega);have F:bC l (cM a (b*sz)) a.c none sz=if cE l a none sz=b then a.c else a.c+b*sz:=by
           show(if cE l (cM a (b*sz)) none sz=0 then a.c else a.c+b*sz)=_;rw[A];by_cases W:cE l a none sz=b
           ·rw[aeM W,aeM (by omega)]
           ·rw[aeD W,aeD (by omega)]
          refine⟨_,dO (l:=l) L (by rw[F];split<;>omega) (by show l.base<=a.c+b*sz;omega) (by rw[A];omega) I,?_⟩;rw[i,B,F,A];congr 4;split
          ·rfl
          ·rw[kz,show a.c+b*sz - l.base=a.c - l.base+b*sz by omega]
      ·rename_i mv;split at e
       ·rename_i m U;cases hc:(Nat.ble m len&&Nat.ble h m&&Nat.ble b h)with
        |false=>simp[hc]at e
        |true =>
         simp only[hc,ge]at e;simp only[abA]at hc;have c1:=aeb hc.1.1;have c2:=aeb hc.1.2;have c3:=aeb hc.2;have g:=iq (P:=P) (w:=w) (isS:=true) (len:=len) (cap:=cE l a cap sz) J K E U p hb (ajd c1 M) c2 c3 R;have i:∀ q:Addr,(Instr.sliceAt ty (.slice (some q) len (cE l a cap sz)) lo' k mx').run P w=.ok (.slice (some (if m=b then q else q.add (b*sz))) (h - b) (m - b)) w:=by intro q;simp only[Instr.sliceAt,Instr.slice,afx,aG G,aeq,g,cA r,aiy];split<;>simp
         cases d:Nat.beq m b with
         |true =>
          simp only[d,ge]at e;cases hk:(cap.isSome||Nat.blt 0 len||Nat.beq z a.c)with
          |false=>simp[hk]at e
          |true =>
           simp only[hk,ge,abB]at e;subst e;obtain rfl:=abr d;have B:bC l a z cap sz=a.c:=by
            simp only[ajD]at hk;rcases hk with(hk|hk)|hk
            ·cases cap with
             |some c=>rfl
             |none=>cases hk
            ·exact eN M (kw hk)
            ·obtain rfl:=abr hk;cases cap with
             |some c=>rfl
             |none=>simp[bC]
           refine⟨_,dO L O O (by show h - m<=0;omega) I,?_⟩;rw[i,aeM rfl,B];simp[bC,cE]
         |false =>
          simp only[d,TD,abB]at e;subst e;have u:¬ m=b:=fun e=>by subst e;simp at d
          have B:bC l a z cap sz=a.c:=eN M (by omega);refine⟨_,dO (l:=l) L (by show l.base<=a.c+b*sz;omega) (by show l.base<=a.c+b*sz;omega) (by show h - b<=m - b;omega) I,?_⟩;rw[i,aeD u,B,kz];simp only[bC,cE,cM];rw[show a.c+b*sz - l.base=a.c - l.base+b*sz by omega]
       ·cases e
     ·cases e
   ·cases e
  ·cases e
 ·cases e
def qE(h:HR ρ s w)(b:TR ρ t tm){ty:TypeId}{x:Operand}{lo hi mx:Option Operand}{nx:Nx}(e:bM s (yz P ty (eval t x) (lV t lo) (lV t hi) (lV t mx))=some nx) :
 BY P ρ w s nx ((do pure (Next.value (<- Instr.sliceAt ty (rv tm x) (lo.map (rv tm)) (hi.map (rv tm)) (mx.map (rv tm)))):Sem Next).run P w):=by
 refine bj h e fun v a=>?_;unfold yz at a;split at a
 ·rename_i x' g;split at a
  ·rename_i lo' c;split at a
   ·rename_i hi' d;split at a
    ·rename_i mx' f;exact EM (aL b g) (pf b c) (pf b d) (pf b f) a
    ·cases a
   ·cases a
  ·cases a
 ·cases a
end ops
section ops
variable{P:Program}{ρ:aN}{s:S}{w:World}{t:T V}{tm:Array Value}
def Lt(ρ:aN):List (Nat×V)->List (Nat×Value)->Prop
 |[],[]=>True
 |(i,v)::r,(j,y)::q=>i=j/\den ρ v=some y/\Lt ρ r q
 |_,_=>False
def jH(b:TR ρ t tm):∀ {l:List (Nat×Operand)} {vs:List (Nat×V)},eI t l=some vs->Lt ρ vs (l.map fun(i,x)=>(i,rv tm x))
 |[],vs,h=>by cases h;trivial
 |(i,x)::r,vs,h=>by
  simp only[eI]at h;cases a:eval t x with
  |none=>simp[a]at h
  |some v =>
   cases hr:eI t r with
   |none=>simp[a,hr]at h
   |some q =>simp only[a,hr]at h;cases h;exact⟨rfl,aL b a,jH b hr⟩
def DS(off:Nat):∀(vs:List Value) (k:Nat) (c:Array Value),off+k+vs.length<=c.size ->
 ((vs.zipIdx k).foldl (fun cs x=>cs.setIfInBounds (off+x.2) x.1) c).size=c.size /\
 ∀ j,((vs.zipIdx k).foldl (fun cs x=>cs.setIfInBounds (off+x.2) x.1) c)[j]? = if off+k<=j/\j<off+k+vs.length then vs[j - (off+k)]? else c[j]?
 |[],k,c,_=>⟨rfl,fun j=>by rw[aeD (by simp)];rfl⟩
 |v::r,k,c,h=>by
  simp only[aeJ]at h;simp only[List.zipIdx_cons,akI];obtain⟨d,e⟩:=DS off r (k+1) (c.setIfInBounds (off+k) v) (by simp;omega);refine⟨by simpa using d,fun j=>?_⟩;rw[e j];by_cases b:off+(k+1)<=j/\j<off+(k+1)+r.length
  ·rw[aeM b,aeM (by simp;omega)];have:j - (off+k)=(j - (off+(k+1)))+1:=by omega
   rw[this];simp
  ·rw[aeD b];by_cases a:j=off+k
   ·subst a;rw[aeM (by simp)];simp[show off+k<c.size by omega]
   ·rw[aeD (by simp;omega)];simp[akX a]
def kf{placeV place:Nat->Option (Nat×Nat)}(hp:∀ i x,placeV i=some x->place i=some x):∀ {parts:List (Nat×V)} {parts':List (Nat×Value)} {cs out:List V} {ys:Array Value},
 Lt ρ parts parts'->bd ρ cs=some ys.toList->qD placeV cs parts=some out->∃ zs:Array Value,Instr.fill place ys parts'=some zs/\bd ρ out=some zs.toList
 |[],[],cs,out,ys,_,l,h=>by cases h;exact⟨ys,rfl,l⟩
 |(i,v)::r,(j,y)::q,cs,out,ys,⟨o,G,hr⟩,l,h=>by
  subst o;simp only[qD]at h;split at h
  ·cases h
  ·rename_i off n p;cases hb:(Nat.beq v.cells.length n&&Nat.blt 0 n)with
   |false=>rw[hb]at h;cases h
   |true =>
    rw[hb]at h;simp only[ge]at h;simp only[abA]at hb;obtain rfl:=abr hb.1;have a:=kw hb.2;cases ho:cC cs off v.cells with
    |none=>simp[ho]at h
    |some cs' =>
     simp only[ho,ako]at h;obtain⟨I,m,J⟩:=gO ho;have e:=nj G;have b:=bS l;rw[ajm]at b;have u:=eL G;let f:Array Value:=(y.cells.toList.zipIdx 0).foldl (fun cs x=>cs.setIfInBounds (off+x.2) x.1) ys
     have A:f=y.cells.zipIdx.foldl (fun cs (c,j)=>cs.setIfInBounds (off+j) c) ys:=by show List.foldl _ _ _=_;rw[<- Array.foldl_toList,Array.toList_zipIdx]
     have hroom:off+0+y.cells.toList.length<=ys.size:=by
      rcases m with m|m
      ·rw[m]at a;simp at a
      ·rw[ajm];omega
     obtain⟨K,L⟩:=DS off y.cells.toList 0 ys hroom;have B:f.toList.length=ys.size:=(ajm (xs:=f)).trans K;have E:bd ρ cs'=some f.toList:=by
      refine kZ (by rw[I,B,b]) fun i x g=>?_;rw[J i]at g;rw[aiB,show f[i]? = _ from L i];have hyl:y.cells.toList.length=v.cells.length:=by rw[ajm,e]
      by_cases H:off<=i/\i<off+v.cells.length
      ·rw[aeM H]at g;rw[aeM (by omega)];obtain⟨z,k,d⟩:=eM _ u g;exact⟨z,k,by simpa using d⟩
      ·rw[aeD H]at g;rw[aeD (by omega)];obtain⟨z,k,d⟩:=eM _ l g;exact⟨z,k,by rw[<- d,aiB]⟩
     obtain⟨zs,k,F⟩:=kf hp hr E h;refine⟨zs,?_,F⟩;simp only[Instr.fill,hp _ _ p];rw[ajm]at hroom;rw[aeD (by simp[e];omega),<- A];exact k
 |[],_::_,_,_,_,h,_,_=>h.elim
 |_::_,[],_,_,_,h,_,_=>h.elim
def zT:∀ {fs:List Field},fs.all (fun f=>(size P f.type).isSome)=true ->
 ∃ places,fs.mapM (fun f=>(P.info? f.type).map fun i=>(f.offset,i.size))=some places/\∀(i:Nat) (f:Field) (n:Nat),fs[i]? = some f->size P f.type=some n->places[i]? = some (f.offset,n)
 |[],_=>⟨[],rfl,fun i f n h=>by simp at h⟩
 |f::r,h=>by
  simp only[ajb,abA]at h;obtain⟨q,c,d⟩:=zT h.2;obtain⟨n,b⟩:=Option.isSome_iff_exists.1 h.1;obtain⟨i,hi,rfl⟩:=tX b;refine⟨(f.offset,i.size)::q,by simp[List.mapM_cons,hi,c],fun j g m a hm=>?_⟩;cases j with
  |zero=>simp at a;subst a;rw[b]at hm;cases hm;rfl
  |succ j=>simp at a;simpa using d j g m a hm
def BS{x:Option (List V)}{v:V}(h:Jr x=some v):∃ l,x=some l/\v=.agg l:=by
 cases x with
 |none=>cases h
 |some l=>cases h;exact⟨l,rfl,rfl⟩
def qH(h:HR ρ s w)(u:TR ρ t tm){ty:TypeId}{parts:Array (Nat×Operand)}{nx:Nx}(e:bM s (pR P ty (eI t parts.toList))=some nx) :
 BY P ρ w s nx ((do pure (Next.value (<- Instr.build ty (parts.map fun(i,x)=>(i,rv tm x)))):Sem Next).run P w):=by
 refine bj h e fun v a=>?_;unfold pR at a;split at a
 ·rename_i z y;obtain⟨zv,it,hi,g,j⟩:=ff y;have k:=eL (j ρ);split at a
  ·rename_i l hl;have hp:=jH u hl;have o:(parts.toList.map fun(i,x)=>(i,rv tm x))=(parts.map fun(i,x)=>(i,rv tm x)).toList:=by simp
   rw[o]at hp;split at a
   ·rename_i fs p;cases q:fs.toList.all (fun f=>(size P f.type).isSome)with
    |false=>rw[q]at a;cases a
    |true =>
     rw[q]at a;simp only[ge]at a;obtain⟨out,ho,rfl⟩:=BS a;obtain⟨places,A,B⟩:=zT q
     obtain⟨zs,c,d⟩:=kf (place:=(places.toArray[·]?)) (fun i x b=>by
      unfold oX at b;split at b
      ·rename_i f E;split at b
       ·rename_i n F;cases b;simpa using B i f n (by simpa using E) F
       ·cases b
      ·cases b) hp k ho
     refine⟨.agg zs,by simp only[den,d],run_build w ty _ zs ?_⟩;simp only[Program.built,hi,p,g,A,c]
   ·rename_i n el p;split at a
    ·rename_i m hm;obtain⟨ie,r,rfl⟩:=tX hm;obtain⟨out,ho,rfl⟩:=BS a;obtain⟨zs,c,d⟩:=kf (place:=fun i=>some (i*ie.size,ie.size)) (fun i x b=>b) hp k ho;refine⟨.agg zs,by simp only[den,d],run_build w ty _ zs ?_⟩;simp only[Program.built,hi,p,g,r,c]
    ·cases a
   ·cases a
  ·cases a
 ·cases a
def rA(h:HR ρ s w)(v:TR ρ t tm){ty:TypeId}{len:Nat}{parts:Array (Nat×Operand)}{nx:Nx}(e:cL P s ty len (eI t parts.toList)=some nx) :
 GR P ρ w nx ((do pure (Next.value (<- Instr.buildSlice ty len (parts.map fun(i,x)=>(i,rv tm x)))):Sem Next).run P w):=by
 unfold cL at e;split at e
 ·rename_i el y;split at e
  ·rename_i l hl;have hp:=jH v hl;have m:(parts.toList.map fun(i,x)=>(i,rv tm x))=(parts.map fun(i,x)=>(i,rv tm x)).toList:=by simp
   rw[m]at hp;split at e
   ·rename_i z A;obtain⟨zv,it,hi,o,d⟩:=ff A;have j:=eL (d ρ);split at e
    ·rename_i n B;cases hb:(Nat.ble (len*n) 10000&&!(Nat.beq n 0)&&Nat.beq z.cells.length n)with
     |false=>rw[hb]at e;cases e
     |true =>
      rw[hb]at e;simp only[ge]at e;simp only[abA]at hb;have b1:=aeb hb.1.1;have u:0<n:=by
       rcases ajx n with h0|h0
       ·subst h0;simp at hb
       ·exact h0
      have b3:=abr hb.2;unfold lH at e;split at e
      ·rename_i cs p;have q:zv.cells.toList.length=n:=by have:=bS j;omega
       have k:=By zv.cells.toList n q u len;have E:bd ρ (List.replicate len z.cells).flatten=some ((List.replicate len zv.cells.toList).flatten.toArray).toList:=by simpa using gZ j len
       obtain⟨zs,c,r⟩:=kf (place:=fun i=>some (i*n,n)) (fun i x F=>F) hp E p;have key:=sx (P:=P) h (elem:=el) r (len:=len) (sz:=n) (cap:=len) (abD _) u;simp only[bz,bw]at e key;cases e;have hrow2:Array.map (fun x=>zv.cells[x%zv.cells.size]!) (Array.range (len*n))=(List.replicate len zv.cells.toList).flatten.toArray:=by apply ajN.1;rw[<- k];simp[akJ]
       have b:(Instr.buildSlice ty len (parts.map fun(i,x)=>(i,rv tm x))).run P w=(do pure (.slice (some (<- newRow el zs)) len len):Sem Value).run P w:=by
        simp only[Instr.buildSlice,afx,aG y,aeq,cA B];rw[aeD (by omega)];by_cases a:len*n=0
        ·rw[aeM a];have g:∀ f:Nat->Value,Array.map f (Array.range 0)=#[]:=fun f=>by simp
         rw[<- hrow2,a,g]at c;simp only[afx,aiy,aeq,a,g,c]
        ·rw[aeD a];simp only[afx,gi hi o,aeq,aiy,hrow2,c]
       simp only[afx]at b key ⊢;rw[b];simpa[newRow]using key
      ·cases e
    ·cases e
   ·cases e
  ·cases e
 ·cases e
end ops
end Go.AI
