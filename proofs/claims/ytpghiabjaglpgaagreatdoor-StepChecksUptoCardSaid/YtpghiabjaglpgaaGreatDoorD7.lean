/- Lemmas. No conditions. -/
import Derived.Test.YtpghiabjaglpgaaGreatDoorD6
set_option linter.all false
noncomputable section
namespace Go.AI
abbrev D.i(n:Int):D:=.int .i64 n
abbrev LD.n(n:Int):LD:=.g (.int .i64 n)
abbrev aR:=List (List D)
abbrev af:=List Nat
abbrev cQ(o:Nat):DB:=.cells 0 [.ptr o 0]
abbrev iw(n:Int):DB:=.cells 0 [.i n]
abbrev bD(n:Int):Int:=IntKind.wrap .i64 n
variable{R:aI}{P:Program}{H H':DH}{κ:D->au}
def ev{E:dl}{n:Nat}{j:CO}{x y:au}(h:PY E (eP E) n j H=x)(k:x=y):eP E j H=y:=by rw[<- k,<- h,Ge]
def aZ{E:dl}{n f key:Nat}{xs:List LD}{L:LS}{x y:au}(h:VN E (eP E) n f key xs L H=x)(k:x=y):jmp E (eP E) f key xs L H=y:=by rw[<- k,<- h,VM]
def ai{f:FuncId}{args:List D}{d:D}{k:D->DH->au}(h:R (.call f args none) H=ret d H'):C R f args H k=k d H':=by rw[C,h];rfl
def aq(q:Bool)(a b:au):brD (.bool q) a b=cond q a b:=rfl
def aO(n:Nat){κ:Nat->au}:bk (n:Int) κ=κ n:=rfl
def aB{l:List (List D)}{i:Nat}{cs:List D}{κ:List D->au}(h:l[i]? = some cs):ba l i κ=κ cs:=by rw[ba,h]
def ao(a:D)(l:List D):ah (a::l) 0 κ=κ a:=rfl
def ax(a:D)(l:List D)(n:Nat):ah (a::l) (n+1) κ=ah l n κ:=rfl
def aH(b:Bool):eA .not (.bool b) κ=κ (.bool !b):=rfl
def gb(l:List D)(i:Nat):dU (.tuple l) i κ=ah l i κ:=rfl
def bH(t:TypeId)(c:Bool)(a b:Int):aw P .add t c (.int .i64 a) (.int .i64 b) κ=κ (.int .i64 (bD (a+b))):=rfl
def nz(t:TypeId)(c:Bool)(a b:Int):aw P .sub t c (.int .i64 a) (.int .i64 b) κ=κ (.int .i64 (bD (a - b))):=rfl
def aT(t:TypeId)(c:Bool)(k:IntKind)(a b:Int):aw P .eql t c (.int k a) (.int k b) κ=κ (.bool (a==b)):=by cases k<;>rfl
def dX(t:TypeId)(c:Bool)(k:IntKind)(a b:Int):aw P .neq t c (.int k a) (.int k b) κ=κ (.bool (a != b)):=by cases k<;>rfl
def aS(t:TypeId)(c:Bool)(k:IntKind)(a b:Int):aw P .lss t c (.int k a) (.int k b) κ=κ (.bool (decide (a<b))):=by cases k<;>rfl
def tB(t:TypeId)(c:Bool)(k:IntKind)(a b:Int):aw P .leq t c (.int k a) (.int k b) κ=κ (.bool (decide (a<=b))):=by cases k<;>rfl
def ef(t:TypeId)(c:Bool)(k:IntKind)(a b:Int):aw P .gtr t c (.int k a) (.int k b) κ=κ (.bool (decide (a>b))):=by cases k<;>rfl
def cX(t:TypeId)(c:Bool)(k:IntKind)(a b:Int):aw P .geq t c (.int k a) (.int k b) κ=κ (.bool (decide (a>=b))):=by cases k<;>rfl
def cF(t:TypeId)(c:Bool)(a b:List Nat):aw P .eql t c (.str a) (.str b) κ=κ (.bool (a==b)):=rfl
def iX(t:TypeId)(c:Bool)(a b:List Nat):aw P .neq t c (.str a) (.str b) κ=κ (.bool !(a==b)):=rfl
def oJ(g:Bool)(x:D):iN g x [] κ=κ x:=rfl
def vz(k:IntKind)(a b:Int)(l:List D):iN true (.int k a) (.int k b::l) κ=iN true (.int k (max a b)) l κ:=by
 have h:(bif decide (b>a)then b else a)=max a b:=by cases h:decide (b>a)<;>simp at h ⊢<;>omega
 have c:dC k k=true:=by cases k<;>rfl
 show Kw true (.int k a) (.int k b) _=_;simp only[Kw,c,ge,h]
def bg(q a b:Bool)(H:DH):cond q (ret (.bool a) H) (ret (.bool b) H)=ret (.bool (cond q a b)) H:=by cases q<;>rfl
def jf{n:Int}(a:-9223372036854775808<=n)(b:n<=9223372036854775807):bD n=n:=Ly n ⟨a,b⟩
def aA{n:Nat}(h:n<2^62):bD ((n:Int)+1)=((n+1:Nat):Int):=by rw[jf]<;>omega
def eG{E:dL}{g:FuncId}{a b:List D}{κ:FuncId->List D->List D->au}(h:aW E g=true):kH E (.func g a b) κ=κ g a b:=by rw[kH,h];rfl
def xZ(b:Bool)(H X:DH):aX H (ret (.bool b) (H++X))=ret (.bool b) H:=by have h:pB H ⟨.ret (.bool b),none,H++X⟩:=⟨by simp[GP.bel,D.bel],rfl,by simp,fun i x hi a=>.inl (by rwa [aeN hi]at a)⟩;simp only[aX,ret];rw[aeM h];simp
def ae{o st:Nat}{cs:List D}{κ:Nat->List D->au}(h:H[o]? = some (.cells st cs)):az H o κ=κ st cs:=by rw[az,h]
def du{o sz:Nat}{st cap:Bool}{l:List (List D)}{κ:Nat->Bool->Bool->List (List D)->au}(h:H[o]? = some (.buf sz st cap l)):ew H o l.length κ=κ sz st cap l:=by rw[ew,h];simp[aiw]
def xo{r:List DH}{o st:Nat}{cs:List D}(h:H[o]? = some (.cells st cs))(hr:∀ a∈r,a[o]? = some (.cells st cs)):(fX H r)[o]? = some (.cells st cs):=by rw[fX,@Gs ⟨fun _=>True,[],fun _ _ _ h=>h⟩,h,aiv];show some (DD r o (.cells st cs))=_;rw[DD,aeM hr]
def lO{o:Nat}{es:List (D×D)}{κ:List (D×D)->au}(h:H[o]? = some (.map es)):qX H o κ=κ es:=by rw[qX,h]
def bt(H:DH)(x:DB):(H++[x])[H.length]? = some x:=by simp
def aC{H:DH}{o:Nat}{b:DB}(x:DB)(h:H[o]? = some b):(H++[x])[o]? = some b:=by
 rw[aeN]
 ·exact h
 ·rcases aiA o H.length with q|q
  ·exact q
  ·rw[aeF q]at h;cases h
def bJ{H:DH}{o:Nat}{b:DB}(x:DB)(h:H[o]? = some b):(H.set o x)[o]? = some x:=by
 rw[ajT];rcases aiA o H.length with q|q
 ·exact q
 ·rw[aeF q]at h;cases h
def ak{H:DH}{o o':Nat}{b:DB}(x:DB)(a:o≠o')(h:H[o']? = some b):(H.set o x)[o']? = some b:=by rw[aiY a];exact h
end Go.AI
