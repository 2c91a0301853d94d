/- Deep values: an evaluator over what rows hold, and that it is sound: part 7. No conditions beyond those of the row. -/
import Derived.Test.YtpghiabjaglpgaaGreatDoorD6
set_option linter.all false
noncomputable section
namespace Go.AI
variable{R:aE}{P:Program}{H H':DH}{κ:D->ai}
theorem ev{E:cD}{n:Nat}{j:zP}{x y:ai}(h:br E (ab E) n j H=x)(k:x=y):ab E j H=y:=by rw[<- k,<- h,CP]
theorem bg{E:cD}{n f key:Nat}{xs:List LD}{L:LS}{x y:ai}(h:aQ E (ab E) n f key xs L H=x)(k:x=y):ao E (ab E) f key xs L H=y:=by rw[<- k,<- h,QS]
theorem af{f:FuncId}{args:List D}{d:D}{k:D->DH->ai}(h:R (.call f args none) H=ret d H'):C R f args H k=k d H':=by rw[C,h];rfl
theorem au(q:Bool)(a b:ai):brD (.bool q) a b=cond q a b:=rfl
theorem aI(n:Nat){κ:Nat->ai}:bv (n:Int) κ=κ n:=rfl
theorem ak{l:List (List D)}{i:Nat}{cs:List D}{κ:List D->ai}(h:l[i]? = some cs):bC l i κ=κ cs:=by rw[bC,h]
theorem am(a:D)(l:List D):ah (a::l) 0 κ=κ a:=rfl
theorem ax(a:D)(l:List D)(n:Nat):ah (a::l) (n+1) κ=ah l n κ:=rfl
theorem bp(b:Bool):jR .not (.bool b) κ=κ (.bool !b):=rfl
theorem ig(l:List D)(i:Nat):fx (.tuple l) i κ=ah l i κ:=rfl
theorem cg(t:TypeId)(c:Bool)(a b:Int):aC P .add t c (.int .i64 a) (.int .i64 b) κ=κ (.int .i64 (IntKind.wrap .i64 (a+b))):=rfl
theorem nY(t:TypeId)(c:Bool)(a b:Int):aC P .sub t c (.int .i64 a) (.int .i64 b) κ=κ (.int .i64 (IntKind.wrap .i64 (a - b))):=rfl
theorem bL(t:TypeId)(c:Bool)(k:IntKind)(a b:Int):aC P .eql t c (.int k a) (.int k b) κ=κ (.bool (a==b)):=by cases k<;>rfl
theorem dj(t:TypeId)(c:Bool)(k:IntKind)(a b:Int):aC P .neq t c (.int k a) (.int k b) κ=κ (.bool (a != b)):=by cases k<;>rfl
theorem bV(t:TypeId)(c:Bool)(k:IntKind)(a b:Int):aC P .lss t c (.int k a) (.int k b) κ=κ (.bool (decide (a<b))):=by cases k<;>rfl
theorem RT(t:TypeId)(c:Bool)(k:IntKind)(a b:Int):aC P .leq t c (.int k a) (.int k b) κ=κ (.bool (decide (a<=b))):=by cases k<;>rfl
theorem rj(t:TypeId)(c:Bool)(k:IntKind)(a b:Int):aC P .gtr t c (.int k a) (.int k b) κ=κ (.bool (decide (a>b))):=by cases k<;>rfl
theorem eY(t:TypeId)(c:Bool)(k:IntKind)(a b:Int):aC P .geq t c (.int k a) (.int k b) κ=κ (.bool (decide (a>=b))):=by cases k<;>rfl
theorem nu(t:TypeId)(c:Bool)(a b:List Nat):aC P .eql t c (.str a) (.str b) κ=κ (.bool (a==b)):=rfl
theorem OW(t:TypeId)(c:Bool)(a b:List Nat):aC P .neq t c (.str a) (.str b) κ=κ (.bool !(a==b)):=rfl
theorem mF(g:Bool)(x:D):gO g x [] κ=κ x:=rfl
theorem tu(k:IntKind)(a b:Int)(l:List D):gO true (.int k a) (.int k b::l) κ=gO true (.int k (max a b)) l κ:=by
 have h:(bif decide (b>a)then b else a)=max a b:=by
  cases h:decide (b>a)<;>simp at h ⊢<;>omega
 have h2:cP k k=true:=by cases k<;>rfl
 show Ha true (.int k a) (.int k b) _=_
 simp only[Ha,h2,cond_true,h]
theorem cp(q a b:Bool)(H:DH):cond q (ret (.bool a) H) (ret (.bool b) H)=ret (.bool (cond q a b)) H:=by cases q<;>rfl
theorem rJ{n:Int}(h1:-9223372036854775808<=n)(h2:n<=9223372036854775807):IntKind.wrap .i64 n=n:=HY n ⟨h1,h2⟩
theorem aq{n:Nat}(h:n<2^62):IntKind.wrap .i64 ((n:Int)+1)=((n+1:Nat):Int):=by rw[rJ]<;>omega
theorem eH{E:cU}{g:FuncId}{a b:List D}{κ:FuncId->List D->List D->ai}(h:aT E g=true):lw E (.func g a b) κ=κ g a b:=by rw[lw,h];rfl
theorem kL(b:Bool)(H X:DH):aZ H (ret (.bool b) (H++X))=ret (.bool b) H:=by
 have h:nD H ⟨.ret (.bool b),none,H++X⟩:=⟨by simp[Dv.bel,D.bel],rfl,by simp,fun i x hi hx=>.inl (by rwa [List.getElem?_append_left hi]at hx)⟩
 simp only[aZ,ret]
 rw[if_pos h]
 simp
theorem ac{o st:Nat}{cs:List D}{κ:Nat->List D->ai}(h:H[o]? = some (.cells st cs)):aA H o κ=κ st cs:=by rw[aA,h]
theorem cq{o sz:Nat}{st cap:Bool}{l:List (List D)}{κ:Nat->Bool->Bool->List (List D)->ai}(h:H[o]? = some (.buf sz st cap l)):eD H o l.length κ=κ sz st cap l:=by rw[eD,h];simp[Nat.beq_refl]
theorem uE{r:List DH}{o st:Nat}{cs:List D}(h:H[o]? = some (.cells st cs))(hr:∀ H2∈r,H2[o]? = some (.cells st cs)):(eW H r)[o]? = some (.cells st cs):=by
 rw[eW,@CZ ⟨fun _=>True,[],fun _ _ _ h=>h⟩,h,Nat.zero_add]
 show some (AF r o (.cells st cs))=_
 rw[AF,if_pos hr]
theorem nL{o:Nat}{es:List (D×D)}{κ:List (D×D)->ai}(h:H[o]? = some (.map es)):qz H o κ=κ es:=by rw[qz,h]
theorem aY(H:DH)(x:DB):(H++[x])[H.length]? = some x:=by simp
theorem aj{H:DH}{o:Nat}{b:DB}(x:DB)(h:H[o]? = some b):(H++[x])[o]? = some b:=by
 rw[List.getElem?_append_left]
 ·exact h
 ·rcases Nat.lt_or_ge o H.length with q|q
  ·exact q
  ·rw[List.getElem?_eq_none q]at h;cases h
theorem be{H:DH}{o:Nat}{b:DB}(x:DB)(h:H[o]? = some b):(H.set o x)[o]? = some x:=by
 rw[List.getElem?_set_self]
 rcases Nat.lt_or_ge o H.length with q|q
 ·exact q
 ·rw[List.getElem?_eq_none q]at h;cases h
theorem ae{H:DH}{o o':Nat}{b:DB}(x:DB)(hn:o≠o')(h:H[o']? = some b):(H.set o x)[o']? = some b:=by rw[List.getElem?_set_ne hn];exact h
end Go.AI
