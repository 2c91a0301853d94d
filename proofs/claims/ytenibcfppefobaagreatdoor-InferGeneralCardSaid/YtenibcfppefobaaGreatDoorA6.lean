/- Evaluators by which runs of the program are reckoned, that they are sound, and what the functions answer: part 6. No conditions beyond those of the row. -/
import Derived.Test.YtenibcfppefobaaGreatDoorA5
import Derived.Test.YtenibcfppefobaaGreatDoorCards
import Derived.Test.YtenibcfppefobaaGreatDoorTie
import Derived.WalkKit
import Derived.ProofKit
import Derived.Lay
import Derived.Deep.DeepHandedRow
set_option linter.all false
noncomputable section
set_option linter.all false
noncomputable section
namespace Go.Proofs.YtenibcfppefobaaGreatDoor
open Go.AI
def rq(kind:af->Int)(bs:List (af×Ty))(t:Ty):af×D×Int :=
 if bh kind t=0 then([],.nilrow,32)else if km kind bs=false then([],.nilrow,1)else if bh kind (sub (aK bs) t)=0 then([],.nilrow,39)else match sub (aK bs) t with
  |.mk n xs=>(n,.row 2 (aJ xs),0)
theorem Fq{kind:af->Int}(K:Dy kind)(h0:∀ d k,mD kind d (.mk [] []) k=none)(bs:List (af×Ty))(n:af)(xs:List Ty)(H:DH)(hbs:∀ q∈bs,q.2.ok)(hok:(Ty.mk n xs).ok):∃ H',aD 9 [.row 3 (bs.map fy),.agg [.str n,.row 2 (aJ xs)]] H=ret (.tuple [.agg [.str (rq kind bs (.mk n xs)).1,(rq kind bs (.mk n xs)).2.1],.i (rq kind bs (.mk n xs)).2.2]) H':=by
 obtain⟨H',ds,e,r1,_,r3⟩:=Ll K h0 bs (.mk n xs) H hbs hok
 simp only[cw]at r1
 refine⟨H',?_⟩
 rw[r1]
 unfold rq
 rcases r3 with⟨a,rfl,rfl⟩|⟨a,⟨b,rfl,rfl⟩|⟨b,c,rfl,rfl⟩|⟨b,c,rfl,rfl⟩⟩
 ·rw[if_pos a]
 ·rw[if_neg a,if_pos b]
 ·rw[if_neg a,if_neg (by rw[b];simp),if_pos c]
 ·rw[if_neg a,if_neg (by rw[b];simp),if_neg c]
  cases sub (aK bs) (.mk n xs)
  simp only[cw]
structure Bu(kind:af->Int)(bs:List (af×Ty))(t:Ty):Prop where
 sz:bh kind t≠0
 good:km kind bs=true
 out:bh kind (sub (aK bs) t)≠0
theorem Ou{kind:af->Int}{bs:List (af×Ty)}{t:Ty}(h:(rq kind bs t).2.2=0):Bu kind bs t:=by
 unfold rq at h
 split at h
 ·cases h
 ·rename_i a
  split at h
  ·cases h
  ·rename_i b
   split at h
   ·cases h
   ·rename_i c
    exact⟨a,by simpa using b,c⟩
theorem Lo{kind:af->Int}{bs:List (af×Ty)}{t:Ty}(h:bh kind t≠0)(g:km kind bs=true):(rq kind bs t).2.2=39\/((rq kind bs t).2.2=0/\bh kind (sub (aK bs) t)≠0):=by
 unfold rq
 rw[if_neg h,if_neg (by rw[g];simp)]
 split
 ·exact .inl rfl
 ·rename_i q
  exact .inr ⟨by split;rfl,q⟩
theorem Bu.eq{kind:af->Int}{bs:List (af×Ty)}{t:Ty}(h:Bu kind bs t){n:af}{xs:List Ty}(e:sub (aK bs) t=.mk n xs):rq kind bs t=(n,.row 2 (aJ xs),0):=by
 unfold rq
 rw[if_neg h.sz,if_neg (by rw[h.good];simp),if_neg h.out,e]
theorem Lp{kind:af->Int}:∀ {bs done:List (af×Ty)},DC kind done bs=true->∀ q∈bs,(kind q.1==4)=true
 |[],_,_,q,hq=>nomatch hq
 |(n,t)::r,done,h,q,hq=>by
  simp only[DC,Bool.and_eq_true]at h
  rcases List.mem_cons.1 hq with rfl|hq
  ·exact h.1.1.2
  ·exact Lp h.2 q hq
theorem Cf{s:af}{x:Ty}:∀ {es:List (af×Ty)},aK es s=some x->∃ p∈es,p.1=s
 |(n,t)::r,h=>by
  unfold aK at h
  split at h
  ·rename_i q;exact⟨(n,t),List.mem_cons_self,q.symm⟩
  ·obtain⟨p,a,b⟩:=Cf h
   exact⟨p,List.mem_cons_of_mem _ a,b⟩
theorem GE{kind:af->Int}{bs:List (af×Ty)}(h:km kind bs=true):Vs (fun n=>kind n==4) (aK bs):=fun n t e=>by
 obtain⟨p,a,rfl⟩:=Cf e
 rw[km,Bool.and_eq_true]at h
 exact Lp h.2 p a
theorem po(a b:Int)(κ:D->ag):aB ab .neq 28 true (.i a) (.i b) κ=κ (.bool (a != b)):=by kernel_rfl
theorem sw(a b:Int)(κ:D->ag):aB ab .eql 28 true (.i a) (.i b) κ=κ (.bool (a==b)):=by kernel_rfl
theorem Ju(H:DH):aD 6 [] H=ret (.bool true) H:=by show ed de (.call 6 [] none) H=_;rw[EZ];rfl
def Nc(all:List Ty)(obs:List (af×Ty))(v7:D)(v8:Int)(v9:Bool)(H:DH):ag:=cond (v8 != 0) (cond (!v9) (ret (.bool true) H) (ret (.bool (v8==39)) H)) (ae ai 3 200024 [.g (.row 2 (aJ all)),.g (.row 3 (obs.map fy)),.g v7,.g (.bool v9),.n 0] [] H)
theorem Ob{all:List Ty}{t:Ty}(h:t∈all):all[0]? = some (rp all 0):=by
 cases all with
 |nil=>cases h
 |cons x r=>rfl
theorem nw{all:List Ty}(h:Ty.oks all):∀ t∈all,t.ok:=by
 induction all with
 |nil=>intro t h;cases h
 |cons x r ih =>
  intro t ht
  rcases List.mem_cons.1 ht with rfl|ht
  ·exact h.1
  ·exact ih h.2 t ht
variable{kind:af->Int}(K:Dy kind)(h0:∀ d k,mD kind d (.mk [] []) k=none){all:List Ty}{obs:List (af×Ty)}(h62:all.length<2^62)(hok:Ty.oks all)(hobs:∀ q∈obs,q.2.ok)
include K h0 h62 hok hobs
theorem As(v7:D)(v8:Int):∀(l pre:List Ty) (H:DH) (v9:Bool),all=pre++l ->
 ∃ H',ae ai 3 200014 [.g (.row 2 (aJ all)),.g (.row 3 (obs.map fy)),.g v7,.n v8,.g (.bool v9),.n (pre.length:Nat)] [] H=ret (.bool true) H'\/((∀ t∈l,Bu kind obs t)/\ae ai 3 200014 [.g (.row 2 (aJ all)),.g (.row 3 (obs.map fy)),.g v7,.n v8,.g (.bool v9),.n (pre.length:Nat)] [] H=Nc all obs v7 v8 (v9&&l.all fun t=>pE (sub (aK obs) t) (sub (aK obs) (rp all 0))) H')
 |[],pre,H,v9,e=>by
  have hlt:decide ((pre.length:Int)<((aJ all).length:Int))=false:=by rw[bH,e];simp
  refine⟨H,.inr ⟨fun _ h=>(nomatch h),eL (yZ) ?_⟩⟩
  rw[hlt,cond_false,List.all_nil,Bool.and_true]
  rfl
 |t::l,pre,H,v9,e=>by
  have hlt:decide ((pre.length:Int)<((aJ all).length:Int))=true:=by rw[bH,e];simp;omega
  have hw2:eg ((pre.length:Int)+1)=(((pre++[t]).length:Nat):Int):=by
   rw[bT (by
    have:all.length=pre.length+(l.length+1):=by rw[e];simp
    omega)];simp
  have tm:t∈all:=by rw[e];simp
  have t0:=Ob tm
  have h2:(aJ all)[pre.length]? = some (cw t):=by rw[e];exact gG _ _ _
  have h3:(aJ all)[0]? = some (cw (rp all 0)):=by rw[fl,List.getElem?_map,t0];rfl
  have ot:=nw hok t tm
  have o0:=nw hok _ (List.mem_of_getElem? t0)
  have ih:=fun H v9=>As v7 v8 l (pre++[t]) H v9 (by rw[e];simp)
  generalize rp all 0=u at h3 o0 ih ⊢
  obtain⟨tn,tx⟩:=t
  obtain⟨un,ux⟩:=u
  obtain⟨H1,r1⟩:=Fq K h0 obs tn tx H hobs ot
  obtain⟨H2,r2⟩:=Fq K h0 obs un ux H1 hobs o0
  have st:∀ z,(cond ((rq kind obs (.mk tn tx)).2.2 != 0) (ret (.bool true) H2) (cond ((rq kind obs (.mk un ux)).2.2 != 0) (ret (.bool true) H2) (cond v9 (C ai 10 [.agg [.str (rq kind obs (.mk tn tx)).1,(rq kind obs (.mk tn tx)).2.1],.agg [.str (rq kind obs (.mk un ux)).1,(rq kind obs (.mk un ux)).2.1]] H2 fun b H=>ae ai 3 200014 [.g (.row 2 (aJ all)),.g (.row 3 (obs.map fy)),.g v7,.n v8,.g b,.n ((pre++[Ty.mk tn tx]).length:Nat)] [] H) (ae ai 3 200014 [.g (.row 2 (aJ all)),.g (.row 3 (obs.map fy)),.g v7,.n v8,.g (.bool false),.n ((pre++[Ty.mk tn tx]).length:Nat)] [] H2))))=z->ae ai 3 200014 [.g (.row 2 (aJ all)),.g (.row 3 (obs.map fy)),.g v7,.n v8,.g (.bool v9),.n (pre.length:Nat)] [] H=z:=fun z hz=>by
   refine eL (yZ) ?_
   simp only[cw]at h2 h3
   rw[hlt,cond_true,bC,bm h2]
   simp only[ak,aw]
   rw[aq r1]
   simp only[cM,ak,aw,dG,kf]
   rw[bm h3]
   simp only[ak,aw]
   rw[aq r2]
   simp only[cM,ak,aw,dG,kf]
   rw[po,aj,po,aj,hw2]
   exact hz
  by_cases q1:(rq kind obs (.mk tn tx)).2.2=0
  ·by_cases q2:(rq kind obs (.mk un ux)).2.2=0
   ·have a1:=Ou q1
    have a2:=Ou q2
    have e1:∃ a b,sub (aK obs) (.mk tn tx)=.mk a b:=by cases sub (aK obs) (.mk tn tx);exact⟨_,_,rfl⟩
    have e2:∃ a b,sub (aK obs) (.mk un ux)=.mk a b:=by cases sub (aK obs) (.mk un ux);exact⟨_,_,rfl⟩
    obtain⟨a,b,e1⟩:=e1
    obtain⟨c,d,e2⟩:=e2
    have x1:((rq kind obs (.mk tn tx)).2.2 != 0)=false:=by rw[q1];rfl
    have x2:((rq kind obs (.mk un ux)).2.2 != 0)=false:=by rw[q2];rfl
    have oo:(Ty.mk a b).ok:=by rw[<- e1];exact uu (zE a1.out)
    have sm:=tP (.mk a b) (.mk c d) H2 oo
    simp only[cw]at sm
    cases v9 with
    |true =>
     obtain⟨H',ih⟩:=ih H2 (pE (.mk a b) (.mk c d))
     have step:∀ z,ae ai 3 200014 [.g (.row 2 (aJ all)),.g (.row 3 (obs.map fy)),.g v7,.n v8,.g (.bool (pE (.mk a b) (.mk c d))),.n ((pre++[Ty.mk tn tx]).length:Nat)] [] H2=z->ae ai 3 200014 [.g (.row 2 (aJ all)),.g (.row 3 (obs.map fy)),.g v7,.n v8,.g (.bool true),.n (pre.length:Nat)] [] H=z:=fun z hz=>st z (by
      rw[x1,x2,cond_false,cond_false,cond_true,a1.eq e1,a2.eq e2]
      rw[aq sm]
      exact hz)
     rcases ih with ih|⟨i1,i2⟩
     ·exact⟨H',.inl (step _ ih)⟩
     ·refine⟨H',.inr ⟨fun t ht=>?_,step _ ?_⟩⟩
      ·rcases List.mem_cons.1 ht with rfl|ht
       ·exact a1
       ·exact i1 t ht
      ·rw[i2,List.all_cons,e1,e2,Bool.true_and]
    |false =>
     obtain⟨H',ih⟩:=ih H2 false
     have step:∀ z,ae ai 3 200014 [.g (.row 2 (aJ all)),.g (.row 3 (obs.map fy)),.g v7,.n v8,.g (.bool false),.n ((pre++[Ty.mk tn tx]).length:Nat)] [] H2=z->ae ai 3 200014 [.g (.row 2 (aJ all)),.g (.row 3 (obs.map fy)),.g v7,.n v8,.g (.bool false),.n (pre.length:Nat)] [] H=z:=fun z hz=>st z (by
      rw[x1,x2,cond_false,cond_false,cond_false]
      exact hz)
     rcases ih with ih|⟨i1,i2⟩
     ·exact⟨H',.inl (step _ ih)⟩
     ·refine⟨H',.inr ⟨fun t ht=>?_,step _ ?_⟩⟩
      ·rcases List.mem_cons.1 ht with rfl|ht
       ·exact a1
       ·exact i1 t ht
      ·rw[i2,Bool.false_and,Bool.false_and]
   ·have x1:((rq kind obs (.mk tn tx)).2.2 != 0)=false:=by rw[q1];rfl
    have x2:((rq kind obs (.mk un ux)).2.2 != 0)=true:=by simpa using q2
    exact⟨H2,.inl (st _ (by rw[x1,x2,cond_false,cond_true]))⟩
  ·have x1:((rq kind obs (.mk tn tx)).2.2 != 0)=true:=by simpa using q1
   exact⟨H2,.inl (st _ (by rw[x1,cond_true]))⟩
end Go.Proofs.YtenibcfppefobaaGreatDoor
set_option linter.all false
noncomputable section
namespace Go.Proofs.YtenibcfppefobaaGreatDoor
open Go.AI
variable{kind:af->Int}(K:Dy kind)(h0:∀ d k,mD kind d (.mk [] []) k=none){all:List Ty}{obs bs:List (af×Ty)}(h62:all.length<2^62)(hok:Ty.oks all)(hobs:∀ q∈obs,q.2.ok)
theorem Gt(t:Ty):∃ n xs,t=.mk n xs:=by cases t;exact⟨_,_,rfl⟩
theorem xV(t:Ty):pE t t=true:=(pD t t).2 rfl
include K h0 h62 hok hobs
theorem Ku(S:Ub kind all bs)(hsz:∀ t∈all,bh kind t≠0)(v9:Bool)(h9:v9=true->(∀ t∈all,∀ t'∈all,sub (aK obs) t=sub (aK obs) t')/\∀ t∈all,Bu kind obs t):∀(l pre:List Ty) (H:DH),all=pre++l ->
 ∃ H',ae ai 3 200024 [.g (.row 2 (aJ all)),.g (.row 3 (obs.map fy)),.g (.row 3 (bs.map fy)),.g (.bool v9),.n (pre.length:Nat)] [] H=ret (.bool true) H'
 |[],pre,H,e=>by
  have hlt:decide ((pre.length:Int)<((aJ all).length:Int))=false:=by rw[bH,e];simp
  refine⟨H,eL (nH) ?_⟩
  rw[hlt,cond_false]
 |t::l,pre,H,e=>by
  have hlt:decide ((pre.length:Int)<((aJ all).length:Int))=true:=by rw[bH,e];simp;omega
  have hw2:eg ((pre.length:Int)+1)=(((pre++[t]).length:Nat):Int):=by
   rw[bT (by
    have:all.length=pre.length+(l.length+1):=by rw[e];simp
    omega)];simp
  have tm:t∈all:=by rw[e];simp
  have t0:=Ob tm
  have um:=List.mem_of_getElem? t0
  have h2:(aJ all)[pre.length]? = some (cw t):=by rw[e];exact gG _ _ _
  have h3:(aJ all)[0]? = some (cw (rp all 0)):=by rw[fl,List.getElem?_map,t0];rfl
  have ot:=nw hok t tm
  have o0:=nw hok _ um
  have ih:=fun H=>Ku S hsz v9 h9 l (pre++[t]) H (by rw[e];simp)
  have seq:=S.eq t tm _ um
  have sid:=S.idem t tm
  have sgen:=S.gen
  have z1:=hsz t tm
  have z2:=hsz _ um
  have h9t:=fun q=>(h9 q).2 t tm
  have h9g:=fun q:v9=true=>sgen _ (GE (h9t q).good) (h9 q).1 t tm
  generalize rp all 0=u at h3 o0 seq z2
  obtain⟨tn,tx,rfl⟩:=Gt t
  obtain⟨un,ux,rfl⟩:=Gt u
  obtain⟨H1,r1⟩:=Fq K h0 bs tn tx H S.ok ot
  obtain⟨H2,r2⟩:=Fq K h0 bs un ux H1 S.ok o0
  rcases Lo z1 S.good with q1|⟨q1,p1⟩
  ·refine⟨H2,eL (nH) ?_⟩
   simp only[cw]at h2 h3
   rw[hlt,cond_true,bC,bm h2]
   simp only[ak,aw]
   rw[aq r1]
   simp only[cM,ak,aw,dG,kf]
   rw[bm h3]
   simp only[ak,aw]
   rw[aq r2]
   simp only[cM,ak,aw,dG,kf]
   rw[sw,aj,q1]
   rfl
  ·rcases Lo z2 S.good with q2|⟨q2,p2⟩
   ·refine⟨H2,eL (nH) ?_⟩
    simp only[cw]at h2 h3
    rw[hlt,cond_true,bC,bm h2]
    simp only[ak,aw]
    rw[aq r1]
    simp only[cM,ak,aw,dG,kf]
    rw[bm h3]
    simp only[ak,aw]
    rw[aq r2]
    simp only[cM,ak,aw,dG,kf]
    rw[sw,aj,q1,sw,aj,q2]
    rfl
   ·obtain⟨an,ax,e1⟩:=Gt (sub (aK bs) (.mk tn tx))
    have e2:sub (aK bs) (.mk un ux)=.mk an ax:=by rw[<- seq,e1]
    have a1:Bu kind bs (.mk tn tx):=⟨z1,S.good,p1⟩
    have a2:Bu kind bs (.mk un ux):=⟨z2,S.good,p2⟩
    rw[e1]at p1 sid h9g
    have a3:Bu kind bs (.mk an ax):=⟨p1,S.good,by rw[sid];exact p1⟩
    have oa:(Ty.mk an ax).ok:=uu (zE p1)
    obtain⟨H3,r3⟩:=Fq K h0 bs an ax H2 S.ok oa
    rw[a1.eq e1]at r1
    rw[a2.eq e2]at r2
    rw[a3.eq sid]at r3
    have sm:=tP (.mk an ax) (.mk an ax) H3 oa
    rw[xV]at sm
    simp only[cw]at sm
    have go:∀ z,cond v9 (C ai 9 [.row 3 (obs.map fy),.agg [.str an,.row 2 (aJ ax)]] H3 fun b H=>di b 0 fun c=>di b 1 fun b=>ah 2 c fun c=>az [.str [],.nilrow] 0 c fun c=>dE (pre.length:Nat) fun d=>eO (aJ all) d fun d=>aC d 0 fun e=>aC d 1 fun d=>C ai 9 [.row 3 (obs.map fy),.agg [e,d]] H fun d H=>di d 0 fun e=>di d 1 fun d=>ah 2 e fun e=>az [.str [],.nilrow] 0 e fun e=>aB ab .eql 28 true b (.i 39) fun f=>brD f (ae ai 3 200024 [.g (.row 2 (aJ all)),.g (.row 3 (obs.map fy)),.g (.row 3 (bs.map fy)),.g (.bool v9),.n ((pre++[Ty.mk tn tx]).length:Nat)] [] H) (aB ab .neq 28 true b (.i 0) fun b=>brD b (ret (.bool false) H) (aB ab .neq 28 true d (.i 0) fun b=>brD b (ret (.bool false) H) (aC c 0 fun b=>aC c 1 fun c=>aC e 0 fun d=>aC e 1 fun e=>C ai 10 [.agg [b,c],.agg [d,e]] H fun b H=>rl .not b fun b=>brD b (ret (.bool false) H) (ae ai 3 200024 [.g (.row 2 (aJ all)),.g (.row 3 (obs.map fy)),.g (.row 3 (bs.map fy)),.g (.bool v9),.n ((pre++[Ty.mk tn tx]).length:Nat)] [] H))))) (ae ai 3 200024 [.g (.row 2 (aJ all)),.g (.row 3 (obs.map fy)),.g (.row 3 (bs.map fy)),.g (.bool v9),.n ((pre++[Ty.mk tn tx]).length:Nat)] [] H3)=z->ae ai 3 200024 [.g (.row 2 (aJ all)),.g (.row 3 (obs.map fy)),.g (.row 3 (bs.map fy)),.g (.bool v9),.n (pre.length:Nat)] [] H=z:=fun z hz=>by
     refine eL (nH) ?_
     simp only[cw]at h2 h3
     rw[hlt,cond_true,bC,bm h2]
     simp only[ak,aw]
     rw[aq r1]
     simp only[cM,ak,aw,dG,kf]
     rw[bm h3]
     simp only[ak,aw]
     rw[aq r2]
     simp only[cM,ak,aw,dG,kf]
     rw[sw,aj,sw,aj,show((0:Int)==39)=false from rfl,cond_false,cond_false,aq r3]
     simp only[cM,ak,aw,dG,kf]
     rw[po,aj,po,aj,po,aj,show((0:Int) != 0)=false from rfl,cond_false,cond_false,cond_false,aq sm,ct,aj,Bool.not_true,cond_false,aq sm,ct,aj,Bool.not_true,cond_false,hw2]
     exact hz
    cases v9 with
    |false =>
     obtain⟨H',ih⟩:=ih H3
     exact⟨H',go _ (by rw[cond_false];exact ih)⟩
    |true =>
     have b1:=h9t rfl
     have g1:=h9g rfl
     obtain⟨H4,w1⟩:=Fq K h0 obs an ax H3 hobs oa
     obtain⟨H5,w2⟩:=Fq K h0 obs tn tx H4 hobs ot
     obtain⟨H',ih⟩:=ih H5
     obtain⟨cn,cx,e3⟩:=Gt (sub (aK obs) (.mk tn tx))
     rw[e3]at g1
     rw[b1.eq e3]at w2
     have tail:∀ z,(cond ((rq kind obs (.mk an ax)).2.2==39) (ae ai 3 200024 [.g (.row 2 (aJ all)),.g (.row 3 (obs.map fy)),.g (.row 3 (bs.map fy)),.g (.bool true),.n ((pre++[Ty.mk tn tx]).length:Nat)] [] H5) (cond ((rq kind obs (.mk an ax)).2.2 != 0) (ret (.bool false) H5) (C ai 10 [.agg [.str (rq kind obs (.mk an ax)).1,(rq kind obs (.mk an ax)).2.1],.agg [.str cn,.row 2 (aJ cx)]] H5 fun b H=>rl .not b fun b=>brD b (ret (.bool false) H) (ae ai 3 200024 [.g (.row 2 (aJ all)),.g (.row 3 (obs.map fy)),.g (.row 3 (bs.map fy)),.g (.bool true),.n ((pre++[Ty.mk tn tx]).length:Nat)] [] H))))=z->ae ai 3 200024 [.g (.row 2 (aJ all)),.g (.row 3 (obs.map fy)),.g (.row 3 (bs.map fy)),.g (.bool true),.n (pre.length:Nat)] [] H=z:=fun z hz=>by
      refine go _ ?_
      simp only[cw]at h2
      rw[cond_true,aq w1]
      simp only[cM,ak,aw,dG,kf]
      rw[bC,bm h2]
      simp only[ak,aw]
      rw[aq w2]
      simp only[cM,ak,aw,dG,kf]
      rw[sw,aj,po,aj,po,aj,show((0:Int) != 0)=false from rfl,cond_false]
      exact hz
     rcases Lo p1 b1.good with y1|⟨y1,y2⟩
     ·exact⟨H',tail _ (by rw[y1,show((39:Int)==39)=true from rfl,cond_true];exact ih)⟩
     ·have a4:Bu kind obs (.mk an ax):=⟨p1,b1.good,y2⟩
      have oc:(Ty.mk cn cx).ok:=by rw[<- e3];exact uu (zE b1.out)
      have sm:=tP (.mk cn cx) (.mk cn cx) H5 oc
      rw[xV]at sm
      simp only[cw]at sm
      refine⟨H',tail _ ?_⟩
      rw[a4.eq g1]
      rw[show((0:Int)==39)=false from rfl,show((0:Int) != 0)=false from rfl,cond_false,cond_false,aq sm,ct,aj,Bool.not_true,cond_false]
      exact ih
end Go.Proofs.YtenibcfppefobaaGreatDoor
set_option linter.all false
noncomputable section
namespace Go.Proofs.YtenibcfppefobaaGreatDoor
open Go.AI
theorem LN{all:List Ty}:(∀ t∈all,dn t<=60)->dn.tszs all<=60*all.length:=fun h=>by
 induction all with
 |nil=>simp[dn.tszs]
 |cons x r ih =>
  have:=ih fun t ht=>h t (List.mem_cons_of_mem _ ht)
  have:=h x List.mem_cons_self
  simp only[dn.tszs,List.length_cons]
  omega
variable{kind:af->Int}(K:Dy kind)(h0:∀ d k,mD kind d (.mk [] []) k=none)(k1:(kind [45,62]==4)=false)(k2:(kind [44]==4)=false){all:List Ty}{obs:List (af×Ty)}(h62:all.length<2^62)(hok:Ty.oks all)(hobs:∀ q∈obs,q.2.ok)
def Sw(all:List Ty)(obs:List (af×Ty))(H:DH):ag:=C ai 8 [.row 2 (aJ all)] H fun a H=>di a 0 fun b=>di a 1 fun a=>ae ai 3 200014 [.g (.row 2 (aJ all)),.g (.row 3 (obs.map fy)),.g b,.g a,.g (.bool true),.n 0] [] H
include K h62 hok
theorem Kv:∀(l pre:List Ty) (H:DH),all=pre++l ->
 ∃ H',ae ai 3 200005 [.g (.row 2 (aJ all)),.g (.row 3 (obs.map fy)),.g (.bool true),.n (pre.length:Nat)] [] H=ret (.bool true) H'\/((∀ t∈l,bh kind t≠0/\bh kind t<=60)/\ae ai 3 200005 [.g (.row 2 (aJ all)),.g (.row 3 (obs.map fy)),.g (.bool true),.n (pre.length:Nat)] [] H=Sw all obs H')
 |[],pre,H,e=>by
  have hlt:decide ((pre.length:Int)<((aJ all).length:Int))=false:=by rw[bH,e];simp
  refine⟨H,.inr ⟨fun _ h=>(nomatch h),eL (za) ?_⟩⟩
  rw[hlt,cond_false]
  simp only[Bool.not_true,cond_false]
  rw[Sw]
 |t::l,pre,H,e=>by
  have hlt:decide ((pre.length:Int)<((aJ all).length:Int))=true:=by rw[bH,e];simp;omega
  have hw2:eg ((pre.length:Int)+1)=(((pre++[t]).length:Nat):Int):=by
   rw[bT (by
    have:all.length=pre.length+(l.length+1):=by rw[e];simp
    omega)];simp
  have tm:t∈all:=by rw[e];simp
  have h2:(aJ all)[pre.length]? = some (cw t):=by rw[e];exact gG _ _ _
  obtain⟨X,z1⟩:=nj K t H (nw hok t tm)
  obtain⟨Y,z2⟩:=nj K t (H++X) (nw hok t tm)
  have st:∀ z,(cond (((bh kind t:Nat):Int)==0) (ret (.bool true) (H++X)) (cond (decide (((bh kind t:Nat):Int)>60)) (ret (.bool true) (H++X++Y)) (ae ai 3 200005 [.g (.row 2 (aJ all)),.g (.row 3 (obs.map fy)),.g (.bool true),.n ((pre++[t]).length:Nat)] [] (H++X++Y))))=z->ae ai 3 200005 [.g (.row 2 (aJ all)),.g (.row 3 (obs.map fy)),.g (.bool true),.n (pre.length:Nat)] [] H=z:=fun z hz=>by
   refine eL (za) ?_
   obtain⟨tn,tx⟩:=t
   simp only[cw]at h2 z1 z2
   rw[hlt,cond_true,bC,bm h2]
   simp only[ak,aw]
   rw[aq z1,bS,aj,bC,bm h2]
   simp only[ak,aw]
   rw[aq z2,gh,aj,hw2]
   exact hz
  by_cases q:bh kind t=0
  ·exact⟨_,.inl (st _ (by rw[q];rfl))⟩
  ·have e1:(((bh kind t:Nat):Int)==0)=false:=by simp;omega
   by_cases q2:bh kind t<=60
   ·have e2:decide (((bh kind t:Nat):Int)>60)=false:=by simp;omega
    obtain⟨H',ih⟩:=Kv l (pre++[t]) (H++X++Y) (by rw[e];simp)
    rcases ih with ih|⟨i1,i2⟩
    ·exact⟨H',.inl (st _ (by rw[e1,e2,cond_false,cond_false];exact ih))⟩
    ·refine⟨H',.inr ⟨fun t' h=>?_,st _ (by rw[e1,e2,cond_false,cond_false];exact i2)⟩⟩
     rcases List.mem_cons.1 h with rfl|h
     ·exact⟨q,q2⟩
     ·exact i1 t' h
   ·have e2:decide (((bh kind t:Nat):Int)>60)=true:=by simp;omega
    exact⟨_,.inl (st _ (by rw[e1,e2,cond_false,cond_true]))⟩
include h0 k1 k2 hobs
theorem Tc(H:DH):∃ H',aD 3 [.row 2 (aJ all),.row 3 (obs.map fy)] H=ret (.bool true) H':=by
 by_cases h6:all.length<=6
 ·have pre:∀ z,ae ai 3 200005 [.g (.row 2 (aJ all)),.g (.row 3 (obs.map fy)),.g (.bool true),.n 0] [] H=z->aD 3 [.row 2 (aJ all),.row 3 (obs.map fy)] H=z:=fun z hz=>by
   refine ev (f3) ?_
   have e1:decide (((aJ all).length:Int)>6)=false:=by rw[bH];simp;omega
   rw[aq (Ju H),e1,cond_false]
   exact hz
  obtain⟨H1,r1⟩:=Kv K (obs:=obs) h62 hok all [] H rfl
  rcases r1 with r1|⟨hsz,r1⟩
  ·exact⟨H1,pre _ r1⟩
  ·have sz60:∀ t∈all,dn t<=60:=fun t h=>by
    obtain⟨a,b⟩:=hsz t h
    rw[<- (zD a).2.2.1];exact b
   have h60:=LN sz60
   obtain⟨w,H2,r2,r3⟩:=Jm K k1 k2 all H1 (by omega) (by omega) fun t h=>(hsz t h).1
   have go:∀(b:D) (n:Int),w=.tuple [b,.i n]->∀ z,ae ai 3 200014 [.g (.row 2 (aJ all)),.g (.row 3 (obs.map fy)),.g b,.n n,.g (.bool true),.n 0] [] H2=z->aD 3 [.row 2 (aJ all),.row 3 (obs.map fy)] H=z:=fun b n e z hz=>by
    refine pre _ ?_
    refine Eq.trans r1 ?_
    rw[e]at r2
    rw[Sw,aq r2]
    simp only[cM,ak,aw]
    exact hz
   have eqA:∀ {σ:af->Option Ty},(all.all fun t=>pE (sub σ t) (sub σ (rp all 0)))=true->∀ t∈all,∀ t'∈all,sub σ t=sub σ t':=fun {σ} h t ht t' ht'=>by
    rw[List.all_eq_true]at h
    rw[(pD _ _).1 (h t ht),(pD _ _).1 (h t' ht')]
   rcases r3 with e|⟨n,hn,e,hno⟩|⟨bs,e,S⟩
   ·obtain⟨H3,t3⟩:=As K h0 h62 hok hobs (.row 3 []) 39 all [] H2 true rfl
    rcases t3 with t3|⟨t3,t4⟩
    ·exact⟨H3,go _ _ e _ t3⟩
    ·refine⟨H3,go _ _ e _ (Eq.trans t4 ?_)⟩
     rw[Nc,show((39:Int) != 0)=true from rfl,cond_true,show((39:Int)==39)=true from rfl]
     generalize(true&&_)=b
     cases b<;>rfl
   ·obtain⟨H3,t3⟩:=As K h0 h62 hok hobs (.row 3 []) n all [] H2 true rfl
    rcases t3 with t3|⟨t3,t4⟩
    ·exact⟨H3,go _ _ e _ t3⟩
    ·refine⟨H3,go _ _ e _ (Eq.trans t4 ?_)⟩
     have hn0:(n != 0)=true:=by rcases hn with rfl|rfl<;>rfl
     have hb:(true&&all.all fun t=>pE (sub (aK obs) t) (sub (aK obs) (rp all 0)))=false:=by
      cases q:(true&&all.all fun t=>pE (sub (aK obs) t) (sub (aK obs) (rp all 0)))with
      |false=>rfl
      |true =>
       exfalso
       have q:=eqA (by simpa using q)
       cases hl:all with
       |nil=>exact hno (fun _=>none) (fun _ _ h=>by cases h) (fun t ht=>by rw[hl]at ht;cases ht)
       |cons x r=>exact hno _ (GE (t3 x (by rw[hl];simp)).good) q
     rw[Nc,hn0,cond_true,hb]
     rfl
   ·obtain⟨H3,t3⟩:=As K h0 h62 hok hobs (.row 3 (bs.map fy)) 0 all [] H2 true rfl
    rcases t3 with t3|⟨t3,t4⟩
    ·exact⟨H3,go _ _ e _ t3⟩
    ·obtain⟨H4,t5⟩:=Ku K h0 h62 hok hobs S (fun t h=>(hsz t h).1) (true&&all.all fun t=>pE (sub (aK obs) t) (sub (aK obs) (rp all 0))) (fun q=>⟨eqA (by simpa using q),t3⟩) all [] H3 rfl
     refine⟨H4,go _ _ e _ (Eq.trans t4 ?_)⟩
     rw[Nc,show((0:Int) != 0)=false from rfl,cond_false]
     exact t5
 ·refine⟨H,ev (f3) ?_⟩
  have e1:decide (((aJ all).length:Int)>6)=true:=by rw[bH];simp;omega
  rw[aq (Ju H),e1,cond_true]
end Go.Proofs.YtenibcfppefobaaGreatDoor
set_option linter.all false
noncomputable section
namespace Go.Proofs.YtenibcfppefobaaGreatDoor.Rd
open Go.AI Go.Proofs.YtenibcfppefobaaGreatDoor
theorem DQ{d:D}(h:IL .str d):∃ l,d=.str l:=by cases h;exact⟨_,rfl⟩
theorem OM{t:Nat}{d:D}(h:IL (.sl t) d):∃ l,d=.row (Cj t).length l/\l.length<2^50/\∀ cs∈l,Fx (Cj t) cs:=by
 cases h with
 |row t ly l h0 h1 h2 h3=>subst h0;exact⟨l,rfl,h1,fun cs h=>⟨h2 cs h,h3 cs h⟩⟩
theorem zG{ds:List D}(h:Fx [] ds):ds=[]:=List.length_eq_zero_iff.1 h.1
theorem kP{k:Ck}{ks:List Ck}{ds:List D}(h:Fx (k::ks) ds):∃ d r,ds=d::r/\IL k d/\Fx ks r:=by
 cases ds with
 |nil=>have:=h.1;simp at this
 |cons d r=>exact⟨d,r,rfl,h.2 0 k d rfl rfl,by have:=h.1;simpa using this,fun i k d h1 h2=>h.2 (i+1) k d (by simpa using h1) (by simpa using h2)⟩
theorem pick{α:Type}{f:α->List D}{p:α->Prop}:∀ {l:List (List D)},(∀ cs∈l,∃ x,cs=f x/\p x)->∃ xs:List α,l=xs.map f/\∀ x∈xs,p x
 |[],_=>⟨[],rfl,fun _ h=>by cases h⟩
 |cs::r,h=>by
  obtain⟨x,h1,h2⟩:=h cs List.mem_cons_self
  obtain⟨xs,h3,h4⟩:=pick fun c hc=>h c (List.mem_cons_of_mem _ hc)
  exact⟨x::xs,by rw[h1,h3];rfl,fun y hy=>(List.mem_cons.1 hy).elim (fun e=>e▸h2) (h4 y)⟩
theorem Rn:Cj 22=[.str,.sl 22]:=by kernel_rfl
theorem Rp:Cj 23=[.str,.str,.sl 22]:=by kernel_rfl
theorem Oa{k:Ck}{d:D}(h:IL k d):k=.sl 22->∃ xs,d=.row 2 (aJ xs)/\xs.length<2^62/\Ty.oks xs:=by
 induction h with
 |row t ly l hly hl hn he ih =>
  intro e
  cases e
  rw[Rn]at hly
  subst hly
  obtain⟨xs,rfl,hx⟩:=pick (f:=cw) (p:=Ty.ok) (l:=l) fun cs hc=>by
   obtain⟨a,r,rfl,h1,h⟩:=kP (⟨hn cs hc,he cs hc⟩:Fx [.str,.sl 22] cs)
   obtain⟨b,r,rfl,h2,h⟩:=kP h
   cases zG h
   obtain⟨n,rfl⟩:=DQ h1
   obtain⟨xs,rfl,h3⟩:=ih _ hc 1 _ b rfl rfl rfl
   exact⟨.mk n xs,by rw[cw],by rw[Ty.ok];exact h3⟩
  refine⟨xs,by rw[fl];rfl,?_,Ty.oks_iff.2 hx⟩
  rw[List.length_map]at hl
  omega
 |_=>intro e;cases e
theorem Rb{d:D}(h:IL (.sl 23) d):∃ xs:List (af×Ty),d=.row 3 (xs.map fy)/\∀ q∈xs,q.2.ok:=by
 obtain⟨l,rfl,hl,he⟩:=OM h
 rw[Rp]at he ⊢
 obtain⟨xs,rfl,hx⟩:=pick (f:=fy) (p:=fun q=>q.2.ok) (l:=l) fun cs hc=>by
  obtain⟨a,r,rfl,h1,h⟩:=kP (he cs hc)
  obtain⟨b,r,rfl,h2,h⟩:=kP h
  obtain⟨c,r,rfl,h3,h⟩:=kP h
  cases zG h
  obtain⟨m,rfl⟩:=DQ h1
  obtain⟨n,rfl⟩:=DQ h2
  obtain⟨ts,rfl,g1,g2⟩:=Oa h3 rfl
  exact⟨(m,.mk n ts),by rw[fy,cw],by rw[Ty.ok];exact⟨g1,g2⟩⟩
 exact⟨xs,rfl,hx⟩
theorem Te:fu []=0:=by simp[fu]
theorem Uo{l:af}(h:pk l 0≠39):(fu l==4)=false:=by
 have key:fu l≠4:=by
  unfold fu
  split
  ·decide
  ·cases e:fA l 0 with
   |none=>simp
   |some p =>
    obtain⟨k,n⟩:=p
    have:k≠4:=by
     unfold fA at e
     grind
    simp only
    split
    ·exact this
    ·decide
 simpa using key
theorem Th:(fu [45,62]==4)=false:=Uo (by decide)
theorem Tg:(fu [44]==4)=false:=Uo (by decide)
theorem Tf(d k:Nat):mD fu d (.mk [] []) k=none:=by
 unfold mD
 rw[if_neg]
 rintro⟨h,_⟩
 simp[nQ,Te]at h
end Go.Proofs.YtenibcfppefobaaGreatDoor.Rd
set_option linter.all false
noncomputable section
namespace Go.Proofs.YtenibcfppefobaaGreatDoor.Rd
open Go.AI Go.Proofs Go.Proofs.YtenibcfppefobaaGreatDoor Go.ChangeShapes Go.WideShapes Go.ChangeAt Go.RowKit
theorem RI:Go.AI.Good Tryz.prog (lim lF):=Kn (cO rfl rfl) SR (bz rfl rfl)
theorem Li{W W':World}{ρ':au}(h:FR (Ro W.heap.size) W ρ' W'):Below W.heap.size W W' :=
 ⟨h.os,h.tape,h.output,h.size,fun k hk=>h.same k hk fun f v l e hro=>by
  unfold Ro at e
  split at e
  ·cases e;exact absurd (show(0:Nat)<1 from Nat.zero_lt_one) hro
  ·cases e⟩
theorem KM{W:World}{o f v:Nat}(h:(Rd.g0 W).O[o]? = some (some (f,v))):False:=by
 have h:([]:List (Option (Nat×Nat)))[o]? = some (some (f,v)):=h
 simp at h
theorem RJ{W:World}(h:Hj W)(hs:6<=W.heap.size):Ok (Rd.g0 W):=by
 refine⟨rfl,Mb W,fun o o' f v v' h=>(KM h).elim,fun o f v h=>(KM h).elim,?_,?_,HO h,fun f hf=>⟨?_,?_,fun o v h=>KM h⟩⟩
 ·intro f hf
  have hf:f∈([]:List Nat):=hf
  simp at hf
 ·intro o b hb
  have hb:([]:List DB)[o]? = some b:=hb
  simp at hb
 ·show f<(bO W).next
  unfold bO;rw[kh]
  have hf:f∈[0,1,4,5]:=hf
  simp only[List.mem_cons,List.mem_nil_iff,or_false]at hf
  omega
 ·show f∉([]:List Nat)
  simp
theorem Ig{f:FuncId}{W:World}{args:List D}{X:DH}{vs:List V}{ys:List Value}(hG:Ok (g0 W))(h:ed de (.call f args none) []=ret (.bool true) X)(hr:Go.AI.RL (g0 W) args vs)(hd:aM (Ro W.heap.size) vs=some ys) :
 Calls Tryz.prog f ys.toArray W fun e w'=>e=.returned (.bool true)/\Below W.heap.size W w':=by
 obtain⟨s',call⟩:=MR h (g:=g0 W) rfl hG hr
 have hs:fE Tryz.prog f vs none (bO W) ⟨.returned (.bool true),none,s'⟩:=RI (.call f _ none) _ _ call
 refine(wD hs (FP W) hd).mono fun e w' ⟨ρ',z,he,hz,_,hfr⟩=>?_
 simp only[den,Option.some.injEq]at hz
 subst hz
 exact⟨he,Li hfr⟩
theorem own:ownKnob Tryz.prog.godebug=none:=by kernel_rfl
theorem Gz:laidOutB Tryz.prog=true:=by kernel_rfl
theorem QX:Tryz.prog.readableRec 22=true:=by kernel_rfl
theorem QU:22<Tryz.prog.types.size:=of_decide_eq_true (by kernel_rfl)
theorem QW:Tryz.prog.readableRec 23=true:=by kernel_rfl
theorem QT:23<Tryz.prog.types.size:=of_decide_eq_true (by kernel_rfl)
theorem Nz:Tryz.prog.cellsOf 22=1:=by kernel_rfl
theorem Ny:Tryz.prog.cellsOf 23=1:=by kernel_rfl
theorem Rr:EE 8 22=some [.sl 22]:=by kernel_rfl
theorem Rq:EE 8 23=some [.sl 23]:=by kernel_rfl
theorem Jz{g:Gh}{d:D}{l:List V}(h:Go.AI.RL g [d] l):∃ v,l=[v]/\RD g d v:=by
 simp only[Go.AI.RL]at h
 obtain⟨v,r,rfl,h1,rfl⟩:=h
 exact⟨v,rfl,h1⟩
theorem wu{ρ:au}{v:V}{y:Value}(h:aM ρ [v]=some [y]):den ρ v=some y:=by
 simp only[aM]at h
 cases e:den ρ v with
 |none=>rw[e]at h;cases h
 |some z=>rw[e]at h;cases h;rfl
end Go.Proofs.YtenibcfppefobaaGreatDoor.Rd
namespace Go.Proofs.YtenibcfppefobaaGreatDoor.inferGeneral
open Go.AI Go.Proofs Go.Proofs.YtenibcfppefobaaGreatDoor Go.ChangeShapes Go.WideShapes Go.ChangeAt Go.RowKit Go.Proofs.YtenibcfppefobaaGreatDoor.Rd
set_option maxRecDepth 100000 in
theorem lifted(os:Os)(started:os.Started)(H:Type)(enc:TypeId×Value->H)(F:Stop.Interp) :
 ReturnsInHanded {} Tryz.checked os 3 .any ((OpenSpec.ofChange Rows.inferGeneralSpec).preRow enc Tryz.prog Tryz.f3 Rows.inferGeneralRow.domain false Rows.inferGeneralRow.laid) (((OpenSpec.ofChange Rows.inferGeneralSpec).at F).post enc Tryz.prog Tryz.f3 false true false false):=by
 refine returnsInHanded_of_row (C:=Tryz.checked) (s:=OpenSpec.ofChange Rows.inferGeneralSpec) own started (by kernel_rfl) Tryz.func3
  (ChangeSpec.witness_shaped (enc:=enc) (C:=Tryz.checked) (os:=os) (X:=fun w _=>laidMetH Tryz.prog Rows.inferGeneralRow.laid w) false (World.laidAll Tryz.prog os Rows.inferGeneralRow.laid)
   #[.slice none 0 0,.slice none 0 0] 8 (World.laidAll_os _ _ _)
   (World.shaped_of_ZipB (by kernel_rfl) (by kernel_rfl)) (by kernel_rfl) (by kernel_rfl) (by kernel_rfl)
   (by rw[MakeChecks.laidMetH_plain _ _ _ (by kernel_rfl)];exact laidMet_laidAll _ (by kernel_rfl) (by kernel_rfl))) ?_
 intro W base args ds gs before hval0 hW _ _ hsz0 hlaid hshaped _
 have hval:∀(j:Nat) t v,Tryz.f3.params[j]? = some t->args[j]? = some v->Value.okWide Tryz.prog W .any base t v:=hval0
 rw[MakeChecks.laidMetH_plain _ _ _ (by kernel_rfl)]at hlaid
 have hG:Hj W:=KK hlaid hshaped
 have hW':=hW
 obtain⟨p,q,hA0,hV,rfl,hfz,hnd⟩:=hW
 have hA:DataW.TrodAll enc Tryz.prog W 0 (fun _=>true) true Tryz.f3.params.toList args.toList ds p:=hA0
 have hsz:(DataW.weightsEach Tryz.prog (Tryz.f3.params.toList++[]) (ds++gs)).all (·<=reachBytes)=true:=hsz0
 rw[Tryz.params3]at hA hval hsz
 obtain⟨v0,vs0,d0,ds0,p0,q0,hargs,rfl,rfl,h0,r0⟩:=trodAll_cons hA
 obtain⟨v1,vs1,d1,ds1,p1,q1,rfl,rfl,rfl,h1,r1⟩:=trodAll_cons r0
 obtain⟨rfl,rfl,rfl⟩:=trodAll_nil r1
 obtain rfl:args=#[v0,v1]:=by cases args;simp_all
 obtain⟨rfl,rfl⟩:=trodVars_none hV
 obtain⟨a0,l0,c0,rfl⟩:=okWide_slice Tryz.underlying22 (hval 0 22 v0 rfl rfl)
 obtain⟨a1,l1,c1,rfl⟩:=okWide_slice Tryz.underlying23 (hval 1 23 v1 rfl rfl)
 obtain⟨n0,g0'⟩:=h0
 obtain⟨n1,g1'⟩:=h1
 have hwt:∀(i:Nat) t (d:DataW H),[22,23][i]? = some t->[d0,d1][i]? = some d->Wt t d:=fun i t d e1 e2 n hn=>by
  have:=List.all_eq_true.1 hsz n (iJ (i:=i) (by simpa using e1) (by simpa using e2) n hn)
  simpa using this
 obtain⟨x0,b0,a0',r0,s0,_⟩:=OR (W:=W) n0 8 (x:=(d0,p0)) (Nat.le_refl _) Rr Nz g0' (hwt 0 22 d0 rfl rfl)
 obtain⟨x1,b1,a1',r1,s1,_⟩:=OR (W:=W) n1 8 (x:=(d1,p1)) (Nat.le_refl _) Rq Ny g1' (hwt 1 23 d1 rfl rfl)
 obtain⟨y0,z0,rfl,t0,s0⟩:=kP s0
 cases zG s0
 obtain⟨y1,z1,rfl,t1,s1⟩:=kP s1
 cases zG s1
 obtain⟨all,rfl,hl,hlo⟩:=Oa t0 rfl
 obtain⟨obs,rfl,hob⟩:=Rb t1
 obtain⟨u0,rfl,w0⟩:=Jz r0
 obtain⟨u1,rfl,w1⟩:=Jz r1
 obtain⟨X,hX⟩:=Tc UC Tf Th Tg hl hlo hob []
 have hsize:6<=W.heap.size:=by
  obtain⟨te,b,off,e,fz,hh,_⟩:=hG.rng
  have:=(Array.getElem?_eq_some_iff.1 hh).1
  omega
 have walk:=Ig (f:=3) (ys:=[.slice a0 l0 c0,.slice a1 l1 c1]) (RJ hG hsize) hX (vs:=[u0,u1]) (by
  simp only[Go.AI.RL]
  exact⟨_,_,rfl,w0,_,_,rfl,w1,rfl⟩) (by
  have e0:=wu (jg.den a0')
  have e1:=wu (jg.den a1')
  simp only[aM]
  rw[e0,e1])
 refine walk.mono fun e W' ⟨he,hbl⟩=>?_
 subst he
 have hlt:=hW'.lt
 refine⟨_,rfl,_,_,_,[],p0++(p1++[]),[],hW',trodAll_mk1 (shut_bool Tryz.underlying4 _),?_,rfl,hbl.frame _,fun h=>by cases h⟩
 show DataW.TrodAll enc Tryz.prog W' 0 (fun b=>decide (b<W.heap.size)) true Tryz.f3.params.toList _ [d0,d1] _
 rw[Tryz.params3]
 exact⟨p0,_,Below.trod Gz QX QU ⟨n0,g0'⟩ hbl (fun z hz=>hlt z (by simp[hz])),⟨p1,_,Below.trod Gz QW QT ⟨n1,g1'⟩ hbl (fun z hz=>hlt z (by simp[hz])),rfl,rfl⟩,rfl⟩
end Go.Proofs.YtenibcfppefobaaGreatDoor.inferGeneral
