/- Evaluators by which runs of the program are reckoned, that they are sound, and what the functions answer: part 6. No conditions beyond those of the row. -/
import Derived.Test.YtenibcfppefobaaGreatDoorA5
import Derived.Test.YtenibcfppefobaaGreatDoorCards
import Derived.Test.YtenibcfppefobaaGreatDoorTie
import Derived.WalkKit
import Derived.ProofKit
import Derived.Lay
import Derived.Deep.DeepHandedRow
set_option linter.all false
noncomputable section
namespace Go.Proofs.YtenibcfppefobaaGreatDoor
open Go.AI
structure Ob where
 g:Nat
 n:Nat
 a:Nat
 l:Nat
 s:Nat
def AE(L:Lk)(i:Nat):Nat:=match L[i]? with
 |some (some j)=>j
 |_=>i
def zw(L:Lk):dB:=(List.range L.length).map fun i=>[.i (AE L i:Nat)]
def Ks(N:List aH):dB:=N.map fun x=>[.str (if x.v then [] else x.n)]
def WQ(N:List aH)(ds:List D):Prop:=ds.length=N.length/\∀(i:Nat) (x:aH),N[i]? = some x->ds[i]? = some (.row 1 (x.a.map fun a=>[.i (a:Nat)]))\/(x.a=[]/\ds[i]? = some .nilrow)
structure GG(H:DH)(o:Ob)(N:List aH)(L:Lk)(cl:Bool)(sn:List Int)(now:Int):Prop where
 pos:0<N.length
 lenL:L.length=N.length
 lenS:sn.length=N.length
 ob:∃ s,H[o.g]? = some (.cells s [.buf 1 o.n N.length,.buf 1 o.a N.length,.buf 1 o.l N.length,.bool cl,.buf 1 o.s N.length,.i now])
 hn:H[o.n]? = some (.buf 1 true false (Ks N))
 ha:∃ ds,WQ N ds/\H[o.a]? = some (.buf 1 true false (ds.map fun d=>[d]))
 hl:H[o.l]? = some (.buf 1 true false (zw L))
 hs:H[o.s]? = some (.buf 1 true false (sn.map fun z=>[.i z]))
 d1:o.l≠o.n/\o.l≠o.a/\o.l≠o.s/\o.l≠o.g
 d2:o.s≠o.n/\o.s≠o.a/\o.s≠o.g
 d3:o.n≠o.a/\o.n≠o.g/\o.a≠o.g
 kid:∀(i:Nat) (x:aH),N[i]? = some x->∀ a∈x.a,a<N.length
 lk:∀ i j:Nat,L[i]? = some (some j)->j<N.length
 nm:∀(i:Nat) (x:aH),N[i]? = some x->x.v=false->x.n≠[]
 sm:∀(i:Nat) (x:aH),N[i]? = some x->x.a.length<=16
 od:∀(i:Nat) (x:aH),N[i]? = some x->x.v=true->x.o=(i:Nat)
 bnd:N.length<4194304
theorem JX:ab.underlying 59=some (.slice 3):=by kernel_rfl
theorem ZD:ab.underlying 93=some (.slice 59):=by kernel_rfl
theorem Vg:ab.underlying 35=some (.slice 9):=by kernel_rfl
theorem Sw:size ab 3=some 1:=by kernel_rfl
theorem Vh:size ab 9=some 1:=by kernel_rfl
theorem WZ:size ab 59=some 1:=by kernel_rfl
theorem WO(d:D)(κ:D->ah):ci ab 3 [d] 0 κ=κ d:=by kernel_rfl
theorem VH(d:D)(κ:D->ah):ci ab 9 [d] 0 κ=κ d:=by kernel_rfl
theorem XO(d:D)(κ:D->ah):ci ab 59 [d] 0 κ=κ d:=by kernel_rfl
theorem ez{i n:Nat}(h:i<n):Nat.blt i n=true:=Nat.ble_eq_true_of_le h
section
variable{H:DH}{o n i:Nat}{st cp:Bool}{l:dB}{d:D}
theorem bK(h:H[o]? = some (.buf 1 st cp l))(hn:n=l.length)(κ:Nat->Bool->Bool->dB->ah):gG H o n κ=κ 1 st cp l:=by
 subst hn;exact bH h
theorem Dj(h:H[o]? = some (.buf 1 st cp l))(hn:n=l.length)(hi:l[i]? = some [d])(κ:D->ah):(aq ab 59 (.buf 1 o n) (.i i) fun a=>bQ ab 3 a H κ)=κ d:=by
 have hlt:i<n:=by rw[hn];exact ao hi
 rw[aq,JX]
 simp only[Sw,mI,Nat.beq_refl,cond_true,aP,ez hlt,boK,bQ,bK h hn,aI hi,WO]
theorem zK(h:H[o]? = some (.buf 1 st cp l))(hn:n=l.length)(hi:l[i]? = some [d])(κ:D->ah):(aq ab 35 (.buf 1 o n) (.i i) fun a=>bQ ab 9 a H κ)=κ d:=by
 have hlt:i<n:=by rw[hn];exact ao hi
 rw[aq,Vg]
 simp only[Vh,mI,Nat.beq_refl,cond_true,aP,ez hlt,boK,bQ,bK h hn,aI hi,VH]
theorem qm(h:H[o]? = some (.buf 1 st cp l))(hn:n=l.length)(hi:l[i]? = some [d])(κ:D->ah):(aq ab 93 (.buf 1 o n) (.i i) fun a=>bQ ab 59 a H κ)=κ d:=by
 have hlt:i<n:=by rw[hn];exact ao hi
 rw[aq,ZD]
 simp only[WZ,mI,Nat.beq_refl,cond_true,aP,ez hlt,boK,bQ,bK h hn,aI hi,XO]
theorem DP(h:H[o]? = some (.buf 1 true cp l))(hn:n=l.length)(hi:l[i]? = some [d])(x:D)(κ:DH->ah):(aq ab 59 (.buf 1 o n) (.i i) fun a=>sK a [x] H κ)=κ (H.set o (.buf 1 true cp (l.set i [x]))):=by
 have hlt:i<n:=by rw[hn];exact ao hi
 rw[aq,JX]
 simp only[Sw,mI,Nat.beq_refl,cond_true,aP,ez hlt,boK,sK,bK h hn,aI hi]
 rfl
end
theorem fN(L:Lk):(zw L).length=L.length:=by simp[zw]
theorem gv{L:Lk}{i:Nat}(h:i<L.length):(zw L)[i]? = some [.i (AE L i:Nat)]:=by
 rw[zw,List.getElem?_map,List.getElem?_range h];rfl
theorem kQ{L:Lk}{i j:Nat}(h:L[i]? = some (some j)):AE L i=j:=by unfold AE;rw[h]
theorem ry{L:Lk}{i:Nat}(h:L[i]? = some none):AE L i=i:=by unfold AE;rw[h]
theorem vp{L:Lk}{i j:Nat}(h:i<L.length):(zw L).set i [.i (j:Nat)]=zw (L.set i (some j)):=by
 refine List.ext_getElem? fun k=>?_
 rw[List.getElem?_set,fN]
 by_cases q:i=k
 ·subst q
  rw[if_pos rfl,if_pos h,gv (by simpa using h),kQ (by rw[List.getElem?_set,if_pos rfl,if_pos h])]
 ·rw[if_neg q]
  rcases Nat.lt_or_ge k L.length with q2|q2
  ·rw[gv q2,gv (by simpa using q2)]
   congr 4
   unfold AE
   rw[List.getElem?_set_ne q]
  ·rw[List.getElem?_eq_none (by rw[fN];exact q2),List.getElem?_eq_none (by rw[fN];simpa using q2)]
def FV(H H':DH)(o:Ob):Prop:=H'.length=H.length/\∀ k,k≠o.l->H'[k]? = H[k]?
theorem FV.refl(H:DH)(o:Ob):FV H H o:=⟨rfl,fun _ _=>rfl⟩
theorem FV.trans{H H' H'':DH}{o:Ob}(h:FV H H' o)(k:FV H' H'' o):FV H H'' o:=⟨k.1.trans h.1,fun x hx=>(k.2 x hx).trans (h.2 x hx)⟩
variable{H:DH}{o:Ob}{N:List aH}{L:Lk}{cl:Bool}{sn:List Int}{now:Int}
theorem GG.setL(g:GG H o N L cl sn now){i j:Nat}(hi:i<N.length)(hj:j<N.length):GG (H.set o.l (.buf 1 true false (zw (L.set i (some j))))) o N (L.set i (some j)) cl sn now/\FV H (H.set o.l (.buf 1 true false (zw (L.set i (some j))))) o:=by
 have ne:∀ k,k≠o.l->(H.set o.l (.buf 1 true false (zw (L.set i (some j)))))[k]? = H[k]?:=fun k h=>List.getElem?_set_ne fun e=>h e.symm
 obtain⟨a1,a2,a3,a4⟩:=g.d1
 obtain⟨s,hg⟩:=g.ob
 obtain⟨ds,h1,h2⟩:=g.ha
 refine⟨⟨g.pos,by simp[g.lenL],g.lenS,⟨s,by rw[ne _ (fun e=>a4 e.symm),hg]⟩,by rw[ne _ (fun e=>a1 e.symm),g.hn],⟨ds,h1,by rw[ne _ (fun e=>a2 e.symm),h2]⟩,aN _ g.hl,by rw[ne _ (fun e=>a3 e.symm),g.hs],g.d1,g.d2,g.d3,g.kid,fun x y h=>?_,g.nm,g.sm,g.od,g.bnd⟩,by simp,ne⟩
 rw[List.getElem?_set]at h
 split at h
 ·split at h
  ·cases h;exact hj
  ·cases h
 ·exact g.lk x y h
theorem yL(a b:Int)(κ:D->ah):av ab .neq 3 false (.i a) (.i b) κ=κ (.bool (a != b)):=by kernel_rfl
theorem Pg(a:Int)(κ:List D->ah):ai 1 (.i a) κ=κ [.i a]:=rfl
theorem PR:∀(n:Nat) {H:DH} {L:Lk} (g:GG H o N L cl sn now) {i r:Nat} (h:Rt L i r n),∃ H' L',ae am 42 200001 [.g (.ptr o.g 0),.n (i:Nat)] [] H=ret (.i (r:Nat)) H'/\GG H' o N L' cl sn now/\mu N L L'/\FV H H' o:=by
 intro n
 induction n using Nat.strongRecOn with
 |ind n ih =>
  intro H L g i r h
  obtain⟨s,hg⟩:=g.ob
  have hll:N.length=(zw L).length:=by rw[fN,g.lenL]
  cases h with
  |z h =>
   have hi:i<L.length:=ao h
   refine⟨H,L,cM (xW) ?_,g,.refl _ _,.refl _ _⟩
   rw[ac hg]
   simp only[aj,ar]
   rw[Dj g.hl hll (gv hi),ry h,yL,ak,show(((i:Nat):Int) !=((i:Nat):Int))=false from by simp,cond_false]
  |s h k =>
   rename_i j m
   have hi:i<L.length:=ao h
   have hj:j<L.length:=by rw[g.lenL];exact g.lk i j h
   have hij:i≠j:=Rt.ne h k
   have key:∃ L2 q,(zw L).set i [.i (AE L j:Nat)]=zw L2/\L2=L.set i (some (AE L j))/\mu N L L2/\q<m+1/\Rt L2 (AE L j) r q:=by
    refine⟨L.set i (some (AE L j)),?_⟩
    cases k with
    |z k =>
     have e:L.set i (some r)=L:=by
      refine List.ext_getElem? fun x=>?_
      rw[List.getElem?_set]
      split
      ·rename_i e;subst e;simp[h]
      ·rfl
     rw[ry k,e]
     exact⟨0,by rw[vp hi,e],rfl,.refl _ _,by omega,.z k⟩
    |s k k2 =>
     rename_i z m
     rw[kQ k]
     have e:=mu.halve (N:=N) h k k2
     obtain⟨q,q1,q2⟩:=e.rt _ _ _ k2
     exact⟨q,vp hi,rfl,e,by omega,q2⟩
   obtain⟨L2,q,e1,e2,e3,e4,e5⟩:=key
   have hjv:AE L j<N.length:=by
    cases k with
    |z k=>rw[ry k,<- g.lenL];exact hj
    |s k _=>rw[kQ k];exact g.lk _ _ k
   obtain⟨g2,o2⟩:=g.setL (i:=i) (j:=AE L j) (by rw[<- g.lenL];exact hi) hjv
   rw[<- e2,<- e1]at g2 o2
   obtain⟨H',L',r1,r2,r3,r4⟩:=ih q e4 g2 e5
   refine⟨H',L',cM (xW) ?_,r2,e3.trans r3,o2.trans r4⟩
   have hne:(((j:Nat):Int) !=((i:Nat):Int))=true:=by simp;omega
   rw[ac hg]
   simp only[aj,ar]
   rw[Dj g.hl hll (gv hi),kQ h,yL,ak,hne,cond_true,ac hg]
   simp only[aj,ar]
   rw[ac hg]
   simp only[aj,ar]
   rw[ac hg]
   simp only[aj,ar]
   rw[Dj g.hl hll (gv hi),kQ h,Dj g.hl hll (gv hj)]
   have hb:∀ κ:List D->ah,ai 1 (.i (AE L j:Nat)) κ=κ [.i (AE L j:Nat)]:=fun _=>rfl
   rw[show ∀ κ:DH->ah,(aq ab 59 (.buf 1 o.l N.length) (.i (i:Nat)) fun a=>ai 1 (.i (AE L j:Nat)) fun b=>sK a b H κ)=(aq ab 59 (.buf 1 o.l N.length) (.i (i:Nat)) fun a=>sK a [.i (AE L j:Nat)] H κ)from fun _=>rfl]
   rw[DP g.hl hll (gv hi)]
   obtain⟨s2,hg2⟩:=g2.ob
   rw[ac hg2]
   simp only[aj,ar]
   have hi2:i<L2.length:=by rw[e2];simpa using hi
   have hll2:N.length=(zw L2).length:=by rw[fN,e2];simp[g.lenL]
   have hl2:=g2.hl
   rw[Dj hl2 hll2 (gv hi2)]
   rw[show AE L2 i=AE L j from by rw[e2];exact kQ (by rw[List.getElem?_set,if_pos rfl,if_pos hi])]
   exact r1
theorem wJ(g:GG H o N L cl sn now){i r n:Nat}(h:Rt L i r n):∃ H' L',ay 42 [.ptr o.g 0,.i (i:Nat)] H=ret (.i (r:Nat)) H'/\GG H' o N L' cl sn now/\mu N L L'/\FV H H' o:=by
 obtain⟨H',L',r1,r2⟩:=PR n g h
 exact⟨H',L',ev (f42) r1,r2⟩
theorem zc.mem{N:List aH}{L:Lk}{P Q:List (Nat×Nat)}(h:∀ p∈P,p∈Q)(k:zc N L P):zc N L Q:=fun i j x hi hx hv=>by
 obtain⟨y,a1,a2,a3,a4,a5⟩:=k i j x hi hx hv
 exact⟨y,a1,a2,a3,a4,fun α f hf hp=>a5 α f hf fun p hp'=>hp p (h p hp')⟩
theorem US.mem{N:List aH}{L L':Lk}{E E2:List (Nat×Nat)}{res}(h:∀ p,p∈E↔p∈E2)(k:US N L E res L'):US N L E2 res L' :=
 ⟨k.len,k.wf,k.rc,fun α f h1 h2 h3=>k.snd α f h1 h2 fun p hp=>h3 p ((h p).1 hp),fun q=>⟨fun α f hf=>⟨((k.cpl q).1 α f hf).1,fun p hp=>((k.cpl q).1 α f hf).2 p ((h p).2 hp)⟩,fun P hP=>(k.cpl q).2 P (hP.mem fun p hp=>by
  rcases List.mem_append.1 hp with hp|hp
  ·exact List.mem_append_left _ ((h p).2 hp)
  ·exact List.mem_append_right _ hp)⟩,k.lo⟩
theorem US.link2{N:List aH}{L:Lk}{a b ra rb n m:Nat}(ha:Rt L a ra n)(hb:Rt L b rb m)(hn:ra≠rb){E Z:List (Nat×Nat)}
 (hE:∀(α:Type) (f:Nat->α),zP N f->f ra=f rb->∀ p∈Z,f p.1=f p.2)
 (hC:∀ x,N[rb]? = some x->x.v=false->∃ y,N[ra]? = some y/\y.v=false/\x.n=y.n/\x.a.length=y.a.length/\∀(α:Type) (f:Nat->α),(∀ p∈Z,f p.1=f p.2)->x.a.map f=y.a.map f)
 (hlo:∀ y,N[ra]? = some y->y.v=true->∃ x,N[rb]? = some x/\x.v=true/\y.o<=x.o)
 {res L'} (k:US N (L.set rb (some ra)) (E++Z) res L'):US N L ((a,b)::E) res L'/\kO (L.set rb (some ra))<kO L:=by
 have h2:=hb.root
 have hl:=ao h2
 have hr:=wy (a:=ra) h2
 refine⟨⟨by simpa using k.len,k.wf,by have:=k.rc;omega,fun α f c1 c2 c3=>?_,fun q=>?_,fun q=>k.lo (q.link h2 hlo)⟩,by omega⟩
 ·have e:f ra=f rb:=by rw[<- c2.rt ha,<- c2.rt hb];exact c3 (a,b) List.mem_cons_self
  refine k.snd α f c1 ((bT.link h2 f).2 ⟨c2,e.symm⟩) fun p hp=>?_
  rcases List.mem_append.1 hp with hp|hp
  ·exact c3 p (List.mem_cons_of_mem _ hp)
  ·exact hE α f c1 e p hp
 ·obtain⟨q1,q2⟩:=k.cpl q
  refine⟨fun α f hf=>?_,fun P hP=>q2 P fun i j x hi hx hv=>?_⟩
  ·obtain⟨s1,s2⟩:=q1 α f hf
   obtain⟨s3,s4⟩:=(bT.link h2 f).1 s1
   refine⟨s3,fun p hp=>?_⟩
   rcases List.mem_cons.1 hp with rfl|hp
   ·show f a=f b
    rw[s3.rt ha,s3.rt hb,s4]
   ·exact s2 p (List.mem_append_left _ hp)
  ·rw[dE hl]at hi
   split at hi
   ·rename_i e;subst e;cases hi
    obtain⟨y,a1,a2,a3,a4,a5⟩:=hC x hx hv
    exact⟨y,a1,a2,a3,a4,fun α f _ hp=>a5 α f fun p hp'=>hp p (List.mem_append_left _ (List.mem_append_right _ hp'))⟩
   ·obtain⟨y,a1,a2,a3,a4,a5⟩:=hP i j x hi hx hv
    refine⟨y,a1,a2,a3,a4,fun α f hf hp=>?_⟩
    obtain⟨s3,s4⟩:=(bT.link h2 f).1 hf
    refine a5 α f s3 fun p hp'=>?_
    rcases List.mem_append.1 hp' with hp'|hp'
    ·rcases List.mem_cons.1 hp' with rfl|hp'
     ·show f a=f b
      rw[s3.rt ha,s3.rt hb,s4]
     ·exact hp p (List.mem_append_left _ (List.mem_append_left _ hp'))
    ·exact hp p (List.mem_append_right _ hp')
theorem US.go{N:List aH}{L L':Lk}{a b:Nat}{E:List (Nat×Nat)}{res}(h:US N L [(a,b)] false L)(k:US N L E res L'):US N L ((a,b)::E) false L' :=
 ⟨k.len,k.wf,k.rc,fun α f h1 h2 h3=>(by have:=(h.snd α f h1 h2 fun p hp=>h3 p (by simp at hp;simp[hp])).1;cases this),fun q=>(nomatch q),fun q=>k.lo (h.lo q)⟩
theorem US.samec{N:List aH}{L L':Lk}(hw:Wf L){a b r n m:Nat}(ha:Rt L a r n)(hb:Rt L b r m){E:List (Nat×Nat)}{res}(k:US N L E res L'):US N L ((a,b)::E) res L':=(US.same hw ha hb).cons k
def ga(E:List (Nat×Nat)):dB:=E.flatMap fun p=>[[.i (p.1:Nat)],[.i (p.2:Nat)]]
theorem II(E:List (Nat×Nat)):(ga E).length=2*E.length:=by
 induction E with
 |nil=>rfl
 |cons p r ih=>simp only[ga,List.flatMap_cons,List.length_append,List.length_cons,List.length_nil]at ih ⊢;omega
theorem qU(E F:List (Nat×Nat)):ga (E++F)=ga E++ga F:=by simp[ga]
def TD(H:DH)(p:Nat)(d:D)(l:dB):Prop:=(d=.buf 1 p l.length/\l≠[]/\H[p]? = some (.buf 1 true false l))\/∃ s,d=.tb 1 p s l.length/\H[p]? = some (.tbuf 1 s l)
theorem TD.ne{H H':DH}{p:Nat}{d:D}{l:dB}(h:TD H p d l)(k:H'[p]? = H[p]?):TD H' p d l:=by
 rcases h with⟨a,b,c⟩|⟨s,a,c⟩
 ·exact .inl ⟨a,b,by rw[k,c]⟩
 ·exact .inr ⟨s,a,by rw[k,c]⟩
theorem vW{H:DH}{o s z:Nat}{l:dB}(h:H[o]? = some (.tbuf z s l))(κ:Nat->dB->ah):Ir H o s κ=κ z l:=by
 rw[Ir,h];simp only[Nat.beq_refl,cond_true]
theorem TD.len{H:DH}{p:Nat}{d:D}{l:dB}(h:TD H p d l)(κ:D->ah):bJ ab 59 d H κ=κ (.i l.length):=by
 rcases h with⟨rfl,_,_⟩|⟨s,rfl,h⟩
 ·simp only[bJ,JX]
 ·simp only[bJ,JX]
theorem TD.at'{H:DH}{p:Nat}{d:D}{l:dB}(h:TD H p d l){i:Nat}{x:D}(hi:l[i]? = some [x])(κ:D->ah):(aq ab 59 d (.i i) fun a=>bQ ab 3 a H κ)=κ x:=by
 rcases h with⟨rfl,_,h⟩|⟨s,rfl,h⟩
 ·exact Dj h rfl hi κ
 ·rw[aq,JX]
  simp only[Sw,mI,Nat.beq_refl,cond_true,aP,ez (ao hi),boK,bQ,vW h,aI hi,WO]
theorem qM{m:Nat}(h:m<=4194304):aJ ab 3 m=true:=by
 have e:aJ ab 3 m=(Nat.ble (8*(m+Nat.div m 4+600)) 281474976710656&&Nat.ble m 4611686018427387904):=by kernel_rfl
 rw[e,Bool.and_eq_true]
 have h1:Nat.div m 4<=m:=Nat.div_le_self m 4
 exact⟨Nat.ble_eq_true_of_le (by omega),Nat.ble_eq_true_of_le (by omega)⟩
def Pj(H H':DH)(p:Nat):Prop:=H'.length=H.length/\∀ k,k≠p->H'[k]? = H[k]?
theorem Pj.set(H:DH)(p:Nat)(b:DB):Pj H (H.set p b) p:=⟨by simp,fun k h=>List.getElem?_set_ne fun e=>h e.symm⟩
theorem TD.cut{H:DH}{p:Nat}{d:D}{l:dB}(h:TD H p d l){m:Nat}(hm:m<=l.length):∃ s H',(∀ κ:D->DH->ah,Me ab 59 d none (some (.i (m:Nat))) none H κ=κ (.tb 1 p s m) H')/\TD H' p (.tb 1 p s m) (l.take m)/\Pj H H' p:=by
 have hl:(l.take m).length=m:=by rw[List.length_take];omega
 rcases h with⟨rfl,hne,h⟩|⟨s,rfl,h⟩
 ·have h0:0<l.length:=List.length_pos_iff.2 hne
  refine⟨l.length+1,H.set p (.tbuf 1 (l.length+1) (l.take m)),fun κ=>?_,.inr ⟨_,by rw[hl],aN _ h⟩,.set _ _ _⟩
  simp only[Me,JX,Sw,aP,Nat.beq_refl,cond_true,bK h rfl,show Nat.ble m l.length=true from Nat.ble_eq_true_of_le hm,ez h0,Bool.not_false,Bool.and_self,boK]
 ·refine⟨s+1,H.set p (.tbuf 1 (s+1) (l.take m)),fun κ=>?_,.inr ⟨_,by rw[hl],aN _ h⟩,.set _ _ _⟩
  simp only[Me,JX,Sw,aP,Nat.beq_refl,cond_true,vW h,show Nat.ble m l.length=true from Nat.ble_eq_true_of_le hm,Bool.and_self,boK]
theorem TD.app{H:DH}{p s:Nat}{l:dB}(h:TD H p (.tb 1 p s l.length) l)(hl:l.length<4000000)(x y:D):∃ s' H',(∀ κ:D->DH->ah,cE (aJ ab 3) 1 (.tb 1 p s l.length) [[x],[y]] H κ=κ (.tb 1 p s' (l++[[x],[y]]).length) H')/\TD H' p (.tb 1 p s' (l++[[x],[y]]).length) (l++[[x],[y]])/\Pj H H' p:=by
 rcases h with⟨e,_⟩|⟨s2,e,h⟩
 ·cases e
 ·injection e with _ _ e _
  subst e
  refine⟨s+1,H.set p (.tbuf 1 (s+1) (l++[[x],[y]])),fun κ=>?_,.inr ⟨_,rfl,aN _ h⟩,.set _ _ _⟩
  simp only[cE,List.length_cons,List.length_nil,qM (show 0+1+1<=4194304 by decide),boK,cond_true,Nat.beq_refl,vW h,qM (show l.length+(0+1+1)<=4194304 by omega),List.isEmpty_cons,Bool.not_false,Bool.and_self,List.length_append]
theorem jC{N:List aH}{ds:List D}(h:WQ N ds){i:Nat}{x:aH}(hx:N[i]? = some x):∃ d,ds[i]? = some d/\(∀(H:DH) (κ:D->ah),bJ ab 59 d H κ=κ (.i x.a.length))/\∀(k a:Nat) (H:DH) (κ:D->ah),x.a[k]? = some a->(aq ab 59 d (.i k) fun c=>bQ ab 3 c H κ)=κ (.i (a:Nat)):=by
 rcases h.2 i x hx with e|⟨e1,e⟩
 ·refine⟨_,e,fun H κ=>?_,fun k a H κ hk=>?_⟩
  ·simp only[bJ,JX,List.length_map]
  ·have h2:(x.a.map fun a=>[D.i (a:Nat)])[k]? = some [.i (a:Nat)]:=by rw[List.getElem?_map,hk];rfl
   rw[aq,JX]
   simp only[Sw,mI,Nat.beq_refl,cond_true,aP,aI h2,bQ,WO]
 ·refine⟨_,e,fun H κ=>?_,fun k a H κ hk=>?_⟩
  ·simp only[bJ,JX,e1];rfl
  ·rw[e1]at hk;cases hk
theorem eJ{ds:List D}{i:Nat}{d:D}(h:ds[i]? = some d):(ds.map fun d=>[d])[i]? = some [d]:=by rw[List.getElem?_map,h];rfl
theorem pm{N:List aH}{i:Nat}{x:aH}(h:N[i]? = some x):(Ks N)[i]? = some [.str (if x.v then [] else x.n)]:=by rw[Ks,List.getElem?_map,h];rfl
theorem Gg(a b:af)(κ:D->ah):av ab .eql 9 true (.str a) (.str b) κ=κ (.bool (a==b)):=by kernel_rfl
theorem Vj(a b:af)(κ:D->ah):av ab .neq 9 false (.str a) (.str b) κ=κ (.bool (!(a==b))):=by kernel_rfl
theorem KQ(a b:Int)(κ:D->ah):av ab .eql 3 false (.i a) (.i b) κ=κ (.bool (a==b)):=by kernel_rfl
theorem iF(a b:Int)(κ:D->ah):av ab .lss 3 false (.i a) (.i b) κ=κ (.bool (decide (a<b))):=by kernel_rfl
theorem Mm(a b:Int)(κ:D->ah):av ab .sub 3 true (.i a) (.i b) κ=κ (.i (cq (a - b))):=by kernel_rfl
theorem Tn(a b:Nat)(κ:D->ah):fX true (.i (a:Nat)) [.i (b:Nat)] κ=κ (.i ((max a b:Nat):Int)):=by
 have:fX true (.i (a:Nat)) [.i (b:Nat)] κ=κ (.i (bif decide (((b:Nat):Int)>(a:Nat))then((b:Nat):Int)else((a:Nat):Int))):=rfl
 rw[this]
 rcases Nat.lt_or_ge a b with h|h
 ·rw[decide_eq_true (by omega),cond_true,Nat.max_eq_right (by omega)]
 ·rw[decide_eq_false (by omega),cond_false,Nat.max_eq_left (by omega)]
theorem Ti(a b:Nat)(κ:D->ah):fX false (.i (a:Nat)) [.i (b:Nat)] κ=κ (.i ((min a b:Nat):Int)):=by
 have:fX false (.i (a:Nat)) [.i (b:Nat)] κ=κ (.i (bif decide (((b:Nat):Int)<(a:Nat))then((b:Nat):Int)else((a:Nat):Int))):=rfl
 rw[this]
 rcases Nat.lt_or_ge b a with h|h
 ·rw[decide_eq_true (by omega),cond_true,Nat.min_eq_right (by omega)]
 ·rw[decide_eq_false (by omega),cond_false,Nat.min_eq_left (by omega)]
variable{o:Ob}{N:List aH}{sn:List Int}{now:Int}
def LH(H H':DH)(o:Ob)(p:Nat):Prop:=H'.length=H.length/\∀ k,k≠o.l->k≠o.g->k≠p->H'[k]? = H[k]?
theorem LH.refl(H:DH)(o:Ob)(p:Nat):LH H H o p:=⟨rfl,fun _ _ _ _=>rfl⟩
theorem LH.trans{H H' H'':DH}{p:Nat}(h:LH H H' o p)(k:LH H' H'' o p):LH H H'' o p:=⟨k.1.trans h.1,fun x a b c=>(k.2 x a b c).trans (h.2 x a b c)⟩
theorem FV.u{H H':DH}{p:Nat}(h:FV H H' o):LH H H' o p:=⟨h.1,fun x a _ _=>h.2 x a⟩
theorem Pj.u{H H':DH}{p:Nat}(h:Pj H H' p):LH H H' o p:=⟨h.1,fun x _ _ c=>h.2 x c⟩
def Zc(o:Ob)(p:Nat):Prop:=p≠o.g/\p≠o.n/\p≠o.a/\p≠o.l/\p≠o.s
theorem GG.onP{H H':DH}{L:Lk}{cl:Bool}{p:Nat}(g:GG H o N L cl sn now)(h:Pj H H' p)(hp:Zc o p):GG H' o N L cl sn now:=by
 obtain⟨a1,a2,a3,a4,a5⟩:=hp
 have ne:∀ k,p≠k->H'[k]? = H[k]?:=fun k q=>h.2 k fun e=>q e.symm
 obtain⟨s,hg⟩:=g.ob
 obtain⟨ds,h1,h2⟩:=g.ha
 exact⟨g.pos,g.lenL,g.lenS,⟨s,by rw[ne _ a1,hg]⟩,by rw[ne _ a2,g.hn],⟨ds,h1,by rw[ne _ a3,h2]⟩,by rw[ne _ a4,g.hl],by rw[ne _ a5,g.hs],g.d1,g.d2,g.d3,g.kid,g.lk,g.nm,g.sm,g.od,g.bnd⟩
theorem GG.clash{H:DH}{L:Lk}{cl:Bool}(g:GG H o N L cl sn now){s:Nat}(hg:H[o.g]? = some (.cells s [.buf 1 o.n N.length,.buf 1 o.a N.length,.buf 1 o.l N.length,.bool cl,.buf 1 o.s N.length,.i now])):GG (H.set o.g (.cells (s+1) [.buf 1 o.n N.length,.buf 1 o.a N.length,.buf 1 o.l N.length,.bool true,.buf 1 o.s N.length,.i now])) o N L true sn now:=by
 have ne:∀ k,o.g≠k->(H.set o.g (.cells (s+1) [.buf 1 o.n N.length,.buf 1 o.a N.length,.buf 1 o.l N.length,.bool true,.buf 1 o.s N.length,.i now]))[k]? = H[k]?:=fun k q=>List.getElem?_set_ne q
 obtain⟨ds,h1,h2⟩:=g.ha
 exact⟨g.pos,g.lenL,g.lenS,⟨_,aN _ hg⟩,by rw[ne _ (fun e=>g.d3.2.1 e.symm),g.hn],⟨ds,h1,by rw[ne _ (fun e=>g.d3.2.2 e.symm),h2]⟩,by rw[ne _ (fun e=>g.d1.2.2.2 e.symm),g.hl],by rw[ne _ (fun e=>g.d2.2.2 e.symm),g.hs],g.d1,g.d2,g.d3,g.kid,g.lk,g.nm,g.sm,g.od,g.bnd⟩
def RU(o:Ob)(N:List aH)(sn:List Int)(now:Int)(H:DH)(L:Lk)(cl:Bool)(p:Nat)(E:List (Nat×Nat))(w:ah):Prop :=
 ∃ H' L' res,w=ret (.tuple []) H'/\GG H' o N L' (cl||!res) sn now/\US N L E res L'/\LH H H' o p
def RG(o:Ob)(N:List aH)(sn:List Int)(now:Int)(k e:Nat):Prop:=∀(H:DH) (L:Lk) (cl:Bool) (p:Nat) (d:D) (E:List (Nat×Nat)),GG H o N L cl sn now->Wf L->Zc o p->TD H p d (ga E)->(∀ q∈E,q.1<N.length/\q.2<N.length)->kO L<=k->E.length<=e->E.length+16*kO L<1500000 ->
 RU o N sn now H L cl p E (ae am 40 200001 [.g (.ptr o.g 0),.g d] [] H)
theorem An{H:DH}{L:Lk}{cl:Bool}{p ra rb:Nat}{x y:aH}(g:GG H o N L cl sn now)(hp:Zc o p)(hx:N[ra]? = some x)(hy:N[rb]? = some y):∀(l1 l2 p1 p2:List Nat) (H1:DH) (s:Nat) (E:List (Nat×Nat)),Pj H H1 p->TD H1 p (.tb 1 p s (ga E).length) (ga E)->x.a=p1++l1->y.a=p2++l2->p1.length=p2.length->l1.length=l2.length->E.length+l1.length<1600000 ->
 ∃ H' s',Pj H H' p/\TD H' p (.tb 1 p s' (ga (E++l1.zip l2)).length) (ga (E++l1.zip l2))/\ae am 40 200016 [.g (.ptr o.g 0),.g (.tb 1 p s (ga E).length),.n (ra:Nat),.n (rb:Nat),.n (p1.length:Nat)] [] H1=ae am 40 200001 [.g (.ptr o.g 0),.g (.tb 1 p s' (ga (E++l1.zip l2)).length)] [] H'
 |[],[],p1,p2,H1,s,E,o1,h,e1,e2,e3,_,_=>by
  refine⟨H1,s,o1,by simpa using h,cM (xX) ?_⟩
  have g1:=g.onP o1 hp
  obtain⟨sg,hg⟩:=g1.ob
  obtain⟨ds,h1,h2⟩:=g1.ha
  obtain⟨dx,k1,k2,_⟩:=jC h1 hx
  have hn:N.length=(ds.map fun d=>[d]).length:=by rw[List.length_map,h1.1]
  rw[ac hg]
  simp only[aj,ar]
  rw[qm h2 hn (eJ k1),k2,iF,e1,ak,show decide (((p1.length:Nat):Int)<(((p1++([]:List Nat)).length:Nat):Int))=false from by simp,cond_false]
  simp
 |[],b::l2,_,_,_,_,_,_,_,_,_,_,h,_=>by simp at h
 |a::l1,[],_,_,_,_,_,_,_,_,_,_,h,_=>by simp at h
 |a::l1,b::l2,p1,p2,H1,s,E,o1,h,e1,e2,e3,e4,hb=>by
  have g1:=g.onP o1 hp
  obtain⟨sg,hg⟩:=g1.ob
  obtain⟨ds,h1,h2⟩:=g1.ha
  obtain⟨dx,k1,k2,k3⟩:=jC h1 hx
  obtain⟨dy,j1,j2,j3⟩:=jC h1 hy
  have hn:N.length=(ds.map fun d=>[d]).length:=by rw[List.length_map,h1.1]
  have ia:x.a[p1.length]? = some a:=by rw[e1];simp
  have ib:y.a[p1.length]? = some b:=by rw[e2,e3];simp
  have hpl:=II E
  simp only[List.length_cons]at hb e4
  obtain⟨s',H2,u1,u2,u3⟩:=h.app (by omega) (.i (a:Nat)) (.i (b:Nat))
  have ep:ga E++[[D.i (a:Nat)],[.i (b:Nat)]]=ga (E++[(a,b)]):=by rw[qU];rfl
  rw[ep]at u1 u2
  have o2:Pj H H2 p:=⟨u3.1.trans o1.1,fun k hk=>(u3.2 k hk).trans (o1.2 k hk)⟩
  obtain⟨H',s2,r1,r2,r3⟩:=An g hp hx hy l1 l2 (p1++[a]) (p2++[b]) H2 s' (E++[(a,b)]) o2 u2 (by rw[e1];simp) (by rw[e2];simp) (by simp[e3]) (by omega) (by simp;omega)
  have eE:(E++[(a,b)])++l1.zip l2=E++(a::l1).zip (b::l2):=by simp
  rw[eE]at r2 r3
  refine⟨H',s2,r1,r2,Eq.trans (cM (xX) ?_) r3⟩
  have hw2:cq ((p1.length:Int)+1)=(((p1++[a]).length:Nat):Int):=by
   have:=g.sm ra x hx
   rw[e1]at this
   simp at this
   rw[aS (by omega)];simp
  rw[ac hg]
  simp only[aj,ar]
  rw[qm h2 hn (eJ k1),k2,iF,ak,show decide (((p1.length:Nat):Int)<((x.a.length:Nat):Int))=true from by rw[e1];simp;omega,cond_true,ac hg]
  simp only[aj,ar]
  rw[qm h2 hn (eJ k1),k3 _ _ _ _ ia,ac hg]
  simp only[aj,ar]
  rw[qm h2 hn (eJ j1),j3 _ _ _ _ ib,Pg,Pg,u1,hw2]
variable{o:Ob}{N:List aH}{sn:List Int}{now:Int}
def Xq(go:Nat)(c a b:D)(H:DH):ah:=av ab .eql 3 false a b fun d=>brD d (ae am 40 200001 [.g (.ptr go 0),.g c] [] H) (au H go fun _ d=>aA d 0 fun d=>aq ab 35 d a fun d=>bQ ab 9 d H fun d=>av ab .eql 9 true d (.str []) fun d=>brD d (au H go fun _ d=>aA d 0 fun d=>aq ab 35 d b fun d=>bQ ab 9 d H fun d=>av ab .eql 9 true d (.str []) fun d=>brD d (au H go fun _ d=>aA d 2 fun d=>fX true a [b] fun e=>fX false a [b] fun a=>aq ab 59 d e fun b=>ai 1 a fun a=>sK b a H fun H=>ae am 40 200001 [.g (.ptr go 0),.g c] [] H) (au H go fun _ d=>aA d 0 fun d=>aq ab 35 d b fun d=>bQ ab 9 d H fun d=>av ab .eql 9 true d (.str []) fun d=>brD d (ae am 40 10 [.g (.ptr go 0),.g c,.g b,.g a] [] H) (ae am 40 10 [.g (.ptr go 0),.g c,.g a,.g b] [] H))) (au H go fun _ d=>aA d 0 fun d=>aq ab 35 d b fun d=>bQ ab 9 d H fun d=>av ab .eql 9 true d (.str []) fun d=>brD d (ae am 40 10 [.g (.ptr go 0),.g c,.g b,.g a] [] H) (ae am 40 10 [.g (.ptr go 0),.g c,.g a,.g b] [] H)))
theorem US.symmc{N:List aH}{L L':Lk}{a b:Nat}{E:List (Nat×Nat)}{res}(h:US N L ((b,a)::E) res L'):US N L ((a,b)::E) res L' :=
 ⟨h.len,h.wf,h.rc,fun α f h1 h2 h3=>h.snd α f h1 h2 fun p hp=>(by
  rcases List.mem_cons.1 hp with rfl|hp
  ·exact(h3 (a,b) List.mem_cons_self).symm
  ·exact h3 p (List.mem_cons_of_mem _ hp)),fun q=>⟨fun α f hf=>⟨((h.cpl q).1 α f hf).1,fun p hp=>(by
  rcases List.mem_cons.1 hp with rfl|hp
  ·exact(((h.cpl q).1 α f hf).2 (b,a) List.mem_cons_self).symm
  ·exact((h.cpl q).1 α f hf).2 p (List.mem_cons_of_mem _ hp))⟩,fun P hP=>(h.cpl q).2 P fun i j x hi hx hv=>by
  obtain⟨y,a1,a2,a3,a4,a5⟩:=hP i j x hi hx hv
  refine⟨y,a1,a2,a3,a4,fun α f hf hp=>a5 α f hf fun p hp'=>?_⟩
  rcases List.mem_cons.1 hp' with rfl|hp'
  ·exact(hp (b,a) List.mem_cons_self).symm
  ·exact hp p (List.mem_cons_of_mem _ hp')⟩,h.lo⟩
theorem Zp(a b c e f x y:D)(κ:List D->ah):az [a,b,c,x,e,f] 3 [y] κ=κ [a,b,c,y,e,f]:=rfl
theorem LU{H:DH}{L:Lk}{cl:Bool}{p:Nat}{d:D}(g:GG H o N L cl sn now)(hw:Wf L)(ht:TD H p d (ga [])):RU o N sn now H L cl p [] (ae am 40 200001 [.g (.ptr o.g 0),.g d] [] H):=by
 refine⟨H,L,true,cM (xY) ?_,by simpa using g,.nil hw,.refl _ _ _⟩
 rw[ht.len,ff,ak,show decide ((((ga []).length:Nat):Int)>0)=false from by rfl,cond_false]
theorem wR{H:DH}{L:Lk}{cl:Bool}(g:GG H o N L cl sn now){i:Nat}{x:aH}(h:N[i]? = some x):((if x.v then [] else x.n:af)==[])=x.v:=by
 cases q:x.v with
 |true=>rfl
 |false =>
  have:=g.nm i x h q
  simpa using this
theorem Pm{k e:Nat}(ihk:∀ k',k'<k->∀ e,RG o N sn now k' e)(ihe:RG o N sn now k e):RG o N sn now k (e+1):=fun H L cl p d E g hw hp ht hE hk hl hb=>by
 rcases List.eq_nil_or_concat E with rfl|⟨E',q,hq⟩
 ·exact LU g hw ht
 ·rw[List.concat_eq_append]at hq
  subst hq
  obtain⟨a,b⟩:=q
  rw[List.length_append,List.length_singleton]at hl hb
  obtain⟨la,lb⟩:=hE (a,b) (by simp)
  simp only at la lb
  obtain⟨ra,n1,h1⟩:=hw a (by rw[g.lenL];exact la)
  obtain⟨H1,L1,r1,g1,q1,f1⟩:=wJ g h1
  have w1:=hw.eqv q1
  obtain⟨rb,n2,h2⟩:=w1 b (by rw[g1.lenL];exact lb)
  obtain⟨H2,L2,r2,g2,q2,f2⟩:=wJ g1 h2
  have w2:=w1.eqv q2
  obtain⟨m1,_,h1'⟩:=q1.rt _ _ _ h1
  obtain⟨m1,_,h1'⟩:=q2.rt _ _ _ h1'
  obtain⟨m2,_,h2'⟩:=q2.rt _ _ _ h2
  have q12:=q1.trans q2
  have nr:kO L2=kO L:=q12.rc
  have pl:=II E'
  have el:(ga (E'++[(a,b)])).length=(ga E').length+2:=by rw[qU];simp[ga]
  have i0:(ga (E'++[(a,b)]))[(ga E').length]? = some [.i (a:Nat)]:=by rw[qU];simp[ga]
  have i1:(ga (E'++[(a,b)]))[(ga E').length+1]? = some [.i (b:Nat)]:=by rw[qU];simp[ga]
  have t1:TD H1 p d (ga (E'++[(a,b)])):=ht.ne (f1.2 p hp.2.2.2.1)
  have t2:TD H2 p d (ga (E'++[(a,b)])):=t1.ne (f2.2 p hp.2.2.2.1)
  obtain⟨s3,H3,c1,c2,c3⟩:=t2.cut (m:=(ga E').length) (by omega)
  have etk:(ga (E'++[(a,b)])).take (ga E').length=ga E':=by rw[qU];simp
  rw[etk]at c2
  have g3:=g2.onP c3 hp
  have fr:LH H H3 o p:=(f1.u.trans f2.u).trans c3.u
  have lra:ra<N.length:=by rw[<- g2.lenL];exact ao h1'.root
  have lrb:rb<N.length:=by rw[<- g2.lenL];exact ao h2'.root
  have hx:=List.getElem?_eq_getElem lra
  generalize N[ra]=x at hx
  have hy:=List.getElem?_eq_getElem lrb
  generalize N[rb]=y at hy
  obtain⟨sg,hg⟩:=g3.ob
  obtain⟨ds,hd1,hd2⟩:=g3.ha
  have hnn:N.length=(Ks N).length:=by simp[Ks]
  have hnl:N.length=(zw L2).length:=by rw[fN,g3.lenL]
  have hna:N.length=(ds.map fun d=>[d]).length:=by rw[List.length_map,hd1.1]
  have hE':∀ q∈E',q.1<N.length/\q.2<N.length:=fun q h=>hE q (List.mem_append_left _ h)
  have mem:∀ z,z∈(a,b)::E'↔z∈E'++[(a,b)]:=fun z=>by simp[or_comm]
  have st:∀ z,Xq o.g (.tb 1 p s3 (ga E').length) (.i (ra:Nat)) (.i (rb:Nat)) H3=z->ae am 40 200001 [.g (.ptr o.g 0),.g d] [] H=z:=fun z hz=>by
   have wa:cq ((((ga (E'++[(a,b)])).length:Nat):Int) - 2)=(((ga E').length:Nat):Int):=by
    have:((((ga (E'++[(a,b)])).length:Nat):Int) - 2)=(((ga E').length:Nat):Int):=by rw[el];omega
    rw[this]
    cases hq:(ga E').length with
    |zero=>rfl
    |succ n=>exact aS (by omega)
   have wb:cq ((((ga (E'++[(a,b)])).length:Nat):Int) - 1)=(((ga E').length+1:Nat):Int):=by
    have:((((ga (E'++[(a,b)])).length:Nat):Int) - 1)=(((ga E').length:Nat):Int)+1:=by rw[el];omega
    rw[this,aS (by omega)]
   refine cM (xY) ?_
   rw[ht.len,ff,ak,show decide ((((ga (E'++[(a,b)])).length:Nat):Int)>0)=true from by rw[el];simp;omega,cond_true,ht.len,Mm,wa,ht.at' i0,aw r1,t1.len,Mm,wb,t1.at' i1,aw r2,t2.len,Mm,wa,c1]
   exact hz
  have go:∀ {L':Lk} {cl2:Bool} {H4:DH},GG H4 o N L' cl2 sn now->Wf L'->kO L'<=k->LH H3 H4 o p->TD H4 p (.tb 1 p s3 (ga E').length) (ga E')->E'.length+16*kO L'<1500000->RU o N sn now H4 L' cl2 p E' (ae am 40 200001 [.g (.ptr o.g 0),.g (.tb 1 p s3 (ga E').length)] [] H4):=fun g4 w4 n4 _ t4 b4=>ihe _ _ _ _ _ _ g4 w4 hp t4 hE' n4 (by omega) b4
  have tdL:∀ {H4:DH},FV H3 H4 o->TD H4 p (.tb 1 p s3 (ga E').length) (ga E'):=fun h=>c2.ne (h.2 p hp.2.2.2.1)
  by_cases e0:ra=rb
  ·subst e0
   obtain⟨H',L',res,z1,z2,z3,z4⟩:=go g3 w2 (by rw[nr];exact hk) (.refl _ _ _) c2 (by rw[nr];omega)
   refine⟨H',L',res,st _ ?_,z2,.mem mem (.pre q12 (.samec w2 h1' h2' z3)),fr.trans z4⟩
   rw[Xq,KQ,ak,show(((ra:Nat):Int)==((ra:Nat):Int))=true from by simp,cond_true]
   exact z1
  ·have ne0:(((ra:Nat):Int)==((rb:Nat):Int))=false:=by simp;omega
   have lnk:∀ {i j:Nat} {E2:List (Nat×Nat)} (d2:D) (w:DH->ah),i<N.length->j<N.length->L2[i]? = some none->(∀ H4,FV H3 H4 o->GG H4 o N (L2.set i (some j)) cl sn now->RU o N sn now H4 (L2.set i (some j)) cl p E2 (w H4))->(∀ {res L'},US N (L2.set i (some j)) E2 res L'->US N L2 ((a,b)::E') res L')->(aq ab 59 (.buf 1 o.l N.length) (.i (i:Nat)) fun a=>sK a [.i (j:Nat)] H3 w)=(w (H3.set o.l (.buf 1 true false (zw (L2.set i (some j))))))/\RU o N sn now H L cl p (E'++[(a,b)]) (w (H3.set o.l (.buf 1 true false (zw (L2.set i (some j)))))):=fun {i j E2} d2 w hi hj hr hw2 hus=>by
    obtain⟨g4,o4⟩:=g3.setL hi hj
    refine⟨?_,?_⟩
    ·rw[DP g3.hl hnl (gv (by rw[g3.lenL];exact hi)),vp (by rw[g3.lenL];exact hi)]
    ·obtain⟨H',L',res,z1,z2,z3,z4⟩:=hw2 _ o4 g4
     exact⟨H',L',res,z1,z2,.mem mem (.pre q12 (hus z3)),(fr.trans o4.u).trans z4⟩
   have nrs:∀ {i j:Nat},L2[i]? = some none->kO (L2.set i (some j))<=k/\E'.length+16*kO (L2.set i (some j))<1500000/\kO (L2.set i (some j))<kO L2:=fun {i j} h=>by
    have:=wy (a:=j) h
    rw[nr]at this ⊢
    omega
   have names:∀ z,(cond x.v (cond y.v (aq ab 59 (.buf 1 o.l N.length) (.i ((max ra rb:Nat):Int)) fun b=>sK b [.i ((min ra rb:Nat):Int)] H3 fun H=>ae am 40 200001 [.g (.ptr o.g 0),.g (.tb 1 p s3 (ga E').length)] [] H) (ae am 40 10 [.g (.ptr o.g 0),.g (.tb 1 p s3 (ga E').length),.n (ra:Nat),.n (rb:Nat)] [] H3)) (cond y.v (ae am 40 10 [.g (.ptr o.g 0),.g (.tb 1 p s3 (ga E').length),.n (rb:Nat),.n (ra:Nat)] [] H3) (ae am 40 10 [.g (.ptr o.g 0),.g (.tb 1 p s3 (ga E').length),.n (ra:Nat),.n (rb:Nat)] [] H3)))=z->ae am 40 200001 [.g (.ptr o.g 0),.g d] [] H=z:=fun z hz=>by
    refine st _ ?_
    rw[Xq,KQ,ak,ne0,cond_false,ac hg,aj,zK g3.hn hnn (pm hx),Gg,ak,wR g3 hx,<- hz]
    cases hvx:x.v with
    |true =>
     rw[cond_true,cond_true,ac hg,aj,zK g3.hn hnn (pm hy),Gg,ak,wR g3 hy]
     cases hvy:y.v with
     |true =>
      rw[cond_true,cond_true,ac hg]
      simp only[aj,ar]
      rw[Tn,Ti]
      rfl
     |false =>
      rw[cond_false,cond_false,ac hg,aj,zK g3.hn hnn (pm hy),Gg,ak,wR g3 hy,hvy,cond_false]
    |false =>
     rw[cond_false,cond_false,ac hg,aj,zK g3.hn hnn (pm hy),Gg,ak,wR g3 hy]
   have ten:∀ {i j:Nat} {x:aH},N[i]? = some x->x.v=true->ae am 40 10 [.g (.ptr o.g 0),.g (.tb 1 p s3 (ga E').length),.n (i:Nat),.n (j:Nat)] [] H3=aq ab 59 (.buf 1 o.l N.length) (.i (i:Nat)) fun a=>sK a [.i (j:Nat)] H3 fun H=>ae am 40 200001 [.g (.ptr o.g 0),.g (.tb 1 p s3 (ga E').length)] [] H:=fun {i j x} hx hv=>by
    refine cM (Oa) ?_
    rw[ac hg,aj,zK g3.hn hnn (pm hx),Gg,ak,wR g3 hx,hv,cond_true,ac hg]
    simp only[aj,ar]
   have goL:∀ {i j:Nat},L2[i]? = some none->L2[j]? = some none->i≠j->∀ H4,FV H3 H4 o->GG H4 o N (L2.set i (some j)) cl sn now->RU o N sn now H4 (L2.set i (some j)) cl p E' (ae am 40 200001 [.g (.ptr o.g 0),.g (.tb 1 p s3 (ga E').length)] [] H4):=fun {i j} hi hj hij H4 h4 g4=>go g4 (w2.link hi hj (fun e=>hij e.symm)) (nrs hi).1 h4.u (tdL h4) (nrs hi).2.1
   have lb2:y.v=true->(x.v=true->x.o<=y.o)->∀ {res L'},US N (L2.set rb (some ra)) E' res L'->US N L2 ((a,b)::E') res L':=fun hv ho {res L'} k=>(US.link2 (Z:=[]) h1' h2' e0 (fun _ _ _ _ p q=>nomatch q) (fun z hz vz=>by rw[hy]at hz;cases hz;rw[hv]at vz;cases vz) (fun z hz vz=>by rw[hx]at hz;cases hz;exact⟨y,hy,hv,ho vz⟩) (by simpa using k)).1
   have la2:x.v=true->(y.v=true->y.o<=x.o)->∀ {res L'},US N (L2.set ra (some rb)) E' res L'->US N L2 ((a,b)::E') res L':=fun hv ho {res L'} k=>.symmc (US.link2 (Z:=[]) h2' h1' (fun q=>e0 q.symm) (fun _ _ _ _ p q=>nomatch q) (fun z hz vz=>by rw[hx]at hz;cases hz;rw[hv]at vz;cases vz) (fun z hz vz=>by rw[hy]at hz;cases hz;exact⟨x,hx,hv,ho vz⟩) (by simpa using k)).1
   cases hvx:x.v with
   |true =>
    cases hvy:y.v with
    |true =>
     rcases Nat.lt_or_ge ra rb with q|q
     ·obtain⟨z1,z2⟩:=lnk (i:=rb) (j:=ra) (E2:=E') .nilrow _ lrb lra h2'.root (goL h2'.root h1'.root (fun q=>e0 q.symm)) (lb2 hvy fun _=>by rw[g3.od ra x hx hvx,g3.od rb y hy hvy];omega)
      rw[names _ rfl,hvx,hvy,cond_true,cond_true,Nat.max_eq_right (by omega),Nat.min_eq_left (by omega),z1]
      exact z2
     ·obtain⟨z1,z2⟩:=lnk (i:=ra) (j:=rb) (E2:=E') .nilrow _ lra lrb h1'.root (goL h1'.root h2'.root e0) (la2 hvx fun _=>by rw[g3.od ra x hx hvx,g3.od rb y hy hvy];omega)
      rw[names _ rfl,hvx,hvy,cond_true,cond_true,Nat.max_eq_left (by omega),Nat.min_eq_right (by omega),z1]
      exact z2
    |false =>
     obtain⟨z1,z2⟩:=lnk (i:=ra) (j:=rb) (E2:=E') .nilrow _ lra lrb h1'.root (goL h1'.root h2'.root e0) (la2 hvx fun q=>by rw[hvy]at q;cases q)
     rw[names _ rfl,hvx,hvy,cond_true,cond_false,ten hx hvx,z1]
     exact z2
   |false =>
    cases hvy:y.v with
    |true =>
     obtain⟨z1,z2⟩:=lnk (i:=rb) (j:=ra) (E2:=E') .nilrow _ lrb lra h2'.root (goL h2'.root h1'.root (fun q=>e0 q.symm)) (lb2 hvy fun q=>by rw[hvx]at q;cases q)
     rw[names _ rfl,hvx,hvy,cond_false,cond_true,ten hy hvy,z1]
     exact z2
    |false =>
     have nx:(if x.v then [] else x.n:af)=x.n:=by rw[hvx];rfl
     have ny:(if y.v then [] else y.n:af)=y.n:=by rw[hvy];rfl
     have two:∀ z,(cond (!(x.n==y.n)) (ae am 40 200001 [.g (.ptr o.g 0),.g (.tb 1 p s3 (ga E').length)] [] (H3.set o.g (.cells (sg+1) [.buf 1 o.n N.length,.buf 1 o.a N.length,.buf 1 o.l N.length,.bool true,.buf 1 o.s N.length,.i now]))) (cond (((x.a.length:Nat):Int) !=((y.a.length:Nat):Int)) (ae am 40 200001 [.g (.ptr o.g 0),.g (.tb 1 p s3 (ga E').length)] [] (H3.set o.g (.cells (sg+1) [.buf 1 o.n N.length,.buf 1 o.a N.length,.buf 1 o.l N.length,.bool true,.buf 1 o.s N.length,.i now]))) (aq ab 59 (.buf 1 o.l N.length) (.i (rb:Nat)) fun a=>sK a [.i (ra:Nat)] H3 fun H=>ae am 40 200016 [.g (.ptr o.g 0),.g (.tb 1 p s3 (ga E').length),.n (ra:Nat),.n (rb:Nat),.n 0] [] H)))=z->ae am 40 200001 [.g (.ptr o.g 0),.g d] [] H=z:=fun z hz=>by
      obtain⟨dx,k1,k2,_⟩:=jC hd1 hx
      obtain⟨dy,j1,j2,_⟩:=jC hd1 hy
      rw[names _ rfl,hvx,hvy,cond_false,cond_false]
      refine cM (Oa) ?_
      rw[ac hg,aj,zK g3.hn hnn (pm hx),Gg,ak,wR g3 hx,hvx,cond_false,ac hg,aj,zK g3.hn hnn (pm hx),ac hg,aj,zK g3.hn hnn (pm hy),nx,ny,Vj,ak,<- hz]
      cases hq:!(x.n==y.n)with
      |true =>
       rw[cond_true,cond_true,ac hg,Zp]
      |false =>
       rw[cond_false,cond_false,ac hg]
       simp only[aj,ar]
       rw[qm hd2 hna (eJ k1),k2,ac hg]
       simp only[aj,ar]
       rw[qm hd2 hna (eJ j1),j2,yL,ak]
       cases hq2:(((x.a.length:Nat):Int) !=((y.a.length:Nat):Int))with
       |true =>
        rw[cond_true,cond_true,ac hg,Zp]
       |false =>
        rw[cond_false,cond_false,ac hg]
        simp only[aj,ar]
     have cls:(x.n≠y.n\/x.a.length≠y.a.length)->RU o N sn now H L cl p (E'++[(a,b)]) (ae am 40 200001 [.g (.ptr o.g 0),.g (.tb 1 p s3 (ga E').length)] [] (H3.set o.g (.cells (sg+1) [.buf 1 o.n N.length,.buf 1 o.a N.length,.buf 1 o.l N.length,.bool true,.buf 1 o.s N.length,.i now]))):=fun hcl=>by
      have g4:=g3.clash hg
      have o4:LH H3 (H3.set o.g (.cells (sg+1) [.buf 1 o.n N.length,.buf 1 o.a N.length,.buf 1 o.l N.length,.bool true,.buf 1 o.s N.length,.i now])) o p:=⟨by simp,fun k _ h _=>List.getElem?_set_ne fun e=>h e.symm⟩
      obtain⟨H',L',res,z1,z2,z3,z4⟩:=go g4 w2 (by rw[nr];exact hk) o4 (c2.ne (List.getElem?_set_ne fun e=>hp.1 e.symm)) (by rw[nr];omega)
      exact⟨H',L',false,z1,by simpa using z2,.mem mem (.pre q12 (.go (.clash w2 h1' h2' hx hy hvx hvy hcl) z3)),(fr.trans o4).trans z4⟩
     by_cases e1:x.n=y.n
     ·by_cases e2:x.a.length=y.a.length
      ·have h16:=g3.sm ra x hx
       obtain⟨g4,o4⟩:=g3.setL lrb lra
       obtain⟨H4,s4,v1,v2,v3⟩:=An g4 hp hx hy x.a y.a [] [] _ s3 E' ⟨rfl,fun _ _=>rfl⟩ (tdL o4) rfl rfl rfl e2 (by omega)
       have g5:=g4.onP v1 hp
       have nl:=(nrs (j:=ra) h2'.root).2.2
       have hz:=List.length_zip (l₁:=x.a) (l₂:=y.a)
       have hk0:kO (L2.set rb (some ra))<k:=by rw[nr]at nl;omega
       obtain⟨H',L',res,z1,z2,z3,z4⟩:=ihk (k - 1) (by omega) (E'++x.a.zip y.a).length _ _ _ _ _ _ g5 (w2.link h2'.root h1'.root e0) hp v2 (fun q hq=>by
        rcases List.mem_append.1 hq with hq|hq
        ·exact hE' q hq
        ·have:=List.of_mem_zip (a:=q.1) (b:=q.2) hq
         exact⟨g3.kid ra x hx _ this.1,g3.kid rb y hy _ this.2⟩) (by omega) (Nat.le_refl _) (by
        rw[List.length_append,hz]
        rw[nr]at nl
        omega)
       refine⟨H',L',res,two _ ?_,z2,.mem mem (.pre q12 (US.link2 h1' h2' e0 (fun α f hc e p hp=>(qw e2).2 (hc _ _ _ _ hx hy hvx hvy e).2 p hp) (fun z hz _=>by
        rw[hy]at hz;cases hz
        exact⟨x,hx,hvx,e1.symm,e2.symm,fun α f hp=>((qw e2).1 hp).symm⟩) (fun z hz vz=>by rw[hx]at hz;cases hz;rw[hvx]at vz;cases vz) z3).1),((fr.trans o4.u).trans v1.u).trans z4⟩
       rw[show(!(x.n==y.n))=false from by simp[e1],cond_false,show(((x.a.length:Nat):Int) !=((y.a.length:Nat):Int))=false from by simp[e2],cond_false,DP g3.hl hnl (gv (by rw[g3.lenL];exact lrb)),vp (by rw[g3.lenL];exact lrb)]
       exact Eq.trans v3 z1
      ·rw[two _ rfl,show(!(x.n==y.n))=false from by simp[e1],cond_false,show(((x.a.length:Nat):Int) !=((y.a.length:Nat):Int))=true from by simp;omega,cond_true]
       exact cls (.inr e2)
     ·rw[two _ rfl,show(!(x.n==y.n))=true from by simpa using e1,cond_true]
      exact cls (.inl e1)
theorem Sm:∀ k e,RG o N sn now k e:=fun k=>by
 induction k using Nat.strongRecOn with
 |ind k ihk =>
  intro e
  induction e with
  |zero =>
   intro H L cl p d E g hw hp ht hE hk hl hb
   have:E=[]:=List.length_eq_zero_iff.1 (by omega)
   subst this
   exact LU g hw ht
  |succ e ihe=>exact Pm ihk ihe
variable{o:Ob}{N:List aH}{sn:List Int}{now:Int}
theorem GM:∀ L:Lk,kO L<=L.length
 |[]=>Nat.le_refl _
 |none::r=>by have:=GM r;simp only[kO,List.length_cons];omega
 |some _::r=>by have:=GM r;simp only[kO,List.length_cons];omega
theorem GG.lt{H:DH}{L:Lk}{cl:Bool}(g:GG H o N L cl sn now):o.g<H.length/\o.n<H.length/\o.a<H.length/\o.l<H.length/\o.s<H.length:=by
 obtain⟨s,hg⟩:=g.ob
 obtain⟨ds,_,h2⟩:=g.ha
 exact⟨ao hg,ao g.hn,ao h2,ao g.hl,ao g.hs⟩
theorem GG.app{H:DH}{L:Lk}{cl:Bool}(g:GG H o N L cl sn now)(X:DH):GG (H++X) o N L cl sn now:=by
 obtain⟨s,hg⟩:=g.ob
 obtain⟨ds,h1,h2⟩:=g.ha
 exact⟨g.pos,g.lenL,g.lenS,⟨s,cW hg⟩,cW g.hn,⟨ds,h1,cW h2⟩,cW g.hl,cW g.hs,g.d1,g.d2,g.d3,g.kid,g.lk,g.nm,g.sm,g.od,g.bnd⟩
theorem Vf{H:DH}{L:Lk}{cl:Bool}(g:GG H o N L cl sn now)(hw:Wf L){a b:Nat}(ha:a<N.length)(hb:b<N.length)(hN:N.length<90000):∃ H' L' res,ay 40 [.ptr o.g 0,.i (a:Nat),.i (b:Nat)] H=ret (.tuple []) H'/\GG H' o N L' (cl||!res) sn now/\US N L [(a,b)] res L'/\H.length<=H'.length/\∀ k,k<H.length->k≠o.l->k≠o.g->H'[k]? = H[k]?:=by
 obtain⟨l1,l2,l3,l4,l5⟩:=g.lt
 have hr:=GM L
 rw[g.lenL]at hr
 obtain⟨H',L',res,r1,r2,r3,r4⟩:=Sm (o:=o) (N:=N) (sn:=sn) (now:=now) (kO L) 1 (H++[.buf 1 true false (ga [(a,b)])]) L cl H.length (.buf 1 H.length 2) [(a,b)] (g.app _) hw ⟨by omega,by omega,by omega,by omega,by omega⟩ (.inl ⟨rfl,by simp[ga],bk _ _⟩) (fun q h=>by simp at h;subst h;exact⟨ha,hb⟩) (Nat.le_refl _) (Nat.le_refl _) (by simp;omega)
 refine⟨H',L',res,ev (f40) ?_,r2,r3,by rw[r4.1];simp,fun k h1 h2 h3=>by rw[r4.2 k h2 h3 (by omega),List.getElem?_append_left h1]⟩
 exact r1
theorem Nz(L:Lk):zw (L++[none])=zw L++[[.i (L.length:Nat)]]:=by
 refine List.ext_getElem? fun k=>?_
 rcases Nat.lt_trichotomy k L.length with q|q|q
 ·rw[gv (by simp;omega),List.getElem?_append_left (by rw[fN];exact q),gv q]
  congr 4
  unfold AE
  rw[List.getElem?_append_left q]
 ·subst q
  rw[gv (by simp),List.getElem?_append_right (by rw[fN];omega),fN,Nat.sub_self,ry (by simp)]
  rfl
 ·rw[List.getElem?_eq_none (by rw[fN];simp;omega),List.getElem?_eq_none (by simp[fN];omega)]
theorem Nl(N:List aH)(x:aH):Ks (N++[x])=Ks N++[[.str (if x.v then [] else x.n)]]:=by simp[Ks]
def WU(x:aH)(d:D):Prop:=d=.row 1 (x.a.map fun a=>[.i (a:Nat)])\/(x.a=[]/\d=.nilrow)
theorem ON{N:List aH}{ds:List D}(h:WQ N ds){x:aH}{d:D}(hd:WU x d):WQ (N++[x]) (ds++[d]):=by
 refine⟨by simp[h.1],fun i y hy=>?_⟩
 rcases Nat.lt_trichotomy i N.length with q|q|q
 ·rw[List.getElem?_append_left q]at hy
  have e:(ds++[d])[i]? = ds[i]?:=List.getElem?_append_left (by rw[h.1];exact q)
  rw[e];exact h.2 i y hy
 ·subst q
  simp at hy;subst hy
  have e:(ds++[d])[N.length]? = some d:=by rw[<- h.1];simp
  rw[e]
  rcases hd with rfl|⟨e1,rfl⟩
  ·exact .inl rfl
  ·exact .inr ⟨e1,rfl⟩
 ·rw[List.getElem?_eq_none (by simp;omega)]at hy;cases hy
theorem yO{H:DH}{p n:Nat}{l:dB}{ok:Nat->Bool}(h:H[p]? = some (.buf 1 true false l))(hn:n=l.length)(hok:∀ m,m<=l.length+1->ok m=true)(x:D)(κ:D->DH->ah):cE ok 1 (.buf 1 p n) [[x]] H κ=κ (.buf 1 p (n+1)) (H.set p (.buf 1 true false (l++[[x]]))):=by
 subst hn
 have h4:=bH h (κ:=fun _ st cap l2=>boK (ok (l2.length+1)&&!(cap&&List.isEmpty [[x]])) (grow p 1 st cap l2 [[x]] H κ))
 simp only[cE,List.length_singleton,hok 1 (by omega),boK,cond_true,Nat.beq_refl]
 refine Eq.trans h4 ?_
 rw[hok _ (Nat.le_refl _)]
 simp only[List.isEmpty_cons,Bool.and_false,Bool.not_false,Bool.and_self,boK,cond_true,grow,cond_false]
 simp
theorem sh{H:DH}{ok:Nat->Bool}(hok:ok 1=true)(x:D)(κ:D->DH->ah):cE ok 1 .nilrow [[x]] H κ=κ (.buf 1 H.length 1) (H++[.buf 1 true false [[x]]]):=by
 simp only[cE,List.length_singleton,hok,boK,cond_true]
 rfl
variable{o:Ob}{N:List aH}{sn:List Int}{now:Int}
theorem cB(s p n:Nat)(κ:List D->ah):ai 1 (.buf s p n) κ=κ [.buf s p n]:=rfl
theorem Zo(a b c e f x y:D)(κ:List D->ah):az [x,a,b,c,e,f] 0 [y] κ=κ [y,a,b,c,e,f]:=rfl
theorem Zn(a b c e f x y:D)(κ:List D->ah):az [a,x,b,c,e,f] 1 [y] κ=κ [a,y,b,c,e,f]:=rfl
theorem Zm(a b c e f x y:D)(κ:List D->ah):az [a,b,x,c,e,f] 2 [y] κ=κ [a,b,y,c,e,f]:=rfl
theorem Zl(a b c e f x y:D)(κ:List D->ah):az [a,b,c,e,x,f] 4 [y] κ=κ [a,b,c,e,y,f]:=rfl
theorem AF(p n:Nat)(H:DH)(κ:D->ah):bJ ab 59 (.buf 1 p n) H κ=κ (.i n):=by simp only[bJ,JX]
theorem MH{m:Nat}(h:m<=4194304):aJ ab 9 m=true:=by
 have e:aJ ab 9 m=(Nat.ble (16*(m+Nat.div m 4+600)) 281474976710656&&Nat.ble m 4611686018427387904):=by kernel_rfl
 rw[e,Bool.and_eq_true]
 have h1:Nat.div m 4<=m:=Nat.div_le_self m 4
 exact⟨Nat.ble_eq_true_of_le (by omega),Nat.ble_eq_true_of_le (by omega)⟩
theorem MJ{m:Nat}(h:m<=4194304):aJ ab 59 m=true:=by
 have e:aJ ab 59 m=(Nat.ble (24*(m+Nat.div m 4+600)) 281474976710656&&Nat.ble m 4611686018427387904):=by kernel_rfl
 rw[e,Bool.and_eq_true]
 have h1:Nat.div m 4<=m:=Nat.div_le_self m 4
 exact⟨Nat.ble_eq_true_of_le (by omega),Nat.ble_eq_true_of_le (by omega)⟩
def OnG(H H':DH)(o:Ob):Prop:=H'.length=H.length/\∀ k,k≠o.l->k≠o.g->k≠o.n->k≠o.a->k≠o.s->H'[k]? = H[k]?
theorem PT{H:DH}{L:Lk}{cl:Bool}(g:GG H o N L cl sn now)(x:aH){d:D}(hd:WU x d)(hk:∀ a∈x.a,a<N.length)(hn:x.v=false->x.n≠[])(h16:x.a.length<=16)(ho:x.v=true->x.o=(N.length:Nat))(hb:N.length+1<4194304) :
 ∃ H',ay 65 [.ptr o.g 0,.str (if x.v then [] else x.n),d] H=ret (.i (N.length:Nat)) H'/\GG H' o (N++[x]) (L++[none]) cl (sn++[0]) now/\OnG H H' o:=by
 obtain⟨s,hg⟩:=g.ob
 obtain⟨ds,h1,h2⟩:=g.ha
 obtain⟨a1,a2,a3,a4⟩:=g.d1
 obtain⟨b1,b2,b3⟩:=g.d2
 obtain⟨c1,c2,c3⟩:=g.d3
 have hdl:N.length=(ds.map fun d=>[d]).length:=by rw[List.length_map,h1.1]
 have hnl:N.length=(Ks N).length:=by simp[Ks]
 have hll:N.length=(zw L).length:=by rw[fN,g.lenL]
 have hsl:N.length=(sn.map fun z=>[D.i z]).length:=by rw[List.length_map,g.lenS]
 have cd:∀ κ:List D->ah,ai 1 d κ=κ [d]:=fun κ=>by
  rcases hd with rfl|⟨_,rfl⟩<;>rfl
 let Bn:DB:=.buf 1 true false (Ks N++[[.str (if x.v then [] else x.n)]])
 let Ba:DB:=.buf 1 true false ((ds.map fun d=>[d])++[[d]])
 let Bl:DB:=.buf 1 true false (zw L++[[.i (N.length:Nat)]])
 let Bs:DB:=.buf 1 true false ((sn.map fun z=>[D.i z])++[[.i 0]])
 let K1:DB:=.cells (s+1) [.buf 1 o.n (N.length+1),.buf 1 o.a N.length,.buf 1 o.l N.length,.bool cl,.buf 1 o.s N.length,.i now]
 let K2:DB:=.cells (s+1+1) [.buf 1 o.n (N.length+1),.buf 1 o.a (N.length+1),.buf 1 o.l N.length,.bool cl,.buf 1 o.s N.length,.i now]
 let K3:DB:=.cells (s+1+1+1) [.buf 1 o.n (N.length+1),.buf 1 o.a (N.length+1),.buf 1 o.l (N.length+1),.bool cl,.buf 1 o.s N.length,.i now]
 let K4:DB:=.cells (s+1+1+1+1) [.buf 1 o.n (N.length+1),.buf 1 o.a (N.length+1),.buf 1 o.l (N.length+1),.bool cl,.buf 1 o.s (N.length+1),.i now]
 have m1:(H.set o.n Bn)[o.g]? = some _:=ag _ c2 hg
 have m2:((H.set o.n Bn).set o.g K1)[o.g]? = some K1:=aN _ m1
 have m3:((H.set o.n Bn).set o.g K1)[o.a]? = some _:=ag _ (fun e=>c3 e.symm) (ag _ c1 h2)
 have m4:(((H.set o.n Bn).set o.g K1).set o.a Ba)[o.g]? = some K1:=ag _ c3 m2
 have m5:((((H.set o.n Bn).set o.g K1).set o.a Ba).set o.g K2)[o.g]? = some K2:=aN _ m4
 have m6:((((H.set o.n Bn).set o.g K1).set o.a Ba).set o.g K2)[o.l]? = some _:=ag _ (fun e=>a4 e.symm) (ag _ (fun e=>a2 e.symm) (ag _ (fun e=>a4 e.symm) (ag _ (fun e=>a1 e.symm) g.hl)))
 have m7:(((((H.set o.n Bn).set o.g K1).set o.a Ba).set o.g K2).set o.l Bl)[o.g]? = some K2:=ag _ a4 m5
 have m8:((((((H.set o.n Bn).set o.g K1).set o.a Ba).set o.g K2).set o.l Bl).set o.g K3)[o.g]? = some K3:=aN _ m7
 have m9:((((((H.set o.n Bn).set o.g K1).set o.a Ba).set o.g K2).set o.l Bl).set o.g K3)[o.s]? = some _:=ag _ (fun e=>b3 e.symm) (ag _ a3 (ag _ (fun e=>b3 e.symm) (ag _ (fun e=>b2 e.symm) (ag _ (fun e=>b3 e.symm) (ag _ (fun e=>b1 e.symm) g.hs)))))
 have m10:(((((((H.set o.n Bn).set o.g K1).set o.a Ba).set o.g K2).set o.l Bl).set o.g K3).set o.s Bs)[o.g]? = some K3:=ag _ b3 m8
 have m11:((((((((H.set o.n Bn).set o.g K1).set o.a Ba).set o.g K2).set o.l Bl).set o.g K3).set o.s Bs).set o.g K4)[o.g]? = some K4:=aN _ m10
 refine⟨_,ev (Zv) ?_,⟨by simp,by simp[g.lenL],by simp[g.lenS],⟨_,by rw[List.length_append,List.length_singleton];exact m11⟩,?_,⟨ds++[d],ON h1 hd,?_⟩,?_,?_,g.d1,g.d2,g.d3,fun i y hy=>?_,fun i j h=>?_,fun i y hy hv=>?_,fun i y hy=>?_,fun i y hy hv=>?_,by simpa using hb⟩,⟨by simp,fun k q1 q2 q3 q4 q5=>?_⟩⟩
 ·rw[ac hg,aj,yO g.hn hnl (fun m hm=>MH (by rw[<- hnl]at hm;omega)),cB,ac m1,Zo]
  try dsimp only
  rw[ac m2,ar,aj,cd,yO m3 hdl (fun m hm=>MJ (by rw[<- hdl]at hm;omega)),cB,ac m4,Zn]
  try dsimp only
  rw[ac m5]
  simp only[ar,aj]
  rw[ac m5]
  simp only[ar,aj]
  rw[AF,Pg,yO m6 hll (fun m hm=>qM (by rw[<- hll]at hm;omega)),cB,ac m7,Zm]
  try dsimp only
  rw[ac m8]
  simp only[ar,aj]
  rw[yO m9 hsl (fun m hm=>qM (by rw[<- hsl]at hm;omega)),cB,ac m10,Zl]
  try dsimp only
  rw[ac m11]
  simp only[ar,aj]
  rw[AF,Mm,show cq ((((N.length+1:Nat)):Int) - 1)=((N.length:Nat):Int)from by
   rw[show((((N.length+1:Nat)):Int) - 1)=((N.length:Nat):Int)from by omega]
   cases hq:N.length with
   |zero=>rfl
   |succ n=>exact aS (by omega)]
 ·rw[Nl]
  exact ag _ (fun e=>c2 e.symm) (ag _ b1 (ag _ (fun e=>c2 e.symm) (ag _ a1 (ag _ (fun e=>c2 e.symm) (ag _ (fun e=>c1 e.symm) (ag _ (fun e=>c2 e.symm) (aN _ g.hn)))))))
 ·rw[List.map_append]
  exact ag _ (fun e=>c3 e.symm) (ag _ b2 (ag _ (fun e=>c3 e.symm) (ag _ a2 (ag _ (fun e=>c3 e.symm) (aN _ m3)))))
 ·rw[Nz,g.lenL]
  exact ag _ (fun e=>a4 e.symm) (ag _ (fun e=>a3 e.symm) (ag _ (fun e=>a4 e.symm) (aN _ m6)))
 ·rw[List.map_append]
  exact ag _ (fun e=>b3 e.symm) (aN _ m9)
 ·rcases Nat.lt_trichotomy i N.length with q|q|q
  ·rw[List.getElem?_append_left q]at hy
   exact fun a ha=>by have:=g.kid i y hy a ha;simp;omega
  ·subst q
   simp at hy;subst hy
   exact fun a ha=>by have:=hk a ha;simp;omega
  ·rw[List.getElem?_eq_none (by simp;omega)]at hy;cases hy
 ·rcases Nat.lt_trichotomy i L.length with q|q|q
  ·rw[List.getElem?_append_left q]at h
   have:=g.lk i j h;simp;omega
  ·subst q;simp at h
  ·rw[List.getElem?_eq_none (by simp;omega)]at h;cases h
 ·rcases Nat.lt_trichotomy i N.length with q|q|q
  ·rw[List.getElem?_append_left q]at hy;exact g.nm i y hy hv
  ·subst q
   simp at hy;subst hy;exact hn hv
  ·rw[List.getElem?_eq_none (by simp;omega)]at hy;cases hy
 ·rcases Nat.lt_trichotomy i N.length with q|q|q
  ·rw[List.getElem?_append_left q]at hy;exact g.sm i y hy
  ·subst q
   simp at hy;subst hy;exact h16
  ·rw[List.getElem?_eq_none (by simp;omega)]at hy;cases hy
 ·rcases dP hy with hy|⟨rfl,rfl⟩
  ·exact g.od i y hy hv
  ·exact ho hv
 ·rw[List.getElem?_set_ne (fun e=>q2 e.symm),List.getElem?_set_ne (fun e=>q5 e.symm),List.getElem?_set_ne (fun e=>q2 e.symm),List.getElem?_set_ne (fun e=>q1 e.symm),List.getElem?_set_ne (fun e=>q2 e.symm),List.getElem?_set_ne (fun e=>q4 e.symm),List.getElem?_set_ne (fun e=>q2 e.symm),List.getElem?_set_ne (fun e=>q3 e.symm)]
def Ob.ws(o:Ob):List Nat:=[o.g,o.n,o.a,o.l,o.s]
def GS(H:DH)(go:Nat)(W:List Nat)(N:List aH)(L:Lk)(cl:Bool)(sn:List Int):Prop :=
 (N=[]/\L=[]/\cl=false/\sn=[]/\W=[go]/\∃ s,H[go]? = some (.cells s [.nilrow,.nilrow,.nilrow,.bool false,.nilrow,.i 0]))\/∃ o:Ob,o.g=go/\W=o.ws/\GG H o N L cl sn 0
structure Gr(H H':DH)(W W':List Nat):Prop where
 len:H.length<=H'.length
 fr:∀ k,k<H.length->k∉W->H'[k]? = H[k]?
 ws:∀ w∈W',w∈W\/H.length<=w
theorem Gr.refl(H:DH)(W:List Nat):Gr H H W W:=⟨Nat.le_refl _,fun _ _ _=>rfl,fun w h=>.inl h⟩
theorem Gr.trans{H H' H'':DH}{W W' W'':List Nat}(h:Gr H H' W W')(k:Gr H' H'' W' W''):Gr H H'' W W'':=⟨Nat.le_trans h.len k.len,fun x hx hw=>by
 rw[k.fr x (Nat.lt_of_lt_of_le hx h.len) (fun q=>by
  rcases h.ws x q with q|q
  ·exact hw q
  ·omega),h.fr x hx hw],fun w hw=>by
 rcases k.ws w hw with q|q
 ·exact h.ws w q
 ·exact .inr (Nat.le_trans h.len q)⟩
theorem Qm(H:DH)(κ:D->ah):bJ ab 59 .nilrow H κ=κ (.i 0):=by simp only[bJ,JX]
theorem Vw{H:DH}{go s:Nat}(hg:H[go]? = some (.cells s [.nilrow,.nilrow,.nilrow,.bool false,.nilrow,.i 0]))(x:aH)(hx:x.a=[])(hn:x.v=false->x.n≠[])(ho:x.v=true->x.o=((0:Nat):Int)){d:D}(hd:WU x d) :
 ∃ H',ay 65 [.ptr go 0,.str (if x.v then [] else x.n),d] H=ret (.i ((0:Nat):Int)) H'/\GG H' ⟨go,H.length,H.length+1,H.length+2,H.length+3⟩ [x] [none] false [0] 0/\H'.length=H.length+4/\∀ k,k<H.length->k≠go->H'[k]? = H[k]?:=by
 have hgl:=ao hg
 have cd:∀ κ:List D->ah,ai 1 d κ=κ [d]:=fun κ=>by
  rcases hd with rfl|⟨_,rfl⟩<;>rfl
 let Bn:DB:=.buf 1 true false [[.str (if x.v then [] else x.n)]]
 let Ba:DB:=.buf 1 true false [[d]]
 let Bl:DB:=.buf 1 true false [[.i 0]]
 let K1:DB:=.cells (s+1) [.buf 1 H.length 1,.nilrow,.nilrow,.bool false,.nilrow,.i 0]
 let K2:DB:=.cells (s+1+1) [.buf 1 H.length 1,.buf 1 (H.length+1) 1,.nilrow,.bool false,.nilrow,.i 0]
 let K3:DB:=.cells (s+1+1+1) [.buf 1 H.length 1,.buf 1 (H.length+1) 1,.buf 1 (H.length+2) 1,.bool false,.nilrow,.i 0]
 let K4:DB:=.cells (s+1+1+1+1) [.buf 1 H.length 1,.buf 1 (H.length+1) 1,.buf 1 (H.length+2) 1,.bool false,.buf 1 (H.length+3) 1,.i 0]
 have l1:((H++[Bn]).set go K1).length=H.length+1:=by simp
 have l2:((((H++[Bn]).set go K1)++[Ba]).set go K2).length=H.length+2:=by simp
 have l3:((((((H++[Bn]).set go K1)++[Ba]).set go K2)++[Bl]).set go K3).length=H.length+3:=by simp
 have m1:(H++[Bn])[go]? = some _:=cW hg
 have m2:((H++[Bn]).set go K1)[go]? = some K1:=aN _ m1
 have m4:(((H++[Bn]).set go K1)++[Ba])[go]? = some K1:=cW m2
 have m5:((((H++[Bn]).set go K1)++[Ba]).set go K2)[go]? = some K2:=aN _ m4
 have m7:(((((H++[Bn]).set go K1)++[Ba]).set go K2)++[Bl])[go]? = some K2:=cW m5
 have m8:((((((H++[Bn]).set go K1)++[Ba]).set go K2)++[Bl]).set go K3)[go]? = some K3:=aN _ m7
 have m10:(((((((H++[Bn]).set go K1)++[Ba]).set go K2)++[Bl]).set go K3)++[Bl])[go]? = some K3:=cW m8
 have m11:((((((((H++[Bn]).set go K1)++[Ba]).set go K2)++[Bl]).set go K3)++[Bl]).set go K4)[go]? = some K4:=aN _ m10
 have n1:((H++[Bn]).set go K1)[H.length]? = some Bn:=ag _ (by omega) (bk _ _)
 have n2:((((H++[Bn]).set go K1)++[Ba]).set go K2)[H.length+1]? = some Ba:=ag _ (by omega) (by rw[<- l1];exact bk _ _)
 have n3:((((((H++[Bn]).set go K1)++[Ba]).set go K2)++[Bl]).set go K3)[H.length+2]? = some Bl:=ag _ (by omega) (by rw[<- l2];exact bk _ _)
 have n4:((((((((H++[Bn]).set go K1)++[Ba]).set go K2)++[Bl]).set go K3)++[Bl]).set go K4)[H.length+3]? = some Bl:=ag _ (by omega) (by rw[<- l3];exact bk _ _)
 have one:∀(i:Nat) (y:aH),[x][i]? = some y->i=0/\y=x:=fun i y h=>by
  cases i with
  |zero=>simp at h;exact⟨rfl,h.symm⟩
  |succ i=>simp at h
 refine⟨_,ev (Zv) ?_,⟨by simp,rfl,rfl,⟨_,m11⟩,?_,⟨[d],⟨rfl,fun i y h=>?_⟩,?_⟩,?_,n4,⟨by simp,by simp,by simp,by simp;omega⟩,⟨by simp,by simp,by simp;omega⟩,⟨by simp,by simp;omega,by simp;omega⟩,fun i y h=>?_,fun i j h=>?_,fun i y h hv=>?_,fun i y h=>?_,fun i y h hv=>?_,by simp⟩,by simp,fun k h1 h2=>?_⟩
 ·rw[ac hg,aj,sh (MH (by omega)),cB,ac m1,Zo]
  try dsimp only
  rw[ac m2,ar,aj,cd,sh (MJ (by omega)),l1,cB,ac m4,Zn]
  try dsimp only
  rw[ac m5]
  simp only[ar,aj]
  rw[ac m5]
  simp only[ar,aj]
  rw[Qm,Pg,sh (qM (by omega)),l2,cB,ac m7,Zm]
  try dsimp only
  rw[ac m8]
  simp only[ar,aj]
  rw[sh (qM (by omega)),l3,cB,ac m10,Zl]
  try dsimp only
  rw[ac m11]
  simp only[ar,aj]
  rw[AF,Mm]
  rfl
 ·exact ag _ (by simp;omega) (cW (ag _ (by simp;omega) (cW (ag _ (by simp;omega) (cW n1)))))
 ·obtain⟨rfl,rfl⟩:=one i y h
  rcases hd with rfl|⟨e1,rfl⟩
  ·exact .inl rfl
  ·exact .inr ⟨e1,rfl⟩
 ·exact ag _ (by simp;omega) (cW (ag _ (by simp;omega) (cW n2)))
 ·exact ag _ (by simp;omega) (cW n3)
 ·obtain⟨rfl,rfl⟩:=one i y h
  rw[hx];exact fun a ha=>nomatch ha
 ·cases i with
  |zero=>simp at h
  |succ i=>simp at h
 ·obtain⟨rfl,rfl⟩:=one i y h
  exact hn hv
 ·obtain⟨rfl,rfl⟩:=one i y h
  rw[hx];exact Nat.zero_le _
 ·obtain⟨rfl,rfl⟩:=one i y h
  exact ho hv
 ·rw[List.getElem?_set_ne (fun e=>h2 e.symm),List.getElem?_append_left (by rw[l3];omega),List.getElem?_set_ne (fun e=>h2 e.symm),List.getElem?_append_left (by rw[l2];omega),List.getElem?_set_ne (fun e=>h2 e.symm),List.getElem?_append_left (by rw[l1];omega),List.getElem?_set_ne (fun e=>h2 e.symm),List.getElem?_append_left h1]
theorem GS.node{H:DH}{go:Nat}{W:List Nat}{N:List aH}{L:Lk}{cl:Bool}{sn:List Int}(g:GS H go W N L cl sn)(x:aH){d:D}(hd:WU x d)(hk:∀ a∈x.a,a<N.length)(hn:x.v=false->x.n≠[])(h16:x.a.length<=16)(ho:x.v=true->x.o=(N.length:Nat))(hb:N.length+1<4194304) :
 ∃ H' W',ay 65 [.ptr go 0,.str (if x.v then [] else x.n),d] H=ret (.i (N.length:Nat)) H'/\GS H' go W' (N++[x]) (L++[none]) cl (sn++[0])/\Gr H H' W W':=by
 rcases g with⟨rfl,rfl,rfl,rfl,rfl,s,hg⟩|⟨o,rfl,rfl,g⟩
 ·have hx:x.a=[]:=by
   cases q:x.a with
   |nil=>rfl
   |cons a r=>have:=hk a (by rw[q];simp);simp at this
  obtain⟨H',r1,r2,r3,r4⟩:=Vw hg x hx hn ho hd
  refine⟨H',_,r1,.inr ⟨_,rfl,rfl,r2⟩,⟨by omega,fun k h1 h2=>r4 k h1 (fun e=>h2 (by simp[e])),fun w hw=>?_⟩⟩
  simp only[Ob.ws,List.mem_cons,List.mem_nil_iff,or_false]at hw
  rcases hw with rfl|rfl|rfl|rfl|rfl
  ·exact .inl (by simp)
  ·exact .inr (by omega)
  ·exact .inr (by omega)
  ·exact .inr (by omega)
  ·exact .inr (by omega)
 ·obtain⟨H',r1,r2,r3⟩:=PT g x hd hk hn h16 ho hb
  refine⟨H',_,r1,.inr ⟨o,rfl,rfl,r2⟩,⟨by rw[r3.1];exact Nat.le_refl _,fun k _ h2=>?_,fun w hw=>.inl hw⟩⟩
  simp only[Ob.ws,List.mem_cons,List.mem_nil_iff,or_false,not_or]at h2
  exact r3.2 k h2.2.2.2.1 h2.1 h2.2.1 h2.2.2.1 h2.2.2.2.2
end Go.Proofs.YtenibcfppefobaaGreatDoor
namespace Go.Proofs.YtenibcfppefobaaGreatDoor
open Go.AI
def AS(H:DH)(b:Nat)(o:List af)(d:D):Prop:=(d=.nilrow/\o=[])\/∃ p,b<=p/\d=.buf 1 p o.length/\H[p]? = some (.buf 1 true false (o.map fun n=>[.str n]))
structure Kr(b:Nat)(H H':DH):Prop where
 len:H.length<=H'.length
 at':∀ o,o<b->H'[o]? = H[o]?
 nb:∀ o,o<H.length->(∀ st cp l,H[o]?≠some (.buf 1 st cp l))->H'[o]? = H[o]?
theorem Kr.refl(b:Nat)(H:DH):Kr b H H:=⟨Nat.le_refl _,fun _ _=>rfl,fun _ _ _=>rfl⟩
theorem Kr.trans{b:Nat}{H H' H'':DH}(h:Kr b H H')(k:Kr b H' H''):Kr b H H'':=⟨Nat.le_trans h.len k.len,fun o ho=>by rw[k.at' o ho,h.at' o ho],fun o ho hn=>by
 have e:=h.nb o ho hn
 rw[k.nb o (Nat.lt_of_lt_of_le ho h.len) (fun st cp l q=>hn st cp l (by rw[<- e];exact q)),e]⟩
theorem Zi:ab.underlying 35=some (.slice 9):=by kernel_rfl
theorem ZG:size ab 9=some 1:=by kernel_rfl
theorem ZN(s:af)(κ:D->ah):ci ab 9 [.str s] 0 κ=κ (.str s):=by kernel_rfl
theorem ZH(a b:af)(κ:D->ah):av ab .eql 9 false (.str a) (.str b) κ=κ (.bool (a==b)):=by kernel_rfl
theorem Fy(a b:Int)(κ:D->ah):av ab .geq 3 true (.i a) (.i b) κ=κ (.bool (decide (a>=b))):=by kernel_rfl
theorem MI{m:Nat}(h:m<=4194304):aJ ab 9 m=true:=by
 have e:aJ ab 9 m=(Nat.ble (16*(m+Nat.div m 4+600)) 281474976710656&&Nat.ble m 4611686018427387904):=by kernel_rfl
 rw[e,Bool.and_eq_true]
 have h1:Nat.div m 4<=m:=Nat.div_le_self m 4
 exact⟨Nat.ble_eq_true_of_le (by omega),Nat.ble_eq_true_of_le (by omega)⟩
theorem AS.len{H:DH}{b:Nat}{o:List af}{d:D}(h:AS H b o d)(κ:D->ah):bJ ab 35 d H κ=κ (.i o.length):=by
 rcases h with⟨rfl,rfl⟩|⟨p,hp,rfl,_⟩<;>(simp only[bJ,Zi];try rfl)
theorem AS.at'{H:DH}{b:Nat}{o:List af}{d:D}(h:AS H b o d){i:Nat}{n:af}(hi:o[i]? = some n)(κ:D->ah):(aq ab 35 d (.i i) fun a=>bQ ab 9 a H κ)=κ (.str n):=by
 rcases h with⟨rfl,rfl⟩|⟨p,hp,rfl,hb⟩
 ·cases hi
 ·have hl:(List.map (fun n=>[D.str n]) o).length=o.length:=List.length_map _
  have h2:(List.map (fun n=>[D.str n]) o)[i]? = some [.str n]:=by rw[List.getElem?_map,hi];rfl
  have h3:=bH hb (κ:=fun _ _ _ l=>dM l i fun cs=>ci ab 9 cs 0 κ)
  rw[hl]at h3
  rw[aq,Zi]
  simp only[ZG,mI,Nat.beq_refl,cond_true,aP,show Nat.blt i o.length=true from Nat.ble_eq_true_of_le (ao hi),boK,bQ,h3,aI h2,ZN]
theorem AS.add{H:DH}{b:Nat}{o:List af}{d:D}(h:AS H b o d)(hb:b<=H.length)(hl:o.length<4194304)(n:af):∃ d' H',(∀ κ:D->DH->ah,cE (aJ ab 9) 1 d [[.str n]] H κ=κ d' H')/\AS H' b (o++[n]) d'/\Kr b H H':=by
 rcases h with⟨rfl,rfl⟩|⟨p,hp,rfl,h⟩
 ·refine⟨.buf 1 H.length 1,H++[.buf 1 true false [[.str n]]],fun κ=>?_,.inr ⟨H.length,hb,rfl,bk _ _⟩,⟨by simp,fun o h=>List.getElem?_append_left (by omega),fun o h _=>List.getElem?_append_left h⟩⟩
  simp only[cE,List.length_singleton,MI (show 1<=4194304 by decide),boK,cond_true]
  rfl
 ·have hm:(List.map (fun n=>[D.str n]) o).length=o.length:=List.length_map _
  have e2:(List.map (fun n=>[D.str n]) o)++[[.str n]]=(o++[n]).map fun n=>[.str n]:=by simp
  refine⟨.buf 1 p (o++[n]).length,H.set p (.buf 1 true false ((o++[n]).map fun n=>[.str n])),fun κ=>?_,.inr ⟨p,hp,rfl,aN _ h⟩,⟨by simp,fun o' h=>List.getElem?_set_ne (by omega),fun o' _ q=>List.getElem?_set_ne (fun e=>q _ _ _ (e▸h))⟩⟩
  have h4:=bH h (κ:=fun _ st cap l2=>boK (aJ ab 9 (l2.length+1)&&!(cap&&List.isEmpty [[D.str n]])) (grow p 1 st cap l2 [[.str n]] H κ))
  rw[hm]at h4
  simp only[cE,List.length_singleton,MI (show 1<=4194304 by decide),boK,cond_true,Nat.beq_refl]
  refine Eq.trans h4 ?_
  rw[MI (by omega)]
  simp only[List.isEmpty_cons,Bool.and_false,Bool.not_false,Bool.and_self,boK,cond_true,grow,cond_false]
  rw[e2,hm]
  simp
def PL:af->Bool
 |[]=>false
 |c::_=>Nat.mod c 256==39
theorem YU(a b:Int)(κ:D->ah):av ab .eql 5 true (.int .u8 a) (.int .u8 b) κ=κ (.bool (a==b)):=by kernel_rfl
theorem Hd(n:af)(xs:List Ty)(H:DH):ay 63 [.agg [.str n,.row 2 (aM xs)]] H=ret (.bool (PL n)) H:=by
 refine ev (ZX) ?_
 cases n with
 |nil=>rfl
 |cons c r =>
  have e:decide ((((c::r).length:Nat):Int)>0)=true:=by simp
  rw[e,cond_true]
  show av ab .eql 5 true (.int .u8 (.ofNat (Nat.mod c 256))) (.int .u8 39) (fun a=>ret a H)=_
  rw[YU]
  have:((Int.ofNat (Nat.mod c 256))==39)=(Nat.mod c 256==39):=by
   rw[Bool.eq_iff_iff]
   simp only[beq_iff_eq]
   exact⟨fun h=>Int.ofNat.inj h,fun h=>by rw[h];rfl⟩
  rw[this]
  rfl
theorem AZ{H:DH}{b:Nat}{o:List af}{d:D}(h:AS H b o d)(ho:o.length<4194304)(n:af):∀(l pre:List af),o=pre++l->n∉pre->∃ k:Int,ae am 66 200002 [.g d,.g (.str n),.n (pre.length:Nat)] [] H=ret (.i k) H/\((n∉o/\k=-1)\/∃ i:Nat,k=i/\o[i]? = some n)
 |[],pre,e,hn=>by
  refine⟨-1,cM (xN) ?_,.inl ⟨by rw[e];simpa using hn,rfl⟩⟩
  rw[h.len,iF,ak,show decide ((pre.length:Int)<(o.length:Int))=false from by rw[e];simp,cond_false]
 |m::l,pre,e,hn=>by
  have hi:o[pre.length]? = some m:=by rw[e];simp
  have hw2:cq ((pre.length:Int)+1)=(((pre++[m]).length:Nat):Int):=by
   rw[aS (by
    have:o.length=pre.length+(l.length+1):=by rw[e];simp
    omega)];simp
  have st:∀ z,(cond (m==n) (ret (.i (pre.length:Nat)) H) (ae am 66 200002 [.g d,.g (.str n),.n ((pre++[m]).length:Nat)] [] H))=z->ae am 66 200002 [.g d,.g (.str n),.n (pre.length:Nat)] [] H=z:=fun z hz=>by
   refine cM (xN) ?_
   rw[h.len,iF,ak,show decide ((pre.length:Int)<(o.length:Int))=true from by rw[e];simp;omega,cond_true,h.at' hi,ZH,ak,hw2]
   exact hz
  by_cases q:m=n
  ·refine⟨(pre.length:Nat),st _ (by rw[show(m==n)=true from by simpa using q,cond_true]),.inr ⟨pre.length,rfl,by rw[hi,q]⟩⟩
  ·obtain⟨k,r1,r2⟩:=AZ h ho n l (pre++[m]) (by rw[e];simp) (by simp;exact⟨hn,fun e=>q e.symm⟩)
   exact⟨k,st _ (by rw[show(m==n)=false from by simpa using q,cond_false];exact r1),r2⟩
theorem Jm{H:DH}{b:Nat}{o:List af}{d:D}(h:AS H b o d)(ho:o.length<4194304)(n:af):∃ k:Int,ay 66 [d,.str n] H=ret (.i k) H/\((n∉o/\k=-1)\/∃ i:Nat,k=i/\o[i]? = some n):=by
 obtain⟨k,r1,r2⟩:=AZ h ho n o [] rfl (by simp)
 exact⟨k,ev (ZV) r1,r2⟩
theorem QA{H:DH}{b:Nat}{o:List af}{d:D}(h:AS H b o d)(ho:o.length<4194304)(n:af):ay 64 [d,.str n] H=ret (.bool (decide (n∈o))) H:=by
 obtain⟨k,r1,r2⟩:=Jm h ho n
 refine ev (ZW) ?_
 rw[aw r1,Fy]
 rcases r2 with⟨e1,rfl⟩|⟨i,rfl,e⟩
 ·rw[decide_eq_false e1];rfl
 ·rw[decide_eq_true (List.mem_of_getElem? e),decide_eq_true (by omega)]
variable{kind:af->Int}(HQ:∀ n k,fF kind n k=true->PL n=(kind n==4))(k1:(kind [45,62]==4)=false)(k2:(kind [44]==4)=false)
include HQ k1 k2
mutual
theorem Jz:∀(t:Ty) (H:DH) (b:Nat) (o:List af) (d:D),AS H b o d->b<=H.length->o.Nodup->o.length+bE t<4194304->uS kind t ->
 ∃ d' H',ay 37 [.agg (cG t),d] H=ret d' H'/\AS H' b (BD kind t o) d'/\Kr b H H'
 |.mk n xs,H,b,o,d,h,hb,hn,hs,hv=>by
  simp only[uS]at hv
  simp only[bE]at hs
  have hq:=HQ n _ hv.1
  have st:∀ z,(cond (kind n==4) (cond (decide (n∈o)) (ae am 37 200005 [.lp 0 0,.g d,.n 0] [(0,[.str n,.row 2 (aM xs)])] H) (cE (aJ ab 9) 1 d [[.str n]] H fun a H=>ret a H)) (ae am 37 200005 [.lp 0 0,.g d,.n 0] [(0,[.str n,.row 2 (aM xs)])] H))=z->ay 37 [.agg (cG (.mk n xs)),d] H=z:=fun z hz=>by
   refine ev (by simp only[cG];exact f37) ?_
   rw[aw (Hd n xs H),ak,hq,<- hz]
   cases kind n==4 with
   |false=>rfl
   |true =>
    simp only[cond_true]
    rw[aw (QA h (by omega) n),ct,ak]
    cases decide (n∈o)<;>rfl
  cases hk:kind n==4 with
  |false =>
   obtain⟨d',H',r1,r2,r3⟩:=Bp n xs (by have:=uT hv.1;omega) xs [] H b o d rfl h hb hn (by omega) hv.2
   refine⟨d',H',st _ (by rw[hk,cond_false];exact r1),?_,r3⟩
   simp only[BD,hk,Bool.false_eq_true,false_and,if_false]
   exact r2
  |true =>
   have hx:xs=[]:=List.length_eq_zero_iff.1 (Ga k1 k2 hv.1 hk)
   subst hx
   by_cases q:n∈o
   ·refine⟨d,H,st _ ?_,?_,.refl _ _⟩
    ·rw[hk,cond_true,decide_eq_true q,cond_true]
     refine cM (qb) ?_
     rfl
    ·simp only[BD,dO,hk,true_and]
     rw[if_neg (fun h=>h q)]
     exact h
   ·obtain⟨d1,H1,u1,u2,u3⟩:=h.add hb (by omega) n
    refine⟨d1,H1,st _ (by rw[hk,cond_true,decide_eq_false q,cond_false,u1]),?_,u3⟩
    simp only[BD,dO,hk,true_and]
    rw[if_pos q]
    exact u2
theorem Bp(n:af)(xs:List Ty)(h62:xs.length<2^62):∀(l pre:List Ty) (H:DH) (b:Nat) (o:List af) (d:D),xs=pre++l->AS H b o d->b<=H.length->o.Nodup->o.length+bE.tszs l<4194304->ji kind l ->
 ∃ d' H',ae am 37 200005 [.lp 0 0,.g d,.n (pre.length:Nat)] [(0,[.str n,.row 2 (aM xs)])] H=ret d' H'/\AS H' b (dO kind l o) d'/\Kr b H H'
 |[],pre,H,b,o,d,e,h,hb,hn,hs,hv=>by
  refine⟨d,H,cM (qb) ?_,h,.refl _ _⟩
  have hlt:decide ((pre.length:Int)<((aM xs).length:Int))=false:=by rw[aT,e];simp
  rw[hlt,cond_false]
 |t::l,pre,H,b,o,d,e,h,hb,hn,hs,hv=>by
  simp only[ji]at hv
  simp only[bE.tszs]at hs
  have hlt:decide ((pre.length:Int)<((aM xs).length:Int))=true:=by rw[aT,e];simp;omega
  have h2:(aM xs)[pre.length]? = some (cG t):=by rw[e];exact fq _ _ _
  have hw2:cq ((pre.length:Int)+1)=(((pre++[t]).length:Nat):Int):=by
   rw[aS (by
    have:xs.length=pre.length+(l.length+1):=by rw[e];simp
    omega)];simp
  obtain⟨d1,H1,r1,r2,r3⟩:=Jz t H b o d h hb hn (by omega) hv.1
  obtain⟨n1,n2,n3⟩:=Gb (kind:=kind) t o hn
  obtain⟨d2,H2,w1,w2,w3⟩:=Bp n xs h62 l (pre++[t]) H1 b _ d1 (by rw[e];simp) r2 (Nat.le_trans hb r3.len) n1 (by omega) hv.2
  refine⟨d2,H2,cM (qb) ?_,w2,r3.trans w3⟩
  obtain⟨tn,tx⟩:=t
  simp only[cG]at h2 r1
  rw[hlt,cond_true,aP,aI h2]
  simp only[aj,ar]
  rw[aw r1,hw2]
  exact w1
end
end Go.Proofs.YtenibcfppefobaaGreatDoor
namespace Go.Proofs.YtenibcfppefobaaGreatDoor
open Go.AI
def IS(H:DH)(l:List Nat)(d:D):Prop:=(d=.nilrow/\l=[])\/∃ p,d=.buf 1 p l.length/\H[p]? = some (.buf 1 true false (l.map fun i=>[.i (i:Nat)]))
def off(d:D)(W:List Nat):Prop:=∀ p n,d=.buf 1 p n->p∉W
theorem IS.lt{H:DH}{l:List Nat}{d:D}(h:IS H l d){p n:Nat}(e:d=.buf 1 p n):p<H.length:=by
 rcases h with⟨rfl,_⟩|⟨q,rfl,h⟩
 ·cases e
 ·cases e;exact ao h
theorem AS.lt{H:DH}{b:Nat}{l:List af}{d:D}(h:AS H b l d){p n:Nat}(e:d=.buf 1 p n):p<H.length:=by
 rcases h with⟨rfl,_⟩|⟨q,_,rfl,h⟩
 ·cases e
 ·cases e;exact ao h
theorem IS.mv{H H':DH}{l:List Nat}{d:D}(h:IS H l d)(k:∀ p n,d=.buf 1 p n->H'[p]? = H[p]?):IS H' l d:=by
 rcases h with⟨rfl,e⟩|⟨q,rfl,h⟩
 ·exact .inl ⟨rfl,e⟩
 ·exact .inr ⟨q,rfl,by rw[k _ _ rfl,h]⟩
theorem AS.mv{H H':DH}{b:Nat}{l:List af}{d:D}(h:AS H b l d)(k:∀ p n,d=.buf 1 p n->H'[p]? = H[p]?):AS H' b l d:=by
 rcases h with⟨rfl,e⟩|⟨q,hq,rfl,h⟩
 ·exact .inl ⟨rfl,e⟩
 ·exact .inr ⟨q,hq,rfl,by rw[k _ _ rfl,h]⟩
theorem IS.at'{H:DH}{l:List Nat}{d:D}(h:IS H l d){i a:Nat}(hi:l[i]? = some a)(κ:D->ah):(aq ab 59 d (.i i) fun c=>bQ ab 3 c H κ)=κ (.i (a:Nat)):=by
 rcases h with⟨rfl,rfl⟩|⟨q,rfl,h⟩
 ·cases hi
 ·exact Dj h (by simp) (by rw[List.getElem?_map,hi];rfl) κ
theorem IS.len{H:DH}{l:List Nat}{d:D}(h:IS H l d)(κ:D->ah):bJ ab 59 d H κ=κ (.i l.length):=by
 rcases h with⟨rfl,rfl⟩|⟨q,rfl,h⟩
 ·exact Qm H κ
 ·exact AF _ _ _ _
theorem IS.add{H:DH}{l:List Nat}{d:D}(h:IS H l d)(hl:l.length<4194304)(i:Nat):∃ d' H',(∀ κ:D->DH->ah,cE (aJ ab 3) 1 d [[.i (i:Nat)]] H κ=κ d' H')/\IS H' (l++[i]) d'/\H.length<=H'.length/\(∀ k,k<H.length->(∀ n,d≠.buf 1 k n)->H'[k]? = H[k]?)/\∀ p n,d'=.buf 1 p n->(∃ n',d=.buf 1 p n')\/H.length<=p:=by
 rcases h with⟨rfl,rfl⟩|⟨q,rfl,h⟩
 ·exact⟨_,_,fun κ=>sh (qM (by omega)) _ κ,.inr ⟨H.length,rfl,bk _ _⟩,by simp,fun k hk _=>List.getElem?_append_left hk,fun p n e=>by cases e;exact .inr (Nat.le_refl _)⟩
 ·have e2:(l.map fun i=>[D.i (i:Nat)])++[[.i (i:Nat)]]=(l++[i]).map fun i=>[.i (i:Nat)]:=by simp
  refine⟨.buf 1 q (l.length+1),H.set q (.buf 1 true false ((l++[i]).map fun i=>[.i (i:Nat)])),fun κ=>?_,.inr ⟨q,by simp,aN _ h⟩,by simp,fun k _ hk=>List.getElem?_set_ne fun e=>hk l.length (by rw[e]),fun p n e=>by cases e;exact .inl ⟨_,rfl⟩⟩
  rw[yO h (by simp) (fun m hm=>qM (by simp at hm;omega)),e2]
theorem IS.fz{H:DH}{l:List Nat}{d:D}(h:IS H l d):∃ H',(∀ κ:D->DH->ah,jt (.fz 1) 0 d H κ=κ (.row 1 (l.map fun i=>[.i (i:Nat)])) H')/\H'.length=H.length/\∀ k,(∀ n,d≠.buf 1 k n)->H'[k]? = H[k]?:=by
 rcases h with⟨rfl,rfl⟩|⟨q,rfl,h⟩
 ·exact⟨H,fun _=>rfl,rfl,fun _ _=>rfl⟩
 ·have hm:(l.map fun i=>[D.i (i:Nat)]).length=l.length:=List.length_map _
  refine⟨H.set q (.buf 1 false false (l.map fun i=>[.i (i:Nat)])),fun κ=>?_,by simp,fun k hk=>List.getElem?_set_ne fun e=>hk l.length (by rw[e])⟩
  show fK (.fz 1) (.buf 1 q l.length) H κ=_
  rw[fK,<- hm,bH h]
  rfl
theorem GS.frame{H H':DH}{go:Nat}{W:List Nat}{N:List aH}{L:Lk}{cl:Bool}{sn:List Int}(g:GS H go W N L cl sn)(h:∀ k∈W,H'[k]? = H[k]?):GS H' go W N L cl sn:=by
 rcases g with⟨a,b,c0,c,rfl,s,hg⟩|⟨o,rfl,rfl,g⟩
 ·exact .inl ⟨a,b,c0,c,rfl,s,by rw[h go (by simp),hg]⟩
 ·obtain⟨s,hg⟩:=g.ob
  obtain⟨ds,h1,h2⟩:=g.ha
  have w:∀ k∈o.ws,H'[k]? = H[k]?:=h
  simp only[Ob.ws,List.mem_cons,List.mem_nil_iff,or_false,forall_eq_or_imp,forall_eq]at w
  obtain⟨w1,w2,w3,w4,w5⟩:=w
  exact .inr ⟨o,rfl,rfl,⟨g.pos,g.lenL,g.lenS,⟨s,by rw[w1,hg]⟩,by rw[w2,g.hn],⟨ds,h1,by rw[w3,h2]⟩,by rw[w4,g.hl],by rw[w5,g.hs],g.d1,g.d2,g.d3,g.kid,g.lk,g.nm,g.sm,g.od,g.bnd⟩⟩
theorem GS.wlt{H:DH}{go:Nat}{W:List Nat}{N:List aH}{L:Lk}{cl:Bool}{sn:List Int}(g:GS H go W N L cl sn):∀ k∈W,k<H.length:=by
 rcases g with⟨a,b,c0,c,rfl,s,hg⟩|⟨o,rfl,rfl,g⟩
 ·intro k hk
  simp at hk;subst hk;exact ao hg
 ·obtain⟨a,b,c,d,e⟩:=g.lt
  intro k hk
  simp only[Ob.ws,List.mem_cons,List.mem_nil_iff,or_false]at hk
  rcases hk with rfl|rfl|rfl|rfl|rfl<;>assumption
def nones(N:List aH):Lk:=N.map fun _=>none
def mQ(N:List aH):List Int:=N.map fun _=>0
theorem IT(N:List aH)(x:aH):nones (N++[x])=nones N++[none]:=by simp[nones]
theorem Ib(N:List aH)(x:aH):mQ (N++[x])=mQ N++[0]:=by simp[mQ]
structure TI(isV:af->Bool)(H:DH)(go:Nat)(W:List Nat)(N:List aH)(L:Lk)(cl:Bool)(T:List Ty)(names:List af)(nd vd:D):Prop where
 gs:GS H go W N L cl (mQ N)
 gn:GN N T isV
 ns:AS H 0 names nd
 vs:IS H (List.range names.length) vd
 no:off nd W
 vo:off vd W
 nv:∀(i:Nat) (n:af),names[i]? = some n->∃ x,N[i]? = some x/\x.v=true/\x.n=n
 nb:names.length<4194304
variable{isV:af->Bool}{H H':DH}{go:Nat}{W W':List Nat}{N N':List aH}{L L':Lk}{cl cl':Bool}{T T':List Ty}{names:List af}{nd vd:D}
theorem TI.gr(t:TI isV H go W N L cl T names nd vd)(h:Gr H H' W W')(g:GS H' go W' N' L' cl' (mQ N'))(k:GN N' T' isV)(e:∃ X,N'=N++X):TI isV H' go W' N' L' cl' T' names nd vd:=by
 have keep:∀ d:D,off d W->(∀ p n,d=.buf 1 p n->p<H.length)->(∀ p n,d=.buf 1 p n->H'[p]? = H[p]?)/\off d W':=fun d h1 h2=>⟨fun p n e=>h.fr p (h2 p n e) (h1 p n e),fun p n e q=>by
  rcases h.ws p q with q|q
  ·exact h1 p n e q
  ·have:=h2 p n e;omega⟩
 obtain⟨a1,a2⟩:=keep nd t.no fun p n e=>t.ns.lt e
 obtain⟨b1,b2⟩:=keep vd t.vo fun p n e=>t.vs.lt e
 refine⟨g,k,t.ns.mv a1,t.vs.mv b1,a2,b2,fun i n hi=>?_,t.nb⟩
 obtain⟨x,hx,q⟩:=t.nv i n hi
 obtain⟨X,rfl⟩:=e
 exact⟨x,cD hx,q⟩
end Go.Proofs.YtenibcfppefobaaGreatDoor
namespace Go.Proofs.YtenibcfppefobaaGreatDoor
open Go.AI
variable{isV:af->Bool}{H H':DH}{go:Nat}{W W':List Nat}{N N':List aH}{L L':Lk}{cl cl':Bool}{T T':List Ty}{names:List af}{nd vd:D}
theorem IU(N M:List aH):nones (N++M)=nones N++nones M:=by simp[nones]
theorem Av(N:List aH):(nones N).length=N.length:=by simp[nones]
structure WC(isV:af->Bool)(H H':DH)(go:Nat)(W W':List Nat)(N X:List aH)(L:Lk)(cl:Bool)(T Y:List Ty)(names:List af)(nd vd:D)(k:Nat):Prop where
 t:TI isV H' go W' (N++X) (L++nones X) cl (T++Y) names nd vd
 gr:Gr H H' W W'
 len:X.length<=k
theorem WC.nil(t:TI isV H go W N L cl T names nd vd)(k:Nat):WC isV H H go W W N [] L cl T [] names nd vd k :=
 ⟨by simpa[nones]using t,.refl _ _,Nat.zero_le _⟩
theorem Xr{H:DH}{l:List Nat}{d:D}(h:IS H l d):∃ H' d',(∀ κ:D->DH->ah,jt (.fz 1) 0 d H κ=κ d' H')/\(d'=.row 1 (l.map fun i=>[.i (i:Nat)]))/\H'.length=H.length/\∀ k,(∀ n,d≠.buf 1 k n)->H'[k]? = H[k]?:=by
 obtain⟨H',a,b,c⟩:=h.fz
 exact⟨H',_,a,rfl,b,c⟩
theorem TI.mv(h:TI isV H go W N L cl T names nd vd)(h1:∀ k∈W,H'[k]? = H[k]?)(h2:∀ p n,nd=.buf 1 p n->H'[p]? = H[p]?)(h3:∀ p n,vd=.buf 1 p n->H'[p]? = H[p]?):TI isV H' go W N L cl T names nd vd :=
 ⟨h.gs.frame h1,h.gn,h.ns.mv h2,h.vs.mv h3,h.no,h.vo,h.nv,h.nb⟩
theorem Gr.w{H0:DH}{W0:List Nat}(h:Gr H0 H W0 W)(hl:H.length<=H'.length)(k:∀ k,k<H0.length->H'[k]? = H[k]?):Gr H0 H' W0 W:=⟨by have:=h.len;omega,fun x hx hw=>by rw[k x hx,h.fr x hx hw],h.ws⟩
theorem sI(t:Ty):∀ l:List Ty,bE.tszs (l++[t])=bE.tszs l+bE t
 |[]=>by simp[bE.tszs]
 |x::r=>by simp only[List.cons_append,bE.tszs,sI t r];omega
variable{kind:af->Int}(HQ:∀ n k,fF kind n k=true->PL n=(kind n==4))(k1:(kind [45,62]==4)=false)(k2:(kind [44]==4)=false)(k0:∀ k,fF kind [] k=false)
include HQ k1 k2 k0
mutual
theorem In:∀(t:Ty) (H:DH) (W:List Nat) (N:List aH) (L:Lk) (T:List Ty),TI (fun n=>kind n==4) H go W N L cl T names nd vd->uS kind t->KD kind names t->N.length+bE t<1000000 ->
 ∃ H' W' X Y i,ay 39 [.ptr go 0,.agg (cG t),nd,vd] H=ret (.i (i:Nat)) H'/\WC (fun n=>kind n==4) H H' go W W' N X L cl T Y names nd vd (bE t)/\(T++Y)[i]? = some t/\∀ u∈Y,jJ u t
 |.mk n xs,H,W,N,L,T,h,hv,hi,hN=>by
  simp only[uS]at hv
  simp only[KD]at hi
  simp only[bE]at hN
  have hq:=HQ n _ hv.1
  have h16:=uT hv.1
  cases hk:kind n==4 with
  |true =>
   have hx:xs=[]:=List.length_eq_zero_iff.1 (Ga k1 k2 hv.1 hk)
   subst hx
   obtain⟨k,r1,r2⟩:=Jm h.ns h.nb n
   rcases r2 with⟨r2,_⟩|⟨i,rfl,hin⟩
   ·exact(r2 (hi.1 hk)).elim
   ·obtain⟨x,hx,vx,xn⟩:=h.nv i n hin
    refine⟨H,W,[],[],i,ev (by simp only[cG];exact Zw) ?_,.nil h _,by rw[List.append_nil,(h.gn.var i x hx vx).1,xn],fun _ h=>nomatch h⟩
    have hir:(List.range names.length)[i]? = some i:=List.getElem?_range (ao hin)
    rw[aw (Hd n [] H),ak,hq,hk,cond_true,aw r1,Fy,ak,decide_eq_true (by omega),cond_true,h.vs.at' hir]
  |false =>
   obtain⟨H',W',X,Y,i,r1,r2,r3,r4⟩:=zS n xs hk (fun e=>by subst e;rw[k0]at hv;cases hv.1) h16 xs [] H H W W N [] L T [] [] .nilrow h (.nil h 0) (.inl ⟨rfl,rfl⟩) (fun _ _ e=>by cases e) rfl rfl (fun _ h=>nomatch h) (fun _ h=>nomatch h) hv.2 hi.2 (by simp;omega)
   refine⟨H',W',X,Y,i,ev (by simp only[cG];exact Zw) ?_,by simpa[bE,Nat.add_comm]using r2,r3,r4⟩
   rw[aw (Hd n xs H),ak,hq,hk,cond_false]
   exact r1
theorem zS(nm:af)(xs:List Ty)(hk:(kind nm==4)=false)(hnm:nm≠[])(h16:xs.length<=16):∀(l pre:List Ty) (H0 H:DH) (W0 W:List Nat) (N X:List aH) (L:Lk) (T Y:List Ty) (ks:List Nat) (d:D),TI (fun n=>kind n==4) H0 go W0 N L cl T names nd vd ->
 WC (fun n=>kind n==4) H0 H go W0 W N X L cl T Y names nd vd (bE.tszs pre)->IS H ks d->(∀ p n,d=.buf 1 p n->p∉W/\H0.length<=p)->xs=pre++l->ks.map (fun a=>(T++Y)[a]?)=pre.map some->(∀ a∈ks,a<(N++X).length)->(∀ u∈Y,∃ x∈pre,jJ u x)->ji kind l->rE kind names l->(N++X).length+bE.tszs l+1<1000000 ->
 ∃ H' W' X' Y' i,ae am 39 200007 [.g (.ptr go 0),.g nd,.g vd,.lp 0 0,.g d,.n (pre.length:Nat)] [(0,[.str nm,.row 2 (aM xs)])] H=ret (.i (i:Nat)) H'/\WC (fun n=>kind n==4) H0 H' go W0 W' N X' L cl T Y' names nd vd (bE.tszs xs+1)/\(T++Y')[i]? = some (.mk nm xs)/\∀ u∈Y',jJ u (.mk nm xs)
 |[],pre,H0,H,W0,W,N,X,L,T,Y,ks,d,h0,R,hd,ho,e,ht,ha,hu,hv,hi,hN=>by
  have hxs:xs=pre:=by rw[e];simp
  have hks:ks.length=pre.length:=by have:=congrArg List.length ht;simpa using this
  obtain⟨H1,d1,u1,u2,u3,u4⟩:=Xr hd
  have nz:∀ k,k<H0.length->∀ n,d≠.buf 1 k n:=fun k hk n q=>by have:=(ho k n q).2;omega
  have t1:TI (fun n=>kind n==4) H1 go W (N++X) (L++nones X) cl (T++Y) names nd vd:=R.t.mv (fun k hk=>u4 k fun n q=>(ho k n q).1 hk) (fun p n q=>u4 p (nz p (h0.ns.lt q))) (fun p n q=>u4 p (nz p (h0.vs.lt q)))
  obtain⟨H2,W2,r1,r2,r3⟩:=t1.gs.node ⟨false,nm,0,ks⟩ (d:=d1) (.inl u2) ha (fun _=>hnm) (by show ks.length<=16;rw[hks,<- hxs];exact h16) (fun q=>by cases q) (by omega)
  have e1:nones X++[none]=nones (X++[⟨false,nm,0,ks⟩]):=(IT X _).symm
  have e2:mQ (N++X)++[0]=mQ ((N++X)++[⟨false,nm,0,ks⟩]):=(Ib _ _).symm
  rw[e2]at r2
  have t2:=t1.gr r3 r2 (t1.gn.snocC (ts:=pre) hk ha ht) ⟨_,rfl⟩
  rw[List.append_assoc,List.append_assoc,List.append_assoc,e1]at t2
  have hl:(T++Y).length=(N++X).length:=t1.gn.len
  refine⟨H2,W2,X++[⟨false,nm,0,ks⟩],Y++[.mk nm pre],(N++X).length,cM (xZ) ?_,⟨t2,?_,?_⟩,?_,fun u h=>?_⟩
  ·have hlt:decide ((pre.length:Int)<((aM xs).length:Int))=false:=by rw[aT,hxs];simp
   rw[hlt,cond_false,u1]
   exact aw r1
  ·exact(R.gr.w (by omega) fun k hk=>u4 k (nz k hk)).trans r3
  ·have:=R.len;rw[hxs];simp;omega
  ·rw[hxs,<- List.append_assoc,<- hl];simp
  ·rcases List.mem_append.1 h with h|h
   ·obtain⟨x,hx,q⟩:=hu u h
    exact .step (by rw[hxs];exact hx) q
   ·simp at h;rw[h,hxs];exact .refl _
 |t::l,pre,H0,H,W0,W,N,X,L,T,Y,ks,d,h0,R,hd,ho,e,ht,ha,hu,hv,hi,hN=>by
  simp only[ji]at hv
  simp only[rE]at hi
  simp only[bE.tszs]at hN
  have hks:ks.length=pre.length:=by have:=congrArg List.length ht;simpa using this
  have hxl:xs.length=pre.length+(l.length+1):=by rw[e];simp
  obtain⟨H1,W1,X1,Y1,i,r1,R1,r3,r4⟩:=In t H W (N++X) (L++nones X) (T++Y) R.t hv.1 hi.1 (by omega)
  have hl:(T++Y).length=(N++X).length:=R.t.gn.len
  have hl1:(T++Y++Y1).length=(N++X++X1).length:=R1.t.gn.len
  have hd1:IS H1 ks d:=hd.mv fun p n q=>R1.gr.fr p (hd.lt q) (ho p n q).1
  obtain⟨d2,H2,u1,u2,u3,u4,u5⟩:=hd1.add (by omega) i
  have nz:∀ k,k<H0.length->∀ n,d≠.buf 1 k n:=fun k hk n q=>by have:=(ho k n q).2;omega
  have g0:=R.gr.len
  have g1:=R1.gr.len
  have nw:∀ k∈W1,∀ n,d≠.buf 1 k n:=fun k hk n q=>by
   rcases R1.gr.ws k hk with h|h
   ·exact(ho k n q).1 h
   ·have:=hd.lt q;omega
  have t2:TI (fun n=>kind n==4) H2 go W1 (N++X++X1) (L++nones X++nones X1) cl (T++Y++Y1) names nd vd:=R1.t.mv (fun k hk=>u4 k (R1.t.gs.wlt k hk) (nw k hk)) (fun p n q=>u4 p (by have:=h0.ns.lt q;omega) (nz p (h0.ns.lt q))) (fun p n q=>u4 p (by have:=h0.vs.lt q;omega) (nz p (h0.vs.lt q)))
  rw[List.append_assoc,List.append_assoc,List.append_assoc,<- IU]at t2
  have i1:i<(N++X++X1).length:=by rw[<- hl1];exact ao r3
  have xl:=R1.len
  obtain⟨H',W',X',Y',j,w1,w2,w3,w4⟩:=zS nm xs hk hnm h16 l (pre++[t]) H0 H2 W0 W1 N (X++X1) L T (Y++Y1) (ks++[i]) d2 h0
   ⟨t2,(R.gr.trans R1.gr).w u3 fun k hk=>u4 k (by omega) (nz k hk),by have:=R.len;rw[sI,List.length_append];omega⟩ u2 (fun p n q=>by
    rcases u5 p n q with⟨n',q⟩|q
    ·exact⟨fun h=>nw p h n' q,(ho p n' q).2⟩
    ·exact⟨fun h=>by have:=R1.t.gs.wlt p h;omega,by omega⟩) (by rw[e];simp) (by
    rw[List.map_append,List.map_append]
    congr 1
    ·rw[<- ht]
     refine List.map_congr_left fun a h=>?_
     rw[<- List.append_assoc]
     exact List.getElem?_append_left (by rw[hl];exact ha a h)
    ·rw[List.append_assoc]at r3;simp[r3]) (fun a h=>by
    rw[<- List.append_assoc]
    rcases List.mem_append.1 h with h|h
    ·have:=ha a h;rw[List.length_append];omega
    ·simp at h;rw[h];exact i1) (fun u h=>by
    rcases List.mem_append.1 h with h|h
    ·obtain⟨x,hx,q⟩:=hu u h
     exact⟨x,List.mem_append_left _ hx,q⟩
    ·exact⟨t,by simp,r4 u h⟩) hv.2 hi.2 (by rw[<- List.append_assoc,List.length_append];omega)
  refine⟨H',W',X',Y',j,cM (xZ) ?_,w2,w3,w4⟩
  have hlt:decide ((pre.length:Int)<((aM xs).length:Int))=true:=by rw[aT,hxl];simp;omega
  have h2:(aM xs)[pre.length]? = some (cG t):=by rw[e];exact fq _ _ _
  have hw2:cq ((pre.length:Int)+1)=(((pre++[t]).length:Nat):Int):=by
   rw[aS (by omega)];simp
  obtain⟨tn,ts⟩:=t
  simp only[cG]at h2 r1
  rw[hlt,cond_true,aP,aI h2]
  simp only[aj,ar]
  rw[aw r1,Pg,u1,hw2]
  exact w1
end
end Go.Proofs.YtenibcfppefobaaGreatDoor
namespace Go.Proofs.YtenibcfppefobaaGreatDoor
open Go.AI
theorem wQ{N:List aH}{i:Nat}{q:Option Nat}(h:(nones N)[i]? = some q):q=none:=by
 rw[nones,List.getElem?_map]at h
 cases e:N[i]? with
 |none=>rw[e]at h;cases h
 |some x=>rw[e]at h;cases h;rfl
theorem nC{N:List aH}{i j:Nat}(h:(nones N)[i]? = some (some j)):False:=by cases wQ h
theorem tS{L:Lk}{X:List aH}{i j:Nat}(h:(L++nones X)[i]? = some (some j)):L[i]? = some (some j):=by
 rcases Nat.lt_or_ge i L.length with q|q
 ·rwa [List.getElem?_append_left q]at h
 ·rw[List.getElem?_append_right q]at h
  exact(nC h).elim
theorem bT.app{α:Type}{L:Lk}{X:List aH}{f:Nat->α}:bT (L++nones X) f↔bT L f:=⟨fun h i j q=>h i j (cD q),fun h i j q=>h i j (tS q)⟩
theorem Rt.app{L:Lk}(M:Lk){i r n:Nat}(h:Rt L i r n):Rt (L++M) i r n:=by
 induction h with
 |z h=>exact .z (cD h)
 |s h _ ih=>exact .s (cD h) ih
theorem vh:∀(L M:Lk),kO (L++M)=kO L+kO M
 |[],M=>by simp[kO]
 |none::r,M=>by simp only[List.cons_append,kO,vh r M];omega
 |some _::r,M=>by simp only[List.cons_append,kO,vh r M]
theorem Wf.nones(N:List aH):Wf (nones N):=fun i hi=>⟨i,0,.z (by
 have:=List.getElem?_eq_getElem hi
 rw[this,wQ this])⟩
theorem Wf.app{L:Lk}(h:Wf L)(X:List aH):Wf (L++Go.Proofs.YtenibcfppefobaaGreatDoor.nones X):=fun i hi=>by
 rcases Nat.lt_or_ge i L.length with q|q
 ·obtain⟨r,n,k⟩:=h i q
  exact⟨r,n,k.app _⟩
 ·refine⟨i,0,.z ?_⟩
  have e:=List.getElem?_eq_getElem hi
  have e2:=e
  rw[List.getElem?_append_right q]at e2
  rw[e,wQ e2]
theorem US.grow{N:List aH}{L0 L:Lk}{E:List (Nat×Nat)}{res:Bool}(k:US N L0 E res L)(X:List aH)(h0:L0.length=N.length)(b0:∀ i j:Nat,L0[i]? = some (some j)->j<N.length)(b:∀ i j:Nat,L[i]? = some (some j)->j<N.length):US (N++X) (L0++nones X) E res (L++nones X):=by
 have hl:L.length=N.length:=by rw[k.len,h0]
 refine⟨by simp[k.len],k.wf.app X,by rw[vh,vh];have:=k.rc;omega,fun α f h1 h2 h3=>?_,fun q=>⟨fun α f hf=>?_,fun P hP=>?_⟩,fun hlo=>?_⟩
 ·obtain⟨a1,a2⟩:=k.snd α f (fun i j x y hx hy=>h1 i j x y (cD hx) (cD hy)) (bT.app.1 h2) h3
  exact⟨a1,bT.app.2 a2⟩
 ·obtain⟨a1,a2⟩:=(k.cpl q).1 α f (bT.app.1 hf)
  exact⟨bT.app.2 a1,a2⟩
 ·have c:=(k.cpl q).2 P fun i j x hi hx hv=>by
   obtain⟨y,a1,a2,a3,a4,a5⟩:=hP i j x (cD hi) (cD hx) hv
   rw[List.getElem?_append_left (b0 i j hi)]at a1
   exact⟨y,a1,a2,a3,a4,fun α f hf hp=>a5 α f (bT.app.2 hf) hp⟩
  intro i j x hi hx hv
  have hi':=tS hi
  rw[List.getElem?_append_left (by rw[<- hl];exact ao hi')]at hx
  obtain⟨y,a1,a2,a3,a4,a5⟩:=c i j x hi' hx hv
  exact⟨y,cD a1,a2,a3,a4,fun α f hf hp=>a5 α f (bT.app.1 hf) hp⟩
 ·have c:=k.lo fun i j y hi hy hv=>by
   obtain⟨x,a1,a2⟩:=hlo i j y (cD hi) (cD hy) hv
   rw[List.getElem?_append_left (by rw[<- h0];exact ao hi)]at a1
   exact⟨x,a1,a2⟩
  intro i j y hi hy hv
  have hi':=tS hi
  rw[List.getElem?_append_left (b i j hi')]at hy
  obtain⟨x,a1,a2⟩:=c i j y hi' hy hv
  exact⟨x,cD a1,a2⟩
theorem US.andc{N:List aH}{L0 L L':Lk}{E F:List (Nat×Nat)}{r r':Bool}(h:US N L0 E r L)(k:US N L F r' L'):US N L0 (E++F) (r&&r') L':=by
 refine⟨by rw[k.len,h.len],k.wf,Nat.le_trans k.rc h.rc,fun α f h1 h2 h3=>?_,fun q=>?_,fun q=>k.lo (h.lo q)⟩
 ·obtain⟨a1,a2⟩:=h.snd α f h1 h2 fun p hp=>h3 p (List.mem_append_left _ hp)
  obtain⟨b1,b2⟩:=k.snd α f h1 a2 fun p hp=>h3 p (List.mem_append_right _ hp)
  exact⟨by rw[a1,b1];rfl,b2⟩
 ·rw[Bool.and_eq_true]at q
  obtain⟨a1,a2⟩:=h.cpl q.1
  obtain⟨b1,b2⟩:=k.cpl q.2
  refine⟨fun α f hf=>?_,fun P hP=>b2 P (a2 (F++P) (by rw[<- List.append_assoc];exact hP))⟩
  obtain⟨c1,c2⟩:=b1 α f hf
  obtain⟨c3,c4⟩:=a1 α f c1
  refine⟨c3,fun p hp=>?_⟩
  rcases List.mem_append.1 hp with hp|hp
  ·exact c4 p hp
  ·exact c2 p hp
def ze:List af->Nat->List aH
 |[],_=>[]
 |n::r,k=>⟨true,n,(k:Nat),[]⟩::ze r (k+1)
theorem vS(n:af):∀(l:List af) (k:Nat),ze (l++[n]) k=ze l k++[⟨true,n,((k+l.length:Nat):Int),[]⟩]
 |[],k=>rfl
 |m::r,k=>by
  simp only[List.cons_append,ze,vS n r,List.length_cons]
  rw[show k+1+r.length=k+(r.length+1)from by omega]
theorem qz:∀(l:List af) (k:Nat),(ze l k).length=l.length
 |[],_=>rfl
 |m::r,k=>by simp only[ze,List.length_cons,qz r]
theorem FY:∀(l:List af) (k i:Nat),(ze l k)[i]? =(l[i]?).map fun n=>⟨true,n,((k+i:Nat):Int),[]⟩
 |[],k,i=>by simp[ze]
 |m::r,k,0=>by simp[ze]
 |m::r,k,i+1=>by
  simp only[ze,List.getElem?_cons_succ,FY r]
  rw[show k+1+i=k+(i+1)from by omega]
structure VL(H:DH)(go:Nat)(W:List Nat)(pre names:List af)(nd vd:D):Prop where
 gs:GS H go W (ze pre 0) (nones (ze pre 0)) false (mQ (ze pre 0))
 ns:AS H 0 names nd
 vs:IS H (List.range pre.length) vd
 no:off nd W
 vo:off vd W
 nv:∀ p n,vd=.buf 1 p n->∀ m,nd≠.buf 1 p m
theorem Dz{kind:af->Int}{go:Nat}{names:List af}{nd:D}{x:dB}(hn:names.Nodup)(hk:∀ n∈names,(kind n==4)=true)(hb:names.length<1000000):∀(l pre:List af) (H:DH) (W:List Nat) (vd:D),VL H go W pre names nd vd->names=pre++l->GN (ze pre 0) (pre.map fun n=>.mk n []) (fun n=>kind n==4) ->
 ∃ H' W' vd',ae am 14 200013 [.g (.row 2 x),.lp 0 0,.g nd,.g (.ptr go 0),.g vd,.n (pre.length:Nat)] [(0,[.nilrow,.i 0])] H=ae am 14 200018 [.g (.row 2 x),.lp 0 0,.g nd,.g (.ptr go 0),.g vd',.n (-1),.n 0] [(0,[.nilrow,.i 0])] H' /\
  TI (fun n=>kind n==4) H' go W' (ze names 0) (nones (ze names 0)) false (names.map fun n=>.mk n []) names nd vd'
 |[],pre,H,W,vd,V,e,g=>by
  have en:names=pre:=by rw[e];simp
  subst en
  refine⟨H,W,vd,cM (yh) ?_,⟨V.gs,g,V.ns,V.vs,V.no,V.vo,fun i n h=>⟨_,by rw[FY,h];rfl,rfl,rfl⟩,by omega⟩⟩
  rw[V.ns.len,iF,ak,show decide (((names.length:Nat):Int)<((names.length:Nat):Int))=false from by simp,cond_false]
 |n::l,pre,H,W,vd,V,e,g=>by
  have hxl:names.length=pre.length+(l.length+1):=by rw[e];simp
  have e0:names=(pre++[n])++l:=by rw[e];simp
  have fresh:n∉pre:=fun h=>by
   rw[e0,List.append_assoc]at hn
   have:=(List.nodup_append.1 hn).2.2 n h n (by simp)
   exact this rfl
  obtain⟨H1,W1,r1,r2,r3⟩:=V.gs.node ⟨true,n,((0+pre.length:Nat):Int),[]⟩ (d:=.nilrow) (.inr ⟨rfl,rfl⟩) (fun _ h=>nomatch h) (fun q=>by cases q) (Nat.zero_le _) (fun _=>by rw[qz,Nat.zero_add]) (by rw[qz];omega)
  rw[<- IT,<- Ib,<- vS]at r2
  rw[qz]at r1
  have g1:=g.snocV (nm:=n) (o:=((0+pre.length:Nat):Int)) (hk n (by rw[e];simp)) (fun i x hx vx=>by
   rw[FY]at hx
   cases q:pre[i]? with
   |none=>rw[q]at hx;cases hx
   |some m=>rw[q]at hx;cases hx;exact fun e=>fresh (e▸List.mem_of_getElem? q))
  rw[<- vS]at g1
  have g1':GN (ze (pre++[n]) 0) ((pre++[n]).map fun n=>.mk n []) (fun n=>kind n==4):=by simpa using g1
  have nd1:∀ p m,nd=.buf 1 p m->H1[p]? = H[p]?:=fun p m q=>r3.fr p (V.ns.lt q) (V.no p m q)
  have vd1:IS H1 (List.range pre.length) vd:=V.vs.mv fun p m q=>r3.fr p (V.vs.lt q) (V.vo p m q)
  have o1:off nd W1:=fun p m q h=>by
   rcases r3.ws p h with h|h
   ·exact V.no p m q h
   ·have:=V.ns.lt q;omega
  have o2:off vd W1:=fun p m q h=>by
   rcases r3.ws p h with h|h
   ·exact V.vo p m q h
   ·have:=V.vs.lt q;omega
  obtain⟨vd2,H2,u1,u2,u3,u4,u5⟩:=vd1.add (by simp;omega) pre.length
  have w1:=r2.wlt
  have t2:GS H2 go W1 (ze (pre++[n]) 0) (nones (ze (pre++[n]) 0)) false (mQ (ze (pre++[n]) 0)):=r2.frame fun k hk=>u4 k (w1 k hk) fun m q=>o2 k m q hk
  have er:List.range pre.length++[pre.length]=List.range (pre++[n]).length:=by rw[List.length_append,List.length_singleton,List.range_succ]
  rw[er]at u2
  have l1:=r3.len
  have V2:VL H2 go W1 (pre++[n]) names nd vd2:=⟨t2,(V.ns.mv nd1).mv fun p m q=>u4 p (by have:=V.ns.lt q;omega) fun m' q'=>V.nv p m' q' m q,u2,o1,fun p m q h=>by
   rcases u5 p m q with⟨m',q⟩|q
   ·exact o2 p m' q h
   ·have:=w1 p h;omega,fun p m q m' q'=>by
   rcases u5 p m q with⟨m'',q⟩|q
   ·exact V.nv p m'' q m' q'
   ·have:=V.ns.lt q';omega⟩
  obtain⟨H',W',vd',z1,z3⟩:=Dz hn hk hb l (pre++[n]) H2 W1 vd2 V2 e0 g1'
  have hw2:cq ((pre.length:Int)+1)=(((pre++[n]).length:Nat):Int):=by
   rw[aS (by omega)];simp
  refine⟨H',W',vd',Eq.trans (cM (yh) ?_) z1,z3⟩
  have hlt:decide (((pre.length:Nat):Int)<((names.length:Nat):Int))=true:=by rw[hxl];simp;omega
  have r0:ay 38 [.ptr go 0] H=ret (.i (pre.length:Nat)) H1:=ev (f38) (aw r1)
  rw[V.ns.len,iF,ak,hlt,cond_true,aw r0,Pg,u1,hw2]
end Go.Proofs.YtenibcfppefobaaGreatDoor
namespace Go.Proofs.YtenibcfppefobaaGreatDoor
open Go.AI
theorem GS.gg{H:DH}{go:Nat}{W:List Nat}{N:List aH}{L:Lk}{cl:Bool}{sn:List Int}(g:GS H go W N L cl sn){a:Nat}(ha:a<N.length):∃ o:Ob,o.g=go/\W=o.ws/\GG H o N L cl sn 0:=by
 rcases g with⟨rfl,_⟩|g
 ·cases ha
 ·exact g
theorem GS.lk{H:DH}{go:Nat}{W:List Nat}{N:List aH}{L:Lk}{cl:Bool}{sn:List Int}(g:GS H go W N L cl sn):L.length=N.length/\∀ i j:Nat,L[i]? = some (some j)->j<N.length:=by
 rcases g with⟨rfl,rfl,_⟩|⟨o,_,_,g⟩
 ·exact⟨rfl,fun i j h=>by simp at h⟩
 ·exact⟨g.lenL,g.lk⟩
theorem GS.flag{H:DH}{go:Nat}{W:List Nat}{N:List aH}{L:Lk}{cl:Bool}{sn:List Int}(g:GS H go W N L cl sn)(κ:D->ah):(au H go fun _ c=>aA c 3 κ)=κ (.bool cl):=by
 rcases g with⟨_,_,rfl,_,_,s,hg⟩|⟨o,rfl,_,g⟩
 ·rw[ac hg];simp only[aj,ar]
 ·obtain⟨s,hg⟩:=g.ob
  rw[ac hg];simp only[aj,ar]
section
variable{isV:af->Bool}{H H':DH}{go:Nat}{W W':List Nat}{N N':List aH}{L L':Lk}{cl cl':Bool}{T T':List Ty}{names:List af}{nd vd:D}
theorem TI.unify(h:TI isV H go W N L cl T names nd vd)(hw:Wf L){a b:Nat}(ha:a<N.length)(hb:b<N.length)(hN:N.length<90000):∃ H' L' res,ay 40 [.ptr go 0,.i (a:Nat),.i (b:Nat)] H=ret (.tuple []) H'/\TI isV H' go W N L' (cl||!res) T names nd vd/\US N L [(a,b)] res L':=by
 obtain⟨o,rfl,rfl,g⟩:=h.gs.gg ha
 obtain⟨H',L',res,r1,r2,r3,r4,r5⟩:=Vf g hw ha hb hN
 have fr:∀ d:D,off d o.ws->(∀ p n,d=.buf 1 p n->p<H.length)->∀ p n,d=.buf 1 p n->H'[p]? = H[p]?:=fun d h1 h2 p n e=>by
  have:=h1 p n e
  simp only[Ob.ws,List.mem_cons,List.mem_nil_iff,or_false,not_or]at this
  exact r5 p (h2 p n e) this.2.2.2.1 this.1
 exact⟨H',L',res,r1,⟨.inr ⟨o,rfl,rfl,r2⟩,h.gn,h.ns.mv (fr nd h.no fun p n e=>h.ns.lt e),h.vs.mv (fr vd h.vo fun p n e=>h.vs.lt e),h.no,h.vo,h.nv,h.nb⟩,r3⟩
end
def UY(ks:List Nat):List (Nat×Nat):=ks.map fun a=>(ks.headD 0,a)
theorem PO(k:Nat):∀ ks,UY (ks++[k])=UY ks++[((ks++[k]).headD 0,k)]
 |[]=>rfl
 |a::r=>by simp[UY]
theorem SS{α:Type}(f:Nat->α):∀ ks,(∀ p∈UY ks,f p.1=f p.2)↔∀ a∈ks,∀ b∈ks,f a=f b
 |[]=>by simp[UY]
 |a0::r=>by
  refine⟨fun h a ha b hb=>?_,fun h p hp=>?_⟩
  ·have h1:=h (a0,a) (List.mem_map_of_mem (f:=fun a=>(a0,a)) ha)
   have h2:=h (a0,b) (List.mem_map_of_mem (f:=fun a=>(a0,a)) hb)
   exact h1.symm.trans h2
  ·obtain⟨a,ha,rfl⟩:=List.mem_map.1 hp
   exact h a0 List.mem_cons_self a ha
structure UL(kind:af->Int)(H:DH)(go:Nat)(W:List Nat)(N:List aH)(L:Lk)(res:Bool)(T:List Ty)(names:List af)(nd vd:D)(ks:List Nat)(pre:List Ty):Prop where
 t:TI (fun n=>kind n==4) H go W N L (!res) T names nd vd
 wf:Wf L
 us:US N (nones N) (UY ks) res L
 ht:ks.map (fun a=>T[a]?)=pre.map some
 ha:∀ a∈ks,a<N.length
 su:∀ u∈T,(∃ n∈names,u=.mk n [])\/jK pre u
 len:N.length<=names.length+bE.tszs pre
def Jn(go:Nat)(nd vd:D)(H:DH):ah:=au H go fun _ c=>aA c 3 fun c=>brD c (ret (.agg [.row 3 [],.i 30]) H) (ae am 14 200027 [.lp 0 0,.g nd,.g (.ptr go 0),.g vd,.n 0] [(0,[.nilrow,.i 0])] H)
theorem jK.snoc{l:List Ty}{u:Ty}(h:jK l u)(t:Ty):jK (l++[t]) u:=by
 obtain⟨x,hx,k⟩:=h
 exact⟨x,List.mem_append_left _ hx,k⟩
variable{kind:af->Int}(HQ:∀ n k,fF kind n k=true->PL n=(kind n==4))(k1:(kind [45,62]==4)=false)(k2:(kind [44]==4)=false)(k0:∀ k,fF kind [] k=false)
include HQ k1 k2 k0
theorem RH{go:Nat}{names:List af}{nd vd:D}(all:List Ty)(h16:all.length<=16)(hN:names.length+bE.tszs all<90000):∀(l pre:List Ty) (H:DH) (W:List Nat) (N:List aH) (L:Lk) (res:Bool) (T:List Ty) (ks:List Nat) (v8:Int),
 UL kind H go W N L res T names nd vd ks pre->all=pre++l->ji kind l->rE kind names l->(v8=-1/\ks=[]\/∃ a r,ks=a::r/\v8=(a:Nat)) ->
 ∃ H' W' N' L' res' T' ks',ae am 14 200018 [.g (.row 2 (aM all)),.lp 0 0,.g nd,.g (.ptr go 0),.g vd,.n v8,.n (pre.length:Nat)] [(0,[.nilrow,.i 0])] H=Jn go nd vd H'/\UL kind H' go W' N' L' res' T' names nd vd ks' all
 |[],pre,H,W,N,L,res,T,ks,v8,U,e,hv,hi,h8=>by
  have hpre:all=pre:=by rw[e];simp
  refine⟨H,W,N,L,res,T,ks,cM (yg) ?_,by rw[hpre];exact U⟩
  have hlt:decide ((pre.length:Int)<((aM all).length:Int))=false:=by rw[aT,hpre];simp
  rw[hlt,cond_false]
  rfl
 |t::l,pre,H,W,N,L,res,T,ks,v8,U,e,hv,hi,h8=>by
  simp only[ji]at hv
  simp only[rE]at hi
  have hsz:bE.tszs all=bE.tszs pre+(bE t+bE.tszs l):=by
   rw[e]
   clear U e hv hi h8
   induction pre with
   |nil=>simp[bE.tszs]
   |cons x r ih=>simp only[List.cons_append,bE.tszs,ih];omega
  have hxl:all.length=pre.length+(l.length+1):=by rw[e];simp
  have len:=U.len
  obtain⟨H1,W1,X,Y,i,r1,R,r3,r4⟩:=In HQ k1 k2 k0 t H W N L T U.t hv.1 hi.1 (by omega)
  have hl1:(T++Y).length=(N++X).length:=R.t.gn.len
  have xl:=R.len
  have i1:i<(N++X).length:=by rw[<- hl1];exact ao r3
  have wf1:=U.wf.app X
  obtain⟨b1,b2⟩:=U.t.gs.lk
  have us1:=U.us.grow X (by rw[Av]) (fun i j h=>(nC h).elim) b2
  rw[<- IU]at us1
  have h0:(ks++[i]).headD 0<(N++X).length:=by
   cases ks with
   |nil=>exact i1
   |cons a r=>have:=U.ha a List.mem_cons_self;simp;omega
  obtain⟨H2,L2,res2,u1,u2,u3⟩:=R.t.unify wf1 h0 i1 (by rw[List.length_append];omega)
  have us2:=us1.andc u3
  rw[<- PO]at us2
  have lT:T.length=N.length:=U.t.gn.len
  have U2:UL kind H2 go W1 (N++X) L2 (res&&res2) (T++Y) names nd vd (ks++[i]) (pre++[t]):=by
   refine⟨by rw[Bool.not_and];exact u2,us2.wf,us2,?_,fun a h=>?_,fun u h=>?_,by rw[List.length_append,sI];omega⟩
   ·rw[List.map_append,List.map_append]
    congr 1
    ·rw[<- U.ht]
     exact List.map_congr_left fun a h=>List.getElem?_append_left (by rw[lT];exact U.ha a h)
    ·simp[r3]
   ·rcases List.mem_append.1 h with h|h
    ·have:=U.ha a h;rw[List.length_append];omega
    ·simp at h;rw[h];exact i1
   ·rcases List.mem_append.1 h with h|h
    ·exact(U.su u h).imp id fun k=>k.snoc t
    ·exact .inr ⟨t,by simp,r4 u h⟩
  obtain⟨H',W',N',L',res',T',ks',z1,z2⟩:=RH all h16 hN l (pre++[t]) H2 W1 (N++X) L2 (res&&res2) (T++Y) (ks++[i]) ((ks++[i]).headD 0:Nat) U2 (by rw[e];simp) hv.2 hi.2 (.inr (by
   cases ks with
   |nil=>exact⟨i,[],rfl,rfl⟩
   |cons a r=>exact⟨a,r++[i],rfl,rfl⟩))
  refine⟨H',W',N',L',res',T',ks',Eq.trans (cM (yg) ?_) z1,z2⟩
  have hlt:decide ((pre.length:Int)<((aM all).length:Int))=true:=by rw[aT,hxl];simp;omega
  have h2:(aM all)[pre.length]? = some (cG t):=by rw[e];exact fq _ _ _
  have hw2:cq ((pre.length:Int)+1)=(((pre++[t]).length:Nat):Int):=by
   rw[aS (by omega)];simp
  obtain⟨tn,ts⟩:=t
  simp only[cG]at h2 r1
  rw[hlt,cond_true,aP,aI h2]
  simp only[aj,ar]
  rw[aw r1,hw2]
  rcases h8 with⟨rfl,rfl⟩|⟨a,r,rfl,rfl⟩
  ·rw[show decide ((-1:Int)<0)=true from rfl,cond_true]
   exact aw u1
  ·rw[show decide (((a:Nat):Int)<0)=false from by simp,cond_false]
   exact aw u1
end Go.Proofs.YtenibcfppefobaaGreatDoor
namespace Go.Proofs.YtenibcfppefobaaGreatDoor
open Go.AI
theorem OP(a b:Int)(κ:D->ah):av ab .add 3 true (.i a) (.i b) κ=κ (.i (cq (a+b))):=by kernel_rfl
theorem XX(a b:Int)(κ:D->ah):av ab .geq 3 false (.i a) (.i b) κ=κ (.bool (decide (a>=b))):=by kernel_rfl
theorem ZJ(a b c e f x y:D)(κ:List D->ah):az [a,b,c,e,f,x] 5 [y] κ=κ [a,b,c,e,f,y]:=rfl
variable{o:Ob}{N:List aH}{cl:Bool}
def OX(H H':DH)(o:Ob):Prop:=H'.length=H.length/\∀ k,k≠o.l->k≠o.s->k≠o.g->H'[k]? = H[k]?
theorem OX.trans{H H' H'':DH}(h:OX H H' o)(k:OX H' H'' o):OX H H'' o:=⟨k.1.trans h.1,fun x a b c=>(k.2 x a b c).trans (h.2 x a b c)⟩
theorem FV.c{H H':DH}(h:FV H H' o):OX H H' o:=⟨h.1,fun x a _ _=>h.2 x a⟩
theorem GG.setS{H:DH}{L:Lk}{sn:List Int}{now:Int}(g:GG H o N L cl sn now)(r:Nat)(z:Int):GG (H.set o.s (.buf 1 true false ((sn.set r z).map fun z=>[.i z]))) o N L cl (sn.set r z) now/\OX H (H.set o.s (.buf 1 true false ((sn.set r z).map fun z=>[.i z]))) o:=by
 have ne:∀ k,k≠o.s->(H.set o.s (.buf 1 true false ((sn.set r z).map fun z=>[.i z])))[k]? = H[k]?:=fun k h=>List.getElem?_set_ne fun e=>h e.symm
 obtain⟨s,hg⟩:=g.ob
 obtain⟨ds,h1,h2⟩:=g.ha
 exact⟨⟨g.pos,g.lenL,by simp[g.lenS],⟨s,by rw[ne _ (fun e=>g.d2.2.2 e.symm),hg]⟩,by rw[ne _ (fun e=>g.d2.1 e.symm),g.hn],⟨ds,h1,by rw[ne _ (fun e=>g.d2.2.1 e.symm),h2]⟩,by rw[ne _ (fun e=>g.d1.2.2.1 e),g.hl],aN _ g.hs,g.d1,g.d2,g.d3,g.kid,g.lk,g.nm,g.sm,g.od,g.bnd⟩,by simp,fun k _ h _=>ne k h⟩
theorem GG.setN{H:DH}{L:Lk}{sn:List Int}{now:Int}(g:GG H o N L cl sn now){s:Nat}(now':Int):GG (H.set o.g (.cells s [.buf 1 o.n N.length,.buf 1 o.a N.length,.buf 1 o.l N.length,.bool cl,.buf 1 o.s N.length,.i now'])) o N L cl sn now'/\OX H (H.set o.g (.cells s [.buf 1 o.n N.length,.buf 1 o.a N.length,.buf 1 o.l N.length,.bool cl,.buf 1 o.s N.length,.i now'])) o:=by
 have ne:∀ k,o.g≠k->(H.set o.g (.cells s [.buf 1 o.n N.length,.buf 1 o.a N.length,.buf 1 o.l N.length,.bool cl,.buf 1 o.s N.length,.i now']))[k]? = H[k]?:=fun k q=>List.getElem?_set_ne q
 obtain⟨s,hg⟩:=g.ob
 obtain⟨ds,h1,h2⟩:=g.ha
 exact⟨⟨g.pos,g.lenL,g.lenS,⟨_,aN _ hg⟩,by rw[ne _ (fun e=>g.d3.2.1 e.symm),g.hn],⟨ds,h1,by rw[ne _ (fun e=>g.d3.2.2 e.symm),h2]⟩,by rw[ne _ (fun e=>g.d1.2.2.2 e.symm),g.hl],by rw[ne _ (fun e=>g.d2.2.2 e.symm),g.hs],g.d1,g.d2,g.d3,g.kid,g.lk,g.nm,g.sm,g.od,g.bnd⟩,by simp,fun k _ _ h=>ne k (fun e=>h e.symm)⟩
def Sq(N:List aH)(sn:List Int)(now:Int)(S:List (Nat×Int)):Prop:=∀ j,j<N.length->∃ z,sn[j]? = some z/\((gS S j=0/\z<now)\/(gS S j=1/\z=now)\/(gS S j=2/\z=now+1))
theorem Sq.upd{sn:List Int}{now:Int}{S:List (Nat×Int)}(h:Sq N sn now S)(hs:sn.length=N.length){r:Nat}(hr:r<N.length){v z:Int}(hv:(v=1/\z=now)\/(v=2/\z=now+1)):Sq N (sn.set r z) now (pS S r v):=fun j hj=>by
 rw[List.getElem?_set]
 by_cases e:r=j
 ·subst e
  refine⟨z,by rw[if_pos rfl,if_pos (by omega)],?_⟩
  rw[AP,if_pos rfl]
  exact .inr hv
 ·rw[if_neg e,AP,if_neg (fun q=>e q.symm)]
  exact h j hj
variable{now:Int}(hn0:0<=now)(hn1:now<1000000000)(hv:∀(i:Nat) (x:aH),N[i]? = some x->x.v=true->x.a=[])
def CA(o:Ob)(N:List aH)(cl:Bool)(now:Int)(k:Nat):Prop:=∀(H:DH) (L:Lk) (sn:List Int) (S:List (Nat×Int)),GG H o N L cl sn now->Wf L->Sq N sn now S->Dn N L S->cz S N.length<k->∀ i,i<N.length ->
 ∃ q H' L' sn' S',ay 67 [.ptr o.g 0,.i (i:Nat)] H=ret (.bool q) H'/\GG H' o N L' cl sn' now/\mu N L L'/\OX H H' o/\(∀ f:Nat->Ty,LI N f->bT L f->WG f S i->q=false) /\
  (q=false->Sq N sn' now S'/\FT N L' S S'/\∃ t,Tr N L' i t)
include hn0 hn1 hv
theorem JA{k:Nat}(hk:CA o N cl now k){r:Nat}{x:aH}:∀(l p:List Nat) (H:DH) (L:Lk) (sn:List Int) (S:List (Nat×Int)),GG H o N L cl sn now->Wf L->Sq N sn now S->Dn N L S->cz S N.length<k->N[r]? = some x->x.a=p++l ->
 ∃ q H' L' sn' S',ae am 67 200006 [.g (.ptr o.g 0),.n (r:Nat),.n (p.length:Nat)] [] H=ret (.bool q) H'/\GG H' o N L' cl sn' now/\mu N L L'/\OX H H' o/\(∀ f:Nat->Ty,LI N f->bT L f->(∀ a∈l,WG f S a)->q=false) /\
  (q=false->Sq N sn' now (pS S' r 2)/\FT N L' S S'/\∃ ts,oo N L' l ts)
 |[],p,H,L,sn,S,g,hw,hS,hd,hc,hx,e=>by
  have hr:=ao hx
  obtain⟨s,hg⟩:=g.ob
  obtain⟨ds,hd1,hd2⟩:=g.ha
  obtain⟨d,a1,a2,a3⟩:=jC hd1 hx
  have hna:N.length=(ds.map fun d=>[d]).length:=by rw[List.length_map,hd1.1]
  have hns:N.length=(sn.map fun z=>[D.i z]).length:=by rw[List.length_map,g.lenS]
  obtain⟨g2,o2⟩:=g.setS r (now+1)
  have hi:∃ z,(sn.map fun z=>[D.i z])[r]? = some [.i z]:=by
   obtain⟨z,q,_⟩:=hS r hr
   exact⟨z,by rw[List.getElem?_map,q];rfl⟩
  obtain⟨z,hi⟩:=hi
  refine⟨false,_,L,_,S,cM (xM) ?_,g2,.refl _ _,o2,fun _ _ _ _=>rfl,fun _=>⟨hS.upd g.lenS hr (.inr ⟨rfl,rfl⟩),.refl S,[],.nil⟩⟩
  have hw1:cq (now+1)=now+1:=by
   obtain⟨n,rfl⟩:=Int.eq_ofNat_of_zero_le hn0
   rw[aS (by omega)];omega
  rw[ac hg]
  simp only[aj,ar]
  rw[qm hd2 hna (eJ a1),a2,iF,ak,show decide (((p.length:Nat):Int)<((x.a.length:Nat):Int))=false from by rw[e];simp,cond_false,ac hg]
  simp only[aj,ar]
  rw[ac hg]
  simp only[aj,ar]
  rw[OP,hw1]
  have e1:(sn.map fun z=>[D.i z]).set r [.i (now+1)]=(sn.set r (now+1)).map fun z=>[D.i z]:=by rw[List.map_set]
  refine Eq.trans (DP g.hs hns hi (.i (now+1)) fun H=>ret (.bool false) H) ?_
  rw[e1]
 |a::l,p,H,L,sn,S,g,hw,hS,hd,hc,hx,e=>by
  have la:a<N.length:=g.kid r x hx a (by rw[e];simp)
  obtain⟨s,hg⟩:=g.ob
  obtain⟨ds,hd1,hd2⟩:=g.ha
  obtain⟨d,a1,a2,a3⟩:=jC hd1 hx
  have hna:N.length=(ds.map fun d=>[d]).length:=by rw[List.length_map,hd1.1]
  have ia:x.a[p.length]? = some a:=by rw[e];simp
  have h16:=g.sm r x hx
  have hw2:cq ((p.length:Int)+1)=(((p++[a]).length:Nat):Int):=by
   rw[aS (by
    have:x.a.length=p.length+(l.length+1):=by rw[e];simp
    omega)]
   simp
  obtain⟨q,H1,L1,sn1,S1,r1,r2,r3,r4,r5,r6⟩:=hk H L sn S g hw hS hd hc a la
  have st:∀ z,(cond q (ret (.bool true) H1) (ae am 67 200006 [.g (.ptr o.g 0),.n (r:Nat),.n ((p++[a]).length:Nat)] [] H1))=z->ae am 67 200006 [.g (.ptr o.g 0),.n (r:Nat),.n (p.length:Nat)] [] H=z:=fun z hz=>by
   refine cM (xM) ?_
   rw[ac hg]
   simp only[aj,ar]
   rw[qm hd2 hna (eJ a1),a2,iF,ak,show decide (((p.length:Nat):Int)<((x.a.length:Nat):Int))=true from by rw[e];simp;omega,cond_true,ac hg]
   simp only[aj,ar]
   rw[qm hd2 hna (eJ a1),a3 _ _ _ _ ia,aw r1,ak,hw2]
   exact hz
  cases q with
  |true=>exact⟨true,H1,L1,sn1,S1,st _ rfl,r2,r3,r4,fun f h1 h2 h3=>r5 f h1 h2 (h3 a List.mem_cons_self),fun q=>nomatch q⟩
  |false =>
   obtain⟨t1,t2,t,t3⟩:=r6 rfl
   have hc':cz S1 N.length<=cz S N.length:=Jy fun j _=>t2.zero j
   obtain⟨q',H2,L2,sn2,S2,w1,w2,w3,w4,w5,w6⟩:=JA hk l (p++[a]) H1 L1 sn1 S1 r2 (hw.eqv r3) t1 ((hd.eqv r3).vs t2) (by omega) hx (by rw[e];simp)
   refine⟨q',H2,L2,sn2,S2,st _ (by rw[cond_false];exact w1),w2,r3.trans w3,r4.trans w4,fun f h1 h2 h3=>w5 f h1 ((r3.rs _ f).1 h2) fun a' ha' j hj=>?_,fun hq=>?_⟩
   ·refine h3 a' (List.mem_cons_of_mem _ ha') j ?_
    by_cases e0:gS S j=0
    ·have:=(t2.new j e0 (by rw[hj];decide)).1
     rw[hj]at this;cases this
    ·rw[<- t2.old j e0,hj]
   ·obtain⟨z1,z2,ts,z3⟩:=w6 hq
    exact⟨z1,(t2.eqv w3).trans z2,t::ts,.cons (t3.eqv w3) z3⟩
theorem Oo:∀ k,CA o N cl now k
 |0=>fun _ _ _ _ _ _ _ _ h=>by omega
 |k+1=>by
  intro H L sn S g hw hS hd hc i hi
  obtain⟨r,n,hr⟩:=hw i (by rw[g.lenL];exact hi)
  obtain⟨H1,L1,r1,g1,q1,l1⟩:=wJ g hr
  obtain⟨n1,_,hr1⟩:=q1.rt _ _ _ hr
  have hrl:r<N.length:=by rw[<- g1.lenL];exact ao hr1.root
  have hd1:=hd.eqv q1
  obtain⟨s,hg⟩:=g1.ob
  have hx:=List.getElem?_eq_getElem hrl
  generalize N[r]=x at hx
  have fr:∀ f:Nat->Ty,bT L f->f i=f r:=fun f hf=>hf.rt hr
  obtain⟨z,hz,hS'⟩:=hS r hrl
  have hns:N.length=(sn.map fun z=>[D.i z]).length:=by rw[List.length_map,g.lenS]
  have hi:(sn.map fun z=>[D.i z])[r]? = some [.i z]:=by rw[List.getElem?_map,hz];rfl
  have st:∀ w,(cond (decide (z>=now)) (ret (.bool (z==now)) H1) (ae am 67 200006 [.g (.ptr o.g 0),.n (r:Nat),.n 0] [] (H1.set o.s (.buf 1 true false ((sn.set r now).map fun z=>[.i z])))))=w->ay 67 [.ptr o.g 0,.i (i:Nat)] H=w:=fun w hw=>by
   refine ev (ZU) ?_
   rw[aw r1,ac hg]
   simp only[aj,ar]
   rw[Dj g1.hs hns hi,ac hg]
   simp only[aj,ar]
   rw[XX,ak,<- hw]
   cases decide (z>=now)with
   |true =>
    rw[cond_true,cond_true,ac hg]
    simp only[aj,ar]
    rw[Dj g1.hs hns hi,ac hg]
    simp only[aj,ar]
    rw[KQ]
   |false =>
    rw[cond_false,cond_false,ac hg]
    simp only[aj,ar]
    rw[ac hg]
    simp only[aj,ar]
    have e1:(sn.map fun z=>[D.i z]).set r [.i now]=(sn.set r now).map fun z=>[D.i z]:=by rw[List.map_set]
    refine Eq.trans (DP g1.hs hns hi (.i now) fun H=>ae am 67 200006 [.g (.ptr o.g 0),.g (.i (r:Nat)),.n 0] [] H) ?_
    rw[e1]
  rcases hS' with⟨e0,hz0⟩|⟨e1,rfl⟩|⟨e2,rfl⟩
  ·have g1':∀ j,gS (pS S r 1) j=if j=r then 1 else gS S j:=fun j=>AP _ _ _ _
   obtain⟨g2,o2⟩:=g1.setS r now
   have hd2:Dn N L1 (pS S r 1):=fun j a b=>by
    rw[g1']at a b ⊢
    by_cases ej:j=r
    ·rw[if_pos ej]at b;exact(b rfl).elim
    ·rw[if_neg ej]at a b ⊢;exact hd1 j a b
   have hc2:cz (pS S r 1) N.length<k:=by
    have:cz (pS S r 1) N.length<cz S N.length:=On (r:=r) (fun j _ hj=>by
     rw[g1']at hj
     split at hj
     ·cases hj
     ·exact hj) hrl e0 (by rw[g1',if_pos rfl];decide)
    omega
   obtain⟨q,H3,L3,sn3,S3,t1,t2,t3,t4,t5,t6⟩:=JA hn0 hn1 hv (Oo k) x.a [] _ L1 _ (pS S r 1) g2 (hw.eqv q1) (hS.upd g.lenS hrl (.inl ⟨rfl,rfl⟩)) hd2 hc2 hx rfl
   refine⟨q,H3,L3,sn3,pS S3 r 2,st _ (by rw[decide_eq_false (by omega),cond_false];exact t1),t2,q1.trans t3,(l1.c.trans o2).trans t4,fun f hm h2 h3=>?_,fun hq=>?_⟩
   ·refine t5 f hm ((q1.rs _ f).1 h2) fun a ha j hj=>?_
    have hxv:x.v=false:=by
     cases vx:x.v with
     |false=>rfl
     |true=>rw[hv r x hx vx]at ha;cases ha
    have lt1:bE (f a)<bE (f r):=by
     rw[hm r x hx hxv]
     have:=vU (List.mem_map_of_mem (f:=f) ha)
     simp only[bE];omega
    rw[g1']at hj
    split at hj
    ·rename_i ej;rw[ej];exact lt1
    ·have:=h3 j hj
     rw[fr f h2]at this
     omega
   ·obtain⟨z1,z2,ts,z3⟩:=t6 hq
    have hr3:L3[r]? = some none:=(t3.ro r).1 hr1.root
    have tr:∃ t,Tr N L3 r t:=by
     cases vx:x.v with
     |true=>exact⟨_,.var (.z hr3) hx vx⟩
     |false =>
      have z4:∃ ts,oo N L3 x.a ts:=⟨ts,z3⟩
      obtain⟨ts,z4⟩:=z4
      exact⟨_,.con (.z hr3) hx vx z4⟩
    have hr3':=(q1.trans t3).rt _ _ _ hr
    obtain⟨n3,_,hr3'⟩:=hr3'
    have g3:∀ j,gS (pS S3 r 2) j=if j=r then 2 else gS S3 j:=fun j=>AP _ _ _ _
    obtain⟨t,ht⟩:=tr
    refine⟨z1,⟨fun j hj=>?_,fun j hj hj2=>?_⟩,t,.of_rt hr3' ht⟩
    ·have ej:j≠r:=fun q=>by subst q;exact hj e0
     have:gS (pS S r 1) j=gS S j:=by rw[g1',if_neg ej]
     rw[g3,if_neg ej,z2.old j (by rw[this];exact hj),this]
    ·rw[g3]at hj2 ⊢
     by_cases ej:j=r
     ·subst ej;rw[if_pos rfl];exact⟨rfl,t,ht⟩
     ·rw[if_neg ej]at hj2 ⊢
      exact z2.new j (by rw[g1',if_neg ej];exact hj) hj2
  ·refine⟨true,H1,L1,sn,S,st _ (by rw[decide_eq_true (by omega),cond_true];simp),g1,q1,l1.c,fun f _ h2 h3=>?_,fun q=>nomatch q⟩
   have:=h3 r e1
   rw[fr f h2]at this
   omega
  ·obtain⟨_,t,ht⟩:=hd1 r (by rw[e2];decide) (by rw[e2];decide)
   exact⟨false,H1,L1,sn,S,st _ (by
    rw[decide_eq_true (by omega),cond_true]
    rw[show((now+1)==now)=false from beq_eq_false_iff_ne.2 (by omega)]),g1,q1,l1.c,fun _ _ _ _=>rfl,fun _=>⟨hS,.refl S,t,.of_rt hr1 ht⟩⟩
end Go.Proofs.YtenibcfppefobaaGreatDoor
namespace Go.Proofs.YtenibcfppefobaaGreatDoor
open Go.AI
structure SD(H:DH)(o:Ob)(N:List aH)(L:Lk)(sn:List Int)(now:Int)(names:List af)(nd vd:D):Prop where
 g:GG H o N L false sn now
 wf:Wf L
 ns:AS H 0 names nd
 vs:IS H (List.range names.length) vd
 no:off nd o.ws
 vo:off vd o.ws
variable{H H':DH}{o:Ob}{N:List aH}{L L':Lk}{sn sn':List Int}{now now':Int}{names:List af}{nd vd:D}
def mt(H H':DH)(o:Ob):Prop:=H.length<=H'.length/\∀ k,k<H.length->k∉o.ws->H'[k]? = H[k]?
theorem mt.refl(H:DH)(o:Ob):mt H H o:=⟨Nat.le_refl _,fun _ _ _=>rfl⟩
theorem mt.trans{H'':DH}(h:mt H H' o)(k:mt H' H'' o):mt H H'' o:=⟨Nat.le_trans h.1 k.1,fun x a b=>(k.2 x (Nat.lt_of_lt_of_le a h.1) b).trans (h.2 x a b)⟩
theorem OX.w(h:OX H H' o):mt H H' o:=⟨by rw[h.1];exact Nat.le_refl _,fun k _ q=>by
 simp only[Ob.ws,List.mem_cons,List.mem_nil_iff,or_false,not_or]at q
 exact h.2 k q.2.2.2.1 q.2.2.2.2 q.1⟩
theorem SD.mv(h:SD H o N L sn now names nd vd)(g:GG H' o N L' false sn' now')(w:Wf L')(k:mt H H' o):SD H' o N L' sn' now' names nd vd :=
 ⟨g,w,h.ns.mv fun p n e=>k.2 p (h.ns.lt e) (h.no p n e),h.vs.mv fun p n e=>k.2 p (h.vs.lt e) (h.vo p n e),h.no,h.vo⟩
theorem YN(h:SD H o N L sn now names nd vd)(hn0:0<=now)(hn1:now<900000000)(hv:∀(i:Nat) (x:aH),N[i]? = some x->x.v=true->x.a=[])(sb:∀ z∈sn,z<=now+1){i:Nat}(hi:i<N.length) :
 ∃ q H' L' sn',ay 41 [.ptr o.g 0,.i (i:Nat)] H=ret (.bool q) H'/\SD H' o N L' sn' (now+2) names nd vd/\mt H H' o/\mu N L L'/\(∀ f:Nat->Ty,LI N f->bT L f->q=false)/\(q=false->(∀ z∈sn',z<=now+2+1)/\∃ t,Tr N L' i t):=by
 obtain⟨s,hg⟩:=h.g.ob
 obtain⟨g2,o2⟩:=h.g.setN (s:=s+1) (now+2)
 have hw2:cq (now+2)=now+2:=by
  obtain⟨n,rfl⟩:=Int.eq_ofNat_of_zero_le hn0
  have:((n:Int)+2)=(((n+1:Nat):Int)+1):=by omega
  rw[this,aS (by omega)];omega
 obtain⟨q,H',L',sn',S',r1,r2,r3,r4,r5,r6⟩:=Oo (by omega) (by omega) hv _ _ L sn [] g2 h.wf (fun j hj=>by
  have hs:j<sn.length:=by rw[h.g.lenS];exact hj
  exact⟨sn[j],List.getElem?_eq_getElem hs,.inl ⟨rfl,by have:=sb _ (List.getElem_mem hs);omega⟩⟩) (fun j h=>(h rfl).elim) (Nat.lt_succ_self _) i hi
 refine⟨q,H',L',sn',ev (f41) ?_,h.mv r2 (h.wf.eqv r3) (o2.w.trans r4.w),o2.w.trans r4.w,r3,fun f h1 h2=>r5 f h1 h2 fun j hj=>(by cases hj),fun hq=>?_⟩
 ·rw[ac hg]
  simp only[aj,ar]
  rw[OP,hw2,Pg,ac hg,ZJ]
  exact aw r1
 ·obtain⟨z1,z2,z3⟩:=r6 hq
  refine⟨fun z hz=>?_,z3⟩
  obtain⟨j,hj⟩:=List.getElem?_of_mem hz
  obtain⟨z',e,k⟩:=z1 j (by rw[<- r2.lenS];exact ao hj)
  rw[hj]at e;cases e
  omega
theorem Sb(hv:∀(i:Nat) (x:aH),N[i]? = some x->x.v=true->x.a=[])(hN:names.length<=N.length)(h9:N.length<100000):∀(l k:Nat) (H:DH) (L:Lk) (sn:List Int),l+k=names.length->SD H o N L sn (2*(k:Nat)) names nd vd->(∀ z∈sn,z<=2*(k:Nat)+1)->(∀ i,i<k->∃ t,Tr N L i t) ->
 ∃ H' L' sn',mt H H' o/\mu N L L'/\((ae am 14 200027 [.lp 0 0,.g nd,.g (.ptr o.g 0),.g vd,.n (k:Nat)] [(0,[.nilrow,.i 0])] H=ret (.agg [.row 3 [],.i 31]) H'/\∀ f:Nat->Ty,LI N f->bT L f->False) \/
  (ae am 14 200027 [.lp 0 0,.g nd,.g (.ptr o.g 0),.g vd,.n (k:Nat)] [(0,[.nilrow,.i 0])] H=ae am 14 200027 [.lp 0 0,.g nd,.g (.ptr o.g 0),.g vd,.n (names.length:Nat)] [(0,[.nilrow,.i 0])] H'/\SD H' o N L' sn' (2*(names.length:Nat)) names nd vd/\∀ i,i<names.length->∃ t,Tr N L' i t))
 |0,k,H,L,sn,e,h,sb,ht=>by
  have:k=names.length:=by omega
  subst this
  exact⟨H,L,sn,.refl _ _,.refl _ _,.inr ⟨rfl,h,ht⟩⟩
 |l+1,k,H,L,sn,e,h,sb,ht=>by
  obtain⟨q,H1,L1,sn1,r1,r2,r3,r4,r5,r6⟩:=YN h (by omega) (by omega) hv sb (i:=k) (by omega)
  have hlt:decide (((k:Nat):Int)<(((List.range names.length).length:Nat):Int))=true:=by rw[List.length_range];simp;omega
  have hk:(List.range names.length)[k]? = some k:=List.getElem?_range (by omega)
  have hw2:cq ((k:Int)+1)=((k+1:Nat):Int):=aS (by omega)
  have e2:(2*((k:Nat):Int)+2)=2*((k+1:Nat):Int):=by omega
  have st:∀ z,(cond q (ret (.agg [.row 3 [],.i 31]) H1) (ae am 14 200027 [.lp 0 0,.g nd,.g (.ptr o.g 0),.g vd,.n ((k+1:Nat):Int)] [(0,[.nilrow,.i 0])] H1))=z->ae am 14 200027 [.lp 0 0,.g nd,.g (.ptr o.g 0),.g vd,.n (k:Nat)] [(0,[.nilrow,.i 0])] H=z:=fun z hz=>by
   refine cM (qe) ?_
   rw[h.vs.len,iF,ak,hlt,cond_true,h.vs.at' hk,aw r1,ak,hw2]
   exact hz
  cases q with
  |true =>
   refine⟨H1,L1,sn1,r3,r4,.inl ⟨st _ rfl,fun f h1 h2=>?_⟩⟩
   have:=r5 f h1 h2
   cases this
  |false =>
   obtain⟨z1,z2⟩:=r6 rfl
   rw[e2]at r2 z1
   obtain⟨H',L',sn',w1,w2,w3⟩:=Sb hv hN h9 l (k+1) H1 L1 sn1 (by omega) r2 z1 (fun i hi=>by
    rcases Nat.lt_or_ge i k with q|q
    ·obtain⟨t,ht⟩:=ht i q
     exact⟨t,ht.eqv r4⟩
    ·have:i=k:=by omega
     subst this;exact z2)
   refine⟨H',L',sn',r3.trans w1,r4.trans w2,?_⟩
   rcases w3 with⟨w3,w4⟩|⟨w3,w4⟩
   ·exact .inl ⟨st _ (by rw[cond_false];exact w3),fun f h1 h2=>w4 f h1 ((r4.rs _ f).1 h2)⟩
   ·exact .inr ⟨st _ (by rw[cond_false];exact w3),w4⟩
end Go.Proofs.YtenibcfppefobaaGreatDoor
namespace Go.Proofs.YtenibcfppefobaaGreatDoor
open Go.AI
theorem Sn:ab.underlying 100=some (.slice 102):=by kernel_rfl
theorem Mk:size ab 102=some 2:=by kernel_rfl
theorem VI(a b:D)(κ:D->ah):ci ab 102 [a,b] 0 κ=κ (.agg [a,b]):=by kernel_rfl
theorem XP(a b:D)(κ:D->ah):ci ab 3 [a,b] 0 κ=κ a:=by kernel_rfl
theorem Sf(a b:Int)(κ:D->ah):av ab .add 3 false (.i a) (.i b) κ=κ (.i (cq (a+b))):=by kernel_rfl
theorem YQ(a b:Int)(κ:List D->ah):ai 2 (.agg [.i a,.i b]) κ=κ [.i a,.i b]:=rfl
theorem RO(a b c e:D)(κ:List D->ah):az [a,b] 0 [c,e] κ=κ [c,e]:=rfl
theorem Zs(a b c:D)(κ:List D->ah):az [a,b] 0 [c] κ=κ [c,b]:=rfl
theorem Zr(a b c:D)(κ:List D->ah):az [a,b] 1 [c] κ=κ [a,c]:=rfl
theorem WN{n:Nat}(h:n<2^62):cq ((n:Nat):Int)=n:=by
 cases n with
 |zero=>rfl
 |succ n=>exact aS (by omega)
section
variable{H:DH}{o n i:Nat}{cp:Bool}{l:dB}{a b:D}
theorem WA(h:H[o]? = some (.buf 2 true cp l))(hn:n=l.length)(hi:l[i]? = some [a,b])(κ:D->ah):(aq ab 100 (.buf 2 o n) (.i i) fun c=>dz c 0 fun c=>bQ ab 3 c H κ)=κ a:=by
 have hlt:i<n:=by rw[hn];exact ao hi
 subst hn
 rw[aq,Sn]
 simp only[Mk,mI,Nat.beq_refl,cond_true,aP,ez hlt,boK,dz,Nat.add_zero,bQ,bH h,aI hi,XP]
theorem UG(h:H[o]? = some (.buf 2 true cp l))(hn:n=l.length)(hi:l[i]? = some [a,b])(κ:D->ah):(aq ab 100 (.buf 2 o n) (.i i) fun c=>bQ ab 102 c H κ)=κ (.agg [a,b]):=by
 have hlt:i<n:=by rw[hn];exact ao hi
 subst hn
 rw[aq,Sn]
 simp only[Mk,mI,Nat.beq_refl,cond_true,aP,ez hlt,boK,bQ,bH h,aI hi,VI]
theorem SI(h:H[o]? = some (.buf 2 true cp l))(hn:n=l.length)(hi:l[i]? = some [a,b])(x y:D)(κ:DH->ah):(aq ab 100 (.buf 2 o n) (.i i) fun c=>sK c [x,y] H κ)=κ (H.set o (.buf 2 true cp (l.set i [x,y]))):=by
 have hlt:i<n:=by rw[hn];exact ao hi
 subst hn
 rw[aq,Sn]
 simp only[Mk,mI,Nat.beq_refl,cond_true,aP,ez hlt,boK,sK,bH h,aI hi]
 rfl
end
def lm(t:Ty):Nat×Nat:=(min (bE t) 2001,min (mM t) 101)
def KT(dm:List (Nat×Nat)):dB:=dm.map fun p=>[.i (p.1:Nat),.i (p.2:Nat)]
def RC(N:List aH)(L:Lk)(dm:List (Nat×Nat)):Prop:=∀(j:Nat) (p:Nat×Nat),dm[j]? = some p->p.1≠0->∃ t,Tr N L j t/\p=lm t
theorem RC.eqv{N:List aH}{L L':Lk}{dm:List (Nat×Nat)}(h:RC N L dm)(k:mu N L L'):RC N L' dm:=fun j p h1 h2=>by
 obtain⟨t,a,b⟩:=h j p h1 h2
 exact⟨t,a.eqv k,b⟩
structure SE(H:DH)(o:Ob)(N:List aH)(L:Lk)(sn:List Int)(now:Int)(names:List af)(nd vd:D)(p:Nat)(dm:List (Nat×Nat)):Prop where
 s:SD H o N L sn now names nd vd
 at':H[p]? = some (.buf 2 true true (KT dm))
 len:dm.length=N.length
 ok:RC N L dm
 off:p∉o.ws
variable{o:Ob}{N:List aH}{sn:List Int}{now:Int}{names:List af}{nd vd:D}{p:Nat}
theorem Jt(dm:List (Nat×Nat)):(KT dm).length=dm.length:=List.length_map _
theorem Hx{dm:List (Nat×Nat)}{j:Nat}{q:Nat×Nat}(h:dm[j]? = some q):(KT dm)[j]? = some [.i (q.1:Nat),.i (q.2:Nat)]:=by rw[KT,List.getElem?_map,h];rfl
def WH(H H':DH)(o:Ob)(p:Nat):Prop:=H.length<=H'.length/\∀ k,k<H.length->k∉o.ws->k≠p->H'[k]? = H[k]?
theorem mt.toP{H H':DH}(h:mt H H' o):WH H H' o p:=⟨h.1,fun k a b _=>h.2 k a b⟩
theorem SD.lt{H:DH}{L:Lk}(h:SD H o N L sn now names nd vd):∀ k∈o.ws,k<H.length:=fun k hk=>by
 obtain⟨a,b,c,d,e⟩:=h.g.lt
 simp only[Ob.ws,List.mem_cons,List.mem_nil_iff,or_false]at hk
 rcases hk with rfl|rfl|rfl|rfl|rfl<;>assumption
theorem GG.fr{H H':DH}{L:Lk}{cl:Bool}(g:GG H o N L cl sn now)(w:∀ k∈o.ws,H'[k]? = H[k]?):GG H' o N L cl sn now:=by
 obtain⟨s,hg⟩:=g.ob
 obtain⟨ds,h1,h2⟩:=g.ha
 simp only[Ob.ws,List.mem_cons,List.mem_nil_iff,or_false,forall_eq_or_imp,forall_eq]at w
 obtain⟨w1,w2,w3,w4,w5⟩:=w
 exact⟨g.pos,g.lenL,g.lenS,⟨s,by rw[w1,hg]⟩,by rw[w2,g.hn],⟨ds,h1,by rw[w3,h2]⟩,by rw[w4,g.hl],by rw[w5,g.hs],g.d1,g.d2,g.d3,g.kid,g.lk,g.nm,g.sm,g.od,g.bnd⟩
theorem SE.up{H H':DH}{L:Lk}{dm:List (Nat×Nat)}(h:SE H o N L sn now names nd vd p dm)(k:∀ x,x<H.length->H'[x]? = H[x]?):SE H' o N L sn now names nd vd p dm :=
 ⟨⟨h.s.g.fr fun x hx=>k x (h.s.lt x hx),h.s.wf,h.s.ns.mv fun x n e=>k x (h.s.ns.lt e),h.s.vs.mv fun x n e=>k x (h.s.vs.lt e),h.s.no,h.s.vo⟩,by rw[k p (ao h.at'),h.at'],h.len,h.ok,h.off⟩
theorem AS.obj{H:DH}{b:Nat}{l:List af}{d:D}(h:AS H b l d){v s:Nat}{cs:List D}(hv:H[v]? = some (.cells s cs))(x:DB):AS (H.set v x) b l d:=by
 rcases h with⟨rfl,e⟩|⟨q,hq,rfl,h⟩
 ·exact .inl ⟨rfl,e⟩
 ·exact .inr ⟨q,hq,rfl,by rw[List.getElem?_set_ne (fun e=>by rw[<- e,hv]at h;cases h),h]⟩
theorem IS.obj{H:DH}{l:List Nat}{d:D}(h:IS H l d){v s:Nat}{cs:List D}(hv:H[v]? = some (.cells s cs))(x:DB):IS (H.set v x) l d:=by
 rcases h with⟨rfl,e⟩|⟨q,rfl,h⟩
 ·exact .inl ⟨rfl,e⟩
 ·exact .inr ⟨q,rfl,by rw[List.getElem?_set_ne (fun e=>by rw[<- e,hv]at h;cases h),h]⟩
theorem SE.obj{H:DH}{L:Lk}{dm:List (Nat×Nat)}(h:SE H o N L sn now names nd vd p dm){v s:Nat}{cs:List D}(hv:H[v]? = some (.cells s cs))(ho:v∉o.ws)(x:DB):SE (H.set v x) o N L sn now names nd vd p dm :=
 ⟨⟨h.s.g.fr fun k hk=>List.getElem?_set_ne fun e=>ho (by rw[e];exact hk),h.s.wf,h.s.ns.obj hv x,h.s.vs.obj hv x,h.s.no,h.s.vo⟩,by rw[List.getElem?_set_ne (fun e=>by have:=h.at';rw[<- e,hv]at this;cases this),h.at'],h.len,h.ok,h.off⟩
theorem Qb(a:Nat)(κ:D->ah):fX false (.i (a:Nat)) [.i 2001] κ=κ (.i ((min a 2001:Nat):Int)):=Ti a 2001 κ
theorem Tj(a:Nat)(κ:D->ah):fX false (.i (a:Nat)) [.i 101] κ=κ (.i ((min a 101:Nat):Int)):=Ti a 101 κ
theorem SE.put{H:DH}{L:Lk}{dm:List (Nat×Nat)}(h:SE H o N L sn now names nd vd p dm){r:Nat}{t:Ty}(ht:Tr N L r t):SE (H.set p (.buf 2 true true ((KT dm).set r [.i ((lm t).1:Nat),.i ((lm t).2:Nat)]))) o N L sn now names nd vd p (dm.set r (lm t)):=by
 have e1:(KT dm).set r [.i ((lm t).1:Nat),.i ((lm t).2:Nat)]=KT (dm.set r (lm t)):=by rw[KT,KT,List.map_set]
 have nb:∀ {d:D} {l:List af},AS H 0 l d->∀ x n,d=.buf 1 x n->p≠x:=fun h2 x n e q=>by
  rcases h2 with⟨rfl,_⟩|⟨y,_,rfl,h2⟩
  ·cases e
  ·cases e;have:=h.at';rw[q,h2]at this;cases this
 have nb2:∀ {d:D} {l:List Nat},IS H l d->∀ x n,d=.buf 1 x n->p≠x:=fun h2 x n e q=>by
  rcases h2 with⟨rfl,_⟩|⟨y,rfl,h2⟩
  ·cases e
  ·cases e;have:=h.at';rw[q,h2]at this;cases this
 refine⟨⟨h.s.g.fr fun k hk=>List.getElem?_set_ne fun e=>h.off (by rw[e];exact hk),h.s.wf,h.s.ns.mv fun x n e=>List.getElem?_set_ne (nb h.s.ns x n e),h.s.vs.mv fun x n e=>List.getElem?_set_ne (nb2 h.s.vs x n e),h.s.no,h.s.vo⟩,by rw[e1];exact aN _ h.at',by simp[h.len],fun j q hj hq=>?_,h.off⟩
 rw[List.getElem?_set]at hj
 split at hj
 ·rename_i e;subst e
  split at hj
  ·cases hj;exact⟨t,ht,rfl⟩
  ·cases hj
 ·exact h.ok j q hj hq
def Zb(H H':DH)(o:Ob)(p v:Nat):Prop:=H.length<=H'.length/\∀ k,k<H.length->k∉o.ws->k≠p->k≠v->H'[k]? = H[k]?
variable(hv:∀(i:Nat) (x:aH),N[i]? = some x->x.v=true->x.a=[])
include hv
mutual
theorem My:∀(t:Ty) (H:DH) (L:Lk) (dm:List (Nat×Nat)) (i:Nat),SE H o N L sn now names nd vd p dm->Tr N L i t ->
 ∃ H' L' dm',ay 43 [.ptr o.g 0,.i (i:Nat),.buf 2 p N.length] H=ret (.agg [.i ((lm t).1:Nat),.i ((lm t).2:Nat)]) H'/\SE H' o N L' sn now names nd vd p dm'/\mu N L L'/\WH H H' o p
 |.mk n ts,H,L,dm,i,h,ht=>by
  have key:∃ r m x,Rt L i r m/\N[r]? = some x/\oo N L x.a ts/\Tr N L r (.mk n ts):=by
   cases ht with
   |var h1 h2 h3=>exact⟨_,_,_,h1,h2,by rw[hv _ _ h2 h3];exact .nil,.var (.z h1.root) h2 h3⟩
   |con h1 h2 h3 h4=>exact⟨_,_,_,h1,h2,h4,.con (.z h1.root) h2 h3 h4⟩
  obtain⟨r,m,x,hr,hx,hts,htr⟩:=key
  obtain⟨H1,L1,r1,g1,q1,l1⟩:=wJ h.s.g hr
  have hrl:=ao hx
  have l1w:mt H H1 o:=l1.c.w
  have h1:SE H1 o N L1 sn now names nd vd p dm:=⟨h.s.mv g1 (h.s.wf.eqv q1) l1w,by rw[l1w.2 p (ao h.at') h.off,h.at'],h.len,h.ok.eqv q1,h.off⟩
  have htr1:=htr.eqv q1
  have hql:r<dm.length:=by rw[h.len];exact hrl
  have hq:=List.getElem?_eq_getElem hql
  generalize dm[r]=q at hq
  have hpl:N.length=(KT dm).length:=by rw[Jt,h.len]
  have st:∀ z,(cond (decide (((q.1:Nat):Int)>0)) (ret (.agg [.i (q.1:Nat),.i (q.2:Nat)]) H1) (ae am 43 200006 [.g (.ptr o.g 0),.n (r:Nat),.g (.buf 2 p N.length),.lp 0 0,.g (.ptr H1.length 0),.n 0] [(0,[.i 0,.i 0])] (H1++[.cells 1 [.i 1,.i 0]])))=z->ay 43 [.ptr o.g 0,.i (i:Nat),.buf 2 p N.length] H=z:=fun z hz=>by
   refine ev (f43) ?_
   rw[aw r1,WA h1.at' hpl (Hx hq),ff,ak,<- hz]
   cases decide (((q.1:Nat):Int)>0)with
   |true=>rw[cond_true,cond_true,UG h1.at' hpl (Hx hq),YQ,RO];rfl
   |false =>
    rw[cond_false,cond_false]
    dsimp only
    rw[ac (bk _ _),RO,iO]
  by_cases e:q.1=0
  ·have o1:H1.length∉o.ws:=fun hk=>Nat.lt_irrefl _ (h1.s.lt _ hk)
   have o2:H1.length≠p:=fun e=>by have:=ao h1.at';omega
   have htt:Tr N L1 r (.mk n ts)/\bE (.mk n ts)=1+bE.tszs ts/\mM (.mk n ts)=max 0 (gc ts)+1:=⟨htr1,by simp only[bE],by simp only[mM];omega⟩
   obtain⟨H',L',dm',w1,w2,w3,w4⟩:=uc hx (.mk n ts) ts x.a [] (H1++[.cells 1 [.i 1,.i 0]]) L1 dm H1.length 1 1 0 (h1.up fun k hk=>List.getElem?_append_left hk) (hts.eqv q1) rfl (bk _ _) o1 o2 htt
   refine⟨H',L',dm',st _ (by rw[decide_eq_false (by omega),cond_false];exact w1),w2,q1.trans w3,⟨by have:=l1w.1;have:=w4.1;simp at this;omega,fun k a b c=>?_⟩⟩
   have:=l1w.1
   rw[w4.2 k (by simp;omega) b c (by omega),List.getElem?_append_left (by omega),l1w.2 k a b]
  ·obtain⟨t',a1,a2⟩:=h1.ok r q hq e
   have:=a1.det htr1
   subst this
   subst a2
   exact⟨H1,L1,dm,st _ (by rw[decide_eq_true (by omega),cond_true]),h1,q1,l1w.toP⟩
theorem uc{r:Nat}{x:aH}(hx:N[r]? = some x)(T:Ty):∀(ts:List Ty) (l pre:List Nat) (H:DH) (L:Lk) (dm:List (Nat×Nat)) (v s A B:Nat),SE H o N L sn now names nd vd p dm->oo N L l ts->x.a=pre++l->H[v]? = some (.cells s [.i ((min A 2001:Nat):Int),.i ((min B 101:Nat):Int)])->v∉o.ws->v≠p ->
 Tr N L r T/\bE T=A+bE.tszs ts/\mM T=max B (gc ts)+1 ->
 ∃ H' L' dm',ae am 43 200006 [.g (.ptr o.g 0),.n (r:Nat),.g (.buf 2 p N.length),.lp 0 0,.g (.ptr v 0),.n (pre.length:Nat)] [(0,[.i 0,.i 0])] H=ret (.agg [.i ((lm T).1:Nat),.i ((lm T).2:Nat)]) H'/\SE H' o N L' sn now names nd vd p dm'/\mu N L L'/\Zb H H' o p v
 |[],l,pre,H,L,dm,v,s,A,B,h,hts,e,hV,o1,o2,hT=>by
  cases hts
  obtain⟨sg,hg⟩:=h.s.g.ob
  obtain⟨ds,hd1,hd2⟩:=h.s.g.ha
  obtain⟨d,a1,a2,a3⟩:=jC hd1 hx
  have hna:N.length=(ds.map fun d=>[d]).length:=by rw[List.length_map,hd1.1]
  have hpl:N.length=(KT dm).length:=by rw[Jt,h.len]
  have hrl:=ao hx
  have hql:r<dm.length:=by rw[h.len];exact hrl
  have hq:=List.getElem?_eq_getElem hql
  generalize dm[r]=q at hq
  obtain⟨t1,t2,t3⟩:=hT
  simp only[bE.tszs,gc]at t2 t3
  have s1:(lm T).1=min A 2001:=by simp only[lm];omega
  have s2:(lm T).2=min (min B 101+1) 101:=by simp only[lm];omega
  have h2:=h.obj hV o1 (.cells (s+1) [.i ((lm T).1:Nat),.i ((lm T).2:Nat)])
  have h3:=h2.put t1
  have hV2:(H.set v (.cells (s+1) [.i ((lm T).1:Nat),.i ((lm T).2:Nat)]))[v]? = some (.cells (s+1) [.i ((lm T).1:Nat),.i ((lm T).2:Nat)]):=aN _ hV
  refine⟨_,L,_,cM (xV) ?_,h3,.refl _ _,by simp,fun k a b c d=>by rw[List.getElem?_set_ne (fun e=>c e.symm),List.getElem?_set_ne (fun e=>d e.symm)]⟩
  rw[ac hg]
  simp only[aj,ar]
  rw[qm hd2 hna (eJ a1),a2,iF,ak,show decide (((pre.length:Nat):Int)<((x.a.length:Nat):Int))=false from by rw[e];simp,cond_false,ac hV]
  simp only[aj,ar]
  rw[OP,show(((min B 101:Nat):Int)+1)=((min B 101+1:Nat):Int)from by omega,WN (by omega),Tj,Pg,ac hV,Zr,<- s1,<- s2]
  try dsimp only
  rw[ac hV2]
  simp only[aj,ar]
  rw[SI h2.at' hpl (Hx hq),ac (ag _ (fun e=>o2 e.symm) hV2)]
  simp only[aj,ar]
 |t::ts,l,pre,H,L,dm,v,s,A,B,h,hts,e,hV,o1,o2,hT=>by
  cases hts with
  |cons ht hts =>
  rename_i a l
  obtain⟨sg,hg⟩:=h.s.g.ob
  obtain⟨ds,hd1,hd2⟩:=h.s.g.ha
  obtain⟨d,a1,a2,a3⟩:=jC hd1 hx
  have hna:N.length=(ds.map fun d=>[d]).length:=by rw[List.length_map,hd1.1]
  have ia:x.a[pre.length]? = some a:=by rw[e];simp
  have h16:=h.s.g.sm r x hx
  have hw2:cq ((pre.length:Int)+1)=(((pre++[a]).length:Nat):Int):=by
   rw[aS (by
    have:x.a.length=pre.length+(l.length+1):=by rw[e];simp
    omega)]
   simp
  obtain⟨H1,L1,dm1,r1,h1,q1,f1⟩:=My t H L dm a h ht
  obtain⟨t1,t2,t3⟩:=hT
  simp only[bE.tszs,gc]at t2 t3
  have hV1:H1[v]? = some _:=(f1.2 v (ao hV) o1 o2).trans hV
  let X:DB:=.cells 1 [.i ((lm t).1:Nat),.i ((lm t).2:Nat)]
  let Y:DB:=.cells (s+1) [.i ((min (A+bE t) 2001:Nat):Int),.i ((min B 101:Nat):Int)]
  let Z:DB:=.cells (s+1+1) [.i ((min (A+bE t) 2001:Nat):Int),.i ((min (max B (mM t)) 101:Nat):Int)]
  have m1:(H1++[X])[v]? = some _:=cW hV1
  have m2:((H1++[X]).set v Y)[v]? = some Y:=aN _ m1
  have m3:(((H1++[X]).set v Y).set v Z)[v]? = some Z:=aN _ m2
  have vl:=ao hV1
  have n1:(H1++[X])[H1.length]? = some X:=bk _ _
  have n2:((H1++[X]).set v Y)[H1.length]? = some X:=ag _ (by omega) n1
  have h4:SE (((H1++[X]).set v Y).set v Z) o N L1 sn now names nd vd p dm1:=((h1.up fun k hk=>List.getElem?_append_left hk).obj m1 o1 Y).obj m2 o1 Z
  obtain⟨H',L',dm',w1,w2,w3,w4⟩:=uc hx T ts l (pre++[a]) _ L1 dm1 v (s+1+1) (A+bE t) (max B (mM t)) h4 (hts.eqv q1) (by rw[e];simp) m3 o1 o2 ⟨t1.eqv q1,by omega,by omega⟩
  refine⟨H',L',dm',cM (xV) ?_,w2,q1.trans w3,?_,fun k b1 b2 b3 b4=>?_⟩
  ·rw[ac hg]
   simp only[aj,ar]
   rw[qm hd2 hna (eJ a1),a2,iF,ak,show decide (((pre.length:Nat):Int)<((x.a.length:Nat):Int))=true from by rw[e];simp;omega,cond_true,ac hg]
   simp only[aj,ar]
   rw[qm hd2 hna (eJ a1),a3 _ _ _ _ ia,aw r1]
   try dsimp only
   rw[YQ,ac (bk _ _),RO,iO,ac m1]
   simp only[aj,ar]
   rw[ac n1]
   simp only[aj,ar]
   have ea:(((min A 2001:Nat):Int)+(((lm t).1:Nat):Int))=((min A 2001+(lm t).1:Nat):Int):=by omega
   have eb:min (min A 2001+(lm t).1) 2001=min (A+bE t) 2001:=by simp only[lm];omega
   have ec:max (min B 101) (lm t).2=min (max B (mM t)) 101:=by simp only[lm];omega
   rw[Sf,ea,WN (by simp only[lm];omega),Qb,eb,Pg,ac m1,Zs]
   try dsimp only
   rw[ac m2]
   simp only[aj,ar]
   rw[ac n2]
   simp only[aj,ar]
   rw[Tn,ec,Pg,ac m2,Zr,hw2]
   exact w1
  ·have:=f1.1
   have:=w4.1
   simp at this
   omega
  ·have:=f1.1
   rw[w4.2 k (by simp;omega) b2 b3 b4,List.getElem?_set_ne (fun e=>b4 e.symm),List.getElem?_set_ne (fun e=>b4 e.symm),List.getElem?_append_left (by omega),f1.2 k b1 b2 b3]
end
end Go.Proofs.YtenibcfppefobaaGreatDoor
namespace Go.Proofs.YtenibcfppefobaaGreatDoor
open Go.AI
variable{o:Ob}{N:List aH}{sn:List Int}{now:Int}{names:List af}{nd vd:D}
structure SB(H:DH)(o:Ob)(N:List aH)(L:Lk)(sn:List Int)(now:Int)(names:List af)(nd vd:D)(c:Nat)(cd:D):Prop where
 s:SD H o N L sn now names nd vd
 oc:∃ sc,H[c]? = some (.cells sc [cd])
 ic:IS H (List.range names.length) cd
 nc:c∉o.ws
 off:off cd o.ws
theorem SB.mv{H H':DH}{L L':Lk}{c:Nat}{cd:D}(h:SB H o N L sn now names nd vd c cd)(g:GG H' o N L' false sn now)(w:Wf L')(k:mt H H' o):SB H' o N L' sn now names nd vd c cd:=by
 obtain⟨sc,e⟩:=h.oc
 exact⟨h.s.mv g w k,⟨sc,by rw[k.2 c (ao e) h.nc,e]⟩,h.ic.mv fun p n e=>k.2 p (h.ic.lt e) (h.off p n e),h.nc,h.off⟩
theorem GG.kp{H H':DH}{L:Lk}{cl:Bool}{b:Nat}(g:GG H o N L cl sn now)(k:UT b H H'):GG H' o N L cl sn now:=by
 obtain⟨s,hg⟩:=g.ob
 obtain⟨ds,h1,h2⟩:=g.ha
 refine g.fr fun x hx=>?_
 simp only[Ob.ws,List.mem_cons,List.mem_nil_iff,or_false]at hx
 rcases hx with rfl|rfl|rfl|rfl|rfl
 ·exact k.nb _ (ao hg) fun _ _ _ e=>by rw[hg]at e;cases e
 ·exact k.nb _ (ao g.hn) fun _ _ _ e=>by rw[g.hn]at e;cases e
 ·exact k.nb _ (ao h2) fun _ _ _ e=>by rw[h2]at e;cases e
 ·exact k.nb _ (ao g.hl) fun _ _ _ e=>by rw[g.hl]at e;cases e
 ·exact k.nb _ (ao g.hs) fun _ _ _ e=>by rw[g.hs]at e;cases e
theorem IS.kp{H H':DH}{l:List Nat}{d:D}{b:Nat}(h:IS H l d)(k:UT b H H'):IS H' l d:=by
 rcases h with⟨rfl,e⟩|⟨q,rfl,h⟩
 ·exact .inl ⟨rfl,e⟩
 ·exact .inr ⟨q,rfl,by rw[k.nb q (ao h) (fun _ _ _ e=>by rw[h]at e;cases e),h]⟩
theorem AS.kpo{H H':DH}{l:List af}{d:D}{b z:Nat}(h:AS H z l d)(k:UT b H H'):AS H' z l d:=by
 rcases h with⟨rfl,e⟩|⟨q,hq,rfl,h⟩
 ·exact .inl ⟨rfl,e⟩
 ·exact .inr ⟨q,hq,rfl,by rw[k.nb q (ao h) (fun _ _ _ e=>by rw[h]at e;cases e),h]⟩
theorem SB.kp{H H':DH}{L:Lk}{c b:Nat}{cd:D}(h:SB H o N L sn now names nd vd c cd)(k:UT b H H'):SB H' o N L sn now names nd vd c cd:=by
 obtain⟨sc,e⟩:=h.oc
 exact⟨⟨h.s.g.kp k,h.s.wf,h.s.ns.kpo k,h.s.vs.kp k,h.s.no,h.s.vo⟩,⟨sc,by rw[k.nb c (ao e) (fun _ _ _ q=>by rw[e]at q;cases q),e]⟩,h.ic.kp k,h.nc,h.off⟩
theorem uy{H:DH}{L:Lk}{c:Nat}{cd:D}(h:SB H o N L sn now names nd vd c cd){r:Nat}{n:af}(hr:names[r]? = some n)(hb:names.length<1000000):∀(m k:Nat),m+k=r->ae am 44 200004 [.n (r:Nat),.g (.ptr c 0),.g nd,.lp 0 0,.n (k:Nat)] [(0,[.str [],.nilrow])] H=ret (.agg [.str n,.row 2 []]) H
 |0,k,e=>by
  have e:k=r:=by omega
  subst e
  obtain⟨sc,hc⟩:=h.oc
  have hl:=ao hr
  have hlt:decide (((k:Nat):Int)<(((List.range names.length).length:Nat):Int))=true:=by rw[List.length_range];simp;omega
  have hlt2:decide (((k:Nat):Int)<((names.length:Nat):Int))=true:=by simp;omega
  have hk:(List.range names.length)[k]? = some k:=List.getElem?_range hl
  have r68:ay 68 [.i (k:Nat),nd] H=ret (.str n) H:=by
   refine ev (ZT) ?_
   rw[h.s.ns.len,iF,ak,hlt2,cond_true,h.s.ns.at' hr]
  refine cM (xU) ?_
  rw[ac hc,aj,h.ic.len,iF,ak,hlt,cond_true,ac hc,aj,h.ic.at' hk,KQ,ak,show(((k:Nat):Int)==((k:Nat):Int))=true from by simp,cond_true,aw r68]
  rfl
 |m+1,k,e=>by
  have ih:=uy h hr hb m (k+1) (by omega)
  obtain⟨sc,hc⟩:=h.oc
  have hl:=ao hr
  have hlt:decide (((k:Nat):Int)<(((List.range names.length).length:Nat):Int))=true:=by rw[List.length_range];simp;omega
  have hk:(List.range names.length)[k]? = some k:=List.getElem?_range (by omega)
  have hw2:cq ((k:Int)+1)=((k+1:Nat):Int):=aS (by omega)
  refine cM (xU) ?_
  rw[ac hc,aj,h.ic.len,iF,ak,hlt,cond_true,ac hc,aj,h.ic.at' hk,KQ,ak,show(((k:Nat):Int)==((r:Nat):Int))=false from by simp;omega,cond_false,hw2]
  exact ih
theorem ZA(n:af)(κ:List D->ah):ai 1 (.str n) κ=κ [.str n]:=rfl
theorem oS(n:af)(κ:List D->ah):az [.str [],.nilrow] 0 [.str n] κ=κ [.str n,.nilrow]:=rfl
theorem So(n:af)(xs:List Ty):cG (.mk n xs)=[.str n,.row 2 (aM xs)]:=by simp only[cG]
variable(hv:∀(i:Nat) (x:aH),N[i]? = some x->x.v=true->x.a=[])(hvn:∀(i:Nat) (x:aH),N[i]? = some x->x.v=true->names[i]? = some x.n)(hb:names.length<1000000)
include hv hvn hb
mutual
theorem JK:∀(t:Ty) (H:DH) (L:Lk) (i c:Nat) (cd:D),SB H o N L sn now names nd vd c cd->Tr N L i t ->
 ∃ H' L',ay 44 [.ptr o.g 0,.i (i:Nat),.ptr c 0,nd] H=ret (.agg (cG t)) H'/\SB H' o N L' sn now names nd vd c cd/\mu N L L'/\mt H H' o
 |.mk n ts,H,L,i,c,cd,h,ht=>by
  have key:∃ r m x,Rt L i r m/\N[r]? = some x/\x.n=n/\oo N L x.a ts:=by
   cases ht with
   |var h1 h2 h3=>exact⟨_,_,_,h1,h2,rfl,by rw[hv _ _ h2 h3];exact .nil⟩
   |con h1 h2 h3 h4=>exact⟨_,_,_,h1,h2,rfl,h4⟩
  obtain⟨r,m,x,hr,hx,hxn,hts⟩:=key
  subst hxn
  obtain⟨H1,L1,r1,g1,q1,l1⟩:=wJ h.s.g hr
  have l1w:mt H H1 o:=l1.c.w
  have h1:=h.mv g1 (h.s.wf.eqv q1) l1w
  obtain⟨sg,hg⟩:=g1.ob
  have hnn:N.length=(Ks N).length:=by simp[Ks]
  have st:∀ z,(cond x.v (ae am 44 200004 [.n (r:Nat),.g (.ptr c 0),.g nd,.lp 0 0,.n 0] [(0,[.str [],.nilrow])] H1) (ae am 44 200012 [.g (.ptr o.g 0),.n (r:Nat),.g (.ptr c 0),.g nd,.lp 0 0,.lp 1 0,.n 0] [(0,[.str [],.nilrow]),(0,[.str (if x.v then [] else x.n),.nilrow])] H1))=z->ay 44 [.ptr o.g 0,.i (i:Nat),.ptr c 0,nd] H=z:=fun z hz=>by
   refine ev (f44) ?_
   rw[aw r1,ac hg,aj,zK g1.hn hnn (pm hx),Gg,ak,wR g1 hx,<- hz]
   cases hvx:x.v with
   |true=>rw[cond_true,cond_true]
   |false =>
    rw[cond_false,cond_false,ac hg,aj,zK g1.hn hnn (pm hx),ZA,oS,UB,Xw,hvx]
  cases vx:x.v with
  |true =>
   have hx0:=hv _ _ hx vx
   rw[hx0]at hts
   cases hts
   have:=uy h1 (hvn r x hx vx) hb r 0 (by omega)
   refine⟨H1,L1,st _ (by rw[vx,cond_true,So];exact this),h1,q1,l1w⟩
  |false =>
   obtain⟨H',L',w1,w2,w3,w4⟩:=Bt hx ts x.a [] H1 L1 c cd H1.length [] .nilrow h1 (hts.eqv q1) rfl (.inl ⟨rfl,rfl⟩) (Nat.le_refl _) rfl
   refine⟨H',L',st _ (by rw[vx,cond_false];simpa using w1),w2,q1.trans w3,⟨by have:=l1w.1;have:=w4.1;omega,fun k a b=>?_⟩⟩
   have:=l1w.1
   rw[w4.2 k (by omega) b,l1w.2 k a b]
theorem Bt{r:Nat}{x:aH}(hx:N[r]? = some x):∀(ts:List Ty) (l pre:List Nat) (H:DH) (L:Lk) (c:Nat) (cd:D) (b:Nat) (done:List Ty) (dr:D),SB H o N L sn now names nd vd c cd->oo N L l ts->x.a=pre++l->Ac H b 2 (aM done) dr->b<=H.length->done.length=pre.length ->
 ∃ H' L',ae am 44 200012 [.g (.ptr o.g 0),.n (r:Nat),.g (.ptr c 0),.g nd,.lp 0 0,.lp 1 0,.n (pre.length:Nat)] [(0,[.str [],.nilrow]),(0,[.str x.n,dr])] H=ret (.agg (cG (.mk x.n (done++ts)))) H'/\SB H' o N L' sn now names nd vd c cd/\mu N L L'/\H.length<=H'.length/\∀ k,k<b->k∉o.ws->H'[k]? = H[k]?
 |[],l,pre,H,L,c,cd,b,done,dr,h,hts,e,hd,hbl,hln=>by
  cases hts
  obtain⟨sg,hg⟩:=h.s.g.ob
  obtain⟨ds,hd1,hd2⟩:=h.s.g.ha
  obtain⟨d,a1,a2,a3⟩:=jC hd1 hx
  have hna:N.length=(ds.map fun d=>[d]).length:=by rw[List.length_map,hd1.1]
  obtain⟨H',u1,u2⟩:=hd.fz
  refine⟨H',L,cM (xS) ?_,h.kp u2,.refl _ _,u2.len,fun k a _=>u2.at' k a⟩
  rw[ac hg]
  simp only[aj,ar]
  rw[qm hd2 hna (eJ a1),a2,iF,ak,show decide (((pre.length:Nat):Int)<((x.a.length:Nat):Int))=false from by rw[e];simp,cond_false]
  rw[u1]
  simp only[cG,List.append_nil]
 |t::ts,l,pre,H,L,c,cd,b,done,dr,h,hts,e,hd,hbl,hln=>by
  cases hts with
  |cons ht hts =>
  rename_i a l
  obtain⟨sg,hg⟩:=h.s.g.ob
  obtain⟨ds,hd1,hd2⟩:=h.s.g.ha
  obtain⟨d,a1,a2,a3⟩:=jC hd1 hx
  have hna:N.length=(ds.map fun d=>[d]).length:=by rw[List.length_map,hd1.1]
  have ia:x.a[pre.length]? = some a:=by rw[e];simp
  have h16:=h.s.g.sm r x hx
  have hxl:x.a.length=pre.length+(l.length+1):=by rw[e];simp
  have hw2:cq ((pre.length:Int)+1)=(((pre++[a]).length:Nat):Int):=by
   rw[aS (by omega)]
   simp
  obtain⟨H1,L1,r1,h1,q1,f1⟩:=JK t H L a c cd h ht
  have hdw:∀ p n,dr=.buf 2 p n->p∉o.ws:=fun p n e hk=>by
   rcases hd with⟨rfl,_⟩|⟨y,hy,rfl,hd⟩
   ·cases e
   ·cases e
    simp only[Ob.ws,List.mem_cons,List.mem_nil_iff,or_false]at hk
    rcases hk with rfl|rfl|rfl|rfl|rfl
    ·rw[hg]at hd;cases hd
    ·rw[h.s.g.hn]at hd;cases hd
    ·rw[hd2]at hd;cases hd
    ·rw[h.s.g.hl]at hd;cases hd
    ·rw[h.s.g.hs]at hd;cases hd
  have hr1:Ac H1 b 2 (aM done) dr:=by
   rcases hd with⟨rfl,e⟩|⟨y,hy,rfl,hd⟩
   ·exact .inl ⟨rfl,e⟩
   ·exact .inr ⟨y,hy,rfl,by rw[f1.2 y (ao hd) (hdw _ _ rfl),hd]⟩
  have hb1:b<=H1.length:=Nat.le_trans hbl f1.1
  obtain⟨tn,tx⟩:=t
  obtain⟨d2,H2,u1,u2,u3,ob,nb,hd2'⟩:=hr1.add hb1 (by rw[aT];omega) (cG (.mk tn tx))
  have e2:aM done++[cG (.mk tn tx)]=aM (done++[.mk tn tx]):=by rw[fg,fg];simp
  rw[e2]at u2
  obtain⟨H',L',w1,w2,w3,w4,w5⟩:=Bt hx ts l (pre++[a]) H2 L1 c cd b (done++[.mk tn tx]) d2 (h1.kp u3) (hts.eqv q1) (by rw[e];simp) u2 (Nat.le_trans hb1 u3.len) (by simp[hln])
  refine⟨H',L',cM (xS) ?_,w2,q1.trans w3,by have:=f1.1;have:=u3.len;omega,fun k b1 b2=>?_⟩
  ·rw[ac hg]
   simp only[aj,ar]
   rw[qm hd2 hna (eJ a1),a2,iF,ak,show decide (((pre.length:Nat):Int)<((x.a.length:Nat):Int))=true from by rw[e];simp;omega,cond_true,ac hg]
   simp only[aj,ar]
   rw[qm hd2 hna (eJ a1),a3 _ _ _ _ ia,LF r1]
   rw[show ∀ κ:List D->ah,ai 2 (.agg (cG (.mk tn tx))) κ=κ (cG (.mk tn tx))from fun κ=>by simp only[cG];rfl]
   rw[u1,hd2',show ∀(s p n:Nat) (κ:List D->ah),ai 1 (.buf s p n) κ=κ [.buf s p n] from fun _ _ _ _=>rfl,show ∀(y:D) (κ:List D->ah),az [.str x.n,dr] 1 [y] κ=κ [.str x.n,y] from fun _ _=>rfl,<- hd2',hw2]
   rw[w1]
   simp
  ·rw[w5 k b1 b2,u3.at' k b1,f1.2 k (by omega) b2]
end
end Go.Proofs.YtenibcfppefobaaGreatDoor
namespace Go.Proofs.YtenibcfppefobaaGreatDoor
open Go.AI
section
variable{H H2:DH}{o n i:Nat}{st cp:Bool}{l:dB}
theorem Wy{a:Int}(h:H[o]? = some (.buf 1 st cp l))(h2:H2[o]? = some (.buf 1 st cp l))(hn:n=l.length)(hi:l[i]? = some [.i a])(κ:D->ah):(aq ab 59 (.buf 1 o n) (.i i) fun a=>th ab 3 a H [H2] κ)=κ (.i a):=by
 have hlt:i<n:=by rw[hn];exact ao hi
 rw[aq,JX]
 simp only[Sw,mI,Nat.beq_refl,cond_true,aP,ez hlt,boK,th,BX,bK h hn,aI hi,WO]
 rw[if_pos ⟨fun H3 hm=>by simp at hm;subst hm;exact h2,fun H3 _=>rfl⟩]
theorem Wz{a:af}(h:H[o]? = some (.buf 1 st cp l))(h2:H2[o]? = some (.buf 1 st cp l))(hn:n=l.length)(hi:l[i]? = some [.str a])(κ:D->ah):(aq ab 35 (.buf 1 o n) (.i i) fun a=>th ab 9 a H [H2] κ)=κ (.str a):=by
 have hlt:i<n:=by rw[hn];exact ao hi
 rw[aq,Vg]
 simp only[Vh,mI,Nat.beq_refl,cond_true,aP,ez hlt,boK,th,BX,bK h hn,aI hi,VH]
 rw[if_pos ⟨fun H3 hm=>by simp at hm;subst hm;exact h2,fun H3 _=>rfl⟩]
end
theorem IS.at2{H H2:DH}{l:List Nat}{d:D}(h:IS H l d)(h2:IS H2 l d){i a:Nat}(hi:l[i]? = some a)(κ:D->ah):(aq ab 59 d (.i i) fun c=>th ab 3 c H [H2] κ)=κ (.i (a:Nat)):=by
 rcases h with⟨rfl,rfl⟩|⟨q,rfl,h⟩
 ·cases hi
 ·rcases h2 with⟨e,_⟩|⟨q2,e,h2⟩
  ·cases e
  ·cases e
   exact Wy h h2 (by simp) (by rw[List.getElem?_map,hi];rfl) κ
theorem AS.at2{H H2:DH}{b b2:Nat}{l:List af}{d:D}(h:AS H b l d)(h2:AS H2 b2 l d){i:Nat}{a:af}(hi:l[i]? = some a)(κ:D->ah):(aq ab 35 d (.i i) fun c=>th ab 9 c H [H2] κ)=κ (.str a):=by
 rcases h with⟨rfl,rfl⟩|⟨q,_,rfl,h⟩
 ·cases hi
 ·rcases h2 with⟨e,_⟩|⟨q2,_,e,h2⟩
  ·cases e
  ·cases e
   exact Wz h h2 (by simp) (by rw[List.getElem?_map,hi];rfl) κ
theorem IS.els{H:DH}{l:List Nat}{d:D}(h:IS H l d)(κ:dB->ah):EY d H 1 κ=κ (l.map fun i=>[.i (i:Nat)]):=by
 rcases h with⟨rfl,rfl⟩|⟨q,rfl,h⟩
 ·rfl
 ·have hm:(l.map fun i=>[D.i (i:Nat)]).length=l.length:=List.length_map _
  have:EY (.buf 1 q l.length) H 1 κ=gG H q l.length fun _ _ _ l=>κ l:=rfl
  rw[this,<- hm,bH h]
theorem OF{H:DH}{l:dB}(hl:l.length<=4194304)(hn:l≠[])(κ:D->DH->ah):cE (aJ ab 3) 1 .nilrow l H κ=κ (.buf 1 H.length l.length) (H++[.buf 1 true false l]):=by
 cases l with
 |nil=>exact(hn rfl).elim
 |cons a r =>
  simp only[cE,qM hl,boK,cond_true]
  rfl
theorem Ac.fz3d{H:DH}{l:dB}{d:D}(h:Ac H 0 3 l d):∃ H',∀ κ:D->DH->ah,fK (.fz 3) d H κ=κ (.row 3 l) H':=by
 rcases h with⟨rfl,rfl⟩|⟨y,hy,rfl,h⟩
 ·exact⟨H,fun _=>rfl⟩
 ·refine⟨H.set y (.buf 3 false false l),fun κ=>?_⟩
  rw[fK,bH h]
  rfl
variable{o:Ob}{N:List aH}{sn:List Int}{now:Int}{names:List af}{nd vd:D}{p:Nat}
theorem GG.nbuf{H:DH}{L:Lk}{cl:Bool}(g:GG H o N L cl sn now){y z:Nat}{st cp:Bool}{l:dB}(h:H[y]? = some (.buf z st cp l))(hz:z≠1):y∉o.ws:=fun hk=>by
 obtain⟨s,hg⟩:=g.ob
 obtain⟨ds,_,h2⟩:=g.ha
 simp only[Ob.ws,List.mem_cons,List.mem_nil_iff,or_false]at hk
 rcases hk with rfl|rfl|rfl|rfl|rfl
 ·rw[hg]at h;cases h
 ·rw[g.hn]at h;cases h;exact hz rfl
 ·rw[h2]at h;cases h;exact hz rfl
 ·rw[g.hl]at h;cases h;exact hz rfl
 ·rw[g.hs]at h;cases h;exact hz rfl
theorem Gu{L:Lk}{i r m:Nat}(h:Rt L i r m):(r==i)=decide (L[i]? = some none):=by
 rw[Bool.eq_iff_iff,beq_iff_eq,decide_eq_true_iff]
 constructor
 ·intro e;subst e;exact h.root
 ·intro e;exact(h.det (.z e)).1
theorem Vn{n:Nat}{pre l:List Nat}{v:Nat}(e:List.range n=pre++v::l):v=pre.length/\pre.length<n:=by
 have h:(List.range n)[pre.length]? = some v:=by rw[e];simp
 have hl:=ao h
 rw[List.length_range]at hl
 rw[List.getElem?_range hl]at h
 cases h
 exact⟨rfl,hl⟩
variable(hv:∀(i:Nat) (x:aH),N[i]? = some x->x.v=true->x.a=[])(hvn:∀(i:Nat) (x:aH),N[i]? = some x->x.v=true->names[i]? = some x.n)(hb:names.length<1000000)(hnN:names.length<=N.length){ty:Nat->Ty}
include hv hvn hb hnN
theorem Sv:∀(l pre:List Nat) (H:DH) (L:Lk) (dm:List (Nat×Nat)),List.range names.length=pre++l->SE H o N L sn now names nd vd p dm->(∀ i,i<N.length->Tr N L i (ty i)) ->
 ∃ H' L',mu N L L'/\((ae am 14 200034 [.lp 0 0,.g nd,.g (.ptr o.g 0),.g vd,.g .nilrow,.g (.buf 2 p N.length),.n (pre.length:Nat)] [(0,[.nilrow,.i 0])] H=ret (.agg [.row 3 [],.i 39]) H'/\∃ i,i<names.length/\L[i]?≠some none/\OZ (ty i)) \/
  (ae am 14 200034 [.lp 0 0,.g nd,.g (.ptr o.g 0),.g vd,.g .nilrow,.g (.buf 2 p N.length),.n (pre.length:Nat)] [(0,[.nilrow,.i 0])] H=ae am 14 200041 [.lp 0 0,.g nd,.g (.ptr o.g 0),.g vd,.g .nilrow,.n 0] [(0,[.nilrow,.i 0])] H'/\SD H' o N L' sn now names nd vd/\∀ i∈l,L[i]?≠some none->¬ OZ (ty i)))
 |[],pre,H,L,dm,e,h,ht=>by
  have hpl:pre.length=names.length:=by have:=congrArg List.length e;simpa using this.symm
  refine⟨H,L,.refl _ _,.inr ⟨cM (qd) ?_,h.s,fun _ h=>nomatch h⟩⟩
  rw[h.s.vs.len,iF,ak,show decide (((pre.length:Nat):Int)<(((List.range names.length).length:Nat):Int))=false from by rw[List.length_range];simp;omega,cond_false]
 |v::l,pre,H,L,dm,e,h,ht=>by
  obtain⟨rfl,hlt0⟩:=Vn e
  have hlt:decide (((pre.length:Nat):Int)<(((List.range names.length).length:Nat):Int))=true:=by rw[List.length_range];simp;omega
  have hk:(List.range names.length)[pre.length]? = some pre.length:=List.getElem?_range hlt0
  have hw2:cq ((pre.length:Int)+1)=(((pre++[pre.length]).length:Nat):Int):=by
   rw[aS (by omega)];simp
  have e':List.range names.length=(pre++[pre.length])++l:=by rw[e];simp
  have hi:pre.length<N.length:=by omega
  obtain⟨r,m,hr⟩:=h.s.wf pre.length (by rw[h.s.g.lenL];exact hi)
  obtain⟨H1,L1,r1,g1,q1,l1⟩:=wJ h.s.g hr
  have l1w:mt H H1 o:=l1.c.w
  have h1:SE H1 o N L1 sn now names nd vd p dm:=⟨h.s.mv g1 (h.s.wf.eqv q1) l1w,by rw[l1w.2 p (ao h.at') h.off,h.at'],h.len,h.ok.eqv q1,h.off⟩
  obtain⟨H2,L2,dm2,r2,h2,q2,f2⟩:=My hv (ty pre.length) H1 L1 dm pre.length h1 ((ht _ hi).eqv q1)
  let X:DB:=.cells 1 [.i ((lm (ty pre.length)).1:Nat),.i ((lm (ty pre.length)).2:Nat)]
  have h3:SE (H2++[X]) o N L2 sn now names nd vd p dm2:=h2.up fun k hk=>List.getElem?_append_left hk
  have st:∀ z,(cond (r==pre.length) (ae am 14 200034 [.lp 0 0,.g nd,.g (.ptr o.g 0),.g vd,.g .nilrow,.g (.buf 2 p N.length),.n ((pre++[pre.length]).length:Nat)] [(0,[.nilrow,.i 0])] H1)
   (cond (decide ((((lm (ty pre.length)).1:Nat):Int)>2000)) (ret (.agg [.row 3 [],.i 39]) (H2++[X])) (cond (decide ((((lm (ty pre.length)).2:Nat):Int)>100)) (ret (.agg [.row 3 [],.i 39]) (H2++[X])) (ae am 14 200034 [.lp 0 0,.g nd,.g (.ptr o.g 0),.g vd,.g .nilrow,.g (.buf 2 p N.length),.n ((pre++[pre.length]).length:Nat)] [(0,[.nilrow,.i 0])] (H2++[X])))))=z->ae am 14 200034 [.lp 0 0,.g nd,.g (.ptr o.g 0),.g vd,.g .nilrow,.g (.buf 2 p N.length),.n (pre.length:Nat)] [(0,[.nilrow,.i 0])] H=z:=fun z hz=>by
   refine cM (qd) ?_
   rw[h.s.vs.len,iF,ak,hlt,cond_true,h.s.vs.at' hk,LF r1,h1.s.vs.at2 h.s.vs hk,KQ,ak,show(((r:Nat):Int)==((pre.length:Nat):Int))=(r==pre.length)from by rw[Bool.eq_iff_iff,beq_iff_eq,beq_iff_eq];omega,<- hz]
   cases r==pre.length with
   |true=>rw[cond_true,cond_true,hw2]
   |false =>
    rw[cond_false,cond_false,h1.s.vs.at' hk,aw r2]
    try dsimp only
    rw[YQ,ac (bk _ _),RO,iO,ac (bk _ _),aj,ff,ak]
    cases decide ((((lm (ty pre.length)).1:Nat):Int)>2000)with
    |true=>rw[cond_true,cond_true]
    |false =>
     rw[cond_false,cond_false,ac (bk _ _),ar,aj,ff,ak,hw2]
  cases hq:r==pre.length with
  |true =>
   have hroot:L[pre.length]? = some none:=by
    have:=Gu hr
    rw[hq]at this
    exact of_decide_eq_true this.symm
   obtain⟨H',L',w1,w2⟩:=Sv l (pre++[pre.length]) H1 L1 dm e' h1 (fun i hi=>(ht i hi).eqv q1)
   refine⟨H',L',q1.trans w1,?_⟩
   rcases w2 with⟨w2,i,w3,w4,w5⟩|⟨w2,w3,w4⟩
   ·exact .inl ⟨st _ (by rw[hq,cond_true];exact w2),i,w3,fun k=>w4 ((q1.ro i).1 k),w5⟩
   ·refine .inr ⟨st _ (by rw[hq,cond_true];exact w2),w3,fun i hi hr'=>?_⟩
    rcases List.mem_cons.1 hi with rfl|hi
    ·exact(hr' hroot).elim
    ·exact w4 i hi fun k=>hr' ((q1.ro i).2 k)
  |false =>
   have hroot:L[pre.length]?≠some none:=by
    have:=Gu hr
    rw[hq]at this
    exact of_decide_eq_false this.symm
   by_cases c1:2000<(lm (ty pre.length)).1
   ·exact⟨_,L2,q1.trans q2,.inl ⟨st _ (by rw[hq,cond_false,decide_eq_true (by omega),cond_true]),pre.length,hlt0,hroot,.inl (by simp only[lm]at c1;omega)⟩⟩
   ·by_cases c2:100<(lm (ty pre.length)).2
    ·exact⟨_,L2,q1.trans q2,.inl ⟨st _ (by rw[hq,cond_false,decide_eq_false (by omega),cond_false,decide_eq_true (by omega),cond_true]),pre.length,hlt0,hroot,.inr (by simp only[lm]at c2;omega)⟩⟩
    ·have qq:=q1.trans q2
     obtain⟨H',L',w1,w2⟩:=Sv l (pre++[pre.length]) (H2++[X]) L2 dm2 e' h3 (fun i hi=>(ht i hi).eqv qq)
     refine⟨H',L',qq.trans w1,?_⟩
     have s0:=fun z=>st z
     rcases w2 with⟨w2,i,w3,w4,w5⟩|⟨w2,w3,w4⟩
     ·exact .inl ⟨st _ (by rw[hq,cond_false,decide_eq_false (by omega),cond_false,decide_eq_false (by omega),cond_false];exact w2),i,w3,fun k=>w4 ((qq.ro i).1 k),w5⟩
     ·refine .inr ⟨st _ (by rw[hq,cond_false,decide_eq_false (by omega),cond_false,decide_eq_false (by omega),cond_false];exact w2),w3,fun i hi hr'=>?_⟩
      rcases List.mem_cons.1 hi with rfl|hi
      ·simp only[lm]at c1 c2
       unfold OZ;omega
      ·exact w4 i hi fun k=>hr' ((qq.ro i).2 k)
theorem UE(rt:Nat->Bool)(hwn:∀ i n,names[i]? = some n->gH N i=n):∀(l pre:List Nat) (H:DH) (L:Lk) (done:List (af×Ty)) (a:D),List.range names.length=pre++l->SD H o N L sn now names nd vd->(∀ i,i<N.length->Tr N L i (ty i))->(∀ i,i<N.length->(rt i=true↔L[i]? = some none))->Ac H 0 3 (done.map oT) a->done.length<=pre.length ->
 ∃ H',ae am 14 200041 [.lp 0 0,.g nd,.g (.ptr o.g 0),.g vd,.g a,.n (pre.length:Nat)] [(0,[.nilrow,.i 0])] H=ret (.agg [.row 3 ((done++mN N rt ty l).map oT),.i 0]) H'
 |[],pre,H,L,done,a,e,h,ht,hrt,ha,hdl=>by
  have hpl:pre.length=names.length:=by have:=congrArg List.length e;simpa using this.symm
  obtain⟨H',u⟩:=ha.fz3d
  refine⟨H',cM (lY) ?_⟩
  have c1:∀ κ:List D->ah,ai 1 a κ=κ [a]:=fun κ=>by
   rcases ha with⟨rfl,_⟩|⟨_,_,rfl,_⟩<;>rfl
  have c2:∀ κ:List D->ah,ai 2 (.agg [a,.i 0]) κ=κ [a,.i 0]:=fun κ=>by
   rcases ha with⟨rfl,_⟩|⟨_,_,rfl,_⟩<;>rfl
  rw[h.vs.len,iF,ak,show decide (((pre.length:Nat):Int)<(((List.range names.length).length:Nat):Int))=false from by rw[List.length_range];simp;omega,cond_false,c1,Zs,c2,RO,aj,ar,aj,u]
  simp[mN]
 |v::l,pre,H,L,done,a,e,h,ht,hrt,ha,hdl=>by
  obtain⟨rfl,hlt0⟩:=Vn e
  have hlt:decide (((pre.length:Nat):Int)<(((List.range names.length).length:Nat):Int))=true:=by rw[List.length_range];simp;omega
  have hk:(List.range names.length)[pre.length]? = some pre.length:=List.getElem?_range hlt0
  have hw2:cq ((pre.length:Int)+1)=(((pre++[pre.length]).length:Nat):Int):=by
   rw[aS (by omega)];simp
  have e':List.range names.length=(pre++[pre.length])++l:=by rw[e];simp
  have hi:pre.length<N.length:=by omega
  obtain⟨r,m,hr⟩:=h.wf pre.length (by rw[h.g.lenL];exact hi)
  obtain⟨H1,L1,r1,g1,q1,l1⟩:=wJ h.g hr
  have l1w:mt H H1 o:=l1.c.w
  have h1:SD H1 o N L1 sn now names nd vd:=h.mv g1 (h.wf.eqv q1) l1w
  have acw:∀ {H H':DH} {L:Lk} {l:dB} {a:D},GG H o N L false sn now->mt H H' o->Ac H 0 3 l a->Ac H' 0 3 l a:=fun {H H' L l a} g k ha=>by
   rcases ha with⟨rfl,e⟩|⟨y,hy,rfl,ha⟩
   ·exact .inl ⟨rfl,e⟩
   ·exact .inr ⟨y,hy,rfl,by rw[k.2 y (ao ha) (g.nbuf ha (by decide)),ha]⟩
  have ha1:=acw h.g l1w ha
  have hrq:=Gu hr
  have hrt1:rt pre.length=(r==pre.length):=by
   rw[hrq,Bool.eq_iff_iff,decide_eq_true_iff]
   exact hrt _ hi
  cases hq:r==pre.length with
  |true =>
   obtain⟨H',w⟩:=UE rt hwn l (pre++[pre.length]) H1 L1 done a e' h1 (fun i hi=>(ht i hi).eqv q1) (fun i hi=>(hrt i hi).trans (q1.ro i)) ha1 (by simp;omega)
   refine⟨H',cM (lY) ?_⟩
   rw[h.vs.len,iF,ak,hlt,cond_true,h.vs.at' hk,LF r1,h1.vs.at2 h.vs hk,yL,ak,show(((r:Nat):Int) !=((pre.length:Nat):Int))=false from by
    have:r=pre.length:=by simpa using hq
    simp[this],cond_false,hw2]
   rw[show mN N rt ty (pre.length::l)=mN N rt ty l from by simp only[mN];rw[hrt1,hq,if_pos rfl]]
   exact w
  |false =>
   have hn:=List.getElem?_eq_getElem hlt0
   generalize names[pre.length]=nm at hn
   let C:dB:=(List.range names.length).map fun i=>[.i (i:Nat)]
   have hCl:C.length=names.length:=by simp[C]
   let cd:D:=.buf 1 H1.length names.length
   let H3:DH:=(H1++[.buf 1 true false C])++[.cells 1 [cd]]
   have up:∀ k,k<H1.length->H3[k]? = H1[k]?:=fun k hk=>by
    show((H1++[_])++[_])[k]? = _
    rw[List.getElem?_append_left (by simp;omega),List.getElem?_append_left hk]
   have wl:=h1.lt
   have s3:SD H3 o N L1 sn now names nd vd:=⟨h1.g.fr fun k hk=>up k (wl k hk),h1.wf,h1.ns.mv fun p n e=>up p (h1.ns.lt e),h1.vs.mv fun p n e=>up p (h1.vs.lt e),h1.no,h1.vo⟩
   have l2:(H1++[DB.buf 1 true false C]).length=H1.length+1:=by simp
   have b3:SB H3 o N L1 sn now names nd vd (H1.length+1) cd:=⟨s3,⟨1,by rw[<- l2];exact bk _ _⟩,.inr ⟨H1.length,by simp[cd],cW (bk _ _)⟩,fun hk=>by have:=wl _ hk;omega,fun p n q hk=>by
    have q':D.buf 1 H1.length names.length=D.buf 1 p n:=q
    injection q' with _ q1 _
    have:=wl _ hk;omega⟩
   obtain⟨H4,L4,r4,b4,q4,f4⟩:=JK hv hvn hb (ty pre.length) H3 L1 pre.length (H1.length+1) cd b3 ((ht _ hi).eqv q1)
   have ha3:Ac H3 0 3 (done.map oT) a:=by
    rcases ha1 with⟨e1,e⟩|⟨y,hy,e1,hz⟩
    ·exact .inl ⟨e1,e⟩
    ·exact .inr ⟨y,hy,e1,by rw[up y (ao hz),hz]⟩
   have ha4:=acw s3.g f4 ha3
   obtain⟨a5,H5,u1,u2,u3⟩:=ha4.add3 (by rw[List.length_map];omega) (oT (nm,ty pre.length))
   have eb:done.map oT++[oT (nm,ty pre.length)]=(done++[(nm,ty pre.length)]).map oT:=by simp
   rw[eb]at u2
   have s5:SD H5 o N L4 sn now names nd vd:=by
    obtain⟨s,hg⟩:=b4.s.g.ob
    obtain⟨ds,hd1,hd2⟩:=b4.s.g.ha
    refine⟨b4.s.g.fr fun x hx=>?_,b4.s.wf,?_,?_,b4.s.no,b4.s.vo⟩
    ·refine u3.nb x (b4.s.lt x hx) fun st cp l q=>?_
     exact b4.s.g.nbuf q (by decide) hx
    ·rcases b4.s.ns with⟨q,e⟩|⟨y,hy,q,k⟩
     ·exact .inl ⟨q,e⟩
     ·exact .inr ⟨y,hy,q,by rw[u3.nb y (ao k) (fun _ _ _ e=>by rw[k]at e;cases e),k]⟩
    ·rcases b4.s.vs with⟨q,e⟩|⟨y,q,k⟩
     ·exact .inl ⟨q,e⟩
     ·exact .inr ⟨y,q,by rw[u3.nb y (ao k) (fun _ _ _ e=>by rw[k]at e;cases e),k]⟩
   have qq:=q1.trans q4
   obtain⟨H',w⟩:=UE rt hwn l (pre++[pre.length]) H5 L4 (done++[(nm,ty pre.length)]) a5 e' s5 (fun i hi=>(ht i hi).eqv qq) (fun i hi=>(hrt i hi).trans (qq.ro i)) u2 (by simp;omega)
   refine⟨H',cM (lY) ?_⟩
   rw[h.vs.len,iF,ak,hlt,cond_true,h.vs.at' hk,LF r1,h1.vs.at2 h.vs hk,yL,ak,show(((r:Nat):Int) !=((pre.length:Nat):Int))=true from by
    have:r≠pre.length:=by simpa using hq
    simp;omega,cond_true,h1.vs.els,OF (l:=C) (by rw[hCl];omega) (fun q=>by rw[q]at hCl;simp at hCl;omega)]
   try dsimp only
   rw[cB,ac (bk _ _),show ∀(x y:D) (κ:List D->ah),az [x] 0 [y] κ=κ [y] from fun _ _ _=>rfl,iO,hCl]
   rw[s3.vs.at' hk,l2,LF r4,b4.s.ns.at2 s3.ns hn,ZA,show ∀(y:af) (κ:List D->ah),az [.str [],.str [],.nilrow] 0 [.str y] κ=κ [.str y,.str [],.nilrow] from fun _ _=>rfl]
   generalize htt:ty pre.length=t at u1 w r4
   obtain⟨tn,tx⟩:=t
   rw[show ∀ κ:List D->ah,ai 2 (.agg (cG (.mk tn tx))) κ=κ (cG (.mk tn tx))from fun κ=>by simp only[cG];rfl]
   rw[show ∀ κ:List D->ah,az [.str nm,.str [],.nilrow] 1 (cG (.mk tn tx)) κ=κ (oT (nm,.mk tn tx))from fun κ=>by simp only[cG,oT];rfl]
   rw[show ∀ κ:List D->ah,ai 3 (.agg (oT (nm,.mk tn tx))) κ=κ (oT (nm,.mk tn tx))from fun κ=>by simp only[cG,oT];rfl]
   rw[u1,hw2]
   rw[show mN N rt ty (pre.length::l)=(nm,.mk tn tx)::mN N rt ty l from by simp only[mN];rw[hrt1,hq,if_neg (by simp),hwn _ _ hn,htt]]
   rw[w]
   simp
end Go.Proofs.YtenibcfppefobaaGreatDoor
namespace Go.Proofs.YtenibcfppefobaaGreatDoor
open Go.AI
theorem Tw(a b:Int)(κ:D->ah):av ab .leq 3 true (.i a) (.i b) κ=κ (.bool (decide (a<=b))):=by kernel_rfl
mutual
theorem Jv:∀ t:Ty,mM t<=bE t
 |.mk n xs=>by have:=Ff xs;simp only[mM,bE];omega
theorem Ff:∀ l:List Ty,gc l<=bE.tszs l
 |[]=>Nat.zero_le _
 |t::r=>by have:=Jv t;have:=Ff r;simp only[gc,bE.tszs];omega
end
mutual
theorem Fl:∀(t:Ty) (m:Nat) (H:DH),t.ok->m<1000000->ay 60 [.agg (cG t),.i (m:Nat)] H=ret (.i ((min (bE t) (m+1):Nat):Int)) H
 |.mk n xs,m,H,hok,hm=>by
  refine ev (by simp only[cG];exact f60) ?_
  have:=yy n xs m hok.1 xs [] 1 H rfl hok.2 hm (by omega)
  simp only[bE]
  exact this
theorem yy(n:af)(xs:List Ty)(m:Nat)(h62:xs.length<2^62):∀(l pre:List Ty) (v:Nat) (H:DH),xs=pre++l->Ty.oks l->m<1000000->v<=m+1->ae am 60 200003 [.n (m:Nat),.lp 0 0,.n (v:Nat),.n (pre.length:Nat)] [(0,[.str n,.row 2 (aM xs)])] H=ret (.i ((min (v+bE.tszs l) (m+1):Nat):Int)) H
 |[],pre,v,H,e,hok,hm,hv=>by
  refine cM (xQ) ?_
  have hlt:decide ((pre.length:Int)<((aM xs).length:Int))=false:=by rw[aT,e];simp
  rw[hlt,cond_false,show min (v+bE.tszs []) (m+1)=v from by simp only[bE.tszs];omega]
 |t::l,pre,v,H,e,hok,hm,hv=>by
  have hlt:decide ((pre.length:Int)<((aM xs).length:Int))=true:=by rw[aT,e];simp;omega
  have h2:(aM xs)[pre.length]? = some (cG t):=by rw[e];exact fq _ _ _
  have hw2:cq ((pre.length:Int)+1)=(((pre++[t]).length:Nat):Int):=by
   rw[aS (by
    have:xs.length=pre.length+(l.length+1):=by rw[e];simp
    omega)];simp
  refine cM (xQ) ?_
  by_cases q:v<=m
  ·have r1:=Fl t (m - v) H hok.1 (by omega)
   have ih:=yy n xs m h62 l (pre++[t]) (v+min (bE t) (m - v+1)) H (by rw[e];simp) hok.2 hm (by omega)
   have ew:cq (((m:Nat):Int) - (v:Nat))=((m - v:Nat):Int):=by
    rw[show(((m:Nat):Int) - (v:Nat))=((m - v:Nat):Int)from by omega,WN (by omega)]
   obtain⟨tn,tx⟩:=t
   simp only[cG]at h2 r1
   rw[hlt,cond_true,decide_eq_true (show((v:Nat):Int)<=(m:Nat)by omega),cond_true,aP,aI h2]
   simp only[aj,ar]
   rw[ew,aw r1,Sf,<- Int.natCast_add,WN (by omega),hw2]
   refine Eq.trans ih ?_
   rw[show min (v+min (bE (.mk tn tx)) (m - v+1)+bE.tszs l) (m+1)=min (v+bE.tszs (.mk tn tx::l)) (m+1)from by simp only[bE.tszs];omega]
  ·rw[hlt,cond_true,decide_eq_false (show ¬((v:Nat):Int)<=(m:Nat)by omega),cond_false,show min (v+bE.tszs (t::l)) (m+1)=v from by omega]
end
mutual
theorem Jx:∀(t:Ty) (H:DH),t.ok->bE t<1000000->ay 61 [.agg (cG t)] H=ret (.i (mM t:Nat)) H
 |.mk n xs,H,hok,hm=>by
  refine ev (by simp only[cG];exact ZZ) ?_
  have:=Bo n xs hok.1 xs [] 0 H rfl hok.2 (by simp only[bE]at hm;omega) (by omega)
  simp only[mM]
  rw[show 1+gc xs=max 0 (gc xs)+1 from by omega]
  exact this
theorem Bo(n:af)(xs:List Ty)(h62:xs.length<2^62):∀(l pre:List Ty) (v:Nat) (H:DH),xs=pre++l->Ty.oks l->bE.tszs l<1000000->v<1000000->ae am 61 200003 [.lp 0 0,.n (v:Nat),.n (pre.length:Nat)] [(0,[.str n,.row 2 (aM xs)])] H=ret (.i ((max v (gc l)+1:Nat):Int)) H
 |[],pre,v,H,e,hok,hm,hv=>by
  refine cM (xP) ?_
  have hlt:decide ((pre.length:Int)<((aM xs).length:Int))=false:=by rw[aT,e];simp
  rw[hlt,cond_false,aS (by omega)]
  simp only[gc]
  rw[Nat.max_eq_left (by omega)]
 |t::l,pre,v,H,e,hok,hm,hv=>by
  simp only[bE.tszs]at hm
  have hlt:decide ((pre.length:Int)<((aM xs).length:Int))=true:=by rw[aT,e];simp;omega
  have h2:(aM xs)[pre.length]? = some (cG t):=by rw[e];exact fq _ _ _
  have hw2:cq ((pre.length:Int)+1)=(((pre++[t]).length:Nat):Int):=by
   rw[aS (by
    have:xs.length=pre.length+(l.length+1):=by rw[e];simp
    omega)];simp
  have dt:=Jv t
  refine cM (xP) ?_
  have r1:=Jx t H hok.1 (by omega)
  have ih:=Bo n xs h62 l (pre++[t]) (max v (mM t)) H (by rw[e];simp) hok.2 (by omega) (by omega)
  obtain⟨tn,tx⟩:=t
  simp only[cG]at h2 r1
  rw[hlt,cond_true,aP,aI h2]
  simp only[aj,ar]
  rw[aw r1,Tn,hw2]
  refine Eq.trans ih ?_
  simp only[gc]
  rw[Nat.max_assoc]
end
section
variable{kind:af->Int}(K:FW kind)
include K
theorem Wb(a:af)(b:dB)(H:DH):(cond (a==[45,62]) (ret (.bool ((b.length:Int)==2)) H) (cond (a==[44]) (cond (decide ((b.length:Int)>=2)) (ret (.bool (decide ((b.length:Int)<=4))) H) (ret (.bool false) H)) (cond (a==[73,110,116]) (ret (.bool ((b.length:Int)==0)) H) (C am 90 [.str a] H fun a H=>av ab .eql 3 true a (.i 4) fun c=>brD c (cond ((b.length:Int)==0) (ret (.bool true) H) (av ab .eql 3 true a (.i 3) fun a=>brD a (ret (.bool (decide ((b.length:Int)<=16))) H) (ret (.bool false) H))) (av ab .eql 3 true a (.i 3) fun a=>brD a (ret (.bool (decide ((b.length:Int)<=16))) H) (ret (.bool false) H))))))=ret (.bool (fF kind a b.length)) H:=by
 unfold fF
 by_cases e1:a=[45,62]
 ·subst e1
  rw[show(([45,62]:af)==[45,62])=true from rfl,cond_true,if_neg (by decide),if_pos (by decide)]
  congr 2
  rw[Bool.eq_iff_iff,beq_iff_eq,beq_iff_eq];omega
 ·rw[show(a==([45,62]:af))=false from by simpa using e1,cond_false]
  by_cases e2:a=[44]
  ·subst e2
   rw[show(([44]:af)==[44])=true from rfl,cond_true,if_neg (by decide),if_neg (by decide),if_pos (by decide)]
   by_cases q:2<=b.length
   ·rw[decide_eq_true (show(b.length:Int)>=2 by omega),cond_true,decide_eq_true q,Bool.true_and]
    congr 2
    rw[Bool.eq_iff_iff,decide_eq_true_iff,decide_eq_true_iff];omega
   ·rw[decide_eq_false (show ¬(b.length:Int)>=2 by omega),cond_false,decide_eq_false q,Bool.false_and]
  ·rw[show(a==([44]:af))=false from by simpa using e2,cond_false]
   by_cases e3:a=[73,110,116]
   ·subst e3
    rw[show(([73,110,116]:af)==[73,110,116])=true from rfl,cond_true,if_pos rfl]
    congr 2
    rw[Bool.eq_iff_iff,beq_iff_eq,beq_iff_eq];omega
   ·rw[show(a==([73,110,116]:af))=false from by simpa using e3,cond_false,if_neg (by simp),if_neg (by simp),if_neg (by simp)]
    obtain⟨k,r1,r2⟩:=K.b a H
    rw[aw r1,di,ak,di,kq r2 (show(2:Int)<=4 by decide),kq r2 (show(2:Int)<=3 by decide)]
    have e0:(((b.length:Nat):Int)==0)=(b.length==0):=by rw[Bool.eq_iff_iff,beq_iff_eq,beq_iff_eq];omega
    have e16:decide (((b.length:Nat):Int)<=16)=decide (b.length<=16):=by rw[Bool.eq_iff_iff,decide_eq_true_iff,decide_eq_true_iff];omega
    rw[e0,e16,ak]
    cases kind a==4<;>cases b.length==0<;>cases kind a==3<;>simp
mutual
theorem AR:∀(t:Ty) (H:DH),t.ok->∃ q,ay 62 [.agg (cG t)] H=ret (.bool q) H/\(q=true↔uS kind t)
 |.mk n xs,H,hok=>by
  obtain⟨q,r1,r2⟩:=uk n xs hok.1 xs [] H rfl hok.2
  refine⟨q,ev (by simp only[cG];exact ZY) r1,?_⟩
  rw[r2]
  simp only[uS]
  exact and_comm
theorem uk(n:af)(xs:List Ty)(h62:xs.length<2^62):∀(l pre:List Ty) (H:DH),xs=pre++l->Ty.oks l->∃ q,ae am 62 200002 [.lp 0 0,.n (pre.length:Nat)] [(0,[.str n,.row 2 (aM xs)])] H=ret (.bool q) H/\(q=true↔ji kind l/\fF kind n xs.length=true)
 |[],pre,H,e,hok=>by
  refine⟨fF kind n xs.length,cM (xO) ?_,by simp[ji]⟩
  have hlt:decide ((pre.length:Int)<((aM xs).length:Int))=false:=by rw[aT,e];simp
  rw[hlt,cond_false]
  have:=Wb K n (aM xs) H
  rw[aT]at this
  rw[aT]
  exact this
 |t::l,pre,H,e,hok=>by
  have hlt:decide ((pre.length:Int)<((aM xs).length:Int))=true:=by rw[aT,e];simp;omega
  have h2:(aM xs)[pre.length]? = some (cG t):=by rw[e];exact fq _ _ _
  have hw2:cq ((pre.length:Int)+1)=(((pre++[t]).length:Nat):Int):=by
   rw[aS (by
    have:xs.length=pre.length+(l.length+1):=by rw[e];simp
    omega)];simp
  obtain⟨q1,r1,r2⟩:=AR t H hok.1
  obtain⟨q2,w1,w2⟩:=uk n xs h62 l (pre++[t]) H (by rw[e];simp) hok.2
  simp only[ji]
  refine⟨q1&&q2,cM (xO) ?_,by rw[Bool.and_eq_true,r2,w2];exact(and_assoc).symm⟩
  obtain⟨tn,tx⟩:=t
  simp only[cG]at h2 r1
  rw[hlt,cond_true,aP,aI h2]
  simp only[aj,ar]
  rw[aw r1,ct,ak]
  cases q1 with
  |false=>rfl
  |true =>
   rw[Bool.not_true,cond_false,hw2]
   simpa using w1
end
theorem LN(t:Ty)(H:DH)(hok:t.ok):∃ q,ay 36 [.agg (cG t)] H=ret (.bool q) H/\(q=true↔ee kind t≠0):=by
 have r1:=Fl t 2000 H hok (by decide)
 have key:ee kind t≠0↔bE t<=2000/\mM t<=100/\uS kind t:=⟨fun h=>⟨(pI h).2.1,(pI h).2.2.2,wi h⟩,fun⟨a,b,c⟩=>UO c a b⟩
 have st:∀ z,(cond (decide (((min (bE t) (2000+1):Nat):Int)<=2000)) (C am 61 [.agg (cG t)] H fun c H=>av ab .leq 3 true c (.i 100) fun c=>brD c (C am 62 [.agg (cG t)] H fun a H=>ret a H) (ret (.bool false) H)) (ret (.bool false) H))=z->ay 36 [.agg (cG t)] H=z:=fun z hz=>by
  obtain⟨n,xs⟩:=t
  simp only[cG]at r1 hz ⊢
  refine ev (f36) ?_
  refine Eq.trans (aw r1) ?_
  rw[Tw,ak]
  exact hz
 by_cases q1:bE t<=2000
 ·have r2:=Jx t H hok (by omega)
  obtain⟨q,r3,r4⟩:=AR K t H hok
  by_cases q2:mM t<=100
  ·refine⟨q,st _ ?_,by rw[r4,key];exact⟨fun h=>⟨q1,q2,h⟩,fun h=>h.2.2⟩⟩
   rw[decide_eq_true (by omega),cond_true,aw r2,Tw,ak,decide_eq_true (by omega),cond_true,aw r3]
  ·refine⟨false,st _ ?_,by rw[key];simp;omega⟩
   rw[decide_eq_true (by omega),cond_true,aw r2,Tw,ak,decide_eq_false (by omega),cond_false]
 ·refine⟨false,st _ ?_,by rw[key];simp;omega⟩
  rw[decide_eq_false (by omega),cond_false]
end
end Go.Proofs.YtenibcfppefobaaGreatDoor
namespace Go.Proofs.YtenibcfppefobaaGreatDoor
open Go.AI
def cb(f:af->Ty):List af->List (af×Ty)
 |[]=>[]
 |n::r=>open Classical in if f n=.mk n [] then cb f r else(n,f n)::cb f r
theorem Fu{f g:af->Ty}:∀ {l:List af},(∀ n∈l,f n=g n)->cb f l=cb g l
 |[],_=>rfl
 |n::r,h=>by
  unfold cb
  rw[h n List.mem_cons_self,Fu fun m hm=>h m (List.mem_cons_of_mem _ hm)]
structure WM(kind:af->Int)(all:List Ty)(bs:List (af×Ty)):Prop where
 mgu:Pk kind all (cP bs)
 ok:∀ q∈bs,q.2.ok
 eq:bs=cb (fun n=>sub (cP bs) (.mk n [])) (dO kind all [])
 lst:∀(i j:Nat) (n m:af),(dO kind all [])[i]? = some n->(dO kind all [])[j]? = some m->sub (cP bs) (.mk m [])=.mk n []->i<=j
 fix:∀ n∈dO kind all [],∀ m,(kind m==4)=true->jJ (.mk m []) (sub (cP bs) (.mk n []))->m∈dO kind all []/\sub (cP bs) (.mk m [])=.mk m []
 vd:∀ n∈dO kind all [],FZ (fun n=>kind n==4) (sub (cP bs) (.mk n []))
section
variable{kind:af->Int}{μ ν:af->Option Ty}(hμ:Vs (fun n=>kind n==4) μ)(hν:Vs (fun n=>kind n==4) ν){vn:List af}
 (l1:∀(i j:Nat) (n m:af),vn[i]? = some n->vn[j]? = some m->sub μ (.mk m [])=.mk n []->i<=j) (l2:∀(i j:Nat) (n m:af),vn[i]? = some n->vn[j]? = some m->sub ν (.mk m [])=.mk n []->i<=j)
include hμ hν l1 l2
mutual
theorem DQ:∀ A,FZ (fun n=>kind n==4) A->(∀ m,(kind m==4)=true->jJ (.mk m []) A->m∈vn)->FZ (fun n=>kind n==4) (sub ν A)->(∀ m,(kind m==4)=true->jJ (.mk m []) (sub ν A)->m∈vn)->sub μ (sub ν A)=A->sub ν A=A
 |.mk n xs,w,p,w',q,e=>by
  simp only[FZ]at w
  cases hn:kind n==4 with
  |true =>
   obtain rfl:=w.2.1 hn
   have hp:=p n hn (.refl _)
   generalize hB:sub ν (.mk n [])=B at w' q e ⊢
   obtain⟨b,ys⟩:=B
   simp only[FZ]at w'
   cases hb:kind b==4 with
   |true =>
    obtain rfl:=w'.2.1 hb
    have hq:=q b hb (.refl _)
    obtain⟨i,hi⟩:=List.getElem?_of_mem hp
    obtain⟨j,hj⟩:=List.getElem?_of_mem hq
    have a:=l1 i j n b hi hj e
    have c:=l2 j i b n hj hi hB
    have:i=j:=by omega
    subst this
    rw[hi]at hj;cases hj;rfl
   |false =>
    rw[lz hμ hb]at e
    injection e with e _
    rw[e,hn]at hb;cases hb
  |false =>
   rw[lz hν hn]at w' q e ⊢
   rw[lz hμ hn]at e
   injection e with _ e
   simp only[FZ]at w'
   rw[Ah xs w.2.2 (fun x hx m hm h=>p m hm (.step hx h)) w'.2.2 (fun x hx m hm h=>q m hm (.step hx h)) e]
theorem Ah:∀ xs,qC (fun n=>kind n==4) xs->(∀ x∈xs,∀ m,(kind m==4)=true->jJ (.mk m []) x->m∈vn)->qC (fun n=>kind n==4) (xs.map (sub ν))->(∀ x∈xs.map (sub ν),∀ m,(kind m==4)=true->jJ (.mk m []) x->m∈vn)->(xs.map (sub ν)).map (sub μ)=xs->xs.map (sub ν)=xs
 |[],_,_,_,_,_=>rfl
 |x::r,w,p,w',q,e=>by
  simp only[qC]at w
  rw[List.map_cons]at w' q e ⊢
  rw[List.map_cons]at e
  simp only[qC]at w'
  injection e with e1 e2
  rw[DQ x w.1 (p x List.mem_cons_self) w'.1 (q _ List.mem_cons_self) e1,Ah r w.2 (fun y hy=>p y (List.mem_cons_of_mem _ hy)) w'.2 (fun y hy=>q y (List.mem_cons_of_mem _ hy)) e2]
end
end
theorem WM.uniq{kind:af->Int}{all:List Ty}{bs bs':List (af×Ty)}(hsub:∀ n∈dO kind all [],jK all (.mk n []))(h:WM kind all bs)(k:WM kind all bs'):bs=bs':=by
 have key:∀ n∈dO kind all [],sub (cP bs) (.mk n [])=sub (cP bs') (.mk n []):=fun n hn=>by
  have e1:=h.mgu.to (fun _=>.rfl) k.mgu (hsub n hn)
  have e2:=k.mgu.to (fun _=>.rfl) h.mgu (hsub n hn)
  have e3:sub (cP bs) (sub (cP bs') (sub (cP bs) (.mk n [])))=sub (cP bs) (.mk n []):=by rw[e1,e2]
  have:=DQ h.mgu.vs k.mgu.vs h.lst k.lst (sub (cP bs) (.mk n [])) (h.vd n hn) (fun m hm q=>(h.fix n hn m hm q).1) (by rw[e1];exact k.vd n hn) (fun m hm q=>by rw[e1]at q;exact(k.fix n hn m hm q).1) e3
  rw[<- e1,this]
 rw[h.eq,k.eq]
 exact Fu key
theorem Lo.rt{N:List aH}{L:Lk}(h:Lo N L){i r n:Nat}(k:Rt L i r n){y:aH}(hy:N[r]? = some y)(hv:y.v=true):∃ x,N[i]? = some x/\x.v=true/\y.o<=x.o:=by
 induction k with
 |z _=>exact⟨y,hy,hv,Int.le_refl _⟩
 |s q _ ih =>
  obtain⟨x,a,b,c⟩:=ih hy
  obtain⟨w,d,e,f⟩:=h _ _ x q a b
  exact⟨w,d,e,Int.le_trans c f⟩
theorem oo.mem{N:List aH}{L:Lk}{t:Ty}:∀ {ts:List Ty} {l:List Nat},oo N L l ts->t∈ts->∃ j,Tr N L j t
 |[],_,_,h=>nomatch h
 |x::r,_,k,h=>by
  cases k with
  |cons h1 h2 =>
   rcases List.mem_cons.1 h with rfl|h
   ·exact⟨_,h1⟩
   ·exact h2.mem h
theorem Tr.sub{N:List aH}{L:Lk}{t u:Ty}(h:jJ u t):∀ {i},Tr N L i t->∃ j,Tr N L j u:=by
 induction h with
 |refl=>exact fun h=>⟨_,h⟩
 |step a _ ih =>
  intro i k
  cases k with
  |var=>cases a
  |con _ _ _ h4 =>
   obtain⟨j,hj⟩:=h4.mem a
   exact ih hj
theorem jJ.V{kind:af->Int}{u t:Ty}(h:jJ u t):uS kind t->uS kind u:=by
 induction h with
 |refl=>exact id
 |step a _ ih=>intro k;simp only[uS]at k;exact ih (kJ.1 k.2 _ a)
theorem OC{N:List aH}{rt:Nat->Bool}{ty:Nat->Ty}{f:af->Ty}:∀ {l:List Nat},(∀ v∈l,rt v=true->f (gH N v)=.mk (gH N v) [])->(∀ v∈l,rt v=false->f (gH N v)=ty v/\ty v≠.mk (gH N v) [])->mN N rt ty l=cb f (l.map (gH N))
 |[],_,_=>rfl
 |v::r,h1,h2=>by
  have ih:=OC (l:=r) (fun w hw=>h1 w (List.mem_cons_of_mem _ hw)) fun w hw=>h2 w (List.mem_cons_of_mem _ hw)
  simp only[mN,List.map_cons,cb]
  cases q:rt v with
  |true=>rw[if_pos rfl,if_pos (h1 v List.mem_cons_self q)];exact ih
  |false =>
   obtain⟨a,b⟩:=h2 v List.mem_cons_self q
   rw[if_neg (by simp),if_neg (by rw[a];exact b),a,ih]
theorem Zz{kind:af->Int}{N:List aH}{L:Lk}{T:List Ty}{vs ks:List Nat}{all:List Ty}{rt:Nat->Bool}{ty:Nat->Ty}(k1:(kind [45,62]==4)=false)(k2:(kind [44]==4)=false)(gn:GN N T (fun n=>kind n==4))(hc:zc N L [])(hl:N.length=L.length)
 (hTr:∀ i,i<N.length->Tr N L i (ty i)) (vs1:∀(i:Nat) (x:aH),N[i]? = some x->x.v=true->i∈vs) (vs2:∀ i∈vs,∃ x,N[i]? = some x/\x.v=true) (hk:∀ a∈ks,a<N.length) (hT:ks.map (fun a=>T[a]?)=all.map some)
 (heq:∀ f:Nat->Ty,bT L f->∀ a∈ks,∀ b∈ks,f a=f b) (hgen:∀ f:Nat->Ty,zP N f->(∀ a∈ks,∀ b∈ks,f a=f b)->bT L f)
 (isSub:∀ i,i<N.length->jK all (sE T i)) (hrt:∀ i,i<N.length->(rt i=true↔L[i]? = some none)) (lo:Lo N L) (hvq:vN N vs=dO kind all []) (hvo:∀ k v:Nat,vs[k]? = some v->∃ x,N[v]? = some x/\x.o=k) (hV:ji kind all) :
 WM kind all (mN N rt ty vs)/\(∀ v∈vs,sub (cP (mN N rt ty vs)) (.mk (gH N v) [])=ty v)/\∀ v∈vs,rt v=true->ty v=.mk (gH N v) []:=by
 have mg:=(mgu gn hc hl hTr vs1 vs2 hk hT heq hgen isSub hrt).1
 have hv:∀(i:Nat) (x:aH),N[i]? = some x->x.v=true->x.a=[]:=fun i x h k=>(gn.var i x h k).2.2
 have vlt:∀ v∈vs,v<N.length:=fun v h=>by obtain⟨x,hx,_⟩:=vs2 v h;exact ao hx
 have nmv:∀(v:Nat) (x:aH),N[v]? = some x->gH N v=x.n:=fun v x h=>by simp[gH,h]
 have inj:∀ v∈vs,∀ w∈vs,gH N v=gH N w->v=w:=fun v hv w hw e=>by
  obtain⟨x,hx,vx⟩:=vs2 v hv
  obtain⟨y,hy,vy⟩:=vs2 w hw
  rw[nmv v x hx,nmv w y hy]at e
  exact gn.inj v w x y hx hy vx vy e
 have kv:∀ v∈vs,(kind (gH N v)==4)=true:=fun v hv=>by
  obtain⟨x,hx,vx⟩:=vs2 v hv
  rw[nmv v x hx]
  exact(gn.var v x hx vx).2.1
 have rty:∀ v∈vs,rt v=true->ty v=.mk (gH N v) []:=fun v hv q=>by
  obtain⟨x,hx,vx⟩:=vs2 v hv
  rw[nmv v x hx]
  exact(hTr v (vlt v hv)).det (.var (.z ((hrt v (vlt v hv)).1 q)) hx vx)
 have val:∀ v∈vs,sub (cP (mN N rt ty vs)) (.mk (gH N v) [])=ty v:=fun v hv=>by
  rw[It,ta inj v hv]
  cases q:rt v with
  |true=>rw[if_pos rfl];exact(rty v hv q).symm
  |false=>rw[if_neg (by simp)];rfl
 have root:∀(j:Nat) (m:af),(kind m==4)=true->Tr N L j (.mk m [])->∃ r k,Rt L j r k/\r∈vs/\gH N r=m/\∃ y,N[r]? = some y/\y.v=true:=fun j m hm ht=>by
  generalize e:Ty.mk m []=t at ht
  cases ht with
  |var h1 h2 h3 =>
   injection e with e _
   exact⟨_,_,h1,vs1 _ _ h2 h3,by rw[nmv _ _ h2,e],_,h2,h3⟩
  |con h1 h2 h3 h4 =>
   injection e with e _
   have:=(gn.con _ _ h2 h3).1
   rw[<- e,hm]at this;cases this
 have ne:∀ v∈vs,rt v=false->ty v≠.mk (gH N v) []:=fun v hv q e=>by
  have ht:=hTr v (vlt v hv)
  rw[e]at ht
  obtain⟨r,k,h1,h2,h3,_⟩:=root v _ (kv v hv) ht
  have:=inj r h2 v hv h3
  subst this
  rw[(hrt r (vlt r hv)).2 h1.root]at q;cases q
 have of:∀ n∈dO kind all [],∃ v∈vs,gH N v=n:=fun n hn=>by
  rw[<- hvq]at hn
  obtain⟨v,a,b⟩:=List.mem_map.1 hn
  exact⟨v,a,b⟩
 have ofi:∀(i:Nat) (n:af),(dO kind all [])[i]? = some n->∃ v,vs[i]? = some v/\gH N v=n:=fun i n hn=>by
  rw[<- hvq,vN,List.getElem?_map]at hn
  cases q:vs[i]? with
  |none=>rw[q]at hn;cases hn
  |some v=>rw[q]at hn;cases hn;exact⟨v,rfl,rfl⟩
 have hX:∀(i:Nat) (x:aH),N[i]? = some x->fF kind x.n x.a.length=true:=fun i x hx=>by
  obtain⟨t,ht,hu⟩:=isSub i (ao hx)
  have h:=hu.V (kJ.1 hV t ht)
  cases vx:x.v with
  |true =>
   rw[gt (gn.var i x hx vx).1,uS]at h
   rw[hv i x hx vx];exact h.1
  |false =>
   rw[gn.con' hx vx,uS]at h
   simpa using h.1
 refine⟨⟨mg,fun q hq=>?_,?_,fun i j n m hi hj e=>?_,fun n hn m hm hs=>?_,fun n hn=>?_⟩,val,rty⟩
 ·obtain⟨v,a1,_,a2⟩:=Di hq
  rw[a2];exact Ma ((hTr v (vlt v a1)).V hX hv)
 ·have:=OC (N:=N) (rt:=rt) (ty:=ty) (f:=fun n=>sub (cP (mN N rt ty vs)) (.mk n [])) (l:=vs) (fun v hv q=>by
   show sub _ _=_
   rw[val v hv,rty v hv q]) fun v hv q=>⟨val v hv,ne v hv q⟩
  rw[<- hvq]
  exact this
 ·obtain⟨v,hv,rfl⟩:=ofi i n hi
  obtain⟨w,hw,rfl⟩:=ofi j m hj
  have mv:=List.mem_of_getElem? hv
  have mw:=List.mem_of_getElem? hw
  rw[val w mw]at e
  have ht:=hTr w (vlt w mw)
  rw[e]at ht
  obtain⟨r,k,h1,h2,h3,y,h4,h5⟩:=root w _ (kv v mv) ht
  have:=inj r h2 v mv h3
  subst this
  obtain⟨x,a,b,c⟩:=lo.rt h1 h4 h5
  obtain⟨y',a1,a2⟩:=hvo i r hv
  obtain⟨x',b1,b2⟩:=hvo j w hw
  rw[h4]at a1;cases a1
  rw[a]at b1;cases b1
  omega
 ·obtain⟨v,hv,rfl⟩:=of n hn
  rw[val v hv]at hs
  obtain⟨j,hj⟩:=Tr.sub hs (hTr v (vlt v hv))
  obtain⟨r,k,h1,h2,h3,y,h4,h5⟩:=root j m hm hj
  refine⟨by rw[<- hvq];exact List.mem_map.2 ⟨r,h2,h3⟩,?_⟩
  rw[<- h3,val r h2]
  exact rty r h2 ((hrt r (vlt r h2)).2 h1.root)
 ·obtain⟨v,hv',rfl⟩:=of n hn
  rw[val v hv']
  exact RF k1 k2 ((hTr v (vlt v hv')).V hX hv)
end Go.Proofs.YtenibcfppefobaaGreatDoor
namespace Go.Proofs.YtenibcfppefobaaGreatDoor
open Go.AI
def Ia(kind:af->Int)(all:List Ty)(e:Int)(bs:List (af×Ty)):Prop :=
 (e=39/\bs=[]/\Lv (fun n=>kind n==4) all/\∃ μ,Pk kind all μ/\∃ n,(kind n==4)=true/\jK all (.mk n [])/\OZ (sub μ (.mk n [])))\/(e=30/\bs=[]/\¬ Lv (fun n=>kind n==4) all)\/(e=31/\bs=[]/\Lv (fun n=>kind n==4) all/\Zd kind all) \/
 (e=0/\WM kind all bs/\Lv (fun n=>kind n==4) all/\∀ n,(kind n==4)=true->jK all (.mk n [])->¬ OZ (sub (cP bs) (.mk n [])))
def BA(kind:af->Int)(all:List Ty)(e:Int)(bs:List (af×Ty)):Prop :=
 (e=1/\bs=[]/\16<all.length)\/(e=32/\bs=[]/\all.length<=16/\∃ t∈all,ee kind t=0)\/(all.length<=16/\(∀ t∈all,ee kind t≠0)/\Ia kind all e bs)
theorem Ia.uniq{kind:af->Int}{all:List Ty}{e e':Int}{bs bs':List (af×Ty)}(hsub:∀ n∈dO kind all [],jK all (.mk n []))(h:Ia kind all e bs)(k:Ia kind all e' bs'):e=e'/\bs=bs':=by
 rcases h with⟨rfl,rfl,h2,μ,h3,n,h4,h5,h6⟩|⟨rfl,rfl,h2⟩|⟨rfl,rfl,h2,h3⟩|⟨rfl,h3,h4,h5⟩
 ·rcases k with⟨rfl,rfl,k2,ν,k3,m,k4,k5,k6⟩|⟨rfl,rfl,k2⟩|⟨rfl,rfl,k2,k3⟩|⟨rfl,k3,k4,k5⟩
  ·exact⟨rfl,rfl⟩
  ·exact(k2 h2).elim
  ·exact(k3.no (fun _=>.rfl) h3).elim
  ·exact(k5 n h4 h5 (h3.fat (fun _=>.rfl) k3.mgu h5 h6)).elim
 ·rcases k with⟨rfl,rfl,k2,ν,k3,m,k4,k5,k6⟩|⟨rfl,rfl,k2⟩|⟨rfl,rfl,k2,k3⟩|⟨rfl,k3,k4,k5⟩
  ·exact(h2 k2).elim
  ·exact⟨rfl,rfl⟩
  ·exact(h2 k2).elim
  ·exact(h2 k4).elim
 ·rcases k with⟨rfl,rfl,k2,ν,k3,m,k4,k5,k6⟩|⟨rfl,rfl,k2⟩|⟨rfl,rfl,k2,k3⟩|⟨rfl,k3,k4,k5⟩
  ·exact(h3.no (fun _=>.rfl) k3).elim
  ·exact(k2 h2).elim
  ·exact⟨rfl,rfl⟩
  ·exact(h3.no (fun _=>.rfl) k3.mgu).elim
 ·rcases k with⟨rfl,rfl,k2,ν,k3,m,k4,k5,k6⟩|⟨rfl,rfl,k2⟩|⟨rfl,rfl,k2,k3⟩|⟨rfl,k3,k4,k5⟩
  ·exact(h5 m k4 k5 (k3.fat (fun _=>.rfl) h3.mgu k5 k6)).elim
  ·exact(k2 h4).elim
  ·exact(k3.no (fun _=>.rfl) h3.mgu).elim
  ·exact⟨rfl,h3.uniq hsub k3⟩
theorem BA.uniq{kind:af->Int}{all:List Ty}{e e':Int}{bs bs':List (af×Ty)}(hsub:(∀ t∈all,ee kind t≠0)->∀ n∈dO kind all [],jK all (.mk n []))(h:BA kind all e bs)(k:BA kind all e' bs'):e=e'/\bs=bs':=by
 rcases h with⟨rfl,rfl,h1⟩|⟨rfl,rfl,h1,t,h2,h3⟩|⟨h1,h2,h3⟩
 ·rcases k with⟨rfl,rfl,k1⟩|⟨rfl,rfl,k1,_⟩|⟨k1,_⟩
  ·exact⟨rfl,rfl⟩
  ·omega
  ·omega
 ·rcases k with⟨rfl,rfl,k1⟩|⟨rfl,rfl,k1,_⟩|⟨k1,k2,_⟩
  ·omega
  ·exact⟨rfl,rfl⟩
  ·exact(k2 t h2 h3).elim
 ·rcases k with⟨rfl,rfl,k1⟩|⟨rfl,rfl,k1,t,k2,k3⟩|⟨k1,k2,k3⟩
  ·omega
  ·exact(h2 t k2 k3).elim
  ·exact h3.uniq (hsub h2) k3
mutual
theorem Pn{kind:af->Int}:∀(t:Ty) (o:List af),FZ (fun n=>kind n==4) t->∀ n∈BD kind t o,n∈o\/((kind n==4)=true/\jJ (.mk n []) t)
 |.mk m xs,o,w,n,h=>by
  simp only[FZ]at w
  simp only[BD]at h
  rcases vT xs _ w.2.2 n h with h|⟨h1,x,hx,h2⟩
  ·split at h
   ·rename_i q
    rcases List.mem_append.1 h with h|h
    ·exact .inl h
    ·simp at h;subst h
     obtain rfl:=w.2.1 q.1
     exact .inr ⟨q.1,.refl _⟩
   ·exact .inl h
  ·exact .inr ⟨h1,.step hx h2⟩
theorem vT{kind:af->Int}:∀(l:List Ty) (o:List af),qC (fun n=>kind n==4) l->∀ n∈dO kind l o,n∈o\/((kind n==4)=true/\jK l (.mk n []))
 |[],o,_,n,h=>.inl h
 |t::r,o,w,n,h=>by
  simp only[qC]at w
  simp only[dO]at h
  rcases vT r _ w.2 n h with h|⟨h1,x,hx,h2⟩
  ·rcases Pn t o w.1 n h with h|⟨h1,h2⟩
   ·exact .inl h
   ·exact .inr ⟨h1,t,List.mem_cons_self,h2⟩
  ·exact .inr ⟨h1,x,List.mem_cons_of_mem _ hx,h2⟩
end
theorem Io{kind:af->Int}(k1:(kind [45,62]==4)=false)(k2:(kind [44]==4)=false){all:List Ty}(hsz:∀ t∈all,ee kind t≠0):∀ n∈dO kind all [],(kind n==4)=true/\jK all (.mk n []):=fun n hn=>by
 rcases vT all [] (BC k1 k2 (kJ.2 fun t ht=>wi (hsz t ht))) n hn with h|h
 ·cases h
 ·exact h
theorem Wv{kind:af->Int}{N:List aH}{L:Lk}{T:List Ty}{ks:List Nat}{all:List Ty}{E:List (Nat×Nat)}{q:Bool}(gn:GN N T (fun n=>kind n==4))(us:US N (nones N) E q L)(hE:∀(α:Type) (f:Nat->α),(∀ p∈E,f p.1=f p.2)↔∀ a∈ks,∀ b∈ks,f a=f b)(hk:∀ a∈ks,a<N.length)(hT:ks.map (fun a=>T[a]?)=all.map some)(hlk:∀ i j:Nat,L[i]? = some (some j)->j<N.length) :
 (q=false->¬ Lv (fun n=>kind n==4) all)/\(q=true->Lv (fun n=>kind n==4) all/\zc N L []/\∀ f:Nat->Ty,bT L f->∀ a∈ks,∀ b∈ks,f a=f b)/\(∀ f:Nat->Ty,zP N f->(∀ a∈ks,∀ b∈ks,f a=f b)->q=true/\bT L f)/\Lo N L/\∀ k∈ks,sE T k∈all:=by
 have hL0:∀(α:Type) (f:Nat->α),bT (nones N) f:=fun α f i j h=>(nC h).elim
 have toAll:∀ k∈ks,sE T k∈all:=fun k hk=>by
  have:T[k]?∈all.map some:=by rw[<- hT];exact List.mem_map_of_mem (f:=fun a=>T[a]?) hk
  obtain⟨t,h1,h2⟩:=List.mem_map.1 this
  rw[gt h2.symm];exact h1
 have hl:N.length=L.length:=by rw[us.len,Av]
 have hlk2:∀ i j:Nat,L[i]? = some (some j)->j<L.length:=fun i j h=>by rw[<- hl];exact hlk i j h
 refine⟨fun hq ⟨θ,he⟩=>?_,fun hq=>?_,fun f h1 h2=>us.snd Ty f h1 (hL0 _ _) ((hE Ty f).2 h2),us.lo fun i j y h=>(nC h).elim,toAll⟩
 ·have:=(us.snd mL _ (QM gn θ) (hL0 _ _) ((hE mL _).2 fun a ha b hb=>he _ (toAll a ha) _ (toAll b hb))).1
  rw[hq]at this;cases this
 ·obtain⟨c1,c2⟩:=us.cpl hq
  have cl:zc N L []:=c2 [] fun i j x h=>(nC h).elim
  refine⟨⟨WX N L,fun t ht t' ht'=>?_⟩,cl,fun f hf=>(hE Ty f).1 (c1 Ty f hf).2⟩
  have of:∀ t∈all,∃ k∈ks,sE T k=t:=fun t ht=>by
   have:some t∈ks.map (fun a=>T[a]?):=by rw[hT];exact List.mem_map_of_mem ht
   obtain⟨k,h1,h2⟩:=List.mem_map.1 this
   exact⟨k,h1,gt h2⟩
  obtain⟨k,h1,rfl⟩:=of t ht
  obtain⟨k',h1',rfl⟩:=of t' ht'
  rw[Od gn cl us.wf hlk2 hl k (hk k h1),Od gn cl us.wf hlk2 hl k' (hk k' h1')]
  exact(hE mL _).1 (c1 mL _ (EE us.wf hlk2)).2 k h1 k' h1'
theorem uU{all:List Ty}{n:Nat}(h:∀ t∈all,bE t<=n):bE.tszs all<=n*all.length:=by
 induction all with
 |nil=>simp[bE.tszs]
 |cons x r ih =>
  have h1:=ih fun t ht=>h t (List.mem_cons_of_mem _ ht)
  have h2:=h x List.mem_cons_self
  simp only[bE.tszs,List.length_cons,Nat.mul_add]
  omega
theorem SF{kind:af->Int}(K:FW kind)(k1:(kind [45,62]==4)=false)(k2:(kind [44]==4)=false)(all:List Ty)(H:DH)(hok:Ty.oks all)(hl0:all.length<2^62) :
 ∃ bs e H',ay 8 [.row 2 (aM all)] H=ret (.tuple [.row 3 (bs.map oT),.i e]) H'/\BA kind all e bs:=by
 rcases Nat.lt_or_ge 16 all.length with h16|h16
 ·refine⟨[],1,H,ev (f8) ?_,.inl ⟨rfl,rfl,h16⟩⟩
  have e1:decide (((aM all).length:Int)>16)=true:=by rw[aT];simp;omega
  rw[e1,cond_true]
  rfl
 have e1:decide (((aM all).length:Int)>16)=false:=by rw[aT];simp;omega
 obtain⟨X,z1⟩:=Mx K all h16 all [] H rfl hok
 by_cases qs:∃ t∈all,ee kind t=0
 ·rw[if_pos qs]at z1
  refine⟨[],32,H++X,ev (f8) ?_,.inr (.inl ⟨rfl,rfl,h16,qs⟩)⟩
  rw[e1,cond_false,aT]
  exact z1
 rw[if_neg qs]at z1
 have hsz:∀ t∈all,ee kind t≠0:=fun t h e=>qs ⟨t,h,e⟩
 have hts:bE.tszs all<=32000:=by
  have:=uU (n:=2000) fun t ht=>(pI (hsz t ht)).2.1
  omega
 have hV:ji kind all:=kJ.2 fun t ht=>wi (hsz t ht)
 obtain⟨H1,d,dl,os,bs,N,T,vs,ks,w1,g1,hd,hk,hT,hcv,hNl,_,hvq⟩:=Mw K all h16 0 ((H++X).length+1) (H++X).length (Nat.zero_le _) (Nat.zero_le _) all [] _ .nilrow .nilrow [] [] [] [] [] [] (GT.nil (H++X)) (.inl ⟨rfl,rfl⟩) (fun _ h=>nomatch h) rfl (fun _ _ h=>by cases h) (fun _ _ h=>by cases h) (Nat.zero_le _) rfl (BC k1 k2 hV) (by simp only[List.length_nil];omega) (fun j _ h=>by simp at h) rfl
 simp only[List.length_nil,Nat.zero_add]at hNl
 have hkl:ks.length=all.length:=by have:=congrArg List.length hT;simpa using this
 obtain⟨g2,wf2,cl2⟩:=g1.gr
 obtain⟨q,H2,L2,E,w2,g3,us,l3,hE⟩:=PD (p:=(H++X).length+1) (by rw[hkl];exact h16) hk g2 wf2 hd
 have gn:=g1.gn
 have pre:∀ z,ae am 8 200017 [.g (.ptr ((H++X).length+1) 0),.g d,.g d,.n (ks.length:Nat),.n 0] [] H1=z->ay 8 [.row 2 (aM all)] H=z:=fun z hz=>by
  refine ev (f8) ?_
  rw[e1,cond_false,aT]
  refine Eq.trans z1 ?_
  refine Eq.trans w1 ?_
  rw[<- hkl]
  exact hz
 obtain⟨co1,co2,hgen,lo,toAll⟩:=Wv gn us hE hk hT g3.lk
 have fin:∀ {e bs},Ia kind all e bs->BA kind all e bs:=fun h=>.inr (.inr ⟨h16,hsz,h⟩)
 cases q with
 |false=>exact⟨[],30,H2,pre _ w2,fin (.inr (.inl ⟨rfl,rfl,co1 rfl⟩))⟩
 |true =>
  obtain⟨ts,cl3,heq2⟩:=co2 rfl
  have hv:∀(i:Nat) (x:aH),N[i]? = some x->x.v=true->x.a=[]:=fun i x h k=>(gn.var i x h k).2.2
  have hd2:=hd.els g2 l3
  obtain⟨q2,H3,L3,f1,g4,q4,l4,n1,n2⟩:=VY g3 us.wf hv (by rw[hkl];exact h16) hd2 hk
  cases q2 with
  |false =>
   refine⟨[],31,H3,pre _ ?_,fin (.inr (.inr (.inl ⟨rfl,rfl,ts,fun s hs he=>?_⟩)))⟩
   ·rw[w2]
    show Ke d _ H2=_
    rw[Ke,aw f1]
    rfl
   ·have:=n1 _ (gn.mod hs) (hgen _ (gn.mod hs).comp fun a ha b hb=>he _ (toAll a ha) _ (toAll b hb)).2
    cases this
  |true =>
   have hl:N.length=L3.length:=g4.lenL.symm
   have cl4:zc N L3 []:=q4.cl [] cl3
   have wf4:Wf L3:=us.wf.eqv q4
   have hlk:∀ i j:Nat,L3[i]? = some (some j)->j<L3.length:=fun i j h=>by rw[<- hl];exact g4.lk i j h
   have hTr:∀ i,i<N.length->∃ t,Tr N L3 i t:=hcv.all (fun i x h=>gn.kid i x h) (fun a ha=>n2 rfl a ha) fun i x hx ⟨t,ht⟩=>ht.kid cl4 wf4 hlk hv hx
   have hTr':∀ i,i<N.length->Tr N L3 i (sH N L3 i):=fun i hi=>by
    obtain⟨t,ht⟩:=hTr i hi
    rw[iM ht];exact ht
   have rtE:∀ i,i<N.length->((fun i=>decide (L3[i]? = some none)) i=true↔L3[i]? = some none):=fun i _=>by simp
   have vlt:∀ v∈vs,v<N.length:=fun v h=>by obtain⟨x,hx,_⟩:=g1.vs2 v h;exact ao hx
   obtain⟨s,hp⟩:=g1.pg
   have p3:H3[(H++X).length+1]? = some (.cells s [.map (H++X).length,dl]):=by
    have e2:=l3.at' _ (ao hp) g1.np
    have e3:=l4.at' _ (Nat.lt_of_lt_of_le (ao hp) l3.len) g1.np
    rw[e3,e2,hp]
   have dl3:bM H3 dl (vs.map (oN os)):=(g1.al.els g2 l3).els g3 l4
   have bd:=Gk (d:=dl) (all:=vs) (by have:=g1.vl;omega) (fun i=>decide (L3[i]? = some none)) (sH N L3) hv vlt vs [] H3 L3 [] .nilrow g4 hTr' rtE dl3 (.inl ⟨rfl,rfl⟩) rfl (Nat.le_refl _)
   have TO:∀ z,ae am 8 200026 [.g .nilrow,.g dl,.n (vs.length:Nat),.n 0] [] H3=z->ay 8 [.row 2 (aM all)] H=z:=fun z hz=>pre _ (by
    rw[w2]
    show Ke d _ H2=_
    rw[Ke,aw f1]
    simp only[ct,Bool.not_true,ak,cond_false]
    rw[ac p3,ar,aj,dl3.len,List.length_map]
    exact hz)
   have heq:∀ f:Nat->Ty,bT L3 f->∀ a∈ks,∀ b∈ks,f a=f b:=fun f hf=>heq2 f ((q4.rs Ty f).2 hf)
   have hgn:∀ f:Nat->Ty,zP N f->(∀ a∈ks,∀ b∈ks,f a=f b)->bT L3 f:=fun f h1 h2=>(q4.rs Ty f).1 (hgen f h1 h2).2
   have isSub:∀ i,i<N.length->jK all (sE T i):=hcv.all (fun i x h=>gn.kid i x h) (fun a ha=>⟨_,toAll a ha,.refl _⟩) fun i x hx ⟨t,ht,hu⟩ a ha=>by
    cases vx:x.v with
    |true=>rw[(gn.var i x hx vx).2.2]at ha;cases ha
    |false =>
     rw[gn.con' hx vx]at hu
     exact⟨t,ht,hu.kid (List.mem_map_of_mem ha)⟩
   obtain⟨mg,m1,m2⟩:=mgu gn cl4 hl hTr' g1.vs1 g1.vs2 hk hT heq hgn isSub rtE
   obtain⟨cn,_⟩:=Zz k1 k2 gn cl4 hl hTr' g1.vs1 g1.vs2 hk hT heq hgn isSub rtE (q4.lo lo) hvq g1.vo hV
   rcases bd with⟨⟨H4,bd⟩,v,hv1,hv2,hv3⟩|⟨⟨H4,bd⟩,hb⟩
   ·obtain⟨n,n3,n4,n5⟩:=m1 v hv1 hv2
    exact⟨[],39,H4,TO _ bd,fin (.inl ⟨rfl,rfl,ts,_,mg,n,n3,n4,by rw[n5];exact hv3⟩)⟩
   ·rw[List.nil_append]at bd
    refine⟨_,0,H4,TO _ bd,fin (.inr (.inr (.inr ⟨rfl,cn,ts,?_⟩)))⟩
    intro n n3 n4
    rcases m2 n n3 n4 with e|⟨v,v1,v2,e⟩
    ·rw[e];simp[OZ,bE,bE.tszs,mM,gc]
    ·have:=hb v v1 v2
     rw[e];unfold OZ;omega
end Go.Proofs.YtenibcfppefobaaGreatDoor
namespace Go.Proofs.YtenibcfppefobaaGreatDoor
open Go.AI
theorem DM{a:Nat}(h:a<1000000):(Nat.ble a 2199023255552&&iD ab 102 a)=true:=by
 have e:iD ab 102 a=Nat.ble (16*a) 100000000000000:=by kernel_rfl
 rw[e,Bool.and_eq_true]
 exact⟨Nat.ble_eq_true_of_le (by omega),Nat.ble_eq_true_of_le (by omega)⟩
theorem Zk(a:Nat)(κ:Int->ah):Zj (.i (a:Nat)) κ=κ (a:Nat):=rfl
theorem GN.nil{isV:af->Bool}:GN [] [] isV:=⟨rfl,fun i x h=>(by simp at h),fun i x h=>(by simp at h),fun i _ x _ h=>(by simp at h)⟩
theorem FB{H:DH}(X:DH):∀ k,k<H.length->(H++X)[k]? = H[k]?:=fun k h=>List.getElem?_append_left h
theorem WB{N:List aH}{L:Lk}{T:List Ty}{isV:af->Bool}(gn:GN N T isV)(hc:zc N L [])(hw:Wf L)(hl:N.length=L.length)(hlk:∀ i j:Nat,L[i]? = some (some j)->j<L.length)(hv:∀(i:Nat) (x:aH),N[i]? = some x->x.v=true->∃ t,Tr N L i t):∀ i,i<N.length->∃ t,Tr N L i t:=fun i=>by
 induction i using Nat.strongRecOn with
 |ind i ih =>
  intro hi
  have hx:=List.getElem?_eq_getElem hi
  generalize N[i]=x at hx
  cases vx:x.v with
  |true=>exact hv i x hx vx
  |false =>
   obtain⟨r,n,hr⟩:=hw i (by rw[<- hl];exact hi)
   obtain⟨y,y1,y2,y3,_,y4⟩:=hc.rt hr x hx vx
   have e:=y4 Prop _ (Tr.resp N L hw hlk)
   have hx2:∀ p∈x.a.map (fun i=>∃ t,Tr N L i t),p:=fun p hp=>by
    obtain⟨a,ha,rfl⟩:=List.mem_map.1 hp
    have:=(gn.con i x hx vx).2.1 a ha
    exact ih a this (by omega)
   rw[e]at hx2
   have mk:∀ l:List Nat,(∀ a∈l,∃ t,Tr N L a t)->∃ ts,oo N L l ts:=fun l=>by
    induction l with
    |nil=>intro _;exact⟨[],.nil⟩
    |cons a l ih2 =>
     intro h
     obtain⟨t,ht⟩:=h a List.mem_cons_self
     obtain⟨ts,hts⟩:=ih2 fun b hb=>h b (List.mem_cons_of_mem _ hb)
     exact⟨t::ts,.cons ht hts⟩
   obtain⟨ts,hts⟩:=mk y.a fun a ha=>hx2 _ (List.mem_map_of_mem (f:=fun i=>∃ t,Tr N L i t) ha)
   exact⟨_,.con hr y1 y2 hts⟩
variable{kind:af->Int}(K:FW kind)(HQ:∀ n k,fF kind n k=true->PL n=(kind n==4))(k1:(kind [45,62]==4)=false)(k2:(kind [44]==4)=false)(k0:∀ k,fF kind [] k=false)
include K HQ k1 k2 in
theorem Ij(all:List Ty)(h16:all.length<=16):∀(l pre:List Ty) (H:DH) (d:D),all=pre++l->AS H 0 (dO kind pre []) d->Ty.oks l->(∀ t∈pre,ee kind t≠0) ->
 (∃ H',ae am 14 200005 [.g (.row 2 (aM all)),.lp 0 0,.g d,.n (pre.length:Nat)] [(0,[.nilrow,.i 0])] H=ret (.agg [.row 3 [],.i 32]) H'/\∃ t∈l,ee kind t=0) \/
 ∃ H' d',ae am 14 200005 [.g (.row 2 (aM all)),.lp 0 0,.g d,.n (pre.length:Nat)] [(0,[.nilrow,.i 0])] H=ae am 14 200013 [.g (.row 2 (aM all)),.lp 0 0,.g d',.g (.ptr H'.length 0),.g .nilrow,.n 0] [(0,[.nilrow,.i 0])] (H'++[.cells 0 [.nilrow,.nilrow,.nilrow,.bool false,.nilrow,.i 0]])/\AS H' 0 (dO kind all []) d'/\∀ t∈all,ee kind t≠0
 |[],pre,H,d,e,h,hok,hs=>by
  have hpre:all=pre:=by rw[e];simp
  refine .inr ⟨H,d,cM (qf) ?_,by rw[hpre];exact h,by rw[hpre];exact hs⟩
  have hlt:decide ((pre.length:Int)<((aM all).length:Int))=false:=by rw[aT,hpre];simp
  rw[hlt,cond_false]
 |t::l,pre,H,d,e,h,hok,hs=>by
  have hxl:all.length=pre.length+(l.length+1):=by rw[e];simp
  have hlt:decide ((pre.length:Int)<((aM all).length:Int))=true:=by rw[aT,hxl];simp;omega
  have h2:(aM all)[pre.length]? = some (cG t):=by rw[e];exact fq _ _ _
  have hw2:cq ((pre.length:Int)+1)=(((pre++[t]).length:Nat):Int):=by
   rw[aS (by omega)];simp
  obtain⟨q,r1,r2⟩:=LN K t H hok.1
  by_cases z:ee kind t=0
  ·have hq:q=false:=by
    cases q with
    |false=>rfl
    |true=>exact(r2.1 rfl z).elim
   refine .inl ⟨H,cM (qf) ?_,t,List.mem_cons_self,z⟩
   obtain⟨tn,ts⟩:=t
   simp only[cG]at h2 r1
   rw[hlt,cond_true,aP,aI h2]
   simp only[aj,ar]
   rw[aw r1,hq,ct,ak,Bool.not_false,cond_true]
  ·have hq:q=true:=r2.2 z
   have hlen:=(ij (kind:=kind) pre [] List.nodup_nil).2.2
   have h1:=uU (n:=2000) fun t ht=>(pI (hs t ht)).2.1
   have h3:=(pI z).2.1
   simp at hlen
   obtain⟨d1,H1,c1,c2,c3⟩:=Jz HQ k1 k2 t H 0 (dO kind pre []) d h (Nat.zero_le _) (ij pre [] List.nodup_nil).1 (by omega) (wi z)
   rw[<- oz]at c2
   have st:∀ z,ae am 14 200005 [.g (.row 2 (aM all)),.lp 0 0,.g d1,.n ((pre++[t]).length:Nat)] [(0,[.nilrow,.i 0])] H1=z->ae am 14 200005 [.g (.row 2 (aM all)),.lp 0 0,.g d,.n (pre.length:Nat)] [(0,[.nilrow,.i 0])] H=z:=fun z hz=>by
    refine cM (qf) ?_
    obtain⟨tn,ts⟩:=t
    simp only[cG]at h2 r1 c1
    rw[hlt,cond_true,aP,aI h2]
    simp only[aj,ar]
    rw[aw r1,hq,ct,ak,Bool.not_true,cond_false,aP,aI h2]
    simp only[aj,ar]
    rw[aw c1,hw2]
    exact hz
   rcases Ij all h16 l (pre++[t]) H1 d1 (by rw[e];simp) c2 hok.2 (fun u hu=>by
    rcases List.mem_append.1 hu with hu|hu
    ·exact hs u hu
    ·simp at hu;rw[hu];exact z)with⟨H',w1,u,w2,w3⟩|⟨H',d',w1,w2⟩
   ·exact .inl ⟨H',st _ w1,u,List.mem_cons_of_mem _ w2,w3⟩
   ·exact .inr ⟨H',d',st _ w1,w2⟩
end Go.Proofs.YtenibcfppefobaaGreatDoor
namespace Go.Proofs.YtenibcfppefobaaGreatDoor
open Go.AI
theorem ZB(x:ah):boK true x=x:=rfl
theorem Rg{kind:af->Int}:Ia kind [] 0 []:=by
 have no:∀ u,¬ jK [] u:=fun u ⟨t,ht,_⟩=>nomatch ht
 refine .inr (.inr (.inr ⟨rfl,⟨⟨fun n t h=>(by simp[cP]at h),fun _ h=>(nomatch h),fun _ _ _ u hu=>(no u hu).elim⟩,fun _ h=>(nomatch h),rfl,fun i j n m h=>(by simp[dO]at h),fun n h=>(by simp[dO]at h),fun n h=>(by simp[dO]at h)⟩,⟨fun _=>vV [] [],fun _ h=>nomatch h⟩,fun n _ h=>(no _ h).elim⟩))
variable{kind:af->Int}(K:FW kind)(HQ:∀ n k,fF kind n k=true->PL n=(kind n==4))(k1:(kind [45,62]==4)=false)(k2:(kind [44]==4)=false)(k0:∀ k,fF kind [] k=false)
include K HQ k1 k2 k0
theorem PC(all:List Ty)(H:DH)(hok:Ty.oks all)(hl0:all.length<2^62) :
 ∃ bs e H',ay 14 [.row 2 (aM all)] H=ret (.agg [.row 3 (bs.map oT),.i e]) H'/\BA kind all e bs:=by
 rcases Nat.lt_or_ge 16 all.length with h16|h16
 ·refine⟨[],1,H,ev (Zy) ?_,.inl ⟨rfl,rfl,h16⟩⟩
  have e1:decide (((aM all).length:Int)>16)=true:=by rw[aT];simp;omega
  rw[e1,cond_true]
  rfl
 have e1:decide (((aM all).length:Int)>16)=false:=by rw[aT];simp;omega
 have st0:∀ z,ae am 14 200005 [.g (.row 2 (aM all)),.lp 0 0,.g .nilrow,.n 0] [(0,[.nilrow,.i 0])] H=z->ay 14 [.row 2 (aM all)] H=z:=fun z hz=>by
  refine ev (Zy) ?_
  rw[e1,cond_false]
  exact hz
 rcases Ij K HQ k1 k2 all h16 all [] H .nilrow rfl (.inl ⟨rfl,rfl⟩) hok (fun _ h=>nomatch h)with⟨H',w1,w2⟩|⟨H0,nd,w1,hns,hsz⟩
 ·exact⟨[],32,H',st0 _ w1,.inr (.inl ⟨rfl,rfl,h16,w2⟩)⟩
 have hts:bE.tszs all<=32000:=by
  have:=uU (n:=2000) fun t ht=>(pI (hsz t ht)).2.1
  omega
 have hV:ji kind all:=kJ.2 fun t ht=>wi (hsz t ht)
 obtain⟨names,hnames⟩:∃ names,names=dO kind all []:=⟨_,rfl⟩
 have hnd:=ij (kind:=kind) all [] List.nodup_nil
 rw[<- hnames]at hnd hns
 have hnl:names.length<=32000:=by have:=hnd.2.2;simp at this;omega
 have hka:=Io k1 k2 hsz
 rw[<- hnames]at hka
 have hins:rE kind names all:=by rw[hnames];exact rD all [] List.nodup_nil
 let G:DB:=.cells 0 [.nilrow,.nilrow,.nilrow,.bool false,.nilrow,.i 0]
 have V0:VL (H0++[G]) H0.length [H0.length] [] names nd .nilrow:=⟨.inl ⟨rfl,rfl,rfl,rfl,rfl,0,bk _ _⟩,hns.mv fun p n e=>FB _ p (hns.lt e),.inl ⟨rfl,rfl⟩,fun p n e h=>by
  have:=hns.lt e
  simp at h;omega,fun p n e=>(by cases e),fun p n e=>(by cases e)⟩
 obtain⟨H1,W1,vd,w2,t1⟩:=Dz (kind:=kind) (x:=aM all) hnd.1 (fun n hn=>(hka n hn).1) (by omega) names [] (H0++[G]) [H0.length] .nilrow V0 rfl GN.nil
 have U0:UL kind H1 H0.length W1 (ze names 0) (nones (ze names 0)) true (names.map fun n=>.mk n []) names nd vd [] []:=⟨t1,Wf.nones _,.nil (Wf.nones _),rfl,fun _ h=>(nomatch h),fun u hu=>by
  obtain⟨n,a,rfl⟩:=List.mem_map.1 hu
  exact .inl ⟨n,a,rfl⟩,by rw[qz];exact Nat.le_add_right _ _⟩
 obtain⟨H2,W,N,L,res,T,ks,w3,U⟩:=RH HQ k1 k2 k0 all h16 (by omega) all [] H1 W1 _ _ true _ [] (-1) U0 rfl hV hins (.inl ⟨rfl,rfl⟩)
 have gn:=U.t.gn
 obtain⟨hlL,hlk⟩:=U.t.gs.lk
 obtain⟨co1,co2,hgen,lo,toAll⟩:=Wv gn U.us (fun α f=>SS f ks) U.ha U.ht hlk
 have fin:∀ {e bs},Ia kind all e bs->BA kind all e bs:=fun h=>.inr (.inr ⟨h16,hsz,h⟩)
 have st:∀ z,Jn H0.length nd vd H2=z->ay 14 [.row 2 (aM all)] H=z:=fun z hz=>st0 _ (w1.trans (w2.trans (w3.trans hz)))
 cases res with
 |false =>
  refine⟨[],30,H2,st _ ?_,fin (.inr (.inl ⟨rfl,rfl,co1 rfl⟩))⟩
  rw[Jn,U.t.gs.flag,ak,Bool.not_false,cond_true,List.map_nil]
 |true =>
  obtain⟨ts,cl0,heq0⟩:=co2 rfl
  have st2:∀ z,ae am 14 200027 [.lp 0 0,.g nd,.g (.ptr H0.length 0),.g vd,.n 0] [(0,[.nilrow,.i 0])] H2=z->ay 14 [.row 2 (aM all)] H=z:=fun z hz=>st _ (by
   rw[Jn,U.t.gs.flag,ak,Bool.not_true,cond_false]
   exact hz)
  have hvn:∀(i:Nat) (x:aH),N[i]? = some x->x.v=true->names[i]? = some x.n:=fun i x hx vx=>by
   obtain⟨a1,a2,a3⟩:=gn.var i x hx vx
   have hin:x.n∈names:=by
    rcases U.su _ (List.mem_of_getElem? a1)with⟨n,hn,e⟩|⟨t,ht,hu⟩
    ·injection e with e _;rw[e];exact hn
    ·have:∀ {u t:Ty},jJ u t->∀ n,u=.mk n []->(kind n==4)=true->KD kind names t->n∈names:=fun {u t} h=>by
      induction h with
      |refl=>intro n e hk hi;subst e;simp only[KD]at hi;exact hi.1 hk
      |step a _ ih =>
       intro n e hk hi
       simp only[KD]at hi
       refine ih n e hk ?_
       have:∀ {l:List Ty},rE kind names l->∀ x∈l,KD kind names x:=fun {l}=>by
        induction l with
        |nil=>intro _ _ h;cases h
        |cons y r ihr =>
         intro h x hx
         simp only[rE]at h
         rcases List.mem_cons.1 hx with rfl|hx
         ·exact h.1
         ·exact ihr h.2 x hx
       exact this hi.2 _ a
     refine this hu _ rfl a2 ?_
     have:∀ {l:List Ty},rE kind names l->∀ x∈l,KD kind names x:=fun {l}=>by
      induction l with
      |nil=>intro _ _ h;cases h
      |cons y r ihr =>
       intro h x hx
       simp only[rE]at h
       rcases List.mem_cons.1 hx with rfl|hx
       ·exact h.1
       ·exact ihr h.2 x hx
     exact this hins t ht
   obtain⟨j,hj⟩:=List.getElem?_of_mem hin
   obtain⟨y,hy,vy,yn⟩:=U.t.nv j x.n hj
   have:=gn.inj i j x y hx hy vx vy yn.symm
   subst this
   exact hj
  by_cases hN:N=[]
  ·subst hN
   have hks:ks=[]:=by
    cases ks with
    |nil=>rfl
    |cons a r=>have:=U.ha a List.mem_cons_self;simp at this
   have hall:all=[]:=by
    have:=congrArg List.length U.ht
    rw[hks]at this
    exact List.length_eq_zero_iff.1 (by simpa using this.symm)
   have hnm:names=[]:=by
    cases names with
    |nil=>rfl
    |cons n r=>obtain⟨x,hx,_⟩:=U.t.nv 0 n rfl;simp at hx
   rcases U.t.gs with⟨_,_,_,_,_,s,hg⟩|⟨o,_,_,g⟩
   ·have hvs:IS H2 [] vd:=by have:=U.t.vs;rw[hnm]at this;exact this
    have vl:∀(X:DH) (κ:D->ah),bJ ab 59 vd X κ=κ (.i 0):=fun X κ=>by
     rcases hvs with⟨rfl,_⟩|⟨q,rfl,_⟩
     ·exact Qm X κ
     ·exact AF _ _ _ _
    refine⟨[],0,H2++[.buf 2 true true (List.replicate 0 [.i 0,.i 0])],st2 _ (cM (qe) ?_),fin (by rw[hall];exact Rg)⟩
    rw[vl,iF,ak,show decide ((0:Int)<0)=false from rfl,cond_false,ac hg]
    simp only[aj,ar]
    rw[Qm]
    refine Eq.trans (Zk 0 _) ?_
    rw[aP,DM (by decide),ZB]
    refine cM (qd) ?_
    rw[vl,iF,ak,show decide ((0:Int)<0)=false from rfl,cond_false]
    refine cM (lY) ?_
    rw[vl,iF,ak,show decide ((0:Int)<0)=false from rfl,cond_false]
    rfl
   ·have:=g.pos;simp at this
  ·have hpos:0<N.length:=List.length_pos_iff.2 hN
   have hNl:=U.len
   obtain⟨o,ho,hW,g⟩:=U.t.gs.gg hpos
   subst hW
   rw[<- ho]at st2
   have hv:∀(i:Nat) (x:aH),N[i]? = some x->x.v=true->x.a=[]:=fun i x h k=>(gn.var i x h k).2.2
   have hnN:names.length<=N.length:=by
    cases hq:names.length with
    |zero=>omega
    |succ n =>
     have h1:=List.getElem?_eq_getElem (show n<names.length by omega)
     obtain⟨x,hx,_⟩:=U.t.nv n _ h1
     have:=ao hx
     omega
   have s2:SD H2 o N L (mQ N) (2*((0:Nat):Int)) names nd vd:=⟨g,U.wf,U.t.ns,U.t.vs,U.t.no,U.t.vo⟩
   obtain⟨H3,L3,sn3,_,q3,w4⟩:=Sb hv hnN (by omega) names.length 0 H2 L (mQ N) rfl s2 (fun z hz=>by
    obtain⟨x,_,rfl⟩:=List.mem_map.1 hz
    decide) (fun i h=>by omega)
   rcases w4 with⟨w4,w5⟩|⟨w4,s3,w5⟩
   ·refine⟨[],31,H3,st2 _ w4,fin (.inr (.inr (.inl ⟨rfl,rfl,ts,fun s hs he=>?_⟩)))⟩
    exact w5 _ (gn.mod hs) (hgen _ (gn.mod hs).comp fun a ha b hb=>he _ (toAll a ha) _ (toAll b hb)).2
   ·have hl:N.length=L3.length:=s3.g.lenL.symm
    have cl4:zc N L3 []:=q3.cl [] cl0
    have hlk3:∀ i j:Nat,L3[i]? = some (some j)->j<L3.length:=fun i j h=>by rw[<- hl];exact s3.g.lk i j h
    have hTr:∀ i,i<N.length->Tr N L3 i (sH N L3 i):=fun i hi=>by
     obtain⟨t,ht⟩:=WB gn cl4 s3.wf hl hlk3 (fun i x hx vx=>w5 i (ao (hvn i x hx vx))) i hi
     rw[iM ht];exact ht
    have rtE:∀ i,i<N.length->((fun i=>decide (L3[i]? = some none)) i=true↔L3[i]? = some none):=fun i _=>by simp
    have heq:∀ f:Nat->Ty,bT L3 f->∀ a∈ks,∀ b∈ks,f a=f b:=fun f hf=>heq0 f ((q3.rs Ty f).2 hf)
    have hgn:∀ f:Nat->Ty,zP N f->(∀ a∈ks,∀ b∈ks,f a=f b)->bT L3 f:=fun f h1 h2=>(q3.rs Ty f).1 (hgen f h1 h2).2
    have isSub:∀ i,i<N.length->jK all (sE T i):=fun i hi=>by
     have hT:=List.getElem?_eq_getElem (show i<T.length by rw[gn.len];exact hi)
     rw[gt hT]
     rcases U.su _ (List.mem_of_getElem? hT)with⟨n,hn,e⟩|h
     ·rw[e];exact(hka n hn).2
     ·exact h
    have vs1:∀(i:Nat) (x:aH),N[i]? = some x->x.v=true->i∈List.range names.length:=fun i x hx vx=>List.mem_range.2 (ao (hvn i x hx vx))
    have nva:∀(i:Nat),i<names.length->∃ x,N[i]? = some x/\x.v=true/\names[i]? = some x.n:=fun i hi=>by
     have h1:=List.getElem?_eq_getElem hi
     obtain⟨x,hx,vx,e⟩:=U.t.nv i _ h1
     exact⟨x,hx,vx,by rw[h1,e]⟩
    have vs2:∀ i∈List.range names.length,∃ x,N[i]? = some x/\x.v=true:=fun i hi=>by
     obtain⟨x,hx,vx,_⟩:=nva i (List.mem_range.1 hi)
     exact⟨x,hx,vx⟩
    have hwn:∀ i n,names[i]? = some n->gH N i=n:=fun i n h=>by
     obtain⟨x,hx,vx,e⟩:=nva i (ao h)
     rw[h]at e;cases e
     simp[gH,hx]
    have hvq:vN N (List.range names.length)=dO kind all []:=by
     rw[<- hnames]
     refine List.ext_getElem? fun i=>?_
     rw[vN,List.getElem?_map]
     rcases Nat.lt_or_ge i names.length with q|q
     ·rw[List.getElem?_range q]
      have h1:=List.getElem?_eq_getElem q
      rw[h1]
      simp[hwn i _ h1]
     ·rw[List.getElem?_eq_none (by simpa using q),List.getElem?_eq_none q]
      rfl
    have hvo:∀ k v:Nat,(List.range names.length)[k]? = some v->∃ x,N[v]? = some x/\x.o=k:=fun k v h=>by
     have hk:=ao h
     rw[List.length_range]at hk
     rw[List.getElem?_range hk]at h
     cases h
     obtain⟨x,hx,vx,_⟩:=nva k hk
     exact⟨x,hx,s3.g.od k x hx vx⟩
    obtain⟨mg,m1,m2⟩:=mgu gn cl4 hl hTr vs1 vs2 U.ha U.ht heq hgn isSub rtE
    obtain⟨cn,_⟩:=Zz k1 k2 gn cl4 hl hTr vs1 vs2 U.ha U.ht heq hgn isSub rtE (q3.lo lo) hvq hvo hV
    let Z:dB:=List.replicate N.length [.i 0,.i 0]
    have eZ:Z=KT (List.replicate N.length (0,0)):=by simp[Z,KT]
    have wl:=s3.lt
    have up:=FB (H:=H3) [.buf 2 true true Z]
    have s4:SE (H3++[.buf 2 true true Z]) o N L3 sn3 (2*(names.length:Nat)) names nd vd H3.length (List.replicate N.length (0,0)):=⟨⟨s3.g.fr fun k hk=>up k (wl k hk),s3.wf,s3.ns.mv fun p n e=>up p (s3.ns.lt e),s3.vs.mv fun p n e=>up p (s3.vs.lt e),s3.no,s3.vo⟩,by rw[eZ];exact bk _ _,by simp,fun j p hj hp=>by
     have:=List.mem_of_getElem? hj
     rw[List.mem_replicate]at this
     rw[this.2]at hp
     exact(hp rfl).elim,fun hk=>Nat.lt_irrefl _ (wl _ hk)⟩
    have st3:∀ z,ae am 14 200034 [.lp 0 0,.g nd,.g (.ptr o.g 0),.g vd,.g .nilrow,.g (.buf 2 H3.length N.length),.n 0] [(0,[.nilrow,.i 0])] (H3++[.buf 2 true true Z])=z->ay 14 [.row 2 (aM all)] H=z:=fun z hz=>st2 _ (w4.trans (cM (qe) (by
     obtain⟨s,hg⟩:=s3.g.ob
     rw[s3.vs.len,List.length_range,iF,ak,show decide (((names.length:Nat):Int)<((names.length:Nat):Int))=false from by simp,cond_false,ac hg]
     simp only[aj,ar]
     rw[AF,Zk,aP,DM (by omega),ZB]
     exact hz)))
    obtain⟨H5,L5,q5,w6⟩:=Sv hv hvn (by omega) hnN (List.range names.length) [] _ L3 _ rfl s4 hTr
    rcases w6 with⟨w6,i,w7,w8,w9⟩|⟨w6,s5,w7⟩
    ·obtain⟨n,n3,n4,n5⟩:=m1 i (List.mem_range.2 w7) (by simpa using w8)
     exact⟨[],39,H5,st3 _ w6,fin (.inl ⟨rfl,rfl,ts,_,mg,n,n3,n4,by rw[n5];exact w9⟩)⟩
    ·obtain⟨H6,w8⟩:=UE hv hvn (by omega) hnN (fun i=>decide (L3[i]? = some none)) hwn (List.range names.length) [] H5 L5 [] .nilrow rfl s5 (fun i hi=>(hTr i hi).eqv q5) (fun i hi=>(rtE i hi).trans (q5.ro i)) (.inl ⟨rfl,rfl⟩) (Nat.le_refl _)
     refine⟨_,0,H6,st3 _ (w6.trans w8),fin (.inr (.inr (.inr ⟨rfl,cn,ts,?_⟩)))⟩
     intro n n3 n4
     rcases m2 n n3 n4 with e|⟨v,v1,v2,e⟩
     ·rw[List.nil_append,e];simp[OZ,bE,bE.tszs,mM,gc]
     ·rw[List.nil_append,e]
      exact w7 v v1 (by simpa using v2)
end Go.Proofs.YtenibcfppefobaaGreatDoor
namespace Go.Proofs.YtenibcfppefobaaGreatDoor
open Go.AI
theorem SJ(H:DH):ay 6 [] H=ret (.bool true) H:=by show eF de (.call 6 [] none) H=_;rw[Hz];rfl
def TO(all:List Ty)(obs:List (af×Ty))(v7:D)(v8:Int)(v9:Bool)(H:DH):ah:=cond (v8 != 0) (cond (!v9) (ret (.bool true) H) (ret (.bool (v8==39)) H)) (ae am 3 200024 [.g (.row 2 (aM all)),.g (.row 3 (obs.map oT)),.g v7,.g (.bool v9),.n 0] [] H)
variable{kind:af->Int}(K:FW kind)(h0:∀ d k,zA kind d (.mk [] []) k=none){all:List Ty}{obs:List (af×Ty)}(h62:all.length<2^62)(hok:Ty.oks all)(hobs:∀ q∈obs,q.2.ok)
include K h0 h62 hok hobs
end Go.Proofs.YtenibcfppefobaaGreatDoor
namespace Go.Proofs.YtenibcfppefobaaGreatDoor
open Go.AI
theorem Tc(a b:Int)(κ:D->ah):av ab .neq 28 false (.i a) (.i b) κ=κ (.bool (a != b)):=by kernel_rfl
theorem Ut(a b:Int)(κ:D->ah):av ab .eql 28 false (.i a) (.i b) κ=κ (.bool (a==b)):=by kernel_rfl
theorem Ov{f:af->Ty}:∀ l:List af,(cb f l).length<=l.length
 |[]=>Nat.le_refl _
 |n::r=>by
  have:=Ov (f:=f) r
  unfold cb
  split<;>simp<;>omega
theorem BA.len{kind:af->Int}{all:List Ty}{e:Int}{bs:List (af×Ty)}(h:BA kind all e bs):bs.length<100000/\∀ q∈bs,q.2.ok:=by
 have no:bs=[]->bs.length<100000/\∀ q∈bs,q.2.ok:=fun e=>by rw[e];exact⟨by decide,fun _ h=>nomatch h⟩
 rcases h with⟨_,e,_⟩|⟨_,e,_⟩|⟨h16,hsz,⟨_,e,_⟩|⟨_,e,_⟩|⟨_,e,_⟩|⟨_,c,_⟩⟩
 ·exact no e
 ·exact no e
 ·exact no e
 ·exact no e
 ·exact no e
 ·refine⟨?_,c.ok⟩
  have h1:=Ov (f:=fun n=>sub (cP bs) (.mk n [])) (dO kind all [])
  rw[<- c.eq]at h1
  have h2:=(ij (kind:=kind) all [] List.nodup_nil).2.2
  have h3:=uU (n:=2000) fun t ht=>(pI (hsz t ht)).2.1
  simp at h2
  omega
theorem Iw{bs:List (af×Ty)}(hb:bs.length<100000)(H:DH):∀(l pre:List (af×Ty)),bs=pre++l->(∀ q∈l,q.2.ok)->ae am 15 200004 [.g (.row 3 (bs.map oT)),.g (.row 3 (bs.map oT)),.n (pre.length:Nat)] [] H=ret (.bool true) H
 |[],pre,e,_=>by
  refine cM (yf) ?_
  rw[List.length_map,show decide (((pre.length:Nat):Int)<((bs.length:Nat):Int))=false from by rw[e];simp,cond_false]
 |q::l,pre,e,hok=>by
  have ih:=Iw hb H l (pre++[q]) (by rw[e];simp) fun q h=>hok q (List.mem_cons_of_mem _ h)
  have hxl:bs.length=pre.length+(l.length+1):=by rw[e];simp
  have hw2:cq ((pre.length:Int)+1)=(((pre++[q]).length:Nat):Int):=by
   rw[aS (by omega)];simp
  have hk:=hok q List.mem_cons_self
  obtain⟨n,t⟩:=q
  obtain⟨tn,tx⟩:=t
  have h2:(bs.map oT)[pre.length]? = some [.str n,.str tn,.row 2 (aM tx)]:=by
   rw[List.getElem?_map,e]
   simp[oT,cG]
  have r1:=Ix (.mk tn tx) (.mk tn tx) H hk
  rw[(DE _ _).2 rfl]at r1
  simp only[cG]at r1
  refine cM (yf) ?_
  rw[List.length_map,show decide (((pre.length:Nat):Int)<((bs.length:Nat):Int))=true from by simp;omega,cond_true,aP,aI h2,aj]
  simp only[aP,aI h2,aj,ar]
  rw[Vj,ak,show(!(n==n))=false from by simp,cond_false,LF r1,ct,ak,Bool.not_true,cond_false,hw2]
  exact ih
theorem RI{bs:List (af×Ty)}(hb:bs.length<100000)(hok:∀ q∈bs,q.2.ok)(H:DH):ay 15 [.row 3 (bs.map oT),.row 3 (bs.map oT)] H=ret (.bool true) H:=by
 refine ev (f15) ?_
 rw[show((((bs.map oT).length:Nat):Int) !=(((bs.map oT).length:Nat):Int))=false from by simp,cond_false]
 exact Iw hb H bs [] rfl hok
theorem YP(l:dB)(e:Int)(κ:List D->ah):ai 2 (.agg [.row 3 l,.i e]) κ=κ [.row 3 l,.i e]:=rfl
variable{kind:af->Int}(K:FW kind)(HQ:∀ n k,fF kind n k=true->PL n=(kind n==4))(k1:(kind [45,62]==4)=false)(k2:(kind [44]==4)=false)(k0:∀ k,fF kind [] k=false)
include K HQ k1 k2 k0
theorem both(all:List Ty)(H:DH)(hok:Ty.oks all)(hl0:all.length<2^62):∃(bs:List (af×Ty)) (e:Int) (H1:DH),ay 8 [.row 2 (aM all)] H=ret (.tuple [.row 3 (bs.map oT),.i e]) H1/\(∀ H2,∃ H3,ay 14 [.row 2 (aM all)] H2=ret (.agg [.row 3 (bs.map oT),.i e]) H3)/\bs.length<100000/\∀ q∈bs,q.2.ok:=by
 obtain⟨bs,e,H1,r1,a1⟩:=SF K k1 k2 all H hok hl0
 refine⟨bs,e,H1,r1,fun H2=>?_,a1.len⟩
 obtain⟨bs',e',H3,r2,a2⟩:=PC K HQ k1 k2 k0 all H2 hok hl0
 obtain⟨rfl,rfl⟩:=a1.uniq (fun hsz n hn=>(Io k1 k2 hsz n hn).2) a2
 exact⟨H3,r2⟩
theorem XQ(all:List Ty)(H:DH)(hok:Ty.oks all)(hl0:all.length<2^62):∃ H',ay 5 [.row 2 (aM all)] H=ret (.bool true) H':=by
 obtain⟨bs,e,H1,r1,r2,b1,b2⟩:=both K HQ k1 k2 k0 all H hok hl0
 obtain⟨H2,r2⟩:=r2 H1
 have st:∀ z,(cond (decide (((aM all).length:Int)<2)) (ret (.bool true) H2) (dM (aM all) 0 fun a=>aA a 0 fun b=>aA a 1 fun a=>dM (aM all) 1 fun c=>aA c 0 fun d=>aA c 1 fun c=>dw (am (.call 16 [.agg [b,a],.agg [d,c]] none) H2) (fun a H=>gY a 0 fun b=>gY a 1 fun a=>dM (aM all) 0 fun c=>aA c 0 fun d=>aA c 1 fun c=>dM (aM all) 1 fun e=>aA e 0 fun f=>aA e 1 fun e=>dw (am (.call 17 [.agg [d,c],.agg [f,e]] none) H) (fun c H=>ai 2 c fun c=>az [.nilrow,.i 0] 0 c fun c=>aA c 1 fun d=>av ab .eql 28 false a d fun a=>brD a (aA c 0 fun a=>C am 15 [b,a] H fun a H=>ret a H) (ret (.bool false) H)) fun _ _=>none) fun _ _=>none))=z->ay 5 [.row 2 (aM all)] H=z:=fun z hz=>by
  refine ev (f5) ?_
  rw[aw (SJ H),aw r1]
  simp only[lZ,aj,ar]
  rw[aw r2,YP,RO,ct,ak,Bool.not_true,cond_false,ar,aj,Tc,ak,show(e != e)=false from by simp,cond_false,aj,aw (RI b1 b2 H2),ct,ak,Bool.not_true,cond_false]
  exact hz
 by_cases c2:all.length<2
 ·exact⟨H2,st _ (by rw[aT,decide_eq_true (by omega),cond_true])⟩
 ·match all,hok,c2 with
  |t0::t1::rest,hok,_ =>
   obtain⟨n0,x0⟩:=t0
   obtain⟨n1,x1⟩:=t1
   obtain⟨ds,f,H3,s1,s2,c1,c2⟩:=both K HQ k1 k2 k0 [.mk n0 x0,.mk n1 x1] H2 ⟨hok.1,hok.2.1,trivial⟩ (by simp)
   obtain⟨H4,s2⟩:=s2 H3
   have e2:aM [.mk n0 x0,.mk n1 x1]=[[.str n0,.row 2 (aM x0)],[.str n1,.row 2 (aM x1)]]:=by simp[fg,cG]
   rw[e2]at s1 s2
   have r16:ay 16 [.agg [.str n0,.row 2 (aM x0)],.agg [.str n1,.row 2 (aM x1)]] H2=ret (.tuple [.row 3 (ds.map oT),.i f]) H3:=by
    refine ev (f16) ?_
    rw[aw s1]
    simp only[lZ,aj,ar]
   have r17:ay 17 [.agg [.str n0,.row 2 (aM x0)],.agg [.str n1,.row 2 (aM x1)]] H3=ret (.agg [.row 3 (ds.map oT),.i f]) H4:=by
    refine ev (f17) ?_
    rw[aw s2,YP,RO]
    simp only[aj,ar]
   refine⟨H4,st _ ?_⟩
   have h0:(aM (.mk n0 x0::.mk n1 x1::rest))[0]? = some [.str n0,.row 2 (aM x0)]:=by simp[fg,cG]
   have h1:(aM (.mk n0 x0::.mk n1 x1::rest))[1]? = some [.str n1,.row 2 (aM x1)]:=by simp[fg,cG]
   rw[aT,show decide ((((Ty.mk n0 x0::Ty.mk n1 x1::rest).length:Nat):Int)<2)=false from by simp;omega,cond_false,aI h0]
   simp only[aj,ar,aI h1]
   rw[LF r16]
   simp only[lZ,aj,ar,aI h0,aI h1]
   rw[LF r17,YP,RO,ar,aj,Ut,ak,show(f==f)=true from by simp,cond_true,aj,aw (RI c1 c2 H4)]
  |[_],_,c2=>exact(c2 (by simp)).elim
  |[],_,c2=>exact(c2 (by simp)).elim
end Go.Proofs.YtenibcfppefobaaGreatDoor
namespace Go.Proofs.YtenibcfppefobaaGreatDoor.Rd
open Go.AI Go.Proofs.YtenibcfppefobaaGreatDoor
theorem SG{d:D}(h:Ph .str d):∃ l,d=.str l:=by cases h;exact⟨_,rfl⟩
theorem Mz{ds:List D}(h:JS [] ds):ds=[]:=List.length_eq_zero_iff.1 h.1
theorem BJ{k:Ck}{ks:List Ck}{ds:List D}(h:JS (k::ks) ds):∃ d r,ds=d::r/\Ph k d/\JS ks r:=by
 cases ds with
 |nil=>have:=h.1;simp at this
 |cons d r=>exact⟨d,r,rfl,h.2 0 k d rfl rfl,by have:=h.1;simpa using this,fun i k d h1 h2=>h.2 (i+1) k d (by simpa using h1) (by simpa using h2)⟩
theorem pick{α:Type}{f:α->List D}{p:α->Prop}:∀ {l:List (List D)},(∀ cs∈l,∃ x,cs=f x/\p x)->∃ xs:List α,l=xs.map f/\∀ x∈xs,p x
 |[],_=>⟨[],rfl,fun _ h=>by cases h⟩
 |cs::r,h=>by
  obtain⟨x,h1,h2⟩:=h cs List.mem_cons_self
  obtain⟨xs,h3,h4⟩:=pick fun c hc=>h c (List.mem_cons_of_mem _ hc)
  exact⟨x::xs,by rw[h1,h3];rfl,fun y hy=>(List.mem_cons.1 hy).elim (fun e=>e▸h2) (h4 y)⟩
theorem VJ:Jf 22=[.str,.sl 22]:=by kernel_rfl
theorem Vu{k:Ck}{d:D}(h:Ph k d):k=.sl 22->∃ xs,d=.row 2 (aM xs)/\xs.length<2^62/\Ty.oks xs:=by
 induction h with
 |row t ly l hly hl hn he ih =>
  intro e
  cases e
  rw[VJ]at hly
  subst hly
  obtain⟨xs,rfl,hx⟩:=pick (f:=cG) (p:=Ty.ok) (l:=l) fun cs hc=>by
   obtain⟨a,r,rfl,h1,h⟩:=BJ (⟨hn cs hc,he cs hc⟩:JS [.str,.sl 22] cs)
   obtain⟨b,r,rfl,h2,h⟩:=BJ h
   cases Mz h
   obtain⟨n,rfl⟩:=SG h1
   obtain⟨xs,rfl,h3⟩:=ih _ hc 1 _ b rfl rfl rfl
   exact⟨.mk n xs,by rw[cG],by rw[Ty.ok];exact h3⟩
  refine⟨xs,by rw[fg];rfl,?_,Ty.oks_iff.2 hx⟩
  rw[List.length_map]at hl
  omega
 |_=>intro e;cases e
theorem XR:eG []=0:=by simp[eG]
theorem XU{l:af}(h:pk l 0≠39):(eG l==4)=false:=by
 have key:eG l≠4:=by
  unfold eG
  split
  ·decide
  ·cases e:fG l 0 with
   |none=>simp
   |some p =>
    obtain⟨k,n⟩:=p
    have:k≠4:=by
     unfold fG at e
     grind
    simp only
    split
    ·exact this
    ·decide
 simpa using key
theorem XT:(eG [45,62]==4)=false:=XU (by decide)
theorem XS:(eG [44]==4)=false:=XU (by decide)
theorem ZP(k:Nat):fF eG [] k=false:=by simp[fF,XR]
theorem XV{l:af}(h:pk l 0=39):eG l≠3:=by
 unfold eG
 split
 ·decide
 ·cases e:fG l 0 with
  |none=>simp
  |some p =>
   obtain⟨k,n⟩:=p
   have:k≠3:=by
    unfold fG at e
    rw[h]at e
    grind [eP,hQ]
   simp only
   split
   ·exact this
   ·decide
theorem Xt(n:af):PL n=(pk n 0==39):=by
 cases n with
 |nil=>rfl
 |cons c r=>rfl
theorem ZO(n:af)(k:Nat)(h:fF eG n k=true):PL n=(eG n==4):=by
 rw[Xt]
 by_cases e:pk n 0=39
 ·have h3:=XV e
  have g:∀ w:af,pk w 0≠39->n≠w:=fun w hw q=>hw (q▸e)
  have g1:=g [73,110,116] (by decide)
  have g2:=g [45,62] (by decide)
  have g3:=g [44] (by decide)
  unfold fF at h
  simp only[beq_iff_eq,g1,g2,g3,if_false]at h
  rw[e]
  by_cases h4:eG n=4
  ·simp[h4]
  ·simp[h3,h4]at h
 ·rw[XU e]
  simpa using e
end Go.Proofs.YtenibcfppefobaaGreatDoor.Rd
namespace Go.Proofs.YtenibcfppefobaaGreatDoor.Rd
open Go.AI Go.Proofs Go.Proofs.YtenibcfppefobaaGreatDoor Go.ChangeShapes Go.WideShapes Go.ChangeAt Go.RowKit
theorem Wc:Go.AI.Good Tryz.prog (lim mc):=NA (dc rfl rfl) XD (bF rfl rfl)
theorem OB{W W':World}{ρ':aD}(h:FR (Ro W.heap.size) W ρ' W'):Below W.heap.size W W' :=
 ⟨h.os,h.tape,h.output,h.size,fun k hk=>h.same k hk fun f v l e hro=>by
  unfold Ro at e
  split at e
  ·cases e;exact absurd (show(0:Nat)<1 from Nat.zero_lt_one) hro
  ·cases e⟩
theorem NV{W:World}{o f v:Nat}(h:(Rd.g0 W).O[o]? = some (some (f,v))):False:=by
 have h:([]:List (Option (Nat×Nat)))[o]? = some (some (f,v)):=h
 simp at h
theorem Wd{W:World}(h:JV W)(hs:6<=W.heap.size):Ok (Rd.g0 W):=by
 refine⟨rfl,Py W,fun o o' f v v' h=>(NV h).elim,fun o f v h=>(NV h).elim,?_,?_,KG h,fun f hf=>⟨?_,?_,fun o v h=>NV h⟩⟩
 ·intro f hf
  have hf:f∈([]:List Nat):=hf
  simp at hf
 ·intro o b hb
  have hb:([]:List DB)[o]? = some b:=hb
  simp at hb
 ·show f<(bV W).next
  unfold bV;rw[kP]
  have hf:f∈[0,1,4,5]:=hf
  simp only[List.mem_cons,List.mem_nil_iff,or_false]at hf
  omega
 ·show f∉([]:List Nat)
  simp
theorem KZ{f:FuncId}{W:World}{args:List D}{X:DH}{vs:List V}{ys:List Value}(hG:Ok (g0 W))(h:eF de (.call f args none) []=ret (.bool true) X)(hr:Go.AI.RL (g0 W) args vs)(hd:aQ (Ro W.heap.size) vs=some ys) :
 Calls Tryz.prog f ys.toArray W fun e w'=>e=.returned (.bool true)/\Below W.heap.size W w':=by
 obtain⟨s',call⟩:=Qq h (g:=g0 W) rfl hG hr
 have hs:fI Tryz.prog f vs none (bV W) ⟨.returned (.bool true),none,s'⟩:=Wc (.call f _ none) _ _ call
 refine(yD hs (Iu W) hd).mono fun e w' ⟨ρ',z,he,hz,_,hfr⟩=>?_
 simp only[den,Option.some.injEq]at hz
 subst hz
 exact⟨he,OB hfr⟩
theorem own:ownKnob Tryz.prog.godebug=none:=by kernel_rfl
theorem Qr:laidOutB Tryz.prog=true:=by kernel_rfl
theorem Vp:Tryz.prog.readableRec 22=true:=by kernel_rfl
theorem Vm:22<Tryz.prog.types.size:=of_decide_eq_true (by kernel_rfl)
theorem QY:Tryz.prog.cellsOf 22=1:=by kernel_rfl
theorem VK:KC 8 22=some [.sl 22]:=by kernel_rfl
theorem SN{g:Gh}{d:D}{l:List V}(h:Go.AI.RL g [d] l):∃ v,l=[v]/\RD g d v:=by
 simp only[Go.AI.RL]at h
 obtain⟨v,r,rfl,h1,rfl⟩:=h
 exact⟨v,rfl,h1⟩
theorem HC{ρ:aD}{v:V}{y:Value}(h:aQ ρ [v]=some [y]):den ρ v=some y:=by
 simp only[aQ]at h
 cases e:den ρ v with
 |none=>rw[e]at h;cases h
 |some z=>rw[e]at h;cases h;rfl
end Go.Proofs.YtenibcfppefobaaGreatDoor.Rd
namespace Go.Proofs.YtenibcfppefobaaGreatDoor.inferSolves
open Go.AI Go.Proofs Go.Proofs.YtenibcfppefobaaGreatDoor Go.ChangeShapes Go.WideShapes Go.ChangeAt Go.RowKit Go.Proofs.YtenibcfppefobaaGreatDoor.Rd
set_option maxRecDepth 100000 in
theorem lifted(os:Os)(started:os.Started)(H:Type)(enc:TypeId×Value->H)(F:Stop.Interp) :
 ReturnsInHanded {} Tryz.checked os 5 .any ((OpenSpec.ofChange Rows.inferSolvesSpec).preRow enc Tryz.prog Tryz.f5 Rows.inferSolvesRow.domain false Rows.inferSolvesRow.laid) (((OpenSpec.ofChange Rows.inferSolvesSpec).at F).post enc Tryz.prog Tryz.f5 false true false false):=by
 refine returnsInHanded_of_row (C:=Tryz.checked) (s:=OpenSpec.ofChange Rows.inferSolvesSpec) own started (by kernel_rfl) Tryz.func5
  (ChangeSpec.witness_shaped (enc:=enc) (C:=Tryz.checked) (os:=os) (X:=fun w _=>laidMetH Tryz.prog Rows.inferSolvesRow.laid w) false (World.laidAll Tryz.prog os Rows.inferSolvesRow.laid)
   #[.slice none 0 0] 8 (World.laidAll_os _ _ _)
   (World.shaped_of_ZipB (by kernel_rfl) (by kernel_rfl)) (by kernel_rfl) (by kernel_rfl) (by kernel_rfl)
   (by rw[MakeChecks.laidMetH_plain _ _ _ (by kernel_rfl)];exact laidMet_laidAll _ (by kernel_rfl) (by kernel_rfl))) ?_
 intro W base args ds gs before hval0 hW _ _ hsz0 hlaid hshaped _
 have hval:∀(j:Nat) t v,Tryz.f5.params[j]? = some t->args[j]? = some v->Value.okWide Tryz.prog W .any base t v:=hval0
 rw[MakeChecks.laidMetH_plain _ _ _ (by kernel_rfl)]at hlaid
 have hG:JV W:=NT hlaid hshaped
 have hW':=hW
 obtain⟨p,q,hA0,hV,rfl,hfz,hnd⟩:=hW
 have hA:DataW.TrodAll enc Tryz.prog W 0 (fun _=>true) true Tryz.f5.params.toList args.toList ds p:=hA0
 have hsz:(DataW.weightsEach Tryz.prog (Tryz.f5.params.toList++[]) (ds++gs)).all (·<=reachBytes)=true:=hsz0
 rw[Tryz.params5]at hA hval hsz
 obtain⟨v0,vs0,d0,ds0,p0,q0,hargs,rfl,rfl,h0,r0⟩:=trodAll_cons hA
 obtain⟨rfl,rfl,rfl⟩:=trodAll_nil r0
 obtain rfl:args=#[v0]:=by cases args;simp_all
 obtain⟨rfl,rfl⟩:=trodVars_none hV
 obtain⟨a0,l0,c0,rfl⟩:=okWide_slice Tryz.underlying22 (hval 0 22 v0 rfl rfl)
 obtain⟨n0,g0'⟩:=h0
 have hwt:∀(i:Nat) t (d:DataW H),[22][i]? = some t->[d0][i]? = some d->Wt t d:=fun i t d e1 e2 n hn=>by
  have:=List.all_eq_true.1 hsz n (jh (i:=i) (by simpa using e1) (by simpa using e2) n hn)
  simpa using this
 obtain⟨x0,b0,a0',r0,s0,_⟩:=Vq (W:=W) n0 8 (x:=(d0,p0)) (Nat.le_refl _) VK QY g0' (hwt 0 22 d0 rfl rfl)
 obtain⟨y0,z0,rfl,t0,s0⟩:=BJ s0
 cases Mz s0
 obtain⟨all,rfl,hl,hlo⟩:=Vu t0 rfl
 obtain⟨u0,rfl,w0⟩:=SN r0
 obtain⟨X,hX⟩:=XQ ZQ ZO XT XS ZP all [] hlo hl
 have hsize:6<=W.heap.size:=by
  obtain⟨te,b,off,e,fz,hh,_⟩:=hG.rng
  have:=(Array.getElem?_eq_some_iff.1 hh).1
  omega
 have walk:=KZ (f:=5) (ys:=[.slice a0 l0 c0]) (Wd hG hsize) hX (vs:=[u0]) (by
  simp only[Go.AI.RL]
  exact⟨_,_,rfl,w0,rfl⟩) (by
  have e0:=HC (jN.den a0')
  simp only[aQ]
  rw[e0])
 refine walk.mono fun e W' ⟨he,hbl⟩=>?_
 subst he
 have hlt:=hW'.lt
 refine⟨_,rfl,_,_,_,[],p0++[],[],hW',trodAll_mk1 (shut_bool Tryz.underlying4 _),?_,rfl,hbl.frame _,fun h=>by cases h⟩
 show DataW.TrodAll enc Tryz.prog W' 0 (fun b=>decide (b<W.heap.size)) true Tryz.f5.params.toList _ [d0] _
 rw[Tryz.params5]
 exact⟨p0,[],Below.trod Qr Vp Vm ⟨n0,g0'⟩ hbl (fun z hz=>hlt z (by simp[hz])),rfl,rfl⟩
end Go.Proofs.YtenibcfppefobaaGreatDoor.inferSolves
