/- What the functions answer, in deep values: part 4. No conditions beyond those of the row. -/
import Derived.Test.YtpghiabjaglpgaaGreatDoorP3
set_option linter.all false
noncomputable section
namespace Go.Proofs.YtpghiabjaglpgaaGreatDoor
open Go.AI
theorem eQ{P:Program}{t:TypeId}{m b:Nat}(h:aF P t m=(Nat.ble (b*(m+Nat.div m 4+600)) 281474976710656&&Nat.ble m 4611686018427387904))(hb:b<=1000)(hm:m<=100000):aF P t m=true:=by
 rw[h,Bool.and_eq_true]
 refine⟨Nat.ble_eq_true_of_le ?_,Nat.ble_eq_true_of_le (by omega)⟩
 have h1:Nat.div m 4<=m:=Nat.div_le_self m 4
 have h2:b*(m+Nat.div m 4+600)<=1000*(100000+100000+600):=Nat.mul_le_mul hb (by omega)
 omega
theorem Iz{m:Nat}(h:m<=100000):aF Tryz.prog 393 m=true:=eQ (b:=16) (by kernel_rfl) (by decide) h
theorem BS{m:Nat}(h:m<=100000):aF Tryz.prog 209 m=true:=eQ (b:=40) (by kernel_rfl) (by decide) h
theorem Gv{H:DH}{p:Nat}{b:DB}(h:H[p]? = some b):H.set p b=H:=by
 apply List.ext_getElem?
 intro j
 by_cases e:p=j
 ·subst e;rw[be b h,h]
 ·rw[List.getElem?_set_ne e]
variable{p:Nat}{l:List Nat}{x y:D}
theorem LW{a b at':Nat}(h:((l.drop at').take 2==[a,b])=true):at'+2<=l.length:=by
 have h:=congrArg List.length (eq_of_beq h)
 rw[List.length_take,List.length_drop]at h
 simp at h;omega
theorem FG(hl:l.length<=24):∀(n at' st:Nat) (H:DH) (v d:Int),n=l.length - at'->at'<=l.length->H[p]? = some (.cells st (mc l at' x y)) ->
 (∃ at2 st2,at'<at2/\at2<=l.length/\ao de (ab de) 342 200002 [.g (.ptr p 0),.g (.int .i64 v),.g (.int .i64 d)] [] H=ret (.tuple []) (H.set p (.cells st2 (mc l at2 x y)))) \/
 (∃(a e:Int) (at2 st2:Nat),e≠0/\ao de (ab de) 342 200002 [.g (.ptr p 0),.g (.int .i64 v),.g (.int .i64 d)] [] H=pan (wr a e) (H.set p (.cells st2 (mc l at2 x y))))
 |n,at',st,H,v,d,hn,ha,hp=>by
  have s1:=jU hp ha [40,42]
  have s2:=jU hp ha [42,41]
  have step:∀ k (d':Int),1<=k->k<=2->at'+k<=l.length ->
   (∃ at2 st2,at'<at2/\at2<=l.length/\ao de (ab de) 342 200002 [.g (.ptr p 0),.g (.int .i64 v),.g (.int .i64 d')] [] (H.set p (.cells (st+1) (mc l (at'+k) x y)))=ret (.tuple []) (H.set p (.cells st2 (mc l at2 x y)))) \/
   (∃(a e:Int) (at2 st2:Nat),e≠0/\ao de (ab de) 342 200002 [.g (.ptr p 0),.g (.int .i64 v),.g (.int .i64 d')] [] (H.set p (.cells (st+1) (mc l (at'+k) x y)))=pan (wr a e) (H.set p (.cells st2 (mc l at2 x y)))):=fun k d' h1 h2 h3=>by
   rcases FG hl (l.length - (at'+k)) (at'+k) (st+1) (H.set p (.cells (st+1) (mc l (at'+k) x y))) v d' rfl h3 (be _ hp)with⟨at2,st2,k1,k2,k3⟩|⟨a,e,at2,st2,k1,k2⟩
   ·exact .inl ⟨at2,st2,by omega,k2,by rw[k3,List.set_set]⟩
   ·exact .inr ⟨a,e,at2,st2,k1,by rw[k2,List.set_set]⟩
  rw[show ao de (ab de) 342 200002 [.g (.ptr p 0),.g (.int .i64 v),.g (.int .i64 d)] [] H=_ from bg (ES _ _ _ _ _) rfl]
  simp only[ac hp,am,ax,KH,eY,VA,au]
  cases hc:decide (l.length<=at')with
  |true=>exact .inr ⟨v,12,at',st,by decide,by rw[cond_true,Gv hp];rfl⟩
  |false =>
   have hc:¬ l.length<=at':=by simpa using hc
   rw[cond_false,af s1,au]
   cases h1:((l.drop at').take [40,42].length==[40,42])with
   |true =>
    have h2:=LW h1
    rw[cond_true]
    cases decide (d>=100)with
    |true =>
     simp only[cond_true,ac hp,am,ax,om,MX,MW]
     exact .inr ⟨at',6,at',st,by decide,by rw[Gv hp];rfl⟩
    |false =>
     simp only[cond_false,ac hp,am,ax,cg,show(2:Int)=((2:Nat):Int)from rfl,wN (show at'+2<2^62 by omega),om,Kr]
     exact step 2 _ (by omega) (by omega) h2
   |false =>
    rw[cond_false,af s2,au]
    cases h1:((l.drop at').take [42,41].length==[42,41])with
    |true =>
     have h2:=LW h1
     simp only[cond_true,ac hp,am,ax,cg,show(2:Int)=((2:Nat):Int)from rfl,wN (show at'+2<2^62 by omega),om,Kr]
     cases (IntKind.wrap .i64 (d - 1)==0)with
     |true=>exact .inl ⟨at'+2,st+1,by omega,h2,rfl⟩
     |false=>rw[cond_false];exact step 2 _ (by omega) (by omega) h2
    |false =>
     simp only[cond_false,ac hp,am,ax,cg,show(1:Int)=((1:Nat):Int)from rfl,wN (show at'+1<2^62 by omega),om,Kr]
     exact step 1 _ (by omega) (by omega) (by omega)
 termination_by n=>n
theorem Vg(hl:l.length<=24){at' st:Nat}{H:DH}(ha:at'<=l.length)(hp:H[p]? = some (.cells st (mc l at' x y))) :
 (∃ at2 st2,at'<at2/\at2<=l.length/\ab de (.call 342 [.ptr p 0] none) H=ret (.tuple []) (H.set p (.cells st2 (mc l at2 x y)))) \/
 (∃(a e:Int) (at2 st2:Nat),e≠0/\ab de (.call 342 [.ptr p 0] none) H=pan (wr a e) (H.set p (.cells st2 (mc l at2 x y)))):=by
 rw[show ab de (.call 342 [.ptr p 0] none) H=_ from ev (YU _ _ _) rfl]
 simp only[ac hp,am,ax]
 exact FG hl _ at' st H at' 0 rfl ha hp
structure Gg(H:DH)(p:Nat)(l:List Nat)(at' m oc:Nat)(c:List (List D)):Prop where
 hp:∃ st,H[p]? = some (.cells st (mc l at' (.map m) (.buf 2 oc c.length)))
 hm:H[m]? = some (.map Ia)
 hc:H[oc]? = some (.buf 2 true false c)
def Fr(p oc:Nat)(H H2:DH):Prop:=∀(o:Nat) b,o≠p->o≠oc->H[o]? = some b->H2[o]? = some b
theorem Fr.trans{oc:Nat}{A B C:DH}(h:Fr p oc A B)(k:Fr p oc B C):Fr p oc A C:=fun o b h1 h2 h3=>k o b h1 h2 (h o b h1 h2 h3)
theorem Fr.set{oc:Nat}{H:DH}{b:DB}:Fr p oc H (H.set p b):=fun o c h1 _ h3=>by rw[List.getElem?_set_ne (Ne.symm h1)];exact h3
theorem Fr.set2{oc:Nat}{H:DH}{b:DB}:Fr p oc H (H.set oc b):=fun o c _ h1 h3=>by rw[List.getElem?_set_ne (Ne.symm h1)];exact h3
def skip(l:List Nat)(at':Nat):Prop:=cM (pk l at')=true\/(l.drop at').take 2=[40,42]
theorem Gg.mv{H:DH}{at' m oc:Nat}{c:List (List D)}(h:Gg H p l at' m oc c)(at2 st2:Nat):Gg (H.set p (.cells st2 (mc l at2 (.map m) (.buf 2 oc c.length)))) p l at2 m oc c:=by
 obtain⟨st,hp⟩:=h.hp
 have h1:p≠m:=fun e=>by subst e;rw[h.hm]at hp;cases hp
 have h2:p≠oc:=fun e=>by subst e;rw[h.hc]at hp;cases hp
 exact⟨⟨st2,be _ hp⟩,ae _ h1 h.hm,ae _ h2 h.hc⟩
theorem Ai(hl:l.length<=24){m oc:Nat}:∀(n at':Nat) (H:DH) (c:List (List D)),n=l.length - at'->at'<=l.length->c.length+(l.length - at')<=100->Gg H p l at' m oc c ->
 (∃ at2 c2 H2,ao de (ab de) 325 200000 [.g (.ptr p 0)] [] H=ret (.tuple []) H2/\Gg H2 p l at2 m oc c2/\at'<=at2/\at2<=l.length/\c2.length+(l.length - at2)<=100/\Fr p oc H H2/\(¬ skip l at'->at2=at')/\(at'<l.length->skip l at'->at'<at2)) \/
 (∃(a e:Int) (H2:DH),e≠0/\ao de (ab de) 325 200000 [.g (.ptr p 0)] [] H=pan (wr a e) H2/\Fr p oc H H2/\skip l at')
 |n,at',H,c,hn,ha,hcl,hS=>by
  obtain⟨st,hp⟩:=hS.hp
  have r1:=vZ RO (fun c H=>PT H c) hp (by omega) 0 (by omega)
  rw[Nat.add_zero]at r1
  have hr:=qd cM l at' ha
  rw[show ao de (ab de) 325 200000 [.g (.ptr p 0)] [] H=_ from bg (EU _ _ _) rfl]
  rw[show(.int .i64 0:D)=.int .i64 ((0:Nat):Int)from rfl,eX r1]
  simp only[GK hp,ac hp,am,ax,cg,wN (show at'+rn cM l at'<2^62 by omega),om,Kr]
  have hS1:=hS.mv (at'+rn cM l at') (st+1)
  have hF1:Fr p oc H (H.set p (.cells (st+1) (mc l (at'+rn cM l at') (.map m) (.buf 2 oc c.length)))):=.set
  generalize H.set p (.cells (st+1) (mc l (at'+rn cM l at') (.map m) (.buf 2 oc c.length)))=H1 at hS1 hF1 ⊢
  obtain⟨gi,hp1⟩:=hS1.hp
  have s1:=jU hp1 hr [40,42]
  rw[af s1]
  simp only[bp,au]
  have hno:¬ cM (pk l at')=true->rn cM l at'=0:=fun h=>by
   rcases Nat.lt_or_ge at' l.length with q|q
   ·rw[jn cM q,if_neg h]
   ·exact wd cM q
  have hyes:at'<l.length->cM (pk l at')=true->1<=rn cM l at':=fun h q=>by rw[jn cM h,if_pos q];omega
  cases h2:((l.drop (at'+rn cM l at')).take [40,42].length==[40,42])with
  |false =>
   rw[Bool.not_false,cond_true]
   refine .inl ⟨_,c,H1,rfl,hS1,by omega,hr,by omega,hF1,fun h=>?_,fun hlt h=>?_⟩
   ·rw[hno (fun q=>h (.inl q)),Nat.add_zero]
   ·rcases h with h|h
    ·have:=hyes hlt h;omega
    ·by_cases hq:cM (pk l at')=true
     ·have:=hyes hlt hq;omega
     ·rw[hno hq,Nat.add_zero]at h2
      rw[show [40,42].length=2 from rfl,h]at h2;cases h2
  |true =>
   have hsk:skip l at':=by
    by_cases hq:cM (pk l at')=true
    ·exact .inl hq
    ·rw[hno hq,Nat.add_zero]at h2;exact .inr (eq_of_beq h2)
   rw[Bool.not_true,cond_false]
   simp only[ac hp1,am,ax]
   rcases Vg hl hr hp1 with⟨at2,st2,k1,k2,k3⟩|⟨a,e,at2,st2,k1,k2⟩
   ·rw[af k3]
    have hS2:=hS1.mv at2 st2
    have hF2:Fr p oc H (H1.set p (.cells st2 (mc l at2 (.map m) (.buf 2 oc c.length)))):=hF1.trans .set
    generalize H1.set p (.cells st2 (mc l at2 (.map m) (.buf 2 oc c.length)))=H2 at hS2 hF2 ⊢
    obtain⟨st3,hp2⟩:=hS2.hp
    have hne:oc≠p:=fun e=>by subst e;rw[hS2.hc]at hp2;cases hp2
    have hnm:oc≠m:=fun e=>by have:=hS2.hm;rw[<- e,hS2.hc]at this;cases this
    simp only[ac hp2,am,ax,om,MX,MW,ce2]
    have hap:∀(κ:D->DH->ai) (e:List D),cC (aF Tryz.prog 393) 2 (.buf 2 oc c.length) [e] H2 κ=κ (.buf 2 oc (c.length+1)) (H2.set oc (.buf 2 true false (c++[e]))):=fun κ e=>by
     simp only[cC,List.length_singleton,Iz (show 1<=100000 by omega),boK,cond_true,Nat.beq_refl,cq hS2.hc,Iz (show c.length+1<=100000 by omega),Bool.false_and,Bool.not_false,Bool.and_true,grow,cond_false]
    rw[hap]
    have hp3:=ae (.buf 2 true false (c++[[.int .i64 ((at'+rn cM l at':Nat):Int),.int .i64 ((at2:Nat):Int)]])) hne hp2
    simp only[uS,ac hp3,TH]
    have hS3:Gg ((H2.set oc (.buf 2 true false (c++[[.int .i64 ((at'+rn cM l at':Nat):Int),.int .i64 ((at2:Nat):Int)]]))).set p (.cells (st3+1) [.str l,.int .i64 ((at2:Nat):Int),.map m,.buf 2 oc (c.length+1)])) p l at2 m oc (c++[[.int .i64 ((at'+rn cM l at':Nat):Int),.int .i64 ((at2:Nat):Int)]]) :=
     ⟨⟨st3+1,by rw[be _ hp3];simp⟩,ae _ (fun e=>by subst e;rw[hS2.hm]at hp2;cases hp2) (ae _ hnm hS2.hm),ae _ hne.symm (be _ hS2.hc)⟩
    have hF3:=(hF2.trans (Fr.set2 (p:=p) (oc:=oc) (b:=.buf 2 true false (c++[[.int .i64 ((at'+rn cM l at':Nat):Int),.int .i64 ((at2:Nat):Int)]])))).trans (Fr.set (p:=p) (oc:=oc) (b:=.cells (st3+1) [.str l,.int .i64 ((at2:Nat):Int),.map m,.buf 2 oc (c.length+1)]))
    rcases Ai hl (l.length - at2) at2 _ _ rfl k2 (by simp;omega) hS3 with⟨at4,c4,H4,j1,j2,j3,j4,j5,j6,_⟩|⟨a,e,H4,j1,j2,j3,_⟩
    ·exact .inl ⟨at4,c4,H4,j1,j2,by omega,j4,j5,hF3.trans j6,fun h=>(h hsk).elim,fun _ _=>by omega⟩
    ·exact .inr ⟨a,e,H4,j1,j2,hF3.trans j3,hsk⟩
   ·rw[yY k2]
    exact .inr ⟨a,e,_,k1,rfl,hF1.trans .set,hsk⟩
 termination_by n=>n
theorem IQ(hl:l.length<=24){m oc at':Nat}{H:DH}{c:List (List D)}(ha:at'<=l.length)(hc:c.length+(l.length - at')<=100)(hS:Gg H p l at' m oc c) :
 (∃ at2 c2 H2,ab de (.call 325 [.ptr p 0] none) H=ret (.tuple []) H2/\Gg H2 p l at2 m oc c2/\at'<=at2/\at2<=l.length/\c2.length+(l.length - at2)<=100/\Fr p oc H H2/\(¬ skip l at'->at2=at')/\(at'<l.length->skip l at'->at'<at2)) \/
 (∃(a e:Int) (H2:DH),e≠0/\ab de (.call 325 [.ptr p 0] none) H=pan (wr a e) H2/\Fr p oc H H2/\skip l at'):=by
 rw[show ab de (.call 325 [.ptr p 0] none) H=_ from ev (Zh _ _ _) rfl]
 exact Ai hl _ at' H c rfl ha hc hS
def Tb:List D:=uI.map .str
theorem Ww(cs:List D)(c:Nat)(κ:D->ai):cZ Tryz.prog 9 cs c κ=ah cs c κ:=by kernel_rfl
theorem WT{k:Nat}{w:List Nat}(h:uI[k]? = some w)(κ:D->ai):iW Tryz.prog 382 (.agg Tb) (.int .i64 (k:Nat)) κ=κ (.str w):=by
 have e:iW Tryz.prog 382 (.agg Tb) (.int .i64 (k:Nat)) κ=bif Nat.blt k 15 then cZ Tryz.prog 9 Tb (Nat.mul k 1) κ else none:=by kernel_rfl
 have hk:k<15:=(List.getElem?_eq_some_iff.1 h).1
 have hb:Nat.blt k 15=true:=by unfold Nat.blt;exact Nat.ble_eq_true_of_le hk
 rw[e,hb,cond_true,Ww,show Nat.mul k 1=k from Nat.mul_one k,ah,Tb,List.getElem?_map,h]
 rfl
theorem QA(m:Nat)(w:List Nat)(v:D)(H:DH)(κ:DH->ai):jY Tryz.prog 378 (.map m) (.str w) v H κ=qz H m fun es=>qx (.str w) v es fun es=>κ (H.set m (.map es)):=by kernel_rfl
theorem QB:∀ k,k<15->∃ w,uI[k]? = some w/\GY (.str w) (.int .i64 5) (Ia.take k)=some (Ia.take (k+1))
 |0,_=>⟨_,rfl,rfl⟩
 |1,_=>⟨_,rfl,rfl⟩
 |2,_=>⟨_,rfl,rfl⟩
 |3,_=>⟨_,rfl,rfl⟩
 |4,_=>⟨_,rfl,rfl⟩
 |5,_=>⟨_,rfl,rfl⟩
 |6,_=>⟨_,rfl,rfl⟩
 |7,_=>⟨_,rfl,rfl⟩
 |8,_=>⟨_,rfl,rfl⟩
 |9,_=>⟨_,rfl,rfl⟩
 |10,_=>⟨_,rfl,rfl⟩
 |11,_=>⟨_,rfl,rfl⟩
 |12,_=>⟨_,rfl,rfl⟩
 |13,_=>⟨_,rfl,rfl⟩
 |14,_=>⟨_,rfl,rfl⟩
 |n+15,h=>by omega
theorem Eo{p m oc:Nat}{l:List Nat}:∀(n k st:Nat) (H:DH),n=15 - k->k<=15->H[p]? = some (.cells st (mc l 0 (.map m) (.buf 2 oc 0)))->H[m]? = some (.map (Ia.take k)) ->
 ao de (ab de) 290 200003 [.g (.ptr p 0),.g (.agg Tb),.g (.int .i64 (k:Nat))] [] H=ret (.ptr p 0) (H.set m (.map Ia))
 |n,k,st,H,hn,hk,hp,hm=>by
  refine bg (by unfold Tb uI;exact EW _ _ _ _ _ _ _ _ _ _ _ _ _ _ _ _ _ _ _) ?_
  rw[show(15:Int)=((15:Nat):Int)from rfl,oj]
  by_cases hc:k<15
  ·rw[decide_eq_true hc,cond_true]
   obtain⟨w,h1,h2⟩:=QB k hc
   have e:=WT h1
   unfold Tb uI at e
   simp only[List.map_cons,List.map_nil]at e
   have hne:m≠p:=fun e=>by subst e;rw[hm]at hp;cases hp
   have ih:=Eo (n - 1) (k+1) st (H.set m (.map (Ia.take (k+1)))) (by omega) hc (ae _ hne hp) (be _ hm)
   rw[List.set_set]at ih
   simp only[e,ac hp,am,ax,QA,nL hm,qx,h2,show(1:Int)=((1:Nat):Int)from rfl,wN (show k+1<2^62 by omega)]
   exact ih
  ·rw[decide_eq_false hc,cond_false]
   have:k=15:=by omega
   subst this
   rw[show Ia.take 15=Ia from rfl]at hm
   rw[Gv hm]
 termination_by n=>n
theorem TP(l:List Nat)(H:DH):∃ H',ab de (.call 290 [.str l] none) H=ret (.ptr (H.length+2) 0) H'/\Gg H' (H.length+2) l 0 H.length (H.length+1) []/\∀(o:Nat) b,H[o]? = some b->H'[o]? = some b:=by
 have e:ab de (.call 290 [.str l] none) H=_:=ev (ZA _ _ _) rfl
 have hl1:(H++[DB.map []]).length=H.length+1:=by simp
 have hl2:(H++[DB.map []]++[DB.buf 2 true false []]).length=H.length+2:=by simp
 simp only[hl1,hl2]at e
 have hp:((H++[DB.map []]++[DB.buf 2 true false []])++[DB.cells 0 (mc l 0 (.map H.length) (.buf 2 (H.length+1) 0))])[H.length+2]? = some (.cells 0 (mc l 0 (.map H.length) (.buf 2 (H.length+1) 0))):=by rw[<- hl2];exact aY _ _
 have hm:((H++[DB.map []]++[DB.buf 2 true false []])++[DB.cells 0 (mc l 0 (.map H.length) (.buf 2 (H.length+1) 0))])[H.length]? = some (.map (Ia.take 0)):=aj _ (aj _ (aY _ _))
 have hc:((H++[DB.map []]++[DB.buf 2 true false []])++[DB.cells 0 (mc l 0 (.map H.length) (.buf 2 (H.length+1) 0))])[H.length+1]? = some (.buf 2 true false []):=aj _ (by rw[<- hl1];exact aY _ _)
 have h:=Eo 15 0 0 _ rfl (by omega) hp hm
 refine⟨_,e.trans h,⟨⟨0,ae _ (by omega) hp⟩,be _ hm,ae _ (by omega) hc⟩,fun o b hb=>?_⟩
 have hlt:o<H.length:=by
  rcases Nat.lt_or_ge o H.length with q|q
  ·exact q
  ·rw[List.getElem?_eq_none q]at hb;cases hb
 exact ae _ (by omega) (aj _ (aj _ (aj _ hb)))
def QI:List Nat:=[0,2,3,4,6,7,8,9,10]
def QH(l:List Nat)(p A B bx:Nat):List LD:=[.g (.str l),.g (.ptr p 0),.g (.ptr A 0),.g (.ptr B 0),.g (.str l),.g (.ptr p 0),.g (.func 291 [] [.ptr A 0,.ptr B 0]),.g (.ptr p 0),.g (.func 324 [] [.ptr bx 0])]
def Jg(l:List Nat)(p A B bx:Nat):DB:=Ua de 233 QI (QH l p A B bx)
def TZ(l:List Nat)(p A B bx:Nat):DB:=match Jg l p A B bx with
 |.loop _ f nt t ps a b=>.loop false f nt t ps a b
 |b=>b
variable{H:DH}{l:List Nat}{K p A B bx y:Nat}
theorem Vm{κ:DH->ai}(h:H[y]? = some (Jg l p A B bx)):Lo H y κ=κ (H.set y (TZ l p A B bx)):=by
 rw[Lo,h];kernel_rfl
theorem Ow(h:H[y]? = some (TZ l p A B bx)):wc H y=ret (.bool true) (H.set y (Jg l p A B bx)):=by
 rw[wc,h];kernel_rfl
theorem QJ{κ:DH->ai}(h:H[y]? = some (Jg l p A B bx)):Aw H y κ=κ (H.set y .opq):=by
 rw[Aw,h];kernel_rfl
theorem Tt{d:D}(h:H[y]? = some (Jg l p A B bx)):ab de (.call 0 [d] (some (.round y))) H=Yo de (ab de) 233 y QI (QH l p A B bx) [d] H:=by
 rw[Hz]
 show rP de (LG (ab de)) y [d] H=_
 rw[rP,h]
 kernel_rfl
theorem Cm(b:DB)(h:(match b with|.loop ..=>false|_=>true)=true):Jg l p A B bx≠b:=by
 have:(match Jg l p A B bx with|.loop ..=>false|_=>true)=false:=by kernel_rfl
 intro e;rw[e,h]at this;cases this
structure TA(K:Nat)(H:DH)(l:List Nat)(p A B bx y:Nat)(toks:List (List D)):Prop where
 hA:∃ st v,H[A]? = some (.cells st [v])/\((toks=[]/\v=.nilrow)\/(toks≠[]/\∃ X,v=.buf 4 X toks.length/\H[X]? = some (.buf 4 true false toks)/\K<=X))
 hB:∃ st,H[B]? = some (.cells st [.int .i64 0,.int .i64 0])
 hb:∃ st,H[bx]? = some (.cells st [.ptr p 0])
 hy:H[y+1]? = some (Jg l p A B bx)
 hk:H[y]? = some .coll
 nA:A≠p
 nB:B≠p
 nb:bx≠p
 AB:A≠B
 Ab:A≠bx
 kA:K<=A
 ky:K<=y
def Kp(K:Nat)(H H2:DH):Prop:=∀(o:Nat) b,o<K->H[o]? = some b->H2[o]? = some b
theorem Kp.trans{K:Nat}{a b c:DH}(h:Kp K a b)(k:Kp K b c):Kp K a c:=fun o x h1 h2=>k o x h1 (h o x h1 h2)
theorem Kp.of{K p oc:Nat}{H H2:DH}(h:Fr p oc H H2)(h1:K<=p)(h2:K<=oc):Kp K H H2:=fun o b h3 h4=>h o b (by omega) (by omega) h4
theorem TA.fr{H2:DH}{oc:Nat}{c:List (List D)}{toks:List (List D)}(h:TA K H l p A B bx y toks)(hoc:H[oc]? = some (.buf 2 true false c))(k:Fr p oc H H2)(hp:∃ st cs,H[p]? = some (.cells st cs)):TA K H2 l p A B bx y toks:=by
 obtain⟨stp,csp,hp⟩:=hp
 have kc:∀ {o:Nat} {b:DB},o≠p->H[o]? = some b->(∀ sz q r l,b≠.buf sz q r l\/sz≠2)->H2[o]? = some b:=fun {o b} h1 h2 h3=>k o b h1 (fun e=>by
  subst e;rw[hoc]at h2;rcases h3 2 true false c with q|q
  ·exact q (Option.some.inj h2).symm
  ·exact q rfl) h2
 obtain⟨sA,v,hA,hA2⟩:=h.hA
 obtain⟨sB,hB⟩:=h.hB
 obtain⟨sb,hb⟩:=h.hb
 have ny:y+1≠p:=fun e=>by have:=h.hy;rw[e,hp]at this;exact Cm (.cells stp csp) rfl (Option.some.inj this).symm
 have nk:y≠p:=fun e=>by have:=h.hk;rw[e,hp]at this;cases this
 refine⟨⟨sA,v,kc h.nA hA (fun _ _ _ _=>.inl (fun q=>by cases q)),?_⟩,⟨sB,kc h.nB hB (fun _ _ _ _=>.inl (fun q=>by cases q))⟩,⟨sb,kc h.nb hb (fun _ _ _ _=>.inl (fun q=>by cases q))⟩,kc ny h.hy (fun _ _ _ _=>.inl (Cm _ rfl)),kc nk h.hk (fun _ _ _ _=>.inl (fun q=>by cases q)),h.nA,h.nB,h.nb,h.AB,h.Ab,h.kA,h.ky⟩
 rcases hA2 with hA2|⟨q1,X,q2,q3,q4⟩
 ·exact .inl hA2
 ·refine .inr ⟨q1,X,q2,kc (fun e=>by subst e;rw[hp]at q3;cases q3) q3 (fun sz q r l=>?_),q4⟩
  by_cases e:sz=2
  ·exact .inl (fun q=>by cases q;cases e)
  ·exact .inr e
theorem My{m oc at':Nat}{c toks:List (List D)}(hS:Gg H p l at' m oc c)(hT:TA K H l p A B bx y toks)(hn:toks.length<=1000)(k v:Int)(t:List Nat)(a:Nat) :
 ∃ H2,ab de (.call 0 [tk k v t a] (some (.round (y+1)))) H=ret (.bool true) H2/\Gg H2 p l at' m oc c/\TA K H2 l p A B bx y (toks++[[.int .i64 k,.int .i64 v,.str t,.int .i64 (a:Nat)]])/\Kp K H H2:=by
 obtain⟨stp,hp⟩:=hS.hp
 obtain⟨sA,w,hA,hA2⟩:=hT.hA
 obtain⟨sB,hB⟩:=hT.hB
 obtain⟨sb,hb⟩:=hT.hb
 have e:ab de (.call 0 [tk k v t a] (some (.round (y+1)))) H=_:=(Tt hT.hy).trans ((show Yo de (ab de) 233 (y+1) QI (QH l p A B bx) [tk k v t a] H=Tu de (ab de) 200 233 (y+1) QI (QH l p A B bx) [tk k v t a] H by rw[Tu,CP]).trans (Oo _ _ _ _ _ _ _ _ _ _ _ _ _ _ _ _))
 have hlt:∀ {o:Nat} {b:DB},H[o]? = some b->o<H.length:=fun {o b} h=>by
  rcases Nat.lt_or_ge o H.length with q|q
  ·exact q
  ·rw[List.getElem?_eq_none q]at h;cases h
 have hN:=aY H (.cells 0 [.int .i64 0,.int .i64 0,.str [],.int .i64 0])
 have g1:∀ {o:Nat} {b:DB},H[o]? = some b->((H++[DB.cells 0 [.int .i64 0,.int .i64 0,.str [],.int .i64 0]]).set H.length (.cells (0+1) [.int .i64 k,.int .i64 v,.str t,.int .i64 (a:Nat)]))[o]? = some b:=fun {o b} h=>ae _ (by have:=hlt h;omega) (aj _ h)
 have gN:=be (.cells (0+1) [.int .i64 k,.int .i64 v,.str t,.int .i64 (a:Nat)]) hN
 simp only[ac hN,Vz]at e
 generalize(H++[DB.cells 0 [.int .i64 0,.int .i64 0,.str [],.int .i64 0]]).set H.length (.cells (0+1) [.int .i64 k,.int .i64 v,.str t,.int .i64 (a:Nat)])=H1 at e g1 gN
 rw[Vm (g1 hT.hy)]at e
 have ny:∀ {o:Nat} {b:DB},H[o]? = some b->(match b with|.loop ..=>false|_=>true)=true->y+1≠o:=fun {o b} h1 h2 q=>by
  subst q;have:=hT.hy;rw[h1]at this;exact Cm b h2 (Option.some.inj this).symm
 have g2:∀ {o:Nat} {b:DB},H[o]? = some b->y+1≠o->(H1.set (y+1) (TZ l p A B bx))[o]? = some b:=fun h q=>ae _ q (g1 h)
 have gN2:(H1.set (y+1) (TZ l p A B bx))[H.length]? = _:=ae _ (by have:=hlt hT.hy;omega) gN
 have gy2:(H1.set (y+1) (TZ l p A B bx))[y+1]? = _:=be (TZ l p A B bx) (g1 hT.hy)
 generalize H1.set (y+1) (TZ l p A B bx)=H2 at e g2 gN2 gy2
 have hA':=g2 hA (ny hA rfl)
 simp only[ac hA',ac gN2,am,ax]at e
 have Ay:A≠y+1:=(ny hA rfl).symm
 have nil (toksE:toks=[]) (wE:w=.nilrow):∃ H2,ab de (.call 0 [tk k v t a] (some (.round (y+1)))) H=ret (.bool true) H2/\Gg H2 p l at' m oc c/\TA K H2 l p A B bx y (toks++[[.int .i64 k,.int .i64 v,.str t,.int .i64 (a:Nat)]])/\Kp K H H2:=by
  subst toksE wE
  have hap:∀(κ:D->DH->ai) (e:List D),cC (aF Tryz.prog 209) 4 .nilrow [e] H2 κ=κ (.buf 4 H2.length 1) (H2++[.buf 4 true false [e]]):=fun κ e=>by
   simp only[cC,List.length_singleton,BS (show 1<=100000 by omega),boK,cond_true];rfl
  rw[hap]at e
  have hA3:=aj (.buf 4 true false [[.int .i64 k,.int .i64 v,.str t,.int .i64 (a:Nat)]]) hA'
  simp only[uS,ac hA3]at e
  rw[show ∀ κ:List D->ai,aw [D.nilrow] 0 [.buf 4 H2.length 1] κ=κ [.buf 4 H2.length 1] from fun _=>rfl]at e
  rw[Ow (ae _ Ay (aj _ gy2))]at e
  have hlt2:∀ {o:Nat} {b:DB},H2[o]? = some b->o<H2.length:=fun {o b} h=>by
   rcases Nat.lt_or_ge o H2.length with q|q
   ·exact q
   ·rw[List.getElem?_eq_none q]at h;cases h
  have g3:∀ {o:Nat} {b:DB},H[o]? = some b->y+1≠o->A≠o->(((H2++[DB.buf 4 true false [[.int .i64 k,.int .i64 v,.str t,.int .i64 (a:Nat)]]]).set A (.cells (sA+1) [.buf 4 H2.length 1])).set (y+1) (Jg l p A B bx))[o]? = some b:=fun h q1 q2=>ae _ q1 (ae _ q2 (aj _ (g2 h q1)))
  refine⟨_,e,⟨⟨stp,g3 hp (ny hp rfl) hT.nA⟩,g3 hS.hm (ny hS.hm rfl) (fun q=>by have:=hS.hm;rw[<- q,hA]at this;cases this),g3 hS.hc (ny hS.hc rfl) (fun q=>by have:=hS.hc;rw[<- q,hA]at this;cases this)⟩,
   ⟨⟨sA+1,_,ae _ Ay.symm (be _ hA3),.inr ⟨by simp,H2.length,rfl,ae _ (by have:=hlt2 gy2;omega) (ae _ (by have:=hlt2 hA';omega) (aY _ _)),by have:=hlt2 hA';have:=hT.kA;omega⟩⟩,⟨sB,g3 hB (ny hB rfl) hT.AB⟩,⟨sb,g3 hb (ny hb rfl) hT.Ab⟩,be _ (ae _ Ay (aj _ gy2)),g3 hT.hk (by omega) (fun q=>by have:=hT.hk;rw[<- q,hA]at this;cases this),hT.nA,hT.nB,hT.nb,hT.AB,hT.Ab,hT.kA,hT.ky⟩,fun o b ho hb=>g3 hb (by have:=hT.ky;omega) (by have:=hT.kA;omega)⟩
 rcases hA2 with⟨q1,q2⟩|⟨q1,X,rfl,q3,q4⟩
 ·exact nil q1 q2
 ·have hX:=g2 q3 (ny q3 rfl)
  have XA:X≠A:=fun q=>by rw[q,hA]at q3;cases q3
  have Xy:X≠y+1:=(ny q3 rfl).symm
  have hap:∀(κ:D->DH->ai) (e:List D),cC (aF Tryz.prog 209) 4 (.buf 4 X toks.length) [e] H2 κ=κ (.buf 4 X (toks.length+1)) (H2.set X (.buf 4 true false (toks++[e]))):=fun κ e=>by
   simp only[cC,List.length_singleton,BS (show 1<=100000 by omega),boK,cond_true,Nat.beq_refl,cq hX,BS (show toks.length+1<=100000 by omega),Bool.false_and,Bool.not_false,Bool.and_true,grow,cond_false]
  rw[hap]at e
  have hA3:=ae (.buf 4 true false (toks++[[.int .i64 k,.int .i64 v,.str t,.int .i64 (a:Nat)]])) XA hA'
  simp only[uS,ac hA3]at e
  rw[show ∀(z:D) (κ:List D->ai),aw [z] 0 [.buf 4 X (toks.length+1)] κ=κ [.buf 4 X (toks.length+1)] from fun _ _=>rfl]at e
  rw[Ow (ae _ Ay (ae _ Xy gy2))]at e
  have g3:∀ {o:Nat} {b:DB},H[o]? = some b->y+1≠o->A≠o->X≠o->(((H2.set X (.buf 4 true false (toks++[[.int .i64 k,.int .i64 v,.str t,.int .i64 (a:Nat)]]))).set A (.cells (sA+1) [.buf 4 X (toks.length+1)])).set (y+1) (Jg l p A B bx))[o]? = some b:=fun h q1 q2 q3=>ae _ q1 (ae _ q2 (ae _ q3 (g2 h q1)))
  have Xn:∀ {o:Nat} {b:DB},H[o]? = some b->b≠.buf 4 true false toks->X≠o:=fun h1 h2 q=>by subst q;rw[q3]at h1;exact h2 (Option.some.inj h1).symm
  refine⟨_,e,⟨⟨stp,g3 hp (ny hp rfl) hT.nA (Xn hp (fun q=>by cases q))⟩,g3 hS.hm (ny hS.hm rfl) (fun q=>by have:=hS.hm;rw[<- q,hA]at this;cases this) (Xn hS.hm (fun q=>by cases q)),g3 hS.hc (ny hS.hc rfl) (fun q=>by have:=hS.hc;rw[<- q,hA]at this;cases this) (Xn hS.hc (fun q=>by cases q))⟩,
   ⟨⟨sA+1,_,ae _ Ay.symm (be _ hA3),.inr ⟨by simp,X,by simp,ae _ Xy.symm (ae _ XA.symm (be _ hX)),q4⟩⟩,⟨sB,g3 hB (ny hB rfl) hT.AB (Xn hB (fun q=>by cases q))⟩,⟨sb,g3 hb (ny hb rfl) hT.Ab (Xn hb (fun q=>by cases q))⟩,be _ (ae _ Ay (ae _ Xy gy2)),g3 hT.hk (by omega) (fun q=>by have:=hT.hk;rw[<- q,hA]at this;cases this) (Xn hT.hk (fun q=>by cases q)),hT.nA,hT.nB,hT.nb,hT.AB,hT.Ab,hT.kA,hT.ky⟩,fun o b ho hb=>g3 hb (by have:=hT.ky;omega) (by have:=hT.kA;omega) (by omega)⟩
end Go.Proofs.YtpghiabjaglpgaaGreatDoor
