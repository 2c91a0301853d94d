/- From the row to deep values: part 5. No conditions beyond those of the row. -/
import Derived.Test.YtpghiabjaglpgaaGreatDoorP7
import Derived.Test.YtpghiabjaglpgaaGreatDoorE4
import Derived.Test.YtpghiabjaglpgaaGreatDoorS10
import Derived.Test.YtpghiabjaglpgaaGreatDoorE1
set_option linter.all false
noncomputable section
namespace Go.Proofs.YtpghiabjaglpgaaGreatDoor
open Go.AI
theorem nb{f n:Nat}(h:Nat.beq f n=true):f=n:=Nat.eq_of_beq_eq_true h
theorem Yz:rD cA:=⟨fun f args s v s' h=>by
 change sH f args s=some (v,s')at h
 unfold sH at h
 cases h1:Nat.beq f 351 with
 |true=>rw[h1]at h;have:=nb h1;subst this;exact Cu h
 |false =>
  rw[h1,cond_false]at h
  cases h2:Nat.beq f 355 with
  |true=>rw[h2]at h;have:=nb h2;subst this;exact Cf h
  |false =>
   rw[h2,cond_false]at h
   cases h3:Nat.beq f 9 with
   |false=>rw[h3]at h;cases h
   |true =>
    rw[h3,cond_true]at h;have:=nb h3;subst this
    cases args with
    |cons a r=>cases h
    |nil=>cases h;exact Gx s⟩
theorem kK{s s':S}{g:Nat}(h:s'.get g=s.get g):ft s' g=ft s g:=by unfold ft;rw[h]
theorem Rb(s s':S)(h:∀ f∈[0,1,2,5],s'.get f=s.get f)(k:sV s):sV s':=by
 obtain⟨⟨c1,h1,k1⟩,⟨c2,h2,k2⟩,⟨c3,h3,k3⟩,h4⟩:=k
 exact⟨⟨c1,(kK (h 0 (by simp))).trans h1,k1⟩,⟨c2,(kK (h 1 (by simp))).trans h2,k2⟩,⟨c3,(kK (h 2 (by simp))).trans h3,k3⟩,(kK (h 5 (by simp))).trans h4⟩
instance aaV:fc:=⟨sV,[0,1,2,5],Rb⟩
theorem Cp{f:FuncId}{vs:List V}{s:S}{v:V}(h:sH f vs s=some (v,s)):lim cA (.call f vs none) s=some ⟨.returned v,none,s⟩:=by
 rw[NC]
 have ho:cA.orc f vs s=some (v,s):=h
 simp only[eB,ho,yB]
theorem rV{g:Gh}(hok:Ok g){d:D}{v:V}(h:RD g d v):iJ g.s.next g.Pv g ⟨.ret d,none,g.H⟩ ⟨.returned v,none,g.s⟩ :=
 ⟨g,rfl,rfl,rfl,hok,.refl _ _,⟨v,rfl,h⟩,rfl⟩
theorem Yx:Ps de:=by
 refine⟨fun f h vs s=>?_,fun f args H d H' e g hH hok vs hr=>?_⟩
 ·change dvo f=false at h
  unfold dvo at h
  simp only[Bool.or_eq_false_iff]at h
  show sH f vs s=none
  unfold sH
  rw[h.1,h.2.1,h.2.2];rfl
 ·change Va f args H=some (d,H')at e
  subst hH
  unfold Va at e
  cases h1:Nat.beq f 351 with
  |true =>
   rw[h1,cond_true]at e;have:=nb h1;subst this
   split at e
   ·rename_i l c
    cases hb:Nat.blt c 256&&Nat.ble l.length 1000 with
    |false=>rw[hb]at e;cases e
    |true =>
     rw[hb]at e;cases e
     simp only[Go.AI.RL,RD]at hr
     obtain⟨_,_,rfl,⟨rfl,hl⟩,_,_,rfl,rfl,rfl⟩:=hr
     simp only[Bool.and_eq_true]at hb
     refine⟨_,Cp (v:=.int .i64 (uN l c 0)) ?_,rV hok (by simp only[RD])⟩
     show wY [V.str l,V.int IntKind.u8 (Int.ofNat c)] g.s=_
     have:(Nat.blt c 256&&l.all fun x=>Nat.blt x 256)=true:=by
      simp only[Bool.and_eq_true,List.all_eq_true]
      exact⟨hb.1,fun x hx=>Nat.ble_eq_true_of_le (hl x hx)⟩
     simp only[wY,this,cond_true]
   ·cases e
  |false =>
   rw[h1,cond_false]at e
   cases h2:Nat.beq f 355 with
   |true =>
    rw[h2,cond_true]at e;have:=nb h2;subst this
    split at e
    ·rename_i l
     cases hb:Nat.ble l.length 1000 with
     |false=>rw[hb]at e;cases e
     |true =>
      rw[hb]at e;cases e
      simp only[Go.AI.RL,RD]at hr
      obtain⟨_,_,rfl,⟨rfl,hl⟩,rfl⟩:=hr
      refine⟨_,Cp (v:=.tuple [.int .i64 (pj (ay l)).1,.int .i64 (pj (ay l)).2]) ?_,rV hok ?_⟩
      ·show ww [V.str l] g.s=_
       simp only[ww]
       rw[if_pos ⟨hok.gl.i,Nat.le_of_ble_eq_true hb⟩]
      ·simp only[RD,Go.AI.RL]
       exact⟨_,rfl,_,_,rfl,rfl,_,_,rfl,rfl,rfl⟩
    ·cases e
   |false =>
    rw[h2,cond_false]at e
    cases h3:Nat.beq f 9 with
    |false=>rw[h3]at e;cases e
    |true =>
     rw[h3,cond_true]at e;have:=nb h3;subst this
     split at e
     ·cases e
      simp only[Go.AI.RL]at hr
      subst hr
      exact⟨_,Cp (v:=.bool true) rfl,rV hok (by simp only[RD])⟩
     ·cases e
theorem QR{f:FuncId}{args:List D}{X:DH}(h:ab de (.call f args none) []=ret (.bool true) X){g:Gh}(hg:g.H=[])(hok:Ok g){vs:List V}(hr:Go.AI.RL g args vs) :
 ∃ s',lim cA (.call f vs none) g.s=some ⟨.returned (.bool true),none,s'⟩:=by
 obtain⟨vout,h1,g',_,h2,_,_,_,⟨v,h3,h4⟩,h5⟩:=(Hy Yx).call.c f args none [] _ h g hg hok vs none hr rfl
 obtain⟨e,up,s⟩:=vout
 simp only[RD]at h3 h4 h5
 cases h4
 simp only[LA]at h5
 cases h5
 cases h3
 exact⟨s,h1⟩
end Go.Proofs.YtpghiabjaglpgaaGreatDoor
namespace Go.Proofs.YtpghiabjaglpgaaGreatDoor.Rd
open Go.AI Go.Proofs.YtpghiabjaglpgaaGreatDoor
theorem fw{d:D}(h:Dq .str d):∃ l,d=.str l:=by cases h;exact⟨_,rfl⟩
theorem iR{d:D}(h:Dq .int d):∃ n,d=.int .i64 n:=by cases h;exact⟨_,rfl⟩
theorem vU{t:Nat}{d:D}(h:Dq (.sl t) d):∃ l,d=.row (wQ t).length l/\l.length<2^50/\∀ cs∈l,Gc (wQ t) cs:=by
 cases h with
 |row t ly l h0 h1 h2 h3=>subst h0;exact⟨l,rfl,h1,fun cs h=>⟨h2 cs h,h3 cs h⟩⟩
theorem jG{ds:List D}(h:Gc [] ds):ds=[]:=List.length_eq_zero_iff.1 h.1
theorem aL{k:Ck}{ks:List Ck}{ds:List D}(h:Gc (k::ks) ds):∃ d r,ds=d::r/\Dq k d/\Gc ks r:=by
 cases ds with
 |nil=>have:=h.1;simp at this
 |cons d r=>exact⟨d,r,rfl,h.2 0 k d rfl rfl,by have:=h.1;simpa using this,fun i k d h1 h2=>h.2 (i+1) k d (by simpa using h1) (by simpa using h2)⟩
theorem pick{α:Type}{f:α->List D}{p:α->Prop}:∀ {l:List (List D)},(∀ cs∈l,∃ x,cs=f x/\p x)->∃ xs:List α,l=xs.map f/\∀ x∈xs,p x
 |[],_=>⟨[],rfl,fun _ h=>by cases h⟩
 |cs::r,h=>by
  obtain⟨x,h1,h2⟩:=h cs List.mem_cons_self
  obtain⟨xs,h3,h4⟩:=pick fun c hc=>h c (List.mem_cons_of_mem _ hc)
  exact⟨x::xs,by rw[h1,h3];rfl,fun y hy=>(List.mem_cons.1 hy).elim (fun e=>e▸h2) (h4 y)⟩
theorem WG:wQ 142=[.str,.sl 142]:=by kernel_rfl
theorem WI:wQ 84=[.int,.str,.sl 84]:=by kernel_rfl
theorem WL:wQ 83=[.int,.int,.str,.str,.sl 83,.sl 84]:=by kernel_rfl
theorem WK:wQ 145=[.str,.str,.int,.int,.str,.str,.sl 83,.sl 84]:=by kernel_rfl
theorem WH:wQ 91=[.str]:=by kernel_rfl
theorem WJ:wQ 25=[.int]:=by kernel_rfl
theorem WN:wQ 139=[.str,.sl 142]:=by kernel_rfl
theorem WM:wQ 22=[.int,.str,.sl 91,.sl 139,.str,.str,.sl 142,.sl 145,.int,.int,.str,.str,.sl 83,.sl 84]:=by kernel_rfl
theorem Sz{k:Ck}{d:D}(h:Dq k d):k=.sl 142->∃ xs,d=.row 2 (bJ xs)/\xs.length<2^62/\Ty.oks xs:=by
 induction h with
 |row t ly l hly hl hn he ih =>
  intro e
  cases e
  rw[WG]at hly
  subst hly
  obtain⟨xs,rfl,hx⟩:=pick (f:=cN) (p:=Ty.ok) (l:=l) fun cs hc=>by
   obtain⟨a,r,rfl,h1,h⟩:=aL (⟨hn cs hc,he cs hc⟩:Gc [.str,.sl 142] cs)
   obtain⟨b,r,rfl,h2,h⟩:=aL h
   cases jG h
   obtain⟨n,rfl⟩:=fw h1
   obtain⟨xs,rfl,h3⟩:=ih _ hc 1 _ b rfl rfl rfl
   exact⟨.mk n xs,rfl,by rw[Ty.ok];exact h3⟩
  refine⟨xs,by rw[gJ];rfl,?_,Ty.oks_iff.2 hx⟩
  rw[List.length_map]at hl;omega
 |_=>intro e;cases e
theorem Nc{k:Ck}{d:D}(h:Dq k d):k=.sl 84->∃ xs,d=.row 3 (bM xs)/\xs.length<2^62/\Pa.oks xs:=by
 induction h with
 |row t ly l hly hl hn he ih =>
  intro e
  cases e
  rw[WI]at hly
  subst hly
  obtain⟨xs,rfl,hx⟩:=pick (f:=dD) (p:=Pa.ok) (l:=l) fun cs hc=>by
   obtain⟨a,r,rfl,h1,h⟩:=aL (⟨hn cs hc,he cs hc⟩:Gc [.int,.str,.sl 84] cs)
   obtain⟨b,r,rfl,h2,h⟩:=aL h
   obtain⟨c,r,rfl,h3,h⟩:=aL h
   cases jG h
   obtain⟨m,rfl⟩:=iR h1
   obtain⟨n,rfl⟩:=fw h2
   obtain⟨xs,rfl,h4⟩:=ih _ hc 2 _ c rfl rfl rfl
   exact⟨.mk m n xs,rfl,by rw[Pa.ok];exact h4⟩
  refine⟨xs,by rw[jX];rfl,?_,Pa.oks_iff.2 hx⟩
  rw[List.length_map]at hl;omega
 |_=>intro e;cases e
theorem SA{k:Ck}{d:D}(h:Dq k d):k=.sl 83->∃ xs,d=.row 6 (bI xs)/\xs.length<2^62/\Ex.oks xs:=by
 induction h with
 |row t ly l hly hl hn he ih =>
  intro e
  cases e
  rw[WL]at hly
  subst hly
  obtain⟨xs,rfl,hx⟩:=pick (f:=bU) (p:=Ex.ok) (l:=l) fun cs hc=>by
   obtain⟨a,r,rfl,h1,h⟩:=aL (⟨hn cs hc,he cs hc⟩:Gc [.int,.int,.str,.str,.sl 83,.sl 84] cs)
   obtain⟨b,r,rfl,h2,h⟩:=aL h
   obtain⟨c,r,rfl,h3,h⟩:=aL h
   obtain⟨d,r,rfl,h4,h⟩:=aL h
   obtain⟨e,r,rfl,h5,h⟩:=aL h
   obtain⟨f,r,rfl,h6,h⟩:=aL h
   cases jG h
   obtain⟨k,rfl⟩:=iR h1
   obtain⟨m,rfl⟩:=iR h2
   obtain⟨n,rfl⟩:=fw h3
   obtain⟨a,rfl⟩:=fw h4
   obtain⟨xs,rfl,g1,g2⟩:=ih _ hc 4 _ e rfl rfl rfl
   obtain⟨ps,rfl,g3,g4⟩:=Nc h6 rfl
   exact⟨.mk k m n a xs ps,rfl,by rw[Ex.ok];exact⟨g1,g2,g3,g4⟩⟩
  refine⟨xs,by rw[kj];rfl,?_,Ex.oks_iff.2 hx⟩
  rw[List.length_map]at hl;omega
 |_=>intro e;cases e
theorem Wk{d:D}(h:Dq (.sl 91) d):∃ xs:List (List Nat),d=.row 1 (xs.map kO)/\xs.length<2^62:=by
 obtain⟨l,rfl,hl,he⟩:=vU h
 rw[WH]at he ⊢
 obtain⟨xs,rfl,_⟩:=pick (f:=kO) (p:=fun _=>True) (l:=l) fun cs hc=>by
  obtain⟨a,r,rfl,h1,h⟩:=aL (he cs hc)
  cases jG h
  obtain⟨n,rfl⟩:=fw h1
  exact⟨n,rfl,trivial⟩
 exact⟨xs,rfl,by rw[List.length_map]at hl;omega⟩
theorem Wl{d:D}(h:Dq (.sl 25) d):∃ xs:List Int,d=.row 1 (iC xs)/\xs.length<2^50:=by
 obtain⟨l,rfl,hl,he⟩:=vU h
 rw[WJ]at he ⊢
 obtain⟨xs,rfl,_⟩:=pick (f:=fun n:Int=>[D.int .i64 n]) (p:=fun _=>True) (l:=l) fun cs hc=>by
  obtain⟨a,r,rfl,h1,h⟩:=aL (he cs hc)
  cases jG h
  obtain⟨n,rfl⟩:=iR h1
  exact⟨n,rfl,trivial⟩
 exact⟨xs,rfl,by rw[List.length_map]at hl;omega⟩
theorem Wo{d:D}(h:Dq (.sl 139) d):∃ xs:List Co,d=.row 2 (xs.map gI)/\xs.length<2^62/\∀ c∈xs,c.ok:=by
 obtain⟨l,rfl,hl,he⟩:=vU h
 rw[WN]at he ⊢
 obtain⟨xs,rfl,hx⟩:=pick (f:=gI) (p:=Co.ok) (l:=l) fun cs hc=>by
  obtain⟨a,r,rfl,h1,h⟩:=aL (he cs hc)
  obtain⟨b,r,rfl,h2,h⟩:=aL h
  cases jG h
  obtain⟨n,rfl⟩:=fw h1
  obtain⟨ts,rfl,g⟩:=Sz h2 rfl
  exact⟨⟨n,ts⟩,rfl,g⟩
 exact⟨xs,rfl,by rw[List.length_map]at hl;omega,hx⟩
theorem Wm{d:D}(h:Dq (.sl 145) d):∃ xs:List Fu,d=.row 8 (xs.map ir)/\xs.length<2^62/\∀ f∈xs,f.b.ok:=by
 obtain⟨l,rfl,hl,he⟩:=vU h
 rw[WK]at he ⊢
 obtain⟨xs,rfl,hx⟩:=pick (f:=ir) (p:=fun f=>f.b.ok) (l:=l) fun cs hc=>by
  obtain⟨a,r,rfl,h1,h⟩:=aL (he cs hc)
  obtain⟨b,r,rfl,h2,h⟩:=aL h
  obtain⟨c,r,rfl,h3,h⟩:=aL h
  obtain⟨d,r,rfl,h4,h⟩:=aL h
  obtain⟨e,r,rfl,h5,h⟩:=aL h
  obtain⟨f,r,rfl,h6,h⟩:=aL h
  obtain⟨g,r,rfl,h7,h⟩:=aL h
  obtain⟨i,r,rfl,h8,h⟩:=aL h
  cases jG h
  obtain⟨n,rfl⟩:=fw h1
  obtain⟨a,rfl⟩:=fw h2
  obtain⟨k,rfl⟩:=iR h3
  obtain⟨m,rfl⟩:=iR h4
  obtain⟨en,rfl⟩:=fw h5
  obtain⟨ea,rfl⟩:=fw h6
  obtain⟨xs,rfl,g1,g2⟩:=SA h7 rfl
  obtain⟨ps,rfl,g3,g4⟩:=Nc h8 rfl
  exact⟨⟨n,a,.mk k m en ea xs ps⟩,rfl,by rw[Ex.ok];exact⟨g1,g2,g3,g4⟩⟩
 exact⟨xs,rfl,by rw[List.length_map]at hl;omega,hx⟩
theorem Wn{d:D}(h:Dq (.sl 22) d):∃ xs:List De,d=.row 14 (xs.map bo)/\xs.length<2^61/\∀ d∈xs,d.ok:=by
 obtain⟨l,rfl,hl,he⟩:=vU h
 rw[WM]at he ⊢
 obtain⟨xs,rfl,hx⟩:=pick (f:=bo) (p:=De.ok) (l:=l) fun cs hc=>by
  obtain⟨a,r,rfl,h1,h⟩:=aL (he cs hc)
  obtain⟨b,r,rfl,h2,h⟩:=aL h
  obtain⟨c,r,rfl,h3,h⟩:=aL h
  obtain⟨d,r,rfl,h4,h⟩:=aL h
  obtain⟨e,r,rfl,h5,h⟩:=aL h
  obtain⟨f,r,rfl,h6,h⟩:=aL h
  obtain⟨g,r,rfl,h7,h⟩:=aL h
  obtain⟨i,r,rfl,h8,h⟩:=aL h
  obtain⟨j,r,rfl,h9,h⟩:=aL h
  obtain⟨k,r,rfl,h10,h⟩:=aL h
  obtain⟨m,r,rfl,h11,h⟩:=aL h
  obtain⟨n,r,rfl,h12,h⟩:=aL h
  obtain⟨o,r,rfl,h13,h⟩:=aL h
  obtain⟨p,r,rfl,h14,h⟩:=aL h
  cases jG h
  obtain⟨k,rfl⟩:=iR h1
  obtain⟨dn,rfl⟩:=fw h2
  obtain⟨vs,rfl,g1⟩:=Wk h3
  obtain⟨cs,rfl,g2,g3⟩:=Wo h4
  obtain⟨n,rfl⟩:=fw h5
  obtain⟨tn,rfl⟩:=fw h6
  obtain⟨ts,rfl,g4,g5⟩:=Sz h7 rfl
  obtain⟨fs,rfl,g6,g7⟩:=Wm h8
  obtain⟨ek,rfl⟩:=iR h9
  obtain⟨em,rfl⟩:=iR h10
  obtain⟨en,rfl⟩:=fw h11
  obtain⟨ea,rfl⟩:=fw h12
  obtain⟨xs,rfl,g8,g9⟩:=SA h13 rfl
  obtain⟨ps,rfl,g10,g11⟩:=Nc h14 rfl
  exact⟨⟨k,⟨dn,vs,cs⟩,n,.mk tn ts,fs,.mk ek em en ea xs ps⟩,rfl,⟨g1,g2,g3⟩,by rw[Ty.ok];exact⟨g4,g5⟩,g6,g7,by rw[Ex.ok];exact⟨g8,g9,g10,g11⟩⟩
 exact⟨xs,rfl,by rw[List.length_map]at hl;omega,hx⟩
theorem Cq:∀ {l:List (List D)},(∀ c∈l,1<=gx c)->l.length<=jf l
 |[],_=>by simp
 |c::r,h=>by
  have h1:=h c List.mem_cons_self
  have h2:=Cq fun x hx=>h x (List.mem_cons_of_mem _ hx)
  simp only[List.length_cons,jf];omega
theorem Jf{α:Type}{f:α->List D}{x:α}:∀ {l:List α},x∈l->gx (f x)<=jf (l.map f)
 |[],h=>by cases h
 |y::r,h=>by
  simp only[List.map_cons,jf]
  rcases List.mem_cons.1 h with rfl|h
  ·omega
  ·have:=Jf (f:=f) h;omega
theorem RB(d:D):1<=LH d:=by cases d<;>simp[LH]
theorem FE{d:D}{r:List D}:1<=gx (d::r):=by simp only[gx];have:=RB d;omega
theorem Rc(l:List Fu):l.length<=jf (l.map ir):=by
 have:=Cq (l:=l.map ir) fun c hc=>by
  obtain⟨⟨n,a,⟨k,m,en,ea,xs,ps⟩⟩,_,rfl⟩:=List.mem_map.1 hc
  exact FE
 simpa using this
theorem PF(l:List Ty):l.length<=jf (bJ l):=by
 rw[gJ]
 have:=Cq (l:=l.map cN) fun c hc=>by
  obtain⟨⟨n,xs⟩,_,rfl⟩:=List.mem_map.1 hc
  rw[cN];exact FE
 simpa using this
theorem JN:∀ l:List Co,(bB l).length<=jf (l.map gI)
 |[]=>by simp[bB]
 |⟨n,xs⟩::r=>by
  have h1:=JN r
  have h2:=PF xs
  simp only[bB,List.length_append,List.map_cons,jf,gI,gx,LH];omega
theorem Ve(d:De):d.fs.length<=gx (bo d)/\(bB d.d.cs).length<=gx (bo d):=by
 obtain⟨k,⟨dn,vs,cs⟩,n,⟨tn,ts⟩,fs,⟨ek,em,en,ea,xs,ps⟩⟩:=d
 have h1:=Rc fs
 have h2:=JN cs
 simp only[bo,gx,LH]
 omega
theorem eQ{t b:Nat}(h:(Tryz.prog.info? t).map (·.bytes)=some b)(hb:b<=1000){m:Nat}(hm:m<=1048576):aF Tryz.prog t m=true:=by
 unfold aF
 cases hi:Tryz.prog.info? t with
 |none=>rw[hi]at h;cases h
 |some i =>
  rw[hi]at h
  simp only[Option.map_some,Option.some.injEq]at h
  simp only[Bool.and_eq_true]
  refine⟨Nat.ble_eq_true_of_le ?_,Nat.ble_eq_true_of_le (by omega)⟩
  have h1:Nat.div m 4<=m:=Nat.div_le_self m 4
  calc i.bytes*(m+Nat.div m 4+600)<=1000*(1048576+1048576+600):=Nat.mul_le_mul (by omega) (by omega)
   _<=281474976710656:=by omega
theorem RJ:(Tryz.prog.info? 86).map (·.bytes)=some 96:=by kernel_rfl
theorem OS:(Tryz.prog.info? 144).map (·.bytes)=some 40:=by kernel_rfl
theorem TK{d:De}(h:d.ok)(hc:gx (bo d)<=1048576):d.ok2:=by
 obtain⟨h1,h2⟩:=Ve d
 exact⟨h,fun m hm=>eQ RJ (by omega) (by omega),fun m hm=>eQ OS (by omega) (by omega),by omega⟩
theorem WP:Hh 8 24=some [.sl 22]:=by kernel_rfl
theorem WO:Hh 8 27=some [.int,.int,.sl 25]:=by kernel_rfl
end Go.Proofs.YtpghiabjaglpgaaGreatDoor.Rd
