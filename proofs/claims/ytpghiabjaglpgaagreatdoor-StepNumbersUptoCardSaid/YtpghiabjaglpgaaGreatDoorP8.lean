/- What the functions answer, in deep values: part 8. No conditions beyond those of the row. -/
import Derived.Test.YtpghiabjaglpgaaGreatDoorP7
set_option linter.all false
noncomputable section
namespace Go.Proofs.YtpghiabjaglpgaaGreatDoor
open Go.AI
theorem Ze(R:aE)(H:DH):br de R 200 (.call 32 [.nilrow,.nilrow] none) H=ao de R 32 200004 [.g .nilrow,.g .nilrow,.g (.int .i64 0)] [] H:=by kernel_rfl
theorem Zf(R:aE)(H:DH):aQ de R 200 32 200004 [.g .nilrow,.g .nilrow,.g (.int .i64 0)] [] H=ret (.bool true) H:=by kernel_rfl
theorem aam(R:aE)(H:DH):br de R 200 (.call 14 [.agg [.int .i64 0,.int .i64 0,.nilrow],.agg [.int .i64 0,.int .i64 0,.nilrow]] none) H=C R 32 [.nilrow,.nilrow] H fun d H=>ret d H:=by kernel_rfl
theorem RQ(H:DH):ab de (.call 14 [.agg [.int .i64 0,.int .i64 0,.nilrow],.agg [.int .i64 0,.int .i64 0,.nilrow]] none) H=ret (.bool true) H:=by
 refine ev (aam _ _) ?_
 rw[af (ev (Ze _ _) (bg (Zf _ _) rfl))]
theorem RP(d f:Int)(p:List Nat)(hp:p.length<2^61)(H:DH):ab de (.call 14 [.agg [.int .i64 d,.int .i64 f,.row 1 (nC p)],.agg [.int .i64 d,.int .i64 f,.row 1 (nC p)]] none) H=ret (.bool true) H:=by
 have h:=JW d f d f (p.map fun n:Nat=>(n:Int)) (p.map fun n:Nat=>(n:Int)) (by simpa using hp) H
 have e:nC p=iC (p.map fun n:Nat=>(n:Int)):=by simp[nC,iC]
 rw[e,h]
 simp
theorem Mt(H:DH):ab de (.call 9 [] none) H=ret (.bool true) H:=by rw[Hz];rfl
theorem Ng(d f:Int)(p:List Int):∀(l:List Nd) (i:Nat),∃ a e:Int,Ei d f p i l=.tuple [.int .i64 a,.int .i64 e]
 |[],_=>⟨_,_,rfl⟩
 |x::r,i=>by
  rw[Ei]
  cases Uh d f p x with
  |true=>exact⟨_,_,rfl⟩
  |false=>exact Ng d f p r (i+1)
theorem TL(k:List Nat->Int)(l:List De)(d f:Int)(p:List Int):∃ a e:Int,Kv k l d f p=.tuple [.int .i64 a,.int .i64 e]:=by
 unfold Kv
 cases bX k l != 0 with
 |true=>exact⟨_,_,rfl⟩
 |false=>exact Ng d f p _ 0
theorem Wa(l:List De)(i:Int):(∃ e:Int,TG cl l i=.tuple [.agg [.int .i64 0,.int .i64 0,.nilrow],.int .i64 e])\/∃(d f e:Int) (p:List Nat),TG cl l i=.tuple [.agg [.int .i64 d,.int .i64 f,.row 1 (nC p)],.int .i64 e]/\p.length<2^61:=by
 unfold TG
 cases hz:bX cl l != 0 with
 |true=>exact .inl ⟨_,rfl⟩
 |false =>
  obtain⟨_,h2,_⟩:=qo (show bX cl l=0 by simpa using hz)
  rw[cond_false,XP]
  cases decide (i<0)with
  |true=>exact .inl ⟨_,rfl⟩
  |false =>
   rw[cond_false]
   split
   ·rename_i x hx
    have:=BY l x (List.mem_of_getElem? hx)
    exact .inr ⟨_,_,_,_,rfl,by omega⟩
   ·exact .inl ⟨_,rfl⟩
theorem YF(l:List De)(hl:l.length<2^61)(ho:∀ x∈l,x.ok2)(d f:Int)(p:List Int)(i:Int)(H:DH) :
 ∃ X,ab de (.call 3 [.agg [.row 14 (l.map bo)],.agg [.int .i64 d,.int .i64 f,.row 1 (iC p)],.int .i64 i] none) H=ret (.bool true) X:=by
 have ho1:∀ x∈l,x.ok:=fun x hx=>(ho x hx).ok
 have hc:=RF kOk l (by omega) ho
 obtain⟨X1,h1⟩:=Wr l hl ho1 d f p H
 obtain⟨X2,h2⟩:=Ws l hl ho1 hc d f p (H++X1)
 obtain⟨X3,h3⟩:=Qj l hl ho1 i (H++X1++X2)
 obtain⟨X4,h4⟩:=TE l hl ho1 hc i (H++X1++X2++X3)
 obtain⟨a,e,hn⟩:=TL cl l d f p
 rw[hn]at h1 h2
 refine⟨H++X1++X2++X3++X4,ev (f3 _ _ _ _ _ _ _) ?_⟩
 rcases Wa l i with⟨e2,hp⟩|⟨d2,f2,e2,p2,hp,hlen⟩
 ·rw[hp]at h3 h4
  simp only[af (Mt H),af h1,af h2,af h3,af h4,ig,am,ax,VD,XQ,bL,beq_self_eq_true,au,cond_true,af (RQ _)]
 ·rw[hp]at h3 h4
  simp only[af (Mt H),af h1,af h2,af h3,af h4,ig,am,ax,VD,XQ,bL,beq_self_eq_true,au,cond_true,af (RP _ _ _ hlen _)]
end Go.Proofs.YtpghiabjaglpgaaGreatDoor
