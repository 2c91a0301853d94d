/- What the functions answer, in deep values: part 2. No conditions beyond those of the row. -/
import Derived.Test.YtpghiabjaglpgaaGreatDoorP1
import Derived.Test.YtpghiabjaglpgaaGreatDoorQ3
import Derived.Test.YtpghiabjaglpgaaGreatDoorQ4
import Derived.Test.YtpghiabjaglpgaaGreatDoorQ5
set_option linter.all false
noncomputable section
namespace Go.Proofs.YtpghiabjaglpgaaGreatDoor
open Go.AI
variable{st:Nat}{c:Nat}{g:FuncId}(hb:aT cA g=true)
section
variable{p:Ty->Bool}{H:DH}
include hb
theorem Xs(t:Ty)(hc:H[c]? = some (.cells st [.func g [] []]))(hg:∀ H',ab de (.call g [.agg (cN t)] none) H'=ret (.bool (p t)) H'):ab de (.call 308 [.agg (cN t),.ptr c 0] none) H=ret (.bool !(p t)) H:=by
 have hg:=hg H
 generalize p t=q at hg
 obtain⟨n,xs⟩:=t
 try simp only[cN]at hg ⊢
 refine ev (Zp _ _ _ _ _) ?_
 simp only[ac hc,am,eH hb,List.nil_append,List.append_nil,af hg,bp]
theorem SJ(l:List Ty)(hl:l.length<2^62)(hc:H[c]? = some (.cells st [.func g [] []])):∀ pre suf,l=pre++suf->(hg:∀ t∈suf,∀ H',ab de (.call g [.agg (cN t)] none) H'=ret (.bool (p t)) H') ->
 ∃ n:Int,ao de (ab de) 332 200002 [.g (.row 2 (l.map cN)),.g (.func 308 [] [.ptr c 0]),.g (.int .i64 (l.length:Nat)),.g (.int .i64 (pre.length:Nat))] [] H=ret (.int .i64 n) H/\decide (n>=0)=!suf.all p
 |pre,[],e,hg=>by
  refine⟨-1,bg (tI _ _ _ _ _ _) ?_,rfl⟩
  have e2:l.length=pre.length:=by rw[e];simp
  rw[e2]
  simp only[Int.lt_irrefl,decide_false,cond_false]
 |pre,t::suf,e,hg=>by
  have hi:pre.length<l.length:=by rw[e];simp
  have h1:decide ((pre.length:Int)<(l.length:Int))=true:=by simp;exact hi
  have h2:(l.map cN)[pre.length]? = some (cN t):=by rw[e];exact bO _ _ _ _
  obtain⟨n,ih,hn⟩:=SJ l hl hc (pre++[t]) suf (by rw[e];simp) (fun x hx=>hg x (List.mem_cons_of_mem _ hx))
  have h3:=Xs (p:=p) hb t hc (hg t (List.mem_cons_self ..))
  have hcl:aT cA 308=true:=by kernel_rfl
  have hpt:p t=true->(t::suf).all p=suf.all p:=fun h=>by simp[h]
  have hpf:p t=false->(t::suf).all p=false:=fun h=>by simp[h]
  rw[List.length_append,List.length_singleton]at ih
  have key:ao de (ab de) 332 200002 [.g (.row 2 (l.map cN)),.g (.func 308 [] [.ptr c 0]),.g (.int .i64 (l.length:Nat)),.g (.int .i64 (pre.length:Nat))] [] H=cond (!(p t)) (ret (.int .i64 (pre.length:Nat)) H) (ret (.int .i64 n) H):=by
   refine bg (tI _ _ _ _ _ _) ?_
   rw[h1,cond_true,aI,ak h2]
   generalize p t=q at h3 ⊢
   clear hpt hpf h2 hg e hn
   obtain⟨n,xs⟩:=t
   try simp only[cN]at h3
   simp only[cN,am,ax,eH hcl,List.nil_append,List.singleton_append,af h3,au,aq (show pre.length<2^62 by omega),ih]
  cases hq:p t with
  |true=>exact⟨n,by rw[key,hq];rfl,by rw[hn,hpt hq]⟩
  |false=>exact⟨(pre.length:Nat),by rw[key,hq];rfl,by rw[hpf hq];simp⟩
theorem SV(l:List Ty)(hl:l.length<2^62)(hg:∀ t∈l,∀ H',ab de (.call g [.agg (cN t)] none) H'=ret (.bool (p t)) H')(H:DH):ab de (.call 249 [.row 2 (l.map cN),.func g [] []] none) H=ret (.bool (l.all p)) H:=by
 obtain⟨n,h1,h2⟩:=SJ (p:=p) hb (H:=H++[.cells 0 [.func g [] []]]) l hl (aY H _) [] l rfl hg
 refine ev (ZO _ _ _ _) ?_
 have h3:ab de (.call 332 [.row 2 (l.map cN),.func 308 [] [.ptr H.length 0]] none) (H++[.cells 0 [.func g [] []]])=ret (.int .i64 n) (H++[.cells 0 [.func g [] []]]):=ev (Zb _ _ _ _) (by rw[List.length_map];exact h1)
 have h4:ab de (.call 307 [.row 2 (l.map cN),.func 308 [] [.ptr H.length 0]] none) (H++[.cells 0 [.func g [] []]])=ret (.bool !(l.all p)) (H++[.cells 0 [.func g [] []]]):=ev (Zq _ _ _ _) (by simp only[af h3,eY,h2])
 show aZ H (C (ab de) 307 _ (H++[.cells 0 [.func g [] []]]) _)=_
 rw[af h4]
 simp only[bp,Bool.not_not]
 exact kL _ H _
end
section
variable{p:(List Nat)->Bool}{H:DH}
include hb
theorem Xt(t:(List Nat))(hc:H[c]? = some (.cells st [.func g [] []]))(hg:∀ H',ab de (.call g [.str t] none) H'=ret (.bool (p t)) H'):ab de (.call 310 [.str t,.ptr c 0] none) H=ret (.bool !(p t)) H:=by
 have hg:=hg H
 generalize p t=q at hg
 skip
 try simp only[kO]at hg ⊢
 refine ev (Zn _ _ _ _) ?_
 simp only[ac hc,am,eH hb,List.nil_append,List.append_nil,af hg,bp]
theorem SK(l:List (List Nat))(hl:l.length<2^62)(hc:H[c]? = some (.cells st [.func g [] []])):∀ pre suf,l=pre++suf->(hg:∀ t∈suf,∀ H',ab de (.call g [.str t] none) H'=ret (.bool (p t)) H') ->
 ∃ n:Int,ao de (ab de) 333 200002 [.g (.row 1 (l.map kO)),.g (.func 310 [] [.ptr c 0]),.g (.int .i64 (l.length:Nat)),.g (.int .i64 (pre.length:Nat))] [] H=ret (.int .i64 n) H/\decide (n>=0)=!suf.all p
 |pre,[],e,hg=>by
  refine⟨-1,bg (tH _ _ _ _ _ _) ?_,rfl⟩
  have e2:l.length=pre.length:=by rw[e];simp
  rw[e2]
  simp only[Int.lt_irrefl,decide_false,cond_false]
 |pre,t::suf,e,hg=>by
  have hi:pre.length<l.length:=by rw[e];simp
  have h1:decide ((pre.length:Int)<(l.length:Int))=true:=by simp;exact hi
  have h2:(l.map kO)[pre.length]? = some (kO t):=by rw[e];exact bO _ _ _ _
  obtain⟨n,ih,hn⟩:=SK l hl hc (pre++[t]) suf (by rw[e];simp) (fun x hx=>hg x (List.mem_cons_of_mem _ hx))
  have h3:=Xt (p:=p) hb t hc (hg t (List.mem_cons_self ..))
  have hcl:aT cA 310=true:=by kernel_rfl
  have hpt:p t=true->(t::suf).all p=suf.all p:=fun h=>by simp[h]
  have hpf:p t=false->(t::suf).all p=false:=fun h=>by simp[h]
  rw[List.length_append,List.length_singleton]at ih
  have key:ao de (ab de) 333 200002 [.g (.row 1 (l.map kO)),.g (.func 310 [] [.ptr c 0]),.g (.int .i64 (l.length:Nat)),.g (.int .i64 (pre.length:Nat))] [] H=cond (!(p t)) (ret (.int .i64 (pre.length:Nat)) H) (ret (.int .i64 n) H):=by
   refine bg (tH _ _ _ _ _ _) ?_
   rw[h1,cond_true,aI,ak h2]
   generalize p t=q at h3 ⊢
   clear hpt hpf h2 hg e hn
   skip
   try simp only[kO]at h3
   simp only[kO,am,eH hcl,List.nil_append,List.singleton_append,af h3,au,aq (show pre.length<2^62 by omega),ih]
  cases hq:p t with
  |true=>exact⟨n,by rw[key,hq];rfl,by rw[hn,hpt hq]⟩
  |false=>exact⟨(pre.length:Nat),by rw[key,hq];rfl,by rw[hpf hq];simp⟩
theorem XE(l:List (List Nat))(hl:l.length<2^62)(hg:∀ t∈l,∀ H',ab de (.call g [.str t] none) H'=ret (.bool (p t)) H')(H:DH):ab de (.call 250 [.row 1 (l.map kO),.func g [] []] none) H=ret (.bool (l.all p)) H:=by
 obtain⟨n,h1,h2⟩:=SK (p:=p) hb (H:=H++[.cells 0 [.func g [] []]]) l hl (aY H _) [] l rfl hg
 refine ev (ZN _ _ _ _) ?_
 have h3:ab de (.call 333 [.row 1 (l.map kO),.func 310 [] [.ptr H.length 0]] none) (H++[.cells 0 [.func g [] []]])=ret (.int .i64 n) (H++[.cells 0 [.func g [] []]]):=ev (Za _ _ _ _) (by rw[List.length_map];exact h1)
 have h4:ab de (.call 309 [.row 1 (l.map kO),.func 310 [] [.ptr H.length 0]] none) (H++[.cells 0 [.func g [] []]])=ret (.bool !(l.all p)) (H++[.cells 0 [.func g [] []]]):=ev (Zo _ _ _ _) (by simp only[af h3,eY,h2])
 show aZ H (C (ab de) 309 _ (H++[.cells 0 [.func g [] []]]) _)=_
 rw[af h4]
 simp only[bp,Bool.not_not]
 exact kL _ H _
end
section
variable{p:Co->Bool}{H:DH}
include hb
theorem XB(t:Co)(hc:H[c]? = some (.cells st [.func g [] []]))(hg:∀ H',ab de (.call g [.agg (gI t)] none) H'=ret (.bool (p t)) H'):ab de (.call 312 [.agg (gI t),.ptr c 0] none) H=ret (.bool !(p t)) H:=by
 have hg:=hg H
 generalize p t=q at hg
 obtain⟨n,xs⟩:=t
 try simp only[gI]at hg ⊢
 refine ev (Zl _ _ _ _ _) ?_
 simp only[ac hc,am,eH hb,List.nil_append,List.append_nil,af hg,bp]
theorem SP(l:List Co)(hl:l.length<2^62)(hc:H[c]? = some (.cells st [.func g [] []])):∀ pre suf,l=pre++suf->(hg:∀ t∈suf,∀ H',ab de (.call g [.agg (gI t)] none) H'=ret (.bool (p t)) H') ->
 ∃ n:Int,ao de (ab de) 277 200002 [.g (.row 2 (l.map gI)),.g (.func 312 [] [.ptr c 0]),.g (.int .i64 (l.length:Nat)),.g (.int .i64 (pre.length:Nat))] [] H=ret (.int .i64 n) H/\decide (n>=0)=!suf.all p
 |pre,[],e,hg=>by
  refine⟨-1,bg (tV _ _ _ _ _ _) ?_,rfl⟩
  have e2:l.length=pre.length:=by rw[e];simp
  rw[e2]
  simp only[Int.lt_irrefl,decide_false,cond_false]
 |pre,t::suf,e,hg=>by
  have hi:pre.length<l.length:=by rw[e];simp
  have h1:decide ((pre.length:Int)<(l.length:Int))=true:=by simp;exact hi
  have h2:(l.map gI)[pre.length]? = some (gI t):=by rw[e];exact bO _ _ _ _
  obtain⟨n,ih,hn⟩:=SP l hl hc (pre++[t]) suf (by rw[e];simp) (fun x hx=>hg x (List.mem_cons_of_mem _ hx))
  have h3:=XB (p:=p) hb t hc (hg t (List.mem_cons_self ..))
  have hcl:aT cA 312=true:=by kernel_rfl
  have hpt:p t=true->(t::suf).all p=suf.all p:=fun h=>by simp[h]
  have hpf:p t=false->(t::suf).all p=false:=fun h=>by simp[h]
  rw[List.length_append,List.length_singleton]at ih
  have key:ao de (ab de) 277 200002 [.g (.row 2 (l.map gI)),.g (.func 312 [] [.ptr c 0]),.g (.int .i64 (l.length:Nat)),.g (.int .i64 (pre.length:Nat))] [] H=cond (!(p t)) (ret (.int .i64 (pre.length:Nat)) H) (ret (.int .i64 n) H):=by
   refine bg (tV _ _ _ _ _ _) ?_
   rw[h1,cond_true,aI,ak h2]
   generalize p t=q at h3 ⊢
   clear hpt hpf h2 hg e hn
   obtain⟨n,xs⟩:=t
   try simp only[gI]at h3
   simp only[gI,am,ax,eH hcl,List.nil_append,List.singleton_append,af h3,au,aq (show pre.length<2^62 by omega),ih]
  cases hq:p t with
  |true=>exact⟨n,by rw[key,hq];rfl,by rw[hn,hpt hq]⟩
  |false=>exact⟨(pre.length:Nat),by rw[key,hq];rfl,by rw[hpf hq];simp⟩
theorem XI(l:List Co)(hl:l.length<2^62)(hg:∀ t∈l,∀ H',ab de (.call g [.agg (gI t)] none) H'=ret (.bool (p t)) H')(H:DH):ab de (.call 252 [.row 2 (l.map gI),.func g [] []] none) H=ret (.bool (l.all p)) H:=by
 obtain⟨n,h1,h2⟩:=SP (p:=p) hb (H:=H++[.cells 0 [.func g [] []]]) l hl (aY H _) [] l rfl hg
 refine ev (ZL _ _ _ _) ?_
 have h3:ab de (.call 277 [.row 2 (l.map gI),.func 312 [] [.ptr H.length 0]] none) (H++[.cells 0 [.func g [] []]])=ret (.int .i64 n) (H++[.cells 0 [.func g [] []]]):=ev (f277 _ _ _ _) (by rw[List.length_map];exact h1)
 have h4:ab de (.call 311 [.row 2 (l.map gI),.func 312 [] [.ptr H.length 0]] none) (H++[.cells 0 [.func g [] []]])=ret (.bool !(l.all p)) (H++[.cells 0 [.func g [] []]]):=ev (Zm _ _ _ _) (by simp only[af h3,eY,h2])
 show aZ H (C (ab de) 311 _ (H++[.cells 0 [.func g [] []]]) _)=_
 rw[af h4]
 simp only[bp,Bool.not_not]
 exact kL _ H _
end
section
variable{p:Ex->Bool}{H:DH}
include hb
theorem Xx(t:Ex)(hc:H[c]? = some (.cells st [.func g [] []]))(hg:∀ H',ab de (.call g [.agg (bU t)] none) H'=ret (.bool (p t)) H'):ab de (.call 315 [.agg (bU t),.ptr c 0] none) H=ret (.bool !(p t)) H:=by
 have hg:=hg H
 generalize p t=q at hg
 obtain⟨k,m,n,a,xs,ps⟩:=t
 try simp only[bU]at hg ⊢
 refine ev (Zj _ _ _ _ _ _ _ _ _) ?_
 simp only[ac hc,am,eH hb,List.nil_append,List.append_nil,af hg,bp]
theorem SN(l:List Ex)(hl:l.length<2^62)(hc:H[c]? = some (.cells st [.func g [] []])):∀ pre suf,l=pre++suf->(hg:∀ t∈suf,∀ H',ab de (.call g [.agg (bU t)] none) H'=ret (.bool (p t)) H') ->
 ∃ n:Int,ao de (ab de) 334 200002 [.g (.row 6 (l.map bU)),.g (.func 315 [] [.ptr c 0]),.g (.int .i64 (l.length:Nat)),.g (.int .i64 (pre.length:Nat))] [] H=ret (.int .i64 n) H/\decide (n>=0)=!suf.all p
 |pre,[],e,hg=>by
  refine⟨-1,bg (tG _ _ _ _ _ _) ?_,rfl⟩
  have e2:l.length=pre.length:=by rw[e];simp
  rw[e2]
  simp only[Int.lt_irrefl,decide_false,cond_false]
 |pre,t::suf,e,hg=>by
  have hi:pre.length<l.length:=by rw[e];simp
  have h1:decide ((pre.length:Int)<(l.length:Int))=true:=by simp;exact hi
  have h2:(l.map bU)[pre.length]? = some (bU t):=by rw[e];exact bO _ _ _ _
  obtain⟨n,ih,hn⟩:=SN l hl hc (pre++[t]) suf (by rw[e];simp) (fun x hx=>hg x (List.mem_cons_of_mem _ hx))
  have h3:=Xx (p:=p) hb t hc (hg t (List.mem_cons_self ..))
  have hcl:aT cA 315=true:=by kernel_rfl
  have hpt:p t=true->(t::suf).all p=suf.all p:=fun h=>by simp[h]
  have hpf:p t=false->(t::suf).all p=false:=fun h=>by simp[h]
  rw[List.length_append,List.length_singleton]at ih
  have key:ao de (ab de) 334 200002 [.g (.row 6 (l.map bU)),.g (.func 315 [] [.ptr c 0]),.g (.int .i64 (l.length:Nat)),.g (.int .i64 (pre.length:Nat))] [] H=cond (!(p t)) (ret (.int .i64 (pre.length:Nat)) H) (ret (.int .i64 n) H):=by
   refine bg (tG _ _ _ _ _ _) ?_
   rw[h1,cond_true,aI,ak h2]
   generalize p t=q at h3 ⊢
   clear hpt hpf h2 hg e hn
   obtain⟨k,m,n,a,xs,ps⟩:=t
   try simp only[bU]at h3
   simp only[bU,am,ax,eH hcl,List.nil_append,List.singleton_append,af h3,au,aq (show pre.length<2^62 by omega),ih]
  cases hq:p t with
  |true=>exact⟨n,by rw[key,hq];rfl,by rw[hn,hpt hq]⟩
  |false=>exact⟨(pre.length:Nat),by rw[key,hq];rfl,by rw[hpf hq];simp⟩
theorem XG(l:List Ex)(hl:l.length<2^62)(hg:∀ t∈l,∀ H',ab de (.call g [.agg (bU t)] none) H'=ret (.bool (p t)) H')(H:DH):ab de (.call 256 [.row 6 (l.map bU),.func g [] []] none) H=ret (.bool (l.all p)) H:=by
 obtain⟨n,h1,h2⟩:=SN (p:=p) hb (H:=H++[.cells 0 [.func g [] []]]) l hl (aY H _) [] l rfl hg
 refine ev (ZH _ _ _ _) ?_
 have h3:ab de (.call 334 [.row 6 (l.map bU),.func 315 [] [.ptr H.length 0]] none) (H++[.cells 0 [.func g [] []]])=ret (.int .i64 n) (H++[.cells 0 [.func g [] []]]):=ev (YZ _ _ _ _) (by rw[List.length_map];exact h1)
 have h4:ab de (.call 314 [.row 6 (l.map bU),.func 315 [] [.ptr H.length 0]] none) (H++[.cells 0 [.func g [] []]])=ret (.bool !(l.all p)) (H++[.cells 0 [.func g [] []]]):=ev (f314 _ _ _ _) (by simp only[af h3,eY,h2])
 show aZ H (C (ab de) 314 _ (H++[.cells 0 [.func g [] []]]) _)=_
 rw[af h4]
 simp only[bp,Bool.not_not]
 exact kL _ H _
end
section
variable{p:Pa->Bool}{H:DH}
include hb
theorem Xu(t:Pa)(hc:H[c]? = some (.cells st [.func g [] []]))(hg:∀ H',ab de (.call g [.agg (dD t)] none) H'=ret (.bool (p t)) H'):ab de (.call 317 [.agg (dD t),.ptr c 0] none) H=ret (.bool !(p t)) H:=by
 have hg:=hg H
 generalize p t=q at hg
 obtain⟨k,n,xs⟩:=t
 try simp only[dD]at hg ⊢
 refine ev (f317 _ _ _ _ _ _) ?_
 simp only[ac hc,am,eH hb,List.nil_append,List.append_nil,af hg,bp]
theorem SL(l:List Pa)(hl:l.length<2^62)(hc:H[c]? = some (.cells st [.func g [] []])):∀ pre suf,l=pre++suf->(hg:∀ t∈suf,∀ H',ab de (.call g [.agg (dD t)] none) H'=ret (.bool (p t)) H') ->
 ∃ n:Int,ao de (ab de) 335 200002 [.g (.row 3 (l.map dD)),.g (.func 317 [] [.ptr c 0]),.g (.int .i64 (l.length:Nat)),.g (.int .i64 (pre.length:Nat))] [] H=ret (.int .i64 n) H/\decide (n>=0)=!suf.all p
 |pre,[],e,hg=>by
  refine⟨-1,bg (tF _ _ _ _ _ _) ?_,rfl⟩
  have e2:l.length=pre.length:=by rw[e];simp
  rw[e2]
  simp only[Int.lt_irrefl,decide_false,cond_false]
 |pre,t::suf,e,hg=>by
  have hi:pre.length<l.length:=by rw[e];simp
  have h1:decide ((pre.length:Int)<(l.length:Int))=true:=by simp;exact hi
  have h2:(l.map dD)[pre.length]? = some (dD t):=by rw[e];exact bO _ _ _ _
  obtain⟨n,ih,hn⟩:=SL l hl hc (pre++[t]) suf (by rw[e];simp) (fun x hx=>hg x (List.mem_cons_of_mem _ hx))
  have h3:=Xu (p:=p) hb t hc (hg t (List.mem_cons_self ..))
  have hcl:aT cA 317=true:=by kernel_rfl
  have hpt:p t=true->(t::suf).all p=suf.all p:=fun h=>by simp[h]
  have hpf:p t=false->(t::suf).all p=false:=fun h=>by simp[h]
  rw[List.length_append,List.length_singleton]at ih
  have key:ao de (ab de) 335 200002 [.g (.row 3 (l.map dD)),.g (.func 317 [] [.ptr c 0]),.g (.int .i64 (l.length:Nat)),.g (.int .i64 (pre.length:Nat))] [] H=cond (!(p t)) (ret (.int .i64 (pre.length:Nat)) H) (ret (.int .i64 n) H):=by
   refine bg (tF _ _ _ _ _ _) ?_
   rw[h1,cond_true,aI,ak h2]
   generalize p t=q at h3 ⊢
   clear hpt hpf h2 hg e hn
   obtain⟨k,n,xs⟩:=t
   try simp only[dD]at h3
   simp only[dD,am,ax,eH hcl,List.nil_append,List.singleton_append,af h3,au,aq (show pre.length<2^62 by omega),ih]
  cases hq:p t with
  |true=>exact⟨n,by rw[key,hq];rfl,by rw[hn,hpt hq]⟩
  |false=>exact⟨(pre.length:Nat),by rw[key,hq];rfl,by rw[hpf hq];simp⟩
theorem SW(l:List Pa)(hl:l.length<2^62)(hg:∀ t∈l,∀ H',ab de (.call g [.agg (dD t)] none) H'=ret (.bool (p t)) H')(H:DH):ab de (.call 257 [.row 3 (l.map dD),.func g [] []] none) H=ret (.bool (l.all p)) H:=by
 obtain⟨n,h1,h2⟩:=SL (p:=p) hb (H:=H++[.cells 0 [.func g [] []]]) l hl (aY H _) [] l rfl hg
 refine ev (ZG _ _ _ _) ?_
 have h3:ab de (.call 335 [.row 3 (l.map dD),.func 317 [] [.ptr H.length 0]] none) (H++[.cells 0 [.func g [] []]])=ret (.int .i64 n) (H++[.cells 0 [.func g [] []]]):=ev (YY _ _ _ _) (by rw[List.length_map];exact h1)
 have h4:ab de (.call 316 [.row 3 (l.map dD),.func 317 [] [.ptr H.length 0]] none) (H++[.cells 0 [.func g [] []]])=ret (.bool !(l.all p)) (H++[.cells 0 [.func g [] []]]):=ev (f316 _ _ _ _) (by simp only[af h3,eY,h2])
 show aZ H (C (ab de) 316 _ (H++[.cells 0 [.func g [] []]]) _)=_
 rw[af h4]
 simp only[bp,Bool.not_not]
 exact kL _ H _
end
section
variable{p:De->Bool}{H:DH}
include hb
theorem Xz(t:De)(hc:H[c]? = some (.cells st [.func g [] []]))(hg:∀ H',ab de (.call g [.agg (bo t)] none) H'=ret (.bool (p t)) H'):ab de (.call 182 [.agg (bo t),.ptr c 0] none) H=ret (.bool !(p t)) H:=by
 have hg:=hg H
 generalize p t=q at hg
 obtain⟨k,⟨dn,vs,cs⟩,n,⟨tn,ts⟩,fs,⟨ek,em,en,ea,xs,ps⟩⟩:=t
 try simp only[bo]at hg ⊢
 refine ev (aaj _ _ _ _ _ _ _ _ _ _ _ _ _ _ _ _ _) ?_
 simp only[ac hc,am,eH hb,List.nil_append,List.append_nil,af hg,bp]
theorem SO(l:List De)(hl:l.length<2^62)(hc:H[c]? = some (.cells st [.func g [] []])):∀ pre suf,l=pre++suf->(hg:∀ t∈suf,∀ H',ab de (.call g [.agg (bo t)] none) H'=ret (.bool (p t)) H') ->
 ∃ n:Int,ao de (ab de) 247 200002 [.g (.row 14 (l.map bo)),.g (.func 182 [] [.ptr c 0]),.g (.int .i64 (l.length:Nat)),.g (.int .i64 (pre.length:Nat))] [] H=ret (.int .i64 n) H/\decide (n>=0)=!suf.all p
 |pre,[],e,hg=>by
  refine⟨-1,bg (tW _ _ _ _ _ _) ?_,rfl⟩
  have e2:l.length=pre.length:=by rw[e];simp
  rw[e2]
  simp only[Int.lt_irrefl,decide_false,cond_false]
 |pre,t::suf,e,hg=>by
  have hi:pre.length<l.length:=by rw[e];simp
  have h1:decide ((pre.length:Int)<(l.length:Int))=true:=by simp;exact hi
  have h2:(l.map bo)[pre.length]? = some (bo t):=by rw[e];exact bO _ _ _ _
  obtain⟨n,ih,hn⟩:=SO l hl hc (pre++[t]) suf (by rw[e];simp) (fun x hx=>hg x (List.mem_cons_of_mem _ hx))
  have h3:=Xz (p:=p) hb t hc (hg t (List.mem_cons_self ..))
  have hcl:aT cA 182=true:=by kernel_rfl
  have hpt:p t=true->(t::suf).all p=suf.all p:=fun h=>by simp[h]
  have hpf:p t=false->(t::suf).all p=false:=fun h=>by simp[h]
  rw[List.length_append,List.length_singleton]at ih
  have key:ao de (ab de) 247 200002 [.g (.row 14 (l.map bo)),.g (.func 182 [] [.ptr c 0]),.g (.int .i64 (l.length:Nat)),.g (.int .i64 (pre.length:Nat))] [] H=cond (!(p t)) (ret (.int .i64 (pre.length:Nat)) H) (ret (.int .i64 n) H):=by
   refine bg (tW _ _ _ _ _ _) ?_
   rw[h1,cond_true,aI,ak h2]
   generalize p t=q at h3 ⊢
   clear hpt hpf h2 hg e hn
   obtain⟨k,⟨dn,vs,cs⟩,n,⟨tn,ts⟩,fs,⟨ek,em,en,ea,xs,ps⟩⟩:=t
   try simp only[bo]at h3
   simp only[bo,am,ax,eH hcl,List.nil_append,List.singleton_append,af h3,au,aq (show pre.length<2^62 by omega),ih]
  cases hq:p t with
  |true=>exact⟨n,by rw[key,hq];rfl,by rw[hn,hpt hq]⟩
  |false=>exact⟨(pre.length:Nat),by rw[key,hq];rfl,by rw[hpf hq];simp⟩
theorem XH(l:List De)(hl:l.length<2^62)(hg:∀ t∈l,∀ H',ab de (.call g [.agg (bo t)] none) H'=ret (.bool (p t)) H')(H:DH):ab de (.call 116 [.row 14 (l.map bo),.func g [] []] none) H=ret (.bool (l.all p)) H:=by
 obtain⟨n,h1,h2⟩:=SO (p:=p) hb (H:=H++[.cells 0 [.func g [] []]]) l hl (aY H _) [] l rfl hg
 refine ev (aaC _ _ _ _) ?_
 have h3:ab de (.call 247 [.row 14 (l.map bo),.func 182 [] [.ptr H.length 0]] none) (H++[.cells 0 [.func g [] []]])=ret (.int .i64 n) (H++[.cells 0 [.func g [] []]]):=ev (f247 _ _ _ _) (by rw[List.length_map];exact h1)
 have h4:ab de (.call 181 [.row 14 (l.map bo),.func 182 [] [.ptr H.length 0]] none) (H++[.cells 0 [.func g [] []]])=ret (.bool !(l.all p)) (H++[.cells 0 [.func g [] []]]):=ev (aak _ _ _ _) (by simp only[af h3,eY,h2])
 show aZ H (C (ab de) 181 _ (H++[.cells 0 [.func g [] []]]) _)=_
 rw[af h4]
 simp only[bp,Bool.not_not]
 exact kL _ H _
end
section
variable{p:Fu->Bool}{H:DH}
include hb
theorem Xw(t:Fu)(hc:H[c]? = some (.cells st [.func g [] []]))(hg:∀ H',ab de (.call g [.agg (ir t)] none) H'=ret (.bool (p t)) H'):ab de (.call 255 [.agg (ir t),.ptr c 0] none) H=ret (.bool !(p t)) H:=by
 have hg:=hg H
 generalize p t=q at hg
 obtain⟨n,a,⟨k,m,en,ea,xs,ps⟩⟩:=t
 try simp only[ir]at hg ⊢
 refine ev (ZI _ _ _ _ _ _ _ _ _ _ _) ?_
 simp only[ac hc,am,eH hb,List.nil_append,List.append_nil,af hg,bp]
theorem SM(l:List Fu)(hl:l.length<2^62)(hc:H[c]? = some (.cells st [.func g [] []])):∀ pre suf,l=pre++suf->(hg:∀ t∈suf,∀ H',ab de (.call g [.agg (ir t)] none) H'=ret (.bool (p t)) H') ->
 ∃ n:Int,ao de (ab de) 313 200002 [.g (.row 8 (l.map ir)),.g (.func 255 [] [.ptr c 0]),.g (.int .i64 (l.length:Nat)),.g (.int .i64 (pre.length:Nat))] [] H=ret (.int .i64 n) H/\decide (n>=0)=!suf.all p
 |pre,[],e,hg=>by
  refine⟨-1,bg (tM _ _ _ _ _ _) ?_,rfl⟩
  have e2:l.length=pre.length:=by rw[e];simp
  rw[e2]
  simp only[Int.lt_irrefl,decide_false,cond_false]
 |pre,t::suf,e,hg=>by
  have hi:pre.length<l.length:=by rw[e];simp
  have h1:decide ((pre.length:Int)<(l.length:Int))=true:=by simp;exact hi
  have h2:(l.map ir)[pre.length]? = some (ir t):=by rw[e];exact bO _ _ _ _
  obtain⟨n,ih,hn⟩:=SM l hl hc (pre++[t]) suf (by rw[e];simp) (fun x hx=>hg x (List.mem_cons_of_mem _ hx))
  have h3:=Xw (p:=p) hb t hc (hg t (List.mem_cons_self ..))
  have hcl:aT cA 255=true:=by kernel_rfl
  have hpt:p t=true->(t::suf).all p=suf.all p:=fun h=>by simp[h]
  have hpf:p t=false->(t::suf).all p=false:=fun h=>by simp[h]
  rw[List.length_append,List.length_singleton]at ih
  have key:ao de (ab de) 313 200002 [.g (.row 8 (l.map ir)),.g (.func 255 [] [.ptr c 0]),.g (.int .i64 (l.length:Nat)),.g (.int .i64 (pre.length:Nat))] [] H=cond (!(p t)) (ret (.int .i64 (pre.length:Nat)) H) (ret (.int .i64 n) H):=by
   refine bg (tM _ _ _ _ _ _) ?_
   rw[h1,cond_true,aI,ak h2]
   generalize p t=q at h3 ⊢
   clear hpt hpf h2 hg e hn
   obtain⟨n,a,⟨k,m,en,ea,xs,ps⟩⟩:=t
   try simp only[ir]at h3
   simp only[ir,am,ax,eH hcl,List.nil_append,List.singleton_append,af h3,au,aq (show pre.length<2^62 by omega),ih]
  cases hq:p t with
  |true=>exact⟨n,by rw[key,hq];rfl,by rw[hn,hpt hq]⟩
  |false=>exact⟨(pre.length:Nat),by rw[key,hq];rfl,by rw[hpf hq];simp⟩
theorem XF(l:List Fu)(hl:l.length<2^62)(hg:∀ t∈l,∀ H',ab de (.call g [.agg (ir t)] none) H'=ret (.bool (p t)) H')(H:DH):ab de (.call 189 [.row 8 (l.map ir),.func g [] []] none) H=ret (.bool (l.all p)) H:=by
 obtain⟨n,h1,h2⟩:=SM (p:=p) hb (H:=H++[.cells 0 [.func g [] []]]) l hl (aY H _) [] l rfl hg
 refine ev (aac _ _ _ _) ?_
 have h3:ab de (.call 313 [.row 8 (l.map ir),.func 255 [] [.ptr H.length 0]] none) (H++[.cells 0 [.func g [] []]])=ret (.int .i64 n) (H++[.cells 0 [.func g [] []]]):=ev (Zk _ _ _ _) (by rw[List.length_map];exact h1)
 have h4:ab de (.call 254 [.row 8 (l.map ir),.func 255 [] [.ptr H.length 0]] none) (H++[.cells 0 [.func g [] []]])=ret (.bool !(l.all p)) (H++[.cells 0 [.func g [] []]]):=ev (ZJ _ _ _ _) (by simp only[af h3,eY,h2])
 show aZ H (C (ab de) 254 _ (H++[.cells 0 [.func g [] []]]) _)=_
 rw[af h4]
 simp only[bp,Bool.not_not]
 exact kL _ H _
end
end Go.Proofs.YtpghiabjaglpgaaGreatDoor
namespace Go.Proofs.YtpghiabjaglpgaaGreatDoor
open Go.AI
structure SY(kind:List Nat->Int):Prop where
 a:∀ s H,∃ k,ab de (.call 253 [.str s] none) H=ret (.int .i64 k) H/\(k=kind s\/(kind s=0/\k=1))
 b:∀ s H,∃ k,ab de (.call 170 [.str s] none) H=ret (.int .i64 k) H/\(k=kind s\/(kind s=0/\k=1))
 c:kind [44]≠3
theorem kq{k n j:Int}(h:k=n\/(n=0/\k=1))(hj:2<=j):(k==j)=(n==j):=by
 rcases h with rfl|⟨rfl,rfl⟩
 ·rfl
 ·rw[show((1:Int)==j)=false by simp;omega,show((0:Int)==j)=false by simp;omega]
variable{kind:List Nat->Int}(K:SY kind)
include K
theorem qG(s:List Nat)(H:DH):ab de (.call 187 [.str s] none) H=ret (.bool (kind s==2)) H:=by
 obtain⟨k,h1,h2⟩:=K.a s H
 exact ev (aae _ _ _) (by simp only[af h1,bL,kq h2 (show(2:Int)<=2 by decide)])
theorem qF(s:List Nat)(H:DH):ab de (.call 129 [.str s] none) H=ret (.bool (kind s==2)) H:=by
 obtain⟨k,h1,h2⟩:=K.b s H
 exact ev (f129 _ _ _) (by simp only[af h1,bL,kq h2 (show(2:Int)<=2 by decide)])
theorem vq(s:List Nat)(H:DH):ab de (.call 201 [.str s] none) H=ret (.bool (kind s==3)) H:=by
 obtain⟨k,h1,h2⟩:=K.a s H
 exact ev (ZT _ _ _) (by simp only[af h1,bL,kq h2 (show(2:Int)<=3 by decide)])
theorem vp(s:List Nat)(H:DH):ab de (.call 195 [.str s] none) H=ret (.bool (kind s==3)) H:=by
 obtain⟨k,h1,h2⟩:=K.b s H
 exact ev (f195 _ _ _) (by simp only[af h1,bL,kq h2 (show(2:Int)<=3 by decide)])
theorem Jn(s:List Nat)(H:DH):ab de (.call 251 [.str s] none) H=ret (.bool (kind s==4)) H:=by
 obtain⟨k,h1,h2⟩:=K.a s H
 exact ev (ZM _ _ _) (by simp only[af h1,bL,kq h2 (show(2:Int)<=4 by decide)])
theorem Jm(s:List Nat)(H:DH):ab de (.call 196 [.str s] none) H=ret (.bool (kind s==4)) H:=by
 obtain⟨k,h1,h2⟩:=K.b s H
 exact ev (ZW _ _ _) (by simp only[af h1,bL,kq h2 (show(2:Int)<=4 by decide)])
omit K
section
variable(kind:List Nat->Int)
def BA(n:List Nat)(k:Nat):Bool:=if n==[45,62] then k==2 else if n==[44] then decide (2<=k)&&decide (k<=4)else if kind n==4&&k==0 then true else kind n==3&&decide (k<=16)
mutual
def hQ:Ty->Bool
 |.mk n xs=>eN xs&&BA kind n xs.length
def eN:List Ty->Bool
 |[]=>true
 |t::r=>hQ t&&eN r
end
end
theorem mf:∀ l,eN kind l=l.all (hQ kind)
 |[]=>rfl
 |t::r=>by simp[eN,mf r]
theorem bq:∀ l,(bJ l).length=l.length:=fun l=>by rw[gJ,List.length_map]
theorem fK(pre:List Ty)(t:Ty)(suf:List Ty):(bJ (pre++t::suf))[pre.length]? = some (cN t):=by rw[gJ];exact bO _ _ _ _
include K
mutual
theorem mM:∀(t:Ty) (H:DH),t.ok->ab de (.call 130 [.agg (cN t)] none) H=ret (.bool (hQ kind t)) H
 |.mk n xs,H,h=>by
  simp only[Ty.ok]at h
  refine ev (by simp only[cN];exact aap _ _ _ _) ?_
  exact oL n xs H h.1 [] xs rfl h.2
theorem oL(n:List Nat)(xs:List Ty)(H:DH)(hl:xs.length<2^62):∀ pre suf,xs=pre++suf->Ty.oks suf ->
 ao de (ab de) 130 200002 [.lp 0 0,.g (.int .i64 (pre.length:Nat))] [(0,[.str n,.row 2 (bJ xs)])] H=ret (.bool (eN kind suf&&BA kind n xs.length)) H
 |pre,[],e,_=>by
  have e2:xs.length=pre.length:=by rw[e];simp
  refine bg (uj _ _ _ _ _) ?_
  rw[bq,e2]
  simp only[Int.lt_irrefl,decide_false,af (Jm K _ _),af (vp K _ _),au,eN,Bool.true_and,cond_eq_ite,BA]
  repeat' (first|rfl|split)
  all_goals simp_all
  all_goals first|omega|(rw[Bool.eq_iff_iff];simp<;>omega)
 |pre,t::suf,e,h=>by
  simp only[Ty.oks]at h
  refine bg (uj _ _ _ _ _) ?_
  have hi:pre.length<xs.length:=by rw[e];simp
  have h1:decide ((pre.length:Int)<((bJ xs).length:Int))=true:=by rw[bq];simp;exact hi
  have h2:(bJ xs)[pre.length]? = some (cN t):=by rw[e];exact fK _ _ _
  obtain⟨tn,tas⟩:=t
  have h3:=mM (.mk tn tas) H h.1
  simp only[cN]at h3
  have ih:=oL n xs H hl (pre++[.mk tn tas]) suf (by rw[e];simp) h.2
  rw[h1,cond_true,aI,ak h2]
  simp only[cN,am,ax,af h3,bp,au,aq (show pre.length<2^62 by omega)]
  simp only[List.length_append,List.length_singleton]at ih
  rw[ih]
  cases hh:hQ kind (.mk tn tas)<;>simp[eN,hh]
end
mutual
theorem AH:∀(t:Ty) (H:DH),t.ok->ab de (.call 188 [.agg (cN t)] none) H=ret (.bool (hQ kind t)) H
 |.mk n xs,H,h=>by
  simp only[Ty.ok]at h
  refine ev (by simp only[cN];exact aad _ _ _ _) ?_
  have h1:=pu xs h.2
  have h2:aT cA 188=true:=by kernel_rfl
  have h3:=SV h2 (p:=hQ kind) xs h.1 h1 H
  rw[<- gJ,<- mf]at h3
  simp only[af h3,af (Jn K _ _),af (vq K _ _),au,bp,bq,cond_eq_ite,hQ,BA]
  clear h1 h3
  generalize eN kind xs=q
  cases q<;>simp only[Bool.false_and,Bool.true_and,Bool.not_true,Bool.not_false,if_true,if_false,Bool.false_eq_true]
  repeat' (first|rfl|split)
  all_goals simp_all
  all_goals first|omega|(rw[Bool.eq_iff_iff];simp<;>omega)
theorem pu:∀(l:List Ty),Ty.oks l->∀ t∈l,∀ H',ab de (.call 188 [.agg (cN t)] none) H'=ret (.bool (hQ kind t)) H'
 |[],_,t,ht,_=>by cases ht
 |x::r,h,t,ht,H'=>by
  simp only[Ty.oks]at h
  rcases List.mem_cons.mp ht with e|ht
  ·rw[e];exact AH x H' h.1
  ·exact pu r h.2 t ht H'
end
end Go.Proofs.YtpghiabjaglpgaaGreatDoor
namespace Go.Proofs.YtpghiabjaglpgaaGreatDoor
open Go.AI
variable{kind:List Nat->Int}(K:SY kind)
def sf(kind:List Nat->Int)(n:List Nat)(m:Nat):Bool:=if n==[44] then decide (2<=m)&&decide (m<=4)else kind n==3&&decide (m<=16)
include K
theorem Nw(n:List Nat)(m:Nat)(H:DH):ab de (.call 198 [.str n,.int .i64 (m:Nat)] none) H=ret (.bool (sf kind n m)) H:=by
 refine ev (ZV _ _ _ _) ?_
 simp only[af (vp K _ _),au,cond_eq_ite,sf]
 repeat' (first|rfl|split)
 all_goals simp_all
 all_goals first|omega|(rw[Bool.eq_iff_iff];simp<;>omega)
theorem Ny(n:List Nat)(m:Nat)(H:DH):ab de (.call 259 [.str n,.int .i64 (m:Nat)] none) H=ret (.bool (sf kind n m)) H:=by
 refine ev (ZE _ _ _ _) ?_
 have hc:=K.c
 simp only[af (vq K _ _),au,cond_eq_ite,sf]
 repeat' (first|rfl|split)
 all_goals simp_all
 all_goals first|omega|(rw[Bool.eq_iff_iff];simp<;>omega)
omit K
section
variable(kind:List Nat->Int)
def BZ(k:Int)(n:List Nat)(m:Nat):Bool:=if k==1 then n==[]&&m==0 else if k==2 then kind n==2&&m==0 else if k==3 then sf kind n m else false
mutual
def jH:Pa->Bool
 |.mk k n xs=>ew xs&&BZ kind k n xs.length
def ew:List Pa->Bool
 |[]=>true
 |t::r=>jH t&&ew r
end
end
theorem my:∀ l,ew kind l=l.all (jH kind)
 |[]=>rfl
 |t::r=>by simp[ew,my r]
theorem bG:∀ l,(bM l).length=l.length:=fun l=>by rw[jX,List.length_map]
theorem gC(pre:List Pa)(t:Pa)(suf:List Pa):(bM (pre++t::suf))[pre.length]? = some (dD t):=by rw[jX];exact bO _ _ _ _
include K
mutual
theorem xw:∀(t:Pa) (H:DH),t.ok->ab de (.call 197 [.agg (dD t)] none) H=ret (.bool (jH kind t)) H
 |.mk k n xs,H,h=>by
  simp only[Pa.ok]at h
  refine ev (by simp only[dD];exact f197 _ _ _ _ _) ?_
  exact qM k n xs H h.1 [] xs rfl h.2
theorem qM(k:Int)(n:List Nat)(xs:List Pa)(H:DH)(hl:xs.length<2^62):∀ pre suf,xs=pre++suf->Pa.oks suf ->
 ao de (ab de) 197 200002 [.lp 0 0,.g (.int .i64 (pre.length:Nat))] [(0,[.int .i64 k,.str n,.row 3 (bM xs)])] H=ret (.bool (ew kind suf&&BZ kind k n xs.length)) H
 |pre,[],e,_=>by
  have e2:xs.length=pre.length:=by rw[e];simp
  refine bg (tX _ _ _ _ _ _) ?_
  rw[bG,e2]
  simp only[Int.lt_irrefl,decide_false,af (qF K _ _),af (Nw K _ _ _),au,ew,Bool.true_and,cond_eq_ite,BZ]
  repeat' (first|rfl|split)
  all_goals simp_all
  all_goals first|omega|(rw[Bool.eq_iff_iff];simp<;>omega)
 |pre,t::suf,e,h=>by
  simp only[Pa.oks]at h
  refine bg (tX _ _ _ _ _ _) ?_
  have hi:pre.length<xs.length:=by rw[e];simp
  have h1:decide ((pre.length:Int)<((bM xs).length:Int))=true:=by rw[bG];simp;exact hi
  have h2:(bM xs)[pre.length]? = some (dD t):=by rw[e];exact gC _ _ _
  obtain⟨tk,tn,tas⟩:=t
  have h3:=xw (.mk tk tn tas) H h.1
  simp only[dD]at h3
  have ih:=qM k n xs H hl (pre++[.mk tk tn tas]) suf (by rw[e];simp) h.2
  rw[h1,cond_true,aI,ak h2]
  simp only[dD,am,ax,af h3,bp,au,aq (show pre.length<2^62 by omega)]
  simp only[List.length_append,List.length_singleton]at ih
  rw[ih]
  cases hh:jH kind (.mk tk tn tas)<;>simp[ew,hh]
end
mutual
theorem NS:∀(t:Pa) (H:DH),t.ok->ab de (.call 258 [.agg (dD t)] none) H=ret (.bool (jH kind t)) H
 |.mk k n xs,H,h=>by
  simp only[Pa.ok]at h
  refine ev (by simp only[dD];exact ZF _ _ _ _ _) ?_
  have h1:=sx xs h.2
  have h2:aT cA 258=true:=by kernel_rfl
  have h3:=SW h2 (p:=jH kind) xs h.1 h1 H
  rw[<- jX,<- my]at h3
  simp only[af h3,af (qG K _ _),bG,af (Ny K _ _ _),au,bp,cond_eq_ite,jH,BZ]
  clear h1 h3
  generalize ew kind xs=q
  cases q<;>simp only[Bool.false_and,Bool.true_and,Bool.not_true,Bool.not_false,if_true,if_false,Bool.false_eq_true]
  repeat' (first|rfl|split)
  all_goals simp_all
  all_goals first|omega|(rw[Bool.eq_iff_iff];simp<;>omega)
theorem sx:∀(l:List Pa),Pa.oks l->∀ t∈l,∀ H',ab de (.call 258 [.agg (dD t)] none) H'=ret (.bool (jH kind t)) H'
 |[],_,t,ht,_=>by cases ht
 |x::r,h,t,ht,H'=>by
  simp only[Pa.oks]at h
  rcases List.mem_cons.mp ht with e|ht
  ·rw[e];exact NS x H' h.1
  ·exact sx r h.2 t ht H'
end
end Go.Proofs.YtpghiabjaglpgaaGreatDoor
namespace Go.Proofs.YtpghiabjaglpgaaGreatDoor
open Go.AI
variable{kind:List Nat->Int}(K:SY kind)
theorem Ob(a b:Nat):((a:Int)==(b:Int))=(a==b):=by rw[Bool.eq_iff_iff];simp only[beq_iff_eq];omega
theorem qJ(a:Nat):((a:Int)==0)=(a==0):=Ob a 0
theorem SS(a:Nat):((a:Int)==1)=(a==1):=Ob a 1
theorem SR(a:Nat):((a:Int)==2)=(a==2):=Ob a 2
theorem EF(a:Nat):decide ((a:Int)>=1)=decide (1<=a):=by rw[Bool.eq_iff_iff];simp;omega
theorem sE(a:Nat):decide ((a:Int)<=16)=decide (a<=16):=by rw[Bool.eq_iff_iff];simp;omega
theorem NZ(a:Nat):decide ((a:Int)>16)=!decide (a<=16):=by rw[Bool.eq_iff_iff];simp;omega
theorem WX(a:Nat):decide ((a:Int)<1)=!decide (1<=a):=by rw[Bool.eq_iff_iff];simp;omega
theorem Oa(a:Nat):decide ((a:Int)>0)=decide (a>0):=by rw[Bool.eq_iff_iff];simp
theorem dq{R:aE}{j:zP}{H H':DH}{d:D}{k:D->DH->ai}{kp:List gB->DH->ai}(h:R j H=ret d H'):cH (R j H) k kp=k d H':=by rw[h];rfl
theorem AL(l:List (List Nat))(hl:l.length<2^62)(s:List Nat)(H:DH):∀ pre suf,l=pre++suf ->
 ∃ n:Int,ao de (ab de) 318 200002 [.g (.row 1 (l.map kO)),.g (.str s),.g (.int .i64 (l.length:Nat)),.g (.int .i64 (pre.length:Nat))] [] H=ret (.int .i64 n) H/\decide (n>=0)=suf.any (fun x=>s==x)
 |pre,[],e=>by
  refine⟨-1,bg (tL _ _ _ _ _ _) ?_,rfl⟩
  have e2:l.length=pre.length:=by rw[e];simp
  rw[e2]
  simp only[Int.lt_irrefl,decide_false,cond_false]
 |pre,t::suf,e=>by
  have hi:pre.length<l.length:=by rw[e];simp
  have h1:decide ((pre.length:Int)<(l.length:Int))=true:=by simp;exact hi
  have h2:(l.map kO)[pre.length]? = some (kO t):=by rw[e];exact bO _ _ _ _
  obtain⟨n,ih,hn⟩:=AL l hl s H (pre++[t]) suf (by rw[e];simp)
  rw[List.length_append,List.length_singleton]at ih
  have key:ao de (ab de) 318 200002 [.g (.row 1 (l.map kO)),.g (.str s),.g (.int .i64 (l.length:Nat)),.g (.int .i64 (pre.length:Nat))] [] H=cond (s==t) (ret (.int .i64 (pre.length:Nat)) H) (ret (.int .i64 n) H):=by
   refine bg (tL _ _ _ _ _ _) ?_
   rw[h1,cond_true,aI,ak h2]
   simp only[kO,am,nu,au,aq (show pre.length<2^62 by omega),ih]
  cases hq:s==t with
  |false=>exact⟨n,by rw[key,hq];rfl,by rw[hn,List.any_cons,hq,Bool.false_or]⟩
  |true=>exact⟨(pre.length:Nat),by rw[key,hq];rfl,by rw[List.any_cons,hq,Bool.true_or];simp⟩
def GH:List (List Nat):=[[43],[45],[42],[47],[37],[60],[61]]
def QU(n:List Nat):Bool:=GH.any (fun x=>n==x)
theorem YB(n:List Nat)(H:DH):ab de (.call 260 [.row 1 (GH.map kO),.str n] none) H=ret (.bool (QU n)) H:=by
 obtain⟨i,h1,h2⟩:=AL GH (by decide) n H [] GH rfl
 have h3:ab de (.call 318 [.row 1 (GH.map kO),.str n] none) H=ret (.int .i64 i) H:=ev (f318 _ _ _ _) h1
 exact ev (f260 _ _ _ _) (by simp only[af h3,eY,h2];rfl)
theorem Wj(H:DH):ab de (.call 261 [] none) H=ret (.row 1 (GH.map kO)) H:=ev (ZD _ _) rfl
theorem YA(n:List Nat)(H:DH):ab de (.call 199 [.str n] none) H=ret (.bool (QU n)) H:=by
 refine ev (ZU _ _ _) ?_
 simp only[cond_eq_ite,QU,GH,List.any_cons,List.any_nil,Bool.or_false]
 generalize(n==[43])=a
 generalize(n==[45])=b
 generalize(n==[42])=c
 generalize(n==[47])=d
 generalize(n==[37])=e
 generalize(n==[60])=f
 cases a<;>cases b<;>cases c<;>cases d<;>cases e<;>cases f<;>rfl
section
variable(kind:List Nat->Int)
def Fc(k m:Int)(a:List Nat)(p:Nat):Bool:=!(k != 1&&m != 0)&&!(k != 5&&k != 7&&!(a==[]))&&!(k != 8&&decide (p>0))
def jO(k:Int)(n a:List Nat)(m p:Nat):Bool :=
 cond (k==1) (n==[]&&m==0) (cond (k==2) (kind n==2&&m==0) (cond (k==3) (sf kind n m) (cond (k==4) (n==[]&&m==2) (cond (k==5) (n==[]&&(kind a==2&&m==1))
 (cond (k==6) (kind n==2&&m==2) (cond (k==7) (kind n==2&&(kind a==2&&m==2)) (cond (k==8) (n==[]&&(decide (1<=p)&&(decide (p<=16)&&m==p+1))) (cond (k==9) (QU n&&m==2) false))))))))
mutual
def fy:Ex->Bool
 |.mk k m n a xs ps=>gG xs&&(ew kind ps&&(Fc k m a ps.length&&jO kind k n a xs.length ps.length))
def gG:List Ex->Bool
 |[]=>true
 |t::r=>fy t&&gG r
end
end
theorem uA:∀ l,gG kind l=l.all (fy kind)
 |[]=>rfl
 |t::r=>by simp[gG,uA r]
theorem bD:∀ l,(bI l).length=l.length:=fun l=>by rw[kj,List.length_map]
theorem gH(pre:List Ex)(t:Ex)(suf:List Ex):(bI (pre++t::suf))[pre.length]? = some (bU t):=by rw[kj];exact bO _ _ _ _
include K
theorem Oq(k m:Int)(n a:List Nat)(xs:List Ex)(ps:List Pa)(hp:ps.length<2^62)(H:DH) :
 ao de (ab de) 131 14 [.lp 0 0,.g (.int .i64 (xs.length:Nat))] [(0,[.int .i64 k,.int .i64 m,.str n,.str a,.row 6 (bI xs),.row 3 (bM ps)])] H=ret (.bool (jO kind k n a xs.length ps.length)) H:=by
 refine bg (Rq _ _ _ _ _ _ _ _ _) (bg (Rp _ _ _ _ _ _ _ _ _ _) ?_)
 simp only[af (qF K _ _),af (Nw K _ _ _),af (YA _ _),au,bG,aq hp,cp,Bool.cond_false_right,Ob,qJ,SS,SR,EF,sE,jO]
 try simp only[Bool.and_assoc,Bool.and_comm,Bool.and_left_comm]
theorem Ot(k m:Int)(n a:List Nat)(xs:List Ex)(ps:List Pa)(hp:ps.length<2^62)(H:DH) :
 ao de (ab de) 191 6 [.lp 0 0,.g (.int .i64 (xs.length:Nat))] [(0,[.int .i64 k,.int .i64 m,.str n,.str a,.row 6 (bI xs),.row 3 (bM ps)])] H=ret (.bool (jO kind k n a xs.length ps.length)) H:=by
 refine bg (UW _ _ _ _ _ _ _ _ _) (bg (UV _ _ _ _ _ _ _ _ _ _) ?_)
 simp only[af (qG K _ _),af (Ny K _ _ _),dq (Wj H),dq (YB _ _),au,bG,aq hp,cp,Bool.cond_false_right,Ob,qJ,SS,SR,EF,sE,jO]
 try simp only[Bool.and_assoc,Bool.and_comm,Bool.and_left_comm]
mutual
theorem mN:∀(t:Ex) (H:DH),t.ok->ab de (.call 131 [.agg (bU t)] none) H=ret (.bool (fy kind t)) H
 |.mk k m n a xs ps,H,h=>by
  simp only[Ex.ok]at h
  refine ev (by simp only[bU];exact aao _ _ _ _ _ _ _ _) ?_
  exact oN k m n a xs ps H h.1 h.2.2.1 h.2.2.2 [] xs rfl h.2.1
theorem oN(k m:Int)(n a:List Nat)(xs:List Ex)(ps:List Pa)(H:DH)(hl:xs.length<2^62)(hp:ps.length<2^62)(hps:Pa.oks ps):∀ pre suf,xs=pre++suf->Ex.oks suf ->
 ao de (ab de) 131 200002 [.lp 0 0,.g (.int .i64 (pre.length:Nat))] [(0,[.int .i64 k,.int .i64 m,.str n,.str a,.row 6 (bI xs),.row 3 (bM ps)])] H=ret (.bool (gG kind suf&&(ew kind ps&&(Fc k m a ps.length&&jO kind k n a xs.length ps.length)))) H
 |pre,[],e,_=>by
  have e2:xs.length=pre.length:=by rw[e];simp
  refine bg (ui _ _ _ _ _ _ _ _ _) ?_
  rw[bD,e2,<- e2]
  simp only[Int.lt_irrefl,decide_false,cond_false,gG,Bool.true_and]
  exact oM k m n a xs ps H hp [] ps rfl hps
 |pre,t::suf,e,h=>by
  simp only[Ex.oks]at h
  refine bg (ui _ _ _ _ _ _ _ _ _) ?_
  have hi:pre.length<xs.length:=by rw[e];simp
  have h1:decide ((pre.length:Int)<((bI xs).length:Int))=true:=by rw[bD];simp;exact hi
  have h2:(bI xs)[pre.length]? = some (bU t):=by rw[e];exact gH _ _ _
  obtain⟨tk,tm,tn,ta,tas,tps⟩:=t
  have h3:=mN (.mk tk tm tn ta tas tps) H h.1
  simp only[bU]at h3
  have ih:=oN k m n a xs ps H hl hp hps (pre++[.mk tk tm tn ta tas tps]) suf (by rw[e];simp) h.2
  rw[h1,cond_true,aI,ak h2]
  simp only[bU,am,ax,af h3,bp,au,aq (show pre.length<2^62 by omega)]
  simp only[List.length_append,List.length_singleton]at ih
  rw[ih]
  cases hh:fy kind (.mk tk tm tn ta tas tps)<;>simp[gG,hh]
theorem oM(k m:Int)(n a:List Nat)(xs:List Ex)(ps:List Pa)(H:DH)(hp:ps.length<2^62):∀ pre suf,ps=pre++suf->Pa.oks suf ->
 ao de (ab de) 131 200007 [.lp 0 0,.g (.int .i64 (pre.length:Nat))] [(0,[.int .i64 k,.int .i64 m,.str n,.str a,.row 6 (bI xs),.row 3 (bM ps)])] H=ret (.bool (ew kind suf&&(Fc k m a ps.length&&jO kind k n a xs.length ps.length))) H
 |pre,[],e,_=>by
  have e2:ps.length=pre.length:=by rw[e];simp
  refine bg (uh _ _ _ _ _ _ _ _ _) ?_
  rw[bG,<- e2]
  have hh:=Oq K k m n a xs ps hp H
  simp only[Int.lt_irrefl,decide_false,cond_false,bD,hh,ew,Bool.true_and,Fc,Oa]
  generalize jO kind k n a xs.length ps.length=q
  generalize(k != 1)=c1
  generalize(m != 0)=c2
  generalize(k != 8)=c3
  generalize decide (ps.length>0)=c4
  generalize(k != 5)=c5
  generalize(k != 7)=c6
  generalize(a==[])=c7
  cases c1<;>cases c2<;>cases c3<;>cases c4<;>cases c5<;>cases c6<;>cases c7<;>rfl
 |pre,t::suf,e,h=>by
  simp only[Pa.oks]at h
  refine bg (uh _ _ _ _ _ _ _ _ _) ?_
  have hi:pre.length<ps.length:=by rw[e];simp
  have h1:decide ((pre.length:Int)<((bM ps).length:Int))=true:=by rw[bG];simp;exact hi
  have h2:(bM ps)[pre.length]? = some (dD t):=by rw[e];exact gC _ _ _
  have h3:=xw K t H h.1
  have ih:=oM k m n a xs ps H hp (pre++[t]) suf (by rw[e];simp) h.2
  obtain⟨tk,tn,tas⟩:=t
  simp only[dD]at h3
  rw[h1,cond_true,aI,ak h2]
  simp only[dD,am,ax,af h3,bp,au,aq (show pre.length<2^62 by omega)]
  simp only[List.length_append,List.length_singleton]at ih
  rw[ih]
  cases hh:jH kind (.mk tk tn tas)<;>simp[ew,hh]
end
mutual
theorem sD:∀(t:Ex) (H:DH),t.ok->ab de (.call 191 [.agg (bU t)] none) H=ret (.bool (fy kind t)) H
 |.mk k m n a xs ps,H,h=>by
  simp only[Ex.ok]at h
  refine ev (by simp only[bU];exact aaa _ _ _ _ _ _ _ _) ?_
  have h1:=wW xs h.2.1
  have h2:aT cA 191=true:=by kernel_rfl
  have h3:=XG h2 (p:=fy kind) xs h.1 h1 H
  have h4:aT cA 258=true:=by kernel_rfl
  have h5:=SW h4 (p:=jH kind) ps h.2.2.1 (sx K ps h.2.2.2) H
  rw[<- kj,<- uA]at h3
  rw[<- jX,<- my]at h5
  have hh:=Ot K k m n a xs ps h.2.2.1 H
  simp only[af h3,af h5,au,bp,bG,bD,hh,fy,Fc,Oa]
  generalize jO kind k n a xs.length ps.length=q
  generalize gG kind xs=b1
  generalize ew kind ps=b2
  generalize(k != 1)=c1
  generalize(m != 0)=c2
  generalize(k != 8)=c3
  generalize decide (ps.length>0)=c4
  generalize(k != 5)=c5
  generalize(k != 7)=c6
  generalize(a==[])=c7
  cases b1<;>cases b2<;>cases c1<;>cases c2<;>cases c3<;>cases c4<;>cases c5<;>cases c6<;>cases c7<;>rfl
theorem wW:∀(l:List Ex),Ex.oks l->∀ t∈l,∀ H',ab de (.call 191 [.agg (bU t)] none) H'=ret (.bool (fy kind t)) H'
 |[],_,t,ht,_=>by cases ht
 |x::r,h,t,ht,H'=>by
  simp only[Ex.oks]at h
  rcases List.mem_cons.mp ht with e|ht
  ·rw[e];exact sD x H' h.1
  ·exact wW r h.2 t ht H'
end
end Go.Proofs.YtpghiabjaglpgaaGreatDoor
namespace Go.Proofs.YtpghiabjaglpgaaGreatDoor
open Go.AI
variable{kind:List Nat->Int}(K:SY kind)
section
variable(kind:List Nat->Int)
def np(c:Co):Bool:=kind c.n==3&&(decide (c.xs.length<=16)&&eN kind c.xs)
def sM(d:Da):Bool:=kind d.n==3&&(decide (d.vs.length<=16)&&(d.vs.all (fun s=>kind s==4)&&(decide (1<=d.cs.length)&&(decide (d.cs.length<=16)&&d.cs.all (np kind)))))
end
theorem iq{P:Program}{ty el:TypeId}{sz:Nat}(h1:P.underlying ty=some (.slice el))(h2:size P el=some sz){l:List (List D)}{i:Nat}{cs:List D}{κ:D->ai}(h:l[i]? = some cs):aJ P ty (.row sz l) (.int .i64 (i:Nat)) κ=κ (.eptr cs 0):=by
 rw[aJ,h1];simp only[h2];rw[NQ];simp only[Nat.beq_refl,cond_true];exact(aI i).trans (ak h)
theorem dc{P:Program}{ty el:TypeId}(h1:P.underlying ty=some (.slice el))(sz:Nat)(l:List (List D))(H:DH){κ:D->ai}:bY P ty (.row sz l) H κ=κ (.int .i64 (l.length:Nat)):=by rw[bY,h1]
theorem jF:Tryz.prog.underlying 142=some (.slice 144):=by kernel_rfl
theorem DQ:size Tryz.prog 144=some 2:=by kernel_rfl
theorem tw(a b:D)(H:DH){κ:D->ai}:eC Tryz.prog 144 (.eptr [a,b] 0) H κ=κ (.agg [a,b]):=by kernel_rfl
include K
theorem QV(c:Co)(H:DH)(h:c.ok):ab de (.call 248 [.agg (gI c)] none) H=ret (.bool (np kind c)) H:=by
 obtain⟨n,xs⟩:=c
 obtain⟨h1,h2⟩:=h
 refine ev (ZP _ _ _ _) ?_
 have h4:aT cA 188=true:=by kernel_rfl
 have h3:=SV h4 (p:=hQ kind) xs h1 (pu K xs h2) H
 rw[<- gJ,<- mf]at h3
 simp only[af (vq K _ _),af h3,au,bq,cp,Bool.cond_false_right,sE,np]
theorem KJ(d:Da)(H:DH)(h:d.ok):ab de (.call 186 [.agg (VB d)] none) H=ret (.bool (sM kind d)) H:=by
 obtain⟨n,vs,cs⟩:=d
 obtain⟨h1,h2,h3⟩:=h
 refine ev (aaf _ _ _ _ _) ?_
 have h4:aT cA 251=true:=by kernel_rfl
 have h5:aT cA 248=true:=by kernel_rfl
 have h6:=XE h4 (p:=fun s=>kind s==4) vs h1 (fun t _ H'=>Jn K t H') H
 have h7:=XI h5 (p:=np kind) cs h2 (fun t ht H'=>QV K t H' (h3 t ht)) H
 simp only[af (vq K _ _),af h6,af h7,au,List.length_map,cp,Bool.cond_false_right,sE,EF,sM]
theorem qN(n:List Nat)(vs:List (List Nat))(cs:List Co)(ic:Nat)(cn:List Nat)(xs:List Ty)(H:DH)(hl:xs.length<2^62):∀ pre suf,xs=pre++suf->Ty.oks suf ->
 ao de (ab de) 128 200015 [.lp 0 0,.g (.int .i64 (ic:Nat)),.lp 1 0,.g (.int .i64 (pre.length:Nat))] [(0,[.str n,.row 1 (vs.map kO),.row 2 (cs.map gI)]),(0,[.str cn,.row 2 (bJ xs)])] H
  = cond (eN kind suf) (ao de (ab de) 128 200009 [.lp 0 0,.g (.int .i64 (IntKind.wrap .i64 ((ic:Int)+1)))] [(0,[.str n,.row 1 (vs.map kO),.row 2 (cs.map gI)])] H) (ret (.bool false) H)
 |pre,[],e,_=>by
  have e2:xs.length=pre.length:=by rw[e];simp
  refine bg (uk _ _ _ _ _ _ _ _ _) ?_
  simp only[dc jF,bq,e2,bV,Int.lt_irrefl,decide_false,au,cond_false,eN,cond_true]
 |pre,t::suf,e,h=>by
  simp only[Ty.oks]at h
  refine bg (uk _ _ _ _ _ _ _ _ _) ?_
  have hi:pre.length<xs.length:=by rw[e];simp
  have h1:decide ((pre.length:Int)<((bJ xs).length:Int))=true:=by rw[bq];simp;exact hi
  have h2:(bJ xs)[pre.length]? = some (cN t):=by rw[e];exact fK _ _ _
  have h3:=mM K t H h.1
  have ih:=qN n vs cs ic cn xs H hl (pre++[t]) suf (by rw[e];simp) h.2
  obtain⟨tn,tas⟩:=t
  simp only[cN]at h3 h2
  simp only[dc jF,bV,h1,au,cond_true,iq jF DQ h2,tw,af h3,bp,aq (show pre.length<2^62 by omega)]
  simp only[List.length_append,List.length_singleton]at ih
  rw[ih]
  cases hh:hQ kind (.mk tn tas)<;>simp[eN,hh]
theorem oP(n:List Nat)(vs:List (List Nat))(cs:List Co)(H:DH)(hl:cs.length<2^62):∀ pre suf,cs=pre++suf->(∀ c∈suf,c.ok) ->
 ao de (ab de) 128 200009 [.lp 0 0,.g (.int .i64 (pre.length:Nat))] [(0,[.str n,.row 1 (vs.map kO),.row 2 (cs.map gI)])] H=ret (.bool (suf.all (np kind))) H
 |pre,[],e,_=>by
  have e2:cs.length=pre.length:=by rw[e];simp
  refine bg (ul _ _ _ _ _ _) ?_
  simp only[List.length_map,e2,Int.lt_irrefl,decide_false,cond_false,List.all_nil]
 |pre,c::suf,e,h=>by
  refine bg (ul _ _ _ _ _ _) ?_
  have hi:pre.length<cs.length:=by rw[e];simp
  have h1:decide ((pre.length:Int)<((cs.map gI).length:Int))=true:=by rw[List.length_map];simp;exact hi
  have h2:(cs.map gI)[pre.length]? = some (gI c):=by rw[e];exact bO _ _ _ _
  have hc:=h c (List.mem_cons_self ..)
  have ih:=oP n vs cs H hl (pre++[c]) suf (by rw[e];simp) (fun x hx=>h x (List.mem_cons_of_mem _ hx))
  simp only[List.length_append,List.length_singleton]at ih
  obtain⟨cn,xs⟩:=c
  obtain⟨hc1,hc2⟩:=hc
  have ht:=qN K n vs cs pre.length cn xs H hc1 [] xs rfl hc2
  rw[h1,cond_true,aI,ak h2]
  simp only[gI,am,ax,af (vp K _ _),bp,au,dc jF,bq,rj,NZ]
  have ht:ao de (ab de) 128 200015 [.lp 0 0,.g (.int .i64 (pre.length:Nat)),.lp 1 0,.g (.int .i64 0)] [(0,[.str n,.row 1 (vs.map kO),.row 2 (cs.map gI)]),(0,[.str cn,.row 2 (bJ xs)])] H=_:=ht
  rw[ht,aq (show pre.length<2^62 by omega),ih]
  simp only[List.all_cons,np]
  generalize(kind cn==3)=a
  generalize decide (xs.length<=16)=b
  generalize eN kind xs=c
  cases a<;>cases b<;>cases c<;>rfl
theorem oO(n:List Nat)(vs:List (List Nat))(cs:List Co)(H:DH)(hl:vs.length<2^62)(hc:cs.length<2^62)(hk:∀ c∈cs,c.ok):∀ pre suf,vs=pre++suf ->
 ao de (ab de) 128 200004 [.lp 0 0,.g (.int .i64 (pre.length:Nat))] [(0,[.str n,.row 1 (vs.map kO),.row 2 (cs.map gI)])] H=ret (.bool (suf.all (fun s=>kind s==4)&&cs.all (np kind))) H
 |pre,[],e=>by
  have e2:vs.length=pre.length:=by rw[e];simp
  refine bg (um _ _ _ _ _ _) ?_
  simp only[List.length_map,e2,Int.lt_irrefl,decide_false,cond_false,List.all_nil,Bool.true_and]
  exact oP K n vs cs H hc [] cs rfl hk
 |pre,c::suf,e=>by
  refine bg (um _ _ _ _ _ _) ?_
  have hi:pre.length<vs.length:=by rw[e];simp
  have h1:decide ((pre.length:Int)<((vs.map kO).length:Int))=true:=by rw[List.length_map];simp;exact hi
  have h2:(vs.map kO)[pre.length]? = some (kO c):=by rw[e];exact bO _ _ _ _
  have ih:=oO n vs cs H hl hc hk (pre++[c]) suf (by rw[e];simp)
  simp only[List.length_append,List.length_singleton]at ih
  rw[h1,cond_true,aI,ak h2]
  simp only[kO,am,af (Jm K _ _),bp,au,aq (show pre.length<2^62 by omega)]
  rw[ih]
  simp only[List.all_cons]
  cases (kind c==4)<;>rfl
theorem EN(d:Da)(H:DH)(h:d.ok):ab de (.call 128 [.agg (VB d)] none) H=ret (.bool (sM kind d)) H:=by
 obtain⟨n,vs,cs⟩:=d
 obtain⟨h1,h2,h3⟩:=h
 refine ev (aaq _ _ _ _ _) ?_
 have hv:ao de (ab de) 128 200004 [.lp 0 0,.g (.int .i64 0)] [(0,[.str n,.row 1 (vs.map kO),.row 2 (cs.map gI)])] H=_:=oO K n vs cs H h1 h2 h3 [] vs rfl
 simp only[af (vp K _ _),bp,au,List.length_map,NZ,WX,hv,sM]
 generalize(kind n==3)=a
 generalize decide (vs.length<=16)=b
 generalize decide (1<=cs.length)=c
 generalize decide (cs.length<=16)=d
 generalize vs.all (fun s=>kind s==4)=e
 generalize cs.all (np kind)=f
 cases a<;>cases b<;>cases c<;>cases d<;>cases e<;>cases f<;>rfl
end Go.Proofs.YtpghiabjaglpgaaGreatDoor
namespace Go.Proofs.YtpghiabjaglpgaaGreatDoor
open Go.AI
variable{kind:List Nat->Int}(K:SY kind)
def PC(d:Da):Bool:=d.n==[]&&(d.vs.length==0&&d.cs.length==0)
def PB:Ty->Bool
 |.mk n xs=>n==[]&&xs.length==0
def Sr:Ex->Bool
 |.mk k m n a xs ps=>k==0&&(m==0&&(n==[]&&(a==[]&&(xs.length==0&&ps.length==0))))
theorem VL(d:Da)(H:DH):ab de (.call 183 [.agg (VB d)] none) H=ret (.bool (PC d)) H:=by
 obtain⟨n,vs,cs⟩:=d
 exact ev (aai _ _ _ _ _) (by simp only[List.length_map,qJ,cp,Bool.cond_false_right,PC])
theorem VK(d:Da)(H:DH):ab de (.call 125 [.agg (VB d)] none) H=ret (.bool (PC d)) H:=by
 obtain⟨n,vs,cs⟩:=d
 exact ev (aat _ _ _ _ _) (by simp only[List.length_map,qJ,cp,Bool.cond_false_right,PC])
theorem VH(t:Ty)(H:DH):ab de (.call 184 [.agg (cN t)] none) H=ret (.bool (PB t)) H:=by
 obtain⟨n,xs⟩:=t
 refine ev (by simp only[cN];exact aah _ _ _ _) (by simp only[bq,qJ,cp,Bool.cond_false_right,PB])
theorem VG(t:Ty)(H:DH):ab de (.call 126 [.agg (cN t)] none) H=ret (.bool (PB t)) H:=by
 obtain⟨n,xs⟩:=t
 refine ev (by simp only[cN];exact aas _ _ _ _) (by simp only[bq,qJ,cp,Bool.cond_false_right,PB])
theorem VJ(t:Ex)(H:DH):ab de (.call 185 [.agg (bU t)] none) H=ret (.bool (Sr t)) H:=by
 obtain⟨k,m,n,a,xs,ps⟩:=t
 refine ev (by simp only[bU];exact aag _ _ _ _ _ _ _ _) (by simp only[bD,bG,qJ,cp,Bool.cond_false_right,Sr])
theorem VI(t:Ex)(H:DH):ab de (.call 127 [.agg (bU t)] none) H=ret (.bool (Sr t)) H:=by
 obtain⟨k,m,n,a,xs,ps⟩:=t
 refine ev (by simp only[bU];exact aar _ _ _ _ _ _ _ _) (by simp only[bD,bG,qJ,cp,Bool.cond_false_right,Sr])
section
variable(kind:List Nat->Int)
def pz(f:Fu):Bool:=kind f.n==2&&(kind f.a==2&&fy kind f.b)
def eK(d:De):Bool :=
 cond (d.k==1) (sM kind d.d&&(d.n==[]&&(PB d.t&&(Sr d.b&&d.fs.length==0))))
 (cond (d.k==2) (PC d.d&&(kind d.n==2&&(hQ kind d.t&&(Sr d.b&&d.fs.length==0))))
 (cond (d.k==3) (PC d.d&&(d.n==[]&&(PB d.t&&(Sr d.b&&(decide (1<=d.fs.length)&&(decide (d.fs.length<=16)&&d.fs.all (pz kind)))))))
 (cond (d.k==4) (PC d.d&&(kind d.n==2&&(PB d.t&&(fy kind d.b&&d.fs.length==0))))
 (cond (d.k==5) (PC d.d&&(kind d.n==2&&(PB d.t&&(fy kind d.b&&d.fs.length==0)))) false))))
end
include K
theorem NT(f:Fu)(H:DH)(h:f.b.ok):ab de (.call 190 [.agg (ir f)] none) H=ret (.bool (pz kind f)) H:=by
 obtain⟨n,a,⟨k,m,en,ea,xs,ps⟩⟩:=f
 refine ev (aab _ _ _ _ _ _ _ _ _ _) ?_
 have h1:=sD K (.mk k m en ea xs ps) H h
 simp only[bU]at h1
 simp only[af (qG K _ _),af h1,au,cp,Bool.cond_false_right,pz]
theorem KI(d:De)(H:DH)(h:d.ok):ab de (.call 117 [.agg (bo d)] none) H=ret (.bool (eK kind d)) H:=by
 obtain⟨k,⟨dn,vs,cs⟩,n,⟨tn,ts⟩,fs,⟨ek,em,en,ea,xs,ps⟩⟩:=d
 obtain⟨h1,h2,h3,h4,h5⟩:=h
 refine ev (aaB _ _ _ _ _ _ _ _ _ _ _ _ _ _ _ _) ?_
 have z1:=VL ⟨dn,vs,cs⟩ H
 have z2:=VH (.mk tn ts) H
 have z3:=VJ (.mk ek em en ea xs ps) H
 have w1:=KJ K ⟨dn,vs,cs⟩ H h1
 have w2:=AH K (.mk tn ts) H h2
 have w3:=sD K (.mk ek em en ea xs ps) H h5
 have hb:aT cA 190=true:=by kernel_rfl
 have w4:=XF hb (p:=pz kind) fs h3 (fun t ht H'=>NT K t H' (h4 t ht)) H
 simp only[cN,bU,VB]at z1 z2 z3 w1 w2 w3
 simp only[dq z1,dq z2,dq z3,af w1,af w2,af w3,af w4,af (qG K _ _),au,List.length_map,qJ,EF,sE,cp,Bool.cond_false_right,eK]
theorem EL(k:Int)(dn:List Nat)(vs:List (List Nat))(cs:List Co)(n tn:List Nat)(ts:List Ty)(fs:List Fu)(ek em:Int)(en ea:List Nat)(xs:List Ex)(ps:List Pa)(H:DH)(hl:fs.length<2^62):∀ pre suf,fs=pre++suf->(∀ f∈suf,f.b.ok) ->
 ao de (ab de) 67 200015 [.lp 0 0,.g (.int .i64 (pre.length:Nat))] [(0,bo ⟨k,⟨dn,vs,cs⟩,n,.mk tn ts,fs,.mk ek em en ea xs ps⟩)] H=ret (.bool (suf.all (pz kind)&&(n==[]&&(decide (1<=fs.length)&&decide (fs.length<=16))))) H
 |pre,[],e,_=>by
  have e2:fs.length=pre.length:=by rw[e];simp
  refine bg (xL _ _ _ _ _ _ _ _ _ _ _ _ _ _ _ _ _) ?_
  simp only[List.length_map,e2,Int.lt_irrefl,decide_false,cond_false,List.all_nil,Bool.true_and,EF,sE,cp,Bool.cond_false_right]
 |pre,f::suf,e,h=>by
  refine bg (xL _ _ _ _ _ _ _ _ _ _ _ _ _ _ _ _ _) ?_
  have hi:pre.length<fs.length:=by rw[e];simp
  have h1:decide ((pre.length:Int)<((fs.map ir).length:Int))=true:=by rw[List.length_map];simp;exact hi
  have h2:(fs.map ir)[pre.length]? = some (ir f):=by rw[e];exact bO _ _ _ _
  have hf:=h f (List.mem_cons_self ..)
  have ih:=EL k dn vs cs n tn ts fs ek em en ea xs ps H hl (pre++[f]) suf (by rw[e];simp) (fun x hx=>h x (List.mem_cons_of_mem _ hx))
  simp only[List.length_append,List.length_singleton,bo]at ih
  obtain⟨fn,fa,⟨k',m',en',ea',xs',ps'⟩⟩:=f
  have h3:=mN K (.mk k' m' en' ea' xs' ps') H hf
  simp only[bU]at h3
  rw[h1,cond_true]
  simp only[aI,ak h2,ir,am,ax,af (qF K _ _),af h3,bp,au,aq (show pre.length<2^62 by omega),ih,List.all_cons,pz]
  generalize(kind fn==2)=a
  generalize(kind fa==2)=b
  generalize fy kind (.mk k' m' en' ea' xs' ps')=c
  cases a<;>cases b<;>cases c<;>rfl
theorem EM(d:De)(H:DH)(h:d.ok):ab de (.call 67 [.agg (bo d)] none) H=ret (.bool (eK kind d)) H:=by
 obtain⟨k,⟨dn,vs,cs⟩,n,⟨tn,ts⟩,fs,⟨ek,em,en,ea,xs,ps⟩⟩:=d
 obtain⟨h1,h2,h3,h4,h5⟩:=h
 have z1:=VK ⟨dn,vs,cs⟩ H
 have z2:=VG (.mk tn ts) H
 have z3:=VI (.mk ek em en ea xs ps) H
 have w1:=EN K ⟨dn,vs,cs⟩ H h1
 have w2:=mM K (.mk tn ts) H h2
 have w3:=mN K (.mk ek em en ea xs ps) H h5
 have w4:=EL K k dn vs cs n tn ts fs ek em en ea xs ps H h3 [] fs rfl h4
 simp only[cN,bU,VB,bo]at z1 z2 z3 w1 w2 w3 w4
 have w4:ao de (ab de) 67 200015 [.lp 0 0,.g (.int .i64 0)] _ H=_:=w4
 have p6:ao de (ab de) 67 5 [.lp 0 0] [(0,bo ⟨k,⟨dn,vs,cs⟩,n,.mk tn ts,fs,.mk ek em en ea xs ps⟩)] H=_:=bg (Xp _ _ _ _ _ _ _ _ _ _ _ _ _ _ _ _) (bg (Xo _ _ _ _ _ _ _ _ _ _ _ _ _ _ _ _ _) rfl)
 simp only[af w1,af w2,af w3,w4,af (qF K _ _),au,cp,Bool.cond_false_right,bo]at p6
 have p3:ao de (ab de) 67 3 [.lp 0 0] [(0,bo ⟨k,⟨dn,vs,cs⟩,n,.mk tn ts,fs,.mk ek em en ea xs ps⟩)] H=_:=bg (Xq _ _ _ _ _ _ _ _ _ _ _ _ _ _ _ _) rfl
 simp only[af z3,p6,bp,au,bo]at p3
 refine ev (f67 _ _ _ _ _ _ _ _ _ _ _ _ _ _ _ _) ?_
 simp only[af z1,af z2,p3,bp,au,List.length_map,Oa,cp,eK]
 have hz:decide (fs.length>0)=!(fs.length==0):=by cases fs<;>simp
 rw[hz]
 generalize PC _=a1
 generalize PB _=a2
 generalize Sr _=a3
 generalize sM kind _=b1
 generalize hQ kind _=b2
 generalize fy kind _=b3
 generalize fs.all _=b4
 generalize(n==[])=c1
 generalize(kind n==2)=c2
 generalize(fs.length==0)=c3
 generalize decide (1<=fs.length)=c4
 generalize decide (fs.length<=16)=c5
 have hk:k=1\/k=2\/k=3\/k=4\/k=5\/((k==1)=false/\(k==2)=false/\(k==3)=false/\(k==4)=false/\(k==5)=false):=by
  simp only[beq_eq_false_iff_ne];omega
 rcases hk with rfl|rfl|rfl|rfl|rfl|⟨k1,k2,k3,k4,k5⟩
 ·cases a1<;>cases a2<;>cases a3<;>cases c1<;>cases c3<;>simp
 ·cases a1<;>cases a2<;>cases a3<;>cases c2<;>cases c3<;>simp
 ·cases a1<;>cases a2<;>cases a3<;>cases c1<;>cases b4<;>simp
 ·cases a1<;>cases a2<;>cases c2<;>cases b3<;>cases c3<;>simp
 ·cases a1<;>cases a2<;>cases c2<;>cases b3<;>cases c3<;>simp
 ·simp only[k1,k2,k3,k4,k5,bne,cond_false,Bool.not_false,cond_true]
  cases a1<;>cases a2<;>cases a3<;>cases c3<;>simp
end Go.Proofs.YtpghiabjaglpgaaGreatDoor
namespace Go.Proofs.YtpghiabjaglpgaaGreatDoor
open Go.AI
theorem tz(a b:Nat):max (a:Int) (b:Int)=((max a b:Nat):Int):=by omega
theorem Cv(a:Nat):decide ((a:Int)>100)=decide (a>100):=by rw[Bool.eq_iff_iff];simp;omega
mutual
def zJ:Ty->Nat->Nat
 |.mk _ xs,p=>bif decide (p>100)then p else max p (ee xs (p+1))
def ee:List Ty->Nat->Nat
 |[],_=>0
 |t::r,q=>max (zJ t q) (ee r q)
end
mutual
def zd:Pa->Nat->Nat
 |.mk _ _ xs,p=>bif decide (p>100)then p else max p (ij xs (p+1))
def ij:List Pa->Nat->Nat
 |[],_=>0
 |t::r,q=>max (zd t q) (ij r q)
end
mutual
def zK:Ex->Nat->Nat
 |.mk _ _ _ _ xs ps,p=>bif decide (p>100)then p else max (max p (ij ps (p+1))) (gc xs (p+1))
def gc:List Ex->Nat->Nat
 |[],_=>0
 |t::r,q=>max (zK t q) (gc r q)
end
mutual
theorem OA:∀(t:Ty) (p:Nat) (H:DH),t.ok->p<=101->ab de (.call 120 [.agg (cN t),.int .i64 (p:Nat)] none) H=ret (.int .i64 (zJ t p:Nat)) H
 |.mk n xs,p,H,h,hp=>by
  simp only[Ty.ok]at h
  refine ev (by simp only[cN];exact aay _ _ _ _ _) ?_
  rw[Cv,zJ]
  cases hq:decide (p>100)with
  |true=>simp only[cond_true]
  |false =>
   have hp2:p<=100:=by simp at hq;omega
   simp only[cond_false]
   exact JE n xs p hp2 H h.1 [] xs p rfl h.2
theorem JE(n:List Nat)(xs:List Ty)(p:Nat)(hp:p<=100)(H:DH)(hl:xs.length<2^62):∀ pre suf (a:Nat),xs=pre++suf->Ty.oks suf ->
 ao de (ab de) 120 200005 [.g (.int .i64 (p:Nat)),.lp 0 0,.g (.int .i64 (a:Nat)),.g (.int .i64 (pre.length:Nat))] [(0,[.str n,.row 2 (bJ xs)])] H=ret (.int .i64 (max a (ee suf (p+1)):Nat)) H
 |pre,[],a,e,_=>by
  have e2:xs.length=pre.length:=by rw[e];simp
  refine bg (uu _ _ _ _ _ _ _) ?_
  simp only[bq,e2,Int.lt_irrefl,decide_false,cond_false,ee,Nat.max_zero]
 |pre,t::suf,a,e,h=>by
  simp only[Ty.oks]at h
  refine bg (uu _ _ _ _ _ _ _) ?_
  have hi:pre.length<xs.length:=by rw[e];simp
  have h1:decide ((pre.length:Int)<((bJ xs).length:Int))=true:=by rw[bq];simp;exact hi
  have h2:(bJ xs)[pre.length]? = some (cN t):=by rw[e];exact fK _ _ _
  have h3:=OA t (p+1) H h.1 (by omega)
  have ih:=JE n xs p hp H hl (pre++[t]) suf (max a (zJ t (p+1))) (by rw[e];simp) h.2
  have hdq:ee (t::suf) (p+1)=max (zJ t (p+1)) (ee suf (p+1)):=by rw[ee]
  rw[hdq]
  generalize zJ t (p+1)=q at h3 ih ⊢
  obtain⟨tn,tas⟩:=t
  simp only[cN]at h3 h2
  simp only[List.length_append,List.length_singleton]at ih
  simp only[h1,cond_true,aI,ak h2,am,ax,aq (show p<2^62 by omega),af h3,tu,mF,tz,aq (show pre.length<2^62 by omega),ih]
  rw[Nat.max_assoc]
end
mutual
theorem OB:∀(t:Pa) (p:Nat) (H:DH),t.ok->p<=101->ab de (.call 193 [.agg (dD t),.int .i64 (p:Nat)] none) H=ret (.int .i64 (zd t p:Nat)) H
 |.mk k n xs,p,H,h,hp=>by
  simp only[Pa.ok]at h
  refine ev (by simp only[dD];exact ZY _ _ _ _ _ _) ?_
  rw[Cv,zd]
  cases hq:decide (p>100)with
  |true=>simp only[cond_true]
  |false =>
   have hp2:p<=100:=by simp at hq;omega
   simp only[cond_false]
   exact JF k n xs p hp2 H h.1 [] xs p rfl h.2
theorem JF(k:Int)(n:List Nat)(xs:List Pa)(p:Nat)(hp:p<=100)(H:DH)(hl:xs.length<2^62):∀ pre suf (a:Nat),xs=pre++suf->Pa.oks suf ->
 ao de (ab de) 193 200005 [.g (.int .i64 (p:Nat)),.lp 0 0,.g (.int .i64 (a:Nat)),.g (.int .i64 (pre.length:Nat))] [(0,[.int .i64 k,.str n,.row 3 (bM xs)])] H=ret (.int .i64 (max a (ij suf (p+1)):Nat)) H
 |pre,[],a,e,_=>by
  have e2:xs.length=pre.length:=by rw[e];simp
  refine bg (tZ _ _ _ _ _ _ _ _) ?_
  simp only[bG,e2,Int.lt_irrefl,decide_false,cond_false,ij,Nat.max_zero]
 |pre,t::suf,a,e,h=>by
  simp only[Pa.oks]at h
  refine bg (tZ _ _ _ _ _ _ _ _) ?_
  have hi:pre.length<xs.length:=by rw[e];simp
  have h1:decide ((pre.length:Int)<((bM xs).length:Int))=true:=by rw[bG];simp;exact hi
  have h2:(bM xs)[pre.length]? = some (dD t):=by rw[e];exact gC _ _ _
  have h3:=OB t (p+1) H h.1 (by omega)
  have ih:=JF k n xs p hp H hl (pre++[t]) suf (max a (zd t (p+1))) (by rw[e];simp) h.2
  have hdq:ij (t::suf) (p+1)=max (zd t (p+1)) (ij suf (p+1)):=by rw[ij]
  rw[hdq]
  generalize zd t (p+1)=q at h3 ih ⊢
  obtain⟨tk,tn,tas⟩:=t
  simp only[dD]at h3 h2
  simp only[List.length_append,List.length_singleton]at ih
  simp only[h1,cond_true,aI,ak h2,am,ax,aq (show p<2^62 by omega),af h3,tu,mF,tz,aq (show pre.length<2^62 by omega),ih]
  rw[Nat.max_assoc]
end
theorem JI(k m:Int)(n b:List Nat)(xs:List Ex)(ps:List Pa)(p:Nat)(hp:p<=100)(H:DH)(hl:xs.length<2^62)(hlp:ps.length<2^62)(X:Nat)(hx:∀ a:Nat,ao de (ab de) 122 200009 [.g (.int .i64 (p:Nat)),.lp 0 0,.g (.int .i64 (a:Nat)),.g (.int .i64 0)] [(0,[.int .i64 k,.int .i64 m,.str n,.str b,.row 6 (bI xs),.row 3 (bM ps)])] H=ret (.int .i64 (max a X:Nat)) H):∀ pre suf (a:Nat),ps=pre++suf->Pa.oks suf ->
 ao de (ab de) 122 200005 [.g (.int .i64 (p:Nat)),.lp 0 0,.g (.int .i64 (a:Nat)),.g (.int .i64 (pre.length:Nat))] [(0,[.int .i64 k,.int .i64 m,.str n,.str b,.row 6 (bI xs),.row 3 (bM ps)])] H=ret (.int .i64 (max (max a (ij suf (p+1))) X:Nat)) H
 |pre,[],a,e,_=>by
  have e2:ps.length=pre.length:=by rw[e];simp
  refine bg (us _ _ _ _ _ _ _ _ _ _ _) ?_
  simp only[bG,e2,Int.lt_irrefl,decide_false,cond_false,ij,Nat.max_zero]
  exact hx a
 |pre,t::suf,a,e,h=>by
  simp only[Pa.oks]at h
  refine bg (us _ _ _ _ _ _ _ _ _ _ _) ?_
  have hi:pre.length<ps.length:=by rw[e];simp
  have h1:decide ((pre.length:Int)<((bM ps).length:Int))=true:=by rw[bG];simp;exact hi
  have h2:(bM ps)[pre.length]? = some (dD t):=by rw[e];exact gC _ _ _
  have h3:=OB t (p+1) H h.1 (by omega)
  have ih:=JI k m n b xs ps p hp H hl hlp X hx (pre++[t]) suf (max a (zd t (p+1))) (by rw[e];simp) h.2
  have hdq:ij (t::suf) (p+1)=max (zd t (p+1)) (ij suf (p+1)):=by rw[ij]
  rw[hdq]
  generalize zd t (p+1)=q at h3 ih ⊢
  obtain⟨tk,tn,tas⟩:=t
  simp only[dD]at h3 h2
  simp only[List.length_append,List.length_singleton]at ih
  simp only[h1,cond_true,aI,ak h2,am,ax,aq (show p<2^62 by omega),af h3,tu,mF,tz,aq (show pre.length<2^62 by omega),ih]
  rw[Nat.max_assoc a]
mutual
theorem OC:∀(t:Ex) (p:Nat) (H:DH),t.ok->p<=101->ab de (.call 122 [.agg (bU t),.int .i64 (p:Nat)] none) H=ret (.int .i64 (zK t p:Nat)) H
 |.mk k m n b xs ps,p,H,h,hp=>by
  simp only[Ex.ok]at h
  refine ev (by simp only[bU];exact aaw _ _ _ _ _ _ _ _ _) ?_
  rw[Cv,zK]
  cases hq:decide (p>100)with
  |true=>simp only[cond_true]
  |false =>
   have hp2:p<=100:=by simp at hq;omega
   simp only[cond_false]
   exact JI k m n b xs ps p hp2 H h.1 h.2.2.1 _ (fun a=>JH k m n b xs ps p hp2 H h.1 [] xs a rfl h.2.1) [] ps p rfl h.2.2.2
theorem JH(k m:Int)(n b:List Nat)(xs:List Ex)(ps:List Pa)(p:Nat)(hp:p<=100)(H:DH)(hl:xs.length<2^62):∀ pre suf (a:Nat),xs=pre++suf->Ex.oks suf ->
 ao de (ab de) 122 200009 [.g (.int .i64 (p:Nat)),.lp 0 0,.g (.int .i64 (a:Nat)),.g (.int .i64 (pre.length:Nat))] [(0,[.int .i64 k,.int .i64 m,.str n,.str b,.row 6 (bI xs),.row 3 (bM ps)])] H=ret (.int .i64 (max a (gc suf (p+1)):Nat)) H
 |pre,[],a,e,_=>by
  have e2:xs.length=pre.length:=by rw[e];simp
  refine bg (ur _ _ _ _ _ _ _ _ _ _ _) ?_
  simp only[bD,e2,Int.lt_irrefl,decide_false,cond_false,gc,Nat.max_zero]
 |pre,t::suf,a,e,h=>by
  simp only[Ex.oks]at h
  refine bg (ur _ _ _ _ _ _ _ _ _ _ _) ?_
  have hi:pre.length<xs.length:=by rw[e];simp
  have h1:decide ((pre.length:Int)<((bI xs).length:Int))=true:=by rw[bD];simp;exact hi
  have h2:(bI xs)[pre.length]? = some (bU t):=by rw[e];exact gH _ _ _
  have h3:=OC t (p+1) H h.1 (by omega)
  have ih:=JH k m n b xs ps p hp H hl (pre++[t]) suf (max a (zK t (p+1))) (by rw[e];simp) h.2
  have hdq:gc (t::suf) (p+1)=max (zK t (p+1)) (gc suf (p+1)):=by rw[gc]
  rw[hdq]
  generalize zK t (p+1)=q at h3 ih ⊢
  obtain⟨tk,tm,tn,tb,tas,tps⟩:=t
  simp only[bU]at h3 h2
  simp only[List.length_append,List.length_singleton]at ih
  simp only[h1,cond_true,aI,ak h2,am,ax,aq (show p<2^62 by omega),af h3,tu,mF,tz,aq (show pre.length<2^62 by omega),ih]
  rw[Nat.max_assoc]
end
theorem ka{H:DH}{o:Nat}{b:DB}(h:H[o]? = some b):o<H.length:=by
 rcases Nat.lt_or_ge o H.length with q|q
 ·exact q
 ·rw[List.getElem?_eq_none q]at h;cases h
theorem jS{H X:DH}{o:Nat}{b:DB}(ho:o<H.length)(hb:b.bel H.length):aZ H (ret (.tuple []) ((H++X).set o b))=ret (.tuple []) (H.set o b):=by
 have e:(H++X).set o b=H.set o b++X:=by rw[List.set_append,if_pos ho]
 have h:nD H ⟨.ret (.tuple []),none,(H++X).set o b⟩:=by
  refine⟨by simp[Dv.bel,D.bel,ef],rfl,by simp,fun i x hi hx=>?_⟩
  rw[e,List.getElem?_append_left (by simpa using hi)]at hx
  by_cases hio:o=i
  ·subst hio
   rw[List.getElem?_set_self hi]at hx
   cases hx;exact .inr hb
  ·rw[List.getElem?_set_ne hio]at hx;exact .inl hx
 simp only[aZ,ret]
 rw[if_pos h,e]
 simp
theorem GP{H:DH}{o st d p:Nat}(g:FuncId)(cap:List D)(hb:aT cA g=true)(ho:H[o]? = some (.cells st [.int .i64 (d:Nat)])) :
 ab de (.call 299 [.ptr o 0,.int .i64 (p:Nat),.func g [] cap] none) H=bif decide (p<=100)then C (ab de) g cap (H.set o (.cells (st+1) [.int .i64 (max d p:Nat)])) (fun _ H=>ret (.tuple []) H)else ret (.tuple []) (H.set o (.cells (st+1) [.int .i64 (max d p:Nat)])):=by
 refine ev (Zy _ _ _ _ _) ?_
 have hq:decide ((p:Int)<=100)=decide (p<=100):=by rw[Bool.eq_iff_iff];simp;omega
 simp only[ac ho,am,tu,mF,tz,hq,eH hb,List.nil_append]
 rfl
theorem yy(a b:D)(κ:List D->ai):ag 2 (.agg [a,b]) κ=κ [a,b]:=rfl
theorem Qn(a b x y:D)(κ:List D->ai):aw [a,b] 0 [x,y] κ=κ [x,y]:=rfl
mutual
theorem CT:∀(t:Ty) (p d st o:Nat) (H:DH),H[o]? = some (.cells st [.int .i64 (d:Nat)])->t.ok->p<=101 ->
 ∃ st',ab de (.call 243 [.ptr o 0,.agg (cN t),.int .i64 (p:Nat)] none) H=ret (.tuple []) (H.set o (.cells st' [.int .i64 (max d (zJ t p):Nat)]))
 |.mk n xs,p,d,st,o,H,ho,h,hp=>by
  simp only[Ty.ok]at h
  have hlt:=ka ho
  have e1:((H++[DB.cells 0 [.ptr o 0]])++[DB.cells 0 (cN (.mk n xs))]++[DB.cells 0 [.int .i64 (p:Nat)]])[H.length]? = some (.cells 0 [.ptr o 0]):=aj _ (aj _ (aY _ _))
  have e2:((H++[DB.cells 0 [.ptr o 0]])++[DB.cells 0 (cN (.mk n xs))]++[DB.cells 0 [.int .i64 (p:Nat)]])[(H++[DB.cells 0 [.ptr o 0]]).length]? = some (.cells 0 (cN (.mk n xs))):=aj _ (aY _ _)
  have e3:((H++[DB.cells 0 [.ptr o 0]])++[DB.cells 0 (cN (.mk n xs))]++[DB.cells 0 [.int .i64 (p:Nat)]])[((H++[DB.cells 0 [.ptr o 0]])++[DB.cells 0 (cN (.mk n xs))]).length]? = some (.cells 0 [.int .i64 (p:Nat)]):=aY _ _
  have e4:((H++[DB.cells 0 [.ptr o 0]])++[DB.cells 0 (cN (.mk n xs))]++[DB.cells 0 [.int .i64 (p:Nat)]])[o]? = some (.cells st [.int .i64 (d:Nat)]):=aj _ (aj _ (aj _ ho))
  have hX:(H++[DB.cells 0 [.ptr o 0]])++[DB.cells 0 (cN (.mk n xs))]++[DB.cells 0 [.int .i64 (p:Nat)]]=H++([DB.cells 0 [.ptr o 0]]++[DB.cells 0 (cN (.mk n xs))]++[DB.cells 0 [.int .i64 (p:Nat)]]):=by simp only[List.append_assoc]
  have n1:(H++[DB.cells 0 [.ptr o 0]]).length≠o:=by simp;omega
  have n2:H.length≠o:=by omega
  have n3:((H++[DB.cells 0 [.ptr o 0]])++[DB.cells 0 (cN (.mk n xs))]).length≠o:=by simp;omega
  have hb:aT cA 300=true:=by kernel_rfl
  have nd:=GP (p:=p) 300 [.ptr (H++[DB.cells 0 [.ptr o 0]]).length 0,.ptr H.length 0,.ptr ((H++[DB.cells 0 [.ptr o 0]])++[DB.cells 0 (cN (.mk n xs))]).length 0] hb e4
  generalize hG:(H++[DB.cells 0 [.ptr o 0]])++[DB.cells 0 (cN (.mk n xs))]++[DB.cells 0 [.int .i64 (p:Nat)]]=G at e1 e2 e3 e4 hX nd
  have hfin:∃ st',ab de (.call 299 [.ptr o 0,.int .i64 (p:Nat),.func 300 [] [.ptr (H++[DB.cells 0 [.ptr o 0]]).length 0,.ptr H.length 0,.ptr ((H++[DB.cells 0 [.ptr o 0]])++[DB.cells 0 (cN (.mk n xs))]).length 0]] none) G=ret (.tuple []) (G.set o (.cells st' [.int .i64 (max d (zJ (.mk n xs) p):Nat)])):=by
   cases hq:decide (p<=100)with
   |false =>
    have hp2:¬ p<=100:=by simpa using hq
    refine⟨st+1,?_⟩
    rw[nd,hq,cond_false,zJ,show decide (p>100)=true by simp;omega,cond_true]
   |true =>
    have hp2:p<=100:=by simpa using hq
    obtain⟨st',hl⟩:=Fp xs p hp2 o H.length ((H++[DB.cells 0 [.ptr o 0]])++[DB.cells 0 (cN (.mk n xs))]).length 0 0 h.1 n2 n3 [] xs (st+1) (max d p) (G.set o (.cells (st+1) [.int .i64 (max d p:Nat)])) (be _ e4) (ae _ n2.symm e1) (ae _ n3.symm e3) rfl h.2
    refine⟨st',?_⟩
    have hc:ab de (.call 300 [.ptr (H++[DB.cells 0 [.ptr o 0]]).length 0,.ptr H.length 0,.ptr ((H++[DB.cells 0 [.ptr o 0]])++[DB.cells 0 (cN (.mk n xs))]).length 0] none) (G.set o (.cells (st+1) [.int .i64 (max d p:Nat)]))=ret (.tuple []) (G.set o (.cells st' [.int .i64 (max d (zJ (.mk n xs) p):Nat)])):=by
     refine ev (Zx _ _ _ _ _) ?_
     rw[ac (ae _ n1.symm e2)]
     simp only[cN,am,ax,dc jF,bq]
     refine Eq.trans hl ?_
     rw[List.set_set,zJ,show decide (p>100)=false by simp;omega,cond_false,Nat.max_assoc]
    rw[nd,hq,cond_true,af hc]
  obtain⟨st',hf⟩:=hfin
  refine⟨st',ev (by simp only[cN];exact f243 _ _ _ _ _ _) ?_⟩
  simp only[cN]at hG e1 e3 hf ⊢
  show aZ H (aA ((H++[DB.cells 0 [.ptr o 0]])++[DB.cells 0 [.str n,.row 2 (bJ xs)]]++[DB.cells 0 [.int .i64 (p:Nat)]]) H.length _)=_
  rw[hG,ac e1]
  simp only[am]
  rw[ac e3]
  simp only[am]
  rw[af hf]
  rw[hX]
  exact jS hlt (by simp[DB.bel,ef,D.bel])
theorem Fp(xs:List Ty)(p:Nat)(hp:p<=100)(o v1 v2 s1 s2:Nat)(hl:xs.length<2^62)(n1:v1≠o)(n2:v2≠o):∀(pre suf:List Ty) (st d:Nat) (H:DH),H[o]? = some (.cells st [.int .i64 (d:Nat)])->H[v1]? = some (.cells s1 [.ptr o 0])->H[v2]? = some (.cells s2 [.int .i64 (p:Nat)])->xs=pre++suf->Ty.oks suf ->
 ∃ st',ao de (ab de) 300 200001 [.g (.ptr v1 0),.g (.ptr v2 0),.g (.row 2 (bJ xs)),.g (.int .i64 (xs.length:Nat)),.g (.int .i64 (pre.length:Nat))] [] H=ret (.tuple []) (H.set o (.cells st' [.int .i64 (max d (ee suf (p+1)):Nat)]))
 |pre,[],st,d,H,ho,h1,h2,e,_=>by
  have e2:xs.length=pre.length:=by rw[e];simp
  refine⟨st,bg (tS _ _ _ _ _ _ _) ?_⟩
  simp only[e2,Int.lt_irrefl,decide_false,cond_false,ee,Nat.max_zero,ol ho]
 |pre,t::suf,st,d,H,ho,h1,h2,e,h=>by
  simp only[Ty.oks]at h
  have hi:pre.length<xs.length:=by rw[e];simp
  have hd:decide ((pre.length:Int)<(xs.length:Int))=true:=by simp;exact hi
  have ht:(bJ xs)[pre.length]? = some (cN t):=by rw[e];exact fK _ _ _
  obtain⟨gi,hc⟩:=CT t (p+1) d st o H ho h.1 (by omega)
  obtain⟨st',ih⟩:=Fp xs p hp o v1 v2 s1 s2 hl n1 n2 (pre++[t]) suf gi (max d (zJ t (p+1))) (H.set o (.cells gi [.int .i64 (max d (zJ t (p+1)):Nat)])) (be _ ho) (ae _ n1.symm h1) (ae _ n2.symm h2) (by rw[e];simp) h.2
  refine⟨st',bg (tS _ _ _ _ _ _ _) ?_⟩
  have hdq:ee (t::suf) (p+1)=max (zJ t (p+1)) (ee suf (p+1)):=by rw[ee]
  rw[hdq,<- Nat.max_assoc]
  generalize zJ t (p+1)=q at hc ih ⊢
  obtain⟨tn,tas⟩:=t
  simp only[cN]at ht hc
  simp only[List.length_append,List.length_singleton,List.set_set]at ih
  simp only[hd,cond_true,iq jF DQ ht,tw,yy,Qn,ac h1,ac h2,am,ax,cg,aq (show p<2^62 by omega),af hc,aq (show pre.length<2^62 by omega)]
  exact ih
end
theorem Ss:Tryz.prog.underlying 84=some (.slice 232):=by kernel_rfl
theorem PW:size Tryz.prog 232=some 3:=by kernel_rfl
theorem Jk(a b c:D)(H:DH){κ:D->ai}:eC Tryz.prog 232 (.eptr [a,b,c] 0) H κ=κ (.agg [a,b,c]):=by kernel_rfl
theorem yx(a b c:D)(κ:List D->ai):ag 3 (.agg [a,b,c]) κ=κ [a,b,c]:=rfl
theorem Qm(a b c x y z:D)(κ:List D->ai):aw [a,b,c] 0 [x,y,z] κ=κ [x,y,z]:=rfl
mutual
theorem JG:∀(t:Pa) (p d st o:Nat) (H:DH),H[o]? = some (.cells st [.int .i64 (d:Nat)])->t.ok->p<=101 ->
 ∃ st',ab de (.call 302 [.ptr o 0,.agg (dD t),.int .i64 (p:Nat)] none) H=ret (.tuple []) (H.set o (.cells st' [.int .i64 (max d (zd t p):Nat)]))
 |.mk k n xs,p,d,st,o,H,ho,h,hp=>by
  simp only[Pa.ok]at h
  have hlt:=ka ho
  have e1:((H++[DB.cells 0 [.ptr o 0]])++[DB.cells 0 (dD (.mk k n xs))]++[DB.cells 0 [.int .i64 (p:Nat)]])[H.length]? = some (.cells 0 [.ptr o 0]):=aj _ (aj _ (aY _ _))
  have e2:((H++[DB.cells 0 [.ptr o 0]])++[DB.cells 0 (dD (.mk k n xs))]++[DB.cells 0 [.int .i64 (p:Nat)]])[(H++[DB.cells 0 [.ptr o 0]]).length]? = some (.cells 0 (dD (.mk k n xs))):=aj _ (aY _ _)
  have e3:((H++[DB.cells 0 [.ptr o 0]])++[DB.cells 0 (dD (.mk k n xs))]++[DB.cells 0 [.int .i64 (p:Nat)]])[((H++[DB.cells 0 [.ptr o 0]])++[DB.cells 0 (dD (.mk k n xs))]).length]? = some (.cells 0 [.int .i64 (p:Nat)]):=aY _ _
  have e4:((H++[DB.cells 0 [.ptr o 0]])++[DB.cells 0 (dD (.mk k n xs))]++[DB.cells 0 [.int .i64 (p:Nat)]])[o]? = some (.cells st [.int .i64 (d:Nat)]):=aj _ (aj _ (aj _ ho))
  have hX:(H++[DB.cells 0 [.ptr o 0]])++[DB.cells 0 (dD (.mk k n xs))]++[DB.cells 0 [.int .i64 (p:Nat)]]=H++([DB.cells 0 [.ptr o 0]]++[DB.cells 0 (dD (.mk k n xs))]++[DB.cells 0 [.int .i64 (p:Nat)]]):=by simp only[List.append_assoc]
  have n1:(H++[DB.cells 0 [.ptr o 0]]).length≠o:=by simp;omega
  have n2:H.length≠o:=by omega
  have n3:((H++[DB.cells 0 [.ptr o 0]])++[DB.cells 0 (dD (.mk k n xs))]).length≠o:=by simp;omega
  have hb:aT cA 330=true:=by kernel_rfl
  have nd:=GP (p:=p) 330 [.ptr (H++[DB.cells 0 [.ptr o 0]]).length 0,.ptr H.length 0,.ptr ((H++[DB.cells 0 [.ptr o 0]])++[DB.cells 0 (dD (.mk k n xs))]).length 0] hb e4
  generalize hG:(H++[DB.cells 0 [.ptr o 0]])++[DB.cells 0 (dD (.mk k n xs))]++[DB.cells 0 [.int .i64 (p:Nat)]]=G at e1 e2 e3 e4 hX nd
  have hfin:∃ st',ab de (.call 299 [.ptr o 0,.int .i64 (p:Nat),.func 330 [] [.ptr (H++[DB.cells 0 [.ptr o 0]]).length 0,.ptr H.length 0,.ptr ((H++[DB.cells 0 [.ptr o 0]])++[DB.cells 0 (dD (.mk k n xs))]).length 0]] none) G=ret (.tuple []) (G.set o (.cells st' [.int .i64 (max d (zd (.mk k n xs) p):Nat)])):=by
   cases hq:decide (p<=100)with
   |false =>
    have hp2:¬ p<=100:=by simpa using hq
    refine⟨st+1,?_⟩
    rw[nd,hq,cond_false,zd,show decide (p>100)=true by simp;omega,cond_true]
   |true =>
    have hp2:p<=100:=by simpa using hq
    obtain⟨st',hl⟩:=Fq xs p hp2 o H.length ((H++[DB.cells 0 [.ptr o 0]])++[DB.cells 0 (dD (.mk k n xs))]).length 0 0 h.1 n2 n3 [] xs (st+1) (max d p) (G.set o (.cells (st+1) [.int .i64 (max d p:Nat)])) (be _ e4) (ae _ n2.symm e1) (ae _ n3.symm e3) rfl h.2
    refine⟨st',?_⟩
    have hc:ab de (.call 330 [.ptr (H++[DB.cells 0 [.ptr o 0]]).length 0,.ptr H.length 0,.ptr ((H++[DB.cells 0 [.ptr o 0]])++[DB.cells 0 (dD (.mk k n xs))]).length 0] none) (G.set o (.cells (st+1) [.int .i64 (max d p:Nat)]))=ret (.tuple []) (G.set o (.cells st' [.int .i64 (max d (zd (.mk k n xs) p):Nat)])):=by
     refine ev (Zd _ _ _ _ _) ?_
     rw[ac (ae _ n1.symm e2)]
     simp only[dD,am,ax,dc Ss,bG]
     refine Eq.trans hl ?_
     rw[List.set_set,zd,show decide (p>100)=false by simp;omega,cond_false,Nat.max_assoc]
    rw[nd,hq,cond_true,af hc]
  obtain⟨st',hf⟩:=hfin
  refine⟨st',ev (by simp only[dD];exact Zv _ _ _ _ _ _ _) ?_⟩
  simp only[dD]at hG e1 e3 hf ⊢
  show aZ H (aA ((H++[DB.cells 0 [.ptr o 0]])++[DB.cells 0 [.int .i64 k,.str n,.row 3 (bM xs)]]++[DB.cells 0 [.int .i64 (p:Nat)]]) H.length _)=_
  rw[hG,ac e1]
  simp only[am]
  rw[ac e3]
  simp only[am]
  rw[af hf]
  rw[hX]
  exact jS hlt (by simp[DB.bel,ef,D.bel])
theorem Fq(xs:List Pa)(p:Nat)(hp:p<=100)(o v1 v2 s1 s2:Nat)(hl:xs.length<2^62)(n1:v1≠o)(n2:v2≠o):∀(pre suf:List Pa) (st d:Nat) (H:DH),H[o]? = some (.cells st [.int .i64 (d:Nat)])->H[v1]? = some (.cells s1 [.ptr o 0])->H[v2]? = some (.cells s2 [.int .i64 (p:Nat)])->xs=pre++suf->Pa.oks suf ->
 ∃ st',ao de (ab de) 330 200001 [.g (.ptr v1 0),.g (.ptr v2 0),.g (.row 3 (bM xs)),.g (.int .i64 (xs.length:Nat)),.g (.int .i64 (pre.length:Nat))] [] H=ret (.tuple []) (H.set o (.cells st' [.int .i64 (max d (ij suf (p+1)):Nat)]))
 |pre,[],st,d,H,ho,h1,h2,e,_=>by
  have e2:xs.length=pre.length:=by rw[e];simp
  refine⟨st,bg (tK _ _ _ _ _ _ _) ?_⟩
  simp only[e2,Int.lt_irrefl,decide_false,cond_false,ij,Nat.max_zero,ol ho]
 |pre,t::suf,st,d,H,ho,h1,h2,e,h=>by
  simp only[Pa.oks]at h
  have hi:pre.length<xs.length:=by rw[e];simp
  have hd:decide ((pre.length:Int)<(xs.length:Int))=true:=by simp;exact hi
  have ht:(bM xs)[pre.length]? = some (dD t):=by rw[e];exact gC _ _ _
  obtain⟨gi,hc⟩:=JG t (p+1) d st o H ho h.1 (by omega)
  obtain⟨st',ih⟩:=Fq xs p hp o v1 v2 s1 s2 hl n1 n2 (pre++[t]) suf gi (max d (zd t (p+1))) (H.set o (.cells gi [.int .i64 (max d (zd t (p+1)):Nat)])) (be _ ho) (ae _ n1.symm h1) (ae _ n2.symm h2) (by rw[e];simp) h.2
  refine⟨st',bg (tK _ _ _ _ _ _ _) ?_⟩
  have hdq:ij (t::suf) (p+1)=max (zd t (p+1)) (ij suf (p+1)):=by rw[ij]
  rw[hdq,<- Nat.max_assoc]
  generalize zd t (p+1)=q at hc ih ⊢
  obtain⟨tk,tn,tas⟩:=t
  simp only[dD]at ht hc
  simp only[List.length_append,List.length_singleton,List.set_set]at ih
  simp only[hd,cond_true,iq Ss PW ht,Jk,yx,Qm,ac h1,ac h2,am,ax,cg,aq (show p<2^62 by omega),af hc,aq (show pre.length<2^62 by omega)]
  exact ih
end
theorem Px:Tryz.prog.underlying 83=some (.slice 86):=by kernel_rfl
theorem XO:size Tryz.prog 86=some 6:=by kernel_rfl
theorem NJ(a b c d e f:D)(H:DH){κ:D->ai}:eC Tryz.prog 86 (.eptr [a,b,c,d,e,f] 0) H κ=κ (.agg [a,b,c,d,e,f]):=by kernel_rfl
theorem OO(a b c d e f:D)(κ:List D->ai):ag 6 (.agg [a,b,c,d,e,f]) κ=κ [a,b,c,d,e,f]:=rfl
theorem We(a b c d e f x y z u v w:D)(κ:List D->ai):aw [a,b,c,d,e,f] 0 [x,y,z,u,v,w] κ=κ [x,y,z,u,v,w]:=rfl
theorem Bj(xs:List Pa)(p:Nat)(hp:p<=100)(o v1 v2 s1 s2:Nat)(hl:xs.length<2^62)(n1:v1≠o)(n2:v2≠o):∀(pre suf:List Pa) (st d:Nat) (H:DH),H[o]? = some (.cells st [.int .i64 (d:Nat)])->H[v1]? = some (.cells s1 [.ptr o 0])->H[v2]? = some (.cells s2 [.int .i64 (p:Nat)])->xs=pre++suf->Pa.oks suf ->
 ∃ st',ao de (ab de) 301 200006 [.g (.ptr v1 0),.g (.ptr v2 0),.g (.row 3 (bM xs)),.g (.int .i64 (xs.length:Nat)),.g (.int .i64 (pre.length:Nat))] [] H=ret (.tuple []) (H.set o (.cells st' [.int .i64 (max d (ij suf (p+1)):Nat)]))
 |pre,[],st,d,H,ho,h1,h2,e,_=>by
  have e2:xs.length=pre.length:=by rw[e];simp
  refine⟨st,bg (tQ _ _ _ _ _ _ _) ?_⟩
  simp only[e2,Int.lt_irrefl,decide_false,cond_false,ij,Nat.max_zero,ol ho]
 |pre,t::suf,st,d,H,ho,h1,h2,e,h=>by
  simp only[Pa.oks]at h
  have hi:pre.length<xs.length:=by rw[e];simp
  have hd:decide ((pre.length:Int)<(xs.length:Int))=true:=by simp;exact hi
  have ht:(bM xs)[pre.length]? = some (dD t):=by rw[e];exact gC _ _ _
  obtain⟨gi,hc⟩:=JG t (p+1) d st o H ho h.1 (by omega)
  obtain⟨st',ih⟩:=Bj xs p hp o v1 v2 s1 s2 hl n1 n2 (pre++[t]) suf gi (max d (zd t (p+1))) (H.set o (.cells gi [.int .i64 (max d (zd t (p+1)):Nat)])) (be _ ho) (ae _ n1.symm h1) (ae _ n2.symm h2) (by rw[e];simp) h.2
  refine⟨st',bg (tQ _ _ _ _ _ _ _) ?_⟩
  have hdq:ij (t::suf) (p+1)=max (zd t (p+1)) (ij suf (p+1)):=by rw[ij]
  rw[hdq,<- Nat.max_assoc]
  generalize zd t (p+1)=q at hc ih ⊢
  obtain⟨tk,tn,tas⟩:=t
  simp only[dD]at ht hc
  simp only[List.length_append,List.length_singleton,List.set_set]at ih
  simp only[hd,cond_true,iq Ss PW ht,Jk,yx,Qm,ac h1,ac h2,am,ax,cg,aq (show p<2^62 by omega),af hc,aq (show pre.length<2^62 by omega)]
  exact ih
mutual
theorem CU:∀(t:Ex) (p d st o:Nat) (H:DH),H[o]? = some (.cells st [.int .i64 (d:Nat)])->t.ok->p<=101 ->
 ∃ st',ab de (.call 244 [.ptr o 0,.agg (bU t),.int .i64 (p:Nat)] none) H=ret (.tuple []) (H.set o (.cells st' [.int .i64 (max d (zK t p):Nat)]))
 |.mk k m n b xs ps,p,d,st,o,H,ho,h,hp=>by
  simp only[Ex.ok]at h
  have hlt:=ka ho
  have e1:((H++[DB.cells 0 [.ptr o 0]])++[DB.cells 0 (bU (.mk k m n b xs ps))]++[DB.cells 0 [.int .i64 (p:Nat)]])[H.length]? = some (.cells 0 [.ptr o 0]):=aj _ (aj _ (aY _ _))
  have e2:((H++[DB.cells 0 [.ptr o 0]])++[DB.cells 0 (bU (.mk k m n b xs ps))]++[DB.cells 0 [.int .i64 (p:Nat)]])[(H++[DB.cells 0 [.ptr o 0]]).length]? = some (.cells 0 (bU (.mk k m n b xs ps))):=aj _ (aY _ _)
  have e3:((H++[DB.cells 0 [.ptr o 0]])++[DB.cells 0 (bU (.mk k m n b xs ps))]++[DB.cells 0 [.int .i64 (p:Nat)]])[((H++[DB.cells 0 [.ptr o 0]])++[DB.cells 0 (bU (.mk k m n b xs ps))]).length]? = some (.cells 0 [.int .i64 (p:Nat)]):=aY _ _
  have e4:((H++[DB.cells 0 [.ptr o 0]])++[DB.cells 0 (bU (.mk k m n b xs ps))]++[DB.cells 0 [.int .i64 (p:Nat)]])[o]? = some (.cells st [.int .i64 (d:Nat)]):=aj _ (aj _ (aj _ ho))
  have hX:(H++[DB.cells 0 [.ptr o 0]])++[DB.cells 0 (bU (.mk k m n b xs ps))]++[DB.cells 0 [.int .i64 (p:Nat)]]=H++([DB.cells 0 [.ptr o 0]]++[DB.cells 0 (bU (.mk k m n b xs ps))]++[DB.cells 0 [.int .i64 (p:Nat)]]):=by simp only[List.append_assoc]
  have n1:(H++[DB.cells 0 [.ptr o 0]]).length≠o:=by simp;omega
  have n2:H.length≠o:=by omega
  have n3:((H++[DB.cells 0 [.ptr o 0]])++[DB.cells 0 (bU (.mk k m n b xs ps))]).length≠o:=by simp;omega
  have hb:aT cA 301=true:=by kernel_rfl
  have nd:=GP (p:=p) 301 [.ptr (H++[DB.cells 0 [.ptr o 0]]).length 0,.ptr H.length 0,.ptr ((H++[DB.cells 0 [.ptr o 0]])++[DB.cells 0 (bU (.mk k m n b xs ps))]).length 0] hb e4
  generalize hG:(H++[DB.cells 0 [.ptr o 0]])++[DB.cells 0 (bU (.mk k m n b xs ps))]++[DB.cells 0 [.int .i64 (p:Nat)]]=G at e1 e2 e3 e4 hX nd
  have hfin:∃ st',ab de (.call 299 [.ptr o 0,.int .i64 (p:Nat),.func 301 [] [.ptr (H++[DB.cells 0 [.ptr o 0]]).length 0,.ptr H.length 0,.ptr ((H++[DB.cells 0 [.ptr o 0]])++[DB.cells 0 (bU (.mk k m n b xs ps))]).length 0]] none) G=ret (.tuple []) (G.set o (.cells st' [.int .i64 (max d (zK (.mk k m n b xs ps) p):Nat)])):=by
   cases hq:decide (p<=100)with
   |false =>
    have hp2:¬ p<=100:=by simpa using hq
    refine⟨st+1,?_⟩
    rw[nd,hq,cond_false,zK,show decide (p>100)=true by simp;omega,cond_true]
   |true =>
    have hp2:p<=100:=by simpa using hq
    obtain⟨st',hl⟩:=Ft k m n b xs ps 0 xs p hp2 o (H++[DB.cells 0 [.ptr o 0]]).length H.length ((H++[DB.cells 0 [.ptr o 0]])++[DB.cells 0 (bU (.mk k m n b xs ps))]).length 0 0 _ (fun st d H a1 a2 a3 _=>Bj ps p hp2 o _ _ 0 0 h.2.2.1 n2 n3 [] ps st d H a1 a2 a3 rfl h.2.2.2) h.1 n2 n3 n1 [] xs (st+1) (max d p) (G.set o (.cells (st+1) [.int .i64 (max d p:Nat)])) (be _ e4) (ae _ n2.symm e1) (ae _ n3.symm e3) (ae _ n1.symm e2) rfl h.2.1
    refine⟨st',?_⟩
    have hc:ab de (.call 301 [.ptr (H++[DB.cells 0 [.ptr o 0]]).length 0,.ptr H.length 0,.ptr ((H++[DB.cells 0 [.ptr o 0]])++[DB.cells 0 (bU (.mk k m n b xs ps))]).length 0] none) (G.set o (.cells (st+1) [.int .i64 (max d p:Nat)]))=ret (.tuple []) (G.set o (.cells st' [.int .i64 (max d (zK (.mk k m n b xs ps) p):Nat)])):=by
     refine ev (Zw _ _ _ _ _) ?_
     rw[ac (ae _ n1.symm e2)]
     simp only[bU,am,ax,dc Px,bD]
     refine Eq.trans hl ?_
     rw[List.set_set,zK,show decide (p>100)=false by simp;omega,cond_false,show max (max (max d p) (gc xs (p+1))) (ij ps (p+1))=max d (max (max p (ij ps (p+1))) (gc xs (p+1)))by omega]
    rw[nd,hq,cond_true,af hc]
  obtain⟨st',hf⟩:=hfin
  refine⟨st',ev (by simp only[bU];exact f244 _ _ _ _ _ _ _ _ _ _) ?_⟩
  simp only[bU]at hG e1 e3 hf ⊢
  show aZ H (aA ((H++[DB.cells 0 [.ptr o 0]])++[DB.cells 0 [.int .i64 k,.int .i64 m,.str n,.str b,.row 6 (bI xs),.row 3 (bM ps)]]++[DB.cells 0 [.int .i64 (p:Nat)]]) H.length _)=_
  rw[hG,ac e1]
  simp only[am]
  rw[ac e3]
  simp only[am]
  rw[af hf]
  rw[hX]
  exact jS hlt (by simp[DB.bel,ef,D.bel])
theorem Ft(zk zm:Int)(zn za:List Nat)(zx:List Ex)(zp:List Pa)(s0:Nat)(xs:List Ex)(p:Nat)(hp:p<=100)(o v0 v1 v2 s1 s2:Nat)(X:Nat)(hx:∀(st d:Nat) (H:DH),H[o]? = some (.cells st [.int .i64 (d:Nat)])->H[v1]? = some (.cells s1 [.ptr o 0])->H[v2]? = some (.cells s2 [.int .i64 (p:Nat)])->H[v0]? = some (.cells s0 (bU (.mk zk zm zn za zx zp)))->∃ st',ao de (ab de) 301 200006 [.g (.ptr v1 0),.g (.ptr v2 0),.g (.row 3 (bM zp)),.g (.int .i64 (zp.length:Nat)),.g (.int .i64 0)] [] H=ret (.tuple []) (H.set o (.cells st' [.int .i64 (max d X:Nat)])))(hl:xs.length<2^62)(n1:v1≠o)(n2:v2≠o)(n0:v0≠o):∀(pre suf:List Ex) (st d:Nat) (H:DH),H[o]? = some (.cells st [.int .i64 (d:Nat)])->H[v1]? = some (.cells s1 [.ptr o 0])->H[v2]? = some (.cells s2 [.int .i64 (p:Nat)])->H[v0]? = some (.cells s0 (bU (.mk zk zm zn za zx zp)))->xs=pre++suf->Ex.oks suf ->
 ∃ st',ao de (ab de) 301 200001 [.g (.ptr v0 0),.g (.ptr v1 0),.g (.ptr v2 0),.g (.row 6 (bI xs)),.g (.int .i64 (xs.length:Nat)),.g (.int .i64 (pre.length:Nat))] [] H=ret (.tuple []) (H.set o (.cells st' [.int .i64 (max (max d (gc suf (p+1))) X:Nat)]))
 |pre,[],st,d,H,ho,h1,h2,h0,e,_=>by
  have e2:xs.length=pre.length:=by rw[e];simp
  obtain⟨st',hh⟩:=hx st d H ho h1 h2 h0
  refine⟨st',bg (tR _ _ _ _ _ _ _ _) ?_⟩
  simp only[bU]at h0
  simp only[e2,Int.lt_irrefl,decide_false,cond_false,gc,Nat.max_zero,ac h0,am,ax,dc Ss,bG,hh]
 |pre,t::suf,st,d,H,ho,h1,h2,h0,e,h=>by
  simp only[Ex.oks]at h
  have hi:pre.length<xs.length:=by rw[e];simp
  have hd:decide ((pre.length:Int)<(xs.length:Int))=true:=by simp;exact hi
  have ht:(bI xs)[pre.length]? = some (bU t):=by rw[e];exact gH _ _ _
  obtain⟨gi,hc⟩:=CU t (p+1) d st o H ho h.1 (by omega)
  obtain⟨st',ih⟩:=Ft zk zm zn za zx zp s0 xs p hp o v0 v1 v2 s1 s2 X hx hl n1 n2 n0 (pre++[t]) suf gi (max d (zK t (p+1))) (H.set o (.cells gi [.int .i64 (max d (zK t (p+1)):Nat)])) (be _ ho) (ae _ n1.symm h1) (ae _ n2.symm h2) (ae _ n0.symm h0) (by rw[e];simp) h.2
  refine⟨st',bg (tR _ _ _ _ _ _ _ _) ?_⟩
  have hdq:gc (t::suf) (p+1)=max (zK t (p+1)) (gc suf (p+1)):=by rw[gc]
  rw[hdq,<- Nat.max_assoc d]
  generalize zK t (p+1)=q at hc ih ⊢
  obtain⟨tk,tm,tn,ta,tas,tps⟩:=t
  simp only[bU]at ht hc
  simp only[List.length_append,List.length_singleton,List.set_set]at ih
  simp only[hd,cond_true,iq Px XO ht,NJ,OO,We,ac h1,ac h2,am,ax,cg,aq (show p<2^62 by omega),af hc,aq (show pre.length<2^62 by omega)]
  exact ih
end
theorem AN(a:Nat):decide ((a:Int)>2000)=decide (a>2000):=by rw[Bool.eq_iff_iff];simp;omega
theorem AM(a:Nat):decide ((a:Int)<=2000)=decide (a<=2000):=by rw[Bool.eq_iff_iff];simp;omega
mutual
def wU:Ty->Nat->Nat
 |.mk _ xs,p=>bif decide (p>100)then 0 else 1+ct xs (p+1)
def ct:List Ty->Nat->Nat
 |[],_=>0
 |t::r,q=>wU t q+ct r q
end
mutual
def zc:Pa->Nat->Nat
 |.mk _ _ xs,p=>bif decide (p>100)then 0 else 1+ep xs (p+1)
def ep:List Pa->Nat->Nat
 |[],_=>0
 |t::r,q=>zc t q+ep r q
end
mutual
def uM:Ex->Nat->Nat
 |.mk _ _ _ _ xs ps,p=>bif decide (p>100)then 0 else 1+(ep ps (p+1)+dM xs (p+1))
def dM:List Ex->Nat->Nat
 |[],_=>0
 |t::r,q=>uM t q+dM r q
end
mutual
theorem Mm:∀(t:Ty) (p c:Nat) (H:DH),t.ok->p<=101->c<=2001->ab de (.call 123 [.agg (cN t),.int .i64 (p:Nat),.int .i64 (c:Nat)] none) H=ret (.int .i64 (min (c+wU t p) 2001:Nat)) H
 |.mk n xs,p,c,H,h,hp,hc=>by
  simp only[Ty.ok]at h
  refine ev (by simp only[cN];exact aav _ _ _ _ _ _) ?_
  rw[Cv,AN,wU]
  cases hq:decide (p>100)with
  |true=>rw[cond_true,cond_true,show min (c+0) 2001=c by omega]
  |false =>
   have hp2:p<=100:=by simp at hq;omega
   rw[cond_false,cond_false]
   cases hq2:decide (c>2000)with
   |true =>
    have hc2:c>2000:=by simpa using hq2
    rw[cond_true,show min (c+(1+ct xs (p+1))) 2001=c by omega]
   |false =>
    have hc2:¬ c>2000:=by simpa using hq2
    rw[cond_false,aq (show c<2^62 by omega)]
    refine(It n xs p hp2 H h.1 [] xs (c+1) rfl h.2 (by omega)).trans ?_
    rw[show min (c+(1+ct xs (p+1))) 2001=min (c+1+ct xs (p+1)) 2001 by omega]
theorem It(n:List Nat)(xs:List Ty)(p:Nat)(hp:p<=100)(H:DH)(hl:xs.length<2^62):∀ pre suf (c:Nat),xs=pre++suf->Ty.oks suf->c<=2001 ->
 ao de (ab de) 123 200005 [.g (.int .i64 (p:Nat)),.g (.int .i64 (c:Nat)),.lp 0 0,.g (.int .i64 (pre.length:Nat))] [(0,[.str n,.row 2 (bJ xs)])] H=ret (.int .i64 (min (c+ct suf (p+1)) 2001:Nat)) H
 |pre,[],c,e,_,hc=>by
  have e2:xs.length=pre.length:=by rw[e];simp
  refine bg (uq _ _ _ _ _ _ _) ?_
  simp only[bq,e2,Int.lt_irrefl,decide_false,cond_false,ct,show min (c+0) 2001=c by omega]
 |pre,t::suf,c,e,h,hc=>by
  simp only[Ty.oks]at h
  refine bg (uq _ _ _ _ _ _ _) ?_
  have hi:pre.length<xs.length:=by rw[e];simp
  have h1:decide ((pre.length:Int)<((bJ xs).length:Int))=true:=by rw[bq];simp;exact hi
  have h2:(bJ xs)[pre.length]? = some (cN t):=by rw[e];exact fK _ _ _
  have h3:=Mm t (p+1) c H h.1 (by omega) hc
  have ih:=It n xs p hp H hl (pre++[t]) suf (min (c+wU t (p+1)) 2001) (by rw[e];simp) h.2 (by omega)
  have hdq:ct (t::suf) (p+1)=wU t (p+1)+ct suf (p+1):=by rw[ct]
  rw[hdq]
  generalize wU t (p+1)=q at h3 ih ⊢
  generalize ct suf (p+1)=r at ih ⊢
  obtain⟨tn,tas⟩:=t
  simp only[cN]at h3 h2
  simp only[List.length_append,List.length_singleton]at ih
  rw[h1,cond_true,AM]
  cases hq2:decide (c<=2000)with
  |false =>
   have hc2:¬ c<=2000:=by simpa using hq2
   rw[cond_false,show min (c+(q+r)) 2001=c by omega]
  |true =>
   simp only[cond_true,aI,ak h2,am,ax,aq (show p<2^62 by omega),af h3,aq (show pre.length<2^62 by omega),ih]
   rw[show min (min (c+q) 2001+r) 2001=min (c+(q+r)) 2001 by omega]
end
end Go.Proofs.YtpghiabjaglpgaaGreatDoor
