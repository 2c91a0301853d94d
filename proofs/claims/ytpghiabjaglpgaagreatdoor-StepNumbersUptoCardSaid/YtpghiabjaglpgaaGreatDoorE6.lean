/- From the row to deep values: part 6. No conditions beyond those of the row. -/
import Derived.Test.YtpghiabjaglpgaaGreatDoorE2
import Derived.Test.YtpghiabjaglpgaaGreatDoorE5
import Derived.Test.YtpghiabjaglpgaaGreatDoorP8
import Derived.Test.YtpghiabjaglpgaaGreatDoorCards
import Derived.Test.YtpghiabjaglpgaaGreatDoorTie
import Derived.WalkKit
import Derived.ProofKit
import Derived.Lay
import Derived.Deep.DeepHandedRow
set_option linter.all false
noncomputable section
namespace Go.Proofs.YtpghiabjaglpgaaGreatDoor.Rd
open Go.AI Go.Proofs Go.Proofs.YtpghiabjaglpgaaGreatDoor Go.ChangeShapes Go.WideShapes Go.ChangeAt Go.RowKit
theorem WY:Go.AI.Good Tryz.prog (lim cA):=NB (fY rfl rfl) Yz (dQ rfl rfl)
theorem OX{W W':World}{ρ':aB}(h:FR (Ro W.heap.size) W ρ' W'):Below W.heap.size W W' :=
 ⟨h.os,h.tape,h.output,h.size,fun k hk=>h.same k hk fun f v l e hro=>by
  unfold Ro at e
  split at e
  ·cases e;exact absurd (show(0:Nat)<1 from Nat.zero_lt_one) hro
  ·cases e⟩
theorem Og{W:World}{o f v:Nat}(h:(Rd.g0 W).O[o]? = some (some (f,v))):False:=by
 have h:([]:List (Option (Nat×Nat)))[o]? = some (some (f,v)):=h
 simp at h
theorem WZ{W:World}(h:Kg W)(hs:6<=W.heap.size):Ok (Rd.g0 W):=by
 refine⟨rfl,PQ W,fun o o' f v v' h=>(Og h).elim,fun o f v h=>(Og h).elim,?_,?_,KM h,fun f hf=>⟨?_,?_,fun o v h=>Og h⟩⟩
 ·intro f hf
  have hf:f∈([]:List Nat):=hf
  simp at hf
 ·intro o b hb
  have hb:([]:List DB)[o]? = some b:=hb
  simp at hb
 ·show f<(bN W).next
  unfold bN;rw[jZ]
  have hf:f∈[0,1,2,5]:=hf
  simp only[List.mem_cons,List.mem_nil_iff,or_false]at hf
  omega
 ·show f∉([]:List Nat)
  simp
theorem Lh{f:FuncId}{W:World}{args:List D}{X:DH}{vs:List V}{ys:List Value}(hG:Ok (g0 W))(h:ab de (.call f args none) []=ret (.bool true) X)(hr:Go.AI.RL (g0 W) args vs)(hd:aN (Ro W.heap.size) vs=some ys) :
 Calls Tryz.prog f ys.toArray W fun e w'=>e=.returned (.bool true)/\Below W.heap.size W w':=by
 obtain⟨s',call⟩:=QR h (g:=g0 W) rfl hG hr
 have hs:fB Tryz.prog f vs none (bN W) ⟨.returned (.bool true),none,s'⟩:=WY (.call f _ none) _ _ call
 refine(yA hs (Iq W) hd).mono fun e w' ⟨ρ',z,he,hz,_,hfr⟩=>?_
 simp only[den,Option.some.injEq]at hz
 subst hz
 exact⟨he,OX hfr⟩
theorem JD{ρ:aB}{l:List V}{c:Array Value}(h:aN ρ l=some c.toList):den ρ (.agg l)=some (.agg c):=by
 simp only[den,h,Array.toArray_toList]
theorem own:ownKnob Tryz.prog.godebug=none:=by kernel_rfl
theorem Jl:laidOutB Tryz.prog=true:=by kernel_rfl
theorem VY:Tryz.prog.readableRec 24=true:=by kernel_rfl
theorem VU:24<Tryz.prog.types.size:=of_decide_eq_true (by kernel_rfl)
theorem VX:Tryz.prog.readableRec 27=true:=by kernel_rfl
theorem VT:27<Tryz.prog.types.size:=of_decide_eq_true (by kernel_rfl)
theorem RI:Tryz.prog.cellsOf 24=1:=by kernel_rfl
theorem RH:Tryz.prog.cellsOf 27=3:=by kernel_rfl
theorem yx:Tryz.prog.cellsOf 3=1:=by kernel_rfl
end Go.Proofs.YtpghiabjaglpgaaGreatDoor.Rd
namespace Go.Proofs.YtpghiabjaglpgaaGreatDoor.stepNumbers
open Go.AI Go.Proofs Go.Proofs.YtpghiabjaglpgaaGreatDoor Go.ChangeShapes Go.WideShapes Go.ChangeAt Go.RowKit Go.Proofs.YtpghiabjaglpgaaGreatDoor.Rd
theorem RM{H:Type}{d:DataW H}{l:List (DataW H)}{n:Nat}(h:Rows.uptoBulkAll l<=n)(hd:d∈l):Rows.uptoBulk d<=n:=by
 induction l with
 |nil=>cases hd
 |cons x r ih =>
  simp only[Rows.uptoBulkAll]at h
  rcases List.mem_cons.1 hd with rfl|hd
  ·omega
  ·exact ih (by omega) hd
abbrev FP:Array Value:=#[.agg #[.slice none 0 0],.agg #[.int .i64 0,.int .i64 0,.slice none 0 0],.int .i64 0]
abbrev w0(os:Os):World:=World.laidAll Tryz.prog os Rows.stepNumbersUptoRow.laid
set_option maxRecDepth 100000 in
theorem PE(os:Os)(H:Type)(enc:TypeId×Value->H):∃(w:World) (tape:Tape) (i:Input),w.os=os/\(w.forCall tape i).Shaped Tryz.prog/\i.vars=[]/\Input.okWide Tryz.prog (w.forCall tape i) .any w.heap.size 3 i /\
 (Rows.OpenSpec.upto Rows.stepNumbersSpec).preRow enc Tryz.prog Tryz.f3 Rows.stepNumbersUptoRow.domain false Rows.stepNumbersUptoRow.laid (w.forCall tape i).memory i.args/\({}:Assume).holds Tryz.prog (lone (Frame.enter Tryz.prog 3 i.args .normal) [] (w.forCall tape i)):=by
 have hx:DataW.whole enc Tryz.prog ((w0 os).forCall (fun _ _=>0) ⟨#[],FP,[]⟩).memory Tryz.f3.params.toList Rows.stepNumbersSpec.vars false FP.toList 8=some ([.agg [.nil],.agg [.lit (.int .i64 0),.lit (.int .i64 0),.nil],.lit (.int .i64 0)],[],[]):=by kernel_rfl
 have hok:Input.okWideB Tryz.prog ((w0 os).forCall (fun _ _=>0) ⟨#[],FP,[]⟩) 3 ⟨#[],FP,[]⟩=true:=by kernel_rfl
 refine⟨w0 os,fun _ _=>0,⟨#[],FP,[]⟩,World.laidAll_os _ _ _,World.shaped_of_ZipB (by kernel_rfl) (by kernel_rfl),(Input.okWide_of_okWideB (base:=0) hok).1,(Input.okWide_of_okWideB hok).2,?_,?_⟩
 ·exact OpenSpec.preRow_of_cond 8 hx (by kernel_rfl) (fun k hk=>by cases hk;kernel_rfl) (by kernel_rfl) (by rw[MakeChecks.laidMetH_plain _ _ _ (by kernel_rfl)];exact laidMet_laidAll _ (by kernel_rfl) (by kernel_rfl))
 ·simp only[Assume.holds]
  exact⟨by simp,by simp,fun h=>by simp at h,by simp,by simp⟩
set_option maxRecDepth 100000 in
theorem lifted(os:Os)(started:os.Started)(H:Type)(enc:TypeId×Value->H)(F:Stop.Interp) :
 ReturnsInHanded {} Tryz.checked os 3 .any ((Rows.OpenSpec.upto Rows.stepNumbersSpec).preRow enc Tryz.prog Tryz.f3 Rows.stepNumbersUptoRow.domain false Rows.stepNumbersUptoRow.laid) (((Rows.OpenSpec.upto Rows.stepNumbersSpec).at F).post enc Tryz.prog Tryz.f3 false true false false):=by
 refine returnsInHanded_of_row (C:=Tryz.checked) (s:=Rows.OpenSpec.upto Rows.stepNumbersSpec) own started (by kernel_rfl) Tryz.func3 (PE os H enc) ?_
 intro W base args ds gs before hval0 hW _ hcond hsz0 hlaid hshaped _
 have hval:∀(j:Nat) t v,Tryz.f3.params[j]? = some t->args[j]? = some v->Value.okWide Tryz.prog W .any base t v:=hval0
 rw[MakeChecks.laidMetH_plain _ _ _ (by kernel_rfl)]at hlaid
 have hG:Kg W:=Oe hlaid hshaped
 have hbulk:Rows.uptoBulkAll (ds++gs)<=1048576:=by simpa[Rows.uptoSmall]using hcond _ rfl
 have hW':=hW
 obtain⟨p,q,hA0,hV,rfl,hfz,hnd⟩:=hW
 have hA:DataW.TrodAll enc Tryz.prog W 0 (fun _=>true) true Tryz.f3.params.toList args.toList ds p:=hA0
 have hsz:(DataW.weightsEach Tryz.prog (Tryz.f3.params.toList++[]) (ds++gs)).all (·<=reachBytes)=true:=hsz0
 rw[Tryz.params3]at hA hval hsz
 obtain⟨v0,vs0,d0,ds0,p0,q0,hargs,rfl,rfl,h0,r0⟩:=trodAll_cons hA
 obtain⟨v1,vs1,d1,ds1,p1,q1,rfl,rfl,rfl,h1,r1⟩:=trodAll_cons r0
 obtain⟨v2,vs2,d2,ds2,p2,q2,rfl,rfl,rfl,h2,r2⟩:=trodAll_cons r1
 obtain⟨rfl,rfl,rfl⟩:=trodAll_nil r2
 obtain rfl:args=#[v0,v1,v2]:=by cases args;simp_all
 obtain⟨rfl,rfl⟩:=trodVars_none hV
 obtain⟨c0,rfl,_⟩:=okWide_struct Tryz.underlying24 (hval 0 24 v0 rfl rfl)
 obtain⟨c1,rfl,_⟩:=okWide_struct Tryz.underlying27 (hval 1 27 v1 rfl rfl)
 obtain⟨n0,g0'⟩:=h0
 obtain⟨n1,g1'⟩:=h1
 obtain⟨ni,rfl,rfl,rfl,wx⟩:=open_int Tryz.underlying3 (hval 2 3 v2 rfl rfl) h2
 have hwt:∀(i:Nat) t (d:DataW H),[24,27,3][i]? = some t->[d0,d1,DataW.lit (.int .i64 ni)][i]? = some d->Wt t d:=fun i t d e1 e2 n hn=>by
  have:=List.all_eq_true.1 hsz n (iO (i:=i) (by simpa using e1) (by simpa using e2) n hn)
  simpa using this
 obtain⟨x0,b0,a0,r0,s0,k0⟩:=Tv (W:=W) n0 8 (x:=(d0,p0)) (Nat.le_refl _) WP RI g0' (hwt 0 24 d0 rfl rfl)
 obtain⟨x1,b1,a1,r1,s1,k1⟩:=Tv (W:=W) n1 8 (x:=(d1,p1)) (Nat.le_refl _) WO RH g1' (hwt 1 27 d1 rfl rfl)
 obtain⟨y0,z0,rfl,t0,s0⟩:=aL s0
 cases jG s0
 obtain⟨l,rfl,hl,hlo⟩:=Wn t0
 have hd0:Rows.uptoBulk d0<=1048576:=RM hbulk (by simp)
 have hok2:∀ x∈l,x.ok2:=fun x hx=>TK (hlo x hx) (by
  have:=Jf (f:=bo) hx
  simp only[gx,LH]at k0
  omega)
 obtain⟨y1,z1,rfl,t1,s1⟩:=aL s1
 obtain⟨y2,z2,rfl,t2,s1⟩:=aL s1
 obtain⟨y3,z3,rfl,t3,s1⟩:=aL s1
 cases jG s1
 obtain⟨nd,rfl⟩:=iR t1
 obtain⟨nf,rfl⟩:=iR t2
 obtain⟨pp,rfl,hpp⟩:=Wl t3
 obtain⟨X,hX⟩:=YF l hl hok2 nd nf pp ni []
 have hsize:6<=W.heap.size:=by
  obtain⟨c,e,fz,hh,_⟩:=hG.pow
  have:=(Array.getElem?_eq_some_iff.1 hh).1
  omega
 have walk:=Lh (f:=3) (ys:=[.agg c0,.agg c1,.int .i64 ni]) (WZ hG hsize) hX (vs:=[.agg x0,.agg x1,.int .i64 ni]) (by
  simp only[Go.AI.RL,RD]
  exact⟨_,_,rfl,⟨_,rfl,r0,io.one a0⟩,_,_,rfl,⟨_,rfl,r1,io.one a1⟩,_,_,rfl,rfl,rfl⟩) (by
  have e0:=JD (c:=c0) (io.den a0)
  have e1:=JD (c:=c1) (io.den a1)
  simp only[aN]
  rw[e0,e1]
  rfl)
 refine walk.mono fun e W' ⟨he,hbl⟩=>?_
 subst he
 have hlt:=hW'.lt
 refine⟨_,rfl,_,_,_,[],p0++(p1++([]++[])),[],hW',trodAll_mk1 (shut_bool Tryz.underlying4 _),?_,rfl,hbl.frame _,fun h=>by cases h⟩
 show DataW.TrodAll enc Tryz.prog W' 0 (fun b=>decide (b<W.heap.size)) true Tryz.f3.params.toList _ [d0,d1,_] _
 rw[Tryz.params3]
 exact⟨p0,_,Below.trod Jl VY VU ⟨n0,g0'⟩ hbl (fun z hz=>hlt z (by simp[hz])),⟨p1,_,Below.trod Jl VX VT ⟨n1,g1'⟩ hbl (fun z hz=>hlt z (by simp[hz])),⟨[],[],shut_int Tryz.underlying3 wx,rfl,rfl⟩,rfl⟩,rfl⟩
end Go.Proofs.YtpghiabjaglpgaaGreatDoor.stepNumbers
