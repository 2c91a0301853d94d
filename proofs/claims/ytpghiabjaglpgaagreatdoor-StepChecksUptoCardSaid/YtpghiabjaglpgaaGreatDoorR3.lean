/- Lemmas. No conditions. -/
import Derived.Test.YtpghiabjaglpgaaGreatDoorE2
import Derived.Test.YtpghiabjaglpgaaGreatDoorE5
import Derived.Test.YtpghiabjaglpgaaGreatDoorE7
import Derived.Test.YtpghiabjaglpgaaGreatDoorP10
import Derived.Test.YtpghiabjaglpgaaGreatDoorCards
import Derived.Test.YtpghiabjaglpgaaGreatDoorTie
import Derived.WalkKit
import Derived.ProofKit
import Derived.Lay
import Derived.Deep.DeepHandedRow
import Derived.Test.YtpghiabjaglpgaaGreatDoorR1
import Derived.Test.YtpghiabjaglpgaaGreatDoorR2
set_option linter.all false
noncomputable section
namespace Go.Proofs.YtpghiabjaglpgaaGreatDoor.Rd
open Go.AI Go.Proofs Go.Proofs.YtpghiabjaglpgaaGreatDoor Go.ChangeShapes Go.WideShapes Go.ChangeAt Go.RowKit
def adJ:Go.AI.Good Tryz.prog (lim bY):=RU (gW rfl rfl) afu (eJ rfl rfl)
def TJ{W W':World}{ρ':aN}(h:FR (Ro W.heap.size) W ρ' W'):Below W.heap.size W W' :=
 ⟨h.os,h.tape,h.output,h.size,fun k hk=>h.same k hk fun f v l e a=>by
  unfold Ro at e;split at e
  ·cases e;exact absurd (show(0:Nat)<1 from akV) a
  ·cases e⟩
def SI{W:World}{o f v:Nat}(h:(Rd.g0 W).O[o]? = some (some (f,v))):False:=by have h:([]:List (Option (Nat×Nat)))[o]? = some (some (f,v)):=h;simp at h
def adK{W:World}(h:Od W)(hs:6<=W.heap.size):Ok (Rd.g0 W):=by
 refine⟨rfl,UD W,fun o o' f v v' h=>(SI h).elim,fun o f v h=>(SI h).elim,?_,?_,ON h,fun f a=>⟨?_,?_,fun o v h=>SI h⟩⟩
 ·intro f a;have a:f∈([]:List Nat):=a;simp at a
 ·intro o b hb;have hb:([]:List DB)[o]? = some b:=hb;simp at hb
 ·show f<(cw W).next;unfold cw;rw[lN];have a:f∈[0,1,2,5]:=a;simp only[aff,akR,or_false]at a;omega
 ·show f∉([]:List Nat);simp
def Pn{f:FuncId}{W:World}{args:List D}{X:DH}{vs:List V}{ys:List Value}(c:Ok (g0 W))(h:eP de (.call f args none) []=ret (.bool true) X)(hr:Go.AI.RL (g0 W) args vs)(d:bd (Ro W.heap.size) vs=some ys) :
 Calls Tryz.prog f ys.toArray W fun e w'=>e=.returned (.bool true)/\Below W.heap.size W w':=by
 obtain⟨s',call⟩:=VL h (g:=g0 W) rfl c hr;have i:gv Tryz.prog f vs none (cw W) ⟨.returned (.bool true),none,s'⟩:=adJ (.call f _ none) _ _ call;refine(BC i (LV W) d).mono fun e w' ⟨ρ',z,j,b,_,a⟩=>?_;simp only[den,abB]at b;subst b;exact⟨j,TJ a⟩
def Ny{ρ:aN}{l:List V}{c:Array Value}(h:bd ρ l=some c.toList):den ρ (.agg l)=some (.agg c):=by simp only[den,h,Array.toArray_toList]
def own:ownKnob Tryz.prog.godebug=none:=by kernel_rfl
def FF:laidOutB Tryz.prog=true:=by kernel_rfl
def acm:Tryz.prog.readableRec 24=true:=by kernel_rfl
def aci:24<Tryz.prog.types.size:=aiF (by kernel_rfl)
def acl:Tryz.prog.readableRec 43=true:=by kernel_rfl
def ach:43<Tryz.prog.types.size:=aiF (by kernel_rfl)
def afg:Tryz.prog.readableRec 9=true:=by kernel_rfl
def afe:9<Tryz.prog.types.size:=aiF (by kernel_rfl)
def WP:Tryz.prog.cellsOf 24=1:=by kernel_rfl
def WO:Tryz.prog.cellsOf 43=11:=by kernel_rfl
def abd:Tryz.prog.cellsOf 9=1:=by kernel_rfl
def adu:HT 8 43=some [.int,.int,.int,.bool,.int,.sl 38,.sl 39,.sl 40,.int,.sl 41,.int]:=by kernel_rfl
def afB:HT 8 9=some [.str]:=by kernel_rfl
end Go.Proofs.YtpghiabjaglpgaaGreatDoor.Rd
namespace Go.Proofs.YtpghiabjaglpgaaGreatDoor.stepChecks
open Go.AI Go.Proofs Go.Proofs.YtpghiabjaglpgaaGreatDoor Go.ChangeShapes Go.WideShapes Go.ChangeAt Go.RowKit Go.Proofs.YtpghiabjaglpgaaGreatDoor.Rd
def WU{H:Type}{d:DataW H}{l:List (DataW H)}{n:Nat}(h:Rows.uptoBulkAll l<=n)(a:d∈l):Rows.uptoBulk d<=n:=by
 induction l with
 |nil=>cases a
 |cons x r ih =>
  simp only[Rows.uptoBulkAll]at h;rcases aff.1 a with rfl|a
  ·omega
  ·exact ih (by omega) a
abbrev Jk:Array Value:=#[.agg #[.slice none 0 0],.agg #[.int .i64 0,.int .i64 0,.int .i64 0,.bool false,.int .i64 0,.slice none 0 0,.slice none 0 0,.slice none 0 0,.int .i64 0,.slice none 0 0,.int .i64 0],.string ⟨#[]⟩]
abbrev w0(os:Os):World:=World.laidAll Tryz.prog os Rows.stepChecksUptoRow.laid
set_option maxRecDepth 100000 in
def Up(os:Os)(H:Type)(enc:TypeId×Value->H):∃(w:World) (tape:Tape) (i:Input),w.os=os/\(w.forCall tape i).Shaped Tryz.prog/\i.vars=[]/\Input.okWide Tryz.prog (w.forCall tape i) .any w.heap.size 7 i /\
 (Rows.OpenSpec.upto Rows.stepChecksSpec).preRow enc Tryz.prog Tryz.f7 Rows.stepChecksUptoRow.domain false Rows.stepChecksUptoRow.laid (w.forCall tape i).memory i.args/\({}:Assume).holds Tryz.prog (lone (Frame.enter Tryz.prog 7 i.args .normal) [] (w.forCall tape i)):=by
 have b:DataW.whole enc Tryz.prog ((w0 os).forCall (fun _ _=>0) ⟨#[],Jk,[]⟩).memory Tryz.f7.params.toList Rows.stepChecksSpec.vars false Jk.toList 8=some ([.agg [.nil],.agg [.lit (.int .i64 0),.lit (.int .i64 0),.lit (.int .i64 0),.agg [.lit (.bool false),.lit (.int .i64 0)],.nil,.nil,.nil,.lit (.int .i64 0),.nil,.lit (.int .i64 0)],.lit (.string [])],[],[]):=by kernel_rfl
 have a:Input.okWideB Tryz.prog ((w0 os).forCall (fun _ _=>0) ⟨#[],Jk,[]⟩) 7 ⟨#[],Jk,[]⟩=true:=by kernel_rfl
 refine⟨w0 os,fun _ _=>0,⟨#[],Jk,[]⟩,World.laidAll_os _ _ _,World.shaped_of_ZipB (by kernel_rfl) (by kernel_rfl),(Input.okWide_of_okWideB (base:=0) a).1,(Input.okWide_of_okWideB a).2,?_,?_⟩
 ·exact OpenSpec.preRow_of_cond 8 b (by kernel_rfl) (fun k hk=>by cases hk;kernel_rfl) (by kernel_rfl) (by rw[MakeChecks.laidMetH_plain _ _ _ (by kernel_rfl)];exact laidMet_laidAll _ (by kernel_rfl) (by kernel_rfl))
 ·simp only[Assume.holds];exact⟨by simp,by simp,fun h=>by simp at h,by simp,by simp⟩
set_option maxRecDepth 100000 in
def lifted(os:Os)(started:os.Started)(H:Type)(enc:TypeId×Value->H)(F:Stop.Interp) :
 ReturnsInHanded {} Tryz.checked os 7 .any ((Rows.OpenSpec.upto Rows.stepChecksSpec).preRow enc Tryz.prog Tryz.f7 Rows.stepChecksUptoRow.domain false Rows.stepChecksUptoRow.laid) (((Rows.OpenSpec.upto Rows.stepChecksSpec).at F).post enc Tryz.prog Tryz.f7 false true false false):=by
 refine returnsInHanded_of_row (C:=Tryz.checked) (s:=Rows.OpenSpec.upto Rows.stepChecksSpec) own started (by kernel_rfl) Tryz.func7 (Up os H enc) ?_;intro W base args ds gs before hval0 X _ hcond r hlaid hshaped _;have a:∀(j:Nat) t v,Tryz.f7.params[j]? = some t->args[j]? = some v->Value.okWide Tryz.prog W .any base t v:=hval0;rw[MakeChecks.laidMetH_plain _ _ _ (by kernel_rfl)]at hlaid;have Y:Od W:=SG hlaid hshaped;have hbulk:Rows.uptoBulkAll (ds++gs)<=1048576:=by simpa[Rows.uptoSmall]using hcond _ rfl
 have u:=X;obtain⟨p,q,I,hV,rfl,hfz,hnd⟩:=X;have hA:DataW.TrodAll enc Tryz.prog W 0 (fun _=>true) true Tryz.f7.params.toList args.toList ds p:=I;have w:(DataW.weightsEach Tryz.prog (Tryz.f7.params.toList++[]) (ds++gs)).all (·<=reachBytes)=true:=r;rw[Tryz.params7]at hA a w;obtain⟨Z,vs0,y,ds0,J,q0,hargs,rfl,rfl,h0,K⟩:=trodAll_cons hA;obtain⟨v1,vs1,E,ds1,L,q1,rfl,rfl,rfl,h1,M⟩:=trodAll_cons K;obtain⟨v2,vs2,G,ds2,N,q2,rfl,rfl,rfl,h2,O⟩:=trodAll_cons M;obtain⟨rfl,rfl,rfl⟩:=trodAll_nil O;obtain rfl:args=#[Z,v1,v2]:=by cases args;simp_all
 obtain⟨rfl,rfl⟩:=trodVars_none hV;obtain⟨c0,rfl,_⟩:=okWide_struct Tryz.underlying24 (a 0 24 Z rfl rfl);obtain⟨c1,rfl,_⟩:=okWide_struct Tryz.underlying43 (a 1 43 v1 rfl rfl);obtain⟨n0,g0'⟩:=h0;obtain⟨n1,g1'⟩:=h1;obtain⟨sv,rfl⟩:=okWide_string Tryz.underlying9 (a 2 9 v2 rfl rfl);obtain⟨n2,g2'⟩:=h2;have k:∀(i:Nat) t (d:DataW H),[24,43,9][i]? = some t->[y,E,G][i]? = some d->Wt t d:=fun i t d Q R n hn=>by have:=aiX.1 w n (jT (i:=i) (by simpa using Q) (by simpa using R) n hn);simpa using this
 obtain⟨x0,b0,a0,K,s0,k0⟩:=UQ (W:=W) n0 8 (x:=(y,J)) (abD _) adv WP g0' (k 0 24 y rfl rfl);obtain⟨x1,b1,a1,M,s1,k1⟩:=UQ (W:=W) n1 8 (x:=(E,L)) (abD _) adu WO g1' (k 1 43 E rfl rfl);obtain⟨x2,b2,a2,O,s2,k2⟩:=UQ (W:=W) n2 8 (x:=(G,N)) (abD _) afB abd g2' (k 2 9 G rfl rfl);obtain⟨y0,z0,rfl,t0,s0⟩:=aJ s0;cases fZ s0;obtain⟨l,rfl,hl,U⟩:=acG t0;have hd0:Rows.uptoBulk y<=1048576:=WU hbulk (by simp)
 have A:∀ x∈l,x.ok2:=fun x hx=>Zq (U x hx) (by have:=MN (f:=bF) hx;simp only[iy,PQ]at k0;omega)
 obtain⟨m,rfl,mo⟩:=acD s1;obtain⟨y2,z2,rfl,t2,s2⟩:=aJ s2;cases fZ s2;obtain⟨nm,rfl⟩:=ej t2;have hX:=afC m mo l hl A nm [];have hsize:6<=W.heap.size:=by obtain⟨c,e,fz,hh,_⟩:=Y.pow;have:=(ajg.1 hh).1;omega
 have walk:=Pn (f:=7) (ys:=[.agg c0,.agg c1,.string sv]) (adK Y hsize) hX (vs:=.agg x0::.agg x1::x2) (by
  simp only[Go.AI.RL,RD];exact⟨_,_,rfl,⟨_,rfl,K,je.one a0⟩,_,_,rfl,⟨_,rfl,M,je.one a1⟩,O⟩) (by
  have e0:=Ny (c:=c0) (je.den a0);have Q:=Ny (c:=c1) (je.den a1);have R:=je.den a2;simp only[bd];rw[e0,Q];have e3:bd (Ro W.heap.size) x2=some [.string sv]:=R;rw[e3])
 refine walk.mono fun e W' ⟨he,g⟩=>?_;subst he;have o:=u.lt;refine⟨_,rfl,_,_,_,[],J++(L++(N++[])),[],u,trodAll_mk1 (shut_bool Tryz.underlying4 _),?_,rfl,g.frame _,fun h=>by cases h⟩;show DataW.TrodAll enc Tryz.prog W' 0 (fun b=>decide (b<W.heap.size)) true Tryz.f7.params.toList _ [y,E,G] _;rw[Tryz.params7];exact⟨J,_,Below.trod FF acm aci ⟨n0,g0'⟩ g (fun z B=>o z (by simp[B])),⟨L,_,Below.trod FF acl ach ⟨n1,g1'⟩ g (fun z B=>o z (by simp[B])),⟨N,_,Below.trod FF afg afe ⟨n2,g2'⟩ g (fun z B=>o z (by simp[B])),rfl,rfl⟩,rfl⟩,rfl⟩
end Go.Proofs.YtpghiabjaglpgaaGreatDoor.stepChecks
namespace Go.Proofs.YtpghiabjaglpgaaGreatDoor.stepChecks
open Go.ChangeShapes Go.WideShapes Go.ChangeAt Go.RowKit
open Go.AI
theorem gu{a b:Bool}(c:a=true)(hb:b=true):(a&&b)=true:=by rw[c,hb];rfl
set_option maxRecDepth 100000 in
theorem aaY:joinedFacts Tryz.prog 7 Tryz.f7 (Rows.OpenSpec.upto Rows.stepChecksSpec).bare Rows.stepChecksUptoRow=true:=gu (gu (gu (gu (gu (gu (gu (gu (gu (gu (gu (gu (gu (gu (gu (gu (gu (gu (gu (gu (gu (gu (gu (gu (gu (gu (gu (gu (gu (gu (gu aea adZ) adY) adX) adW) adV) adU) adT) adS) adR) aaB) aaA) aaz) aay) aax) aaw) aav) aau) aat) aas) aar) aaq) aap) aao) aan) aam) aal) aak) aaj) aai) aah) aag
theorem aeT:Rows.StepChecksUptoSaid :=
 OpenClaim.holds_of_cond 7 Tryz.f7 rfl rfl rfl rfl rfl rfl rfl ⟨rfl,rfl,rfl,rfl,rfl⟩ rfl rfl rfl rfl rfl (by kernel_rfl) Tryz.func7 aaY
  (aiF (by kernel_rfl)) (by unfold Func.isWrapper;first|(rw[aeM (by decide +kernel)];kernel_rfl)|(rw[aeD (by decide +kernel)];exact⟨rfl,rfl⟩))
  (fun os started H enc _ F=>by rw[OpenClaim.pre_eq_preRow];exact lifted os started H enc F)
end Go.Proofs.YtpghiabjaglpgaaGreatDoor.stepChecks
