/- The tree that Find returns is accepted with the only solution, or without one, and with no other grid: for every problem, position and other grid the law answers true. -/
import Derived.Test.YtnkpdcmbppkkpaaGreatDoorPmH
set_option linter.all false
open Bool renaming false->D,true->T
open Go renaming World->κ,Value->μ,TypeId->ψ
open Go.Proofs.Tryz renaming prog->B
open Option renaming none->V,some->Z
open _root_ renaming ite->C,List->O,Nat->U,Array->υ
namespace Go.Proofs.YtnkpdcmbppkkpaaGreatDoor.searchTree
open Go.ChangeShapes Go.WideShapes Go.ChangeAt Go.RowKit
set_option maxRecDepth 100000 in
def zRB(Ϙ:Type)(enc:ψ×μ->Ϙ)(W:κ)(c:U)(args:υ μ)(ds gs:O<|DataW Ϙ)(Y:O MemPlace)
 (b:∀(j:U) t v,Tryz.f5.params[j]?=Z t->args[j]?=Z v->Value.okWide B W .any c t v)
 (N:DataW.Whole enc B Tryz.f5.params.toList Rows.searchTreeSpec.vars D W args.toList ds gs Y)
 (J:(DataW.weightsEach B Tryz.f5.params.toList ds).all (· <=reachBytes)=T) (f:laidMetH B Rows.searchTreeRow.laid W):
 Calls B 5 args W λe K=>∃v,e=.returned v/\Rows.searchTreeSpec.post enc B Tryz.f5 D T D D W args v K:=by
 have g:=N;obtain⟨p,q,I,l,rfl,IX,A1⟩:=N;have h:DataW.TrodAll enc B W 0 (λ_=>T) T Tryz.f5.params.toList args.toList ds p:=I;rw[Tryz.params5]at h;obtain⟨v0,WE,d0,Fa,p0,q0,Co,rfl,rfl,_,r0⟩:=trodAll_cons h;obtain⟨v1,DE,d1,Fn,p1,q1,rfl,rfl,rfl,_,i⟩:=trodAll_cons r0;obtain⟨v2,Eg,d2,ds2,p2,q2,rfl,rfl,rfl,_,r⟩:=trodAll_cons i;obtain⟨rfl,rfl,rfl⟩:=trodAll_nil r;obtain⟨rfl,rfl⟩:=trodVars_none l;refine zLG (Γ:=GG) (s:=Rows.searchTreeSpec) (tb:=4) (dv:=λy:AA×Ξ×Ξ×Unit=>[.agg 5<|L1<|AG y.1,.ints y.2.1,.ints y.2.2.1]) zLL ?_ ?_ ?_ b g rfl rfl Z5 Tryz.underlying4 J (zDq f)
 ·rw[Tryz.params5];intro t a;simp only[Array.toList,zMk,zQF,or_false]at a;rcases a with rfl|rfl|rfl
  ·exact⟨Z5,zMQ Z5⟩
  ·exact⟨Z5,zMQ Z5⟩
  ·exact⟨Z5,zMQ Z5⟩
 ·rw[Tryz.params5];exact NC.cons zGx<|NC.cons vM<|NC.cons vM NC.nil
 ·intro w y hy;obtain⟨n,k⟩:=zLH y.1 y.2.1 y.2.2.1 (DT.of<|hy 0) (Qf.of<|hy 0)<|YL<|hy 1;exact zLI<|k n<|zAf _
def zLK(m:Os):laidMet B Rows.searchTreeRow.laid ((nU m).forCall (λ_ _=>0) ⟨#[],#[dQ,.slice V 0 0,.slice V 0 0],[]⟩).memory:=
 laidMet_of_run' 70 Z5 Z5
def zIU(m:Os){Ϙ:Type}(enc:ψ×μ->Ϙ):∃X,DataW.whole enc B ((nU m).forCall (λ_ _=>0) ⟨#[],#[dQ,.slice V 0 0,.slice V 0 0],[]⟩).memory Tryz.f5.params.toList Rows.searchTreeSpec.vars D #[dQ,Value.slice V 0 0,Value.slice V 0 0].toList 16=Z ([.agg [.lit<|.int .i64 0,.lit<|.int .i64 0,.nil,.nil,.nil],.nil,.nil],[],X):=
 ⟨[],Z5⟩
set_option maxRecDepth 100000 in
def zK4(m:Os)(J:m.Started)(Ϙ:Type)(enc:ψ×μ->Ϙ)(ϖ:Stop.Interp):
 ReturnsInHanded {} Tryz.checked m 5 .any ((OpenSpec.ofChange Rows.searchTreeSpec).preRow enc B Tryz.f5 Rows.searchTreeRow.domain D Rows.searchTreeRow.laid) (((OpenSpec.ofChange Rows.searchTreeSpec).at ϖ).post enc B Tryz.f5 D T D D):=by
 obtain⟨dV,a⟩:=zIU m enc
 refine returnsInHanded_of_row (C:=Tryz.checked) (s:=OpenSpec.ofChange Rows.searchTreeSpec) own J Z5 Tryz.func5
  (witness_row_at (enc:=enc) (C:=Tryz.checked) D (nU m) #[dQ,.slice V 0 0,.slice V 0 0] rfl Z5 Z5 Z5
   (OpenSpec.preRow_of_cond 16 a Z5 (λk hk=>by cases hk) Z5<|zLK m)) ?_
 intro W c args ds gs Y b N _ _ f g _ _;refine zRB Ϙ enc W c args ds gs Y b N ?_ g;have h:=N;obtain⟨p,q,_,l,_⟩:=h;obtain⟨rfl,_⟩:=trodVars_none l;have e:(DataW.weightsEach B (Tryz.f5.params.toList++[])<|ds++[]).all (· <=reachBytes)=T:=f;rw[zMz,zMz]at e;exact e
def said:Rows.SearchTreeSaid:=
 OpenClaim.holds_of_cond 5 Tryz.f5 rfl rfl rfl rfl rfl rfl rfl ⟨rfl,rfl,rfl,rfl,rfl⟩ rfl rfl rfl rfl rfl Z5 Tryz.func5 Z5
  (zM0 Z5) (by unfold Func.isWrapper;first|(rw[zAB<|by decide+kernel];kernel_rfl)|(rw[zAt<|by decide+kernel];exact⟨rfl,rfl⟩))
  (λm J Ϙ enc _ ϖ=>by rw[OpenClaim.pre_eq_preRow];exact zK4 m J Ϙ enc ϖ)
def plain(f:FuncId)(fn:Func)(g:Tryz.pinned.checked.prog.funcNamed "gridwright/gridwrightlaw29.SearchTree" =Z f)(N:Tryz.pinned.checked.prog.funcs[f]?=Z fn):
 T=Tryz.pinned.checked.prog.looks []/\∀(j:U) t,fn.params[j]?=Z t->Tryz.pinned.checked.prog.wantsStandIn t=D:=by
 obtain rfl:f=5:=zAN ((show Tryz.prog.funcNamed "gridwright/gridwrightlaw29.SearchTree" =Z 5 by kernel_rfl).symm.trans g)|>.symm
 obtain rfl:fn=Tryz.f5:=(zAN<|Tryz.func5.symm.trans N).symm;refine⟨Z5,λj t v=>?_⟩;rw[Tryz.params5]at v;have v:=zT4 v;simp only[Array.mem_def,Array.toList,zMk,zQF,or_false]at v;rcases v with rfl|rfl|rfl
 ·exact(show Tryz.prog.wantsStandIn 26=D by kernel_rfl)
 ·exact(show Tryz.prog.wantsStandIn 22=D by kernel_rfl)
 ·exact(show Tryz.prog.wantsStandIn 22=D by kernel_rfl)
end Go.Proofs.YtnkpdcmbppkkpaaGreatDoor.searchTree
namespace Go.Proofs.YtnkpdcmbppkkpaaGreatDoor
open Go.ChangeShapes Go.WideShapes Go.ChangeAt Go.RowKit
theorem searchTree_card:Rows.SearchTreeCardSaid:=
 Claim7.holds_tied_plain_at .later [] _ _ _ _ searchTree.said (λ_ h=>by cases h) Z5 (λ_ h=>by cases h) searchTree_row_tie rfl ⟨rfl,rfl⟩ Z5 rfl searchTree.plain Z5
end Go.Proofs.YtnkpdcmbppkkpaaGreatDoor
