/- The law TreesLeavesSpec holds of every problem, position, list of nodes and number. -/
import Derived.Test.YtnkpdcmbppkkpaaGreatDoorPnH
set_option linter.all false
open Bool renaming true->D,false->T
open Decidable renaming decide->C
open Go renaming World->κ,Value->μ,TypeId->ψ
open Go.Proofs.Tryz renaming prog->L
open List renaming length->F
open Option renaming none->A,some->Z
open _root_ renaming Nat->E,List->O,Int->U,Array->υ
namespace Go.Proofs.YtnkpdcmbppkkpaaGreatDoor.treesLeavesSpec
open Go.ChangeShapes Go.WideShapes Go.ChangeAt Go.RowKit
set_option maxRecDepth 100000 in
def oD(ϗ:Type)(enc:ψ×μ->ϗ)(W:κ)(b:E)(args:υ μ)(ds gs:O<|DataW ϗ)(I:O MemPlace)
 (J:∀(j:E) t v,Tryz.f4.params[j]?=Z t->args[j]?=Z v->Value.okWide L W .any b t v)
 (a:DataW.Whole enc L Tryz.f4.params.toList Rows.treesLeavesSpecSpec.vars T W args.toList ds gs I)
 (m:(DataW.weightsEach L Tryz.f4.params.toList ds).all (· <=reachBytes)=D) (N:laidMetH L Rows.treesLeavesSpecRow.laid W):
 Calls L 4 args W λe g=>∃v,e=.returned v/\Rows.treesLeavesSpecSpec.post enc L Tryz.f4 T D T T W args v g:=by
 have R:=a;obtain⟨p,q,G,i,rfl,HB,A5⟩:=a;have P:DataW.TrodAll enc L W 0 (λ_=>D) D Tryz.f4.params.toList args.toList ds p:=G;rw[Tryz.params4]at P;obtain⟨v0,Rv,d0,Ed,p0,q0,C4,rfl,rfl,_,r0⟩:=zNc P;obtain⟨v1,Cc,d1,fV,p1,q1,rfl,rfl,rfl,_,r⟩:=zNc r0;obtain⟨v2,EP,d2,ds2,p2,q2,rfl,rfl,rfl,_,c⟩:=zNc r;obtain⟨v3,NG,d3,ds3,p3,q3,rfl,rfl,rfl,_,x⟩:=zNc c;obtain⟨rfl,rfl,rfl⟩:=trodAll_nil x;obtain⟨rfl,rfl⟩:=trodVars_none i;refine wL (Γ:=GG) (s:=Rows.treesLeavesSpecSpec) (tb:=4) (dv:=λy:AA×Ξ×O Δ×U×Unit=>[.agg 5<|L1<|AJ y.1,.ints y.2.1,.sl 2 (F y.2.2.1)<|AM BA y.2.2.1,.int .i64 y.2.2.2.1]) wP ?_ ?_ ?_ J R rfl rfl Z5 Tryz.underlying4 m (qT N)
 ·rw[Tryz.params4];intro t o;simp only[Array.toList,zLa,zNR,or_false]at o;rcases o with rfl|rfl|rfl|rfl
  ·exact⟨Z5,zKs Z5⟩
  ·exact⟨Z5,zKs Z5⟩
  ·exact⟨Z5,zKs Z5⟩
  ·exact⟨Z5,zKs Z5⟩
 ·rw[Tryz.params4];exact HI.cons sS<|HI.cons jP<|HI.cons sT<|HI.cons zEr HI.nil
 ·intro w y hy;obtain⟨n,f⟩:=zJv y.1 y.2.1 y.2.2.1 y.2.2.2.1 (DK.of<|hy 0)<|QW<|hy 1;exact zJw<|f n<|zI1 _
def lV(e:Os):laidMet L Rows.treesLeavesSpecRow.laid ((Td e).forCall (λ_ _=>0) ⟨#[],#[N8,.slice A 0 0,.slice A 0 0,.int .i64 0],[]⟩).memory:=
 laidMet_of_run' 70 Z5 Z5
def jl(e:Os){ϗ:Type}(enc:ψ×μ->ϗ):∃S,DataW.whole enc L ((Td e).forCall (λ_ _=>0) ⟨#[],#[N8,.slice A 0 0,.slice A 0 0,.int .i64 0],[]⟩).memory Tryz.f4.params.toList Rows.treesLeavesSpecSpec.vars T #[N8,Value.slice A 0 0,Value.slice A 0 0,Value.int .i64 0].toList 16=Z ([.agg [.lit<|.int .i64 0,.lit<|.int .i64 0,.nil,.nil,.nil],.nil,.nil,.lit<|.int .i64 0],[],S):=
 ⟨[],Z5⟩
set_option maxRecDepth 100000 in
def lP(a:Os)(c:a.Started)(ϗ:Type)(enc:ψ×μ->ϗ)(ϖ:Stop.Interp):
 ReturnsInHanded {} Tryz.checked a 4 .any ((OpenSpec.ofChange Rows.treesLeavesSpecSpec).preRow enc L Tryz.f4 Rows.treesLeavesSpecRow.domain T Rows.treesLeavesSpecRow.laid) (((OpenSpec.ofChange Rows.treesLeavesSpecSpec).at ϖ).post enc L Tryz.f4 T D T T):=by
 obtain⟨QC,i⟩:=jl a enc
 refine returnsInHanded_of_row (C:=Tryz.checked) (s:=OpenSpec.ofChange Rows.treesLeavesSpecSpec) own c Z5 Tryz.func4
  (witness_row_at (enc:=enc) (C:=Tryz.checked) T (Td a) #[N8,.slice A 0 0,.slice A 0 0,.int .i64 0] rfl Z5 Z5 Z5
   (OpenSpec.preRow_of_cond 16 i Z5 (λk f=>by cases f) Z5<|lV a)) ?_
 intro W P args ds gs I J b _ _ m N _ _;refine oD ϗ enc W P args ds gs I J b ?_ N;have g:=b;obtain⟨p,q,_,h,_⟩:=g;obtain⟨rfl,_⟩:=trodVars_none h;have e:(DataW.weightsEach L (Tryz.f4.params.toList++[])<|ds++[]).all (· <=reachBytes)=D:=m;rw[zNL,zNL]at e;exact e
set_option maxHeartbeats 4000000 in
theorem said:Rows.TreesLeavesSpecSaid:=
 OpenClaim.holds_of_cond 4 Tryz.f4 rfl rfl rfl rfl rfl rfl rfl ⟨rfl,rfl,rfl,rfl,rfl⟩ rfl rfl rfl rfl rfl Z5 Tryz.func4 Z5
  (zM3 Z5) (by unfold Func.isWrapper;first|(rw[zAF<|by decide+kernel];kernel_rfl)|(rw[zJz<|by decide+kernel];exact⟨rfl,rfl⟩))
  (λe W ϗ enc _ ϖ=>by rw[OpenClaim.pre_eq_preRow];exact lP e W ϗ enc ϖ)
def plain(f:FuncId)(fn:Func)(q:Tryz.pinned.checked.prog.funcNamed "gridwright/gridwrightlaw28.TreesLeavesSpec" =Z f)(g:Tryz.pinned.checked.prog.funcs[f]?=Z fn):
 D=Tryz.pinned.checked.prog.looks []/\∀(j:E) t,fn.params[j]?=Z t->Tryz.pinned.checked.prog.wantsStandIn t=T:=by
 obtain rfl:f=4:=zBH ((show Tryz.prog.funcNamed "gridwright/gridwrightlaw28.TreesLeavesSpec" =Z 4 by kernel_rfl).symm.trans q)|>.symm
 obtain rfl:fn=Tryz.f4:=(zBH<|Tryz.func4.symm.trans g).symm;refine⟨Z5,λj t o=>?_⟩;rw[Tryz.params4]at o;have o:=zRO o;simp only[Array.mem_def,Array.toList,zLa,zNR,or_false]at o;rcases o with rfl|rfl|rfl|rfl
 ·exact(show Tryz.prog.wantsStandIn 26=T by kernel_rfl)
 ·exact(show Tryz.prog.wantsStandIn 22=T by kernel_rfl)
 ·exact(show Tryz.prog.wantsStandIn 27=T by kernel_rfl)
 ·exact(show Tryz.prog.wantsStandIn 3=T by kernel_rfl)
end Go.Proofs.YtnkpdcmbppkkpaaGreatDoor.treesLeavesSpec
namespace Go.Proofs.YtnkpdcmbppkkpaaGreatDoor
open Go.ChangeShapes Go.WideShapes Go.ChangeAt Go.RowKit
theorem treesLeavesSpec_card:Rows.TreesLeavesSpecCardSaid:=
 Claim7.holds_tied_plain_at .later [] _ _ _ _ treesLeavesSpec.said (λ_ h=>by cases h) Z5 (λ_ h=>by cases h) treesLeavesSpec_row_tie rfl ⟨rfl,rfl⟩ Z5 rfl treesLeavesSpec.plain Z5
end Go.Proofs.YtnkpdcmbppkkpaaGreatDoor
