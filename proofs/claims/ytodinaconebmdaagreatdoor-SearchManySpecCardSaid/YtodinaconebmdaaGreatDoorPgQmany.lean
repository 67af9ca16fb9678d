/- Choose and Many answer as their reference does: for every problem, position and numbers the law answers true. -/
import Derived.Test.YtodinaconebmdaaGreatDoorPgH
set_option linter.all false
namespace Go.Proofs.YtodinaconebmdaaGreatDoor.searchManySpec
open Go.ChangeShapes Go.WideShapes Go.ChangeAt Go.RowKit
set_option maxRecDepth 100000 in
def nr (H:Type)(enc:TypeId×Value -> H)(W:World)(B:Nat)(args:Array Value)(ds gs:List (DataW H))(J:List MemPlace) 
 (c: ∀ (j:Nat) t v,Tryz.f4.params[j]? =some t -> args[j]? =some v -> Value.okWide Tryz.prog W .any B t v)
 (A:DataW.Whole enc Tryz.prog Tryz.f4.params.toList Rows.searchManySpecSpec.vars false W args.toList ds gs J)
 (f:(DataW.weightsEach Tryz.prog Tryz.f4.params.toList ds).all (· <=reachBytes)=true) (a:laidMetH Tryz.prog Rows.searchManySpecRow.laid W):
 Calls Tryz.prog 4 args W λe b=>∃ v,e= .returned v/\ Rows.searchManySpecSpec.post enc Tryz.prog Tryz.f4 false true false false W args v b:=by
 have U:=A;obtain ⟨p,q,d,g,rfl,HB,A8⟩:=A;have E:DataW.TrodAll enc Tryz.prog W 0 (λ_=>true) true Tryz.f4.params.toList args.toList ds p:=d;rw [Tryz.params4] at E;obtain ⟨v0,Rr,d0,Eh,p0,q0,CN,rfl,rfl,_,r0⟩:=zNf E;obtain ⟨v1,DQ,d1,Ex,p1,q1,rfl,rfl,rfl,_,r⟩:=zNf r0;obtain ⟨v2,FD,d2,ds2,p2,q2,rfl,rfl,rfl,_,h⟩:=zNf r;obtain ⟨v3,PT,d3,ds3,p3,q3,rfl,rfl,rfl,_,i⟩:=zNf h;obtain ⟨rfl,rfl,rfl⟩:=trodAll_nil i;obtain ⟨rfl,rfl⟩:=trodVars_none g;refine wa (Γ:=GG) (s:=Rows.searchManySpecSpec) (tb:=4) (dv:=λy:AA×Ξ×Int×Int×Unit=>[.agg 5 (L1 (AE y.1)),.ints y.2.1,.int .i64 y.2.2.1,.int .i64 y.2.2.2.1]) we ?_ ?_ ?_ c U rfl rfl Z5 Tryz.underlying4 f (qU a)
 ·rw [Tryz.params4];intro t V;simp only [Array.toList,zKP,zMP,or_false] at V;rcases V with rfl | rfl | rfl | rfl
  ·exact ⟨Z5,zJr Z5⟩
  ·exact ⟨Z5,zJr Z5⟩
  ·exact ⟨Z5,zJr Z5⟩
  ·exact ⟨Z5,zJr Z5⟩
 ·rw [Tryz.params4];exact Hv.cons sV (Hv.cons sW (Hv.cons ic (Hv.cons ic Hv.nil)))
 ·intro w y hy;obtain ⟨n,u⟩:=zIx y.1 y.2.1 y.2.2.1 y.2.2.2.1 (Cm.of (hy 0)) (NQ.of (hy 0)) (TV (hy 1));exact zIy (u n (zBT _))
def ke (W:Os):laidMet Tryz.prog Rows.searchManySpecRow.laid ((TP W).forCall (λ_ _=>0) ⟨#[],#[OH,.slice none 0 0,.int .i64 0,.int .i64 0],[]⟩).memory:=
 laidMet_of_run' 70 Z5 Z5
def iy (W:Os){H:Type}(enc:TypeId×Value -> H): ∃ d,DataW.whole enc Tryz.prog ((TP W).forCall (λ_ _=>0) ⟨#[],#[OH,.slice none 0 0,.int .i64 0,.int .i64 0],[]⟩).memory Tryz.f4.params.toList Rows.searchManySpecSpec.vars false #[OH,Value.slice none 0 0,Value.int .i64 0,Value.int .i64 0].toList 16=some ([.agg [.lit (.int .i64 0),.lit (.int .i64 0),.nil,.nil,.nil],.nil,.lit (.int .i64 0),.lit (.int .i64 0)],[],d):=
 ⟨[],Z5⟩
set_option maxRecDepth 100000 in
def kT (a:Os)(V:a.Started)(H:Type)(enc:TypeId×Value -> H)(F:Stop.Interp):
 ReturnsInHanded {} Tryz.checked a 4 .any ((OpenSpec.ofChange Rows.searchManySpecSpec).preRow enc Tryz.prog Tryz.f4 Rows.searchManySpecRow.domain false Rows.searchManySpecRow.laid) (((OpenSpec.ofChange Rows.searchManySpecSpec).at F).post enc Tryz.prog Tryz.f4 false true false false):=by
 obtain ⟨P7,d⟩:=iy a enc
 refine returnsInHanded_of_row (C:=Tryz.checked) (s:=OpenSpec.ofChange Rows.searchManySpecSpec) own V Z5 Tryz.func4
  (witness_row_at (enc:=enc) (C:=Tryz.checked) false (TP a) #[OH,.slice none 0 0,.int .i64 0,.int .i64 0] rfl Z5 Z5 Z5
   (OpenSpec.preRow_of_cond 16 d Z5 (λk hk=>by cases hk) Z5 (ke a))) ?_
 intro W B args ds gs J c A _ _ f j _ _;refine nr H enc W B args ds gs J c A ?_ j;have b:=A;obtain ⟨p,q,_,w,_⟩:=b;obtain ⟨rfl,_⟩:=trodVars_none w;have e:(DataW.weightsEach Tryz.prog (Tryz.f4.params.toList++[]) (ds++[])).all (· <=reachBytes)=true:=f;rw [zMU,zMU] at e;exact e
def said:Rows.SearchManySpecSaid:=
 OpenClaim.holds_of_cond 4 Tryz.f4 rfl rfl rfl rfl rfl rfl rfl ⟨rfl,rfl,rfl,rfl,rfl⟩ rfl rfl rfl rfl rfl Z5 Tryz.func4 Z5
  (zNS Z5) (by unfold Func.isWrapper;first | (rw [zAE (by decide+kernel)];kernel_rfl) | (rw [zEO (by decide+kernel)];exact ⟨rfl,rfl⟩))
  (λW V H enc _ F=>by rw [OpenClaim.pre_eq_preRow];exact kT W V H enc F)
def plain (f:FuncId)(fn:Func)(O:Tryz.pinned.checked.prog.funcNamed "gridwright/gridwrightlaw29.SearchManySpec" =some f)(E:Tryz.pinned.checked.prog.funcs[f]? =some fn):
 true=Tryz.pinned.checked.prog.looks []/\ ∀ (j:Nat) t,fn.params[j]? =some t -> Tryz.pinned.checked.prog.wantsStandIn t=false:=by
 obtain rfl:f=4:=zA2 ((show Tryz.prog.funcNamed "gridwright/gridwrightlaw29.SearchManySpec" =some 4 by kernel_rfl).symm.trans O) |>.symm
 obtain rfl:fn=Tryz.f4:=(zA2 (Tryz.func4.symm.trans E)).symm;refine ⟨Z5,λj t V=>?_⟩;rw [Tryz.params4] at V;have V:=zPp V;simp only [Array.mem_def,Array.toList,zKP,zMP,or_false] at V;rcases V with rfl | rfl | rfl | rfl
 ·exact (show Tryz.prog.wantsStandIn 26=false by kernel_rfl)
 ·exact (show Tryz.prog.wantsStandIn 22=false by kernel_rfl)
 ·exact (show Tryz.prog.wantsStandIn 3=false by kernel_rfl)
 ·exact (show Tryz.prog.wantsStandIn 3=false by kernel_rfl)
end Go.Proofs.YtodinaconebmdaaGreatDoor.searchManySpec
namespace Go.Proofs.YtodinaconebmdaaGreatDoor
open Go.ChangeShapes Go.WideShapes Go.ChangeAt Go.RowKit
theorem searchManySpec_card:Rows.SearchManySpecCardSaid:=
 Claim7.holds_tied_plain_at .later [] _ _ _ _ searchManySpec.said (λ_ h=>by cases h) Z5 (λ_ h=>by cases h) searchManySpec_row_tie rfl ⟨rfl,rfl⟩ Z5 rfl searchManySpec.plain Z5
end Go.Proofs.YtodinaconebmdaaGreatDoor
