/- Find answers no solution, the only one, or two: for every problem, position and number the law answers true. -/
import Derived.Test.YtodinaconebmdaaGreatDoorPxH
set_option linter.all false
namespace Go.Proofs.YtodinaconebmdaaGreatDoor.searchComplete
open Go.ChangeShapes Go.WideShapes Go.ChangeAt Go.RowKit
set_option maxRecDepth 100000 in
def zKw (H:Type)(enc:TypeId×Value -> H)(W:World)(u:Nat)(args:Array Value)(ds gs:List (DataW H))(d:List MemPlace) 
 (B: ∀ (j:Nat) t v,Tryz.f5.params[j]? =some t -> args[j]? =some v -> Value.okWide Tryz.prog W .any u t v)
 (b:DataW.Whole enc Tryz.prog Tryz.f5.params.toList Rows.searchCompleteSpec.vars false W args.toList ds gs d)
 (f:(DataW.weightsEach Tryz.prog Tryz.f5.params.toList ds).all (· <=reachBytes)=true) (l:laidMetH Tryz.prog Rows.searchCompleteRow.laid W):
 Calls Tryz.prog 5 args W λe o=>∃ v,e= .returned v/\ Rows.searchCompleteSpec.post enc Tryz.prog Tryz.f5 false true false false W args v o:=by
 have x:=b;obtain ⟨p,q,a,K,rfl,Hj,BA⟩:=b;have C:DataW.TrodAll enc Tryz.prog W 0 (λ_=>true) true Tryz.f5.params.toList args.toList ds p:=a;rw [Tryz.params5] at C;obtain ⟨v0,UH,d0,Eo,p0,q0,CU,rfl,rfl,_,r0⟩:=trodAll_cons C;obtain ⟨v1,DZ,d1,E7,p1,q1,rfl,rfl,rfl,_,g⟩:=trodAll_cons r0;obtain ⟨v2,FU,d2,ds2,p2,q2,rfl,rfl,rfl,_,z⟩:=trodAll_cons g;obtain ⟨rfl,rfl,rfl⟩:=trodAll_nil z;obtain ⟨rfl,rfl⟩:=trodVars_none K;refine zFQ (Γ:=GG) (s:=Rows.searchCompleteSpec) (tb:=4) (dv:=λy:AA×Ξ×W8×Unit=>[.agg 5 (L1 (AH y.1)),.ints y.2.1,.int .u8 y.2.2.1.1]) zFY ?_ ?_ ?_ B x rfl rfl (by kernel_rfl) Tryz.underlying4 f (yc l)
 ·rw [Tryz.params5];intro t c;simp only [Array.toList,zIn,zMp,or_false] at c;rcases c with rfl | rfl | rfl
  ·exact ⟨by kernel_rfl,zIi (by kernel_rfl)⟩
  ·exact ⟨by kernel_rfl,zIi (by kernel_rfl)⟩
  ·exact ⟨by kernel_rfl,zIi (by kernel_rfl)⟩
 ·rw [Tryz.params5];exact Ln.cons zBj (Ln.cons zBk (Ln.cons (Jf.u8 Tryz.underlying5) Ln.nil))
 ·intro w y hy;obtain ⟨n,h⟩:=zFR y.1 y.2.1 y.2.2.1.1 (DJ.of (hy 0)) (Om.of (hy 0)) (Vx (hy 1)) y.2.2.1.2;exact zFS (h n (zGd _))
def zFX (F:Os):laidMet Tryz.prog Rows.searchCompleteRow.laid ((iJ F).forCall (λ_ _=>0) ⟨#[],#[ZQ,.slice none 0 0,.int .u8 0],[]⟩).memory:=
 laidMet_of_run' 70 (by kernel_rfl) (by kernel_rfl)
def zCv (F:Os){H:Type}(enc:TypeId×Value -> H): ∃ K,DataW.whole enc Tryz.prog ((iJ F).forCall (λ_ _=>0) ⟨#[],#[ZQ,.slice none 0 0,.int .u8 0],[]⟩).memory Tryz.f5.params.toList Rows.searchCompleteSpec.vars false #[ZQ,Value.slice none 0 0,Value.int .u8 0].toList 16=some ([.agg [.lit (.int .i64 0),.lit (.int .i64 0),.nil,.nil,.nil],.nil,.lit (.int .u8 0)],[],K):=
 ⟨[],by kernel_rfl⟩
set_option maxRecDepth 100000 in
def zFM (a:Os)(o:a.Started)(H:Type)(enc:TypeId×Value -> H)(F:Stop.Interp):
 ReturnsInHanded {} Tryz.checked a 5 .any ((OpenSpec.ofChange Rows.searchCompleteSpec).preRow enc Tryz.prog Tryz.f5 Rows.searchCompleteRow.domain false Rows.searchCompleteRow.laid) (((OpenSpec.ofChange Rows.searchCompleteSpec).at F).post enc Tryz.prog Tryz.f5 false true false false):=by
 obtain ⟨ZV,d⟩:=zCv a enc
 refine returnsInHanded_of_row (C:=Tryz.checked) (s:=OpenSpec.ofChange Rows.searchCompleteSpec) own o (by kernel_rfl) Tryz.func5
  (witness_row_at (enc:=enc) (C:=Tryz.checked) false (iJ a) #[ZQ,.slice none 0 0,.int .u8 0] rfl (by kernel_rfl) (by kernel_rfl) (by kernel_rfl)
   (OpenSpec.preRow_of_cond 16 d (by kernel_rfl) (λk hk=>by cases hk) (by kernel_rfl) (zFX a))) ?_
 intro W u args ds gs b B t _ _ c l _ _;refine zKw H enc W u args ds gs b B t ?_ l;have f:=t;obtain ⟨p,q,_,K,_⟩:=f;obtain ⟨rfl,_⟩:=trodVars_none K;have e:(DataW.weightsEach Tryz.prog (Tryz.f5.params.toList++[]) (ds++[])).all (· <=reachBytes)=true:=c;rw [zI3,zI3] at e;exact e
def said:Rows.SearchCompleteSaid:=
 OpenClaim.holds_of_cond 5 Tryz.f5 rfl rfl rfl rfl rfl rfl rfl ⟨rfl,rfl,rfl,rfl,rfl⟩ rfl rfl rfl rfl rfl (by kernel_rfl) Tryz.func5 (by kernel_rfl)
  (zIe (by kernel_rfl)) (by unfold Func.isWrapper;first | (rw [zEd (by decide+kernel)];kernel_rfl) | (rw [zGW (by decide+kernel)];exact ⟨rfl,rfl⟩))
  (λa o H enc _ F=>by rw [OpenClaim.pre_eq_preRow];exact zFM a o H enc F)
def plain (f:FuncId)(fn:Func)(M:Tryz.pinned.checked.prog.funcNamed "gridwright/gridwrightlaw29.SearchComplete" =some f)(d:Tryz.pinned.checked.prog.funcs[f]? =some fn):
 true=Tryz.pinned.checked.prog.looks []/\ ∀ (j:Nat) t,fn.params[j]? =some t -> Tryz.pinned.checked.prog.wantsStandIn t=false:=by
 obtain rfl:f=5:=zGT ((show Tryz.prog.funcNamed "gridwright/gridwrightlaw29.SearchComplete" =some 5 by kernel_rfl).symm.trans M) |>.symm
 obtain rfl:fn=Tryz.f5:=(zGT (Tryz.func5.symm.trans d)).symm;refine ⟨by kernel_rfl,λj t a=>?_⟩;rw [Tryz.params5] at a;have a:=zM6 a;simp only [Array.mem_def,Array.toList,zIn,zMp,or_false] at a;rcases a with rfl | rfl | rfl
 ·exact (show Tryz.prog.wantsStandIn 26=false by kernel_rfl)
 ·exact (show Tryz.prog.wantsStandIn 22=false by kernel_rfl)
 ·exact (show Tryz.prog.wantsStandIn 5=false by kernel_rfl)
end Go.Proofs.YtodinaconebmdaaGreatDoor.searchComplete
namespace Go.Proofs.YtodinaconebmdaaGreatDoor
open Go.ChangeShapes Go.WideShapes Go.ChangeAt Go.RowKit
theorem searchComplete_card:Rows.SearchCompleteCardSaid:=
 Claim7.holds_tied_plain_at .later [] _ _ _ _ searchComplete.said (λ_ h=>by cases h) (by kernel_rfl) (λ_ h=>by cases h) searchComplete_row_tie rfl ⟨rfl,rfl⟩ (by kernel_rfl) rfl searchComplete.plain (by kernel_rfl)
end Go.Proofs.YtodinaconebmdaaGreatDoor
