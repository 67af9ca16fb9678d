/- The solutions are divided by the symbols of a cell: for every problem, position and cell the law answers true. -/
import Derived.Test.YtodinaconebmdaaGreatDoorPzH
set_option linter.all false
namespace Go.Proofs.YtodinaconebmdaaGreatDoor.searchSplit
open Go.ChangeShapes Go.WideShapes Go.ChangeAt Go.RowKit
set_option maxRecDepth 100000 in
def zKi (H:Type)(enc:TypeId×Value -> H)(W:World)(u:Nat)(args:Array Value)(ds gs:List (DataW H))(b:List MemPlace) 
 (B: ∀ (j:Nat) t v,Tryz.f7.params[j]? =some t -> args[j]? =some v -> Value.okWide Tryz.prog W .any u t v)
 (a:DataW.Whole enc Tryz.prog Tryz.f7.params.toList Rows.searchSplitSpec.vars false W args.toList ds gs b)
 (c:(DataW.weightsEach Tryz.prog Tryz.f7.params.toList ds).all (· <=reachBytes)=true) (h:laidMetH Tryz.prog Rows.searchSplitRow.laid W):
 Calls Tryz.prog 7 args W λe o=>∃ v,e= .returned v/\ Rows.searchSplitSpec.post enc Tryz.prog Tryz.f7 false true false false W args v o:=by
 have d:=a;obtain ⟨p,q,g,J,rfl,Hj,BB⟩:=a;have A:DataW.TrodAll enc Tryz.prog W 0 (λ_=>true) true Tryz.f7.params.toList args.toList ds p:=g;rw [Tryz.params7] at A;obtain ⟨v0,UB,d0,Er,p0,q0,CT,rfl,rfl,_,r0⟩:=trodAll_cons A;obtain ⟨v1,Da,d1,E9,p1,q1,rfl,rfl,rfl,_,l⟩:=trodAll_cons r0;obtain ⟨v2,FW,d2,ds2,p2,q2,rfl,rfl,rfl,_,f⟩:=trodAll_cons l;obtain ⟨rfl,rfl,rfl⟩:=trodAll_nil f;obtain ⟨rfl,rfl⟩:=trodVars_none J;refine zFL (Γ:=GG) (s:=Rows.searchSplitSpec) (tb:=4) (dv:=λy:AA×Ξ×W8×Unit=>[.agg 5 (L1 (AH y.1)),.ints y.2.1,.int .u8 y.2.2.1.1]) zFT ?_ ?_ ?_ B d rfl rfl (by kernel_rfl) Tryz.underlying4 c (yW h)
 ·rw [Tryz.params7];intro t X;simp only [Array.toList,zIq,zMe,or_false] at X;rcases X with rfl | rfl | rfl
  ·exact ⟨by kernel_rfl,zIa (by kernel_rfl)⟩
  ·exact ⟨by kernel_rfl,zIa (by kernel_rfl)⟩
  ·exact ⟨by kernel_rfl,zIa (by kernel_rfl)⟩
 ·rw [Tryz.params7];exact Lj.cons zBd (Lj.cons zBe (Lj.cons (Jd.u8 Tryz.underlying5) Lj.nil))
 ·intro w y hy;obtain ⟨n,i⟩:=zFM y.1 y.2.1 y.2.2.1.1 (DK.of (hy 0)) (Oh.of (hy 0)) (Vr (hy 1)) y.2.2.1.2;exact zFN (i n (zGT _))
def zFS (E:Os):laidMet Tryz.prog Rows.searchSplitRow.laid ((g9 E).forCall (λ_ _=>0) ⟨#[],#[ZN,.slice none 0 0,.int .u8 0],[]⟩).memory:=
 laidMet_of_run' 70 (by kernel_rfl) (by kernel_rfl)
def zCq (E:Os){H:Type}(enc:TypeId×Value -> H): ∃ I,DataW.whole enc Tryz.prog ((g9 E).forCall (λ_ _=>0) ⟨#[],#[ZN,.slice none 0 0,.int .u8 0],[]⟩).memory Tryz.f7.params.toList Rows.searchSplitSpec.vars false #[ZN,Value.slice none 0 0,Value.int .u8 0].toList 16=some ([.agg [.lit (.int .i64 0),.lit (.int .i64 0),.nil,.nil,.nil],.nil,.lit (.int .u8 0)],[],I):=
 ⟨[],by kernel_rfl⟩
set_option maxRecDepth 100000 in
def zFH (E:Os)(h:E.Started)(H:Type)(enc:TypeId×Value -> H)(F:Stop.Interp):
 ReturnsInHanded {} Tryz.checked E 7 .any ((OpenSpec.ofChange Rows.searchSplitSpec).preRow enc Tryz.prog Tryz.f7 Rows.searchSplitRow.domain false Rows.searchSplitRow.laid) (((OpenSpec.ofChange Rows.searchSplitSpec).at F).post enc Tryz.prog Tryz.f7 false true false false):=by
 obtain ⟨ZS,a⟩:=zCq E enc
 refine returnsInHanded_of_row (C:=Tryz.checked) (s:=OpenSpec.ofChange Rows.searchSplitSpec) own h (by kernel_rfl) Tryz.func7
  (witness_row_at (enc:=enc) (C:=Tryz.checked) false (g9 E) #[ZN,.slice none 0 0,.int .u8 0] rfl (by kernel_rfl) (by kernel_rfl) (by kernel_rfl)
   (OpenSpec.preRow_of_cond 16 a (by kernel_rfl) (λk hk=>by cases hk) (by kernel_rfl) (zFS E))) ?_
 intro W u args ds gs b B w _ _ c d _ _;refine zKi H enc W u args ds gs b B w ?_ d;have f:=w;obtain ⟨p,q,_,J,_⟩:=f;obtain ⟨rfl,_⟩:=trodVars_none J;have e:(DataW.weightsEach Tryz.prog (Tryz.f7.params.toList++[]) (ds++[])).all (· <=reachBytes)=true:=c;rw [zIs,zIs] at e;exact e
def said:Rows.SearchSplitSaid:=
 OpenClaim.holds_of_cond 7 Tryz.f7 rfl rfl rfl rfl rfl rfl rfl ⟨rfl,rfl,rfl,rfl,rfl⟩ rfl rfl rfl rfl rfl (by kernel_rfl) Tryz.func7 (by kernel_rfl)
  (zIT (by kernel_rfl)) (by unfold Func.isWrapper;first | (rw [zEZ (by decide+kernel)];kernel_rfl) | (rw [zGN (by decide+kernel)];exact ⟨rfl,rfl⟩))
  (λE h H enc _ F=>by rw [OpenClaim.pre_eq_preRow];exact zFH E h H enc F)
def plain (f:FuncId)(fn:Func)(M:Tryz.pinned.checked.prog.funcNamed "gridwright/gridwrightlaw29.SearchSplit" =some f)(e:Tryz.pinned.checked.prog.funcs[f]? =some fn):
 true=Tryz.pinned.checked.prog.looks []/\ ∀ (j:Nat) t,fn.params[j]? =some t -> Tryz.pinned.checked.prog.wantsStandIn t=false:=by
 obtain rfl:f=7:=zGJ ((show Tryz.prog.funcNamed "gridwright/gridwrightlaw29.SearchSplit" =some 7 by kernel_rfl).symm.trans M) |>.symm
 obtain rfl:fn=Tryz.f7:=(zGJ (Tryz.func7.symm.trans e)).symm;refine ⟨by kernel_rfl,λj t X=>?_⟩;rw [Tryz.params7] at X;have X:=zMu X;simp only [Array.mem_def,Array.toList,zIq,zMe,or_false] at X;rcases X with rfl | rfl | rfl
 ·exact (show Tryz.prog.wantsStandIn 26=false by kernel_rfl)
 ·exact (show Tryz.prog.wantsStandIn 22=false by kernel_rfl)
 ·exact (show Tryz.prog.wantsStandIn 5=false by kernel_rfl)
end Go.Proofs.YtodinaconebmdaaGreatDoor.searchSplit
namespace Go.Proofs.YtodinaconebmdaaGreatDoor
open Go.ChangeShapes Go.WideShapes Go.ChangeAt Go.RowKit
theorem searchSplit_card:Rows.SearchSplitCardSaid:=
 Claim7.holds_tied_plain_at .later [] _ _ _ _ searchSplit.said (λ_ h=>by cases h) (by kernel_rfl) (λ_ h=>by cases h) searchSplit_row_tie rfl ⟨rfl,rfl⟩ (by kernel_rfl) rfl searchSplit.plain (by kernel_rfl)
end Go.Proofs.YtodinaconebmdaaGreatDoor
