/- Pruning of a choice constraint keeps exactly what some choice uses -/
import Derived.Test.YtgkhhfnhacibcaaGreatDoorPeF
set_option linter.all false
namespace Go.Proofs.YtgkhhfnhacibcaaGreatDoor.pruneExact
open Go.ChangeShapes Go.WideShapes Go.ChangeAt Go.RowKit
set_option maxRecDepth 100000 in
theorem wL (H:Type) (enc:TypeId×Value -> H) (W:World) (DG:Nat) (args:Array Value) (ds gs:List (DataW H)) (Mt:List MemPlace)
 (GL: ∀ (j:Nat) t v,Tryz.f8.params[j]? =some t -> args[j]? =some v -> Value.okWide Tryz.prog W .any DG t v)
 (hW:DataW.Whole enc Tryz.prog Tryz.f8.params.toList Rows.pruneExactSpec.vars false W args.toList ds gs Mt)
 (A9:(DataW.weightsEach Tryz.prog Tryz.f8.params.toList ds).all (· <=reachBytes)=true) (hL:laidMetH Tryz.prog Rows.pruneExactRow.laid W):
 Calls Tryz.prog 8 args W fun e W'=>∃ v,e= .returned v/\ Rows.pruneExactSpec.post enc Tryz.prog Tryz.f8 false true false false W args v W':=by
 have Mc:=hW;obtain ⟨p,q,ui,hV,rfl,GP,BD⟩:=hW;have hA:DataW.TrodAll enc Tryz.prog W 0 (fun _=>true) true Tryz.f8.params.toList args.toList ds p:=ui;rw [Tryz.params8] at hA;obtain ⟨v0,M6,d0,Df,p0,q0,Ce,rfl,rfl,_,r0⟩:=trodAll_cons hA;obtain ⟨v1,Cb,d1,YL,p1,q1,rfl,rfl,rfl,_,r1⟩:=trodAll_cons r0;obtain ⟨v2,E5,d2,ds2,p2,q2,rfl,rfl,rfl,_,r2⟩:=trodAll_cons r1;obtain ⟨rfl,rfl,rfl⟩:=trodAll_nil r2;obtain ⟨rfl,rfl⟩:=trodVars_none hV;refine pp (Γ:=GG) (s:=Rows.pruneExactSpec) (tb:=4) (dv:=fun y:AA×Int×List Int×Unit=>[.agg 5 (L1 (AD y.1)),.int .i64 y.2.1,.ints y.2.2.1]) pz ?_ ?_ ?_ GL Mc rfl rfl (by kernel_rfl) Tryz.underlying4 A9 (i4 hL)
 ·rw [Tryz.params8];intro t ht;simp only [Array.toList,yf,zv,or_false] at ht;rcases ht with rfl | rfl | rfl
  ·exact ⟨by kernel_rfl,zX (by kernel_rfl)⟩
  ·exact ⟨by kernel_rfl,zX (by kernel_rfl)⟩
  ·exact ⟨by kernel_rfl,zX (by kernel_rfl)⟩
 ·rw [Tryz.params8];exact I7.cons lX (I7.cons lZ (I7.cons lY I7.nil))
 ·intro w y hy;obtain ⟨n,hn⟩:=pq y.1 y.2.1 y.2.2.1 (Ff.of (hy 0)) (QJ (hy 2));exact pr (hn n (yS _))
theorem py (os:Os):laidMet Tryz.prog Rows.pruneExactRow.laid ((Wi os).forCall (fun _ _=>0) ⟨#[],#[Sd,.int .i64 0,.slice none 0 0],[]⟩).memory:=
 laidMet_of_run' 70 (by kernel_rfl) (by kernel_rfl)
theorem mr (os:Os) {H:Type} (enc:TypeId×Value -> H): ∃ Se,DataW.whole enc Tryz.prog ((Wi os).forCall (fun _ _=>0) ⟨#[],#[Sd,.int .i64 0,.slice none 0 0],[]⟩).memory Tryz.f8.params.toList Rows.pruneExactSpec.vars false #[Sd,Value.int .i64 0,Value.slice none 0 0].toList 16=some ([.agg [.lit (.int .i64 0),.lit (.int .i64 0),.nil,.nil,.nil],.lit (.int .i64 0),.nil],[],Se):=
 ⟨[],by kernel_rfl⟩
set_option maxRecDepth 100000 in
theorem ph (os:Os) (VL:os.Started) (H:Type) (enc:TypeId×Value -> H) (F:Stop.Interp):
 ReturnsInHanded {} Tryz.checked os 8 .any ((OpenSpec.ofChange Rows.pruneExactSpec).preRow enc Tryz.prog Tryz.f8 Rows.pruneExactRow.domain false Rows.pruneExactRow.laid) (((OpenSpec.ofChange Rows.pruneExactSpec).at F).post enc Tryz.prog Tryz.f8 false true false false):=by
 obtain ⟨Se,hx⟩:=mr os enc
 refine returnsInHanded_of_row (C:=Tryz.checked) (s:=OpenSpec.ofChange Rows.pruneExactSpec) own VL (by kernel_rfl) Tryz.func8
  (witness_row_at (enc:=enc) (C:=Tryz.checked) false (Wi os) #[Sd,.int .i64 0,.slice none 0 0] rfl (by kernel_rfl) (by kernel_rfl) (by kernel_rfl)
   (OpenSpec.preRow_of_cond 16 hx (by kernel_rfl) (fun k hk=>by cases hk) (by kernel_rfl) (py os))) ?_
 intro W DG args ds gs Mt GL hW _ _ A9 hL _ _;refine wL H enc W DG args ds gs Mt GL hW ?_ hL;have h1:=hW;obtain ⟨p,q,_,hV,_⟩:=h1;obtain ⟨rfl,_⟩:=trodVars_none hV;have e:(DataW.weightsEach Tryz.prog (Tryz.f8.params.toList++[]) (ds++[])).all (· <=reachBytes)=true:=A9;rw [zAO,zAO] at e;exact e
theorem said:Rows.PruneExactSaid:=
 OpenClaim.holds_of_cond 8 Tryz.f8 rfl rfl rfl rfl rfl rfl rfl ⟨rfl,rfl,rfl,rfl,rfl⟩ rfl rfl rfl rfl rfl (by kernel_rfl) Tryz.func8 (by kernel_rfl)
  (zl (by kernel_rfl)) (by unfold Func.isWrapper;first | (rw [xw (by decide+kernel)];kernel_rfl) | (rw [yK (by decide+kernel)];exact ⟨rfl,rfl⟩))
  (fun os VL H enc _ F=>by rw [OpenClaim.pre_eq_preRow];exact ph os VL H enc F)
theorem plain (f:FuncId) (fn:Func) (hf:Tryz.pinned.checked.prog.funcNamed "gridwright/gridwrightlaw26.PruneExact" =some f) (MV:Tryz.pinned.checked.prog.funcs[f]? =some fn):
 false=Tryz.pinned.checked.prog.looks []/\ ∀ (j:Nat) t,fn.params[j]? =some t -> Tryz.pinned.checked.prog.wantsStandIn t=false:=by
 obtain rfl:f=8:=yH ((show Tryz.prog.funcNamed "gridwright/gridwrightlaw26.PruneExact" =some 8 by kernel_rfl).symm.trans hf) |>.symm
 obtain rfl:fn=Tryz.f8:=(yH (Tryz.func8.symm.trans MV)).symm;refine ⟨by kernel_rfl,fun j t ht=>?_⟩;rw [Tryz.params8] at ht;have ht:=zy ht;simp only [Array.mem_def,Array.toList,yf,zv,or_false] at ht;rcases ht with rfl | rfl | rfl
 ·exact (show Tryz.prog.wantsStandIn 26=false by kernel_rfl)
 ·exact (show Tryz.prog.wantsStandIn 3=false by kernel_rfl)
 ·exact (show Tryz.prog.wantsStandIn 22=false by kernel_rfl)
end Go.Proofs.YtgkhhfnhacibcaaGreatDoor.pruneExact
namespace Go.Proofs.YtgkhhfnhacibcaaGreatDoor
open Go.ChangeShapes Go.WideShapes Go.ChangeAt Go.RowKit
theorem pruneExact_card:Rows.PruneExactCardSaid:=
 Claim7.holds_tied_plain_at .later [] _ _ _ _ pruneExact.said (fun _ h=>by cases h) (by kernel_rfl) (fun _ h=>by cases h) pruneExact_row_tie rfl ⟨rfl,rfl⟩ (by kernel_rfl) rfl pruneExact.plain (by kernel_rfl)
end Go.Proofs.YtgkhhfnhacibcaaGreatDoor
