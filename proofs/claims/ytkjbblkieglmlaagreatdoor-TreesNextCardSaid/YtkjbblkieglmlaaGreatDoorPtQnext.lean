/- Trees are nested: for every problem, position and tree the law answers true. -/
import Derived.Test.YtkjbblkieglmlaaGreatDoorPtG
set_option linter.all false
namespace Go.Proofs.YtkjbblkieglmlaaGreatDoor.treesNext
open Go.ChangeShapes Go.WideShapes Go.ChangeAt Go.RowKit
set_option maxRecDepth 100000 in
theorem cS (H:Type) (enc:TypeId×Value -> H) (W:World) (DC:Nat) (args:Array Value) (ds gs:List (DataW H)) (Ik:List MemPlace)
 (FI: ∀ (j:Nat) t v,Tryz.f8.params[j]? =some t -> args[j]? =some v -> Value.okWide Tryz.prog W .any DC t v)
 (hW:DataW.Whole enc Tryz.prog Tryz.f8.params.toList Rows.treesNextSpec.vars false W args.toList ds gs Ik)
 (Ay:(DataW.weightsEach Tryz.prog Tryz.f8.params.toList ds).all (· <=reachBytes)=true) (hL:laidMetH Tryz.prog Rows.treesNextRow.laid W):
 Calls Tryz.prog 8 args W fun e W'=>∃ v,e= .returned v/\ Rows.treesNextSpec.post enc Tryz.prog Tryz.f8 false true false false W args v W':=by
 have N9:=hW;obtain ⟨p,q,bg,hV,rfl,GT,Au⟩:=hW;have hA:DataW.TrodAll enc Tryz.prog W 0 (fun _=>true) true Tryz.f8.params.toList args.toList ds p:=bg;rw [Tryz.params8] at hA;obtain ⟨v0,Md,d0,Dw,p0,q0,Cb,rfl,rfl,_,r0⟩:=zFG hA;obtain ⟨v1,CG,d1,XL,p1,q1,rfl,rfl,rfl,_,r1⟩:=zFG r0;obtain ⟨v2,Dq,d2,ds2,p2,q2,rfl,rfl,rfl,_,r2⟩:=zFG r1;obtain ⟨rfl,rfl,rfl⟩:=trodAll_nil r2;obtain ⟨rfl,rfl⟩:=trodVars_none hV;refine jv (Γ:=GG) (s:=Rows.treesNextSpec) (tb:=4) (dv:=fun y:AA×List Int×List (Int×Int)×Unit=>[.agg 5 (L1 (AD y.1)),.ints y.2.1,.sl 2 y.2.2.1.length (AQ BD y.2.2.1)]) j7 ?_ ?_ ?_ FI N9 rfl rfl (by kernel_rfl) Tryz.underlying4 Ay (eZ hL)
 ·rw [Tryz.params8];intro t ht;simp only [Array.toList,zA3,zEd,or_false] at ht;rcases ht with rfl | rfl | rfl
  ·exact ⟨by kernel_rfl,zD2 (by kernel_rfl)⟩
  ·exact ⟨by kernel_rfl,zD2 (by kernel_rfl)⟩
  ·exact ⟨by kernel_rfl,zD2 (by kernel_rfl)⟩
 ·rw [Tryz.params8];exact G5.cons ga (G5.cons gh (G5.cons gb G5.nil))
 ·intro w y hy;obtain ⟨n,hn⟩:=wH y.1 y.2.1 y.2.2.1 (EA.of (hy 0)) (PV (hy 1));exact wI (hn n (zAp _))
theorem aC (os:Os):laidMet Tryz.prog Rows.treesNextRow.laid ((PN os).forCall (fun _ _=>0) ⟨#[],#[LY,.slice none 0 0,.slice none 0 0],[]⟩).memory:=
 laidMet_of_run' 70 (by kernel_rfl) (by kernel_rfl)
theorem ZB (os:Os) {H:Type} (enc:TypeId×Value -> H): ∃ NE,DataW.whole enc Tryz.prog ((PN os).forCall (fun _ _=>0) ⟨#[],#[LY,.slice none 0 0,.slice none 0 0],[]⟩).memory Tryz.f8.params.toList Rows.treesNextSpec.vars false #[LY,Value.slice none 0 0,Value.slice none 0 0].toList 16=some ([.agg [.lit (.int .i64 0),.lit (.int .i64 0),.nil,.nil,.nil],.nil,.nil],[],NE):=
 ⟨[],by kernel_rfl⟩
set_option maxRecDepth 100000 in
theorem Z8 (os:Os) (Mk:os.Started) (H:Type) (enc:TypeId×Value -> H) (F:Stop.Interp):
 ReturnsInHanded {} Tryz.checked os 8 .any ((OpenSpec.ofChange Rows.treesNextSpec).preRow enc Tryz.prog Tryz.f8 Rows.treesNextRow.domain false Rows.treesNextRow.laid) (((OpenSpec.ofChange Rows.treesNextSpec).at F).post enc Tryz.prog Tryz.f8 false true false false):=by
 obtain ⟨NE,hx⟩:=ZB os enc
 refine returnsInHanded_of_row (C:=Tryz.checked) (s:=OpenSpec.ofChange Rows.treesNextSpec) own Mk (by kernel_rfl) Tryz.func8
  (witness_row_at (enc:=enc) (C:=Tryz.checked) false (PN os) #[LY,.slice none 0 0,.slice none 0 0] rfl (by kernel_rfl) (by kernel_rfl) (by kernel_rfl)
   (OpenSpec.preRow_of_cond 16 hx (by kernel_rfl) (fun k hk=>by cases hk) (by kernel_rfl) (aC os))) ?_
 intro W DC args ds gs Ik FI hW _ _ Ay hL _ _;refine cS H enc W DC args ds gs Ik FI hW ?_ hL;have h1:=hW;obtain ⟨p,q,_,hV,_⟩:=h1;obtain ⟨rfl,_⟩:=trodVars_none hV;have e:(DataW.weightsEach Tryz.prog (Tryz.f8.params.toList++[]) (ds++[])).all (· <=reachBytes)=true:=Ay;rw [zEk,zEk] at e;exact e
theorem said:Rows.TreesNextSaid:=
 OpenClaim.holds_of_cond 8 Tryz.f8 rfl rfl rfl rfl rfl rfl rfl ⟨rfl,rfl,rfl,rfl,rfl⟩ rfl rfl rfl rfl rfl (by kernel_rfl) Tryz.func8 (by kernel_rfl)
  (zEZ (by kernel_rfl)) (by unfold Func.isWrapper;first | (rw [zAE (by decide+kernel)];kernel_rfl) | (rw [zAU (by decide+kernel)];exact ⟨rfl,rfl⟩))
  (fun os Mk H enc _ F=>by rw [OpenClaim.pre_eq_preRow];exact Z8 os Mk H enc F)
theorem plain (f:FuncId) (fn:Func) (hf:Tryz.pinned.checked.prog.funcNamed "gridwright/gridwrightlaw28.TreesNext" =some f) (Nw:Tryz.pinned.checked.prog.funcs[f]? =some fn):
 true=Tryz.pinned.checked.prog.looks []/\ ∀ (j:Nat) t,fn.params[j]? =some t -> Tryz.pinned.checked.prog.wantsStandIn t=false:=by
 obtain rfl:f=8:=zAR ((show Tryz.prog.funcNamed "gridwright/gridwrightlaw28.TreesNext" =some 8 by kernel_rfl).symm.trans hf) |>.symm
 obtain rfl:fn=Tryz.f8:=(zAR (Tryz.func8.symm.trans Nw)).symm;refine ⟨by kernel_rfl,fun j t ht=>?_⟩;rw [Tryz.params8] at ht;have ht:=zEl ht;simp only [Array.mem_def,Array.toList,zA3,zEd,or_false] at ht;rcases ht with rfl | rfl | rfl
 ·exact (show Tryz.prog.wantsStandIn 26=false by kernel_rfl)
 ·exact (show Tryz.prog.wantsStandIn 22=false by kernel_rfl)
 ·exact (show Tryz.prog.wantsStandIn 27=false by kernel_rfl)
end Go.Proofs.YtkjbblkieglmlaaGreatDoor.treesNext
namespace Go.Proofs.YtkjbblkieglmlaaGreatDoor
open Go.ChangeShapes Go.WideShapes Go.ChangeAt Go.RowKit
theorem treesNext_card:Rows.TreesNextCardSaid:=
 Claim7.holds_tied_plain_at .later [] _ _ _ _ treesNext.said (fun _ h=>by cases h) (by kernel_rfl) (fun _ h=>by cases h) treesNext_row_tie rfl ⟨rfl,rfl⟩ (by kernel_rfl) rfl treesNext.plain (by kernel_rfl)
end Go.Proofs.YtkjbblkieglmlaaGreatDoor
