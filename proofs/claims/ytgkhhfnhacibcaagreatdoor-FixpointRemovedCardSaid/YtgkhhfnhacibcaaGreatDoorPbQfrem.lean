/- Symbols removed before or after: for every problem, position, numbers and level the law answers true. -/
import Derived.Test.YtgkhhfnhacibcaaGreatDoorPbF
set_option linter.all false
namespace Go.Proofs.YtgkhhfnhacibcaaGreatDoor
abbrev zBz:=@Go.Claim7.holds_tied_plain_at
abbrev zCI:=@Go.OpenSpec.preRow_of_cond
abbrev zCJ:=@Go.OpenClaim.holds_of_cond
abbrev zCK:=@Go.OpenClaim.pre_eq_preRow
abbrev zCR:=@Go.returnsInHanded_of_row
end Go.Proofs.YtgkhhfnhacibcaaGreatDoor
namespace Go.Proofs.YtgkhhfnhacibcaaGreatDoor.fixpointRemoved
open Go.ChangeShapes Go.WideShapes Go.ChangeAt Go.RowKit
set_option maxRecDepth 100000 in
theorem SP (H:Type) (enc:TypeId×Value -> H) (W:World) (CT:Nat) (args:Array Value) (ds gs:List (DataW H)) (F6:List MemPlace)
 (DT: ∀ (j:Nat) t v,Tryz.f5.params[j]? =some t -> args[j]? =some v -> Value.okWide Tryz.prog W .any CT t v)
 (hW:DataW.Whole enc Tryz.prog Tryz.f5.params.toList Rows.fixpointRemovedSpec.vars false W args.toList ds gs F6)
 (Am:(DataW.weightsEach Tryz.prog Tryz.f5.params.toList ds).all (· <=reachBytes)=true) (hL:laidMetH Tryz.prog Rows.fixpointRemovedRow.laid W):
 Calls Tryz.prog 5 args W fun e W'=>∃ v,e= .returned v/\ Rows.fixpointRemovedSpec.post enc Tryz.prog Tryz.f5 false true false false W args v W':=by
 have Js:=hW;obtain ⟨p,q,Rk,hV,rfl,GM,Ay⟩:=hW;have hA:DataW.TrodAll enc Tryz.prog W 0 (fun _=>true) true Tryz.f5.params.toList args.toList ds p:=Rk;rw [Tryz.params5] at hA;obtain ⟨v0,KE,d0,DI,p0,q0,B9,rfl,rfl,_,r0⟩:=zA9 hA;obtain ⟨v1,CV,d1,DW,p1,q1,rfl,rfl,rfl,_,r1⟩:=zA9 r0;obtain ⟨v2,Eo,d2,jU,p2,q2,rfl,rfl,rfl,_,r2⟩:=zA9 r1;obtain ⟨v3,PS,d3,xY,p3,q3,rfl,rfl,rfl,_,r3⟩:=zA9 r2;obtain ⟨v4,lJ,d4,xX,p4,q4,rfl,rfl,rfl,_,r4⟩:=zA9 r3;obtain ⟨rfl,rfl,rfl⟩:=trodAll_nil r4;obtain ⟨rfl,rfl⟩:=zBs hV;refine X1 (Γ:=GG) (s:=Rows.fixpointRemovedSpec) (tb:=4) (dv:=fun y:AA×List Int×Int×Int×Int×Unit=>[.agg 5 (L1 (AD y.1)),.ints y.2.1,.int .i64 y.2.2.1,.int .i64 y.2.2.2.1,.int .i64 y.2.2.2.2.1]) X5 ?_ ?_ ?_ DT Js rfl rfl (by kernel_rfl) Tryz.underlying4 Am (Wd hL)
 ·rw [Tryz.params5];intro t ht;simp only [Array.toList,z8,zA6,zCf] at ht;rcases ht with rfl | rfl | rfl | rfl | rfl
  ·exact ⟨by kernel_rfl,zAT (by kernel_rfl)⟩
  ·exact ⟨by kernel_rfl,zAT (by kernel_rfl)⟩
  ·exact ⟨by kernel_rfl,zAT (by kernel_rfl)⟩
  ·exact ⟨by kernel_rfl,zAT (by kernel_rfl)⟩
  ·exact ⟨by kernel_rfl,zAT (by kernel_rfl)⟩
 ·rw [Tryz.params5];exact Dv.cons Wy (Dv.cons TS (Dv.cons Na (Dv.cons Na (Dv.cons Na Dv.nil))))
 ·intro w y hy;obtain ⟨n,hn⟩:=rW y.1 y.2.1 y.2.2.1 y.2.2.2.1 y.2.2.2.2.1 (CU.of (hy 0)) (Ko (hy 1));exact rX (hn n (zAF _))
theorem Q6 (os:Os):laidMet Tryz.prog Rows.fixpointRemovedRow.laid ((Jb os).forCall (fun _ _=>0) ⟨#[],#[HE,.slice none 0 0,.int .i64 0,.int .i64 0,.int .i64 0],[]⟩).memory:=
 laidMet_of_run' 70 (by kernel_rfl) (by kernel_rfl)
theorem QK (os:Os) {H:Type} (enc:TypeId×Value -> H): ∃ Il,DataW.whole enc Tryz.prog ((Jb os).forCall (fun _ _=>0) ⟨#[],#[HE,.slice none 0 0,.int .i64 0,.int .i64 0,.int .i64 0],[]⟩).memory Tryz.f5.params.toList Rows.fixpointRemovedSpec.vars false #[HE,Value.slice none 0 0,Value.int .i64 0,Value.int .i64 0,Value.int .i64 0].toList 16=some ([.agg [.lit (.int .i64 0),.lit (.int .i64 0),.nil,.nil,.nil],.nil,.lit (.int .i64 0),.lit (.int .i64 0),.lit (.int .i64 0)],[],Il):=
 ⟨[],by kernel_rfl⟩
set_option maxRecDepth 100000 in
theorem Q3 (os:Os) (Hk:os.Started) (H:Type) (enc:TypeId×Value -> H) (F:Stop.Interp):
 ReturnsInHanded {} Tryz.checked os 5 .any ((OpenSpec.ofChange Rows.fixpointRemovedSpec).preRow enc Tryz.prog Tryz.f5 Rows.fixpointRemovedRow.domain false Rows.fixpointRemovedRow.laid) (((OpenSpec.ofChange Rows.fixpointRemovedSpec).at F).post enc Tryz.prog Tryz.f5 false true false false):=by
 obtain ⟨Il,hx⟩:=QK os enc
 refine zCR (C:=Tryz.checked) (s:=OpenSpec.ofChange Rows.fixpointRemovedSpec) own Hk (by kernel_rfl) Tryz.func5
  (witness_row_at (enc:=enc) (C:=Tryz.checked) false (Jb os) #[HE,.slice none 0 0,.int .i64 0,.int .i64 0,.int .i64 0] rfl (by kernel_rfl) (by kernel_rfl) (by kernel_rfl)
   (zCI 16 hx (by kernel_rfl) (fun k hk=>by cases hk) (by kernel_rfl) (Q6 os))) ?_
 intro W CT args ds gs F6 DT hW _ _ Am hL _ _;refine SP H enc W CT args ds gs F6 DT hW ?_ hL;have h1:=hW;obtain ⟨p,q,_,hV,_⟩:=h1;obtain ⟨rfl,_⟩:=zBs hV;have e:(DataW.weightsEach Tryz.prog (Tryz.f5.params.toList++[]) (ds++[])).all (· <=reachBytes)=true:=Am;rw [zA5,zA5] at e;exact e
theorem said:Rows.FixpointRemovedSaid:=
 zCJ 5 Tryz.f5 rfl rfl rfl rfl rfl rfl rfl ⟨rfl,rfl,rfl,rfl,rfl⟩ rfl rfl rfl rfl rfl (by kernel_rfl) Tryz.func5 (by kernel_rfl)
  (zA7 (by kernel_rfl)) (by unfold Func.isWrapper;first | (rw [zi (by decide+kernel)];kernel_rfl) | (rw [zr (by decide+kernel)];exact ⟨rfl,rfl⟩))
  (fun os Hk H enc _ F=>by rw [zCK];exact Q3 os Hk H enc F)
theorem plain (f:FuncId) (fn:Func) (hf:Tryz.pinned.checked.prog.funcNamed "gridwright/gridwrightlaw27.FixpointRemoved" =some f) (Jr:Tryz.pinned.checked.prog.funcs[f]? =some fn):
 false=Tryz.pinned.checked.prog.looks []/\ ∀ (j:Nat) t,fn.params[j]? =some t -> Tryz.pinned.checked.prog.wantsStandIn t=false:=by
 obtain rfl:f=5:=zo ((show Tryz.prog.funcNamed "gridwright/gridwrightlaw27.FixpointRemoved" =some 5 by kernel_rfl).symm.trans hf) |>.symm
 obtain rfl:fn=Tryz.f5:=(zo (Tryz.func5.symm.trans Jr)).symm;refine ⟨by kernel_rfl,fun j t ht=>?_⟩;rw [Tryz.params5] at ht;have ht:=zBE ht;simp only [Array.mem_def,Array.toList,z8,zA6,zCf] at ht;rcases ht with rfl | rfl | rfl | rfl | rfl
 ·exact (show Tryz.prog.wantsStandIn 26=false by kernel_rfl)
 ·exact (show Tryz.prog.wantsStandIn 22=false by kernel_rfl)
 ·exact (show Tryz.prog.wantsStandIn 3=false by kernel_rfl)
 ·exact (show Tryz.prog.wantsStandIn 3=false by kernel_rfl)
 ·exact (show Tryz.prog.wantsStandIn 3=false by kernel_rfl)
end Go.Proofs.YtgkhhfnhacibcaaGreatDoor.fixpointRemoved
namespace Go.Proofs.YtgkhhfnhacibcaaGreatDoor
open Go.ChangeShapes Go.WideShapes Go.ChangeAt Go.RowKit
theorem fixpointRemoved_card:Rows.FixpointRemovedCardSaid:=
 zBz .later [] _ _ _ _ fixpointRemoved.said (fun _ h=>by cases h) (by kernel_rfl) (fun _ h=>by cases h) fixpointRemoved_row_tie rfl ⟨rfl,rfl⟩ (by kernel_rfl) rfl fixpointRemoved.plain (by kernel_rfl)
end Go.Proofs.YtgkhhfnhacibcaaGreatDoor
