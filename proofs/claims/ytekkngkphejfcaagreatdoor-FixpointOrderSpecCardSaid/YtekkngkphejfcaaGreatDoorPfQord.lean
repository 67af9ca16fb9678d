/- The law of the order of the fixpoint -/
import Derived.Test.YtekkngkphejfcaaGreatDoorPfG
set_option linter.all false
namespace Go.Proofs.YtekkngkphejfcaaGreatDoor.fixpointOrderSpec
open Go.ChangeShapes Go.WideShapes Go.ChangeAt Go.RowKit
set_option maxRecDepth 100000 in
theorem de (H:Type) (enc:TypeId×Value -> H) (W:World) (DC:Nat) (args:Array Value) (ds gs:List (DataW H)) (JC:List MemPlace)
 (FP: ∀ (j:Nat) t v,Tryz.f5.params[j]? =some t -> args[j]? =some v -> Value.okWide Tryz.prog W .any DC t v)
 (hW:DataW.Whole enc Tryz.prog Tryz.f5.params.toList Rows.fixpointOrderSpecSpec.vars false W args.toList ds gs JC)
 (A9:(DataW.weightsEach Tryz.prog Tryz.f5.params.toList ds).all (· <=reachBytes)=true) (hL:laidMetH Tryz.prog Rows.fixpointOrderSpecRow.laid W):
 Calls Tryz.prog 5 args W fun e W'=>∃ v,e= .returned v/\ Rows.fixpointOrderSpecSpec.post enc Tryz.prog Tryz.f5 false true false false W args v W':=by
 have OH:=hW;obtain ⟨p,q,dH,hV,rfl,It,Av⟩:=hW;have hA:DataW.TrodAll enc Tryz.prog W 0 (fun _=>true) true Tryz.f5.params.toList args.toList ds p:=dH;rw [Tryz.params5] at hA;obtain ⟨v0,Me,d0,Dk,p0,q0,CU,rfl,rfl,_,r0⟩:=zF0 hA;obtain ⟨v1,C1,d1,Dx,p1,q1,rfl,rfl,rfl,_,r1⟩:=zF0 r0;obtain ⟨v2,FW,d2,ds2,p2,q2,rfl,rfl,rfl,_,r2⟩:=zF0 r1;obtain ⟨rfl,rfl,rfl⟩:=trodAll_nil r2;obtain ⟨rfl,rfl⟩:=trodVars_none hV;refine lx (Γ:=GG) (s:=Rows.fixpointOrderSpecSpec) (tb:=4) (dv:=fun y:AA×List Int×Int×Unit=>[.agg 5 (L1 (AD y.1)),.ints y.2.1,.int .i64 y.2.2.1]) mB ?_ ?_ ?_ FP OH rfl rfl (by kernel_rfl) Tryz.underlying4 A9 (f8 hL)
 ·rw [Tryz.params5];intro t ht;simp only [Array.toList,zCB,zFe,or_false] at ht;rcases ht with rfl | rfl | rfl
  ·exact ⟨by kernel_rfl,zE8 (by kernel_rfl)⟩
  ·exact ⟨by kernel_rfl,zE8 (by kernel_rfl)⟩
  ·exact ⟨by kernel_rfl,zE8 (by kernel_rfl)⟩
 ·rw [Tryz.params5];exact GY.cons iM (GY.cons ZQ (GY.cons iN GY.nil))
 ·intro w y hy;obtain ⟨n,hn⟩:=yH y.1 y.2.1 y.2.2.1 (CP.of (hy 0)) (Ni (hy 1));exact yI (hn n (zBa _))
theorem a6 (os:Os):laidMet Tryz.prog Rows.fixpointOrderSpecRow.laid ((Pa os).forCall (fun _ _=>0) ⟨#[],#[Li,.slice none 0 0,.int .i64 0],[]⟩).memory:=
 laidMet_of_run' 70 (by kernel_rfl) (by kernel_rfl)
theorem ZZ (os:Os) {H:Type} (enc:TypeId×Value -> H): ∃ NG,DataW.whole enc Tryz.prog ((Pa os).forCall (fun _ _=>0) ⟨#[],#[Li,.slice none 0 0,.int .i64 0],[]⟩).memory Tryz.f5.params.toList Rows.fixpointOrderSpecSpec.vars false #[Li,Value.slice none 0 0,Value.int .i64 0].toList 16=some ([.agg [.lit (.int .i64 0),.lit (.int .i64 0),.nil,.nil,.nil],.nil,.lit (.int .i64 0)],[],NG):=
 ⟨[],by kernel_rfl⟩
set_option maxRecDepth 100000 in
theorem aq (os:Os) (Mj:os.Started) (H:Type) (enc:TypeId×Value -> H) (F:Stop.Interp):
 ReturnsInHanded {} Tryz.checked os 5 .any ((OpenSpec.ofChange Rows.fixpointOrderSpecSpec).preRow enc Tryz.prog Tryz.f5 Rows.fixpointOrderSpecRow.domain false Rows.fixpointOrderSpecRow.laid) (((OpenSpec.ofChange Rows.fixpointOrderSpecSpec).at F).post enc Tryz.prog Tryz.f5 false true false false):=by
 obtain ⟨NG,hx⟩:=ZZ os enc
 refine returnsInHanded_of_row (C:=Tryz.checked) (s:=OpenSpec.ofChange Rows.fixpointOrderSpecSpec) own Mj (by kernel_rfl) Tryz.func5
  (witness_row_at (enc:=enc) (C:=Tryz.checked) false (Pa os) #[Li,.slice none 0 0,.int .i64 0] rfl (by kernel_rfl) (by kernel_rfl) (by kernel_rfl)
   (OpenSpec.preRow_of_cond 16 hx (by kernel_rfl) (fun k hk=>by cases hk) (by kernel_rfl) (a6 os))) ?_
 intro W DC args ds gs JC FP hW _ _ A9 hL _ _;refine de H enc W DC args ds gs JC FP hW ?_ hL;have h1:=hW;obtain ⟨p,q,_,hV,_⟩:=h1;obtain ⟨rfl,_⟩:=trodVars_none hV;have e:(DataW.weightsEach Tryz.prog (Tryz.f5.params.toList++[]) (ds++[])).all (· <=reachBytes)=true:=A9;rw [zFV,zFV] at e;exact e
theorem said:Rows.FixpointOrderSpecSaid:=
 OpenClaim.holds_of_cond 5 Tryz.f5 rfl rfl rfl rfl rfl rfl rfl ⟨rfl,rfl,rfl,rfl,rfl⟩ rfl rfl rfl rfl rfl (by kernel_rfl) Tryz.func5 (by kernel_rfl)
  (zFY (by kernel_rfl)) (by unfold Func.isWrapper;first | (rw [zAE (by decide+kernel)];kernel_rfl) | (rw [zBP (by decide+kernel)];exact ⟨rfl,rfl⟩))
  (fun os Mj H enc _ F=>by rw [OpenClaim.pre_eq_preRow];exact aq os Mj H enc F)
theorem plain (f:FuncId) (fn:Func) (hf:Tryz.pinned.checked.prog.funcNamed "gridwright/gridwrightlaw27.FixpointOrderSpec" =some f) (OB:Tryz.pinned.checked.prog.funcs[f]? =some fn):
 false=Tryz.pinned.checked.prog.looks []/\ ∀ (j:Nat) t,fn.params[j]? =some t -> Tryz.pinned.checked.prog.wantsStandIn t=false:=by
 obtain rfl:f=5:=zBK ((show Tryz.prog.funcNamed "gridwright/gridwrightlaw27.FixpointOrderSpec" =some 5 by kernel_rfl).symm.trans hf) |>.symm
 obtain rfl:fn=Tryz.f5:=(zBK (Tryz.func5.symm.trans OB)).symm;refine ⟨by kernel_rfl,fun j t ht=>?_⟩;rw [Tryz.params5] at ht;have ht:=zFl ht;simp only [Array.mem_def,Array.toList,zCB,zFe,or_false] at ht;rcases ht with rfl | rfl | rfl
 ·exact (show Tryz.prog.wantsStandIn 26=false by kernel_rfl)
 ·exact (show Tryz.prog.wantsStandIn 22=false by kernel_rfl)
 ·exact (show Tryz.prog.wantsStandIn 3=false by kernel_rfl)
end Go.Proofs.YtekkngkphejfcaaGreatDoor.fixpointOrderSpec
namespace Go.Proofs.YtekkngkphejfcaaGreatDoor
open Go.ChangeShapes Go.WideShapes Go.ChangeAt Go.RowKit
theorem fixpointOrderSpec_card:Rows.FixpointOrderSpecCardSaid:=
 Claim7.holds_tied_plain_at .later [] _ _ _ _ fixpointOrderSpec.said (fun _ h=>by cases h) (by kernel_rfl) (fun _ h=>by cases h) fixpointOrderSpec_row_tie rfl ⟨rfl,rfl⟩ (by kernel_rfl) rfl fixpointOrderSpec.plain (by kernel_rfl)
end Go.Proofs.YtekkngkphejfcaaGreatDoor
