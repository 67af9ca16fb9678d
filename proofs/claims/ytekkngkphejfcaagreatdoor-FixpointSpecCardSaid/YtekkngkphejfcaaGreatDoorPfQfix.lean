/- The law of fixpoints and their reference -/
import Derived.Test.YtekkngkphejfcaaGreatDoorPfG
set_option linter.all false
namespace Go.Proofs.YtekkngkphejfcaaGreatDoor.fixpointSpec
open Go.ChangeShapes Go.WideShapes Go.ChangeAt Go.RowKit
set_option maxRecDepth 100000 in
theorem de (H:Type) (enc:TypeId×Value -> H) (W:World) (DC:Nat) (args:Array Value) (ds gs:List (DataW H)) (JC:List MemPlace)
 (FP: ∀ (j:Nat) t v,Tryz.f4.params[j]? =some t -> args[j]? =some v -> Value.okWide Tryz.prog W .any DC t v)
 (hW:DataW.Whole enc Tryz.prog Tryz.f4.params.toList Rows.fixpointSpecSpec.vars false W args.toList ds gs JC)
 (A9:(DataW.weightsEach Tryz.prog Tryz.f4.params.toList ds).all (· <=reachBytes)=true) (hL:laidMetH Tryz.prog Rows.fixpointSpecRow.laid W):
 Calls Tryz.prog 4 args W fun e W'=>∃ v,e= .returned v/\ Rows.fixpointSpecSpec.post enc Tryz.prog Tryz.f4 false true false false W args v W':=by
 have OH:=hW;obtain ⟨p,q,dH,hV,rfl,It,Av⟩:=hW;have hA:DataW.TrodAll enc Tryz.prog W 0 (fun _=>true) true Tryz.f4.params.toList args.toList ds p:=dH;rw [Tryz.params4] at hA;obtain ⟨v0,Me,d0,Dk,p0,q0,CU,rfl,rfl,_,r0⟩:=zF0 hA;obtain ⟨v1,C1,d1,Dx,p1,q1,rfl,rfl,rfl,_,r1⟩:=zF0 r0;obtain ⟨v2,FW,d2,ds2,p2,q2,rfl,rfl,rfl,_,r2⟩:=zF0 r1;obtain ⟨v3,Uq,d3,ds3,p3,q3,rfl,rfl,rfl,_,r3⟩:=zF0 r2;obtain ⟨rfl,rfl,rfl⟩:=trodAll_nil r3;obtain ⟨rfl,rfl⟩:=trodVars_none hV;refine lx (Γ:=GG) (s:=Rows.fixpointSpecSpec) (tb:=4) (dv:=fun y:AA×List Int×List Int×Int×Unit=>[.agg 5 (L1 (AD y.1)),.ints y.2.1,.ints y.2.2.1,.int .i64 y.2.2.2.1]) mB ?_ ?_ ?_ FP OH rfl rfl (by kernel_rfl) Tryz.underlying4 A9 (f8 hL)
 ·rw [Tryz.params4];intro t ht;simp only [Array.toList,zCB,zFe,or_false] at ht;rcases ht with rfl | rfl | rfl | rfl
  ·exact ⟨by kernel_rfl,zE8 (by kernel_rfl)⟩
  ·exact ⟨by kernel_rfl,zE8 (by kernel_rfl)⟩
  ·exact ⟨by kernel_rfl,zE8 (by kernel_rfl)⟩
  ·exact ⟨by kernel_rfl,zE8 (by kernel_rfl)⟩
 ·rw [Tryz.params4];exact GY.cons iM (GY.cons ZQ (GY.cons ZQ (GY.cons iN GY.nil)))
 ·intro w y hy;obtain ⟨n,hn⟩:=yJ y.1 y.2.1 y.2.2.1 y.2.2.2.1 (CP.of (hy 0)) (Ni (hy 1)) (Ni (hy 2));exact yK (hn n (zBa _))
theorem a6 (os:Os):laidMet Tryz.prog Rows.fixpointSpecRow.laid ((Pa os).forCall (fun _ _=>0) ⟨#[],#[Li,.slice none 0 0,.slice none 0 0,.int .i64 0],[]⟩).memory:=
 laidMet_of_run' 70 (by kernel_rfl) (by kernel_rfl)
theorem ZZ (os:Os) {H:Type} (enc:TypeId×Value -> H): ∃ NG,DataW.whole enc Tryz.prog ((Pa os).forCall (fun _ _=>0) ⟨#[],#[Li,.slice none 0 0,.slice none 0 0,.int .i64 0],[]⟩).memory Tryz.f4.params.toList Rows.fixpointSpecSpec.vars false #[Li,Value.slice none 0 0,Value.slice none 0 0,Value.int .i64 0].toList 16=some ([.agg [.lit (.int .i64 0),.lit (.int .i64 0),.nil,.nil,.nil],.nil,.nil,.lit (.int .i64 0)],[],NG):=
 ⟨[],by kernel_rfl⟩
set_option maxRecDepth 100000 in
theorem aq (os:Os) (Mj:os.Started) (H:Type) (enc:TypeId×Value -> H) (F:Stop.Interp):
 ReturnsInHanded {} Tryz.checked os 4 .any ((OpenSpec.ofChange Rows.fixpointSpecSpec).preRow enc Tryz.prog Tryz.f4 Rows.fixpointSpecRow.domain false Rows.fixpointSpecRow.laid) (((OpenSpec.ofChange Rows.fixpointSpecSpec).at F).post enc Tryz.prog Tryz.f4 false true false false):=by
 obtain ⟨NG,hx⟩:=ZZ os enc
 refine returnsInHanded_of_row (C:=Tryz.checked) (s:=OpenSpec.ofChange Rows.fixpointSpecSpec) own Mj (by kernel_rfl) Tryz.func4
  (witness_row_at (enc:=enc) (C:=Tryz.checked) false (Pa os) #[Li,.slice none 0 0,.slice none 0 0,.int .i64 0] rfl (by kernel_rfl) (by kernel_rfl) (by kernel_rfl)
   (OpenSpec.preRow_of_cond 16 hx (by kernel_rfl) (fun k hk=>by cases hk) (by kernel_rfl) (a6 os))) ?_
 intro W DC args ds gs JC FP hW _ _ A9 hL _ _;refine de H enc W DC args ds gs JC FP hW ?_ hL;have h1:=hW;obtain ⟨p,q,_,hV,_⟩:=h1;obtain ⟨rfl,_⟩:=trodVars_none hV;have e:(DataW.weightsEach Tryz.prog (Tryz.f4.params.toList++[]) (ds++[])).all (· <=reachBytes)=true:=A9;rw [zFV,zFV] at e;exact e
theorem said:Rows.FixpointSpecSaid:=
 OpenClaim.holds_of_cond 4 Tryz.f4 rfl rfl rfl rfl rfl rfl rfl ⟨rfl,rfl,rfl,rfl,rfl⟩ rfl rfl rfl rfl rfl (by kernel_rfl) Tryz.func4 (by kernel_rfl)
  (zFY (by kernel_rfl)) (by unfold Func.isWrapper;first | (rw [zAE (by decide+kernel)];kernel_rfl) | (rw [zBP (by decide+kernel)];exact ⟨rfl,rfl⟩))
  (fun os Mj H enc _ F=>by rw [OpenClaim.pre_eq_preRow];exact aq os Mj H enc F)
theorem plain (f:FuncId) (fn:Func) (hf:Tryz.pinned.checked.prog.funcNamed "gridwright/gridwrightlaw27.FixpointSpec" =some f) (OB:Tryz.pinned.checked.prog.funcs[f]? =some fn):
 false=Tryz.pinned.checked.prog.looks []/\ ∀ (j:Nat) t,fn.params[j]? =some t -> Tryz.pinned.checked.prog.wantsStandIn t=false:=by
 obtain rfl:f=4:=zBK ((show Tryz.prog.funcNamed "gridwright/gridwrightlaw27.FixpointSpec" =some 4 by kernel_rfl).symm.trans hf) |>.symm
 obtain rfl:fn=Tryz.f4:=(zBK (Tryz.func4.symm.trans OB)).symm;refine ⟨by kernel_rfl,fun j t ht=>?_⟩;rw [Tryz.params4] at ht;have ht:=zFl ht;simp only [Array.mem_def,Array.toList,zCB,zFe,or_false] at ht;rcases ht with rfl | rfl | rfl | rfl
 ·exact (show Tryz.prog.wantsStandIn 26=false by kernel_rfl)
 ·exact (show Tryz.prog.wantsStandIn 22=false by kernel_rfl)
 ·exact (show Tryz.prog.wantsStandIn 22=false by kernel_rfl)
 ·exact (show Tryz.prog.wantsStandIn 3=false by kernel_rfl)
end Go.Proofs.YtekkngkphejfcaaGreatDoor.fixpointSpec
namespace Go.Proofs.YtekkngkphejfcaaGreatDoor
open Go.ChangeShapes Go.WideShapes Go.ChangeAt Go.RowKit
theorem fixpointSpec_card:Rows.FixpointSpecCardSaid:=
 Claim7.holds_tied_plain_at .later [] _ _ _ _ fixpointSpec.said (fun _ h=>by cases h) (by kernel_rfl) (fun _ h=>by cases h) fixpointSpec_row_tie rfl ⟨rfl,rfl⟩ (by kernel_rfl) rfl fixpointSpec.plain (by kernel_rfl)
end Go.Proofs.YtekkngkphejfcaaGreatDoor
