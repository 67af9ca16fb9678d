/- Any order of pruning -/
import Derived.Test.YtekkngkphejfcaaGreatDoorPaF
set_option linter.all false
namespace Go.Proofs.YtekkngkphejfcaaGreatDoor.fixpointAnyOrder
open Go.ChangeShapes Go.WideShapes Go.ChangeAt Go.RowKit
set_option maxRecDepth 100000 in
theorem wT (H:Type) (enc:TypeId×Value -> H) (W:World) (DI:Nat) (args:Array Value) (ds gs:List (DataW H)) (MF:List MemPlace)
 (F4: ∀ (j:Nat) t v,Tryz.f6.params[j]? =some t -> args[j]? =some v -> Value.okWide Tryz.prog W .any DI t v)
 (hW:DataW.Whole enc Tryz.prog Tryz.f6.params.toList Rows.fixpointAnyOrderSpec.vars false W args.toList ds gs MF)
 (A2:(DataW.weightsEach Tryz.prog Tryz.f6.params.toList ds).all (· <=reachBytes)=true) (hL:laidMetH Tryz.prog Rows.fixpointAnyOrderRow.laid W):
 Calls Tryz.prog 6 args W fun e W'=>∃ v,e= .returned v/\ Rows.fixpointAnyOrderSpec.post enc Tryz.prog Tryz.f6 false true false false W args v W':=by
 have Qi:=hW;obtain ⟨p,q,ut,hV,rfl,Ie,Aw⟩:=hW;have hA:DataW.TrodAll enc Tryz.prog W 0 (fun _=>true) true Tryz.f6.params.toList args.toList ds p:=ut;rw [Tryz.params6] at hA;obtain ⟨v0,MV,d0,DT,p0,q0,CK,rfl,rfl,_,r0⟩:=trodAll_cons hA;obtain ⟨v1,Cs,d1,Df,p1,q1,rfl,rfl,rfl,_,r1⟩:=trodAll_cons r0;obtain ⟨v2,FD,d2,ds2,p2,q2,rfl,rfl,rfl,_,r2⟩:=trodAll_cons r1;obtain ⟨v3,Rk,d3,ds3,p3,q3,rfl,rfl,rfl,_,r3⟩:=trodAll_cons r2;obtain ⟨rfl,rfl,rfl⟩:=trodAll_nil r3;obtain ⟨rfl,rfl⟩:=trodVars_none hV;refine pn (Γ:=GG) (s:=Rows.fixpointAnyOrderSpec) (tb:=4) (dv:=fun y:AA×List Int×Int×ZS×Unit=>[.agg 5 (L1 (AD y.1)),.ints y.2.1,.int .i64 y.2.2.1,.sl 1 y.2.2.2.1.1.length (Ak (fun x:Int=>[.int .u8 x]) y.2.2.2.1.1)]) pz ?_ ?_ ?_ F4 Qi rfl rfl (by kernel_rfl) Tryz.underlying4 A2 (j0 hL)
 ·rw [Tryz.params6];intro t ht;simp only [Array.toList,yd,z7,or_false] at ht;rcases ht with rfl | rfl | rfl | rfl
  ·exact ⟨by kernel_rfl,zW (by kernel_rfl)⟩
  ·exact ⟨by kernel_rfl,zW (by kernel_rfl)⟩
  ·exact ⟨by kernel_rfl,zW (by kernel_rfl)⟩
  ·exact ⟨by kernel_rfl,zW (by kernel_rfl)⟩
 ·rw [Tryz.params6];exact IA.cons mD (IA.cons mE (IA.cons mF (IA.cons mC IA.nil)))
 ·intro w y hy;obtain ⟨n,hn⟩:=po y.1 y.2.1 y.2.2.1 y.2.2.2.1.1 (Cq.of (hy 0)) (P6 (hy 1)) y.2.2.2.1.2;exact pp (hn n (yf _))
theorem py (os:Os):laidMet Tryz.prog Rows.fixpointAnyOrderRow.laid ((Wv os).forCall (fun _ _=>0) ⟨#[],#[Sn,.slice none 0 0,.int .i64 0,.slice none 0 0],[]⟩).memory:=
 laidMet_of_run' 70 (by kernel_rfl) (by kernel_rfl)
theorem nD (os:Os) {H:Type} (enc:TypeId×Value -> H): ∃ Ss,DataW.whole enc Tryz.prog ((Wv os).forCall (fun _ _=>0) ⟨#[],#[Sn,.slice none 0 0,.int .i64 0,.slice none 0 0],[]⟩).memory Tryz.f6.params.toList Rows.fixpointAnyOrderSpec.vars false #[Sn,Value.slice none 0 0,Value.int .i64 0,Value.slice none 0 0].toList 16=some ([.agg [.lit (.int .i64 0),.lit (.int .i64 0),.nil,.nil,.nil],.nil,.lit (.int .i64 0),.nil],[],Ss):=
 ⟨[],by kernel_rfl⟩
set_option maxRecDepth 100000 in
theorem pj (os:Os) (Vn:os.Started) (H:Type) (enc:TypeId×Value -> H) (F:Stop.Interp):
 ReturnsInHanded {} Tryz.checked os 6 .any ((OpenSpec.ofChange Rows.fixpointAnyOrderSpec).preRow enc Tryz.prog Tryz.f6 Rows.fixpointAnyOrderRow.domain false Rows.fixpointAnyOrderRow.laid) (((OpenSpec.ofChange Rows.fixpointAnyOrderSpec).at F).post enc Tryz.prog Tryz.f6 false true false false):=by
 obtain ⟨Ss,hx⟩:=nD os enc
 refine returnsInHanded_of_row (C:=Tryz.checked) (s:=OpenSpec.ofChange Rows.fixpointAnyOrderSpec) own Vn (by kernel_rfl) Tryz.func6
  (witness_row_at (enc:=enc) (C:=Tryz.checked) false (Wv os) #[Sn,.slice none 0 0,.int .i64 0,.slice none 0 0] rfl (by kernel_rfl) (by kernel_rfl) (by kernel_rfl)
   (OpenSpec.preRow_of_cond 16 hx (by kernel_rfl) (fun k hk=>by cases hk) (by kernel_rfl) (py os))) ?_
 intro W DI args ds gs MF F4 hW _ _ A2 hL _ _;refine wT H enc W DI args ds gs MF F4 hW ?_ hL;have h1:=hW;obtain ⟨p,q,_,hV,_⟩:=h1;obtain ⟨rfl,_⟩:=trodVars_none hV;have e:(DataW.weightsEach Tryz.prog (Tryz.f6.params.toList++[]) (ds++[])).all (· <=reachBytes)=true:=A2;rw [zAS,zAS] at e;exact e
theorem said:Rows.FixpointAnyOrderSaid:=
 OpenClaim.holds_of_cond 6 Tryz.f6 rfl rfl rfl rfl rfl rfl rfl ⟨rfl,rfl,rfl,rfl,rfl⟩ rfl rfl rfl rfl rfl (by kernel_rfl) Tryz.func6 (by kernel_rfl)
  (zp (by kernel_rfl)) (by unfold Func.isWrapper;first | (rw [yC (by decide+kernel)];kernel_rfl) | (rw [yM (by decide+kernel)];exact ⟨rfl,rfl⟩))
  (fun os Vn H enc _ F=>by rw [OpenClaim.pre_eq_preRow];exact pj os Vn H enc F)
theorem plain (f:FuncId) (fn:Func) (hf:Tryz.pinned.checked.prog.funcNamed "gridwright/gridwrightlaw27.FixpointAnyOrder" =some f) (Qb:Tryz.pinned.checked.prog.funcs[f]? =some fn):
 false=Tryz.pinned.checked.prog.looks []/\ ∀ (j:Nat) t,fn.params[j]? =some t -> Tryz.pinned.checked.prog.wantsStandIn t=false:=by
 obtain rfl:f=6:=yK ((show Tryz.prog.funcNamed "gridwright/gridwrightlaw27.FixpointAnyOrder" =some 6 by kernel_rfl).symm.trans hf) |>.symm
 obtain rfl:fn=Tryz.f6:=(yK (Tryz.func6.symm.trans Qb)).symm;refine ⟨by kernel_rfl,fun j t ht=>?_⟩;rw [Tryz.params6] at ht;have ht:=zAB ht;simp only [Array.mem_def,Array.toList,yd,z7,or_false] at ht;rcases ht with rfl | rfl | rfl | rfl
 ·exact (show Tryz.prog.wantsStandIn 26=false by kernel_rfl)
 ·exact (show Tryz.prog.wantsStandIn 22=false by kernel_rfl)
 ·exact (show Tryz.prog.wantsStandIn 3=false by kernel_rfl)
 ·exact (show Tryz.prog.wantsStandIn 44=false by kernel_rfl)
end Go.Proofs.YtekkngkphejfcaaGreatDoor.fixpointAnyOrder
namespace Go.Proofs.YtekkngkphejfcaaGreatDoor
open Go.ChangeShapes Go.WideShapes Go.ChangeAt Go.RowKit
theorem fixpointAnyOrder_card:Rows.FixpointAnyOrderCardSaid:=
 Claim7.holds_tied_plain_at .later [] _ _ _ _ fixpointAnyOrder.said (fun _ h=>by cases h) (by kernel_rfl) (fun _ h=>by cases h) fixpointAnyOrder_row_tie rfl ⟨rfl,rfl⟩ (by kernel_rfl) rfl fixpointAnyOrder.plain (by kernel_rfl)
end Go.Proofs.YtekkngkphejfcaaGreatDoor
