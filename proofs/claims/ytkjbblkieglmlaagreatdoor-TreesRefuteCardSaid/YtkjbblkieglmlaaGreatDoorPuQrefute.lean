/- A tree that is accepted refutes all solutions but its grid: the law answers true. -/
import Derived.Test.YtkjbblkieglmlaaGreatDoorPuG
set_option linter.all false
namespace Go.Proofs.YtkjbblkieglmlaaGreatDoor.treesRefute
open Go.ChangeShapes Go.WideShapes Go.ChangeAt Go.RowKit
set_option maxRecDepth 100000 in
theorem dy (H:Type)(enc:TypeId×Value -> H)(W:World)(DQ:Nat)(args:Array Value)(ds gs:List (DataW H))(JL:List MemPlace) 
 (Fg: ∀ (j:Nat) t v,Tryz.f5.params[j]? =some t -> args[j]? =some v -> Value.okWide Tryz.prog W .any DQ t v)
 (hW:DataW.Whole enc Tryz.prog Tryz.f5.params.toList Rows.treesRefuteSpec.vars false W args.toList ds gs JL)
 (Ay:(DataW.weightsEach Tryz.prog Tryz.f5.params.toList ds).all (· <=reachBytes)=true) (hL:laidMetH Tryz.prog Rows.treesRefuteRow.laid W):
 Calls Tryz.prog 5 args W fun e W'=>∃ v,e= .returned v/\ Rows.treesRefuteSpec.post enc Tryz.prog Tryz.f5 false true false false W args v W':=by
 have O1:=hW;obtain ⟨p,q,dJ,hV,rfl,GV,Ar⟩:=hW;have hA:DataW.TrodAll enc Tryz.prog W 0 (fun _=>true) true Tryz.f5.params.toList args.toList ds p:=dJ;rw [Tryz.params5] at hA;obtain ⟨v0,NU,d0,D9,p0,q0,Cn,rfl,rfl,_,r0⟩:=zGX hA;obtain ⟨v1,CQ,d1,YO,p1,q1,rfl,rfl,rfl,_,r1⟩:=zGX r0;obtain ⟨v2,D4,d2,ds2,p2,q2,rfl,rfl,rfl,_,r2⟩:=zGX r1;obtain ⟨v3,Ls,d3,ds3,p3,q3,rfl,rfl,rfl,_,r3⟩:=zGX r2;obtain ⟨v4,vs4,d4,ds4,p4,q4,rfl,rfl,rfl,_,r4⟩:=zGX r3;obtain ⟨rfl,rfl,rfl⟩:=trodAll_nil r4;obtain ⟨rfl,rfl⟩:=trodVars_none hV;refine lv (Γ:=GG) (s:=Rows.treesRefuteSpec) (tb:=4) (dv:=fun y:AA×List Int×List (Int×Int)×List Int×List Int×Unit=>[.agg 5 (L1 (AN y.1)),.ints y.2.1,.sl 2 y.2.2.1.length (AP BM y.2.2.1),.ints y.2.2.2.1,.ints y.2.2.2.2.1]) lz ?_ ?_ ?_ Fg O1 rfl rfl (by kernel_rfl) Tryz.underlying4 Ay (gh hL)
 ·rw [Tryz.params5];intro t ht;simp only [Array.toList,zCD,zDu,or_false] at ht;rcases ht with rfl | rfl | rfl | rfl | rfl
  ·exact ⟨by kernel_rfl,zCT (by kernel_rfl)⟩
  ·exact ⟨by kernel_rfl,zCT (by kernel_rfl)⟩
  ·exact ⟨by kernel_rfl,zCT (by kernel_rfl)⟩
  ·exact ⟨by kernel_rfl,zCT (by kernel_rfl)⟩
  ·exact ⟨by kernel_rfl,zCT (by kernel_rfl)⟩
 ·rw [Tryz.params5];exact GE.cons jR (GE.cons SV (GE.cons jS (GE.cons SV (GE.cons SV GE.nil))))
 ·intro w y hy;obtain ⟨n,hn⟩:=zI y.1 y.2.1 y.2.2.1 y.2.2.2.1 y.2.2.2.2.1 (EN.of (hy 0)) (K8 (hy 1)) (K8 (hy 3)) (K8 (hy 4));exact zJ (hn n (zA5 _))
theorem bR (os:Os):laidMet Tryz.prog Rows.treesRefuteRow.laid ((QN os).forCall (fun _ _=>0) ⟨#[],#[MJ,.slice none 0 0,.slice none 0 0,.slice none 0 0,.slice none 0 0],[]⟩).memory:=
 laidMet_of_run' 70 (by kernel_rfl) (by kernel_rfl)
theorem aC (os:Os){H:Type}(enc:TypeId×Value -> H): ∃ N5,DataW.whole enc Tryz.prog ((QN os).forCall (fun _ _=>0) ⟨#[],#[MJ,.slice none 0 0,.slice none 0 0,.slice none 0 0,.slice none 0 0],[]⟩).memory Tryz.f5.params.toList Rows.treesRefuteSpec.vars false #[MJ,Value.slice none 0 0,Value.slice none 0 0,Value.slice none 0 0,Value.slice none 0 0].toList 16=some ([.agg [.lit (.int .i64 0),.lit (.int .i64 0),.nil,.nil,.nil],.nil,.nil,.nil,.nil],[],N5):=
 ⟨[],by kernel_rfl⟩
set_option maxRecDepth 100000 in
theorem bO (os:Os)(Nc:os.Started)(H:Type)(enc:TypeId×Value -> H)(F:Stop.Interp):
 ReturnsInHanded {} Tryz.checked os 5 .any ((OpenSpec.ofChange Rows.treesRefuteSpec).preRow enc Tryz.prog Tryz.f5 Rows.treesRefuteRow.domain false Rows.treesRefuteRow.laid) (((OpenSpec.ofChange Rows.treesRefuteSpec).at F).post enc Tryz.prog Tryz.f5 false true false false):=by
 obtain ⟨N5,hx⟩:=aC os enc
 refine returnsInHanded_of_row (C:=Tryz.checked) (s:=OpenSpec.ofChange Rows.treesRefuteSpec) own Nc (by kernel_rfl) Tryz.func5
  (witness_row_at (enc:=enc) (C:=Tryz.checked) false (QN os) #[MJ,.slice none 0 0,.slice none 0 0,.slice none 0 0,.slice none 0 0] rfl (by kernel_rfl) (by kernel_rfl) (by kernel_rfl)
   (OpenSpec.preRow_of_cond 16 hx (by kernel_rfl) (fun k hk=>by cases hk) (by kernel_rfl) (bR os))) ?_
 intro W DQ args ds gs JL Fg hW _ _ Ay hL _ _;refine dy H enc W DQ args ds gs JL Fg hW ?_ hL;have h1:=hW;obtain ⟨p,q,_,hV,_⟩:=h1;obtain ⟨rfl,_⟩:=trodVars_none hV;have e:(DataW.weightsEach Tryz.prog (Tryz.f5.params.toList++[]) (ds++[])).all (· <=reachBytes)=true:=Ay;rw [zGb,zGb] at e;exact e
theorem said:Rows.TreesRefuteSaid:=
 OpenClaim.holds_of_cond 5 Tryz.f5 rfl rfl rfl rfl rfl rfl rfl ⟨rfl,rfl,rfl,rfl,rfl⟩ rfl rfl rfl rfl rfl (by kernel_rfl) Tryz.func5 (by kernel_rfl)
  (zFY (by kernel_rfl)) (by unfold Func.isWrapper;first | (rw [zAM (by decide+kernel)];kernel_rfl) | (rw [zAh (by decide+kernel)];exact ⟨rfl,rfl⟩))
  (fun os Nc H enc _ F=>by rw [OpenClaim.pre_eq_preRow];exact bO os Nc H enc F)
theorem plain (f:FuncId)(fn:Func)(hf:Tryz.pinned.checked.prog.funcNamed "gridwright/gridwrightlaw28.TreesRefute" =some f)(Ou:Tryz.pinned.checked.prog.funcs[f]? =some fn):
 true=Tryz.pinned.checked.prog.looks []/\ ∀ (j:Nat) t,fn.params[j]? =some t -> Tryz.pinned.checked.prog.wantsStandIn t=false:=by
 obtain rfl:f=5:=zAe ((show Tryz.prog.funcNamed "gridwright/gridwrightlaw28.TreesRefute" =some 5 by kernel_rfl).symm.trans hf) |>.symm
 obtain rfl:fn=Tryz.f5:=(zAe (Tryz.func5.symm.trans Ou)).symm;refine ⟨by kernel_rfl,fun j t ht=>?_⟩;rw [Tryz.params5] at ht;have ht:=zGP ht;simp only [Array.mem_def,Array.toList,zCD,zDu,or_false] at ht;rcases ht with rfl | rfl | rfl | rfl | rfl
 ·exact (show Tryz.prog.wantsStandIn 26=false by kernel_rfl)
 ·exact (show Tryz.prog.wantsStandIn 22=false by kernel_rfl)
 ·exact (show Tryz.prog.wantsStandIn 27=false by kernel_rfl)
 ·exact (show Tryz.prog.wantsStandIn 22=false by kernel_rfl)
 ·exact (show Tryz.prog.wantsStandIn 22=false by kernel_rfl)
end Go.Proofs.YtkjbblkieglmlaaGreatDoor.treesRefute
namespace Go.Proofs.YtkjbblkieglmlaaGreatDoor
open Go.ChangeShapes Go.WideShapes Go.ChangeAt Go.RowKit
theorem treesRefute_card:Rows.TreesRefuteCardSaid:=
 Claim7.holds_tied_plain_at .later [] _ _ _ _ treesRefute.said (fun _ h=>by cases h) (by kernel_rfl) (fun _ h=>by cases h) treesRefute_row_tie rfl ⟨rfl,rfl⟩ (by kernel_rfl) rfl treesRefute.plain (by kernel_rfl)
end Go.Proofs.YtkjbblkieglmlaaGreatDoor
