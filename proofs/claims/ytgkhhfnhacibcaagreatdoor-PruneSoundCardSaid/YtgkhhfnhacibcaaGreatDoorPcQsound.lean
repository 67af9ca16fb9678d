/- No solution is lost: for every problem, index, position and grid the law answers true. -/
import Derived.Test.YtgkhhfnhacibcaaGreatDoorPcF
set_option linter.all false
namespace Go.Proofs.YtgkhhfnhacibcaaGreatDoor.pruneSound
open Go.ChangeShapes Go.WideShapes Go.ChangeAt Go.RowKit
set_option maxRecDepth 100000 in
theorem Yb (H:Type) (enc:TypeId×Value -> H) (W:World) (Ck:Nat) (args:Array Value) (ds gs:List (DataW H)) (IN:List MemPlace)
 (E4: ∀ (j:Nat) t v,Tryz.f6.params[j]? =some t -> args[j]? =some v -> Value.okWide Tryz.prog W .any Ck t v)
 (hW:DataW.Whole enc Tryz.prog Tryz.f6.params.toList Rows.pruneSoundSpec.vars false W args.toList ds gs IN)
 (A5:(DataW.weightsEach Tryz.prog Tryz.f6.params.toList ds).all (· <=reachBytes)=true) (hL:laidMetH Tryz.prog Rows.pruneSoundRow.laid W):
 Calls Tryz.prog 6 args W fun e W'=>∃ v,e= .returned v/\ Rows.pruneSoundSpec.post enc Tryz.prog Tryz.f6 false true false false W args v W':=by
 have Mo:=hW;obtain ⟨p,q,YD,hV,rfl,F7,BA⟩:=hW;have hA:DataW.TrodAll enc Tryz.prog W 0 (fun _=>true) true Tryz.f6.params.toList args.toList ds p:=YD;rw [Tryz.params6] at hA;obtain ⟨v0,Le,d0,DX,p0,q0,Ci,rfl,rfl,_,r0⟩:=zAW hA;obtain ⟨v1,Cf,d1,UT,p1,q1,rfl,rfl,rfl,_,r1⟩:=zAW r0;obtain ⟨v2,Eu,d2,wE,p2,q2,rfl,rfl,rfl,_,r2⟩:=zAW r1;obtain ⟨v3,Ld,d3,ds3,p3,q3,rfl,rfl,rfl,_,r3⟩:=zAW r2;obtain ⟨rfl,rfl,rfl⟩:=trodAll_nil r3;obtain ⟨rfl,rfl⟩:=trodVars_none hV;refine dQ (Γ:=GG) (s:=Rows.pruneSoundSpec) (tb:=4) (dv:=fun y:AA×Int×List Int×List Int×Unit=>[.agg 5 (L1 (AE y.1)),.int .i64 y.2.1,.ints y.2.2.1,.ints y.2.2.2.1]) dT ?_ ?_ ?_ E4 Mo rfl rfl (by kernel_rfl) Tryz.underlying4 A5 (Zz hL)
 ·rw [Tryz.params6];intro t ht;simp only [Array.toList,yq,zAA,or_false] at ht;rcases ht with rfl | rfl | rfl | rfl
  ·exact ⟨by kernel_rfl,zV (by kernel_rfl)⟩
  ·exact ⟨by kernel_rfl,zV (by kernel_rfl)⟩
  ·exact ⟨by kernel_rfl,zV (by kernel_rfl)⟩
  ·exact ⟨by kernel_rfl,zV (by kernel_rfl)⟩
 ·rw [Tryz.params6];exact GD.cons a6 (GD.cons a7 (GD.cons Vk (GD.cons Vk GD.nil)))
 ·intro w y hy;obtain ⟨n,hn⟩:=qO y.1 y.2.1 y.2.2.1 y.2.2.2.1 (FA.of (hy 0)) (MP (hy 2)) (MP (hy 3));exact qP (hn n (ym _))
theorem Ws (os:Os):laidMet Tryz.prog Rows.pruneSoundRow.laid ((No os).forCall (fun _ _=>0) ⟨#[],#[Kn,.int .i64 0,.slice none 0 0,.slice none 0 0],[]⟩).memory:=
 laidMet_of_run' 70 (by kernel_rfl) (by kernel_rfl)
theorem Vx (os:Os) {H:Type} (enc:TypeId×Value -> H): ∃ L3,DataW.whole enc Tryz.prog ((No os).forCall (fun _ _=>0) ⟨#[],#[Kn,.int .i64 0,.slice none 0 0,.slice none 0 0],[]⟩).memory Tryz.f6.params.toList Rows.pruneSoundSpec.vars false #[Kn,Value.int .i64 0,Value.slice none 0 0,Value.slice none 0 0].toList 16=some ([.agg [.lit (.int .i64 0),.lit (.int .i64 0),.nil,.nil,.nil],.lit (.int .i64 0),.nil,.nil],[],L3):=
 ⟨[],by kernel_rfl⟩
set_option maxRecDepth 100000 in
theorem Wo (os:Os) (Lj:os.Started) (H:Type) (enc:TypeId×Value -> H) (F:Stop.Interp):
 ReturnsInHanded {} Tryz.checked os 6 .any ((OpenSpec.ofChange Rows.pruneSoundSpec).preRow enc Tryz.prog Tryz.f6 Rows.pruneSoundRow.domain false Rows.pruneSoundRow.laid) (((OpenSpec.ofChange Rows.pruneSoundSpec).at F).post enc Tryz.prog Tryz.f6 false true false false):=by
 obtain ⟨L3,hx⟩:=Vx os enc
 refine returnsInHanded_of_row (C:=Tryz.checked) (s:=OpenSpec.ofChange Rows.pruneSoundSpec) own Lj (by kernel_rfl) Tryz.func6
  (witness_row_at (enc:=enc) (C:=Tryz.checked) false (No os) #[Kn,.int .i64 0,.slice none 0 0,.slice none 0 0] rfl (by kernel_rfl) (by kernel_rfl) (by kernel_rfl)
   (OpenSpec.preRow_of_cond 16 hx (by kernel_rfl) (fun k hk=>by cases hk) (by kernel_rfl) (Ws os))) ?_
 intro W Ck args ds gs IN E4 hW _ _ A5 hL _ _;refine Yb H enc W Ck args ds gs IN E4 hW ?_ hL;have h1:=hW;obtain ⟨p,q,_,hV,_⟩:=h1;obtain ⟨rfl,_⟩:=trodVars_none hV;have e:(DataW.weightsEach Tryz.prog (Tryz.f6.params.toList++[]) (ds++[])).all (· <=reachBytes)=true:=A5;rw [zAK,zAK] at e;exact e
theorem said:Rows.PruneSoundSaid:=
 OpenClaim.holds_of_cond 6 Tryz.f6 rfl rfl rfl rfl rfl rfl rfl ⟨rfl,rfl,rfl,rfl,rfl⟩ rfl rfl rfl rfl rfl (by kernel_rfl) Tryz.func6 (by kernel_rfl)
  (zx (by kernel_rfl)) (by unfold Func.isWrapper;first | (rw [yP (by decide+kernel)];kernel_rfl) | (rw [yb (by decide+kernel)];exact ⟨rfl,rfl⟩))
  (fun os Lj H enc _ F=>by rw [OpenClaim.pre_eq_preRow];exact Wo os Lj H enc F)
theorem plain (f:FuncId) (fn:Func) (hf:Tryz.pinned.checked.prog.funcNamed "gridwright/gridwrightlaw26.PruneSound" =some f) (J3:Tryz.pinned.checked.prog.funcs[f]? =some fn):
 false=Tryz.pinned.checked.prog.looks []/\ ∀ (j:Nat) t,fn.params[j]? =some t -> Tryz.pinned.checked.prog.wantsStandIn t=false:=by
 obtain rfl:f=6:=yY ((show Tryz.prog.funcNamed "gridwright/gridwrightlaw26.PruneSound" =some 6 by kernel_rfl).symm.trans hf) |>.symm
 obtain rfl:fn=Tryz.f6:=(yY (Tryz.func6.symm.trans J3)).symm;refine ⟨by kernel_rfl,fun j t ht=>?_⟩;rw [Tryz.params6] at ht;have ht:=zAC ht;simp only [Array.mem_def,Array.toList,yq,zAA,or_false] at ht;rcases ht with rfl | rfl | rfl | rfl
 ·exact (show Tryz.prog.wantsStandIn 26=false by kernel_rfl)
 ·exact (show Tryz.prog.wantsStandIn 3=false by kernel_rfl)
 ·exact (show Tryz.prog.wantsStandIn 22=false by kernel_rfl)
 ·exact (show Tryz.prog.wantsStandIn 22=false by kernel_rfl)
end Go.Proofs.YtgkhhfnhacibcaaGreatDoor.pruneSound
namespace Go.Proofs.YtgkhhfnhacibcaaGreatDoor
open Go.ChangeShapes Go.WideShapes Go.ChangeAt Go.RowKit
theorem pruneSound_card:Rows.PruneSoundCardSaid:=
 Claim7.holds_tied_plain_at .later [] _ _ _ _ pruneSound.said (fun _ h=>by cases h) (by kernel_rfl) (fun _ h=>by cases h) pruneSound_row_tie rfl ⟨rfl,rfl⟩ (by kernel_rfl) rfl pruneSound.plain (by kernel_rfl)
end Go.Proofs.YtgkhhfnhacibcaaGreatDoor
