/- No beginning and no continuation of a tree is one: the law answers true. -/
import Derived.Test.YtkjbblkieglmlaaGreatDoorPwG
set_option linter.all false
namespace Go.Proofs.YtkjbblkieglmlaaGreatDoor.treesWhole
open Go.ChangeShapes Go.WideShapes Go.ChangeAt Go.RowKit
set_option maxRecDepth 100000 in
theorem zCK (H:Type) (enc:TypeId×Value -> H) (W:World) (Dv:Nat) (args:Array Value) (ds gs:List (DataW H)) (OR:List MemPlace)
 (Gc: ∀ (j:Nat) t v,Tryz.f7.params[j]? =some t -> args[j]? =some v -> Value.okWide Tryz.prog W .any Dv t v)
 (hW:DataW.Whole enc Tryz.prog Tryz.f7.params.toList Rows.treesWholeSpec.vars false W args.toList ds gs OR)
 (A3:(DataW.weightsEach Tryz.prog Tryz.f7.params.toList ds).all (· <=reachBytes)=true) (hL:laidMetH Tryz.prog Rows.treesWholeRow.laid W):
 Calls Tryz.prog 7 args W fun e W'=>∃ v,e= .returned v/\ Rows.treesWholeSpec.post enc Tryz.prog Tryz.f7 false true false false W args v W':=by
 have S9:=hW;obtain ⟨p,q,hA0,hV,rfl,GO,Av⟩:=hW;have hA:DataW.TrodAll enc Tryz.prog W 0 (fun _=>true) true Tryz.f7.params.toList args.toList ds p:=hA0;rw [Tryz.params7] at hA;obtain ⟨v0,Og,d0,D9,p0,q0,Ch,rfl,rfl,_,r0⟩:=trodAll_cons hA;obtain ⟨v1,CL,d1,cA,p1,q1,rfl,rfl,rfl,_,r1⟩:=trodAll_cons r0;obtain ⟨v2,Dy,d2,ds2,p2,q2,rfl,rfl,rfl,_,r2⟩:=trodAll_cons r1;obtain ⟨v3,Mi,d3,ds3,p3,q3,rfl,rfl,rfl,_,r3⟩:=trodAll_cons r2;obtain ⟨rfl,rfl,rfl⟩:=trodAll_nil r3;obtain ⟨rfl,rfl⟩:=trodVars_none hV;refine vk (Γ:=GG) (s:=Rows.treesWholeSpec) (tb:=4) (dv:=fun y:AA×List Int×List (Int×Int)×(Int×Int)×Unit=>[.agg 5 (L1 (AC y.1)),.ints y.2.1,.sl 2 y.2.2.1.length (AQ Aw y.2.2.1),.agg 2 (L1 (Aw y.2.2.2.1))]) vw ?_ ?_ ?_ Gc S9 rfl rfl (by kernel_rfl) Tryz.underlying4 A3 (oZ hL)
 ·rw [Tryz.params7];intro t ht;simp only [Array.toList,zDu,zEr,or_false] at ht;rcases ht with rfl | rfl | rfl | rfl
  ·exact ⟨by kernel_rfl,zD8 (by kernel_rfl)⟩
  ·exact ⟨by kernel_rfl,zD8 (by kernel_rfl)⟩
  ·exact ⟨by kernel_rfl,zD8 (by kernel_rfl)⟩
  ·exact ⟨by kernel_rfl,zD8 (by kernel_rfl)⟩
 ·rw [Tryz.params7];exact Il.cons rX (Il.cons ra (Il.cons rY (Il.cons rZ Il.nil)))
 ·intro w y hy;obtain ⟨n,hn⟩:=vm y.1 y.2.1 y.2.2.1 y.2.2.2.1 (EM.of (hy 0)) (SX (hy 1));exact vn (hn n (zAm _))
theorem vv (os:Os):laidMet Tryz.prog Rows.treesWholeRow.laid ((Z4 os).forCall (fun _ _=>0) ⟨#[],#[VN,.slice none 0 0,.slice none 0 0,.agg #[.int .i64 0,.int .i64 0]],[]⟩).memory:=
 laidMet_of_run' 70 (by kernel_rfl) (by kernel_rfl)
theorem s9 (os:Os) {H:Type} (enc:TypeId×Value -> H): ∃ VO,DataW.whole enc Tryz.prog ((Z4 os).forCall (fun _ _=>0) ⟨#[],#[VN,.slice none 0 0,.slice none 0 0,.agg #[.int .i64 0,.int .i64 0]],[]⟩).memory Tryz.f7.params.toList Rows.treesWholeSpec.vars false #[VN,Value.slice none 0 0,Value.slice none 0 0,Value.agg #[.int .i64 0,.int .i64 0]].toList 16=some ([.agg [.lit (.int .i64 0),.lit (.int .i64 0),.nil,.nil,.nil],.nil,.nil,.agg [.lit (.int .i64 0),.lit (.int .i64 0)]],[],VO):=
 ⟨[],by kernel_rfl⟩
set_option maxRecDepth 100000 in
theorem vS (os:Os) (YN:os.Started) (H:Type) (enc:TypeId×Value -> H) (F:Stop.Interp):
 ReturnsInHanded {} Tryz.checked os 7 .any ((OpenSpec.ofChange Rows.treesWholeSpec).preRow enc Tryz.prog Tryz.f7 Rows.treesWholeRow.domain false Rows.treesWholeRow.laid) (((OpenSpec.ofChange Rows.treesWholeSpec).at F).post enc Tryz.prog Tryz.f7 false true false false):=by
 obtain ⟨VO,hx⟩:=s9 os enc
 refine returnsInHanded_of_row (C:=Tryz.checked) (s:=OpenSpec.ofChange Rows.treesWholeSpec) own YN (by kernel_rfl) Tryz.func7
  (witness_row_at (enc:=enc) (C:=Tryz.checked) false (Z4 os) #[VN,.slice none 0 0,.slice none 0 0,.agg #[.int .i64 0,.int .i64 0]] rfl (by kernel_rfl) (by kernel_rfl) (by kernel_rfl)
   (OpenSpec.preRow_of_cond 16 hx (by kernel_rfl) (fun k hk=>by cases hk) (by kernel_rfl) (vv os))) ?_
 intro W Dv args ds gs OR Gc hW _ _ A3 hL _ _;refine zCK H enc W Dv args ds gs OR Gc hW ?_ hL;have h1:=hW;obtain ⟨p,q,_,hV,_⟩:=h1;obtain ⟨rfl,_⟩:=trodVars_none hV;have e:(DataW.weightsEach Tryz.prog (Tryz.f7.params.toList++[]) (ds++[])).all (· <=reachBytes)=true:=A3;rw [zFD,zFD] at e;exact e
theorem said:Rows.TreesWholeSaid:=
 OpenClaim.holds_of_cond 7 Tryz.f7 rfl rfl rfl rfl rfl rfl rfl ⟨rfl,rfl,rfl,rfl,rfl⟩ rfl rfl rfl rfl rfl (by kernel_rfl) Tryz.func7 (by kernel_rfl)
  (zEb (by kernel_rfl)) (by unfold Func.isWrapper;first | (rw [zAB (by decide+kernel)];kernel_rfl) | (rw [zAZ (by decide+kernel)];exact ⟨rfl,rfl⟩))
  (fun os YN H enc _ F=>by rw [OpenClaim.pre_eq_preRow];exact vS os YN H enc F)
theorem plain (f:FuncId) (fn:Func) (hf:Tryz.pinned.checked.prog.funcNamed "gridwright/gridwrightlaw28.TreesWhole" =some f) (Sz:Tryz.pinned.checked.prog.funcs[f]? =some fn):
 true=Tryz.pinned.checked.prog.looks []/\ ∀ (j:Nat) t,fn.params[j]? =some t -> Tryz.pinned.checked.prog.wantsStandIn t=false:=by
 obtain rfl:f=7:=zAU ((show Tryz.prog.funcNamed "gridwright/gridwrightlaw28.TreesWhole" =some 7 by kernel_rfl).symm.trans hf) |>.symm
 obtain rfl:fn=Tryz.f7:=(zAU (Tryz.func7.symm.trans Sz)).symm;refine ⟨by kernel_rfl,fun j t ht=>?_⟩;rw [Tryz.params7] at ht;have ht:=zEv ht;simp only [Array.mem_def,Array.toList,zDu,zEr,or_false] at ht;rcases ht with rfl | rfl | rfl | rfl
 ·exact (show Tryz.prog.wantsStandIn 26=false by kernel_rfl)
 ·exact (show Tryz.prog.wantsStandIn 22=false by kernel_rfl)
 ·exact (show Tryz.prog.wantsStandIn 27=false by kernel_rfl)
 ·exact (show Tryz.prog.wantsStandIn 45=false by kernel_rfl)
end Go.Proofs.YtkjbblkieglmlaaGreatDoor.treesWhole
namespace Go.Proofs.YtkjbblkieglmlaaGreatDoor
open Go.ChangeShapes Go.WideShapes Go.ChangeAt Go.RowKit
theorem treesWhole_card:Rows.TreesWholeCardSaid:=
 Claim7.holds_tied_plain_at .later [] _ _ _ _ treesWhole.said (fun _ h=>by cases h) (by kernel_rfl) (fun _ h=>by cases h) treesWhole_row_tie rfl ⟨rfl,rfl⟩ (by kernel_rfl) rfl treesWhole.plain (by kernel_rfl)
end Go.Proofs.YtkjbblkieglmlaaGreatDoor
