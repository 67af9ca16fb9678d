/- More fuel changes nothing: for every problem, position and fuel the law answers true. -/
import Derived.Test.YtodinaconebmdaaGreatDoorPyG
set_option linter.all false
namespace Go.Proofs.YtodinaconebmdaaGreatDoor.searchFuel
open Go.ChangeShapes Go.WideShapes Go.ChangeAt Go.RowKit
set_option maxRecDepth 100000 in
theorem zD0 (H:Type)(enc:TypeId×Value -> H)(W:World)(Dp:Nat)(args:Array Value)(ds gs:List (DataW H))(Pp:List MemPlace) 
 (GT: ∀ (j:Nat) t v,Tryz.f6.params[j]? =some t -> args[j]? =some v -> Value.okWide Tryz.prog W .any Dp t v)
 (hW:DataW.Whole enc Tryz.prog Tryz.f6.params.toList Rows.searchFuelSpec.vars false W args.toList ds gs Pp)
 (Av:(DataW.weightsEach Tryz.prog Tryz.f6.params.toList ds).all (· <=reachBytes)=true) (hL:laidMetH Tryz.prog Rows.searchFuelRow.laid W):
 Calls Tryz.prog 6 args W fun e W'=>∃ v,e= .returned v/\ Rows.searchFuelSpec.post enc Tryz.prog Tryz.f6 false true false false W args v W':=by
 have U4:=hW;obtain ⟨p,q,hA0,hV,rfl,HI,As⟩:=hW;have hA:DataW.TrodAll enc Tryz.prog W 0 (fun _=>true) true Tryz.f6.params.toList args.toList ds p:=hA0;rw [Tryz.params6] at hA;obtain ⟨v0,QJ,d0,ET,p0,q0,CD,rfl,rfl,_,r0⟩:=trodAll_cons hA;obtain ⟨v1,C9,d1,Ek,p1,q1,rfl,rfl,rfl,_,r1⟩:=trodAll_cons r0;obtain ⟨v2,E4,d2,ds2,p2,q2,rfl,rfl,rfl,_,r2⟩:=trodAll_cons r1;obtain ⟨v3,Nr,d3,ds3,p3,q3,rfl,rfl,rfl,_,r3⟩:=trodAll_cons r2;obtain ⟨rfl,rfl,rfl⟩:=trodAll_nil r3;obtain ⟨rfl,rfl⟩:=trodVars_none hV;refine yh (Γ:=GG) (s:=Rows.searchFuelSpec) (tb:=4) (dv:=fun y:AA×List Int×f7×f7×Unit=>[.agg 5 (L1 (AG y.1)),.ints y.2.1,.int .u16 y.2.2.1.1,.int .u16 y.2.2.2.1.1]) yn ?_ ?_ ?_ GT U4 rfl rfl (by kernel_rfl) Tryz.underlying4 Av (sP hL)
 ·rw [Tryz.params6];intro t ht;simp only [Array.toList,zCC,zGG,or_false] at ht;rcases ht with rfl | rfl | rfl | rfl
  ·exact ⟨by kernel_rfl,zCo (by kernel_rfl)⟩
  ·exact ⟨by kernel_rfl,zCo (by kernel_rfl)⟩
  ·exact ⟨by kernel_rfl,zCo (by kernel_rfl)⟩
  ·exact ⟨by kernel_rfl,zCo (by kernel_rfl)⟩
 ·rw [Tryz.params6];exact Jw.cons u6 (Jw.cons u7 (Jw.cons (IE.u16 Tryz.underlying46) (Jw.cons (IE.u16 Tryz.underlying46) Jw.nil)))
 ·intro w y hy;obtain ⟨n,hn⟩:=yi y.1 y.2.1 y.2.2.1.1 y.2.2.2.1.1 (EC.of (hy 0)) (QA.of (hy 0)) (UU (hy 1)) y.2.2.1.2 y.2.2.2.1.2;exact yj (hn n (zBl _))
theorem ym (os:Os):laidMet Tryz.prog Rows.searchFuelRow.laid ((bo os).forCall (fun _ _=>0) ⟨#[],#[XB,.slice none 0 0,.int .u16 0,.int .u16 0],[]⟩).memory:=
 laidMet_of_run' 70 (by kernel_rfl) (by kernel_rfl)
theorem vz (os:Os){H:Type}(enc:TypeId×Value -> H): ∃ XD,DataW.whole enc Tryz.prog ((bo os).forCall (fun _ _=>0) ⟨#[],#[XB,.slice none 0 0,.int .u16 0,.int .u16 0],[]⟩).memory Tryz.f6.params.toList Rows.searchFuelSpec.vars false #[XB,Value.slice none 0 0,Value.int .u16 0,Value.int .u16 0].toList 16=some ([.agg [.lit (.int .i64 0),.lit (.int .i64 0),.nil,.nil,.nil],.nil,.lit (.int .u16 0),.lit (.int .u16 0)],[],XD):=
 ⟨[],by kernel_rfl⟩
set_option maxRecDepth 100000 in
theorem yd (os:Os)(Z4:os.Started)(H:Type)(enc:TypeId×Value -> H)(F:Stop.Interp):
 ReturnsInHanded {} Tryz.checked os 6 .any ((OpenSpec.ofChange Rows.searchFuelSpec).preRow enc Tryz.prog Tryz.f6 Rows.searchFuelRow.domain false Rows.searchFuelRow.laid) (((OpenSpec.ofChange Rows.searchFuelSpec).at F).post enc Tryz.prog Tryz.f6 false true false false):=by
 obtain ⟨XD,hx⟩:=vz os enc
 refine returnsInHanded_of_row (C:=Tryz.checked) (s:=OpenSpec.ofChange Rows.searchFuelSpec) own Z4 (by kernel_rfl) Tryz.func6
  (witness_row_at (enc:=enc) (C:=Tryz.checked) false (bo os) #[XB,.slice none 0 0,.int .u16 0,.int .u16 0] rfl (by kernel_rfl) (by kernel_rfl) (by kernel_rfl)
   (OpenSpec.preRow_of_cond 16 hx (by kernel_rfl) (fun k hk=>by cases hk) (by kernel_rfl) (ym os))) ?_
 intro W Dp args ds gs Pp GT hW _ _ Av hL _ _;refine zD0 H enc W Dp args ds gs Pp GT hW ?_ hL;have h1:=hW;obtain ⟨p,q,_,hV,_⟩:=h1;obtain ⟨rfl,_⟩:=trodVars_none hV;have e:(DataW.weightsEach Tryz.prog (Tryz.f6.params.toList++[]) (ds++[])).all (· <=reachBytes)=true:=Av;rw [zF1,zF1] at e;exact e
theorem said:Rows.SearchFuelSaid:=
 OpenClaim.holds_of_cond 6 Tryz.f6 rfl rfl rfl rfl rfl rfl rfl ⟨rfl,rfl,rfl,rfl,rfl⟩ rfl rfl rfl rfl rfl (by kernel_rfl) Tryz.func6 (by kernel_rfl)
  (zFr (by kernel_rfl)) (by unfold Func.isWrapper;first | (rw [zAA (by decide+kernel)];kernel_rfl) | (rw [zAY (by decide+kernel)];exact ⟨rfl,rfl⟩))
  (fun os Z4 H enc _ F=>by rw [OpenClaim.pre_eq_preRow];exact yd os Z4 H enc F)
theorem plain (f:FuncId)(fn:Func)(hf:Tryz.pinned.checked.prog.funcNamed "gridwright/gridwrightlaw29.SearchFuel" =some f)(GV:Tryz.pinned.checked.prog.funcs[f]? =some fn):
 true=Tryz.pinned.checked.prog.looks []/\ ∀ (j:Nat) t,fn.params[j]? =some t -> Tryz.pinned.checked.prog.wantsStandIn t=false:=by
 obtain rfl:f=6:=zAV ((show Tryz.prog.funcNamed "gridwright/gridwrightlaw29.SearchFuel" =some 6 by kernel_rfl).symm.trans hf) |>.symm
 obtain rfl:fn=Tryz.f6:=(zAV (Tryz.func6.symm.trans GV)).symm;refine ⟨by kernel_rfl,fun j t ht=>?_⟩;rw [Tryz.params6] at ht;have ht:=zGL ht;simp only [Array.mem_def,Array.toList,zCC,zGG,or_false] at ht;rcases ht with rfl | rfl | rfl | rfl
 ·exact (show Tryz.prog.wantsStandIn 26=false by kernel_rfl)
 ·exact (show Tryz.prog.wantsStandIn 22=false by kernel_rfl)
 ·exact (show Tryz.prog.wantsStandIn 46=false by kernel_rfl)
 ·exact (show Tryz.prog.wantsStandIn 46=false by kernel_rfl)
end Go.Proofs.YtodinaconebmdaaGreatDoor.searchFuel
namespace Go.Proofs.YtodinaconebmdaaGreatDoor
open Go.ChangeShapes Go.WideShapes Go.ChangeAt Go.RowKit
theorem searchFuel_card:Rows.SearchFuelCardSaid:=
 Claim7.holds_tied_plain_at .later [] _ _ _ _ searchFuel.said (fun _ h=>by cases h) (by kernel_rfl) (fun _ h=>by cases h) searchFuel_row_tie rfl ⟨rfl,rfl⟩ (by kernel_rfl) rfl searchFuel.plain (by kernel_rfl)
end Go.Proofs.YtodinaconebmdaaGreatDoor
