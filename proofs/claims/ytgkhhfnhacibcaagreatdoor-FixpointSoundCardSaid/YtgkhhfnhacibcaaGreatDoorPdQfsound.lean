/- Solutions and fixpoints: for every problem, position, grid and level the law answers true. -/
import Derived.Test.YtgkhhfnhacibcaaGreatDoorPdG
set_option linter.all false
namespace Go.Proofs.YtgkhhfnhacibcaaGreatDoor.fixpointSound
open Go.ChangeShapes Go.WideShapes Go.ChangeAt Go.RowKit
set_option maxRecDepth 100000 in
theorem zBE (H:Type) (enc:TypeId×Value -> H) (W:World) (Df:Nat) (args:Array Value) (ds gs:List (DataW H)) (Nb:List MemPlace)
 (Fv: ∀ (j:Nat) t v,Tryz.f9.params[j]? =some t -> args[j]? =some v -> Value.okWide Tryz.prog W .any Df t v)
 (hW:DataW.Whole enc Tryz.prog Tryz.f9.params.toList Rows.fixpointSoundSpec.vars false W args.toList ds gs Nb)
 (Az:(DataW.weightsEach Tryz.prog Tryz.f9.params.toList ds).all (· <=reachBytes)=true) (hL:laidMetH Tryz.prog Rows.fixpointSoundRow.laid W):
 Calls Tryz.prog 9 args W fun e W'=>∃ v,e= .returned v/\ Rows.fixpointSoundSpec.post enc Tryz.prog Tryz.f9 false true false false W args v W':=by
 have SC:=hW;obtain ⟨p,q,ze,hV,rfl,Gc,A5⟩:=hW;have hA:DataW.TrodAll enc Tryz.prog W 0 (fun _=>true) true Tryz.f9.params.toList args.toList ds p:=ze;rw [Tryz.params9] at hA;obtain ⟨v0,Nr,d0,D1,p0,q0,Ce,rfl,rfl,_,r0⟩:=trodAll_cons hA;obtain ⟨v1,Cw,d1,EL,p1,q1,rfl,rfl,rfl,_,r1⟩:=trodAll_cons r0;obtain ⟨v2,FS,d2,ds2,p2,q2,rfl,rfl,rfl,_,r2⟩:=trodAll_cons r1;obtain ⟨v3,L7,d3,ds3,p3,q3,rfl,rfl,rfl,_,r3⟩:=trodAll_cons r2;obtain ⟨rfl,rfl,rfl⟩:=trodAll_nil r3;obtain ⟨rfl,rfl⟩:=trodVars_none hV;refine ug (Γ:=GG) (s:=Rows.fixpointSoundSpec) (tb:=4) (dv:=fun y:AA×List Int×List Int×Int×Unit=>[.agg 5 (L1 (AD y.1)),.ints y.2.1,.ints y.2.2.1,.int .i64 y.2.2.2.1]) uq ?_ ?_ ?_ Fv SC rfl rfl (by kernel_rfl) Tryz.underlying4 Az (nt hL)
 ·rw [Tryz.params9];intro t ht;simp only [Array.toList,zDF,zEP,or_false] at ht;rcases ht with rfl | rfl | rfl | rfl
  ·exact ⟨by kernel_rfl,zDw (by kernel_rfl)⟩
  ·exact ⟨by kernel_rfl,zDw (by kernel_rfl)⟩
  ·exact ⟨by kernel_rfl,zDw (by kernel_rfl)⟩
  ·exact ⟨by kernel_rfl,zDw (by kernel_rfl)⟩
 ·rw [Tryz.params9];exact Iw.cons qX (Iw.cons eW (Iw.cons eW (Iw.cons qY Iw.nil)))
 ·intro w y hy;obtain ⟨n,hn⟩:=uh y.1 y.2.1 y.2.2.1 y.2.2.2.1 (CW.of (hy 0)) (Og (hy 1)) (Og (hy 2));exact ui (hn n (zC6 _))
theorem uo (os:Os):laidMet Tryz.prog Rows.fixpointSoundRow.laid ((Yz os).forCall (fun _ _=>0) ⟨#[],#[UV,.slice none 0 0,.slice none 0 0,.int .i64 0],[]⟩).memory:=
 laidMet_of_run' 70 (by kernel_rfl) (by kernel_rfl)
theorem r9 (os:Os) {H:Type} (enc:TypeId×Value -> H): ∃ Ua,DataW.whole enc Tryz.prog ((Yz os).forCall (fun _ _=>0) ⟨#[],#[UV,.slice none 0 0,.slice none 0 0,.int .i64 0],[]⟩).memory Tryz.f9.params.toList Rows.fixpointSoundSpec.vars false #[UV,Value.slice none 0 0,Value.slice none 0 0,Value.int .i64 0].toList 16=some ([.agg [.lit (.int .i64 0),.lit (.int .i64 0),.nil,.nil,.nil],.nil,.nil,.lit (.int .i64 0)],[],Ua):=
 ⟨[],by kernel_rfl⟩
set_option maxRecDepth 100000 in
theorem ud (os:Os) (Xb:os.Started) (H:Type) (enc:TypeId×Value -> H) (F:Stop.Interp):
 ReturnsInHanded {} Tryz.checked os 9 .any ((OpenSpec.ofChange Rows.fixpointSoundSpec).preRow enc Tryz.prog Tryz.f9 Rows.fixpointSoundRow.domain false Rows.fixpointSoundRow.laid) (((OpenSpec.ofChange Rows.fixpointSoundSpec).at F).post enc Tryz.prog Tryz.f9 false true false false):=by
 obtain ⟨Ua,hx⟩:=r9 os enc
 refine returnsInHanded_of_row (C:=Tryz.checked) (s:=OpenSpec.ofChange Rows.fixpointSoundSpec) own Xb (by kernel_rfl) Tryz.func9
  (witness_row_at (enc:=enc) (C:=Tryz.checked) false (Yz os) #[UV,.slice none 0 0,.slice none 0 0,.int .i64 0] rfl (by kernel_rfl) (by kernel_rfl) (by kernel_rfl)
   (OpenSpec.preRow_of_cond 16 hx (by kernel_rfl) (fun k hk=>by cases hk) (by kernel_rfl) (uo os))) ?_
 intro W Df args ds gs Nb Fv hW _ _ Az hL _ _;refine zBE H enc W Df args ds gs Nb Fv hW ?_ hL;have h1:=hW;obtain ⟨p,q,_,hV,_⟩:=h1;obtain ⟨rfl,_⟩:=trodVars_none hV;have e:(DataW.weightsEach Tryz.prog (Tryz.f9.params.toList++[]) (ds++[])).all (· <=reachBytes)=true:=Az;rw [zEX,zEX] at e;exact e
theorem said:Rows.FixpointSoundSaid:=
 OpenClaim.holds_of_cond 9 Tryz.f9 rfl rfl rfl rfl rfl rfl rfl ⟨rfl,rfl,rfl,rfl,rfl⟩ rfl rfl rfl rfl rfl (by kernel_rfl) Tryz.func9 (by kernel_rfl)
  (zEE (by kernel_rfl)) (by unfold Func.isWrapper;first | (rw [zB3 (by decide+kernel)];kernel_rfl) | (rw [zCt (by decide+kernel)];exact ⟨rfl,rfl⟩))
  (fun os Xb H enc _ F=>by rw [OpenClaim.pre_eq_preRow];exact ud os Xb H enc F)
theorem plain (f:FuncId) (fn:Func) (hf:Tryz.pinned.checked.prog.funcNamed "gridwright/gridwrightlaw27.FixpointSound" =some f) (NF:Tryz.pinned.checked.prog.funcs[f]? =some fn):
 false=Tryz.pinned.checked.prog.looks []/\ ∀ (j:Nat) t,fn.params[j]? =some t -> Tryz.pinned.checked.prog.wantsStandIn t=false:=by
 obtain rfl:f=9:=zCq ((show Tryz.prog.funcNamed "gridwright/gridwrightlaw27.FixpointSound" =some 9 by kernel_rfl).symm.trans hf) |>.symm
 obtain rfl:fn=Tryz.f9:=(zCq (Tryz.func9.symm.trans NF)).symm;refine ⟨by kernel_rfl,fun j t ht=>?_⟩;rw [Tryz.params9] at ht;have ht:=zEU ht;simp only [Array.mem_def,Array.toList,zDF,zEP,or_false] at ht;rcases ht with rfl | rfl | rfl | rfl
 ·exact (show Tryz.prog.wantsStandIn 26=false by kernel_rfl)
 ·exact (show Tryz.prog.wantsStandIn 22=false by kernel_rfl)
 ·exact (show Tryz.prog.wantsStandIn 22=false by kernel_rfl)
 ·exact (show Tryz.prog.wantsStandIn 3=false by kernel_rfl)
end Go.Proofs.YtgkhhfnhacibcaaGreatDoor.fixpointSound
namespace Go.Proofs.YtgkhhfnhacibcaaGreatDoor
open Go.ChangeShapes Go.WideShapes Go.ChangeAt Go.RowKit
theorem fixpointSound_card:Rows.FixpointSoundCardSaid:=
 Claim7.holds_tied_plain_at .later [] _ _ _ _ fixpointSound.said (fun _ h=>by cases h) (by kernel_rfl) (fun _ h=>by cases h) fixpointSound_row_tie rfl ⟨rfl,rfl⟩ (by kernel_rfl) rfl fixpointSound.plain (by kernel_rfl)
end Go.Proofs.YtgkhhfnhacibcaaGreatDoor
