/- The law of pruning and its reference -/
import Derived.Test.YtekkngkphejfcaaGreatDoorPsG
set_option linter.all false
namespace Go.Proofs.YtekkngkphejfcaaGreatDoor.pruneSpec
open Go.ChangeShapes Go.WideShapes Go.ChangeAt Go.RowKit
set_option maxRecDepth 100000 in
theorem zay (H:Type) (enc:TypeId×Value→H) (W:World) (base:Nat) (args:Array Value) (ds gs:List (DataW H)) (before:List MemPlace)
 (hval: ∀ (j:Nat) t v,Tryz.f3.params[j]? =some t→args[j]? =some v→Value.okWide Tryz.prog W .any base t v)
 (hW:DataW.Whole enc Tryz.prog Tryz.f3.params.toList Rows.pruneSpecSpec.vars false W args.toList ds gs before)
 (hsz:(DataW.weightsEach Tryz.prog Tryz.f3.params.toList ds).all (· ≤reachBytes)=true) (hL:laidMetH Tryz.prog Rows.pruneSpecRow.laid W):
 Calls Tryz.prog 3 args W fun e W'=>∃ v,e= .returned v∧Rows.pruneSpecSpec.post enc Tryz.prog Tryz.f3 false true false false W args v W':=by
 have hW':=hW
 obtain ⟨p,q,hA0,hV,rfl,hfz,hnd⟩:=hW
 have hA:DataW.TrodAll enc Tryz.prog W 0 (fun _=>true) true Tryz.f3.params.toList args.toList ds p:=hA0
 rw [Tryz.params3] at hA
 obtain ⟨v0,vs0,d0,ds0,p0,q0,hargs,rfl,rfl,_,r0⟩:=trodAll_cons hA
 obtain ⟨v1,vs1,d1,ds1,p1,q1,rfl,rfl,rfl,_,r1⟩:=trodAll_cons r0
 obtain ⟨v2,vs2,d2,ds2,p2,q2,rfl,rfl,rfl,_,r2⟩:=trodAll_cons r1
 obtain ⟨rfl,rfl,rfl⟩:=trodAll_nil r2
 obtain ⟨rfl,rfl⟩:=trodVars_none hV
 refine zXr (Γ:=GG) (s:=Rows.pruneSpecSpec) (tb:=4) (dv:=fun y:zAB×Int×List Int×Unit=>[.agg 5 (L1 (zAE y.1)),.int .i64 y.2.1,.ints y.2.2.1]) zab ?_ ?_ ?_ hval hW' rfl rfl (by kernel_rfl) Tryz.underlying4 hsz (zY9 hL)
 ·rw [Tryz.params3]
  intro t ht
  simp only [Array.toList,List.mem_cons,List.not_mem_nil,or_false] at ht
  rcases ht with rfl | rfl | rfl
  ·exact ⟨by kernel_rfl,Nat.le_of_ble_eq_true (by kernel_rfl)⟩
  ·exact ⟨by kernel_rfl,Nat.le_of_ble_eq_true (by kernel_rfl)⟩
  ·exact ⟨by kernel_rfl,Nat.le_of_ble_eq_true (by kernel_rfl)⟩
 ·rw [Tryz.params3]
  exact zML.cons zch (zML.cons zds (zML.cons zci zML.nil))
 ·intro w y hy
  obtain ⟨n,hn⟩:=zP5 y.1 y.2.1 y.2.2.1 (Fit.of (hy 0)) (zLY (hy 2))
  exact zUh (hn n (Nat.le_refl _))
theorem zaa (os:Os):laidMet Tryz.prog Rows.pruneSpecRow.laid ((laidWorld os).forCall (fun _ _=>0) ⟨#[],#[zZ9,.int .i64 0,.slice none 0 0],[]⟩).memory:=
 laidMet_of_run' 70 (by kernel_rfl) (by kernel_rfl)
theorem zdt (os:Os) {H:Type} (enc:TypeId×Value→H): ∃ places,DataW.whole enc Tryz.prog ((laidWorld os).forCall (fun _ _=>0) ⟨#[],#[zZ9,.int .i64 0,.slice none 0 0],[]⟩).memory Tryz.f3.params.toList Rows.pruneSpecSpec.vars false #[zZ9,Value.int .i64 0,Value.slice none 0 0].toList 16=some ([.agg [.lit (.int .i64 0),.lit (.int .i64 0),.nil,.nil,.nil],.lit (.int .i64 0),.nil],[],places):=
 ⟨[],by kernel_rfl⟩
set_option maxRecDepth 100000 in
theorem zcy (os:Os) (started:os.Started) (H:Type) (enc:TypeId×Value→H) (F:Stop.Interp):
 ReturnsInHanded {} Tryz.checked os 3 .any ((OpenSpec.ofChange Rows.pruneSpecSpec).preRow enc Tryz.prog Tryz.f3 Rows.pruneSpecRow.domain false Rows.pruneSpecRow.laid) (((OpenSpec.ofChange Rows.pruneSpecSpec).at F).post enc Tryz.prog Tryz.f3 false true false false):=by
 obtain ⟨places,hx⟩:=zdt os enc
 refine returnsInHanded_of_row (C:=Tryz.checked) (s:=OpenSpec.ofChange Rows.pruneSpecSpec) own started (by kernel_rfl) Tryz.func3
  (witness_row_at (enc:=enc) (C:=Tryz.checked) false (laidWorld os) #[zZ9,.int .i64 0,.slice none 0 0] rfl (by kernel_rfl) (by kernel_rfl) (by kernel_rfl)
   (OpenSpec.preRow_of_cond 16 hx (by kernel_rfl) (fun k hk=>by cases hk) (by kernel_rfl) (zaa os))) ?_
 intro W base args ds gs before hval hW _ _ hsz hL _ _
 refine zay H enc W base args ds gs before hval hW ?_ hL
 have h1:=hW
 obtain ⟨p,q,_,hV,_⟩:=h1
 obtain ⟨rfl,_⟩:=trodVars_none hV
 have e:(DataW.weightsEach Tryz.prog (Tryz.f3.params.toList++[]) (ds++[])).all (· ≤reachBytes)=true:=hsz
 rw [List.append_nil,List.append_nil] at e
 exact e
theorem said:Rows.PruneSpecSaid:=
 OpenClaim.holds_of_cond 3 Tryz.f3 rfl rfl rfl rfl rfl rfl rfl ⟨rfl,rfl,rfl,rfl,rfl⟩ rfl rfl rfl rfl rfl (by kernel_rfl) Tryz.func3 (by kernel_rfl)
  (of_decide_eq_true (by kernel_rfl)) (by unfold Func.isWrapper;first | (rw [if_pos (by decide+kernel)];kernel_rfl) | (rw [if_neg (by decide+kernel)];exact ⟨rfl,rfl⟩))
  (fun os started H enc _ F=>by rw [OpenClaim.pre_eq_preRow];exact zcy os started H enc F)
theorem plain (f:FuncId) (fn:Func) (hf:Tryz.pinned.checked.prog.funcNamed "gridwright/gridwrightlaw26.PruneSpec" =some f) (hfn:Tryz.pinned.checked.prog.funcs[f]? =some fn):
 false=Tryz.pinned.checked.prog.looks []∧∀ (j:Nat) t,fn.params[j]? =some t→Tryz.pinned.checked.prog.wantsStandIn t=false:=by
 obtain rfl:f=3:=Option.some.inj ((show Tryz.prog.funcNamed "gridwright/gridwrightlaw26.PruneSpec" =some 3 by kernel_rfl).symm.trans hf) |>.symm
 obtain rfl:fn=Tryz.f3:=(Option.some.inj (Tryz.func3.symm.trans hfn)).symm
 refine ⟨by kernel_rfl,fun j t ht=>?_⟩
 rw [Tryz.params3] at ht
 have ht:=Array.mem_of_getElem? ht
 simp only [Array.mem_def,Array.toList,List.mem_cons,List.not_mem_nil,or_false] at ht
 rcases ht with rfl | rfl | rfl
 ·exact (show Tryz.prog.wantsStandIn 26=false by kernel_rfl)
 ·exact (show Tryz.prog.wantsStandIn 3=false by kernel_rfl)
 ·exact (show Tryz.prog.wantsStandIn 22=false by kernel_rfl)
end Go.Proofs.YtekkngkphejfcaaGreatDoor.pruneSpec
namespace Go.Proofs.YtekkngkphejfcaaGreatDoor
open Go.ChangeShapes Go.WideShapes Go.ChangeAt Go.RowKit
theorem pruneSpec_card:Rows.PruneSpecCardSaid:=
 Claim7.holds_tied_plain_at .later [] _ _ _ _ pruneSpec.said (fun _ h=>by cases h) (by kernel_rfl) (fun _ h=>by cases h) pruneSpec_row_tie rfl ⟨rfl,rfl⟩ (by kernel_rfl) rfl pruneSpec.plain (by kernel_rfl)
end Go.Proofs.YtekkngkphejfcaaGreatDoor
