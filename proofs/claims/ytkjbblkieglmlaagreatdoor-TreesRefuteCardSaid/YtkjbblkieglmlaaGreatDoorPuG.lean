/- Part 7 of 7 of what the proofs of these laws stand on. -/
import Derived.Test.YtkjbblkieglmlaaGreatDoorPuF
import Derived.Test.YtkjbblkieglmlaaGreatDoorRows
import Derived.ProofKit
import Derived.OpenShut
import Derived.Deep.DeepHandedRow
import Derived.Lib.LaidTab
import Derived.Deep.Slices
import Derived.Stop.LaidErr
import Derived.Test.YtkjbblkieglmlaaGreatDoorCards
import Derived.Test.YtkjbblkieglmlaaGreatDoorTie
set_option linter.all false
namespace Go.Proofs.YtkjbblkieglmlaaGreatDoor
abbrev zHe:=@Go.wpSIn_region
open Go.RowKit
set_option maxRecDepth 100000
set_option maxHeartbeats 40000000
def iK:ST:=.rd 0 (.rd 1 (.ef 2 (.ef 3 (.ef 4 (.fin [] []) (.no)) (.no)) (.no)))
theorem uu:Bv (Aj Tryz.f36 2) [2,3] iK:=by unfold Bv;kernel_rfl
def gb (o:List Int)(q:AA)(tree:List (Int×Int))(pos:List Int):St:=⟨(AG 9 []),(Bs o q tree tree.length pos 0++[oC [.nils],oC [.nils],oC [.i 280]])⟩
theorem zFI {q:AA}{pos:List Int}{tree:List (Int×Int)}{o:List Int}{N:Nat -> Prop}{ρ0:List AH}{w0:World}{p1 p2 p3:Value}(HR:A1 Tryz.prog GG N (Bs o q tree tree.length pos 0++[oC [.nils],oC [.msl 0 1 0 tree.length],oC [.i 0]]) ρ0 w0)(e1:AK (MS N (Bs o q tree tree.length pos 0++[oC [.nils],oC [.msl 0 1 0 tree.length],oC [.i 0]]) ρ0) w0 (.ref 5 0) ρ0 p1)(e2:AK (MS N (Bs o q tree tree.length pos 0++[oC [.nils],oC [.msl 0 1 0 tree.length],oC [.i 0]]) ρ0) w0 (.ref 6 0) ρ0 p2)(e3:AK (MS N (Bs o q tree tree.length pos 0++[oC [.nils],oC [.msl 0 1 0 tree.length],oC [.i 0]]) ρ0) w0 (.ref 7 0) ρ0 p3):
 CallsDIn Fence.wide (0-1) Tryz.prog 36 #[p1,p2,p3] (.panicking (pan Dj)) w0 fun e u' w'=>(∃ v,e= .returned v)/\ u'= .panicking [{ v:=Dj,recovered:=true }]/\ ∃ ρ',A1 Tryz.prog GG N (Bs o q tree tree.length pos 0++[oC [.nils],oC [.nils],oC [.i 280]]) ρ' w'/\ A5 (Bs o q tree tree.length pos 0++[oC [.nils],oC [.msl 0 1 0 tree.length],oC [.i 0]]) ρ0 w0 (Bs o q tree tree.length pos 0++[oC [.nils],oC [.nils],oC [.i 280]]) ρ' w'/\ CI 8 ρ0 ρ':=by
 refine callsDIn_of_wpSIn Tryz.func36 rfl trivial fun c₀ cs hu=>?_
 apply wpSIn_seq;apply zHe;simp [wpOpsSIn,go_sem,recoverD,hu,Tryz.ntmps36,Exit.thenS,Fence.wide,pan,Dj];apply wpSIn_seq;apply zHe;simp [wpOpsSIn,go_sem,Exit.thenS];refine wpSIn_cond (t:=true) (by simp [Act.eval,Array.replicate]) ?_;simp only [zC9];refine wpSIn_of_wpIn rfl ?_
 have R0:AR Tryz.prog GG N ⟨AG 9 [(0,.ref 5 0),(1,.ref 6 0),(2,.ref 7 0),(3,.cst Dj)],(Bs o q tree tree.length pos 0++[oC [.nils],oC [.msl 0 1 0 tree.length],oC [.i 0]])⟩ ρ0 { tmps:=#[p1,p2,p3]++((((Array.replicate 6 undef).setIfInBounds 1 (Value.iface 30 (Value.int IntKind.i64 280))).setIfInBounds 0 (Value.iface 30 (Value.int IntKind.i64 280))).setIfInBounds 2 (Value.iface 30 (Value.int IntKind.i64 280))).setIfInBounds 3 (Value.bool true),defers:=[] } w0:=by
  refine ⟨HR,rfl,fun j hj=>?_⟩;have hj:j<9:=hj
  match j,hj with
  | 0,_=>exact e1
  | 1,_=>exact e2
  | 2,_=>exact e3
  | 3,_=>exact ⟨rfl,rfl⟩
  | 4,_=>trivial
  | 5,_=>trivial
  | 6,_=>trivial
  | 7,_=>trivial
  | 8,_=>trivial
  | j+9,hj=>exact absurd hj (by omega)
 refine wt (L:=8) HC.x [2,3] iK uu [([(2,5),(3,6)],(gb o q tree pos))] [] [0,1,2,3,4,5,6,7] [] ((H0.t |>.t |>.t |>.t |>.g (Eq.refl (gb o q tree pos)))) H0 (AG 9 []) (Bs o q tree tree.length pos 0++[oC [.nils],oC [.nils],oC [.i 280]]) R0 (by kernel_rfl) fun ρ1 a1 w1 R1 DX Hu IL=>?_
 simp [bodyPostS,results,Tryz.results36,Hu,go_sem,Dj];exact ⟨ρ1,R1.hr,DX,IL⟩
def iJ:ST:=.rd 0 (.rd 1 (.ef 2 (.ef 3 (.ef 4 (.fin [] []) (.no)) (.no)) (.no)))
theorem ut:Bv (Aj Tryz.f36 2) [2,3] iJ:=by unfold Bv;kernel_rfl
def ga (o:List Int)(q:AA)(tree:List (Int×Int))(pos:List Int)(x:Au)(t:List Au):St:=⟨(AG 9 []),(Bs o q tree tree.length pos 0++[oC [.nils],oC [.nils],oC [.i 280],some (.arr 3 ((x::t).length) (AP (fun (x:(List Int)×(List Int)×Int)=>[.ints x.1,.ints x.2.1,.i x.2.2]) (x::t)))])⟩
theorem zFH {q:AA}{pos:List Int}{tree:List (Int×Int)}{o:List Int}{x:Au}{t:List Au}{N:Nat -> Prop}{ρ0:List AH}{w0:World}{p1 p2 p3:Value}(HR:A1 Tryz.prog GG N (Bs o q tree tree.length pos 0++[oC [.msl 8 3 0 ((x::t).length)],oC [.msl 0 1 0 tree.length],oC [.i 0],some (.arr 3 ((x::t).length) (AP (fun (x:(List Int)×(List Int)×Int)=>[.ints x.1,.ints x.2.1,.i x.2.2]) (x::t)))]) ρ0 w0)(e1:AK (MS N (Bs o q tree tree.length pos 0++[oC [.msl 8 3 0 ((x::t).length)],oC [.msl 0 1 0 tree.length],oC [.i 0],some (.arr 3 ((x::t).length) (AP (fun (x:(List Int)×(List Int)×Int)=>[.ints x.1,.ints x.2.1,.i x.2.2]) (x::t)))]) ρ0) w0 (.ref 5 0) ρ0 p1)(e2:AK (MS N (Bs o q tree tree.length pos 0++[oC [.msl 8 3 0 ((x::t).length)],oC [.msl 0 1 0 tree.length],oC [.i 0],some (.arr 3 ((x::t).length) (AP (fun (x:(List Int)×(List Int)×Int)=>[.ints x.1,.ints x.2.1,.i x.2.2]) (x::t)))]) ρ0) w0 (.ref 6 0) ρ0 p2)(e3:AK (MS N (Bs o q tree tree.length pos 0++[oC [.msl 8 3 0 ((x::t).length)],oC [.msl 0 1 0 tree.length],oC [.i 0],some (.arr 3 ((x::t).length) (AP (fun (x:(List Int)×(List Int)×Int)=>[.ints x.1,.ints x.2.1,.i x.2.2]) (x::t)))]) ρ0) w0 (.ref 7 0) ρ0 p3):
 CallsDIn Fence.wide (0-1) Tryz.prog 36 #[p1,p2,p3] (.panicking (pan Dj)) w0 fun e u' w'=>(∃ v,e= .returned v)/\ u'= .panicking [{ v:=Dj,recovered:=true }]/\ ∃ ρ',A1 Tryz.prog GG N (Bs o q tree tree.length pos 0++[oC [.nils],oC [.nils],oC [.i 280],some (.arr 3 ((x::t).length) (AP (fun (x:(List Int)×(List Int)×Int)=>[.ints x.1,.ints x.2.1,.i x.2.2]) (x::t)))]) ρ' w'/\ A5 (Bs o q tree tree.length pos 0++[oC [.msl 8 3 0 ((x::t).length)],oC [.msl 0 1 0 tree.length],oC [.i 0],some (.arr 3 ((x::t).length) (AP (fun (x:(List Int)×(List Int)×Int)=>[.ints x.1,.ints x.2.1,.i x.2.2]) (x::t)))]) ρ0 w0 (Bs o q tree tree.length pos 0++[oC [.nils],oC [.nils],oC [.i 280],some (.arr 3 ((x::t).length) (AP (fun (x:(List Int)×(List Int)×Int)=>[.ints x.1,.ints x.2.1,.i x.2.2]) (x::t)))]) ρ' w'/\ CI 8 ρ0 ρ':=by
 refine callsDIn_of_wpSIn Tryz.func36 rfl trivial fun c₀ cs hu=>?_
 apply wpSIn_seq;apply zHe;simp [wpOpsSIn,go_sem,recoverD,hu,Tryz.ntmps36,Exit.thenS,Fence.wide,pan,Dj];apply wpSIn_seq;apply zHe;simp [wpOpsSIn,go_sem,Exit.thenS];refine wpSIn_cond (t:=true) (by simp [Act.eval,Array.replicate]) ?_;simp only [zC9];refine wpSIn_of_wpIn rfl ?_
 have R0:AR Tryz.prog GG N ⟨AG 9 [(0,.ref 5 0),(1,.ref 6 0),(2,.ref 7 0),(3,.cst Dj)],(Bs o q tree tree.length pos 0++[oC [.msl 8 3 0 ((x::t).length)],oC [.msl 0 1 0 tree.length],oC [.i 0],some (.arr 3 ((x::t).length) (AP (fun (x:(List Int)×(List Int)×Int)=>[.ints x.1,.ints x.2.1,.i x.2.2]) (x::t)))])⟩ ρ0 { tmps:=#[p1,p2,p3]++((((Array.replicate 6 undef).setIfInBounds 1 (Value.iface 30 (Value.int IntKind.i64 280))).setIfInBounds 0 (Value.iface 30 (Value.int IntKind.i64 280))).setIfInBounds 2 (Value.iface 30 (Value.int IntKind.i64 280))).setIfInBounds 3 (Value.bool true),defers:=[] } w0:=by
  refine ⟨HR,rfl,fun j hj=>?_⟩;have hj:j<9:=hj
  match j,hj with
  | 0,_=>exact e1
  | 1,_=>exact e2
  | 2,_=>exact e3
  | 3,_=>exact ⟨rfl,rfl⟩
  | 4,_=>trivial
  | 5,_=>trivial
  | 6,_=>trivial
  | 7,_=>trivial
  | 8,_=>trivial
  | j+9,hj=>exact absurd hj (by omega)
 refine wt (L:=8) HC.x [2,3] iJ ut [([(2,5),(3,6)],(ga o q tree pos x t))] [] [0,1,2,3,4,5,6,7,8] [] ((H0.t |>.t |>.t |>.t |>.g (Eq.refl (ga o q tree pos x t)))) H0 (AG 9 []) (Bs o q tree tree.length pos 0++[oC [.nils],oC [.nils],oC [.i 280],some (.arr 3 ((x::t).length) (AP (fun (x:(List Int)×(List Int)×Int)=>[.ints x.1,.ints x.2.1,.i x.2.2]) (x::t)))]) R0 (by kernel_rfl) fun ρ1 a1 w1 R1 DX Hu IL=>?_
 simp [bodyPostS,results,Tryz.results36,Hu,go_sem,Dj];exact ⟨ρ1,R1.hr,DX,IL⟩
theorem ph (p1 p2 p3:Value)(w0:World):CallsDIn Fence.wide (0-1) Tryz.prog 36 #[p1,p2,p3] .returning w0 fun e u' w'=>(∃ v,e= .returned v)/\ u'= .returning/\ w'=w0:=by
 refine callsDIn_of_wpSIn Tryz.func36 rfl trivial fun c₀ cs hu=>?_
 apply wpSIn_seq;apply zHe;simp [wpOpsSIn,go_sem,recoverD,hu,Tryz.ntmps36,Exit.thenS,Fence.wide];apply wpSIn_seq;apply zHe;simp [wpOpsSIn,go_sem,Exit.thenS];refine wpSIn_cond (t:=false) (by simp [Act.eval,Array.replicate]) ?_;simp only [zCe,zGQ];refine wpSIn_of_wpIn rfl (wpIn_skip ?_);cases c₀
 simp_all [bodyPostS,results,Tryz.results36,go_sem]
def iF:ST:=.rd 0 (.rd 1 (.ef 2 (.ef 3 (.ef 4 (.fin [] [6,7,8]) (.no)) (.no)) (.no)))
theorem ui:Bv (Aj Tryz.f26 9) [2] iF:=by unfold Bv;kernel_rfl
def gW (o:List Int)(q:AA)(tree:List (Int×Int))(pos:List Int):St:=⟨(AG 33 [(6,.ref 5 0),(7,.ref 6 0),(8,.ref 7 0)]),(Bs o q tree tree.length pos 0++[oC [.nils],oC [.msl 0 1 0 tree.length],oC [.i 0]])⟩
theorem v8 {q:AA}{pos:List Int}{tree:List (Int×Int)}{o:List Int}{N:Nat -> Prop}{ρs ρ0:List AH}{ws w0:World}{a0:Act}{D:Nat}{p1 p2 p3:Value}(PV:A1 Tryz.prog GG N [] ρs ws)(Kn:A5 [] ρs ws (Bs o q tree tree.length pos 0++[oC [.nils],oC [.msl 0 1 0 tree.length],oC [.i 0]]) ρ0 w0)(R0:AR Tryz.prog GG N ⟨AG 33 [(6,.ref 5 0),(7,.ref 6 0),(8,.ref 7 0)],(Bs o q tree tree.length pos 0++[oC [.nils],oC [.msl 0 1 0 tree.length],oC [.i 0]])⟩ ρ0 a0 w0)(hD:w0.heap[D]? =some (.deferred (some [])))(C6:GG.ng<=D)(IU:ws.heap.size<=D)(g2:tree.length=o.length)(Cm:a0.defers= [{ target:=.collected D,args:=#[] },{ target:=.fn (.func 36) #[p1,p2,p3],args:=#[] }]):
 (Code.seq (.region 9 (Aj Tryz.f26 9) true) .ret).wpIn Fence.wide 0 Tryz.prog (bodyPostM Fence.wide 0 Tryz.prog Tryz.f26 fun e w'=>∃ v,e= .returned v/\ Ci Tryz.prog GG N [] ρs ws true (.tup 3 (L1 [.sl 3 (([]:List Au).length) (AP (fun (x:(List Int)×(List Int)×Int)=>[.ints x.1,.ints x.2.1,.i x.2.2]) ([]:List Au)),.ints o,.i 0])) [] v w') a0 w0:=by
 refine zHM ?_;refine wt (L:=0) HC.x [2] iF ui [([(2,5)],(gW o q tree pos))] [6,7,8] [0,5,6,7] [] ((H0.t |>.t |>.t |>.g (Eq.refl (gW o q tree pos)))) H0 (AG 33 [(6,.ref 1 0),(7,.ref 2 0),(8,.ref 3 0)]) ([oI o,oC [.nils],oC [.msl 0 1 0 tree.length],oC [.i 0]]:DH) R0 (by kernel_rfl) fun ρ1 a1 w1 R1 DX Hu IL=>?_
 refine wpIn_ret ?_
 show LeavesInM _ _ _ _ _ _ a1.defers .returning w1
 rw [Hu,Cm];refine W4 (by simp) (pP R0.hr DX hD) (fun args W=>M5 Tryz.func36 (by kernel_rfl) (by kernel_rfl) args W) fun W hs=>?_
 refine (ph p1 p2 p3 W).mono ?_;rintro e u' w' ⟨⟨v,rfl⟩,rfl,rfl⟩;have R2:=R1.shut (OI (by kernel_rfl)) C6 hs;obtain ⟨v,h1,h2⟩:=YD (fn:=Tryz.f26) R2 PV ((Kn.trans DX).shut (hs.mono fun _ _ h=>⟨zA0 IU h.1,h.2⟩)) [0] (H0.g g2) [.nils,.ints o,.i 0] (AS.tupL (l:=[.nils,.ints o,.i 0]) (l':=[.sl 3 (([]:List Au).length) (AP (fun (x:(List Int)×(List Int)×Int)=>[.ints x.1,.ints x.2.1,.i x.2.2]) ([]:List Au)),.ints o,.i 0]) rfl ⟨(AS.sl_nil _ _),A3,A3,trivial⟩) (by kernel_rfl) (by kernel_rfl);exact ⟨v,h1,v,rfl,h2⟩
theorem xD {q:AA}{pos:List Int}{tree:List (Int×Int)}{o:List Int}{N:Nat -> Prop}{ρs ρ0:List AH}{ws w0:World}{a0:Act}{D:Nat}{p1 p2 p3:Value}(PV:A1 Tryz.prog GG N [] ρs ws)(Kn:A5 [] ρs ws (Bs o q tree tree.length pos 0++[oC [.nils],oC [.msl 0 1 0 tree.length],oC [.i 0]]) ρ0 w0)(R0:AR Tryz.prog GG N ⟨AG 33 [(6,.ref 5 0),(7,.ref 6 0),(8,.ref 7 0)],(Bs o q tree tree.length pos 0++[oC [.nils],oC [.msl 0 1 0 tree.length],oC [.i 0]])⟩ ρ0 a0 w0)(hD:w0.heap[D]? =some (.deferred (some [])))(C6:GG.ng<=D)(IU:ws.heap.size<=D)(F0:A9 (MS N (Bs o q tree tree.length pos 0++[oC [.nils],oC [.msl 0 1 0 tree.length],oC [.i 0]]) ρ0) w0 ρ0 [.ref 5 0,.ref 6 0,.ref 7 0] #[p1,p2,p3]):
 LeavesInM Fence.wide 0 Tryz.prog Tryz.f26 a0.tmps (fun e w'=>∃ v,e= .returned v/\ Ci Tryz.prog GG N [] ρs ws true (.tup 3 (L1 [.sl 3 (([]:List Au).length) (AP (fun (x:(List Int)×(List Int)×Int)=>[.ints x.1,.ints x.2.1,.i x.2.2]) ([]:List Au)),.ints ([]:List Int),.i 280])) [] v w') [{ target:=.collected D,args:=#[] },{ target:=.fn (.func 36) #[p1,p2,p3],args:=#[] }] (.panicking (pan Dj)) w0:=by
 refine W4 (by simp) hD (fun args W=>M5 Tryz.func36 (by kernel_rfl) (by kernel_rfl) args W) fun W hs=>?_
 have Rx:AR Tryz.prog GG N ⟨AG 33 [(6,.ref 5 0),(7,.ref 6 0),(8,.ref 7 0)]++[.ref 5 0,.ref 6 0,.ref 7 0],(Bs o q tree tree.length pos 0++[oC [.nils],oC [.msl 0 1 0 tree.length],oC [.i 0]])⟩ ρ0 { a0 with tmps:=a0.tmps++#[p1,p2,p3] } w0:=⟨R0.hr,A9.append R0.fr F0⟩;have Ry:=Rx.shut (OI (by kernel_rfl)) C6 hs;obtain ⟨f1,f2⟩:=A9.split Ry.fr R0.fr.1;have R2:AR Tryz.prog GG N ⟨AG 33 [(6,.ref 5 0),(7,.ref 6 0),(8,.ref 7 0)],(Bs o q tree tree.length pos 0++[oC [.nils],oC [.msl 0 1 0 tree.length],oC [.i 0]])⟩ ρ0 a0 W:=⟨Ry.hr,f1⟩;refine (zFI R2.hr (f2.at 0) (f2.at 1) (f2.at 2)).mono ?_;rintro e u' w' ⟨⟨v,rfl⟩,rfl,ρ',FN,DG,bT⟩;have R3:AR Tryz.prog GG N ⟨AG 33 [(6,.ref 5 0),(7,.ref 6 0),(8,.ref 7 0)],(Bs o q tree tree.length pos 0++[oC [.nils],oC [.nils],oC [.i 280]])⟩ ρ' a0 w':=⟨FN,UT (L:=8) R2.fr (by kernel_rfl) FN DG bT⟩;obtain ⟨v,h1,h2⟩:=YD (fn:=Tryz.f26) R3 PV ((Kn.shut (hs.mono fun _ _ h=>⟨zA0 IU h.1,h.2⟩)).trans DG) [] H0 [.nils,.nils,.i 280] (AS.tupL (l:=[.nils,.nils,.i 280]) (l':=[.sl 3 (([]:List Au).length) (AP (fun (x:(List Int)×(List Int)×Int)=>[.ints x.1,.ints x.2.1,.i x.2.2]) ([]:List Au)),.ints ([]:List Int),.i 280]) rfl ⟨(AS.sl_nil _ _),AS.ints_nil,A3,trivial⟩) (by kernel_rfl) (by kernel_rfl);exact ⟨v,h1,v,rfl,h2⟩
def iE:ST:=.rd 0 (.rd 1 (.ef 2 (.ef 3 (.ef 4 (.fin [] [6,7,8]) (.no)) (.no)) (.no)))
theorem uh:Bv (Aj Tryz.f26 9) [2] iE:=by unfold Bv;kernel_rfl
def gV (o:List Int)(q:AA)(tree:List (Int×Int))(pos:List Int)(x:Au)(t:List Au):St:=⟨(AG 33 [(6,.ref 5 0),(7,.ref 6 0),(8,.ref 7 0)]),(Bs o q tree tree.length pos 0++[oC [.msl 8 3 0 ((x::t).length)],oC [.msl 0 1 0 tree.length],oC [.i 0],some (.arr 3 ((x::t).length) (AP (fun (x:(List Int)×(List Int)×Int)=>[.ints x.1,.ints x.2.1,.i x.2.2]) (x::t)))])⟩
theorem v7 {q:AA}{pos:List Int}{tree:List (Int×Int)}{o:List Int}(x:Au)(t:List Au){N:Nat -> Prop}{ρs ρ0:List AH}{ws w0:World}{a0:Act}{D:Nat}{p1 p2 p3:Value}(PV:A1 Tryz.prog GG N [] ρs ws)(Kn:A5 [] ρs ws (Bs o q tree tree.length pos 0++[oC [.msl 8 3 0 ((x::t).length)],oC [.msl 0 1 0 tree.length],oC [.i 0],some (.arr 3 ((x::t).length) (AP (fun (x:(List Int)×(List Int)×Int)=>[.ints x.1,.ints x.2.1,.i x.2.2]) (x::t)))]) ρ0 w0)(R0:AR Tryz.prog GG N ⟨AG 33 [(6,.ref 5 0),(7,.ref 6 0),(8,.ref 7 0)],(Bs o q tree tree.length pos 0++[oC [.msl 8 3 0 ((x::t).length)],oC [.msl 0 1 0 tree.length],oC [.i 0],some (.arr 3 ((x::t).length) (AP (fun (x:(List Int)×(List Int)×Int)=>[.ints x.1,.ints x.2.1,.i x.2.2]) (x::t)))])⟩ ρ0 a0 w0)(hD:w0.heap[D]? =some (.deferred (some [])))(C6:GG.ng<=D)(IU:ws.heap.size<=D)(g2:tree.length=o.length)(Cm:a0.defers= [{ target:=.collected D,args:=#[] },{ target:=.fn (.func 36) #[p1,p2,p3],args:=#[] }]):
 (Code.seq (.region 9 (Aj Tryz.f26 9) true) .ret).wpIn Fence.wide 0 Tryz.prog (bodyPostM Fence.wide 0 Tryz.prog Tryz.f26 fun e w'=>∃ v,e= .returned v/\ Ci Tryz.prog GG N [] ρs ws true (.tup 3 (L1 [.sl 3 ((x::t).length) (AP (fun (x:(List Int)×(List Int)×Int)=>[.ints x.1,.ints x.2.1,.i x.2.2]) (x::t)),.ints o,.i 0])) [] v w') a0 w0:=by
 refine zHM ?_;refine wt (L:=0) HC.x [2] iE uh [([(2,5)],(gV o q tree pos x t))] [6,7,8] [0,5,6,7,8] [] ((H0.t |>.t |>.t |>.g (Eq.refl (gV o q tree pos x t)))) H0 (AG 33 [(6,.ref 1 0),(7,.ref 2 0),(8,.ref 3 0)]) ([oI o,oC [.msl 4 3 0 ((x::t).length)],oC [.msl 0 1 0 tree.length],oC [.i 0],some (.arr 3 ((x::t).length) (AP (fun (x:(List Int)×(List Int)×Int)=>[.ints x.1,.ints x.2.1,.i x.2.2]) (x::t)))]:DH) R0 (by kernel_rfl) fun ρ1 a1 w1 R1 DX Hu IL=>?_
 refine wpIn_ret ?_
 show LeavesInM _ _ _ _ _ _ a1.defers .returning w1
 rw [Hu,Cm];refine W4 (by simp) (pP R0.hr DX hD) (fun args W=>M5 Tryz.func36 (by kernel_rfl) (by kernel_rfl) args W) fun W hs=>?_
 refine (ph p1 p2 p3 W).mono ?_;rintro e u' w' ⟨⟨v,rfl⟩,rfl,rfl⟩;have R2:=R1.shut (OI (by kernel_rfl)) C6 hs;obtain ⟨v,h1,h2⟩:=YD (fn:=Tryz.f26) R2 PV ((Kn.trans DX).shut (hs.mono fun _ _ h=>⟨zA0 IU h.1,h.2⟩)) [0,4] (H0.g g2 |>.g (Eq.refl ((x::t).length))) [.sl 3 ((x::t).length) (AP (fun (x:(List Int)×(List Int)×Int)=>[.ints x.1,.ints x.2.1,.i x.2.2]) (x::t)),.ints o,.i 0] (AS.tupL (l:=[.sl 3 ((x::t).length) (AP (fun (x:(List Int)×(List Int)×Int)=>[.ints x.1,.ints x.2.1,.i x.2.2]) (x::t)),.ints o,.i 0]) (l':=[.sl 3 ((x::t).length) (AP (fun (x:(List Int)×(List Int)×Int)=>[.ints x.1,.ints x.2.1,.i x.2.2]) (x::t)),.ints o,.i 0]) rfl ⟨A3,A3,A3,trivial⟩) (by kernel_rfl) (by kernel_rfl);exact ⟨v,h1,v,rfl,h2⟩
theorem xC {q:AA}{pos:List Int}{tree:List (Int×Int)}{o:List Int}(x:Au)(t:List Au){N:Nat -> Prop}{ρs ρ0:List AH}{ws w0:World}{a0:Act}{D:Nat}{p1 p2 p3:Value}(PV:A1 Tryz.prog GG N [] ρs ws)(Kn:A5 [] ρs ws (Bs o q tree tree.length pos 0++[oC [.msl 8 3 0 ((x::t).length)],oC [.msl 0 1 0 tree.length],oC [.i 0],some (.arr 3 ((x::t).length) (AP (fun (x:(List Int)×(List Int)×Int)=>[.ints x.1,.ints x.2.1,.i x.2.2]) (x::t)))]) ρ0 w0)(R0:AR Tryz.prog GG N ⟨AG 33 [(6,.ref 5 0),(7,.ref 6 0),(8,.ref 7 0)],(Bs o q tree tree.length pos 0++[oC [.msl 8 3 0 ((x::t).length)],oC [.msl 0 1 0 tree.length],oC [.i 0],some (.arr 3 ((x::t).length) (AP (fun (x:(List Int)×(List Int)×Int)=>[.ints x.1,.ints x.2.1,.i x.2.2]) (x::t)))])⟩ ρ0 a0 w0)(hD:w0.heap[D]? =some (.deferred (some [])))(C6:GG.ng<=D)(IU:ws.heap.size<=D)(F0:A9 (MS N (Bs o q tree tree.length pos 0++[oC [.msl 8 3 0 ((x::t).length)],oC [.msl 0 1 0 tree.length],oC [.i 0],some (.arr 3 ((x::t).length) (AP (fun (x:(List Int)×(List Int)×Int)=>[.ints x.1,.ints x.2.1,.i x.2.2]) (x::t)))]) ρ0) w0 ρ0 [.ref 5 0,.ref 6 0,.ref 7 0] #[p1,p2,p3]):
 LeavesInM Fence.wide 0 Tryz.prog Tryz.f26 a0.tmps (fun e w'=>∃ v,e= .returned v/\ Ci Tryz.prog GG N [] ρs ws true (.tup 3 (L1 [.sl 3 (([]:List Au).length) (AP (fun (x:(List Int)×(List Int)×Int)=>[.ints x.1,.ints x.2.1,.i x.2.2]) ([]:List Au)),.ints ([]:List Int),.i 280])) [] v w') [{ target:=.collected D,args:=#[] },{ target:=.fn (.func 36) #[p1,p2,p3],args:=#[] }] (.panicking (pan Dj)) w0:=by
 refine W4 (by simp) hD (fun args W=>M5 Tryz.func36 (by kernel_rfl) (by kernel_rfl) args W) fun W hs=>?_
 have Rx:AR Tryz.prog GG N ⟨AG 33 [(6,.ref 5 0),(7,.ref 6 0),(8,.ref 7 0)]++[.ref 5 0,.ref 6 0,.ref 7 0],(Bs o q tree tree.length pos 0++[oC [.msl 8 3 0 ((x::t).length)],oC [.msl 0 1 0 tree.length],oC [.i 0],some (.arr 3 ((x::t).length) (AP (fun (x:(List Int)×(List Int)×Int)=>[.ints x.1,.ints x.2.1,.i x.2.2]) (x::t)))])⟩ ρ0 { a0 with tmps:=a0.tmps++#[p1,p2,p3] } w0:=⟨R0.hr,A9.append R0.fr F0⟩;have Ry:=Rx.shut (OI (by kernel_rfl)) C6 hs;obtain ⟨f1,f2⟩:=A9.split Ry.fr R0.fr.1;have R2:AR Tryz.prog GG N ⟨AG 33 [(6,.ref 5 0),(7,.ref 6 0),(8,.ref 7 0)],(Bs o q tree tree.length pos 0++[oC [.msl 8 3 0 ((x::t).length)],oC [.msl 0 1 0 tree.length],oC [.i 0],some (.arr 3 ((x::t).length) (AP (fun (x:(List Int)×(List Int)×Int)=>[.ints x.1,.ints x.2.1,.i x.2.2]) (x::t)))])⟩ ρ0 a0 W:=⟨Ry.hr,f1⟩;refine (zFH R2.hr (f2.at 0) (f2.at 1) (f2.at 2)).mono ?_;rintro e u' w' ⟨⟨v,rfl⟩,rfl,ρ',FN,DG,bT⟩;have R3:AR Tryz.prog GG N ⟨AG 33 [(6,.ref 5 0),(7,.ref 6 0),(8,.ref 7 0)],(Bs o q tree tree.length pos 0++[oC [.nils],oC [.nils],oC [.i 280],some (.arr 3 ((x::t).length) (AP (fun (x:(List Int)×(List Int)×Int)=>[.ints x.1,.ints x.2.1,.i x.2.2]) (x::t)))])⟩ ρ' a0 w':=⟨FN,UT (L:=8) R2.fr (by kernel_rfl) FN DG bT⟩;obtain ⟨v,h1,h2⟩:=YD (fn:=Tryz.f26) R3 PV ((Kn.shut (hs.mono fun _ _ h=>⟨zA0 IU h.1,h.2⟩)).trans DG) [] H0 [.nils,.nils,.i 280] (AS.tupL (l:=[.nils,.nils,.i 280]) (l':=[.sl 3 (([]:List Au).length) (AP (fun (x:(List Int)×(List Int)×Int)=>[.ints x.1,.ints x.2.1,.i x.2.2]) ([]:List Au)),.ints ([]:List Int),.i 280]) rfl ⟨(AS.sl_nil _ _),AS.ints_nil,A3,trivial⟩) (by kernel_rfl) (by kernel_rfl);exact ⟨v,h1,v,rfl,h2⟩
def zB4 (q:AA)(tree:List (Int×Int)):DH:=[oC (AN q),oC [.nils],oC [.msl 4 1 0 tree.length],oC [.i 0],oI (List.replicate tree.length (0:Int))]
def W5 (l:List Au):KQ:=match l with
 | []=>.s0
 | x::t=>.s1 (x::t).length (x::t)
theorem oR {n ln:Nat}: ∀ (l a:List Au),a.length+l.length<=BA -> Bq (Qy n ln) l (.s1 a.length a)=some (.s1 (a++l).length (a++l))
 | [],a,_=>by simp [Bq]
 | x::l,a,h=>by
  have h1:Qy n ln x (.s1 a.length a)=some (.s1 (a++[x]).length (a++[x])):=by
   have hl:a.length+1<=BA:=by simp at h;omega
   show de n ln x a.length a=_
   unfold de;rw [zAM ⟨rfl,hl⟩];simp
  simp only [Bq,h1,zAS];rw [oR l (a++[x]) (by simp at h ⊢;omega)];simp
theorem zDb {n ln:Nat}{l:List Au}(h:l.length<=BA):Bq (Qy n ln) (l.drop 0) .s0=some (W5 l):=by
 rw [zGN];cases l with
 | nil=>rfl
 | cons x t=>exact oR (n:=n) (ln:=ln) t [x] (by simp at h ⊢;omega)
theorem zDW {n:Nat}{q:AA}{pos:List Int}{tree:List (Int×Int)}{l:List Au}{out:Option Unit}{o:List Int}(A7:JW n q pos tree=some 0)(g0:((tree.length:Int):Int)=(tree.length:Int)/\ 0<=(tree.length:Int)/\ ((tree.length:Int):Int)<=1000000000000)(hy:MZ n (List.replicate tree.length (0:Int)) q tree tree.length pos=some (l,out,o))(g1:tree.length=o.length)(g2:l.length<=BA) 
 {N:Nat -> Prop} {ρ0:List AH} {a0:Act} {w0:World} (R0:AR Tryz.prog GG N ⟨AG 33 [(0,.agg 5 (L1 (AN q))),(1,.ints pos),(2,.sl 2 tree.length (AP BM tree))],[]⟩ ρ0 a0 w0) (Xn:a0.defers= []):
 (AX Tryz.f26).wpIn Fence.wide 0 Tryz.prog (bodyPostM Fence.wide 0 Tryz.prog Tryz.f26 fun e w'=>∃ v,e= .returned v/\ Ci Tryz.prog GG N [] ρ0 w0 true (.tup 3 (L1 [.sl 3 ((if out.isSome then l else []).length) (AP (fun (x:(List Int)×(List Int)×Int)=>[.ints x.1,.ints x.2.1,.i x.2.2]) (if out.isSome then l else [])),.ints (if out.isSome then o else []),.i (if out.isSome then 0 else 280)])) [] v w') a0 w0:=by
 refine zHM ?_;refine wr (L:=0) HC.x [1,2,3,6,7,8] [0,1,2,3] [] H0 H0 (AG 33 [(1,.ints pos),(2,.sl 2 tree.length (AP BM tree)),(3,.ref 0 0),(6,.ref 1 0),(7,.ref 2 0),(8,.ref 3 0)]) ([oC (AN q),oC [.nils],oC [.nils],oC [.i 0]]:DH) R0 (by kernel_rfl) (by kernel_rfl) fun ρ1 a1 w1 R1 DX Hu IL=>?_
 refine zHM (zHM ?_);refine wr (L:=0) HC.x [1,2,3,6,7,8] [0,1,2,3] [] ((H0.c (fb (fw A7) [oC (AN q),oC [.nils],oC [.nils],oC [.i 0]]) |>.t)) H0 (AG 33 [(1,.ints pos),(2,.sl 2 tree.length (AP BM tree)),(3,.ref 0 0),(6,.ref 1 0),(7,.ref 2 0),(8,.ref 3 0)]) ([oC (AN q),oC [.nils],oC [.nils],oC [.i 0]]:DH) R1 (by kernel_rfl) (by kernel_rfl) fun ρ2 a2 w2 R2 Ja UD mB=>?_
 refine zHM ?_;refine wr (L:=0) HC.x [1,2,3,6,7,8,15] [0,1,2,3] [] H0 H0 (AG 33 [(1,.ints pos),(2,.sl 2 tree.length (AP BM tree)),(3,.ref 0 0),(6,.ref 1 0),(7,.ref 2 0),(8,.ref 3 0),(15,.bool false)]) ([oC (AN q),oC [.nils],oC [.nils],oC [.i 0]]:DH) R2 (by kernel_rfl) (by kernel_rfl) fun ρ3 a3 w3 R3 Fr hd3 QO=>?_
 refine wpIn_cond_false (Bj R3 (.tmp 15)) (wpIn_skip ?_);have Ay:a3.tmps.size=33:=by simpa [AG] using R3.fr.1.symm
 refine zHM (rA (o0:=_) (o1:=_) rfl rfl rfl rfl rfl rfl rfl (by rw [Ay];decide) fun a4 ht4 LQ=>?_);have R4:=R3.idle 17 ht4 (by kernel_rfl);have F4:A9 (MS N [oC (AN q),oC [.nils],oC [.nils],oC [.i 0]] ρ3) w3 ρ3 [.ref 1 0,.ref 2 0,.ref 3 0] #[a3.tmps.getD 6 undef,a3.tmps.getD 7 undef,a3.tmps.getD 8 undef]:=⟨rfl,fun j hj=>match j,hj with | 0,_=>R3.fr.at 6 | 1,_=>R3.fr.at 7 | 2,_=>R3.fr.at 8 | j+3,hj=>absurd hj (by simp)⟩;refine zHM ?_;refine wr (L:=4) HC.x [1,2,3,6,7,8] [0,1,2,3,4] [] ((H0.g g0 |>.t)) H0 (AG 33 [(1,.ints pos),(2,.sl 2 tree.length (AP BM tree)),(3,.ref 0 0),(6,.ref 1 0),(7,.ref 2 0),(8,.ref 3 0)]) ([oC (AN q),oC [.nils],oC [.msl 4 1 0 tree.length],oC [.i 0],oI (List.replicate tree.length (0:Int))]:DH) R4 (by kernel_rfl) (by kernel_rfl) fun ρ5 a5 w5 R5 ZZ hd5 zb=>?_
 have F5:=UT (L:=4) F4 (by kernel_rfl) R5.hr ZZ zb;refine zHM (zHM ?_);refine wr (L:=4) HC.x [6,7,8,25] [0,1,2,3,4,5,6,7,8] [] ((H0.c (em (zF q pos tree tree.length (List.replicate tree.length (0:Int)) (rfl:lm n q pos tree tree.length (List.replicate tree.length (0:Int))=some ())) [4] (zB4 q tree)))) H0 (AG 33 [(6,.ref 1 0),(7,.ref 2 0),(8,.ref 3 0),(25,.fn 56 4 (L1 [.ref 5 0,.ref 6 0,.ref 7 0,.ref 8 0]))]) ([oC (AN q),oC [.nils],oC [.msl 4 1 0 tree.length],oC [.i 0],oI (List.replicate tree.length (0:Int)),oC (AN q),oC [.sl 2 tree.length (AP BM tree)],oC [.msl 4 1 0 tree.length],oC [.ints pos]]:DH) R5 (by kernel_rfl) (by kernel_rfl) fun ρ6 a6 w6 R6 ZY UC za=>?_
 have F6:=UT (L:=4) F5 (by kernel_rfl) R6.hr ZY za
 have s7:A0 0 ⟨AG 33 [(6,.ref 1 0),(7,.ref 2 0),(8,.ref 3 0),(25,.fn 56 4 (L1 [.ref 5 0,.ref 6 0,.ref 7 0,.ref 8 0]))]++[.ref 1 0,.ref 2 0,.ref 3 0],[oC (AN q),oC [.nils],oC [.msl 4 1 0 tree.length],oC [.i 0],oI (List.replicate tree.length (0:Int)),oC (AN q),oC [.sl 2 tree.length (AP BM tree)],oC [.msl 4 1 0 tree.length],oC [.ints pos]]⟩ ⟨AG 33 [(6,.ref 5 0),(7,.ref 6 0),(8,.ref 7 0),(25,.fn 56 4 (L1 [.ref 1 0,.ref 2 0,.ref 3 0,.ref 4 0]))]++[.ref 5 0,.ref 6 0,.ref 7 0],[oI (List.replicate tree.length (0:Int)),oC (AN q),oC [.sl 2 tree.length (AP BM tree)],oC [.msl 0 1 0 tree.length],oC [.ints pos],oC [.nils],oC [.msl 0 1 0 tree.length],oC [.i 0]]⟩:=by
  have e:FL [4,5,6,7,8,1,2,3] ⟨AG 33 [(6,.ref 1 0),(7,.ref 2 0),(8,.ref 3 0),(25,.fn 56 4 (L1 [.ref 5 0,.ref 6 0,.ref 7 0,.ref 8 0]))]++[.ref 1 0,.ref 2 0,.ref 3 0],[oC (AN q),oC [.nils],oC [.msl 4 1 0 tree.length],oC [.i 0],oI (List.replicate tree.length (0:Int)),oC (AN q),oC [.sl 2 tree.length (AP BM tree)],oC [.msl 4 1 0 tree.length],oC [.ints pos]]⟩=⟨AG 33 [(6,.ref 5 0),(7,.ref 6 0),(8,.ref 7 0),(25,.fn 56 4 (L1 [.ref 1 0,.ref 2 0,.ref 3 0,.ref 4 0]))]++[.ref 5 0,.ref 6 0,.ref 7 0],[oI (List.replicate tree.length (0:Int)),oC (AN q),oC [.sl 2 tree.length (AP BM tree)],oC [.msl 0 1 0 tree.length],oC [.ints pos],oC [.nils],oC [.msl 0 1 0 tree.length],oC [.i 0]]⟩:=by kernel_rfl
  rw [←e];exact A0.compE [4,5,6,7,8,1,2,3] (by kernel_rfl)
 obtain ⟨ρx,Rx,Fx,iR,_⟩:=A0.both s7 (by kernel_rfl) R6 F6;obtain ⟨ρ7,R7,F7,iW,_⟩:=A0.both (A0.ros (L:=0) (fr:=AG 33 [(6,.ref 5 0),(7,.ref 6 0),(8,.ref 7 0),(25,.fn 56 4 (L1 [.ref 1 0,.ref 2 0,.ref 3 0,.ref 4 0]))]++[.ref 5 0,.ref 6 0,.ref 7 0]) (h:=[oI (List.replicate tree.length (0:Int)),oC (AN q),oC [.sl 2 tree.length (AP BM tree)],oC [.msl 0 1 0 tree.length],oC [.ints pos],oC [.nils],oC [.msl 0 1 0 tree.length],oC [.i 0]]) (h':=Bs (List.replicate tree.length (0:Int)) q tree tree.length pos 0++[oC [.nils],oC [.msl 0 1 0 tree.length],oC [.i 0]]) [1,2,3,4] (by kernel_rfl) (by kernel_rfl)) rfl Rx Fx;refine wpIn_block ?_;have HY:YC Tryz.prog GG Dj 56 (fun l=>.yl l::(List.range 4).map (L1 [.ref 1 0,.ref 2 0,.ref 3 0,.ref 4 0])) (fun _=>Bs (List.replicate tree.length (0:Int)) q tree tree.length pos 0) (l.map KR) (out.map ll) (fun _=>Bs o q tree tree.length pos 0):=yu _ _ _ _ _ (l,out,o) hy;refine wW (KK:=8) (T:=[oC [.nils],oC [.msl 0 1 0 tree.length],oC [.i 0]]) (J:=fun i h=>∃ s,Bq (Qy n tree.length) (l.drop i) s=some (W5 l)/\ h=Qx tree.length s) R7 (by kernel_rfl) HY rfl (by kernel_rfl) (by kernel_rfl) (fun x hx=>by obtain ⟨z,_,rfl⟩:=zDA.1 hx;rfl) (by kernel_rfl) (show 5<=8 by decide) ⟨.s0,zDb g2,rfl⟩ (fun i h=>by rintro ⟨s,_,rfl⟩;cases s <;> exact ⟨_,rfl⟩) (vZ KR l (Qy n tree.length) (Qx tree.length) (fun BD=>AG 33 [(6,.ref 5 0),(7,.ref 6 0),(8,.ref 7 0),(25,.fn 56 4 (L1 [.ref 1 0,.ref 2 0,.ref 3 0,.ref 4 0])),(26,.agg 3 (L1 [.ints BD.1,.ints BD.2.1,.i BD.2.2]))]) (fun l B N x s r h=>zDY n tree.length l B N x s r h) (by kernel_rfl)) fun D T' ρ8 e w8 hj R8 iV zZ hD I3 he=>?_
 obtain ⟨s,hs,hT⟩:=hj;rw [zBC,zHm] at hs;cases hs;have eT:T'=(Qx tree.length (W5 l)).drop 5:=by rw [←hT];rfl
 subst eT;have Vh:=(((((((DX.trans Ja).trans Fr).trans ZZ).trans ZY).trans iR).trans iW).trans iV);have C6:GG.ng<=D:=zA0 (GG.lo _ R7.hr.gi) I3;have IU:w0.heap.size<=D:=zA0 (((((((DX.trans Ja).trans Fr).trans ZZ).trans ZY).trans iR).trans iW).upd.size) I3;have UC:a6.defers= [{ target:=.fn (.func 36) #[a3.tmps.getD 6 undef,a3.tmps.getD 7 undef,a3.tmps.getD 8 undef],args:=#[] }]:=by rw [UC,hd5,LQ,hd3,UD,Hu,Xn];simp [Act.eval]
 have R9:AR Tryz.prog GG N ⟨AG 33 [(6,.ref 5 0),(7,.ref 6 0),(8,.ref 7 0)],Bs o q tree tree.length pos 0++(Qx tree.length (W5 l)).drop 5⟩ ρ8 { a6 with defers:={ target:=.collected D,args:=#[] }::a6.defers } w8:=R8.forg [6,7,8] rfl (by kernel_rfl);have F9:=UT (L:=8) F7 (by kernel_rfl) R8.hr iV zZ;rcases he with ⟨v,rfl,ho⟩ | ⟨rfl,ho⟩
 ·have ho:out.isSome=true:=by simpa using ho
  simp only [ho,zC9];cases l with
  | nil=>exact v8 R0.hr Vh R9 hD C6 IU g1 (by show _::a6.defers=_;rw [UC])
  | cons x t=>exact v7 x t R0.hr Vh R9 hD C6 IU g1 (by show _::a6.defers=_;rw [UC])
 ·have ho:out.isSome=false:=by simpa using ho
  simp only [ho,zCe,zGQ]
  show LeavesInM _ _ _ _ _ _ (_::a6.defers) _ _
  rw [UC];cases l with
  | nil=>exact xD R0.hr Vh ⟨R9.hr,R9.fr⟩ hD C6 IU F9
  | cons x t=>exact xC x t R0.hr Vh ⟨R9.hr,R9.fr⟩ hD C6 IU F9
def Gu (n:Nat)(q:AA)(pos:List Int)(tree:List (Int×Int)):Option ((List ((List Int)×(List Int)×Int))×(List Int)×Int):= (JW n q pos tree).bind fun y1=> bif (y1 != 0) then some ([],[],y1) else if ((tree.length:Int):Int)=(tree.length:Int)/\ 0<=(tree.length:Int)/\ ((tree.length:Int):Int)<=1000000000000 then (MZ n (List.replicate tree.length (0:Int)) q tree tree.length pos).bind fun y=> if tree.length=y.2.2.length/\ y.1.length<=BA then some (if y.2.1.isSome then y.1 else [],if y.2.1.isSome then y.2.2 else [],if y.2.1.isSome then 0 else 280) else none else none
theorem X6 {n:Nat}{q:AA}{pos:List Int}{tree:List (Int×Int)}{r:(List ((List Int)×(List Int)×Int))×(List Int)×Int}(h:Gu n q pos tree=some r):EQ 26 [.agg 5 (L1 (AN q)),.ints pos,.sl 2 tree.length (AP BM tree)] [] (.tup 3 (L1 [.sl 3 r.1.length (AP (fun (x:(List Int)×(List Int)×Int)=>[.ints x.1,.ints x.2.1,.i x.2.2]) r.1),.ints r.2.1,.i r.2.2])) [] true:=by
 unfold Gu at h;obtain ⟨y1,A7,h⟩:=Fm h;rcases By h with ⟨c0,h⟩ | ⟨c0,h⟩
 ·refine zDX (n:=n) ?_;unfold dc db;rw [A7]
  show (bif (y1 != 0) then _ else _)=_
  rw [c0];exact h
 ·have e0:y1=0:=by simpa using c0
  subst e0;obtain ⟨g0,h⟩:=B0 h;obtain ⟨⟨l,out,o⟩,hy,h⟩:=Fm h;obtain ⟨⟨g1,g2⟩,h⟩:=B0 h;cases h;have cX:(Tryz.f26.name== "runtime.NumGoroutine")=false:=by kernel_rfl
  refine ⟨⟨Tryz.f26,Tryz.func26,by simpa using cX,by kernel_rfl⟩,fun N ρ w args HR Cn=>(zHv (n:=0)).1 (callsIn_of_wp_marks (c:=AX Tryz.f26) Tryz.func26 (by kernel_rfl) trivial ?_)⟩;refine zDW A7 g0 hy g1 g2 (N:=N) (ρ0:=ρ) ⟨HR,?_⟩ rfl;have Ak:([.agg 5 (L1 (AN q)),.ints pos,.sl 2 tree.length (AP BM tree)]:List DV).length=args.size:=Cn.1;have e:([.agg 5 (L1 (AN q)),.ints pos,.sl 2 tree.length (AP BM tree)]:List DV)++List.replicate (Tryz.f26.ntmps-([.agg 5 (L1 (AN q)),.ints pos,.sl 2 tree.length (AP BM tree)]:List DV).length) .any=AG 33 [(0,.agg 5 (L1 (AN q))),(1,.ints pos),(2,.sl 2 tree.length (AP BM tree))]:=by kernel_rfl
  rw [←e,Ak];exact A9.append Cn (A9.anys _ _ _ _)
end Go.Proofs.YtkjbblkieglmlaaGreatDoor
namespace Go.Proofs.YtkjbblkieglmlaaGreatDoor
open Go.RowKit
def MQ (q:AA)(g:List Int):Prop:=Gd q g/\ fN q g
inductive Tk (q:AA)(tree:List (Int×Int)):Option (Nat×List Nat) -> List Int -> Nat -> Nat -> List Int -> Nat -> List Au -> List Int -> Prop
 | prune {pos p2:List Int} {a d:Nat} {e:List Int} {v:Nat} {l:List Au} {e2:List Int}:a<tree.length -> (tree.getD a default).1=1 -> Bm q (tree.getD a default).2 pos -> PR q (con q (tree.getD a default).2) pos p2 -> Tk q tree none p2 (a+1) d e v l e2 -> Tk q tree none pos a d e v l (e2.set a (v:Int))
 | split {pos:List Int} {a d:Nat} {e:List Int} {v:Nat} {l:List Au} {e2:List Int} {c:Nat}:posOk q pos=true -> a<tree.length -> tree.getD a default=(2,(c:Int)) -> c<pos.length -> C7 pos=false -> 2<=(CR (pos.getD c 0) 0).length -> Tk q tree (some (c,CR (pos.getD c 0) 0)) pos (a+1) (d+1) e v l e2 -> Tk q tree none pos a d e v l (e2.set a (v:Int))
 | dead {pos:List Int} {a d:Nat} {e:List Int}:posOk q pos=true -> a<tree.length -> tree.getD a default=(3,0) -> C7 pos=true -> Tk q tree none pos a d e (a+1) [(List.replicate pos.length 0,[],(d:Int))] (e.set a ((a+1:Nat):Int))
 | done {pos:List Int} {a d:Nat} {e g:List Int}:posOk q pos=true -> a<tree.length -> tree.getD a default=(4,0) -> FW pos=some g -> MQ q g -> Tk q tree none pos a d e (a+1) [(pos,g,(d:Int))] (e.set a ((a+1:Nat):Int))
 | nil {pos:List Int} {a d:Nat} {e:List Int} {c:Nat}:Tk q tree (some (c,[])) pos a d e a [] e
 | cons {pos:List Int} {a d:Nat} {e:List Int} {c s v w:Nat} {ss:List Nat} {l l2:List Au} {e2 e3:List Int}:Tk q tree none (HO pos c s) a d e v l e2 -> Tk q tree (some (c,ss)) pos v d e2 w l2 e3 -> Tk q tree (some (c,s::ss)) pos a d e w (l++l2) e3
def RP (L a:Nat)(T:Nat -> List Au -> List Int -> Prop)(r:YR Au Int (List Int)):Prop:= r.2.2.length=L/\ r.1.length+a<=L/\ ∀ x,r.2.1=some x -> ∃ v:Nat,x=(v:Int)/\ a<=v/\ v<=L/\ r.1.length+a<=v/\ T v r.1 r.2.2
theorem RP.fail {L a:Nat}{T:Nat -> List Au -> List Int -> Prop}{l:List Au}{o:List Int}(ho:o.length=L)(hl:l.length+a<=L):RP L a T (l,none,o):=⟨ho,hl,fun x h=>by cases h⟩
theorem tJ {x:Int}{k:Nat}(h:Sm k x)(hk:k<=62):CR x k= []:=by
 unfold CR;rw [zHa];intro s hs;have:=zHb.1 hs;rw [h.hi this.1];decide
theorem iv {k x:Int}(h1:1<=k/\ k<=16)(h:Sm k.toNat x):Sm 16 x:=
 SI (by decide) (h.in64 (by omega)) fun i hi _=>h.hi (by omega)
section
variable {q:AA} {tree:List (Int×Int)} {pos0:List Int} {pos e:List Int} {a d:Nat}
theorem Wn {A:Nat -> Option (YR Au Int (List Int))}{r0:YR Au Int (List Int)}(ha:a<tree.length)(h1:Ev A r0)(h2:RP tree.length a (fun v l o=>a<v/\ Tk q tree none pos a d e v l (o.set a (v:Int))) r0): ∃ r,Ev (fun n=>yb (A n) fun y1 o1=>if (0<=(a:Int)/\ (a:Int)<(tree.length:Int))/\ 0+((a:Int).toNat)<o1.length then GR (CD n) pos a d e q tree tree.length pos0 n (.l1 (o1.set (0+((a:Int).toNat)) y1)) else none) r/\ RP tree.length a (fun v l o=>a<v/\ Tk q tree none pos a d e v l o) r:=by
 obtain ⟨l,out,o⟩:=r0;obtain ⟨N,hN⟩:=h1;obtain ⟨g1,g2,g3⟩:=h2;cases out with
 | none=>
  refine ⟨(l,none,o),⟨N,fun n hn=>?_⟩,RP.fail g1 g2⟩
  show yb (A n) _=_
  rw [hN n hn];rfl
 | some x=>
  obtain ⟨v,rfl,v1,v2,v3,v4,v5⟩:=g3 x rfl;have g1:o.length=tree.length:=g1;refine ⟨(l,some (v:Int),o.set a (v:Int)),⟨N+1,fun n hn=>?_⟩,by rw [zBB];exact g1,g2,fun x hx=>?_⟩
  ·obtain ⟨k,rfl⟩: ∃ k,n=k+1:=⟨n-1,by omega⟩
   show yb (A (k+1)) _=_
   rw [hN (k+1) (by omega)]
   show (if _ then _ else none).map _=_
   rw [zAM ⟨by omega,by omega⟩,zAT,zA8]
   show (TM k (CD (k+1)) (GR (CD (k+1)) pos a d e q tree tree.length pos0 k) pos a d e q tree tree.length pos0 (o.set a (v:Int))).map _=_
   unfold TM;rw [zAM ⟨by omega,by rw [zBB];omega⟩,zAT,zA8,KM (by omega)];simp
  ·cases hx;exact ⟨v,rfl,v1,v2,v3,v4,v5⟩
theorem sL (hF:EN q)(hv:B8 q=true)(hp:posOk q pos=true){nd:Int×Int}{c:Nat}(hc:nd.2=(c:Int))(Az:c<pos.length)(hd:d<=65536) 
 (ih: ∀ (p:List Int) (b:Nat) (o:List Int),posOk q p=true -> a<b -> b<=tree.length -> o.length=tree.length -> ∃ r,Ev (fun n=>CD n p b ((d+1:Nat):Int) o q tree tree.length pos0) r/\ RP tree.length b (fun v l o2=>b<v/\ Tk q tree none p b (d+1) o v l o2) r):
 ∀ (k j b:Nat) (o:List Int),j+k=q.symbols.toNat -> a<b -> b<=tree.length -> o.length=tree.length -> ∃ r,(∃ N,∀ n m,N<=n -> N<=m -> Hi (CD m) e q tree tree.length pos0 pos a d nd n (.l1 (b:Int) (j:Int) o)=some r)/\ RP tree.length b (fun v l o2=>Tk q tree (some (c,CR (pos.getD c 0) j)) pos b (d+1) o v l o2) r:=by
 obtain ⟨h1,h2⟩:=(E7 hv).1 hp;obtain ⟨_,HK,_⟩:=ED hv;have hx:=h2 c Az;intro k
 induction k with
 | zero=>
  intro j b o ej hb Oz ho;refine ⟨([],some (b:Int),o),⟨1,fun n m hn _=>?_⟩,ho,by simpa using Oz,fun x J1=>?_⟩
  ·obtain ⟨n,rfl⟩: ∃ k,n=k+1:=⟨n-1,by omega⟩
   show Nh n (CD m) (Hi (CD m) e q tree tree.length pos0 pos a d nd n) e q tree tree.length pos0 pos a d nd (b:Int) (j:Int) o=_
   unfold Nh;rw [zAP (by omega),zAR]
  ·cases J1
   have:CR (pos.getD c 0) j= []:=by
    have:j=q.symbols.toNat:=by omega
    rw [this];exact tJ hx (by omega)
   rw [this];exact ⟨b,rfl,zA5 _,Oz,by simp,.nil⟩
 | succ k hk=>
  intro j b o ej hb Oz ho
  have step: ∀ n m,Hi (CD m) e q tree tree.length pos0 pos a d nd (n+1) (.l1 (b:Int) (j:Int) o)=bif tb (pos.getD c 0) j then (O6 n q pos c j).bind (fun y1=>bif (y1.2==0) then yb (CD m y1.1 b ((d+1:Nat):Int) o q tree tree.length pos0) (fun y2 o2=>Hi (CD m) e q tree tree.length pos0 pos a d nd n (.l1 y2 ((j+1:Nat):Int) o2)) else some ([],none,o)) else Hi (CD m) e q tree tree.length pos0 pos a d nd n (.l1 (b:Int) ((j+1:Nat):Int) o):=by
   intro n m
   show Nh n (CD m) (Hi (CD m) e q tree tree.length pos0 pos a d nd n) e q tree tree.length pos0 pos a d nd (b:Int) (j:Int) o=_
   unfold Nh;have r1:AJ ((j:Int)+1):=Av.2 ⟨by omega,by omega⟩;have r2:AJ ((d:Int)+1):=Av.2 ⟨by omega,by omega⟩;rw [zAU (by omega),zAV,zAM ⟨by omega,by omega,by show (j:Int)<=((64:Nat):Int);omega⟩,hc,zAT,zAT,Zk hx (by omega) (by omega)];simp only [zAM r1,zAM r2];rfl
  have LG:CR (pos.getD c 0) j=if tb (pos.getD c 0) j then j::CR (pos.getD c 0) (j+1) else CR (pos.getD c 0) (j+1):=jA (by omega)
  cases UF:tb (pos.getD c 0) j with
  | false=>
   obtain ⟨r,⟨N,hN⟩,hr⟩:=hk (j+1) b o (by omega) hb Oz ho;rw [LG,UF];refine ⟨r,⟨N+1,fun n m hn hm=>?_⟩,hr⟩;obtain ⟨n,rfl⟩: ∃ k,n=k+1:=⟨n-1,by omega⟩;rw [step,UF,zAR];exact hN n m (by omega) (by omega)
  | true=>
   obtain ⟨⟨l,out,o1⟩,⟨N,hN⟩,g1,g2,g3⟩:=ih (HO pos c j) b o (oM hv hp Az (by omega)) hb Oz ho;have UI: ∀ n,N<=n -> CD n (HO pos c j,(0:Int)).1 b ((d+1:Nat):Int) o q tree tree.length pos0=some (l,out,o1):=hN;have fx: ∀ n,FV q+300<=n -> O6 n q pos c j=some (HO pos c j,0):=fun n hn=>zDd hF hv hp Az (by omega) hn
   rw [LG,UF];cases out with
   | none=>
    refine ⟨(l,none,o1),⟨N+FV q+301,fun n m hn hm=>?_⟩,RP.fail g1 g2⟩;obtain ⟨n,rfl⟩: ∃ k,n=k+1:=⟨n-1,by omega⟩;rw [step,UF,zAV,fx n (by omega),zAS];rw [show ((HO pos c j,(0:Int)).2==0)=true from rfl,zAV,UI m (by omega)];rfl
   | some x=>
    obtain ⟨v,rfl,v1,v2,v3,v4,v5⟩:=g3 x rfl;obtain ⟨⟨l2,Iy,o2⟩,⟨M,hM⟩,w1,w2,w3⟩:=hk (j+1) v o1 (by omega) (by omega) v2 g1;have v3:l.length+b<=v:=v3;have w2:l2.length+v<=tree.length:=w2;refine ⟨(l++l2,Iy,o2),⟨N+M+FV q+301,fun n m hn hm=>?_⟩,w1,by rw [zA7];omega,fun y hy=>?_⟩
    ·obtain ⟨n,rfl⟩: ∃ k,n=k+1:=⟨n-1,by omega⟩;rw [step,UF,zAV,fx n (by omega),zAS];rw [show ((HO pos c j,(0:Int)).2==0)=true from rfl,zAV,UI m (by omega)]
     show (Hi _ _ _ _ _ _ _ _ _ _ _ _).map _=_
     rw [hM n m (by omega) (by omega)];rfl
    ·obtain ⟨w,rfl,u1,u2,u3,u4⟩:=w3 y hy;have u3:l2.length+v<=w:=u3;exact ⟨w,rfl,by omega,u2,by rw [zA7];omega,.cons v5 u4⟩
theorem xn (hF:EN q)(hv:B8 q=true)(hT:tree.length<=65536): ∀ (m a d:Nat) (pos e:List Int),tree.length<=a+m -> posOk q pos=true -> e.length=tree.length -> d<=a -> a<=tree.length -> ∃ r,Ev (fun n=>CD n pos a d e q tree tree.length pos0) r/\ RP tree.length a (fun v l o=>a<v/\ Tk q tree none pos a d e v l o) r:=by
 intro m
 induction m with
 | zero=>
  intro a d pos e hm hp he hda ha;refine ⟨([],none,e),Ev.step 1 (fun n=>(rfl:_=Fe n (CD n) (GR (CD n) pos a d e q tree tree.length pos0 n) pos a d e q tree tree.length pos0)) (Ev.now fun n=>?_),RP.fail he (by simpa using ha)⟩;unfold Fe;rw [zAP (by omega),zAR]
 | succ m ih=>
  intro a d pos e hm hp he hda ha
  by_cases AM:a<tree.length
  rotate_left
  ·refine ⟨([],none,e),Ev.step 1 (fun n=>(rfl:_=Fe n (CD n) (GR (CD n) pos a d e q tree tree.length pos0 n) pos a d e q tree tree.length pos0)) (Ev.now fun n=>?_),RP.fail he (by simpa using ha)⟩;unfold Fe;rw [zAP (by omega),zAR]
  obtain ⟨Ak,Bz⟩:=(E7 hv).1 hp;obtain ⟨UE,HK,_⟩:=ED hv;have lb:(256:Nat)<=LB:=by decide
  have r1:AJ ((a:Int)+1):=Av.2 ⟨by omega,by omega⟩;have failed: ∃ r,Ev (fun _=>some (([],none,e):YR Au Int (List Int))) r/\ RP tree.length a (fun v l o=>a<v/\ Tk q tree none pos a d e v l (o.set a (v:Int))) r:=⟨_,Ev.now fun n=>rfl,RP.fail he (by simpa using ha)⟩
  by_cases k1:(tree.getD a default).1=1
  ·have h1: ∃ r,Ev (fun n=>aS n (CD n) e q tree tree.length pos0 pos a d (tree.getD a default)) r/\ RP tree.length a (fun v l o=>a<v/\ Tk q tree none pos a d e v l (o.set a (v:Int))) r:=by
    by_cases I7:HZ q (tree.getD a default).2 pos=0
    ·have C:=Bm.of hF I7;obtain ⟨x,LE,Oa⟩:=wd C;obtain ⟨⟨l,out,o⟩,hr,g1,g2,g3⟩:=ih (a+1) d x e (by omega) (Oa.posOk C) he (by omega) (by omega);refine ⟨(l,out,o),Ev.eq (Ev.bind LE (b:=fun n y1=>bif (y1.2==0) then if AJ ((a:Int)+1) then yb (CD n y1.1 ((a:Int)+1) d e q tree tree.length pos0) (fun y2 o2=>some ([],some y2,o2)) else none else some ([],none,e)) ?_) (fun n=>rfl),g1,by have g2:l.length+(a+1)<=tree.length:=g2;show l.length+a<=_;omega,fun y hy=>?_⟩
     ·obtain ⟨N,hN⟩:=hr;refine ⟨N,fun n hn=>?_⟩;have:CD n x ((a+1:Nat):Int) d e q tree tree.length pos0=_:=hN n hn;rw [show ((a+1:Nat):Int)=(a:Int)+1 by omega] at this
      show (if AJ ((a:Int)+1) then yb (CD n x ((a:Int)+1) d e q tree tree.length pos0) (fun y2 o2=>some ([],some y2,o2)) else none)=_
      rw [zAM r1,this];cases out <;> simp [yb]
     ·obtain ⟨v,rfl,v1,v2,v3,v4,v5⟩:=g3 y hy;have v3:l.length+(a+1)<=v:=v3;exact ⟨v,rfl,by omega,v2,by show l.length+a<=v;omega,by omega,.prune AM k1 C Oa v5⟩
    ·obtain ⟨e',Gs,h1⟩:=we (a:=pos) hF (by omega) I7;refine ⟨([],none,e),Ev.eq (Ev.bind h1 (b:=fun n y1=>bif (y1.2==0) then if AJ ((a:Int)+1) then yb (CD n y1.1 ((a:Int)+1) d e q tree tree.length pos0) (fun y2 o2=>some ([],some y2,o2)) else none else some ([],none,e)) (Ev.now fun n=>?_)) (fun n=>rfl),RP.fail he (by simpa using ha)⟩
     show (bif (e'==0) then _ else _)=_
     rw [zCK.2 Gs,zAR]
   obtain ⟨r0,e0,p0⟩:=h1;obtain ⟨r,e1,p1⟩:=Wn (pos0:=pos0) AM e0 p0;refine ⟨r,Ev.step 1 (fun n=>(rfl:_=Fe n (CD n) (GR (CD n) pos a d e q tree tree.length pos0 n) pos a d e q tree tree.length pos0)) (Ev.eq e1 fun n=>?_),p1⟩;unfold Fe;rw [zAU (by omega),zAV,zAM ⟨by omega,by omega⟩];simp only [zAT,k1];rfl
  by_cases k2:(tree.getD a default).1=2
  ·have h1: ∃ r,Ev (fun n=>Lz n (CD n) e q tree tree.length pos0 pos a d (tree.getD a default)) r/\ RP tree.length a (fun v l o=>a<v/\ Tk q tree none pos a d e v l (o.set a (v:Int))) r:=by
    by_cases c0:(tree.getD a default).2>=0
    rotate_left
    ·refine ⟨([],none,e),Ev.now fun n=>?_,RP.fail he (by simpa using ha)⟩;unfold Lz Ly;rw [zAP c0,zAR]
    by_cases c1:(tree.getD a default).2<(pos.length:Int)
    rotate_left
    ·refine ⟨([],none,e),Ev.now fun n=>?_,RP.fail he (by simpa using ha)⟩;unfold Lz Ly;rw [zAU c0,zAV,zAP c1,zAR]
    have Ql: ∀ n,pos.length<n -> Jz n pos=some (C7 pos):=fun n hn=>Tg (by omega) hn
    obtain ⟨c,hc⟩: ∃ c:Nat,(tree.getD a default).2=(c:Int):=⟨(tree.getD a default).2.toNat,by omega⟩;cases Ht:C7 pos with
    | true=>
     refine ⟨([],none,e),Ev.from (pos.length+1) fun n hn=>?_,RP.fail he (by simpa using ha)⟩;unfold Lz Ly;rw [zAU c0,zAV,zAU c1,zAV,Ql n (by omega),zAS,Ht];rfl
    | false=>
     have Az:c<pos.length:=by omega
     obtain ⟨N,hN⟩:=tF (iv HK (Bz c Az));have hN: ∀ n,N<=n -> SK n (pos.getD c 0)=_:=hN
     by_cases h2:2<=(CR (pos.getD c 0) 0).length
     ·obtain ⟨r,⟨M,hM⟩,g1,g2,g3⟩:=sL (pos0:=pos0) (a:=a) (d:=d) (e:=e) (tree:=tree) hF hv hp hc Az (by omega) (fun p b o hp hb Oz ho=>ih b (d+1) p o (by omega) hp ho (by omega) Oz) q.symbols.toNat 0 (a+1) e (by omega) (by omega) (by omega) he;refine ⟨r,Ev.from (N+M+pos.length+1) fun n hn=>?_,g1,by omega,fun x hx=>?_⟩
      ·unfold Lz Ly;have hN:=hN n (by omega);rw [zAU c0,zAV,zAU c1,zAV,Ql n (by omega),zAS,Ht,zC0,zAV,zAM ⟨c0,c1⟩,hc,zAT,hN,zAS,zAU (by omega),zAV,zAM r1];exact hM n n (by omega) (by omega)
      ·obtain ⟨v,rfl,v1,v2,v3,v4⟩:=g3 x hx;exact ⟨v,rfl,by omega,v2,by omega,by omega,.split hp AM (Prod.ext k2 hc) Az Ht h2 v4⟩
     ·refine ⟨([],none,e),Ev.from (N+pos.length+1) fun n hn=>?_,RP.fail he (by simpa using ha)⟩;unfold Lz Ly;have hN:=hN n (by omega);rw [zAU c0,zAV,zAU c1,zAV,Ql n (by omega),zAS,Ht,zC0,zAV,zAM ⟨c0,c1⟩,hc,zAT,hN,zAS,zAP (by omega),zAR]
   obtain ⟨r0,e0,p0⟩:=h1;obtain ⟨r,e1,p1⟩:=Wn (pos0:=pos0) AM e0 p0;refine ⟨r,Ev.step 1 (fun n=>(rfl:_=Fe n (CD n) (GR (CD n) pos a d e q tree tree.length pos0 n) pos a d e q tree tree.length pos0)) (Ev.eq e1 fun n=>?_),p1⟩;unfold Fe;rw [zAU (by omega),zAV,zAM ⟨by omega,by omega⟩];simp only [zAT,k2];rfl
  by_cases k3:(tree.getD a default).1=3
  ·have h1: ∃ r,Ev (fun n=>Q8 n (CD n) e q tree tree.length pos0 pos a d (tree.getD a default)) r/\ RP tree.length a (fun v l o=>a<v/\ Tk q tree none pos a d e v l (o.set a (v:Int))) r:=by
    by_cases c0:(tree.getD a default).2=0
    rotate_left
    ·refine ⟨([],none,e),Ev.now fun n=>?_,RP.fail he (by simpa using ha)⟩;unfold Q8 Q7;rw [zCK.2 c0,zAR]
    have Ql: ∀ n,pos.length<n -> Jz n pos=some (C7 pos):=fun n hn=>Tg (by omega) hn
    cases Ht:C7 pos with
    | false=>
     refine ⟨([],none,e),Ev.from (pos.length+1) fun n hn=>?_,RP.fail he (by simpa using ha)⟩;unfold Q8 Q7;rw [c0,zD7,zAV,Ql n (by omega),zAS,Ht,zAR]
    | true=>
     refine ⟨([(List.replicate pos.length 0,[],(d:Int))],some ((a:Int)+1),e),Ev.from (pos.length+1) fun n hn=>?_,he,by simp;omega,fun x hx=>?_⟩
     ·unfold Q8 Q7;rw [c0,zD7,zAV,Ql n (by omega),zAS,Ht,zAV,zAM ⟨by simp,rfl,by omega,by omega⟩,zAM r1];rfl
     ·cases hx;exact ⟨a+1,by omega,by omega,by omega,by simp;omega,by omega,.dead hp AM (Prod.ext k3 c0) Ht⟩
   obtain ⟨r0,e0,p0⟩:=h1;obtain ⟨r,e1,p1⟩:=Wn (pos0:=pos0) AM e0 p0;refine ⟨r,Ev.step 1 (fun n=>(rfl:_=Fe n (CD n) (GR (CD n) pos a d e q tree tree.length pos0 n) pos a d e q tree tree.length pos0)) (Ev.eq e1 fun n=>?_),p1⟩;unfold Fe;rw [zAU (by omega),zAV,zAM ⟨by omega,by omega⟩];simp only [zAT,k3];rfl
  by_cases k4:(tree.getD a default).1=4
  ·have h1: ∃ r,Ev (fun n=>M9 n (CD n) e q tree tree.length pos0 pos a d (tree.getD a default)) r/\ RP tree.length a (fun v l o=>a<v/\ Tk q tree none pos a d e v l (o.set a (v:Int))) r:=by
    obtain ⟨N,hS⟩:=sf (pos:=pos) (fun j hj=>iv HK (Bz j hj)) (by omega);have hS: ∀ n,N<=n -> Vk n pos=_:=hS
    by_cases c0:(tree.getD a default).2=0
    rotate_left
    ·refine ⟨([],none,e),Ev.from N fun n hn=>?_,RP.fail he (by simpa using ha)⟩;unfold M9 M8;rw [hS n hn,zAS,zCK.2 c0,zAR]
    cases hg:FW pos with
    | none=>
     refine ⟨([],none,e),Ev.from N fun n hn=>?_,RP.fail he (by simpa using ha)⟩;unfold M9 M8;rw [hS n hn,zAS,c0,zD7,zAV,hg];rfl
    | some g=>
     obtain ⟨⟨b,er⟩,⟨M,hM⟩,s1,s2⟩:=Vj (q:=q) (g:=g) hF (by have:=SG hg;omega);have hM: ∀ n,M<=n -> GI n q g=some (b,er):=hM
     by_cases na:er=0
     rotate_left
     ·refine ⟨([],none,e),Ev.from (N+M) fun n hn=>?_,RP.fail he (by simpa using ha)⟩;unfold M9 M8;rw [hS n (by omega),zAS,c0,zD7,zAV,hg]
      show (GI n q g).bind _=_
      rw [hM n (by omega),zAS,zCK.2 na,zAR]
     subst na;cases b with
     | false=>
      refine ⟨([],none,e),Ev.from (N+M) fun n hn=>?_,RP.fail he (by simpa using ha)⟩;unfold M9 M8;rw [hS n (by omega),zAS,c0,zD7,zAV,hg]
      show (GI n q g).bind _=_
      rw [hM n (by omega),zAS];rfl
     | true=>
      refine ⟨([(pos,g,(d:Int))],some ((a:Int)+1),e),Ev.from (N+M) fun n hn=>?_,he,by simp;omega,fun x hx=>?_⟩
      ·unfold M9 M8;rw [hS n (by omega),zAS,c0,zD7,zAV,hg]
       show (GI n q g).bind _=_
       rw [hM n (by omega),zAS]
       show yx _ (if _ then _ else none)=_
       rw [zAM r1];rfl
      ·cases hx;exact ⟨a+1,by omega,by omega,by omega,by simp;omega,by omega,.done hp AM (Prod.ext k4 c0) hg ⟨(s1.1 rfl).2,(s2 rfl).1 rfl⟩⟩
   obtain ⟨r0,e0,p0⟩:=h1;obtain ⟨r,e1,p1⟩:=Wn (pos0:=pos0) AM e0 p0;refine ⟨r,Ev.step 1 (fun n=>(rfl:_=Fe n (CD n) (GR (CD n) pos a d e q tree tree.length pos0 n) pos a d e q tree tree.length pos0)) (Ev.eq e1 fun n=>?_),p1⟩;unfold Fe;rw [zAU (by omega),zAV,zAM ⟨by omega,by omega⟩];simp only [zAT,k4];rfl
  ·refine ⟨([],none,e),Ev.step 1 (fun n=>(rfl:_=Fe n (CD n) (GR (CD n) pos a d e q tree tree.length pos0 n) pos a d e q tree tree.length pos0)) (Ev.now fun n=>?_),RP.fail he (by simpa using ha)⟩;unfold Fe;rw [zAU (by omega),zAV,zAM ⟨by omega,by omega⟩,zAT]
   by_cases k0:(tree.getD a default).1>=1
   ·rw [zAU k0,zAV,zAP (by omega),zAR]
   ·rw [zAP k0,zAR]
end
set_option maxRecDepth 100000
set_option maxHeartbeats 40000000
def zCA (Fq:List ((List Int)×(List Int)×Int))(Eo:Int):DH:=[oC [.ints ((Fq.getD ((Eo).toNat) default).1),.ints ((Fq.getD ((Eo).toNat) default).2.1),.i ((Fq.getD ((Eo).toNat) default).2.2)]]
inductive Yn where
 | l1 (Bi:Int) (Fq:List ((List Int)×(List Int)×Int)) (Kd Eo:Int)
def PG (n:Nat)(self:Yn -> Option (Bool×Int))(q:AA)(pos:List Int)(tree:List (Int×Int))(AE:List Int)(Bi:Int)(Fq:List ((List Int)×(List Int)×Int))(Kd Eo:Int):Option (Bool×Int):= bif (decide (Eo<Kd)) then if 0<=Eo/\ Eo<(Fq.length:Int) then bif (decide (((((Fq.getD ((Eo).toNat) default).2.1).length:Nat):Int)>0)) then if AJ (Bi+1) then (Q3 n ((Fq.getD ((Eo).toNat) default).2.1) AE).bind fun y1=> bif (!y1) then some (false,0) else if AJ (Eo+1) then self (.l1 (Bi+1) Fq Kd (Eo+1)) else none else none else if AJ (Eo+1) then self (.l1 Bi Fq Kd (Eo+1)) else none else none else some ((Bi==(if (AE.length:Int)<1 then (AE.length:Int) else 1)),0)
def zE8 (n:Nat)(self:Yn -> Option (Bool×Int))(q:AA)(pos:List Int)(tree:List (Int×Int))(AE:List Int):Option (Bool×Int):= (Gu n q pos tree).bind fun y1=> bif (y1.2.2==280) then some (false,0) else bif (y1.2.2 != 0) then some (false,y1.2.2) else self (.l1 0 y1.1 (y1.1.length:Int) 0)
def KY (q:AA)(pos:List Int)(tree:List (Int×Int))(AE:List Int):Nat -> Yn -> Option (Bool×Int)
 | 0,_=>none
 | n+1,.l1 Bi Fq Kd Eo=>PG n (KY q pos tree AE n) q pos tree AE Bi Fq Kd Eo
def Ld (n:Nat)(q:AA)(pos:List Int)(tree:List (Int×Int))(AE:List Int):Option (Bool×Int):=zE8 n (KY q pos tree AE n) q pos tree AE
def zE9 (n B:Nat)(N:Yd 0)(q:AA)(pos:List Int)(tree:List (Int×Int))(AE:List Int)(r:Bool×Int):Yn -> Prop
 | .l1 Bi Fq Kd Eo=>∀ m0:Nat,n<=m0 -> TW B N (FQ Tryz.f12 0 (.tup 2 (L1 [.bool r.1,.i r.2])) []) (A4 m0 (BB (AX Tryz.f12) 0 [])) ⟨AG 51 [(3,.ints AE),(12,.i Bi),(28,.sl 3 Fq.length (AP (fun (x:(List Int)×(List Int)×Int)=>[.ints x.1,.ints x.2.1,.i x.2.2]) Fq)),(29,.i Kd),(30,.i Eo)],[]⟩
theorem zFA (B:Nat)(N:Yd 0)(q:AA)(pos:List Int)(tree:List (Int×Int))(AE:List Int):Al (KY q pos tree AE) (zE9 · B N q pos tree AE):=ia (fun _=>rfl) fun n AI pt r h=>by
 cases pt
 case l1 Bi Fq Kd Eo=>
  intro m0 AD;refine rd AD fun m0 AD=>?_
  revert r;apply gO;exact bi 31 (gi (jt (bi 37 (gw 39 (cf om (zCA Fq Eo) fun _=>bi 44 (lE AC [8,9] []) (gw 45 (lG AC [] (AI _ _ · m0 AD))))) (gw 45 (lG AC [] (AI _ _ · m0 AD)))))) (lE AC [8,9] [])
theorem RD {n:Nat}{q:AA}{pos:List Int}{tree:List (Int×Int)}{AE:List Int}{r:Bool×Int}(h:Ld n q pos tree AE=some r):EQ 12 [.agg 5 (L1 (AN q)),.ints pos,.sl 2 tree.length (AP BM tree),.ints AE] [] (.tup 2 (L1 [.bool r.1,.i r.2])) [] true:=by
 refine ot Tryz.func12 fun B N=>?_
 revert r;apply gO;exact cf X6 [oC (AN q)] fun _=>bi 24 (lE AC [8,9] []) (bi 26 (lE AC [8,9] []) (lN AC [] ((zFA B N q pos tree AE n) _ _ · n Nat.le.refl)))
inductive Tb where
 | l1 (x7:Int) (x20:List ((List Int)×(List Int)×Int)) (x21:Int)
 | l2 (x6:Nat) (x7:Int) (x20:List ((List Int)×(List Int)×Int)) (x21 Cj:Int) (o0:List (List Int))
def W0 (n:Nat)(self:Tb -> Option ((List (List Int))×Int))(q:AA)(pos:List Int)(tree:List (Int×Int))(x7:Int)(x20:List ((List Int)×(List Int)×Int))(x21:Int):Option ((List (List Int))×Int):= bif (decide (0<x21)) then if (0:Int)<=0/\ 0<(x20.length:Int) then self (.l2 (([(x20.getD 0 default).1]:List (List Int)).length) x7 x20 x21 1 ([(x20.getD 0 default).1]:List (List Int))) else none else some (([]:List (List Int)),x7)
def Ta (n:Nat)(self:Tb -> Option ((List (List Int))×Int))(q:AA)(pos:List Int)(tree:List (Int×Int))(x6:Nat)(x7:Int)(x20:List ((List Int)×(List Int)×Int))(x21 Cj:Int)(o0:List (List Int)):Option ((List (List Int))×Int):= bif (decide (Cj<x21)) then if (0<=Cj/\ Cj<(x20.length:Int))/\ x6=o0.length/\ o0.length+([(x20.getD ((Cj).toNat) default).1]:List (List Int)).length<=BA/\ AJ (Cj+1) then self (.l2 (o0.length+([(x20.getD ((Cj).toNat) default).1]:List (List Int)).length) x7 x20 x21 (Cj+1) (o0++([(x20.getD ((Cj).toNat) default).1]:List (List Int)))) else none else if x6=o0.length then some (o0,x7) else none
def zB (n:Nat)(self:Tb -> Option ((List (List Int))×Int))(q:AA)(pos:List Int)(tree:List (Int×Int)):Option ((List (List Int))×Int):= (Gu n q pos tree).bind fun y1=> self (.l1 y1.2.2 y1.1 (y1.1.length:Int))
def Jw (q:AA)(pos:List Int)(tree:List (Int×Int)):Nat -> Tb -> Option ((List (List Int))×Int)
 | 0,_=>none
 | n+1,.l1 x7 x20 x21=>W0 n (Jw q pos tree n) q pos tree x7 x20 x21
 | n+1,.l2 x6 x7 x20 x21 Cj o0=>Ta n (Jw q pos tree n) q pos tree x6 x7 x20 x21 Cj o0
def OP (n:Nat)(q:AA)(pos:List Int)(tree:List (Int×Int)):Option ((List (List Int))×Int):=zB n (Jw q pos tree n) q pos tree
def zD (n B:Nat)(N:Yd 0)(q:AA)(pos:List Int)(tree:List (Int×Int))(r:(List (List Int))×Int):Tb -> Prop
 | .l1 x7 x20 x21=>∀ m0:Nat,n<=m0 -> TW B N (FQ Tryz.f14 0 (.tup 2 (L1 [.sl 1 r.1.length (AP BX r.1),.i r.2])) []) (A4 m0 (BB (AX Tryz.f14) 0 [])) ⟨AG 34 [(6,.nils),(7,.i x7),(20,.sl 3 x20.length (AP (fun (x:(List Int)×(List Int)×Int)=>[.ints x.1,.ints x.2.1,.i x.2.2]) x20)),(21,.i x21),(22,.i 0)],[]⟩
 | .l2 x6 x7 x20 x21 Cj o0=>∀ m0:Nat,n<=m0 -> TW B N (FQ Tryz.f14 0 (.tup 2 (L1 [.sl 1 r.1.length (AP BX r.1),.i r.2])) []) (A4 m0 (BB (AX Tryz.f14) 0 [])) ⟨AG 34 [(6,.msl 0 1 0 x6),(7,.i x7),(20,.sl 3 x20.length (AP (fun (x:(List Int)×(List Int)×Int)=>[.ints x.1,.ints x.2.1,.i x.2.2]) x20)),(21,.i x21),(22,.i Cj)],[some (.arr 1 o0.length (AP BX o0))]⟩
theorem zE (B:Nat)(N:Yd 0)(q:AA)(pos:List Int)(tree:List (Int×Int)):Al (Jw q pos tree) (zD · B N q pos tree):=ia (fun _=>rfl) fun n AI pt r h=>by
 cases pt
 case l1 x7 x20 x21=>
  intro m0 AD;refine rd AD fun m0 AD=>?_
  revert r;apply gO;exact bi 23 (gi (jt (ja 29 1 1 (GJ (c:=BX) (L:=([(x20.getD 0 default).1]:List (List Int))) (vals:=[.ints ((x20.getD 0 default).1)]) rfl ⟨⟨_,rfl,⟨A3,trivial⟩⟩,trivial⟩) (jg (And.intro (And.intro (And.intro (Eq.refl 0) (Eq.refl 1)) (Wh BX ([(x20.getD 0 default).1]:List (List Int)) (([(x20.getD 0 default).1]:List (List Int)).length) 1 fun _=>⟨rfl,rfl⟩)) (And.intro (by decide:0<1) (by decide:1<=BA))) (lG AC [2] (AI _ _ · m0 AD)))))) (lF fun p=>el AC [6,7] [] p [] H0 [.nils,.i x7] (AS.tupL (l:=[.nils,.i x7]) (l':=[.sl 1 (([]:List (List Int)).length) (AP BX ([]:List (List Int))),.i x7]) rfl ⟨(AS.sl_nil _ _),A3,trivial⟩))
 case l2 x6 x7 x20 x21 Cj o0=>
  intro m0 AD;refine rd AD fun m0 AD=>?_
  revert r;apply gO;exact bi 23 (gc (gi (jt (ja 29 2 1 (GJ (c:=BX) (L:=([(x20.getD ((Cj).toNat) default).1]:List (List Int))) (vals:=[.ints ((x20.getD ((Cj).toNat) default).1)]) rfl ⟨⟨_,rfl,⟨A3,trivial⟩⟩,trivial⟩) (gc (gn fun g1=>gc (gn fun g2=>jg (And.intro (And.intro (And.intro (Eq.refl 0) (Eq.refl 1)) (Wh BX ([(x20.getD ((Cj).toNat) default).1]:List (List Int)) (([(x20.getD ((Cj).toNat) default).1]:List (List Int)).length) 1 fun _=>⟨rfl,rfl⟩)) (And.intro (And.intro (Eq.refl 0) g1) g2)) (ja 30 3 1 (jY (enc:=(pE BX)) (L:=o0) (L':=([(x20.getD ((Cj).toNat) default).1]:List (List Int))) rfl rfl fun _ _ _ _=>A3) (gw 31 (lG AC [3] (AI _ _ · m0 AD))))))))))) (gn fun g0=>lF fun p=>ez AC [6,7] [0] p [0] (H0.g g0))
theorem Wz {n:Nat}{q:AA}{pos:List Int}{tree:List (Int×Int)}{r:(List (List Int))×Int}(h:OP n q pos tree=some r):EQ 14 [.agg 5 (L1 (AN q)),.ints pos,.sl 2 tree.length (AP BM tree)] [] (.tup 2 (L1 [.sl 1 r.1.length (AP BX r.1),.i r.2])) [] true:=by
 refine ot Tryz.func14 fun B N=>?_
 revert r;apply gO;exact cf X6 [oC (AN q)] fun _=>lN AC [] ((zE B N q pos tree n) _ _ · n Nat.le.refl)
def lJ (n:Nat)(q:AA)(pos:List Int)(tree:List (Int×Int))(AF:Int):Option (Int×Int):= (Gu n q pos tree).bind fun y1=> bif (y1.2.2 != 0) then some (0,y1.2.2) else bif (decide (AF<0)) then some (0,1) else bif (decide (AF>=(y1.2.1.length:Int))) then some (0,1) else if 0<=AF/\ AF<(y1.2.1.length:Int) then some (y1.2.1.getD ((AF).toNat) 0,0) else none
def a7 (n:Nat)(q:AA)(pos:List Int)(tree:List (Int×Int))(AF:Int):Option (Int×Int):=lJ n q pos tree AF
theorem xx {n:Nat}{q:AA}{pos:List Int}{tree:List (Int×Int)}{AF:Int}{r:Int×Int}(h:a7 n q pos tree AF=some r):EQ 16 [.agg 5 (L1 (AN q)),.ints pos,.sl 2 tree.length (AP BM tree),.i AF] [] (.tup 2 (L1 [.i r.1,.i r.2])) [] true:=by
 unfold a7 lJ at h;refine ot Tryz.func16 fun B N=>?_
 revert r;apply gO;exact cf X6 [oC (AN q)] fun _=>bi 21 (lE AC [8,9] []) (bi 24 (lE AC [8,9] []) (bi 29 (lE AC [8,9] []) (gi (lE AC [8,9] []))))
inductive YU where
 | l1 (x6 x7:Int) (x20:List ((List Int)×(List Int)×Int)) (x21 Cj:Int)
def zEO (n:Nat)(self:YU -> Option (Int×Int))(q:AA)(pos:List Int)(tree:List (Int×Int))(x6 x7:Int)(x20:List ((List Int)×(List Int)×Int))(x21 Cj:Int):Option (Int×Int):= bif (decide (Cj<x21)) then if (0<=Cj/\ Cj<(x20.length:Int))/\ AJ (Cj+1) then self (.l1 (if ((x20.getD ((Cj).toNat) default).2.2)>x6 then ((x20.getD ((Cj).toNat) default).2.2) else x6) x7 x20 x21 (Cj+1)) else none else some (x6,x7)
def zEP (n:Nat)(self:YU -> Option (Int×Int))(q:AA)(pos:List Int)(tree:List (Int×Int)):Option (Int×Int):= (Gu n q pos tree).bind fun y1=> self (.l1 0 y1.2.2 y1.1 (y1.1.length:Int) 0)
def du (q:AA)(pos:List Int)(tree:List (Int×Int)):Nat -> YU -> Option (Int×Int)
 | 0,_=>none
 | n+1,.l1 x6 x7 x20 x21 Cj=>zEO n (du q pos tree n) q pos tree x6 x7 x20 x21 Cj
def pO (n:Nat)(q:AA)(pos:List Int)(tree:List (Int×Int)):Option (Int×Int):=zEP n (du q pos tree n) q pos tree
def zEQ (n B:Nat)(N:Yd 0)(q:AA)(pos:List Int)(tree:List (Int×Int))(r:Int×Int):YU -> Prop
 | .l1 x6 x7 x20 x21 Cj=>∀ m0:Nat,n<=m0 -> TW B N (FQ Tryz.f18 0 (.tup 2 (L1 [.i r.1,.i r.2])) []) (A4 m0 (BB (AX Tryz.f18) 0 [])) ⟨AG 33 [(6,.i x6),(7,.i x7),(20,.sl 3 x20.length (AP (fun (x:(List Int)×(List Int)×Int)=>[.ints x.1,.ints x.2.1,.i x.2.2]) x20)),(21,.i x21),(22,.i Cj)],[]⟩
theorem zER (B:Nat)(N:Yd 0)(q:AA)(pos:List Int)(tree:List (Int×Int)):Al (du q pos tree) (zEQ · B N q pos tree):=ia (fun _=>rfl) fun n AI pt r h=>by
 cases pt
 case l1 x6 x7 x20 x21 Cj=>
  intro m0 AD;refine rd AD fun m0 AD=>?_
  revert r;apply gO;exact bi 23 (gc (gi (jt (gw 30 (lG AC [] (AI _ _ · m0 AD)))))) (lE AC [6,7] [])
theorem zEN {n:Nat}{q:AA}{pos:List Int}{tree:List (Int×Int)}{r:Int×Int}(h:pO n q pos tree=some r):EQ 18 [.agg 5 (L1 (AN q)),.ints pos,.sl 2 tree.length (AP BM tree)] [] (.tup 2 (L1 [.i r.1,.i r.2])) [] true:=by
 refine ot Tryz.func18 fun B N=>?_
 revert r;apply gO;exact cf X6 [oC (AN q)] fun _=>lN AC [] ((zER B N q pos tree n) _ _ · n Nat.le.refl)
end Go.Proofs.YtkjbblkieglmlaaGreatDoor
namespace Go.Proofs.YtkjbblkieglmlaaGreatDoor
open Go.RowKit
set_option maxRecDepth 100000
set_option maxHeartbeats 40000000
theorem tw:As (Aj Tryz.f23 6) [] (List.range 9) []:=by unfold As;kernel_rfl
def SP:Bh:=fun i=>match i with
 | 6=>.ord [] (List.range 9) []
 | _=>.no
inductive Vw where
 | l1 (x5:Int)
def SU (n:Nat)(self:Vw -> Option Bool)(a b_:List Int)(x5:Int):Option Bool:= bif (decide (x5<(a.length:Int))) then if (0<=x5/\ x5<(a.length:Int))/\ (0<=x5/\ x5<(b_.length:Int)) then bif ((a.getD ((x5).toNat) 0) != (b_.getD ((x5).toNat) 0)) then some false else if AJ (x5+1) then self (.l1 (x5+1)) else none else none else some true
def jJ (n:Nat)(self:Vw -> Option Bool)(a b_:List Int):Option Bool:= bif ((a.length:Int) != (b_.length:Int)) then some false else self (.l1 0)
def Pp (a b_:List Int):Nat -> Vw -> Option Bool
 | 0,_=>none
 | n+1,.l1 x5=>SU n (Pp a b_ n) a b_ x5
def L9 (n:Nat)(a b_:List Int):Option Bool:=jJ n (Pp a b_ n) a b_
def tX (n B:Nat)(N:Yd 0)(a b_:List Int)(r:Bool):Vw -> Prop
 | .l1 x5=>∀ m0:Nat,n<=m0 -> TW B N (FQ Tryz.f23 0 (.bool r) []) (A4 m0 (BB (AX Tryz.f23) 0 [])) ⟨AG 26 [(0,.ints a),(1,.ints b_),(5,.i x5)],[]⟩
theorem tY (B:Nat)(N:Yd 0)(a b_:List Int):Al (Pp a b_) (tX · B N a b_):=ia (fun _=>rfl) fun n AI pt r h=>by
 cases pt
 case l1 x5=>
  intro m0 AD;refine rd AD fun m0 AD=>?_
  revert r;apply gO;exact bi 14 (jg tw (gc (gi (gi (bi 25 (lE SP [4] []) (gw 16 (lG SP [] (AI _ _ · m0 AD)))))))) (lE SP [4] [])
theorem Zt {n:Nat}{a b_:List Int}{r:Bool}(h:L9 n a b_=some r):EQ 23 [.ints a,.ints b_] [] (.bool r) [] true:=by
 refine ot Tryz.func23 fun B N=>?_
 revert r;apply gO;exact bi 10 (lE SP [4] []) (lN SP [] ((tY B N a b_ n) _ _ · n Nat.le.refl))
theorem tv:As (Aj Tryz.f20 6) [([0,1,2,3,4,5,6,7],8)] [9] []:=by unfold As;kernel_rfl
def SO:Bh:=fun i=>match i with
 | 6=>.ord [([0,1,2,3,4,5,6,7],8)] [9] []
 | _=>.no
inductive Vv where
 | l1 (x5:Int)
def tT (n:Nat)(self:Vv -> Option Bool)(a b_:List (List Int))(x5:Int):Option Bool:= bif (decide (x5<(a.length:Int))) then if (0<=x5/\ x5<(a.length:Int))/\ (0<=x5/\ x5<(b_.length:Int)) then (L9 n (a.getD ((x5).toNat) []) (b_.getD ((x5).toNat) [])).bind fun y1=> bif (!y1) then some false else if AJ (x5+1) then self (.l1 (x5+1)) else none else none else some true
def tU (n:Nat)(self:Vv -> Option Bool)(a b_:List (List Int)):Option Bool:= bif ((a.length:Int) != (b_.length:Int)) then some false else self (.l1 0)
def Zr (a b_:List (List Int)):Nat -> Vv -> Option Bool
 | 0,_=>none
 | n+1,.l1 x5=>tT n (Zr a b_ n) a b_ x5
def jI (n:Nat)(a b_:List (List Int)):Option Bool:=tU n (Zr a b_ n) a b_
def tV (n B:Nat)(N:Yd 0)(a b_:List (List Int))(r:Bool):Vv -> Prop
 | .l1 x5=>∀ m0:Nat,n<=m0 -> TW B N (FQ Tryz.f20 0 (.bool r) []) (A4 m0 (BB (AX Tryz.f20) 0 [])) ⟨AG 27 [(0,.sl 1 a.length (AP BX a)),(1,.sl 1 b_.length (AP BX b_)),(5,.i x5)],[]⟩
theorem tW (B:Nat)(N:Yd 0)(a b_:List (List Int)):Al (Zr a b_) (tV · B N a b_):=ia (fun _=>rfl) fun n AI pt r h=>by
 cases pt
 case l1 x5=>
  intro m0 AD;refine rd AD fun m0 AD=>?_
  revert r;apply gO;exact bi 14 (jg tv (gc (gi (gi (cf Zt [] fun _=>bi 26 (lE SO [4] []) (gw 16 (lG SO [] (AI _ _ · m0 AD)))))))) (lE SO [4] [])
theorem tS {n:Nat}{a b_:List (List Int)}{r:Bool}(h:jI n a b_=some r):EQ 20 [.sl 1 a.length (AP BX a),.sl 1 b_.length (AP BX b_)] [] (.bool r) [] true:=by
 refine ot Tryz.func20 fun B N=>?_
 revert r;apply gO;exact bi 10 (lE SO [4] []) (lN SO [] ((tW B N a b_ n) _ _ · n Nat.le.refl))
def YK (n:Nat)(q:AA)(pos:List Int)(tree:List (Int×Int)):Option Bool:= (YJ n q).bind fun y1=> bif y1 then bif (decide ((pos.length:Int)<=20)) then some (decide ((tree.length:Int)<=400)) else some false else some false
def LY (n:Nat)(q:AA)(pos:List Int)(tree:List (Int×Int)):Option Bool:=YK n q pos tree
theorem oa {n:Nat}{q:AA}{pos:List Int}{tree:List (Int×Int)}{r:Bool}(h:LY n q pos tree=some r):EQ 11 [.agg 5 (L1 (AN q)),.ints pos,.sl 2 tree.length (AP BM tree)] [] (.bool r) [] true:=by
 unfold LY YK at h;refine ot Tryz.func11 fun B N=>?_
 revert r;apply gO;exact cf zDr [oC (AN q)] fun _=>bi 8 (bi 12 (lE AC [6] []) (lE AC [6] [])) (lE AC [6] [])
def mX (n:Nat)(Ag CZ:Int):Option Bool:= bif (decide (CZ>=0)) then bif (decide (CZ<16)) then if 0<=CZ/\ CZ<=(IntKind.i64.bits:Int) then some ((bits .and .i64 Ag (IntKind.i64.wrap (1*2 ^ (CZ).toNat))) != 0) else none else some false else some false
def XP (n:Nat)(Ag CZ:Int):Option Bool:=mX n Ag CZ
theorem zAN {n:Nat}{Ag CZ:Int}{r:Bool}(h:XP n Ag CZ=some r):EQ 34 [.i Ag,.i CZ] [] (.bool r) [] true:=by
 refine ot Tryz.func34 fun B N=>?_
 revert r;apply gO;exact bi 6 (bi 9 (gi (lE AC [4] [])) (lE AC [4] [])) (lE AC [4] [])
theorem tc:As (Aj Tryz.f22 6) [([0,1,2,3,4,5,6,7],8)] [9] []:=by unfold As;kernel_rfl
def SN:Bh:=fun i=>match i with
 | 6=>.ord [([0,1,2,3,4,5,6,7],8)] [9] []
 | _=>.no
inductive VL where
 | l1 (x5:Int)
def Ri (n:Nat)(self:VL -> Option Bool)(pos AE:List Int)(x5:Int):Option Bool:= bif (decide (x5<(pos.length:Int))) then if (0<=x5/\ x5<(pos.length:Int))/\ (0<=x5/\ x5<(AE.length:Int)) then (XP n (pos.getD ((x5).toNat) 0) (AE.getD ((x5).toNat) 0)).bind fun y1=> bif (!y1) then some false else if AJ (x5+1) then self (.l1 (x5+1)) else none else none else some true
def ZF (n:Nat)(self:VL -> Option Bool)(pos AE:List Int):Option Bool:= bif ((pos.length:Int) != (AE.length:Int)) then some false else self (.l1 0)
def Lr (pos AE:List Int):Nat -> VL -> Option Bool
 | 0,_=>none
 | n+1,.l1 x5=>Ri n (Lr pos AE n) pos AE x5
def G4 (n:Nat)(pos AE:List Int):Option Bool:=ZF n (Lr pos AE n) pos AE
def qv (n B:Nat)(N:Yd 0)(pos AE:List Int)(r:Bool):VL -> Prop
 | .l1 x5=>∀ m0:Nat,n<=m0 -> TW B N (FQ Tryz.f22 0 (.bool r) []) (A4 m0 (BB (AX Tryz.f22) 0 [])) ⟨AG 27 [(0,.ints pos),(1,.ints AE),(5,.i x5)],[]⟩
theorem qw (B:Nat)(N:Yd 0)(pos AE:List Int):Al (Lr pos AE) (qv · B N pos AE):=ia (fun _=>rfl) fun n AI pt r h=>by
 cases pt
 case l1 x5=>
  intro m0 AD;refine rd AD fun m0 AD=>?_
  revert r;apply gO;exact bi 14 (jg tc (gc (gi (gi (cf zAN [] fun _=>bi 26 (lE SN [4] []) (gw 16 (lG SN [] (AI _ _ · m0 AD)))))))) (lE SN [4] [])
theorem Rg {n:Nat}{pos AE:List Int}{r:Bool}(h:G4 n pos AE=some r):EQ 22 [.ints pos,.ints AE] [] (.bool r) [] true:=by
 refine ot Tryz.func22 fun B N=>?_
 revert r;apply gO;exact bi 10 (lE SN [4] []) (lN SN [] ((qw B N pos AE n) _ _ · n Nat.le.refl))
def rR (n:Nat):Option AA:= some (⟨2,2,([1,2]:List Int),([([1]:List Int),([0]:List Int)]:List (List Int)),([(⟨1,([0,1]:List Int),0,0,0,0,([]:List Int),0,0⟩:AB)]:List AB)⟩:AA)
def gA (n:Nat):Option AA:=rR n
theorem rQ {n:Nat}{r:AA}(h:gA n=some r):EQ 24 [] [] (.agg 5 (L1 (AN r))) [] true:=by
 refine ot Tryz.func24 fun B N=>?_
 revert r;apply gO;exact jz 2 2 (jg (by decide:1=([1]:List Int).length) (jz 3 3 (jg (by decide:1=([0]:List Int).length) (ja 4 4 1 (GJ (c:=BX) (L:=([([1]:List Int),([0]:List Int)]:List (List Int))) (vals:=[.ints ([1]:List Int),.ints ([0]:List Int)]) rfl ⟨⟨_,rfl,⟨A3,trivial⟩⟩,⟨_,rfl,⟨A3,trivial⟩⟩,trivial⟩) (jz 5 5 (jg (by decide:2=([0,1]:List Int).length) (ja 7 6 9 (GJ (c:=Bp) (L:=([(⟨1,([0,1]:List Int),0,0,0,0,([]:List Int),0,0⟩:AB)]:List AB)) (vals:=[.agg 9 (L1 [.i 1,.ints ([0,1]:List Int),.i 0,.i 0,.i 0,.i 0,.nils,.i 0,.i 0])]) rfl ⟨⟨_,rfl,⟨A3,A3,A3,A3,A3,A3,AS.ints_nil,A3,A3,trivial⟩⟩,trivial⟩) (jt (lF fun p=>ez AC [0] [0,1,4,6] p [1,2,3] (H0.g (by decide:2=([1,2]:List Int).length) |>.g (by decide:2=([([1]:List Int),([0]:List Int)]:List (List Int)).length) |>.g (Eq.refl 1)))))))))))
def zBT (y1:AA):DH:=[oC (AN y1),oI ([0,0]:List Int),none,oI ([3,3]:List Int),oI ([1,2]:List Int),none,oI ([0,1]:List Int)]
def zBS (y1:AA):DH:=[oC (AN y1),oI ([0,0]:List Int),none,oI ([3,3]:List Int),oI ([1,2]:List Int),none,oI ([0,1]:List Int),oI ([1,2]:List Int),none]
def zBR (y1:AA):DH:=[oC (AN y1),none,none,oI ([3,1]:List Int),oI ([3,1]:List Int),oI ([3,1]:List Int),oI ([1,0]:List Int)]
def zBQ (y1:AA):DH:=[oC (AN y1),none,none,oI ([3,1]:List Int),oI ([3,1]:List Int),oI ([3,1]:List Int),oI ([1,0]:List Int),none]
def zBP (y1:AA):DH:=[oC (AN y1),none,none,oI ([3,1]:List Int),oI ([3,1]:List Int),oI ([3,1]:List Int),oI ([1,0]:List Int),none,none,none,none]
def jH (n:Nat):Option Bool:= (gA n).bind fun y1=> (Ld n y1 ([0,0]:List Int) ([(3,0)]:List (Int×Int)) ([]:List Int)).bind fun y2=> (Ld n y1 ([3,3]:List Int) ([]:List (Int×Int)) ([]:List Int)).bind fun y3=> (Ld n y1 ([1,2]:List Int) ([(4,0)]:List (Int×Int)) ([0,1]:List Int)).bind fun y4=> (Ld n y1 ([1,2]:List Int) ([(4,0)]:List (Int×Int)) ([]:List Int)).bind fun y5=> (OP n y1 ([3,1]:List Int) ([(2,0),(3,0),(4,0)]:List (Int×Int))).bind fun y6=> (OP n y1 ([3,1]:List Int) ([(2,0),(1,0),(3,0),(4,0)]:List (Int×Int))).bind fun y7=> (pO n y1 ([3,1]:List Int) ([(2,0),(1,0),(3,0),(4,0)]:List (Int×Int))).bind fun y8=> (a7 n y1 ([3,1]:List Int) ([(2,0),(1,0),(3,0),(4,0)]:List (Int×Int)) 1).bind fun y9=> (Ld n y1 ([3,1]:List Int) ([(2,0),(1,0),(3,0),(4,0)]:List (Int×Int)) ([1,0]:List Int)).bind fun ZA=> (OP n y1 ([3,3]:List Int) ([]:List (Int×Int))).bind fun fW=> bif (y2.2 != 0) then some false else bif (y3.2 != 0) then some false else bif (y4.2 != 0) then some false else bif (y5.2 != 0) then some false else bif (y6.2 != 280) then some false else bif (y7.2 != 0) then some false else bif (y8.2 != 0) then some false else bif (y9.2 != 0) then some false else bif (ZA.2 != 0) then some false else bif (fW.2 != 280) then some false else bif y2.1 then bif (!y3.1) then bif y4.1 then bif (!y5.1) then (jI n y7.1 ([([0,0]:List Int),([2,1]:List Int)]:List (List Int))).bind fun qm=> bif qm then bif (y8.1==1) then bif (y9.1==3) then some ZA.1 else some false else some false else some false else some false else some false else some false else some false
def Np (n:Nat):Option Bool:=jH n
theorem jG {n:Nat}{r:Bool}(h:Np n=some r):EQ 10 [] [] (.bool r) [] true:=by
 unfold Np jH at h;refine ot Tryz.func10 fun B N=>?_
 revert r;apply gO
 exact cf rQ [] fun y1=>jt (ja 29 2 2 (GJ (c:=BM) (L:=([(3,0)]:List (Int×Int))) (vals:=[.agg 2 (L1 [.i 3,.i 0])]) rfl ⟨⟨_,rfl,⟨A3,A3,trivial⟩⟩,trivial⟩) (jz 29 2 (jg (by decide:1=([(3,0)]:List (Int×Int)).length) (cn fun y2 B6=>jc (sb [.agg 5 (L1 (AN y1)),.msl 1 1 0 2,.sl 2 (([(3,0)]:List (Int×Int)).length) (AP BM ([(3,0)]:List (Int×Int))),.nils] (RD B6) [oC (AN y1),oI ([0,0]:List Int),none] ⟨Ae.plain (by kernel_rfl),Ae.ints rfl (by decide:2=([0,0]:List Int).length),Ae.plain (by kernel_rfl),Ae.nils,trivial⟩) (cn fun y3 bz=>jc (sb [.agg 5 (L1 (AN y1)),.msl 3 1 0 2,.nils,.nils] (RD bz) [oC (AN y1),oI ([0,0]:List Int),none,oI ([3,3]:List Int)] ⟨Ae.plain (by kernel_rfl),Ae.ints rfl (by decide:2=([3,3]:List Int).length),(Ae.dle (by kernel_rfl) (AS.sl_nil _ _)),Ae.nils,trivial⟩) (ja 43 5 2 (GJ (c:=BM) (L:=([(4,0)]:List (Int×Int))) (vals:=[.agg 2 (L1 [.i 4,.i 0])]) rfl ⟨⟨_,rfl,⟨A3,A3,trivial⟩⟩,trivial⟩) (jz 43 5 (jg (by decide:1=([(4,0)]:List (Int×Int)).length) (cn fun y4 bx=>jc (sb [.agg 5 (L1 (AN y1)),.msl 4 1 0 2,.sl 2 (([(4,0)]:List (Int×Int)).length) (AP BM ([(4,0)]:List (Int×Int))),.msl 6 1 0 2] (RD bx) (zBT y1) ⟨Ae.plain (by kernel_rfl),Ae.ints rfl (by decide:2=([1,2]:List Int).length),Ae.plain (by kernel_rfl),Ae.ints rfl (by decide:2=([0,1]:List Int).length),trivial⟩) (ja 52 8 2 (GJ (c:=BM) (L:=([(4,0)]:List (Int×Int))) (vals:=[.agg 2 (L1 [.i 4,.i 0])]) rfl ⟨⟨_,rfl,⟨A3,A3,trivial⟩⟩,trivial⟩) (jz 52 8 (jg (by decide:1=([(4,0)]:List (Int×Int)).length) (cn fun y5 bv=>jc (sb [.agg 5 (L1 (AN y1)),.msl 7 1 0 2,.sl 2 (([(4,0)]:List (Int×Int)).length) (AP BM ([(4,0)]:List (Int×Int))),.nils] (RD bv) (zBS y1) ⟨Ae.plain (by kernel_rfl),Ae.ints rfl (by decide:2=([1,2]:List Int).length),Ae.plain (by kernel_rfl),Ae.nils,trivial⟩) (ja 59 9 2 (GJ (c:=BM) (L:=([(2,0),(3,0),(4,0)]:List (Int×Int))) (vals:=[.agg 2 (L1 [.i 2,.i 0]),.agg 2 (L1 [.i 3,.i 0]),.agg 2 (L1 [.i 4,.i 0])]) rfl ⟨⟨_,rfl,⟨A3,A3,trivial⟩⟩,⟨_,rfl,⟨A3,A3,trivial⟩⟩,⟨_,rfl,⟨A3,A3,trivial⟩⟩,trivial⟩) (fun p r h=>by
  refine gz (AV 7 AC) [0,9] p [1] (H0.g (by decide:3=([(2,0),(3,0),(4,0)]:List (Int×Int)).length)) (Co (AX Tryz.f10) 7 []) (AG 175 [(1,.ref 0 0),(2,.bool y2.1),(3,.i y2.2),(4,.bool y3.1),(5,.i y3.2),(6,.bool y4.1),(7,.i y4.2),(8,.bool y5.1),(9,.i y5.2),(10,.sl 2 (([(2,0),(3,0),(4,0)]:List (Int×Int)).length) (AP BM ([(2,0),(3,0),(4,0)]:List (Int×Int))))]) [oC (AN y1),none] ?_;revert r;apply gO
  exact jz 62 2 (jg (by decide:2=([3,1]:List Int).length) (cf Wz [oC (AN y1),none,none] fun y6=>ja 71 3 2 (GJ (c:=BM) (L:=([(2,0),(1,0),(3,0),(4,0)]:List (Int×Int))) (vals:=[.agg 2 (L1 [.i 2,.i 0]),.agg 2 (L1 [.i 1,.i 0]),.agg 2 (L1 [.i 3,.i 0]),.agg 2 (L1 [.i 4,.i 0])]) rfl ⟨⟨_,rfl,⟨A3,A3,trivial⟩⟩,⟨_,rfl,⟨A3,A3,trivial⟩⟩,⟨_,rfl,⟨A3,A3,trivial⟩⟩,⟨_,rfl,⟨A3,A3,trivial⟩⟩,trivial⟩) (fun p r h=>by
   refine gz (AV 9 AC) [0,3] p [1] (H0.g (by decide:4=([(2,0),(1,0),(3,0),(4,0)]:List (Int×Int)).length)) (Co (AX Tryz.f10) 9 []) (AG 175 [(1,.ref 0 0),(2,.bool y2.1),(3,.i y2.2),(4,.bool y3.1),(5,.i y3.2),(6,.bool y4.1),(7,.i y4.2),(8,.bool y5.1),(9,.i y5.2),(12,.i y6.2),(13,.sl 2 (([(2,0),(1,0),(3,0),(4,0)]:List (Int×Int)).length) (AP BM ([(2,0),(1,0),(3,0),(4,0)]:List (Int×Int))))]) [oC (AN y1),none] ?_;revert r;apply gO;exact jz 74 2 (jg (by decide:2=([3,1]:List Int).length) (cf Wz [oC (AN y1),none,none] fun _=>cn fun y8 hy8=>jc (sb [.agg 5 (L1 (AN y1)),.msl 3 1 0 2,.sl 2 (([(2,0),(1,0),(3,0),(4,0)]:List (Int×Int)).length) (AP BM ([(2,0),(1,0),(3,0),(4,0)]:List (Int×Int)))] (zEN hy8) [oC (AN y1),none,none,oI ([3,1]:List Int)] ⟨Ae.plain (by kernel_rfl),Ae.ints rfl (by decide:2=([3,1]:List Int).length),Ae.plain (by kernel_rfl),trivial⟩) (cn fun y9 hy9=>jc (sb [.agg 5 (L1 (AN y1)),.msl 4 1 0 2,.sl 2 (([(2,0),(1,0),(3,0),(4,0)]:List (Int×Int)).length) (AP BM ([(2,0),(1,0),(3,0),(4,0)]:List (Int×Int))),.i 1] (xx hy9) [oC (AN y1),none,none,oI ([3,1]:List Int),oI ([3,1]:List Int)] ⟨Ae.plain (by kernel_rfl),Ae.ints rfl (by decide:2=([3,1]:List Int).length),Ae.plain (by kernel_rfl),Ae.plain (by kernel_rfl),trivial⟩) (cn fun ZA zAY=>jc (sb [.agg 5 (L1 (AN y1)),.msl 5 1 0 2,.sl 2 (([(2,0),(1,0),(3,0),(4,0)]:List (Int×Int)).length) (AP BM ([(2,0),(1,0),(3,0),(4,0)]:List (Int×Int))),.msl 6 1 0 2] (RD zAY) (zBR y1) ⟨Ae.plain (by kernel_rfl),Ae.ints rfl (by decide:2=([3,1]:List Int).length),Ae.plain (by kernel_rfl),Ae.ints rfl (by decide:2=([1,0]:List Int).length),trivial⟩) (jz 103 7 (jg (by decide:2=([3,3]:List Int).length) (cn fun fW zAX=>jc (fb (ES.argsLe (ds:=[.agg 5 (L1 (AN y1)),.ints ([3,3]:List Int),.nils]) (Wz zAX) ⟨A3,A3,(AS.sl_nil _ _),trivial⟩) (zBQ y1)) (bi 108 (lE AC [0] []) (bi 111 (lE AC [0] []) (bi 115 (lE AC [0] []) (bi 119 (lE AC [0] []) (bi 123 (lE AC [0] []) (bi 127 (lE AC [0] []) (bi 131 (lE AC [0] []) (bi 135 (lE AC [0] []) (bi 139 (lE AC [0] []) (bi 143 (lE AC [0] []) (bi 145 (bi 148 (bi 151 (bi 155 (jz 159 8 (jg (by decide:2=([0,0]:List Int).length) (jz 160 9 (jg (by decide:2=([2,1]:List Int).length) (ja 161 10 1 (GJ (c:=BX) (L:=([([0,0]:List Int),([2,1]:List Int)]:List (List Int))) (vals:=[.ints ([0,0]:List Int),.ints ([2,1]:List Int)]) rfl ⟨⟨_,rfl,⟨A3,trivial⟩⟩,⟨_,rfl,⟨A3,trivial⟩⟩,trivial⟩) (jz 161 10 (jg (by decide:2=([([0,0]:List Int),([2,1]:List Int)]:List (List Int)).length) (cf tS (zBP y1) fun _=>bi 162 (bi 166 (bi 170 (lE AC [0] []) (lE AC [0] [])) (lE AC [0] [])) (lE AC [0] []))))))))) (lE AC [0] [])) (lE AC [0] [])) (lE AC [0] [])) (lE AC [0] [])))))))))))))))))))))))))))))))))))))
def lw (n:Nat)(q:AA)(pos:List Int)(tree:List (Int×Int))(AE other:List Int):Option Bool:= (Np n).bind fun y1=> bif (!y1) then some false else (LY n q pos tree).bind fun y2=> bif (!y2) then some true else bif (decide ((AE.length:Int)>20)) then some true else bif (decide ((other.length:Int)>20)) then some true else (Ld n q pos tree AE).bind fun y3=> bif (y3.2 != 0) then some (!y3.1) else bif (!y3.1) then some true else bif (decide ((AE.length:Int)>0)) then (GI n q AE).bind fun y4=> bif (y4.2 != 0) then some false else bif (!y4.1) then some false else (G4 n pos AE).bind fun y5=> bif (!y5) then some false else (GI n q other).bind fun y6=> bif (y6.2 != 0) then some true else bif (!y6.1) then some true else (G4 n pos other).bind fun y7=> bif (!y7) then some true else (L9 n AE other).bind fun y8=> some y8 else (GI n q other).bind fun y4=> bif (y4.2 != 0) then some true else bif (!y4.1) then some true else (G4 n pos other).bind fun y5=> bif (!y5) then some true else (L9 n AE other).bind fun y6=> some y6
def bQ (n:Nat)(q:AA)(pos:List Int)(tree:List (Int×Int))(AE other:List Int):Option Bool:=lw n q pos tree AE other
theorem zJ {n:Nat}{q:AA}{pos:List Int}{tree:List (Int×Int)}{AE other:List Int}{r:Bool}(h:bQ n q pos tree AE other=some r):EQ 5 [.agg 5 (L1 (AN q)),.ints pos,.sl 2 tree.length (AP BM tree),.ints AE,.ints other] [] (.bool r) [] true:=by
 unfold bQ lw at h;refine ot Tryz.func5 fun B N=>?_
 revert r;apply gO;exact cf jG [oC (AN q)] fun _=>bi 18 (lE AC [10] []) (cf oa [oC (AN q)] fun _=>bi 23 (lE AC [10] []) (bi 27 (lE AC [10] []) (bi 32 (lE AC [10] []) (cf RD [oC (AN q)] fun _=>bi 43 (lE AC [10] []) (bj 46 (fun c5=>jb 49 c5 (lE AC [10] [])) (fun _=>bi 52 (cf Rv [oC (AN q)] fun _=>bi 60 (lE AC [10] []) (bi 63 (lE AC [10] []) (cf Rg [oC (AN q)] fun _=>bi 69 (lE AC [10] []) (cf Rv [oC (AN q)] fun _=>bi 78 (lE AC [10] []) (bi 81 (lE AC [10] []) (cf Rg [oC (AN q)] fun _=>bi 87 (lE AC [10] []) (cf Zt [oC (AN q)] fun _=>lE AC [10] []))))))) (cf Rv [oC (AN q)] fun _=>bi 78 (lE AC [10] []) (bi 81 (lE AC [10] []) (cf Rg [oC (AN q)] fun _=>bi 87 (lE AC [10] []) (cf Zt [oC (AN q)] fun _=>lE AC [10] []))))))))))
theorem ue:As (Aj Tryz.f6 18) [] (List.range 13) []:=by unfold As;kernel_rfl
def FY:Bh:=fun i=>match i with
 | 18=>.ord [] (List.range 13) []
 | _=>.no
inductive Td where
 | l1 (x9:List (List Int)) (x13 DU:Int)
 | l2 (x9:List (List Int)) (x13 DU Br:Int)
def OQ (n:Nat)(self:Td -> Option Bool)(q:AA)(pos:List Int)(tree:List (Int×Int))(AE:List Int)(x9:List (List Int))(x13 DU:Int):Option Bool:= bif (decide (DU<(x9.length:Int))) then if 0<=DU/\ DU<(x9.length:Int) then (G4 n (x9.getD ((DU).toNat) []) AE).bind fun y1=> bif (!y1) then if AJ (DU+1) then self (.l1 x9 x13 (DU+1)) else none else if AJ (x13+1) then self (.l2 x9 (x13+1) DU 0) else none else none else some (x13==1)
def Tc (n:Nat)(self:Td -> Option Bool)(q:AA)(pos:List Int)(tree:List (Int×Int))(AE:List Int)(x9:List (List Int))(x13 DU Br:Int):Option Bool:= bif (decide (Br<(AE.length:Int))) then if (0<=DU/\ DU<(x9.length:Int))/\ (0<=Br/\ Br<(((x9.getD ((DU).toNat) []).length:Nat):Int))/\ (0<=Br/\ Br<(AE.length:Int))/\ (0<=AE.getD ((Br).toNat) 0/\ AE.getD ((Br).toNat) 0<=(IntKind.i64.bits:Int)) then bif (((x9.getD ((DU).toNat) []).getD ((Br).toNat) 0) != (IntKind.i64.wrap (1*2 ^ (AE.getD ((Br).toNat) 0).toNat))) then some false else if AJ (Br+1) then self (.l2 x9 x13 DU (Br+1)) else none else none else if AJ (DU+1) then self (.l1 x9 x13 (DU+1)) else none
def zM (n:Nat)(self:Td -> Option Bool)(q:AA)(pos:List Int)(tree:List (Int×Int))(AE:List Int):Option Bool:= (Np n).bind fun y1=> bif (!y1) then some false else (LY n q pos tree).bind fun y2=> bif (!y2) then some true else bif (decide ((AE.length:Int)>20)) then some true else (OP n q pos tree).bind fun y3=> (GI n q AE).bind fun y4=> bif (y3.2 != 0) then bif (y3.2==0) then some true else some ((y3.1.length:Int)==0) else bif (y4.2 != 0) then bif (y3.2==0) then some true else some ((y3.1.length:Int)==0) else bif (!y4.1) then bif (y3.2==0) then some true else some ((y3.1.length:Int)==0) else (G4 n pos AE).bind fun y5=> bif (!y5) then bif (y3.2==0) then some true else some ((y3.1.length:Int)==0) else self (.l1 y3.1 0 0)
def HG (q:AA)(pos:List Int)(tree:List (Int×Int))(AE:List Int):Nat -> Td -> Option Bool
 | 0,_=>none
 | n+1,.l1 x9 x13 DU=>OQ n (HG q pos tree AE n) q pos tree AE x9 x13 DU
 | n+1,.l2 x9 x13 DU Br=>Tc n (HG q pos tree AE n) q pos tree AE x9 x13 DU Br
def lx (n:Nat)(q:AA)(pos:List Int)(tree:List (Int×Int))(AE:List Int):Option Bool:=zM n (HG q pos tree AE n) q pos tree AE
def zN (n B:Nat)(N:Yd 0)(q:AA)(pos:List Int)(tree:List (Int×Int))(AE:List Int)(r:Bool):Td -> Prop
 | .l1 x9 x13 DU=>∀ m0:Nat,n<=m0 -> TW B N (FQ Tryz.f6 0 (.bool r) []) (A4 m0 (BB (AX Tryz.f6) 0 [])) ⟨AG 100 [(3,.ints AE),(9,.sl 1 x9.length (AP BX x9)),(13,.i x13),(14,.i DU)],[]⟩
 | .l2 x9 x13 DU Br=>∀ m0 m1:Nat,n<=m0 -> n<=m1 -> TW B N (FQ Tryz.f6 0 (.bool r) []) (A4 m1 (BB (AX Tryz.f6) 2 [m0])) ⟨AG 100 [(3,.ints AE),(9,.sl 1 x9.length (AP BX x9)),(13,.i x13),(14,.i DU),(15,.i Br)],[]⟩
theorem zO (B:Nat)(N:Yd 0)(q:AA)(pos:List Int)(tree:List (Int×Int))(AE:List Int):Al (HG q pos tree AE) (zN · B N q pos tree AE):=ia (fun _=>rfl) fun n AI pt r h=>by
 cases pt
 case l1 x9 x13 DU=>
  intro m0 AD;refine rd AD fun m0 AD=>?_
  revert r;apply gO;exact bi 67 (gi (cf Rg [] fun _=>bi 76 (gw 69 (lG FY [] (AI _ _ · m0 AD))) (gw 78 (lN FY [] (AI _ _ · m0 n AD Nat.le.refl))))) (lE FY [8] [])
 case l2 x9 x13 DU Br=>
  intro m0 m1 AD Ax;have AD:=zC3 AD;refine rd Ax fun m1 Ax=>?_
  revert r;apply gO;exact bi 82 (jg ue (gc (gi (gc (gi (gc (gi (gi (bi 97 (lE FY [8] []) (gw 84 (lG FY [] (AI _ _ · m0 m1 AD Ax)))))))))))) (gw 69 (lG FY [] (AI _ _ · m0 AD)))
theorem zL {n:Nat}{q:AA}{pos:List Int}{tree:List (Int×Int)}{AE:List Int}{r:Bool}(h:lx n q pos tree AE=some r):EQ 6 [.agg 5 (L1 (AN q)),.ints pos,.sl 2 tree.length (AP BM tree),.ints AE] [] (.bool r) [] true:=by
 refine ot Tryz.func6 fun B N=>?_
 revert r;apply gO;exact cf jG [oC (AN q)] fun _=>bi 17 (lE FY [8] []) (cf oa [oC (AN q)] fun _=>bi 22 (lE FY [8] []) (bi 26 (lE FY [8] []) (cf Wz [oC (AN q)] fun _=>cf Rv [oC (AN q)] fun _=>bi 42 (bi 58 (lE FY [8] []) (lE FY [8] [])) (bi 45 (bi 58 (lE FY [8] []) (lE FY [8] [])) (bi 49 (bi 58 (lE FY [8] []) (lE FY [8] [])) (cf Rg [oC (AN q)] fun _=>bi 55 (bi 58 (lE FY [8] []) (lE FY [8] [])) (lN FY [] ((zO B N q pos tree AE n) _ _ · n Nat.le.refl))))))))
end Go.Proofs.YtkjbblkieglmlaaGreatDoor
namespace Go.Proofs.YtkjbblkieglmlaaGreatDoor
open Go.RowKit
theorem tR:Ev Np true:=⟨300,fun n hn=>by
 obtain ⟨k,rfl⟩: ∃ k,n=k+300:=⟨n-300,by omega⟩
 show Np (k+300)=some true
 kernel_rfl⟩
section
variable {q:AA} {pos:List Int} {tree:List (Int×Int)}
theorem ly {n f:Nat -> Option Bool}(h: ∀ m,n m=(Np m).bind fun y1=>bif (!y1) then some false else (LY m q pos tree).bind fun y2=>bif (!y2) then some true else f m)(hf:pos.length<=20 -> tree.length<=400 -> Ev f true):Ev n true:=by
 obtain ⟨N1,h1⟩:=tR
 by_cases hp:pos.length<=20/\ tree.length<=400
 ·obtain ⟨N2,h2⟩:=hf hp.1 hp.2;refine ⟨N1+N2+q.cons.length+1,fun m hm=>?_⟩;obtain ⟨b,hb⟩:=oY (q:=q) (n:=m) (by omega);rw [h m,h1 m (by omega),zAS]
  show ((LY m q pos tree).bind fun y2=>bif (!y2) then some true else f m)=_
  unfold LY YK;rw [hb,zAS,zAU (by omega),zAU (by omega)];cases b with
  | false=>rfl
  | true=>exact h2 m (by omega)
 ·refine ⟨N1+q.cons.length+1,fun m hm=>?_⟩;obtain ⟨b,hb⟩:=oY (q:=q) (n:=m) (by omega);rw [h m,h1 m (by omega),zAS]
  show ((LY m q pos tree).bind fun y2=>bif (!y2) then some true else f m)=_
  unfold LY YK;rw [hb,zAS];cases b with
  | false=>rfl
  | true=>
   rw [zAV]
   by_cases h20:pos.length<=20
   ·rw [zAU (by omega),zAP (by omega)];rfl
   ·rw [zAP (by omega)];rfl
def fQ (q:AA)(pos:List Int)(tree:List (Int×Int))(r:List Au×List Int×Int):Prop:= (r.2.2≠0/\ r.1= []/\ r.2.1= []/\ (B8 q=true -> posOk q pos=true -> tree.length<=65536 -> r.2.2=280))∨(r.2.2=0/\ B8 q=true/\ posOk q pos=true/\ tree.length<=65536/\ r.2.1.length=tree.length/\ r.1.length<=tree.length/\ Tk q tree none pos 0 0 (List.replicate tree.length 0) tree.length r.1 r.2.1)
theorem oP (hF:EN q)(hl:pos.length<=LB): ∃ r,Ev (fun n=>Gu n q pos tree) r/\ fQ q pos tree r:=by
 have KZ: ∀ c:Int,c≠0 -> (B8 q=true -> posOk q pos=true -> tree.length<=65536 -> c=280) -> Ev (fun n=>JW n q pos tree) c -> ∃ r,Ev (fun n=>Gu n q pos tree) r/\ fQ q pos tree r:=fun c hc I8 h=>by
  obtain ⟨N,hN⟩:=h;have hN: ∀ n,N<=n -> JW n q pos tree=some c:=hN;refine ⟨([],[],c),⟨N,fun n hn=>?_⟩,.inl ⟨hc,rfl,rfl,I8⟩⟩
  show Gu n q pos tree=_
  unfold Gu;rw [hN n hn,zAS,zC8.2 hc,zAV]
 have hV: ∀ n,FV q+pos.length+1<=n -> JW n q pos tree=some (if B8 q=true then (if posOk q pos=true then (if tree.length>65536 then 2 else 0) else 250) else 191):=fun n hn=>by
  unfold JW ZI;rw [VO hF (by omega),zAS,aX hF (by omega) hl (by omega)];unfold N7;cases B8 q with
  | false=>rfl
  | true=>
   cases posOk q pos with
   | false=>rfl
   | true=>
    by_cases h:tree.length>65536
    ·have:decide ((tree.length:Int)>65536)=true:=zAU (by omega);simp only [this,h,zC9];rfl
    ·have:decide ((tree.length:Int)>65536)=false:=zAP (by omega);simp only [this,h,zC9,zGQ];rfl
 by_cases hv:B8 q=true
 rotate_left
 ·exact KZ 191 (by decide) (fun h=>absurd h hv) ⟨_,fun n hn=>(hV n hn).trans (by rw [zAh hv])⟩
 by_cases hp:posOk q pos=true
 rotate_left
 ·exact KZ 250 (by decide) (fun _ h=>absurd h hp) ⟨_,fun n hn=>(hV n hn).trans (by rw [zAM hv,zAh hp])⟩
 by_cases hT:tree.length>65536
 ·exact KZ 2 (by decide) (fun _ _ h=>by omega) ⟨_,fun n hn=>(hV n hn).trans (by rw [zAM hv,zAM hp,zAM hT])⟩
 have hZ: ∀ n,FV q+pos.length+1<=n -> JW n q pos tree=some 0:=fun n hn=>by rw [hV n hn,zAM hv,zAM hp,zAh hT]
 obtain ⟨⟨l,out,o⟩,⟨N,hN⟩,g1,g2,g3⟩:=xn (pos0:=pos) hF hv (show tree.length<=65536 by omega) tree.length 0 0 pos (List.replicate tree.length 0) (by omega) hp zAw (by omega) (by omega);have hN: ∀ n,N<=n -> CD n pos 0 0 (List.replicate tree.length 0) q tree tree.length pos=some (l,out,o):=hN;have g1:o.length=tree.length:=g1;have g2:l.length+0<=tree.length:=g2;have L:(1000000000000:Nat)=BA:=rfl
 have start: ∀ (Iy:Option Unit),(∀ n,N<=n -> MZ n (List.replicate tree.length 0) q tree tree.length pos=some (l,Iy,o)) -> ∀ n,N+FV q+pos.length+1<=n -> Gu n q pos tree=some (if Iy.isSome then l else [],if Iy.isSome then o else [],if Iy.isSome then 0 else 280):=fun Iy h n hn=>by
  unfold Gu;rw [hZ n (by omega),zAS]
  show (if _ then _ else none)=_
  rw [zAM ⟨rfl,by omega,by omega⟩,h n (by omega),zAS,zAM ⟨g1.symm,by rw [←L];show l.length<=_;omega⟩]
 have fail:(∀ n,N<=n -> MZ n (List.replicate tree.length 0) q tree tree.length pos=some (l,none,o)) -> ∃ r,Ev (fun n=>Gu n q pos tree) r/\ fQ q pos tree r:=fun h=>⟨([],[],280),⟨_,fun n hn=>start none h n hn⟩,.inl ⟨by decide,rfl,rfl,fun _ _ _=>rfl⟩⟩
 cases out with
 | none=>
  refine fail fun n hn=>?_
  unfold MZ QM;rw [hN n hn];rfl
 | some x=>
  obtain ⟨v,rfl,v1,v2,v3,v4,v5⟩:=g3 x rfl
  by_cases hvL:v=tree.length
  ·refine ⟨(l,o,0),⟨_,fun n hn=>start (some ()) (fun n hn=>?_) n hn⟩,.inr ⟨rfl,hv,hp,by omega,g1,by omega,by rw [hvL] at v5;exact v5⟩⟩;unfold MZ QM;rw [hN n hn]
   show (bif ((v:Int)==(tree.length:Int)) then _ else _:Option (YR Au Unit (List Int))).map _=_
   rw [zBA.2 (by omega),zAV];simp
  ·refine fail fun n hn=>?_
   unfold MZ QM;rw [hN n hn]
   show (bif ((v:Int)==(tree.length:Int)) then _ else _:Option (YR Au Unit (List Int))).map _=_
   rw [zCK.2 (by omega),zAR];simp
theorem zC {r:List Au×List Int×Int}(h:Ev (fun n=>Gu n q pos tree) r)(hl:r.1.length<=65536):Ev (fun n=>OP n q pos tree) (r.1.map (·.1),r.2.2):=by
 obtain ⟨l,o,c⟩:=r;have hl:l.length<=65536:=hl;have L:(1000000000000:Nat)=BA:=rfl
 have key: ∀ (k j:Nat),j+k=l.length -> Ev (fun n=>Jw q pos tree n (.l2 j c l (l.length:Int) (j:Int) ((l.take j).map (·.1)))) (l.map (·.1),c):=by
  intro k
  induction k with
  | zero=>
   intro j e;refine Ev.one fun n=>?_
   show Ta n (Jw q pos tree n) q pos tree j c l (l.length:Int) (j:Int) _=_
   unfold Ta;rw [zAP (by omega),zAR,List.take_of_length_le (by omega),zAM (by rw [zBC];omega)]
  | succ k ih=>
   intro j e;have hj:j<l.length:=by omega
   refine BK.ev (BK.one fun n=>?_) (ih (j+1) (by omega))
   show Ta n (Jw q pos tree n) q pos tree j c l (l.length:Int) (j:Int) _=_
   unfold Ta;have e1:((l.take j).map (·.1)).length=j:=by rw [zBC,zHC];omega
   rw [zAU (by omega),zAV,zAM ⟨⟨by omega,by omega⟩,e1.symm,by rw [e1,←L];show j+1<=_;omega,Av.2 ⟨by omega,by omega⟩⟩,zAT,e1]
   rw [show (l.take (j+1)).map (·.1)=(l.take j).map (·.1)++[(l.getD j default).1] by
    rw [zGO hj,List.map_append,u8,zAa hj];rfl]
   rfl
 refine Ev.eq (Ev.bind h (b:=fun n y1=>Jw q pos tree n (.l1 y1.2.2 y1.1 (y1.1.length:Int))) ?_) fun n=>rfl
 cases hn:l with
 | nil=>
  refine Ev.one fun n=>?_
  show W0 n (Jw q pos tree n) q pos tree c [] 0=_
  rfl
 | cons x t=>
  have:=key t.length 1 (by rw [hn,zCU];omega);rw [hn] at this;refine BK.ev (BK.one fun n=>?_) this
  show W0 n (Jw q pos tree n) q pos tree c (x::t) (((x::t).length:Nat):Int)=_
  unfold W0;rw [zAU (by simp),zAV,zAM ⟨zCn _,by simp⟩];rfl
end
section
variable {q:AA} {i:Int} {g pos x:List Int}
def WI (g p:List Int):Prop:=g.length=p.length/\ ∀ j,j<g.length -> (0<=g.getD j 0/\ g.getD j 0<=15)/\ tb (p.getD j 0) (g.getD j 0).toNat=true
theorem fl (G:Gd q g)(hv:B8 q=true):(∀ j s,tb ((Ai g).getD j 0) s=true -> tb (pos.getD j 0) s=true)↔∀ j,j<g.length -> tb (pos.getD j 0) (g.getD j 0).toNat=true:=by
 constructor
 ·intro h j hj;exact h j _ (by rw [Po G hv hj,zAU rfl])
 ·intro h j s hs
  by_cases hj:j<g.length
  ·rw [Po G hv hj,zAi] at hs;subst hs;exact h j hj
  ·rw [u8,zCo (by rw [E4];omega)] at hs;exact absurd hs G5
theorem sQ (C:Bm q i pos)(G:Gd q g)(hM:CB q (con q i) g)(hW:WI g pos)(hx:PR q (con q i) pos x):WI g x:=by
 have C2:=G.ctx C.fit C.valid C.i0 C.i1;have:=wj C C2 ((fl G C.valid).2 fun j hj=>(hW.2 j hj).2) hx (((yJ C2 G).1 hM).2);have h2:=(fl G C.valid).1 this;exact ⟨by rw [hx.len];exact hW.1,fun j hj=>⟨(hW.2 j hj).1,h2 j hj⟩⟩
end
def Dd (g p:List Int):Bool:=decide (g.length=p.length)&&(List.range g.length).all fun j=>(decide (0<=g.getD j 0)&&decide (g.getD j 0<=15))&&tb (p.getD j 0) (g.getD j 0).toNat
theorem Ij {g p:List Int}:Dd g p=true↔WI g p:=by
 unfold Dd WI;simp only [zAW,zAi,zAg,zAn]
section
variable {q:AA} {pos p g:List Int} {tree:List (Int×Int)} {m:Option (Nat×List Nat)} {a d v:Nat} {e e2:List Int} {l:List Au}
theorem WI.alive (h:WI g p)(hp: ∀ j,j<p.length -> CC (p.getD j 0)):C7 p=false:=
 JH.2 fun j hj=>(FU (hp j hj)).2 ⟨(g.getD j 0).toNat,by have:=(h.2 j (by have:=h.1;omega)).1;omega,(h.2 j (by have:=h.1;omega)).2⟩
theorem fS (h:0<p.length){n:Nat}: ¬ WI g (List.replicate n 0)∨n=0:=by
 by_cases hn:n=0
 ·exact .inr hn
 ·refine .inl fun hW=>?_
  have h1:=hW.1;rw [zAw] at h1;have:=(hW.2 0 (by omega)).2
  have e:(List.replicate n (0:Int)).getD 0 0=0:=by
   rw [u8,zCx];split <;> rfl
  rw [e] at this;exact absurd this G5
theorem qz (hv:B8 q=true)(hp:posOk q p=true){c s:Nat}(hc:c<p.length)(hs:s<q.symbols.toNat):WI g (HO p c s)↔WI g p/\ (g.getD c 0).toNat=s:=by
 obtain ⟨Ak,Bz⟩:=(E7 hv).1 hp;obtain ⟨z1,z2⟩:=dW hv hp hc hs
 have hz:WI g (JD p c s)↔WI g p/\ (g.getD c 0).toNat=s:=by
  constructor
  ·intro h;have h1:=h.1;rw [z1] at h1;have key:=fun j (hj:j<g.length)=>(h.2 j hj).2
   refine ⟨⟨h1,fun j hj=>⟨(h.2 j hj).1,?_⟩⟩,?_⟩
   ·have:=key j hj;rw [(z2 j (by omega)).2,zAW] at this;exact this.1
   ·have:=key c (by omega);rw [(z2 c hc).2,zAW] at this;simpa using this.2
  ·rintro ⟨h,hs⟩;have h1:=h.1;refine ⟨by rw [z1];exact h1,fun j hj=>⟨(h.2 j hj).1,?_⟩⟩;rw [(z2 j (by omega)).2,(h.2 j hj).2,zCZ]
   by_cases nK:j=c
   ·subst nK;rw [zAU hs,zHd]
   ·simp [nK]
 rw [←hz];unfold HO;cases hd:C7 (JD p c s) with
 | false=>rfl
 | true=>
  rw [zAM rfl];refine ⟨fun h=>?_,fun h=>?_⟩
  ·rcases fS (g:=g) (p:=p) (by omega) (n:=p.length) with h0 | h0
   ·exact absurd h h0
   ·omega
  ·have:=h.alive fun j hj=>(z2 j (by omega)).1
   rw [hd] at this;cases this
theorem qy {i:Int}{x:List Int}(C:Bm q i p)(hg:MQ q g)(hx:PR q (con q i) p x):WI g x↔WI g p:=by
 constructor
 ·intro h;have h1:=h.1;rw [hx.len] at h1;exact ⟨h1,fun j hj=>⟨(h.2 j hj).1,(hx.sub (h.2 j hj).2).2⟩⟩
 ·exact fun h=>sQ C hg.1 (hg.2 i C.i0 C.i1) h hx
theorem Tk.cover (hv:B8 q=true)(hg:MQ q g)(h:Tk q tree m pos a d e v l e2):(m=none -> l.countP (fun x=>Dd g x.1)=if Dd g pos then 1 else 0)/\ (∀ c ss,m=some (c,ss) -> posOk q pos=true -> c<pos.length -> ss.Nodup -> (∀ s∈ss,s<q.symbols.toNat) -> l.countP (fun x=>Dd g x.1)=if Dd g pos&&decide ((g.getD c 0).toNat∈ss) then 1 else 0):=by
 induction h with
 | prune AM hk C hP h ih=>
  refine ⟨fun _=>?_,fun _ _ h=>by cases h⟩;rw [ih.1 rfl,zDF.2 ((Ij.trans (qy C hg hP)).trans Ij.symm)]
 | @split p a d e v l e2 c hp AM hk hc Ht h2 h ih=>
  obtain ⟨Ak,Bz⟩:=(E7 hv).1 hp;obtain ⟨_,HK,_⟩:=ED hv;refine ⟨fun _=>?_,fun _ _ h=>by cases h⟩;rw [ih.2 c _ rfl hp hc ((List.nodup_range' (step:=1)).filter _) fun s hs=>?_]
  ·cases hw:Dd g p with
   | false=>rfl
   | true=>
    have hW:=Ij.1 hw;have h3:=hW.2 c (by have:=hW.1;omega);rw [zAU (OJ.2 ⟨by omega,h3.2⟩)];rfl
  ·refine zCd fun CH=>?_
   have:=(OJ.1 hs).2;rw [(Bz c hc).hi CH] at this;cases this
 | @dead p a d e hp AM hk Ht=>
  obtain ⟨Ak,Bz⟩:=(E7 hv).1 hp;obtain ⟨UE,HK,_⟩:=ED hv;refine ⟨fun _=>?_,fun _ _ h=>by cases h⟩
  have h1:Dd g p=false:=zD8.2 fun h=>by
   have:=(Ij.1 h).alive fun j hj=>(Bz j hj).in64 (by omega)
   rw [Ht] at this;cases this
  have h2:Dd g (List.replicate p.length 0)=false:=zD8.2 fun h=>by
   rcases fS (g:=g) (p:=p) (by omega) (n:=p.length) with h0 | h0
   ·exact h0 (Ij.1 h)
   ·omega
  rw [h1];simp [h2]
 | @done p a d e g' hp AM hk hs Bu=>
  refine ⟨fun _=>?_,fun _ _ h=>by cases h⟩;cases hw:Dd g p <;> simp [hw]
 | nil=>exact ⟨fun h=>(by cases h),fun c ss h _ _ _ _=>by cases h;simp⟩
 | @cons p a d e c s v w ss l l2 e2 e3 h h2 ih To=>
  refine ⟨fun h=>(by cases h),fun c' iX he hp hc Ar QX=>?_⟩;cases he;obtain ⟨F2,F1⟩:=zHO.1 Ar;rw [zHR,ih.1 rfl,To.2 c ss rfl hp hc F1 fun s hs=>QX s (zCB _ hs)]
  have hf:Dd g (HO p c s)=(Dd g p&&decide ((g.getD c 0).toNat=s)):=by
   rw [zDF,zAW,Ij,Ij,zAi];exact qz hv hp hc (QX s zCX)
  rw [hf];cases Dd g p with
  | false=>rfl
  | true=>
   by_cases T8:(g.getD c 0).toNat=s
   ·rw [zAU T8,zAP (by rw [T8];exact F2),zAU (by rw [T8];exact zCX)];rfl
   ·rw [zAP T8];have:decide ((g.getD c 0).toNat∈s::ss)=decide ((g.getD c 0).toNat∈ss):=zHo.2 ⟨fun h=>(zCD.1 h).resolve_left T8,fun h=>zCB _ h⟩;rw [this];simp
theorem Tk.leaves (hv:B8 q=true)(h:Tk q tree m pos a d e v l e2):(m=none -> posOk q pos=true) -> (∀ c ss,m=some (c,ss) -> posOk q pos=true/\ c<pos.length/\ ∀ s∈ss,s<q.symbols.toNat) -> ∀ x∈l,posOk q x.1=true/\ (∀ j s,tb (x.1.getD j 0) s=true -> tb (pos.getD j 0) s=true)/\ (x.2.1= []/\ C7 x.1=true∨FW x.1=some x.2.1/\ MQ q x.2.1):=by
 induction h with
 | @prune p p2 a d e v l e2 AM hk C hP h ih=>
  intro _ _ x hx;obtain ⟨h1,h2,h3⟩:=ih (fun _=>hP.posOk C) (fun _ _ h=>by cases h) x hx;exact ⟨h1,fun j s hs=>(hP.sub (h2 j s hs)).2,h3⟩
 | @split p a d e v l e2 c hp AM hk hc Ht h2 h ih=>
  obtain ⟨Ak,Bz⟩:=(E7 hv).1 hp
  exact fun _ _ x hx=>ih (fun h=>by cases h) (fun c' iX he=>by
   cases he;refine ⟨hp,hc,fun s hs=>zCd fun CH=>?_⟩;have:=(OJ.1 hs).2;rw [(Bz c hc).hi CH] at this;cases this) x hx
 | @dead p a d e hp AM hk Ht=>
  obtain ⟨UE,HK,_⟩:=ED hv;obtain ⟨Ak,Bz⟩:=(E7 hv).1 hp;intro _ _ x hx;rw [zA1.1 hx];refine ⟨fT hv hp,fun j s hs=>?_,.inl ⟨rfl,?_⟩⟩
  ·rw [PY] at hs;exact absurd hs G5
  ·show C7 (List.replicate p.length 0)=true
   obtain ⟨k,hk⟩: ∃ k,p.length=k+1:=⟨p.length-1,by omega⟩;rw [hk];simp [C7,List.replicate_succ]
 | @done p a d e g' hp AM hk hs Bu=>
  intro _ _ x hx;rw [zA1.1 hx];exact ⟨hp,fun _ _ h=>h,.inr ⟨hs,Bu⟩⟩
 | nil=>exact fun _ _ x hx=>absurd hx zDu
 | @cons p a d e c s v w ss l l2 e2 e3 h h2 ih To=>
  intro _ hc x hx;obtain ⟨hp,Az,QX⟩:=hc c _ rfl;rcases zC1.1 hx with hx | hx
  ·obtain ⟨h1,h2,h3⟩:=ih (fun _=>oM hv hp Az (QX s zCX)) (fun _ _ h=>by cases h) x hx;refine ⟨h1,fun j t ht=>?_,h3⟩;have h4:=h2 j t ht;obtain ⟨z1,z2⟩:=dW hv hp Az (QX s zCX);unfold HO at h4;split at h4
   ·rw [PY] at h4;exact absurd h4 G5
   ·by_cases hj:j<p.length
    ·rw [(z2 j hj).2,zAW] at h4;exact h4.1
    ·rw [u8,zCo (by omega)] at h4;exact absurd h4 G5
  ·exact To (fun h=>by cases h) (fun c' iX he=>by
    cases he;exact ⟨hp,Az,fun s hs=>QX s (zCB _ hs)⟩) x hx
theorem Zj: ∀ {p g:List Int},FW p=some g -> ∀ j,j<p.length -> ∃ s:Nat,CR (p.getD j 0) 0= [s]/\ g.getD j 0=(s:Int)
 | [],_,_,j,hj=>by simp at hj
 | x::p,g,h,j,hj=>by
  unfold FW at h;split at h
  ·rename_i s hs;obtain ⟨r,hr,rfl⟩:=zGu.1 h;cases j with
   | zero=>exact ⟨s,by simpa using hs,rfl⟩
   | succ j=>
    have:=Zj hr j (by simpa using hj);simpa using this
  ·cases h
theorem sq (hv:B8 q=true)(hp:posOk q p=true){g':List Int}(hs:FW p=some g')(h:WI g p):g=g'/\ p=Ai g:=by
 obtain ⟨Ak,Bz⟩:=(E7 hv).1 hp;obtain ⟨_,HK,_⟩:=ED hv;have hl:=SG hs;have h1:=h.1
 have key: ∀ j,j<p.length -> CR (p.getD j 0) 0= [(g.getD j 0).toNat]/\ g.getD j 0=g'.getD j 0:=fun j hj=>by
  obtain ⟨s,e1,e2⟩:=Zj hs j hj;have h2:=h.2 j (by omega);have:(g.getD j 0).toNat∈CR (p.getD j 0) 0:=OJ.2 ⟨by omega,h2.2⟩;rw [e1,zA1] at this;exact ⟨by rw [e1,this],by rw [e2];omega⟩
 refine ⟨zGe (by omega) fun j h2 h3=>?_,zGe (by rw [E4];omega) fun j h2 h3=>?_⟩
 ·have:=(key j (by omega)).2;simpa [u8,h2,h3] using this
 ·have hj:j<p.length:=h2;have e1:p[j]=p.getD j 0:=by simp [h2]
  have e2:(Ai g)[j]=(Ai g).getD j 0:=by simp [h3]
  have h4:=(h.2 j (by omega)).1;rw [e1,e2,Nn (by omega)];refine Na ((Bz j hj).in64 (by omega)) (Pc _) fun t ht=>?_
  rw [Hh (by omega)]
  by_cases h16:t<16
  ·have:tb (p.getD j 0) t=decide (t∈CR (p.getD j 0) 0):=by
    rw [zDF,zAi,OJ];exact ⟨fun h=>⟨h16,h⟩,fun h=>h.2⟩
   rw [this,(key j hj).1,zHo,zA1];exact eq_comm
  ·rw [(Bz j hj).hi (by omega),zAP (by omega)]
theorem si (hv:B8 q=true)(hp:posOk q p=true)(hs:FW p=some g):WI g p:=by
 have hl:=SG hs;refine ⟨hl,fun j hj=>?_⟩;obtain ⟨s,e1,e2⟩:=Zj hs j (by omega);have:s∈CR (p.getD j 0) 0:=by rw [e1];exact zA1.2 rfl
 have:=OJ.1 this;rw [e2];exact ⟨by omega,by rw [zAT];exact this.2⟩
theorem lq (hv:B8 q=true){x:Au}(hx:posOk q x.1=true)(h:x.2.1= []/\ C7 x.1=true∨FW x.1=some x.2.1/\ MQ q x.2.1)(hW:WI g x.1):g=x.2.1/\ x.1=Ai g:=by
 obtain ⟨_,HK,_⟩:=ED hv;rcases h with ⟨_,h⟩ | ⟨h,_⟩
 ·have:=hW.alive fun j hj=>(((E7 hv).1 hx).2 j hj).in64 (by omega)
  rw [h] at this;cases this
 ·exact sq hv hx h hW
end
abbrev zHf:=@List.drop_of_length_le
theorem zF0 {s:Nat}(hs:s<64)(m:Int):(bits .and .i64 m (IntKind.i64.wrap (1*2 ^ s)) != 0)=tb m s:=by
 rw [←S5 hs]
 congr 1
 show IntKind.i64.wrap ((BitVec.ofInt 64 m&&& BitVec.ofInt 64 (IntKind.i64.wrap (1*2 ^ s))).toNat:Int)=IntKind.i64.wrap ((BitVec.ofInt 64 (IntKind.i64.wrap (1*2 ^ s))&&& BitVec.ofInt 64 m).toNat:Int)
 rw [BitVec.and_comm]
theorem zAO {n:Nat}{x s:Int}:XP n x s=some ((decide (0<=s)&&decide (s<=15))&&tb x s.toNat):=by
 unfold XP mX
 by_cases h0:s>=0
 ·rw [zAU h0,zAV]
  by_cases h1:s<16
  ·rw [zAU h1,zAV,zAM ⟨by omega,by show s<=((64:Nat):Int);omega⟩,zF0 (by omega),zAU (show s<=15 by omega)];rfl
  ·rw [zAP h1,zAR,zAP (show ¬ s<=15 by omega)];rfl
 ·rw [zAP h0,zAR];rfl
section
variable {q:AA} {pos p g:List Int} {tree:List (Int×Int)}
theorem VK (hl:g.length<=65536):Ev (fun n=>G4 n p g) (Dd g p):=by
 by_cases Ak:g.length=p.length
 ·have key: ∀ (k j:Nat),j+k=g.length -> Ev (fun n=>Lr p g n (.l1 (j:Int))) ((List.range' j k).all fun j=>(decide (0<=g.getD j 0)&&decide (g.getD j 0<=15))&&tb (p.getD j 0) (g.getD j 0).toNat):=by
   intro k
   induction k with
   | zero=>
    intro j e;refine Ev.one fun n=>?_
    show Ri n (Lr p g n) p g (j:Int)=_
    unfold Ri;rw [zAP (by omega),zAR];rfl
   | succ k ih=>
    intro j e
    have step: ∀ n,Lr p g (n+1) (.l1 (j:Int))=bif !((decide (0<=g.getD j 0)&&decide (g.getD j 0<=15))&&tb (p.getD j 0) (g.getD j 0).toNat) then some false else Lr p g n (.l1 ((j+1:Nat):Int)):=fun n=>by
     show Ri n (Lr p g n) p g (j:Int)=_
     unfold Ri;rw [zAU (by omega),zAV,zAM ⟨by omega,by omega⟩,zAT,zAO,zAS,zAM (Av.2 ⟨by omega,by omega⟩),show ((j+1:Nat):Int)=(j:Int)+1 by omega]
    rw [zHE,zGp];cases hb:(decide (0<=g.getD j 0)&&decide (g.getD j 0<=15))&&tb (p.getD j 0) (g.getD j 0).toNat with
    | false=>exact Ev.one fun n=>by rw [step,hb];rfl
    | true=>exact BK.ev (BK.one fun n=>by rw [step,hb];rfl) (ih (j+1) (by omega))
  have:=key g.length 0 (by omega);rw [←zG2] at this;unfold Dd;rw [zAU Ak,zCZ];refine Ev.eq this fun n=>?_
  unfold G4 ZF;rw [show ((p.length:Int) != (g.length:Int))=false by rw [Ak];simp,zAR];rfl
 ·have:Dd g p=false:=zD8.2 fun h=>Ak (Ij.1 h).1
  rw [this];refine Ev.now fun n=>?_
  unfold G4 ZF;rw [show ((p.length:Int) != (g.length:Int))=true by rw [zC8];omega,zAV]
theorem tZ (hl:g.length<=65536):Ev (fun n=>L9 n g g) true:=by
 have key: ∀ (k j:Nat),j+k=g.length -> Ev (fun n=>Pp g g n (.l1 (j:Int))) true:=by
  intro k
  induction k with
  | zero=>
   intro j e;refine Ev.one fun n=>?_
   show SU n (Pp g g n) g g (j:Int)=_
   unfold SU;rw [zAP (by omega),zAR]
  | succ k ih=>
   intro j e;refine BK.ev (BK.one fun n=>?_) (ih (j+1) (by omega))
   show SU n (Pp g g n) g g (j:Int)=_
   unfold SU;rw [zAU (by omega),zAV,zAM ⟨by omega,by omega⟩,zGm,zAR,zAM (Av.2 ⟨by omega,by omega⟩)];rfl
 refine Ev.eq (key g.length 0 (by omega)) fun n=>?_
 unfold L9 jJ;rw [zGm,zAR];rfl
def eI (l:List Au)(g:List Int):Bool:=l.all (fun x=>x.2.1.isEmpty||decide (x.2.1=g))&&decide (l.countP (fun x=>!x.2.1.isEmpty)=min g.length 1)
theorem pf {l:List Au}{o:List Int}{c:Int}(h:Ev (fun n=>Gu n q pos tree) (l,o,c))(hl:l.length<=65536)(hx: ∀ x∈l,x.2.1.length<=256):Ev (fun n=>Ld n q pos tree g) (if c=280 then (false,0) else if c≠0 then (false,c) else (eI l g,0)):=by
 have lb:(256:Nat)<=LB:=by decide
 have mi:(if (g.length:Int)<1 then (g.length:Int) else 1)=((min g.length 1:Nat):Int):=by split <;> omega
 have key: ∀ (k j a:Nat),j+k=l.length -> a<=j -> Ev (fun n=>KY q pos tree g n (.l1 (a:Int) l (l.length:Int) (j:Int))) ((l.drop j).all (fun x=>x.2.1.isEmpty||decide (x.2.1=g))&&decide (a+(l.drop j).countP (fun x=>!x.2.1.isEmpty)=min g.length 1),0):=by
  intro k
  induction k with
  | zero=>
   intro j a e ha;refine Ev.one fun n=>?_
   show PG n (KY q pos tree g n) q pos tree g (a:Int) l (l.length:Int) (j:Int)=_
   unfold PG;rw [zAP (by omega),zAR,zHf (by omega),mi]
   have:((a:Int)==((min g.length 1:Nat):Int))=decide (a=min g.length 1):=by
    rw [zDF,zBA,zAi];omega
   rw [this];simp;rfl
  | succ k ih=>
   intro j a e ha;have hj:j<l.length:=by omega
   have eg:l.getD j default=l[j]:=by simp [hj]
   rw [zCJ hj,zGp,zGL];have r1:AJ ((j:Int)+1):=Av.2 ⟨by omega,by omega⟩;have r2:AJ ((a:Int)+1):=Av.2 ⟨by omega,by omega⟩;cases he:(l[j]).2.1 with
   | nil=>
    refine BK.ev (BK.one fun n=>?_) (Ev.eq (ih (j+1) a (by omega) (by omega)) fun n=>rfl) |>fun h=>by simpa using h
    show PG n (KY q pos tree g n) q pos tree g (a:Int) l (l.length:Int) (j:Int)=_
    unfold PG;rw [zAU (by omega),zAV,zAM ⟨by omega,by omega⟩,zAT,eg,he]
    show (bif decide ((0:Int)>0) then _ else if AJ ((j:Int)+1) then _ else none)=_
    rw [zAP (show ¬ (0:Int)>0 by decide),zAR,zAM r1];rfl
   | cons y t=>
    have Mv:(y::t).length<=256:=by rw [←he];exact hx _ (zBD hj)
    have step: ∀ n,300<=n -> KY q pos tree g (n+1) (.l1 (a:Int) l (l.length:Int) (j:Int))=bif !decide (y::t=g) then some (false,0) else KY q pos tree g n (.l1 ((a+1:Nat):Int) l (l.length:Int) ((j+1:Nat):Int)):=fun n hn=>by
     show PG n (KY q pos tree g n) q pos tree g (a:Int) l (l.length:Int) (j:Int)=_
     unfold PG;rw [zAU (by omega),zAV,zAM ⟨by omega,by omega⟩,zAT,eg,he,zAU (by rw [zCU];omega),zAV,zAM r2,ou (by omega) (by omega),zAS,zAM r1];rfl
    by_cases hg:y::t=g
    ·have:=BK.ev (BK.oneN 300 fun n hn=>by rw [step n hn,zAU hg];rfl) (ih (j+1) (a+1) (by omega) (by omega));rw [zAU hg];simp only [List.isEmpty_cons,zHd,zC0,zCZ,zC9];rw [show a+((l.drop (j+1)).countP (fun x=>!x.2.1.isEmpty)+1)=a+1+(l.drop (j+1)).countP (fun x=>!x.2.1.isEmpty) by omega];exact this
    ·refine Ev.oneN 300 fun n hn=>?_
     rw [step n hn,zAP hg];simp
 refine Ev.eq (Ev.bind h (b:=fun n y1=>bif (y1.2.2==280) then some (false,0) else bif (y1.2.2 != 0) then some (false,y1.2.2) else KY q pos tree g n (.l1 0 y1.1 (y1.1.length:Int) 0)) ?_) fun n=>rfl
 by_cases h1:c=280
 ·rw [zAM h1];refine Ev.now fun n=>?_
  show (bif (c==280) then _ else _)=_
  rw [zBA.2 h1,zAV]
 rw [zAh h1]
 by_cases h2:c=0
 ·rw [zAh (by simpa using h2)];subst h2;have:=key l.length 0 0 (by omega) (by omega);rw [zGN,zA8] at this;exact this
 ·rw [zAM h2];refine Ev.now fun n=>?_
  show (bif (c==280) then _ else bif (c != 0) then _ else _)=_
  rw [zCK.2 h1,zAR,zC8.2 h2,zAV]
theorem xM (hv:B8 q=true){l:List Au}{e o:List Int}{v:Nat}(hp:posOk q pos=true)(hg:MQ q g)(hW:Dd g pos=true)(hk:Tk q tree none pos 0 0 e v l o): ∃ x∈l,x.2.1=g:=by
 have hc:=(hk.cover hv hg).1 rfl;rw [hW,zAM rfl] at hc;obtain ⟨x,hx,hw⟩:=List.countP_pos_iff.1 (show 0<l.countP (fun x=>Dd g x.1) by omega);obtain ⟨h1,_,h3⟩:=hk.leaves hv (fun _=>hp) (fun _ _ h=>by cases h) x hx;exact ⟨x,hx,(lq hv h1 h3 (Ij.1 hw)).1.symm⟩
theorem zI (q:AA)(pos:List Int)(tree:List (Int×Int))(g w:List Int)(hF:EN q)(hl:pos.length<=LB)(hg:g.length<=LB)(hw:w.length<=LB):Ev (fun n=>bQ n q pos tree g w) true:=by
 let Il:Nat -> Option Bool:=fun n=>(GI n q w).bind fun y6=>bif (y6.2 != 0) then some true else bif (!y6.1) then some true else (G4 n pos w).bind fun y7=>bif (!y7) then some true else (L9 n g w).bind fun y8=>some y8
 refine ly (q:=q) (pos:=pos) (tree:=tree) (f:=fun n=>bif (decide ((g.length:Int)>20)) then some true else bif (decide ((w.length:Int)>20)) then some true else
  (Ld n q pos tree g).bind fun y3=>bif (y3.2 != 0) then some (!y3.1) else bif (!y3.1) then some true else bif (decide ((g.length:Int)>0)) then
   (GI n q g).bind fun y4=>bif (y4.2 != 0) then some false else bif (!y4.1) then some false else (G4 n pos g).bind fun y5=>bif (!y5) then some false else Il n
   else Il n) (fun n=>rfl) fun _ _=>?_
 by_cases Qh:(g.length:Int)>20
 ·exact Ev.now fun n=>by rw [zAU Qh];rfl
 by_cases mg:(w.length:Int)>20
 ·exact Ev.now fun n=>by rw [zAP Qh,zAU mg];rfl
 refine Ev.eq ?_ (fun n=>by rw [zAP Qh,zAR,zAP mg,zAR]);obtain ⟨⟨l,o,c⟩,hr,hP⟩:=oP (tree:=tree) hF hl
 have nl:c≠0 -> (∀ x∈l,x.2.1.length<=256) -> l.length<=65536 -> _:=fun hc hx Om=>by
  refine Ev.bind (b:=fun n y3=>bif (y3.2 != 0) then some (!y3.1) else bif (!y3.1) then some true else bif (decide ((g.length:Int)>0)) then
   (GI n q g).bind fun y4=>bif (y4.2 != 0) then some false else bif (!y4.1) then some false else (G4 n pos g).bind fun y5=>bif (!y5) then some false else Il n
   else Il n) (r:=true) (pf (g:=g) hr Om hx) (Ev.now fun n=>?_)
  by_cases h1:c=280
  ·rw [zAM h1];rfl
  ·rw [zAh h1,zAM hc]
   show (bif (c != 0) then _ else _)=_
   rw [zC8.2 hc];rfl
 rcases hP with ⟨h1,h2,h3⟩ | ⟨h1,hv,hp,hT,ho,Om,hk⟩
 ·have h2:l= []:=h2;exact nl h1 (by rw [h2];exact fun x h=>absurd h zDu) (by rw [h2];decide)
 ·have h1:c=0:=h1;subst h1;have Om:l.length<=tree.length:=Om;have hk:Tk q tree none pos 0 0 (List.replicate tree.length 0) tree.length l o:=hk;have Qe:=hk.leaves hv (fun _=>hp) (fun _ _ h=>by cases h);obtain ⟨UE,HK,_⟩:=ED hv
  have hx: ∀ x∈l,x.2.1.length<=256:=fun x hx=>by
   obtain ⟨g1,_,g3⟩:=Qe x hx;rcases g3 with ⟨g3,_⟩ | ⟨g3,_⟩
   ·rw [g3];decide
   ·have:=SG g3;have:=((E7 hv).1 g1).1;omega
  refine Ev.bind (pf (g:=g) hr (by omega) hx) ?_;rw [zAh (by decide),zAh (by decide)];cases I7:eI l g with
  | false=>exact Ev.now fun n=>rfl
  | true=>
   unfold eI at I7;rw [zAW,zAg,zAi] at I7;obtain ⟨k1,k2⟩:=I7
   have uniq: ∀ x∈l,x.2.1≠[] -> x.2.1=g:=fun x hx Ad=>by
    have:=k1 x hx;rw [zA9,zAi] at this;rcases this with h | h
    ·exact absurd (List.isEmpty_iff.1 h) Ad
    ·exact h
   have tail:Ev Il true:=by
    obtain ⟨⟨b,er⟩,s0,s1,s2⟩:=Vj (q:=q) (g:=w) hF hw;refine Ev.bind s0 ?_
    by_cases he:er=0
    ·subst he;cases b with
     | false=>exact Ev.now fun n=>rfl
     | true=>
      have Bu:MQ q w:=⟨(s1.1 rfl).2,(s2 rfl).1 rfl⟩;refine Ev.eq (Ev.bind (VK (p:=pos) (g:=w) (by omega)) (b:=fun n y7=>bif (!y7) then some true else (L9 n g w).bind fun y8=>some y8) ?_) fun n=>rfl
      cases hW:Dd w pos with
      | false=>exact Ev.now fun n=>rfl
      | true=>
       obtain ⟨x,hx,e⟩:=xM hv hp Bu hW hk;have me:=Bu.1.len
       have:w=g:=by
        rw [←e];exact uniq x hx (by rw [e];intro h;rw [h] at me;simp at me;omega)
       subst this;exact Ev.eq (Ev.bind (tZ (g:=w) (by omega)) (b:=fun n y8=>some y8) (Ev.now fun n=>rfl)) fun n=>rfl
    ·exact Ev.now fun n=>by
      show (bif (er != 0) then some true else _)=_
      rw [zC8.2 he];rfl
   by_cases h0:(g.length:Int)>0
   ·refine Ev.eq ?_ (fun n=>by
     show (bif (decide ((g.length:Int)>0)) then _ else _)=_
     rw [zAU h0,zAV])
    obtain ⟨x,hx,Ad⟩:=List.countP_pos_iff.1 (Nat.lt_of_lt_of_eq (show 0<min g.length 1 by omega) k2.symm);have Ad:x.2.1≠[]:=fun h=>by rw [h] at Ad;simp at Ad
    have e:=uniq x hx Ad;obtain ⟨g1,g2,g3⟩:=Qe x hx;rcases g3 with ⟨g3,_⟩ | ⟨g3,Bu⟩
    ·exact absurd g3 Ad
    rw [e] at g3 Bu;have hW:=si hv g1 g3;have hWp:Dd g pos=true:=Ij.2 ⟨by have:=((E7 hv).1 hp).1;have:=Bu.1.len;omega,fun j hj=>⟨(hW.2 j hj).1,g2 j _ (hW.2 j hj).2⟩⟩;obtain ⟨⟨b,er⟩,s0,s1,s2⟩:=Vj (q:=q) (g:=g) hF hg;have he:er=0:=s1.2 ⟨hv,Bu.1⟩;subst he;have hb:b=true:=(s2 rfl).2 Bu.2;subst hb;have mf:=VK (p:=pos) (g:=g) (by omega);rw [hWp] at mf;refine Ev.bind s0 (Ev.eq (Ev.bind mf (b:=fun n y5=>bif (!y5) then some false else Il n) (Ev.eq tail fun n=>rfl)) fun n=>rfl)
   ·exact Ev.eq tail (fun n=>by
     show (bif (decide ((g.length:Int)>0)) then _ else _)=_
     rw [zAP h0,zAR])
theorem zH {x9:List (List Int)}(h9:x9.length<=65536)(Fi:g.length<=65536)(hs: ∀ j,j<g.length -> 0<=g.getD j 0/\ g.getD j 0<16)(hx: ∀ p∈x9,Dd g p=true -> p=Ai g)(hc:x9.countP (Dd g)=1):Ev (fun n=>HG q pos tree g n (.l1 x9 0 0)) true:=by
 have bg: ∀ (k j i:Nat) (a:Int),j+k=g.length -> i<x9.length -> x9.getD i []=Ai g -> BK (HG q pos tree g) (.l2 x9 a (i:Int) (j:Int)) (.l1 x9 a ((i+1:Nat):Int)):=by
  intro k
  induction k with
  | zero=>
   intro j i a e hi hp;refine BK.one fun n=>?_
   show Tc n (HG q pos tree g n) q pos tree g x9 a (i:Int) (j:Int)=_
   unfold Tc;rw [zAP (by omega),zAR,zAM (Av.2 ⟨by omega,by omega⟩)];rfl
  | succ k ih=>
   intro j i a e hi hp;refine (BK.one fun n=>?_).trans (ih (j+1) i a (by omega) hi hp);have:=hs j (by omega)
   show Tc n (HG q pos tree g n) q pos tree g x9 a (i:Int) (j:Int)=_
   unfold Tc;rw [zAU (by omega),zAV,zAT,zAT,hp,E4,zAM ⟨⟨by omega,by omega⟩,⟨by omega,by omega⟩,⟨by omega,by omega⟩,by omega,by show _<=((64:Nat):Int);omega⟩,Nn (by omega),zGm,zAR,zAM (Av.2 ⟨by omega,by omega⟩)];rfl
 have xO: ∀ (k i a:Nat),i+k=x9.length -> a<=i -> a+(x9.drop i).countP (Dd g)=1 -> Ev (fun n=>HG q pos tree g n (.l1 x9 (a:Int) (i:Int))) true:=by
  intro k
  induction k with
  | zero=>
   intro i a e ha hc;rw [zHf (by omega),List.countP_nil] at hc;refine Ev.one fun n=>?_
   show OQ n (HG q pos tree g n) q pos tree g x9 (a:Int) (i:Int)=_
   unfold OQ;rw [zAP (by omega),zAR,show a=1 by omega];rfl
  | succ k ih=>
   intro i a e ha hc;have hi:i<x9.length:=by omega
   have eg:x9.getD i []=x9[i]:=by simp [hi]
   rw [zCJ hi,zGL] at hc;obtain ⟨N,hN⟩:=VK (p:=x9[i]) (g:=g) Fi;have hN: ∀ n,N<=n -> G4 n x9[i] g=some (Dd g x9[i]):=hN;cases hw:Dd g x9[i] with
   | false=>
    rw [hw] at hc hN;refine BK.ev (BK.oneN N fun n hn=>?_) (ih (i+1) a (by omega) (by omega) (by simpa using hc))
    show OQ n (HG q pos tree g n) q pos tree g x9 (a:Int) (i:Int)=_
    unfold OQ;rw [zAU (by omega),zAV,zAM ⟨by omega,by omega⟩,zAT,eg,hN n hn,zAS,zC0,zAV,zAM (Av.2 ⟨by omega,by omega⟩)];rfl
   | true=>
    rw [hw] at hc hN;rw [zAM rfl] at hc;refine BK.ev ((BK.oneN (b:=.l2 x9 ((a+1:Nat):Int) (i:Int) ((0:Nat):Int)) N fun n hn=>?_).trans (bg g.length 0 i _ (by omega) hi (by rw [eg];exact hx _ (zBD hi) hw))) (ih (i+1) (a+1) (by omega) (by omega) (by omega))
    show OQ n (HG q pos tree g n) q pos tree g x9 (a:Int) (i:Int)=_
    unfold OQ;rw [zAU (by omega),zAV,zAM ⟨by omega,by omega⟩,zAT,eg,hN n hn,zAS,zCs,zAR,zAM (Av.2 ⟨by omega,by omega⟩)];rfl
 exact xO x9.length 0 0 (by omega) (by omega) (by rw [zGN,hc])
theorem zK (q:AA)(pos:List Int)(tree:List (Int×Int))(g:List Int)(hF:EN q)(hl:pos.length<=LB)(hg:g.length<=LB):Ev (fun n=>lx n q pos tree g) true:=by
 refine ly (q:=q) (pos:=pos) (tree:=tree) (f:=fun n=>bif (decide ((g.length:Int)>20)) then some true else
  (OP n q pos tree).bind fun y3=>(GI n q g).bind fun y4=>
   bif (y3.2 != 0) then bif (y3.2==0) then some true else some ((y3.1.length:Int)==0)
   else bif (y4.2 != 0) then bif (y3.2==0) then some true else some ((y3.1.length:Int)==0)
   else bif (!y4.1) then bif (y3.2==0) then some true else some ((y3.1.length:Int)==0)
   else (G4 n pos g).bind fun y5=>bif (!y5) then bif (y3.2==0) then some true else some ((y3.1.length:Int)==0) else HG q pos tree g n (.l1 y3.1 0 0)) (fun n=>rfl) fun _ _=>?_
 by_cases Qh:(g.length:Int)>20
 ·exact Ev.now fun n=>by rw [zAU Qh];rfl
 refine Ev.eq ?_ (fun n=>by rw [zAP Qh,zAR]);obtain ⟨⟨l,o,c⟩,hr,hP⟩:=oP (tree:=tree) hF hl
 have Om:l.length<=65536:=by
  rcases hP with ⟨_,h2,_⟩ | ⟨_,_,_,hT,_,h,_⟩
  ·have h2:l= []:=h2;rw [h2];decide
  ·have h:l.length<=tree.length:=h;omega
 obtain ⟨⟨b,er⟩,s0,s1,s2⟩:=Vj (q:=q) (g:=g) hF hg;refine Ev.bind (zC hr Om) (Ev.bind s0 ?_);rcases hP with ⟨h1,h2,h3⟩ | ⟨h1,hv,hp,hT,ho,_,hk⟩
 ·have h2:l= []:=h2;have h1:c≠0:=h1;subst h2;refine Ev.now fun n=>?_
  show (bif (c != 0) then (bif (c==0) then some true else some (((([]:List Au).map (·.1)).length:Int)==0)) else _)=_
  rw [zC8.2 h1,zAV,zCK.2 h1];rfl
 ·have h1:c=0:=h1;subst h1;have hk:Tk q tree none pos 0 0 (List.replicate tree.length 0) tree.length l o:=hk
  by_cases he:er=0
  ·subst he;cases b with
   | false=>exact Ev.now fun n=>rfl
   | true=>
    have Bu:MQ q g:=⟨(s1.1 rfl).2,(s2 rfl).1 rfl⟩;refine Ev.eq (Ev.bind (VK (p:=pos) (g:=g) (by omega)) (b:=fun n y5=>bif (!y5) then some true else HG q pos tree g n (.l1 (l.map (·.1)) 0 0)) ?_) fun n=>rfl
    cases hW:Dd g pos with
    | false=>exact Ev.now fun n=>rfl
    | true=>
     have ni:=(hk.cover hv Bu).1 rfl;rw [hW,zAM rfl] at ni;obtain ⟨_,HK,_⟩:=ED hv
     exact Ev.eq (zH (x9:=l.map (·.1)) (by rw [zBC];exact Om) (by omega) (fun j hj=>by have:=Bu.1.sym j hj;omega) (fun p hpm hw=>by
      obtain ⟨x,hx,rfl⟩:=zDA.1 hpm;obtain ⟨g1,_,g3⟩:=hk.leaves hv (fun _=>hp) (fun _ _ h=>by cases h) x hx;exact (lq hv g1 g3 (Ij.1 hw)).2) (by rw [List.countP_map];exact ni)) fun n=>rfl
  ·exact Ev.now fun n=>by
    show (bif ((0:Int) != 0) then _ else bif (er != 0) then some true else _)=_
    rw [zC8.2 he];rfl
end
open Go.ChangeShapes Go.WideShapes Go.ChangeAt
def Ll (w:World)(cs:List Value)(l:List DV):Prop:=cs.length=l.length/\ ∀ j,j<l.length -> AK (fun _=>False) w (l.getD j .any) [] (cs.getD j undef)
def Rd (P:Program)(t:TypeId)(m:Nat){α:Type}(c:α -> List DV):Prop:=(∀ x,(c x).length=m)/\ P.cellsOf t=m/\ ∀ {H:Type} (enc:TypeId×Value -> H) (w:World) (EY:Nat) (cs:List Value) (x:DataW H×List MemPlace),DataW.trod enc P w 0 (fun _=>true) true EY t cs=some x -> (∀ n∈x.1.weights P t,n<=reachBytes) -> ∃ y:α,Ll w cs (c y)
theorem fq {H:Type}{P:Program}{e:TypeId}: ∀ {l:List (DataW H)} {d:DataW H} {n:Nat},d∈l -> n∈d.weights P e -> n∈DataW.weightsAll P e l
 | [],_,_,h,_=>by cases h
 | a::l,d,n,h,hn=>by
  unfold DataW.weightsAll;rcases zCD.1 h with rfl | h
  ·exact zCW _ hn
  ·exact zCy _ (fq h hn)
section
variable {P:Program} {t e:TypeId} {m:Nat}
theorem Ll.one {w:World}{v:Value}{d:DV}(h:AK (fun _=>False) w d [] v):Ll w [v] [d]:=⟨rfl,fun j hj=>by
 have:j=0:=by simpa using hj
 subst this;exact h⟩
theorem Ll.app {w:World}{cs EZ:List Value}{l l':List DV}(h:Ll w cs l)(h':Ll w EZ l'):Ll w (cs++EZ) (l++l'):=by
 refine ⟨by simp [h.1,h'.1],fun j hj=>?_⟩;rcases zCV j l.length with hl | hl
 ·have:=h.2 j hl;have hc:j<cs.length:=by rw [h.1];exact hl
  simp only [u8] at this ⊢;rw [zAk hl,zAk hc];exact this
 ·have:=h'.2 (j-l.length) (by simp at hj;omega);simp only [u8] at this ⊢;rw [zAp hl,zAp (by rw [h.1];exact hl),h.1];exact this
theorem Rd.int {k:IntKind}(ht:P.underlying t=some (.int k))(hc:P.cellsOf t=1):Rd P t 1 (fun n:Int=>[.int k n]):=⟨fun _=>rfl,hc,fun enc w EY cs x h hw=>by
 obtain ⟨n,rfl,_⟩:=DataW.trod_int ht h;exact ⟨n,.one rfl⟩⟩
theorem pg {w:World}{a:Addr}{n:Nat}{cs:List Value}(h:w.cells? 0 a n=some cs):cs.length=n/\ ∀ j,j<n -> w.cell? (a.add j)=some (cs.getD j undef):=by
 unfold World.cells? at h;rw [zAM (zDJ _)] at h;have hl:cs.length=n:=by simpa using Lib.mapM_length h
 refine ⟨hl,fun j hj=>?_⟩;obtain ⟨b,h1,h2⟩:=Lib.mapM_at h j j (by simp [hj]);rw [h2,u8,h1];rfl
theorem zGA {w:World}{a:Addr}{v:Value}(h:w.cell? a=some v): ∃ b o,a=⟨b,o,none⟩:=by
 obtain ⟨b,o,r⟩:=a;cases r with
 | none=>exact ⟨b,o,rfl⟩
 | some r=>
  unfold World.cell? at h;split at h
  ·simp at h
  ·cases h
theorem qh (b o x:Nat):(⟨b,o,none⟩:Addr).add x=⟨b,o+x,none⟩:=by
 unfold Addr.add;split
 ·rename_i e;subst e;rfl
 ·rfl
theorem Rd.row {α:Type} [Inhabited α] {c:α -> List DV} (ht:P.underlying t=some (.slice e)) (hb:0<P.bytesOf e) (hm:0<m) (he:Rd P e m c) {H:Type} (enc:TypeId×Value -> H) (w:World) (EY:Nat) (cs:List Value) (x:DataW H×List MemPlace) (h:DataW.trod enc P w 0 (fun _=>true) true EY t cs=some x) (hw: ∀ n∈x.1.weights P t,n<=reachBytes):
 ∃ (L:List α) (a:Option Addr) (cap:Nat),cs= [.slice a L.length cap]/\ L.length<=cap/\ L.length<=LB/\ ∀ i j,i<L.length -> j<m -> ∃ b o u,a=some ⟨b,o,none⟩/\ w.cell? ⟨b,o+(i*m+j),none⟩=some u/\ AK (fun _=>False) w ((c (L.getD i default)).getD j .any) [] u:=by
 rcases Deep.open_slice ht h with ⟨rfl,_⟩ | ⟨a,len,cap,m',n,D,Pl,rfl,_,hlc,Mr,Cd,hx,UB⟩
 ·exact ⟨[],none,0,rfl,zA5 _,zDJ _,fun i j hi=>absurd hi (zAv i)⟩
 ·simp only [zC9] at Cd;subst Cd;subst hx
  have plain:0<len -> ∃ b o,a=⟨b,o,none⟩:=fun h0=>by
   obtain ⟨EZ,h1,_⟩:=UB 0 (by omega);obtain ⟨g1,g2⟩:=pg h1;have g3:=g2 0 (by rw [he.2.1];exact hm);have e0:(a.add (0*P.cellsOf e)).add 0=a:=by simp [Addr.add]
   rw [e0] at g3;exact zGA g3
  have pick: ∀ i,i<len -> ∃ y:α,∀ j,j<m -> ∃ b o u,a=⟨b,o,none⟩/\ w.cell? ⟨b,o+(i*m+j),none⟩=some u/\ AK (fun _=>False) w ((c y).getD j .any) [] u:=fun i hi=>by
   obtain ⟨EZ,h1,h2⟩:=UB i (by omega)
   obtain ⟨y,h3,h4⟩:=he.2.2 enc w n EZ _ h2 fun k hk=>hw k (by
    simp only [DataW.weights,ht];refine zCB _ (zCW _ (fq (d:=D i) ?_ hk));exact zDA.2 ⟨i,zAn.2 hi,rfl⟩)
   obtain ⟨g1,g2⟩:=pg h1;obtain ⟨b,o,rfl⟩:=plain (by omega);refine ⟨y,fun j hj=>?_⟩;have g3:=g2 j (by rw [he.2.1];exact hj);refine ⟨b,o,_,rfl,?_,h4 j (by rw [he.1];exact hj)⟩;rw [←g3,he.2.1,qh,qh,zCg]
  have hL: ∃ L:List α,L.length=len/\ ∀ i,i<len -> ∀ j,j<m -> ∃ b o u,a=⟨b,o,none⟩/\ w.cell? ⟨b,o+(i*m+j),none⟩=some u/\ AK (fun _=>False) w ((c (L.getD i default)).getD j .any) [] u:=by
   refine ⟨(List.range len).map fun i=>if hi:i<len then (pick i hi).choose else default,by simp,fun i hi=>?_⟩
   have:((List.range len).map fun i=>if hi:i<len then (pick i hi).choose else default).getD i default=(pick i hi).choose:=by
    simp [u8,hi]
   rw [this];exact (pick i hi).choose_spec
  obtain ⟨L,rfl,hL⟩:=hL;refine ⟨L,some a,_,rfl,hlc,?_,fun i j hi hj=>?_⟩
  ·have hk:=hw ((L.length+(m'-L.length))*P.bytesOf e) (by
    simp only [DataW.weights,ht,zBC,zG0];exact zCX)
   have h1:=Nat.le_mul_of_pos_right (L.length+(m'-L.length)) hb;have h2:=zA0 h1 hk;unfold reachBytes at h2;unfold LB;omega
  ·obtain ⟨b,o,u,g1,g2,g3⟩:=hL i hi j hj;exact ⟨b,o,u,by rw [g1],g2,g3⟩
theorem Rd.rows {α:Type} [Inhabited α] {c:α -> List DV} (ht:P.underlying t=some (.slice e)) (hc:P.cellsOf t=1) (hb:0<P.bytesOf e) (hm:0<m) (he:Rd P e m c):Rd P t 1 (fun L:List α=>[.sl m L.length (AP c L)]):=⟨fun _=>rfl,hc,fun enc w EY cs x h hw=>by
 obtain ⟨L,a,cap,rfl,h1,h2,h3⟩:=Rd.row ht hb hm he enc w EY cs x h hw;refine ⟨L,Ll.one ⟨a,cap,rfl,h1,h2,fun i j hi hj=>?_⟩⟩;obtain ⟨b,o,u,g1,g2,g3⟩:=h3 i j hi hj;exact ⟨b,o,u,g1,fun h=>h,g2,g3⟩⟩
theorem Rd.ints (ht:P.underlying t=some (.slice e))(hc:P.cellsOf t=1)(hb:0<P.bytesOf e)(he:P.underlying e=some (.int .i64))(UE:P.cellsOf e=1):Rd P t 1 BX:=⟨fun _=>rfl,hc,fun enc w EY cs x h hw=>by
 obtain ⟨L,a,cap,rfl,h1,h2,h3⟩:=Rd.row ht hb (zGk) (Rd.int he UE) enc w EY cs x h hw;refine ⟨L,.one ⟨a,cap,rfl,h1,h2,fun j hj=>?_⟩⟩;obtain ⟨b,o,u,g1,g2,g3⟩:=h3 j 0 hj zGk;refine ⟨b,o,g1,fun h=>h,?_⟩;have:u= .int .i64 (L.getD j 0):=g3;rw [←this,←g2];simp⟩
def Dx (P:Program):List Field -> Nat -> Nat -> {α:Type} -> (α -> List DV) -> Prop:=fun fs o n {α} c=>∀ (H:Type) (enc:TypeId×Value -> H) (w:World) (EY:Nat) (cs:List Value) (xs:List (DataW H×List MemPlace)),cs.length=n -> (fs.mapM fun f=>DataW.trod enc P w 0 (fun _=>true) true EY f.type ((cs.drop f.offset).take (P.cellsOf f.type)))=some xs -> (∀ k∈DataW.weightsEach P (fs.map (·.type)) (xs.map (·.1)),k<=reachBytes) -> ∃ y:α,Ll w (cs.drop o) (c y)
theorem Dx.nil {o n:Nat}(ho:n=o):Dx P [] o n (fun _:Unit=>[]):=fun _ enc w EY cs xs hl _ _=>⟨(),by rw [zHf (by omega)];exact ⟨rfl,fun j hj=>absurd hj (zAv j)⟩⟩
theorem Dx.cons {α β:Type}{c:α -> List DV}{c':β -> List DV}{f:Field}{fs:List Field}{o n:Nat}(ho:f.offset=o)(hf:Rd P f.type m c)(hs:Dx P fs (o+m) n c'):Dx P (f::fs) o n (fun x:α×β=>c x.1++c' x.2):=fun _ enc w EY cs xs hl h hw=>by
 rw [List.mapM_cons] at h;obtain ⟨a,ha,h⟩:=Option.bind_eq_some_iff.1 h;obtain ⟨ys,hys,e⟩:=Option.bind_eq_some_iff.1 h;cases e;obtain ⟨y,h1⟩:=hf.2.2 enc w EY _ a ha fun k hk=>hw k (by simp only [zDT,DataW.weightsEach];exact zCW _ hk)
 obtain ⟨z,h2⟩:=hs _ enc w EY cs ys hl hys fun k hk=>hw k (by simp only [zDT,DataW.weightsEach];exact zCy _ hk)
 refine ⟨(y,z),?_⟩
 have:cs.drop o=(cs.drop f.offset).take (P.cellsOf f.type)++cs.drop (o+m):=by
  rw [ho,hf.2.1,←List.drop_drop];exact (zHh m (cs.drop o)).symm
 rw [this];exact h1.app h2
theorem Rd.struct {α β:Type}{c:α -> List DV}{c':β -> List DV}{fs:Array Field}(ht:P.underlying t=some (.struct fs))(hc:P.cellsOf t=m)(hs:Dx P fs.toList 0 m c)(g:α -> β)(hg: ∀ x,c x=c' (g x))(hm: ∀ x,(c' x).length=m):Rd P t m c':=⟨hm,hc,fun enc w EY cs x h hw=>by
 cases EY with
 | zero=>simp [DataW.trod] at h
 | succ EY=>
  unfold DataW.trod at h;rw [ht] at h;simp only at h;split at h
  ·rename_i hl;obtain ⟨xs,Tq,e⟩:=zGu.1 h;subst e;obtain ⟨y,hy⟩:=hs _ enc w EY cs xs (by rw [hl,hc]) Tq fun k hk=>hw k (by simp only [DataW.weights,ht];exact hk)
   exact ⟨g y,by rw [←hg];exact hy⟩
  ·cases h⟩
end
abbrev zGX:=@Go.ChangeShapes.trodAll_cons
def JQ (P:Program)(t:TypeId){α:Type}(d:α -> DV):Prop:=∀ {H:Type} (enc:TypeId×Value -> H) (w:World) (DQ:Nat) (v:Value) (x:DataW H) (ps:List MemPlace),Value.okWide P w .any DQ t v -> DataW.Trod enc P w 0 (fun _=>true) true t v x ps -> (∀ n∈x.weights P t,n<=reachBytes) -> ∃ y:α,AK (fun _=>False) w (d y) [] v
section
variable {P:Program} {t e:TypeId}
theorem JQ.one {α:Type}{c:α -> List DV}(ht:P.underlying t=some (.slice e))(h:Rd P t 1 c):JQ P t (fun x=>(c x).getD 0 .any):=fun enc w DQ v x ps Bu ⟨EY,hx⟩ hw=>by
 obtain ⟨a,len,cap,rfl⟩:=okWide_slice ht Bu;obtain ⟨y,h1,h2⟩:=h.2.2 enc w EY _ _ hx hw;exact ⟨y,by simpa [Value.cells] using h2 0 (by rw [h.1];exact zGk)⟩
theorem JQ.agg {α:Type}{m:Nat}{c:α -> List DV}{fs:Array Field}(ht:P.underlying t=some (.struct fs))(h:Rd P t m c):JQ P t (fun x=>.agg m (L1 (c x))):=fun enc w DQ v x ps Bu ⟨EY,hx⟩ hw=>by
 obtain ⟨cs,rfl,Dh⟩:=okWide_struct ht Bu;obtain ⟨y,h1,h2⟩:=h.2.2 enc w EY _ _ hx hw;have hm:(c y).length=m:=h.1 y
 have Ay:cs.size=m:=by
  have:cs.toList.length=(c y).length:=h1;simpa [hm] using this
 refine ⟨y,cs,rfl,Ay,fun j hj=>?_⟩;have:=h2 j (by rw [hm];exact hj);refine ⟨cs[j]'(by omega),by simp [Ay,hj],?_⟩
 have e:(Value.agg cs).cells.toList.getD j undef=cs[j]'(by omega):=by
  show cs.toList.getD j undef=_
  simp [u8,Ay,hj]
 rw [e] at this;exact this
def GE (P:Program)(ts:List TypeId){α:Type}(ds:α -> List DV):Prop:=∀ {H:Type} (enc:TypeId×Value -> H) (w:World) (DQ:Nat) (vs:List Value) (xs:List (DataW H)) (ps:List MemPlace),(∀ (j:Nat) t v,ts[j]? =some t -> vs[j]? =some v -> Value.okWide P w .any DQ t v) -> DataW.TrodAll enc P w 0 (fun _=>true) true ts vs xs ps -> (∀ n∈DataW.weightsEach P ts xs,n<=reachBytes) -> ∃ y:α,(ds y).length=vs.length/\ ∀ j,j<vs.length -> AK (fun _=>False) w ((ds y).getD j .any) [] (vs.getD j undef)
theorem GE.nil:GE P [] (fun _:Unit=>[]):=fun enc w DQ vs xs ps _ h _=>by
 obtain ⟨rfl,_,_⟩:=trodAll_nil h;exact ⟨(),rfl,fun j hj=>absurd hj (zAv j)⟩
theorem GE.cons {α β:Type}{d:α -> DV}{ds:β -> List DV}{ts:List TypeId}(h:JQ P t d)(hs:GE P ts ds):GE P (t::ts) (fun x:α×β=>d x.1::ds x.2):=fun enc w DQ vs xs ps Bu h0 hw=>by
 obtain ⟨v,Bn,x,fX,p,q,rfl,rfl,rfl,h1,h2⟩:=zGX h0;obtain ⟨y,hy⟩:=h enc w DQ v x p (Bu 0 t v rfl rfl) h1 fun n hn=>hw n (by simp only [DataW.weightsEach];exact zCW _ hn)
 obtain ⟨z,Tp,hz2⟩:=hs enc w DQ Bn fX q (fun j t' v' a b=>Bu (j+1) t' v' (by simpa using a) (by simpa using b)) h2 fun n hn=>hw n (by simp only [DataW.weightsEach];exact zCy _ hn)
 refine ⟨(y,z),by simp [Tp],fun j hj=>?_⟩;cases j with
 | zero=>exact hy
 | succ j=>exact hz2 j (by simpa using hj)
theorem gB {H:Type}{enc:TypeId×Value -> H}(hl:laidOutB P=true){W W':World}(hE:Aq W W'): ∀ {ts:List TypeId} {vs:List Value} {ds:List (DataW H)} {ps:List MemPlace},(∀ t∈ts,P.readableRec t=true/\ t<P.types.size) -> DataW.TrodAll enc P W 0 (fun _=>true) true ts vs ds ps -> (∀ x∈ps,x.block<W.heap.size) -> DataW.TrodAll enc P W' 0 (fun b=>decide (b<W.heap.size)) true ts vs ds ps
 | [],_,_,_,_,h,_=>by
  obtain ⟨rfl,rfl,rfl⟩:=trodAll_nil h;rfl
 | t::ts,_,_,_,hr,h,AM=>by
  obtain ⟨v,Bn,x,fX,p,q,rfl,rfl,rfl,h1,h2⟩:=zGX h;exact ⟨p,q,Below.trod hl (hr t (by simp)).1 (hr t (by simp)).2 h1 hE fun x hx=>AM x (zCW _ hx),gB hl hE (fun t ht=>hr t (by simp [ht])) h2 fun x hx=>AM x (zCy _ hx),rfl⟩
theorem wn {H:Type}{enc:TypeId×Value -> H}{f:Func}{s:ChangeSpec}{W W':World}{args:Array Value}{ds gs:List (DataW H)}{JL:List MemPlace}{tb:TypeId}(hl:laidOutB P=true)(hr: ∀ t∈f.params.toList,P.readableRec t=true/\ t<P.types.size)(hE:Aq W W') 
 (hW:DataW.Whole enc P f.params.toList s.vars false W args.toList ds gs JL) (hv:s.vars= []) (hs:s.fn H (ds++gs)= { results:=[.lit (.bool true)],args:=ds }) (cG:f.resultTypes= #[tb]) (cD:P.underlying tb=some .bool):
 s.post enc P f false true false false W args (.bool true) W':=by
 have O1:=hW;have AM:=hW.lt;obtain ⟨p,q,hA,hV,rfl,GV,Ar⟩:=hW;rw [hv] at hV;obtain ⟨rfl,rfl⟩:=trodVars_none hV;have Cn:=gB hl hE hr hA fun x hx=>AM x (zCW _ hx)
 refine ⟨ds,[],p++[],[],p,[],O1,?_,?_,?_,World.keptBut_mono (fun x hx=>⟨hx,.inr (.inl (by simpa using hx))⟩) (Below.frame hE (· ∈p++[])),fun h=>by cases h⟩
 ·rw [hs,cG];exact trodAll_mk1 (shut_bool cD true)
 ·rw [hs];exact Cn
 ·rw [hv,hs];rfl
theorem lv {H:Type}{enc:TypeId×Value -> H}{Γ:At}{oX:Nat}{f:Func}{s:ChangeSpec}{W:World}{DQ:Nat}{args:Array Value}{ds gs:List (DataW H)}{JL:List MemPlace}{tb:TypeId}{α:Type}{dv:α -> List DV}(hl:laidOutB P=true)(hr: ∀ t∈f.params.toList,P.readableRec t=true/\ t<P.types.size) 
 (zA4:GE P f.params.toList dv) (FG: ∀ (w:World) (y:α),(∀ j,AK (fun _=>False) w ((dv y).getD j .any) [] (args.getD j undef)) -> ES P Γ oX (dv y) [] (.bool true) [] true)
 (Fg: ∀ (j:Nat) t v,f.params[j]? =some t -> args[j]? =some v -> Value.okWide P W .any DQ t v) (hW:DataW.Whole enc P f.params.toList s.vars false W args.toList ds gs JL) (hv:s.vars= []) (hs:s.fn H (ds++gs)= { results:=[.lit (.bool true)],args:=ds }) (cG:f.resultTypes= #[tb]) (cD:P.underlying tb=some .bool)
 (Ay:(DataW.weightsEach P f.params.toList ds).all (· <=reachBytes)=true) (hg:Γ.gi W):Calls P oX args W fun e W'=>∃ v,e= .returned v/\ s.post enc P f false true false false W args v W':=by
 have O1:=hW;obtain ⟨p,q,hA,hV,rfl,GV,Ar⟩:=hW
 obtain ⟨y,h1,h2⟩:=zA4 enc W DQ args.toList ds p (fun j t v a b=>Fg j t v (by simpa using a) (by simpa using b)) hA fun n hn=>by
  have:=zAg.1 Ay n hn;simpa using this
 have Ak:(dv y).length=args.size:=by simpa using h1
 have mn: ∀ j,AK (fun _=>False) W ((dv y).getD j .any) [] (args.getD j undef):=fun j=>by
  rcases zCV j args.size with hj | hj
  ·have:=h2 j (by simpa using hj);simpa [u8,zAq,hj] using this
  ·have:(dv y).getD j .any= .any:=by rw [u8,zCo (by omega)];rfl
   rw [this];trivial
 refine ((FG W y mn).2 (fun _=>False) [] W args (Qa (fun b hb=>hb.elim) hg) ⟨Ak,fun i hi=>?_⟩).mono ?_
 ·exact AK.out _ (DJ (fun b hb=>PU.1 hb) []) (mn i)
 ·rintro e W' ⟨v,rfl,G⟩;obtain ⟨ρ',_,cA,_⟩:=G.ex;have cA:v= .bool true:=cA;subst cA;exact ⟨_,rfl,wn hl hr (G.ext rfl) O1 hv hs cG cD⟩
end
theorem own:ownKnob Tryz.prog.godebug=none:=by kernel_rfl
theorem lz:laidOutB Tryz.prog=true:=by kernel_rfl
theorem zFM:0<Tryz.prog.bytesOf 3:=zCT (by kernel_rfl)
theorem Ir:Rd Tryz.prog 3 1 (fun n:Int=>[.int .i64 n]):=Rd.int Tryz.underlying3 (by kernel_rfl)
theorem Su:Rd Tryz.prog 22 1 BX:=Rd.ints Tryz.underlying22 (by kernel_rfl) zFM Tryz.underlying3 (by kernel_rfl)
theorem wO:Rd Tryz.prog 23 1 (fun L:List (List Int)=>[.sl 1 L.length (AP BX L)]):=Rd.rows Tryz.underlying23 (by kernel_rfl) (zCT (by kernel_rfl)) zGk Su
set_option maxRecDepth 100000 in
theorem wT:Rd Tryz.prog 63 9 Bp:=by
 refine Rd.struct Tryz.underlying63 (by kernel_rfl)
  (Dx.cons rfl Ir<|Dx.cons rfl Su<|Dx.cons rfl Ir<|Dx.cons rfl Ir<|Dx.cons rfl Ir<|Dx.cons rfl Ir<|Dx.cons rfl Su<|Dx.cons rfl Ir<|Dx.cons rfl Ir<|Dx.nil rfl)
  (fun x:Int×List Int×Int×Int×Int×Int×List Int×Int×Int×Unit=>(⟨x.1,x.2.1,x.2.2.1,x.2.2.2.1,x.2.2.2.2.1,x.2.2.2.2.2.1,x.2.2.2.2.2.2.1,x.2.2.2.2.2.2.2.1,x.2.2.2.2.2.2.2.2.1⟩:AB)) ?_ (fun _=>rfl)
 intro x;rfl
theorem wS:Rd Tryz.prog 24 1 (fun L:List AB=>[.sl 9 L.length (AP Bp L)]):=Rd.rows Tryz.underlying24 (by kernel_rfl) (zCT (by kernel_rfl)) (by decide) wT
set_option maxRecDepth 100000 in
theorem wP:Rd Tryz.prog 26 5 AN:=by
 refine Rd.struct Tryz.underlying26 (by kernel_rfl)
  (Dx.cons rfl Ir<|Dx.cons rfl Ir<|Dx.cons rfl Su<|Dx.cons rfl wO<|Dx.cons rfl wS<|Dx.nil rfl)
  (fun x:Int×Int×List Int×List (List Int)×List AB×Unit=>(⟨x.1,x.2.1,x.2.2.1,x.2.2.2.1,x.2.2.2.2.1⟩:AA)) ?_ (fun _=>rfl)
 intro x;rfl
theorem jR:JQ Tryz.prog 26 (fun q:AA=>.agg 5 (L1 (AN q))):=JQ.agg Tryz.underlying26 wP
theorem SV:JQ Tryz.prog 22 (fun l:List Int=>.ints l):=JQ.one Tryz.underlying22 Su
theorem EN.of {M:Nat -> Prop}{w:World}{ρ:List AH}{q:AA}{v:Value}(h:AK M w (.agg 5 (L1 (AN q))) ρ v):EN q:=by
 obtain ⟨cs,_,_,hc⟩:=h
 have row: ∀ {α:Type} [Inhabited α] {m:Nat} {c:α -> List DV} {L:List α} {u:Value},0<m -> AK M w (.sl m L.length (AP c L)) ρ u -> ∀ x∈L,∀ j,j<m -> ∃ u,AK M w ((c x).getD j .any) [] u:=by
  intro α _ m c L u hm ⟨a,cap,_,_,_,hh⟩ x hx j hj;obtain ⟨i,hi,rfl⟩:=zDD hx;obtain ⟨b,o,u,_,_,_,hr⟩:=hh i j hi hj;refine ⟨u,?_⟩;have e:L.getD i default=L[i]:=by simp [hi]
  have hr:AK M w ((c (L.getD i default)).getD j .any) [] u:=hr;rw [e] at hr;exact hr
 refine ⟨?_,fun r hr=>?_,fun c cw=>?_,fun c cw=>?_⟩
 ·obtain ⟨u,_,h2⟩:=hc 2 (by decide);exact K8 h2
 ·obtain ⟨u,_,h3⟩:=hc 3 (by decide);obtain ⟨u,h⟩:=row (c:=BX) (L:=q.nbrs) zGk h3 r hr 0 zGk;exact K8 h
 ·obtain ⟨u,_,h4⟩:=hc 4 (by decide);obtain ⟨u,h⟩:=row (c:=Bp) (L:=q.cons) (by decide) h4 c cw 1 (by decide);exact K8 h
 ·obtain ⟨u,_,h4⟩:=hc 4 (by decide);obtain ⟨u,h⟩:=row (c:=Bp) (L:=q.cons) (by decide) h4 c cw 6 (by decide);exact K8 h
theorem oK:Tryz.prog.globalNamed "math/bits.deBruijn64tab" =some 1:=by kernel_rfl
theorem zDS:(Tryz.prog.globals[1]?).map (·.type)=some 187:=by kernel_rfl
abbrev bS {H:Type}:List (String×DataW H):=[("math/bits.deBruijn32tab",Rows.laid_math_bits_deBruijn32tab),("math/bits.deBruijn64tab",Rows.laid_math_bits_deBruijn64tab)]
theorem rY {W:World}(h:laidMetH Tryz.prog bS W):Lib.TabIs Tryz.prog W "math/bits.deBruijn64tab" .u8 (Lib.deBruijn64tab.map Int.ofNat):=
 Lib.tabIs_of_head (rest:=[]) oK zDS Tryz.underlying187 Tryz.underlying5 (by kernel_rfl) (by kernel_rfl) (laidMet.tail (show laidMet Tryz.prog bS W from h))
theorem gh {W:World}(h:laidMetH Tryz.prog bS W):GG.gi W:=by
 have T:=rY h;have c: ∀ j,j<64 -> W.cell? ⟨1,j,none⟩=some (.int .u8 ((Lib.deBruijn64tab.map Int.ofNat).getD j 0)):=fun j hj=>T.cell oK j (by rw [zBC];exact hj)
 refine ⟨fun j hj=>?_,?_⟩
 ·have hj:j<64:=hj;rw [c j hj]
  have:(Lib.deBruijn64tab.map Int.ofNat).getD j 0=((Lib.deBruijn64tab.getD j 0:Nat):Int):=by
   have hl:j<Lib.deBruijn64tab.length:=hj;simp [u8,hl]
  rw [this]
 ·have:=zC6 W _ (c 0 (by decide));exact this
def lu (l:List Nat)(o:Obj):Obj:=match o with
 | .cells _ t frozen=>.cells (l.map fun n=>Value.int .u8 (Int.ofNat n)).toArray t frozen
 | o=>o
noncomputable def QN (os:Os):World:= { World.holding Tryz.prog os ⟨#[],#[],[]⟩ with heap:=((World.holding Tryz.prog os ⟨#[],#[],[]⟩).heap.modify 0 (lu Lib.deBruijn32tab)).modify 1 (lu Lib.deBruijn64tab) }
def MJ:Value:=.agg #[.int .i64 0,.int .i64 0,.slice none 0 0,.slice none 0 0,.slice none 0 0]
theorem wR:Rd Tryz.prog 45 2 BM:=by
 refine Rd.struct Tryz.underlying45 (by kernel_rfl) (Dx.cons rfl Ir<|Dx.cons rfl Ir<|Dx.nil rfl) (fun x:Int×Int×Unit=>(x.1,x.2.1)) ?_ (fun _=>rfl);intro x;rfl
theorem wQ:Rd Tryz.prog 27 1 (fun L:List (Int×Int)=>[.sl 2 L.length (AP BM L)]):=Rd.rows Tryz.underlying27 (by kernel_rfl) (zCT (by kernel_rfl)) (by decide) wR
theorem jS:JQ Tryz.prog 27 (fun L:List (Int×Int)=>.sl 2 L.length (AP BM L)):=JQ.one Tryz.underlying27 wQ
end Go.Proofs.YtkjbblkieglmlaaGreatDoor
