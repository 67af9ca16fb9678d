/- Part 7 of 7 of what the proofs of these laws stand on. -/
import Derived.Test.YtodinaconebmdaaGreatDoorPyF
import Derived.Test.YtodinaconebmdaaGreatDoorRows
import Derived.ProofKit
import Derived.OpenShut
import Derived.Deep.DeepHandedRow
import Derived.Lib.LaidTab
import Derived.Deep.Slices
import Derived.Stop.LaidErr
import Derived.Test.YtodinaconebmdaaGreatDoorCards
import Derived.Test.YtodinaconebmdaaGreatDoorTie
set_option linter.all false
namespace Go.Proofs.YtodinaconebmdaaGreatDoor
abbrev zGP:=@Go.wpIn_cond_false
abbrev zHE:=@Go.wpSIn_region
open Go.RowKit
set_option maxRecDepth 100000
set_option maxHeartbeats 40000000
theorem p9 (p1:Value)(w0:World):CallsDIn Fence.wide (0-1) Tryz.prog 25 #[p1] .returning w0 fun e u' w'=>(∃ v,e= .returned v)/\ u'= .returning/\ w'=w0:=by
 refine callsDIn_of_wpSIn Tryz.func25 rfl trivial fun c₀ cs hu=>?_
 apply wpSIn_seq;apply zHE;simp [wpOpsSIn,go_sem,recoverD,hu,Tryz.ntmps25,Exit.thenS,Fence.wide];apply wpSIn_seq;apply zHE;simp [wpOpsSIn,go_sem,Exit.thenS];refine wpSIn_cond (t:=false) (by simp [Act.eval,Array.replicate]) ?_;simp only [zCZ,zF2];refine wpSIn_of_wpIn rfl (zG4 ?_);cases c₀
 simp_all [bodyPostS,results,Tryz.results25,go_sem]
theorem zEU {q:AA}{x:Int}{N:Nat -> Prop}{ρ0:List AE}{w0:World}{p1:Value}(HR:Ag Tryz.prog GG N [oC [.i x],oC (AG q)] ρ0 w0)(e1:AI (MS N [oC [.i x],oC (AG q)] ρ0) w0 (.ref 0 0) ρ0 p1):
 CallsDIn Fence.wide (0-1) Tryz.prog 25 #[p1] (.panicking (pan GY)) w0 fun e u' w'=>(∃ v,e= .returned v)/\ u'= .panicking [{ v:=GY,recovered:=true }]/\ ∃ ρ',Ag Tryz.prog GG N [oC [.i 220],oC (AG q)] ρ' w'/\ Ap [oC [.i x],oC (AG q)] ρ0 w0 [oC [.i 220],oC (AG q)] ρ' w'/\ B0 2 ρ0 ρ':=by
 refine callsDIn_of_wpSIn Tryz.func25 rfl trivial fun c₀ cs hu=>?_
 apply wpSIn_seq;apply zHE;simp [wpOpsSIn,go_sem,recoverD,hu,Tryz.ntmps25,Exit.thenS,Fence.wide,pan,GY];apply wpSIn_seq;apply zHE;simp [wpOpsSIn,go_sem,Exit.thenS];refine wpSIn_cond (t:=true) (by simp [Act.eval,Array.replicate]) ?_;simp only [zFV];refine wpSIn_of_wpIn rfl ?_
 have R0:AP Tryz.prog GG N ⟨AF 13 [(0,.ref 0 0),(2,.i 220)],[oC [.i x],oC (AG q)]⟩ ρ0 { tmps:=#[p1]++((((((((Array.replicate 12 undef).setIfInBounds 4 (Value.iface 30 (Value.int IntKind.i64 220))).setIfInBounds 5 (Value.tuple #[Value.int IntKind.i64 220,Value.bool true])).setIfInBounds 3 (Value.tuple #[Value.int IntKind.i64 220,Value.bool true])).setIfInBounds 6 (Value.int IntKind.i64 220)).setIfInBounds 7 (Value.bool true)).setIfInBounds 1 (Value.int IntKind.i64 220)).setIfInBounds 2 (Value.bool true)).setIfInBounds 8 (Value.bool true),defers:=[] } w0:=by
  refine ⟨HR,rfl,fun j hj=>?_⟩;have hj:j<13:=hj
  match j,hj with
  | 0,_=>exact e1
  | 2,_=>exact rfl
  | 1,_=>trivial
  | 3,_=>trivial
  | 4,_=>trivial
  | 5,_=>trivial
  | 6,_=>trivial
  | 7,_=>trivial
  | 8,_=>trivial
  | 9,_=>trivial
  | 10,_=>trivial
  | 11,_=>trivial
  | 12,_=>trivial
  | j+13,hj=>exact absurd hj (by omega)
 refine wr (L:=2) HC.x [] [0,1] [] ((H0.t)) H0 (AF 13 []) ([oC [.i 220],oC (AG q)]:DH) R0 (by kernel_rfl) (by kernel_rfl) fun ρ1 a1 w1 R1 Br FL DK=>?_
 simp [bodyPostS,results,Tryz.results25,FL,go_sem];exact ⟨ρ1,R1.hr,Br,DK⟩
theorem qA {q:AA}{x fuel:Int}{N:Nat -> Prop}{ρ0:List AE}{w0:World}{p1:Value}(HR:Ag Tryz.prog GG N [oC [.i x],oC [.i fuel],oC (AG q)] ρ0 w0)(e1:AI (MS N [oC [.i x],oC [.i fuel],oC (AG q)] ρ0) w0 (.ref 0 0) ρ0 p1):
 CallsDIn Fence.wide (0-1) Tryz.prog 25 #[p1] (.panicking (pan GY)) w0 fun e u' w'=>(∃ v,e= .returned v)/\ u'= .panicking [{ v:=GY,recovered:=true }]/\ ∃ ρ',Ag Tryz.prog GG N [oC [.i 220],oC [.i fuel],oC (AG q)] ρ' w'/\ Ap [oC [.i x],oC [.i fuel],oC (AG q)] ρ0 w0 [oC [.i 220],oC [.i fuel],oC (AG q)] ρ' w'/\ B0 3 ρ0 ρ':=by
 refine callsDIn_of_wpSIn Tryz.func25 rfl trivial fun c₀ cs hu=>?_
 apply wpSIn_seq;apply zHE;simp [wpOpsSIn,go_sem,recoverD,hu,Tryz.ntmps25,Exit.thenS,Fence.wide,pan,GY];apply wpSIn_seq;apply zHE;simp [wpOpsSIn,go_sem,Exit.thenS];refine wpSIn_cond (t:=true) (by simp [Act.eval,Array.replicate]) ?_;simp only [zFV];refine wpSIn_of_wpIn rfl ?_
 have R0:AP Tryz.prog GG N ⟨AF 13 [(0,.ref 0 0),(2,.i 220)],[oC [.i x],oC [.i fuel],oC (AG q)]⟩ ρ0 { tmps:=#[p1]++((((((((Array.replicate 12 undef).setIfInBounds 4 (Value.iface 30 (Value.int IntKind.i64 220))).setIfInBounds 5 (Value.tuple #[Value.int IntKind.i64 220,Value.bool true])).setIfInBounds 3 (Value.tuple #[Value.int IntKind.i64 220,Value.bool true])).setIfInBounds 6 (Value.int IntKind.i64 220)).setIfInBounds 7 (Value.bool true)).setIfInBounds 1 (Value.int IntKind.i64 220)).setIfInBounds 2 (Value.bool true)).setIfInBounds 8 (Value.bool true),defers:=[] } w0:=by
  refine ⟨HR,rfl,fun j hj=>?_⟩;have hj:j<13:=hj
  match j,hj with
  | 0,_=>exact e1
  | 2,_=>exact rfl
  | 1,_=>trivial
  | 3,_=>trivial
  | 4,_=>trivial
  | 5,_=>trivial
  | 6,_=>trivial
  | 7,_=>trivial
  | 8,_=>trivial
  | 9,_=>trivial
  | 10,_=>trivial
  | 11,_=>trivial
  | 12,_=>trivial
  | j+13,hj=>exact absurd hj (by omega)
 refine wr (L:=3) HC.x [] [0,1,2] [] ((H0.t)) H0 (AF 13 []) ([oC [.i 220],oC [.i fuel],oC (AG q)]:DH) R0 (by kernel_rfl) (by kernel_rfl) fun ρ1 a1 w1 R1 Br FL DK=>?_
 simp [bodyPostS,results,Tryz.results25,FL,go_sem];exact ⟨ρ1,R1.hr,Br,DK⟩
theorem zDM {q:AA}{fuel:Int}{N:Nat -> Prop}{ρ0:List AE}{w0:World}{u:FrameMode}{p1 p2:Value}(HR:Ag Tryz.prog GG N [oC [.i 0],oC [.i fuel],oC (AG q)] ρ0 w0)(e1:AI (MS N [oC [.i 0],oC [.i fuel],oC (AG q)] ρ0) w0 (.ref 0 0) ρ0 p1)(e2:AI (MS N [oC [.i 0],oC [.i fuel],oC (AG q)] ρ0) w0 (.ref 1 0) ρ0 p2):
 CallsDIn Fence.wide (0-1) Tryz.prog 24 #[p1,p2] u w0 fun e u' w'=>(∃ v,e= .returned v)/\ u'=u/\ ∃ ρ',Ag Tryz.prog GG N [oC [.i 0],oC [.i fuel],oC (AG q)] ρ' w'/\ Ap [oC [.i 0],oC [.i fuel],oC (AG q)] ρ0 w0 [oC [.i 0],oC [.i fuel],oC (AG q)] ρ' w'/\ B0 3 ρ0 ρ':=by
 have key:CallsDIn Fence.wide (0-1) Tryz.prog 24 #[p1,p2] u w0 fun e u' w'=>u'=u/\ ((∃ v,e= .returned v)/\ ∃ ρ',Ag Tryz.prog GG N [oC [.i 0],oC [.i fuel],oC (AG q)] ρ' w'/\ Ap [oC [.i 0],oC [.i fuel],oC (AG q)] ρ0 w0 [oC [.i 0],oC [.i fuel],oC (AG q)] ρ' w'/\ B0 3 ρ0 ρ'):=by
  refine callsDIn_of_wp (c:=AY Tryz.f24) Tryz.func24 (by kernel_rfl) trivial ?_
  have R0:AP Tryz.prog GG N ⟨AF 8 [(0,.ref 0 0),(1,.ref 1 0)],[oC [.i 0],oC [.i fuel],oC (AG q)]⟩ ρ0 { tmps:=#[p1,p2]++Array.replicate (Tryz.f24.ntmps- #[p1,p2].size) undef,defers:=[] } w0:=by
   refine ⟨HR,?_⟩;have f:A0 (MS N [oC [.i 0],oC [.i fuel],oC (AG q)] ρ0) w0 ρ0 [.ref 0 0,.ref 1 0] #[p1,p2]:=⟨rfl,fun j hj=>match j,hj with | 0,_=>e1 | 1,_=>e2 | j+2,hj=>absurd hj (by simp)⟩;exact A0.append f (A0.anys _ _ _ 6)
  refine zFl ?_;refine wr (L:=3) HC.x [0,7] [0,1,2] [] H0 H0 (AF 8 [(0,.ref 0 0),(7,.bool false)]) ([oC [.i 0],oC [.i fuel],oC (AG q)]:DH) R0 (by kernel_rfl) (by kernel_rfl) fun ρ1 a1 w1 R1 Br FL DK=>?_
  refine zGP (BO R1 (.tmp 7)) (zG4 ?_);refine ⟨by rw [FL],?_⟩;simp [results,Tryz.results24,go_sem];exact ⟨ρ1,R1.hr,Br,DK⟩
 exact key.mono fun e u' w' ⟨h1,h2,h3⟩=>⟨h2,h1,h3⟩
theorem zDL {q:AA}{fuel:Int}(c:decide (fuel>65536)=true){N:Nat -> Prop}{ρ0:List AE}{w0:World}{u:FrameMode}{p1 p2:Value}(HR:Ag Tryz.prog GG N [oC [.i 220],oC [.i fuel],oC (AG q)] ρ0 w0)(e1:AI (MS N [oC [.i 220],oC [.i fuel],oC (AG q)] ρ0) w0 (.ref 0 0) ρ0 p1)(e2:AI (MS N [oC [.i 220],oC [.i fuel],oC (AG q)] ρ0) w0 (.ref 1 0) ρ0 p2):
 CallsDIn Fence.wide (0-1) Tryz.prog 24 #[p1,p2] u w0 fun e u' w'=>(∃ v,e= .returned v)/\ u'=u/\ ∃ ρ',Ag Tryz.prog GG N [oC [.i 2],oC [.i fuel],oC (AG q)] ρ' w'/\ Ap [oC [.i 220],oC [.i fuel],oC (AG q)] ρ0 w0 [oC [.i 2],oC [.i fuel],oC (AG q)] ρ' w'/\ B0 3 ρ0 ρ':=by
 have key:CallsDIn Fence.wide (0-1) Tryz.prog 24 #[p1,p2] u w0 fun e u' w'=>u'=u/\ ((∃ v,e= .returned v)/\ ∃ ρ',Ag Tryz.prog GG N [oC [.i 2],oC [.i fuel],oC (AG q)] ρ' w'/\ Ap [oC [.i 220],oC [.i fuel],oC (AG q)] ρ0 w0 [oC [.i 2],oC [.i fuel],oC (AG q)] ρ' w'/\ B0 3 ρ0 ρ'):=by
  refine callsDIn_of_wp (c:=AY Tryz.f24) Tryz.func24 (by kernel_rfl) trivial ?_
  have R0:AP Tryz.prog GG N ⟨AF 8 [(0,.ref 0 0),(1,.ref 1 0)],[oC [.i 220],oC [.i fuel],oC (AG q)]⟩ ρ0 { tmps:=#[p1,p2]++Array.replicate (Tryz.f24.ntmps- #[p1,p2].size) undef,defers:=[] } w0:=by
   refine ⟨HR,?_⟩;have f:A0 (MS N [oC [.i 220],oC [.i fuel],oC (AG q)] ρ0) w0 ρ0 [.ref 0 0,.ref 1 0] #[p1,p2]:=⟨rfl,fun j hj=>match j,hj with | 0,_=>e1 | 1,_=>e2 | j+2,hj=>absurd hj (by simp)⟩;exact A0.append f (A0.anys _ _ _ 6)
  refine zFl ?_;refine wr (L:=3) HC.x [0,7] [0,1,2] [] H0 H0 (AF 8 [(0,.ref 0 0),(7,.bool (decide (fuel>65536)))]) ([oC [.i 220],oC [.i fuel],oC (AG q)]:DH) R0 (by kernel_rfl) (by kernel_rfl) fun ρ1 a1 w1 R1 Br FL DK=>?_
  refine wpIn_cond_true ((show a1.eval (.tmp 7)= .bool (decide (fuel>65536)) from BO R1 (.tmp 7)).trans (by rw [c])) ?_;refine wr (L:=3) HC.x [] [0,1,2] [] ((H0.t)) H0 (AF 8 []) ([oC [.i 2],oC [.i fuel],oC (AG q)]:DH) R1 (by kernel_rfl) (by kernel_rfl) fun ρ2 a2 w2 R2 Ea Ir LR=>?_
  refine ⟨by rw [Ir,FL],?_⟩;simp [results,Tryz.results24,go_sem];exact ⟨ρ2,R2.hr,(Br.trans Ea),(B0.trans DK LR)⟩
 exact key.mono fun e u' w' ⟨h1,h2,h3⟩=>⟨h2,h1,h3⟩
theorem zDK {q:AA}{fuel:Int}(c:decide (fuel>65536)=false){N:Nat -> Prop}{ρ0:List AE}{w0:World}{u:FrameMode}{p1 p2:Value}(HR:Ag Tryz.prog GG N [oC [.i 220],oC [.i fuel],oC (AG q)] ρ0 w0)(e1:AI (MS N [oC [.i 220],oC [.i fuel],oC (AG q)] ρ0) w0 (.ref 0 0) ρ0 p1)(e2:AI (MS N [oC [.i 220],oC [.i fuel],oC (AG q)] ρ0) w0 (.ref 1 0) ρ0 p2):
 CallsDIn Fence.wide (0-1) Tryz.prog 24 #[p1,p2] u w0 fun e u' w'=>(∃ v,e= .returned v)/\ u'=u/\ ∃ ρ',Ag Tryz.prog GG N [oC [.i 220],oC [.i fuel],oC (AG q)] ρ' w'/\ Ap [oC [.i 220],oC [.i fuel],oC (AG q)] ρ0 w0 [oC [.i 220],oC [.i fuel],oC (AG q)] ρ' w'/\ B0 3 ρ0 ρ':=by
 have key:CallsDIn Fence.wide (0-1) Tryz.prog 24 #[p1,p2] u w0 fun e u' w'=>u'=u/\ ((∃ v,e= .returned v)/\ ∃ ρ',Ag Tryz.prog GG N [oC [.i 220],oC [.i fuel],oC (AG q)] ρ' w'/\ Ap [oC [.i 220],oC [.i fuel],oC (AG q)] ρ0 w0 [oC [.i 220],oC [.i fuel],oC (AG q)] ρ' w'/\ B0 3 ρ0 ρ'):=by
  refine callsDIn_of_wp (c:=AY Tryz.f24) Tryz.func24 (by kernel_rfl) trivial ?_
  have R0:AP Tryz.prog GG N ⟨AF 8 [(0,.ref 0 0),(1,.ref 1 0)],[oC [.i 220],oC [.i fuel],oC (AG q)]⟩ ρ0 { tmps:=#[p1,p2]++Array.replicate (Tryz.f24.ntmps- #[p1,p2].size) undef,defers:=[] } w0:=by
   refine ⟨HR,?_⟩;have f:A0 (MS N [oC [.i 220],oC [.i fuel],oC (AG q)] ρ0) w0 ρ0 [.ref 0 0,.ref 1 0] #[p1,p2]:=⟨rfl,fun j hj=>match j,hj with | 0,_=>e1 | 1,_=>e2 | j+2,hj=>absurd hj (by simp)⟩;exact A0.append f (A0.anys _ _ _ 6)
  refine zFl ?_;refine wr (L:=3) HC.x [0,7] [0,1,2] [] H0 H0 (AF 8 [(0,.ref 0 0),(7,.bool (decide (fuel>65536)))]) ([oC [.i 220],oC [.i fuel],oC (AG q)]:DH) R0 (by kernel_rfl) (by kernel_rfl) fun ρ1 a1 w1 R1 Br FL DK=>?_
  refine zGP ((show a1.eval (.tmp 7)= .bool (decide (fuel>65536)) from BO R1 (.tmp 7)).trans (by rw [c])) (zG4 ?_);refine ⟨by rw [FL],?_⟩;simp [results,Tryz.results24,go_sem];exact ⟨ρ1,R1.hr,Br,DK⟩
 exact key.mono fun e u' w' ⟨h1,h2,h3⟩=>⟨h2,h1,h3⟩
end Go.Proofs.YtodinaconebmdaaGreatDoor
namespace Go.Proofs.YtodinaconebmdaaGreatDoor
open Go.RowKit
set_option maxRecDepth 100000
set_option maxHeartbeats 40000000
theorem eU {q:AA}{fuel:Int}{l:List (List Int)}{t:List (Int×Int)}{e:Int}{d6 d7:DV}(h6:AL d6 (.sl 1 l.length (AO Ac l)))(h7:AL d7 (.sl 2 t.length (AO BA t))){N:Nat -> Prop}{ρs ρ0:List AE}{ws w0:World}{a0:Act}(FO:Ag Tryz.prog GG N [] ρs ws)(Eo:Ap [] ρs ws [oC [.i e],oC [.i fuel],oC (AG q)] ρ0 w0)(R0:AP Tryz.prog GG N ⟨AF 39 [(6,d6),(7,d7),(8,.ref 0 0)],[oC [.i e],oC [.i fuel],oC (AG q)]⟩ ρ0 a0 w0):LeavesInM Fence.wide 0 Tryz.prog Tryz.f10 a0.tmps (fun e1 w'=>∃ v,e1= .returned v/\ B1 Tryz.prog GG N [] ρs ws true (.tup 3 (L1 [.sl 1 l.length (AO Ac l),.sl 2 t.length (AO BA t),.i e])) [] v w') [] .returning w0:=by
 obtain ⟨v,h1,h2⟩:=VL (fn:=Tryz.f10) R0 FO Eo [] H0 [d6,d7,.i e] (AL.tupL (l:=[d6,d7,.i e]) (l':=[.sl 1 l.length (AO Ac l),.sl 2 t.length (AO BA t),.i e]) rfl ⟨h6,h7,Ay,trivial⟩) (by kernel_rfl) (by kernel_rfl);exact ⟨v,h1,v,rfl,h2⟩
theorem pD {q:AA}{fuel:Int}{l:List (List Int)}{t:List (Int×Int)}{d6 d7:DV}(h6:AL d6 (.sl 1 l.length (AO Ac l)))(h7:AL d7 (.sl 2 t.length (AO BA t))){N:Nat -> Prop}{ρs ρ0:List AE}{ws w0:World}{a0:Act}(FO:Ag Tryz.prog GG N [] ρs ws)(Eo:Ap [] ρs ws [oC [.i 0],oC [.i fuel],oC (AG q)] ρ0 w0)(B3:(AF 39 [(6,d6),(7,d7),(8,.ref 0 0)]).all (Ck 3)=true)(R0:AP Tryz.prog GG N ⟨AF 39 [(6,d6),(7,d7),(8,.ref 0 0)],[oC [.i 0],oC [.i fuel],oC (AG q)]⟩ ρ0 a0 w0){pe pf:Value}(F0:A0 (MS N [oC [.i 0],oC [.i fuel],oC (AG q)] ρ0) w0 ρ0 [.ref 0 0,.ref 1 0] #[pe,pf]):LeavesInM Fence.wide 0 Tryz.prog Tryz.f10 a0.tmps (fun e1 w'=>∃ v,e1= .returned v/\ B1 Tryz.prog GG N [] ρs ws true (.tup 3 (L1 [.sl 1 l.length (AO Ac l),.sl 2 t.length (AO BA t),.i 0])) [] v w') [{ target:=.fn (.func 25) #[],args:=#[pe] },{ target:=.fn (.func 24) #[pe,pf],args:=#[] }] .returning w0:=by
 refine Ms (by simp) (fun args W=>I0 Tryz.func25 (by kernel_rfl) (by kernel_rfl) args W) (by simp: #[pe]++(#[]:Array Value)= #[pe]) ?_;refine (p9 pe w0).mono ?_;rintro e u' w1 ⟨⟨v,rfl⟩,rfl,rfl⟩;refine Ms (by simp [settle]) (fun args W=>I0 Tryz.func24 (by kernel_rfl) (by kernel_rfl) args W) (by simp:(#[]:Array Value)++#[pe,pf]= #[pe,pf]) ?_;refine (zDM R0.hr (F0.at 0) (F0.at 1)).mono ?_;rintro e u' w' ⟨⟨v,rfl⟩,rfl,ρ1,EB,Br,DK⟩;exact eU (a0:=a0) (e:=0) h6 h7 FO (Eo.trans Br) ⟨EB,GX (L:=3) R0.fr B3 EB Br DK⟩
theorem zDI {q:AA}{fuel:Int}{l:List (List Int)}{t:List (Int×Int)}{d6 d7:DV}(h6:AL d6 (.sl 1 l.length (AO Ac l)))(h7:AL d7 (.sl 2 t.length (AO BA t))){N:Nat -> Prop}{ρs ρ0:List AE}{ws w0:World}{a0:Act}(FO:Ag Tryz.prog GG N [] ρs ws)(Eo:Ap [] ρs ws [oC [.i 0],oC [.i fuel],oC (AG q)] ρ0 w0)(B3:(AF 39 [(6,d6),(7,d7),(8,.ref 0 0)]).all (Ck 3)=true)(R0:AP Tryz.prog GG N ⟨AF 39 [(6,d6),(7,d7),(8,.ref 0 0)],[oC [.i 0],oC [.i fuel],oC (AG q)]⟩ ρ0 a0 w0){pe pf:Value}(F0:A0 (MS N [oC [.i 0],oC [.i fuel],oC (AG q)] ρ0) w0 ρ0 [.ref 0 0,.ref 1 0] #[pe,pf])(c:decide (fuel>65536)=true):LeavesInM Fence.wide 0 Tryz.prog Tryz.f10 a0.tmps (fun e1 w'=>∃ v,e1= .returned v/\ B1 Tryz.prog GG N [] ρs ws true (.tup 3 (L1 [.sl 1 l.length (AO Ac l),.sl 2 t.length (AO BA t),.i 2])) [] v w') [{ target:=.fn (.func 25) #[],args:=#[pe] },{ target:=.fn (.func 24) #[pe,pf],args:=#[] }] (.panicking (pan GY)) w0:=by
 refine Ms (by simp) (fun args W=>I0 Tryz.func25 (by kernel_rfl) (by kernel_rfl) args W) (by simp: #[pe]++(#[]:Array Value)= #[pe]) ?_;refine (qA R0.hr (F0.at 0)).mono ?_;rintro e u' w1 ⟨⟨v,rfl⟩,rfl,ρ1,EB,Br,DK⟩;have Kk:=GX (L:=3) R0.fr B3 EB Br DK;have F1:=GX (L:=3) F0 (by kernel_rfl) EB Br DK;refine Ms (by simp [settle]) (fun args W=>I0 Tryz.func24 (by kernel_rfl) (by kernel_rfl) args W) (by simp:(#[]:Array Value)++#[pe,pf]= #[pe,pf]) ?_;refine (zDL c EB (F1.at 0) (F1.at 1)).mono ?_;rintro e u' w' ⟨⟨v,rfl⟩,rfl,ρ2,L6,Ea,LR⟩;exact eU (a0:=a0) (e:=2) h6 h7 FO ((Eo.trans Br).trans Ea) ⟨L6,GX (L:=3) Kk B3 L6 Ea LR⟩
theorem zDH {q:AA}{fuel:Int}{l:List (List Int)}{t:List (Int×Int)}{d6 d7:DV}(h6:AL d6 (.sl 1 l.length (AO Ac l)))(h7:AL d7 (.sl 2 t.length (AO BA t))){N:Nat -> Prop}{ρs ρ0:List AE}{ws w0:World}{a0:Act}(FO:Ag Tryz.prog GG N [] ρs ws)(Eo:Ap [] ρs ws [oC [.i 0],oC [.i fuel],oC (AG q)] ρ0 w0)(B3:(AF 39 [(6,d6),(7,d7),(8,.ref 0 0)]).all (Ck 3)=true)(R0:AP Tryz.prog GG N ⟨AF 39 [(6,d6),(7,d7),(8,.ref 0 0)],[oC [.i 0],oC [.i fuel],oC (AG q)]⟩ ρ0 a0 w0){pe pf:Value}(F0:A0 (MS N [oC [.i 0],oC [.i fuel],oC (AG q)] ρ0) w0 ρ0 [.ref 0 0,.ref 1 0] #[pe,pf])(c:decide (fuel>65536)=false):LeavesInM Fence.wide 0 Tryz.prog Tryz.f10 a0.tmps (fun e1 w'=>∃ v,e1= .returned v/\ B1 Tryz.prog GG N [] ρs ws true (.tup 3 (L1 [.sl 1 l.length (AO Ac l),.sl 2 t.length (AO BA t),.i 220])) [] v w') [{ target:=.fn (.func 25) #[],args:=#[pe] },{ target:=.fn (.func 24) #[pe,pf],args:=#[] }] (.panicking (pan GY)) w0:=by
 refine Ms (by simp) (fun args W=>I0 Tryz.func25 (by kernel_rfl) (by kernel_rfl) args W) (by simp: #[pe]++(#[]:Array Value)= #[pe]) ?_;refine (qA R0.hr (F0.at 0)).mono ?_;rintro e u' w1 ⟨⟨v,rfl⟩,rfl,ρ1,EB,Br,DK⟩;have Kk:=GX (L:=3) R0.fr B3 EB Br DK;have F1:=GX (L:=3) F0 (by kernel_rfl) EB Br DK;refine Ms (by simp [settle]) (fun args W=>I0 Tryz.func24 (by kernel_rfl) (by kernel_rfl) args W) (by simp:(#[]:Array Value)++#[pe,pf]= #[pe,pf]) ?_;refine (zDK c EB (F1.at 0) (F1.at 1)).mono ?_;rintro e u' w' ⟨⟨v,rfl⟩,rfl,ρ2,L6,Ea,LR⟩;exact eU (a0:=a0) (e:=220) h6 h7 FO ((Eo.trans Br).trans Ea) ⟨L6,GX (L:=3) Kk B3 L6 Ea LR⟩
def NN (fuel:Int):Option (List (List Int)×List (Int×Int)×Bool) -> List (List Int)×List (Int×Int)×Int
 | none=>([],[],if fuel>65536 then 2 else 220)
 | some r=>(r.1,if r.2.2 then [] else r.2.1,0)
def EP (n:Nat)(q:AA)(pos:List Int)(fuel:Int):Option (List (List Int)×List (Int×Int)×Int):= (Ew n q pos).bind fun y1=> bif (y1 != 0) then some ([],[],y1) else bif (decide (fuel<0)) then some ([],[],1) else bif (decide (fuel>16777216)) then some ([],[],1) else (J8 n q pos 2 (if 65536<fuel then 65536 else fuel)).map (NN fuel)
theorem zDF {n:Nat}{q:AA}{pos:List Int}{fuel:Int}{out:Option (List (List Int)×List (Int×Int)×Bool)}(Au:Ew n q pos=some 0)(c1:decide (fuel<0)=false)(c2:decide (fuel>16777216)=false)(hr:J8 n q pos 2 (if 65536<fuel then 65536 else fuel)=some out) 
 {N:Nat -> Prop} {ρ0:List AE} {a0:Act} {w0:World} (R0:AP Tryz.prog GG N ⟨AF 39 [(0,.agg 5 (L1 (AG q))),(1,.ints pos),(2,.i fuel)],[]⟩ ρ0 a0 w0) (EN:a0.defers= []):
 (AY Tryz.f10).wpIn Fence.wide 0 Tryz.prog (bodyPostM Fence.wide 0 Tryz.prog Tryz.f10 fun e w'=>∃ v,e= .returned v/\ B1 Tryz.prog GG N [] ρ0 w0 true (.tup 3 (L1 [.sl 1 (((NN fuel out).1).length) (AO Ac ((NN fuel out).1)),.sl 2 (((NN fuel out).2.1).length) (AO BA ((NN fuel out).2.1)),.i (NN fuel out).2.2])) [] v w') a0 w0:=by
 refine zFl ?_;refine wr (L:=0) HC.x [1,3,5,6,7,8] [2,1,0] [] H0 H0 (AF 39 [(1,.ints pos),(3,.ref 2 0),(5,.ref 1 0),(6,.nils),(7,.nils),(8,.ref 0 0)]) ([oC [.i 0],oC [.i fuel],oC (AG q)]:DH) R0 (by kernel_rfl) (by kernel_rfl) fun ρ1 a1 w1 R1 Br FL DK=>?_
 refine zFl (zFl ?_);refine wr (L:=0) HC.x [1,3,5,6,7,8,9] [0,1,2] [] ((H0.c (fb (KH Au) [oC [.i 0],oC [.i fuel],oC (AG q)]))) H0 (AF 39 [(1,.ints pos),(3,.ref 2 0),(5,.ref 1 0),(6,.nils),(7,.nils),(8,.ref 0 0),(9,.i 0)]) ([oC [.i 0],oC [.i fuel],oC (AG q)]:DH) R1 (by kernel_rfl) (by kernel_rfl) fun ρ2 a2 w2 R2 Ea Ir LR=>?_
 refine zFl ?_;refine wr (L:=0) HC.x [1,3,5,6,7,8,9,17] [0,1,2] [] H0 H0 (AF 39 [(1,.ints pos),(3,.ref 2 0),(5,.ref 1 0),(6,.nils),(7,.nils),(8,.ref 0 0),(9,.i 0),(17,.bool false)]) ([oC [.i 0],oC [.i fuel],oC (AG q)]:DH) R2 (by kernel_rfl) (by kernel_rfl) fun ρ3 a3 w3 R3 En dk Qz=>?_
 refine zGP (BO R3 (.tmp 17)) (zG4 ?_);refine zFl (zFl ?_);refine wr (L:=0) HC.x [1,3,5,6,7,8,24] [0,1,2] [] ((H0.b 20 c1 |>.b 23 c2)) H0 (AF 39 [(1,.ints pos),(3,.ref 2 0),(5,.ref 1 0),(6,.nils),(7,.nils),(8,.ref 0 0),(24,.bool false)]) ([oC [.i 0],oC [.i fuel],oC (AG q)]:DH) R3 (by kernel_rfl) (by kernel_rfl) fun ρ4 a4 w4 R4 J4 Ja yz=>?_
 refine zGP (BO R4 (.tmp 24)) (zG4 ?_);have R4:AP Tryz.prog GG N ⟨AF 39 [(1,.ints pos),(3,.ref 2 0),(5,.ref 1 0),(6,.nils),(7,.nils),(8,.ref 0 0)],[oC [.i 0],oC [.i fuel],oC (AG q)]⟩ ρ4 a4 w4:=R4.forg [1,3,5,6,7,8] rfl (by kernel_rfl);have Av:a4.tmps.size=39:=by simpa [AF] using R4.fr.1.symm
 refine zFl (ra (o0:=_) (o1:=_) rfl rfl rfl rfl rfl rfl rfl (by rw [Av];decide) fun a5 nD hd5=>?_);have R5:=R4.idle 25 nD (by kernel_rfl);refine zFl (gh (o0:=_) rfl rfl rfl rfl fun a6 cd Li=>?_);have R6:AP Tryz.prog GG N ⟨AF 39 [(1,.ints pos),(3,.ref 2 0),(5,.ref 1 0),(6,.nils),(7,.nils),(8,.ref 0 0)],[oC [.i 0],oC [.i fuel],oC (AG q)]⟩ ρ4 a6 w4:=⟨R5.hr,by rw [cd];exact R5.fr⟩;obtain ⟨pe,M3⟩: ∃ x,x=a4.eval (.tmp 8):=⟨_,rfl⟩;obtain ⟨pf,nM⟩: ∃ x,x=a4.eval (.tmp 5):=⟨_,rfl⟩;have zAZ:a5.eval (.tmp 8)=pe:=by rw [M3];simp [Act.eval,nD]
 have Li:a6.defers= [{ target:=.fn (.func 25) #[],args:=#[pe] },{ target:=.fn (.func 24) #[pe,pf],args:=#[] }]:=by rw [Li,hd5,Ja,dk,Ir,FL,EN,zAZ,M3,nM];simp
 have F4:A0 (MS N [oC [.i 0],oC [.i fuel],oC (AG q)] ρ4) w4 ρ4 [.ref 0 0,.ref 1 0] #[pe,pf]:=⟨rfl,fun j hj=>match j,hj with | 0,_=>(by show AI _ _ _ _ pe;rw [M3];exact R4.fr.at 8) | 1,_=>(by show AI _ _ _ _ pf;rw [nM];exact R4.fr.at 5) | j+2,hj=>absurd hj (by simp)⟩;have J4:=(((Br.trans Ea).trans En).trans J4);refine zFl ?_;cases out with
 | none=>
  refine gM (dst:=some 31) (kB hr) [0,1,2,3] [5,6,7,8,9,10,11] 4 H0 (AF 39 [(6,.nils),(7,.nils),(8,.ref 0 0)]) [oC [.i 0],oC [.i fuel],oC (AG q)] R6 (by kernel_rfl) (by kernel_rfl) (by kernel_rfl) (by kernel_rfl) fun ρ7 a7 w7 R7 Fo JZ Ov=>?_
  have F7:=GX (L:=3) F4 (by kernel_rfl) R7.hr Fo Ov
  show LeavesInM _ _ _ _ _ _ a7.defers (.panicking (pan GY)) w7
  rw [JZ,Li];cases c:decide (fuel>65536) with
  | true=>
   show LeavesInM Fence.wide 0 Tryz.prog Tryz.f10 a7.tmps (fun e1 w'=>∃ v,e1= .returned v/\ B1 Tryz.prog GG N [] ρ0 w0 true (.tup 3 (L1 [.sl 1 (([]:List (List Int)).length) (AO Ac ([]:List (List Int))),.sl 2 (([]:List (Int×Int)).length) (AO BA ([]:List (Int×Int))),.i (if fuel>65536 then (2:Int) else 220)])) [] v w') _ _ _
   rw [show (if fuel>65536 then (2:Int) else 220)=2 from zAA (zFr c)];exact zDI (l:=[]) (t:=[]) (AL.sl_nil _ _) (AL.sl_nil _ _) R0.hr (J4.trans Fo) (by kernel_rfl) R7 F7 c
  | false=>
   show LeavesInM Fence.wide 0 Tryz.prog Tryz.f10 a7.tmps (fun e1 w'=>∃ v,e1= .returned v/\ B1 Tryz.prog GG N [] ρ0 w0 true (.tup 3 (L1 [.sl 1 (([]:List (List Int)).length) (AO Ac ([]:List (List Int))),.sl 2 (([]:List (Int×Int)).length) (AO BA ([]:List (Int×Int))),.i (if fuel>65536 then (2:Int) else 220)])) [] v w') _ _ _
   rw [show (if fuel>65536 then (2:Int) else 220)=220 from zAY (of_decide_eq_false c)];exact zDH (l:=[]) (t:=[]) (AL.sl_nil _ _) (AL.sl_nil _ _) R0.hr (J4.trans Fo) (by kernel_rfl) R7 F7 c
 | some r=>
  refine wr (L:=3) HC.x [6,7,8,10,11,12] [0,1,2] [] ((H0.c (fb (kC hr) [oC [.i 0],oC [.i fuel],oC (AG q)]))) H0 (AF 39 [(6,.nils),(7,.nils),(8,.ref 0 0),(10,.sl 1 r.1.length (AO Ac r.1)),(11,.sl 2 r.2.1.length (AO BA r.2.1)),(12,.bool r.2.2)]) ([oC [.i 0],oC [.i fuel],oC (AG q)]:DH) R6 (by kernel_rfl) (by kernel_rfl) fun ρ7 a7 w7 R7 Fo JZ Ov=>?_
  have F7:=GX (L:=3) F4 (by kernel_rfl) R7.hr Fo Ov;have Fo:=J4.trans Fo;have JZ:=JZ.trans Li;refine zFl (zFl ?_);refine wr (L:=3) HC.x [6,7,8,10,11,35] [0,1,2] [] H0 H0 (AF 39 [(6,.nils),(7,.nils),(8,.ref 0 0),(10,.sl 1 r.1.length (AO Ac r.1)),(11,.sl 2 r.2.1.length (AO BA r.2.1)),(35,.bool r.2.2)]) ([oC [.i 0],oC [.i fuel],oC (AG q)]:DH) R7 (by kernel_rfl) (by kernel_rfl) fun ρ8 a8 w8 R8 MK RS Xq=>?_
  have F8:=GX (L:=3) F7 (by kernel_rfl) R8.hr MK Xq;have RS:=RS.trans JZ;cases c:r.2.2 with
  | true=>
   refine wpIn_cond_true ((show a8.eval (.tmp 35)= .bool r.2.2 from BO R8 (.tmp 35)).trans (by rw [c])) ?_;refine zFl ?_;refine wr (L:=3) HC.x [6,7,8] [0,1,2] [] ((H0.t)) H0 (AF 39 [(6,.sl 1 r.1.length (AO Ac r.1)),(7,.nils),(8,.ref 0 0)]) ([oC [.i 0],oC [.i fuel],oC (AG q)]:DH) R8 (by kernel_rfl) (by kernel_rfl) fun ρ9 a9 w9 R9 Sx dj bq=>?_
   have F9:=GX (L:=3) F8 (by kernel_rfl) R9.hr Sx bq;refine zHA ?_
   show LeavesInM _ _ _ _ _ _ a9.defers .returning w9
   rw [dj,RS];have e:NN fuel (some r)=(r.1,([]:List (Int×Int)),0):=by show (r.1,(if r.2.2=true then [] else r.2.1),(0:Int))=_;rw [c];rfl
   rw [e];exact pD (l:=r.1) (t:=([]:List (Int×Int))) (AL.of_eq (by kernel_rfl)) (AL.sl_nil _ _) R0.hr ((Fo.trans MK).trans Sx) (by kernel_rfl) R9 F9
  | false=>
   refine zGP ((show a8.eval (.tmp 35)= .bool r.2.2 from BO R8 (.tmp 35)).trans (by rw [c])) ?_;refine zG4 (zFl ?_);refine wr (L:=3) HC.x [6,7,8] [0,1,2] [] ((H0.t)) H0 (AF 39 [(6,.sl 1 r.1.length (AO Ac r.1)),(7,.sl 2 r.2.1.length (AO BA r.2.1)),(8,.ref 0 0)]) ([oC [.i 0],oC [.i fuel],oC (AG q)]:DH) R8 (by kernel_rfl) (by kernel_rfl) fun ρ9 a9 w9 R9 Sx dj bq=>?_
   have F9:=GX (L:=3) F8 (by kernel_rfl) R9.hr Sx bq;refine zHA ?_
   show LeavesInM _ _ _ _ _ _ a9.defers .returning w9
   rw [dj,RS];have e:NN fuel (some r)=(r.1,r.2.1,0):=by show (r.1,(if r.2.2=true then [] else r.2.1),(0:Int))=_;rw [c];rfl
   rw [e];exact pD (l:=r.1) (t:=r.2.1) (AL.of_eq (by kernel_rfl)) (AL.of_eq (by kernel_rfl)) R0.hr ((Fo.trans MK).trans Sx) (by kernel_rfl) R9 F9
def VJ (n:Nat)(q:AA)(pos:List Int)(fuel:Int):Option ((List (List Int))×(List (Int×Int))×Int):= (Ew n q pos).bind fun y1=> bif (y1 != 0) then some (([]:List (List Int)),([]:List (Int×Int)),y1) else bif (decide (fuel<0)) then some (([]:List (List Int)),([]:List (Int×Int)),1) else bif (decide (fuel>16777216)) then some (([]:List (List Int)),([]:List (Int×Int)),1) else none
def VK (n:Nat)(q:AA)(pos:List Int)(fuel:Int):Option ((List (List Int))×(List (Int×Int))×Int):=VJ n q pos fuel
theorem eV {n:Nat}{q:AA}{pos:List Int}{fuel:Int}{r:(List (List Int))×(List (Int×Int))×Int}(h:VK n q pos fuel=some r):EQ 10 [.agg 5 (L1 (AG q)),.ints pos,.i fuel] [] (.tup 3 (L1 [.sl 1 r.1.length (AO Ac r.1),.sl 2 r.2.1.length (AO BA r.2.1),.i r.2.2])) [] true:=by
 unfold VK VJ at h;refine ot Tryz.func10 fun B N=>?_
 revert r;apply gO;exact cf KH [oC (AG q),oC [.i fuel],oC [.i 0]] fun y1=>bi 17 (jt (lF fun p=>el AD [6,7,8] [2] p [] H0 [.nils,.nils,.i y1] (AL.tupL (l:=[.nils,.nils,.i y1]) (l':=[.sl 1 (([]:List (List Int)).length) (AO Ac ([]:List (List Int))),.sl 2 (([]:List (Int×Int)).length) (AO BA ([]:List (Int×Int))),.i y1]) rfl ⟨(AL.sl_nil _ _),(AL.sl_nil _ _),Ay,trivial⟩))) (bi 20 (jt (lF fun p=>el AD [6,7,8] [2] p [] H0 [.nils,.nils,.i 1] (AL.tupL (l:=[.nils,.nils,.i 1]) (l':=[.sl 1 (([]:List (List Int)).length) (AO Ac ([]:List (List Int))),.sl 2 (([]:List (Int×Int)).length) (AO BA ([]:List (Int×Int))),.i 1]) rfl ⟨(AL.sl_nil _ _),(AL.sl_nil _ _),Ay,trivial⟩))) (bi 23 (jt (lF fun p=>el AD [6,7,8] [2] p [] H0 [.nils,.nils,.i 1] (AL.tupL (l:=[.nils,.nils,.i 1]) (l':=[.sl 1 (([]:List (List Int)).length) (AO Ac ([]:List (List Int))),.sl 2 (([]:List (Int×Int)).length) (AO BA ([]:List (Int×Int))),.i 1]) rfl ⟨(AL.sl_nil _ _),(AL.sl_nil _ _),Ay,trivial⟩))) nO))
theorem Lr {n:Nat}{q:AA}{pos:List Int}{fuel:Int}{r:List (List Int)×List (Int×Int)×Int}(h:EP n q pos fuel=some r):EQ 10 [.agg 5 (L1 (AG q)),.ints pos,.i fuel] [] (.tup 3 (L1 [.sl 1 r.1.length (AO Ac r.1),.sl 2 r.2.1.length (AO BA r.2.1),.i r.2.2])) [] true:=by
 unfold EP at h;obtain ⟨y1,Au,h⟩:=GA h;rcases C8 h with ⟨d0,h⟩ | ⟨d0,h⟩
 ·refine eV (n:=n) ?_;unfold VK VJ;rw [Au,zAB,d0,zAK];exact h
 rcases C8 h with ⟨d1,h⟩ | ⟨d1,h⟩
 ·refine eV (n:=n) ?_;unfold VK VJ;rw [Au,zAB,d0,zAC,d1,zAK];exact h
 rcases C8 h with ⟨d2,h⟩ | ⟨d2,h⟩
 ·refine eV (n:=n) ?_;unfold VK VJ;rw [Au,zAB,d0,zAC,d1,zAC,d2,zAK];exact h
 obtain ⟨out,hr,rfl⟩:=zFc.1 h;have e0:y1=0:=by simpa using d0
 subst e0;have PM:(Tryz.f10.name== "runtime.NumGoroutine")=false:=by kernel_rfl
 refine ⟨⟨Tryz.f10,Tryz.func10,by simpa using PM,by kernel_rfl⟩,fun N ρ w args HR CD=>(zGj (n:=0)).1 (callsIn_of_wp_marks (c:=AY Tryz.f10) Tryz.func10 (by kernel_rfl) trivial ?_)⟩;refine zDF Au d1 d2 hr (N:=N) (ρ0:=ρ) ⟨HR,?_⟩ rfl;have Af:([.agg 5 (L1 (AG q)),.ints pos,.i fuel]:List DV).length=args.size:=CD.1;have e:([.agg 5 (L1 (AG q)),.ints pos,.i fuel]:List DV)++List.replicate (Tryz.f10.ntmps-([.agg 5 (L1 (AG q)),.ints pos,.i fuel]:List DV).length) .any=AF 39 [(0,.agg 5 (L1 (AG q))),(1,.ints pos),(2,.i fuel)]:=by kernel_rfl
 rw [←e,Af];exact A0.append CD (A0.anys _ _ _ _)
theorem mQ {q:AA}{m:Int}{e:Int}{d6:DV}(h6:AL d6 (.i m)){N:Nat -> Prop}{ρs ρ0:List AE}{ws w0:World}{a0:Act}(FO:Ag Tryz.prog GG N [] ρs ws)(Eo:Ap [] ρs ws [oC [.i e],oC (AG q)] ρ0 w0)(R0:AP Tryz.prog GG N ⟨AF 45 [(8,d6),(9,.ref 0 0)],[oC [.i e],oC (AG q)]⟩ ρ0 a0 w0):LeavesInM Fence.wide 0 Tryz.prog Tryz.f16 a0.tmps (fun e1 w'=>∃ v,e1= .returned v/\ B1 Tryz.prog GG N [] ρs ws true (.tup 2 (L1 [.i m,.i e])) [] v w') [] .returning w0:=by
 obtain ⟨v,h1,h2⟩:=VL (fn:=Tryz.f16) R0 FO Eo [] H0 [d6,.i e] (AL.tupL (l:=[d6,.i e]) (l':=[.i m,.i e]) rfl ⟨h6,Ay,trivial⟩) (by kernel_rfl) (by kernel_rfl);exact ⟨v,h1,v,rfl,h2⟩
theorem yI {q:AA}{m:Int}{d6:DV}(h6:AL d6 (.i m)){N:Nat -> Prop}{ρs ρ0:List AE}{ws w0:World}{a0:Act}(FO:Ag Tryz.prog GG N [] ρs ws)(Eo:Ap [] ρs ws [oC [.i 0],oC (AG q)] ρ0 w0)(B3:(AF 45 [(8,d6),(9,.ref 0 0)]).all (Ck 2)=true)(R0:AP Tryz.prog GG N ⟨AF 45 [(8,d6),(9,.ref 0 0)],[oC [.i 0],oC (AG q)]⟩ ρ0 a0 w0){pe:Value}(F0:A0 (MS N [oC [.i 0],oC (AG q)] ρ0) w0 ρ0 [.ref 0 0] #[pe]):LeavesInM Fence.wide 0 Tryz.prog Tryz.f16 a0.tmps (fun e1 w'=>∃ v,e1= .returned v/\ B1 Tryz.prog GG N [] ρs ws true (.tup 2 (L1 [.i m,.i 0])) [] v w') [{ target:=.fn (.func 25) #[],args:=#[pe] }] .returning w0:=by
 refine Ms (by simp) (fun args W=>I0 Tryz.func25 (by kernel_rfl) (by kernel_rfl) args W) (by simp: #[pe]++(#[]:Array Value)= #[pe]) ?_;refine (p9 pe w0).mono ?_;rintro e u' w1 ⟨⟨v,rfl⟩,rfl,rfl⟩;exact mQ (a0:=a0) (e:=0) h6 FO Eo R0
theorem yJ {q:AA}{m:Int}{d6:DV}(h6:AL d6 (.i m)){N:Nat -> Prop}{ρs ρ0:List AE}{ws w0:World}{a0:Act}(FO:Ag Tryz.prog GG N [] ρs ws)(Eo:Ap [] ρs ws [oC [.i 0],oC (AG q)] ρ0 w0)(B3:(AF 45 [(8,d6),(9,.ref 0 0)]).all (Ck 2)=true)(R0:AP Tryz.prog GG N ⟨AF 45 [(8,d6),(9,.ref 0 0)],[oC [.i 0],oC (AG q)]⟩ ρ0 a0 w0){pe:Value}(F0:A0 (MS N [oC [.i 0],oC (AG q)] ρ0) w0 ρ0 [.ref 0 0] #[pe]):LeavesInM Fence.wide 0 Tryz.prog Tryz.f16 a0.tmps (fun e1 w'=>∃ v,e1= .returned v/\ B1 Tryz.prog GG N [] ρs ws true (.tup 2 (L1 [.i m,.i 220])) [] v w') [{ target:=.fn (.func 25) #[],args:=#[pe] }] (.panicking (pan GY)) w0:=by
 refine Ms (by simp) (fun args W=>I0 Tryz.func25 (by kernel_rfl) (by kernel_rfl) args W) (by simp: #[pe]++(#[]:Array Value)= #[pe]) ?_;refine (zEU R0.hr (F0.at 0)).mono ?_;rintro e u' w1 ⟨⟨v,rfl⟩,rfl,ρ1,EB,Br,DK⟩;have Kk:=GX (L:=2) R0.fr B3 EB Br DK;exact mQ (a0:=a0) (e:=220) h6 FO (Eo.trans Br) ⟨EB,Kk⟩
def bW:Option (List (List Int)×List (Int×Int)×Bool) -> Int×Int
 | none=>(0,220)
 | some r=>((r.1.length:Int),0)
def KU (n:Nat)(q:AA)(pos:List Int)(most fuel:Int):Option (Int×Int):= (Ew n q pos).bind fun y1=> bif (y1 != 0) then some (0,y1) else bif (decide (most<1)) then some (0,1) else bif (decide (most>65536)) then some (0,1) else bif (decide (fuel<0)) then some (0,1) else bif (decide (fuel>16777216)) then some (0,1) else (J8 n q pos most fuel).map bW
theorem yH {n:Nat}{q:AA}{pos:List Int}{most fuel:Int}{out:Option (List (List Int)×List (Int×Int)×Bool)}(Au:Ew n q pos=some 0)(c3:decide (most<1)=false)(c4:decide (most>65536)=false)(c1:decide (fuel<0)=false)(c2:decide (fuel>16777216)=false)(hr:J8 n q pos most fuel=some out) 
 {N:Nat -> Prop} {ρ0:List AE} {a0:Act} {w0:World} (R0:AP Tryz.prog GG N ⟨AF 45 [(0,.agg 5 (L1 (AG q))),(1,.ints pos),(2,.i most),(3,.i fuel)],[]⟩ ρ0 a0 w0) (EN:a0.defers= []):
 (AY Tryz.f16).wpIn Fence.wide 0 Tryz.prog (bodyPostM Fence.wide 0 Tryz.prog Tryz.f16 fun e w'=>∃ v,e= .returned v/\ B1 Tryz.prog GG N [] ρ0 w0 true (.tup 2 (L1 [.i (bW out).1,.i (bW out).2])) [] v w') a0 w0:=by
 refine zFl ?_;refine wr (L:=0) HC.x [1,2,3,4,8,9] [1,0] [] H0 H0 (AF 45 [(1,.ints pos),(2,.i most),(3,.i fuel),(4,.ref 1 0),(8,.i 0),(9,.ref 0 0)]) ([oC [.i 0],oC (AG q)]:DH) R0 (by kernel_rfl) (by kernel_rfl) fun ρ1 a1 w1 R1 Br FL DK=>?_
 refine zFl (zFl ?_);refine wr (L:=0) HC.x [1,2,3,4,8,9,10] [0,1] [] ((H0.c (fb (KH Au) [oC [.i 0],oC (AG q)]))) H0 (AF 45 [(1,.ints pos),(2,.i most),(3,.i fuel),(4,.ref 1 0),(8,.i 0),(9,.ref 0 0),(10,.i 0)]) ([oC [.i 0],oC (AG q)]:DH) R1 (by kernel_rfl) (by kernel_rfl) fun ρ2 a2 w2 R2 Ea Ir LR=>?_
 refine zFl ?_;refine wr (L:=0) HC.x [1,2,3,4,8,9,10,18] [0,1] [] H0 H0 (AF 45 [(1,.ints pos),(2,.i most),(3,.i fuel),(4,.ref 1 0),(8,.i 0),(9,.ref 0 0),(10,.i 0),(18,.bool false)]) ([oC [.i 0],oC (AG q)]:DH) R2 (by kernel_rfl) (by kernel_rfl) fun ρ3 a3 w3 R3 En dk Qz=>?_
 refine zGP (BO R3 (.tmp 18)) (zG4 ?_);refine zFl (zFl ?_);refine wr (L:=0) HC.x [1,2,3,4,8,9,33] [0,1] [] ((H0.b 21 c3 |>.b 24 c4 |>.b 28 c1 |>.b 32 c2)) H0 (AF 45 [(1,.ints pos),(2,.i most),(3,.i fuel),(4,.ref 1 0),(8,.i 0),(9,.ref 0 0),(33,.bool false)]) ([oC [.i 0],oC (AG q)]:DH) R3 (by kernel_rfl) (by kernel_rfl) fun ρ4 a4 w4 R4 J4 Ja yz=>?_
 refine zGP (BO R4 (.tmp 33)) (zG4 ?_);have R4:AP Tryz.prog GG N ⟨AF 45 [(1,.ints pos),(2,.i most),(3,.i fuel),(4,.ref 1 0),(8,.i 0),(9,.ref 0 0)],[oC [.i 0],oC (AG q)]⟩ ρ4 a4 w4:=R4.forg [1,2,3,4,8,9] rfl (by kernel_rfl);refine zFl (gh (o0:=_) rfl rfl rfl rfl fun a6 cd Li=>?_);have R6:AP Tryz.prog GG N ⟨AF 45 [(1,.ints pos),(2,.i most),(3,.i fuel),(4,.ref 1 0),(8,.i 0),(9,.ref 0 0)],[oC [.i 0],oC (AG q)]⟩ ρ4 a6 w4:=⟨R4.hr,by rw [cd];exact R4.fr⟩;obtain ⟨pe,M3⟩: ∃ x,x=a4.eval (.tmp 9):=⟨_,rfl⟩;have Li:a6.defers= [{ target:=.fn (.func 25) #[],args:=#[pe] }]:=by rw [Li,Ja,dk,Ir,FL,EN,M3]
 have F4:A0 (MS N [oC [.i 0],oC (AG q)] ρ4) w4 ρ4 [.ref 0 0] #[pe]:=⟨rfl,fun j hj=>match j,hj with | 0,_=>(by show AI _ _ _ _ pe;rw [M3];exact R4.fr.at 9) | j+1,hj=>absurd hj (by simp)⟩;have J4:=(((Br.trans Ea).trans En).trans J4);refine zFl ?_;cases out with
 | none=>
  refine gM (dst:=some 39) (kB hr) [0,1,2,3] [5,6,7,8,9,10,11] 4 H0 (AF 45 [(8,.i 0),(9,.ref 0 0)]) [oC [.i 0],oC (AG q)] R6 (by kernel_rfl) (by kernel_rfl) (by kernel_rfl) (by kernel_rfl) fun ρ7 a7 w7 R7 Fo JZ Ov=>?_
  have F7:=GX (L:=2) F4 (by kernel_rfl) R7.hr Fo Ov
  show LeavesInM _ _ _ _ _ _ a7.defers (.panicking (pan GY)) w7
  rw [JZ,Li];exact yJ (m:=0) Ay R0.hr (J4.trans Fo) (by kernel_rfl) R7 F7
 | some r=>
  refine wr (L:=2) HC.x [8,9,11] [0,1] [] ((H0.c (fb (kC hr) [oC [.i 0],oC (AG q)]))) H0 (AF 45 [(8,.i 0),(9,.ref 0 0),(11,.sl 1 r.1.length (AO Ac r.1))]) ([oC [.i 0],oC (AG q)]:DH) R6 (by kernel_rfl) (by kernel_rfl) fun ρ7 a7 w7 R7 Fo JZ Ov=>?_
  have F7:=GX (L:=2) F4 (by kernel_rfl) R7.hr Fo Ov;have Fo:=J4.trans Fo;have JZ:=JZ.trans Li;refine zFl ?_;refine wr (L:=2) HC.x [8,9] [0,1] [] ((H0.t)) H0 (AF 45 [(8,.i (r.1.length:Int)),(9,.ref 0 0)]) ([oC [.i 0],oC (AG q)]:DH) R7 (by kernel_rfl) (by kernel_rfl) fun ρ8 a8 w8 R8 MK RS Xq=>?_
  have F8:=GX (L:=2) F7 (by kernel_rfl) R8.hr MK Xq;refine zHA ?_
  show LeavesInM _ _ _ _ _ _ a8.defers .returning w8
  rw [RS,JZ];exact yI (m:=(r.1.length:Int)) Ay R0.hr (Fo.trans MK) (by kernel_rfl) R8 F8
def Om (n:Nat)(q:AA)(pos:List Int)(most fuel:Int):Option (Int×Int):= (Ew n q pos).bind fun y1=> bif (y1 != 0) then some (0,y1) else bif (decide (most<1)) then some (0,1) else bif (decide (most>65536)) then some (0,1) else bif (decide (fuel<0)) then some (0,1) else bif (decide (fuel>16777216)) then some (0,1) else none
def Oo (n:Nat)(q:AA)(pos:List Int)(most fuel:Int):Option (Int×Int):=Om n q pos most fuel
theorem UK {n:Nat}{q:AA}{pos:List Int}{most fuel:Int}{r:Int×Int}(h:Oo n q pos most fuel=some r):EQ 16 [.agg 5 (L1 (AG q)),.ints pos,.i most,.i fuel] [] (.tup 2 (L1 [.i r.1,.i r.2])) [] true:=by
 unfold Oo Om at h;refine ot Tryz.func16 fun B N=>?_
 revert r;apply gO;exact cf KH [oC (AG q),oC [.i 0]] fun _=>bi 18 (jt (lE AD [8,9] [1])) (bi 21 (jt (lE AD [8,9] [1])) (bi 24 (jt (lE AD [8,9] [1])) (bi 28 (jt (lE AD [8,9] [1])) (bi 32 (jt (lE AD [8,9] [1])) nO))))
theorem Mo {n:Nat}{q:AA}{pos:List Int}{most fuel:Int}{r:Int×Int}(h:KU n q pos most fuel=some r):EQ 16 [.agg 5 (L1 (AG q)),.ints pos,.i most,.i fuel] [] (.tup 2 (L1 [.i r.1,.i r.2])) [] true:=by
 unfold KU at h;obtain ⟨y1,Au,h⟩:=GA h;rcases C8 h with ⟨d0,h⟩ | ⟨d0,h⟩
 ·refine UK (n:=n) ?_;unfold Oo Om;rw [Au,zAB,d0,zAK];exact h
 rcases C8 h with ⟨d1,h⟩ | ⟨d1,h⟩
 ·refine UK (n:=n) ?_;unfold Oo Om;rw [Au,zAB,d0,zAC,d1,zAK];exact h
 rcases C8 h with ⟨d2,h⟩ | ⟨d2,h⟩
 ·refine UK (n:=n) ?_;unfold Oo Om;rw [Au,zAB,d0,zAC,d1,zAC,d2,zAK];exact h
 rcases C8 h with ⟨d3,h⟩ | ⟨d3,h⟩
 ·refine UK (n:=n) ?_;unfold Oo Om;rw [Au,zAB,d0,zAC,d1,zAC,d2,zAC,d3,zAK];exact h
 rcases C8 h with ⟨d4,h⟩ | ⟨d4,h⟩
 ·refine UK (n:=n) ?_;unfold Oo Om;rw [Au,zAB,d0,zAC,d1,zAC,d2,zAC,d3,zAC,d4,zAK];exact h
 obtain ⟨out,hr,rfl⟩:=zFc.1 h;have e0:y1=0:=by simpa using d0
 subst e0;have PM:(Tryz.f16.name== "runtime.NumGoroutine")=false:=by kernel_rfl
 refine ⟨⟨Tryz.f16,Tryz.func16,by simpa using PM,by kernel_rfl⟩,fun N ρ w args HR CD=>(zGj (n:=0)).1 (callsIn_of_wp_marks (c:=AY Tryz.f16) Tryz.func16 (by kernel_rfl) trivial ?_)⟩;refine yH Au d1 d2 d3 d4 hr (N:=N) (ρ0:=ρ) ⟨HR,?_⟩ rfl;have Af:([.agg 5 (L1 (AG q)),.ints pos,.i most,.i fuel]:List DV).length=args.size:=CD.1;have e:([.agg 5 (L1 (AG q)),.ints pos,.i most,.i fuel]:List DV)++List.replicate (Tryz.f16.ntmps-([.agg 5 (L1 (AG q)),.ints pos,.i most,.i fuel]:List DV).length) .any=AF 45 [(0,.agg 5 (L1 (AG q))),(1,.ints pos),(2,.i most),(3,.i fuel)]:=by kernel_rfl
 rw [←e,Af];exact A0.append CD (A0.anys _ _ _ _)
end Go.Proofs.YtodinaconebmdaaGreatDoor
namespace Go.Proofs.YtodinaconebmdaaGreatDoor
open Go.RowKit
abbrev HR:=List (List Int)×List (Int×Int)×Bool
def DL (most:Int):List Bc -> List (List Int) -> List (Int×Int) -> HR
 | [],gs,t=>(gs,t,false)
 | x::l,gs,t=>if x.1.1=4 then (if ((gs++[x.2]).length:Int)=most then (gs++[x.2],t++[x.1],true) else DL most l (gs++[x.2]) (t++[x.1])) else DL most l gs (t++[x.1])
def hst (fuel:Int)(f:Nat)(gs:List (List Int))(t:List (Int×Int)):Gn:=if gs= [] then (if t= [] then .s0 else .s1 (f:Int) t.length t) else .s2 (f:Int) gs.length t.length false gs t
theorem YD {most:Int}: ∀ (l:List Bc) (gs:List (List Int)) (t:List (Int×Int)),t.length<=(DL most l gs t).2.1.length/\ (l≠[] -> t.length<(DL most l gs t).2.1.length)
 | [],gs,t=>⟨zBl _,fun h=>absurd rfl h⟩
 | x::l,gs,t=>by
  have h1:=(YD (most:=most) l (gs++[x.2]) (t++[x.1])).1;have h2:=(YD (most:=most) l gs (t++[x.1])).1;rw [zBe,zB7] at h1 h2
  have:t.length<(DL most (x::l) gs t).2.1.length:=by
   unfold DL;split
   ·split
    ·show t.length<(t++[x.1]).length
     simp
    ·omega
   ·omega
  exact ⟨by omega,fun _=>this⟩
theorem cY {most:Int}: ∀ (l:List Bc) (gs:List (List Int)) (t:List (Int×Int)),(DL most l gs t).2.2=true -> ((DL most l gs t).1.length:Int)=most
 | [],gs,t,h=>by cases h
 | x::l,gs,t,h=>by
  unfold DL at h ⊢;split at h
  ·rename_i h4;rw [zAA h4];split at h
   ·rename_i h5;rw [zAA h5];exact h5
   ·rename_i h5;rw [zAY h5];exact cY l _ _ h
  ·rename_i h4;rw [zAY h4];exact cY l _ _ h
section
variable {n:Nat} {most fuel:Int} {f:Nat} {gs:List (List Int)} {t:List (Int×Int)} {x:Bc}
def stp (fuel most:Int)(x:Bc)(gs:List (List Int))(t:List (Int×Int)):Nat -> Gn×Nat
 | 0=>(hst fuel 0 gs t,2)
 | f+1=>if x.1.1=4 then (if ((gs++[x.2]).length:Int)=most then (.s2 (f:Int) (gs++[x.2]).length (t++[x.1]).length true (gs++[x.2]) (t++[x.1]),1) else (hst fuel f (gs++[x.2]) (t++[x.1]),0)) else (hst fuel f gs (t++[x.1]),0)
theorem jA:stp fuel most x gs t (f+1)=if x.1.1=4 then (if ((gs++[x.2]).length:Int)=most then (.s2 (f:Int) (gs++[x.2]).length (t++[x.1]).length true (gs++[x.2]) (t++[x.1]),1) else (hst fuel f (gs++[x.2]) (t++[x.1]),0)) else (hst fuel f gs (t++[x.1]),0):=rfl
theorem vW:IR n most fuel x .s0=aQ n most fuel x:=rfl
theorem vV {a:Int}{b:Nat}{c:List (Int×Int)}:IR n most fuel x (.s1 a b c)=aP n most fuel x a b c:=rfl
theorem vU {a:Int}{b c:Nat}{d:Bool}{u:List (List Int)}{v:List (Int×Int)}:IR n most fuel x (.s2 a b c d u v)=aO n most fuel x a b c d u v:=rfl
theorem nG:hst fuel f [] []= .s0:=rfl
theorem ci (h:t≠[]):hst fuel f [] t= .s1 (f:Int) t.length t:=by unfold hst;rw [zAA rfl,zAY h]
theorem YG (h:gs≠[]):hst fuel f gs t= .s2 (f:Int) gs.length t.length false gs t:=by unfold hst;rw [zAY h]
theorem vI (hf:f<=16777216)(ht:t.length<=16777216)(hg:gs.length<=t.length)(h0:t= [] -> (f:Int)=fuel):IR n most fuel x (hst fuel f gs t)=some (stp fuel most x gs t f):=by
 have L:(1000000000000:Nat)=A3:=rfl
 have b4: ∀ {α:Type} (a b:α),(bif (x.1.1 != 4) then a else b)=if x.1.1=4 then b else a:=fun a b=>by
  by_cases h:x.1.1=4
  ·rw [zAA h,show (x.1.1 != 4)=false by simp [h],zAC]
  ·rw [zAY h,show (x.1.1 != 4)=true by simp [h],zAK]
 have b5: ∀ {α:Type} (k:Int) (a b:α),(bif (k==most) then a else b)=if k=most then a else b:=fun k a b=>by
  by_cases h:k=most
  ·rw [zAA h,show (k==most)=true by simp [h],zAK]
  ·rw [zAY h,show (k==most)=false by simp [h],zAC]
 have ne:t++[x.1]≠[]:=by simp
 have yC:gs++[x.2]≠[]:=by simp
 cases f with
 | zero=>
  show _=some (hst fuel 0 gs t,2)
  by_cases Lf:gs= []
  ·subst Lf
   by_cases KX:t= []
   ·subst KX;have Io:=h0 rfl;subst Io;rfl
   ·rw [ci KX];rfl
  ·rw [YG Lf];rfl
 | succ f=>
  have r1:AH (((f+1:Nat):Int)-1):=Aw.2 ⟨by omega,by omega⟩;have r2:((f+1:Nat):Int)-1=(f:Int):=by omega
  have b1:(((f+1:Nat):Int)==0)=false:=zCf.2 (by omega);rw [jA,YG (f:=f) yC]
  by_cases Lf:gs= []
  ·subst Lf;rw [ci (f:=f) ne]
   by_cases KX:t= []
   ·subst KX;have Io:=h0 rfl;subst Io;rw [nG,vW];unfold aQ;rw [b1,zAC,zAA r1,b4,b5,r2]
    by_cases h4:x.1.1=4
    ·rw [zAA h4,zAA h4]
     by_cases h5:((([]:List (List Int))++[x.2]).length:Int)=most
     ·rw [zAA h5,zAA (show (([x.2]:List (List Int)).length:Int)=most from h5)];rfl
     ·rw [zAY h5,zAY (show ¬ (([x.2]:List (List Int)).length:Int)=most from h5)];rfl
    ·rw [zAY h4,zAY h4];rfl
   ·rw [ci KX];rw [vV];unfold aP;rw [b1,zAC,zAA ⟨r1,rfl,by simp;omega⟩,b4,b5,r2]
    by_cases h4:x.1.1=4
    ·rw [zAA h4,zAA h4]
     by_cases h5:((([]:List (List Int))++[x.2]).length:Int)=most
     ·rw [zAA h5,zAA (show (([x.2]:List (List Int)).length:Int)=most from h5),show (t++[x.1]).length=t.length+ [x.1].length from zBe];rfl
     ·rw [zAY h5,zAY (show ¬ (([x.2]:List (List Int)).length:Int)=most from h5),show (t++[x.1]).length=t.length+ [x.1].length from zBe];rfl
    ·rw [zAY h4,zAY h4,zBe]
  ·rw [YG Lf,YG Lf];rw [vU];unfold aO;rw [b1,zAC,zAA ⟨r1,rfl,by simp;omega⟩,b4,b5,r2]
   by_cases h4:x.1.1=4
   ·rw [zAA h4,zAA h4,zAA ⟨rfl,by simp;omega⟩,zBe,zBe]
    by_cases h5:(((gs.length+ [x.2].length:Nat)):Int)=most
    ·rw [zAA h5,zAA h5]
    ·rw [zAY h5,zAY h5]
   ·rw [zAY h4,zAY h4,zBe]
theorem kE: ∀ (l:List Bc) {f:Nat} {gs:List (List Int)} {t:List (Int×Int)},f<=16777216 -> t.length+f<=16777216 -> gs.length<=t.length -> (t= [] -> (f:Int)=fuel) ->
 (CN (IR n most fuel) l (hst fuel f gs t)).bind OI=some (if (DL most l gs t).2.1.length<=t.length+f then some (DL most l gs t) else none)
 | [],f,gs,t,hf,htf,hg,h0=>by
  show OI (hst fuel f gs t,0)=_
  rw [show DL most [] gs t=(gs,t,false) from rfl,zAA (by simp)];unfold hst OI
  by_cases Lf:gs= []
  ·subst Lf
   by_cases KX:t= []
   ·subst KX;rfl
   ·simp [KX,Wp]
  ·simp [Lf,Wp]
 | x::l,f,gs,t,hf,htf,hg,h0=>by
  have hl:=YD (most:=most) (x::l) gs t;rw [show CN (IR n most fuel) (x::l) (hst fuel f gs t)=(IR n most fuel x (hst fuel f gs t)).bind fun r=>bif r.2==0 then CN (IR n most fuel) l r.1 else some r from rfl,vI hf (by omega) hg h0,zAB];cases f with
  | zero=>
   have:=hl.2 (by simp);rw [zAY (by omega)];rfl
  | succ f=>
   have ih:=fun (oX:List (List Int)) (hg':oX.length<=t.length+1)=>kE l (f:=f) (gs:=oX) (t:=t++[x.1]) (by omega) (by rw [zBe,zB7];omega) (by rw [zBe,zB7];omega) fun h=>by simp at h
   have e:(t++[x.1]).length+f=t.length+(f+1):=by rw [zBe,zB7];omega
   rw [e] at ih;rw [jA]
   by_cases h4:x.1.1=4
   ·rw [zAA h4]
    by_cases h5:((gs++[x.2]).length:Int)=most
    ·rw [zAA h5];have eh:DL most (x::l) gs t=(gs++[x.2],t++[x.1],true):=by unfold DL;rw [zAA h4,zAA h5]
     rw [eh,zAA (by simp)];simp [OI,Wp]
    ·rw [zAY h5];have eh:DL most (x::l) gs t=DL most l (gs++[x.2]) (t++[x.1]):=by rw [DL,zAA h4,zAY h5]
     rw [eh];exact ih _ (by rw [zBe,zB7];omega)
   ·rw [zAY h4];have eh:DL most (x::l) gs t=DL most l gs (t++[x.1]):=by rw [DL,zAY h4]
    rw [eh];exact ih _ (by omega)
def OX (most:Int)(l:List Bc)(f:Nat):Option HR:=if (DL most l [] []).2.1.length<=f then some (DL most l [] []) else none
theorem kF {q:AA}{p:List Int}{l:List Bc}(h:Ev (fun n=>LL n q p) l){f:Nat}(hf:f<=16777216):Ev (fun n=>J8 n q p most (f:Int)) (OX most l f):=by
 obtain ⟨N,hN⟩:=h;refine ⟨N,fun n hn=>?_⟩
 show (LL n q p).bind _=_
 rw [show LL n q p=some l from hN n hn,zAB];have:=kE (n:=n) (most:=most) (fuel:=(f:Int)) l (f:=f) (gs:=[]) (t:=[]) hf (by simpa using hf) (by simp) (fun _=>rfl);rw [show hst (f:Int) f [] []= .s0 from nG] at this;simpa [OX] using this
theorem eS {q:AA}{p:List Int}{l:List Bc}(hp:BK q p)(h:Ev (fun n=>LL n q p) l){f:Nat}(hf:f<=65536):Ev (fun n=>EP n q p (f:Int)) (match OX 2 l f with | none=>([],[],220) | some r=>(r.1,if r.2.2 then [] else r.2.1,0)):=by
 obtain ⟨M,hM⟩:=Tx hp.fit (zAa hp.len256.2 (by decide));obtain ⟨N,hN⟩:=kF (most:=2) h (f:=f) (by omega);rw [hp.check] at hM;refine ⟨max M N,fun n hn=>?_⟩
 show (Ew n q p).bind _=_
 rw [show Ew n q p=some 0 from hM n (by omega),zAB]
 show (bif decide ((f:Int)<0) then _ else _)=_
 rw [zAI (by omega),zAC,zAI (by omega),zAC,zAY (by omega),show J8 n q p 2 (f:Int)=_ from hN n (by omega)];cases OX 2 l f with
 | none=>show some ([],[],if (f:Int)>65536 then (2:Int) else 220)=_;rw [zAY (by omega)]
 | some r=>rfl
theorem mP {q:AA}{p:List Int}{l:List Bc}(hp:BK q p)(h:Ev (fun n=>LL n q p) l)(hm:1<=most/\ most<=65536){f:Nat}(hf:f<=16777216):Ev (fun n=>KU n q p most (f:Int)) (match OX most l f with | none=>(0,220) | some r=>((r.1.length:Int),0)):=by
 obtain ⟨M,hM⟩:=Tx hp.fit (zAa hp.len256.2 (by decide));obtain ⟨N,hN⟩:=kF (most:=most) h (f:=f) hf;rw [hp.check] at hM;refine ⟨max M N,fun n hn=>?_⟩
 show (Ew n q p).bind _=_
 rw [show Ew n q p=some 0 from hM n (by omega),zAB]
 show (bif decide (most<1) then _ else _)=_
 rw [zAI (by omega),zAC,zAI (by omega),zAC,zAI (by omega),zAC,zAI (by omega),zAC,show J8 n q p most (f:Int)=_ from hN n (by omega)];cases OX most l f with
 | none=>rfl
 | some r=>rfl
end
theorem tf {a b:List Int}{n:Nat}(hl:a.length<=LB)(hn:a.length<n):same n a b=some (decide (a=b)):=by
 have hb:LB<=9223372036854775806:=by decide
 unfold same js
 by_cases Af:a.length=b.length
 ·have e:((a.length:Int) != (b.length:Int))=false:=by rw [Af];simp
  rw [e,zAC]
  have key: ∀ (k i n:Nat),i+k=a.length -> k+1<=n -> QZ a b n (.l1 (i:Int))=some (decide (a.drop i=b.drop i)):=by
   intro k
   induction k with
   | zero=>
    intro i n e hn;obtain ⟨n,rfl⟩: ∃ k,n=k+1:=⟨n-1,by omega⟩
    show TN n (QZ a b n) a b (i:Int)=_
    unfold TN;rw [zAI (by omega),zAC,zCc (by omega),zCc (by omega)];rfl
   | succ k ih=>
    intro i n e hn;obtain ⟨n,rfl⟩: ∃ k,n=k+1:=⟨n-1,by omega⟩;have hi:i<a.length:=by omega
    have A8:i<b.length:=by omega
    have d: ∀ {l:List Int},i<l.length -> l.drop i=l.getD i 0::l.drop (i+1):=fun {l} h=>by
     rw [zBw h,u8,zAE h];rfl
    have:=ih (i+1) n (by omega) (by omega)
    show TN n (QZ a b n) a b (i:Int)=_
    unfold TN;rw [zAU (by omega),zAK,zAA ⟨⟨by omega,by omega⟩,by omega,by omega⟩,zAP,zAA (Aw.2 ⟨by omega,by omega⟩),d hi,d A8]
    by_cases h:a.getD i 0=b.getD i 0
    ·have:(a.getD i 0 != b.getD i 0)=false:=by rw [h];simp
     rw [this,zAC];refine Eq.trans (by assumption) ?_;rw [h];simp
    ·have:(a.getD i 0 != b.getD i 0)=true:=by simpa using h
     rw [this,zAK,zAI fun e=>h (zGw e).1]
  exact key a.length 0 n (by omega) (by omega)
 ·have e:((a.length:Int) != (b.length:Int))=true:=by simp;omega
  rw [e,zAK,zAI fun h=>Af (by rw [h])]
set_option maxRecDepth 100000
set_option maxHeartbeats 40000000
theorem uF:Az (A4 Tryz.f12 6) [([0,1,2,3,4,5,6,7],8)] [9] []:=by unfold Az;kernel_rfl
def TI:Bi:=fun i=>match i with
 | 6=>.ord [([0,1,2,3,4,5,6,7],8)] [9] []
 | _=>.no
inductive Wk where
 | l1 (x5:Int)
def TP (n:Nat)(self:Wk -> Option Bool)(a b_:List (List Int))(x5:Int):Option Bool:= bif (decide (x5<(a.length:Int))) then if (0<=x5/\ x5<(a.length:Int))/\ (0<=x5/\ x5<(b_.length:Int)) then (same n (a.getD ((x5).toNat) []) (b_.getD ((x5).toNat) [])).bind fun y1=> bif (!y1) then some false else if AH (x5+1) then self (.l1 (x5+1)) else none else none else some true
def jx (n:Nat)(self:Wk -> Option Bool)(a b_:List (List Int)):Option Bool:= bif ((a.length:Int) != (b_.length:Int)) then some false else self (.l1 0)
def Qb (a b_:List (List Int)):Nat -> Wk -> Option Bool
 | 0,_=>none
 | n+1,.l1 x5=>TP n (Qb a b_ n) a b_ x5
def JI (n:Nat)(a b_:List (List Int)):Option Bool:=jx n (Qb a b_ n) a b_
def tv (n B:Nat)(N:Yd 0)(a b_:List (List Int))(r:Bool):Wk -> Prop
 | .l1 x5=>∀ m0:Nat,n<=m0 -> TW B N (FQ Tryz.f12 0 (.bool r) []) (Ax m0 (A7 (AY Tryz.f12) 0 [])) ⟨AF 27 [(0,.sl 1 a.length (AO Ac a)),(1,.sl 1 b_.length (AO Ac b_)),(5,.i x5)],[]⟩
theorem tw (B:Nat)(N:Yd 0)(a b_:List (List Int)):Al (Qb a b_) (tv · B N a b_):=ia (fun _=>rfl) fun n AJ pt r h=>by
 cases pt
 case l1 x5=>
  intro m0 AC;refine rd AC fun m0 AC=>?_
  revert r;apply gO;exact bi 14 (jg uF (gc (gi (gi (cf te [] fun _=>bi 26 (lE TI [4] []) (gw 16 (lG TI [] (AJ _ _ · m0 AC)))))))) (lE TI [4] [])
theorem OD {n:Nat}{a b_:List (List Int)}{r:Bool}(h:JI n a b_=some r):EQ 12 [.sl 1 a.length (AO Ac a),.sl 1 b_.length (AO Ac b_)] [] (.bool r) [] true:=by
 refine ot Tryz.func12 fun B N=>?_
 revert r;apply gO;exact bi 10 (lE TI [4] []) (lN TI [] ((tw B N a b_ n) _ _ · n Nat.le.refl))
theorem uE:Az (A4 Tryz.f13 6) [] (List.range 9) []:=by unfold Az;kernel_rfl
def TH:Bi:=fun i=>match i with
 | 6=>.ord [] (List.range 9) []
 | _=>.no
inductive Wi where
 | l1 (x5:Int)
def TO (n:Nat)(self:Wi -> Option Bool)(a b_:List (Int×Int))(x5:Int):Option Bool:= bif (decide (x5<(a.length:Int))) then if (0<=x5/\ x5<(a.length:Int))/\ (0<=x5/\ x5<(b_.length:Int)) then bif (!((((a.getD ((x5).toNat) default).1)==((b_.getD ((x5).toNat) default).1))&&((((a.getD ((x5).toNat) default).2)==((b_.getD ((x5).toNat) default).2))&&true))) then some false else if AH (x5+1) then self (.l1 (x5+1)) else none else none else some true
def jv (n:Nat)(self:Wi -> Option Bool)(a b_:List (Int×Int)):Option Bool:= bif ((a.length:Int) != (b_.length:Int)) then some false else self (.l1 0)
def Qa (a b_:List (Int×Int)):Nat -> Wi -> Option Bool
 | 0,_=>none
 | n+1,.l1 x5=>TO n (Qa a b_ n) a b_ x5
def K2 (n:Nat)(a b_:List (Int×Int)):Option Bool:=jv n (Qa a b_ n) a b_
def tq (n B:Nat)(N:Yd 0)(a b_:List (Int×Int))(r:Bool):Wi -> Prop
 | .l1 x5=>∀ m0:Nat,n<=m0 -> TW B N (FQ Tryz.f13 0 (.bool r) []) (Ax m0 (A7 (AY Tryz.f13) 0 [])) ⟨AF 26 [(0,.sl 2 a.length (AO BA a)),(1,.sl 2 b_.length (AO BA b_)),(5,.i x5)],[]⟩
theorem tr (B:Nat)(N:Yd 0)(a b_:List (Int×Int)):Al (Qa a b_) (tq · B N a b_):=ia (fun _=>rfl) fun n AJ pt r h=>by
 cases pt
 case l1 x5=>
  intro m0 AC;refine rd AC fun m0 AC=>?_
  revert r;apply gO;exact bi 14 (jg uE (gc (gi (gi (bi 25 (lE TH [4] []) (gw 16 (lG TH [] (AJ _ _ · m0 AC)))))))) (lE TH [4] [])
theorem tm {n:Nat}{a b_:List (Int×Int)}{r:Bool}(h:K2 n a b_=some r):EQ 13 [.sl 2 a.length (AO BA a),.sl 2 b_.length (AO BA b_)] [] (.bool r) [] true:=by
 refine ot Tryz.func13 fun B N=>?_
 revert r;apply gO;exact bi 10 (lE TH [4] []) (lN TH [] ((tr B N a b_ n) _ _ · n Nat.le.refl))
def iy:ST:=.rd 0 (.rd 1 (.rd 2 (.rd 4 (.ef 3 (.ef 5 (.rd 6 (.ef 7 (.fin [0,1] [4]) (.no))) (.no)) (.ef 5 (.ef 3 (.rd 6 (.ef 7 (.fin [1,0] [4]) (.no))) (.no)) (.no))))))
theorem um:Bs (A4 Tryz.f23 1) [3,5] iy:=by unfold Bs;kernel_rfl
def tW:Bi:=fun i=>match i with
 | 1=>.tre [3,5] iy
 | _=>.no
def Zx (cells symbols:Int):St:=⟨(AF 12 [(4,.ref 0 0)]),([oC [.i cells,.i symbols,.msl 1 1 0 ((symbols).toNat),.msl 2 1 0 ((cells).toNat),.nils],oI (List.replicate ((symbols).toNat) (0:Int)),some (.arr 1 ((List.replicate ((cells).toNat) ([]:List Int)).length) (AO Ac (List.replicate ((cells).toNat) ([]:List Int))))]:DH)⟩
def zC4 (n:Nat)(cells symbols:Int):Option AA:= if ((symbols:Int)=symbols/\ 0<=symbols/\ (symbols:Int)<=1000000000000)/\ ((cells:Int)=cells/\ 0<=cells/\ (cells:Int)<=1000000000000) then if (symbols).toNat=(List.replicate ((symbols).toNat) (0:Int)).length/\ (cells).toNat=(List.replicate ((cells).toNat) ([]:List Int)).length then some (⟨cells,symbols,List.replicate ((symbols).toNat) (0:Int),(List.replicate ((cells).toNat) ([]:List Int)),([]:List AB)⟩:AA) else none else none
def Yo (n:Nat)(cells symbols:Int):Option AA:=zC4 n cells symbols
theorem VG {n:Nat}{cells symbols:Int}{r:AA}(h:Yo n cells symbols=some r):EQ 23 [.i cells,.i symbols] [] (.agg 5 (L1 (AG r))) [] true:=by
 refine ot Tryz.func23 fun B N=>?_
 revert r;apply gO;exact jg um (gc (gn fun g0=>jg g0 (gn fun g1=>jg g1 (ja 10 2 1 (kO (c:=Ac) (x:=([]:List Int)) (n:=(cells).toNat) (l:=[.nils]) ⟨AL.ints_nil,trivial⟩) (jt (jg (Eq.refl (Zx cells symbols)) (jg g1 (ja 10 1 1 (kO (c:=Ac) (x:=([]:List Int)) (n:=(cells).toNat) (l:=[.nils]) ⟨AL.ints_nil,trivial⟩) (jg g0 (jt (jg (Eq.refl (Zx cells symbols)) (gc (gn fun g2=>gn fun g3=>lF fun p=>el (tg:=[([],(Zx cells symbols))]) tW [4] [0,1,2] p [1,2] (H0.g g2 |>.g g3) [.agg 5 (L1 [.i cells,.i symbols,.ints (List.replicate ((symbols).toNat) (0:Int)),.sl 1 ((List.replicate ((cells).toNat) ([]:List Int)).length) (AO Ac (List.replicate ((cells).toNat) ([]:List Int))),.nils])] (AL.aggL (l:=[.i cells,.i symbols,.ints (List.replicate ((symbols).toNat) (0:Int)),.sl 1 ((List.replicate ((cells).toNat) ([]:List Int)).length) (AO Ac (List.replicate ((cells).toNat) ([]:List Int))),.nils]) (l':=[.i cells,.i symbols,.ints (List.replicate ((symbols).toNat) (0:Int)),.sl 1 ((List.replicate ((cells).toNat) ([]:List Int)).length) (AO Ac (List.replicate ((cells).toNat) ([]:List Int))),.sl 9 (([]:List AB).length) (AO CO ([]:List AB))]) rfl ⟨Ay,Ay,Ay,Ay,(AL.sl_nil _ _),trivial⟩))))))))))))))
theorem uq:Az (A4 Tryz.f9 9) [] (List.range 18) []:=by unfold Az;kernel_rfl
def JH:Bi:=fun i=>match i with
 | 9=>.ord [] (List.range 18) []
 | _=>.no
inductive VM where
 | l1 (x3 x4:Int)
 | l2 (x3 x5:Int)
def Pf (n:Nat)(self:VM -> Option Bool)(q:AA)(x3 x4:Int):Option Bool:= bif (decide (x4<(q.nbrs.length:Int))) then bif (decide (x3<200)) then if (0<=x4/\ x4<(q.nbrs.length:Int))/\ AH (x3+(((q.nbrs.getD ((x4).toNat) []).length:Nat):Int))/\ AH (x4+1) then self (.l1 (x3+(((q.nbrs.getD ((x4).toNat) []).length:Nat):Int)) (x4+1)) else none else self (.l2 x3 0) else self (.l2 x3 0)
def Ls (n:Nat)(self:VM -> Option Bool)(q:AA)(x3 x5:Int):Option Bool:= bif (decide (x5<(q.cons.length:Int))) then bif (decide (x3<200)) then if (0<=x5/\ x5<(q.cons.length:Int))/\ AH (((((q.cons.getD ((x5).toNat) default).cells).length:Nat):Int)+((((q.cons.getD ((x5).toNat) default).runs).length:Nat):Int))/\ AH (x3+(((((q.cons.getD ((x5).toNat) default).cells).length:Nat):Int)+((((q.cons.getD ((x5).toNat) default).runs).length:Nat):Int))) then bif (((q.cons.getD ((x5).toNat) default).kind)==5) then bif (decide (((((q.cons.getD ((x5).toNat) default).cells).length:Nat):Int)>9)) then some false else if AH (x5+1) then self (.l2 (x3+(((((q.cons.getD ((x5).toNat) default).cells).length:Nat):Int)+((((q.cons.getD ((x5).toNat) default).runs).length:Nat):Int))) (x5+1)) else none else if AH (x5+1) then self (.l2 (x3+(((((q.cons.getD ((x5).toNat) default).cells).length:Nat):Int)+((((q.cons.getD ((x5).toNat) default).runs).length:Nat):Int))) (x5+1)) else none else none else some false else bif (decide (x3<200)) then bif (decide (q.cells<=16)) then some (decide (q.symbols<=4)) else some false else some false
def pH (n:Nat)(self:VM -> Option Bool)(q:AA):Option Bool:= if AH ((q.values.length:Int)+(q.nbrs.length:Int))/\ AH (((q.values.length:Int)+(q.nbrs.length:Int))+(q.cons.length:Int)) then self (.l1 (((q.values.length:Int)+(q.nbrs.length:Int))+(q.cons.length:Int)) 0) else none
def F2 (q:AA):Nat -> VM -> Option Bool
 | 0,_=>none
 | n+1,.l1 x3 x4=>Pf n (F2 q n) q x3 x4
 | n+1,.l2 x3 x5=>Ls n (F2 q n) q x3 x5
def Yy (n:Nat)(q:AA):Option Bool:=pH n (F2 q n) q
def zDS (n B:Nat)(N:Yd 0)(q:AA)(r:Bool):VM -> Prop
 | .l1 x3 x4=>∀ m0:Nat,n<=m0 -> TW B N (FQ Tryz.f9 0 (.bool r) []) (Ax m0 (A7 (AY Tryz.f9) 0 [])) ⟨AF 93 [(1,.ref 0 0),(3,.i x3),(4,.i x4)],[oC (AG q)]⟩
 | .l2 x3 x5=>∀ m0:Nat,n<=m0 -> TW B N (FQ Tryz.f9 0 (.bool r) []) (Ax m0 (A7 (AY Tryz.f9) 2 [])) ⟨AF 93 [(1,.ref 0 0),(3,.i x3),(5,.i x5)],[oC (AG q)]⟩
theorem zDT (B:Nat)(N:Yd 0)(q:AA):Al (F2 q) (zDS · B N q):=ia (fun _=>rfl) fun n AJ pt r h=>by
 cases pt
 case l1 x3 x4=>
  intro m0 AC;refine rd AC fun m0 AC=>?_
  revert r;apply gO;exact bi 21 (bi 24 (gc (gi (gc (gw 35 (gw 27 (lG JH [0] (AJ _ _ · m0 AC))))))) (lN JH [0] (AJ _ _ · n Nat.le.refl))) (lN JH [0] (AJ _ _ · n Nat.le.refl))
 case l2 x3 x5=>
  intro m0 AC;refine rd AC fun m0 AC=>?_
  revert r;apply gO;exact bi 40 (bj 43 (fun _=>jg uq (gc (gn fun g0=>jg g0 (jg g0 (gc (gw 62 (gw 63 (jg g0 (bi 70 (jg g0 (bi 79 (lE JH [2] []) (gw 46 (lG JH [0] (AJ _ _ · m0 AC))))) (gw 46 (lG JH [0] (AJ _ _ · m0 AC)))))))))))) (fun c1=>jb 82 c1 (lE JH [2] []))) (bi 82 (bi 86 (lE JH [2] []) (lE JH [2] [])) (lE JH [2] []))
theorem zDQ {n:Nat}{q:AA}{r:Bool}(h:Yy n q=some r):EQ 9 [.agg 5 (L1 (AG q))] [] (.bool r) [] true:=by
 refine ot Tryz.func9 fun B N=>?_
 revert r;apply gO;exact gc (gw 12 (gw 16 (lN JH [0] ((zDT B N q n) _ _ · n Nat.le.refl) [] (show _=some (_,_,_,[_,_],_) by kernel_rfl))))
def zAm (y8:AA):DH:=[oC [.i y8.cells,.i y8.symbols,.ints y8.values,.sl 1 y8.nbrs.length (AO Ac y8.nbrs),.sl 9 (([(⟨1,([0,1]:List Int),0,0,0,0,([]:List Int),0,0⟩:AB)]:List AB).length) (AO CO ([(⟨1,([0,1]:List Int),0,0,0,0,([]:List Int),0,0⟩:AB)]:List AB))],none]
def dD (y8:AA):DH:=[oC [.i y8.cells,.i y8.symbols,.ints y8.values,.sl 1 y8.nbrs.length (AO Ac y8.nbrs),.sl 9 (([(⟨1,([0,1]:List Int),0,0,0,0,([]:List Int),0,0⟩:AB)]:List AB).length) (AO CO ([(⟨1,([0,1]:List Int),0,0,0,0,([]:List Int),0,0⟩:AB)]:List AB))],none,oI ([7,7]:List Int)]
def RF (y8:AA):DH:=[oC [.i y8.cells,.i y8.symbols,.ints y8.values,.sl 1 y8.nbrs.length (AO Ac y8.nbrs),.sl 9 (([(⟨1,([0,1]:List Int),0,0,0,0,([]:List Int),0,0⟩:AB)]:List AB).length) (AO CO ([(⟨1,([0,1]:List Int),0,0,0,0,([]:List Int),0,0⟩:AB)]:List AB))],none,oI ([7,7]:List Int),oI ([7,7]:List Int)]
def dB (y8:AA):DH:=[oC [.i y8.cells,.i y8.symbols,.ints y8.values,.sl 1 y8.nbrs.length (AO Ac y8.nbrs),.sl 9 (([(⟨1,([0,1]:List Int),0,0,0,0,([]:List Int),0,0⟩:AB)]:List AB).length) (AO CO ([(⟨1,([0,1]:List Int),0,0,0,0,([]:List Int),0,0⟩:AB)]:List AB))],none,oI ([7,7]:List Int),oI ([7,7]:List Int),oI ([7,3,3]:List Int)]
def dA (y8:AA):DH:=[oC [.i y8.cells,.i y8.symbols,.ints y8.values,.sl 1 y8.nbrs.length (AO Ac y8.nbrs),.sl 9 (([(⟨1,([0,1]:List Int),0,0,0,0,([]:List Int),0,0⟩:AB)]:List AB).length) (AO CO ([(⟨1,([0,1]:List Int),0,0,0,0,([]:List Int),0,0⟩:AB)]:List AB))],none,oI ([7,7]:List Int),oI ([7,7]:List Int),oI ([7,3,3]:List Int),none,none,none]
def cz (y8:AA):DH:=[oC [.i y8.cells,.i y8.symbols,.ints y8.values,.sl 1 y8.nbrs.length (AO Ac y8.nbrs),.sl 9 (([(⟨1,([0,1]:List Int),0,0,0,0,([]:List Int),0,0⟩:AB)]:List AB).length) (AO CO ([(⟨1,([0,1]:List Int),0,0,0,0,([]:List Int),0,0⟩:AB)]:List AB))],none,oI ([7,7]:List Int),oI ([7,7]:List Int),oI ([7,3,3]:List Int),none,none,none,none,none]
def jr (n:Nat):Option Bool:= (Yo n 1 2).bind fun y1=> (EP n y1 ([3]:List Int) 3).bind fun y2=> (EP n y1 ([3]:List Int) 2).bind fun y3=> (EP n y1 ([1]:List Int) 1).bind fun y4=> (EP n y1 ([0]:List Int) 1).bind fun y5=> (EP n y1 ([1]:List Int) (-1)).bind fun y6=> (KU n y1 ([3]:List Int) 0 9).bind fun y7=> (Yo n 2 3).bind fun y8=> (KU n (⟨y8.cells,y8.symbols,y8.values,y8.nbrs,([(⟨1,([0,1]:List Int),0,0,0,0,([]:List Int),0,0⟩:AB)]:List AB)⟩:AA) ([7,7]:List Int) 100 1000).bind fun y9=> (KU n (⟨y8.cells,y8.symbols,y8.values,y8.nbrs,([(⟨1,([0,1]:List Int),0,0,0,0,([]:List Int),0,0⟩:AB)]:List AB)⟩:AA) ([7,7]:List Int) 2 1000).bind fun I8=> (Yo n 3 3).bind fun Sa=> (fK n Sa ([7,3,3]:List Int)).bind fun WB=> bif (y2.2.2==0) then (JI n y2.1 ([([0]:List Int),([1]:List Int)]:List (List Int))).bind fun gI=> bif gI then bif ((y2.2.1.length:Int)==0) then bif (y3.2.2==220) then bif (y4.2.2==0) then (JI n y4.1 ([([0]:List Int)]:List (List Int))).bind fun gH=> bif gH then bif ((y4.2.1.length:Int)==1) then if (0:Int)<=0/\ 0<(y4.2.1.length:Int) then bif (((y4.2.1.getD 0 default).1)==4) then bif (y5.2.2==0) then bif ((y5.1.length:Int)==0) then bif ((y5.2.1.length:Int)==1) then if (0:Int)<=0/\ 0<(y5.2.1.length:Int) then bif (((y5.2.1.getD 0 default).1)==3) then bif (y6.2.2==1) then bif (y7.2==1) then bif (y9.1==6) then bif (y9.2==0) then bif (I8.1==2) then bif (I8.2==0) then bif (WB.1==1) then bif WB.2.1 then some (WB.2.2==0) else some false else some false else some false else some false else some false else some false else some false else some false else some false else none else some false else some false else some false else some false else none else some false else some false else some false else some false else some false else some false else some false
def TM (n:Nat):Option Bool:=jr n
theorem tZ {n:Nat}{r:Bool}(h:TM n=some r):EQ 8 [] [] (.bool r) [] true:=by
 unfold TM jr at h;refine ot Tryz.func8 fun B N=>?_
 revert r;apply gO
 exact cf VG [] fun y1=>jt (jz 31 1 (jg (by decide:1=([3]:List Int).length) (cf Lr [oC (AG y1),none] fun y2=>jz 38 2 (jg (by decide:1=([3]:List Int).length) (cf Lr [oC (AG y1),none,none] fun y3=>jz 45 3 (jg (by decide:1=([1]:List Int).length) (cf Lr [oC (AG y1),none,none,none] fun y4=>jz 52 4 (jg (by decide:1=([0]:List Int).length) (cf Lr [oC (AG y1),none,none,none,none] fun y5=>jz 59 5 (jg (by decide:1=([1]:List Int).length) (cf Lr [oC (AG y1),none,none,none,none,none] fun y6=>cn fun y7 zp=>jc (sb [.agg 5 (L1 (AG y1)),.msl 6 1 0 1,.i 0,.i 9] (Mo zp) [oC (AG y1),none,none,none,none,none,oI ([3]:List Int)] ⟨Aq.plain (by kernel_rfl),Aq.ints rfl (by decide:1=([3]:List Int).length),Aq.plain (by kernel_rfl),Aq.plain (by kernel_rfl),trivial⟩) (cf VG [oC (AG y1),none,none,none,none,none,oI ([3]:List Int)] fun y8=>jt (jz 71 8 (jg (by decide:2=([0,1]:List Int).length) (ja 73 9 9 (Gp (c:=CO) (L:=([(⟨1,([0,1]:List Int),0,0,0,0,([]:List Int),0,0⟩:AB)]:List AB)) (vals:=[.agg 9 (L1 [.i 1,.ints ([0,1]:List Int),.i 0,.i 0,.i 0,.i 0,.nils,.i 0,.i 0])]) rfl ⟨⟨_,rfl,⟨Ay,Ay,Ay,Ay,Ay,Ay,AL.ints_nil,Ay,Ay,trivial⟩⟩,trivial⟩) (jt (fun p r h=>by
  refine gz (AX 10 AD) [7,9] p [1] (H0.g (Eq.refl 1)) (EU (AY Tryz.f8) 10 []) (AF 191 [(2,.sl 1 y2.1.length (AO Ac y2.1)),(3,.sl 2 y2.2.1.length (AO BA y2.2.1)),(4,.i y2.2.2),(7,.i y3.2.2),(8,.sl 1 y4.1.length (AO Ac y4.1)),(9,.sl 2 y4.2.1.length (AO BA y4.2.1)),(10,.i y4.2.2),(11,.sl 1 y5.1.length (AO Ac y5.1)),(12,.sl 2 y5.2.1.length (AO BA y5.2.1)),(13,.i y5.2.2),(16,.i y6.2.2),(18,.i y7.2),(19,.ref 0 0)]) (zAm y8) ?_;revert r;apply gO;exact cn fun y9 cL=>jc (sb [.agg 5 (L1 [.i y8.cells,.i y8.symbols,.ints y8.values,.sl 1 y8.nbrs.length (AO Ac y8.nbrs),.sl 9 (([(⟨1,([0,1]:List Int),0,0,0,0,([]:List Int),0,0⟩:AB)]:List AB).length) (AO CO ([(⟨1,([0,1]:List Int),0,0,0,0,([]:List Int),0,0⟩:AB)]:List AB))]),.msl 2 1 0 2,.i 100,.i 1000] (Mo cL) (dD y8) ⟨Aq.plain (by kernel_rfl),Aq.ints rfl (by decide:2=([7,7]:List Int).length),Aq.plain (by kernel_rfl),Aq.plain (by kernel_rfl),trivial⟩) (cn fun I8 cT=>jc (sb [.agg 5 (L1 [.i y8.cells,.i y8.symbols,.ints y8.values,.sl 1 y8.nbrs.length (AO Ac y8.nbrs),.sl 9 (([(⟨1,([0,1]:List Int),0,0,0,0,([]:List Int),0,0⟩:AB)]:List AB).length) (AO CO ([(⟨1,([0,1]:List Int),0,0,0,0,([]:List Int),0,0⟩:AB)]:List AB))]),.msl 3 1 0 2,.i 2,.i 1000] (Mo cT) (RF y8) ⟨Aq.plain (by kernel_rfl),Aq.ints rfl (by decide:2=([7,7]:List Int).length),Aq.plain (by kernel_rfl),Aq.plain (by kernel_rfl),trivial⟩) (cn fun Sa cS=>jc (fb (VG cS) (RF y8)) (cn fun WB cR=>jc (sb [.agg 5 (L1 (AG Sa)),.msl 4 1 0 3] (fJ cR) (dB y8) ⟨Aq.plain (by kernel_rfl),Aq.ints rfl (by decide:3=([7,3,3]:List Int).length),trivial⟩) (bj 95 (fun c0=>jz 98 5 (jg (by decide:1=([0]:List Int).length) (jz 99 6 (jg (by decide:1=([1]:List Int).length) (ja 100 7 1 (Gp (c:=Ac) (L:=([([0]:List Int),([1]:List Int)]:List (List Int))) (vals:=[.ints ([0]:List Int),.ints ([1]:List Int)]) rfl ⟨⟨_,rfl,⟨Ay,trivial⟩⟩,⟨_,rfl,⟨Ay,trivial⟩⟩,trivial⟩) (jz 100 7 (jg (by decide:2=([([0]:List Int),([1]:List Int)]:List (List Int)).length) (cn fun gI cQ=>jc (fb (OD cQ) (dA y8)) (bj 101 (fun c1=>bj 106 (fun c2=>bj 110 (fun c3=>bj 114 (fun c4=>jz 118 8 (jg (by decide:1=([0]:List Int).length) (ja 119 9 1 (Gp (c:=Ac) (L:=([([0]:List Int)]:List (List Int))) (vals:=[.ints ([0]:List Int)]) rfl ⟨⟨_,rfl,⟨Ay,trivial⟩⟩,trivial⟩) (jz 119 9 (jg (by decide:1=([([0]:List Int)]:List (List Int)).length) (cn fun gH cP=>jc (fb (OD cP) (cz y8)) (bj 120 (fun c5=>bj 125 (fun c6=>gn fun g0=>jg g0 (bj 132 (fun c7=>bj 136 (fun c8=>bj 141 (fun c9=>bj 146 (fun qN=>gn fun g1=>jg g1 (bj 153 (fun Vs=>bj 158 (fun qM=>bj 162 (fun Vr=>bj 166 (fun qL=>bj 170 (fun Vq=>bj 174 (fun qK=>bj 178 (fun Vp=>bj 182 (fun qJ=>bn (fun SB=>rO (jc (sb [.agg 5 (L1 [.i y8.cells,.i y8.symbols,.ints y8.values,.sl 1 y8.nbrs.length (AO Ac y8.nbrs),.sl 9 (([(⟨1,([0,1]:List Int),0,0,0,0,([]:List Int),0,0⟩:AB)]:List AB).length) (AO CO ([(⟨1,([0,1]:List Int),0,0,0,0,([]:List Int),0,0⟩:AB)]:List AB))]),.msl 2 1 0 2,.i 100,.i 1000] (Mo cL) (dD y8) ⟨Aq.plain (by kernel_rfl),Aq.ints rfl (by decide:2=([7,7]:List Int).length),Aq.plain (by kernel_rfl),Aq.plain (by kernel_rfl),trivial⟩) (jc (sb [.agg 5 (L1 [.i y8.cells,.i y8.symbols,.ints y8.values,.sl 1 y8.nbrs.length (AO Ac y8.nbrs),.sl 9 (([(⟨1,([0,1]:List Int),0,0,0,0,([]:List Int),0,0⟩:AB)]:List AB).length) (AO CO ([(⟨1,([0,1]:List Int),0,0,0,0,([]:List Int),0,0⟩:AB)]:List AB))]),.msl 3 1 0 2,.i 2,.i 1000] (Mo cT) (RF y8) ⟨Aq.plain (by kernel_rfl),Aq.ints rfl (by decide:2=([7,7]:List Int).length),Aq.plain (by kernel_rfl),Aq.plain (by kernel_rfl),trivial⟩) (jc (fb (VG cS) (RF y8)) (jc (sb [.agg 5 (L1 (AG Sa)),.msl 4 1 0 3] (fJ cR) (dB y8) ⟨Aq.plain (by kernel_rfl),Aq.ints rfl (by decide:3=([7,3,3]:List Int).length),trivial⟩) (jb 92 SB (jb 95 c0 (jz 98 5 (jg (by decide:1=([0]:List Int).length) (jz 99 6 (jg (by decide:1=([1]:List Int).length) (ja 100 7 1 (Gp (c:=Ac) (L:=([([0]:List Int),([1]:List Int)]:List (List Int))) (vals:=[.ints ([0]:List Int),.ints ([1]:List Int)]) rfl ⟨⟨_,rfl,⟨Ay,trivial⟩⟩,⟨_,rfl,⟨Ay,trivial⟩⟩,trivial⟩) (jz 100 7 (jg (by decide:2=([([0]:List Int),([1]:List Int)]:List (List Int)).length) (jc (fb (OD cQ) (dA y8)) (jb 101 c1 (jb 106 c2 (jb 110 c3 (jb 114 c4 (jz 118 8 (jg (by decide:1=([0]:List Int).length) (ja 119 9 1 (Gp (c:=Ac) (L:=([([0]:List Int)]:List (List Int))) (vals:=[.ints ([0]:List Int)]) rfl ⟨⟨_,rfl,⟨Ay,trivial⟩⟩,trivial⟩) (jz 119 9 (jg (by decide:1=([([0]:List Int)]:List (List Int)).length) (jc (fb (OD cP) (cz y8)) (jb 120 c5 (jb 125 c6 (jg g0 (jb 132 c7 (jb 136 c8 (jb 141 c9 (jb 146 qN (jg g1 (jb 153 Vs (jb 158 qM (jb 162 Vr (jb 166 qL (jb 170 Vq (jb 174 qK (jb 178 Vp (jb 182 qJ (lE AD [0] [])))))))))))))))))))))))))))))))))))))))))) (fun SB=>rO (jc (sb [.agg 5 (L1 [.i y8.cells,.i y8.symbols,.ints y8.values,.sl 1 y8.nbrs.length (AO Ac y8.nbrs),.sl 9 (([(⟨1,([0,1]:List Int),0,0,0,0,([]:List Int),0,0⟩:AB)]:List AB).length) (AO CO ([(⟨1,([0,1]:List Int),0,0,0,0,([]:List Int),0,0⟩:AB)]:List AB))]),.msl 2 1 0 2,.i 100,.i 1000] (Mo cL) (dD y8) ⟨Aq.plain (by kernel_rfl),Aq.ints rfl (by decide:2=([7,7]:List Int).length),Aq.plain (by kernel_rfl),Aq.plain (by kernel_rfl),trivial⟩) (jc (sb [.agg 5 (L1 [.i y8.cells,.i y8.symbols,.ints y8.values,.sl 1 y8.nbrs.length (AO Ac y8.nbrs),.sl 9 (([(⟨1,([0,1]:List Int),0,0,0,0,([]:List Int),0,0⟩:AB)]:List AB).length) (AO CO ([(⟨1,([0,1]:List Int),0,0,0,0,([]:List Int),0,0⟩:AB)]:List AB))]),.msl 3 1 0 2,.i 2,.i 1000] (Mo cT) (RF y8) ⟨Aq.plain (by kernel_rfl),Aq.ints rfl (by decide:2=([7,7]:List Int).length),Aq.plain (by kernel_rfl),Aq.plain (by kernel_rfl),trivial⟩) (jc (fb (VG cS) (RF y8)) (jc (sb [.agg 5 (L1 (AG Sa)),.msl 4 1 0 3] (fJ cR) (dB y8) ⟨Aq.plain (by kernel_rfl),Aq.ints rfl (by decide:3=([7,3,3]:List Int).length),trivial⟩) (jb 92 SB (jb 95 c0 (jz 98 5 (jg (by decide:1=([0]:List Int).length) (jz 99 6 (jg (by decide:1=([1]:List Int).length) (ja 100 7 1 (Gp (c:=Ac) (L:=([([0]:List Int),([1]:List Int)]:List (List Int))) (vals:=[.ints ([0]:List Int),.ints ([1]:List Int)]) rfl ⟨⟨_,rfl,⟨Ay,trivial⟩⟩,⟨_,rfl,⟨Ay,trivial⟩⟩,trivial⟩) (jz 100 7 (jg (by decide:2=([([0]:List Int),([1]:List Int)]:List (List Int)).length) (jc (fb (OD cQ) (dA y8)) (jb 101 c1 (jb 106 c2 (jb 110 c3 (jb 114 c4 (jz 118 8 (jg (by decide:1=([0]:List Int).length) (ja 119 9 1 (Gp (c:=Ac) (L:=([([0]:List Int)]:List (List Int))) (vals:=[.ints ([0]:List Int)]) rfl ⟨⟨_,rfl,⟨Ay,trivial⟩⟩,trivial⟩) (jz 119 9 (jg (by decide:1=([([0]:List Int)]:List (List Int)).length) (jc (fb (OD cP) (cz y8)) (jb 120 c5 (jb 125 c6 (jg g0 (jb 132 c7 (jb 136 c8 (jb 141 c9 (jb 146 qN (jg g1 (jb 153 Vs (jb 158 qM (jb 162 Vr (jb 166 qL (jb 170 Vq (jb 174 qK (jb 178 Vp (jb 182 qJ (lE AD [0] []))))))))))))))))))))))))))))))))))))))))))) (fun _=>lE AD [0] [])) (fun _=>lE AD [0] [])) (fun _=>lE AD [0] [])) (fun _=>lE AD [0] [])) (fun _=>lE AD [0] [])) (fun _=>lE AD [0] [])) (fun _=>lE AD [0] [])) (fun _=>lE AD [0] []))) (fun _=>lE AD [0] [])) (fun _=>lE AD [0] [])) (fun _=>lE AD [0] [])) (fun _=>lE AD [0] []))) (fun _=>lE AD [0] [])) (fun _=>lE AD [0] [])))))))) (fun _=>lE AD [0] [])) (fun _=>lE AD [0] [])) (fun _=>lE AD [0] [])) (fun _=>lE AD [0] [])))))))))) (fun _=>lE AD [0] []))))))))))))))))))))))
def bk (n:Nat)(q:AA)(pos:List Int)(fuel Cv:Int):Option Bool:= (TM n).bind fun y1=> bif (!y1) then some false else (Yy n q).bind fun y2=> bif (!y2) then some true else (Ew n q pos).bind fun y3=> bif (y3 != 0) then some true else if AH ((IntKind.i64.wrap (Int.tmod fuel 500))+(IntKind.i64.wrap (Int.tmod Cv 500))) then (EP n q pos (IntKind.i64.wrap (Int.tmod fuel 500))).bind fun y4=> (EP n q pos ((IntKind.i64.wrap (Int.tmod fuel 500))+(IntKind.i64.wrap (Int.tmod Cv 500)))).bind fun y5=> (KU n q pos 2 (IntKind.i64.wrap (Int.tmod fuel 500))).bind fun y6=> bif (!((y4.2.2==0)==(y6.2==0))) then some false else bif (y4.2.2 != 0) then bif (y4.2.2 != 220) then some false else bif ((y4.1.length:Int)==0) then bif ((y4.2.1.length:Int)==0) then some (y6.1==0) else some false else some false else bif (y5.2.2 != 0) then some false else (JI n y4.1 y5.1).bind fun y7=> bif (!y7) then some false else (K2 n y4.2.1 y5.2.1).bind fun y8=> bif (!y8) then some false else bif (y6.1 != (y4.1.length:Int)) then some false else bif (decide ((y4.2.1.length:Int)>(IntKind.i64.wrap (Int.tmod fuel 500)))) then some false else bif ((y4.2.1.length:Int)==0) then some ((y4.1.length:Int)==2) else (EP n q pos (y4.2.1.length:Int)).bind fun y9=> if AH ((y4.2.1.length:Int)-1) then (EP n q pos ((y4.2.1.length:Int)-1)).bind fun I8=> bif (y9.2.2==0) then some (I8.2.2==220) else some false else none else none
def Xp (n:Nat)(q:AA)(pos:List Int)(fuel Cv:Int):Option Bool:=bk n q pos fuel Cv
theorem yj {n:Nat}{q:AA}{pos:List Int}{fuel Cv:Int}{r:Bool}(h:Xp n q pos fuel Cv=some r):EQ 6 [.agg 5 (L1 (AG q)),.ints pos,.int .u16 fuel,.int .u16 Cv] [] (.bool r) [] true:=by
 unfold Xp bk at h;refine ot Tryz.func6 fun B N=>?_
 revert r;apply gO;exact cf tZ [oC (AG q)] fun _=>bi 26 (lE AD [8] []) (cf zDQ [oC (AG q)] fun _=>bi 29 (lE AD [8] []) (cf KH [oC (AG q)] fun _=>bi 34 (lE AD [8] []) (jg (by decide:(500:Int)≠0) (jg (by decide:(500:Int)≠0) (gw 43 (cf Lr [oC (AG q)] fun _=>cf Lr [oC (AG q)] fun _=>cf Mo [oC (AG q)] fun _=>bi 71 (lE AD [8] []) (bj 74 (fun c4=>bi 77 (lE AD [8] []) (jb 81 c4 (bi 84 (bi 88 (lE AD [8] []) (lE AD [8] [])) (lE AD [8] [])))) (fun c4=>jb 81 c4 (bi 95 (lE AD [8] []) (cf OD [oC (AG q)] fun _=>bi 100 (lE AD [8] []) (cf tm [oC (AG q)] fun _=>bi 106 (lE AD [8] []) (bi 112 (lE AD [8] []) (bi 118 (lE AD [8] []) (bi 122 (lE AD [8] []) (cf Lr [oC (AG q)] fun _=>gw 140 (cf Lr [oC (AG q)] fun _=>bi 146 (lE AD [8] []) (lE AD [8] [])))))))))))))))))
end Go.Proofs.YtodinaconebmdaaGreatDoor
namespace Go.Proofs.YtodinaconebmdaaGreatDoor
open Go.RowKit
theorem tu {a b:List (List Int)}{n:Nat}(hl:a.length<=LB)(hg: ∀ x∈a,x.length<=300)(hn:a.length+301<n):JI n a b=some (decide (a=b)):=by
 have hb:LB<=9223372036854775806:=by decide
 unfold JI jx
 by_cases Af:a.length=b.length
 ·have e:((a.length:Int) != (b.length:Int))=false:=by rw [Af];simp
  rw [e,zAC]
  have key: ∀ (k i n:Nat),i+k=a.length -> k+302<=n -> Qb a b n (.l1 (i:Int))=some (decide (a.drop i=b.drop i)):=by
   intro k
   induction k with
   | zero=>
    intro i n e hn;obtain ⟨n,rfl⟩: ∃ k,n=k+1:=⟨n-1,by omega⟩
    show TP n (Qb a b n) a b (i:Int)=_
    unfold TP;rw [zAI (by omega),zAC,zCc (by omega),zCc (by omega)];rfl
   | succ k ih=>
    intro i n e hn;obtain ⟨n,rfl⟩: ∃ k,n=k+1:=⟨n-1,by omega⟩;have hi:i<a.length:=by omega
    have A8:i<b.length:=by omega
    have d: ∀ {l:List (List Int)},i<l.length -> l.drop i=l.getD i []::l.drop (i+1):=fun {l} h=>by
     rw [zBw h,u8,zAE h];rfl
    have hm:a.getD i []∈a:=by
     rw [u8,zAE hi];exact zB0 hi
    have hs:=hg _ hm;have:=ih (i+1) n (by omega) (by omega)
    show TP n (Qb a b n) a b (i:Int)=_
    unfold TP;rw [zAU (by omega),zAK,zAA ⟨⟨by omega,by omega⟩,by omega,by omega⟩,zAP,tf (zAa hs (by decide)) (by omega),zAB,d hi,d A8]
    by_cases h:a.getD i []=b.getD i []
    ·rw [zAU h,zCX,zAC,zAA (Aw.2 ⟨by omega,by omega⟩),show (i:Int)+1=((i+1:Nat):Int) by omega,this,h]
     congr 1
     rw [decide_eq_decide];simp
    ·rw [zAI h,zCa,zAK]
     congr 1
     exact (zAI fun e=>h (zGw e).1).symm
  have:=key a.length 0 n (by omega) (by omega);rw [zFt,zFt] at this;exact this
 ·have e:((a.length:Int) != (b.length:Int))=true:=by simpa using fun h=>Af (by omega)
  rw [e,zAK]
  congr 1
  exact (zAI fun h=>Af (by rw [h])).symm
theorem tn {a b:List (Int×Int)}{n:Nat}(hl:a.length<=LB)(hn:a.length<n):K2 n a b=some (decide (a=b)):=by
 have hb:LB<=9223372036854775806:=by decide
 unfold K2 jv
 by_cases Af:a.length=b.length
 ·have e:((a.length:Int) != (b.length:Int))=false:=by rw [Af];simp
  rw [e,zAC]
  have key: ∀ (k i n:Nat),i+k=a.length -> k+1<=n -> Qa a b n (.l1 (i:Int))=some (decide (a.drop i=b.drop i)):=by
   intro k
   induction k with
   | zero=>
    intro i n e hn;obtain ⟨n,rfl⟩: ∃ k,n=k+1:=⟨n-1,by omega⟩
    show TO n (Qa a b n) a b (i:Int)=_
    unfold TO;rw [zAI (by omega),zAC,zCc (by omega),zCc (by omega)];rfl
   | succ k ih=>
    intro i n e hn;obtain ⟨n,rfl⟩: ∃ k,n=k+1:=⟨n-1,by omega⟩;have hi:i<a.length:=by omega
    have A8:i<b.length:=by omega
    have d: ∀ {l:List (Int×Int)},i<l.length -> l.drop i=l.getD i default::l.drop (i+1):=fun {l} h=>by
     rw [zBw h,u8,zAE h];rfl
    have:=ih (i+1) n (by omega) (by omega)
    show TO n (Qa a b n) a b (i:Int)=_
    unfold TO;rw [zAU (by omega),zAK,zAA ⟨⟨by omega,by omega⟩,by omega,by omega⟩,zAP,d hi,d A8]
    generalize a.getD i default=u
    generalize b.getD i default=v
    obtain ⟨u1,u2⟩:=u;obtain ⟨v1,v2⟩:=v
    by_cases h:u1=v1/\ u2=v2
    ·obtain ⟨rfl,rfl⟩:=h;simp only [zGn,Bool.and_self,zCX,zAC];rw [zAA (Aw.2 ⟨by omega,by omega⟩),show (i:Int)+1=((i+1:Nat):Int) by omega,this]
     congr 1
     rw [decide_eq_decide];simp
    ·have hb:(!(u1==v1&&(u2==v2&&true)))=true:=by
      simp only [Bool.and_true,zCg,Bool.and_eq_false_iff,zCf]
      by_cases h1:u1=v1
      ·exact .inr fun h2=>h ⟨h1,h2⟩
      ·exact .inl h1
     rw [hb,zAK]
     congr 1
     refine (zAI fun e=>h ?_).symm;have:=(zGw e).1;exact Prod.mk.inj this
  have:=key a.length 0 n (by omega) (by omega);rw [zFt,zFt] at this;exact this
 ·have e:((a.length:Int) != (b.length:Int))=true:=by simpa using fun h=>Af (by omega)
  rw [e,zAK]
  congr 1
  exact (zAI fun h=>Af (by rw [h])).symm
abbrev zGX:=@Nat.zero_lt_one
open Go.ChangeShapes Go.WideShapes Go.ChangeAt
def L7 (w:World)(cs:List Value)(l:List DV):Prop:=cs.length=l.length/\ ∀ j,j<l.length -> AI (fun _=>False) w (l.getD j .any) [] (cs.getD j undef)
def Rd (P:Program)(t:TypeId)(m:Nat){α:Type}(c:α -> List DV):Prop:=(∀ x,(c x).length=m)/\ P.cellsOf t=m/\ ∀ {H:Type} (enc:TypeId×Value -> H) (w:World) (fuel:Nat) (cs:List Value) (x:DataW H×List MemPlace),DataW.trod enc P w 0 (fun _=>true) true fuel t cs=some x -> (∀ n∈x.1.weights P t,n<=reachBytes) -> ∃ y:α,L7 w cs (c y)
theorem gb {H:Type}{P:Program}{e:TypeId}: ∀ {l:List (DataW H)} {d:DataW H} {n:Nat},d∈l -> n∈d.weights P e -> n∈DataW.weightsAll P e l
 | [],_,_,h,_=>by cases h
 | a::l,d,n,h,hn=>by
  unfold DataW.weightsAll;rcases zCC.1 h with rfl | h
  ·exact zCT _ hn
  ·exact zCh _ (gb h hn)
section
variable {P:Program} {t e:TypeId} {m:Nat}
theorem L7.one {w:World}{v:Value}{d:DV}(h:AI (fun _=>False) w d [] v):L7 w [v] [d]:=⟨rfl,fun j hj=>by
 have:j=0:=by simpa using hj
 subst this;exact h⟩
theorem L7.app {w:World}{cs El:List Value}{l l':List DV}(h:L7 w cs l)(h':L7 w El l'):L7 w (cs++El) (l++l'):=by
 refine ⟨by simp [h.1,h'.1],fun j hj=>?_⟩;rcases zCb j l.length with hl | hl
 ·have:=h.2 j hl;have hc:j<cs.length:=by rw [h.1];exact hl
  simp only [u8] at this ⊢;rw [zBc hl,zBc hc];exact this
 ·have:=h'.2 (j-l.length) (by simp at hj;omega);simp only [u8] at this ⊢;rw [zBg hl,zBg (by rw [h.1];exact hl),h.1];exact this
theorem Rd.int {k:IntKind}(ht:P.underlying t=some (.int k))(hc:P.cellsOf t=1):Rd P t 1 (fun n:Int=>[.int k n]):=⟨fun _=>rfl,hc,fun enc w fuel cs x h hw=>by
 obtain ⟨n,rfl,_⟩:=DataW.trod_int ht h;exact ⟨n,.one rfl⟩⟩
theorem p6 {w:World}{a:Addr}{n:Nat}{cs:List Value}(h:w.cells? 0 a n=some cs):cs.length=n/\ ∀ j,j<n -> w.cell? (a.add j)=some (cs.getD j undef):=by
 unfold World.cells? at h;rw [zAA (zFo _)] at h;have hl:cs.length=n:=by simpa using Lib.mapM_length h
 refine ⟨hl,fun j hj=>?_⟩;obtain ⟨b,h1,h2⟩:=Lib.mapM_at h j j (by simp [hj]);rw [h2,u8,h1];rfl
theorem zFK {w:World}{a:Addr}{v:Value}(h:w.cell? a=some v): ∃ b o,a=⟨b,o,none⟩:=by
 obtain ⟨b,o,r⟩:=a;cases r with
 | none=>exact ⟨b,o,rfl⟩
 | some r=>
  unfold World.cell? at h;split at h
  ·simp at h
  ·cases h
theorem qw (b o x:Nat):(⟨b,o,none⟩:Addr).add x=⟨b,o+x,none⟩:=by
 unfold Addr.add;split
 ·rename_i e;subst e;rfl
 ·rfl
theorem Rd.row {α:Type} [Inhabited α] {c:α -> List DV} (ht:P.underlying t=some (.slice e)) (hb:0<P.bytesOf e) (hm:0<m) (he:Rd P e m c) {H:Type} (enc:TypeId×Value -> H) (w:World) (fuel:Nat) (cs:List Value) (x:DataW H×List MemPlace) (h:DataW.trod enc P w 0 (fun _=>true) true fuel t cs=some x) (hw: ∀ n∈x.1.weights P t,n<=reachBytes):
 ∃ (L:List α) (a:Option Addr) (cap:Nat),cs= [.slice a L.length cap]/\ L.length<=cap/\ L.length<=LB/\ ∀ i j,i<L.length -> j<m -> ∃ b o u,a=some ⟨b,o,none⟩/\ w.cell? ⟨b,o+(i*m+j),none⟩=some u/\ AI (fun _=>False) w ((c (L.getD i default)).getD j .any) [] u:=by
 rcases Deep.open_slice ht h with ⟨rfl,_⟩ | ⟨a,len,cap,m',n,D,Pl,rfl,_,hlc,NE,CT,hx,Uz⟩
 ·exact ⟨[],none,0,rfl,zBl _,zFo _,fun i j hi=>absurd hi (zBk i)⟩
 ·simp only [zFV] at CT;subst CT;subst hx
  have plain:0<len -> ∃ b o,a=⟨b,o,none⟩:=fun h0=>by
   obtain ⟨El,h1,_⟩:=Uz 0 (by omega);obtain ⟨g1,g2⟩:=p6 h1;have g3:=g2 0 (by rw [he.2.1];exact hm);have e0:(a.add (0*P.cellsOf e)).add 0=a:=by simp [Addr.add]
   rw [e0] at g3;exact zFK g3
  have pick: ∀ i,i<len -> ∃ y:α,∀ j,j<m -> ∃ b o u,a=⟨b,o,none⟩/\ w.cell? ⟨b,o+(i*m+j),none⟩=some u/\ AI (fun _=>False) w ((c y).getD j .any) [] u:=fun i hi=>by
   obtain ⟨El,h1,h2⟩:=Uz i (by omega)
   obtain ⟨y,h3,h4⟩:=he.2.2 enc w n El _ h2 fun k hk=>hw k (by
    simp only [DataW.weights,ht];refine zCS _ (zCT _ (gb (d:=D i) ?_ hk));exact zDi.2 ⟨i,zBf.2 hi,rfl⟩)
   obtain ⟨g1,g2⟩:=p6 h1;obtain ⟨b,o,rfl⟩:=plain (by omega);refine ⟨y,fun j hj=>?_⟩;have g3:=g2 j (by rw [he.2.1];exact hj);refine ⟨b,o,_,rfl,?_,h4 j (by rw [he.1];exact hj)⟩;rw [←g3,he.2.1,qw,qw,zCd]
  have hL: ∃ L:List α,L.length=len/\ ∀ i,i<len -> ∀ j,j<m -> ∃ b o u,a=⟨b,o,none⟩/\ w.cell? ⟨b,o+(i*m+j),none⟩=some u/\ AI (fun _=>False) w ((c (L.getD i default)).getD j .any) [] u:=by
   refine ⟨(List.range len).map fun i=>if hi:i<len then (pick i hi).choose else default,by simp,fun i hi=>?_⟩
   have:((List.range len).map fun i=>if hi:i<len then (pick i hi).choose else default).getD i default=(pick i hi).choose:=by
    simp [u8,hi]
   rw [this];exact (pick i hi).choose_spec
  obtain ⟨L,rfl,hL⟩:=hL;refine ⟨L,some a,_,rfl,hlc,?_,fun i j hi hj=>?_⟩
  ·have hk:=hw ((L.length+(m'-L.length))*P.bytesOf e) (by
    simp only [DataW.weights,ht,zCM,zF8];exact zCn)
   have h1:=Nat.le_mul_of_pos_right (L.length+(m'-L.length)) hb;have h2:=zAa h1 hk;unfold reachBytes at h2;unfold LB;omega
  ·obtain ⟨b,o,u,g1,g2,g3⟩:=hL i hi j hj;exact ⟨b,o,u,by rw [g1],g2,g3⟩
theorem Rd.rows {α:Type} [Inhabited α] {c:α -> List DV} (ht:P.underlying t=some (.slice e)) (hc:P.cellsOf t=1) (hb:0<P.bytesOf e) (hm:0<m) (he:Rd P e m c):Rd P t 1 (fun L:List α=>[.sl m L.length (AO c L)]):=⟨fun _=>rfl,hc,fun enc w fuel cs x h hw=>by
 obtain ⟨L,a,cap,rfl,h1,h2,h3⟩:=Rd.row ht hb hm he enc w fuel cs x h hw;refine ⟨L,L7.one ⟨a,cap,rfl,h1,h2,fun i j hi hj=>?_⟩⟩;obtain ⟨b,o,u,g1,g2,g3⟩:=h3 i j hi hj;exact ⟨b,o,u,g1,fun h=>h,g2,g3⟩⟩
theorem Rd.ints (ht:P.underlying t=some (.slice e))(hc:P.cellsOf t=1)(hb:0<P.bytesOf e)(he:P.underlying e=some (.int .i64))(hce:P.cellsOf e=1):Rd P t 1 Ac:=⟨fun _=>rfl,hc,fun enc w fuel cs x h hw=>by
 obtain ⟨L,a,cap,rfl,h1,h2,h3⟩:=Rd.row ht hb (zGX) (Rd.int he hce) enc w fuel cs x h hw;refine ⟨L,.one ⟨a,cap,rfl,h1,h2,fun j hj=>?_⟩⟩;obtain ⟨b,o,u,g1,g2,g3⟩:=h3 j 0 hj zGX;refine ⟨b,o,g1,fun h=>h,?_⟩;have:u= .int .i64 (L.getD j 0):=g3;rw [←this,←g2];simp⟩
def Em (P:Program):List Field -> Nat -> Nat -> {α:Type} -> (α -> List DV) -> Prop:=fun fs o n {α} c=>∀ (H:Type) (enc:TypeId×Value -> H) (w:World) (fuel:Nat) (cs:List Value) (xs:List (DataW H×List MemPlace)),cs.length=n -> (fs.mapM fun f=>DataW.trod enc P w 0 (fun _=>true) true fuel f.type ((cs.drop f.offset).take (P.cellsOf f.type)))=some xs -> (∀ k∈DataW.weightsEach P (fs.map (·.type)) (xs.map (·.1)),k<=reachBytes) -> ∃ y:α,L7 w (cs.drop o) (c y)
theorem Em.nil {o n:Nat}(ho:n=o):Em P [] o n (fun _:Unit=>[]):=fun _ enc w fuel cs xs hl _ _=>⟨(),by rw [List.drop_of_length_le (by omega)];exact ⟨rfl,fun j hj=>absurd hj (zBk j)⟩⟩
theorem Em.cons {α β:Type}{c:α -> List DV}{c':β -> List DV}{f:Field}{fs:List Field}{o n:Nat}(ho:f.offset=o)(hf:Rd P f.type m c)(hs:Em P fs (o+m) n c'):Em P (f::fs) o n (fun x:α×β=>c x.1++c' x.2):=fun _ enc w fuel cs xs hl h hw=>by
 rw [List.mapM_cons] at h;obtain ⟨a,ha,h⟩:=Option.bind_eq_some_iff.1 h;obtain ⟨ys,zo,e⟩:=Option.bind_eq_some_iff.1 h;cases e;obtain ⟨y,h1⟩:=hf.2.2 enc w fuel _ a ha fun k hk=>hw k (by simp only [zFg,DataW.weightsEach];exact zCT _ hk)
 obtain ⟨z,h2⟩:=hs _ enc w fuel cs ys hl zo fun k hk=>hw k (by simp only [zFg,DataW.weightsEach];exact zCh _ hk)
 refine ⟨(y,z),?_⟩
 have:cs.drop o=(cs.drop f.offset).take (P.cellsOf f.type)++cs.drop (o+m):=by
  rw [ho,hf.2.1,←List.drop_drop];exact (zHG m (cs.drop o)).symm
 rw [this];exact h1.app h2
theorem Rd.struct {α β:Type}{c:α -> List DV}{c':β -> List DV}{fs:Array Field}(ht:P.underlying t=some (.struct fs))(hc:P.cellsOf t=m)(hs:Em P fs.toList 0 m c)(g:α -> β)(hg: ∀ x,c x=c' (g x))(hm: ∀ x,(c' x).length=m):Rd P t m c':=⟨hm,hc,fun enc w fuel cs x h hw=>by
 cases fuel with
 | zero=>simp [DataW.trod] at h
 | succ fuel=>
  unfold DataW.trod at h;rw [ht] at h;simp only at h;split at h
  ·rename_i hl;obtain ⟨xs,Ua,e⟩:=zFc.1 h;subst e;obtain ⟨y,hy⟩:=hs _ enc w fuel cs xs (by rw [hl,hc]) Ua fun k hk=>hw k (by simp only [DataW.weights,ht];exact hk)
   exact ⟨g y,by rw [←hg];exact hy⟩
  ·cases h⟩
end
def IE (P:Program)(t:TypeId){α:Type}(d:α -> DV):Prop:=∀ {H:Type} (enc:TypeId×Value -> H) (w:World) (Dp:Nat) (v:Value) (x:DataW H) (ps:List MemPlace),Value.okWide P w .any Dp t v -> DataW.Trod enc P w 0 (fun _=>true) true t v x ps -> (∀ n∈x.weights P t,n<=reachBytes) -> ∃ y:α,AI (fun _=>False) w (d y) [] v
section
variable {P:Program} {t e:TypeId}
theorem IE.one {α:Type}{c:α -> List DV}(ht:P.underlying t=some (.slice e))(h:Rd P t 1 c):IE P t (fun x=>(c x).getD 0 .any):=fun enc w Dp v x ps CW ⟨fuel,hx⟩ hw=>by
 obtain ⟨a,len,cap,rfl⟩:=okWide_slice ht CW;obtain ⟨y,h1,h2⟩:=h.2.2 enc w fuel _ _ hx hw;exact ⟨y,by simpa [Value.cells] using h2 0 (by rw [h.1];exact zGX)⟩
theorem IE.agg {α:Type}{m:Nat}{c:α -> List DV}{fs:Array Field}(ht:P.underlying t=some (.struct fs))(h:Rd P t m c):IE P t (fun x=>.agg m (L1 (c x))):=fun enc w Dp v x ps CW ⟨fuel,hx⟩ hw=>by
 obtain ⟨cs,rfl,Do⟩:=okWide_struct ht CW;obtain ⟨y,h1,h2⟩:=h.2.2 enc w fuel _ _ hx hw;have hm:(c y).length=m:=h.1 y
 have Av:cs.size=m:=by
  have:cs.toList.length=(c y).length:=h1;simpa [hm] using this
 refine ⟨y,cs,rfl,Av,fun j hj=>?_⟩;have:=h2 j (by rw [hm];exact hj);refine ⟨cs[j]'(by omega),by simp [Av,hj],?_⟩
 have e:(Value.agg cs).cells.toList.getD j undef=cs[j]'(by omega):=by
  show cs.toList.getD j undef=_
  simp [u8,Av,hj]
 rw [e] at this;exact this
def Jw (P:Program)(ts:List TypeId){α:Type}(ds:α -> List DV):Prop:=∀ {H:Type} (enc:TypeId×Value -> H) (w:World) (Dp:Nat) (vs:List Value) (xs:List (DataW H)) (ps:List MemPlace),(∀ (j:Nat) t v,ts[j]? =some t -> vs[j]? =some v -> Value.okWide P w .any Dp t v) -> DataW.TrodAll enc P w 0 (fun _=>true) true ts vs xs ps -> (∀ n∈DataW.weightsEach P ts xs,n<=reachBytes) -> ∃ y:α,(ds y).length=vs.length/\ ∀ j,j<vs.length -> AI (fun _=>False) w ((ds y).getD j .any) [] (vs.getD j undef)
theorem Jw.nil:Jw P [] (fun _:Unit=>[]):=fun enc w Dp vs xs ps _ h _=>by
 obtain ⟨rfl,_,_⟩:=trodAll_nil h;exact ⟨(),rfl,fun j hj=>absurd hj (zBk j)⟩
theorem Jw.cons {α β:Type}{d:α -> DV}{ds:β -> List DV}{ts:List TypeId}(h:IE P t d)(hs:Jw P ts ds):Jw P (t::ts) (fun x:α×β=>d x.1::ds x.2):=fun enc w Dp vs xs ps CW h0 hw=>by
 obtain ⟨v,Bg,x,gJ,p,q,rfl,rfl,rfl,h1,h2⟩:=trodAll_cons h0;obtain ⟨y,hy⟩:=h enc w Dp v x p (CW 0 t v rfl rfl) h1 fun n hn=>hw n (by simp only [DataW.weightsEach];exact zCT _ hn)
 obtain ⟨z,UZ,zn⟩:=hs enc w Dp Bg gJ q (fun j t' v' a b=>CW (j+1) t' v' (by simpa using a) (by simpa using b)) h2 fun n hn=>hw n (by simp only [DataW.weightsEach];exact zCh _ hn)
 refine ⟨(y,z),by simp [UZ],fun j hj=>?_⟩;cases j with
 | zero=>exact hy
 | succ j=>exact zn j (by simpa using hj)
theorem g8 {H:Type}{enc:TypeId×Value -> H}(hl:laidOutB P=true){W W':World}(hE:Am W W'): ∀ {ts:List TypeId} {vs:List Value} {ds:List (DataW H)} {ps:List MemPlace},(∀ t∈ts,P.readableRec t=true/\ t<P.types.size) -> DataW.TrodAll enc P W 0 (fun _=>true) true ts vs ds ps -> (∀ x∈ps,x.block<W.heap.size) -> DataW.TrodAll enc P W' 0 (fun b=>decide (b<W.heap.size)) true ts vs ds ps
 | [],_,_,_,_,h,_=>by
  obtain ⟨rfl,rfl,rfl⟩:=trodAll_nil h;rfl
 | t::ts,_,_,_,hr,h,AK=>by
  obtain ⟨v,Bg,x,gJ,p,q,rfl,rfl,rfl,h1,h2⟩:=trodAll_cons h;exact ⟨p,q,Below.trod hl (hr t (by simp)).1 (hr t (by simp)).2 h1 hE fun x hx=>AK x (zCT _ hx),g8 hl hE (fun t ht=>hr t (by simp [ht])) h2 fun x hx=>AK x (zCh _ hx),rfl⟩
theorem wg {H:Type}{enc:TypeId×Value -> H}{f:Func}{s:ChangeSpec}{W W':World}{args:Array Value}{ds gs:List (DataW H)}{Pp:List MemPlace}{tb:TypeId}(hl:laidOutB P=true)(hr: ∀ t∈f.params.toList,P.readableRec t=true/\ t<P.types.size)(hE:Am W W') 
 (hW:DataW.Whole enc P f.params.toList s.vars false W args.toList ds gs Pp) (hv:s.vars= []) (hs:s.fn H (ds++gs)= { results:=[.lit (.bool true)],args:=ds }) (cq:f.resultTypes= #[tb]) (cc:P.underlying tb=some .bool):
 s.post enc P f false true false false W args (.bool true) W':=by
 have U4:=hW;have AK:=hW.lt;obtain ⟨p,q,hA,hV,rfl,HI,As⟩:=hW;rw [hv] at hV;obtain ⟨rfl,rfl⟩:=trodVars_none hV;have CD:=g8 hl hE hr hA fun x hx=>AK x (zCT _ hx)
 refine ⟨ds,[],p++[],[],p,[],U4,?_,?_,?_,World.keptBut_mono (fun x hx=>⟨hx,.inr (.inl (by simpa using hx))⟩) (Below.frame hE (· ∈p++[])),fun h=>by cases h⟩
 ·rw [hs,cq];exact trodAll_mk1 (shut_bool cc true)
 ·rw [hs];exact CD
 ·rw [hv,hs];rfl
theorem yh {H:Type}{enc:TypeId×Value -> H}{Γ:Aj}{pF:Nat}{f:Func}{s:ChangeSpec}{W:World}{Dp:Nat}{args:Array Value}{ds gs:List (DataW H)}{Pp:List MemPlace}{tb:TypeId}{α:Type}{dv:α -> List DV}(hl:laidOutB P=true)(hr: ∀ t∈f.params.toList,P.readableRec t=true/\ t<P.types.size) 
 (zAT:Jw P f.params.toList dv) (Ej: ∀ (w:World) (y:α),(∀ j,AI (fun _=>False) w ((dv y).getD j .any) [] (args.getD j undef)) -> ES P Γ pF (dv y) [] (.bool true) [] true)
 (GT: ∀ (j:Nat) t v,f.params[j]? =some t -> args[j]? =some v -> Value.okWide P W .any Dp t v) (hW:DataW.Whole enc P f.params.toList s.vars false W args.toList ds gs Pp) (hv:s.vars= []) (hs:s.fn H (ds++gs)= { results:=[.lit (.bool true)],args:=ds }) (cq:f.resultTypes= #[tb]) (cc:P.underlying tb=some .bool)
 (Av:(DataW.weightsEach P f.params.toList ds).all (· <=reachBytes)=true) (hg:Γ.gi W):Calls P pF args W fun e W'=>∃ v,e= .returned v/\ s.post enc P f false true false false W args v W':=by
 have U4:=hW;obtain ⟨p,q,hA,hV,rfl,HI,As⟩:=hW
 obtain ⟨y,h1,h2⟩:=zAT enc W Dp args.toList ds p (fun j t v a b=>GT j t v (by simpa using a) (by simpa using b)) hA fun n hn=>by
  have:=zAX.1 Av n hn;simpa using this
 have Af:(dv y).length=args.size:=by simpa using h1
 have nI: ∀ j,AI (fun _=>False) W ((dv y).getD j .any) [] (args.getD j undef):=fun j=>by
  rcases zCb j args.size with hj | hj
  ·have:=h2 j (by simpa using hj);simpa [u8,zBs,hj] using this
  ·have:(dv y).getD j .any= .any:=by rw [u8,zCU (by omega)];rfl
   rw [this];trivial
 refine ((Ej W y nI).2 (fun _=>False) [] W args (RB (fun b hb=>hb.elim) hg) ⟨Af,fun i hi=>?_⟩).mono ?_
 ·exact AI.out _ (Dk (fun b hb=>P6.1 hb) []) (nI i)
 ·rintro e W' ⟨v,rfl,G⟩;obtain ⟨ρ',_,cW,_⟩:=G.ex;have cW:v= .bool true:=cW;subst cW;exact ⟨_,rfl,wg hl hr (G.ext rfl) U4 hv hs cq cc⟩
end
theorem own:ownKnob Tryz.prog.godebug=none:=by kernel_rfl
theorem yn:laidOutB Tryz.prog=true:=by kernel_rfl
theorem zEY:0<Tryz.prog.bytesOf 3:=zCo (by kernel_rfl)
theorem K8:Rd Tryz.prog 3 1 (fun n:Int=>[.int .i64 n]):=Rd.int Tryz.underlying3 (by kernel_rfl)
theorem Th:Rd Tryz.prog 22 1 Ac:=Rd.ints Tryz.underlying22 (by kernel_rfl) zEY Tryz.underlying3 (by kernel_rfl)
theorem wJ:Rd Tryz.prog 23 1 (fun L:List (List Int)=>[.sl 1 L.length (AO Ac L)]):=Rd.rows Tryz.underlying23 (by kernel_rfl) (zCo (by kernel_rfl)) zGX Th
set_option maxRecDepth 100000 in
theorem wM:Rd Tryz.prog 53 9 CO:=by
 refine Rd.struct Tryz.underlying53 (by kernel_rfl)
  (Em.cons rfl K8<|Em.cons rfl Th<|Em.cons rfl K8<|Em.cons rfl K8<|Em.cons rfl K8<|Em.cons rfl K8<|Em.cons rfl Th<|Em.cons rfl K8<|Em.cons rfl K8<|Em.nil rfl)
  (fun x:Int×List Int×Int×Int×Int×Int×List Int×Int×Int×Unit=>(⟨x.1,x.2.1,x.2.2.1,x.2.2.2.1,x.2.2.2.2.1,x.2.2.2.2.2.1,x.2.2.2.2.2.2.1,x.2.2.2.2.2.2.2.1,x.2.2.2.2.2.2.2.2.1⟩:AB)) ?_ (fun _=>rfl)
 intro x;rfl
theorem wL:Rd Tryz.prog 24 1 (fun L:List AB=>[.sl 9 L.length (AO CO L)]):=Rd.rows Tryz.underlying24 (by kernel_rfl) (zCo (by kernel_rfl)) (by decide) wM
set_option maxRecDepth 100000 in
theorem wK:Rd Tryz.prog 26 5 AG:=by
 refine Rd.struct Tryz.underlying26 (by kernel_rfl)
  (Em.cons rfl K8<|Em.cons rfl K8<|Em.cons rfl Th<|Em.cons rfl wJ<|Em.cons rfl wL<|Em.nil rfl)
  (fun x:Int×Int×List Int×List (List Int)×List AB×Unit=>(⟨x.1,x.2.1,x.2.2.1,x.2.2.2.1,x.2.2.2.2.1⟩:AA)) ?_ (fun _=>rfl)
 intro x;rfl
theorem u6:IE Tryz.prog 26 (fun q:AA=>.agg 5 (L1 (AG q))):=IE.agg Tryz.underlying26 wK
theorem u7:IE Tryz.prog 22 (fun l:List Int=>.ints l):=IE.one Tryz.underlying22 Th
theorem EC.of {M:Nat -> Prop}{w:World}{ρ:List AE}{q:AA}{v:Value}(h:AI M w (.agg 5 (L1 (AG q))) ρ v):EC q:=by
 obtain ⟨cs,_,_,hc⟩:=h
 have row: ∀ {α:Type} [Inhabited α] {m:Nat} {c:α -> List DV} {L:List α} {u:Value},0<m -> AI M w (.sl m L.length (AO c L)) ρ u -> ∀ x∈L,∀ j,j<m -> ∃ u,AI M w ((c x).getD j .any) [] u:=by
  intro α _ m c L u hm ⟨a,cap,_,_,_,hh⟩ x hx j hj;obtain ⟨i,hi,rfl⟩:=zEk hx;obtain ⟨b,o,u,_,_,_,hr⟩:=hh i j hi hj;refine ⟨u,?_⟩;have e:L.getD i default=L[i]:=by simp [hi]
  have hr:AI M w ((c (L.getD i default)).getD j .any) [] u:=hr;rw [e] at hr;exact hr
 refine ⟨?_,fun r hr=>?_,fun c dp=>?_,fun c dp=>?_⟩
 ·obtain ⟨u,_,h2⟩:=hc 2 (by decide);exact UU h2
 ·obtain ⟨u,_,h3⟩:=hc 3 (by decide);obtain ⟨u,h⟩:=row (c:=Ac) (L:=q.nbrs) zGX h3 r hr 0 zGX;exact UU h
 ·obtain ⟨u,_,h4⟩:=hc 4 (by decide);obtain ⟨u,h⟩:=row (c:=CO) (L:=q.cons) (by decide) h4 c dp 1 (by decide);exact UU h
 ·obtain ⟨u,_,h4⟩:=hc 4 (by decide);obtain ⟨u,h⟩:=row (c:=CO) (L:=q.cons) (by decide) h4 c dp 6 (by decide);exact UU h
theorem og:Tryz.prog.globalNamed "math/bits.deBruijn64tab" =some 1:=by kernel_rfl
theorem zCy:(Tryz.prog.globals[1]?).map (·.type)=some 194:=by kernel_rfl
abbrev bp {H:Type}:List (String×DataW H):=[("math/bits.deBruijn32tab",Rows.laid_math_bits_deBruijn32tab),("math/bits.deBruijn64tab",Rows.laid_math_bits_deBruijn64tab)]
theorem sQ {W:World}(h:laidMetH Tryz.prog bp W):Lib.TabIs Tryz.prog W "math/bits.deBruijn64tab" .u8 (Lib.deBruijn64tab.map Int.ofNat):=
 Lib.tabIs_of_head (rest:=[]) og zCy Tryz.underlying194 Tryz.underlying5 (by kernel_rfl) (by kernel_rfl) (laidMet.tail (show laidMet Tryz.prog bp W from h))
theorem sP {W:World}(h:laidMetH Tryz.prog bp W):GG.gi W:=by
 have T:=sQ h;have c: ∀ j,j<64 -> W.cell? ⟨1,j,none⟩=some (.int .u8 ((Lib.deBruijn64tab.map Int.ofNat).getD j 0)):=fun j hj=>T.cell og j (by rw [zCM];exact hj)
 refine ⟨fun j hj=>?_,?_⟩
 ·have hj:j<64:=hj;rw [c j hj]
  have:(Lib.deBruijn64tab.map Int.ofNat).getD j 0=((Lib.deBruijn64tab.getD j 0:Nat):Int):=by
   have hl:j<Lib.deBruijn64tab.length:=hj;simp [u8,hl]
  rw [this]
 ·have:=zFX W _ (c 0 (by decide));exact this
def mc (l:List Nat)(o:Obj):Obj:=match o with
 | .cells _ t frozen=>.cells (l.map fun n=>Value.int .u8 (Int.ofNat n)).toArray t frozen
 | o=>o
noncomputable def bo (os:Os):World:= { World.holding Tryz.prog os ⟨#[],#[],[]⟩ with heap:=((World.holding Tryz.prog os ⟨#[],#[],[]⟩).heap.modify 0 (mc Lib.deBruijn32tab)).modify 1 (mc Lib.deBruijn64tab) }
def XB:Value:=.agg #[.int .i64 0,.int .i64 0,.slice none 0 0,.slice none 0 0,.slice none 0 0]
def f7:Type:={n:Int//0<=n/\ n<65536}
theorem IE.u16 {P:Program}{t:TypeId}(ht:P.underlying t=some (.int .u16)):IE P t (fun n:f7=>.int .u16 n.1):=fun enc w Dp v x ps CW ⟨fuel,hx⟩ hw=>by
 obtain ⟨n,rfl⟩:=okWide_int ht CW;obtain ⟨n',e,hn⟩:=DataW.trod_int ht hx;have e:n=n':=by simpa [Value.cells] using e
 subst e;have hn:(decide ((0:Int)<=n)&&decide (n<=65535))=true:=hn.2;simp only [zAO,zCJ] at hn;exact ⟨⟨n,by omega⟩,rfl⟩
structure QA (q:AA):Prop where
 nbrs:q.nbrs.length<=LB
 cons:q.cons.length<=LB
theorem QA.of {M:Nat -> Prop}{w:World}{ρ:List AE}{q:AA}{v:Value}(h:AI M w (.agg 5 (L1 (AG q))) ρ v):QA q:=by
 obtain ⟨cs,_,_,hc⟩:=h;have row: ∀ {m k:Nat} {f:Nat -> Nat -> DV} {u:Value},AI M w (.sl m k f) ρ u -> k<=LB:=fun ⟨_,_,_,_,h,_⟩=>h
 obtain ⟨_,_,h3⟩:=hc 3 (by decide);obtain ⟨_,_,h4⟩:=hc 4 (by decide);exact ⟨row h3,row h4⟩
end Go.Proofs.YtodinaconebmdaaGreatDoor
namespace Go.Proofs.YtodinaconebmdaaGreatDoor
open Go.RowKit
section
variable {q:AA}
theorem eW (hF:EC q)(h2:QA q): ∀ (k j:Nat) (x:Int),j+k=q.cons.length -> 0<=x -> x<=562949953421312 -> ∃ b,Ev (fun n=>F2 q n (.l2 x (j:Int))) b/\ (b=true -> q.cells<=16/\ q.symbols<=4)
 | 0,j,x,e,h0,h1=>by
  refine ⟨decide (x<200)&&(decide (q.cells<=16)&&decide (q.symbols<=4)),Ev.one fun n=>?_,fun h=>?_⟩
  ·show Ls n (F2 q n) q x (j:Int)=_
   unfold Ls;rw [zAI (by omega),zAC];cases decide (x<200) <;> cases decide (q.cells<=16) <;> rfl
  ·simp only [zAO,zCJ] at h;exact h.2
 | k+1,j,x,e,h0,h1=>by
  have hj:j<q.cons.length:=by omega
  have hb:LB=140737488355328:=rfl;have hc:=h2.cons
  have hm:q.cons.getD j default∈q.cons:=by
   rw [u8,zAE hj];exact zB0 hj
  have c1:=hF.cells _ hm;have c2:=hF.runs _ hm
  by_cases hx:x<200
  ·obtain ⟨b,Iu,Lj⟩:=eW hF h2 k (j+1) (x+((((q.cons.getD j default).cells.length:Nat):Int)+(((q.cons.getD j default).runs.length:Nat):Int))) (by omega) (by omega) (by omega)
   by_cases h5:(q.cons.getD j default).kind=5/\ 9<(q.cons.getD j default).cells.length
   ·refine ⟨false,Ev.one fun n=>?_,fun h=>by cases h⟩
    show Ls n (F2 q n) q x (j:Int)=_
    unfold Ls;rw [zAU (by omega),zAK,zAU hx,zAK];simp only [zAP];rw [zAA (by refine ⟨⟨by omega,by omega⟩,?_⟩;simp only [Aw];omega),show ((q.cons.getD j default).kind==5)=true from zCR.2 h5.1,zAK,zAU (by omega),zAK]
   ·refine ⟨b,BL.ev (m:=F2 q) (BL.one fun n=>?_) Iu,Lj⟩
    show Ls n (F2 q n) q x (j:Int)=_
    unfold Ls;rw [zAU (by omega),zAK,zAU hx,zAK];simp only [zAP];rw [zAA (by refine ⟨⟨by omega,by omega⟩,?_⟩;simp only [Aw];omega)];simp only [zAA (show AH ((j:Int)+1) from Aw.2 ⟨by omega,by omega⟩)];rw [show ((j+1:Nat):Int)=(j:Int)+1 by omega]
    by_cases hk:(q.cons.getD j default).kind=5
    ·rw [show ((q.cons.getD j default).kind==5)=true from zCR.2 hk,zAK,zAI (fun h=>h5 ⟨hk,by omega⟩),zAC]
    ·rw [show ((q.cons.getD j default).kind==5)=false from zCf.2 hk,zAC]
  ·refine ⟨false,Ev.one fun n=>?_,fun h=>by cases h⟩
   show Ls n (F2 q n) q x (j:Int)=_
   unfold Ls;rw [zAU (by omega),zAK,zAI hx,zAC]
theorem pG (hF:EC q)(h2:QA q): ∀ (k j:Nat) (x:Int),j+k=q.nbrs.length -> 0<=x -> x<=562949953421312 -> ∃ b,Ev (fun n=>F2 q n (.l1 x (j:Int))) b/\ (b=true -> q.cells<=16/\ q.symbols<=4)
 | 0,j,x,e,h0,h1=>by
  obtain ⟨b,Iu,Lj⟩:=eW hF h2 q.cons.length 0 x (by omega) h0 h1;refine ⟨b,BL.ev (m:=F2 q) (BL.one fun n=>?_) Iu,Lj⟩
  show Pf n (F2 q n) q x (j:Int)=_
  unfold Pf;rw [zAI (by omega),zAC];rfl
 | k+1,j,x,e,h0,h1=>by
  have hj:j<q.nbrs.length:=by omega
  have hb:LB=140737488355328:=rfl;have hc:=h2.nbrs
  have hm:q.nbrs.getD j []∈q.nbrs:=by
   rw [u8,zAE hj];exact zB0 hj
  have c1:=hF.nbrs _ hm
  by_cases hx:x<200
  ·obtain ⟨b,Iu,Lj⟩:=pG hF h2 k (j+1) (x+(((q.nbrs.getD j []).length:Nat):Int)) (by omega) (by omega) (by omega);refine ⟨b,BL.ev (m:=F2 q) (BL.one fun n=>?_) Iu,Lj⟩
   show Pf n (F2 q n) q x (j:Int)=_
   unfold Pf;rw [zAU (by omega),zAK,zAU hx,zAK];simp only [zAP];rw [zAA (by refine ⟨⟨by omega,by omega⟩,?_⟩;simp only [Aw];omega),show ((j+1:Nat):Int)=(j:Int)+1 by omega]
  ·obtain ⟨b,Iu,Lj⟩:=eW hF h2 q.cons.length 0 x (by omega) h0 h1;refine ⟨b,BL.ev (m:=F2 q) (BL.one fun n=>?_) Iu,Lj⟩
   show Pf n (F2 q n) q x (j:Int)=_
   unfold Pf;rw [zAU (by omega),zAK,zAI hx,zAC];rfl
theorem zDR (hF:EC q)(h2:QA q): ∃ b,Ev (fun n=>Yy n q) b/\ (b=true -> q.cells<=16/\ q.symbols<=4):=by
 have hb:LB=140737488355328:=rfl;have c1:=hF.values;have c2:=h2.nbrs;have c3:=h2.cons;obtain ⟨b,Iu,Lj⟩:=pG hF h2 q.nbrs.length 0 ((q.values.length:Int)+(q.nbrs.length:Int)+(q.cons.length:Int)) (by omega) (by omega) (by omega);refine ⟨b,Iu.eq fun n=>?_,Lj⟩;unfold Yy pH;rw [zAA (by simp only [Aw];omega)];rfl
end
theorem tc:Ev TM true:=⟨300,fun n hn=>by
 obtain ⟨k,rfl⟩: ∃ k,n=k+300:=⟨n-300,by omega⟩
 show TM (k+300)=some true
 kernel_rfl⟩
theorem cX {most:Int}: ∀ (l:List Bc) (gs:List (List Int)) (t:List (Int×Int)),∀ g∈(DL most l gs t).1,g∈gs∨∃ x∈l,g=x.2
 | [],gs,t,g,h=>.inl h
 | x::l,gs,t,g,h=>by
  have fin:g∈gs++[x.2] -> g∈gs∨∃ y∈x::l,g=y.2:=fun h=>(zB3.1 h).imp id fun h=>⟨x,zCn,zBv.1 h⟩
  have up:(∃ y∈l,g=y.2) -> ∃ y∈x::l,g=y.2:=fun ⟨y,h1,h2⟩=>⟨y,zCS _ h1,h2⟩
  unfold DL at h;split at h
  ·split at h
   ·exact fin h
   ·exact (cX l _ _ g h).elim fin fun h=>.inr (up h)
  ·exact (cX l _ _ g h).imp id up
theorem cZ {most:Int}: ∀ (l:List Bc) (gs:List (List Int)) (t:List (Int×Int)),gs.length<=t.length -> (DL most l gs t).1.length<=(DL most l gs t).2.1.length
 | [],gs,t,h=>h
 | x::l,gs,t,h=>by
  unfold DL;split
  ·split
   ·show (gs++[x.2]).length<=(t++[x.1]).length
    simp;exact h
   ·exact cZ l _ _ (by simp;exact h)
  ·exact cZ l _ _ (by simp;omega)
section
variable {q:AA} {p:List Int}
theorem Kq.len (hp:BK q p){x:List Int}(h:Kq q 4 p x):x.length<=256:=(h.posn hp).1.len256.2
theorem Sr.short {m:Option (Nat×List Nat)}{l:List Bc}(h:Sr q m p l):BK q p -> (∀ c ss,m=some (c,ss) -> c<p.length/\ ∀ s∈ss,s<q.symbols.toNat) -> ∀ y∈l,y.2.length<=256:=by
 have pr: ∀ {o:List Int} {y:Bc},y∈o.map Qi -> y.2.length<=256:=fun h=>by
  obtain ⟨i,_,rfl⟩:=zDi.1 h;exact zFo _
 induction h with
 | dead _ _ _=>
  intro hp _ y hy;rcases zB3.1 hy with hy | hy
  ·exact pr hy
  ·rw [zBv.1 hy];exact zFo _
 | done _ h2 _ h4=>
  intro hp _ y hy;rcases zB3.1 hy with hy | hy
  ·exact pr hy
  ·rw [zBv.1 hy]
   show List.length _<=256
   rw [jS h4];exact h2.len hp
 | @split p x o c l h1 h2 h3 h4 h5 h6 h7 _ ih=>
  intro hp _ y hy;have hx:=(h2.posn hp).1;rcases zB3.1 hy with hy | hy
  ·exact pr hy
  ·rcases zCC.1 hy with rfl | hy
   ·exact zFo _
   ·refine ih hx (fun c' ss e=>?_) y hy;cases e;refine ⟨h6,fun s hs=>zCi fun B2=>?_⟩;have:=(UH.1 hs).2;rw [(hx.sm c h6).hi B2] at this;cases this
 | nil=>intro _ _ y hy;cases hy
 | @cons x c s ss a b _ _ cG cF=>
  intro hp hc y hy;obtain ⟨c1,c2⟩:=hc c (s::ss) rfl;rcases zB3.1 hy with hy | hy
  ·exact cG (hp.fx c1 (c2 s zCn)) (fun _ _ e=>by cases e) y hy
  ·exact cF hp (fun c' ss' e=>by cases e;exact ⟨c1,fun s hs=>c2 s (zCS _ hs)⟩) y hy
theorem Sr.ne {l:List Bc}(h:Sr q none p l):l≠[]:=by
 cases h <;> simp
theorem mL {x:Int}(h:0<=x): ∃ a:Nat,a<500/\ IntKind.i64.wrap (Int.tmod x 500)=(a:Int):=by
 have a1:=Int.tmod_nonneg 500 h;have a2:=Int.tmod_lt_of_pos x (by decide:(0:Int)<500);refine ⟨(Int.tmod x 500).toNat,by omega,?_⟩;rw [zGo];omega
theorem yi (q:AA)(pos:List Int)(fuel Cv:Int)(hF:EC q)(h2:QA q)(hl:pos.length<=LB)(hf:0<=fuel/\ fuel<65536)(hm:0<=Cv/\ Cv<65536):Ev (fun n=>Xp n q pos fuel Cv) true:=by
 obtain ⟨a,ha,ea⟩:=mL hf.1;obtain ⟨d,hd,ed⟩:=mL hm.1;unfold Xp bk;rw [ea,ed];simp only [zAA (show AH ((a:Int)+(d:Int)) from Aw.2 ⟨by omega,by omega⟩)];rw [show (a:Int)+(d:Int)=((a+d:Nat):Int) by omega];obtain ⟨b,b1,_⟩:=zDR hF h2;refine Ev.bind tc (Ev.bind b1 ?_);cases b with
 | false=>exact Ev.now fun n=>rfl
 | true=>
  refine Ev.bind (Tx hF hl) ?_
  by_cases h0:C4 q pos=0
  ·have hp:=BK.of hF h0;obtain ⟨l,l1,l2⟩:=xm hp;have hs:=l1.short hp (fun _ _ e=>by cases e);obtain ⟨R,eR⟩: ∃ R,R=DL 2 l [] []:=⟨_,rfl⟩;have eo: ∀ f,OX 2 l f=if R.2.1.length<=f then some R else none:=fun f=>by rw [eR];rfl
   have hK:0<R.2.1.length:=by rw [eR];exact (YD l [] []).2 l1.ne
   have hG:R.1.length<=R.2.1.length:=by rw [eR];exact cZ l [] [] (zBl _)
   have hg: ∀ g∈R.1,g.length<=300:=fun g hg=>by
    rw [eR] at hg;rcases cX l [] [] g hg with h | ⟨x,h,rfl⟩
    ·cases h
    ·exact zAa (hs x h) (by decide)
   have h2:R.2.2=true -> (R.1.length:Int)=2:=fun h=>by rw [eR] at h ⊢;exact cY l [] [] h
   have F1: ∀ f,f<=65536 -> R.2.1.length<=f -> Ev (fun n=>EP n q pos (f:Int)) (R.1,if R.2.2 then [] else R.2.1,0):=fun f hf hk=>by
    have:=eS hp l2 hf;rw [eo,zAA hk] at this;exact this
   have F0: ∀ f,f<=65536 -> f<R.2.1.length -> Ev (fun n=>EP n q pos (f:Int)) ([],[],220):=fun f hf hk=>by
    have:=eS hp l2 hf;rw [eo,zAY (by omega)] at this;exact this
   have M1:R.2.1.length<=a -> Ev (fun n=>KU n q pos 2 (a:Int)) ((R.1.length:Int),0):=fun hk=>by
    have:=mP (most:=2) hp l2 (by decide) (f:=a) (by omega);rw [eo,zAA hk] at this;exact this
   have M0:a<R.2.1.length -> Ev (fun n=>KU n q pos 2 (a:Int)) (0,220):=fun hk=>by
    have:=mP (most:=2) hp l2 (by decide) (f:=a) (by omega);rw [eo,zAY (by omega)] at this;exact this
   refine Ev.eq (g:=fun n=>(EP n q pos (a:Int)).bind fun y4=>(EP n q pos ((a+d:Nat):Int)).bind fun y5=>(KU n q pos 2 (a:Int)).bind fun y6=>
    bif (!((y4.2.2==0)==(y6.2==0))) then some false else
     bif (y4.2.2 != 0) then
      bif (y4.2.2 != 220) then some false else bif ((y4.1.length:Int)==0) then bif ((y4.2.1.length:Int)==0) then some (y6.1==0) else some false else some false
     else bif (y5.2.2 != 0) then some false else
      (JI n y4.1 y5.1).bind fun y7=>bif (!y7) then some false else (K2 n y4.2.1 y5.2.1).bind fun y8=>bif (!y8) then some false else
       bif (y6.1 != (y4.1.length:Int)) then some false else bif (decide ((y4.2.1.length:Int)>(a:Int))) then some false else
        bif ((y4.2.1.length:Int)==0) then some ((y4.1.length:Int)==2) else
         (EP n q pos (y4.2.1.length:Int)).bind fun y9=>if AH ((y4.2.1.length:Int)-1) then (EP n q pos ((y4.2.1.length:Int)-1)).bind fun I8=>bif (y9.2.2==0) then some (I8.2.2==220) else some false else none) ?_ fun n=>by rw [h0];rfl
   rcases zCb a R.2.1.length with hk | hk
   ·obtain ⟨y5,cM⟩: ∃ y,Ev (fun n=>EP n q pos ((a+d:Nat):Int)) y:=⟨_,eS hp l2 (f:=a+d) (by omega)⟩;exact Ev.bind (F0 a (by omega) hk) (Ev.bind cM (Ev.bind (M0 hk) (Ev.now fun n=>rfl)))
   ·refine Ev.bind (F1 a (by omega) hk) (Ev.bind (F1 (a+d) (by omega) (by omega)) (Ev.bind (M1 hk) ?_));obtain ⟨T,eT⟩: ∃ T,T=if R.2.2 then [] else R.2.1:=⟨_,rfl⟩
    have hT:T.length<=R.2.1.length:=by rw [eT];split <;> simp
    rw [←eT];have hLB:(1000:Nat)<=LB:=by decide
    have S1:Ev (fun n=>JI n R.1 R.1) true:=⟨R.1.length+302,fun n hn=>by
     show JI n R.1 R.1=_
     rw [tu (zAa hG (by omega)) hg (by omega),zAU rfl]⟩
    have S2:Ev (fun n=>K2 n T T) true:=⟨T.length+1,fun n hn=>by
     show K2 n T T=_
     rw [tn (by omega) (by omega),zAU rfl]⟩
    obtain ⟨W0,oE⟩: ∃ f:Nat -> Option Bool,f=(fun n=>bif ((T.length:Int)==0) then some ((R.1.length:Int)==2) else
     (EP n q pos (T.length:Int)).bind fun y9=>if AH ((T.length:Int)-1) then (EP n q pos ((T.length:Int)-1)).bind fun I8=>bif (y9.2.2==0) then some (I8.2.2==220) else some false else none):=⟨_,rfl⟩
    have W:Ev W0 true:=by
     rw [oE];cases hr:R.2.2 with
     | true=>
      have e:T= []:=by rw [eT,hr];rfl
      refine Ev.now fun n=>?_
      rw [e,h2 hr];rfl
     | false=>
      have e:T=R.2.1:=by rw [eT,hr];rfl
      have AR:((T.length:Int)==0)=false:=zCf.2 (by rw [e];omega);refine Ev.eq (g:=fun n=>(EP n q pos (T.length:Int)).bind fun y9=>(EP n q pos ((T.length-1:Nat):Int)).bind fun I8=>bif (y9.2.2==0) then some (I8.2.2==220) else some false) (Ev.bind (F1 T.length (by omega) (by rw [e];exact zBl _)) (Ev.bind (F0 (T.length-1) (by omega) (by rw [e];omega)) (Ev.now fun n=>rfl))) fun n=>?_
      rw [AR,zAC,show ((T.length-1:Nat):Int)=(T.length:Int)-1 by rw [e];omega];simp only [zAA (show AH ((T.length:Int)-1) from Aw.2 ⟨by omega,by omega⟩)]
    refine Ev.eq (g:=fun n=>(JI n R.1 R.1).bind fun y7=>bif (!y7) then some false else (K2 n T T).bind fun y8=>bif (!y8) then some false else W0 n) (Ev.bind S1 (Ev.bind S2 W)) fun n=>?_
    rw [oE]
    show ((JI n R.1 R.1).bind fun y7=>bif (!y7) then some false else (K2 n T T).bind fun y8=>bif (!y8) then some false else
     bif ((R.1.length:Int) != (R.1.length:Int)) then some false else bif (decide ((T.length:Int)>(a:Int))) then some false else _)=_
    rw [show ((R.1.length:Int) != (R.1.length:Int))=false by simp,zAC,zAI (by omega),zAC]
  ·exact Ev.now fun n=>by
    show (bif (C4 q pos != 0) then _ else _)=_
    rw [show (C4 q pos != 0)=true by simpa using h0,zAK]
end
end Go.Proofs.YtodinaconebmdaaGreatDoor
