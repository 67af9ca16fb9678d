/- Part 4 of 6 of what the proofs of these laws stand on. -/
import Derived.Test.YtgkhhfnhacibcaaGreatDoorPbC
import Derived.Laws.BitsLemmas
import Derived.Shelf.Sort.Plain
set_option linter.all false
namespace Go.Proofs.YtgkhhfnhacibcaaGreatDoor
open Go.RowKit
set_option maxRecDepth 100000
set_option maxHeartbeats 40000000
theorem ni:An (A8 Tryz.f106 1) [] (List.range 18) []:=by unfold An;kernel_rfl
def mX:BV:=fun i=>match i with
 | 1=>.ord [] (List.range 18) []
 | _=>.no
def kO (n:Nat) (s_ t_:Int) (c:AB) (q:AA) (pos:List Int) (ln:Nat) (lost:List Int):Option (Bool×(List Int)):=
 if (0<=s_/\ s_<(q.values.length:Int))/\ (0<=t_/\ t_<(q.values.length:Int))/\ AH ((q.values.getD ((s_).toNat) 0)-(q.values.getD ((t_).toNat) 0))/\ AH (0-((q.values.getD ((s_).toNat) 0)-(q.values.getD ((t_).toNat) 0))) then
  some ((decide ((if (0-((q.values.getD ((s_).toNat) 0)-(q.values.getD ((t_).toNat) 0)))>((q.values.getD ((s_).toNat) 0)-(q.values.getD ((t_).toNat) 0)) then (0-((q.values.getD ((s_).toNat) 0)-(q.values.getD ((t_).toNat) 0))) else ((q.values.getD ((s_).toNat) 0)-(q.values.getD ((t_).toNat) 0)))>=c.lo)),lost)
 else none
def V6 (n:Nat) (s_ t_:Int) (c:AB) (q:AA) (pos:List Int) (ln:Nat) (lost:List Int):Option (Bool×(List Int)):=kO n s_ t_ c q pos ln lost
theorem zG {n:Nat} {s_ t_:Int} {c:AB} {q:AA} {pos:List Int} {ln:Nat} {lost:List Int} {r:Bool×(List Int)} (h:V6 n s_ t_ c q pos ln lost=some r):EQ 106 [.i s_,.i t_,.ref 0 0] [some (.cells [.ref 1 0]),some (.cells (AG c++AD q++[.ints pos,.msl 2 1 0 ln])),some (.ints lost)] (.bool r.1) [some (.cells [.ref 1 0]),some (.cells (AG c++AD q++[.ints pos,.msl 2 1 0 ln])),some (.ints r.2)] false:=by
 refine ot Tryz.func106 fun B N=>?_
 revert r;apply gO;exact jg ni (gc (gi (gc (gi (gc (gw 23 (gw 26 (lE mX [5] [0,1,2]))))))))
theorem nL:An (A8 Tryz.f107 1) [] (List.range 6) []:=by unfold An;kernel_rfl
def Pu:BV:=fun i=>match i with
 | 1=>.ord [] (List.range 6) []
 | _=>.no
def er (n:Nat) (s_ t_:Int) (c:AB) (q:AA) (pos:List Int) (ln:Nat) (lost:List Int):Option (Bool×(List Int)):=
 if (0<=s_/\ s_<=(IntKind.i64.bits:Int))/\ (0<=t_/\ t_<=(IntKind.i64.bits:Int)) then
  bif ((bits .and .i64 (IntKind.i64.wrap (1*2 ^ (s_).toNat)) c.set)==0) then
   bif ((bits .and .i64 (IntKind.i64.wrap (1*2 ^ (t_).toNat)) c.set)==0) then
    some (true,lost)
   else
    some (((bits .and .i64 (IntKind.i64.wrap (1*2 ^ (s_).toNat)) c.other)==0),lost)
  else
   bif ((bits .and .i64 (IntKind.i64.wrap (1*2 ^ (t_).toNat)) c.other)==0) then
    bif ((bits .and .i64 (IntKind.i64.wrap (1*2 ^ (t_).toNat)) c.set)==0) then
     some (true,lost)
    else
     some (((bits .and .i64 (IntKind.i64.wrap (1*2 ^ (s_).toNat)) c.other)==0),lost)
   else
    some (false,lost)
 else none
def UN (n:Nat) (s_ t_:Int) (c:AB) (q:AA) (pos:List Int) (ln:Nat) (lost:List Int):Option (Bool×(List Int)):=er n s_ t_ c q pos ln lost
theorem qc {n:Nat} {s_ t_:Int} {c:AB} {q:AA} {pos:List Int} {ln:Nat} {lost:List Int} {r:Bool×(List Int)} (h:UN n s_ t_ c q pos ln lost=some r):EQ 107 [.i s_,.i t_,.ref 0 0] [some (.cells [.ref 1 0]),some (.cells (AG c++AD q++[.ints pos,.msl 2 1 0 ln])),some (.ints lost)] (.bool r.1) [some (.cells [.ref 1 0]),some (.cells (AG c++AD q++[.ints pos,.msl 2 1 0 ln])),some (.ints r.2)] false:=by
 refine ot Tryz.func107 fun B N=>?_
 revert r;apply gO;exact jg nL (gc (gi (gi (bi 19 (bi 38 (lE Pu [5] [0,1,2]) (lE Pu [5] [0,1,2])) (bi 28 (bi 38 (lE Pu [5] [0,1,2]) (lE Pu [5] [0,1,2])) (lE Pu [5] [0,1,2]))))))
theorem nJ:An (A8 Tryz.f105 1) [] (List.range 16) []:=by unfold An;kernel_rfl
theorem nH:An (A8 Tryz.f105 2) [([0,1,2,3,4,5,6,7,8,9,10,11,12,13],14)] [15] [16]:=by unfold An;kernel_rfl
theorem nF:An (A8 Tryz.f105 9) [] [0,1,2,3] [4]:=by unfold An;kernel_rfl
theorem nI:An (A8 Tryz.f105 10) [] [0,1,2,3] [4]:=by unfold An;kernel_rfl
def KR:BV:=fun i=>match i with
 | 1=>.ord [] (List.range 16) []
 | 2=>.ord [([0,1,2,3,4,5,6,7,8,9,10,11,12,13],14)] [15] [16]
 | 9=>.ord [] [0,1,2,3] [4]
 | 10=>.ord [] [0,1,2,3] [4]
 | _=>.no
def u5 (c:AB) (q:AA) (pos:List Int) (ln:Nat) (lost:List Int):DH:=[some (.cells [.ref 1 0]),some (.cells (AG c++AD q++[.ints pos,.msl 2 1 0 ln])),some (.ints lost),some (.cells [.fn 106 1 (L1 [.ref 0 0])]),some (.cells [.i (pos.getD ((c.cells.getD 1 0).toNat) 0)]),some (.cells [.i 0]),some (.cells [.i 0])]
def u4 (c:AB) (q:AA) (pos:List Int) (ln:Nat) (lost:List Int):DH:=[some (.cells [.ref 1 0]),some (.cells (AG c++AD q++[.ints pos,.msl 2 1 0 ln])),some (.ints lost),some (.cells [.fn 106 1 (L1 [.ref 0 0])]),some (.cells [.i (pos.getD ((c.cells.getD 1 0).toNat) 0)]),some (.cells [.i 0]),some (.cells [.i 0]),some (.iter ((BS (pos.getD ((c.cells.getD 0 0).toNat) 0)).map Br))]
def u0 (c:AB) (q:AA) (pos:List Int) (ln:Nat) (DP:List Int) (DN E4:Int):DH:=[some (.cells [.ref 1 0]),some (.cells (AG c++AD q++[.ints pos,.msl 2 1 0 ln])),some (.ints DP),some (.cells [.fn 106 1 (L1 [.ref 0 0])]),some (.cells [.i (pos.getD ((c.cells.getD 1 0).toNat) 0)]),some (.cells [.i DN]),some (.cells [.i E4]),none]
def uz (c:AB) (q:AA) (pos:List Int) (ln:Nat) (y2:(List Int)) (DN E4:Int):DH:=[some (.cells [.ref 1 0]),some (.cells (AG c++AD q++[.ints pos,.msl 2 1 0 ln])),some (.ints y2),some (.cells [.fn 106 1 (L1 [.ref 0 0])]),some (.cells [.i (pos.getD ((c.cells.getD 1 0).toNat) 0)]),some (.cells [.i DN]),some (.cells [.i E4]),none]
def gt (c:AB) (q:AA) (pos:List Int) (ln:Nat) (CO:List Int) (CN CM As:Int):DH:=[some (.cells [.ref 1 0]),some (.cells (AG c++AD q++[.ints pos,.msl 2 1 0 ln])),some (.ints CO),some (.cells [.fn 106 1 (L1 [.ref 0 0])]),some (.cells [.i (pos.getD ((c.cells.getD 1 0).toNat) 0)]),some (.cells [.i CN]),some (.cells [.i CM]),none,some (.cells [.i As])]
def uy (c:AB) (q:AA) (pos:List Int) (ln:Nat) (CO:List Int) (CN CM As:Int):DH:=[some (.cells [.ref 1 0]),some (.cells (AG c++AD q++[.ints pos,.msl 2 1 0 ln])),some (.ints CO),some (.cells [.fn 106 1 (L1 [.ref 0 0])]),some (.cells [.i (pos.getD ((c.cells.getD 1 0).toNat) 0)]),some (.cells [.i CN]),some (.cells [.i CM]),none,some (.cells [.i As]),some (.iter ((BS (pos.getD ((c.cells.getD 1 0).toNat) 0)).map Br))]
def gq (c:AB) (q:AA) (pos:List Int) (ln:Nat) (DA:List Int) (Cv Cu As:Int):DH:=[some (.cells [.ref 1 0]),some (.cells (AG c++AD q++[.ints pos,.msl 2 1 0 ln])),some (.ints DA),some (.cells [.fn 106 1 (L1 [.ref 0 0])]),some (.cells [.i (pos.getD ((c.cells.getD 1 0).toNat) 0)]),some (.cells [.i Cv]),some (.cells [.i Cu]),none,some (.cells [.i As]),none]
inductive JT where
 | s0 (DA:List Int) (Cv Cu:Int)
def eQ (c:AB) (q:AA) (pos:List Int) (ln:Nat) (As:Int):JT -> DH
 | .s0 DA Cv Cu=>[some (.cells [.ref 1 0]),some (.cells (AG c++AD q++[.ints pos,.msl 2 1 0 ln])),some (.ints DA),some (.cells [.fn 106 1 (L1 [.ref 0 0])]),some (.cells [.i (pos.getD ((c.cells.getD 1 0).toNat) 0)]),some (.cells [.i Cv]),some (.cells [.i Cu]),none,some (.cells [.i As]),none]
def UE (n:Nat) (c:AB) (q:AA) (pos:List Int) (ln:Nat) (As Cz:Int) (DA:List Int) (Cv Cu:Int):Option JT:=
 (V6 n As Cz c q pos ln DA).bind fun M6=>
  bif M6.1 then
   if (0<=As/\ As<=(IntKind.i64.bits:Int))/\ (0<=Cz/\ Cz<=(IntKind.i64.bits:Int)) then
    some (.s0 M6.2 (bits .or .i64 Cv (IntKind.i64.wrap (1*2 ^ (As).toNat))) (bits .or .i64 Cu (IntKind.i64.wrap (1*2 ^ (Cz).toNat))))
   else none
  else
   some (.s0 M6.2 Cv Cu)
def eP (n:Nat) (c:AB) (q:AA) (pos:List Int) (ln:Nat) (As Cz:Int):JT -> Option JT
 | .s0 DA Cv Cu=>UE n c q pos ln As Cz DA Cv Cu
def UF (n:Nat) (c:AB) (q:AA) (pos:List Int) (ln:Nat) (As Cz:Int) (s:JT):Option JT:=eP n c q pos ln As Cz s
theorem qD (n:Nat) (c:AB) (q:AA) (pos:List Int) (ln:Nat) (As:Int) (l B:Nat) (N:Yd 10) (Cz:Int) (s:JT) (r:JT) (h:UF n c q pos ln As Cz s=some r):TA l B N (DL 10 [] 0 (eQ c q pos ln As r)) Tryz.f105 45 ⟨AL 69 [(3,.ref 3 0),(9,.ref 5 0),(10,.ref 6 0),(11,.ref 8 0),(45,.it 9),(46,.i Cz)],eQ c q pos ln As s⟩:=by
 cases s with
 | s0 DA Cv Cu=>
  replace h:UE n c q pos ln As Cz DA Cv Cu=some r:=h;unfold UE at h;refine ag KR [0,1,2,3,4,5,6,7,8,9] H0 (AL 69 [(3,.ref 3 0),(9,.ref 5 0),(10,.ref 6 0),(11,.ref 8 0),(12,.i Cz)]) (gq c q pos ln DA Cv Cu As) fun N=>?_
  revert r;apply gO;exact ce zG [0,1,2] (gq c q pos ln DA Cv Cu As) fun _=>bi 50 (jg nF (gc (gi (jt (jg nI (gi (jt (lF fun p=>rr KR [0,1,2,3,4,5,6,7,8,9] rfl p)))))))) (lF fun p=>rr KR [0,1,2,3,4,5,6,7,8,9] rfl p)
inductive JU where
 | s0 (CO:List Int) (CN CM:Int)
def eS (c:AB) (q:AA) (pos:List Int) (ln:Nat):JU -> DH
 | .s0 CO CN CM=>[some (.cells [.ref 1 0]),some (.cells (AG c++AD q++[.ints pos,.msl 2 1 0 ln])),some (.ints CO),some (.cells [.fn 106 1 (L1 [.ref 0 0])]),some (.cells [.i (pos.getD ((c.cells.getD 1 0).toNat) 0)]),some (.cells [.i CN]),some (.cells [.i CM]),none]
def UD (n:Nat) (c:AB) (q:AA) (pos:List Int) (ln:Nat) (As:Int) (CO:List Int) (CN CM:Int):Option JU:=
 if 0<=(pos.getD ((c.cells.getD 1 0).toNat) 0)/\ (pos.getD ((c.cells.getD 1 0).toNat) 0)<9223372036854775808 then
  (By (UF n c q pos ln As) (BS (pos.getD ((c.cells.getD 1 0).toNat) 0)) (.s0 CO CN CM)).bind fun M7=>
   match M7 with
   | .s0 Si Sh Sf=>
    some (.s0 Si Sh Sf)
 else none
def eO (n:Nat) (c:AB) (q:AA) (pos:List Int) (ln:Nat) (As:Int):JU -> Option JU
 | .s0 CO CN CM=>UD n c q pos ln As CO CN CM
def UG (n:Nat) (c:AB) (q:AA) (pos:List Int) (ln:Nat) (As:Int) (s:JU):Option JU:=eO n c q pos ln As s
theorem qC (n:Nat) (c:AB) (q:AA) (pos:List Int) (ln:Nat) (l B:Nat) (N:Yd 8) (As:Int) (s:JU) (r:JU) (h:UG n c q pos ln As s=some r):TA l B N (DL 8 [] 0 (eS c q pos ln r)) Tryz.f105 42 ⟨AL 69 [(0,.ref 1 0),(3,.ref 3 0),(5,.i (c.cells.getD 0 0)),(6,.i (c.cells.getD 1 0)),(8,.ref 4 0),(9,.ref 5 0),(10,.ref 6 0),(42,.it 7),(43,.i As)],eS c q pos ln s⟩:=by
 cases s with
 | s0 CO CN CM=>
  replace h:UD n c q pos ln As CO CN CM=some r:=h;unfold UD at h;refine ag KR [0,1,2,3,4,5,6,7,8] (H0.t) (AL 69 [(3,.ref 3 0),(8,.ref 4 0),(9,.ref 5 0),(10,.ref 6 0),(11,.ref 8 0)]) (gt c q pos ln CO CN CM As) fun N=>?_
  revert r;apply gO
  exact gn fun aK=>jc (JB aK (gt c q pos ln CO CN CM As)) (cn fun M7 ZX=>fun p r h=>by
   refine gs KR [0,1,2,3,4,5,6,7,8,9] p (Gn (Tf Tryz.f105 42) 45 []) (AL 69 [(3,.ref 3 0),(9,.ref 5 0),(10,.ref 6 0),(11,.ref 8 0),(45,.it 9)]) (uy c q pos ln CO CN CM As) ?_;refine r0 9 45 #[46] Br 10 ZX (qD n c q pos ln As) ?_;cases M7 with
   | s0 Si Sh Sf=>
    dsimp only at h
    revert r;apply gO;exact lF fun p=>rr KR [0,1,2,3,4,5,6,7] rfl p)
def eN (n:Nat) (c:AB) (q:AA) (pos:List Int) (ln:Nat) (lost:List Int):Option (Bool×(List Int)):=
 if ((0:Int)<=0/\ 0<(c.cells.length:Int))/\ ((0:Int)<=1/\ 1<(c.cells.length:Int))/\ (0<=(c.cells.getD 0 0)/\ (c.cells.getD 0 0)<(pos.length:Int))/\ (0<=(c.cells.getD 1 0)/\ (c.cells.getD 1 0)<(pos.length:Int))/\ (0<=(pos.getD ((c.cells.getD 0 0).toNat) 0)/\ (pos.getD ((c.cells.getD 0 0).toNat) 0)<9223372036854775808) then
  (By (UG n c q pos ln) (BS (pos.getD ((c.cells.getD 0 0).toNat) 0)) (.s0 lost 0 0)).bind fun y1=>
   match y1 with
   | .s0 DP DN E4=>
    (C4 n (c.cells.getD 0 0) (bits .xor .i64 (-1) DN) c q pos ln DP).bind fun y2=>
     (C4 n (c.cells.getD 1 0) (bits .xor .i64 (-1) E4) c q pos ln y2).bind fun y3=>
      some (true,y3)
 else none
def XW (n:Nat) (c:AB) (q:AA) (pos:List Int) (ln:Nat) (lost:List Int):Option (Bool×(List Int)):=eN n c q pos ln lost
theorem qB {n:Nat} {c:AB} {q:AA} {pos:List Int} {ln:Nat} {lost:List Int} {r:Bool×(List Int)} (h:XW n c q pos ln lost=some r):EQ 105 [.ref 1 0,.fn 106 1 (L1 [.ref 0 0])] [some (.cells [.ref 1 0]),some (.cells (AG c++AD q++[.ints pos,.msl 2 1 0 ln])),some (.ints lost)] (.bool r.1) [some (.cells [.ref 1 0]),some (.cells (AG c++AD q++[.ints pos,.msl 2 1 0 ln])),some (.ints r.2)] false:=by
 refine ot Tryz.func105 fun B N=>?_
 revert r;apply gO
 exact jg nJ (gc (gi (gc (gi (jg nH (gc (gi (gc (gi (jt (gn fun g4=>jc (JB g4 (u5 c q pos ln lost)) (cn fun y1 A5=>fun p r h=>by
  refine gs KR [0,1,2,3,4,5,6,7] p (Gn (Aa Tryz.f105) 42 []) (AL 69 [(0,.ref 1 0),(3,.ref 3 0),(5,.i (c.cells.getD 0 0)),(6,.i (c.cells.getD 1 0)),(8,.ref 4 0),(9,.ref 5 0),(10,.ref 6 0),(42,.it 7)]) (u4 c q pos ln lost) ?_;refine r0 7 42 #[43] Br 8 A5 (qC n c q pos ln) ?_;cases y1 with
  | s0 DP DN E4=>
   dsimp only at h
   revert r;apply gO;exact ce FS [1,2] (u0 c q pos ln DP DN E4) fun y2=>ce FS [1,2] (uz c q pos ln y2 DN E4) fun _=>lE KR [4] [0,1,2]))))))))))))
theorem nE:An (A8 Tryz.f105 1) [] (List.range 16) []:=by unfold An;kernel_rfl
theorem nC:An (A8 Tryz.f105 2) [([0,1,2,3,4,5,6,7,8,9,10,11,12,13],14)] [15] [16]:=by unfold An;kernel_rfl
theorem nB:An (A8 Tryz.f105 9) [] [0,1,2,3] [4]:=by unfold An;kernel_rfl
theorem nD:An (A8 Tryz.f105 10) [] [0,1,2,3] [4]:=by unfold An;kernel_rfl
def KQ:BV:=fun i=>match i with
 | 1=>.ord [] (List.range 16) []
 | 2=>.ord [([0,1,2,3,4,5,6,7,8,9,10,11,12,13],14)] [15] [16]
 | 9=>.ord [] [0,1,2,3] [4]
 | 10=>.ord [] [0,1,2,3] [4]
 | _=>.no
def ux (c:AB) (q:AA) (pos:List Int) (ln:Nat) (lost:List Int):DH:=[some (.cells [.ref 1 0]),some (.cells (AG c++AD q++[.ints pos,.msl 2 1 0 ln])),some (.ints lost),some (.cells [.fn 107 1 (L1 [.ref 0 0])]),some (.cells [.i (pos.getD ((c.cells.getD 1 0).toNat) 0)]),some (.cells [.i 0]),some (.cells [.i 0])]
def uu (c:AB) (q:AA) (pos:List Int) (ln:Nat) (lost:List Int):DH:=[some (.cells [.ref 1 0]),some (.cells (AG c++AD q++[.ints pos,.msl 2 1 0 ln])),some (.ints lost),some (.cells [.fn 107 1 (L1 [.ref 0 0])]),some (.cells [.i (pos.getD ((c.cells.getD 1 0).toNat) 0)]),some (.cells [.i 0]),some (.cells [.i 0]),some (.iter ((BS (pos.getD ((c.cells.getD 0 0).toNat) 0)).map Br))]
def ut (c:AB) (q:AA) (pos:List Int) (ln:Nat) (DP:List Int) (DN E4:Int):DH:=[some (.cells [.ref 1 0]),some (.cells (AG c++AD q++[.ints pos,.msl 2 1 0 ln])),some (.ints DP),some (.cells [.fn 107 1 (L1 [.ref 0 0])]),some (.cells [.i (pos.getD ((c.cells.getD 1 0).toNat) 0)]),some (.cells [.i DN]),some (.cells [.i E4]),none]
def us (c:AB) (q:AA) (pos:List Int) (ln:Nat) (y2:(List Int)) (DN E4:Int):DH:=[some (.cells [.ref 1 0]),some (.cells (AG c++AD q++[.ints pos,.msl 2 1 0 ln])),some (.ints y2),some (.cells [.fn 107 1 (L1 [.ref 0 0])]),some (.cells [.i (pos.getD ((c.cells.getD 1 0).toNat) 0)]),some (.cells [.i DN]),some (.cells [.i E4]),none]
def gp (c:AB) (q:AA) (pos:List Int) (ln:Nat) (CO:List Int) (CN CM As:Int):DH:=[some (.cells [.ref 1 0]),some (.cells (AG c++AD q++[.ints pos,.msl 2 1 0 ln])),some (.ints CO),some (.cells [.fn 107 1 (L1 [.ref 0 0])]),some (.cells [.i (pos.getD ((c.cells.getD 1 0).toNat) 0)]),some (.cells [.i CN]),some (.cells [.i CM]),none,some (.cells [.i As])]
def ur (c:AB) (q:AA) (pos:List Int) (ln:Nat) (CO:List Int) (CN CM As:Int):DH:=[some (.cells [.ref 1 0]),some (.cells (AG c++AD q++[.ints pos,.msl 2 1 0 ln])),some (.ints CO),some (.cells [.fn 107 1 (L1 [.ref 0 0])]),some (.cells [.i (pos.getD ((c.cells.getD 1 0).toNat) 0)]),some (.cells [.i CN]),some (.cells [.i CM]),none,some (.cells [.i As]),some (.iter ((BS (pos.getD ((c.cells.getD 1 0).toNat) 0)).map Br))]
def gm (c:AB) (q:AA) (pos:List Int) (ln:Nat) (DA:List Int) (Cv Cu As:Int):DH:=[some (.cells [.ref 1 0]),some (.cells (AG c++AD q++[.ints pos,.msl 2 1 0 ln])),some (.ints DA),some (.cells [.fn 107 1 (L1 [.ref 0 0])]),some (.cells [.i (pos.getD ((c.cells.getD 1 0).toNat) 0)]),some (.cells [.i Cv]),some (.cells [.i Cu]),none,some (.cells [.i As]),none]
inductive JR where
 | s0 (DA:List Int) (Cv Cu:Int)
def eL (c:AB) (q:AA) (pos:List Int) (ln:Nat) (As:Int):JR -> DH
 | .s0 DA Cv Cu=>[some (.cells [.ref 1 0]),some (.cells (AG c++AD q++[.ints pos,.msl 2 1 0 ln])),some (.ints DA),some (.cells [.fn 107 1 (L1 [.ref 0 0])]),some (.cells [.i (pos.getD ((c.cells.getD 1 0).toNat) 0)]),some (.cells [.i Cv]),some (.cells [.i Cu]),none,some (.cells [.i As]),none]
def UA (n:Nat) (c:AB) (q:AA) (pos:List Int) (ln:Nat) (As Cz:Int) (DA:List Int) (Cv Cu:Int):Option JR:=
 (UN n As Cz c q pos ln DA).bind fun M6=>
  bif M6.1 then
   if (0<=As/\ As<=(IntKind.i64.bits:Int))/\ (0<=Cz/\ Cz<=(IntKind.i64.bits:Int)) then
    some (.s0 M6.2 (bits .or .i64 Cv (IntKind.i64.wrap (1*2 ^ (As).toNat))) (bits .or .i64 Cu (IntKind.i64.wrap (1*2 ^ (Cz).toNat))))
   else none
  else
   some (.s0 M6.2 Cv Cu)
def eK (n:Nat) (c:AB) (q:AA) (pos:List Int) (ln:Nat) (As Cz:Int):JR -> Option JR
 | .s0 DA Cv Cu=>UA n c q pos ln As Cz DA Cv Cu
def UB (n:Nat) (c:AB) (q:AA) (pos:List Int) (ln:Nat) (As Cz:Int) (s:JR):Option JR:=eK n c q pos ln As Cz s
theorem qA (n:Nat) (c:AB) (q:AA) (pos:List Int) (ln:Nat) (As:Int) (l B:Nat) (N:Yd 10) (Cz:Int) (s:JR) (r:JR) (h:UB n c q pos ln As Cz s=some r):TA l B N (DL 10 [] 0 (eL c q pos ln As r)) Tryz.f105 45 ⟨AL 69 [(3,.ref 3 0),(9,.ref 5 0),(10,.ref 6 0),(11,.ref 8 0),(45,.it 9),(46,.i Cz)],eL c q pos ln As s⟩:=by
 cases s with
 | s0 DA Cv Cu=>
  replace h:UA n c q pos ln As Cz DA Cv Cu=some r:=h;unfold UA at h;refine ag KQ [0,1,2,3,4,5,6,7,8,9] H0 (AL 69 [(3,.ref 3 0),(9,.ref 5 0),(10,.ref 6 0),(11,.ref 8 0),(12,.i Cz)]) (gm c q pos ln DA Cv Cu As) fun N=>?_
  revert r;apply gO;exact ce qc [0,1,2] (gm c q pos ln DA Cv Cu As) fun _=>bi 50 (jg nB (gc (gi (jt (jg nD (gi (jt (lF fun p=>rr KQ [0,1,2,3,4,5,6,7,8,9] rfl p)))))))) (lF fun p=>rr KQ [0,1,2,3,4,5,6,7,8,9] rfl p)
inductive JS where
 | s0 (CO:List Int) (CN CM:Int)
def eM (c:AB) (q:AA) (pos:List Int) (ln:Nat):JS -> DH
 | .s0 CO CN CM=>[some (.cells [.ref 1 0]),some (.cells (AG c++AD q++[.ints pos,.msl 2 1 0 ln])),some (.ints CO),some (.cells [.fn 107 1 (L1 [.ref 0 0])]),some (.cells [.i (pos.getD ((c.cells.getD 1 0).toNat) 0)]),some (.cells [.i CN]),some (.cells [.i CM]),none]
def T9 (n:Nat) (c:AB) (q:AA) (pos:List Int) (ln:Nat) (As:Int) (CO:List Int) (CN CM:Int):Option JS:=
 if 0<=(pos.getD ((c.cells.getD 1 0).toNat) 0)/\ (pos.getD ((c.cells.getD 1 0).toNat) 0)<9223372036854775808 then
  (By (UB n c q pos ln As) (BS (pos.getD ((c.cells.getD 1 0).toNat) 0)) (.s0 CO CN CM)).bind fun M7=>
   match M7 with
   | .s0 Si Sh Sf=>
    some (.s0 Si Sh Sf)
 else none
def eJ (n:Nat) (c:AB) (q:AA) (pos:List Int) (ln:Nat) (As:Int):JS -> Option JS
 | .s0 CO CN CM=>T9 n c q pos ln As CO CN CM
def UC (n:Nat) (c:AB) (q:AA) (pos:List Int) (ln:Nat) (As:Int) (s:JS):Option JS:=eJ n c q pos ln As s
theorem p9 (n:Nat) (c:AB) (q:AA) (pos:List Int) (ln:Nat) (l B:Nat) (N:Yd 8) (As:Int) (s:JS) (r:JS) (h:UC n c q pos ln As s=some r):TA l B N (DL 8 [] 0 (eM c q pos ln r)) Tryz.f105 42 ⟨AL 69 [(0,.ref 1 0),(3,.ref 3 0),(5,.i (c.cells.getD 0 0)),(6,.i (c.cells.getD 1 0)),(8,.ref 4 0),(9,.ref 5 0),(10,.ref 6 0),(42,.it 7),(43,.i As)],eM c q pos ln s⟩:=by
 cases s with
 | s0 CO CN CM=>
  replace h:T9 n c q pos ln As CO CN CM=some r:=h;unfold T9 at h;refine ag KQ [0,1,2,3,4,5,6,7,8] (H0.t) (AL 69 [(3,.ref 3 0),(8,.ref 4 0),(9,.ref 5 0),(10,.ref 6 0),(11,.ref 8 0)]) (gp c q pos ln CO CN CM As) fun N=>?_
  revert r;apply gO
  exact gn fun aK=>jc (JB aK (gp c q pos ln CO CN CM As)) (cn fun M7 ZX=>fun p r h=>by
   refine gs KQ [0,1,2,3,4,5,6,7,8,9] p (Gn (Tf Tryz.f105 42) 45 []) (AL 69 [(3,.ref 3 0),(9,.ref 5 0),(10,.ref 6 0),(11,.ref 8 0),(45,.it 9)]) (ur c q pos ln CO CN CM As) ?_;refine r0 9 45 #[46] Br 10 ZX (qA n c q pos ln As) ?_;cases M7 with
   | s0 Si Sh Sf=>
    dsimp only at h
    revert r;apply gO;exact lF fun p=>rr KQ [0,1,2,3,4,5,6,7] rfl p)
def eI (n:Nat) (c:AB) (q:AA) (pos:List Int) (ln:Nat) (lost:List Int):Option (Bool×(List Int)):=
 if ((0:Int)<=0/\ 0<(c.cells.length:Int))/\ ((0:Int)<=1/\ 1<(c.cells.length:Int))/\ (0<=(c.cells.getD 0 0)/\ (c.cells.getD 0 0)<(pos.length:Int))/\ (0<=(c.cells.getD 1 0)/\ (c.cells.getD 1 0)<(pos.length:Int))/\ (0<=(pos.getD ((c.cells.getD 0 0).toNat) 0)/\ (pos.getD ((c.cells.getD 0 0).toNat) 0)<9223372036854775808) then
  (By (UC n c q pos ln) (BS (pos.getD ((c.cells.getD 0 0).toNat) 0)) (.s0 lost 0 0)).bind fun y1=>
   match y1 with
   | .s0 DP DN E4=>
    (C4 n (c.cells.getD 0 0) (bits .xor .i64 (-1) DN) c q pos ln DP).bind fun y2=>
     (C4 n (c.cells.getD 1 0) (bits .xor .i64 (-1) E4) c q pos ln y2).bind fun y3=>
      some (true,y3)
 else none
def XV (n:Nat) (c:AB) (q:AA) (pos:List Int) (ln:Nat) (lost:List Int):Option (Bool×(List Int)):=eI n c q pos ln lost
theorem p8 {n:Nat} {c:AB} {q:AA} {pos:List Int} {ln:Nat} {lost:List Int} {r:Bool×(List Int)} (h:XV n c q pos ln lost=some r):EQ 105 [.ref 1 0,.fn 107 1 (L1 [.ref 0 0])] [some (.cells [.ref 1 0]),some (.cells (AG c++AD q++[.ints pos,.msl 2 1 0 ln])),some (.ints lost)] (.bool r.1) [some (.cells [.ref 1 0]),some (.cells (AG c++AD q++[.ints pos,.msl 2 1 0 ln])),some (.ints r.2)] false:=by
 refine ot Tryz.func105 fun B N=>?_
 revert r;apply gO
 exact jg nE (gc (gi (gc (gi (jg nC (gc (gi (gc (gi (jt (gn fun g4=>jc (JB g4 (ux c q pos ln lost)) (cn fun y1 A5=>fun p r h=>by
  refine gs KQ [0,1,2,3,4,5,6,7] p (Gn (Aa Tryz.f105) 42 []) (AL 69 [(0,.ref 1 0),(3,.ref 3 0),(5,.i (c.cells.getD 0 0)),(6,.i (c.cells.getD 1 0)),(8,.ref 4 0),(9,.ref 5 0),(10,.ref 6 0),(42,.it 7)]) (uu c q pos ln lost) ?_;refine r0 7 42 #[43] Br 8 A5 (p9 n c q pos ln) ?_;cases y1 with
  | s0 DP DN E4=>
   dsimp only at h
   revert r;apply gO;exact ce FS [1,2] (ut c q pos ln DP DN E4) fun y2=>ce FS [1,2] (us c q pos ln y2 DN E4) fun _=>lE KQ [4] [0,1,2]))))))))))))
def aU (n:Nat) (c:AB) (q:AA) (pos:List Int) (ln:Nat) (lost:List Int):Option (Bool×(List Int)):=
 (XW n c q pos ln lost).bind fun y1=>
  some (y1.1,y1.2)
def M9 (n:Nat) (c:AB) (q:AA) (pos:List Int) (ln:Nat) (lost:List Int):Option (Bool×(List Int)):=aU n c q pos ln lost
theorem zF {n:Nat} {c:AB} {q:AA} {pos:List Int} {ln:Nat} {lost:List Int} {r:Bool×(List Int)} (h:M9 n c q pos ln lost=some r):EQ 73 [.ref 0 0] [some (.cells (AG c++AD q++[.ints pos,.msl 1 1 0 ln])),some (.ints lost)] (.bool r.1) [some (.cells (AG c++AD q++[.ints pos,.msl 1 1 0 ln])),some (.ints r.2)] false:=by
 unfold M9 aU at h;refine ot Tryz.func73 fun B N=>?_
 revert r;apply gO;exact ce qB [2,0,1] [some (.cells (AG c++AD q++[.ints pos,.msl 1 1 0 ln])),some (.ints lost),some (.cells [.ref 0 0])] fun _=>lE AE [2] [0,1]
def Xi (n:Nat) (c:AB) (q:AA) (pos:List Int) (ln:Nat) (lost:List Int):Option (Bool×(List Int)):=
 (XV n c q pos ln lost).bind fun y1=>
  some (y1.1,y1.2)
def MA (n:Nat) (c:AB) (q:AA) (pos:List Int) (ln:Nat) (lost:List Int):Option (Bool×(List Int)):=Xi n c q pos ln lost
theorem qb {n:Nat} {c:AB} {q:AA} {pos:List Int} {ln:Nat} {lost:List Int} {r:Bool×(List Int)} (h:MA n c q pos ln lost=some r):EQ 74 [.ref 0 0] [some (.cells (AG c++AD q++[.ints pos,.msl 1 1 0 ln])),some (.ints lost)] (.bool r.1) [some (.cells (AG c++AD q++[.ints pos,.msl 1 1 0 ln])),some (.ints r.2)] false:=by
 unfold MA Xi at h;refine ot Tryz.func74 fun B N=>?_
 revert r;apply gO;exact ce p8 [2,0,1] [some (.cells (AG c++AD q++[.ints pos,.msl 1 1 0 ln])),some (.ints lost),some (.cells [.ref 0 0])] fun _=>lE AE [2] [0,1]
def aD (n:Nat) (q:AA) (pos:List Int) (cell sy:Int):Option ((List Int)×Int):=
 (JQ n q pos).bind fun y1=>
  bif (y1 != 0) then
   some (([]:List Int),y1)
  else
   bif (decide (cell<0)) then
    some (([]:List Int),1)
   else
    bif (decide (cell>=q.cells)) then
     some (([]:List Int),1)
    else
     bif (decide (sy<0)) then
      some (([]:List Int),1)
     else
      bif (decide (sy>=q.symbols)) then
       some (([]:List Int),1)
      else
       if ((True)/\ (0=0/\ 0=([]:List Int).length)/\ ([]:List Int).length+pos.length<=A6)/\ (0<=cell/\ cell<((([]:List Int).length+pos.length:Nat):Int))/\ 0+((cell).toNat)<(([]:List Int)++pos).length then
        (Sx n (IntKind.u64.wrap ((([]:List Int)++pos).getD (0+((cell).toNat)) 0)) sy).bind fun y2=>
         if ([]:List Int).length+pos.length=((([]:List Int)++pos).set (0+((cell).toNat)) (IntKind.i64.wrap y2)).length then
          (JV n ((([]:List Int)++pos).set (0+((cell).toNat)) (IntKind.i64.wrap y2))).bind fun y3=>
           some (y3,0)
         else none
       else none
def Vv (n:Nat) (q:AA) (pos:List Int) (cell sy:Int):Option ((List Int)×Int):=aD n q pos cell sy
theorem yV {n:Nat} {q:AA} {pos:List Int} {cell sy:Int} {r:(List Int)×Int} (h:Vv n q pos cell sy=some r):EQ 46 [.agg 5 (L1 (AD q)),.ints pos,.i cell,.i sy,.fn 47 0 (L1 [])] [] (.tup 2 (L1 [.ints r.1,.i r.2])) [] true:=by
 unfold Vv aD at h;refine ot Tryz.func46 fun B N=>?_
 revert r;apply gO
 exact cf T5 [some (.cells (AD q))] fun y1=>bi 18 (lF fun p=>el AE [10,11] [] p [] H0 [.nils,.i y1] (AM.tupL (l:=[.nils,.i y1]) (l':=[.ints ([]:List Int),.i y1]) rfl ⟨AM.ints_nil,BM,trivial⟩)) (bi 21 (lF fun p=>el AE [10,11] [] p [] H0 [.nils,.i 1] (AM.tupL (l:=[.nils,.i 1]) (l':=[.ints ([]:List Int),.i 1]) rfl ⟨AM.ints_nil,BM,trivial⟩)) (bi 26 (lF fun p=>el AE [10,11] [] p [] H0 [.nils,.i 1] (AM.tupL (l:=[.nils,.i 1]) (l':=[.ints ([]:List Int),.i 1]) rfl ⟨AM.ints_nil,BM,trivial⟩)) (bi 30 (lF fun p=>el AE [10,11] [] p [] H0 [.nils,.i 1] (AM.tupL (l:=[.nils,.i 1]) (l':=[.ints ([]:List Int),.i 1]) rfl ⟨AM.ints_nil,BM,trivial⟩)) (bi 36 (lF fun p=>el AE [10,11] [] p [] H0 [.nils,.i 1] (AM.tupL (l:=[.nils,.i 1]) (l':=[.ints ([]:List Int),.i 1]) rfl ⟨AM.ints_nil,BM,trivial⟩)) (gc (gi (gc (gn fun g1=>jg g1 (gn fun g2=>jg g2 (cf lC [some (.cells (AD q)),none,some (.ints (([]:List Int)++pos))] fun y2=>jg g1 (jg g2 (gn fun g3=>fun p r h=>by
  refine gz (BR 8 AE) [2] p [0] (H0.g g3) (Gp (Aa Tryz.f46) 8 []) (AL 55 [(13,.ints ((([]:List Int)++pos).set (0+((cell).toNat)) (IntKind.i64.wrap y2)))]) [none] ?_;revert r;apply gO;exact cf Xj [none] fun _=>lE AE [10,11] []))))))))))))
def XB (n:Nat) (q:AA) (pos:List Int) (cell Ck:Int):Option ((List Int)×Int):=
 (Vv n q pos cell Ck).bind fun y1=>
  some (y1.1,y1.2)
def JL (n:Nat) (q:AA) (pos:List Int) (cell Ck:Int):Option ((List Int)×Int):=XB n q pos cell Ck
theorem db {n:Nat} {q:AA} {pos:List Int} {cell Ck:Int} {r:(List Int)×Int} (h:JL n q pos cell Ck=some r):EQ 20 [.agg 5 (L1 (AD q)),.ints pos,.i cell,.i Ck] [] (.tup 2 (L1 [.ints r.1,.i r.2])) [] true:=by
 unfold JL XB at h;refine ot Tryz.func20 fun B N=>?_
 revert r;apply gO;exact cf yV [some (.cells (AD q))] fun _=>lE AE [8,9] []
end Go.Proofs.YtgkhhfnhacibcaaGreatDoor
namespace Go.Proofs.YtgkhhfnhacibcaaGreatDoor
abbrev zCP:=@List.drop_zero
end Go.Proofs.YtgkhhfnhacibcaaGreatDoor
namespace Go.Proofs.YtgkhhfnhacibcaaGreatDoor
open Go.RowKit
set_option maxRecDepth 100000
set_option maxHeartbeats 40000000
def yu (n:Nat) (s_:List Int):Option Unit:=
 some ()
def yw (n:Nat) (s_:List Int):Option Unit:=yu n s_
theorem yt {n:Nat} (s_:List Int) {r:Unit} (h:yw n s_=some r):EQ 102 [.ints s_] [] (.fn 120 1 (L1 [.ref 0 0])) [some (.cells [.ints s_])] true:=by
 refine ot Tryz.func102 fun B N=>?_
 revert r;apply gO;exact lE AE [2] [0]
inductive PC where
 | l1 (x3:Int)
def M5 (n:Nat) (self:PC -> Option (List (Int×Int))) (s_:List Int) (x3:Int):Option (List (Int×Int)):=
 bif (decide (x3>=0)) then
  if 0<=x3/\ x3<(s_.length:Int) then
   Option.map (fun l=>(x3,s_.getD ((x3).toNat) 0)::l) (
    if AH (x3-1) then
     self (.l1 (x3-1))
    else none)
  else none
 else
  some []
def aH (n:Nat) (self:PC -> Option (List (Int×Int))) (s_:List Int):Option (List (Int×Int)):=
 if AH ((s_.length:Int)-1) then
  self (.l1 ((s_.length:Int)-1))
 else none
def LJ (s_:List Int):Nat -> PC -> Option (List (Int×Int))
 | 0,_=>none
 | n+1,.l1 x3=>M5 n (LJ s_ n) s_ x3
def back (n:Nat) (s_:List Int):Option (List (Int×Int)):=aH n (LJ s_ n) s_
def aI (C:Dt Tryz.prog GG) (n:Nat) (s_:List Int) (r:List (Int×Int)):PC -> Prop
 | .l1 x3=>∀ m0:Nat,n<=m0 -> ∀ i:Nat,i<=C.encs.length -> C.encs.drop i=r.map M0 -> At Tryz.prog GG Fence.wide none 1 (C.Y 1 i) (C.Q 1) (Ak m0 (Ap (Aa Tryz.f120) 0 [])) ⟨AL 19 [(0,.yl C.l),(1,.ref 0 0),(3,.i x3)],[some (.cells [.ints s_])]⟩
theorem yp (C:Dt Tryz.prog GG) (n:Nat) (self:PC -> Option (List (Int×Int))) (s_:List Int) (AF: ∀ pt r,self pt=some r -> aI C n s_ r pt) (x3:Int) (r:List (Int×Int)) (h:M5 n self s_ x3=some r):aI C (n+1) s_ r (.l1 x3):=by
 intro m0 AC;intro i hi hd;refine rd AC fun m0 AC=>?_
 unfold M5 at h;have p:=H0;rcases J1 h with ⟨c0,h⟩ | ⟨c0,h⟩
 ·have p:=H0.b 8 c0;refine gs (BR 3 AE) [0] p (Gp (Aa Tryz.f120) 3 [m0]) (AL 19 [(0,.yl C.l),(1,.ref 0 0),(3,.i x3)]) [some (.cells [.ints s_])] ?_;obtain ⟨g0,h⟩:=FF h;have p:=H0.g g0;obtain ⟨r,h2,rfl⟩:=fU h;clear h;have h:=h2;clear h2;obtain ⟨hx,hi,hd⟩:=jV hd;refine At.y (ops:=A8 Tryz.f120 3) HC.x 6 [0,1,3,18] [0] p (x:=M0 (x3,s_.getD ((x3).toNat) 0)) (AL 19 [(0,.yl C.l),(1,.ref 0 0),(3,.i x3),(18,.bool false)]) [some (.cells [.ints s_])] (AL 19 [(0,.yl C.l),(1,.ref 0 0),(3,.i x3),(18,.bool true)]) [some (.cells [.ints s_])] (by kernel_rfl) (by kernel_rfl) (by kernel_rfl) hx (by kernel_rfl) ?_ ?_
  ·generalize i+1=i at hi hd ⊢
   obtain ⟨g1,h⟩:=FF h;have p:=H0.w 10 g1;exact gg AE [0] p (AF _ _ h m0 AC i hi hd)
  ·exact TrI.e HC.x AE 6 H0 (by kernel_rfl) (.inr rfl)
 ·have p:=H0.b 8 c0;cases h;exact TrI.e HC.x AE 10 p (by kernel_rfl) (.inl (by rw [Zx hi hd]))
theorem kA (C:Dt Tryz.prog GG) (s_:List Int): ∀ (n:Nat) (pt:PC) (r:List (Int×Int)),LJ s_ n pt=some r -> aI C n s_ r pt
 | 0,_,_,h=>by cases h
 | n+1,.l1 x3,r,h=>yp C n (LJ s_ n) s_ (kA C s_ n) x3 r h
theorem yq {n:Nat} (s_:List Int) {r:List (Int×Int)} (h:back n s_=some r) (C:Dt Tryz.prog GG) (hC:C.encs=r.map M0):At Tryz.prog GG Fence.wide none 1 (C.Y 1 0) (C.Q 1) [.code (Aa Tryz.f120)] ⟨AL 19 [(0,.yl C.l),(1,.ref 0 0)],[some (.cells [.ints s_])]⟩:=by
 suffices H: ∀ i:Nat,i<=C.encs.length -> C.encs.drop i=r.map M0 -> At Tryz.prog GG Fence.wide none 1 (C.Y 1 i) (C.Q 1) [.code (Aa Tryz.f120)] ⟨AL 19 [(0,.yl C.l),(1,.ref 0 0)],[some (.cells [.ints s_])]⟩ from H 0 (zBT _) (by rw [zCP];exact hC)
 intro i hi hd;have AF:=kA C s_ n;unfold back at h
 generalize LJ s_ n=self at h AF
 unfold aH at h;obtain ⟨g0,h⟩:=FF h;have p:=H0.w 6 g0;exact gg AE [0] p (en n (AF _ _ h n Nat.le.refl i hi hd))
theorem yv {n:Nat} {s_:List Int} {r:List (Int×Int)} (h:back n s_=some r) (H:DH):EQ 102 [.ints s_] H (.it H.length) (H++[some (.iter (r.map M0))]) true:=by
 refine ES.iterN (c:=L1 [.ref 0 0]) (h0:=[some (.cells [.ints s_])]) (fn:=Tryz.f120) (yt (n:=0) s_ (r:=()) rfl) (by kernel_rfl) Tryz.func120 (by kernel_rfl) (by kernel_rfl) (by kernel_rfl) (fun C hC=>?_) H;have e:DV.yl C.l::(List.range 1).map (L1 [.ref 0 0])++List.replicate (Tryz.f120.ntmps-(1+1)) .any=AL 19 [(0,.yl C.l),(1,.ref 0 0)]:=by kernel_rfl
 rw [e];exact yq s_ h C hC
end Go.Proofs.YtgkhhfnhacibcaaGreatDoor
namespace Go.Proofs.YtgkhhfnhacibcaaGreatDoor
open Go.RowKit
set_option maxRecDepth 100000
set_option maxHeartbeats 40000000
def pD (n:Nat) (g_:List (List Int)) (Ad:List Bool) (start:Int):Option Unit:=
 some ()
def pE (n:Nat) (g_:List (List Int)) (Ad:List Bool) (start:Int):Option Unit:=pD n g_ Ad start
theorem pC {n:Nat} (g_:List (List Int)) (Ad:List Bool) (start:Int) {r:Unit} (h:pE n g_ Ad start=some r):EQ 127 [.sl 1 g_.length (Aw BF g_),.bools Ad,.i start] [] (.fn 132 3 (L1 [.ref 0 0,.ref 1 0,.ref 2 0])) [some (.cells [.sl 1 g_.length (Aw BF g_)]),some (.cells [.i start]),some (.cells [.bools Ad])] true:=by
 refine ot Tryz.func127 fun B N=>?_
 revert r;apply gO;exact lE AE [6] [0,2,1]
theorem m5:An (A8 Tryz.f132 6) [] (List.range 8) []:=by unfold An;kernel_rfl
def Ho:BV:=fun i=>match i with
 | 6=>.ord [] (List.range 8) []
 | _=>.no
def U1 (g:List (List Int)) (start:Int) (inn o3:List Bool) (o4:List Int):DH:=[some (.cells [.sl 1 g.length (Aw BF g)]),some (.cells [.i start]),some (.cells [.bools inn]),some (.bools o3),some (.ints o4)]
inductive Ih where
 | l1 (x6:Nat) (o3:List Bool) (o4:List Int)
 | l2 (x6:Nat) (BY:List Int) (CF BK:Int) (o3:List Bool) (o4:List Int)
 | l3 (o3:List Bool)
def Lr (n:Nat) (self:Ih -> Option (List Int)) (g:List (List Int)) (start:Int) (inn:List Bool) (x6:Nat) (o3:List Bool) (o4:List Int):Option (List Int):=
 bif (decide ((x6:Int)>0)) then
  if ((0:Int)<=0/\ 0<(x6:Int))/\ 0+0<o4.length then
   Option.map (fun l=>(o4.getD (0+0) 0)::l) (
    if ((0:Int)<=0/\ 0<(x6:Int))/\ 0+0<o4.length/\ (0<=(o4.getD (0+0) 0)/\ (o4.getD (0+0) 0)<(g.length:Int)) then
     self (.l2 x6 (g.getD ((o4.getD (0+0) 0).toNat) []) (((g.getD ((o4.getD (0+0) 0).toNat) []).length:Nat):Int) 0 o3 o4)
    else none)
  else none
 else
  some []
def JM (n:Nat) (self:Ih -> Option (List Int)) (g:List (List Int)) (start:Int) (inn:List Bool) (x6:Nat) (BY:List Int) (CF BK:Int) (o3:List Bool) (o4:List Int):Option (List Int):=
 bif (decide (BK<CF)) then
  if (0<=BK/\ BK<(BY.length:Int))/\ (0<=(BY.getD ((BK).toNat) 0)/\ (BY.getD ((BK).toNat) 0)<(inn.length:Int)) then
   bif (inn.getD ((BY.getD ((BK).toNat) 0).toNat) false) then
    if (0<=(BY.getD ((BK).toNat) 0)/\ (BY.getD ((BK).toNat) 0)<(g.length:Int))/\ 0+((BY.getD ((BK).toNat) 0).toNat)<o3.length then
     bif (!(o3.getD (0+((BY.getD ((BK).toNat) 0).toNat)) false)) then
      if ((0=0/\ 1=([BY.getD ((BK).toNat) 0]:List Int).length)/\ (0=0/\ x6=o4.length)/\ o4.length+([BY.getD ((BK).toNat) 0]:List Int).length<=A6)/\ AH (BK+1) then
       self (.l2 (o4.length+([BY.getD ((BK).toNat) 0]:List Int).length) BY CF (BK+1) (o3.set (0+((BY.getD ((BK).toNat) 0).toNat)) true) (o4++([BY.getD ((BK).toNat) 0]:List Int)))
      else none
     else
      if AH (BK+1) then
       self (.l2 x6 BY CF (BK+1) o3 o4)
      else none
    else none
   else
    if AH (BK+1) then
     self (.l2 x6 BY CF (BK+1) o3 o4)
    else none
  else none
 else
  bif ((x6-1)==0) then
   if (0:Int)<=1/\ (1:Int)<=(x6:Int)/\ (x6:Int)<=(x6:Int) then
    self (.l3 o3)
   else none
  else
   if (0:Int)<=1/\ (1:Int)<=(x6:Int)/\ (x6:Int)<=(x6:Int) then
    if 1<=o4.length then
     self (.l1 (x6-1) o3 (o4.drop 1))
    else none
   else none
def XC (n:Nat) (self:Ih -> Option (List Int)) (g:List (List Int)) (start:Int) (inn:List Bool) (o3:List Bool):Option (List Int):=
 some []
def XD (n:Nat) (self:Ih -> Option (List Int)) (g:List (List Int)) (start:Int) (inn:List Bool):Option (List Int):=
 if (((g.length:Int):Int)=(g.length:Int)/\ 0<=(g.length:Int)/\ ((g.length:Int):Int)<=1000000000000)/\ (0<=start/\ start<(g.length:Int))/\ 0+((start).toNat)<(List.replicate g.length false).length then
  self (.l1 1 ((List.replicate g.length false).set (0+((start).toNat)) true) ([start]:List Int))
 else none
def D4 (g:List (List Int)) (start:Int) (inn:List Bool):Nat -> Ih -> Option (List Int)
 | 0,_=>none
 | n+1,.l1 x6 o3 o4=>Lr n (D4 g start inn n) g start inn x6 o3 o4
 | n+1,.l2 x6 BY CF BK o3 o4=>JM n (D4 g start inn n) g start inn x6 BY CF BK o3 o4
 | n+1,.l3 o3=>XC n (D4 g start inn n) g start inn o3
def Fm (n:Nat) (g:List (List Int)) (start:Int) (inn:List Bool):Option (List Int):=XD n (D4 g start inn n) g start inn
def Ls (C:Dt Tryz.prog GG) (n:Nat) (g:List (List Int)) (start:Int) (inn:List Bool) (r:List Int):Ih -> Prop
 | .l1 x6 o3 o4=>∀ m0:Nat,n<=m0 -> ∀ i:Nat,i<=C.encs.length -> C.encs.drop i=r.map Br -> At Tryz.prog GG Fence.wide none 3 (C.Y 3 i) (C.Q 3) (Ak m0 (Ap (Aa Tryz.f132) 0 [])) ⟨AL 58 [(0,.yl C.l),(1,.ref 0 0),(3,.ref 2 0),(5,.msl 3 1 0 g.length),(6,.msl 4 1 0 x6)],[some (.cells [.sl 1 g.length (Aw BF g)]),some (.cells [.i start]),some (.cells [.bools inn]),some (.bools o3),some (.ints o4)]⟩
 | .l2 x6 BY CF BK o3 o4=>∀ m0 m1:Nat,n<=m0 -> n<=m1 -> ∀ i:Nat,i<=C.encs.length -> C.encs.drop i=r.map Br -> At Tryz.prog GG Fence.wide none 3 (C.Y 3 i) (C.Q 3) (Ak m1 (Ap (Aa Tryz.f132) 2 [m0])) ⟨AL 58 [(0,.yl C.l),(1,.ref 0 0),(3,.ref 2 0),(5,.msl 3 1 0 g.length),(6,.msl 4 1 0 x6),(33,.ints BY),(34,.i CF),(35,.i BK)],[some (.cells [.sl 1 g.length (Aw BF g)]),some (.cells [.i start]),some (.cells [.bools inn]),some (.bools o3),some (.ints o4)]⟩
 | .l3 o3=>∀ m0:Nat,n<=m0 -> ∀ i:Nat,i<=C.encs.length -> C.encs.drop i=r.map Br -> At Tryz.prog GG Fence.wide none 3 (C.Y 3 i) (C.Q 3) (Ak m0 (Ap (Aa Tryz.f132) 0 [])) ⟨AL 58 [(0,.yl C.l),(1,.ref 0 0),(3,.ref 2 0),(5,.msl 3 1 0 g.length),(6,.ints ([]:List Int))],[some (.cells [.sl 1 g.length (Aw BF g)]),some (.cells [.i start]),some (.cells [.bools inn]),some (.bools o3)]⟩
theorem ow (C:Dt Tryz.prog GG) (n:Nat) (self:Ih -> Option (List Int)) (g:List (List Int)) (start:Int) (inn:List Bool) (AF: ∀ pt r,self pt=some r -> Ls C n g start inn r pt) (x6:Nat) (o3:List Bool) (o4:List Int) (r:List Int) (h:Lr n self g start inn x6 o3 o4=some r):Ls C (n+1) g start inn r (.l1 x6 o3 o4):=by
 intro m0 AC;intro i hi hd;refine rd AC fun m0 AC=>?_
 unfold Lr at h;have p:=H0;rcases J1 h with ⟨c0,h⟩ | ⟨c0,h⟩
 ·have p:=H0.b 19 c0;refine gs (BR 5 Ho) [0,1,2,3,4] p (Gp (Aa Tryz.f132) 5 [m0]) (AL 58 [(0,.yl C.l),(1,.ref 0 0),(3,.ref 2 0),(5,.msl 3 1 0 g.length),(6,.msl 4 1 0 x6)]) (U1 g start inn o3 o4) ?_;obtain ⟨⟨g0,g1⟩,h⟩:=FF h;have p:=H0.g g0 |>.g g1
  obtain ⟨r,h2,rfl⟩:=fU h;clear h;have h:=h2;clear h2;obtain ⟨hx,hi,hd⟩:=jV hd;refine At.y (ops:=A8 Tryz.f132 5) HC.x 4 [0,1,3,5,6,27] [0,1,2,3,4] p (x:=Br (o4.getD (0+0) 0)) (AL 58 [(0,.yl C.l),(1,.ref 0 0),(3,.ref 2 0),(5,.msl 3 1 0 g.length),(6,.msl 4 1 0 x6),(27,.bool false)]) (U1 g start inn o3 o4) (AL 58 [(0,.yl C.l),(1,.ref 0 0),(3,.ref 2 0),(5,.msl 3 1 0 g.length),(6,.msl 4 1 0 x6),(27,.bool true)]) (U1 g start inn o3 o4) (by kernel_rfl) (by kernel_rfl) (by kernel_rfl) hx (by kernel_rfl) ?_ ?_
  ·generalize i+1=i at hi hd ⊢
   obtain ⟨⟨g2,g3,g4⟩,h⟩:=FF h;have p:=H0.g m5 |>.g g2 |>.g g3 |>.g g4
   exact gg Ho [0,1,2,3,4] p (en n (AF _ _ h m0 n AC Nat.le.refl i hi hd))
  ·exact TrI.e HC.x Ho 6 H0 (by kernel_rfl) (.inr rfl)
 ·have p:=H0.b 19 c0;cases h;exact TrI.e HC.x Ho 10 p (by kernel_rfl) (.inl (by rw [Zx hi hd]))
theorem ov (C:Dt Tryz.prog GG) (n:Nat) (self:Ih -> Option (List Int)) (g:List (List Int)) (start:Int) (inn:List Bool) (AF: ∀ pt r,self pt=some r -> Ls C n g start inn r pt) (x6:Nat) (BY:List Int) (CF BK:Int) (o3:List Bool) (o4:List Int) (r:List Int) (h:JM n self g start inn x6 BY CF BK o3 o4=some r):Ls C (n+1) g start inn r (.l2 x6 BY CF BK o3 o4):=by
 intro m0 m1 AC Ag;intro i hi hd;have AC:=zAc AC;refine rd Ag fun m1 Ag=>?_
 unfold JM at h;have p:=H0;rcases J1 h with ⟨c0,h⟩ | ⟨c0,h⟩
 ·obtain ⟨⟨g0,g1⟩,h⟩:=FF h;have p:=H0.b 36 c0 |>.g g0 |>.g g1
  rcases J1 h with ⟨c1,h⟩ | ⟨c1,h⟩
  ·obtain ⟨⟨g2,g3⟩,h⟩:=FF h;have p:=p.b 42 c1 |>.g g2 |>.g g3
   rcases J1 h with ⟨c2,h⟩ | ⟨c2,h⟩
   ·obtain ⟨⟨g4,g5⟩,h⟩:=FF h;have p:=p.b 48 c2 |>.g g2 |>.g g3 |>.g g4 |>.w 57 g5
    exact gg Ho [0,1,2,3,6] p (AF _ _ h m0 m1 AC Ag i hi hd)
   ·obtain ⟨g4,h⟩:=FF h;have p:=p.b 48 c2 |>.w 57 g4
    exact gg Ho [0,1,2,3,4] p (AF _ _ h m0 m1 AC Ag i hi hd)
  ·obtain ⟨g2,h⟩:=FF h;have p:=p.b 42 c1 |>.w 57 g2
   exact gg Ho [0,1,2,3,4] p (AF _ _ h m0 m1 AC Ag i hi hd)
 ·have p:=H0.b 36 c0;rcases J1 h with ⟨c1,h⟩ | ⟨c1,h⟩
  ·obtain ⟨g0,h⟩:=FF h;have p:=p.g g0 |>.o 21 (AM.mse_nil (k:=4) (m:=1) (o:=1) (eq_of_beq c1))
   exact gg Ho [0,1,2,3] p (AF _ _ h m0 AC i hi hd)
  ·obtain ⟨g0,h⟩:=FF h;have p:=p.g g0 |>.o 21 (AM.mse_msl (k:=4) (m:=1) (o:=1) (T4 c1) rfl)
   obtain ⟨g1,h⟩:=FF h;refine gs Ho [0,1,2,3,4] p (Ak m0 (Ap (Aa Tryz.f132) 0 [])) (AL 58 [(0,.yl C.l),(1,.ref 0 0),(3,.ref 2 0),(5,.msl 3 1 0 g.length),(6,.msl 4 1 1 (x6-1))]) (U1 g start inn o3 o4) ?_;refine BN.le (BI.rootE 4 1 ⟨AL 58 [(0,.yl C.l),(1,.ref 0 0),(3,.ref 2 0),(5,.msl 3 1 0 g.length),(6,.msl 5 1 0 (x6-1))],[some (.cells [.sl 1 g.length (Aw BF g)]),some (.cells [.i start]),some (.cells [.bools inn]),some (.bools o3),none,some (.ints (o4.drop 1))]⟩ [1<=o4.length] (by kernel_rfl) ⟨g1,trivial⟩) (by kernel_rfl) ?_;refine BN.le (BI.compE [0,1,2,3,5] (by kernel_rfl)) (by kernel_rfl) ?_;exact AF _ _ h m0 AC i hi hd
theorem ou (C:Dt Tryz.prog GG) (n:Nat) (self:Ih -> Option (List Int)) (g:List (List Int)) (start:Int) (inn:List Bool) (AF: ∀ pt r,self pt=some r -> Ls C n g start inn r pt) (o3:List Bool) (r:List Int) (h:XC n self g start inn o3=some r):Ls C (n+1) g start inn r (.l3 o3):=by
 intro m0 AC;intro i hi hd;refine rd AC fun m0 AC=>?_
 unfold XC at h;have p:=H0;cases h;exact TrI.e HC.x Ho 10 p (by kernel_rfl) (.inl (by rw [Zx hi hd]))
theorem Tl (C:Dt Tryz.prog GG) (g:List (List Int)) (start:Int) (inn:List Bool): ∀ (n:Nat) (pt:Ih) (r:List Int),D4 g start inn n pt=some r -> Ls C n g start inn r pt
 | 0,_,_,h=>by cases h
 | n+1,.l1 x6 o3 o4,r,h=>ow C n (D4 g start inn n) g start inn (Tl C g start inn n) x6 o3 o4 r h
 | n+1,.l2 x6 BY CF BK o3 o4,r,h=>ov C n (D4 g start inn n) g start inn (Tl C g start inn n) x6 BY CF BK o3 o4 r h
 | n+1,.l3 o3,r,h=>ou C n (D4 g start inn n) g start inn (Tl C g start inn n) o3 r h
theorem pA {n:Nat} (g:List (List Int)) (start:Int) (inn:List Bool) {r:List Int} (h:Fm n g start inn=some r) (C:Dt Tryz.prog GG) (hC:C.encs=r.map Br):At Tryz.prog GG Fence.wide none 3 (C.Y 3 0) (C.Q 3) [.code (Aa Tryz.f132)] ⟨AL 58 [(0,.yl C.l),(1,.ref 0 0),(2,.ref 1 0),(3,.ref 2 0)],[some (.cells [.sl 1 g.length (Aw BF g)]),some (.cells [.i start]),some (.cells [.bools inn])]⟩:=by
 suffices H: ∀ i:Nat,i<=C.encs.length -> C.encs.drop i=r.map Br -> At Tryz.prog GG Fence.wide none 3 (C.Y 3 i) (C.Q 3) [.code (Aa Tryz.f132)] ⟨AL 58 [(0,.yl C.l),(1,.ref 0 0),(2,.ref 1 0),(3,.ref 2 0)],[some (.cells [.sl 1 g.length (Aw BF g)]),some (.cells [.i start]),some (.cells [.bools inn])]⟩ from H 0 (zBT _) (by rw [zCP];exact hC)
 intro i hi hd;have AF:=Tl C g start inn n;unfold Fm at h
 generalize D4 g start inn n=self at h AF
 unfold XD at h;obtain ⟨⟨g0,g1,g2⟩,h⟩:=FF h;have p:=H0.g g0 |>.g g1 |>.g g2
 exact gg Ho [0,1,2,3,4] p (en n (AF _ _ h n Nat.le.refl i hi hd))
theorem XF {n:Nat} {g_:List (List Int)} {Ad:List Bool} {start:Int} {r:List Int} (h:Fm n g_ start Ad=some r) (H:DH):EQ 127 [.sl 1 g_.length (Aw BF g_),.bools Ad,.i start] H (.it H.length) (H++[some (.iter (r.map Br))]) true:=by
 refine ES.iterN (c:=L1 [.ref 0 0,.ref 1 0,.ref 2 0]) (h0:=[some (.cells [.sl 1 g_.length (Aw BF g_)]),some (.cells [.i start]),some (.cells [.bools Ad])]) (fn:=Tryz.f132) (pC (n:=0) g_ Ad start (r:=()) rfl) (by kernel_rfl) Tryz.func132 (by kernel_rfl) (by kernel_rfl) (by kernel_rfl) (fun C hC=>?_) H;have e:DV.yl C.l::(List.range 3).map (L1 [.ref 0 0,.ref 1 0,.ref 2 0])++List.replicate (Tryz.f132.ntmps-(3+1)) .any=AL 58 [(0,.yl C.l),(1,.ref 0 0),(2,.ref 1 0),(3,.ref 2 0)]:=by kernel_rfl
 rw [e];exact pA g_ start Ad h C hC
end Go.Proofs.YtgkhhfnhacibcaaGreatDoor
namespace Go.Proofs.YtgkhhfnhacibcaaGreatDoor
abbrev zv:=@decide_eq_true_iff
abbrev zAH:=@List.length_singleton
abbrev zAS:=@List.mem_append_left
abbrev zAd:=@List.mem_append_right
abbrev zA4:=@List.getElem?_set_self
abbrev zA5:=@List.append_nil
abbrev zBC:=@Bool.false_and
abbrev zBX:=@List.countP_cons
abbrev zBh:=@List.append_assoc
abbrev zCU:=@List.countP_le_length
abbrev zCe:=@Bool.and_false
end Go.Proofs.YtgkhhfnhacibcaaGreatDoor
namespace Go.Proofs.YtgkhhfnhacibcaaGreatDoor
open Go.RowKit
def nb (g:List (List Int)) (v:Int):List Int:=g.getD v.toNat []
structure Gr (g:List (List Int)):Prop where
 len:g.length<=256
 row: ∀ v,0<=v -> v<(g.length:Int) -> (nb g v).length<=256
 rng: ∀ v,0<=v -> v<(g.length:Int) -> ∀ u∈nb g v,0<=u/\ u<(g.length:Int)
 sym: ∀ v,0<=v -> v<(g.length:Int) -> ∀ u∈nb g v,v∈nb g u
theorem Gr.of {g:List (List Int)} (h:IE g=true) (hr: ∀ r∈g,r.length<=LB):Gr g:=by
 unfold IE at h;rw [zm,zv,zq] at h
 have key: ∀ v,0<=v -> v<(g.length:Int) -> ∀ u∈nb g v,(0<=u/\ u<(g.length:Int))/\ v∈nb g u:=by
  intro v h0 h1 u hu;have h2:=h.2 v.toNat (zw.2 (by omega));unfold HA at h2;rw [zq] at h2;obtain ⟨j,hj,e⟩:=zAs hu;have h3:=h2 j (zw.2 hj);unfold Ey at h3
  have e2:(g.getD v.toNat []).getD j 0=u:=by
   show (nb g v).getD j 0=u
   rw [u8,zf hj];exact e
  simp only [e2,zm,zv,zBO] at h3;have e3:((v.toNat:Nat):Int)=v:=by omega
  rw [e3] at h3;exact ⟨⟨h3.1.1.1.1,h3.1.1.1.2⟩,h3.2⟩
 have grow: ∀ v,0<=v -> v<(g.length:Int) -> ∀ k,k<(nb g v).length -> (k:Int)<=(nb g v).getD k 0:=by
  intro v h0 h1 k;have h2:=h.2 v.toNat (zw.2 (by omega));unfold HA at h2;rw [zq] at h2
  induction k with
  | zero=>
   intro hk;have h3:=h2 0 (zw.2 hk);unfold Ey at h3;simp only [zm,zv] at h3;exact h3.1.1.1.1
  | succ k ih=>
   intro hk;have h3:=h2 (k+1) (zw.2 hk);unfold Ey at h3;have d:decide (0<k+1)=true:=zn (by omega);simp only [zm,zv,d,zAW,zBS,Nat.add_sub_cancel] at h3;have h4:(nb g v).getD k 0<(nb g v).getD (k+1) 0:=h3.1.2;have:=ih (by omega);omega
 exact ⟨h.1,fun v h0 h1=>by
  refine zCV fun hl=>?_
  have h2:=grow v h0 h1 256 hl;have h3:(nb g v).getD 256 0∈nb g v:=by rw [u8,zf hl];exact zAL hl
  have h4:=(key v h0 h1 _ h3).1;have:=h.1;omega,fun v h0 h1 u hu=>(key v h0 h1 u hu).1,fun v h0 h1 u hu=>(key v h0 h1 u hu).2⟩
inductive Rc (g:List (List Int)) (inn:List Bool) (s:Int):Int -> Prop
 | start:Rc g inn s s
 | step {a b:Int} (h:Rc g inn s a) (hb:b∈nb g a) (hi:inn.getD b.toNat false=true):Rc g inn s b
section
variable {g:List (List Int)} {inn:List Bool} {s:Int}
theorem Rc.rng (G:Gr g) (h0:0<=s) (h1:s<(g.length:Int)) {v:Int} (h:Rc g inn s v):0<=v/\ v<(g.length:Int):=by
 induction h with
 | start=>exact ⟨h0,h1⟩
 | step h hb hi ih=>exact G.rng _ ih.1 ih.2 _ hb
theorem Rc.isIn (hs:inn.getD s.toNat false=true) {v:Int} (h:Rc g inn s v):inn.getD v.toNat false=true:=by
 cases h with
 | start=>exact hs
 | step h hb hi=>exact hi
theorem Rc.trans {a b:Int} (h:Rc g inn s a) (h2:Rc g inn a b):Rc g inn s b:=by
 induction h2 with
 | start=>exact h
 | step _ hb hi ih=>exact .step ih hb hi
theorem Rc.symm (G:Gr g) (h0:0<=s) (h1:s<(g.length:Int)) (hs:inn.getD s.toNat false=true) {v:Int} (h:Rc g inn s v):Rc g inn v s:=by
 induction h with
 | start=>exact .start
 | step h hb hi ih=>
  have hr:=h.rng G h0 h1;exact (Rc.step Rc.start (G.sym _ hr.1 hr.2 _ hb) (h.isIn hs)).trans ih
theorem Rc.mono {gD:List Bool} (hm: ∀ v:Int,inn.getD v.toNat false=true -> gD.getD v.toNat false=true) {v:Int} (h:Rc g inn s v):Rc g gD s v:=by
 induction h with
 | start=>exact .start
 | step h hb hi ih=>exact .step ih hb (hm _ hi)
def FI (l:List Bool):Nat:=l.countP fun b=>!b
theorem Vs: ∀ (l:List Bool) (i:Nat),i<l.length -> l.getD i false=false -> FI (l.set i true)+1=FI l
 | b::l,0,_,h=>by
  have h:b=false:=h;subst h;simp [FI,zBX]
 | b::l,i+1,hi,h=>by
  have:=Vs l i (Nat.lt_of_succ_lt_succ hi) (by simpa using h)
  show FI (b::l.set i true)+1=FI (b::l)
  unfold FI at this ⊢;rw [zBX,zBX];omega
def DG (inn:List Bool) (st:List Bool×List Int) (v:Int):List Bool×List Int:=bif inn.getD v.toNat false&&!st.1.getD v.toNat false then (st.1.set v.toNat true,st.2++[v]) else st
structure Bf (g:List (List Int)) (inn:List Bool) (s:Int) (met:List Bool) (Q P:List Int):Prop where
 len:met.length=g.length
 cnt:Q.length+FI met<=g.length
 nd:(P++Q).Nodup
 rc: ∀ v∈P++Q,Rc g inn s v
 rng: ∀ v∈P++Q,0<=v/\ v<(g.length:Int)
 met: ∀ v:Int,0<=v -> v<(g.length:Int) -> (met.getD v.toNat false=true↔v∈P++Q)
 cl: ∀ p∈P,∀ b∈nb g p,inn.getD b.toNat false=true -> b∈P++Q
 st:s∈P++Q
theorem Bf.ex (G:Gr g) {met:List Bool} {Q P:List Int} (h:Bf g inn s met Q P) {v u:Int} (hv:v∈Q) (hu:u∈nb g v):
 Bf g inn s (DG inn (met,Q) u).1 (DG inn (met,Q) u).2 P/\ (∃ t,(DG inn (met,Q) u).2=Q++t)/\ (inn.getD u.toNat false=true -> u∈P++(DG inn (met,Q) u).2)/\ 2*FI (DG inn (met,Q) u).1+(DG inn (met,Q) u).2.length<=2*FI met+Q.length:=by
 have Fx:=h.rng v (zAd _ hv);have Iu:=G.rng v Fx.1 Fx.2 u hu;unfold DG
 dsimp only
 cases hi:inn.getD u.toNat false
 ·rw [zBC,zg];exact ⟨h,⟨[],(zA5 _).symm⟩,fun h=>(by cases h),zAF _⟩
 ·cases hm:met.getD u.toNat false
  ·rw [zAZ,Bool.and_true,zk];have hn:u∉P++Q:=fun hh=>by rw [(h.met u Iu.1 Iu.2).2 hh] at hm;cases hm
   have hl:=h.len;have hc:=Vs met u.toNat (by omega) hm;have hcnt:=h.cnt;have Bv: ∀ x,x∈P++(Q++[u])↔x∈P++Q∨x=u:=fun x=>by simp [or_assoc]
   refine ⟨⟨by rw [zAK];exact hl,by show (Q++[u]).length+FI (met.set u.toNat true)<=_;rw [zAO,zAH];omega,?_,fun x hx=>?_,fun x hx=>?_,fun x FV Mb=>?_,fun p hp b hb wA=>(Bv b).2 (.inl (h.cl p hp b hb wA)),(Bv s).2 (.inl h.st)⟩,⟨[u],rfl⟩,fun _=>(Bv u).2 (.inr rfl),by show 2*FI (met.set u.toNat true)+(Q++[u]).length<=_;rw [zAO,zAH];omega⟩
   ·rw [←zBh,List.nodup_append];exact ⟨h.nd,by simp,fun a ha b hb=>by rw [zAB] at hb;subst hb;exact fun e=>hn (e▸ha)⟩
   ·rcases (Bv x).1 hx with hx | rfl
    ·exact h.rc x hx
    ·exact .step (h.rc v (zAd _ hv)) hu hi
   ·rcases (Bv x).1 hx with hx | rfl
    ·exact h.rng x hx
    ·exact Iu
   ·rw [Bv,←h.met x FV Mb]
    by_cases e:x=u
    ·subst e;rw [u8,zA4 (by omega)];exact ⟨fun _=>.inr rfl,fun _=>rfl⟩
    ·rw [u8,zAu (by omega),←u8];exact ⟨.inl,fun h=>h.elim id fun h=>absurd h e⟩
  ·rw [zAW,zCe,zg];exact ⟨h,⟨[],by simp⟩,fun _=>(h.met u Iu.1 Iu.2).1 hm,zAF _⟩
theorem Bf.exs (G:Gr g) {v:Int} {P:List Int}: ∀ (l:List Int) {met:List Bool} {Q:List Int},Bf g inn s met Q P -> v∈Q -> (∀ u∈l,u∈nb g v) ->
 Bf g inn s (l.foldl (DG inn) (met,Q)).1 (l.foldl (DG inn) (met,Q)).2 P/\ (∃ t,(l.foldl (DG inn) (met,Q)).2=Q++t)/\ (∀ u∈l,inn.getD u.toNat false=true -> u∈P++(l.foldl (DG inn) (met,Q)).2)/\ 2*FI (l.foldl (DG inn) (met,Q)).1+(l.foldl (DG inn) (met,Q)).2.length<=2*FI met+Q.length
 | [],met,Q,h,hv,hl=>⟨h,⟨[],by simp⟩,fun u hu=>absurd hu zA6,zAF _⟩
 | u::l,met,Q,h,hv,hl=>by
  obtain ⟨h1,⟨t,ht⟩,h2,h3⟩:=h.ex G hv (hl u zAr);obtain ⟨h4,⟨t',Uv⟩,h5,h6⟩:=Bf.exs G l h1 (by rw [ht];exact zAS _ hv) fun x hx=>hl x (zAY _ hx)
  refine ⟨h4,⟨t++t',?_⟩,fun x hx hi=>?_,zt h6 h3⟩
  ·show (List.foldl (DG inn) (DG inn (met,Q) u) l).2=_
   rw [Uv,ht,zBh]
  ·rcases z8.1 hx with rfl | hx
   ·show x∈P++(List.foldl (DG inn) (DG inn (met,Q) x) l).2
    rw [Uv,←zBh];exact zAS _ (h2 hi)
   ·exact h5 x hx hi
theorem ro {n j:Nat} {l:List Int} {met:List Bool} {Q:List Int} (hI:inn.length=g.length) (hG:g.length<=256) (hm:met.length=g.length) (hQ:Q.length+FI met<=g.length) (hj:j<l.length) (hl:l.length<=256) (hr:0<=l.getD j 0/\ l.getD j 0<(g.length:Int)):
 D4 g s inn (n+1) (.l2 Q.length l (l.length:Int) (j:Int) met Q)=D4 g s inn n (.l2 (DG inn (met,Q) (l.getD j 0)).2.length l (l.length:Int) ((j:Int)+1) (DG inn (met,Q) (l.getD j 0)).1 (DG inn (met,Q) (l.getD j 0)).2):=by
 have r1:AH ((j:Int)+1):=Aq.2 ⟨by omega,by omega⟩;have L:(1000000000000:Nat)=A6:=rfl
 show JM n (D4 g s inn n) g s inn Q.length l (l.length:Int) (j:Int) met Q=_
 unfold JM DG;simp only [zl,zAA];rw [zn (by omega),zk,zi ⟨⟨by omega,by omega⟩,by omega,by omega⟩];cases hi:inn.getD (l.getD j 0).toNat false
 ·rw [zg,zBC,zg,zi r1]
 ·rw [zk,zAG,zi ⟨hr,by omega⟩];cases ht:met.getD (l.getD j 0).toNat false
  ·have hc:=Vs met (l.getD j 0).toNat (by omega) ht;rw [zAZ,zk,zk,zi ⟨⟨⟨trivial,rfl⟩,⟨trivial,trivial⟩,by rw [zAH,←L];omega⟩,r1⟩,zAO]
  ·rw [zAW,zg,zg,zi r1]
theorem fo (hI:inn.length=g.length) (G:Gr g) {v:Int} {P:List Int} {l:List Int} (hl:l.length<=256) (ZD: ∀ u∈l,u∈nb g v): ∀ (k j n:Nat) {met:List Bool} {Q:List Int},j+k=l.length -> Bf g inn s met Q P -> v∈Q ->
 D4 g s inn (n+k) (.l2 Q.length l (l.length:Int) (j:Int) met Q)=D4 g s inn n (.l2 ((l.drop j).foldl (DG inn) (met,Q)).2.length l (l.length:Int) (l.length:Int) ((l.drop j).foldl (DG inn) (met,Q)).1 ((l.drop j).foldl (DG inn) (met,Q)).2)
 | 0,j,n,met,Q,e,h,hv=>by
  have e:j=l.length:=by omega
  subst e;rw [List.drop_length];rfl
 | k+1,j,n,met,Q,e,h,hv=>by
  have hj:j<l.length:=by omega
  have hu:l.getD j 0∈l:=by rw [u8,zf hj];exact zAL hj
  have Fx:=h.rng v (zAd _ hv);have hr:=G.rng v Fx.1 Fx.2 _ (ZD _ hu);obtain ⟨h1,⟨t,ht⟩,_,_⟩:=h.ex G hv (ZD _ hu);rw [←zAg,ro hI G.len h.len h.cnt hj hl hr];have:=fo hI G hl ZD k (j+1) n (by omega) h1 (by rw [ht];exact zAS _ hv);have e1:(((j+1:Nat)):Int)=(j:Int)+1:=by omega
  rw [e1] at this;rw [this]
  have e2:l.drop j=l.getD j 0::l.drop (j+1):=by
   rw [zAD hj,u8,zf hj];rfl
  rw [e2];rfl
def LT (g:List (List Int)) (inn:List Bool) (s:Int) (P l:List Int):Prop:=(P++l).Nodup/\ (∀ v,v∈P++l↔Rc g inn s v)
theorem Bf.done {met:List Bool} {P:List Int} (h:Bf g inn s met [] P):LT g inn s P []:=by
 refine ⟨h.nd,fun v=>⟨h.rc v,fun hv=>?_⟩⟩
 induction hv with
 | start=>exact h.st
 | step _ hb hi ih=>exact h.cl _ (by simpa using ih) _ hb hi
theorem Ac.map {R:Type} {f:Nat -> Option R} {Q:R -> Prop} {Q':R -> Prop} {m:R -> R} (h:Ac f Q) (hq: ∀ r,Q r -> Q' (m r)):Ac (fun n=>(f n).map m) Q':=by
 obtain ⟨N,h⟩:=h;refine ⟨N,fun n hn=>?_⟩;obtain ⟨r,h1,h2⟩:=h n hn;exact ⟨m r,by show (f n).map m=_;rw [h1];rfl,hq r h2⟩
theorem yj (G:Gr g) (hI:inn.length=g.length): ∀ (z:Nat) (met:List Bool) (Q P:List Int),2*FI met+Q.length=z -> Bf g inn s met Q P -> Ac (fun n=>D4 g s inn n (.l1 Q.length met Q)) (LT g inn s P):=by
 intro z
 induction z using Nat.strongRecOn with
 | _ z ih=>
  intro met Q P hz h;cases Q with
  | nil=>
   refine Ev.p (r:=[]) ⟨1,fun n hn=>?_⟩ h.done;obtain ⟨n,rfl⟩: ∃ k,n=k+1:=⟨n-1,by omega⟩
   show Lr n (D4 g s inn n) g s inn 0 met []=_
   unfold Lr;rw [ze (by omega),zg]
  | cons v q=>
   have hv:v∈v::q:=zAr;have Fx:=h.rng v (zAd _ hv);obtain ⟨h1,⟨t,ht⟩,h2,h3⟩:=h.exs G (nb g v) hv (fun u hu=>hu);have hl:=G.row v Fx.1 Fx.2
   generalize D8:(nb g v).foldl (DG inn) (met,v::q)=st at h1 ht h2 h3
   obtain ⟨N4,Q'⟩:=st;have ht:Q'=v::(q++t):=ht;subst ht
   have hB:Bf g inn s N4 (q++t) (P++[v]):=by
    have e:P++[v]++(q++t)=P++(v::(q++t)):=by simp
    have hc:=h1.cnt;simp only [zAv] at hc;refine ⟨h1.len,by omega,by rw [e];exact h1.nd,by rw [e];exact h1.rc,by rw [e];exact h1.rng,by rw [e];exact h1.met,?_,by rw [e];exact h1.st⟩;intro p hp b hb hi;rw [e];rcases zAI.1 hp with hp | hp
    ·exact h1.cl p hp b hb hi
    ·rw [zAB] at hp;subst hp;exact h2 b hb hi
   have YT:2*FI N4+(q++t).length<z:=by
    simp only [zAv] at h3;simp only [zAO] at h3 ⊢;have:(v::q).length=q.length+1:=rfl;omega
   have IH:=ih _ YT N4 (q++t) (P++[v]) rfl hB
   have key:Ac (fun n=>D4 g s inn n (.l2 (v::(q++t)).length (nb g v) ((nb g v).length:Int) ((nb g v).length:Int) N4 (v::(q++t)))) (LT g inn s (P++[v])):=by
    have g0:(0:Int)<=1/\ (1:Int)<=(((v::(q++t)).length:Nat):Int)/\ (((v::(q++t)).length:Nat):Int)<=(((v::(q++t)).length:Nat):Int):=⟨by omega,by rw [zAv];omega,zAo _⟩;cases Yp:q++t with
    | nil=>
     rw [Yp] at hB;refine Ev.p (r:=[]) ⟨2,fun n hn=>?_⟩ hB.done;obtain ⟨n,rfl⟩: ∃ k,n=k+2:=⟨n-2,by omega⟩
     show JM (n+1) (D4 g s inn (n+1)) g s inn 1 (nb g v) ((nb g v).length:Int) ((nb g v).length:Int) N4 [v]=_
     unfold JM;rw [ze (by omega),zg];rfl
    | cons a r=>
     rw [←Yp];refine Ac.step 1 (fun n=>?_) IH
     show JM n (D4 g s inn n) g s inn (v::(q++t)).length (nb g v) ((nb g v).length:Int) ((nb g v).length:Int) N4 (v::(q++t))=_
     unfold JM;have e0:((v::(q++t)).length-1==0)=false:=by rw [Yp];rfl
     rw [ze (by omega),zg,e0,zg,zi g0,zi (by rw [zAv];omega)];rfl
   have r9:Ac (fun n=>D4 g s inn n (.l2 (v::q).length (nb g v) ((nb g v).length:Int) 0 met (v::q))) (LT g inn s (P++[v])):=by
    refine Ac.step (nb g v).length (fun n=>?_) key;have:=fo hI G hl (fun u hu=>hu) (nb g v).length 0 n (by omega) h hv;rw [zCP,D8] at this;exact this
   have m: ∀ r:List Int,LT g inn s (P++[v]) r -> LT g inn s P (v::r):=fun r hr=>by
    have e:P++[v]++r=P++(v::r):=by simp
    unfold LT at hr ⊢;rw [e] at hr;exact hr
   refine Ac.step 1 (fun n=>?_) (Ac.map r9 m)
   show Lr n (D4 g s inn n) g s inn (v::q).length met (v::q)=_
   unfold Lr;have g1:((0:Int)<=0/\ 0<(((v::q).length:Nat):Int))/\ 0+0<(v::q).length:=by rw [zAv];omega
   rw [zn (by rw [zAv];omega),zk,zi g1];have e1:(v::q).getD (0+0) 0=v:=rfl;rw [e1,zi ⟨g1.1,g1.2,Fx⟩];rfl
theorem XE (G:Gr g) (hI:inn.length=g.length) (h0:0<=s) (h1:s<(g.length:Int)):Ac (fun n=>Fm n g s inn) (fun l=>l.Nodup/\ ∀ v,v∈l↔Rc g inn s v):=by
 have Af:((List.replicate g.length false).set s.toNat true).length=g.length:=by simp
 have hG:=G.len;have hc:=Vs (List.replicate g.length false) s.toNat (by rw [zx];omega) (by simp [u8,zAm];split <;> rfl)
 have IA:FI (List.replicate g.length false)<=g.length:=by
  have:=zCU (p:=fun b=>!b) (l:=List.replicate g.length false);rw [zx] at this;exact this
 have hB:Bf g inn s ((List.replicate g.length false).set s.toNat true) [s] []:=by
  refine ⟨Af,by rw [zAH];omega,by simp,fun v hv=>?_,fun v hv=>?_,fun v HN Be=>?_,fun p hp=>absurd hp zA6,by simp⟩
  ·have:v=s:=by simpa using hv
   subst this;exact .start
  ·have:v=s:=by simpa using hv
   subst this;exact ⟨h0,h1⟩
  ·by_cases e:v=s
   ·subst e;rw [u8,zA4 (by rw [zx];omega)];simp
   ·rw [u8,zAu (by omega),zAm];simp only [zA1,zAB,e,iff_false];split <;> simp
 have:=yj G hI _ _ _ _ rfl hB;refine (Ac.mono (Q':=fun l=>l.Nodup/\ ∀ v,v∈l↔Rc g inn s v) this (fun l (hl:LT g inn s [] l)=>(⟨hl.1,hl.2⟩:l.Nodup/\ ∀ v,v∈l↔Rc g inn s v))).eq fun n=>?_
 unfold Fm XD;rw [zi ⟨⟨rfl,by omega,by omega⟩,⟨h0,h1⟩,by simp only [zx];omega⟩,zAA];rfl
end
end Go.Proofs.YtgkhhfnhacibcaaGreatDoor
namespace Go.Proofs.YtgkhhfnhacibcaaGreatDoor
abbrev zBQ:=@BitVec.toNat_ofInt
abbrev zBy:=@Nat.pow_le_pow_right
abbrev zCQ:=@Nat.testBit_lt_two_pow
end Go.Proofs.YtgkhhfnhacibcaaGreatDoor
namespace Go.Proofs.YtgkhhfnhacibcaaGreatDoor
def tb (x:Int) (i:Nat):Bool:=(BitVec.ofInt 64 x).getLsbD i
def Bj (x:Int):Prop:=-9223372036854775808<=x/\ x<=9223372036854775807
theorem Ql (x:Int):BitVec.ofInt 64 (IntKind.i64.wrap x)=BitVec.ofInt 64 x:=by
 apply BitVec.eq_of_toNat_eq;rw [zBQ,zBQ,zCW]
 congr 1
 omega
theorem Qm (y:BitVec 64):BitVec.ofInt 64 (y.toNat:Int)=y:=by
 rw [zBx];simp
theorem aq (x:Int):Bj (IntKind.i64.wrap x):=by
 rw [zCW];constructor <;> omega
theorem F5 (op:BinOp) (a b:Int):Bj (bits op .i64 a b):=aq _
theorem LZ (a b:Int) (i:Nat):tb (bits .or .i64 a b) i=(tb a i||tb b i):=by
 show (BitVec.ofInt 64 (IntKind.i64.wrap ((BitVec.ofInt 64 a||| BitVec.ofInt 64 b).toNat:Int))).getLsbD i=_
 rw [Ql,Qm,BitVec.getLsbD_or];rfl
theorem Hg (a b:Int) (i:Nat):tb (bits .and .i64 a b) i=(tb a i&&tb b i):=by
 show (BitVec.ofInt 64 (IntKind.i64.wrap ((BitVec.ofInt 64 a&&& BitVec.ofInt 64 b).toNat:Int))).getLsbD i=_
 rw [Ql,Qm,BitVec.getLsbD_and];rfl
theorem G3 {x:Int} {i:Nat} (h:64<=i):tb x i=false:=BitVec.getLsbD_of_ge _ _ h
theorem Lb (a b:Int) (i:Nat):tb (bits .andNot .i64 a b) i=(tb a i&&!tb b i):=by
 show (BitVec.ofInt 64 (IntKind.i64.wrap ((BitVec.ofInt 64 a&&& ~~~ BitVec.ofInt 64 b).toNat:Int))).getLsbD i=_
 rw [Ql,Qm,BitVec.getLsbD_and,BitVec.getLsbD_not]
 by_cases h:i<64
 ·simp [h,tb]
 ·have h:64<=i:=by omega
  have:=G3 (x:=a) h;unfold tb at*;rw [this];simp
theorem S9 (a:Int) {i:Nat} (h:i<64):tb (bits .xor .i64 (-1) a) i= !tb a i:=by
 show (BitVec.ofInt 64 (IntKind.i64.wrap ((BitVec.ofInt 64 (-1) ^^^ BitVec.ofInt 64 a).toNat:Int))).getLsbD i=_
 rw [Ql,Qm,BitVec.getLsbD_xor];have:BitVec.ofInt 64 (-1)=BitVec.allOnes 64:=by decide
 rw [this,BitVec.getLsbD_allOnes];simp [h,tb]
theorem Wb (i:Nat):tb 0 i=false:=by
 unfold tb;rw [show BitVec.ofInt 64 0=0#64 from rfl];simp
theorem Fk {i:Nat}: ¬ tb 0 i=true:=by rw [Wb];decide
theorem KH {x y:Int} (hx:Bj x) (hy:Bj y) (h: ∀ i,i<64 -> tb x i=tb y i):x=y:=by
 have e:BitVec.ofInt 64 x=BitVec.ofInt 64 y:=BitVec.eq_of_getLsbD_eq fun i hi=>h i hi
 have e2:=congrArg BitVec.toNat e;rw [zBQ,zBQ] at e2;unfold Bj at*;omega
theorem La (m i:Nat) (hi:i<64):tb (m:Int) i=m.testBit i:=by
 unfold tb;rw [zBx,BitVec.getLsbD_ofNat];simp [hi]
def Sm (k:Nat) (x:Int):Prop:=0<=x/\ x<2 ^ k
theorem Lv {k:Nat} (hk:k<=62):(2:Int) ^ k<=4611686018427387904:=by
 have:(2:Nat) ^ k<=2 ^ 62:=zBy (by decide) hk;have h:((2 ^ k:Nat):Int)<=((2 ^ 62:Nat):Int):=by exact_mod_cast this
 simpa using h
theorem Sm.in64 {k:Nat} {x:Int} (hk:k<=62) (h:Sm k x):Bj x:=by
 have:=Lv hk;obtain ⟨h1,h2⟩:=h;constructor <;> omega
theorem Sm.hi {k:Nat} {x:Int} (h:Sm k x) {i:Nat} (hi:k<=i):tb x i=false:=by
 rcases zA2 i 64 with F4 | F4
 ·obtain ⟨m,rfl⟩:=zBl h.1;rw [La m i F4];apply zCQ;have h2:(m:Int)<2 ^ k:=h.2;have h3:m<2 ^ k:=by exact_mod_cast h2
  exact zu h3 (zBy (by decide) hi)
 ·exact G3 F4
theorem cV {k:Nat} (hk:k<=62) {x:Int} (hx:Bj x) (h: ∀ i,k<=i -> i<64 -> tb x i=false):Sm k x:=by
 have hy:(BitVec.ofInt 64 x).toNat<2 ^ k:=by
  apply Nat.lt_pow_two_of_testBit;intro i hi;rcases zA2 i 64 with F4 | F4
  ·have:=h i hi F4;unfold tb at this
   rwa [BitVec.getLsbD] at this
  ·exact zCQ (zu (BitVec.isLt _) (zBy (by decide) F4))
 rw [zBQ] at hy;have h1:=Lv hk;have h2:((2 ^ k:Nat):Int)=(2:Int) ^ k:=by simp
 unfold Bj at hx;unfold Sm;omega
theorem lj {s i:Nat} (hi:i<64):tb ((2 ^ s:Nat):Int) i=decide (s=i):=by
 rw [La _ _ hi,Nat.testBit_two_pow]
theorem NN {x:Int} (hx:Bj x):x=0↔∀ i,i<64 -> tb x i=false:=
 ⟨fun h i _=>by rw [h];exact Wb i,fun h=>KH hx ⟨by decide,by decide⟩ fun i hi=>by rw [h i hi,Wb]⟩
theorem Eb {x:Int} (hx:Bj x):x≠0↔∃ i,i<64/\ tb x i=true:=by
 rw [ne_eq,NN hx];constructor
 ·intro h;refine Classical.byContradiction fun h2=>h fun i hi=>?_
  cases hb:tb x i with
  | false=>rfl
  | true=>exact absurd ⟨i,hi,hb⟩ h2
 ·rintro ⟨i,hi,hb⟩ h;rw [h i hi] at hb;cases hb
end Go.Proofs.YtgkhhfnhacibcaaGreatDoor
namespace Go.Proofs.YtgkhhfnhacibcaaGreatDoor
open Go.RowKit
theorem UT {S R:Type} (m:Nat -> S -> Int -> Option R) (len N0:Nat) (Inv:Nat -> S -> Prop)
 (h: ∀ (n i:Nat) (s:S),N0<=n -> i<len -> Inv i s -> ∃ s',m (n+1) s (i:Int)=m n s' ((i:Int)+1)/\ Inv (i+1) s'):
 ∀ (k i n:Nat) (s:S),i+k=len -> N0<=n -> Inv i s -> ∃ s',m (n+k) s (i:Int)=m n s' (len:Int)/\ Inv len s'
 | 0,i,n,s,e,_,hI=>by
  have:i=len:=by omega
  subst this;exact ⟨s,rfl,hI⟩
 | k+1,i,n,s,e,hn,hI=>by
  obtain ⟨s',h1,h2⟩:=h (n+k) i s (by omega) (by omega) hI;obtain ⟨s2,h3,h4⟩:=UT m len N0 Inv h k (i+1) n s' (by omega) hn h2;refine ⟨s2,?_,h4⟩;rw [show n+(k+1)=n+k+1 by omega,h1,←h3];rfl
theorem Gg {S R:Type} (m:Nat -> S -> Int -> Option R) (len N0:Nat) (Inv:Nat -> S -> Prop)
 (h: ∀ (n i:Nat) (s:S),N0<=n -> i<len -> Inv i s -> ∃ s',m (n+1) s (i:Int)=m n s' ((i:Int)+1)/\ Inv (i+1) s')
 {n:Nat} {s:S} (hn:N0+len<=n) (hI:Inv 0 s): ∃ n' s',N0<=n'/\ n'+len=n/\ m n s 0=m n' s' (len:Int)/\ Inv len s':=by
 obtain ⟨s',h1,h2⟩:=UT m len N0 Inv h len 0 (n-len) s (by omega) (by omega) hI;rw [show n-len+len=n by omega] at h1;exact ⟨n-len,s',by omega,by omega,h1,h2⟩
structure Bz (c:AB) (k:Nat) (pos:List Int):Prop where
 cells: ∀ a,a<c.cells.length -> 0<=c.cells.getD a 0/\ c.cells.getD a 0<(pos.length:Int)
 len:c.cells.length<=256
 sm: ∀ i,i<pos.length -> Sm k (pos.getD i 0)
 k:k<=16
def AV (c:AB) (pos:List Int) (a:Nat):Int:=pos.getD (c.cells.getD a 0).toNat 0
def Li (x:Int):Bool:=bits .and .i64 x (x-1)==0
section
variable {c:AB} {k:Nat} {pos lost:List Int} {q:AA}
theorem Bz.at (W:Bz c k pos) {a:Nat} (ha:a<c.cells.length):Sm k (AV c pos a):=by
 have:=W.cells a ha;exact W.sm _ (by omega)
theorem Bz.r64 (W:Bz c k pos) {a:Nat} (ha:a<c.cells.length):AH (AV c pos a-1)/\ AH ((a:Int)+1):=by
 have h:=W.at ha;have h2:=Lv (k:=k) (zt W.k (by decide));have h3:=W.len;obtain ⟨h0,h1⟩:=h;exact ⟨Aq.2 ⟨by omega,by omega⟩,Aq.2 ⟨by omega,by omega⟩⟩
theorem JZ {n:Nat} {cell ss:Int} (h0:0<=cell) (h1:cell<(pos.length:Int)) (hl:lost.length=pos.length):
 ∃ l',C4 n cell ss c q pos pos.length lost=some l'/\ l'.length=pos.length/\ ∀ j s,tb (l'.getD j 0) s=(tb (lost.getD j 0) s||(decide (j=cell.toNat)&&(tb (pos.getD j 0) s&&tb ss s))):=by
 refine ⟨lost.set cell.toNat (bits .or .i64 (lost.getD cell.toNat 0) (bits .and .i64 (pos.getD cell.toNat 0) ss)),?_,by rw [zAK];exact hl,fun j s=>?_⟩
 ·unfold C4 Xt;simp only [zAA];rw [zi ⟨⟨h0,h1⟩,by omega,h0,h1⟩]
 ·by_cases hj:j=cell.toNat
  ·subst hj;rw [u8,zA4 (by omega),zBW,LZ,Hg,zn rfl,zAG]
  ·rw [u8,zAu (fun e=>hj e.symm),←u8,ze hj,zBC,zBD]
theorem Xa {n:Nat} {cell:Int} (h0:0<=cell) (h1:cell<(pos.length:Int)) (hl:lost.length=pos.length):
 ∃ l',Fq n cell c q pos pos.length lost=some l'/\ l'.length=pos.length/\ ∀ j s,tb (l'.getD j 0) s=(tb (lost.getD j 0) s||(decide (j=cell.toNat)&&(tb (pos.getD j 0) s&&!tb c.set s))):=by
 refine ⟨lost.set cell.toNat (bits .or .i64 (lost.getD cell.toNat 0) (bits .andNot .i64 (pos.getD cell.toNat 0) c.set)),?_,by rw [zAK];exact hl,fun j s=>?_⟩
 ·unfold Fq Xc;simp only [zAA];rw [zi ⟨⟨h0,h1⟩,by omega,h0,h1⟩]
 ·by_cases hj:j=cell.toNat
  ·subst hj;rw [u8,zA4 (by omega),zBW,LZ,Lb,zn rfl,zAG]
  ·rw [u8,zAu (fun e=>hj e.symm),←u8,ze hj,zBC,zBD]
def Sg (c:AB) (pos:List Int) (a s:Nat):Prop:=Li (AV c pos a)=true/\ tb (AV c pos a) s=true
def Bo (c:AB) (pos lost:List Int) (i:Nat) (D:Nat -> Nat -> Prop) (l:List Int):Prop:=
 l.length=pos.length/\ ∀ j s,tb (l.getD j 0) s=true↔tb (lost.getD j 0) s=true∨∃ a,a<i/\ (c.cells.getD a 0).toNat=j/\ tb (AV c pos a) s=true/\ D a s
theorem Bo.step {D:Nat -> Nat -> Prop} {i:Nat} {l l':List Int} (h:Bo c pos lost i D l) (hl:l'.length=pos.length)
 (h1: ∀ j s,tb (l'.getD j 0) s=true↔tb (l.getD j 0) s=true∨((c.cells.getD i 0).toNat=j/\ tb (AV c pos i) s=true/\ D i s)):Bo c pos lost (i+1) D l':=by
 refine ⟨hl,fun j s=>?_⟩;rw [h1,h.2];constructor
 ·rintro ((h | ⟨a,ha,h⟩) | h)
  ·exact .inl h
  ·exact .inr ⟨a,by omega,h⟩
  ·exact .inr ⟨i,by omega,h⟩
 ·rintro (h3 | ⟨a,ha,h3⟩)
  ·exact .inl (.inl h3)
  ·rcases zz.1 ha with ha | rfl
   ·exact .inl (.inr ⟨a,ha,h3⟩)
   ·exact .inr h3
theorem Bo.zero {D:Nat -> Nat -> Prop} (hl:lost.length=pos.length):Bo c pos lost 0 D lost:=
 ⟨hl,fun j s=>⟨.inl,fun h=>h.elim id fun ⟨a,ha,_⟩=>absurd ha (zy a)⟩⟩
def O1 (c:AB) (pos:List Int) (a s:Nat):Prop:=∃ b,b<c.cells.length/\ b≠a/\ Sg c pos b s
theorem xg {n:Nat} (W:Bz c k pos) (hl:lost.length=pos.length) (hn:2*c.cells.length+2<=n):
 ∃ l,O0 n c q pos pos.length lost=some (true,l)/\ Bo c pos lost c.cells.length (O1 c pos) l:=by
 have lt: ∀ i,i<c.cells.length -> ((i:Nat):Int)<((c.cells.length:Nat):Int):=fun i hi=>by omega
 have S:=Gg (fun n (s:Int×Int) i=>I3 c q pos pos.length lost n (.l1 s.1 s.2 i)) c.cells.length (c.cells.length+2)
  (fun i s=>(∀ j,tb s.1 j=true↔∃ a,a<i/\ Sg c pos a j)/\ (∀ j,tb s.2 j=true↔∃ a b,a<b/\ b<i/\ Sg c pos a j/\ Sg c pos b j))
  (fun n i s _ hi hI=>?_) (n:=n) (s:=(0,0)) (by omega) ?_
 ·obtain ⟨n1,⟨o,t⟩,F0,_,e1,ho,ht⟩:=S;obtain ⟨n2,rfl⟩: ∃ n2,n1=n2+1:=⟨n1-1,by omega⟩
  have T:=Gg (fun n (s:List Int) i=>I3 c q pos pos.length lost n (.l2 o t i s)) c.cells.length 1
   (fun i s=>Bo c pos lost i (O1 c pos) s) (fun n i s FD hi hI=>?_) (n:=n2) (s:=lost) (by omega) (Bo.zero hl)
  ·obtain ⟨n3,l,RU,_,e2,hL⟩:=T;obtain ⟨n4,rfl⟩: ∃ n4,n3=n4+1:=⟨n3-1,by omega⟩;refine ⟨l,?_,hL⟩;unfold O0 jZ;refine e1.trans ?_
   show SD n2 (I3 c q pos pos.length lost n2) c q pos pos.length lost o t (c.cells.length:Int)=_
   unfold SD;rw [ze (by omega),zg];refine e2.trans ?_
   show SC n4 (I3 c q pos pos.length lost n4) c q pos pos.length lost o t (c.cells.length:Int) l=_
   unfold SC;rw [ze (by omega),zg]
  ·have hc:=W.cells i hi;have hr:=W.r64 hi
   show ∃ s',SC n (I3 c q pos pos.length lost n) c q pos pos.length lost o t (i:Int) s=_/\ _
   unfold SC;rw [zn (lt i hi),zk];simp only [zl];rw [zi ⟨⟨by omega,lt i hi⟩,hc,hr.1⟩];have sg:(bits .and .i64 (pos.getD (c.cells.getD i 0).toNat 0) (pos.getD (c.cells.getD i 0).toNat 0-1)==0)=Li (AV c pos i):=rfl;rw [sg];cases hs:Li (AV c pos i)
   ·rw [zg];obtain ⟨l',h1,h2,h3⟩:=JZ (n:=n) (ss:=o) (c:=c) (q:=q) hc.1 hc.2 hI.1;rw [h1,zh,zi hr.2];refine ⟨l',rfl,hI.step h2 fun j x=>?_⟩;rw [h3,zAE,zm,zm,zv,ho];constructor
    ·rintro (h | ⟨rfl,h4,b,hb,h5⟩)
     ·exact .inl h
     ·refine .inr ⟨rfl,h4,b,hb,?_,h5⟩;rintro rfl;rw [h5.1] at hs;cases hs
    ·rintro (h | ⟨rfl,h4,b,hb,_,h5⟩)
     ·exact .inl h
     ·exact .inr ⟨rfl,h4,b,hb,h5⟩
   ·rw [zk];obtain ⟨l',h1,h2,h3⟩:=JZ (n:=n) (ss:=bits .or .i64 (bits .andNot .i64 o (pos.getD (c.cells.getD i 0).toNat 0)) t) (c:=c) (q:=q) hc.1 hc.2 hI.1;rw [h1,zh,zi hr.2];refine ⟨l',rfl,hI.step h2 fun j x=>?_⟩;rw [h3,zAE,zm,zm,zv,LZ,Lb,zAE,zm,ht];constructor
    ·rintro (h | ⟨rfl,h4,⟨_,h5⟩ | ⟨x1,y1,h6,h7,h8,h9⟩⟩)
     ·exact .inl h
     ·rw [h4] at h5;cases h5
     ·refine .inr ⟨rfl,h4,?_⟩
      by_cases e:x1=i
      ·exact ⟨y1,h7,by omega,h9⟩
      ·exact ⟨x1,by omega,e,h8⟩
    ·rintro (h | ⟨rfl,h4,b,hb,h5,h6⟩)
     ·exact .inl h
     ·refine .inr ⟨rfl,h4,.inr ?_⟩;rcases Nat.lt_or_gt_of_ne h5 with h5 | h5
      ·exact ⟨b,i,h5,hi,h6,hs,h4⟩
      ·exact ⟨i,b,h5,hb,⟨hs,h4⟩,h6⟩
 ·obtain ⟨o,t⟩:=s;obtain ⟨h1,h2⟩:=hI;simp only at h1 h2;have hc:=W.cells i hi;have hr:=W.r64 hi
  show ∃ s',SD n (I3 c q pos pos.length lost n) c q pos pos.length lost o t (i:Int)=_/\ _
  unfold SD;rw [zn (lt i hi),zk];simp only [zl];rw [zi ⟨⟨by omega,lt i hi⟩,hc,hr.1⟩];have sg:(bits .and .i64 (pos.getD (c.cells.getD i 0).toNat 0) (pos.getD (c.cells.getD i 0).toNat 0-1)==0)=Li (AV c pos i):=rfl;rw [sg];cases hs:Li (AV c pos i)
  ·rw [zg,zi hr.2];refine ⟨(o,t),rfl,fun j=>?_,fun j=>?_⟩
   ·rw [h1];constructor
    ·rintro ⟨a,ha,h⟩;exact ⟨a,by omega,h⟩
    ·rintro ⟨a,ha,h⟩;rcases zz.1 ha with ha | rfl
     ·exact ⟨a,ha,h⟩
     ·rw [h.1] at hs;cases hs
   ·rw [h2];constructor
    ·rintro ⟨a,b,GN,hb,h⟩;exact ⟨a,b,GN,by omega,h⟩
    ·rintro ⟨a,b,GN,hb,h⟩;rcases zz.1 hb with hb | rfl
     ·exact ⟨a,b,GN,hb,h⟩
     ·rw [h.2.1] at hs;cases hs
  ·rw [zk,zi hr.2];refine ⟨(bits .or .i64 o (AV c pos i),bits .or .i64 t (bits .and .i64 o (AV c pos i))),rfl,fun j=>?_,fun j=>?_⟩
   ·rw [LZ,zAE,h1];constructor
    ·rintro (⟨a,ha,h⟩ | h)
     ·exact ⟨a,by omega,h⟩
     ·exact ⟨i,by omega,hs,h⟩
    ·rintro ⟨a,ha,h⟩;rcases zz.1 ha with ha | rfl
     ·exact .inl ⟨a,ha,h⟩
     ·exact .inr h.2
   ·rw [LZ,Hg,zAE,zm,h1,h2];constructor
    ·rintro (⟨a,b,GN,hb,h⟩ | ⟨⟨a,ha,h⟩,h3⟩)
     ·exact ⟨a,b,GN,by omega,h⟩
     ·exact ⟨a,i,ha,by omega,h,hs,h3⟩
    ·rintro ⟨a,b,GN,hb,h,h3⟩;rcases zz.1 hb with hb | rfl
     ·exact .inl ⟨a,b,GN,hb,h,h3⟩
     ·exact .inr ⟨⟨a,GN,h⟩,h3.2⟩
 ·exact ⟨fun j=>⟨fun h=>absurd h Fk,fun ⟨a,ha,_⟩=>absurd ha (zy a)⟩,fun j=>⟨fun h=>absurd h Fk,fun ⟨a,b,_,hb,_⟩=>absurd hb (zy b)⟩⟩
end
end Go.Proofs.YtgkhhfnhacibcaaGreatDoor
namespace Go.Proofs
open Go.Shelf
def Tryz.lays189_ren:Go.Shelf.Ren:=⟨fun | 189=>133 | 125=>135 | 257=>134 | 128=>145 | 129=>146 | 294=>136 | 295=>137 | 296=>138 | 297=>139 | 298=>140 | 299=>141 | 216=>142 | 300=>143 | 301=>144 | 328=>147 | 329=>148 | 330=>149 | 331=>150 | 332=>151 | 215=>152 | 343=>153 | n=>n,fun | 28=>22 | 3=>3 | 46=>41 | 0=>0 | 51=>149 | 53=>66 | 4=>4 | 183=>158 | 182=>157 | 131=>161 | 5=>5 | 9=>9 | 218=>163 | 222=>167 | 228=>169 | 229=>116 | n=>n,fun | n=>n⟩
theorem Tryz.lays189:Go.Proofs.Lays.n189 Tryz.prog Tryz.lays189_ren:={
 mixed:=by kernel_rfl
 f125:=Tryz.func135.trans (congrArg some (by kernel_rfl))
 f128:=Tryz.func145.trans (congrArg some (by kernel_rfl))
 f129:=Tryz.func146.trans (congrArg some (by kernel_rfl))
 f189:=Tryz.func133.trans (congrArg some (by kernel_rfl))
 f215:=Tryz.func152.trans (congrArg some (by kernel_rfl))
 f216:=Tryz.func142.trans (congrArg some (by kernel_rfl))
 f257:=Tryz.func134.trans (congrArg some (by kernel_rfl))
 f294:=Tryz.func136.trans (congrArg some (by kernel_rfl))
 f295:=Tryz.func137.trans (congrArg some (by kernel_rfl))
 f296:=Tryz.func138.trans (congrArg some (by kernel_rfl))
 f297:=Tryz.func139.trans (congrArg some (by kernel_rfl))
 f298:=Tryz.func140.trans (congrArg some (by kernel_rfl))
 f299:=Tryz.func141.trans (congrArg some (by kernel_rfl))
 f300:=Tryz.func143.trans (congrArg some (by kernel_rfl))
 f301:=Tryz.func144.trans (congrArg some (by kernel_rfl))
 f328:=Tryz.func147.trans (congrArg some (by kernel_rfl))
 f329:=Tryz.func148.trans (congrArg some (by kernel_rfl))
 f330:=Tryz.func149.trans (congrArg some (by kernel_rfl))
 f331:=Tryz.func150.trans (congrArg some (by kernel_rfl))
 f332:=Tryz.func151.trans (congrArg some (by kernel_rfl))
 f343:=Tryz.func153.trans (congrArg some (by kernel_rfl))
 t0:=Tryz.underlying0
 a0:=Tryz.isAgg0
 z0:=Tryz.sizeOf0
 v0:=Tryz.zeroValue0
 t3:=Tryz.underlying3
 a3:=Tryz.isAgg3
 z3:=Tryz.sizeOf3
 v3:=Tryz.zeroValue3
 t4:=Tryz.underlying4
 a4:=Tryz.isAgg4
 z4:=Tryz.sizeOf4
 v4:=Tryz.zeroValue4
 t5:=Tryz.underlying5
 a5:=Tryz.isAgg5
 z5:=Tryz.sizeOf5
 v5:=Tryz.zeroValue5
 t9:=Tryz.underlying9
 a9:=Tryz.isAgg9
 z9:=Tryz.sizeOf9
 v9:=Tryz.zeroValue9
 t28:=Tryz.underlying22
 a28:=Tryz.isAgg22
 z28:=Tryz.sizeOf22
 v28:=Tryz.zeroValue22
 t46:=Tryz.underlying41
 a46:=Tryz.isAgg41
 z46:=Tryz.sizeOf41
 v46:=Tryz.zeroValue41
 t51:=Tryz.underlying149
 a51:=Tryz.isAgg149
 z51:=Tryz.sizeOf149
 v51:=Tryz.zeroValue149
 t53:=Tryz.underlying66
 a53:=Tryz.isAgg66
 z53:=Tryz.sizeOf66
 v53:=Tryz.zeroValue66
 t131:=Tryz.underlying161
 a131:=Tryz.isAgg161
 z131:=Tryz.sizeOf161
 v131:=Tryz.zeroValue161
 t182:=Tryz.underlying157
 a182:=Tryz.isAgg157
 z182:=Tryz.sizeOf157
 v182:=Tryz.zeroValue157
 t183:=Tryz.underlying158
 a183:=Tryz.isAgg158
 z183:=Tryz.sizeOf158
 v183:=Tryz.zeroValue158
 t218:=Tryz.underlying163
 a218:=Tryz.isAgg163
 z218:=Tryz.sizeOf163
 v218:=Tryz.zeroValue163
 t222:=Tryz.underlying167
 a222:=Tryz.isAgg167
 z222:=Tryz.sizeOf167
 v222:=Tryz.zeroValue167
 t228:=Tryz.underlying169
 a228:=Tryz.isAgg169
 z228:=Tryz.sizeOf169
 v228:=Tryz.zeroValue169
 t229:=Tryz.underlying116
 a229:=Tryz.isAgg116
 z229:=Tryz.sizeOf116
 v229:=Tryz.zeroValue116 }
open Go.Sort Go.RowKit in
theorem Tryz.slices_Sort_int (blk off cap:Nat) (zs:List Int) (w:World) (hH:Holds (Value.int .i64) w blk off zs.toArray) (ZW:blk<w.heap.size) (Am:zs.length<4611686018427387904):
 Calls Tryz.prog 133 #[.slice (some ⟨blk,off,none⟩) zs.length cap] w fun e w'=>
  e= .returned (.tuple #[])/\ ∃ n os,w'=grow (putRow (Value.int .i64) (Sort.ahead w n) blk off (zs.mergeSort fun x y=>decide (x<=y)).toArray) os:=Any.slices_Sort_int Tryz.lays189 blk off cap zs w hH ZW Am
end Go.Proofs
namespace Go.Proofs.YtgkhhfnhacibcaaGreatDoor
open Go.RowKit
def OC (a:Int):List Int -> List Int
 | []=>[a]
 | b::l=>if a<=b then a::b::l else b::OC a l
def GZ:List Int -> List Int
 | []=>[]
 | a::l=>OC a (GZ l)
theorem YL (a:Int): ∀ l:List Int,(OC a l).Perm (a::l)
 | []=>zCO _
 | b::l=>by
  unfold OC;split
  ·exact zCO _
  ·exact ((YL a l).cons b).trans (List.Perm.swap a b l)
theorem TI: ∀ l:List Int,(GZ l).Perm l
 | []=>zCO _
 | a::l=>(YL a _).trans ((TI l).cons a)
theorem gC (a:Int): ∀ l:List Int,l.Pairwise (· <= ·) -> (OC a l).Pairwise (· <= ·)
 | [],_=>List.pairwise_singleton _ _
 | b::l,h=>by
  have h':=List.pairwise_cons.1 h;unfold OC;split
  ·rename_i GN;refine List.pairwise_cons.2 ⟨fun x hx=>?_,h⟩;rcases z8.1 hx with rfl | hx
   ·exact GN
   ·exact Int.le_trans GN (h'.1 x hx)
  ·rename_i GN;refine List.pairwise_cons.2 ⟨fun x hx=>?_,gC a l h'.2⟩;rcases z8.1 ((YL a l).mem_iff.1 hx) with rfl | hx
   ·omega
   ·exact h'.1 x hx
theorem cT: ∀ l:List Int,(GZ l).Pairwise (· <= ·)
 | []=>List.Pairwise.nil
 | a::l=>gC a _ (cT l)
theorem mS (l:List Int):(l.mergeSort fun x y=>decide (x<=y))=GZ l:=by
 refine List.Perm.eq_of_pairwise (le:=(· <= ·)) (fun a b _ _ h1 h2=>Int.le_antisymm h1 h2) ?_ (cT l) ((List.mergeSort_perm l _).trans (TI l).symm);have:=List.pairwise_mergeSort (le:=fun x y:Int=>decide (x<=y)) (fun a b c h1 h2=>by simp at h1 h2 ⊢;omega) (fun a b=>by simp;omega) l;exact this.imp fun h=>by simpa using h
theorem Pn (l:List Int):(GZ l).length=l.length:=(TI l).length_eq
theorem vt {w:World} {b o:Nat} {l l':List Int} {cs:Array Value} {t:TypeId} {z:Nat×Nat} (h:w.heap[b]? =some (.cells cs t z)) (hl:l.length=l'.length) (n:Nat) (os:Array Obj):
 ∃ Dq,(Sort.grow (Sort.putRow (Value.int .i64) (Sort.ahead w n) b o l'.toArray) os).heap[b]? =some (.cells Dq t z)/\ Dq.size=cs.size/\ ∀ j,j<l.length -> o+j<cs.size -> Dq[o+j]? =some (.int .i64 (l'.getD j 0)):=by
 have hb:b<w.heap.size:=(zj.1 h).1;refine ⟨Sort.putCells (Value.int .i64) o l'.toArray cs,?_,by simp [Sort.putCells],fun j hj hs=>?_⟩
 ·simp only [Sort.grow,Sort.putRow,Sort.mapBlock,Sort.ahead];rw [zBL (by simpa using hb),zBb,zi rfl,h];rfl
 ·simp only [Sort.putCells,Array.getElem?_mapIdx];rw [zAV hs];simp only [zAR];rw [zi ⟨by omega,by simp;omega⟩];have:o+j-o=j:=by omega
  rw [this];have BH:j<l'.length:=by omega
  simp [BH,u8]
theorem lP {w:World} {b o:Nat} (hb:b<w.heap.size) (d:Array Int) (n:Nat) (os:Array Obj):AN (fun k=>k=b) w (Sort.grow (Sort.putRow (Value.int .i64) (Sort.ahead w n) b o d) os):=by
 refine ⟨rfl,rfl,rfl,by simp [Sort.ahead],fun k hk AQ=>?_⟩;simp only [Sort.grow,Sort.putRow,Sort.mapBlock,Sort.ahead];rw [zBL (by simpa using hk),zBb,zr (fun e=>AQ e.symm)]
theorem mR (l:List Int) {n:Nat} (hn:n=l.length) (vQ:l.length<=A6):ES Tryz.prog GG 133 [.msl 0 1 0 n] [some (.ints l)] (.tup 0 fun j=>([]:List DV).getD j .any) [some (.ints (GZ l))] false:=by
 subst hn;refine ⟨⟨_,Tryz.func133,by decide,rfl⟩,fun N ρ w args HR B9=>?_⟩;obtain ⟨p,hp,Cx⟩:=HR.obj 0 _ rfl;have Cx:AU w p l.length fun j u=>u= .int .i64 (l.getD j 0):=Cx
 have h0:=B9.2 0 (by simp);obtain ⟨p',cap,Av,hv,K0,OT,Ux⟩:=h0;have ep:p'=p:=zo (Av.symm.trans hp);subst ep;have Am:args.size=1:=by have:=B9.1;simpa using this.symm
 have ha:args= #[.slice (some ⟨p'.blk,p'.off,none⟩) l.length cap]:=by
  apply Array.ext
  ·simp [Am]
  ·intro i h1 h2;have:i=0:=by omega
   subst this;have e:args.getD 0 undef=args[0]:=by simp [Array.getD,Am]
   rw [e] at hv;rw [hv];simp
 have hH:Sort.Holds (Value.int .i64) w p'.blk p'.off l.toArray:=fun j hj=>by
  have hj:j<l.length:=by simpa using hj
  obtain ⟨u,c1,c2⟩:=Cx.cell hj;refine ⟨by rw [c1,c2];simp [hj,u8],Cx.frozen _⟩
 obtain ⟨Ef,cs,t,C5,CK,Ks,_⟩:=Cx;have hb:p'.blk<w.heap.size:=(zj.1 C5).1;subst ha;refine (Tryz.slices_Sort_int p'.blk p'.off cap l w hH hb (by unfold A6 at vQ;omega)).mono ?_;rintro e w' ⟨rfl,m,os,rfl⟩;rw [mS];obtain ⟨Dq,k1,k2,k3⟩:=vt (o:=p'.off) C5 (Pn l).symm m os;have hu:AN p'.foot w (Sort.grow (Sort.putRow (Value.int .i64) (Sort.ahead w m) p'.blk p'.off (GZ l).toArray) os):=by rw [Ef];exact lP (o:=p'.off) hb (GZ l).toArray m os
 show ∃ v,Ending.returned (.tuple #[])=Ending.returned v/\ DM Tryz.prog GG N _ ρ w false _ _ v (Sort.grow (Sort.putRow (Value.int .i64) (Sort.ahead w m) p'.blk p'.off (GZ l).toArray) os)
 refine ⟨_,rfl,⟨⟨ρ,HR.write (o':=.ints (GZ l)) rfl hp hu (fun b hb=>?_) ?_,⟨#[],rfl,rfl,fun j hj=>absurd hj (zy j)⟩,A9.write rfl hp hu,fun _ _ h=>h⟩,fun h=>by cases h⟩⟩
 ·rw [Ef] at hb;exact .cells (c:=Dq) (t:=t) (z:=(0,0)) (by rw [show b=p'.blk from hb];exact k1)
 ·refine ⟨Ef,Dq,t,k1,by rw [k2,Pn];exact CK,by rw [k2];exact Ks,fun j hj=>?_⟩;rw [Pn] at hj;exact ⟨_,k3 j hj (by omega),rfl⟩
end Go.Proofs.YtgkhhfnhacibcaaGreatDoor
namespace Go.Proofs.YtgkhhfnhacibcaaGreatDoor
open Go.RowKit
set_option maxRecDepth 100000
set_option maxHeartbeats 40000000
inductive J3 where
 | s0
 | s1 (JO:Nat) (HD:List Int)
def kM:J3 -> DH
 | .s0=>[none,some (.cells [.nils])]
 | .s1 JO HD=>[none,some (.cells [.msl 2 1 0 JO]),some (.ints HD)]
def V5 (n:Nat) (e6:Int):Option J3:=
 if (0=0/\ 1=([e6]:List Int).length)/\ 0<([e6]:List Int).length/\ ([e6]:List Int).length<=A6 then
  some (.s1 (([e6]:List Int).length) ([e6]:List Int))
 else none
def V4 (n:Nat) (e6:Int) (JO:Nat) (HD:List Int):Option J3:=
 if (0=0/\ 1=([e6]:List Int).length)/\ (0=0/\ JO=HD.length)/\ HD.length+([e6]:List Int).length<=A6 then
  some (.s1 (HD.length+([e6]:List Int).length) (HD++([e6]:List Int)))
 else none
def aS (n:Nat) (e6:Int):J3 -> Option J3
 | .s0=>V5 n e6
 | .s1 JO HD=>V4 n e6 JO HD
def IT (n:Nat) (e6:Int) (s:J3):Option J3:=aS n e6 s
theorem zB (n:Nat) (l B:Nat) (N:Yd 2) (e6:Int) (s:J3) (r:J3) (h:IT n e6 s=some r):TA l B N (DL 2 [] 0 (kM r)) Tryz.f113 6 ⟨AL 13 [(2,.ref 1 0),(6,.it 0),(7,.i e6)],kM s⟩:=by
 cases s with
 | s0=>
  replace h:V5 n e6=some r:=h;unfold V5 at h;refine ag AE [0,1] H0 (AL 13 [(2,.ref 1 0),(5,.i e6)]) [none,some (.cells [.nils])] fun N=>?_
  revert r;apply gO;exact gi (jt (lF fun p=>rr AE [0,1,3] rfl p))
 | s1 JO HD=>
  replace h:V4 n e6 JO HD=some r:=h;unfold V4 at h;refine ag AE [0,1,2] H0 (AL 13 [(2,.ref 1 0),(5,.i e6)]) [none,some (.cells [.msl 2 1 0 JO]),some (.ints HD)] fun N=>?_
  revert r;apply gO;exact gi (jt (lF fun p=>rr AE [0,1,4] rfl p))
def aR (n:Nat) (l:List Int):Option ((List Int)):=
 (By (IT n) l (.s0)).bind fun y1=>
  match y1 with
  | .s0=>
   none
  | .s1 WG WF=>
   if WG=WF.length then
    some WF
   else none
def Sl (n:Nat) (l:List Int):Option ((List Int)):=aR n l
theorem zA {n:Nat} {l:List Int} {r:(List Int)} (h:Sl n l=some r):EQ 113 [.nils,.it 0] [some (.iter ((l).map Br))] (.msl 1 1 0 r.length) [none,some (.ints r)] false:=by
 unfold Sl aR at h;refine ot Tryz.func113 fun B N=>?_
 revert r;apply gO
 exact cn fun y1 A5=>fun p r h=>by
  refine gs AE [0,1] p (Gn (Aa Tryz.f113) 6 []) (AL 13 [(2,.ref 1 0),(6,.it 0)]) [some (.iter ((l).map Br)),some (.cells [.nils])] ?_;refine r0 0 6 #[7] Br 2 A5 (zB n) ?_;cases y1 with
  | s0=>
   dsimp only at h
   revert r;apply gO;exact nO
  | s1 WG WF=>
   dsimp only at h
   revert r;apply gO;exact gn fun g0=>lF fun p=>el AE [4] [0,2] p [] H0 [.msl 1 1 0 WG] (AM.mslN g0)
def Z8 (n:Nat) (l:List Int):Option ((List Int)):=
 (Sl n l).bind fun y1=>
  some y1
def Vq (n:Nat) (l:List Int):Option ((List Int)):=Z8 n l
theorem yN {n:Nat} {l:List Int} {r:(List Int)} (h:Vq n l=some r):EQ 86 [.it 0] [some (.iter ((l).map Br))] (.msl 1 1 0 r.length) [none,some (.ints r)] false:=by
 unfold Vq Z8 at h;refine ot Tryz.func86 fun B N=>?_
 revert r;apply gO;exact ce zA [0] [some (.iter ((l).map Br))] fun y1=>lF fun p=>el AE [2] [0,1] p [] H0 [.msl 1 1 0 y1.length] (AM.mslN rfl)
def Wo (n:Nat) (l:List Int):Option ((List Int)):=
 (Vq n l).bind fun y1=>
  if y1.length<=A6 then
   if y1.length=(GZ y1).length then
    some (GZ y1)
   else none
  else none
def Lh (n:Nat) (l:List Int):Option ((List Int)):=Wo n l
theorem mP {n:Nat} {l:List Int} {r:(List Int)} (h:Lh n l=some r):EQ 131 [.it 0] [some (.iter ((l).map Br))] (.msl 1 1 0 r.length) [none,some (.ints r)] false:=by
 unfold Lh Wo at h;refine ot Tryz.func131 fun B N=>?_
 revert r;apply gO;exact ce yN [0] [some (.iter ((l).map Br))] fun y1=>gn fun g0=>jc (em (mR y1 (n:=y1.length) (Eq.refl y1.length) g0) [1] [none,some (.ints y1)]) (gn fun g1=>lF fun p=>el AE [2] [0,1] p [] H0 [.msl 1 1 0 y1.length] (AM.mslN g1))
def ji (n:Nat) (g_:List (List Int)) (Ad:List Bool) (start:Int):Option ((List Int)×Int):=
 (K2 n g_ ([Ad]:List (List Bool))).bind fun y1=>
  bif (y1 != 0) then
   some (([]:List Int),y1)
  else
   bif (decide (start<0)) then
    some (([]:List Int),1)
   else
    bif (decide (start>=(g_.length:Int))) then
     some (([]:List Int),1)
    else
     if 0<=start/\ start<(Ad.length:Int) then
      bif (!(Ad.getD ((start).toNat) false)) then
       some (([]:List Int),1)
      else
       (Fm n g_ start Ad).bind fun y2=>
        (Lh n y2).bind fun y3=>
         some (y3,0)
     else none
def O5 (n:Nat) (g_:List (List Int)) (Ad:List Bool) (start:Int):Option ((List Int)×Int):=ji n g_ Ad start
theorem yL {n:Nat} {g_:List (List Int)} {Ad:List Bool} {start:Int} {r:(List Int)×Int} (h:O5 n g_ Ad start=some r):EQ 123 [.sl 1 g_.length (Aw BF g_),.bools Ad,.i start] [] (.tup 2 (L1 [.ints r.1,.i r.2])) [] true:=by
 refine ot Tryz.func123 fun B N=>?_
 revert r;apply gO;exact ja 10 0 1 (W8 (c:=Vy) (L:=([Ad]:List (List Bool))) (vals:=[.bools Ad]) rfl ⟨⟨_,rfl,⟨BM,trivial⟩⟩,trivial⟩) (jz 10 0 (jg (Eq.refl 1) (cf il [none] fun y1=>bi 13 (lF fun p=>el AE [6,7] [] p [] H0 [.nils,.i y1] (AM.tupL (l:=[.nils,.i y1]) (l':=[.ints ([]:List Int),.i y1]) rfl ⟨AM.ints_nil,BM,trivial⟩)) (bi 16 (lF fun p=>el AE [6,7] [] p [] H0 [.nils,.i 1] (AM.tupL (l:=[.nils,.i 1]) (l':=[.ints ([]:List Int),.i 1]) rfl ⟨AM.ints_nil,BM,trivial⟩)) (bi 21 (lF fun p=>el AE [6,7] [] p [] H0 [.nils,.i 1] (AM.tupL (l:=[.nils,.i 1]) (l':=[.ints ([]:List Int),.i 1]) rfl ⟨AM.ints_nil,BM,trivial⟩)) (gi (bi 28 (lF fun p=>el AE [6,7] [] p [] H0 [.nils,.i 1] (AM.tupL (l:=[.nils,.i 1]) (l':=[.ints ([]:List Int),.i 1]) rfl ⟨AM.ints_nil,BM,trivial⟩)) (cn fun y2 CQ=>jc (XF CQ [none]) (ce mP [1] [none,some (.iter ((y2).map Br))] fun y3=>lF fun p=>ez AE [6,7] [2] p [0] (H0.g (Eq.refl y3.length)))))))))))
def b6:ST:=.rd 0 (.rd 1 (.ef 2 (.ef 3 (.fin [] [4,5]) (.no)) (.no)))
theorem nA:B6 (A8 Tryz.f126 11) [2] b6:=by unfold B6;kernel_rfl
def KN:BV:=fun i=>match i with
 | 11=>.tre [2] b6
 | _=>.no
def uq (g_:List (List Int)) (B5:Int) (y1 o1:List Int):DH:=[some (.cells [.msl 3 1 0 g_.length]),some (.cells [.i (B5+1)]),some (.iter ((y1).map Br)),some (.ints o1)]
def bZ (g_:List (List Int)) (o1:List Int) (B5:Int):St:=⟨(AL 42 [(4,.ref 0 0),(5,.ref 2 0)]),([some (.cells [.msl 1 1 0 g_.length]),some (.ints o1),some (.cells [.i B5])]:DH)⟩
inductive Ke where
 | s0 (Ii:List Int)
def eB (g_:List (List Int)) (Ad:List Bool) (x13 B5:Int):Ke -> DH
 | .s0 Ii=>[some (.cells [.msl 3 1 0 g_.length]),some (.cells [.i (B5+1)]),none,some (.ints Ii)]
def T7 (n:Nat) (g_:List (List Int)) (Ad:List Bool) (x13 B5 Gm:Int) (Ii:List Int):Option Ke:=
 if (0<=Gm/\ Gm<(g_.length:Int))/\ 0+((Gm).toNat)<Ii.length then
  some (.s0 (Ii.set (0+((Gm).toNat)) (B5+1)))
 else none
def eA (n:Nat) (g_:List (List Int)) (Ad:List Bool) (x13 B5 Gm:Int):Ke -> Option Ke
 | .s0 Ii=>T7 n g_ Ad x13 B5 Gm Ii
def Ly (n:Nat) (g_:List (List Int)) (Ad:List Bool) (x13 B5 Gm:Int) (s:Ke):Option Ke:=eA n g_ Ad x13 B5 Gm s
theorem p5 (n:Nat) (g_:List (List Int)) (Ad:List Bool) (x13 B5:Int) (l B:Nat) (N:Yd 3) (Gm:Int) (s:Ke) (r:Ke) (h:Ly n g_ Ad x13 B5 Gm s=some r):TA l B N (DL 3 [] 0 (eB g_ Ad x13 B5 r)) Tryz.f126 33 ⟨AL 42 [(0,.sl 1 g_.length (Aw BF g_)),(1,.bools Ad),(4,.ref 0 0),(5,.ref 1 0),(12,.i (g_.length:Int)),(13,.i x13),(33,.it 2),(34,.i Gm)],eB g_ Ad x13 B5 s⟩:=by
 cases s with
 | s0 Ii=>
  replace h:T7 n g_ Ad x13 B5 Gm Ii=some r:=h;unfold T7 at h;refine ag KN [0,1,2,3] H0 (AL 42 [(4,.ref 0 0),(5,.ref 1 0),(7,.i Gm)]) [some (.cells [.msl 3 1 0 g_.length]),some (.cells [.i (B5+1)]),none,some (.ints Ii)] fun N=>?_
  revert r;apply gO;exact gc (gi (gi (lF fun p=>rr KN [0,1,2,3] rfl p)))
inductive T8 where
 | l1 (x13:Int) (o1:List Int) (B5:Int)
def Qe (n:Nat) (self:T8 -> Option ((List Int)×Int)) (g_:List (List Int)) (Ad:List Bool) (x13:Int) (o1:List Int) (B5:Int):Option ((List Int)×Int):=
 bif (decide (x13<(g_.length:Int))) then
  if 0<=x13/\ x13<(Ad.length:Int) then
   bif (!(Ad.getD ((x13).toNat) false)) then
    if AH (x13+1) then
     self (.l1 (x13+1) o1 B5)
    else none
   else
    if (0<=x13/\ x13<(g_.length:Int))/\ 0+((x13).toNat)<o1.length then
     bif (decide ((o1.getD (0+((x13).toNat)) 0)>0)) then
      if AH (x13+1) then
       self (.l1 (x13+1) o1 B5)
      else none
     else
      if AH (B5+1) then
       (Fm n g_ x13 Ad).bind fun y1=>
        (By (Ly n g_ Ad x13 B5) y1 (.s0 o1)).bind fun y2=>
         match y2 with
         | .s0 J9=>
          if AH (x13+1) then
           self (.l1 (x13+1) J9 (B5+1))
          else none
      else none
    else none
  else none
 else
  if g_.length=o1.length then
   some (o1,B5)
  else none
def d9 (n:Nat) (self:T8 -> Option ((List Int)×Int)) (g_:List (List Int)) (Ad:List Bool):Option ((List Int)×Int):=
 if ((g_.length:Int):Int)=(g_.length:Int)/\ 0<=(g_.length:Int)/\ ((g_.length:Int):Int)<=1000000000000 then
  self (.l1 0 (List.replicate g_.length (0:Int)) 0)
 else none
def Np (g_:List (List Int)) (Ad:List Bool):Nat -> T8 -> Option ((List Int)×Int)
 | 0,_=>none
 | n+1,.l1 x13 o1 B5=>Qe n (Np g_ Ad n) g_ Ad x13 o1 B5
def parts (n:Nat) (g_:List (List Int)) (Ad:List Bool):Option ((List Int)×Int):=d9 n (Np g_ Ad n) g_ Ad
def p6 (n B:Nat) (N:Yd 0) (g_:List (List Int)) (Ad:List Bool) (r:(List Int)×Int):T8 -> Prop
 | .l1 x13 o1 B5=>∀ m0:Nat,n<=m0 -> TW B N (FQ Tryz.f126 0 (.tup 2 (L1 [.ints r.1,.i r.2])) []) (Ak m0 (Ap (Aa Tryz.f126) 0 [])) ⟨AL 42 [(0,.sl 1 g_.length (Aw BF g_)),(1,.bools Ad),(4,.ref 0 0),(5,.ref 2 0),(12,.i (g_.length:Int)),(13,.i x13)],[some (.cells [.msl 1 1 0 g_.length]),some (.ints o1),some (.cells [.i B5])]⟩
theorem p7 (B:Nat) (N:Yd 0) (g_:List (List Int)) (Ad:List Bool):Al (Np g_ Ad) (p6 · B N g_ Ad):=ia (fun _=>rfl) fun n AF pt r h=>by
 cases pt
 case l1 x13 o1 B5=>
  intro m0 AC;refine rd AC fun m0 AC=>?_
  revert r;apply gO
  exact bi 14 (gi (bi 20 (gw 39 (lG KN [0,1,2] (AF _ _ · m0 AC))) (gc (gi (gi (bi 26 (gw 39 (lG KN [0,1,2] (AF _ _ · m0 AC))) (gw 29 (jt (cn fun y1 A5=>jc (XF A5 [some (.cells [.msl 1 1 0 g_.length]),some (.ints o1),some (.cells [.i (B5+1)])]) (cn fun y2 CQ=>fun p r h=>by
   refine gs KN [0,2,3,1] p (Gn (Aa Tryz.f126) 33 [m0]) (AL 42 [(0,.sl 1 g_.length (Aw BF g_)),(1,.bools Ad),(4,.ref 0 0),(5,.ref 1 0),(12,.i (g_.length:Int)),(13,.i x13),(33,.it 2)]) (uq g_ B5 y1 o1) ?_;refine r0 2 33 #[34] Br 3 CQ (p5 n g_ Ad x13 B5) ?_;cases y2 with
   | s0 J9=>
    dsimp only at h
    revert r;apply gO;exact gw 39 (lG KN [0,3,1] (AF _ _ · m0 AC)))))))))))) (jg nA (jt (jt (jg (Eq.refl (bZ g_ o1 B5)) (gn fun g0=>lF fun p=>ez (tg:=[([(2,0)],(bZ g_ o1 B5))]) KN [4,5] [0,1,2] p [1] (H0.g g0))))))
theorem py {n:Nat} {g_:List (List Int)} {Ad:List Bool} {r:(List Int)×Int} (h:parts n g_ Ad=some r):EQ 126 [.sl 1 g_.length (Aw BF g_),.bools Ad] [] (.tup 2 (L1 [.ints r.1,.i r.2])) [] true:=by
 refine ot Tryz.func126 fun B N=>?_
 revert r;apply gO;exact gi (jt (lN KN [0,2,1] ((p7 B N g_ Ad n) _ _ · n Nat.le.refl)))
end Go.Proofs.YtgkhhfnhacibcaaGreatDoor
namespace Go.Proofs.YtgkhhfnhacibcaaGreatDoor
open Go.RowKit
set_option maxRecDepth 100000
set_option maxHeartbeats 40000000
def WJ (n:Nat) (n_:Int) (inn:List Bool):Option ((List Bool)):=
 (M3 n inn).bind fun y1=>
  if (0<=n_/\ n_<(y1.length:Int))/\ 0+((n_).toNat)<y1.length then
   if y1.length=(y1.set (0+((n_).toNat)) false).length then
    some (y1.set (0+((n_).toNat)) false)
   else none
  else none
def PP (n:Nat) (n_:Int) (inn:List Bool):Option ((List Bool)):=WJ n n_ inn
theorem lB {n:Nat} {n_:Int} {inn:List Bool} {r:(List Bool)} (h:PP n n_ inn=some r):EQ 125 [.i n_,.fp 1 (L1 [.bools inn])] [] (.msl 0 1 0 r.length) [some (.bools r)] true:=by
 unfold PP WJ at h;refine ot Tryz.func125 fun B N=>?_
 revert r;apply gO;exact cn fun y1 A5=>jc (ES.snapNew (ds:=[.bools inn]) (jq A5) [] (aX (by kernel_rfl)) rfl) (gc (gi (gi (gn fun g2=>lF fun p=>el AE [3] [0] p [] H0 [.msl 0 1 0 y1.length] (AM.mslN g2)))))
theorem ml:An (A8 Tryz.f109 16) [] (List.range 7) []:=by unfold An;kernel_rfl
def Ga:BV:=fun i=>match i with
 | 16=>.ord [] (List.range 7) []
 | _=>.no
def ga (Ad Bu:List Bool) (Ba:Int):DH:=[some (.cells [.bools Ad]),some (.cells [.bools Bu]),some (.cells [.i Ba]),some (.cells [.bool false]),none]
def uE (Ad Bu:List Bool) (Ba:Int):DH:=[some (.cells [.bools Ad]),some (.cells [.bools Bu]),some (.cells [.i Ba]),some (.cells [.bool false]),none,none]
def uD (Ad Bu:List Bool) (Ba:Int) (y3:(List Int)×Int):DH:=[some (.cells [.bools Ad]),some (.cells [.bools Bu]),some (.cells [.i Ba]),some (.cells [.bool false]),none,none,some (.cells [.ints y3.1]),some (.cells [.i 0])]
def uC (Bu:List Bool) (Ba:Int) (y3:(List Int)×Int) (y4:List Int):DH:=[some (.cells [.bools Bu]),some (.cells [.i Ba]),some (.cells [.bool false]),some (.cells [.ints y3.1]),some (.cells [.i 0]),some (.iter ((y4).map Br))]
def uB (Bu:List Bool) (Ba:Int) (Gc:Bool) (y3:(List Int)×Int) (Fo:Int):DH:=[some (.cells [.bools Bu]),some (.cells [.i Ba]),some (.cells [.bool Gc]),some (.cells [.ints y3.1]),some (.cells [.i Fo]),none]
inductive KM where
 | s0 (Gc:Bool) (Fo:Int)
def cQ (Bu:List Bool) (Ba:Int) (y3:(List Int)×Int):KM -> DH
 | .s0 Gc Fo=>[some (.cells [.bools Bu]),some (.cells [.i Ba]),some (.cells [.bool Gc]),some (.cells [.ints y3.1]),some (.cells [.i Fo]),none]
def Pm (n:Nat) (Bu:List Bool) (Ba:Int) (y3:(List Int)×Int) (E2:Int) (Gc:Bool) (Fo:Int):Option (KM×Nat):=
 bif (E2==Ba) then
  some (.s0 Gc Fo,0)
 else
  if 0<=E2/\ E2<(Bu.length:Int) then
   bif (!(Bu.getD ((E2).toNat) false)) then
    some (.s0 Gc Fo,0)
   else
    bif (Fo==0) then
     if 0<=E2/\ E2<(y3.1.length:Int) then
      some (.s0 Gc (y3.1.getD ((E2).toNat) 0),0)
     else none
    else
     if 0<=E2/\ E2<(y3.1.length:Int) then
      bif ((y3.1.getD ((E2).toNat) 0) != Fo) then
       some (.s0 true Fo,1)
      else
       some (.s0 Gc Fo,0)
     else none
  else none
def mO (n:Nat) (Bu:List Bool) (Ba:Int) (y3:(List Int)×Int) (E2:Int):KM -> Option (KM×Nat)
 | .s0 Gc Fo=>Pm n Bu Ba y3 E2 Gc Fo
def G4 (n:Nat) (Bu:List Bool) (Ba:Int) (y3:(List Int)×Int) (E2:Int) (s:KM):Option (KM×Nat):=mO n Bu Ba y3 E2 s
theorem mN (n:Nat) (Bu:List Bool) (Ba:Int) (y3:(List Int)×Int) (l B:Nat) (N:Yd 6) (E2:Int) (s:KM) (r:KM×Nat) (h:G4 n Bu Ba y3 E2 s=some r):TA l B N (DL 6 [.exit 0] r.2 (cQ Bu Ba y3 r.1)) Tryz.f109 48 ⟨AL 76 [(6,.ref 0 0),(7,.ref 1 0),(8,.ref 2 0),(11,.ref 3 0),(13,.ref 4 0),(48,.it 5),(49,.i E2)],cQ Bu Ba y3 s⟩:=by
 cases s with
 | s0 Gc Fo=>
  refine ag Ga [0,1,2,3,4,5] H0 (AL 76 [(6,.ref 0 0),(7,.ref 1 0),(8,.ref 2 0),(11,.ref 3 0),(13,.ref 4 0),(14,.i E2)]) (uB Bu Ba Gc y3 Fo) fun N=>?_
  revert r;apply gO;exact bi 53 (lF fun p=>rr Ga [0,1,2,3,4,5] rfl p) (gi (bi 59 (lF fun p=>rr Ga [0,1,2,3,4,5] rfl p) (bi 63 (gi (jt (lF fun p=>rr Ga [0,1,2,3,4,5] rfl p))) (jg ml (gi (bi 74 (jt (lF fun p=>rr Ga [0,1,2,3,4,5] rfl p)) (lF fun p=>rr Ga [0,1,2,3,4,5] rfl p)))))))
def cP (n:Nat) (g_:List (List Int)) (Ad Bu:List Bool) (Ba:Int):Option (Bool×Int):=
 (K2 n g_ ([Ad,Bu]:List (List Bool))).bind fun y1=>
  bif (y1 != 0) then
   some (false,y1)
  else
   bif (decide (Ba<0)) then
    some (false,1)
   else
    bif (decide (Ba>=(g_.length:Int))) then
     some (false,1)
    else
     if 0<=Ba/\ Ba<(Ad.length:Int) then
      bif (!(Ad.getD ((Ba).toNat) false)) then
       some (false,0)
      else
       (PP n Ba Ad).bind fun y2=>
        (parts n g_ y2).bind fun y3=>
         (Fm n g_ Ba Ad).bind fun y4=>
          (EV (G4 n Bu Ba y3) y4 (.s0 false 0)).bind fun y5=>
           bif y5.2==0 then
            match y5.1 with
            | .s0 PN WE=>
             some (PN,0)
           else
            bif y5.2==1 then
             match y5.1 with
             | .s0 PN WE=>
              some (PN,0)
            else
             none
     else none
def Lf (n:Nat) (g_:List (List Int)) (Ad Bu:List Bool) (Ba:Int):Option (Bool×Int):=cP n g_ Ad Bu Ba
theorem mL {n:Nat} {g_:List (List Int)} {Ad Bu:List Bool} {Ba:Int} {r:Bool×Int} (h:Lf n g_ Ad Bu Ba=some r):EQ 109 [.sl 1 g_.length (Aw BF g_),.bools Ad,.bools Bu,.i Ba] [] (.tup 2 (L1 [.bool r.1,.i r.2])) [] true:=by
 refine ot Tryz.func109 fun B N=>?_
 revert r;apply gO
 exact ja 18 4 1 (W8 (c:=Vy) (L:=([Ad,Bu]:List (List Bool))) (vals:=[.bools Ad,.bools Bu]) rfl ⟨⟨_,rfl,⟨BM,trivial⟩⟩,⟨_,rfl,⟨BM,trivial⟩⟩,trivial⟩) (jz 18 4 (jg (Eq.refl 2) (cf il (ga Ad Bu Ba) fun _=>bi 21 (jt (lE Ga [8,9] [3])) (bi 24 (jt (lE Ga [8,9] [3])) (bi 29 (jt (lE Ga [8,9] [3])) (gi (bi 35 (jt (lE Ga [8,9] [3])) (cn fun y2 CQ=>jc (ES.snapNew (ds:=[.i Ba,.ref 0 0]) (lB CQ) (ga Ad Bu Ba) ⟨Ae.plain (by kernel_rfl),(Ae.refL (l:=[.bools Ad]) (l0:=[.bools Ad]) rfl ⟨Ae.plain (by kernel_rfl),trivial⟩),trivial⟩ rfl) (jz 41 5 (jg (Eq.refl y2.length) (cf py (uE Ad Bu Ba) fun y3=>jt (jt (cn fun y4 RG=>jc (XF RG (uD Ad Bu Ba y3)) (cn fun y5 RF=>fun p r h=>by
  refine gs Ga [1,2,3,6,7,8] p (Gn (Aa Tryz.f109) 48 []) (AL 76 [(6,.ref 0 0),(7,.ref 1 0),(8,.ref 2 0),(11,.ref 3 0),(13,.ref 4 0),(48,.it 5)]) (uC Bu Ba y3 y4) ?_;refine rx [.exit 0] 5 48 #[49] Br 6 RF (mN n Bu Ba y3) fun e he=>?_
  replace h:=J1 h;rcases h with ⟨PM,h⟩ | ⟨PM,h⟩
  ·rw [eq_of_beq PM] at he;cases he;revert h;cases y5.1 with
   | s0 PN WE=>
    intro h
    dsimp only at h
    revert r;apply gO;exact jt (lE Ga [8,9] [2])
  ·replace h:=J1 h;rcases h with ⟨PM,h⟩ | ⟨PM,h⟩
   ·rw [eq_of_beq PM] at he;cases he;refine DX.exitTo (by kernel_rfl) ?_;revert h;cases y5.1 with
    | s0 PN WE=>
     intro h
     dsimp only at h
     revert r;apply gO;exact jt (lE Ga [8,9] [2])
   ·cases h))))))))))))))
end Go.Proofs.YtgkhhfnhacibcaaGreatDoor
namespace Go.Proofs.YtgkhhfnhacibcaaGreatDoor
open Go.RowKit
theorem Ac.bindU {R T:Type} {a:Nat -> Option T} {b:Nat -> T -> Option R} {A:T -> Prop} {Q:R -> Prop} (ha:Ac a A) (hb: ∃ M,∀ n,M<=n -> ∀ x,A x -> ∃ r,b n x=some r/\ Q r):Ac (fun n=>(a n).bind (b n)) Q:=by
 obtain ⟨N,ha⟩:=ha;obtain ⟨M,hb⟩:=hb;refine ⟨max N M,fun n hn=>?_⟩;obtain ⟨x,h1,h2⟩:=ha n (by omega);obtain ⟨r,h3,h4⟩:=hb n (by omega) x h2;exact ⟨r,by show (a n).bind (b n)=_;rw [h1,zh];exact h3,h4⟩
structure NH (g:List (List Int)):Prop where
 ok:IE g=true
 row: ∀ r∈g,r.length<=LB
theorem NH.gr {g:List (List Int)} (h:NH g):Gr g:=Gr.of h.ok h.row
section
variable {g:List (List Int)} {inn some':List Bool} {s:Int}
theorem im {sets:List (List Bool)} (hs: ∀ x∈sets,x.length=g.length) (hl:sets.length<=256): ∀ (k i n:Nat),i+k=sets.length -> k+1<=n -> Ob g sets n (.l1 (i:Int))=some 0
 | 0,i,n,e,hn=>by
  obtain ⟨n,rfl⟩: ∃ k,n=k+1:=⟨n-1,by omega⟩
  show Rn n (Ob g sets n) g sets i=_
  unfold Rn;rw [ze (by omega),zg]
 | k+1,i,n,e,hn=>by
  obtain ⟨n,rfl⟩: ∃ k,n=k+1:=⟨n-1,by omega⟩;have hi:i<sets.length:=by omega
  have hm:sets.getD i []∈sets:=by rw [u8,zf hi];exact zAL hi
  have e2:(((sets.getD i []).length:Int) != (g.length:Int))=false:=by rw [hs _ hm];simp
  have:=im hs hl k (i+1) n (by omega) (by omega)
  show Rn n (Ob g sets n) g sets i=_
  unfold Rn;rw [zn (by omega),zk,zi ⟨by omega,by omega⟩,zl,e2,zg,zi (Aq.2 ⟨by omega,by omega⟩)];exact this
theorem ip (G:NH g) {sets:List (List Bool)} (hs: ∀ x∈sets,x.length=g.length) (hl:sets.length<=256):Ev (fun n=>K2 n g sets) 0:=by
 refine ⟨2*En g+1+sets.length+1,fun n hn=>?_⟩
 show K2 n g sets=some 0
 unfold K2 io;rw [iy G.row (by omega),G.ok];exact im hs hl sets.length 0 n (by omega) (by omega)
theorem kN {n:Nat}: ∀ (l x:List Int),(x++l).length<=A6 -> By (IT n) l (.s1 x.length x)=some (.s1 (x++l).length (x++l))
 | [],x,h=>by rw [zA5];rfl
 | a::l,x,h=>by
  have e:x++a::l=x++[a]++l:=by simp
  rw [e] at h ⊢;have h2:x.length+1<=A6:=by simp only [zAO,zAH] at h;omega
  have e1:IT n a (.s1 x.length x)=some (.s1 (x++[a]).length (x++[a])):=by
   unfold IT aS V4
   dsimp only
   rw [zi ⟨⟨rfl,rfl⟩,⟨rfl,rfl⟩,by simpa using h2⟩,zAO]
  show (IT n a (.s1 x.length x)).bind (By (IT n) l)=_
  rw [e1,zh];exact kN l (x++[a]) h
theorem mQ {n:Nat} {l:List Int} (h0:l≠[]) (hl:l.length<=256):Lh n l=some (GZ l):=by
 have L:(1000000000000:Nat)=A6:=rfl;cases l with
 | nil=>exact absurd rfl h0
 | cons a l=>
  have e1:IT n a .s0=some (.s1 [a].length [a]):=by
   unfold IT aS V5
   dsimp only
   rw [zi ⟨⟨rfl,rfl⟩,by simp,by rw [←L];simp⟩]
  have e2:=kN (n:=n) l [a] (by rw [←L];simp only [List.singleton_append];omega)
  have e3:Sl n (a::l)=some (a::l):=by
   unfold Sl aR
   show ((IT n a .s0).bind (By (IT n) l)).bind _=_
   rw [e1,zh,e2,zh]
   dsimp only
   rw [zi rfl];rfl
  unfold Lh Wo Vq Z8;rw [e3,zh,zh,zi (by rw [←L];omega),zi (Pn _).symm]
theorem oz {l:List Int} (h: ∀ v,v∈l↔Rc g inn s v):l≠[]:=fun e=>by
 have:=(h s).2 .start;rw [e] at this;cases this
theorem o9 (G:Gr g) (h0:0<=s) (h1:s<(g.length:Int)) {l:List Int} (hn:l.Nodup) (h: ∀ v,v∈l↔Rc g inn s v):l.length<=256:=
 zt (Nv g.length l hn fun x hx=>((h x).1 hx).rng G h0 h1) G.len
theorem yM (G:NH g) (hI:inn.length=g.length) (h0:0<=s) (h1:s<(g.length:Int)) (hs:inn.getD s.toNat false=true):
 Ac (fun n=>O5 n g inn s) (fun r=>r.2=0/\ r.1.length<=256/\ ∀ v,v∈r.1↔Rc g inn s v):=by
 have e: ∀ n,O5 n g inn s=(K2 n g [inn]).bind fun y1=>bif (y1 != 0) then some (([]:List Int),y1) else (Fm n g s inn).bind fun y2=>(Lh n y2).bind fun y3=>some (y3,0):=fun n=>by
  unfold O5 ji
  congr 1
  funext y1
  rw [ze (by omega),zg,ze (by omega),zg,zi ⟨by omega,by omega⟩,hs,zAW,zg]
 refine Ac.eq ?_ e;refine Ac.bind (ip G (fun x hx=>by rw [zAB.1 hx];exact hI) (by simp)) ?_
 show Ac (fun n=>(Fm n g s inn).bind fun y2=>(Lh n y2).bind fun y3=>some (y3,0)) _
 refine Ac.bindU (XE G.gr hI h0 h1) ⟨0,fun n _ l hl=>?_⟩;have Af:=o9 G.gr h0 h1 hl.1 hl.2;rw [mQ (oz hl.2) Af,zh];exact ⟨_,rfl,rfl,by rw [Pn];exact Af,fun v=>by rw [(TI l).mem_iff];exact hl.2 v⟩
structure Pt (g:List (List Int)) (inn:List Bool) (i:Nat) (part:List Int) (D7:Int):Prop where
 len:part.length=g.length
 m0:0<=D7
 m1:D7<=(i:Int)
 lo: ∀ v,v<g.length -> 0<=part.getD v 0/\ part.getD v 0<=D7
 isIn: ∀ v,v<g.length -> 0<part.getD v 0 -> inn.getD v false=true
 same: ∀ u v:Nat,u<g.length -> v<g.length -> 0<part.getD u 0 -> Rc g inn u v -> part.getD v 0=part.getD u 0
 con: ∀ u v:Nat,u<g.length -> v<g.length -> 0<part.getD u 0 -> part.getD v 0=part.getD u 0 -> Rc g inn u v
 all: ∀ v,v<i -> v<g.length -> inn.getD v false=true -> 0<part.getD v 0
theorem eD {n:Nat} {x13 m:Int}: ∀ (l:List Int) (part:List Int),part.length=g.length -> (∀ v∈l,0<=v/\ v<(g.length:Int)) ->
 ∃ Gd,By (Ly n g inn x13 m) l (.s0 part)=some (.s0 Gd)/\ Gd.length=g.length/\ ∀ v:Nat,Gd.getD v 0=if (v:Int)∈l/\ v<g.length then m+1 else part.getD v 0
 | [],part,hp,_=>⟨part,rfl,hp,fun v=>by simp⟩
 | a::l,part,hp,hl=>by
  have ha:=hl a zAr
  have e1:Ly n g inn x13 m a (.s0 part)=some (.s0 (part.set a.toNat (m+1))):=by
   unfold Ly eA T7
   dsimp only
   rw [zi ⟨ha,by omega⟩,zAA]
  obtain ⟨Gd,h1,h2,h3⟩:=eD (n:=n) (x13:=x13) (m:=m) l (part.set a.toNat (m+1)) (by rw [zAK];exact hp) fun v hv=>hl v (zAY _ hv)
  refine ⟨Gd,?_,h2,fun v=>?_⟩
  ·show (Ly n g inn x13 m a (.s0 part)).bind (By (Ly n g inn x13 m) l)=_
   rw [e1,zh];exact h1
  ·rw [h3]
   by_cases hv:(v:Int)∈l/\ v<g.length
   ·rw [zi hv,zi ⟨zAY _ hv.1,hv.2⟩]
   ·rw [zr hv]
    by_cases e:(v:Int)=a
    ·subst e;rw [zi ⟨zAr,by omega⟩,zl,u8,zA4 (by omega)];rfl
    ·rw [zr (fun h=>by
      rcases z8.1 h.1 with h4 | h4
      ·exact e h4
      ·exact hv ⟨h4,h.2⟩),u8,zAu (by omega),←u8]
theorem Pt.go (G:Gr g) {i:Nat} {part Gd:List Int} {D7:Int} (h:Pt g inn i part D7) (hi:i<g.length) (B3:inn.getD i false=true) (h0: ¬ part.getD i 0>0) {l:List Int} (hl: ∀ v,v∈l↔Rc g inn i v) (Af:Gd.length=g.length)
 (hp: ∀ v:Nat,Gd.getD v 0=if (v:Int)∈l/\ v<g.length then D7+1 else part.getD v 0):Pt g inn (i+1) Gd (D7+1):=by
 have m0:=h.m0;have m1:=h.m1;have LV: ∀ v:Nat,v<g.length -> Rc g inn i v -> Gd.getD v 0=D7+1:=fun v hv hr=>by rw [hp,zi ⟨(hl v).2 hr,hv⟩]
 have no: ∀ v:Nat,¬ Rc g inn i v -> Gd.getD v 0=part.getD v 0:=fun v hr=>by rw [hp,zr (fun h=>hr ((hl v).1 h.1))]
 have sym: ∀ u v:Nat,u<g.length -> inn.getD u false=true -> Rc g inn u v -> Rc g inn v u:=fun u v hu tL hr=>hr.symm G (by omega) (by omega) (by rw [zl];exact tL)
 refine ⟨Af,by omega,by omega,fun v hv=>?_,fun v hv H6=>?_,fun u v hu hv H6 hr=>?_,fun u v hu hv H6 he=>?_,fun v hv FW CX=>?_⟩
 ·have:=h.lo v hv
  by_cases hr:Rc g inn i v
  ·rw [LV v hv hr];omega
  ·rw [no v hr];omega
 ·by_cases hr:Rc g inn i v
  ·have:=hr.isIn (by rw [zl];exact B3)
   rwa [zl] at this
  ·rw [no v hr] at H6;exact h.isIn v hv H6
 ·by_cases h1:Rc g inn i u
  ·rw [LV u hu h1,LV v hv (h1.trans hr)]
  ·rw [no u h1] at H6 ⊢;have h2: ¬ Rc g inn i v:=fun h2=>h1 (h2.trans (sym u v hu (h.isIn u hu H6) hr))
   rw [no v h2];exact h.same u v hu hv H6 hr
 ·have hb:=(h.lo v hv).2
  by_cases h1:Rc g inn i u
  ·rw [LV u hu h1] at he
   by_cases h2:Rc g inn i v
   ·exact (sym i u hi B3 h1).trans h2
   ·rw [no v h2] at he;omega
  ·rw [no u h1] at H6 he;have hb:=(h.lo u hu).2
   by_cases h2:Rc g inn i v
   ·rw [LV v hv h2] at he;omega
   ·rw [no v h2] at he;exact h.con u v hu hv H6 he
 ·rcases zz.1 hv with hv | rfl
  ·have:=h.all v hv FW CX
   by_cases hr:Rc g inn i v
   ·rw [LV v FW hr];omega
   ·rw [no v hr];exact this
  ·rw [LV v FW .start];omega
def zX (g:List (List Int)) (inn:List Bool) (r:List Int×Int):Prop:=r.1.length=g.length/\ (∀ v,v<g.length -> inn.getD v false=true -> 0<r.1.getD v 0)/\ ∀ u v:Nat,u<g.length -> v<g.length -> inn.getD u false=true -> (r.1.getD v 0=r.1.getD u 0↔Rc g inn u v)
theorem pz (G:Gr g) (hI:inn.length=g.length):Ac (fun n=>parts n g inn) (zX g inn):=by
 have hG:=G.len;obtain ⟨N,hN⟩:=Ac.range (F:=fun (i:Nat) n=>Fm n g i inn) (A:=fun i l=>l.Nodup/\ ∀ v,v∈l↔Rc g inn i v) g.length fun i hi=>XE G hI (by omega) (by omega)
 have hN: ∀ n,N<=n -> ∀ i:Nat,i<g.length -> ∃ l,Fm n g i inn=some l/\ l.Nodup/\ ∀ v,v∈l↔Rc g inn i v:=hN;refine ⟨N+g.length+1,fun n hn=>?_⟩;have S:=Gg (fun n (s:List Int×Int) i=>Np g inn n (.l1 i s.1 s.2)) g.length (N+1) (fun i s=>Pt g inn i s.1 s.2) (fun n i s FD hi hP=>?_) (n:=n) (s:=(List.replicate g.length 0,0)) (by omega) ?_
 ·obtain ⟨n1,⟨part,D7⟩,F0,_,e1,hP⟩:=S;obtain ⟨n2,rfl⟩: ∃ n2,n1=n2+1:=⟨n1-1,by omega⟩;refine ⟨(part,D7),?_,hP.len,fun v hv hi=>hP.all v hv hv hi,fun u v hu hv hi=>?_⟩
  ·show parts n g inn=some (part,D7)
   unfold parts d9;rw [zi ⟨rfl,by omega,by omega⟩];refine Eq.trans e1 ?_
   show Qe n2 (Np g inn n2) g inn (g.length:Int) part D7=_
   unfold Qe;rw [ze (by omega),zg,zi hP.len.symm]
  ·have BT:=hP.all u hu hu hi;exact ⟨hP.con u v hu hv BT,hP.same u v hu hv BT⟩
 ·obtain ⟨part,D7⟩:=s;have hP:Pt g inn i part D7:=hP;have r1:AH ((i:Int)+1):=Aq.2 ⟨by omega,by omega⟩
  show ∃ s',Qe n (Np g inn n) g inn (i:Int) part D7=_/\ _
  unfold Qe;simp only [zl,zAA];rw [zn (by omega),zk,zi ⟨by omega,by omega⟩];cases B3:inn.getD i false
  ·rw [zAZ,zk,zi r1];have m1:=hP.m1;refine ⟨(part,D7),rfl,hP.len,hP.m0,by show D7<=((i+1:Nat):Int);omega,hP.lo,hP.isIn,hP.same,hP.con,fun v hv FW CX=>?_⟩;rcases zz.1 hv with hv | rfl
   ·exact hP.all v hv FW CX
   ·rw [B3] at CX;cases CX
  ·have Af:=hP.len;rw [zAW,zg,zi ⟨⟨by omega,by omega⟩,by omega⟩]
   by_cases h0:part.getD i 0>0
   ·rw [zn h0,zk,zi r1];have m1:=hP.m1;refine ⟨(part,D7),rfl,hP.len,hP.m0,by show D7<=((i+1:Nat):Int);omega,hP.lo,hP.isIn,hP.same,hP.con,fun v hv FW CX=>?_⟩;rcases zz.1 hv with hv | rfl
    ·exact hP.all v hv FW CX
    ·exact h0
   ·obtain ⟨l,e2,Ay,hl⟩:=hN n (by omega) i hi;obtain ⟨Gd,e3,h3,h4⟩:=eD (n:=n) (inn:=inn) (x13:=(i:Int)) (m:=D7) l part hP.len fun v hv=>((hl v).1 hv).rng G (by omega) (by omega)
    have m0:=hP.m0;have m1:=hP.m1;rw [ze h0,zg,zi (Aq.2 ⟨by omega,by omega⟩),e2,zh,e3,zh]
    dsimp only
    rw [zi r1];exact ⟨(Gd,D7+1),rfl,hP.go G hi B3 h0 hl h3 h4⟩
 ·have z: ∀ v:Nat,(List.replicate g.length (0:Int)).getD v 0=0:=fun v=>by
   rw [u8,zAm];split <;> rfl
  exact ⟨by simp,zAo _,zAo _,fun v _=>by rw [z];exact ⟨zAo _,zAo _⟩,fun v _ h=>by rw [z] at h;omega,fun u v _ _ h=>by rw [z] at h;omega,fun u v _ _ h=>by rw [z] at h;omega,fun v hv=>absurd hv (zy v)⟩
def Sp (g:List (List Int)) (inn some':List Bool) (a:Int):Prop:=∃ u v:Int,u≠a/\ v≠a/\ some'.getD u.toNat false=true/\ some'.getD v.toNat false=true/\ Rc g inn a u/\ Rc g inn a v/\ ¬ Rc g (inn.set a.toNat false) u v
theorem cR {n:Nat} {a f:Int} {y3:List Int×Int} (hS:some'.length=g.length) (hy:y3.1.length=g.length) (hf:f≠0): ∀ (l:List Int),(∀ v∈l,0<=v/\ v<(g.length:Int)) ->
 ∃ b f' c,EV (G4 n some' a y3) l (.s0 false f)=some (.s0 b f',c)/\ (c=0∨c=1)/\ (b=true↔∃ v∈l,v≠a/\ some'.getD v.toNat false=true/\ y3.1.getD v.toNat 0≠f)
 | [],_=>⟨false,f,0,rfl,.inl rfl,by simp⟩
 | x::l,hl=>by
  have hx:=hl x zAr;obtain ⟨b,f',c,h1,h2,h3⟩:=cR (n:=n) (a:=a) hS hy hf l fun v hv=>hl v (zAY _ hv)
  have skip:G4 n some' a y3 x (.s0 false f)=some (.s0 false f,0) -> ¬ (x≠a/\ some'.getD x.toNat false=true/\ y3.1.getD x.toNat 0≠f) -> ∃ b f' c,EV (G4 n some' a y3) (x::l) (.s0 false f)=some (.s0 b f',c)/\ (c=0∨c=1)/\ (b=true↔∃ v∈x::l,v≠a/\ some'.getD v.toNat false=true/\ y3.1.getD v.toNat 0≠f):=by
   intro e hn;refine ⟨b,f',c,?_,h2,?_⟩
   ·unfold EV;rw [e,zh];exact h1
   ·rw [h3];constructor
    ·rintro ⟨v,hv,h⟩;exact ⟨v,zAY _ hv,h⟩
    ·rintro ⟨v,hv,h⟩;rcases z8.1 hv with rfl | hv
     ·exact absurd h hn
     ·exact ⟨v,hv,h⟩
  have f0:(f==0)=false:=zAk.2 hf;have U:G4 n some' a y3 x (.s0 false f)=Pm n some' a y3 x false f:=rfl;unfold Pm at U
  by_cases e1:x=a
  ·have:(x==a)=true:=zAQ.2 e1;rw [this,zk] at U;exact skip U fun h=>h.1 e1
  ·have:(x==a)=false:=zAk.2 e1;rw [this,zg,zi ⟨by omega,by omega⟩] at U;cases e2:some'.getD x.toNat false
   ·rw [e2,zAZ,zk] at U;exact skip U fun h=>by rw [e2] at h;cases h.2.1
   ·rw [e2,zAW,zg,f0,zg,zi ⟨by omega,by omega⟩] at U
    by_cases e3:y3.1.getD x.toNat 0=f
    ·have e4:(y3.1.getD x.toNat 0 != f)=false:=by rw [e3];simp
     rw [e4,zg] at U;exact skip U fun h=>h.2.2 e3
    ·have e4:(y3.1.getD x.toNat 0 != f)=true:=by simpa using e3
     rw [e4,zk] at U;refine ⟨true,f,1,?_,.inr rfl,?_⟩
     ·unfold EV;rw [U,zh];rfl
     ·exact ⟨fun _=>⟨x,zAr,e1,e2,e3⟩,fun _=>rfl⟩
theorem cS {n:Nat} {a:Int} {y3:List Int×Int} (hS:some'.length=g.length) (hy:y3.1.length=g.length): ∀ (l:List Int),(∀ v∈l,0<=v/\ v<(g.length:Int)) -> (∀ v∈l,v≠a -> y3.1.getD v.toNat 0≠0) ->
 ∃ b f' c,EV (G4 n some' a y3) l (.s0 false 0)=some (.s0 b f',c)/\ (c=0∨c=1)/\ (b=true↔∃ u∈l,∃ v∈l,u≠a/\ v≠a/\ some'.getD u.toNat false=true/\ some'.getD v.toNat false=true/\ y3.1.getD v.toNat 0≠y3.1.getD u.toNat 0)
 | [],_,_=>⟨false,0,0,rfl,.inl rfl,by simp⟩
 | x::l,hl,hz=>by
  have hx:=hl x zAr;have EA: ∀ v∈l,0<=v/\ v<(g.length:Int):=fun v hv=>hl v (zAY _ hv)
  have skip:G4 n some' a y3 x (.s0 false 0)=some (.s0 false 0,0) -> ¬ (x≠a/\ some'.getD x.toNat false=true) -> ∃ b f' c,EV (G4 n some' a y3) (x::l) (.s0 false 0)=some (.s0 b f',c)/\ (c=0∨c=1)/\ (b=true↔∃ u∈x::l,∃ v∈x::l,u≠a/\ v≠a/\ some'.getD u.toNat false=true/\ some'.getD v.toNat false=true/\ y3.1.getD v.toNat 0≠y3.1.getD u.toNat 0):=by
   intro e hn;obtain ⟨b,f',c,h1,h2,h3⟩:=cS (n:=n) (a:=a) hS hy l EA fun v hv=>hz v (zAY _ hv)
   refine ⟨b,f',c,?_,h2,?_⟩
   ·unfold EV;rw [e,zh];exact h1
   ·rw [h3];constructor
    ·rintro ⟨u,hu,v,hv,h⟩;exact ⟨u,zAY _ hu,v,zAY _ hv,h⟩
    ·rintro ⟨u,hu,v,hv,h4,h5,h6,h7,h8⟩;rcases z8.1 hu with rfl | hu
     ·exact absurd ⟨h4,h6⟩ hn
     ·rcases z8.1 hv with rfl | hv
      ·exact absurd ⟨h5,h7⟩ hn
      ·exact ⟨u,hu,v,hv,h4,h5,h6,h7,h8⟩
  have U:G4 n some' a y3 x (.s0 false 0)=Pm n some' a y3 x false 0:=rfl;unfold Pm at U
  by_cases e1:x=a
  ·have:(x==a)=true:=zAQ.2 e1;rw [this,zk] at U;exact skip U fun h=>h.1 e1
  ·have:(x==a)=false:=zAk.2 e1;rw [this,zg,zi ⟨by omega,by omega⟩] at U;cases e2:some'.getD x.toNat false
   ·rw [e2,zAZ,zk] at U;exact skip U fun h=>by rw [e2] at h;cases h.2
   ·have z0:((0:Int)==0)=true:=rfl;rw [e2,zAW,zg,z0,zk,zi ⟨by omega,by omega⟩] at U;obtain ⟨b,f',c,h1,h2,h3⟩:=cR (n:=n) (a:=a) hS hy (hz x zAr e1) l EA;refine ⟨b,f',c,?_,h2,?_⟩
    ·unfold EV;rw [U,zh];exact h1
    ·rw [h3];constructor
     ·rintro ⟨v,hv,h4,h5,h6⟩;exact ⟨x,zAr,v,zAY _ hv,e1,h4,e2,h5,h6⟩
     ·rintro ⟨u,hu,v,hv,h4,h5,h6,h7,h8⟩
      by_cases e3:y3.1.getD u.toNat 0=y3.1.getD x.toNat 0
      ·rcases z8.1 hv with rfl | hv
       ·exact absurd e3.symm h8
       ·exact ⟨v,hv,h5,h7,fun e=>h8 (e.trans e3.symm)⟩
      ·rcases z8.1 hu with rfl | hu
       ·exact absurd rfl e3
       ·exact ⟨u,hu,h4,h6,e3⟩
theorem mM (G:NH g) (hI:inn.length=g.length) (hS:some'.length=g.length) {a:Nat} (ha:a<g.length) (iD:inn.getD a false=true):
 Ac (fun n=>Lf n g inn some' (a:Int)) (fun r=>r.2=0/\ (r.1=true↔Sp g inn some' (a:Int))):=by
 have hG:=G.gr.len;have L:(1000000000000:Nat)=A6:=rfl
 have hw: ∀ n,PP n (a:Int) inn=some (inn.set a false):=fun n=>by
  unfold PP WJ M3 aB;rw [zi ⟨by omega,trivial,⟨rfl,rfl⟩,by rw [←L];simp only [zA0];omega⟩,zi (by simp),zh,zA1,zi ⟨⟨by omega,by omega⟩,by omega⟩,zi (by simp),zAA,zl]
 have wW:(inn.set a false).length=g.length:=by rw [zAK];exact hI
 have e: ∀ n,Lf n g inn some' (a:Int)=(K2 n g [inn,some']).bind fun y1=>bif (y1 != 0) then some (false,y1) else (parts n g (inn.set a false)).bind fun y3=>(Fm n g a inn).bind fun y4=>(EV (G4 n some' a y3) y4 (.s0 false 0)).bind fun y5=>bif y5.2==0 then (match y5.1 with | .s0 b _=>some (b,0)) else bif y5.2==1 then (match y5.1 with | .s0 b _=>some (b,0)) else none:=fun n=>by
  unfold Lf cP
  congr 1
  funext y1
  rw [ze (by omega),zg,ze (by omega),zg,zi ⟨by omega,by omega⟩,zl,iD,zAW,zg,hw,zh]
 refine Ac.eq ?_ e
 refine Ac.bind (ip G (fun x hx=>by
  rcases z8.1 hx with rfl | hx
  ·exact hI
  ·rw [zAB.1 hx];exact hS) (by simp)) ?_
 show Ac (R:=Bool×Int) (fun n=>(parts n g (inn.set a false)).bind fun y3=>(Fm n g a inn).bind fun y4=>(EV (G4 n some' a y3) y4 (.s0 false 0)).bind fun y5=>bif y5.2==0 then (match y5.1 with | .s0 b _=>some (b,0)) else bif y5.2==1 then (match y5.1 with | .s0 b _=>some (b,0)) else none) _
 obtain ⟨N,hN⟩:=XE G.gr hI (s:=(a:Int)) (by omega) (by omega);refine Ac.bindU (pz G.gr wW) ⟨N,fun n hn y3 hy=>?_⟩;obtain ⟨l,hl,Ay,OS⟩:=hN n hn;have hl:Fm n g (a:Int) inn=some l:=hl;have hr: ∀ v∈l,0<=v/\ v<(g.length:Int):=fun v hv=>((OS v).1 hv).rng G.gr (by omega) (by omega)
 have B3: ∀ v∈l,v≠(a:Int) -> (inn.set a false).getD v.toNat false=true:=fun v hv AQ=>by
  have h1:=hr v hv;rw [u8,zAu (by omega),←u8];exact ((OS v).1 hv).isIn (by rw [zl];exact iD)
 obtain ⟨b,f',c,h1,h2,h3⟩:=cS (n:=n) (some':=some') (a:=(a:Int)) (y3:=y3) hS hy.1 l hr fun v hv AQ=>by
  have h1:=hr v hv;have:=hy.2.1 v.toNat (by omega) (B3 v hv AQ);omega
 rw [hl,zh,h1,zh];refine ⟨(b,0),?_,rfl,?_⟩
 ·rcases h2 with rfl | rfl <;> rfl
 ·show b=true↔_
  rw [h3]
  have key: ∀ u v:Int,u∈l -> v∈l -> u≠a -> (y3.1.getD v.toNat 0=y3.1.getD u.toNat 0↔Rc g (inn.set a false) u v):=fun u v hu hv AQ=>by
   have h1:=hr u hu;have h2:=hr v hv;have:=hy.2.2 u.toNat v.toNat (by omega) (by omega) (B3 u hu AQ)
   rwa [Int.toNat_of_nonneg h1.1,Int.toNat_of_nonneg h2.1] at this
  constructor
  ·rintro ⟨u,hu,v,hv,h4,h5,h6,h7,h8⟩;exact ⟨u,v,h4,h5,h6,h7,(OS u).1 hu,(OS v).1 hv,fun h=>h8 ((key u v hu hv h4).2 h)⟩
  ·rintro ⟨u,v,h4,h5,h6,h7,h8,h9,Mx⟩;have hu:=(OS u).2 h8;have hv:=(OS v).2 h9;exact ⟨u,hu,v,hv,h4,h5,h6,h7,fun h=>Mx ((key u v hu hv h4).1 h)⟩
end
end Go.Proofs.YtgkhhfnhacibcaaGreatDoor
namespace Go.Proofs.YtgkhhfnhacibcaaGreatDoor
open Go.RowKit
def D6 (c:AB) (pos:List Int) (a:Nat):Bool:=bits .andNot .i64 (AV c pos a) c.set==0
def Ez (c:AB) (pos:List Int) (a:Nat):Bool:=D6 c pos a||(bits .and .i64 (AV c pos a) c.set != 0)
def cnt (p:Nat -> Bool) (i:Nat):Int:=(((List.range i).countP p:Nat):Int)
theorem O6 {p:Nat -> Bool} {i:Nat}:cnt p (i+1)=cnt p i+(if p i then 1 else 0):=by
 unfold cnt;rw [List.range_succ,List.countP_append,List.countP_singleton];split <;> simp
theorem jn {p:Nat -> Bool} {i:Nat}:0<=cnt p i/\ cnt p i<=i:=by
 unfold cnt;have:=zCU (p:=p) (l:=List.range i);rw [zBK] at this;omega
def LF (c:AB) (pos:List Int):Bool:=!decide (cnt (D6 c pos) c.cells.length>c.hi)&&!decide (cnt (Ez c pos) c.cells.length<c.lo)
def IM (c:AB) (pos:List Int) (a s:Nat):Bool:=
 ((cnt (D6 c pos) c.cells.length==c.hi)&&(bits .andNot .i64 (AV c pos a) c.set != 0)&&tb c.set s)||((cnt (Ez c pos) c.cells.length==c.lo)&&(bits .and .i64 (AV c pos a) c.set != 0)&&!tb c.set s)
section
variable {c:AB} {k:Nat} {pos lost:List Int} {q:AA}
theorem xr {n:Nat} {x3 x4:Int} (W:Bz c k pos) (hl:lost.length=pos.length) (h3:x3=cnt (D6 c pos) c.cells.length) (h4:x4=cnt (Ez c pos) c.cells.length) (hn:c.cells.length+1<=n):
 ∃ l,IN c q pos pos.length lost n (.l2 x3 x4 0 lost)=some (true,l)/\ Bo c pos lost c.cells.length (fun a s=>IM c pos a s=true) l:=by
 have lt: ∀ i,i<c.cells.length -> ((i:Nat):Int)<((c.cells.length:Nat):Int):=fun i hi=>by omega
 have T:=Gg (fun n (s:List Int) i=>IN c q pos pos.length lost n (.l2 x3 x4 i s)) c.cells.length 1
  (fun i s=>Bo c pos lost i (fun a s=>IM c pos a s=true) s) (fun n i s FD hi hI=>?_) (n:=n) (s:=lost) (by omega) (Bo.zero hl)
 ·obtain ⟨n3,l,RU,_,e2,hL⟩:=T;obtain ⟨n4,rfl⟩: ∃ n4,n3=n4+1:=⟨n3-1,by omega⟩;refine ⟨l,e2.trans ?_,hL⟩
  show SK n4 (IN c q pos pos.length lost n4) c q pos pos.length lost x3 x4 (c.cells.length:Int) l=_
  unfold SK;rw [ze (by omega),zg]
 ·have hc:=W.cells i hi;have hr:=W.r64 hi
  have key: ∀ l':List Int,l'.length=pos.length -> (∀ j x,tb (l'.getD j 0) x=(tb (s.getD j 0) x||(decide (j=(c.cells.getD i 0).toNat)&&(tb (pos.getD j 0) x&&IM c pos i x)))) -> Bo c pos lost (i+1) (fun a s=>IM c pos a s=true) l':=by
   intro l' h1 h2;refine hI.step h1 fun j x=>?_
   rw [h2,zAE,zm,zm,zv];constructor
   ·rintro (h | ⟨rfl,h⟩)
    ·exact .inl h
    ·exact .inr ⟨rfl,h⟩
   ·rintro (h | ⟨rfl,h⟩)
    ·exact .inl h
    ·exact .inr ⟨rfl,h⟩
  obtain ⟨l1,e1,n1,f1⟩:=JZ (lost:=s) (n:=n) (ss:=c.set) (c:=c) (q:=q) hc.1 hc.2 hI.1;obtain ⟨l2,e2,n2,f2⟩:=Xa (lost:=l1) (n:=n) (c:=c) (q:=q) hc.1 hc.2 n1;obtain ⟨l3,e3,n3,f3⟩:=Xa (lost:=s) (n:=n) (c:=c) (q:=q) hc.1 hc.2 hI.1;have d0:decide ((i:Int)<((c.cells.length:Nat):Int))=true:=zn (lt i hi);have g0:(0:Int)<=(i:Int)/\ (i:Int)<((c.cells.length:Nat):Int):=⟨by omega,lt i hi⟩
  show ∃ s',SK n (IN c q pos pos.length lost n) c q pos pos.length lost x3 x4 (i:Int) s=_/\ _
  unfold SK;rw [d0,zk,zi g0];simp only [zl];have X: ∀ x,IM c pos i x=(((x3==c.hi)&&(bits .andNot .i64 (pos.getD (c.cells.getD i 0).toNat 0) c.set != 0)&&tb c.set x)||((x4==c.lo)&&(bits .and .i64 (pos.getD (c.cells.getD i 0).toNat 0) c.set != 0)&&!tb c.set x)):=fun x=>by rw [h3,h4];rfl
  cases hA:(x3==c.hi) <;> cases hC:(x4==c.lo) <;> cases hB:(bits .andNot .i64 (pos.getD (c.cells.getD i 0).toNat 0) c.set != 0) <;> cases hE:(bits .and .i64 (pos.getD (c.cells.getD i 0).toNat 0) c.set != 0) <;>
   simp only [hA,hB,hC,hE,zAG,zBC,zCe,Bool.and_true,zBD,zBS] at X <;>
   simp only [zk,zg,zi hc,e1,e2,e3,zh,zi hr.2]
  all_goals first
   | exact ⟨s,rfl,key s hI.1 fun j x=>by rw [X,zCe,zCe,zBD]⟩
   | exact ⟨l1,rfl,key l1 n1 fun j x=>by rw [f1,X]⟩
   | exact ⟨l3,rfl,key l3 n3 fun j x=>by rw [f3,X]⟩
   | exact ⟨l2,rfl,key l2 n2 fun j x=>by
    rw [f2,f1,X];cases tb (s.getD j 0) x <;> cases decide (j=(c.cells.getD i 0).toNat) <;> cases tb (pos.getD j 0) x <;> cases tb c.set x <;> rfl⟩
theorem xt {n:Nat} (W:Bz c k pos) (hl:lost.length=pos.length) (hn:2*c.cells.length+3<=n):
 ∃ l,O4 n c q pos pos.length lost=some (LF c pos,l)/\ (LF c pos=true -> Bo c pos lost c.cells.length (fun a s=>IM c pos a s=true) l):=by
 have lt: ∀ i,i<c.cells.length -> ((i:Nat):Int)<((c.cells.length:Nat):Int):=fun i hi=>by omega
 have S:=Gg (fun n (s:Int×Int) i=>IN c q pos pos.length lost n (.l1 s.1 s.2 i)) c.cells.length (c.cells.length+3)
  (fun i s=>s.1=cnt (D6 c pos) i/\ s.2=cnt (Ez c pos) i) (fun n i s _ hi hI=>?_) (n:=n) (s:=(0,0)) (by omega) ⟨rfl,rfl⟩
 ·obtain ⟨n1,⟨x3,x4⟩,F0,_,e1,h3,h4⟩:=S;obtain ⟨n2,rfl⟩: ∃ n2,n1=n2+1:=⟨n1-1,by omega⟩;have e2:O4 n c q pos pos.length lost=SL n2 (IN c q pos pos.length lost n2) c q pos pos.length lost x3 x4 (c.cells.length:Int):=e1;have h3:x3=cnt (D6 c pos) c.cells.length:=h3;have h4:x4=cnt (Ez c pos) c.cells.length:=h4;unfold SL at e2;rw [ze (by omega),zg] at e2;unfold LF;rw [←h3,←h4];cases h5:decide (x3>c.hi)
  ·cases h6:decide (x4<c.lo)
   ·obtain ⟨l,e3,hL⟩:=xr (q:=q) (n:=n2) W hl h3 h4 (by omega);rw [h5,h6,zg,zg,e3] at e2;exact ⟨l,e2,fun _=>hL⟩
   ·rw [h5,h6,zg,zk] at e2;exact ⟨lost,e2,fun h=>by cases h⟩
  ·rw [h5,zk] at e2;exact ⟨lost,e2,fun h=>by cases h⟩
 ·obtain ⟨x3,x4⟩:=s;obtain ⟨h3,h4⟩:=hI;simp only at h3 h4;have hc:=W.cells i hi;have hr:=W.r64 hi;have b3:=jn (p:=D6 c pos) (i:=i);have b4:=jn (p:=Ez c pos) (i:=i);have Af:=W.len;have r3:AH (x3+1):=Aq.2 ⟨by omega,by omega⟩;have r4:AH (x4+1):=Aq.2 ⟨by omega,by omega⟩
  show ∃ s',SL n (IN c q pos pos.length lost n) c q pos pos.length lost x3 x4 (i:Int)=_/\ _
  unfold SL;rw [zn (lt i hi),zk];simp only [zl];rw [zi ⟨⟨by omega,lt i hi⟩,hc⟩];have m1:(bits .andNot .i64 (pos.getD (c.cells.getD i 0).toNat 0) c.set==0)=D6 c pos i:=rfl;have m2:(D6 c pos i||(bits .and .i64 (pos.getD (c.cells.getD i 0).toNat 0) c.set != 0))=Ez c pos i:=rfl;rw [m1];cases hm:D6 c pos i
  ·rw [hm,zBS] at m2;rw [zg,m2];cases hy:Ez c pos i
   ·rw [zg,zi hr.2];exact ⟨(x3,x4),rfl,by rw [O6,hm];simpa using h3,by rw [O6,hy];simpa using h4⟩
   ·rw [zk,zi ⟨r4,hr.2⟩];exact ⟨(x3,x4+1),rfl,by rw [O6,hm];simpa using h3,by rw [O6,hy];simpa using h4⟩
  ·have hy:Ez c pos i=true:=by rw [←m2,hm];rfl
   rw [zk,zi ⟨r3,r4,hr.2⟩];exact ⟨(x3+1,x4+1),rfl,by rw [O6,hm];simpa using h3,by rw [O6,hy];simpa using h4⟩
end
end Go.Proofs.YtgkhhfnhacibcaaGreatDoor
namespace Go.Proofs.YtgkhhfnhacibcaaGreatDoor
abbrev zAh:=@Nat.lt_of_not_le
end Go.Proofs.YtgkhhfnhacibcaaGreatDoor
namespace Go.Proofs.YtgkhhfnhacibcaaGreatDoor
open Go.RowKit
theorem Wc (x:Int) (i:Nat):tb (IntKind.i64.wrap x) i=tb x i:=by unfold tb;rw [Ql]
theorem NM {s:Nat} (hs:s<64) (i:Nat):tb (IntKind.i64.wrap (1*2 ^ s)) i=decide (s=i):=by
 rw [Wc,Int.one_mul];rcases zA2 i 64 with h | h
 ·have e:((2 ^ s:Nat):Int)=(2:Int) ^ s:=by simp
  rw [←e];exact lj h
 ·rw [G3 h,ze (by omega)]
theorem Ft {k:Nat} {x:Int} (h:Sm k x) (hk:k<=62) {e:Int}:e∈BS x↔∃ s:Nat,e=(s:Int)/\ s<k/\ tb x s=true:=by
 obtain ⟨m,rfl⟩:=zBl h.1;unfold BS EJ;simp only [zAt,zBV,zw,zl];constructor
 ·rintro ⟨s,⟨h1,h2⟩,rfl⟩;have h3:tb (m:Int) s=true:=by rw [La m s h1];exact h2
  refine ⟨s,rfl,?_,h3⟩;refine zAh fun Bx=>?_
  rw [h.hi Bx] at h3;cases h3
 ·rintro ⟨s,rfl,h1,h2⟩;exact ⟨s,⟨by omega,by rw [La m s (by omega)] at h2;exact h2⟩,rfl⟩
theorem VS {α σ:Type} {f:α -> σ -> Option σ} (Inv:List α -> σ -> Prop): ∀ (l pre:List α) (s:σ),Inv pre s -> (∀ pre x s,x∈l -> Inv pre s -> ∃ s',f x s=some s'/\ Inv (pre++[x]) s') -> ∃ s',By f l s=some s'/\ Inv (pre++l) s'
 | [],pre,s,h,_=>⟨s,rfl,by rw [zA5];exact h⟩
 | x::l,pre,s,h,hs=>by
  obtain ⟨s',h1,h2⟩:=hs pre x s (.head _) h;obtain ⟨s2,h3,h4⟩:=VS Inv l (pre++[x]) s' h2 fun pre y s hy=>hs pre y s (.tail _ hy)
  refine ⟨s2,?_,by rw [zBh] at h4;exact h4⟩;simp only [By];rw [h1,zh,h3]
structure Fb (q:AA) (k:Nat):Prop where
 len:k<=q.values.length
 val: ∀ s,s<k -> 0<=q.values.getD s 0/\ q.values.getD s 0<=99
def Ja (q:AA) (a e:Int):Int:=if q.values.getD e.toNat 0<a then q.values.getD e.toNat 0 else a
def Jq (q:AA) (a e:Int):Int:=if q.values.getD e.toNat 0>a then q.values.getD e.toNat 0 else a
def EO (q:AA) (x:Int):Int:=(BS x).foldl (Ja q) 100
def ER (q:AA) (x:Int):Int:=(BS x).foldl (Jq q) (-1)
section
variable {c:AB} {k:Nat} {pos lost:List Int} {q:AA}
theorem fc: ∀ (l:List Int) (a:Int),(∀ e∈l,0<=q.values.getD e.toNat 0/\ q.values.getD e.toNat 0<=99) -> 0<=a/\ a<=100 -> 0<=l.foldl (Ja q) a/\ l.foldl (Ja q) a<=100
 | [],_,_,h=>h
 | e::l,a,hv,h=>by
  have:=hv e (.head _);refine fc l (Ja q a e) (fun e he=>hv e (.tail _ he)) ?_;unfold Ja;split <;> omega
theorem iE: ∀ (l:List Int) (a:Int),(∀ e∈l,0<=q.values.getD e.toNat 0/\ q.values.getD e.toNat 0<=99) -> -1<=a/\ a<=99 -> -1<=l.foldl (Jq q) a/\ l.foldl (Jq q) a<=99
 | [],_,_,h=>h
 | e::l,a,hv,h=>by
  have:=hv e (.head _);refine iE l (Jq q a e) (fun e he=>hv e (.tail _ he)) ?_;unfold Jq;split <;> omega
theorem Fb.sym (V:Fb q k) (hk:k<=16) {x:Int} (h:Sm k x): ∀ e∈BS x,(0<=e/\ e<((q.values.length:Nat):Int))/\ 0<=q.values.getD e.toNat 0/\ q.values.getD e.toNat 0<=99:=by
 intro e he;obtain ⟨s,rfl,h1,_⟩:=(Ft h (zt hk (by decide))).1 he;have:=V.len;rw [zl];exact ⟨by omega,V.val s h1⟩
theorem Fb.lo (V:Fb q k) (hk:k<=16) {x:Int} (h:Sm k x):0<=EO q x/\ EO q x<=100:=fc _ _ (fun e he=>(V.sym hk h e he).2) (by decide)
theorem Fb.hi (V:Fb q k) (hk:k<=16) {x:Int} (h:Sm k x): -1<=ER q x/\ ER q x<=99:=iE _ _ (fun e he=>(V.sym hk h e he).2) (by decide)
theorem jN {n ln:Nat}: ∀ (l:List Int) (a b:Int),(∀ e∈l,0<=e/\ e<((q.values.length:Nat):Int)) -> By (R7 n c q pos ln lost) l (.s0 a b)=some (.s0 (l.foldl (Ja q) a) (l.foldl (Jq q) b))
 | [],_,_,_=>rfl
 | e::l,a,b,h=>by
  have e1:R7 n c q pos ln lost e (.s0 a b)=some (.s0 (Ja q a e) (Jq q b e)):=by
   unfold R7 jP jQ
   dsimp only
   rw [zi (h e (.head _))];rfl
  simp only [By];rw [e1,zh,jN l _ _ fun e he=>h e (.tail _ he)];rfl
theorem jM {n ln:Nat} (V:Fb q k) (hk:k<=16) {x:Int} (h:Sm k x):R8 n x c q pos ln lost=some (EO q x,ER q x,lost):=by
 have ik:=Lv (k:=k) (zt hk (by decide));have h2:=h.2;unfold R8 jO;rw [zi ⟨h.1,by omega⟩,jN (BS x) 100 (-1) fun e he=>(V.sym hk h e he).1];rfl
def Ea (f:Nat -> Int):Nat -> Int
 | 0=>0
 | i+1=>Ea f i+f i
theorem Pc {f:Nat -> Int}: ∀ (i:Nat),(∀ a,a<i -> -1<=f a/\ f a<=100) -> -(i:Int)<=Ea f i/\ Ea f i<=100*(i:Int)
 | 0,_=>by simp [Ea]
 | i+1,h=>by
  have h1:=Pc i fun a ha=>h a (by omega)
  have h2:=h i (by omega);simp only [Ea];omega
def JY (q:AA) (c:AB) (pos:List Int):Int:=Ea (fun a=>EO q (AV c pos a)) c.cells.length
def Jp (q:AA) (c:AB) (pos:List Int):Int:=Ea (fun a=>ER q (AV c pos a)) c.cells.length
def KJ (q:AA) (c:AB) (pos:List Int):Bool:=!decide (JY q c pos>c.hi)&&!decide (Jp q c pos<c.lo)
def Hi (q:AA) (c:AB) (pos:List Int) (a s:Nat):Bool:=
 decide (JY q c pos-EO q (AV c pos a)+q.values.getD s 0>c.hi)||decide (Jp q c pos-ER q (AV c pos a)+q.values.getD s 0<c.lo)
theorem fY {T:Type} {n:Nat} (W:Bz c k pos) {i:Nat} (hi:i<c.cells.length) (hl:lost.length=pos.length) (mk:List Int -> T) (f:Int -> T -> Option T) (X:Nat -> Bool)
 (hf: ∀ (s:Nat) (l:List Int),s<k -> l.length=pos.length -> f (s:Int) (mk l)=bif X s then (C4 n (c.cells.getD i 0) (IntKind.i64.wrap (1*2 ^ s)) c q pos pos.length l).map mk else some (mk l)):
 ∃ l',By f (BS (AV c pos i)) (mk lost)=some (mk l')/\ l'.length=pos.length/\
  ∀ j s,tb (l'.getD j 0) s=true↔tb (lost.getD j 0) s=true∨((c.cells.getD i 0).toNat=j/\ tb (AV c pos i) s=true/\ X s=true):=by
 have hc:=W.cells i hi;have CR:=W.at hi;have hk:=W.k
 have key:=VS (f:=f)
  (fun pre s=>∃ l',s=mk l'/\ l'.length=pos.length/\ ∀ j s,tb (l'.getD j 0) s=true↔tb (lost.getD j 0) s=true∨((c.cells.getD i 0).toNat=j/\ tb (AV c pos i) s=true/\ (s:Int)∈pre/\ X s=true))
  (BS (AV c pos i)) [] (mk lost) ⟨lost,rfl,hl,fun j s=>⟨.inl,fun h=>h.elim id fun h=>(by cases h.2.2.1)⟩⟩ ?_
 ·obtain ⟨_,h1,l',rfl,h2,h3⟩:=key;refine ⟨l',h1,h2,fun j s=>?_⟩;rw [h3,zA1];constructor
  ·rintro (h | ⟨a1,a2,_,a3⟩)
   ·exact .inl h
   ·exact .inr ⟨a1,a2,a3⟩
  ·rintro (h | ⟨a1,a2,a3⟩)
   ·exact .inl h
   ·refine .inr ⟨a1,a2,(Ft CR (zt hk (by decide))).2 ⟨s,rfl,zAh fun Bx=>?_,a2⟩,a3⟩;rw [CR.hi Bx] at a2;cases a2
 ·rintro pre e _ he ⟨l',rfl,h2,h3⟩;obtain ⟨s,rfl,hs,hbit⟩:=(Ft CR (zt hk (by decide))).1 he;rw [hf s l' hs h2];cases hx:X s
  ·rw [zg];refine ⟨_,rfl,l',rfl,h2,fun j x=>?_⟩;rw [h3];constructor
   ·rintro (h | ⟨a1,a2,a3,a4⟩)
    ·exact .inl h
    ·exact .inr ⟨a1,a2,zAS _ a3,a4⟩
   ·rintro (h | ⟨a1,a2,a3,a4⟩)
    ·exact .inl h
    ·rcases zAI.1 a3 with a3 | a3
     ·exact .inr ⟨a1,a2,a3,a4⟩
     ·have:x=s:=by have:=zAB.1 a3;omega
      subst this;rw [hx] at a4;cases a4
  ·obtain ⟨l2,e2,n2,f2⟩:=JZ (lost:=l') (n:=n) (ss:=IntKind.i64.wrap (1*2 ^ s)) (c:=c) (q:=q) hc.1 hc.2 h2;rw [zk,e2,zAR];refine ⟨_,rfl,l2,rfl,n2,fun j x=>?_⟩;rw [f2,zAE,zm,zm,zv,h3,NM (by omega),zv];constructor
   ·rintro ((h | ⟨a1,a2,a3,a4⟩) | ⟨rfl,a2,rfl⟩)
    ·exact .inl h
    ·exact .inr ⟨a1,a2,zAS _ a3,a4⟩
    ·exact .inr ⟨rfl,a2,zAd _ (.head _),hx⟩
   ·rintro (h | ⟨a1,a2,a3,a4⟩)
    ·exact .inl (.inl h)
    ·rcases zAI.1 a3 with a3 | a3
     ·exact .inl (.inr ⟨a1,a2,a3,a4⟩)
     ·have:x=s:=by have:=zAB.1 a3;omega
      subst this;subst a1;exact .inr ⟨rfl,a2,rfl⟩
theorem mC {n:Nat} (W:Bz c k pos) (V:Fb q k) {i:Nat} (hi:i<c.cells.length) {low high:Int} (U6:low=JY q c pos) (iF:high=Jp q c pos) (hl:lost.length=pos.length):
 ∃ l',By (TF n c (i:Int) q pos pos.length low high (EO q (AV c pos i),ER q (AV c pos i),lost)) (BS (AV c pos i)) (.s0 lost)=some (.s0 l')/\ l'.length=pos.length/\
  ∀ j s,tb (l'.getD j 0) s=true↔tb (lost.getD j 0) s=true∨((c.cells.getD i 0).toNat=j/\ tb (AV c pos i) s=true/\ Hi q c pos i s=true):=by
 have hc:=W.cells i hi;have CR:=W.at hi;have hk:=W.k;have Af:=W.len;have bl:=V.lo hk CR;have bh:=V.hi hk CR;have tl:=Pc (f:=fun a=>EO q (AV c pos a)) c.cells.length fun a ha=>by have:=V.lo hk (W.at ha);omega
 have th:=Pc (f:=fun a=>ER q (AV c pos a)) c.cells.length fun a ha=>by have:=V.hi hk (W.at ha);omega
 have tl: -(c.cells.length:Int)<=low/\ low<=100*(c.cells.length:Int):=by rw [U6];exact tl
 have th: -(c.cells.length:Int)<=high/\ high<=100*(c.cells.length:Int):=by rw [iF];exact th
 refine fY (n:=n) (q:=q) W hi hl JC.s0 _ (Hi q c pos i) fun s l hs hl=>?_
 have hv:=V.val s hs;have FW:=V.len;have r1:AH (low-EO q (AV c pos i)):=Aq.2 ⟨by omega,by omega⟩;have r2:AH (low-EO q (AV c pos i)+q.values.getD s 0):=Aq.2 ⟨by omega,by omega⟩;have r3:AH (high-ER q (AV c pos i)):=Aq.2 ⟨by omega,by omega⟩;have r4:AH (high-ER q (AV c pos i)+q.values.getD s 0):=Aq.2 ⟨by omega,by omega⟩;have g1:(0:Int)<=(s:Int)/\ (s:Int)<((q.values.length:Nat):Int):=by omega
 have g2:(0:Int)<=(s:Int)/\ (s:Int)<=((IntKind.i64.bits:Nat):Int):=⟨by omega,by show (s:Int)<=64;omega⟩;obtain ⟨l2,e2,_,_⟩:=JZ (lost:=l) (n:=n) (ss:=IntKind.i64.wrap (1*2 ^ s)) (c:=c) (q:=q) hc.1 hc.2 hl;have X:Hi q c pos i s=(decide (low-EO q (AV c pos i)+q.values.getD s 0>c.hi)||decide (high-ER q (AV c pos i)+q.values.getD s 0<c.lo)):=by rw [U6,iF];rfl
 rw [X];unfold TF cI TE
 dsimp only
 simp only [zl];rw [zi ⟨g1,r1,r2⟩];cases hA:decide (low-EO q (AV c pos i)+q.values.getD s 0>c.hi)
 ·rw [zg,zi ⟨r3,r4⟩,zBS];cases hB:decide (high-ER q (AV c pos i)+q.values.getD s 0<c.lo)
  ·rfl
  ·rw [zk,zk,zi g2,e2];rfl
 ·rw [zk,Bool.true_or,zk,zi g2,e2];rfl
theorem lz {n:Nat} (W:Bz c k pos) (V:Fb q k) (hl:lost.length=pos.length) (hn:c.cells.length+1<=n):
 ∃ l,Hj c q pos pos.length lost n (.l2 0 lost (JY q c pos) (Jp q c pos))=some (true,l)/\ Bo c pos lost c.cells.length (fun a s=>Hi q c pos a s=true) l:=by
 have lt: ∀ i,i<c.cells.length -> ((i:Nat):Int)<((c.cells.length:Nat):Int):=fun i hi=>by omega
 have T:=Gg (fun n (s:List Int) i=>Hj c q pos pos.length lost n (.l2 i s (JY q c pos) (Jp q c pos))) c.cells.length 1
  (fun i s=>Bo c pos lost i (fun a s=>Hi q c pos a s=true) s) (fun n i s FD hi hI=>?_) (n:=n) (s:=lost) (by omega) (Bo.zero hl)
 ·obtain ⟨n3,l,RU,_,e2,hL⟩:=T;obtain ⟨n4,rfl⟩: ∃ n4,n3=n4+1:=⟨n3-1,by omega⟩;refine ⟨l,e2.trans ?_,hL⟩
  show Pf n4 (Hj c q pos pos.length lost n4) c q pos pos.length lost (c.cells.length:Int) l _ _=_
  unfold Pf;rw [ze (by omega),zg]
 ·have hc:=W.cells i hi;have hr:=W.r64 hi;have CR:=W.at hi;have ik:=Lv (k:=k) (zt W.k (by decide));have Ks:=CR.2;obtain ⟨l',e1,n1,f1⟩:=mC (n:=n) W V hi rfl rfl hI.1
  show ∃ s',Pf n (Hj c q pos pos.length lost n) c q pos pos.length lost (i:Int) s _ _=_/\ _
  unfold Pf;rw [zn (lt i hi),zk];simp only [zl];have sa:pos.getD (c.cells.getD i 0).toNat 0=AV c pos i:=rfl;rw [zi ⟨⟨by omega,lt i hi⟩,hc⟩,sa,jM V W.k CR,zh,zi ⟨CR.1,by show AV c pos i<_;omega⟩];refine ⟨l',?_,hI.step n1 f1⟩;refine (congrArg (fun z=>Option.bind z _) e1).trans ?_;rw [zh];simp only;rw [zi hr.2]
theorem mA {n:Nat} (W:Bz c k pos) (V:Fb q k) (hl:lost.length=pos.length) (hn:2*c.cells.length+3<=n):
 ∃ l,NR n c q pos pos.length lost=some (KJ q c pos,l)/\ (KJ q c pos=true -> Bo c pos lost c.cells.length (fun a s=>Hi q c pos a s=true) l):=by
 have lt: ∀ i,i<c.cells.length -> ((i:Nat):Int)<((c.cells.length:Nat):Int):=fun i hi=>by omega
 have S:=Gg (fun n (s:List Int×Int×Int) i=>Hj c q pos pos.length lost n (.l1 i s.1 s.2.1 s.2.2)) c.cells.length (c.cells.length+3)
  (fun i s=>s.1=lost/\ s.2.1=Ea (fun a=>EO q (AV c pos a)) i/\ s.2.2=Ea (fun a=>ER q (AV c pos a)) i) (fun n i s _ hi hI=>?_) (n:=n) (s:=(lost,0,0)) (by omega) ⟨rfl,rfl,rfl⟩
 ·obtain ⟨n1,⟨l0,x3,x4⟩,F0,_,e1,h0,h3,h4⟩:=S;obtain ⟨n2,rfl⟩: ∃ n2,n1=n2+1:=⟨n1-1,by omega⟩;obtain rfl:l0=lost:=h0;obtain rfl:x3=JY q c pos:=h3;obtain rfl:x4=Jp q c pos:=h4;have e2:NR n c q pos pos.length l0=Pg n2 (Hj c q pos pos.length l0 n2) c q pos pos.length l0 (c.cells.length:Int) l0 (JY q c pos) (Jp q c pos):=e1;unfold Pg at e2;rw [ze (by omega),zg] at e2;unfold KJ;cases h5:decide (JY q c pos>c.hi)
  ·cases h6:decide (Jp q c pos<c.lo)
   ·obtain ⟨l,e3,hL⟩:=lz (n:=n2) W V hl (by omega);rw [h5,h6,zg,zg,e3] at e2;exact ⟨l,e2,fun _=>hL⟩
   ·rw [h5,h6,zg,zk] at e2;exact ⟨l0,e2,fun h=>by cases h⟩
  ·rw [h5,zk] at e2;exact ⟨l0,e2,fun h=>by cases h⟩
 ·obtain ⟨l0,x3,x4⟩:=s;obtain ⟨h0,h3,h4⟩:=hI;simp only at h0 h3 h4;have hc:=W.cells i hi;have hr:=W.r64 hi;have CR:=W.at hi;have b3:=Pc (f:=fun a=>EO q (AV c pos a)) i fun a ha=>by have:=V.lo W.k (W.at (Nat.lt_trans ha hi));omega
  have b4:=Pc (f:=fun a=>ER q (AV c pos a)) i fun a ha=>by have:=V.hi W.k (W.at (Nat.lt_trans ha hi));omega
  have bl:=V.lo W.k CR;have bh:=V.hi W.k CR;have Af:=W.len;rw [←h3] at b3;rw [←h4] at b4;have r3:AH (x3+EO q (AV c pos i)):=Aq.2 ⟨by omega,by omega⟩;have r4:AH (x4+ER q (AV c pos i)):=Aq.2 ⟨by omega,by omega⟩
  show ∃ s',Pg n (Hj c q pos pos.length lost n) c q pos pos.length lost (i:Int) l0 x3 x4=_/\ _
  unfold Pg;rw [zn (lt i hi),zk];simp only [zl];have sa:pos.getD (c.cells.getD i 0).toNat 0=AV c pos i:=rfl;rw [zi ⟨⟨by omega,lt i hi⟩,hc⟩,sa,jM V W.k CR,zh,zi ⟨r3,r4,hr.2⟩];exact ⟨(l0,x3+EO q (AV c pos i),x4+ER q (AV c pos i)),rfl,h0,by simp only [Ea];rw [h3],by simp only [Ea];rw [h4]⟩
end
end Go.Proofs.YtgkhhfnhacibcaaGreatDoor
namespace Go.Proofs.YtgkhhfnhacibcaaGreatDoor
open Go.RowKit
set_option maxRecDepth 100000
set_option maxHeartbeats 40000000
def b5:ST:=.rd 0 (.rd 1 (.rd 3 (.rd 4 (.ef 2 (.ef 5 (.ef 6 (.ef 7 (.ef 8 (.ef 9 (.fin [0,1,2,3] [1,3,4,5,58,91,92,104,148]) (.no)) (.no)) (.no)) (.ef 7 (.ef 6 (.ef 8 (.ef 9 (.fin [0,1,3,2] [1,3,4,5,58,91,92,104,148]) (.no)) (.no)) (.no)) (.no))) (.ef 6 (.ef 5 (.ef 7 (.ef 8 (.ef 9 (.fin [0,2,1,3] [1,3,4,5,58,91,92,104,148]) (.no)) (.no)) (.no)) (.ef 7 (.ef 5 (.ef 8 (.ef 9 (.fin [0,3,1,2] [1,3,4,5,58,91,92,104,148]) (.no)) (.no)) (.ef 8 (.ef 5 (.ef 9 (.fin [0,3,1,2] [1,3,4,5,58,91,92,104,148]) (.no)) (.no)) (.no))) (.no))) (.ef 7 (.ef 5 (.ef 6 (.ef 8 (.ef 9 (.fin [0,2,3,1] [1,3,4,5,58,91,92,104,148]) (.no)) (.no)) (.no)) (.ef 6 (.ef 5 (.ef 8 (.ef 9 (.fin [0,3,2,1] [1,3,4,5,58,91,92,104,148]) (.no)) (.no)) (.ef 8 (.ef 5 (.ef 9 (.fin [0,3,2,1] [1,3,4,5,58,91,92,104,148]) (.no)) (.no)) (.no))) (.no))) (.no)))) (.ef 5 (.ef 2 (.ef 6 (.ef 7 (.ef 8 (.ef 9 (.fin [1,0,2,3] [1,3,4,5,58,91,92,104,148]) (.no)) (.no)) (.no)) (.ef 7 (.ef 6 (.ef 8 (.ef 9 (.fin [1,0,3,2] [1,3,4,5,58,91,92,104,148]) (.no)) (.no)) (.no)) (.no))) (.ef 6 (.ef 2 (.ef 7 (.ef 8 (.ef 9 (.fin [2,0,1,3] [1,3,4,5,58,91,92,104,148]) (.no)) (.no)) (.no)) (.ef 7 (.ef 2 (.ef 8 (.ef 9 (.fin [3,0,1,2] [1,3,4,5,58,91,92,104,148]) (.no)) (.no)) (.no)) (.no))) (.ef 7 (.ef 2 (.ef 6 (.ef 8 (.ef 9 (.fin [2,0,3,1] [1,3,4,5,58,91,92,104,148]) (.no)) (.no)) (.no)) (.ef 6 (.ef 2 (.ef 8 (.ef 9 (.fin [3,0,2,1] [1,3,4,5,58,91,92,104,148]) (.no)) (.no)) (.no)) (.no))) (.no)))) (.ef 6 (.ef 2 (.ef 5 (.ef 7 (.ef 8 (.ef 9 (.fin [1,2,0,3] [1,3,4,5,58,91,92,104,148]) (.no)) (.no)) (.no)) (.ef 7 (.ef 5 (.ef 8 (.ef 9 (.fin [1,3,0,2] [1,3,4,5,58,91,92,104,148]) (.no)) (.no)) (.ef 8 (.ef 5 (.ef 9 (.fin [1,3,0,2] [1,3,4,5,58,91,92,104,148]) (.no)) (.no)) (.no))) (.no))) (.ef 5 (.ef 2 (.ef 7 (.ef 8 (.ef 9 (.fin [2,1,0,3] [1,3,4,5,58,91,92,104,148]) (.no)) (.no)) (.no)) (.ef 7 (.ef 2 (.ef 8 (.ef 9 (.fin [3,1,0,2] [1,3,4,5,58,91,92,104,148]) (.no)) (.no)) (.no)) (.no))) (.ef 7 (.ef 2 (.ef 5 (.ef 8 (.ef 9 (.fin [2,3,0,1] [1,3,4,5,58,91,92,104,148]) (.no)) (.no)) (.ef 8 (.ef 5 (.ef 9 (.fin [2,3,0,1] [1,3,4,5,58,91,92,104,148]) (.no)) (.no)) (.no))) (.ef 5 (.ef 2 (.ef 8 (.ef 9 (.fin [3,2,0,1] [1,3,4,5,58,91,92,104,148]) (.no)) (.no)) (.no)) (.no))) (.no)))) (.ef 7 (.ef 2 (.ef 5 (.ef 6 (.ef 8 (.ef 9 (.fin [1,2,3,0] [1,3,4,5,58,91,92,104,148]) (.no)) (.no)) (.no)) (.ef 6 (.ef 5 (.ef 8 (.ef 9 (.fin [1,3,2,0] [1,3,4,5,58,91,92,104,148]) (.no)) (.no)) (.ef 8 (.ef 5 (.ef 9 (.fin [1,3,2,0] [1,3,4,5,58,91,92,104,148]) (.no)) (.no)) (.no))) (.no))) (.ef 5 (.ef 2 (.ef 6 (.ef 8 (.ef 9 (.fin [2,1,3,0] [1,3,4,5,58,91,92,104,148]) (.no)) (.no)) (.no)) (.ef 6 (.ef 2 (.ef 8 (.ef 9 (.fin [3,1,2,0] [1,3,4,5,58,91,92,104,148]) (.no)) (.no)) (.no)) (.no))) (.ef 6 (.ef 2 (.ef 5 (.ef 8 (.ef 9 (.fin [2,3,1,0] [1,3,4,5,58,91,92,104,148]) (.no)) (.no)) (.ef 8 (.ef 5 (.ef 9 (.fin [2,3,1,0] [1,3,4,5,58,91,92,104,148]) (.no)) (.no)) (.no))) (.ef 5 (.ef 2 (.ef 8 (.ef 9 (.fin [3,2,1,0] [1,3,4,5,58,91,92,104,148]) (.no)) (.no)) (.no)) (.no))) (.no)))) (.no))))))))
theorem mz:B6 (A8 Tryz.f71 2) [2,5,6,7,8] b5:=by unfold B6;kernel_rfl
def bz:ST:=.rd 0 (.rd 1 (.rd 2 (.rd 3 (.ef 4 (.rd 5 (.ef 6 (.fin [] [1,4,5,58,91,92,104,148]) (.no))) (.no)))))
theorem mw:B6 (A8 Tryz.f71 3) [4] bz:=by unfold B6;kernel_rfl
theorem m4:An (A8 Tryz.f71 12) [] (List.range 11) [11]:=by unfold An;kernel_rfl
theorem my:An (A8 Tryz.f71 22) [] (List.range 9) [9]:=by unfold An;kernel_rfl
theorem mx:An (A8 Tryz.f71 26) [([0,1,2,3,4,5,6],7)] [] []:=by unfold An;kernel_rfl
def bx:ST:=.rd 0 (.rd 1 (.rd 2 (.rd 3 (.ef 4 (.fin [] [2]) (.no)))))
theorem ct:B6 (A8 Tryz.f71 30) [] bx:=by unfold B6;kernel_rfl
def Dz:BV:=fun i=>match i with
 | 2=>.tre [2,5,6,7,8] b5
 | 3=>.tre [4] bz
 | 12=>.ord [] (List.range 11) [11]
 | 22=>.ord [] (List.range 9) [9]
 | 26=>.ord [([0,1,2,3,4,5,6],7)] [] []
 | 30=>.tre [] bx
 | _=>.no
def CL (c:AB) (q:AA) (pos:List Int) (ln:Nat) (lost:List Int):St:=⟨(AL 178 [(1,.ref 2 0),(3,.i (c.cells.length:Int)),(4,.ref 5 0),(5,.ref 6 0)]),([some (.cells (AG c++AD q++[.ints pos,.msl 1 1 0 ln])),some (.ints lost),some (.cells [.ref 0 0]),some (.ints (List.replicate ((((c.cells.length:Int)+1)).toNat) (0:Int))),some (.ints (List.replicate ((((c.cells.length:Int)+1)).toNat) (0:Int))),some (.cells [.msl 3 1 0 ((((c.cells.length:Int)+1)).toNat)]),some (.cells [.msl 4 1 0 ((((c.cells.length:Int)+1)).toNat)])]:DH)⟩
def bY (c:AB) (q:AA) (pos:List Int) (ln:Nat) (lost:List Int):St:=⟨(AL 178 [(1,.ref 2 0),(4,.ref 5 0),(5,.ref 6 0)]),([some (.cells (AG c++AD q++[.ints pos,.msl 1 1 0 ln])),some (.ints lost),some (.cells [.ref 0 0]),some (.ints ((List.replicate ((((c.cells.length:Int)+1)).toNat) (0:Int)).set (0+0) (-1))),some (.ints ((List.replicate ((((c.cells.length:Int)+1)).toNat) (0:Int)).set (0+c.cells.length) 100)),some (.cells [.msl 3 1 0 ((((c.cells.length:Int)+1)).toNat)]),some (.cells [.msl 4 1 0 ((((c.cells.length:Int)+1)).toNat)])]:DH)⟩
def ue (c:AB) (q:AA) (pos:List Int) (ln:Nat) (lost o4:List Int) (BA:Int):DH:=[some (.cells (AG c++AD q++[.ints pos,.msl 1 1 0 ln])),some (.ints lost),some (.cells [.ref 0 0]),some (.cells [.msl 4 1 0 ((((c.cells.length:Int)+1)).toNat)]),some (.ints (o4.set (0+(((BA+1)).toNat)) 100)),some (.cells [.msl 6 1 0 ((((c.cells.length:Int)+1)).toNat)]),some (.ints ((List.replicate ((((c.cells.length:Int)+1)).toNat) (0:Int)).set (0+c.cells.length) 100)),some (.cells [.i BA])]
def ud (c:AB) (q:AA) (pos:List Int) (ln:Nat) (lost:List Int) (BA:Int) (o4:List Int):DH:=[some (.cells (AG c++AD q++[.ints pos,.msl 1 1 0 ln])),some (.ints lost),some (.cells [.ref 0 0]),some (.cells [.msl 7 1 0 ((((c.cells.length:Int)+1)).toNat)]),some (.cells [.msl 8 1 0 ((((c.cells.length:Int)+1)).toNat)]),some (.cells [.i BA]),some (.iter ((BS (pos.getD ((c.cells.getD ((BA).toNat) 0).toNat) 0)).map Br)),some (.ints (o4.set (0+(((BA+1)).toNat)) 100)),some (.ints ((List.replicate ((((c.cells.length:Int)+1)).toNat) (0:Int)).set (0+c.cells.length) 100))]
def uc (c:AB) (q:AA) (pos:List Int) (ln:Nat) (lost o4:List Int):DH:=[some (.cells (AG c++AD q++[.ints pos,.msl 1 1 0 ln])),some (.ints lost),some (.cells [.ref 0 0]),some (.cells [.msl 4 1 0 ((((c.cells.length:Int)+1)).toNat)]),some (.ints o4),some (.cells [.msl 6 1 0 ((((c.cells.length:Int)+1)).toNat)]),some (.ints ((List.replicate ((((c.cells.length:Int)+1)).toNat) (0:Int)).set (0+c.cells.length) 100))]
def ub (c:AB) (q:AA) (pos:List Int) (ln:Nat) (lost:List Int) (y1:List (Int×Int)) (o4:List Int):DH:=[some (.cells (AG c++AD q++[.ints pos,.msl 1 1 0 ln])),some (.ints lost),some (.cells [.ref 0 0]),some (.cells [.msl 6 1 0 ((((c.cells.length:Int)+1)).toNat)]),some (.cells [.msl 7 1 0 ((((c.cells.length:Int)+1)).toNat)]),some (.iter ((y1).map M0)),some (.ints o4),some (.ints ((List.replicate ((((c.cells.length:Int)+1)).toNat) (0:Int)).set (0+c.cells.length) 100))]
def uZ (c:AB) (q:AA) (pos:List Int) (ln:Nat) (o1 o4 o6:List Int) (A2:Int):DH:=[some (.cells (AG c++AD q++[.ints pos,.msl 1 1 0 ln])),some (.ints o1),some (.cells [.ref 0 0]),some (.cells [.msl 4 1 0 ((((c.cells.length:Int)+1)).toNat)]),some (.ints o4),some (.cells [.msl 6 1 0 ((((c.cells.length:Int)+1)).toNat)]),some (.ints o6),some (.cells [.i A2]),some (.cells [.i (c.cells.getD ((A2).toNat) 0)])]
def uY (c:AB) (q:AA) (pos:List Int) (ln:Nat) (o1:List Int) (A2:Int) (o4 o6:List Int):DH:=[some (.cells (AG c++AD q++[.ints pos,.msl 1 1 0 ln])),some (.ints o1),some (.cells [.ref 0 0]),some (.cells [.msl 8 1 0 ((((c.cells.length:Int)+1)).toNat)]),some (.cells [.msl 9 1 0 ((((c.cells.length:Int)+1)).toNat)]),some (.cells [.i A2]),some (.cells [.i (c.cells.getD ((A2).toNat) 0)]),some (.iter ((BS (pos.getD ((c.cells.getD ((A2).toNat) 0).toNat) 0)).map Br)),some (.ints o4),some (.ints o6)]
def uX (c:AB) (q:AA) (pos:List Int) (ln:Nat) (lost:List Int) (BA:Int) (E7:List Int):DH:=[some (.cells (AG c++AD q++[.ints pos,.msl 1 1 0 ln])),some (.ints lost),some (.cells [.ref 0 0]),some (.cells [.msl 7 1 0 ((((c.cells.length:Int)+1)).toNat)]),some (.cells [.msl 8 1 0 ((((c.cells.length:Int)+1)).toNat)]),some (.cells [.i BA]),none,some (.ints E7),some (.ints ((List.replicate ((((c.cells.length:Int)+1)).toNat) (0:Int)).set (0+c.cells.length) 100))]
def uW (c:AB) (q:AA) (pos:List Int) (ln:Nat) (lost o4 Er:List Int) (BG:Int×Int):DH:=[some (.cells (AG c++AD q++[.ints pos,.msl 1 1 0 ln])),some (.ints lost),some (.cells [.ref 0 0]),some (.cells [.msl 6 1 0 ((((c.cells.length:Int)+1)).toNat)]),some (.cells [.msl 7 1 0 ((((c.cells.length:Int)+1)).toNat)]),none,some (.ints o4),some (.ints Er),some (.cells [.i BG.1])]
def uh (c:AB) (q:AA) (pos:List Int) (ln:Nat) (lost o4 Er:List Int) (BG:Int×Int):DH:=[some (.cells (AG c++AD q++[.ints pos,.msl 1 1 0 ln])),some (.ints lost),some (.cells [.ref 0 0]),some (.cells [.msl 6 1 0 ((((c.cells.length:Int)+1)).toNat)]),some (.cells [.msl 7 1 0 ((((c.cells.length:Int)+1)).toNat)]),none,some (.ints o4),some (.ints (Er.set (0+((BG.1).toNat)) (-1))),some (.cells [.i BG.1])]
def ug (c:AB) (q:AA) (pos:List Int) (ln:Nat) (lost:List Int) (BG:Int×Int) (o4 Er:List Int):DH:=[some (.cells (AG c++AD q++[.ints pos,.msl 1 1 0 ln])),some (.ints lost),some (.cells [.ref 0 0]),some (.cells [.msl 8 1 0 ((((c.cells.length:Int)+1)).toNat)]),some (.cells [.msl 9 1 0 ((((c.cells.length:Int)+1)).toNat)]),none,some (.cells [.i BG.1]),some (.iter ((BS (pos.getD ((BG.2).toNat) 0)).map Br)),some (.ints o4),some (.ints (Er.set (0+((BG.1).toNat)) (-1)))]
def Y8 (c:AB) (q:AA) (pos:List Int) (ln:Nat) (Fp:List Int) (A2:Int) (o4 o6:List Int):DH:=[some (.cells (AG c++AD q++[.ints pos,.msl 1 1 0 ln])),some (.ints Fp),some (.cells [.ref 0 0]),some (.cells [.msl 8 1 0 ((((c.cells.length:Int)+1)).toNat)]),some (.cells [.msl 9 1 0 ((((c.cells.length:Int)+1)).toNat)]),some (.cells [.i A2]),some (.cells [.i (c.cells.getD ((A2).toNat) 0)]),none,some (.ints o4),some (.ints o6)]
def S8 (c:AB) (q:AA) (pos:List Int) (ln:Nat) (IS:(List Int)) (A2:Int) (o4 o6:List Int):St:=⟨(AL 178 []),([some (.cells (AG c++AD q++[.ints pos,.msl 1 1 0 ln])),some (.ints IS),some (.cells [.ref 0 0]),some (.cells [.msl 8 1 0 ((((c.cells.length:Int)+1)).toNat)]),some (.cells [.msl 9 1 0 ((((c.cells.length:Int)+1)).toNat)]),some (.cells [.i A2]),some (.cells [.i (c.cells.getD ((A2).toNat) 0)]),none,some (.ints o4),some (.ints o6)]:DH)⟩
def uf (c:AB) (q:AA) (pos:List Int) (ln:Nat) (lost:List Int) (BG:Int×Int) (o4 E8:List Int):DH:=[some (.cells (AG c++AD q++[.ints pos,.msl 1 1 0 ln])),some (.ints lost),some (.cells [.ref 0 0]),some (.cells [.msl 8 1 0 ((((c.cells.length:Int)+1)).toNat)]),some (.cells [.msl 9 1 0 ((((c.cells.length:Int)+1)).toNat)]),none,some (.cells [.i BG.1]),none,some (.ints o4),some (.ints E8)]
inductive KY where
 | s0 (E8:List Int)
def dQ (c:AB) (q:AA) (pos:List Int) (ln:Nat) (lost:List Int) (BG:Int×Int) (o4:List Int):KY -> DH
 | .s0 E8=>[some (.cells (AG c++AD q++[.ints pos,.msl 1 1 0 ln])),some (.ints lost),some (.cells [.ref 0 0]),some (.cells [.msl 8 1 0 ((((c.cells.length:Int)+1)).toNat)]),some (.cells [.msl 9 1 0 ((((c.cells.length:Int)+1)).toNat)]),none,some (.cells [.i BG.1]),none,some (.ints o4),some (.ints E8)]
def Tb (n:Nat) (c:AB) (q:AA) (pos:List Int) (ln:Nat) (lost:List Int) (BG:Int×Int) (o4:List Int) (GQ:Int) (E8:List Int):Option KY:=
 if (0<=GQ/\ GQ<(q.values.length:Int))/\ AH (BG.1+1)/\ (0<=(BG.1+1)/\ (BG.1+1)<(((((c.cells.length:Int)+1)).toNat:Nat):Int))/\ 0+(((BG.1+1)).toNat)<E8.length then
  bif (decide ((q.values.getD ((GQ).toNat) 0)<(E8.getD (0+(((BG.1+1)).toNat)) 0))) then
   if (0<=BG.1/\ BG.1<(((((c.cells.length:Int)+1)).toNat:Nat):Int))/\ 0+((BG.1).toNat)<E8.length then
    some (.s0 (E8.set (0+((BG.1).toNat)) (if (q.values.getD ((GQ).toNat) 0)>(E8.getD (0+((BG.1).toNat)) 0) then (q.values.getD ((GQ).toNat) 0) else (E8.getD (0+((BG.1).toNat)) 0))))
   else none
  else
   some (.s0 E8)
 else none
def dO (n:Nat) (c:AB) (q:AA) (pos:List Int) (ln:Nat) (lost:List Int) (BG:Int×Int) (o4:List Int) (GQ:Int):KY -> Option KY
 | .s0 E8=>Tb n c q pos ln lost BG o4 GQ E8
def QC (n:Nat) (c:AB) (q:AA) (pos:List Int) (ln:Nat) (lost:List Int) (BG:Int×Int) (o4:List Int) (GQ:Int) (s:KY):Option KY:=dO n c q pos ln lost BG o4 GQ s
theorem oT (n:Nat) (c:AB) (q:AA) (pos:List Int) (ln:Nat) (lost:List Int) (BG:Int×Int) (o4:List Int) (l B:Nat) (N:Yd 8) (GQ:Int) (s:KY) (r:KY) (h:QC n c q pos ln lost BG o4 GQ s=some r):TA l B N (DL 8 [] 0 (dQ c q pos ln lost BG o4 r)) Tryz.f71 103 ⟨AL 178 [(1,.ref 2 0),(5,.ref 4 0),(10,.ref 6 0),(103,.it 7),(104,.i GQ)],dQ c q pos ln lost BG o4 s⟩:=by
 cases s with
 | s0 E8=>
  replace h:Tb n c q pos ln lost BG o4 GQ E8=some r:=h;unfold Tb at h;refine ag Dz [0,1,2,3,4,5,6,7,8,9] H0 (AL 178 [(1,.ref 2 0),(5,.ref 4 0),(10,.ref 6 0),(12,.i GQ)]) (uf c q pos ln lost BG o4 E8) fun N=>?_
  revert r;apply gO;exact gc (gi (gc (gw 116 (gc (gi (gi (bi 119 (jg my (gc (gn fun kH=>jg kH (gn fun kG=>jg kG (jg kH (jg kG (lF fun p=>rr Dz [0,1,2,3,4,5,6,7,8,9] rfl p))))))) (lF fun p=>rr Dz [0,1,2,3,4,5,6,7,8,9] rfl p))))))))
inductive JI where
 | s0 (Fp:List Int)
def dV (c:AB) (A2:Int) (q:AA) (pos:List Int) (ln:Nat) (o4 o6:List Int):JI -> DH
 | .s0 Fp=>[some (.cells (AG c++AD q++[.ints pos,.msl 1 1 0 ln])),some (.ints Fp),some (.cells [.ref 0 0]),some (.cells [.msl 8 1 0 ((((c.cells.length:Int)+1)).toNat)]),some (.cells [.msl 9 1 0 ((((c.cells.length:Int)+1)).toNat)]),some (.cells [.i A2]),some (.cells [.i (c.cells.getD ((A2).toNat) 0)]),none,some (.ints o4),some (.ints o6)]
def Td (n:Nat) (c:AB) (A2:Int) (q:AA) (pos:List Int) (ln:Nat) (o4 o6:List Int) (Eh:Int) (Fp:List Int):Option JI:=
 if (0<=Eh/\ Eh<(q.values.length:Int))/\ (0<=A2/\ A2<(((((c.cells.length:Int)+1)).toNat:Nat):Int))/\ 0+((A2).toNat)<o4.length then
  bif (decide ((q.values.getD ((Eh).toNat) 0)<=(o4.getD (0+((A2).toNat)) 0))) then
   if 0<=Eh/\ Eh<=(IntKind.i64.bits:Int) then
    (C4 n (c.cells.getD ((A2).toNat) 0) (IntKind.i64.wrap (1*2 ^ (Eh).toNat)) c q pos ln Fp).bind fun IS=>
     some (.s0 IS)
   else none
  else
   if AH (A2+1)/\ (0<=(A2+1)/\ (A2+1)<(((((c.cells.length:Int)+1)).toNat:Nat):Int))/\ 0+(((A2+1)).toNat)<o6.length then
    bif (decide ((q.values.getD ((Eh).toNat) 0)>=(o6.getD (0+(((A2+1)).toNat)) 0))) then
     if 0<=Eh/\ Eh<=(IntKind.i64.bits:Int) then
      (C4 n (c.cells.getD ((A2).toNat) 0) (IntKind.i64.wrap (1*2 ^ (Eh).toNat)) c q pos ln Fp).bind fun IS=>
       some (.s0 IS)
     else none
    else
     some (.s0 Fp)
   else none
 else none
def dU (n:Nat) (c:AB) (A2:Int) (q:AA) (pos:List Int) (ln:Nat) (o4 o6:List Int) (Eh:Int):JI -> Option JI
 | .s0 Fp=>Td n c A2 q pos ln o4 o6 Eh Fp
def Te (n:Nat) (c:AB) (A2:Int) (q:AA) (pos:List Int) (ln:Nat) (o4 o6:List Int) (Eh:Int) (s:JI):Option JI:=dU n c A2 q pos ln o4 o6 Eh s
theorem oV (n:Nat) (c:AB) (A2:Int) (q:AA) (pos:List Int) (ln:Nat) (o4 o6:List Int) (l B:Nat) (N:Yd 8) (Eh:Int) (s:JI) (r:JI) (h:Te n c A2 q pos ln o4 o6 Eh s=some r):TA l B N (DL 8 [] 0 (dV c A2 q pos ln o4 o6 r)) Tryz.f71 147 ⟨AL 178 [(1,.ref 2 0),(4,.ref 3 0),(5,.ref 4 0),(14,.ref 5 0),(15,.ref 6 0),(133,.ints c.cells),(134,.i (c.cells.length:Int)),(135,.i A2),(147,.it 7),(148,.i Eh)],dV c A2 q pos ln o4 o6 s⟩:=by
 cases s with
 | s0 Fp=>
  replace h:Td n c A2 q pos ln o4 o6 Eh Fp=some r:=h;unfold Td at h;refine ag Dz [0,1,2,3,4,5,6,7,8,9] H0 (AL 178 [(1,.ref 2 0),(4,.ref 3 0),(5,.ref 4 0),(14,.ref 5 0),(15,.ref 6 0),(16,.i Eh)]) (Y8 c q pos ln Fp A2 o4 o6) fun N=>?_
  revert r;apply gO;exact gc (gi (gc (gi (gi (bi 162 (jg ct (gi (ce FS [0,1] (Y8 c q pos ln Fp A2 o4 o6) fun IS=>jg (Eq.refl (S8 c q pos ln IS A2 o4 o6)) (lF fun p=>rr (tg:=[([],(S8 c q pos ln IS A2 o4 o6))]) Dz [0,1,2,3,4,5,6,7,8,9] rfl p)))) (gc (gw 167 (gc (gi (gi (bi 170 (jg ct (gi (ce FS [0,1] (Y8 c q pos ln Fp A2 o4 o6) fun IS=>jg (Eq.refl (S8 c q pos ln IS A2 o4 o6)) (lF fun p=>rr (tg:=[([],(S8 c q pos ln IS A2 o4 o6))]) Dz [0,1,2,3,4,5,6,7,8,9] rfl p)))) (lF fun p=>rr Dz [0,1,2,3,4,5,6,7,8,9] rfl p))))))))))))
inductive KZ where
 | s0 (Er:List Int)
def dR (c:AB) (q:AA) (pos:List Int) (ln:Nat) (lost o4:List Int):KZ -> DH
 | .s0 Er=>[some (.cells (AG c++AD q++[.ints pos,.msl 1 1 0 ln])),some (.ints lost),some (.cells [.ref 0 0]),some (.cells [.msl 6 1 0 ((((c.cells.length:Int)+1)).toNat)]),some (.cells [.msl 7 1 0 ((((c.cells.length:Int)+1)).toNat)]),none,some (.ints o4),some (.ints Er)]
def Ta (n:Nat) (c:AB) (q:AA) (pos:List Int) (ln:Nat) (lost o4:List Int) (BG:Int×Int) (Er:List Int):Option KZ:=
 if (0<=BG.1/\ BG.1<(((((c.cells.length:Int)+1)).toNat:Nat):Int))/\ 0+((BG.1).toNat)<Er.length/\ (0<=BG.2/\ BG.2<(pos.length:Int))/\ (0<=(pos.getD ((BG.2).toNat) 0)/\ (pos.getD ((BG.2).toNat) 0)<9223372036854775808) then
  (By (QC n c q pos ln lost BG o4) (BS (pos.getD ((BG.2).toNat) 0)) (.s0 (Er.set (0+((BG.1).toNat)) (-1)))).bind fun aJ=>
   match aJ with
   | .s0 kB=>
    some (.s0 kB)
 else none
def dN (n:Nat) (c:AB) (q:AA) (pos:List Int) (ln:Nat) (lost o4:List Int) (BG:Int×Int):KZ -> Option KZ
 | .s0 Er=>Ta n c q pos ln lost o4 BG Er
def QD (n:Nat) (c:AB) (q:AA) (pos:List Int) (ln:Nat) (lost o4:List Int) (BG:Int×Int) (s:KZ):Option KZ:=dN n c q pos ln lost o4 BG s
theorem oS (n:Nat) (c:AB) (q:AA) (pos:List Int) (ln:Nat) (lost o4:List Int) (l B:Nat) (N:Yd 6) (BG:Int×Int) (s:KZ) (r:KZ) (h:QD n c q pos ln lost o4 BG s=some r):TA l B N (DL 6 [] 0 (dR c q pos ln lost o4 r)) Tryz.f71 90 ⟨AL 178 [(1,.ref 2 0),(4,.ref 3 0),(5,.ref 4 0),(90,.it 5),(91,.i BG.1),(92,.i BG.2)],dR c q pos ln lost o4 s⟩:=by
 cases s with
 | s0 Er=>
  replace h:Ta n c q pos ln lost o4 BG Er=some r:=h;unfold Ta at h;refine ag Dz [0,1,2,3,4,5,6,7,8] (H0.t) (AL 178 [(1,.ref 2 0),(5,.ref 4 0),(10,.ref 8 0),(11,.i BG.2)]) (uW c q pos ln lost o4 Er BG) fun N=>?_
  revert r;apply gO
  exact gc (gi (gc (gi (gc (gi (gn fun yx=>jc (JB yx (uh c q pos ln lost o4 Er BG)) (cn fun aJ wC=>fun p r h=>by
   refine gs Dz [0,1,2,3,4,5,8,9,6,7] p (Gn (Tf Tryz.f71 90) 103 []) (AL 178 [(1,.ref 2 0),(5,.ref 4 0),(10,.ref 6 0),(103,.it 7)]) (ug c q pos ln lost BG o4 Er) ?_;refine r0 7 103 #[104] Br 8 wC (oT n c q pos ln lost BG o4) ?_;cases aJ with
   | s0 kB=>
    dsimp only at h
    revert r;apply gO;exact lF fun p=>rr Dz [0,1,2,3,4,5,8,9] rfl p)))))))
inductive Ka where
 | s0 (E7:List Int)
def dT (c:AB) (BA:Int) (q:AA) (pos:List Int) (ln:Nat) (lost:List Int):Ka -> DH
 | .s0 E7=>[some (.cells (AG c++AD q++[.ints pos,.msl 1 1 0 ln])),some (.ints lost),some (.cells [.ref 0 0]),some (.cells [.msl 7 1 0 ((((c.cells.length:Int)+1)).toNat)]),some (.cells [.msl 8 1 0 ((((c.cells.length:Int)+1)).toNat)]),some (.cells [.i BA]),none,some (.ints E7),some (.ints ((List.replicate ((((c.cells.length:Int)+1)).toNat) (0:Int)).set (0+c.cells.length) 100))]
def Tc (n:Nat) (c:AB) (BA:Int) (q:AA) (pos:List Int) (ln:Nat) (lost:List Int) (GP:Int) (E7:List Int):Option Ka:=
 if (0<=GP/\ GP<(q.values.length:Int))/\ (0<=BA/\ BA<(((((c.cells.length:Int)+1)).toNat:Nat):Int))/\ 0+((BA).toNat)<E7.length then
  bif (decide ((q.values.getD ((GP).toNat) 0)>(E7.getD (0+((BA).toNat)) 0))) then
   if AH (BA+1)/\ (0<=(BA+1)/\ (BA+1)<(((((c.cells.length:Int)+1)).toNat:Nat):Int))/\ 0+(((BA+1)).toNat)<E7.length then
    some (.s0 (E7.set (0+(((BA+1)).toNat)) (if (q.values.getD ((GP).toNat) 0)<(E7.getD (0+(((BA+1)).toNat)) 0) then (q.values.getD ((GP).toNat) 0) else (E7.getD (0+(((BA+1)).toNat)) 0))))
   else none
  else
   some (.s0 E7)
 else none
def dS (n:Nat) (c:AB) (BA:Int) (q:AA) (pos:List Int) (ln:Nat) (lost:List Int) (GP:Int):Ka -> Option Ka
 | .s0 E7=>Tc n c BA q pos ln lost GP E7
def QF (n:Nat) (c:AB) (BA:Int) (q:AA) (pos:List Int) (ln:Nat) (lost:List Int) (GP:Int) (s:Ka):Option Ka:=dS n c BA q pos ln lost GP s
theorem oU (n:Nat) (c:AB) (BA:Int) (q:AA) (pos:List Int) (ln:Nat) (lost:List Int) (l B:Nat) (N:Yd 7) (GP:Int) (s:Ka) (r:Ka) (h:QF n c BA q pos ln lost GP s=some r):TA l B N (DL 7 [] 0 (dT c BA q pos ln lost r)) Tryz.f71 57 ⟨AL 178 [(1,.ref 2 0),(4,.ref 3 0),(5,.ref 4 0),(6,.ref 5 0),(39,.ints c.cells),(40,.i (c.cells.length:Int)),(41,.i BA),(57,.it 6),(58,.i GP)],dT c BA q pos ln lost s⟩:=by
 cases s with
 | s0 E7=>
  replace h:Tc n c BA q pos ln lost GP E7=some r:=h;unfold Tc at h;refine ag Dz [0,1,2,3,4,5,6,7,8] H0 (AL 178 [(1,.ref 2 0),(4,.ref 3 0),(6,.ref 5 0),(8,.i GP)]) (uX c q pos ln lost BA E7) fun N=>?_
  revert r;apply gO;exact gc (gi (gc (gi (gi (bi 72 (jg m4 (gc (gn fun kF=>jw 75 kF (jw 78 kF (gc (gn fun kE=>jg kE (gn fun kD=>jg kD (jg kE (jg kD (lF fun p=>rr Dz [0,1,2,3,4,5,6,7,8] rfl p)))))))))) (lF fun p=>rr Dz [0,1,2,3,4,5,6,7,8] rfl p))))))
inductive QG where
 | l1 (BA:Int) (o4:List Int)
 | l2 (A2:Int) (o1 o4 o6:List Int)
def QB (n:Nat) (self:QG -> Option (Bool×(List Int))) (c:AB) (q:AA) (pos:List Int) (ln:Nat) (lost:List Int) (BA:Int) (o4:List Int):Option (Bool×(List Int)):=
 bif (decide (BA<(c.cells.length:Int))) then
  if (0<=BA/\ BA<(c.cells.length:Int))/\ AH (BA+1)/\ (0<=(BA+1)/\ (BA+1)<(((((c.cells.length:Int)+1)).toNat:Nat):Int))/\ 0+(((BA+1)).toNat)<o4.length/\ (0<=(c.cells.getD ((BA).toNat) 0)/\ (c.cells.getD ((BA).toNat) 0)<(pos.length:Int))/\ (0<=(pos.getD ((c.cells.getD ((BA).toNat) 0).toNat) 0)/\ (pos.getD ((c.cells.getD ((BA).toNat) 0).toNat) 0)<9223372036854775808) then
   (By (QF n c BA q pos ln lost) (BS (pos.getD ((c.cells.getD ((BA).toNat) 0).toNat) 0)) (.s0 (o4.set (0+(((BA+1)).toNat)) 100))).bind fun y1=>
    match y1 with
    | .s0 DP=>
     if AH (BA+1) then
      self (.l1 (BA+1) DP)
     else none
  else none
 else
  (back n c.cells).bind fun y1=>
   (By (QD n c q pos ln lost o4) y1 (.s0 ((List.replicate ((((c.cells.length:Int)+1)).toNat) (0:Int)).set (0+c.cells.length) 100))).bind fun y2=>
    match y2 with
    | .s0 J9=>
     self (.l2 0 lost o4 J9)
def QA (n:Nat) (self:QG -> Option (Bool×(List Int))) (c:AB) (q:AA) (pos:List Int) (ln:Nat) (lost:List Int) (A2:Int) (o1 o4 o6:List Int):Option (Bool×(List Int)):=
 bif (decide (A2<(c.cells.length:Int))) then
  if (0<=A2/\ A2<(c.cells.length:Int))/\ (0<=(c.cells.getD ((A2).toNat) 0)/\ (c.cells.getD ((A2).toNat) 0)<(pos.length:Int))/\ (0<=(pos.getD ((c.cells.getD ((A2).toNat) 0).toNat) 0)/\ (pos.getD ((c.cells.getD ((A2).toNat) 0).toNat) 0)<9223372036854775808) then
   (By (Te n c A2 q pos ln o4 o6) (BS (pos.getD ((c.cells.getD ((A2).toNat) 0).toNat) 0)) (.s0 o1)).bind fun y1=>
    match y1 with
    | .s0 DP=>
     if AH (A2+1) then
      self (.l2 (A2+1) DP o4 o6)
     else none
  else none
 else
  some (true,o1)
def dM (n:Nat) (self:QG -> Option (Bool×(List Int))) (c:AB) (q:AA) (pos:List Int) (ln:Nat) (lost:List Int):Option (Bool×(List Int)):=
 if AH ((c.cells.length:Int)+1)/\ ((((c.cells.length:Int)+1):Int)=((c.cells.length:Int)+1)/\ (0:Int)<=((c.cells.length:Int)+1)/\ (((c.cells.length:Int)+1):Int)<=1000000000000)/\ ((0:Int)<=0/\ 0<(((((c.cells.length:Int)+1)).toNat:Nat):Int))/\ 0+0<(List.replicate ((((c.cells.length:Int)+1)).toNat) (0:Int)).length/\ (0<=(c.cells.length:Int)/\ (c.cells.length:Int)<(((((c.cells.length:Int)+1)).toNat:Nat):Int))/\ 0+c.cells.length<(List.replicate ((((c.cells.length:Int)+1)).toNat) (0:Int)).length then
  self (.l1 0 ((List.replicate ((((c.cells.length:Int)+1)).toNat) (0:Int)).set (0+0) (-1)))
 else none
def HB (c:AB) (q:AA) (pos:List Int) (ln:Nat) (lost:List Int):Nat -> QG -> Option (Bool×(List Int))
 | 0,_=>none
 | n+1,.l1 BA o4=>QB n (HB c q pos ln lost n) c q pos ln lost BA o4
 | n+1,.l2 A2 o1 o4 o6=>QA n (HB c q pos ln lost n) c q pos ln lost A2 o1 o4 o6
def Kb (n:Nat) (c:AB) (q:AA) (pos:List Int) (ln:Nat) (lost:List Int):Option (Bool×(List Int)):=dM n (HB c q pos ln lost n) c q pos ln lost
def oW (n B:Nat) (N:Yd 2) (c:AB) (q:AA) (pos:List Int) (ln:Nat) (lost:List Int) (r:Bool×(List Int)):QG -> Prop
 | .l1 BA o4=>∀ m0:Nat,n<=m0 -> TW B N (FQ Tryz.f71 2 (.bool r.1) [some (.cells (AG c++AD q++[.ints pos,.msl 1 1 0 ln])),some (.ints r.2)]) (Ak m0 (Ap (Aa Tryz.f71) 0 [])) ⟨AL 178 [(1,.ref 2 0),(4,.ref 3 0),(5,.ref 5 0),(39,.ints c.cells),(40,.i (c.cells.length:Int)),(41,.i BA)],[some (.cells (AG c++AD q++[.ints pos,.msl 1 1 0 ln])),some (.ints lost),some (.cells [.ref 0 0]),some (.cells [.msl 4 1 0 ((((c.cells.length:Int)+1)).toNat)]),some (.ints o4),some (.cells [.msl 6 1 0 ((((c.cells.length:Int)+1)).toNat)]),some (.ints ((List.replicate ((((c.cells.length:Int)+1)).toNat) (0:Int)).set (0+c.cells.length) 100))]⟩
 | .l2 A2 o1 o4 o6=>∀ m0:Nat,n<=m0 -> TW B N (FQ Tryz.f71 2 (.bool r.1) [some (.cells (AG c++AD q++[.ints pos,.msl 1 1 0 ln])),some (.ints r.2)]) (Ak m0 (Ap (Aa Tryz.f71) 8 [])) ⟨AL 178 [(1,.ref 2 0),(4,.ref 3 0),(5,.ref 5 0),(133,.ints c.cells),(134,.i (c.cells.length:Int)),(135,.i A2)],[some (.cells (AG c++AD q++[.ints pos,.msl 1 1 0 ln])),some (.ints o1),some (.cells [.ref 0 0]),some (.cells [.msl 4 1 0 ((((c.cells.length:Int)+1)).toNat)]),some (.ints o4),some (.cells [.msl 6 1 0 ((((c.cells.length:Int)+1)).toNat)]),some (.ints o6)]⟩
theorem oX (B:Nat) (N:Yd 2) (c:AB) (q:AA) (pos:List Int) (ln:Nat) (lost:List Int):Al (HB c q pos ln lost) (oW · B N c q pos ln lost):=ia (fun _=>rfl) fun n AF pt r h=>by
 cases pt
 case l1 BA o4=>
  intro m0 AC;refine rd AC fun m0 AC=>?_
  revert r;apply gO
  exact bi 42 (gc (gi (jt (gc (gw 48 (gc (gi (gc (gi (gc (gi (gn fun g5=>jc (JB g5 (ue c q pos ln lost o4 BA)) (cn fun y1 A5=>fun p r h=>by
   refine gs Dz [0,1,2,3,5,7,8,4,6] p (Gn (Aa Tryz.f71) 57 [m0]) (AL 178 [(1,.ref 2 0),(4,.ref 3 0),(5,.ref 4 0),(6,.ref 5 0),(39,.ints c.cells),(40,.i (c.cells.length:Int)),(41,.i BA),(57,.it 6)]) (ud c q pos ln lost BA o4) ?_;refine r0 6 57 #[58] Br 7 A5 (oU n c BA q pos ln lost) ?_;cases y1 with
   | s0 DP=>
    dsimp only at h
    revert r;apply gO;exact gw 84 (lG Dz [0,1,2,3,7,4,8] (AF _ _ · m0 AC))))))))))))))) (cn fun y1 A5=>jc (yv A5 (uc c q pos ln lost o4)) (cn fun y2 CQ=>fun p r h=>by
   refine gs Dz [0,1,2,3,5,7,4,6] p (Gn (Aa Tryz.f71) 90 []) (AL 178 [(1,.ref 2 0),(4,.ref 3 0),(5,.ref 4 0),(90,.it 5)]) (ub c q pos ln lost y1 o4) ?_;refine r0 5 90 #[91,92] M0 6 CQ (oS n c q pos ln lost o4) ?_;cases y2 with
   | s0 J9=>
    dsimp only at h
    revert r;apply gO;exact lN Dz [0,1,2,3,6,4,7] (AF _ _ · n Nat.le.refl)))
 case l2 A2 o1 o4 o6=>
  intro m0 AC;refine rd AC fun m0 AC=>?_
  revert r;apply gO
  exact bi 136 (gc (gi (jt (jt (jg mx (gc (gi (gn fun g2=>jc (JB g2 (uZ c q pos ln o1 o4 o6 A2)) (cn fun y1 A5=>fun p r h=>by
   refine gs Dz [0,1,2,3,5,7,8,9,4,6] p (Gn (Aa Tryz.f71) 147 [m0]) (AL 178 [(1,.ref 2 0),(4,.ref 3 0),(5,.ref 4 0),(14,.ref 5 0),(15,.ref 6 0),(133,.ints c.cells),(134,.i (c.cells.length:Int)),(135,.i A2),(147,.it 7)]) (uY c q pos ln o1 A2 o4 o6) ?_;refine r0 7 147 #[148] Br 8 A5 (oV n c A2 q pos ln o4 o6) ?_;cases y1 with
   | s0 DP=>
    dsimp only at h
    revert r;apply gO;exact gw 177 (lG Dz [0,1,2,3,8,4,9] (AF _ _ · m0 AC))))))))))) (lE Dz [2] [0,1])
theorem oR {n:Nat} {c:AB} {q:AA} {pos:List Int} {ln:Nat} {lost:List Int} {r:Bool×(List Int)} (h:Kb n c q pos ln lost=some r):EQ 71 [.ref 0 0] [some (.cells (AG c++AD q++[.ints pos,.msl 1 1 0 ln])),some (.ints lost)] (.bool r.1) [some (.cells (AG c++AD q++[.ints pos,.msl 1 1 0 ln])),some (.ints r.2)] false:=by
 refine ot Tryz.func71 fun B N=>?_
 revert r;apply gO;exact jg mz (gc (gn fun g0=>jw 25 g0 (jw 28 g0 (gc (gn fun g1=>jg g1 (jg g1 (jt (jt (jg (Eq.refl (CL c q pos ln lost)) (jt (jt (jg (Eq.refl (CL c q pos ln lost)) (jg g1 (jt (jt (jg (Eq.refl (CL c q pos ln lost)) (jg g1 (jt (jt (jg (Eq.refl (CL c q pos ln lost)) (jt (jg g1 (jt (jg (Eq.refl (CL c q pos ln lost)) (jg g1 (jt (jt (jg (Eq.refl (CL c q pos ln lost)) (jg g1 (jt (jt (jg (Eq.refl (CL c q pos ln lost)) (jt (jg g1 (jt (jg (Eq.refl (CL c q pos ln lost)) (jg g1 (jg g1 (jt (jt (jg (Eq.refl (CL c q pos ln lost)) (jt (jt (jg (Eq.refl (CL c q pos ln lost)) (jg g1 (jt (jt (jg (Eq.refl (CL c q pos ln lost)) (jg g1 (jt (jt (jg (Eq.refl (CL c q pos ln lost)) (jg g1 (jt (jt (jg (Eq.refl (CL c q pos ln lost)) (jg g1 (jt (jt (jg (Eq.refl (CL c q pos ln lost)) (jg g1 (jg g1 (jt (jt (jg (Eq.refl (CL c q pos ln lost)) (jg g1 (jt (jt (jg (Eq.refl (CL c q pos ln lost)) (jt (jg g1 (jt (jg (Eq.refl (CL c q pos ln lost)) (jg g1 (jg g1 (jt (jt (jg (Eq.refl (CL c q pos ln lost)) (jg g1 (jt (jt (jg (Eq.refl (CL c q pos ln lost)) (jg g1 (jg g1 (jt (jt (jg (Eq.refl (CL c q pos ln lost)) (jt (jg g1 (jt (jg (Eq.refl (CL c q pos ln lost)) (jg g1 (jg g1 (jt (jt (jg (Eq.refl (CL c q pos ln lost)) (jg g1 (jg g1 (jt (jt (jg (Eq.refl (CL c q pos ln lost)) (jg g1 (jt (jt (jg (Eq.refl (CL c q pos ln lost)) (jt (jg g1 (jt (jg (Eq.refl (CL c q pos ln lost)) (jg g1 (jg g1 (jt (jt (jg (Eq.refl (CL c q pos ln lost)) (jg g1 (jt (jt (jg (Eq.refl (CL c q pos ln lost)) (jg g1 (jg g1 (jt (jt (jg (Eq.refl (CL c q pos ln lost)) (jt (jg g1 (jt (jg (Eq.refl (CL c q pos ln lost)) (jg g1 (jg g1 (jt (jt (jg (Eq.refl (CL c q pos ln lost)) (jg mw (gc (gi (gc (gi (gc (gi (gi (jg (Eq.refl (bY c q pos ln lost)) (lN (tg:=[([],(CL c q pos ln lost)),([(4,3)],(bY c q pos ln lost))]) Dz [0,1,2,5,3,6,4] ((oX B N c q pos ln lost n) _ _ · n Nat.le.refl)))))))))))))))))))))))))))))))))))))))))))))))))))))))))))))))))))))))))))))))))))))))))))))))))))))))))))))))))))))))))))))))))))))))))))))))
end Go.Proofs.YtgkhhfnhacibcaaGreatDoor
namespace Go.Proofs.YtgkhhfnhacibcaaGreatDoor
open Go.RowKit
theorem Ju {l:List Int} {i:Nat} {a:Int} (h:i<l.length):(l.set i a).getD i 0=a:=by
 rw [u8,zA4 h];rfl
theorem getD_set_ne {l:List Int} {i j:Nat} {a:Int} (h:i≠j):(l.set i a).getD j 0=l.getD j 0:=by
 rw [u8,zAu h,←u8]
def NL (q:AA) (b a e:Int):Int:=if q.values.getD e.toNat 0>b then (if q.values.getD e.toNat 0<a then q.values.getD e.toNat 0 else a) else a
def M2 (q:AA) (b a e:Int):Int:=if q.values.getD e.toNat 0<b then (if q.values.getD e.toNat 0>a then q.values.getD e.toNat 0 else a) else a
def J2 (q:AA) (c:AB) (pos:List Int):Nat -> Int
 | 0=>-1
 | i+1=>(BS (AV c pos i)).foldl (NL q (J2 q c pos i)) 100
def PE (q:AA) (c:AB) (pos:List Int):Nat -> Int
 | 0=>100
 | m+1=>(BS (AV c pos (c.cells.length-1-m))).foldl (M2 q (PE q c pos m)) (-1)
def IU (q:AA) (c:AB) (pos:List Int) (i:Nat):Int:=PE q c pos (c.cells.length-i)
def Ie (q:AA) (c:AB) (pos:List Int) (a s:Nat):Bool:=decide (q.values.getD s 0<=J2 q c pos a)||decide (q.values.getD s 0>=IU q c pos (a+1))
def Se (l:List Int):Nat -> List (Int×Int)
 | 0=>[]
 | m+1=>((m:Int),l.getD m 0)::Se l m
theorem j8 {l:List Int}: ∀ (m n:Nat),m<=l.length -> l.length<=LB -> m+1<=n -> LJ l n (.l1 ((m:Int)-1))=some (Se l m)
 | 0,n,_,_,hn=>by
  obtain ⟨n,rfl⟩: ∃ k,n=k+1:=⟨n-1,by omega⟩
  show M5 n (LJ l n) l _=_
  unfold M5;rw [ze (by omega),zg];rfl
 | m+1,n,hm,hl,hn=>by
  obtain ⟨n,rfl⟩: ∃ k,n=k+1:=⟨n-1,by omega⟩;have e:((m+1:Nat):Int)-1=(m:Int):=by omega
  have hb:LB<=9223372036854775807:=by decide
  rw [e]
  show M5 n (LJ l n) l _=_
  unfold M5;rw [zn (by omega),zk,zi ⟨by omega,by omega⟩,zi (Aq.2 ⟨by omega,by omega⟩),j8 m n (by omega) hl (by omega),zl];rfl
theorem yr {l:List Int} {n:Nat} (hl:l.length<=LB) (hn:l.length+1<=n):back n l=some (Se l l.length):=by
 have hb:LB<=9223372036854775807:=by decide
 unfold back aH;rw [zi (Aq.2 ⟨by omega,by omega⟩),j8 l.length n (zAF _) hl hn]
section
variable {c:AB} {k:Nat} {pos lost:List Int} {q:AA}
theorem dJ {n ln i:Nat} (Af:c.cells.length<=256) (hi:i<c.cells.length) {o:List Int} (ho:o.length=c.cells.length+1): ∀ (l:List Int) (a:Int),(∀ e∈l,0<=e/\ e<((q.values.length:Nat):Int)) ->
 By (QF n c (i:Int) q pos ln lost) l (.s0 (o.set (i+1) a))=some (.s0 (o.set (i+1) (l.foldl (NL q (o.getD i 0)) a)))
 | [],_,_=>rfl
 | e::l,a,h=>by
  have t1:((((c.cells.length:Nat):Int)+1).toNat:Nat)=c.cells.length+1:=by omega
  have t2:(((i:Int)+1).toNat:Nat)=i+1:=by omega
  have e1:QF n c (i:Int) q pos ln lost e (.s0 (o.set (i+1) a))=some (.s0 (o.set (i+1) (NL q (o.getD i 0) a e))):=by
   unfold QF dS Tc
   dsimp only
   simp only [zl,t1,t2,zAA,zAK,ho];rw [zi ⟨h e (.head _),by omega,by omega⟩,getD_set_ne (by omega),Ju (by omega),List.set_set];unfold NL
   by_cases hA:q.values.getD e.toNat 0>o.getD i 0
   ·rw [zn hA,zk,zi ⟨Aq.2 ⟨by omega,by omega⟩,by omega,by omega⟩,zi hA]
   ·rw [ze hA,zg,zr hA]
  simp only [By];rw [e1,zh,dJ Af hi ho l _ fun e he=>h e (.tail _ he)];rfl
theorem dK {n ln i:Nat} {x:Int} {o4:List Int} (Af:c.cells.length<=256) (hi:i<c.cells.length) {o:List Int} (ho:o.length=c.cells.length+1): ∀ (l:List Int) (a:Int),(∀ e∈l,0<=e/\ e<((q.values.length:Nat):Int)) ->
 By (QC n c q pos ln lost ((i:Int),x) o4) l (.s0 (o.set i a))=some (.s0 (o.set i (l.foldl (M2 q (o.getD (i+1) 0)) a)))
 | [],_,_=>rfl
 | e::l,a,h=>by
  have t1:((((c.cells.length:Nat):Int)+1).toNat:Nat)=c.cells.length+1:=by omega
  have t2:(((i:Int)+1).toNat:Nat)=i+1:=by omega
  have e1:QC n c q pos ln lost ((i:Int),x) o4 e (.s0 (o.set i a))=some (.s0 (o.set i (M2 q (o.getD (i+1) 0) a e))):=by
   unfold QC dO Tb
   dsimp only
   simp only [zl,t1,t2,zAA,zAK,ho];rw [zi ⟨h e (.head _),Aq.2 ⟨by omega,by omega⟩,by omega,by omega⟩,getD_set_ne (by omega),Ju (by omega),List.set_set];unfold M2
   by_cases hA:q.values.getD e.toNat 0<o.getD (i+1) 0
   ·rw [zn hA,zk,zi ⟨by omega,by omega⟩,zi hA]
   ·rw [ze hA,zg,zr hA]
  simp only [By];rw [e1,zh,dK Af hi ho l _ fun e he=>h e (.tail _ he)];rfl
theorem Sm.i63 (hk:k<=16) {x:Int} (h:Sm k x):0<=x/\ x<9223372036854775808:=by
 have h1:=Lv (k:=k) (zt hk (by decide));obtain ⟨h2,h3⟩:=h;omega
theorem dL {n:Nat} {o4:List Int} (W:Bz c k pos) (V:Fb q k): ∀ (m:Nat) (o:List Int),m<=c.cells.length -> o.length=c.cells.length+1 -> (∀ j,m<=j -> j<=c.cells.length -> o.getD j 0=IU q c pos j) ->
 ∃ o',By (QD n c q pos pos.length lost o4) (Se c.cells m) (.s0 o)=some (.s0 o')/\ o'.length=c.cells.length+1/\ ∀ j,j<=c.cells.length -> o'.getD j 0=IU q c pos j
 | 0,o,_,ho,h=>⟨o,rfl,ho,fun j hj=>h j (zBT _) hj⟩
 | m+1,o,hm,ho,h=>by
  have hc:=W.cells m (by omega);have CR:=W.at (a:=m) (by omega);have Af:=W.len;have t1:((((c.cells.length:Nat):Int)+1).toNat:Nat)=c.cells.length+1:=by omega
  have e1:QD n c q pos pos.length lost o4 ((m:Int),c.cells.getD m 0) (.s0 o)=some (.s0 (o.set m (IU q c pos m))):=by
   unfold QD dN Ta
   dsimp only
   simp only [zl,t1,zAA];rw [zi ⟨by omega,by omega,hc,CR.i63 W.k⟩];refine (congrArg (fun z=>Option.bind z _) (dK Af (by omega) ho (BS (AV c pos m)) (-1) fun e he=>(V.sym W.k CR e he).1)).trans ?_;rw [zh]
   have e2:IU q c pos m=(BS (AV c pos m)).foldl (M2 q (o.getD (m+1) 0)) (-1):=by
    rw [h (m+1) (zAF _) hm];unfold IU;rw [show c.cells.length-m=c.cells.length-(m+1)+1 by omega];simp only [PE];rw [show c.cells.length-1-(c.cells.length-(m+1))=m by omega]
   rw [e2]
  obtain ⟨o',h1,h2,h3⟩:=dL W V m (o.set m (IU q c pos m)) (by omega) (by rw [zAK];exact ho) fun j hj GL=>by
   by_cases e:m=j
   ·subst e;exact Ju (by omega)
   ·rw [getD_set_ne e];exact h j (by omega) GL
  refine ⟨o',?_,h2,h3⟩;simp only [Se,By];rw [e1,zh,h1]
theorem oO {n:Nat} {o4 o6:List Int} (W:Bz c k pos) (V:Fb q k) (h4:o4.length=c.cells.length+1) (h6:o6.length=c.cells.length+1) (hb: ∀ j,j<=c.cells.length -> o4.getD j 0=J2 q c pos j) (ha: ∀ j,j<=c.cells.length -> o6.getD j 0=IU q c pos j) (hl:lost.length=pos.length) (hn:c.cells.length+1<=n):
 ∃ l,HB c q pos pos.length lost n (.l2 0 lost o4 o6)=some (true,l)/\ Bo c pos lost c.cells.length (fun a s=>Ie q c pos a s=true) l:=by
 have lt: ∀ i,i<c.cells.length -> ((i:Nat):Int)<((c.cells.length:Nat):Int):=fun i hi=>by omega
 have t1:((((c.cells.length:Nat):Int)+1).toNat:Nat)=c.cells.length+1:=by omega
 have Af:=W.len
 have T:=Gg (fun n (s:List Int) i=>HB c q pos pos.length lost n (.l2 i s o4 o6)) c.cells.length 1
  (fun i s=>Bo c pos lost i (fun a s=>Ie q c pos a s=true) s) (fun n i s FD hi hI=>?_) (n:=n) (s:=lost) (by omega) (Bo.zero hl)
 ·obtain ⟨n3,l,RU,_,e2,hL⟩:=T;obtain ⟨n4,rfl⟩: ∃ n4,n3=n4+1:=⟨n3-1,by omega⟩;refine ⟨l,e2.trans ?_,hL⟩
  show QA n4 (HB c q pos pos.length lost n4) c q pos pos.length lost (c.cells.length:Int) l o4 o6=_
  unfold QA;rw [ze (by omega),zg]
 ·have hc:=W.cells i hi;have hr:=W.r64 hi;have CR:=W.at hi;have t2:(((i:Int)+1).toNat:Nat)=i+1:=by omega
  obtain ⟨l',e1,n1,f1⟩:=fY (n:=n) (q:=q) W hi hI.1 JI.s0 (Te n c (i:Int) q pos pos.length o4 o6) (Ie q c pos i) fun s l hs hl=>by
   have FW:=V.len;have g1:(0:Int)<=(s:Int)/\ (s:Int)<((q.values.length:Nat):Int):=by omega
   have hk:=W.k;have g2:(0:Int)<=(s:Int)/\ (s:Int)<=((IntKind.i64.bits:Nat):Int):=⟨by omega,by show (s:Int)<=64;omega⟩;obtain ⟨l2,e2,_,_⟩:=JZ (lost:=l) (n:=n) (ss:=IntKind.i64.wrap (1*2 ^ s)) (c:=c) (q:=q) hc.1 hc.2 hl;unfold Ie Te dU Td
   dsimp only
   simp only [zl,t1,t2,zAA,h4,h6];rw [zi ⟨g1,by omega,by omega⟩,hb i (by omega),ha (i+1) (by omega)];cases hA:decide (q.values.getD s 0<=J2 q c pos i)
   ·rw [zg,zi ⟨Aq.2 ⟨by omega,by omega⟩,by omega,by omega⟩,zBS];cases hB:decide (q.values.getD s 0>=IU q c pos (i+1))
    ·rfl
    ·rw [zk,zk,zi g2,e2];rfl
   ·rw [zk,Bool.true_or,zk,zi g2,e2];rfl
  show ∃ s',QA n (HB c q pos pos.length lost n) c q pos pos.length lost (i:Int) s o4 o6=_/\ _
  unfold QA;rw [zn (lt i hi),zk];simp only [zl];rw [zi ⟨⟨by omega,lt i hi⟩,hc,CR.i63 W.k⟩];refine ⟨l',?_,hI.step n1 f1⟩;refine (congrArg (fun z=>Option.bind z _) e1).trans ?_;rw [zh];simp only;rw [zi hr.2]
theorem oP {n:Nat} (W:Bz c k pos) (V:Fb q k) (hl:lost.length=pos.length) (hn:2*c.cells.length+3<=n):
 ∃ l,Kb n c q pos pos.length lost=some (true,l)/\ Bo c pos lost c.cells.length (fun a s=>Ie q c pos a s=true) l:=by
 have lt: ∀ i,i<c.cells.length -> ((i:Nat):Int)<((c.cells.length:Nat):Int):=fun i hi=>by omega
 have t1:((((c.cells.length:Nat):Int)+1).toNat:Nat)=c.cells.length+1:=by omega
 have Af:=W.len
 have S:=Gg (fun n (s:List Int) i=>HB c q pos pos.length lost n (.l1 i s)) c.cells.length (c.cells.length+3)
  (fun i s=>s.length=c.cells.length+1/\ ∀ j,j<=i -> s.getD j 0=J2 q c pos j) (fun n i s _ hi hI=>?_) (n:=n) (s:=(List.replicate (c.cells.length+1) (0:Int)).set 0 (-1)) (by omega) ⟨by simp,fun j hj=>?_⟩
 ·obtain ⟨n1,o4,F0,_,e1,h4,hb⟩:=S;obtain ⟨n2,rfl⟩: ∃ n2,n1=n2+1:=⟨n1-1,by omega⟩
  have e0:Kb n c q pos pos.length lost=HB c q pos pos.length lost n (.l1 0 ((List.replicate (c.cells.length+1) (0:Int)).set 0 (-1))):=by
   unfold Kb dM;simp only [t1,zAA,zx];rw [zi ⟨Aq.2 ⟨by omega,by omega⟩,⟨trivial,by omega,by omega⟩,⟨by omega,by omega⟩,by omega,⟨by omega,by omega⟩,by omega⟩]
  have e2:Kb n c q pos pos.length lost=QB n2 (HB c q pos pos.length lost n2) c q pos pos.length lost (c.cells.length:Int) o4:=e0.trans e1;unfold QB at e2;rw [ze (by omega),zg,yr (zt Af (by decide)) (by omega),zh] at e2;simp only [t1,zAA] at e2
  obtain ⟨o6,e3,h6,ha⟩:=dL (lost:=lost) (n:=n2) (o4:=o4) W V c.cells.length ((List.replicate (c.cells.length+1) (0:Int)).set c.cells.length 100) (zAF _) (by simp) fun j hj GL=>by
   obtain rfl:j=c.cells.length:=by omega
   rw [Ju (by simp)];unfold IU;rw [Nat.sub_self];rfl
  rw [e3,zh] at e2;obtain ⟨l,e4,hL⟩:=oO (n:=n2) W V h4 h6 (fun j hj=>hb j hj) ha hl (by omega);exact ⟨l,e2.trans e4,hL⟩
 ·obtain ⟨h4,hb⟩:=hI;have hc:=W.cells i hi;have hr:=W.r64 hi;have CR:=W.at hi;have t2:(((i:Int)+1).toNat:Nat)=i+1:=by omega
  show ∃ s',QB n (HB c q pos pos.length lost n) c q pos pos.length lost (i:Int) s=_/\ _
  unfold QB;rw [zn (lt i hi),zk];simp only [zl,t1,t2,zAA];rw [zi ⟨⟨by omega,lt i hi⟩,hr.2,by omega,by omega,hc,CR.i63 W.k⟩];refine ⟨s.set (i+1) (J2 q c pos (i+1)),?_,by rw [zAK];exact h4,fun j hj=>?_⟩
  ·refine (congrArg (fun z=>Option.bind z _) (dJ Af hi h4 (BS (AV c pos i)) 100 fun e he=>(V.sym W.k CR e he).1)).trans ?_;rw [zh];simp only;rw [zi hr.2,hb i (zAF _)];rfl
  ·by_cases e:i+1=j
   ·subst e;exact Ju (by omega)
   ·rw [getD_set_ne e];exact hb j (by omega)
 ·obtain rfl:j=0:=by omega
  rw [Ju (by simp)];rfl
end
end Go.Proofs.YtgkhhfnhacibcaaGreatDoor
namespace Go.Proofs.YtgkhhfnhacibcaaGreatDoor
open Go.RowKit
section
variable {k:Nat}
theorem eG {T1 T2:Type} (JX:List Int -> Int -> Int -> T1) (Nz:List Int -> Int -> Int -> T2) (f1:Int -> Int -> T1 -> Option T1) (f2:Int -> T2 -> Option T2) (ok:Nat -> Nat -> Bool) {a b:Int} (ha:Sm k a) (hb:Sm k b) (hk:k<=16)
 (h1: ∀ (s t:Nat) (l:List Int) (x y:Int),s<k -> t<k -> f1 s t (JX l x y)=some (bif ok s t then JX l (bits .or .i64 x (IntKind.i64.wrap (1*2 ^ s))) (bits .or .i64 y (IntKind.i64.wrap (1*2 ^ t))) else JX l x y))
 (h2: ∀ (s:Nat) (l:List Int) (x y x' y':Int),s<k -> By (f1 s) (BS b) (JX l x y)=some (JX l x' y') -> f2 s (Nz l x y)=some (Nz l x' y')) (l:List Int):
 ∃ x y,By f2 (BS a) (Nz l 0 0)=some (Nz l x y)/\ (∀ u,tb x u=true↔tb a u=true/\ ∃ t,tb b t=true/\ ok u t=true)/\ (∀ u,tb y u=true↔tb b u=true/\ ∃ s,tb a s=true/\ ok s u=true):=by
 have It:k<=62:=zt hk (by decide)
 have sJ: ∀ (s:Nat) (x y:Int),s<k -> ∃ x' y',By (f1 s) (BS b) (JX l x y)=some (JX l x' y')/\ (∀ u,tb x' u=true↔tb x u=true∨(u=s/\ ∃ t,tb b t=true/\ ok s t=true))/\ (∀ u,tb y' u=true↔tb y u=true∨(tb b u=true/\ ok s u=true)):=by
  intro s x y hs
  have key:=VS (f:=f1 s) (fun pre st=>∃ x' y',st=JX l x' y'/\ (∀ u,tb x' u=true↔tb x u=true∨(u=s/\ ∃ t:Nat,(t:Int)∈pre/\ ok s t=true))/\ (∀ u:Nat,tb y' u=true↔tb y u=true∨((u:Int)∈pre/\ ok s u=true)))
   (BS b) [] (JX l x y) ⟨x,y,rfl,fun u=>⟨.inl,fun h=>h.elim id fun ⟨_,t,h,_⟩=>(by cases h)⟩,fun u=>⟨.inl,fun h=>h.elim id fun ⟨h,_⟩=>(by cases h)⟩⟩ ?_
  ·obtain ⟨st,e,x',y',rfl,hx,hy⟩:=key;refine ⟨x',y',e,fun u=>?_,fun u=>?_⟩
   ·rw [hx,zA1];constructor
    ·rintro (h | ⟨e1,t,h,h3⟩)
     ·exact .inl h
     ·obtain ⟨t',e2,_,h4⟩:=(Ft hb It).1 h;have:t=t':=by omega
      subst this;exact .inr ⟨e1,t,h4,h3⟩
    ·rintro (h | ⟨e1,t,h,h3⟩)
     ·exact .inl h
     ·exact .inr ⟨e1,t,(Ft hb It).2 ⟨t,rfl,zAh fun Bx=>(by rw [hb.hi Bx] at h;cases h),h⟩,h3⟩
   ·rw [hy,zA1];constructor
    ·rintro (h | ⟨h,h3⟩)
     ·exact .inl h
     ·obtain ⟨t',e2,_,h4⟩:=(Ft hb It).1 h;have:u=t':=by omega
      subst this;exact .inr ⟨h4,h3⟩
    ·rintro (h | ⟨h,h3⟩)
     ·exact .inl h
     ·exact .inr ⟨(Ft hb It).2 ⟨u,rfl,zAh fun Bx=>(by rw [hb.hi Bx] at h;cases h),h⟩,h3⟩
  ·rintro pre e _ he ⟨x',y',rfl,hx,hy⟩;obtain ⟨t,rfl,ht,_⟩:=(Ft hb It).1 he;rw [h1 s t l x' y' hs ht];cases ho:ok s t
   ·rw [zg];refine ⟨_,rfl,x',y',rfl,fun u=>?_,fun u=>?_⟩
    ·rw [hx];constructor
     ·rintro (h | ⟨e1,t',h,h3⟩)
      ·exact .inl h
      ·exact .inr ⟨e1,t',zAS _ h,h3⟩
     ·rintro (h | ⟨e1,t',h,h3⟩)
      ·exact .inl h
      ·rcases zAI.1 h with h | h
       ·exact .inr ⟨e1,t',h,h3⟩
       ·have:t'=t:=by have:=zAB.1 h;omega
        subst this;rw [ho] at h3;cases h3
    ·rw [hy];constructor
     ·rintro (h | ⟨h,h3⟩)
      ·exact .inl h
      ·exact .inr ⟨zAS _ h,h3⟩
     ·rintro (h | ⟨h,h3⟩)
      ·exact .inl h
      ·rcases zAI.1 h with h | h
       ·exact .inr ⟨h,h3⟩
       ·have:u=t:=by have:=zAB.1 h;omega
        subst this;rw [ho] at h3;cases h3
   ·rw [zk];refine ⟨_,rfl,_,_,rfl,fun u=>?_,fun u=>?_⟩
    ·rw [LZ,zAE,hx,NM (by omega),zv];constructor
     ·rintro ((h | ⟨e1,t',h,h3⟩) | rfl)
      ·exact .inl h
      ·exact .inr ⟨e1,t',zAS _ h,h3⟩
      ·exact .inr ⟨rfl,t,zAd _ (.head _),ho⟩
     ·rintro (h | ⟨e1,t',h,h3⟩)
      ·exact .inl (.inl h)
      ·exact .inr e1.symm
    ·rw [LZ,zAE,hy,NM (by omega),zv];constructor
     ·rintro ((h | ⟨h,h3⟩) | rfl)
      ·exact .inl h
      ·exact .inr ⟨zAS _ h,h3⟩
      ·exact .inr ⟨zAd _ (.head _),ho⟩
     ·rintro (h | ⟨h,h3⟩)
      ·exact .inl (.inl h)
      ·rcases zAI.1 h with h | h
       ·exact .inl (.inr ⟨h,h3⟩)
       ·exact .inr (by have:=zAB.1 h;omega)
 have key:=VS (f:=f2) (fun pre st=>∃ x y,st=Nz l x y/\ (∀ u:Nat,tb x u=true↔(u:Int)∈pre/\ ∃ t,tb b t=true/\ ok u t=true)/\ (∀ u,tb y u=true↔tb b u=true/\ ∃ s:Nat,(s:Int)∈pre/\ ok s u=true))
  (BS a) [] (Nz l 0 0) ⟨0,0,rfl,fun u=>⟨fun h=>absurd h Fk,fun ⟨h,_⟩=>(by cases h)⟩,fun u=>⟨fun h=>absurd h Fk,fun ⟨_,s,h,_⟩=>(by cases h)⟩⟩ ?_
 ·obtain ⟨st,e,x,y,rfl,hx,hy⟩:=key;refine ⟨x,y,e,fun u=>?_,fun u=>?_⟩
  ·rw [hx,zA1];constructor
   ·rintro ⟨h,h2⟩;obtain ⟨t',e2,_,h4⟩:=(Ft ha It).1 h;have:u=t':=by omega
    subst this;exact ⟨h4,h2⟩
   ·rintro ⟨h,h2⟩;exact ⟨(Ft ha It).2 ⟨u,rfl,zAh fun Bx=>(by rw [ha.hi Bx] at h;cases h),h⟩,h2⟩
  ·rw [hy,zA1];constructor
   ·rintro ⟨h0,s,h,h3⟩;obtain ⟨t',e2,_,h4⟩:=(Ft ha It).1 h;have:s=t':=by omega
    subst this;exact ⟨h0,s,h4,h3⟩
   ·rintro ⟨h0,s,h,h3⟩;exact ⟨h0,s,(Ft ha It).2 ⟨s,rfl,zAh fun Bx=>(by rw [ha.hi Bx] at h;cases h),h⟩,h3⟩
 ·rintro pre e _ he ⟨x,y,rfl,hx,hy⟩;obtain ⟨s,rfl,hs,_⟩:=(Ft ha It).1 he;obtain ⟨x',y',e1,Ye,tA⟩:=sJ s x y hs;refine ⟨_,h2 s l x y x' y' hs e1,x',y',rfl,fun u=>?_,fun u=>?_⟩
  ·rw [Ye,hx];constructor
   ·rintro (⟨h,h2⟩ | ⟨rfl,h2⟩)
    ·exact ⟨zAS _ h,h2⟩
    ·exact ⟨zAd _ (.head _),h2⟩
   ·rintro ⟨h,h2⟩;rcases zAI.1 h with h | h
    ·exact .inl ⟨h,h2⟩
    ·have:u=s:=by have:=zAB.1 h;omega
     subst this;exact .inr ⟨rfl,h2⟩
  ·rw [tA,hy];constructor
   ·rintro (⟨h,s',h2,h3⟩ | ⟨h,h2⟩)
    ·exact ⟨h,s',zAS _ h2,h3⟩
    ·exact ⟨h,s,zAd _ (.head _),h2⟩
   ·rintro ⟨h,s',h2,h3⟩;rcases zAI.1 h2 with h2 | h2
    ·exact .inl ⟨h,s',h2,h3⟩
    ·have:s'=s:=by have:=zAB.1 h2;omega
     subst this;exact .inr ⟨h,h3⟩
end
theorem Vz {s:Nat} (hs:s<64) (x:Int):(bits .and .i64 (IntKind.i64.wrap (1*2 ^ s)) x==0)= !tb x s:=by
 rw [zAy,zAQ,NN (F5 _ _ _)];constructor
 ·intro h;have:=h s hs;rw [Hg,NM hs,zn rfl,zAG] at this;rw [this];rfl
 ·intro h i hi;rw [Hg,NM hs]
  by_cases e:s=i
  ·subst e;rw [zn rfl,zAG];cases hx:tb x s
   ·rfl
   ·rw [hx] at h;cases h
  ·rw [ze e,zBC]
def L8 (q:AA) (c:AB) (s t:Nat):Bool:=decide ((if 0-(q.values.getD s 0-q.values.getD t 0)>q.values.getD s 0-q.values.getD t 0 then 0-(q.values.getD s 0-q.values.getD t 0) else q.values.getD s 0-q.values.getD t 0)>=c.lo)
def Kh (c:AB) (s t:Nat):Bool:=(!tb c.set s|| !tb c.other t)&&(!tb c.set t|| !tb c.other s)
def GF (ok:Nat -> Nat -> Bool) (c:AB) (pos:List Int) (a s:Nat):Prop:=
 if a=0 then ¬ ∃ t,tb (AV c pos 1) t=true/\ ok s t=true else ¬ ∃ t,tb (AV c pos 0) t=true/\ ok t s=true
section
variable {c:AB} {k:Nat} {pos lost:List Int} {q:AA}
theorem zD {n ln:Nat} (V:Fb q k) {s t:Nat} (hs:s<k) (ht:t<k):V6 n s t c q pos ln lost=some (L8 q c s t,lost):=by
 have h1:=V.val s hs;have h2:=V.val t ht;have h3:=V.len;unfold V6 kO;simp only [zl];rw [zi ⟨by omega,by omega,Aq.2 ⟨by omega,by omega⟩,Aq.2 ⟨by omega,by omega⟩⟩];rfl
theorem qZ {n ln:Nat} {s t:Nat} (hs:s<64) (ht:t<64):UN n s t c q pos ln lost=some (Kh c s t,lost):=by
 have g: ∀ s:Nat,s<64 -> (0:Int)<=(s:Int)/\ (s:Int)<=((IntKind.i64.bits:Nat):Int):=fun s hs=>⟨by omega,by show (s:Int)<=64;omega⟩
 unfold UN er;simp only [zl];rw [zi ⟨g s hs,g t ht⟩,Vz hs,Vz hs,Vz ht,Vz ht];unfold Kh;cases tb c.set s <;> cases tb c.set t <;> cases tb c.other s <;> cases tb c.other t <;> rfl
theorem eH {n:Nat} (W:Bz c k pos) (h2:c.cells.length=2) (hl:lost.length=pos.length) (ok:Nat -> Nat -> Bool) {x y:Int}
 (hx: ∀ u,tb x u=true↔tb (AV c pos 0) u=true/\ ∃ t,tb (AV c pos 1) t=true/\ ok u t=true) (hy: ∀ u,tb y u=true↔tb (AV c pos 1) u=true/\ ∃ s,tb (AV c pos 0) s=true/\ ok s u=true):
 ∃ l1 l,C4 n (c.cells.getD 0 0) (bits .xor .i64 (-1) x) c q pos pos.length lost=some l1/\ C4 n (c.cells.getD 1 0) (bits .xor .i64 (-1) y) c q pos pos.length l1=some l/\ Bo c pos lost c.cells.length (GF ok c pos) l:=by
 have c0:=W.cells 0 (by omega);have c1:=W.cells 1 (by omega);obtain ⟨l1,e1,n1,f1⟩:=JZ (lost:=lost) (n:=n) (ss:=bits .xor .i64 (-1) x) (c:=c) (q:=q) c0.1 c0.2 hl;obtain ⟨l,e2,n2,f2⟩:=JZ (lost:=l1) (n:=n) (ss:=bits .xor .i64 (-1) y) (c:=c) (q:=q) c1.1 c1.2 n1;refine ⟨l1,l,e1,e2,?_⟩;have lt: ∀ {a:Nat} {s:Nat},a<c.cells.length -> tb (AV c pos a) s=true -> s<64:=fun {a s} ha h=>zAh fun Bx=>by rw [G3 Bx] at h;cases h
 rw [h2];refine Bo.step (i:=1) (l:=l1) (Bo.step (i:=0) (l:=lost) (Bo.zero hl) n1 fun j s=>?_) n2 fun j s=>?_
 ·rw [f1,zAE,zm,zm,zv];constructor
  ·rintro (h | ⟨rfl,h3,h4⟩)
   ·exact .inl h
   ·refine .inr ⟨rfl,h3,?_⟩;rw [S9 _ (lt (a:=0) (by omega) h3)] at h4;unfold GF;rw [zi rfl];intro h5;rw [(hx s).2 ⟨h3,h5⟩] at h4;cases h4
  ·rintro (h | ⟨rfl,h3,h4⟩)
   ·exact .inl h
   ·refine .inr ⟨rfl,h3,?_⟩;rw [S9 _ (lt (a:=0) (by omega) h3)];unfold GF at h4;rw [zi rfl] at h4;cases hb:tb x s
    ·rfl
    ·exact absurd ((hx s).1 hb).2 h4
 ·rw [f2,zAE,zm,zm,zv];constructor
  ·rintro (h | ⟨rfl,h3,h4⟩)
   ·exact .inl h
   ·refine .inr ⟨rfl,h3,?_⟩;rw [S9 _ (lt (a:=1) (by omega) h3)] at h4;unfold GF;rw [zr (by decide)];intro h5;rw [(hy s).2 ⟨h3,h5⟩] at h4;cases h4
  ·rintro (h | ⟨rfl,h3,h4⟩)
   ·exact .inl h
   ·refine .inr ⟨rfl,h3,?_⟩;rw [S9 _ (lt (a:=1) (by omega) h3)];unfold GF at h4;rw [zr (by decide)] at h4;cases hb:tb y s
    ·rfl
    ·exact absurd ((hy s).1 hb).2 h4
theorem zE {n:Nat} (W:Bz c k pos) (V:Fb q k) (h2:c.cells.length=2) (hl:lost.length=pos.length):
 ∃ l,M9 n c q pos pos.length lost=some (true,l)/\ Bo c pos lost c.cells.length (GF (L8 q c) c pos) l:=by
 have c0:=W.cells 0 (by omega);have c1:=W.cells 1 (by omega);have s0:=W.at (a:=0) (by omega);have s1:=W.at (a:=1) (by omega);have hk:=W.k;have g: ∀ s:Nat,s<k -> (0:Int)<=(s:Int)/\ (s:Int)<=((IntKind.i64.bits:Nat):Int):=fun s hs=>⟨by omega,by show (s:Int)<=64;omega⟩
 obtain ⟨x,y,e,hx,hy⟩:=eG JT.s0 JU.s0 (UF n c q pos pos.length) (UG n c q pos pos.length) (L8 q c) s0 s1 hk
  (fun s t l x y hs ht=>by
   unfold UF eP UE
   dsimp only
   rw [zD V hs ht,zh];cases L8 q c s t
   ·rfl
   ·simp only [zk,zl];rw [zi ⟨g s hs,g t ht⟩])
  (fun s l x y x' y' hs he=>by
   unfold UG eO UD
   dsimp only
   rw [zi (show 0<=pos.getD (c.cells.getD 1 0).toNat 0/\ pos.getD (c.cells.getD 1 0).toNat 0<9223372036854775808 from s1.i63 hk)];refine (congrArg (fun z=>Option.bind z _) he).trans ?_;rfl) lost
 obtain ⟨l1,l,e1,e2,hL⟩:=eH (n:=n) (q:=q) W h2 hl (L8 q c) hx hy;refine ⟨l,?_,hL⟩;unfold M9 aU XW eN;rw [zi ⟨by omega,by omega,c0,c1,s0.i63 hk⟩];refine (congrArg (fun z=>Option.bind (Option.bind z _) _) e).trans ?_;rw [zh];simp only;rw [e1,zh,e2];rfl
theorem qa {n:Nat} (W:Bz c k pos) (h2:c.cells.length=2) (hl:lost.length=pos.length):
 ∃ l,MA n c q pos pos.length lost=some (true,l)/\ Bo c pos lost c.cells.length (GF (Kh c) c pos) l:=by
 have c0:=W.cells 0 (by omega);have c1:=W.cells 1 (by omega);have s0:=W.at (a:=0) (by omega);have s1:=W.at (a:=1) (by omega);have hk:=W.k;have g: ∀ s:Nat,s<k -> (0:Int)<=(s:Int)/\ (s:Int)<=((IntKind.i64.bits:Nat):Int):=fun s hs=>⟨by omega,by show (s:Int)<=64;omega⟩
 obtain ⟨x,y,e,hx,hy⟩:=eG JR.s0 JS.s0 (UB n c q pos pos.length) (UC n c q pos pos.length) (Kh c) s0 s1 hk
  (fun s t l x y hs ht=>by
   unfold UB eK UA
   dsimp only
   rw [qZ (by omega) (by omega),zh];cases Kh c s t
   ·rfl
   ·simp only [zk,zl];rw [zi ⟨g s hs,g t ht⟩])
  (fun s l x y x' y' hs he=>by
   unfold UC eJ T9
   dsimp only
   rw [zi (show 0<=pos.getD (c.cells.getD 1 0).toNat 0/\ pos.getD (c.cells.getD 1 0).toNat 0<9223372036854775808 from s1.i63 hk)];refine (congrArg (fun z=>Option.bind z _) he).trans ?_;rfl) lost
 obtain ⟨l1,l,e1,e2,hL⟩:=eH (n:=n) (q:=q) W h2 hl (Kh c) hx hy;refine ⟨l,?_,hL⟩;unfold MA Xi XV eI;rw [zi ⟨by omega,by omega,c0,c1,s0.i63 hk⟩];refine (congrArg (fun z=>Option.bind (Option.bind z _) _) e).trans ?_;rw [zh];simp only;rw [e1,zh,e2];rfl
end
end Go.Proofs.YtgkhhfnhacibcaaGreatDoor
namespace Go.Proofs.YtgkhhfnhacibcaaGreatDoor
open Go.RowKit
set_option maxRecDepth 100000
set_option maxHeartbeats 40000000
def b9:ST:=.rd 0 (.rd 1 (.rd 2 (.rd 3 (.rd 4 (.rd 6 (.rd 7 (.rd 8 (.rd 9 (.rd 10 (.ef 5 (.rd 12 (.ef 11 (.rd 13 (.fin [0,1] [0,2,3])) (.no))) (.ef 11 (.ef 5 (.rd 12 (.rd 13 (.fin [1,0] [0,2,3]))) (.no)) (.no))))))))))))
theorem nN:B6 (A8 Tryz.f108 1) [5,11] b9:=by unfold B6;kernel_rfl
def b7:ST:=.rd 0 (.rd 1 (.rd 2 (.rd 3 (.rd 4 (.rd 5 (.rd 6 (.rd 7 (.rd 8 (.rd 9 (.rd 10 (.rd 11 (.rd 12 (.rd 13 (.rd 14 (.rd 15 (.rd 16 (.rd 17 (.rd 18 (.rd 19 (.rd 20 (.rd 21 (.rd 22 (.rd 23 (.rd 24 (.rd 25 (.rd 26 (.rd 27 (.rd 28 (.rd 29 (.rd 30 (.rd 31 (.rd 32 (.ef 33 (.rd 34 (.ef 35 (.fin [] [0,2,3,30,31,32]) (.no))) (.no))))))))))))))))))))))))))))))))))
theorem nM:B6 (A8 Tryz.f108 5) [33] b7:=by unfold B6;kernel_rfl
def Ic:BV:=fun i=>match i with
 | 1=>.tre [5,11] b9
 | 5=>.tre [33] b7
 | _=>.no
def Wa (pos:List Int) (c:AB) (q:AA) (ln:Nat) (lost:List Int):St:=⟨(AL 120 [(0,.ref 0 0),(2,.msl 2 1 0 pos.length),(3,.msl 3 1 0 pos.length)]),([some (.cells (AG c++AD q++[.ints pos,.msl 1 1 0 ln])),some (.ints lost),some (.bools (List.replicate pos.length false)),some (.bools (List.replicate pos.length false))]:DH)⟩
def ba (pos:List Int) (c:AB) (Cr:Int) (q:AA) (ln:Nat) (lost:List Int) (o2 o3:List Bool):St:=⟨(AL 120 [(0,.ref 0 0),(2,.msl 2 1 0 pos.length),(3,.msl 3 1 0 pos.length),(30,.ints c.cells),(31,.i (c.cells.length:Int)),(32,.i Cr)]),([some (.cells (AG c++AD q++[.ints pos,.msl 1 1 0 ln])),some (.ints lost),some (.bools (o2.set (0+((c.cells.getD ((Cr).toNat) 0).toNat)) ((bits .and .i64 (pos.getD ((c.cells.getD ((Cr).toNat) 0).toNat) 0) c.set) != 0))),some (.bools (o3.set (0+((c.cells.getD ((Cr).toNat) 0).toNat)) ((bits .andNot .i64 (pos.getD ((c.cells.getD ((Cr).toNat) 0).toNat) 0) c.set)==0)))]:DH)⟩
def gv (c:AB) (q:AA) (pos:List Int) (ln:Nat) (lost:List Int) (o2 o3:List Bool):DH:=[some (.cells (AG c++AD q++[.ints pos,.msl 1 1 0 ln])),some (.ints lost),some (.bools o2),some (.bools o3)]
def gu (c:AB) (q:AA) (pos:List Int) (ln:Nat) (lost:List Int) (o3:List Bool) (y2:(List Bool)):DH:=[some (.cells (AG c++AD q++[.ints pos,.msl 1 1 0 ln])),some (.ints lost),none,some (.bools o3),some (.bools y2)]
inductive Nw where
 | l1 (Cr:Int) (o2 o3:List Bool)
 | l2 (Em:List Bool) (x8:Nat) (Gx:List Int) (KB Ff:Int) (o2 o3:List Bool)
 | l3 (Em:List Bool) (x8:Nat) (I9 C0:Int) (o1:List Int) (o2 o3:List Bool)
def Qq (n:Nat) (self:Nw -> Option ((List Bool)×(List Bool)×Bool×(List Int))) (c:AB) (q:AA) (pos:List Int) (ln:Nat) (lost:List Int) (Cr:Int) (o2 o3:List Bool):Option ((List Bool)×(List Bool)×Bool×(List Int)):=
 bif (decide (Cr<(c.cells.length:Int))) then
  if (0<=Cr/\ Cr<(c.cells.length:Int))/\ (0<=(c.cells.getD ((Cr).toNat) 0)/\ (c.cells.getD ((Cr).toNat) 0)<(pos.length:Int))/\ 0+((c.cells.getD ((Cr).toNat) 0).toNat)<o2.length/\ 0+((c.cells.getD ((Cr).toNat) 0).toNat)<o3.length/\ AH (Cr+1) then
   self (.l1 (Cr+1) (o2.set (0+((c.cells.getD ((Cr).toNat) 0).toNat)) ((bits .and .i64 (pos.getD ((c.cells.getD ((Cr).toNat) 0).toNat) 0) c.set) != 0)) (o3.set (0+((c.cells.getD ((Cr).toNat) 0).toNat)) ((bits .andNot .i64 (pos.getD ((c.cells.getD ((Cr).toNat) 0).toNat) 0) c.set)==0)))
  else none
 else
  if pos.length=o3.length then
   (Us n o3 true).bind fun y1=>
    bif (decide (y1<0)) then
     if pos.length=o2.length then
      some (o2,o3,false,lost)
     else none
    else
     if pos.length=o2.length then
      (M3 n o2).bind fun y2=>
       (O5 n q.nbrs o2 y1).bind fun y3=>
        self (.l2 o2 y2.length y3.1 (y3.1.length:Int) 0 o3 y2)
     else none
  else none
def Qp (n:Nat) (self:Nw -> Option ((List Bool)×(List Bool)×Bool×(List Int))) (c:AB) (q:AA) (pos:List Int) (ln:Nat) (lost:List Int) (Em:List Bool) (x8:Nat) (Gx:List Int) (KB Ff:Int) (o2 o3:List Bool):Option ((List Bool)×(List Bool)×Bool×(List Int)):=
 bif (decide (Ff<KB)) then
  if (0<=Ff/\ Ff<(Gx.length:Int))/\ (0<=(Gx.getD ((Ff).toNat) 0)/\ (Gx.getD ((Ff).toNat) 0)<(x8:Int))/\ 0+((Gx.getD ((Ff).toNat) 0).toNat)<o3.length/\ AH (Ff+1) then
   self (.l2 Em x8 Gx KB (Ff+1) o2 (o3.set (0+((Gx.getD ((Ff).toNat) 0).toNat)) false))
  else none
 else
  self (.l3 Em x8 (x8:Int) 0 lost o2 o3)
def Qo (n:Nat) (self:Nw -> Option ((List Bool)×(List Bool)×Bool×(List Int))) (c:AB) (q:AA) (pos:List Int) (ln:Nat) (lost:List Int) (Em:List Bool) (x8:Nat) (I9 C0:Int) (o1:List Int) (o2 o3:List Bool):Option ((List Bool)×(List Bool)×Bool×(List Int)):=
 bif (decide (C0<I9)) then
  if (0<=C0/\ C0<(x8:Int))/\ 0+((C0).toNat)<o3.length then
   bif (o3.getD (0+((C0).toNat)) false) then
    (C4 n C0 c.set c q pos ln o1).bind fun y1=>
     if AH (C0+1) then
      self (.l3 Em x8 I9 (C0+1) y1 o2 o3)
     else none
   else
    if AH (C0+1) then
     self (.l3 Em x8 I9 (C0+1) o1 o2 o3)
    else none
  else none
 else
  if pos.length=o2.length then
   some (Em,o2,true,o1)
  else none
def fC (n:Nat) (self:Nw -> Option ((List Bool)×(List Bool)×Bool×(List Int))) (c:AB) (q:AA) (pos:List Int) (ln:Nat) (lost:List Int):Option ((List Bool)×(List Bool)×Bool×(List Int)):=
 if ((pos.length:Int):Int)=(pos.length:Int)/\ 0<=(pos.length:Int)/\ ((pos.length:Int):Int)<=1000000000000 then
  self (.l1 0 (List.replicate pos.length false) (List.replicate pos.length false))
 else none
def EM (c:AB) (q:AA) (pos:List Int) (ln:Nat) (lost:List Int):Nat -> Nw -> Option ((List Bool)×(List Bool)×Bool×(List Int))
 | 0,_=>none
 | n+1,.l1 Cr o2 o3=>Qq n (EM c q pos ln lost n) c q pos ln lost Cr o2 o3
 | n+1,.l2 Em x8 Gx KB Ff o2 o3=>Qp n (EM c q pos ln lost n) c q pos ln lost Em x8 Gx KB Ff o2 o3
 | n+1,.l3 Em x8 I9 C0 o1 o2 o3=>Qo n (EM c q pos ln lost n) c q pos ln lost Em x8 I9 C0 o1 o2 o3
def MC (n:Nat) (c:AB) (q:AA) (pos:List Int) (ln:Nat) (lost:List Int):Option ((List Bool)×(List Bool)×Bool×(List Int)):=fC n (EM c q pos ln lost n) c q pos ln lost
def qf (n B:Nat) (N:Yd 2) (c:AB) (q:AA) (pos:List Int) (ln:Nat) (lost:List Int) (r:(List Bool)×(List Bool)×Bool×(List Int)):Nw -> Prop
 | .l1 Cr o2 o3=>∀ m0:Nat,n<=m0 -> TW B N (FQ Tryz.f108 2 (.tup 3 (L1 [.bools r.1,.bools r.2.1,.bool r.2.2.1])) [some (.cells (AG c++AD q++[.ints pos,.msl 1 1 0 ln])),some (.ints r.2.2.2)]) (Ak m0 (Ap (Aa Tryz.f108) 0 [])) ⟨AL 120 [(0,.ref 0 0),(2,.msl 2 1 0 pos.length),(3,.msl 3 1 0 pos.length),(30,.ints c.cells),(31,.i (c.cells.length:Int)),(32,.i Cr)],[some (.cells (AG c++AD q++[.ints pos,.msl 1 1 0 ln])),some (.ints lost),some (.bools o2),some (.bools o3)]⟩
 | .l2 Em x8 Gx KB Ff o2 o3=>∀ m0:Nat,n<=m0 -> TW B N (FQ Tryz.f108 2 (.tup 3 (L1 [.bools r.1,.bools r.2.1,.bool r.2.2.1])) [some (.cells (AG c++AD q++[.ints pos,.msl 1 1 0 ln])),some (.ints r.2.2.2)]) (Ak m0 (Ap (Aa Tryz.f108) 2 [])) ⟨AL 120 [(0,.ref 0 0),(2,.bools Em),(3,.msl 2 1 0 pos.length),(8,.msl 3 1 0 x8),(90,.ints Gx),(91,.i KB),(92,.i Ff)],[some (.cells (AG c++AD q++[.ints pos,.msl 1 1 0 ln])),some (.ints lost),some (.bools o2),some (.bools o3)]⟩
 | .l3 Em x8 I9 C0 o1 o2 o3=>∀ m0:Nat,n<=m0 -> TW B N (FQ Tryz.f108 2 (.tup 3 (L1 [.bools r.1,.bools r.2.1,.bool r.2.2.1])) [some (.cells (AG c++AD q++[.ints pos,.msl 1 1 0 ln])),some (.ints r.2.2.2)]) (Ak m0 (Ap (Aa Tryz.f108) 4 [])) ⟨AL 120 [(0,.ref 0 0),(2,.bools Em),(3,.msl 2 1 0 pos.length),(8,.msl 3 1 0 x8),(101,.i I9),(102,.i C0)],[some (.cells (AG c++AD q++[.ints pos,.msl 1 1 0 ln])),some (.ints o1),some (.bools o2),some (.bools o3)]⟩
theorem qg (B:Nat) (N:Yd 2) (c:AB) (q:AA) (pos:List Int) (ln:Nat) (lost:List Int):Al (EM c q pos ln lost) (qf · B N c q pos ln lost):=ia (fun _=>rfl) fun n AF pt r h=>by
 cases pt
 case l1 Cr o2 o3=>
  intro m0 AC;refine rd AC fun m0 AC=>?_
  revert r;apply gO
  exact bi 33 (gc (gi (jg nM (gc (gn fun g1=>jg g1 (jg g1 (jg g1 (gc (gi (jg g1 (gc (gi (jg (Eq.refl (ba pos c Cr q ln lost o2 o3)) (gw 70 (lG (tg:=[([(33,2)],(ba pos c Cr q ln lost o2 o3))]) Ic [0,1,2,3] (AF _ _ · m0 AC)))))))))))))))) (gn fun g0=>cn fun y1 A5=>jc (sb [.msl 3 1 0 pos.length,.bool true] (se A5) (gv c q pos ln lost o2 o3) ⟨Ae.bools rfl g0,Ae.plain (by kernel_rfl),trivial⟩) (bi 74 (gn fun g1=>lF fun p=>ez Ic [2,3,4] [0,1,2,3] p [2,3] (H0.g g1 |>.g g0)) (gn fun g1=>cn fun y2 CQ=>jc (ES.snapNew (ds:=[.msl 2 1 0 pos.length]) (jq CQ) (gv c q pos ln lost o2 o3) ⟨Ae.bools rfl g1,trivial⟩ rfl) (fun p r h=>by
   refine gz (BR 11 Ic) [0,1,2,3,4] p [2] (H0.g g1) (Gp (Aa Tryz.f108) 11 []) (AL 120 [(0,.ref 0 0),(2,.bools o2),(3,.msl 3 1 0 pos.length),(7,.i y1),(8,.msl 4 1 0 y2.length)]) (gu c q pos ln lost o3 y2) ?_;revert r;apply gO;exact cf yL (gu c q pos ln lost o3 y2) fun _=>lN Ic [0,1,3,4] (AF _ _ · n Nat.le.refl)))))
 case l2 Em x8 Gx KB Ff o2 o3=>
  intro m0 AC;refine rd AC fun m0 AC=>?_
  revert r;apply gO;exact bi 93 (gc (gi (gc (gi (gc (gi (gw 99 (lG Ic [0,1,2,3] (AF _ _ · m0 AC))))))))) (lN Ic [0,1,2,3] (AF _ _ · n Nat.le.refl))
 case l3 Em x8 I9 C0 o1 o2 o3=>
  intro m0 AC;refine rd AC fun m0 AC=>?_
  revert r;apply gO;exact bi 103 (gc (gi (gi (bi 108 (ce FS [0,1] [some (.cells (AG c++AD q++[.ints pos,.msl 1 1 0 ln])),some (.ints o1),some (.bools o2),some (.bools o3)] fun _=>gw 117 (lG Ic [0,1,2,3] (AF _ _ · m0 AC))) (gw 117 (lG Ic [0,1,2,3] (AF _ _ · m0 AC))))))) (gn fun g0=>lF fun p=>ez Ic [2,3,4] [0,1,2] p [2] (H0.g g0))
theorem fB {n:Nat} {c:AB} {q:AA} {pos:List Int} {ln:Nat} {lost:List Int} {r:(List Bool)×(List Bool)×Bool×(List Int)} (h:MC n c q pos ln lost=some r):EQ 108 [.ref 0 0] [some (.cells (AG c++AD q++[.ints pos,.msl 1 1 0 ln])),some (.ints lost)] (.tup 3 (L1 [.bools r.1,.bools r.2.1,.bool r.2.2.1])) [some (.cells (AG c++AD q++[.ints pos,.msl 1 1 0 ln])),some (.ints r.2.2.2)] false:=by
 refine ot Tryz.func108 fun B N=>?_
 revert r;apply gO;exact jg nN (gn fun g0=>jg g0 (jg g0 (jg (Eq.refl (Wa pos c q ln lost)) (jg g0 (jg g0 (jg (Eq.refl (Wa pos c q ln lost)) (lN (tg:=[([],(Wa pos c q ln lost))]) Ic [0,1,2,3] ((qg B N c q pos ln lost n) _ _ · n Nat.le.refl))))))))
inductive Vo where
 | l1 (x3 x4:List Bool) (x5:Bool) (AR A1:Int) (o1:List Int)
def SQ (n:Nat) (self:Vo -> Option (Bool×(List Int))) (c:AB) (q:AA) (pos:List Int) (ln:Nat) (lost:List Int) (x3 x4:List Bool) (x5:Bool) (AR A1:Int) (o1:List Int):Option (Bool×(List Int)):=
 bif (decide (A1<AR)) then
  bif (!x5) then
   if AH (A1+1) then
    self (.l1 x3 x4 x5 AR (A1+1) o1)
   else none
  else
   if 0<=A1/\ A1<(x3.length:Int) then
    bif (!(x3.getD ((A1).toNat) false)) then
     if AH (A1+1) then
      self (.l1 x3 x4 x5 AR (A1+1) o1)
     else none
    else
     if 0<=A1/\ A1<(x4.length:Int) then
      bif (x4.getD ((A1).toNat) false) then
       if AH (A1+1) then
        self (.l1 x3 x4 x5 AR (A1+1) o1)
       else none
      else
       (Lf n q.nbrs x3 x4 A1).bind fun y1=>
        bif y1.1 then
         (Fq n A1 c q pos ln o1).bind fun y2=>
          if AH (A1+1) then
           self (.l1 x3 x4 x5 AR (A1+1) y2)
          else none
        else
         if AH (A1+1) then
          self (.l1 x3 x4 x5 AR (A1+1) o1)
         else none
     else none
   else none
 else
  some (true,o1)
def yH (n:Nat) (self:Vo -> Option (Bool×(List Int))) (c:AB) (q:AA) (pos:List Int) (ln:Nat) (lost:List Int):Option (Bool×(List Int)):=
 (MC n c q pos ln lost).bind fun y1=>
  self (.l1 y1.1 y1.2.1 y1.2.2.1 (y1.1.length:Int) 0 y1.2.2.2)
def LH (c:AB) (q:AA) (pos:List Int) (ln:Nat) (lost:List Int):Nat -> Vo -> Option (Bool×(List Int))
 | 0,_=>none
 | n+1,.l1 x3 x4 x5 AR A1 o1=>SQ n (LH c q pos ln lost n) c q pos ln lost x3 x4 x5 AR A1 o1
def Vp (n:Nat) (c:AB) (q:AA) (pos:List Int) (ln:Nat) (lost:List Int):Option (Bool×(List Int)):=yH n (LH c q pos ln lost n) c q pos ln lost
def yI (n B:Nat) (N:Yd 2) (c:AB) (q:AA) (pos:List Int) (ln:Nat) (lost:List Int) (r:Bool×(List Int)):Vo -> Prop
 | .l1 x3 x4 x5 AR A1 o1=>∀ m0:Nat,n<=m0 -> TW B N (FQ Tryz.f75 2 (.bool r.1) [some (.cells (AG c++AD q++[.ints pos,.msl 1 1 0 ln])),some (.ints r.2)]) (Ak m0 (Ap (Aa Tryz.f75) 0 [])) ⟨AL 52 [(0,.ref 0 0),(3,.bools x3),(4,.bools x4),(5,.bool x5),(16,.i AR),(17,.i A1)],[some (.cells (AG c++AD q++[.ints pos,.msl 1 1 0 ln])),some (.ints o1)]⟩
theorem yJ (B:Nat) (N:Yd 2) (c:AB) (q:AA) (pos:List Int) (ln:Nat) (lost:List Int):Al (LH c q pos ln lost) (yI · B N c q pos ln lost):=ia (fun _=>rfl) fun n AF pt r h=>by
 cases pt
 case l1 x3 x4 x5 AR A1 o1=>
  intro m0 AC;refine rd AC fun m0 AC=>?_
  revert r;apply gO;exact bi 18 (bi 21 (gw 51 (lG AE [0,1] (AF _ _ · m0 AC))) (gi (bi 27 (gw 51 (lG AE [0,1] (AF _ _ · m0 AC))) (gi (bi 33 (gw 51 (lG AE [0,1] (AF _ _ · m0 AC))) (cf mL [some (.cells (AG c++AD q++[.ints pos,.msl 1 1 0 ln])),some (.ints o1)] fun _=>bi 45 (ce Kg [0,1] [some (.cells (AG c++AD q++[.ints pos,.msl 1 1 0 ln])),some (.ints o1)] fun _=>gw 51 (lG AE [0,1] (AF _ _ · m0 AC))) (gw 51 (lG AE [0,1] (AF _ _ · m0 AC))))))))) (lE AE [2] [0,1])
theorem yG {n:Nat} {c:AB} {q:AA} {pos:List Int} {ln:Nat} {lost:List Int} {r:Bool×(List Int)} (h:Vp n c q pos ln lost=some r):EQ 75 [.ref 0 0] [some (.cells (AG c++AD q++[.ints pos,.msl 1 1 0 ln])),some (.ints lost)] (.bool r.1) [some (.cells (AG c++AD q++[.ints pos,.msl 1 1 0 ln])),some (.ints r.2)] false:=by
 refine ot Tryz.func75 fun B N=>?_
 revert r;apply gO;exact ce fB [0,1] [some (.cells (AG c++AD q++[.ints pos,.msl 1 1 0 ln])),some (.ints lost)] fun _=>lN AE [0,1] ((yJ B N c q pos ln lost n) _ _ · n Nat.le.refl)
inductive Km where
 | l1 (x3 x4:List Bool) (x20 x21:Int) (o1:List Int)
 | l2 (x3 x4:List Bool) (x8 x20 x21:Int) (BQ:List Int) (DZ A0:Int) (o1:List Int)
 | l3 (x3 x4:List Bool) (x7:Nat) (x8 x20 x21:Int) (BQ:List Int) (DZ A0:Int) (o1 o2:List Int)
 | l4 (x3 x4:List Bool) (x7:Nat) (x8 x20 x21:Int) (GX:Nat) (GW AZ:Int) (o1 o2:List Int)
def Q0 (n:Nat) (self:Km -> Option (Bool×(List Int))) (c:AB) (q:AA) (pos:List Int) (ln:Nat) (lost:List Int) (x3 x4:List Bool) (x20 x21:Int) (o1:List Int):Option (Bool×(List Int)):=
 bif (decide (x21<x20)) then
  if 0<=x21/\ x21<(x4.length:Int) then
   bif (!(x4.getD ((x21).toNat) false)) then
    if AH (x21+1) then
     self (.l1 x3 x4 x20 (x21+1) o1)
    else none
   else
    if 0<=x21/\ x21<(q.nbrs.length:Int) then
     self (.l2 x3 x4 0 x20 x21 (q.nbrs.getD ((x21).toNat) []) (((q.nbrs.getD ((x21).toNat) []).length:Nat):Int) 0 o1)
    else none
  else none
 else
  some (true,o1)
def Qz (n:Nat) (self:Km -> Option (Bool×(List Int))) (c:AB) (q:AA) (pos:List Int) (ln:Nat) (lost:List Int) (x3 x4:List Bool) (x8 x20 x21:Int) (BQ:List Int) (DZ A0:Int) (o1:List Int):Option (Bool×(List Int)):=
 bif (decide (A0<DZ)) then
  if (0<=A0/\ A0<(BQ.length:Int))/\ (0<=(BQ.getD ((A0).toNat) 0)/\ (BQ.getD ((A0).toNat) 0)<(x3.length:Int)) then
   bif (x3.getD ((BQ.getD ((A0).toNat) 0).toNat) false) then
    if ((0=0/\ 1=([BQ.getD ((A0).toNat) 0]:List Int).length)/\ 0<([BQ.getD ((A0).toNat) 0]:List Int).length/\ ([BQ.getD ((A0).toNat) 0]:List Int).length<=A6)/\ (0<=(BQ.getD ((A0).toNat) 0)/\ (BQ.getD ((A0).toNat) 0)<(x4.length:Int)) then
     bif (x4.getD ((BQ.getD ((A0).toNat) 0).toNat) false) then
      if AH (x8+1)/\ AH (A0+1) then
       self (.l3 x3 x4 (([BQ.getD ((A0).toNat) 0]:List Int).length) (x8+1) x20 x21 BQ DZ (A0+1) o1 ([BQ.getD ((A0).toNat) 0]:List Int))
      else none
     else
      if AH (A0+1) then
       self (.l3 x3 x4 (([BQ.getD ((A0).toNat) 0]:List Int).length) x8 x20 x21 BQ DZ (A0+1) o1 ([BQ.getD ((A0).toNat) 0]:List Int))
      else none
    else none
   else
    if 0<=(BQ.getD ((A0).toNat) 0)/\ (BQ.getD ((A0).toNat) 0)<(x4.length:Int) then
     bif (x4.getD ((BQ.getD ((A0).toNat) 0).toNat) false) then
      if AH (x8+1)/\ AH (A0+1) then
       self (.l2 x3 x4 (x8+1) x20 x21 BQ DZ (A0+1) o1)
      else none
     else
      if AH (A0+1) then
       self (.l2 x3 x4 x8 x20 x21 BQ DZ (A0+1) o1)
      else none
    else none
  else none
 else
  some (false,o1)
def MI (n:Nat) (self:Km -> Option (Bool×(List Int))) (c:AB) (q:AA) (pos:List Int) (ln:Nat) (lost:List Int) (x3 x4:List Bool) (x7:Nat) (x8 x20 x21:Int) (BQ:List Int) (DZ A0:Int) (o1 o2:List Int):Option (Bool×(List Int)):=
 bif (decide (A0<DZ)) then
  if (0<=A0/\ A0<(BQ.length:Int))/\ (0<=(BQ.getD ((A0).toNat) 0)/\ (BQ.getD ((A0).toNat) 0)<(x3.length:Int)) then
   bif (x3.getD ((BQ.getD ((A0).toNat) 0).toNat) false) then
    if ((0=0/\ 1=([BQ.getD ((A0).toNat) 0]:List Int).length)/\ (0=0/\ x7=o2.length)/\ o2.length+([BQ.getD ((A0).toNat) 0]:List Int).length<=A6)/\ (0<=(BQ.getD ((A0).toNat) 0)/\ (BQ.getD ((A0).toNat) 0)<(x4.length:Int)) then
     bif (x4.getD ((BQ.getD ((A0).toNat) 0).toNat) false) then
      if AH (x8+1)/\ AH (A0+1) then
       self (.l3 x3 x4 (o2.length+([BQ.getD ((A0).toNat) 0]:List Int).length) (x8+1) x20 x21 BQ DZ (A0+1) o1 (o2++([BQ.getD ((A0).toNat) 0]:List Int)))
      else none
     else
      if AH (A0+1) then
       self (.l3 x3 x4 (o2.length+([BQ.getD ((A0).toNat) 0]:List Int).length) x8 x20 x21 BQ DZ (A0+1) o1 (o2++([BQ.getD ((A0).toNat) 0]:List Int)))
      else none
    else none
   else
    if 0<=(BQ.getD ((A0).toNat) 0)/\ (BQ.getD ((A0).toNat) 0)<(x4.length:Int) then
     bif (x4.getD ((BQ.getD ((A0).toNat) 0).toNat) false) then
      if AH (x8+1)/\ AH (A0+1) then
       self (.l3 x3 x4 x7 (x8+1) x20 x21 BQ DZ (A0+1) o1 o2)
      else none
     else
      if AH (A0+1) then
       self (.l3 x3 x4 x7 x8 x20 x21 BQ DZ (A0+1) o1 o2)
      else none
    else none
  else none
 else
  bif (decide ((x7:Int)<2)) then
   some (false,o1)
  else
   bif (decide (x8>2)) then
    some (false,o1)
   else
    self (.l4 x3 x4 x7 x8 x20 x21 x7 (x7:Int) 0 o1 o2)
def Qy (n:Nat) (self:Km -> Option (Bool×(List Int))) (c:AB) (q:AA) (pos:List Int) (ln:Nat) (lost:List Int) (x3 x4:List Bool) (x7:Nat) (x8 x20 x21:Int) (GX:Nat) (GW AZ:Int) (o1 o2:List Int):Option (Bool×(List Int)):=
 bif (decide (AZ<GW)) then
  if (0<=AZ/\ AZ<(GX:Int))/\ 0+((AZ).toNat)<o2.length then
   bif ((x7:Int)==2) then
    (Fq n (o2.getD (0+((AZ).toNat)) 0) c q pos ln o1).bind fun y1=>
     bif (x8==2) then
      if 0<=(o2.getD (0+((AZ).toNat)) 0)/\ (o2.getD (0+((AZ).toNat)) 0)<(x4.length:Int) then
       bif (!(x4.getD ((o2.getD (0+((AZ).toNat)) 0).toNat) false)) then
        (C4 n (o2.getD (0+((AZ).toNat)) 0) c.set c q pos ln y1).bind fun y2=>
         if AH (AZ+1) then
          self (.l4 x3 x4 x7 x8 x20 x21 GX GW (AZ+1) y2 o2)
         else none
       else
        if AH (AZ+1) then
         self (.l4 x3 x4 x7 x8 x20 x21 GX GW (AZ+1) y1 o2)
        else none
      else none
     else
      if AH (AZ+1) then
       self (.l4 x3 x4 x7 x8 x20 x21 GX GW (AZ+1) y1 o2)
      else none
   else
    bif (x8==2) then
     if 0<=(o2.getD (0+((AZ).toNat)) 0)/\ (o2.getD (0+((AZ).toNat)) 0)<(x4.length:Int) then
      bif (!(x4.getD ((o2.getD (0+((AZ).toNat)) 0).toNat) false)) then
       (C4 n (o2.getD (0+((AZ).toNat)) 0) c.set c q pos ln o1).bind fun y1=>
        if AH (AZ+1) then
         self (.l4 x3 x4 x7 x8 x20 x21 GX GW (AZ+1) y1 o2)
        else none
      else
       if AH (AZ+1) then
        self (.l4 x3 x4 x7 x8 x20 x21 GX GW (AZ+1) o1 o2)
       else none
     else none
    else
     if AH (AZ+1) then
      self (.l4 x3 x4 x7 x8 x20 x21 GX GW (AZ+1) o1 o2)
     else none
  else none
 else
  if AH (x21+1) then
   self (.l1 x3 x4 x20 (x21+1) o1)
  else none
def rF (n:Nat) (self:Km -> Option (Bool×(List Int))) (c:AB) (q:AA) (pos:List Int) (ln:Nat) (lost:List Int):Option (Bool×(List Int)):=
 (MC n c q pos ln lost).bind fun y1=>
  self (.l1 y1.1 y1.2.1 (y1.2.1.length:Int) 0 y1.2.2.2)
def CD (c:AB) (q:AA) (pos:List Int) (ln:Nat) (lost:List Int):Nat -> Km -> Option (Bool×(List Int))
 | 0,_=>none
 | n+1,.l1 x3 x4 x20 x21 o1=>Q0 n (CD c q pos ln lost n) c q pos ln lost x3 x4 x20 x21 o1
 | n+1,.l2 x3 x4 x8 x20 x21 BQ DZ A0 o1=>Qz n (CD c q pos ln lost n) c q pos ln lost x3 x4 x8 x20 x21 BQ DZ A0 o1
 | n+1,.l3 x3 x4 x7 x8 x20 x21 BQ DZ A0 o1 o2=>MI n (CD c q pos ln lost n) c q pos ln lost x3 x4 x7 x8 x20 x21 BQ DZ A0 o1 o2
 | n+1,.l4 x3 x4 x7 x8 x20 x21 GX GW AZ o1 o2=>Qy n (CD c q pos ln lost n) c q pos ln lost x3 x4 x7 x8 x20 x21 GX GW AZ o1 o2
def US (n:Nat) (c:AB) (q:AA) (pos:List Int) (ln:Nat) (lost:List Int):Option (Bool×(List Int)):=rF n (CD c q pos ln lost n) c q pos ln lost
def rG (n B:Nat) (N:Yd 2) (c:AB) (q:AA) (pos:List Int) (ln:Nat) (lost:List Int) (r:Bool×(List Int)):Km -> Prop
 | .l1 x3 x4 x20 x21 o1=>∀ m0:Nat,n<=m0 -> TW B N (FQ Tryz.f76 2 (.bool r.1) [some (.cells (AG c++AD q++[.ints pos,.msl 1 1 0 ln])),some (.ints r.2)]) (Ak m0 (Ap (Aa Tryz.f76) 0 [])) ⟨AL 95 [(0,.ref 0 0),(3,.bools x3),(4,.bools x4),(20,.i x20),(21,.i x21)],[some (.cells (AG c++AD q++[.ints pos,.msl 1 1 0 ln])),some (.ints o1)]⟩
 | .l2 x3 x4 x8 x20 x21 BQ DZ A0 o1=>∀ m0 m1:Nat,n<=m0 -> n<=m1 -> TW B N (FQ Tryz.f76 2 (.bool r.1) [some (.cells (AG c++AD q++[.ints pos,.msl 1 1 0 ln])),some (.ints r.2)]) (Ak m1 (Ap (Aa Tryz.f76) 2 [m0])) ⟨AL 95 [(0,.ref 0 0),(3,.bools x3),(4,.bools x4),(7,.nils),(8,.i x8),(20,.i x20),(21,.i x21),(36,.ints BQ),(37,.i DZ),(38,.i A0)],[some (.cells (AG c++AD q++[.ints pos,.msl 1 1 0 ln])),some (.ints o1)]⟩
 | .l3 x3 x4 x7 x8 x20 x21 BQ DZ A0 o1 o2=>∀ m0 m1:Nat,n<=m0 -> n<=m1 -> TW B N (FQ Tryz.f76 2 (.bool r.1) [some (.cells (AG c++AD q++[.ints pos,.msl 1 1 0 ln])),some (.ints r.2)]) (Ak m1 (Ap (Aa Tryz.f76) 2 [m0])) ⟨AL 95 [(0,.ref 0 0),(3,.bools x3),(4,.bools x4),(7,.msl 2 1 0 x7),(8,.i x8),(20,.i x20),(21,.i x21),(36,.ints BQ),(37,.i DZ),(38,.i A0)],[some (.cells (AG c++AD q++[.ints pos,.msl 1 1 0 ln])),some (.ints o1),some (.ints o2)]⟩
 | .l4 x3 x4 x7 x8 x20 x21 GX GW AZ o1 o2=>∀ m0 m1:Nat,n<=m0 -> n<=m1 -> TW B N (FQ Tryz.f76 2 (.bool r.1) [some (.cells (AG c++AD q++[.ints pos,.msl 1 1 0 ln])),some (.ints r.2)]) (Ak m1 (Ap (Aa Tryz.f76) 4 [m0])) ⟨AL 95 [(0,.ref 0 0),(3,.bools x3),(4,.bools x4),(7,.msl 2 1 0 x7),(8,.i x8),(20,.i x20),(21,.i x21),(64,.msl 2 1 0 GX),(65,.i GW),(66,.i AZ)],[some (.cells (AG c++AD q++[.ints pos,.msl 1 1 0 ln])),some (.ints o1),some (.ints o2)]⟩
theorem rH (B:Nat) (N:Yd 2) (c:AB) (q:AA) (pos:List Int) (ln:Nat) (lost:List Int):Al (CD c q pos ln lost) (rG · B N c q pos ln lost):=ia (fun _=>rfl) fun n AF pt r h=>by
 cases pt
 case l1 x3 x4 x20 x21 o1=>
  intro m0 AC;refine rd AC fun m0 AC=>?_
  revert r;apply gO;exact bi 22 (gi (bi 28 (gw 94 (lG AE [0,1] (AF _ _ · m0 AC))) (gi (lN AE [0,1] (AF _ _ · m0 n AC Nat.le.refl))))) (lE AE [2] [0,1])
 case l2 x3 x4 x8 x20 x21 BQ DZ A0 o1=>
  intro m0 m1 AC Ag;have AC:=zAc AC;refine rd Ag fun m1 Ag=>?_
  revert r;apply gO;exact bi 39 (gc (gi (gi (bi 45 (gc (gi (gi (bi 53 (gc (gw 55 (gw 56 (lG AE [0,1,3] (AF _ _ · m0 m1 AC Ag))))) (gw 56 (lG AE [0,1,3] (AF _ _ · m0 m1 AC Ag))))))) (gi (bi 53 (gc (gw 55 (gw 56 (lG AE [0,1] (AF _ _ · m0 m1 AC Ag))))) (gw 56 (lG AE [0,1] (AF _ _ · m0 m1 AC Ag))))))))) (lE AE [2] [0,1])
 case l3 x3 x4 x7 x8 x20 x21 BQ DZ A0 o1 o2=>
  intro m0 m1 AC Ag;have AC:=zAc AC;refine rd Ag fun m1 Ag=>?_
  revert r;apply gO;exact bi 39 (gc (gi (gi (bi 45 (gc (gi (gi (bi 53 (gc (gw 55 (gw 56 (lG AE [0,1,4] (AF _ _ · m0 m1 AC Ag))))) (gw 56 (lG AE [0,1,4] (AF _ _ · m0 m1 AC Ag))))))) (gi (bi 53 (gc (gw 55 (gw 56 (lG AE [0,1,2] (AF _ _ · m0 m1 AC Ag))))) (gw 56 (lG AE [0,1,2] (AF _ _ · m0 m1 AC Ag))))))))) (bi 59 (lE AE [2] [0,1]) (bi 62 (lE AE [2] [0,1]) (lN AE [0,1,2] (AF _ _ · m0 n AC Nat.le.refl))))
 case l4 x3 x4 x7 x8 x20 x21 GX GW AZ o1 o2=>
  intro m0 m1 AC Ag;have AC:=zAc AC;refine rd Ag fun m1 Ag=>?_
  revert r;apply gO;exact bi 67 (gc (gi (gi (bi 72 (ce Kg [0,1] [some (.cells (AG c++AD q++[.ints pos,.msl 1 1 0 ln])),some (.ints o1),some (.ints o2)] fun y1=>bi 77 (gi (bi 83 (ce FS [0,1] [some (.cells (AG c++AD q++[.ints pos,.msl 1 1 0 ln])),some (.ints y1),some (.ints o2)] fun _=>gw 93 (lG AE [0,1,2] (AF _ _ · m0 m1 AC Ag))) (gw 93 (lG AE [0,1,2] (AF _ _ · m0 m1 AC Ag))))) (gw 93 (lG AE [0,1,2] (AF _ _ · m0 m1 AC Ag)))) (bi 77 (gi (bi 83 (ce FS [0,1] [some (.cells (AG c++AD q++[.ints pos,.msl 1 1 0 ln])),some (.ints o1),some (.ints o2)] fun _=>gw 93 (lG AE [0,1,2] (AF _ _ · m0 m1 AC Ag))) (gw 93 (lG AE [0,1,2] (AF _ _ · m0 m1 AC Ag))))) (gw 93 (lG AE [0,1,2] (AF _ _ · m0 m1 AC Ag)))))))) (gw 94 (lG AE [0,1] (AF _ _ · m0 AC)))
theorem rD {n:Nat} {c:AB} {q:AA} {pos:List Int} {ln:Nat} {lost:List Int} {r:Bool×(List Int)} (h:US n c q pos ln lost=some r):EQ 76 [.ref 0 0] [some (.cells (AG c++AD q++[.ints pos,.msl 1 1 0 ln])),some (.ints lost)] (.bool r.1) [some (.cells (AG c++AD q++[.ints pos,.msl 1 1 0 ln])),some (.ints r.2)] false:=by
 refine ot Tryz.func76 fun B N=>?_
 revert r;apply gO;exact ce fB [0,1] [some (.cells (AG c++AD q++[.ints pos,.msl 1 1 0 ln])),some (.ints lost)] fun _=>lN AE [0,1] ((rH B N c q pos ln lost n) _ _ · n Nat.le.refl)
end Go.Proofs.YtgkhhfnhacibcaaGreatDoor
