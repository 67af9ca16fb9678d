/- Part 5 of 6 of what the proofs of these laws stand on. -/
import Derived.Test.YtgkhhfnhacibcaaGreatDoorPbD
set_option linter.all false
namespace Go.Proofs.YtgkhhfnhacibcaaGreatDoor
open Go.RowKit
set_option maxRecDepth 100000
set_option maxHeartbeats 40000000
def cC:ST:=.rd 0 (.rd 1 (.rd 2 (.rd 3 (.rd 4 (.rd 5 (.rd 6 (.rd 7 (.rd 8 (.rd 9 (.rd 10 (.rd 11 (.rd 12 (.rd 13 (.rd 14 (.rd 15 (.rd 16 (.rd 17 (.rd 18 (.rd 19 (.rd 20 (.rd 21 (.rd 22 (.rd 23 (.rd 24 (.rd 25 (.rd 26 (.rd 27 (.rd 28 (.ef 29 (.rd 30 (.fin [] [5,6])) (.no))))))))))))))))))))))))))))))
theorem nQ:B6 (A8 Tryz.f103 2) [29] cC:=by unfold B6;kernel_rfl
def cA:ST:=.rd 0 (.rd 1 (.rd 2 (.rd 3 (.rd 4 (.rd 5 (.rd 6 (.rd 7 (.rd 8 (.rd 9 (.rd 10 (.rd 11 (.rd 12 (.rd 13 (.rd 14 (.rd 15 (.ef 16 (.rd 17 (.fin [] [5,6])) (.no)))))))))))))))))
theorem nP:B6 (A8 Tryz.f103 5) [16] cA:=by unfold B6;kernel_rfl
def TL:BV:=fun i=>match i with
 | 2=>.tre [29] cC
 | 5=>.tre [16] cA
 | _=>.no
def bf (s_:Int×Int) (c:AB) (q:AA) (pos:List Int) (ln:Nat) (lost:List Int):St:=⟨(AL 59 [(5,.ref 4 0),(6,.bool (decide (s_.2<(c.runs.getD ((s_.1).toNat) 0))))]),([some (.cells [.ref 1 0]),some (.cells (AG c++AD q++[.ints pos,.msl 2 1 0 ln])),some (.ints lost),some (.cells [.i s_.1,.i s_.2]),some (.cells [.i s_.1,.i (s_.2+1)])]:DH)⟩
def be (c:AB) (q:AA) (pos:List Int) (ln:Nat) (lost:List Int) (s_:Int×Int):St:=⟨(AL 59 [(5,.ref 4 0),(6,.bool false)]),([some (.cells [.ref 1 0]),some (.cells (AG c++AD q++[.ints pos,.msl 2 1 0 ln])),some (.ints lost),some (.cells [.i s_.1,.i s_.2]),some (.cells [.i s_.1,.i (s_.2+1)])]:DH)⟩
def bc (s_:Int×Int) (c:AB) (q:AA) (pos:List Int) (ln:Nat) (lost:List Int):St:=⟨(AL 59 [(5,.ref 4 0),(6,.bool (s_.2==(c.runs.getD ((s_.1).toNat) 0)))]),([some (.cells [.ref 1 0]),some (.cells (AG c++AD q++[.ints pos,.msl 2 1 0 ln])),some (.ints lost),some (.cells [.i s_.1,.i s_.2]),some (.cells [.i (s_.1+1),.i 0])]:DH)⟩
def fF (n:Nat) (s_:Int×Int) (Ad:Bool) (c:AB) (q:AA) (pos:List Int) (ln:Nat) (lost:List Int):Option ((Int×Int)×Bool×(List Int)):=
 bif Ad then
  if AH (s_.2+1) then
   bif (decide (s_.1<(c.runs.length:Int))) then
    if 0<=s_.1/\ s_.1<(c.runs.length:Int) then
     some ((s_.1,(s_.2+1)),(decide (s_.2<(c.runs.getD ((s_.1).toNat) 0))),lost)
    else none
   else
    some ((s_.1,(s_.2+1)),false,lost)
  else none
 else
  bif (s_.2==0) then
   some ((s_.1,s_.2),true,lost)
  else
   if AH (s_.1+1)/\ (0<=s_.1/\ s_.1<(c.runs.length:Int)) then
    some (((s_.1+1),0),(s_.2==(c.runs.getD ((s_.1).toNat) 0)),lost)
   else none
def Qs (n:Nat) (s_:Int×Int) (Ad:Bool) (c:AB) (q:AA) (pos:List Int) (ln:Nat) (lost:List Int):Option ((Int×Int)×Bool×(List Int)):=fF n s_ Ad c q pos ln lost
theorem Ki {n:Nat} {s_:Int×Int} {Ad:Bool} {c:AB} {q:AA} {pos:List Int} {ln:Nat} {lost:List Int} {r:(Int×Int)×Bool×(List Int)} (h:Qs n s_ Ad c q pos ln lost=some r):EQ 103 [.agg 2 (L1 [.i s_.1,.i s_.2]),.bool Ad,.ref 0 0] [some (.cells [.ref 1 0]),some (.cells (AG c++AD q++[.ints pos,.msl 2 1 0 ln])),some (.ints lost)] (.tup 2 (L1 [.agg 2 (L1 [.i r.1.1,.i r.1.2]),.bool r.2.1])) [some (.cells [.ref 1 0]),some (.cells (AG c++AD q++[.ints pos,.msl 2 1 0 ln])),some (.ints r.2.2)] false:=by
 refine ot Tryz.func103 fun B N=>?_
 revert r;apply gO;exact bi 8 (jg nQ (gw 13 (bi 23 (gi (jt (jg (Eq.refl (bf s_ c q pos ln lost)) (lE (tg:=[([(29,4)],(bf s_ c q pos ln lost))]) TL [5,6] [0,1,2,4])))) (jt (jg (Eq.refl (be c q pos ln lost s_)) (lE (tg:=[([(29,4)],(be c q pos ln lost s_))]) TL [5,6] [0,1,2,4])))))) (bi 41 (jt (lE TL [5,6] [0,1,2,4])) (jg nP (gc (gw 45 (gi (jt (jg (Eq.refl (bc s_ c q pos ln lost)) (lE (tg:=[([(16,4)],(bc s_ c q pos ln lost))]) TL [5,6] [0,1,2,4]))))))))
theorem nU:An (A8 Tryz.f104 2) [] (List.range 22) []:=by unfold An;kernel_rfl
theorem nT:An (A8 Tryz.f104 3) [] (List.range 22) []:=by unfold An;kernel_rfl
def cg:BV:=fun i=>match i with
 | 2=>.ord [] (List.range 22) []
 | 3=>.ord [] (List.range 22) []
 | _=>.no
def fu (n:Nat) (i_:Int) (Ad:Bool) (c:AB) (q:AA) (pos:List Int) (ln:Nat) (lost:List Int):Option (Bool×(List Int)):=
 bif Ad then
  if (0<=i_/\ i_<(c.cells.length:Int))/\ (0<=(c.cells.getD ((i_).toNat) 0)/\ (c.cells.getD ((i_).toNat) 0)<(pos.length:Int)) then
   some (((bits .and .i64 (pos.getD ((c.cells.getD ((i_).toNat) 0).toNat) 0) c.set) != 0),lost)
  else none
 else
  if (0<=i_/\ i_<(c.cells.length:Int))/\ (0<=(c.cells.getD ((i_).toNat) 0)/\ (c.cells.getD ((i_).toNat) 0)<(pos.length:Int)) then
   some (((bits .andNot .i64 (pos.getD ((c.cells.getD ((i_).toNat) 0).toNat) 0) c.set) != 0),lost)
  else none
def Q8 (n:Nat) (i_:Int) (Ad:Bool) (c:AB) (q:AA) (pos:List Int) (ln:Nat) (lost:List Int):Option (Bool×(List Int)):=fu n i_ Ad c q pos ln lost
theorem Ub {n:Nat} {i_:Int} {Ad:Bool} {c:AB} {q:AA} {pos:List Int} {ln:Nat} {lost:List Int} {r:Bool×(List Int)} (h:Q8 n i_ Ad c q pos ln lost=some r):EQ 104 [.i i_,.bool Ad,.ref 0 0] [some (.cells [.ref 1 0]),some (.cells (AG c++AD q++[.ints pos,.msl 2 1 0 ln])),some (.ints lost)] (.bool r.1) [some (.cells [.ref 1 0]),some (.cells (AG c++AD q++[.ints pos,.msl 2 1 0 ln])),some (.ints r.2)] false:=by
 refine ot Tryz.func104 fun B N=>?_
 revert r;apply gO;exact bi 6 (jg nU (gc (gi (gi (lE cg [5] [0,1,2]))))) (jg nT (gc (gi (gi (lE cg [5] [0,1,2])))))
theorem mr:An (A8 Tryz.f72 24) [] (List.range 6) [6]:=by unfold An;kernel_rfl
def bw:ST:=.rd 0 (.rd 1 (.rd 2 (.rd 3 (.rd 4 (.rd 5 (.rd 6 (.rd 7 (.rd 8 (.rd 9 (.rd 10 (.rd 11 (.rd 12 (.rd 13 (.ef 14 (.fin [] [1,3,5,7,14,16,18]) (.no)))))))))))))))
theorem cr:B6 (A8 Tryz.f72 49) [] bw:=by unfold B6;kernel_rfl
def bv:ST:=.rd 0 (.rd 1 (.rd 2 (.rd 3 (.rd 4 (.rd 5 (.rd 6 (.rd 7 (.rd 8 (.ef 9 (.fin [] [1,3,5,7,14,16]) (.no))))))))))
theorem Wu:B6 (A8 Tryz.f72 51) [] bv:=by unfold B6;kernel_rfl
def B2:BV:=fun i=>match i with
 | 24=>.ord [] (List.range 6) [6]
 | 49=>.tre [] bw
 | 51=>.tre [] bv
 | _=>.no
def Y7 (c:AB) (q:AA) (pos:List Int) (ln:Nat) (o1:List Int) (o3:List (Option KS)):DH:=[some (.cells (AG c++AD q++[.ints pos,.msl 1 1 0 ln])),some (.ints o1),some (.cells [.ref 0 0]),some (.mo (.sets 2 o3 none))]
def uV (c:AB) (q:AA) (pos:List Int) (ln:Nat) (o1:List Int) (o3:List (Option KS)) (Ah:Int) (gk:LK):DH:=[some (.cells (AG c++AD q++[.ints pos,.msl 1 1 0 ln])),some (.ints o1),some (.cells [.ref 0 0]),some (.mo (.sets 2 o3 (some (0+((Ah).toNat),gk))))]
def uP (c:AB) (q:AA) (pos:List Int) (ln:Nat) (o1:List Int) (o3:List (Option KS)) (AX:Nat) (gk:LK) (o4:KS):DH:=[some (.cells (AG c++AD q++[.ints pos,.msl 1 1 0 ln])),some (.ints o1),some (.cells [.ref 0 0]),some (.mo (.sets 2 o3 (some (AX,gk)))),some (.mo (.mit 2 gk.1 gk.2.1 gk.2.2 o4 none))]
def gb (c:AB) (q:AA) (pos:List Int) (ln:Nat) (o1:List Int) (o3:List (Option KS)) (AX:Nat) (gk:LK) (o4:KS) (y1:List Int):DH:=[some (.cells (AG c++AD q++[.ints pos,.msl 1 1 0 ln])),some (.ints o1),some (.cells [.ref 0 0]),some (.mo (.sets 2 o3 (some (AX,gk)))),some (.mo (.mit 2 gk.1 gk.2.1 gk.2.2 (o4.erase y1) (some y1)))]
def Y4 (c:AB) (q:AA) (pos:List Int) (ln:Nat) (o1:List Int) (o3:List (Option KS)) (o4:KS):DH:=[some (.cells (AG c++AD q++[.ints pos,.msl 1 1 0 ln])),some (.ints o1),some (.cells [.ref 0 0]),some (.mo (.sets 2 o3 none)),some (.mo (.set 2 o4)),some (.mo (.set 2 ([]:KS))),some (.cells [.bool false,.bool false])]
def uN (c:AB) (q:AA) (pos:List Int) (ln:Nat) (o1:List Int) (o3:List (Option KS)) (AR:Int) (gk:LK) (o4:KS):DH:=[some (.cells (AG c++AD q++[.ints pos,.msl 1 1 0 ln])),some (.ints o1),some (.cells [.ref 0 0]),some (.mo (.sets 2 o3 (some (0+((AR).toNat),gk)))),some (.mo (.set 2 o4)),some (.mo (.set 2 ([]:KS))),some (.cells [.bool false,.bool false])]
def Y1 (c:AB) (q:AA) (pos:List Int) (ln:Nat) (o1:List Int) (o3:List (Option KS)) (AX:Nat) (gk:LK) (Ab Ex:Int) (o5:KS) (Ew:List Int):DH:=[some (.cells (AG c++AD q++[.ints pos,.msl 1 1 0 ln])),some (.ints o1),some (.cells [.ref 0 0]),some (.mo (.sets 2 o3 (some (AX,gk)))),some (.cells [.i Ab,.i Ex]),some (.mo (.mit 2 gk.1 gk.2.1 gk.2.2 o5 (some Ew))),some (.bools ([false,true]:List Bool))]
def uM (c:AB) (q:AA) (pos:List Int) (ln:Nat) (y1:(Int×Int)×Bool×(List Int)) (o3:List (Option KS)) (AX:Nat) (gk:LK) (Ab Ex:Int) (o5:KS) (Ew:List Int):DH:=[some (.cells (AG c++AD q++[.ints pos,.msl 1 1 0 ln])),some (.ints y1.2.2),some (.cells [.ref 0 0]),some (.mo (.sets 2 o3 (some (AX,gk)))),some (.cells [.i Ab,.i Ex]),some (.mo (.mit 2 gk.1 gk.2.1 gk.2.2 o5 (some Ew))),some (.bools ([false,true]:List Bool)),some (.cells [.i y1.1.1,.i y1.1.2])]
def uL (c:AB) (q:AA) (pos:List Int) (ln:Nat) (o1:List Int) (o3:List (Option KS)) (AX:Nat) (gk:LK) (o4 o7:KS):DH:=[some (.cells (AG c++AD q++[.ints pos,.msl 1 1 0 ln])),some (.ints o1),some (.cells [.ref 0 0]),some (.mo (.sets 2 o3 (some (AX,gk)))),some (.mo (.set 2 o4)),some (.mo (.set 2 ([]:KS))),some (.cells [.bool false,.bool false]),some (.mo (.mit 2 gk.1 gk.2.1 gk.2.2 o7 none))]
def bU (c:AB) (AR:Int) (q:AA) (pos:List Int) (ln:Nat) (y2:(List Int)) (o3:List (Option KS)) (o4:KS):St:=⟨(AL 208 [(1,.ref 2 0),(3,.fn 103 1 (L1 [.ref 2 0])),(5,.msl 3 1 0 ((((c.cells.length:Int)+1)).toNat)),(7,.fn 104 1 (L1 [.ref 2 0])),(14,.it 5),(16,.i AR),(18,.ref 6 0)]),([some (.cells (AG c++AD q++[.ints pos,.msl 1 1 0 ln])),some (.ints y2),some (.cells [.ref 0 0]),some (.mo (.sets 2 o3 none)),some (.mo (.set 2 o4)),some (.mo (.set 2 ([]:KS))),some (.cells [.bool false,.bool false])]:DH)⟩
def uU (c:AB) (q:AA) (pos:List Int) (ln:Nat) (y2:(List Int)) (o3:List (Option KS)) (o4:KS):DH:=[some (.cells (AG c++AD q++[.ints pos,.msl 1 1 0 ln])),some (.ints y2),some (.cells [.ref 0 0]),some (.mo (.sets 2 o3 none)),some (.mo (.set 2 o4)),some (.mo (.set 2 ([]:KS))),some (.cells [.bool false,.bool false])]
def bX (c:AB) (AR:Int) (q:AA) (pos:List Int) (ln:Nat) (y3:(List Int)) (o3:List (Option KS)) (o4:KS):St:=⟨(AL 208 [(1,.ref 2 0),(3,.fn 103 1 (L1 [.ref 2 0])),(5,.msl 3 1 0 ((((c.cells.length:Int)+1)).toNat)),(7,.fn 104 1 (L1 [.ref 2 0])),(14,.it 5),(16,.i AR)]),([some (.cells (AG c++AD q++[.ints pos,.msl 1 1 0 ln])),some (.ints y3),some (.cells [.ref 0 0]),some (.mo (.sets 2 o3 none)),some (.mo (.set 2 o4)),some (.mo (.set 2 ([]:KS))),some (.cells [.bool false,.bool false])]:DH)⟩
def uT (c:AB) (q:AA) (pos:List Int) (ln:Nat) (o1:List Int) (o3:List (Option KS)) (AX:Nat) (gk:LK) (o4 o7:KS) (y1:List Int):DH:=[some (.cells (AG c++AD q++[.ints pos,.msl 1 1 0 ln])),some (.ints o1),some (.cells [.ref 0 0]),some (.mo (.sets 2 o3 (some (AX,gk)))),some (.mo (.set 2 o4)),some (.mo (.set 2 ([]:KS))),some (.cells [.bool false,.bool false]),some (.mo (.mit 2 gk.1 gk.2.1 gk.2.2 (o7.erase y1) (some y1)))]
def RR (c:AB) (q:AA) (pos:List Int) (ln:Nat) (o1:List Int) (o3:List (Option KS)) (AX:Nat) (gk:LK) (o4 o5:KS) (BB BE:Bool) (C3 C2:Int) (o8:KS) (DS:List Int):DH:=[some (.cells (AG c++AD q++[.ints pos,.msl 1 1 0 ln])),some (.ints o1),some (.cells [.ref 0 0]),some (.mo (.sets 2 o3 (some (AX,gk)))),some (.mo (.set 2 o4)),some (.mo (.set 2 o5)),some (.cells [.bool BB,.bool BE]),some (.cells [.i C3,.i C2]),some (.mo (.mit 2 gk.1 gk.2.1 gk.2.2 o8 (some DS))),some (.bools ([false,true]:List Bool))]
def Y6 (c:AB) (q:AA) (pos:List Int) (ln:Nat) (y1:(Int×Int)×Bool×(List Int)) (o3:List (Option KS)) (AX:Nat) (gk:LK) (o4 o5:KS) (BB BE:Bool) (C3 C2:Int) (o8:KS) (DS:List Int):DH:=[some (.cells (AG c++AD q++[.ints pos,.msl 1 1 0 ln])),some (.ints y1.2.2),some (.cells [.ref 0 0]),some (.mo (.sets 2 o3 (some (AX,gk)))),some (.mo (.set 2 o4)),some (.mo (.set 2 o5)),some (.cells [.bool BB,.bool BE]),some (.cells [.i C3,.i C2]),some (.mo (.mit 2 gk.1 gk.2.1 gk.2.2 o8 (some DS))),some (.bools ([false,true]:List Bool)),some (.cells [.i y1.1.1,.i y1.1.2])]
def uS (c:AB) (q:AA) (pos:List Int) (ln:Nat) (o1:List Int) (o3:List (Option KS)) (AX:Nat) (gk:LK) (o4:KS) (Io:List Int):DH:=[some (.cells (AG c++AD q++[.ints pos,.msl 1 1 0 ln])),some (.ints o1),some (.cells [.ref 0 0]),some (.mo (.sets 2 o3 (some (AX,gk)))),some (.mo (.mit 2 gk.1 gk.2.1 gk.2.2 o4 (some Io)))]
def uR (c:AB) (q:AA) (pos:List Int) (ln:Nat) (o1:List Int) (o3:List (Option KS)) (AX:Nat) (gk:LK) (o4 o5:KS) (BB BE:Bool) (o7:KS) (In:List Int):DH:=[some (.cells (AG c++AD q++[.ints pos,.msl 1 1 0 ln])),some (.ints o1),some (.cells [.ref 0 0]),some (.mo (.sets 2 o3 (some (AX,gk)))),some (.mo (.set 2 o4)),some (.mo (.set 2 o5)),some (.cells [.bool BB,.bool BE]),some (.mo (.mit 2 gk.1 gk.2.1 gk.2.2 o7 (some In)))]
def Y5 (c:AB) (q:AA) (pos:List Int) (ln:Nat) (o1:List Int) (o3:List (Option KS)) (o4 o5:KS) (BB BE:Bool):DH:=[some (.cells (AG c++AD q++[.ints pos,.msl 1 1 0 ln])),some (.ints o1),some (.cells [.ref 0 0]),some (.mo (.sets 2 o3 none)),some (.mo (.set 2 o4)),some (.mo (.set 2 o5)),some (.cells [.bool BB,.bool BE])]
def WZ (c:AB) (AR:Int) (q:AA) (pos:List Int) (ln:Nat) (y2:(List Int)) (o3:List (Option KS)) (o4 o5:KS) (BB BE:Bool):St:=⟨(AL 208 [(1,.ref 2 0),(3,.fn 103 1 (L1 [.ref 2 0])),(5,.msl 3 1 0 ((((c.cells.length:Int)+1)).toNat)),(7,.fn 104 1 (L1 [.ref 2 0])),(14,.it 5),(16,.i AR),(18,.ref 6 0)]),([some (.cells (AG c++AD q++[.ints pos,.msl 1 1 0 ln])),some (.ints y2),some (.cells [.ref 0 0]),some (.mo (.sets 2 o3 none)),some (.mo (.set 2 o4)),some (.mo (.set 2 o5)),some (.cells [.bool BB,.bool BE])]:DH)⟩
def uQ (c:AB) (q:AA) (pos:List Int) (ln:Nat) (y2:(List Int)) (o3:List (Option KS)) (o4 o5:KS) (BB BE:Bool):DH:=[some (.cells (AG c++AD q++[.ints pos,.msl 1 1 0 ln])),some (.ints y2),some (.cells [.ref 0 0]),some (.mo (.sets 2 o3 none)),some (.mo (.set 2 o4)),some (.mo (.set 2 o5)),some (.cells [.bool BB,.bool BE])]
def bW (c:AB) (AR:Int) (q:AA) (pos:List Int) (ln:Nat) (y3:(List Int)) (o3:List (Option KS)) (o4 o5:KS) (BB BE:Bool):St:=⟨(AL 208 [(1,.ref 2 0),(3,.fn 103 1 (L1 [.ref 2 0])),(5,.msl 3 1 0 ((((c.cells.length:Int)+1)).toNat)),(7,.fn 104 1 (L1 [.ref 2 0])),(14,.it 5),(16,.i AR)]),([some (.cells (AG c++AD q++[.ints pos,.msl 1 1 0 ln])),some (.ints y3),some (.cells [.ref 0 0]),some (.mo (.sets 2 o3 none)),some (.mo (.set 2 o4)),some (.mo (.set 2 o5)),some (.cells [.bool BB,.bool BE])]:DH)⟩
def bV (c:AB) (AR:Int) (q:AA) (pos:List Int) (ln:Nat) (y2:(List Int)) (o3:List (Option KS)) (o4 o5:KS) (BB BE:Bool):St:=⟨(AL 208 [(1,.ref 2 0),(3,.fn 103 1 (L1 [.ref 2 0])),(5,.msl 3 1 0 ((((c.cells.length:Int)+1)).toNat)),(7,.fn 104 1 (L1 [.ref 2 0])),(14,.it 5),(16,.i AR)]),([some (.cells (AG c++AD q++[.ints pos,.msl 1 1 0 ln])),some (.ints y2),some (.cells [.ref 0 0]),some (.mo (.sets 2 o3 none)),some (.mo (.set 2 o4)),some (.mo (.set 2 o5)),some (.cells [.bool BB,.bool BE])]:DH)⟩
def uO (c:AB) (q:AA) (pos:List Int) (ln:Nat) (o1:List Int) (o3:List (Option KS)) (AX:Nat) (gk:LK) (o4 o5:KS) (BB BE:Bool) (o7:KS) (y1:List Int):DH:=[some (.cells (AG c++AD q++[.ints pos,.msl 1 1 0 ln])),some (.ints o1),some (.cells [.ref 0 0]),some (.mo (.sets 2 o3 (some (AX,gk)))),some (.mo (.set 2 o4)),some (.mo (.set 2 o5)),some (.cells [.bool BB,.bool BE]),some (.mo (.mit 2 gk.1 gk.2.1 gk.2.2 (o7.erase y1) (some y1)))]
inductive G8 where
 | l1 (Cq:Int) (o3:List (Option KS))
 | l2 (Ah:Int) (o1:List Int) (o3:List (Option KS))
 | l3 (x8 Ah:Int) (o1:List Int) (o3:List (Option KS)) (AX:Nat) (o4:KS)
 | l4 (AR:Int) (o1:List Int) (o3:List (Option KS)) (o4:KS)
 | l5 (x8 Ah El:Int) (o1:List Int) (o3:List (Option KS)) (AX:Nat) (Ab Ex:Int) (o5:KS) (Ew:List Int)
 | l6 (AR:Int) (o1:List Int) (o3:List (Option KS)) (AX:Nat) (o4 o7:KS)
 | l7 (AR DQ:Int) (o1:List Int) (o3:List (Option KS)) (AX:Nat) (o4 o5:KS) (BB BE:Bool) (C3 C2:Int) (o8:KS) (DS:List Int)
 | l8 (x8 Ah:Int) (o1:List Int) (o3:List (Option KS)) (AX:Nat) (o4:KS) (Io:List Int)
 | l9 (AR:Int) (o1:List Int) (o3:List (Option KS)) (AX:Nat) (o4 o5:KS) (BB BE:Bool) (o7:KS) (In:List Int)
def P4 (n:Nat) (self:G8 -> Option (Bool×(List Int))) (c:AB) (q:AA) (pos:List Int) (ln:Nat) (lost:List Int) (Cq:Int) (o3:List (Option KS)):Option (Bool×(List Int)):=
 bif (decide (Cq<(((((c.cells.length:Int)+1)).toNat:Nat):Int))) then
  if (0<=Cq/\ Cq<(((((c.cells.length:Int)+1)).toNat:Nat):Int))/\ 0+((Cq).toNat)<o3.length/\ AH (Cq+1) then
   self (.l1 (Cq+1) (o3.set (0+((Cq).toNat)) (some ([]:KS))))
  else none
 else
  if ((0:Int)<=0/\ 0<(((((c.cells.length:Int)+1)).toNat:Nat):Int))/\ 0+0<o3.length/\ (o3.getD (0+0) none).isSome=true then
   self (.l2 0 lost (o3.set (0+0) (some (B4 [0,0] ((o3.getD (0+0) none).getD [])))))
  else none
def Ln (n:Nat) (self:G8 -> Option (Bool×(List Int))) (c:AB) (q:AA) (pos:List Int) (ln:Nat) (lost:List Int) (Ah:Int) (o1:List Int) (o3:List (Option KS)):Option (Bool×(List Int)):=
 bif (decide (Ah<(c.cells.length:Int))) then
  if (o3.getD (0+((Ah).toNat)) none).isSome=true then
   if (0<=Ah/\ Ah<(((((c.cells.length:Int)+1)).toNat:Nat):Int))/\ 0+((Ah).toNat)<o3.length/\ (o3.getD (0+((Ah).toNat)) none).isSome=true then
    self (.l3 Ah Ah o1 o3 (0+((Ah).toNat)) ((o3.getD (0+((Ah).toNat)) none).getD []))
   else none
  else none
 else
  bif (decide ((c.runs.length:Int)>0)) then
   if AH ((c.runs.length:Int)-1)/\ ((0:Int)<=((c.runs.length:Int)-1)/\ ((c.runs.length:Int)-1)<(c.runs.length:Int))/\ AH ((c.cells.length:Int)-1) then
    self (.l4 ((c.cells.length:Int)-1) o1 o3 (B4 [((c.runs.length:Int)-1),c.runs.getD ((((c.runs.length:Int)-1)).toNat) 0] (B4 [(c.runs.length:Int),0] ([]:KS))))
   else none
  else
   if AH ((c.cells.length:Int)-1) then
    self (.l4 ((c.cells.length:Int)-1) o1 o3 (B4 [(c.runs.length:Int),0] ([]:KS)))
   else none
def nu (n:Nat) (self:G8 -> Option (Bool×(List Int))) (c:AB) (q:AA) (pos:List Int) (ln:Nat) (lost:List Int) (x8 Ah:Int) (o1:List Int) (o3:List (Option KS)) (AX:Nat) (o4:KS):Option (Bool×(List Int)):=
 if (o3.getD AX none).isSome=true then
  HG o4 (
   if AH (Ah+1) then
    self (.l2 (Ah+1) o1 o3)
   else none) fun y1=>
   if (o3.getD AX none).isSome=true then
    self (.l5 x8 Ah 0 o1 o3 AX (y1.getD 0 0) (y1.getD 1 0) (o4.erase y1) y1)
   else none
 else none
def P0 (n:Nat) (self:G8 -> Option (Bool×(List Int))) (c:AB) (q:AA) (pos:List Int) (ln:Nat) (lost:List Int) (AR:Int) (o1:List Int) (o3:List (Option KS)) (o4:KS):Option (Bool×(List Int)):=
 bif (decide (AR>=0)) then
  if (o3.getD (0+((AR).toNat)) none).isSome=true then
   if (0<=AR/\ AR<(((((c.cells.length:Int)+1)).toNat:Nat):Int))/\ 0+((AR).toNat)<o3.length/\ (o3.getD (0+((AR).toNat)) none).isSome=true then
    self (.l6 AR o1 o3 (0+((AR).toNat)) o4 ((o3.getD (0+((AR).toNat)) none).getD []))
   else none
  else none
 else
  some (true,o1)
def Lm (n:Nat) (self:G8 -> Option (Bool×(List Int))) (c:AB) (q:AA) (pos:List Int) (ln:Nat) (lost:List Int) (x8 Ah El:Int) (o1:List Int) (o3:List (Option KS)) (AX:Nat) (Ab Ex:Int) (o5:KS) (Ew:List Int):Option (Bool×(List Int)):=
 bif (decide (El<2)) then
  if (0<=El/\ El<((2:Nat):Int))/\ 0+((El).toNat)<([false,true]:List Bool).length then
   (Qs n (Ab,Ex) (([false,true]:List Bool).getD (0+((El).toNat)) false) c q pos ln o1).bind fun y1=>
    bif y1.2.1 then
     (Q8 n x8 (([false,true]:List Bool).getD (0+((El).toNat)) false) c q pos ln y1.2.2).bind fun y2=>
      bif y2.1 then
       if AH (x8+1)/\ (0<=(x8+1)/\ (x8+1)<(((((c.cells.length:Int)+1)).toNat:Nat):Int))/\ 0+(((x8+1)).toNat)<o3.length/\ AX≠0+(((x8+1)).toNat)/\ (o3.getD (0+(((x8+1)).toNat)) none).isSome=true/\ AH (El+1) then
        self (.l5 x8 Ah (El+1) y2.2 (o3.set (0+(((x8+1)).toNat)) (some (B4 [y1.1.1,y1.1.2] ((o3.getD (0+(((x8+1)).toNat)) none).getD [])))) AX Ab Ex o5 Ew)
       else none
      else
       if AH (El+1) then
        self (.l5 x8 Ah (El+1) y2.2 o3 AX Ab Ex o5 Ew)
       else none
    else
     if AH (El+1) then
      self (.l5 x8 Ah (El+1) y1.2.2 o3 AX Ab Ex o5 Ew)
     else none
  else none
 else
  self (.l8 x8 Ah o1 o3 AX o5 Ew)
def nt (n:Nat) (self:G8 -> Option (Bool×(List Int))) (c:AB) (q:AA) (pos:List Int) (ln:Nat) (lost:List Int) (AR:Int) (o1:List Int) (o3:List (Option KS)) (AX:Nat) (o4 o7:KS):Option (Bool×(List Int)):=
 if (o3.getD AX none).isSome=true then
  HG o7 (
   if 0<=AR/\ AR<(c.cells.length:Int) then
    (C4 n (c.cells.getD ((AR).toNat) 0) c.set c q pos ln o1).bind fun y2=>
     (Fq n (c.cells.getD ((AR).toNat) 0) c q pos ln y2).bind fun y3=>
      if AH (AR-1) then
       self (.l4 (AR-1) y3 o3 ([]:KS))
      else none
   else none) fun y1=>
   if (o3.getD AX none).isSome=true then
    self (.l7 AR 0 o1 o3 AX o4 ([]:KS) false false (y1.getD 0 0) (y1.getD 1 0) (o7.erase y1) y1)
   else none
 else none
def Ll (n:Nat) (self:G8 -> Option (Bool×(List Int))) (c:AB) (q:AA) (pos:List Int) (ln:Nat) (lost:List Int) (AR DQ:Int) (o1:List Int) (o3:List (Option KS)) (AX:Nat) (o4 o5:KS) (BB BE:Bool) (C3 C2:Int) (o8:KS) (DS:List Int):Option (Bool×(List Int)):=
 bif (decide (DQ<2)) then
  if (0<=DQ/\ DQ<((2:Nat):Int))/\ 0+((DQ).toNat)<([false,true]:List Bool).length then
   (Qs n (C3,C2) (([false,true]:List Bool).getD (0+((DQ).toNat)) false) c q pos ln o1).bind fun y1=>
    bif y1.2.1 then
     (Q8 n AR (([false,true]:List Bool).getD (0+((DQ).toNat)) false) c q pos ln y1.2.2).bind fun y2=>
      bif y2.1 then
       bif (o4.contains [y1.1.1,y1.1.2]) then
        bif (DQ==0) then
         if AH (DQ+1) then
          self (.l7 AR (DQ+1) y2.2 o3 AX o4 (B4 [C3,C2] o5) true BE C3 C2 o8 DS)
         else none
        else
         bif (DQ==1) then
          if AH (DQ+1) then
           self (.l7 AR (DQ+1) y2.2 o3 AX o4 (B4 [C3,C2] o5) BB true C3 C2 o8 DS)
          else none
         else
          none
       else
        if AH (DQ+1) then
         self (.l7 AR (DQ+1) y2.2 o3 AX o4 o5 BB BE C3 C2 o8 DS)
        else none
      else
       if AH (DQ+1) then
        self (.l7 AR (DQ+1) y2.2 o3 AX o4 o5 BB BE C3 C2 o8 DS)
       else none
    else
     if AH (DQ+1) then
      self (.l7 AR (DQ+1) y1.2.2 o3 AX o4 o5 BB BE C3 C2 o8 DS)
     else none
  else none
 else
  self (.l9 AR o1 o3 AX o4 o5 BB BE o8 DS)
def Pz (n:Nat) (self:G8 -> Option (Bool×(List Int))) (c:AB) (q:AA) (pos:List Int) (ln:Nat) (lost:List Int) (x8 Ah:Int) (o1:List Int) (o3:List (Option KS)) (AX:Nat) (o4:KS) (Io:List Int):Option (Bool×(List Int)):=
 if (o3.getD AX none).isSome=true then
  HG o4 (
   if AH (Ah+1) then
    self (.l2 (Ah+1) o1 o3)
   else none) fun y1=>
   if (o3.getD AX none).isSome=true then
    self (.l5 x8 Ah 0 o1 o3 AX (y1.getD 0 0) (y1.getD 1 0) (o4.erase y1) y1)
   else none
 else none
def Py (n:Nat) (self:G8 -> Option (Bool×(List Int))) (c:AB) (q:AA) (pos:List Int) (ln:Nat) (lost:List Int) (AR:Int) (o1:List Int) (o3:List (Option KS)) (AX:Nat) (o4 o5:KS) (BB BE:Bool) (o7:KS) (In:List Int):Option (Bool×(List Int)):=
 if (o3.getD AX none).isSome=true then
  HG o7 (
   bif (!BE) then
    if 0<=AR/\ AR<(c.cells.length:Int) then
     (C4 n (c.cells.getD ((AR).toNat) 0) c.set c q pos ln o1).bind fun y2=>
      bif (!BB) then
       (Fq n (c.cells.getD ((AR).toNat) 0) c q pos ln y2).bind fun y3=>
        if AH (AR-1) then
         self (.l4 (AR-1) y3 o3 o5)
        else none
      else
       if AH (AR-1) then
        self (.l4 (AR-1) y2 o3 o5)
       else none
    else none
   else
    bif (!BB) then
     if 0<=AR/\ AR<(c.cells.length:Int) then
      (Fq n (c.cells.getD ((AR).toNat) 0) c q pos ln o1).bind fun y2=>
       if AH (AR-1) then
        self (.l4 (AR-1) y2 o3 o5)
       else none
     else none
    else
     if AH (AR-1) then
      self (.l4 (AR-1) o1 o3 o5)
     else none) fun y1=>
   if (o3.getD AX none).isSome=true then
    self (.l7 AR 0 o1 o3 AX o4 o5 BB BE (y1.getD 0 0) (y1.getD 1 0) (o7.erase y1) y1)
   else none
 else none
def W0 (n:Nat) (self:G8 -> Option (Bool×(List Int))) (c:AB) (q:AA) (pos:List Int) (ln:Nat) (lost:List Int):Option (Bool×(List Int)):=
 bif ((c.cells.length:Int)==0) then
  some (((c.runs.length:Int)==0),lost)
 else
  if AH ((c.cells.length:Int)+1)/\ ((((c.cells.length:Int)+1):Int)=((c.cells.length:Int)+1)/\ (0:Int)<=((c.cells.length:Int)+1)/\ (((c.cells.length:Int)+1):Int)<=1000000000000) then
   self (.l1 0 (List.replicate ((((c.cells.length:Int)+1)).toNat) (none:Option KS)))
  else none
def A4 (c:AB) (q:AA) (pos:List Int) (ln:Nat) (lost:List Int):Nat -> G8 -> Option (Bool×(List Int))
 | 0,_=>none
 | n+1,.l1 Cq o3=>P4 n (A4 c q pos ln lost n) c q pos ln lost Cq o3
 | n+1,.l2 Ah o1 o3=>Ln n (A4 c q pos ln lost n) c q pos ln lost Ah o1 o3
 | n+1,.l3 x8 Ah o1 o3 AX o4=>nu n (A4 c q pos ln lost n) c q pos ln lost x8 Ah o1 o3 AX o4
 | n+1,.l4 AR o1 o3 o4=>P0 n (A4 c q pos ln lost n) c q pos ln lost AR o1 o3 o4
 | n+1,.l5 x8 Ah El o1 o3 AX Ab Ex o5 Ew=>Lm n (A4 c q pos ln lost n) c q pos ln lost x8 Ah El o1 o3 AX Ab Ex o5 Ew
 | n+1,.l6 AR o1 o3 AX o4 o7=>nt n (A4 c q pos ln lost n) c q pos ln lost AR o1 o3 AX o4 o7
 | n+1,.l7 AR DQ o1 o3 AX o4 o5 BB BE C3 C2 o8 DS=>Ll n (A4 c q pos ln lost n) c q pos ln lost AR DQ o1 o3 AX o4 o5 BB BE C3 C2 o8 DS
 | n+1,.l8 x8 Ah o1 o3 AX o4 Io=>Pz n (A4 c q pos ln lost n) c q pos ln lost x8 Ah o1 o3 AX o4 Io
 | n+1,.l9 AR o1 o3 AX o4 o5 BB BE o7 In=>Py n (A4 c q pos ln lost n) c q pos ln lost AR o1 o3 AX o4 o5 BB BE o7 In
def Nb (n:Nat) (c:AB) (q:AA) (pos:List Int) (ln:Nat) (lost:List Int):Option (Bool×(List Int)):=W0 n (A4 c q pos ln lost n) c q pos ln lost
def nv (n B:Nat) (N:Yd 2) (c:AB) (q:AA) (pos:List Int) (ln:Nat) (lost:List Int) (r:Bool×(List Int)):G8 -> Prop
 | .l1 Cq o3=>∀ m0:Nat,n<=m0 -> TW B N (FQ Tryz.f72 2 (.bool r.1) [some (.cells (AG c++AD q++[.ints pos,.msl 1 1 0 ln])),some (.ints r.2)]) (Ak m0 (Ap (Aa Tryz.f72) 0 [])) ⟨AL 208 [(1,.ref 2 0),(3,.fn 103 1 (L1 [.ref 2 0])),(4,.i (c.cells.length:Int)),(5,.msl 3 1 0 ((((c.cells.length:Int)+1)).toNat)),(44,.i (((((c.cells.length:Int)+1)).toNat:Nat):Int)),(45,.i Cq)],[some (.cells (AG c++AD q++[.ints pos,.msl 1 1 0 ln])),some (.ints lost),some (.cells [.ref 0 0]),some (.mo (.sets 2 o3 none))]⟩
 | .l2 Ah o1 o3=>∀ m0:Nat,n<=m0 -> TW B N (FQ Tryz.f72 2 (.bool r.1) [some (.cells (AG c++AD q++[.ints pos,.msl 1 1 0 ln])),some (.ints r.2)]) (Ak m0 (Ap (Aa Tryz.f72) 2 [])) ⟨AL 208 [(1,.ref 2 0),(3,.fn 103 1 (L1 [.ref 2 0])),(4,.i (c.cells.length:Int)),(5,.msl 3 1 0 ((((c.cells.length:Int)+1)).toNat)),(7,.fn 104 1 (L1 [.ref 2 0])),(58,.i (c.cells.length:Int)),(59,.i Ah)],[some (.cells (AG c++AD q++[.ints pos,.msl 1 1 0 ln])),some (.ints o1),some (.cells [.ref 0 0]),some (.mo (.sets 2 o3 none))]⟩
 | .l3 x8 Ah o1 o3 AX o4=>∀ m0 m1:Nat,n<=m0 -> n<=m1 -> ∀ gk:LK,TW B N (FQ Tryz.f72 2 (.bool r.1) [some (.cells (AG c++AD q++[.ints pos,.msl 1 1 0 ln])),some (.ints r.2)]) (Ak m1 (Ap (Aa Tryz.f72) 4 [m0])) ⟨AL 208 [(1,.ref 2 0),(3,.fn 103 1 (L1 [.ref 2 0])),(4,.i (c.cells.length:Int)),(5,.msl 3 1 0 ((((c.cells.length:Int)+1)).toNat)),(7,.fn 104 1 (L1 [.ref 2 0])),(8,.i x8),(58,.i (c.cells.length:Int)),(59,.i Ah),(66,.it 4)],[some (.cells (AG c++AD q++[.ints pos,.msl 1 1 0 ln])),some (.ints o1),some (.cells [.ref 0 0]),some (.mo (.sets 2 o3 (some (AX,gk)))),some (.mo (.mit 2 gk.1 gk.2.1 gk.2.2 o4 none))]⟩
 | .l4 AR o1 o3 o4=>∀ m0:Nat,n<=m0 -> TW B N (FQ Tryz.f72 2 (.bool r.1) [some (.cells (AG c++AD q++[.ints pos,.msl 1 1 0 ln])),some (.ints r.2)]) (Ak m0 (Ap (Aa Tryz.f72) 8 [])) ⟨AL 208 [(1,.ref 2 0),(3,.fn 103 1 (L1 [.ref 2 0])),(5,.msl 3 1 0 ((((c.cells.length:Int)+1)).toNat)),(7,.fn 104 1 (L1 [.ref 2 0])),(14,.it 4),(16,.i AR)],[some (.cells (AG c++AD q++[.ints pos,.msl 1 1 0 ln])),some (.ints o1),some (.cells [.ref 0 0]),some (.mo (.sets 2 o3 none)),some (.mo (.set 2 o4))]⟩
 | .l5 x8 Ah El o1 o3 AX Ab Ex o5 Ew=>∀ m0 m1 m2:Nat,n<=m0 -> n<=m1 -> n<=m2 -> ∀ gk:LK,TW B N (FQ Tryz.f72 2 (.bool r.1) [some (.cells (AG c++AD q++[.ints pos,.msl 1 1 0 ln])),some (.ints r.2)]) (Ak m2 (Ap (Aa Tryz.f72) 6 [m0,m1])) ⟨AL 208 [(1,.ref 2 0),(3,.fn 103 1 (L1 [.ref 2 0])),(4,.i (c.cells.length:Int)),(5,.msl 3 1 0 ((((c.cells.length:Int)+1)).toNat)),(7,.fn 104 1 (L1 [.ref 2 0])),(8,.i x8),(9,.ref 4 0),(58,.i (c.cells.length:Int)),(59,.i Ah),(66,.it 5),(71,.msl 6 1 0 2),(72,.i 2),(73,.i El)],[some (.cells (AG c++AD q++[.ints pos,.msl 1 1 0 ln])),some (.ints o1),some (.cells [.ref 0 0]),some (.mo (.sets 2 o3 (some (AX,gk)))),some (.cells [.i Ab,.i Ex]),some (.mo (.mit 2 gk.1 gk.2.1 gk.2.2 o5 (some Ew))),some (.bools ([false,true]:List Bool))]⟩
 | .l6 AR o1 o3 AX o4 o7=>∀ m0 m1:Nat,n<=m0 -> n<=m1 -> ∀ gk:LK,TW B N (FQ Tryz.f72 2 (.bool r.1) [some (.cells (AG c++AD q++[.ints pos,.msl 1 1 0 ln])),some (.ints r.2)]) (Ak m1 (Ap (Aa Tryz.f72) 10 [m0])) ⟨AL 208 [(1,.ref 2 0),(3,.fn 103 1 (L1 [.ref 2 0])),(5,.msl 3 1 0 ((((c.cells.length:Int)+1)).toNat)),(7,.fn 104 1 (L1 [.ref 2 0])),(14,.it 4),(16,.i AR),(17,.it 5),(18,.ref 6 0),(140,.it 7)],[some (.cells (AG c++AD q++[.ints pos,.msl 1 1 0 ln])),some (.ints o1),some (.cells [.ref 0 0]),some (.mo (.sets 2 o3 (some (AX,gk)))),some (.mo (.set 2 o4)),some (.mo (.set 2 ([]:KS))),some (.cells [.bool false,.bool false]),some (.mo (.mit 2 gk.1 gk.2.1 gk.2.2 o7 none))]⟩
 | .l7 AR DQ o1 o3 AX o4 o5 BB BE C3 C2 o8 DS=>∀ m0 m1 m2:Nat,n<=m0 -> n<=m1 -> n<=m2 -> ∀ gk:LK,TW B N (FQ Tryz.f72 2 (.bool r.1) [some (.cells (AG c++AD q++[.ints pos,.msl 1 1 0 ln])),some (.ints r.2)]) (Ak m2 (Ap (Aa Tryz.f72) 12 [m0,m1])) ⟨AL 208 [(1,.ref 2 0),(3,.fn 103 1 (L1 [.ref 2 0])),(5,.msl 3 1 0 ((((c.cells.length:Int)+1)).toNat)),(7,.fn 104 1 (L1 [.ref 2 0])),(14,.it 4),(16,.i AR),(17,.it 5),(18,.ref 6 0),(19,.ref 7 0),(140,.it 8),(145,.msl 9 1 0 2),(146,.i 2),(147,.i DQ)],[some (.cells (AG c++AD q++[.ints pos,.msl 1 1 0 ln])),some (.ints o1),some (.cells [.ref 0 0]),some (.mo (.sets 2 o3 (some (AX,gk)))),some (.mo (.set 2 o4)),some (.mo (.set 2 o5)),some (.cells [.bool BB,.bool BE]),some (.cells [.i C3,.i C2]),some (.mo (.mit 2 gk.1 gk.2.1 gk.2.2 o8 (some DS))),some (.bools ([false,true]:List Bool))]⟩
 | .l8 x8 Ah o1 o3 AX o4 Io=>∀ m0 m1:Nat,n<=m0 -> n<=m1 -> ∀ gk:LK,TW B N (FQ Tryz.f72 2 (.bool r.1) [some (.cells (AG c++AD q++[.ints pos,.msl 1 1 0 ln])),some (.ints r.2)]) (Ak m1 (Ap (Aa Tryz.f72) 4 [m0])) ⟨AL 208 [(1,.ref 2 0),(3,.fn 103 1 (L1 [.ref 2 0])),(4,.i (c.cells.length:Int)),(5,.msl 3 1 0 ((((c.cells.length:Int)+1)).toNat)),(7,.fn 104 1 (L1 [.ref 2 0])),(8,.i x8),(58,.i (c.cells.length:Int)),(59,.i Ah),(66,.it 4)],[some (.cells (AG c++AD q++[.ints pos,.msl 1 1 0 ln])),some (.ints o1),some (.cells [.ref 0 0]),some (.mo (.sets 2 o3 (some (AX,gk)))),some (.mo (.mit 2 gk.1 gk.2.1 gk.2.2 o4 (some Io)))]⟩
 | .l9 AR o1 o3 AX o4 o5 BB BE o7 In=>∀ m0 m1:Nat,n<=m0 -> n<=m1 -> ∀ gk:LK,TW B N (FQ Tryz.f72 2 (.bool r.1) [some (.cells (AG c++AD q++[.ints pos,.msl 1 1 0 ln])),some (.ints r.2)]) (Ak m1 (Ap (Aa Tryz.f72) 10 [m0])) ⟨AL 208 [(1,.ref 2 0),(3,.fn 103 1 (L1 [.ref 2 0])),(5,.msl 3 1 0 ((((c.cells.length:Int)+1)).toNat)),(7,.fn 104 1 (L1 [.ref 2 0])),(14,.it 4),(16,.i AR),(17,.it 5),(18,.ref 6 0),(140,.it 7)],[some (.cells (AG c++AD q++[.ints pos,.msl 1 1 0 ln])),some (.ints o1),some (.cells [.ref 0 0]),some (.mo (.sets 2 o3 (some (AX,gk)))),some (.mo (.set 2 o4)),some (.mo (.set 2 o5)),some (.cells [.bool BB,.bool BE]),some (.mo (.mit 2 gk.1 gk.2.1 gk.2.2 o7 (some In)))]⟩
theorem ny (B:Nat) (N:Yd 2) (c:AB) (q:AA) (pos:List Int) (ln:Nat) (lost:List Int):Al (A4 c q pos ln lost) (nv · B N c q pos ln lost):=ia (fun _=>rfl) fun n AF pt r h=>by
 cases pt
 case l1 Cq o3=>
  intro m0 AC;refine rd AC fun m0 AC=>?_
  revert r;apply gO;exact bi 46 (gc (gi (gc (gi (gw 52 (lG B2 [0,1,2,5] (AF _ _ · m0 AC))))))) (gc (gi (gc (gi (gi (jg (rL (i:=0+0)) (lN B2 [0,1,2,3] (AF _ _ · n Nat.le.refl))))))))
 case l2 Ah o1 o3=>
  intro m0 AC;refine rd AC fun m0 AC=>?_
  revert r;apply gO
  exact bi 60 (gn fun g0=>fun p r h=>by
   refine gs (BR 16 B2) [0,1,2,3] p (Gp (Aa Tryz.f72) 16 [m0]) (AL 208 [(1,.ref 2 0),(3,.fn 103 1 (L1 [.ref 2 0])),(4,.i (c.cells.length:Int)),(5,.msl 3 1 0 ((((c.cells.length:Int)+1)).toNat)),(7,.fn 104 1 (L1 [.ref 2 0])),(8,.i Ah),(58,.i (c.cells.length:Int)),(59,.i Ah)]) (Y7 c q pos ln o1 o3) ?_;refine BN.lock 3 (0+((Ah).toNat)) 2 (by kernel_rfl) g0 (by kernel_rfl) (fun gk=>(uV c q pos ln o1 o3 Ah gk)) (by kernel_rfl) fun gk=>?_
   revert r;apply gO;exact gc (gi (gc (gi (gi (jg (Eq.refl (0+((Ah).toNat))) (lN B2 [0,1,2,3,4] (AF _ _ · m0 n AC Nat.le.refl gk)))))))) (bi 115 (gc (gn fun g0=>jw 118 g0 (jw 125 g0 (gc (gi (gw 130 (lN B2 [0,1,2,3,4] (AF _ _ · n Nat.le.refl)))))))) (gw 130 (lN B2 [0,1,2,3,4] (AF _ _ · n Nat.le.refl))))
 case l3 x8 Ah o1 o3 AX o4=>
  intro m0 m1 AC Ag gk;have AC:=zAc AC;refine rd Ag fun m1 Ag=>?_
  have p:=H0;refine gs (BR 17 B2) [0,1,2,3,4] p (Gp (Aa Tryz.f72) 17 [m0,m1]) (AL 208 [(1,.ref 2 0),(3,.fn 103 1 (L1 [.ref 2 0])),(4,.i (c.cells.length:Int)),(5,.msl 3 1 0 ((((c.cells.length:Int)+1)).toNat)),(7,.fn 104 1 (L1 [.ref 2 0])),(8,.i x8),(58,.i (c.cells.length:Int)),(59,.i Ah),(66,.it 4)]) (uP c q pos ln o1 o3 AX gk o4) ?_;revert r;apply gO
  exact gn fun g0=>fun p r h=>by
   replace h:=UL h;refine At.nx (ops:=A8 Tryz.f72 17) HC.x (by kernel_rfl) (by kernel_rfl) 4 3 AX 2 o3 gk o4 none [1,3,4,5,7,8,58,59,66,68] [0,1,2,3] (AL 208 [(1,.ref 2 0),(3,.fn 103 1 (L1 [.ref 2 0])),(4,.i (c.cells.length:Int)),(5,.msl 3 1 0 ((((c.cells.length:Int)+1)).toNat)),(7,.fn 104 1 (L1 [.ref 2 0])),(8,.i x8),(58,.i (c.cells.length:Int)),(59,.i Ah),(68,.bool false)]) (Y7 c q pos ln o1 o3) [0,1,2,3,4] (fun y1=>AL 208 [(1,.ref 2 0),(3,.fn 103 1 (L1 [.ref 2 0])),(4,.i (c.cells.length:Int)),(5,.msl 3 1 0 ((((c.cells.length:Int)+1)).toNat)),(7,.fn 104 1 (L1 [.ref 2 0])),(8,.i x8),(58,.i (c.cells.length:Int)),(59,.i Ah),(66,.it 4),(68,.bool true)]) (fun y1=>(gb c q pos ln o1 o3 AX gk o4 y1)) (by kernel_rfl) (by kernel_rfl) (by kernel_rfl) (by decide) g0 (by kernel_rfl) (by kernel_rfl) (fun _=>by kernel_rfl) (fun he=>?_) (fun y1 he=>?_)
   ·replace h:=h.1 he;revert r;apply gO;exact gw 98 (lG B2 [0,1,2,3] (AF _ _ · m0 AC))
   ·replace h:=h.2 y1 he;revert r;apply gO;exact gi (jg (Eq.refl gk.1) (jg (Eq.refl gk.2.1) (jg (Eq.refl gk.2.2) (jt (lN B2 [0,1,2,3,5,4,6] (AF _ _ · m0 m1 n AC Ag Nat.le.refl gk))))))
 case l4 AR o1 o3 o4=>
  intro m0 AC;refine rd AC fun m0 AC=>?_
  revert r;apply gO
  exact bi 132 (gn fun g0=>fun p r h=>by
   refine gs (BR 36 B2) [0,1,2,3,4,5,6] p (Gp (Aa Tryz.f72) 36 [m0]) (AL 208 [(1,.ref 2 0),(3,.fn 103 1 (L1 [.ref 2 0])),(5,.msl 3 1 0 ((((c.cells.length:Int)+1)).toNat)),(7,.fn 104 1 (L1 [.ref 2 0])),(14,.it 4),(16,.i AR),(17,.it 5),(18,.ref 6 0)]) (Y4 c q pos ln o1 o3 o4) ?_;refine BN.lock 3 (0+((AR).toNat)) 2 (by kernel_rfl) g0 (by kernel_rfl) (fun gk=>(uN c q pos ln o1 o3 AR gk o4)) (by kernel_rfl) fun gk=>?_
   revert r;apply gO;exact gc (gi (gc (gi (gi (jg (Eq.refl (0+((AR).toNat))) (lN B2 [0,1,2,3,4,5,6,7] (AF _ _ · m0 n AC Nat.le.refl gk)))))))) (lE B2 [2] [0,1])
 case l5 x8 Ah El o1 o3 AX Ab Ex o5 Ew=>
  intro m0 m1 m2 AC Ag F1 gk;have AC:=zAc AC;have Ag:=zAc Ag;refine rd F1 fun m2 F1=>?_
  revert r;apply gO;exact bj 74 (fun c0=>gc (gn fun g0=>jg g0 (gn fun g1=>jg g1 (cn fun y1 A5=>jc (em (Ki A5) [2,0,1] (Y1 c q pos ln o1 o3 AX gk Ab Ex o5 Ew)) (jt (bn (fun c1=>rO (jb 74 c0 (jg g0 (jg g1 (jc (em (Ki A5) [2,0,1] (Y1 c q pos ln o1 o3 AX gk Ab Ex o5 Ew)) (jb 83 c1 (jt (ce Ub [2,0,1] (uM c q pos ln y1 o3 AX gk Ab Ex o5 Ew) fun _=>bi 89 (jg mr (gc (gw 93 (gc (gi (gc (gi (gc (gn fun g5=>gc (gi (jg (rK (g:=gk) g5) (gw 97 (lG B2 [0,1,2,3,4,5,6] (AF _ _ · m0 m1 m2 AC Ag F1 gk)))))))))))))) (gw 97 (lG B2 [0,1,2,3,4,5,6] (AF _ _ · m0 m1 m2 AC Ag F1 gk))))))))))) (fun c1=>rO (jb 74 c0 (jg g0 (jg g1 (jc (em (Ki A5) [2,0,1] (Y1 c q pos ln o1 o3 AX gk Ab Ex o5 Ew)) (jb 83 c1 (jt (gw 97 (lG B2 [0,1,2,3,4,5,6] (AF _ _ · m0 m1 m2 AC Ag F1 gk)))))))))))))))) (fun _=>lG B2 [0,1,2,3,5] (AF _ _ · m0 m1 AC Ag gk))
 case l6 AR o1 o3 AX o4 o7=>
  intro m0 m1 AC Ag gk;have AC:=zAc AC;refine rd Ag fun m1 Ag=>?_
  have p:=H0;refine gs (BR 37 B2) [0,1,2,3,4,5,6,7] p (Gp (Aa Tryz.f72) 37 [m0,m1]) (AL 208 [(1,.ref 2 0),(3,.fn 103 1 (L1 [.ref 2 0])),(5,.msl 3 1 0 ((((c.cells.length:Int)+1)).toNat)),(7,.fn 104 1 (L1 [.ref 2 0])),(14,.it 4),(16,.i AR),(17,.it 5),(18,.ref 6 0),(140,.it 7)]) (uL c q pos ln o1 o3 AX gk o4 o7) ?_;revert r;apply gO
  exact gn fun g0=>fun p r h=>by
   replace h:=UL h;refine At.nx (ops:=A8 Tryz.f72 37) HC.x (by kernel_rfl) (by kernel_rfl) 7 3 AX 2 o3 gk o7 none [1,3,5,7,14,16,17,18,140,142] [0,1,2,3,4,5,6] (AL 208 [(1,.ref 2 0),(3,.fn 103 1 (L1 [.ref 2 0])),(5,.msl 3 1 0 ((((c.cells.length:Int)+1)).toNat)),(7,.fn 104 1 (L1 [.ref 2 0])),(14,.it 4),(16,.i AR),(17,.it 5),(18,.ref 6 0),(142,.bool false)]) (Y4 c q pos ln o1 o3 o4) [0,1,2,3,4,5,6,7] (fun y1=>AL 208 [(1,.ref 2 0),(3,.fn 103 1 (L1 [.ref 2 0])),(5,.msl 3 1 0 ((((c.cells.length:Int)+1)).toNat)),(7,.fn 104 1 (L1 [.ref 2 0])),(14,.it 4),(16,.i AR),(17,.it 5),(18,.ref 6 0),(140,.it 7),(142,.bool true)]) (fun y1=>(uT c q pos ln o1 o3 AX gk o4 o7 y1)) (by kernel_rfl) (by kernel_rfl) (by kernel_rfl) (by decide) g0 (by kernel_rfl) (by kernel_rfl) (fun _=>by kernel_rfl) (fun he=>?_) (fun y1 he=>?_)
   ·replace h:=h.1 he;revert r;apply gO;exact jg (by decide:(0:Int)<=1/\ 1<((2:Nat):Int)) (jg cr (gn fun g1=>jg g1 (ce FS [0,1] (Y4 c q pos ln o1 o3 o4) fun y2=>jg (Eq.refl (bU c AR q pos ln y2 o3 o4)) (jg (by decide:(0:Int)<=0/\ 0<((2:Nat):Int)) (jg Wu (jg g1 (ce Kg [0,1] (uU c q pos ln y2 o3 o4) fun y3=>jg (Eq.refl (bX c AR q pos ln y3 o3 o4)) (gw 134 (lG (tg:=[([],(bU c AR q pos ln y2 o3 o4)),([],(bX c AR q pos ln y3 o3 o4))]) B2 [0,1,2,3,5] (AF _ _ · m0 AC))))))))))
   ·replace h:=h.2 y1 he;revert r;apply gO;exact gi (jg (Eq.refl gk.1) (jg (Eq.refl gk.2.1) (jg (Eq.refl gk.2.2) (jt (lN B2 [0,1,2,3,4,5,6,8,7,9] (AF _ _ · m0 m1 n AC Ag Nat.le.refl gk))))))
 case l7 AR DQ o1 o3 AX o4 o5 BB BE C3 C2 o8 DS=>
  intro m0 m1 m2 AC Ag F1 gk;have AC:=zAc AC;have Ag:=zAc Ag;refine rd F1 fun m2 F1=>?_
  revert r;apply gO;exact bj 148 (fun c0=>gc (gn fun g0=>jg g0 (gn fun g1=>jg g1 (cn fun y1 A5=>jc (em (Ki A5) [2,0,1] (RR c q pos ln o1 o3 AX gk o4 o5 BB BE C3 C2 o8 DS)) (jt (bn (fun c1=>rO (jb 148 c0 (jg g0 (jg g1 (jc (em (Ki A5) [2,0,1] (RR c q pos ln o1 o3 AX gk o4 o5 BB BE C3 C2 o8 DS)) (jb 158 c1 (jt (cn fun y2 CQ=>jc (em (Ub CQ) [2,0,1] (Y6 c q pos ln y1 o3 AX gk o4 o5 BB BE C3 C2 o8 DS)) (bj 164 (fun c2=>bj 169 (fun c3=>bn (fun c4=>rO (jb 148 c0 (jo 149 (AM.int (k:=.i64) (eq_of_beq c4)) (jg g0 (jg g1 (jc (em (Ki A5) [2,0,1] (RR c q pos ln o1 o3 AX gk o4 o5 BB BE C3 C2 o8 DS)) (jb 158 c1 (jt (jc (em (Ub CQ) [2,0,1] (Y6 c q pos ln y1 o3 AX gk o4 o5 BB BE C3 C2 o8 DS)) (jb 164 c2 (jb 169 c3 (jg (by decide:(0:Int)<=0/\ 0<((2:Nat):Int)) (jt (gw 175 (lG B2 [0,1,2,3,4,5,6,7,8,9] (AF _ _ · m0 m1 m2 AC Ag F1 gk)))))))))))))))) (fun c4=>bn (fun c6=>rO (jb 148 c0 (jo 149 (AM.int (k:=.i64) (eq_of_beq c6)) (jg g0 (jg g1 (jc (em (Ki A5) [2,0,1] (RR c q pos ln o1 o3 AX gk o4 o5 BB BE C3 C2 o8 DS)) (jb 158 c1 (jt (jc (em (Ub CQ) [2,0,1] (Y6 c q pos ln y1 o3 AX gk o4 o5 BB BE C3 C2 o8 DS)) (jb 164 c2 (jb 169 c3 (jg (by decide:(0:Int)<=1/\ 1<((2:Nat):Int)) (jt (gw 175 (lG B2 [0,1,2,3,4,5,6,7,8,9] (AF _ _ · m0 m1 m2 AC Ag F1 gk)))))))))))))))) (fun c6=>nO))) (fun _=>gw 175 (lG B2 [0,1,2,3,4,5,6,7,8,9] (AF _ _ · m0 m1 m2 AC Ag F1 gk)))) (fun _=>gw 175 (lG B2 [0,1,2,3,4,5,6,7,8,9] (AF _ _ · m0 m1 m2 AC Ag F1 gk)))))))))))) (fun c1=>rO (jb 148 c0 (jg g0 (jg g1 (jc (em (Ki A5) [2,0,1] (RR c q pos ln o1 o3 AX gk o4 o5 BB BE C3 C2 o8 DS)) (jb 158 c1 (jt (gw 175 (lG B2 [0,1,2,3,4,5,6,7,8,9] (AF _ _ · m0 m1 m2 AC Ag F1 gk)))))))))))))))) (fun _=>lG B2 [0,1,2,3,4,5,6,8] (AF _ _ · m0 m1 AC Ag gk))
 case l8 x8 Ah o1 o3 AX o4 Io=>
  intro m0 m1 AC Ag gk;have AC:=zAc AC;refine rd Ag fun m1 Ag=>?_
  have p:=H0;refine gs (BR 17 B2) [0,1,2,3,4] p (Gp (Aa Tryz.f72) 17 [m0,m1]) (AL 208 [(1,.ref 2 0),(3,.fn 103 1 (L1 [.ref 2 0])),(4,.i (c.cells.length:Int)),(5,.msl 3 1 0 ((((c.cells.length:Int)+1)).toNat)),(7,.fn 104 1 (L1 [.ref 2 0])),(8,.i x8),(58,.i (c.cells.length:Int)),(59,.i Ah),(66,.it 4)]) (uS c q pos ln o1 o3 AX gk o4 Io) ?_;revert r;apply gO
  exact gn fun g0=>fun p r h=>by
   replace h:=UL h;refine At.nx (ops:=A8 Tryz.f72 17) HC.x (by kernel_rfl) (by kernel_rfl) 4 3 AX 2 o3 gk o4 (some Io) [1,3,4,5,7,8,58,59,66,68] [0,1,2,3] (AL 208 [(1,.ref 2 0),(3,.fn 103 1 (L1 [.ref 2 0])),(4,.i (c.cells.length:Int)),(5,.msl 3 1 0 ((((c.cells.length:Int)+1)).toNat)),(7,.fn 104 1 (L1 [.ref 2 0])),(8,.i x8),(58,.i (c.cells.length:Int)),(59,.i Ah),(68,.bool false)]) (Y7 c q pos ln o1 o3) [0,1,2,3,4] (fun y1=>AL 208 [(1,.ref 2 0),(3,.fn 103 1 (L1 [.ref 2 0])),(4,.i (c.cells.length:Int)),(5,.msl 3 1 0 ((((c.cells.length:Int)+1)).toNat)),(7,.fn 104 1 (L1 [.ref 2 0])),(8,.i x8),(58,.i (c.cells.length:Int)),(59,.i Ah),(66,.it 4),(68,.bool true)]) (fun y1=>(gb c q pos ln o1 o3 AX gk o4 y1)) (by kernel_rfl) (by kernel_rfl) (by kernel_rfl) (by decide) g0 (by kernel_rfl) (by kernel_rfl) (fun _=>by kernel_rfl) (fun he=>?_) (fun y1 he=>?_)
   ·replace h:=h.1 he;revert r;apply gO;exact gw 98 (lG B2 [0,1,2,3] (AF _ _ · m0 AC))
   ·replace h:=h.2 y1 he;revert r;apply gO;exact gi (jg (Eq.refl gk.1) (jg (Eq.refl gk.2.1) (jg (Eq.refl gk.2.2) (jt (lN B2 [0,1,2,3,5,4,6] (AF _ _ · m0 m1 n AC Ag Nat.le.refl gk))))))
 case l9 AR o1 o3 AX o4 o5 BB BE o7 In=>
  intro m0 m1 AC Ag gk;have AC:=zAc AC;refine rd Ag fun m1 Ag=>?_
  have p:=H0;refine gs (BR 37 B2) [0,1,2,3,4,5,6,7] p (Gp (Aa Tryz.f72) 37 [m0,m1]) (AL 208 [(1,.ref 2 0),(3,.fn 103 1 (L1 [.ref 2 0])),(5,.msl 3 1 0 ((((c.cells.length:Int)+1)).toNat)),(7,.fn 104 1 (L1 [.ref 2 0])),(14,.it 4),(16,.i AR),(17,.it 5),(18,.ref 6 0),(140,.it 7)]) (uR c q pos ln o1 o3 AX gk o4 o5 BB BE o7 In) ?_;revert r;apply gO
  exact gn fun g0=>fun p r h=>by
   replace h:=UL h;refine At.nx (ops:=A8 Tryz.f72 37) HC.x (by kernel_rfl) (by kernel_rfl) 7 3 AX 2 o3 gk o7 (some In) [1,3,5,7,14,16,17,18,140,142] [0,1,2,3,4,5,6] (AL 208 [(1,.ref 2 0),(3,.fn 103 1 (L1 [.ref 2 0])),(5,.msl 3 1 0 ((((c.cells.length:Int)+1)).toNat)),(7,.fn 104 1 (L1 [.ref 2 0])),(14,.it 4),(16,.i AR),(17,.it 5),(18,.ref 6 0),(142,.bool false)]) (Y5 c q pos ln o1 o3 o4 o5 BB BE) [0,1,2,3,4,5,6,7] (fun y1=>AL 208 [(1,.ref 2 0),(3,.fn 103 1 (L1 [.ref 2 0])),(5,.msl 3 1 0 ((((c.cells.length:Int)+1)).toNat)),(7,.fn 104 1 (L1 [.ref 2 0])),(14,.it 4),(16,.i AR),(17,.it 5),(18,.ref 6 0),(140,.it 7),(142,.bool true)]) (fun y1=>(uO c q pos ln o1 o3 AX gk o4 o5 BB BE o7 y1)) (by kernel_rfl) (by kernel_rfl) (by kernel_rfl) (by decide) g0 (by kernel_rfl) (by kernel_rfl) (fun _=>by kernel_rfl) (fun he=>?_) (fun y1 he=>?_)
   ·replace h:=h.1 he;revert r;apply gO;exact jg (by decide:(0:Int)<=1/\ 1<((2:Nat):Int)) (bi 179 (jg cr (gn fun g1=>jg g1 (ce FS [0,1] (Y5 c q pos ln o1 o3 o4 o5 BB BE) fun y2=>jg (Eq.refl (WZ c AR q pos ln y2 o3 o4 o5 BB BE)) (jg (by decide:(0:Int)<=0/\ 0<((2:Nat):Int)) (bi 197 (jg Wu (jg g1 (ce Kg [0,1] (uQ c q pos ln y2 o3 o4 o5 BB BE) fun y3=>jg (Eq.refl (bW c AR q pos ln y3 o3 o4 o5 BB BE)) (gw 134 (lG (tg:=[([],(WZ c AR q pos ln y2 o3 o4 o5 BB BE)),([],(bW c AR q pos ln y3 o3 o4 o5 BB BE))]) B2 [0,1,2,3,5] (AF _ _ · m0 AC)))))) (gw 134 (lG (tg:=[([],(WZ c AR q pos ln y2 o3 o4 o5 BB BE))]) B2 [0,1,2,3,5] (AF _ _ · m0 AC)))))))) (jg (by decide:(0:Int)<=0/\ 0<((2:Nat):Int)) (bi 197 (jg Wu (gi (ce Kg [0,1] (Y5 c q pos ln o1 o3 o4 o5 BB BE) fun y2=>jg (Eq.refl (bV c AR q pos ln y2 o3 o4 o5 BB BE)) (gw 134 (lG (tg:=[([],(bV c AR q pos ln y2 o3 o4 o5 BB BE))]) B2 [0,1,2,3,5] (AF _ _ · m0 AC)))))) (gw 134 (lG B2 [0,1,2,3,5] (AF _ _ · m0 AC))))))
   ·replace h:=h.2 y1 he;revert r;apply gO;exact gi (jg (Eq.refl gk.1) (jg (Eq.refl gk.2.1) (jg (Eq.refl gk.2.2) (jt (lN B2 [0,1,2,3,4,5,6,8,7,9] (AF _ _ · m0 m1 n AC Ag Nat.le.refl gk))))))
theorem ns {n:Nat} {c:AB} {q:AA} {pos:List Int} {ln:Nat} {lost:List Int} {r:Bool×(List Int)} (h:Nb n c q pos ln lost=some r):EQ 72 [.ref 0 0] [some (.cells (AG c++AD q++[.ints pos,.msl 1 1 0 ln])),some (.ints lost)] (.bool r.1) [some (.cells (AG c++AD q++[.ints pos,.msl 1 1 0 ln])),some (.ints r.2)] false:=by
 refine ot Tryz.func72 fun B N=>?_
 revert r;apply gO;exact bi 32 (lE B2 [2] [0,1]) (gc (gw 41 (gi (lN B2 [0,1,2,3] ((ny B N c q pos ln lost n) _ _ · n Nat.le.refl)))))
end Go.Proofs.YtgkhhfnhacibcaaGreatDoor
namespace Go.Proofs.YtgkhhfnhacibcaaGreatDoor
abbrev zBm:=@List.ext_getElem
abbrev zB7:=@Bool.not_eq_true
abbrev zCF:=@Option.isSome_none
abbrev zCG:=@Option.isSome_some
abbrev zCf:=@or_false
end Go.Proofs.YtgkhhfnhacibcaaGreatDoor
namespace Go.Proofs.YtgkhhfnhacibcaaGreatDoor
open Go.RowKit
section
variable {c:AB} {k:Nat} {pos lost:List Int} {q:AA}
theorem Bo.unique {i:Nat} {D:Nat -> Nat -> Prop} {l l':List Int} (h:Bo c pos lost i D l) (h':Bo c pos lost i D l') (hi: ∀ j,Bj (l.getD j 0)) (A3: ∀ j,Bj (l'.getD j 0)):l=l':=by
 have e:l.length=l'.length:=h.1.trans h'.1.symm;refine zBm e fun j h1 h2=>?_
 have e1:l.getD j 0=l[j]:=by simp [h1]
 have e2:l'.getD j 0=l'[j]:=by simp [h2]
 rw [←e1,←e2];refine KH (hi j) (A3 j) fun s _=>?_
 rw [zAy,h.2,h'.2]
theorem ca {l:List Int} {i:Nat} {x:Int} (h: ∀ j,Bj (l.getD j 0)) (hx:Bj x): ∀ j,Bj ((l.set i x).getD j 0):=by
 intro j
 by_cases e:i=j
 ·subst e
  by_cases h2:i<l.length
  ·rw [Ju h2];exact hx
  ·rw [List.set_eq_of_length_le (by omega)];exact h i
 ·rw [getD_set_ne e];exact h j
theorem q9 {n ln:Nat} {cell ss:Int} {l':List Int} (h:C4 n cell ss c q pos ln lost=some l') (hi: ∀ j,Bj (lost.getD j 0)): ∀ j,Bj (l'.getD j 0):=by
 unfold C4 Xt at h;split at h
 ·cases h;exact ca hi (F5 _ _ _)
 ·cases h
theorem qR {n ln:Nat} {cell:Int} {l':List Int} (h:Fq n cell c q pos ln lost=some l') (hi: ∀ j,Bj (lost.getD j 0)): ∀ j,Bj (l'.getD j 0):=by
 unfold Fq Xc at h;split at h
 ·cases h;exact ca hi (F5 _ _ _)
 ·cases h
def Hc (c:AB):Prop:=c.runs.length<=256/\ ∀ j,j<c.runs.length -> c.runs.getD j 0<=256
structure LQ (c:AB) (d l:Int):Prop where
 d0:0<=d
 d1:d<=(c.runs.length:Int)
 l0:0<=l
 open' : 0 < l -> d < (c.runs.length : Int) /\ l <= c.runs.getD d.toNat 0
def nx (c:AB) (d l:Int) (inn:Bool):Option (Int×Int):=
 bif inn then (if d<(c.runs.length:Int)/\ l<c.runs.getD d.toNat 0 then some (d,l+1) else none)
 else (if l=0 then some (d,0) else if l=c.runs.getD d.toNat 0 then some (d+1,0) else none)
theorem qX {d l:Int} {inn:Bool} {t:Int×Int} (h:LQ c d l) (e:nx c d l inn=some t):LQ c t.1 t.2:=by
 obtain ⟨h1,h2,h3,h4⟩:=h;unfold nx at e;cases inn
 ·rw [zg] at e;split at e
  ·cases e;exact ⟨h1,h2,zAo _,fun h=>absurd h (Int.lt_irrefl _)⟩
  ·split at e
   ·cases e;have:=h4 (by omega);exact ⟨by show 0<=d+1;omega,by show d+1<=_;omega,zAo _,fun h=>absurd h (Int.lt_irrefl _)⟩
   ·cases e
 ·rw [zk] at e;split at e
  ·rename_i h5;cases e;exact ⟨h1,h2,by show 0<=l+1;omega,fun _=>⟨h5.1,by show l+1<=c.runs.getD d.toNat 0;omega⟩⟩
  ·cases e
theorem UP {n ln:Nat} {d l:Int} {inn:Bool} (R:Hc c) (h:LQ c d l): ∃ t,Qs n (d,l) inn c q pos ln lost=some (t,(nx c d l inn).isSome,lost)/\ ∀ u,nx c d l inn=some u -> t=u:=by
 obtain ⟨h1,h2,h3,h4⟩:=h;obtain ⟨hr,hv⟩:=R
 have hl:l<=256:=by
  by_cases h0:0<l
  ·obtain ⟨a1,a2⟩:=h4 h0;have:=hv d.toNat (by omega);omega
  ·omega
 unfold Qs fF nx;cases inn
 ·rw [zg,zg]
  by_cases h0:l=0
  ·subst h0;refine ⟨(d,0),by simp,fun u hu=>by simpa using hu⟩
  ·obtain ⟨a1,a2⟩:=h4 (by omega);have e0:(l==0)=false:=by simpa using h0
   simp only [e0,zg,zr h0];rw [zi ⟨Aq.2 ⟨by omega,by omega⟩,h1,a1⟩];refine ⟨(d+1,0),?_,fun u hu=>?_⟩
   ·by_cases h5:l=c.runs.getD d.toNat 0
    ·rw [zi h5,←h5];simp
    ·rw [zr h5];simpa using h5
   ·split at hu
    ·cases hu;rfl
    ·cases hu
 ·rw [zk,zk,zi (Aq.2 ⟨by show _<=l+1;omega,by show l+1<=_;omega⟩)]
  by_cases h5:d<(c.runs.length:Int)
  ·simp only [zn h5,zk];rw [zi ⟨h1,h5⟩];refine ⟨(d,l+1),?_,fun u hu=>?_⟩
   ·by_cases h6:l<c.runs.getD d.toNat 0
    ·rw [zi ⟨h5,h6⟩,zn h6];rfl
    ·rw [zr fun h=>h6 h.2,ze h6];rfl
   ·split at hu
    ·cases hu;rfl
    ·cases hu
  ·simp only [ze h5,zg];refine ⟨(d,l+1),?_,fun u hu=>?_⟩
   ·rw [zr fun h=>h5 h.1];rfl
   ·rw [zr fun h=>h5 h.1] at hu;cases hu
def kd (c:AB) (pos:List Int) (i:Nat) (inn:Bool):Bool:=bif inn then (bits .and .i64 (AV c pos i) c.set != 0) else (bits .andNot .i64 (AV c pos i) c.set != 0)
theorem Ua {n:Nat} {i:Nat} {inn:Bool} (W:Bz c k pos) (hi:i<c.cells.length):Q8 n (i:Int) inn c q pos pos.length lost=some (kd c pos i inn,lost):=by
 have hc:=W.cells i hi;unfold Q8 fu kd;simp only [zl];cases inn
 ·rw [zg,zi ⟨⟨by omega,by omega⟩,hc⟩];rfl
 ·rw [zk,zi ⟨⟨by omega,by omega⟩,hc⟩];rfl
def E3 (c:AB) (pos:List Int):Nat -> Int×Int -> Prop
 | 0,t=>t=(0,0)
 | i+1,t=>∃ s inn,E3 c pos i s/\ nx c s.1 s.2 inn=some t/\ kd c pos i inn=true
theorem E3.ok (i:Nat): ∀ {t:Int×Int},E3 c pos i t -> LQ c t.1 t.2:=by
 induction i with
 | zero=>
  intro t h;obtain rfl:t=(0,0):=h;exact ⟨zAo _,by show (0:Int)<=_;omega,zAo _,fun h=>absurd h (Int.lt_irrefl _)⟩
 | succ i ih=>
  rintro t ⟨s,inn,h1,h2,_⟩;exact qX (ih h1) h2
def zd (c:AB) (t:Int×Int):Prop:=t=((c.runs.length:Int),0)∨(0<c.runs.length/\ t=((c.runs.length:Int)-1,c.runs.getD (c.runs.length-1) 0))
def IW (c:AB) (pos:List Int):Nat -> Int×Int -> Prop
 | 0,t=>zd c t
 | m+1,s=>E3 c pos (c.cells.length-1-m) s/\ ∃ t inn,nx c s.1 s.2 inn=some t/\ kd c pos (c.cells.length-1-m) inn=true/\ IW c pos m t
def J0 (c:AB) (pos:List Int) (i:Nat) (inn:Bool):Prop:=∃ s t,E3 c pos i s/\ nx c s.1 s.2 inn=some t/\ kd c pos i inn=true/\ IW c pos (c.cells.length-1-i) t
def JH (c:AB) (pos:List Int) (a s:Nat):Prop:=(¬ J0 c pos a true/\ tb c.set s=true)∨(¬ J0 c pos a false/\ tb c.set s=false)
def Dc (c:AB) (pos:List Int) (i:Nat) (o4:KS) (d l:Int) (inn:Bool):Bool:=match nx c d l inn with
 | some t=>kd c pos i inn&&o4.contains [t.1,t.2]
 | none=>false
theorem rf {n i oi:Nat} {o1:List Int} {o3:List (Option KS)} {o4 o5 o8:KS} {b0 b1:Bool} {d l:Int} {Hx:List Int} (W:Bz c k pos) (R:Hc c) (hi:i<c.cells.length) (h:LQ c d l):
 A4 c q pos pos.length lost (n+1) (.l7 i 0 o1 o3 oi o4 o5 b0 b1 d l o8 Hx)=A4 c q pos pos.length lost n (.l7 i 1 o1 o3 oi o4 (bif Dc c pos i o4 d l false then B4 [d,l] o5 else o5) (b0||Dc c pos i o4 d l false) b1 d l o8 Hx):=by
 obtain ⟨t,e1,e2⟩:=UP (n:=n) (ln:=pos.length) (pos:=pos) (lost:=o1) (q:=q) (inn:=false) R h;have b:([false,true]:List Bool).getD (0+((0:Int)).toNat) false=false:=rfl;have r:AH ((0:Int)+1):=Aq.2 ⟨by decide,by decide⟩
 show Ll n (A4 c q pos pos.length lost n) c q pos pos.length lost i 0 o1 o3 oi o4 o5 b0 b1 d l o8 Hx=_
 unfold Ll Dc;rw [zn (by decide),zk,zi ⟨⟨by decide,by decide⟩,by decide⟩,b,e1,zh];cases hn:nx c d l false with
 | none=>simp only [zCF,zg,zi r,zBD];rfl
 | some u=>
  obtain rfl:=e2 u hn;simp only [zCG,zk];rw [Ua W hi,zh];cases hk:kd c pos i false
  ·simp only [zg,zi r,zBC,zBD];rfl
  ·simp only [zk,zAG];cases hc:o4.contains [t.1,t.2]
   ·simp only [zg,zi r,zBD];rfl
   ·have z:((0:Int)==0)=true:=rfl;simp only [zk,z,zi r,Bool.or_true];rfl
theorem re {n i oi:Nat} {o1:List Int} {o3:List (Option KS)} {o4 o5 o8:KS} {b0 b1:Bool} {d l:Int} {Hx:List Int} (W:Bz c k pos) (R:Hc c) (hi:i<c.cells.length) (h:LQ c d l):
 A4 c q pos pos.length lost (n+1) (.l7 i 1 o1 o3 oi o4 o5 b0 b1 d l o8 Hx)=A4 c q pos pos.length lost n (.l7 i 2 o1 o3 oi o4 (bif Dc c pos i o4 d l true then B4 [d,l] o5 else o5) b0 (b1||Dc c pos i o4 d l true) d l o8 Hx):=by
 obtain ⟨t,e1,e2⟩:=UP (n:=n) (ln:=pos.length) (pos:=pos) (lost:=o1) (q:=q) (inn:=true) R h;have b:([false,true]:List Bool).getD (0+((1:Int)).toNat) false=true:=rfl;have r:AH ((1:Int)+1):=Aq.2 ⟨by decide,by decide⟩
 show Ll n (A4 c q pos pos.length lost n) c q pos pos.length lost i 1 o1 o3 oi o4 o5 b0 b1 d l o8 Hx=_
 unfold Ll Dc;rw [zn (by decide),zk,zi ⟨⟨by decide,by decide⟩,by decide⟩,b,e1,zh];cases hn:nx c d l true with
 | none=>simp only [zCF,zg,zi r,zBD];rfl
 | some u=>
  obtain rfl:=e2 u hn;simp only [zCG,zk];rw [Ua W hi,zh];cases hk:kd c pos i true
  ·simp only [zg,zi r,zBC,zBD];rfl
  ·simp only [zk,zAG];cases hc:o4.contains [t.1,t.2]
   ·simp only [zg,zi r,zBD];rfl
   ·have z:((1:Int)==0)=false:=rfl;have z1:((1:Int)==1)=true:=rfl;simp only [zk,zg,z,z1,zi r,Bool.or_true];rfl
theorem rb {n i oi:Nat} {o1:List Int} {o3:List (Option KS)} {o4 o5 o8:KS} {b0 b1:Bool} {d l:Int} {Hx:List Int}:
 A4 c q pos pos.length lost (n+1) (.l7 i 2 o1 o3 oi o4 o5 b0 b1 d l o8 Hx)=A4 c q pos pos.length lost n (.l9 i o1 o3 oi o4 o5 b0 b1 o8 Hx):=by
 show Ll n (A4 c q pos pos.length lost n) c q pos pos.length lost i 2 o1 o3 oi o4 o5 b0 b1 d l o8 Hx=_
 unfold Ll;rw [ze (by decide),zg]
def Es (c:AB) (pos:List Int) (i:Nat) (o3:List (Option KS)) (d l:Int) (inn:Bool):List (Option KS):=match nx c d l inn with
 | some t=>bif kd c pos i inn then o3.set (i+1) (some (B4 [t.1,t.2] ((o3.getD (i+1) none).getD []))) else o3
 | none=>o3
theorem rl {n i:Nat} {o1:List Int} {o3:List (Option KS)} {o5:KS} {d l:Int} {FB:List Int} {Ah:Int} (W:Bz c k pos) (R:Hc c) (hi:i<c.cells.length) (h:LQ c d l) (h3:i+1<o3.length) (hs:(o3.getD (i+1) none).isSome=true):
 A4 c q pos pos.length lost (n+1) (.l5 i Ah 0 o1 o3 i d l o5 FB)=A4 c q pos pos.length lost n (.l5 i Ah 1 o1 (Es c pos i o3 d l false) i d l o5 FB):=by
 obtain ⟨t,e1,e2⟩:=UP (n:=n) (ln:=pos.length) (pos:=pos) (lost:=o1) (q:=q) (inn:=false) R h;have b:([false,true]:List Bool).getD (0+((0:Int)).toNat) false=false:=rfl;have r:AH ((0:Int)+1):=Aq.2 ⟨by decide,by decide⟩;have Af:=W.len;have t1:((((c.cells.length:Nat):Int)+1).toNat:Nat)=c.cells.length+1:=by omega
 have t2:0+(((i:Int)+1).toNat:Nat)=i+1:=by omega
 show Lm n (A4 c q pos pos.length lost n) c q pos pos.length lost i Ah 0 o1 o3 i d l o5 FB=_
 unfold Lm Es;rw [zn (by decide),zk,zi ⟨⟨by decide,by decide⟩,by decide⟩,b,e1,zh];cases hn:nx c d l false with
 | none=>simp only [zCF,zg,zi r];rfl
 | some u=>
  obtain rfl:=e2 u hn;simp only [zCG,zk];rw [Ua W hi,zh];cases hk:kd c pos i false
  ·simp only [zg,zi r];rfl
  ·simp only [zk,t1,t2];rw [zi ⟨Aq.2 ⟨by omega,by omega⟩,⟨by omega,by omega⟩,h3,by omega,hs,r⟩];rfl
theorem rj {n i:Nat} {o1:List Int} {o3:List (Option KS)} {o5:KS} {d l:Int} {FB:List Int} {Ah:Int} (W:Bz c k pos) (R:Hc c) (hi:i<c.cells.length) (h:LQ c d l) (h3:i+1<o3.length) (hs:(o3.getD (i+1) none).isSome=true):
 A4 c q pos pos.length lost (n+1) (.l5 i Ah 1 o1 o3 i d l o5 FB)=A4 c q pos pos.length lost n (.l5 i Ah 2 o1 (Es c pos i o3 d l true) i d l o5 FB):=by
 obtain ⟨t,e1,e2⟩:=UP (n:=n) (ln:=pos.length) (pos:=pos) (lost:=o1) (q:=q) (inn:=true) R h;have b:([false,true]:List Bool).getD (0+((1:Int)).toNat) false=true:=rfl;have r:AH ((1:Int)+1):=Aq.2 ⟨by decide,by decide⟩;have Af:=W.len;have t1:((((c.cells.length:Nat):Int)+1).toNat:Nat)=c.cells.length+1:=by omega
 have t2:0+(((i:Int)+1).toNat:Nat)=i+1:=by omega
 show Lm n (A4 c q pos pos.length lost n) c q pos pos.length lost i Ah 1 o1 o3 i d l o5 FB=_
 unfold Lm Es;rw [zn (by decide),zk,zi ⟨⟨by decide,by decide⟩,by decide⟩,b,e1,zh];cases hn:nx c d l true with
 | none=>simp only [zCF,zg,zi r];rfl
 | some u=>
  obtain rfl:=e2 u hn;simp only [zCG,zk];rw [Ua W hi,zh];cases hk:kd c pos i true
  ·simp only [zg,zi r];rfl
  ·simp only [zk,t1,t2];rw [zi ⟨Aq.2 ⟨by omega,by omega⟩,⟨by omega,by omega⟩,h3,by omega,hs,r⟩];rfl
theorem ri {n i:Nat} {o1:List Int} {o3:List (Option KS)} {o5:KS} {d l:Int} {FB:List Int} {Ah:Int}:
 A4 c q pos pos.length lost (n+1) (.l5 i Ah 2 o1 o3 i d l o5 FB)=A4 c q pos pos.length lost n (.l8 i Ah o1 o3 i o5 FB):=by
 show Lm n (A4 c q pos pos.length lost n) c q pos pos.length lost i Ah 2 o1 o3 i d l o5 FB=_
 unfold Lm;rw [ze (by decide),zg]
def FL (o3:List (Option KS)) (j:Nat):KS:=(o3.getD j none).getD []
theorem Tw {i:Nat} {o3:List (Option KS)} {d l:Int} {inn:Bool}:(Es c pos i o3 d l inn).length=o3.length:=by
 unfold Es;split
 ·cases kd c pos i inn
  ·rfl
  ·rw [zk,zAK]
 ·rfl
theorem VK {α:Type} {l:List α} {i:Nat} {x y:α} (h:i<l.length):(l.set i x).getD i y=x:=by
 rw [u8,zA4 h];rfl
theorem Zm {α:Type} {l:List α} {i j:Nat} {x y:α} (h:i≠j):(l.set i x).getD j y=l.getD j y:=by
 rw [u8,zAu h,←u8]
theorem XM {i j:Nat} {o3:List (Option KS)} {d l:Int} {inn:Bool} (h:j≠i+1):(Es c pos i o3 d l inn).getD j none=o3.getD j none:=by
 unfold Es;split
 ·cases kd c pos i inn
  ·rfl
  ·rw [zk,Zm (fun e=>h e.symm)]
 ·rfl
theorem XN {i:Nat} {o3:List (Option KS)} {d l:Int} {inn:Bool} (hl:i+1<o3.length) {j:Nat} (h:(o3.getD j none).isSome=true):((Es c pos i o3 d l inn).getD j none).isSome=true:=by
 by_cases e:j=i+1
 ·subst e;unfold Es;split
  ·cases kd c pos i inn
   ·exact h
   ·rw [zk,VK hl];rfl
  ·exact h
 ·rw [XM e];exact h
theorem N5 {i:Nat} {o3:List (Option KS)} {d l:Int} {inn:Bool} (hl:i+1<o3.length) {x:List Int}:x∈FL (Es c pos i o3 d l inn) (i+1)↔x∈FL o3 (i+1)∨∃ t,nx c d l inn=some t/\ kd c pos i inn=true/\ x= [t.1,t.2]:=by
 unfold Es;split
 ·rename_i t ht;cases hk:kd c pos i inn
  ·rw [zg];exact ⟨.inl,fun h=>h.elim id fun ⟨_,_,h,_⟩=>by cases h⟩
  ·rw [zk];unfold FL;rw [VK hl]
   show x∈B4 _ _↔_
   rw [MF];constructor
   ·rintro (h | h)
    ·exact .inr ⟨t,ht,rfl,h⟩
    ·exact .inl h
   ·rintro (h | ⟨u,hu,_,h⟩)
    ·exact .inr h
    ·rw [ht] at hu;cases hu;exact .inl h
 ·rename_i hn;exact ⟨.inl,fun h=>h.elim id fun ⟨_,h,_⟩=>by rw [hn] at h;cases h⟩
structure Rows (c:AB) (pos:List Int) (i:Nat) (o3:List (Option KS)):Prop where
 len:o3.length=c.cells.length+1
 isSome: ∀ j,j<=c.cells.length -> (o3.getD j none).isSome=true
 row: ∀ j,j<=i -> ∀ x,x∈FL o3 j↔∃ t:Int×Int,x= [t.1,t.2]/\ E3 c pos j t
 rest: ∀ j,i<j -> j<=c.cells.length -> FL o3 j= []
structure NE (c:AB) (pos:List Int) (i:Nat) (rem:KS) (o3:List (Option KS)):Prop where
 hi:i<c.cells.length
 len:o3.length=c.cells.length+1
 isSome: ∀ j,j<=c.cells.length -> (o3.getD j none).isSome=true
 row: ∀ j,j<=i -> ∀ x,x∈FL o3 j↔∃ t:Int×Int,x= [t.1,t.2]/\ E3 c pos j t
 rest: ∀ j,i+1<j -> j<=c.cells.length -> FL o3 j= []
 sub: ∀ x∈rem,∃ t:Int×Int,x= [t.1,t.2]/\ E3 c pos i t
 next: ∀ x∈FL o3 (i+1),∃ t:Int×Int,x= [t.1,t.2]/\ E3 c pos (i+1) t
 cov: ∀ t,E3 c pos i t -> [t.1,t.2]∈rem∨∀ inn u,nx c t.1 t.2 inn=some u -> kd c pos i inn=true -> [u.1,u.2]∈FL o3 (i+1)
theorem Rows.mid {i:Nat} {o3:List (Option KS)} (h:Rows c pos i o3) (hi:i<c.cells.length):NE c pos i (FL o3 i) o3 where
 hi:=hi
 len:=h.len
 isSome:=h.isSome
 row:=h.row
 rest:=fun j hj hl=>h.rest j (by omega) hl
 sub:=fun x hx=>(h.row i (zAF _) x).1 hx
 next:=fun x hx=>by rw [h.rest (i+1) (by omega) (by omega)] at hx;cases hx
 cov:=fun t ht=>.inl ((h.row i (zAF _) _).2 ⟨t,rfl,ht⟩)
theorem NE.rows {i:Nat} {o3:List (Option KS)} (h:NE c pos i [] o3):Rows c pos (i+1) o3 where
 len:=h.len
 isSome:=h.isSome
 row:=fun j hj x=>by
  rcases zz.1 (Nat.lt_succ_of_le hj) with hj | rfl
  ·exact h.row j (by omega) x
  ·refine ⟨h.next x,?_⟩;rintro ⟨t,rfl,s,inn,h1,h2,h3⟩;rcases h.cov s h1 with h4 | h4
   ·cases h4
   ·exact h4 inn t h2 h3
 rest:=h.rest
theorem Qf {t u:Int×Int} (h:([t.1,t.2]:List Int)= [u.1,u.2]):t=u:=by
 obtain ⟨a,b⟩:=t;obtain ⟨a',b'⟩:=u;simp only [List.cons.injEq,and_true] at h;rw [h.1,h.2]
theorem NE.go {i:Nat} {o3:List (Option KS)} {rem:KS} {t:Int×Int} (h:NE c pos i rem o3) (ht: [t.1,t.2]∈rem):NE c pos i (rem.erase [t.1,t.2]) (Es c pos i (Es c pos i o3 t.1 t.2 false) t.1 t.2 true):=by
 have hl:=h.len;have hi:=h.hi;have h1:i+1<o3.length:=by omega
 have h2:i+1<(Es c pos i o3 t.1 t.2 false).length:=by rw [Tw];exact h1
 have AQ: ∀ j,j≠i+1 -> FL (Es c pos i (Es c pos i o3 t.1 t.2 false) t.1 t.2 true) j=FL o3 j:=fun j hj=>by
  unfold FL;rw [XM hj,XM hj]
 have hR:E3 c pos i t:=by
  obtain ⟨u,e,hu⟩:=h.sub _ ht;rw [Qf e];exact hu
 refine ⟨hi,by rw [Tw,Tw];exact hl,fun j hj=>XN h2 (XN h1 (h.isSome j hj)),fun j hj x=>?_,fun j hj RY=>?_,fun x hx=>h.sub x (zCT hx),fun x hx=>?_,fun s hs=>?_⟩
 ·rw [AQ j (by omega)];exact h.row j hj x
 ·rw [AQ j (by omega)];exact h.rest j hj RY
 ·rw [N5 h2,N5 h1] at hx;rcases hx with (hx | ⟨u,e1,e2,rfl⟩) | ⟨u,e1,e2,rfl⟩
  ·exact h.next x hx
  ·exact ⟨u,rfl,t,false,hR,e1,e2⟩
  ·exact ⟨u,rfl,t,true,hR,e1,e2⟩
 ·by_cases e:s=t
  ·subst e;refine .inr fun inn u h3 h4=>?_
   rw [N5 h2,N5 h1];cases inn
   ·exact .inl (.inr ⟨u,h3,h4,rfl⟩)
   ·exact .inr ⟨u,h3,h4,rfl⟩
  ·rcases h.cov s hs with h3 | h3
   ·exact .inl ((List.mem_erase_of_ne (fun e2=>e (Qf e2))).2 h3)
   ·refine .inr fun inn u h4 h5=>?_
    rw [N5 h2,N5 h1];exact .inl (.inl (h3 inn u h4 h5))
def Gu (c:AB) (pos lost:List Int) (r:Bool×List Int):Prop:=r.1=true/\ Bo c pos lost c.cells.length (JH c pos) r.2/\ ∀ j,Bj (r.2.getD j 0)
theorem Gu.uniq (r r':Bool×List Int) (h:Gu c pos lost r) (h':Gu c pos lost r'):r=r':=by
 obtain ⟨b,l⟩:=r;obtain ⟨b',l'⟩:=r';obtain ⟨h1,h2,h3⟩:=h;obtain ⟨h4,h5,h6⟩:=h';have e1:b=true:=h1;have e2:b'=true:=h4;have e3:l=l':=Bo.unique h2 h5 h3 h6;rw [e1,e2,e3]
theorem qo {i:Nat} {o1:List Int} {Ah:Int} (W:Bz c k pos) (R:Hc c) (hx:Ah=(i:Int)) (H: ∀ o3,Rows c pos (i+1) o3 -> Ac (fun n=>A4 c q pos pos.length lost n (.l2 (Ah+1) o1 o3)) (Gu c pos lost)):
 ∀ (m:Nat) (rem:KS) (o3:List (Option KS)) (FB:List Int),rem.length=m -> NE c pos i rem o3 -> Ac (fun n=>A4 c q pos pos.length lost n (.l8 i Ah o1 o3 i rem FB)) (Gu c pos lost):=by
 intro m
 induction m with
 | zero=>
  intro rem o3 FB hm hM;have:rem= []:=zAq hm;subst this;have hs:=hM.isSome i (by have:=hM.hi;omega);have r1:AH (Ah+1):=by rw [hx];exact (W.r64 hM.hi).2
  refine Ac.step 1 (fun n=>?_) (H o3 hM.rows)
  show Pz n (A4 c q pos pos.length lost n) c q pos pos.length lost i Ah o1 o3 i [] FB=_
  unfold Pz;rw [zi hs,eZ,zi r1]
 | succ m ih=>
  intro rem o3 FB hm hM;have hs:=hM.isSome i (by have:=hM.hi;omega);have AQ:rem≠[]:=by intro e;rw [e] at hm;cases hm
  refine Ac.step 1 (g:=fun n=>HG rem (if AH (Ah+1) then A4 c q pos pos.length lost n (.l2 (Ah+1) o1 o3) else none) (fun y1=>A4 c q pos pos.length lost n (.l5 i Ah 0 o1 o3 i (y1.getD 0 0) (y1.getD 1 0) (rem.erase y1) y1))) (fun n=>?_) (Ac.next AQ (fun y hy=>?_) Gu.uniq)
  ·show Pz n (A4 c q pos pos.length lost n) c q pos pos.length lost i Ah o1 o3 i rem FB=_
   unfold Pz;rw [zi hs];simp only [zi hs]
  ·obtain ⟨t,rfl,ht⟩:=hM.sub y hy;have hS:=ht.ok;have hl:=hM.len;have hi:=hM.hi;have h1:i+1<o3.length:=by omega
   have s1:=hM.isSome (i+1) (by omega);have h2:i+1<(Es c pos i o3 t.1 t.2 false).length:=by rw [Tw];exact h1
   have s2:=XN (c:=c) (pos:=pos) (d:=t.1) (l:=t.2) (inn:=false) h1 s1;refine Ac.step 3 (fun n=>?_) (ih _ _ [t.1,t.2] (by rw [zCC hy];omega) (hM.go hy))
   show A4 c q pos pos.length lost (n+2+1) (.l5 i Ah 0 o1 o3 i t.1 t.2 (rem.erase [t.1,t.2]) [t.1,t.2])=_
   rw [rl W R hM.hi hS h1 s1,rj W R hM.hi hS h2 s2,ri]
def PJ (c:AB) (pos:List Int) (m:Nat) (o4:KS):Prop:=∀ x,x∈o4↔∃ t:Int×Int,x= [t.1,t.2]/\ IW c pos m t
def LS (c:AB) (pos lost:List Int) (m:Nat) (o1:List Int):Prop:=Bo c pos lost c.cells.length (fun a s=>c.cells.length<=a+m/\ JH c pos a s) o1/\ ∀ j,Bj (o1.getD j 0)
structure Bk (c:AB) (pos:List Int) (i m:Nat) (o5:KS) (b0 b1:Bool) (rem:KS):Prop where
 hi:i+m+1=c.cells.length
 sub: ∀ x∈rem,∃ t:Int×Int,x= [t.1,t.2]/\ E3 c pos i t
 o5s: ∀ x∈o5,∃ t:Int×Int,x= [t.1,t.2]/\ IW c pos (m+1) t
 b0s:b0=true -> J0 c pos i false
 b1s:b1=true -> J0 c pos i true
 cov: ∀ t,E3 c pos i t -> [t.1,t.2]∈rem∨∀ inn u,nx c t.1 t.2 inn=some u -> kd c pos i inn=true -> IW c pos m u -> [t.1,t.2]∈o5/\ (bif inn then b1 else b0)=true
theorem Xd {i m:Nat} {o4:KS} {d l:Int} {inn:Bool} (h:PJ c pos m o4):Dc c pos i o4 d l inn=true↔∃ u,nx c d l inn=some u/\ kd c pos i inn=true/\ IW c pos m u:=by
 unfold Dc;split
 ·rename_i t ht;rw [zm,zBO,h];constructor
  ·rintro ⟨h1,u,h2,h3⟩;exact ⟨t,ht,h1,by rw [Qf h2];exact h3⟩
  ·rintro ⟨u,h1,h2,h3⟩;rw [ht] at h1;cases h1;exact ⟨h2,t,rfl,h3⟩
 ·rename_i hn;exact ⟨fun h=>(by cases h),fun ⟨u,h,_⟩=>by rw [hn] at h;cases h⟩
theorem Bk.go {i m:Nat} {o4 o5 rem:KS} {b0 b1:Bool} {t:Int×Int} (hE:PJ c pos m o4) (h:Bk c pos i m o5 b0 b1 rem) (ht: [t.1,t.2]∈rem):
 Bk c pos i m (bif Dc c pos i o4 t.1 t.2 true then B4 [t.1,t.2] (bif Dc c pos i o4 t.1 t.2 false then B4 [t.1,t.2] o5 else o5) else (bif Dc c pos i o4 t.1 t.2 false then B4 [t.1,t.2] o5 else o5)) (b0||Dc c pos i o4 t.1 t.2 false) (b1||Dc c pos i o4 t.1 t.2 true) (rem.erase [t.1,t.2]):=by
 have hR:E3 c pos i t:=by
  obtain ⟨u,e,hu⟩:=h.sub _ ht;rw [Qf e];exact hu
 have ei:c.cells.length-1-i=m:=by have:=h.hi;omega
 have em:c.cells.length-1-m=i:=by have:=h.hi;omega
 have iR: ∀ inn,Dc c pos i o4 t.1 t.2 inn=true -> J0 c pos i inn:=fun inn ho=>by
  obtain ⟨u,h1,h2,h3⟩:=(Xd hE).1 ho;exact ⟨t,u,hR,h1,h2,by rw [ei];exact h3⟩
 have g8: ∀ inn,Dc c pos i o4 t.1 t.2 inn=true -> IW c pos (m+1) t:=fun inn ho=>by
  obtain ⟨u,h1,h2,h3⟩:=(Xd hE).1 ho
  show E3 c pos (c.cells.length-1-m) t/\ ∃ u inn,nx c t.1 t.2 inn=some u/\ kd c pos (c.cells.length-1-m) inn=true/\ IW c pos m u
  rw [em];exact ⟨hR,u,inn,h1,h2,h3⟩
 have mem: ∀ x,x∈(bif Dc c pos i o4 t.1 t.2 true then B4 [t.1,t.2] (bif Dc c pos i o4 t.1 t.2 false then B4 [t.1,t.2] o5 else o5) else (bif Dc c pos i o4 t.1 t.2 false then B4 [t.1,t.2] o5 else o5))↔x∈o5∨(x= [t.1,t.2]/\ (Dc c pos i o4 t.1 t.2 true=true∨Dc c pos i o4 t.1 t.2 false=true)):=fun x=>by
  cases Dc c pos i o4 t.1 t.2 true <;> cases Dc c pos i o4 t.1 t.2 false <;> simp only [zk,zg,MF,zAa,zCf,and_false,or_true,true_or,and_true]
  ·exact Or.comm
  ·exact Or.comm
  ·exact ⟨fun h=>h.elim .inr fun h=>h.elim .inr .inl,fun h=>h.elim (fun h=>.inr (.inr h)) .inl⟩
 refine ⟨h.hi,fun x hx=>h.sub x (zCT hx),fun x hx=>?_,fun hb=>?_,fun hb=>?_,fun s hs=>?_⟩
 ·rcases (mem x).1 hx with hx | ⟨rfl,h1 | h1⟩
  ·exact h.o5s x hx
  ·exact ⟨t,rfl,g8 _ h1⟩
  ·exact ⟨t,rfl,g8 _ h1⟩
 ·rcases Bool.or_eq_true_iff.1 hb with hb | hb
  ·exact h.b0s hb
  ·exact iR _ hb
 ·rcases Bool.or_eq_true_iff.1 hb with hb | hb
  ·exact h.b1s hb
  ·exact iR _ hb
 ·by_cases e:s=t
  ·subst e;refine .inr fun inn u h1 h2 h3=>?_
   have ho:Dc c pos i o4 s.1 s.2 inn=true:=(Xd hE).2 ⟨u,h1,h2,h3⟩;rw [mem];cases inn
   ·exact ⟨.inr ⟨rfl,.inr ho⟩,by rw [zg,ho,Bool.or_true]⟩
   ·exact ⟨.inr ⟨rfl,.inl ho⟩,by rw [zk,ho,Bool.or_true]⟩
  ·rcases h.cov s hs with h3 | h3
   ·exact .inl ((List.mem_erase_of_ne (fun e2=>e (Qf e2))).2 h3)
   ·refine .inr fun inn u h4 h5 h6=>?_
    obtain ⟨h7,h8⟩:=h3 inn u h4 h5 h6;rw [mem];refine ⟨.inl h7,?_⟩;cases inn
    ·rw [zg] at h8 ⊢;rw [h8];rfl
    ·rw [zk] at h8 ⊢;rw [h8];rfl
theorem Bk.end' {i m:Nat} {o5:KS} {b0 b1:Bool} (h:Bk c pos i m o5 b0 b1 []):PJ c pos (m+1) o5/\ (b0=true↔J0 c pos i false)/\ (b1=true↔J0 c pos i true):=by
 have ei:c.cells.length-1-i=m:=by have:=h.hi;omega
 have em:c.cells.length-1-m=i:=by have:=h.hi;omega
 refine ⟨fun x=>⟨h.o5s x,?_⟩,⟨h.b0s,?_⟩,⟨h.b1s,?_⟩⟩
 ·rintro ⟨t,rfl,h1⟩;have h1:E3 c pos (c.cells.length-1-m) t/\ ∃ u inn,nx c t.1 t.2 inn=some u/\ kd c pos (c.cells.length-1-m) inn=true/\ IW c pos m u:=h1;rw [em] at h1;obtain ⟨h1,u,inn,h2,h3,h4⟩:=h1;rcases h.cov t h1 with h5 | h5
  ·cases h5
  ·exact (h5 inn u h2 h3 h4).1
 ·rintro ⟨s,t,h1,h2,h3,h4⟩;rw [ei] at h4;rcases h.cov s h1 with h5 | h5
  ·cases h5
  ·exact (h5 false t h2 h3 h4).2
 ·rintro ⟨s,t,h1,h2,h3,h4⟩;rw [ei] at h4;rcases h.cov s h1 with h5 | h5
  ·cases h5
  ·exact (h5 true t h2 h3 h4).2
theorem fZ {cell ss:Int} (h0:0<=cell) (h1:cell<(pos.length:Int)) (hl:lost.length=pos.length) (hi: ∀ j,Bj (lost.getD j 0)):
 ∃ l',(∀ n,C4 n cell ss c q pos pos.length lost=some l')/\ l'.length=pos.length/\ (∀ j,Bj (l'.getD j 0))/\ ∀ j s,tb (l'.getD j 0) s=(tb (lost.getD j 0) s||(decide (j=cell.toNat)&&(tb (pos.getD j 0) s&&tb ss s))):=by
 obtain ⟨l',e,h2,h3⟩:=JZ (n:=0) (ss:=ss) (c:=c) (q:=q) h0 h1 hl;exact ⟨l',fun _=>e,h2,q9 e hi,h3⟩
theorem Xb {cell:Int} (h0:0<=cell) (h1:cell<(pos.length:Int)) (hl:lost.length=pos.length) (hi: ∀ j,Bj (lost.getD j 0)):
 ∃ l',(∀ n,Fq n cell c q pos pos.length lost=some l')/\ l'.length=pos.length/\ (∀ j,Bj (l'.getD j 0))/\ ∀ j s,tb (l'.getD j 0) s=(tb (lost.getD j 0) s||(decide (j=cell.toNat)&&(tb (pos.getD j 0) s&&!tb c.set s))):=by
 obtain ⟨l',e,h2,h3⟩:=Xa (n:=0) (c:=c) (q:=q) h0 h1 hl;exact ⟨l',fun _=>e,h2,qR e hi,h3⟩
theorem LS.go {i m:Nat} {o1 l':List Int} (h:LS c pos lost m o1) (hi:i+m+1=c.cells.length) (hl:l'.length=pos.length) (B3: ∀ j,Bj (l'.getD j 0))
 (h1: ∀ j s,tb (l'.getD j 0) s=true↔tb (o1.getD j 0) s=true∨((c.cells.getD i 0).toNat=j/\ tb (AV c pos i) s=true/\ JH c pos i s)):LS c pos lost (m+1) l':=by
 refine ⟨⟨hl,fun j s=>?_⟩,B3⟩;rw [h1,h.1.2];constructor
 ·rintro ((h | ⟨a,ha,h2,h3,h4,h5⟩) | h)
  ·exact .inl h
  ·exact .inr ⟨a,ha,h2,h3,by omega,h5⟩
  ·exact .inr ⟨i,by omega,h.1,h.2.1,by omega,h.2.2⟩
 ·rintro (h2 | ⟨a,ha,h2,h3,h4,h5⟩)
  ·exact .inl (.inl h2)
  ·by_cases e:c.cells.length<=a+m
   ·exact .inl (.inr ⟨a,ha,h2,h3,e,h5⟩)
   ·have:a=i:=by omega
    subst this;exact .inr ⟨h2,h3,h5⟩
theorem yh {i m:Nat} {o1:List Int} {o3:List (Option KS)} {o4:KS} {AR:Int} (W:Bz c k pos) (R:Hc c) (hx:AR=(i:Int)) (hR:Rows c pos c.cells.length o3) (hE:PJ c pos m o4) (hL:LS c pos lost m o1)
 (H: ∀ o1 o5,LS c pos lost (m+1) o1 -> PJ c pos (m+1) o5 -> Ac (fun n=>A4 c q pos pos.length lost n (.l4 (AR-1) o1 o3 o5)) (Gu c pos lost)):
 ∀ (z:Nat) (rem o5:KS) (b0 b1:Bool) (Nt:List Int),rem.length=z -> Bk c pos i m o5 b0 b1 rem -> Ac (fun n=>A4 c q pos pos.length lost n (.l9 i o1 o3 i o4 o5 b0 b1 rem Nt)) (Gu c pos lost):=by
 intro z
 induction z with
 | zero=>
  intro rem o5 b0 b1 Nt hm hB;have:rem= []:=zAq hm;subst this;obtain ⟨e5,e0,e1⟩:=hB.end';have hi:i<c.cells.length:=by have:=hB.hi;omega
  have hs:=hR.isSome i (by omega);have Af:=W.len;have r1:AH ((i:Int)-1):=Aq.2 ⟨by omega,by omega⟩;have hc:=W.cells i hi;have g0:(0:Int)<=(i:Int)/\ (i:Int)<((c.cells.length:Nat):Int):=⟨by omega,by omega⟩;obtain ⟨l1,f1,n1,i1,t1⟩:=fZ (ss:=c.set) (c:=c) (q:=q) hc.1 hc.2 hL.1.1 hL.2;obtain ⟨l2,f2,n2,i2,t2⟩:=Xb (c:=c) (q:=q) hc.1 hc.2 n1 i1;obtain ⟨l3,f3,n3,i3,t3⟩:=Xb (c:=c) (q:=q) hc.1 hc.2 hL.1.1 hL.2
  have eq: ∀ n,A4 c q pos pos.length lost (n+1) (.l9 i o1 o3 i o4 o5 b0 b1 [] Nt)=A4 c q pos pos.length lost n (.l4 (i-1) (bif !b1 then (bif !b0 then l2 else l1) else (bif !b0 then l3 else o1)) o3 o5):=fun n=>by
   show Py n (A4 c q pos pos.length lost n) c q pos pos.length lost i o1 o3 i o4 o5 b0 b1 [] Nt=_
   unfold Py;rw [zi hs,eZ];simp only [zl];cases b1 <;> cases b0 <;> simp only [zAZ,zAW,zk,zg,zi g0,f1,f2,f3,zh,zi r1]
  refine Ac.step 1 eq ?_
  have key: ∀ l':List Int,l'.length=pos.length -> (∀ j,Bj (l'.getD j 0)) -> (∀ j s,tb (l'.getD j 0) s=(tb (o1.getD j 0) s||(decide (j=(c.cells.getD i 0).toNat)&&(tb (pos.getD j 0) s&&((!b1&&tb c.set s)||(!b0&&!tb c.set s)))))) -> LS c pos lost (m+1) l':=by
   intro l' h1 h2 h3;refine hL.go hB.hi h1 h2 fun j s=>?_
   rw [h3,zAE,zm,zm,zv,zAE,zm,zm,zAb,zAb,zAb];unfold JH;rw [←e0,←e1,zB7,zB7];constructor
   ·rintro (h | ⟨rfl,h⟩)
    ·exact .inl h
    ·exact .inr ⟨rfl,h⟩
   ·rintro (h | ⟨rfl,h⟩)
    ·exact .inl h
    ·exact .inr ⟨rfl,h⟩
  subst hx;cases b1 <;> cases b0 <;> simp only [zAZ,zAW,zk,zg]
  ·exact H l2 o5 (key l2 n2 i2 fun j s=>by
    rw [t2,t1];cases tb (o1.getD j 0) s <;> cases decide (j=(c.cells.getD i 0).toNat) <;> cases tb (pos.getD j 0) s <;> cases tb c.set s <;> rfl) e5
  ·exact H l1 o5 (key l1 n1 i1 fun j s=>by
    rw [t1];cases tb (o1.getD j 0) s <;> cases decide (j=(c.cells.getD i 0).toNat) <;> cases tb (pos.getD j 0) s <;> cases tb c.set s <;> rfl) e5
  ·exact H l3 o5 (key l3 n3 i3 fun j s=>by
    rw [t3];cases tb (o1.getD j 0) s <;> cases decide (j=(c.cells.getD i 0).toNat) <;> cases tb (pos.getD j 0) s <;> cases tb c.set s <;> rfl) e5
  ·exact H o1 o5 (key o1 hL.1.1 hL.2 fun j s=>by
    cases tb (o1.getD j 0) s <;> cases decide (j=(c.cells.getD i 0).toNat) <;> cases tb (pos.getD j 0) s <;> cases tb c.set s <;> rfl) e5
 | succ z ih=>
  intro rem o5 b0 b1 Nt hm hB;have hi:i<c.cells.length:=by have:=hB.hi;omega
  have hs:=hR.isSome i (by omega);have AQ:rem≠[]:=by intro e;rw [e] at hm;cases hm
  refine Ac.step 1 (g:=fun n=>HG rem none (fun y1=>A4 c q pos pos.length lost n (.l7 i 0 o1 o3 i o4 o5 b0 b1 (y1.getD 0 0) (y1.getD 1 0) (rem.erase y1) y1))) (fun n=>?_) (Ac.next AQ (fun y hy=>?_) Gu.uniq)
  ·show Py n (A4 c q pos pos.length lost n) c q pos pos.length lost i o1 o3 i o4 o5 b0 b1 rem Nt=_
   unfold Py;rw [zi hs];simp only [zi hs];cases rem with
   | nil=>exact absurd rfl AQ
   | cons x r=>rfl
  ·obtain ⟨t,rfl,ht⟩:=hB.sub y hy;have hS:=ht.ok;refine Ac.step 3 (fun n=>?_) (ih _ _ _ _ [t.1,t.2] (by rw [zCC hy];omega) (hB.go hE hy))
   show A4 c q pos pos.length lost (n+2+1) (.l7 i 0 o1 o3 i o4 o5 b0 b1 t.1 t.2 (rem.erase [t.1,t.2]) [t.1,t.2])=_
   rw [rf W R hi hS,re W R hi hS,rb]
theorem rh {n ln oi:Nat} {AR:Int} {o1:List Int} {o3:List (Option KS)} {o4 o7:KS}:A4 c q pos ln lost n (.l6 AR o1 o3 oi o4 o7)=A4 c q pos ln lost n (.l9 AR o1 o3 oi o4 [] false false o7 []):=by cases n <;> rfl
theorem rn {n ln oi:Nat} {x8 Ah:Int} {o1:List Int} {o3:List (Option KS)} {o4:KS}:A4 c q pos ln lost n (.l3 x8 Ah o1 o3 oi o4)=A4 c q pos ln lost n (.l8 x8 Ah o1 o3 oi o4 []):=by cases n <;> rfl
theorem j9 (W:Bz c k pos) (R:Hc c) {o3:List (Option KS)} (hR:Rows c pos c.cells.length o3):
 ∀ (i m:Nat) (AR:Int) (o1:List Int) (o4:KS),i+m=c.cells.length -> AR=(i:Int)-1 -> LS c pos lost m o1 -> PJ c pos m o4 -> Ac (fun n=>A4 c q pos pos.length lost n (.l4 AR o1 o3 o4)) (Gu c pos lost):=by
 intro i
 induction i with
 | zero=>
  intro m AR o1 o4 hm hx hL hE;refine Ev.p (r:=(true,o1)) ⟨1,fun n hn=>?_⟩ ⟨rfl,⟨hL.1.1,fun j s=>?_⟩,hL.2⟩
  ·obtain ⟨n,rfl⟩: ∃ n',n=n'+1:=⟨n-1,by omega⟩
   show P0 n (A4 c q pos pos.length lost n) c q pos pos.length lost AR o1 o3 o4=_
   unfold P0;rw [ze (by omega),zg]
  ·rw [hL.1.2];constructor
   ·rintro (h | ⟨a,h1,h2,h3,_,h4⟩)
    ·exact .inl h
    ·exact .inr ⟨a,h1,h2,h3,h4⟩
   ·rintro (h | ⟨a,h1,h2,h3,h4⟩)
    ·exact .inl h
    ·exact .inr ⟨a,h1,h2,h3,by omega,h4⟩
 | succ i ih=>
  intro m AR o1 o4 hm hx hL hE;have hx:AR=(i:Int):=by omega
  subst hx;have hs:=hR.isSome i (by omega);have Af:=hR.len;have t1:((((c.cells.length:Nat):Int)+1).toNat:Nat)=c.cells.length+1:=by omega
  have t2:0+((i:Int).toNat:Nat)=i:=by omega
  refine Ac.step 1 (g:=fun n=>A4 c q pos pos.length lost n (.l9 i o1 o3 i o4 [] false false (FL o3 i) [])) (fun n=>?_) (yh W R rfl hR hE hL (fun o1 o5 h1 h2=>ih (m+1) ((i:Int)-1) o1 o5 (by omega) rfl h1 h2) _ (FL o3 i) [] false false [] rfl ⟨by omega,fun x hx=>(hR.row i (by omega) x).1 hx,fun x hx=>(by cases hx),fun h=>(by cases h),fun h=>(by cases h),fun t ht=>.inl ((hR.row i (by omega) _).2 ⟨t,rfl,ht⟩)⟩)
  show P0 n (A4 c q pos pos.length lost n) c q pos pos.length lost (i:Int) o1 o3 o4=_
  unfold P0;simp only [t1,t2];rw [zn (by omega),zk,zi hs,zi ⟨⟨by omega,by omega⟩,by omega,hs⟩];exact rh
theorem wn (W:Bz c k pos) (R:Hc c) (hl:lost.length=pos.length) (B3: ∀ j,Bj (lost.getD j 0)):
 ∀ (m i:Nat) (Ah:Int) (o3:List (Option KS)),i+m=c.cells.length -> Ah=(i:Int) -> Rows c pos i o3 -> Ac (fun n=>A4 c q pos pos.length lost n (.l2 Ah lost o3)) (Gu c pos lost):=by
 intro m
 induction m with
 | zero=>
  intro i Ah o3 hm hx hR;have hm:i=c.cells.length:=by omega
  subst hm hx;have Af:=W.len;have hr:=R.1;have r1:AH ((c.cells.length:Int)-1):=Aq.2 ⟨by omega,by omega⟩;have r2:AH ((c.runs.length:Int)-1):=Aq.2 ⟨by omega,by omega⟩;have hL:LS c pos lost 0 lost:=⟨⟨hl,fun j s=>⟨.inl,fun h=>h.elim id fun ⟨a,h1,_,_,h2,_⟩=>absurd h2 (by omega)⟩⟩,B3⟩
  by_cases h0:0<c.runs.length
  ·have t1:(((c.runs.length:Nat):Int)-1).toNat=c.runs.length-1:=by omega
   refine Ac.step 1 (g:=fun n=>A4 c q pos pos.length lost n (.l4 ((c.cells.length:Int)-1) lost o3 (B4 [((c.runs.length:Int)-1),c.runs.getD (c.runs.length-1) 0] (B4 [(c.runs.length:Int),0] ([]:KS))))) (fun n=>?_) (j9 W R hR c.cells.length 0 _ _ _ (by omega) rfl hL fun x=>?_)
   ·show Ln n (A4 c q pos pos.length lost n) c q pos pos.length lost (c.cells.length:Int) lost o3=_
    unfold Ln;rw [ze (by omega),zg,zn (by omega),zk,zi ⟨r2,⟨by omega,by omega⟩,r1⟩,t1]
   ·rw [MF,MF];constructor
    ·rintro (rfl | rfl | h)
     ·exact ⟨((c.runs.length:Int)-1,c.runs.getD (c.runs.length-1) 0),rfl,.inr ⟨h0,rfl⟩⟩
     ·exact ⟨((c.runs.length:Int),0),rfl,.inl rfl⟩
     ·cases h
    ·rintro ⟨t,rfl,rfl | ⟨_,rfl⟩⟩
     ·exact .inr (.inl rfl)
     ·exact .inl rfl
  ·have wc:c.runs.length=0:=by omega
   refine Ac.step 1 (g:=fun n=>A4 c q pos pos.length lost n (.l4 ((c.cells.length:Int)-1) lost o3 (B4 [(c.runs.length:Int),0] ([]:KS)))) (fun n=>?_) (j9 W R hR c.cells.length 0 _ _ _ (by omega) rfl hL fun x=>?_)
   ·show Ln n (A4 c q pos pos.length lost n) c q pos pos.length lost (c.cells.length:Int) lost o3=_
    unfold Ln;rw [ze (by omega),zg,ze (by omega),zg,zi r1]
   ·rw [MF];constructor
    ·rintro (rfl | h)
     ·exact ⟨((c.runs.length:Int),0),rfl,.inl rfl⟩
     ·cases h
    ·rintro ⟨t,rfl,rfl | ⟨h,rfl⟩⟩
     ·exact .inl rfl
     ·exact absurd h h0
 | succ m ih=>
  intro i Ah o3 hm hx hR;subst hx;have hi:i<c.cells.length:=by omega
  have hs:=hR.isSome i (by omega);have Af:=hR.len;have t1:((((c.cells.length:Nat):Int)+1).toNat:Nat)=c.cells.length+1:=by omega
  have t2:0+((i:Int).toNat:Nat)=i:=by omega
  refine Ac.step 1 (g:=fun n=>A4 c q pos pos.length lost n (.l8 i i lost o3 i (FL o3 i) [])) (fun n=>?_) (qo W R rfl (fun o3 h=>ih (i+1) _ o3 (by omega) (by omega) h) _ _ _ _ rfl (hR.mid hi))
  show Ln n (A4 c q pos pos.length lost n) c q pos pos.length lost (i:Int) lost o3=_
  unfold Ln;simp only [t1,t2];rw [zn (by omega),zk,zi hs,zi ⟨⟨by omega,by omega⟩,by omega,hs⟩];exact rn
theorem xA (W:Bz c k pos) (R:Hc c) (hl:lost.length=pos.length) (B3: ∀ j,Bj (lost.getD j 0)):
 ∀ (m j:Nat) (Cq:Int) (o3:List (Option KS)),j+m=c.cells.length+1 -> Cq=(j:Int) -> o3.length=c.cells.length+1 -> (∀ i,i<j -> o3.getD i none=some []) -> Ac (fun n=>A4 c q pos pos.length lost n (.l1 Cq o3)) (Gu c pos lost):=by
 intro m
 induction m with
 | zero=>
  intro j Cq o3 hm hx Af ho;subst hx;have t1:((((c.cells.length:Nat):Int)+1).toNat:Nat)=c.cells.length+1:=by omega
  have hs:(o3.getD 0 none).isSome=true:=by rw [ho 0 (by omega)];rfl
  have e0:(o3.getD 0 none).getD []= []:=by rw [ho 0 (by omega)];rfl
  have hg: ∀ i,i≠0 -> (o3.set 0 (some (B4 [0,0] ([]:KS)))).getD i none=o3.getD i none:=fun i hi=>Zm (fun e=>hi e.symm)
  have iJ:(o3.set 0 (some (B4 [0,0] ([]:KS)))).getD 0 none=some (B4 [0,0] []):=VK (by omega);refine Ac.step 1 (g:=fun n=>A4 c q pos pos.length lost n (.l2 0 lost (o3.set 0 (some (B4 [0,0] ([]:KS)))))) (fun n=>?_) (wn W R hl B3 c.cells.length 0 0 _ (by omega) rfl ⟨by rw [zAK];exact Af,fun i hi=>?_,fun i hi x=>?_,fun i hi CS=>?_⟩)
  ·show P4 n (A4 c q pos pos.length lost n) c q pos pos.length lost (j:Int) o3=_
   unfold P4;simp only [t1,zAA];rw [ze (by omega),zg,zi ⟨⟨by omega,by omega⟩,by omega,hs⟩,e0]
  ·by_cases e:i=0
   ·subst e;rw [iJ];rfl
   ·rw [hg i e,ho i (by omega)];rfl
  ·obtain rfl:i=0:=by omega
   show x∈((o3.set 0 (some (B4 [0,0] ([]:KS)))).getD 0 none).getD []↔_
   rw [iJ]
   show x∈B4 [0,0] []↔_
   rw [MF];constructor
   ·rintro (rfl | h)
    ·exact ⟨(0,0),rfl,rfl⟩
    ·cases h
   ·rintro ⟨t,rfl,h⟩;have h:t=(0,0):=h;subst h;exact .inl rfl
  ·show ((o3.set 0 (some (B4 [0,0] ([]:KS)))).getD i none).getD []= []
   rw [hg i (by omega),ho i (by omega)];rfl
 | succ m ih=>
  intro j Cq o3 hm hx Af ho;subst hx;have vR:=W.len;have t1:((((c.cells.length:Nat):Int)+1).toNat:Nat)=c.cells.length+1:=by omega
  have t2:0+((j:Int).toNat:Nat)=j:=by omega
  refine Ac.step 1 (g:=fun n=>A4 c q pos pos.length lost n (.l1 ((j:Int)+1) (o3.set j (some ([]:KS))))) (fun n=>?_) (ih (j+1) _ _ (by omega) (by omega) (by rw [zAK];exact Af) fun i hi=>?_)
  ·show P4 n (A4 c q pos pos.length lost n) c q pos pos.length lost (j:Int) o3=_
   unfold P4;simp only [t1,t2];rw [zn (by omega),zk,zi ⟨⟨by omega,by omega⟩,by omega,Aq.2 ⟨by omega,by omega⟩⟩]
  ·by_cases e:i=j
   ·subst e;exact VK (by omega)
   ·rw [Zm (fun h=>e h.symm)];exact ho i (by omega)
def KW (c:AB):Bool:=(c.cells.length != 0)||(c.runs.length==0)
theorem nr (W:Bz c k pos) (R:Hc c) (hl:lost.length=pos.length) (B3: ∀ j,Bj (lost.getD j 0)):
 ∃ l,Ev (fun n=>Nb n c q pos pos.length lost) (KW c,l)/\ (KW c=true -> Bo c pos lost c.cells.length (JH c pos) l):=by
 by_cases h0:c.cells.length=0
 ·have e1:KW c=((c.runs.length:Int)==0):=by
   unfold KW;rw [h0];cases h:c.runs.length with
   | zero=>rfl
   | succ m=>rfl
  refine ⟨lost,Ev.now fun n=>?_,fun _=>by rw [h0];exact Bo.zero hl⟩;unfold Nb W0;rw [h0,e1];rfl
 ·have e1:KW c=true:=by
   unfold KW;cases h:c.cells.length with
   | zero=>exact absurd h h0
   | succ m=>rfl
  have Af:=W.len;have t1:((((c.cells.length:Nat):Int)+1).toNat:Nat)=c.cells.length+1:=by omega
  obtain ⟨r,h1,h2⟩:=(xA (q:=q) W R hl B3 (c.cells.length+1) 0 0 (List.replicate (c.cells.length+1) none) (by omega) rfl (by simp) (fun i hi=>absurd hi (zy i))).ev Gu.uniq;obtain ⟨b,l⟩:=r;obtain ⟨h3,h4,h5⟩:=h1;have h3:b=true:=h3;subst h3;refine ⟨l,?_,fun _=>h4⟩;rw [e1];refine h2.eq fun n=>?_
  unfold Nb W0;rw [t1]
  have e2:(((c.cells.length:Nat):Int)==0)=false:=by
   rw [zAk];omega
  rw [e2,zg,zi ⟨Aq.2 ⟨by omega,by omega⟩,rfl,by omega,by omega⟩]
end
end Go.Proofs.YtgkhhfnhacibcaaGreatDoor
namespace Go.Proofs.YtgkhhfnhacibcaaGreatDoor
abbrev zA8:=@List.take_succ_eq_append_getElem
end Go.Proofs.YtgkhhfnhacibcaaGreatDoor
namespace Go.Proofs.YtgkhhfnhacibcaaGreatDoor
open Go.RowKit
section
variable {c:AB} {k:Nat} {pos lost:List Int} {q:AA}
structure GT (c:AB) (q:AA) (pos:List Int):Prop where
 len:c.cells.length=pos.length
 id: ∀ j,j<pos.length -> c.cells.getD j 0=(j:Int)
 g:NH q.nbrs
 gl:q.nbrs.length=pos.length
 l0:0<pos.length
 l1:pos.length<=256
 nz: ∀ j,j<pos.length -> Bj (pos.getD j 0)/\ pos.getD j 0≠0
def pB (c:AB) (pos:List Int):List Bool:=pos.map fun x=>bits .and .i64 x c.set != 0
def cB (c:AB) (pos:List Int):List Bool:=pos.map fun x=>bits .andNot .i64 x c.set==0
theorem Et:(pB c pos).length=pos.length:=zAl _
theorem EY:(cB c pos).length=pos.length:=zAl _
theorem Qg {j:Nat} (hj:j<pos.length):(pB c pos).getD j false=(bits .and .i64 (pos.getD j 0) c.set != 0):=by
 unfold pB;rw [u8,z6,zf hj,u8,zf hj];rfl
theorem SV {j:Nat} (hj:j<pos.length):(cB c pos).getD j false=(bits .andNot .i64 (pos.getD j 0) c.set==0):=by
 unfold cB;rw [u8,z6,zf hj,u8,zf hj];rfl
theorem GT.cp (W:GT c q pos) {j:Nat} (hj:j<pos.length) (h:(cB c pos).getD j false=true):(pB c pos).getD j false=true:=by
 rw [SV hj,zAQ] at h;rw [Qg hj,zBH];obtain ⟨h1,h2⟩:=W.nz j hj;obtain ⟨s,hs,hb⟩:=(Eb h1).1 h2;have h3:=(NN (F5 .andNot _ _)).1 h s hs;rw [Lb,hb,zAG,Bool.not_eq_false'] at h3;exact (Eb (F5 .and _ _)).2 ⟨s,hs,by rw [Hg,hb,h3];rfl⟩
def CA (pos lost:List Int) (D:Nat -> Nat -> Prop) (l:List Int):Prop:=
 (l.length=pos.length/\ ∀ j,Bj (l.getD j 0))/\ ∀ j s,tb (l.getD j 0) s=true↔tb (lost.getD j 0) s=true∨(j<pos.length/\ tb (pos.getD j 0) s=true/\ D j s)
theorem CA.unique {D:Nat -> Nat -> Prop} {l l':List Int} (h:CA pos lost D l) (h':CA pos lost D l'):l=l':=by
 have e:l.length=l'.length:=h.1.1.trans h'.1.1.symm;refine zBm e fun j h1 h2=>?_
 have e1:l.getD j 0=l[j]:=by simp [h1]
 have e2:l'.getD j 0=l'[j]:=by simp [h2]
 rw [←e1,←e2];refine KH (h.1.2 j) (h'.1.2 j) fun s _=>?_
 rw [zAy,h.2,h'.2]
theorem CA.by {D:Nat -> Nat -> Prop} {l:List Int} (W:GT c q pos) (h:CA pos lost D l):Bo c pos lost c.cells.length D l:=by
 refine ⟨h.1.1,fun j s=>?_⟩;have hl:=W.len;rw [h.2];constructor
 ·rintro (h1 | ⟨h1,h2,h3⟩)
  ·exact .inl h1
  ·have e:=W.id j h1;exact .inr ⟨j,by omega,by rw [e];omega,by show tb (pos.getD (c.cells.getD j 0).toNat 0) s=true;rw [e,zl];exact h2,h3⟩
 ·rintro (h1 | ⟨a,h1,h2,h3,h4⟩)
  ·exact .inl h1
  ·have e:=W.id a (by omega);have h3:tb (pos.getD (c.cells.getD a 0).toNat 0) s=true:=h3;rw [e,zl] at h2 h3;subst h2;exact .inr ⟨by omega,h3,h4⟩
theorem CA.step {D D':Nat -> Nat -> Prop} {l l':List Int} (h:CA pos lost D l) (hl:l'.length=pos.length) (B3: ∀ j,Bj (l'.getD j 0)) {E:Nat -> Nat -> Prop} (h1: ∀ j s,tb (l'.getD j 0) s=true↔tb (l.getD j 0) s=true∨(j<pos.length/\ tb (pos.getD j 0) s=true/\ E j s))
 (hD: ∀ j s,j<pos.length -> tb (pos.getD j 0) s=true -> (D' j s↔D j s∨E j s)):CA pos lost D' l':=by
 refine ⟨⟨hl,B3⟩,fun j s=>?_⟩;rw [h1,h.2];constructor
 ·rintro ((h2 | ⟨h2,h3,h4⟩) | ⟨h2,h3,h4⟩)
  ·exact .inl h2
  ·exact .inr ⟨h2,h3,(hD j s h2 h3).2 (.inl h4)⟩
  ·exact .inr ⟨h2,h3,(hD j s h2 h3).2 (.inr h4)⟩
 ·rintro (h2 | ⟨h2,h3,h4⟩)
  ·exact .inl (.inl h2)
  ·rcases (hD j s h2 h3).1 h4 with h5 | h5
   ·exact .inl (.inr ⟨h2,h3,h5⟩)
   ·exact .inr ⟨h2,h3,h5⟩
theorem CA.id' {D D':Nat -> Nat -> Prop} {l:List Int} (h:CA pos lost D l) (hD: ∀ j s,j<pos.length -> tb (pos.getD j 0) s=true -> (D' j s↔D j s)):CA pos lost D' l:=
 h.step (E:=fun _ _=>False) h.1.1 h.1.2 (fun j s=>by simp) fun j s h1 h2=>by rw [hD j s h1 h2,zCf]
theorem CA.lose {D D':Nat -> Nat -> Prop} {l:List Int} (h:CA pos lost D l) {cell ss:Int} (h0:0<=cell) (h1:cell<(pos.length:Int)) (hD: ∀ j s,j<pos.length -> tb (pos.getD j 0) s=true -> (D' j s↔D j s∨((j:Int)=cell/\ tb ss s=true))):
 ∃ l',(∀ n,C4 n cell ss c q pos pos.length l=some l')/\ CA pos lost D' l':=by
 obtain ⟨l',e,h2,h3,h4⟩:=fZ (ss:=ss) (c:=c) (q:=q) h0 h1 h.1.1 h.1.2;refine ⟨l',e,h.step h2 h3 (E:=fun j s=>(j:Int)=cell/\ tb ss s=true) (fun j s=>?_) hD⟩;rw [h4,zAE,zm,zm,zv];constructor
 ·rintro (h5 | ⟨rfl,h5,h6⟩)
  ·exact .inl h5
  ·exact .inr ⟨by omega,h5,by omega,h6⟩
 ·rintro (h5 | ⟨h5,h6,h7,h8⟩)
  ·exact .inl h5
  ·exact .inr ⟨by omega,h6,h8⟩
theorem CA.only {D D':Nat -> Nat -> Prop} {l:List Int} (h:CA pos lost D l) {cell:Int} (h0:0<=cell) (h1:cell<(pos.length:Int)) (hD: ∀ j s,j<pos.length -> tb (pos.getD j 0) s=true -> (D' j s↔D j s∨((j:Int)=cell/\ tb c.set s=false))):
 ∃ l',(∀ n,Fq n cell c q pos pos.length l=some l')/\ CA pos lost D' l':=by
 obtain ⟨l',e,h2,h3,h4⟩:=Xb (c:=c) (q:=q) h0 h1 h.1.1 h.1.2;refine ⟨l',e,h.step h2 h3 (E:=fun j s=>(j:Int)=cell/\ tb c.set s=false) (fun j s=>?_) hD⟩;rw [h4,zAE,zm,zm,zv,zAb];constructor
 ·rintro (h5 | ⟨rfl,h5,h6⟩)
  ·exact .inl h5
  ·exact .inr ⟨by omega,h5,by omega,h6⟩
 ·rintro (h5 | ⟨h5,h6,h7,h8⟩)
  ·exact .inl h5
  ·exact .inr ⟨by omega,h6,h8⟩
def Fd (l:List Bool) (r:Int):Prop:=(r= -1/\ ∀ j,j<l.length -> l.getD j false=false)∨(0<=r/\ r<(l.length:Int)/\ l.getD r.toNat false=true/\ ∀ j:Nat,(j:Int)<r -> l.getD j false=false)
theorem Uq {l:List Bool} (hl:l.length<=256): ∃ r,Ev (fun n=>Us n l true) r/\ Fd l r:=by
 have key: ∀ (k i:Nat),i+k=l.length -> (∀ j,j<i -> l.getD j false=false) -> ∃ r,Ev (fun n=>Jf l true n (.l1 (i:Int))) r/\ Fd l r:=by
  intro k
  induction k with
  | zero=>
   intro i e h;refine ⟨-1,⟨1,fun n hn=>?_⟩,.inl ⟨rfl,fun j hj=>h j (by omega)⟩⟩;obtain ⟨n,rfl⟩: ∃ k,n=k+1:=⟨n-1,by omega⟩
   show RC n (Jf l true n) l true (i:Int)=_
   unfold RC;rw [ze (by omega),zg]
  | succ k ih=>
   intro i e h
   have U: ∀ n,Jf l true (n+1) (.l1 (i:Int))=bif l.getD i false then some (i:Int) else Jf l true n (.l1 ((i:Int)+1)):=fun n=>by
    show RC n (Jf l true n) l true (i:Int)=_
    unfold RC;rw [zn (by omega),zk,zi ⟨by omega,by omega⟩,zl,zi (Aq.2 ⟨by omega,by omega⟩)];cases l.getD i false <;> rfl
   cases hi:l.getD i false
   ·obtain ⟨r,h1,h2⟩:=ih (i+1) (by omega) fun j hj=>by
     rcases zz.1 hj with hj | rfl
     ·exact h j hj
     ·exact hi
    refine ⟨r,Ev.step 1 (fun n=>?_) h1,h2⟩;rw [U,hi,zg];rfl
   ·refine ⟨(i:Int),⟨1,fun n hn=>?_⟩,.inr ⟨by omega,by omega,by rw [zl];exact hi,fun j hj=>h j (by omega)⟩⟩;obtain ⟨n,rfl⟩: ∃ k,n=k+1:=⟨n-1,by omega⟩
    show Jf l true (n+1) (.l1 (i:Int))=_
    rw [U,hi,zk]
 exact key l.length 0 (by omega) fun j hj=>absurd hj (zy j)
theorem jG {l l':List Bool} (h:l.length=l'.length) (h2: ∀ j,j<l.length -> l.getD j false=l'.getD j false):l=l':=by
 refine zBm h fun j h3 h4=>?_
 have:=h2 j h3
 rwa [u8,zf h3,u8,zf h4] at this
theorem V2 {l:List Bool} {i j:Nat} {b:Bool} (hi:i<l.length):(l.set i b).getD j false=if j=i then b else l.getD j false:=by
 by_cases e:j=i
 ·subst e;rw [zi rfl,u8,zA4 hi];rfl
 ·rw [zr e,u8,zAu (fun h=>e h.symm),←u8]
def FG (c:AB) (q:AA) (pos:List Int) (a s:Nat):Prop:=(pB c pos).getD a false=true/\ tb c.set s=true/\ ∃ r:Int,0<=r/\ Fd (cB c pos) r/\ ¬ Rc q.nbrs (pB c pos) r a
theorem Fd.uniq {l:List Bool} {r r':Int} (h:Fd l r) (h':Fd l r'):r=r':=by
 rcases h with ⟨rfl,h⟩ | ⟨h0,h1,h2,h3⟩ <;> rcases h' with ⟨rfl,h'⟩ | ⟨wc,VH,K1,Zj⟩
 ·rfl
 ·rw [h r'.toNat (by omega)] at K1;cases K1
 ·rw [h' r.toNat (by omega)] at h2;cases h2
 ·rcases Int.lt_trichotomy r r' with h4 | h4 | h4
  ·rw [Zj r.toNat (by omega)] at h2;cases h2
  ·exact h4
  ·rw [h3 r'.toNat (by omega)] at K1;cases K1
theorem a8 (G:NH q.nbrs) (hB:(pB c pos).length=q.nbrs.length) {r:Int} (Dd:0<=r) (hF:Fd (cB c pos) r) {j s:Nat}:FG c q pos j s↔(pB c pos).getD j false=true/\ tb c.set s=true/\ ¬ Rc q.nbrs (pB c pos) r j:=by
 constructor
 ·rintro ⟨h1,h2,r',_,Mw,h3⟩;rw [hF.uniq Mw];exact ⟨h1,h2,h3⟩
 ·rintro ⟨h1,h2,h3⟩;exact ⟨h1,h2,r,Dd,hF,h3⟩
def PH (c:AB) (q:AA) (pos lost:List Int) (r:Int) (x:List Bool×List Bool×Bool×List Int):Prop:=x.1=pB c pos/\ x.2.1=cB c pos/\ x.2.2.1=decide (0<=r)/\ CA pos lost (FG c q pos) x.2.2.2
theorem PH.uniq {r:Int} (x y:List Bool×List Bool×Bool×List Int) (h:PH c q pos lost r x) (h':PH c q pos lost r y):x=y:=by
 obtain ⟨x1,x2,x3,x4⟩:=x;obtain ⟨y1,y2,y3,y4⟩:=y;obtain ⟨h1,h2,h3,h4⟩:=h;obtain ⟨VH,K1,Zj,wa⟩:=h';have e4:x4=y4:=h4.unique wa;have e1:x1=y1:=Eq.trans h1 VH.symm;have e2:x2=y2:=Eq.trans h2 K1.symm;have e3:x3=y3:=Eq.trans h3 Zj.symm;rw [e1,e2,e3,e4]
theorem qe {n:Nat} (W:GT c q pos) (hL:CA pos lost (fun _ _=>False) lost) {r:Int} (Dd:0<=r) (hF:Fd (cB c pos) r) {near:List Int} (hn:near.length<=256) (RS: ∀ v,v∈near↔Rc q.nbrs (pB c pos) r v) (Ky:600<=n):
 ∃ x,EM c q pos pos.length lost n (.l2 (pB c pos) (pB c pos).length near (near.length:Int) 0 (cB c pos) (pB c pos))=some x/\ PH c q pos lost r x:=by
 have FZ:=W.l1;have Ee:=W.gl
 have Jh:r<(q.nbrs.length:Int):=by
  rcases hF with ⟨h,_⟩ | ⟨_,h,_⟩
  ·omega
  ·rw [EY] at h;omega
 have Uy: ∀ v∈near,0<=v/\ v<(pos.length:Int):=fun v hv=>by
  have:=((RS v).1 hv).rng W.g.gr Dd Jh;omega
 have S:=Gg (fun n (GO:List Bool) i=>EM c q pos pos.length lost n (.l2 (pB c pos) (pB c pos).length near (near.length:Int) i (cB c pos) GO)) near.length (pos.length+3)
  (fun i GO=>GO.length=pos.length/\ ∀ j:Nat,GO.getD j false=true↔(pB c pos).getD j false=true/\ (j:Int)∉near.take i) (fun n i GO FD hi hI=>?_) (n:=n) (s:=pB c pos) (by omega) ⟨Et,fun j=>by simp⟩
 ·obtain ⟨n1,GO,F0,_,e1,ZM,iM⟩:=S;obtain ⟨n2,rfl⟩: ∃ n2,n1=n2+1:=⟨n1-1,by omega⟩;rw [List.take_length] at iM
  have T:=Gg (fun n (o1:List Int) i=>EM c q pos pos.length lost n (.l3 (pB c pos) (pB c pos).length ((pB c pos).length:Int) i o1 (cB c pos) GO)) pos.length 1
   (fun i o1=>CA pos lost (fun j s=>j<i/\ FG c q pos j s) o1) (fun n i o1 FD hi hI=>?_) (n:=n2) (s:=lost) (by omega) (hL.id' fun j s _ _=>⟨fun h=>absurd h.1 (zy j),fun h=>h.elim⟩)
  ·obtain ⟨n3,o1,RU,_,e2,Jt⟩:=T;obtain ⟨n4,rfl⟩: ∃ n4,n3=n4+1:=⟨n3-1,by omega⟩;refine ⟨(pB c pos,cB c pos,true,o1),?_,rfl,rfl,(zn Dd).symm,Jt.id' fun j s hj _=>⟨fun h=>⟨hj,h⟩,fun h=>h.2⟩⟩;refine Eq.trans e1 ?_
   show Qp n2 (EM c q pos pos.length lost n2) c q pos pos.length lost (pB c pos) (pB c pos).length near (near.length:Int) (near.length:Int) (cB c pos) GO=_
   unfold Qp;rw [ze (by omega),zg];refine Eq.trans e2 ?_
   show Qo n4 (EM c q pos pos.length lost n4) c q pos pos.length lost (pB c pos) (pB c pos).length ((pB c pos).length:Int) (pos.length:Int) o1 (cB c pos) GO=_
   unfold Qo;rw [Et,ze (by omega),zg,zi EY.symm]
  ·show ∃ s',Qo n (EM c q pos pos.length lost n) c q pos pos.length lost (pB c pos) (pB c pos).length ((pB c pos).length:Int) (i:Int) o1 (cB c pos) GO=_/\ _
   unfold Qo;simp only [zl,zAA];have r1:AH ((i:Int)+1):=Aq.2 ⟨by omega,by omega⟩;rw [Et,zn (by omega),zk,zi ⟨⟨by omega,by omega⟩,by omega⟩];have iL:GO.getD i false=true↔(pB c pos).getD i false=true/\ ¬ Rc q.nbrs (pB c pos) r i:=by rw [iM,RS]
   cases hf:GO.getD i false
   ·rw [zg,zi r1];refine ⟨o1,rfl,hI.id' fun j s hj _=>⟨fun h=>⟨?_,h.2⟩,fun h=>⟨by omega,h.2⟩⟩⟩;rcases zz.1 h.1 with h1 | rfl
    ·exact h1
    ·have h2:=(a8 W.g (by rw [Et];exact Ee.symm) Dd hF).1 h.2;have:=iL.2 ⟨h2.1,h2.2.2⟩;rw [hf] at this;cases this
   ·obtain ⟨l',e,h2⟩:=hI.lose (c:=c) (q:=q) (D':=fun j s=>j<i+1/\ FG c q pos j s) (cell:=(i:Int)) (ss:=c.set) (by omega) (by omega) fun j s hj _=>by
     constructor
     ·rintro ⟨h1,h2⟩;rcases zz.1 h1 with h1 | rfl
      ·exact .inl ⟨h1,h2⟩
      ·exact .inr ⟨rfl,h2.2.1⟩
     ·rintro (⟨h1,h2⟩ | ⟨h1,h2⟩)
      ·exact ⟨by omega,h2⟩
      ·obtain rfl:j=i:=by omega
       have h3:=iL.1 hf;exact ⟨by omega,(a8 W.g (by rw [Et];exact Ee.symm) Dd hF).2 ⟨h3.1,h2,h3.2⟩⟩
    rw [zk,e,zh,zi r1];exact ⟨l',rfl,h2⟩
 ·obtain ⟨hl,hf⟩:=hI;have hx:near.getD i 0∈near:=by rw [u8,zf hi];exact zAL hi
  have Fw:=Uy _ hx
  show ∃ s',Qp n (EM c q pos pos.length lost n) c q pos pos.length lost (pB c pos) (pB c pos).length near (near.length:Int) (i:Int) (cB c pos) GO=_/\ _
  unfold Qp;simp only [zl,zAA];rw [Et,zn (by omega),zk,zi ⟨⟨by omega,by omega⟩,Fw,by omega,Aq.2 ⟨by omega,by omega⟩⟩];refine ⟨_,rfl,by rw [zAK];exact hl,fun j=>?_⟩
  have e3:near.take (i+1)=near.take i++[near.getD i 0]:=by
   rw [zA8 hi,u8,zf hi];rfl
  rw [V2 (by omega),e3,zAI,zAB]
  by_cases e:j=(near.getD i 0).toNat
  ·rw [zi e];exact ⟨fun h=>(by cases h),fun h=>absurd (Or.inr (by omega)) h.2⟩
  ·rw [zr e,hf];exact ⟨fun h=>⟨h.1,fun h2=>h2.elim h.2 fun h3=>e (by omega)⟩,fun h=>⟨h.1,fun h2=>h.2 (.inl h2)⟩⟩
theorem fA (W:GT c q pos) (hL:CA pos lost (fun _ _=>False) lost) {r:Int} (hF:Fd (cB c pos) r):
 ∃ l,Ev (fun n=>MC n c q pos pos.length lost) (pB c pos,cB c pos,decide (0<=r),l)/\ CA pos lost (FG c q pos) l:=by
 have FZ:=W.l1;have Ee:=W.gl;have Af:=W.len;have L:(1000000000000:Nat)=A6:=rfl
 suffices H:Ac (fun n=>MC n c q pos pos.length lost) (PH c q pos lost r) by
  obtain ⟨x,h1,h2⟩:=H.ev PH.uniq;obtain ⟨x1,x2,x3,x4⟩:=x;obtain ⟨h3,h4,h5,h6⟩:=h1;have h3:x1=pB c pos:=h3;have h4:x2=cB c pos:=h4;have h5:x3=decide (0<=r):=h5;subst h3 h4 h5;exact ⟨x4,h2,h6⟩
 have first: ∀ n,EM c q pos pos.length lost (n+c.cells.length) (.l1 0 (List.replicate pos.length false) (List.replicate pos.length false))=EM c q pos pos.length lost n (.l1 (c.cells.length:Int) (pB c pos) (cB c pos)):=fun n=>by
  have z: ∀ j:Nat,(List.replicate pos.length false).getD j false=false:=fun j=>by
   rw [u8,zAm];split <;> rfl
  obtain ⟨s',e,h1,h2,h3,h4⟩:=UT (fun n (s:List Bool×List Bool) i=>EM c q pos pos.length lost n (.l1 i s.1 s.2)) c.cells.length 0
   (fun i s=>s.1.length=pos.length/\ s.2.length=pos.length/\ (∀ j,s.1.getD j false=if j<i then (pB c pos).getD j false else false)/\ (∀ j,s.2.getD j false=if j<i then (cB c pos).getD j false else false))
   (fun n i s _ hi hI=>by
    obtain ⟨o2,o3⟩:=s;obtain ⟨h1,h2,h3,h4⟩:=hI;have h1:o2.length=pos.length:=h1;have h2:o3.length=pos.length:=h2;have hid:=W.id i (by omega)
    show ∃ s',Qq n (EM c q pos pos.length lost n) c q pos pos.length lost (i:Int) o2 o3=_/\ _
    unfold Qq;simp only [zl,zAA,hid];rw [zn (by omega),zk,zi ⟨⟨by omega,by omega⟩,⟨by omega,by omega⟩,by omega,by omega,Aq.2 ⟨by omega,by omega⟩⟩];refine ⟨(_,_),rfl,by rw [zAK];exact h1,by rw [zAK];exact h2,fun j=>?_,fun j=>?_⟩
    ·show (o2.set i _).getD j false=_
     rw [V2 (by omega)]
     by_cases e:j=i
     ·subst e;rw [zi rfl,zi (by omega),Qg (by omega)]
     ·have h3:o2.getD j false=_:=h3 j;rw [zr e,h3]
      by_cases e2:j<i
      ·rw [zi e2,zi (by omega)]
      ·rw [zr e2,zr (by omega)]
    ·show (o3.set i _).getD j false=_
     rw [V2 (by omega)]
     by_cases e:j=i
     ·subst e;rw [zi rfl,zi (by omega),SV (by omega)]
     ·have h4:o3.getD j false=_:=h4 j;rw [zr e,h4]
      by_cases e2:j<i
      ·rw [zi e2,zi (by omega)]
      ·rw [zr e2,zr (by omega)])
   c.cells.length 0 n (List.replicate pos.length false,List.replicate pos.length false) (by omega) (by omega) ⟨zx,zx,fun j=>by rw [zr (by omega)];exact z j,fun j=>by rw [zr (by omega)];exact z j⟩
  obtain ⟨o2,o3⟩:=s';have h1:o2.length=pos.length:=h1;have h2:o3.length=pos.length:=h2
  have e2:o2=pB c pos:=jG (by rw [h1,Et]) fun j hj=>by
   have h3:o2.getD j false=_:=h3 j;rw [h3,zi (by omega)]
  have e3:o3=cB c pos:=jG (by rw [h2,EY]) fun j hj=>by
   have h4:o3.getD j false=_:=h4 j;rw [h4,zi (by omega)]
  rw [←e2,←e3];exact e
 have start: ∀ n,MC n c q pos pos.length lost=EM c q pos pos.length lost n (.l1 0 (List.replicate pos.length false) (List.replicate pos.length false)):=fun n=>by
  unfold MC fC;rw [zi ⟨rfl,by omega,by omega⟩]
 refine Ac.eq (Ac.step (c.cells.length+1) (g:=fun n=>(Us n (cB c pos) true).bind fun y1=>bif (decide (y1<0)) then (if pos.length=(pB c pos).length then some (pB c pos,cB c pos,false,lost) else none) else (if pos.length=(pB c pos).length then (M3 n (pB c pos)).bind fun y2=>(O5 n q.nbrs (pB c pos) y1).bind fun y3=>EM c q pos pos.length lost n (.l2 (pB c pos) y2.length y3.1 (y3.1.length:Int) 0 (cB c pos) y2) else none)) (fun n=>?_) ?_) start
 ·rw [show n+(c.cells.length+1)=n+1+c.cells.length by omega,first]
  show Qq n (EM c q pos pos.length lost n) c q pos pos.length lost (c.cells.length:Int) (pB c pos) (cB c pos)=_
  unfold Qq;rw [ze (by omega),zg,zi EY.symm]
 ·obtain ⟨r',h1,h2⟩:=Uq (l:=cB c pos) (by rw [EY];exact FZ);obtain rfl:=hF.uniq h2;refine Ac.bind h1 ?_
  by_cases Dd:0<=r
  ·have BL: ∀ n,M3 n (pB c pos)=some (pB c pos):=fun n=>by
    have h0:=W.l0;have h3:=Et (c:=c) (pos:=pos);unfold M3 aB;rw [zi ⟨by omega,trivial,⟨rfl,rfl⟩,by rw [←L];simp only [zA0];omega⟩,zi (by simp)];rfl
   obtain ⟨Jh,tq⟩:r<(pos.length:Int)/\ (cB c pos).getD r.toNat false=true:=by
    rcases hF with ⟨h,_⟩ | ⟨_,h,h',_⟩
    ·omega
    ·rw [EY] at h;exact ⟨h,h'⟩
   have tu:=W.cp (by omega) tq;refine Ac.eq (Ac.bindU (yM W.g (by rw [Et];exact Ee.symm) Dd (by omega) tu) (b:=fun n y3=>EM c q pos pos.length lost n (.l2 (pB c pos) (pB c pos).length y3.1 (y3.1.length:Int) 0 (cB c pos) (pB c pos))) ⟨600,fun n hn x hx=>qe W hL Dd hF hx.2.1 hx.2.2 hn⟩) fun n=>?_
   rw [ze (by omega),zg,zi Et.symm,BL,zh]
  ·refine Ev.p (r:=(pB c pos,cB c pos,false,lost)) (Ev.now fun n=>?_) ⟨rfl,rfl,(ze Dd).symm,hL.id' fun j s _ _=>⟨fun h=>?_,fun h=>h.elim⟩⟩
   ·rw [zn (by omega),zk,zi Et.symm]
   ·obtain ⟨_,_,r',h3,h4,_⟩:=h;rw [hF.uniq h4] at Dd;exact Dd h3
def IP (c:AB) (q:AA) (pos:List Int) (a s:Nat):Prop:=FG c q pos a s∨((pB c pos).getD a false=true/\ (cB c pos).getD a false=false/\ Sp q.nbrs (pB c pos) (cB c pos) (a:Int)/\ tb c.set s=false)
theorem yF (W:GT c q pos) (hL:CA pos lost (fun _ _=>False) lost): ∃ l,Ev (fun n=>Vp n c q pos pos.length lost) (true,l)/\ CA pos lost (IP c q pos) l:=by
 have FZ:=W.l1;have Ee:=W.gl;obtain ⟨r,_,hF⟩:=Uq (l:=cB c pos) (by rw [EY];exact FZ);obtain ⟨l0,h1,h2⟩:=fA W hL hF
 suffices H:Ac (fun n=>LH c q pos pos.length lost n (.l1 (pB c pos) (cB c pos) (decide (0<=r)) ((pB c pos).length:Int) 0 l0)) (fun x=>x.1=true/\ CA pos lost (IP c q pos) x.2) by
  obtain ⟨x,⟨h3,h4⟩,h5⟩:=(Ac.bind h1 (b:=fun n y1=>LH c q pos pos.length lost n (.l1 y1.1 y1.2.1 y1.2.2.1 (y1.1.length:Int) 0 y1.2.2.2)) H).ev fun x y hx hy=>by
   obtain ⟨x1,x2⟩:=x;obtain ⟨y1,y2⟩:=y;have e1:x1=true:=hx.1;have e2:y1=true:=hy.1;have e3:x2=y2:=hx.2.unique hy.2;rw [e1,e2,e3]
  obtain ⟨x1,x2⟩:=x;have h3:x1=true:=h3;subst h3;exact ⟨x2,h5,h4⟩
 obtain ⟨N,hN⟩:=Ac.range (F:=fun (i:Nat) n=>if (pB c pos).getD i false=true then Lf n q.nbrs (pB c pos) (cB c pos) i else some (false,0)) (A:=fun i x=>(pB c pos).getD i false=true -> x.2=0/\ (x.1=true↔Sp q.nbrs (pB c pos) (cB c pos) i)) pos.length fun i hi=>by
  by_cases h:(pB c pos).getD i false=true
  ·refine ((mM W.g (by rw [Et];exact Ee.symm) (by rw [EY];exact Ee.symm) (a:=i) (by omega) h).mono fun x hx _=>hx).eq fun n=>?_
   rw [zi h]
  ·exact Ev.p (r:=(false,0)) (Ev.now fun n=>by rw [zr h]) fun h'=>absurd h' h
 refine ⟨N+pos.length+1,fun n hn=>?_⟩
 have T:=Gg (fun n (o1:List Int) i=>LH c q pos pos.length lost n (.l1 (pB c pos) (cB c pos) (decide (0<=r)) ((pB c pos).length:Int) i o1)) pos.length (N+1)
  (fun i o1=>CA pos lost (fun a s=>FG c q pos a s∨(a<i/\ IP c q pos a s)) o1) (fun n i o1 FD hi hI=>?_) (n:=n) (s:=l0) (by omega) (h2.id' fun j s _ _=>⟨fun h=>h.elim id fun h=>absurd h.1 (zy j),.inl⟩)
 ·obtain ⟨n3,o1,RU,_,e2,Jt⟩:=T;obtain ⟨n4,rfl⟩: ∃ n4,n3=n4+1:=⟨n3-1,by omega⟩;refine ⟨(true,o1),Eq.trans e2 ?_,rfl,Jt.id' fun j s hj _=>⟨fun h=>.inr ⟨hj,h⟩,fun h=>h.elim .inl fun h=>h.2⟩⟩
  show SQ n4 (LH c q pos pos.length lost n4) c q pos pos.length lost (pB c pos) (cB c pos) (decide (0<=r)) ((pB c pos).length:Int) (pos.length:Int) o1=_
  unfold SQ;rw [Et,ze (p:=((pos.length:Nat):Int)<((pos.length:Nat):Int)) (by omega),zg]
 ·show ∃ s',SQ n (LH c q pos pos.length lost n) c q pos pos.length lost (pB c pos) (cB c pos) (decide (0<=r)) ((pB c pos).length:Int) (i:Int) o1=_/\ _
  unfold SQ;simp only [zl];have r1:AH ((i:Int)+1):=Aq.2 ⟨by omega,by omega⟩;have lp:(pB c pos).length=pos.length:=Et;have lc:(cB c pos).length=pos.length:=EY;rw [lp,lc,zn (p:=(i:Int)<((pos.length:Nat):Int)) (by omega),zk]
  have skip:(∀ s,¬ ((pB c pos).getD i false=true/\ (cB c pos).getD i false=false/\ Sp q.nbrs (pB c pos) (cB c pos) (i:Int)/\ tb c.set s=false)) -> CA pos lost (fun a s=>FG c q pos a s∨(a<i+1/\ IP c q pos a s)) o1:=fun Jk=>hI.id' fun j s hj _=>by
   constructor
   ·rintro (h | ⟨h,h3⟩)
    ·exact .inl h
    ·rcases zz.1 h with h | rfl
     ·exact .inr ⟨h,h3⟩
     ·exact h3.elim .inl fun h4=>absurd h4 (Jk s)
   ·rintro (h | ⟨h,h3⟩)
    ·exact .inl h
    ·exact .inr ⟨by omega,h3⟩
  by_cases Dd:0<=r
  ·rw [zn Dd,zAW,zg,zi ⟨by omega,by omega⟩];cases hp:(pB c pos).getD i false
   ·rw [zAZ,zk,zi r1];exact ⟨o1,rfl,skip fun s h=>by rw [hp] at h;cases h.1⟩
   ·rw [zAW,zg,zi ⟨by omega,by omega⟩];cases hc:(cB c pos).getD i false
    ·obtain ⟨x,e1,hx⟩:=hN n (by omega) i hi;have e1:(if (pB c pos).getD i false=true then Lf n q.nbrs (pB c pos) (cB c pos) i else some (false,0))=some x:=e1;rw [zi hp] at e1;obtain ⟨_,hx⟩:=hx hp;rw [zg,e1,zh];cases hb:x.1
     ·rw [zg,zi r1];exact ⟨o1,rfl,skip fun s h=>by rw [hx.2 h.2.2.1] at hb;cases hb⟩
     ·obtain ⟨l',e,h3⟩:=hI.only (c:=c) (q:=q) (D':=fun a s=>FG c q pos a s∨(a<i+1/\ IP c q pos a s)) (cell:=(i:Int)) (by omega) (by omega) fun j s hj _=>by
       constructor
       ·rintro (h | ⟨h,h3⟩)
        ·exact .inl (.inl h)
        ·rcases zz.1 h with h | rfl
         ·exact .inl (.inr ⟨h,h3⟩)
         ·exact h3.elim (fun h=>.inl (.inl h)) fun h4=>.inr ⟨rfl,h4.2.2.2⟩
       ·rintro ((h | ⟨h,h3⟩) | ⟨h,h3⟩)
        ·exact .inl h
        ·exact .inr ⟨by omega,h3⟩
        ·obtain rfl:j=i:=by omega
         exact .inr ⟨by omega,.inr ⟨hp,hc,hx.1 hb,h3⟩⟩
      rw [zk,e,zh,zi r1];exact ⟨l',rfl,h3⟩
    ·rw [zk,zi r1];exact ⟨o1,rfl,skip fun s h=>by rw [hc] at h;cases h.2.1⟩
  ·rw [ze Dd,zAZ,zk,zi r1];refine ⟨o1,rfl,skip fun s h=>?_⟩;obtain ⟨hp,_,⟨u,v,_,_,h3,_,h4,_⟩,_⟩:=h;rcases hF with ⟨_,hF⟩ | ⟨h5,_⟩
   ·have:=h4.rng W.g.gr (by omega) (by omega);rw [hF u.toNat (by rw [EY];omega)] at h3;cases h3
   ·exact Dd h5
def DJ (g:List (List Int)) (S:List Bool) (v:Int):Nat:=(nb g v).countP fun x=>S.getD x.toNat false
def Q2 (c:AB) (q:AA) (pos:List Int):Prop:=∀ v,v<pos.length -> (cB c pos).getD v false=true -> 2<=DJ q.nbrs (pB c pos) v/\ DJ q.nbrs (cB c pos) v<=2
def fI (c:AB) (q:AA) (pos:List Int) (v a s:Nat):Prop:=(cB c pos).getD v false=true/\ (a:Int)∈nb q.nbrs v/\ (pB c pos).getD a false=true/\ ((DJ q.nbrs (pB c pos) v=2/\ tb c.set s=false)∨(DJ q.nbrs (cB c pos) v=2/\ (cB c pos).getD a false=false/\ tb c.set s=true))
def N6 (c:AB) (q:AA) (pos:List Int) (a s:Nat):Prop:=FG c q pos a s∨∃ v,v<pos.length/\ fI c q pos v a s
section
variable {P C:List Bool} {o1:List Int} {row:List Int} {x20 x21:Int}
def Ir (P:List Bool) (o2:List Int) (v:Int):List Int:=bif P.getD v.toNat false then o2++[v] else o2
def JW (C:List Bool) (x:Int) (v:Int):Int:=bif C.getD v.toNat false then x+1 else x
theorem eo: ∀ (l o2:List Int),l.foldl (Ir P) o2=o2++l.filter fun x=>P.getD x.toNat false
 | [],o2=>by simp
 | v::l,o2=>by
  rw [zBG,eo l];unfold Ir;cases h:P.getD v.toNat false
  ·rw [zg,List.filter_cons_of_neg (by rw [h];decide)]
  ·rw [zk,List.filter_cons_of_pos (p:=fun x=>P.getD (Int.toNat x) false) h,zBh];rfl
theorem fO: ∀ (l:List Int) (x:Int),l.foldl (JW C) x=x+(l.countP fun x=>C.getD x.toNat false:Nat)
 | [],x=>by simp
 | v::l,x=>by
  rw [zBG,fO l];unfold JW;cases h:C.getD v.toNat false
  ·rw [zg,List.countP_cons_of_neg (by rw [h];decide)]
  ·rw [zk,List.countP_cons_of_pos (p:=fun x=>C.getD (Int.toNat x) false) h];omega
def Ld (P C:List Bool) (x20 x21:Int) (row o1 o2:List Int) (x8 j:Int):Km:=match o2 with
 | []=>.l2 P C x8 x20 x21 row (row.length:Int) j o1
 | a::l=>.l3 P C (a::l).length x8 x20 x21 row (row.length:Int) j o1 (a::l)
theorem cN {o2:List Int} {x8 j:Int} (h:o2≠[]):Ld P C x20 x21 row o1 o2 x8 j= .l3 P C o2.length x8 x20 x21 row (row.length:Int) j o1 o2:=by
 cases o2 with
 | nil=>exact absurd rfl h
 | cons a l=>rfl
theorem ql {n j:Nat} {x8:Int} {o2:List Int} (hP:P.length=pos.length) (hC:C.length=pos.length) (hr: ∀ u∈row,0<=u/\ u<(pos.length:Int)) (hl:row.length<=256) (hj:j<row.length) (ho:o2.length<=256) (h8:0<=x8/\ x8<=256):
 CD c q pos pos.length lost (n+1) (Ld P C x20 x21 row o1 o2 x8 j)=CD c q pos pos.length lost n (Ld P C x20 x21 row o1 (Ir P o2 (row.getD j 0)) (JW C x8 (row.getD j 0)) ((j:Int)+1)):=by
 have L:(1000000000000:Nat)=A6:=rfl;have hx:row.getD j 0∈row:=by rw [u8,zf hj];exact zAL hj
 have Fw:=hr _ hx;have r1:AH ((j:Int)+1):=Aq.2 ⟨by omega,by omega⟩;have r8:AH (x8+1):=Aq.2 ⟨by omega,by omega⟩;cases o2 with
 | nil=>
  show Qz n (CD c q pos pos.length lost n) c q pos pos.length lost P C x8 x20 x21 row (row.length:Int) (j:Int) o1=_
  unfold Qz Ir JW;simp only [zl];rw [zn (by omega),zk,zi ⟨⟨by omega,by omega⟩,by omega,by omega⟩];cases hp:P.getD (row.getD j 0).toNat false <;> cases hc:C.getD (row.getD j 0).toNat false
  ·rw [zg,zg,zg,zi ⟨by omega,by omega⟩,zg,zi r1];rfl
  ·rw [zg,zg,zk,zi ⟨by omega,by omega⟩,zk,zi ⟨r8,r1⟩];rfl
  ·rw [zk,zk,zg,zi ⟨⟨⟨trivial,rfl⟩,by rw [zAH];omega,by rw [zAH,←L];omega⟩,by omega,by omega⟩,zg,zi r1];rfl
  ·rw [zk,zk,zk,zi ⟨⟨⟨trivial,rfl⟩,by rw [zAH];omega,by rw [zAH,←L];omega⟩,by omega,by omega⟩,zk,zi ⟨r8,r1⟩];rfl
 | cons a l=>
  have AQ:Ir P (a::l) (row.getD j 0)≠[]:=by unfold Ir;cases P.getD (row.getD j 0).toNat false <;> simp
  rw [cN AQ]
  show MI n (CD c q pos pos.length lost n) c q pos pos.length lost P C (a::l).length x8 x20 x21 row (row.length:Int) (j:Int) o1 (a::l)=_
  unfold MI Ir JW;simp only [zl];rw [zn (by omega),zk,zi ⟨⟨by omega,by omega⟩,by omega,by omega⟩];cases hp:P.getD (row.getD j 0).toNat false <;> cases hc:C.getD (row.getD j 0).toNat false
  ·rw [zg,zg,zg,zi ⟨by omega,by omega⟩,zg,zi r1]
  ·rw [zg,zg,zk,zi ⟨by omega,by omega⟩,zk,zi ⟨r8,r1⟩]
  ·rw [zk,zk,zg,zi ⟨⟨⟨trivial,rfl⟩,⟨trivial,trivial⟩,by rw [zAH,←L];omega⟩,by omega,by omega⟩,zg,zi r1,zAO]
  ·rw [zk,zk,zk,zi ⟨⟨⟨trivial,rfl⟩,⟨trivial,trivial⟩,by rw [zAH,←L];omega⟩,by omega,by omega⟩,zk,zi ⟨r8,r1⟩,zAO]
theorem fH (hP:P.length=pos.length) (hC:C.length=pos.length) (hr: ∀ u∈row,0<=u/\ u<(pos.length:Int)) (hl:row.length<=256): ∀ (k j n:Nat) (o2:List Int) (x8:Int),j+k=row.length -> o2.length<=j -> 0<=x8/\ x8<=(j:Int) ->
 CD c q pos pos.length lost (n+k) (Ld P C x20 x21 row o1 o2 x8 j)=CD c q pos pos.length lost n (Ld P C x20 x21 row o1 ((row.drop j).foldl (Ir P) o2) ((row.drop j).foldl (JW C) x8) (row.length:Int))
 | 0,j,n,o2,x8,e,_,_=>by
  have e:j=row.length:=by omega
  subst e;rw [List.drop_length];rfl
 | k+1,j,n,o2,x8,e,h2,h8=>by
  have hj:j<row.length:=by omega
  have e2:row.drop j=row.getD j 0::row.drop (j+1):=by
   rw [zAD hj,u8,zf hj];rfl
  rw [←zAg,ql hP hC hr hl hj (by omega) (by omega),e2,zBG,zBG]
  have h3:(Ir P o2 (row.getD j 0)).length<=j+1:=by
   unfold Ir;cases P.getD (row.getD j 0).toNat false
   ·rw [zg];omega
   ·rw [zk,zAO,zAH];omega
  have h4:0<=JW C x8 (row.getD j 0)/\ JW C x8 (row.getD j 0)<=((j+1:Nat):Int):=by
   unfold JW;cases C.getD (row.getD j 0).toNat false
   ·rw [zg];omega
   ·rw [zk];omega
  exact fH hP hC hr hl k (j+1) n _ _ (by omega) h3 h4
theorem kL {D:Nat -> Nat -> Prop} {near:List Int} {x8:Int} {v:Nat} {n:Nat} (W:GT c q pos) (hD:CA pos lost D o1) (U5: ∀ u∈near,0<=u/\ u<(pos.length:Int)) (FY:near.length<=256) (hv:v<pos.length):
 ∃ l',CD c q pos pos.length lost (n+1+near.length) (.l4 (pB c pos) (cB c pos) near.length x8 x20 (v:Int) near.length (near.length:Int) 0 o1 near)=CD c q pos pos.length lost n (.l1 (pB c pos) (cB c pos) x20 ((v:Int)+1) l')/\
  CA pos lost (fun a s=>D a s∨((a:Int)∈near/\ ((near.length=2/\ tb c.set s=false)∨(x8=2/\ (cB c pos).getD a false=false/\ tb c.set s=true)))) l':=by
 have FZ:=W.l1;have lc:(cB c pos).length=pos.length:=EY
 obtain ⟨l',e,h⟩:=UT (fun n (s:List Int) i=>CD c q pos pos.length lost n (.l4 (pB c pos) (cB c pos) near.length x8 x20 (v:Int) near.length (near.length:Int) i s near)) near.length 0
  (fun i s=>CA pos lost (fun a t=>D a t∨((a:Int)∈near.take i/\ ((near.length=2/\ tb c.set t=false)∨(x8=2/\ (cB c pos).getD a false=false/\ tb c.set t=true)))) s)
  (fun n i s _ hi hI=>by
   have hx:near.getD i 0∈near:=by rw [u8,zf hi];exact zAL hi
   have Fw:=U5 _ hx
   have e3:near.take (i+1)=near.take i++[near.getD i 0]:=by
    rw [zA8 hi,u8,zf hi];rfl
   have r1:AH ((i:Int)+1):=Aq.2 ⟨by omega,by omega⟩;have mem: ∀ a:Nat,(a:Int)∈near.take (i+1)↔(a:Int)∈near.take i∨(a:Int)=near.getD i 0:=fun a=>by rw [e3,zAI,zAB]
   obtain ⟨l2,f2,Zf⟩:=hI.only (c:=c) (q:=q) (cell:=near.getD i 0) Fw.1 Fw.2 (D':=fun a t=>(D a t∨((a:Int)∈near.take i/\ ((near.length=2/\ tb c.set t=false)∨(x8=2/\ (cB c pos).getD a false=false/\ tb c.set t=true))))∨((a:Int)=near.getD i 0/\ tb c.set t=false)) fun j s _ _=>Iff.rfl
   obtain ⟨l3,f3,wT⟩:=Zf.lose (c:=c) (q:=q) (cell:=near.getD i 0) (ss:=c.set) Fw.1 Fw.2 (D':=fun a t=>((D a t∨((a:Int)∈near.take i/\ ((near.length=2/\ tb c.set t=false)∨(x8=2/\ (cB c pos).getD a false=false/\ tb c.set t=true))))∨((a:Int)=near.getD i 0/\ tb c.set t=false))∨((a:Int)=near.getD i 0/\ tb c.set t=true)) fun j s _ _=>Iff.rfl
   obtain ⟨l4,f4,VG⟩:=hI.lose (c:=c) (q:=q) (cell:=near.getD i 0) (ss:=c.set) Fw.1 Fw.2 (D':=fun a t=>(D a t∨((a:Int)∈near.take i/\ ((near.length=2/\ tb c.set t=false)∨(x8=2/\ (cB c pos).getD a false=false/\ tb c.set t=true))))∨((a:Int)=near.getD i 0/\ tb c.set t=true)) fun j s _ _=>Iff.rfl
   show ∃ s',Qy n (CD c q pos pos.length lost n) c q pos pos.length lost (pB c pos) (cB c pos) near.length x8 x20 (v:Int) near.length (near.length:Int) (i:Int) s near=_/\ _
   unfold Qy;simp only [zl,zAA];rw [zn (by omega),zk,zi ⟨⟨by omega,by omega⟩,hi⟩];have Ak: ∀ a:Nat,(a:Int)=near.getD i 0 -> (near.getD i 0).toNat=a:=fun a h=>by omega
   by_cases h2:near.length=2
   ·have b2:(((near.length:Nat):Int)==2)=true:=by rw [h2];rfl
    rw [b2,zk,f2,zh]
    by_cases h8:x8=2
    ·have b8:(x8==2)=true:=by rw [h8];rfl
     rw [b8,zk,zi ⟨by omega,by omega⟩];cases hc:(cB c pos).getD (near.getD i 0).toNat false
     ·rw [zAZ,zk,f3,zh,zi r1];refine ⟨l3,rfl,wT.id' fun a t _ _=>?_⟩;rw [mem];constructor
      ·rintro (h | ⟨h | h,h3 | ⟨h3,h4,h5⟩⟩)
       ·exact .inl (.inl (.inl h))
       ·exact .inl (.inl (.inr ⟨h,.inl h3⟩))
       ·exact .inl (.inl (.inr ⟨h,.inr ⟨h3,h4,h5⟩⟩))
       ·exact .inl (.inr ⟨h,h3.2⟩)
       ·exact .inr ⟨h,h5⟩
      ·rintro (((h | ⟨h,h3⟩) | ⟨h,h3⟩) | ⟨h,h3⟩)
       ·exact .inl h
       ·exact .inr ⟨.inl h,h3⟩
       ·exact .inr ⟨.inr h,.inl ⟨h2,h3⟩⟩
       ·exact .inr ⟨.inr h,.inr ⟨h8,by rw [←Ak a h];exact hc,h3⟩⟩
     ·rw [zAW,zg,zi r1];refine ⟨l2,rfl,Zf.id' fun a t _ _=>?_⟩;rw [mem];constructor
      ·rintro (h | ⟨h | h,h3 | ⟨h3,h4,h5⟩⟩)
       ·exact .inl (.inl h)
       ·exact .inl (.inr ⟨h,.inl h3⟩)
       ·exact .inl (.inr ⟨h,.inr ⟨h3,h4,h5⟩⟩)
       ·exact .inr ⟨h,h3.2⟩
       ·rw [←Ak a h,hc] at h4;cases h4
      ·rintro ((h | ⟨h,h3⟩) | ⟨h,h3⟩)
       ·exact .inl h
       ·exact .inr ⟨.inl h,h3⟩
       ·exact .inr ⟨.inr h,.inl ⟨h2,h3⟩⟩
    ·have b8:(x8==2)=false:=zAk.2 h8;rw [b8,zg,zi r1];refine ⟨l2,rfl,Zf.id' fun a t _ _=>?_⟩;rw [mem];constructor
     ·rintro (h | ⟨h | h,h3 | ⟨h3,h4,h5⟩⟩)
      ·exact .inl (.inl h)
      ·exact .inl (.inr ⟨h,.inl h3⟩)
      ·exact .inl (.inr ⟨h,.inr ⟨h3,h4,h5⟩⟩)
      ·exact .inr ⟨h,h3.2⟩
      ·exact absurd h3 h8
     ·rintro ((h | ⟨h,h3⟩) | ⟨h,h3⟩)
      ·exact .inl h
      ·exact .inr ⟨.inl h,h3⟩
      ·exact .inr ⟨.inr h,.inl ⟨h2,h3⟩⟩
   ·have b2:(((near.length:Nat):Int)==2)=false:=zAk.2 (by omega);rw [b2,zg]
    by_cases h8:x8=2
    ·have b8:(x8==2)=true:=by rw [h8];rfl
     rw [b8,zk,zi ⟨by omega,by omega⟩];cases hc:(cB c pos).getD (near.getD i 0).toNat false
     ·rw [zAZ,zk,f4,zh,zi r1];refine ⟨l4,rfl,VG.id' fun a t _ _=>?_⟩;rw [mem];constructor
      ·rintro (h | ⟨h | h,h3 | ⟨h3,h4,h5⟩⟩)
       ·exact .inl (.inl h)
       ·exact .inl (.inr ⟨h,.inl h3⟩)
       ·exact .inl (.inr ⟨h,.inr ⟨h3,h4,h5⟩⟩)
       ·exact absurd h3.1 h2
       ·exact .inr ⟨h,h5⟩
      ·rintro ((h | ⟨h,h3⟩) | ⟨h,h3⟩)
       ·exact .inl h
       ·exact .inr ⟨.inl h,h3⟩
       ·exact .inr ⟨.inr h,.inr ⟨h8,by rw [←Ak a h];exact hc,h3⟩⟩
     ·rw [zAW,zg,zi r1];refine ⟨s,rfl,hI.id' fun a t _ _=>?_⟩;rw [mem];constructor
      ·rintro (h | ⟨h | h,h3 | ⟨h3,h4,h5⟩⟩)
       ·exact .inl h
       ·exact .inr ⟨h,.inl h3⟩
       ·exact .inr ⟨h,.inr ⟨h3,h4,h5⟩⟩
       ·exact absurd h3.1 h2
       ·rw [←Ak a h,hc] at h4;cases h4
      ·rintro (h | ⟨h,h3⟩)
       ·exact .inl h
       ·exact .inr ⟨.inl h,h3⟩
    ·have b8:(x8==2)=false:=zAk.2 h8;rw [b8,zg,zi r1];refine ⟨s,rfl,hI.id' fun a t _ _=>?_⟩;rw [mem];constructor
     ·rintro (h | ⟨h | h,h3 | ⟨h3,h4,h5⟩⟩)
      ·exact .inl h
      ·exact .inr ⟨h,.inl h3⟩
      ·exact .inr ⟨h,.inr ⟨h3,h4,h5⟩⟩
      ·exact absurd h3.1 h2
      ·exact absurd h3 h8
     ·rintro (h | ⟨h,h3⟩)
      ·exact .inl h
      ·exact .inr ⟨.inl h,h3⟩)
  near.length 0 (n+1) o1 (by omega) (by omega) (hD.id' fun a t _ _=>by simp)
 refine ⟨l',Eq.trans e ?_,h.id' fun a t _ _=>by rw [List.take_length]⟩
 show Qy n (CD c q pos pos.length lost n) c q pos pos.length lost (pB c pos) (cB c pos) near.length x8 x20 (v:Int) near.length (near.length:Int) (near.length:Int) l' near=_
 unfold Qy;rw [ze (by omega),zg,zi (Aq.2 ⟨by omega,by omega⟩)]
end
def kf (c:AB) (q:AA) (pos lost:List Int) (x:Bool×List Int):Prop:=(x.1=true↔Q2 c q pos)/\ (x.1=true -> CA pos lost (N6 c q pos) x.2)
theorem rB (W:GT c q pos): ∀ (k v:Nat) (o1:List Int),v+k=pos.length -> (∀ u,u<v -> (cB c pos).getD u false=true -> 2<=DJ q.nbrs (pB c pos) u/\ DJ q.nbrs (cB c pos) u<=2) -> CA pos lost (fun a s=>FG c q pos a s∨∃ u,u<v/\ fI c q pos u a s) o1 ->
 Ac (fun n=>CD c q pos pos.length lost n (.l1 (pB c pos) (cB c pos) (pos.length:Int) (v:Int) o1)) (kf c q pos lost):=by
 have FZ:=W.l1;have Ee:=W.gl;have lp:(pB c pos).length=pos.length:=Et;have lc:(cB c pos).length=pos.length:=EY;intro k
 induction k with
 | zero=>
  intro v o1 e B8 hL;have e:v=pos.length:=by omega
  subst e;refine Ev.p (r:=(true,o1)) ⟨1,fun n hn=>?_⟩ ⟨⟨fun _ v hv hc=>B8 v hv hc,fun _=>rfl⟩,fun _=>hL⟩;obtain ⟨n,rfl⟩: ∃ k,n=k+1:=⟨n-1,by omega⟩
  show Q0 n (CD c q pos pos.length lost n) c q pos pos.length lost (pB c pos) (cB c pos) (pos.length:Int) (pos.length:Int) o1=_
  unfold Q0;rw [ze (by omega),zg]
 | succ k ih=>
  intro v o1 e B8 hL;have hv:v<pos.length:=by omega
  have r1:AH ((v:Int)+1):=Aq.2 ⟨by omega,by omega⟩
  have U: ∀ n,CD c q pos pos.length lost (n+1) (.l1 (pB c pos) (cB c pos) (pos.length:Int) (v:Int) o1)=bif (cB c pos).getD v false then CD c q pos pos.length lost n (Ld (pB c pos) (cB c pos) (pos.length:Int) (v:Int) (nb q.nbrs v) o1 [] 0 0) else CD c q pos pos.length lost n (.l1 (pB c pos) (cB c pos) (pos.length:Int) ((v:Int)+1) o1):=fun n=>by
   show Q0 n (CD c q pos pos.length lost n) c q pos pos.length lost (pB c pos) (cB c pos) (pos.length:Int) (v:Int) o1=_
   unfold Q0;rw [zn (by omega),zk,zi ⟨by omega,by omega⟩,zl,zi r1,zi ⟨by omega,by omega⟩];cases (cB c pos).getD v false <;> rfl
  cases hc:(cB c pos).getD v false
  ·refine Ac.step 1 (fun n=>?_) (ih (v+1) o1 (by omega) (fun u hu RO=>?_) (hL.id' fun a s _ _=>?_))
   ·rw [U,hc,zg];rfl
   ·rcases zz.1 hu with hu | rfl
    ·exact B8 u hu RO
    ·rw [hc] at RO;cases RO
   ·constructor
    ·rintro (h | ⟨u,hu,h⟩)
     ·exact .inl h
     ·rcases zz.1 hu with hu | rfl
      ·exact .inr ⟨u,hu,h⟩
      ·rw [h.1] at hc;cases hc
    ·rintro (h | ⟨u,hu,h⟩)
     ·exact .inl h
     ·exact .inr ⟨u,by omega,h⟩
  ·have RQ:=W.g.gr.row (v:Int) (by omega) (by omega)
   have Uy: ∀ u∈nb q.nbrs (v:Int),0<=u/\ u<(pos.length:Int):=fun u hu=>by
    have:=W.g.gr.rng (v:Int) (by omega) (by omega) u hu;omega
   have A:=fun n=>fH (c:=c) (q:=q) (lost:=lost) (o1:=o1) (x20:=(pos.length:Int)) (x21:=(v:Int)) lp lc Uy RQ (nb q.nbrs v).length 0 n [] 0 (by omega) (by simp) ⟨zAo _,by omega⟩
   rw [zCP,eo,fO,zA1,Int.zero_add] at A;have dP:DJ q.nbrs (pB c pos) v=((nb q.nbrs v).filter fun x=>(pB c pos).getD x.toNat false).length:=List.countP_eq_length_filter;have dC:DJ q.nbrs (cB c pos) v=(nb q.nbrs v).countP fun x=>(cB c pos).getD x.toNat false:=rfl
   rw [←dC] at A
   generalize RS:((nb q.nbrs v).filter fun x=>(pB c pos).getD x.toNat false)=near at A dP
   have Bv: ∀ u,u∈near↔u∈nb q.nbrs v/\ (pB c pos).getD u.toNat false=true:=fun u=>by rw [←RS,zBV]
   have FY:near.length<=256:=by
    have:=List.length_filter_le (fun x=>(pB c pos).getD x.toNat false) (nb q.nbrs v);rw [RS] at this;omega
   have U5: ∀ u∈near,0<=u/\ u<(pos.length:Int):=fun u hu=>Uy u ((Bv u).1 hu).1
   have U2: ∀ n,CD c q pos pos.length lost (n+((nb q.nbrs v).length+1)) (.l1 (pB c pos) (cB c pos) (pos.length:Int) (v:Int) o1)=CD c q pos pos.length lost n (Ld (pB c pos) (cB c pos) (pos.length:Int) (v:Int) (nb q.nbrs v) o1 near (DJ q.nbrs (cB c pos) v:Int) ((nb q.nbrs v).length:Int)):=fun n=>by
    rw [←zAg,U,hc,zk];exact A n
   refine Ac.step _ U2 ?_
   by_cases hbad:DJ q.nbrs (pB c pos) v<2∨2<DJ q.nbrs (cB c pos) v
   ·have Jk: ¬ Q2 c q pos:=fun h=>by have:=h v hv hc;omega
    refine Ev.p (r:=(false,o1)) ⟨1,fun n hn=>?_⟩ ⟨⟨fun h=>(by cases h),fun h=>absurd h Jk⟩,fun h=>(by cases h)⟩;obtain ⟨n,rfl⟩: ∃ k,n=k+1:=⟨n-1,by omega⟩;cases near with
    | nil=>
     show Qz n (CD c q pos pos.length lost n) c q pos pos.length lost (pB c pos) (cB c pos) (DJ q.nbrs (cB c pos) v:Int) (pos.length:Int) (v:Int) (nb q.nbrs v) ((nb q.nbrs v).length:Int) ((nb q.nbrs v).length:Int) o1=_
     unfold Qz;rw [ze (by omega),zg]
    | cons a l=>
     show MI n (CD c q pos pos.length lost n) c q pos pos.length lost (pB c pos) (cB c pos) (a::l).length (DJ q.nbrs (cB c pos) v:Int) (pos.length:Int) (v:Int) (nb q.nbrs v) ((nb q.nbrs v).length:Int) ((nb q.nbrs v).length:Int) o1 (a::l)=_
     unfold MI;rw [ze (by omega),zg]
     by_cases h2:(((a::l).length:Nat):Int)<2
     ·rw [zn h2,zk]
     ·rw [ze h2,zg,zn (by omega),zk]
   ·have AQ:near≠[]:=by
     intro h;rw [h,zA0] at dP;omega
    obtain ⟨l',e4,VG⟩:=kL (c:=c) (q:=q) (lost:=lost) (o1:=o1) (near:=near) (x20:=(pos.length:Int)) (x8:=(DJ q.nbrs (cB c pos) v:Int)) (n:=0) W hL U5 FY hv;have e5: ∀ n,∃ l',CD c q pos pos.length lost (n+1+near.length) (.l4 (pB c pos) (cB c pos) near.length (DJ q.nbrs (cB c pos) v:Int) (pos.length:Int) (v:Int) near.length (near.length:Int) 0 o1 near)=CD c q pos pos.length lost n (.l1 (pB c pos) (cB c pos) (pos.length:Int) ((v:Int)+1) l')/\ _:=fun n=>kL (c:=c) (q:=q) (lost:=lost) (o1:=o1) (near:=near) (x20:=(pos.length:Int)) (x8:=(DJ q.nbrs (cB c pos) v:Int)) (n:=n) W hL U5 FY hv
    have IH:=ih (v+1) l' (by omega) (fun u hu RO=>by
     rcases zz.1 hu with hu | rfl
     ·exact B8 u hu RO
     ·omega) (VG.id' fun a s _ _=>by
     constructor
     ·rintro (h | ⟨u,hu,h⟩)
      ·exact .inl (.inl h)
      ·rcases zz.1 hu with hu | rfl
       ·exact .inl (.inr ⟨u,hu,h⟩)
       ·obtain ⟨h1,h2,h3,h4⟩:=h;refine .inr ⟨(Bv _).2 ⟨h2,by rw [zl];exact h3⟩,?_⟩;rcases h4 with ⟨h4,h5⟩ | ⟨h4,h5⟩
        ·exact .inl ⟨by omega,h5⟩
        ·exact .inr ⟨by omega,h5⟩
     ·rintro ((h | ⟨u,hu,h⟩) | ⟨h1,h2⟩)
      ·exact .inl h
      ·exact .inr ⟨u,by omega,h⟩
      ·obtain ⟨h3,h4⟩:=(Bv _).1 h1;rw [zl] at h4;refine .inr ⟨v,by omega,hc,h3,h4,?_⟩;rcases h2 with ⟨h2,h5⟩ | ⟨h2,h5⟩
       ·exact .inl ⟨by omega,h5⟩
       ·exact .inr ⟨by omega,h5⟩)
    refine Ac.step (1+near.length+1) (g:=fun n=>CD c q pos pos.length lost n (.l1 (pB c pos) (cB c pos) (pos.length:Int) ((v:Int)+1) l')) (fun n=>?_) IH;obtain ⟨l2,e6,wS⟩:=e5 n;have:l2=l':=wS.unique VG;subst this;rw [cN AQ,show n+(1+near.length+1)=n+1+near.length+1 by omega,←e6]
    show MI (n+1+near.length) (CD c q pos pos.length lost (n+1+near.length)) c q pos pos.length lost (pB c pos) (cB c pos) near.length (DJ q.nbrs (cB c pos) v:Int) (pos.length:Int) (v:Int) (nb q.nbrs v) ((nb q.nbrs v).length:Int) ((nb q.nbrs v).length:Int) o1 near=_
    unfold MI;rw [ze (by omega),zg,ze (by omega),zg,ze (by omega),zg]
theorem rC (W:GT c q pos) (hL:CA pos lost (fun _ _=>False) lost):Ac (fun n=>US n c q pos pos.length lost) (kf c q pos lost):=by
 have FZ:=W.l1;obtain ⟨r,_,hF⟩:=Uq (l:=cB c pos) (by rw [EY];exact FZ);obtain ⟨l0,h1,h2⟩:=fA W hL hF;refine Ac.bind h1 (b:=fun n y1=>CD c q pos pos.length lost n (.l1 y1.1 y1.2.1 (y1.2.1.length:Int) 0 y1.2.2.2)) ?_;have:=rB (q:=q) W pos.length 0 l0 (by omega) (fun u hu=>absurd hu (zy u)) (h2.id' fun a s _ _=>⟨fun h=>h.elim id fun ⟨u,hu,_⟩=>absurd hu (zy u),.inl⟩);refine this.eq fun n=>?_
 show CD c q pos pos.length lost n (.l1 (pB c pos) (cB c pos) ((cB c pos).length:Int) 0 l0)=_
 rw [EY];rfl
end
end Go.Proofs.YtgkhhfnhacibcaaGreatDoor
namespace Go.Proofs.YtgkhhfnhacibcaaGreatDoor
open Go.RowKit
set_option maxRecDepth 100000
set_option maxHeartbeats 40000000
theorem m8:An (A8 Tryz.f44 6) [([0,1,2,3,4,5,6,7,8],9),([10],11)] [12] []:=by unfold An;kernel_rfl
theorem m9:An (A8 Tryz.f44 13) [] (List.range 13) [13]:=by unfold An;kernel_rfl
def Db:BV:=fun i=>match i with
 | 6=>.ord [([0,1,2,3,4,5,6,7,8],9),([10],11)] [12] []
 | 13=>.ord [] (List.range 13) [13]
 | _=>.no
def uo (q:AA) (pos:List Int):DH:=[some (.cells (AD q)),some (.cells [.cst .nilFunc,.fn 68 0 (L1 []),.fn 69 0 (L1 []),.fn 70 0 (L1 []),.fn 71 0 (L1 []),.fn 72 0 (L1 []),.fn 73 0 (L1 []),.fn 74 0 (L1 []),.fn 75 0 (L1 []),.fn 76 0 (L1 [])]),some (.ints (List.replicate pos.length (0:Int)))]
def Ji (q:AA) (pos:List Int) (i:Int):DH:=[some (.cells (AD q)),some (.cells [.cst .nilFunc,.fn 68 0 (L1 []),.fn 69 0 (L1 []),.fn 70 0 (L1 []),.fn 71 0 (L1 []),.fn 72 0 (L1 []),.fn 73 0 (L1 []),.fn 74 0 (L1 []),.fn 75 0 (L1 []),.fn 76 0 (L1 [])]),some (.ints (List.replicate pos.length (0:Int))),some (.ints (List.replicate pos.length (0:Int))),some (.cells (AG (q.cons.getD ((i).toNat) default)++AD q++[.ints pos,.msl 3 1 0 pos.length]))]
def um (pos:List Int) (q:AA) (i:Int) (o2:List Int):DH:=[some (.ints (List.replicate pos.length (0:Int))),some (.cells (AG (q.cons.getD ((i).toNat) default)++AD q++[.ints pos,.msl 2 1 0 pos.length])),some (.ints o2)]
def ul (pos:List Int) (q:AA) (i:Int) (o2 o3:List Int):DH:=[some (.ints (List.replicate pos.length (0:Int))),some (.cells (AG (q.cons.getD ((i).toNat) default)++AD q++[.ints pos,.msl 2 1 0 pos.length])),some (.ints o2),some (.ints o3)]
inductive QZ where
 | l1 (o2:List Int)
 | l2 (Ia:Nat) (KC Bq:Int) (o2 o3:List Int)
def XP (n:Nat) (self:QZ -> Option ((List Int))) (q:AA) (i:Int) (pos:List Int) (o2:List Int):Option ((List Int)):=
 (Vt n pos).bind fun y1=>
  self (.l2 y1.length (y1.length:Int) 0 o2 y1)
def QX (n:Nat) (self:QZ -> Option ((List Int))) (q:AA) (i:Int) (pos:List Int) (Ia:Nat) (KC Bq:Int) (o2 o3:List Int):Option ((List Int)):=
 bif (decide (Bq<KC)) then
  if (0<=Bq/\ Bq<(Ia:Int))/\ 0+((Bq).toNat)<o3.length/\ (0<=Bq/\ Bq<(pos.length:Int))/\ 0+((Bq).toNat)<o2.length/\ AH (Bq+1) then
   self (.l2 Ia KC (Bq+1) o2 (o3.set (0+((Bq).toNat)) (bits .andNot .i64 (o3.getD (0+((Bq).toNat)) 0) (o2.getD (0+((Bq).toNat)) 0))))
  else none
 else
  if Ia=o3.length then
   (GI n o3).bind fun y1=>
    bif y1 then
     if pos.length=(List.replicate pos.length (0:Int)).length then
      some (List.replicate pos.length (0:Int))
     else none
    else
     some o3
  else none
def XQ (n:Nat) (self:QZ -> Option ((List Int))) (q:AA) (i:Int) (pos:List Int):Option ((List Int)):=
 if ((pos.length:Int):Int)=(pos.length:Int)/\ 0<=(pos.length:Int)/\ ((pos.length:Int):Int)<=1000000000000 then
  (GI n pos).bind fun y1=>
   bif y1 then
    if pos.length=(List.replicate pos.length (0:Int)).length then
     some (List.replicate pos.length (0:Int))
    else none
   else
    if 0<=i/\ i<(q.cons.length:Int) then
     bif (((q.cons.getD ((i).toNat) default).kind)==0) then
      none
     else
      bif (((q.cons.getD ((i).toNat) default).kind)==1) then
       (O0 n (q.cons.getD ((i).toNat) default) q pos pos.length (List.replicate pos.length (0:Int))).bind fun y2=>
        bif (!y2.1) then
         if pos.length=(List.replicate pos.length (0:Int)).length then
          some (List.replicate pos.length (0:Int))
         else none
        else
         self (.l1 y2.2)
      else
       bif (((q.cons.getD ((i).toNat) default).kind)==2) then
        (O4 n (q.cons.getD ((i).toNat) default) q pos pos.length (List.replicate pos.length (0:Int))).bind fun y2=>
         bif (!y2.1) then
          if pos.length=(List.replicate pos.length (0:Int)).length then
           some (List.replicate pos.length (0:Int))
          else none
         else
          self (.l1 y2.2)
       else
        bif (((q.cons.getD ((i).toNat) default).kind)==3) then
         (NR n (q.cons.getD ((i).toNat) default) q pos pos.length (List.replicate pos.length (0:Int))).bind fun y2=>
          bif (!y2.1) then
           if pos.length=(List.replicate pos.length (0:Int)).length then
            some (List.replicate pos.length (0:Int))
           else none
          else
           self (.l1 y2.2)
        else
         bif (((q.cons.getD ((i).toNat) default).kind)==4) then
          (Kb n (q.cons.getD ((i).toNat) default) q pos pos.length (List.replicate pos.length (0:Int))).bind fun y2=>
           bif (!y2.1) then
            if pos.length=(List.replicate pos.length (0:Int)).length then
             some (List.replicate pos.length (0:Int))
            else none
           else
            self (.l1 y2.2)
         else
          bif (((q.cons.getD ((i).toNat) default).kind)==5) then
           (Nb n (q.cons.getD ((i).toNat) default) q pos pos.length (List.replicate pos.length (0:Int))).bind fun y2=>
            bif (!y2.1) then
             if pos.length=(List.replicate pos.length (0:Int)).length then
              some (List.replicate pos.length (0:Int))
             else none
            else
             self (.l1 y2.2)
          else
           bif (((q.cons.getD ((i).toNat) default).kind)==6) then
            (M9 n (q.cons.getD ((i).toNat) default) q pos pos.length (List.replicate pos.length (0:Int))).bind fun y2=>
             bif (!y2.1) then
              if pos.length=(List.replicate pos.length (0:Int)).length then
               some (List.replicate pos.length (0:Int))
              else none
             else
              self (.l1 y2.2)
           else
            bif (((q.cons.getD ((i).toNat) default).kind)==7) then
             (MA n (q.cons.getD ((i).toNat) default) q pos pos.length (List.replicate pos.length (0:Int))).bind fun y2=>
              bif (!y2.1) then
               if pos.length=(List.replicate pos.length (0:Int)).length then
                some (List.replicate pos.length (0:Int))
               else none
              else
               self (.l1 y2.2)
            else
             bif (((q.cons.getD ((i).toNat) default).kind)==8) then
              (Vp n (q.cons.getD ((i).toNat) default) q pos pos.length (List.replicate pos.length (0:Int))).bind fun y2=>
               bif (!y2.1) then
                if pos.length=(List.replicate pos.length (0:Int)).length then
                 some (List.replicate pos.length (0:Int))
                else none
               else
                self (.l1 y2.2)
             else
              bif (((q.cons.getD ((i).toNat) default).kind)==9) then
               (US n (q.cons.getD ((i).toNat) default) q pos pos.length (List.replicate pos.length (0:Int))).bind fun y2=>
                bif (!y2.1) then
                 if pos.length=(List.replicate pos.length (0:Int)).length then
                  some (List.replicate pos.length (0:Int))
                 else none
                else
                 self (.l1 y2.2)
              else
               none
    else none
 else none
def Ht (q:AA) (i:Int) (pos:List Int):Nat -> QZ -> Option ((List Int))
 | 0,_=>none
 | n+1,.l1 o2=>XP n (Ht q i pos n) q i pos o2
 | n+1,.l2 Ia KC Bq o2 o3=>QX n (Ht q i pos n) q i pos Ia KC Bq o2 o3
def Ik (n:Nat) (q:AA) (i:Int) (pos:List Int):Option ((List Int)):=XQ n (Ht q i pos n) q i pos
def ph (n B:Nat) (N:Yd 0) (q:AA) (i:Int) (pos:List Int) (r:(List Int)):QZ -> Prop
 | .l1 o2=>TW B N (FQ Tryz.f44 0 (.ints r) []) (Gp (Aa Tryz.f44) 9 []) ⟨AL 69 [(2,.ints pos),(8,.msl 0 1 0 pos.length),(9,.ref 1 0)],[some (.ints (List.replicate pos.length (0:Int))),some (.cells (AG (q.cons.getD ((i).toNat) default)++AD q++[.ints pos,.msl 2 1 0 pos.length])),some (.ints o2)]⟩
 | .l2 Ia KC Bq o2 o3=>∀ m0:Nat,n<=m0 -> TW B N (FQ Tryz.f44 0 (.ints r) []) (Ak m0 (Ap (Aa Tryz.f44) 0 [])) ⟨AL 69 [(8,.msl 0 1 0 pos.length),(9,.ref 1 0),(10,.msl 3 1 0 Ia),(47,.i KC),(48,.i Bq)],[some (.ints (List.replicate pos.length (0:Int))),some (.cells (AG (q.cons.getD ((i).toNat) default)++AD q++[.ints pos,.msl 2 1 0 pos.length])),some (.ints o2),some (.ints o3)]⟩
theorem pi (B:Nat) (N:Yd 0) (q:AA) (i:Int) (pos:List Int):Al (Ht q i pos) (ph · B N q i pos):=ia (fun _=>rfl) fun n AF pt r h=>by
 cases pt
 case l1 o2=>
  revert r;apply gO;exact cn fun y1 A5=>jc (ES.snapNew (ds:=[.ints pos]) (yP A5) (um pos q i o2) (aX (by kernel_rfl)) rfl) (lN Db [0,1,2,3] (AF _ _ · n Nat.le.refl))
 case l2 Ia KC Bq o2 o3=>
  intro m0 AC;refine rd AC fun m0 AC=>?_
  revert r;apply gO;exact bi 49 (jg m9 (gc (gn fun g0=>jg g0 (gc (gn fun g1=>jg g1 (gc (gi (gc (gi (jg g0 (jg g1 (gw 64 (lG (BR 9 Db) [0,1,2,3] (AF _ _ · m0 AC)))))))))))))) (gn fun g0=>cn fun y1 A5=>jc (sb [.msl 3 1 0 Ia] (OB A5) (ul pos q i o2 o3) ⟨Ae.ints rfl g0,trivial⟩) (bi 66 (gn fun g1=>lF fun p=>ez (BR 9 Db) [6] [0] p [0] (H0.g g1)) (lF fun p=>ez (BR 9 Db) [6] [3] p [0] (H0.g g0))))
theorem pg {n:Nat} {q:AA} {i:Int} {pos:List Int} {r:(List Int)} (h:Ik n q i pos=some r):EQ 44 [.agg 5 (L1 (AD q)),.i i,.ints pos] [] (.ints r) [] true:=by
 have AF:=fun B N=>(pi B N q i pos n)
 refine ot Tryz.func44 fun B N=>?_
 revert r;apply gO;exact jt (gn fun g0=>jg g0 (cf OB (uo q pos) fun _=>bi 18 (gn fun g1=>lF fun p=>ez (BR 9 Db) [6] [2] p [0] (H0.g g1)) (jg m8 (gi (jg g0 (bn (fun c1=>nO) (fun c1=>bn (fun c3=>jo 36 (AM.int (k:=.i64) (eq_of_beq c3)) (jg (by decide:(0:Int)<=1/\ 1<((10:Nat):Int)) (ce xk [4,3] (Ji q pos i) fun _=>bi 42 (gn fun g2=>lF fun p=>ez (BR 9 Db) [6] [2] p [0] (H0.g g2)) (lG (BR 9 Db) [2,4,3] ((AF B N) _ _ ·))))) (fun c3=>bn (fun c5=>jo 36 (AM.int (k:=.i64) (eq_of_beq c5)) (jg (by decide:(0:Int)<=2/\ 2<((10:Nat):Int)) (ce xv [4,3] (Ji q pos i) fun _=>bi 42 (gn fun g2=>lF fun p=>ez (BR 9 Db) [6] [2] p [0] (H0.g g2)) (lG (BR 9 Db) [2,4,3] ((AF B N) _ _ ·))))) (fun c5=>bn (fun c7=>jo 36 (AM.int (k:=.i64) (eq_of_beq c7)) (jg (by decide:(0:Int)<=3/\ 3<((10:Nat):Int)) (ce mD [4,3] (Ji q pos i) fun _=>bi 42 (gn fun g2=>lF fun p=>ez (BR 9 Db) [6] [2] p [0] (H0.g g2)) (lG (BR 9 Db) [2,4,3] ((AF B N) _ _ ·))))) (fun c7=>bn (fun c9=>jo 36 (AM.int (k:=.i64) (eq_of_beq c9)) (jg (by decide:(0:Int)<=4/\ 4<((10:Nat):Int)) (ce oR [4,3] (Ji q pos i) fun _=>bi 42 (gn fun g2=>lF fun p=>ez (BR 9 Db) [6] [2] p [0] (H0.g g2)) (lG (BR 9 Db) [2,4,3] ((AF B N) _ _ ·))))) (fun c9=>bn (fun j3=>jo 36 (AM.int (k:=.i64) (eq_of_beq j3)) (jg (by decide:(0:Int)<=5/\ 5<((10:Nat):Int)) (ce ns [4,3] (Ji q pos i) fun _=>bi 42 (gn fun g2=>lF fun p=>ez (BR 9 Db) [6] [2] p [0] (H0.g g2)) (lG (BR 9 Db) [2,4,3] ((AF B N) _ _ ·))))) (fun j3=>bn (fun j2=>jo 36 (AM.int (k:=.i64) (eq_of_beq j2)) (jg (by decide:(0:Int)<=6/\ 6<((10:Nat):Int)) (ce zF [4,3] (Ji q pos i) fun _=>bi 42 (gn fun g2=>lF fun p=>ez (BR 9 Db) [6] [2] p [0] (H0.g g2)) (lG (BR 9 Db) [2,4,3] ((AF B N) _ _ ·))))) (fun j2=>bn (fun j1=>jo 36 (AM.int (k:=.i64) (eq_of_beq j1)) (jg (by decide:(0:Int)<=7/\ 7<((10:Nat):Int)) (ce qb [4,3] (Ji q pos i) fun _=>bi 42 (gn fun g2=>lF fun p=>ez (BR 9 Db) [6] [2] p [0] (H0.g g2)) (lG (BR 9 Db) [2,4,3] ((AF B N) _ _ ·))))) (fun j1=>bn (fun j0=>jo 36 (AM.int (k:=.i64) (eq_of_beq j0)) (jg (by decide:(0:Int)<=8/\ 8<((10:Nat):Int)) (ce yG [4,3] (Ji q pos i) fun _=>bi 42 (gn fun g2=>lF fun p=>ez (BR 9 Db) [6] [2] p [0] (H0.g g2)) (lG (BR 9 Db) [2,4,3] ((AF B N) _ _ ·))))) (fun j0=>bn (fun jy=>jo 36 (AM.int (k:=.i64) (eq_of_beq jy)) (jg (by decide:(0:Int)<=9/\ 9<((10:Nat):Int)) (ce rD [4,3] (Ji q pos i) fun _=>bi 42 (gn fun g2=>lF fun p=>ez (BR 9 Db) [6] [2] p [0] (H0.g g2)) (lG (BR 9 Db) [2,4,3] ((AF B N) _ _ ·))))) (fun jy=>nO))))))))))))))))
def dx (n:Nat) (q:AA) (i:Int) (pos:List Int):Option ((List Int)×Int):=
 (O7 n q i pos).bind fun y1=>
  bif (y1 != 0) then
   some (([]:List Int),y1)
  else
   (Ik n q i pos).bind fun y2=>
    some (y2,0)
def Hu (n:Nat) (q:AA) (i:Int) (pos:List Int):Option ((List Int)×Int):=dx n q i pos
theorem T0 {n:Nat} {q:AA} {i:Int} {pos:List Int} {r:(List Int)×Int} (h:Hu n q i pos=some r):EQ 15 [.agg 5 (L1 (AD q)),.i i,.ints pos] [] (.tup 2 (L1 [.ints r.1,.i r.2])) [] true:=by
 unfold Hu dx at h;refine ot Tryz.func15 fun B N=>?_
 revert r;apply gO;exact cf yQ [some (.cells (AD q))] fun y1=>bi 14 (lF fun p=>el AE [6,7] [] p [] H0 [.nils,.i y1] (AM.tupL (l:=[.nils,.i y1]) (l':=[.ints ([]:List Int),.i y1]) rfl ⟨AM.ints_nil,BM,trivial⟩)) (cf pg [some (.cells (AD q))] fun _=>lE AE [6,7] [])
end Go.Proofs.YtgkhhfnhacibcaaGreatDoor
namespace Go.Proofs.YtgkhhfnhacibcaaGreatDoor
open Go.RowKit
def BC (pos:List Int):Bool:=pos.any (· ==0)
theorem GR {pos:List Int}:BC pos=false↔∀ j,j<pos.length -> pos.getD j 0≠0:=by
 unfold BC;rw [List.any_eq_false];constructor
 ·intro h j hj e;refine h (pos.getD j 0) ?_ (by rw [e];rfl);rw [u8,zf hj];exact zAL hj
 ·intro h x hx;obtain ⟨j,hj,rfl⟩:=zAs hx;have:=h j hj;rw [u8,zf hj] at this;simpa using this
theorem Z2 {pos:List Int} {n:Nat} (hl:pos.length<=LB) (hn:pos.length<n):SH n pos=some (BC pos):=by
 have hb:LB<=9223372036854775806:=by decide
 have key: ∀ (k i n:Nat),i+k=pos.length -> k+1<=n -> O3 pos n (.l1 (i:Int))=some ((pos.drop i).any (· ==0)):=by
  intro k
  induction k with
  | zero=>
   intro i n e hn;obtain ⟨n,rfl⟩: ∃ k,n=k+1:=⟨n-1,by omega⟩
   show SG n (O3 pos n) pos (i:Int)=_
   unfold SG;rw [ze (by omega),zg,zAj (by omega)];rfl
  | succ k ih=>
   intro i n e hn;obtain ⟨n,rfl⟩: ∃ k,n=k+1:=⟨n-1,by omega⟩;have hi:i<pos.length:=by omega
   have e2:pos.drop i=pos.getD i 0::pos.drop (i+1):=by
    rw [zAD hi,u8,zf hi];rfl
   have:=ih (i+1) n (by omega) (by omega)
   show SG n (O3 pos n) pos (i:Int)=_
   unfold SG;rw [zn (by omega),zk,zi ⟨by omega,by omega⟩,zi (Aq.2 ⟨by omega,by omega⟩),zl,e2,List.any_cons];cases h:(pos.getD i 0==0)
   ·rw [zg,zBS];exact this
   ·rfl
 have:=key pos.length 0 n (by omega) (by omega);unfold SH je;exact this
theorem MT {pos:List Int} {n:Nat} (hl:pos.length<=LB) (hn:pos.length<n):GI n pos=some (BC pos):=by
 unfold GI YG;rw [Z2 hl hn];rfl
def posOk (q:AA) (pos:List Int):Bool:=((pos.length:Int)==q.cells)&&pos.all fun x=>decide (0<=x)&&decide (x<2 ^ q.symbols.toNat)
def Cc (q:AA) (pos:List Int):Int:=if Cb q then (if posOk q pos then 0 else 250) else 191
section
variable {q:AA} {i:Int} {pos:List Int} {n:Nat}
theorem XU (hF:CU q) (hn:Da q<=n) (hl:pos.length<=LB) (HQ:pos.length<n):JQ n q pos=some (Cc q pos):=by
 have hb:LB<=9223372036854775806:=by decide
 unfold JQ d7 Cc;rw [bH hF hn,zh];cases hv:Cb q with
 | false=>rfl
 | true=>
  obtain ⟨_,hs,_⟩:=C1 hv;obtain ⟨p1,p2,p3⟩:=T3 hs.1 hs.2
  show (bif ((pos.length:Int) != q.cells) then some 250 else Lx q pos n (.l1 0))=some (if posOk q pos=true then 0 else 250)
  unfold posOk
  by_cases Af:(pos.length:Int)=q.cells
  ·have h1:((pos.length:Int) != q.cells)=false:=by simpa using Af
   have h2:((pos.length:Int)==q.cells)=true:=by simpa using Af
   rw [h1,zg,h2,zAG]
   have key: ∀ (k i n:Nat),i+k=pos.length -> k+1<=n -> Lx q pos n (.l1 (i:Int))=some (if ((pos.drop i).all fun x=>decide (0<=x)&&decide (x<2 ^ q.symbols.toNat))=true then 0 else 250):=by
    intro k
    induction k with
    | zero=>
     intro i n e hn;obtain ⟨n,rfl⟩: ∃ k,n=k+1:=⟨n-1,by omega⟩
     show Qd n (Lx q pos n) q pos (i:Int)=_
     unfold Qd;rw [ze (by omega),zg,zAj (by omega)];rfl
    | succ k ih=>
     intro i n e hn;obtain ⟨n,rfl⟩: ∃ k,n=k+1:=⟨n-1,by omega⟩;have hi:i<pos.length:=by omega
     have e2:pos.drop i=pos.getD i 0::pos.drop (i+1):=by
      rw [zAD hi,u8,zf hi];rfl
     have:=ih (i+1) n (by omega) (by omega)
     show Qd n (Lx q pos n) q pos (i:Int)=_
     unfold Qd;rw [zn (by omega),zk,zi ⟨by omega,by omega⟩,zi p3,zi (Aq.2 ⟨by omega,by omega⟩),zl,e2,zBr,p1]
     by_cases c1:pos.getD i 0<0
     ·rw [zn c1,zk,ze (p:=0<=pos.getD i 0) (by omega)];rfl
     ·rw [ze c1,zg,zn (p:=0<=pos.getD i 0) (by omega),zAG]
      by_cases c2:pos.getD i 0>=2 ^ q.symbols.toNat
      ·rw [zn c2,zk,ze (p:=pos.getD i 0<2 ^ q.symbols.toNat) (by omega)];rfl
      ·rw [ze c2,zg,zn (p:=pos.getD i 0<2 ^ q.symbols.toNat) (by omega),zAG];exact this
   exact key pos.length 0 n (by omega) (by omega)
  ·have h1:((pos.length:Int) != q.cells)=true:=by simpa using Af
   have h2:((pos.length:Int)==q.cells)=false:=by simpa using Af
   rw [h1,zk,h2,zBC];rfl
def IQ (q:AA) (i:Int) (pos:List Int):Int:=if (HK q i).2=0 then Cc q pos else (HK q i).2
theorem yR (hF:CU q) (hn:Da q<=n) (hl:pos.length<=LB) (HQ:pos.length<n):O7 n q i pos=some (IQ q i pos):=by
 unfold O7 aC IQ;rw [Xz hF hn,zh,XU hF hn hl HQ,zh]
 by_cases h:(HK q i).2=0
 ·have:((HK q i).2 != 0)=false:=by simpa using h
  rw [this,zi h];rfl
 ·have:((HK q i).2 != 0)=true:=by simpa using h
  rw [this,zr h];rfl
structure Bg (q:AA) (i:Int) (pos:List Int):Prop where
 fit:CU q
 valid:Cb q=true
 i0:0<=i
 i1:i<(q.cons.length:Int)
 pos:posOk q pos=true
def con (q:AA) (i:Int):AB:=q.cons.getD i.toNat default
theorem Bg.of (hF:CU q) (h:IQ q i pos=0):Bg q i pos:=by
 unfold IQ HK Cc at h
 by_cases hv:Cb q=false
 ·rw [zi hv] at h;rw [zr (by decide)] at h;exact absurd h (by decide)
 ·rw [zr hv] at h;have hv:Cb q=true:=by simpa using hv
  by_cases hi:0<=i/\ i<(q.cons.length:Int)
  ·rw [zi hi,zi rfl,zi hv] at h
   by_cases hp:posOk q pos=true
   ·exact ⟨hF,hv,hi.1,hi.2,hp⟩
   ·rw [zr hp] at h;exact absurd h (by decide)
  ·rw [zr hi,zr (by decide)] at h;exact absurd h (by decide)
theorem Bg.check (C:Bg q i pos):IQ q i pos=0:=by
 have h1:HK q i=(FP ((q.cons.getD i.toNat default).kind),0):=by
  unfold HK;rw [zr (by rw [C.valid];exact fun h=>by cases h),zi ⟨C.i0,C.i1⟩]
 unfold IQ Cc;rw [h1,zi rfl,zi C.valid,zi C.pos]
theorem Bg.mem (C:Bg q i pos):con q i∈q.cons:=by
 have h:=C.i0;have h1:=C.i1;unfold con;rw [u8,zf (by omega)];exact zAL _
theorem Bg.fine (C:Bg q i pos):DF q (con q i)=true:=(C1 C.valid).2.2.2.2.2 _ C.mem
theorem Bg.kind (C:Bg q i pos):FC q.cells (con q i).kind (con q i).cells.length=true:=ft C.fine
theorem Bg.len (C:Bg q i pos):(pos.length:Int)=q.cells:=by
 have h:=C.pos;unfold posOk at h;rw [zm,zAQ] at h;exact h.1
theorem Bg.sm (C:Bg q i pos): ∀ j,j<pos.length -> Sm q.symbols.toNat (pos.getD j 0):=by
 intro j hj;have h:=C.pos;unfold posOk at h;rw [zm,zq] at h;have hm:pos.getD j 0∈pos:=by rw [u8,zf hj];exact zAL hj
 have:=h.2 _ hm;rw [zm,zv,zv] at this;exact this
theorem Bg.len256 (C:Bg q i pos):0<pos.length/\ pos.length<=256:=by
 have h:=(C1 C.valid).1;have:=C.len;omega
theorem Bg.cells (C:Bg q i pos):(∀ x∈(con q i).cells,0<=x/\ x<q.cells)/\ (con q i).cells.Nodup/\ (8<=(con q i).kind -> ∀ j,j<(con q i).cells.length -> (con q i).cells.getD j 0=(j:Int)):=by
 have h:=C.fine;unfold DF at h;simp only [zm] at h;exact aE.1 h.1.1.1.1.1
theorem Bg.work (C:Bg q i pos):Bz (con q i) q.symbols.toNat pos:=by
 obtain ⟨h1,h2,_⟩:=C.cells;have hl:=C.len;have h3:=(C1 C.valid).1;have h4:=(C1 C.valid).2.1;refine ⟨fun a ha=>?_,?_,C.sm,by omega⟩
 ·rw [hl];refine h1 _ ?_;rw [u8,zf ha];exact zAL ha
 ·have:=Nv pos.length _ h2 fun x hx=>by rw [hl];exact h1 x hx
  omega
theorem Bg.vals (C:Bg q i pos):Fb q q.symbols.toNat:=by
 obtain ⟨_,h2,⟨h3,h4⟩,_⟩:=C1 C.valid;rw [WK] at h4;refine ⟨by omega,fun s hs=>h4 _ ?_⟩;rw [u8,zf (by omega)];exact zAL _
theorem Bg.runs (C:Bg q i pos):Hc (con q i):=by
 have h:=C.fine;unfold DF at h;simp only [zm,zv] at h;have h2:=WK.1 h.2;refine ⟨by have:=h.1.2;omega,fun j hj=>(h2 _ ?_).2⟩;rw [u8,zf hj];exact zAL hj
theorem Bg.two (C:Bg q i pos) (hk:(con q i).kind=6∨(con q i).kind=7):(con q i).cells.length=2:=by
 have h:=C.kind;unfold FC at h;rcases hk with hk | hk <;> rw [hk] at h <;> simpa using h
theorem Bg.all (C:Bg q i pos) (hk:(con q i).kind=8∨(con q i).kind=9) (hd:BC pos=false):GT (con q i) q pos:=by
 have h:=C.kind;have hl:=C.len;have ED:=C.len256
 have h1:((con q i).cells.length:Int)=q.cells:=by
  unfold FC at h;rcases hk with hk | hk <;> rw [hk] at h <;> simpa using h
 obtain ⟨_,_,_,⟨h5,h6⟩,_⟩:=C1 C.valid;exact ⟨by omega,fun j hj=>C.cells.2.2 (by omega) j (by omega),⟨h6,C.fit.nbrs⟩,by omega,ED.1,ED.2,fun j hj=>⟨(C.sm j hj).in64 (zt C.work.k (by decide)),GR.1 hd j hj⟩⟩
end
def L7 (q:AA) (c:AB) (pos:List Int):Prop:=
 (c.kind=2 -> LF c pos=true)/\ (c.kind=3 -> KJ q c pos=true)/\ (c.kind=5 -> KW c=true)/\ (c.kind=9 -> Q2 c q pos)
def CW (q:AA) (c:AB) (pos:List Int) (a s:Nat):Prop:=
 (c.kind=1/\ O1 c pos a s)∨(c.kind=2/\ IM c pos a s=true)∨(c.kind=3/\ Hi q c pos a s=true)∨(c.kind=4/\ Ie q c pos a s=true)∨(c.kind=5/\ JH c pos a s)∨
 (c.kind=6/\ GF (L8 q c) c pos a s)∨(c.kind=7/\ GF (Kh c) c pos a s)∨(c.kind=8/\ IP c q pos a s)∨(c.kind=9/\ N6 c q pos a s)
def KP (q:AA) (c:AB) (pos:List Int) (r:Bool×List Int):Prop:=(r.1=true↔L7 q c pos)/\ (r.1=true -> Bo c pos (List.replicate pos.length 0) c.cells.length (CW q c pos) r.2)
def LC (q:AA) (c:AB) (pos:List Int) (j s:Nat):Prop:=∃ a,a<c.cells.length/\ (c.cells.getD a 0).toNat=j/\ CW q c pos a s
structure Hf (q:AA) (c:AB) (pos:List Int):Prop where
 nz: ∀ j,j<pos.length -> pos.getD j 0≠0
 ok:L7 q c pos
 left: ∀ j,j<pos.length -> ∃ s,s<64/\ tb (pos.getD j 0) s=true/\ ¬ LC q c pos j s
structure PR (q:AA) (c:AB) (pos x:List Int):Prop where
 len:x.length=pos.length
 live:Hf q c pos -> ∀ j,j<pos.length -> Bj (x.getD j 0)/\ ∀ s,tb (x.getD j 0) s=true↔tb (pos.getD j 0) s=true/\ ¬ LC q c pos j s
 dead: ¬ Hf q c pos -> x=List.replicate pos.length 0
theorem PR.uniq {q:AA} {c:AB} {pos:List Int} (x y:List Int) (h:PR q c pos x) (h':PR q c pos y):x=y:=by
 by_cases hA:Hf q c pos
 ·have e:x.length=y.length:=h.len.trans h'.len.symm;refine zBm e fun j h1 h2=>?_
  have hj:j<pos.length:=by rw [←h.len];exact h1
  have e1:x.getD j 0=x[j]:=by simp [h1]
  have e2:y.getD j 0=y[j]:=by simp [h2]
  rw [←e1,←e2];refine KH (h.live hA j hj).1 (h'.live hA j hj).1 fun s _=>?_
  rw [zAy,(h.live hA j hj).2,(h'.live hA j hj).2]
 ·rw [h.dead hA,h'.dead hA]
section
variable {q:AA} {i:Int} {pos:List Int}
theorem J8:(List.replicate pos.length (0:Int)).length=pos.length:=zx
theorem LU (j:Nat):(List.replicate pos.length (0:Int)).getD j 0=0:=by
 rw [u8,zAm];split <;> rfl
theorem WC: ∀ j,Bj ((List.replicate pos.length (0:Int)).getD j 0):=fun j=>by rw [LU];exact ⟨by decide,by decide⟩
theorem af:CA pos (List.replicate pos.length 0) (fun _ _=>False) (List.replicate pos.length 0):=⟨⟨J8,WC⟩,fun j s=>by simp⟩
theorem Bo.congr {c:AB} {lost l:List Int} {D D':Nat -> Nat -> Prop} {m:Nat} (h:Bo c pos lost m D l) (hD: ∀ a s,D' a s↔D a s):Bo c pos lost m D' l:=by
 refine ⟨h.1,fun j s=>?_⟩;rw [h.2];simp only [hD]
def G9 (n:Nat) (q:AA) (c:AB) (pos:List Int):Option (Bool×List Int):=
 bif c.kind==1 then O0 n c q pos pos.length (List.replicate pos.length 0) else bif c.kind==2 then O4 n c q pos pos.length (List.replicate pos.length 0) else
 bif c.kind==3 then NR n c q pos pos.length (List.replicate pos.length 0) else bif c.kind==4 then Kb n c q pos pos.length (List.replicate pos.length 0) else
 bif c.kind==5 then Nb n c q pos pos.length (List.replicate pos.length 0) else bif c.kind==6 then M9 n c q pos pos.length (List.replicate pos.length 0) else
 bif c.kind==7 then MA n c q pos pos.length (List.replicate pos.length 0) else bif c.kind==8 then Vp n c q pos pos.length (List.replicate pos.length 0) else
 bif c.kind==9 then US n c q pos pos.length (List.replicate pos.length 0) else none
theorem oD (C:Bg q i pos) (hd:BC pos=false):Ac (fun n=>G9 n q (con q i) pos) (KP q (con q i) pos):=by
 have W:=C.work;have hz:(List.replicate pos.length (0:Int)).length=pos.length:=J8
 have all: ∀ k:Int,(con q i).kind=k -> ∀ {f:Nat -> Option (Bool×List Int)} {N:Nat} {ok:Bool} {D:Nat -> Nat -> Prop},(∀ n,N<=n -> ∃ l,f n=some (ok,l)/\ (ok=true -> Bo (con q i) pos (List.replicate pos.length 0) (con q i).cells.length D l)) -> (ok=true↔L7 q (con q i) pos) -> (∀ a s,CW q (con q i) pos a s↔D a s) -> Ac f (KP q (con q i) pos):=by
  intro k _ f N ok D h B8 hD;refine ⟨N,fun n hn=>?_⟩;obtain ⟨l,h1,h2⟩:=h n hn;exact ⟨(ok,l),h1,B8,fun h3=>(h2 h3).congr hD⟩
 have kc:=N7 (Q7 C.kind);have HH: ∀ {k:Int},(con q i).kind=k -> k≠2 -> k≠3 -> k≠5 -> k≠9 -> L7 q (con q i) pos:=fun hk h2 h3 h5 h9=>⟨fun h=>absurd (hk.symm.trans h) h2,fun h=>absurd (hk.symm.trans h) h3,fun h=>absurd (hk.symm.trans h) h5,fun h=>absurd (hk.symm.trans h) h9⟩
 rcases kc with hk | hk | hk | hk | hk | hk | hk | hk | hk
 ·refine Ac.eq (all 1 hk (f:=fun n=>O0 n (con q i) q pos pos.length (List.replicate pos.length 0)) (N:=2*(con q i).cells.length+2) (ok:=true) (D:=O1 (con q i) pos) (fun n hn=>?_) ⟨fun _=>HH hk (by decide) (by decide) (by decide) (by decide),fun _=>rfl⟩ fun a s=>?_) fun n=>?_
  ·obtain ⟨l,h1,h2⟩:=xg (q:=q) W hz hn;exact ⟨l,h1,fun _=>h2⟩
  ·unfold CW;rw [hk];simp
  ·unfold G9;rw [hk];rfl
 ·refine Ac.eq (all 2 hk (f:=fun n=>O4 n (con q i) q pos pos.length (List.replicate pos.length 0)) (N:=2*(con q i).cells.length+3) (ok:=LF (con q i) pos) (D:=fun a s=>IM (con q i) pos a s=true) (fun n hn=>?_) ⟨fun h=>⟨fun _=>h,fun h=>absurd (hk.symm.trans h) (by decide),fun h=>absurd (hk.symm.trans h) (by decide),fun h=>absurd (hk.symm.trans h) (by decide)⟩,fun h=>h.1 hk⟩ fun a s=>?_) fun n=>?_
  ·exact xt (q:=q) W hz hn
  ·unfold CW;rw [hk];simp
  ·unfold G9;rw [hk];rfl
 ·refine Ac.eq (all 3 hk (f:=fun n=>NR n (con q i) q pos pos.length (List.replicate pos.length 0)) (N:=2*(con q i).cells.length+3) (ok:=KJ q (con q i) pos) (D:=fun a s=>Hi q (con q i) pos a s=true) (fun n hn=>?_) ⟨fun h=>⟨fun h=>absurd (hk.symm.trans h) (by decide),fun _=>h,fun h=>absurd (hk.symm.trans h) (by decide),fun h=>absurd (hk.symm.trans h) (by decide)⟩,fun h=>h.2.1 hk⟩ fun a s=>?_) fun n=>?_
  ·exact mA W C.vals hz hn
  ·unfold CW;rw [hk];simp
  ·unfold G9;rw [hk];rfl
 ·refine Ac.eq (all 4 hk (f:=fun n=>Kb n (con q i) q pos pos.length (List.replicate pos.length 0)) (N:=2*(con q i).cells.length+3) (ok:=true) (D:=fun a s=>Ie q (con q i) pos a s=true) (fun n hn=>?_) ⟨fun _=>HH hk (by decide) (by decide) (by decide) (by decide),fun _=>rfl⟩ fun a s=>?_) fun n=>?_
  ·obtain ⟨l,h1,h2⟩:=oP W C.vals hz hn;exact ⟨l,h1,fun _=>h2⟩
  ·unfold CW;rw [hk];simp
  ·unfold G9;rw [hk];rfl
 ·obtain ⟨l,⟨N,h1⟩,h2⟩:=nr (q:=q) W C.runs hz WC;refine Ac.eq (all 5 hk (N:=N) (ok:=KW (con q i)) (D:=JH (con q i) pos) (fun n hn=>⟨l,h1 n hn,h2⟩) ⟨fun h=>⟨fun h=>absurd (hk.symm.trans h) (by decide),fun h=>absurd (hk.symm.trans h) (by decide),fun _=>h,fun h=>absurd (hk.symm.trans h) (by decide)⟩,fun h=>h.2.2.1 hk⟩ fun a s=>?_) fun n=>?_
  ·unfold CW;rw [hk];simp
  ·unfold G9;rw [hk];rfl
 ·refine Ac.eq (all 6 hk (f:=fun n=>M9 n (con q i) q pos pos.length (List.replicate pos.length 0)) (N:=0) (ok:=true) (D:=GF (L8 q (con q i)) (con q i) pos) (fun n hn=>?_) ⟨fun _=>HH hk (by decide) (by decide) (by decide) (by decide),fun _=>rfl⟩ fun a s=>?_) fun n=>?_
  ·obtain ⟨l,h1,h2⟩:=zE (n:=n) W C.vals (C.two (.inl hk)) hz;exact ⟨l,h1,fun _=>h2⟩
  ·unfold CW;rw [hk];simp
  ·unfold G9;rw [hk];rfl
 ·refine Ac.eq (all 7 hk (f:=fun n=>MA n (con q i) q pos pos.length (List.replicate pos.length 0)) (N:=0) (ok:=true) (D:=GF (Kh (con q i)) (con q i) pos) (fun n hn=>?_) ⟨fun _=>HH hk (by decide) (by decide) (by decide) (by decide),fun _=>rfl⟩ fun a s=>?_) fun n=>?_
  ·obtain ⟨l,h1,h2⟩:=qa (n:=n) (q:=q) W (C.two (.inr hk)) hz;exact ⟨l,h1,fun _=>h2⟩
  ·unfold CW;rw [hk];simp
  ·unfold G9;rw [hk];rfl
 ·obtain ⟨l,⟨N,h1⟩,h2⟩:=yF (C.all (.inl hk) hd) af;refine Ac.eq (all 8 hk (N:=N) (ok:=true) (D:=IP (con q i) q pos) (fun n hn=>⟨l,h1 n hn,fun _=>h2.by (C.all (.inl hk) hd)⟩) ⟨fun _=>HH hk (by decide) (by decide) (by decide) (by decide),fun _=>rfl⟩ fun a s=>?_) fun n=>?_
  ·unfold CW;rw [hk];simp
  ·unfold G9;rw [hk];rfl
 ·refine Ac.eq ((rC (C.all (.inr hk) hd) af).mono fun r hr=>⟨?_,fun h=>((hr.2 h).by (C.all (.inr hk) hd)).congr fun a s=>?_⟩) fun n=>?_
  ·rw [hr.1];exact ⟨fun h=>⟨fun h=>absurd (hk.symm.trans h) (by decide),fun h=>absurd (hk.symm.trans h) (by decide),fun h=>absurd (hk.symm.trans h) (by decide),fun _=>h⟩,fun h=>h.2.2.2 hk⟩
  ·unfold CW;rw [hk];simp
  ·unfold G9;rw [hk];rfl
theorem ll {n:Nat} {o2:List Int} (hl:o2.length=pos.length) (ED:pos.length<=256) (hn:600<=n):
 ∃ x,x.length=pos.length/\ (∀ j,j<pos.length -> x.getD j 0=bits .andNot .i64 (pos.getD j 0) (o2.getD j 0))/\ Ht q i pos n (.l2 pos.length (pos.length:Int) 0 o2 pos)=some (if BC x then List.replicate pos.length 0 else x):=by
 have lb:(256:Nat)<=LB:=by decide
 obtain ⟨n1,x,F0,_,e,hx,Mb,Ut⟩:=Gg (fun n (o3:List Int) k=>Ht q i pos n (.l2 pos.length (pos.length:Int) k o2 o3)) pos.length 260
  (fun k o3=>o3.length=pos.length/\ (∀ j,j<k -> o3.getD j 0=bits .andNot .i64 (pos.getD j 0) (o2.getD j 0))/\ ∀ j,k<=j -> o3.getD j 0=pos.getD j 0) (fun n k o3 FD hk hI=>by
   obtain ⟨h1,h2,h3⟩:=hI
   show ∃ s',QX n (Ht q i pos n) q i pos pos.length (pos.length:Int) (k:Int) o2 o3=_/\ _
   unfold QX;simp only [zl,zAA];rw [zn (by omega),zk,zi ⟨⟨by omega,by omega⟩,by omega,⟨by omega,by omega⟩,by omega,Aq.2 ⟨by omega,by omega⟩⟩];refine ⟨_,rfl,by rw [zAK];exact h1,fun j hj=>?_,fun j hj=>?_⟩
   ·by_cases e:k=j
    ·subst e;rw [Ju (by omega),h3 k (by omega)]
    ·rw [getD_set_ne e];exact h2 j (by omega)
   ·rw [getD_set_ne (by omega)];exact h3 j (by omega)) (n:=n) (s:=pos) (by omega) ⟨rfl,fun j hj=>absurd hj (zy j),fun j _=>rfl⟩
 obtain ⟨n2,rfl⟩: ∃ n2,n1=n2+1:=⟨n1-1,by omega⟩;refine ⟨x,hx,Mb,Eq.trans e ?_⟩
 show QX n2 (Ht q i pos n2) q i pos pos.length (pos.length:Int) (pos.length:Int) o2 x=_
 unfold QX;rw [ze (by omega),zg,zi hx.symm,MT (by omega) (by omega),zh];cases BC x
 ·rfl
 ·rw [zk,zi J8.symm];rfl
def TB (n:Nat) (q:AA) (i:Int) (pos:List Int) (y2:Bool×List Int):Option (List Int):=
 bif (!y2.1) then (if pos.length=(List.replicate pos.length (0:Int)).length then some (List.replicate pos.length (0:Int)) else none) else Ht q i pos n (.l1 y2.2)
theorem lq (C:Bg q i pos) (hd:BC pos=false) {n:Nat} (hn:601<=n) {y2:Bool×List Int} (hy:KP q (con q i) pos y2): ∃ x,TB n q i pos y2=some x/\ PR q (con q i) pos x:=by
 have ED:=C.len256;have L:(1000000000000:Nat)=A6:=rfl;have nz:=GR.1 hd;obtain ⟨b,lost⟩:=y2;obtain ⟨B8,U7⟩:=hy;unfold TB;cases b with
 | false=>
  refine ⟨_,by rw [zAZ,zk,zi J8.symm],J8,fun hA=>?_,fun _=>rfl⟩;have:=B8.2 hA.ok;cases this
 | true=>
  have B8:=B8.1 rfl;have U7:Bo (con q i) pos (List.replicate pos.length 0) (con q i).cells.length (CW q (con q i) pos) lost:=U7 rfl;obtain ⟨n,rfl⟩: ∃ k,n=k+1:=⟨n-1,by omega⟩;obtain ⟨x,h1,h2,h3⟩:=ll (q:=q) (i:=i) (n:=n) U7.1 ED.2 (by omega)
  have hx: ∀ j,j<pos.length -> Bj (x.getD j 0)/\ ∀ s,tb (x.getD j 0) s=true↔tb (pos.getD j 0) s=true/\ ¬ LC q (con q i) pos j s:=fun j hj=>by
   rw [h2 j hj];refine ⟨F5 _ _ _,fun s=>?_⟩;rw [Lb,zm,zAb,←zB7,U7.2,LU];constructor
   ·rintro ⟨h4,h5⟩;refine ⟨h4,fun ⟨a,ha,e,hs⟩=>h5 (.inr ⟨a,ha,e,?_,hs⟩)⟩
    show tb (pos.getD ((con q i).cells.getD a 0).toNat 0) s=true
    rw [e];exact h4
   ·rintro ⟨h4,h5⟩;refine ⟨h4,fun h6=>h6.elim (fun h=>Fk h) fun ⟨a,ha,e,_,hs⟩=>h5 ⟨a,ha,e,hs⟩⟩
  have BL:Vt n pos=some pos:=by
   unfold Vt jp;rw [zi ⟨ED.1,trivial,⟨rfl,rfl⟩,by rw [←L];simp only [zA0];omega⟩,zi (by simp)];rfl
  have e:Ht q i pos (n+1) (.l1 lost)=some (if BC x then List.replicate pos.length 0 else x):=by
   show XP n (Ht q i pos n) q i pos lost=_
   unfold XP;rw [BL,zh];exact h3
  refine ⟨_,by rw [zAW,zg];exact e,?_,fun hA j hj=>?_,fun hA=>?_⟩
  ·split
   ·exact J8
   ·exact h1
  ·rw [zr]
   ·exact hx j hj
   ·rw [zB7,GR];intro j hj;rw [h1] at hj;obtain ⟨s,hs,h4,h5⟩:=hA.left j hj;exact (Eb (hx j hj).1).2 ⟨s,hs,((hx j hj).2 s).2 ⟨h4,h5⟩⟩
  ·rw [zi];refine Classical.byContradiction fun h=>hA ?_
   rw [zB7,GR] at h;refine ⟨nz,B8,fun j hj=>?_⟩;obtain ⟨s,hs,h4⟩:=(Eb (hx j hj).1).1 (h j (by omega));exact ⟨s,hs,((hx j hj).2 s).1 h4⟩
theorem pf (C:Bg q i pos): ∃ x,Ev (fun n=>Ik n q i pos) x/\ PR q (con q i) pos x:=by
 have ED:=C.len256;have lb:(256:Nat)<=LB:=by decide
 have hi:0<=i/\ i<(q.cons.length:Int):=⟨C.i0,C.i1⟩;cases hd:BC pos
 ·suffices H:Ac (fun n=>Ik n q i pos) (PR q (con q i) pos) by
   obtain ⟨x,h1,h2⟩:=H.ev PR.uniq;exact ⟨x,h2,h1⟩
  obtain ⟨N,hN⟩:=Ac.bindU (oD C hd) (b:=fun n y2=>TB n q i pos y2) (Q:=PR q (con q i) pos) ⟨601,fun n hn y2 hy=>lq C hd hn hy⟩;refine ⟨N+300,fun n hn=>?_⟩;obtain ⟨x,h1,h2⟩:=hN n (by omega);refine ⟨x,Eq.trans ?_ h1,h2⟩
  show Ik n q i pos=(G9 n q (con q i) pos).bind fun y2=>TB n q i pos y2
  unfold Ik XQ;rw [zi ⟨rfl,by omega,by omega⟩,MT (by omega) (by omega),hd,zh,zg,zi hi];have hc:q.cons.getD i.toNat default=con q i:=rfl;rw [hc];have kc:=N7 (Q7 C.kind);unfold G9;rcases kc with hk | hk | hk | hk | hk | hk | hk | hk | hk <;> rw [hk] <;> rfl
 ·refine ⟨List.replicate pos.length 0,⟨300,fun n hn=>?_⟩,J8,fun hA=>?_,fun _=>rfl⟩
  ·show Ik n q i pos=_
   unfold Ik XQ;rw [zi ⟨rfl,by omega,by omega⟩,MT (by omega) (by omega),hd,zh,zk,zi J8.symm]
  ·have:=GR.2 hA.nz;rw [hd] at this;cases this
def zY (q:AA) (i:Int) (pos:List Int) (r:List Int×Int):Prop:=r.2=IQ q i pos/\ (r.2=0 -> PR q (con q i) pos r.1)/\ (r.2≠0 -> r.1= [])
theorem pj (hF:CU q) (hl:pos.length<=LB): ∃ r,Ev (fun n=>Hu n q i pos) r/\ zY q i pos r:=by
 have hE:Ev (fun n=>O7 n q i pos) (IQ q i pos):=⟨Da q+pos.length+1,fun n hn=>yR hF (by omega) hl (by omega)⟩
 by_cases h0:IQ q i pos=0
 ·obtain ⟨x,h1,h2⟩:=pf (Bg.of hF h0);refine ⟨(x,0),?_,h0.symm,fun _=>h2,fun h=>absurd rfl h⟩;refine Ev.eq (Ev.bind hE (b:=fun n y1=>bif (y1 != 0) then some (([]:List Int),y1) else (Ik n q i pos).bind fun y2=>some (y2,0)) ?_) fun n=>rfl
  rw [h0];exact Ev.bind h1 (b:=fun _ y2=>some (y2,0)) (Ev.now fun n=>rfl)
 ·refine ⟨([],IQ q i pos),?_,rfl,fun h=>absurd h h0,fun _=>rfl⟩;refine Ev.eq (Ev.bind hE (b:=fun n y1=>bif (y1 != 0) then some (([]:List Int),y1) else (Ik n q i pos).bind fun y2=>some (y2,0)) (Ev.now fun n=>?_)) fun n=>rfl
  have:(IQ q i pos != 0)=true:=by simpa using h0
  rw [this];rfl
end
end Go.Proofs.YtgkhhfnhacibcaaGreatDoor
namespace Go.Proofs.YtgkhhfnhacibcaaGreatDoor
abbrev zCY:=@forall_eq_or_imp
end Go.Proofs.YtgkhhfnhacibcaaGreatDoor
namespace Go.Proofs.YtgkhhfnhacibcaaGreatDoor
open Go.RowKit
structure OA (q:AA) (c:AB) (p:List Int):Prop where
 nz: ∀ k,k<c.cells.length -> AV c p k≠0
 ok:L7 q c p
 left: ∀ k,k<c.cells.length -> ∃ s,tb (AV c p k) s=true/\ ¬ CW q c p k s
theorem SO {α:Type} {f g:α -> Bool}: ∀ (l:List α),(∀ x∈l,f x=true -> g x=true) -> l.countP f<=l.countP g
 | [],_=>zAF _
 | x::l,h=>by
  have h1:=SO l fun y hy=>h y (zAY _ hy)
  have h2:=h x zAr;rw [zBX,zBX];cases hf:f x
  ·simp only [zAa,zBY];omega
  ·rw [h2 hf];simp only [zAn];omega
theorem SN {α:Type} {f g:α -> Bool} {a:α} (hf:f a=false) (hg:g a=true): ∀ (l:List α),(∀ x∈l,f x=true -> g x=true) -> a∈l -> l.countP f+1<=l.countP g
 | [],_,h=>by cases h
 | x::l,h,ha=>by
  rw [zBX,zBX];rcases z8.1 ha with rfl | ha
  ·have h1:=SO l fun y hy=>h y (zAY _ hy)
   rw [hf,hg,zi rfl];simp only [zAa,zBY];omega
  ·have h1:=SN hf hg l (fun y hy=>h y (zAY _ hy)) ha;have h2:=h x zAr;cases hx:f x
   ·simp only [zAa,zBY];omega
   ·rw [h2 hx];simp only [zAn];omega
theorem jm {f g:Nat -> Bool} {m:Nat} (h: ∀ a,a<m -> f a=true -> g a=true):cnt f m<=cnt g m:=by
 unfold cnt;have:=SO (f:=f) (g:=g) (List.range m) fun x hx=>h x (zw.1 hx)
 omega
theorem jl {f g:Nat -> Bool} {m a:Nat} (h: ∀ a,a<m -> f a=true -> g a=true) (ha:a<m) (hf:f a=false) (hg:g a=true):cnt f m+1<=cnt g m:=by
 unfold cnt;have:=SN hf hg (List.range m) (fun x hx=>h x (zw.1 hx)) (zw.2 ha);omega
theorem cX {k:Nat} {x:Int} (hx:Sm k x) (hk:k<=16) (h:Li x=true) {s t:Nat} (hs:tb x s=true) (ht:tb x t=true):s=t:=by
 have ik:=Lv (k:=k) (zt hk (by decide));obtain ⟨m,rfl⟩:=zBl hx.1;have AK:m<18446744073709551616:=by have:=hx.2;omega
 have lo: ∀ {u:Nat},tb (m:Int) u=true -> u<64:=fun {u} hu=>zAh fun h=>by rw [G3 h] at hu;cases hu
 have h0:m≠0:=by
  rintro rfl;exact Fk hs
 have e:m&&& (m-1)=0:=by
  unfold Li at h;rw [zAQ] at h;apply Nat.eq_of_testBit_eq;intro u;rw [Nat.zero_testBit,Nat.testBit_and];rcases zA2 u 64 with hu | hu
  ·have h2:=(NN (F5 .and _ _)).1 h u hu;have e1:(m:Int)-1=((m-1:Nat):Int):=by omega
   rw [Hg,e1,La _ _ hu,La _ _ hu] at h2;exact h2
  ·rw [zCQ (zu AK (zBy (n:=2) (by decide) hu)),zBC]
 have S:=cH m AK h0;rw [e,cG] at S
 have mem: ∀ {u:Nat},tb (m:Int) u=true -> u∈EJ m:=fun {u} hu=>by
  unfold EJ;rw [zBV,zw];exact ⟨lo hu,by rw [←La m u (lo hu)];exact hu⟩
 have h1:=mem hs;have h2:=mem ht;rw [S,zAB] at h1 h2;rw [h1,h2]
section
variable {q:AA} {i:Int} {p p':List Int}
theorem YP {c:AB} {x:Int} (h:bits .andNot .i64 x c.set=0) {s:Nat} (hs:tb x s=true):tb c.set s=true:=by
 have F4:s<64:=zAh fun h=>by rw [G3 h] at hs;cases hs
 have:=(NN (F5 .andNot _ _)).1 h s F4;rw [Lb,hs,zAG,Bool.not_eq_false'] at this;exact this
theorem aW {c:AB} {x x':Int} (h: ∀ s,tb x' s=true -> tb x s=true) (hx:bits .andNot .i64 x c.set=0):bits .andNot .i64 x' c.set=0:=
 (NN (F5 .andNot _ _)).2 fun s hs=>by
  rw [Lb];cases h1:tb x' s with
  | false=>rfl
  | true=>rw [YP hx (h s h1)];rfl
theorem aV {c:AB} {x x':Int} (h: ∀ s,tb x' s=true -> tb x s=true) (hx:bits .and .i64 x' c.set≠0):bits .and .i64 x c.set≠0:=by
 obtain ⟨s,hs,h1⟩:=(Eb (F5 .and _ _)).1 hx;rw [Hg,zm] at h1;exact (Eb (F5 .and _ _)).2 ⟨s,hs,by rw [Hg,h s h1.1,h1.2];rfl⟩
theorem kP {c:AB} {x:Int} {s:Nat} (h1:tb x s=true) (h2:tb c.set s=true):bits .and .i64 x c.set≠0:=by
 have F4:s<64:=zAh fun h=>by rw [G3 h] at h1;cases h1
 exact (Eb (F5 .and _ _)).2 ⟨s,F4,by rw [Hg,h1,h2];rfl⟩
theorem zI {c:AB} {x:Int} {s:Nat} (h1:tb x s=true) (h2:tb c.set s=false):bits .andNot .i64 x c.set≠0:=by
 have F4:s<64:=zAh fun h=>by rw [G3 h] at h1;cases h1
 exact (Eb (F5 .andNot _ _)).2 ⟨s,F4,by rw [Lb,h1,h2];rfl⟩
def Fc (c:AB) (p' p:List Int):Prop:=∀ k,k<c.cells.length -> ∀ s,tb (AV c p' k) s=true -> tb (AV c p k) s=true
theorem xj {c:AB} {k:Nat} (W:Bz c k p) (hS:Fc c p' p) (B3: ∀ a,a<c.cells.length -> Bj (AV c p' a)) (OQ: ∀ a,a<c.cells.length -> AV c p' a≠0) {a s:Nat} (h:O1 c p a s):O1 c p' a s:=by
 obtain ⟨b,hb,AQ,h1,h2⟩:=h;have hx:=W.at hb
 have e:AV c p' b=AV c p b:=by
  refine KH (B3 b hb) (hx.in64 (by have:=W.k;omega)) fun t _=>?_
  obtain ⟨u,_,hu⟩:=(Eb (B3 b hb)).1 (OQ b hb);have tK:u=s:=cX hx W.k h1 (hS b hb u hu) h2;subst tK;cases ht:tb (AV c p b) t with
  | true=>
   have:t=u:=cX hx W.k h1 ht h2;subst this;exact hu
  | false=>
   cases Uv:tb (AV c p' b) t with
   | false=>rfl
   | true=>rw [hS b hb t Uv] at ht;cases ht
 refine ⟨b,hb,AQ,?_,?_⟩
 ·rw [e];exact h1
 ·rw [e];exact h2
theorem fJ {c:AB} (hS:Fc c p' p) {a:Nat} (ha:a<c.cells.length) (h:D6 c p a=true):D6 c p' a=true:=by
 unfold D6 at h ⊢;rw [zAQ] at h ⊢;exact aW (hS a ha) h
theorem fS {c:AB} (hS:Fc c p' p) (B3: ∀ a,a<c.cells.length -> Bj (AV c p' a)) (OQ: ∀ a,a<c.cells.length -> AV c p' a≠0) {a:Nat} (ha:a<c.cells.length) (h:Ez c p' a=true):Ez c p a=true:=by
 unfold Ez at h ⊢;rw [zAE,zBH] at h ⊢;right;rcases h with h | h
 ·unfold D6 at h;rw [zAQ] at h;obtain ⟨u,_,hu⟩:=(Eb (B3 a ha)).1 (OQ a ha);exact kP (hS a ha u hu) (YP h hu)
 ·exact aV (hS a ha) h
theorem xu {c:AB} (hS:Fc c p' p) (B3: ∀ a,a<c.cells.length -> Bj (AV c p' a)) (OQ: ∀ a,a<c.cells.length -> AV c p' a≠0) (B8:LF c p'=true):
 LF c p=true/\ ∀ a s,a<c.cells.length -> tb (AV c p' a) s=true -> IM c p a s=true -> IM c p' a s=true:=by
 have m1:=jm (f:=D6 c p) (g:=D6 c p') (m:=c.cells.length) fun a ha=>fJ hS ha
 have m2:=jm (f:=Ez c p') (g:=Ez c p) (m:=c.cells.length) fun a ha=>fS hS B3 OQ ha
 unfold LF at B8 ⊢;rw [zm,zAb,zAb,zBU,zBU] at B8 ⊢;refine ⟨⟨by omega,by omega⟩,fun a s ha hs h=>?_⟩;unfold IM at h ⊢;rw [zAE,zm,zm,zm,zm,zAQ,zAQ,zBH,zBH,zAb] at h ⊢;rcases h with ⟨⟨h1,h2⟩,h3⟩ | ⟨⟨h1,h2⟩,h3⟩
 ·refine .inl ⟨⟨by omega,fun h4=>?_⟩,h3⟩;have:=jl (f:=D6 c p) (g:=D6 c p') (m:=c.cells.length) (a:=a) (fun a ha=>fJ hS ha) ha (by unfold D6;exact zAk.2 h2) (by unfold D6;exact zAQ.2 h4);omega
 ·refine .inr ⟨⟨by omega,fun h4=>?_⟩,h3⟩
  have:=jl (f:=Ez c p') (g:=Ez c p) (m:=c.cells.length) (a:=a) (fun a ha=>fS hS B3 OQ ha) ha
   (by
    unfold Ez D6;rw [Bool.or_eq_false_iff,zAk,bne_eq_false_iff_eq];exact ⟨zI hs h3,h4⟩) (by unfold Ez;rw [zAE,zBH];exact .inr h2)
  omega
theorem WX {f g:Nat -> Int}: ∀ {m:Nat},(∀ a,a<m -> f a<=g a) -> Ea f m<=Ea g m/\ ∀ a,a<m -> Ea f m-f a<=Ea g m-g a
 | 0,_=>⟨zAo _,fun a ha=>absurd ha (zy a)⟩
 | m+1,h=>by
  obtain ⟨h1,h2⟩:=WX (m:=m) fun a ha=>h a (by omega)
  have hm:=h m (by omega);have e: ∀ f:Nat -> Int,Ea f (m+1)=Ea f m+f m:=fun f=>rfl
  rw [e,e];refine ⟨by omega,fun a ha=>?_⟩;rcases zz.1 ha with ha | rfl
  ·have:=h2 a ha;omega
  ·omega
theorem Xw {n:Int}: ∀ (l:List Int) (a:Int),n<=l.foldl (Ja q) a↔n<=a/\ ∀ e∈l,n<=q.values.getD e.toNat 0
 | [],a=>by simp
 | e::l,a=>by
  rw [zBG,Xw l];unfold Ja;simp only [z8,zCY];split <;> constructor <;> rintro ⟨h1,h2⟩
  ·exact ⟨by omega,h1,h2⟩
  ·exact ⟨h2.1,h2.2⟩
  ·exact ⟨h1,by omega,h2⟩
  ·exact ⟨h1,h2.2⟩
theorem ZK {n:Int}: ∀ (l:List Int) (a:Int),l.foldl (Jq q) a<=n↔a<=n/\ ∀ e∈l,q.values.getD e.toNat 0<=n
 | [],a=>by simp
 | e::l,a=>by
  rw [zBG,ZK l];unfold Jq;simp only [z8,zCY];split <;> constructor <;> rintro ⟨h1,h2⟩
  ·exact ⟨by omega,h1,h2⟩
  ·exact ⟨h2.1,h2.2⟩
  ·exact ⟨h1,by omega,h2⟩
  ·exact ⟨h1,h2.2⟩
theorem Wf {k:Nat} (hk:k<=16) {x x':Int} (hx:Sm k x) (Ye:Sm k x') (h: ∀ s,tb x' s=true -> tb x s=true): ∀ e∈BS x',e∈BS x:=fun e he=>by
 obtain ⟨s,rfl,h1,h2⟩:=(Ft Ye (zt hk (by decide))).1 he;exact (Ft hx (zt hk (by decide))).2 ⟨s,rfl,h1,h s h2⟩
theorem mB {c:AB} {k:Nat} (W:Bz c k p) (W':Bz c k p') (hS:Fc c p' p) (B8:KJ q c p'=true):
 KJ q c p=true/\ ∀ a s,a<c.cells.length -> Hi q c p a s=true -> Hi q c p' a s=true:=by
 have sub: ∀ a,a<c.cells.length -> ∀ e∈BS (AV c p' a),e∈BS (AV c p a):=fun a ha=>Wf W.k (W.at ha) (W'.at ha) (hS a ha)
 have l1: ∀ a,a<c.cells.length -> EO q (AV c p a)<=EO q (AV c p' a):=fun a ha=>by
  have h:=(Xw (q:=q) (BS (AV c p a)) 100).1 (zAo _);exact (Xw (BS (AV c p' a)) 100).2 ⟨h.1,fun e he=>h.2 e (sub a ha e he)⟩
 have l2: ∀ a,a<c.cells.length -> ER q (AV c p' a)<=ER q (AV c p a):=fun a ha=>by
  have h:=(ZK (q:=q) (BS (AV c p a)) (-1)).1 (zAo _);exact (ZK (BS (AV c p' a)) (-1)).2 ⟨h.1,fun e he=>h.2 e (sub a ha e he)⟩
 have t1:=WX (f:=fun a=>EO q (AV c p a)) (g:=fun a=>EO q (AV c p' a)) (m:=c.cells.length) l1;have t2:=WX (f:=fun a=>ER q (AV c p' a)) (g:=fun a=>ER q (AV c p a)) (m:=c.cells.length) l2;have e1: ∀ p,JY q c p=Ea (fun a=>EO q (AV c p a)) c.cells.length:=fun _=>rfl
 have e2: ∀ p,Jp q c p=Ea (fun a=>ER q (AV c p a)) c.cells.length:=fun _=>rfl
 unfold KJ at B8 ⊢;rw [zm,zAb,zAb,zBU,zBU,e1,e2] at B8 ⊢;refine ⟨⟨by omega,by omega⟩,fun a s ha h=>?_⟩;unfold Hi at h ⊢;rw [zAE,zv,zv,e1,e2] at h ⊢;have h1:=t1.2 a ha;have h2:=t2.2 a ha;rcases h with h | h
 ·exact .inl (by omega)
 ·exact .inr (by omega)
theorem WT {n b:Int}: ∀ (l:List Int) (a:Int),n<=l.foldl (NL q b) a↔n<=a/\ ∀ e∈l,q.values.getD e.toNat 0>b -> n<=q.values.getD e.toNat 0
 | [],a=>by simp
 | e::l,a=>by
  rw [zBG,WT l];unfold NL;simp only [z8,zCY];split
  ·split <;> constructor <;> rintro ⟨h1,h2⟩
   ·exact ⟨by omega,fun _=>h1,h2⟩
   ·exact ⟨h2.1 (by assumption),h2.2⟩
   ·exact ⟨h1,fun _=>by omega,h2⟩
   ·exact ⟨h1,h2.2⟩
  ·constructor <;> rintro ⟨h1,h2⟩
   ·exact ⟨h1,fun h=>absurd h (by assumption),h2⟩
   ·exact ⟨h1,h2.2⟩
theorem Zz {n b:Int}: ∀ (l:List Int) (a:Int),l.foldl (M2 q b) a<=n↔a<=n/\ ∀ e∈l,q.values.getD e.toNat 0<b -> q.values.getD e.toNat 0<=n
 | [],a=>by simp
 | e::l,a=>by
  rw [zBG,Zz l];unfold M2;simp only [z8,zCY];split
  ·split <;> constructor <;> rintro ⟨h1,h2⟩
   ·exact ⟨by omega,fun _=>h1,h2⟩
   ·exact ⟨h2.1 (by assumption),h2.2⟩
   ·exact ⟨h1,fun _=>by omega,h2⟩
   ·exact ⟨h1,h2.2⟩
  ·constructor <;> rintro ⟨h1,h2⟩
   ·exact ⟨h1,fun h=>absurd h (by assumption),h2⟩
   ·exact ⟨h1,h2.2⟩
theorem j7 {c:AB} {k:Nat} (W:Bz c k p) (W':Bz c k p') (hS:Fc c p' p): ∀ a,a<=c.cells.length -> J2 q c p a<=J2 q c p' a
 | 0,_=>zAo _
 | a+1,ha=>by
  have ih:=j7 W W' hS a (by omega);have h:=(WT (q:=q) (b:=J2 q c p a) (BS (AV c p a)) 100).1 (zAo _);exact (WT (BS (AV c p' a)) 100).2 ⟨h.1,fun e he hg=>h.2 e (Wf W.k (W.at (by omega)) (W'.at (by omega)) (hS a (by omega)) e he) (by omega)⟩
theorem kV {c:AB} {k:Nat} (W:Bz c k p) (W':Bz c k p') (hS:Fc c p' p): ∀ m,m<=c.cells.length -> PE q c p' m<=PE q c p m
 | 0,_=>zAo _
 | m+1,hm=>by
  have ih:=kV W W' hS m (by omega);have h:=(Zz (q:=q) (b:=PE q c p m) (BS (AV c p (c.cells.length-1-m))) (-1)).1 (zAo _);exact (Zz (BS (AV c p' (c.cells.length-1-m))) (-1)).2 ⟨h.1,fun e he hg=>h.2 e (Wf W.k (W.at (by omega)) (W'.at (by omega)) (hS _ (by omega)) e he) (by omega)⟩
theorem oQ {c:AB} {k:Nat} (W:Bz c k p) (W':Bz c k p') (hS:Fc c p' p) {a s:Nat} (ha:a<c.cells.length) (h:Ie q c p a s=true):Ie q c p' a s=true:=by
 have h1:=j7 (q:=q) W W' hS a (by omega);have h2:=kV (q:=q) W W' hS (c.cells.length-(a+1)) (by omega);unfold Ie IU at h ⊢;rw [zAE,zv,zv] at h ⊢;rcases h with h | h
 ·exact .inl (by omega)
 ·exact .inr (by omega)
theorem X7 {c:AB} (hS:Fc c p' p) {a:Nat} (ha:a<c.cells.length) {inn:Bool} (h:kd c p' a inn=true):kd c p a inn=true:=by
 unfold kd at h ⊢;cases inn
 ·rw [zg,zBH] at h ⊢;exact fun h2=>h (aW (hS a ha) h2)
 ·rw [zk,zBH] at h ⊢;exact aV (hS a ha) h
theorem XH {c:AB} (hS:Fc c p' p): ∀ (a:Nat),a<=c.cells.length -> ∀ t,E3 c p' a t -> E3 c p a t
 | 0,_,t,h=>h
 | a+1,ha,t,⟨s,inn,h1,h2,h3⟩=>⟨s,inn,XH hS a (by omega) s h1,h2,X7 hS (by omega) h3⟩
theorem fe {c:AB} (hS:Fc c p' p): ∀ (m:Nat),m<=c.cells.length -> ∀ t,IW c p' m t -> IW c p m t
 | 0,_,t,h=>h
 | m+1,hm,t,⟨h1,u,inn,h2,h3,h4⟩=>⟨XH hS _ (by omega) t h1,u,inn,h2,X7 hS (by omega) h3,fe hS m (by omega) u h4⟩
theorem jx {c:AB} (hS:Fc c p' p) {a:Nat} (ha:a<c.cells.length) {inn:Bool} (h:J0 c p' a inn):J0 c p a inn:=by
 obtain ⟨s,t,h1,h2,h3,h4⟩:=h;exact ⟨s,t,XH hS a (by omega) s h1,h2,X7 hS ha h3,fe hS _ (by omega) t h4⟩
theorem nq {c:AB} (hS:Fc c p' p) {a s:Nat} (ha:a<c.cells.length) (h:JH c p a s):JH c p' a s:=
 h.elim (fun h=>.inl ⟨fun h2=>h.1 (jx hS ha h2),h.2⟩) fun h=>.inr ⟨fun h2=>h.1 (jx hS ha h2),h.2⟩
theorem eF {ok:Nat -> Nat -> Bool} {c:AB} (hS:Fc c p' p) (h2:c.cells.length=2) {a s:Nat} (h:GF ok c p a s):GF ok c p' a s:=by
 unfold GF at h ⊢;split
 ·rename_i h0;rw [zi h0] at h;exact fun ⟨t,h3,h4⟩=>h ⟨t,hS 1 (by omega) t h3,h4⟩
 ·rename_i h0;rw [zr h0] at h;exact fun ⟨t,h3,h4⟩=>h ⟨t,hS 0 (by omega) t h3,h4⟩
structure LP (c:AB) (q:AA) (p p':List Int):Prop where
 W:GT c q p
 W':GT c q p'
 len:p.length=p'.length
 sub: ∀ j,j<p.length -> ∀ s,tb (p'.getD j 0) s=true -> tb (p.getD j 0) s=true
section
variable {c:AB}
theorem LP.pB (H:LP c q p p'): ∀ v:Int,(pB c p').getD v.toNat false=true -> (pB c p).getD v.toNat false=true:=fun v h=>by
 have hl:=H.len
 by_cases hv:v.toNat<p.length
 ·rw [Qg (by omega),zBH] at h;rw [Qg hv,zBH];exact aV (H.sub _ hv) h
 ·rw [u8,zAM (by rw [Et];omega)] at h;cases h
theorem LP.cB (H:LP c q p p'): ∀ v:Int,(cB c p).getD v.toNat false=true -> (cB c p').getD v.toNat false=true:=fun v h=>by
 have hl:=H.len
 by_cases hv:v.toNat<p.length
 ·rw [SV hv,zAQ] at h;rw [SV (by omega),zAQ];exact aW (H.sub _ hv) h
 ·rw [u8,zAM (by rw [EY];omega)] at h;cases h
theorem eT {x:List Int} {j s:Nat} (hj:j<x.length) (h1:tb (x.getD j 0) s=true) (h2:tb c.set s=true):(pB c x).getD j false=true:=by
 rw [Qg hj,zBH];exact kP h1 h2
theorem cZ {x:List Int} {j s:Nat} (hj:j<x.length) (h:(cB c x).getD j false=true) (h1:tb (x.getD j 0) s=true):tb c.set s=true:=by
 rw [SV hj,zAQ] at h;exact YP h h1
theorem keep (W:GT c q p') (Mk: ∀ v,v<p'.length -> ∃ s,tb (p'.getD v 0) s=true/\ ¬ FG c q p' v s) {r:Int} (h0:0<=r) (hF:Fd (cB c p') r) {v:Int} (HN:0<=v) (Be:v<(p'.length:Int)) (hc:(cB c p').getD v.toNat false=true):Rc q.nbrs (pB c p') r v:=by
 refine Classical.byContradiction fun h=>?_
 obtain ⟨s,h1,h2⟩:=Mk v.toNat (by omega);have e:((v.toNat:Nat):Int)=v:=by omega
 exact h2 ⟨W.cp (by omega) hc,cZ (by omega) hc h1,r,h0,hF,by rw [e];exact h⟩
theorem Fd.ex (W:GT c q p') {v:Int} (HN:0<=v) (Be:v<(p'.length:Int)) (hc:(cB c p').getD v.toNat false=true): ∃ r:Int,0<=r/\ r<(p'.length:Int)/\ Fd (cB c p') r/\ (cB c p').getD r.toNat false=true:=by
 obtain ⟨r,_,hF⟩:=Uq (l:=cB c p') (by rw [EY];exact W.l1);rcases hF with ⟨h1,h2⟩ | ⟨h1,h2,h3,h4⟩
 ·rw [h2 v.toNat (by rw [EY];omega)] at hc;cases hc
 ·rw [EY] at h2;exact ⟨r,h1,h2,.inr ⟨h1,by rw [EY];exact h2,h3,h4⟩,h3⟩
theorem Fd.at {r:Int} (h0:0<=r) (h:Fd (cB c p) r):r<(p.length:Int)/\ (cB c p).getD r.toNat false=true:=by
 rcases h with ⟨h1,_⟩ | ⟨_,h1,h2,_⟩
 ·omega
 ·rw [EY] at h1;exact ⟨h1,h2⟩
theorem jE (H:LP c q p p') (Mk: ∀ v,v<p'.length -> ∃ s,tb (p'.getD v 0) s=true/\ ¬ FG c q p' v s) {a s:Nat} (ha:a<p.length) (hs:tb (p'.getD a 0) s=true) (h:FG c q p a s):FG c q p' a s:=by
 obtain ⟨h1,h2,r,Dd,hF,h3⟩:=h;have hl:=H.len;have gl:=H.W'.gl;obtain ⟨Jh,tp⟩:=hF.at Dd;have gW:=H.cB r tp;obtain ⟨r',h4,h5,Mw,h6⟩:=Fd.ex H.W' Dd (by omega) gW;refine ⟨eT (by omega) hs h2,h2,r',h4,Mw,fun h7=>h3 ?_⟩;have h8:=keep H.W' Mk h4 Mw Dd (by omega) gW;have h9:=h8.symm H.W'.g.gr h4 (by omega) (H.W'.cp (by omega) h6);exact (h9.trans h7).mono H.pB
theorem yy {g:List (List Int)} {inn:List Bool} {u a v:Int} (vK: ¬ Rc g inn u a) (ha:0<=a) (G:Gr g) (Yi:0<=u) (Gh:u<(g.length:Int)) (h:Rc g inn u v):Rc g (inn.set a.toNat false) u v:=by
 induction h with
 | start=>exact .start
 | @step x y h hb hi ih=>
  refine .step ih hb ?_;have hr:=(Rc.step h hb hi).rng G Yi Gh
  have AQ:a.toNat≠y.toNat:=fun e=>vK (by
   have e2:a=y:=by omega
   rw [e2];exact Rc.step h hb hi)
  rw [u8,zAu AQ,←u8];exact hi
theorem yE (H:LP c q p p') (Mk: ∀ v,v<p'.length -> ∃ s,tb (p'.getD v 0) s=true/\ ¬ IP c q p' v s) {a s:Nat} (ha:a<p.length) (hs:tb (p'.getD a 0) s=true) (h:IP c q p a s):IP c q p' a s:=by
 have hl:=H.len;have gl:=H.W'.gl;have gl1:=H.W.gl
 have RV: ∀ v,v<p'.length -> ∃ s,tb (p'.getD v 0) s=true/\ ¬ FG c q p' v s:=fun v hv=>by
  obtain ⟨t,h1,h2⟩:=Mk v hv;exact ⟨t,h1,fun h=>h2 (.inl h)⟩
 rcases h with h | ⟨h1,h2,⟨u,v,tM,tH,hu,hv,h3,h4,h5⟩,h6⟩
 ·exact .inl (jE H RV ha hs h)
 ·have Iu:=h3.rng H.W.g.gr (by omega) (by omega);have Fx:=h4.rng H.W.g.gr (by omega) (by omega);have BT:=H.cB u hu;have Cn:=H.cB v hv;have pu:=H.W'.cp (j:=u.toNat) (by omega) BT;obtain ⟨r',h7,h8,Mw,h9⟩:=Fd.ex H.W' Iu.1 (by omega) BT;have ku:=keep H.W' RV h7 Mw Iu.1 (by omega) BT;have kv:=keep H.W' RV h7 Mw Fx.1 (by omega) Cn;have uv:Rc q.nbrs (pB c p') u v:=(ku.symm H.W'.g.gr h7 (by omega) (H.W'.cp (by omega) h9)).trans kv
  have fK: ∀ w:Int,((pB c p').set (a:Int).toNat false).getD w.toNat false=true -> ((pB c p).set (a:Int).toNat false).getD w.toNat false=true:=fun w hw=>by
   have la:(pB c p').length=p'.length:=Et;have lb:(pB c p).length=p.length:=Et;rw [V2 (by omega)] at hw ⊢;split
   ·rename_i e;rw [zi e] at hw;exact hw
   ·rename_i e;rw [zr e] at hw;exact H.pB w hw
  have ua:Rc q.nbrs (pB c p') u a:=Classical.byContradiction fun Mx=>h5 ((yy Mx (by omega) H.W'.g.gr Iu.1 (by omega) uv).mono fK)
  have au:=ua.symm H.W'.g.gr Iu.1 (by omega) pu;refine .inr ⟨?_,?_,⟨u,v,tM,tH,BT,Cn,au,au.trans uv,fun Mx=>h5 (Mx.mono fK)⟩,h6⟩
  ·have:=ua.isIn pu
   rwa [zl] at this
  ·cases hc:(cB c p').getD a false with
   | false=>rfl
   | true=>rw [cZ (by omega) hc hs] at h6;cases h6
theorem rA (H:LP c q p p') (B8:Q2 c q p') (Mk: ∀ v,v<p'.length -> ∃ s,tb (p'.getD v 0) s=true/\ ¬ N6 c q p' v s):Q2 c q p/\ ∀ a s,a<p.length -> tb (p'.getD a 0) s=true -> N6 c q p a s -> N6 c q p' a s:=by
 have hl:=H.len
 have RV: ∀ v,v<p'.length -> ∃ s,tb (p'.getD v 0) s=true/\ ¬ FG c q p' v s:=fun v hv=>by
  obtain ⟨t,h1,h2⟩:=Mk v hv;exact ⟨t,h1,fun h=>h2 (.inl h)⟩
 have cb: ∀ v:Nat,(cB c p).getD v false=true -> (cB c p').getD v false=true:=fun v h=>H.cB (v:Int) h
 have dP: ∀ v:Int,DJ q.nbrs (pB c p') v<=DJ q.nbrs (pB c p) v:=fun v=>SO _ fun x _ h=>H.pB x h
 have dC: ∀ v:Int,DJ q.nbrs (cB c p) v<=DJ q.nbrs (cB c p') v:=fun v=>SO _ fun x _ h=>H.cB x h
 refine ⟨fun v hv hc=>?_,fun a s ha hs h=>?_⟩
 ·have:=B8 v (by omega) (cb v hc);have h1:=dP v;have h2:=dC v;omega
 ·rcases h with h | ⟨v,hv,h1,h2,h3,h4⟩
  ·exact .inl (jE H RV ha hs h)
  ·have hk:=B8 v (by omega) (cb v h1);have e1:=dP v;have e2:=dC v;refine .inr ⟨v,by omega,cb v h1,h2,?_⟩;rcases h4 with ⟨h4,h5⟩ | ⟨h4,h5,h6⟩
   ·have hp:(pB c p').getD a false=true:=by
     cases hp:(pB c p').getD a false with
     | true=>rfl
     | false=>
      have:=SN (f:=fun x:Int=>(pB c p').getD x.toNat false) (g:=fun x:Int=>(pB c p).getD x.toNat false) (a:=(a:Int)) hp h3 (nb q.nbrs v) (fun x _ h=>H.pB x h) h2;have e3:DJ q.nbrs (pB c p') v+1<=DJ q.nbrs (pB c p) v:=this;omega
    exact ⟨hp,.inl ⟨by omega,h5⟩⟩
   ·have hp:=eT (c:=c) (by omega) hs h6
    have hc:(cB c p').getD a false=false:=by
     cases hc:(cB c p').getD a false with
     | false=>rfl
     | true=>
      have:=SN (f:=fun x:Int=>(cB c p).getD x.toNat false) (g:=fun x:Int=>(cB c p').getD x.toNat false) (a:=(a:Int)) h5 hc (nb q.nbrs v) (fun x _ h=>H.cB x h) h2;have e3:DJ q.nbrs (cB c p) v+1<=DJ q.nbrs (cB c p') v:=this;omega
    exact ⟨hp,.inr ⟨by omega,hc,h6⟩⟩
end
theorem mono (C:Bg q i p) (C':Bg q i p') (hS:Fc (con q i) p' p) (hA:OA q (con q i) p'):
 L7 q (con q i) p/\ ∀ k,k<(con q i).cells.length -> ∀ s,tb (AV (con q i) p' k) s=true -> CW q (con q i) p k s -> CW q (con q i) p' k s:=by
 have W:=C.work;have W':=C'.work;have B3: ∀ a,a<(con q i).cells.length -> Bj (AV (con q i) p' a):=fun a ha=>(W'.at ha).in64 (by have:=W'.k;omega)
 have kc:=N7 (Q7 C.kind);have HH: ∀ {k:Int},(con q i).kind=k -> k≠2 -> k≠3 -> k≠9 -> L7 q (con q i) p:=fun hk h2 h3 h9=>⟨fun h=>absurd (hk.symm.trans h) h2,fun h=>absurd (hk.symm.trans h) h3,hA.ok.2.2.1,fun h=>absurd (hk.symm.trans h) h9⟩
 have all: ∀ {hk:(con q i).kind=8∨(con q i).kind=9},LP (con q i) q p p':=fun {hk}=>by
  have hl:=C.len;have EA:=C'.len
  have Kz:BC p'=false:=GR.2 fun j hj=>by
   have hk8:(con q i).cells.length=p'.length:=by
    have h:=C'.kind;unfold FC at h;rcases hk with hk | hk <;> rw [hk] at h <;> simp at h <;> omega
   have:=hA.nz j (by omega)
   have e:AV (con q i) p' j=p'.getD j 0:=by
    unfold AV;rw [C'.cells.2.2 (by omega) j (by omega),zl]
   rwa [e] at this
  have A':=C'.all hk Kz
  have Kr: ∀ j,j<p.length -> ∀ s,tb (p'.getD j 0) s=true -> tb (p.getD j 0) s=true:=fun j hj s hs=>by
   have e: ∀ x:List Int,AV (con q i) x j=x.getD j 0:=fun x=>by
    unfold AV;rw [A'.id j (by omega),zl]
   have:=hS j (by rw [A'.len];omega) s (by rw [e];exact hs)
   rwa [e] at this
  have hd:BC p=false:=GR.2 fun j hj=>by
   have h:=GR.1 Kz j (by omega);obtain ⟨s,h1,h2⟩:=(Eb ((C'.sm j (by omega)).in64 (by have:=W'.k;omega))).1 h;exact (Eb ((C.sm j hj).in64 (by have:=W'.k;omega))).2 ⟨s,h1,Kr j hj s h2⟩
  exact ⟨C.all hk hd,A',by omega,Kr⟩
 rcases kc with hk | hk | hk | hk | hk | hk | hk | hk | hk
 ·refine ⟨HH hk (by decide) (by decide) (by decide),fun k Bm s hs h=>?_⟩;unfold CW at h ⊢;rw [hk] at h ⊢;simp at h ⊢;exact xj W hS B3 hA.nz h
 ·have h2:=xu hS B3 hA.nz (hA.ok.1 hk);refine ⟨⟨fun _=>h2.1,fun h=>absurd (hk.symm.trans h) (by decide),hA.ok.2.2.1,fun h=>absurd (hk.symm.trans h) (by decide)⟩,fun k Bm s hs h=>?_⟩;unfold CW at h ⊢;rw [hk] at h ⊢;simp at h ⊢;exact h2.2 k s Bm hs h
 ·have h2:=mB (q:=q) W W' hS (hA.ok.2.1 hk);refine ⟨⟨fun h=>absurd (hk.symm.trans h) (by decide),fun _=>h2.1,hA.ok.2.2.1,fun h=>absurd (hk.symm.trans h) (by decide)⟩,fun k Bm s hs h=>?_⟩;unfold CW at h ⊢;rw [hk] at h ⊢;simp at h ⊢;exact h2.2 k s Bm h
 ·refine ⟨HH hk (by decide) (by decide) (by decide),fun k Bm s hs h=>?_⟩;unfold CW at h ⊢;rw [hk] at h ⊢;simp at h ⊢;exact oQ W W' hS Bm h
 ·refine ⟨HH hk (by decide) (by decide) (by decide),fun k Bm s hs h=>?_⟩;unfold CW at h ⊢;rw [hk] at h ⊢;simp at h ⊢;exact nq hS Bm h
 ·refine ⟨HH hk (by decide) (by decide) (by decide),fun k Bm s hs h=>?_⟩;have h2:=C.two (.inl hk);unfold CW at h ⊢;rw [hk] at h ⊢;simp at h ⊢;exact eF hS h2 h
 ·refine ⟨HH hk (by decide) (by decide) (by decide),fun k Bm s hs h=>?_⟩;have h2:=C.two (.inr hk);unfold CW at h ⊢;rw [hk] at h ⊢;simp at h ⊢;exact eF hS h2 h
 ·have H:=all (hk:=.inl hk)
  have e: ∀ (x:List Int) (j:Nat),j<p.length -> AV (con q i) x j=x.getD j 0:=fun x j hj=>by
   unfold AV;rw [H.W.id j hj,zl]
  have Af:=H.W.len;have hl:=H.len;have lc: ∀ x a s,CW q (con q i) x a s↔IP (con q i) q x a s:=fun x a s=>by unfold CW;rw [hk];simp
  refine ⟨HH hk (by decide) (by decide) (by decide),fun k Bm s hs h=>?_⟩;rw [lc] at h ⊢;rw [e _ _ (by omega)] at hs;refine yE H (fun v hv=>?_) (by omega) hs h;obtain ⟨t,h1,h2⟩:=hA.left v (by omega);rw [e _ _ (by omega)] at h1;exact ⟨t,h1,fun h3=>h2 ((lc _ _ _).2 h3)⟩
 ·have H:=all (hk:=.inr hk)
  have e: ∀ (x:List Int) (j:Nat),j<p.length -> AV (con q i) x j=x.getD j 0:=fun x j hj=>by
   unfold AV;rw [H.W.id j hj,zl]
  have Af:=H.W.len;have hl:=H.len;have lc: ∀ x a s,CW q (con q i) x a s↔N6 (con q i) q x a s:=fun x a s=>by unfold CW;rw [hk];simp
  have h2:=rA H (hA.ok.2.2.2 hk) fun v hv=>by
   obtain ⟨t,h1,h2⟩:=hA.left v (by omega);rw [e _ _ (by omega)] at h1;exact ⟨t,h1,fun h3=>h2 ((lc _ _ _).2 h3)⟩
  refine ⟨⟨fun h=>absurd (hk.symm.trans h) (by decide),fun h=>absurd (hk.symm.trans h) (by decide),hA.ok.2.2.1,fun _=>h2.1⟩,fun k Bm s hs h=>?_⟩;rw [lc] at h ⊢;rw [e _ _ (by omega)] at hs;exact h2.2 k s (by omega) hs h
end
end Go.Proofs.YtgkhhfnhacibcaaGreatDoor
namespace Go.Proofs.YtgkhhfnhacibcaaGreatDoor
open Go.RowKit
section
variable {q:AA} {i:Int} {pos x:List Int}
theorem PR.sub {c:AB} (h:PR q c pos x) {j s:Nat} (hs:tb (x.getD j 0) s=true):j<pos.length/\ tb (pos.getD j 0) s=true:=by
 have hj:j<pos.length:=by
  refine zAh fun Bx=>?_
  rw [u8,zAM (by have:=h.len;omega)] at hs;exact Fk hs
 refine ⟨hj,?_⟩
 by_cases hA:Hf q c pos
 ·exact (((h.live hA j hj).2 s).1 hs).1
 ·rw [h.dead hA,LU] at hs;exact absurd hs Fk
theorem PR.in64 {c:AB} (h:PR q c pos x) (j:Nat):Bj (x.getD j 0):=by
 by_cases hA:Hf q c pos
 ·by_cases hj:j<pos.length
  ·exact (h.live hA j hj).1
  ·rw [u8,zAM (by have:=h.len;omega)];exact ⟨by decide,by decide⟩
 ·rw [h.dead hA];exact WC j
theorem Nn (hv:Cb q=true) {y:List Int}:posOk q y=true↔(y.length:Int)=q.cells/\ ∀ j,j<y.length -> Sm q.symbols.toNat (y.getD j 0):=by
 unfold posOk;rw [zm,zAQ,zq];constructor
 ·rintro ⟨h1,h2⟩;refine ⟨h1,fun j hj=>?_⟩;have hm:y.getD j 0∈y:=by rw [u8,zf hj];exact zAL hj
  have:=h2 _ hm;rw [zm,zv,zv] at this;exact this
 ·rintro ⟨h1,h2⟩;refine ⟨h1,fun z hz=>?_⟩;obtain ⟨j,hj,rfl⟩:=zAs hz;have:=h2 j hj;rw [u8,zf hj] at this;rw [zm,zv,zv];exact this
end
section
variable {q:AA} {i:Int} {p p' x z:List Int}
theorem kg (C:Bg q i p) {k s:Nat} (hk:k<(con q i).cells.length):LC q (con q i) p ((con q i).cells.getD k 0).toNat s↔CW q (con q i) p k s:=by
 constructor
 ·rintro ⟨a,ha,e,h⟩;have h1:=C.work.cells a ha;have h2:=C.work.cells k hk;have Ay:=C.cells.2.1;have e2:(con q i).cells.getD a 0=(con q i).cells.getD k 0:=by omega
  rw [u8,zf ha,u8,zf hk] at e2;have e2:(con q i).cells[a]=(con q i).cells[k]:=e2;have hp:=zB8.1 Ay
  have:a=k:=by
   rcases Nat.lt_trichotomy a k with h3 | h3 | h3
   ·exact absurd e2 (hp a k ha hk h3)
   ·exact h3
   ·exact absurd e2.symm (hp k a hk ha h3)
  subst this;exact h
 ·intro h;exact ⟨k,hk,rfl,h⟩
theorem V7 (C:Bg q i p):Hf q (con q i) p↔(∀ j,j<p.length -> p.getD j 0≠0)/\ OA q (con q i) p:=by
 have W:=C.work;constructor
 ·intro h;refine ⟨h.nz,fun k hk=>h.nz _ (by have:=W.cells k hk;omega),h.ok,fun k hk=>?_⟩;obtain ⟨s,_,h1,h2⟩:=h.left ((con q i).cells.getD k 0).toNat (by have:=W.cells k hk;omega);exact ⟨s,h1,fun h3=>h2 ((kg C hk).2 h3)⟩
 ·rintro ⟨h1,h2⟩;refine ⟨h1,h2.ok,fun j hj=>?_⟩
  by_cases Jj: ∃ k,k<(con q i).cells.length/\ ((con q i).cells.getD k 0).toNat=j
  ·obtain ⟨k,hk,rfl⟩:=Jj;obtain ⟨s,h3,h4⟩:=h2.left k hk;exact ⟨s,zAh fun h=>(by rw [G3 h] at h3;cases h3),h3,fun h5=>h4 ((kg C hk).1 h5)⟩
  ·obtain ⟨s,h3,h4⟩:=(Eb ((C.sm j hj).in64 (by have:=W.k;omega))).1 (h1 j hj);exact ⟨s,h3,h4,fun ⟨a,ha,e,_⟩=>Jj ⟨a,ha,e⟩⟩
theorem eh (C:Bg q i p) (C':Bg q i p') (hS:Fc (con q i) p' p) (hA:OA q (con q i) p'):OA q (con q i) p/\ ∀ k,k<(con q i).cells.length -> ∀ s,tb (AV (con q i) p' k) s=true -> CW q (con q i) p k s -> CW q (con q i) p' k s:=by
 obtain ⟨h1,h2⟩:=mono C C' hS hA;have W:=C.work;refine ⟨⟨fun k hk=>?_,h1,fun k hk=>?_⟩,h2⟩
 ·obtain ⟨s,h3,_⟩:=hA.left k hk;exact (Eb ((W.at hk).in64 (by have:=W.k;omega))).2 ⟨s,zAh fun h=>(by rw [G3 h] at h3;cases h3),hS k hk s h3⟩
 ·obtain ⟨s,h3,h4⟩:=hA.left k hk;exact ⟨s,hS k hk s h3,fun h5=>h4 (h2 k hk s h3 h5)⟩
theorem pk (C:Bg q i p) (C':Bg q i p') (Kr: ∀ j s,tb (p'.getD j 0) s=true -> tb (p.getD j 0) s=true) (hx:PR q (con q i) p x) (hz:PR q (con q i) p' z): ∀ j s,tb (z.getD j 0) s=true -> tb (x.getD j 0) s=true:=by
 intro j s h;have hl:=C.len;have EA:=C'.len
 by_cases Rl:Hf q (con q i) p'
 ·obtain ⟨n1,hO⟩:=(V7 C').1 Rl;obtain ⟨wP,h2⟩:=eh C C' (fun k _ s h=>Kr _ s h) hO
  have hA:Hf q (con q i) p:=(V7 C).2 ⟨fun j hj=>by
   obtain ⟨t,h3,h4⟩:=(Eb ((C'.sm j (by omega)).in64 (by have:=C.work.k;omega))).1 (n1 j (by omega));exact (Eb ((C.sm j hj).in64 (by have:=C.work.k;omega))).2 ⟨t,h3,Kr j t h4⟩,wP⟩
  obtain ⟨hj,_⟩:=hz.sub h;obtain ⟨h5,h6⟩:=((hz.live Rl j hj).2 s).1 h;refine ((hx.live hA j (by omega)).2 s).2 ⟨Kr j s h5,fun ⟨k,hk,e,h7⟩=>h6 ⟨k,hk,e,h2 k hk s ?_ h7⟩⟩
  show tb (p'.getD ((con q i).cells.getD k 0).toNat 0) s=true
  rw [e];exact h5
 ·rw [hz.dead Rl,LU] at h;exact absurd h Fk
end
section
variable {q:AA} {i:Int} {a b:List Int}
theorem Tz (C:Bg q i a): ∃ x,Ev (fun n=>Hu n q i a) (x,0)/\ PR q (con q i) a x:=by
 obtain ⟨r,h1,h2,h3,_⟩:=pj (i:=i) C.fit (pos:=a) (zt C.len256.2 (by decide));obtain ⟨x,e⟩:=r;have e0:e=0:=h2.trans C.check;subst e0;exact ⟨x,h1,h3 rfl⟩
end
section
variable {q:AA} {i j:Int} {p p' x y z:List Int}
theorem PR.posOk (C:Bg q i p) (h:PR q (con q i) p x):posOk q x=true:=by
 refine (Nn C.valid).2 ⟨by rw [h.len];exact C.len,fun j hj=>?_⟩;have hk:=C.work.k;refine cV (by omega) (h.in64 j) fun s hs _=>?_
 cases ht:tb (x.getD j 0) s with
 | false=>rfl
 | true=>
  obtain ⟨h1,h2⟩:=h.sub ht;rw [(C.sm j h1).hi hs] at h2;cases h2
theorem PR.alive (C:Bg q i p) (hd:BC p=false) (h:PR q (con q i) p p):Hf q (con q i) p:=by
 refine Classical.byContradiction fun hA=>?_
 have h0:=C.len256.1;have:=GR.1 hd 0 h0;rw [h.dead hA,LU] at this;exact this rfl
theorem rI (C:Bg q i p) (C':Bg q i p') (OV: ∀ k,k<(con q i).cells.length -> AV (con q i) p' k=AV (con q i) p k) (hd:BC p=false) (Kz:BC p'=false) (h:PR q (con q i) p p):PR q (con q i) p' p':=by
 have hA:=h.alive C hd;obtain ⟨_,hO⟩:=(V7 C).1 hA;obtain ⟨Mv,hl⟩:=eh C' C (fun k hk s hs=>by rw [OV k hk];exact hs) hO;have Rl:Hf q (con q i) p':=(V7 C').2 ⟨GR.1 Kz,Mv⟩;refine ⟨rfl,fun _ j hj=>⟨(C'.sm j hj).in64 (by have:=C'.work.k;omega),fun s=>⟨fun hs=>⟨hs,?_⟩,fun hs=>hs.1⟩⟩,fun hn=>absurd Rl hn⟩;rintro ⟨k,hk,e,h1⟩
 have Ks:tb (AV (con q i) p k) s=true:=by
  rw [←OV k hk]
  show tb (p'.getD ((con q i).cells.getD k 0).toNat 0) s=true
  rw [e];exact hs
 have h2:=hl k hk s Ks h1;have hW:=C.work.cells k hk;have te:tb (p.getD ((con q i).cells.getD k 0).toNat 0) s=true:=Ks;have h3:=(((h.live hA ((con q i).cells.getD k 0).toNat (by omega)).2 s).1 te).2;exact h3 ⟨k,hk,rfl,h2⟩
end
end Go.Proofs.YtgkhhfnhacibcaaGreatDoor
namespace Go.Proofs.YtgkhhfnhacibcaaGreatDoor
open Go.RowKit
structure Ai (q:AA) (p:List Int):Prop where
 fit:CU q
 valid:Cb q=true
 ok:posOk q p=true
def Le (a b:List Int):Prop:=∀ j s,tb (a.getD j 0) s=true -> tb (b.getD j 0) s=true
def Up (q:AA) (level:Int) (i:Int):Prop:=0<=i/\ i<(q.cons.length:Int)/\ FP (con q i).kind<=level
def He (q:AA) (U:Int -> Prop) (p:List Int):Prop:=∀ i,U i -> PR q (con q i) p p
inductive Cf (q:AA) (U:Int -> Prop):List Int -> List Int -> Prop
 | refl (p:List Int):Cf q U p p
 | step {p x y:List Int} {i:Int}:U i -> PR q (con q i) p x -> Cf q U x y -> Cf q U p y
section
variable {q:AA} {U:Int -> Prop} {p x y z:List Int} {i level:Int}
theorem Ai.ctx (h:Ai q p) (h0:0<=i) (h1:i<(q.cons.length:Int)):Bg q i p:=⟨h.fit,h.valid,h0,h1,h.ok⟩
theorem Ai.len (h:Ai q p):(p.length:Int)=q.cells:=((Nn h.valid).1 h.ok).1
theorem Ai.sm (h:Ai q p): ∀ j,j<p.length -> Sm q.symbols.toNat (p.getD j 0):=((Nn h.valid).1 h.ok).2
theorem Ai.k (h:Ai q p):q.symbols.toNat<=16:=by have:=(C1 h.valid).2.1;omega
theorem Ai.len256 (h:Ai q p):0<p.length/\ p.length<=256:=by
 have h1:=(C1 h.valid).1;have:=h.len;omega
theorem Ai.in64 (h:Ai q p) (j:Nat):Bj (p.getD j 0):=by
 by_cases hj:j<p.length
 ·exact (h.sm j hj).in64 (by have:=h.k;omega)
 ·rw [u8,zAM (by omega)];exact ⟨by decide,by decide⟩
theorem Ai.pr (h:Ai q p) (h0:0<=i) (h1:i<(q.cons.length:Int)) (hx:PR q (con q i) p x):Ai q x:=⟨h.fit,h.valid,hx.posOk (h.ctx h0 h1)⟩
theorem Ai.eqlen (h:Ai q p) (h':Ai q x):x.length=p.length:=by have:=h.len;have:=h'.len;omega
theorem Le.refl (a:List Int):Le a a:=fun _ _ h=>h
theorem Le.trans (h:Le x y) (h':Le y z):Le x z:=fun j s hs=>h' j s (h j s hs)
theorem Le.eq (hx:Ai q x) (hy:Ai q y) (h:Le x y) (h':Le y x):x=y:=by
 have e:x.length=y.length:=hy.eqlen hx;refine zBm e fun j h1 h2=>?_
 have e1:x.getD j 0=x[j]:=by simp [h1]
 have e2:y.getD j 0=y[j]:=by simp [h2]
 rw [←e1,←e2];refine KH (hx.in64 j) (hy.in64 j) fun s _=>?_
 rw [zAy];exact ⟨h j s,h' j s⟩
theorem PR.le {c:AB} (h:PR q c p x):Le x p:=fun _ _ hs=>(h.sub hs).2
theorem Cf.pos (hU: ∀ i,U i -> 0<=i/\ i<(q.cons.length:Int)) (hd:Cf q U p y):Ai q p -> Ai q y:=by
 induction hd with
 | refl p=>exact id
 | step hi hx _ ih=>exact fun h=>ih (h.pr (hU _ hi).1 (hU _ hi).2 hx)
theorem Cf.le (hd:Cf q U p y):Le y p:=by
 induction hd with
 | refl p=>exact Le.refl p
 | step hi hx _ ih=>exact ih.trans hx.le
theorem Cf.trans (h:Cf q U p x) (h':Cf q U x y):Cf q U p y:=by
 induction h with
 | refl p=>exact h'
 | step hi hx _ ih=>exact .step hi hx (ih h')
theorem Cf.one (hi:U i) (hx:PR q (con q i) p x):Cf q U p x:=.step hi hx (.refl x)
theorem Cf.above (hU: ∀ i,U i -> 0<=i/\ i<(q.cons.length:Int)) (hd:Cf q U p y):Ai q p -> Ai q z -> Le z p -> He q U z -> Le z y:=by
 induction hd with
 | refl p=>exact fun _ _ h _=>h
 | step hi hx _ ih=>
  intro hp hz Bx hf;obtain ⟨h0,h1⟩:=hU _ hi;exact ih (hp.pr h0 h1 hx) hz (pk (hp.ctx h0 h1) (hz.ctx h0 h1) Bx hx (hf _ hi)) hf
theorem Cf.uniq (hU: ∀ i,U i -> 0<=i/\ i<(q.cons.length:Int)) (hp:Ai q p) (hx:Cf q U p x) (hy:Cf q U p y) (fx:He q U x) (fy:He q U y):x=y:=
 Le.eq (hx.pos hU hp) (hy.pos hU hp) (hy.above hU hp (hx.pos hU hp) hx.le fx) (hx.above hU hp (hy.pos hU hp) hy.le fy)
theorem PW (i:Int) (h:Up q level i):0<=i/\ i<(q.cons.length:Int):=⟨h.1,h.2.1⟩
theorem dy {c:AB} {m:Nat} (hm:0<m):PR q c (List.replicate m 0) (List.replicate m 0):=by
 refine ⟨rfl,fun hA=>?_,fun _=>by simp⟩;have:=hA.nz 0 (by simpa using hm);exact absurd (LU (pos:=List.replicate m 0) 0) (by simpa [zx] using this)
theorem VU {m:Nat} (hm:0<m):He q U (List.replicate m 0):=fun _ _=>dy hm
theorem PR.zero {c:AB} (h:PR q c p x) (hd:BC x=true):x=List.replicate p.length 0:=by
 refine Classical.byContradiction fun AQ=>?_
 have hA:Hf q c p:=Classical.byContradiction fun hA=>AQ (h.dead hA)
 have: ¬ BC x=false:=by rw [hd];exact fun h=>by cases h
 refine this (GR.2 fun j hj=>?_);have BH:j<p.length:=by rw [←h.len];exact hj
 obtain ⟨s,h1,h2,h3⟩:=hA.left j BH;exact (Eb (h.live hA j BH).1).2 ⟨s,h1,((h.live hA j BH).2 s).2 ⟨h2,h3⟩⟩
def wt (p:List Int):Nat:=(List.range (64*p.length)).countP fun k=>tb (p.getD (k/64) 0) (k % 64)
theorem WH (hx:Ai q x) (hp:Ai q p) (h:Le x p) (AQ:x≠p):wt x+1<=wt p:=by
 have e:x.length=p.length:=hp.eqlen hx
 obtain ⟨j,s,hj,hs,h1,h2⟩: ∃ j s:Nat,j<p.length/\ s<64/\ tb (x.getD j 0) s=false/\ tb (p.getD j 0) s=true:=by
  refine Classical.byContradiction fun hn=>AQ (Le.eq hx hp h fun j s hs=>?_)
  have tc:s<64:=zAh fun h=>by rw [G3 h] at hs;cases hs
  have hj:j<p.length:=zAh fun Bx=>by
   rw [u8,zAM Bx] at hs;exact Fk hs
  cases hb:tb (x.getD j 0) s with
  | true=>rfl
  | false=>exact absurd ⟨j,s,hj,tc,hb,hs⟩ hn
 unfold wt;rw [e];have ej:(64*j+s)/64=j:=by omega
 have es:(64*j+s) % 64=s:=by omega
 refine SN (a:=64*j+s) (by rw [ej,es];exact h1) (by rw [ej,es];exact h2) _ (fun k _ hk=>h _ _ hk) (zw.2 (by omega))
end
end Go.Proofs.YtgkhhfnhacibcaaGreatDoor
namespace Go.Proofs.YtgkhhfnhacibcaaGreatDoor
open Go.RowKit
set_option maxRecDepth 100000
set_option maxHeartbeats 40000000
end Go.Proofs.YtgkhhfnhacibcaaGreatDoor
namespace Go.Proofs.YtgkhhfnhacibcaaGreatDoor
open Go.RowKit
set_option maxRecDepth 100000
set_option maxHeartbeats 40000000
inductive Tq where
 | l1 (x3:Int)
def QP (n:Nat) (self:Tq -> Option Bool) (pos:List Int) (x3:Int):Option Bool:=
 bif (decide (x3<(pos.length:Int))) then
  if 0<=x3/\ x3<(pos.length:Int) then
   bif ((pos.getD ((x3).toNat) 0)==0) then
    some true
   else
    if AH (x3+1) then
     self (.l1 (x3+1))
    else none
  else none
 else
  some false
def pU (n:Nat) (self:Tq -> Option Bool) (pos:List Int):Option Bool:=
 self (.l1 0)
def Lt (pos:List Int):Nat -> Tq -> Option Bool
 | 0,_=>none
 | n+1,.l1 x3=>QP n (Lt pos n) pos x3
def Ts (n:Nat) (pos:List Int):Option Bool:=pU n (Lt pos n) pos
def pW (n B:Nat) (N:Yd 0) (pos:List Int) (r:Bool):Tq -> Prop
 | .l1 x3=>∀ m0:Nat,n<=m0 -> TW B N (FQ Tryz.f42 0 (.bool r) []) (Ak m0 (Ap (Aa Tryz.f42) 0 [])) ⟨AL 15 [(0,.ints pos),(3,.i x3)],[]⟩
theorem pX (B:Nat) (N:Yd 0) (pos:List Int):Al (Lt pos) (pW · B N pos):=ia (fun _=>rfl) fun n AF pt r h=>by
 cases pt
 case l1 x3=>
  intro m0 AC;refine rd AC fun m0 AC=>?_
  revert r;apply gO;exact bi 7 (gi (bi 14 (lE AE [2] []) (gw 9 (lG AE [] (AF _ _ · m0 AC))))) (lE AE [2] [])
theorem pT {n:Nat} {pos:List Int} {r:Bool} (h:Ts n pos=some r):EQ 42 [.ints pos] [] (.bool r) [] true:=by
 refine ot Tryz.func42 fun B N=>?_
 revert r;apply gO;exact lN AE [] ((pX B N pos n) _ _ · n Nat.le.refl)
theorem mu:An (A8 Tryz.f36 9) [] (List.range 16) []:=by unfold An;kernel_rfl
def Lj:BV:=fun i=>match i with
 | 9=>.ord [] (List.range 16) []
 | _=>.no
inductive TV where
 | l1 (x6:Int)
def P7 (n:Nat) (self:TV -> Option Int) (q:AA) (pos:List Int) (x6:Int):Option Int:=
 bif (decide (x6<(pos.length:Int))) then
  if 0<=x6/\ x6<(pos.length:Int) then
   bif (decide ((pos.getD ((x6).toNat) 0)<0)) then
    some 250
   else
    if 0<=IntKind.u64.wrap q.symbols/\ IntKind.u64.wrap q.symbols<=(IntKind.i64.bits:Int) then
     bif (decide ((pos.getD ((x6).toNat) 0)>=(IntKind.i64.wrap (1*2 ^ (IntKind.u64.wrap q.symbols).toNat)))) then
      some 250
     else
      if AH (x6+1) then
       self (.l1 (x6+1))
      else none
    else none
  else none
 else
  some 0
def dD (n:Nat) (self:TV -> Option Int) (q:AA) (pos:List Int):Option Int:=
 (Px n q).bind fun y1=>
  bif (y1 != 0) then
   some y1
  else
   bif ((pos.length:Int) != q.cells) then
    some 250
   else
    self (.l1 0)
def Lo (q:AA) (pos:List Int):Nat -> TV -> Option Int
 | 0,_=>none
 | n+1,.l1 x6=>P7 n (Lo q pos n) q pos x6
def TX (n:Nat) (q:AA) (pos:List Int):Option Int:=dD n (Lo q pos n) q pos
def oH (n B:Nat) (N:Yd 0) (q:AA) (pos:List Int) (r:Int):TV -> Prop
 | .l1 x6=>∀ m0:Nat,n<=m0 -> TW B N (FQ Tryz.f36 0 (.i r) []) (Ak m0 (Ap (Aa Tryz.f36) 0 [])) ⟨AL 39 [(1,.ints pos),(2,.ref 0 0),(6,.i x6)],[some (.cells (AD q))]⟩
theorem oI (B:Nat) (N:Yd 0) (q:AA) (pos:List Int):Al (Lo q pos) (oH · B N q pos):=ia (fun _=>rfl) fun n AF pt r h=>by
 cases pt
 case l1 x6=>
  intro m0 AC;refine rd AC fun m0 AC=>?_
  revert r;apply gO;exact bi 20 (jg mu (gn fun g0=>jg g0 (bi 27 (lE Lj [4] []) (jg g0 (gi (bi 37 (lE Lj [4] []) (gw 22 (lG Lj [0] (AF _ _ · m0 AC))))))))) (lE Lj [4] [])
theorem oF {n:Nat} {q:AA} {pos:List Int} {r:Int} (h:TX n q pos=some r):EQ 36 [.agg 5 (L1 (AD q)),.ints pos] [] (.i r) [] true:=by
 refine ot Tryz.func36 fun B N=>?_
 revert r;apply gO;exact cf cy [some (.cells (AD q))] fun _=>bi 10 (lE Lj [4] []) (bi 16 (lE Lj [4] []) (lN Lj [0] ((oI B N q pos n) _ _ · n Nat.le.refl)))
end Go.Proofs.YtgkhhfnhacibcaaGreatDoor
namespace Go.Proofs.YtgkhhfnhacibcaaGreatDoor
open Go.RowKit
set_option maxRecDepth 100000
set_option maxHeartbeats 40000000
def bN (n:Nat) (c_:AB) (level:Int):Option Bool:=
 bif (c_.kind==4) then
  some (decide (2<=level))
 else
  bif (c_.kind==3) then
   some (decide (2<=level))
  else
   bif (c_.kind==5) then
    some (decide (3<=level))
   else
    bif (c_.kind==8) then
     some (decide (4<=level))
    else
     bif (c_.kind==9) then
      some (decide (4<=level))
     else
      some (decide (1<=level))
def Pa (n:Nat) (c_:AB) (level:Int):Option Bool:=bN n c_ level
theorem bM {n:Nat} {c_:AB} {level:Int} {r:Bool} (h:Pa n c_ level=some r):EQ 16 [.agg 9 (L1 (AG c_)),.i level] [] (.bool r) [] true:=by
 refine ot Tryz.func16 fun B N=>?_
 revert r;apply gO;exact bi 9 (lE AE [4] []) (bi 10 (lE AE [4] []) (bi 12 (lE AE [4] []) (bi 14 (lE AE [4] []) (bi 15 (lE AE [4] []) (lE AE [4] [])))))
theorem mm:An (A8 Tryz.f17 6) [] (List.range 9) []:=by unfold An;kernel_rfl
def Pr:BV:=fun i=>match i with
 | 6=>.ord [] (List.range 9) []
 | _=>.no
inductive TP where
 | l1 (x5:Int)
def Pw (n:Nat) (self:TP -> Option Bool) (a b_:List Int) (x5:Int):Option Bool:=
 bif (decide (x5<(a.length:Int))) then
  if (0<=x5/\ x5<(a.length:Int))/\ (0<=x5/\ x5<(b_.length:Int)) then
   bif ((a.getD ((x5).toNat) 0) != (b_.getD ((x5).toNat) 0)) then
    some false
   else
    if AH (x5+1) then
     self (.l1 (x5+1))
    else none
  else none
 else
  some true
def ck (n:Nat) (self:TP -> Option Bool) (a b_:List Int):Option Bool:=
 bif ((a.length:Int) != (b_.length:Int)) then
  some false
 else
  self (.l1 0)
def NZ (a b_:List Int):Nat -> TP -> Option Bool
 | 0,_=>none
 | n+1,.l1 x5=>Pw n (NZ a b_ n) a b_ x5
def DR (n:Nat) (a b_:List Int):Option Bool:=ck n (NZ a b_ n) a b_
def mc (n B:Nat) (N:Yd 0) (a b_:List Int) (r:Bool):TP -> Prop
 | .l1 x5=>∀ m0:Nat,n<=m0 -> TW B N (FQ Tryz.f17 0 (.bool r) []) (Ak m0 (Ap (Aa Tryz.f17) 0 [])) ⟨AL 26 [(0,.ints a),(1,.ints b_),(5,.i x5)],[]⟩
theorem md (B:Nat) (N:Yd 0) (a b_:List Int):Al (NZ a b_) (mc · B N a b_):=ia (fun _=>rfl) fun n AF pt r h=>by
 cases pt
 case l1 x5=>
  intro m0 AC;refine rd AC fun m0 AC=>?_
  revert r;apply gO;exact bi 14 (jg mm (gc (gi (gi (bi 25 (lE Pr [4] []) (gw 16 (lG Pr [] (AF _ _ · m0 AC)))))))) (lE Pr [4] [])
theorem Hq {n:Nat} {a b_:List Int} {r:Bool} (h:DR n a b_=some r):EQ 17 [.ints a,.ints b_] [] (.bool r) [] true:=by
 refine ot Tryz.func17 fun B N=>?_
 revert r;apply gO;exact bi 10 (lE Pr [4] []) (lN Pr [] ((md B N a b_ n) _ _ · n Nat.le.refl))
def Zt (n:Nat) (q:AA) (pos:List Int):Option Bool:=
 (Ry n q pos).bind fun y1=>
  bif y1 then
   some (decide ((q.cons.length:Int)<=100))
  else
   some false
def Rx (n:Nat) (q:AA) (pos:List Int):Option Bool:=Zt n q pos
theorem xK {n:Nat} {q:AA} {pos:List Int} {r:Bool} (h:Rx n q pos=some r):EQ 34 [.agg 5 (L1 (AD q)),.ints pos] [] (.bool r) [] true:=by
 unfold Rx Zt at h;refine ot Tryz.func34 fun B N=>?_
 revert r;apply gO;exact cf xE [some (.cells (AD q))] fun _=>bi 7 (lE AE [4] []) (lE AE [4] [])
end Go.Proofs.YtgkhhfnhacibcaaGreatDoor
