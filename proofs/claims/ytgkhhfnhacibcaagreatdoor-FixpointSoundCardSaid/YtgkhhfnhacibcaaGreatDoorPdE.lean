/- Part 5 of 7 of what the proofs of these laws stand on. -/
import Derived.Test.YtgkhhfnhacibcaaGreatDoorPdD
set_option linter.all false
namespace Go.Proofs.YtgkhhfnhacibcaaGreatDoor
open Go.RowKit
set_option maxRecDepth 100000
set_option maxHeartbeats 40000000
def db:ST:=.rd 0 (.rd 1 (.rd 2 (.rd 3 (.rd 4 (.rd 5 (.rd 6 (.rd 7 (.rd 8 (.rd 9 (.rd 10 (.rd 11 (.rd 12 (.rd 13 (.rd 14 (.rd 15 (.rd 16 (.rd 17 (.rd 18 (.rd 19 (.rd 20 (.rd 21 (.rd 22 (.rd 23 (.rd 24 (.rd 25 (.rd 26 (.rd 27 (.rd 28 (.ef 29 (.rd 30 (.fin [] [5,6])) (.no))))))))))))))))))))))))))))))
theorem p9:CQ (BA Tryz.f103 2) [29] db:=by unfold CQ;kernel_rfl
def da:ST:=.rd 0 (.rd 1 (.rd 2 (.rd 3 (.rd 4 (.rd 5 (.rd 6 (.rd 7 (.rd 8 (.rd 9 (.rd 10 (.rd 11 (.rd 12 (.rd 13 (.rd 14 (.rd 15 (.ef 16 (.rd 17 (.fin [] [5,6])) (.no)))))))))))))))))
theorem p8:CQ (BA Tryz.f103 5) [16] da:=by unfold CQ;kernel_rfl
def Ts:Bb:=fun i=>match i with
 | 2=>.tre [29] db
 | 5=>.tre [16] da
 | _=>.no
def dI (s_:Int×Int) (c:AB) (q:AA) (pos:List Int) (ln:Nat) (lost:List Int):St:=⟨(AM 59 [(5,.ref 4 0),(6,.bool (decide (s_.2<(c.runs.getD ((s_.1).toNat) 0))))]),([some (.cells [.ref 1 0]),some (.cells (AH c++AD q++[.ints pos,.msl 2 1 0 ln])),some (.ints lost),some (.cells [.i s_.1,.i s_.2]),some (.cells [.i s_.1,.i (s_.2+1)])]:DH)⟩
def dH (c:AB) (q:AA) (pos:List Int) (ln:Nat) (lost:List Int) (s_:Int×Int):St:=⟨(AM 59 [(5,.ref 4 0),(6,.bool false)]),([some (.cells [.ref 1 0]),some (.cells (AH c++AD q++[.ints pos,.msl 2 1 0 ln])),some (.ints lost),some (.cells [.i s_.1,.i s_.2]),some (.cells [.i s_.1,.i (s_.2+1)])]:DH)⟩
def dG (s_:Int×Int) (c:AB) (q:AA) (pos:List Int) (ln:Nat) (lost:List Int):St:=⟨(AM 59 [(5,.ref 4 0),(6,.bool (s_.2==(c.runs.getD ((s_.1).toNat) 0)))]),([some (.cells [.ref 1 0]),some (.cells (AH c++AD q++[.ints pos,.msl 2 1 0 ln])),some (.ints lost),some (.cells [.i s_.1,.i s_.2]),some (.cells [.i (s_.1+1),.i 0])]:DH)⟩
def gj (n:Nat) (s_:Int×Int) (AP:Bool) (c:AB) (q:AA) (pos:List Int) (ln:Nat) (lost:List Int):Option ((Int×Int)×Bool×(List Int)):=
 bif AP then
  if AI (s_.2+1) then
   bif (decide (s_.1<(c.runs.length:Int))) then
    if 0<=s_.1/\ s_.1<(c.runs.length:Int) then
     some ((s_.1,(s_.2+1)),(decide (s_.2<(c.runs.getD ((s_.1).toNat) 0))),lost)
    else none
   else
    some ((s_.1,(s_.2+1)),false,lost)
  else none
 else
  bif (s_.2==0) then
   some ((s_.1,s_.2),true,lost)
  else
   if AI (s_.1+1)/\ (0<=s_.1/\ s_.1<(c.runs.length:Int)) then
    some (((s_.1+1),0),(s_.2==(c.runs.getD ((s_.1).toNat) 0)),lost)
   else none
def RH (n:Nat) (s_:Int×Int) (AP:Bool) (c:AB) (q:AA) (pos:List Int) (ln:Nat) (lost:List Int):Option ((Int×Int)×Bool×(List Int)):=gj n s_ AP c q pos ln lost
theorem LG {n:Nat} {s_:Int×Int} {AP:Bool} {c:AB} {q:AA} {pos:List Int} {ln:Nat} {lost:List Int} {r:(Int×Int)×Bool×(List Int)} (h:RH n s_ AP c q pos ln lost=some r):EQ 103 [.agg 2 (L1 [.i s_.1,.i s_.2]),.bool AP,.ref 0 0] [some (.cells [.ref 1 0]),some (.cells (AH c++AD q++[.ints pos,.msl 2 1 0 ln])),some (.ints lost)] (.tup 2 (L1 [.agg 2 (L1 [.i r.1.1,.i r.1.2]),.bool r.2.1])) [some (.cells [.ref 1 0]),some (.cells (AH c++AD q++[.ints pos,.msl 2 1 0 ln])),some (.ints r.2.2)] false:=by
 refine ot Tryz.func103 fun B N=>?_
 revert r;apply gO;exact bi 8 (jg p9 (gw 13 (bi 23 (gi (jt (jg (Eq.refl (dI s_ c q pos ln lost)) (lE (tg:=[([(29,4)],(dI s_ c q pos ln lost))]) Ts [5,6] [0,1,2,4])))) (jt (jg (Eq.refl (dH c q pos ln lost s_)) (lE (tg:=[([(29,4)],(dH c q pos ln lost s_))]) Ts [5,6] [0,1,2,4])))))) (bi 41 (jt (lE Ts [5,6] [0,1,2,4])) (jg p8 (gc (gw 45 (gi (jt (jg (Eq.refl (dG s_ c q pos ln lost)) (lE (tg:=[([(16,4)],(dG s_ c q pos ln lost))]) Ts [5,6] [0,1,2,4]))))))))
theorem qG:At (BA Tryz.f104 2) [] (List.range 22) []:=by unfold At;kernel_rfl
theorem qF:At (BA Tryz.f104 3) [] (List.range 22) []:=by unfold At;kernel_rfl
def eH:Bb:=fun i=>match i with
 | 2=>.ord [] (List.range 22) []
 | 3=>.ord [] (List.range 22) []
 | _=>.no
def iS (n:Nat) (i_:Int) (AP:Bool) (c:AB) (q:AA) (pos:List Int) (ln:Nat) (lost:List Int):Option (Bool×(List Int)):=
 bif AP then
  if (0<=i_/\ i_<(c.cells.length:Int))/\ (0<=(c.cells.getD ((i_).toNat) 0)/\ (c.cells.getD ((i_).toNat) 0)<(pos.length:Int)) then
   some (((bits .and .i64 (pos.getD ((c.cells.getD ((i_).toNat) 0).toNat) 0) c.set) != 0),lost)
  else none
 else
  if (0<=i_/\ i_<(c.cells.length:Int))/\ (0<=(c.cells.getD ((i_).toNat) 0)/\ (c.cells.getD ((i_).toNat) 0)<(pos.length:Int)) then
   some (((bits .andNot .i64 (pos.getD ((c.cells.getD ((i_).toNat) 0).toNat) 0) c.set) != 0),lost)
  else none
def RS (n:Nat) (i_:Int) (AP:Bool) (c:AB) (q:AA) (pos:List Int) (ln:Nat) (lost:List Int):Option (Bool×(List Int)):=iS n i_ AP c q pos ln lost
theorem VD {n:Nat} {i_:Int} {AP:Bool} {c:AB} {q:AA} {pos:List Int} {ln:Nat} {lost:List Int} {r:Bool×(List Int)} (h:RS n i_ AP c q pos ln lost=some r):EQ 104 [.i i_,.bool AP,.ref 0 0] [some (.cells [.ref 1 0]),some (.cells (AH c++AD q++[.ints pos,.msl 2 1 0 ln])),some (.ints lost)] (.bool r.1) [some (.cells [.ref 1 0]),some (.cells (AH c++AD q++[.ints pos,.msl 2 1 0 ln])),some (.ints r.2)] false:=by
 refine ot Tryz.func104 fun B N=>?_
 revert r;apply gO;exact bi 6 (jg qG (gc (gi (gi (lE eH [5] [0,1,2]))))) (jg qF (gc (gi (gi (lE eH [5] [0,1,2])))))
theorem pY:At (BA Tryz.f72 24) [] (List.range 6) [6]:=by unfold At;kernel_rfl
def dT:ST:=.rd 0 (.rd 1 (.rd 2 (.rd 3 (.rd 4 (.rd 5 (.rd 6 (.rd 7 (.rd 8 (.rd 9 (.rd 10 (.rd 11 (.rd 12 (.rd 13 (.ef 14 (.fin [] [1,3,5,7,14,16,18]) (.no)))))))))))))))
theorem eM:CQ (BA Tryz.f72 49) [] dT:=by unfold CQ;kernel_rfl
def dS:ST:=.rd 0 (.rd 1 (.rd 2 (.rd 3 (.rd 4 (.rd 5 (.rd 6 (.rd 7 (.rd 8 (.ef 9 (.fin [] [1,3,5,7,14,16]) (.no))))))))))
theorem Xp:CQ (BA Tryz.f72 51) [] dS:=by unfold CQ;kernel_rfl
def CK:Bb:=fun i=>match i with
 | 24=>.ord [] (List.range 6) [6]
 | 49=>.tre [] dT
 | 51=>.tre [] dS
 | _=>.no
def Z1 (c:AB) (q:AA) (pos:List Int) (ln:Nat) (o1:List Int) (o3:List (Option KS)):DH:=[some (.cells (AH c++AD q++[.ints pos,.msl 1 1 0 ln])),some (.ints o1),some (.cells [.ref 0 0]),some (.mo (.sets 2 o3 none))]
def xV (c:AB) (q:AA) (pos:List Int) (ln:Nat) (o1:List Int) (o3:List (Option KS)) (Ao:Int) (gk:LK):DH:=[some (.cells (AH c++AD q++[.ints pos,.msl 1 1 0 ln])),some (.ints o1),some (.cells [.ref 0 0]),some (.mo (.sets 2 o3 (some (0+((Ao).toNat),gk))))]
def xP (c:AB) (q:AA) (pos:List Int) (ln:Nat) (o1:List Int) (o3:List (Option KS)) (Ae:Nat) (gk:LK) (o4:KS):DH:=[some (.cells (AH c++AD q++[.ints pos,.msl 1 1 0 ln])),some (.ints o1),some (.cells [.ref 0 0]),some (.mo (.sets 2 o3 (some (Ae,gk)))),some (.mo (.mit 2 gk.1 gk.2.1 gk.2.2 o4 none))]
def jD (c:AB) (q:AA) (pos:List Int) (ln:Nat) (o1:List Int) (o3:List (Option KS)) (Ae:Nat) (gk:LK) (o4:KS) (y1:List Int):DH:=[some (.cells (AH c++AD q++[.ints pos,.msl 1 1 0 ln])),some (.ints o1),some (.cells [.ref 0 0]),some (.mo (.sets 2 o3 (some (Ae,gk)))),some (.mo (.mit 2 gk.1 gk.2.1 gk.2.2 (o4.erase y1) (some y1)))]
def Zy (c:AB) (q:AA) (pos:List Int) (ln:Nat) (o1:List Int) (o3:List (Option KS)) (o4:KS):DH:=[some (.cells (AH c++AD q++[.ints pos,.msl 1 1 0 ln])),some (.ints o1),some (.cells [.ref 0 0]),some (.mo (.sets 2 o3 none)),some (.mo (.set 2 o4)),some (.mo (.set 2 ([]:KS))),some (.cells [.bool false,.bool false])]
def xN (c:AB) (q:AA) (pos:List Int) (ln:Nat) (o1:List Int) (o3:List (Option KS)) (AU:Int) (gk:LK) (o4:KS):DH:=[some (.cells (AH c++AD q++[.ints pos,.msl 1 1 0 ln])),some (.ints o1),some (.cells [.ref 0 0]),some (.mo (.sets 2 o3 (some (0+((AU).toNat),gk)))),some (.mo (.set 2 o4)),some (.mo (.set 2 ([]:KS))),some (.cells [.bool false,.bool false])]
def Zx (c:AB) (q:AA) (pos:List Int) (ln:Nat) (o1:List Int) (o3:List (Option KS)) (Ae:Nat) (gk:LK) (Aj FH:Int) (o5:KS) (FG:List Int):DH:=[some (.cells (AH c++AD q++[.ints pos,.msl 1 1 0 ln])),some (.ints o1),some (.cells [.ref 0 0]),some (.mo (.sets 2 o3 (some (Ae,gk)))),some (.cells [.i Aj,.i FH]),some (.mo (.mit 2 gk.1 gk.2.1 gk.2.2 o5 (some FG))),some (.bools ([false,true]:List Bool))]
def xM (c:AB) (q:AA) (pos:List Int) (ln:Nat) (y1:(Int×Int)×Bool×(List Int)) (o3:List (Option KS)) (Ae:Nat) (gk:LK) (Aj FH:Int) (o5:KS) (FG:List Int):DH:=[some (.cells (AH c++AD q++[.ints pos,.msl 1 1 0 ln])),some (.ints y1.2.2),some (.cells [.ref 0 0]),some (.mo (.sets 2 o3 (some (Ae,gk)))),some (.cells [.i Aj,.i FH]),some (.mo (.mit 2 gk.1 gk.2.1 gk.2.2 o5 (some FG))),some (.bools ([false,true]:List Bool)),some (.cells [.i y1.1.1,.i y1.1.2])]
def xL (c:AB) (q:AA) (pos:List Int) (ln:Nat) (o1:List Int) (o3:List (Option KS)) (Ae:Nat) (gk:LK) (o4 o7:KS):DH:=[some (.cells (AH c++AD q++[.ints pos,.msl 1 1 0 ln])),some (.ints o1),some (.cells [.ref 0 0]),some (.mo (.sets 2 o3 (some (Ae,gk)))),some (.mo (.set 2 o4)),some (.mo (.set 2 ([]:KS))),some (.cells [.bool false,.bool false]),some (.mo (.mit 2 gk.1 gk.2.1 gk.2.2 o7 none))]
def cy (c:AB) (AU:Int) (q:AA) (pos:List Int) (ln:Nat) (y2:(List Int)) (o3:List (Option KS)) (o4:KS):St:=⟨(AM 208 [(1,.ref 2 0),(3,.fn 103 1 (L1 [.ref 2 0])),(5,.msl 3 1 0 ((((c.cells.length:Int)+1)).toNat)),(7,.fn 104 1 (L1 [.ref 2 0])),(14,.it 5),(16,.i AU),(18,.ref 6 0)]),([some (.cells (AH c++AD q++[.ints pos,.msl 1 1 0 ln])),some (.ints y2),some (.cells [.ref 0 0]),some (.mo (.sets 2 o3 none)),some (.mo (.set 2 o4)),some (.mo (.set 2 ([]:KS))),some (.cells [.bool false,.bool false])]:DH)⟩
def xU (c:AB) (q:AA) (pos:List Int) (ln:Nat) (y2:(List Int)) (o3:List (Option KS)) (o4:KS):DH:=[some (.cells (AH c++AD q++[.ints pos,.msl 1 1 0 ln])),some (.ints y2),some (.cells [.ref 0 0]),some (.mo (.sets 2 o3 none)),some (.mo (.set 2 o4)),some (.mo (.set 2 ([]:KS))),some (.cells [.bool false,.bool false])]
def dB (c:AB) (AU:Int) (q:AA) (pos:List Int) (ln:Nat) (y3:(List Int)) (o3:List (Option KS)) (o4:KS):St:=⟨(AM 208 [(1,.ref 2 0),(3,.fn 103 1 (L1 [.ref 2 0])),(5,.msl 3 1 0 ((((c.cells.length:Int)+1)).toNat)),(7,.fn 104 1 (L1 [.ref 2 0])),(14,.it 5),(16,.i AU)]),([some (.cells (AH c++AD q++[.ints pos,.msl 1 1 0 ln])),some (.ints y3),some (.cells [.ref 0 0]),some (.mo (.sets 2 o3 none)),some (.mo (.set 2 o4)),some (.mo (.set 2 ([]:KS))),some (.cells [.bool false,.bool false])]:DH)⟩
def xT (c:AB) (q:AA) (pos:List Int) (ln:Nat) (o1:List Int) (o3:List (Option KS)) (Ae:Nat) (gk:LK) (o4 o7:KS) (y1:List Int):DH:=[some (.cells (AH c++AD q++[.ints pos,.msl 1 1 0 ln])),some (.ints o1),some (.cells [.ref 0 0]),some (.mo (.sets 2 o3 (some (Ae,gk)))),some (.mo (.set 2 o4)),some (.mo (.set 2 ([]:KS))),some (.cells [.bool false,.bool false]),some (.mo (.mit 2 gk.1 gk.2.1 gk.2.2 (o7.erase y1) (some y1)))]
def Rr (c:AB) (q:AA) (pos:List Int) (ln:Nat) (o1:List Int) (o3:List (Option KS)) (Ae:Nat) (gk:LK) (o4 o5:KS) (BJ BK:Bool) (DN DM:Int) (o8:KS) (Dl:List Int):DH:=[some (.cells (AH c++AD q++[.ints pos,.msl 1 1 0 ln])),some (.ints o1),some (.cells [.ref 0 0]),some (.mo (.sets 2 o3 (some (Ae,gk)))),some (.mo (.set 2 o4)),some (.mo (.set 2 o5)),some (.cells [.bool BJ,.bool BK]),some (.cells [.i DN,.i DM]),some (.mo (.mit 2 gk.1 gk.2.1 gk.2.2 o8 (some Dl))),some (.bools ([false,true]:List Bool))]
def Z0 (c:AB) (q:AA) (pos:List Int) (ln:Nat) (y1:(Int×Int)×Bool×(List Int)) (o3:List (Option KS)) (Ae:Nat) (gk:LK) (o4 o5:KS) (BJ BK:Bool) (DN DM:Int) (o8:KS) (Dl:List Int):DH:=[some (.cells (AH c++AD q++[.ints pos,.msl 1 1 0 ln])),some (.ints y1.2.2),some (.cells [.ref 0 0]),some (.mo (.sets 2 o3 (some (Ae,gk)))),some (.mo (.set 2 o4)),some (.mo (.set 2 o5)),some (.cells [.bool BJ,.bool BK]),some (.cells [.i DN,.i DM]),some (.mo (.mit 2 gk.1 gk.2.1 gk.2.2 o8 (some Dl))),some (.bools ([false,true]:List Bool)),some (.cells [.i y1.1.1,.i y1.1.2])]
def xS (c:AB) (q:AA) (pos:List Int) (ln:Nat) (o1:List Int) (o3:List (Option KS)) (Ae:Nat) (gk:LK) (o4:KS) (JD:List Int):DH:=[some (.cells (AH c++AD q++[.ints pos,.msl 1 1 0 ln])),some (.ints o1),some (.cells [.ref 0 0]),some (.mo (.sets 2 o3 (some (Ae,gk)))),some (.mo (.mit 2 gk.1 gk.2.1 gk.2.2 o4 (some JD)))]
def xR (c:AB) (q:AA) (pos:List Int) (ln:Nat) (o1:List Int) (o3:List (Option KS)) (Ae:Nat) (gk:LK) (o4 o5:KS) (BJ BK:Bool) (o7:KS) (JC:List Int):DH:=[some (.cells (AH c++AD q++[.ints pos,.msl 1 1 0 ln])),some (.ints o1),some (.cells [.ref 0 0]),some (.mo (.sets 2 o3 (some (Ae,gk)))),some (.mo (.set 2 o4)),some (.mo (.set 2 o5)),some (.cells [.bool BJ,.bool BK]),some (.mo (.mit 2 gk.1 gk.2.1 gk.2.2 o7 (some JC)))]
def Zz (c:AB) (q:AA) (pos:List Int) (ln:Nat) (o1:List Int) (o3:List (Option KS)) (o4 o5:KS) (BJ BK:Bool):DH:=[some (.cells (AH c++AD q++[.ints pos,.msl 1 1 0 ln])),some (.ints o1),some (.cells [.ref 0 0]),some (.mo (.sets 2 o3 none)),some (.mo (.set 2 o4)),some (.mo (.set 2 o5)),some (.cells [.bool BJ,.bool BK])]
def XU (c:AB) (AU:Int) (q:AA) (pos:List Int) (ln:Nat) (y2:(List Int)) (o3:List (Option KS)) (o4 o5:KS) (BJ BK:Bool):St:=⟨(AM 208 [(1,.ref 2 0),(3,.fn 103 1 (L1 [.ref 2 0])),(5,.msl 3 1 0 ((((c.cells.length:Int)+1)).toNat)),(7,.fn 104 1 (L1 [.ref 2 0])),(14,.it 5),(16,.i AU),(18,.ref 6 0)]),([some (.cells (AH c++AD q++[.ints pos,.msl 1 1 0 ln])),some (.ints y2),some (.cells [.ref 0 0]),some (.mo (.sets 2 o3 none)),some (.mo (.set 2 o4)),some (.mo (.set 2 o5)),some (.cells [.bool BJ,.bool BK])]:DH)⟩
def xQ (c:AB) (q:AA) (pos:List Int) (ln:Nat) (y2:(List Int)) (o3:List (Option KS)) (o4 o5:KS) (BJ BK:Bool):DH:=[some (.cells (AH c++AD q++[.ints pos,.msl 1 1 0 ln])),some (.ints y2),some (.cells [.ref 0 0]),some (.mo (.sets 2 o3 none)),some (.mo (.set 2 o4)),some (.mo (.set 2 o5)),some (.cells [.bool BJ,.bool BK])]
def dA (c:AB) (AU:Int) (q:AA) (pos:List Int) (ln:Nat) (y3:(List Int)) (o3:List (Option KS)) (o4 o5:KS) (BJ BK:Bool):St:=⟨(AM 208 [(1,.ref 2 0),(3,.fn 103 1 (L1 [.ref 2 0])),(5,.msl 3 1 0 ((((c.cells.length:Int)+1)).toNat)),(7,.fn 104 1 (L1 [.ref 2 0])),(14,.it 5),(16,.i AU)]),([some (.cells (AH c++AD q++[.ints pos,.msl 1 1 0 ln])),some (.ints y3),some (.cells [.ref 0 0]),some (.mo (.sets 2 o3 none)),some (.mo (.set 2 o4)),some (.mo (.set 2 o5)),some (.cells [.bool BJ,.bool BK])]:DH)⟩
def cz (c:AB) (AU:Int) (q:AA) (pos:List Int) (ln:Nat) (y2:(List Int)) (o3:List (Option KS)) (o4 o5:KS) (BJ BK:Bool):St:=⟨(AM 208 [(1,.ref 2 0),(3,.fn 103 1 (L1 [.ref 2 0])),(5,.msl 3 1 0 ((((c.cells.length:Int)+1)).toNat)),(7,.fn 104 1 (L1 [.ref 2 0])),(14,.it 5),(16,.i AU)]),([some (.cells (AH c++AD q++[.ints pos,.msl 1 1 0 ln])),some (.ints y2),some (.cells [.ref 0 0]),some (.mo (.sets 2 o3 none)),some (.mo (.set 2 o4)),some (.mo (.set 2 o5)),some (.cells [.bool BJ,.bool BK])]:DH)⟩
def xO (c:AB) (q:AA) (pos:List Int) (ln:Nat) (o1:List Int) (o3:List (Option KS)) (Ae:Nat) (gk:LK) (o4 o5:KS) (BJ BK:Bool) (o7:KS) (y1:List Int):DH:=[some (.cells (AH c++AD q++[.ints pos,.msl 1 1 0 ln])),some (.ints o1),some (.cells [.ref 0 0]),some (.mo (.sets 2 o3 (some (Ae,gk)))),some (.mo (.set 2 o4)),some (.mo (.set 2 o5)),some (.cells [.bool BJ,.bool BK]),some (.mo (.mit 2 gk.1 gk.2.1 gk.2.2 (o7.erase y1) (some y1)))]
inductive Hb where
 | l1 (C6:Int) (o3:List (Option KS))
 | l2 (Ao:Int) (o1:List Int) (o3:List (Option KS))
 | l3 (x8 Ao:Int) (o1:List Int) (o3:List (Option KS)) (Ae:Nat) (o4:KS)
 | l4 (AU:Int) (o1:List Int) (o3:List (Option KS)) (o4:KS)
 | l5 (x8 Ao E9:Int) (o1:List Int) (o3:List (Option KS)) (Ae:Nat) (Aj FH:Int) (o5:KS) (FG:List Int)
 | l6 (AU:Int) (o1:List Int) (o3:List (Option KS)) (Ae:Nat) (o4 o7:KS)
 | l7 (AU Dj:Int) (o1:List Int) (o3:List (Option KS)) (Ae:Nat) (o4 o5:KS) (BJ BK:Bool) (DN DM:Int) (o8:KS) (Dl:List Int)
 | l8 (x8 Ao:Int) (o1:List Int) (o3:List (Option KS)) (Ae:Nat) (o4:KS) (JD:List Int)
 | l9 (AU:Int) (o1:List Int) (o3:List (Option KS)) (Ae:Nat) (o4 o5:KS) (BJ BK:Bool) (o7:KS) (JC:List Int)
def QV (n:Nat) (self:Hb -> Option (Bool×(List Int))) (c:AB) (q:AA) (pos:List Int) (ln:Nat) (lost:List Int) (C6:Int) (o3:List (Option KS)):Option (Bool×(List Int)):=
 bif (decide (C6<(((((c.cells.length:Int)+1)).toNat:Nat):Int))) then
  if (0<=C6/\ C6<(((((c.cells.length:Int)+1)).toNat:Nat):Int))/\ 0+((C6).toNat)<o3.length/\ AI (C6+1) then
   self (.l1 (C6+1) (o3.set (0+((C6).toNat)) (some ([]:KS))))
  else none
 else
  if ((0:Int)<=0/\ 0<(((((c.cells.length:Int)+1)).toNat:Nat):Int))/\ 0+0<o3.length/\ (o3.getD (0+0) none).isSome=true then
   self (.l2 0 lost (o3.set (0+0) (some (CN [0,0] ((o3.getD (0+0) none).getD [])))))
  else none
def MJ (n:Nat) (self:Hb -> Option (Bool×(List Int))) (c:AB) (q:AA) (pos:List Int) (ln:Nat) (lost:List Int) (Ao:Int) (o1:List Int) (o3:List (Option KS)):Option (Bool×(List Int)):=
 bif (decide (Ao<(c.cells.length:Int))) then
  if (o3.getD (0+((Ao).toNat)) none).isSome=true then
   if (0<=Ao/\ Ao<(((((c.cells.length:Int)+1)).toNat:Nat):Int))/\ 0+((Ao).toNat)<o3.length/\ (o3.getD (0+((Ao).toNat)) none).isSome=true then
    self (.l3 Ao Ao o1 o3 (0+((Ao).toNat)) ((o3.getD (0+((Ao).toNat)) none).getD []))
   else none
  else none
 else
  bif (decide ((c.runs.length:Int)>0)) then
   if AI ((c.runs.length:Int)-1)/\ ((0:Int)<=((c.runs.length:Int)-1)/\ ((c.runs.length:Int)-1)<(c.runs.length:Int))/\ AI ((c.cells.length:Int)-1) then
    self (.l4 ((c.cells.length:Int)-1) o1 o3 (CN [((c.runs.length:Int)-1),c.runs.getD ((((c.runs.length:Int)-1)).toNat) 0] (CN [(c.runs.length:Int),0] ([]:KS))))
   else none
  else
   if AI ((c.cells.length:Int)-1) then
    self (.l4 ((c.cells.length:Int)-1) o1 o3 (CN [(c.runs.length:Int),0] ([]:KS)))
   else none
def qe (n:Nat) (self:Hb -> Option (Bool×(List Int))) (c:AB) (q:AA) (pos:List Int) (ln:Nat) (lost:List Int) (x8 Ao:Int) (o1:List Int) (o3:List (Option KS)) (Ae:Nat) (o4:KS):Option (Bool×(List Int)):=
 if (o3.getD Ae none).isSome=true then
  He o4 (
   if AI (Ao+1) then
    self (.l2 (Ao+1) o1 o3)
   else none) fun y1=>
   if (o3.getD Ae none).isSome=true then
    self (.l5 x8 Ao 0 o1 o3 Ae (y1.getD 0 0) (y1.getD 1 0) (o4.erase y1) y1)
   else none
 else none
def QU (n:Nat) (self:Hb -> Option (Bool×(List Int))) (c:AB) (q:AA) (pos:List Int) (ln:Nat) (lost:List Int) (AU:Int) (o1:List Int) (o3:List (Option KS)) (o4:KS):Option (Bool×(List Int)):=
 bif (decide (AU>=0)) then
  if (o3.getD (0+((AU).toNat)) none).isSome=true then
   if (0<=AU/\ AU<(((((c.cells.length:Int)+1)).toNat:Nat):Int))/\ 0+((AU).toNat)<o3.length/\ (o3.getD (0+((AU).toNat)) none).isSome=true then
    self (.l6 AU o1 o3 (0+((AU).toNat)) o4 ((o3.getD (0+((AU).toNat)) none).getD []))
   else none
  else none
 else
  some (true,o1)
def MI (n:Nat) (self:Hb -> Option (Bool×(List Int))) (c:AB) (q:AA) (pos:List Int) (ln:Nat) (lost:List Int) (x8 Ao E9:Int) (o1:List Int) (o3:List (Option KS)) (Ae:Nat) (Aj FH:Int) (o5:KS) (FG:List Int):Option (Bool×(List Int)):=
 bif (decide (E9<2)) then
  if (0<=E9/\ E9<((2:Nat):Int))/\ 0+((E9).toNat)<([false,true]:List Bool).length then
   (RH n (Aj,FH) (([false,true]:List Bool).getD (0+((E9).toNat)) false) c q pos ln o1).bind fun y1=>
    bif y1.2.1 then
     (RS n x8 (([false,true]:List Bool).getD (0+((E9).toNat)) false) c q pos ln y1.2.2).bind fun y2=>
      bif y2.1 then
       if AI (x8+1)/\ (0<=(x8+1)/\ (x8+1)<(((((c.cells.length:Int)+1)).toNat:Nat):Int))/\ 0+(((x8+1)).toNat)<o3.length/\ Ae≠0+(((x8+1)).toNat)/\ (o3.getD (0+(((x8+1)).toNat)) none).isSome=true/\ AI (E9+1) then
        self (.l5 x8 Ao (E9+1) y2.2 (o3.set (0+(((x8+1)).toNat)) (some (CN [y1.1.1,y1.1.2] ((o3.getD (0+(((x8+1)).toNat)) none).getD [])))) Ae Aj FH o5 FG)
       else none
      else
       if AI (E9+1) then
        self (.l5 x8 Ao (E9+1) y2.2 o3 Ae Aj FH o5 FG)
       else none
    else
     if AI (E9+1) then
      self (.l5 x8 Ao (E9+1) y1.2.2 o3 Ae Aj FH o5 FG)
     else none
  else none
 else
  self (.l8 x8 Ao o1 o3 Ae o5 FG)
def qd (n:Nat) (self:Hb -> Option (Bool×(List Int))) (c:AB) (q:AA) (pos:List Int) (ln:Nat) (lost:List Int) (AU:Int) (o1:List Int) (o3:List (Option KS)) (Ae:Nat) (o4 o7:KS):Option (Bool×(List Int)):=
 if (o3.getD Ae none).isSome=true then
  He o7 (
   if 0<=AU/\ AU<(c.cells.length:Int) then
    (DP n (c.cells.getD ((AU).toNat) 0) c.set c q pos ln o1).bind fun y2=>
     (GD n (c.cells.getD ((AU).toNat) 0) c q pos ln y2).bind fun y3=>
      if AI (AU-1) then
       self (.l4 (AU-1) y3 o3 ([]:KS))
      else none
   else none) fun y1=>
   if (o3.getD Ae none).isSome=true then
    self (.l7 AU 0 o1 o3 Ae o4 ([]:KS) false false (y1.getD 0 0) (y1.getD 1 0) (o7.erase y1) y1)
   else none
 else none
def MH (n:Nat) (self:Hb -> Option (Bool×(List Int))) (c:AB) (q:AA) (pos:List Int) (ln:Nat) (lost:List Int) (AU Dj:Int) (o1:List Int) (o3:List (Option KS)) (Ae:Nat) (o4 o5:KS) (BJ BK:Bool) (DN DM:Int) (o8:KS) (Dl:List Int):Option (Bool×(List Int)):=
 bif (decide (Dj<2)) then
  if (0<=Dj/\ Dj<((2:Nat):Int))/\ 0+((Dj).toNat)<([false,true]:List Bool).length then
   (RH n (DN,DM) (([false,true]:List Bool).getD (0+((Dj).toNat)) false) c q pos ln o1).bind fun y1=>
    bif y1.2.1 then
     (RS n AU (([false,true]:List Bool).getD (0+((Dj).toNat)) false) c q pos ln y1.2.2).bind fun y2=>
      bif y2.1 then
       bif (o4.contains [y1.1.1,y1.1.2]) then
        bif (Dj==0) then
         if AI (Dj+1) then
          self (.l7 AU (Dj+1) y2.2 o3 Ae o4 (CN [DN,DM] o5) true BK DN DM o8 Dl)
         else none
        else
         bif (Dj==1) then
          if AI (Dj+1) then
           self (.l7 AU (Dj+1) y2.2 o3 Ae o4 (CN [DN,DM] o5) BJ true DN DM o8 Dl)
          else none
         else
          none
       else
        if AI (Dj+1) then
         self (.l7 AU (Dj+1) y2.2 o3 Ae o4 o5 BJ BK DN DM o8 Dl)
        else none
      else
       if AI (Dj+1) then
        self (.l7 AU (Dj+1) y2.2 o3 Ae o4 o5 BJ BK DN DM o8 Dl)
       else none
    else
     if AI (Dj+1) then
      self (.l7 AU (Dj+1) y1.2.2 o3 Ae o4 o5 BJ BK DN DM o8 Dl)
     else none
  else none
 else
  self (.l9 AU o1 o3 Ae o4 o5 BJ BK o8 Dl)
def QT (n:Nat) (self:Hb -> Option (Bool×(List Int))) (c:AB) (q:AA) (pos:List Int) (ln:Nat) (lost:List Int) (x8 Ao:Int) (o1:List Int) (o3:List (Option KS)) (Ae:Nat) (o4:KS) (JD:List Int):Option (Bool×(List Int)):=
 if (o3.getD Ae none).isSome=true then
  He o4 (
   if AI (Ao+1) then
    self (.l2 (Ao+1) o1 o3)
   else none) fun y1=>
   if (o3.getD Ae none).isSome=true then
    self (.l5 x8 Ao 0 o1 o3 Ae (y1.getD 0 0) (y1.getD 1 0) (o4.erase y1) y1)
   else none
 else none
def QS (n:Nat) (self:Hb -> Option (Bool×(List Int))) (c:AB) (q:AA) (pos:List Int) (ln:Nat) (lost:List Int) (AU:Int) (o1:List Int) (o3:List (Option KS)) (Ae:Nat) (o4 o5:KS) (BJ BK:Bool) (o7:KS) (JC:List Int):Option (Bool×(List Int)):=
 if (o3.getD Ae none).isSome=true then
  He o7 (
   bif (!BK) then
    if 0<=AU/\ AU<(c.cells.length:Int) then
     (DP n (c.cells.getD ((AU).toNat) 0) c.set c q pos ln o1).bind fun y2=>
      bif (!BJ) then
       (GD n (c.cells.getD ((AU).toNat) 0) c q pos ln y2).bind fun y3=>
        if AI (AU-1) then
         self (.l4 (AU-1) y3 o3 o5)
        else none
      else
       if AI (AU-1) then
        self (.l4 (AU-1) y2 o3 o5)
       else none
    else none
   else
    bif (!BJ) then
     if 0<=AU/\ AU<(c.cells.length:Int) then
      (GD n (c.cells.getD ((AU).toNat) 0) c q pos ln o1).bind fun y2=>
       if AI (AU-1) then
        self (.l4 (AU-1) y2 o3 o5)
       else none
     else none
    else
     if AI (AU-1) then
      self (.l4 (AU-1) o1 o3 o5)
     else none) fun y1=>
   if (o3.getD Ae none).isSome=true then
    self (.l7 AU 0 o1 o3 Ae o4 o5 BJ BK (y1.getD 0 0) (y1.getD 1 0) (o7.erase y1) y1)
   else none
 else none
def Xv (n:Nat) (self:Hb -> Option (Bool×(List Int))) (c:AB) (q:AA) (pos:List Int) (ln:Nat) (lost:List Int):Option (Bool×(List Int)):=
 bif ((c.cells.length:Int)==0) then
  some (((c.runs.length:Int)==0),lost)
 else
  if AI ((c.cells.length:Int)+1)/\ ((((c.cells.length:Int)+1):Int)=((c.cells.length:Int)+1)/\ (0:Int)<=((c.cells.length:Int)+1)/\ (((c.cells.length:Int)+1):Int)<=1000000000000) then
   self (.l1 0 (List.replicate ((((c.cells.length:Int)+1)).toNat) (none:Option KS)))
  else none
def BC (c:AB) (q:AA) (pos:List Int) (ln:Nat) (lost:List Int):Nat -> Hb -> Option (Bool×(List Int))
 | 0,_=>none
 | n+1,.l1 C6 o3=>QV n (BC c q pos ln lost n) c q pos ln lost C6 o3
 | n+1,.l2 Ao o1 o3=>MJ n (BC c q pos ln lost n) c q pos ln lost Ao o1 o3
 | n+1,.l3 x8 Ao o1 o3 Ae o4=>qe n (BC c q pos ln lost n) c q pos ln lost x8 Ao o1 o3 Ae o4
 | n+1,.l4 AU o1 o3 o4=>QU n (BC c q pos ln lost n) c q pos ln lost AU o1 o3 o4
 | n+1,.l5 x8 Ao E9 o1 o3 Ae Aj FH o5 FG=>MI n (BC c q pos ln lost n) c q pos ln lost x8 Ao E9 o1 o3 Ae Aj FH o5 FG
 | n+1,.l6 AU o1 o3 Ae o4 o7=>qd n (BC c q pos ln lost n) c q pos ln lost AU o1 o3 Ae o4 o7
 | n+1,.l7 AU Dj o1 o3 Ae o4 o5 BJ BK DN DM o8 Dl=>MH n (BC c q pos ln lost n) c q pos ln lost AU Dj o1 o3 Ae o4 o5 BJ BK DN DM o8 Dl
 | n+1,.l8 x8 Ao o1 o3 Ae o4 JD=>QT n (BC c q pos ln lost n) c q pos ln lost x8 Ao o1 o3 Ae o4 JD
 | n+1,.l9 AU o1 o3 Ae o4 o5 BJ BK o7 JC=>QS n (BC c q pos ln lost n) c q pos ln lost AU o1 o3 Ae o4 o5 BJ BK o7 JC
def N9 (n:Nat) (c:AB) (q:AA) (pos:List Int) (ln:Nat) (lost:List Int):Option (Bool×(List Int)):=Xv n (BC c q pos ln lost n) c q pos ln lost
def qf (n B:Nat) (N:Yd 2) (c:AB) (q:AA) (pos:List Int) (ln:Nat) (lost:List Int) (r:Bool×(List Int)):Hb -> Prop
 | .l1 C6 o3=>∀ m0:Nat,n<=m0 -> TW B N (FQ Tryz.f72 2 (.bool r.1) [some (.cells (AH c++AD q++[.ints pos,.msl 1 1 0 ln])),some (.ints r.2)]) (Ak m0 (Au (AZ Tryz.f72) 0 [])) ⟨AM 208 [(1,.ref 2 0),(3,.fn 103 1 (L1 [.ref 2 0])),(4,.i (c.cells.length:Int)),(5,.msl 3 1 0 ((((c.cells.length:Int)+1)).toNat)),(44,.i (((((c.cells.length:Int)+1)).toNat:Nat):Int)),(45,.i C6)],[some (.cells (AH c++AD q++[.ints pos,.msl 1 1 0 ln])),some (.ints lost),some (.cells [.ref 0 0]),some (.mo (.sets 2 o3 none))]⟩
 | .l2 Ao o1 o3=>∀ m0:Nat,n<=m0 -> TW B N (FQ Tryz.f72 2 (.bool r.1) [some (.cells (AH c++AD q++[.ints pos,.msl 1 1 0 ln])),some (.ints r.2)]) (Ak m0 (Au (AZ Tryz.f72) 2 [])) ⟨AM 208 [(1,.ref 2 0),(3,.fn 103 1 (L1 [.ref 2 0])),(4,.i (c.cells.length:Int)),(5,.msl 3 1 0 ((((c.cells.length:Int)+1)).toNat)),(7,.fn 104 1 (L1 [.ref 2 0])),(58,.i (c.cells.length:Int)),(59,.i Ao)],[some (.cells (AH c++AD q++[.ints pos,.msl 1 1 0 ln])),some (.ints o1),some (.cells [.ref 0 0]),some (.mo (.sets 2 o3 none))]⟩
 | .l3 x8 Ao o1 o3 Ae o4=>∀ m0 m1:Nat,n<=m0 -> n<=m1 -> ∀ gk:LK,TW B N (FQ Tryz.f72 2 (.bool r.1) [some (.cells (AH c++AD q++[.ints pos,.msl 1 1 0 ln])),some (.ints r.2)]) (Ak m1 (Au (AZ Tryz.f72) 4 [m0])) ⟨AM 208 [(1,.ref 2 0),(3,.fn 103 1 (L1 [.ref 2 0])),(4,.i (c.cells.length:Int)),(5,.msl 3 1 0 ((((c.cells.length:Int)+1)).toNat)),(7,.fn 104 1 (L1 [.ref 2 0])),(8,.i x8),(58,.i (c.cells.length:Int)),(59,.i Ao),(66,.it 4)],[some (.cells (AH c++AD q++[.ints pos,.msl 1 1 0 ln])),some (.ints o1),some (.cells [.ref 0 0]),some (.mo (.sets 2 o3 (some (Ae,gk)))),some (.mo (.mit 2 gk.1 gk.2.1 gk.2.2 o4 none))]⟩
 | .l4 AU o1 o3 o4=>∀ m0:Nat,n<=m0 -> TW B N (FQ Tryz.f72 2 (.bool r.1) [some (.cells (AH c++AD q++[.ints pos,.msl 1 1 0 ln])),some (.ints r.2)]) (Ak m0 (Au (AZ Tryz.f72) 8 [])) ⟨AM 208 [(1,.ref 2 0),(3,.fn 103 1 (L1 [.ref 2 0])),(5,.msl 3 1 0 ((((c.cells.length:Int)+1)).toNat)),(7,.fn 104 1 (L1 [.ref 2 0])),(14,.it 4),(16,.i AU)],[some (.cells (AH c++AD q++[.ints pos,.msl 1 1 0 ln])),some (.ints o1),some (.cells [.ref 0 0]),some (.mo (.sets 2 o3 none)),some (.mo (.set 2 o4))]⟩
 | .l5 x8 Ao E9 o1 o3 Ae Aj FH o5 FG=>∀ m0 m1 m2:Nat,n<=m0 -> n<=m1 -> n<=m2 -> ∀ gk:LK,TW B N (FQ Tryz.f72 2 (.bool r.1) [some (.cells (AH c++AD q++[.ints pos,.msl 1 1 0 ln])),some (.ints r.2)]) (Ak m2 (Au (AZ Tryz.f72) 6 [m0,m1])) ⟨AM 208 [(1,.ref 2 0),(3,.fn 103 1 (L1 [.ref 2 0])),(4,.i (c.cells.length:Int)),(5,.msl 3 1 0 ((((c.cells.length:Int)+1)).toNat)),(7,.fn 104 1 (L1 [.ref 2 0])),(8,.i x8),(9,.ref 4 0),(58,.i (c.cells.length:Int)),(59,.i Ao),(66,.it 5),(71,.msl 6 1 0 2),(72,.i 2),(73,.i E9)],[some (.cells (AH c++AD q++[.ints pos,.msl 1 1 0 ln])),some (.ints o1),some (.cells [.ref 0 0]),some (.mo (.sets 2 o3 (some (Ae,gk)))),some (.cells [.i Aj,.i FH]),some (.mo (.mit 2 gk.1 gk.2.1 gk.2.2 o5 (some FG))),some (.bools ([false,true]:List Bool))]⟩
 | .l6 AU o1 o3 Ae o4 o7=>∀ m0 m1:Nat,n<=m0 -> n<=m1 -> ∀ gk:LK,TW B N (FQ Tryz.f72 2 (.bool r.1) [some (.cells (AH c++AD q++[.ints pos,.msl 1 1 0 ln])),some (.ints r.2)]) (Ak m1 (Au (AZ Tryz.f72) 10 [m0])) ⟨AM 208 [(1,.ref 2 0),(3,.fn 103 1 (L1 [.ref 2 0])),(5,.msl 3 1 0 ((((c.cells.length:Int)+1)).toNat)),(7,.fn 104 1 (L1 [.ref 2 0])),(14,.it 4),(16,.i AU),(17,.it 5),(18,.ref 6 0),(140,.it 7)],[some (.cells (AH c++AD q++[.ints pos,.msl 1 1 0 ln])),some (.ints o1),some (.cells [.ref 0 0]),some (.mo (.sets 2 o3 (some (Ae,gk)))),some (.mo (.set 2 o4)),some (.mo (.set 2 ([]:KS))),some (.cells [.bool false,.bool false]),some (.mo (.mit 2 gk.1 gk.2.1 gk.2.2 o7 none))]⟩
 | .l7 AU Dj o1 o3 Ae o4 o5 BJ BK DN DM o8 Dl=>∀ m0 m1 m2:Nat,n<=m0 -> n<=m1 -> n<=m2 -> ∀ gk:LK,TW B N (FQ Tryz.f72 2 (.bool r.1) [some (.cells (AH c++AD q++[.ints pos,.msl 1 1 0 ln])),some (.ints r.2)]) (Ak m2 (Au (AZ Tryz.f72) 12 [m0,m1])) ⟨AM 208 [(1,.ref 2 0),(3,.fn 103 1 (L1 [.ref 2 0])),(5,.msl 3 1 0 ((((c.cells.length:Int)+1)).toNat)),(7,.fn 104 1 (L1 [.ref 2 0])),(14,.it 4),(16,.i AU),(17,.it 5),(18,.ref 6 0),(19,.ref 7 0),(140,.it 8),(145,.msl 9 1 0 2),(146,.i 2),(147,.i Dj)],[some (.cells (AH c++AD q++[.ints pos,.msl 1 1 0 ln])),some (.ints o1),some (.cells [.ref 0 0]),some (.mo (.sets 2 o3 (some (Ae,gk)))),some (.mo (.set 2 o4)),some (.mo (.set 2 o5)),some (.cells [.bool BJ,.bool BK]),some (.cells [.i DN,.i DM]),some (.mo (.mit 2 gk.1 gk.2.1 gk.2.2 o8 (some Dl))),some (.bools ([false,true]:List Bool))]⟩
 | .l8 x8 Ao o1 o3 Ae o4 JD=>∀ m0 m1:Nat,n<=m0 -> n<=m1 -> ∀ gk:LK,TW B N (FQ Tryz.f72 2 (.bool r.1) [some (.cells (AH c++AD q++[.ints pos,.msl 1 1 0 ln])),some (.ints r.2)]) (Ak m1 (Au (AZ Tryz.f72) 4 [m0])) ⟨AM 208 [(1,.ref 2 0),(3,.fn 103 1 (L1 [.ref 2 0])),(4,.i (c.cells.length:Int)),(5,.msl 3 1 0 ((((c.cells.length:Int)+1)).toNat)),(7,.fn 104 1 (L1 [.ref 2 0])),(8,.i x8),(58,.i (c.cells.length:Int)),(59,.i Ao),(66,.it 4)],[some (.cells (AH c++AD q++[.ints pos,.msl 1 1 0 ln])),some (.ints o1),some (.cells [.ref 0 0]),some (.mo (.sets 2 o3 (some (Ae,gk)))),some (.mo (.mit 2 gk.1 gk.2.1 gk.2.2 o4 (some JD)))]⟩
 | .l9 AU o1 o3 Ae o4 o5 BJ BK o7 JC=>∀ m0 m1:Nat,n<=m0 -> n<=m1 -> ∀ gk:LK,TW B N (FQ Tryz.f72 2 (.bool r.1) [some (.cells (AH c++AD q++[.ints pos,.msl 1 1 0 ln])),some (.ints r.2)]) (Ak m1 (Au (AZ Tryz.f72) 10 [m0])) ⟨AM 208 [(1,.ref 2 0),(3,.fn 103 1 (L1 [.ref 2 0])),(5,.msl 3 1 0 ((((c.cells.length:Int)+1)).toNat)),(7,.fn 104 1 (L1 [.ref 2 0])),(14,.it 4),(16,.i AU),(17,.it 5),(18,.ref 6 0),(140,.it 7)],[some (.cells (AH c++AD q++[.ints pos,.msl 1 1 0 ln])),some (.ints o1),some (.cells [.ref 0 0]),some (.mo (.sets 2 o3 (some (Ae,gk)))),some (.mo (.set 2 o4)),some (.mo (.set 2 o5)),some (.cells [.bool BJ,.bool BK]),some (.mo (.mit 2 gk.1 gk.2.1 gk.2.2 o7 (some JC)))]⟩
theorem qg (B:Nat) (N:Yd 2) (c:AB) (q:AA) (pos:List Int) (ln:Nat) (lost:List Int):Al (BC c q pos ln lost) (qf · B N c q pos ln lost):=ia (fun _=>rfl) fun n AG pt r h=>by
 cases pt
 case l1 C6 o3=>
  intro m0 AC;refine rd AC fun m0 AC=>?_
  revert r;apply gO;exact bi 46 (gc (gi (gc (gi (gw 52 (lG CK [0,1,2,5] (AG _ _ · m0 AC))))))) (gc (gi (gc (gi (gi (jg (uZ (i:=0+0)) (lN CK [0,1,2,3] (AG _ _ · n Nat.le.refl))))))))
 case l2 Ao o1 o3=>
  intro m0 AC;refine rd AC fun m0 AC=>?_
  revert r;apply gO
  exact bi 60 (gn fun g0=>fun p r h=>by
   refine gs (BS 16 CK) [0,1,2,3] p (GQ (AZ Tryz.f72) 16 [m0]) (AM 208 [(1,.ref 2 0),(3,.fn 103 1 (L1 [.ref 2 0])),(4,.i (c.cells.length:Int)),(5,.msl 3 1 0 ((((c.cells.length:Int)+1)).toNat)),(7,.fn 104 1 (L1 [.ref 2 0])),(8,.i Ao),(58,.i (c.cells.length:Int)),(59,.i Ao)]) (Z1 c q pos ln o1 o3) ?_;refine BU.lock 3 (0+((Ao).toNat)) 2 (by kernel_rfl) g0 (by kernel_rfl) (fun gk=>(xV c q pos ln o1 o3 Ao gk)) (by kernel_rfl) fun gk=>?_
   revert r;apply gO;exact gc (gi (gc (gi (gi (jg (Eq.refl (0+((Ao).toNat))) (lN CK [0,1,2,3,4] (AG _ _ · m0 n AC Nat.le.refl gk)))))))) (bi 115 (gc (gn fun g0=>jw 118 g0 (jw 125 g0 (gc (gi (gw 130 (lN CK [0,1,2,3,4] (AG _ _ · n Nat.le.refl)))))))) (gw 130 (lN CK [0,1,2,3,4] (AG _ _ · n Nat.le.refl))))
 case l3 x8 Ao o1 o3 Ae o4=>
  intro m0 m1 AC Am gk;have AC:=zDW AC;refine rd Am fun m1 Am=>?_
  have p:=H0;refine gs (BS 17 CK) [0,1,2,3,4] p (GQ (AZ Tryz.f72) 17 [m0,m1]) (AM 208 [(1,.ref 2 0),(3,.fn 103 1 (L1 [.ref 2 0])),(4,.i (c.cells.length:Int)),(5,.msl 3 1 0 ((((c.cells.length:Int)+1)).toNat)),(7,.fn 104 1 (L1 [.ref 2 0])),(8,.i x8),(58,.i (c.cells.length:Int)),(59,.i Ao),(66,.it 4)]) (xP c q pos ln o1 o3 Ae gk o4) ?_;revert r;apply gO
  exact gn fun g0=>fun p r h=>by
   replace h:=Ut h;refine Av.nx (ops:=BA Tryz.f72 17) HC.x (by kernel_rfl) (by kernel_rfl) 4 3 Ae 2 o3 gk o4 none [1,3,4,5,7,8,58,59,66,68] [0,1,2,3] (AM 208 [(1,.ref 2 0),(3,.fn 103 1 (L1 [.ref 2 0])),(4,.i (c.cells.length:Int)),(5,.msl 3 1 0 ((((c.cells.length:Int)+1)).toNat)),(7,.fn 104 1 (L1 [.ref 2 0])),(8,.i x8),(58,.i (c.cells.length:Int)),(59,.i Ao),(68,.bool false)]) (Z1 c q pos ln o1 o3) [0,1,2,3,4] (fun y1=>AM 208 [(1,.ref 2 0),(3,.fn 103 1 (L1 [.ref 2 0])),(4,.i (c.cells.length:Int)),(5,.msl 3 1 0 ((((c.cells.length:Int)+1)).toNat)),(7,.fn 104 1 (L1 [.ref 2 0])),(8,.i x8),(58,.i (c.cells.length:Int)),(59,.i Ao),(66,.it 4),(68,.bool true)]) (fun y1=>(jD c q pos ln o1 o3 Ae gk o4 y1)) (by kernel_rfl) (by kernel_rfl) (by kernel_rfl) (by decide) g0 (by kernel_rfl) (by kernel_rfl) (fun _=>by kernel_rfl) (fun he=>?_) (fun y1 he=>?_)
   ·replace h:=h.1 he;revert r;apply gO;exact gw 98 (lG CK [0,1,2,3] (AG _ _ · m0 AC))
   ·replace h:=h.2 y1 he;revert r;apply gO;exact gi (jg (Eq.refl gk.1) (jg (Eq.refl gk.2.1) (jg (Eq.refl gk.2.2) (jt (lN CK [0,1,2,3,5,4,6] (AG _ _ · m0 m1 n AC Am Nat.le.refl gk))))))
 case l4 AU o1 o3 o4=>
  intro m0 AC;refine rd AC fun m0 AC=>?_
  revert r;apply gO
  exact bi 132 (gn fun g0=>fun p r h=>by
   refine gs (BS 36 CK) [0,1,2,3,4,5,6] p (GQ (AZ Tryz.f72) 36 [m0]) (AM 208 [(1,.ref 2 0),(3,.fn 103 1 (L1 [.ref 2 0])),(5,.msl 3 1 0 ((((c.cells.length:Int)+1)).toNat)),(7,.fn 104 1 (L1 [.ref 2 0])),(14,.it 4),(16,.i AU),(17,.it 5),(18,.ref 6 0)]) (Zy c q pos ln o1 o3 o4) ?_;refine BU.lock 3 (0+((AU).toNat)) 2 (by kernel_rfl) g0 (by kernel_rfl) (fun gk=>(xN c q pos ln o1 o3 AU gk o4)) (by kernel_rfl) fun gk=>?_
   revert r;apply gO;exact gc (gi (gc (gi (gi (jg (Eq.refl (0+((AU).toNat))) (lN CK [0,1,2,3,4,5,6,7] (AG _ _ · m0 n AC Nat.le.refl gk)))))))) (lE CK [2] [0,1])
 case l5 x8 Ao E9 o1 o3 Ae Aj FH o5 FG=>
  intro m0 m1 m2 AC Am Fe gk;have AC:=zDW AC;have Am:=zDW Am;refine rd Fe fun m2 Fe=>?_
  revert r;apply gO;exact bj 74 (fun c0=>gc (gn fun g0=>jg g0 (gn fun g1=>jg g1 (cn fun y1 A0=>jc (em (LG A0) [2,0,1] (Zx c q pos ln o1 o3 Ae gk Aj FH o5 FG)) (jt (bn (fun c1=>rO (jb 74 c0 (jg g0 (jg g1 (jc (em (LG A0) [2,0,1] (Zx c q pos ln o1 o3 Ae gk Aj FH o5 FG)) (jb 83 c1 (jt (ce VD [2,0,1] (xM c q pos ln y1 o3 Ae gk Aj FH o5 FG) fun _=>bi 89 (jg pY (gc (gw 93 (gc (gi (gc (gi (gc (gn fun g5=>gc (gi (jg (uY (g:=gk) g5) (gw 97 (lG CK [0,1,2,3,4,5,6] (AG _ _ · m0 m1 m2 AC Am Fe gk)))))))))))))) (gw 97 (lG CK [0,1,2,3,4,5,6] (AG _ _ · m0 m1 m2 AC Am Fe gk))))))))))) (fun c1=>rO (jb 74 c0 (jg g0 (jg g1 (jc (em (LG A0) [2,0,1] (Zx c q pos ln o1 o3 Ae gk Aj FH o5 FG)) (jb 83 c1 (jt (gw 97 (lG CK [0,1,2,3,4,5,6] (AG _ _ · m0 m1 m2 AC Am Fe gk)))))))))))))))) (fun _=>lG CK [0,1,2,3,5] (AG _ _ · m0 m1 AC Am gk))
 case l6 AU o1 o3 Ae o4 o7=>
  intro m0 m1 AC Am gk;have AC:=zDW AC;refine rd Am fun m1 Am=>?_
  have p:=H0;refine gs (BS 37 CK) [0,1,2,3,4,5,6,7] p (GQ (AZ Tryz.f72) 37 [m0,m1]) (AM 208 [(1,.ref 2 0),(3,.fn 103 1 (L1 [.ref 2 0])),(5,.msl 3 1 0 ((((c.cells.length:Int)+1)).toNat)),(7,.fn 104 1 (L1 [.ref 2 0])),(14,.it 4),(16,.i AU),(17,.it 5),(18,.ref 6 0),(140,.it 7)]) (xL c q pos ln o1 o3 Ae gk o4 o7) ?_;revert r;apply gO
  exact gn fun g0=>fun p r h=>by
   replace h:=Ut h;refine Av.nx (ops:=BA Tryz.f72 37) HC.x (by kernel_rfl) (by kernel_rfl) 7 3 Ae 2 o3 gk o7 none [1,3,5,7,14,16,17,18,140,142] [0,1,2,3,4,5,6] (AM 208 [(1,.ref 2 0),(3,.fn 103 1 (L1 [.ref 2 0])),(5,.msl 3 1 0 ((((c.cells.length:Int)+1)).toNat)),(7,.fn 104 1 (L1 [.ref 2 0])),(14,.it 4),(16,.i AU),(17,.it 5),(18,.ref 6 0),(142,.bool false)]) (Zy c q pos ln o1 o3 o4) [0,1,2,3,4,5,6,7] (fun y1=>AM 208 [(1,.ref 2 0),(3,.fn 103 1 (L1 [.ref 2 0])),(5,.msl 3 1 0 ((((c.cells.length:Int)+1)).toNat)),(7,.fn 104 1 (L1 [.ref 2 0])),(14,.it 4),(16,.i AU),(17,.it 5),(18,.ref 6 0),(140,.it 7),(142,.bool true)]) (fun y1=>(xT c q pos ln o1 o3 Ae gk o4 o7 y1)) (by kernel_rfl) (by kernel_rfl) (by kernel_rfl) (by decide) g0 (by kernel_rfl) (by kernel_rfl) (fun _=>by kernel_rfl) (fun he=>?_) (fun y1 he=>?_)
   ·replace h:=h.1 he;revert r;apply gO;exact jg (by decide:(0:Int)<=1/\ 1<((2:Nat):Int)) (jg eM (gn fun g1=>jg g1 (ce Fs [0,1] (Zy c q pos ln o1 o3 o4) fun y2=>jg (Eq.refl (cy c AU q pos ln y2 o3 o4)) (jg (by decide:(0:Int)<=0/\ 0<((2:Nat):Int)) (jg Xp (jg g1 (ce LF [0,1] (xU c q pos ln y2 o3 o4) fun y3=>jg (Eq.refl (dB c AU q pos ln y3 o3 o4)) (gw 134 (lG (tg:=[([],(cy c AU q pos ln y2 o3 o4)),([],(dB c AU q pos ln y3 o3 o4))]) CK [0,1,2,3,5] (AG _ _ · m0 AC))))))))))
   ·replace h:=h.2 y1 he;revert r;apply gO;exact gi (jg (Eq.refl gk.1) (jg (Eq.refl gk.2.1) (jg (Eq.refl gk.2.2) (jt (lN CK [0,1,2,3,4,5,6,8,7,9] (AG _ _ · m0 m1 n AC Am Nat.le.refl gk))))))
 case l7 AU Dj o1 o3 Ae o4 o5 BJ BK DN DM o8 Dl=>
  intro m0 m1 m2 AC Am Fe gk;have AC:=zDW AC;have Am:=zDW Am;refine rd Fe fun m2 Fe=>?_
  revert r;apply gO;exact bj 148 (fun c0=>gc (gn fun g0=>jg g0 (gn fun g1=>jg g1 (cn fun y1 A0=>jc (em (LG A0) [2,0,1] (Rr c q pos ln o1 o3 Ae gk o4 o5 BJ BK DN DM o8 Dl)) (jt (bn (fun c1=>rO (jb 148 c0 (jg g0 (jg g1 (jc (em (LG A0) [2,0,1] (Rr c q pos ln o1 o3 Ae gk o4 o5 BJ BK DN DM o8 Dl)) (jb 158 c1 (jt (cn fun y2 Bt=>jc (em (VD Bt) [2,0,1] (Z0 c q pos ln y1 o3 Ae gk o4 o5 BJ BK DN DM o8 Dl)) (bj 164 (fun c2=>bj 169 (fun c3=>bn (fun c4=>rO (jb 148 c0 (jo 149 (AQ.int (k:=.i64) (eq_of_beq c4)) (jg g0 (jg g1 (jc (em (LG A0) [2,0,1] (Rr c q pos ln o1 o3 Ae gk o4 o5 BJ BK DN DM o8 Dl)) (jb 158 c1 (jt (jc (em (VD Bt) [2,0,1] (Z0 c q pos ln y1 o3 Ae gk o4 o5 BJ BK DN DM o8 Dl)) (jb 164 c2 (jb 169 c3 (jg (by decide:(0:Int)<=0/\ 0<((2:Nat):Int)) (jt (gw 175 (lG CK [0,1,2,3,4,5,6,7,8,9] (AG _ _ · m0 m1 m2 AC Am Fe gk)))))))))))))))) (fun c4=>bn (fun c6=>rO (jb 148 c0 (jo 149 (AQ.int (k:=.i64) (eq_of_beq c6)) (jg g0 (jg g1 (jc (em (LG A0) [2,0,1] (Rr c q pos ln o1 o3 Ae gk o4 o5 BJ BK DN DM o8 Dl)) (jb 158 c1 (jt (jc (em (VD Bt) [2,0,1] (Z0 c q pos ln y1 o3 Ae gk o4 o5 BJ BK DN DM o8 Dl)) (jb 164 c2 (jb 169 c3 (jg (by decide:(0:Int)<=1/\ 1<((2:Nat):Int)) (jt (gw 175 (lG CK [0,1,2,3,4,5,6,7,8,9] (AG _ _ · m0 m1 m2 AC Am Fe gk)))))))))))))))) (fun c6=>nO))) (fun _=>gw 175 (lG CK [0,1,2,3,4,5,6,7,8,9] (AG _ _ · m0 m1 m2 AC Am Fe gk)))) (fun _=>gw 175 (lG CK [0,1,2,3,4,5,6,7,8,9] (AG _ _ · m0 m1 m2 AC Am Fe gk)))))))))))) (fun c1=>rO (jb 148 c0 (jg g0 (jg g1 (jc (em (LG A0) [2,0,1] (Rr c q pos ln o1 o3 Ae gk o4 o5 BJ BK DN DM o8 Dl)) (jb 158 c1 (jt (gw 175 (lG CK [0,1,2,3,4,5,6,7,8,9] (AG _ _ · m0 m1 m2 AC Am Fe gk)))))))))))))))) (fun _=>lG CK [0,1,2,3,4,5,6,8] (AG _ _ · m0 m1 AC Am gk))
 case l8 x8 Ao o1 o3 Ae o4 JD=>
  intro m0 m1 AC Am gk;have AC:=zDW AC;refine rd Am fun m1 Am=>?_
  have p:=H0;refine gs (BS 17 CK) [0,1,2,3,4] p (GQ (AZ Tryz.f72) 17 [m0,m1]) (AM 208 [(1,.ref 2 0),(3,.fn 103 1 (L1 [.ref 2 0])),(4,.i (c.cells.length:Int)),(5,.msl 3 1 0 ((((c.cells.length:Int)+1)).toNat)),(7,.fn 104 1 (L1 [.ref 2 0])),(8,.i x8),(58,.i (c.cells.length:Int)),(59,.i Ao),(66,.it 4)]) (xS c q pos ln o1 o3 Ae gk o4 JD) ?_;revert r;apply gO
  exact gn fun g0=>fun p r h=>by
   replace h:=Ut h;refine Av.nx (ops:=BA Tryz.f72 17) HC.x (by kernel_rfl) (by kernel_rfl) 4 3 Ae 2 o3 gk o4 (some JD) [1,3,4,5,7,8,58,59,66,68] [0,1,2,3] (AM 208 [(1,.ref 2 0),(3,.fn 103 1 (L1 [.ref 2 0])),(4,.i (c.cells.length:Int)),(5,.msl 3 1 0 ((((c.cells.length:Int)+1)).toNat)),(7,.fn 104 1 (L1 [.ref 2 0])),(8,.i x8),(58,.i (c.cells.length:Int)),(59,.i Ao),(68,.bool false)]) (Z1 c q pos ln o1 o3) [0,1,2,3,4] (fun y1=>AM 208 [(1,.ref 2 0),(3,.fn 103 1 (L1 [.ref 2 0])),(4,.i (c.cells.length:Int)),(5,.msl 3 1 0 ((((c.cells.length:Int)+1)).toNat)),(7,.fn 104 1 (L1 [.ref 2 0])),(8,.i x8),(58,.i (c.cells.length:Int)),(59,.i Ao),(66,.it 4),(68,.bool true)]) (fun y1=>(jD c q pos ln o1 o3 Ae gk o4 y1)) (by kernel_rfl) (by kernel_rfl) (by kernel_rfl) (by decide) g0 (by kernel_rfl) (by kernel_rfl) (fun _=>by kernel_rfl) (fun he=>?_) (fun y1 he=>?_)
   ·replace h:=h.1 he;revert r;apply gO;exact gw 98 (lG CK [0,1,2,3] (AG _ _ · m0 AC))
   ·replace h:=h.2 y1 he;revert r;apply gO;exact gi (jg (Eq.refl gk.1) (jg (Eq.refl gk.2.1) (jg (Eq.refl gk.2.2) (jt (lN CK [0,1,2,3,5,4,6] (AG _ _ · m0 m1 n AC Am Nat.le.refl gk))))))
 case l9 AU o1 o3 Ae o4 o5 BJ BK o7 JC=>
  intro m0 m1 AC Am gk;have AC:=zDW AC;refine rd Am fun m1 Am=>?_
  have p:=H0;refine gs (BS 37 CK) [0,1,2,3,4,5,6,7] p (GQ (AZ Tryz.f72) 37 [m0,m1]) (AM 208 [(1,.ref 2 0),(3,.fn 103 1 (L1 [.ref 2 0])),(5,.msl 3 1 0 ((((c.cells.length:Int)+1)).toNat)),(7,.fn 104 1 (L1 [.ref 2 0])),(14,.it 4),(16,.i AU),(17,.it 5),(18,.ref 6 0),(140,.it 7)]) (xR c q pos ln o1 o3 Ae gk o4 o5 BJ BK o7 JC) ?_;revert r;apply gO
  exact gn fun g0=>fun p r h=>by
   replace h:=Ut h;refine Av.nx (ops:=BA Tryz.f72 37) HC.x (by kernel_rfl) (by kernel_rfl) 7 3 Ae 2 o3 gk o7 (some JC) [1,3,5,7,14,16,17,18,140,142] [0,1,2,3,4,5,6] (AM 208 [(1,.ref 2 0),(3,.fn 103 1 (L1 [.ref 2 0])),(5,.msl 3 1 0 ((((c.cells.length:Int)+1)).toNat)),(7,.fn 104 1 (L1 [.ref 2 0])),(14,.it 4),(16,.i AU),(17,.it 5),(18,.ref 6 0),(142,.bool false)]) (Zz c q pos ln o1 o3 o4 o5 BJ BK) [0,1,2,3,4,5,6,7] (fun y1=>AM 208 [(1,.ref 2 0),(3,.fn 103 1 (L1 [.ref 2 0])),(5,.msl 3 1 0 ((((c.cells.length:Int)+1)).toNat)),(7,.fn 104 1 (L1 [.ref 2 0])),(14,.it 4),(16,.i AU),(17,.it 5),(18,.ref 6 0),(140,.it 7),(142,.bool true)]) (fun y1=>(xO c q pos ln o1 o3 Ae gk o4 o5 BJ BK o7 y1)) (by kernel_rfl) (by kernel_rfl) (by kernel_rfl) (by decide) g0 (by kernel_rfl) (by kernel_rfl) (fun _=>by kernel_rfl) (fun he=>?_) (fun y1 he=>?_)
   ·replace h:=h.1 he;revert r;apply gO;exact jg (by decide:(0:Int)<=1/\ 1<((2:Nat):Int)) (bi 179 (jg eM (gn fun g1=>jg g1 (ce Fs [0,1] (Zz c q pos ln o1 o3 o4 o5 BJ BK) fun y2=>jg (Eq.refl (XU c AU q pos ln y2 o3 o4 o5 BJ BK)) (jg (by decide:(0:Int)<=0/\ 0<((2:Nat):Int)) (bi 197 (jg Xp (jg g1 (ce LF [0,1] (xQ c q pos ln y2 o3 o4 o5 BJ BK) fun y3=>jg (Eq.refl (dA c AU q pos ln y3 o3 o4 o5 BJ BK)) (gw 134 (lG (tg:=[([],(XU c AU q pos ln y2 o3 o4 o5 BJ BK)),([],(dA c AU q pos ln y3 o3 o4 o5 BJ BK))]) CK [0,1,2,3,5] (AG _ _ · m0 AC)))))) (gw 134 (lG (tg:=[([],(XU c AU q pos ln y2 o3 o4 o5 BJ BK))]) CK [0,1,2,3,5] (AG _ _ · m0 AC)))))))) (jg (by decide:(0:Int)<=0/\ 0<((2:Nat):Int)) (bi 197 (jg Xp (gi (ce LF [0,1] (Zz c q pos ln o1 o3 o4 o5 BJ BK) fun y2=>jg (Eq.refl (cz c AU q pos ln y2 o3 o4 o5 BJ BK)) (gw 134 (lG (tg:=[([],(cz c AU q pos ln y2 o3 o4 o5 BJ BK))]) CK [0,1,2,3,5] (AG _ _ · m0 AC)))))) (gw 134 (lG CK [0,1,2,3,5] (AG _ _ · m0 AC))))))
   ·replace h:=h.2 y1 he;revert r;apply gO;exact gi (jg (Eq.refl gk.1) (jg (Eq.refl gk.2.1) (jg (Eq.refl gk.2.2) (jt (lN CK [0,1,2,3,4,5,6,8,7,9] (AG _ _ · m0 m1 n AC Am Nat.le.refl gk))))))
theorem qc {n:Nat} {c:AB} {q:AA} {pos:List Int} {ln:Nat} {lost:List Int} {r:Bool×(List Int)} (h:N9 n c q pos ln lost=some r):EQ 72 [.ref 0 0] [some (.cells (AH c++AD q++[.ints pos,.msl 1 1 0 ln])),some (.ints lost)] (.bool r.1) [some (.cells (AH c++AD q++[.ints pos,.msl 1 1 0 ln])),some (.ints r.2)] false:=by
 refine ot Tryz.func72 fun B N=>?_
 revert r;apply gO;exact bi 32 (lE CK [2] [0,1]) (gc (gw 41 (gi (lN CK [0,1,2,3] ((qg B N c q pos ln lost n) _ _ · n Nat.le.refl)))))
end Go.Proofs.YtgkhhfnhacibcaaGreatDoor
namespace Go.Proofs.YtgkhhfnhacibcaaGreatDoor
abbrev zEK:=@List.ext_getElem
abbrev zE3:=@Bool.not_eq_true
abbrev zFC:=@Option.isSome_none
abbrev zFD:=@Option.isSome_some
end Go.Proofs.YtgkhhfnhacibcaaGreatDoor
namespace Go.Proofs.YtgkhhfnhacibcaaGreatDoor
open Go.RowKit
section
variable {c:AB} {k:Nat} {pos lost:List Int} {q:AA}
theorem B3.unique {i:Nat} {D:Nat -> Nat -> Prop} {l l':List Int} (h:B3 c pos lost i D l) (h':B3 c pos lost i D l') (hi: ∀ j,B4 (l.getD j 0)) (BD: ∀ j,B4 (l'.getD j 0)):l=l':=by
 have e:l.length=l'.length:=h.1.trans h'.1.symm;refine zEK e fun j h1 h2=>?_
 have e1:l.getD j 0=l[j]:=by simp [h1]
 have e2:l'.getD j 0=l'[j]:=by simp [h2]
 rw [←e1,←e2];refine Ji (hi j) (BD j) fun s _=>?_
 rw [zDp,h.2,h'.2]
theorem eE {l:List Int} {i:Nat} {x:Int} (h: ∀ j,B4 (l.getD j 0)) (hx:B4 x): ∀ j,B4 ((l.set i x).getD j 0):=by
 intro j
 by_cases e:i=j
 ·subst e
  by_cases h2:i<l.length
  ·rw [KQ h2];exact hx
  ·rw [List.set_eq_of_length_le (by omega)];exact h i
 ·rw [getD_set_ne e];exact h j
theorem uO {n ln:Nat} {cell ss:Int} {l':List Int} (h:DP n cell ss c q pos ln lost=some l') (hi: ∀ j,B4 (lost.getD j 0)): ∀ j,B4 (l'.getD j 0):=by
 unfold DP Yr at h;split at h
 ·cases h;exact eE hi (E5 _ _ _)
 ·cases h
theorem tW {n ln:Nat} {cell:Int} {l':List Int} (h:GD n cell c q pos ln lost=some l') (hi: ∀ j,B4 (lost.getD j 0)): ∀ j,B4 (l'.getD j 0):=by
 unfold GD YY at h;split at h
 ·cases h;exact eE hi (E5 _ _ _)
 ·cases h
def H3 (c:AB):Prop:=c.runs.length<=256/\ ∀ j,j<c.runs.length -> c.runs.getD j 0<=256
structure Ke (c:AB) (d l:Int):Prop where
 d0:0<=d
 d1:d<=(c.runs.length:Int)
 l0:0<=l
 open' : 0 < l -> d < (c.runs.length : Int) /\ l <= c.runs.getD d.toNat 0
def nx (c:AB) (d l:Int) (inn:Bool):Option (Int×Int):=
 bif inn then (if d<(c.runs.length:Int)/\ l<c.runs.getD d.toNat 0 then some (d,l+1) else none)
 else (if l=0 then some (d,0) else if l=c.runs.getD d.toNat 0 then some (d+1,0) else none)
theorem tf {d l:Int} {inn:Bool} {t:Int×Int} (h:Ke c d l) (e:nx c d l inn=some t):Ke c t.1 t.2:=by
 obtain ⟨h1,h2,h3,h4⟩:=h;unfold nx at e;cases inn
 ·rw [zAc] at e;split at e
  ·cases e;exact ⟨h1,h2,zDZ _,fun h=>absurd h (Int.lt_irrefl _)⟩
  ·split at e
   ·cases e;have:=h4 (by omega);exact ⟨by show 0<=d+1;omega,by show d+1<=_;omega,zDZ _,fun h=>absurd h (Int.lt_irrefl _)⟩
   ·cases e
 ·rw [zCk] at e;split at e
  ·rename_i h5;cases e;exact ⟨h1,h2,by show 0<=l+1;omega,fun _=>⟨h5.1,by show l+1<=c.runs.getD d.toNat 0;omega⟩⟩
  ·cases e
theorem Ux {n ln:Nat} {d l:Int} {inn:Bool} (R:H3 c) (h:Ke c d l): ∃ t,RH n (d,l) inn c q pos ln lost=some (t,(nx c d l inn).isSome,lost)/\ ∀ u,nx c d l inn=some u -> t=u:=by
 obtain ⟨h1,h2,h3,h4⟩:=h;obtain ⟨hr,hv⟩:=R
 have hl:l<=256:=by
  by_cases h0:0<l
  ·obtain ⟨a1,a2⟩:=h4 h0;have:=hv d.toNat (by omega);omega
  ·omega
 unfold RH gj nx;cases inn
 ·rw [zAc,zAc]
  by_cases h0:l=0
  ·subst h0;refine ⟨(d,0),by simp,fun u hu=>by simpa using hu⟩
  ·obtain ⟨a1,a2⟩:=h4 (by omega);have e0:(l==0)=false:=by simpa using h0
   simp only [e0,zAc,zCt h0];rw [zB3 ⟨An.2 ⟨by omega,by omega⟩,h1,a1⟩];refine ⟨(d+1,0),?_,fun u hu=>?_⟩
   ·by_cases h5:l=c.runs.getD d.toNat 0
    ·rw [zB3 h5,←h5];simp
    ·rw [zCt h5];simpa using h5
   ·split at hu
    ·cases hu;rfl
    ·cases hu
 ·rw [zCk,zCk,zB3 (An.2 ⟨by show _<=l+1;omega,by show l+1<=_;omega⟩)]
  by_cases h5:d<(c.runs.length:Int)
  ·simp only [zCm h5,zCk];rw [zB3 ⟨h1,h5⟩];refine ⟨(d,l+1),?_,fun u hu=>?_⟩
   ·by_cases h6:l<c.runs.getD d.toNat 0
    ·rw [zB3 ⟨h5,h6⟩,zCm h6];rfl
    ·rw [zCt fun h=>h6 h.2,zAZ h6];rfl
   ·split at hu
    ·cases hu;rfl
    ·cases hu
  ·simp only [zAZ h5,zAc];refine ⟨(d,l+1),?_,fun u hu=>?_⟩
   ·rw [zCt fun h=>h5 h.1];rfl
   ·rw [zCt fun h=>h5 h.1] at hu;cases hu
def kd (c:AB) (pos:List Int) (i:Nat) (inn:Bool):Bool:=bif inn then (bits .and .i64 (AT c pos i) c.set != 0) else (bits .andNot .i64 (AT c pos i) c.set != 0)
theorem VC {n:Nat} {i:Nat} {inn:Bool} (W:Bv c k pos) (hi:i<c.cells.length):RS n (i:Int) inn c q pos pos.length lost=some (kd c pos i inn,lost):=by
 have hc:=W.cells i hi;unfold RS iS kd;simp only [zCi];cases inn
 ·rw [zAc,zB3 ⟨⟨by omega,by omega⟩,hc⟩];rfl
 ·rw [zCk,zB3 ⟨⟨by omega,by omega⟩,hc⟩];rfl
def Es (c:AB) (pos:List Int):Nat -> Int×Int -> Prop
 | 0,t=>t=(0,0)
 | i+1,t=>∃ s inn,Es c pos i s/\ nx c s.1 s.2 inn=some t/\ kd c pos i inn=true
theorem Es.ok (i:Nat): ∀ {t:Int×Int},Es c pos i t -> Ke c t.1 t.2:=by
 induction i with
 | zero=>
  intro t h;obtain rfl:t=(0,0):=h;exact ⟨zDZ _,by show (0:Int)<=_;omega,zDZ _,fun h=>absurd h (Int.lt_irrefl _)⟩
 | succ i ih=>
  rintro t ⟨s,inn,h1,h2,_⟩;exact tf (ih h1) h2
def TQ (c:AB) (t:Int×Int):Prop:=t=((c.runs.length:Int),0)∨(0<c.runs.length/\ t=((c.runs.length:Int)-1,c.runs.getD (c.runs.length-1) 0))
def H5 (c:AB) (pos:List Int):Nat -> Int×Int -> Prop
 | 0,t=>TQ c t
 | m+1,s=>Es c pos (c.cells.length-1-m) s/\ ∃ t inn,nx c s.1 s.2 inn=some t/\ kd c pos (c.cells.length-1-m) inn=true/\ H5 c pos m t
def Iq (c:AB) (pos:List Int) (i:Nat) (inn:Bool):Prop:=∃ s t,Es c pos i s/\ nx c s.1 s.2 inn=some t/\ kd c pos i inn=true/\ H5 c pos (c.cells.length-1-i) t
def IK (c:AB) (pos:List Int) (a s:Nat):Prop:=(¬ Iq c pos a true/\ tb c.set s=true)∨(¬ Iq c pos a false/\ tb c.set s=false)
def Dt (c:AB) (pos:List Int) (i:Nat) (o4:KS) (d l:Int) (inn:Bool):Bool:=match nx c d l inn with
 | some t=>kd c pos i inn&&o4.contains [t.1,t.2]
 | none=>false
theorem ut {n i oi:Nat} {o1:List Int} {o3:List (Option KS)} {o4 o5 o8:KS} {b0 b1:Bool} {d l:Int} {IR:List Int} (W:Bv c k pos) (R:H3 c) (hi:i<c.cells.length) (h:Ke c d l):
 BC c q pos pos.length lost (n+1) (.l7 i 0 o1 o3 oi o4 o5 b0 b1 d l o8 IR)=BC c q pos pos.length lost n (.l7 i 1 o1 o3 oi o4 (bif Dt c pos i o4 d l false then CN [d,l] o5 else o5) (b0||Dt c pos i o4 d l false) b1 d l o8 IR):=by
 obtain ⟨t,e1,e2⟩:=Ux (n:=n) (ln:=pos.length) (pos:=pos) (lost:=o1) (q:=q) (inn:=false) R h;have b:([false,true]:List Bool).getD (0+((0:Int)).toNat) false=false:=rfl;have r:AI ((0:Int)+1):=An.2 ⟨by decide,by decide⟩
 show MH n (BC c q pos pos.length lost n) c q pos pos.length lost i 0 o1 o3 oi o4 o5 b0 b1 d l o8 IR=_
 unfold MH Dt;rw [zCm (by decide),zCk,zB3 ⟨⟨by decide,by decide⟩,by decide⟩,b,e1,zCj];cases hn:nx c d l false with
 | none=>simp only [zFC,zAc,zB3 r,zD9];rfl
 | some u=>
  obtain rfl:=e2 u hn;simp only [zFD,zCk];rw [VC W hi,zCj];cases hk:kd c pos i false
  ·simp only [zAc,zB3 r,zD6,zD9];rfl
  ·simp only [zCk,zDG];cases hc:o4.contains [t.1,t.2]
   ·simp only [zAc,zB3 r,zD9];rfl
   ·have z:((0:Int)==0)=true:=rfl;simp only [zCk,z,zB3 r,Bool.or_true];rfl
theorem us {n i oi:Nat} {o1:List Int} {o3:List (Option KS)} {o4 o5 o8:KS} {b0 b1:Bool} {d l:Int} {IR:List Int} (W:Bv c k pos) (R:H3 c) (hi:i<c.cells.length) (h:Ke c d l):
 BC c q pos pos.length lost (n+1) (.l7 i 1 o1 o3 oi o4 o5 b0 b1 d l o8 IR)=BC c q pos pos.length lost n (.l7 i 2 o1 o3 oi o4 (bif Dt c pos i o4 d l true then CN [d,l] o5 else o5) b0 (b1||Dt c pos i o4 d l true) d l o8 IR):=by
 obtain ⟨t,e1,e2⟩:=Ux (n:=n) (ln:=pos.length) (pos:=pos) (lost:=o1) (q:=q) (inn:=true) R h;have b:([false,true]:List Bool).getD (0+((1:Int)).toNat) false=true:=rfl;have r:AI ((1:Int)+1):=An.2 ⟨by decide,by decide⟩
 show MH n (BC c q pos pos.length lost n) c q pos pos.length lost i 1 o1 o3 oi o4 o5 b0 b1 d l o8 IR=_
 unfold MH Dt;rw [zCm (by decide),zCk,zB3 ⟨⟨by decide,by decide⟩,by decide⟩,b,e1,zCj];cases hn:nx c d l true with
 | none=>simp only [zFC,zAc,zB3 r,zD9];rfl
 | some u=>
  obtain rfl:=e2 u hn;simp only [zFD,zCk];rw [VC W hi,zCj];cases hk:kd c pos i true
  ·simp only [zAc,zB3 r,zD6,zD9];rfl
  ·simp only [zCk,zDG];cases hc:o4.contains [t.1,t.2]
   ·simp only [zAc,zB3 r,zD9];rfl
   ·have z:((1:Int)==0)=false:=rfl;have z1:((1:Int)==1)=true:=rfl;simp only [zCk,zAc,z,z1,zB3 r,Bool.or_true];rfl
theorem ur {n i oi:Nat} {o1:List Int} {o3:List (Option KS)} {o4 o5 o8:KS} {b0 b1:Bool} {d l:Int} {IR:List Int}:
 BC c q pos pos.length lost (n+1) (.l7 i 2 o1 o3 oi o4 o5 b0 b1 d l o8 IR)=BC c q pos pos.length lost n (.l9 i o1 o3 oi o4 o5 b0 b1 o8 IR):=by
 show MH n (BC c q pos pos.length lost n) c q pos pos.length lost i 2 o1 o3 oi o4 o5 b0 b1 d l o8 IR=_
 unfold MH;rw [zAZ (by decide),zAc]
def FD (c:AB) (pos:List Int) (i:Nat) (o3:List (Option KS)) (d l:Int) (inn:Bool):List (Option KS):=match nx c d l inn with
 | some t=>bif kd c pos i inn then o3.set (i+1) (some (CN [t.1,t.2] ((o3.getD (i+1) none).getD []))) else o3
 | none=>o3
theorem uy {n i:Nat} {o1:List Int} {o3:List (Option KS)} {o5:KS} {d l:Int} {Fa:List Int} {Ao:Int} (W:Bv c k pos) (R:H3 c) (hi:i<c.cells.length) (h:Ke c d l) (h3:i+1<o3.length) (hs:(o3.getD (i+1) none).isSome=true):
 BC c q pos pos.length lost (n+1) (.l5 i Ao 0 o1 o3 i d l o5 Fa)=BC c q pos pos.length lost n (.l5 i Ao 1 o1 (FD c pos i o3 d l false) i d l o5 Fa):=by
 obtain ⟨t,e1,e2⟩:=Ux (n:=n) (ln:=pos.length) (pos:=pos) (lost:=o1) (q:=q) (inn:=false) R h;have b:([false,true]:List Bool).getD (0+((0:Int)).toNat) false=false:=rfl;have r:AI ((0:Int)+1):=An.2 ⟨by decide,by decide⟩;have Ah:=W.len;have t1:((((c.cells.length:Nat):Int)+1).toNat:Nat)=c.cells.length+1:=by omega
 have t2:0+(((i:Int)+1).toNat:Nat)=i+1:=by omega
 show MI n (BC c q pos pos.length lost n) c q pos pos.length lost i Ao 0 o1 o3 i d l o5 Fa=_
 unfold MI FD;rw [zCm (by decide),zCk,zB3 ⟨⟨by decide,by decide⟩,by decide⟩,b,e1,zCj];cases hn:nx c d l false with
 | none=>simp only [zFC,zAc,zB3 r];rfl
 | some u=>
  obtain rfl:=e2 u hn;simp only [zFD,zCk];rw [VC W hi,zCj];cases hk:kd c pos i false
  ·simp only [zAc,zB3 r];rfl
  ·simp only [zCk,t1,t2];rw [zB3 ⟨An.2 ⟨by omega,by omega⟩,⟨by omega,by omega⟩,h3,by omega,hs,r⟩];rfl
theorem ux {n i:Nat} {o1:List Int} {o3:List (Option KS)} {o5:KS} {d l:Int} {Fa:List Int} {Ao:Int} (W:Bv c k pos) (R:H3 c) (hi:i<c.cells.length) (h:Ke c d l) (h3:i+1<o3.length) (hs:(o3.getD (i+1) none).isSome=true):
 BC c q pos pos.length lost (n+1) (.l5 i Ao 1 o1 o3 i d l o5 Fa)=BC c q pos pos.length lost n (.l5 i Ao 2 o1 (FD c pos i o3 d l true) i d l o5 Fa):=by
 obtain ⟨t,e1,e2⟩:=Ux (n:=n) (ln:=pos.length) (pos:=pos) (lost:=o1) (q:=q) (inn:=true) R h;have b:([false,true]:List Bool).getD (0+((1:Int)).toNat) false=true:=rfl;have r:AI ((1:Int)+1):=An.2 ⟨by decide,by decide⟩;have Ah:=W.len;have t1:((((c.cells.length:Nat):Int)+1).toNat:Nat)=c.cells.length+1:=by omega
 have t2:0+(((i:Int)+1).toNat:Nat)=i+1:=by omega
 show MI n (BC c q pos pos.length lost n) c q pos pos.length lost i Ao 1 o1 o3 i d l o5 Fa=_
 unfold MI FD;rw [zCm (by decide),zCk,zB3 ⟨⟨by decide,by decide⟩,by decide⟩,b,e1,zCj];cases hn:nx c d l true with
 | none=>simp only [zFC,zAc,zB3 r];rfl
 | some u=>
  obtain rfl:=e2 u hn;simp only [zFD,zCk];rw [VC W hi,zCj];cases hk:kd c pos i true
  ·simp only [zAc,zB3 r];rfl
  ·simp only [zCk,t1,t2];rw [zB3 ⟨An.2 ⟨by omega,by omega⟩,⟨by omega,by omega⟩,h3,by omega,hs,r⟩];rfl
theorem uw {n i:Nat} {o1:List Int} {o3:List (Option KS)} {o5:KS} {d l:Int} {Fa:List Int} {Ao:Int}:
 BC c q pos pos.length lost (n+1) (.l5 i Ao 2 o1 o3 i d l o5 Fa)=BC c q pos pos.length lost n (.l8 i Ao o1 o3 i o5 Fa):=by
 show MI n (BC c q pos pos.length lost n) c q pos pos.length lost i Ao 2 o1 o3 i d l o5 Fa=_
 unfold MI;rw [zAZ (by decide),zAc]
def Fo (o3:List (Option KS)) (j:Nat):KS:=(o3.getD j none).getD []
theorem UT {i:Nat} {o3:List (Option KS)} {d l:Int} {inn:Bool}:(FD c pos i o3 d l inn).length=o3.length:=by
 unfold FD;split
 ·cases kd c pos i inn
  ·rfl
  ·rw [zCk,zDE]
 ·rfl
theorem V2 {α:Type} {l:List α} {i:Nat} {x y:α} (h:i<l.length):(l.set i x).getD i y=x:=by
 rw [u8,zDs h];rfl
theorem ak {α:Type} {l:List α} {i j:Nat} {x y:α} (h:i≠j):(l.set i x).getD j y=l.getD j y:=by
 rw [u8,zDi h,←u8]
theorem YE {i j:Nat} {o3:List (Option KS)} {d l:Int} {inn:Bool} (h:j≠i+1):(FD c pos i o3 d l inn).getD j none=o3.getD j none:=by
 unfold FD;split
 ·cases kd c pos i inn
  ·rfl
  ·rw [zCk,ak (fun e=>h e.symm)]
 ·rfl
theorem YF {i:Nat} {o3:List (Option KS)} {d l:Int} {inn:Bool} (hl:i+1<o3.length) {j:Nat} (h:(o3.getD j none).isSome=true):((FD c pos i o3 d l inn).getD j none).isSome=true:=by
 by_cases e:j=i+1
 ·subst e;unfold FD;split
  ·cases kd c pos i inn
   ·exact h
   ·rw [zCk,V2 hl];rfl
  ·exact h
 ·rw [YE e];exact h
theorem Oa {i:Nat} {o3:List (Option KS)} {d l:Int} {inn:Bool} (hl:i+1<o3.length) {x:List Int}:x∈Fo (FD c pos i o3 d l inn) (i+1)↔x∈Fo o3 (i+1)∨∃ t,nx c d l inn=some t/\ kd c pos i inn=true/\ x= [t.1,t.2]:=by
 unfold FD;split
 ·rename_i t ht;cases hk:kd c pos i inn
  ·rw [zAc];exact ⟨.inl,fun h=>h.elim id fun ⟨_,_,h,_⟩=>by cases h⟩
  ·rw [zCk];unfold Fo;rw [V2 hl]
   show x∈CN _ _↔_
   rw [Mm];constructor
   ·rintro (h | h)
    ·exact .inr ⟨t,ht,rfl,h⟩
    ·exact .inl h
   ·rintro (h | ⟨u,hu,_,h⟩)
    ·exact .inr h
    ·rw [ht] at hu;cases hu;exact .inl h
 ·rename_i hn;exact ⟨.inl,fun h=>h.elim id fun ⟨_,h,_⟩=>by rw [hn] at h;cases h⟩
structure Rows (c:AB) (pos:List Int) (i:Nat) (o3:List (Option KS)):Prop where
 len:o3.length=c.cells.length+1
 isSome: ∀ j,j<=c.cells.length -> (o3.getD j none).isSome=true
 row: ∀ j,j<=i -> ∀ x,x∈Fo o3 j↔∃ t:Int×Int,x= [t.1,t.2]/\ Es c pos j t
 rest: ∀ j,i<j -> j<=c.cells.length -> Fo o3 j= []
structure Nm (c:AB) (pos:List Int) (i:Nat) (rem:KS) (o3:List (Option KS)):Prop where
 hi:i<c.cells.length
 len:o3.length=c.cells.length+1
 isSome: ∀ j,j<=c.cells.length -> (o3.getD j none).isSome=true
 row: ∀ j,j<=i -> ∀ x,x∈Fo o3 j↔∃ t:Int×Int,x= [t.1,t.2]/\ Es c pos j t
 rest: ∀ j,i+1<j -> j<=c.cells.length -> Fo o3 j= []
 sub: ∀ x∈rem,∃ t:Int×Int,x= [t.1,t.2]/\ Es c pos i t
 next: ∀ x∈Fo o3 (i+1),∃ t:Int×Int,x= [t.1,t.2]/\ Es c pos (i+1) t
 cov: ∀ t,Es c pos i t -> [t.1,t.2]∈rem∨∀ inn u,nx c t.1 t.2 inn=some u -> kd c pos i inn=true -> [u.1,u.2]∈Fo o3 (i+1)
theorem Rows.mid {i:Nat} {o3:List (Option KS)} (h:Rows c pos i o3) (hi:i<c.cells.length):Nm c pos i (Fo o3 i) o3 where
 hi:=hi
 len:=h.len
 isSome:=h.isSome
 row:=h.row
 rest:=fun j hj hl=>h.rest j (by omega) hl
 sub:=fun x hx=>(h.row i (zC6 _) x).1 hx
 next:=fun x hx=>by rw [h.rest (i+1) (by omega) (by omega)] at hx;cases hx
 cov:=fun t ht=>.inl ((h.row i (zC6 _) _).2 ⟨t,rfl,ht⟩)
theorem Nm.rows {i:Nat} {o3:List (Option KS)} (h:Nm c pos i [] o3):Rows c pos (i+1) o3 where
 len:=h.len
 isSome:=h.isSome
 row:=fun j hj x=>by
  rcases zCx.1 (Nat.lt_succ_of_le hj) with hj | rfl
  ·exact h.row j (by omega) x
  ·refine ⟨h.next x,?_⟩;rintro ⟨t,rfl,s,inn,h1,h2,h3⟩;rcases h.cov s h1 with h4 | h4
   ·cases h4
   ·exact h4 inn t h2 h3
 rest:=h.rest
theorem Q5 {t u:Int×Int} (h:([t.1,t.2]:List Int)= [u.1,u.2]):t=u:=by
 obtain ⟨a,b⟩:=t;obtain ⟨a',b'⟩:=u;simp only [List.cons.injEq,and_true] at h;rw [h.1,h.2]
theorem Nm.go {i:Nat} {o3:List (Option KS)} {rem:KS} {t:Int×Int} (h:Nm c pos i rem o3) (ht: [t.1,t.2]∈rem):Nm c pos i (rem.erase [t.1,t.2]) (FD c pos i (FD c pos i o3 t.1 t.2 false) t.1 t.2 true):=by
 have hl:=h.len;have hi:=h.hi;have h1:i+1<o3.length:=by omega
 have h2:i+1<(FD c pos i o3 t.1 t.2 false).length:=by rw [UT];exact h1
 have AY: ∀ j,j≠i+1 -> Fo (FD c pos i (FD c pos i o3 t.1 t.2 false) t.1 t.2 true) j=Fo o3 j:=fun j hj=>by
  unfold Fo;rw [YE hj,YE hj]
 have hR:Es c pos i t:=by
  obtain ⟨u,e,hu⟩:=h.sub _ ht;rw [Q5 e];exact hu
 refine ⟨hi,by rw [UT,UT];exact hl,fun j hj=>YF h2 (YF h1 (h.isSome j hj)),fun j hj x=>?_,fun j hj Rz=>?_,fun x hx=>h.sub x (zFL hx),fun x hx=>?_,fun s hs=>?_⟩
 ·rw [AY j (by omega)];exact h.row j hj x
 ·rw [AY j (by omega)];exact h.rest j hj Rz
 ·rw [Oa h2,Oa h1] at hx;rcases hx with (hx | ⟨u,e1,e2,rfl⟩) | ⟨u,e1,e2,rfl⟩
  ·exact h.next x hx
  ·exact ⟨u,rfl,t,false,hR,e1,e2⟩
  ·exact ⟨u,rfl,t,true,hR,e1,e2⟩
 ·by_cases e:s=t
  ·subst e;refine .inr fun inn u h3 h4=>?_
   rw [Oa h2,Oa h1];cases inn
   ·exact .inl (.inr ⟨u,h3,h4,rfl⟩)
   ·exact .inr ⟨u,h3,h4,rfl⟩
  ·rcases h.cov s hs with h3 | h3
   ·exact .inl ((List.mem_erase_of_ne (fun e2=>e (Q5 e2))).2 h3)
   ·refine .inr fun inn u h4 h5=>?_
    rw [Oa h2,Oa h1];exact .inl (.inl (h3 inn u h4 h5))
def HL (c:AB) (pos lost:List Int) (r:Bool×List Int):Prop:=r.1=true/\ B3 c pos lost c.cells.length (IK c pos) r.2/\ ∀ j,B4 (r.2.getD j 0)
theorem HL.uniq (r r':Bool×List Int) (h:HL c pos lost r) (h':HL c pos lost r'):r=r':=by
 obtain ⟨b,l⟩:=r;obtain ⟨b',l'⟩:=r';obtain ⟨h1,h2,h3⟩:=h;obtain ⟨h4,h5,h6⟩:=h';have e1:b=true:=h1;have e2:b'=true:=h4;have e3:l=l':=B3.unique h2 h5 h3 h6;rw [e1,e2,e3]
theorem uD {i:Nat} {o1:List Int} {Ao:Int} (W:Bv c k pos) (R:H3 c) (hx:Ao=(i:Int)) (H: ∀ o3,Rows c pos (i+1) o3 -> Ad (fun n=>BC c q pos pos.length lost n (.l2 (Ao+1) o1 o3)) (HL c pos lost)):
 ∀ (m:Nat) (rem:KS) (o3:List (Option KS)) (Fa:List Int),rem.length=m -> Nm c pos i rem o3 -> Ad (fun n=>BC c q pos pos.length lost n (.l8 i Ao o1 o3 i rem Fa)) (HL c pos lost):=by
 intro m
 induction m with
 | zero=>
  intro rem o3 Fa hm hM;have:rem= []:=zDl hm;subst this;have hs:=hM.isSome i (by have:=hM.hi;omega);have r1:AI (Ao+1):=by rw [hx];exact (W.r64 hM.hi).2
  refine Ad.step 1 (fun n=>?_) (H o3 hM.rows)
  show QT n (BC c q pos pos.length lost n) c q pos pos.length lost i Ao o1 o3 i [] Fa=_
  unfold QT;rw [zB3 hs,gR,zB3 r1]
 | succ m ih=>
  intro rem o3 Fa hm hM;have hs:=hM.isSome i (by have:=hM.hi;omega);have AY:rem≠[]:=by intro e;rw [e] at hm;cases hm
  refine Ad.step 1 (g:=fun n=>He rem (if AI (Ao+1) then BC c q pos pos.length lost n (.l2 (Ao+1) o1 o3) else none) (fun y1=>BC c q pos pos.length lost n (.l5 i Ao 0 o1 o3 i (y1.getD 0 0) (y1.getD 1 0) (rem.erase y1) y1))) (fun n=>?_) (Ad.next AY (fun y hy=>?_) HL.uniq)
  ·show QT n (BC c q pos pos.length lost n) c q pos pos.length lost i Ao o1 o3 i rem Fa=_
   unfold QT;rw [zB3 hs];simp only [zB3 hs]
  ·obtain ⟨t,rfl,ht⟩:=hM.sub y hy;have hS:=ht.ok;have hl:=hM.len;have hi:=hM.hi;have h1:i+1<o3.length:=by omega
   have s1:=hM.isSome (i+1) (by omega);have h2:i+1<(FD c pos i o3 t.1 t.2 false).length:=by rw [UT];exact h1
   have s2:=YF (c:=c) (pos:=pos) (d:=t.1) (l:=t.2) (inn:=false) h1 s1;refine Ad.step 3 (fun n=>?_) (ih _ _ [t.1,t.2] (by rw [zE9 hy];omega) (hM.go hy))
   show BC c q pos pos.length lost (n+2+1) (.l5 i Ao 0 o1 o3 i t.1 t.2 (rem.erase [t.1,t.2]) [t.1,t.2])=_
   rw [uy W R hM.hi hS h1 s1,ux W R hM.hi hS h2 s2,uw]
def Pn (c:AB) (pos:List Int) (m:Nat) (o4:KS):Prop:=∀ x,x∈o4↔∃ t:Int×Int,x= [t.1,t.2]/\ H5 c pos m t
def Lz (c:AB) (pos lost:List Int) (m:Nat) (o1:List Int):Prop:=B3 c pos lost c.cells.length (fun a s=>c.cells.length<=a+m/\ IK c pos a s) o1/\ ∀ j,B4 (o1.getD j 0)
structure Bk (c:AB) (pos:List Int) (i m:Nat) (o5:KS) (b0 b1:Bool) (rem:KS):Prop where
 hi:i+m+1=c.cells.length
 sub: ∀ x∈rem,∃ t:Int×Int,x= [t.1,t.2]/\ Es c pos i t
 o5s: ∀ x∈o5,∃ t:Int×Int,x= [t.1,t.2]/\ H5 c pos (m+1) t
 b0s:b0=true -> Iq c pos i false
 b1s:b1=true -> Iq c pos i true
 cov: ∀ t,Es c pos i t -> [t.1,t.2]∈rem∨∀ inn u,nx c t.1 t.2 inn=some u -> kd c pos i inn=true -> H5 c pos m u -> [t.1,t.2]∈o5/\ (bif inn then b1 else b0)=true
theorem YZ {i m:Nat} {o4:KS} {d l:Int} {inn:Bool} (h:Pn c pos m o4):Dt c pos i o4 d l inn=true↔∃ u,nx c d l inn=some u/\ kd c pos i inn=true/\ H5 c pos m u:=by
 unfold Dt;split
 ·rename_i t ht;rw [zCp,zEH,h];constructor
  ·rintro ⟨h1,u,h2,h3⟩;exact ⟨t,ht,h1,by rw [Q5 h2];exact h3⟩
  ·rintro ⟨u,h1,h2,h3⟩;rw [ht] at h1;cases h1;exact ⟨h2,t,rfl,h3⟩
 ·rename_i hn;exact ⟨fun h=>(by cases h),fun ⟨u,h,_⟩=>by rw [hn] at h;cases h⟩
theorem Bk.go {i m:Nat} {o4 o5 rem:KS} {b0 b1:Bool} {t:Int×Int} (hE:Pn c pos m o4) (h:Bk c pos i m o5 b0 b1 rem) (ht: [t.1,t.2]∈rem):
 Bk c pos i m (bif Dt c pos i o4 t.1 t.2 true then CN [t.1,t.2] (bif Dt c pos i o4 t.1 t.2 false then CN [t.1,t.2] o5 else o5) else (bif Dt c pos i o4 t.1 t.2 false then CN [t.1,t.2] o5 else o5)) (b0||Dt c pos i o4 t.1 t.2 false) (b1||Dt c pos i o4 t.1 t.2 true) (rem.erase [t.1,t.2]):=by
 have hR:Es c pos i t:=by
  obtain ⟨u,e,hu⟩:=h.sub _ ht;rw [Q5 e];exact hu
 have ei:c.cells.length-1-i=m:=by have:=h.hi;omega
 have em:c.cells.length-1-m=i:=by have:=h.hi;omega
 have jn: ∀ inn,Dt c pos i o4 t.1 t.2 inn=true -> Iq c pos i inn:=fun inn ho=>by
  obtain ⟨u,h1,h2,h3⟩:=(YZ hE).1 ho;exact ⟨t,u,hR,h1,h2,by rw [ei];exact h3⟩
 have jO: ∀ inn,Dt c pos i o4 t.1 t.2 inn=true -> H5 c pos (m+1) t:=fun inn ho=>by
  obtain ⟨u,h1,h2,h3⟩:=(YZ hE).1 ho
  show Es c pos (c.cells.length-1-m) t/\ ∃ u inn,nx c t.1 t.2 inn=some u/\ kd c pos (c.cells.length-1-m) inn=true/\ H5 c pos m u
  rw [em];exact ⟨hR,u,inn,h1,h2,h3⟩
 have mem: ∀ x,x∈(bif Dt c pos i o4 t.1 t.2 true then CN [t.1,t.2] (bif Dt c pos i o4 t.1 t.2 false then CN [t.1,t.2] o5 else o5) else (bif Dt c pos i o4 t.1 t.2 false then CN [t.1,t.2] o5 else o5))↔x∈o5∨(x= [t.1,t.2]/\ (Dt c pos i o4 t.1 t.2 true=true∨Dt c pos i o4 t.1 t.2 false=true)):=fun x=>by
  cases Dt c pos i o4 t.1 t.2 true <;> cases Dt c pos i o4 t.1 t.2 false <;> simp only [zCk,zAc,Mm,zDU,or_false,and_false,or_true,true_or,and_true]
  ·exact Or.comm
  ·exact Or.comm
  ·exact ⟨fun h=>h.elim .inr fun h=>h.elim .inr .inl,fun h=>h.elim (fun h=>.inr (.inr h)) .inl⟩
 refine ⟨h.hi,fun x hx=>h.sub x (zFL hx),fun x hx=>?_,fun hb=>?_,fun hb=>?_,fun s hs=>?_⟩
 ·rcases (mem x).1 hx with hx | ⟨rfl,h1 | h1⟩
  ·exact h.o5s x hx
  ·exact ⟨t,rfl,jO _ h1⟩
  ·exact ⟨t,rfl,jO _ h1⟩
 ·rcases Bool.or_eq_true_iff.1 hb with hb | hb
  ·exact h.b0s hb
  ·exact jn _ hb
 ·rcases Bool.or_eq_true_iff.1 hb with hb | hb
  ·exact h.b1s hb
  ·exact jn _ hb
 ·by_cases e:s=t
  ·subst e;refine .inr fun inn u h1 h2 h3=>?_
   have ho:Dt c pos i o4 s.1 s.2 inn=true:=(YZ hE).2 ⟨u,h1,h2,h3⟩;rw [mem];cases inn
   ·exact ⟨.inr ⟨rfl,.inr ho⟩,by rw [zAc,ho,Bool.or_true]⟩
   ·exact ⟨.inr ⟨rfl,.inl ho⟩,by rw [zCk,ho,Bool.or_true]⟩
  ·rcases h.cov s hs with h3 | h3
   ·exact .inl ((List.mem_erase_of_ne (fun e2=>e (Q5 e2))).2 h3)
   ·refine .inr fun inn u h4 h5 h6=>?_
    obtain ⟨h7,h8⟩:=h3 inn u h4 h5 h6;rw [mem];refine ⟨.inl h7,?_⟩;cases inn
    ·rw [zAc] at h8 ⊢;rw [h8];rfl
    ·rw [zCk] at h8 ⊢;rw [h8];rfl
theorem Bk.end' {i m:Nat} {o5:KS} {b0 b1:Bool} (h:Bk c pos i m o5 b0 b1 []):Pn c pos (m+1) o5/\ (b0=true↔Iq c pos i false)/\ (b1=true↔Iq c pos i true):=by
 have ei:c.cells.length-1-i=m:=by have:=h.hi;omega
 have em:c.cells.length-1-m=i:=by have:=h.hi;omega
 refine ⟨fun x=>⟨h.o5s x,?_⟩,⟨h.b0s,?_⟩,⟨h.b1s,?_⟩⟩
 ·rintro ⟨t,rfl,h1⟩;have h1:Es c pos (c.cells.length-1-m) t/\ ∃ u inn,nx c t.1 t.2 inn=some u/\ kd c pos (c.cells.length-1-m) inn=true/\ H5 c pos m u:=h1;rw [em] at h1;obtain ⟨h1,u,inn,h2,h3,h4⟩:=h1;rcases h.cov t h1 with h5 | h5
  ·cases h5
  ·exact (h5 inn u h2 h3 h4).1
 ·rintro ⟨s,t,h1,h2,h3,h4⟩;rw [ei] at h4;rcases h.cov s h1 with h5 | h5
  ·cases h5
  ·exact (h5 false t h2 h3 h4).2
 ·rintro ⟨s,t,h1,h2,h3,h4⟩;rw [ei] at h4;rcases h.cov s h1 with h5 | h5
  ·cases h5
  ·exact (h5 true t h2 h3 h4).2
theorem iG {cell ss:Int} (h0:0<=cell) (h1:cell<(pos.length:Int)) (hl:lost.length=pos.length) (hi: ∀ j,B4 (lost.getD j 0)):
 ∃ l',(∀ n,DP n cell ss c q pos pos.length lost=some l')/\ l'.length=pos.length/\ (∀ j,B4 (l'.getD j 0))/\ ∀ j s,tb (l'.getD j 0) s=(tb (lost.getD j 0) s||(decide (j=cell.toNat)&&(tb (pos.getD j 0) s&&tb ss s))):=by
 obtain ⟨l',e,h2,h3⟩:=J6 (n:=0) (ss:=ss) (c:=c) (q:=q) h0 h1 hl;exact ⟨l',fun _=>e,h2,uO e hi,h3⟩
theorem YX {cell:Int} (h0:0<=cell) (h1:cell<(pos.length:Int)) (hl:lost.length=pos.length) (hi: ∀ j,B4 (lost.getD j 0)):
 ∃ l',(∀ n,GD n cell c q pos pos.length lost=some l')/\ l'.length=pos.length/\ (∀ j,B4 (l'.getD j 0))/\ ∀ j s,tb (l'.getD j 0) s=(tb (lost.getD j 0) s||(decide (j=cell.toNat)&&(tb (pos.getD j 0) s&&!tb c.set s))):=by
 obtain ⟨l',e,h2,h3⟩:=YW (n:=0) (c:=c) (q:=q) h0 h1 hl;exact ⟨l',fun _=>e,h2,tW e hi,h3⟩
theorem Lz.go {i m:Nat} {o1 l':List Int} (h:Lz c pos lost m o1) (hi:i+m+1=c.cells.length) (hl:l'.length=pos.length) (CH: ∀ j,B4 (l'.getD j 0))
 (h1: ∀ j s,tb (l'.getD j 0) s=true↔tb (o1.getD j 0) s=true∨((c.cells.getD i 0).toNat=j/\ tb (AT c pos i) s=true/\ IK c pos i s)):Lz c pos lost (m+1) l':=by
 refine ⟨⟨hl,fun j s=>?_⟩,CH⟩;rw [h1,h.1.2];constructor
 ·rintro ((h | ⟨a,ha,h2,h3,h4,h5⟩) | h)
  ·exact .inl h
  ·exact .inr ⟨a,ha,h2,h3,by omega,h5⟩
  ·exact .inr ⟨i,by omega,h.1,h.2.1,by omega,h.2.2⟩
 ·rintro (h2 | ⟨a,ha,h2,h3,h4,h5⟩)
  ·exact .inl (.inl h2)
  ·by_cases e:c.cells.length<=a+m
   ·exact .inl (.inr ⟨a,ha,h2,h3,e,h5⟩)
   ·have:a=i:=by omega
    subst this;exact .inr ⟨h2,h3,h5⟩
theorem zBv {i m:Nat} {o1:List Int} {o3:List (Option KS)} {o4:KS} {AU:Int} (W:Bv c k pos) (R:H3 c) (hx:AU=(i:Int)) (hR:Rows c pos c.cells.length o3) (hE:Pn c pos m o4) (hL:Lz c pos lost m o1)
 (H: ∀ o1 o5,Lz c pos lost (m+1) o1 -> Pn c pos (m+1) o5 -> Ad (fun n=>BC c q pos pos.length lost n (.l4 (AU-1) o1 o3 o5)) (HL c pos lost)):
 ∀ (z:Nat) (rem o5:KS) (b0 b1:Bool) (OR:List Int),rem.length=z -> Bk c pos i m o5 b0 b1 rem -> Ad (fun n=>BC c q pos pos.length lost n (.l9 i o1 o3 i o4 o5 b0 b1 rem OR)) (HL c pos lost):=by
 intro z
 induction z with
 | zero=>
  intro rem o5 b0 b1 OR hm hB;have:rem= []:=zDl hm;subst this;obtain ⟨e5,e0,e1⟩:=hB.end';have hi:i<c.cells.length:=by have:=hB.hi;omega
  have hs:=hR.isSome i (by omega);have Ah:=W.len;have r1:AI ((i:Int)-1):=An.2 ⟨by omega,by omega⟩;have hc:=W.cells i hi;have g0:(0:Int)<=(i:Int)/\ (i:Int)<((c.cells.length:Nat):Int):=⟨by omega,by omega⟩;obtain ⟨l1,f1,n1,i1,t1⟩:=iG (ss:=c.set) (c:=c) (q:=q) hc.1 hc.2 hL.1.1 hL.2;obtain ⟨l2,f2,n2,i2,t2⟩:=YX (c:=c) (q:=q) hc.1 hc.2 n1 i1;obtain ⟨l3,f3,n3,i3,t3⟩:=YX (c:=c) (q:=q) hc.1 hc.2 hL.1.1 hL.2
  have eq: ∀ n,BC c q pos pos.length lost (n+1) (.l9 i o1 o3 i o4 o5 b0 b1 [] OR)=BC c q pos pos.length lost n (.l4 (i-1) (bif !b1 then (bif !b0 then l2 else l1) else (bif !b0 then l3 else o1)) o3 o5):=fun n=>by
   show QS n (BC c q pos pos.length lost n) c q pos pos.length lost i o1 o3 i o4 o5 b0 b1 [] OR=_
   unfold QS;rw [zB3 hs,gR];simp only [zCi];cases b1 <;> cases b0 <;> simp only [zDd,zDR,zCk,zAc,zB3 g0,f1,f2,f3,zCj,zB3 r1]
  refine Ad.step 1 eq ?_
  have key: ∀ l':List Int,l'.length=pos.length -> (∀ j,B4 (l'.getD j 0)) -> (∀ j s,tb (l'.getD j 0) s=(tb (o1.getD j 0) s||(decide (j=(c.cells.getD i 0).toNat)&&(tb (pos.getD j 0) s&&((!b1&&tb c.set s)||(!b0&&!tb c.set s)))))) -> Lz c pos lost (m+1) l':=by
   intro l' h1 h2 h3;refine hL.go hB.hi h1 h2 fun j s=>?_
   rw [h3,zC7,zCp,zCp,zCw,zC7,zCp,zCp,zDT,zDT,zDT];unfold IK;rw [←e0,←e1,zE3,zE3];constructor
   ·rintro (h | ⟨rfl,h⟩)
    ·exact .inl h
    ·exact .inr ⟨rfl,h⟩
   ·rintro (h | ⟨rfl,h⟩)
    ·exact .inl h
    ·exact .inr ⟨rfl,h⟩
  subst hx;cases b1 <;> cases b0 <;> simp only [zDd,zDR,zCk,zAc]
  ·exact H l2 o5 (key l2 n2 i2 fun j s=>by
    rw [t2,t1];cases tb (o1.getD j 0) s <;> cases decide (j=(c.cells.getD i 0).toNat) <;> cases tb (pos.getD j 0) s <;> cases tb c.set s <;> rfl) e5
  ·exact H l1 o5 (key l1 n1 i1 fun j s=>by
    rw [t1];cases tb (o1.getD j 0) s <;> cases decide (j=(c.cells.getD i 0).toNat) <;> cases tb (pos.getD j 0) s <;> cases tb c.set s <;> rfl) e5
  ·exact H l3 o5 (key l3 n3 i3 fun j s=>by
    rw [t3];cases tb (o1.getD j 0) s <;> cases decide (j=(c.cells.getD i 0).toNat) <;> cases tb (pos.getD j 0) s <;> cases tb c.set s <;> rfl) e5
  ·exact H o1 o5 (key o1 hL.1.1 hL.2 fun j s=>by
    cases tb (o1.getD j 0) s <;> cases decide (j=(c.cells.getD i 0).toNat) <;> cases tb (pos.getD j 0) s <;> cases tb c.set s <;> rfl) e5
 | succ z ih=>
  intro rem o5 b0 b1 OR hm hB;have hi:i<c.cells.length:=by have:=hB.hi;omega
  have hs:=hR.isSome i (by omega);have AY:rem≠[]:=by intro e;rw [e] at hm;cases hm
  refine Ad.step 1 (g:=fun n=>He rem none (fun y1=>BC c q pos pos.length lost n (.l7 i 0 o1 o3 i o4 o5 b0 b1 (y1.getD 0 0) (y1.getD 1 0) (rem.erase y1) y1))) (fun n=>?_) (Ad.next AY (fun y hy=>?_) HL.uniq)
  ·show QS n (BC c q pos pos.length lost n) c q pos pos.length lost i o1 o3 i o4 o5 b0 b1 rem OR=_
   unfold QS;rw [zB3 hs];simp only [zB3 hs];cases rem with
   | nil=>exact absurd rfl AY
   | cons x r=>rfl
  ·obtain ⟨t,rfl,ht⟩:=hB.sub y hy;have hS:=ht.ok;refine Ad.step 3 (fun n=>?_) (ih _ _ _ _ [t.1,t.2] (by rw [zE9 hy];omega) (hB.go hE hy))
   show BC c q pos pos.length lost (n+2+1) (.l7 i 0 o1 o3 i o4 o5 b0 b1 t.1 t.2 (rem.erase [t.1,t.2]) [t.1,t.2])=_
   rw [ut W R hi hS,us W R hi hS,ur]
theorem uu {n ln oi:Nat} {AU:Int} {o1:List Int} {o3:List (Option KS)} {o4 o7:KS}:BC c q pos ln lost n (.l6 AU o1 o3 oi o4 o7)=BC c q pos ln lost n (.l9 AU o1 o3 oi o4 [] false false o7 []):=by cases n <;> rfl
theorem uz {n ln oi:Nat} {x8 Ao:Int} {o1:List Int} {o3:List (Option KS)} {o4:KS}:BC c q pos ln lost n (.l3 x8 Ao o1 o3 oi o4)=BC c q pos ln lost n (.l8 x8 Ao o1 o3 oi o4 []):=by cases n <;> rfl
theorem ly (W:Bv c k pos) (R:H3 c) {o3:List (Option KS)} (hR:Rows c pos c.cells.length o3):
 ∀ (i m:Nat) (AU:Int) (o1:List Int) (o4:KS),i+m=c.cells.length -> AU=(i:Int)-1 -> Lz c pos lost m o1 -> Pn c pos m o4 -> Ad (fun n=>BC c q pos pos.length lost n (.l4 AU o1 o3 o4)) (HL c pos lost):=by
 intro i
 induction i with
 | zero=>
  intro m AU o1 o4 hm hx hL hE;refine Ev.p (r:=(true,o1)) ⟨1,fun n hn=>?_⟩ ⟨rfl,⟨hL.1.1,fun j s=>?_⟩,hL.2⟩
  ·obtain ⟨n,rfl⟩: ∃ n',n=n'+1:=⟨n-1,by omega⟩
   show QU n (BC c q pos pos.length lost n) c q pos pos.length lost AU o1 o3 o4=_
   unfold QU;rw [zAZ (by omega),zAc]
  ·rw [hL.1.2];constructor
   ·rintro (h | ⟨a,h1,h2,h3,_,h4⟩)
    ·exact .inl h
    ·exact .inr ⟨a,h1,h2,h3,h4⟩
   ·rintro (h | ⟨a,h1,h2,h3,h4⟩)
    ·exact .inl h
    ·exact .inr ⟨a,h1,h2,h3,by omega,h4⟩
 | succ i ih=>
  intro m AU o1 o4 hm hx hL hE;have hx:AU=(i:Int):=by omega
  subst hx;have hs:=hR.isSome i (by omega);have Ah:=hR.len;have t1:((((c.cells.length:Nat):Int)+1).toNat:Nat)=c.cells.length+1:=by omega
  have t2:0+((i:Int).toNat:Nat)=i:=by omega
  refine Ad.step 1 (g:=fun n=>BC c q pos pos.length lost n (.l9 i o1 o3 i o4 [] false false (Fo o3 i) [])) (fun n=>?_) (zBv W R rfl hR hE hL (fun o1 o5 h1 h2=>ih (m+1) ((i:Int)-1) o1 o5 (by omega) rfl h1 h2) _ (Fo o3 i) [] false false [] rfl ⟨by omega,fun x hx=>(hR.row i (by omega) x).1 hx,fun x hx=>(by cases hx),fun h=>(by cases h),fun h=>(by cases h),fun t ht=>.inl ((hR.row i (by omega) _).2 ⟨t,rfl,ht⟩)⟩)
  show QU n (BC c q pos pos.length lost n) c q pos pos.length lost (i:Int) o1 o3 o4=_
  unfold QU;simp only [t1,t2];rw [zCm (by omega),zCk,zB3 hs,zB3 ⟨⟨by omega,by omega⟩,by omega,hs⟩];exact uu
theorem zw (W:Bv c k pos) (R:H3 c) (hl:lost.length=pos.length) (CH: ∀ j,B4 (lost.getD j 0)):
 ∀ (m i:Nat) (Ao:Int) (o3:List (Option KS)),i+m=c.cells.length -> Ao=(i:Int) -> Rows c pos i o3 -> Ad (fun n=>BC c q pos pos.length lost n (.l2 Ao lost o3)) (HL c pos lost):=by
 intro m
 induction m with
 | zero=>
  intro i Ao o3 hm hx hR;have hm:i=c.cells.length:=by omega
  subst hm hx;have Ah:=W.len;have hr:=R.1;have r1:AI ((c.cells.length:Int)-1):=An.2 ⟨by omega,by omega⟩;have r2:AI ((c.runs.length:Int)-1):=An.2 ⟨by omega,by omega⟩;have hL:Lz c pos lost 0 lost:=⟨⟨hl,fun j s=>⟨.inl,fun h=>h.elim id fun ⟨a,h1,_,_,h2,_⟩=>absurd h2 (by omega)⟩⟩,CH⟩
  by_cases h0:0<c.runs.length
  ·have t1:(((c.runs.length:Nat):Int)-1).toNat=c.runs.length-1:=by omega
   refine Ad.step 1 (g:=fun n=>BC c q pos pos.length lost n (.l4 ((c.cells.length:Int)-1) lost o3 (CN [((c.runs.length:Int)-1),c.runs.getD (c.runs.length-1) 0] (CN [(c.runs.length:Int),0] ([]:KS))))) (fun n=>?_) (ly W R hR c.cells.length 0 _ _ _ (by omega) rfl hL fun x=>?_)
   ·show MJ n (BC c q pos pos.length lost n) c q pos pos.length lost (c.cells.length:Int) lost o3=_
    unfold MJ;rw [zAZ (by omega),zAc,zCm (by omega),zCk,zB3 ⟨r2,⟨by omega,by omega⟩,r1⟩,t1]
   ·rw [Mm,Mm];constructor
    ·rintro (rfl | rfl | h)
     ·exact ⟨((c.runs.length:Int)-1,c.runs.getD (c.runs.length-1) 0),rfl,.inr ⟨h0,rfl⟩⟩
     ·exact ⟨((c.runs.length:Int),0),rfl,.inl rfl⟩
     ·cases h
    ·rintro ⟨t,rfl,rfl | ⟨_,rfl⟩⟩
     ·exact .inr (.inl rfl)
     ·exact .inl rfl
  ·have zh:c.runs.length=0:=by omega
   refine Ad.step 1 (g:=fun n=>BC c q pos pos.length lost n (.l4 ((c.cells.length:Int)-1) lost o3 (CN [(c.runs.length:Int),0] ([]:KS)))) (fun n=>?_) (ly W R hR c.cells.length 0 _ _ _ (by omega) rfl hL fun x=>?_)
   ·show MJ n (BC c q pos pos.length lost n) c q pos pos.length lost (c.cells.length:Int) lost o3=_
    unfold MJ;rw [zAZ (by omega),zAc,zAZ (by omega),zAc,zB3 r1]
   ·rw [Mm];constructor
    ·rintro (rfl | h)
     ·exact ⟨((c.runs.length:Int),0),rfl,.inl rfl⟩
     ·cases h
    ·rintro ⟨t,rfl,rfl | ⟨h,rfl⟩⟩
     ·exact .inl rfl
     ·exact absurd h h0
 | succ m ih=>
  intro i Ao o3 hm hx hR;subst hx;have hi:i<c.cells.length:=by omega
  have hs:=hR.isSome i (by omega);have Ah:=hR.len;have t1:((((c.cells.length:Nat):Int)+1).toNat:Nat)=c.cells.length+1:=by omega
  have t2:0+((i:Int).toNat:Nat)=i:=by omega
  refine Ad.step 1 (g:=fun n=>BC c q pos pos.length lost n (.l8 i i lost o3 i (Fo o3 i) [])) (fun n=>?_) (uD W R rfl (fun o3 h=>ih (i+1) _ o3 (by omega) (by omega) h) _ _ _ _ rfl (hR.mid hi))
  show MJ n (BC c q pos pos.length lost n) c q pos pos.length lost (i:Int) lost o3=_
  unfold MJ;simp only [t1,t2];rw [zCm (by omega),zCk,zB3 hs,zB3 ⟨⟨by omega,by omega⟩,by omega,hs⟩];exact uz
theorem zAH (W:Bv c k pos) (R:H3 c) (hl:lost.length=pos.length) (CH: ∀ j,B4 (lost.getD j 0)):
 ∀ (m j:Nat) (C6:Int) (o3:List (Option KS)),j+m=c.cells.length+1 -> C6=(j:Int) -> o3.length=c.cells.length+1 -> (∀ i,i<j -> o3.getD i none=some []) -> Ad (fun n=>BC c q pos pos.length lost n (.l1 C6 o3)) (HL c pos lost):=by
 intro m
 induction m with
 | zero=>
  intro j C6 o3 hm hx Ah ho;subst hx;have t1:((((c.cells.length:Nat):Int)+1).toNat:Nat)=c.cells.length+1:=by omega
  have hs:(o3.getD 0 none).isSome=true:=by rw [ho 0 (by omega)];rfl
  have e0:(o3.getD 0 none).getD []= []:=by rw [ho 0 (by omega)];rfl
  have hg: ∀ i,i≠0 -> (o3.set 0 (some (CN [0,0] ([]:KS)))).getD i none=o3.getD i none:=fun i hi=>ak (fun e=>hi e.symm)
  have jZ:(o3.set 0 (some (CN [0,0] ([]:KS)))).getD 0 none=some (CN [0,0] []):=V2 (by omega);refine Ad.step 1 (g:=fun n=>BC c q pos pos.length lost n (.l2 0 lost (o3.set 0 (some (CN [0,0] ([]:KS)))))) (fun n=>?_) (zw W R hl CH c.cells.length 0 0 _ (by omega) rfl ⟨by rw [zDE];exact Ah,fun i hi=>?_,fun i hi x=>?_,fun i hi Cp=>?_⟩)
  ·show QV n (BC c q pos pos.length lost n) c q pos pos.length lost (j:Int) o3=_
   unfold QV;simp only [t1,zC4];rw [zAZ (by omega),zAc,zB3 ⟨⟨by omega,by omega⟩,by omega,hs⟩,e0]
  ·by_cases e:i=0
   ·subst e;rw [jZ];rfl
   ·rw [hg i e,ho i (by omega)];rfl
  ·obtain rfl:i=0:=by omega
   show x∈((o3.set 0 (some (CN [0,0] ([]:KS)))).getD 0 none).getD []↔_
   rw [jZ]
   show x∈CN [0,0] []↔_
   rw [Mm];constructor
   ·rintro (rfl | h)
    ·exact ⟨(0,0),rfl,rfl⟩
    ·cases h
   ·rintro ⟨t,rfl,h⟩;have h:t=(0,0):=h;subst h;exact .inl rfl
  ·show ((o3.set 0 (some (CN [0,0] ([]:KS)))).getD i none).getD []= []
   rw [hg i (by omega),ho i (by omega)];rfl
 | succ m ih=>
  intro j C6 o3 hm hx Ah ho;subst hx;have yU:=W.len;have t1:((((c.cells.length:Nat):Int)+1).toNat:Nat)=c.cells.length+1:=by omega
  have t2:0+((j:Int).toNat:Nat)=j:=by omega
  refine Ad.step 1 (g:=fun n=>BC c q pos pos.length lost n (.l1 ((j:Int)+1) (o3.set j (some ([]:KS))))) (fun n=>?_) (ih (j+1) _ _ (by omega) (by omega) (by rw [zDE];exact Ah) fun i hi=>?_)
  ·show QV n (BC c q pos pos.length lost n) c q pos pos.length lost (j:Int) o3=_
   unfold QV;simp only [t1,t2];rw [zCm (by omega),zCk,zB3 ⟨⟨by omega,by omega⟩,by omega,An.2 ⟨by omega,by omega⟩⟩]
  ·by_cases e:i=j
   ·subst e;exact V2 (by omega)
   ·rw [ak (fun h=>e h.symm)];exact ho i (by omega)
def I3 (c:AB):Bool:=(c.cells.length != 0)||(c.runs.length==0)
theorem qb (W:Bv c k pos) (R:H3 c) (hl:lost.length=pos.length) (CH: ∀ j,B4 (lost.getD j 0)):
 ∃ l,Ev (fun n=>N9 n c q pos pos.length lost) (I3 c,l)/\ (I3 c=true -> B3 c pos lost c.cells.length (IK c pos) l):=by
 by_cases h0:c.cells.length=0
 ·have e1:I3 c=((c.runs.length:Int)==0):=by
   unfold I3;rw [h0];cases h:c.runs.length with
   | zero=>rfl
   | succ m=>rfl
  refine ⟨lost,Ev.now fun n=>?_,fun _=>by rw [h0];exact B3.zero hl⟩;unfold N9 Xv;rw [h0,e1];rfl
 ·have e1:I3 c=true:=by
   unfold I3;cases h:c.cells.length with
   | zero=>exact absurd h h0
   | succ m=>rfl
  have Ah:=W.len;have t1:((((c.cells.length:Nat):Int)+1).toNat:Nat)=c.cells.length+1:=by omega
  obtain ⟨r,h1,h2⟩:=(zAH (q:=q) W R hl CH (c.cells.length+1) 0 0 (List.replicate (c.cells.length+1) none) (by omega) rfl (by simp) (fun i hi=>absurd hi (zCz i))).ev HL.uniq;obtain ⟨b,l⟩:=r;obtain ⟨h3,h4,h5⟩:=h1;have h3:b=true:=h3;subst h3;refine ⟨l,?_,fun _=>h4⟩;rw [e1];refine h2.eq fun n=>?_
  unfold N9 Xv;rw [t1]
  have e2:(((c.cells.length:Nat):Int)==0)=false:=by
   rw [zDV];omega
  rw [e2,zAc,zB3 ⟨An.2 ⟨by omega,by omega⟩,rfl,by omega,by omega⟩]
end
end Go.Proofs.YtgkhhfnhacibcaaGreatDoor
namespace Go.Proofs.YtgkhhfnhacibcaaGreatDoor
abbrev zDv:=@List.take_succ_eq_append_getElem
end Go.Proofs.YtgkhhfnhacibcaaGreatDoor
namespace Go.Proofs.YtgkhhfnhacibcaaGreatDoor
open Go.RowKit
section
variable {c:AB} {k:Nat} {pos lost:List Int} {q:AA}
structure Ec (c:AB) (q:AA) (pos:List Int):Prop where
 len:c.cells.length=pos.length
 id: ∀ j,j<pos.length -> c.cells.getD j 0=(j:Int)
 g:H6 q.nbrs
 gl:q.nbrs.length=pos.length
 l0:0<pos.length
 l1:pos.length<=256
 nz: ∀ j,j<pos.length -> B4 (pos.getD j 0)/\ pos.getD j 0≠0
def pB (c:AB) (pos:List Int):List Bool:=pos.map fun x=>bits .and .i64 x c.set != 0
def cB (c:AB) (pos:List Int):List Bool:=pos.map fun x=>bits .andNot .i64 x c.set==0
theorem FE:(pB c pos).length=pos.length:=zDe _
theorem Ep:(cB c pos).length=pos.length:=zDe _
theorem Q6 {j:Nat} (hj:j<pos.length):(pB c pos).getD j false=(bits .and .i64 (pos.getD j 0) c.set != 0):=by
 unfold pB;rw [u8,zC1,zAe hj,u8,zAe hj];rfl
theorem Su {j:Nat} (hj:j<pos.length):(cB c pos).getD j false=(bits .andNot .i64 (pos.getD j 0) c.set==0):=by
 unfold cB;rw [u8,zC1,zAe hj,u8,zAe hj];rfl
theorem Ec.cp (W:Ec c q pos) {j:Nat} (hj:j<pos.length) (h:(cB c pos).getD j false=true):(pB c pos).getD j false=true:=by
 rw [Su hj,zDB] at h;rw [Q6 hj,zDz];obtain ⟨h1,h2⟩:=W.nz j hj;obtain ⟨s,hs,hb⟩:=(D6 h1).1 h2;have h3:=(Kq (E5 .andNot _ _)).1 h s hs;rw [Jj,hb,zDG,Bool.not_eq_false'] at h3;exact (D6 (E5 .and _ _)).2 ⟨s,hs,by rw [HT,hb,h3];rfl⟩
def CS (pos lost:List Int) (D:Nat -> Nat -> Prop) (l:List Int):Prop:=
 (l.length=pos.length/\ ∀ j,B4 (l.getD j 0))/\ ∀ j s,tb (l.getD j 0) s=true↔tb (lost.getD j 0) s=true∨(j<pos.length/\ tb (pos.getD j 0) s=true/\ D j s)
theorem CS.unique {D:Nat -> Nat -> Prop} {l l':List Int} (h:CS pos lost D l) (h':CS pos lost D l'):l=l':=by
 have e:l.length=l'.length:=h.1.1.trans h'.1.1.symm;refine zEK e fun j h1 h2=>?_
 have e1:l.getD j 0=l[j]:=by simp [h1]
 have e2:l'.getD j 0=l'[j]:=by simp [h2]
 rw [←e1,←e2];refine Ji (h.1.2 j) (h'.1.2 j) fun s _=>?_
 rw [zDp,h.2,h'.2]
theorem CS.by {D:Nat -> Nat -> Prop} {l:List Int} (W:Ec c q pos) (h:CS pos lost D l):B3 c pos lost c.cells.length D l:=by
 refine ⟨h.1.1,fun j s=>?_⟩;have hl:=W.len;rw [h.2];constructor
 ·rintro (h1 | ⟨h1,h2,h3⟩)
  ·exact .inl h1
  ·have e:=W.id j h1;exact .inr ⟨j,by omega,by rw [e];omega,by show tb (pos.getD (c.cells.getD j 0).toNat 0) s=true;rw [e,zCi];exact h2,h3⟩
 ·rintro (h1 | ⟨a,h1,h2,h3,h4⟩)
  ·exact .inl h1
  ·have e:=W.id a (by omega);have h3:tb (pos.getD (c.cells.getD a 0).toNat 0) s=true:=h3;rw [e,zCi] at h2 h3;subst h2;exact .inr ⟨by omega,h3,h4⟩
theorem CS.step {D D':Nat -> Nat -> Prop} {l l':List Int} (h:CS pos lost D l) (hl:l'.length=pos.length) (CH: ∀ j,B4 (l'.getD j 0)) {E:Nat -> Nat -> Prop} (h1: ∀ j s,tb (l'.getD j 0) s=true↔tb (l.getD j 0) s=true∨(j<pos.length/\ tb (pos.getD j 0) s=true/\ E j s))
 (hD: ∀ j s,j<pos.length -> tb (pos.getD j 0) s=true -> (D' j s↔D j s∨E j s)):CS pos lost D' l':=by
 refine ⟨⟨hl,CH⟩,fun j s=>?_⟩;rw [h1,h.2];constructor
 ·rintro ((h2 | ⟨h2,h3,h4⟩) | ⟨h2,h3,h4⟩)
  ·exact .inl h2
  ·exact .inr ⟨h2,h3,(hD j s h2 h3).2 (.inl h4)⟩
  ·exact .inr ⟨h2,h3,(hD j s h2 h3).2 (.inr h4)⟩
 ·rintro (h2 | ⟨h2,h3,h4⟩)
  ·exact .inl (.inl h2)
  ·rcases (hD j s h2 h3).1 h4 with h5 | h5
   ·exact .inl (.inr ⟨h2,h3,h5⟩)
   ·exact .inr ⟨h2,h3,h5⟩
theorem CS.id' {D D':Nat -> Nat -> Prop} {l:List Int} (h:CS pos lost D l) (hD: ∀ j s,j<pos.length -> tb (pos.getD j 0) s=true -> (D' j s↔D j s)):CS pos lost D' l:=
 h.step (E:=fun _ _=>False) h.1.1 h.1.2 (fun j s=>by simp) fun j s h1 h2=>by rw [hD j s h1 h2,or_false]
theorem CS.lose {D D':Nat -> Nat -> Prop} {l:List Int} (h:CS pos lost D l) {cell ss:Int} (h0:0<=cell) (h1:cell<(pos.length:Int)) (hD: ∀ j s,j<pos.length -> tb (pos.getD j 0) s=true -> (D' j s↔D j s∨((j:Int)=cell/\ tb ss s=true))):
 ∃ l',(∀ n,DP n cell ss c q pos pos.length l=some l')/\ CS pos lost D' l':=by
 obtain ⟨l',e,h2,h3,h4⟩:=iG (ss:=ss) (c:=c) (q:=q) h0 h1 h.1.1 h.1.2;refine ⟨l',e,h.step h2 h3 (E:=fun j s=>(j:Int)=cell/\ tb ss s=true) (fun j s=>?_) hD⟩;rw [h4,zC7,zCp,zCp,zCw];constructor
 ·rintro (h5 | ⟨rfl,h5,h6⟩)
  ·exact .inl h5
  ·exact .inr ⟨by omega,h5,by omega,h6⟩
 ·rintro (h5 | ⟨h5,h6,h7,h8⟩)
  ·exact .inl h5
  ·exact .inr ⟨by omega,h6,h8⟩
theorem CS.only {D D':Nat -> Nat -> Prop} {l:List Int} (h:CS pos lost D l) {cell:Int} (h0:0<=cell) (h1:cell<(pos.length:Int)) (hD: ∀ j s,j<pos.length -> tb (pos.getD j 0) s=true -> (D' j s↔D j s∨((j:Int)=cell/\ tb c.set s=false))):
 ∃ l',(∀ n,GD n cell c q pos pos.length l=some l')/\ CS pos lost D' l':=by
 obtain ⟨l',e,h2,h3,h4⟩:=YX (c:=c) (q:=q) h0 h1 h.1.1 h.1.2;refine ⟨l',e,h.step h2 h3 (E:=fun j s=>(j:Int)=cell/\ tb c.set s=false) (fun j s=>?_) hD⟩;rw [h4,zC7,zCp,zCp,zCw,zDT];constructor
 ·rintro (h5 | ⟨rfl,h5,h6⟩)
  ·exact .inl h5
  ·exact .inr ⟨by omega,h5,by omega,h6⟩
 ·rintro (h5 | ⟨h5,h6,h7,h8⟩)
  ·exact .inl h5
  ·exact .inr ⟨by omega,h6,h8⟩
def F2 (l:List Bool) (r:Int):Prop:=(r= -1/\ ∀ j,j<l.length -> l.getD j false=false)∨(0<=r/\ r<(l.length:Int)/\ l.getD r.toNat false=true/\ ∀ j:Nat,(j:Int)<r -> l.getD j false=false)
theorem Ri {l:List Bool} (hl:l.length<=256): ∃ r,Ev (fun n=>VV n l true) r/\ F2 l r:=by
 have key: ∀ (k i:Nat),i+k=l.length -> (∀ j,j<i -> l.getD j false=false) -> ∃ r,Ev (fun n=>J9 l true n (.l1 (i:Int))) r/\ F2 l r:=by
  intro k
  induction k with
  | zero=>
   intro i e h;refine ⟨-1,⟨1,fun n hn=>?_⟩,.inl ⟨rfl,fun j hj=>h j (by omega)⟩⟩;obtain ⟨n,rfl⟩: ∃ k,n=k+1:=⟨n-1,by omega⟩
   show Rh n (J9 l true n) l true (i:Int)=_
   unfold Rh;rw [zAZ (by omega),zAc]
  | succ k ih=>
   intro i e h
   have U: ∀ n,J9 l true (n+1) (.l1 (i:Int))=bif l.getD i false then some (i:Int) else J9 l true n (.l1 ((i:Int)+1)):=fun n=>by
    show Rh n (J9 l true n) l true (i:Int)=_
    unfold Rh;rw [zCm (by omega),zCk,zB3 ⟨by omega,by omega⟩,zCi,zB3 (An.2 ⟨by omega,by omega⟩)];cases l.getD i false <;> rfl
   cases hi:l.getD i false
   ·obtain ⟨r,h1,h2⟩:=ih (i+1) (by omega) fun j hj=>by
     rcases zCx.1 hj with hj | rfl
     ·exact h j hj
     ·exact hi
    refine ⟨r,Ev.step 1 (fun n=>?_) h1,h2⟩;rw [U,hi,zAc];rfl
   ·refine ⟨(i:Int),⟨1,fun n hn=>?_⟩,.inr ⟨by omega,by omega,by rw [zCi];exact hi,fun j hj=>h j (by omega)⟩⟩;obtain ⟨n,rfl⟩: ∃ k,n=k+1:=⟨n-1,by omega⟩
    show J9 l true (n+1) (.l1 (i:Int))=_
    rw [U,hi,zCk]
 exact key l.length 0 (by omega) fun j hj=>absurd hj (zCz j)
theorem kY {l l':List Bool} (h:l.length=l'.length) (h2: ∀ j,j<l.length -> l.getD j false=l'.getD j false):l=l':=by
 refine zEK h fun j h3 h4=>?_
 have:=h2 j h3
 rwa [u8,zAe h3,u8,zAe h4] at this
theorem Ws {l:List Bool} {i j:Nat} {b:Bool} (hi:i<l.length):(l.set i b).getD j false=if j=i then b else l.getD j false:=by
 by_cases e:j=i
 ·subst e;rw [zB3 rfl,u8,zDs hi];rfl
 ·rw [zCt e,u8,zDi (fun h=>e h.symm),←u8]
def E3 (c:AB) (q:AA) (pos:List Int) (a s:Nat):Prop:=(pB c pos).getD a false=true/\ tb c.set s=true/\ ∃ r:Int,0<=r/\ F2 (cB c pos) r/\ ¬ Rc q.nbrs (pB c pos) r a
theorem F2.uniq {l:List Bool} {r r':Int} (h:F2 l r) (h':F2 l r'):r=r':=by
 rcases h with ⟨rfl,h⟩ | ⟨h0,h1,h2,h3⟩ <;> rcases h' with ⟨rfl,h'⟩ | ⟨zh,Vx,Lc,af⟩
 ·rfl
 ·rw [h r'.toNat (by omega)] at Lc;cases Lc
 ·rw [h' r.toNat (by omega)] at h2;cases h2
 ·rcases Int.lt_trichotomy r r' with h4 | h4 | h4
  ·rw [af r.toNat (by omega)] at h2;cases h2
  ·exact h4
  ·rw [h3 r'.toNat (by omega)] at Lc;cases Lc
theorem cX (G:H6 q.nbrs) (hB:(pB c pos).length=q.nbrs.length) {r:Int} (Du:0<=r) (hF:F2 (cB c pos) r) {j s:Nat}:E3 c q pos j s↔(pB c pos).getD j false=true/\ tb c.set s=true/\ ¬ Rc q.nbrs (pB c pos) r j:=by
 constructor
 ·rintro ⟨h1,h2,r',_,NM,h3⟩;rw [hF.uniq NM];exact ⟨h1,h2,h3⟩
 ·rintro ⟨h1,h2,h3⟩;exact ⟨h1,h2,r,Du,hF,h3⟩
def Pk (c:AB) (q:AA) (pos lost:List Int) (r:Int) (x:List Bool×List Bool×Bool×List Int):Prop:=x.1=pB c pos/\ x.2.1=cB c pos/\ x.2.2.1=decide (0<=r)/\ CS pos lost (E3 c q pos) x.2.2.2
theorem Pk.uniq {r:Int} (x y:List Bool×List Bool×Bool×List Int) (h:Pk c q pos lost r x) (h':Pk c q pos lost r y):x=y:=by
 obtain ⟨x1,x2,x3,x4⟩:=x;obtain ⟨y1,y2,y3,y4⟩:=y;obtain ⟨h1,h2,h3,h4⟩:=h;obtain ⟨Vx,Lc,af,zf⟩:=h';have e4:x4=y4:=h4.unique zf;have e1:x1=y1:=Eq.trans h1 Vx.symm;have e2:x2=y2:=Eq.trans h2 Lc.symm;have e3:x3=y3:=Eq.trans h3 af.symm;rw [e1,e2,e3,e4]
theorem tr {n:Nat} (W:Ec c q pos) (hL:CS pos lost (fun _ _=>False) lost) {r:Int} (Du:0<=r) (hF:F2 (cB c pos) r) {near:List Int} (hn:near.length<=256) (Rs: ∀ v,v∈near↔Rc q.nbrs (pB c pos) r v) (LY:600<=n):
 ∃ x,Ej c q pos pos.length lost n (.l2 (pB c pos) (pB c pos).length near (near.length:Int) 0 (cB c pos) (pB c pos))=some x/\ Pk c q pos lost r x:=by
 have FL:=W.l1;have DQ:=W.gl
 have KD:r<(q.nbrs.length:Int):=by
  rcases hF with ⟨h,_⟩ | ⟨_,h,_⟩
  ·omega
  ·rw [Ep] at h;omega
 have Oq: ∀ v∈near,0<=v/\ v<(pos.length:Int):=fun v hv=>by
  have:=((Rs v).1 hv).rng W.g.gr Du KD;omega
 have S:=G6 (fun n (Ge:List Bool) i=>Ej c q pos pos.length lost n (.l2 (pB c pos) (pB c pos).length near (near.length:Int) i (cB c pos) Ge)) near.length (pos.length+3)
  (fun i Ge=>Ge.length=pos.length/\ ∀ j:Nat,Ge.getD j false=true↔(pB c pos).getD j false=true/\ (j:Int)∉near.take i) (fun n i Ge Fd hi hI=>?_) (n:=n) (s:=pB c pos) (by omega) ⟨FE,fun j=>by simp⟩
 ·obtain ⟨n1,Ge,GN,_,e1,aG,jf⟩:=S;obtain ⟨n2,rfl⟩: ∃ n2,n1=n2+1:=⟨n1-1,by omega⟩;rw [List.take_length] at jf
  have T:=G6 (fun n (o1:List Int) i=>Ej c q pos pos.length lost n (.l3 (pB c pos) (pB c pos).length ((pB c pos).length:Int) i o1 (cB c pos) Ge)) pos.length 1
   (fun i o1=>CS pos lost (fun j s=>j<i/\ E3 c q pos j s) o1) (fun n i o1 Fd hi hI=>?_) (n:=n2) (s:=lost) (by omega) (hL.id' fun j s _ _=>⟨fun h=>absurd h.1 (zCz j),fun h=>h.elim⟩)
  ·obtain ⟨n3,o1,Ru,_,e2,KN⟩:=T;obtain ⟨n4,rfl⟩: ∃ n4,n3=n4+1:=⟨n3-1,by omega⟩;refine ⟨(pB c pos,cB c pos,true,o1),?_,rfl,rfl,(zCm Du).symm,KN.id' fun j s hj _=>⟨fun h=>⟨hj,h⟩,fun h=>h.2⟩⟩;refine Eq.trans e1 ?_
   show RE n2 (Ej c q pos pos.length lost n2) c q pos pos.length lost (pB c pos) (pB c pos).length near (near.length:Int) (near.length:Int) (cB c pos) Ge=_
   unfold RE;rw [zAZ (by omega),zAc];refine Eq.trans e2 ?_
   show RD n4 (Ej c q pos pos.length lost n4) c q pos pos.length lost (pB c pos) (pB c pos).length ((pB c pos).length:Int) (pos.length:Int) o1 (cB c pos) Ge=_
   unfold RD;rw [FE,zAZ (by omega),zAc,zB3 Ep.symm]
  ·show ∃ s',RD n (Ej c q pos pos.length lost n) c q pos pos.length lost (pB c pos) (pB c pos).length ((pB c pos).length:Int) (i:Int) o1 (cB c pos) Ge=_/\ _
   unfold RD;simp only [zCi,zC4];have r1:AI ((i:Int)+1):=An.2 ⟨by omega,by omega⟩;rw [FE,zCm (by omega),zCk,zB3 ⟨⟨by omega,by omega⟩,by omega⟩];have je:Ge.getD i false=true↔(pB c pos).getD i false=true/\ ¬ Rc q.nbrs (pB c pos) r i:=by rw [jf,Rs]
   cases hf:Ge.getD i false
   ·rw [zAc,zB3 r1];refine ⟨o1,rfl,hI.id' fun j s hj _=>⟨fun h=>⟨?_,h.2⟩,fun h=>⟨by omega,h.2⟩⟩⟩;rcases zCx.1 h.1 with h1 | rfl
    ·exact h1
    ·have h2:=(cX W.g (by rw [FE];exact DQ.symm) Du hF).1 h.2;have:=je.2 ⟨h2.1,h2.2.2⟩;rw [hf] at this;cases this
   ·obtain ⟨l',e,h2⟩:=hI.lose (c:=c) (q:=q) (D':=fun j s=>j<i+1/\ E3 c q pos j s) (cell:=(i:Int)) (ss:=c.set) (by omega) (by omega) fun j s hj _=>by
     constructor
     ·rintro ⟨h1,h2⟩;rcases zCx.1 h1 with h1 | rfl
      ·exact .inl ⟨h1,h2⟩
      ·exact .inr ⟨rfl,h2.2.1⟩
     ·rintro (⟨h1,h2⟩ | ⟨h1,h2⟩)
      ·exact ⟨by omega,h2⟩
      ·obtain rfl:j=i:=by omega
       have h3:=je.1 hf;exact ⟨by omega,(cX W.g (by rw [FE];exact DQ.symm) Du hF).2 ⟨h3.1,h2,h3.2⟩⟩
    rw [zCk,e,zCj,zB3 r1];exact ⟨l',rfl,h2⟩
 ·obtain ⟨hl,hf⟩:=hI;have hx:near.getD i 0∈near:=by rw [u8,zAe hi];exact zC5 hi
  have GK:=Oq _ hx
  show ∃ s',RE n (Ej c q pos pos.length lost n) c q pos pos.length lost (pB c pos) (pB c pos).length near (near.length:Int) (i:Int) (cB c pos) Ge=_/\ _
  unfold RE;simp only [zCi,zC4];rw [FE,zCm (by omega),zCk,zB3 ⟨⟨by omega,by omega⟩,GK,by omega,An.2 ⟨by omega,by omega⟩⟩];refine ⟨_,rfl,by rw [zDE];exact hl,fun j=>?_⟩
  have e3:near.take (i+1)=near.take i++[near.getD i 0]:=by
   rw [zDv hi,u8,zAe hi];rfl
  rw [Ws (by omega),e3,zC9,zC2]
  by_cases e:j=(near.getD i 0).toNat
  ·rw [zB3 e];exact ⟨fun h=>(by cases h),fun h=>absurd (Or.inr (by omega)) h.2⟩
  ·rw [zCt e,hf];exact ⟨fun h=>⟨h.1,fun h2=>h2.elim h.2 fun h3=>e (by omega)⟩,fun h=>⟨h.1,fun h2=>h.2 (.inl h2)⟩⟩
theorem gY (W:Ec c q pos) (hL:CS pos lost (fun _ _=>False) lost) {r:Int} (hF:F2 (cB c pos) r):
 ∃ l,Ev (fun n=>Mj n c q pos pos.length lost) (pB c pos,cB c pos,decide (0<=r),l)/\ CS pos lost (E3 c q pos) l:=by
 have FL:=W.l1;have DQ:=W.gl;have Ah:=W.len;have L:(1000000000000:Nat)=BE:=rfl
 suffices H:Ad (fun n=>Mj n c q pos pos.length lost) (Pk c q pos lost r) by
  obtain ⟨x,h1,h2⟩:=H.ev Pk.uniq;obtain ⟨x1,x2,x3,x4⟩:=x;obtain ⟨h3,h4,h5,h6⟩:=h1;have h3:x1=pB c pos:=h3;have h4:x2=cB c pos:=h4;have h5:x3=decide (0<=r):=h5;subst h3 h4 h5;exact ⟨x4,h2,h6⟩
 have first: ∀ n,Ej c q pos pos.length lost (n+c.cells.length) (.l1 0 (List.replicate pos.length false) (List.replicate pos.length false))=Ej c q pos pos.length lost n (.l1 (c.cells.length:Int) (pB c pos) (cB c pos)):=fun n=>by
  have z: ∀ j:Nat,(List.replicate pos.length false).getD j false=false:=fun j=>by
   rw [u8,zDc];split <;> rfl
  obtain ⟨s',e,h1,h2,h3,h4⟩:=U4 (fun n (s:List Bool×List Bool) i=>Ej c q pos pos.length lost n (.l1 i s.1 s.2)) c.cells.length 0
   (fun i s=>s.1.length=pos.length/\ s.2.length=pos.length/\ (∀ j,s.1.getD j false=if j<i then (pB c pos).getD j false else false)/\ (∀ j,s.2.getD j false=if j<i then (cB c pos).getD j false else false))
   (fun n i s _ hi hI=>by
    obtain ⟨o2,o3⟩:=s;obtain ⟨h1,h2,h3,h4⟩:=hI;have h1:o2.length=pos.length:=h1;have h2:o3.length=pos.length:=h2;have hid:=W.id i (by omega)
    show ∃ s',RF n (Ej c q pos pos.length lost n) c q pos pos.length lost (i:Int) o2 o3=_/\ _
    unfold RF;simp only [zCi,zC4,hid];rw [zCm (by omega),zCk,zB3 ⟨⟨by omega,by omega⟩,⟨by omega,by omega⟩,by omega,by omega,An.2 ⟨by omega,by omega⟩⟩];refine ⟨(_,_),rfl,by rw [zDE];exact h1,by rw [zDE];exact h2,fun j=>?_,fun j=>?_⟩
    ·show (o2.set i _).getD j false=_
     rw [Ws (by omega)]
     by_cases e:j=i
     ·subst e;rw [zB3 rfl,zB3 (by omega),Q6 (by omega)]
     ·have h3:o2.getD j false=_:=h3 j;rw [zCt e,h3]
      by_cases e2:j<i
      ·rw [zB3 e2,zB3 (by omega)]
      ·rw [zCt e2,zCt (by omega)]
    ·show (o3.set i _).getD j false=_
     rw [Ws (by omega)]
     by_cases e:j=i
     ·subst e;rw [zB3 rfl,zB3 (by omega),Su (by omega)]
     ·have h4:o3.getD j false=_:=h4 j;rw [zCt e,h4]
      by_cases e2:j<i
      ·rw [zB3 e2,zB3 (by omega)]
      ·rw [zCt e2,zCt (by omega)])
   c.cells.length 0 n (List.replicate pos.length false,List.replicate pos.length false) (by omega) (by omega) ⟨zC0,zC0,fun j=>by rw [zCt (by omega)];exact z j,fun j=>by rw [zCt (by omega)];exact z j⟩
  obtain ⟨o2,o3⟩:=s';have h1:o2.length=pos.length:=h1;have h2:o3.length=pos.length:=h2
  have e2:o2=pB c pos:=kY (by rw [h1,FE]) fun j hj=>by
   have h3:o2.getD j false=_:=h3 j;rw [h3,zB3 (by omega)]
  have e3:o3=cB c pos:=kY (by rw [h2,Ep]) fun j hj=>by
   have h4:o3.getD j false=_:=h4 j;rw [h4,zB3 (by omega)]
  rw [←e2,←e3];exact e
 have start: ∀ n,Mj n c q pos pos.length lost=Ej c q pos pos.length lost n (.l1 0 (List.replicate pos.length false) (List.replicate pos.length false)):=fun n=>by
  unfold Mj ga;rw [zB3 ⟨rfl,by omega,by omega⟩]
 refine Ad.eq (Ad.step (c.cells.length+1) (g:=fun n=>(VV n (cB c pos) true).bind fun y1=>bif (decide (y1<0)) then (if pos.length=(pB c pos).length then some (pB c pos,cB c pos,false,lost) else none) else (if pos.length=(pB c pos).length then (NY n (pB c pos)).bind fun y2=>(PY n q.nbrs (pB c pos) y1).bind fun y3=>Ej c q pos pos.length lost n (.l2 (pB c pos) y2.length y3.1 (y3.1.length:Int) 0 (cB c pos) y2) else none)) (fun n=>?_) ?_) start
 ·rw [show n+(c.cells.length+1)=n+1+c.cells.length by omega,first]
  show RF n (Ej c q pos pos.length lost n) c q pos pos.length lost (c.cells.length:Int) (pB c pos) (cB c pos)=_
  unfold RF;rw [zAZ (by omega),zAc,zB3 Ep.symm]
 ·obtain ⟨r',h1,h2⟩:=Ri (l:=cB c pos) (by rw [Ep];exact FL);obtain rfl:=hF.uniq h2;refine Ad.bind h1 ?_
  by_cases Du:0<=r
  ·have BQ: ∀ n,NY n (pB c pos)=some (pB c pos):=fun n=>by
    have h0:=W.l0;have h3:=FE (c:=c) (pos:=pos);unfold NY bN;rw [zB3 ⟨by omega,trivial,⟨rfl,rfl⟩,by rw [←L];simp only [zDx];omega⟩,zB3 (by simp)];rfl
   obtain ⟨KD,wy⟩:r<(pos.length:Int)/\ (cB c pos).getD r.toNat false=true:=by
    rcases hF with ⟨h,_⟩ | ⟨_,h,h',_⟩
    ·omega
    ·rw [Ep] at h;exact ⟨h,h'⟩
   have w4:=W.cp (by omega) wy;refine Ad.eq (Ad.bindU (zBZ W.g (by rw [FE];exact DQ.symm) Du (by omega) w4) (b:=fun n y3=>Ej c q pos pos.length lost n (.l2 (pB c pos) (pB c pos).length y3.1 (y3.1.length:Int) 0 (cB c pos) (pB c pos))) ⟨600,fun n hn x hx=>tr W hL Du hF hx.2.1 hx.2.2 hn⟩) fun n=>?_
   rw [zAZ (by omega),zAc,zB3 FE.symm,BQ,zCj]
  ·refine Ev.p (r:=(pB c pos,cB c pos,false,lost)) (Ev.now fun n=>?_) ⟨rfl,rfl,(zAZ Du).symm,hL.id' fun j s _ _=>⟨fun h=>?_,fun h=>h.elim⟩⟩
   ·rw [zCm (by omega),zCk,zB3 FE.symm]
   ·obtain ⟨_,_,r',h3,h4,_⟩:=h;rw [hF.uniq h4] at Du;exact Du h3
def HH (c:AB) (q:AA) (pos:List Int) (a s:Nat):Prop:=E3 c q pos a s∨((pB c pos).getD a false=true/\ (cB c pos).getD a false=false/\ Sp q.nbrs (pB c pos) (cB c pos) (a:Int)/\ tb c.set s=false)
theorem zBN (W:Ec c q pos) (hL:CS pos lost (fun _ _=>False) lost): ∃ l,Ev (fun n=>Wf n c q pos pos.length lost) (true,l)/\ CS pos lost (HH c q pos) l:=by
 have FL:=W.l1;have DQ:=W.gl;obtain ⟨r,_,hF⟩:=Ri (l:=cB c pos) (by rw [Ep];exact FL);obtain ⟨l0,h1,h2⟩:=gY W hL hF
 suffices H:Ad (fun n=>Lp c q pos pos.length lost n (.l1 (pB c pos) (cB c pos) (decide (0<=r)) ((pB c pos).length:Int) 0 l0)) (fun x=>x.1=true/\ CS pos lost (HH c q pos) x.2) by
  obtain ⟨x,⟨h3,h4⟩,h5⟩:=(Ad.bind h1 (b:=fun n y1=>Lp c q pos pos.length lost n (.l1 y1.1 y1.2.1 y1.2.2.1 (y1.1.length:Int) 0 y1.2.2.2)) H).ev fun x y hx hy=>by
   obtain ⟨x1,x2⟩:=x;obtain ⟨y1,y2⟩:=y;have e1:x1=true:=hx.1;have e2:y1=true:=hy.1;have e3:x2=y2:=hx.2.unique hy.2;rw [e1,e2,e3]
  obtain ⟨x1,x2⟩:=x;have h3:x1=true:=h3;subst h3;exact ⟨x2,h5,h4⟩
 obtain ⟨N,hN⟩:=Ad.range (F:=fun (i:Nat) n=>if (pB c pos).getD i false=true then MC n q.nbrs (pB c pos) (cB c pos) i else some (false,0)) (A:=fun i x=>(pB c pos).getD i false=true -> x.2=0/\ (x.1=true↔Sp q.nbrs (pB c pos) (cB c pos) i)) pos.length fun i hi=>by
  by_cases h:(pB c pos).getD i false=true
  ·refine ((oP W.g (by rw [FE];exact DQ.symm) (by rw [Ep];exact DQ.symm) (a:=i) (by omega) h).mono fun x hx _=>hx).eq fun n=>?_
   rw [zB3 h]
  ·exact Ev.p (r:=(false,0)) (Ev.now fun n=>by rw [zCt h]) fun h'=>absurd h' h
 refine ⟨N+pos.length+1,fun n hn=>?_⟩
 have T:=G6 (fun n (o1:List Int) i=>Lp c q pos pos.length lost n (.l1 (pB c pos) (cB c pos) (decide (0<=r)) ((pB c pos).length:Int) i o1)) pos.length (N+1)
  (fun i o1=>CS pos lost (fun a s=>E3 c q pos a s∨(a<i/\ HH c q pos a s)) o1) (fun n i o1 Fd hi hI=>?_) (n:=n) (s:=l0) (by omega) (h2.id' fun j s _ _=>⟨fun h=>h.elim id fun h=>absurd h.1 (zCz j),.inl⟩)
 ·obtain ⟨n3,o1,Ru,_,e2,KN⟩:=T;obtain ⟨n4,rfl⟩: ∃ n4,n3=n4+1:=⟨n3-1,by omega⟩;refine ⟨(true,o1),Eq.trans e2 ?_,rfl,KN.id' fun j s hj _=>⟨fun h=>.inr ⟨hj,h⟩,fun h=>h.elim .inl fun h=>h.2⟩⟩
  show So n4 (Lp c q pos pos.length lost n4) c q pos pos.length lost (pB c pos) (cB c pos) (decide (0<=r)) ((pB c pos).length:Int) (pos.length:Int) o1=_
  unfold So;rw [FE,zAZ (p:=((pos.length:Nat):Int)<((pos.length:Nat):Int)) (by omega),zAc]
 ·show ∃ s',So n (Lp c q pos pos.length lost n) c q pos pos.length lost (pB c pos) (cB c pos) (decide (0<=r)) ((pB c pos).length:Int) (i:Int) o1=_/\ _
  unfold So;simp only [zCi];have r1:AI ((i:Int)+1):=An.2 ⟨by omega,by omega⟩;have lp:(pB c pos).length=pos.length:=FE;have lc:(cB c pos).length=pos.length:=Ep;rw [lp,lc,zCm (p:=(i:Int)<((pos.length:Nat):Int)) (by omega),zCk]
  have skip:(∀ s,¬ ((pB c pos).getD i false=true/\ (cB c pos).getD i false=false/\ Sp q.nbrs (pB c pos) (cB c pos) (i:Int)/\ tb c.set s=false)) -> CS pos lost (fun a s=>E3 c q pos a s∨(a<i+1/\ HH c q pos a s)) o1:=fun KG=>hI.id' fun j s hj _=>by
   constructor
   ·rintro (h | ⟨h,h3⟩)
    ·exact .inl h
    ·rcases zCx.1 h with h | rfl
     ·exact .inr ⟨h,h3⟩
     ·exact h3.elim .inl fun h4=>absurd h4 (KG s)
   ·rintro (h | ⟨h,h3⟩)
    ·exact .inl h
    ·exact .inr ⟨by omega,h3⟩
  by_cases Du:0<=r
  ·rw [zCm Du,zDR,zAc,zB3 ⟨by omega,by omega⟩];cases hp:(pB c pos).getD i false
   ·rw [zDd,zCk,zB3 r1];exact ⟨o1,rfl,skip fun s h=>by rw [hp] at h;cases h.1⟩
   ·rw [zDR,zAc,zB3 ⟨by omega,by omega⟩];cases hc:(cB c pos).getD i false
    ·obtain ⟨x,e1,hx⟩:=hN n (by omega) i hi;have e1:(if (pB c pos).getD i false=true then MC n q.nbrs (pB c pos) (cB c pos) i else some (false,0))=some x:=e1;rw [zB3 hp] at e1;obtain ⟨_,hx⟩:=hx hp;rw [zAc,e1,zCj];cases hb:x.1
     ·rw [zAc,zB3 r1];exact ⟨o1,rfl,skip fun s h=>by rw [hx.2 h.2.2.1] at hb;cases hb⟩
     ·obtain ⟨l',e,h3⟩:=hI.only (c:=c) (q:=q) (D':=fun a s=>E3 c q pos a s∨(a<i+1/\ HH c q pos a s)) (cell:=(i:Int)) (by omega) (by omega) fun j s hj _=>by
       constructor
       ·rintro (h | ⟨h,h3⟩)
        ·exact .inl (.inl h)
        ·rcases zCx.1 h with h | rfl
         ·exact .inl (.inr ⟨h,h3⟩)
         ·exact h3.elim (fun h=>.inl (.inl h)) fun h4=>.inr ⟨rfl,h4.2.2.2⟩
       ·rintro ((h | ⟨h,h3⟩) | ⟨h,h3⟩)
        ·exact .inl h
        ·exact .inr ⟨by omega,h3⟩
        ·obtain rfl:j=i:=by omega
         exact .inr ⟨by omega,.inr ⟨hp,hc,hx.1 hb,h3⟩⟩
      rw [zCk,e,zCj,zB3 r1];exact ⟨l',rfl,h3⟩
    ·rw [zCk,zB3 r1];exact ⟨o1,rfl,skip fun s h=>by rw [hc] at h;cases h.2.1⟩
  ·rw [zAZ Du,zDd,zCk,zB3 r1];refine ⟨o1,rfl,skip fun s h=>?_⟩;obtain ⟨hp,_,⟨u,v,_,_,h3,_,h4,_⟩,_⟩:=h;rcases hF with ⟨_,hF⟩ | ⟨h5,_⟩
   ·have:=h4.rng W.g.gr (by omega) (by omega);rw [hF u.toNat (by rw [Ep];omega)] at h3;cases h3
   ·exact Du h5
def CI (g:List (List Int)) (S:List Bool) (v:Int):Nat:=(nb g v).countP fun x=>S.getD x.toNat false
def Mp (c:AB) (q:AA) (pos:List Int):Prop:=∀ v,v<pos.length -> (cB c pos).getD v false=true -> 2<=CI q.nbrs (pB c pos) v/\ CI q.nbrs (cB c pos) v<=2
def Yh (c:AB) (q:AA) (pos:List Int) (v a s:Nat):Prop:=(cB c pos).getD v false=true/\ (a:Int)∈nb q.nbrs v/\ (pB c pos).getD a false=true/\ ((CI q.nbrs (pB c pos) v=2/\ tb c.set s=false)∨(CI q.nbrs (cB c pos) v=2/\ (cB c pos).getD a false=false/\ tb c.set s=true))
def LM (c:AB) (q:AA) (pos:List Int) (a s:Nat):Prop:=E3 c q pos a s∨∃ v,v<pos.length/\ Yh c q pos v a s
section
variable {P C:List Bool} {o1:List Int} {row:List Int} {x20 x21:Int}
def JG (P:List Bool) (o2:List Int) (v:Int):List Int:=bif P.getD v.toNat false then o2++[v] else o2
def J4 (C:List Bool) (x:Int) (v:Int):Int:=bif C.getD v.toNat false then x+1 else x
theorem gV: ∀ (l o2:List Int),l.foldl (JG P) o2=o2++l.filter fun x=>P.getD x.toNat false
 | [],o2=>by simp
 | v::l,o2=>by
  rw [zDy,gV l];unfold JG;cases h:P.getD v.toNat false
  ·rw [zAc,List.filter_cons_of_neg (by rw [h];decide)]
  ·rw [zCk,List.filter_cons_of_pos (p:=fun x=>P.getD (Int.toNat x) false) h,zEp];rfl
theorem gx: ∀ (l:List Int) (x:Int),l.foldl (J4 C) x=x+(l.countP fun x=>C.getD x.toNat false:Nat)
 | [],x=>by simp
 | v::l,x=>by
  rw [zDy,gx l];unfold J4;cases h:C.getD v.toNat false
  ·rw [zAc,List.countP_cons_of_neg (by rw [h];decide)]
  ·rw [zCk,List.countP_cons_of_pos (p:=fun x=>C.getD (Int.toNat x) false) h];omega
def MB (P C:List Bool) (x20 x21:Int) (row o1 o2:List Int) (x8 j:Int):LJ:=match o2 with
 | []=>.l2 P C x8 x20 x21 row (row.length:Int) j o1
 | a::l=>.l3 P C (a::l).length x8 x20 x21 row (row.length:Int) j o1 (a::l)
theorem dp {o2:List Int} {x8 j:Int} (h:o2≠[]):MB P C x20 x21 row o1 o2 x8 j= .l3 P C o2.length x8 x20 x21 row (row.length:Int) j o1 o2:=by
 cases o2 with
 | nil=>exact absurd rfl h
 | cons a l=>rfl
theorem t8 {n j:Nat} {x8:Int} {o2:List Int} (hP:P.length=pos.length) (hC:C.length=pos.length) (hr: ∀ u∈row,0<=u/\ u<(pos.length:Int)) (hl:row.length<=256) (hj:j<row.length) (ho:o2.length<=256) (h8:0<=x8/\ x8<=256):
 CV c q pos pos.length lost (n+1) (MB P C x20 x21 row o1 o2 x8 j)=CV c q pos pos.length lost n (MB P C x20 x21 row o1 (JG P o2 (row.getD j 0)) (J4 C x8 (row.getD j 0)) ((j:Int)+1)):=by
 have L:(1000000000000:Nat)=BE:=rfl;have hx:row.getD j 0∈row:=by rw [u8,zAe hj];exact zC5 hj
 have GK:=hr _ hx;have r1:AI ((j:Int)+1):=An.2 ⟨by omega,by omega⟩;have r8:AI (x8+1):=An.2 ⟨by omega,by omega⟩;cases o2 with
 | nil=>
  show RO n (CV c q pos pos.length lost n) c q pos pos.length lost P C x8 x20 x21 row (row.length:Int) (j:Int) o1=_
  unfold RO JG J4;simp only [zCi];rw [zCm (by omega),zCk,zB3 ⟨⟨by omega,by omega⟩,by omega,by omega⟩];cases hp:P.getD (row.getD j 0).toNat false <;> cases hc:C.getD (row.getD j 0).toNat false
  ·rw [zAc,zAc,zAc,zB3 ⟨by omega,by omega⟩,zAc,zB3 r1];rfl
  ·rw [zAc,zAc,zCk,zB3 ⟨by omega,by omega⟩,zCk,zB3 ⟨r8,r1⟩];rfl
  ·rw [zCk,zCk,zAc,zB3 ⟨⟨⟨trivial,rfl⟩,by rw [zDM];omega,by rw [zDM,←L];omega⟩,by omega,by omega⟩,zAc,zB3 r1];rfl
  ·rw [zCk,zCk,zCk,zB3 ⟨⟨⟨trivial,rfl⟩,by rw [zDM];omega,by rw [zDM,←L];omega⟩,by omega,by omega⟩,zCk,zB3 ⟨r8,r1⟩];rfl
 | cons a l=>
  have AY:JG P (a::l) (row.getD j 0)≠[]:=by unfold JG;cases P.getD (row.getD j 0).toNat false <;> simp
  rw [dp AY]
  show Mo n (CV c q pos pos.length lost n) c q pos pos.length lost P C (a::l).length x8 x20 x21 row (row.length:Int) (j:Int) o1 (a::l)=_
  unfold Mo JG J4;simp only [zCi];rw [zCm (by omega),zCk,zB3 ⟨⟨by omega,by omega⟩,by omega,by omega⟩];cases hp:P.getD (row.getD j 0).toNat false <;> cases hc:C.getD (row.getD j 0).toNat false
  ·rw [zAc,zAc,zAc,zB3 ⟨by omega,by omega⟩,zAc,zB3 r1]
  ·rw [zAc,zAc,zCk,zB3 ⟨by omega,by omega⟩,zCk,zB3 ⟨r8,r1⟩]
  ·rw [zCk,zCk,zAc,zB3 ⟨⟨⟨trivial,rfl⟩,⟨trivial,trivial⟩,by rw [zDM,←L];omega⟩,by omega,by omega⟩,zAc,zB3 r1,zDC]
  ·rw [zCk,zCk,zCk,zB3 ⟨⟨⟨trivial,rfl⟩,⟨trivial,trivial⟩,by rw [zDM,←L];omega⟩,by omega,by omega⟩,zCk,zB3 ⟨r8,r1⟩,zDC]
theorem gp (hP:P.length=pos.length) (hC:C.length=pos.length) (hr: ∀ u∈row,0<=u/\ u<(pos.length:Int)) (hl:row.length<=256): ∀ (k j n:Nat) (o2:List Int) (x8:Int),j+k=row.length -> o2.length<=j -> 0<=x8/\ x8<=(j:Int) ->
 CV c q pos pos.length lost (n+k) (MB P C x20 x21 row o1 o2 x8 j)=CV c q pos pos.length lost n (MB P C x20 x21 row o1 ((row.drop j).foldl (JG P) o2) ((row.drop j).foldl (J4 C) x8) (row.length:Int))
 | 0,j,n,o2,x8,e,_,_=>by
  have e:j=row.length:=by omega
  subst e;rw [List.drop_length];rfl
 | k+1,j,n,o2,x8,e,h2,h8=>by
  have hj:j<row.length:=by omega
  have e2:row.drop j=row.getD j 0::row.drop (j+1):=by
   rw [zDD hj,u8,zAe hj];rfl
  rw [←zDb,t8 hP hC hr hl hj (by omega) (by omega),e2,zDy,zDy]
  have h3:(JG P o2 (row.getD j 0)).length<=j+1:=by
   unfold JG;cases P.getD (row.getD j 0).toNat false
   ·rw [zAc];omega
   ·rw [zCk,zDC,zDM];omega
  have h4:0<=J4 C x8 (row.getD j 0)/\ J4 C x8 (row.getD j 0)<=((j+1:Nat):Int):=by
   unfold J4;cases C.getD (row.getD j 0).toNat false
   ·rw [zAc];omega
   ·rw [zCk];omega
  exact gp hP hC hr hl k (j+1) n _ _ (by omega) h3 h4
theorem mK {D:Nat -> Nat -> Prop} {near:List Int} {x8:Int} {v:Nat} {n:Nat} (W:Ec c q pos) (hD:CS pos lost D o1) (Vk: ∀ u∈near,0<=u/\ u<(pos.length:Int)) (Fx:near.length<=256) (hv:v<pos.length):
 ∃ l',CV c q pos pos.length lost (n+1+near.length) (.l4 (pB c pos) (cB c pos) near.length x8 x20 (v:Int) near.length (near.length:Int) 0 o1 near)=CV c q pos pos.length lost n (.l1 (pB c pos) (cB c pos) x20 ((v:Int)+1) l')/\
  CS pos lost (fun a s=>D a s∨((a:Int)∈near/\ ((near.length=2/\ tb c.set s=false)∨(x8=2/\ (cB c pos).getD a false=false/\ tb c.set s=true)))) l':=by
 have FL:=W.l1;have lc:(cB c pos).length=pos.length:=Ep
 obtain ⟨l',e,h⟩:=U4 (fun n (s:List Int) i=>CV c q pos pos.length lost n (.l4 (pB c pos) (cB c pos) near.length x8 x20 (v:Int) near.length (near.length:Int) i s near)) near.length 0
  (fun i s=>CS pos lost (fun a t=>D a t∨((a:Int)∈near.take i/\ ((near.length=2/\ tb c.set t=false)∨(x8=2/\ (cB c pos).getD a false=false/\ tb c.set t=true)))) s)
  (fun n i s _ hi hI=>by
   have hx:near.getD i 0∈near:=by rw [u8,zAe hi];exact zC5 hi
   have GK:=Vk _ hx
   have e3:near.take (i+1)=near.take i++[near.getD i 0]:=by
    rw [zDv hi,u8,zAe hi];rfl
   have r1:AI ((i:Int)+1):=An.2 ⟨by omega,by omega⟩;have mem: ∀ a:Nat,(a:Int)∈near.take (i+1)↔(a:Int)∈near.take i∨(a:Int)=near.getD i 0:=fun a=>by rw [e3,zC9,zC2]
   obtain ⟨l2,f2,aa⟩:=hI.only (c:=c) (q:=q) (cell:=near.getD i 0) GK.1 GK.2 (D':=fun a t=>(D a t∨((a:Int)∈near.take i/\ ((near.length=2/\ tb c.set t=false)∨(x8=2/\ (cB c pos).getD a false=false/\ tb c.set t=true))))∨((a:Int)=near.getD i 0/\ tb c.set t=false)) fun j s _ _=>Iff.rfl
   obtain ⟨l3,f3,zW⟩:=aa.lose (c:=c) (q:=q) (cell:=near.getD i 0) (ss:=c.set) GK.1 GK.2 (D':=fun a t=>((D a t∨((a:Int)∈near.take i/\ ((near.length=2/\ tb c.set t=false)∨(x8=2/\ (cB c pos).getD a false=false/\ tb c.set t=true))))∨((a:Int)=near.getD i 0/\ tb c.set t=false))∨((a:Int)=near.getD i 0/\ tb c.set t=true)) fun j s _ _=>Iff.rfl
   obtain ⟨l4,f4,Vw⟩:=hI.lose (c:=c) (q:=q) (cell:=near.getD i 0) (ss:=c.set) GK.1 GK.2 (D':=fun a t=>(D a t∨((a:Int)∈near.take i/\ ((near.length=2/\ tb c.set t=false)∨(x8=2/\ (cB c pos).getD a false=false/\ tb c.set t=true))))∨((a:Int)=near.getD i 0/\ tb c.set t=true)) fun j s _ _=>Iff.rfl
   show ∃ s',RN n (CV c q pos pos.length lost n) c q pos pos.length lost (pB c pos) (cB c pos) near.length x8 x20 (v:Int) near.length (near.length:Int) (i:Int) s near=_/\ _
   unfold RN;simp only [zCi,zC4];rw [zCm (by omega),zCk,zB3 ⟨⟨by omega,by omega⟩,hi⟩];have Ak: ∀ a:Nat,(a:Int)=near.getD i 0 -> (near.getD i 0).toNat=a:=fun a h=>by omega
   by_cases h2:near.length=2
   ·have b2:(((near.length:Nat):Int)==2)=true:=by rw [h2];rfl
    rw [b2,zCk,f2,zCj]
    by_cases h8:x8=2
    ·have b8:(x8==2)=true:=by rw [h8];rfl
     rw [b8,zCk,zB3 ⟨by omega,by omega⟩];cases hc:(cB c pos).getD (near.getD i 0).toNat false
     ·rw [zDd,zCk,f3,zCj,zB3 r1];refine ⟨l3,rfl,zW.id' fun a t _ _=>?_⟩;rw [mem];constructor
      ·rintro (h | ⟨h | h,h3 | ⟨h3,h4,h5⟩⟩)
       ·exact .inl (.inl (.inl h))
       ·exact .inl (.inl (.inr ⟨h,.inl h3⟩))
       ·exact .inl (.inl (.inr ⟨h,.inr ⟨h3,h4,h5⟩⟩))
       ·exact .inl (.inr ⟨h,h3.2⟩)
       ·exact .inr ⟨h,h5⟩
      ·rintro (((h | ⟨h,h3⟩) | ⟨h,h3⟩) | ⟨h,h3⟩)
       ·exact .inl h
       ·exact .inr ⟨.inl h,h3⟩
       ·exact .inr ⟨.inr h,.inl ⟨h2,h3⟩⟩
       ·exact .inr ⟨.inr h,.inr ⟨h8,by rw [←Ak a h];exact hc,h3⟩⟩
     ·rw [zDR,zAc,zB3 r1];refine ⟨l2,rfl,aa.id' fun a t _ _=>?_⟩;rw [mem];constructor
      ·rintro (h | ⟨h | h,h3 | ⟨h3,h4,h5⟩⟩)
       ·exact .inl (.inl h)
       ·exact .inl (.inr ⟨h,.inl h3⟩)
       ·exact .inl (.inr ⟨h,.inr ⟨h3,h4,h5⟩⟩)
       ·exact .inr ⟨h,h3.2⟩
       ·rw [←Ak a h,hc] at h4;cases h4
      ·rintro ((h | ⟨h,h3⟩) | ⟨h,h3⟩)
       ·exact .inl h
       ·exact .inr ⟨.inl h,h3⟩
       ·exact .inr ⟨.inr h,.inl ⟨h2,h3⟩⟩
    ·have b8:(x8==2)=false:=zDV.2 h8;rw [b8,zAc,zB3 r1];refine ⟨l2,rfl,aa.id' fun a t _ _=>?_⟩;rw [mem];constructor
     ·rintro (h | ⟨h | h,h3 | ⟨h3,h4,h5⟩⟩)
      ·exact .inl (.inl h)
      ·exact .inl (.inr ⟨h,.inl h3⟩)
      ·exact .inl (.inr ⟨h,.inr ⟨h3,h4,h5⟩⟩)
      ·exact .inr ⟨h,h3.2⟩
      ·exact absurd h3 h8
     ·rintro ((h | ⟨h,h3⟩) | ⟨h,h3⟩)
      ·exact .inl h
      ·exact .inr ⟨.inl h,h3⟩
      ·exact .inr ⟨.inr h,.inl ⟨h2,h3⟩⟩
   ·have b2:(((near.length:Nat):Int)==2)=false:=zDV.2 (by omega);rw [b2,zAc]
    by_cases h8:x8=2
    ·have b8:(x8==2)=true:=by rw [h8];rfl
     rw [b8,zCk,zB3 ⟨by omega,by omega⟩];cases hc:(cB c pos).getD (near.getD i 0).toNat false
     ·rw [zDd,zCk,f4,zCj,zB3 r1];refine ⟨l4,rfl,Vw.id' fun a t _ _=>?_⟩;rw [mem];constructor
      ·rintro (h | ⟨h | h,h3 | ⟨h3,h4,h5⟩⟩)
       ·exact .inl (.inl h)
       ·exact .inl (.inr ⟨h,.inl h3⟩)
       ·exact .inl (.inr ⟨h,.inr ⟨h3,h4,h5⟩⟩)
       ·exact absurd h3.1 h2
       ·exact .inr ⟨h,h5⟩
      ·rintro ((h | ⟨h,h3⟩) | ⟨h,h3⟩)
       ·exact .inl h
       ·exact .inr ⟨.inl h,h3⟩
       ·exact .inr ⟨.inr h,.inr ⟨h8,by rw [←Ak a h];exact hc,h3⟩⟩
     ·rw [zDR,zAc,zB3 r1];refine ⟨s,rfl,hI.id' fun a t _ _=>?_⟩;rw [mem];constructor
      ·rintro (h | ⟨h | h,h3 | ⟨h3,h4,h5⟩⟩)
       ·exact .inl h
       ·exact .inr ⟨h,.inl h3⟩
       ·exact .inr ⟨h,.inr ⟨h3,h4,h5⟩⟩
       ·exact absurd h3.1 h2
       ·rw [←Ak a h,hc] at h4;cases h4
      ·rintro (h | ⟨h,h3⟩)
       ·exact .inl h
       ·exact .inr ⟨.inl h,h3⟩
    ·have b8:(x8==2)=false:=zDV.2 h8;rw [b8,zAc,zB3 r1];refine ⟨s,rfl,hI.id' fun a t _ _=>?_⟩;rw [mem];constructor
     ·rintro (h | ⟨h | h,h3 | ⟨h3,h4,h5⟩⟩)
      ·exact .inl h
      ·exact .inr ⟨h,.inl h3⟩
      ·exact .inr ⟨h,.inr ⟨h3,h4,h5⟩⟩
      ·exact absurd h3.1 h2
      ·exact absurd h3 h8
     ·rintro (h | ⟨h,h3⟩)
      ·exact .inl h
      ·exact .inr ⟨.inl h,h3⟩)
  near.length 0 (n+1) o1 (by omega) (by omega) (hD.id' fun a t _ _=>by simp)
 refine ⟨l',Eq.trans e ?_,h.id' fun a t _ _=>by rw [List.take_length]⟩
 show RN n (CV c q pos pos.length lost n) c q pos pos.length lost (pB c pos) (cB c pos) near.length x8 x20 (v:Int) near.length (near.length:Int) (near.length:Int) l' near=_
 unfold RN;rw [zAZ (by omega),zAc,zB3 (An.2 ⟨by omega,by omega⟩)]
end
def mr (c:AB) (q:AA) (pos lost:List Int) (x:Bool×List Int):Prop:=(x.1=true↔Mp c q pos)/\ (x.1=true -> CS pos lost (LM c q pos) x.2)
theorem uQ (W:Ec c q pos): ∀ (k v:Nat) (o1:List Int),v+k=pos.length -> (∀ u,u<v -> (cB c pos).getD u false=true -> 2<=CI q.nbrs (pB c pos) u/\ CI q.nbrs (cB c pos) u<=2) -> CS pos lost (fun a s=>E3 c q pos a s∨∃ u,u<v/\ Yh c q pos u a s) o1 ->
 Ad (fun n=>CV c q pos pos.length lost n (.l1 (pB c pos) (cB c pos) (pos.length:Int) (v:Int) o1)) (mr c q pos lost):=by
 have FL:=W.l1;have DQ:=W.gl;have lp:(pB c pos).length=pos.length:=FE;have lc:(cB c pos).length=pos.length:=Ep;intro k
 induction k with
 | zero=>
  intro v o1 e CL hL;have e:v=pos.length:=by omega
  subst e;refine Ev.p (r:=(true,o1)) ⟨1,fun n hn=>?_⟩ ⟨⟨fun _ v hv hc=>CL v hv hc,fun _=>rfl⟩,fun _=>hL⟩;obtain ⟨n,rfl⟩: ∃ k,n=k+1:=⟨n-1,by omega⟩
  show RP n (CV c q pos pos.length lost n) c q pos pos.length lost (pB c pos) (cB c pos) (pos.length:Int) (pos.length:Int) o1=_
  unfold RP;rw [zAZ (by omega),zAc]
 | succ k ih=>
  intro v o1 e CL hL;have hv:v<pos.length:=by omega
  have r1:AI ((v:Int)+1):=An.2 ⟨by omega,by omega⟩
  have U: ∀ n,CV c q pos pos.length lost (n+1) (.l1 (pB c pos) (cB c pos) (pos.length:Int) (v:Int) o1)=bif (cB c pos).getD v false then CV c q pos pos.length lost n (MB (pB c pos) (cB c pos) (pos.length:Int) (v:Int) (nb q.nbrs v) o1 [] 0 0) else CV c q pos pos.length lost n (.l1 (pB c pos) (cB c pos) (pos.length:Int) ((v:Int)+1) o1):=fun n=>by
   show RP n (CV c q pos pos.length lost n) c q pos pos.length lost (pB c pos) (cB c pos) (pos.length:Int) (v:Int) o1=_
   unfold RP;rw [zCm (by omega),zCk,zB3 ⟨by omega,by omega⟩,zCi,zB3 r1,zB3 ⟨by omega,by omega⟩];cases (cB c pos).getD v false <;> rfl
  cases hc:(cB c pos).getD v false
  ·refine Ad.step 1 (fun n=>?_) (ih (v+1) o1 (by omega) (fun u hu Rp=>?_) (hL.id' fun a s _ _=>?_))
   ·rw [U,hc,zAc];rfl
   ·rcases zCx.1 hu with hu | rfl
    ·exact CL u hu Rp
    ·rw [hc] at Rp;cases Rp
   ·constructor
    ·rintro (h | ⟨u,hu,h⟩)
     ·exact .inl h
     ·rcases zCx.1 hu with hu | rfl
      ·exact .inr ⟨u,hu,h⟩
      ·rw [h.1] at hc;cases hc
    ·rintro (h | ⟨u,hu,h⟩)
     ·exact .inl h
     ·exact .inr ⟨u,by omega,h⟩
  ·have M5:=W.g.gr.row (v:Int) (by omega) (by omega)
   have Oq: ∀ u∈nb q.nbrs (v:Int),0<=u/\ u<(pos.length:Int):=fun u hu=>by
    have:=W.g.gr.rng (v:Int) (by omega) (by omega) u hu;omega
   have A:=fun n=>gp (c:=c) (q:=q) (lost:=lost) (o1:=o1) (x20:=(pos.length:Int)) (x21:=(v:Int)) lp lc Oq M5 (nb q.nbrs v).length 0 n [] 0 (by omega) (by simp) ⟨zDZ _,by omega⟩
   rw [zEt,gV,gx,zD2,Int.zero_add] at A;have dP:CI q.nbrs (pB c pos) v=((nb q.nbrs v).filter fun x=>(pB c pos).getD x.toNat false).length:=List.countP_eq_length_filter;have dC:CI q.nbrs (cB c pos) v=(nb q.nbrs v).countP fun x=>(cB c pos).getD x.toNat false:=rfl
   rw [←dC] at A
   generalize Rs:((nb q.nbrs v).filter fun x=>(pB c pos).getD x.toNat false)=near at A dP
   have CD: ∀ u,u∈near↔u∈nb q.nbrs v/\ (pB c pos).getD u.toNat false=true:=fun u=>by rw [←Rs,zEG]
   have Fx:near.length<=256:=by
    have:=List.length_filter_le (fun x=>(pB c pos).getD x.toNat false) (nb q.nbrs v);rw [Rs] at this;omega
   have Vk: ∀ u∈near,0<=u/\ u<(pos.length:Int):=fun u hu=>Oq u ((CD u).1 hu).1
   have U2: ∀ n,CV c q pos pos.length lost (n+((nb q.nbrs v).length+1)) (.l1 (pB c pos) (cB c pos) (pos.length:Int) (v:Int) o1)=CV c q pos pos.length lost n (MB (pB c pos) (cB c pos) (pos.length:Int) (v:Int) (nb q.nbrs v) o1 near (CI q.nbrs (cB c pos) v:Int) ((nb q.nbrs v).length:Int)):=fun n=>by
    rw [←zDb,U,hc,zCk];exact A n
   refine Ad.step _ U2 ?_
   by_cases hbad:CI q.nbrs (pB c pos) v<2∨2<CI q.nbrs (cB c pos) v
   ·have KG: ¬ Mp c q pos:=fun h=>by have:=h v hv hc;omega
    refine Ev.p (r:=(false,o1)) ⟨1,fun n hn=>?_⟩ ⟨⟨fun h=>(by cases h),fun h=>absurd h KG⟩,fun h=>(by cases h)⟩;obtain ⟨n,rfl⟩: ∃ k,n=k+1:=⟨n-1,by omega⟩;cases near with
    | nil=>
     show RO n (CV c q pos pos.length lost n) c q pos pos.length lost (pB c pos) (cB c pos) (CI q.nbrs (cB c pos) v:Int) (pos.length:Int) (v:Int) (nb q.nbrs v) ((nb q.nbrs v).length:Int) ((nb q.nbrs v).length:Int) o1=_
     unfold RO;rw [zAZ (by omega),zAc]
    | cons a l=>
     show Mo n (CV c q pos pos.length lost n) c q pos pos.length lost (pB c pos) (cB c pos) (a::l).length (CI q.nbrs (cB c pos) v:Int) (pos.length:Int) (v:Int) (nb q.nbrs v) ((nb q.nbrs v).length:Int) ((nb q.nbrs v).length:Int) o1 (a::l)=_
     unfold Mo;rw [zAZ (by omega),zAc]
     by_cases h2:(((a::l).length:Nat):Int)<2
     ·rw [zCm h2,zCk]
     ·rw [zAZ h2,zAc,zCm (by omega),zCk]
   ·have AY:near≠[]:=by
     intro h;rw [h,zDx] at dP;omega
    obtain ⟨l',e4,Vw⟩:=mK (c:=c) (q:=q) (lost:=lost) (o1:=o1) (near:=near) (x20:=(pos.length:Int)) (x8:=(CI q.nbrs (cB c pos) v:Int)) (n:=0) W hL Vk Fx hv;have e5: ∀ n,∃ l',CV c q pos pos.length lost (n+1+near.length) (.l4 (pB c pos) (cB c pos) near.length (CI q.nbrs (cB c pos) v:Int) (pos.length:Int) (v:Int) near.length (near.length:Int) 0 o1 near)=CV c q pos pos.length lost n (.l1 (pB c pos) (cB c pos) (pos.length:Int) ((v:Int)+1) l')/\ _:=fun n=>mK (c:=c) (q:=q) (lost:=lost) (o1:=o1) (near:=near) (x20:=(pos.length:Int)) (x8:=(CI q.nbrs (cB c pos) v:Int)) (n:=n) W hL Vk Fx hv
    have IH:=ih (v+1) l' (by omega) (fun u hu Rp=>by
     rcases zCx.1 hu with hu | rfl
     ·exact CL u hu Rp
     ·omega) (Vw.id' fun a s _ _=>by
     constructor
     ·rintro (h | ⟨u,hu,h⟩)
      ·exact .inl (.inl h)
      ·rcases zCx.1 hu with hu | rfl
       ·exact .inl (.inr ⟨u,hu,h⟩)
       ·obtain ⟨h1,h2,h3,h4⟩:=h;refine .inr ⟨(CD _).2 ⟨h2,by rw [zCi];exact h3⟩,?_⟩;rcases h4 with ⟨h4,h5⟩ | ⟨h4,h5⟩
        ·exact .inl ⟨by omega,h5⟩
        ·exact .inr ⟨by omega,h5⟩
     ·rintro ((h | ⟨u,hu,h⟩) | ⟨h1,h2⟩)
      ·exact .inl h
      ·exact .inr ⟨u,by omega,h⟩
      ·obtain ⟨h3,h4⟩:=(CD _).1 h1;rw [zCi] at h4;refine .inr ⟨v,by omega,hc,h3,h4,?_⟩;rcases h2 with ⟨h2,h5⟩ | ⟨h2,h5⟩
       ·exact .inl ⟨by omega,h5⟩
       ·exact .inr ⟨by omega,h5⟩)
    refine Ad.step (1+near.length+1) (g:=fun n=>CV c q pos pos.length lost n (.l1 (pB c pos) (cB c pos) (pos.length:Int) ((v:Int)+1) l')) (fun n=>?_) IH;obtain ⟨l2,e6,zV⟩:=e5 n;have:l2=l':=zV.unique Vw;subst this;rw [dp AY,show n+(1+near.length+1)=n+1+near.length+1 by omega,←e6]
    show Mo (n+1+near.length) (CV c q pos pos.length lost (n+1+near.length)) c q pos pos.length lost (pB c pos) (cB c pos) near.length (CI q.nbrs (cB c pos) v:Int) (pos.length:Int) (v:Int) (nb q.nbrs v) ((nb q.nbrs v).length:Int) ((nb q.nbrs v).length:Int) o1 near=_
    unfold Mo;rw [zAZ (by omega),zAc,zAZ (by omega),zAc,zAZ (by omega),zAc]
theorem uR (W:Ec c q pos) (hL:CS pos lost (fun _ _=>False) lost):Ad (fun n=>U3 n c q pos pos.length lost) (mr c q pos lost):=by
 have FL:=W.l1;obtain ⟨r,_,hF⟩:=Ri (l:=cB c pos) (by rw [Ep];exact FL);obtain ⟨l0,h1,h2⟩:=gY W hL hF;refine Ad.bind h1 (b:=fun n y1=>CV c q pos pos.length lost n (.l1 y1.1 y1.2.1 (y1.2.1.length:Int) 0 y1.2.2.2)) ?_;have:=uQ (q:=q) W pos.length 0 l0 (by omega) (fun u hu=>absurd hu (zCz u)) (h2.id' fun a s _ _=>⟨fun h=>h.elim id fun ⟨u,hu,_⟩=>absurd hu (zCz u),.inl⟩);refine this.eq fun n=>?_
 show CV c q pos pos.length lost n (.l1 (pB c pos) (cB c pos) ((cB c pos).length:Int) 0 l0)=_
 rw [Ep];rfl
end
end Go.Proofs.YtgkhhfnhacibcaaGreatDoor
namespace Go.Proofs.YtgkhhfnhacibcaaGreatDoor
open Go.RowKit
set_option maxRecDepth 100000
set_option maxHeartbeats 40000000
theorem pj:At (BA Tryz.f44 6) [([0,1,2,3,4,5,6,7,8],9),([10],11)] [12] []:=by unfold At;kernel_rfl
theorem pk:At (BA Tryz.f44 13) [] (List.range 13) [13]:=by unfold At;kernel_rfl
def Ds:Bb:=fun i=>match i with
 | 6=>.ord [([0,1,2,3,4,5,6,7,8],9),([10],11)] [12] []
 | 13=>.ord [] (List.range 13) [13]
 | _=>.no
def xn (q:AA) (pos:List Int):DH:=[some (.cells (AD q)),some (.cells [.cst .nilFunc,.fn 68 0 (L1 []),.fn 69 0 (L1 []),.fn 70 0 (L1 []),.fn 71 0 (L1 []),.fn 72 0 (L1 []),.fn 73 0 (L1 []),.fn 74 0 (L1 []),.fn 75 0 (L1 []),.fn 76 0 (L1 [])]),some (.ints (List.replicate pos.length (0:Int)))]
def KE (q:AA) (pos:List Int) (i:Int):DH:=[some (.cells (AD q)),some (.cells [.cst .nilFunc,.fn 68 0 (L1 []),.fn 69 0 (L1 []),.fn 70 0 (L1 []),.fn 71 0 (L1 []),.fn 72 0 (L1 []),.fn 73 0 (L1 []),.fn 74 0 (L1 []),.fn 75 0 (L1 []),.fn 76 0 (L1 [])]),some (.ints (List.replicate pos.length (0:Int))),some (.ints (List.replicate pos.length (0:Int))),some (.cells (AH (q.cons.getD ((i).toNat) default)++AD q++[.ints pos,.msl 3 1 0 pos.length]))]
def xm (pos:List Int) (q:AA) (i:Int) (o2:List Int):DH:=[some (.ints (List.replicate pos.length (0:Int))),some (.cells (AH (q.cons.getD ((i).toNat) default)++AD q++[.ints pos,.msl 2 1 0 pos.length])),some (.ints o2)]
def xl (pos:List Int) (q:AA) (i:Int) (o2 o3:List Int):DH:=[some (.ints (List.replicate pos.length (0:Int))),some (.cells (AH (q.cons.getD ((i).toNat) default)++AD q++[.ints pos,.msl 2 1 0 pos.length])),some (.ints o2),some (.ints o3)]
inductive Qx where
 | l1 (o2:List Int)
 | l2 (BR:Nat) (Km B7:Int) (o2 o3:List Int)
def YI (n:Nat) (self:Qx -> Option ((List Int))) (q:AA) (i:Int) (pos:List Int) (o2:List Int):Option ((List Int)):=
 (Wl n pos).bind fun y1=>
  self (.l2 y1.length (y1.length:Int) 0 o2 y1)
def Qw (n:Nat) (self:Qx -> Option ((List Int))) (q:AA) (i:Int) (pos:List Int) (BR:Nat) (Km B7:Int) (o2 o3:List Int):Option ((List Int)):=
 bif (decide (B7<Km)) then
  if (0<=B7/\ B7<(BR:Int))/\ 0+((B7).toNat)<o3.length/\ (0<=B7/\ B7<(pos.length:Int))/\ 0+((B7).toNat)<o2.length/\ AI (B7+1) then
   self (.l2 BR Km (B7+1) o2 (o3.set (0+((B7).toNat)) (bits .andNot .i64 (o3.getD (0+((B7).toNat)) 0) (o2.getD (0+((B7).toNat)) 0))))
  else none
 else
  if BR=o3.length then
   (Hj n o3).bind fun y1=>
    bif y1 then
     if pos.length=(List.replicate pos.length (0:Int)).length then
      some (List.replicate pos.length (0:Int))
     else none
    else
     some o3
  else none
def YJ (n:Nat) (self:Qx -> Option ((List Int))) (q:AA) (i:Int) (pos:List Int):Option ((List Int)):=
 if ((pos.length:Int):Int)=(pos.length:Int)/\ 0<=(pos.length:Int)/\ ((pos.length:Int):Int)<=1000000000000 then
  (Hj n pos).bind fun y1=>
   bif y1 then
    if pos.length=(List.replicate pos.length (0:Int)).length then
     some (List.replicate pos.length (0:Int))
    else none
   else
    if 0<=i/\ i<(q.cons.length:Int) then
     bif (((q.cons.getD ((i).toNat) default).kind)==0) then
      none
     else
      bif (((q.cons.getD ((i).toNat) default).kind)==1) then
       (PU n (q.cons.getD ((i).toNat) default) q pos pos.length (List.replicate pos.length (0:Int))).bind fun y2=>
        bif (!y2.1) then
         if pos.length=(List.replicate pos.length (0:Int)).length then
          some (List.replicate pos.length (0:Int))
         else none
        else
         self (.l1 y2.2)
      else
       bif (((q.cons.getD ((i).toNat) default).kind)==2) then
        (PW n (q.cons.getD ((i).toNat) default) q pos pos.length (List.replicate pos.length (0:Int))).bind fun y2=>
         bif (!y2.1) then
          if pos.length=(List.replicate pos.length (0:Int)).length then
           some (List.replicate pos.length (0:Int))
          else none
         else
          self (.l1 y2.2)
       else
        bif (((q.cons.getD ((i).toNat) default).kind)==3) then
         (Nz n (q.cons.getD ((i).toNat) default) q pos pos.length (List.replicate pos.length (0:Int))).bind fun y2=>
          bif (!y2.1) then
           if pos.length=(List.replicate pos.length (0:Int)).length then
            some (List.replicate pos.length (0:Int))
           else none
          else
           self (.l1 y2.2)
        else
         bif (((q.cons.getD ((i).toNat) default).kind)==4) then
          (K6 n (q.cons.getD ((i).toNat) default) q pos pos.length (List.replicate pos.length (0:Int))).bind fun y2=>
           bif (!y2.1) then
            if pos.length=(List.replicate pos.length (0:Int)).length then
             some (List.replicate pos.length (0:Int))
            else none
           else
            self (.l1 y2.2)
         else
          bif (((q.cons.getD ((i).toNat) default).kind)==5) then
           (N9 n (q.cons.getD ((i).toNat) default) q pos pos.length (List.replicate pos.length (0:Int))).bind fun y2=>
            bif (!y2.1) then
             if pos.length=(List.replicate pos.length (0:Int)).length then
              some (List.replicate pos.length (0:Int))
             else none
            else
             self (.l1 y2.2)
          else
           bif (((q.cons.getD ((i).toNat) default).kind)==6) then
            (Nh n (q.cons.getD ((i).toNat) default) q pos pos.length (List.replicate pos.length (0:Int))).bind fun y2=>
             bif (!y2.1) then
              if pos.length=(List.replicate pos.length (0:Int)).length then
               some (List.replicate pos.length (0:Int))
              else none
             else
              self (.l1 y2.2)
           else
            bif (((q.cons.getD ((i).toNat) default).kind)==7) then
             (Mh n (q.cons.getD ((i).toNat) default) q pos pos.length (List.replicate pos.length (0:Int))).bind fun y2=>
              bif (!y2.1) then
               if pos.length=(List.replicate pos.length (0:Int)).length then
                some (List.replicate pos.length (0:Int))
               else none
              else
               self (.l1 y2.2)
            else
             bif (((q.cons.getD ((i).toNat) default).kind)==8) then
              (Wf n (q.cons.getD ((i).toNat) default) q pos pos.length (List.replicate pos.length (0:Int))).bind fun y2=>
               bif (!y2.1) then
                if pos.length=(List.replicate pos.length (0:Int)).length then
                 some (List.replicate pos.length (0:Int))
                else none
               else
                self (.l1 y2.2)
             else
              bif (((q.cons.getD ((i).toNat) default).kind)==9) then
               (U3 n (q.cons.getD ((i).toNat) default) q pos pos.length (List.replicate pos.length (0:Int))).bind fun y2=>
                bif (!y2.1) then
                 if pos.length=(List.replicate pos.length (0:Int)).length then
                  some (List.replicate pos.length (0:Int))
                 else none
                else
                 self (.l1 y2.2)
              else
               none
    else none
 else none
def IN (q:AA) (i:Int) (pos:List Int):Nat -> Qx -> Option ((List Int))
 | 0,_=>none
 | n+1,.l1 o2=>YI n (IN q i pos n) q i pos o2
 | n+1,.l2 BR Km B7 o2 o3=>Qw n (IN q i pos n) q i pos BR Km B7 o2 o3
def JA (n:Nat) (q:AA) (i:Int) (pos:List Int):Option ((List Int)):=YJ n (IN q i pos n) q i pos
def sf (n B:Nat) (N:Yd 0) (q:AA) (i:Int) (pos:List Int) (r:(List Int)):Qx -> Prop
 | .l1 o2=>TW B N (FQ Tryz.f44 0 (.ints r) []) (GQ (AZ Tryz.f44) 9 []) ⟨AM 69 [(2,.ints pos),(8,.msl 0 1 0 pos.length),(9,.ref 1 0)],[some (.ints (List.replicate pos.length (0:Int))),some (.cells (AH (q.cons.getD ((i).toNat) default)++AD q++[.ints pos,.msl 2 1 0 pos.length])),some (.ints o2)]⟩
 | .l2 BR Km B7 o2 o3=>∀ m0:Nat,n<=m0 -> TW B N (FQ Tryz.f44 0 (.ints r) []) (Ak m0 (Au (AZ Tryz.f44) 0 [])) ⟨AM 69 [(8,.msl 0 1 0 pos.length),(9,.ref 1 0),(10,.msl 3 1 0 BR),(47,.i Km),(48,.i B7)],[some (.ints (List.replicate pos.length (0:Int))),some (.cells (AH (q.cons.getD ((i).toNat) default)++AD q++[.ints pos,.msl 2 1 0 pos.length])),some (.ints o2),some (.ints o3)]⟩
theorem sh (B:Nat) (N:Yd 0) (q:AA) (i:Int) (pos:List Int):Al (IN q i pos) (sf · B N q i pos):=ia (fun _=>rfl) fun n AG pt r h=>by
 cases pt
 case l1 o2=>
  revert r;apply gO;exact cn fun y1 A0=>jc (ES.snapNew (ds:=[.ints pos]) (zBe A0) (xm pos q i o2) (bz (by kernel_rfl)) rfl) (lN Ds [0,1,2,3] (AG _ _ · n Nat.le.refl))
 case l2 BR Km B7 o2 o3=>
  intro m0 AC;refine rd AC fun m0 AC=>?_
  revert r;apply gO;exact bi 49 (jg pk (gc (gn fun g0=>jg g0 (gc (gn fun g1=>jg g1 (gc (gi (gc (gi (jg g0 (jg g1 (gw 64 (lG (BS 9 Ds) [0,1,2,3] (AG _ _ · m0 AC)))))))))))))) (gn fun g0=>cn fun y1 A0=>jc (sb [.msl 3 1 0 BR] (Of A0) (xl pos q i o2 o3) ⟨AR.ints rfl g0,trivial⟩) (bi 66 (gn fun g1=>lF fun p=>ez (BS 9 Ds) [6] [0] p [0] (H0.g g1)) (lF fun p=>ez (BS 9 Ds) [6] [3] p [0] (H0.g g0))))
theorem se {n:Nat} {q:AA} {i:Int} {pos:List Int} {r:(List Int)} (h:JA n q i pos=some r):EQ 44 [.agg 5 (L1 (AD q)),.i i,.ints pos] [] (.ints r) [] true:=by
 have AG:=fun B N=>(sh B N q i pos n)
 refine ot Tryz.func44 fun B N=>?_
 revert r;apply gO;exact jt (gn fun g0=>jg g0 (cf Of (xn q pos) fun _=>bi 18 (gn fun g1=>lF fun p=>ez (BS 9 Ds) [6] [2] p [0] (H0.g g1)) (jg pj (gi (jg g0 (bn (fun c1=>nO) (fun c1=>bn (fun c3=>jo 36 (AQ.int (k:=.i64) (eq_of_beq c3)) (jg (by decide:(0:Int)<=1/\ 1<((10:Nat):Int)) (ce zAt [4,3] (KE q pos i) fun _=>bi 42 (gn fun g2=>lF fun p=>ez (BS 9 Ds) [6] [2] p [0] (H0.g g2)) (lG (BS 9 Ds) [2,4,3] ((AG B N) _ _ ·))))) (fun c3=>bn (fun c5=>jo 36 (AQ.int (k:=.i64) (eq_of_beq c5)) (jg (by decide:(0:Int)<=2/\ 2<((10:Nat):Int)) (ce zA6 [4,3] (KE q pos i) fun _=>bi 42 (gn fun g2=>lF fun p=>ez (BS 9 Ds) [6] [2] p [0] (H0.g g2)) (lG (BS 9 Ds) [2,4,3] ((AG B N) _ _ ·))))) (fun c5=>bn (fun c7=>jo 36 (AQ.int (k:=.i64) (eq_of_beq c7)) (jg (by decide:(0:Int)<=3/\ 3<((10:Nat):Int)) (ce oC [4,3] (KE q pos i) fun _=>bi 42 (gn fun g2=>lF fun p=>ez (BS 9 Ds) [6] [2] p [0] (H0.g g2)) (lG (BS 9 Ds) [2,4,3] ((AG B N) _ _ ·))))) (fun c7=>bn (fun c9=>jo 36 (AQ.int (k:=.i64) (eq_of_beq c9)) (jg (by decide:(0:Int)<=4/\ 4<((10:Nat):Int)) (ce rM [4,3] (KE q pos i) fun _=>bi 42 (gn fun g2=>lF fun p=>ez (BS 9 Ds) [6] [2] p [0] (H0.g g2)) (lG (BS 9 Ds) [2,4,3] ((AG B N) _ _ ·))))) (fun c9=>bn (fun li=>jo 36 (AQ.int (k:=.i64) (eq_of_beq li)) (jg (by decide:(0:Int)<=5/\ 5<((10:Nat):Int)) (ce qc [4,3] (KE q pos i) fun _=>bi 42 (gn fun g2=>lF fun p=>ez (BS 9 Ds) [6] [2] p [0] (H0.g g2)) (lG (BS 9 Ds) [2,4,3] ((AG B N) _ _ ·))))) (fun li=>bn (fun lh=>jo 36 (AQ.int (k:=.i64) (eq_of_beq lh)) (jg (by decide:(0:Int)<=6/\ 6<((10:Nat):Int)) (ce zCM [4,3] (KE q pos i) fun _=>bi 42 (gn fun g2=>lF fun p=>ez (BS 9 Ds) [6] [2] p [0] (H0.g g2)) (lG (BS 9 Ds) [2,4,3] ((AG B N) _ _ ·))))) (fun lh=>bn (fun lf=>jo 36 (AQ.int (k:=.i64) (eq_of_beq lf)) (jg (by decide:(0:Int)<=7/\ 7<((10:Nat):Int)) (ce tp [4,3] (KE q pos i) fun _=>bi 42 (gn fun g2=>lF fun p=>ez (BS 9 Ds) [6] [2] p [0] (H0.g g2)) (lG (BS 9 Ds) [2,4,3] ((AG B N) _ _ ·))))) (fun lf=>bn (fun ld=>jo 36 (AQ.int (k:=.i64) (eq_of_beq ld)) (jg (by decide:(0:Int)<=8/\ 8<((10:Nat):Int)) (ce zBO [4,3] (KE q pos i) fun _=>bi 42 (gn fun g2=>lF fun p=>ez (BS 9 Ds) [6] [2] p [0] (H0.g g2)) (lG (BS 9 Ds) [2,4,3] ((AG B N) _ _ ·))))) (fun ld=>bn (fun lZ=>jo 36 (AQ.int (k:=.i64) (eq_of_beq lZ)) (jg (by decide:(0:Int)<=9/\ 9<((10:Nat):Int)) (ce uS [4,3] (KE q pos i) fun _=>bi 42 (gn fun g2=>lF fun p=>ez (BS 9 Ds) [6] [2] p [0] (H0.g g2)) (lG (BS 9 Ds) [2,4,3] ((AG B N) _ _ ·))))) (fun lZ=>nO))))))))))))))))
def fh (n:Nat) (q:AA) (i:Int) (pos:List Int):Option ((List Int)×Int):=
 (PZ n q i pos).bind fun y1=>
  bif (y1 != 0) then
   some (([]:List Int),y1)
  else
   (JA n q i pos).bind fun y2=>
    some (y2,0)
def MY (n:Nat) (q:AA) (i:Int) (pos:List Int):Option ((List Int)×Int):=fh n q i pos
theorem fg {n:Nat} {q:AA} {i:Int} {pos:List Int} {r:(List Int)×Int} (h:MY n q i pos=some r):EQ 15 [.agg 5 (L1 (AD q)),.i i,.ints pos] [] (.tup 2 (L1 [.ints r.1,.i r.2])) [] true:=by
 unfold MY fh at h;refine ot Tryz.func15 fun B N=>?_
 revert r;apply gO;exact cf zBf [some (.cells (AD q))] fun y1=>bi 14 (lF fun p=>el AE [6,7] [] p [] H0 [.nils,.i y1] (AQ.tupL (l:=[.nils,.i y1]) (l':=[.ints ([]:List Int),.i y1]) rfl ⟨AQ.ints_nil,Bh,trivial⟩)) (cf se [some (.cells (AD q))] fun _=>lE AE [6,7] [])
end Go.Proofs.YtgkhhfnhacibcaaGreatDoor
namespace Go.Proofs.YtgkhhfnhacibcaaGreatDoor
open Go.RowKit
def B0 (pos:List Int):Bool:=pos.any (· ==0)
theorem FN {pos:List Int}:B0 pos=false↔∀ j,j<pos.length -> pos.getD j 0≠0:=by
 unfold B0;rw [List.any_eq_false];constructor
 ·intro h j hj e;refine h (pos.getD j 0) ?_ (by rw [e];rfl);rw [u8,zAe hj];exact zC5 hj
 ·intro h x hx;obtain ⟨j,hj,rfl⟩:=zDq hx;have:=h j hj;rw [u8,zAe hj] at this;simpa using this
theorem zAy {pos:List Int} {n:Nat} (hl:pos.length<=LB) (hn:pos.length<n):WY n pos=some (B0 pos):=by
 have hb:LB<=9223372036854775806:=by decide
 have key: ∀ (k i n:Nat),i+k=pos.length -> k+1<=n -> PV pos n (.l1 (i:Int))=some ((pos.drop i).any (· ==0)):=by
  intro k
  induction k with
  | zero=>
   intro i n e hn;obtain ⟨n,rfl⟩: ∃ k,n=k+1:=⟨n-1,by omega⟩
   show Se n (PV pos n) pos (i:Int)=_
   unfold Se;rw [zAZ (by omega),zAc,zDg (by omega)];rfl
  | succ k ih=>
   intro i n e hn;obtain ⟨n,rfl⟩: ∃ k,n=k+1:=⟨n-1,by omega⟩;have hi:i<pos.length:=by omega
   have e2:pos.drop i=pos.getD i 0::pos.drop (i+1):=by
    rw [zDD hi,u8,zAe hi];rfl
   have:=ih (i+1) n (by omega) (by omega)
   show Se n (PV pos n) pos (i:Int)=_
   unfold Se;rw [zCm (by omega),zCk,zB3 ⟨by omega,by omega⟩,zB3 (An.2 ⟨by omega,by omega⟩),zCi,e2,List.any_cons];cases h:(pos.getD i 0==0)
   ·rw [zAc,zEC];exact this
   ·rfl
 have:=key pos.length 0 n (by omega) (by omega);unfold WY lD;exact this
theorem RV {pos:List Int} {n:Nat} (hl:pos.length<=LB) (hn:pos.length<n):Hj n pos=some (B0 pos):=by
 unfold Hj ZD;rw [zAy hl hn];rfl
def posOk (q:AA) (pos:List Int):Bool:=((pos.length:Int)==q.cells)&&pos.all fun x=>decide (0<=x)&&decide (x<2 ^ q.symbols.toNat)
def Ei (q:AA) (pos:List Int):Int:=if Bp q then (if posOk q pos then 0 else 250) else 191
section
variable {q:AA} {i:Int} {pos:List Int} {n:Nat}
theorem ft (hF:CW q) (hn:D7 q<=n) (hl:pos.length<=LB) (Hq:pos.length<n):Mb n q pos=some (Ei q pos):=by
 have hb:LB<=9223372036854775806:=by decide
 unfold Mb fq Ei;rw [XK hF hn,zCj];cases hv:Bp q with
 | false=>rfl
 | true=>
  obtain ⟨_,hs,_⟩:=DX hv;obtain ⟨p1,p2,p3⟩:=UW hs.1 hs.2
  show (bif ((pos.length:Int) != q.cells) then some 250 else Ma q pos n (.l1 0))=some (if posOk q pos=true then 0 else 250)
  unfold posOk
  by_cases Ah:(pos.length:Int)=q.cells
  ·have h1:((pos.length:Int) != q.cells)=false:=by simpa using Ah
   have h2:((pos.length:Int)==q.cells)=true:=by simpa using Ah
   rw [h1,zAc,h2,zDG]
   have key: ∀ (k i n:Nat),i+k=pos.length -> k+1<=n -> Ma q pos n (.l1 (i:Int))=some (if ((pos.drop i).all fun x=>decide (0<=x)&&decide (x<2 ^ q.symbols.toNat))=true then 0 else 250):=by
    intro k
    induction k with
    | zero=>
     intro i n e hn;obtain ⟨n,rfl⟩: ∃ k,n=k+1:=⟨n-1,by omega⟩
     show Q3 n (Ma q pos n) q pos (i:Int)=_
     unfold Q3;rw [zAZ (by omega),zAc,zDg (by omega)];rfl
    | succ k ih=>
     intro i n e hn;obtain ⟨n,rfl⟩: ∃ k,n=k+1:=⟨n-1,by omega⟩;have hi:i<pos.length:=by omega
     have e2:pos.drop i=pos.getD i 0::pos.drop (i+1):=by
      rw [zDD hi,u8,zAe hi];rfl
     have:=ih (i+1) n (by omega) (by omega)
     show Q3 n (Ma q pos n) q pos (i:Int)=_
     unfold Q3;rw [zCm (by omega),zCk,zB3 ⟨by omega,by omega⟩,zB3 p3,zB3 (An.2 ⟨by omega,by omega⟩),zCi,e2,zEk,p1]
     by_cases c1:pos.getD i 0<0
     ·rw [zCm c1,zCk,zAZ (p:=0<=pos.getD i 0) (by omega)];rfl
     ·rw [zAZ c1,zAc,zCm (p:=0<=pos.getD i 0) (by omega),zDG]
      by_cases c2:pos.getD i 0>=2 ^ q.symbols.toNat
      ·rw [zCm c2,zCk,zAZ (p:=pos.getD i 0<2 ^ q.symbols.toNat) (by omega)];rfl
      ·rw [zAZ c2,zAc,zCm (p:=pos.getD i 0<2 ^ q.symbols.toNat) (by omega),zDG];exact this
   exact key pos.length 0 n (by omega) (by omega)
  ·have h1:((pos.length:Int) != q.cells)=true:=by simpa using Ah
   have h2:((pos.length:Int)==q.cells)=false:=by simpa using Ah
   rw [h1,zCk,h2,zD6];rfl
def Ip (q:AA) (i:Int) (pos:List Int):Int:=if (Hi q i).2=0 then Ei q pos else (Hi q i).2
theorem zBg (hF:CW q) (hn:D7 q<=n) (hl:pos.length<=LB) (Hq:pos.length<n):PZ n q i pos=some (Ip q i pos):=by
 unfold PZ bO Ip;rw [Yx hF hn,zCj,ft hF hn hl Hq,zCj]
 by_cases h:(Hi q i).2=0
 ·have:((Hi q i).2 != 0)=false:=by simpa using h
  rw [this,zB3 h];rfl
 ·have:((Hi q i).2 != 0)=true:=by simpa using h
  rw [this,zCt h];rfl
structure BW (q:AA) (i:Int) (pos:List Int):Prop where
 fit:CW q
 valid:Bp q=true
 i0:0<=i
 i1:i<(q.cons.length:Int)
 pos:posOk q pos=true
def con (q:AA) (i:Int):AB:=q.cons.getD i.toNat default
theorem BW.of (hF:CW q) (h:Ip q i pos=0):BW q i pos:=by
 unfold Ip Hi Ei at h
 by_cases hv:Bp q=false
 ·rw [zB3 hv] at h;rw [zCt (by decide)] at h;exact absurd h (by decide)
 ·rw [zCt hv] at h;have hv:Bp q=true:=by simpa using hv
  by_cases hi:0<=i/\ i<(q.cons.length:Int)
  ·rw [zB3 hi,zB3 rfl,zB3 hv] at h
   by_cases hp:posOk q pos=true
   ·exact ⟨hF,hv,hi.1,hi.2,hp⟩
   ·rw [zCt hp] at h;exact absurd h (by decide)
  ·rw [zCt hi,zCt (by decide)] at h;exact absurd h (by decide)
theorem BW.check (C:BW q i pos):Ip q i pos=0:=by
 have h1:Hi q i=(GZ ((q.cons.getD i.toNat default).kind),0):=by
  unfold Hi;rw [zCt (by rw [C.valid];exact fun h=>by cases h),zB3 ⟨C.i0,C.i1⟩]
 unfold Ip Ei;rw [h1,zB3 rfl,zB3 C.valid,zB3 C.pos]
theorem BW.mem (C:BW q i pos):con q i∈q.cons:=by
 have h:=C.i0;have h1:=C.i1;unfold con;rw [u8,zAe (by omega)];exact zC5 _
theorem BW.fine (C:BW q i pos):DE q (con q i)=true:=(DX C.valid).2.2.2.2.2 _ C.mem
theorem BW.kind (C:BW q i pos):Fc q.cells (con q i).kind (con q i).cells.length=true:=iR C.fine
theorem BW.len (C:BW q i pos):(pos.length:Int)=q.cells:=by
 have h:=C.pos;unfold posOk at h;rw [zCp,zDB] at h;exact h.1
theorem BW.sm (C:BW q i pos): ∀ j,j<pos.length -> Sm q.symbols.toNat (pos.getD j 0):=by
 intro j hj;have h:=C.pos;unfold posOk at h;rw [zCp,zCs] at h;have hm:pos.getD j 0∈pos:=by rw [u8,zAe hj];exact zC5 hj
 have:=h.2 _ hm;rw [zCp,zCw,zCw] at this;exact this
theorem BW.len256 (C:BW q i pos):0<pos.length/\ pos.length<=256:=by
 have h:=(DX C.valid).1;have:=C.len;omega
theorem BW.cells (C:BW q i pos):(∀ x∈(con q i).cells,0<=x/\ x<q.cells)/\ (con q i).cells.Nodup/\ (8<=(con q i).kind -> ∀ j,j<(con q i).cells.length -> (con q i).cells.getD j 0=(j:Int)):=by
 have h:=C.fine;unfold DE at h;simp only [zCp] at h;exact bQ.1 h.1.1.1.1.1
theorem BW.work (C:BW q i pos):Bv (con q i) q.symbols.toNat pos:=by
 obtain ⟨h1,h2,_⟩:=C.cells;have hl:=C.len;have h3:=(DX C.valid).1;have h4:=(DX C.valid).2.1;refine ⟨fun a ha=>?_,?_,C.sm,by omega⟩
 ·rw [hl];refine h1 _ ?_;rw [u8,zAe ha];exact zC5 ha
 ·have:=OT pos.length _ h2 fun x hx=>by rw [hl];exact h1 x hx
  omega
theorem BW.vals (C:BW q i pos):Do q q.symbols.toNat:=by
 obtain ⟨_,h2,⟨h3,h4⟩,_⟩:=DX C.valid;rw [Pu] at h4;refine ⟨by omega,fun s hs=>h4 _ ?_⟩;rw [u8,zAe (by omega)];exact zC5 _
theorem BW.runs (C:BW q i pos):H3 (con q i):=by
 have h:=C.fine;unfold DE at h;simp only [zCp,zCw] at h;have h2:=Pu.1 h.2;refine ⟨by have:=h.1.2;omega,fun j hj=>(h2 _ ?_).2⟩;rw [u8,zAe hj];exact zC5 hj
theorem BW.two (C:BW q i pos) (hk:(con q i).kind=6∨(con q i).kind=7):(con q i).cells.length=2:=by
 have h:=C.kind;unfold Fc at h;rcases hk with hk | hk <;> rw [hk] at h <;> simpa using h
theorem BW.all (C:BW q i pos) (hk:(con q i).kind=8∨(con q i).kind=9) (hd:B0 pos=false):Ec (con q i) q pos:=by
 have h:=C.kind;have hl:=C.len;have HE:=C.len256
 have h1:((con q i).cells.length:Int)=q.cells:=by
  unfold Fc at h;rcases hk with hk | hk <;> rw [hk] at h <;> simpa using h
 obtain ⟨_,_,_,⟨h5,h6⟩,_⟩:=DX C.valid;exact ⟨by omega,fun j hj=>C.cells.2.2 (by omega) j (by omega),⟨h6,C.fit.nbrs⟩,by omega,HE.1,HE.2,fun j hj=>⟨(C.sm j hj).in64 (zCv C.work.k (by decide)),FN.1 hd j hj⟩⟩
end
def CR (q:AA) (c:AB) (pos:List Int):Prop:=
 (c.kind=2 -> KX c pos=true)/\ (c.kind=3 -> Jm q c pos=true)/\ (c.kind=5 -> I3 c=true)/\ (c.kind=9 -> Mp c q pos)
def BT (q:AA) (c:AB) (pos:List Int) (a s:Nat):Prop:=
 (c.kind=1/\ NU c pos a s)∨(c.kind=2/\ Hw c pos a s=true)∨(c.kind=3/\ HU q c pos a s=true)∨(c.kind=4/\ Gw q c pos a s=true)∨(c.kind=5/\ IK c pos a s)∨
 (c.kind=6/\ Fr (G4 q c) c pos a s)∨(c.kind=7/\ Fr (GY c) c pos a s)∨(c.kind=8/\ HH c q pos a s)∨(c.kind=9/\ LM c q pos a s)
def KP (q:AA) (c:AB) (pos:List Int) (r:Bool×List Int):Prop:=(r.1=true↔CR q c pos)/\ (r.1=true -> B3 c pos (List.replicate pos.length 0) c.cells.length (BT q c pos) r.2)
def LC (q:AA) (c:AB) (pos:List Int) (j s:Nat):Prop:=∃ a,a<c.cells.length/\ (c.cells.getD a 0).toNat=j/\ BT q c pos a s
structure E8 (q:AA) (c:AB) (pos:List Int):Prop where
 nz: ∀ j,j<pos.length -> pos.getD j 0≠0
 ok:CR q c pos
 left: ∀ j,j<pos.length -> ∃ s,s<64/\ tb (pos.getD j 0) s=true/\ ¬ LC q c pos j s
structure PR (q:AA) (c:AB) (pos x:List Int):Prop where
 len:x.length=pos.length
 live:E8 q c pos -> ∀ j,j<pos.length -> B4 (x.getD j 0)/\ ∀ s,tb (x.getD j 0) s=true↔tb (pos.getD j 0) s=true/\ ¬ LC q c pos j s
 dead: ¬ E8 q c pos -> x=List.replicate pos.length 0
theorem PR.uniq {q:AA} {c:AB} {pos:List Int} (x y:List Int) (h:PR q c pos x) (h':PR q c pos y):x=y:=by
 by_cases hA:E8 q c pos
 ·have e:x.length=y.length:=h.len.trans h'.len.symm;refine zEK e fun j h1 h2=>?_
  have hj:j<pos.length:=by rw [←h.len];exact h1
  have e1:x.getD j 0=x[j]:=by simp [h1]
  have e2:y.getD j 0=y[j]:=by simp [h2]
  rw [←e1,←e2];refine Ji (h.live hA j hj).1 (h'.live hA j hj).1 fun s _=>?_
  rw [zDp,(h.live hA j hj).2,(h'.live hA j hj).2]
 ·rw [h.dead hA,h'.dead hA]
section
variable {q:AA} {i:Int} {pos:List Int}
theorem Ki:(List.replicate pos.length (0:Int)).length=pos.length:=zC0
theorem L4 (j:Nat):(List.replicate pos.length (0:Int)).getD j 0=0:=by
 rw [u8,zDc];split <;> rfl
theorem W9: ∀ j,B4 ((List.replicate pos.length (0:Int)).getD j 0):=fun j=>by rw [L4];exact ⟨by decide,by decide⟩
theorem cG:CS pos (List.replicate pos.length 0) (fun _ _=>False) (List.replicate pos.length 0):=⟨⟨Ki,W9⟩,fun j s=>by simp⟩
theorem B3.congr {c:AB} {lost l:List Int} {D D':Nat -> Nat -> Prop} {m:Nat} (h:B3 c pos lost m D l) (hD: ∀ a s,D' a s↔D a s):B3 c pos lost m D' l:=by
 refine ⟨h.1,fun j s=>?_⟩;rw [h.2];simp only [hD]
def Hc (n:Nat) (q:AA) (c:AB) (pos:List Int):Option (Bool×List Int):=
 bif c.kind==1 then PU n c q pos pos.length (List.replicate pos.length 0) else bif c.kind==2 then PW n c q pos pos.length (List.replicate pos.length 0) else
 bif c.kind==3 then Nz n c q pos pos.length (List.replicate pos.length 0) else bif c.kind==4 then K6 n c q pos pos.length (List.replicate pos.length 0) else
 bif c.kind==5 then N9 n c q pos pos.length (List.replicate pos.length 0) else bif c.kind==6 then Nh n c q pos pos.length (List.replicate pos.length 0) else
 bif c.kind==7 then Mh n c q pos pos.length (List.replicate pos.length 0) else bif c.kind==8 then Wf n c q pos pos.length (List.replicate pos.length 0) else
 bif c.kind==9 then U3 n c q pos pos.length (List.replicate pos.length 0) else none
theorem qy (C:BW q i pos) (hd:B0 pos=false):Ad (fun n=>Hc n q (con q i) pos) (KP q (con q i) pos):=by
 have W:=C.work;have hz:(List.replicate pos.length (0:Int)).length=pos.length:=Ki
 have all: ∀ k:Int,(con q i).kind=k -> ∀ {f:Nat -> Option (Bool×List Int)} {N:Nat} {ok:Bool} {D:Nat -> Nat -> Prop},(∀ n,N<=n -> ∃ l,f n=some (ok,l)/\ (ok=true -> B3 (con q i) pos (List.replicate pos.length 0) (con q i).cells.length D l)) -> (ok=true↔CR q (con q i) pos) -> (∀ a s,BT q (con q i) pos a s↔D a s) -> Ad f (KP q (con q i) pos):=by
  intro k _ f N ok D h CL hD;refine ⟨N,fun n hn=>?_⟩;obtain ⟨l,h1,h2⟩:=h n hn;exact ⟨(ok,l),h1,CL,fun h3=>(h2 h3).congr hD⟩
 have kc:=LN (Mt C.kind);have Hf: ∀ {k:Int},(con q i).kind=k -> k≠2 -> k≠3 -> k≠5 -> k≠9 -> CR q (con q i) pos:=fun hk h2 h3 h5 h9=>⟨fun h=>absurd (hk.symm.trans h) h2,fun h=>absurd (hk.symm.trans h) h3,fun h=>absurd (hk.symm.trans h) h5,fun h=>absurd (hk.symm.trans h) h9⟩
 rcases kc with hk | hk | hk | hk | hk | hk | hk | hk | hk
 ·refine Ad.eq (all 1 hk (f:=fun n=>PU n (con q i) q pos pos.length (List.replicate pos.length 0)) (N:=2*(con q i).cells.length+2) (ok:=true) (D:=NU (con q i) pos) (fun n hn=>?_) ⟨fun _=>Hf hk (by decide) (by decide) (by decide) (by decide),fun _=>rfl⟩ fun a s=>?_) fun n=>?_
  ·obtain ⟨l,h1,h2⟩:=zAp (q:=q) W hz hn;exact ⟨l,h1,fun _=>h2⟩
  ·unfold BT;rw [hk];simp
  ·unfold Hc;rw [hk];rfl
 ·refine Ad.eq (all 2 hk (f:=fun n=>PW n (con q i) q pos pos.length (List.replicate pos.length 0)) (N:=2*(con q i).cells.length+3) (ok:=KX (con q i) pos) (D:=fun a s=>Hw (con q i) pos a s=true) (fun n hn=>?_) ⟨fun h=>⟨fun _=>h,fun h=>absurd (hk.symm.trans h) (by decide),fun h=>absurd (hk.symm.trans h) (by decide),fun h=>absurd (hk.symm.trans h) (by decide)⟩,fun h=>h.1 hk⟩ fun a s=>?_) fun n=>?_
  ·exact zA3 (q:=q) W hz hn
  ·unfold BT;rw [hk];simp
  ·unfold Hc;rw [hk];rfl
 ·refine Ad.eq (all 3 hk (f:=fun n=>Nz n (con q i) q pos pos.length (List.replicate pos.length 0)) (N:=2*(con q i).cells.length+3) (ok:=Jm q (con q i) pos) (D:=fun a s=>HU q (con q i) pos a s=true) (fun n hn=>?_) ⟨fun h=>⟨fun h=>absurd (hk.symm.trans h) (by decide),fun _=>h,fun h=>absurd (hk.symm.trans h) (by decide),fun h=>absurd (hk.symm.trans h) (by decide)⟩,fun h=>h.2.1 hk⟩ fun a s=>?_) fun n=>?_
  ·exact n8 W C.vals hz hn
  ·unfold BT;rw [hk];simp
  ·unfold Hc;rw [hk];rfl
 ·refine Ad.eq (all 4 hk (f:=fun n=>K6 n (con q i) q pos pos.length (List.replicate pos.length 0)) (N:=2*(con q i).cells.length+3) (ok:=true) (D:=fun a s=>Gw q (con q i) pos a s=true) (fun n hn=>?_) ⟨fun _=>Hf hk (by decide) (by decide) (by decide) (by decide),fun _=>rfl⟩ fun a s=>?_) fun n=>?_
  ·obtain ⟨l,h1,h2⟩:=rI W C.vals hz hn;exact ⟨l,h1,fun _=>h2⟩
  ·unfold BT;rw [hk];simp
  ·unfold Hc;rw [hk];rfl
 ·obtain ⟨l,⟨N,h1⟩,h2⟩:=qb (q:=q) W C.runs hz W9;refine Ad.eq (all 5 hk (N:=N) (ok:=I3 (con q i)) (D:=IK (con q i) pos) (fun n hn=>⟨l,h1 n hn,h2⟩) ⟨fun h=>⟨fun h=>absurd (hk.symm.trans h) (by decide),fun h=>absurd (hk.symm.trans h) (by decide),fun _=>h,fun h=>absurd (hk.symm.trans h) (by decide)⟩,fun h=>h.2.2.1 hk⟩ fun a s=>?_) fun n=>?_
  ·unfold BT;rw [hk];simp
  ·unfold Hc;rw [hk];rfl
 ·refine Ad.eq (all 6 hk (f:=fun n=>Nh n (con q i) q pos pos.length (List.replicate pos.length 0)) (N:=0) (ok:=true) (D:=Fr (G4 q (con q i)) (con q i) pos) (fun n hn=>?_) ⟨fun _=>Hf hk (by decide) (by decide) (by decide) (by decide),fun _=>rfl⟩ fun a s=>?_) fun n=>?_
  ·obtain ⟨l,h1,h2⟩:=zCL (n:=n) W C.vals (C.two (.inl hk)) hz;exact ⟨l,h1,fun _=>h2⟩
  ·unfold BT;rw [hk];simp
  ·unfold Hc;rw [hk];rfl
 ·refine Ad.eq (all 7 hk (f:=fun n=>Mh n (con q i) q pos pos.length (List.replicate pos.length 0)) (N:=0) (ok:=true) (D:=Fr (GY (con q i)) (con q i) pos) (fun n hn=>?_) ⟨fun _=>Hf hk (by decide) (by decide) (by decide) (by decide),fun _=>rfl⟩ fun a s=>?_) fun n=>?_
  ·obtain ⟨l,h1,h2⟩:=tn (n:=n) (q:=q) W (C.two (.inr hk)) hz;exact ⟨l,h1,fun _=>h2⟩
  ·unfold BT;rw [hk];simp
  ·unfold Hc;rw [hk];rfl
 ·obtain ⟨l,⟨N,h1⟩,h2⟩:=zBN (C.all (.inl hk) hd) cG;refine Ad.eq (all 8 hk (N:=N) (ok:=true) (D:=HH (con q i) q pos) (fun n hn=>⟨l,h1 n hn,fun _=>h2.by (C.all (.inl hk) hd)⟩) ⟨fun _=>Hf hk (by decide) (by decide) (by decide) (by decide),fun _=>rfl⟩ fun a s=>?_) fun n=>?_
  ·unfold BT;rw [hk];simp
  ·unfold Hc;rw [hk];rfl
 ·refine Ad.eq ((uR (C.all (.inr hk) hd) cG).mono fun r hr=>⟨?_,fun h=>((hr.2 h).by (C.all (.inr hk) hd)).congr fun a s=>?_⟩) fun n=>?_
  ·rw [hr.1];exact ⟨fun h=>⟨fun h=>absurd (hk.symm.trans h) (by decide),fun h=>absurd (hk.symm.trans h) (by decide),fun h=>absurd (hk.symm.trans h) (by decide),fun _=>h⟩,fun h=>h.2.2.2 hk⟩
  ·unfold BT;rw [hk];simp
  ·unfold Hc;rw [hk];rfl
theorem nq {n:Nat} {o2:List Int} (hl:o2.length=pos.length) (HE:pos.length<=256) (hn:600<=n):
 ∃ x,x.length=pos.length/\ (∀ j,j<pos.length -> x.getD j 0=bits .andNot .i64 (pos.getD j 0) (o2.getD j 0))/\ IN q i pos n (.l2 pos.length (pos.length:Int) 0 o2 pos)=some (if B0 x then List.replicate pos.length 0 else x):=by
 have lb:(256:Nat)<=LB:=by decide
 obtain ⟨n1,x,GN,_,e,hx,M0,VX⟩:=G6 (fun n (o3:List Int) k=>IN q i pos n (.l2 pos.length (pos.length:Int) k o2 o3)) pos.length 260
  (fun k o3=>o3.length=pos.length/\ (∀ j,j<k -> o3.getD j 0=bits .andNot .i64 (pos.getD j 0) (o2.getD j 0))/\ ∀ j,k<=j -> o3.getD j 0=pos.getD j 0) (fun n k o3 Fd hk hI=>by
   obtain ⟨h1,h2,h3⟩:=hI
   show ∃ s',Qw n (IN q i pos n) q i pos pos.length (pos.length:Int) (k:Int) o2 o3=_/\ _
   unfold Qw;simp only [zCi,zC4];rw [zCm (by omega),zCk,zB3 ⟨⟨by omega,by omega⟩,by omega,⟨by omega,by omega⟩,by omega,An.2 ⟨by omega,by omega⟩⟩];refine ⟨_,rfl,by rw [zDE];exact h1,fun j hj=>?_,fun j hj=>?_⟩
   ·by_cases e:k=j
    ·subst e;rw [KQ (by omega),h3 k (by omega)]
    ·rw [getD_set_ne e];exact h2 j (by omega)
   ·rw [getD_set_ne (by omega)];exact h3 j (by omega)) (n:=n) (s:=pos) (by omega) ⟨rfl,fun j hj=>absurd hj (zCz j),fun j _=>rfl⟩
 obtain ⟨n2,rfl⟩: ∃ n2,n1=n2+1:=⟨n1-1,by omega⟩;refine ⟨x,hx,M0,Eq.trans e ?_⟩
 show Qw n2 (IN q i pos n2) q i pos pos.length (pos.length:Int) (pos.length:Int) o2 x=_
 unfold Qw;rw [zAZ (by omega),zAc,zB3 hx.symm,RV (by omega) (by omega),zCj];cases B0 x
 ·rfl
 ·rw [zCk,zB3 Ki.symm];rfl
def Tf (n:Nat) (q:AA) (i:Int) (pos:List Int) (y2:Bool×List Int):Option (List Int):=
 bif (!y2.1) then (if pos.length=(List.replicate pos.length (0:Int)).length then some (List.replicate pos.length (0:Int)) else none) else IN q i pos n (.l1 y2.2)
theorem ns (C:BW q i pos) (hd:B0 pos=false) {n:Nat} (hn:601<=n) {y2:Bool×List Int} (hy:KP q (con q i) pos y2): ∃ x,Tf n q i pos y2=some x/\ PR q (con q i) pos x:=by
 have HE:=C.len256;have L:(1000000000000:Nat)=BE:=rfl;have nz:=FN.1 hd;obtain ⟨b,lost⟩:=y2;obtain ⟨CL,Vm⟩:=hy;unfold Tf;cases b with
 | false=>
  refine ⟨_,by rw [zDd,zCk,zB3 Ki.symm],Ki,fun hA=>?_,fun _=>rfl⟩;have:=CL.2 hA.ok;cases this
 | true=>
  have CL:=CL.1 rfl;have Vm:B3 (con q i) pos (List.replicate pos.length 0) (con q i).cells.length (BT q (con q i) pos) lost:=Vm rfl;obtain ⟨n,rfl⟩: ∃ k,n=k+1:=⟨n-1,by omega⟩;obtain ⟨x,h1,h2,h3⟩:=nq (q:=q) (i:=i) (n:=n) Vm.1 HE.2 (by omega)
  have hx: ∀ j,j<pos.length -> B4 (x.getD j 0)/\ ∀ s,tb (x.getD j 0) s=true↔tb (pos.getD j 0) s=true/\ ¬ LC q (con q i) pos j s:=fun j hj=>by
   rw [h2 j hj];refine ⟨E5 _ _ _,fun s=>?_⟩;rw [Jj,zCp,zDT,←zE3,Vm.2,L4];constructor
   ·rintro ⟨h4,h5⟩;refine ⟨h4,fun ⟨a,ha,e,hs⟩=>h5 (.inr ⟨a,ha,e,?_,hs⟩)⟩
    show tb (pos.getD ((con q i).cells.getD a 0).toNat 0) s=true
    rw [e];exact h4
   ·rintro ⟨h4,h5⟩;refine ⟨h4,fun h6=>h6.elim (fun h=>Gp h) fun ⟨a,ha,e,_,hs⟩=>h5 ⟨a,ha,e,hs⟩⟩
  have BQ:Wl n pos=some pos:=by
   unfold Wl lQ;rw [zB3 ⟨HE.1,trivial,⟨rfl,rfl⟩,by rw [←L];simp only [zDx];omega⟩,zB3 (by simp)];rfl
  have e:IN q i pos (n+1) (.l1 lost)=some (if B0 x then List.replicate pos.length 0 else x):=by
   show YI n (IN q i pos n) q i pos lost=_
   unfold YI;rw [BQ,zCj];exact h3
  refine ⟨_,by rw [zDR,zAc];exact e,?_,fun hA j hj=>?_,fun hA=>?_⟩
  ·split
   ·exact Ki
   ·exact h1
  ·rw [zCt]
   ·exact hx j hj
   ·rw [zE3,FN];intro j hj;rw [h1] at hj;obtain ⟨s,hs,h4,h5⟩:=hA.left j hj;exact (D6 (hx j hj).1).2 ⟨s,hs,((hx j hj).2 s).2 ⟨h4,h5⟩⟩
  ·rw [zB3];refine Classical.byContradiction fun h=>hA ?_
   rw [zE3,FN] at h;refine ⟨nz,CL,fun j hj=>?_⟩;obtain ⟨s,hs,h4⟩:=(D6 (hx j hj).1).1 (h j (by omega));exact ⟨s,hs,((hx j hj).2 s).1 h4⟩
theorem sd (C:BW q i pos): ∃ x,Ev (fun n=>JA n q i pos) x/\ PR q (con q i) pos x:=by
 have HE:=C.len256;have lb:(256:Nat)<=LB:=by decide
 have hi:0<=i/\ i<(q.cons.length:Int):=⟨C.i0,C.i1⟩;cases hd:B0 pos
 ·suffices H:Ad (fun n=>JA n q i pos) (PR q (con q i) pos) by
   obtain ⟨x,h1,h2⟩:=H.ev PR.uniq;exact ⟨x,h2,h1⟩
  obtain ⟨N,hN⟩:=Ad.bindU (qy C hd) (b:=fun n y2=>Tf n q i pos y2) (Q:=PR q (con q i) pos) ⟨601,fun n hn y2 hy=>ns C hd hn hy⟩;refine ⟨N+300,fun n hn=>?_⟩;obtain ⟨x,h1,h2⟩:=hN n (by omega);refine ⟨x,Eq.trans ?_ h1,h2⟩
  show JA n q i pos=(Hc n q (con q i) pos).bind fun y2=>Tf n q i pos y2
  unfold JA YJ;rw [zB3 ⟨rfl,by omega,by omega⟩,RV (by omega) (by omega),hd,zCj,zAc,zB3 hi];have hc:q.cons.getD i.toNat default=con q i:=rfl;rw [hc];have kc:=LN (Mt C.kind);unfold Hc;rcases kc with hk | hk | hk | hk | hk | hk | hk | hk | hk <;> rw [hk] <;> rfl
 ·refine ⟨List.replicate pos.length 0,⟨300,fun n hn=>?_⟩,Ki,fun hA=>?_,fun _=>rfl⟩
  ·show JA n q i pos=_
   unfold JA YJ;rw [zB3 ⟨rfl,by omega,by omega⟩,RV (by omega) (by omega),hd,zCj,zCk,zB3 Ki.symm]
  ·have:=FN.2 hA.nz;rw [hd] at this;cases this
def PrP (q:AA) (i:Int) (pos:List Int) (r:List Int×Int):Prop:=r.2=Ip q i pos/\ (r.2=0 -> PR q (con q i) pos r.1)/\ (r.2≠0 -> r.1= [])
theorem sj (hF:CW q) (hl:pos.length<=LB): ∃ r,Ev (fun n=>MY n q i pos) r/\ PrP q i pos r:=by
 have hE:Ev (fun n=>PZ n q i pos) (Ip q i pos):=⟨D7 q+pos.length+1,fun n hn=>zBg hF (by omega) hl (by omega)⟩
 by_cases h0:Ip q i pos=0
 ·obtain ⟨x,h1,h2⟩:=sd (BW.of hF h0);refine ⟨(x,0),?_,h0.symm,fun _=>h2,fun h=>absurd rfl h⟩;refine Ev.eq (Ev.bind hE (b:=fun n y1=>bif (y1 != 0) then some (([]:List Int),y1) else (JA n q i pos).bind fun y2=>some (y2,0)) ?_) fun n=>rfl
  rw [h0];exact Ev.bind h1 (b:=fun _ y2=>some (y2,0)) (Ev.now fun n=>rfl)
 ·refine ⟨([],Ip q i pos),?_,rfl,fun h=>absurd h h0,fun _=>rfl⟩;refine Ev.eq (Ev.bind hE (b:=fun n y1=>bif (y1 != 0) then some (([]:List Int),y1) else (JA n q i pos).bind fun y2=>some (y2,0)) (Ev.now fun n=>?_)) fun n=>rfl
  have:(Ip q i pos != 0)=true:=by simpa using h0
  rw [this];rfl
end
end Go.Proofs.YtgkhhfnhacibcaaGreatDoor
namespace Go.Proofs.YtgkhhfnhacibcaaGreatDoor
abbrev zFQ:=@forall_eq_or_imp
end Go.Proofs.YtgkhhfnhacibcaaGreatDoor
namespace Go.Proofs.YtgkhhfnhacibcaaGreatDoor
open Go.RowKit
structure OA (q:AA) (c:AB) (p:List Int):Prop where
 nz: ∀ k,k<c.cells.length -> AT c p k≠0
 ok:CR q c p
 left: ∀ k,k<c.cells.length -> ∃ s,tb (AT c p k) s=true/\ ¬ BT q c p k s
theorem Sl {α:Type} {f g:α -> Bool}: ∀ (l:List α),(∀ x∈l,f x=true -> g x=true) -> l.countP f<=l.countP g
 | [],_=>zC6 _
 | x::l,h=>by
  have h1:=Sl l fun y hy=>h y (zDK _ hy)
  have h2:=h x zDh;rw [zEQ,zEQ];cases hf:f x
  ·simp only [zDU,zER];omega
  ·rw [h2 hf];simp only [zDj];omega
theorem Ln {α:Type} {f g:α -> Bool} {a:α} (hf:f a=false) (hg:g a=true): ∀ (l:List α),(∀ x∈l,f x=true -> g x=true) -> a∈l -> l.countP f+1<=l.countP g
 | [],_,h=>by cases h
 | x::l,h,ha=>by
  rw [zEQ,zEQ];rcases zDF.1 ha with rfl | ha
  ·have h1:=Sl l fun y hy=>h y (zDK _ hy)
   rw [hf,hg,zB3 rfl];simp only [zDU,zER];omega
  ·have h1:=Ln hf hg l (fun y hy=>h y (zDK _ hy)) ha;have h2:=h x zDh;cases hx:f x
   ·simp only [zDU,zER];omega
   ·rw [h2 hx];simp only [zDj];omega
theorem lP {f g:Nat -> Bool} {m:Nat} (h: ∀ a,a<m -> f a=true -> g a=true):cnt f m<=cnt g m:=by
 unfold cnt;have:=Sl (f:=f) (g:=g) (List.range m) fun x hx=>h x (zCy.1 hx)
 omega
theorem lO {f g:Nat -> Bool} {m a:Nat} (h: ∀ a,a<m -> f a=true -> g a=true) (ha:a<m) (hf:f a=false) (hg:g a=true):cnt f m+1<=cnt g m:=by
 unfold cnt;have:=Ln hf hg (List.range m) (fun x hx=>h x (zCy.1 hx)) (zCy.2 ha);omega
theorem eA {k:Nat} {x:Int} (hx:Sm k x) (hk:k<=16) (h:Kv x=true) {s t:Nat} (hs:tb x s=true) (ht:tb x t=true):s=t:=by
 have ae:=LA (k:=k) (zCv hk (by decide));obtain ⟨m,rfl⟩:=zEN hx.1;have AL:m<18446744073709551616:=by have:=hx.2;omega
 have lo: ∀ {u:Nat},tb (m:Int) u=true -> u<64:=fun {u} hu=>zDS fun h=>by rw [H9 h] at hu;cases hu
 have h0:m≠0:=by
  rintro rfl;exact Gp hs
 have e:m&&& (m-1)=0:=by
  unfold Kv at h;rw [zDB] at h;apply Nat.eq_of_testBit_eq;intro u;rw [Nat.zero_testBit,Nat.testBit_and];rcases zD3 u 64 with hu | hu
  ·have h2:=(Kq (E5 .and _ _)).1 h u hu;have e1:(m:Int)-1=((m-1:Nat):Int):=by omega
   rw [HT,e1,H8 _ _ hu,H8 _ _ hu] at h2;exact h2
  ·rw [zFJ (zCu AL (zEv (n:=2) (by decide) hu)),zD6]
 have S:=dh m AL h0;rw [e,dg] at S
 have mem: ∀ {u:Nat},tb (m:Int) u=true -> u∈Eg m:=fun {u} hu=>by
  unfold Eg;rw [zEG,zCy];exact ⟨lo hu,by rw [←H8 m u (lo hu)];exact hu⟩
 have h1:=mem hs;have h2:=mem ht;rw [S,zC2] at h1 h2;rw [h1,h2]
section
variable {q:AA} {i:Int} {p p':List Int}
theorem ZO {c:AB} {x:Int} (h:bits .andNot .i64 x c.set=0) {s:Nat} (hs:tb x s=true):tb c.set s=true:=by
 have HD:s<64:=zDS fun h=>by rw [H9 h] at hs;cases hs
 have:=(Kq (E5 .andNot _ _)).1 h s HD;rw [Jj,hs,zDG,Bool.not_eq_false'] at this;exact this
theorem bx {c:AB} {x x':Int} (h: ∀ s,tb x' s=true -> tb x s=true) (hx:bits .andNot .i64 x c.set=0):bits .andNot .i64 x' c.set=0:=
 (Kq (E5 .andNot _ _)).2 fun s hs=>by
  rw [Jj];cases h1:tb x' s with
  | false=>rfl
  | true=>rw [ZO hx (h s h1)];rfl
theorem bv {c:AB} {x x':Int} (h: ∀ s,tb x' s=true -> tb x s=true) (hx:bits .and .i64 x' c.set≠0):bits .and .i64 x c.set≠0:=by
 obtain ⟨s,hs,h1⟩:=(D6 (E5 .and _ _)).1 hx;rw [HT,zCp] at h1;exact (D6 (E5 .and _ _)).2 ⟨s,hs,by rw [HT,h s h1.1,h1.2];rfl⟩
theorem mR {c:AB} {x:Int} {s:Nat} (h1:tb x s=true) (h2:tb c.set s=true):bits .and .i64 x c.set≠0:=by
 have HD:s<64:=zDS fun h=>by rw [H9 h] at h1;cases h1
 exact (D6 (E5 .and _ _)).2 ⟨s,HD,by rw [HT,h1,h2];rfl⟩
theorem zCQ {c:AB} {x:Int} {s:Nat} (h1:tb x s=true) (h2:tb c.set s=false):bits .andNot .i64 x c.set≠0:=by
 have HD:s<64:=zDS fun h=>by rw [H9 h] at h1;cases h1
 exact (D6 (E5 .andNot _ _)).2 ⟨s,HD,by rw [Jj,h1,h2];rfl⟩
def F1 (c:AB) (p' p:List Int):Prop:=∀ k,k<c.cells.length -> ∀ s,tb (AT c p' k) s=true -> tb (AT c p k) s=true
theorem zAr {c:AB} {k:Nat} (W:Bv c k p) (hS:F1 c p' p) (CH: ∀ a,a<c.cells.length -> B4 (AT c p' a)) (Ox: ∀ a,a<c.cells.length -> AT c p' a≠0) {a s:Nat} (h:NU c p a s):NU c p' a s:=by
 obtain ⟨b,hb,AY,h1,h2⟩:=h;have hx:=W.at hb
 have e:AT c p' b=AT c p b:=by
  refine Ji (CH b hb) (hx.in64 (by have:=W.k;omega)) fun t _=>?_
  obtain ⟨u,_,hu⟩:=(D6 (CH b hb)).1 (Ox b hb);have wT:u=s:=eA hx W.k h1 (hS b hb u hu) h2;subst wT;cases ht:tb (AT c p b) t with
  | true=>
   have:t=u:=eA hx W.k h1 ht h2;subst this;exact hu
  | false=>
   cases Vc:tb (AT c p' b) t with
   | false=>rfl
   | true=>rw [hS b hb t Vc] at ht;cases ht
 refine ⟨b,hb,AY,?_,?_⟩
 ·rw [e];exact h1
 ·rw [e];exact h2
theorem gq {c:AB} (hS:F1 c p' p) {a:Nat} (ha:a<c.cells.length) (h:Dm c p a=true):Dm c p' a=true:=by
 unfold Dm at h ⊢;rw [zDB] at h ⊢;exact bx (hS a ha) h
theorem g9 {c:AB} (hS:F1 c p' p) (CH: ∀ a,a<c.cells.length -> B4 (AT c p' a)) (Ox: ∀ a,a<c.cells.length -> AT c p' a≠0) {a:Nat} (ha:a<c.cells.length) (h:EX c p' a=true):EX c p a=true:=by
 unfold EX at h ⊢;rw [zC7,zDz] at h ⊢;right;rcases h with h | h
 ·unfold Dm at h;rw [zDB] at h;obtain ⟨u,_,hu⟩:=(D6 (CH a ha)).1 (Ox a ha);exact mR (hS a ha u hu) (ZO h hu)
 ·exact bv (hS a ha) h
theorem zA4 {c:AB} (hS:F1 c p' p) (CH: ∀ a,a<c.cells.length -> B4 (AT c p' a)) (Ox: ∀ a,a<c.cells.length -> AT c p' a≠0) (CL:KX c p'=true):
 KX c p=true/\ ∀ a s,a<c.cells.length -> tb (AT c p' a) s=true -> Hw c p a s=true -> Hw c p' a s=true:=by
 have m1:=lP (f:=Dm c p) (g:=Dm c p') (m:=c.cells.length) fun a ha=>gq hS ha
 have m2:=lP (f:=EX c p') (g:=EX c p) (m:=c.cells.length) fun a ha=>g9 hS CH Ox ha
 unfold KX at CL ⊢;rw [zCp,zDT,zDT,zDo,zDo] at CL ⊢;refine ⟨⟨by omega,by omega⟩,fun a s ha hs h=>?_⟩;unfold Hw at h ⊢;rw [zC7,zCp,zCp,zCp,zCp,zDB,zDB,zDz,zDz,zDT] at h ⊢;rcases h with ⟨⟨h1,h2⟩,h3⟩ | ⟨⟨h1,h2⟩,h3⟩
 ·refine .inl ⟨⟨by omega,fun h4=>?_⟩,h3⟩;have:=lO (f:=Dm c p) (g:=Dm c p') (m:=c.cells.length) (a:=a) (fun a ha=>gq hS ha) ha (by unfold Dm;exact zDV.2 h2) (by unfold Dm;exact zDB.2 h4);omega
 ·refine .inr ⟨⟨by omega,fun h4=>?_⟩,h3⟩
  have:=lO (f:=EX c p') (g:=EX c p) (m:=c.cells.length) (a:=a) (fun a ha=>g9 hS CH Ox ha) ha
   (by
    unfold EX Dm;rw [zFS,zDV,bne_eq_false_iff_eq];exact ⟨zCQ hs h3,h4⟩) (by unfold EX;rw [zC7,zDz];exact .inr h2)
  omega
theorem XS {f g:Nat -> Int}: ∀ {m:Nat},(∀ a,a<m -> f a<=g a) -> CM f m<=CM g m/\ ∀ a,a<m -> CM f m-f a<=CM g m-g a
 | 0,_=>⟨zDZ _,fun a ha=>absurd ha (zCz a)⟩
 | m+1,h=>by
  obtain ⟨h1,h2⟩:=XS (m:=m) fun a ha=>h a (by omega)
  have hm:=h m (by omega);have e: ∀ f:Nat -> Int,CM f (m+1)=CM f m+f m:=fun f=>rfl
  rw [e,e];refine ⟨by omega,fun a ha=>?_⟩;rcases zCx.1 ha with ha | rfl
  ·have:=h2 a ha;omega
  ·omega
theorem Yu {n:Int}: ∀ (l:List Int) (a:Int),n<=l.foldl (JJ q) a↔n<=a/\ ∀ e∈l,n<=q.values.getD e.toNat 0
 | [],a=>by simp
 | e::l,a=>by
  rw [zDy,Yu l];unfold JJ;simp only [zDF,zFQ];split <;> constructor <;> rintro ⟨h1,h2⟩
  ·exact ⟨by omega,h1,h2⟩
  ·exact ⟨h2.1,h2.2⟩
  ·exact ⟨h1,by omega,h2⟩
  ·exact ⟨h1,h2.2⟩
theorem aE {n:Int}: ∀ (l:List Int) (a:Int),l.foldl (JP q) a<=n↔a<=n/\ ∀ e∈l,q.values.getD e.toNat 0<=n
 | [],a=>by simp
 | e::l,a=>by
  rw [zDy,aE l];unfold JP;simp only [zDF,zFQ];split <;> constructor <;> rintro ⟨h1,h2⟩
  ·exact ⟨by omega,h1,h2⟩
  ·exact ⟨h2.1,h2.2⟩
  ·exact ⟨h1,by omega,h2⟩
  ·exact ⟨h1,h2.2⟩
theorem XX {k:Nat} (hk:k<=16) {x x':Int} (hx:Sm k x) (VY:Sm k x') (h: ∀ s,tb x' s=true -> tb x s=true): ∀ e∈BN x',e∈BN x:=fun e he=>by
 obtain ⟨s,rfl,h1,h2⟩:=(E0 VY (zCv hk (by decide))).1 he;exact (E0 hx (zCv hk (by decide))).2 ⟨s,rfl,h1,h s h2⟩
theorem n9 {c:AB} {k:Nat} (W:Bv c k p) (W':Bv c k p') (hS:F1 c p' p) (CL:Jm q c p'=true):
 Jm q c p=true/\ ∀ a s,a<c.cells.length -> HU q c p a s=true -> HU q c p' a s=true:=by
 have sub: ∀ a,a<c.cells.length -> ∀ e∈BN (AT c p' a),e∈BN (AT c p a):=fun a ha=>XX W.k (W.at ha) (W'.at ha) (hS a ha)
 have l1: ∀ a,a<c.cells.length -> EE q (AT c p a)<=EE q (AT c p' a):=fun a ha=>by
  have h:=(Yu (q:=q) (BN (AT c p a)) 100).1 (zDZ _);exact (Yu (BN (AT c p' a)) 100).2 ⟨h.1,fun e he=>h.2 e (sub a ha e he)⟩
 have l2: ∀ a,a<c.cells.length -> EH q (AT c p' a)<=EH q (AT c p a):=fun a ha=>by
  have h:=(aE (q:=q) (BN (AT c p a)) (-1)).1 (zDZ _);exact (aE (BN (AT c p' a)) (-1)).2 ⟨h.1,fun e he=>h.2 e (sub a ha e he)⟩
 have t1:=XS (f:=fun a=>EE q (AT c p a)) (g:=fun a=>EE q (AT c p' a)) (m:=c.cells.length) l1;have t2:=XS (f:=fun a=>EH q (AT c p' a)) (g:=fun a=>EH q (AT c p a)) (m:=c.cells.length) l2;have e1: ∀ p,JI q c p=CM (fun a=>EE q (AT c p a)) c.cells.length:=fun _=>rfl
 have e2: ∀ p,JO q c p=CM (fun a=>EH q (AT c p a)) c.cells.length:=fun _=>rfl
 unfold Jm at CL ⊢;rw [zCp,zDT,zDT,zDo,zDo,e1,e2] at CL ⊢;refine ⟨⟨by omega,by omega⟩,fun a s ha h=>?_⟩;unfold HU at h ⊢;rw [zC7,zCw,zCw,e1,e2] at h ⊢;have h1:=t1.2 a ha;have h2:=t2.2 a ha;rcases h with h | h
 ·exact .inl (by omega)
 ·exact .inr (by omega)
theorem TU {n b:Int}: ∀ (l:List Int) (a:Int),n<=l.foldl (I0 q b) a↔n<=a/\ ∀ e∈l,q.values.getD e.toNat 0>b -> n<=q.values.getD e.toNat 0
 | [],a=>by simp
 | e::l,a=>by
  rw [zDy,TU l];unfold I0;simp only [zDF,zFQ];split
  ·split <;> constructor <;> rintro ⟨h1,h2⟩
   ·exact ⟨by omega,fun _=>h1,h2⟩
   ·exact ⟨h2.1 (by assumption),h2.2⟩
   ·exact ⟨h1,fun _=>by omega,h2⟩
   ·exact ⟨h1,h2.2⟩
  ·constructor <;> rintro ⟨h1,h2⟩
   ·exact ⟨h1,fun h=>absurd h (by assumption),h2⟩
   ·exact ⟨h1,h2.2⟩
theorem WP {n b:Int}: ∀ (l:List Int) (a:Int),l.foldl (Il q b) a<=n↔a<=n/\ ∀ e∈l,q.values.getD e.toNat 0<b -> q.values.getD e.toNat 0<=n
 | [],a=>by simp
 | e::l,a=>by
  rw [zDy,WP l];unfold Il;simp only [zDF,zFQ];split
  ·split <;> constructor <;> rintro ⟨h1,h2⟩
   ·exact ⟨by omega,fun _=>h1,h2⟩
   ·exact ⟨h2.1 (by assumption),h2.2⟩
   ·exact ⟨h1,fun _=>by omega,h2⟩
   ·exact ⟨h1,h2.2⟩
  ·constructor <;> rintro ⟨h1,h2⟩
   ·exact ⟨h1,fun h=>absurd h (by assumption),h2⟩
   ·exact ⟨h1,h2.2⟩
theorem lu {c:AB} {k:Nat} (W:Bv c k p) (W':Bv c k p') (hS:F1 c p' p): ∀ a,a<=c.cells.length -> FO q c p a<=FO q c p' a
 | 0,_=>zDZ _
 | a+1,ha=>by
  have ih:=lu W W' hS a (by omega);have h:=(TU (q:=q) (b:=FO q c p a) (BN (AT c p a)) 100).1 (zDZ _);exact (TU (BN (AT c p' a)) 100).2 ⟨h.1,fun e he hg=>h.2 e (XX W.k (W.at (by omega)) (W'.at (by omega)) (hS a (by omega)) e he) (by omega)⟩
theorem me {c:AB} {k:Nat} (W:Bv c k p) (W':Bv c k p') (hS:F1 c p' p): ∀ m,m<=c.cells.length -> Gj q c p' m<=Gj q c p m
 | 0,_=>zDZ _
 | m+1,hm=>by
  have ih:=me W W' hS m (by omega);have h:=(WP (q:=q) (b:=Gj q c p m) (BN (AT c p (c.cells.length-1-m))) (-1)).1 (zDZ _);exact (WP (BN (AT c p' (c.cells.length-1-m))) (-1)).2 ⟨h.1,fun e he hg=>h.2 e (XX W.k (W.at (by omega)) (W'.at (by omega)) (hS _ (by omega)) e he) (by omega)⟩
theorem rJ {c:AB} {k:Nat} (W:Bv c k p) (W':Bv c k p') (hS:F1 c p' p) {a s:Nat} (ha:a<c.cells.length) (h:Gw q c p a s=true):Gw q c p' a s=true:=by
 have h1:=lu (q:=q) W W' hS a (by omega);have h2:=me (q:=q) W W' hS (c.cells.length-(a+1)) (by omega);unfold Gw Hy at h ⊢;rw [zC7,zCw,zCw] at h ⊢;rcases h with h | h
 ·exact .inl (by omega)
 ·exact .inr (by omega)
theorem Y4 {c:AB} (hS:F1 c p' p) {a:Nat} (ha:a<c.cells.length) {inn:Bool} (h:kd c p' a inn=true):kd c p a inn=true:=by
 unfold kd at h ⊢;cases inn
 ·rw [zAc,zDz] at h ⊢;exact fun h2=>h (bx (hS a ha) h2)
 ·rw [zCk,zDz] at h ⊢;exact bv (hS a ha) h
theorem YA {c:AB} (hS:F1 c p' p): ∀ (a:Nat),a<=c.cells.length -> ∀ t,Es c p' a t -> Es c p a t
 | 0,_,t,h=>h
 | a+1,ha,t,⟨s,inn,h1,h2,h3⟩=>⟨s,inn,YA hS a (by omega) s h1,h2,Y4 hS (by omega) h3⟩
theorem iJ {c:AB} (hS:F1 c p' p): ∀ (m:Nat),m<=c.cells.length -> ∀ t,H5 c p' m t -> H5 c p m t
 | 0,_,t,h=>h
 | m+1,hm,t,⟨h1,u,inn,h2,h3,h4⟩=>⟨YA hS _ (by omega) t h1,u,inn,h2,Y4 hS (by omega) h3,iJ hS m (by omega) u h4⟩
theorem lW {c:AB} (hS:F1 c p' p) {a:Nat} (ha:a<c.cells.length) {inn:Bool} (h:Iq c p' a inn):Iq c p a inn:=by
 obtain ⟨s,t,h1,h2,h3,h4⟩:=h;exact ⟨s,t,YA hS a (by omega) s h1,h2,Y4 hS ha h3,iJ hS _ (by omega) t h4⟩
theorem qZ {c:AB} (hS:F1 c p' p) {a s:Nat} (ha:a<c.cells.length) (h:IK c p a s):IK c p' a s:=
 h.elim (fun h=>.inl ⟨fun h2=>h.1 (lW hS ha h2),h.2⟩) fun h=>.inr ⟨fun h2=>h.1 (lW hS ha h2),h.2⟩
theorem f7 {ok:Nat -> Nat -> Bool} {c:AB} (hS:F1 c p' p) (h2:c.cells.length=2) {a s:Nat} (h:Fr ok c p a s):Fr ok c p' a s:=by
 unfold Fr at h ⊢;split
 ·rename_i h0;rw [zB3 h0] at h;exact fun ⟨t,h3,h4⟩=>h ⟨t,hS 1 (by omega) t h3,h4⟩
 ·rename_i h0;rw [zCt h0] at h;exact fun ⟨t,h3,h4⟩=>h ⟨t,hS 0 (by omega) t h3,h4⟩
structure Lx (c:AB) (q:AA) (p p':List Int):Prop where
 W:Ec c q p
 W':Ec c q p'
 len:p.length=p'.length
 sub: ∀ j,j<p.length -> ∀ s,tb (p'.getD j 0) s=true -> tb (p.getD j 0) s=true
section
variable {c:AB}
theorem Lx.pB (H:Lx c q p p'): ∀ v:Int,(pB c p').getD v.toNat false=true -> (pB c p).getD v.toNat false=true:=fun v h=>by
 have hl:=H.len
 by_cases hv:v.toNat<p.length
 ·rw [Q6 (by omega),zDz] at h;rw [Q6 hv,zDz];exact bv (H.sub _ hv) h
 ·rw [u8,zDO (by rw [FE];omega)] at h;cases h
theorem Lx.cB (H:Lx c q p p'): ∀ v:Int,(cB c p).getD v.toNat false=true -> (cB c p').getD v.toNat false=true:=fun v h=>by
 have hl:=H.len
 by_cases hv:v.toNat<p.length
 ·rw [Su hv,zDB] at h;rw [Su (by omega),zDB];exact bx (H.sub _ hv) h
 ·rw [u8,zDO (by rw [Ep];omega)] at h;cases h
theorem gL {x:List Int} {j s:Nat} (hj:j<x.length) (h1:tb (x.getD j 0) s=true) (h2:tb c.set s=true):(pB c x).getD j false=true:=by
 rw [Q6 hj,zDz];exact mR h1 h2
theorem eD {x:List Int} {j s:Nat} (hj:j<x.length) (h:(cB c x).getD j false=true) (h1:tb (x.getD j 0) s=true):tb c.set s=true:=by
 rw [Su hj,zDB] at h;exact ZO h h1
theorem keep (W:Ec c q p') (NA: ∀ v,v<p'.length -> ∃ s,tb (p'.getD v 0) s=true/\ ¬ E3 c q p' v s) {r:Int} (h0:0<=r) (hF:F2 (cB c p') r) {v:Int} (Hm:0<=v) (BZ:v<(p'.length:Int)) (hc:(cB c p').getD v.toNat false=true):Rc q.nbrs (pB c p') r v:=by
 refine Classical.byContradiction fun h=>?_
 obtain ⟨s,h1,h2⟩:=NA v.toNat (by omega);have e:((v.toNat:Nat):Int)=v:=by omega
 exact h2 ⟨W.cp (by omega) hc,eD (by omega) hc h1,r,h0,hF,by rw [e];exact h⟩
theorem F2.ex (W:Ec c q p') {v:Int} (Hm:0<=v) (BZ:v<(p'.length:Int)) (hc:(cB c p').getD v.toNat false=true): ∃ r:Int,0<=r/\ r<(p'.length:Int)/\ F2 (cB c p') r/\ (cB c p').getD r.toNat false=true:=by
 obtain ⟨r,_,hF⟩:=Ri (l:=cB c p') (by rw [Ep];exact W.l1);rcases hF with ⟨h1,h2⟩ | ⟨h1,h2,h3,h4⟩
 ·rw [h2 v.toNat (by rw [Ep];omega)] at hc;cases hc
 ·rw [Ep] at h2;exact ⟨r,h1,h2,.inr ⟨h1,by rw [Ep];exact h2,h3,h4⟩,h3⟩
theorem F2.at {r:Int} (h0:0<=r) (h:F2 (cB c p) r):r<(p.length:Int)/\ (cB c p).getD r.toNat false=true:=by
 rcases h with ⟨h1,_⟩ | ⟨_,h1,h2,_⟩
 ·omega
 ·rw [Ep] at h1;exact ⟨h1,h2⟩
theorem kV (H:Lx c q p p') (NA: ∀ v,v<p'.length -> ∃ s,tb (p'.getD v 0) s=true/\ ¬ E3 c q p' v s) {a s:Nat} (ha:a<p.length) (hs:tb (p'.getD a 0) s=true) (h:E3 c q p a s):E3 c q p' a s:=by
 obtain ⟨h1,h2,r,Du,hF,h3⟩:=h;have hl:=H.len;have gl:=H.W'.gl;obtain ⟨KD,ww⟩:=hF.at Du;have i7:=H.cB r ww;obtain ⟨r',h4,h5,NM,h6⟩:=F2.ex H.W' Du (by omega) i7;refine ⟨gL (by omega) hs h2,h2,r',h4,NM,fun h7=>h3 ?_⟩;have h8:=keep H.W' NA h4 NM Du (by omega) i7;have h9:=h8.symm H.W'.g.gr h4 (by omega) (H.W'.cp (by omega) h6);exact (h9.trans h7).mono H.pB
theorem zCC {g:List (List Int)} {inn:List Bool} {u a v:Int} (yO: ¬ Rc g inn u a) (ha:0<=a) (G:Gr g) (Zc:0<=u) (G8:u<(g.length:Int)) (h:Rc g inn u v):Rc g (inn.set a.toNat false) u v:=by
 induction h with
 | start=>exact .start
 | @step x y h hb hi ih=>
  refine .step ih hb ?_;have hr:=(Rc.step h hb hi).rng G Zc G8
  have AY:a.toNat≠y.toNat:=fun e=>yO (by
   have e2:a=y:=by omega
   rw [e2];exact Rc.step h hb hi)
  rw [u8,zDi AY,←u8];exact hi
theorem zBM (H:Lx c q p p') (NA: ∀ v,v<p'.length -> ∃ s,tb (p'.getD v 0) s=true/\ ¬ HH c q p' v s) {a s:Nat} (ha:a<p.length) (hs:tb (p'.getD a 0) s=true) (h:HH c q p a s):HH c q p' a s:=by
 have hl:=H.len;have gl:=H.W'.gl;have gl1:=H.W.gl
 have Rx: ∀ v,v<p'.length -> ∃ s,tb (p'.getD v 0) s=true/\ ¬ E3 c q p' v s:=fun v hv=>by
  obtain ⟨t,h1,h2⟩:=NA v hv;exact ⟨t,h1,fun h=>h2 (.inl h)⟩
 rcases h with h | ⟨h1,h2,⟨u,v,wV,wQ,hu,hv,h3,h4,h5⟩,h6⟩
 ·exact .inl (kV H Rx ha hs h)
 ·have JM:=h3.rng H.W.g.gr (by omega) (by omega);have GL:=h4.rng H.W.g.gr (by omega) (by omega);have Be:=H.cB u hu;have Cu:=H.cB v hv;have pu:=H.W'.cp (j:=u.toNat) (by omega) Be;obtain ⟨r',h7,h8,NM,h9⟩:=F2.ex H.W' JM.1 (by omega) Be;have ku:=keep H.W' Rx h7 NM JM.1 (by omega) Be;have kv:=keep H.W' Rx h7 NM GL.1 (by omega) Cu;have uv:Rc q.nbrs (pB c p') u v:=(ku.symm H.W'.g.gr h7 (by omega) (H.W'.cp (by omega) h9)).trans kv
  have gt: ∀ w:Int,((pB c p').set (a:Int).toNat false).getD w.toNat false=true -> ((pB c p).set (a:Int).toNat false).getD w.toNat false=true:=fun w hw=>by
   have la:(pB c p').length=p'.length:=FE;have lb:(pB c p).length=p.length:=FE;rw [Ws (by omega)] at hw ⊢;split
   ·rename_i e;rw [zB3 e] at hw;exact hw
   ·rename_i e;rw [zCt e] at hw;exact H.pB w hw
  have ua:Rc q.nbrs (pB c p') u a:=Classical.byContradiction fun NN=>h5 ((zCC NN (by omega) H.W'.g.gr JM.1 (by omega) uv).mono gt)
  have au:=ua.symm H.W'.g.gr JM.1 (by omega) pu;refine .inr ⟨?_,?_,⟨u,v,wV,wQ,Be,Cu,au,au.trans uv,fun NN=>h5 (NN.mono gt)⟩,h6⟩
  ·have:=ua.isIn pu
   rwa [zCi] at this
  ·cases hc:(cB c p').getD a false with
   | false=>rfl
   | true=>rw [eD (by omega) hc hs] at h6;cases h6
theorem uP (H:Lx c q p p') (CL:Mp c q p') (NA: ∀ v,v<p'.length -> ∃ s,tb (p'.getD v 0) s=true/\ ¬ LM c q p' v s):Mp c q p/\ ∀ a s,a<p.length -> tb (p'.getD a 0) s=true -> LM c q p a s -> LM c q p' a s:=by
 have hl:=H.len
 have Rx: ∀ v,v<p'.length -> ∃ s,tb (p'.getD v 0) s=true/\ ¬ E3 c q p' v s:=fun v hv=>by
  obtain ⟨t,h1,h2⟩:=NA v hv;exact ⟨t,h1,fun h=>h2 (.inl h)⟩
 have cb: ∀ v:Nat,(cB c p).getD v false=true -> (cB c p').getD v false=true:=fun v h=>H.cB (v:Int) h
 have dP: ∀ v:Int,CI q.nbrs (pB c p') v<=CI q.nbrs (pB c p) v:=fun v=>Sl _ fun x _ h=>H.pB x h
 have dC: ∀ v:Int,CI q.nbrs (cB c p) v<=CI q.nbrs (cB c p') v:=fun v=>Sl _ fun x _ h=>H.cB x h
 refine ⟨fun v hv hc=>?_,fun a s ha hs h=>?_⟩
 ·have:=CL v (by omega) (cb v hc);have h1:=dP v;have h2:=dC v;omega
 ·rcases h with h | ⟨v,hv,h1,h2,h3,h4⟩
  ·exact .inl (kV H Rx ha hs h)
  ·have hk:=CL v (by omega) (cb v h1);have e1:=dP v;have e2:=dC v;refine .inr ⟨v,by omega,cb v h1,h2,?_⟩;rcases h4 with ⟨h4,h5⟩ | ⟨h4,h5,h6⟩
   ·have hp:(pB c p').getD a false=true:=by
     cases hp:(pB c p').getD a false with
     | true=>rfl
     | false=>
      have:=Ln (f:=fun x:Int=>(pB c p').getD x.toNat false) (g:=fun x:Int=>(pB c p).getD x.toNat false) (a:=(a:Int)) hp h3 (nb q.nbrs v) (fun x _ h=>H.pB x h) h2;have e3:CI q.nbrs (pB c p') v+1<=CI q.nbrs (pB c p) v:=this;omega
    exact ⟨hp,.inl ⟨by omega,h5⟩⟩
   ·have hp:=gL (c:=c) (by omega) hs h6
    have hc:(cB c p').getD a false=false:=by
     cases hc:(cB c p').getD a false with
     | false=>rfl
     | true=>
      have:=Ln (f:=fun x:Int=>(cB c p).getD x.toNat false) (g:=fun x:Int=>(cB c p').getD x.toNat false) (a:=(a:Int)) h5 hc (nb q.nbrs v) (fun x _ h=>H.cB x h) h2;have e3:CI q.nbrs (cB c p) v+1<=CI q.nbrs (cB c p') v:=this;omega
    exact ⟨hp,.inr ⟨by omega,hc,h6⟩⟩
end
theorem mono (C:BW q i p) (C':BW q i p') (hS:F1 (con q i) p' p) (hA:OA q (con q i) p'):
 CR q (con q i) p/\ ∀ k,k<(con q i).cells.length -> ∀ s,tb (AT (con q i) p' k) s=true -> BT q (con q i) p k s -> BT q (con q i) p' k s:=by
 have W:=C.work;have W':=C'.work;have CH: ∀ a,a<(con q i).cells.length -> B4 (AT (con q i) p' a):=fun a ha=>(W'.at ha).in64 (by have:=W'.k;omega)
 have kc:=LN (Mt C.kind);have Hf: ∀ {k:Int},(con q i).kind=k -> k≠2 -> k≠3 -> k≠9 -> CR q (con q i) p:=fun hk h2 h3 h9=>⟨fun h=>absurd (hk.symm.trans h) h2,fun h=>absurd (hk.symm.trans h) h3,hA.ok.2.2.1,fun h=>absurd (hk.symm.trans h) h9⟩
 have all: ∀ {hk:(con q i).kind=8∨(con q i).kind=9},Lx (con q i) q p p':=fun {hk}=>by
  have hl:=C.len;have Dv:=C'.len
  have LZ:B0 p'=false:=FN.2 fun j hj=>by
   have hk8:(con q i).cells.length=p'.length:=by
    have h:=C'.kind;unfold Fc at h;rcases hk with hk | hk <;> rw [hk] at h <;> simp at h <;> omega
   have:=hA.nz j (by omega)
   have e:AT (con q i) p' j=p'.getD j 0:=by
    unfold AT;rw [C'.cells.2.2 (by omega) j (by omega),zCi]
   rwa [e] at this
  have A':=C'.all hk LZ
  have LT: ∀ j,j<p.length -> ∀ s,tb (p'.getD j 0) s=true -> tb (p.getD j 0) s=true:=fun j hj s hs=>by
   have e: ∀ x:List Int,AT (con q i) x j=x.getD j 0:=fun x=>by
    unfold AT;rw [A'.id j (by omega),zCi]
   have:=hS j (by rw [A'.len];omega) s (by rw [e];exact hs)
   rwa [e] at this
  have hd:B0 p=false:=FN.2 fun j hj=>by
   have h:=FN.1 LZ j (by omega);obtain ⟨s,h1,h2⟩:=(D6 ((C'.sm j (by omega)).in64 (by have:=W'.k;omega))).1 h;exact (D6 ((C.sm j hj).in64 (by have:=W'.k;omega))).2 ⟨s,h1,LT j hj s h2⟩
  exact ⟨C.all hk hd,A',by omega,LT⟩
 rcases kc with hk | hk | hk | hk | hk | hk | hk | hk | hk
 ·refine ⟨Hf hk (by decide) (by decide) (by decide),fun k Br s hs h=>?_⟩;unfold BT at h ⊢;rw [hk] at h ⊢;simp at h ⊢;exact zAr W hS CH hA.nz h
 ·have h2:=zA4 hS CH hA.nz (hA.ok.1 hk);refine ⟨⟨fun _=>h2.1,fun h=>absurd (hk.symm.trans h) (by decide),hA.ok.2.2.1,fun h=>absurd (hk.symm.trans h) (by decide)⟩,fun k Br s hs h=>?_⟩;unfold BT at h ⊢;rw [hk] at h ⊢;simp at h ⊢;exact h2.2 k s Br hs h
 ·have h2:=n9 (q:=q) W W' hS (hA.ok.2.1 hk);refine ⟨⟨fun h=>absurd (hk.symm.trans h) (by decide),fun _=>h2.1,hA.ok.2.2.1,fun h=>absurd (hk.symm.trans h) (by decide)⟩,fun k Br s hs h=>?_⟩;unfold BT at h ⊢;rw [hk] at h ⊢;simp at h ⊢;exact h2.2 k s Br h
 ·refine ⟨Hf hk (by decide) (by decide) (by decide),fun k Br s hs h=>?_⟩;unfold BT at h ⊢;rw [hk] at h ⊢;simp at h ⊢;exact rJ W W' hS Br h
 ·refine ⟨Hf hk (by decide) (by decide) (by decide),fun k Br s hs h=>?_⟩;unfold BT at h ⊢;rw [hk] at h ⊢;simp at h ⊢;exact qZ hS Br h
 ·refine ⟨Hf hk (by decide) (by decide) (by decide),fun k Br s hs h=>?_⟩;have h2:=C.two (.inl hk);unfold BT at h ⊢;rw [hk] at h ⊢;simp at h ⊢;exact f7 hS h2 h
 ·refine ⟨Hf hk (by decide) (by decide) (by decide),fun k Br s hs h=>?_⟩;have h2:=C.two (.inr hk);unfold BT at h ⊢;rw [hk] at h ⊢;simp at h ⊢;exact f7 hS h2 h
 ·have H:=all (hk:=.inl hk)
  have e: ∀ (x:List Int) (j:Nat),j<p.length -> AT (con q i) x j=x.getD j 0:=fun x j hj=>by
   unfold AT;rw [H.W.id j hj,zCi]
  have Ah:=H.W.len;have hl:=H.len;have lc: ∀ x a s,BT q (con q i) x a s↔HH (con q i) q x a s:=fun x a s=>by unfold BT;rw [hk];simp
  refine ⟨Hf hk (by decide) (by decide) (by decide),fun k Br s hs h=>?_⟩;rw [lc] at h ⊢;rw [e _ _ (by omega)] at hs;refine zBM H (fun v hv=>?_) (by omega) hs h;obtain ⟨t,h1,h2⟩:=hA.left v (by omega);rw [e _ _ (by omega)] at h1;exact ⟨t,h1,fun h3=>h2 ((lc _ _ _).2 h3)⟩
 ·have H:=all (hk:=.inr hk)
  have e: ∀ (x:List Int) (j:Nat),j<p.length -> AT (con q i) x j=x.getD j 0:=fun x j hj=>by
   unfold AT;rw [H.W.id j hj,zCi]
  have Ah:=H.W.len;have hl:=H.len;have lc: ∀ x a s,BT q (con q i) x a s↔LM (con q i) q x a s:=fun x a s=>by unfold BT;rw [hk];simp
  have h2:=uP H (hA.ok.2.2.2 hk) fun v hv=>by
   obtain ⟨t,h1,h2⟩:=hA.left v (by omega);rw [e _ _ (by omega)] at h1;exact ⟨t,h1,fun h3=>h2 ((lc _ _ _).2 h3)⟩
  refine ⟨⟨fun h=>absurd (hk.symm.trans h) (by decide),fun h=>absurd (hk.symm.trans h) (by decide),hA.ok.2.2.1,fun _=>h2.1⟩,fun k Br s hs h=>?_⟩;rw [lc] at h ⊢;rw [e _ _ (by omega)] at hs;exact h2.2 k s (by omega) hs h
end
end Go.Proofs.YtgkhhfnhacibcaaGreatDoor
namespace Go.Proofs.YtgkhhfnhacibcaaGreatDoor
open Go.RowKit
section
variable {q:AA} {i:Int} {pos x:List Int}
theorem PR.sub {c:AB} (h:PR q c pos x) {j s:Nat} (hs:tb (x.getD j 0) s=true):j<pos.length/\ tb (pos.getD j 0) s=true:=by
 have hj:j<pos.length:=by
  refine zDS fun Bx=>?_
  rw [u8,zDO (by have:=h.len;omega)] at hs;exact Gp hs
 refine ⟨hj,?_⟩
 by_cases hA:E8 q c pos
 ·exact (((h.live hA j hj).2 s).1 hs).1
 ·rw [h.dead hA,L4] at hs;exact absurd hs Gp
theorem PR.in64 {c:AB} (h:PR q c pos x) (j:Nat):B4 (x.getD j 0):=by
 by_cases hA:E8 q c pos
 ·by_cases hj:j<pos.length
  ·exact (h.live hA j hj).1
  ·rw [u8,zDO (by have:=h.len;omega)];exact ⟨by decide,by decide⟩
 ·rw [h.dead hA];exact W9 j
theorem Qy (hv:Bp q=true) {y:List Int}:posOk q y=true↔(y.length:Int)=q.cells/\ ∀ j,j<y.length -> Sm q.symbols.toNat (y.getD j 0):=by
 unfold posOk;rw [zCp,zDB,zCs];constructor
 ·rintro ⟨h1,h2⟩;refine ⟨h1,fun j hj=>?_⟩;have hm:y.getD j 0∈y:=by rw [u8,zAe hj];exact zC5 hj
  have:=h2 _ hm;rw [zCp,zCw,zCw] at this;exact this
 ·rintro ⟨h1,h2⟩;refine ⟨h1,fun z hz=>?_⟩;obtain ⟨j,hj,rfl⟩:=zDq hz;have:=h2 j hj;rw [u8,zAe hj] at this;rw [zCp,zCw,zCw];exact this
end
section
variable {q:AA} {i:Int} {p p' x z:List Int}
theorem mx (C:BW q i p) {k s:Nat} (hk:k<(con q i).cells.length):LC q (con q i) p ((con q i).cells.getD k 0).toNat s↔BT q (con q i) p k s:=by
 constructor
 ·rintro ⟨a,ha,e,h⟩;have h1:=C.work.cells a ha;have h2:=C.work.cells k hk;have A5:=C.cells.2.1;have e2:(con q i).cells.getD a 0=(con q i).cells.getD k 0:=by omega
  rw [u8,zAe ha,u8,zAe hk] at e2;have e2:(con q i).cells[a]=(con q i).cells[k]:=e2;have hp:=zE4.1 A5
  have:a=k:=by
   rcases Nat.lt_trichotomy a k with h3 | h3 | h3
   ·exact absurd e2 (hp a k ha hk h3)
   ·exact h3
   ·exact absurd e2.symm (hp k a hk ha h3)
  subst this;exact h
 ·intro h;exact ⟨k,hk,rfl,h⟩
theorem Wz (C:BW q i p):E8 q (con q i) p↔(∀ j,j<p.length -> p.getD j 0≠0)/\ OA q (con q i) p:=by
 have W:=C.work;constructor
 ·intro h;refine ⟨h.nz,fun k hk=>h.nz _ (by have:=W.cells k hk;omega),h.ok,fun k hk=>?_⟩;obtain ⟨s,_,h1,h2⟩:=h.left ((con q i).cells.getD k 0).toNat (by have:=W.cells k hk;omega);exact ⟨s,h1,fun h3=>h2 ((mx C hk).2 h3)⟩
 ·rintro ⟨h1,h2⟩;refine ⟨h1,h2.ok,fun j hj=>?_⟩
  by_cases KF: ∃ k,k<(con q i).cells.length/\ ((con q i).cells.getD k 0).toNat=j
  ·obtain ⟨k,hk,rfl⟩:=KF;obtain ⟨s,h3,h4⟩:=h2.left k hk;exact ⟨s,zDS fun h=>(by rw [H9 h] at h3;cases h3),h3,fun h5=>h4 ((mx C hk).1 h5)⟩
  ·obtain ⟨s,h3,h4⟩:=(D6 ((C.sm j hj).in64 (by have:=W.k;omega))).1 (h1 j hj);exact ⟨s,h3,h4,fun ⟨a,ha,e,_⟩=>KF ⟨a,ha,e⟩⟩
theorem gU (C:BW q i p) (C':BW q i p') (hS:F1 (con q i) p' p) (hA:OA q (con q i) p'):OA q (con q i) p/\ ∀ k,k<(con q i).cells.length -> ∀ s,tb (AT (con q i) p' k) s=true -> BT q (con q i) p k s -> BT q (con q i) p' k s:=by
 obtain ⟨h1,h2⟩:=mono C C' hS hA;have W:=C.work;refine ⟨⟨fun k hk=>?_,h1,fun k hk=>?_⟩,h2⟩
 ·obtain ⟨s,h3,_⟩:=hA.left k hk;exact (D6 ((W.at hk).in64 (by have:=W.k;omega))).2 ⟨s,zDS fun h=>(by rw [H9 h] at h3;cases h3),hS k hk s h3⟩
 ·obtain ⟨s,h3,h4⟩:=hA.left k hk;exact ⟨s,hS k hk s h3,fun h5=>h4 (h2 k hk s h3 h5)⟩
theorem sk (C:BW q i p) (C':BW q i p') (LT: ∀ j s,tb (p'.getD j 0) s=true -> tb (p.getD j 0) s=true) (hx:PR q (con q i) p x) (hz:PR q (con q i) p' z): ∀ j s,tb (z.getD j 0) s=true -> tb (x.getD j 0) s=true:=by
 intro j s h;have hl:=C.len;have Dv:=C'.len
 by_cases SD:E8 q (con q i) p'
 ·obtain ⟨n1,hO⟩:=(Wz C').1 SD;obtain ⟨zS,h2⟩:=gU C C' (fun k _ s h=>LT _ s h) hO
  have hA:E8 q (con q i) p:=(Wz C).2 ⟨fun j hj=>by
   obtain ⟨t,h3,h4⟩:=(D6 ((C'.sm j (by omega)).in64 (by have:=C.work.k;omega))).1 (n1 j (by omega));exact (D6 ((C.sm j hj).in64 (by have:=C.work.k;omega))).2 ⟨t,h3,LT j t h4⟩,zS⟩
  obtain ⟨hj,_⟩:=hz.sub h;obtain ⟨h5,h6⟩:=((hz.live SD j hj).2 s).1 h;refine ((hx.live hA j (by omega)).2 s).2 ⟨LT j s h5,fun ⟨k,hk,e,h7⟩=>h6 ⟨k,hk,e,h2 k hk s ?_ h7⟩⟩
  show tb (p'.getD ((con q i).cells.getD k 0).toNat 0) s=true
  rw [e];exact h5
 ·rw [hz.dead SD,L4] at h;exact absurd h Gp
end
section
variable {q:AA} {i:Int} {a b:List Int}
theorem si (C:BW q i a): ∃ x,Ev (fun n=>MY n q i a) (x,0)/\ PR q (con q i) a x:=by
 obtain ⟨r,h1,h2,h3,_⟩:=sj (i:=i) C.fit (pos:=a) (zCv C.len256.2 (by decide));obtain ⟨x,e⟩:=r;have e0:e=0:=h2.trans C.check;subst e0;exact ⟨x,h1,h3 rfl⟩
end
section
variable {q:AA} {i j:Int} {p p' x y z:List Int}
theorem PR.posOk (C:BW q i p) (h:PR q (con q i) p x):posOk q x=true:=by
 refine (Qy C.valid).2 ⟨by rw [h.len];exact C.len,fun j hj=>?_⟩;have hk:=C.work.k;refine Xj (by omega) (h.in64 j) fun s hs _=>?_
 cases ht:tb (x.getD j 0) s with
 | false=>rfl
 | true=>
  obtain ⟨h1,h2⟩:=h.sub ht;rw [(C.sm j h1).hi hs] at h2;cases h2
theorem PR.alive (C:BW q i p) (hd:B0 p=false) (h:PR q (con q i) p p):E8 q (con q i) p:=by
 refine Classical.byContradiction fun hA=>?_
 have h0:=C.len256.1;have:=FN.1 hd 0 h0;rw [h.dead hA,L4] at this;exact this rfl
theorem uW (C:BW q i p) (C':BW q i p') (O3: ∀ k,k<(con q i).cells.length -> AT (con q i) p' k=AT (con q i) p k) (hd:B0 p=false) (LZ:B0 p'=false) (h:PR q (con q i) p p):PR q (con q i) p' p':=by
 have hA:=h.alive C hd;obtain ⟨_,hO⟩:=(Wz C).1 hA;obtain ⟨NL,hl⟩:=gU C' C (fun k hk s hs=>by rw [O3 k hk];exact hs) hO;have SD:E8 q (con q i) p':=(Wz C').2 ⟨FN.1 LZ,NL⟩;refine ⟨rfl,fun _ j hj=>⟨(C'.sm j hj).in64 (by have:=C'.work.k;omega),fun s=>⟨fun hs=>⟨hs,?_⟩,fun hs=>hs.1⟩⟩,fun hn=>absurd SD hn⟩;rintro ⟨k,hk,e,h1⟩
 have Ho:tb (AT (con q i) p k) s=true:=by
  rw [←O3 k hk]
  show tb (p'.getD ((con q i).cells.getD k 0).toNat 0) s=true
  rw [e];exact hs
 have h2:=hl k hk s Ho h1;have hW:=C.work.cells k hk;have wl:tb (p.getD ((con q i).cells.getD k 0).toNat 0) s=true:=Ho;have h3:=(((h.live hA ((con q i).cells.getD k 0).toNat (by omega)).2 s).1 wl).2;exact h3 ⟨k,hk,rfl,h2⟩
end
end Go.Proofs.YtgkhhfnhacibcaaGreatDoor
namespace Go.Proofs.YtgkhhfnhacibcaaGreatDoor
open Go.RowKit
section
variable {q:AA} {c:AB} {pos:List Int} {k:Nat}
def L2 (c:AB) (pos:List Int) (i j:Nat) (g:Nat -> Nat):Prop:=∀ b,i<=b -> b<j -> tb (AT c pos b) (g b)=true
def GS (q:AA) (i j:Nat) (g:Nat -> Nat):Prop:=∀ b,i<=b -> b+1<j -> q.values.getD (g b) 0<q.values.getD (g (b+1)) 0
theorem ck {b:Int}: ∀ (l:List Int) (a:Int),l.foldl (I0 q b) a=a∨∃ e∈l,q.values.getD e.toNat 0=l.foldl (I0 q b) a/\ q.values.getD e.toNat 0>b
 | [],a=>.inl rfl
 | e::l,a=>by
  rw [zDy];rcases ck l (I0 q b a e) with h | ⟨x,h1,h2⟩
  ·rw [h];unfold I0;split
   ·rename_i h3;split
    ·exact .inr ⟨e,zDh,rfl,h3⟩
    ·exact .inl rfl
   ·exact .inl rfl
  ·exact .inr ⟨x,zDK _ h1,h2⟩
theorem kz {b:Int}: ∀ (l:List Int) (a:Int),l.foldl (Il q b) a=a∨∃ e∈l,q.values.getD e.toNat 0=l.foldl (Il q b) a/\ q.values.getD e.toNat 0<b
 | [],a=>.inl rfl
 | e::l,a=>by
  rw [zDy];rcases kz l (Il q b a e) with h | ⟨x,h1,h2⟩
  ·rw [h];unfold Il;split
   ·rename_i h3;split
    ·exact .inr ⟨e,zDh,rfl,h3⟩
    ·exact .inl rfl
   ·exact .inl rfl
  ·exact .inr ⟨x,zDK _ h1,h2⟩
theorem lr (W:Bv c k pos): ∀ i,i<=c.cells.length -> FO q c pos i<100 -> ∃ g,L2 c pos 0 i g/\ GS q 0 i g/\ (0<i -> q.values.getD (g (i-1)) 0=FO q c pos i)
 | 0,_,_=>⟨fun _=>0,fun b _ h=>absurd h (zCz b),fun b _ h=>absurd h (zCz _),fun h=>absurd h (Nat.lt_irrefl 0)⟩
 | i+1,hi,h=>by
  rcases ck (q:=q) (b:=FO q c pos i) (BN (AT c pos i)) 100 with h1 | ⟨e,h1,h2,h3⟩
  ·have:FO q c pos (i+1)=100:=h1;omega
  ·have h2:q.values.getD e.toNat 0=FO q c pos (i+1):=h2;obtain ⟨s,rfl,hs,ht⟩:=(E0 (W.at (by omega)) (zCv W.k (by decide))).1 h1;rw [zCi] at h2 h3;obtain ⟨g,g1,g2,g3⟩:=lr W i (by omega) (by omega);refine ⟨fun b=>if b=i then s else g b,fun b h4 h5=>?_,fun b h4 h5=>?_,fun _=>?_⟩
   ·dsimp only
    by_cases e:b=i
    ·subst e;rw [zB3 rfl];exact ht
    ·rw [zCt e];exact g1 b h4 (by omega)
   ·have e1:b≠i:=by omega
    dsimp only
    rw [zCt e1]
    by_cases e2:b+1=i
    ·have:=g3 (by omega);rw [zB3 e2,show b=i-1 by omega,this];exact h3
    ·rw [zCt e2];exact g2 b h4 (by omega)
   ·dsimp only
    rw [zB3 (by omega)];exact h2
theorem zB2 (W:Bv c k pos) {g:Nat -> Nat}: ∀ i,i<c.cells.length -> L2 c pos 0 (i+1) g -> GS q 0 (i+1) g -> FO q c pos i<q.values.getD (g i) 0 -> FO q c pos (i+1)<=q.values.getD (g i) 0:=fun i hi h1 _ h3=>by
 have h:=(TU (q:=q) (b:=FO q c pos i) (BN (AT c pos i)) 100).1 (zDZ _);have ht:=h1 i (zD0 _) (by omega);have hm:=(E0 (W.at hi) (zCv W.k (by decide)) (e:=(g i:Int))).2 ⟨g i,rfl,zDS fun Bx=>(by rw [(W.at hi).hi Bx] at ht;cases ht),ht⟩;have:=h.2 _ hm;rw [zCi] at this;exact this h3
theorem lw (W:Bv c k pos) (V:Do q k) {g:Nat -> Nat}: ∀ i,i<c.cells.length -> L2 c pos 0 (i+1) g -> GS q 0 (i+1) g -> FO q c pos i<q.values.getD (g i) 0
 | 0,hi,h1,_=>by
  have ht:=h1 0 (zC6 _) (by omega);have:=V.val (g 0) (zDS fun Bx=>(by rw [(W.at hi).hi Bx] at ht;cases ht))
  show (-1:Int)<_
  omega
 | i+1,hi,h1,h2=>by
  have a1:L2 c pos 0 (i+1) g:=fun b h3 h4=>h1 b h3 (by omega)
  have a2:GS q 0 (i+1) g:=fun b h3 h4=>h2 b h3 (by omega)
  have h3:=lw W V i (by omega) a1 a2;have h4:=zB2 W i (by omega) a1 a2 h3;have h5:=h2 i (zD0 _) (by omega);omega
theorem mc (W:Bv c k pos): ∀ m,m<=c.cells.length -> -1<Gj q c pos m -> ∃ g,L2 c pos (c.cells.length-m) c.cells.length g/\ GS q (c.cells.length-m) c.cells.length g/\ (0<m -> q.values.getD (g (c.cells.length-m)) 0=Gj q c pos m)
 | 0,_,_=>⟨fun _=>0,fun b h1 h2=>absurd h2 (by omega),fun b h1 h2=>absurd h2 (by omega),fun h=>absurd h (Nat.lt_irrefl 0)⟩
 | m+1,hm,h=>by
  rcases kz (q:=q) (b:=Gj q c pos m) (BN (AT c pos (c.cells.length-1-m))) (-1) with h1 | ⟨e,h1,h2,h3⟩
  ·have:Gj q c pos (m+1)= -1:=h1;omega
  ·have h2:q.values.getD e.toNat 0=Gj q c pos (m+1):=h2;obtain ⟨s,rfl,hs,ht⟩:=(E0 (W.at (by omega)) (zCv W.k (by decide))).1 h1;rw [zCi] at h2 h3;obtain ⟨g,g1,g2,g3⟩:=mc W m (by omega) (by omega);have ei:c.cells.length-(m+1)=c.cells.length-1-m:=by omega
   refine ⟨fun b=>if b=c.cells.length-1-m then s else g b,fun b h4 h5=>?_,fun b h4 h5=>?_,fun _=>?_⟩
   ·dsimp only
    by_cases e:b=c.cells.length-1-m
    ·subst e;rw [zB3 rfl];exact ht
    ·rw [zCt e];exact g1 b (by omega) h5
   ·have e2:b+1≠c.cells.length-1-m:=by omega
    dsimp only
    rw [zCt e2]
    by_cases e1:b=c.cells.length-1-m
    ·have:=g3 (by omega);rw [zB3 e1,show b+1=c.cells.length-m by omega,this];exact h3
    ·rw [zCt e1];exact g2 b (by omega) h5
   ·dsimp only
    rw [zB3 ei];exact h2
theorem md (W:Bv c k pos) (V:Do q k) {g:Nat -> Nat}: ∀ m,m<c.cells.length -> L2 c pos (c.cells.length-1-m) c.cells.length g -> GS q (c.cells.length-1-m) c.cells.length g -> q.values.getD (g (c.cells.length-1-m)) 0<Gj q c pos m
 | 0,hm,h1,_=>by
  have ht:=h1 (c.cells.length-1-0) (by omega) (by omega);have:=V.val (g (c.cells.length-1-0)) (zDS fun Bx=>(by rw [(W.at (by omega)).hi Bx] at ht;cases ht))
  show _<(100:Int)
  omega
 | m+1,hm,h1,h2=>by
  have e1:c.cells.length-1-m=c.cells.length-1-(m+1)+1:=by omega
  have a1:L2 c pos (c.cells.length-1-m) c.cells.length g:=fun b h3 h4=>h1 b (by omega) h4
  have a2:GS q (c.cells.length-1-m) c.cells.length g:=fun b h3 h4=>h2 b (by omega) h4
  have h3:=md W V m (by omega) a1 a2;have h:=(WP (q:=q) (b:=Gj q c pos m) (BN (AT c pos (c.cells.length-1-m))) (-1)).1 (zDZ _);have ht:=h1 (c.cells.length-1-m) (by omega) (by omega);have Fe:=(E0 (W.at (a:=c.cells.length-1-m) (by omega)) (zCv W.k (by decide)) (e:=(g (c.cells.length-1-m):Int))).2 ⟨_,rfl,zDS fun Bx=>(by rw [(W.at (by omega)).hi Bx] at ht;cases ht),ht⟩;have h4:=h.2 _ Fe;rw [zCi] at h4;have h4:_<=Gj q c pos (m+1):=h4 h3;have h5:=h2 (c.cells.length-1-(m+1)) (zC6 _) (by omega);rw [←e1] at h5;omega
theorem rK (W:Bv c k pos) (V:Do q k) {a s:Nat} (ha:a<c.cells.length) (hs:tb (AT c pos a) s=true):Gw q c pos a s=false↔∃ g,L2 c pos 0 c.cells.length g/\ GS q 0 c.cells.length g/\ g a=s:=by
 have hv:=V.val s (zDS fun Bx=>(by rw [(W.at ha).hi Bx] at hs;cases hs));unfold Gw Hy;rw [zFS,zDo,zDo];constructor
 ·rintro ⟨h1,h2⟩;obtain ⟨g1,p1,p2,p3⟩:=lr (q:=q) W a (by omega) (by omega);obtain ⟨g2,r1,r2,r3⟩:=mc (q:=q) W (c.cells.length-(a+1)) (by omega) (by omega);have el:c.cells.length-(c.cells.length-(a+1))=a+1:=by omega
  rw [el] at r1 r2 r3;refine ⟨fun b=>if b<a then g1 b else if b=a then s else g2 b,fun b _ hb=>?_,fun b _ hb=>?_,by dsimp only;rw [if_neg (by omega),if_pos rfl]⟩
  ·dsimp only
   by_cases e1:b<a
   ·rw [zB3 e1];exact p1 b (zD0 _) e1
   ·by_cases e2:b=a
    ·subst e2;rw [zCt e1,zB3 rfl];exact hs
    ·rw [zCt e1,zCt e2];exact r1 b (by omega) hb
  ·dsimp only
   by_cases e1:b<a
   ·rw [zB3 e1]
    by_cases e2:b+1<a
    ·rw [zB3 e2];exact p2 b (zD0 _) e2
    ·have:=p3 (by omega);rw [zCt e2,zB3 (by omega),show b=a-1 by omega,this];omega
   ·rw [zCt e1,zCt (by omega: ¬ b+1<a),zCt (by omega: ¬ b+1=a)]
    by_cases e2:b=a
    ·have:=r3 (by omega);rw [zB3 e2,e2,this];omega
    ·rw [zCt e2];exact r2 b (by omega) hb
 ·rintro ⟨g,h1,h2,rfl⟩;have l1:=lw W V a ha (fun b h3 h4=>h1 b h3 (by omega)) (fun b h3 h4=>h2 b h3 (by omega));have l2:=md W V (c.cells.length-1-a) (by omega) (fun b h3 h4=>h1 b (by omega) h4) (fun b h3 h4=>h2 b (by omega) h4);have e1:c.cells.length-1-(c.cells.length-1-a)=a:=by omega
  have e2:c.cells.length-(a+1)=c.cells.length-1-a:=by omega
  rw [e1] at l2;rw [e2];omega
def RX (c:AB) (pos:List Int) (a:Nat) (inn:Bool):Nat -> Int×Int -> Prop
 | 0,t=>TQ c t
 | m+1,s=>∃ b u,kd c pos (c.cells.length-1-m) b=true/\ (c.cells.length-1-m=a -> b=inn)/\ nx c s.1 s.2 b=some u/\ RX c pos a inn m u
theorem Tx {a:Nat} {inn:Bool}: ∀ (m:Nat),m+a+1<=c.cells.length -> ∀ t,Es c pos (c.cells.length-m) t -> (RX c pos a inn m t↔H5 c pos m t)
 | 0,_,t,_=>Iff.rfl
 | m+1,hm,s,hr=>by
  have e:c.cells.length-(m+1)=c.cells.length-1-m:=by omega
  have e2:c.cells.length-m=c.cells.length-1-m+1:=by omega
  rw [e] at hr;constructor
  ·rintro ⟨b,u,h1,_,h3,h4⟩;exact ⟨hr,u,b,h3,h1,(Tx m (by omega) u (by rw [e2];exact ⟨s,b,hr,h3,h1⟩)).1 h4⟩
  ·rintro ⟨_,u,b,h3,h1,h4⟩;exact ⟨b,u,h1,fun h=>absurd h (by omega),h3,(Tx m (by omega) u (by rw [e2];exact ⟨s,b,hr,h3,h1⟩)).2 h4⟩
theorem eO {a:Nat} {inn:Bool} (ha:a<c.cells.length): ∀ (i:Nat),i<=a -> (RX c pos a inn c.cells.length (0,0)↔∃ s,Es c pos i s/\ RX c pos a inn (c.cells.length-i) s)
 | 0,_=>⟨fun h=>⟨(0,0),rfl,h⟩,fun ⟨s,h1,h2⟩=>by
  have h1:s=(0,0):=h1;subst h1;exact h2⟩
 | i+1,hi=>by
  rw [eO ha i (by omega)];have e:c.cells.length-i=(c.cells.length-(i+1))+1:=by omega
  have e2:c.cells.length-1-(c.cells.length-(i+1))=i:=by omega
  constructor
  ·rintro ⟨s,h1,h2⟩;rw [e] at h2;obtain ⟨b,u,h3,_,h5,h6⟩:=h2;rw [e2] at h3;exact ⟨u,⟨s,b,h1,h5,h3⟩,h6⟩
  ·rintro ⟨u,⟨s,b,h1,h5,h3⟩,h6⟩;refine ⟨s,h1,?_⟩;rw [e];exact ⟨b,u,by rw [e2];exact h3,fun h=>absurd h (by rw [e2];omega),h5,h6⟩
theorem zBl {a:Nat} {inn:Bool} (ha:a<c.cells.length):Iq c pos a inn↔RX c pos a inn c.cells.length (0,0):=by
 rw [eO ha a (zC6 _)];have e:c.cells.length-a=(c.cells.length-1-a)+1:=by omega
 have e2:c.cells.length-1-(c.cells.length-1-a)=a:=by omega
 have e3:c.cells.length-(c.cells.length-1-a)=a+1:=by omega
 constructor
 ·rintro ⟨s,t,h1,h2,h3,h4⟩;refine ⟨s,h1,?_⟩;rw [e];exact ⟨inn,t,by rw [e2];exact h3,fun _=>rfl,h2,(Tx _ (by omega) t (by rw [e3];exact ⟨s,inn,h1,h2,h3⟩)).2 h4⟩
 ·rintro ⟨s,h1,h2⟩;rw [e] at h2;obtain ⟨b,t,h3,h4,h5,h6⟩:=h2;rw [e2] at h3 h4;obtain rfl:=h4 rfl;exact ⟨s,t,h1,h5,h3,(Tx _ (by omega) t (by rw [e3];exact ⟨s,b,h1,h5,h3⟩)).1 h6⟩
end
end Go.Proofs.YtgkhhfnhacibcaaGreatDoor
namespace Go.Proofs.YtgkhhfnhacibcaaGreatDoor
open Go.RowKit
structure Gd (q:AA) (g:List Int):Prop where
 len:(g.length:Int)=q.cells
 sym: ∀ j,j<g.length -> 0<=g.getD j 0/\ g.getD j 0<q.symbols
def AW (g:List Int):List Int:=g.map fun s=>IntKind.i64.wrap (1*2 ^ s.toNat)
def AN (c:AB) (g:List Int) (a:Nat):Nat:=(g.getD (c.cells.getD a 0).toNat 0).toNat
def B9 (c:AB) (g:List Int):List Bool:=g.map fun s=>tb c.set s.toNat
def rl (b:Nat -> Bool) (len:Nat):Nat -> Int -> List Int
 | 0,l=>if l>0 then [l] else []
 | m+1,l=>bif b (len-1-m) then rl b len m (l+1) else if l>0 then l::rl b len m 0 else rl b len m 0
def HN (n:List (List Int)) (inn:List Bool):Prop:=∀ u v:Nat,u<n.length -> v<n.length -> inn.getD u false=true -> inn.getD v false=true -> Rc n inn u v
def B2 (q:AA) (c:AB) (g:List Int):Prop:=
 (c.kind=1 -> ∀ a b,a<c.cells.length -> b<c.cells.length -> AN c g a=AN c g b -> a=b)/\
 (c.kind=2 -> c.lo<=cnt (fun a=>tb c.set (AN c g a)) c.cells.length/\ cnt (fun a=>tb c.set (AN c g a)) c.cells.length<=c.hi)/\
 (c.kind=3 -> c.lo<=CM (fun a=>q.values.getD (AN c g a) 0) c.cells.length/\ CM (fun a=>q.values.getD (AN c g a) 0) c.cells.length<=c.hi)/\
 (c.kind=4 -> GS q 0 c.cells.length (AN c g))/\
 (c.kind=5 -> rl (fun a=>tb c.set (AN c g a)) c.cells.length c.cells.length 0=c.runs)/\
 (c.kind=6 -> G4 q c (AN c g 0) (AN c g 1)=true)/\ (c.kind=7 -> GY c (AN c g 0) (AN c g 1)=true)/\
 (c.kind=8 -> HN q.nbrs (B9 c g))/\
 (c.kind=9 -> HN q.nbrs (B9 c g)/\ ∀ v,v<g.length -> (B9 c g).getD v false=true -> CI q.nbrs (B9 c g) v=2)
theorem Dr {g:List Int}:(AW g).length=g.length:=zDe _
theorem MF {g:List Int} {j:Nat} (hj:j<g.length):(AW g).getD j 0=IntKind.i64.wrap (1*2 ^ (g.getD j 0).toNat):=by
 unfold AW;rw [u8,zC1,zAe hj,u8,zAe hj];rfl
theorem OX {c:AB} {g:List Int}:(B9 c g).length=g.length:=zDe _
theorem Yi {c:AB} {g:List Int} {j:Nat} (hj:j<g.length):(B9 c g).getD j false=tb c.set (g.getD j 0).toNat:=by
 unfold B9;rw [u8,zC1,zAe hj,u8,zAe hj];rfl
theorem UX {s:Nat} (hs:s<64) (m:Int):(bits .andNot .i64 (IntKind.i64.wrap (1*2 ^ s)) m==0)=tb m s:=by
 rw [zDp,zDB,Kq (E5 _ _ _)];constructor
 ·intro h;have:=h s hs;rw [Jj,H7 hs,zCm rfl,zDG] at this;simpa using this
 ·intro h i hi;rw [Jj,H7 hs]
  by_cases e:s=i
  ·subst e;rw [h];simp
  ·rw [zAZ e];rfl
theorem UY {s:Nat} (hs:s<64) (m:Int):(bits .and .i64 (IntKind.i64.wrap (1*2 ^ s)) m != 0)=tb m s:=by
 have:=Pd hs m;rw [bne,this,Bool.not_not]
theorem sp: ∀ s:Nat,s<16 -> Kv (IntKind.i64.wrap (1*2 ^ s))=true:=by decide+kernel
theorem sn: ∀ s:Nat,s<16 -> BN (IntKind.i64.wrap (1*2 ^ s))= [(s:Int)]:=by decide+kernel
theorem fk {k s:Nat} (hk:k<=16) (hs:s<k):Sm k (IntKind.i64.wrap (1*2 ^ s)):=
 Xj (by omega) (Pr _) fun i hi _=>by rw [H7 (by omega),zAZ (by omega)]
section
variable {q:AA} {i:Int} {g:List Int} {c:AB}
theorem Gd.pos (G:Gd q g) (hv:Bp q=true):posOk q (AW g)=true:=by
 have hk:=(DX hv).2.1;refine (Qy hv).2 ⟨by rw [Dr];exact G.len,fun j hj=>?_⟩;rw [Dr] at hj;have:=G.sym j hj;rw [MF hj];exact fk (by omega) (by omega)
theorem Gd.lt (G:Gd q g) (hv:Bp q=true) {j:Nat} (hj:j<g.length):(g.getD j 0).toNat<q.symbols.toNat/\ (g.getD j 0).toNat<16:=by
 have hk:=(DX hv).2.1;have:=G.sym j hj;omega
theorem Ku (G:Gd q g) (hv:Bp q=true) {j:Nat} (hj:j<g.length) (s:Nat):tb ((AW g).getD j 0) s=decide ((g.getD j 0).toNat=s):=by
 rw [MF hj,H7 (by have:=G.lt hv hj;omega)]
structure Sv (q:AA) (c:AB) (g:List Int):Prop where
 v:Bp q=true
 G:Gd q g
 cell: ∀ a,a<c.cells.length -> 0<=c.cells.getD a 0/\ c.cells.getD a 0<(g.length:Int)
theorem Sv.lt (S:Sv q c g) {a:Nat} (ha:a<c.cells.length):AN c g a<q.symbols.toNat/\ AN c g a<16:=S.G.lt S.v (by have:=S.cell a ha;omega)
theorem Sv.set (S:Sv q c g) {a:Nat} (ha:a<c.cells.length):AT c (AW g) a=IntKind.i64.wrap (1*2 ^ AN c g a):=MF (by have:=S.cell a ha;omega)
theorem Sv.tb (S:Sv q c g) {a:Nat} (ha:a<c.cells.length) (s:Nat):tb (AT c (AW g) a) s=decide (AN c g a=s):=by
 rw [S.set ha,H7 (by have:=S.lt ha;omega)]
theorem BW.sv (C:BW q i (AW g)) (G:Gd q g):Sv q (con q i) g:=⟨C.valid,G,fun a ha=>by have:=C.work.cells a ha;rw [Dr] at this;exact this⟩
theorem Sv.nz (S:Sv q c g): ∀ j,j<(AW g).length -> (AW g).getD j 0≠0:=fun j hj=>by
 rw [Dr] at hj;refine (D6 (by rw [MF hj];exact Pr _)).2 ⟨(g.getD j 0).toNat,by have:=S.G.lt S.v hj;omega,?_⟩;rw [Ku S.G S.v hj,zCm rfl]
theorem o9 (S:Sv q c g) (CL:CR q c (AW g)) (h: ∀ a,a<c.cells.length -> ¬ BT q c (AW g) a (AN c g a)):E8 q c (AW g)/\ PR q c (AW g) (AW g):=by
 have no: ∀ j s,j<(AW g).length -> Proofs.YtgkhhfnhacibcaaGreatDoor.tb ((AW g).getD j 0) s=true -> ¬ LC q c (AW g) j s:=by
  rintro j s hj hs ⟨a,ha,rfl,hl⟩;rw [Dr] at hj;rw [Ku S.G S.v hj,zCw] at hs;subst hs;exact h a ha hl
 have hA:E8 q c (AW g):=⟨S.nz,CL,fun j hj=>by
  have A3:=hj;rw [Dr] at A3;have ht:Proofs.YtgkhhfnhacibcaaGreatDoor.tb ((AW g).getD j 0) (g.getD j 0).toNat=true:=by rw [Ku S.G S.v A3,zCm rfl]
  exact ⟨(g.getD j 0).toNat,by have:=S.G.lt S.v A3;omega,ht,no j _ hj ht⟩⟩
 refine ⟨hA,rfl,fun _ j hj=>⟨by rw [Dr] at hj;rw [MF hj];exact Pr _,fun s=>⟨fun hs=>⟨hs,no j s hj hs⟩,fun hs=>hs.1⟩⟩,fun hn=>absurd hA hn⟩
theorem oe (S:Sv q c g) (hA:E8 q c (AW g)):CR q c (AW g)/\ ∀ a,a<c.cells.length -> ¬ BT q c (AW g) a (AN c g a):=by
 refine ⟨hA.ok,fun a ha hl=>?_⟩;have hc:=S.cell a ha;obtain ⟨s,_,h1,h2⟩:=hA.left (c.cells.getD a 0).toNat (by rw [Dr];omega);rw [Ku S.G S.v (by omega),zCw] at h1;subst h1;exact h2 ⟨a,ha,rfl,hl⟩
theorem oh (S:Sv q c g) (h:B2 q c g↔CR q c (AW g)/\ ∀ a,a<c.cells.length -> ¬ BT q c (AW g) a (AN c g a)):(B2 q c g -> E8 q c (AW g)/\ PR q c (AW g) (AW g))/\ (¬ B2 q c g -> ¬ E8 q c (AW g)):=
 ⟨fun hm=>let ⟨h1,h2⟩:=h.1 hm;o9 S h1 h2,fun hn hA=>hn (h.2 (oe S hA))⟩
theorem Uz {k:Int} (hk:c.kind=k) {M:Prop} (h:B2 q c g↔M) {A B:Prop} (hA:CR q c (AW g)↔A) (hB: ∀ a,a<c.cells.length -> (BT q c (AW g) a (AN c g a)↔¬ B)) (hM:M↔A/\ (0<c.cells.length -> B)):B2 q c g↔CR q c (AW g)/\ ∀ a,a<c.cells.length -> ¬ BT q c (AW g) a (AN c g a):=by
 rw [h,hA,hM];refine and_congr Iff.rfl ⟨fun hb a ha hl=>(hB a ha).1 hl (hb (by omega)),fun hb h0=>Classical.byContradiction fun hn=>hb 0 h0 ((hB 0 h0).2 hn)⟩
theorem om (S:Sv q c g) (hk:c.kind=1):B2 q c g↔CR q c (AW g)/\ ∀ a,a<c.cells.length -> ¬ BT q c (AW g) a (AN c g a):=by
 unfold B2 CR BT;rw [hk];simp only [NU,Sg];simp;constructor
 ·intro h a ha b hb AY _;rw [S.tb hb,zDo];exact fun ht=>AY (h b a hb ha ht)
 ·intro h a b ha hb e;refine Classical.byContradiction fun AY=>?_
  have:=h b hb a ha AY (by rw [S.set ha];exact sp _ (S.lt ha).2);rw [S.tb ha,zDo] at this;exact this e
theorem d6 (S:Sv q c g) {a:Nat} (ha:a<c.cells.length):Dm c (AW g) a=Proofs.YtgkhhfnhacibcaaGreatDoor.tb c.set (AN c g a)/\ EX c (AW g) a=Proofs.YtgkhhfnhacibcaaGreatDoor.tb c.set (AN c g a):=by
 have hs:AN c g a<64:=by have:=S.lt ha;omega
 unfold EX Dm;rw [S.set ha,UX hs,UY hs,Bool.or_self];exact ⟨rfl,rfl⟩
theorem bL {p p':Nat -> Bool}: ∀ {n:Nat},(∀ a,a<n -> p a=p' a) -> cnt p n=cnt p' n
 | 0,_=>rfl
 | n+1,h=>by rw [KZ,KZ,bL fun a ha=>h a (by omega),h n (by omega)]
theorem XT {p p':Nat -> Int}: ∀ {n:Nat},(∀ a,a<n -> p a=p' a) -> CM p n=CM p' n
 | 0,_=>rfl
 | n+1,h=>by simp only [CM];rw [XT fun a ha=>h a (by omega),h n (by omega)]
theorem oq (S:Sv q c g) (hk:c.kind=2):B2 q c g↔CR q c (AW g)/\ ∀ a,a<c.cells.length -> ¬ BT q c (AW g) a (AN c g a):=by
 have e1:cnt (Dm c (AW g)) c.cells.length=cnt (fun a=>Proofs.YtgkhhfnhacibcaaGreatDoor.tb c.set (AN c g a)) c.cells.length:=bL fun a ha=>(d6 S ha).1
 have e2:cnt (EX c (AW g)) c.cells.length=cnt (fun a=>Proofs.YtgkhhfnhacibcaaGreatDoor.tb c.set (AN c g a)) c.cells.length:=bL fun a ha=>(d6 S ha).2
 unfold B2 CR BT;rw [hk];simp only [KX,Hw,e1,e2];simp
 have no: ∀ a,a<c.cells.length -> ¬ ((cnt (fun a=>Proofs.YtgkhhfnhacibcaaGreatDoor.tb c.set (AN c g a)) c.cells.length=c.hi/\ ¬ bits .andNot .i64 (AT c (AW g) a) c.set=0)/\ Proofs.YtgkhhfnhacibcaaGreatDoor.tb c.set (AN c g a)=true∨(cnt (fun a=>Proofs.YtgkhhfnhacibcaaGreatDoor.tb c.set (AN c g a)) c.cells.length=c.lo/\ ¬ bits .and .i64 (AT c (AW g) a) c.set=0)/\ Proofs.YtgkhhfnhacibcaaGreatDoor.tb c.set (AN c g a)=false):=by
  intro a ha;have hs:AN c g a<64:=by have:=S.lt ha;omega
  have a1:=UX hs c.set;have a2:=UY hs c.set;rw [←S.set ha] at a1 a2;rintro (⟨⟨_,h1⟩,h2⟩ | ⟨⟨_,h1⟩,h2⟩)
  ·rw [h2,zDB] at a1;exact h1 a1
  ·rw [h2,bne_eq_false_iff_eq] at a2;exact h1 a2
 constructor
 ·rintro ⟨h1,h2⟩;refine ⟨⟨h2,h1⟩,fun a ha=>?_⟩;have:=no a ha;simpa [not_or] using this
 ·rintro ⟨⟨h1,h2⟩,_⟩;exact ⟨h2,h1⟩
theorem To (S:Sv q c g) (V:Do q q.symbols.toNat) {a:Nat} (ha:a<c.cells.length):EE q (AT c (AW g) a)=q.values.getD (AN c g a) 0/\ EH q (AT c (AW g) a)=q.values.getD (AN c g a) 0:=by
 have hv:=V.val _ (S.lt ha).1;unfold EE EH;rw [S.set ha,sn _ (S.lt ha).2];simp only [zDy,List.foldl_nil,JJ,JP,zCi];constructor
 ·rw [zB3 (by omega)]
 ·rw [zB3 (by omega)]
theorem oY (S:Sv q c g) (V:Do q q.symbols.toNat) (hk:c.kind=3):B2 q c g↔CR q c (AW g)/\ ∀ a,a<c.cells.length -> ¬ BT q c (AW g) a (AN c g a):=by
 have e1:JI q c (AW g)=CM (fun a=>q.values.getD (AN c g a) 0) c.cells.length:=XT fun a ha=>(To S V ha).1
 have e2:JO q c (AW g)=CM (fun a=>q.values.getD (AN c g a) 0) c.cells.length:=XT fun a ha=>(To S V ha).2
 unfold B2 CR BT;rw [hk];simp only [Jm,HU,e1,e2]
 generalize CM (fun a=>q.values.getD (AN c g a) 0) c.cells.length=t
 simp;constructor
 ·rintro ⟨h1,h2⟩;refine ⟨⟨h2,h1⟩,fun a ha=>?_⟩;rw [(To S V ha).1,(To S V ha).2,u8];omega
 ·rintro ⟨⟨h1,h2⟩,_⟩;exact ⟨h2,h1⟩
theorem oa (S:Sv q c g) (W:Bv c q.symbols.toNat (AW g)) (V:Do q q.symbols.toNat) (hk:c.kind=4):B2 q c g↔CR q c (AW g)/\ ∀ a,a<c.cells.length -> ¬ BT q c (AW g) a (AN c g a):=by
 have key: ∀ a,a<c.cells.length -> (Gw q c (AW g) a (AN c g a)=false↔GS q 0 c.cells.length (AN c g)):=fun a ha=>by
  rw [rK W V ha (by rw [S.tb ha,zCm rfl])];constructor
  ·rintro ⟨f,h1,h2,_⟩ b h3 h4
   have f1: ∀ b,b<c.cells.length -> f b=AN c g b:=fun b hb=>by
    have:=h1 b (zD0 _) hb;rw [S.tb hb,zCw] at this;exact this.symm
   have:=h2 b h3 h4
   rwa [f1 b (by omega),f1 (b+1) h4] at this
  ·intro h;exact ⟨AN c g,fun b _ hb=>by rw [S.tb hb,zCm rfl],h,rfl⟩
 have hM:B2 q c g↔GS q 0 c.cells.length (AN c g):=by unfold B2;rw [hk];simp
 have hO:CR q c (AW g)↔True:=by unfold CR;rw [hk];simp
 refine Uz hk hM hO (fun a ha=>?_) (B:=GS q 0 c.cells.length (AN c g)) ⟨fun h=>⟨trivial,fun _=>h⟩,fun h=>?_⟩
 ·rw [←key a ha];unfold BT;rw [hk];simp
 ·rcases zEJ c.cells.length with e | e
  ·intro b _ hb;omega
  ·exact h.2 e
theorem d5 (S:Sv q c g) {ok:Nat -> Nat -> Bool} (h2:c.cells.length=2) (a:Nat) (ha:a<c.cells.length):Fr ok c (AW g) a (AN c g a)↔¬ ok (AN c g 0) (AN c g 1)=true:=by
 unfold Fr;have t0: ∀ t,Proofs.YtgkhhfnhacibcaaGreatDoor.tb (AT c (AW g) 0) t=true↔AN c g 0=t:=fun t=>by rw [S.tb (by omega),zCw]
 have t1: ∀ t,Proofs.YtgkhhfnhacibcaaGreatDoor.tb (AT c (AW g) 1) t=true↔AN c g 1=t:=fun t=>by rw [S.tb (by omega),zCw]
 split
 ·rename_i e;subst e;simp only [t1];exact not_congr ⟨fun ⟨t,e,h⟩=>by rw [e];exact h,fun h=>⟨_,rfl,h⟩⟩
 ·have:a=1:=by omega
  subst this;simp only [t0];exact not_congr ⟨fun ⟨t,e,h⟩=>by rw [e];exact h,fun h=>⟨_,rfl,h⟩⟩
theorem oz (S:Sv q c g) (h2:c.cells.length=2) (hk:c.kind=6):B2 q c g↔CR q c (AW g)/\ ∀ a,a<c.cells.length -> ¬ BT q c (AW g) a (AN c g a):=by
 refine Uz (M:=G4 q c (AN c g 0) (AN c g 1)=true) (A:=True) (B:=G4 q c (AN c g 0) (AN c g 1)=true) hk ?_ ?_ (fun a ha=>?_) ⟨fun h=>⟨trivial,fun _=>h⟩,fun h=>h.2 (by omega)⟩
 ·unfold B2;rw [hk];simp
 ·unfold CR;rw [hk];simp
 ·rw [←d5 S h2 a ha];unfold BT;rw [hk];simp
theorem oc (S:Sv q c g) (h2:c.cells.length=2) (hk:c.kind=7):B2 q c g↔CR q c (AW g)/\ ∀ a,a<c.cells.length -> ¬ BT q c (AW g) a (AN c g a):=by
 refine Uz (M:=GY c (AN c g 0) (AN c g 1)=true) (A:=True) (B:=GY c (AN c g 0) (AN c g 1)=true) hk ?_ ?_ (fun a ha=>?_) ⟨fun h=>⟨trivial,fun _=>h⟩,fun h=>h.2 (by omega)⟩
 ·unfold B2;rw [hk];simp
 ·unfold CR;rw [hk];simp
 ·rw [←d5 S h2 a ha];unfold BT;rw [hk];simp
end
end Go.Proofs.YtgkhhfnhacibcaaGreatDoor
namespace Go.Proofs.YtgkhhfnhacibcaaGreatDoor
open Go.RowKit
def Aw {T R:Type} (m:Nat -> T -> Option R) (a b:T):Prop:=∃ N S,∀ n,N<=n -> m (n+S) a=m n b
section
variable {T R:Type} {m:Nat -> T -> Option R} {a b c:T} {r:R} {Q:R -> Prop}
theorem Aw.refl:Aw m a a:=⟨0,0,fun _ _=>rfl⟩
theorem Aw.one (h: ∀ n,m (n+1) a=m n b):Aw m a b:=⟨0,1,fun n _=>h n⟩
theorem Aw.oneN (N:Nat) (h: ∀ n,N<=n -> m (n+1) a=m n b):Aw m a b:=⟨N,1,h⟩
theorem Aw.trans (h:Aw m a b) (h2:Aw m b c):Aw m a c:=by
 obtain ⟨N,S,h⟩:=h;obtain ⟨N2,S2,h2⟩:=h2;exact ⟨max N N2,S2+S,fun n hn=>by rw [←zDb,h _ (by omega),h2 _ (by omega)]⟩
theorem Aw.ev (h:Aw m a b) (h2:Ev (fun n=>m n b) r):Ev (fun n=>m n a) r:=by
 obtain ⟨N,S,h⟩:=h;obtain ⟨M,h2⟩:=h2;refine ⟨max N M+S,fun n hn=>?_⟩;have:=h (n-S) (by omega);rw [show n-S+S=n by omega] at this;exact this.trans (h2 (n-S) (by omega))
theorem Aw.pev (h:Aw m a b) (h2:Ad (fun n=>m n b) Q):Ad (fun n=>m n a) Q:=by
 obtain ⟨N,S,h⟩:=h;obtain ⟨M,h2⟩:=h2;refine ⟨max N M+S,fun n hn=>?_⟩;have:=h (n-S) (by omega);rw [show n-S+S=n by omega] at this;obtain ⟨r,h3,h4⟩:=h2 (n-S) (by omega);exact ⟨r,this.trans h3,h4⟩
theorem Ev.one (h: ∀ n,m (n+1) a=some r):Ev (fun n=>m n a) r:=⟨1,fun n hn=>by
 obtain ⟨k,rfl⟩: ∃ k,n=k+1:=⟨n-1,by omega⟩;exact h k⟩
theorem Ev.oneN (N:Nat) (h: ∀ n,N<=n -> m (n+1) a=some r):Ev (fun n=>m n a) r:=⟨N+1,fun n hn=>by
 obtain ⟨k,rfl⟩: ∃ k,n=k+1:=⟨n-1,by omega⟩;exact h k (by omega)⟩
theorem LL {S:Type} (st:Nat -> S -> T) (I:Nat -> S -> Prop) (len:Nat) (h: ∀ i s,i<len -> I i s -> ∃ s',I (i+1) s'/\ Aw m (st i s) (st (i+1) s')): ∀ (k i:Nat) (s:S),i+k=len -> I i s -> ∃ s',I len s'/\ Aw m (st i s) (st len s')
 | 0,i,s,e,hI=>by
  have:i=len:=by omega
  subst this;exact ⟨s,hI,Aw.refl⟩
 | k+1,i,s,e,hI=>by
  obtain ⟨s',h1,h2⟩:=h i s (by omega) hI;obtain ⟨s2,h3,h4⟩:=LL st I len h k (i+1) s' (by omega) h1;exact ⟨s2,h3,h2.trans h4⟩
end
end Go.Proofs.YtgkhhfnhacibcaaGreatDoor
