/- Part 5 of 7 of what the proofs of these laws stand on. -/
import Derived.Test.YtodinaconebmdaaGreatDoorPyD
set_option linter.all false
namespace Go.Proofs.YtodinaconebmdaaGreatDoor
open Go.RowKit
set_option maxRecDepth 100000
set_option maxHeartbeats 40000000
def ix:ST:=.rd 0 (.rd 1 (.rd 2 (.rd 3 (.rd 4 (.rd 5 (.rd 6 (.rd 7 (.rd 8 (.rd 9 (.rd 10 (.rd 11 (.rd 12 (.rd 13 (.rd 14 (.rd 15 (.rd 16 (.rd 17 (.rd 18 (.rd 19 (.rd 20 (.rd 21 (.rd 22 (.rd 23 (.rd 24 (.rd 25 (.rd 26 (.rd 27 (.rd 28 (.ef 29 (.rd 30 (.fin [] [5,6])) (.no))))))))))))))))))))))))))))))
theorem ui:Bs (A4 Tryz.f125 2) [29] ix:=by unfold Bs;kernel_rfl
def iw:ST:=.rd 0 (.rd 1 (.rd 2 (.rd 3 (.rd 4 (.rd 5 (.rd 6 (.rd 7 (.rd 8 (.rd 9 (.rd 10 (.rd 11 (.rd 12 (.rd 13 (.rd 14 (.rd 15 (.ef 16 (.rd 17 (.fin [] [5,6])) (.no)))))))))))))))))
theorem uh:Bs (A4 Tryz.f125 5) [16] iw:=by unfold Bs;kernel_rfl
def We:Bi:=fun i=>match i with
 | 2=>.tre [29] ix
 | 5=>.tre [16] iw
 | _=>.no
def iT (s_:Int×Int)(c:AB)(q:AA)(pos:List Int)(ln:Nat)(lost:List Int):St:=⟨(AF 59 [(5,.ref 4 0),(6,.bool (decide (s_.2<(c.runs.getD ((s_.1).toNat) 0))))]),([oC [.ref 1 0],oW c q pos 2 ln,oI lost,oC [.i s_.1,.i s_.2],oC [.i s_.1,.i (s_.2+1)]]:DH)⟩
def iS (c:AB)(q:AA)(pos:List Int)(ln:Nat)(lost:List Int)(s_:Int×Int):St:=⟨(AF 59 [(5,.ref 4 0),(6,.bool false)]),([oC [.ref 1 0],oW c q pos 2 ln,oI lost,oC [.i s_.1,.i s_.2],oC [.i s_.1,.i (s_.2+1)]]:DH)⟩
def iR (s_:Int×Int)(c:AB)(q:AA)(pos:List Int)(ln:Nat)(lost:List Int):St:=⟨(AF 59 [(5,.ref 4 0),(6,.bool (s_.2==(c.runs.getD ((s_.1).toNat) 0)))]),([oC [.ref 1 0],oW c q pos 2 ln,oI lost,oC [.i s_.1,.i s_.2],oC [.i (s_.1+1),.i 0]]:DH)⟩
def mD (n:Nat)(s_:Int×Int)(Ak:Bool)(c:AB)(q:AA)(pos:List Int)(ln:Nat)(lost:List Int):Option ((Int×Int)×Bool×(List Int)):= bif Ak then if AH (s_.2+1) then bif (decide (s_.1<(c.runs.length:Int))) then if 0<=s_.1/\ s_.1<(c.runs.length:Int) then some ((s_.1,(s_.2+1)),(decide (s_.2<(c.runs.getD ((s_.1).toNat) 0))),lost) else none else some ((s_.1,(s_.2+1)),false,lost) else none else bif (s_.2==0) then some ((s_.1,s_.2),true,lost) else if AH (s_.1+1)/\ (0<=s_.1/\ s_.1<(c.runs.length:Int)) then some (((s_.1+1),0),(s_.2==(c.runs.getD ((s_.1).toNat) 0)),lost) else none
def UG (n:Nat)(s_:Int×Int)(Ak:Bool)(c:AB)(q:AA)(pos:List Int)(ln:Nat)(lost:List Int):Option ((Int×Int)×Bool×(List Int)):=mD n s_ Ak c q pos ln lost
theorem Mm {n:Nat}{s_:Int×Int}{Ak:Bool}{c:AB}{q:AA}{pos:List Int}{ln:Nat}{lost:List Int}{r:(Int×Int)×Bool×(List Int)}(h:UG n s_ Ak c q pos ln lost=some r):EQ 125 [.agg 2 (L1 [.i s_.1,.i s_.2]),.bool Ak,.ref 0 0] [oC [.ref 1 0],oW c q pos 2 ln,oI lost] (.tup 2 (L1 [.agg 2 (L1 [.i r.1.1,.i r.1.2]),.bool r.2.1])) [oC [.ref 1 0],oW c q pos 2 ln,oI r.2.2] false:=by
 refine ot Tryz.func125 fun B N=>?_
 revert r;apply gO;exact bi 8 (jg ui (gw 13 (bi 23 (gi (jt (jg (Eq.refl (iT s_ c q pos ln lost)) (lE (tg:=[([(29,4)],(iT s_ c q pos ln lost))]) We [5,6] [0,1,2,4])))) (jt (jg (Eq.refl (iS c q pos ln lost s_)) (lE (tg:=[([(29,4)],(iS c q pos ln lost s_))]) We [5,6] [0,1,2,4])))))) (bi 41 (jt (lE We [5,6] [0,1,2,4])) (jg uh (gc (gw 45 (gi (jt (jg (Eq.refl (iR s_ c q pos ln lost)) (lE (tg:=[([(16,4)],(iR s_ c q pos ln lost))]) We [5,6] [0,1,2,4]))))))))
theorem ul:Az (A4 Tryz.f126 2) [] (List.range 22) []:=by unfold Az;kernel_rfl
theorem uk:Az (A4 Tryz.f126 3) [] (List.range 22) []:=by unfold Az;kernel_rfl
def jn:Bi:=fun i=>match i with
 | 2=>.ord [] (List.range 22) []
 | 3=>.ord [] (List.range 22) []
 | _=>.no
def mh (n:Nat)(i_:Int)(Ak:Bool)(c:AB)(q:AA)(pos:List Int)(ln:Nat)(lost:List Int):Option (Bool×(List Int)):= bif Ak then if (0<=i_/\ i_<(c.cells.length:Int))/\ (0<=(c.cells.getD ((i_).toNat) 0)/\ (c.cells.getD ((i_).toNat) 0)<(pos.length:Int)) then some (((bits .and .i64 (pos.getD ((c.cells.getD ((i_).toNat) 0).toNat) 0) c.set) != 0),lost) else none else if (0<=i_/\ i_<(c.cells.length:Int))/\ (0<=(c.cells.getD ((i_).toNat) 0)/\ (c.cells.getD ((i_).toNat) 0)<(pos.length:Int)) then some (((bits .andNot .i64 (pos.getD ((c.cells.getD ((i_).toNat) 0).toNat) 0) c.set) != 0),lost) else none
def UT (n:Nat)(i_:Int)(Ak:Bool)(c:AB)(q:AA)(pos:List Int)(ln:Nat)(lost:List Int):Option (Bool×(List Int)):=mh n i_ Ak c q pos ln lost
theorem Xs {n:Nat}{i_:Int}{Ak:Bool}{c:AB}{q:AA}{pos:List Int}{ln:Nat}{lost:List Int}{r:Bool×(List Int)}(h:UT n i_ Ak c q pos ln lost=some r):EQ 126 [.i i_,.bool Ak,.ref 0 0] [oC [.ref 1 0],oW c q pos 2 ln,oI lost] (.bool r.1) [oC [.ref 1 0],oW c q pos 2 ln,oI r.2] false:=by
 refine ot Tryz.func126 fun B N=>?_
 revert r;apply gO;exact bi 6 (jg ul (gc (gi (gi (lE jn [5] [0,1,2]))))) (jg uk (gc (gi (gi (lE jn [5] [0,1,2])))))
theorem uG:Az (A4 Tryz.f110 24) [] (List.range 6) [6]:=by unfold Az;kernel_rfl
def ii:ST:=.rd 0 (.rd 1 (.rd 2 (.rd 3 (.rd 4 (.rd 5 (.rd 6 (.rd 7 (.rd 8 (.rd 9 (.rd 10 (.rd 11 (.rd 12 (.rd 13 (.ef 14 (.fin [] [1,3,5,7,14,16,18]) (.no)))))))))))))))
theorem j0:Bs (A4 Tryz.f110 49) [] ii:=by unfold Bs;kernel_rfl
def ig:ST:=.rd 0 (.rd 1 (.rd 2 (.rd 3 (.rd 4 (.rd 5 (.rd 6 (.rd 7 (.rd 8 (.ef 9 (.fin [] [1,3,5,7,14,16]) (.no))))))))))
theorem aF:Bs (A4 Tryz.f110 51) [] ig:=by unfold Bs;kernel_rfl
def CL:Bi:=fun i=>match i with
 | 24=>.ord [] (List.range 6) [6]
 | 49=>.tre [] ii
 | 51=>.tre [] ig
 | _=>.no
def dI (c:AB)(q:AA)(pos:List Int)(ln:Nat)(o1:List Int)(o3:List (Option KS)):DH:=[oW c q pos 1 ln,oI o1,oC [.ref 0 0],some (.mo (.sets 2 o3 none))]
def zAx (c:AB)(q:AA)(pos:List Int)(ln:Nat)(o1:List Int)(o3:List (Option KS))(Ao:Int)(gk:LK):DH:=[oW c q pos 1 ln,oI o1,oC [.ref 0 0],some (.mo (.sets 2 o3 (some (0+((Ao).toNat),gk))))]
def zAr (c:AB)(q:AA)(pos:List Int)(ln:Nat)(o1:List Int)(o3:List (Option KS))(Ad:Nat)(gk:LK)(o4:KS):DH:=[oW c q pos 1 ln,oI o1,oC [.ref 0 0],some (.mo (.sets 2 o3 (some (Ad,gk)))),some (.mo (.mit 2 gk.1 gk.2.1 gk.2.2 o4 none))]
def nR (c:AB)(q:AA)(pos:List Int)(ln:Nat)(o1:List Int)(o3:List (Option KS))(Ad:Nat)(gk:LK)(o4:KS)(y1:List Int):DH:=[oW c q pos 1 ln,oI o1,oC [.ref 0 0],some (.mo (.sets 2 o3 (some (Ad,gk)))),some (.mo (.mit 2 gk.1 gk.2.1 gk.2.2 (o4.erase y1) (some y1)))]
def dF (c:AB)(q:AA)(pos:List Int)(ln:Nat)(o1:List Int)(o3:List (Option KS))(o4:KS):DH:=[oW c q pos 1 ln,oI o1,oC [.ref 0 0],some (.mo (.sets 2 o3 none)),some (.mo (.set 2 o4)),some (.mo (.set 2 ([]:KS))),oC [.bool false,.bool false]]
def zAp (c:AB)(q:AA)(pos:List Int)(ln:Nat)(o1:List Int)(o3:List (Option KS))(AW:Int)(gk:LK)(o4:KS):DH:=[oW c q pos 1 ln,oI o1,oC [.ref 0 0],some (.mo (.sets 2 o3 (some (0+((AW).toNat),gk)))),some (.mo (.set 2 o4)),some (.mo (.set 2 ([]:KS))),oC [.bool false,.bool false]]
def dE (c:AB)(q:AA)(pos:List Int)(ln:Nat)(o1:List Int)(o3:List (Option KS))(Ad:Nat)(gk:LK)(Ah Fa:Int)(o5:KS)(FZ:List Int):DH:=[oW c q pos 1 ln,oI o1,oC [.ref 0 0],some (.mo (.sets 2 o3 (some (Ad,gk)))),oC [.i Ah,.i Fa],some (.mo (.mit 2 gk.1 gk.2.1 gk.2.2 o5 (some FZ))),some (.bools ([false,true]:List Bool))]
def zAo (c:AB)(q:AA)(pos:List Int)(ln:Nat)(y1:(Int×Int)×Bool×(List Int))(o3:List (Option KS))(Ad:Nat)(gk:LK)(Ah Fa:Int)(o5:KS)(FZ:List Int):DH:=[oW c q pos 1 ln,oI y1.2.2,oC [.ref 0 0],some (.mo (.sets 2 o3 (some (Ad,gk)))),oC [.i Ah,.i Fa],some (.mo (.mit 2 gk.1 gk.2.1 gk.2.2 o5 (some FZ))),some (.bools ([false,true]:List Bool)),oC [.i y1.1.1,.i y1.1.2]]
def zAn (c:AB)(q:AA)(pos:List Int)(ln:Nat)(o1:List Int)(o3:List (Option KS))(Ad:Nat)(gk:LK)(o4 o7:KS):DH:=[oW c q pos 1 ln,oI o1,oC [.ref 0 0],some (.mo (.sets 2 o3 (some (Ad,gk)))),some (.mo (.set 2 o4)),some (.mo (.set 2 ([]:KS))),oC [.bool false,.bool false],some (.mo (.mit 2 gk.1 gk.2.1 gk.2.2 o7 none))]
def iE (c:AB)(AW:Int)(q:AA)(pos:List Int)(ln:Nat)(y2:(List Int))(o3:List (Option KS))(o4:KS):St:=⟨(AF 208 [(1,.ref 2 0),(3,.fn 125 1 (L1 [.ref 2 0])),(5,.msl 3 1 0 ((((c.cells.length:Int)+1)).toNat)),(7,.fn 126 1 (L1 [.ref 2 0])),(14,.it 5),(16,.i AW),(18,.ref 6 0)]),([oW c q pos 1 ln,oI y2,oC [.ref 0 0],some (.mo (.sets 2 o3 none)),some (.mo (.set 2 o4)),some (.mo (.set 2 ([]:KS))),oC [.bool false,.bool false]]:DH)⟩
def zAw (c:AB)(q:AA)(pos:List Int)(ln:Nat)(y2:(List Int))(o3:List (Option KS))(o4:KS):DH:=[oW c q pos 1 ln,oI y2,oC [.ref 0 0],some (.mo (.sets 2 o3 none)),some (.mo (.set 2 o4)),some (.mo (.set 2 ([]:KS))),oC [.bool false,.bool false]]
def iH (c:AB)(AW:Int)(q:AA)(pos:List Int)(ln:Nat)(y3:(List Int))(o3:List (Option KS))(o4:KS):St:=⟨(AF 208 [(1,.ref 2 0),(3,.fn 125 1 (L1 [.ref 2 0])),(5,.msl 3 1 0 ((((c.cells.length:Int)+1)).toNat)),(7,.fn 126 1 (L1 [.ref 2 0])),(14,.it 5),(16,.i AW)]),([oW c q pos 1 ln,oI y3,oC [.ref 0 0],some (.mo (.sets 2 o3 none)),some (.mo (.set 2 o4)),some (.mo (.set 2 ([]:KS))),oC [.bool false,.bool false]]:DH)⟩
def zAv (c:AB)(q:AA)(pos:List Int)(ln:Nat)(o1:List Int)(o3:List (Option KS))(Ad:Nat)(gk:LK)(o4 o7:KS)(y1:List Int):DH:=[oW c q pos 1 ln,oI o1,oC [.ref 0 0],some (.mo (.sets 2 o3 (some (Ad,gk)))),some (.mo (.set 2 o4)),some (.mo (.set 2 ([]:KS))),oC [.bool false,.bool false],some (.mo (.mit 2 gk.1 gk.2.1 gk.2.2 (o7.erase y1) (some y1)))]
def Ui (c:AB)(q:AA)(pos:List Int)(ln:Nat)(o1:List Int)(o3:List (Option KS))(Ad:Nat)(gk:LK)(o4 o5:KS)(BR BS:Bool)(Dm Dl:Int)(o8:KS)(D9:List Int):DH:=[oW c q pos 1 ln,oI o1,oC [.ref 0 0],some (.mo (.sets 2 o3 (some (Ad,gk)))),some (.mo (.set 2 o4)),some (.mo (.set 2 o5)),oC [.bool BR,.bool BS],oC [.i Dm,.i Dl],some (.mo (.mit 2 gk.1 gk.2.1 gk.2.2 o8 (some D9))),some (.bools ([false,true]:List Bool))]
def dH (c:AB)(q:AA)(pos:List Int)(ln:Nat)(y1:(Int×Int)×Bool×(List Int))(o3:List (Option KS))(Ad:Nat)(gk:LK)(o4 o5:KS)(BR BS:Bool)(Dm Dl:Int)(o8:KS)(D9:List Int):DH:=[oW c q pos 1 ln,oI y1.2.2,oC [.ref 0 0],some (.mo (.sets 2 o3 (some (Ad,gk)))),some (.mo (.set 2 o4)),some (.mo (.set 2 o5)),oC [.bool BR,.bool BS],oC [.i Dm,.i Dl],some (.mo (.mit 2 gk.1 gk.2.1 gk.2.2 o8 (some D9))),some (.bools ([false,true]:List Bool)),oC [.i y1.1.1,.i y1.1.2]]
def zAu (c:AB)(q:AA)(pos:List Int)(ln:Nat)(o1:List Int)(o3:List (Option KS))(Ad:Nat)(gk:LK)(o4:KS)(KN:List Int):DH:=[oW c q pos 1 ln,oI o1,oC [.ref 0 0],some (.mo (.sets 2 o3 (some (Ad,gk)))),some (.mo (.mit 2 gk.1 gk.2.1 gk.2.2 o4 (some KN)))]
def zAt (c:AB)(q:AA)(pos:List Int)(ln:Nat)(o1:List Int)(o3:List (Option KS))(Ad:Nat)(gk:LK)(o4 o5:KS)(BR BS:Bool)(o7:KS)(KM:List Int):DH:=[oW c q pos 1 ln,oI o1,oC [.ref 0 0],some (.mo (.sets 2 o3 (some (Ad,gk)))),some (.mo (.set 2 o4)),some (.mo (.set 2 o5)),oC [.bool BR,.bool BS],some (.mo (.mit 2 gk.1 gk.2.1 gk.2.2 o7 (some KM)))]
def dG (c:AB)(q:AA)(pos:List Int)(ln:Nat)(o1:List Int)(o3:List (Option KS))(o4 o5:KS)(BR BS:Bool):DH:=[oW c q pos 1 ln,oI o1,oC [.ref 0 0],some (.mo (.sets 2 o3 none)),some (.mo (.set 2 o4)),some (.mo (.set 2 o5)),oC [.bool BR,.bool BS]]
def Zv (c:AB)(AW:Int)(q:AA)(pos:List Int)(ln:Nat)(y2:(List Int))(o3:List (Option KS))(o4 o5:KS)(BR BS:Bool):St:=⟨(AF 208 [(1,.ref 2 0),(3,.fn 125 1 (L1 [.ref 2 0])),(5,.msl 3 1 0 ((((c.cells.length:Int)+1)).toNat)),(7,.fn 126 1 (L1 [.ref 2 0])),(14,.it 5),(16,.i AW),(18,.ref 6 0)]),([oW c q pos 1 ln,oI y2,oC [.ref 0 0],some (.mo (.sets 2 o3 none)),some (.mo (.set 2 o4)),some (.mo (.set 2 o5)),oC [.bool BR,.bool BS]]:DH)⟩
def zAs (c:AB)(q:AA)(pos:List Int)(ln:Nat)(y2:(List Int))(o3:List (Option KS))(o4 o5:KS)(BR BS:Bool):DH:=[oW c q pos 1 ln,oI y2,oC [.ref 0 0],some (.mo (.sets 2 o3 none)),some (.mo (.set 2 o4)),some (.mo (.set 2 o5)),oC [.bool BR,.bool BS]]
def iG (c:AB)(AW:Int)(q:AA)(pos:List Int)(ln:Nat)(y3:(List Int))(o3:List (Option KS))(o4 o5:KS)(BR BS:Bool):St:=⟨(AF 208 [(1,.ref 2 0),(3,.fn 125 1 (L1 [.ref 2 0])),(5,.msl 3 1 0 ((((c.cells.length:Int)+1)).toNat)),(7,.fn 126 1 (L1 [.ref 2 0])),(14,.it 5),(16,.i AW)]),([oW c q pos 1 ln,oI y3,oC [.ref 0 0],some (.mo (.sets 2 o3 none)),some (.mo (.set 2 o4)),some (.mo (.set 2 o5)),oC [.bool BR,.bool BS]]:DH)⟩
def iF (c:AB)(AW:Int)(q:AA)(pos:List Int)(ln:Nat)(y2:(List Int))(o3:List (Option KS))(o4 o5:KS)(BR BS:Bool):St:=⟨(AF 208 [(1,.ref 2 0),(3,.fn 125 1 (L1 [.ref 2 0])),(5,.msl 3 1 0 ((((c.cells.length:Int)+1)).toNat)),(7,.fn 126 1 (L1 [.ref 2 0])),(14,.it 5),(16,.i AW)]),([oW c q pos 1 ln,oI y2,oC [.ref 0 0],some (.mo (.sets 2 o3 none)),some (.mo (.set 2 o4)),some (.mo (.set 2 o5)),oC [.bool BR,.bool BS]]:DH)⟩
def zAq (c:AB)(q:AA)(pos:List Int)(ln:Nat)(o1:List Int)(o3:List (Option KS))(Ad:Nat)(gk:LK)(o4 o5:KS)(BR BS:Bool)(o7:KS)(y1:List Int):DH:=[oW c q pos 1 ln,oI o1,oC [.ref 0 0],some (.mo (.sets 2 o3 (some (Ad,gk)))),some (.mo (.set 2 o4)),some (.mo (.set 2 o5)),oC [.bool BR,.bool BS],some (.mo (.mit 2 gk.1 gk.2.1 gk.2.2 (o7.erase y1) (some y1)))]
inductive IQ where
 | l1 (DR:Int) (o3:List (Option KS))
 | l2 (Ao:Int) (o1:List Int) (o3:List (Option KS))
 | l3 (x8 Ao:Int) (o1:List Int) (o3:List (Option KS)) (Ad:Nat) (o4:KS)
 | l4 (AW:Int) (o1:List Int) (o3:List (Option KS)) (o4:KS)
 | l5 (x8 Ao FP:Int) (o1:List Int) (o3:List (Option KS)) (Ad:Nat) (Ah Fa:Int) (o5:KS) (FZ:List Int)
 | l6 (AW:Int) (o1:List Int) (o3:List (Option KS)) (Ad:Nat) (o4 o7:KS)
 | l7 (AW D8:Int) (o1:List Int) (o3:List (Option KS)) (Ad:Nat) (o4 o5:KS) (BR BS:Bool) (Dm Dl:Int) (o8:KS) (D9:List Int)
 | l8 (x8 Ao:Int) (o1:List Int) (o3:List (Option KS)) (Ad:Nat) (o4:KS) (KN:List Int)
 | l9 (AW:Int) (o1:List Int) (o3:List (Option KS)) (Ad:Nat) (o4 o5:KS) (BR BS:Bool) (o7:KS) (KM:List Int)
def TT (n:Nat)(self:IQ -> Option (Bool×(List Int)))(c:AB)(q:AA)(pos:List Int)(ln:Nat)(lost:List Int)(DR:Int)(o3:List (Option KS)):Option (Bool×(List Int)):= bif (decide (DR<(((((c.cells.length:Int)+1)).toNat:Nat):Int))) then if (0<=DR/\ DR<(((((c.cells.length:Int)+1)).toNat:Nat):Int))/\ 0+((DR).toNat)<o3.length/\ AH (DR+1) then self (.l1 (DR+1) (o3.set (0+((DR).toNat)) (some ([]:KS)))) else none else if ((0:Int)<=0/\ 0<(((((c.cells.length:Int)+1)).toNat:Nat):Int))/\ 0+0<o3.length/\ (o3.getD (0+0) none).isSome=true then self (.l2 0 lost (o3.set (0+0) (some (CP [0,0] ((o3.getD (0+0) none).getD []))))) else none
def OH (n:Nat)(self:IQ -> Option (Bool×(List Int)))(c:AB)(q:AA)(pos:List Int)(ln:Nat)(lost:List Int)(Ao:Int)(o1:List Int)(o3:List (Option KS)):Option (Bool×(List Int)):= bif (decide (Ao<(c.cells.length:Int))) then if (o3.getD (0+((Ao).toNat)) none).isSome=true then if (0<=Ao/\ Ao<(((((c.cells.length:Int)+1)).toNat:Nat):Int))/\ 0+((Ao).toNat)<o3.length/\ (o3.getD (0+((Ao).toNat)) none).isSome=true then self (.l3 Ao Ao o1 o3 (0+((Ao).toNat)) ((o3.getD (0+((Ao).toNat)) none).getD [])) else none else none else bif (decide ((c.runs.length:Int)>0)) then if AH ((c.runs.length:Int)-1)/\ ((0:Int)<=((c.runs.length:Int)-1)/\ ((c.runs.length:Int)-1)<(c.runs.length:Int))/\ AH ((c.cells.length:Int)-1) then self (.l4 ((c.cells.length:Int)-1) o1 o3 (CP [((c.runs.length:Int)-1),c.runs.getD ((((c.runs.length:Int)-1)).toNat) 0] (CP [(c.runs.length:Int),0] ([]:KS)))) else none else if AH ((c.cells.length:Int)-1) then self (.l4 ((c.cells.length:Int)-1) o1 o3 (CP [(c.runs.length:Int),0] ([]:KS))) else none
def vD (n:Nat)(self:IQ -> Option (Bool×(List Int)))(c:AB)(q:AA)(pos:List Int)(ln:Nat)(lost:List Int)(x8 Ao:Int)(o1:List Int)(o3:List (Option KS))(Ad:Nat)(o4:KS):Option (Bool×(List Int)):= if (o3.getD Ad none).isSome=true then IV o4 (if AH (Ao+1) then self (.l2 (Ao+1) o1 o3) else none) fun y1=> if (o3.getD Ad none).isSome=true then self (.l5 x8 Ao 0 o1 o3 Ad (y1.getD 0 0) (y1.getD 1 0) (o4.erase y1) y1) else none else none
def TS (n:Nat)(self:IQ -> Option (Bool×(List Int)))(c:AB)(q:AA)(pos:List Int)(ln:Nat)(lost:List Int)(AW:Int)(o1:List Int)(o3:List (Option KS))(o4:KS):Option (Bool×(List Int)):= bif (decide (AW>=0)) then if (o3.getD (0+((AW).toNat)) none).isSome=true then if (0<=AW/\ AW<(((((c.cells.length:Int)+1)).toNat:Nat):Int))/\ 0+((AW).toNat)<o3.length/\ (o3.getD (0+((AW).toNat)) none).isSome=true then self (.l6 AW o1 o3 (0+((AW).toNat)) o4 ((o3.getD (0+((AW).toNat)) none).getD [])) else none else none else some (true,o1)
def OG (n:Nat)(self:IQ -> Option (Bool×(List Int)))(c:AB)(q:AA)(pos:List Int)(ln:Nat)(lost:List Int)(x8 Ao FP:Int)(o1:List Int)(o3:List (Option KS))(Ad:Nat)(Ah Fa:Int)(o5:KS)(FZ:List Int):Option (Bool×(List Int)):= bif (decide (FP<2)) then if (0<=FP/\ FP<((2:Nat):Int))/\ 0+((FP).toNat)<([false,true]:List Bool).length then (UG n (Ah,Fa) (([false,true]:List Bool).getD (0+((FP).toNat)) false) c q pos ln o1).bind fun y1=> bif y1.2.1 then (UT n x8 (([false,true]:List Bool).getD (0+((FP).toNat)) false) c q pos ln y1.2.2).bind fun y2=> bif y2.1 then if AH (x8+1)/\ (0<=(x8+1)/\ (x8+1)<(((((c.cells.length:Int)+1)).toNat:Nat):Int))/\ 0+(((x8+1)).toNat)<o3.length/\ Ad≠0+(((x8+1)).toNat)/\ (o3.getD (0+(((x8+1)).toNat)) none).isSome=true/\ AH (FP+1) then self (.l5 x8 Ao (FP+1) y2.2 (o3.set (0+(((x8+1)).toNat)) (some (CP [y1.1.1,y1.1.2] ((o3.getD (0+(((x8+1)).toNat)) none).getD [])))) Ad Ah Fa o5 FZ) else none else if AH (FP+1) then self (.l5 x8 Ao (FP+1) y2.2 o3 Ad Ah Fa o5 FZ) else none else if AH (FP+1) then self (.l5 x8 Ao (FP+1) y1.2.2 o3 Ad Ah Fa o5 FZ) else none else none else self (.l8 x8 Ao o1 o3 Ad o5 FZ)
def vC (n:Nat)(self:IQ -> Option (Bool×(List Int)))(c:AB)(q:AA)(pos:List Int)(ln:Nat)(lost:List Int)(AW:Int)(o1:List Int)(o3:List (Option KS))(Ad:Nat)(o4 o7:KS):Option (Bool×(List Int)):= if (o3.getD Ad none).isSome=true then IV o7 (if 0<=AW/\ AW<(c.cells.length:Int) then (Dn n (c.cells.getD ((AW).toNat) 0) c.set c q pos ln o1).bind fun y2=> (Gy n (c.cells.getD ((AW).toNat) 0) c q pos ln y2).bind fun y3=> if AH (AW-1) then self (.l4 (AW-1) y3 o3 ([]:KS)) else none else none) fun y1=> if (o3.getD Ad none).isSome=true then self (.l7 AW 0 o1 o3 Ad o4 ([]:KS) false false (y1.getD 0 0) (y1.getD 1 0) (o7.erase y1) y1) else none else none
def OE (n:Nat)(self:IQ -> Option (Bool×(List Int)))(c:AB)(q:AA)(pos:List Int)(ln:Nat)(lost:List Int)(AW D8:Int)(o1:List Int)(o3:List (Option KS))(Ad:Nat)(o4 o5:KS)(BR BS:Bool)(Dm Dl:Int)(o8:KS)(D9:List Int):Option (Bool×(List Int)):= bif (decide (D8<2)) then if (0<=D8/\ D8<((2:Nat):Int))/\ 0+((D8).toNat)<([false,true]:List Bool).length then (UG n (Dm,Dl) (([false,true]:List Bool).getD (0+((D8).toNat)) false) c q pos ln o1).bind fun y1=> bif y1.2.1 then (UT n AW (([false,true]:List Bool).getD (0+((D8).toNat)) false) c q pos ln y1.2.2).bind fun y2=> bif y2.1 then bif (o4.contains [y1.1.1,y1.1.2]) then bif (D8==0) then if AH (D8+1) then self (.l7 AW (D8+1) y2.2 o3 Ad o4 (CP [Dm,Dl] o5) true BS Dm Dl o8 D9) else none else bif (D8==1) then if AH (D8+1) then self (.l7 AW (D8+1) y2.2 o3 Ad o4 (CP [Dm,Dl] o5) BR true Dm Dl o8 D9) else none else none else if AH (D8+1) then self (.l7 AW (D8+1) y2.2 o3 Ad o4 o5 BR BS Dm Dl o8 D9) else none else if AH (D8+1) then self (.l7 AW (D8+1) y2.2 o3 Ad o4 o5 BR BS Dm Dl o8 D9) else none else if AH (D8+1) then self (.l7 AW (D8+1) y1.2.2 o3 Ad o4 o5 BR BS Dm Dl o8 D9) else none else none else self (.l9 AW o1 o3 Ad o4 o5 BR BS o8 D9)
def TR (n:Nat)(self:IQ -> Option (Bool×(List Int)))(c:AB)(q:AA)(pos:List Int)(ln:Nat)(lost:List Int)(x8 Ao:Int)(o1:List Int)(o3:List (Option KS))(Ad:Nat)(o4:KS)(KN:List Int):Option (Bool×(List Int)):= if (o3.getD Ad none).isSome=true then IV o4 (if AH (Ao+1) then self (.l2 (Ao+1) o1 o3) else none) fun y1=> if (o3.getD Ad none).isSome=true then self (.l5 x8 Ao 0 o1 o3 Ad (y1.getD 0 0) (y1.getD 1 0) (o4.erase y1) y1) else none else none
def TQ (n:Nat)(self:IQ -> Option (Bool×(List Int)))(c:AB)(q:AA)(pos:List Int)(ln:Nat)(lost:List Int)(AW:Int)(o1:List Int)(o3:List (Option KS))(Ad:Nat)(o4 o5:KS)(BR BS:Bool)(o7:KS)(KM:List Int):Option (Bool×(List Int)):= if (o3.getD Ad none).isSome=true then IV o7 (bif (!BS) then if 0<=AW/\ AW<(c.cells.length:Int) then (Dn n (c.cells.getD ((AW).toNat) 0) c.set c q pos ln o1).bind fun y2=> bif (!BR) then (Gy n (c.cells.getD ((AW).toNat) 0) c q pos ln y2).bind fun y3=> if AH (AW-1) then self (.l4 (AW-1) y3 o3 o5) else none else if AH (AW-1) then self (.l4 (AW-1) y2 o3 o5) else none else none else bif (!BR) then if 0<=AW/\ AW<(c.cells.length:Int) then (Gy n (c.cells.getD ((AW).toNat) 0) c q pos ln o1).bind fun y2=> if AH (AW-1) then self (.l4 (AW-1) y2 o3 o5) else none else none else if AH (AW-1) then self (.l4 (AW-1) o1 o3 o5) else none) fun y1=> if (o3.getD Ad none).isSome=true then self (.l7 AW 0 o1 o3 Ad o4 o5 BR BS (y1.getD 0 0) (y1.getD 1 0) (o7.erase y1) y1) else none else none
def aK (n:Nat)(self:IQ -> Option (Bool×(List Int)))(c:AB)(q:AA)(pos:List Int)(ln:Nat)(lost:List Int):Option (Bool×(List Int)):= bif ((c.cells.length:Int)==0) then some (((c.runs.length:Int)==0),lost) else if AH ((c.cells.length:Int)+1)/\ ((((c.cells.length:Int)+1):Int)=((c.cells.length:Int)+1)/\ (0:Int)<=((c.cells.length:Int)+1)/\ (((c.cells.length:Int)+1):Int)<=1000000000000) then self (.l1 0 (List.replicate ((((c.cells.length:Int)+1)).toNat) (none:Option KS))) else none
def BJ (c:AB)(q:AA)(pos:List Int)(ln:Nat)(lost:List Int):Nat -> IQ -> Option (Bool×(List Int))
 | 0,_=>none
 | n+1,.l1 DR o3=>TT n (BJ c q pos ln lost n) c q pos ln lost DR o3
 | n+1,.l2 Ao o1 o3=>OH n (BJ c q pos ln lost n) c q pos ln lost Ao o1 o3
 | n+1,.l3 x8 Ao o1 o3 Ad o4=>vD n (BJ c q pos ln lost n) c q pos ln lost x8 Ao o1 o3 Ad o4
 | n+1,.l4 AW o1 o3 o4=>TS n (BJ c q pos ln lost n) c q pos ln lost AW o1 o3 o4
 | n+1,.l5 x8 Ao FP o1 o3 Ad Ah Fa o5 FZ=>OG n (BJ c q pos ln lost n) c q pos ln lost x8 Ao FP o1 o3 Ad Ah Fa o5 FZ
 | n+1,.l6 AW o1 o3 Ad o4 o7=>vC n (BJ c q pos ln lost n) c q pos ln lost AW o1 o3 Ad o4 o7
 | n+1,.l7 AW D8 o1 o3 Ad o4 o5 BR BS Dm Dl o8 D9=>OE n (BJ c q pos ln lost n) c q pos ln lost AW D8 o1 o3 Ad o4 o5 BR BS Dm Dl o8 D9
 | n+1,.l8 x8 Ao o1 o3 Ad o4 KN=>TR n (BJ c q pos ln lost n) c q pos ln lost x8 Ao o1 o3 Ad o4 KN
 | n+1,.l9 AW o1 o3 Ad o4 o5 BR BS o7 KM=>TQ n (BJ c q pos ln lost n) c q pos ln lost AW o1 o3 Ad o4 o5 BR BS o7 KM
def Qc (n:Nat)(c:AB)(q:AA)(pos:List Int)(ln:Nat)(lost:List Int):Option (Bool×(List Int)):=aK n (BJ c q pos ln lost n) c q pos ln lost
def vE (n B:Nat)(N:Yd 2)(c:AB)(q:AA)(pos:List Int)(ln:Nat)(lost:List Int)(r:Bool×(List Int)):IQ -> Prop
 | .l1 DR o3=>∀ m0:Nat,n<=m0 -> TW B N (FQ Tryz.f110 2 (.bool r.1) [oW c q pos 1 ln,oI r.2]) (Ax m0 (A7 (AY Tryz.f110) 0 [])) ⟨AF 208 [(1,.ref 2 0),(3,.fn 125 1 (L1 [.ref 2 0])),(4,.i (c.cells.length:Int)),(5,.msl 3 1 0 ((((c.cells.length:Int)+1)).toNat)),(44,.i (((((c.cells.length:Int)+1)).toNat:Nat):Int)),(45,.i DR)],[oW c q pos 1 ln,oI lost,oC [.ref 0 0],some (.mo (.sets 2 o3 none))]⟩
 | .l2 Ao o1 o3=>∀ m0:Nat,n<=m0 -> TW B N (FQ Tryz.f110 2 (.bool r.1) [oW c q pos 1 ln,oI r.2]) (Ax m0 (A7 (AY Tryz.f110) 2 [])) ⟨AF 208 [(1,.ref 2 0),(3,.fn 125 1 (L1 [.ref 2 0])),(4,.i (c.cells.length:Int)),(5,.msl 3 1 0 ((((c.cells.length:Int)+1)).toNat)),(7,.fn 126 1 (L1 [.ref 2 0])),(58,.i (c.cells.length:Int)),(59,.i Ao)],[oW c q pos 1 ln,oI o1,oC [.ref 0 0],some (.mo (.sets 2 o3 none))]⟩
 | .l3 x8 Ao o1 o3 Ad o4=>∀ m0 m1:Nat,n<=m0 -> n<=m1 -> ∀ gk:LK,TW B N (FQ Tryz.f110 2 (.bool r.1) [oW c q pos 1 ln,oI r.2]) (Ax m1 (A7 (AY Tryz.f110) 4 [m0])) ⟨AF 208 [(1,.ref 2 0),(3,.fn 125 1 (L1 [.ref 2 0])),(4,.i (c.cells.length:Int)),(5,.msl 3 1 0 ((((c.cells.length:Int)+1)).toNat)),(7,.fn 126 1 (L1 [.ref 2 0])),(8,.i x8),(58,.i (c.cells.length:Int)),(59,.i Ao),(66,.it 4)],[oW c q pos 1 ln,oI o1,oC [.ref 0 0],some (.mo (.sets 2 o3 (some (Ad,gk)))),some (.mo (.mit 2 gk.1 gk.2.1 gk.2.2 o4 none))]⟩
 | .l4 AW o1 o3 o4=>∀ m0:Nat,n<=m0 -> TW B N (FQ Tryz.f110 2 (.bool r.1) [oW c q pos 1 ln,oI r.2]) (Ax m0 (A7 (AY Tryz.f110) 8 [])) ⟨AF 208 [(1,.ref 2 0),(3,.fn 125 1 (L1 [.ref 2 0])),(5,.msl 3 1 0 ((((c.cells.length:Int)+1)).toNat)),(7,.fn 126 1 (L1 [.ref 2 0])),(14,.it 4),(16,.i AW)],[oW c q pos 1 ln,oI o1,oC [.ref 0 0],some (.mo (.sets 2 o3 none)),some (.mo (.set 2 o4))]⟩
 | .l5 x8 Ao FP o1 o3 Ad Ah Fa o5 FZ=>∀ m0 m1 m2:Nat,n<=m0 -> n<=m1 -> n<=m2 -> ∀ gk:LK,TW B N (FQ Tryz.f110 2 (.bool r.1) [oW c q pos 1 ln,oI r.2]) (Ax m2 (A7 (AY Tryz.f110) 6 [m0,m1])) ⟨AF 208 [(1,.ref 2 0),(3,.fn 125 1 (L1 [.ref 2 0])),(4,.i (c.cells.length:Int)),(5,.msl 3 1 0 ((((c.cells.length:Int)+1)).toNat)),(7,.fn 126 1 (L1 [.ref 2 0])),(8,.i x8),(9,.ref 4 0),(58,.i (c.cells.length:Int)),(59,.i Ao),(66,.it 5),(71,.msl 6 1 0 2),(72,.i 2),(73,.i FP)],[oW c q pos 1 ln,oI o1,oC [.ref 0 0],some (.mo (.sets 2 o3 (some (Ad,gk)))),oC [.i Ah,.i Fa],some (.mo (.mit 2 gk.1 gk.2.1 gk.2.2 o5 (some FZ))),some (.bools ([false,true]:List Bool))]⟩
 | .l6 AW o1 o3 Ad o4 o7=>∀ m0 m1:Nat,n<=m0 -> n<=m1 -> ∀ gk:LK,TW B N (FQ Tryz.f110 2 (.bool r.1) [oW c q pos 1 ln,oI r.2]) (Ax m1 (A7 (AY Tryz.f110) 10 [m0])) ⟨AF 208 [(1,.ref 2 0),(3,.fn 125 1 (L1 [.ref 2 0])),(5,.msl 3 1 0 ((((c.cells.length:Int)+1)).toNat)),(7,.fn 126 1 (L1 [.ref 2 0])),(14,.it 4),(16,.i AW),(17,.it 5),(18,.ref 6 0),(140,.it 7)],[oW c q pos 1 ln,oI o1,oC [.ref 0 0],some (.mo (.sets 2 o3 (some (Ad,gk)))),some (.mo (.set 2 o4)),some (.mo (.set 2 ([]:KS))),oC [.bool false,.bool false],some (.mo (.mit 2 gk.1 gk.2.1 gk.2.2 o7 none))]⟩
 | .l7 AW D8 o1 o3 Ad o4 o5 BR BS Dm Dl o8 D9=>∀ m0 m1 m2:Nat,n<=m0 -> n<=m1 -> n<=m2 -> ∀ gk:LK,TW B N (FQ Tryz.f110 2 (.bool r.1) [oW c q pos 1 ln,oI r.2]) (Ax m2 (A7 (AY Tryz.f110) 12 [m0,m1])) ⟨AF 208 [(1,.ref 2 0),(3,.fn 125 1 (L1 [.ref 2 0])),(5,.msl 3 1 0 ((((c.cells.length:Int)+1)).toNat)),(7,.fn 126 1 (L1 [.ref 2 0])),(14,.it 4),(16,.i AW),(17,.it 5),(18,.ref 6 0),(19,.ref 7 0),(140,.it 8),(145,.msl 9 1 0 2),(146,.i 2),(147,.i D8)],[oW c q pos 1 ln,oI o1,oC [.ref 0 0],some (.mo (.sets 2 o3 (some (Ad,gk)))),some (.mo (.set 2 o4)),some (.mo (.set 2 o5)),oC [.bool BR,.bool BS],oC [.i Dm,.i Dl],some (.mo (.mit 2 gk.1 gk.2.1 gk.2.2 o8 (some D9))),some (.bools ([false,true]:List Bool))]⟩
 | .l8 x8 Ao o1 o3 Ad o4 KN=>∀ m0 m1:Nat,n<=m0 -> n<=m1 -> ∀ gk:LK,TW B N (FQ Tryz.f110 2 (.bool r.1) [oW c q pos 1 ln,oI r.2]) (Ax m1 (A7 (AY Tryz.f110) 4 [m0])) ⟨AF 208 [(1,.ref 2 0),(3,.fn 125 1 (L1 [.ref 2 0])),(4,.i (c.cells.length:Int)),(5,.msl 3 1 0 ((((c.cells.length:Int)+1)).toNat)),(7,.fn 126 1 (L1 [.ref 2 0])),(8,.i x8),(58,.i (c.cells.length:Int)),(59,.i Ao),(66,.it 4)],[oW c q pos 1 ln,oI o1,oC [.ref 0 0],some (.mo (.sets 2 o3 (some (Ad,gk)))),some (.mo (.mit 2 gk.1 gk.2.1 gk.2.2 o4 (some KN)))]⟩
 | .l9 AW o1 o3 Ad o4 o5 BR BS o7 KM=>∀ m0 m1:Nat,n<=m0 -> n<=m1 -> ∀ gk:LK,TW B N (FQ Tryz.f110 2 (.bool r.1) [oW c q pos 1 ln,oI r.2]) (Ax m1 (A7 (AY Tryz.f110) 10 [m0])) ⟨AF 208 [(1,.ref 2 0),(3,.fn 125 1 (L1 [.ref 2 0])),(5,.msl 3 1 0 ((((c.cells.length:Int)+1)).toNat)),(7,.fn 126 1 (L1 [.ref 2 0])),(14,.it 4),(16,.i AW),(17,.it 5),(18,.ref 6 0),(140,.it 7)],[oW c q pos 1 ln,oI o1,oC [.ref 0 0],some (.mo (.sets 2 o3 (some (Ad,gk)))),some (.mo (.set 2 o4)),some (.mo (.set 2 o5)),oC [.bool BR,.bool BS],some (.mo (.mit 2 gk.1 gk.2.1 gk.2.2 o7 (some KM)))]⟩
theorem vG (B:Nat)(N:Yd 2)(c:AB)(q:AA)(pos:List Int)(ln:Nat)(lost:List Int):Al (BJ c q pos ln lost) (vE · B N c q pos ln lost):=ia (fun _=>rfl) fun n AJ pt r h=>by
 cases pt
 case l1 DR o3=>
  intro m0 AC;refine rd AC fun m0 AC=>?_
  revert r;apply gO;exact bi 46 (gc (gi (gc (gi (gw 52 (lG CL [0,1,2,5] (AJ _ _ · m0 AC))))))) (gc (gi (gc (gi (gi (jg (ya (i:=0+0)) (lN CL [0,1,2,3] (AJ _ _ · n Nat.le.refl))))))))
 case l2 Ao o1 o3=>
  intro m0 AC;refine rd AC fun m0 AC=>?_
  revert r;apply gO
  exact bi 60 (gn fun g0=>fun p r h=>by
   refine gs (AX 16 CL) [0,1,2,3] p (EU (AY Tryz.f110) 16 [m0]) (AF 208 [(1,.ref 2 0),(3,.fn 125 1 (L1 [.ref 2 0])),(4,.i (c.cells.length:Int)),(5,.msl 3 1 0 ((((c.cells.length:Int)+1)).toNat)),(7,.fn 126 1 (L1 [.ref 2 0])),(8,.i Ao),(58,.i (c.cells.length:Int)),(59,.i Ao)]) (dI c q pos ln o1 o3) ?_;refine BU.lock 3 (0+((Ao).toNat)) 2 (by kernel_rfl) g0 (by kernel_rfl) (fun gk=>(zAx c q pos ln o1 o3 Ao gk)) (by kernel_rfl) fun gk=>?_
   revert r;apply gO;exact gc (gi (gc (gi (gi (jg (Eq.refl (0+((Ao).toNat))) (lN CL [0,1,2,3,4] (AJ _ _ · m0 n AC Nat.le.refl gk)))))))) (bi 115 (gc (gn fun g0=>jw 118 g0 (jw 125 g0 (gc (gi (gw 130 (lN CL [0,1,2,3,4] (AJ _ _ · n Nat.le.refl)))))))) (gw 130 (lN CL [0,1,2,3,4] (AJ _ _ · n Nat.le.refl))))
 case l3 x8 Ao o1 o3 Ad o4=>
  intro m0 m1 AC Ar gk;have AC:=zCz AC;refine rd Ar fun m1 Ar=>?_
  have p:=H0;refine gs (AX 17 CL) [0,1,2,3,4] p (EU (AY Tryz.f110) 17 [m0,m1]) (AF 208 [(1,.ref 2 0),(3,.fn 125 1 (L1 [.ref 2 0])),(4,.i (c.cells.length:Int)),(5,.msl 3 1 0 ((((c.cells.length:Int)+1)).toNat)),(7,.fn 126 1 (L1 [.ref 2 0])),(8,.i x8),(58,.i (c.cells.length:Int)),(59,.i Ao),(66,.it 4)]) (zAr c q pos ln o1 o3 Ad gk o4) ?_;revert r;apply gO
  exact gn fun g0=>fun p r h=>by
   replace h:=Xa h;refine An.nx (ops:=A4 Tryz.f110 17) HC.x (by kernel_rfl) (by kernel_rfl) 4 3 Ad 2 o3 gk o4 none [1,3,4,5,7,8,58,59,66,68] [0,1,2,3] (AF 208 [(1,.ref 2 0),(3,.fn 125 1 (L1 [.ref 2 0])),(4,.i (c.cells.length:Int)),(5,.msl 3 1 0 ((((c.cells.length:Int)+1)).toNat)),(7,.fn 126 1 (L1 [.ref 2 0])),(8,.i x8),(58,.i (c.cells.length:Int)),(59,.i Ao),(68,.bool false)]) (dI c q pos ln o1 o3) [0,1,2,3,4] (fun y1=>AF 208 [(1,.ref 2 0),(3,.fn 125 1 (L1 [.ref 2 0])),(4,.i (c.cells.length:Int)),(5,.msl 3 1 0 ((((c.cells.length:Int)+1)).toNat)),(7,.fn 126 1 (L1 [.ref 2 0])),(8,.i x8),(58,.i (c.cells.length:Int)),(59,.i Ao),(66,.it 4),(68,.bool true)]) (fun y1=>(nR c q pos ln o1 o3 Ad gk o4 y1)) (by kernel_rfl) (by kernel_rfl) (by kernel_rfl) (by decide) g0 (by kernel_rfl) (by kernel_rfl) (fun _=>by kernel_rfl) (fun he=>?_) (fun y1 he=>?_)
   ·replace h:=h.1 he;revert r;apply gO;exact gw 98 (lG CL [0,1,2,3] (AJ _ _ · m0 AC))
   ·replace h:=h.2 y1 he;revert r;apply gO;exact gi (jg (Eq.refl gk.1) (jg (Eq.refl gk.2.1) (jg (Eq.refl gk.2.2) (jt (lN CL [0,1,2,3,5,4,6] (AJ _ _ · m0 m1 n AC Ar Nat.le.refl gk))))))
 case l4 AW o1 o3 o4=>
  intro m0 AC;refine rd AC fun m0 AC=>?_
  revert r;apply gO
  exact bi 132 (gn fun g0=>fun p r h=>by
   refine gs (AX 36 CL) [0,1,2,3,4,5,6] p (EU (AY Tryz.f110) 36 [m0]) (AF 208 [(1,.ref 2 0),(3,.fn 125 1 (L1 [.ref 2 0])),(5,.msl 3 1 0 ((((c.cells.length:Int)+1)).toNat)),(7,.fn 126 1 (L1 [.ref 2 0])),(14,.it 4),(16,.i AW),(17,.it 5),(18,.ref 6 0)]) (dF c q pos ln o1 o3 o4) ?_;refine BU.lock 3 (0+((AW).toNat)) 2 (by kernel_rfl) g0 (by kernel_rfl) (fun gk=>(zAp c q pos ln o1 o3 AW gk o4)) (by kernel_rfl) fun gk=>?_
   revert r;apply gO;exact gc (gi (gc (gi (gi (jg (Eq.refl (0+((AW).toNat))) (lN CL [0,1,2,3,4,5,6,7] (AJ _ _ · m0 n AC Nat.le.refl gk)))))))) (lE CL [2] [0,1])
 case l5 x8 Ao FP o1 o3 Ad Ah Fa o5 FZ=>
  intro m0 m1 m2 AC Ar HE gk;have AC:=zCz AC;have Ar:=zCz Ar;refine rd HE fun m2 HE=>?_
  revert r;apply gO;exact bj 74 (fun c0=>gc (gn fun g0=>jg g0 (gn fun g1=>jg g1 (cn fun y1 Au=>jc (em (Mm Au) [2,0,1] (dE c q pos ln o1 o3 Ad gk Ah Fa o5 FZ)) (jt (bn (fun c1=>rO (jb 74 c0 (jg g0 (jg g1 (jc (em (Mm Au) [2,0,1] (dE c q pos ln o1 o3 Ad gk Ah Fa o5 FZ)) (jb 83 c1 (jt (ce Xs [2,0,1] (zAo c q pos ln y1 o3 Ad gk Ah Fa o5 FZ) fun _=>bi 89 (jg uG (gc (gw 93 (gc (gi (gc (gi (gc (gn fun g5=>gc (gi (jg (yZ (g:=gk) g5) (gw 97 (lG CL [0,1,2,3,4,5,6] (AJ _ _ · m0 m1 m2 AC Ar HE gk)))))))))))))) (gw 97 (lG CL [0,1,2,3,4,5,6] (AJ _ _ · m0 m1 m2 AC Ar HE gk))))))))))) (fun c1=>rO (jb 74 c0 (jg g0 (jg g1 (jc (em (Mm Au) [2,0,1] (dE c q pos ln o1 o3 Ad gk Ah Fa o5 FZ)) (jb 83 c1 (jt (gw 97 (lG CL [0,1,2,3,4,5,6] (AJ _ _ · m0 m1 m2 AC Ar HE gk)))))))))))))))) (fun _=>lG CL [0,1,2,3,5] (AJ _ _ · m0 m1 AC Ar gk))
 case l6 AW o1 o3 Ad o4 o7=>
  intro m0 m1 AC Ar gk;have AC:=zCz AC;refine rd Ar fun m1 Ar=>?_
  have p:=H0;refine gs (AX 37 CL) [0,1,2,3,4,5,6,7] p (EU (AY Tryz.f110) 37 [m0,m1]) (AF 208 [(1,.ref 2 0),(3,.fn 125 1 (L1 [.ref 2 0])),(5,.msl 3 1 0 ((((c.cells.length:Int)+1)).toNat)),(7,.fn 126 1 (L1 [.ref 2 0])),(14,.it 4),(16,.i AW),(17,.it 5),(18,.ref 6 0),(140,.it 7)]) (zAn c q pos ln o1 o3 Ad gk o4 o7) ?_;revert r;apply gO
  exact gn fun g0=>fun p r h=>by
   replace h:=Xa h;refine An.nx (ops:=A4 Tryz.f110 37) HC.x (by kernel_rfl) (by kernel_rfl) 7 3 Ad 2 o3 gk o7 none [1,3,5,7,14,16,17,18,140,142] [0,1,2,3,4,5,6] (AF 208 [(1,.ref 2 0),(3,.fn 125 1 (L1 [.ref 2 0])),(5,.msl 3 1 0 ((((c.cells.length:Int)+1)).toNat)),(7,.fn 126 1 (L1 [.ref 2 0])),(14,.it 4),(16,.i AW),(17,.it 5),(18,.ref 6 0),(142,.bool false)]) (dF c q pos ln o1 o3 o4) [0,1,2,3,4,5,6,7] (fun y1=>AF 208 [(1,.ref 2 0),(3,.fn 125 1 (L1 [.ref 2 0])),(5,.msl 3 1 0 ((((c.cells.length:Int)+1)).toNat)),(7,.fn 126 1 (L1 [.ref 2 0])),(14,.it 4),(16,.i AW),(17,.it 5),(18,.ref 6 0),(140,.it 7),(142,.bool true)]) (fun y1=>(zAv c q pos ln o1 o3 Ad gk o4 o7 y1)) (by kernel_rfl) (by kernel_rfl) (by kernel_rfl) (by decide) g0 (by kernel_rfl) (by kernel_rfl) (fun _=>by kernel_rfl) (fun he=>?_) (fun y1 he=>?_)
   ·replace h:=h.1 he;revert r;apply gO;exact jg (by decide:(0:Int)<=1/\ 1<((2:Nat):Int)) (jg j0 (gn fun g1=>jg g1 (ce GN [0,1] (dF c q pos ln o1 o3 o4) fun y2=>jg (Eq.refl (iE c AW q pos ln y2 o3 o4)) (jg (by decide:(0:Int)<=0/\ 0<((2:Nat):Int)) (jg aF (jg g1 (ce Mj [0,1] (zAw c q pos ln y2 o3 o4) fun y3=>jg (Eq.refl (iH c AW q pos ln y3 o3 o4)) (gw 134 (lG (tg:=[([],(iE c AW q pos ln y2 o3 o4)),([],(iH c AW q pos ln y3 o3 o4))]) CL [0,1,2,3,5] (AJ _ _ · m0 AC))))))))))
   ·replace h:=h.2 y1 he;revert r;apply gO;exact gi (jg (Eq.refl gk.1) (jg (Eq.refl gk.2.1) (jg (Eq.refl gk.2.2) (jt (lN CL [0,1,2,3,4,5,6,8,7,9] (AJ _ _ · m0 m1 n AC Ar Nat.le.refl gk))))))
 case l7 AW D8 o1 o3 Ad o4 o5 BR BS Dm Dl o8 D9=>
  intro m0 m1 m2 AC Ar HE gk;have AC:=zCz AC;have Ar:=zCz Ar;refine rd HE fun m2 HE=>?_
  revert r;apply gO;exact bj 148 (fun c0=>gc (gn fun g0=>jg g0 (gn fun g1=>jg g1 (cn fun y1 Au=>jc (em (Mm Au) [2,0,1] (Ui c q pos ln o1 o3 Ad gk o4 o5 BR BS Dm Dl o8 D9)) (jt (bn (fun c1=>rO (jb 148 c0 (jg g0 (jg g1 (jc (em (Mm Au) [2,0,1] (Ui c q pos ln o1 o3 Ad gk o4 o5 BR BS Dm Dl o8 D9)) (jb 158 c1 (jt (cn fun y2 Cd=>jc (em (Xs Cd) [2,0,1] (dH c q pos ln y1 o3 Ad gk o4 o5 BR BS Dm Dl o8 D9)) (bj 164 (fun c2=>bj 169 (fun c3=>bn (fun c4=>rO (jb 148 c0 (jo 149 (AL.int (k:=.i64) (eq_of_beq c4)) (jg g0 (jg g1 (jc (em (Mm Au) [2,0,1] (Ui c q pos ln o1 o3 Ad gk o4 o5 BR BS Dm Dl o8 D9)) (jb 158 c1 (jt (jc (em (Xs Cd) [2,0,1] (dH c q pos ln y1 o3 Ad gk o4 o5 BR BS Dm Dl o8 D9)) (jb 164 c2 (jb 169 c3 (jg (by decide:(0:Int)<=0/\ 0<((2:Nat):Int)) (jt (gw 175 (lG CL [0,1,2,3,4,5,6,7,8,9] (AJ _ _ · m0 m1 m2 AC Ar HE gk)))))))))))))))) (fun c4=>bn (fun c6=>rO (jb 148 c0 (jo 149 (AL.int (k:=.i64) (eq_of_beq c6)) (jg g0 (jg g1 (jc (em (Mm Au) [2,0,1] (Ui c q pos ln o1 o3 Ad gk o4 o5 BR BS Dm Dl o8 D9)) (jb 158 c1 (jt (jc (em (Xs Cd) [2,0,1] (dH c q pos ln y1 o3 Ad gk o4 o5 BR BS Dm Dl o8 D9)) (jb 164 c2 (jb 169 c3 (jg (by decide:(0:Int)<=1/\ 1<((2:Nat):Int)) (jt (gw 175 (lG CL [0,1,2,3,4,5,6,7,8,9] (AJ _ _ · m0 m1 m2 AC Ar HE gk)))))))))))))))) (fun c6=>nO))) (fun _=>gw 175 (lG CL [0,1,2,3,4,5,6,7,8,9] (AJ _ _ · m0 m1 m2 AC Ar HE gk)))) (fun _=>gw 175 (lG CL [0,1,2,3,4,5,6,7,8,9] (AJ _ _ · m0 m1 m2 AC Ar HE gk)))))))))))) (fun c1=>rO (jb 148 c0 (jg g0 (jg g1 (jc (em (Mm Au) [2,0,1] (Ui c q pos ln o1 o3 Ad gk o4 o5 BR BS Dm Dl o8 D9)) (jb 158 c1 (jt (gw 175 (lG CL [0,1,2,3,4,5,6,7,8,9] (AJ _ _ · m0 m1 m2 AC Ar HE gk)))))))))))))))) (fun _=>lG CL [0,1,2,3,4,5,6,8] (AJ _ _ · m0 m1 AC Ar gk))
 case l8 x8 Ao o1 o3 Ad o4 KN=>
  intro m0 m1 AC Ar gk;have AC:=zCz AC;refine rd Ar fun m1 Ar=>?_
  have p:=H0;refine gs (AX 17 CL) [0,1,2,3,4] p (EU (AY Tryz.f110) 17 [m0,m1]) (AF 208 [(1,.ref 2 0),(3,.fn 125 1 (L1 [.ref 2 0])),(4,.i (c.cells.length:Int)),(5,.msl 3 1 0 ((((c.cells.length:Int)+1)).toNat)),(7,.fn 126 1 (L1 [.ref 2 0])),(8,.i x8),(58,.i (c.cells.length:Int)),(59,.i Ao),(66,.it 4)]) (zAu c q pos ln o1 o3 Ad gk o4 KN) ?_;revert r;apply gO
  exact gn fun g0=>fun p r h=>by
   replace h:=Xa h;refine An.nx (ops:=A4 Tryz.f110 17) HC.x (by kernel_rfl) (by kernel_rfl) 4 3 Ad 2 o3 gk o4 (some KN) [1,3,4,5,7,8,58,59,66,68] [0,1,2,3] (AF 208 [(1,.ref 2 0),(3,.fn 125 1 (L1 [.ref 2 0])),(4,.i (c.cells.length:Int)),(5,.msl 3 1 0 ((((c.cells.length:Int)+1)).toNat)),(7,.fn 126 1 (L1 [.ref 2 0])),(8,.i x8),(58,.i (c.cells.length:Int)),(59,.i Ao),(68,.bool false)]) (dI c q pos ln o1 o3) [0,1,2,3,4] (fun y1=>AF 208 [(1,.ref 2 0),(3,.fn 125 1 (L1 [.ref 2 0])),(4,.i (c.cells.length:Int)),(5,.msl 3 1 0 ((((c.cells.length:Int)+1)).toNat)),(7,.fn 126 1 (L1 [.ref 2 0])),(8,.i x8),(58,.i (c.cells.length:Int)),(59,.i Ao),(66,.it 4),(68,.bool true)]) (fun y1=>(nR c q pos ln o1 o3 Ad gk o4 y1)) (by kernel_rfl) (by kernel_rfl) (by kernel_rfl) (by decide) g0 (by kernel_rfl) (by kernel_rfl) (fun _=>by kernel_rfl) (fun he=>?_) (fun y1 he=>?_)
   ·replace h:=h.1 he;revert r;apply gO;exact gw 98 (lG CL [0,1,2,3] (AJ _ _ · m0 AC))
   ·replace h:=h.2 y1 he;revert r;apply gO;exact gi (jg (Eq.refl gk.1) (jg (Eq.refl gk.2.1) (jg (Eq.refl gk.2.2) (jt (lN CL [0,1,2,3,5,4,6] (AJ _ _ · m0 m1 n AC Ar Nat.le.refl gk))))))
 case l9 AW o1 o3 Ad o4 o5 BR BS o7 KM=>
  intro m0 m1 AC Ar gk;have AC:=zCz AC;refine rd Ar fun m1 Ar=>?_
  have p:=H0;refine gs (AX 37 CL) [0,1,2,3,4,5,6,7] p (EU (AY Tryz.f110) 37 [m0,m1]) (AF 208 [(1,.ref 2 0),(3,.fn 125 1 (L1 [.ref 2 0])),(5,.msl 3 1 0 ((((c.cells.length:Int)+1)).toNat)),(7,.fn 126 1 (L1 [.ref 2 0])),(14,.it 4),(16,.i AW),(17,.it 5),(18,.ref 6 0),(140,.it 7)]) (zAt c q pos ln o1 o3 Ad gk o4 o5 BR BS o7 KM) ?_;revert r;apply gO
  exact gn fun g0=>fun p r h=>by
   replace h:=Xa h;refine An.nx (ops:=A4 Tryz.f110 37) HC.x (by kernel_rfl) (by kernel_rfl) 7 3 Ad 2 o3 gk o7 (some KM) [1,3,5,7,14,16,17,18,140,142] [0,1,2,3,4,5,6] (AF 208 [(1,.ref 2 0),(3,.fn 125 1 (L1 [.ref 2 0])),(5,.msl 3 1 0 ((((c.cells.length:Int)+1)).toNat)),(7,.fn 126 1 (L1 [.ref 2 0])),(14,.it 4),(16,.i AW),(17,.it 5),(18,.ref 6 0),(142,.bool false)]) (dG c q pos ln o1 o3 o4 o5 BR BS) [0,1,2,3,4,5,6,7] (fun y1=>AF 208 [(1,.ref 2 0),(3,.fn 125 1 (L1 [.ref 2 0])),(5,.msl 3 1 0 ((((c.cells.length:Int)+1)).toNat)),(7,.fn 126 1 (L1 [.ref 2 0])),(14,.it 4),(16,.i AW),(17,.it 5),(18,.ref 6 0),(140,.it 7),(142,.bool true)]) (fun y1=>(zAq c q pos ln o1 o3 Ad gk o4 o5 BR BS o7 y1)) (by kernel_rfl) (by kernel_rfl) (by kernel_rfl) (by decide) g0 (by kernel_rfl) (by kernel_rfl) (fun _=>by kernel_rfl) (fun he=>?_) (fun y1 he=>?_)
   ·replace h:=h.1 he;revert r;apply gO;exact jg (by decide:(0:Int)<=1/\ 1<((2:Nat):Int)) (bi 179 (jg j0 (gn fun g1=>jg g1 (ce GN [0,1] (dG c q pos ln o1 o3 o4 o5 BR BS) fun y2=>jg (Eq.refl (Zv c AW q pos ln y2 o3 o4 o5 BR BS)) (jg (by decide:(0:Int)<=0/\ 0<((2:Nat):Int)) (bi 197 (jg aF (jg g1 (ce Mj [0,1] (zAs c q pos ln y2 o3 o4 o5 BR BS) fun y3=>jg (Eq.refl (iG c AW q pos ln y3 o3 o4 o5 BR BS)) (gw 134 (lG (tg:=[([],(Zv c AW q pos ln y2 o3 o4 o5 BR BS)),([],(iG c AW q pos ln y3 o3 o4 o5 BR BS))]) CL [0,1,2,3,5] (AJ _ _ · m0 AC)))))) (gw 134 (lG (tg:=[([],(Zv c AW q pos ln y2 o3 o4 o5 BR BS))]) CL [0,1,2,3,5] (AJ _ _ · m0 AC)))))))) (jg (by decide:(0:Int)<=0/\ 0<((2:Nat):Int)) (bi 197 (jg aF (gi (ce Mj [0,1] (dG c q pos ln o1 o3 o4 o5 BR BS) fun y2=>jg (Eq.refl (iF c AW q pos ln y2 o3 o4 o5 BR BS)) (gw 134 (lG (tg:=[([],(iF c AW q pos ln y2 o3 o4 o5 BR BS))]) CL [0,1,2,3,5] (AJ _ _ · m0 AC)))))) (gw 134 (lG CL [0,1,2,3,5] (AJ _ _ · m0 AC))))))
   ·replace h:=h.2 y1 he;revert r;apply gO;exact gi (jg (Eq.refl gk.1) (jg (Eq.refl gk.2.1) (jg (Eq.refl gk.2.2) (jt (lN CL [0,1,2,3,4,5,6,8,7,9] (AJ _ _ · m0 m1 n AC Ar Nat.le.refl gk))))))
theorem vB {n:Nat}{c:AB}{q:AA}{pos:List Int}{ln:Nat}{lost:List Int}{r:Bool×(List Int)}(h:Qc n c q pos ln lost=some r):EQ 110 [.ref 0 0] [oW c q pos 1 ln,oI lost] (.bool r.1) [oW c q pos 1 ln,oI r.2] false:=by
 refine ot Tryz.func110 fun B N=>?_
 revert r;apply gO;exact bi 32 (lE CL [2] [0,1]) (gc (gw 41 (gi (lN CL [0,1,2,3] ((vG B N c q pos ln lost n) _ _ · n Nat.le.refl)))))
end Go.Proofs.YtodinaconebmdaaGreatDoor
namespace Go.Proofs.YtodinaconebmdaaGreatDoor
abbrev zGU:=@List.ext_getElem
abbrev zGq:=@Bool.not_eq_true
abbrev zG1:=@Option.isSome_none
abbrev zG2:=@Option.isSome_some
open Go.RowKit
section
variable {c:AB} {k:Nat} {pos lost:List Int} {q:AA}
theorem B5.unique {i:Nat}{D:Nat -> Nat -> Prop}{l l':List Int}(h:B5 c pos lost i D l)(h':B5 c pos lost i D l')(hi: ∀ j,B4 (l.getD j 0))(A8: ∀ j,B4 (l'.getD j 0)):l=l':=by
 have e:l.length=l'.length:=h.1.trans h'.1.symm;refine zGU e fun j h1 h2=>?_
 have e1:l.getD j 0=l[j]:=by simp [h1]
 have e2:l'.getD j 0=l'[j]:=by simp [h2]
 rw [←e1,←e2];refine MH (hi j) (A8 j) fun s _=>?_
 rw [zFk,h.2,h'.2]
theorem je {l:List Int}{i:Nat}{x:Int}(h: ∀ j,B4 (l.getD j 0))(hx:B4 x): ∀ j,B4 ((l.set i x).getD j 0):=by
 intro j
 by_cases e:i=j
 ·subst e
  by_cases h2:i<l.length
  ·rw [Lp h2];exact hx
  ·rw [List.set_eq_of_length_le (by omega)];exact h i
 ·rw [getD_set_ne e];exact h j
theorem yP {n ln:Nat}{cell ss:Int}{l':List Int}(h:Dn n cell ss c q pos ln lost=some l')(hi: ∀ j,B4 (lost.getD j 0)): ∀ j,B4 (l'.getD j 0):=by
 unfold Dn bY at h;split at h
 ·cases h;exact je hi (HO _ _ _)
 ·cases h
theorem xS {n ln:Nat}{cell:Int}{l':List Int}(h:Gy n cell c q pos ln lost=some l')(hi: ∀ j,B4 (lost.getD j 0)): ∀ j,B4 (l'.getD j 0):=by
 unfold Gy bF at h;split at h
 ·cases h;exact je hi (HO _ _ _)
 ·cases h
def I5 (c:AB):Prop:=c.runs.length<=256/\ ∀ j,j<c.runs.length -> c.runs.getD j 0<=256
structure Nj (c:AB)(d l:Int):Prop where
 d0:0<=d
 d1:d<=(c.runs.length:Int)
 l0:0<=l
 open' : 0 < l -> d < (c.runs.length : Int) /\ l <= c.runs.getD d.toNat 0
def nx (c:AB)(d l:Int)(inn:Bool):Option (Int×Int):= bif inn then (if d<(c.runs.length:Int)/\ l<c.runs.getD d.toNat 0 then some (d,l+1) else none) else (if l=0 then some (d,0) else if l=c.runs.getD d.toNat 0 then some (d+1,0) else none)
theorem xb {d l:Int}{inn:Bool}{t:Int×Int}(h:Nj c d l)(e:nx c d l inn=some t):Nj c t.1 t.2:=by
 obtain ⟨h1,h2,h3,h4⟩:=h;unfold nx at e;cases inn
 ·rw [zAC] at e;split at e
  ·cases e;exact ⟨h1,h2,zFZ _,fun h=>absurd h (Int.lt_irrefl _)⟩
  ·split at e
   ·cases e;have:=h4 (by omega);exact ⟨by show 0<=d+1;omega,by show d+1<=_;omega,zFZ _,fun h=>absurd h (Int.lt_irrefl _)⟩
   ·cases e
 ·rw [zAK] at e;split at e
  ·rename_i h5;cases e;exact ⟨h1,h2,by show 0<=l+1;omega,fun _=>⟨h5.1,by show l+1<=c.runs.getD d.toNat 0;omega⟩⟩
  ·cases e
theorem Xe {n ln:Nat}{d l:Int}{inn:Bool}(R:I5 c)(h:Nj c d l): ∃ t,UG n (d,l) inn c q pos ln lost=some (t,(nx c d l inn).isSome,lost)/\ ∀ u,nx c d l inn=some u -> t=u:=by
 obtain ⟨h1,h2,h3,h4⟩:=h;obtain ⟨hr,hv⟩:=R
 have hl:l<=256:=by
  by_cases h0:0<l
  ·obtain ⟨a1,a2⟩:=h4 h0;have:=hv d.toNat (by omega);omega
  ·omega
 unfold UG mD nx;cases inn
 ·rw [zAC,zAC]
  by_cases h0:l=0
  ·subst h0;refine ⟨(d,0),by simp,fun u hu=>by simpa using hu⟩
  ·obtain ⟨a1,a2⟩:=h4 (by omega);have e0:(l==0)=false:=by simpa using h0
   simp only [e0,zAC,zAY h0];rw [zAA ⟨Aw.2 ⟨by omega,by omega⟩,h1,a1⟩];refine ⟨(d+1,0),?_,fun u hu=>?_⟩
   ·by_cases h5:l=c.runs.getD d.toNat 0
    ·rw [zAA h5,←h5];simp
    ·rw [zAY h5];simpa using h5
   ·split at hu
    ·cases hu;rfl
    ·cases hu
 ·rw [zAK,zAK,zAA (Aw.2 ⟨by show _<=l+1;omega,by show l+1<=_;omega⟩)]
  by_cases h5:d<(c.runs.length:Int)
  ·simp only [zAU h5,zAK];rw [zAA ⟨h1,h5⟩];refine ⟨(d,l+1),?_,fun u hu=>?_⟩
   ·by_cases h6:l<c.runs.getD d.toNat 0
    ·rw [zAA ⟨h5,h6⟩,zAU h6];rfl
    ·rw [zAY fun h=>h6 h.2,zAI h6];rfl
   ·split at hu
    ·cases hu;rfl
    ·cases hu
  ·simp only [zAI h5,zAC];refine ⟨(d,l+1),?_,fun u hu=>?_⟩
   ·rw [zAY fun h=>h5 h.1];rfl
   ·rw [zAY fun h=>h5 h.1] at hu;cases hu
def kd (c:AB)(pos:List Int)(i:Nat)(inn:Bool):Bool:=bif inn then (bits .and .i64 (Ab c pos i) c.set != 0) else (bits .andNot .i64 (Ab c pos i) c.set != 0)
theorem Xr {n:Nat}{i:Nat}{inn:Bool}(W:CI c k pos)(hi:i<c.cells.length):UT n (i:Int) inn c q pos pos.length lost=some (kd c pos i inn,lost):=by
 have hc:=W.cells i hi;unfold UT mh kd;simp only [zAP];cases inn
 ·rw [zAC,zAA ⟨⟨by omega,by omega⟩,hc⟩];rfl
 ·rw [zAK,zAA ⟨⟨by omega,by omega⟩,hc⟩];rfl
def Fj (c:AB)(pos:List Int):Nat -> Int×Int -> Prop
 | 0,t=>t=(0,0)
 | i+1,t=>∃ s inn,Fj c pos i s/\ nx c s.1 s.2 inn=some t/\ kd c pos i inn=true
theorem Fj.ok (i:Nat): ∀ {t:Int×Int},Fj c pos i t -> Nj c t.1 t.2:=by
 induction i with
 | zero=>
  intro t h;obtain rfl:t=(0,0):=h;exact ⟨zFZ _,by show (0:Int)<=_;omega,zFZ _,fun h=>absurd h (Int.lt_irrefl _)⟩
 | succ i ih=>
  rintro t ⟨s,inn,h1,h2,_⟩;exact xb (ih h1) h2
def zFb (c:AB)(t:Int×Int):Prop:=t=((c.runs.length:Int),0)∨(0<c.runs.length/\ t=((c.runs.length:Int)-1,c.runs.getD (c.runs.length-1) 0))
def Jv (c:AB)(pos:List Int):Nat -> Int×Int -> Prop
 | 0,t=>zFb c t
 | m+1,s=>Fj c pos (c.cells.length-1-m) s/\ ∃ t inn,nx c s.1 s.2 inn=some t/\ kd c pos (c.cells.length-1-m) inn=true/\ Jv c pos m t
def Lt (c:AB)(pos:List Int)(i:Nat)(inn:Bool):Prop:=∃ s t,Fj c pos i s/\ nx c s.1 s.2 inn=some t/\ kd c pos i inn=true/\ Jv c pos (c.cells.length-1-i) t
def K3 (c:AB)(pos:List Int)(a s:Nat):Prop:=(¬ Lt c pos a true/\ tb c.set s=true)∨(¬ Lt c pos a false/\ tb c.set s=false)
def EI (c:AB)(pos:List Int)(i:Nat)(o4:KS)(d l:Int)(inn:Bool):Bool:=match nx c d l inn with
 | some t=>kd c pos i inn&&o4.contains [t.1,t.2]
 | none=>false
theorem yq {n i oi:Nat}{o1:List Int}{o3:List (Option KS)}{o4 o5 o8:KS}{b0 b1:Bool}{d l:Int}{JR:List Int}(W:CI c k pos)(R:I5 c)(hi:i<c.cells.length)(h:Nj c d l):
 BJ c q pos pos.length lost (n+1) (.l7 i 0 o1 o3 oi o4 o5 b0 b1 d l o8 JR)=BJ c q pos pos.length lost n (.l7 i 1 o1 o3 oi o4 (bif EI c pos i o4 d l false then CP [d,l] o5 else o5) (b0||EI c pos i o4 d l false) b1 d l o8 JR):=by
 obtain ⟨t,e1,e2⟩:=Xe (n:=n) (ln:=pos.length) (pos:=pos) (lost:=o1) (q:=q) (inn:=false) R h;have b:([false,true]:List Bool).getD (0+((0:Int)).toNat) false=false:=rfl;have r:AH ((0:Int)+1):=Aw.2 ⟨by decide,by decide⟩
 show OE n (BJ c q pos pos.length lost n) c q pos pos.length lost i 0 o1 o3 oi o4 o5 b0 b1 d l o8 JR=_
 unfold OE EI;rw [zAU (by decide),zAK,zAA ⟨⟨by decide,by decide⟩,by decide⟩,b,e1,zAB];cases hn:nx c d l false with
 | none=>simp only [zG1,zAC,zAA r,zFs];rfl
 | some u=>
  obtain rfl:=e2 u hn;simp only [zG2,zAK];rw [Xr W hi,zAB];cases hk:kd c pos i false
  ·simp only [zAC,zAA r,zFu,zFs];rfl
  ·simp only [zAK,zCj];cases hc:o4.contains [t.1,t.2]
   ·simp only [zAC,zAA r,zFs];rfl
   ·have z:((0:Int)==0)=true:=rfl;simp only [zAK,z,zAA r,Bool.or_true];rfl
theorem yp {n i oi:Nat}{o1:List Int}{o3:List (Option KS)}{o4 o5 o8:KS}{b0 b1:Bool}{d l:Int}{JR:List Int}(W:CI c k pos)(R:I5 c)(hi:i<c.cells.length)(h:Nj c d l):
 BJ c q pos pos.length lost (n+1) (.l7 i 1 o1 o3 oi o4 o5 b0 b1 d l o8 JR)=BJ c q pos pos.length lost n (.l7 i 2 o1 o3 oi o4 (bif EI c pos i o4 d l true then CP [d,l] o5 else o5) b0 (b1||EI c pos i o4 d l true) d l o8 JR):=by
 obtain ⟨t,e1,e2⟩:=Xe (n:=n) (ln:=pos.length) (pos:=pos) (lost:=o1) (q:=q) (inn:=true) R h;have b:([false,true]:List Bool).getD (0+((1:Int)).toNat) false=true:=rfl;have r:AH ((1:Int)+1):=Aw.2 ⟨by decide,by decide⟩
 show OE n (BJ c q pos pos.length lost n) c q pos pos.length lost i 1 o1 o3 oi o4 o5 b0 b1 d l o8 JR=_
 unfold OE EI;rw [zAU (by decide),zAK,zAA ⟨⟨by decide,by decide⟩,by decide⟩,b,e1,zAB];cases hn:nx c d l true with
 | none=>simp only [zG1,zAC,zAA r,zFs];rfl
 | some u=>
  obtain rfl:=e2 u hn;simp only [zG2,zAK];rw [Xr W hi,zAB];cases hk:kd c pos i true
  ·simp only [zAC,zAA r,zFu,zFs];rfl
  ·simp only [zAK,zCj];cases hc:o4.contains [t.1,t.2]
   ·simp only [zAC,zAA r,zFs];rfl
   ·have z:((1:Int)==0)=false:=rfl;have z1:((1:Int)==1)=true:=rfl;simp only [zAK,zAC,z,z1,zAA r,Bool.or_true];rfl
theorem yo {n i oi:Nat}{o1:List Int}{o3:List (Option KS)}{o4 o5 o8:KS}{b0 b1:Bool}{d l:Int}{JR:List Int}:
 BJ c q pos pos.length lost (n+1) (.l7 i 2 o1 o3 oi o4 o5 b0 b1 d l o8 JR)=BJ c q pos pos.length lost n (.l9 i o1 o3 oi o4 o5 b0 b1 o8 JR):=by
 show OE n (BJ c q pos pos.length lost n) c q pos pos.length lost i 2 o1 o3 oi o4 o5 b0 b1 d l o8 JR=_
 unfold OE;rw [zAI (by decide),zAC]
def FW (c:AB)(pos:List Int)(i:Nat)(o3:List (Option KS))(d l:Int)(inn:Bool):List (Option KS):=match nx c d l inn with
 | some t=>bif kd c pos i inn then o3.set (i+1) (some (CP [t.1,t.2] ((o3.getD (i+1) none).getD []))) else o3
 | none=>o3
theorem yv {n i:Nat}{o1:List Int}{o3:List (Option KS)}{o5:KS}{d l:Int}{Ft:List Int}{Ao:Int}(W:CI c k pos)(R:I5 c)(hi:i<c.cells.length)(h:Nj c d l)(h3:i+1<o3.length)(hs:(o3.getD (i+1) none).isSome=true):
 BJ c q pos pos.length lost (n+1) (.l5 i Ao 0 o1 o3 i d l o5 Ft)=BJ c q pos pos.length lost n (.l5 i Ao 1 o1 (FW c pos i o3 d l false) i d l o5 Ft):=by
 obtain ⟨t,e1,e2⟩:=Xe (n:=n) (ln:=pos.length) (pos:=pos) (lost:=o1) (q:=q) (inn:=false) R h;have b:([false,true]:List Bool).getD (0+((0:Int)).toNat) false=false:=rfl;have r:AH ((0:Int)+1):=Aw.2 ⟨by decide,by decide⟩;have Af:=W.len;have t1:((((c.cells.length:Nat):Int)+1).toNat:Nat)=c.cells.length+1:=by omega
 have t2:0+(((i:Int)+1).toNat:Nat)=i+1:=by omega
 show OG n (BJ c q pos pos.length lost n) c q pos pos.length lost i Ao 0 o1 o3 i d l o5 Ft=_
 unfold OG FW;rw [zAU (by decide),zAK,zAA ⟨⟨by decide,by decide⟩,by decide⟩,b,e1,zAB];cases hn:nx c d l false with
 | none=>simp only [zG1,zAC,zAA r];rfl
 | some u=>
  obtain rfl:=e2 u hn;simp only [zG2,zAK];rw [Xr W hi,zAB];cases hk:kd c pos i false
  ·simp only [zAC,zAA r];rfl
  ·simp only [zAK,t1,t2];rw [zAA ⟨Aw.2 ⟨by omega,by omega⟩,⟨by omega,by omega⟩,h3,by omega,hs,r⟩];rfl
theorem yu {n i:Nat}{o1:List Int}{o3:List (Option KS)}{o5:KS}{d l:Int}{Ft:List Int}{Ao:Int}(W:CI c k pos)(R:I5 c)(hi:i<c.cells.length)(h:Nj c d l)(h3:i+1<o3.length)(hs:(o3.getD (i+1) none).isSome=true):
 BJ c q pos pos.length lost (n+1) (.l5 i Ao 1 o1 o3 i d l o5 Ft)=BJ c q pos pos.length lost n (.l5 i Ao 2 o1 (FW c pos i o3 d l true) i d l o5 Ft):=by
 obtain ⟨t,e1,e2⟩:=Xe (n:=n) (ln:=pos.length) (pos:=pos) (lost:=o1) (q:=q) (inn:=true) R h;have b:([false,true]:List Bool).getD (0+((1:Int)).toNat) false=true:=rfl;have r:AH ((1:Int)+1):=Aw.2 ⟨by decide,by decide⟩;have Af:=W.len;have t1:((((c.cells.length:Nat):Int)+1).toNat:Nat)=c.cells.length+1:=by omega
 have t2:0+(((i:Int)+1).toNat:Nat)=i+1:=by omega
 show OG n (BJ c q pos pos.length lost n) c q pos pos.length lost i Ao 1 o1 o3 i d l o5 Ft=_
 unfold OG FW;rw [zAU (by decide),zAK,zAA ⟨⟨by decide,by decide⟩,by decide⟩,b,e1,zAB];cases hn:nx c d l true with
 | none=>simp only [zG1,zAC,zAA r];rfl
 | some u=>
  obtain rfl:=e2 u hn;simp only [zG2,zAK];rw [Xr W hi,zAB];cases hk:kd c pos i true
  ·simp only [zAC,zAA r];rfl
  ·simp only [zAK,t1,t2];rw [zAA ⟨Aw.2 ⟨by omega,by omega⟩,⟨by omega,by omega⟩,h3,by omega,hs,r⟩];rfl
theorem yt {n i:Nat}{o1:List Int}{o3:List (Option KS)}{o5:KS}{d l:Int}{Ft:List Int}{Ao:Int}:
 BJ c q pos pos.length lost (n+1) (.l5 i Ao 2 o1 o3 i d l o5 Ft)=BJ c q pos pos.length lost n (.l8 i Ao o1 o3 i o5 Ft):=by
 show OG n (BJ c q pos pos.length lost n) c q pos pos.length lost i Ao 2 o1 o3 i d l o5 Ft=_
 unfold OG;rw [zAI (by decide),zAC]
def GI (o3:List (Option KS))(j:Nat):KS:=(o3.getD j none).getD []
theorem W9 {i:Nat}{o3:List (Option KS)}{d l:Int}{inn:Bool}:(FW c pos i o3 d l inn).length=o3.length:=by
 unfold FW;split
 ·cases kd c pos i inn
  ·rfl
  ·rw [zAK,zCG]
 ·rfl
theorem Yj {α:Type}{l:List α}{i:Nat}{x y:α}(h:i<l.length):(l.set i x).getD i y=x:=by
 rw [u8,zFj h];rfl
theorem eG {α:Type}{l:List α}{i j:Nat}{x y:α}(h:i≠j):(l.set i x).getD j y=l.getD j y:=by
 rw [u8,zFU h,←u8]
theorem af {i j:Nat}{o3:List (Option KS)}{d l:Int}{inn:Bool}(h:j≠i+1):(FW c pos i o3 d l inn).getD j none=o3.getD j none:=by
 unfold FW;split
 ·cases kd c pos i inn
  ·rfl
  ·rw [zAK,eG (fun e=>h e.symm)]
 ·rfl
theorem ah {i:Nat}{o3:List (Option KS)}{d l:Int}{inn:Bool}(hl:i+1<o3.length){j:Nat}(h:(o3.getD j none).isSome=true):((FW c pos i o3 d l inn).getD j none).isSome=true:=by
 by_cases e:j=i+1
 ·subst e;unfold FW;split
  ·cases kd c pos i inn
   ·exact h
   ·rw [zAK,Yj hl];rfl
  ·exact h
 ·rw [af e];exact h
theorem Qw {i:Nat}{o3:List (Option KS)}{d l:Int}{inn:Bool}(hl:i+1<o3.length){x:List Int}:x∈GI (FW c pos i o3 d l inn) (i+1)↔x∈GI o3 (i+1)∨∃ t,nx c d l inn=some t/\ kd c pos i inn=true/\ x= [t.1,t.2]:=by
 unfold FW;split
 ·rename_i t ht;cases hk:kd c pos i inn
  ·rw [zAC];exact ⟨.inl,fun h=>h.elim id fun ⟨_,_,h,_⟩=>by cases h⟩
  ·rw [zAK];unfold GI;rw [Yj hl]
   show x∈CP _ _↔_
   rw [Ok];constructor
   ·rintro (h | h)
    ·exact .inr ⟨t,ht,rfl,h⟩
    ·exact .inl h
   ·rintro (h | ⟨u,hu,_,h⟩)
    ·exact .inr h
    ·rw [ht] at hu;cases hu;exact .inl h
 ·rename_i hn;exact ⟨.inl,fun h=>h.elim id fun ⟨_,h,_⟩=>by rw [hn] at h;cases h⟩
structure Rows (c:AB)(pos:List Int)(i:Nat)(o3:List (Option KS)):Prop where
 len:o3.length=c.cells.length+1
 isSome: ∀ j,j<=c.cells.length -> (o3.getD j none).isSome=true
 row: ∀ j,j<=i -> ∀ x,x∈GI o3 j↔∃ t:Int×Int,x= [t.1,t.2]/\ Fj c pos j t
 rest: ∀ j,i<j -> j<=c.cells.length -> GI o3 j= []
structure P5 (c:AB)(pos:List Int)(i:Nat)(rem:KS)(o3:List (Option KS)):Prop where
 hi:i<c.cells.length
 len:o3.length=c.cells.length+1
 isSome: ∀ j,j<=c.cells.length -> (o3.getD j none).isSome=true
 row: ∀ j,j<=i -> ∀ x,x∈GI o3 j↔∃ t:Int×Int,x= [t.1,t.2]/\ Fj c pos j t
 rest: ∀ j,i+1<j -> j<=c.cells.length -> GI o3 j= []
 sub: ∀ x∈rem,∃ t:Int×Int,x= [t.1,t.2]/\ Fj c pos i t
 next: ∀ x∈GI o3 (i+1),∃ t:Int×Int,x= [t.1,t.2]/\ Fj c pos (i+1) t
 cov: ∀ t,Fj c pos i t -> [t.1,t.2]∈rem∨∀ inn u,nx c t.1 t.2 inn=some u -> kd c pos i inn=true -> [u.1,u.2]∈GI o3 (i+1)
theorem Rows.mid {i:Nat}{o3:List (Option KS)}(h:Rows c pos i o3)(hi:i<c.cells.length):P5 c pos i (GI o3 i) o3 where
 hi:=hi
 len:=h.len
 isSome:=h.isSome
 row:=h.row
 rest:=fun j hj hl=>h.rest j (by omega) hl
 sub:=fun x hx=>(h.row i (zBl _) x).1 hx
 next:=fun x hx=>by rw [h.rest (i+1) (by omega) (by omega)] at hx;cases hx
 cov:=fun t ht=>.inl ((h.row i (zBl _) _).2 ⟨t,rfl,ht⟩)
theorem P5.rows {i:Nat}{o3:List (Option KS)}(h:P5 c pos i [] o3):Rows c pos (i+1) o3 where
 len:=h.len
 isSome:=h.isSome
 row:=fun j hj x=>by
  rcases zBj.1 (Nat.lt_succ_of_le hj) with hj | rfl
  ·exact h.row j (by omega) x
  ·refine ⟨h.next x,?_⟩;rintro ⟨t,rfl,s,inn,h1,h2,h3⟩;rcases h.cov s h1 with h4 | h4
   ·cases h4
   ·exact h4 inn t h2 h3
 rest:=h.rest
theorem T0 {t u:Int×Int}(h:([t.1,t.2]:List Int)= [u.1,u.2]):t=u:=by
 obtain ⟨a,b⟩:=t;obtain ⟨a',b'⟩:=u;simp only [List.cons.injEq,and_true] at h;rw [h.1,h.2]
theorem P5.go {i:Nat}{o3:List (Option KS)}{rem:KS}{t:Int×Int}(h:P5 c pos i rem o3)(ht: [t.1,t.2]∈rem):P5 c pos i (rem.erase [t.1,t.2]) (FW c pos i (FW c pos i o3 t.1 t.2 false) t.1 t.2 true):=by
 have hl:=h.len;have hi:=h.hi;have h1:i+1<o3.length:=by omega
 have h2:i+1<(FW c pos i o3 t.1 t.2 false).length:=by rw [W9];exact h1
 have AR: ∀ j,j≠i+1 -> GI (FW c pos i (FW c pos i o3 t.1 t.2 false) t.1 t.2 true) j=GI o3 j:=fun j hj=>by
  unfold GI;rw [af hj,af hj]
 have hR:Fj c pos i t:=by
  obtain ⟨u,e,hu⟩:=h.sub _ ht;rw [T0 e];exact hu
 refine ⟨hi,by rw [W9,W9];exact hl,fun j hj=>ah h2 (ah h1 (h.isSome j hj)),fun j hj x=>?_,fun j hj Ur=>?_,fun x hx=>h.sub x (zHH hx),fun x hx=>?_,fun s hs=>?_⟩
 ·rw [AR j (by omega)];exact h.row j hj x
 ·rw [AR j (by omega)];exact h.rest j hj Ur
 ·rw [Qw h2,Qw h1] at hx;rcases hx with (hx | ⟨u,e1,e2,rfl⟩) | ⟨u,e1,e2,rfl⟩
  ·exact h.next x hx
  ·exact ⟨u,rfl,t,false,hR,e1,e2⟩
  ·exact ⟨u,rfl,t,true,hR,e1,e2⟩
 ·by_cases e:s=t
  ·subst e;refine .inr fun inn u h3 h4=>?_
   rw [Qw h2,Qw h1];cases inn
   ·exact .inl (.inr ⟨u,h3,h4,rfl⟩)
   ·exact .inr ⟨u,h3,h4,rfl⟩
  ·rcases h.cov s hs with h3 | h3
   ·exact .inl ((List.mem_erase_of_ne (fun e2=>e (T0 e2))).2 h3)
   ·refine .inr fun inn u h4 h5=>?_
    rw [Qw h2,Qw h1];exact .inl (.inl (h3 inn u h4 h5))
def ID (c:AB)(pos lost:List Int)(r:Bool×List Int):Prop:=r.1=true/\ B5 c pos lost c.cells.length (K3 c pos) r.2/\ ∀ j,B4 (r.2.getD j 0)
theorem ID.uniq (r r':Bool×List Int)(h:ID c pos lost r)(h':ID c pos lost r'):r=r':=by
 obtain ⟨b,l⟩:=r;obtain ⟨b',l'⟩:=r';obtain ⟨h1,h2,h3⟩:=h;obtain ⟨h4,h5,h6⟩:=h';have e1:b=true:=h1;have e2:b'=true:=h4;have e3:l=l':=B5.unique h2 h5 h3 h6;rw [e1,e2,e3]
theorem yF {i:Nat}{o1:List Int}{Ao:Int}(W:CI c k pos)(R:I5 c)(hx:Ao=(i:Int))(H: ∀ o3,Rows c pos (i+1) o3 -> Ai (fun n=>BJ c q pos pos.length lost n (.l2 (Ao+1) o1 o3)) (ID c pos lost)):
 ∀ (m:Nat) (rem:KS) (o3:List (Option KS)) (Ft:List Int),rem.length=m -> P5 c pos i rem o3 -> Ai (fun n=>BJ c q pos pos.length lost n (.l8 i Ao o1 o3 i rem Ft)) (ID c pos lost):=by
 intro m
 induction m with
 | zero=>
  intro rem o3 Ft hm hM;have:rem= []:=zDe hm;subst this;have hs:=hM.isSome i (by have:=hM.hi;omega);have r1:AH (Ao+1):=by rw [hx];exact (W.r64 hM.hi).2
  refine Ai.step 1 (fun n=>?_) (H o3 hM.rows)
  show TR n (BJ c q pos pos.length lost n) c q pos pos.length lost i Ao o1 o3 i [] Ft=_
  unfold TR;rw [zAA hs,lv,zAA r1]
 | succ m ih=>
  intro rem o3 Ft hm hM;have hs:=hM.isSome i (by have:=hM.hi;omega);have AR:rem≠[]:=by intro e;rw [e] at hm;cases hm
  refine Ai.step 1 (g:=fun n=>IV rem (if AH (Ao+1) then BJ c q pos pos.length lost n (.l2 (Ao+1) o1 o3) else none) (fun y1=>BJ c q pos pos.length lost n (.l5 i Ao 0 o1 o3 i (y1.getD 0 0) (y1.getD 1 0) (rem.erase y1) y1))) (fun n=>?_) (Ai.next AR (fun y hy=>?_) ID.uniq)
  ·show TR n (BJ c q pos pos.length lost n) c q pos pos.length lost i Ao o1 o3 i rem Ft=_
   unfold TR;rw [zAA hs];simp only [zAA hs]
  ·obtain ⟨t,rfl,ht⟩:=hM.sub y hy;have hS:=ht.ok;have hl:=hM.len;have hi:=hM.hi;have h1:i+1<o3.length:=by omega
   have s1:=hM.isSome (i+1) (by omega);have h2:i+1<(FW c pos i o3 t.1 t.2 false).length:=by rw [W9];exact h1
   have s2:=ah (c:=c) (pos:=pos) (d:=t.1) (l:=t.2) (inn:=false) h1 s1;refine Ai.step 3 (fun n=>?_) (ih _ _ [t.1,t.2] (by rw [zGv hy];omega) (hM.go hy))
   show BJ c q pos pos.length lost (n+2+1) (.l5 i Ao 0 o1 o3 i t.1 t.2 (rem.erase [t.1,t.2]) [t.1,t.2])=_
   rw [yv W R hM.hi hS h1 s1,yu W R hM.hi hS h2 s2,yt]
def SW (c:AB)(pos:List Int)(m:Nat)(o4:KS):Prop:=∀ x,x∈o4↔∃ t:Int×Int,x= [t.1,t.2]/\ Jv c pos m t
def Nm (c:AB)(pos lost:List Int)(m:Nat)(o1:List Int):Prop:=B5 c pos lost c.cells.length (fun a s=>c.cells.length<=a+m/\ K3 c pos a s) o1/\ ∀ j,B4 (o1.getD j 0)
structure Bk (c:AB)(pos:List Int)(i m:Nat)(o5:KS)(b0 b1:Bool)(rem:KS):Prop where
 hi:i+m+1=c.cells.length
 sub: ∀ x∈rem,∃ t:Int×Int,x= [t.1,t.2]/\ Fj c pos i t
 o5s: ∀ x∈o5,∃ t:Int×Int,x= [t.1,t.2]/\ Jv c pos (m+1) t
 b0s:b0=true -> Lt c pos i false
 b1s:b1=true -> Lt c pos i true
 cov: ∀ t,Fj c pos i t -> [t.1,t.2]∈rem∨∀ inn u,nx c t.1 t.2 inn=some u -> kd c pos i inn=true -> Jv c pos m u -> [t.1,t.2]∈o5/\ (bif inn then b1 else b0)=true
theorem bG {i m:Nat}{o4:KS}{d l:Int}{inn:Bool}(h:SW c pos m o4):EI c pos i o4 d l inn=true↔∃ u,nx c d l inn=some u/\ kd c pos i inn=true/\ Jv c pos m u:=by
 unfold EI;split
 ·rename_i t ht;rw [zAO,zGO,h];constructor
  ·rintro ⟨h1,u,h2,h3⟩;exact ⟨t,ht,h1,by rw [T0 h2];exact h3⟩
  ·rintro ⟨u,h1,h2,h3⟩;rw [ht] at h1;cases h1;exact ⟨h2,t,rfl,h3⟩
 ·rename_i hn;exact ⟨fun h=>(by cases h),fun ⟨u,h,_⟩=>by rw [hn] at h;cases h⟩
theorem Bk.go {i m:Nat}{o4 o5 rem:KS}{b0 b1:Bool}{t:Int×Int}(hE:SW c pos m o4)(h:Bk c pos i m o5 b0 b1 rem)(ht: [t.1,t.2]∈rem):
 Bk c pos i m (bif EI c pos i o4 t.1 t.2 true then CP [t.1,t.2] (bif EI c pos i o4 t.1 t.2 false then CP [t.1,t.2] o5 else o5) else (bif EI c pos i o4 t.1 t.2 false then CP [t.1,t.2] o5 else o5)) (b0||EI c pos i o4 t.1 t.2 false) (b1||EI c pos i o4 t.1 t.2 true) (rem.erase [t.1,t.2]):=by
 have hR:Fj c pos i t:=by
  obtain ⟨u,e,hu⟩:=h.sub _ ht;rw [T0 e];exact hu
 have ei:c.cells.length-1-i=m:=by have:=h.hi;omega
 have em:c.cells.length-1-m=i:=by have:=h.hi;omega
 have n9: ∀ inn,EI c pos i o4 t.1 t.2 inn=true -> Lt c pos i inn:=fun inn ho=>by
  obtain ⟨u,h1,h2,h3⟩:=(bG hE).1 ho;exact ⟨t,u,hR,h1,h2,by rw [ei];exact h3⟩
 have nh: ∀ inn,EI c pos i o4 t.1 t.2 inn=true -> Jv c pos (m+1) t:=fun inn ho=>by
  obtain ⟨u,h1,h2,h3⟩:=(bG hE).1 ho
  show Fj c pos (c.cells.length-1-m) t/\ ∃ u inn,nx c t.1 t.2 inn=some u/\ kd c pos (c.cells.length-1-m) inn=true/\ Jv c pos m u
  rw [em];exact ⟨hR,u,inn,h1,h2,h3⟩
 have mem: ∀ x,x∈(bif EI c pos i o4 t.1 t.2 true then CP [t.1,t.2] (bif EI c pos i o4 t.1 t.2 false then CP [t.1,t.2] o5 else o5) else (bif EI c pos i o4 t.1 t.2 false then CP [t.1,t.2] o5 else o5))↔x∈o5∨(x= [t.1,t.2]/\ (EI c pos i o4 t.1 t.2 true=true∨EI c pos i o4 t.1 t.2 false=true)):=fun x=>by
  cases EI c pos i o4 t.1 t.2 true <;> cases EI c pos i o4 t.1 t.2 false <;> simp only [zAK,zAC,Ok,zCZ,or_false,and_false,or_true,true_or,and_true]
  ·exact Or.comm
  ·exact Or.comm
  ·exact ⟨fun h=>h.elim .inr fun h=>h.elim .inr .inl,fun h=>h.elim (fun h=>.inr (.inr h)) .inl⟩
 refine ⟨h.hi,fun x hx=>h.sub x (zHH hx),fun x hx=>?_,fun hb=>?_,fun hb=>?_,fun s hs=>?_⟩
 ·rcases (mem x).1 hx with hx | ⟨rfl,h1 | h1⟩
  ·exact h.o5s x hx
  ·exact ⟨t,rfl,nh _ h1⟩
  ·exact ⟨t,rfl,nh _ h1⟩
 ·rcases Bool.or_eq_true_iff.1 hb with hb | hb
  ·exact h.b0s hb
  ·exact n9 _ hb
 ·rcases Bool.or_eq_true_iff.1 hb with hb | hb
  ·exact h.b1s hb
  ·exact n9 _ hb
 ·by_cases e:s=t
  ·subst e;refine .inr fun inn u h1 h2 h3=>?_
   have ho:EI c pos i o4 s.1 s.2 inn=true:=(bG hE).2 ⟨u,h1,h2,h3⟩;rw [mem];cases inn
   ·exact ⟨.inr ⟨rfl,.inr ho⟩,by rw [zAC,ho,Bool.or_true]⟩
   ·exact ⟨.inr ⟨rfl,.inl ho⟩,by rw [zAK,ho,Bool.or_true]⟩
  ·rcases h.cov s hs with h3 | h3
   ·exact .inl ((List.mem_erase_of_ne (fun e2=>e (T0 e2))).2 h3)
   ·refine .inr fun inn u h4 h5 h6=>?_
    obtain ⟨h7,h8⟩:=h3 inn u h4 h5 h6;rw [mem];refine ⟨.inl h7,?_⟩;cases inn
    ·rw [zAC] at h8 ⊢;rw [h8];rfl
    ·rw [zAK] at h8 ⊢;rw [h8];rfl
theorem Bk.end' {i m:Nat}{o5:KS}{b0 b1:Bool}(h:Bk c pos i m o5 b0 b1 []):SW c pos (m+1) o5/\ (b0=true↔Lt c pos i false)/\ (b1=true↔Lt c pos i true):=by
 have ei:c.cells.length-1-i=m:=by have:=h.hi;omega
 have em:c.cells.length-1-m=i:=by have:=h.hi;omega
 refine ⟨fun x=>⟨h.o5s x,?_⟩,⟨h.b0s,?_⟩,⟨h.b1s,?_⟩⟩
 ·rintro ⟨t,rfl,h1⟩;have h1:Fj c pos (c.cells.length-1-m) t/\ ∃ u inn,nx c t.1 t.2 inn=some u/\ kd c pos (c.cells.length-1-m) inn=true/\ Jv c pos m u:=h1;rw [em] at h1;obtain ⟨h1,u,inn,h2,h3,h4⟩:=h1;rcases h.cov t h1 with h5 | h5
  ·cases h5
  ·exact (h5 inn u h2 h3 h4).1
 ·rintro ⟨s,t,h1,h2,h3,h4⟩;rw [ei] at h4;rcases h.cov s h1 with h5 | h5
  ·cases h5
  ·exact (h5 false t h2 h3 h4).2
 ·rintro ⟨s,t,h1,h2,h3,h4⟩;rw [ei] at h4;rcases h.cov s h1 with h5 | h5
  ·cases h5
  ·exact (h5 true t h2 h3 h4).2
theorem mV {cell ss:Int}(h0:0<=cell)(h1:cell<(pos.length:Int))(hl:lost.length=pos.length)(hi: ∀ j,B4 (lost.getD j 0)):
 ∃ l',(∀ n,Dn n cell ss c q pos pos.length lost=some l')/\ l'.length=pos.length/\ (∀ j,B4 (l'.getD j 0))/\ ∀ j s,tb (l'.getD j 0) s=(tb (lost.getD j 0) s||(decide (j=cell.toNat)&&(tb (pos.getD j 0) s&&tb ss s))):=by
 obtain ⟨l',e,h2,h3⟩:=LP (n:=0) (ss:=ss) (c:=c) (q:=q) h0 h1 hl;exact ⟨l',fun _=>e,h2,yP e hi,h3⟩
theorem bE {cell:Int}(h0:0<=cell)(h1:cell<(pos.length:Int))(hl:lost.length=pos.length)(hi: ∀ j,B4 (lost.getD j 0)):
 ∃ l',(∀ n,Gy n cell c q pos pos.length lost=some l')/\ l'.length=pos.length/\ (∀ j,B4 (l'.getD j 0))/\ ∀ j s,tb (l'.getD j 0) s=(tb (lost.getD j 0) s||(decide (j=cell.toNat)&&(tb (pos.getD j 0) s&&!tb c.set s))):=by
 obtain ⟨l',e,h2,h3⟩:=bD (n:=0) (c:=c) (q:=q) h0 h1 hl;exact ⟨l',fun _=>e,h2,xS e hi,h3⟩
theorem Nm.go {i m:Nat}{o1 l':List Int}(h:Nm c pos lost m o1)(hi:i+m+1=c.cells.length)(hl:l'.length=pos.length)(B8: ∀ j,B4 (l'.getD j 0)) 
 (h1: ∀ j s,tb (l'.getD j 0) s=true↔tb (o1.getD j 0) s=true∨((c.cells.getD i 0).toNat=j/\ tb (Ab c pos i) s=true/\ K3 c pos i s)):Nm c pos lost (m+1) l':=by
 refine ⟨⟨hl,fun j s=>?_⟩,B8⟩;rw [h1,h.1.2];constructor
 ·rintro ((h | ⟨a,ha,h2,h3,h4,h5⟩) | h)
  ·exact .inl h
  ·exact .inr ⟨a,ha,h2,h3,by omega,h5⟩
  ·exact .inr ⟨i,by omega,h.1,h.2.1,by omega,h.2.2⟩
 ·rintro (h2 | ⟨a,ha,h2,h3,h4,h5⟩)
  ·exact .inl (.inl h2)
  ·by_cases e:c.cells.length<=a+m
   ·exact .inl (.inr ⟨a,ha,h2,h3,e,h5⟩)
   ·have:a=i:=by omega
    subst this;exact .inr ⟨h2,h3,h5⟩
theorem zEf {i m:Nat}{o1:List Int}{o3:List (Option KS)}{o4:KS}{AW:Int}(W:CI c k pos)(R:I5 c)(hx:AW=(i:Int))(hR:Rows c pos c.cells.length o3)(hE:SW c pos m o4)(hL:Nm c pos lost m o1) 
 (H: ∀ o1 o5,Nm c pos lost (m+1) o1 -> SW c pos (m+1) o5 -> Ai (fun n=>BJ c q pos pos.length lost n (.l4 (AW-1) o1 o3 o5)) (ID c pos lost)):
 ∀ (z:Nat) (rem o5:KS) (b0 b1:Bool) (Qp:List Int),rem.length=z -> Bk c pos i m o5 b0 b1 rem -> Ai (fun n=>BJ c q pos pos.length lost n (.l9 i o1 o3 i o4 o5 b0 b1 rem Qp)) (ID c pos lost):=by
 intro z
 induction z with
 | zero=>
  intro rem o5 b0 b1 Qp hm hB;have:rem= []:=zDe hm;subst this;obtain ⟨e5,e0,e1⟩:=hB.end';have hi:i<c.cells.length:=by have:=hB.hi;omega
  have hs:=hR.isSome i (by omega);have Af:=W.len;have r1:AH ((i:Int)-1):=Aw.2 ⟨by omega,by omega⟩;have hc:=W.cells i hi;have g0:(0:Int)<=(i:Int)/\ (i:Int)<((c.cells.length:Nat):Int):=⟨by omega,by omega⟩;obtain ⟨l1,f1,n1,i1,t1⟩:=mV (ss:=c.set) (c:=c) (q:=q) hc.1 hc.2 hL.1.1 hL.2;obtain ⟨l2,f2,n2,i2,t2⟩:=bE (c:=c) (q:=q) hc.1 hc.2 n1 i1;obtain ⟨l3,f3,n3,i3,t3⟩:=bE (c:=c) (q:=q) hc.1 hc.2 hL.1.1 hL.2
  have eq: ∀ n,BJ c q pos pos.length lost (n+1) (.l9 i o1 o3 i o4 o5 b0 b1 [] Qp)=BJ c q pos pos.length lost n (.l4 (i-1) (bif !b1 then (bif !b0 then l2 else l1) else (bif !b0 then l3 else o1)) o3 o5):=fun n=>by
   show TQ n (BJ c q pos pos.length lost n) c q pos pos.length lost i o1 o3 i o4 o5 b0 b1 [] Qp=_
   unfold TQ;rw [zAA hs,lv];simp only [zAP];cases b1 <;> cases b0 <;> simp only [zCa,zCX,zAK,zAC,zAA g0,f1,f2,f3,zAB,zAA r1]
  refine Ai.step 1 eq ?_
  have key: ∀ l':List Int,l'.length=pos.length -> (∀ j,B4 (l'.getD j 0)) -> (∀ j s,tb (l'.getD j 0) s=(tb (o1.getD j 0) s||(decide (j=(c.cells.getD i 0).toNat)&&(tb (pos.getD j 0) s&&((!b1&&tb c.set s)||(!b0&&!tb c.set s)))))) -> Nm c pos lost (m+1) l':=by
   intro l' h1 h2 h3;refine hL.go hB.hi h1 h2 fun j s=>?_
   rw [h3,zCL,zAO,zAO,zBq,zCL,zAO,zAO,zCg,zCg,zCg];unfold K3;rw [←e0,←e1,zGq,zGq];constructor
   ·rintro (h | ⟨rfl,h⟩)
    ·exact .inl h
    ·exact .inr ⟨rfl,h⟩
   ·rintro (h | ⟨rfl,h⟩)
    ·exact .inl h
    ·exact .inr ⟨rfl,h⟩
  subst hx;cases b1 <;> cases b0 <;> simp only [zCa,zCX,zAK,zAC]
  ·exact H l2 o5 (key l2 n2 i2 fun j s=>by
    rw [t2,t1];cases tb (o1.getD j 0) s <;> cases decide (j=(c.cells.getD i 0).toNat) <;> cases tb (pos.getD j 0) s <;> cases tb c.set s <;> rfl) e5
  ·exact H l1 o5 (key l1 n1 i1 fun j s=>by
    rw [t1];cases tb (o1.getD j 0) s <;> cases decide (j=(c.cells.getD i 0).toNat) <;> cases tb (pos.getD j 0) s <;> cases tb c.set s <;> rfl) e5
  ·exact H l3 o5 (key l3 n3 i3 fun j s=>by
    rw [t3];cases tb (o1.getD j 0) s <;> cases decide (j=(c.cells.getD i 0).toNat) <;> cases tb (pos.getD j 0) s <;> cases tb c.set s <;> rfl) e5
  ·exact H o1 o5 (key o1 hL.1.1 hL.2 fun j s=>by
    cases tb (o1.getD j 0) s <;> cases decide (j=(c.cells.getD i 0).toNat) <;> cases tb (pos.getD j 0) s <;> cases tb c.set s <;> rfl) e5
 | succ z ih=>
  intro rem o5 b0 b1 Qp hm hB;have hi:i<c.cells.length:=by have:=hB.hi;omega
  have hs:=hR.isSome i (by omega);have AR:rem≠[]:=by intro e;rw [e] at hm;cases hm
  refine Ai.step 1 (g:=fun n=>IV rem none (fun y1=>BJ c q pos pos.length lost n (.l7 i 0 o1 o3 i o4 o5 b0 b1 (y1.getD 0 0) (y1.getD 1 0) (rem.erase y1) y1))) (fun n=>?_) (Ai.next AR (fun y hy=>?_) ID.uniq)
  ·show TQ n (BJ c q pos pos.length lost n) c q pos pos.length lost i o1 o3 i o4 o5 b0 b1 rem Qp=_
   unfold TQ;rw [zAA hs];simp only [zAA hs];cases rem with
   | nil=>exact absurd rfl AR
   | cons x r=>rfl
  ·obtain ⟨t,rfl,ht⟩:=hB.sub y hy;have hS:=ht.ok;refine Ai.step 3 (fun n=>?_) (ih _ _ _ _ [t.1,t.2] (by rw [zGv hy];omega) (hB.go hE hy))
   show BJ c q pos pos.length lost (n+2+1) (.l7 i 0 o1 o3 i o4 o5 b0 b1 t.1 t.2 (rem.erase [t.1,t.2]) [t.1,t.2])=_
   rw [yq W R hi hS,yp W R hi hS,yo]
theorem yr {n ln oi:Nat}{AW:Int}{o1:List Int}{o3:List (Option KS)}{o4 o7:KS}:BJ c q pos ln lost n (.l6 AW o1 o3 oi o4 o7)=BJ c q pos ln lost n (.l9 AW o1 o3 oi o4 [] false false o7 []):=by cases n <;> rfl
theorem yw {n ln oi:Nat}{x8 Ao:Int}{o1:List Int}{o3:List (Option KS)}{o4:KS}:BJ c q pos ln lost n (.l3 x8 Ao o1 o3 oi o4)=BJ c q pos ln lost n (.l8 x8 Ao o1 o3 oi o4 []):=by cases n <;> rfl
theorem qS (W:CI c k pos)(R:I5 c){o3:List (Option KS)}(hR:Rows c pos c.cells.length o3):
 ∀ (i m:Nat) (AW:Int) (o1:List Int) (o4:KS),i+m=c.cells.length -> AW=(i:Int)-1 -> Nm c pos lost m o1 -> SW c pos m o4 -> Ai (fun n=>BJ c q pos pos.length lost n (.l4 AW o1 o3 o4)) (ID c pos lost):=by
 intro i
 induction i with
 | zero=>
  intro m AW o1 o4 hm hx hL hE;refine Ev.p (r:=(true,o1)) ⟨1,fun n hn=>?_⟩ ⟨rfl,⟨hL.1.1,fun j s=>?_⟩,hL.2⟩
  ·obtain ⟨n,rfl⟩: ∃ n',n=n'+1:=⟨n-1,by omega⟩
   show TS n (BJ c q pos pos.length lost n) c q pos pos.length lost AW o1 o3 o4=_
   unfold TS;rw [zAI (by omega),zAC]
  ·rw [hL.1.2];constructor
   ·rintro (h | ⟨a,h1,h2,h3,_,h4⟩)
    ·exact .inl h
    ·exact .inr ⟨a,h1,h2,h3,h4⟩
   ·rintro (h | ⟨a,h1,h2,h3,h4⟩)
    ·exact .inl h
    ·exact .inr ⟨a,h1,h2,h3,by omega,h4⟩
 | succ i ih=>
  intro m AW o1 o4 hm hx hL hE;have hx:AW=(i:Int):=by omega
  subst hx;have hs:=hR.isSome i (by omega);have Af:=hR.len;have t1:((((c.cells.length:Nat):Int)+1).toNat:Nat)=c.cells.length+1:=by omega
  have t2:0+((i:Int).toNat:Nat)=i:=by omega
  refine Ai.step 1 (g:=fun n=>BJ c q pos pos.length lost n (.l9 i o1 o3 i o4 [] false false (GI o3 i) [])) (fun n=>?_) (zEf W R rfl hR hE hL (fun o1 o5 h1 h2=>ih (m+1) ((i:Int)-1) o1 o5 (by omega) rfl h1 h2) _ (GI o3 i) [] false false [] rfl ⟨by omega,fun x hx=>(hR.row i (by omega) x).1 hx,fun x hx=>(by cases hx),fun h=>(by cases h),fun h=>(by cases h),fun t ht=>.inl ((hR.row i (by omega) _).2 ⟨t,rfl,ht⟩)⟩)
  show TS n (BJ c q pos pos.length lost n) c q pos pos.length lost (i:Int) o1 o3 o4=_
  unfold TS;simp only [t1,t2];rw [zAU (by omega),zAK,zAA hs,zAA ⟨⟨by omega,by omega⟩,by omega,hs⟩];exact yr
theorem zC3 (W:CI c k pos)(R:I5 c)(hl:lost.length=pos.length)(B8: ∀ j,B4 (lost.getD j 0)):
 ∀ (m i:Nat) (Ao:Int) (o3:List (Option KS)),i+m=c.cells.length -> Ao=(i:Int) -> Rows c pos i o3 -> Ai (fun n=>BJ c q pos pos.length lost n (.l2 Ao lost o3)) (ID c pos lost):=by
 intro m
 induction m with
 | zero=>
  intro i Ao o3 hm hx hR;have hm:i=c.cells.length:=by omega
  subst hm hx;have Af:=W.len;have hr:=R.1;have r1:AH ((c.cells.length:Int)-1):=Aw.2 ⟨by omega,by omega⟩;have r2:AH ((c.runs.length:Int)-1):=Aw.2 ⟨by omega,by omega⟩;have hL:Nm c pos lost 0 lost:=⟨⟨hl,fun j s=>⟨.inl,fun h=>h.elim id fun ⟨a,h1,_,_,h2,_⟩=>absurd h2 (by omega)⟩⟩,B8⟩
  by_cases h0:0<c.runs.length
  ·have t1:(((c.runs.length:Nat):Int)-1).toNat=c.runs.length-1:=by omega
   refine Ai.step 1 (g:=fun n=>BJ c q pos pos.length lost n (.l4 ((c.cells.length:Int)-1) lost o3 (CP [((c.runs.length:Int)-1),c.runs.getD (c.runs.length-1) 0] (CP [(c.runs.length:Int),0] ([]:KS))))) (fun n=>?_) (qS W R hR c.cells.length 0 _ _ _ (by omega) rfl hL fun x=>?_)
   ·show OH n (BJ c q pos pos.length lost n) c q pos pos.length lost (c.cells.length:Int) lost o3=_
    unfold OH;rw [zAI (by omega),zAC,zAU (by omega),zAK,zAA ⟨r2,⟨by omega,by omega⟩,r1⟩,t1]
   ·rw [Ok,Ok];constructor
    ·rintro (rfl | rfl | h)
     ·exact ⟨((c.runs.length:Int)-1,c.runs.getD (c.runs.length-1) 0),rfl,.inr ⟨h0,rfl⟩⟩
     ·exact ⟨((c.runs.length:Int),0),rfl,.inl rfl⟩
     ·cases h
    ·rintro ⟨t,rfl,rfl | ⟨_,rfl⟩⟩
     ·exact .inr (.inl rfl)
     ·exact .inl rfl
  ·have h0':c.runs.length=0:=by omega
   refine Ai.step 1 (g:=fun n=>BJ c q pos pos.length lost n (.l4 ((c.cells.length:Int)-1) lost o3 (CP [(c.runs.length:Int),0] ([]:KS)))) (fun n=>?_) (qS W R hR c.cells.length 0 _ _ _ (by omega) rfl hL fun x=>?_)
   ·show OH n (BJ c q pos pos.length lost n) c q pos pos.length lost (c.cells.length:Int) lost o3=_
    unfold OH;rw [zAI (by omega),zAC,zAI (by omega),zAC,zAA r1]
   ·rw [Ok];constructor
    ·rintro (rfl | h)
     ·exact ⟨((c.runs.length:Int),0),rfl,.inl rfl⟩
     ·cases h
    ·rintro ⟨t,rfl,rfl | ⟨h,rfl⟩⟩
     ·exact .inl rfl
     ·exact absurd h h0
 | succ m ih=>
  intro i Ao o3 hm hx hR;subst hx;have hi:i<c.cells.length:=by omega
  have hs:=hR.isSome i (by omega);have Af:=hR.len;have t1:((((c.cells.length:Nat):Int)+1).toNat:Nat)=c.cells.length+1:=by omega
  have t2:0+((i:Int).toNat:Nat)=i:=by omega
  refine Ai.step 1 (g:=fun n=>BJ c q pos pos.length lost n (.l8 i i lost o3 i (GI o3 i) [])) (fun n=>?_) (yF W R rfl (fun o3 h=>ih (i+1) _ o3 (by omega) (by omega) h) _ _ _ _ rfl (hR.mid hi))
  show OH n (BJ c q pos pos.length lost n) c q pos pos.length lost (i:Int) lost o3=_
  unfold OH;simp only [t1,t2];rw [zAU (by omega),zAK,zAA hs,zAA ⟨⟨by omega,by omega⟩,by omega,hs⟩];exact yw
theorem zDN (W:CI c k pos)(R:I5 c)(hl:lost.length=pos.length)(B8: ∀ j,B4 (lost.getD j 0)):
 ∀ (m j:Nat) (DR:Int) (o3:List (Option KS)),j+m=c.cells.length+1 -> DR=(j:Int) -> o3.length=c.cells.length+1 -> (∀ i,i<j -> o3.getD i none=some []) -> Ai (fun n=>BJ c q pos pos.length lost n (.l1 DR o3)) (ID c pos lost):=by
 intro m
 induction m with
 | zero=>
  intro j DR o3 hm hx Af ho;subst hx;have t1:((((c.cells.length:Nat):Int)+1).toNat:Nat)=c.cells.length+1:=by omega
  have hs:(o3.getD 0 none).isSome=true:=by rw [ho 0 (by omega)];rfl
  have e0:(o3.getD 0 none).getD []= []:=by rw [ho 0 (by omega)];rfl
  have hg: ∀ i,i≠0 -> (o3.set 0 (some (CP [0,0] ([]:KS)))).getD i none=o3.getD i none:=fun i hi=>eG (fun e=>hi e.symm)
  have Kd:(o3.set 0 (some (CP [0,0] ([]:KS)))).getD 0 none=some (CP [0,0] []):=Yj (by omega);refine Ai.step 1 (g:=fun n=>BJ c q pos pos.length lost n (.l2 0 lost (o3.set 0 (some (CP [0,0] ([]:KS)))))) (fun n=>?_) (zC3 W R hl B8 c.cells.length 0 0 _ (by omega) rfl ⟨by rw [zCG];exact Af,fun i hi=>?_,fun i hi x=>?_,fun i hi C0=>?_⟩)
  ·show TT n (BJ c q pos pos.length lost n) c q pos pos.length lost (j:Int) o3=_
   unfold TT;simp only [t1,zBy];rw [zAI (by omega),zAC,zAA ⟨⟨by omega,by omega⟩,by omega,hs⟩,e0]
  ·by_cases e:i=0
   ·subst e;rw [Kd];rfl
   ·rw [hg i e,ho i (by omega)];rfl
  ·obtain rfl:i=0:=by omega
   show x∈((o3.set 0 (some (CP [0,0] ([]:KS)))).getD 0 none).getD []↔_
   rw [Kd]
   show x∈CP [0,0] []↔_
   rw [Ok];constructor
   ·rintro (rfl | h)
    ·exact ⟨(0,0),rfl,rfl⟩
    ·cases h
   ·rintro ⟨t,rfl,h⟩;have h:t=(0,0):=h;subst h;exact .inl rfl
  ·show ((o3.set 0 (some (CP [0,0] ([]:KS)))).getD i none).getD []= []
   rw [hg i (by omega),ho i (by omega)];rfl
 | succ m ih=>
  intro j DR o3 hm hx Af ho;subst hx;have zBn:=W.len;have t1:((((c.cells.length:Nat):Int)+1).toNat:Nat)=c.cells.length+1:=by omega
  have t2:0+((j:Int).toNat:Nat)=j:=by omega
  refine Ai.step 1 (g:=fun n=>BJ c q pos pos.length lost n (.l1 ((j:Int)+1) (o3.set j (some ([]:KS))))) (fun n=>?_) (ih (j+1) _ _ (by omega) (by omega) (by rw [zCG];exact Af) fun i hi=>?_)
  ·show TT n (BJ c q pos pos.length lost n) c q pos pos.length lost (j:Int) o3=_
   unfold TT;simp only [t1,t2];rw [zAU (by omega),zAK,zAA ⟨⟨by omega,by omega⟩,by omega,Aw.2 ⟨by omega,by omega⟩⟩]
  ·by_cases e:i=j
   ·subst e;exact Yj (by omega)
   ·rw [eG (fun h=>e h.symm)];exact ho i (by omega)
def MV (c:AB):Bool:=(c.cells.length != 0)||(c.runs.length==0)
theorem vA (W:CI c k pos)(R:I5 c)(hl:lost.length=pos.length)(B8: ∀ j,B4 (lost.getD j 0)):
 ∃ l,Ev (fun n=>Qc n c q pos pos.length lost) (MV c,l)/\ (MV c=true -> B5 c pos lost c.cells.length (K3 c pos) l):=by
 by_cases h0:c.cells.length=0
 ·have e1:MV c=((c.runs.length:Int)==0):=by
   unfold MV;rw [h0];cases h:c.runs.length with
   | zero=>rfl
   | succ m=>rfl
  refine ⟨lost,Ev.now fun n=>?_,fun _=>by rw [h0];exact B5.zero hl⟩;unfold Qc aK;rw [h0,e1];rfl
 ·have e1:MV c=true:=by
   unfold MV;cases h:c.cells.length with
   | zero=>exact absurd h h0
   | succ m=>rfl
  have Af:=W.len;have t1:((((c.cells.length:Nat):Int)+1).toNat:Nat)=c.cells.length+1:=by omega
  obtain ⟨r,h1,h2⟩:=(zDN (q:=q) W R hl B8 (c.cells.length+1) 0 0 (List.replicate (c.cells.length+1) none) (by omega) rfl (by simp) (fun i hi=>absurd hi (zBk i))).ev ID.uniq;obtain ⟨b,l⟩:=r;obtain ⟨h3,h4,h5⟩:=h1;have h3:b=true:=h3;subst h3;refine ⟨l,?_,fun _=>h4⟩;rw [e1];refine h2.eq fun n=>?_
  unfold Qc aK;rw [t1]
  have e2:(((c.cells.length:Nat):Int)==0)=false:=by
   rw [zCf];omega
  rw [e2,zAC,zAA ⟨Aw.2 ⟨by omega,by omega⟩,rfl,by omega,by omega⟩]
end
abbrev zFm:=@List.take_succ_eq_append_getElem
abbrev zHJ:=@List.length_filter_le
section
variable {c:AB} {k:Nat} {pos lost:List Int} {q:AA}
structure Hm (c:AB)(q:AA)(pos:List Int):Prop where
 len:c.cells.length=pos.length
 id: ∀ j,j<pos.length -> c.cells.getD j 0=(j:Int)
 g:P8 q.nbrs
 gl:q.nbrs.length=pos.length
 l0:0<pos.length
 l1:pos.length<=256
 nz: ∀ j,j<pos.length -> B4 (pos.getD j 0)/\ pos.getD j 0≠0
def pB (c:AB)(pos:List Int):List Bool:=pos.map fun x=>bits .and .i64 x c.set != 0
def cB (c:AB)(pos:List Int):List Bool:=pos.map fun x=>bits .andNot .i64 x c.set==0
theorem FX:(pB c pos).length=pos.length:=zCM _
theorem FD:(cB c pos).length=pos.length:=zCM _
theorem T3 {j:Nat}(hj:j<pos.length):(pB c pos).getD j false=(bits .and .i64 (pos.getD j 0) c.set != 0):=by
 unfold pB;rw [u8,zBt,zAE hj,u8,zAE hj];rfl
theorem Vo {j:Nat}(hj:j<pos.length):(cB c pos).getD j false=(bits .andNot .i64 (pos.getD j 0) c.set==0):=by
 unfold cB;rw [u8,zBt,zAE hj,u8,zAE hj];rfl
theorem Hm.cp (W:Hm c q pos){j:Nat}(hj:j<pos.length)(h:(cB c pos).getD j false=true):(pB c pos).getD j false=true:=by
 rw [Vo hj,zCR] at h;rw [T3 hj,zFy];obtain ⟨h1,h2⟩:=W.nz j hj;obtain ⟨s,hs,hb⟩:=(GD h1).1 h2;have h3:=(Nv (HO .andNot _ _)).1 h s hs;rw [Nw,hb,zCj,Bool.not_eq_false'] at h3;exact (GD (HO .and _ _)).2 ⟨s,hs,by rw [J3,hb,h3];rfl⟩
def CY (pos lost:List Int)(D:Nat -> Nat -> Prop)(l:List Int):Prop:= (l.length=pos.length/\ ∀ j,B4 (l.getD j 0))/\ ∀ j s,tb (l.getD j 0) s=true↔tb (lost.getD j 0) s=true∨(j<pos.length/\ tb (pos.getD j 0) s=true/\ D j s)
theorem CY.unique {D:Nat -> Nat -> Prop}{l l':List Int}(h:CY pos lost D l)(h':CY pos lost D l'):l=l':=by
 have e:l.length=l'.length:=h.1.1.trans h'.1.1.symm;refine zGU e fun j h1 h2=>?_
 have e1:l.getD j 0=l[j]:=by simp [h1]
 have e2:l'.getD j 0=l'[j]:=by simp [h2]
 rw [←e1,←e2];refine MH (h.1.2 j) (h'.1.2 j) fun s _=>?_
 rw [zFk,h.2,h'.2]
theorem CY.by {D:Nat -> Nat -> Prop}{l:List Int}(W:Hm c q pos)(h:CY pos lost D l):B5 c pos lost c.cells.length D l:=by
 refine ⟨h.1.1,fun j s=>?_⟩;have hl:=W.len;rw [h.2];constructor
 ·rintro (h1 | ⟨h1,h2,h3⟩)
  ·exact .inl h1
  ·have e:=W.id j h1;exact .inr ⟨j,by omega,by rw [e];omega,by show tb (pos.getD (c.cells.getD j 0).toNat 0) s=true;rw [e,zAP];exact h2,h3⟩
 ·rintro (h1 | ⟨a,h1,h2,h3,h4⟩)
  ·exact .inl h1
  ·have e:=W.id a (by omega);have h3:tb (pos.getD (c.cells.getD a 0).toNat 0) s=true:=h3;rw [e,zAP] at h2 h3;subst h2;exact .inr ⟨by omega,h3,h4⟩
theorem CY.step {D D':Nat -> Nat -> Prop}{l l':List Int}(h:CY pos lost D l)(hl:l'.length=pos.length)(B8: ∀ j,B4 (l'.getD j 0)){E:Nat -> Nat -> Prop}(h1: ∀ j s,tb (l'.getD j 0) s=true↔tb (l.getD j 0) s=true∨(j<pos.length/\ tb (pos.getD j 0) s=true/\ E j s)) 
 (hD: ∀ j s,j<pos.length -> tb (pos.getD j 0) s=true -> (D' j s↔D j s∨E j s)):CY pos lost D' l':=by
 refine ⟨⟨hl,B8⟩,fun j s=>?_⟩;rw [h1,h.2];constructor
 ·rintro ((h2 | ⟨h2,h3,h4⟩) | ⟨h2,h3,h4⟩)
  ·exact .inl h2
  ·exact .inr ⟨h2,h3,(hD j s h2 h3).2 (.inl h4)⟩
  ·exact .inr ⟨h2,h3,(hD j s h2 h3).2 (.inr h4)⟩
 ·rintro (h2 | ⟨h2,h3,h4⟩)
  ·exact .inl (.inl h2)
  ·rcases (hD j s h2 h3).1 h4 with h5 | h5
   ·exact .inl (.inr ⟨h2,h3,h5⟩)
   ·exact .inr ⟨h2,h3,h5⟩
theorem CY.id' {D D':Nat -> Nat -> Prop}{l:List Int}(h:CY pos lost D l)(hD: ∀ j s,j<pos.length -> tb (pos.getD j 0) s=true -> (D' j s↔D j s)):CY pos lost D' l:=
 h.step (E:=fun _ _=>False) h.1.1 h.1.2 (fun j s=>by simp) fun j s h1 h2=>by rw [hD j s h1 h2,or_false]
theorem CY.lose {D D':Nat -> Nat -> Prop}{l:List Int}(h:CY pos lost D l){cell ss:Int}(h0:0<=cell)(h1:cell<(pos.length:Int))(hD: ∀ j s,j<pos.length -> tb (pos.getD j 0) s=true -> (D' j s↔D j s∨((j:Int)=cell/\ tb ss s=true))):
 ∃ l',(∀ n,Dn n cell ss c q pos pos.length l=some l')/\ CY pos lost D' l':=by
 obtain ⟨l',e,h2,h3,h4⟩:=mV (ss:=ss) (c:=c) (q:=q) h0 h1 h.1.1 h.1.2;refine ⟨l',e,h.step h2 h3 (E:=fun j s=>(j:Int)=cell/\ tb ss s=true) (fun j s=>?_) hD⟩;rw [h4,zCL,zAO,zAO,zBq];constructor
 ·rintro (h5 | ⟨rfl,h5,h6⟩)
  ·exact .inl h5
  ·exact .inr ⟨by omega,h5,by omega,h6⟩
 ·rintro (h5 | ⟨h5,h6,h7,h8⟩)
  ·exact .inl h5
  ·exact .inr ⟨by omega,h6,h8⟩
theorem CY.only {D D':Nat -> Nat -> Prop}{l:List Int}(h:CY pos lost D l){cell:Int}(h0:0<=cell)(h1:cell<(pos.length:Int))(hD: ∀ j s,j<pos.length -> tb (pos.getD j 0) s=true -> (D' j s↔D j s∨((j:Int)=cell/\ tb c.set s=false))):
 ∃ l',(∀ n,Gy n cell c q pos pos.length l=some l')/\ CY pos lost D' l':=by
 obtain ⟨l',e,h2,h3,h4⟩:=bE (c:=c) (q:=q) h0 h1 h.1.1 h.1.2;refine ⟨l',e,h.step h2 h3 (E:=fun j s=>(j:Int)=cell/\ tb c.set s=false) (fun j s=>?_) hD⟩;rw [h4,zCL,zAO,zAO,zBq,zCg];constructor
 ·rintro (h5 | ⟨rfl,h5,h6⟩)
  ·exact .inl h5
  ·exact .inr ⟨by omega,h5,by omega,h6⟩
 ·rintro (h5 | ⟨h5,h6,h7,h8⟩)
  ·exact .inl h5
  ·exact .inr ⟨by omega,h6,h8⟩
def Gd (l:List Bool)(r:Int):Prop:=(r= -1/\ ∀ j,j<l.length -> l.getD j false=false)∨(0<=r/\ r<(l.length:Int)/\ l.getD r.toNat false=true/\ ∀ j:Nat,(j:Int)<r -> l.getD j false=false)
theorem X8 {l:List Bool}(hl:l.length<=256): ∃ r,Ev (fun n=>YA n l true) r/\ Gd l r:=by
 have key: ∀ (k i:Nat),i+k=l.length -> (∀ j,j<i -> l.getD j false=false) -> ∃ r,Ev (fun n=>LV l true n (.l1 (i:Int))) r/\ Gd l r:=by
  intro k
  induction k with
  | zero=>
   intro i e h;refine ⟨-1,⟨1,fun n hn=>?_⟩,.inl ⟨rfl,fun j hj=>h j (by omega)⟩⟩;obtain ⟨n,rfl⟩: ∃ k,n=k+1:=⟨n-1,by omega⟩
   show UX n (LV l true n) l true (i:Int)=_
   unfold UX;rw [zAI (by omega),zAC]
  | succ k ih=>
   intro i e h
   have U: ∀ n,LV l true (n+1) (.l1 (i:Int))=bif l.getD i false then some (i:Int) else LV l true n (.l1 ((i:Int)+1)):=fun n=>by
    show UX n (LV l true n) l true (i:Int)=_
    unfold UX;rw [zAU (by omega),zAK,zAA ⟨by omega,by omega⟩,zAP,zAA (Aw.2 ⟨by omega,by omega⟩)];cases l.getD i false <;> rfl
   cases hi:l.getD i false
   ·obtain ⟨r,h1,h2⟩:=ih (i+1) (by omega) fun j hj=>by
     rcases zBj.1 hj with hj | rfl
     ·exact h j hj
     ·exact hi
    refine ⟨r,Ev.step 1 (fun n=>?_) h1,h2⟩;rw [U,hi,zAC];rfl
   ·refine ⟨(i:Int),⟨1,fun n hn=>?_⟩,.inr ⟨by omega,by omega,by rw [zAP];exact hi,fun j hj=>h j (by omega)⟩⟩;obtain ⟨n,rfl⟩: ∃ k,n=k+1:=⟨n-1,by omega⟩
    show LV l true (n+1) (.l1 (i:Int))=_
    rw [U,hi,zAK]
 exact key l.length 0 (by omega) fun j hj=>absurd hj (zBk j)
theorem pK {l l':List Bool}(h:l.length=l'.length)(h2: ∀ j,j<l.length -> l.getD j false=l'.getD j false):l=l':=by
 refine zGU h fun j h3 h4=>?_
 have:=h2 j h3
 rwa [u8,zAE h3,u8,zAE h4] at this
theorem ZO {l:List Bool}{i j:Nat}{b:Bool}(hi:i<l.length):(l.set i b).getD j false=if j=i then b else l.getD j false:=by
 by_cases e:j=i
 ·subst e;rw [zAA rfl,u8,zFj hi];rfl
 ·rw [zAY e,u8,zFU (fun h=>e h.symm),←u8]
def F3 (c:AB)(q:AA)(pos:List Int)(a s:Nat):Prop:=(pB c pos).getD a false=true/\ tb c.set s=true/\ ∃ r:Int,0<=r/\ Gd (cB c pos) r/\ ¬ Rc q.nbrs (pB c pos) r a
theorem Gd.uniq {l:List Bool}{r r':Int}(h:Gd l r)(h':Gd l r'):r=r':=by
 rcases h with ⟨rfl,h⟩ | ⟨h0,h1,h2,h3⟩ <;> rcases h' with ⟨rfl,h'⟩ | ⟨h0',Lo,NH,eD⟩
 ·rfl
 ·rw [h r'.toNat (by omega)] at NH;cases NH
 ·rw [h' r.toNat (by omega)] at h2;cases h2
 ·rcases Int.lt_trichotomy r r' with h4 | h4 | h4
  ·rw [eD r.toNat (by omega)] at h2;cases h2
  ·exact h4
  ·rw [h3 r'.toNat (by omega)] at NH;cases NH
theorem gZ (G:P8 q.nbrs)(hB:(pB c pos).length=q.nbrs.length){r:Int}(EL:0<=r)(hF:Gd (cB c pos) r){j s:Nat}:F3 c q pos j s↔(pB c pos).getD j false=true/\ tb c.set s=true/\ ¬ Rc q.nbrs (pB c pos) r j:=by
 constructor
 ·rintro ⟨h1,h2,r',_,Fy,h3⟩;rw [hF.uniq Fy];exact ⟨h1,h2,h3⟩
 ·rintro ⟨h1,h2,h3⟩;exact ⟨h1,h2,r,EL,hF,h3⟩
def SS (c:AB)(q:AA)(pos lost:List Int)(r:Int)(x:List Bool×List Bool×Bool×List Int):Prop:=x.1=pB c pos/\ x.2.1=cB c pos/\ x.2.2.1=decide (0<=r)/\ CY pos lost (F3 c q pos) x.2.2.2
theorem SS.uniq {r:Int}(x y:List Bool×List Bool×Bool×List Int)(h:SS c q pos lost r x)(h':SS c q pos lost r y):x=y:=by
 obtain ⟨x1,x2,x3,x4⟩:=x;obtain ⟨y1,y2,y3,y4⟩:=y;obtain ⟨h1,h2,h3,h4⟩:=h;obtain ⟨Lo,NH,eD,Yf⟩:=h';have e4:x4=y4:=h4.unique Yf;have e1:x1=y1:=Eq.trans h1 Lo.symm;have e2:x2=y2:=Eq.trans h2 NH.symm;have e3:x3=y3:=Eq.trans h3 eD.symm;rw [e1,e2,e3,e4]
theorem xk {n:Nat}(W:Hm c q pos)(hL:CY pos lost (fun _ _=>False) lost){r:Int}(EL:0<=r)(hF:Gd (cB c pos) r){near:List Int}(hn:near.length<=256)(Ul: ∀ v,v∈near↔Rc q.nbrs (pB c pos) r v)(Io:600<=n):
 ∃ x,E7 c q pos pos.length lost n (.l2 (pB c pos) (pB c pos).length near (near.length:Int) 0 (cB c pos) (pB c pos))=some x/\ SS c q pos lost r x:=by
 have HF:=W.l1;have Lg:=W.gl
 have LX:r<(q.nbrs.length:Int):=by
  rcases hF with ⟨h,_⟩ | ⟨_,h,_⟩
  ·omega
  ·rw [FD] at h;omega
 have YI: ∀ v∈near,0<=v/\ v<(pos.length:Int):=fun v hv=>by
  have:=((Ul v).1 hv).rng W.g.gr EL LX;omega
 have S:=Hy (fun n (Hh:List Bool) i=>E7 c q pos pos.length lost n (.l2 (pB c pos) (pB c pos).length near (near.length:Int) i (cB c pos) Hh)) near.length (pos.length+3)
  (fun i Hh=>Hh.length=pos.length/\ ∀ j:Nat,Hh.getD j false=true↔(pB c pos).getD j false=true/\ (j:Int)∉near.take i) (fun n i Hh Fw hi hI=>?_) (n:=n) (s:=pB c pos) (by omega) ⟨FX,fun j=>by simp⟩
 ·obtain ⟨n1,Hh,HD,_,e1,da,ny⟩:=S;obtain ⟨n2,rfl⟩: ∃ n2,n1=n2+1:=⟨n1-1,by omega⟩;rw [List.take_length] at ny
  have T:=Hy (fun n (o1:List Int) i=>E7 c q pos pos.length lost n (.l3 (pB c pos) (pB c pos).length ((pB c pos).length:Int) i o1 (cB c pos) Hh)) pos.length 1
   (fun i o1=>CY pos lost (fun j s=>j<i/\ F3 c q pos j s) o1) (fun n i o1 Fw hi hI=>?_) (n:=n2) (s:=lost) (by omega) (hL.id' fun j s _ _=>⟨fun h=>absurd h.1 (zBk j),fun h=>h.elim⟩)
  ·obtain ⟨n3,o1,M8,_,e2,Lm⟩:=T;obtain ⟨n4,rfl⟩: ∃ n4,n3=n4+1:=⟨n3-1,by omega⟩;refine ⟨(pB c pos,cB c pos,true,o1),?_,rfl,rfl,(zAU EL).symm,Lm.id' fun j s hj _=>⟨fun h=>⟨hj,h⟩,fun h=>h.2⟩⟩;refine Eq.trans e1 ?_
   show UD n2 (E7 c q pos pos.length lost n2) c q pos pos.length lost (pB c pos) (pB c pos).length near (near.length:Int) (near.length:Int) (cB c pos) Hh=_
   unfold UD;rw [zAI (by omega),zAC];refine Eq.trans e2 ?_
   show UC n4 (E7 c q pos pos.length lost n4) c q pos pos.length lost (pB c pos) (pB c pos).length ((pB c pos).length:Int) (pos.length:Int) o1 (cB c pos) Hh=_
   unfold UC;rw [FX,zAI (by omega),zAC,zAA FD.symm]
  ·show ∃ s',UC n (E7 c q pos pos.length lost n) c q pos pos.length lost (pB c pos) (pB c pos).length ((pB c pos).length:Int) (i:Int) o1 (cB c pos) Hh=_/\ _
   unfold UC;simp only [zAP,zBy];have r1:AH ((i:Int)+1):=Aw.2 ⟨by omega,by omega⟩;rw [FX,zAU (by omega),zAK,zAA ⟨⟨by omega,by omega⟩,by omega⟩];have PU:Hh.getD i false=true↔(pB c pos).getD i false=true/\ ¬ Rc q.nbrs (pB c pos) r i:=by rw [ny,Ul]
   cases hf:Hh.getD i false
   ·rw [zAC,zAA r1];refine ⟨o1,rfl,hI.id' fun j s hj _=>⟨fun h=>⟨?_,h.2⟩,fun h=>⟨by omega,h.2⟩⟩⟩;rcases zBj.1 h.1 with h1 | rfl
    ·exact h1
    ·have h2:=(gZ W.g (by rw [FX];exact Lg.symm) EL hF).1 h.2;have:=PU.2 ⟨h2.1,h2.2.2⟩;rw [hf] at this;cases this
   ·obtain ⟨l',e,h2⟩:=hI.lose (c:=c) (q:=q) (D':=fun j s=>j<i+1/\ F3 c q pos j s) (cell:=(i:Int)) (ss:=c.set) (by omega) (by omega) fun j s hj _=>by
     constructor
     ·rintro ⟨h1,h2⟩;rcases zBj.1 h1 with h1 | rfl
      ·exact .inl ⟨h1,h2⟩
      ·exact .inr ⟨rfl,h2.2.1⟩
     ·rintro (⟨h1,h2⟩ | ⟨h1,h2⟩)
      ·exact ⟨by omega,h2⟩
      ·obtain rfl:j=i:=by omega
       have h3:=PU.1 hf;exact ⟨by omega,(gZ W.g (by rw [FX];exact Lg.symm) EL hF).2 ⟨h3.1,h2,h3.2⟩⟩
    rw [zAK,e,zAB,zAA r1];exact ⟨l',rfl,h2⟩
 ·obtain ⟨hl,hf⟩:=hI;have hx:near.getD i 0∈near:=by rw [u8,zAE hi];exact zB0 hi
  have Ih:=YI _ hx
  show ∃ s',UD n (E7 c q pos pos.length lost n) c q pos pos.length lost (pB c pos) (pB c pos).length near (near.length:Int) (i:Int) (cB c pos) Hh=_/\ _
  unfold UD;simp only [zAP,zBy];rw [FX,zAU (by omega),zAK,zAA ⟨⟨by omega,by omega⟩,Ih,by omega,Aw.2 ⟨by omega,by omega⟩⟩];refine ⟨_,rfl,by rw [zCG];exact hl,fun j=>?_⟩
  have e3:near.take (i+1)=near.take i++[near.getD i 0]:=by
   rw [zFm hi,u8,zAE hi];rfl
  rw [ZO (by omega),e3,zB3,zBv]
  by_cases e:j=(near.getD i 0).toNat
  ·rw [zAA e];exact ⟨fun h=>(by cases h),fun h=>absurd (Or.inr (by omega)) h.2⟩
  ·rw [zAY e,hf];exact ⟨fun h=>⟨h.1,fun h2=>h2.elim h.2 fun h3=>e (by omega)⟩,fun h=>⟨h.1,fun h2=>h.2 (.inl h2)⟩⟩
theorem lz (W:Hm c q pos)(hL:CY pos lost (fun _ _=>False) lost){r:Int}(hF:Gd (cB c pos) r):
 ∃ l,Ev (fun n=>Of n c q pos pos.length lost) (pB c pos,cB c pos,decide (0<=r),l)/\ CY pos lost (F3 c q pos) l:=by
 have HF:=W.l1;have Lg:=W.gl;have Af:=W.len;have L:(1000000000000:Nat)=A3:=rfl
 suffices H:Ai (fun n=>Of n c q pos pos.length lost) (SS c q pos lost r) by
  obtain ⟨x,h1,h2⟩:=H.ev SS.uniq;obtain ⟨x1,x2,x3,x4⟩:=x;obtain ⟨h3,h4,h5,h6⟩:=h1;have h3:x1=pB c pos:=h3;have h4:x2=cB c pos:=h4;have h5:x3=decide (0<=r):=h5;subst h3 h4 h5;exact ⟨x4,h2,h6⟩
 have first: ∀ n,E7 c q pos pos.length lost (n+c.cells.length) (.l1 0 (List.replicate pos.length false) (List.replicate pos.length false))=E7 c q pos pos.length lost n (.l1 (c.cells.length:Int) (pB c pos) (cB c pos)):=fun n=>by
  have z: ∀ j:Nat,(List.replicate pos.length false).getD j false=false:=fun j=>by
   rw [u8,zCe];split <;> rfl
  obtain ⟨s',e,h1,h2,h3,h4⟩:=Xh (fun n (s:List Bool×List Bool) i=>E7 c q pos pos.length lost n (.l1 i s.1 s.2)) c.cells.length 0
   (fun i s=>s.1.length=pos.length/\ s.2.length=pos.length/\ (∀ j,s.1.getD j false=if j<i then (pB c pos).getD j false else false)/\ (∀ j,s.2.getD j false=if j<i then (cB c pos).getD j false else false))
   (fun n i s _ hi hI=>by
    obtain ⟨o2,o3⟩:=s;obtain ⟨h1,h2,h3,h4⟩:=hI;have h1:o2.length=pos.length:=h1;have h2:o3.length=pos.length:=h2;have hid:=W.id i (by omega)
    show ∃ s',UE n (E7 c q pos pos.length lost n) c q pos pos.length lost (i:Int) o2 o3=_/\ _
    unfold UE;simp only [zAP,zBy,hid];rw [zAU (by omega),zAK,zAA ⟨⟨by omega,by omega⟩,⟨by omega,by omega⟩,by omega,by omega,Aw.2 ⟨by omega,by omega⟩⟩];refine ⟨(_,_),rfl,by rw [zCG];exact h1,by rw [zCG];exact h2,fun j=>?_,fun j=>?_⟩
    ·show (o2.set i _).getD j false=_
     rw [ZO (by omega)]
     by_cases e:j=i
     ·subst e;rw [zAA rfl,zAA (by omega),T3 (by omega)]
     ·have h3:o2.getD j false=_:=h3 j;rw [zAY e,h3]
      by_cases e2:j<i
      ·rw [zAA e2,zAA (by omega)]
      ·rw [zAY e2,zAY (by omega)]
    ·show (o3.set i _).getD j false=_
     rw [ZO (by omega)]
     by_cases e:j=i
     ·subst e;rw [zAA rfl,zAA (by omega),Vo (by omega)]
     ·have h4:o3.getD j false=_:=h4 j;rw [zAY e,h4]
      by_cases e2:j<i
      ·rw [zAA e2,zAA (by omega)]
      ·rw [zAY e2,zAY (by omega)])
   c.cells.length 0 n (List.replicate pos.length false,List.replicate pos.length false) (by omega) (by omega) ⟨zB1,zB1,fun j=>by rw [zAY (by omega)];exact z j,fun j=>by rw [zAY (by omega)];exact z j⟩
  obtain ⟨o2,o3⟩:=s';have h1:o2.length=pos.length:=h1;have h2:o3.length=pos.length:=h2
  have e2:o2=pB c pos:=pK (by rw [h1,FX]) fun j hj=>by
   have h3:o2.getD j false=_:=h3 j;rw [h3,zAA (by omega)]
  have e3:o3=cB c pos:=pK (by rw [h2,FD]) fun j hj=>by
   have h4:o3.getD j false=_:=h4 j;rw [h4,zAA (by omega)]
  rw [←e2,←e3];exact e
 have start: ∀ n,Of n c q pos pos.length lost=E7 c q pos pos.length lost n (.l1 0 (List.replicate pos.length false) (List.replicate pos.length false)):=fun n=>by
  unfold Of mB;rw [zAA ⟨rfl,by omega,by omega⟩]
 refine Ai.eq (Ai.step (c.cells.length+1) (g:=fun n=>(YA n (cB c pos) true).bind fun y1=>bif (decide (y1<0)) then (if pos.length=(pB c pos).length then some (pB c pos,cB c pos,false,lost) else none) else (if pos.length=(pB c pos).length then (Pj n (pB c pos)).bind fun y2=>(Rv n q.nbrs (pB c pos) y1).bind fun y3=>E7 c q pos pos.length lost n (.l2 (pB c pos) y2.length y3.1 (y3.1.length:Int) 0 (cB c pos) y2) else none)) (fun n=>?_) ?_) start
 ·rw [show n+(c.cells.length+1)=n+1+c.cells.length by omega,first]
  show UE n (E7 c q pos pos.length lost n) c q pos pos.length lost (c.cells.length:Int) (pB c pos) (cB c pos)=_
  unfold UE;rw [zAI (by omega),zAC,zAA FD.symm]
 ·obtain ⟨r',h1,h2⟩:=X8 (l:=cB c pos) (by rw [FD];exact HF);obtain rfl:=hF.uniq h2;refine Ai.bind h1 ?_
  by_cases EL:0<=r
  ·have BF: ∀ n,Pj n (pB c pos)=some (pB c pos):=fun n=>by
    have h0:=W.l0;have h3:=FX (c:=c) (pos:=pos);unfold Pj fI;rw [zAA ⟨by omega,trivial,⟨rfl,rfl⟩,by rw [←L];simp only [zFd];omega⟩,zAA (by simp)];rfl
   obtain ⟨LX,hr2⟩:r<(pos.length:Int)/\ (cB c pos).getD r.toNat false=true:=by
    rcases hF with ⟨h,_⟩ | ⟨_,h,h',_⟩
    ·omega
    ·rw [FD] at h;exact ⟨h,h'⟩
   have hpr:=W.cp (by omega) hr2;refine Ai.eq (Ai.bindU (zEE W.g (by rw [FX];exact Lg.symm) EL (by omega) hpr) (b:=fun n y3=>E7 c q pos pos.length lost n (.l2 (pB c pos) (pB c pos).length y3.1 (y3.1.length:Int) 0 (cB c pos) (pB c pos))) ⟨600,fun n hn x hx=>xk W hL EL hF hx.2.1 hx.2.2 hn⟩) fun n=>?_
   rw [zAI (by omega),zAC,zAA FX.symm,BF,zAB]
  ·refine Ev.p (r:=(pB c pos,cB c pos,false,lost)) (Ev.now fun n=>?_) ⟨rfl,rfl,(zAI EL).symm,hL.id' fun j s _ _=>⟨fun h=>?_,fun h=>h.elim⟩⟩
   ·rw [zAU (by omega),zAK,zAA FX.symm]
   ·obtain ⟨_,_,r',h3,h4,_⟩:=h;rw [hF.uniq h4] at EL;exact EL h3
def Jm (c:AB)(q:AA)(pos:List Int)(a s:Nat):Prop:=F3 c q pos a s∨((pB c pos).getD a false=true/\ (cB c pos).getD a false=false/\ Sp q.nbrs (pB c pos) (cB c pos) (a:Int)/\ tb c.set s=false)
theorem zD7 (W:Hm c q pos)(hL:CY pos lost (fun _ _=>False) lost): ∃ l,Ev (fun n=>ZA n c q pos pos.length lost) (true,l)/\ CY pos lost (Jm c q pos) l:=by
 have HF:=W.l1;have Lg:=W.gl;obtain ⟨r,_,hF⟩:=X8 (l:=cB c pos) (by rw [FD];exact HF);obtain ⟨l0,h1,h2⟩:=lz W hL hF
 suffices H:Ai (fun n=>NZ c q pos pos.length lost n (.l1 (pB c pos) (cB c pos) (decide (0<=r)) ((pB c pos).length:Int) 0 l0)) (fun x=>x.1=true/\ CY pos lost (Jm c q pos) x.2) by
  obtain ⟨x,⟨h3,h4⟩,h5⟩:=(Ai.bind h1 (b:=fun n y1=>NZ c q pos pos.length lost n (.l1 y1.1 y1.2.1 y1.2.2.1 (y1.1.length:Int) 0 y1.2.2.2)) H).ev fun x y hx hy=>by
   obtain ⟨x1,x2⟩:=x;obtain ⟨y1,y2⟩:=y;have e1:x1=true:=hx.1;have e2:y1=true:=hy.1;have e3:x2=y2:=hx.2.unique hy.2;rw [e1,e2,e3]
  obtain ⟨x1,x2⟩:=x;have h3:x1=true:=h3;subst h3;exact ⟨x2,h5,h4⟩
 obtain ⟨N,hN⟩:=Ai.range (F:=fun (i:Nat) n=>if (pB c pos).getD i false=true then N4 n q.nbrs (pB c pos) (cB c pos) i else some (false,0)) (A:=fun i x=>(pB c pos).getD i false=true -> x.2=0/\ (x.1=true↔Sp q.nbrs (pB c pos) (cB c pos) i)) pos.length fun i hi=>by
  by_cases h:(pB c pos).getD i false=true
  ·refine ((su W.g (by rw [FX];exact Lg.symm) (by rw [FD];exact Lg.symm) (a:=i) (by omega) h).mono fun x hx _=>hx).eq fun n=>?_
   rw [zAA h]
  ·exact Ev.p (r:=(false,0)) (Ev.now fun n=>by rw [zAY h]) fun h'=>absurd h' h
 refine ⟨N+pos.length+1,fun n hn=>?_⟩
 have T:=Hy (fun n (o1:List Int) i=>NZ c q pos pos.length lost n (.l1 (pB c pos) (cB c pos) (decide (0<=r)) ((pB c pos).length:Int) i o1)) pos.length (N+1)
  (fun i o1=>CY pos lost (fun a s=>F3 c q pos a s∨(a<i/\ Jm c q pos a s)) o1) (fun n i o1 Fw hi hI=>?_) (n:=n) (s:=l0) (by omega) (h2.id' fun j s _ _=>⟨fun h=>h.elim id fun h=>absurd h.1 (zBk j),.inl⟩)
 ·obtain ⟨n3,o1,M8,_,e2,Lm⟩:=T;obtain ⟨n4,rfl⟩: ∃ n4,n3=n4+1:=⟨n3-1,by omega⟩;refine ⟨(true,o1),Eq.trans e2 ?_,rfl,Lm.id' fun j s hj _=>⟨fun h=>.inr ⟨hj,h⟩,fun h=>h.elim .inl fun h=>h.2⟩⟩
  show Vi n4 (NZ c q pos pos.length lost n4) c q pos pos.length lost (pB c pos) (cB c pos) (decide (0<=r)) ((pB c pos).length:Int) (pos.length:Int) o1=_
  unfold Vi;rw [FX,zAI (p:=((pos.length:Nat):Int)<((pos.length:Nat):Int)) (by omega),zAC]
 ·show ∃ s',Vi n (NZ c q pos pos.length lost n) c q pos pos.length lost (pB c pos) (cB c pos) (decide (0<=r)) ((pB c pos).length:Int) (i:Int) o1=_/\ _
  unfold Vi;simp only [zAP];have r1:AH ((i:Int)+1):=Aw.2 ⟨by omega,by omega⟩;have lp:(pB c pos).length=pos.length:=FX;have lc:(cB c pos).length=pos.length:=FD;rw [lp,lc,zAU (p:=(i:Int)<((pos.length:Nat):Int)) (by omega),zAK]
  have skip:(∀ s,¬ ((pB c pos).getD i false=true/\ (cB c pos).getD i false=false/\ Sp q.nbrs (pB c pos) (cB c pos) (i:Int)/\ tb c.set s=false)) -> CY pos lost (fun a s=>F3 c q pos a s∨(a<i+1/\ Jm c q pos a s)) o1:=fun HA=>hI.id' fun j s hj _=>by
   constructor
   ·rintro (h | ⟨h,h3⟩)
    ·exact .inl h
    ·rcases zBj.1 h with h | rfl
     ·exact .inr ⟨h,h3⟩
     ·exact h3.elim .inl fun h4=>absurd h4 (HA s)
   ·rintro (h | ⟨h,h3⟩)
    ·exact .inl h
    ·exact .inr ⟨by omega,h3⟩
  by_cases EL:0<=r
  ·rw [zAU EL,zCX,zAC,zAA ⟨by omega,by omega⟩];cases hp:(pB c pos).getD i false
   ·rw [zCa,zAK,zAA r1];exact ⟨o1,rfl,skip fun s h=>by rw [hp] at h;cases h.1⟩
   ·rw [zCX,zAC,zAA ⟨by omega,by omega⟩];cases hc:(cB c pos).getD i false
    ·obtain ⟨x,e1,hx⟩:=hN n (by omega) i hi;have e1:(if (pB c pos).getD i false=true then N4 n q.nbrs (pB c pos) (cB c pos) i else some (false,0))=some x:=e1;rw [zAA hp] at e1;obtain ⟨_,hx⟩:=hx hp;rw [zAC,e1,zAB];cases hb:x.1
     ·rw [zAC,zAA r1];exact ⟨o1,rfl,skip fun s h=>by rw [hx.2 h.2.2.1] at hb;cases hb⟩
     ·obtain ⟨l',e,h3⟩:=hI.only (c:=c) (q:=q) (D':=fun a s=>F3 c q pos a s∨(a<i+1/\ Jm c q pos a s)) (cell:=(i:Int)) (by omega) (by omega) fun j s hj _=>by
       constructor
       ·rintro (h | ⟨h,h3⟩)
        ·exact .inl (.inl h)
        ·rcases zBj.1 h with h | rfl
         ·exact .inl (.inr ⟨h,h3⟩)
         ·exact h3.elim (fun h=>.inl (.inl h)) fun h4=>.inr ⟨rfl,h4.2.2.2⟩
       ·rintro ((h | ⟨h,h3⟩) | ⟨h,h3⟩)
        ·exact .inl h
        ·exact .inr ⟨by omega,h3⟩
        ·obtain rfl:j=i:=by omega
         exact .inr ⟨by omega,.inr ⟨hp,hc,hx.1 hb,h3⟩⟩
      rw [zAK,e,zAB,zAA r1];exact ⟨l',rfl,h3⟩
    ·rw [zAK,zAA r1];exact ⟨o1,rfl,skip fun s h=>by rw [hc] at h;cases h.2.1⟩
  ·rw [zAI EL,zCa,zAK,zAA r1];refine ⟨o1,rfl,skip fun s h=>?_⟩;obtain ⟨hp,_,⟨u,v,_,_,h3,_,h4,_⟩,_⟩:=h;rcases hF with ⟨_,hF⟩ | ⟨h5,_⟩
   ·have:=h4.rng W.g.gr (by omega) (by omega);rw [hF u.toNat (by rw [FD];omega)] at h3;cases h3
   ·exact EL h5
def D1 (g:List (List Int))(S:List Bool)(v:Int):Nat:=(nb g v).countP fun x=>S.getD x.toNat false
def UP (c:AB)(q:AA)(pos:List Int):Prop:=∀ v,v<pos.length -> (cB c pos).getD v false=true -> 2<=D1 q.nbrs (pB c pos) v/\ D1 q.nbrs (cB c pos) v<=2
def mG (c:AB)(q:AA)(pos:List Int)(v a s:Nat):Prop:=(cB c pos).getD v false=true/\ (a:Int)∈nb q.nbrs v/\ (pB c pos).getD a false=true/\ ((D1 q.nbrs (pB c pos) v=2/\ tb c.set s=false)∨(D1 q.nbrs (cB c pos) v=2/\ (cB c pos).getD a false=false/\ tb c.set s=true))
def Qy (c:AB)(q:AA)(pos:List Int)(a s:Nat):Prop:=F3 c q pos a s∨∃ v,v<pos.length/\ mG c q pos v a s
section
variable {P C:List Bool} {o1:List Int} {row:List Int} {x20 x21:Int}
def KR (P:List Bool)(o2:List Int)(v:Int):List Int:=bif P.getD v.toNat false then o2++[v] else o2
def LM (C:List Bool)(x:Int)(v:Int):Int:=bif C.getD v.toNat false then x+1 else x
theorem lx: ∀ (l o2:List Int),l.foldl (KR P) o2=o2++l.filter fun x=>P.getD x.toNat false
 | [],o2=>by simp
 | v::l,o2=>by
  rw [zFv,lx l];unfold KR;cases h:P.getD v.toNat false
  ·rw [zAC,List.filter_cons_of_neg (by rw [h];decide)]
  ·rw [zAK,List.filter_cons_of_pos (p:=fun x=>P.getD (Int.toNat x) false) h,zGA];rfl
theorem mM: ∀ (l:List Int) (x:Int),l.foldl (LM C) x=x+(l.countP fun x=>C.getD x.toNat false:Nat)
 | [],x=>by simp
 | v::l,x=>by
  rw [zFv,mM l];unfold LM;cases h:C.getD v.toNat false
  ·rw [zAC,List.countP_cons_of_neg (by rw [h];decide)]
  ·rw [zAK,List.countP_cons_of_pos (p:=fun x=>C.getD (Int.toNat x) false) h];omega
def Nz (P C:List Bool)(x20 x21:Int)(row o1 o2:List Int)(x8 j:Int):Mp:=match o2 with
 | []=>.l2 P C x8 x20 x21 row (row.length:Int) j o1
 | a::l=>.l3 P C (a::l).length x8 x20 x21 row (row.length:Int) j o1 (a::l)
theorem jE {o2:List Int}{x8 j:Int}(h:o2≠[]):Nz P C x20 x21 row o1 o2 x8 j= .l3 P C o2.length x8 x20 x21 row (row.length:Int) j o1 o2:=by
 cases o2 with
 | nil=>exact absurd rfl h
 | cons a l=>rfl
theorem yB {n j:Nat}{x8:Int}{o2:List Int}(hP:P.length=pos.length)(hC:C.length=pos.length)(hr: ∀ u∈row,0<=u/\ u<(pos.length:Int))(hl:row.length<=256)(hj:j<row.length)(ho:o2.length<=256)(h8:0<=x8/\ x8<=256):
 Cc c q pos pos.length lost (n+1) (Nz P C x20 x21 row o1 o2 x8 j)=Cc c q pos pos.length lost n (Nz P C x20 x21 row o1 (KR P o2 (row.getD j 0)) (LM C x8 (row.getD j 0)) ((j:Int)+1)):=by
 have L:(1000000000000:Nat)=A3:=rfl;have hx:row.getD j 0∈row:=by rw [u8,zAE hj];exact zB0 hj
 have Ih:=hr _ hx;have r1:AH ((j:Int)+1):=Aw.2 ⟨by omega,by omega⟩;have r8:AH (x8+1):=Aw.2 ⟨by omega,by omega⟩;cases o2 with
 | nil=>
  show UN n (Cc c q pos pos.length lost n) c q pos pos.length lost P C x8 x20 x21 row (row.length:Int) (j:Int) o1=_
  unfold UN KR LM;simp only [zAP];rw [zAU (by omega),zAK,zAA ⟨⟨by omega,by omega⟩,by omega,by omega⟩];cases hp:P.getD (row.getD j 0).toNat false <;> cases hc:C.getD (row.getD j 0).toNat false
  ·rw [zAC,zAC,zAC,zAA ⟨by omega,by omega⟩,zAC,zAA r1];rfl
  ·rw [zAC,zAC,zAK,zAA ⟨by omega,by omega⟩,zAK,zAA ⟨r8,r1⟩];rfl
  ·rw [zAK,zAK,zAC,zAA ⟨⟨⟨trivial,rfl⟩,by rw [zB7];omega,by rw [zB7,←L];omega⟩,by omega,by omega⟩,zAC,zAA r1];rfl
  ·rw [zAK,zAK,zAK,zAA ⟨⟨⟨trivial,rfl⟩,by rw [zB7];omega,by rw [zB7,←L];omega⟩,by omega,by omega⟩,zAK,zAA ⟨r8,r1⟩];rfl
 | cons a l=>
  have AR:KR P (a::l) (row.getD j 0)≠[]:=by unfold KR;cases P.getD (row.getD j 0).toNat false <;> simp
  rw [jE AR]
  show Oq n (Cc c q pos pos.length lost n) c q pos pos.length lost P C (a::l).length x8 x20 x21 row (row.length:Int) (j:Int) o1 (a::l)=_
  unfold Oq KR LM;simp only [zAP];rw [zAU (by omega),zAK,zAA ⟨⟨by omega,by omega⟩,by omega,by omega⟩];cases hp:P.getD (row.getD j 0).toNat false <;> cases hc:C.getD (row.getD j 0).toNat false
  ·rw [zAC,zAC,zAC,zAA ⟨by omega,by omega⟩,zAC,zAA r1]
  ·rw [zAC,zAC,zAK,zAA ⟨by omega,by omega⟩,zAK,zAA ⟨r8,r1⟩]
  ·rw [zAK,zAK,zAC,zAA ⟨⟨⟨trivial,rfl⟩,⟨trivial,trivial⟩,by rw [zB7,←L];omega⟩,by omega,by omega⟩,zAC,zAA r1,zBe]
  ·rw [zAK,zAK,zAK,zAA ⟨⟨⟨trivial,rfl⟩,⟨trivial,trivial⟩,by rw [zB7,←L];omega⟩,by omega,by omega⟩,zAK,zAA ⟨r8,r1⟩,zBe]
theorem mF (hP:P.length=pos.length)(hC:C.length=pos.length)(hr: ∀ u∈row,0<=u/\ u<(pos.length:Int))(hl:row.length<=256): ∀ (k j n:Nat) (o2:List Int) (x8:Int),j+k=row.length -> o2.length<=j -> 0<=x8/\ x8<=(j:Int) ->
 Cc c q pos pos.length lost (n+k) (Nz P C x20 x21 row o1 o2 x8 j)=Cc c q pos pos.length lost n (Nz P C x20 x21 row o1 ((row.drop j).foldl (KR P) o2) ((row.drop j).foldl (LM C) x8) (row.length:Int))
 | 0,j,n,o2,x8,e,_,_=>by
  have e:j=row.length:=by omega
  subst e;rw [zGp];rfl
 | k+1,j,n,o2,x8,e,h2,h8=>by
  have hj:j<row.length:=by omega
  have e2:row.drop j=row.getD j 0::row.drop (j+1):=by
   rw [zBw hj,u8,zAE hj];rfl
  rw [←zCd,yB hP hC hr hl hj (by omega) (by omega),e2,zFv,zFv]
  have h3:(KR P o2 (row.getD j 0)).length<=j+1:=by
   unfold KR;cases P.getD (row.getD j 0).toNat false
   ·rw [zAC];omega
   ·rw [zAK,zBe,zB7];omega
  have h4:0<=LM C x8 (row.getD j 0)/\ LM C x8 (row.getD j 0)<=((j+1:Nat):Int):=by
   unfold LM;cases C.getD (row.getD j 0).toNat false
   ·rw [zAC];omega
   ·rw [zAK];omega
  exact mF hP hC hr hl k (j+1) n _ _ (by omega) h3 h4
theorem qd {D:Nat -> Nat -> Prop}{near:List Int}{x8:Int}{v:Nat}{n:Nat}(W:Hm c q pos)(hD:CY pos lost D o1)(YL: ∀ u∈near,0<=u/\ u<(pos.length:Int))(Ka:near.length<=256)(hv:v<pos.length):
 ∃ l',Cc c q pos pos.length lost (n+1+near.length) (.l4 (pB c pos) (cB c pos) near.length x8 x20 (v:Int) near.length (near.length:Int) 0 o1 near)=Cc c q pos pos.length lost n (.l1 (pB c pos) (cB c pos) x20 ((v:Int)+1) l')/\
  CY pos lost (fun a s=>D a s∨((a:Int)∈near/\ ((near.length=2/\ tb c.set s=false)∨(x8=2/\ (cB c pos).getD a false=false/\ tb c.set s=true)))) l':=by
 have HF:=W.l1;have lc:(cB c pos).length=pos.length:=FD
 obtain ⟨l',e,h⟩:=Xh (fun n (s:List Int) i=>Cc c q pos pos.length lost n (.l4 (pB c pos) (cB c pos) near.length x8 x20 (v:Int) near.length (near.length:Int) i s near)) near.length 0
  (fun i s=>CY pos lost (fun a t=>D a t∨((a:Int)∈near.take i/\ ((near.length=2/\ tb c.set t=false)∨(x8=2/\ (cB c pos).getD a false=false/\ tb c.set t=true)))) s)
  (fun n i s _ hi hI=>by
   have hx:near.getD i 0∈near:=by rw [u8,zAE hi];exact zB0 hi
   have Ih:=YL _ hx
   have e3:near.take (i+1)=near.take i++[near.getD i 0]:=by
    rw [zFm hi,u8,zAE hi];rfl
   have r1:AH ((i:Int)+1):=Aw.2 ⟨by omega,by omega⟩;have mem: ∀ a:Nat,(a:Int)∈near.take (i+1)↔(a:Int)∈near.take i∨(a:Int)=near.getD i 0:=fun a=>by rw [e3,zB3,zBv]
   obtain ⟨l2,f2,d9⟩:=hI.only (c:=c) (q:=q) (cell:=near.getD i 0) Ih.1 Ih.2 (D':=fun a t=>(D a t∨((a:Int)∈near.take i/\ ((near.length=2/\ tb c.set t=false)∨(x8=2/\ (cB c pos).getD a false=false/\ tb c.set t=true))))∨((a:Int)=near.getD i 0/\ tb c.set t=false)) fun j s _ _=>Iff.rfl
   obtain ⟨l3,f3,hL3⟩:=d9.lose (c:=c) (q:=q) (cell:=near.getD i 0) (ss:=c.set) Ih.1 Ih.2 (D':=fun a t=>((D a t∨((a:Int)∈near.take i/\ ((near.length=2/\ tb c.set t=false)∨(x8=2/\ (cB c pos).getD a false=false/\ tb c.set t=true))))∨((a:Int)=near.getD i 0/\ tb c.set t=false))∨((a:Int)=near.getD i 0/\ tb c.set t=true)) fun j s _ _=>Iff.rfl
   obtain ⟨l4,f4,Yb⟩:=hI.lose (c:=c) (q:=q) (cell:=near.getD i 0) (ss:=c.set) Ih.1 Ih.2 (D':=fun a t=>(D a t∨((a:Int)∈near.take i/\ ((near.length=2/\ tb c.set t=false)∨(x8=2/\ (cB c pos).getD a false=false/\ tb c.set t=true))))∨((a:Int)=near.getD i 0/\ tb c.set t=true)) fun j s _ _=>Iff.rfl
   show ∃ s',UM n (Cc c q pos pos.length lost n) c q pos pos.length lost (pB c pos) (cB c pos) near.length x8 x20 (v:Int) near.length (near.length:Int) (i:Int) s near=_/\ _
   unfold UM;simp only [zAP,zBy];rw [zAU (by omega),zAK,zAA ⟨⟨by omega,by omega⟩,hi⟩];have Ax: ∀ a:Nat,(a:Int)=near.getD i 0 -> (near.getD i 0).toNat=a:=fun a h=>by omega
   by_cases h2:near.length=2
   ·have b2:(((near.length:Nat):Int)==2)=true:=by rw [h2];rfl
    rw [b2,zAK,f2,zAB]
    by_cases h8:x8=2
    ·have b8:(x8==2)=true:=by rw [h8];rfl
     rw [b8,zAK,zAA ⟨by omega,by omega⟩];cases hc:(cB c pos).getD (near.getD i 0).toNat false
     ·rw [zCa,zAK,f3,zAB,zAA r1];refine ⟨l3,rfl,hL3.id' fun a t _ _=>?_⟩;rw [mem];constructor
      ·rintro (h | ⟨h | h,h3 | ⟨h3,h4,h5⟩⟩)
       ·exact .inl (.inl (.inl h))
       ·exact .inl (.inl (.inr ⟨h,.inl h3⟩))
       ·exact .inl (.inl (.inr ⟨h,.inr ⟨h3,h4,h5⟩⟩))
       ·exact .inl (.inr ⟨h,h3.2⟩)
       ·exact .inr ⟨h,h5⟩
      ·rintro (((h | ⟨h,h3⟩) | ⟨h,h3⟩) | ⟨h,h3⟩)
       ·exact .inl h
       ·exact .inr ⟨.inl h,h3⟩
       ·exact .inr ⟨.inr h,.inl ⟨h2,h3⟩⟩
       ·exact .inr ⟨.inr h,.inr ⟨h8,by rw [←Ax a h];exact hc,h3⟩⟩
     ·rw [zCX,zAC,zAA r1];refine ⟨l2,rfl,d9.id' fun a t _ _=>?_⟩;rw [mem];constructor
      ·rintro (h | ⟨h | h,h3 | ⟨h3,h4,h5⟩⟩)
       ·exact .inl (.inl h)
       ·exact .inl (.inr ⟨h,.inl h3⟩)
       ·exact .inl (.inr ⟨h,.inr ⟨h3,h4,h5⟩⟩)
       ·exact .inr ⟨h,h3.2⟩
       ·rw [←Ax a h,hc] at h4;cases h4
      ·rintro ((h | ⟨h,h3⟩) | ⟨h,h3⟩)
       ·exact .inl h
       ·exact .inr ⟨.inl h,h3⟩
       ·exact .inr ⟨.inr h,.inl ⟨h2,h3⟩⟩
    ·have b8:(x8==2)=false:=zCf.2 h8;rw [b8,zAC,zAA r1];refine ⟨l2,rfl,d9.id' fun a t _ _=>?_⟩;rw [mem];constructor
     ·rintro (h | ⟨h | h,h3 | ⟨h3,h4,h5⟩⟩)
      ·exact .inl (.inl h)
      ·exact .inl (.inr ⟨h,.inl h3⟩)
      ·exact .inl (.inr ⟨h,.inr ⟨h3,h4,h5⟩⟩)
      ·exact .inr ⟨h,h3.2⟩
      ·exact absurd h3 h8
     ·rintro ((h | ⟨h,h3⟩) | ⟨h,h3⟩)
      ·exact .inl h
      ·exact .inr ⟨.inl h,h3⟩
      ·exact .inr ⟨.inr h,.inl ⟨h2,h3⟩⟩
   ·have b2:(((near.length:Nat):Int)==2)=false:=zCf.2 (by omega);rw [b2,zAC]
    by_cases h8:x8=2
    ·have b8:(x8==2)=true:=by rw [h8];rfl
     rw [b8,zAK,zAA ⟨by omega,by omega⟩];cases hc:(cB c pos).getD (near.getD i 0).toNat false
     ·rw [zCa,zAK,f4,zAB,zAA r1];refine ⟨l4,rfl,Yb.id' fun a t _ _=>?_⟩;rw [mem];constructor
      ·rintro (h | ⟨h | h,h3 | ⟨h3,h4,h5⟩⟩)
       ·exact .inl (.inl h)
       ·exact .inl (.inr ⟨h,.inl h3⟩)
       ·exact .inl (.inr ⟨h,.inr ⟨h3,h4,h5⟩⟩)
       ·exact absurd h3.1 h2
       ·exact .inr ⟨h,h5⟩
      ·rintro ((h | ⟨h,h3⟩) | ⟨h,h3⟩)
       ·exact .inl h
       ·exact .inr ⟨.inl h,h3⟩
       ·exact .inr ⟨.inr h,.inr ⟨h8,by rw [←Ax a h];exact hc,h3⟩⟩
     ·rw [zCX,zAC,zAA r1];refine ⟨s,rfl,hI.id' fun a t _ _=>?_⟩;rw [mem];constructor
      ·rintro (h | ⟨h | h,h3 | ⟨h3,h4,h5⟩⟩)
       ·exact .inl h
       ·exact .inr ⟨h,.inl h3⟩
       ·exact .inr ⟨h,.inr ⟨h3,h4,h5⟩⟩
       ·exact absurd h3.1 h2
       ·rw [←Ax a h,hc] at h4;cases h4
      ·rintro (h | ⟨h,h3⟩)
       ·exact .inl h
       ·exact .inr ⟨.inl h,h3⟩
    ·have b8:(x8==2)=false:=zCf.2 h8;rw [b8,zAC,zAA r1];refine ⟨s,rfl,hI.id' fun a t _ _=>?_⟩;rw [mem];constructor
     ·rintro (h | ⟨h | h,h3 | ⟨h3,h4,h5⟩⟩)
      ·exact .inl h
      ·exact .inr ⟨h,.inl h3⟩
      ·exact .inr ⟨h,.inr ⟨h3,h4,h5⟩⟩
      ·exact absurd h3.1 h2
      ·exact absurd h3 h8
     ·rintro (h | ⟨h,h3⟩)
      ·exact .inl h
      ·exact .inr ⟨.inl h,h3⟩)
  near.length 0 (n+1) o1 (by omega) (by omega) (hD.id' fun a t _ _=>by simp)
 refine ⟨l',Eq.trans e ?_,h.id' fun a t _ _=>by rw [List.take_length]⟩
 show UM n (Cc c q pos pos.length lost n) c q pos pos.length lost (pB c pos) (cB c pos) near.length x8 x20 (v:Int) near.length (near.length:Int) (near.length:Int) l' near=_
 unfold UM;rw [zAI (by omega),zAC,zAA (Aw.2 ⟨by omega,by omega⟩)]
end
def rD (c:AB)(q:AA)(pos lost:List Int)(x:Bool×List Int):Prop:=(x.1=true↔UP c q pos)/\ (x.1=true -> CY pos lost (Qy c q pos) x.2)
theorem yR (W:Hm c q pos): ∀ (k v:Nat) (o1:List Int),v+k=pos.length -> (∀ u,u<v -> (cB c pos).getD u false=true -> 2<=D1 q.nbrs (pB c pos) u/\ D1 q.nbrs (cB c pos) u<=2) -> CY pos lost (fun a s=>F3 c q pos a s∨∃ u,u<v/\ mG c q pos u a s) o1 ->
 Ai (fun n=>Cc c q pos pos.length lost n (.l1 (pB c pos) (cB c pos) (pos.length:Int) (v:Int) o1)) (rD c q pos lost):=by
 have HF:=W.l1;have Lg:=W.gl;have lp:(pB c pos).length=pos.length:=FX;have lc:(cB c pos).length=pos.length:=FD;intro k
 induction k with
 | zero=>
  intro v o1 e CW hL;have e:v=pos.length:=by omega
  subst e;refine Ev.p (r:=(true,o1)) ⟨1,fun n hn=>?_⟩ ⟨⟨fun _ v hv hc=>CW v hv hc,fun _=>rfl⟩,fun _=>hL⟩;obtain ⟨n,rfl⟩: ∃ k,n=k+1:=⟨n-1,by omega⟩
  show UO n (Cc c q pos pos.length lost n) c q pos pos.length lost (pB c pos) (cB c pos) (pos.length:Int) (pos.length:Int) o1=_
  unfold UO;rw [zAI (by omega),zAC]
 | succ k ih=>
  intro v o1 e CW hL;have hv:v<pos.length:=by omega
  have r1:AH ((v:Int)+1):=Aw.2 ⟨by omega,by omega⟩
  have U: ∀ n,Cc c q pos pos.length lost (n+1) (.l1 (pB c pos) (cB c pos) (pos.length:Int) (v:Int) o1)=bif (cB c pos).getD v false then Cc c q pos pos.length lost n (Nz (pB c pos) (cB c pos) (pos.length:Int) (v:Int) (nb q.nbrs v) o1 [] 0 0) else Cc c q pos pos.length lost n (.l1 (pB c pos) (cB c pos) (pos.length:Int) ((v:Int)+1) o1):=fun n=>by
   show UO n (Cc c q pos pos.length lost n) c q pos pos.length lost (pB c pos) (cB c pos) (pos.length:Int) (v:Int) o1=_
   unfold UO;rw [zAU (by omega),zAK,zAA ⟨by omega,by omega⟩,zAP,zAA r1,zAA ⟨by omega,by omega⟩];cases (cB c pos).getD v false <;> rfl
  cases hc:(cB c pos).getD v false
  ·refine Ai.step 1 (fun n=>?_) (ih (v+1) o1 (by omega) (fun u hu Uf=>?_) (hL.id' fun a s _ _=>?_))
   ·rw [U,hc,zAC];rfl
   ·rcases zBj.1 hu with hu | rfl
    ·exact CW u hu Uf
    ·rw [hc] at Uf;cases Uf
   ·constructor
    ·rintro (h | ⟨u,hu,h⟩)
     ·exact .inl h
     ·rcases zBj.1 hu with hu | rfl
      ·exact .inr ⟨u,hu,h⟩
      ·rw [h.1] at hc;cases hc
    ·rintro (h | ⟨u,hu,h⟩)
     ·exact .inl h
     ·exact .inr ⟨u,by omega,h⟩
  ·have PG:=W.g.gr.row (v:Int) (by omega) (by omega)
   have YI: ∀ u∈nb q.nbrs (v:Int),0<=u/\ u<(pos.length:Int):=fun u hu=>by
    have:=W.g.gr.rng (v:Int) (by omega) (by omega) u hu;omega
   have A:=fun n=>mF (c:=c) (q:=q) (lost:=lost) (o1:=o1) (x20:=(pos.length:Int)) (x21:=(v:Int)) lp lc YI PG (nb q.nbrs v).length 0 n [] 0 (by omega) (by simp) ⟨zFZ _,by omega⟩
   rw [zFt,lx,mM,zFe,Int.zero_add] at A;have dP:D1 q.nbrs (pB c pos) v=((nb q.nbrs v).filter fun x=>(pB c pos).getD x.toNat false).length:=List.countP_eq_length_filter;have dC:D1 q.nbrs (cB c pos) v=(nb q.nbrs v).countP fun x=>(cB c pos).getD x.toNat false:=rfl
   rw [←dC] at A
   generalize Ul:((nb q.nbrs v).filter fun x=>(pB c pos).getD x.toNat false)=near at A dP
   have CS: ∀ u,u∈near↔u∈nb q.nbrs v/\ (pB c pos).getD u.toNat false=true:=fun u=>by rw [←Ul,zGB]
   have Ka:near.length<=256:=by
    have:=zHJ (fun x=>(pB c pos).getD x.toNat false) (nb q.nbrs v);rw [Ul] at this;omega
   have YL: ∀ u∈near,0<=u/\ u<(pos.length:Int):=fun u hu=>YI u ((CS u).1 hu).1
   have U2: ∀ n,Cc c q pos pos.length lost (n+((nb q.nbrs v).length+1)) (.l1 (pB c pos) (cB c pos) (pos.length:Int) (v:Int) o1)=Cc c q pos pos.length lost n (Nz (pB c pos) (cB c pos) (pos.length:Int) (v:Int) (nb q.nbrs v) o1 near (D1 q.nbrs (cB c pos) v:Int) ((nb q.nbrs v).length:Int)):=fun n=>by
    rw [←zCd,U,hc,zAK];exact A n
   refine Ai.step _ U2 ?_
   by_cases hbad:D1 q.nbrs (pB c pos) v<2∨2<D1 q.nbrs (cB c pos) v
   ·have HA: ¬ UP c q pos:=fun h=>by have:=h v hv hc;omega
    refine Ev.p (r:=(false,o1)) ⟨1,fun n hn=>?_⟩ ⟨⟨fun h=>(by cases h),fun h=>absurd h HA⟩,fun h=>(by cases h)⟩;obtain ⟨n,rfl⟩: ∃ k,n=k+1:=⟨n-1,by omega⟩;cases near with
    | nil=>
     show UN n (Cc c q pos pos.length lost n) c q pos pos.length lost (pB c pos) (cB c pos) (D1 q.nbrs (cB c pos) v:Int) (pos.length:Int) (v:Int) (nb q.nbrs v) ((nb q.nbrs v).length:Int) ((nb q.nbrs v).length:Int) o1=_
     unfold UN;rw [zAI (by omega),zAC]
    | cons a l=>
     show Oq n (Cc c q pos pos.length lost n) c q pos pos.length lost (pB c pos) (cB c pos) (a::l).length (D1 q.nbrs (cB c pos) v:Int) (pos.length:Int) (v:Int) (nb q.nbrs v) ((nb q.nbrs v).length:Int) ((nb q.nbrs v).length:Int) o1 (a::l)=_
     unfold Oq;rw [zAI (by omega),zAC]
     by_cases h2:(((a::l).length:Nat):Int)<2
     ·rw [zAU h2,zAK]
     ·rw [zAI h2,zAC,zAU (by omega),zAK]
   ·have AR:near≠[]:=by
     intro h;rw [h,zFd] at dP;omega
    obtain ⟨l',e4,Yb⟩:=qd (c:=c) (q:=q) (lost:=lost) (o1:=o1) (near:=near) (x20:=(pos.length:Int)) (x8:=(D1 q.nbrs (cB c pos) v:Int)) (n:=0) W hL YL Ka hv;have e5: ∀ n,∃ l',Cc c q pos pos.length lost (n+1+near.length) (.l4 (pB c pos) (cB c pos) near.length (D1 q.nbrs (cB c pos) v:Int) (pos.length:Int) (v:Int) near.length (near.length:Int) 0 o1 near)=Cc c q pos pos.length lost n (.l1 (pB c pos) (cB c pos) (pos.length:Int) ((v:Int)+1) l')/\ _:=fun n=>qd (c:=c) (q:=q) (lost:=lost) (o1:=o1) (near:=near) (x20:=(pos.length:Int)) (x8:=(D1 q.nbrs (cB c pos) v:Int)) (n:=n) W hL YL Ka hv
    have IH:=ih (v+1) l' (by omega) (fun u hu Uf=>by
     rcases zBj.1 hu with hu | rfl
     ·exact CW u hu Uf
     ·omega) (Yb.id' fun a s _ _=>by
     constructor
     ·rintro (h | ⟨u,hu,h⟩)
      ·exact .inl (.inl h)
      ·rcases zBj.1 hu with hu | rfl
       ·exact .inl (.inr ⟨u,hu,h⟩)
       ·obtain ⟨h1,h2,h3,h4⟩:=h;refine .inr ⟨(CS _).2 ⟨h2,by rw [zAP];exact h3⟩,?_⟩;rcases h4 with ⟨h4,h5⟩ | ⟨h4,h5⟩
        ·exact .inl ⟨by omega,h5⟩
        ·exact .inr ⟨by omega,h5⟩
     ·rintro ((h | ⟨u,hu,h⟩) | ⟨h1,h2⟩)
      ·exact .inl h
      ·exact .inr ⟨u,by omega,h⟩
      ·obtain ⟨h3,h4⟩:=(CS _).1 h1;rw [zAP] at h4;refine .inr ⟨v,by omega,hc,h3,h4,?_⟩;rcases h2 with ⟨h2,h5⟩ | ⟨h2,h5⟩
       ·exact .inl ⟨by omega,h5⟩
       ·exact .inr ⟨by omega,h5⟩)
    refine Ai.step (1+near.length+1) (g:=fun n=>Cc c q pos pos.length lost n (.l1 (pB c pos) (cB c pos) (pos.length:Int) ((v:Int)+1) l')) (fun n=>?_) IH;obtain ⟨l2,e6,hL6⟩:=e5 n;have:l2=l':=hL6.unique Yb;subst this;rw [jE AR,show n+(1+near.length+1)=n+1+near.length+1 by omega,←e6]
    show Oq (n+1+near.length) (Cc c q pos pos.length lost (n+1+near.length)) c q pos pos.length lost (pB c pos) (cB c pos) near.length (D1 q.nbrs (cB c pos) v:Int) (pos.length:Int) (v:Int) (nb q.nbrs v) ((nb q.nbrs v).length:Int) ((nb q.nbrs v).length:Int) o1 near=_
    unfold Oq;rw [zAI (by omega),zAC,zAI (by omega),zAC,zAI (by omega),zAC]
theorem yS (W:Hm c q pos)(hL:CY pos lost (fun _ _=>False) lost):Ai (fun n=>Xg n c q pos pos.length lost) (rD c q pos lost):=by
 have HF:=W.l1;obtain ⟨r,_,hF⟩:=X8 (l:=cB c pos) (by rw [FD];exact HF);obtain ⟨l0,h1,h2⟩:=lz W hL hF;refine Ai.bind h1 (b:=fun n y1=>Cc c q pos pos.length lost n (.l1 y1.1 y1.2.1 (y1.2.1.length:Int) 0 y1.2.2.2)) ?_;have:=yR (q:=q) W pos.length 0 l0 (by omega) (fun u hu=>absurd hu (zBk u)) (h2.id' fun a s _ _=>⟨fun h=>h.elim id fun ⟨u,hu,_⟩=>absurd hu (zBk u),.inl⟩);refine this.eq fun n=>?_
 show Cc c q pos pos.length lost n (.l1 (pB c pos) (cB c pos) ((cB c pos).length:Int) 0 l0)=_
 rw [FD];rfl
end
set_option maxRecDepth 100000
set_option maxHeartbeats 40000000
theorem uR:Az (A4 Tryz.f99 6) [([0,1,2,3,4,5,6,7,8],9),([10],11)] [12] []:=by unfold Az;kernel_rfl
theorem uS:Az (A4 Tryz.f99 13) [] (List.range 13) [13]:=by unfold Az;kernel_rfl
def EH:Bi:=fun i=>match i with
 | 6=>.ord [([0,1,2,3,4,5,6,7,8],9),([10],11)] [12] []
 | 13=>.ord [] (List.range 13) [13]
 | _=>.no
def zBL (q:AA)(pos:List Int):DH:=[oC (AG q),oC [.cst .nilFunc,.fn 106 0 (L1 []),.fn 107 0 (L1 []),.fn 108 0 (L1 []),.fn 109 0 (L1 []),.fn 110 0 (L1 []),.fn 111 0 (L1 []),.fn 112 0 (L1 []),.fn 113 0 (L1 []),.fn 114 0 (L1 [])],oI (List.replicate pos.length (0:Int))]
def LY (q:AA)(pos:List Int)(i:Int):DH:=[oC (AG q),oC [.cst .nilFunc,.fn 106 0 (L1 []),.fn 107 0 (L1 []),.fn 108 0 (L1 []),.fn 109 0 (L1 []),.fn 110 0 (L1 []),.fn 111 0 (L1 []),.fn 112 0 (L1 []),.fn 113 0 (L1 []),.fn 114 0 (L1 [])],oI (List.replicate pos.length (0:Int)),oI (List.replicate pos.length (0:Int)),oC (CO (q.cons.getD ((i).toNat) default)++AG q++[.ints pos,.msl 3 1 0 pos.length])]
def zBK (pos:List Int)(q:AA)(i:Int)(o2:List Int):DH:=[oI (List.replicate pos.length (0:Int)),oC (CO (q.cons.getD ((i).toNat) default)++AG q++[.ints pos,.msl 2 1 0 pos.length]),oI o2]
def zBJ (pos:List Int)(q:AA)(i:Int)(o2 o3:List Int):DH:=[oI (List.replicate pos.length (0:Int)),oC (CO (q.cons.getD ((i).toNat) default)++AG q++[.ints pos,.msl 2 1 0 pos.length]),oI o2,oI o3]
inductive Ts where
 | l1 (o2:List Int)
 | l2 (x10:Nat) (MC CA:Int) (o2 o3:List Int)
def ak (n:Nat)(self:Ts -> Option ((List Int)))(q:AA)(i:Int)(pos:List Int)(o2:List Int):Option ((List Int)):= (ZE n pos).bind fun y1=> self (.l2 y1.length (y1.length:Int) 0 o2 y1)
def Tq (n:Nat)(self:Ts -> Option ((List Int)))(q:AA)(i:Int)(pos:List Int)(x10:Nat)(MC CA:Int)(o2 o3:List Int):Option ((List Int)):= bif (decide (CA<MC)) then if (0<=CA/\ CA<(x10:Int))/\ 0+((CA).toNat)<o3.length/\ (0<=CA/\ CA<(pos.length:Int))/\ 0+((CA).toNat)<o2.length/\ AH (CA+1) then self (.l2 x10 MC (CA+1) o2 (o3.set (0+((CA).toNat)) (bits .andNot .i64 (o3.getD (0+((CA).toNat)) 0) (o2.getD (0+((CA).toNat)) 0)))) else none else if x10=o3.length then (GP n o3).bind fun y1=> bif y1 then if pos.length=(List.replicate pos.length (0:Int)).length then some (List.replicate pos.length (0:Int)) else none else some o3 else none
def al (n:Nat)(self:Ts -> Option ((List Int)))(q:AA)(i:Int)(pos:List Int):Option ((List Int)):= if ((pos.length:Int):Int)=(pos.length:Int)/\ 0<=(pos.length:Int)/\ ((pos.length:Int):Int)<=1000000000000 then (GP n pos).bind fun y1=> bif y1 then if pos.length=(List.replicate pos.length (0:Int)).length then some (List.replicate pos.length (0:Int)) else none else if 0<=i/\ i<(q.cons.length:Int) then bif (((q.cons.getD ((i).toNat) default).kind)==0) then none else bif (((q.cons.getD ((i).toNat) default).kind)==1) then (Rr n (q.cons.getD ((i).toNat) default) q pos pos.length (List.replicate pos.length (0:Int))).bind fun y2=> bif (!y2.1) then if pos.length=(List.replicate pos.length (0:Int)).length then some (List.replicate pos.length (0:Int)) else none else self (.l1 y2.2) else bif (((q.cons.getD ((i).toNat) default).kind)==2) then (Ru n (q.cons.getD ((i).toNat) default) q pos pos.length (List.replicate pos.length (0:Int))).bind fun y2=> bif (!y2.1) then if pos.length=(List.replicate pos.length (0:Int)).length then some (List.replicate pos.length (0:Int)) else none else self (.l1 y2.2) else bif (((q.cons.getD ((i).toNat) default).kind)==3) then (QV n (q.cons.getD ((i).toNat) default) q pos pos.length (List.replicate pos.length (0:Int))).bind fun y2=> bif (!y2.1) then if pos.length=(List.replicate pos.length (0:Int)).length then some (List.replicate pos.length (0:Int)) else none else self (.l1 y2.2) else bif (((q.cons.getD ((i).toNat) default).kind)==4) then (Mc n (q.cons.getD ((i).toNat) default) q pos pos.length (List.replicate pos.length (0:Int))).bind fun y2=> bif (!y2.1) then if pos.length=(List.replicate pos.length (0:Int)).length then some (List.replicate pos.length (0:Int)) else none else self (.l1 y2.2) else bif (((q.cons.getD ((i).toNat) default).kind)==5) then (Qc n (q.cons.getD ((i).toNat) default) q pos pos.length (List.replicate pos.length (0:Int))).bind fun y2=> bif (!y2.1) then if pos.length=(List.replicate pos.length (0:Int)).length then some (List.replicate pos.length (0:Int)) else none else self (.l1 y2.2) else bif (((q.cons.getD ((i).toNat) default).kind)==6) then (Pw n (q.cons.getD ((i).toNat) default) q pos pos.length (List.replicate pos.length (0:Int))).bind fun y2=> bif (!y2.1) then if pos.length=(List.replicate pos.length (0:Int)).length then some (List.replicate pos.length (0:Int)) else none else self (.l1 y2.2) else bif (((q.cons.getD ((i).toNat) default).kind)==7) then (Od n (q.cons.getD ((i).toNat) default) q pos pos.length (List.replicate pos.length (0:Int))).bind fun y2=> bif (!y2.1) then if pos.length=(List.replicate pos.length (0:Int)).length then some (List.replicate pos.length (0:Int)) else none else self (.l1 y2.2) else bif (((q.cons.getD ((i).toNat) default).kind)==8) then (ZA n (q.cons.getD ((i).toNat) default) q pos pos.length (List.replicate pos.length (0:Int))).bind fun y2=> bif (!y2.1) then if pos.length=(List.replicate pos.length (0:Int)).length then some (List.replicate pos.length (0:Int)) else none else self (.l1 y2.2) else bif (((q.cons.getD ((i).toNat) default).kind)==9) then (Xg n (q.cons.getD ((i).toNat) default) q pos pos.length (List.replicate pos.length (0:Int))).bind fun y2=> bif (!y2.1) then if pos.length=(List.replicate pos.length (0:Int)).length then some (List.replicate pos.length (0:Int)) else none else self (.l1 y2.2) else none else none else none
def JN (q:AA)(i:Int)(pos:List Int):Nat -> Ts -> Option ((List Int))
 | 0,_=>none
 | n+1,.l1 o2=>ak n (JN q i pos n) q i pos o2
 | n+1,.l2 x10 MC CA o2 o3=>Tq n (JN q i pos n) q i pos x10 MC CA o2 o3
def KG (n:Nat)(q:AA)(i:Int)(pos:List Int):Option ((List Int)):=al n (JN q i pos n) q i pos
def wd (n B:Nat)(N:Yd 0)(q:AA)(i:Int)(pos:List Int)(r:(List Int)):Ts -> Prop
 | .l1 o2=>TW B N (FQ Tryz.f99 0 (.ints r) []) (EU (AY Tryz.f99) 9 []) ⟨AF 69 [(2,.ints pos),(8,.msl 0 1 0 pos.length),(9,.ref 1 0)],[oI (List.replicate pos.length (0:Int)),oC (CO (q.cons.getD ((i).toNat) default)++AG q++[.ints pos,.msl 2 1 0 pos.length]),oI o2]⟩
 | .l2 x10 MC CA o2 o3=>∀ m0:Nat,n<=m0 -> TW B N (FQ Tryz.f99 0 (.ints r) []) (Ax m0 (A7 (AY Tryz.f99) 0 [])) ⟨AF 69 [(8,.msl 0 1 0 pos.length),(9,.ref 1 0),(10,.msl 3 1 0 x10),(47,.i MC),(48,.i CA)],[oI (List.replicate pos.length (0:Int)),oC (CO (q.cons.getD ((i).toNat) default)++AG q++[.ints pos,.msl 2 1 0 pos.length]),oI o2,oI o3]⟩
theorem we (B:Nat)(N:Yd 0)(q:AA)(i:Int)(pos:List Int):Al (JN q i pos) (wd · B N q i pos):=ia (fun _=>rfl) fun n AJ pt r h=>by
 cases pt
 case l1 o2=>
  revert r;apply gO;exact cn fun y1 Au=>jc (ES.snapNew (ds:=[.ints pos]) (zEG Au) (zBK pos q i o2) (fl (by kernel_rfl)) rfl) (lN EH [0,1,2,3] (AJ _ _ · n Nat.le.refl))
 case l2 x10 MC CA o2 o3=>
  intro m0 AC;refine rd AC fun m0 AC=>?_
  revert r;apply gO;exact bi 49 (jg uS (gc (gn fun g0=>jg g0 (gc (gn fun g1=>jg g1 (gc (gi (gc (gi (jg g0 (jg g1 (gw 64 (lG (AX 9 EH) [0,1,2,3] (AJ _ _ · m0 AC)))))))))))))) (gn fun g0=>cn fun y1 Au=>jc (sb [.msl 3 1 0 x10] (O0 Au) (zBJ pos q i o2 o3) ⟨Aq.ints rfl g0,trivial⟩) (bi 66 (gn fun g1=>lF fun p=>ez (AX 9 EH) [6] [0] p [0] (H0.g g1)) (lF fun p=>ez (AX 9 EH) [6] [3] p [0] (H0.g g0))))
theorem wc {n:Nat}{q:AA}{i:Int}{pos:List Int}{r:(List Int)}(h:KG n q i pos=some r):EQ 99 [.agg 5 (L1 (AG q)),.i i,.ints pos] [] (.ints r) [] true:=by
 have AJ:=fun B N=>(we B N q i pos n)
 refine ot Tryz.func99 fun B N=>?_
 revert r;apply gO;exact jt (gn fun g0=>jg g0 (cf O0 (zBL q pos) fun _=>bi 18 (gn fun g1=>lF fun p=>ez (AX 9 EH) [6] [2] p [0] (H0.g g1)) (jg uR (gi (jg g0 (bn (fun c1=>nO) (fun c1=>bn (fun c3=>jo 36 (AL.int (k:=.i64) (eq_of_beq c3)) (jg (by decide:(0:Int)<=1/\ 1<((10:Nat):Int)) (ce zDm [4,3] (LY q pos i) fun _=>bi 42 (gn fun g2=>lF fun p=>ez (AX 9 EH) [6] [2] p [0] (H0.g g2)) (lG (AX 9 EH) [2,4,3] ((AJ B N) _ _ ·))))) (fun c3=>bn (fun c5=>jo 36 (AL.int (k:=.i64) (eq_of_beq c5)) (jg (by decide:(0:Int)<=2/\ 2<((10:Nat):Int)) (ce zDw [4,3] (LY q pos i) fun _=>bi 42 (gn fun g2=>lF fun p=>ez (AX 9 EH) [6] [2] p [0] (H0.g g2)) (lG (AX 9 EH) [2,4,3] ((AJ B N) _ _ ·))))) (fun c5=>bn (fun c7=>jo 36 (AL.int (k:=.i64) (eq_of_beq c7)) (jg (by decide:(0:Int)<=3/\ 3<((10:Nat):Int)) (ce sd [4,3] (LY q pos i) fun _=>bi 42 (gn fun g2=>lF fun p=>ez (AX 9 EH) [6] [2] p [0] (H0.g g2)) (lG (AX 9 EH) [2,4,3] ((AJ B N) _ _ ·))))) (fun c7=>bn (fun c9=>jo 36 (AL.int (k:=.i64) (eq_of_beq c9)) (jg (by decide:(0:Int)<=4/\ 4<((10:Nat):Int)) (ce vl [4,3] (LY q pos i) fun _=>bi 42 (gn fun g2=>lF fun p=>ez (AX 9 EH) [6] [2] p [0] (H0.g g2)) (lG (AX 9 EH) [2,4,3] ((AJ B N) _ _ ·))))) (fun c9=>bn (fun Vs=>jo 36 (AL.int (k:=.i64) (eq_of_beq Vs)) (jg (by decide:(0:Int)<=5/\ 5<((10:Nat):Int)) (ce vB [4,3] (LY q pos i) fun _=>bi 42 (gn fun g2=>lF fun p=>ez (AX 9 EH) [6] [2] p [0] (H0.g g2)) (lG (AX 9 EH) [2,4,3] ((AJ B N) _ _ ·))))) (fun Vs=>bn (fun Vr=>jo 36 (AL.int (k:=.i64) (eq_of_beq Vr)) (jg (by decide:(0:Int)<=6/\ 6<((10:Nat):Int)) (ce zE4 [4,3] (LY q pos i) fun _=>bi 42 (gn fun g2=>lF fun p=>ez (AX 9 EH) [6] [2] p [0] (H0.g g2)) (lG (AX 9 EH) [2,4,3] ((AJ B N) _ _ ·))))) (fun Vr=>bn (fun Vq=>jo 36 (AL.int (k:=.i64) (eq_of_beq Vq)) (jg (by decide:(0:Int)<=7/\ 7<((10:Nat):Int)) (ce xf [4,3] (LY q pos i) fun _=>bi 42 (gn fun g2=>lF fun p=>ez (AX 9 EH) [6] [2] p [0] (H0.g g2)) (lG (AX 9 EH) [2,4,3] ((AJ B N) _ _ ·))))) (fun Vq=>bn (fun Vp=>jo 36 (AL.int (k:=.i64) (eq_of_beq Vp)) (jg (by decide:(0:Int)<=8/\ 8<((10:Nat):Int)) (ce zD8 [4,3] (LY q pos i) fun _=>bi 42 (gn fun g2=>lF fun p=>ez (AX 9 EH) [6] [2] p [0] (H0.g g2)) (lG (AX 9 EH) [2,4,3] ((AJ B N) _ _ ·))))) (fun Vp=>bn (fun SB=>jo 36 (AL.int (k:=.i64) (eq_of_beq SB)) (jg (by decide:(0:Int)<=9/\ 9<((10:Nat):Int)) (ce yT [4,3] (LY q pos i) fun _=>bi 42 (gn fun g2=>lF fun p=>ez (AX 9 EH) [6] [2] p [0] (H0.g g2)) (lG (AX 9 EH) [2,4,3] ((AJ B N) _ _ ·))))) (fun SB=>nO))))))))))))))))
def k7 (n:Nat)(q:AA)(i:Int)(pos:List Int):Option ((List Int)×Int):= (Rz n q i pos).bind fun y1=> bif (y1 != 0) then some (([]:List Int),y1) else (KG n q i pos).bind fun y2=> some (y2,0)
def OR (n:Nat)(q:AA)(i:Int)(pos:List Int):Option ((List Int)×Int):=k7 n q i pos
theorem k6 {n:Nat}{q:AA}{i:Int}{pos:List Int}{r:(List Int)×Int}(h:OR n q i pos=some r):EQ 83 [.agg 5 (L1 (AG q)),.i i,.ints pos] [] (.tup 2 (L1 [.ints r.1,.i r.2])) [] true:=by
 unfold OR k7 at h;refine ot Tryz.func83 fun B N=>?_
 revert r;apply gO;exact cf zEM [oC (AG q)] fun y1=>bi 14 (lF fun p=>el AD [6,7] [] p [] H0 [.nils,.i y1] (AL.tupL (l:=[.nils,.i y1]) (l':=[.ints ([]:List Int),.i y1]) rfl ⟨AL.ints_nil,Ay,trivial⟩)) (cf wc [oC (AG q)] fun _=>lE AD [6,7] [])
end Go.Proofs.YtodinaconebmdaaGreatDoor
namespace Go.Proofs.YtodinaconebmdaaGreatDoor
open Go.RowKit
def BZ (pos:List Int):Bool:=pos.any (· ==0)
theorem HM {pos:List Int}:BZ pos=false↔∀ j,j<pos.length -> pos.getD j 0≠0:=by
 unfold BZ;rw [List.any_eq_false];constructor
 ·intro h j hj e;refine h (pos.getD j 0) ?_ (by rw [e];rfl);rw [u8,zAE hj];exact zB0 hj
 ·intro h x hx;obtain ⟨j,hj,rfl⟩:=zEk hx;have:=h j hj;rw [u8,zAE hj] at this;simpa using this
theorem pd {pos:List Int}{n:Nat}(hl:pos.length<=LB)(hn:pos.length<n):VZ n pos=some (BZ pos):=by
 have hb:LB<=9223372036854775806:=by decide
 have key: ∀ (k i n:Nat),i+k=pos.length -> k+1<=n -> Rt pos n (.l1 (i:Int))=some ((pos.drop i).any (· ==0)):=by
  intro k
  induction k with
  | zero=>
   intro i n e hn;obtain ⟨n,rfl⟩: ∃ k,n=k+1:=⟨n-1,by omega⟩
   show VY n (Rt pos n) pos (i:Int)=_
   unfold VY;rw [zAI (by omega),zAC,zCc (by omega)];rfl
  | succ k ih=>
   intro i n e hn;obtain ⟨n,rfl⟩: ∃ k,n=k+1:=⟨n-1,by omega⟩;have hi:i<pos.length:=by omega
   have e2:pos.drop i=pos.getD i 0::pos.drop (i+1):=by
    rw [zBw hi,u8,zAE hi];rfl
   have:=ih (i+1) n (by omega) (by omega)
   show VY n (Rt pos n) pos (i:Int)=_
   unfold VY;rw [zAU (by omega),zAK,zAA ⟨by omega,by omega⟩,zAA (Aw.2 ⟨by omega,by omega⟩),zAP,e2,List.any_cons];cases h:(pos.getD i 0==0)
   ·rw [zAC,zFq];exact this
   ·rfl
 have:=key pos.length 0 n (by omega) (by omega);unfold VZ pb;exact this
theorem Mt {pos:List Int}{n:Nat}(hl:pos.length<=LB)(hn:pos.length<n):GP n pos=some (BZ pos):=by
 unfold GP bv;rw [pd hl hn];rfl
def posOk (q:AA)(pos:List Int):Bool:=((pos.length:Int)==q.cells)&&pos.all fun x=>decide (0<=x)&&decide (x<2 ^ q.symbols.toNat)
def C4 (q:AA)(pos:List Int):Int:=if DG q then (if posOk q pos then 0 else 250) else 191
section
variable {q:AA} {i:Int} {pos:List Int} {n:Nat}
theorem aq (hF:EC q)(hn:GE q<=n)(hl:pos.length<=LB)(HB:pos.length<n):Ew n q pos=some (C4 q pos):=by
 have hb:LB<=9223372036854775806:=by decide
 unfold Ew lH C4;rw [gu hF hn,zAB];cases hv:DG q with
 | false=>rfl
 | true=>
  obtain ⟨_,hs,_⟩:=EF hv;obtain ⟨p1,p2,p3⟩:=k9 hs.1 hs.2
  show (bif ((pos.length:Int) != q.cells) then some 250 else OU q pos n (.l1 0))=some (if posOk q pos=true then 0 else 250)
  unfold posOk
  by_cases Af:(pos.length:Int)=q.cells
  ·have h1:((pos.length:Int) != q.cells)=false:=by simpa using Af
   have h2:((pos.length:Int)==q.cells)=true:=by simpa using Af
   rw [h1,zAC,h2,zCj]
   have key: ∀ (k i n:Nat),i+k=pos.length -> k+1<=n -> OU q pos n (.l1 (i:Int))=some (if ((pos.drop i).all fun x=>decide (0<=x)&&decide (x<2 ^ q.symbols.toNat))=true then 0 else 250):=by
    intro k
    induction k with
    | zero=>
     intro i n e hn;obtain ⟨n,rfl⟩: ∃ k,n=k+1:=⟨n-1,by omega⟩
     show Tw n (OU q pos n) q pos (i:Int)=_
     unfold Tw;rw [zAI (by omega),zAC,zCc (by omega)];rfl
    | succ k ih=>
     intro i n e hn;obtain ⟨n,rfl⟩: ∃ k,n=k+1:=⟨n-1,by omega⟩;have hi:i<pos.length:=by omega
     have e2:pos.drop i=pos.getD i 0::pos.drop (i+1):=by
      rw [zBw hi,u8,zAE hi];rfl
     have:=ih (i+1) n (by omega) (by omega)
     show Tw n (OU q pos n) q pos (i:Int)=_
     unfold Tw;rw [zAU (by omega),zAK,zAA ⟨by omega,by omega⟩,zAA p3,zAA (Aw.2 ⟨by omega,by omega⟩),zAP,e2,zGY,p1]
     by_cases c1:pos.getD i 0<0
     ·rw [zAU c1,zAK,zAI (p:=0<=pos.getD i 0) (by omega)];rfl
     ·rw [zAI c1,zAC,zAU (p:=0<=pos.getD i 0) (by omega),zCj]
      by_cases c2:pos.getD i 0>=2 ^ q.symbols.toNat
      ·rw [zAU c2,zAK,zAI (p:=pos.getD i 0<2 ^ q.symbols.toNat) (by omega)];rfl
      ·rw [zAI c2,zAC,zAU (p:=pos.getD i 0<2 ^ q.symbols.toNat) (by omega),zCj];exact this
   exact key pos.length 0 n (by omega) (by omega)
  ·have h1:((pos.length:Int) != q.cells)=true:=by simpa using Af
   have h2:((pos.length:Int)==q.cells)=false:=by simpa using Af
   rw [h1,zAK,h2,zFu];rfl
def Jn (q:AA)(i:Int)(pos:List Int):Int:=if (Id q i).2=0 then C4 q pos else (Id q i).2
theorem zEN (hF:EC q)(hn:GE q<=n)(hl:pos.length<=LB)(HB:pos.length<n):Rz n q i pos=some (Jn q i pos):=by
 unfold Rz fL Jn;rw [bf hF hn,zAB,aq hF hn hl HB,zAB]
 by_cases h:(Id q i).2=0
 ·have:((Id q i).2 != 0)=false:=by simpa using h
  rw [this,zAA h];rfl
 ·have:((Id q i).2 != 0)=true:=by simpa using h
  rw [this,zAY h];rfl
structure Bt (q:AA)(i:Int)(pos:List Int):Prop where
 fit:EC q
 valid:DG q=true
 i0:0<=i
 i1:i<(q.cons.length:Int)
 pos:posOk q pos=true
def con (q:AA)(i:Int):AB:=q.cons.getD i.toNat default
theorem Bt.of (hF:EC q)(h:Jn q i pos=0):Bt q i pos:=by
 unfold Jn Id C4 at h
 by_cases hv:DG q=false
 ·rw [zAA hv] at h;rw [zAY (by decide)] at h;exact absurd h (by decide)
 ·rw [zAY hv] at h;have hv:DG q=true:=by simpa using hv
  by_cases hi:0<=i/\ i<(q.cons.length:Int)
  ·rw [zAA hi,zAA rfl,zAA hv] at h
   by_cases hp:posOk q pos=true
   ·exact ⟨hF,hv,hi.1,hi.2,hp⟩
   ·rw [zAY hp] at h;exact absurd h (by decide)
  ·rw [zAY hi,zAY (by decide)] at h;exact absurd h (by decide)
theorem Bt.check (C:Bt q i pos):Jn q i pos=0:=by
 have h1:Id q i=(Ic ((q.cons.getD i.toNat default).kind),0):=by
  unfold Id;rw [zAY (by rw [C.valid];exact fun h=>by cases h),zAA ⟨C.i0,C.i1⟩]
 unfold Jn C4;rw [h1,zAA rfl,zAA C.valid,zAA C.pos]
theorem Bt.mem (C:Bt q i pos):con q i∈q.cons:=by
 have h:=C.i0;have h1:=C.i1;unfold con;rw [u8,zAE (by omega)];exact zB0 _
theorem Bt.fine (C:Bt q i pos):Fg q (con q i)=true:=(EF C.valid).2.2.2.2.2 _ C.mem
theorem Bt.kind (C:Bt q i pos):GO q.cells (con q i).kind (con q i).cells.length=true:=mg C.fine
theorem Bt.len (C:Bt q i pos):(pos.length:Int)=q.cells:=by
 have h:=C.pos;unfold posOk at h;rw [zAO,zCR] at h;exact h.1
theorem Bt.sm (C:Bt q i pos): ∀ j,j<pos.length -> Sm q.symbols.toNat (pos.getD j 0):=by
 intro j hj;have h:=C.pos;unfold posOk at h;rw [zAO,zAX] at h;have hm:pos.getD j 0∈pos:=by rw [u8,zAE hj];exact zB0 hj
 have:=h.2 _ hm;rw [zAO,zBq,zBq] at this;exact this
theorem Bt.len256 (C:Bt q i pos):0<pos.length/\ pos.length<=256:=by
 have h:=(EF C.valid).1;have:=C.len;omega
theorem Bt.cells (C:Bt q i pos):(∀ x∈(con q i).cells,0<=x/\ x<q.cells)/\ (con q i).cells.Nodup/\ (8<=(con q i).kind -> ∀ j,j<(con q i).cells.length -> (con q i).cells.getD j 0=(j:Int)):=by
 have h:=C.fine;unfold Fg at h;simp only [zAO] at h;exact p7.1 h.1.1.1.1.1
theorem Bt.work (C:Bt q i pos):CI (con q i) q.symbols.toNat pos:=by
 obtain ⟨h1,h2,_⟩:=C.cells;have hl:=C.len;have h3:=(EF C.valid).1;have h4:=(EF C.valid).2.1;refine ⟨fun a ha=>?_,?_,C.sm,by omega⟩
 ·rw [hl];refine h1 _ ?_;rw [u8,zAE ha];exact zB0 ha
 ·have:=UB pos.length _ h2 fun x hx=>by rw [hl];exact h1 x hx
  omega
theorem Bt.vals (C:Bt q i pos):Ga q q.symbols.toNat:=by
 obtain ⟨_,h2,⟨h3,h4⟩,_⟩:=EF C.valid;rw [gY] at h4;refine ⟨by omega,fun s hs=>h4 _ ?_⟩;rw [u8,zAE (by omega)];exact zB0 _
theorem Bt.runs (C:Bt q i pos):I5 (con q i):=by
 have h:=C.fine;unfold Fg at h;simp only [zAO,zBq] at h;have h2:=gY.1 h.2;refine ⟨by have:=h.1.2;omega,fun j hj=>(h2 _ ?_).2⟩;rw [u8,zAE hj];exact zB0 hj
theorem Bt.two (C:Bt q i pos)(hk:(con q i).kind=6∨(con q i).kind=7):(con q i).cells.length=2:=by
 have h:=C.kind;unfold GO at h;rcases hk with hk | hk <;> rw [hk] at h <;> simpa using h
theorem Bt.all (C:Bt q i pos)(hk:(con q i).kind=8∨(con q i).kind=9)(hd:BZ pos=false):Hm (con q i) q pos:=by
 have h:=C.kind;have hl:=C.len;have Ez:=C.len256
 have h1:((con q i).cells.length:Int)=q.cells:=by
  unfold GO at h;rcases hk with hk | hk <;> rw [hk] at h <;> simpa using h
 obtain ⟨_,_,_,⟨h5,h6⟩,_⟩:=EF C.valid;exact ⟨by omega,fun j hj=>C.cells.2.2 (by omega) j (by omega),⟨h6,C.fit.nbrs⟩,by omega,Ez.1,Ez.2,fun j hj=>⟨(C.sm j hj).in64 (zAa C.work.k (by decide)),HM.1 hd j hj⟩⟩
end
def Oa (q:AA)(c:AB)(pos:List Int):Prop:= (c.kind=2 -> NW c pos=true)/\ (c.kind=3 -> MI q c pos=true)/\ (c.kind=5 -> MV c=true)/\ (c.kind=9 -> UP c q pos)
def C5 (q:AA)(c:AB)(pos:List Int)(a s:Nat):Prop:= (c.kind=1/\ Rs c pos a s)∨(c.kind=2/\ Jk c pos a s=true)∨(c.kind=3/\ JB q c pos a s=true)∨(c.kind=4/\ J9 q c pos a s=true)∨(c.kind=5/\ K3 c pos a s)∨ (c.kind=6/\ Hb (Ob q c) c pos a s)∨(c.kind=7/\ Hb (Mk c) c pos a s)∨(c.kind=8/\ Jm c q pos a s)∨(c.kind=9/\ Qy c q pos a s)
def KP (q:AA)(c:AB)(pos:List Int)(r:Bool×List Int):Prop:=(r.1=true↔Oa q c pos)/\ (r.1=true -> B5 c pos (List.replicate pos.length 0) c.cells.length (C5 q c pos) r.2)
def LC (q:AA)(c:AB)(pos:List Int)(j s:Nat):Prop:=∃ a,a<c.cells.length/\ (c.cells.getD a 0).toNat=j/\ C5 q c pos a s
structure Kr (q:AA)(c:AB)(pos:List Int):Prop where
 nz: ∀ j,j<pos.length -> pos.getD j 0≠0
 ok:Oa q c pos
 left: ∀ j,j<pos.length -> ∃ s,s<64/\ tb (pos.getD j 0) s=true/\ ¬ LC q c pos j s
structure PR (q:AA)(c:AB)(pos x:List Int):Prop where
 len:x.length=pos.length
 live:Kr q c pos -> ∀ j,j<pos.length -> B4 (x.getD j 0)/\ ∀ s,tb (x.getD j 0) s=true↔tb (pos.getD j 0) s=true/\ ¬ LC q c pos j s
 dead: ¬ Kr q c pos -> x=List.replicate pos.length 0
theorem PR.uniq {q:AA}{c:AB}{pos:List Int}(x y:List Int)(h:PR q c pos x)(h':PR q c pos y):x=y:=by
 by_cases hA:Kr q c pos
 ·have e:x.length=y.length:=h.len.trans h'.len.symm;refine zGU e fun j h1 h2=>?_
  have hj:j<pos.length:=by rw [←h.len];exact h1
  have e1:x.getD j 0=x[j]:=by simp [h1]
  have e2:y.getD j 0=y[j]:=by simp [h2]
  rw [←e1,←e2];refine MH (h.live hA j hj).1 (h'.live hA j hj).1 fun s _=>?_
  rw [zFk,(h.live hA j hj).2,(h'.live hA j hj).2]
 ·rw [h.dead hA,h'.dead hA]
section
variable {q:AA} {i:Int} {pos:List Int}
theorem L8:(List.replicate pos.length (0:Int)).length=pos.length:=zB1
theorem QB (j:Nat):(List.replicate pos.length (0:Int)).getD j 0=0:=by
 rw [u8,zCe];split <;> rfl
theorem ZZ: ∀ j,B4 ((List.replicate pos.length (0:Int)).getD j 0):=fun j=>by rw [QB];exact ⟨by decide,by decide⟩
theorem gF:CY pos (List.replicate pos.length 0) (fun _ _=>False) (List.replicate pos.length 0):=⟨⟨L8,ZZ⟩,fun j s=>by simp⟩
theorem B5.congr {c:AB}{lost l:List Int}{D D':Nat -> Nat -> Prop}{m:Nat}(h:B5 c pos lost m D l)(hD: ∀ a s,D' a s↔D a s):B5 c pos lost m D' l:=by
 refine ⟨h.1,fun j s=>?_⟩;rw [h.2];simp only [hD]
def IS (n:Nat)(q:AA)(c:AB)(pos:List Int):Option (Bool×List Int):= bif c.kind==1 then Rr n c q pos pos.length (List.replicate pos.length 0) else bif c.kind==2 then Ru n c q pos pos.length (List.replicate pos.length 0) else bif c.kind==3 then QV n c q pos pos.length (List.replicate pos.length 0) else bif c.kind==4 then Mc n c q pos pos.length (List.replicate pos.length 0) else bif c.kind==5 then Qc n c q pos pos.length (List.replicate pos.length 0) else bif c.kind==6 then Pw n c q pos pos.length (List.replicate pos.length 0) else bif c.kind==7 then Od n c q pos pos.length (List.replicate pos.length 0) else bif c.kind==8 then ZA n c q pos pos.length (List.replicate pos.length 0) else bif c.kind==9 then Xg n c q pos pos.length (List.replicate pos.length 0) else none
theorem vX (C:Bt q i pos)(hd:BZ pos=false):Ai (fun n=>IS n q (con q i) pos) (KP q (con q i) pos):=by
 have W:=C.work;have hz:(List.replicate pos.length (0:Int)).length=pos.length:=L8
 have all: ∀ k:Int,(con q i).kind=k -> ∀ {f:Nat -> Option (Bool×List Int)} {N:Nat} {ok:Bool} {D:Nat -> Nat -> Prop},(∀ n,N<=n -> ∃ l,f n=some (ok,l)/\ (ok=true -> B5 (con q i) pos (List.replicate pos.length 0) (con q i).cells.length D l)) -> (ok=true↔Oa q (con q i) pos) -> (∀ a s,C5 q (con q i) pos a s↔D a s) -> Ai f (KP q (con q i) pos):=by
  intro k _ f N ok D h CW hD;refine ⟨N,fun n hn=>?_⟩;obtain ⟨l,h1,h2⟩:=h n hn;exact ⟨(ok,l),h1,CW,fun h3=>(h2 h3).congr hD⟩
 have kc:=US (UR C.kind);have IW: ∀ {k:Int},(con q i).kind=k -> k≠2 -> k≠3 -> k≠5 -> k≠9 -> Oa q (con q i) pos:=fun hk h2 h3 h5 h9=>⟨fun h=>absurd (hk.symm.trans h) h2,fun h=>absurd (hk.symm.trans h) h3,fun h=>absurd (hk.symm.trans h) h5,fun h=>absurd (hk.symm.trans h) h9⟩
 rcases kc with hk | hk | hk | hk | hk | hk | hk | hk | hk
 ·refine Ai.eq (all 1 hk (f:=fun n=>Rr n (con q i) q pos pos.length (List.replicate pos.length 0)) (N:=2*(con q i).cells.length+2) (ok:=true) (D:=Rs (con q i) pos) (fun n hn=>?_) ⟨fun _=>IW hk (by decide) (by decide) (by decide) (by decide),fun _=>rfl⟩ fun a s=>?_) fun n=>?_
  ·obtain ⟨l,h1,h2⟩:=zDk (q:=q) W hz hn;exact ⟨l,h1,fun _=>h2⟩
  ·unfold C5;rw [hk];simp
  ·unfold IS;rw [hk];rfl
 ·refine Ai.eq (all 2 hk (f:=fun n=>Ru n (con q i) q pos pos.length (List.replicate pos.length 0)) (N:=2*(con q i).cells.length+3) (ok:=NW (con q i) pos) (D:=fun a s=>Jk (con q i) pos a s=true) (fun n hn=>?_) ⟨fun h=>⟨fun _=>h,fun h=>absurd (hk.symm.trans h) (by decide),fun h=>absurd (hk.symm.trans h) (by decide),fun h=>absurd (hk.symm.trans h) (by decide)⟩,fun h=>h.1 hk⟩ fun a s=>?_) fun n=>?_
  ·exact zDu (q:=q) W hz hn
  ·unfold C5;rw [hk];simp
  ·unfold IS;rw [hk];rfl
 ·refine Ai.eq (all 3 hk (f:=fun n=>QV n (con q i) q pos pos.length (List.replicate pos.length 0)) (N:=2*(con q i).cells.length+3) (ok:=MI q (con q i) pos) (D:=fun a s=>JB q (con q i) pos a s=true) (fun n hn=>?_) ⟨fun h=>⟨fun h=>absurd (hk.symm.trans h) (by decide),fun _=>h,fun h=>absurd (hk.symm.trans h) (by decide),fun h=>absurd (hk.symm.trans h) (by decide)⟩,fun h=>h.2.1 hk⟩ fun a s=>?_) fun n=>?_
  ·exact sY W C.vals hz hn
  ·unfold C5;rw [hk];simp
  ·unfold IS;rw [hk];rfl
 ·refine Ai.eq (all 4 hk (f:=fun n=>Mc n (con q i) q pos pos.length (List.replicate pos.length 0)) (N:=2*(con q i).cells.length+3) (ok:=true) (D:=fun a s=>J9 q (con q i) pos a s=true) (fun n hn=>?_) ⟨fun _=>IW hk (by decide) (by decide) (by decide) (by decide),fun _=>rfl⟩ fun a s=>?_) fun n=>?_
  ·obtain ⟨l,h1,h2⟩:=vj W C.vals hz hn;exact ⟨l,h1,fun _=>h2⟩
  ·unfold C5;rw [hk];simp
  ·unfold IS;rw [hk];rfl
 ·obtain ⟨l,⟨N,h1⟩,h2⟩:=vA (q:=q) W C.runs hz ZZ;refine Ai.eq (all 5 hk (N:=N) (ok:=MV (con q i)) (D:=K3 (con q i) pos) (fun n hn=>⟨l,h1 n hn,h2⟩) ⟨fun h=>⟨fun h=>absurd (hk.symm.trans h) (by decide),fun h=>absurd (hk.symm.trans h) (by decide),fun _=>h,fun h=>absurd (hk.symm.trans h) (by decide)⟩,fun h=>h.2.2.1 hk⟩ fun a s=>?_) fun n=>?_
  ·unfold C5;rw [hk];simp
  ·unfold IS;rw [hk];rfl
 ·refine Ai.eq (all 6 hk (f:=fun n=>Pw n (con q i) q pos pos.length (List.replicate pos.length 0)) (N:=0) (ok:=true) (D:=Hb (Ob q (con q i)) (con q i) pos) (fun n hn=>?_) ⟨fun _=>IW hk (by decide) (by decide) (by decide) (by decide),fun _=>rfl⟩ fun a s=>?_) fun n=>?_
  ·obtain ⟨l,h1,h2⟩:=zE3 (n:=n) W C.vals (C.two (.inl hk)) hz;exact ⟨l,h1,fun _=>h2⟩
  ·unfold C5;rw [hk];simp
  ·unfold IS;rw [hk];rfl
 ·refine Ai.eq (all 7 hk (f:=fun n=>Od n (con q i) q pos pos.length (List.replicate pos.length 0)) (N:=0) (ok:=true) (D:=Hb (Mk (con q i)) (con q i) pos) (fun n hn=>?_) ⟨fun _=>IW hk (by decide) (by decide) (by decide) (by decide),fun _=>rfl⟩ fun a s=>?_) fun n=>?_
  ·obtain ⟨l,h1,h2⟩:=xe (n:=n) (q:=q) W (C.two (.inr hk)) hz;exact ⟨l,h1,fun _=>h2⟩
  ·unfold C5;rw [hk];simp
  ·unfold IS;rw [hk];rfl
 ·obtain ⟨l,⟨N,h1⟩,h2⟩:=zD7 (C.all (.inl hk) hd) gF;refine Ai.eq (all 8 hk (N:=N) (ok:=true) (D:=Jm (con q i) q pos) (fun n hn=>⟨l,h1 n hn,fun _=>h2.by (C.all (.inl hk) hd)⟩) ⟨fun _=>IW hk (by decide) (by decide) (by decide) (by decide),fun _=>rfl⟩ fun a s=>?_) fun n=>?_
  ·unfold C5;rw [hk];simp
  ·unfold IS;rw [hk];rfl
 ·refine Ai.eq ((yS (C.all (.inr hk) hd) gF).mono fun r hr=>⟨?_,fun h=>((hr.2 h).by (C.all (.inr hk) hd)).congr fun a s=>?_⟩) fun n=>?_
  ·rw [hr.1];exact ⟨fun h=>⟨fun h=>absurd (hk.symm.trans h) (by decide),fun h=>absurd (hk.symm.trans h) (by decide),fun h=>absurd (hk.symm.trans h) (by decide),fun _=>h⟩,fun h=>h.2.2.2 hk⟩
  ·unfold C5;rw [hk];simp
  ·unfold IS;rw [hk];rfl
theorem sN {n:Nat}{o2:List Int}(hl:o2.length=pos.length)(Ez:pos.length<=256)(hn:600<=n):
 ∃ x,x.length=pos.length/\ (∀ j,j<pos.length -> x.getD j 0=bits .andNot .i64 (pos.getD j 0) (o2.getD j 0))/\ JN q i pos n (.l2 pos.length (pos.length:Int) 0 o2 pos)=some (if BZ x then List.replicate pos.length 0 else x):=by
 have lb:(256:Nat)<=LB:=by decide
 obtain ⟨n1,x,HD,_,e,hx,O9,Ii⟩:=Hy (fun n (o3:List Int) k=>JN q i pos n (.l2 pos.length (pos.length:Int) k o2 o3)) pos.length 260
  (fun k o3=>o3.length=pos.length/\ (∀ j,j<k -> o3.getD j 0=bits .andNot .i64 (pos.getD j 0) (o2.getD j 0))/\ ∀ j,k<=j -> o3.getD j 0=pos.getD j 0) (fun n k o3 Fw hk hI=>by
   obtain ⟨h1,h2,h3⟩:=hI
   show ∃ s',Tq n (JN q i pos n) q i pos pos.length (pos.length:Int) (k:Int) o2 o3=_/\ _
   unfold Tq;simp only [zAP,zBy];rw [zAU (by omega),zAK,zAA ⟨⟨by omega,by omega⟩,by omega,⟨by omega,by omega⟩,by omega,Aw.2 ⟨by omega,by omega⟩⟩];refine ⟨_,rfl,by rw [zCG];exact h1,fun j hj=>?_,fun j hj=>?_⟩
   ·by_cases e:k=j
    ·subst e;rw [Lp (by omega),h3 k (by omega)]
    ·rw [getD_set_ne e];exact h2 j (by omega)
   ·rw [getD_set_ne (by omega)];exact h3 j (by omega)) (n:=n) (s:=pos) (by omega) ⟨rfl,fun j hj=>absurd hj (zBk j),fun j _=>rfl⟩
 obtain ⟨n2,rfl⟩: ∃ n2,n1=n2+1:=⟨n1-1,by omega⟩;refine ⟨x,hx,O9,Eq.trans e ?_⟩
 show Tq n2 (JN q i pos n2) q i pos pos.length (pos.length:Int) (pos.length:Int) o2 x=_
 unfold Tq;rw [zAI (by omega),zAC,zAA hx.symm,Mt (by omega) (by omega),zAB];cases BZ x
 ·rfl
 ·rw [zAK,zAA L8.symm];rfl
def WO (n:Nat)(q:AA)(i:Int)(pos:List Int)(y2:Bool×List Int):Option (List Int):= bif (!y2.1) then (if pos.length=(List.replicate pos.length (0:Int)).length then some (List.replicate pos.length (0:Int)) else none) else JN q i pos n (.l1 y2.2)
theorem sO (C:Bt q i pos)(hd:BZ pos=false){n:Nat}(hn:601<=n){y2:Bool×List Int}(hy:KP q (con q i) pos y2): ∃ x,WO n q i pos y2=some x/\ PR q (con q i) pos x:=by
 have Ez:=C.len256;have L:(1000000000000:Nat)=A3:=rfl;have nz:=HM.1 hd;obtain ⟨b,lost⟩:=y2;obtain ⟨CW,YN⟩:=hy;unfold WO;cases b with
 | false=>
  refine ⟨_,by rw [zCa,zAK,zAA L8.symm],L8,fun hA=>?_,fun _=>rfl⟩;have:=CW.2 hA.ok;cases this
 | true=>
  have CW:=CW.1 rfl;have YN:B5 (con q i) pos (List.replicate pos.length 0) (con q i).cells.length (C5 q (con q i) pos) lost:=YN rfl;obtain ⟨n,rfl⟩: ∃ k,n=k+1:=⟨n-1,by omega⟩;obtain ⟨x,h1,h2,h3⟩:=sN (q:=q) (i:=i) (n:=n) YN.1 Ez.2 (by omega)
  have hx: ∀ j,j<pos.length -> B4 (x.getD j 0)/\ ∀ s,tb (x.getD j 0) s=true↔tb (pos.getD j 0) s=true/\ ¬ LC q (con q i) pos j s:=fun j hj=>by
   rw [h2 j hj];refine ⟨HO _ _ _,fun s=>?_⟩;rw [Nw,zAO,zCg,←zGq,YN.2,QB];constructor
   ·rintro ⟨h4,h5⟩;refine ⟨h4,fun ⟨a,ha,e,hs⟩=>h5 (.inr ⟨a,ha,e,?_,hs⟩)⟩
    show tb (pos.getD ((con q i).cells.getD a 0).toNat 0) s=true
    rw [e];exact h4
   ·rintro ⟨h4,h5⟩;refine ⟨h4,fun h6=>h6.elim (fun h=>IK h) fun ⟨a,ha,e,_,hs⟩=>h5 ⟨a,ha,e,hs⟩⟩
  have BF:ZE n pos=some pos:=by
   unfold ZE pp;rw [zAA ⟨Ez.1,trivial,⟨rfl,rfl⟩,by rw [←L];simp only [zFd];omega⟩,zAA (by simp)];rfl
  have e:JN q i pos (n+1) (.l1 lost)=some (if BZ x then List.replicate pos.length 0 else x):=by
   show ak n (JN q i pos n) q i pos lost=_
   unfold ak;rw [BF,zAB];exact h3
  refine ⟨_,by rw [zCX,zAC];exact e,?_,fun hA j hj=>?_,fun hA=>?_⟩
  ·split
   ·exact L8
   ·exact h1
  ·rw [zAY]
   ·exact hx j hj
   ·rw [zGq,HM];intro j hj;rw [h1] at hj;obtain ⟨s,hs,h4,h5⟩:=hA.left j hj;exact (GD (hx j hj).1).2 ⟨s,hs,((hx j hj).2 s).2 ⟨h4,h5⟩⟩
  ·rw [zAA];refine Classical.byContradiction fun h=>hA ?_
   rw [zGq,HM] at h;refine ⟨nz,CW,fun j hj=>?_⟩;obtain ⟨s,hs,h4⟩:=(GD (hx j hj).1).1 (h j (by omega));exact ⟨s,hs,((hx j hj).2 s).1 h4⟩
theorem wa (C:Bt q i pos): ∃ x,Ev (fun n=>KG n q i pos) x/\ PR q (con q i) pos x:=by
 have Ez:=C.len256;have lb:(256:Nat)<=LB:=by decide
 have hi:0<=i/\ i<(q.cons.length:Int):=⟨C.i0,C.i1⟩;cases hd:BZ pos
 ·suffices H:Ai (fun n=>KG n q i pos) (PR q (con q i) pos) by
   obtain ⟨x,h1,h2⟩:=H.ev PR.uniq;exact ⟨x,h2,h1⟩
  obtain ⟨N,hN⟩:=Ai.bindU (vX C hd) (b:=fun n y2=>WO n q i pos y2) (Q:=PR q (con q i) pos) ⟨601,fun n hn y2 hy=>sO C hd hn hy⟩;refine ⟨N+300,fun n hn=>?_⟩;obtain ⟨x,h1,h2⟩:=hN n (by omega);refine ⟨x,Eq.trans ?_ h1,h2⟩
  show KG n q i pos=(IS n q (con q i) pos).bind fun y2=>WO n q i pos y2
  unfold KG al;rw [zAA ⟨rfl,by omega,by omega⟩,Mt (by omega) (by omega),hd,zAB,zAC,zAA hi];have hc:q.cons.getD i.toNat default=con q i:=rfl;rw [hc];have kc:=US (UR C.kind);unfold IS;rcases kc with hk | hk | hk | hk | hk | hk | hk | hk | hk <;> rw [hk] <;> rfl
 ·refine ⟨List.replicate pos.length 0,⟨300,fun n hn=>?_⟩,L8,fun hA=>?_,fun _=>rfl⟩
  ·show KG n q i pos=_
   unfold KG al;rw [zAA ⟨rfl,by omega,by omega⟩,Mt (by omega) (by omega),hd,zAB,zAK,zAA L8.symm]
  ·have:=HM.2 hA.nz;rw [hd] at this;cases this
def PrP (q:AA)(i:Int)(pos:List Int)(r:List Int×Int):Prop:=r.2=Jn q i pos/\ (r.2=0 -> PR q (con q i) pos r.1)/\ (r.2≠0 -> r.1= [])
theorem wf (hF:EC q)(hl:pos.length<=LB): ∃ r,Ev (fun n=>OR n q i pos) r/\ PrP q i pos r:=by
 have hE:Ev (fun n=>Rz n q i pos) (Jn q i pos):=⟨GE q+pos.length+1,fun n hn=>zEN hF (by omega) hl (by omega)⟩
 by_cases h0:Jn q i pos=0
 ·obtain ⟨x,h1,h2⟩:=wa (Bt.of hF h0);refine ⟨(x,0),?_,h0.symm,fun _=>h2,fun h=>absurd rfl h⟩;refine Ev.eq (Ev.bind hE (b:=fun n y1=>bif (y1 != 0) then some (([]:List Int),y1) else (KG n q i pos).bind fun y2=>some (y2,0)) ?_) fun n=>rfl
  rw [h0];exact Ev.bind h1 (b:=fun _ y2=>some (y2,0)) (Ev.now fun n=>rfl)
 ·refine ⟨([],Jn q i pos),?_,rfl,fun h=>absurd h h0,fun _=>rfl⟩;refine Ev.eq (Ev.bind hE (b:=fun n y1=>bif (y1 != 0) then some (([]:List Int),y1) else (KG n q i pos).bind fun y2=>some (y2,0)) (Ev.now fun n=>?_)) fun n=>rfl
  have:(Jn q i pos != 0)=true:=by simpa using h0
  rw [this];rfl
end
abbrev zHL:=@forall_eq_or_imp
structure OA (q:AA)(c:AB)(p:List Int):Prop where
 nz: ∀ k,k<c.cells.length -> Ab c p k≠0
 ok:Oa q c p
 left: ∀ k,k<c.cells.length -> ∃ s,tb (Ab c p k) s=true/\ ¬ C5 q c p k s
theorem Vh {α:Type}{f g:α -> Bool}: ∀ (l:List α),(∀ x∈l,f x=true -> g x=true) -> l.countP f<=l.countP g
 | [],_=>zBl _
 | x::l,h=>by
  have h1:=Vh l fun y hy=>h y (zCS _ hy)
  have h2:=h x zCn;rw [zGH,zGH];cases hf:f x
  ·simp only [zCZ,zF2];omega
  ·rw [h2 hf];simp only [zFV];omega
theorem Vg {α:Type}{f g:α -> Bool}{a:α}(hf:f a=false)(hg:g a=true): ∀ (l:List α),(∀ x∈l,f x=true -> g x=true) -> a∈l -> l.countP f+1<=l.countP g
 | [],_,h=>by cases h
 | x::l,h,ha=>by
  rw [zGH,zGH];rcases zCC.1 ha with rfl | ha
  ·have h1:=Vh l fun y hy=>h y (zCS _ hy)
   rw [hf,hg,zAA rfl];simp only [zCZ,zF2];omega
  ·have h1:=Vg hf hg l (fun y hy=>h y (zCS _ hy)) ha;have h2:=h x zCn;cases hx:f x
   ·simp only [zCZ,zF2];omega
   ·rw [h2 hx];simp only [zFV];omega
theorem pm {f g:Nat -> Bool}{m:Nat}(h: ∀ a,a<m -> f a=true -> g a=true):cnt f m<=cnt g m:=by
 unfold cnt;have:=Vh (f:=f) (g:=g) (List.range m) fun x hx=>h x (zBf.1 hx)
 omega
theorem pk {f g:Nat -> Bool}{m a:Nat}(h: ∀ a,a<m -> f a=true -> g a=true)(ha:a<m)(hf:f a=false)(hg:g a=true):cnt f m+1<=cnt g m:=by
 unfold cnt;have:=Vg hf hg (List.range m) (fun x hx=>h x (zBf.1 hx)) (zBf.2 ha);omega
theorem jW {k:Nat}{x:Int}(hx:Sm k x)(hk:k<=16)(h:OB x=true){s t:Nat}(hs:tb x s=true)(ht:tb x t=true):s=t:=by
 have eB:=Mg (k:=k) (zAa hk (by decide));obtain ⟨m,rfl⟩:=zF9 hx.1;have AK:m<18446744073709551616:=by have:=hx.2;omega
 have lo: ∀ {u:Nat},tb (m:Int) u=true -> u<64:=fun {u} hu=>zCi fun h=>by rw [JA h] at hu;cases hu
 have h0:m≠0:=by
  rintro rfl;exact IK hs
 have e:m&&& (m-1)=0:=by
  unfold OB at h;rw [zCR] at h;apply Nat.eq_of_testBit_eq;intro u;rw [Nat.zero_testBit,Nat.testBit_and];rcases zCb u 64 with hu | hu
  ·have h2:=(Nv (HO .and _ _)).1 h u hu;have e1:(m:Int)-1=((m-1:Nat):Int):=by omega
   rw [J3,e1,I9 _ _ hu,I9 _ _ hu] at h2;exact h2
  ·rw [zHD (zBa AK (zGf (n:=2) (by decide) hu)),zFu]
 have S:=i7 m AK h0;rw [e,i6] at S
 have mem: ∀ {u:Nat},tb (m:Int) u=true -> u∈E5 m:=fun {u} hu=>by
  unfold E5;rw [zGB,zBf];exact ⟨lo hu,by rw [←I9 m u (lo hu)];exact hu⟩
 have h1:=mem hs;have h2:=mem ht;rw [S,zBv] at h1 h2;rw [h1,h2]
section
variable {q:AA} {i:Int} {p p':List Int}
theorem cE {c:AB}{x:Int}(h:bits .andNot .i64 x c.set=0){s:Nat}(hs:tb x s=true):tb c.set s=true:=by
 have H7:s<64:=zCi fun h=>by rw [JA h] at hs;cases hs
 have:=(Nv (HO .andNot _ _)).1 h s H7;rw [Nw,hs,zCj,Bool.not_eq_false'] at this;exact this
theorem fk {c:AB}{x x':Int}(h: ∀ s,tb x' s=true -> tb x s=true)(hx:bits .andNot .i64 x c.set=0):bits .andNot .i64 x' c.set=0:=
 (Nv (HO .andNot _ _)).2 fun s hs=>by
  rw [Nw];cases h1:tb x' s with
  | false=>rfl
  | true=>rw [cE hx (h s h1)];rfl
theorem fj {c:AB}{x x':Int}(h: ∀ s,tb x' s=true -> tb x s=true)(hx:bits .and .i64 x' c.set≠0):bits .and .i64 x c.set≠0:=by
 obtain ⟨s,hs,h1⟩:=(GD (HO .and _ _)).1 hx;rw [J3,zAO] at h1;exact (GD (HO .and _ _)).2 ⟨s,hs,by rw [J3,h s h1.1,h1.2];rfl⟩
theorem ql {c:AB}{x:Int}{s:Nat}(h1:tb x s=true)(h2:tb c.set s=true):bits .and .i64 x c.set≠0:=by
 have H7:s<64:=zCi fun h=>by rw [JA h] at h1;cases h1
 exact (GD (HO .and _ _)).2 ⟨s,H7,by rw [J3,h1,h2];rfl⟩
theorem zE7 {c:AB}{x:Int}{s:Nat}(h1:tb x s=true)(h2:tb c.set s=false):bits .andNot .i64 x c.set≠0:=by
 have H7:s<64:=zCi fun h=>by rw [JA h] at h1;cases h1
 exact (GD (HO .andNot _ _)).2 ⟨s,H7,by rw [Nw,h1,h2];rfl⟩
def Gc (c:AB)(p' p:List Int):Prop:=∀ k,k<c.cells.length -> ∀ s,tb (Ab c p' k) s=true -> tb (Ab c p k) s=true
theorem zDl {c:AB}{k:Nat}(W:CI c k p)(hS:Gc c p' p)(B8: ∀ a,a<c.cells.length -> B4 (Ab c p' a))(RL: ∀ a,a<c.cells.length -> Ab c p' a≠0){a s:Nat}(h:Rs c p a s):Rs c p' a s:=by
 obtain ⟨b,hb,AR,h1,h2⟩:=h;have hx:=W.at hb
 have e:Ab c p' b=Ab c p b:=by
  refine MH (B8 b hb) (hx.in64 (by have:=W.k;omega)) fun t _=>?_
  obtain ⟨u,_,hu⟩:=(GD (B8 b hb)).1 (RL b hb);have z6:u=s:=jW hx W.k h1 (hS b hb u hu) h2;subst z6;cases ht:tb (Ab c p b) t with
  | true=>
   have:t=u:=jW hx W.k h1 ht h2;subst this;exact hu
  | false=>
   cases YE:tb (Ab c p' b) t with
   | false=>rfl
   | true=>rw [hS b hb t YE] at ht;cases ht
 refine ⟨b,hb,AR,?_,?_⟩
 ·rw [e];exact h1
 ·rw [e];exact h2
theorem mH {c:AB}(hS:Gc c p' p){a:Nat}(ha:a<c.cells.length)(h:Ex c p a=true):Ex c p' a=true:=by
 unfold Ex at h ⊢;rw [zCR] at h ⊢;exact fk (hS a ha) h
theorem mO {c:AB}(hS:Gc c p' p)(B8: ∀ a,a<c.cells.length -> B4 (Ab c p' a))(RL: ∀ a,a<c.cells.length -> Ab c p' a≠0){a:Nat}(ha:a<c.cells.length)(h:Fc c p' a=true):Fc c p a=true:=by
 unfold Fc at h ⊢;rw [zCL,zFy] at h ⊢;right;rcases h with h | h
 ·unfold Ex at h;rw [zCR] at h;obtain ⟨u,_,hu⟩:=(GD (B8 a ha)).1 (RL a ha);exact ql (hS a ha u hu) (cE h hu)
 ·exact fj (hS a ha) h
theorem zDv {c:AB}(hS:Gc c p' p)(B8: ∀ a,a<c.cells.length -> B4 (Ab c p' a))(RL: ∀ a,a<c.cells.length -> Ab c p' a≠0)(CW:NW c p'=true):
 NW c p=true/\ ∀ a s,a<c.cells.length -> tb (Ab c p' a) s=true -> Jk c p a s=true -> Jk c p' a s=true:=by
 have m1:=pm (f:=Ex c p) (g:=Ex c p') (m:=c.cells.length) fun a ha=>mH hS ha
 have m2:=pm (f:=Fc c p') (g:=Fc c p) (m:=c.cells.length) fun a ha=>mO hS B8 RL ha
 unfold NW at CW ⊢;rw [zAO,zCg,zCg,zFx,zFx] at CW ⊢;refine ⟨⟨by omega,by omega⟩,fun a s ha hs h=>?_⟩;unfold Jk at h ⊢;rw [zCL,zAO,zAO,zAO,zAO,zCR,zCR,zFy,zFy,zCg] at h ⊢;rcases h with ⟨⟨h1,h2⟩,h3⟩ | ⟨⟨h1,h2⟩,h3⟩
 ·refine .inl ⟨⟨by omega,fun h4=>?_⟩,h3⟩;have:=pk (f:=Ex c p) (g:=Ex c p') (m:=c.cells.length) (a:=a) (fun a ha=>mH hS ha) ha (by unfold Ex;exact zCf.2 h2) (by unfold Ex;exact zCR.2 h4);omega
 ·refine .inr ⟨⟨by omega,fun h4=>?_⟩,h3⟩
  have:=pk (f:=Fc c p') (g:=Fc c p) (m:=c.cells.length) (a:=a) (fun a ha=>mO hS B8 RL ha) ha
   (by
    unfold Fc Ex;rw [Bool.or_eq_false_iff,zCf,bne_eq_false_iff_eq];exact ⟨zE7 hs h3,h4⟩) (by unfold Fc;rw [zCL,zFy];exact .inr h2)
  omega
theorem Zu {f g:Nat -> Int}: ∀ {m:Nat},(∀ a,a<m -> f a<=g a) -> FI f m<=FI g m/\ ∀ a,a<m -> FI f m-f a<=FI g m-g a
 | 0,_=>⟨zFZ _,fun a ha=>absurd ha (zBk a)⟩
 | m+1,h=>by
  obtain ⟨h1,h2⟩:=Zu (m:=m) fun a ha=>h a (by omega)
  have hm:=h m (by omega);have e: ∀ f:Nat -> Int,FI f (m+1)=FI f m+f m:=fun f=>rfl
  rw [e,e];refine ⟨by omega,fun a ha=>?_⟩;rcases zBj.1 ha with ha | rfl
  ·have:=h2 a ha;omega
  ·omega
theorem ba {n:Int}: ∀ (l:List Int) (a:Int),n<=l.foldl (LQ q) a↔n<=a/\ ∀ e∈l,n<=q.values.getD e.toNat 0
 | [],a=>by simp
 | e::l,a=>by
  rw [zFv,ba l];unfold LQ;simp only [zCC,zHL];split <;> constructor <;> rintro ⟨h1,h2⟩
  ·exact ⟨by omega,h1,h2⟩
  ·exact ⟨h2.1,h2.2⟩
  ·exact ⟨h1,by omega,h2⟩
  ·exact ⟨h1,h2.2⟩
theorem dX {n:Int}: ∀ (l:List Int) (a:Int),l.foldl (Ld q) a<=n↔a<=n/\ ∀ e∈l,q.values.getD e.toNat 0<=n
 | [],a=>by simp
 | e::l,a=>by
  rw [zFv,dX l];unfold Ld;simp only [zCC,zHL];split <;> constructor <;> rintro ⟨h1,h2⟩
  ·exact ⟨by omega,h1,h2⟩
  ·exact ⟨h2.1,h2.2⟩
  ·exact ⟨h1,by omega,h2⟩
  ·exact ⟨h1,h2.2⟩
theorem Z1 {k:Nat}(hk:k<=16){x x':Int}(hx:Sm k x)(Mv:Sm k x')(h: ∀ s,tb x' s=true -> tb x s=true): ∀ e∈Be x',e∈Be x:=fun e he=>by
 obtain ⟨s,rfl,h1,h2⟩:=(G5 Mv (zAa hk (by decide))).1 he;exact (G5 hx (zAa hk (by decide))).2 ⟨s,rfl,h1,h s h2⟩
theorem sZ {c:AB}{k:Nat}(W:CI c k p)(W':CI c k p')(hS:Gc c p' p)(CW:MI q c p'=true):
 MI q c p=true/\ ∀ a s,a<c.cells.length -> JB q c p a s=true -> JB q c p' a s=true:=by
 have sub: ∀ a,a<c.cells.length -> ∀ e∈Be (Ab c p' a),e∈Be (Ab c p a):=fun a ha=>Z1 W.k (W.at ha) (W'.at ha) (hS a ha)
 have l1: ∀ a,a<c.cells.length -> E8 q (Ab c p a)<=E8 q (Ab c p' a):=fun a ha=>by
  have h:=(ba (q:=q) (Be (Ab c p a)) 100).1 (zFZ _);exact (ba (Be (Ab c p' a)) 100).2 ⟨h.1,fun e he=>h.2 e (sub a ha e he)⟩
 have l2: ∀ a,a<c.cells.length -> FA q (Ab c p' a)<=FA q (Ab c p a):=fun a ha=>by
  have h:=(dX (q:=q) (Be (Ab c p a)) (-1)).1 (zFZ _);exact (dX (Be (Ab c p' a)) (-1)).2 ⟨h.1,fun e he=>h.2 e (sub a ha e he)⟩
 have t1:=Zu (f:=fun a=>E8 q (Ab c p a)) (g:=fun a=>E8 q (Ab c p' a)) (m:=c.cells.length) l1;have t2:=Zu (f:=fun a=>FA q (Ab c p' a)) (g:=fun a=>FA q (Ab c p a)) (m:=c.cells.length) l2;have e1: ∀ p,LO q c p=FI (fun a=>E8 q (Ab c p a)) c.cells.length:=fun _=>rfl
 have e2: ∀ p,Lc q c p=FI (fun a=>FA q (Ab c p a)) c.cells.length:=fun _=>rfl
 unfold MI at CW ⊢;rw [zAO,zCg,zCg,zFx,zFx,e1,e2] at CW ⊢;refine ⟨⟨by omega,by omega⟩,fun a s ha h=>?_⟩;unfold JB at h ⊢;rw [zCL,zBq,zBq,e1,e2] at h ⊢;have h1:=t1.2 a ha;have h2:=t2.2 a ha;rcases h with h | h
 ·exact .inl (by omega)
 ·exact .inr (by omega)
theorem Zq {n b:Int}: ∀ (l:List Int) (a:Int),n<=l.foldl (QP q b) a↔n<=a/\ ∀ e∈l,q.values.getD e.toNat 0>b -> n<=q.values.getD e.toNat 0
 | [],a=>by simp
 | e::l,a=>by
  rw [zFv,Zq l];unfold QP;simp only [zCC,zHL];split
  ·split <;> constructor <;> rintro ⟨h1,h2⟩
   ·exact ⟨by omega,fun _=>h1,h2⟩
   ·exact ⟨h2.1 (by assumption),h2.2⟩
   ·exact ⟨h1,fun _=>by omega,h2⟩
   ·exact ⟨h1,h2.2⟩
  ·constructor <;> rintro ⟨h1,h2⟩
   ·exact ⟨h1,fun h=>absurd h (by assumption),h2⟩
   ·exact ⟨h1,h2.2⟩
theorem ew {n b:Int}: ∀ (l:List Int) (a:Int),l.foldl (Pi q b) a<=n↔a<=n/\ ∀ e∈l,q.values.getD e.toNat 0<b -> q.values.getD e.toNat 0<=n
 | [],a=>by simp
 | e::l,a=>by
  rw [zFv,ew l];unfold Pi;simp only [zCC,zHL];split
  ·split <;> constructor <;> rintro ⟨h1,h2⟩
   ·exact ⟨by omega,fun _=>h1,h2⟩
   ·exact ⟨h2.1 (by assumption),h2.2⟩
   ·exact ⟨h1,fun _=>by omega,h2⟩
   ·exact ⟨h1,h2.2⟩
  ·constructor <;> rintro ⟨h1,h2⟩
   ·exact ⟨h1,fun h=>absurd h (by assumption),h2⟩
   ·exact ⟨h1,h2.2⟩
theorem qQ {c:AB}{k:Nat}(W:CI c k p)(W':CI c k p')(hS:Gc c p' p): ∀ a,a<=c.cells.length -> Lu q c p a<=Lu q c p' a
 | 0,_=>zFZ _
 | a+1,ha=>by
  have ih:=qQ W W' hS a (by omega);have h:=(Zq (q:=q) (b:=Lu q c p a) (Be (Ab c p a)) 100).1 (zFZ _);exact (Zq (Be (Ab c p' a)) 100).2 ⟨h.1,fun e he hg=>h.2 e (Z1 W.k (W.at (by omega)) (W'.at (by omega)) (hS a (by omega)) e he) (by omega)⟩
theorem qv {c:AB}{k:Nat}(W:CI c k p)(W':CI c k p')(hS:Gc c p' p): ∀ m,m<=c.cells.length -> SN q c p' m<=SN q c p m
 | 0,_=>zFZ _
 | m+1,hm=>by
  have ih:=qv W W' hS m (by omega);have h:=(ew (q:=q) (b:=SN q c p m) (Be (Ab c p (c.cells.length-1-m))) (-1)).1 (zFZ _);exact (ew (Be (Ab c p' (c.cells.length-1-m))) (-1)).2 ⟨h.1,fun e he hg=>h.2 e (Z1 W.k (W.at (by omega)) (W'.at (by omega)) (hS _ (by omega)) e he) (by omega)⟩
theorem vk {c:AB}{k:Nat}(W:CI c k p)(W':CI c k p')(hS:Gc c p' p){a s:Nat}(ha:a<c.cells.length)(h:J9 q c p a s=true):J9 q c p' a s=true:=by
 have h1:=qQ (q:=q) W W' hS a (by omega);have h2:=qv (q:=q) W W' hS (c.cells.length-(a+1)) (by omega);unfold J9 Js at h ⊢;rw [zCL,zBq,zBq] at h ⊢;rcases h with h | h
 ·exact .inl (by omega)
 ·exact .inr (by omega)
theorem bs {c:AB}(hS:Gc c p' p){a:Nat}(ha:a<c.cells.length){inn:Bool}(h:kd c p' a inn=true):kd c p a inn=true:=by
 unfold kd at h ⊢;cases inn
 ·rw [zAC,zFy] at h ⊢;exact fun h2=>h (fk (hS a ha) h2)
 ·rw [zAK,zFy] at h ⊢;exact fj (hS a ha) h
theorem aZ {c:AB}(hS:Gc c p' p): ∀ (a:Nat),a<=c.cells.length -> ∀ t,Fj c p' a t -> Fj c p a t
 | 0,_,t,h=>h
 | a+1,ha,t,⟨s,inn,h1,h2,h3⟩=>⟨s,inn,aZ hS a (by omega) s h1,h2,bs hS (by omega) h3⟩
theorem mY {c:AB}(hS:Gc c p' p): ∀ (m:Nat),m<=c.cells.length -> ∀ t,Jv c p' m t -> Jv c p m t
 | 0,_,t,h=>h
 | m+1,hm,t,⟨h1,u,inn,h2,h3,h4⟩=>⟨aZ hS _ (by omega) t h1,u,inn,h2,bs hS (by omega) h3,mY hS m (by omega) u h4⟩
theorem qB {c:AB}(hS:Gc c p' p){a:Nat}(ha:a<c.cells.length){inn:Bool}(h:Lt c p' a inn):Lt c p a inn:=by
 obtain ⟨s,t,h1,h2,h3,h4⟩:=h;exact ⟨s,t,aZ hS a (by omega) s h1,h2,bs hS ha h3,mY hS _ (by omega) t h4⟩
theorem u9 {c:AB}(hS:Gc c p' p){a s:Nat}(ha:a<c.cells.length)(h:K3 c p a s):K3 c p' a s:=
 h.elim (fun h=>.inl ⟨fun h2=>h.1 (qB hS ha h2),h.2⟩) fun h=>.inr ⟨fun h2=>h.1 (qB hS ha h2),h.2⟩
theorem lM {ok:Nat -> Nat -> Bool}{c:AB}(hS:Gc c p' p)(h2:c.cells.length=2){a s:Nat}(h:Hb ok c p a s):Hb ok c p' a s:=by
 unfold Hb at h ⊢;split
 ·rename_i h0;rw [zAA h0] at h;exact fun ⟨t,h3,h4⟩=>h ⟨t,hS 1 (by omega) t h3,h4⟩
 ·rename_i h0;rw [zAY h0] at h;exact fun ⟨t,h3,h4⟩=>h ⟨t,hS 0 (by omega) t h3,h4⟩
structure Ni (c:AB)(q:AA)(p p':List Int):Prop where
 W:Hm c q p
 W':Hm c q p'
 len:p.length=p'.length
 sub: ∀ j,j<p.length -> ∀ s,tb (p'.getD j 0) s=true -> tb (p.getD j 0) s=true
section
variable {c:AB}
theorem Ni.pB (H:Ni c q p p'): ∀ v:Int,(pB c p').getD v.toNat false=true -> (pB c p).getD v.toNat false=true:=fun v h=>by
 have hl:=H.len
 by_cases hv:v.toNat<p.length
 ·rw [T3 (by omega),zFy] at h;rw [T3 hv,zFy];exact fj (H.sub _ hv) h
 ·rw [u8,zCU (by rw [FX];omega)] at h;cases h
theorem Ni.cB (H:Ni c q p p'): ∀ v:Int,(cB c p).getD v.toNat false=true -> (cB c p').getD v.toNat false=true:=fun v h=>by
 have hl:=H.len
 by_cases hv:v.toNat<p.length
 ·rw [Vo hv,zCR] at h;rw [Vo (by omega),zCR];exact fk (H.sub _ hv) h
 ·rw [u8,zCU (by rw [FD];omega)] at h;cases h
theorem ld {x:List Int}{j s:Nat}(hj:j<x.length)(h1:tb (x.getD j 0) s=true)(h2:tb c.set s=true):(pB c x).getD j false=true:=by
 rw [T3 hj,zFy];exact ql h1 h2
theorem jd {x:List Int}{j s:Nat}(hj:j<x.length)(h:(cB c x).getD j false=true)(h1:tb (x.getD j 0) s=true):tb c.set s=true:=by
 rw [Vo hj,zCR] at h;exact cE h h1
theorem keep (W:Hm c q p')(PQ: ∀ v,v<p'.length -> ∃ s,tb (p'.getD v 0) s=true/\ ¬ F3 c q p' v s){r:Int}(h0:0<=r)(hF:Gd (cB c p') r){v:Int}(Il:0<=v)(Bb:v<(p'.length:Int))(hc:(cB c p').getD v.toNat false=true):Rc q.nbrs (pB c p') r v:=by
 refine Classical.byContradiction fun h=>?_
 obtain ⟨s,h1,h2⟩:=PQ v.toNat (by omega);have e:((v.toNat:Nat):Int)=v:=by omega
 exact h2 ⟨W.cp (by omega) hc,jd (by omega) hc h1,r,h0,hF,by rw [e];exact h⟩
theorem Gd.ex (W:Hm c q p'){v:Int}(Il:0<=v)(Bb:v<(p'.length:Int))(hc:(cB c p').getD v.toNat false=true): ∃ r:Int,0<=r/\ r<(p'.length:Int)/\ Gd (cB c p') r/\ (cB c p').getD r.toNat false=true:=by
 obtain ⟨r,_,hF⟩:=X8 (l:=cB c p') (by rw [FD];exact W.l1);rcases hF with ⟨h1,h2⟩ | ⟨h1,h2,h3,h4⟩
 ·rw [h2 v.toNat (by rw [FD];omega)] at hc;cases hc
 ·rw [FD] at h2;exact ⟨r,h1,h2,.inr ⟨h1,by rw [FD];exact h2,h3,h4⟩,h3⟩
theorem Gd.at {r:Int}(h0:0<=r)(h:Gd (cB c p) r):r<(p.length:Int)/\ (cB c p).getD r.toNat false=true:=by
 rcases h with ⟨h1,_⟩ | ⟨_,h1,h2,_⟩
 ·omega
 ·rw [FD] at h1;exact ⟨h1,h2⟩
theorem pI (H:Ni c q p p')(PQ: ∀ v,v<p'.length -> ∃ s,tb (p'.getD v 0) s=true/\ ¬ F3 c q p' v s){a s:Nat}(ha:a<p.length)(hs:tb (p'.getD a 0) s=true)(h:F3 c q p a s):F3 c q p' a s:=by
 obtain ⟨h1,h2,r,EL,hF,h3⟩:=h;have hl:=H.len;have gl:=H.W'.gl;obtain ⟨LX,hrc⟩:=hF.at EL;have nJ:=H.cB r hrc;obtain ⟨r',h4,h5,Fy,h6⟩:=Gd.ex H.W' EL (by omega) nJ;refine ⟨ld (by omega) hs h2,h2,r',h4,Fy,fun h7=>h3 ?_⟩;have h8:=keep H.W' PQ h4 Fy EL (by omega) nJ;have h9:=h8.symm H.W'.g.gr h4 (by omega) (H.W'.cp (by omega) h6);exact (h9.trans h7).mono H.pB
theorem zEv {g:List (List Int)}{inn:List Bool}{u a v:Int}(hna: ¬ Rc g inn u a)(ha:0<=a)(G:Gr g)(ca:0<=u)(Hd:u<(g.length:Int))(h:Rc g inn u v):Rc g (inn.set a.toNat false) u v:=by
 induction h with
 | start=>exact .start
 | @step x y h hb hi ih=>
  refine .step ih hb ?_;have hr:=(Rc.step h hb hi).rng G ca Hd
  have AR:a.toNat≠y.toNat:=fun e=>hna (by
   have e2:a=y:=by omega
   rw [e2];exact Rc.step h hb hi)
  rw [u8,zFU AR,←u8];exact hi
theorem zD6 (H:Ni c q p p')(PQ: ∀ v,v<p'.length -> ∃ s,tb (p'.getD v 0) s=true/\ ¬ Jm c q p' v s){a s:Nat}(ha:a<p.length)(hs:tb (p'.getD a 0) s=true)(h:Jm c q p a s):Jm c q p' a s:=by
 have hl:=H.len;have gl:=H.W'.gl;have gl1:=H.W.gl
 have Un: ∀ v,v<p'.length -> ∃ s,tb (p'.getD v 0) s=true/\ ¬ F3 c q p' v s:=fun v hv=>by
  obtain ⟨t,h1,h2⟩:=PQ v hv;exact ⟨t,h1,fun h=>h2 (.inl h)⟩
 rcases h with h | ⟨h1,h2,⟨u,v,z8,zx,hu,hv,h3,h4,h5⟩,h6⟩
 ·exact .inl (pI H Un ha hs h)
 ·have KW:=h3.rng H.W.g.gr (by omega) (by omega);have G9:=h4.rng H.W.g.gr (by omega) (by omega);have Bh:=H.cB u hu;have Dv:=H.cB v hv;have pu:=H.W'.cp (j:=u.toNat) (by omega) Bh;obtain ⟨r',h7,h8,Fy,h9⟩:=Gd.ex H.W' KW.1 (by omega) Bh;have ku:=keep H.W' Un h7 Fy KW.1 (by omega) Bh;have kv:=keep H.W' Un h7 Fy G9.1 (by omega) Dv;have uv:Rc q.nbrs (pB c p') u v:=(ku.symm H.W'.g.gr h7 (by omega) (H.W'.cp (by omega) h9)).trans kv
  have mI: ∀ w:Int,((pB c p').set (a:Int).toNat false).getD w.toNat false=true -> ((pB c p).set (a:Int).toNat false).getD w.toNat false=true:=fun w hw=>by
   have la:(pB c p').length=p'.length:=FX;have lb:(pB c p).length=p.length:=FX;rw [ZO (by omega)] at hw ⊢;split
   ·rename_i e;rw [zAA e] at hw;exact hw
   ·rename_i e;rw [zAY e] at hw;exact H.pB w hw
  have ua:Rc q.nbrs (pB c p') u a:=Classical.byContradiction fun Pd=>h5 ((zEv Pd (by omega) H.W'.g.gr KW.1 (by omega) uv).mono mI)
  have au:=ua.symm H.W'.g.gr KW.1 (by omega) pu;refine .inr ⟨?_,?_,⟨u,v,z8,zx,Bh,Dv,au,au.trans uv,fun Pd=>h5 (Pd.mono mI)⟩,h6⟩
  ·have:=ua.isIn pu
   rwa [zAP] at this
  ·cases hc:(cB c p').getD a false with
   | false=>rfl
   | true=>rw [jd (by omega) hc hs] at h6;cases h6
theorem yQ (H:Ni c q p p')(CW:UP c q p')(PQ: ∀ v,v<p'.length -> ∃ s,tb (p'.getD v 0) s=true/\ ¬ Qy c q p' v s):UP c q p/\ ∀ a s,a<p.length -> tb (p'.getD a 0) s=true -> Qy c q p a s -> Qy c q p' a s:=by
 have hl:=H.len
 have Un: ∀ v,v<p'.length -> ∃ s,tb (p'.getD v 0) s=true/\ ¬ F3 c q p' v s:=fun v hv=>by
  obtain ⟨t,h1,h2⟩:=PQ v hv;exact ⟨t,h1,fun h=>h2 (.inl h)⟩
 have cb: ∀ v:Nat,(cB c p).getD v false=true -> (cB c p').getD v false=true:=fun v h=>H.cB (v:Int) h
 have dP: ∀ v:Int,D1 q.nbrs (pB c p') v<=D1 q.nbrs (pB c p) v:=fun v=>Vh _ fun x _ h=>H.pB x h
 have dC: ∀ v:Int,D1 q.nbrs (cB c p) v<=D1 q.nbrs (cB c p') v:=fun v=>Vh _ fun x _ h=>H.cB x h
 refine ⟨fun v hv hc=>?_,fun a s ha hs h=>?_⟩
 ·have:=CW v (by omega) (cb v hc);have h1:=dP v;have h2:=dC v;omega
 ·rcases h with h | ⟨v,hv,h1,h2,h3,h4⟩
  ·exact .inl (pI H Un ha hs h)
  ·have hk:=CW v (by omega) (cb v h1);have e1:=dP v;have e2:=dC v;refine .inr ⟨v,by omega,cb v h1,h2,?_⟩;rcases h4 with ⟨h4,h5⟩ | ⟨h4,h5,h6⟩
   ·have hp:(pB c p').getD a false=true:=by
     cases hp:(pB c p').getD a false with
     | true=>rfl
     | false=>
      have:=Vg (f:=fun x:Int=>(pB c p').getD x.toNat false) (g:=fun x:Int=>(pB c p).getD x.toNat false) (a:=(a:Int)) hp h3 (nb q.nbrs v) (fun x _ h=>H.pB x h) h2;have e3:D1 q.nbrs (pB c p') v+1<=D1 q.nbrs (pB c p) v:=this;omega
    exact ⟨hp,.inl ⟨by omega,h5⟩⟩
   ·have hp:=ld (c:=c) (by omega) hs h6
    have hc:(cB c p').getD a false=false:=by
     cases hc:(cB c p').getD a false with
     | false=>rfl
     | true=>
      have:=Vg (f:=fun x:Int=>(cB c p).getD x.toNat false) (g:=fun x:Int=>(cB c p').getD x.toNat false) (a:=(a:Int)) h5 hc (nb q.nbrs v) (fun x _ h=>H.cB x h) h2;have e3:D1 q.nbrs (cB c p) v+1<=D1 q.nbrs (cB c p') v:=this;omega
    exact ⟨hp,.inr ⟨by omega,hc,h6⟩⟩
end
theorem mono (C:Bt q i p)(C':Bt q i p')(hS:Gc (con q i) p' p)(hA:OA q (con q i) p'):
 Oa q (con q i) p/\ ∀ k,k<(con q i).cells.length -> ∀ s,tb (Ab (con q i) p' k) s=true -> C5 q (con q i) p k s -> C5 q (con q i) p' k s:=by
 have W:=C.work;have W':=C'.work;have B8: ∀ a,a<(con q i).cells.length -> B4 (Ab (con q i) p' a):=fun a ha=>(W'.at ha).in64 (by have:=W'.k;omega)
 have kc:=US (UR C.kind);have IW: ∀ {k:Int},(con q i).kind=k -> k≠2 -> k≠3 -> k≠9 -> Oa q (con q i) p:=fun hk h2 h3 h9=>⟨fun h=>absurd (hk.symm.trans h) h2,fun h=>absurd (hk.symm.trans h) h3,hA.ok.2.2.1,fun h=>absurd (hk.symm.trans h) h9⟩
 have all: ∀ {hk:(con q i).kind=8∨(con q i).kind=9},Ni (con q i) q p p':=fun {hk}=>by
  have hl:=C.len;have Eh:=C'.len
  have Is:BZ p'=false:=HM.2 fun j hj=>by
   have hk8:(con q i).cells.length=p'.length:=by
    have h:=C'.kind;unfold GO at h;rcases hk with hk | hk <;> rw [hk] at h <;> simp at h <;> omega
   have:=hA.nz j (by omega)
   have e:Ab (con q i) p' j=p'.getD j 0:=by
    unfold Ab;rw [C'.cells.2.2 (by omega) j (by omega),zAP]
   rwa [e] at this
  have A':=C'.all hk Is
  have Q7: ∀ j,j<p.length -> ∀ s,tb (p'.getD j 0) s=true -> tb (p.getD j 0) s=true:=fun j hj s hs=>by
   have e: ∀ x:List Int,Ab (con q i) x j=x.getD j 0:=fun x=>by
    unfold Ab;rw [A'.id j (by omega),zAP]
   have:=hS j (by rw [A'.len];omega) s (by rw [e];exact hs)
   rwa [e] at this
  have hd:BZ p=false:=HM.2 fun j hj=>by
   have h:=HM.1 Is j (by omega);obtain ⟨s,h1,h2⟩:=(GD ((C'.sm j (by omega)).in64 (by have:=W'.k;omega))).1 h;exact (GD ((C.sm j hj).in64 (by have:=W'.k;omega))).2 ⟨s,h1,Q7 j hj s h2⟩
  exact ⟨C.all hk hd,A',by omega,Q7⟩
 rcases kc with hk | hk | hk | hk | hk | hk | hk | hk | hk
 ·refine ⟨IW hk (by decide) (by decide) (by decide),fun k Bn s hs h=>?_⟩;unfold C5 at h ⊢;rw [hk] at h ⊢;simp at h ⊢;exact zDl W hS B8 hA.nz h
 ·have h2:=zDv hS B8 hA.nz (hA.ok.1 hk);refine ⟨⟨fun _=>h2.1,fun h=>absurd (hk.symm.trans h) (by decide),hA.ok.2.2.1,fun h=>absurd (hk.symm.trans h) (by decide)⟩,fun k Bn s hs h=>?_⟩;unfold C5 at h ⊢;rw [hk] at h ⊢;simp at h ⊢;exact h2.2 k s Bn hs h
 ·have h2:=sZ (q:=q) W W' hS (hA.ok.2.1 hk);refine ⟨⟨fun h=>absurd (hk.symm.trans h) (by decide),fun _=>h2.1,hA.ok.2.2.1,fun h=>absurd (hk.symm.trans h) (by decide)⟩,fun k Bn s hs h=>?_⟩;unfold C5 at h ⊢;rw [hk] at h ⊢;simp at h ⊢;exact h2.2 k s Bn h
 ·refine ⟨IW hk (by decide) (by decide) (by decide),fun k Bn s hs h=>?_⟩;unfold C5 at h ⊢;rw [hk] at h ⊢;simp at h ⊢;exact vk W W' hS Bn h
 ·refine ⟨IW hk (by decide) (by decide) (by decide),fun k Bn s hs h=>?_⟩;unfold C5 at h ⊢;rw [hk] at h ⊢;simp at h ⊢;exact u9 hS Bn h
 ·refine ⟨IW hk (by decide) (by decide) (by decide),fun k Bn s hs h=>?_⟩;have h2:=C.two (.inl hk);unfold C5 at h ⊢;rw [hk] at h ⊢;simp at h ⊢;exact lM hS h2 h
 ·refine ⟨IW hk (by decide) (by decide) (by decide),fun k Bn s hs h=>?_⟩;have h2:=C.two (.inr hk);unfold C5 at h ⊢;rw [hk] at h ⊢;simp at h ⊢;exact lM hS h2 h
 ·have H:=all (hk:=.inl hk)
  have e: ∀ (x:List Int) (j:Nat),j<p.length -> Ab (con q i) x j=x.getD j 0:=fun x j hj=>by
   unfold Ab;rw [H.W.id j hj,zAP]
  have Af:=H.W.len;have hl:=H.len;have lc: ∀ x a s,C5 q (con q i) x a s↔Jm (con q i) q x a s:=fun x a s=>by unfold C5;rw [hk];simp
  refine ⟨IW hk (by decide) (by decide) (by decide),fun k Bn s hs h=>?_⟩;rw [lc] at h ⊢;rw [e _ _ (by omega)] at hs;refine zD6 H (fun v hv=>?_) (by omega) hs h;obtain ⟨t,h1,h2⟩:=hA.left v (by omega);rw [e _ _ (by omega)] at h1;exact ⟨t,h1,fun h3=>h2 ((lc _ _ _).2 h3)⟩
 ·have H:=all (hk:=.inr hk)
  have e: ∀ (x:List Int) (j:Nat),j<p.length -> Ab (con q i) x j=x.getD j 0:=fun x j hj=>by
   unfold Ab;rw [H.W.id j hj,zAP]
  have Af:=H.W.len;have hl:=H.len;have lc: ∀ x a s,C5 q (con q i) x a s↔Qy (con q i) q x a s:=fun x a s=>by unfold C5;rw [hk];simp
  have h2:=yQ H (hA.ok.2.2.2 hk) fun v hv=>by
   obtain ⟨t,h1,h2⟩:=hA.left v (by omega);rw [e _ _ (by omega)] at h1;exact ⟨t,h1,fun h3=>h2 ((lc _ _ _).2 h3)⟩
  refine ⟨⟨fun h=>absurd (hk.symm.trans h) (by decide),fun h=>absurd (hk.symm.trans h) (by decide),hA.ok.2.2.1,fun _=>h2.1⟩,fun k Bn s hs h=>?_⟩;rw [lc] at h ⊢;rw [e _ _ (by omega)] at hs;exact h2.2 k s (by omega) hs h
end
section
variable {q:AA} {i:Int} {pos x:List Int}
theorem PR.sub {c:AB}(h:PR q c pos x){j s:Nat}(hs:tb (x.getD j 0) s=true):j<pos.length/\ tb (pos.getD j 0) s=true:=by
 have hj:j<pos.length:=by
  refine zCi fun B2=>?_
  rw [u8,zCU (by have:=h.len;omega)] at hs;exact IK hs
 refine ⟨hj,?_⟩
 by_cases hA:Kr q c pos
 ·exact (((h.live hA j hj).2 s).1 hs).1
 ·rw [h.dead hA,QB] at hs;exact absurd hs IK
theorem PR.in64 {c:AB}(h:PR q c pos x)(j:Nat):B4 (x.getD j 0):=by
 by_cases hA:Kr q c pos
 ·by_cases hj:j<pos.length
  ·exact (h.live hA j hj).1
  ·rw [u8,zCU (by have:=h.len;omega)];exact ⟨by decide,by decide⟩
 ·rw [h.dead hA];exact ZZ j
theorem LD (hv:DG q=true){y:List Int}:posOk q y=true↔(y.length:Int)=q.cells/\ ∀ j,j<y.length -> Sm q.symbols.toNat (y.getD j 0):=by
 unfold posOk;rw [zAO,zCR,zAX];constructor
 ·rintro ⟨h1,h2⟩;refine ⟨h1,fun j hj=>?_⟩;have hm:y.getD j 0∈y:=by rw [u8,zAE hj];exact zB0 hj
  have:=h2 _ hm;rw [zAO,zBq,zBq] at this;exact this
 ·rintro ⟨h1,h2⟩;refine ⟨h1,fun z hz=>?_⟩;obtain ⟨j,hj,rfl⟩:=zEk hz;have:=h2 j hj;rw [u8,zAE hj] at this;rw [zAO,zBq,zBq];exact this
end
section
variable {q:AA} {i:Int} {p p' x z:List Int}
theorem rF (C:Bt q i p){k s:Nat}(hk:k<(con q i).cells.length):LC q (con q i) p ((con q i).cells.getD k 0).toNat s↔C5 q (con q i) p k s:=by
 constructor
 ·rintro ⟨a,ha,e,h⟩;have h1:=C.work.cells a ha;have h2:=C.work.cells k hk;have As:=C.cells.2.1;have e2:(con q i).cells.getD a 0=(con q i).cells.getD k 0:=by omega
  rw [u8,zAE ha,u8,zAE hk] at e2;have e2:(con q i).cells[a]=(con q i).cells[k]:=e2;have hp:=zGr.1 As
  have:a=k:=by
   rcases Nat.lt_trichotomy a k with h3 | h3 | h3
   ·exact absurd e2 (hp a k ha hk h3)
   ·exact h3
   ·exact absurd e2.symm (hp k a hk ha h3)
  subst this;exact h
 ·intro h;exact ⟨k,hk,rfl,h⟩
theorem qs (C:Bt q i p):Kr q (con q i) p↔(∀ j,j<p.length -> p.getD j 0≠0)/\ OA q (con q i) p:=by
 have W:=C.work;constructor
 ·intro h;refine ⟨h.nz,fun k hk=>h.nz _ (by have:=W.cells k hk;omega),h.ok,fun k hk=>?_⟩;obtain ⟨s,_,h1,h2⟩:=h.left ((con q i).cells.getD k 0).toNat (by have:=W.cells k hk;omega);exact ⟨s,h1,fun h3=>h2 ((rF C hk).2 h3)⟩
 ·rintro ⟨h1,h2⟩;refine ⟨h1,h2.ok,fun j hj=>?_⟩
  by_cases M5: ∃ k,k<(con q i).cells.length/\ ((con q i).cells.getD k 0).toNat=j
  ·obtain ⟨k,hk,rfl⟩:=M5;obtain ⟨s,h3,h4⟩:=h2.left k hk;exact ⟨s,zCi fun h=>(by rw [JA h] at h3;cases h3),h3,fun h5=>h4 ((rF C hk).1 h5)⟩
  ·obtain ⟨s,h3,h4⟩:=(GD ((C.sm j hj).in64 (by have:=W.k;omega))).1 (h1 j hj);exact ⟨s,h3,h4,fun ⟨a,ha,e,_⟩=>M5 ⟨a,ha,e⟩⟩
theorem xa (C:Bt q i p)(C':Bt q i p')(hS:Gc (con q i) p' p)(hA:OA q (con q i) p'):OA q (con q i) p/\ ∀ k,k<(con q i).cells.length -> ∀ s,tb (Ab (con q i) p' k) s=true -> C5 q (con q i) p k s -> C5 q (con q i) p' k s:=by
 obtain ⟨h1,h2⟩:=mono C C' hS hA;have W:=C.work;refine ⟨⟨fun k hk=>?_,h1,fun k hk=>?_⟩,h2⟩
 ·obtain ⟨s,h3,_⟩:=hA.left k hk;exact (GD ((W.at hk).in64 (by have:=W.k;omega))).2 ⟨s,zCi fun h=>(by rw [JA h] at h3;cases h3),hS k hk s h3⟩
 ·obtain ⟨s,h3,h4⟩:=hA.left k hk;exact ⟨s,hS k hk s h3,fun h5=>h4 (h2 k hk s h3 h5)⟩
end
section
variable {q:AA} {i:Int} {a b:List Int}
theorem kz (C:Bt q i a): ∃ x,Ev (fun n=>OR n q i a) (x,0)/\ PR q (con q i) a x:=by
 obtain ⟨r,h1,h2,h3,_⟩:=wf (i:=i) C.fit (pos:=a) (zAa C.len256.2 (by decide));obtain ⟨x,e⟩:=r;have e0:e=0:=h2.trans C.check;subst e0;exact ⟨x,h1,h3 rfl⟩
end
section
variable {q:AA} {i j:Int} {p p' x y z:List Int}
theorem PR.posOk (C:Bt q i p)(h:PR q (con q i) p x):posOk q x=true:=by
 refine (LD C.valid).2 ⟨by rw [h.len];exact C.len,fun j hj=>?_⟩;have hk:=C.work.k;refine aA (by omega) (h.in64 j) fun s hs _=>?_
 cases ht:tb (x.getD j 0) s with
 | false=>rfl
 | true=>
  obtain ⟨h1,h2⟩:=h.sub ht;rw [(C.sm j h1).hi hs] at h2;cases h2
theorem PR.alive (C:Bt q i p)(hd:BZ p=false)(h:PR q (con q i) p p):Kr q (con q i) p:=by
 refine Classical.byContradiction fun hA=>?_
 have h0:=C.len256.1;have:=HM.1 hd 0 h0;rw [h.dead hA,QB] at this;exact this rfl
theorem yX (C:Bt q i p)(C':Bt q i p')(RO: ∀ k,k<(con q i).cells.length -> Ab (con q i) p' k=Ab (con q i) p k)(hd:BZ p=false)(Is:BZ p'=false)(h:PR q (con q i) p p):PR q (con q i) p' p':=by
 have hA:=h.alive C hd;obtain ⟨_,hO⟩:=(qs C).1 hA;obtain ⟨Kg,hl⟩:=xa C' C (fun k hk s hs=>by rw [RO k hk];exact hs) hO;have hA':Kr q (con q i) p':=(qs C').2 ⟨HM.1 Is,Kg⟩;refine ⟨rfl,fun _ j hj=>⟨(C'.sm j hj).in64 (by have:=C'.work.k;omega),fun s=>⟨fun hs=>⟨hs,?_⟩,fun hs=>hs.1⟩⟩,fun hn=>absurd hA' hn⟩;rintro ⟨k,hk,e,h1⟩
 have JT:tb (Ab (con q i) p k) s=true:=by
  rw [←RO k hk]
  show tb (p'.getD ((con q i).cells.getD k 0).toNat 0) s=true
  rw [e];exact hs
 have h2:=hl k hk s JT h1;have hW:=C.work.cells k hk;have YH:tb (p.getD ((con q i).cells.getD k 0).toNat 0) s=true:=JT;have h3:=(((h.live hA ((con q i).cells.getD k 0).toNat (by omega)).2 s).1 YH).2;exact h3 ⟨k,hk,rfl,h2⟩
end
structure BK (q:AA)(p:List Int):Prop where
 fit:EC q
 valid:DG q=true
 ok:posOk q p=true
def Le (a b:List Int):Prop:=∀ j s,tb (a.getD j 0) s=true -> tb (b.getD j 0) s=true
def Up (q:AA)(level:Int)(i:Int):Prop:=0<=i/\ i<(q.cons.length:Int)/\ Ic (con q i).kind<=level
def P9 (q:AA)(U:Int -> Prop)(p:List Int):Prop:=∀ i,U i -> PR q (con q i) p p
inductive Fl (q:AA)(U:Int -> Prop):List Int -> List Int -> Prop
 | refl (p:List Int):Fl q U p p
 | step {p x y:List Int} {i:Int}:U i -> PR q (con q i) p x -> Fl q U x y -> Fl q U p y
section
variable {q:AA} {U:Int -> Prop} {p x y z:List Int} {i level:Int}
theorem BK.ctx (h:BK q p)(h0:0<=i)(h1:i<(q.cons.length:Int)):Bt q i p:=⟨h.fit,h.valid,h0,h1,h.ok⟩
theorem BK.len (h:BK q p):(p.length:Int)=q.cells:=((LD h.valid).1 h.ok).1
theorem BK.sm (h:BK q p): ∀ j,j<p.length -> Sm q.symbols.toNat (p.getD j 0):=((LD h.valid).1 h.ok).2
theorem BK.k (h:BK q p):q.symbols.toNat<=16:=by have:=(EF h.valid).2.1;omega
theorem BK.len256 (h:BK q p):0<p.length/\ p.length<=256:=by
 have h1:=(EF h.valid).1;have:=h.len;omega
theorem BK.in64 (h:BK q p)(j:Nat):B4 (p.getD j 0):=by
 by_cases hj:j<p.length
 ·exact (h.sm j hj).in64 (by have:=h.k;omega)
 ·rw [u8,zCU (by omega)];exact ⟨by decide,by decide⟩
theorem BK.pr (h:BK q p)(h0:0<=i)(h1:i<(q.cons.length:Int))(hx:PR q (con q i) p x):BK q x:=⟨h.fit,h.valid,hx.posOk (h.ctx h0 h1)⟩
theorem BK.eqlen (h:BK q p)(h':BK q x):x.length=p.length:=by have:=h.len;have:=h'.len;omega
theorem Le.refl (a:List Int):Le a a:=fun _ _ h=>h
theorem Le.trans (h:Le x y)(h':Le y z):Le x z:=fun j s hs=>h' j s (h j s hs)
theorem Le.eq (hx:BK q x)(hy:BK q y)(h:Le x y)(h':Le y x):x=y:=by
 have e:x.length=y.length:=hy.eqlen hx;refine zGU e fun j h1 h2=>?_
 have e1:x.getD j 0=x[j]:=by simp [h1]
 have e2:y.getD j 0=y[j]:=by simp [h2]
 rw [←e1,←e2];refine MH (hx.in64 j) (hy.in64 j) fun s _=>?_
 rw [zFk];exact ⟨h j s,h' j s⟩
theorem PR.le {c:AB}(h:PR q c p x):Le x p:=fun _ _ hs=>(h.sub hs).2
theorem Fl.pos (hU: ∀ i,U i -> 0<=i/\ i<(q.cons.length:Int))(hd:Fl q U p y):BK q p -> BK q y:=by
 induction hd with
 | refl p=>exact id
 | step hi hx _ ih=>exact fun h=>ih (h.pr (hU _ hi).1 (hU _ hi).2 hx)
theorem Fl.le (hd:Fl q U p y):Le y p:=by
 induction hd with
 | refl p=>exact Le.refl p
 | step hi hx _ ih=>exact ih.trans hx.le
theorem Fl.trans (h:Fl q U p x)(h':Fl q U x y):Fl q U p y:=by
 induction h with
 | refl p=>exact h'
 | step hi hx _ ih=>exact .step hi hx (ih h')
theorem Fl.one (hi:U i)(hx:PR q (con q i) p x):Fl q U p x:=.step hi hx (.refl x)
theorem r7 (i:Int)(h:Up q level i):0<=i/\ i<(q.cons.length:Int):=⟨h.1,h.2.1⟩
theorem k8 {c:AB}{m:Nat}(hm:0<m):PR q c (List.replicate m 0) (List.replicate m 0):=by
 refine ⟨rfl,fun hA=>?_,fun _=>by simp⟩;have:=hA.nz 0 (by simpa using hm);exact absurd (QB (pos:=List.replicate m 0) 0) (by simpa [zB1] using this)
theorem oz {m:Nat}(hm:0<m):P9 q U (List.replicate m 0):=fun _ _=>k8 hm
theorem PR.zero {c:AB}(h:PR q c p x)(hd:BZ x=true):x=List.replicate p.length 0:=by
 refine Classical.byContradiction fun AR=>?_
 have hA:Kr q c p:=Classical.byContradiction fun hA=>AR (h.dead hA)
 have: ¬ BZ x=false:=by rw [hd];exact fun h=>by cases h
 refine this (HM.2 fun j hj=>?_);have BM:j<p.length:=by rw [←h.len];exact hj
 obtain ⟨s,h1,h2,h3⟩:=hA.left j BM;exact (GD (h.live hA j BM).1).2 ⟨s,h1,((h.live hA j BM).2 s).2 ⟨h2,h3⟩⟩
def wt (p:List Int):Nat:=(List.range (64*p.length)).countP fun k=>tb (p.getD (k/64) 0) (k % 64)
theorem Sb (hx:BK q x)(hp:BK q p)(h:Le x p)(AR:x≠p):wt x+1<=wt p:=by
 have e:x.length=p.length:=hp.eqlen hx
 obtain ⟨j,s,hj,hs,h1,h2⟩: ∃ j s:Nat,j<p.length/\ s<64/\ tb (x.getD j 0) s=false/\ tb (p.getD j 0) s=true:=by
  refine Classical.byContradiction fun hn=>AR (Le.eq hx hp h fun j s hs=>?_)
  have zAQ:s<64:=zCi fun h=>by rw [JA h] at hs;cases hs
  have hj:j<p.length:=zCi fun B2=>by
   rw [u8,zCU B2] at hs;exact IK hs
  cases hb:tb (x.getD j 0) s with
  | true=>rfl
  | false=>exact absurd ⟨j,s,hj,zAQ,hb,hs⟩ hn
 unfold wt;rw [e];have ej:(64*j+s)/64=j:=by omega
 have es:(64*j+s) % 64=s:=by omega
 refine Vg (a:=64*j+s) (by rw [ej,es];exact h1) (by rw [ej,es];exact h2) _ (fun k _ hk=>h _ _ hk) (zBf.2 (by omega))
end
set_option maxRecDepth 100000
set_option maxHeartbeats 40000000
inductive QN where
 | l1 (BN:Int)
 | l2 (x4:Nat) (BN:Int) (o1:List Int)
def Sk (n:Nat)(self:QN -> Option ((List Int)))(q:AA)(level:Int)(BN:Int):Option ((List Int)):= bif (decide (BN<(q.cons.length:Int))) then (Ou n q BN).bind fun y1=> bif (y1.2==0) then bif (decide (y1.1<=level)) then if ((0=0/\ 1=([BN]:List Int).length)/\ 0<([BN]:List Int).length/\ ([BN]:List Int).length<=A3)/\ AH (BN+1) then self (.l2 (([BN]:List Int).length) (BN+1) ([BN]:List Int)) else none else if AH (BN+1) then self (.l1 (BN+1)) else none else if AH (BN+1) then self (.l1 (BN+1)) else none else some ([]:List Int)
def Sj (n:Nat)(self:QN -> Option ((List Int)))(q:AA)(level:Int)(x4:Nat)(BN:Int)(o1:List Int):Option ((List Int)):= bif (decide (BN<(q.cons.length:Int))) then (Ou n q BN).bind fun y1=> bif (y1.2==0) then bif (decide (y1.1<=level)) then if ((0=0/\ 1=([BN]:List Int).length)/\ (0=0/\ x4=o1.length)/\ o1.length+([BN]:List Int).length<=A3)/\ AH (BN+1) then self (.l2 (o1.length+([BN]:List Int).length) (BN+1) (o1++([BN]:List Int))) else none else if AH (BN+1) then self (.l2 x4 (BN+1) o1) else none else if AH (BN+1) then self (.l2 x4 (BN+1) o1) else none else if x4=o1.length then some o1 else none
def r9 (n:Nat)(self:QN -> Option ((List Int)))(q:AA)(level:Int):Option ((List Int)):= self (.l1 0)
def HQ (q:AA)(level:Int):Nat -> QN -> Option ((List Int))
 | 0,_=>none
 | n+1,.l1 BN=>Sk n (HQ q level n) q level BN
 | n+1,.l2 x4 BN o1=>Sj n (HQ q level n) q level x4 BN o1
def Sl (n:Nat)(q:AA)(level:Int):Option ((List Int)):=r9 n (HQ q level n) q level
def sA (n B:Nat)(N:Yd 0)(q:AA)(level:Int)(r:(List Int)):QN -> Prop
 | .l1 BN=>∀ m0:Nat,n<=m0 -> TW B N (FQ Tryz.f81 0 (.ints r) []) (Ax m0 (A7 (AY Tryz.f81) 0 [])) ⟨AF 33 [(1,.i level),(2,.ref 0 0),(4,.nils),(10,.i (q.cons.length:Int)),(11,.i BN)],[oC (AG q)]⟩
 | .l2 x4 BN o1=>∀ m0:Nat,n<=m0 -> TW B N (FQ Tryz.f81 0 (.ints r) []) (Ax m0 (A7 (AY Tryz.f81) 0 [])) ⟨AF 33 [(1,.i level),(2,.ref 0 0),(4,.msl 1 1 0 x4),(10,.i (q.cons.length:Int)),(11,.i BN)],[oC (AG q),oI o1]⟩
theorem sB (B:Nat)(N:Yd 0)(q:AA)(level:Int):Al (HQ q level) (sA · B N q level):=ia (fun _=>rfl) fun n AJ pt r h=>by
 cases pt
 case l1 BN=>
  intro m0 AC;refine rd AC fun m0 AC=>?_
  revert r;apply gO;exact bi 12 (cf bc [oC (AG q)] fun _=>bi 21 (bi 25 (gc (gi (gw 31 (lG AD [0,2] (AJ _ _ · m0 AC))))) (gw 31 (lG AD [0] (AJ _ _ · m0 AC)))) (gw 31 (lG AD [0] (AJ _ _ · m0 AC)))) (lF fun p=>el AD [4] [] p [] H0 [.nils] AL.ints_nil)
 case l2 x4 BN o1=>
  intro m0 AC;refine rd AC fun m0 AC=>?_
  revert r;apply gO;exact bi 12 (cf bc [oC (AG q),oI o1] fun _=>bi 21 (bi 25 (gc (gi (gw 31 (lG AD [0,3] (AJ _ _ · m0 AC))))) (gw 31 (lG AD [0,1] (AJ _ _ · m0 AC)))) (gw 31 (lG AD [0,1] (AJ _ _ · m0 AC)))) (gn fun g0=>lF fun p=>ez AD [4] [1] p [0] (H0.g g0))
theorem gx {n:Nat}{q:AA}{level:Int}{r:(List Int)}(h:Sl n q level=some r):EQ 81 [.agg 5 (L1 (AG q)),.i level] [] (.ints r) [] true:=by
 refine ot Tryz.func81 fun B N=>?_
 revert r;apply gO;exact lN AD [0] ((sB B N q level n) _ _ · n Nat.le.refl)
inductive SO where
 | l1 (x8:Int)
 | l2 (x8:Int) (o0:List Bool) (Cb:Nat) (o2:List Int)
def V3 (n:Nat)(self:SO -> Option ((List Bool)×Nat×Nat×(List Int)×Bool))(l:List Int)(ws:List Bool)(x8:Int):Option ((List Bool)×Nat×Nat×(List Int)×Bool):= bif (decide (x8<(l.length:Int))) then if (0<=x8/\ x8<(l.length:Int))/\ (0<=(l.getD ((x8).toNat) 0)/\ (l.getD ((x8).toNat) 0)<((4096:Nat):Int))/\ 0+((l.getD ((x8).toNat) 0).toNat)<ws.length then bif (!(ws.getD (0+((l.getD ((x8).toNat) 0).toNat)) false)) then if ((0=0/\ 1=([l.getD ((x8).toNat) 0]:List Int).length)/\ 0<([l.getD ((x8).toNat) 0]:List Int).length/\ ([l.getD ((x8).toNat) 0]:List Int).length<=A3)/\ AH (x8+1) then self (.l2 (x8+1) (ws.set (0+((l.getD ((x8).toNat) 0).toNat)) true) (([l.getD ((x8).toNat) 0]:List Int).length) ([l.getD ((x8).toNat) 0]:List Int)) else none else if AH (x8+1) then self (.l1 (x8+1)) else none else none else some (ws,0,0,([]:List Int),true)
def Px (n:Nat)(self:SO -> Option ((List Bool)×Nat×Nat×(List Int)×Bool))(l:List Int)(ws:List Bool)(x8:Int)(o0:List Bool)(Cb:Nat)(o2:List Int):Option ((List Bool)×Nat×Nat×(List Int)×Bool):= bif (decide (x8<(l.length:Int))) then if (0<=x8/\ x8<(l.length:Int))/\ (0<=(l.getD ((x8).toNat) 0)/\ (l.getD ((x8).toNat) 0)<((4096:Nat):Int))/\ 0+((l.getD ((x8).toNat) 0).toNat)<o0.length then bif (!(o0.getD (0+((l.getD ((x8).toNat) 0).toNat)) false)) then if 0+Cb=o2.length/\ Cb+([l.getD ((x8).toNat) 0]:List Int).length<=A3/\ AH (x8+1) then self (.l2 (x8+1) (o0.set (0+((l.getD ((x8).toNat) 0).toNat)) true) (Cb+([l.getD ((x8).toNat) 0]:List Int).length) (o2++([l.getD ((x8).toNat) 0]:List Int))) else none else if AH (x8+1) then self (.l2 (x8+1) o0 Cb o2) else none else none else some (o0,0,Cb,o2,false)
def zFL (n:Nat)(self:SO -> Option ((List Bool)×Nat×Nat×(List Int)×Bool))(l:List Int)(ws:List Bool):Option ((List Bool)×Nat×Nat×(List Int)×Bool):= self (.l1 0)
def I4 (l:List Int)(ws:List Bool):Nat -> SO -> Option ((List Bool)×Nat×Nat×(List Int)×Bool)
 | 0,_=>none
 | n+1,.l1 x8=>V3 n (I4 l ws n) l ws x8
 | n+1,.l2 x8 o0 Cb o2=>Px n (I4 l ws n) l ws x8 o0 Cb o2
def Nd (n:Nat)(l:List Int)(ws:List Bool):Option ((List Bool)×Nat×Nat×(List Int)×Bool):=zFL n (I4 l ws n) l ws
def zFM (n B:Nat)(N:Yd 2)(l:List Int)(ws:List Bool)(r:(List Bool)×Nat×Nat×(List Int)×Bool):SO -> Prop
 | .l1 x8=>∀ m0:Nat,n<=m0 -> TW B N (FQ Tryz.f116 2 (.tup 0 (fun j=>([]:List DV).getD j .any)) (bif r.2.2.2.2 then [some (.bools r.1),oC [.nils]] else [some (.bools r.1),oC [.mse 2 1 r.2.1 r.2.2.1],oI r.2.2.2.1])) (Ax m0 (A7 (AY Tryz.f116) 0 [])) ⟨AF 23 [(1,.mp 0 1 0 0),(2,.ref 1 0),(6,.ints l),(7,.i (l.length:Int)),(8,.i x8)],[some (.bools ws),oC [.nils]]⟩
 | .l2 x8 o0 Cb o2=>∀ m0:Nat,n<=m0 -> TW B N (FQ Tryz.f116 2 (.tup 0 (fun j=>([]:List DV).getD j .any)) (bif r.2.2.2.2 then [some (.bools r.1),oC [.nils]] else [some (.bools r.1),oC [.mse 2 1 r.2.1 r.2.2.1],oI r.2.2.2.1])) (Ax m0 (A7 (AY Tryz.f116) 0 [])) ⟨AF 23 [(1,.mp 0 1 0 0),(2,.ref 1 0),(6,.ints l),(7,.i (l.length:Int)),(8,.i x8)],[some (.bools o0),oC [.mse 2 1 0 Cb],oI o2]⟩
theorem zFN (B:Nat)(N:Yd 2)(l:List Int)(ws:List Bool):Al (I4 l ws) (zFM · B N l ws):=ia (fun _=>rfl) fun n AJ pt r h=>by
 cases pt
 case l1 x8=>
  intro m0 AC;refine rd AC fun m0 AC=>?_
  revert r;apply gO;exact bi 9 (gc (gi (gc (gn fun g1=>jg g1 (gn fun g2=>jg g2 (bi 15 (jg g1 (jg g2 (gc (gi (jo 21 (AL.msl_mse (k:=3) (m:=1) (o:=0) (n:=([l.getD ((x8).toNat) 0]:List Int).length)) (jt (gw 22 (lG AD [0,1,3] (AJ _ _ · m0 AC))))))))) (gw 22 (lG AD [0,1] (AJ _ _ · m0 AC))))))))) (lE AD [] [0,1])
 case l2 x8 o0 Cb o2=>
  intro m0 AC;refine rd AC fun m0 AC=>?_
  revert r;apply gO;exact bi 9 (gc (gi (gc (gn fun g1=>jg g1 (gn fun g2=>jg g2 (bi 15 (jg g1 (jg g2 (jg (And.intro (Eq.refl 0) (Eq.refl 1)) (jg (by decide:0<1) (gc (gi (gc (gi (jt (gw 22 (lG AD [0,1,4] (AJ _ _ · m0 AC)))))))))))) (gw 22 (lG AD [0,1,2] (AJ _ _ · m0 AC))))))))) (lE AD [] [0,1,2])
theorem qz {n:Nat}{l:List Int}{ws:List Bool}{r:(List Bool)×Nat×Nat×(List Int)×Bool}(h:Nd n l ws=some r):EQ 116 [.ints l,.mp 0 1 0 0,.ref 1 0] [some (.bools ws),oC [.nils]] (.tup 0 (fun j=>([]:List DV).getD j .any)) (bif r.2.2.2.2 then [some (.bools r.1),oC [.nils]] else [some (.bools r.1),oC [.mse 2 1 r.2.1 r.2.2.1],oI r.2.2.2.1]) false:=by
 refine ot Tryz.func116 (hni:=by cases r.2.2.2.2 <;> rfl) fun B N=>?_
 revert r;apply gO;exact lN AD [0,1] ((zFN B N l ws n) _ _ · n Nat.le.refl)
theorem qy {n:Nat}{l:List Int}{ws:List Bool}{r:(List Bool)×Nat×Nat×(List Int)×Bool}(h:Nd n l ws=some r)(c:r.2.2.2.2=true):EQ 116 [.ints l,.mp 0 1 0 0,.ref 1 0] [some (.bools ws),oC [.nils]] (.tup 0 (fun j=>([]:List DV).getD j .any)) [some (.bools r.1),oC [.nils]] false:=by
 have:=qz h;rw [c] at this;exact this
theorem qx {n:Nat}{l:List Int}{ws:List Bool}{r:(List Bool)×Nat×Nat×(List Int)×Bool}(h:Nd n l ws=some r)(c:r.2.2.2.2=false):EQ 116 [.ints l,.mp 0 1 0 0,.ref 1 0] [some (.bools ws),oC [.nils]] (.tup 0 (fun j=>([]:List DV).getD j .any)) [some (.bools r.1),oC [.mse 2 1 r.2.1 r.2.2.1],oI r.2.2.2.1] false:=by
 have:=qz h;rw [c] at this;exact this
inductive ZU where
 | l1 (x8:Int) (o0:List Bool) (KQ Cb:Nat) (o3:List Int)
def Pz (n:Nat)(self:ZU -> Option ((List Bool)×Nat×Nat×(List Int)))(l:List Int)(ws:List Bool)(o_ n_:Nat)(qu:List Int)(x8:Int)(o0:List Bool)(KQ Cb:Nat)(o3:List Int):Option ((List Bool)×Nat×Nat×(List Int)):= bif (decide (x8<(l.length:Int))) then if (0<=x8/\ x8<(l.length:Int))/\ (0<=(l.getD ((x8).toNat) 0)/\ (l.getD ((x8).toNat) 0)<((4096:Nat):Int))/\ 0+((l.getD ((x8).toNat) 0).toNat)<o0.length then bif (!(o0.getD (0+((l.getD ((x8).toNat) 0).toNat)) false)) then if KQ+Cb=o3.length/\ Cb+([l.getD ((x8).toNat) 0]:List Int).length<=A3/\ AH (x8+1) then self (.l1 (x8+1) (o0.set (0+((l.getD ((x8).toNat) 0).toNat)) true) 0 (Cb+([l.getD ((x8).toNat) 0]:List Int).length) ((o3.drop KQ)++([l.getD ((x8).toNat) 0]:List Int))) else none else if AH (x8+1) then self (.l1 (x8+1) o0 KQ Cb o3) else none else none else some (o0,KQ,Cb,o3)
def zFO (n:Nat)(self:ZU -> Option ((List Bool)×Nat×Nat×(List Int)))(l:List Int)(ws:List Bool)(o_ n_:Nat)(qu:List Int):Option ((List Bool)×Nat×Nat×(List Int)):= self (.l1 0 ws o_ n_ qu)
def Py (l:List Int)(ws:List Bool)(o_ n_:Nat)(qu:List Int):Nat -> ZU -> Option ((List Bool)×Nat×Nat×(List Int))
 | 0,_=>none
 | n+1,.l1 x8 o0 KQ Cb o3=>Pz n (Py l ws o_ n_ qu n) l ws o_ n_ qu x8 o0 KQ Cb o3
def Ly (n:Nat)(l:List Int)(ws:List Bool)(o_ n_:Nat)(qu:List Int):Option ((List Bool)×Nat×Nat×(List Int)):=zFO n (Py l ws o_ n_ qu n) l ws o_ n_ qu
def zFQ (n B:Nat)(N:Yd 3)(l:List Int)(ws:List Bool)(o_ n_:Nat)(qu:List Int)(r:(List Bool)×Nat×Nat×(List Int)):ZU -> Prop
 | .l1 x8 o0 KQ Cb o3=>∀ m0:Nat,n<=m0 -> TW B N (FQ Tryz.f116 3 (.tup 0 (fun j=>([]:List DV).getD j .any)) [some (.bools r.1),oC [.mse 3 1 r.2.1 r.2.2.1],none,oI r.2.2.2]) (Ax m0 (A7 (AY Tryz.f116) 0 [])) ⟨AF 23 [(1,.mp 0 1 0 0),(2,.ref 1 0),(6,.ints l),(7,.i (l.length:Int)),(8,.i x8)],[some (.bools o0),oC [.mse 3 1 KQ Cb],none,oI o3]⟩
theorem zFR (B:Nat)(N:Yd 3)(l:List Int)(ws:List Bool)(o_ n_:Nat)(qu:List Int):Al (Py l ws o_ n_ qu) (zFQ · B N l ws o_ n_ qu):=ia (fun _=>rfl) fun n AJ pt r h=>by
 cases pt
 case l1 x8 o0 KQ Cb o3=>
  intro m0 AC;refine rd AC fun m0 AC=>?_
  revert r;apply gO;exact bi 9 (gc (gi (gc (gn fun g1=>jg g1 (gn fun g2=>jg g2 (bi 15 (jg g1 (jg g2 (jg (And.intro (Eq.refl 0) (Eq.refl 1)) (jg (by decide:0<1) (gc (gi (gc (gi (jt (gw 22 (lG AD [0,1,2,5] (AJ _ _ · m0 AC)))))))))))) (gw 22 (lG AD [0,1,2,3] (AJ _ _ · m0 AC))))))))) (lE AD [] [0,1,2,3])
theorem fy {n:Nat}{l:List Int}{ws:List Bool}{o_ n_:Nat}{qu:List Int}{r:(List Bool)×Nat×Nat×(List Int)}(h:Ly n l ws o_ n_ qu=some r):EQ 116 [.ints l,.mp 0 1 0 0,.ref 1 0] [some (.bools ws),oC [.mse 2 1 o_ n_],oI qu] (.tup 0 (fun j=>([]:List DV).getD j .any)) [some (.bools r.1),oC [.mse 3 1 r.2.1 r.2.2.1],none,oI r.2.2.2] false:=by
 refine ot Tryz.func116 fun B N=>?_
 refine BU.le (At.moveE 2 ⟨AF 23 [(0,.ints l),(1,.mp 0 1 0 0),(2,.ref 1 0)],[some (.bools ws),oC [.mse 3 1 o_ n_],none,oI qu]⟩ (by kernel_rfl)) (by kernel_rfl) ?_;revert r;apply gO;exact lN AD [0,1,2,3] ((zFR B N l ws o_ n_ qu n) _ _ · n Nat.le.refl)
def lh (n:Nat)(c:Int)(q:AA):Option Bool:= bif (decide (c<0)) then some true else some (decide (c>=q.cells))
def XQ (n:Nat)(c:Int)(q:AA):Option Bool:=lh n c q
theorem xI {n:Nat}{c:Int}{q:AA}{r:Bool}(h:XQ n c q=some r):EQ 100 [.i c,.fp 5 (L1 (AG q))] [] (.bool r) [] true:=by
 refine ot Tryz.func100 fun B N=>?_
 revert r;apply gO;exact bi 5 (lE AD [3] []) (lE AD [3] [])
inductive X3 where
 | l1 (x8:Int)
def O3 (n:Nat)(self:X3 -> Option Int)(l:List Int)(q:AA)(x8:Int):Option Int:= bif (decide (x8<(l.length:Int))) then if 0<=x8/\ x8<(l.length:Int) then (XQ n (l.getD ((x8).toNat) 0) q).bind fun y1=> bif y1 then some x8 else if AH (x8+1) then self (.l1 (x8+1)) else none else none else some (-1)
def zY (n:Nat)(self:X3 -> Option Int)(l:List Int)(q:AA):Option Int:= self (.l1 0)
def LT (l:List Int)(q:AA):Nat -> X3 -> Option Int
 | 0,_=>none
 | n+1,.l1 x8=>O3 n (LT l q n) l q x8
def m6 (n:Nat)(l:List Int)(q:AA):Option Int:=zY n (LT l q n) l q
def zZ (n B:Nat)(N:Yd 0)(l:List Int)(q:AA)(r:Int):X3 -> Prop
 | .l1 x8=>∀ m0:Nat,n<=m0 -> TW B N (FQ Tryz.f85 0 (.i r) []) (Ax m0 (A7 (AY Tryz.f85) 0 [])) ⟨AF 19 [(0,.ints l),(1,.fn 100 1 (L1 [.fp 5 (L1 (AG q))])),(7,.i (l.length:Int)),(8,.i x8)],[]⟩
theorem za (B:Nat)(N:Yd 0)(l:List Int)(q:AA):Al (LT l q) (zZ · B N l q):=ia (fun _=>rfl) fun n AJ pt r h=>by
 cases pt
 case l1 x8=>
  intro m0 AC;refine rd AC fun m0 AC=>?_
  revert r;apply gO;exact bi 9 (gi (cf xI [] fun _=>bi 16 (lE AD [4] []) (gw 18 (lG AD [] (AJ _ _ · m0 AC))))) (lE AD [4] [])
theorem zX {n:Nat}{l:List Int}{q:AA}{r:Int}(h:m6 n l q=some r):EQ 85 [.ints l,.fn 100 1 (L1 [.fp 5 (L1 (AG q))])] [] (.i r) [] true:=by
 refine ot Tryz.func85 fun B N=>?_
 revert r;apply gO;exact lN AD [] ((za B N l q n) _ _ · n Nat.le.refl)
def pg (n:Nat)(l:List Int)(q:AA):Option Bool:= (m6 n l q).bind fun y1=> some (decide (y1>=0))
def Y7 (n:Nat)(l:List Int)(q:AA):Option Bool:=pg n l q
theorem zD4 {n:Nat}{l:List Int}{q:AA}{r:Bool}(h:Y7 n l q=some r):EQ 76 [.ints l,.fn 100 1 (L1 [.fp 5 (L1 (AG q))])] [] (.bool r) [] true:=by
 unfold Y7 pg at h;refine ot Tryz.func76 fun B N=>?_
 revert r;apply gO;exact cf zX [] fun _=>lE AD [4] []
theorem uQ:Az (A4 Tryz.f101 32) [] (List.range 9) []:=by unfold Az;kernel_rfl
def Er:Bi:=fun i=>match i with
 | 32=>.ord [] (List.range 9) []
 | _=>.no
def nT (cells:List Int)(q:AA)(o2:List Bool)(o1:Int -> List Int)(CK:Int):DH:=[oC (AG q),none,some (.bools o2),oC [.nils],some (.mo (.rows o1 (some (cells.getD ((CK).toNat) 0,o1 (cells.getD ((CK).toNat) 0),false))))]
def zBI (cells:List Int)(q:AA)(o2:List Bool)(Bm AU:Nat)(o4:List Int)(o1:Int -> List Int)(CK:Int):DH:=[oC (AG q),none,some (.bools o2),oC [.mse 4 1 Bm AU],oI o4,some (.mo (.rows o1 (some (cells.getD ((CK).toNat) 0,o1 (cells.getD ((CK).toNat) 0),false))))]
def nS (cells:List Int)(q:AA)(o1:Int -> List Int)(o2:List Bool)(Bm AU:Nat)(o4:List Int):DH:=[oC (AG q),some (.mo (.rows o1 none)),some (.bools o2),oC [.mse 4 1 Bm AU],oI o4]
def zBH (cells:List Int)(q:AA)(o1:Int -> List Int)(o2:List Bool)(o4:List Int)(Bm AU:Nat):DH:=[oC (AG q),some (.mo (.rows o1 none)),some (.bools (o2.set (0+((o4.getD (Bm+0) 0).toNat)) false)),oC [.mse 4 1 (Bm+1) (AU-1)],oI o4]
def zBG (cells:List Int)(q:AA)(o2:List Bool)(Bm AU:Nat)(o4:List Int)(o1:Int -> List Int)(EX:Int):DH:=[oC (AG q),none,some (.bools o2),oC [.mse 4 1 Bm AU],oI o4,some (.mo (.rows o1 (some (EX,o1 EX,false))))]
inductive JM where
 | l1 (x9 Bo:List Int) (Cg BW:Int) (o1:Int -> List Int)
 | l2 (x9:List Int) (BX:Int) (Bo:List Int) (Cg BW:Int) (IG:List Int) (DR Gg:Int) (o1:Int -> List Int)
 | l3 (x9:List Int) (CK:Int) (o1:Int -> List Int) (o2:List Bool)
 | l4 (x9:List Int) (CK:Int) (o1:Int -> List Int) (o2:List Bool) (Bm AU:Nat) (o4:List Int)
 | l5 (o1:Int -> List Int) (o2:List Bool)
 | l6 (x1:List Int) (o1:Int -> List Int) (o2:List Bool) (Bm AU:Nat) (o4:List Int)
 | l7 (x1 x21:List Int) (Dh EX:Int) (o1:Int -> List Int) (o2:List Bool) (Bm AU:Nat) (o4:List Int)
def To (n:Nat)(self:JM -> Option ((List Int)))(q:AA)(pos cells:List Int)(level:Int)(x9 Bo:List Int)(Cg BW:Int)(o1:Int -> List Int):Option ((List Int)):= bif (decide (BW<Cg)) then if (0<=BW/\ BW<(Bo.length:Int))/\ (0<=(Bo.getD ((BW).toNat) 0)/\ (Bo.getD ((BW).toNat) 0)<(q.cons.length:Int)) then self (.l2 x9 (Bo.getD ((BW).toNat) 0) Bo Cg BW ((q.cons.getD ((Bo.getD ((BW).toNat) 0).toNat) default).cells) ((((q.cons.getD ((Bo.getD ((BW).toNat) 0).toNat) default).cells).length:Nat):Int) 0 o1) else none else self (.l3 x9 0 o1 (List.replicate 4096 false))
def Tn (n:Nat)(self:JM -> Option ((List Int)))(q:AA)(pos cells:List Int)(level:Int)(x9:List Int)(BX:Int)(Bo:List Int)(Cg BW:Int)(IG:List Int)(DR Gg:Int)(o1:Int -> List Int):Option ((List Int)):= bif (decide (Gg<DR)) then if (0<=Gg/\ Gg<(IG.length:Int))/\ (o1 (IG.getD ((Gg).toNat) 0)).length+([BX]:List Int).length<=A3/\ AH (Gg+1) then self (.l2 x9 BX Bo Cg BW IG DR (Gg+1) (Hr o1 (IG.getD ((Gg).toNat) 0) ((o1 (IG.getD ((Gg).toNat) 0))++([BX]:List Int)))) else none else if AH (BW+1) then self (.l1 x9 Bo Cg (BW+1) o1) else none
def LA (n:Nat)(self:JM -> Option ((List Int)))(q:AA)(pos cells:List Int)(level:Int)(x9:List Int)(CK:Int)(o1:Int -> List Int)(o2:List Bool):Option ((List Int)):= bif (decide (CK<(cells.length:Int))) then if 0<=CK/\ CK<(cells.length:Int) then (Nd n (o1 (cells.getD ((CK).toNat) 0)) o2).bind fun y1=> bif y1.2.2.2.2 then if AH (CK+1) then self (.l3 x9 (CK+1) o1 y1.1) else none else if AH (CK+1) then self (.l4 x9 (CK+1) o1 y1.1 y1.2.1 y1.2.2.1 y1.2.2.2.1) else none else none else (Nd n x9 o2).bind fun y1=> bif y1.2.2.2.2 then self (.l5 o1 y1.1) else self (.l6 pos o1 y1.1 y1.2.1 y1.2.2.1 y1.2.2.2.1)
def Tm (n:Nat)(self:JM -> Option ((List Int)))(q:AA)(pos cells:List Int)(level:Int)(x9:List Int)(CK:Int)(o1:Int -> List Int)(o2:List Bool)(Bm AU:Nat)(o4:List Int):Option ((List Int)):= bif (decide (CK<(cells.length:Int))) then if 0<=CK/\ CK<(cells.length:Int) then (Ly n (o1 (cells.getD ((CK).toNat) 0)) o2 Bm AU o4).bind fun y1=> if AH (CK+1) then self (.l4 x9 (CK+1) o1 y1.1 y1.2.1 y1.2.2.1 y1.2.2.2) else none else none else (Ly n x9 o2 Bm AU o4).bind fun y1=> self (.l6 pos o1 y1.1 y1.2.1 y1.2.2.1 y1.2.2.2)
def wW (n:Nat)(self:JM -> Option ((List Int)))(q:AA)(pos cells:List Int)(level:Int)(o1:Int -> List Int)(o2:List Bool):Option ((List Int)):= some pos
def Tl (n:Nat)(self:JM -> Option ((List Int)))(q:AA)(pos cells:List Int)(level:Int)(x1:List Int)(o1:Int -> List Int)(o2:List Bool)(Bm AU:Nat)(o4:List Int):Option ((List Int)):= bif (AU==0) then some x1 else bif (decide ((AU:Int)>0)) then (GP n x1).bind fun y1=> bif (!y1) then if ((0:Int)<=0/\ 0<(AU:Int))/\ Bm+0<o4.length/\ ((0:Int)<=1/\ (1:Int)<=(AU:Int)/\ (AU:Int)<=(AU:Int))/\ (0<=(o4.getD (Bm+0) 0)/\ (o4.getD (Bm+0) 0)<((4096:Nat):Int))/\ 0+((o4.getD (Bm+0) 0).toNat)<o2.length then (OR n q (o4.getD (Bm+0) 0) x1).bind fun y2=> bif (y2.2 != 0) then some x1 else self (.l7 x1 y2.1 (y2.1.length:Int) 0 o1 (o2.set (0+((o4.getD (Bm+0) 0).toNat)) false) (Bm+1) (AU-1) o4) else none else some x1 else some x1
def OQ (n:Nat)(self:JM -> Option ((List Int)))(q:AA)(pos cells:List Int)(level:Int)(x1 x21:List Int)(Dh EX:Int)(o1:Int -> List Int)(o2:List Bool)(Bm AU:Nat)(o4:List Int):Option ((List Int)):= bif (decide (EX<Dh)) then if (0<=EX/\ EX<(x21.length:Int))/\ (0<=EX/\ EX<(x1.length:Int)) then bif ((x21.getD ((EX).toNat) 0) != (x1.getD ((EX).toNat) 0)) then (Ly n (o1 EX) o2 Bm AU o4).bind fun y1=> if AH (EX+1) then self (.l7 x1 x21 Dh (EX+1) o1 y1.1 y1.2.1 y1.2.2.1 y1.2.2.2) else none else if AH (EX+1) then self (.l7 x1 x21 Dh (EX+1) o1 o2 Bm AU o4) else none else none else self (.l6 x21 o1 o2 Bm AU o4)
def Tp (n:Nat)(self:JM -> Option ((List Int)))(q:AA)(pos cells:List Int)(level:Int):Option ((List Int)):= (GP n pos).bind fun y1=> bif y1 then if ((pos.length:Int):Int)=(pos.length:Int)/\ 0<=(pos.length:Int)/\ ((pos.length:Int):Int)<=1000000000000 then if pos.length=(List.replicate pos.length (0:Int)).length then some (List.replicate pos.length (0:Int)) else none else none else (Sl n q level).bind fun y2=> self (.l1 y2 y2 (y2.length:Int) 0 (fun _=>[]))
def Bv (q:AA)(pos cells:List Int)(level:Int):Nat -> JM -> Option ((List Int))
 | 0,_=>none
 | n+1,.l1 x9 Bo Cg BW o1=>To n (Bv q pos cells level n) q pos cells level x9 Bo Cg BW o1
 | n+1,.l2 x9 BX Bo Cg BW IG DR Gg o1=>Tn n (Bv q pos cells level n) q pos cells level x9 BX Bo Cg BW IG DR Gg o1
 | n+1,.l3 x9 CK o1 o2=>LA n (Bv q pos cells level n) q pos cells level x9 CK o1 o2
 | n+1,.l4 x9 CK o1 o2 Bm AU o4=>Tm n (Bv q pos cells level n) q pos cells level x9 CK o1 o2 Bm AU o4
 | n+1,.l5 o1 o2=>wW n (Bv q pos cells level n) q pos cells level o1 o2
 | n+1,.l6 x1 o1 o2 Bm AU o4=>Tl n (Bv q pos cells level n) q pos cells level x1 o1 o2 Bm AU o4
 | n+1,.l7 x1 x21 Dh EX o1 o2 Bm AU o4=>OQ n (Bv q pos cells level n) q pos cells level x1 x21 Dh EX o1 o2 Bm AU o4
def aj (n:Nat)(q:AA)(pos cells:List Int)(level:Int):Option ((List Int)):=Tp n (Bv q pos cells level n) q pos cells level
def wX (n B:Nat)(N:Yd 0)(q:AA)(pos cells:List Int)(level:Int)(r:(List Int)):JM -> Prop
 | .l1 x9 Bo Cg BW o1=>∀ m0:Nat,n<=m0 -> TW B N (FQ Tryz.f101 0 (.ints r) []) (Ax m0 (A7 (AY Tryz.f101) 0 [])) ⟨AF 123 [(1,.ints pos),(2,.ints cells),(4,.ref 0 0),(9,.ints x9),(10,.mri 1 0),(33,.ints Bo),(34,.i Cg),(35,.i BW)],[oC (AG q),some (.mo (.rows o1 none))]⟩
 | .l2 x9 BX Bo Cg BW IG DR Gg o1=>∀ m0 m1:Nat,n<=m0 -> n<=m1 -> TW B N (FQ Tryz.f101 0 (.ints r) []) (Ax m1 (A7 (AY Tryz.f101) 2 [m0])) ⟨AF 123 [(1,.ints pos),(2,.ints cells),(4,.ref 0 0),(9,.ints x9),(10,.mri 1 0),(12,.i BX),(33,.ints Bo),(34,.i Cg),(35,.i BW),(44,.ints IG),(45,.i DR),(46,.i Gg)],[oC (AG q),some (.mo (.rows o1 none))]⟩
 | .l3 x9 CK o1 o2=>∀ m0:Nat,n<=m0 -> TW B N (FQ Tryz.f101 0 (.ints r) []) (Ax m0 (A7 (AY Tryz.f101) 4 [])) ⟨AF 123 [(1,.ints pos),(4,.ref 0 0),(9,.ints x9),(10,.mri 1 0),(15,.mp 2 1 0 0),(16,.ref 3 0),(17,.fn 116 2 (L1 [.mp 2 1 0 0,.ref 3 0])),(61,.ints cells),(62,.i (cells.length:Int)),(63,.i CK)],[oC (AG q),some (.mo (.rows o1 none)),some (.bools o2),oC [.nils]]⟩
 | .l4 x9 CK o1 o2 Bm AU o4=>∀ m0:Nat,n<=m0 -> TW B N (FQ Tryz.f101 0 (.ints r) []) (Ax m0 (A7 (AY Tryz.f101) 4 [])) ⟨AF 123 [(1,.ints pos),(4,.ref 0 0),(9,.ints x9),(10,.mri 1 0),(15,.mp 2 1 0 0),(16,.ref 3 0),(17,.fn 116 2 (L1 [.mp 2 1 0 0,.ref 3 0])),(61,.ints cells),(62,.i (cells.length:Int)),(63,.i CK)],[oC (AG q),some (.mo (.rows o1 none)),some (.bools o2),oC [.mse 4 1 Bm AU],oI o4]⟩
 | .l5 o1 o2=>∀ m0:Nat,n<=m0 -> TW B N (FQ Tryz.f101 0 (.ints r) []) (Ax m0 (A7 (AY Tryz.f101) 6 [])) ⟨AF 123 [(1,.ints pos),(4,.ref 0 0),(10,.mri 1 0),(15,.mp 2 1 0 0),(16,.ref 3 0),(17,.fn 116 2 (L1 [.mp 2 1 0 0,.ref 3 0]))],[oC (AG q),some (.mo (.rows o1 none)),some (.bools o2),oC [.nils]]⟩
 | .l6 x1 o1 o2 Bm AU o4=>∀ m0:Nat,n<=m0 -> TW B N (FQ Tryz.f101 0 (.ints r) []) (Ax m0 (A7 (AY Tryz.f101) 6 [])) ⟨AF 123 [(1,.ints x1),(4,.ref 0 0),(10,.mri 1 0),(15,.mp 2 1 0 0),(16,.ref 3 0),(17,.fn 116 2 (L1 [.mp 2 1 0 0,.ref 3 0]))],[oC (AG q),some (.mo (.rows o1 none)),some (.bools o2),oC [.mse 4 1 Bm AU],oI o4]⟩
 | .l7 x1 x21 Dh EX o1 o2 Bm AU o4=>∀ m0 m1:Nat,n<=m0 -> n<=m1 -> TW B N (FQ Tryz.f101 0 (.ints r) []) (Ax m1 (A7 (AY Tryz.f101) 8 [m0])) ⟨AF 123 [(1,.ints x1),(4,.ref 0 0),(10,.mri 1 0),(15,.mp 2 1 0 0),(16,.ref 3 0),(17,.fn 116 2 (L1 [.mp 2 1 0 0,.ref 3 0])),(21,.ints x21),(102,.i Dh),(103,.i EX)],[oC (AG q),some (.mo (.rows o1 none)),some (.bools o2),oC [.mse 4 1 Bm AU],oI o4]⟩
theorem wZ (B:Nat)(N:Yd 0)(q:AA)(pos cells:List Int)(level:Int):Al (Bv q pos cells level) (wX · B N q pos cells level):=ia (fun _=>rfl) fun n AJ pt r h=>by
 cases pt
 case l1 x9 Bo Cg BW o1=>
  intro m0 AC;refine rd AC fun m0 AC=>?_
  revert r;apply gO;exact bi 36 (gc (gi (gi (lN Er [0,1] (AJ _ _ · m0 n AC Nat.le.refl))))) (lN Er [0,1,2,3] (AJ _ _ · n Nat.le.refl))
 case l2 x9 BX Bo Cg BW IG DR Gg o1=>
  intro m0 m1 AC Ar;have AC:=zCz AC;refine rd Ar fun m1 Ar=>?_
  revert r;apply gO;exact bi 47 (gc (gi (jg (And.intro (Eq.refl 0) (Eq.refl 1)) (jg (by decide:0<1) (gc (gi (jg (Eq.refl (IG.getD ((Gg).toNat) 0)) (gw 58 (lG Er [0,4] (AJ _ _ · m0 m1 AC Ar)))))))))) (gw 59 (lG Er [0,1] (AJ _ _ · m0 AC)))
 case l3 x9 CK o1 o2=>
  intro m0 AC;refine rd AC fun m0 AC=>?_
  revert r;apply gO;exact bi 64 (gi (cn fun y1 Au=>bn (fun c1=>jc (es (qy Au c1) [2,3] (nT cells q o2 o1 CK) [.mri 4 1,.mp 2 1 0 0,.ref 3 0] ⟨(.inr (L5.own rfl rfl)),(.inl rfl),(.inl rfl),trivial⟩) (ju 71 4 (gw 72 (lG Er [0,4,2,3] (AJ _ _ · m0 AC))))) (fun c1=>jc (es (qx Au c1) [2,3] (nT cells q o2 o1 CK) [.mri 4 1,.mp 2 1 0 0,.ref 3 0] ⟨(.inr (L5.own rfl rfl)),(.inl rfl),(.inl rfl),trivial⟩) (ju 71 4 (gw 72 (lG Er [0,4,2,3,5] (AJ _ _ · m0 AC))))))) (cn fun y1 Au=>bn (fun c1=>jc (em (qy Au c1) [2,3] [oC (AG q),some (.mo (.rows o1 none)),some (.bools o2),oC [.nils]]) (lN Er [0,1,2,3] (AJ _ _ · n Nat.le.refl))) (fun c1=>jc (em (qx Au c1) [2,3] [oC (AG q),some (.mo (.rows o1 none)),some (.bools o2),oC [.nils]]) (lN Er [0,1,2,3,4] (AJ _ _ · n Nat.le.refl))))
 case l4 x9 CK o1 o2 Bm AU o4=>
  intro m0 AC;refine rd AC fun m0 AC=>?_
  revert r;apply gO;exact bi 64 (gi (cn fun y1 Au=>jc (es (fy Au) [2,3,4] (zBI cells q o2 Bm AU o4 o1 CK) [.mri 5 1,.mp 2 1 0 0,.ref 3 0] ⟨(.inr (L5.own rfl rfl)),(.inl rfl),(.inl rfl),trivial⟩) (ju 71 5 (gw 72 (lG Er [0,5,2,3,6] (AJ _ _ · m0 AC)))))) (ce fy [2,3,4] (nS cells q o1 o2 Bm AU o4) fun _=>lN Er [0,1,2,3,5] (AJ _ _ · n Nat.le.refl))
 case l5 o1 o2=>
  intro m0 AC;refine rd AC fun m0 AC=>?_
  revert r;apply gO;exact lE Er [8] []
 case l6 x1 o1 o2 Bm AU o4=>
  intro m0 AC;refine rd AC fun m0 AC=>?_
  revert r;apply gO;exact bn (fun c0=>jo 76 (AL.mse_nil (k:=4) (m:=1) (o:=Bm) (eq_of_beq c0)) (lE Er [8] [])) (fun c0=>jo 76 (AL.mse_msl (k:=4) (m:=1) (o:=Bm) (XC c0) rfl) (bi 78 (cf O0 (nS cells q o1 o2 Bm AU o4) fun _=>bi 82 (jo 84 (AL.mse_msl (k:=4) (m:=1) (o:=Bm) (XC c0) rfl) (gc (gi (gc (gi (jo 87 (AL.mse_msl (k:=4) (m:=1) (o:=Bm) (XC c0) rfl) (gc (gi (jt (gc (gi (gi (cf k6 (zBH cells q o1 o2 o4 Bm AU) fun _=>bi 99 (lE Er [8] []) (lN Er [0,1,2,3,4] (AJ _ _ · m0 n AC Nat.le.refl))))))))))))))) (lE Er [8] [])) (lE Er [8] [])))
 case l7 x1 x21 Dh EX o1 o2 Bm AU o4=>
  intro m0 m1 AC Ar;have AC:=zCz AC;refine rd Ar fun m1 Ar=>?_
  revert r;apply gO;exact bi 104 (jg uQ (gc (gi (gi (bi 114 (cn fun y1 Au=>jc (es (fy Au) [2,3,4] (zBG cells q o2 Bm AU o4 o1 EX) [.mri 5 1,.mp 2 1 0 0,.ref 3 0] ⟨(.inr (L5.own rfl rfl)),(.inl rfl),(.inl rfl),trivial⟩) (ju 119 5 (gw 120 (lG Er [0,5,2,3,6] (AJ _ _ · m0 m1 AC Ar))))) (gw 120 (lG Er [0,1,2,3,4] (AJ _ _ · m0 m1 AC Ar)))))))) (lG Er [0,1,2,3,4] (AJ _ _ · m0 AC))
theorem wV {n:Nat}{q:AA}{pos cells:List Int}{level:Int}{r:(List Int)}(h:aj n q pos cells level=some r):EQ 101 [.agg 5 (L1 (AG q)),.ints pos,.ints cells,.i level] [] (.ints r) [] true:=by
 refine ot Tryz.func101 fun B N=>?_
 revert r;apply gO;exact cf O0 [oC (AG q)] fun _=>bi 25 (gi (gn fun g1=>lF fun p=>ez Er [8] [1] p [0] (H0.g g1))) (cf gx [oC (AG q)] fun _=>lN Er [0,1] ((wZ B N q pos cells level n) _ _ · n Nat.le.refl))
def qt (n:Nat)(q:AA)(pos cells:List Int)(level:Int):Option ((List Int)×Int):= (Ew n q pos).bind fun y1=> bif (y1 != 0) then some (([]:List Int),y1) else (Y7 n cells q).bind fun y2=> bif y2 then some (([]:List Int),1) else (aj n q pos cells level).bind fun y3=> some (y3,0)
def ZT (n:Nat)(q:AA)(pos cells:List Int)(level:Int):Option ((List Int)×Int):=qt n q pos cells level
theorem zFJ {n:Nat}{q:AA}{pos cells:List Int}{level:Int}{r:(List Int)×Int}(h:ZT n q pos cells level=some r):EQ 86 [.agg 5 (L1 (AG q)),.ints pos,.ints cells,.i level] [] (.tup 2 (L1 [.ints r.1,.i r.2])) [] true:=by
 unfold ZT qt at h;refine ot Tryz.func86 fun B N=>?_
 revert r;apply gO;exact cf KH [oC (AG q)] fun y1=>bi 14 (lF fun p=>el AD [8,9] [] p [] H0 [.nils,.i y1] (AL.tupL (l:=[.nils,.i y1]) (l':=[.ints ([]:List Int),.i y1]) rfl ⟨AL.ints_nil,Ay,trivial⟩)) (cn fun y2 Cd=>jc (sb [.ints cells,.fn 100 1 (L1 [.ref 0 0])] (zD4 Cd) [oC (AG q)] ⟨Aq.plain (by kernel_rfl),(Aq.fnL (l:=[.ref 0 0]) (l0:=[.fp 5 (L1 (AG q))]) ⟨(Aq.refL (l:=(AG q)) (l0:=(AG q)) rfl ⟨Aq.plain (by kernel_rfl),Aq.plain (by kernel_rfl),Aq.plain (by kernel_rfl),Aq.plain (by kernel_rfl),Aq.plain (by kernel_rfl),trivial⟩),trivial⟩),trivial⟩) (bi 18 (lF fun p=>el AD [8,9] [] p [] H0 [.nils,.i 1] (AL.tupL (l:=[.nils,.i 1]) (l':=[.ints ([]:List Int),.i 1]) rfl ⟨AL.ints_nil,Ay,trivial⟩)) (cf wV [oC (AG q)] fun _=>lE AD [8,9] [])))
def qr (n:Nat)(q:AA)(pos:List Int)(level:Int):Option ((List Int)×Int):= (ZT n q pos ([]:List Int) level).bind fun y1=> some (y1.1,y1.2)
def SM (n:Nat)(q:AA)(pos:List Int)(level:Int):Option ((List Int)×Int):=qr n q pos level
theorem zFH {n:Nat}{q:AA}{pos:List Int}{level:Int}{r:(List Int)×Int}(h:SM n q pos level=some r):EQ 52 [.agg 5 (L1 (AG q)),.ints pos,.i level] [] (.tup 2 (L1 [.ints r.1,.i r.2])) [] true:=by
 unfold SM qr at h;refine ot Tryz.func52 fun B N=>?_
 revert r;apply gO;exact cn fun y1 Au=>jc (fb (ES.argsLe (ds:=[.agg 5 (L1 (AG q)),.ints pos,.nils,.i level]) (zFJ Au) ⟨Ay,Ay,AL.ints_nil,Ay,trivial⟩) [oC (AG q)]) (lE AD [6,7] [])
def pz (n:Nat)(i_:Int)(q:AA)(pos:List Int):Option (Bool×(List Int)):= (OR n q i_ pos).bind fun y1=> bif (y1.2 != 0) then some (false,pos) else (VO n y1.1 pos).bind fun y2=> bif y2 then some (false,pos) else some (true,y1.1)
def Vn (n:Nat)(i_:Int)(q:AA)(pos:List Int):Option (Bool×(List Int)):=pz n i_ q pos
theorem zEO {n:Nat}{i_:Int}{q:AA}{pos:List Int}{r:Bool×(List Int)}(h:Vn n i_ q pos=some r):EQ 82 [.i i_,.ref 0 0,.ref 1 0] [oC (AG q),oC [.ints pos]] (.bool r.1) [oC (AG q),oC [.ints r.2]] false:=by
 unfold Vn pz at h;refine ot Tryz.func82 fun B N=>?_
 revert r;apply gO;exact cf k6 [oC (AG q),oC [.ints pos]] fun _=>bi 15 (lE AD [4] [0,1]) (cf zDX [oC (AG q),oC [.ints pos]] fun _=>bi 19 (lE AD [4] [0,1]) (jt (lE AD [4] [0,1])))
inductive X7 where
 | l1 (x8:Int) (Cb:List Int)
def O5 (n:Nat)(self:X7 -> Option (Int×(List Int)))(l:List Int)(q:AA)(pos:List Int)(x8:Int)(Cb:List Int):Option (Int×(List Int)):= bif (decide (x8<(l.length:Int))) then if 0<=x8/\ x8<(l.length:Int) then (Vn n (l.getD ((x8).toNat) 0) q Cb).bind fun y1=> bif y1.1 then some (x8,y1.2) else if AH (x8+1) then self (.l1 (x8+1) y1.2) else none else none else some ((-1),Cb)
def ze (n:Nat)(self:X7 -> Option (Int×(List Int)))(l:List Int)(q:AA)(pos:List Int):Option (Int×(List Int)):= self (.l1 0 pos)
def LU (l:List Int)(q:AA)(pos:List Int):Nat -> X7 -> Option (Int×(List Int))
 | 0,_=>none
 | n+1,.l1 x8 Cb=>O5 n (LU l q pos n) l q pos x8 Cb
def O6 (n:Nat)(l:List Int)(q:AA)(pos:List Int):Option (Int×(List Int)):=ze n (LU l q pos n) l q pos
def zf (n B:Nat)(N:Yd 2)(l:List Int)(q:AA)(pos:List Int)(r:Int×(List Int)):X7 -> Prop
 | .l1 x8 Cb=>∀ m0:Nat,n<=m0 -> TW B N (FQ Tryz.f85 2 (.i r.1) [oC (AG q),oC [.ints r.2]]) (Ax m0 (A7 (AY Tryz.f85) 0 [])) ⟨AF 19 [(0,.ints l),(1,.fn 82 2 (L1 [.ref 0 0,.ref 1 0])),(7,.i (l.length:Int)),(8,.i x8)],[oC (AG q),oC [.ints Cb]]⟩
theorem zg (B:Nat)(N:Yd 2)(l:List Int)(q:AA)(pos:List Int):Al (LU l q pos) (zf · B N l q pos):=ia (fun _=>rfl) fun n AJ pt r h=>by
 cases pt
 case l1 x8 Cb=>
  intro m0 AC;refine rd AC fun m0 AC=>?_
  revert r;apply gO;exact bi 9 (gi (ce zEO [0,1] [oC (AG q),oC [.ints Cb]] fun _=>bi 16 (lE AD [4] [0,1]) (gw 18 (lG AD [0,1] (AJ _ _ · m0 AC))))) (lE AD [4] [0,1])
theorem m8 {n:Nat}{l:List Int}{q:AA}{pos:List Int}{r:Int×(List Int)}(h:O6 n l q pos=some r):EQ 85 [.ints l,.fn 82 2 (L1 [.ref 0 0,.ref 1 0])] [oC (AG q),oC [.ints pos]] (.i r.1) [oC (AG q),oC [.ints r.2]] false:=by
 refine ot Tryz.func85 fun B N=>?_
 revert r;apply gO;exact lN AD [0,1] ((zg B N l q pos n) _ _ · n Nat.le.refl)
inductive Qn where
 | l1 (x8:List Int)
 | l2 (x6:Nat) (x8 CM o1:List Int)
def OZ (n:Nat)(self:Qn -> Option ((List Int)×Int))(q:AA)(pos:List Int)(level:Int)(x8:List Int):Option ((List Int)×Int):= (GP n pos).bind fun y1=> bif (!y1) then (O6 n x8 q pos).bind fun y2=> bif (decide (y2.1<0)) then some (([]:List Int),0) else if (0<=y2.1/\ y2.1<(x8.length:Int))/\ ((0=0/\ 1=([x8.getD ((y2.1).toNat) 0]:List Int).length)/\ 0<([x8.getD ((y2.1).toNat) 0]:List Int).length/\ ([x8.getD ((y2.1).toNat) 0]:List Int).length<=A3) then self (.l2 (([x8.getD ((y2.1).toNat) 0]:List Int).length) x8 y2.2 ([x8.getD ((y2.1).toNat) 0]:List Int)) else none else some (([]:List Int),0)
def OY (n:Nat)(self:Qn -> Option ((List Int)×Int))(q:AA)(pos:List Int)(level:Int)(x6:Nat)(x8 CM o1:List Int):Option ((List Int)×Int):= (GP n CM).bind fun y1=> bif (!y1) then (O6 n x8 q CM).bind fun y2=> bif (decide (y2.1<0)) then if x6=o1.length then some (o1,0) else none else if (0<=y2.1/\ y2.1<(x8.length:Int))/\ ((0=0/\ 1=([x8.getD ((y2.1).toNat) 0]:List Int).length)/\ (0=0/\ x6=o1.length)/\ o1.length+([x8.getD ((y2.1).toNat) 0]:List Int).length<=A3) then self (.l2 (o1.length+([x8.getD ((y2.1).toNat) 0]:List Int).length) x8 y2.2 (o1++([x8.getD ((y2.1).toNat) 0]:List Int))) else none else if x6=o1.length then some (o1,0) else none
def xP (n:Nat)(self:Qn -> Option ((List Int)×Int))(q:AA)(pos:List Int)(level:Int):Option ((List Int)×Int):= (Ew n q pos).bind fun y1=> bif (y1 != 0) then some (([]:List Int),y1) else (Sl n q level).bind fun y2=> self (.l1 y2)
def Hx (q:AA)(pos:List Int)(level:Int):Nat -> Qn -> Option ((List Int)×Int)
 | 0,_=>none
 | n+1,.l1 x8=>OZ n (Hx q pos level n) q pos level x8
 | n+1,.l2 x6 x8 CM o1=>OY n (Hx q pos level n) q pos level x6 x8 CM o1
def T6 (n:Nat)(q:AA)(pos:List Int)(level:Int):Option ((List Int)×Int):=xP n (Hx q pos level n) q pos level
def xQ (n B:Nat)(N:Yd 0)(q:AA)(pos:List Int)(level:Int)(r:(List Int)×Int):Qn -> Prop
 | .l1 x8=>∀ m0:Nat,n<=m0 -> TW B N (FQ Tryz.f51 0 (.tup 2 (L1 [.ints r.1,.i r.2])) []) (Ax m0 (A7 (AY Tryz.f51) 0 [])) ⟨AF 37 [(4,.ref 0 0),(6,.nils),(8,.ints x8),(9,.fn 82 2 (L1 [.ref 1 0,.ref 0 0]))],[oC [.ints pos],oC (AG q)]⟩
 | .l2 x6 x8 CM o1=>∀ m0:Nat,n<=m0 -> TW B N (FQ Tryz.f51 0 (.tup 2 (L1 [.ints r.1,.i r.2])) []) (Ax m0 (A7 (AY Tryz.f51) 0 [])) ⟨AF 37 [(4,.ref 0 0),(6,.msl 1 1 0 x6),(8,.ints x8),(9,.fn 82 2 (L1 [.ref 2 0,.ref 0 0]))],[oC [.ints CM],oI o1,oC (AG q)]⟩
theorem xR (B:Nat)(N:Yd 0)(q:AA)(pos:List Int)(level:Int):Al (Hx q pos level) (xQ · B N q pos level):=ia (fun _=>rfl) fun n AJ pt r h=>by
 cases pt
 case l1 x8=>
  intro m0 AC;refine rd AC fun m0 AC=>?_
  revert r;apply gO;exact cf O0 [oC [.ints pos],oC (AG q)] fun _=>bi 23 (ce m8 [1,0] [oC [.ints pos],oC (AG q)] fun _=>bi 28 (lF fun p=>el AD [6,7] [] p [] H0 [.nils,.i 0] (AL.tupL (l:=[.nils,.i 0]) (l':=[.ints ([]:List Int),.i 0]) rfl ⟨AL.ints_nil,Ay,trivial⟩)) (gc (gi (gi (lG AD [0,3,1] (AJ _ _ · m0 AC)))))) (lF fun p=>el AD [6,7] [] p [] H0 [.nils,.i 0] (AL.tupL (l:=[.nils,.i 0]) (l':=[.ints ([]:List Int),.i 0]) rfl ⟨AL.ints_nil,Ay,trivial⟩))
 case l2 x6 x8 CM o1=>
  intro m0 AC;refine rd AC fun m0 AC=>?_
  revert r;apply gO;exact cf O0 [oC [.ints CM],oI o1,oC (AG q)] fun _=>bi 23 (ce m8 [2,0] [oC [.ints CM],oI o1,oC (AG q)] fun _=>bi 28 (gn fun g0=>lF fun p=>ez AD [6,7] [1] p [0] (H0.g g0)) (gc (gi (gi (lG AD [0,4,2] (AJ _ _ · m0 AC)))))) (gn fun g0=>lF fun p=>ez AD [6,7] [1] p [0] (H0.g g0))
theorem xO {n:Nat}{q:AA}{pos:List Int}{level:Int}{r:(List Int)×Int}(h:T6 n q pos level=some r):EQ 51 [.agg 5 (L1 (AG q)),.ints pos,.i level] [] (.tup 2 (L1 [.ints r.1,.i r.2])) [] true:=by
 refine ot Tryz.func51 fun B N=>?_
 revert r;apply gO;exact cf KH [oC (AG q),oC [.ints pos]] fun y1=>bi 15 (lF fun p=>el AD [6,7] [] p [] H0 [.nils,.i y1] (AL.tupL (l:=[.nils,.i y1]) (l':=[.ints ([]:List Int),.i y1]) rfl ⟨AL.ints_nil,Ay,trivial⟩)) (cf gx [oC (AG q),oC [.ints pos]] fun _=>lN AD [1,0] ((xR B N q pos level n) _ _ · n Nat.le.refl))
end Go.Proofs.YtodinaconebmdaaGreatDoor
namespace Go.Proofs.YtodinaconebmdaaGreatDoor
open Go.RowKit
def BL {T R:Type}(m:Nat -> T -> Option R)(a b:T):Prop:=∃ N S,∀ n,N<=n -> m (n+S) a=m n b
section
variable {T R:Type} {m:Nat -> T -> Option R} {a b c:T} {r:R} {Q:R -> Prop}
theorem BL.refl:BL m a a:=⟨0,0,fun _ _=>rfl⟩
theorem BL.one (h: ∀ n,m (n+1) a=m n b):BL m a b:=⟨0,1,fun n _=>h n⟩
theorem BL.oneN (N:Nat)(h: ∀ n,N<=n -> m (n+1) a=m n b):BL m a b:=⟨N,1,h⟩
theorem BL.trans (h:BL m a b)(h2:BL m b c):BL m a c:=by
 obtain ⟨N,S,h⟩:=h;obtain ⟨N2,S2,h2⟩:=h2;exact ⟨max N N2,S2+S,fun n hn=>by rw [←zCd,h _ (by omega),h2 _ (by omega)]⟩
theorem BL.ev (h:BL m a b)(h2:Ev (fun n=>m n b) r):Ev (fun n=>m n a) r:=by
 obtain ⟨N,S,h⟩:=h;obtain ⟨M,h2⟩:=h2;refine ⟨max N M+S,fun n hn=>?_⟩;have:=h (n-S) (by omega);rw [show n-S+S=n by omega] at this;exact this.trans (h2 (n-S) (by omega))
theorem Ev.one (h: ∀ n,m (n+1) a=some r):Ev (fun n=>m n a) r:=⟨1,fun n hn=>by
 obtain ⟨k,rfl⟩: ∃ k,n=k+1:=⟨n-1,by omega⟩;exact h k⟩
theorem Ev.oneN (N:Nat)(h: ∀ n,N<=n -> m (n+1) a=some r):Ev (fun n=>m n a) r:=⟨N+1,fun n hn=>by
 obtain ⟨k,rfl⟩: ∃ k,n=k+1:=⟨n-1,by omega⟩;exact h k (by omega)⟩
theorem Mq {S:Type}(st:Nat -> S -> T)(I:Nat -> S -> Prop)(len:Nat)(h: ∀ i s,i<len -> I i s -> ∃ s',I (i+1) s'/\ BL m (st i s) (st (i+1) s')): ∀ (k i:Nat) (s:S),i+k=len -> I i s -> ∃ s',I len s'/\ BL m (st i s) (st len s')
 | 0,i,s,e,hI=>by
  have:i=len:=by omega
  subst this;exact ⟨s,hI,BL.refl⟩
 | k+1,i,s,e,hI=>by
  obtain ⟨s',h1,h2⟩:=h i s (by omega) hI;obtain ⟨s2,h3,h4⟩:=Mq st I len h k (i+1) s' (by omega) h1;exact ⟨s2,h3,h2.trans h4⟩
end
end Go.Proofs.YtodinaconebmdaaGreatDoor
