/- Part 5 of 8 of what the proofs of these laws stand on. -/
import Derived.Test.YtodinaconebmdaaGreatDoorPzD
set_option linter.all false
namespace Go.Proofs.YtodinaconebmdaaGreatDoor
open Go.RowKit
section
set_option maxRecDepth 100000
set_option maxHeartbeats 40000000
def nq:ST:=.rd 0 (.rd 1 (.rd 2 (.rd 3 (.rd 4 (.rd 5 (.rd 6 (.rd 7 (.rd 8 (.rd 9 (.rd 10 (.rd 11 (.rd 12 (.rd 13 (.rd 14 (.rd 15 (.rd 16 (.rd 17 (.rd 18 (.rd 19 (.rd 20 (.rd 21 (.rd 22 (.rd 23 (.rd 24 (.rd 25 (.rd 26 (.rd 27 (.rd 28 (.ef 29 (.rd 30 (.fin [] [5,6])) (.no))))))))))))))))))))))))))))))
def zBB:B3 (BA Tryz.f125 2) [29] nq:=by unfold B3;kernel_rfl
def nn:ST:=.rd 0 (.rd 1 (.rd 2 (.rd 3 (.rd 4 (.rd 5 (.rd 6 (.rd 7 (.rd 8 (.rd 9 (.rd 10 (.rd 11 (.rd 12 (.rd 13 (.rd 14 (.rd 15 (.ef 16 (.rd 17 (.fin [] [5,6])) (.no)))))))))))))))))
def zBA:B3 (BA Tryz.f125 5) [16] nn:=by unfold B3;kernel_rfl
def Yc:Be:=λi=>match i with
 | 2=>.tre [29] nq
 | 5=>.tre [16] nn
 | _=>.no
def nM (N:Δ)(c:AD)(q:AA)(pos:Ξ)(ln:Nat)(lost:Ξ):St:=⟨(AF 59 [(5,.ref 4 0),(6,.bool (decide (N.2<(c.runs.getD ((N.1).toNat) 0))))]),([oC [.ref 1 0],oW c q pos 2 ln,oI lost,oC [.i N.1,.i N.2],oC [.i N.1,.i (N.2+1)]]:DH)⟩
def nL (c:AD)(q:AA)(pos:Ξ)(ln:Nat)(lost:Ξ)(N:Δ):St:=⟨(AF 59 [(5,.ref 4 0),(6,.bool false)]),([oC [.ref 1 0],oW c q pos 2 ln,oI lost,oC [.i N.1,.i N.2],oC [.i N.1,.i (N.2+1)]]:DH)⟩
def nK (N:Δ)(c:AD)(q:AA)(pos:Ξ)(ln:Nat)(lost:Ξ):St:=⟨(AF 59 [(5,.ref 4 0),(6,.bool (N.2==(c.runs.getD ((N.1).toNat) 0)))]),([oC [.ref 1 0],oW c q pos 2 ln,oI lost,oC [.i N.1,.i N.2],oC [.i (N.1+1),.i 0]]:DH)⟩
def ra (n:Nat)(N:Δ)(R:Bool)(c:AD)(q:AA)(pos:Ξ)(ln:Nat)(lost:Ξ):Option ((Δ)×Bool×Ξ):= bif R then if AG (N.2+1) then bif (decide (N.1<(c.runs.length:Int))) then if 0<=N.1/\ N.1<(c.runs.length:Int) then some ((N.1,(N.2+1)),(decide (N.2<(c.runs.getD ((N.1).toNat) 0))),lost) else none else some ((N.1,(N.2+1)),false,lost) else none else bif (N.2==0) then some ((N.1,N.2),true,lost) else if AG (N.1+1)/\ (0<=N.1/\ N.1<(c.runs.length:Int)) then some (((N.1+1),0),(N.2==(c.runs.getD ((N.1).toNat) 0)),lost) else none
def Vf (n:Nat)(N:Δ)(R:Bool)(c:AD)(q:AA)(pos:Ξ)(ln:Nat)(lost:Ξ):Option ((Δ)×Bool×Ξ):=ra n N R c q pos ln lost
variable {lost pos:Ξ}{ln n:Nat}{q:AA}{c:AD}{R:Bool}
def Nh {a:Δ}{r:(Δ)×Bool×Ξ}(h:Vf n a R c q pos ln lost=some r):EQ 125 [.agg 2 (L1 [.i a.1,.i a.2]),.bool R,.ref 0 0] [oC [.ref 1 0],oW c q pos 2 ln,oI lost] (.tup 2 (L1 [.agg 2 (L1 [.i r.1.1,.i r.1.2]),.bool r.2.1])) [oC [.ref 1 0],oW c q pos 2 ln,oI r.2.2] false:=by
 refine ot Tryz.func125 λB N=>?_
 revert r;apply gO;exact bi 8 (jg zBB (gw 13 (bi 23 (gi (jt (jg (Eq.refl (nM a c q pos ln lost)) (lE (tg:=[([(29,4)],(nM a c q pos ln lost))]) Yc [5,6] [0,1,2,4])))) (jt (jg (Eq.refl (nL c q pos ln lost a)) (lE (tg:=[([(29,4)],(nL c q pos ln lost a))]) Yc [5,6] [0,1,2,4])))))) (bi 41 (jt (lE Yc [5,6] [0,1,2,4])) (jg zBA (gc (gw 45 (gi (jt (jg (Eq.refl (nK a c q pos ln lost)) (lE (tg:=[([(16,4)],(nK a c q pos ln lost))]) Yc [5,6] [0,1,2,4]))))))))
def zBJ:Ax (BA Tryz.f126 2) [] (List.range 22) []:=by unfold Ax;kernel_rfl
def zBI:Ax (BA Tryz.f126 3) [] (List.range 22) []:=by unfold Ax;kernel_rfl
def o9:Be:=λi=>match i with
 | 2=>.ord [] (List.range 22) []
 | 3=>.ord [] (List.range 22) []
 | _=>.no
def sR (n:Nat)(y:Int)(R:Bool)(c:AD)(q:AA)(pos:Ξ)(ln:Nat)(lost:Ξ):Option (Bool×Ξ):= bif R then if (0<=y/\ y<(c.cells.length:Int))/\ (0<=(c.cells.getD y.toNat 0)/\ (c.cells.getD y.toNat 0)<(pos.length:Int)) then some (((bits .and .i64 (pos.getD ((c.cells.getD y.toNat 0).toNat) 0) c.set) != 0),lost) else none else if (0<=y/\ y<(c.cells.length:Int))/\ (0<=(c.cells.getD y.toNat 0)/\ (c.cells.getD y.toNat 0)<(pos.length:Int)) then some (((bits .andNot .i64 (pos.getD ((c.cells.getD y.toNat 0).toNat) 0) c.set) != 0),lost) else none
def Vq (n:Nat)(y:Int)(R:Bool)(c:AD)(q:AA)(pos:Ξ)(ln:Nat)(lost:Ξ):Option (Bool×Ξ):=sR n y R c q pos ln lost
variable {r:Bool×Ξ}
def aL {y:Int}(h:Vq n y R c q pos ln lost=some r):EQ 126 [.i y,.bool R,.ref 0 0] [oC [.ref 1 0],oW c q pos 2 ln,oI lost] (.bool r.1) [oC [.ref 1 0],oW c q pos 2 ln,oI r.2] false:=by
 refine ot Tryz.func126 λB N=>?_
 revert r;apply gO;exact bi 6 (jg zBJ (gc (gi (gi (lE o9 [5] [0,1,2]))))) (jg zBI (gc (gi (gi (lE o9 [5] [0,1,2])))))
def zAi:Ax (BA Tryz.f110 24) [] (List.range 6) [6]:=by unfold Ax;kernel_rfl
def nX:ST:=.rd 0 (.rd 1 (.rd 2 (.rd 3 (.rd 4 (.rd 5 (.rd 6 (.rd 7 (.rd 8 (.rd 9 (.rd 10 (.rd 11 (.rd 12 (.rd 13 (.ef 14 (.fin [] [1,3,5,7,14,16,18]) (.no)))))))))))))))
def pG:B3 (BA Tryz.f110 49) [] nX:=by unfold B3;kernel_rfl
def nW:ST:=.rd 0 (.rd 1 (.rd 2 (.rd 3 (.rd 4 (.rd 5 (.rd 6 (.rd 7 (.rd 8 (.ef 9 (.fin [] [1,3,5,7,14,16]) (.no))))))))))
def eQ:B3 (BA Tryz.f110 51) [] nW:=by unfold B3;kernel_rfl
def Cf:Be:=λi=>match i with
 | 24=>.ord [] (List.range 6) [6]
 | 49=>.tre [] nX
 | 51=>.tre [] nW
 | _=>.no
def jH (c:AD)(q:AA)(pos:Ξ)(ln:Nat)(o1:Ξ)(t:List (Option KS)):DH:=[oW c q pos 1 ln,oI o1,oC [.ref 0 0],some (.mo (.sets 2 t none))]
def zHJ (c:AD)(q:AA)(pos:Ξ)(ln:Nat)(o1:Ξ)(t:List (Option KS))(u:Int)(r:LK):DH:=[oW c q pos 1 ln,oI o1,oC [.ref 0 0],some (.mo (.sets 2 t (some (0+u.toNat,r))))]
def zHD (c:AD)(q:AA)(pos:Ξ)(ln:Nat)(o1:Ξ)(t:List (Option KS))(b:Nat)(r:LK)(o4:KS):DH:=[oW c q pos 1 ln,oI o1,oC [.ref 0 0],some (.mo (.sets 2 t (some (b,r)))),some (.mo (.mit 2 r.1 r.2.1 r.2.2 o4 none))]
def tH (c:AD)(q:AA)(pos:Ξ)(ln:Nat)(o1:Ξ)(t:List (Option KS))(b:Nat)(r:LK)(o4:KS)(k:Ξ):DH:=[oW c q pos 1 ln,oI o1,oC [.ref 0 0],some (.mo (.sets 2 t (some (b,r)))),some (.mo (.mit 2 r.1 r.2.1 r.2.2 (o4.erase k) (some k)))]
def jE (c:AD)(q:AA)(pos:Ξ)(ln:Nat)(o1:Ξ)(t:List (Option KS))(o4:KS):DH:=[oW c q pos 1 ln,oI o1,oC [.ref 0 0],some (.mo (.sets 2 t none)),some (.mo (.set 2 o4)),some (.mo (.set 2 ([]:KS))),oC [.bool false,.bool false]]
def zHB (c:AD)(q:AA)(pos:Ξ)(ln:Nat)(o1:Ξ)(t:List (Option KS))(L:Int)(r:LK)(o4:KS):DH:=[oW c q pos 1 ln,oI o1,oC [.ref 0 0],some (.mo (.sets 2 t (some (0+L.toNat,r)))),some (.mo (.set 2 o4)),some (.mo (.set 2 ([]:KS))),oC [.bool false,.bool false]]
def jD (c:AD)(q:AA)(pos:Ξ)(ln:Nat)(o1:Ξ)(t:List (Option KS))(b:Nat)(r:LK)(g X:Int)(F:KS)(Y:Ξ):DH:=[oW c q pos 1 ln,oI o1,oC [.ref 0 0],some (.mo (.sets 2 t (some (b,r)))),oC [.i g,.i X],some (.mo (.mit 2 r.1 r.2.1 r.2.2 F (some Y))),some (.bools ([false,true]:Ω))]
def zHA (c:AD)(q:AA)(pos:Ξ)(ln:Nat)(k:(Δ)×Bool×Ξ)(t:List (Option KS))(b:Nat)(r:LK)(g X:Int)(F:KS)(Y:Ξ):DH:=[oW c q pos 1 ln,oI k.2.2,oC [.ref 0 0],some (.mo (.sets 2 t (some (b,r)))),oC [.i g,.i X],some (.mo (.mit 2 r.1 r.2.1 r.2.2 F (some Y))),some (.bools ([false,true]:Ω)),oC [.i k.1.1,.i k.1.2]]
def zG9 (c:AD)(q:AA)(pos:Ξ)(ln:Nat)(o1:Ξ)(t:List (Option KS))(b:Nat)(r:LK)(o4 D:KS):DH:=[oW c q pos 1 ln,oI o1,oC [.ref 0 0],some (.mo (.sets 2 t (some (b,r)))),some (.mo (.set 2 o4)),some (.mo (.set 2 ([]:KS))),oC [.bool false,.bool false],some (.mo (.mit 2 r.1 r.2.1 r.2.2 D none))]
def m7 (c:AD)(L:Int)(q:AA)(pos:Ξ)(ln:Nat)(G:Ξ)(t:List (Option KS))(o4:KS):St:=⟨(AF 208 [(1,.ref 2 0),(3,.fn 125 1 (L1 [.ref 2 0])),(5,.msl 3 1 0 ((((c.cells.length:Int)+1)).toNat)),(7,.fn 126 1 (L1 [.ref 2 0])),(14,.it 5),(16,.i L),(18,.ref 6 0)]),([oW c q pos 1 ln,oI G,oC [.ref 0 0],some (.mo (.sets 2 t none)),some (.mo (.set 2 o4)),some (.mo (.set 2 ([]:KS))),oC [.bool false,.bool false]]:DH)⟩
def zHI (c:AD)(q:AA)(pos:Ξ)(ln:Nat)(G:Ξ)(t:List (Option KS))(o4:KS):DH:=[oW c q pos 1 ln,oI G,oC [.ref 0 0],some (.mo (.sets 2 t none)),some (.mo (.set 2 o4)),some (.mo (.set 2 ([]:KS))),oC [.bool false,.bool false]]
def nA (c:AD)(L:Int)(q:AA)(pos:Ξ)(ln:Nat)(y3:Ξ)(t:List (Option KS))(o4:KS):St:=⟨(AF 208 [(1,.ref 2 0),(3,.fn 125 1 (L1 [.ref 2 0])),(5,.msl 3 1 0 ((((c.cells.length:Int)+1)).toNat)),(7,.fn 126 1 (L1 [.ref 2 0])),(14,.it 5),(16,.i L)]),([oW c q pos 1 ln,oI y3,oC [.ref 0 0],some (.mo (.sets 2 t none)),some (.mo (.set 2 o4)),some (.mo (.set 2 ([]:KS))),oC [.bool false,.bool false]]:DH)⟩
def zHH (c:AD)(q:AA)(pos:Ξ)(ln:Nat)(o1:Ξ)(t:List (Option KS))(b:Nat)(r:LK)(o4 D:KS)(k:Ξ):DH:=[oW c q pos 1 ln,oI o1,oC [.ref 0 0],some (.mo (.sets 2 t (some (b,r)))),some (.mo (.set 2 o4)),some (.mo (.set 2 ([]:KS))),oC [.bool false,.bool false],some (.mo (.mit 2 r.1 r.2.1 r.2.2 (D.erase k) (some k)))]
def V6 (c:AD)(q:AA)(pos:Ξ)(ln:Nat)(o1:Ξ)(t:List (Option KS))(b:Nat)(r:LK)(o4 F:KS)(C a:Bool)(N O:Int)(d:KS)(m:Ξ):DH:=[oW c q pos 1 ln,oI o1,oC [.ref 0 0],some (.mo (.sets 2 t (some (b,r)))),some (.mo (.set 2 o4)),some (.mo (.set 2 F)),oC [.bool C,.bool a],oC [.i N,.i O],some (.mo (.mit 2 r.1 r.2.1 r.2.2 d (some m))),some (.bools ([false,true]:Ω))]
def jG (c:AD)(q:AA)(pos:Ξ)(ln:Nat)(k:(Δ)×Bool×Ξ)(t:List (Option KS))(b:Nat)(r:LK)(o4 F:KS)(C a:Bool)(N O:Int)(d:KS)(m:Ξ):DH:=[oW c q pos 1 ln,oI k.2.2,oC [.ref 0 0],some (.mo (.sets 2 t (some (b,r)))),some (.mo (.set 2 o4)),some (.mo (.set 2 F)),oC [.bool C,.bool a],oC [.i N,.i O],some (.mo (.mit 2 r.1 r.2.1 r.2.2 d (some m))),some (.bools ([false,true]:Ω)),oC [.i k.1.1,.i k.1.2]]
def zHG (c:AD)(q:AA)(pos:Ξ)(ln:Nat)(o1:Ξ)(t:List (Option KS))(b:Nat)(r:LK)(o4:KS)(I:Ξ):DH:=[oW c q pos 1 ln,oI o1,oC [.ref 0 0],some (.mo (.sets 2 t (some (b,r)))),some (.mo (.mit 2 r.1 r.2.1 r.2.2 o4 (some I)))]
def zHF (c:AD)(q:AA)(pos:Ξ)(ln:Nat)(o1:Ξ)(t:List (Option KS))(b:Nat)(r:LK)(o4 F:KS)(C a:Bool)(D:KS)(J:Ξ):DH:=[oW c q pos 1 ln,oI o1,oC [.ref 0 0],some (.mo (.sets 2 t (some (b,r)))),some (.mo (.set 2 o4)),some (.mo (.set 2 F)),oC [.bool C,.bool a],some (.mo (.mit 2 r.1 r.2.1 r.2.2 D (some J)))]
def jF (c:AD)(q:AA)(pos:Ξ)(ln:Nat)(o1:Ξ)(t:List (Option KS))(o4 F:KS)(C a:Bool):DH:=[oW c q pos 1 ln,oI o1,oC [.ref 0 0],some (.mo (.sets 2 t none)),some (.mo (.set 2 o4)),some (.mo (.set 2 F)),oC [.bool C,.bool a]]
def da (c:AD)(L:Int)(q:AA)(pos:Ξ)(ln:Nat)(G:Ξ)(t:List (Option KS))(o4 F:KS)(C a:Bool):St:=⟨(AF 208 [(1,.ref 2 0),(3,.fn 125 1 (L1 [.ref 2 0])),(5,.msl 3 1 0 ((((c.cells.length:Int)+1)).toNat)),(7,.fn 126 1 (L1 [.ref 2 0])),(14,.it 5),(16,.i L),(18,.ref 6 0)]),([oW c q pos 1 ln,oI G,oC [.ref 0 0],some (.mo (.sets 2 t none)),some (.mo (.set 2 o4)),some (.mo (.set 2 F)),oC [.bool C,.bool a]]:DH)⟩
def zHE (c:AD)(q:AA)(pos:Ξ)(ln:Nat)(G:Ξ)(t:List (Option KS))(o4 F:KS)(C a:Bool):DH:=[oW c q pos 1 ln,oI G,oC [.ref 0 0],some (.mo (.sets 2 t none)),some (.mo (.set 2 o4)),some (.mo (.set 2 F)),oC [.bool C,.bool a]]
def m9 (c:AD)(L:Int)(q:AA)(pos:Ξ)(ln:Nat)(y3:Ξ)(t:List (Option KS))(o4 F:KS)(C a:Bool):St:=⟨(AF 208 [(1,.ref 2 0),(3,.fn 125 1 (L1 [.ref 2 0])),(5,.msl 3 1 0 ((((c.cells.length:Int)+1)).toNat)),(7,.fn 126 1 (L1 [.ref 2 0])),(14,.it 5),(16,.i L)]),([oW c q pos 1 ln,oI y3,oC [.ref 0 0],some (.mo (.sets 2 t none)),some (.mo (.set 2 o4)),some (.mo (.set 2 F)),oC [.bool C,.bool a]]:DH)⟩
def m8 (c:AD)(L:Int)(q:AA)(pos:Ξ)(ln:Nat)(G:Ξ)(t:List (Option KS))(o4 F:KS)(C a:Bool):St:=⟨(AF 208 [(1,.ref 2 0),(3,.fn 125 1 (L1 [.ref 2 0])),(5,.msl 3 1 0 ((((c.cells.length:Int)+1)).toNat)),(7,.fn 126 1 (L1 [.ref 2 0])),(14,.it 5),(16,.i L)]),([oW c q pos 1 ln,oI G,oC [.ref 0 0],some (.mo (.sets 2 t none)),some (.mo (.set 2 o4)),some (.mo (.set 2 F)),oC [.bool C,.bool a]]:DH)⟩
def zHC (c:AD)(q:AA)(pos:Ξ)(ln:Nat)(o1:Ξ)(t:List (Option KS))(b:Nat)(r:LK)(o4 F:KS)(C a:Bool)(D:KS)(k:Ξ):DH:=[oW c q pos 1 ln,oI o1,oC [.ref 0 0],some (.mo (.sets 2 t (some (b,r)))),some (.mo (.set 2 o4)),some (.mo (.set 2 F)),oC [.bool C,.bool a],some (.mo (.mit 2 r.1 r.2.1 r.2.2 (D.erase k) (some k)))]
inductive Iz where
 | l1 (De:Int) (o3:List (Option KS))
 | l2 (A5:Int) (o1:Ξ) (o3:List (Option KS))
 | l3 (x8 A5:Int) (o1:Ξ) (o3:List (Option KS)) (Ao:Nat) (o4:KS)
 | l4 (Ae:Int) (o1:Ξ) (o3:List (Option KS)) (o4:KS)
 | l5 (x8 A5 Fx:Int) (o1:Ξ) (o3:List (Option KS)) (Ao:Nat) (As GE:Int) (o5:KS) (GD:Ξ)
 | l6 (Ae:Int) (o1:Ξ) (o3:List (Option KS)) (Ao:Nat) (o4 o7:KS)
 | l7 (Ae EW:Int) (o1:Ξ) (o3:List (Option KS)) (Ao:Nat) (o4 o5:KS) (Ba Bg:Bool) (D7 D6:Int) (o8:KS) (EY:Ξ)
 | l8 (x8 A5:Int) (o1:Ξ) (o3:List (Option KS)) (Ao:Nat) (o4:KS) (K5:Ξ)
 | l9 (Ae:Int) (o1:Ξ) (o3:List (Option KS)) (Ao:Nat) (o4 o5:KS) (Ba Bg:Bool) (o7:KS) (K4:Ξ)
def Yq (n:Nat)(self:Iz -> Option (Bool×Ξ))(c:AD)(q:AA)(pos:Ξ)(ln:Nat)(lost:Ξ)(P:Int)(t:List (Option KS)):Option (Bool×Ξ):= bif (decide (P<(((((c.cells.length:Int)+1)).toNat:Nat):Int))) then if (0<=P/\ P<(((((c.cells.length:Int)+1)).toNat:Nat):Int))/\ 0+P.toNat<t.length/\ AG (P+1) then self (.l1 (P+1) (t.set (0+P.toNat) (some ([]:KS)))) else none else if ((0:Int)<=0/\ 0<(((((c.cells.length:Int)+1)).toNat:Nat):Int))/\ 0+0<t.length/\ (t.getD (0+0) none).isSome=true then self (.l2 0 lost (t.set (0+0) (some (Cm [0,0] ((t.getD (0+0) none).getD []))))) else none
def Rl (n:Nat)(self:Iz -> Option (Bool×Ξ))(c:AD)(q:AA)(pos:Ξ)(ln:Nat)(lost:Ξ)(u:Int)(o1:Ξ)(t:List (Option KS)):Option (Bool×Ξ):= bif (decide (u<(c.cells.length:Int))) then if (t.getD (0+u.toNat) none).isSome=true then if (0<=u/\ u<(((((c.cells.length:Int)+1)).toNat:Nat):Int))/\ 0+u.toNat<t.length/\ (t.getD (0+u.toNat) none).isSome=true then self (.l3 u u o1 t (0+u.toNat) ((t.getD (0+u.toNat) none).getD [])) else none else none else bif (decide ((c.runs.length:Int)>0)) then if AG ((c.runs.length:Int)-1)/\ ((0:Int)<=((c.runs.length:Int)-1)/\ ((c.runs.length:Int)-1)<(c.runs.length:Int))/\ AG ((c.cells.length:Int)-1) then self (.l4 ((c.cells.length:Int)-1) o1 t (Cm [((c.runs.length:Int)-1),c.runs.getD ((((c.runs.length:Int)-1)).toNat) 0] (Cm [(c.runs.length:Int),0] ([]:KS)))) else none else if AG ((c.cells.length:Int)-1) then self (.l4 ((c.cells.length:Int)-1) o1 t (Cm [(c.runs.length:Int),0] ([]:KS))) else none
def zBj (n:Nat)(self:Iz -> Option (Bool×Ξ))(c:AD)(q:AA)(pos:Ξ)(ln:Nat)(lost:Ξ)(x8 u:Int)(o1:Ξ)(t:List (Option KS))(b:Nat)(o4:KS):Option (Bool×Ξ):= if (t.getD b none).isSome=true then I5 o4 (if AG (u+1) then self (.l2 (u+1) o1 t) else none) λk=> if (t.getD b none).isSome=true then self (.l5 x8 u 0 o1 t b (k.getD 0 0) (k.getD 1 0) (o4.erase k) k) else none else none
def Yp (n:Nat)(self:Iz -> Option (Bool×Ξ))(c:AD)(q:AA)(pos:Ξ)(ln:Nat)(lost:Ξ)(L:Int)(o1:Ξ)(t:List (Option KS))(o4:KS):Option (Bool×Ξ):= bif (decide (L>=0)) then if (t.getD (0+L.toNat) none).isSome=true then if (0<=L/\ L<(((((c.cells.length:Int)+1)).toNat:Nat):Int))/\ 0+L.toNat<t.length/\ (t.getD (0+L.toNat) none).isSome=true then self (.l6 L o1 t (0+L.toNat) o4 ((t.getD (0+L.toNat) none).getD [])) else none else none else some (true,o1)
def Rk (n:Nat)(self:Iz -> Option (Bool×Ξ))(c:AD)(q:AA)(pos:Ξ)(ln:Nat)(lost:Ξ)(x8 u Z:Int)(o1:Ξ)(t:List (Option KS))(b:Nat)(g X:Int)(F:KS)(Y:Ξ):Option (Bool×Ξ):= bif (decide (Z<2)) then if (0<=Z/\ Z<((2:Nat):Int))/\ 0+Z.toNat<([false,true]:Ω).length then (Vf n (g,X) (([false,true]:Ω).getD (0+Z.toNat) false) c q pos ln o1).bind λk=> bif k.2.1 then (Vq n x8 (([false,true]:Ω).getD (0+Z.toNat) false) c q pos ln k.2.2).bind λG=> bif G.1 then if AG (x8+1)/\ (0<=(x8+1)/\ (x8+1)<(((((c.cells.length:Int)+1)).toNat:Nat):Int))/\ 0+(((x8+1)).toNat)<t.length/\ b≠0+(((x8+1)).toNat)/\ (t.getD (0+(((x8+1)).toNat)) none).isSome=true/\ AG (Z+1) then self (.l5 x8 u (Z+1) G.2 (t.set (0+(((x8+1)).toNat)) (some (Cm [k.1.1,k.1.2] ((t.getD (0+(((x8+1)).toNat)) none).getD [])))) b g X F Y) else none else if AG (Z+1) then self (.l5 x8 u (Z+1) G.2 t b g X F Y) else none else if AG (Z+1) then self (.l5 x8 u (Z+1) k.2.2 t b g X F Y) else none else none else self (.l8 x8 u o1 t b F Y)
def zBi (n:Nat)(self:Iz -> Option (Bool×Ξ))(c:AD)(q:AA)(pos:Ξ)(ln:Nat)(lost:Ξ)(L:Int)(o1:Ξ)(t:List (Option KS))(b:Nat)(o4 D:KS):Option (Bool×Ξ):= if (t.getD b none).isSome=true then I5 D (if 0<=L/\ L<(c.cells.length:Int) then (D8 n (c.cells.getD L.toNat 0) c.set c q pos ln o1).bind λG=> (Hc n (c.cells.getD L.toNat 0) c q pos ln G).bind λy3=> if AG (L-1) then self (.l4 (L-1) y3 t ([]:KS)) else none else none) λk=> if (t.getD b none).isSome=true then self (.l7 L 0 o1 t b o4 ([]:KS) false false (k.getD 0 0) (k.getD 1 0) (D.erase k) k) else none else none
def Rj (n:Nat)(self:Iz -> Option (Bool×Ξ))(c:AD)(q:AA)(pos:Ξ)(ln:Nat)(lost:Ξ)(L a:Int)(o1:Ξ)(t:List (Option KS))(b:Nat)(o4 F:KS)(C d:Bool)(N O:Int)(r:KS)(m:Ξ):Option (Bool×Ξ):= bif (decide (a<2)) then if (0<=a/\ a<((2:Nat):Int))/\ 0+a.toNat<([false,true]:Ω).length then (Vf n (N,O) (([false,true]:Ω).getD (0+a.toNat) false) c q pos ln o1).bind λk=> bif k.2.1 then (Vq n L (([false,true]:Ω).getD (0+a.toNat) false) c q pos ln k.2.2).bind λG=> bif G.1 then bif (o4.contains [k.1.1,k.1.2]) then bif (a==0) then if AG (a+1) then self (.l7 L (a+1) G.2 t b o4 (Cm [N,O] F) true d N O r m) else none else bif (a==1) then if AG (a+1) then self (.l7 L (a+1) G.2 t b o4 (Cm [N,O] F) C true N O r m) else none else none else if AG (a+1) then self (.l7 L (a+1) G.2 t b o4 F C d N O r m) else none else if AG (a+1) then self (.l7 L (a+1) G.2 t b o4 F C d N O r m) else none else if AG (a+1) then self (.l7 L (a+1) k.2.2 t b o4 F C d N O r m) else none else none else self (.l9 L o1 t b o4 F C d r m)
def eY (n:Nat)(self:Iz -> Option (Bool×Ξ))(c:AD)(q:AA)(pos:Ξ)(ln:Nat)(lost:Ξ)(x8 u:Int)(o1:Ξ)(t:List (Option KS))(b:Nat)(o4:KS)(K5:Ξ):Option (Bool×Ξ):= if (t.getD b none).isSome=true then I5 o4 (if AG (u+1) then self (.l2 (u+1) o1 t) else none) λk=> if (t.getD b none).isSome=true then self (.l5 x8 u 0 o1 t b (k.getD 0 0) (k.getD 1 0) (o4.erase k) k) else none else none
def Uo (n:Nat)(self:Iz -> Option (Bool×Ξ))(c:AD)(q:AA)(pos:Ξ)(ln:Nat)(lost:Ξ)(L:Int)(o1:Ξ)(t:List (Option KS))(b:Nat)(o4 F:KS)(C a:Bool)(D:KS)(K4:Ξ):Option (Bool×Ξ):= if (t.getD b none).isSome=true then I5 D (bif (!a) then if 0<=L/\ L<(c.cells.length:Int) then (D8 n (c.cells.getD L.toNat 0) c.set c q pos ln o1).bind λG=> bif (!C) then (Hc n (c.cells.getD L.toNat 0) c q pos ln G).bind λy3=> if AG (L-1) then self (.l4 (L-1) y3 t F) else none else if AG (L-1) then self (.l4 (L-1) G t F) else none else none else bif (!C) then if 0<=L/\ L<(c.cells.length:Int) then (Hc n (c.cells.getD L.toNat 0) c q pos ln o1).bind λG=> if AG (L-1) then self (.l4 (L-1) G t F) else none else none else if AG (L-1) then self (.l4 (L-1) o1 t F) else none) λk=> if (t.getD b none).isSome=true then self (.l7 L 0 o1 t b o4 F C a (k.getD 0 0) (k.getD 1 0) (D.erase k) k) else none else none
def eZ (n:Nat)(self:Iz -> Option (Bool×Ξ))(c:AD)(q:AA)(pos:Ξ)(ln:Nat)(lost:Ξ):Option (Bool×Ξ):= bif ((c.cells.length:Int)==0) then some (((c.runs.length:Int)==0),lost) else if AG ((c.cells.length:Int)+1)/\ ((((c.cells.length:Int)+1):Int)=((c.cells.length:Int)+1)/\ (0:Int)<=((c.cells.length:Int)+1)/\ (((c.cells.length:Int)+1):Int)<=1000000000000) then self (.l1 0 (List.replicate ((((c.cells.length:Int)+1)).toNat) (none:Option KS))) else none
def BV (c:AD)(q:AA)(pos:Ξ)(ln:Nat)(lost:Ξ):Nat -> Iz -> Option (Bool×Ξ)
 | 0,_=>none
 | n+1,.l1 P t=>Yq n (BV c q pos ln lost n) c q pos ln lost P t
 | n+1,.l2 u o1 t=>Rl n (BV c q pos ln lost n) c q pos ln lost u o1 t
 | n+1,.l3 x8 u o1 t b o4=>zBj n (BV c q pos ln lost n) c q pos ln lost x8 u o1 t b o4
 | n+1,.l4 L o1 t o4=>Yp n (BV c q pos ln lost n) c q pos ln lost L o1 t o4
 | n+1,.l5 x8 u Z o1 t b g X F Y=>Rk n (BV c q pos ln lost n) c q pos ln lost x8 u Z o1 t b g X F Y
 | n+1,.l6 L o1 t b o4 D=>zBi n (BV c q pos ln lost n) c q pos ln lost L o1 t b o4 D
 | n+1,.l7 L d o1 t b o4 F C a N O r m=>Rj n (BV c q pos ln lost n) c q pos ln lost L d o1 t b o4 F C a N O r m
 | n+1,.l8 x8 u o1 t b o4 I=>eY n (BV c q pos ln lost n) c q pos ln lost x8 u o1 t b o4 I
 | n+1,.l9 L o1 t b o4 F C a D J=>Uo n (BV c q pos ln lost n) c q pos ln lost L o1 t b o4 F C a D J
def Rm (n:Nat)(c:AD)(q:AA)(pos:Ξ)(ln:Nat)(lost:Ξ):Option (Bool×Ξ):=eZ n (BV c q pos ln lost n) c q pos ln lost
def zBk (n B:Nat)(N:Yd 2)(c:AD)(q:AA)(pos:Ξ)(ln:Nat)(lost:Ξ)(r:Bool×Ξ):Iz -> Prop
 | .l1 P t=>∀ f:Nat,n<=f -> TW B N (FQ Tryz.f110 2 (.bool r.1) [oW c q pos 1 ln,oI r.2]) (Ah f (An (AR Tryz.f110) 0 [])) ⟨AF 208 [(1,.ref 2 0),(3,.fn 125 1 (L1 [.ref 2 0])),(4,.i (c.cells.length:Int)),(5,.msl 3 1 0 ((((c.cells.length:Int)+1)).toNat)),(44,.i (((((c.cells.length:Int)+1)).toNat:Nat):Int)),(45,.i P)],[oW c q pos 1 ln,oI lost,oC [.ref 0 0],some (.mo (.sets 2 t none))]⟩
 | .l2 u o1 t=>∀ f:Nat,n<=f -> TW B N (FQ Tryz.f110 2 (.bool r.1) [oW c q pos 1 ln,oI r.2]) (Ah f (An (AR Tryz.f110) 2 [])) ⟨AF 208 [(1,.ref 2 0),(3,.fn 125 1 (L1 [.ref 2 0])),(4,.i (c.cells.length:Int)),(5,.msl 3 1 0 ((((c.cells.length:Int)+1)).toNat)),(7,.fn 126 1 (L1 [.ref 2 0])),(58,.i (c.cells.length:Int)),(59,.i u)],[oW c q pos 1 ln,oI o1,oC [.ref 0 0],some (.mo (.sets 2 t none))]⟩
 | .l3 x8 u o1 t b o4=>∀ f V:Nat,n<=f -> n<=V -> ∀ a:LK,TW B N (FQ Tryz.f110 2 (.bool r.1) [oW c q pos 1 ln,oI r.2]) (Ah V (An (AR Tryz.f110) 4 [f])) ⟨AF 208 [(1,.ref 2 0),(3,.fn 125 1 (L1 [.ref 2 0])),(4,.i (c.cells.length:Int)),(5,.msl 3 1 0 ((((c.cells.length:Int)+1)).toNat)),(7,.fn 126 1 (L1 [.ref 2 0])),(8,.i x8),(58,.i (c.cells.length:Int)),(59,.i u),(66,.it 4)],[oW c q pos 1 ln,oI o1,oC [.ref 0 0],some (.mo (.sets 2 t (some (b,a)))),some (.mo (.mit 2 a.1 a.2.1 a.2.2 o4 none))]⟩
 | .l4 L o1 t o4=>∀ f:Nat,n<=f -> TW B N (FQ Tryz.f110 2 (.bool r.1) [oW c q pos 1 ln,oI r.2]) (Ah f (An (AR Tryz.f110) 8 [])) ⟨AF 208 [(1,.ref 2 0),(3,.fn 125 1 (L1 [.ref 2 0])),(5,.msl 3 1 0 ((((c.cells.length:Int)+1)).toNat)),(7,.fn 126 1 (L1 [.ref 2 0])),(14,.it 4),(16,.i L)],[oW c q pos 1 ln,oI o1,oC [.ref 0 0],some (.mo (.sets 2 t none)),some (.mo (.set 2 o4))]⟩
 | .l5 x8 u Z o1 t b g X F Y=>∀ f V E:Nat,n<=f -> n<=V -> n<=E -> ∀ a:LK,TW B N (FQ Tryz.f110 2 (.bool r.1) [oW c q pos 1 ln,oI r.2]) (Ah E (An (AR Tryz.f110) 6 [f,V])) ⟨AF 208 [(1,.ref 2 0),(3,.fn 125 1 (L1 [.ref 2 0])),(4,.i (c.cells.length:Int)),(5,.msl 3 1 0 ((((c.cells.length:Int)+1)).toNat)),(7,.fn 126 1 (L1 [.ref 2 0])),(8,.i x8),(9,.ref 4 0),(58,.i (c.cells.length:Int)),(59,.i u),(66,.it 5),(71,.msl 6 1 0 2),(72,.i 2),(73,.i Z)],[oW c q pos 1 ln,oI o1,oC [.ref 0 0],some (.mo (.sets 2 t (some (b,a)))),oC [.i g,.i X],some (.mo (.mit 2 a.1 a.2.1 a.2.2 F (some Y))),some (.bools ([false,true]:Ω))]⟩
 | .l6 L o1 t b o4 D=>∀ f V:Nat,n<=f -> n<=V -> ∀ a:LK,TW B N (FQ Tryz.f110 2 (.bool r.1) [oW c q pos 1 ln,oI r.2]) (Ah V (An (AR Tryz.f110) 10 [f])) ⟨AF 208 [(1,.ref 2 0),(3,.fn 125 1 (L1 [.ref 2 0])),(5,.msl 3 1 0 ((((c.cells.length:Int)+1)).toNat)),(7,.fn 126 1 (L1 [.ref 2 0])),(14,.it 4),(16,.i L),(17,.it 5),(18,.ref 6 0),(140,.it 7)],[oW c q pos 1 ln,oI o1,oC [.ref 0 0],some (.mo (.sets 2 t (some (b,a)))),some (.mo (.set 2 o4)),some (.mo (.set 2 ([]:KS))),oC [.bool false,.bool false],some (.mo (.mit 2 a.1 a.2.1 a.2.2 D none))]⟩
 | .l7 L e o1 t b o4 F C d h O j m=>∀ f V E:Nat,n<=f -> n<=V -> n<=E -> ∀ a:LK,TW B N (FQ Tryz.f110 2 (.bool r.1) [oW c q pos 1 ln,oI r.2]) (Ah E (An (AR Tryz.f110) 12 [f,V])) ⟨AF 208 [(1,.ref 2 0),(3,.fn 125 1 (L1 [.ref 2 0])),(5,.msl 3 1 0 ((((c.cells.length:Int)+1)).toNat)),(7,.fn 126 1 (L1 [.ref 2 0])),(14,.it 4),(16,.i L),(17,.it 5),(18,.ref 6 0),(19,.ref 7 0),(140,.it 8),(145,.msl 9 1 0 2),(146,.i 2),(147,.i e)],[oW c q pos 1 ln,oI o1,oC [.ref 0 0],some (.mo (.sets 2 t (some (b,a)))),some (.mo (.set 2 o4)),some (.mo (.set 2 F)),oC [.bool C,.bool d],oC [.i h,.i O],some (.mo (.mit 2 a.1 a.2.1 a.2.2 j (some m))),some (.bools ([false,true]:Ω))]⟩
 | .l8 x8 u o1 t b o4 I=>∀ f V:Nat,n<=f -> n<=V -> ∀ a:LK,TW B N (FQ Tryz.f110 2 (.bool r.1) [oW c q pos 1 ln,oI r.2]) (Ah V (An (AR Tryz.f110) 4 [f])) ⟨AF 208 [(1,.ref 2 0),(3,.fn 125 1 (L1 [.ref 2 0])),(4,.i (c.cells.length:Int)),(5,.msl 3 1 0 ((((c.cells.length:Int)+1)).toNat)),(7,.fn 126 1 (L1 [.ref 2 0])),(8,.i x8),(58,.i (c.cells.length:Int)),(59,.i u),(66,.it 4)],[oW c q pos 1 ln,oI o1,oC [.ref 0 0],some (.mo (.sets 2 t (some (b,a)))),some (.mo (.mit 2 a.1 a.2.1 a.2.2 o4 (some I)))]⟩
 | .l9 L o1 t b o4 F C d D J=>∀ f V:Nat,n<=f -> n<=V -> ∀ a:LK,TW B N (FQ Tryz.f110 2 (.bool r.1) [oW c q pos 1 ln,oI r.2]) (Ah V (An (AR Tryz.f110) 10 [f])) ⟨AF 208 [(1,.ref 2 0),(3,.fn 125 1 (L1 [.ref 2 0])),(5,.msl 3 1 0 ((((c.cells.length:Int)+1)).toNat)),(7,.fn 126 1 (L1 [.ref 2 0])),(14,.it 4),(16,.i L),(17,.it 5),(18,.ref 6 0),(140,.it 7)],[oW c q pos 1 ln,oI o1,oC [.ref 0 0],some (.mo (.sets 2 t (some (b,a)))),some (.mo (.set 2 o4)),some (.mo (.set 2 F)),oC [.bool C,.bool d],some (.mo (.mit 2 a.1 a.2.1 a.2.2 D (some J)))]⟩
def zBl (B:Nat)(N:Yd 2)(c:AD)(q:AA)(pos:Ξ)(ln:Nat)(lost:Ξ):Al (BV c q pos ln lost) (zBk · B N c q pos ln lost):=ia (λ_=>rfl) λn C A r h=>by
 cases A
 case l1 De o3=>
  intro f b;refine rd b λf b=>?_
  revert r;apply gO;exact bi 46 (gc (gi (gc (gi (gw 52 (lG Cf [0,1,2,5] (C _ _ · f b))))))) (gc (gi (gc (gi (gi (jg (zFE (i:=0+0)) (lN Cf [0,1,2,3] (C _ _ · n Nat.le.refl))))))))
 case l2 A5 o1 o3=>
  intro f b;refine rd b λf b=>?_
  revert r;apply gO
  exact bi 60 (gn λj=>λp r h=>by
   refine gs (Ab 16 Cf) [0,1,2,3] p (EP (AR Tryz.f110) 16 [f]) (AF 208 [(1,.ref 2 0),(3,.fn 125 1 (L1 [.ref 2 0])),(4,.i (c.cells.length:Int)),(5,.msl 3 1 0 ((((c.cells.length:Int)+1)).toNat)),(7,.fn 126 1 (L1 [.ref 2 0])),(8,.i A5),(58,.i (c.cells.length:Int)),(59,.i A5)]) (jH c q pos ln o1 o3) ?_;refine Bi.lock 3 (0+A5.toNat) 2 (by kernel_rfl) j (by kernel_rfl) (λa=>(zHJ c q pos ln o1 o3 A5 a)) (by kernel_rfl) λa=>?_
   revert r;apply gO;exact gc (gi (gc (gi (gi (jg (Eq.refl (0+A5.toNat)) (lN Cf [0,1,2,3,4] (C _ _ · f n b Nat.le.refl a)))))))) (bi 115 (gc (gn λj=>jw 118 j (jw 125 j (gc (gi (gw 130 (lN Cf [0,1,2,3,4] (C _ _ · n Nat.le.refl)))))))) (gw 130 (lN Cf [0,1,2,3,4] (C _ _ · n Nat.le.refl))))
 case l3 x8 A5 o1 o3 Ao o4=>
  intro f V b d a;have b:=zGV b;refine rd d λV d=>?_
  have p:=H0;refine gs (Ab 17 Cf) [0,1,2,3,4] p (EP (AR Tryz.f110) 17 [f,V]) (AF 208 [(1,.ref 2 0),(3,.fn 125 1 (L1 [.ref 2 0])),(4,.i (c.cells.length:Int)),(5,.msl 3 1 0 ((((c.cells.length:Int)+1)).toNat)),(7,.fn 126 1 (L1 [.ref 2 0])),(8,.i x8),(58,.i (c.cells.length:Int)),(59,.i A5),(66,.it 4)]) (zHD c q pos ln o1 o3 Ao a o4) ?_;revert r;apply gO
  exact gn λj=>λp r h=>by
   replace h:=Zu h;refine A1.nx (ops:=BA Tryz.f110 17) HC.x (by kernel_rfl) (by kernel_rfl) 4 3 Ao 2 o3 a o4 none [1,3,4,5,7,8,58,59,66,68] [0,1,2,3] (AF 208 [(1,.ref 2 0),(3,.fn 125 1 (L1 [.ref 2 0])),(4,.i (c.cells.length:Int)),(5,.msl 3 1 0 ((((c.cells.length:Int)+1)).toNat)),(7,.fn 126 1 (L1 [.ref 2 0])),(8,.i x8),(58,.i (c.cells.length:Int)),(59,.i A5),(68,.bool false)]) (jH c q pos ln o1 o3) [0,1,2,3,4] (λe=>AF 208 [(1,.ref 2 0),(3,.fn 125 1 (L1 [.ref 2 0])),(4,.i (c.cells.length:Int)),(5,.msl 3 1 0 ((((c.cells.length:Int)+1)).toNat)),(7,.fn 126 1 (L1 [.ref 2 0])),(8,.i x8),(58,.i (c.cells.length:Int)),(59,.i A5),(66,.it 4),(68,.bool true)]) (λe=>(tH c q pos ln o1 o3 Ao a o4 e)) (by kernel_rfl) (by kernel_rfl) (by kernel_rfl) (by decide) j (by kernel_rfl) (by kernel_rfl) (λ_=>by kernel_rfl) (λJ=>?_) (λe J=>?_)
   ·replace h:=h.1 J;revert r;apply gO;exact gw 98 (lG Cf [0,1,2,3] (C _ _ · f b))
   ·replace h:=h.2 e J;revert r;apply gO;exact gi (jg (Eq.refl a.1) (jg (Eq.refl a.2.1) (jg (Eq.refl a.2.2) (jt (lN Cf [0,1,2,3,5,4,6] (C _ _ · f V n b d Nat.le.refl a))))))
 case l4 Ae o1 o3 o4=>
  intro f b;refine rd b λf b=>?_
  revert r;apply gO
  exact bi 132 (gn λj=>λp r h=>by
   refine gs (Ab 36 Cf) [0,1,2,3,4,5,6] p (EP (AR Tryz.f110) 36 [f]) (AF 208 [(1,.ref 2 0),(3,.fn 125 1 (L1 [.ref 2 0])),(5,.msl 3 1 0 ((((c.cells.length:Int)+1)).toNat)),(7,.fn 126 1 (L1 [.ref 2 0])),(14,.it 4),(16,.i Ae),(17,.it 5),(18,.ref 6 0)]) (jE c q pos ln o1 o3 o4) ?_;refine Bi.lock 3 (0+Ae.toNat) 2 (by kernel_rfl) j (by kernel_rfl) (λa=>(zHB c q pos ln o1 o3 Ae a o4)) (by kernel_rfl) λa=>?_
   revert r;apply gO;exact gc (gi (gc (gi (gi (jg (Eq.refl (0+Ae.toNat)) (lN Cf [0,1,2,3,4,5,6,7] (C _ _ · f n b Nat.le.refl a)))))))) (lE Cf [2] [0,1])
 case l5 x8 A5 Fx o1 o3 Ao As GE o5 GD=>
  intro f V E b d l a;have b:=zGV b;have d:=zGV d;refine rd l λE l=>?_
  revert r;apply gO;exact bj 74 (λm=>gc (gn λj=>jg j (gn λo=>jg o (cn λe s=>jc (em (Nh s) [2,0,1] (jD c q pos ln o1 o3 Ao a As GE o5 GD)) (jt (bn (λw=>rO (jb 74 m (jg j (jg o (jc (em (Nh s) [2,0,1] (jD c q pos ln o1 o3 Ao a As GE o5 GD)) (jb 83 w (jt (ce aL [2,0,1] (zHA c q pos ln e o3 Ao a As GE o5 GD) λ_=>bi 89 (jg zAi (gc (gw 93 (gc (gi (gc (gi (gc (gn λD=>gc (gi (jg (zFD (g:=a) D) (gw 97 (lG Cf [0,1,2,3,4,5,6] (C _ _ · f V E b d l a)))))))))))))) (gw 97 (lG Cf [0,1,2,3,4,5,6] (C _ _ · f V E b d l a))))))))))) (λw=>rO (jb 74 m (jg j (jg o (jc (em (Nh s) [2,0,1] (jD c q pos ln o1 o3 Ao a As GE o5 GD)) (jb 83 w (jt (gw 97 (lG Cf [0,1,2,3,4,5,6] (C _ _ · f V E b d l a)))))))))))))))) (λ_=>lG Cf [0,1,2,3,5] (C _ _ · f V b d a))
 case l6 Ae o1 o3 Ao o4 o7=>
  intro f V b d a;have b:=zGV b;refine rd d λV d=>?_
  have p:=H0;refine gs (Ab 37 Cf) [0,1,2,3,4,5,6,7] p (EP (AR Tryz.f110) 37 [f,V]) (AF 208 [(1,.ref 2 0),(3,.fn 125 1 (L1 [.ref 2 0])),(5,.msl 3 1 0 ((((c.cells.length:Int)+1)).toNat)),(7,.fn 126 1 (L1 [.ref 2 0])),(14,.it 4),(16,.i Ae),(17,.it 5),(18,.ref 6 0),(140,.it 7)]) (zG9 c q pos ln o1 o3 Ao a o4 o7) ?_;revert r;apply gO
  exact gn λj=>λp r h=>by
   replace h:=Zu h;refine A1.nx (ops:=BA Tryz.f110 37) HC.x (by kernel_rfl) (by kernel_rfl) 7 3 Ao 2 o3 a o7 none [1,3,5,7,14,16,17,18,140,142] [0,1,2,3,4,5,6] (AF 208 [(1,.ref 2 0),(3,.fn 125 1 (L1 [.ref 2 0])),(5,.msl 3 1 0 ((((c.cells.length:Int)+1)).toNat)),(7,.fn 126 1 (L1 [.ref 2 0])),(14,.it 4),(16,.i Ae),(17,.it 5),(18,.ref 6 0),(142,.bool false)]) (jE c q pos ln o1 o3 o4) [0,1,2,3,4,5,6,7] (λe=>AF 208 [(1,.ref 2 0),(3,.fn 125 1 (L1 [.ref 2 0])),(5,.msl 3 1 0 ((((c.cells.length:Int)+1)).toNat)),(7,.fn 126 1 (L1 [.ref 2 0])),(14,.it 4),(16,.i Ae),(17,.it 5),(18,.ref 6 0),(140,.it 7),(142,.bool true)]) (λe=>(zHH c q pos ln o1 o3 Ao a o4 o7 e)) (by kernel_rfl) (by kernel_rfl) (by kernel_rfl) (by decide) j (by kernel_rfl) (by kernel_rfl) (λ_=>by kernel_rfl) (λJ=>?_) (λe J=>?_)
   ·replace h:=h.1 J;revert r;apply gO;exact jg (by decide:(0:Int)<=1/\ 1<((2:Nat):Int)) (jg pG (gn λo=>jg o (ce Gy [0,1] (jE c q pos ln o1 o3 o4) λG=>jg (Eq.refl (m7 c Ae q pos ln G o3 o4)) (jg (by decide:(0:Int)<=0/\ 0<((2:Nat):Int)) (jg eQ (jg o (ce Nc [0,1] (zHI c q pos ln G o3 o4) λy3=>jg (Eq.refl (nA c Ae q pos ln y3 o3 o4)) (gw 134 (lG (tg:=[([],(m7 c Ae q pos ln G o3 o4)),([],(nA c Ae q pos ln y3 o3 o4))]) Cf [0,1,2,3,5] (C _ _ · f b))))))))))
   ·replace h:=h.2 e J;revert r;apply gO;exact gi (jg (Eq.refl a.1) (jg (Eq.refl a.2.1) (jg (Eq.refl a.2.2) (jt (lN Cf [0,1,2,3,4,5,6,8,7,9] (C _ _ · f V n b d Nat.le.refl a))))))
 case l7 Ae EW o1 o3 Ao o4 o5 Ba Bg D7 D6 o8 EY=>
  intro f V E b d l a;have b:=zGV b;have d:=zGV d;refine rd l λE l=>?_
  revert r;apply gO;exact bj 148 (λm=>gc (gn λj=>jg j (gn λo=>jg o (cn λe s=>jc (em (Nh s) [2,0,1] (V6 c q pos ln o1 o3 Ao a o4 o5 Ba Bg D7 D6 o8 EY)) (jt (bn (λw=>rO (jb 148 m (jg j (jg o (jc (em (Nh s) [2,0,1] (V6 c q pos ln o1 o3 Ao a o4 o5 Ba Bg D7 D6 o8 EY)) (jb 158 w (jt (cn λG t=>jc (em (aL t) [2,0,1] (jG c q pos ln e o3 Ao a o4 o5 Ba Bg D7 D6 o8 EY)) (bj 164 (λu=>bj 169 (λv=>bn (λy=>rO (jb 148 m (jo 149 (AN.int (k:=.i64) (zI4 y)) (jg j (jg o (jc (em (Nh s) [2,0,1] (V6 c q pos ln o1 o3 Ao a o4 o5 Ba Bg D7 D6 o8 EY)) (jb 158 w (jt (jc (em (aL t) [2,0,1] (jG c q pos ln e o3 Ao a o4 o5 Ba Bg D7 D6 o8 EY)) (jb 164 u (jb 169 v (jg (by decide:(0:Int)<=0/\ 0<((2:Nat):Int)) (jt (gw 175 (lG Cf [0,1,2,3,4,5,6,7,8,9] (C _ _ · f V E b d l a)))))))))))))))) (λy=>bn (λz=>rO (jb 148 m (jo 149 (AN.int (k:=.i64) (zI4 z)) (jg j (jg o (jc (em (Nh s) [2,0,1] (V6 c q pos ln o1 o3 Ao a o4 o5 Ba Bg D7 D6 o8 EY)) (jb 158 w (jt (jc (em (aL t) [2,0,1] (jG c q pos ln e o3 Ao a o4 o5 Ba Bg D7 D6 o8 EY)) (jb 164 u (jb 169 v (jg (by decide:(0:Int)<=1/\ 1<((2:Nat):Int)) (jt (gw 175 (lG Cf [0,1,2,3,4,5,6,7,8,9] (C _ _ · f V E b d l a)))))))))))))))) (λz=>nO))) (λ_=>gw 175 (lG Cf [0,1,2,3,4,5,6,7,8,9] (C _ _ · f V E b d l a)))) (λ_=>gw 175 (lG Cf [0,1,2,3,4,5,6,7,8,9] (C _ _ · f V E b d l a)))))))))))) (λw=>rO (jb 148 m (jg j (jg o (jc (em (Nh s) [2,0,1] (V6 c q pos ln o1 o3 Ao a o4 o5 Ba Bg D7 D6 o8 EY)) (jb 158 w (jt (gw 175 (lG Cf [0,1,2,3,4,5,6,7,8,9] (C _ _ · f V E b d l a)))))))))))))))) (λ_=>lG Cf [0,1,2,3,4,5,6,8] (C _ _ · f V b d a))
 case l8 x8 A5 o1 o3 Ao o4 K5=>
  intro f V b d a;have b:=zGV b;refine rd d λV d=>?_
  have p:=H0;refine gs (Ab 17 Cf) [0,1,2,3,4] p (EP (AR Tryz.f110) 17 [f,V]) (AF 208 [(1,.ref 2 0),(3,.fn 125 1 (L1 [.ref 2 0])),(4,.i (c.cells.length:Int)),(5,.msl 3 1 0 ((((c.cells.length:Int)+1)).toNat)),(7,.fn 126 1 (L1 [.ref 2 0])),(8,.i x8),(58,.i (c.cells.length:Int)),(59,.i A5),(66,.it 4)]) (zHG c q pos ln o1 o3 Ao a o4 K5) ?_;revert r;apply gO
  exact gn λj=>λp r h=>by
   replace h:=Zu h;refine A1.nx (ops:=BA Tryz.f110 17) HC.x (by kernel_rfl) (by kernel_rfl) 4 3 Ao 2 o3 a o4 (some K5) [1,3,4,5,7,8,58,59,66,68] [0,1,2,3] (AF 208 [(1,.ref 2 0),(3,.fn 125 1 (L1 [.ref 2 0])),(4,.i (c.cells.length:Int)),(5,.msl 3 1 0 ((((c.cells.length:Int)+1)).toNat)),(7,.fn 126 1 (L1 [.ref 2 0])),(8,.i x8),(58,.i (c.cells.length:Int)),(59,.i A5),(68,.bool false)]) (jH c q pos ln o1 o3) [0,1,2,3,4] (λe=>AF 208 [(1,.ref 2 0),(3,.fn 125 1 (L1 [.ref 2 0])),(4,.i (c.cells.length:Int)),(5,.msl 3 1 0 ((((c.cells.length:Int)+1)).toNat)),(7,.fn 126 1 (L1 [.ref 2 0])),(8,.i x8),(58,.i (c.cells.length:Int)),(59,.i A5),(66,.it 4),(68,.bool true)]) (λe=>(tH c q pos ln o1 o3 Ao a o4 e)) (by kernel_rfl) (by kernel_rfl) (by kernel_rfl) (by decide) j (by kernel_rfl) (by kernel_rfl) (λ_=>by kernel_rfl) (λJ=>?_) (λe J=>?_)
   ·replace h:=h.1 J;revert r;apply gO;exact gw 98 (lG Cf [0,1,2,3] (C _ _ · f b))
   ·replace h:=h.2 e J;revert r;apply gO;exact gi (jg (Eq.refl a.1) (jg (Eq.refl a.2.1) (jg (Eq.refl a.2.2) (jt (lN Cf [0,1,2,3,5,4,6] (C _ _ · f V n b d Nat.le.refl a))))))
 case l9 Ae o1 o3 Ao o4 o5 Ba Bg o7 K4=>
  intro f V b d a;have b:=zGV b;refine rd d λV d=>?_
  have p:=H0;refine gs (Ab 37 Cf) [0,1,2,3,4,5,6,7] p (EP (AR Tryz.f110) 37 [f,V]) (AF 208 [(1,.ref 2 0),(3,.fn 125 1 (L1 [.ref 2 0])),(5,.msl 3 1 0 ((((c.cells.length:Int)+1)).toNat)),(7,.fn 126 1 (L1 [.ref 2 0])),(14,.it 4),(16,.i Ae),(17,.it 5),(18,.ref 6 0),(140,.it 7)]) (zHF c q pos ln o1 o3 Ao a o4 o5 Ba Bg o7 K4) ?_;revert r;apply gO
  exact gn λj=>λp r h=>by
   replace h:=Zu h;refine A1.nx (ops:=BA Tryz.f110 37) HC.x (by kernel_rfl) (by kernel_rfl) 7 3 Ao 2 o3 a o7 (some K4) [1,3,5,7,14,16,17,18,140,142] [0,1,2,3,4,5,6] (AF 208 [(1,.ref 2 0),(3,.fn 125 1 (L1 [.ref 2 0])),(5,.msl 3 1 0 ((((c.cells.length:Int)+1)).toNat)),(7,.fn 126 1 (L1 [.ref 2 0])),(14,.it 4),(16,.i Ae),(17,.it 5),(18,.ref 6 0),(142,.bool false)]) (jF c q pos ln o1 o3 o4 o5 Ba Bg) [0,1,2,3,4,5,6,7] (λe=>AF 208 [(1,.ref 2 0),(3,.fn 125 1 (L1 [.ref 2 0])),(5,.msl 3 1 0 ((((c.cells.length:Int)+1)).toNat)),(7,.fn 126 1 (L1 [.ref 2 0])),(14,.it 4),(16,.i Ae),(17,.it 5),(18,.ref 6 0),(140,.it 7),(142,.bool true)]) (λe=>(zHC c q pos ln o1 o3 Ao a o4 o5 Ba Bg o7 e)) (by kernel_rfl) (by kernel_rfl) (by kernel_rfl) (by decide) j (by kernel_rfl) (by kernel_rfl) (λ_=>by kernel_rfl) (λJ=>?_) (λe J=>?_)
   ·replace h:=h.1 J;revert r;apply gO;exact jg (by decide:(0:Int)<=1/\ 1<((2:Nat):Int)) (bi 179 (jg pG (gn λo=>jg o (ce Gy [0,1] (jF c q pos ln o1 o3 o4 o5 Ba Bg) λG=>jg (Eq.refl (da c Ae q pos ln G o3 o4 o5 Ba Bg)) (jg (by decide:(0:Int)<=0/\ 0<((2:Nat):Int)) (bi 197 (jg eQ (jg o (ce Nc [0,1] (zHE c q pos ln G o3 o4 o5 Ba Bg) λy3=>jg (Eq.refl (m9 c Ae q pos ln y3 o3 o4 o5 Ba Bg)) (gw 134 (lG (tg:=[([],(da c Ae q pos ln G o3 o4 o5 Ba Bg)),([],(m9 c Ae q pos ln y3 o3 o4 o5 Ba Bg))]) Cf [0,1,2,3,5] (C _ _ · f b)))))) (gw 134 (lG (tg:=[([],(da c Ae q pos ln G o3 o4 o5 Ba Bg))]) Cf [0,1,2,3,5] (C _ _ · f b)))))))) (jg (by decide:(0:Int)<=0/\ 0<((2:Nat):Int)) (bi 197 (jg eQ (gi (ce Nc [0,1] (jF c q pos ln o1 o3 o4 o5 Ba Bg) λG=>jg (Eq.refl (m8 c Ae q pos ln G o3 o4 o5 Ba Bg)) (gw 134 (lG (tg:=[([],(m8 c Ae q pos ln G o3 o4 o5 Ba Bg))]) Cf [0,1,2,3,5] (C _ _ · f b)))))) (gw 134 (lG Cf [0,1,2,3,5] (C _ _ · f b))))))
   ·replace h:=h.2 e J;revert r;apply gO;exact gi (jg (Eq.refl a.1) (jg (Eq.refl a.2.1) (jg (Eq.refl a.2.2) (jt (lN Cf [0,1,2,3,4,5,6,8,7,9] (C _ _ · f V n b d Nat.le.refl a))))))
def zBh (h:Rm n c q pos ln lost=some r):EQ 110 [.ref 0 0] [oW c q pos 1 ln,oI lost] (.bool r.1) [oW c q pos 1 ln,oI r.2] false:=by
 refine ot Tryz.func110 λB N=>?_
 revert r;apply gO;exact bi 32 (lE Cf [2] [0,1]) (gc (gw 41 (gi (lN Cf [0,1,2,3] ((zBl B N c q pos ln lost n) _ _ · n Nat.le.refl)))))
end
abbrev zJA:=@List.ext_getElem
abbrev zM9:=@Bool.not_eq_true
abbrev zNI:=@Option.isSome_some
section
variable {c:AD} {k:Nat} {pos lost:Ξ} {q:AA}
variable {l':Ξ}{i:Nat}
theorem CL.unique {D:Nat -> Ψ}{l:Ξ}(h:CL c pos lost i D l)(h':CL c pos lost i D l')(hi: ∀ j,CB (l.getD j 0))(K: ∀ j,CB (l'.getD j 0)):l=l':=by
 have e:l.length=l'.length:=h.1.trans h'.1.symm;refine zJA e λj a b=>?_
 have w:l.getD j 0=l[j]:=by simp [a]
 have z:l'.getD j 0=l'[j]:=by simp [b]
 rw [←w,←z];refine Kj (hi j) (K j) λs _=>?_
 rw [zIh,h.2,h'.2]
theorem om {l:Ξ}{x:Int}(h: ∀ j,CB (l.getD j 0))(hx:CB x): ∀ j,CB ((l.set i x).getD j 0):=by
 grind [getD_set_ne]
variable {cell ss:Int}{n ln:Nat}
def zE1 (h:D8 n cell ss c q pos ln lost=some l')(hi: ∀ j,CB (lost.getD j 0)): ∀ j,CB (l'.getD j 0):=by
 grind [D8,gh,om,GO]
def zD6 (h:Hc n cell c q pos ln lost=some l')(hi: ∀ j,CB (lost.getD j 0)): ∀ j,CB (l'.getD j 0):=by
 grind [Hc,gD,om,GO]
def Jc (c:AD):Prop:=c.runs.length<=256/\ ∀ j,j<c.runs.length -> c.runs.getD j 0<=256
structure Mq (c:AD)(d l:Int):Prop where
 d0:0<=d
 d1:d<=(c.runs.length:Int)
 l0:0<=l
 open' : 0 < l -> d < (c.runs.length : Int) /\ l <= c.runs.getD d.toNat 0
def nx (c:AD)(d l:Int)(inn:Bool):Option (Δ):= bif inn then (if d<(c.runs.length:Int)/\ l<c.runs.getD d.toNat 0 then some (d,l+1) else none) else (if l=0 then some (d,0) else if l=c.runs.getD d.toNat 0 then some (d+1,0) else none)
variable {inn:Bool}{d l:Int}
def zEF {t:Δ}(h:Mq c d l)(e:nx c d l inn=some t):Mq c t.1 t.2:=by
 obtain ⟨a,b,h3,A⟩:=h;unfold nx at e;cases inn
 ·rw [zGF] at e;split at e
  ·cases e;exact ⟨a,b,zGl _,λh=>absurd h (Int.lt_irrefl _)⟩
  ·split at e
   ·cases e;have:=A (by omega);exact ⟨by show 0<=d+1;omega,by show d+1<=_;omega,zGl _,λh=>absurd h (Int.lt_irrefl _)⟩
   ·cases e
 ·rw [zFR] at e;split at e
  ·rename_i f;cases e;exact ⟨a,b,by show 0<=l+1;omega,λ_=>⟨f.1,by grind⟩⟩
  ·cases e
def Z1 (R:Jc c)(h:Mq c d l): ∃ t,Vf n (d,l) inn c q pos ln lost=some (t,(nx c d l inn).isSome,lost)/\ ∀ u,nx c d l inn=some u -> t=u:=by
 obtain ⟨a,h2,h3,A⟩:=h;obtain ⟨hr,hv⟩:=R
 have hl:l<=256:=by
  grind
 unfold Vf ra nx;cases inn
 ·rw [zGF,zGF]
  by_cases h0:l=0
  ·simp_all
  ·obtain ⟨T,a2⟩:=A (by omega);have G:(l==0)=false:=by simpa using h0
   simp only [G,zGF,zGN h0];rw [zEZ ⟨Aj.2 ⟨by omega,by omega⟩,a,T⟩];refine ⟨(d+1,0),?_,λu b=>?_⟩
   ·grind
   grind
 ·rw [zFR,zFR,zEZ (Aj.2 ⟨by show _<=l+1;omega,by show l+1<=_;omega⟩)]
  by_cases f:d<(c.runs.length:Int)
  ·simp only [zEE f,zFR];rw [zEZ ⟨a,f⟩];refine ⟨(d,l+1),?_,λu b=>?_⟩
   ·grind
   grind
  simp_all [zFd]
def kd (c:AD)(pos:Ξ)(i:Nat)(inn:Bool):Bool:=bif inn then (bits .and .i64 (Ad c pos i) c.set != 0) else (bits .andNot .i64 (Ad c pos i) c.set != 0)
def aK (W:B7 c k pos)(hi:i<c.cells.length):Vq n (i:Int) inn c q pos pos.length lost=some (kd c pos i inn,lost):=by
 have l:=W.cells i hi;unfold Vq sR kd;simp only [zCg];cases inn
 ·rw [zGF,zEZ ⟨⟨by omega,by omega⟩,l⟩];rfl
 ·rw [zFR,zEZ ⟨⟨by omega,by omega⟩,l⟩];rfl
def Fv (c:AD)(pos:Ξ):Nat -> Δ -> Prop
 | 0,t=>t=(0,0)
 | i+1,t=>∃ s inn,Fv c pos i s/\ nx c s.1 s.2 inn=some t/\ kd c pos i inn=true
def Fv.ok (i:Nat): ∀ {t:Δ},Fv c pos i t -> Mq c t.1 t.2:=by
 induction i with
 | zero=>
  intro t h;obtain rfl:t=(0,0):=h;exact ⟨zGl _,by show (0:Int)<=_;omega,zGl _,λh=>absurd h (Int.lt_irrefl _)⟩
 | succ i U=>
  rintro t ⟨s,inn,a,b,_⟩;exact zEF (U a) b
def Xi (c:AD)(t:Δ):Prop:=t=((c.runs.length:Int),0)∨(0<c.runs.length/\ t=((c.runs.length:Int)-1,c.runs.getD (c.runs.length-1) 0))
def Jf (c:AD)(pos:Ξ):Nat -> Δ -> Prop
 | 0,t=>Xi c t
 | m+1,s=>Fv c pos (c.cells.length-1-m) s/\ ∃ t inn,nx c s.1 s.2 inn=some t/\ kd c pos (c.cells.length-1-m) inn=true/\ Jf c pos m t
def KV (c:AD)(pos:Ξ)(i:Nat)(inn:Bool):Prop:=∃ s t,Fv c pos i s/\ nx c s.1 s.2 inn=some t/\ kd c pos i inn=true/\ Jf c pos (c.cells.length-1-i) t
def Jq (c:AD)(pos:Ξ)(a s:Nat):Prop:=(¬ KV c pos a true/\ tb c.set s=true)∨(¬ KV c pos a false/\ tb c.set s=false)
def Em (c:AD)(pos:Ξ)(i:Nat)(o4:KS)(d l:Int)(inn:Bool):Bool:=match nx c d l inn with
 | some t=>kd c pos i inn&&o4.contains [t.1,t.2]
 | none=>false
variable {f g:Bool}{o4 F:KS}{a:List (Option KS)}{o1:Ξ}{V:Nat}
theorem zFW {e:KS}{j:Ξ}(W:B7 c k pos)(R:Jc c)(hi:i<c.cells.length)(h:Mq c d l):
 BV c q pos pos.length lost (n+1) (.l7 i 0 o1 a V o4 F f g d l e j)=BV c q pos pos.length lost n (.l7 i 1 o1 a V o4 (bif Em c pos i o4 d l false then Cm [d,l] F else F) (f||Em c pos i o4 d l false) g d l e j):=by
 obtain ⟨t,w,z⟩:=Z1 (n:=n) (ln:=pos.length) (pos:=pos) (lost:=o1) (q:=q) (inn:=false) R h;have b:([false,true]:Ω).getD (0+((0:Int)).toNat) false=false:=rfl;have r:AG ((0:Int)+1):=Aj.2 ⟨by decide,by decide⟩
 show Rj n (BV c q pos pos.length lost n) c q pos pos.length lost i 0 o1 a V o4 F f g d l e j=_
 unfold Rj Em;rw [zEE (by decide),zFR,zEZ ⟨⟨by decide,by decide⟩,by decide⟩,b,w,zEb];cases m:nx c d l false with
 | none=>grind
 | some u=>
  obtain rfl:=z u m;simp only [zNI,zFR];rw [aK W hi,zEb]
  grind
theorem zFV {e:KS}{j:Ξ}(W:B7 c k pos)(R:Jc c)(hi:i<c.cells.length)(h:Mq c d l):
 BV c q pos pos.length lost (n+1) (.l7 i 1 o1 a V o4 F f g d l e j)=BV c q pos pos.length lost n (.l7 i 2 o1 a V o4 (bif Em c pos i o4 d l true then Cm [d,l] F else F) f (g||Em c pos i o4 d l true) d l e j):=by
 obtain ⟨t,w,z⟩:=Z1 (n:=n) (ln:=pos.length) (pos:=pos) (lost:=o1) (q:=q) (inn:=true) R h;have b:([false,true]:Ω).getD (0+((1:Int)).toNat) false=true:=rfl;have r:AG ((1:Int)+1):=Aj.2 ⟨by decide,by decide⟩
 show Rj n (BV c q pos pos.length lost n) c q pos pos.length lost i 1 o1 a V o4 F f g d l e j=_
 unfold Rj Em;rw [zEE (by decide),zFR,zEZ ⟨⟨by decide,by decide⟩,by decide⟩,b,w,zEb];cases m:nx c d l true with
 | none=>grind
 | some u=>
  obtain rfl:=z u m;simp only [zNI,zFR];rw [aK W hi,zEb]
  grind
variable {e:Ξ}{t:List (Option KS)}
theorem zFU {r:KS}{b a:Bool}:
 BV c q pos pos.length lost (n+1) (.l7 i 2 o1 t V o4 F b a d l r e)=BV c q pos pos.length lost n (.l9 i o1 t V o4 F b a r e):=by
 simp_all [Rj,BV]
def GA (c:AD)(pos:Ξ)(i:Nat)(a:List (Option KS))(d l:Int)(inn:Bool):List (Option KS):=match nx c d l inn with
 | some t=>bif kd c pos i inn then a.set (i+1) (some (Cm [t.1,t.2] ((a.getD (i+1) none).getD []))) else a
 | none=>a
theorem zFa {f:Int}(W:B7 c k pos)(R:Jc c)(hi:i<c.cells.length)(h:Mq c d l)(g:i+1<a.length)(j:(a.getD (i+1) none).isSome=true):
 BV c q pos pos.length lost (n+1) (.l5 i f 0 o1 a i d l F e)=BV c q pos pos.length lost n (.l5 i f 1 o1 (GA c pos i a d l false) i d l F e):=by
 obtain ⟨t,w,z⟩:=Z1 (n:=n) (ln:=pos.length) (pos:=pos) (lost:=o1) (q:=q) (inn:=false) R h;have b:([false,true]:Ω).getD (0+((0:Int)).toNat) false=false:=rfl;have r:AG ((0:Int)+1):=Aj.2 ⟨by decide,by decide⟩;have Am:=W.len;have s:((((c.cells.length:Nat):Int)+1).toNat:Nat)=c.cells.length+1:=by omega
 have V:0+(((i:Int)+1).toNat:Nat)=i+1:=by omega
 show Rk n (BV c q pos pos.length lost n) c q pos pos.length lost i f 0 o1 a i d l F e=_
 unfold Rk GA;rw [zEE (by decide),zFR,zEZ ⟨⟨by decide,by decide⟩,by decide⟩,b,w,zEb];cases m:nx c d l false with
 | none=>grind
 | some u=>
  obtain rfl:=z u m;simp only [zNI,zFR];rw [aK W hi,zEb];cases hk:kd c pos i false
  ·simp only [zGF,zEZ r];rfl
  ·simp only [zFR,s,V];rw [zEZ ⟨Aj.2 ⟨by omega,by omega⟩,⟨by omega,by omega⟩,g,by omega,j,r⟩];rfl
theorem zFZ {f:Int}(W:B7 c k pos)(R:Jc c)(hi:i<c.cells.length)(h:Mq c d l)(g:i+1<a.length)(j:(a.getD (i+1) none).isSome=true):
 BV c q pos pos.length lost (n+1) (.l5 i f 1 o1 a i d l F e)=BV c q pos pos.length lost n (.l5 i f 2 o1 (GA c pos i a d l true) i d l F e):=by
 obtain ⟨t,w,z⟩:=Z1 (n:=n) (ln:=pos.length) (pos:=pos) (lost:=o1) (q:=q) (inn:=true) R h;have b:([false,true]:Ω).getD (0+((1:Int)).toNat) false=true:=rfl;have r:AG ((1:Int)+1):=Aj.2 ⟨by decide,by decide⟩;have Am:=W.len;have s:((((c.cells.length:Nat):Int)+1).toNat:Nat)=c.cells.length+1:=by omega
 have V:0+(((i:Int)+1).toNat:Nat)=i+1:=by omega
 show Rk n (BV c q pos pos.length lost n) c q pos pos.length lost i f 1 o1 a i d l F e=_
 unfold Rk GA;rw [zEE (by decide),zFR,zEZ ⟨⟨by decide,by decide⟩,by decide⟩,b,w,zEb];cases m:nx c d l true with
 | none=>grind
 | some u=>
  obtain rfl:=z u m;simp only [zNI,zFR];rw [aK W hi,zEb];cases hk:kd c pos i true
  ·simp only [zGF,zEZ r];rfl
  ·simp only [zFR,s,V];rw [zEZ ⟨Aj.2 ⟨by omega,by omega⟩,⟨by omega,by omega⟩,g,by omega,j,r⟩];rfl
variable {u:Int}
theorem zFY {W:Ξ}:
 BV c q pos pos.length lost (n+1) (.l5 i u 2 o1 t i d l F W)=BV c q pos pos.length lost n (.l8 i u o1 t i F W):=by
 simp_all [Rk,BV]
def Gn (t:List (Option KS))(j:Nat):KS:=(t.getD j none).getD []
def ZK :(GA c pos i t d l inn).length=t.length:=by
 unfold GA
 grind
variable {α:Type}
def uU {l:List α}{x y:α}(h:i<l.length):(l.set i x).getD i y=x:=by
 grind
variable {j:Nat}
theorem uV {l:List α}{x y:α}(h:i≠j):(l.set i x).getD j y=l.getD j y:=by
 grind
theorem qY (h:j≠i+1):(GA c pos i t d l inn).getD j none=t.getD j none:=by
 unfold GA
 grind
def fY (hl:i+1<t.length)(h:(t.getD j none).isSome=true):((GA c pos i t d l inn).getD j none).isSome=true:=by
 by_cases e:j=i+1
 ·subst e;unfold GA
  grind
 ·rw [qY e];exact h
theorem Z3 (m:i+1<a.length){x:Ξ}:x∈Gn (GA c pos i a d l inn) (i+1)↔x∈Gn a (i+1)∨∃ t,nx c d l inn=some t/\ kd c pos i inn=true/\ x= [t.1,t.2]:=by
 unfold GA;split
 ·rename_i t ht;cases hk:kd c pos i inn
  ·grind
  ·rw [zFR];unfold Gn;rw [uU m]
   show x∈Cm _ _↔_
   rw [PX]
   grind
 grind
structure Rows (c:AD)(pos:Ξ)(i:Nat)(o3:List (Option KS)):Prop where
 len:o3.length=c.cells.length+1
 isSome: ∀ j,j<=c.cells.length -> (o3.getD j none).isSome=true
 row: ∀ j,j<=i -> ∀ x,x∈Gn o3 j↔∃ t:Δ,x= [t.1,t.2]/\ Fv c pos j t
 rest: ∀ j,i<j -> j<=c.cells.length -> Gn o3 j= []
structure Qy (c:AD)(pos:Ξ)(i:Nat)(rem:KS)(o3:List (Option KS)):Prop where
 hi:i<c.cells.length
 len:o3.length=c.cells.length+1
 isSome: ∀ j,j<=c.cells.length -> (o3.getD j none).isSome=true
 row: ∀ j,j<=i -> ∀ x,x∈Gn o3 j↔∃ t:Δ,x= [t.1,t.2]/\ Fv c pos j t
 rest: ∀ j,i+1<j -> j<=c.cells.length -> Gn o3 j= []
 sub: ∀ x∈rem,∃ t:Δ,x= [t.1,t.2]/\ Fv c pos i t
 next: ∀ x∈Gn o3 (i+1),∃ t:Δ,x= [t.1,t.2]/\ Fv c pos (i+1) t
 cov: ∀ t,Fv c pos i t -> [t.1,t.2]∈rem∨∀ inn u,nx c t.1 t.2 inn=some u -> kd c pos i inn=true -> [u.1,u.2]∈Gn o3 (i+1)
def Rows.mid (h:Rows c pos i a)(hi:i<c.cells.length):Qy c pos i (Gn a i) a where
 hi:=hi
 len:=h.len
 isSome:=h.isSome
 row:=h.row
 rest:=λj hj m=>h.rest j (by omega) m
 sub:=λx e=>(h.row i (zGT _) x).1 e
 next:=λx e=>by rw [h.rest (i+1) (by omega) (by omega)] at e;cases e
 cov:=λt X=>.inl ((h.row i (zGT _) _).2 ⟨t,rfl,X⟩)
def Qy.rows (h:Qy c pos i [] a):Rows c pos (i+1) a where
 len:=h.len
 isSome:=h.isSome
 row:=λj d x=>by
  rcases zGW.1 (Nat.lt_succ_of_le d) with d | rfl
  ·exact h.row j (by omega) x
  ·refine ⟨h.next x,?_⟩;rintro ⟨t,rfl,s,inn,b,e,f⟩;rcases h.cov s b with h4 | h4
   ·cases h4
   ·exact h4 inn t e f
 rest:=h.rest
def qr {t u:Δ}(h:([t.1,t.2]:Ξ)= [u.1,u.2]):t=u:=by
 grind
variable {z:KS}
def Qy.go {t:Δ}(h:Qy c pos i z a)(X: [t.1,t.2]∈z):Qy c pos i (z.erase [t.1,t.2]) (GA c pos i (GA c pos i a t.1 t.2 false) t.1 t.2 true):=by
 have m:=h.len;have hi:=h.hi;have f:i+1<a.length:=by omega
 have k:i+1<(GA c pos i a t.1 t.2 false).length:=by rw [ZK];exact f
 have D: ∀ j,j≠i+1 -> Gn (GA c pos i (GA c pos i a t.1 t.2 false) t.1 t.2 true) j=Gn a j:=λj d=>by
  grind [Gn,qY]
 have hR:Fv c pos i t:=by
  obtain ⟨u,e,q⟩:=h.sub _ X;rw [qr e];exact q
 refine ⟨hi,by rw [ZK,ZK];exact m,λj d=>fY k (fY f (h.isSome j d)),λj d x=>?_,λj d T=>?_,λx b=>h.sub x (List.mem_of_mem_erase b),λx b=>?_,λs l=>?_⟩
 ·rw [D j (by omega)];exact h.row j d x
 ·rw [D j (by omega)];exact h.rest j d T
 ·rw [Z3 k,Z3 f] at b;rcases b with (b | ⟨u,w,g,rfl⟩) | ⟨u,w,g,rfl⟩
  ·exact h.next x b
  ·exact ⟨u,rfl,t,false,hR,w,g⟩
  ·exact ⟨u,rfl,t,true,hR,w,g⟩
 ·by_cases e:s=t
  ·simp_all [Z3]
  ·rcases h.cov s l with h3 | h3
   ·grind
   grind [Z3]
def Ig (c:AD)(pos lost:Ξ)(r:Bool×Ξ):Prop:=r.1=true/\ CL c pos lost c.cells.length (Jq c pos) r.2/\ ∀ j,CB (r.2.getD j 0)
theorem Ig.uniq (r U:Bool×Ξ)(h:Ig c pos lost r)(h':Ig c pos lost U):r=U:=by
 obtain ⟨b,l⟩:=r;obtain ⟨b',l'⟩:=U;obtain ⟨h1,h2,h3⟩:=h;obtain ⟨h4,h5,h6⟩:=h'
 grind [CL.unique]
def zEi (W:B7 c k pos)(R:Jc c)(j:u=(i:Int))(H: ∀ a,Rows c pos (i+1) a -> At (λn=>BV c q pos pos.length lost n (.l2 (u+1) o1 a)) (Ig c pos lost)):
 ∀ (m:Nat) (z:KS) (a:List (Option KS)) (f:Ξ),z.length=m -> Qy c pos i z a -> At (λn=>BV c q pos pos.length lost n (.l8 i u o1 a i z f)) (Ig c pos lost):=by
 intro m
 induction m with
 | zero=>
  intro z a f v Y;have:z= []:=zI3 v;subst this;have o:=Y.isSome i (by have:=Y.hi;omega);have r1:AG (u+1):=by rw [j];exact (W.r64 Y.hi).2
  refine At.step 1 (λn=>?_) (H a Y.rows)
  simp_all [eY,BV,rP]
 | succ m U=>
  intro z a f v Y;have o:=Y.isSome i (by have:=Y.hi;omega);have D:z≠[]:=by intro e;rw [e] at v;cases v
  refine At.step 1 (g:=λn=>I5 z (if AG (u+1) then BV c q pos pos.length lost n (.l2 (u+1) o1 a) else none) (λb=>BV c q pos pos.length lost n (.l5 i u 0 o1 a i (b.getD 0 0) (b.getD 1 0) (z.erase b) b))) (λn=>?_) (At.next D (λy hy=>?_) Ig.uniq)
  ·simp_all [eY,BV]
  ·obtain ⟨t,rfl,X⟩:=Y.sub y hy;have hS:=X.ok;have hl:=Y.len;have hi:=Y.hi;have h:i+1<a.length:=by omega
   have p:=Y.isSome (i+1) (by omega);have h2:i+1<(GA c pos i a t.1 t.2 false).length:=by rw [ZK];exact h
   have s2:=fY (c:=c) (pos:=pos) (d:=t.1) (l:=t.2) (inn:=false) h p;refine At.step 3 (λn=>?_) (U _ _ [t.1,t.2] (by rw [List.length_erase_of_mem hy];omega) (Y.go hy))
   grind [zFa,zFZ,zFY]
def Ty (c:AD)(pos:Ξ)(m:Nat)(o4:KS):Prop:=∀ x,x∈o4↔∃ t:Δ,x= [t.1,t.2]/\ Jf c pos m t
def Of (c:AD)(pos lost:Ξ)(m:Nat)(o1:Ξ):Prop:=CL c pos lost c.cells.length (λa s=>c.cells.length<=a+m/\ Jq c pos a s) o1/\ ∀ j,CB (o1.getD j 0)
structure Bk (c:AD)(pos:Ξ)(i m:Nat)(o5:KS)(b0 b1:Bool)(rem:KS):Prop where
 hi:i+m+1=c.cells.length
 sub: ∀ x∈rem,∃ t:Δ,x= [t.1,t.2]/\ Fv c pos i t
 o5s: ∀ x∈o5,∃ t:Δ,x= [t.1,t.2]/\ Jf c pos (m+1) t
 b0s:b0=true -> KV c pos i false
 b1s:b1=true -> KV c pos i true
 cov: ∀ t,Fv c pos i t -> [t.1,t.2]∈rem∨∀ inn u,nx c t.1 t.2 inn=some u -> kd c pos i inn=true -> Jf c pos m u -> [t.1,t.2]∈o5/\ (bif inn then b1 else b0)=true
variable {m:Nat}
theorem gE (h:Ty c pos m o4):Em c pos i o4 d l inn=true↔∃ u,nx c d l inn=some u/\ kd c pos i inn=true/\ Jf c pos m u:=by
 unfold Em;split
 ·rename_i t ht;rw [zEh,zMW,h]
  grind
 grind
variable {r:Bool}
def Bk.go {t:Δ}(C:Ty c pos m o4)(h:Bk c pos i m F f r z)(X: [t.1,t.2]∈z):
 Bk c pos i m (bif Em c pos i o4 t.1 t.2 true then Cm [t.1,t.2] (bif Em c pos i o4 t.1 t.2 false then Cm [t.1,t.2] F else F) else (bif Em c pos i o4 t.1 t.2 false then Cm [t.1,t.2] F else F)) (f||Em c pos i o4 t.1 t.2 false) (r||Em c pos i o4 t.1 t.2 true) (z.erase [t.1,t.2]):=by
 have hR:Fv c pos i t:=by
  obtain ⟨u,e,q⟩:=h.sub _ X;rw [qr e];exact q
 have y:c.cells.length-1-i=m:=by have:=h.hi;omega
 have em:c.cells.length-1-m=i:=by have:=h.hi;omega
 have K: ∀ inn,Em c pos i o4 t.1 t.2 inn=true -> KV c pos i inn:=λinn b=>by
  obtain ⟨u,h1,d,h3⟩:=(gE C).1 b;exact ⟨t,u,hR,h1,d,by rw [y];exact h3⟩
 have L: ∀ inn,Em c pos i o4 t.1 t.2 inn=true -> Jf c pos (m+1) t:=λinn b=>by
  grind [gE,Jf]
 have v: ∀ x,x∈(bif Em c pos i o4 t.1 t.2 true then Cm [t.1,t.2] (bif Em c pos i o4 t.1 t.2 false then Cm [t.1,t.2] F else F) else (bif Em c pos i o4 t.1 t.2 false then Cm [t.1,t.2] F else F))↔x∈F∨(x= [t.1,t.2]/\ (Em c pos i o4 t.1 t.2 true=true∨Em c pos i o4 t.1 t.2 false=true)):=λx=>by
  cases Em c pos i o4 t.1 t.2 true <;> cases Em c pos i o4 t.1 t.2 false <;> simp only [zFR,zGF,PX,zIp,or_false,and_false,or_true,true_or,and_true]
  ·exact Or.comm
  ·exact Or.comm
  grind
 refine ⟨h.hi,λx a=>h.sub x (List.mem_of_mem_erase a),λx a=>?_,λhb=>?_,λhb=>?_,λs j=>?_⟩
 ·rcases (v x).1 a with a | ⟨rfl,h1 | h1⟩
  ·exact h.o5s x a
  ·exact ⟨t,rfl,L _ h1⟩
  ·exact ⟨t,rfl,L _ h1⟩
 ·rcases Bool.or_eq_true_iff.1 hb with hb | hb
  ·exact h.b0s hb
  ·exact K _ hb
 ·rcases Bool.or_eq_true_iff.1 hb with hb | hb
  ·exact h.b1s hb
  ·exact K _ hb
 ·by_cases e:s=t
  ·subst e;refine .inr λinn u h1 d h3=>?_
   have b:Em c pos i o4 s.1 s.2 inn=true:=(gE C).2 ⟨u,h1,d,h3⟩
   grind
  ·rcases h.cov s j with h3 | h3
   ·grind
   grind
def Bk.end' {e:Bool}(h:Bk c pos i m F e r []):Ty c pos (m+1) F/\ (e=true↔KV c pos i false)/\ (r=true↔KV c pos i true):=by
 have y:c.cells.length-1-i=m:=by have:=h.hi;omega
 have em:c.cells.length-1-m=i:=by have:=h.hi;omega
 refine ⟨λx=>⟨h.o5s x,?_⟩,⟨h.b0s,?_⟩,⟨h.b1s,?_⟩⟩
 ·rintro ⟨t,rfl,a⟩;have a:Fv c pos (c.cells.length-1-m) t/\ ∃ u inn,nx c t.1 t.2 inn=some u/\ kd c pos (c.cells.length-1-m) inn=true/\ Jf c pos m u:=a;rw [em] at a;obtain ⟨a,u,inn,b,d,A⟩:=a;rcases h.cov t a with h5 | h5
  ·cases h5
  ·exact (h5 inn u b d A).1
 ·rintro ⟨s,t,a,b,d,A⟩;rw [y] at A;rcases h.cov s a with h5 | h5
  ·cases h5
  ·exact (h5 false t b d A).2
 ·rintro ⟨s,t,a,b,d,A⟩;rw [y] at A;rcases h.cov s a with h5 | h5
  ·cases h5
  ·exact (h5 true t b d A).2
def sF (h0:0<=cell)(a:cell<(pos.length:Int))(m:lost.length=pos.length)(hi: ∀ j,CB (lost.getD j 0)):
 ∃ l',(∀ n,D8 n cell ss c q pos pos.length lost=some l')/\ l'.length=pos.length/\ (∀ j,CB (l'.getD j 0))/\ ∀ j s,tb (l'.getD j 0) s=(tb (lost.getD j 0) s||(decide (j=cell.toNat)&&(tb (pos.getD j 0) s&&tb ss s))):=by
 obtain ⟨l',e,b,h⟩:=MF (n:=0) (ss:=ss) (c:=c) (q:=q) h0 a m;exact ⟨l',λ_=>e,b,zE1 e hi,h⟩
def gC (h0:0<=cell)(a:cell<(pos.length:Int))(m:lost.length=pos.length)(hi: ∀ j,CB (lost.getD j 0)):
 ∃ l',(∀ n,Hc n cell c q pos pos.length lost=some l')/\ l'.length=pos.length/\ (∀ j,CB (l'.getD j 0))/\ ∀ j s,tb (l'.getD j 0) s=(tb (lost.getD j 0) s||(decide (j=cell.toNat)&&(tb (pos.getD j 0) s&&!tb c.set s))):=by
 obtain ⟨l',e,b,h⟩:=gB (n:=0) (c:=c) (q:=q) h0 a m;exact ⟨l',λ_=>e,b,zD6 e hi,h⟩
def Of.go (h:Of c pos lost m o1)(hi:i+m+1=c.cells.length)(a:l'.length=pos.length)(D: ∀ j,CB (l'.getD j 0)) 
 (b: ∀ j s,tb (l'.getD j 0) s=true↔tb (o1.getD j 0) s=true∨((c.cells.getD i 0).toNat=j/\ tb (Ad c pos i) s=true/\ Jq c pos i s)):Of c pos lost (m+1) l':=by
 refine ⟨⟨a,λj s=>?_⟩,D⟩;rw [b,h.1.2]
 grind
variable {L:Int}
def zLU {f:List (Option KS)}(W:B7 c k pos)(R:Jc c)(A:L=(i:Int))(hR:Rows c pos c.cells.length f)(C:Ty c pos m o4)(l:Of c pos lost m o1) 
 (H: ∀ o1 F,Of c pos lost (m+1) o1 -> Ty c pos (m+1) F -> At (λn=>BV c q pos pos.length lost n (.l4 (L-1) o1 f F)) (Ig c pos lost)):
 ∀ (z:Nat) (a F:KS) (b d:Bool) (I:Ξ),a.length=z -> Bk c pos i m F b d a -> At (λn=>BV c q pos pos.length lost n (.l9 i o1 f i o4 F b d a I)) (Ig c pos lost):=by
 intro z
 induction z with
 | zero=>
  intro a F b d I v o;have:a= []:=zI3 v;subst this;obtain ⟨B,G,E⟩:=o.end';have hi:i<c.cells.length:=by have:=o.hi;omega
  have u:=hR.isSome i (by omega);have Am:=W.len;have r1:AG ((i:Int)-1):=Aj.2 ⟨by omega,by omega⟩;have p:=W.cells i hi;have g0:(0:Int)<=(i:Int)/\ (i:Int)<((c.cells.length:Nat):Int):=⟨by omega,by omega⟩;obtain ⟨S,f1,J,X,t1⟩:=sF (ss:=c.set) (c:=c) (q:=q) p.1 p.2 l.1.1 l.2;obtain ⟨K,f2,n2,i2,t2⟩:=gC (c:=c) (q:=q) p.1 p.2 J X;obtain ⟨M,f3,n3,i3,t3⟩:=gC (c:=c) (q:=q) p.1 p.2 l.1.1 l.2
  have N: ∀ n,BV c q pos pos.length lost (n+1) (.l9 i o1 f i o4 F b d [] I)=BV c q pos pos.length lost n (.l4 (i-1) (bif !d then (bif !b then K else S) else (bif !b then M else o1)) f F):=λn=>by
   show Uo n (BV c q pos pos.length lost n) c q pos pos.length lost i o1 f i o4 F b d [] I=_
   unfold Uo;rw [zEZ u,rP]
   grind
  refine At.step 1 N ?_
  have key: ∀ l':Ξ,l'.length=pos.length -> (∀ j,CB (l'.getD j 0)) -> (∀ j s,tb (l'.getD j 0) s=(tb (o1.getD j 0) s||(decide (j=(c.cells.getD i 0).toNat)&&(tb (pos.getD j 0) s&&((!d&&tb c.set s)||(!b&&!tb c.set s)))))) -> Of c pos lost (m+1) l':=by
   intro l' O P Q;refine l.go o.hi O P λj s=>?_
   rw [Q,zGq,zEh,zEh,zGM,zGq,zEh,zEh,zGr,zGr,zGr];unfold Jq;rw [←G,←E,zM9,zM9];constructor
   ·rintro (h | ⟨rfl,h⟩)
    ·exact .inl h
    ·exact .inr ⟨rfl,h⟩
   ·rintro (h | ⟨rfl,h⟩)
    ·exact .inl h
    ·exact .inr ⟨rfl,h⟩
  subst A;cases d <;> cases b <;> simp only [zIx,zIA,zFR,zGF]
  ·grind
  ·grind
  ·grind
  ·exact H o1 F (key o1 l.1.1 l.2 λj s=>by
    grind) B
 | succ z U=>
  intro a F b d I v o;have hi:i<c.cells.length:=by have:=o.hi;omega
  have u:=hR.isSome i (by omega);have D:a≠[]:=by intro e;rw [e] at v;cases v
  refine At.step 1 (g:=λn=>I5 a none (λw=>BV c q pos pos.length lost n (.l7 i 0 o1 f i o4 F b d (w.getD 0 0) (w.getD 1 0) (a.erase w) w))) (λn=>?_) (At.next D (λy hy=>?_) Ig.uniq)
  ·show Uo n (BV c q pos pos.length lost n) c q pos pos.length lost i o1 f i o4 F b d a I=_
   unfold Uo;rw [zEZ u];simp only [zEZ u];cases a with
   | nil=>exact absurd rfl D
   | cons x r=>rfl
  ·obtain ⟨t,rfl,T⟩:=o.sub y hy;have hS:=T.ok;refine At.step 3 (λn=>?_) (U _ _ _ _ [t.1,t.2] (by rw [List.length_erase_of_mem hy];omega) (o.go C hy))
   grind [zFW,zFV,zFU]
def zFX {D:KS}:BV c q pos ln lost n (.l6 L o1 t V o4 D)=BV c q pos ln lost n (.l9 L o1 t V o4 [] false false D []):=by cases n <;> rfl
def zFb {x8:Int}:BV c q pos ln lost n (.l3 x8 u o1 t V o4)=BV c q pos ln lost n (.l8 x8 u o1 t V o4 []):=by cases n <;> rfl
def wN (W:B7 c k pos)(R:Jc c)(hR:Rows c pos c.cells.length a):
 ∀ (i m:Nat) (L:Int) (o1:Ξ) (o4:KS),i+m=c.cells.length -> L=(i:Int)-1 -> Of c pos lost m o1 -> Ty c pos m o4 -> At (λn=>BV c q pos pos.length lost n (.l4 L o1 a o4)) (Ig c pos lost):=by
 intro i
 induction i with
 | zero=>
  intro m L o1 o4 v e b C;refine Ev.p (r:=(true,o1)) ⟨1,λn hn=>?_⟩ ⟨rfl,⟨b.1.1,λj s=>?_⟩,b.2⟩
  ·obtain ⟨n,rfl⟩: ∃ f,n=f+1:=⟨n-1,by omega⟩
   simp_all [Yp,BV]
  ·rw [b.1.2]
   grind
 | succ i U=>
  intro m L o1 o4 v e b C;have e:L=(i:Int):=by omega
  subst e;have d:=hR.isSome i (by omega);have Am:=hR.len;have l:((((c.cells.length:Nat):Int)+1).toNat:Nat)=c.cells.length+1:=by omega
  have V:0+((i:Int).toNat:Nat)=i:=by omega
  refine At.step 1 (g:=λn=>BV c q pos pos.length lost n (.l9 i o1 a i o4 [] false false (Gn a i) [])) (λn=>?_) (zLU W R rfl hR C b (λo1 F o u=>U (m+1) ((i:Int)-1) o1 F (by omega) rfl o u) _ (Gn a i) [] false false [] rfl ⟨by omega,λx e=>(hR.row i (by omega) x).1 e,λx e=>(by cases e),λh=>(by cases h),λh=>(by cases h),λt X=>.inl ((hR.row i (by omega) _).2 ⟨t,rfl,X⟩)⟩)
  show Yp n (BV c q pos pos.length lost n) c q pos pos.length lost (i:Int) o1 a o4=_
  unfold Yp;simp only [l,V];rw [zEE (by omega),zFR,zEZ d,zEZ ⟨⟨by omega,by omega⟩,by omega,d⟩];exact zFX
def zJU (W:B7 c k pos)(R:Jc c)(o:lost.length=pos.length)(D: ∀ j,CB (lost.getD j 0)):
 ∀ (m i:Nat) (u:Int) (b:List (Option KS)),i+m=c.cells.length -> u=(i:Int) -> Rows c pos i b -> At (λn=>BV c q pos pos.length lost n (.l2 u lost b)) (Ig c pos lost):=by
 intro m
 induction m with
 | zero=>
  intro i u b v e hR;have v:i=c.cells.length:=by omega
  subst v e;have N:=W.len;have hr:=R.1;have r1:AG ((c.cells.length:Int)-1):=Aj.2 ⟨by omega,by omega⟩;have r2:AG ((c.runs.length:Int)-1):=Aj.2 ⟨by omega,by omega⟩;have d:Of c pos lost 0 lost:=⟨⟨o,λj s=>⟨.inl,λh=>h.elim id λ⟨a,h1,_,_,p,_⟩=>absurd p (by omega)⟩⟩,D⟩
  by_cases h0:0<c.runs.length
  ·have f:(((c.runs.length:Nat):Int)-1).toNat=c.runs.length-1:=by omega
   refine At.step 1 (g:=λn=>BV c q pos pos.length lost n (.l4 ((c.cells.length:Int)-1) lost b (Cm [((c.runs.length:Int)-1),c.runs.getD (c.runs.length-1) 0] (Cm [(c.runs.length:Int),0] ([]:KS))))) (λn=>?_) (wN W R hR c.cells.length 0 _ _ _ (by omega) rfl d λx=>?_)
   ·show Rl n (BV c q pos pos.length lost n) c q pos pos.length lost (c.cells.length:Int) lost b=_
    unfold Rl
    grind
   ·rw [PX,PX];constructor
    ·rintro (rfl | rfl | h)
     ·exact ⟨((c.runs.length:Int)-1,c.runs.getD (c.runs.length-1) 0),rfl,.inr ⟨h0,rfl⟩⟩
     ·exact ⟨((c.runs.length:Int),0),rfl,.inl rfl⟩
     ·cases h
    ·rintro ⟨t,rfl,rfl | ⟨_,rfl⟩⟩
     ·exact .inr (.inl rfl)
     ·exact .inl rfl
  ·have h0':c.runs.length=0:=by omega
   refine At.step 1 (g:=λn=>BV c q pos pos.length lost n (.l4 ((c.cells.length:Int)-1) lost b (Cm [(c.runs.length:Int),0] ([]:KS)))) (λn=>?_) (wN W R hR c.cells.length 0 _ _ _ (by omega) rfl d λx=>?_)
   ·simp_all [Rl,BV]
   ·rw [PX];constructor
    ·rintro (rfl | h)
     ·exact ⟨((c.runs.length:Int),0),rfl,.inl rfl⟩
     ·cases h
    ·rintro ⟨t,rfl,rfl | ⟨h,rfl⟩⟩
     ·exact .inl rfl
     ·exact absurd h h0
 | succ m U=>
  intro i u b v e hR;subst e;have hi:i<c.cells.length:=by omega
  have l:=hR.isSome i (by omega);have N:=hR.len;have f:((((c.cells.length:Nat):Int)+1).toNat:Nat)=c.cells.length+1:=by omega
  have V:0+((i:Int).toNat:Nat)=i:=by omega
  refine At.step 1 (g:=λn=>BV c q pos pos.length lost n (.l8 i i lost b i (Gn b i) [])) (λn=>?_) (zEi W R rfl (λb h=>U (i+1) _ b (by omega) (by omega) h) _ _ _ _ rfl (hR.mid hi))
  show Rl n (BV c q pos pos.length lost n) c q pos pos.length lost (i:Int) lost b=_
  unfold Rl;simp only [f,V];rw [zEE (by omega),zFR,zEZ l,zEZ ⟨⟨by omega,by omega⟩,by omega,l⟩];exact zFb
def zJp (W:B7 c k pos)(R:Jc c)(f:lost.length=pos.length)(D: ∀ j,CB (lost.getD j 0)):
 ∀ (m j:Nat) (P:Int) (a:List (Option KS)),j+m=c.cells.length+1 -> P=(j:Int) -> a.length=c.cells.length+1 -> (∀ i,i<j -> a.getD i none=some []) -> At (λn=>BV c q pos pos.length lost n (.l1 P a)) (Ig c pos lost):=by
 intro m
 induction m with
 | zero=>
  intro j P a v b N d;subst b;have s:((((c.cells.length:Nat):Int)+1).toNat:Nat)=c.cells.length+1:=by omega
  have hs:(a.getD 0 none).isSome=true:=by rw [d 0 (by omega)];rfl
  have e0:(a.getD 0 none).getD []= []:=by rw [d 0 (by omega)];rfl
  have hg: ∀ i,i≠0 -> (a.set 0 (some (Cm [0,0] ([]:KS)))).getD i none=a.getD i none:=λi hi=>uV (λe=>hi e.symm)
  have K:(a.set 0 (some (Cm [0,0] ([]:KS)))).getD 0 none=some (Cm [0,0] []):=uU (by omega);refine At.step 1 (g:=λn=>BV c q pos pos.length lost n (.l2 0 lost (a.set 0 (some (Cm [0,0] ([]:KS)))))) (λn=>?_) (zJU W R f D c.cells.length 0 0 _ (by omega) rfl ⟨by rw [zGZ];exact N,λi hi=>?_,λi hi x=>?_,λi hi J9=>?_⟩)
  ·simp_all [Yq,BV]
  ·grind
  ·obtain rfl:i=0:=by omega
   show x∈((a.set 0 (some (Cm [0,0] ([]:KS)))).getD 0 none).getD []↔_
   rw [K]
   show x∈Cm [0,0] []↔_
   rw [PX];constructor
   ·rintro (rfl | h)
    ·exact ⟨(0,0),rfl,rfl⟩
    ·cases h
   ·rintro ⟨t,rfl,h⟩;have h:t=(0,0):=h;subst h;exact .inl rfl
  ·show ((a.set 0 (some (Cm [0,0] ([]:KS)))).getD i none).getD []= []
   grind
 | succ m U=>
  intro j P a v b N d;subst b;have zH8:=W.len;have s:((((c.cells.length:Nat):Int)+1).toNat:Nat)=c.cells.length+1:=by omega
  have V:0+((j:Int).toNat:Nat)=j:=by omega
  refine At.step 1 (g:=λn=>BV c q pos pos.length lost n (.l1 ((j:Int)+1) (a.set j (some ([]:KS))))) (λn=>?_) (U (j+1) _ _ (by omega) (by omega) (by rw [zGZ];exact N) λi hi=>?_)
  ·show Yq n (BV c q pos pos.length lost n) c q pos pos.length lost (j:Int) a=_
   unfold Yq;simp only [s,V];rw [zEE (by omega),zFR,zEZ ⟨⟨by omega,by omega⟩,by omega,Aj.2 ⟨by omega,by omega⟩⟩]
  grind [uV]
def Kp (c:AD):Bool:=(c.cells.length != 0)||(c.runs.length==0)
def zBg (W:B7 c k pos)(R:Jc c)(m:lost.length=pos.length)(D: ∀ j,CB (lost.getD j 0)):
 ∃ l,Ev (λn=>Rm n c q pos pos.length lost) (Kp c,l)/\ (Kp c=true -> CL c pos lost c.cells.length (Jq c pos) l):=by
 by_cases h0:c.cells.length=0
 ·have w:Kp c=((c.runs.length:Int)==0):=by
   grind [Kp]
  refine ⟨lost,Ev.now λn=>?_,λ_=>by rw [h0];exact CL.zero m⟩
  grind [Rm,eZ]
 ·have w:Kp c=true:=by
   grind [Kp]
  have Am:=W.len;have s:((((c.cells.length:Nat):Int)+1).toNat:Nat)=c.cells.length+1:=by omega
  obtain ⟨r,a,d⟩:=(zJp (q:=q) W R m D (c.cells.length+1) 0 0 (List.replicate (c.cells.length+1) none) (by omega) rfl (by simp) (λi hi=>absurd hi (zGR i))).ev Ig.uniq;obtain ⟨b,l⟩:=r;obtain ⟨h,A,h5⟩:=a;have h:b=true:=h;subst h;refine ⟨l,?_,λ_=>A⟩;rw [w];refine d.eq λn=>?_
  unfold Rm eZ;rw [s]
  have z:(((c.cells.length:Nat):Int)==0)=false:=by
   rw [zH4];omega
  rw [z,zGF,zEZ ⟨Aj.2 ⟨by omega,by omega⟩,rfl,by omega,by omega⟩]
end
abbrev zIM:=@List.countP_eq_length_filter
abbrev zNa:=@List.take_length
section
variable {c:AD} {k:Nat} {pos lost:Ξ} {q:AA}
structure FT (c:AD)(q:AA)(pos:Ξ):Prop where
 len:c.cells.length=pos.length
 id: ∀ j,j<pos.length -> c.cells.getD j 0=(j:Int)
 g:H9 q.nbrs
 gl:q.nbrs.length=pos.length
 l0:0<pos.length
 l1:pos.length<=256
 nz: ∀ j,j<pos.length -> CB (pos.getD j 0)/\ pos.getD j 0≠0
def pB (c:AD)(pos:Ξ):Ω:=pos.map λx=>bits .and .i64 x c.set != 0
def cB (c:AD)(pos:Ξ):Ω:=pos.map λx=>bits .andNot .i64 x c.set==0
theorem GC:(pB c pos).length=pos.length:=zGX _
theorem HD:(cB c pos).length=pos.length:=zGX _
variable {j:Nat}
def VY (hj:j<pos.length):(pB c pos).getD j false=(bits .and .i64 (pos.getD j 0) c.set != 0):=by
 grind [pB]
def XN (hj:j<pos.length):(cB c pos).getD j false=(bits .andNot .i64 (pos.getD j 0) c.set==0):=by
 grind [cB]
def FT.cp (W:FT c q pos)(d:j<pos.length)(h:(cB c pos).getD j false=true):(pB c pos).getD j false=true:=by
 rw [XN d,zGk] at h;rw [VY d,zJQ];obtain ⟨f,g⟩:=W.nz j d;obtain ⟨s,a,b⟩:=(Ex f).1 g;have e:=(M6 (GO .andNot _ _)).1 h s a;rw [Lo,b,zIy,Bool.not_eq_false'] at e;exact (Ex (GO .and _ _)).2 ⟨s,a,by rw [Iq,b,e];rfl⟩
def Cx (pos lost:Ξ)(D:Nat -> Ψ)(l:Ξ):Prop:= (l.length=pos.length/\ ∀ j,CB (l.getD j 0))/\ ∀ j s,tb (l.getD j 0) s=true↔tb (lost.getD j 0) s=true∨(j<pos.length/\ tb (pos.getD j 0) s=true/\ D j s)
variable {l l':Ξ}{D:Nat -> Ψ}
theorem Cx.unique (h:Cx pos lost D l)(h':Cx pos lost D l'):l=l':=by
 have e:l.length=l'.length:=h.1.1.trans h'.1.1.symm;refine zJA e λj a b=>?_
 have w:l.getD j 0=l[j]:=by simp [a]
 have z:l'.getD j 0=l'[j]:=by simp [b]
 rw [←w,←z];refine Kj (h.1.2 j) (h'.1.2 j) λs _=>?_
 rw [zIh,h.2,h'.2]
def Cx.by (W:FT c q pos)(h:Cx pos lost D l):CL c pos lost c.cells.length D l:=by
 refine ⟨h.1.1,λj s=>?_⟩;have hl:=W.len;rw [h.2];constructor
 ·rintro (b | ⟨b,f,d⟩)
  ·exact .inl b
  ·have e:=W.id j b;exact .inr ⟨j,by omega,by rw [e];omega,by show tb (pos.getD (c.cells.getD j 0).toNat 0) s=true;rw [e,zCg];exact f,d⟩
 ·rintro (b | ⟨a,b,f,d,h4⟩)
  ·exact .inl b
  ·have e:=W.id a (by omega);have d:tb (pos.getD (c.cells.getD a 0).toNat 0) s=true:=d
   grind
variable {D':Nat -> Ψ}
def Cx.step (h:Cx pos lost D l)(m:l'.length=pos.length)(a: ∀ j,CB (l'.getD j 0)){E:Nat -> Ψ}(b: ∀ j s,tb (l'.getD j 0) s=true↔tb (l.getD j 0) s=true∨(j<pos.length/\ tb (pos.getD j 0) s=true/\ E j s)) 
 (hD: ∀ j s,j<pos.length -> tb (pos.getD j 0) s=true -> (D' j s↔D j s∨E j s)):Cx pos lost D' l':=by
 refine ⟨⟨m,a⟩,λj s=>?_⟩;rw [b,h.2]
 grind
def Cx.id' (h:Cx pos lost D l)(U: ∀ j s,j<pos.length -> tb (pos.getD j 0) s=true -> (D' j s↔D j s)):Cx pos lost D' l:=
 h.step (E:=λ_ _=>False) h.1.1 h.1.2 (λj s=>by simp) λj s a b=>by rw [U j s a b,or_false]
variable {cell:Int}
def Cx.lose (h:Cx pos lost D l){ss:Int}(h0:0<=cell)(a:cell<(pos.length:Int))(U: ∀ j s,j<pos.length -> tb (pos.getD j 0) s=true -> (D' j s↔D j s∨((j:Int)=cell/\ tb ss s=true))):
 ∃ l',(∀ n,D8 n cell ss c q pos pos.length l=some l')/\ Cx pos lost D' l':=by
 obtain ⟨l',e,b,d,h4⟩:=sF (ss:=ss) (c:=c) (q:=q) h0 a h.1.1 h.1.2;refine ⟨l',e,h.step b d (E:=λj s=>(j:Int)=cell/\ tb ss s=true) (λj s=>?_) U⟩
 grind
def Cx.only (h:Cx pos lost D l)(h0:0<=cell)(a:cell<(pos.length:Int))(U: ∀ j s,j<pos.length -> tb (pos.getD j 0) s=true -> (D' j s↔D j s∨((j:Int)=cell/\ tb c.set s=false))):
 ∃ l',(∀ n,Hc n cell c q pos pos.length l=some l')/\ Cx pos lost D' l':=by
 obtain ⟨l',e,b,d,h4⟩:=gC (c:=c) (q:=q) h0 a h.1.1 h.1.2;refine ⟨l',e,h.step b d (E:=λj s=>(j:Int)=cell/\ tb c.set s=false) (λj s=>?_) U⟩
 grind
def HI (l:Ω)(r:Int):Prop:=(r= -1/\ ∀ j,j<l.length -> l.getD j false=false)∨(0<=r/\ r<(l.length:Int)/\ l.getD r.toNat false=true/\ ∀ j:Nat,(j:Int)<r -> l.getD j false=false)
def Vu {l:Ω}(hl:l.length<=256): ∃ r,Ev (λn=>ae n l true) r/\ HI l r:=by
 have key: ∀ (k i:Nat),i+k=l.length -> (∀ j,j<i -> l.getD j false=false) -> ∃ r,Ev (λn=>Nq l true n (.l1 (i:Int))) r/\ HI l r:=by
  intro k
  induction k with
  | zero=>
   intro i e h;refine ⟨-1,⟨1,λn u=>?_⟩,.inl ⟨rfl,λj d=>h j (by omega)⟩⟩;obtain ⟨n,rfl⟩: ∃ k,n=k+1:=⟨n-1,by omega⟩
   simp_all [ab,Nq]
  | succ k a=>
   intro i e h
   have U: ∀ n,Nq l true (n+1) (.l1 (i:Int))=bif l.getD i false then some (i:Int) else Nq l true n (.l1 ((i:Int)+1)):=λn=>by
    show ab n (Nq l true n) l true (i:Int)=_
    unfold ab;rw [zEE (by omega),zFR,zEZ ⟨by omega,by omega⟩,zCg,zEZ (Aj.2 ⟨by omega,by omega⟩)];cases l.getD i false <;> rfl
   cases hi:l.getD i false
   ·obtain ⟨r,b,c⟩:=a (i+1) (by omega) λj d=>by
     grind
    refine ⟨r,Ev.step 1 (λn=>?_) b,c⟩;rw [U,hi,zGF];rfl
   ·refine ⟨(i:Int),⟨1,λn u=>?_⟩,.inr ⟨by omega,by omega,by rw [zCg];exact hi,λj d=>h j (by omega)⟩⟩;obtain ⟨n,rfl⟩: ∃ k,n=k+1:=⟨n-1,by omega⟩
    grind
 exact key l.length 0 (by omega) λj d=>absurd d (zGR j)
def kY {l l':Ω}(h:l.length=l'.length)(h2: ∀ j,j<l.length -> l.getD j false=l'.getD j false):l=l':=by
 grind [List.ext_getElem]
def Ql {l:Ω}{i:Nat}{b:Bool}(hi:i<l.length):(l.set i b).getD j false=if j=i then b else l.getD j false:=by
 grind
def Fr (c:AD)(q:AA)(pos:Ξ)(a s:Nat):Prop:=(pB c pos).getD a false=true/\ tb c.set s=true/\ ∃ r:Int,0<=r/\ HI (cB c pos) r/\ ¬ Rc q.nbrs (pB c pos) r a
variable {r:Int}
theorem HI.uniq {l:Ω}{U:Int}(h:HI l r)(h':HI l U):r=U:=by
 rcases h with ⟨rfl,h⟩ | ⟨h0,h1,h2,h3⟩ <;> rcases h' with ⟨rfl,h'⟩ | ⟨h0',S7,h2',h3'⟩
 ·rfl
 ·grind
 ·grind
 grind
def mW (G:H9 q.nbrs)(hB:(pB c pos).length=q.nbrs.length)(d:0<=r)(Q:HI (cB c pos) r){s:Nat}:Fr c q pos j s↔(pB c pos).getD j false=true/\ tb c.set s=true/\ ¬ Rc q.nbrs (pB c pos) r j:=by
 constructor
 ·rintro ⟨a,b,r',_,M,h⟩;rw [Q.uniq M];exact ⟨a,b,h⟩
 ·rintro ⟨a,b,h⟩;exact ⟨a,b,r,d,Q,h⟩
def Tv (c:AD)(q:AA)(pos lost:Ξ)(r:Int)(x:Ω×Ω×Bool×Ξ):Prop:=x.1=pB c pos/\ x.2.1=cB c pos/\ x.2.2.1=decide (0<=r)/\ Cx pos lost (Fr c q pos) x.2.2.2
theorem Tv.uniq (x y:Ω×Ω×Bool×Ξ)(h:Tv c q pos lost r x)(h':Tv c q pos lost r y):x=y:=by
 obtain ⟨x1,x2,x3,K⟩:=x;obtain ⟨y1,y2,y3,a⟩:=y;obtain ⟨h1,h2,h3,A⟩:=h;obtain ⟨S7,h2',h3',B⟩:=h';have e4:K=a:=A.unique B
 grind
def zEM {n:Nat}(W:FT c q pos)(A:Cx pos lost (λ_ _=>False) lost)(k:0<=r)(Q:HI (cB c pos) r){near:Ξ}(hn:near.length<=256)(m: ∀ v,v∈near↔Rc q.nbrs (pB c pos) r v)(JM:600<=n):
 ∃ x,FZ c q pos pos.length lost n (.l2 (pB c pos) (pB c pos).length near (near.length:Int) 0 (cB c pos) (pB c pos))=some x/\ Tv c q pos lost r x:=by
 have Hi:=W.l1;have o:=W.gl
 have B:r<(q.nbrs.length:Int):=by
  rcases Q with ⟨h,_⟩ | ⟨_,h,_⟩
  ·omega
  ·rw [HD] at h;omega
 have C: ∀ v∈near,0<=v/\ v<(pos.length:Int):=λv D=>by
  have:=((m v).1 D).rng W.g.gr k B;omega
 have S:=IU (λn (a:Ω) i=>FZ c q pos pos.length lost n (.l2 (pB c pos) (pB c pos).length near (near.length:Int) i (cB c pos) a)) near.length (pos.length+3)
  (λi a=>a.length=pos.length/\ ∀ j:Nat,a.getD j false=true↔(pB c pos).getD j false=true/\ (j:Int)∉near.take i) (λn i a E hi u=>?_) (n:=n) (s:=pB c pos) (by omega) ⟨GC,λj=>by simp⟩
 ·obtain ⟨p,a,Hh,_,F,je,M⟩:=S;obtain ⟨f,rfl⟩: ∃ f,p=f+1:=⟨p-1,by omega⟩;rw [zNa] at M
  have T:=IU (λn (o1:Ξ) i=>FZ c q pos pos.length lost n (.l3 (pB c pos) (pB c pos).length ((pB c pos).length:Int) i o1 (cB c pos) a)) pos.length 1
   (λi o1=>Cx pos lost (λj s=>j<i/\ Fr c q pos j s) o1) (λn i o1 E hi u=>?_) (n:=f) (s:=lost) (by omega) (A.id' λj s _ _=>⟨λh=>absurd h.1 (zGR j),λh=>h.elim⟩)
  ·obtain ⟨t,o1,N6,_,G,H⟩:=T;obtain ⟨w,rfl⟩: ∃ w,t=w+1:=⟨t-1,by omega⟩;refine ⟨(pB c pos,cB c pos,true,o1),?_,rfl,rfl,(zEE k).symm,H.id' λj s l _=>⟨λh=>⟨l,h⟩,λh=>h.2⟩⟩;refine Eq.trans F ?_
   show Vd f (FZ c q pos pos.length lost f) c q pos pos.length lost (pB c pos) (pB c pos).length near (near.length:Int) (near.length:Int) (cB c pos) a=_
   unfold Vd;rw [zFd (by omega),zGF];refine Eq.trans G ?_
   simp_all [Zz,FZ,cB,GC]
  ·show ∃ I,Zz n (FZ c q pos pos.length lost n) c q pos pos.length lost (pB c pos) (pB c pos).length ((pB c pos).length:Int) (i:Int) o1 (cB c pos) a=_/\ _
   unfold Zz;simp only [zCg,zGw];have J:AG ((i:Int)+1):=Aj.2 ⟨by omega,by omega⟩;rw [GC,zEE (by omega),zFR,zEZ ⟨⟨by omega,by omega⟩,by omega⟩];have N:a.getD i false=true↔(pB c pos).getD i false=true/\ ¬ Rc q.nbrs (pB c pos) r i:=by rw [M,m]
   cases y:a.getD i false
   ·rw [zGF,zEZ J];refine ⟨o1,rfl,u.id' λj s l _=>⟨λh=>⟨?_,h.2⟩,λh=>⟨by omega,h.2⟩⟩⟩;rcases zGW.1 h.1 with d | rfl
    ·exact d
    ·have b:=(mW W.g (by rw [GC];exact o.symm) k Q).1 h.2
     grind
   ·obtain ⟨l',e,b⟩:=u.lose (c:=c) (q:=q) (D':=λj s=>j<i+1/\ Fr c q pos j s) (cell:=(i:Int)) (ss:=c.set) (by omega) (by omega) λj s l _=>by
     constructor
     ·rintro ⟨d,b⟩;rcases zGW.1 d with d | rfl
      ·exact .inl ⟨d,b⟩
      ·exact .inr ⟨rfl,b.2.1⟩
     ·rintro (⟨d,b⟩ | ⟨d,b⟩)
      ·exact ⟨by omega,b⟩
      ·obtain rfl:j=i:=by omega
       have z:=N.1 y;exact ⟨by omega,(mW W.g (by rw [GC];exact o.symm) k Q).2 ⟨z.1,b,z.2⟩⟩
    grind
 ·obtain ⟨K,y⟩:=u;have L:near.getD i 0∈near:=by grind
  have O:=C _ L
  show ∃ I,Vd n (FZ c q pos pos.length lost n) c q pos pos.length lost (pB c pos) (pB c pos).length near (near.length:Int) (i:Int) (cB c pos) a=_/\ _
  unfold Vd;simp only [zCg,zGw];rw [GC,zEE (by omega),zFR,zEZ ⟨⟨by omega,by omega⟩,O,by omega,Aj.2 ⟨by omega,by omega⟩⟩];refine ⟨_,rfl,by rw [zGZ];exact K,λj=>?_⟩
  have P:near.take (i+1)=near.take i++[near.getD i 0]:=by
   simp_all
  rw [Ql (by omega),P,zIF,zGh]
  grind
def rV (W:FT c q pos)(o:Cx pos lost (λ_ _=>False) lost)(Q:HI (cB c pos) r):
 ∃ l,Ev (λn=>PS n c q pos pos.length lost) (pB c pos,cB c pos,decide (0<=r),l)/\ Cx pos lost (Fr c q pos) l:=by
 have B:=W.l1;have C:=W.gl;have Am:=W.len;have L:(1000000000000:Nat)=Ay:=rfl
 suffices H:At (λn=>PS n c q pos pos.length lost) (Tv c q pos lost r) by
  obtain ⟨x,a,d⟩:=H.ev Tv.uniq;obtain ⟨x1,x2,x3,x4⟩:=x;obtain ⟨f,A,h5,h6⟩:=a
  grind
 have first: ∀ n,FZ c q pos pos.length lost (n+c.cells.length) (.l1 0 (List.replicate pos.length false) (List.replicate pos.length false))=FZ c q pos pos.length lost n (.l1 (c.cells.length:Int) (pB c pos) (cB c pos)):=λn=>by
  have z: ∀ j:Nat,(List.replicate pos.length false).getD j false=false:=λj=>by
   grind
  obtain ⟨u,e,a,d,f,A⟩:=Z9 (λn (s:Ω×Ω) i=>FZ c q pos pos.length lost n (.l1 i s.1 s.2)) c.cells.length 0
   (λi s=>s.1.length=pos.length/\ s.2.length=pos.length/\ (∀ j,s.1.getD j false=if j<i then (pB c pos).getD j false else false)/\ (∀ j,s.2.getD j false=if j<i then (cB c pos).getD j false else false))
   (λn i s _ hi D=>by
    obtain ⟨F,t⟩:=s;obtain ⟨a,d,f,A⟩:=D;have a:F.length=pos.length:=a;have d:t.length=pos.length:=d;have hid:=W.id i (by omega)
    show ∃ u,Z0 n (FZ c q pos pos.length lost n) c q pos pos.length lost (i:Int) F t=_/\ _
    unfold Z0;simp only [zCg,zGw,hid];rw [zEE (by omega),zFR,zEZ ⟨⟨by omega,by omega⟩,⟨by omega,by omega⟩,by omega,by omega,Aj.2 ⟨by omega,by omega⟩⟩];refine ⟨(_,_),rfl,by rw [zGZ];exact a,by rw [zGZ];exact d,λj=>?_,λj=>?_⟩
    ·show (F.set i _).getD j false=_
     rw [Ql (by omega)]
     by_cases e:j=i
     ·subst e;rw [zEZ rfl,zEZ (by omega),VY (by omega)]
     grind
    ·show (t.set i _).getD j false=_
     rw [Ql (by omega)]
     by_cases e:j=i
     ·subst e;rw [zEZ rfl,zEZ (by omega),XN (by omega)]
     grind)
   c.cells.length 0 n (List.replicate pos.length false,List.replicate pos.length false) (by omega) (by omega) ⟨zH0,zH0,λj=>by rw [zGN (by omega)];exact z j,λj=>by rw [zGN (by omega)];exact z j⟩
  obtain ⟨F,t⟩:=u;have a:F.length=pos.length:=a;have d:t.length=pos.length:=d
  have E:F=pB c pos:=kY (by rw [a,GC]) λj I=>by
   grind
  have P:t=cB c pos:=kY (by rw [d,HD]) λj I=>by
   grind
  rw [←E,←P];exact e
 have start: ∀ n,PS n c q pos pos.length lost=FZ c q pos pos.length lost n (.l1 0 (List.replicate pos.length false) (List.replicate pos.length false)):=λn=>by
  unfold PS rX
  grind
 refine At.eq (At.step (c.cells.length+1) (g:=λn=>(ae n (cB c pos) true).bind λv=>bif (decide (v<0)) then (if pos.length=(pB c pos).length then some (pB c pos,cB c pos,false,lost) else none) else (if pos.length=(pB c pos).length then (Qg n (pB c pos)).bind λG=>(TY n q.nbrs (pB c pos) v).bind λy3=>FZ c q pos pos.length lost n (.l2 (pB c pos) G.length y3.1 (y3.1.length:Int) 0 (cB c pos) G) else none)) (λn=>?_) ?_) start
 ·rw [show n+(c.cells.length+1)=n+1+c.cells.length by omega,first]
  simp_all [Z0,FZ,cB]
 ·obtain ⟨U,a,d⟩:=Vu (l:=cB c pos) (by rw [HD];exact B);obtain rfl:=Q.uniq d;refine At.bind a ?_
  by_cases k:0<=r
  ·have T: ∀ n,Qg n (pB c pos)=some (pB c pos):=λn=>by
    have h0:=W.l0;have f:=GC (c:=c) (pos:=pos);unfold Qg k7
    grind
   obtain ⟨V5,w⟩:r<(pos.length:Int)/\ (cB c pos).getD r.toNat false=true:=by
    rcases Q with ⟨h,_⟩ | ⟨_,h,h',_⟩
    ·omega
    ·rw [HD] at h;exact ⟨h,h'⟩
   have m:=W.cp (by omega) w;refine At.eq (At.bindU (zK1 W.g (by rw [GC];exact C.symm) k (by omega) m) (b:=λn y3=>FZ c q pos pos.length lost n (.l2 (pB c pos) (pB c pos).length y3.1 (y3.1.length:Int) 0 (cB c pos) (pB c pos))) ⟨600,λn J x y=>zEM W o k Q y.2.1 y.2.2 J⟩) λn=>?_
   rw [zFd (by omega),zGF,zEZ GC.symm,T,zEb]
  ·refine Ev.p (r:=(pB c pos,cB c pos,false,lost)) (Ev.now λn=>?_) ⟨rfl,rfl,(zFd k).symm,o.id' λj s _ _=>⟨λh=>?_,λh=>h.elim⟩⟩
   ·rw [zEE (by omega),zFR,zEZ GC.symm]
   ·obtain ⟨_,_,U,f,A,_⟩:=h;rw [Q.uniq A] at k;exact k f
def Ic (c:AD)(q:AA)(pos:Ξ)(a s:Nat):Prop:=Fr c q pos a s∨((pB c pos).getD a false=true/\ (cB c pos).getD a false=false/\ Sp q.nbrs (pB c pos) (cB c pos) (a:Int)/\ tb c.set s=false)
theorem zKp (W:FT c q pos)(L:Cx pos lost (λ_ _=>False) lost): ∃ l,Ev (λn=>cL n c q pos pos.length lost) (true,l)/\ Cx pos lost (Ic c q pos) l:=by
 have M:=W.l1;have I:=W.gl;obtain ⟨r,_,Q⟩:=Vu (l:=cB c pos) (by rw [HD];exact M);obtain ⟨l0,O,P⟩:=rV W L Q
 suffices H:At (λn=>OT c q pos pos.length lost n (.l1 (pB c pos) (cB c pos) (decide (0<=r)) ((pB c pos).length:Int) 0 l0)) (λx=>x.1=true/\ Cx pos lost (Ic c q pos) x.2) by
  obtain ⟨x,⟨d,m⟩,z⟩:=(At.bind O (b:=λn k=>OT c q pos pos.length lost n (.l1 k.1 k.2.1 k.2.2.1 (k.1.length:Int) 0 k.2.2.2)) H).ev λx y f hy=>by
   obtain ⟨B,C⟩:=x;obtain ⟨k,R⟩:=y;have w:B=true:=f.1;have D:k=true:=hy.1;have S:C=R:=f.2.unique hy.2;rw [w,D,S]
  obtain ⟨B,C⟩:=x;have d:B=true:=d;subst d;exact ⟨C,z,m⟩
 obtain ⟨N,X⟩:=At.range (F:=λ(i:Nat) n=>if (pB c pos).getD i false=true then Oy n q.nbrs (pB c pos) (cB c pos) i else some (false,0)) (A:=λi x=>(pB c pos).getD i false=true -> x.2=0/\ (x.1=true↔Sp q.nbrs (pB c pos) (cB c pos) i)) pos.length λi hi=>by
  by_cases h:(pB c pos).getD i false=true
  ·refine ((zB W.g (by rw [GC];exact I.symm) (by rw [HD];exact I.symm) (a:=i) (by omega) h).mono λx f _=>f).eq λn=>?_
   rw [zEZ h]
  ·exact Ev.p (r:=(false,0)) (Ev.now λn=>by rw [zGN h]) λh'=>absurd h' h
 refine ⟨N+pos.length+1,λn hn=>?_⟩
 have T:=IU (λn (o1:Ξ) i=>OT c q pos pos.length lost n (.l1 (pB c pos) (cB c pos) (decide (0<=r)) ((pB c pos).length:Int) i o1)) pos.length (N+1)
  (λi o1=>Cx pos lost (λa s=>Fr c q pos a s∨(a<i/\ Ic c q pos a s)) o1) (λn i o1 GJ hi J=>?_) (n:=n) (s:=l0) (by omega) (P.id' λj s _ _=>⟨λh=>h.elim id λh=>absurd h.1 (zGR j),.inl⟩)
 ·obtain ⟨K,o1,N6,_,D,U⟩:=T;obtain ⟨o,rfl⟩: ∃ o,K=o+1:=⟨K-1,by omega⟩;refine ⟨(true,o1),Eq.trans D ?_,rfl,U.id' λj s E _=>⟨λh=>.inr ⟨E,h⟩,λh=>h.elim .inl λh=>h.2⟩⟩
  show XH o (OT c q pos pos.length lost o) c q pos pos.length lost (pB c pos) (cB c pos) (decide (0<=r)) ((pB c pos).length:Int) (pos.length:Int) o1=_
  simp_all [XH,GC]
 ·show ∃ s',XH n (OT c q pos pos.length lost n) c q pos pos.length lost (pB c pos) (cB c pos) (decide (0<=r)) ((pB c pos).length:Int) (i:Int) o1=_/\ _
  unfold XH;simp only [zCg];have V:AG ((i:Int)+1):=Aj.2 ⟨by omega,by omega⟩;have Y:(pB c pos).length=pos.length:=GC;have Z:(cB c pos).length=pos.length:=HD;rw [Y,Z,zEE (p:=(i:Int)<((pos.length:Nat):Int)) (by omega),zFR]
  have skip:(∀ s,¬ ((pB c pos).getD i false=true/\ (cB c pos).getD i false=false/\ Sp q.nbrs (pB c pos) (cB c pos) (i:Int)/\ tb c.set s=false)) -> Cx pos lost (λa s=>Fr c q pos a s∨(a<i+1/\ Ic c q pos a s)) o1:=λN4=>J.id' λj s E _=>by
   constructor
   ·rintro (h | ⟨h,d⟩)
    ·exact .inl h
    ·rcases zGW.1 h with h | rfl
     ·exact .inr ⟨h,d⟩
     ·exact d.elim .inl λm=>absurd m (N4 s)
   grind
  by_cases G:0<=r
  ·rw [zEE G,zIA,zGF,zEZ ⟨by omega,by omega⟩];cases t:(pB c pos).getD i false
   ·grind
   ·rw [zIA,zGF,zEZ ⟨by omega,by omega⟩];cases hc:(cB c pos).getD i false
    ·obtain ⟨x,w,f⟩:=X n (by omega) i hi;have w:(if (pB c pos).getD i false=true then Oy n q.nbrs (pB c pos) (cB c pos) i else some (false,0))=some x:=w;rw [zEZ t] at w;obtain ⟨_,f⟩:=f t;rw [zGF,w,zEb];cases hb:x.1
     ·grind
     ·obtain ⟨l',e,d⟩:=J.only (c:=c) (q:=q) (D':=λa s=>Fr c q pos a s∨(a<i+1/\ Ic c q pos a s)) (cell:=(i:Int)) (by omega) (by omega) λj s E _=>by
       constructor
       ·rintro (h | ⟨h,d⟩)
        ·exact .inl (.inl h)
        ·rcases zGW.1 h with h | rfl
         ·exact .inl (.inr ⟨h,d⟩)
         ·exact d.elim (λh=>.inl (.inl h)) λm=>.inr ⟨rfl,m.2.2.2⟩
       ·rintro ((h | ⟨h,d⟩) | ⟨h,d⟩)
        ·exact .inl h
        ·exact .inr ⟨by omega,d⟩
        ·obtain rfl:j=i:=by omega
         exact .inr ⟨by omega,.inr ⟨t,hc,f.1 hb,d⟩⟩
      grind
    grind
  ·rw [zFd G,zIx,zFR,zEZ V];refine ⟨o1,rfl,skip λs h=>?_⟩;obtain ⟨t,_,⟨u,v,_,_,d,_,m,_⟩,_⟩:=h;rcases Q with ⟨_,Q⟩ | ⟨z,_⟩
   ·grind
   ·exact G z
def Cc (g:List Ξ)(S:Ω)(v:Int):Nat:=(nb g v).countP λx=>S.getD x.toNat false
def Pd (c:AD)(q:AA)(pos:Ξ):Prop:=∀ v,v<pos.length -> (cB c pos).getD v false=true -> 2<=Cc q.nbrs (pB c pos) v/\ Cc q.nbrs (cB c pos) v<=2
def gP (c:AD)(q:AA)(pos:Ξ)(v a s:Nat):Prop:=(cB c pos).getD v false=true/\ (a:Int)∈nb q.nbrs v/\ (pB c pos).getD a false=true/\ ((Cc q.nbrs (pB c pos) v=2/\ tb c.set s=false)∨(Cc q.nbrs (cB c pos) v=2/\ (cB c pos).getD a false=false/\ tb c.set s=true))
def Nk (c:AD)(q:AA)(pos:Ξ)(a s:Nat):Prop:=Fr c q pos a s∨∃ v,v<pos.length/\ gP c q pos v a s
section
variable {P C:Ω} {o1:Ξ} {row:Ξ} {x20 x21:Int}
def K7 (P:Ω)(F:Ξ)(v:Int):Ξ:=bif P.getD v.toNat false then F++[v] else F
def MC (C:Ω)(x:Int)(v:Int):Int:=bif C.getD v.toNat false then x+1 else x
def rS: ∀ (l F:Ξ),l.foldl (K7 P) F=F++l.filter λx=>P.getD x.toNat false
 | [],F=>by simp
 | v::l,F=>by
  rw [zIr,rS l];unfold K7
  grind
def ri: ∀ (l:Ξ) (x:Int),l.foldl (MC C) x=x+(l.countP λx=>C.getD x.toNat false:Nat)
 | [],x=>by simp
 | v::l,x=>by
  rw [zIr,ri l];unfold MC
  grind
def Ox (P C:Ω)(x20 x21:Int)(row o1 F:Ξ)(x8 j:Int):Nj:=match F with
 | []=>.l2 P C x8 x20 x21 row (row.length:Int) j o1
 | a::l=>.l3 P C (a::l).length x8 x20 x21 row (row.length:Int) j o1 (a::l)
variable {x8:Int}{F:Ξ}
def oD {j:Int}(h:F≠[]):Ox P C x20 x21 row o1 F x8 j= .l3 P C F.length x8 x20 x21 row (row.length:Int) j o1 F:=by
 cases F with
 | nil=>exact absurd rfl h
 | cons a l=>rfl
variable {n:Nat}
def zEa {j:Nat}(hP:P.length=pos.length)(hC:C.length=pos.length)(i: ∀ u∈row,0<=u/\ u<(pos.length:Int))(hl:row.length<=256)(hj:j<row.length)(ho:F.length<=256)(h8:0<=x8/\ x8<=256):
 C6 c q pos pos.length lost (n+1) (Ox P C x20 x21 row o1 F x8 j)=C6 c q pos pos.length lost n (Ox P C x20 x21 row o1 (K7 P F (row.getD j 0)) (MC C x8 (row.getD j 0)) ((j:Int)+1)):=by
 have L:(1000000000000:Nat)=Ay:=rfl;have e:row.getD j 0∈row:=by grind
 have J4:=i _ e;have b:AG ((j:Int)+1):=Aj.2 ⟨by omega,by omega⟩;have N:AG (x8+1):=Aj.2 ⟨by omega,by omega⟩;cases F with
 | nil=>
  show Vn n (C6 c q pos pos.length lost n) c q pos pos.length lost P C x8 x20 x21 row (row.length:Int) (j:Int) o1=_
  unfold Vn K7 MC;simp only [zCg];rw [zEE (by omega),zFR,zEZ ⟨⟨by omega,by omega⟩,by omega,by omega⟩];cases hp:P.getD (row.getD j 0).toNat false <;> cases hc:C.getD (row.getD j 0).toNat false
  ·rw [zGF,zGF,zGF,zEZ ⟨by omega,by omega⟩,zGF,zEZ b];rfl
  ·rw [zGF,zGF,zFR,zEZ ⟨by omega,by omega⟩,zFR,zEZ ⟨N,b⟩];rfl
  ·rw [zFR,zFR,zGF,zEZ ⟨⟨⟨trivial,rfl⟩,by rw [zIz];omega,by grind⟩,by omega,by omega⟩,zGF,zEZ b];rfl
  ·rw [zFR,zFR,zFR,zEZ ⟨⟨⟨trivial,rfl⟩,by rw [zIz];omega,by grind⟩,by omega,by omega⟩,zFR,zEZ ⟨N,b⟩];rfl
 | cons a l=>
  have D:K7 P (a::l) (row.getD j 0)≠[]:=by grind [K7]
  rw [oD D]
  show Pc n (C6 c q pos pos.length lost n) c q pos pos.length lost P C (a::l).length x8 x20 x21 row (row.length:Int) (j:Int) o1 (a::l)=_
  unfold Pc K7 MC
  grind
def rb (a:P.length=pos.length)(T:C.length=pos.length)(i: ∀ u∈row,0<=u/\ u<(pos.length:Int))(m:row.length<=256): ∀ (k j n:Nat) (F:Ξ) (x8:Int),j+k=row.length -> F.length<=j -> 0<=x8/\ x8<=(j:Int) ->
 C6 c q pos pos.length lost (n+k) (Ox P C x20 x21 row o1 F x8 j)=C6 c q pos pos.length lost n (Ox P C x20 x21 row o1 ((row.drop j).foldl (K7 P) F) ((row.drop j).foldl (MC C) x8) (row.length:Int))
 | 0,j,n,F,x8,e,_,_=>by
  grind
 | k+1,j,n,F,x8,e,h2,h8=>by
  have d:j<row.length:=by omega
  have z:row.drop j=row.getD j 0::row.drop (j+1):=by
   simp_all
  rw [←zMc,zEa a T i m d (by omega) (by omega),z,zIr,zIr]
  have h:(K7 P F (row.getD j 0)).length<=j+1:=by
   unfold K7
   grind
  have A:0<=MC C x8 (row.getD j 0)/\ MC C x8 (row.getD j 0)<=((j+1:Nat):Int):=by
   unfold MC
   grind
  exact rb a T i m k (j+1) n _ _ (by omega) h A
def wc {D:Nat -> Ψ}{near:Ξ}{v:Nat}(W:FT c q pos)(g:Cx pos lost D o1)(k: ∀ u∈near,0<=u/\ u<(pos.length:Int))(N5:near.length<=256)(hv:v<pos.length):
 ∃ l',C6 c q pos pos.length lost (n+1+near.length) (.l4 (pB c pos) (cB c pos) near.length x8 x20 (v:Int) near.length (near.length:Int) 0 o1 near)=C6 c q pos pos.length lost n (.l1 (pB c pos) (cB c pos) x20 ((v:Int)+1) l')/\
  Cx pos lost (λa s=>D a s∨((a:Int)∈near/\ ((near.length=2/\ tb c.set s=false)∨(x8=2/\ (cB c pos).getD a false=false/\ tb c.set s=true)))) l':=by
 have Hi:=W.l1;have lc:(cB c pos).length=pos.length:=HD
 obtain ⟨l',e,h⟩:=Z9 (λn (s:Ξ) i=>C6 c q pos pos.length lost n (.l4 (pB c pos) (cB c pos) near.length x8 x20 (v:Int) near.length (near.length:Int) i s near)) near.length 0
  (λi s=>Cx pos lost (λa t=>D a t∨((a:Int)∈near.take i/\ ((near.length=2/\ tb c.set t=false)∨(x8=2/\ (cB c pos).getD a false=false/\ tb c.set t=true)))) s)
  (λn i s _ hi d=>by
   have m:near.getD i 0∈near:=by grind
   have b:=k _ m
   have e3:near.take (i+1)=near.take i++[near.getD i 0]:=by
    simp_all
   have l:AG ((i:Int)+1):=Aj.2 ⟨by omega,by omega⟩;have mem: ∀ a:Nat,(a:Int)∈near.take (i+1)↔(a:Int)∈near.take i∨(a:Int)=near.getD i 0:=λa=>by grind
   obtain ⟨J,o,z⟩:=d.only (c:=c) (q:=q) (cell:=near.getD i 0) b.1 b.2 (D':=λa t=>(D a t∨((a:Int)∈near.take i/\ ((near.length=2/\ tb c.set t=false)∨(x8=2/\ (cB c pos).getD a false=false/\ tb c.set t=true))))∨((a:Int)=near.getD i 0/\ tb c.set t=false)) λj s _ _=>Iff.rfl
   obtain ⟨I,G,A⟩:=z.lose (c:=c) (q:=q) (cell:=near.getD i 0) (ss:=c.set) b.1 b.2 (D':=λa t=>((D a t∨((a:Int)∈near.take i/\ ((near.length=2/\ tb c.set t=false)∨(x8=2/\ (cB c pos).getD a false=false/\ tb c.set t=true))))∨((a:Int)=near.getD i 0/\ tb c.set t=false))∨((a:Int)=near.getD i 0/\ tb c.set t=true)) λj s _ _=>Iff.rfl
   obtain ⟨p,B,r⟩:=d.lose (c:=c) (q:=q) (cell:=near.getD i 0) (ss:=c.set) b.1 b.2 (D':=λa t=>(D a t∨((a:Int)∈near.take i/\ ((near.length=2/\ tb c.set t=false)∨(x8=2/\ (cB c pos).getD a false=false/\ tb c.set t=true))))∨((a:Int)=near.getD i 0/\ tb c.set t=true)) λj s _ _=>Iff.rfl
   show ∃ s',Vm n (C6 c q pos pos.length lost n) c q pos pos.length lost (pB c pos) (cB c pos) near.length x8 x20 (v:Int) near.length (near.length:Int) (i:Int) s near=_/\ _
   unfold Vm;simp only [zCg,zGw];rw [zEE (by omega),zFR,zEZ ⟨⟨by omega,by omega⟩,hi⟩];have Ah: ∀ a:Nat,(a:Int)=near.getD i 0 -> (near.getD i 0).toNat=a:=λa h=>by omega
   by_cases w:near.length=2
   ·have f:(((near.length:Nat):Int)==2)=true:=by rw [w];rfl
    rw [f,zFR,o,zEb]
    by_cases U:x8=2
    ·have H:(x8==2)=true:=by rw [U];rfl
     rw [H,zFR,zEZ ⟨by omega,by omega⟩];cases x:(cB c pos).getD (near.getD i 0).toNat false
     ·rw [zIx,zFR,G,zEb,zEZ l];refine ⟨I,rfl,A.id' λa t _ _=>?_⟩
      grind
     ·rw [zIA,zGF,zEZ l];refine ⟨J,rfl,z.id' λa t _ _=>?_⟩
      grind
    ·have H:(x8==2)=false:=zH4.2 U;rw [H,zGF,zEZ l];refine ⟨J,rfl,z.id' λa t _ _=>?_⟩
     grind
   ·have f:(((near.length:Nat):Int)==2)=false:=zH4.2 (by omega);rw [f,zGF]
    by_cases U:x8=2
    ·have H:(x8==2)=true:=by rw [U];rfl
     rw [H,zFR,zEZ ⟨by omega,by omega⟩];cases x:(cB c pos).getD (near.getD i 0).toNat false
     ·rw [zIx,zFR,B,zEb,zEZ l];refine ⟨p,rfl,r.id' λa t _ _=>?_⟩
      grind
     ·rw [zIA,zGF,zEZ l];refine ⟨s,rfl,d.id' λa t _ _=>?_⟩
      grind
    ·have H:(x8==2)=false:=zH4.2 U;rw [H,zGF,zEZ l];refine ⟨s,rfl,d.id' λa t _ _=>?_⟩
     grind)
  near.length 0 (n+1) o1 (by omega) (by omega) (g.id' λa t _ _=>by simp)
 refine ⟨l',Eq.trans e ?_,h.id' λa t _ _=>by rw [zNa]⟩
 show Vm n (C6 c q pos pos.length lost n) c q pos pos.length lost (pB c pos) (cB c pos) near.length x8 x20 (v:Int) near.length (near.length:Int) (near.length:Int) l' near=_
 unfold Vm;rw [zFd (by omega),zGF,zEZ (Aj.2 ⟨by omega,by omega⟩)]
end
def xN (c:AD)(q:AA)(pos lost:Ξ)(x:Bool×Ξ):Prop:=(x.1=true↔Pd c q pos)/\ (x.1=true -> Cx pos lost (Nk c q pos) x.2)
def zE3 (W:FT c q pos): ∀ (k v:Nat) (o1:Ξ),v+k=pos.length -> (∀ u,u<v -> (cB c pos).getD u false=true -> 2<=Cc q.nbrs (pB c pos) u/\ Cc q.nbrs (cB c pos) u<=2) -> Cx pos lost (λa s=>Fr c q pos a s∨∃ u,u<v/\ gP c q pos u a s) o1 ->
 At (λn=>C6 c q pos pos.length lost n (.l1 (pB c pos) (cB c pos) (pos.length:Int) (v:Int) o1)) (xN c q pos lost):=by
 have Hi:=W.l1;have KB:=W.gl;have G:(pB c pos).length=pos.length:=GC;have H:(cB c pos).length=pos.length:=HD;intro k
 induction k with
 | zero=>
  intro v o1 e o f;have e:v=pos.length:=by omega
  subst e;refine Ev.p (r:=(true,o1)) ⟨1,λn I=>?_⟩ ⟨⟨λ_ v i d=>o v i d,λ_=>rfl⟩,λ_=>f⟩;obtain ⟨n,rfl⟩: ∃ k,n=k+1:=⟨n-1,by omega⟩
  simp_all [Z7,C6]
 | succ k t=>
  intro v o1 e o f;have i:v<pos.length:=by omega
  have J:AG ((v:Int)+1):=Aj.2 ⟨by omega,by omega⟩
  have U: ∀ n,C6 c q pos pos.length lost (n+1) (.l1 (pB c pos) (cB c pos) (pos.length:Int) (v:Int) o1)=bif (cB c pos).getD v false then C6 c q pos pos.length lost n (Ox (pB c pos) (cB c pos) (pos.length:Int) (v:Int) (nb q.nbrs v) o1 [] 0 0) else C6 c q pos pos.length lost n (.l1 (pB c pos) (cB c pos) (pos.length:Int) ((v:Int)+1) o1):=λn=>by
   show Z7 n (C6 c q pos pos.length lost n) c q pos pos.length lost (pB c pos) (cB c pos) (pos.length:Int) (v:Int) o1=_
   unfold Z7;rw [zEE (by omega),zFR,zEZ ⟨by omega,by omega⟩,zCg,zEZ J,zEZ ⟨by omega,by omega⟩];cases (cB c pos).getD v false <;> rfl
  cases d:(cB c pos).getD v false
  ·refine At.step 1 (λn=>?_) (t (v+1) o1 (by omega) (λu b C=>?_) (f.id' λa s _ _=>?_))
   ·rw [U,d,zGF];rfl
   ·grind
   ·constructor
    ·rintro (h | ⟨u,b,h⟩)
     ·exact .inl h
     ·rcases zGW.1 b with b | rfl
      ·exact .inr ⟨u,b,h⟩
      ·rw [h.1] at d;cases d
    ·rintro (h | ⟨u,b,h⟩)
     ·exact .inl h
     ·exact .inr ⟨u,by omega,h⟩
  ·have K:=W.g.gr.row (v:Int) (by omega) (by omega)
   have w: ∀ u∈nb q.nbrs (v:Int),0<=u/\ u<(pos.length:Int):=λu b=>by
    have:=W.g.gr.rng (v:Int) (by omega) (by omega) u b;omega
   have A:=λn=>rb (c:=c) (q:=q) (lost:=lost) (o1:=o1) (x20:=(pos.length:Int)) (x21:=(v:Int)) G H w K (nb q.nbrs v).length 0 n [] 0 (by omega) (by simp) ⟨zGl _,by omega⟩
   rw [zJ5,rS,ri,zIg,Int.zero_add] at A;have L:Cc q.nbrs (pB c pos) v=((nb q.nbrs v).filter λx=>(pB c pos).getD x.toNat false).length:=zIM;have M:Cc q.nbrs (cB c pos) v=(nb q.nbrs v).countP λx=>(cB c pos).getD x.toNat false:=rfl
   rw [←M] at A
   generalize N:((nb q.nbrs v).filter λx=>(pB c pos).getD x.toNat false)=near at A L
   have X: ∀ u,u∈near↔u∈nb q.nbrs v/\ (pB c pos).getD u.toNat false=true:=λu=>by rw [←N,zI2]
   have y:near.length<=256:=by
    grind
   have z: ∀ u∈near,0<=u/\ u<(pos.length:Int):=λu b=>w u ((X u).1 b).1
   have O: ∀ n,C6 c q pos pos.length lost (n+((nb q.nbrs v).length+1)) (.l1 (pB c pos) (cB c pos) (pos.length:Int) (v:Int) o1)=C6 c q pos pos.length lost n (Ox (pB c pos) (cB c pos) (pos.length:Int) (v:Int) (nb q.nbrs v) o1 near (Cc q.nbrs (cB c pos) v:Int) ((nb q.nbrs v).length:Int)):=λn=>by
    grind
   refine At.step _ O ?_
   by_cases hbad:Cc q.nbrs (pB c pos) v<2∨2<Cc q.nbrs (cB c pos) v
   ·have Y: ¬ Pd c q pos:=λh=>by have:=h v i d;omega
    refine Ev.p (r:=(false,o1)) ⟨1,λn I=>?_⟩ ⟨⟨λh=>(by cases h),λh=>absurd h Y⟩,λh=>(by cases h)⟩;obtain ⟨n,rfl⟩: ∃ k,n=k+1:=⟨n-1,by omega⟩;cases near with
    | nil=>
     show Vn n (C6 c q pos pos.length lost n) c q pos pos.length lost (pB c pos) (cB c pos) (Cc q.nbrs (cB c pos) v:Int) (pos.length:Int) (v:Int) (nb q.nbrs v) ((nb q.nbrs v).length:Int) ((nb q.nbrs v).length:Int) o1=_
     simp_all [Vn]
    | cons a l=>
     show Pc n (C6 c q pos pos.length lost n) c q pos pos.length lost (pB c pos) (cB c pos) (a::l).length (Cc q.nbrs (cB c pos) v:Int) (pos.length:Int) (v:Int) (nb q.nbrs v) ((nb q.nbrs v).length:Int) ((nb q.nbrs v).length:Int) o1 (a::l)=_
     unfold Pc
     grind
   ·have P:near≠[]:=by
     grind
    obtain ⟨l',e4,B⟩:=wc (c:=c) (q:=q) (lost:=lost) (o1:=o1) (near:=near) (x20:=(pos.length:Int)) (x8:=(Cc q.nbrs (cB c pos) v:Int)) (n:=0) W f z y i;have Q: ∀ n,∃ l',C6 c q pos pos.length lost (n+1+near.length) (.l4 (pB c pos) (cB c pos) near.length (Cc q.nbrs (cB c pos) v:Int) (pos.length:Int) (v:Int) near.length (near.length:Int) 0 o1 near)=C6 c q pos pos.length lost n (.l1 (pB c pos) (cB c pos) (pos.length:Int) ((v:Int)+1) l')/\ _:=λn=>wc (c:=c) (q:=q) (lost:=lost) (o1:=o1) (near:=near) (x20:=(pos.length:Int)) (x8:=(Cc q.nbrs (cB c pos) v:Int)) (n:=n) W f z y i
    have V:=t (v+1) l' (by omega) (λu b C=>by
     grind) (B.id' λa s _ _=>by
     constructor
     ·rintro (h | ⟨u,b,h⟩)
      ·exact .inl (.inl h)
      ·rcases zGW.1 b with b | rfl
       ·exact .inl (.inr ⟨u,b,h⟩)
       ·obtain ⟨D,F,j,m⟩:=h;refine .inr ⟨(X _).2 ⟨F,by rw [zCg];exact j⟩,?_⟩
        grind
     ·rintro ((h | ⟨u,b,h⟩) | ⟨D,F⟩)
      ·exact .inl h
      ·exact .inr ⟨u,by omega,h⟩
      ·obtain ⟨j,m⟩:=(X _).1 D;rw [zCg] at m;refine .inr ⟨v,by omega,d,j,m,?_⟩
       grind)
    refine At.step (1+near.length+1) (g:=λn=>C6 c q pos pos.length lost n (.l1 (pB c pos) (cB c pos) (pos.length:Int) ((v:Int)+1) l')) (λn=>?_) V;obtain ⟨R,S,E⟩:=Q n;have:R=l':=E.unique B;subst this;rw [oD P,show n+(1+near.length+1)=n+1+near.length+1 by omega,←S]
    show Pc (n+1+near.length) (C6 c q pos pos.length lost (n+1+near.length)) c q pos pos.length lost (pB c pos) (cB c pos) near.length (Cc q.nbrs (cB c pos) v:Int) (pos.length:Int) (v:Int) (nb q.nbrs v) ((nb q.nbrs v).length:Int) ((nb q.nbrs v).length:Int) o1 near=_
    unfold Pc
    grind
def zE4 (W:FT c q pos)(e:Cx pos lost (λ_ _=>False) lost):At (λn=>Z8 n c q pos pos.length lost) (xN c q pos lost):=by
 have f:=W.l1;obtain ⟨r,_,Q⟩:=Vu (l:=cB c pos) (by rw [HD];exact f);obtain ⟨l0,g,i⟩:=rV W e Q;refine At.bind g (b:=λn k=>C6 c q pos pos.length lost n (.l1 k.1 k.2.1 (k.2.1.length:Int) 0 k.2.2.2)) ?_;have:=zE3 (q:=q) W pos.length 0 l0 (by omega) (λu d=>absurd d (zGR u)) (i.id' λa s _ _=>⟨λh=>h.elim id λ⟨u,d,_⟩=>absurd d (zGR u),.inl⟩)
 grind [HD]
end
section
set_option maxRecDepth 100000
set_option maxHeartbeats 40000000
def zAv:Ax (BA Tryz.f99 6) [([0,1,2,3,4,5,6,7,8],9),([10],11)] [12] []:=by unfold Ax;kernel_rfl
def zAw:Ax (BA Tryz.f99 13) [] (List.range 13) [13]:=by unfold Ax;kernel_rfl
def Ek:Be:=λi=>match i with
 | 6=>.ord [([0,1,2,3,4,5,6,7,8],9),([10],11)] [12] []
 | 13=>.ord [] (List.range 13) [13]
 | _=>.no
def zHh (q:AA)(pos:Ξ):DH:=[oC (AH q),oC [.cst .nilFunc,.fn 106 0 (L1 []),.fn 107 0 (L1 []),.fn 108 0 (L1 []),.fn 109 0 (L1 []),.fn 110 0 (L1 []),.fn 111 0 (L1 []),.fn 112 0 (L1 []),.fn 113 0 (L1 []),.fn 114 0 (L1 [])],oI (List.replicate pos.length (0:Int))]
def MR (q:AA)(pos:Ξ)(i:Int):DH:=[oC (AH q),oC [.cst .nilFunc,.fn 106 0 (L1 []),.fn 107 0 (L1 []),.fn 108 0 (L1 []),.fn 109 0 (L1 []),.fn 110 0 (L1 []),.fn 111 0 (L1 []),.fn 112 0 (L1 []),.fn 113 0 (L1 []),.fn 114 0 (L1 [])],oI (List.replicate pos.length (0:Int)),oI (List.replicate pos.length (0:Int)),oC (BY (q.cons.getD i.toNat default)++AH q++[.ints pos,.msl 3 1 0 pos.length])]
def zHg (pos:Ξ)(q:AA)(i:Int)(F:Ξ):DH:=[oI (List.replicate pos.length (0:Int)),oC (BY (q.cons.getD i.toNat default)++AH q++[.ints pos,.msl 2 1 0 pos.length]),oI F]
def zHf (pos:Ξ)(q:AA)(i:Int)(F t:Ξ):DH:=[oI (List.replicate pos.length (0:Int)),oC (BY (q.cons.getD i.toNat default)++AH q++[.ints pos,.msl 2 1 0 pos.length]),oI F,oI t]
inductive VR where
 | l1 (o2:Ξ)
 | l2 (x10:Nat) (M1 CP:Int) (o2 o3:Ξ)
def qZ (n:Nat)(self:VR -> Option (Ξ))(q:AA)(i:Int)(pos:Ξ)(F:Ξ):Option (Ξ):= (cS n pos).bind λk=> self (.l2 k.length (k.length:Int) 0 F k)
def VQ (n:Nat)(self:VR -> Option (Ξ))(q:AA)(i:Int)(pos:Ξ)(x10:Nat)(I O:Int)(F t:Ξ):Option (Ξ):= bif (decide (O<I)) then if (0<=O/\ O<(x10:Int))/\ 0+O.toNat<t.length/\ (0<=O/\ O<(pos.length:Int))/\ 0+O.toNat<F.length/\ AG (O+1) then self (.l2 x10 I (O+1) F (t.set (0+O.toNat) (bits .andNot .i64 (t.getD (0+O.toNat) 0) (F.getD (0+O.toNat) 0)))) else none else if x10=t.length then (Gz n t).bind λk=> bif k then if pos.length=(List.replicate pos.length (0:Int)).length then some (List.replicate pos.length (0:Int)) else none else some t else none
def fc (n:Nat)(self:VR -> Option (Ξ))(q:AA)(i:Int)(pos:Ξ):Option (Ξ):= if ((pos.length:Int):Int)=(pos.length:Int)/\ 0<=(pos.length:Int)/\ ((pos.length:Int):Int)<=1000000000000 then (Gz n pos).bind λk=> bif k then if pos.length=(List.replicate pos.length (0:Int)).length then some (List.replicate pos.length (0:Int)) else none else if 0<=i/\ i<(q.cons.length:Int) then bif (((q.cons.getD i.toNat default).kind)==0) then none else bif (((q.cons.getD i.toNat default).kind)==1) then (TS n (q.cons.getD i.toNat default) q pos pos.length (List.replicate pos.length (0:Int))).bind λG=> bif (!G.1) then if pos.length=(List.replicate pos.length (0:Int)).length then some (List.replicate pos.length (0:Int)) else none else self (.l1 G.2) else bif (((q.cons.getD i.toNat default).kind)==2) then (TU n (q.cons.getD i.toNat default) q pos pos.length (List.replicate pos.length (0:Int))).bind λG=> bif (!G.1) then if pos.length=(List.replicate pos.length (0:Int)).length then some (List.replicate pos.length (0:Int)) else none else self (.l1 G.2) else bif (((q.cons.getD i.toNat default).kind)==3) then (RP n (q.cons.getD i.toNat default) q pos pos.length (List.replicate pos.length (0:Int))).bind λG=> bif (!G.1) then if pos.length=(List.replicate pos.length (0:Int)).length then some (List.replicate pos.length (0:Int)) else none else self (.l1 G.2) else bif (((q.cons.getD i.toNat default).kind)==4) then (NL n (q.cons.getD i.toNat default) q pos pos.length (List.replicate pos.length (0:Int))).bind λG=> bif (!G.1) then if pos.length=(List.replicate pos.length (0:Int)).length then some (List.replicate pos.length (0:Int)) else none else self (.l1 G.2) else bif (((q.cons.getD i.toNat default).kind)==5) then (Rm n (q.cons.getD i.toNat default) q pos pos.length (List.replicate pos.length (0:Int))).bind λG=> bif (!G.1) then if pos.length=(List.replicate pos.length (0:Int)).length then some (List.replicate pos.length (0:Int)) else none else self (.l1 G.2) else bif (((q.cons.getD i.toNat default).kind)==6) then (Qs n (q.cons.getD i.toNat default) q pos pos.length (List.replicate pos.length (0:Int))).bind λG=> bif (!G.1) then if pos.length=(List.replicate pos.length (0:Int)).length then some (List.replicate pos.length (0:Int)) else none else self (.l1 G.2) else bif (((q.cons.getD i.toNat default).kind)==7) then (PP n (q.cons.getD i.toNat default) q pos pos.length (List.replicate pos.length (0:Int))).bind λG=> bif (!G.1) then if pos.length=(List.replicate pos.length (0:Int)).length then some (List.replicate pos.length (0:Int)) else none else self (.l1 G.2) else bif (((q.cons.getD i.toNat default).kind)==8) then (cL n (q.cons.getD i.toNat default) q pos pos.length (List.replicate pos.length (0:Int))).bind λG=> bif (!G.1) then if pos.length=(List.replicate pos.length (0:Int)).length then some (List.replicate pos.length (0:Int)) else none else self (.l1 G.2) else bif (((q.cons.getD i.toNat default).kind)==9) then (Z8 n (q.cons.getD i.toNat default) q pos pos.length (List.replicate pos.length (0:Int))).bind λG=> bif (!G.1) then if pos.length=(List.replicate pos.length (0:Int)).length then some (List.replicate pos.length (0:Int)) else none else self (.l1 G.2) else none else none else none
def Jy (q:AA)(i:Int)(pos:Ξ):Nat -> VR -> Option (Ξ)
 | 0,_=>none
 | n+1,.l1 F=>qZ n (Jy q i pos n) q i pos F
 | n+1,.l2 x10 I O F t=>VQ n (Jy q i pos n) q i pos x10 I O F t
def Ky (n:Nat)(q:AA)(i:Int)(pos:Ξ):Option (Ξ):=fc n (Jy q i pos n) q i pos
def zDQ (n B:Nat)(N:Yd 0)(q:AA)(i:Int)(pos:Ξ)(r:Ξ):VR -> Prop
 | .l1 F=>TW B N (FQ Tryz.f99 0 (.ints r) []) (EP (AR Tryz.f99) 9 []) ⟨AF 69 [(2,.ints pos),(8,.msl 0 1 0 pos.length),(9,.ref 1 0)],[oI (List.replicate pos.length (0:Int)),oC (BY (q.cons.getD i.toNat default)++AH q++[.ints pos,.msl 2 1 0 pos.length]),oI F]⟩
 | .l2 x10 I O F t=>∀ f:Nat,n<=f -> TW B N (FQ Tryz.f99 0 (.ints r) []) (Ah f (An (AR Tryz.f99) 0 [])) ⟨AF 69 [(8,.msl 0 1 0 pos.length),(9,.ref 1 0),(10,.msl 3 1 0 x10),(47,.i I),(48,.i O)],[oI (List.replicate pos.length (0:Int)),oC (BY (q.cons.getD i.toNat default)++AH q++[.ints pos,.msl 2 1 0 pos.length]),oI F,oI t]⟩
def zDR (B:Nat)(N:Yd 0)(q:AA)(i:Int)(pos:Ξ):Al (Jy q i pos) (zDQ · B N q i pos):=ia (λ_=>rfl) λn C c r h=>by
 cases c
 case l1 o2=>
  revert r;apply gO;exact cn λk s=>jc (ES.snapNew (ds:=[.ints pos]) (zK3 s) (zHg pos q i o2) (lq (by kernel_rfl)) rfl) (lN Ek [0,1,2,3] (C _ _ · n Nat.le.refl))
 case l2 x10 M1 CP o2 o3=>
  intro f b;refine rd b λf b=>?_
  revert r;apply gO;exact bi 49 (jg zAw (gc (gn λa=>jg a (gc (gn λo=>jg o (gc (gi (gc (gi (jg a (jg o (gw 64 (lG (Ab 9 Ek) [0,1,2,3] (C _ _ · f b)))))))))))))) (gn λa=>cn λk s=>jc (sb [.msl 3 1 0 x10] (Po s) (zHf pos q i o2 o3) ⟨Az.ints rfl a,trivial⟩) (bi 66 (gn λo=>lF λp=>ez (Ab 9 Ek) [6] [0] p [0] (H0.g o)) (lF λp=>ez (Ab 9 Ek) [6] [3] p [0] (H0.g a))))
variable {pos:Ξ}{i:Int}{q:AA}{n:Nat}
def zDP {r:Ξ}(h:Ky n q i pos=some r):EQ 99 [.agg 5 (L1 (AH q)),.i i,.ints pos] [] (.ints r) [] true:=by
 have C:=λB N=>(zDR B N q i pos n)
 refine ot Tryz.func99 λB N=>?_
 revert r;apply gO;exact jt (gn λa=>jg a (cf Po (zHh q pos) λ_=>bi 18 (gn λo=>lF λp=>ez (Ab 9 Ek) [6] [2] p [0] (H0.g o)) (jg zAv (gi (jg a (bn (λw=>nO) (λw=>bn (λd=>jo 36 (AN.int (k:=.i64) (zI4 d)) (jg (by decide:(0:Int)<=1/\ 1<((10:Nat):Int)) (ce zKK [4,3] (MR q pos i) λ_=>bi 42 (gn λs=>lF λp=>ez (Ab 9 Ek) [6] [2] p [0] (H0.g s)) (lG (Ab 9 Ek) [2,4,3] ((C B N) _ _ ·))))) (λd=>bn (λc=>jo 36 (AN.int (k:=.i64) (zI4 c)) (jg (by decide:(0:Int)<=2/\ 2<((10:Nat):Int)) (ce zKZ [4,3] (MR q pos i) λ_=>bi 42 (gn λs=>lF λp=>ez (Ab 9 Ek) [6] [2] p [0] (H0.g s)) (lG (Ab 9 Ek) [2,4,3] ((C B N) _ _ ·))))) (λc=>bn (λU=>jo 36 (AN.int (k:=.i64) (zI4 U)) (jg (by decide:(0:Int)<=3/\ 3<((10:Nat):Int)) (ce yi [4,3] (MR q pos i) λ_=>bi 42 (gn λs=>lF λp=>ez (Ab 9 Ek) [6] [2] p [0] (H0.g s)) (lG (Ab 9 Ek) [2,4,3] ((C B N) _ _ ·))))) (λU=>bn (λV=>jo 36 (AN.int (k:=.i64) (zI4 V)) (jg (by decide:(0:Int)<=4/\ 4<((10:Nat):Int)) (ce zCP [4,3] (MR q pos i) λ_=>bi 42 (gn λs=>lF λp=>ez (Ab 9 Ek) [6] [2] p [0] (H0.g s)) (lG (Ab 9 Ek) [2,4,3] ((C B N) _ _ ·))))) (λV=>bn (λW=>jo 36 (AN.int (k:=.i64) (zI4 W)) (jg (by decide:(0:Int)<=5/\ 5<((10:Nat):Int)) (ce zBh [4,3] (MR q pos i) λ_=>bi 42 (gn λs=>lF λp=>ez (Ab 9 Ek) [6] [2] p [0] (H0.g s)) (lG (Ab 9 Ek) [2,4,3] ((C B N) _ _ ·))))) (λW=>bn (λX=>jo 36 (AN.int (k:=.i64) (zI4 X)) (jg (by decide:(0:Int)<=6/\ 6<((10:Nat):Int)) (ce zLw [4,3] (MR q pos i) λ_=>bi 42 (gn λs=>lF λp=>ez (Ab 9 Ek) [6] [2] p [0] (H0.g s)) (lG (Ab 9 Ek) [2,4,3] ((C B N) _ _ ·))))) (λX=>bn (λY=>jo 36 (AN.int (k:=.i64) (zI4 Y)) (jg (by decide:(0:Int)<=7/\ 7<((10:Nat):Int)) (ce zEJ [4,3] (MR q pos i) λ_=>bi 42 (gn λs=>lF λp=>ez (Ab 9 Ek) [6] [2] p [0] (H0.g s)) (lG (Ab 9 Ek) [2,4,3] ((C B N) _ _ ·))))) (λY=>bn (λZ=>jo 36 (AN.int (k:=.i64) (zI4 Z)) (jg (by decide:(0:Int)<=8/\ 8<((10:Nat):Int)) (ce zKq [4,3] (MR q pos i) λ_=>bi 42 (gn λs=>lF λp=>ez (Ab 9 Ek) [6] [2] p [0] (H0.g s)) (lG (Ab 9 Ek) [2,4,3] ((C B N) _ _ ·))))) (λZ=>bn (λL=>jo 36 (AN.int (k:=.i64) (zI4 L)) (jg (by decide:(0:Int)<=9/\ 9<((10:Nat):Int)) (ce zE5 [4,3] (MR q pos i) λ_=>bi 42 (gn λs=>lF λp=>ez (Ab 9 Ek) [6] [2] p [0] (H0.g s)) (lG (Ab 9 Ek) [2,4,3] ((C B N) _ _ ·))))) (λL=>nO))))))))))))))))
def qc (n:Nat)(q:AA)(i:Int)(pos:Ξ):Option (Ξ×Int):= (Ta n q i pos).bind λk=> bif (k != 0) then some (([]:Ξ),k) else (Ky n q i pos).bind λG=> some (G,0)
def PG (n:Nat)(q:AA)(i:Int)(pos:Ξ):Option (Ξ×Int):=qc n q i pos
def qb {r:Ξ×Int}(h:PG n q i pos=some r):EQ 83 [.agg 5 (L1 (AH q)),.i i,.ints pos] [] (.tup 2 (L1 [.ints r.1,.i r.2])) [] true:=by
 unfold PG qc at h;refine ot Tryz.func83 λB N=>?_
 revert r;apply gO;exact cf zK9 [oC (AH q)] λk=>bi 14 (lF λp=>el AC [6,7] [] p [] H0 [.nils,.i k] (AN.tupL (l:=[.nils,.i k]) (l':=[.ints ([]:Ξ),.i k]) rfl ⟨AN.ints_nil,Aw,trivial⟩)) (cf zDP [oC (AH q)] λ_=>lE AC [6,7] [])
end
section
def BI (pos:Ξ):Bool:=pos.any (· ==0)
variable {pos:Ξ}
theorem FA :BI pos=false↔∀ j,j<pos.length -> pos.getD j 0≠0:=by
 unfold BI;rw [List.any_eq_false];constructor
 ·simp_all
 ·intro h x e;obtain ⟨j,hj,rfl⟩:=zGt e
  grind
variable {n:Nat}
theorem vU (hl:pos.length<=LB)(u:pos.length<n):W9 n pos=some (BI pos):=by
 have hb:LB<=9223372036854775806:=by decide
 have key: ∀ (k i n:Nat),i+k=pos.length -> k+1<=n -> TT pos n (.l1 (i:Int))=some ((pos.drop i).any (· ==0)):=by
  intro k
  induction k with
  | zero=>
   intro i n e u;obtain ⟨n,rfl⟩: ∃ k,n=k+1:=⟨n-1,by omega⟩
   simp_all [cC,TT]
  | succ k U=>
   intro i n e u;obtain ⟨n,rfl⟩: ∃ k,n=k+1:=⟨n-1,by omega⟩;have hi:i<pos.length:=by omega
   have z:pos.drop i=pos.getD i 0::pos.drop (i+1):=by
    simp_all
   have:=U (i+1) n (by omega) (by omega)
   show cC n (TT pos n) pos (i:Int)=_
   unfold cC;rw [zEE (by omega),zFR,zEZ ⟨by omega,by omega⟩,zEZ (Aj.2 ⟨by omega,by omega⟩),zCg,z,List.any_cons]
   grind
 have:=key pos.length 0 n (by omega) (by omega);unfold W9 vS;exact this
def No (hl:pos.length<=LB)(hn:pos.length<n):Gz n pos=some (BI pos):=by
 grind [Gz,iF,vU]
def posOk (q:AA)(pos:Ξ):Bool:=((pos.length:Int)==q.cells)&&pos.all λx=>decide (0<=x)&&decide (x<2 ^ q.symbols.toNat)
def Dm (q:AA)(pos:Ξ):Int:=if CK q then (if posOk q pos then 0 else 250) else 191
section
variable {q:AA} {i:Int} {pos:Ξ} {n:Nat}
def fh (Q:DK q)(u:Dz q<=n)(hl:pos.length<=LB)(Hg:pos.length<n):GB n q pos=some (Dm q pos):=by
 have hb:LB<=9223372036854775806:=by decide
 unfold GB ql Dm;rw [mi Q u,zEb];cases p:CK q with
 | false=>rfl
 | true=>
  obtain ⟨_,j,_⟩:=DM p;obtain ⟨I,p2,G⟩:=ZO j.1 j.2
  show (bif ((pos.length:Int) != q.cells) then some 250 else PK q pos n (.l1 0))=some (if posOk q pos=true then 0 else 250)
  unfold posOk
  by_cases N:(pos.length:Int)=q.cells
  ·have a:((pos.length:Int) != q.cells)=false:=by simpa using N
   have b:((pos.length:Int)==q.cells)=true:=by simpa using N
   rw [a,zGF,b,zIy]
   have key: ∀ (k i n:Nat),i+k=pos.length -> k+1<=n -> PK q pos n (.l1 (i:Int))=some (if ((pos.drop i).all λx=>decide (0<=x)&&decide (x<2 ^ q.symbols.toNat))=true then 0 else 250):=by
    intro k
    induction k with
    | zero=>
     intro i n e u;obtain ⟨n,rfl⟩: ∃ k,n=k+1:=⟨n-1,by omega⟩
     simp_all [ZT,PK]
    | succ k U=>
     intro i n e u;obtain ⟨n,rfl⟩: ∃ k,n=k+1:=⟨n-1,by omega⟩;have hi:i<pos.length:=by omega
     have z:pos.drop i=pos.getD i 0::pos.drop (i+1):=by
      simp_all
     have:=U (i+1) n (by omega) (by omega)
     show ZT n (PK q pos n) q pos (i:Int)=_
     unfold ZT;rw [zEE (by omega),zFR,zEZ ⟨by omega,by omega⟩,zEZ G,zEZ (Aj.2 ⟨by omega,by omega⟩),zCg,z,zMs,I]
     grind
   grind
  grind
def Lg (q:AA)(i:Int)(pos:Ξ):Int:=if (MG q i).2=0 then Dm q pos else (MG q i).2
def zLA (Q:DK q)(u:Dz q<=n)(m:pos.length<=LB)(x:pos.length<n):Ta n q i pos=some (Lg q i pos):=by
 unfold Ta lC Lg;rw [gv Q u,zEb,fh Q u m x,zEb]
 grind
structure Bq (q:AA)(i:Int)(pos:Ξ):Prop where
 fit:DK q
 valid:CK q=true
 i0:0<=i
 i1:i<(q.cons.length:Int)
 pos:posOk q pos=true
def con (q:AA)(i:Int):AD:=q.cons.getD i.toNat default
def Bq.of (Q:DK q)(h:Lg q i pos=0):Bq q i pos:=by
 unfold Lg MG Dm at h
 by_cases p:CK q=false
 ·grind
 ·rw [zGN p] at h;have p:CK q=true:=by simpa using p
  by_cases hi:0<=i/\ i<(q.cons.length:Int)
  ·rw [zEZ hi,zEZ rfl,zEZ p] at h
   by_cases g:posOk q pos=true
   ·exact ⟨Q,p,hi.1,hi.2,g⟩
   grind
  grind
def Bq.check (C:Bq q i pos):Lg q i pos=0:=by
 have a:MG q i=(IT ((q.cons.getD i.toNat default).kind),0):=by
  unfold MG;rw [zGN (by rw [C.valid];exact λh=>by cases h),zEZ ⟨C.i0,C.i1⟩]
 unfold Lg Dm;rw [a,zEZ rfl,zEZ C.valid,zEZ C.pos]
def Bq.mem (C:Bq q i pos):con q i∈q.cons:=by
 have h:=C.i0;have h1:=C.i1
 grind [con]
def Bq.fine (C:Bq q i pos):E8 q (con q i)=true:=(DM C.valid).2.2.2.2.2 _ C.mem
def Bq.kind (C:Bq q i pos):Hx q.cells (con q i).kind (con q i).cells.length=true:=sQ C.fine
def Bq.len (C:Bq q i pos):(pos.length:Int)=q.cells:=by
 have h:=C.pos
 simp_all [posOk]
def Bq.sm (C:Bq q i pos): ∀ j,j<pos.length -> Sm q.symbols.toNat (pos.getD j 0):=by
 intro j hj;have h:=C.pos;unfold posOk at h;rw [zEh,zGL] at h;have v:pos.getD j 0∈pos:=by grind
 have:=h.2 _ v;rw [zEh,zGM,zGM] at this;exact this
def Bq.len256 (C:Bq q i pos):0<pos.length/\ pos.length<=256:=by
 have h:=(DM C.valid).1;have:=C.len;omega
theorem Bq.cells (C:Bq q i pos):(∀ x∈(con q i).cells,0<=x/\ x<q.cells)/\ (con q i).cells.Nodup/\ (8<=(con q i).kind -> ∀ j,j<(con q i).cells.length -> (con q i).cells.getD j 0=(j:Int)):=by
 have h:=C.fine
 simp_all [E8,lI]
def Bq.work (C:Bq q i pos):B7 (con q i) q.symbols.toNat pos:=by
 obtain ⟨b,c,_⟩:=C.cells;have m:=C.len;have h3:=(DM C.valid).1;have h4:=(DM C.valid).2.1;refine ⟨λa ha=>?_,?_,C.sm,by omega⟩
 ·simp_all
 ·have:=SJ pos.length _ c λx e=>by rw [m];exact b x e
  omega
def Bq.vals (C:Bq q i pos):Ee q q.symbols.toNat:=by
 obtain ⟨_,h2,⟨h3,A⟩,_⟩:=DM C.valid;rw [Xp] at A;refine ⟨by omega,λs hs=>A _ ?_⟩
 grind
def Bq.runs (C:Bq q i pos):Jc (con q i):=by
 have h:=C.fine;unfold E8 at h;simp only [zEh,zGM] at h;have b:=Xp.1 h.2;refine ⟨by have:=h.1.2;omega,λj hj=>(b _ ?_).2⟩
 grind
def Bq.two (C:Bq q i pos)(hk:(con q i).kind=6∨(con q i).kind=7):(con q i).cells.length=2:=by
 have h:=C.kind
 grind [Hx]
def Bq.all (C:Bq q i pos)(hk:(con q i).kind=8∨(con q i).kind=9)(r:BI pos=false):FT (con q i) q pos:=by
 have h:=C.kind;have hl:=C.len;have a:=C.len256
 have h1:((con q i).cells.length:Int)=q.cells:=by
  grind [Hx]
 obtain ⟨_,_,_,⟨h5,b⟩,_⟩:=DM C.valid;exact ⟨by omega,λj d=>C.cells.2.2 (by omega) j (by omega),⟨b,C.fit.nbrs⟩,by omega,a.1,a.2,λj d=>⟨(C.sm j d).in64 (zGK C.work.k (by decide)),FA.1 r j d⟩⟩
end
def Cq (q:AA)(c:AD)(pos:Ξ):Prop:= (c.kind=2 -> Mg c pos=true)/\ (c.kind=3 -> Lr q c pos=true)/\ (c.kind=5 -> Kp c=true)/\ (c.kind=9 -> Pd c q pos)
def Bo (q:AA)(c:AD)(pos:Ξ)(a s:Nat):Prop:= (c.kind=1/\ Qe c pos a s)∨(c.kind=2/\ JU c pos a s=true)∨(c.kind=3/\ Is q c pos a s=true)∨(c.kind=4/\ IL q c pos a s=true)∨(c.kind=5/\ Jq c pos a s)∨ (c.kind=6/\ Gs (I6 q c) c pos a s)∨(c.kind=7/\ Gs (IS c) c pos a s)∨(c.kind=8/\ Ic c q pos a s)∨(c.kind=9/\ Nk c q pos a s)
def KP (q:AA)(c:AD)(pos:Ξ)(r:Bool×Ξ):Prop:=(r.1=true↔Cq q c pos)/\ (r.1=true -> CL c pos (List.replicate pos.length 0) c.cells.length (Bo q c pos) r.2)
def LC (q:AA)(c:AD)(pos:Ξ)(j s:Nat):Prop:=∃ a,a<c.cells.length/\ (c.cells.getD a 0).toNat=j/\ Bo q c pos a s
structure Fj (q:AA)(c:AD)(pos:Ξ):Prop where
 nz: ∀ j,j<pos.length -> pos.getD j 0≠0
 ok:Cq q c pos
 left: ∀ j,j<pos.length -> ∃ s,s<64/\ tb (pos.getD j 0) s=true/\ ¬ LC q c pos j s
structure PR (q:AA)(c:AD)(pos x:Ξ):Prop where
 len:x.length=pos.length
 live:Fj q c pos -> ∀ j,j<pos.length -> CB (x.getD j 0)/\ ∀ s,tb (x.getD j 0) s=true↔tb (pos.getD j 0) s=true/\ ¬ LC q c pos j s
 dead: ¬ Fj q c pos -> x=List.replicate pos.length 0
theorem PR.uniq {q:AA}{c:AD}{pos:Ξ}(x y:Ξ)(h:PR q c pos x)(h':PR q c pos y):x=y:=by
 by_cases A:Fj q c pos
 ·have e:x.length=y.length:=h.len.trans h'.len.symm;refine zJA e λj a b=>?_
  have d:j<pos.length:=by rw [←h.len];exact a
  have w:x.getD j 0=x[j]:=by simp [a]
  have z:y.getD j 0=y[j]:=by simp [b]
  rw [←w,←z];refine Kj (h.live A j d).1 (h'.live A j d).1 λs _=>?_
  rw [zIh,(h.live A j d).2,(h'.live A j d).2]
 ·rw [h.dead A,h'.dead A]
section
variable {q:AA} {i:Int} {pos:Ξ}
def Tz:(List.replicate pos.length (0:Int)).length=pos.length:=zH0
def Q2 (j:Nat):(List.replicate pos.length (0:Int)).getD j 0=0:=by
 grind
def dD: ∀ j,CB ((List.replicate pos.length (0:Int)).getD j 0):=λj=>by rw [Q2];exact ⟨by decide,by decide⟩
def mG:Cx pos (List.replicate pos.length 0) (λ_ _=>False) (List.replicate pos.length 0):=⟨⟨Tz,dD⟩,λj s=>by simp⟩
def CL.congr {c:AD}{lost l:Ξ}{D D':Nat -> Ψ}{m:Nat}(h:CL c pos lost m D l)(U: ∀ a s,D' a s↔D a s):CL c pos lost m D' l:=by
 refine ⟨h.1,λj s=>?_⟩;rw [h.2];simp only [U]
def I1 (n:Nat)(q:AA)(c:AD)(pos:Ξ):Option (Bool×Ξ):= bif c.kind==1 then TS n c q pos pos.length (List.replicate pos.length 0) else bif c.kind==2 then TU n c q pos pos.length (List.replicate pos.length 0) else bif c.kind==3 then RP n c q pos pos.length (List.replicate pos.length 0) else bif c.kind==4 then NL n c q pos pos.length (List.replicate pos.length 0) else bif c.kind==5 then Rm n c q pos pos.length (List.replicate pos.length 0) else bif c.kind==6 then Qs n c q pos pos.length (List.replicate pos.length 0) else bif c.kind==7 then PP n c q pos pos.length (List.replicate pos.length 0) else bif c.kind==8 then cL n c q pos pos.length (List.replicate pos.length 0) else bif c.kind==9 then Z8 n c q pos pos.length (List.replicate pos.length 0) else none
def zB8 (C:Bq q i pos)(e:BI pos=false):At (λn=>I1 n q (con q i) pos) (KP q (con q i) pos):=by
 have W:=C.work;have v:(List.replicate pos.length (0:Int)).length=pos.length:=Tz
 have all: ∀ k:Int,(con q i).kind=k -> ∀ {f:Nat -> Option (Bool×Ξ)} {N:Nat} {ok:Bool} {D:Nat -> Ψ},(∀ n,N<=n -> ∃ l,f n=some (ok,l)/\ (ok=true -> CL (con q i) pos (List.replicate pos.length 0) (con q i).cells.length D l)) -> (ok=true↔Cq q (con q i) pos) -> (∀ a s,Bo q (con q i) pos a s↔D a s) -> At f (KP q (con q i) pos):=by
  intro k _ f N ok D h m U;refine ⟨N,λn u=>?_⟩;obtain ⟨l,c,b⟩:=h n u;exact ⟨(ok,l),c,m,λg=>(b g).congr U⟩
 have J:=Pi (Ph C.kind);have d: ∀ {k:Int},(con q i).kind=k -> k≠2 -> k≠3 -> k≠5 -> k≠9 -> Cq q (con q i) pos:=λhk b g o Y=>⟨λh=>absurd (hk.symm.trans h) b,λh=>absurd (hk.symm.trans h) g,λh=>absurd (hk.symm.trans h) o,λh=>absurd (hk.symm.trans h) Y⟩
 rcases J with hk | hk | hk | hk | hk | hk | hk | hk | hk
 ·refine At.eq (all 1 hk (f:=λn=>TS n (con q i) q pos pos.length (List.replicate pos.length 0)) (N:=2*(con q i).cells.length+2) (ok:=true) (D:=Qe (con q i) pos) (λn u=>?_) ⟨λ_=>d hk (by decide) (by decide) (by decide) (by decide),λ_=>rfl⟩ λa s=>?_) λn=>?_
  ·obtain ⟨l,c,b⟩:=zKH (q:=q) W v u;exact ⟨l,c,λ_=>b⟩
  ·unfold Bo;rw [hk];simp
  ·unfold I1;rw [hk];rfl
 ·refine At.eq (all 2 hk (f:=λn=>TU n (con q i) q pos pos.length (List.replicate pos.length 0)) (N:=2*(con q i).cells.length+3) (ok:=Mg (con q i) pos) (D:=λa s=>JU (con q i) pos a s=true) (λn u=>?_) ⟨λh=>⟨λ_=>h,λh=>absurd (hk.symm.trans h) (by decide),λh=>absurd (hk.symm.trans h) (by decide),λh=>absurd (hk.symm.trans h) (by decide)⟩,λh=>h.1 hk⟩ λa s=>?_) λn=>?_
  ·exact zKX (q:=q) W v u
  ·unfold Bo;rw [hk];simp
  ·unfold I1;rw [hk];rfl
 ·refine At.eq (all 3 hk (f:=λn=>RP n (con q i) q pos pos.length (List.replicate pos.length 0)) (N:=2*(con q i).cells.length+3) (ok:=Lr q (con q i) pos) (D:=λa s=>Is q (con q i) pos a s=true) (λn u=>?_) ⟨λh=>⟨λh=>absurd (hk.symm.trans h) (by decide),λ_=>h,λh=>absurd (hk.symm.trans h) (by decide),λh=>absurd (hk.symm.trans h) (by decide)⟩,λh=>h.2.1 hk⟩ λa s=>?_) λn=>?_
  ·exact yf W C.vals v u
  ·unfold Bo;rw [hk];simp
  ·unfold I1;rw [hk];rfl
 ·refine At.eq (all 4 hk (f:=λn=>NL n (con q i) q pos pos.length (List.replicate pos.length 0)) (N:=2*(con q i).cells.length+3) (ok:=true) (D:=λa s=>IL q (con q i) pos a s=true) (λn u=>?_) ⟨λ_=>d hk (by decide) (by decide) (by decide) (by decide),λ_=>rfl⟩ λa s=>?_) λn=>?_
  ·obtain ⟨l,c,b⟩:=zCM W C.vals v u;exact ⟨l,c,λ_=>b⟩
  ·unfold Bo;rw [hk];simp
  ·unfold I1;rw [hk];rfl
 ·obtain ⟨l,⟨N,c⟩,b⟩:=zBg (q:=q) W C.runs v dD;refine At.eq (all 5 hk (N:=N) (ok:=Kp (con q i)) (D:=Jq (con q i) pos) (λn u=>⟨l,c n u,b⟩) ⟨λh=>⟨λh=>absurd (hk.symm.trans h) (by decide),λh=>absurd (hk.symm.trans h) (by decide),λ_=>h,λh=>absurd (hk.symm.trans h) (by decide)⟩,λh=>h.2.2.1 hk⟩ λa s=>?_) λn=>?_
  ·unfold Bo;rw [hk];simp
  ·unfold I1;rw [hk];rfl
 ·refine At.eq (all 6 hk (f:=λn=>Qs n (con q i) q pos pos.length (List.replicate pos.length 0)) (N:=0) (ok:=true) (D:=Gs (I6 q (con q i)) (con q i) pos) (λn u=>?_) ⟨λ_=>d hk (by decide) (by decide) (by decide) (by decide),λ_=>rfl⟩ λa s=>?_) λn=>?_
  ·obtain ⟨l,c,b⟩:=zLv (n:=n) W C.vals (C.two (.inl hk)) v;exact ⟨l,c,λ_=>b⟩
  ·unfold Bo;rw [hk];simp
  ·unfold I1;rw [hk];rfl
 ·refine At.eq (all 7 hk (f:=λn=>PP n (con q i) q pos pos.length (List.replicate pos.length 0)) (N:=0) (ok:=true) (D:=Gs (IS (con q i)) (con q i) pos) (λn u=>?_) ⟨λ_=>d hk (by decide) (by decide) (by decide) (by decide),λ_=>rfl⟩ λa s=>?_) λn=>?_
  ·obtain ⟨l,c,b⟩:=zEI (n:=n) (q:=q) W (C.two (.inr hk)) v;exact ⟨l,c,λ_=>b⟩
  ·unfold Bo;rw [hk];simp
  ·unfold I1;rw [hk];rfl
 ·obtain ⟨l,⟨N,c⟩,b⟩:=zKp (C.all (.inl hk) e) mG;refine At.eq (all 8 hk (N:=N) (ok:=true) (D:=Ic (con q i) q pos) (λn u=>⟨l,c n u,λ_=>b.by (C.all (.inl hk) e)⟩) ⟨λ_=>d hk (by decide) (by decide) (by decide) (by decide),λ_=>rfl⟩ λa s=>?_) λn=>?_
  ·unfold Bo;rw [hk];simp
  ·unfold I1;rw [hk];rfl
 ·refine At.eq ((zE4 (C.all (.inr hk) e) mG).mono λr j=>⟨?_,λh=>((j.2 h).by (C.all (.inr hk) e)).congr λa s=>?_⟩) λn=>?_
  ·rw [j.1];exact ⟨λh=>⟨λh=>absurd (hk.symm.trans h) (by decide),λh=>absurd (hk.symm.trans h) (by decide),λh=>absurd (hk.symm.trans h) (by decide),λ_=>h⟩,λh=>h.2.2.2 hk⟩
  ·unfold Bo;rw [hk];simp
  ·unfold I1;rw [hk];rfl
def yS {n:Nat}{F:Ξ}(hl:F.length=pos.length)(Ec:pos.length<=256)(hn:600<=n):
 ∃ x,x.length=pos.length/\ (∀ j,j<pos.length -> x.getD j 0=bits .andNot .i64 (pos.getD j 0) (F.getD j 0))/\ Jy q i pos n (.l2 pos.length (pos.length:Int) 0 F pos)=some (if BI x then List.replicate pos.length 0 else x):=by
 have lb:(256:Nat)<=LB:=by decide
 obtain ⟨a,x,Hh,_,e,b,B,JE⟩:=IU (λn (t:Ξ) k=>Jy q i pos n (.l2 pos.length (pos.length:Int) k F t)) pos.length 260
  (λk t=>t.length=pos.length/\ (∀ j,j<k -> t.getD j 0=bits .andNot .i64 (pos.getD j 0) (F.getD j 0))/\ ∀ j,k<=j -> t.getD j 0=pos.getD j 0) (λn k t GJ hk u=>by
   obtain ⟨h1,h2,h3⟩:=u
   show ∃ s',VQ n (Jy q i pos n) q i pos pos.length (pos.length:Int) (k:Int) F t=_/\ _
   unfold VQ;simp only [zCg,zGw];rw [zEE (by omega),zFR,zEZ ⟨⟨by omega,by omega⟩,by omega,⟨by omega,by omega⟩,by omega,Aj.2 ⟨by omega,by omega⟩⟩]
   grind) (n:=n) (s:=pos) (by omega) ⟨rfl,λj d=>absurd d (zGR j),λj _=>rfl⟩
 obtain ⟨f,rfl⟩: ∃ f,a=f+1:=⟨a-1,by omega⟩;refine ⟨x,b,B,Eq.trans e ?_⟩
 show VQ f (Jy q i pos f) q i pos pos.length (pos.length:Int) (pos.length:Int) F x=_
 unfold VQ;rw [zFd (by omega),zGF,zEZ b.symm,No (by omega) (by omega),zEb]
 grind
def X2 (n:Nat)(q:AA)(i:Int)(pos:Ξ)(G:Bool×Ξ):Option Ξ:= bif (!G.1) then (if pos.length=(List.replicate pos.length (0:Int)).length then some (List.replicate pos.length (0:Int)) else none) else Jy q i pos n (.l1 G.2)
def yV (C:Bq q i pos)(r:BI pos=false){n:Nat}(hn:601<=n){G:Bool×Ξ}(hy:KP q (con q i) pos G): ∃ x,X2 n q i pos G=some x/\ PR q (con q i) pos x:=by
 have m:=C.len256;have L:(1000000000000:Nat)=Ay:=rfl;have o:=FA.1 r;obtain ⟨b,lost⟩:=G;obtain ⟨f,u⟩:=hy;unfold X2;cases b with
 | false=>
  refine ⟨_,by grind,Tz,λA=>?_,λ_=>rfl⟩;have:=f.2 A.ok;cases this
 | true=>
  have f:=f.1 rfl;have u:CL (con q i) pos (List.replicate pos.length 0) (con q i).cells.length (Bo q (con q i) pos) lost:=u rfl;obtain ⟨n,rfl⟩: ∃ k,n=k+1:=⟨n-1,by omega⟩;obtain ⟨x,p,t,h3⟩:=yS (q:=q) (i:=i) (n:=n) u.1 m.2 (by omega)
  have v: ∀ j,j<pos.length -> CB (x.getD j 0)/\ ∀ s,tb (x.getD j 0) s=true↔tb (pos.getD j 0) s=true/\ ¬ LC q (con q i) pos j s:=λj d=>by
   rw [t j d];refine ⟨GO _ _ _,λs=>?_⟩;rw [Lo,zEh,zGr,←zM9,u.2,Q2];constructor
   ·rintro ⟨c,g⟩;refine ⟨c,λ⟨a,D,e,l⟩=>g (.inr ⟨a,D,e,?_,l⟩)⟩
    show tb (pos.getD ((con q i).cells.getD a 0).toNat 0) s=true
    rw [e];exact c
   ·rintro ⟨c,g⟩;refine ⟨c,λw=>w.elim (λh=>IG h) λ⟨a,D,e,_,l⟩=>g ⟨a,D,e,l⟩⟩
  have BH:cS n pos=some pos:=by
   unfold cS vg
   grind
  have e:Jy q i pos (n+1) (.l1 lost)=some (if BI x then List.replicate pos.length 0 else x):=by
   grind [qZ,Jy]
  refine ⟨_,by rw [zIA,zGF];exact e,?_,λA j d=>?_,λA=>?_⟩
  ·grind
  ·rw [zGN]
   ·exact v j d
   ·rw [zM9,FA];intro j d;rw [p] at d;obtain ⟨s,l,c,g⟩:=A.left j d
    grind [Ex]
  ·rw [zEZ];refine Classical.byContradiction λh=>A ?_
   rw [zM9,FA] at h;refine ⟨o,f,λj d=>?_⟩
   grind [Ex]
def zDO (C:Bq q i pos): ∃ x,Ev (λn=>Ky n q i pos) x/\ PR q (con q i) pos x:=by
 have Ec:=C.len256;have lb:(256:Nat)<=LB:=by decide
 have hi:0<=i/\ i<(q.cons.length:Int):=⟨C.i0,C.i1⟩;cases r:BI pos
 ·suffices H:At (λn=>Ky n q i pos) (PR q (con q i) pos) by
   obtain ⟨x,a,c⟩:=H.ev PR.uniq;exact ⟨x,c,a⟩
  obtain ⟨N,X⟩:=At.bindU (zB8 C r) (b:=λn G=>X2 n q i pos G) (Q:=PR q (con q i) pos) ⟨601,λn u G hy=>yV C r u hy⟩;refine ⟨N+300,λn u=>?_⟩;obtain ⟨x,a,c⟩:=X n (by omega);refine ⟨x,Eq.trans ?_ a,c⟩
  show Ky n q i pos=(I1 n q (con q i) pos).bind λG=>X2 n q i pos G
  unfold Ky fc;rw [zEZ ⟨rfl,by omega,by omega⟩,No (by omega) (by omega),r,zEb,zGF,zEZ hi];have l:q.cons.getD i.toNat default=con q i:=rfl;rw [l];have J:=Pi (Ph C.kind);unfold I1;rcases J with hk | hk | hk | hk | hk | hk | hk | hk | hk <;> rw [hk] <;> rfl
 ·refine ⟨List.replicate pos.length 0,⟨300,λn u=>?_⟩,Tz,λA=>?_,λ_=>rfl⟩
  ·show Ky n q i pos=_
   unfold Ky fc;rw [zEZ ⟨rfl,by omega,by omega⟩,No (by omega) (by omega),r,zEb,zFR,zEZ Tz.symm]
  ·have:=FA.2 A.nz;rw [r] at this;cases this
def PrP (q:AA)(i:Int)(pos:Ξ)(r:Ξ×Int):Prop:=r.2=Lg q i pos/\ (r.2=0 -> PR q (con q i) pos r.1)/\ (r.2≠0 -> r.1= [])
def zDS (Q:DK q)(m:pos.length<=LB): ∃ r,Ev (λn=>PG n q i pos) r/\ PrP q i pos r:=by
 have C:Ev (λn=>Ta n q i pos) (Lg q i pos):=⟨Dz q+pos.length+1,λn hn=>zLA Q (by omega) m (by omega)⟩
 by_cases h0:Lg q i pos=0
 ·obtain ⟨x,a,c⟩:=zDO (Bq.of Q h0);refine ⟨(x,0),?_,h0.symm,λ_=>c,λh=>absurd rfl h⟩;refine Ev.eq (Ev.bind C (b:=λn k=>bif (k != 0) then some (([]:Ξ),k) else (Ky n q i pos).bind λG=>some (G,0)) ?_) λn=>rfl
  rw [h0];exact Ev.bind a (b:=λ_ G=>some (G,0)) (Ev.now λn=>rfl)
 ·refine ⟨([],Lg q i pos),?_,rfl,λh=>absurd h h0,λ_=>rfl⟩;refine Ev.eq (Ev.bind C (b:=λn k=>bif (k != 0) then some (([]:Ξ),k) else (Ky n q i pos).bind λG=>some (G,0)) (Ev.now λn=>?_)) λn=>rfl
  grind
end
end
section
structure OA (q:AA)(c:AD)(p:Ξ):Prop where
 nz: ∀ k,k<c.cells.length -> Ad c p k≠0
 ok:Cq q c p
 left: ∀ k,k<c.cells.length -> ∃ s,tb (Ad c p k) s=true/\ ¬ Bo q c p k s
variable {α:Type}
def XF {f g:α -> Bool}: ∀ (l:List α),(∀ x∈l,f x=true -> g x=true) -> l.countP f<=l.countP g
 | [],_=>zGT _
 | x::l,h=>by
  have h1:=XF l λy hy=>h y (zH5 _ hy)
  grind
def Mf {f g:α -> Bool}{a:α}(M:f a=false)(j:g a=true): ∀ (l:List α),(∀ x∈l,f x=true -> g x=true) -> a∈l -> l.countP f+1<=l.countP g
 | [],_,h=>by cases h
 | x::l,h,ha=>by
  rw [List.countP_cons,List.countP_cons];rcases zIq.1 ha with rfl | ha
  ·simp_all [XF]
  ·have h1:=Mf M j l (λy hy=>h y (zH5 _ hy)) ha
   grind
variable {m:Nat}{f g:Nat -> Bool}
def ve (h: ∀ a,a<m -> f a=true -> g a=true):cnt f m<=cnt g m:=by
 unfold cnt;have:=XF (f:=f) (g:=g) (List.range m) λx e=>h x (zGQ.1 e)
 omega
def vd {a:Nat}(h: ∀ a,a<m -> f a=true -> g a=true)(D:a<m)(M:f a=false)(j:g a=true):cnt f m+1<=cnt g m:=by
 unfold cnt;have:=Mf M j (List.range m) (λx e=>h x (zGQ.1 e)) (zGQ.2 D);omega
def od {k:Nat}{x:Int}(a:Sm k x)(hk:k<=16)(h:NC x=true){s t:Nat}(j:tb x s=true)(ht:tb x t=true):s=t:=by
 have kG:=NZ (k:=k) (zGK hk (by decide));obtain ⟨m,rfl⟩:=zMM a.1;have p:m<18446744073709551616:=by have:=a.2;omega
 have lo: ∀ {u:Nat},tb (m:Int) u=true -> u<64:=λ{u} hu=>zGa λh=>by rw [Ln h] at hu;cases hu
 have h0:m≠0:=by
  rintro rfl;exact IG j
 have e:m&&& (m-1)=0:=by
  unfold NC at h;rw [zGk] at h;apply Nat.eq_of_testBit_eq;intro u;rw [Nat.zero_testBit,Nat.testBit_and];rcases zIW u 64 with hu | hu
  ·have h2:=(M6 (GO .and _ _)).1 h u hu
   grind [Iq,Ki]
  ·rw [Nat.testBit_lt_two_pow (zGS p (zNd (n:=2) (by decide) hu)),zNk]
 have S:=n5 m p h0;rw [e,n0] at S
 have mem: ∀ {u:Nat},tb (m:Int) u=true -> u∈Fm m:=λ{u} hu=>by
  grind [Fm,Ki]
 grind
section
variable {q:AA} {i:Int} {p p':Ξ}
variable {s:Nat}{x:Int}{c:AD}
theorem iN (h:bits .andNot .i64 x c.set=0)(j:tb x s=true):tb c.set s=true:=by
 have S6:s<64:=zGa λh=>by rw [Ln h] at j;cases j
 simp_all [M6,GO,Lo]
variable {x':Int}
def lm (h: ∀ s,tb x' s=true -> tb x s=true)(hx:bits .andNot .i64 x c.set=0):bits .andNot .i64 x' c.set=0:=
 (M6 (GO .andNot _ _)).2 λs hs=>by
  grind [Lo,iN]
def ll (h: ∀ s,tb x' s=true -> tb x s=true)(e:bits .and .i64 x' c.set≠0):bits .and .i64 x c.set≠0:=by
 obtain ⟨s,j,a⟩:=(Ex (GO .and _ _)).1 e;rw [Iq,zEh] at a;exact (Ex (GO .and _ _)).2 ⟨s,j,by rw [Iq,h s a.1,a.2];rfl⟩
def wl (a:tb x s=true)(b:tb c.set s=true):bits .and .i64 x c.set≠0:=by
 have D:s<64:=zGa λh=>by rw [Ln h] at a;cases a
 exact (Ex (GO .and _ _)).2 ⟨s,D,by rw [Iq,a,b];rfl⟩
theorem zLz (h1:tb x s=true)(h2:tb c.set s=false):bits .andNot .i64 x c.set≠0:=by
 grind [Ln,Ex,GO,Lo]
def HG (c:AD)(p' p:Ξ):Prop:=∀ k,k<c.cells.length -> ∀ s,tb (Ad c p' k) s=true -> tb (Ad c p k) s=true
variable {a k:Nat}
def zKJ (W:B7 c k p)(j:HG c p' p)(D: ∀ a,a<c.cells.length -> CB (Ad c p' a))(M: ∀ a,a<c.cells.length -> Ad c p' a≠0)(h:Qe c p a s):Qe c p' a s:=by
 obtain ⟨b,d,l,f,g⟩:=h;have i:=W.at d
 have e:Ad c p' b=Ad c p b:=by
  refine Kj (D b d) (i.in64 (by have:=W.k;omega)) λt _=>?_
  obtain ⟨u,_,q⟩:=(Ex (D b d)).1 (M b d);have F:u=s:=od i W.k f (j b d u q) g;subst F;cases X:tb (Ad c p b) t with
  | true=>
   have:t=u:=od i W.k f X g;subst this;exact q
  | false=>
   cases v:tb (Ad c p' b) t with
   | false=>rfl
   | true=>rw [j b d t v] at X;cases X
 refine ⟨b,d,l,?_,?_⟩
 ·rw [e];exact f
 ·rw [e];exact g
def re (b:HG c p' p)(D:a<c.cells.length)(h:EZ c p a=true):EZ c p' a=true:=by
 unfold EZ at h ⊢;rw [zGk] at h ⊢;exact lm (b a D) h
def rp (b:HG c p' p)(d: ∀ a,a<c.cells.length -> CB (Ad c p' a))(M: ∀ a,a<c.cells.length -> Ad c p' a≠0)(D:a<c.cells.length)(h:Fa c p' a=true):Fa c p a=true:=by
 unfold Fa at h ⊢;rw [zGq,zJQ] at h ⊢;right;rcases h with h | h
 ·unfold EZ at h;rw [zGk] at h;obtain ⟨u,_,q⟩:=(Ex (d a D)).1 (M a D);exact wl (b a D u q) (iN h q)
 ·exact ll (b a D) h
def zKY (b:HG c p' p)(e: ∀ a,a<c.cells.length -> CB (Ad c p' a))(M: ∀ a,a<c.cells.length -> Ad c p' a≠0)(n:Mg c p'=true):
 Mg c p=true/\ ∀ a s,a<c.cells.length -> tb (Ad c p' a) s=true -> JU c p a s=true -> JU c p' a s=true:=by
 have m1:=ve (f:=EZ c p) (g:=EZ c p') (m:=c.cells.length) λa D=>re b D
 have m2:=ve (f:=Fa c p') (g:=Fa c p) (m:=c.cells.length) λa D=>rp b e M D
 unfold Mg at n ⊢;rw [zEh,zGr,zGr,zIJ,zIJ] at n ⊢;refine ⟨⟨by omega,by omega⟩,λa s D hs h=>?_⟩;unfold JU at h ⊢;rw [zGq,zEh,zEh,zEh,zEh,zGk,zGk,zJQ,zJQ,zGr] at h ⊢;rcases h with ⟨⟨j,i⟩,d⟩ | ⟨⟨j,i⟩,d⟩
 ·refine .inl ⟨⟨by omega,λA=>?_⟩,d⟩;have:=vd (f:=EZ c p) (g:=EZ c p') (m:=c.cells.length) (a:=a) (λa D=>re b D) D (by unfold EZ;exact zH4.2 i) (by unfold EZ;exact zGk.2 A);omega
 ·refine .inr ⟨⟨by omega,λA=>?_⟩,d⟩
  have:=vd (f:=Fa c p') (g:=Fa c p) (m:=c.cells.length) (a:=a) (λa D=>rp b e M D) D
   (by
    grind [Fa,EZ,zLz]) (by simp_all [Fa])
  omega
def dY {f g:Nat -> Int}: ∀ {m:Nat},(∀ a,a<m -> f a<=g a) -> Ck f m<=Ck g m/\ ∀ a,a<m -> Ck f m-f a<=Ck g m-g a
 | 0,_=>⟨zGl _,λa D=>absurd D (zGR a)⟩
 | m+1,h=>by
  obtain ⟨h1,h2⟩:=dY (m:=m) λa D=>h a (by omega)
  have hm:=h m (by omega);have e: ∀ f:Nat -> Int,Ck f (m+1)=Ck f m+f m:=λf=>rfl
  grind
variable {n:Int}
def gm : ∀ (l:Ξ) (a:Int),n<=l.foldl (LF q) a↔n<=a/\ ∀ e∈l,n<=q.values.getD e.toNat 0
 | [],a=>by simp
 | e::l,a=>by
  rw [zIr,gm l];unfold LF
  grind
def jY : ∀ (l:Ξ) (a:Int),l.foldl (LQ q) a<=n↔a<=n/\ ∀ e∈l,q.values.getD e.toNat 0<=n
 | [],a=>by simp
 | e::l,a=>by
  rw [zIr,jY l];unfold LQ
  grind
def dh (hk:k<=16)(a:Sm k x)(A:Sm k x')(h: ∀ s,tb x' s=true -> tb x s=true): ∀ e∈Bj x',e∈Bj x:=λe J=>by
 obtain ⟨s,rfl,b,c⟩:=(Fq A (zGK hk (by decide))).1 J;exact (Fq a (zGK hk (by decide))).2 ⟨s,rfl,b,h s c⟩
def yg (W:B7 c k p)(o:B7 c k p')(b:HG c p' p)(n:Lr q c p'=true):
 Lr q c p=true/\ ∀ a s,a<c.cells.length -> Is q c p a s=true -> Is q c p' a s=true:=by
 have sub: ∀ a,a<c.cells.length -> ∀ e∈Bj (Ad c p' a),e∈Bj (Ad c p a):=λa D=>dh W.k (W.at D) (o.at D) (b a D)
 have S: ∀ a,a<c.cells.length -> FK q (Ad c p a)<=FK q (Ad c p' a):=λa D=>by
  have h:=(gm (q:=q) (Bj (Ad c p a)) 100).1 (zGl _);exact (gm (Bj (Ad c p' a)) 100).2 ⟨h.1,λe J=>h.2 e (sub a D e J)⟩
 have d: ∀ a,a<c.cells.length -> FM q (Ad c p' a)<=FM q (Ad c p a):=λa D=>by
  have h:=(jY (q:=q) (Bj (Ad c p a)) (-1)).1 (zGl _);exact (jY (Bj (Ad c p' a)) (-1)).2 ⟨h.1,λe J=>h.2 e (sub a D e J)⟩
 have t1:=dY (f:=λa=>FK q (Ad c p a)) (g:=λa=>FK q (Ad c p' a)) (m:=c.cells.length) S;have t2:=dY (f:=λa=>FM q (Ad c p' a)) (g:=λa=>FM q (Ad c p a)) (m:=c.cells.length) d;have w: ∀ p,LD q c p=Ck (λa=>FK q (Ad c p a)) c.cells.length:=λ_=>rfl
 have z: ∀ p,LP q c p=Ck (λa=>FM q (Ad c p a)) c.cells.length:=λ_=>rfl
 unfold Lr at n ⊢;rw [zEh,zGr,zGr,zIJ,zIJ,w,z] at n ⊢;refine ⟨⟨by omega,by omega⟩,λa s D h=>?_⟩;unfold Is at h ⊢
 grind
variable {b:Int}
def Xu : ∀ (l:Ξ) (a:Int),n<=l.foldl (Kh q b) a↔n<=a/\ ∀ e∈l,q.values.getD e.toNat 0>b -> n<=q.values.getD e.toNat 0
 | [],a=>by simp
 | e::l,a=>by
  rw [zIr,Xu l];unfold Kh
  grind
def bv : ∀ (l:Ξ) (a:Int),l.foldl (KQ q b) a<=n↔a<=n/\ ∀ e∈l,q.values.getD e.toNat 0<b -> q.values.getD e.toNat 0<=n
 | [],a=>by simp
 | e::l,a=>by
  rw [zIr,bv l];unfold KQ
  grind
def wK (W:B7 c k p)(o:B7 c k p')(d:HG c p' p): ∀ a,a<=c.cells.length -> Gh q c p a<=Gh q c p' a
 | 0,_=>zGl _
 | a+1,ha=>by
  have ih:=wK W o d a (by omega);have h:=(Xu (q:=q) (b:=Gh q c p a) (Bj (Ad c p a)) 100).1 (zGl _);exact (Xu (Bj (Ad c p' a)) 100).2 ⟨h.1,λe J hg=>h.2 e (dh W.k (W.at (by omega)) (o.at (by omega)) (d a (by omega)) e J) (by omega)⟩
def xC (W:B7 c k p)(o:B7 c k p')(a:HG c p' p): ∀ m,m<=c.cells.length -> H8 q c p' m<=H8 q c p m
 | 0,_=>zGl _
 | m+1,hm=>by
  have ih:=xC W o a m (by omega);have h:=(bv (q:=q) (b:=H8 q c p m) (Bj (Ad c p (c.cells.length-1-m))) (-1)).1 (zGl _);exact (bv (Bj (Ad c p' (c.cells.length-1-m))) (-1)).2 ⟨h.1,λe J hg=>h.2 e (dh W.k (W.at (by omega)) (o.at (by omega)) (a _ (by omega)) e J) (by omega)⟩
theorem zCN (W:B7 c k p)(o:B7 c k p')(b:HG c p' p)(ha:a<c.cells.length)(h:IL q c p a s=true):IL q c p' a s=true:=by
 have h1:=wK (q:=q) W o b a (by omega);have h2:=xC (q:=q) W o b (c.cells.length-(a+1)) (by omega);unfold IL KY at h ⊢
 grind
variable {inn:Bool}
def iD (b:HG c p' p)(D:a<c.cells.length)(h:kd c p' a inn=true):kd c p a inn=true:=by
 unfold kd at h ⊢;cases inn
 ·rw [zGF,zJQ] at h ⊢;exact λd=>h (lm (b a D) d)
 ·rw [zFR,zJQ] at h ⊢;exact ll (b a D) h
def fO (b:HG c p' p): ∀ (a:Nat),a<=c.cells.length -> ∀ t,Fv c p' a t -> Fv c p a t
 | 0,_,t,h=>h
 | a+1,ha,t,⟨s,inn,d,e,f⟩=>⟨s,inn,fO b a (by omega) s d,e,iD b (by omega) f⟩
def sJ (a:HG c p' p): ∀ (m:Nat),m<=c.cells.length -> ∀ t,Jf c p' m t -> Jf c p m t
 | 0,_,t,h=>h
 | m+1,hm,t,⟨b,u,inn,d,e,A⟩=>⟨fO a _ (by omega) t b,u,inn,d,iD a (by omega) e,sJ a m (by omega) u A⟩
def vv (b:HG c p' p)(D:a<c.cells.length)(h:KV c p' a inn):KV c p a inn:=by
 obtain ⟨s,t,d,e,f,A⟩:=h;exact ⟨s,t,fO b a (by omega) s d,e,iD b D f,sJ b _ (by omega) t A⟩
theorem zBf (d:HG c p' p)(D:a<c.cells.length)(h:Jq c p a s):Jq c p' a s:=
 h.elim (λh=>.inl ⟨λb=>h.1 (vv d D b),h.2⟩) λh=>.inr ⟨λb=>h.1 (vv d D b),h.2⟩
theorem qq {ok:Nat -> Nat -> Bool}(d:HG c p' p)(h2:c.cells.length=2)(h:Gs ok c p a s):Gs ok c p' a s:=by
 unfold Gs at h ⊢;split
 ·rename_i h0;rw [zEZ h0] at h;exact λ⟨t,b,A⟩=>h ⟨t,d 1 (by omega) t b,A⟩
 ·rename_i h0;rw [zGN h0] at h;exact λ⟨t,b,A⟩=>h ⟨t,d 0 (by omega) t b,A⟩
structure Oc (c:AD)(q:AA)(p p':Ξ):Prop where
 W:FT c q p
 W':FT c q p'
 len:p.length=p'.length
 sub: ∀ j,j<p.length -> ∀ s,tb (p'.getD j 0) s=true -> tb (p.getD j 0) s=true
section
variable {c:AD}
theorem Oc.pB (H:Oc c q p p'): ∀ v:Int,(pB c p').getD v.toNat false=true -> (pB c p).getD v.toNat false=true:=λv h=>by
 have hl:=H.len
 by_cases a:v.toNat<p.length
 ·rw [VY (by omega),zJQ] at h;rw [VY a,zJQ];exact ll (H.sub _ a) h
 grind [GC]
theorem Oc.cB (H:Oc c q p p'): ∀ v:Int,(cB c p).getD v.toNat false=true -> (cB c p').getD v.toNat false=true:=λv h=>by
 have hl:=H.len
 by_cases a:v.toNat<p.length
 ·rw [XN a,zGk] at h;rw [XN (by omega),zGk];exact lm (H.sub _ a) h
 grind [HD]
variable {j:Nat}
def rD {x:Ξ}{s:Nat}(d:j<x.length)(a:tb (x.getD j 0) s=true)(b:tb c.set s=true):(pB c x).getD j false=true:=by
 rw [VY d,zJQ];exact wl a b
theorem oh {x:Ξ}{s:Nat}(d:j<x.length)(h:(cB c x).getD j false=true)(a:tb (x.getD j 0) s=true):tb c.set s=true:=by
 rw [XN d,zGk] at h;exact iN h a
variable {v r:Int}
def keep (W:FT c q p')(K: ∀ v,v<p'.length -> ∃ s,tb (p'.getD v 0) s=true/\ ¬ Fr c q p' v s)(h0:0<=r)(Q:HI (cB c p') r)(JH:0<=v)(Bs:v<(p'.length:Int))(l:(cB c p').getD v.toNat false=true):Rc q.nbrs (pB c p') r v:=by
 refine Classical.byContradiction λh=>?_
 obtain ⟨s,a,b⟩:=K v.toNat (by omega);have e:((v.toNat:Nat):Int)=v:=by omega
 exact b ⟨W.cp (by omega) l,oh (by omega) l a,r,h0,Q,by rw [e];exact h⟩
def HI.ex (W:FT c q p')(JH:0<=v)(Bs:v<(p'.length:Int))(hc:(cB c p').getD v.toNat false=true): ∃ r:Int,0<=r/\ r<(p'.length:Int)/\ HI (cB c p') r/\ (cB c p').getD r.toNat false=true:=by
 obtain ⟨r,_,Q⟩:=Vu (l:=cB c p') (by rw [HD];exact W.l1);rcases Q with ⟨a,b⟩ | ⟨a,b,h,A⟩
 ·grind
 ·rw [HD] at b;exact ⟨r,a,b,.inr ⟨a,by rw [HD];exact b,h,A⟩,h⟩
def HI.at (h0:0<=r)(h:HI (cB c p) r):r<(p.length:Int)/\ (cB c p).getD r.toNat false=true:=by
 rcases h with ⟨a,_⟩ | ⟨_,a,h2,_⟩
 ·omega
 grind [HD]
def ux (H:Oc c q p p')(K: ∀ v,v<p'.length -> ∃ s,tb (p'.getD v 0) s=true/\ ¬ Fr c q p' v s){a s:Nat}(ha:a<p.length)(j:tb (p'.getD a 0) s=true)(h:Fr c q p a s):Fr c q p' a s:=by
 obtain ⟨h1,d,r,b,Q,e⟩:=h;have hl:=H.len;have gl:=H.W'.gl;obtain ⟨V5,G⟩:=Q.at b;have P:=H.cB r G;obtain ⟨U,A,h5,M,k⟩:=HI.ex H.W' b (by omega) P;refine ⟨rD (by omega) j d,d,U,A,M,λf=>e ?_⟩;have i:=keep H.W' K A M b (by omega) P;have Y:=i.symm H.W'.g.gr A (by omega) (H.W'.cp (by omega) k);exact (Y.trans f).mono H.pB
def zLm {g:List Ξ}{inn:Ω}{u a:Int}(H: ¬ Rc g inn u a)(ha:0<=a)(G:Gr g)(S:0<=u)(J:u<(g.length:Int))(h:Rc g inn u v):Rc g (inn.set a.toNat false) u v:=by
 induction h with
 | start=>exact .start
 | @step x y h c hi U=>
  refine .step U c ?_;have hr:=(Rc.step h c hi).rng G S J
  have AY:a.toNat≠y.toNat:=λe=>H (by
   have z:a=y:=by omega
   rw [z];exact Rc.step h c hi)
  grind
def zKo (H:Oc c q p p')(K: ∀ v,v<p'.length -> ∃ s,tb (p'.getD v 0) s=true/\ ¬ Ic c q p' v s){a s:Nat}(D:a<p.length)(r:tb (p'.getD a 0) s=true)(h:Ic c q p a s):Ic c q p' a s:=by
 have hl:=H.len;have gl:=H.W'.gl;have gl1:=H.W.gl
 have b: ∀ v,v<p'.length -> ∃ s,tb (p'.getD v 0) s=true/\ ¬ Fr c q p' v s:=λv d=>by
  obtain ⟨t,i,k⟩:=K v d;exact ⟨t,i,λh=>k (.inl h)⟩
 rcases h with h | ⟨i,k,⟨u,v,I,J,x,d,y,A,l⟩,z⟩
 ·exact .inl (ux H b D r h)
 ·have X:=y.rng H.W.g.gr (by omega) (by omega);have B:=A.rng H.W.g.gr (by omega) (by omega);have E:=H.cB u x;have m:=H.cB v d;have Q:=H.W'.cp (j:=u.toNat) (by omega) E;obtain ⟨r',f,h8,M,Y⟩:=HI.ex H.W' X.1 (by omega) E;have F:=keep H.W' b f M X.1 (by omega) E;have G:=keep H.W' b f M B.1 (by omega) m;have R:Rc q.nbrs (pB c p') u v:=(F.symm H.W'.g.gr f (by omega) (H.W'.cp (by omega) Y)).trans G
  have S: ∀ w:Int,((pB c p').set (a:Int).toNat false).getD w.toNat false=true -> ((pB c p).set (a:Int).toNat false).getD w.toNat false=true:=λw U=>by
   have la:(pB c p').length=p'.length:=GC;have lb:(pB c p).length=p.length:=GC;rw [Ql (by omega)] at U ⊢;split
   ·grind
   ·rename_i e;rw [zGN e] at U;exact H.pB w U
  have T:Rc q.nbrs (pB c p') u a:=Classical.byContradiction λo=>l ((zLm o (by omega) H.W'.g.gr X.1 (by omega) R).mono S)
  have n:=T.symm H.W'.g.gr X.1 (by omega) Q;refine .inr ⟨?_,?_,⟨u,v,I,J,E,m,n,n.trans R,λo=>l (o.mono S)⟩,z⟩
  ·have:=T.isIn Q
   rwa [zCg] at this
  grind [oh]
def zE2 (H:Oc c q p p')(n:Pd c q p')(m: ∀ v,v<p'.length -> ∃ s,tb (p'.getD v 0) s=true/\ ¬ Nk c q p' v s):Pd c q p/\ ∀ a s,a<p.length -> tb (p'.getD a 0) s=true -> Nk c q p a s -> Nk c q p' a s:=by
 have hl:=H.len
 have o: ∀ v,v<p'.length -> ∃ s,tb (p'.getD v 0) s=true/\ ¬ Fr c q p' v s:=λv i=>by
  obtain ⟨t,d,b⟩:=m v i;exact ⟨t,d,λh=>b (.inl h)⟩
 have K: ∀ v:Nat,(cB c p).getD v false=true -> (cB c p').getD v false=true:=λv h=>H.cB (v:Int) h
 have r: ∀ v:Int,Cc q.nbrs (pB c p') v<=Cc q.nbrs (pB c p) v:=λv=>XF _ λx _ h=>H.pB x h
 have D: ∀ v:Int,Cc q.nbrs (cB c p) v<=Cc q.nbrs (cB c p') v:=λv=>XF _ λx _ h=>H.cB x h
 refine ⟨λv i l=>?_,λa s u k h=>?_⟩
 ·have:=n v (by omega) (K v l)
  grind
 ·rcases h with h | ⟨v,i,d,b,w,A⟩
  ·exact .inl (ux H o u k h)
  ·have hk:=n v (by omega) (K v d);have e1:=r v;have e2:=D v;refine .inr ⟨v,by omega,K v d,b,?_⟩;rcases A with ⟨A,j⟩ | ⟨A,j,y⟩
   ·have e:(pB c p').getD a false=true:=by
     cases e:(pB c p').getD a false with
     | true=>rfl
     | false=>
      have:=Mf (f:=λx:Int=>(pB c p').getD x.toNat false) (g:=λx:Int=>(pB c p).getD x.toNat false) (a:=(a:Int)) e w (nb q.nbrs v) (λx _ h=>H.pB x h) b
      grind [Cc]
    exact ⟨e,.inl ⟨by omega,j⟩⟩
   ·have e:=rD (c:=c) (by omega) k y
    have l:(cB c p').getD a false=false:=by
     cases l:(cB c p').getD a false with
     | false=>rfl
     | true=>
      have:=Mf (f:=λx:Int=>(cB c p).getD x.toNat false) (g:=λx:Int=>(cB c p').getD x.toNat false) (a:=(a:Int)) j l (nb q.nbrs v) (λx _ h=>H.cB x h) b
      grind [Cc]
    grind
end
theorem mono (C:Bq q i p)(f:Bq q i p')(l:HG (con q i) p' p)(A:OA q (con q i) p'):
 Cq q (con q i) p/\ ∀ k,k<(con q i).cells.length -> ∀ s,tb (Ad (con q i) p' k) s=true -> Bo q (con q i) p k s -> Bo q (con q i) p' k s:=by
 have W:=C.work;have o:=f.work;have D: ∀ a,a<(con q i).cells.length -> CB (Ad (con q i) p' a):=λa w=>(o.at w).in64 (by have:=o.k;omega)
 have J:=Pi (Ph C.kind);have m: ∀ {k:Int},(con q i).kind=k -> k≠2 -> k≠3 -> k≠9 -> Cq q (con q i) p:=λhk b y Y=>⟨λh=>absurd (hk.symm.trans h) b,λh=>absurd (hk.symm.trans h) y,A.ok.2.2.1,λh=>absurd (hk.symm.trans h) Y⟩
 have all: ∀ {hk:(con q i).kind=8∨(con q i).kind=9},Oc (con q i) q p p':=λ{hk}=>by
  have r:=C.len;have Fc:=f.len
  have u:BI p'=false:=FA.2 λj d=>by
   have hk8:(con q i).cells.length=p'.length:=by
    have h:=f.kind
    grind [Hx]
   have:=A.nz j (by omega)
   have e:Ad (con q i) p' j=p'.getD j 0:=by
    unfold Ad;rw [f.cells.2.2 (by omega) j (by omega),zCg]
   rwa [e] at this
  have E:=f.all hk u
  have V: ∀ j,j<p.length -> ∀ s,tb (p'.getD j 0) s=true -> tb (p.getD j 0) s=true:=λj d s c=>by
   have e: ∀ x:Ξ,Ad (con q i) x j=x.getD j 0:=λx=>by
    unfold Ad;rw [E.id j (by omega),zCg]
   have:=l j (by rw [E.len];omega) s (by rw [e];exact c)
   rwa [e] at this
  have z:BI p=false:=FA.2 λj d=>by
   have h:=FA.1 u j (by omega);obtain ⟨s,n,b⟩:=(Ex ((f.sm j (by omega)).in64 (by have:=o.k;omega))).1 h;exact (Ex ((C.sm j d).in64 (by have:=o.k;omega))).2 ⟨s,n,V j d s b⟩
  exact ⟨C.all hk z,E,by omega,V⟩
 rcases J with hk | hk | hk | hk | hk | hk | hk | hk | hk
 ·refine ⟨m hk (by decide) (by decide) (by decide),λk g s c h=>?_⟩;unfold Bo at h ⊢;rw [hk] at h ⊢;simp at h ⊢;exact zKJ W l D A.nz h
 ·have b:=zKY l D A.nz (A.ok.1 hk);refine ⟨⟨λ_=>b.1,λh=>absurd (hk.symm.trans h) (by decide),A.ok.2.2.1,λh=>absurd (hk.symm.trans h) (by decide)⟩,λk g s c h=>?_⟩
  simp_all [Bo]
 ·have b:=yg (q:=q) W o l (A.ok.2.1 hk);refine ⟨⟨λh=>absurd (hk.symm.trans h) (by decide),λ_=>b.1,A.ok.2.2.1,λh=>absurd (hk.symm.trans h) (by decide)⟩,λk g s c h=>?_⟩
  simp_all [Bo]
 ·grind [Bo,zCN]
 ·grind [Bo,zBf]
 ·refine ⟨m hk (by decide) (by decide) (by decide),λk g s c h=>?_⟩;have b:=C.two (.inl hk)
  grind [Bo,qq]
 ·refine ⟨m hk (by decide) (by decide) (by decide),λk g s c h=>?_⟩;have b:=C.two (.inr hk)
  grind [Bo,qq]
 ·have H:=all (hk:=.inl hk)
  have e: ∀ (x:Ξ) (j:Nat),j<p.length -> Ad (con q i) x j=x.getD j 0:=λx j d=>by
   unfold Ad;rw [H.W.id j d,zCg]
  have N:=H.W.len;have r:=H.len;have G: ∀ x a s,Bo q (con q i) x a s↔Ic (con q i) q x a s:=λx a s=>by unfold Bo;rw [hk];simp
  refine ⟨m hk (by decide) (by decide) (by decide),λk g s c h=>?_⟩;rw [G] at h ⊢;rw [e _ _ (by omega)] at c;refine zKo H (λv B=>?_) (by omega) c h;obtain ⟨t,n,b⟩:=A.left v (by omega)
  grind
 ·have H:=all (hk:=.inr hk)
  have e: ∀ (x:Ξ) (j:Nat),j<p.length -> Ad (con q i) x j=x.getD j 0:=λx j d=>by
   unfold Ad;rw [H.W.id j d,zCg]
  have N:=H.W.len;have r:=H.len;have G: ∀ x a s,Bo q (con q i) x a s↔Nk (con q i) q x a s:=λx a s=>by unfold Bo;rw [hk];simp
  have b:=zE2 H (A.ok.2.2.2 hk) λv B=>by
   obtain ⟨t,n,b⟩:=A.left v (by omega)
   grind
  refine ⟨⟨λh=>absurd (hk.symm.trans h) (by decide),λh=>absurd (hk.symm.trans h) (by decide),A.ok.2.2.1,λ_=>b.1⟩,λk g s c h=>?_⟩
  grind
end
end
section
set_option maxRecDepth 100000
set_option maxHeartbeats 40000000
end
section
set_option maxRecDepth 100000
set_option maxHeartbeats 40000000
def qS (n:Nat)(m E:Int):Option Bool:= bif (decide (E>=0)) then bif (decide (E<16)) then if 0<=E/\ E<=(IntKind.i64.bits:Int) then some ((bits .and .i64 m (IntKind.i64.wrap (1*2 ^ (E).toNat))) != 0) else none else some false else some false
def IM (n:Nat)(m E:Int):Option Bool:=qS n m E
variable {r:Bool}{n:Nat}
def Kv {m E:Int}(h:IM n m E=some r):EQ 72 [.i m,.i E] [] (.bool r) [] true:=by
 refine ot Tryz.func72 λB N=>?_
 revert r;apply gO;exact bi 6 (bi 9 (gi (lE AC [4] [])) (lE AC [4] [])) (lE AC [4] [])
def qT (n:Nat)(a S N:Int):Option Bool:= if AG (a-S) then bif (decide ((a-S)>=N)) then some true else if AG (S-a) then some (decide ((S-a)>=N)) else none else none
def fV (n:Nat)(a S N:Int):Option Bool:=qT n a S N
def zDH {a S b:Int}(h:fV n a S b=some r):EQ 71 [.i a,.i S,.i b] [] (.bool r) [] true:=by
 refine ot Tryz.func71 λB N=>?_
 revert r;apply gO;exact gw 9 (bi 11 (lE AC [6] []) (gw 15 (lE AC [6] [])))
inductive Rt where
 | l1 (x8:Bool) (o0:Ω)
 | l2 (x8:Bool) (x9:Int) (o0:Ω)
 | l3 (x8:Bool) (x9 x10:Int) (o0:Ω)
def fT (n:Nat)(self:Rt -> Option (Ω))(E:List Ξ)(AL:Ω)(start:Int)(x8:Bool)(o0:Ω):Option (Ω):= bif x8 then self (.l2 false 0 o0) else if E.length=o0.length then some o0 else none
def fS (n:Nat)(self:Rt -> Option (Ω))(E:List Ξ)(AL:Ω)(start:Int)(x8:Bool)(K:Int)(o0:Ω):Option (Ω):= bif (decide (K<(E.length:Int))) then self (.l3 x8 K 0 o0) else self (.l1 x8 o0)
def VF (n:Nat)(self:Rt -> Option (Ω))(E:List Ξ)(R:Ω)(start:Int)(x8:Bool)(K x10:Int)(o0:Ω):Option (Ω):= if 0<=K/\ K<(E.length:Int) then bif (decide (x10<(((E.getD K.toNat []).length:Nat):Int))) then if 0+K.toNat<o0.length then bif (o0.getD (0+K.toNat) false) then if (0<=x10/\ x10<(((E.getD K.toNat []).length:Nat):Int))/\ ((0:Int)<=((E.getD K.toNat []).getD x10.toNat 0)/\ ((E.getD K.toNat []).getD x10.toNat 0)<(R.length:Int)) then bif (R.getD (((E.getD K.toNat []).getD x10.toNat 0).toNat) false) then if ((0:Int)<=((E.getD K.toNat []).getD x10.toNat 0)/\ ((E.getD K.toNat []).getD x10.toNat 0)<(E.length:Int))/\ 0+(((E.getD K.toNat []).getD x10.toNat 0).toNat)<o0.length then bif (!(o0.getD (0+(((E.getD K.toNat []).getD x10.toNat 0).toNat)) false)) then if AG (x10+1) then self (.l3 true K (x10+1) (o0.set (0+(((E.getD K.toNat []).getD x10.toNat 0).toNat)) true)) else none else if AG (x10+1) then self (.l3 x8 K (x10+1) o0) else none else none else if AG (x10+1) then self (.l3 x8 K (x10+1) o0) else none else none else if AG (x10+1) then self (.l3 x8 K (x10+1) o0) else none else none else if AG (K+1) then self (.l2 x8 (K+1) o0) else none else none
def qQ (n:Nat)(self:Rt -> Option (Ω))(E:List Ξ)(AL:Ω)(start:Int):Option (Ω):= if (((E.length:Int):Int)=(E.length:Int)/\ 0<=(E.length:Int)/\ ((E.length:Int):Int)<=1000000000000)/\ (0<=start/\ start<(E.length:Int))/\ 0+start.toNat<(List.replicate E.length false).length then self (.l1 true ((List.replicate E.length false).set (0+start.toNat) true)) else none
def GU (E:List Ξ)(R:Ω)(start:Int):Nat -> Rt -> Option (Ω)
 | 0,_=>none
 | n+1,.l1 x8 o0=>fT n (GU E R start n) E R start x8 o0
 | n+1,.l2 x8 K o0=>fS n (GU E R start n) E R start x8 K o0
 | n+1,.l3 x8 K x10 o0=>VF n (GU E R start n) E R start x8 K x10 o0
def Ku (n:Nat)(E:List Ξ)(R:Ω)(start:Int):Option (Ω):=qQ n (GU E R start n) E R start
def zDC (n B:Nat)(N:Yd 0)(E:List Ξ)(R:Ω)(start:Int)(r:Ω):Rt -> Prop
 | .l1 x8 o0=>∀ f:Nat,n<=f -> TW B N (FQ Tryz.f105 0 (.bools r) []) (Ah f (An (AR Tryz.f105) 0 [])) ⟨AF 72 [(0,.sl 1 E.length (AK AP E)),(1,.bools R),(7,.msl 0 1 0 E.length),(8,.bool x8)],[some (.bools o0)]⟩
 | .l2 x8 K o0=>∀ f V:Nat,n<=f -> n<=V -> TW B N (FQ Tryz.f105 0 (.bools r) []) (Ah V (An (AR Tryz.f105) 2 [f])) ⟨AF 72 [(0,.sl 1 E.length (AK AP E)),(1,.bools R),(7,.msl 0 1 0 E.length),(8,.bool x8),(9,.i K)],[some (.bools o0)]⟩
 | .l3 x8 K x10 o0=>∀ f V a:Nat,n<=f -> n<=V -> n<=a -> TW B N (FQ Tryz.f105 0 (.bools r) []) (Ah a (An (AR Tryz.f105) 4 [f,V])) ⟨AF 72 [(0,.sl 1 E.length (AK AP E)),(1,.bools R),(7,.msl 0 1 0 E.length),(8,.bool x8),(9,.i K),(10,.i x10)],[some (.bools o0)]⟩
def zDD (B:Nat)(N:Yd 0)(b:List Ξ)(R:Ω)(start:Int):Al (GU b R start) (zDC · B N b R start):=ia (λ_=>rfl) λn C d r h=>by
 cases d
 case l1 x8 o0=>
  intro f a;refine rd a λf a=>?_
  revert r;apply gO;exact bi 17 (lN AC [0] (C _ _ · f n a Nat.le.refl)) (gn λq=>lF λp=>ez AC [6] [0] p [0] (H0.g q))
 case l2 x8 x9 o0=>
  intro f V a x;have a:=zGV a;refine rd x λV x=>?_
  revert r;apply gO;exact bi 21 (lN AC [0] (C _ _ · f V n a x Nat.le.refl)) (lG AC [0] (C _ _ · f a))
 case l3 x8 x9 x10 o0=>
  intro f V E a x k;have a:=zGV a;have x:=zGV x;refine rd k λE k=>?_
  revert r;apply gO;exact gn λq=>jg q (bi 30 (jg q (gi (bi 36 (jg q (gc (gn λs=>jg s (gi (bi 47 (jg q (jg s (gc (gn λc=>jg c (gn λG=>jg G (bi 60 (jg q (jg s (jg c (jg G (gw 32 (lG AC [0] (C _ _ · f V E a x k))))))) (gw 32 (lG AC [0] (C _ _ · f V E a x k))))))))) (gw 32 (lG AC [0] (C _ _ · f V E a x k)))))))) (gw 32 (lG AC [0] (C _ _ · f V E a x k)))))) (gw 23 (lG AC [0] (C _ _ · f V a x))))
variable {R:Ω}
def fR {E:List Ξ}{start:Int}{r:Ω}(h:Ku n E R start=some r):EQ 105 [.sl 1 E.length (AK AP E),.bools R,.i start] [] (.bools r) [] true:=by
 refine ot Tryz.func105 λB N=>?_
 revert r;apply gO;exact gc (gi (gc (gi (gi (lN AC [0] ((zDD B N E R start n) _ _ · n Nat.le.refl))))))
inductive Rv where
 | l1 (x4:Int)
 | l2 (x3:Nat) (x4:Int) (o0:Ξ)
def VH (n:Nat)(self:Rv -> Option (Ξ))(R:Ω)(K:Int):Option (Ξ):= bif (decide (K<(R.length:Int))) then if 0<=K/\ K<(R.length:Int) then bif (R.getD K.toNat false) then if ((0=0/\ 1=([K]:Ξ).length)/\ 0<([K]:Ξ).length/\ ([K]:Ξ).length<=Ay)/\ AG (K+1) then self (.l2 (([K]:Ξ).length) (K+1) ([K]:Ξ)) else none else if AG (K+1) then self (.l1 (K+1)) else none else none else some ([]:Ξ)
def VG (n:Nat)(self:Rv -> Option (Ξ))(R:Ω)(H:Nat)(K:Int)(o0:Ξ):Option (Ξ):= bif (decide (K<(R.length:Int))) then if 0<=K/\ K<(R.length:Int) then bif (R.getD K.toNat false) then if ((0=0/\ 1=([K]:Ξ).length)/\ (0=0/\ H=o0.length)/\ o0.length+([K]:Ξ).length<=Ay)/\ AG (K+1) then self (.l2 (o0.length+([K]:Ξ).length) (K+1) (o0++([K]:Ξ))) else none else if AG (K+1) then self (.l2 H (K+1) o0) else none else none else if H=o0.length then some o0 else none
def zDE (n:Nat)(self:Rv -> Option (Ξ))(AL:Ω):Option (Ξ):= self (.l1 0)
def Jt (R:Ω):Nat -> Rv -> Option (Ξ)
 | 0,_=>none
 | n+1,.l1 K=>VH n (Jt R n) R K
 | n+1,.l2 H K o0=>VG n (Jt R n) R H K o0
def NU (n:Nat)(R:Ω):Option (Ξ):=zDE n (Jt R n) R
def zDF (n B:Nat)(N:Yd 0)(R:Ω)(r:Ξ):Rv -> Prop
 | .l1 K=>∀ f:Nat,n<=f -> TW B N (FQ Tryz.f104 0 (.ints r) []) (Ah f (An (AR Tryz.f104) 0 [])) ⟨AF 20 [(0,.bools R),(3,.nils),(4,.i K)],[]⟩
 | .l2 H K o0=>∀ f:Nat,n<=f -> TW B N (FQ Tryz.f104 0 (.ints r) []) (Ah f (An (AR Tryz.f104) 0 [])) ⟨AF 20 [(0,.bools R),(3,.msl 0 1 0 H),(4,.i K)],[oI o0]⟩
def zDG (B:Nat)(N:Yd 0)(R:Ω):Al (Jt R) (zDF · B N R):=ia (λ_=>rfl) λn C b r h=>by
 cases b
 case l1 x4=>
  intro f a;refine rd a λf a=>?_
  revert r;apply gO;exact bi 8 (gi (bi 14 (gc (gi (gw 10 (lG AC [1] (C _ _ · f a))))) (gw 10 (lG AC [] (C _ _ · f a))))) (lF λp=>el AC [2] [] p [] H0 [.nils] AN.ints_nil)
 case l2 x3 x4 o0=>
  intro f a;refine rd a λf a=>?_
  revert r;apply gO;exact bi 8 (gi (bi 14 (gc (gi (gw 10 (lG AC [2] (C _ _ · f a))))) (gw 10 (lG AC [0] (C _ _ · f a))))) (gn λq=>lF λp=>ez AC [2] [0] p [0] (H0.g q))
def fU {r:Ξ}(h:NU n R=some r):EQ 104 [.bools R] [] (.ints r) [] true:=by
 refine ot Tryz.func104 λB N=>?_
 revert r;apply gO;exact lN AC [] ((zDG B N R n) _ _ · n Nat.le.refl)
def zAm:Ax (BA Tryz.f27 9) [] (List.range 16) []:=by unfold Ax;kernel_rfl
def O6:Be:=λi=>match i with
 | 9=>.ord [] (List.range 16) []
 | _=>.no
inductive Yw where
 | l1 (x6:Int)
def Ux (n:Nat)(self:Yw -> Option Int)(q:AA)(pos:Ξ)(J:Int):Option Int:= bif (decide (J<(pos.length:Int))) then if 0<=J/\ J<(pos.length:Int) then bif (decide ((pos.getD J.toNat 0)<0)) then some 250 else if 0<=IntKind.u64.wrap q.symbols/\ IntKind.u64.wrap q.symbols<=(IntKind.i64.bits:Int) then bif (decide ((pos.getD J.toNat 0)>=(IntKind.i64.wrap (1*2 ^ (IntKind.u64.wrap q.symbols).toNat)))) then some 250 else if AG (J+1) then self (.l1 (J+1)) else none else none else none else some 0
def pd (n:Nat)(self:Yw -> Option Int)(q:AA)(pos:Ξ):Option Int:= (Ri n q).bind λk=> bif (k != 0) then some k else bif ((pos.length:Int) != q.cells) then some 250 else self (.l1 0)
def O9 (q:AA)(pos:Ξ):Nat -> Yw -> Option Int
 | 0,_=>none
 | n+1,.l1 J=>Ux n (O9 q pos n) q pos J
def Uy (n:Nat)(q:AA)(pos:Ξ):Option Int:=pd n (O9 q pos n) q pos
def zCB (n B:Nat)(N:Yd 0)(q:AA)(pos:Ξ)(r:Int):Yw -> Prop
 | .l1 J=>∀ f:Nat,n<=f -> TW B N (FQ Tryz.f27 0 (.i r) []) (Ah f (An (AR Tryz.f27) 0 [])) ⟨AF 39 [(1,.ints pos),(2,.ref 0 0),(6,.i J)],[oC (AH q)]⟩
def zCC (B:Nat)(N:Yd 0)(q:AA)(pos:Ξ):Al (O9 q pos) (zCB · B N q pos):=ia (λ_=>rfl) λn C c r h=>by
 cases c
 case l1 x6=>
  intro f a;refine rd a λf a=>?_
  revert r;apply gO;exact bi 20 (jg zAm (gn λb=>jg b (bi 27 (lE O6 [4] []) (jg b (gi (bi 37 (lE O6 [4] []) (gw 22 (lG O6 [0] (C _ _ · f a))))))))) (lE O6 [4] [])
def zB9 {q:AA}{pos:Ξ}{r:Int}(h:Uy n q pos=some r):EQ 27 [.agg 5 (L1 (AH q)),.ints pos] [] (.i r) [] true:=by
 refine ot Tryz.func27 λB N=>?_
 revert r;apply gO;exact cf pM [oC (AH q)] λ_=>bi 10 (lE O6 [4] []) (bi 16 (lE O6 [4] []) (lN O6 [0] ((zCC B N q pos n) _ _ · n Nat.le.refl)))
end
section
variable {q:AA} {c:AD} {pos l:Ξ} {D D':Nat -> Ψ} {k:Nat}
end
section
variable {q:AA} {c:AD} {pos:Ξ} {k:Nat}
def Oi (c:AD)(pos:Ξ)(i j:Nat)(g:Nat -> Nat):Prop:=∀ b,i<=b -> b<j -> tb (Ad c pos b) (g b)=true
def Ho (q:AA)(i j:Nat)(g:Nat -> Nat):Prop:=∀ b,i<=b -> b+1<j -> q.values.getD (g b) 0<q.values.getD (g (b+1)) 0
variable {b:Int}
def ml : ∀ (l:Ξ) (a:Int),l.foldl (Kh q b) a=a∨∃ e∈l,q.values.getD e.toNat 0=l.foldl (Kh q b) a/\ q.values.getD e.toNat 0>b
 | [],a=>.inl rfl
 | e::l,a=>by
  rw [zIr];rcases ml l (Kh q b a e) with h | ⟨x,c,d⟩
  ·rw [h];unfold Kh;split
   ·rename_i f;split
    ·exact .inr ⟨e,zIL,rfl,f⟩
    ·exact .inl rfl
   ·exact .inl rfl
  ·exact .inr ⟨x,zH5 _ c,d⟩
def vM : ∀ (l:Ξ) (a:Int),l.foldl (KQ q b) a=a∨∃ e∈l,q.values.getD e.toNat 0=l.foldl (KQ q b) a/\ q.values.getD e.toNat 0<b
 | [],a=>.inl rfl
 | e::l,a=>by
  rw [zIr];rcases vM l (KQ q b a e) with h | ⟨x,c,d⟩
  ·rw [h];unfold KQ;split
   ·rename_i f;split
    ·exact .inr ⟨e,zIL,rfl,f⟩
    ·exact .inl rfl
   ·exact .inl rfl
  ·exact .inr ⟨x,zH5 _ c,d⟩
def wJ (W:B7 c k pos): ∀ i,i<=c.cells.length -> Gh q c pos i<100 -> ∃ g,Oi c pos 0 i g/\ Ho q 0 i g/\ (0<i -> q.values.getD (g (i-1)) 0=Gh q c pos i)
 | 0,_,_=>⟨λ_=>0,λb _ h=>absurd h (zGR b),λb _ h=>absurd h (zGR _),λh=>absurd h (Nat.lt_irrefl 0)⟩
 | i+1,hi,h=>by
  rcases ml (q:=q) (b:=Gh q c pos i) (Bj (Ad c pos i)) 100 with d | ⟨e,d,a,f⟩
  ·have:Gh q c pos (i+1)=100:=d;omega
  ·have a:q.values.getD e.toNat 0=Gh q c pos (i+1):=a;obtain ⟨s,rfl,hs,X⟩:=(Fq (W.at (by omega)) (zGK W.k (by decide))).1 d;rw [zCg] at a f;obtain ⟨g,o,j,O⟩:=wJ W i (by omega) (by omega);refine ⟨λb=>if b=i then s else g b,λb A l=>?_,λb A l=>?_,λ_=>?_⟩
   ·dsimp only
    by_cases e:b=i
    ·subst e;rw [zEZ rfl];exact X
    ·rw [zGN e];exact o b A (by omega)
   ·have w:b≠i:=by omega
    dsimp only
    rw [zGN w]
    by_cases z:b+1=i
    ·have:=O (by omega);rw [zEZ z,show b=i-1 by omega,this];exact f
    ·rw [zGN z];exact j b A (by omega)
   ·dsimp only
    rw [zEZ (by omega)];exact a
variable {g:Nat -> Nat}
def zLa (W:B7 c k pos): ∀ i,i<c.cells.length -> Oi c pos 0 (i+1) g -> Ho q 0 (i+1) g -> Gh q c pos i<q.values.getD (g i) 0 -> Gh q c pos (i+1)<=q.values.getD (g i) 0:=λi hi a _ d=>by
 have h:=(Xu (q:=q) (b:=Gh q c pos i) (Bj (Ad c pos i)) 100).1 (zGl _);have X:=a i (zIG _) (by omega);have v:=(Fq (W.at hi) (zGK W.k (by decide)) (e:=(g i:Int))).2 ⟨g i,rfl,zGa λl=>(by rw [(W.at hi).hi l] at X;cases X),X⟩;have:=h.2 _ v;rw [zCg] at this;exact this d
def wL (W:B7 c k pos)(V:Ee q k): ∀ i,i<c.cells.length -> Oi c pos 0 (i+1) g -> Ho q 0 (i+1) g -> Gh q c pos i<q.values.getD (g i) 0
 | 0,hi,a,_=>by
  have X:=a 0 (zGT _) (by omega);have:=V.val (g 0) (zGa λl=>(by rw [(W.at hi).hi l] at X;cases X))
  show (-1:Int)<_
  omega
 | i+1,hi,a,d=>by
  have T:Oi c pos 0 (i+1) g:=λb h A=>a b h (by omega)
  have f:Ho q 0 (i+1) g:=λb h A=>d b h (by omega)
  have h:=wL W V i (by omega) T f;have A:=zLa W i (by omega) T f h;have h5:=d i (zIG _) (by omega);omega
def xA (W:B7 c k pos): ∀ m,m<=c.cells.length -> -1<H8 q c pos m -> ∃ g,Oi c pos (c.cells.length-m) c.cells.length g/\ Ho q (c.cells.length-m) c.cells.length g/\ (0<m -> q.values.getD (g (c.cells.length-m)) 0=H8 q c pos m)
 | 0,_,_=>⟨λ_=>0,λb d a=>absurd a (by omega),λb d a=>absurd a (by omega),λh=>absurd h (Nat.lt_irrefl 0)⟩
 | m+1,hm,h=>by
  rcases vM (q:=q) (b:=H8 q c pos m) (Bj (Ad c pos (c.cells.length-1-m))) (-1) with d | ⟨e,d,a,i⟩
  ·have:H8 q c pos (m+1)= -1:=d;omega
  ·have a:q.values.getD e.toNat 0=H8 q c pos (m+1):=a;obtain ⟨s,rfl,hs,X⟩:=(Fq (W.at (by omega)) (zGK W.k (by decide))).1 d;rw [zCg] at a i;obtain ⟨g,o,j,O⟩:=xA W m (by omega) (by omega);have y:c.cells.length-(m+1)=c.cells.length-1-m:=by omega
   refine ⟨λb=>if b=c.cells.length-1-m then s else g b,λb A f=>?_,λb A f=>?_,λ_=>?_⟩
   ·dsimp only
    by_cases e:b=c.cells.length-1-m
    ·subst e;rw [zEZ rfl];exact X
    ·rw [zGN e];exact o b (by omega) f
   ·have z:b+1≠c.cells.length-1-m:=by omega
    dsimp only
    rw [zGN z]
    by_cases w:b=c.cells.length-1-m
    ·have:=O (by omega);rw [zEZ w,show b+1=c.cells.length-m by omega,this];exact i
    ·rw [zGN w];exact j b (by omega) f
   ·dsimp only
    rw [zEZ y];exact a
def xB (W:B7 c k pos)(V:Ee q k): ∀ m,m<c.cells.length -> Oi c pos (c.cells.length-1-m) c.cells.length g -> Ho q (c.cells.length-1-m) c.cells.length g -> q.values.getD (g (c.cells.length-1-m)) 0<H8 q c pos m
 | 0,v,d,_=>by
  have X:=d (c.cells.length-1-0) (by omega) (by omega);have:=V.val (g (c.cells.length-1-0)) (zGa λl=>(by rw [(W.at (by omega)).hi l] at X;cases X))
  show _<(100:Int)
  omega
 | m+1,v,d,i=>by
  have w:c.cells.length-1-m=c.cells.length-1-(m+1)+1:=by omega
  have T:Oi c pos (c.cells.length-1-m) c.cells.length g:=λb f A=>d b (by omega) A
  have j:Ho q (c.cells.length-1-m) c.cells.length g:=λb f A=>i b (by omega) A
  have f:=xB W V m (by omega) T j;have h:=(bv (q:=q) (b:=H8 q c pos m) (Bj (Ad c pos (c.cells.length-1-m))) (-1)).1 (zGl _);have X:=d (c.cells.length-1-m) (by omega) (by omega);have n:=(Fq (W.at (a:=c.cells.length-1-m) (by omega)) (zGK W.k (by decide)) (e:=(g (c.cells.length-1-m):Int))).2 ⟨_,rfl,zGa λl=>(by rw [(W.at (by omega)).hi l] at X;cases X),X⟩;have A:=h.2 _ n;rw [zCg] at A;have A:_<=H8 q c pos (m+1):=A f;have o:=i (c.cells.length-1-(m+1)) (zGT _) (by omega);rw [←w] at o;omega
variable {a:Nat}
def zCO (W:B7 c k pos)(V:Ee q k){s:Nat}(D:a<c.cells.length)(j:tb (Ad c pos a) s=true):IL q c pos a s=false↔∃ g,Oi c pos 0 c.cells.length g/\ Ho q 0 c.cells.length g/\ g a=s:=by
 have hv:=V.val s (zGa λi=>(by rw [(W.at D).hi i] at j;cases j));unfold IL KY;rw [Bool.or_eq_false_iff,zIJ,zIJ];constructor
 ·rintro ⟨d,e⟩;obtain ⟨o,I,p2,G⟩:=wJ (q:=q) W a (by omega) (by omega);obtain ⟨m,l,y,n⟩:=xA (q:=q) W (c.cells.length-(a+1)) (by omega) (by omega);have el:c.cells.length-(c.cells.length-(a+1))=a+1:=by omega
  rw [el] at l y n;refine ⟨λb=>if b<a then o b else if b=a then s else m b,λb _ f=>?_,λb _ f=>?_,by dsimp only;rw [if_neg (by omega),if_pos rfl]⟩
  ·dsimp only
   by_cases w:b<a
   ·rw [zEZ w];exact I b (zIG _) w
   ·by_cases z:b=a
    ·subst z;rw [zGN w,zEZ rfl];exact j
    ·rw [zGN w,zGN z];exact l b (by omega) f
  ·dsimp only
   by_cases w:b<a
   ·rw [zEZ w]
    by_cases z:b+1<a
    ·rw [zEZ z];exact p2 b (zIG _) z
    ·have:=G (by omega);rw [zGN z,zEZ (by omega),show b=a-1 by omega,this];omega
   ·rw [zGN w,zGN (by omega: ¬ b+1<a),zGN (by omega: ¬ b+1=a)]
    by_cases z:b=a
    ·have:=n (by omega);rw [zEZ z,z,this];omega
    ·rw [zGN z];exact y b (by omega) f
 ·rintro ⟨g,d,e,rfl⟩;have l1:=wL W V a D (λb h A=>d b h (by omega)) (λb h A=>e b h (by omega));have J:=xB W V (c.cells.length-1-a) (by omega) (λb h A=>d b (by omega) A) (λb h A=>e b (by omega) A);have w:c.cells.length-1-(c.cells.length-1-a)=a:=by omega
  have z:c.cells.length-(a+1)=c.cells.length-1-a:=by omega
  rw [w] at J;rw [z];omega
def Tt (c:AD)(pos:Ξ)(a:Nat)(inn:Bool):Nat -> Δ -> Prop
 | 0,t=>Xi c t
 | m+1,s=>∃ b u,kd c pos (c.cells.length-1-m) b=true/\ (c.cells.length-1-m=a -> b=inn)/\ nx c s.1 s.2 b=some u/\ Tt c pos a inn m u
variable {inn:Bool}
def Yk : ∀ (m:Nat),m+a+1<=c.cells.length -> ∀ t,Fv c pos (c.cells.length-m) t -> (Tt c pos a inn m t↔Jf c pos m t)
 | 0,_,t,_=>Iff.rfl
 | m+1,hm,s,i=>by
  have e:c.cells.length-(m+1)=c.cells.length-1-m:=by omega
  have z:c.cells.length-m=c.cells.length-1-m+1:=by omega
  rw [e] at i;constructor
  ·rintro ⟨b,u,d,_,f,A⟩;exact ⟨i,u,b,f,d,(Yk m (by omega) u (by rw [z];exact ⟨s,b,i,f,d⟩)).1 A⟩
  ·rintro ⟨_,u,b,f,d,A⟩;exact ⟨b,u,d,λh=>absurd h (by omega),f,(Yk m (by omega) u (by rw [z];exact ⟨s,b,i,f,d⟩)).2 A⟩
def pI (D:a<c.cells.length): ∀ (i:Nat),i<=a -> (Tt c pos a inn c.cells.length (0,0)↔∃ s,Fv c pos i s/\ Tt c pos a inn (c.cells.length-i) s)
 | 0,_=>⟨λh=>⟨(0,0),rfl,h⟩,λ⟨s,d,f⟩=>by
  have d:s=(0,0):=d;subst d;exact f⟩
 | i+1,hi=>by
  rw [pI D i (by omega)];have e:c.cells.length-i=(c.cells.length-(i+1))+1:=by omega
  have z:c.cells.length-1-(c.cells.length-(i+1))=i:=by omega
  constructor
  ·rintro ⟨s,d,f⟩;rw [e] at f;obtain ⟨b,u,g,_,j,k⟩:=f;rw [z] at g;exact ⟨u,⟨s,b,d,j,g⟩,k⟩
  ·rintro ⟨u,⟨s,b,d,j,g⟩,k⟩;refine ⟨s,d,?_⟩;rw [e];exact ⟨b,u,by rw [z];exact g,λh=>absurd h (by rw [z];omega),j,k⟩
def zLJ (D:a<c.cells.length):KV c pos a inn↔Tt c pos a inn c.cells.length (0,0):=by
 rw [pI D a (zGT _)];have e:c.cells.length-a=(c.cells.length-1-a)+1:=by omega
 have z:c.cells.length-1-(c.cells.length-1-a)=a:=by omega
 have P:c.cells.length-(c.cells.length-1-a)=a+1:=by omega
 constructor
 ·rintro ⟨s,t,d,f,h,A⟩;refine ⟨s,d,?_⟩;rw [e];exact ⟨inn,t,by rw [z];exact h,λ_=>rfl,f,(Yk _ (by omega) t (by rw [P];exact ⟨s,inn,d,f,h⟩)).2 A⟩
 ·rintro ⟨s,d,f⟩;rw [e] at f;obtain ⟨b,t,h,A,g,k⟩:=f;rw [z] at h A;obtain rfl:=A rfl;exact ⟨s,t,d,g,h,(Yk _ (by omega) t (by rw [P];exact ⟨s,b,d,g,h⟩)).1 k⟩
end
section
open Classical
section
variable {q:AA} {c:AD} {pos l:Ξ} {k:Nat}
end
end
section
open Classical
section
variable {q:AA} {c:AD} {pos l:Ξ} {k:Nat}
def NV {n:Nat}{x:Int}{s:Nat}(hs:s<16):IM n x (s:Int)=some (tb x s):=by
 unfold IM qS;rw [zEE (by omega),zFR,zEE (by omega),zFR,zEZ ⟨by omega,by show (s:Int)<=((64:Nat):Int);omega⟩,zCg];refine congrArg some ?_;have h:=Te (s:=s) (by omega) x
 have e:bits .and .i64 x (IntKind.i64.wrap (1*2 ^ s))=bits .and .i64 (IntKind.i64.wrap (1*2 ^ s)) x:=by
  refine Kj (GO _ _ _) (GO _ _ _) λt _=>?_
  rw [Iq,Iq,Bool.and_comm]
 show (!(bits .and .i64 x (IntKind.i64.wrap (1*2 ^ s))==0))=_
 rw [e,h,Bool.not_not]
end
end
section
variable {q:AA} {c:AD} {pos l:Ξ} {g:List Ξ} {inn:Ω} {s:Int}
def QU {l:Ξ}{j:Nat}(hj:j<l.length):l.getD j 0∈l:=by
 grind
structure Mk (g:List Ξ)(inn:Ω)(s:Int)(o:Ω):Prop where
 len:o.length=g.length
 start:o.getD s.toNat false=true
 sub: ∀ v:Nat,v<g.length -> o.getD v false=true -> Rc g inn s v
def Cl (g:List Ξ)(inn o:Ω)(u:Nat):Prop:=o.getD u false=true -> ∀ v∈nb g u,inn.getD v.toNat false=true -> o.getD v.toNat false=true
def Ps (g:List Ξ)(inn:Ω)(s:Int)(o0:Ω)(C:Ω -> Prop)(x:Bool×Ω):Prop:=Mk g inn s x.2/\ (x.1=false -> x.2=o0/\ C o0)/\ (x.1=true -> FB x.2<FB o0)
def pass (G:Gr g)(hI:inn.length=g.length){o0:Ω}(Y:Mk g inn s o0): ∃ x:Bool×Ω,Ps g inn s o0 (λo=>∀ u,u<g.length -> Cl g inn o u) x/\ AV (GU g inn s) (.l1 true o0) (.l1 x.1 x.2):=by
 have Am:=G.len
 obtain ⟨x,a,t⟩:=LE (m:=GU g inn s) (λi (x:Bool×Ω)=>.l2 x.1 (i:Int) x.2) (λi x=>Ps g inn s o0 (λo=>∀ u,u<i -> Cl g inn o u) x) g.length (λi x hi a=>by
  have Nw:=G.row i (by omega) (by omega)
  obtain ⟨x',A,y⟩:=LE (m:=GU g inn s) (λj (x:Bool×Ω)=>.l3 x.1 (i:Int) (j:Int) x.2) (λj x=>Ps g inn s o0 (λo=>(∀ u,u<i -> Cl g inn o u)/\ (o.getD i false=true -> ∀ W,W<j -> inn.getD ((nb g i).getD W 0).toNat false=true -> o.getD ((nb g i).getD W 0).toNat false=true)) x) (nb g i).length (λj x d a=>by
   obtain ⟨b,o⟩:=x;obtain ⟨c,k,f⟩:=a;have c:Mk g inn s o:=c;have k:b=false -> o=o0/\ _:=k;have f:b=true -> FB o<FB o0:=f;have p:=G.rng i (by omega) (by omega) _ (QU d);have z:=c.len;have r1:AG ((j:Int)+1):=Aj.2 ⟨by omega,by omega⟩;have w:nb g (i:Int)=g.getD i []:=by unfold nb;rw [zCg]
   have U: ∀ n,GU g inn s (n+1) (.l3 b (i:Int) (j:Int) o)=bif o.getD i false&&inn.getD ((nb g i).getD j 0).toNat false&&!o.getD ((nb g i).getD j 0).toNat false then GU g inn s n (.l3 true (i:Int) ((j:Int)+1) (o.set ((nb g i).getD j 0).toNat true)) else GU g inn s n (.l3 b (i:Int) ((j:Int)+1) o):=λn=>by
    show VF n (GU g inn s n) g inn s b (i:Int) (j:Int) o=_
    unfold VF
    grind
   cases H:(o.getD i false&&inn.getD ((nb g i).getD j 0).toNat false&&!o.getD ((nb g i).getD j 0).toNat false)
   ·refine ⟨(b,o),⟨c,λl=>?_,f⟩,AV.one λn=>by rw [U n,H,zGF];rfl⟩
    grind
   ·rw [zEh,zEh,zGr] at H;obtain ⟨⟨I,p2⟩,r⟩:=H;refine ⟨(true,o.set ((nb g i).getD j 0).toNat true),⟨⟨by rw [zGZ];exact z,?_,λv B L=>?_⟩,λl=>(by cases l),λ_=>?_⟩,AV.one λn=>by rw [U n,I,p2,r];rfl⟩
    ·rw [Ql (by omega)];split
     ·rfl
     ·exact c.start
    ·rw [Ql (by omega)] at L;split at L
     ·rename_i e;have hst:=Rc.step (c.sub i hi I) (QU d) p2
      grind
     ·exact c.sub v B L
    ·have:=kz o ((nb g i).getD j 0).toNat (by omega) r
     grind) (nb g i).length 0 x (by omega) ⟨a.1,λh=>⟨(a.2.1 h).1,(a.2.1 h).2,λ_ W C=>absurd C (zGR W)⟩,a.2.2⟩
  have w:nb g (i:Int)=g.getD i []:=by unfold nb;rw [zCg]
  refine ⟨x',⟨A.1,λh=>⟨(A.2.1 h).1,λu q=>?_⟩,A.2.2⟩,(AV.one (b:=.l3 x.1 (i:Int) ((0:Nat):Int) x.2) λn=>?_).trans (y.trans (AV.one λn=>?_))⟩
  ·obtain ⟨h4,D,h6⟩:=A.2.1 h;rcases zGW.1 q with q | rfl
   ·exact D u q
   ·intro ho v p CS;obtain ⟨j,d,rfl⟩:=zGt p
    grind
  ·simp_all [fS,GU]
  ·show VF n (GU g inn s n) g inn s x'.1 (i:Int) ((nb g i).length:Int) x'.2=_
   unfold VF;rw [zEZ ⟨by omega,by omega⟩,zFd (by rw [zCg,←w];omega),zGF,zEZ (Aj.2 ⟨by omega,by omega⟩)];rfl) g.length 0 (false,o0) (by omega) ⟨Y,λ_=>⟨rfl,λu q=>absurd q (zGR u)⟩,λh=>(by cases h)⟩
 refine ⟨x,a,(AV.one (b:=.l2 false ((0:Nat):Int) o0) λn=>rfl).trans (t.trans (AV.one λn=>?_))⟩
 simp_all [fS,GU]
def zCx (G:Gr g)(c:inn.length=g.length): ∀ (z:Nat) (o0:Ω),FB o0<=z -> Mk g inn s o0 -> ∃ o,(Mk g inn s o/\ ∀ u,u<g.length -> Cl g inn o u)/\ AV (GU g inn s) (.l1 true o0) (.l1 false o):=by
 intro z
 induction z with
 | zero=>
  intro o0 v Y;obtain ⟨⟨b,o⟩,a,d⟩:=pass G c Y;cases b
  ·obtain ⟨e,h⟩:=a.2.1 rfl
   grind
  ·have:FB o<FB o0:=a.2.2 rfl;omega
 | succ z U=>
  intro o0 v Y;obtain ⟨⟨b,o⟩,a,d⟩:=pass G c Y;cases b
  ·obtain ⟨e,h⟩:=a.2.1 rfl
   grind
  ·have:FB o<FB o0:=a.2.2 rfl;obtain ⟨o',f,A⟩:=U o (by omega) a.1;exact ⟨o',f,d.trans A⟩
def Tq (g:List Ξ)(inn:Ω)(s:Int)(o:Ω):Prop:=o.length=g.length/\ ∀ v:Nat,v<g.length -> (o.getD v false=true↔Rc g inn s v)
def zDB (G:Gr g)(u:inn.length=g.length)(h0:0<=s)(c:s<(g.length:Int)):At (λn=>Ku n g inn s) (Tq g inn s):=by
 have Am:=G.len
 have Y:Mk g inn s ((List.replicate g.length false).set s.toNat true):=by
  refine ⟨by simp,?_,λv a L=>?_⟩
  ·grind
  ·rw [Ql (by simp;omega)] at L;split at L
   ·rw [show ((v:Nat):Int)=s by omega];exact .start
   grind
 obtain ⟨o,⟨b,d⟩,A⟩:=zCx G u _ _ (zGT _) Y
 have all: ∀ v:Int,Rc g inn s v -> o.getD v.toNat false=true:=λv a=>by
  induction a with
  | start=>exact b.start
  | step h hb hi U=>
   have hr:=h.rng G h0 c;refine d _ (by omega) U _ ?_ hi
   grind
 refine ((A.ev (Ev.one (r:=o) λn=>?_)).p ⟨b.len,λv a=>⟨b.sub v a,λh=>by grind⟩⟩).eq λn=>?_
 ·show fT n (GU g inn s n) g inn s false o=_
  unfold fT;rw [zGF,zEZ b.len.symm]
 ·unfold Ku qQ
  grind
def qM (G:H9 g):Ev (λn=>NT n g) 0:=⟨2*Fl g+1,λn u=>by
 show NT n g=_
 rw [qN G.row u,G.ok];rfl⟩
theorem Tq.uniq {x x':Ω}(h:Tq g inn s x)(h':Tq g inn s x'):x=x':=
 kY (h.1.trans h'.1.symm) λj d=>by rw [zIh,h.2 j (by rw [←h.1];exact d),h'.2 j (by rw [←h.1];exact d)]
variable {some':Ω}
end
abbrev zI5:=@List.getElem?_eq_none
section
variable {q:AA} {i:Int} {pos x:Ξ}
variable {c:AD}
def PR.sub (h:PR q c pos x){j s:Nat}(a:tb (x.getD j 0) s=true):j<pos.length/\ tb (pos.getD j 0) s=true:=by
 have d:j<pos.length:=by
  refine zGa λBU=>?_
  rw [zGH,zI5 (by have:=h.len;omega)] at a;exact IG a
 refine ⟨d,?_⟩
 by_cases A:Fj q c pos
 ·exact (((h.live A j d).2 s).1 a).1
 ·rw [h.dead A,Q2] at a;exact absurd a IG
def PR.in64 (h:PR q c pos x)(j:Nat):CB (x.getD j 0):=by
 by_cases A:Fj q c pos
 ·by_cases d:j<pos.length
  ·exact (h.live A j d).1
  ·rw [zGH,zI5 (by have:=h.len;omega)];exact ⟨by decide,by decide⟩
 ·rw [h.dead A];exact dD j
def I4 (hv:CK q=true){y:Ξ}:posOk q y=true↔(y.length:Int)=q.cells/\ ∀ j,j<y.length -> Sm q.symbols.toNat (y.getD j 0):=by
 unfold posOk;rw [zEh,zGk,zGL];constructor
 ·rintro ⟨a,b⟩;refine ⟨a,λj d=>?_⟩;have v:y.getD j 0∈y:=by grind
  have:=b _ v;rw [zEh,zGM,zGM] at this;exact this
 ·rintro ⟨a,b⟩;refine ⟨a,λz c=>?_⟩;obtain ⟨j,d,rfl⟩:=zGt c;have:=b j d;rw [zGH,zGU d] at this;rw [zEh,zGM,zGM];exact this
end
section
variable {q:AA} {i:Int} {p p' x z:Ξ}
def xO (C:Bq q i p){k s:Nat}(hk:k<(con q i).cells.length):LC q (con q i) p ((con q i).cells.getD k 0).toNat s↔Bo q (con q i) p k s:=by
 constructor
 ·rintro ⟨a,D,e,h⟩;have h1:=C.work.cells a D;have h2:=C.work.cells k hk;have BB:=C.cells.2.1
  grind [List.pairwise_iff_getElem]
 ·intro h;exact ⟨k,hk,rfl,h⟩
def cv (C:Bq q i p):Fj q (con q i) p↔(∀ j,j<p.length -> p.getD j 0≠0)/\ OA q (con q i) p:=by
 have W:=C.work;constructor
 ·intro h;refine ⟨h.nz,λk hk=>h.nz _ (by have:=W.cells k hk;omega),h.ok,λk hk=>?_⟩;obtain ⟨s,_,c,d⟩:=h.left ((con q i).cells.getD k 0).toNat (by have:=W.cells k hk;omega);exact ⟨s,c,λb=>d ((xO C hk).2 b)⟩
 ·rintro ⟨c,d⟩;refine ⟨c,d.ok,λj f=>?_⟩
  by_cases g: ∃ k,k<(con q i).cells.length/\ ((con q i).cells.getD k 0).toNat=j
  ·obtain ⟨k,hk,rfl⟩:=g;obtain ⟨s,b,A⟩:=d.left k hk;exact ⟨s,zGa λh=>(by rw [Ln h] at b;cases b),b,λl=>A ((xO C hk).1 l)⟩
  ·obtain ⟨s,b,A⟩:=(Ex ((C.sm j f).in64 (by have:=W.k;omega))).1 (c j f);exact ⟨s,b,A,λ⟨a,D,e,_⟩=>g ⟨a,D,e⟩⟩
def rR (C:Bq q i p)(d:Bq q i p')(b:HG (con q i) p' p)(A:OA q (con q i) p'):OA q (con q i) p/\ ∀ k,k<(con q i).cells.length -> ∀ s,tb (Ad (con q i) p' k) s=true -> Bo q (con q i) p k s -> Bo q (con q i) p' k s:=by
 obtain ⟨e,c⟩:=mono C d b A;have W:=C.work;refine ⟨⟨λk hk=>?_,e,λk hk=>?_⟩,c⟩
 ·obtain ⟨s,a,_⟩:=A.left k hk;exact (Ex ((W.at hk).in64 (by have:=W.k;omega))).2 ⟨s,zGa λh=>(by rw [Ln h] at a;cases a),b k hk s a⟩
 ·obtain ⟨s,a,f⟩:=A.left k hk;exact ⟨s,b k hk s a,λg=>f (c k hk s a g)⟩
def qf (C:Bq q i p)(c:Bq q i p')(V: ∀ j s,tb (p'.getD j 0) s=true -> tb (p.getD j 0) s=true)(a:PR q (con q i) p x)(v:PR q (con q i) p' z): ∀ j s,tb (z.getD j 0) s=true -> tb (x.getD j 0) s=true:=by
 intro j s h;have hl:=C.len;have Fc:=c.len
 by_cases b:Fj q (con q i) p'
 ·obtain ⟨g,I⟩:=(cv c).1 b;obtain ⟨L,l⟩:=rR C c (λk _ s h=>V _ s h) I
  have A:Fj q (con q i) p:=(cv C).2 ⟨λj d=>by
   obtain ⟨t,m,n⟩:=(Ex ((c.sm j (by omega)).in64 (by have:=C.work.k;omega))).1 (g j (by omega));exact (Ex ((C.sm j d).in64 (by have:=C.work.k;omega))).2 ⟨t,m,V j t n⟩,L⟩
  obtain ⟨d,_⟩:=v.sub h;obtain ⟨f,o⟩:=((v.live b j d).2 s).1 h;refine ((a.live A j (by omega)).2 s).2 ⟨V j s f,λ⟨k,hk,e,r⟩=>o ⟨k,hk,e,l k hk s ?_ r⟩⟩
  show tb (p'.getD ((con q i).cells.getD k 0).toNat 0) s=true
  rw [e];exact f
 ·rw [v.dead b,Q2] at h;exact absurd h IG
end
section
variable {q:AA} {i:Int} {a b:Ξ}
def qa (C:Bq q i a): ∃ x,Ev (λn=>PG n q i a) (x,0)/\ PR q (con q i) a x:=by
 obtain ⟨r,b,c,h,_⟩:=zDS (i:=i) C.fit (pos:=a) (zGK C.len256.2 (by decide));obtain ⟨x,e⟩:=r;have G:e=0:=c.trans C.check;subst G;exact ⟨x,b,h rfl⟩
end
section
variable {q:AA} {i j:Int} {p p' x y z:Ξ}
def PR.posOk (C:Bq q i p)(h:PR q (con q i) p x):posOk q x=true:=by
 refine (I4 C.valid).2 ⟨by rw [h.len];exact C.len,λj hj=>?_⟩;have hk:=C.work.k;refine YP (by omega) (h.in64 j) λs a _=>?_
 cases X:tb (x.getD j 0) s with
 | false=>rfl
 | true=>
  obtain ⟨c,b⟩:=h.sub X;rw [(C.sm j c).hi a] at b;cases b
def PR.alive (C:Bq q i p)(r:BI p=false)(h:PR q (con q i) p p):Fj q (con q i) p:=by
 refine Classical.byContradiction λA=>?_
 have h0:=C.len256.1;have:=FA.1 r 0 h0;rw [h.dead A,Q2] at this;exact this rfl
def zFB (C:Bq q i p)(c:Bq q i p')(w: ∀ k,k<(con q i).cells.length -> Ad (con q i) p' k=Ad (con q i) p k)(r:BI p=false)(b:BI p'=false)(h:PR q (con q i) p p):PR q (con q i) p' p':=by
 have A:=h.alive C r;obtain ⟨_,I⟩:=(cv C).1 A;obtain ⟨x,m⟩:=rR c C (λk hk s a=>by rw [w k hk];exact a) I;have d:Fj q (con q i) p':=(cv c).2 ⟨FA.1 b,x⟩;refine ⟨rfl,λ_ j f=>⟨(c.sm j f).in64 (by have:=c.work.k;omega),λs=>⟨λa=>⟨a,?_⟩,λa=>a.1⟩⟩,λu=>absurd d u⟩;rintro ⟨k,hk,e,g⟩
 have P:tb (Ad (con q i) p k) s=true:=by
  rw [←w k hk]
  show tb (p'.getD ((con q i).cells.getD k 0).toNat 0) s=true
  rw [e];exact a
 have l:=m k hk s P g;have hW:=C.work.cells k hk;have n:tb (p.getD ((con q i).cells.getD k 0).toNat 0) s=true:=P;have o:=(((h.live A ((con q i).cells.getD k 0).toNat (by omega)).2 s).1 n).2;exact o ⟨k,hk,rfl,l⟩
end
section
structure Gd (q:AA)(g:Ξ):Prop where
 len:(g.length:Int)=q.cells
 sym: ∀ j,j<g.length -> 0<=g.getD j 0/\ g.getD j 0<q.symbols
def Ar (g:Ξ):Ξ:=g.map λs=>IntKind.i64.wrap (1*2 ^ s.toNat)
def AT (c:AD)(g:Ξ)(a:Nat):Nat:=(g.getD (c.cells.getD a 0).toNat 0).toNat
def Dn (c:AD)(g:Ξ):Ω:=g.map λs=>tb c.set s.toNat
def rl (b:Nat -> Bool)(len:Nat):Nat -> Int -> Ξ
 | 0,l=>if l>0 then [l] else []
 | m+1,l=>bif b (len-1-m) then rl b len m (l+1) else if l>0 then l::rl b len m 0 else rl b len m 0
def Mw (n:List Ξ)(inn:Ω):Prop:=∀ u v:Nat,u<n.length -> v<n.length -> inn.getD u false=true -> inn.getD v false=true -> Rc n inn u v
def CI (q:AA)(c:AD)(g:Ξ):Prop:= (c.kind=1 -> ∀ a b,a<c.cells.length -> b<c.cells.length -> AT c g a=AT c g b -> a=b)/\ (c.kind=2 -> c.lo<=cnt (λa=>tb c.set (AT c g a)) c.cells.length/\ cnt (λa=>tb c.set (AT c g a)) c.cells.length<=c.hi)/\ (c.kind=3 -> c.lo<=Ck (λa=>q.values.getD (AT c g a) 0) c.cells.length/\ Ck (λa=>q.values.getD (AT c g a) 0) c.cells.length<=c.hi)/\ (c.kind=4 -> Ho q 0 c.cells.length (AT c g))/\ (c.kind=5 -> rl (λa=>tb c.set (AT c g a)) c.cells.length c.cells.length 0=c.runs)/\ (c.kind=6 -> I6 q c (AT c g 0) (AT c g 1)=true)/\ (c.kind=7 -> IS c (AT c g 0) (AT c g 1)=true)/\ (c.kind=8 -> Mw q.nbrs (Dn c g))/\ (c.kind=9 -> Mw q.nbrs (Dn c g)/\ ∀ v,v<g.length -> (Dn c g).getD v false=true -> Cc q.nbrs (Dn c g) v=2)
variable {g:Ξ}
def Fn :(Ar g).length=g.length:=zGX _
variable {j:Nat}
def RV (d:j<g.length):(Ar g).getD j 0=IntKind.i64.wrap (1*2 ^ (g.getD j 0).toNat):=by
 unfold Ar;rw [zGH,zIC,zGU d,zGH,zGU d];rfl
variable {c:AD}
def PW :(Dn c g).length=g.length:=zGX _
def gU (d:j<g.length):(Dn c g).getD j false=tb c.set (g.getD j 0).toNat:=by
 unfold Dn;rw [zGH,zIC,zGU d,zGH,zGU d];rfl
variable {s:Nat}
def ZP (j:s<64)(m:Int):(bits .andNot .i64 (IntKind.i64.wrap (1*2 ^ s)) m==0)=tb m s:=by
 rw [zIh,zGk,M6 (GO _ _ _)];constructor
 ·intro h;have:=h s j;rw [Lo,Io j,zEE rfl,zIy] at this;simpa using this
 ·intro h i hi;rw [Lo,Io j]
  by_cases e:s=i
  ·subst e;rw [h];simp
  ·rw [zFd e];rfl
def ZQ (j:s<64)(m:Int):(bits .and .i64 (IntKind.i64.wrap (1*2 ^ s)) m != 0)=tb m s:=by
 have:=Te j m;rw [bne,this,Bool.not_not]
def zDV: ∀ s:Nat,s<16 -> NC (IntKind.i64.wrap (1*2 ^ s))=true:=by decide+kernel
def zDT: ∀ s:Nat,s<16 -> Bj (IntKind.i64.wrap (1*2 ^ s))= [(s:Int)]:=by decide+kernel
def zDU {k:Nat}(hk:k<=16)(hs:s<k):Sm k (IntKind.i64.wrap (1*2 ^ s)):=
 YP (by omega) (Q6 _) λi hi _=>by rw [Io (by omega),zFd (by omega)]
section
variable {q:AA} {i:Int} {g:Ξ} {c:AD}
def Gd.pos (G:Gd q g)(p:CK q=true):posOk q (Ar g)=true:=by
 have hk:=(DM p).2.1;refine (I4 p).2 ⟨by rw [Fn];exact G.len,λj d=>?_⟩;rw [Fn] at d;have:=G.sym j d;rw [RV d];exact zDU (by omega) (by omega)
def Gd.lt (G:Gd q g)(p:CK q=true){j:Nat}(d:j<g.length):(g.getD j 0).toNat<q.symbols.toNat/\ (g.getD j 0).toNat<16:=by
 have hk:=(DM p).2.1;have:=G.sym j d;omega
def RU (G:Gd q g)(p:CK q=true){j:Nat}(d:j<g.length)(s:Nat):tb ((Ar g).getD j 0) s=decide ((g.getD j 0).toNat=s):=by
 rw [RV d,Io (by have:=G.lt p d;omega)]
structure Sv (q:AA)(c:AD)(g:Ξ):Prop where
 v:CK q=true
 G:Gd q g
 cell: ∀ a,a<c.cells.length -> 0<=c.cells.getD a 0/\ c.cells.getD a 0<(g.length:Int)
variable {a:Nat}
def Sv.lt (S:Sv q c g)(D:a<c.cells.length):AT c g a<q.symbols.toNat/\ AT c g a<16:=S.G.lt S.v (by have:=S.cell a D;omega)
def Sv.set (S:Sv q c g)(D:a<c.cells.length):Ad c (Ar g) a=IntKind.i64.wrap (1*2 ^ AT c g a):=RV (by have:=S.cell a D;omega)
theorem Sv.tb (S:Sv q c g)(D:a<c.cells.length)(s:Nat):tb (Ad c (Ar g) a) s=decide (AT c g a=s):=by
 rw [S.set D,Io (by have:=S.lt D;omega)]
def Bq.sv (C:Bq q i (Ar g))(G:Gd q g):Sv q (con q i) g:=⟨C.valid,G,λa D=>by have:=C.work.cells a D;rw [Fn] at this;exact this⟩
def Sv.nz (S:Sv q c g): ∀ j,j<(Ar g).length -> (Ar g).getD j 0≠0:=λj d=>by
 rw [Fn] at d;refine (Ex (by rw [RV d];exact Q6 _)).2 ⟨(g.getD j 0).toNat,by have:=S.G.lt S.v d;omega,?_⟩;rw [RU S.G S.v d,zEE rfl]
def zu (S:Sv q c g)(n:Cq q c (Ar g))(h: ∀ a,a<c.cells.length -> ¬ Bo q c (Ar g) a (AT c g a)):Fj q c (Ar g)/\ PR q c (Ar g) (Ar g):=by
 have f: ∀ j s,j<(Ar g).length -> Proofs.YtodinaconebmdaaGreatDoor.tb ((Ar g).getD j 0) s=true -> ¬ LC q c (Ar g) j s:=by
  rintro j s d b ⟨a,D,rfl,m⟩;rw [Fn] at d;rw [RU S.G S.v d,zGM] at b;subst b;exact h a D m
 have A:Fj q c (Ar g):=⟨S.nz,n,λj d=>by
  have e:=d;rw [Fn] at e;have X:Proofs.YtodinaconebmdaaGreatDoor.tb ((Ar g).getD j 0) (g.getD j 0).toNat=true:=by rw [RU S.G S.v e,zEE rfl]
  exact ⟨(g.getD j 0).toNat,by have:=S.G.lt S.v e;omega,X,f j _ d X⟩⟩
 refine ⟨A,rfl,λ_ j d=>⟨by rw [Fn] at d;rw [RV d];exact Q6 _,λs=>⟨λb=>⟨b,f j s d b⟩,λb=>b.1⟩⟩,λu=>absurd A u⟩
def zk (S:Sv q c g)(A:Fj q c (Ar g)):Cq q c (Ar g)/\ ∀ a,a<c.cells.length -> ¬ Bo q c (Ar g) a (AT c g a):=by
 refine ⟨A.ok,λa D m=>?_⟩;have hc:=S.cell a D;obtain ⟨s,_,b,d⟩:=A.left (c.cells.getD a 0).toNat (by rw [Fn];omega);rw [RU S.G S.v (by omega),zGM] at b;subst b;exact d ⟨a,D,rfl,m⟩
def zm (S:Sv q c g)(h:CI q c g↔Cq q c (Ar g)/\ ∀ a,a<c.cells.length -> ¬ Bo q c (Ar g) a (AT c g a)):(CI q c g -> Fj q c (Ar g)/\ PR q c (Ar g) (Ar g))/\ (¬ CI q c g -> ¬ Fj q c (Ar g)):=
 ⟨λv=>let ⟨b,d⟩:=h.1 v;zu S b d,λu A=>u (h.2 (zk S A))⟩
def Z5 {k:Int}(hk:c.kind=k){M:Prop}(h:CI q c g↔M){A B:Prop}(d:Cq q c (Ar g)↔A)(H: ∀ a,a<c.cells.length -> (Bo q c (Ar g) a (AT c g a)↔¬ B))(Y:M↔A/\ (0<c.cells.length -> B)):CI q c g↔Cq q c (Ar g)/\ ∀ a,a<c.cells.length -> ¬ Bo q c (Ar g) a (AT c g a):=by
 rw [h,d,Y];refine and_congr Iff.rfl ⟨λb a D m=>(H a D).1 m (b (by omega)),λb h0=>Classical.byContradiction λu=>b 0 h0 ((H 0 h0).2 u)⟩
def zp (S:Sv q c g)(hk:c.kind=1):CI q c g↔Cq q c (Ar g)/\ ∀ a,a<c.cells.length -> ¬ Bo q c (Ar g) a (AT c g a):=by
 unfold CI Cq Bo;rw [hk];simp only [Qe,Sg];simp;constructor
 ·intro h a D b d f _;rw [S.tb d,zIJ];exact λX=>f (h b a d D X)
 ·intro h a b D d e;refine Classical.byContradiction λf=>?_
  have:=h b d a D f (by rw [S.set D];exact zDV _ (S.lt D).2);rw [S.tb D,zIJ] at this;exact this e
def oV (S:Sv q c g)(D:a<c.cells.length):EZ c (Ar g) a=Proofs.YtodinaconebmdaaGreatDoor.tb c.set (AT c g a)/\ Fa c (Ar g) a=Proofs.YtodinaconebmdaaGreatDoor.tb c.set (AT c g a):=by
 have j:AT c g a<64:=by have:=S.lt D;omega
 unfold Fa EZ;rw [S.set D,ZP j,ZQ j,Bool.or_self];exact ⟨rfl,rfl⟩
def kw {p p':Nat -> Bool}: ∀ {n:Nat},(∀ a,a<n -> p a=p' a) -> cnt p n=cnt p' n
 | 0,_=>rfl
 | n+1,h=>by rw [Qf,Qf,kw λa ha=>h a (by omega),h n (by omega)]
def dZ {p p':Nat -> Int}: ∀ {n:Nat},(∀ a,a<n -> p a=p' a) -> Ck p n=Ck p' n
 | 0,_=>rfl
 | n+1,h=>by simp only [Ck];rw [dZ λa ha=>h a (by omega),h n (by omega)]
def zq (S:Sv q c g)(hk:c.kind=2):CI q c g↔Cq q c (Ar g)/\ ∀ a,a<c.cells.length -> ¬ Bo q c (Ar g) a (AT c g a):=by
 have w:cnt (EZ c (Ar g)) c.cells.length=cnt (λa=>Proofs.YtodinaconebmdaaGreatDoor.tb c.set (AT c g a)) c.cells.length:=kw λa D=>(oV S D).1
 have z:cnt (Fa c (Ar g)) c.cells.length=cnt (λa=>Proofs.YtodinaconebmdaaGreatDoor.tb c.set (AT c g a)) c.cells.length:=kw λa D=>(oV S D).2
 unfold CI Cq Bo;rw [hk];simp only [Mg,JU,w,z];simp
 have e: ∀ a,a<c.cells.length -> ¬ ((cnt (λa=>Proofs.YtodinaconebmdaaGreatDoor.tb c.set (AT c g a)) c.cells.length=c.hi/\ ¬ bits .andNot .i64 (Ad c (Ar g) a) c.set=0)/\ Proofs.YtodinaconebmdaaGreatDoor.tb c.set (AT c g a)=true∨(cnt (λa=>Proofs.YtodinaconebmdaaGreatDoor.tb c.set (AT c g a)) c.cells.length=c.lo/\ ¬ bits .and .i64 (Ad c (Ar g) a) c.set=0)/\ Proofs.YtodinaconebmdaaGreatDoor.tb c.set (AT c g a)=false):=by
  intro a D;have j:AT c g a<64:=by have:=S.lt D;omega
  have T:=ZP j c.set;have f:=ZQ j c.set;rw [←S.set D] at T f;rintro (⟨⟨_,b⟩,d⟩ | ⟨⟨_,b⟩,d⟩)
  ·rw [d,zGk] at T;exact b T
  ·rw [d,bne_eq_false_iff_eq] at f;exact b f
 constructor
 ·rintro ⟨b,d⟩;refine ⟨⟨d,b⟩,λa D=>?_⟩;have:=e a D;simpa [not_or] using this
 ·rintro ⟨⟨b,d⟩,_⟩;exact ⟨d,b⟩
def YN (S:Sv q c g)(V:Ee q q.symbols.toNat)(D:a<c.cells.length):FK q (Ad c (Ar g) a)=q.values.getD (AT c g a) 0/\ FM q (Ad c (Ar g) a)=q.values.getD (AT c g a) 0:=by
 have hv:=V.val _ (S.lt D).1;unfold FK FM;rw [S.set D,zDT _ (S.lt D).2];simp only [zIr,List.foldl_nil,LF,LQ,zCg];constructor
 ·rw [zEZ (by omega)]
 ·rw [zEZ (by omega)]
def zg (S:Sv q c g)(V:Ee q q.symbols.toNat)(hk:c.kind=3):CI q c g↔Cq q c (Ar g)/\ ∀ a,a<c.cells.length -> ¬ Bo q c (Ar g) a (AT c g a):=by
 have w:LD q c (Ar g)=Ck (λa=>q.values.getD (AT c g a) 0) c.cells.length:=dZ λa D=>(YN S V D).1
 have z:LP q c (Ar g)=Ck (λa=>q.values.getD (AT c g a) 0) c.cells.length:=dZ λa D=>(YN S V D).2
 unfold CI Cq Bo;rw [hk];simp only [Lr,Is,w,z]
 generalize Ck (λa=>q.values.getD (AT c g a) 0) c.cells.length=t
 simp;constructor
 ·rintro ⟨b,d⟩;refine ⟨⟨d,b⟩,λa D=>?_⟩;rw [(YN S V D).1,(YN S V D).2,zGH];omega
 ·rintro ⟨⟨b,d⟩,_⟩;exact ⟨d,b⟩
def zi (S:Sv q c g)(W:B7 c q.symbols.toNat (Ar g))(V:Ee q q.symbols.toNat)(hk:c.kind=4):CI q c g↔Cq q c (Ar g)/\ ∀ a,a<c.cells.length -> ¬ Bo q c (Ar g) a (AT c g a):=by
 have key: ∀ a,a<c.cells.length -> (IL q c (Ar g) a (AT c g a)=false↔Ho q 0 c.cells.length (AT c g)):=λa D=>by
  rw [zCO W V D (by rw [S.tb D,zEE rfl])];constructor
  ·rintro ⟨f,i,j,_⟩ b k A
   have v: ∀ b,b<c.cells.length -> f b=AT c g b:=λb d=>by
    have:=i b (zIG _) d;rw [S.tb d,zGM] at this;exact this.symm
   have:=j b k A
   rwa [v b (by omega),v (b+1) A] at this
  ·intro h;exact ⟨AT c g,λb _ d=>by rw [S.tb d,zEE rfl],h,rfl⟩
 have Y:CI q c g↔Ho q 0 c.cells.length (AT c g):=by unfold CI;rw [hk];simp
 have I:Cq q c (Ar g)↔True:=by unfold Cq;rw [hk];simp
 refine Z5 hk Y I (λa D=>?_) (B:=Ho q 0 c.cells.length (AT c g)) ⟨λh=>⟨trivial,λ_=>h⟩,λh=>?_⟩
 ·rw [←key a D];unfold Bo;rw [hk];simp
 ·rcases zMj c.cells.length with e | e
  ·intro b _ d;omega
  ·exact h.2 e
def oT (S:Sv q c g){ok:Nat -> Nat -> Bool}(h2:c.cells.length=2)(a:Nat)(ha:a<c.cells.length):Gs ok c (Ar g) a (AT c g a)↔¬ ok (AT c g 0) (AT c g 1)=true:=by
 unfold Gs;have t0: ∀ t,Proofs.YtodinaconebmdaaGreatDoor.tb (Ad c (Ar g) 0) t=true↔AT c g 0=t:=λt=>by rw [S.tb (by omega),zGM]
 have s: ∀ t,Proofs.YtodinaconebmdaaGreatDoor.tb (Ad c (Ar g) 1) t=true↔AT c g 1=t:=λt=>by rw [S.tb (by omega),zGM]
 split
 ·rename_i e;subst e;simp only [s];exact not_congr ⟨λ⟨t,e,h⟩=>by rw [e];exact h,λh=>⟨_,rfl,h⟩⟩
 ·have:a=1:=by omega
  subst this;simp only [t0];exact not_congr ⟨λ⟨t,e,h⟩=>by rw [e];exact h,λh=>⟨_,rfl,h⟩⟩
def zt (S:Sv q c g)(b:c.cells.length=2)(hk:c.kind=6):CI q c g↔Cq q c (Ar g)/\ ∀ a,a<c.cells.length -> ¬ Bo q c (Ar g) a (AT c g a):=by
 refine Z5 (M:=I6 q c (AT c g 0) (AT c g 1)=true) (A:=True) (B:=I6 q c (AT c g 0) (AT c g 1)=true) hk ?_ ?_ (λa D=>?_) ⟨λh=>⟨trivial,λ_=>h⟩,λh=>h.2 (by omega)⟩
 ·unfold CI;rw [hk];simp
 ·unfold Cq;rw [hk];simp
 ·rw [←oT S b a D];unfold Bo;rw [hk];simp
def zj (S:Sv q c g)(b:c.cells.length=2)(hk:c.kind=7):CI q c g↔Cq q c (Ar g)/\ ∀ a,a<c.cells.length -> ¬ Bo q c (Ar g) a (AT c g a):=by
 refine Z5 (M:=IS c (AT c g 0) (AT c g 1)=true) (A:=True) (B:=IS c (AT c g 0) (AT c g 1)=true) hk ?_ ?_ (λa D=>?_) ⟨λh=>⟨trivial,λ_=>h⟩,λh=>h.2 (by omega)⟩
 ·unfold CI;rw [hk];simp
 ·unfold Cq;rw [hk];simp
 ·rw [←oT S b a D];unfold Bo;rw [hk];simp
end
end
abbrev zGg:=@List.drop_eq_getElem_cons
abbrev zJw:=@List.drop_eq_nil_of_le
abbrev zMf:=@List.length_eq_zero_iff
abbrev zMt:=@forall_congr'
section
variable {q:AA} {i:Int} {g:Ξ} {c:AD}
def Ts (c:AD)(b:Nat -> Bool):Nat -> Δ -> Prop
 | 0,t=>Xi c t
 | m+1,s=>∃ u,nx c s.1 s.2 (b (c.cells.length-1-m))=some u/\ Ts c b m u
variable {inn:Bool}{a:Nat}
def oX (S:Sv q c g)(D:a<c.cells.length):kd c (Ar g) a inn=true↔inn=tb c.set (AT c g a):=by
 have j:AT c g a<64:=by have:=S.lt D;omega
 unfold kd;rw [S.set D];cases inn
 ·rw [zGF,bne,ZP j];cases tb c.set (AT c g a) <;> simp
 ·rw [zFR,ZQ j];cases tb c.set (AT c g a) <;> simp
def eV (S:Sv q c g)(D:a<c.cells.length): ∀ (m:Nat) (s:Δ),m<=c.cells.length -> (Tt c (Ar g) a inn m s↔Ts c (λa=>tb c.set (AT c g a)) m s/\ (c.cells.length<=a+m -> inn=tb c.set (AT c g a)))
 | 0,s,_=>⟨λh=>⟨h,λh=>by omega⟩,λh=>h.1⟩
 | m+1,s,hm=>by
  constructor
  ·rintro ⟨b,u,i,j,d,A⟩;obtain rfl:=(oX S (by omega)).1 i;obtain ⟨f,k⟩:=(eV S D m u (by omega)).1 A;refine ⟨⟨u,d,f⟩,λh=>?_⟩
   by_cases e:c.cells.length-1-m=a
   ·rw [←j e,e]
   ·exact k (by omega)
  ·rintro ⟨⟨u,d,f⟩,k⟩;refine ⟨tb c.set (AT c g (c.cells.length-1-m)),u,(oX S (by omega)).2 rfl,λe=>?_,d,(eV S D m u (by omega)).2 ⟨f,λh=>k (by omega)⟩⟩;rw [k (by omega),e]
def vu (S:Sv q c g)(D:a<c.cells.length):KV c (Ar g) a inn↔Ts c (λa=>tb c.set (AT c g a)) c.cells.length (0,0)/\ inn=tb c.set (AT c g a):=by
 rw [zLJ D,eV S D _ _ (zGT _)];exact ⟨λh=>⟨h.1,h.2 (by omega)⟩,λh=>⟨h.1,λ_=>h.2⟩⟩
def po {b:Nat -> Bool}{n:Nat}: ∀ (m:Nat) (l:Int),0<l -> ∃ x r,rl b n m l=x::r/\ l<=x
 | 0,l,h=>⟨l,[],by unfold rl;rw [zEZ h],zGl _⟩
 | m+1,l,h=>by
  unfold rl;cases b (n-1-m)
  ·rw [zGF,zEZ h];exact ⟨l,_,rfl,zGl _⟩
  ·rw [zFR];obtain ⟨x,r,a,h2⟩:=po m (l+1) (by omega);exact ⟨x,r,a,by omega⟩
variable {d:Nat}{l:Ξ}
def vJ :l.drop d= []↔l.length<=d:=List.drop_eq_nil_iff
def kb (h:d<l.length):l.drop d=l.getD d 0::l.drop (d+1):=by
 rw [zGg h,zGH,zGU h];rfl
def Yj {b:Nat -> Bool}(g: ∀ x∈c.runs,1<=x): ∀ (m:Nat) (d l:Int),Mq c d l -> (Ts c b m (d,l)↔rl b c.cells.length m l=c.runs.drop d.toNat)
 | 0,d,l,h=>by
  obtain ⟨C,o,l0,k⟩:=h;have pos: ∀ j,j<c.runs.length -> 1<=c.runs.getD j 0:=λj i=>g _ (by rw [zGH,zGU i];exact zM8 i)
  show Xi c (d,l)↔_
  unfold Xi rl;simp only [zIP]
  by_cases f:l>0
  ·obtain ⟨o1,F⟩:=k f;rw [zEZ f,kb (by omega)];constructor
   ·rintro (⟨_,e⟩ | ⟨_,w,z⟩)
    ·omega
    ·rw [show d.toNat=c.runs.length-1 by omega,←z,zJw (by omega)]
   ·intro e;injection e with w z
    have:=vJ.1 z.symm;exact .inr ⟨by omega,by omega,by rw [w,show d.toNat=c.runs.length-1 by omega]⟩
  ·have:l=0:=by omega
   subst this;rw [zGN f,@eq_comm _ ([]:Ξ),vJ];constructor
   ·rintro (⟨e,_⟩ | ⟨e0,w,z⟩)
    ·omega
    ·have:=pos (c.runs.length-1) (by omega);omega
   ·intro e;exact .inl ⟨by omega,rfl⟩
 | m+1,d,l,h=>by
  have h':=h;obtain ⟨C,o,l0,k⟩:=h;have pos: ∀ j,j<c.runs.length -> 1<=c.runs.getD j 0:=λj i=>g _ (by rw [zGH,zGU i];exact zM8 i)
  show (∃ u,nx c d l (b (c.cells.length-1-m))=some u/\ Ts c b m u)↔_
  unfold rl;cases hb:b (c.cells.length-1-m) with
  | true=>
   rw [zFR];unfold nx;rw [zFR]
   by_cases e:d<(c.runs.length:Int)/\ l<c.runs.getD d.toNat 0
   ·rw [zEZ e,←Yj g m d (l+1) ⟨C,o,by omega,λ_=>⟨e.1,by omega⟩⟩];exact ⟨λ⟨u,w,z⟩=>by cases w;exact z,λh=>⟨_,rfl,h⟩⟩
   ·rw [zGN e];refine ⟨λ⟨u,w,_⟩=>by (cases w),λa=>?_⟩;obtain ⟨x,r,w,z⟩:=po (b:=b) (n:=c.cells.length) m (l+1) (by omega);rw [w] at a
    by_cases p:d.toNat<c.runs.length
    ·rw [kb p] at a;injection a with a _
     exact absurd ⟨by omega,by omega⟩ e
    ·rw [zJw (by omega)] at a;cases a
  | false=>
   rw [zGF];unfold nx;rw [zGF]
   by_cases f:l>0
   ·obtain ⟨o1,F⟩:=k f;rw [zGN (by omega),zEZ f,kb (by omega)]
    by_cases e:l=c.runs.getD d.toNat 0
    ·rw [zEZ e,←e];have:=Yj (b:=b) g m (d+1) 0 ⟨by omega,by omega,zGl _,λh=>by omega⟩;rw [show (d+1).toNat=d.toNat+1 by omega] at this;constructor
     ·rintro ⟨u,w,z⟩;cases w;rw [this.1 z]
     ·intro a;injection a with _ a
      exact ⟨_,rfl,this.2 a⟩
    ·rw [zGN e];refine ⟨λ⟨u,w,_⟩=>by (cases w),λa=>?_⟩;injection a with a _
     exact absurd a e
   ·have:l=0:=by omega
    subst this;rw [zEZ rfl,zGN f,←Yj g m d 0 h'];exact ⟨λ⟨u,w,z⟩=>by cases w;exact z,λh=>⟨_,rfl,h⟩⟩
def zh (S:Sv q c g)(d: ∀ x∈c.runs,1<=x)(hk:c.kind=5):CI q c g↔Cq q c (Ar g)/\ ∀ a,a<c.cells.length -> ¬ Bo q c (Ar g) a (AT c g a):=by
 have key:=Yj (b:=λa=>tb c.set (AT c g a)) d c.cells.length 0 0 ⟨zGl _,by omega,zGl _,λh=>by omega⟩;refine Z5 (M:=rl (λa=>tb c.set (AT c g a)) c.cells.length c.cells.length 0=c.runs) (A:=Kp c=true) (B:=Ts c (λa=>tb c.set (AT c g a)) c.cells.length (0,0)) hk ?_ ?_ (λa D=>?_) ?_
 ·unfold CI;rw [hk];simp
 ·unfold Cq;rw [hk];simp
 ·have e:Bo q c (Ar g) a (AT c g a)↔Jq c (Ar g) a (AT c g a):=by unfold Bo;rw [hk];simp
  rw [e];unfold Jq;rw [vu S D,vu S D];cases tb c.set (AT c g a) <;> simp
 ·rw [key];unfold Kp
  show _↔_/\ (_ -> rl _ _ _ _=c.runs.drop 0)
  rw [zJ5];rcases zMj c.cells.length with e | e
  ·rw [e]
   show ([]:Ξ)=c.runs↔(c.runs.length==0)=true/\ _
   rw [zGk,zMf];exact ⟨λh=>⟨h.symm,λh=>absurd h (Nat.lt_irrefl 0)⟩,λh=>h.1.symm⟩
  ·rw [zJQ.2 (by omega:c.cells.length≠0)];exact ⟨λh=>⟨rfl,λ_=>h⟩,λh=>h.2 e⟩
def d9 (S:Sv q c g):pB c (Ar g)=Dn c g/\ cB c (Ar g)=Dn c g:=by
 have h: ∀ s∈g,s.toNat<64:=λs a=>by
  obtain ⟨j,d,rfl⟩:=zGt a;have:=S.G.lt S.v d;rw [zGH,zGU d] at this;have:g[j].toNat<16:=this.2;omega
 unfold pB cB Dn Ar;rw [List.map_map,List.map_map];exact ⟨List.map_congr_left λs a=>ZQ (h s a) _,List.map_congr_left λs a=>ZP (h s a) _⟩
def wm (W:FT c q (Ar g))(D:a<g.length):AT c g a=(g.getD a 0).toNat:=by
 unfold AT;rw [W.id a (by rw [Fn];exact D),zCg]
def uy (S:Sv q c g)(W:FT c q (Ar g)):(∀ a,a<c.cells.length -> ¬ Fr c q (Ar g) a (AT c g a))↔Mw q.nbrs (Dn c g):=by
 obtain ⟨k,E⟩:=d9 S;have m:=W.len;have n:=W.gl;have o:=W.g.gr;rw [Fn] at m n;unfold Fr;rw [k,E];constructor
 ·intro h u v p s f t;obtain ⟨r,_,i⟩:=Vu (l:=Dn c g) (by rw [PW];have:=W.l1;rw [Fn] at this;exact this);have x:=i;rcases i with ⟨_,h0⟩ | ⟨h0,b,y,_⟩
  ·have:=h0 u (by rw [PW];omega);rw [f] at this;cases this
  ·rw [PW] at b;have j: ∀ w:Nat,w<q.nbrs.length -> (Dn c g).getD w false=true -> Rc q.nbrs (Dn c g) r w:=λw hw V=>Classical.byContradiction λd=>h w (by omega) ⟨V,by rw [wm W (by omega),←gU (by omega)];exact V,r,h0,x,d⟩
   exact ((j u p f).symm o h0 (by omega) y).trans (j v s t)
 ·rintro h a ha ⟨b,_,r,h0,i,d⟩;rcases i with ⟨e,_⟩ | ⟨_,z,A,_⟩
  ·omega
  ·rw [PW] at z;have:=h r.toNat a (by omega) (by omega) A b;rw [show ((r.toNat:Nat):Int)=r by omega] at this;exact d this
def zr (S:Sv q c g)(W:FT c q (Ar g))(hk:c.kind=8):CI q c g↔Cq q c (Ar g)/\ ∀ a,a<c.cells.length -> ¬ Bo q c (Ar g) a (AT c g a):=by
 obtain ⟨V,E⟩:=d9 S;have Y:CI q c g↔Mw q.nbrs (Dn c g):=by unfold CI;rw [hk];simp
 have I:Cq q c (Ar g):=by unfold Cq;rw [hk];simp
 rw [Y,←uy S W,and_iff_right I];refine zMt λa=>zMt λha=>not_congr ?_
 have e:Bo q c (Ar g) a (AT c g a)↔Ic c q (Ar g) a (AT c g a):=by unfold Bo;rw [hk];simp
 rw [e];unfold Ic;refine ⟨.inl,λh=>h.elim id λ⟨b,d,_⟩=>?_⟩;rw [V] at b;rw [E,b] at d;cases d
def zl (S:Sv q c g)(W:FT c q (Ar g))(hk:c.kind=9):CI q c g↔Cq q c (Ar g)/\ ∀ a,a<c.cells.length -> ¬ Bo q c (Ar g) a (AT c g a):=by
 obtain ⟨V,E⟩:=d9 S;have m:=W.len;rw [Fn] at m;have Y:CI q c g↔Mw q.nbrs (Dn c g)/\ ∀ v,v<g.length -> (Dn c g).getD v false=true -> Cc q.nbrs (Dn c g) v=2:=by unfold CI;rw [hk];simp
 have I:Cq q c (Ar g)↔∀ v,v<g.length -> (Dn c g).getD v false=true -> Cc q.nbrs (Dn c g) v=2:=by
  have:Cq q c (Ar g)↔Pd c q (Ar g):=by unfold Cq;rw [hk];simp
  rw [this];unfold Pd;rw [V,E,Fn];refine zMt λv=>zMt λ_=>zMt λ_=>by omega
 rw [Y,I,←uy S W,and_comm];refine and_congr Iff.rfl (zMt λa=>zMt λha=>not_congr ?_);have e:Bo q c (Ar g) a (AT c g a)↔Nk c q (Ar g) a (AT c g a):=by unfold Bo;rw [hk];simp
 rw [e];unfold Nk gP;refine ⟨.inl,λh=>h.elim id ?_⟩;rintro ⟨v,_,_,_,b,⟨_,d⟩ | ⟨_,d,_⟩⟩
 ·rw [V,gU (by omega),←wm W (by omega),d] at b;cases b
 ·rw [V] at b;rw [E,b] at d;cases d
def rj (C:Bq q i (Ar g))(G:Gd q g):(CI q (con q i) g -> Fj q (con q i) (Ar g)/\ PR q (con q i) (Ar g) (Ar g))/\ (¬ CI q (con q i) g -> ¬ Fj q (con q i) (Ar g)):=by
 have S:=C.sv G;have r:BI (Ar g)=false:=FA.2 S.nz;refine zm S ?_;rcases Pi (Ph C.kind) with hk | hk | hk | hk | hk | hk | hk | hk | hk
 ·exact zp S hk
 ·exact zq S hk
 ·exact zg S C.vals hk
 ·exact zi S C.work C.vals hk
 ·refine zh S (λx e=>?_) hk;have h:=C.fine;unfold E8 at h;simp only [zEh,zGM] at h;exact (Xp.1 h.2 x e).1
 ·exact zt S (C.two (.inl hk)) hk
 ·exact zj S (C.two (.inr hk)) hk
 ·exact zr S (C.all (.inl hk) r) hk
 ·exact zl S (C.all (.inr hk) r) hk
end
section
variable {q:AA} {i:Int} {g:Ξ}
def zEv (k:Int):IT k<=4:=by
 unfold IT;split
 ·decide
 ·split
  ·decide
  ·split <;> decide
def Gd.ctx (G:Gd q g)(Q:DK q)(p:CK q=true)(h0:0<=i)(a:i<(q.cons.length:Int)):Bq q i (Ar g):=⟨Q,p,h0,a,G.pos p⟩
def Kb (q:AA)(g:Ξ):Prop:=∀ i,0<=i -> i<(q.cons.length:Int) -> CI q (con q i) g
def Nd (q:AA)(g:Ξ):Prop:=Gd q g/\ Kb q g
end
def pan (v:Value):List PanicEntry:=[{ v:=v,recovered:=false }]
section
variable {P:Program} {Γ:Au}
def MT (K:Nat)(h:DH)(ρ:List AI)(b:Nat):Prop:=∃ k o p,K<=k/\ h[k]? =some (some o)/\ ρ[k]? =some p/\ p.foot b
variable {ρ:List AI}{h:DH}
def MO.split (K:Nat)(b:Nat):MO h ρ b↔MO (h.take K) (ρ.take K) b∨MT K h ρ b:=by
 constructor
 ·rintro ⟨k,o,p,a,c,d⟩;rcases zIW k K with hk | hk
  ·exact .inl ⟨k,o,p,by grind,by grind,d⟩
  ·exact .inr ⟨k,o,p,hk,a,c,d⟩
 ·rintro (⟨k,o,p,a,c,d⟩ | ⟨k,o,p,_,a,c,d⟩)
  ·rw [zMm] at a c;split at a
   ·rename_i hk;rw [zEZ hk] at c;exact ⟨k,o,p,a,c,d⟩
   ·cases a
  ·exact ⟨k,o,p,a,c,d⟩
def TZ (K:Nat):Option DO -> Bool
 | some (.cells l)=>l.all (C5 K)
 | some (.ro l)=>l.all (C5 K)
 | _=>true
variable {w:World}
def Aq.take {N:Ψ}(H:Aq P Γ N h ρ w){K:Nat}(hK:K<=h.length)(B:(h.take K).all (TZ K)=true):Aq P Γ (λb=>N b∨MT K h ρ b) (h.take K) (ρ.take K) w/\ ∀ b,MS (λb=>N b∨MT K h ρ b) (h.take K) (ρ.take K) b↔MS N h ρ b:=by
 have Y: ∀ b,MS (λb=>N b∨MT K h ρ b) (h.take K) (ρ.take K) b↔MS N h ρ b:=λb=>by
  constructor
  ·rintro ((x | x) | x)
   ·exact .inl x
   ·exact .inr ((MO.split K b).2 (.inr x))
   ·exact .inr ((MO.split K b).2 (.inl x))
  ·rintro (x | x)
   ·exact .inl (.inl x)
   ·exact ((MO.split K b).1 x).elim .inr λy=>.inl (.inr y)
 have a: ∀ {α:Type} {l:List α} {k:Nat} {x:α},(l.take K)[k]? =some x -> k<K/\ l[k]? =some x:=λ{α l k x} hx=>by
  grind
 refine ⟨⟨by simp [H.len],λk o hk=>?_,λk o p b I C E=>?_,λi L o o' p p' b M O Q R S U V=>H.dis i L o o' p p' b M (a O).2 (a Q).2 (a R).2 (a S).2 U V,λb g=>?_,H.gi⟩,Y⟩
 ·obtain ⟨W,X⟩:=a hk;obtain ⟨p,hp,d⟩:=H.obj k o X;refine ⟨p,by grind,?_⟩;have e:MS (λb=>N b∨MT K h ρ b) (h.take K) (ρ.take K)=MS N h ρ:=funext λb=>propext (Y b)
  rw [e];cases o with
  | cells l=>
   have T:l.all (C5 K)=true:=zGL.1 B _ (zHw hk);exact AX.out d rfl λj u q r=>AJ.take _ (zGL.1 T _ (by simp [zGH,q])) r
  | ints l=>exact d
  | bools l=>exact d
  | arr m n f=>exact d
  | iter encs=>exact d
  | ro l=>
   obtain ⟨Z,r2,r3⟩:=d;have T:l.all (C5 K)=true:=zGL.1 B _ (zHw hk);exact ⟨Z,r2,AX.out r3 rfl λj u q r=>AJ.take _ (zGL.1 T _ (by simp [zGH,q])) r⟩
  | mo x=>exact d
 ·obtain ⟨W,J⟩:=a I;obtain ⟨F,c2,G⟩:=H.cel k o p b J (a C).2 E;refine ⟨F,?_,G⟩;rintro (hn | ⟨s,o',p',q1,v,A,D⟩)
  ·exact c2 hn
  ·exact H.dis k s o o' p p' b (by omega) J v (a C).2 A E D
 ·rcases g with g | ⟨s,o',p',q1,v,A,D⟩
  ·exact H.nlt b g
  ·obtain ⟨F,_,c,t,z,G⟩:=H.cel s o' p' b v A D
   grind
def Lh (fr:List DV):List DV:=fr.map λ_=>.any
def wj {M:Ψ}{fr:List DV}{t:Array Value}(h:fr.length=t.size):BE M w ρ (Lh fr) t:=⟨by simp [Lh,h],λj hj=>by
 have:(Lh fr).getD j .any= .any:=by
  grind [Lh]
 rw [this];trivial⟩
def PO {L:Nat}(Q:QY P Γ L):Exit -> Act -> World -> Prop
 | .panic c,a,w=>∃ fr h ρ N Y,Q (.panic c) ⟨Lh fr,h⟩ Y/\ fr.length=a.tmps.size/\ Aq P Γ N h ρ w/\ Y.I N h ρ w/\ a.defers= []
 | e,a,w=>∃ S ρ N Y,QE Q e S Y/\ AS P Γ N S ρ a w/\ Y.I N S.h ρ w/\ Mt none a.defers w/\ Bd Fence.wide none w
def PO.le {L:Nat}{Q:QY P Γ L}{e:Exit}{a:Act}(h:PO Q e a w): ∃ S ρ N Y,QE Q e S Y/\ AS P Γ N S ρ a w/\ Y.I N S.h ρ w/\ Mt none a.defers w/\ Bd Fence.wide none w:=by
 cases e with
 | panic c=>
  obtain ⟨fr,h,ρ,N,Y,b,d,f,A,g⟩:=h;exact ⟨⟨Lh fr,h⟩,ρ,N,Y,b,⟨f,wj d⟩,A,g,Bd.none⟩
 | _=>exact h
def Dt (P:Program)(Γ:Au){L:Nat}(Y:BL P Γ L)(ops:Array Oper)(l:Θ)(S:St)(Q:QY P Γ L):Prop:= ∀ N ρ a w,AS P Γ N S ρ a w -> Y.I N S.h ρ w -> a.defers= [] -> wpListIn Fence.wide 0 P ops (PO Q) (CQ ops l) a w
variable {ops:Array Oper}
theorem Rz : ∀ (l l':Θ),CQ ops (l++l')=CQ ops l++CQ ops l'
 | [],_=>rfl
 | i::l,l'=>by
  simp only [List.cons_append,CQ];split
  ·rw [Rz l l'];rfl
  ·exact Rz l l'
def qk :CQ ops (List.range ops.size)=ops.toList:=by
 have go: ∀ (k:Nat),k<=ops.size -> CQ ops (List.range k)=ops.toList.take k:=by
  intro k
  induction k with
  | zero=>intro _;rfl
  | succ k ih=>
   grind [List.range_succ,Rz,List.take_add_one,CQ]
 simp_all [List.take_of_length_le]
section
variable {L:Nat} {C:Du P} {i:Nat} {ρ0:List AI} {Q:QY P Γ L} {ops:Array Oper} {S:St} {Ai:BR} {vs:List Prop}
variable {Y:BL P Γ L}
def Dt.done {l:Θ}{S':St}{t:BR}(b:Dv Fence.wide P)(v:DF ops=true)(h:EN P Γ ops (CQ ops l) S Ai=some (S',vs,t))(c:Bp vs)(hk:Q .normal S' Y):Dt P Γ Y ops l S Q:=λN ρ a w R y m=>
 LW b v _ (PJ l) R h c λρ' a' w' R' st K=>Tr.done R y m Bd.none hk R' st.st (λk p _ g=>st.pl k p g) K
def Tr.ofO {id:Nat}(h:Dt P Γ Y ops (List.range ops.size) S Q):Tr P Γ Fence.wide none L Y (.region id ops false) S Q:=λN ρ a w R y m _=>zMP (zI8 (by
 have:=h N ρ a w R y m;rw [qk] at this;exact this)) λ_ _ _=>PO.le
def XC (P:Program)(Γ:Au)(ops:Array Oper)(l:Θ)(p:Nat)(S:St)(Ai:BR):Option (FuncId×List DV×Option Tmp×St×List Prop×BR):=match EN P Γ ops (CQ ops l) S Ai with
 | none=>none
 | some (e,vs,i)=>match ops[p]? with
  | none=>none
  | some o=>match Kg ops e o with
   | some true=>match o.op with
    | .call c=>match c.callee with
     | .value f=>match AZ e.fr f with
      | .fn g m cap=>some (g,c.args.toList.map (AZ e.fr)++(List.range m).map cap,o.dst,e,vs,i)
      | _=>none
     | _=>none
    | _=>none
   | _=>none
def dF (P:Program)(Γ:Au)(ops:Array Oper)(l:Θ)(p:Nat)(S:St)(Ai:BR):Option (List DV×Nat×Option Tmp×St×List Prop×BR):=match EN P Γ ops (CQ ops l) S Ai with
 | none=>none
 | some (e,vs,i)=>match ops[p]? with
  | none=>none
  | some o=>match Kg ops e o with
   | some true=>match o.op with
    | .call c=>match c.callee with
     | .value f=>match AZ e.fr f with
      | .yl l=>match (c.args.toList.map (AZ e.fr)).all GF with
       | true=>some (c.args.toList.map (AZ e.fr),l,o.dst,e,vs,i)
       | false=>none
      | _=>none
     | _=>none
    | _=>none
   | _=>none
end
end
def AJ.pl {M z:Ψ}{w:World}(Y: ∀ b,z b -> M b){ρ ρ':List AI}(B: ∀ (k:Nat) (p:AI),ρ[k]? =some p -> ∃ L,ρ'[k]? =some { p with foot:=L }): ∀ (d:DV) {v:Value},AJ M w d ρ v -> AJ z w d ρ' v:=by
 have low: ∀ (d:DV) {v:Value},AJ M w d [] v -> AJ z w d [] v:=λd v h=>h.out d ⟨λ_ _ _ _=>rfl,λb A=>.inl (Y b A),λk p hk=>by simp at hk⟩
 intro d
 induction d with
 | any=>intro v _;trivial
 | nils=>intro v h;exact h
 | int k n=>intro v h;exact h
 | bool b=>intro v h;exact h
 | str s=>intro v h;exact h
 | ints l=>intro v h;exact low (.ints l) h
 | bools l=>intro v h;exact low (.bools l) h
 | sl m n f _=>intro v h;exact low (.sl m n f) h
 | fp m f _=>intro v h;exact low (.fp m f) h
 | agg m f U=>rintro v ⟨cs,e,q,h⟩;exact ⟨cs,e,q,λj t=>let ⟨u,x,y⟩:=h j t;⟨u,x,U j y⟩⟩
 | tup m f U=>rintro v ⟨cs,e,q,h⟩;exact ⟨cs,e,q,λj t=>let ⟨u,x,y⟩:=h j t;⟨u,x,U j y⟩⟩
 | fn g m c U=>rintro v ⟨cs,e,q,h⟩;exact ⟨cs,e,q,λj t=>let ⟨u,x,y⟩:=h j t;⟨u,x,U j y⟩⟩
 | ref k j=>rintro v ⟨p,o,e⟩;obtain ⟨L,h⟩:=B k p o;exact ⟨_,h,e⟩
 | msl k m off n=>rintro v ⟨p,cap,o,r⟩;obtain ⟨L,h⟩:=B k p o;exact ⟨_,cap,h,r⟩
 | mp k m i j=>rintro v ⟨p,o,e⟩;obtain ⟨L,h⟩:=B k p o;exact ⟨_,h,e⟩
 | it k=>rintro v ⟨p,o,e⟩;obtain ⟨L,h⟩:=B k p o;exact ⟨_,h,e⟩
 | yl l=>intro v h;exact h
 | cst u=>intro v h;exact h
 | mri k i=>rintro v ⟨p,vs,o,r⟩;obtain ⟨L,h⟩:=B k p o;exact ⟨_,vs,h,r⟩
 | mse k m off n=>rintro v ⟨p,a,cap,o,r⟩;obtain ⟨L,h⟩:=B k p o;exact ⟨_,a,cap,h,r⟩
def A8.ro {L k:Nat}{S:St}{l:List DV}(hk:S.h[k]? =some (some (.cells l)))(hL:L<=k):A8 L S ⟨S.fr,S.h.set k (some (.ro l))⟩:=λP Γ N ρ a w R=>by
 obtain ⟨p,C,D⟩:=R.hr.obj k _ hk;have D:AX w p l.length _:=D;obtain ⟨W,Nw⟩:=D;have E6:k<ρ.length:=(zGe.1 C).1;have hkh:k<S.h.length:=(zGe.1 hk).1
 let p':AI:={ p with foot:=λ_=>False }
 have z: ∀ (i:Nat) (q:AI),(ρ.set k p')[i]? =some q -> (i=k/\ q=p')∨(i≠k/\ ρ[i]? =some q):=λi q h=>by
  grind
 have K: ∀ (i:Nat) (q:AI),i≠k -> ρ[i]? =some q -> (ρ.set k p')[i]? =some q:=λi q hi h=>by grind
 have AE:(ρ.set k p')[k]? =some p':=by grind
 have FL: ∀ (i:Nat) (q:AI),ρ[i]? =some q -> ∃ ft,(ρ.set k p')[i]? =some { q with foot:=ft }:=λi q h=>by
  by_cases e:i=k
  ·grind
  ·exact ⟨q.foot,K i q e h⟩
 have y: ∀ (i:Nat) (o:DO),(S.h.set k (some (.ro l)))[i]? =some (some o) -> (i=k/\ o= .ro l)∨(i≠k/\ S.h[i]? =some (some o)):=λi o h=>by
  grind
 have M: ∀ b,MO (S.h.set k (some (.ro l))) (ρ.set k p') b -> MO S.h ρ b/\ b≠p.blk:=by
  rintro b ⟨i,o,q,A,B,E⟩;rcases z i q B with ⟨rfl,rfl⟩ | ⟨hi,B⟩
  ·exact E.elim
  ·rcases y i o A with ⟨rfl,_⟩ | ⟨_,A⟩
   ·exact absurd rfl hi
   ·exact ⟨⟨i,o,q,A,B,E⟩,λe=>R.hr.dis i k o _ q p b hi A hk B C E (by rw [W];exact e)⟩
 have Y: ∀ b,MS N (S.h.set k (some (.ro l))) (ρ.set k p') b -> MS N S.h ρ b:=λb g=>g.imp id λh=>(M b h).1
 have F:=R.hr.cel k _ p p.blk hk C (by rw [W]);have Q: ∀ (d:DV) {v:Value},AJ (MS N S.h ρ) w d ρ v -> AJ (MS N (S.h.set k (some (.ro l))) (ρ.set k p')) w d (ρ.set k p') v:=λd v h=>h.pl Y FL
 refine ⟨ρ.set k p',⟨⟨by simp [R.hr.len],λi o hi=>?_,λi o q b r s O=>?_,λi G o o' q V b H r s O I X Z=>?_,R.hr.nlt,R.hr.gi⟩,⟨R.fr.1,λj hj=>Q _ (R.fr.2 j hj)⟩⟩,⟨AQ.refl _ _,λb g=>.inl (M b g).1⟩,λi q hi J=>K i q (by omega) J⟩
 ·rcases y i o hi with ⟨rfl,rfl⟩ | ⟨H,hi⟩
  ·refine ⟨p',AE,rfl,λT=>T.elim F.2.1 λT=>(M _ T).2 rfl,?_⟩;exact AX.out (R':=λj u=>AJ (MS N (S.h.set i (some (.ro l))) (ρ.set i p')) w (l.getD j .any) (ρ.set i p') u) (show AX w { p' with foot:=λb=>b=p'.blk } l.length _ from ⟨rfl,Nw⟩) rfl λj u _ c=>Q _ c
  ·obtain ⟨q,J,t⟩:=R.hr.obj i o hi;refine ⟨q,K i q H J,?_⟩;cases o with
   | cells l'=>exact AX.out t rfl λj u _ c=>Q _ c
   | ints l'=>exact AX.out t rfl λj u _ c=>c
   | bools l'=>exact AX.out t rfl λj u _ c=>c
   | arr m n f=>exact AX.out t rfl λj u _ c=>AJ.out _ ⟨λ_ _ _ _=>rfl,λb g=>.inl (Y b g),λ_ _ h=>by simp at h⟩ c
   | iter encs=>
    obtain ⟨gf,lb,Rd,q1,q2,q3,q4⟩:=t;exact ⟨gf,lb,Rd,q1,q2,λb g=>⟨λU=>(q3 b g).1 (Y b U),(q3 b g).2⟩,q4⟩
   | ro l'=>
    obtain ⟨r1,r2,r3⟩:=t;exact ⟨r1,λU=>r2 (Y _ U),AX.out r3 rfl λj u _ c=>Q _ c⟩
   | mo x=>exact t
 ·rcases z i q s with ⟨rfl,rfl⟩ | ⟨hi,s⟩
  ·exact O.elim
  ·rcases y i o r with ⟨rfl,_⟩ | ⟨_,r⟩
   ·exact absurd rfl hi
   ·exact R.hr.cel i o q b r s O
 ·rcases z i q O with ⟨rfl,rfl⟩ | ⟨hi,O⟩
  ·exact X.elim
  ·rcases z G V I with ⟨rfl,rfl⟩ | ⟨Bt,I⟩
   ·exact Z.elim
   ·rcases y i o r with ⟨rfl,_⟩ | ⟨_,r⟩
    ·exact absurd rfl hi
    ·rcases y G o' s with ⟨rfl,_⟩ | ⟨_,s⟩
     ·exact absurd rfl Bt
     ·exact R.hr.dis i G o o' q V b H r s O I X Z
section
def u9 {h1 h:DH}(hS:h1.take h.length=h):h1=h++h1.drop h.length:=by
 grind [List.take_append_drop]
section
variable {L:Nat} {k K:List KI} {S:St} {ops:Array Oper}
 {c:List (DV×DH×Bool)} {o:List (Nat×DV)} {z:List (Nat×Fz)} {v:List Prop} {fr:List DV} {h h1:DH} {l l1 l2:Θ} {p:Nat} {dst:Option Tmp}
variable {Q:QY Tryz.prog GG L}{Y:BL Tryz.prog GG L}
theorem PL {e:List PanicEntry}(h:Q (.panic e) S Y): ∀ (k:List KI),BF Tryz.prog GG Fence.wide none L Q k (.panic e) S Y
 | []=>h
 | .blk _::k=>PL h k
 | .code _::k=>PL h k
 | .lend _::k=>PL h k
 | .scp::k=>PL h k
 | .loopN _ _::k=>PL h k
def fj (L:Nat)(h:DH):DH:=(List.range L).map λk=>VC (List.range L) (h.getD k none)
def Zl (B:Θ)(r:St×List Prop×BR):List DV×DH×List Prop:=(forget B r.1.fr,r.1.h,r.2.1)
variable {B:Θ}
def rK {x:Option (St×List Prop×BR)}(h:x.map (Zl B)=some (fr,h1,v)): ∃ f M,x=some (⟨f,h1⟩,v,M)/\ fr=forget B f:=by
 cases x with
 | none=>cases h
 | some q=>
  obtain ⟨⟨f,g⟩,w,M⟩:=q
  simp_all [Zl]
variable {S':St}
def Dt.weaken (h:A8 L S S')(hk:Dt Tryz.prog GG Y ops l S' Q):Dt Tryz.prog GG Y ops l S Q:=λN ρ a w R y m=>by
 obtain ⟨ρ1,H,b,A⟩:=h Tryz.prog GG N ρ a w R;exact hk N ρ1 a w H (Y.st y R.hr H.hr b A) m
def YZ {f:List DV}{d:DV}(G:fr=forget B f):A8 L ⟨Cp f dst d,h⟩ ⟨Cp fr dst d,h⟩:=by
 subst G;cases dst with
 | none=>exact A8.forget B f h
 | some t=>
  refine A8.fr (by simp [Cp,Wj]) λj a=>?_
  have a:j<f.length:=by simpa [Cp] using a
  show AN ((f.set t d).getD j .any) (((forget B f).set t d).getD j .any)
  by_cases e:t=j
  ·grind [Wj,AN.refl]
  ·have e1:(f.set t d).getD j .any=f.getD j .any:=by grind
   have e2:((forget B f).set t d).getD j .any=(forget B f).getD j .any:=by grind
   grind [kP,AN.refl,AN.any]
def WP:List KI -> Bool
 | .code _::_=>true
 | .blk _::k=>WP k
 | .scp::k=>WP k
 | .loopN _ _::_=>true
 | _=>false
def A1.leH {F:Fence}{B:Option Nat}(a:A8 L S S'): ∀ {k:List KI},WP k=true -> A1 Tryz.prog GG F B L Y Q k S' -> A1 Tryz.prog GG F B L Y Q k S
 | .code _::_,_,h=>Tr.weaken a h
 | .blk _::k,e,h=>A1.leH (k:=k) a e h
 | .scp::k,e,h=>A1.leH (k:=k) a e h
 | .loopN 0 _::_,_,h=>h.elim
 | .loopN (_+1) _::_,_,h=>Tr.weaken a h
 | .lend _::_,e,_=>by cases e
 | [],e,_=>by cases e
def Zk (B:Θ)(r:FuncId×List DV×Option Tmp×St×List Prop×BR):FuncId×List DV×Option Tmp×List DV×DH×List Prop:=(r.1,r.2.1,r.2.2.1,forget B r.2.2.2.1.fr,r.2.2.2.1.h,r.2.2.2.2.1)
def rJ {x:Option (FuncId×List DV×Option Tmp×St×List Prop×BR)}{g:FuncId}{ds:List DV}(h:x.map (Zk B)=some (g,ds,dst,fr,h1,v)): ∃ f M,x=some (g,ds,dst,⟨f,h1⟩,v,M)/\ fr=forget B f:=by
 cases x with
 | none=>cases h
 | some q=>
  obtain ⟨g,ds,dst,⟨f,g'⟩,w,M⟩:=q
  simp_all [Zk]
def fq (B:Θ)(r:List DV×Nat×Option Tmp×St×List Prop×BR):List DV×Nat×Option Tmp×List DV×DH×List Prop:=(r.1,r.2.1,r.2.2.1,forget B r.2.2.2.1.fr,r.2.2.2.1.h,r.2.2.2.2.1)
def zDw {x:Option (List DV×Nat×Option Tmp×St×List Prop×BR)}{g:List DV}{ds:Nat}(h:x.map (fq B)=some (g,ds,dst,fr,h1,v)): ∃ f M,x=some (g,ds,dst,⟨f,h1⟩,v,M)/\ fr=forget B f:=by
 cases x with
 | none=>cases h
 | some q=>
  obtain ⟨g,ds,dst,⟨f,g'⟩,w,M⟩:=q
  simp_all [fq]
end
def Yx:Θ -> DH -> Option DH
 | [],h=>some h
 | k::W,h=>match h.getD k none with
  | some (.cells l)=>Yx W (h.set k (some (.ro l)))
  | _=>none
variable {fr:List DV}{L:Nat}
def A8.ros : ∀ (W:Θ) {h h':DH},Yx W h=some h' -> (W.all λk=>Nat.ble L k)=true -> A8 L ⟨fr,h⟩ ⟨fr,h'⟩
 | [],h,h',e,_=>by cases e;exact A8.refl _ _
 | k::W,h,h',e,hk=>by
  simp only [zMs,zEh] at hk;simp only [Yx] at e;split at e
  ·rename_i l j;exact (A8.ro (S:=⟨fr,h⟩) (getD_some j) (zIa hk.1)).trans (A8.ros W e hk.2)
  ·cases e
def xQ {Y:BL Tryz.prog GG L}{Q:QY Tryz.prog GG L}{K:List KI}{F:Fence}{B:Option Nat}{h:DH}(W:Θ)(h':DH)(hk:A1 Tryz.prog GG F B L Y Q K ⟨fr,h'⟩)(e:Yx W h=some h':=by kernel_rfl)(a:(W.all λk=>Nat.ble L k)=true:=by kernel_rfl)(l:JB K=true:=by kernel_rfl):A1 Tryz.prog GG F B L Y Q K ⟨fr,h⟩:=
 Bi.le (A8.ros W e a) l hk
end
abbrev zNF:=@List.take_left'
section
variable {P:Program} {Γ:Au} {N:Ψ} {ρ:List AI} {w:World} {hc T:DH}
def hid (K:Nat)(T:DH):DH:=List.replicate K none++T
variable {K:Nat}
def WK {k:Nat}{o:DO}(h:(hid K T)[k]? =some (some o)):K<=k/\ ∀ l:DH,l.length=K -> (l++T)[k]? =some (some o):=by
 rcases zIW k K with hk | hk
 ·simp_all [hid,zIu]
 grind [hid]
variable {b:Nat}
theorem MO.hid (h:MO (hid hc.length T) ρ b):MT hc.length (hc++T) ρ b:=by
 obtain ⟨k,o,p,a,c,d⟩:=h;obtain ⟨hk,J⟩:=WK a;exact ⟨k,o,p,hk,J hc rfl,c,d⟩
def MT.mo {h:DH}(x:MT K h ρ b):MO h ρ b:=by
 obtain ⟨k,o,p,_,a,c,d⟩:=x;exact ⟨k,o,p,a,c,d⟩
def Aq.hide (H:Aq P Γ N (hc++T) ρ w):Aq P Γ (λb=>N b∨MO hc (ρ.take hc.length) b) (hid hc.length T) ρ w:=by
 have M: ∀ b,MO (hc++T) ρ b↔MO hc (ρ.take hc.length) b∨MT hc.length (hc++T) ρ b:=λb=>by
  have:=MO.split (h:=hc++T) (ρ:=ρ) hc.length b
  rwa [zNF] at this
  rfl
 have e: ∀ b,MO hc (ρ.take hc.length) b -> ¬ MT hc.length (hc++T) ρ b:=by
  rintro b ⟨k,o,p,g,a,m⟩ ⟨n,o',p',d,s,O,f⟩;rw [zMm] at a;split at a
  ·rename_i hk;exact H.dis k n o o' p p' b (by omega) (by grind) s a O m f
  ·cases a
 have V: ∀ b,MS (λb=>N b∨MO hc (ρ.take hc.length) b) (hid hc.length T) ρ b -> MS N (hc++T) ρ b:=λb hb=>by
  rcases hb with (hb | hb) | hb
  ·exact .inl hb
  ·exact .inr ((M b).2 (.inl hb))
  ·exact .inr (MO.hid hb).mo
 refine ⟨by rw [H.len];simp [hid],λk o hk=>?_,λk o p b d s O=>?_,λi v o o' p p' b D d s O f G q=>H.dis i v o o' p p' b D ((WK d).2 hc rfl) ((WK s).2 hc rfl) O f G q,λb hb=>?_,H.gi⟩
 ·obtain ⟨p,r,u⟩:=H.obj k o ((WK hk).2 hc rfl);exact ⟨p,r,u.out (D5 V ρ) (S:=λ_=>False) (AQ.refl _ _) (λ_ h=>h.elim) λ_ _ _ h=>h⟩
 ·obtain ⟨hk,X⟩:=WK d;obtain ⟨j,x,l⟩:=H.cel k o p b (X hc rfl) s O;exact ⟨j,λhb=>hb.elim x λhb=>e b hb ⟨k,o,p,hk,X hc rfl,s,O⟩,l⟩
 ·rcases hb with hb | hb
  ·exact H.nlt b hb
  ·obtain ⟨k,o,p,g,a,m⟩:=(M b).2 (.inl hb);obtain ⟨j,_,c,t,z,l⟩:=H.cel k o p b g a m
   grind
variable {pv:Value} {gf m:Nat} {cap:Nat -> DV} {JP:DH} {ys:List (List DV)} {out:Option DV}
end
end Go.Proofs.YtodinaconebmdaaGreatDoor
