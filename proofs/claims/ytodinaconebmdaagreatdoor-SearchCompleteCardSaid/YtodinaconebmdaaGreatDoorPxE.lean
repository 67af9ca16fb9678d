/- Part 5 of 8 of what the proofs of these laws stand on. -/
import Derived.Test.YtodinaconebmdaaGreatDoorPxD
set_option linter.all false
namespace Go.Proofs.YtodinaconebmdaaGreatDoor
open Go.RowKit
section
set_option maxRecDepth 100000
set_option maxHeartbeats 40000000
def n6:ST:=.rd 0 (.rd 1 (.rd 2 (.rd 3 (.rd 4 (.rd 5 (.rd 6 (.rd 7 (.rd 8 (.rd 9 (.rd 10 (.rd 11 (.rd 12 (.rd 13 (.rd 14 (.rd 15 (.rd 16 (.rd 17 (.rd 18 (.rd 19 (.rd 20 (.rd 21 (.rd 22 (.rd 23 (.rd 24 (.rd 25 (.rd 26 (.rd 27 (.rd 28 (.ef 29 (.rd 30 (.fin [] [5,6])) (.no))))))))))))))))))))))))))))))
def zBG:B3 (A9 Tryz.f125 2) [29] n6:=by unfold B3;kernel_rfl
def n5:ST:=.rd 0 (.rd 1 (.rd 2 (.rd 3 (.rd 4 (.rd 5 (.rd 6 (.rd 7 (.rd 8 (.rd 9 (.rd 10 (.rd 11 (.rd 12 (.rd 13 (.rd 14 (.rd 15 (.ef 16 (.rd 17 (.fin [] [5,6])) (.no)))))))))))))))))
def zBF:B3 (A9 Tryz.f125 5) [16] n5:=by unfold B3;kernel_rfl
def Yf:BX:=λi=>match i with
 | 2=>.tre [29] n6
 | 5=>.tre [16] n5
 | _=>.no
def nV (N:Δ)(c:AD)(q:AA)(pos:Ξ)(ln:Nat)(lost:Ξ):St:=⟨(AF 59 [(5,.ref 4 0),(6,.bool (decide (N.2<(c.runs.getD ((N.1).toNat) 0))))]),([oC [.ref 1 0],oW c q pos 2 ln,oI lost,oC [.i N.1,.i N.2],oC [.i N.1,.i (N.2+1)]]:DH)⟩
def nU (c:AD)(q:AA)(pos:Ξ)(ln:Nat)(lost:Ξ)(N:Δ):St:=⟨(AF 59 [(5,.ref 4 0),(6,.bool false)]),([oC [.ref 1 0],oW c q pos 2 ln,oI lost,oC [.i N.1,.i N.2],oC [.i N.1,.i (N.2+1)]]:DH)⟩
def nT (N:Δ)(c:AD)(q:AA)(pos:Ξ)(ln:Nat)(lost:Ξ):St:=⟨(AF 59 [(5,.ref 4 0),(6,.bool (N.2==(c.runs.getD ((N.1).toNat) 0)))]),([oC [.ref 1 0],oW c q pos 2 ln,oI lost,oC [.i N.1,.i N.2],oC [.i (N.1+1),.i 0]]:DH)⟩
def rq (n:Nat)(N:Δ)(S:Bool)(c:AD)(q:AA)(pos:Ξ)(ln:Nat)(lost:Ξ):Option ((Δ)×Bool×Ξ):= bif S then if AG (N.2+1) then bif (decide (N.1<(c.runs.length:Int))) then if 0<=N.1/\ N.1<(c.runs.length:Int) then some ((N.1,(N.2+1)),(decide (N.2<(c.runs.getD ((N.1).toNat) 0))),lost) else none else some ((N.1,(N.2+1)),false,lost) else none else bif (N.2==0) then some ((N.1,N.2),true,lost) else if AG (N.1+1)/\ (0<=N.1/\ N.1<(c.runs.length:Int)) then some (((N.1+1),0),(N.2==(c.runs.getD ((N.1).toNat) 0)),lost) else none
def Vl (n:Nat)(N:Δ)(S:Bool)(c:AD)(q:AA)(pos:Ξ)(ln:Nat)(lost:Ξ):Option ((Δ)×Bool×Ξ):=rq n N S c q pos ln lost
variable {lost pos:Ξ}{ln n:Nat}{q:AA}{c:AD}{S:Bool}
def Nl {a:Δ}{r:(Δ)×Bool×Ξ}(h:Vl n a S c q pos ln lost=some r):EQ 125 [.agg 2 (L1 [.i a.1,.i a.2]),.bool S,.ref 0 0] [oC [.ref 1 0],oW c q pos 2 ln,oI lost] (.tup 2 (L1 [.agg 2 (L1 [.i r.1.1,.i r.1.2]),.bool r.2.1])) [oC [.ref 1 0],oW c q pos 2 ln,oI r.2.2] false:=by
 refine ot Tryz.func125 λB N=>?_
 revert r;apply gO;exact bi 8 (jg zBG (gw 13 (bi 23 (gi (jt (jg (Eq.refl (nV a c q pos ln lost)) (lE (tg:=[([(29,4)],(nV a c q pos ln lost))]) Yf [5,6] [0,1,2,4])))) (jt (jg (Eq.refl (nU c q pos ln lost a)) (lE (tg:=[([(29,4)],(nU c q pos ln lost a))]) Yf [5,6] [0,1,2,4])))))) (bi 41 (jt (lE Yf [5,6] [0,1,2,4])) (jg zBF (gc (gw 45 (gi (jt (jg (Eq.refl (nT a c q pos ln lost)) (lE (tg:=[([(16,4)],(nT a c q pos ln lost))]) Yf [5,6] [0,1,2,4]))))))))
def zBP:Au (A9 Tryz.f126 2) [] (List.range 22) []:=by unfold Au;kernel_rfl
def zBO:Au (A9 Tryz.f126 3) [] (List.range 22) []:=by unfold Au;kernel_rfl
def pF:BX:=λi=>match i with
 | 2=>.ord [] (List.range 22) []
 | 3=>.ord [] (List.range 22) []
 | _=>.no
def sZ (n:Nat)(y:Int)(S:Bool)(c:AD)(q:AA)(pos:Ξ)(ln:Nat)(lost:Ξ):Option (Bool×Ξ):= bif S then if (0<=y/\ y<(c.cells.length:Int))/\ (0<=(c.cells.getD y.toNat 0)/\ (c.cells.getD y.toNat 0)<(pos.length:Int)) then some (((bits .and .i64 (pos.getD ((c.cells.getD y.toNat 0).toNat) 0) c.set) != 0),lost) else none else if (0<=y/\ y<(c.cells.length:Int))/\ (0<=(c.cells.getD y.toNat 0)/\ (c.cells.getD y.toNat 0)<(pos.length:Int)) then some (((bits .andNot .i64 (pos.getD ((c.cells.getD y.toNat 0).toNat) 0) c.set) != 0),lost) else none
def Vw (n:Nat)(y:Int)(S:Bool)(c:AD)(q:AA)(pos:Ξ)(ln:Nat)(lost:Ξ):Option (Bool×Ξ):=sZ n y S c q pos ln lost
variable {r:Bool×Ξ}
def aP {y:Int}(h:Vw n y S c q pos ln lost=some r):EQ 126 [.i y,.bool S,.ref 0 0] [oC [.ref 1 0],oW c q pos 2 ln,oI lost] (.bool r.1) [oC [.ref 1 0],oW c q pos 2 ln,oI r.2] false:=by
 refine ot Tryz.func126 λB N=>?_
 revert r;apply gO;exact bi 6 (jg zBP (gc (gi (gi (lE pF [5] [0,1,2]))))) (jg zBO (gc (gi (gi (lE pF [5] [0,1,2])))))
def zAn:Au (A9 Tryz.f110 24) [] (List.range 6) [6]:=by unfold Au;kernel_rfl
def nk:ST:=.rd 0 (.rd 1 (.rd 2 (.rd 3 (.rd 4 (.rd 5 (.rd 6 (.rd 7 (.rd 8 (.rd 9 (.rd 10 (.rd 11 (.rd 12 (.rd 13 (.ef 14 (.fin [] [1,3,5,7,14,16,18]) (.no)))))))))))))))
def pN:B3 (A9 Tryz.f110 49) [] nk:=by unfold B3;kernel_rfl
def nj:ST:=.rd 0 (.rd 1 (.rd 2 (.rd 3 (.rd 4 (.rd 5 (.rd 6 (.rd 7 (.rd 8 (.ef 9 (.fin [] [1,3,5,7,14,16]) (.no))))))))))
def fA:B3 (A9 Tryz.f110 51) [] nj:=by unfold B3;kernel_rfl
def Cf:BX:=λi=>match i with
 | 24=>.ord [] (List.range 6) [6]
 | 49=>.tre [] nk
 | 51=>.tre [] nj
 | _=>.no
def jQ (c:AD)(q:AA)(pos:Ξ)(ln:Nat)(o1:Ξ)(t:List (Option KS)):DH:=[oW c q pos 1 ln,oI o1,oC [.ref 0 0],some (.mo (.sets 2 t none))]
def zHT (c:AD)(q:AA)(pos:Ξ)(ln:Nat)(o1:Ξ)(t:List (Option KS))(w:Int)(r:LK):DH:=[oW c q pos 1 ln,oI o1,oC [.ref 0 0],some (.mo (.sets 2 t (some (0+w.toNat,r))))]
def zHN (c:AD)(q:AA)(pos:Ξ)(ln:Nat)(o1:Ξ)(t:List (Option KS))(b:Nat)(r:LK)(o4:KS):DH:=[oW c q pos 1 ln,oI o1,oC [.ref 0 0],some (.mo (.sets 2 t (some (b,r)))),some (.mo (.mit 2 r.1 r.2.1 r.2.2 o4 none))]
def tP (c:AD)(q:AA)(pos:Ξ)(ln:Nat)(o1:Ξ)(t:List (Option KS))(b:Nat)(r:LK)(o4:KS)(j:Ξ):DH:=[oW c q pos 1 ln,oI o1,oC [.ref 0 0],some (.mo (.sets 2 t (some (b,r)))),some (.mo (.mit 2 r.1 r.2.1 r.2.2 (o4.erase j) (some j)))]
def jN (c:AD)(q:AA)(pos:Ξ)(ln:Nat)(o1:Ξ)(t:List (Option KS))(o4:KS):DH:=[oW c q pos 1 ln,oI o1,oC [.ref 0 0],some (.mo (.sets 2 t none)),some (.mo (.set 2 o4)),some (.mo (.set 2 ([]:KS))),oC [.bool false,.bool false]]
def zHL (c:AD)(q:AA)(pos:Ξ)(ln:Nat)(o1:Ξ)(t:List (Option KS))(L:Int)(r:LK)(o4:KS):DH:=[oW c q pos 1 ln,oI o1,oC [.ref 0 0],some (.mo (.sets 2 t (some (0+L.toNat,r)))),some (.mo (.set 2 o4)),some (.mo (.set 2 ([]:KS))),oC [.bool false,.bool false]]
def jM (c:AD)(q:AA)(pos:Ξ)(ln:Nat)(o1:Ξ)(t:List (Option KS))(b:Nat)(r:LK)(f X:Int)(G:KS)(Y:Ξ):DH:=[oW c q pos 1 ln,oI o1,oC [.ref 0 0],some (.mo (.sets 2 t (some (b,r)))),oC [.i f,.i X],some (.mo (.mit 2 r.1 r.2.1 r.2.2 G (some Y))),some (.bools ([false,true]:Ω))]
def zHK (c:AD)(q:AA)(pos:Ξ)(ln:Nat)(j:(Δ)×Bool×Ξ)(t:List (Option KS))(b:Nat)(r:LK)(f X:Int)(G:KS)(Y:Ξ):DH:=[oW c q pos 1 ln,oI j.2.2,oC [.ref 0 0],some (.mo (.sets 2 t (some (b,r)))),oC [.i f,.i X],some (.mo (.mit 2 r.1 r.2.1 r.2.2 G (some Y))),some (.bools ([false,true]:Ω)),oC [.i j.1.1,.i j.1.2]]
def zHJ (c:AD)(q:AA)(pos:Ξ)(ln:Nat)(o1:Ξ)(t:List (Option KS))(b:Nat)(r:LK)(o4 D:KS):DH:=[oW c q pos 1 ln,oI o1,oC [.ref 0 0],some (.mo (.sets 2 t (some (b,r)))),some (.mo (.set 2 o4)),some (.mo (.set 2 ([]:KS))),oC [.bool false,.bool false],some (.mo (.mit 2 r.1 r.2.1 r.2.2 D none))]
def nF (c:AD)(L:Int)(q:AA)(pos:Ξ)(ln:Nat)(G:Ξ)(t:List (Option KS))(o4:KS):St:=⟨(AF 208 [(1,.ref 2 0),(3,.fn 125 1 (L1 [.ref 2 0])),(5,.msl 3 1 0 ((((c.cells.length:Int)+1)).toNat)),(7,.fn 126 1 (L1 [.ref 2 0])),(14,.it 5),(16,.i L),(18,.ref 6 0)]),([oW c q pos 1 ln,oI G,oC [.ref 0 0],some (.mo (.sets 2 t none)),some (.mo (.set 2 o4)),some (.mo (.set 2 ([]:KS))),oC [.bool false,.bool false]]:DH)⟩
def zHS (c:AD)(q:AA)(pos:Ξ)(ln:Nat)(G:Ξ)(t:List (Option KS))(o4:KS):DH:=[oW c q pos 1 ln,oI G,oC [.ref 0 0],some (.mo (.sets 2 t none)),some (.mo (.set 2 o4)),some (.mo (.set 2 ([]:KS))),oC [.bool false,.bool false]]
def nI (c:AD)(L:Int)(q:AA)(pos:Ξ)(ln:Nat)(y3:Ξ)(t:List (Option KS))(o4:KS):St:=⟨(AF 208 [(1,.ref 2 0),(3,.fn 125 1 (L1 [.ref 2 0])),(5,.msl 3 1 0 ((((c.cells.length:Int)+1)).toNat)),(7,.fn 126 1 (L1 [.ref 2 0])),(14,.it 5),(16,.i L)]),([oW c q pos 1 ln,oI y3,oC [.ref 0 0],some (.mo (.sets 2 t none)),some (.mo (.set 2 o4)),some (.mo (.set 2 ([]:KS))),oC [.bool false,.bool false]]:DH)⟩
def zHR (c:AD)(q:AA)(pos:Ξ)(ln:Nat)(o1:Ξ)(t:List (Option KS))(b:Nat)(r:LK)(o4 D:KS)(j:Ξ):DH:=[oW c q pos 1 ln,oI o1,oC [.ref 0 0],some (.mo (.sets 2 t (some (b,r)))),some (.mo (.set 2 o4)),some (.mo (.set 2 ([]:KS))),oC [.bool false,.bool false],some (.mo (.mit 2 r.1 r.2.1 r.2.2 (D.erase j) (some j)))]
def WC (c:AD)(q:AA)(pos:Ξ)(ln:Nat)(o1:Ξ)(t:List (Option KS))(b:Nat)(r:LK)(o4 G:KS)(C F:Bool)(O P:Int)(s:KS)(l:Ξ):DH:=[oW c q pos 1 ln,oI o1,oC [.ref 0 0],some (.mo (.sets 2 t (some (b,r)))),some (.mo (.set 2 o4)),some (.mo (.set 2 G)),oC [.bool C,.bool F],oC [.i O,.i P],some (.mo (.mit 2 r.1 r.2.1 r.2.2 s (some l))),some (.bools ([false,true]:Ω))]
def jP (c:AD)(q:AA)(pos:Ξ)(ln:Nat)(j:(Δ)×Bool×Ξ)(t:List (Option KS))(b:Nat)(r:LK)(o4 G:KS)(C F:Bool)(O P:Int)(s:KS)(l:Ξ):DH:=[oW c q pos 1 ln,oI j.2.2,oC [.ref 0 0],some (.mo (.sets 2 t (some (b,r)))),some (.mo (.set 2 o4)),some (.mo (.set 2 G)),oC [.bool C,.bool F],oC [.i O,.i P],some (.mo (.mit 2 r.1 r.2.1 r.2.2 s (some l))),some (.bools ([false,true]:Ω)),oC [.i j.1.1,.i j.1.2]]
def zHQ (c:AD)(q:AA)(pos:Ξ)(ln:Nat)(o1:Ξ)(t:List (Option KS))(b:Nat)(r:LK)(o4:KS)(K:Ξ):DH:=[oW c q pos 1 ln,oI o1,oC [.ref 0 0],some (.mo (.sets 2 t (some (b,r)))),some (.mo (.mit 2 r.1 r.2.1 r.2.2 o4 (some K)))]
def zHP (c:AD)(q:AA)(pos:Ξ)(ln:Nat)(o1:Ξ)(t:List (Option KS))(b:Nat)(r:LK)(o4 G:KS)(C F:Bool)(D:KS)(L:Ξ):DH:=[oW c q pos 1 ln,oI o1,oC [.ref 0 0],some (.mo (.sets 2 t (some (b,r)))),some (.mo (.set 2 o4)),some (.mo (.set 2 G)),oC [.bool C,.bool F],some (.mo (.mit 2 r.1 r.2.1 r.2.2 D (some L)))]
def jO (c:AD)(q:AA)(pos:Ξ)(ln:Nat)(o1:Ξ)(t:List (Option KS))(o4 G:KS)(C F:Bool):DH:=[oW c q pos 1 ln,oI o1,oC [.ref 0 0],some (.mo (.sets 2 t none)),some (.mo (.set 2 o4)),some (.mo (.set 2 G)),oC [.bool C,.bool F]]
def dp (c:AD)(L:Int)(q:AA)(pos:Ξ)(ln:Nat)(G:Ξ)(t:List (Option KS))(o4 a:KS)(C F:Bool):St:=⟨(AF 208 [(1,.ref 2 0),(3,.fn 125 1 (L1 [.ref 2 0])),(5,.msl 3 1 0 ((((c.cells.length:Int)+1)).toNat)),(7,.fn 126 1 (L1 [.ref 2 0])),(14,.it 5),(16,.i L),(18,.ref 6 0)]),([oW c q pos 1 ln,oI G,oC [.ref 0 0],some (.mo (.sets 2 t none)),some (.mo (.set 2 o4)),some (.mo (.set 2 a)),oC [.bool C,.bool F]]:DH)⟩
def zHO (c:AD)(q:AA)(pos:Ξ)(ln:Nat)(G:Ξ)(t:List (Option KS))(o4 a:KS)(C F:Bool):DH:=[oW c q pos 1 ln,oI G,oC [.ref 0 0],some (.mo (.sets 2 t none)),some (.mo (.set 2 o4)),some (.mo (.set 2 a)),oC [.bool C,.bool F]]
def nH (c:AD)(L:Int)(q:AA)(pos:Ξ)(ln:Nat)(y3:Ξ)(t:List (Option KS))(o4 G:KS)(C F:Bool):St:=⟨(AF 208 [(1,.ref 2 0),(3,.fn 125 1 (L1 [.ref 2 0])),(5,.msl 3 1 0 ((((c.cells.length:Int)+1)).toNat)),(7,.fn 126 1 (L1 [.ref 2 0])),(14,.it 5),(16,.i L)]),([oW c q pos 1 ln,oI y3,oC [.ref 0 0],some (.mo (.sets 2 t none)),some (.mo (.set 2 o4)),some (.mo (.set 2 G)),oC [.bool C,.bool F]]:DH)⟩
def nG (c:AD)(L:Int)(q:AA)(pos:Ξ)(ln:Nat)(G:Ξ)(t:List (Option KS))(o4 a:KS)(C F:Bool):St:=⟨(AF 208 [(1,.ref 2 0),(3,.fn 125 1 (L1 [.ref 2 0])),(5,.msl 3 1 0 ((((c.cells.length:Int)+1)).toNat)),(7,.fn 126 1 (L1 [.ref 2 0])),(14,.it 5),(16,.i L)]),([oW c q pos 1 ln,oI G,oC [.ref 0 0],some (.mo (.sets 2 t none)),some (.mo (.set 2 o4)),some (.mo (.set 2 a)),oC [.bool C,.bool F]]:DH)⟩
def zHM (c:AD)(q:AA)(pos:Ξ)(ln:Nat)(o1:Ξ)(t:List (Option KS))(b:Nat)(r:LK)(o4 G:KS)(C F:Bool)(D:KS)(j:Ξ):DH:=[oW c q pos 1 ln,oI o1,oC [.ref 0 0],some (.mo (.sets 2 t (some (b,r)))),some (.mo (.set 2 o4)),some (.mo (.set 2 G)),oC [.bool C,.bool F],some (.mo (.mit 2 r.1 r.2.1 r.2.2 (D.erase j) (some j)))]
inductive I1 where
 | l1 (Dd:Int) (o3:List (Option KS))
 | l2 (A4:Int) (o1:Ξ) (o3:List (Option KS))
 | l3 (x8 A4:Int) (o1:Ξ) (o3:List (Option KS)) (Ao:Nat) (o4:KS)
 | l4 (Ad:Int) (o1:Ξ) (o3:List (Option KS)) (o4:KS)
 | l5 (x8 A4 Fw:Int) (o1:Ξ) (o3:List (Option KS)) (Ao:Nat) (As GC:Int) (o5:KS) (GB:Ξ)
 | l6 (Ad:Int) (o1:Ξ) (o3:List (Option KS)) (Ao:Nat) (o4 o7:KS)
 | l7 (Ad EW:Int) (o1:Ξ) (o3:List (Option KS)) (Ao:Nat) (o4 o5:KS) (BZ Be:Bool) (D6 D5:Int) (o8:KS) (EY:Ξ)
 | l8 (x8 A4:Int) (o1:Ξ) (o3:List (Option KS)) (Ao:Nat) (o4:KS) (K9:Ξ)
 | l9 (Ad:Int) (o1:Ξ) (o3:List (Option KS)) (Ao:Nat) (o4 o5:KS) (BZ Be:Bool) (o7:KS) (K8:Ξ)
def Yu (n:Nat)(self:I1 -> Option (Bool×Ξ))(c:AD)(q:AA)(pos:Ξ)(ln:Nat)(lost:Ξ)(Q:Int)(t:List (Option KS)):Option (Bool×Ξ):= bif (decide (Q<(((((c.cells.length:Int)+1)).toNat:Nat):Int))) then if (0<=Q/\ Q<(((((c.cells.length:Int)+1)).toNat:Nat):Int))/\ 0+Q.toNat<t.length/\ AG (Q+1) then self (.l1 (Q+1) (t.set (0+Q.toNat) (some ([]:KS)))) else none else if ((0:Int)<=0/\ 0<(((((c.cells.length:Int)+1)).toNat:Nat):Int))/\ 0+0<t.length/\ (t.getD (0+0) none).isSome=true then self (.l2 0 lost (t.set (0+0) (some (Ck [0,0] ((t.getD (0+0) none).getD []))))) else none
def Ro (n:Nat)(self:I1 -> Option (Bool×Ξ))(c:AD)(q:AA)(pos:Ξ)(ln:Nat)(lost:Ξ)(w:Int)(o1:Ξ)(t:List (Option KS)):Option (Bool×Ξ):= bif (decide (w<(c.cells.length:Int))) then if (t.getD (0+w.toNat) none).isSome=true then if (0<=w/\ w<(((((c.cells.length:Int)+1)).toNat:Nat):Int))/\ 0+w.toNat<t.length/\ (t.getD (0+w.toNat) none).isSome=true then self (.l3 w w o1 t (0+w.toNat) ((t.getD (0+w.toNat) none).getD [])) else none else none else bif (decide ((c.runs.length:Int)>0)) then if AG ((c.runs.length:Int)-1)/\ ((0:Int)<=((c.runs.length:Int)-1)/\ ((c.runs.length:Int)-1)<(c.runs.length:Int))/\ AG ((c.cells.length:Int)-1) then self (.l4 ((c.cells.length:Int)-1) o1 t (Ck [((c.runs.length:Int)-1),c.runs.getD ((((c.runs.length:Int)-1)).toNat) 0] (Ck [(c.runs.length:Int),0] ([]:KS)))) else none else if AG ((c.cells.length:Int)-1) then self (.l4 ((c.cells.length:Int)-1) o1 t (Ck [(c.runs.length:Int),0] ([]:KS))) else none
def zBp (n:Nat)(self:I1 -> Option (Bool×Ξ))(c:AD)(q:AA)(pos:Ξ)(ln:Nat)(lost:Ξ)(x8 w:Int)(o1:Ξ)(t:List (Option KS))(b:Nat)(o4:KS):Option (Bool×Ξ):= if (t.getD b none).isSome=true then I7 o4 (if AG (w+1) then self (.l2 (w+1) o1 t) else none) λj=> if (t.getD b none).isSome=true then self (.l5 x8 w 0 o1 t b (j.getD 0 0) (j.getD 1 0) (o4.erase j) j) else none else none
def Yt (n:Nat)(self:I1 -> Option (Bool×Ξ))(c:AD)(q:AA)(pos:Ξ)(ln:Nat)(lost:Ξ)(L:Int)(o1:Ξ)(t:List (Option KS))(o4:KS):Option (Bool×Ξ):= bif (decide (L>=0)) then if (t.getD (0+L.toNat) none).isSome=true then if (0<=L/\ L<(((((c.cells.length:Int)+1)).toNat:Nat):Int))/\ 0+L.toNat<t.length/\ (t.getD (0+L.toNat) none).isSome=true then self (.l6 L o1 t (0+L.toNat) o4 ((t.getD (0+L.toNat) none).getD [])) else none else none else some (true,o1)
def Rn (n:Nat)(self:I1 -> Option (Bool×Ξ))(c:AD)(q:AA)(pos:Ξ)(ln:Nat)(lost:Ξ)(x8 w Z:Int)(o1:Ξ)(t:List (Option KS))(b:Nat)(f X:Int)(G:KS)(Y:Ξ):Option (Bool×Ξ):= bif (decide (Z<2)) then if (0<=Z/\ Z<((2:Nat):Int))/\ 0+Z.toNat<([false,true]:Ω).length then (Vl n (f,X) (([false,true]:Ω).getD (0+Z.toNat) false) c q pos ln o1).bind λj=> bif j.2.1 then (Vw n x8 (([false,true]:Ω).getD (0+Z.toNat) false) c q pos ln j.2.2).bind λa=> bif a.1 then if AG (x8+1)/\ (0<=(x8+1)/\ (x8+1)<(((((c.cells.length:Int)+1)).toNat:Nat):Int))/\ 0+(((x8+1)).toNat)<t.length/\ b≠0+(((x8+1)).toNat)/\ (t.getD (0+(((x8+1)).toNat)) none).isSome=true/\ AG (Z+1) then self (.l5 x8 w (Z+1) a.2 (t.set (0+(((x8+1)).toNat)) (some (Ck [j.1.1,j.1.2] ((t.getD (0+(((x8+1)).toNat)) none).getD [])))) b f X G Y) else none else if AG (Z+1) then self (.l5 x8 w (Z+1) a.2 t b f X G Y) else none else if AG (Z+1) then self (.l5 x8 w (Z+1) j.2.2 t b f X G Y) else none else none else self (.l8 x8 w o1 t b G Y)
def zBo (n:Nat)(self:I1 -> Option (Bool×Ξ))(c:AD)(q:AA)(pos:Ξ)(ln:Nat)(lost:Ξ)(L:Int)(o1:Ξ)(t:List (Option KS))(b:Nat)(o4 D:KS):Option (Bool×Ξ):= if (t.getD b none).isSome=true then I7 D (if 0<=L/\ L<(c.cells.length:Int) then (D7 n (c.cells.getD L.toNat 0) c.set c q pos ln o1).bind λG=> (Hc n (c.cells.getD L.toNat 0) c q pos ln G).bind λy3=> if AG (L-1) then self (.l4 (L-1) y3 t ([]:KS)) else none else none) λj=> if (t.getD b none).isSome=true then self (.l7 L 0 o1 t b o4 ([]:KS) false false (j.getD 0 0) (j.getD 1 0) (D.erase j) j) else none else none
def Rm (n:Nat)(self:I1 -> Option (Bool×Ξ))(c:AD)(q:AA)(pos:Ξ)(ln:Nat)(lost:Ξ)(L m:Int)(o1:Ξ)(t:List (Option KS))(b:Nat)(o4 G:KS)(C F:Bool)(O P:Int)(s:KS)(l:Ξ):Option (Bool×Ξ):= bif (decide (m<2)) then if (0<=m/\ m<((2:Nat):Int))/\ 0+m.toNat<([false,true]:Ω).length then (Vl n (O,P) (([false,true]:Ω).getD (0+m.toNat) false) c q pos ln o1).bind λj=> bif j.2.1 then (Vw n L (([false,true]:Ω).getD (0+m.toNat) false) c q pos ln j.2.2).bind λa=> bif a.1 then bif (o4.contains [j.1.1,j.1.2]) then bif (m==0) then if AG (m+1) then self (.l7 L (m+1) a.2 t b o4 (Ck [O,P] G) true F O P s l) else none else bif (m==1) then if AG (m+1) then self (.l7 L (m+1) a.2 t b o4 (Ck [O,P] G) C true O P s l) else none else none else if AG (m+1) then self (.l7 L (m+1) a.2 t b o4 G C F O P s l) else none else if AG (m+1) then self (.l7 L (m+1) a.2 t b o4 G C F O P s l) else none else if AG (m+1) then self (.l7 L (m+1) j.2.2 t b o4 G C F O P s l) else none else none else self (.l9 L o1 t b o4 G C F s l)
def fG (n:Nat)(self:I1 -> Option (Bool×Ξ))(c:AD)(q:AA)(pos:Ξ)(ln:Nat)(lost:Ξ)(x8 w:Int)(o1:Ξ)(t:List (Option KS))(b:Nat)(o4:KS)(K9:Ξ):Option (Bool×Ξ):= if (t.getD b none).isSome=true then I7 o4 (if AG (w+1) then self (.l2 (w+1) o1 t) else none) λj=> if (t.getD b none).isSome=true then self (.l5 x8 w 0 o1 t b (j.getD 0 0) (j.getD 1 0) (o4.erase j) j) else none else none
def Uv (n:Nat)(self:I1 -> Option (Bool×Ξ))(c:AD)(q:AA)(pos:Ξ)(ln:Nat)(lost:Ξ)(L:Int)(o1:Ξ)(t:List (Option KS))(b:Nat)(o4 G:KS)(C F:Bool)(D:KS)(K8:Ξ):Option (Bool×Ξ):= if (t.getD b none).isSome=true then I7 D (bif (!F) then if 0<=L/\ L<(c.cells.length:Int) then (D7 n (c.cells.getD L.toNat 0) c.set c q pos ln o1).bind λa=> bif (!C) then (Hc n (c.cells.getD L.toNat 0) c q pos ln a).bind λy3=> if AG (L-1) then self (.l4 (L-1) y3 t G) else none else if AG (L-1) then self (.l4 (L-1) a t G) else none else none else bif (!C) then if 0<=L/\ L<(c.cells.length:Int) then (Hc n (c.cells.getD L.toNat 0) c q pos ln o1).bind λa=> if AG (L-1) then self (.l4 (L-1) a t G) else none else none else if AG (L-1) then self (.l4 (L-1) o1 t G) else none) λj=> if (t.getD b none).isSome=true then self (.l7 L 0 o1 t b o4 G C F (j.getD 0 0) (j.getD 1 0) (D.erase j) j) else none else none
def fH (n:Nat)(self:I1 -> Option (Bool×Ξ))(c:AD)(q:AA)(pos:Ξ)(ln:Nat)(lost:Ξ):Option (Bool×Ξ):= bif ((c.cells.length:Int)==0) then some (((c.runs.length:Int)==0),lost) else if AG ((c.cells.length:Int)+1)/\ ((((c.cells.length:Int)+1):Int)=((c.cells.length:Int)+1)/\ (0:Int)<=((c.cells.length:Int)+1)/\ (((c.cells.length:Int)+1):Int)<=1000000000000) then self (.l1 0 (List.replicate ((((c.cells.length:Int)+1)).toNat) (none:Option KS))) else none
def BU (c:AD)(q:AA)(pos:Ξ)(ln:Nat)(lost:Ξ):Nat -> I1 -> Option (Bool×Ξ)
 | 0,_=>none
 | n+1,.l1 Q t=>Yu n (BU c q pos ln lost n) c q pos ln lost Q t
 | n+1,.l2 w o1 t=>Ro n (BU c q pos ln lost n) c q pos ln lost w o1 t
 | n+1,.l3 x8 w o1 t b o4=>zBp n (BU c q pos ln lost n) c q pos ln lost x8 w o1 t b o4
 | n+1,.l4 L o1 t o4=>Yt n (BU c q pos ln lost n) c q pos ln lost L o1 t o4
 | n+1,.l5 x8 w Z o1 t b f X G Y=>Rn n (BU c q pos ln lost n) c q pos ln lost x8 w Z o1 t b f X G Y
 | n+1,.l6 L o1 t b o4 D=>zBo n (BU c q pos ln lost n) c q pos ln lost L o1 t b o4 D
 | n+1,.l7 L m o1 t b o4 G C F O P s l=>Rm n (BU c q pos ln lost n) c q pos ln lost L m o1 t b o4 G C F O P s l
 | n+1,.l8 x8 w o1 t b o4 K=>fG n (BU c q pos ln lost n) c q pos ln lost x8 w o1 t b o4 K
 | n+1,.l9 L o1 t b o4 G C F D a=>Uv n (BU c q pos ln lost n) c q pos ln lost L o1 t b o4 G C F D a
def Rp (n:Nat)(c:AD)(q:AA)(pos:Ξ)(ln:Nat)(lost:Ξ):Option (Bool×Ξ):=fH n (BU c q pos ln lost n) c q pos ln lost
def zBq (n B:Nat)(N:Yd 2)(c:AD)(q:AA)(pos:Ξ)(ln:Nat)(lost:Ξ)(r:Bool×Ξ):I1 -> Prop
 | .l1 Q t=>∀ f:Nat,n<=f -> TW B N (FQ Tryz.f110 2 (.bool r.1) [oW c q pos 1 ln,oI r.2]) (Ag f (An (AR Tryz.f110) 0 [])) ⟨AF 208 [(1,.ref 2 0),(3,.fn 125 1 (L1 [.ref 2 0])),(4,.i (c.cells.length:Int)),(5,.msl 3 1 0 ((((c.cells.length:Int)+1)).toNat)),(44,.i (((((c.cells.length:Int)+1)).toNat:Nat):Int)),(45,.i Q)],[oW c q pos 1 ln,oI lost,oC [.ref 0 0],some (.mo (.sets 2 t none))]⟩
 | .l2 w o1 t=>∀ f:Nat,n<=f -> TW B N (FQ Tryz.f110 2 (.bool r.1) [oW c q pos 1 ln,oI r.2]) (Ag f (An (AR Tryz.f110) 2 [])) ⟨AF 208 [(1,.ref 2 0),(3,.fn 125 1 (L1 [.ref 2 0])),(4,.i (c.cells.length:Int)),(5,.msl 3 1 0 ((((c.cells.length:Int)+1)).toNat)),(7,.fn 126 1 (L1 [.ref 2 0])),(58,.i (c.cells.length:Int)),(59,.i w)],[oW c q pos 1 ln,oI o1,oC [.ref 0 0],some (.mo (.sets 2 t none))]⟩
 | .l3 x8 w o1 t b o4=>∀ f Y:Nat,n<=f -> n<=Y -> ∀ a:LK,TW B N (FQ Tryz.f110 2 (.bool r.1) [oW c q pos 1 ln,oI r.2]) (Ag Y (An (AR Tryz.f110) 4 [f])) ⟨AF 208 [(1,.ref 2 0),(3,.fn 125 1 (L1 [.ref 2 0])),(4,.i (c.cells.length:Int)),(5,.msl 3 1 0 ((((c.cells.length:Int)+1)).toNat)),(7,.fn 126 1 (L1 [.ref 2 0])),(8,.i x8),(58,.i (c.cells.length:Int)),(59,.i w),(66,.it 4)],[oW c q pos 1 ln,oI o1,oC [.ref 0 0],some (.mo (.sets 2 t (some (b,a)))),some (.mo (.mit 2 a.1 a.2.1 a.2.2 o4 none))]⟩
 | .l4 L o1 t o4=>∀ f:Nat,n<=f -> TW B N (FQ Tryz.f110 2 (.bool r.1) [oW c q pos 1 ln,oI r.2]) (Ag f (An (AR Tryz.f110) 8 [])) ⟨AF 208 [(1,.ref 2 0),(3,.fn 125 1 (L1 [.ref 2 0])),(5,.msl 3 1 0 ((((c.cells.length:Int)+1)).toNat)),(7,.fn 126 1 (L1 [.ref 2 0])),(14,.it 4),(16,.i L)],[oW c q pos 1 ln,oI o1,oC [.ref 0 0],some (.mo (.sets 2 t none)),some (.mo (.set 2 o4))]⟩
 | .l5 x8 w Z o1 t b d X G e=>∀ f Y E:Nat,n<=f -> n<=Y -> n<=E -> ∀ a:LK,TW B N (FQ Tryz.f110 2 (.bool r.1) [oW c q pos 1 ln,oI r.2]) (Ag E (An (AR Tryz.f110) 6 [f,Y])) ⟨AF 208 [(1,.ref 2 0),(3,.fn 125 1 (L1 [.ref 2 0])),(4,.i (c.cells.length:Int)),(5,.msl 3 1 0 ((((c.cells.length:Int)+1)).toNat)),(7,.fn 126 1 (L1 [.ref 2 0])),(8,.i x8),(9,.ref 4 0),(58,.i (c.cells.length:Int)),(59,.i w),(66,.it 5),(71,.msl 6 1 0 2),(72,.i 2),(73,.i Z)],[oW c q pos 1 ln,oI o1,oC [.ref 0 0],some (.mo (.sets 2 t (some (b,a)))),oC [.i d,.i X],some (.mo (.mit 2 a.1 a.2.1 a.2.2 G (some e))),some (.bools ([false,true]:Ω))]⟩
 | .l6 L o1 t b o4 D=>∀ f Y:Nat,n<=f -> n<=Y -> ∀ a:LK,TW B N (FQ Tryz.f110 2 (.bool r.1) [oW c q pos 1 ln,oI r.2]) (Ag Y (An (AR Tryz.f110) 10 [f])) ⟨AF 208 [(1,.ref 2 0),(3,.fn 125 1 (L1 [.ref 2 0])),(5,.msl 3 1 0 ((((c.cells.length:Int)+1)).toNat)),(7,.fn 126 1 (L1 [.ref 2 0])),(14,.it 4),(16,.i L),(17,.it 5),(18,.ref 6 0),(140,.it 7)],[oW c q pos 1 ln,oI o1,oC [.ref 0 0],some (.mo (.sets 2 t (some (b,a)))),some (.mo (.set 2 o4)),some (.mo (.set 2 ([]:KS))),oC [.bool false,.bool false],some (.mo (.mit 2 a.1 a.2.1 a.2.2 D none))]⟩
 | .l7 L m o1 t b o4 G C F O P s l=>∀ f Y E:Nat,n<=f -> n<=Y -> n<=E -> ∀ a:LK,TW B N (FQ Tryz.f110 2 (.bool r.1) [oW c q pos 1 ln,oI r.2]) (Ag E (An (AR Tryz.f110) 12 [f,Y])) ⟨AF 208 [(1,.ref 2 0),(3,.fn 125 1 (L1 [.ref 2 0])),(5,.msl 3 1 0 ((((c.cells.length:Int)+1)).toNat)),(7,.fn 126 1 (L1 [.ref 2 0])),(14,.it 4),(16,.i L),(17,.it 5),(18,.ref 6 0),(19,.ref 7 0),(140,.it 8),(145,.msl 9 1 0 2),(146,.i 2),(147,.i m)],[oW c q pos 1 ln,oI o1,oC [.ref 0 0],some (.mo (.sets 2 t (some (b,a)))),some (.mo (.set 2 o4)),some (.mo (.set 2 G)),oC [.bool C,.bool F],oC [.i O,.i P],some (.mo (.mit 2 a.1 a.2.1 a.2.2 s (some l))),some (.bools ([false,true]:Ω))]⟩
 | .l8 x8 w o1 t b o4 K=>∀ f Y:Nat,n<=f -> n<=Y -> ∀ a:LK,TW B N (FQ Tryz.f110 2 (.bool r.1) [oW c q pos 1 ln,oI r.2]) (Ag Y (An (AR Tryz.f110) 4 [f])) ⟨AF 208 [(1,.ref 2 0),(3,.fn 125 1 (L1 [.ref 2 0])),(4,.i (c.cells.length:Int)),(5,.msl 3 1 0 ((((c.cells.length:Int)+1)).toNat)),(7,.fn 126 1 (L1 [.ref 2 0])),(8,.i x8),(58,.i (c.cells.length:Int)),(59,.i w),(66,.it 4)],[oW c q pos 1 ln,oI o1,oC [.ref 0 0],some (.mo (.sets 2 t (some (b,a)))),some (.mo (.mit 2 a.1 a.2.1 a.2.2 o4 (some K)))]⟩
 | .l9 L o1 t b o4 G C F D g=>∀ f Y:Nat,n<=f -> n<=Y -> ∀ a:LK,TW B N (FQ Tryz.f110 2 (.bool r.1) [oW c q pos 1 ln,oI r.2]) (Ag Y (An (AR Tryz.f110) 10 [f])) ⟨AF 208 [(1,.ref 2 0),(3,.fn 125 1 (L1 [.ref 2 0])),(5,.msl 3 1 0 ((((c.cells.length:Int)+1)).toNat)),(7,.fn 126 1 (L1 [.ref 2 0])),(14,.it 4),(16,.i L),(17,.it 5),(18,.ref 6 0),(140,.it 7)],[oW c q pos 1 ln,oI o1,oC [.ref 0 0],some (.mo (.sets 2 t (some (b,a)))),some (.mo (.set 2 o4)),some (.mo (.set 2 G)),oC [.bool C,.bool F],some (.mo (.mit 2 a.1 a.2.1 a.2.2 D (some g)))]⟩
def zBr (B:Nat)(N:Yd 2)(c:AD)(q:AA)(pos:Ξ)(ln:Nat)(lost:Ξ):Al (BU c q pos ln lost) (zBq · B N c q pos ln lost):=ia (λ_=>rfl) λn C A r h=>by
 cases A
 case l1 Dd o3=>
  intro f b;refine rd b λf b=>?_
  revert r;apply gO;exact bi 46 (gc (gi (gc (gi (gw 52 (lG Cf [0,1,2,5] (C _ _ · f b))))))) (gc (gi (gc (gi (gi (jg (zFJ (i:=0+0)) (lN Cf [0,1,2,3] (C _ _ · n Nat.le.refl))))))))
 case l2 A4 o1 o3=>
  intro f b;refine rd b λf b=>?_
  revert r;apply gO
  exact bi 60 (gn λe=>λp r h=>by
   refine gs (Ab 16 Cf) [0,1,2,3] p (EP (AR Tryz.f110) 16 [f]) (AF 208 [(1,.ref 2 0),(3,.fn 125 1 (L1 [.ref 2 0])),(4,.i (c.cells.length:Int)),(5,.msl 3 1 0 ((((c.cells.length:Int)+1)).toNat)),(7,.fn 126 1 (L1 [.ref 2 0])),(8,.i A4),(58,.i (c.cells.length:Int)),(59,.i A4)]) (jQ c q pos ln o1 o3) ?_;refine Bi.lock 3 (0+A4.toNat) 2 (by kernel_rfl) e (by kernel_rfl) (λa=>(zHT c q pos ln o1 o3 A4 a)) (by kernel_rfl) λa=>?_
   revert r;apply gO;exact gc (gi (gc (gi (gi (jg (Eq.refl (0+A4.toNat)) (lN Cf [0,1,2,3,4] (C _ _ · f n b Nat.le.refl a)))))))) (bi 115 (gc (gn λe=>jw 118 e (jw 125 e (gc (gi (gw 130 (lN Cf [0,1,2,3,4] (C _ _ · n Nat.le.refl)))))))) (gw 130 (lN Cf [0,1,2,3,4] (C _ _ · n Nat.le.refl))))
 case l3 x8 A4 o1 o3 Ao o4=>
  intro f Y b d a;have b:=zGf b;refine rd d λY d=>?_
  have p:=H0;refine gs (Ab 17 Cf) [0,1,2,3,4] p (EP (AR Tryz.f110) 17 [f,Y]) (AF 208 [(1,.ref 2 0),(3,.fn 125 1 (L1 [.ref 2 0])),(4,.i (c.cells.length:Int)),(5,.msl 3 1 0 ((((c.cells.length:Int)+1)).toNat)),(7,.fn 126 1 (L1 [.ref 2 0])),(8,.i x8),(58,.i (c.cells.length:Int)),(59,.i A4),(66,.it 4)]) (zHN c q pos ln o1 o3 Ao a o4) ?_;revert r;apply gO
  exact gn λe=>λp r h=>by
   replace h:=Zy h;refine A1.nx (ops:=A9 Tryz.f110 17) HC.x (by kernel_rfl) (by kernel_rfl) 4 3 Ao 2 o3 a o4 none [1,3,4,5,7,8,58,59,66,68] [0,1,2,3] (AF 208 [(1,.ref 2 0),(3,.fn 125 1 (L1 [.ref 2 0])),(4,.i (c.cells.length:Int)),(5,.msl 3 1 0 ((((c.cells.length:Int)+1)).toNat)),(7,.fn 126 1 (L1 [.ref 2 0])),(8,.i x8),(58,.i (c.cells.length:Int)),(59,.i A4),(68,.bool false)]) (jQ c q pos ln o1 o3) [0,1,2,3,4] (λj=>AF 208 [(1,.ref 2 0),(3,.fn 125 1 (L1 [.ref 2 0])),(4,.i (c.cells.length:Int)),(5,.msl 3 1 0 ((((c.cells.length:Int)+1)).toNat)),(7,.fn 126 1 (L1 [.ref 2 0])),(8,.i x8),(58,.i (c.cells.length:Int)),(59,.i A4),(66,.it 4),(68,.bool true)]) (λj=>(tP c q pos ln o1 o3 Ao a o4 j)) (by kernel_rfl) (by kernel_rfl) (by kernel_rfl) (by decide) e (by kernel_rfl) (by kernel_rfl) (λ_=>by kernel_rfl) (λI=>?_) (λj I=>?_)
   ·replace h:=h.1 I;revert r;apply gO;exact gw 98 (lG Cf [0,1,2,3] (C _ _ · f b))
   ·replace h:=h.2 j I;revert r;apply gO;exact gi (jg (Eq.refl a.1) (jg (Eq.refl a.2.1) (jg (Eq.refl a.2.2) (jt (lN Cf [0,1,2,3,5,4,6] (C _ _ · f Y n b d Nat.le.refl a))))))
 case l4 Ad o1 o3 o4=>
  intro f b;refine rd b λf b=>?_
  revert r;apply gO
  exact bi 132 (gn λe=>λp r h=>by
   refine gs (Ab 36 Cf) [0,1,2,3,4,5,6] p (EP (AR Tryz.f110) 36 [f]) (AF 208 [(1,.ref 2 0),(3,.fn 125 1 (L1 [.ref 2 0])),(5,.msl 3 1 0 ((((c.cells.length:Int)+1)).toNat)),(7,.fn 126 1 (L1 [.ref 2 0])),(14,.it 4),(16,.i Ad),(17,.it 5),(18,.ref 6 0)]) (jN c q pos ln o1 o3 o4) ?_;refine Bi.lock 3 (0+Ad.toNat) 2 (by kernel_rfl) e (by kernel_rfl) (λa=>(zHL c q pos ln o1 o3 Ad a o4)) (by kernel_rfl) λa=>?_
   revert r;apply gO;exact gc (gi (gc (gi (gi (jg (Eq.refl (0+Ad.toNat)) (lN Cf [0,1,2,3,4,5,6,7] (C _ _ · f n b Nat.le.refl a)))))))) (lE Cf [2] [0,1])
 case l5 x8 A4 Fw o1 o3 Ao As GC o5 GB=>
  intro f Y E b d l a;have b:=zGf b;have d:=zGf d;refine rd l λE l=>?_
  revert r;apply gO;exact bj 74 (λm=>gc (gn λe=>jg e (gn λo=>jg o (cn λj u=>jc (em (Nl u) [2,0,1] (jM c q pos ln o1 o3 Ao a As GC o5 GB)) (jt (bn (λw=>rO (jb 74 m (jg e (jg o (jc (em (Nl u) [2,0,1] (jM c q pos ln o1 o3 Ao a As GC o5 GB)) (jb 83 w (jt (ce aP [2,0,1] (zHK c q pos ln j o3 Ao a As GC o5 GB) λ_=>bi 89 (jg zAn (gc (gw 93 (gc (gi (gc (gi (gc (gn λH=>gc (gi (jg (zFI (g:=a) H) (gw 97 (lG Cf [0,1,2,3,4,5,6] (C _ _ · f Y E b d l a)))))))))))))) (gw 97 (lG Cf [0,1,2,3,4,5,6] (C _ _ · f Y E b d l a))))))))))) (λw=>rO (jb 74 m (jg e (jg o (jc (em (Nl u) [2,0,1] (jM c q pos ln o1 o3 Ao a As GC o5 GB)) (jb 83 w (jt (gw 97 (lG Cf [0,1,2,3,4,5,6] (C _ _ · f Y E b d l a)))))))))))))))) (λ_=>lG Cf [0,1,2,3,5] (C _ _ · f Y b d a))
 case l6 Ad o1 o3 Ao o4 o7=>
  intro f Y b d a;have b:=zGf b;refine rd d λY d=>?_
  have p:=H0;refine gs (Ab 37 Cf) [0,1,2,3,4,5,6,7] p (EP (AR Tryz.f110) 37 [f,Y]) (AF 208 [(1,.ref 2 0),(3,.fn 125 1 (L1 [.ref 2 0])),(5,.msl 3 1 0 ((((c.cells.length:Int)+1)).toNat)),(7,.fn 126 1 (L1 [.ref 2 0])),(14,.it 4),(16,.i Ad),(17,.it 5),(18,.ref 6 0),(140,.it 7)]) (zHJ c q pos ln o1 o3 Ao a o4 o7) ?_;revert r;apply gO
  exact gn λe=>λp r h=>by
   replace h:=Zy h;refine A1.nx (ops:=A9 Tryz.f110 37) HC.x (by kernel_rfl) (by kernel_rfl) 7 3 Ao 2 o3 a o7 none [1,3,5,7,14,16,17,18,140,142] [0,1,2,3,4,5,6] (AF 208 [(1,.ref 2 0),(3,.fn 125 1 (L1 [.ref 2 0])),(5,.msl 3 1 0 ((((c.cells.length:Int)+1)).toNat)),(7,.fn 126 1 (L1 [.ref 2 0])),(14,.it 4),(16,.i Ad),(17,.it 5),(18,.ref 6 0),(142,.bool false)]) (jN c q pos ln o1 o3 o4) [0,1,2,3,4,5,6,7] (λj=>AF 208 [(1,.ref 2 0),(3,.fn 125 1 (L1 [.ref 2 0])),(5,.msl 3 1 0 ((((c.cells.length:Int)+1)).toNat)),(7,.fn 126 1 (L1 [.ref 2 0])),(14,.it 4),(16,.i Ad),(17,.it 5),(18,.ref 6 0),(140,.it 7),(142,.bool true)]) (λj=>(zHR c q pos ln o1 o3 Ao a o4 o7 j)) (by kernel_rfl) (by kernel_rfl) (by kernel_rfl) (by decide) e (by kernel_rfl) (by kernel_rfl) (λ_=>by kernel_rfl) (λI=>?_) (λj I=>?_)
   ·replace h:=h.1 I;revert r;apply gO;exact jg (by decide:(0:Int)<=1/\ 1<((2:Nat):Int)) (jg pN (gn λo=>jg o (ce Gy [0,1] (jN c q pos ln o1 o3 o4) λG=>jg (Eq.refl (nF c Ad q pos ln G o3 o4)) (jg (by decide:(0:Int)<=0/\ 0<((2:Nat):Int)) (jg fA (jg o (ce Ni [0,1] (zHS c q pos ln G o3 o4) λy3=>jg (Eq.refl (nI c Ad q pos ln y3 o3 o4)) (gw 134 (lG (tg:=[([],(nF c Ad q pos ln G o3 o4)),([],(nI c Ad q pos ln y3 o3 o4))]) Cf [0,1,2,3,5] (C _ _ · f b))))))))))
   ·replace h:=h.2 j I;revert r;apply gO;exact gi (jg (Eq.refl a.1) (jg (Eq.refl a.2.1) (jg (Eq.refl a.2.2) (jt (lN Cf [0,1,2,3,4,5,6,8,7,9] (C _ _ · f Y n b d Nat.le.refl a))))))
 case l7 Ad EW o1 o3 Ao o4 o5 BZ Be D6 D5 o8 EY=>
  intro f Y E b d l a;have b:=zGf b;have d:=zGf d;refine rd l λE l=>?_
  revert r;apply gO;exact bj 148 (λm=>gc (gn λe=>jg e (gn λo=>jg o (cn λj u=>jc (em (Nl u) [2,0,1] (WC c q pos ln o1 o3 Ao a o4 o5 BZ Be D6 D5 o8 EY)) (jt (bn (λw=>rO (jb 148 m (jg e (jg o (jc (em (Nl u) [2,0,1] (WC c q pos ln o1 o3 Ao a o4 o5 BZ Be D6 D5 o8 EY)) (jb 158 w (jt (cn λG s=>jc (em (aP s) [2,0,1] (jP c q pos ln j o3 Ao a o4 o5 BZ Be D6 D5 o8 EY)) (bj 164 (λv=>bj 169 (λt=>bn (λV=>rO (jb 148 m (jo 149 (AN.int (k:=.i64) (zJF V)) (jg e (jg o (jc (em (Nl u) [2,0,1] (WC c q pos ln o1 o3 Ao a o4 o5 BZ Be D6 D5 o8 EY)) (jb 158 w (jt (jc (em (aP s) [2,0,1] (jP c q pos ln j o3 Ao a o4 o5 BZ Be D6 D5 o8 EY)) (jb 164 v (jb 169 t (jg (by decide:(0:Int)<=0/\ 0<((2:Nat):Int)) (jt (gw 175 (lG Cf [0,1,2,3,4,5,6,7,8,9] (C _ _ · f Y E b d l a)))))))))))))))) (λV=>bn (λy=>rO (jb 148 m (jo 149 (AN.int (k:=.i64) (zJF y)) (jg e (jg o (jc (em (Nl u) [2,0,1] (WC c q pos ln o1 o3 Ao a o4 o5 BZ Be D6 D5 o8 EY)) (jb 158 w (jt (jc (em (aP s) [2,0,1] (jP c q pos ln j o3 Ao a o4 o5 BZ Be D6 D5 o8 EY)) (jb 164 v (jb 169 t (jg (by decide:(0:Int)<=1/\ 1<((2:Nat):Int)) (jt (gw 175 (lG Cf [0,1,2,3,4,5,6,7,8,9] (C _ _ · f Y E b d l a)))))))))))))))) (λy=>nO))) (λ_=>gw 175 (lG Cf [0,1,2,3,4,5,6,7,8,9] (C _ _ · f Y E b d l a)))) (λ_=>gw 175 (lG Cf [0,1,2,3,4,5,6,7,8,9] (C _ _ · f Y E b d l a)))))))))))) (λw=>rO (jb 148 m (jg e (jg o (jc (em (Nl u) [2,0,1] (WC c q pos ln o1 o3 Ao a o4 o5 BZ Be D6 D5 o8 EY)) (jb 158 w (jt (gw 175 (lG Cf [0,1,2,3,4,5,6,7,8,9] (C _ _ · f Y E b d l a)))))))))))))))) (λ_=>lG Cf [0,1,2,3,4,5,6,8] (C _ _ · f Y b d a))
 case l8 x8 A4 o1 o3 Ao o4 K9=>
  intro f Y b d a;have b:=zGf b;refine rd d λY d=>?_
  have p:=H0;refine gs (Ab 17 Cf) [0,1,2,3,4] p (EP (AR Tryz.f110) 17 [f,Y]) (AF 208 [(1,.ref 2 0),(3,.fn 125 1 (L1 [.ref 2 0])),(4,.i (c.cells.length:Int)),(5,.msl 3 1 0 ((((c.cells.length:Int)+1)).toNat)),(7,.fn 126 1 (L1 [.ref 2 0])),(8,.i x8),(58,.i (c.cells.length:Int)),(59,.i A4),(66,.it 4)]) (zHQ c q pos ln o1 o3 Ao a o4 K9) ?_;revert r;apply gO
  exact gn λe=>λp r h=>by
   replace h:=Zy h;refine A1.nx (ops:=A9 Tryz.f110 17) HC.x (by kernel_rfl) (by kernel_rfl) 4 3 Ao 2 o3 a o4 (some K9) [1,3,4,5,7,8,58,59,66,68] [0,1,2,3] (AF 208 [(1,.ref 2 0),(3,.fn 125 1 (L1 [.ref 2 0])),(4,.i (c.cells.length:Int)),(5,.msl 3 1 0 ((((c.cells.length:Int)+1)).toNat)),(7,.fn 126 1 (L1 [.ref 2 0])),(8,.i x8),(58,.i (c.cells.length:Int)),(59,.i A4),(68,.bool false)]) (jQ c q pos ln o1 o3) [0,1,2,3,4] (λj=>AF 208 [(1,.ref 2 0),(3,.fn 125 1 (L1 [.ref 2 0])),(4,.i (c.cells.length:Int)),(5,.msl 3 1 0 ((((c.cells.length:Int)+1)).toNat)),(7,.fn 126 1 (L1 [.ref 2 0])),(8,.i x8),(58,.i (c.cells.length:Int)),(59,.i A4),(66,.it 4),(68,.bool true)]) (λj=>(tP c q pos ln o1 o3 Ao a o4 j)) (by kernel_rfl) (by kernel_rfl) (by kernel_rfl) (by decide) e (by kernel_rfl) (by kernel_rfl) (λ_=>by kernel_rfl) (λI=>?_) (λj I=>?_)
   ·replace h:=h.1 I;revert r;apply gO;exact gw 98 (lG Cf [0,1,2,3] (C _ _ · f b))
   ·replace h:=h.2 j I;revert r;apply gO;exact gi (jg (Eq.refl a.1) (jg (Eq.refl a.2.1) (jg (Eq.refl a.2.2) (jt (lN Cf [0,1,2,3,5,4,6] (C _ _ · f Y n b d Nat.le.refl a))))))
 case l9 Ad o1 o3 Ao o4 o5 BZ Be o7 K8=>
  intro f Y b d a;have b:=zGf b;refine rd d λY d=>?_
  have p:=H0;refine gs (Ab 37 Cf) [0,1,2,3,4,5,6,7] p (EP (AR Tryz.f110) 37 [f,Y]) (AF 208 [(1,.ref 2 0),(3,.fn 125 1 (L1 [.ref 2 0])),(5,.msl 3 1 0 ((((c.cells.length:Int)+1)).toNat)),(7,.fn 126 1 (L1 [.ref 2 0])),(14,.it 4),(16,.i Ad),(17,.it 5),(18,.ref 6 0),(140,.it 7)]) (zHP c q pos ln o1 o3 Ao a o4 o5 BZ Be o7 K8) ?_;revert r;apply gO
  exact gn λe=>λp r h=>by
   replace h:=Zy h;refine A1.nx (ops:=A9 Tryz.f110 37) HC.x (by kernel_rfl) (by kernel_rfl) 7 3 Ao 2 o3 a o7 (some K8) [1,3,5,7,14,16,17,18,140,142] [0,1,2,3,4,5,6] (AF 208 [(1,.ref 2 0),(3,.fn 125 1 (L1 [.ref 2 0])),(5,.msl 3 1 0 ((((c.cells.length:Int)+1)).toNat)),(7,.fn 126 1 (L1 [.ref 2 0])),(14,.it 4),(16,.i Ad),(17,.it 5),(18,.ref 6 0),(142,.bool false)]) (jO c q pos ln o1 o3 o4 o5 BZ Be) [0,1,2,3,4,5,6,7] (λj=>AF 208 [(1,.ref 2 0),(3,.fn 125 1 (L1 [.ref 2 0])),(5,.msl 3 1 0 ((((c.cells.length:Int)+1)).toNat)),(7,.fn 126 1 (L1 [.ref 2 0])),(14,.it 4),(16,.i Ad),(17,.it 5),(18,.ref 6 0),(140,.it 7),(142,.bool true)]) (λj=>(zHM c q pos ln o1 o3 Ao a o4 o5 BZ Be o7 j)) (by kernel_rfl) (by kernel_rfl) (by kernel_rfl) (by decide) e (by kernel_rfl) (by kernel_rfl) (λ_=>by kernel_rfl) (λI=>?_) (λj I=>?_)
   ·replace h:=h.1 I;revert r;apply gO;exact jg (by decide:(0:Int)<=1/\ 1<((2:Nat):Int)) (bi 179 (jg pN (gn λo=>jg o (ce Gy [0,1] (jO c q pos ln o1 o3 o4 o5 BZ Be) λG=>jg (Eq.refl (dp c Ad q pos ln G o3 o4 o5 BZ Be)) (jg (by decide:(0:Int)<=0/\ 0<((2:Nat):Int)) (bi 197 (jg fA (jg o (ce Ni [0,1] (zHO c q pos ln G o3 o4 o5 BZ Be) λy3=>jg (Eq.refl (nH c Ad q pos ln y3 o3 o4 o5 BZ Be)) (gw 134 (lG (tg:=[([],(dp c Ad q pos ln G o3 o4 o5 BZ Be)),([],(nH c Ad q pos ln y3 o3 o4 o5 BZ Be))]) Cf [0,1,2,3,5] (C _ _ · f b)))))) (gw 134 (lG (tg:=[([],(dp c Ad q pos ln G o3 o4 o5 BZ Be))]) Cf [0,1,2,3,5] (C _ _ · f b)))))))) (jg (by decide:(0:Int)<=0/\ 0<((2:Nat):Int)) (bi 197 (jg fA (gi (ce Ni [0,1] (jO c q pos ln o1 o3 o4 o5 BZ Be) λG=>jg (Eq.refl (nG c Ad q pos ln G o3 o4 o5 BZ Be)) (gw 134 (lG (tg:=[([],(nG c Ad q pos ln G o3 o4 o5 BZ Be))]) Cf [0,1,2,3,5] (C _ _ · f b)))))) (gw 134 (lG Cf [0,1,2,3,5] (C _ _ · f b))))))
   ·replace h:=h.2 j I;revert r;apply gO;exact gi (jg (Eq.refl a.1) (jg (Eq.refl a.2.1) (jg (Eq.refl a.2.2) (jt (lN Cf [0,1,2,3,4,5,6,8,7,9] (C _ _ · f Y n b d Nat.le.refl a))))))
def zBn (h:Rp n c q pos ln lost=some r):EQ 110 [.ref 0 0] [oW c q pos 1 ln,oI lost] (.bool r.1) [oW c q pos 1 ln,oI r.2] false:=by
 refine ot Tryz.func110 λB N=>?_
 revert r;apply gO;exact bi 32 (lE Cf [2] [0,1]) (gc (gw 41 (gi (lN Cf [0,1,2,3] ((zBr B N c q pos ln lost n) _ _ · n Nat.le.refl)))))
end
abbrev zJL:=@List.ext_getElem
abbrev zNK:=@Bool.not_eq_true
abbrev zNV:=@Option.isSome_some
section
variable {c:AD} {k:Nat} {pos lost:Ξ} {q:AA}
variable {l':Ξ}{i:Nat}
theorem CL.unique {D:Nat -> Ψ}{l:Ξ}(h:CL c pos lost i D l)(h':CL c pos lost i D l')(hi: ∀ j,CB (l.getD j 0))(G: ∀ j,CB (l'.getD j 0)):l=l':=by
 have e:l.length=l'.length:=h.1.trans h'.1.symm;refine zJL e λj a b=>?_
 have w:l.getD j 0=l[j]:=by simp [a]
 have z:l'.getD j 0=l'[j]:=by simp [b]
 rw [←w,←z];refine Km (hi j) (G j) λs _=>?_
 rw [zIt,h.2,h'.2]
theorem oz {l:Ξ}{x:Int}(h: ∀ j,CB (l.getD j 0))(hx:CB x): ∀ j,CB ((l.set i x).getD j 0):=by
 grind [getD_set_ne]
variable {cell ss:Int}{n ln:Nat}
def zE6 (h:D7 n cell ss c q pos ln lost=some l')(hi: ∀ j,CB (lost.getD j 0)): ∀ j,CB (l'.getD j 0):=by
 grind [D7,iA,oz,GO]
def zEA (h:Hc n cell c q pos ln lost=some l')(hi: ∀ j,CB (lost.getD j 0)): ∀ j,CB (l'.getD j 0):=by
 grind [Hc,gN,oz,GO]
def Je (c:AD):Prop:=c.runs.length<=256/\ ∀ j,j<c.runs.length -> c.runs.getD j 0<=256
structure Mv (c:AD)(d l:Int):Prop where
 d0:0<=d
 d1:d<=(c.runs.length:Int)
 l0:0<=l
 open' : 0 < l -> d < (c.runs.length : Int) /\ l <= c.runs.getD d.toNat 0
def nx (c:AD)(d l:Int)(inn:Bool):Option (Δ):= bif inn then (if d<(c.runs.length:Int)/\ l<c.runs.getD d.toNat 0 then some (d,l+1) else none) else (if l=0 then some (d,0) else if l=c.runs.getD d.toNat 0 then some (d+1,0) else none)
variable {inn:Bool}{d l:Int}
def zEJ {t:Δ}(h:Mv c d l)(e:nx c d l inn=some t):Mv c t.1 t.2:=by
 obtain ⟨a,b,h3,A⟩:=h;unfold nx at e;cases inn
 ·rw [zGK] at e;split at e
  ·cases e;exact ⟨a,b,zGv _,λh=>absurd h (Int.lt_irrefl _)⟩
  ·split at e
   ·cases e;have:=A (by omega);exact ⟨by show 0<=d+1;omega,by show d+1<=_;omega,zGv _,λh=>absurd h (Int.lt_irrefl _)⟩
   ·cases e
 ·rw [zFi] at e;split at e
  ·rename_i f;cases e;exact ⟨a,b,by show 0<=l+1;omega,λ_=>⟨f.1,by grind⟩⟩
  ·cases e
def Z5 (R:Je c)(h:Mv c d l): ∃ t,Vl n (d,l) inn c q pos ln lost=some (t,(nx c d l inn).isSome,lost)/\ ∀ u,nx c d l inn=some u -> t=u:=by
 obtain ⟨a,h2,h3,A⟩:=h;obtain ⟨hr,hv⟩:=R
 have hl:l<=256:=by
  grind
 unfold Vl rq nx;cases inn
 ·rw [zGK,zGK]
  by_cases h0:l=0
  ·simp_all
  ·obtain ⟨U,a2⟩:=A (by omega);have K:(l==0)=false:=by simpa using h0
   simp only [K,zGK,zGW h0];rw [zEd ⟨Ah.2 ⟨by omega,by omega⟩,a,U⟩];refine ⟨(d+1,0),?_,λu b=>?_⟩
   ·grind
   grind
 ·rw [zFi,zFi,zEd (Ah.2 ⟨by show _<=l+1;omega,by show l+1<=_;omega⟩)]
  by_cases f:d<(c.runs.length:Int)
  ·simp only [zEI f,zFi];rw [zEd ⟨a,f⟩];refine ⟨(d,l+1),?_,λu b=>?_⟩
   ·grind
   grind
  simp_all [zEl]
def kd (c:AD)(pos:Ξ)(i:Nat)(inn:Bool):Bool:=bif inn then (bits .and .i64 (Ac c pos i) c.set != 0) else (bits .andNot .i64 (Ac c pos i) c.set != 0)
def aO (W:B7 c k pos)(hi:i<c.cells.length):Vw n (i:Int) inn c q pos pos.length lost=some (kd c pos i inn,lost):=by
 have l:=W.cells i hi;unfold Vw sZ kd;simp only [zCl];cases inn
 ·rw [zGK,zEd ⟨⟨by omega,by omega⟩,l⟩];rfl
 ·rw [zFi,zEd ⟨⟨by omega,by omega⟩,l⟩];rfl
def Fu (c:AD)(pos:Ξ):Nat -> Δ -> Prop
 | 0,t=>t=(0,0)
 | i+1,t=>∃ s inn,Fu c pos i s/\ nx c s.1 s.2 inn=some t/\ kd c pos i inn=true
def Fu.ok (i:Nat): ∀ {t:Δ},Fu c pos i t -> Mv c t.1 t.2:=by
 induction i with
 | zero=>
  intro t h;obtain rfl:t=(0,0):=h;exact ⟨zGv _,by show (0:Int)<=_;omega,zGv _,λh=>absurd h (Int.lt_irrefl _)⟩
 | succ i V=>
  rintro t ⟨s,inn,a,b,_⟩;exact zEJ (V a) b
def Xk (c:AD)(t:Δ):Prop:=t=((c.runs.length:Int),0)∨(0<c.runs.length/\ t=((c.runs.length:Int)-1,c.runs.getD (c.runs.length-1) 0))
def Jh (c:AD)(pos:Ξ):Nat -> Δ -> Prop
 | 0,t=>Xk c t
 | m+1,s=>Fu c pos (c.cells.length-1-m) s/\ ∃ t inn,nx c s.1 s.2 inn=some t/\ kd c pos (c.cells.length-1-m) inn=true/\ Jh c pos m t
def KX (c:AD)(pos:Ξ)(i:Nat)(inn:Bool):Prop:=∃ s t,Fu c pos i s/\ nx c s.1 s.2 inn=some t/\ kd c pos i inn=true/\ Jh c pos (c.cells.length-1-i) t
def Js (c:AD)(pos:Ξ)(a s:Nat):Prop:=(¬ KX c pos a true/\ tb c.set s=true)∨(¬ KX c pos a false/\ tb c.set s=false)
def Ek (c:AD)(pos:Ξ)(i:Nat)(o4:KS)(d l:Int)(inn:Bool):Bool:=match nx c d l inn with
 | some t=>kd c pos i inn&&o4.contains [t.1,t.2]
 | none=>false
variable {g o1:Ξ}{e f:Bool}{o4 G s:KS}{a:List (Option KS)}{U:Nat}
theorem zFb (W:B7 c k pos)(R:Je c)(hi:i<c.cells.length)(h:Mv c d l):
 BU c q pos pos.length lost (n+1) (.l7 i 0 o1 a U o4 G e f d l s g)=BU c q pos pos.length lost n (.l7 i 1 o1 a U o4 (bif Ek c pos i o4 d l false then Ck [d,l] G else G) (e||Ek c pos i o4 d l false) f d l s g):=by
 obtain ⟨t,w,z⟩:=Z5 (n:=n) (ln:=pos.length) (pos:=pos) (lost:=o1) (q:=q) (inn:=false) R h;have b:([false,true]:Ω).getD (0+((0:Int)).toNat) false=false:=rfl;have r:AG ((0:Int)+1):=Ah.2 ⟨by decide,by decide⟩
 show Rm n (BU c q pos pos.length lost n) c q pos pos.length lost i 0 o1 a U o4 G e f d l s g=_
 unfold Rm Ek;rw [zEI (by decide),zFi,zEd ⟨⟨by decide,by decide⟩,by decide⟩,b,w,zEf];cases j:nx c d l false with
 | none=>grind
 | some u=>
  obtain rfl:=z u j;simp only [zNV,zFi];rw [aO W hi,zEf]
  grind
theorem zFa (W:B7 c k pos)(R:Je c)(hi:i<c.cells.length)(h:Mv c d l):
 BU c q pos pos.length lost (n+1) (.l7 i 1 o1 a U o4 G e f d l s g)=BU c q pos pos.length lost n (.l7 i 2 o1 a U o4 (bif Ek c pos i o4 d l true then Ck [d,l] G else G) e (f||Ek c pos i o4 d l true) d l s g):=by
 obtain ⟨t,w,z⟩:=Z5 (n:=n) (ln:=pos.length) (pos:=pos) (lost:=o1) (q:=q) (inn:=true) R h;have b:([false,true]:Ω).getD (0+((1:Int)).toNat) false=true:=rfl;have r:AG ((1:Int)+1):=Ah.2 ⟨by decide,by decide⟩
 show Rm n (BU c q pos pos.length lost n) c q pos pos.length lost i 1 o1 a U o4 G e f d l s g=_
 unfold Rm Ek;rw [zEI (by decide),zFi,zEd ⟨⟨by decide,by decide⟩,by decide⟩,b,w,zEf];cases j:nx c d l true with
 | none=>grind
 | some u=>
  obtain rfl:=z u j;simp only [zNV,zFi];rw [aO W hi,zEf]
  grind
variable {t:List (Option KS)}
theorem zFZ {b a:Bool}{e:Ξ}:
 BU c q pos pos.length lost (n+1) (.l7 i 2 o1 t U o4 G b a d l s e)=BU c q pos pos.length lost n (.l9 i o1 t U o4 G b a s e):=by
 simp_all [Rm,BU]
def F6 (c:AD)(pos:Ξ)(i:Nat)(a:List (Option KS))(d l:Int)(inn:Bool):List (Option KS):=match nx c d l inn with
 | some t=>bif kd c pos i inn then a.set (i+1) (some (Ck [t.1,t.2] ((a.getD (i+1) none).getD []))) else a
 | none=>a
variable {w:Int}
theorem zFf {U:Ξ}(W:B7 c k pos)(R:Je c)(hi:i<c.cells.length)(h:Mv c d l)(e:i+1<a.length)(f:(a.getD (i+1) none).isSome=true):
 BU c q pos pos.length lost (n+1) (.l5 i w 0 o1 a i d l G U)=BU c q pos pos.length lost n (.l5 i w 1 o1 (F6 c pos i a d l false) i d l G U):=by
 obtain ⟨t,g,z⟩:=Z5 (n:=n) (ln:=pos.length) (pos:=pos) (lost:=o1) (q:=q) (inn:=false) R h;have b:([false,true]:Ω).getD (0+((0:Int)).toNat) false=false:=rfl;have r:AG ((0:Int)+1):=Ah.2 ⟨by decide,by decide⟩;have Aj:=W.len;have j:((((c.cells.length:Nat):Int)+1).toNat:Nat)=c.cells.length+1:=by omega
 have m:0+(((i:Int)+1).toNat:Nat)=i+1:=by omega
 show Rn n (BU c q pos pos.length lost n) c q pos pos.length lost i w 0 o1 a i d l G U=_
 unfold Rn F6;rw [zEI (by decide),zFi,zEd ⟨⟨by decide,by decide⟩,by decide⟩,b,g,zEf];cases o:nx c d l false with
 | none=>grind
 | some u=>
  obtain rfl:=z u o;simp only [zNV,zFi];rw [aO W hi,zEf];cases hk:kd c pos i false
  ·simp only [zGK,zEd r];rfl
  ·simp only [zFi,j,m];rw [zEd ⟨Ah.2 ⟨by omega,by omega⟩,⟨by omega,by omega⟩,e,by omega,f,r⟩];rfl
theorem zFe {U:Ξ}(W:B7 c k pos)(R:Je c)(hi:i<c.cells.length)(h:Mv c d l)(e:i+1<a.length)(f:(a.getD (i+1) none).isSome=true):
 BU c q pos pos.length lost (n+1) (.l5 i w 1 o1 a i d l G U)=BU c q pos pos.length lost n (.l5 i w 2 o1 (F6 c pos i a d l true) i d l G U):=by
 obtain ⟨t,g,z⟩:=Z5 (n:=n) (ln:=pos.length) (pos:=pos) (lost:=o1) (q:=q) (inn:=true) R h;have b:([false,true]:Ω).getD (0+((1:Int)).toNat) false=true:=rfl;have r:AG ((1:Int)+1):=Ah.2 ⟨by decide,by decide⟩;have Aj:=W.len;have j:((((c.cells.length:Nat):Int)+1).toNat:Nat)=c.cells.length+1:=by omega
 have m:0+(((i:Int)+1).toNat:Nat)=i+1:=by omega
 show Rn n (BU c q pos pos.length lost n) c q pos pos.length lost i w 1 o1 a i d l G U=_
 unfold Rn F6;rw [zEI (by decide),zFi,zEd ⟨⟨by decide,by decide⟩,by decide⟩,b,g,zEf];cases o:nx c d l true with
 | none=>grind
 | some u=>
  obtain rfl:=z u o;simp only [zNV,zFi];rw [aO W hi,zEf];cases hk:kd c pos i true
  ·simp only [zGK,zEd r];rfl
  ·simp only [zFi,j,m];rw [zEd ⟨Ah.2 ⟨by omega,by omega⟩,⟨by omega,by omega⟩,e,by omega,f,r⟩];rfl
theorem zFd {U:Ξ}:
 BU c q pos pos.length lost (n+1) (.l5 i w 2 o1 t i d l G U)=BU c q pos pos.length lost n (.l8 i w o1 t i G U):=by
 simp_all [Rn,BU]
def Gn (t:List (Option KS))(j:Nat):KS:=(t.getD j none).getD []
def ZN :(F6 c pos i t d l inn).length=t.length:=by
 unfold F6
 grind
variable {α:Type}
def uc {l:List α}{x y:α}(h:i<l.length):(l.set i x).getD i y=x:=by
 grind
variable {j:Nat}
theorem ud {l:List α}{x y:α}(h:i≠j):(l.set i x).getD j y=l.getD j y:=by
 grind
theorem qg (h:j≠i+1):(F6 c pos i t d l inn).getD j none=t.getD j none:=by
 unfold F6
 grind
def fq (hl:i+1<t.length)(h:(t.getD j none).isSome=true):((F6 c pos i t d l inn).getD j none).isSome=true:=by
 by_cases e:j=i+1
 ·subst e;unfold F6
  grind
 ·rw [qg e];exact h
theorem Z7 (m:i+1<a.length){x:Ξ}:x∈Gn (F6 c pos i a d l inn) (i+1)↔x∈Gn a (i+1)∨∃ t,nx c d l inn=some t/\ kd c pos i inn=true/\ x= [t.1,t.2]:=by
 unfold F6;split
 ·rename_i t ht;cases hk:kd c pos i inn
  ·grind
  ·rw [zFi];unfold Gn;rw [uc m]
   show x∈Ck _ _↔_
   rw [Pc]
   grind
 grind
structure Rows (c:AD)(pos:Ξ)(i:Nat)(o3:List (Option KS)):Prop where
 len:o3.length=c.cells.length+1
 isSome: ∀ j,j<=c.cells.length -> (o3.getD j none).isSome=true
 row: ∀ j,j<=i -> ∀ x,x∈Gn o3 j↔∃ t:Δ,x= [t.1,t.2]/\ Fu c pos j t
 rest: ∀ j,i<j -> j<=c.cells.length -> Gn o3 j= []
structure Q0 (c:AD)(pos:Ξ)(i:Nat)(rem:KS)(o3:List (Option KS)):Prop where
 hi:i<c.cells.length
 len:o3.length=c.cells.length+1
 isSome: ∀ j,j<=c.cells.length -> (o3.getD j none).isSome=true
 row: ∀ j,j<=i -> ∀ x,x∈Gn o3 j↔∃ t:Δ,x= [t.1,t.2]/\ Fu c pos j t
 rest: ∀ j,i+1<j -> j<=c.cells.length -> Gn o3 j= []
 sub: ∀ x∈rem,∃ t:Δ,x= [t.1,t.2]/\ Fu c pos i t
 next: ∀ x∈Gn o3 (i+1),∃ t:Δ,x= [t.1,t.2]/\ Fu c pos (i+1) t
 cov: ∀ t,Fu c pos i t -> [t.1,t.2]∈rem∨∀ inn u,nx c t.1 t.2 inn=some u -> kd c pos i inn=true -> [u.1,u.2]∈Gn o3 (i+1)
def Rows.mid (h:Rows c pos i a)(hi:i<c.cells.length):Q0 c pos i (Gn a i) a where
 hi:=hi
 len:=h.len
 isSome:=h.isSome
 row:=h.row
 rest:=λj hj m=>h.rest j (by omega) m
 sub:=λx d=>(h.row i (zGd _) x).1 d
 next:=λx d=>by rw [h.rest (i+1) (by omega) (by omega)] at d;cases d
 cov:=λt b=>.inl ((h.row i (zGd _) _).2 ⟨t,rfl,b⟩)
def Q0.rows (h:Q0 c pos i [] a):Rows c pos (i+1) a where
 len:=h.len
 isSome:=h.isSome
 row:=λj e x=>by
  rcases zGg.1 (Nat.lt_succ_of_le e) with e | rfl
  ·exact h.row j (by omega) x
  ·refine ⟨h.next x,?_⟩;rintro ⟨t,rfl,s,inn,b,d,f⟩;rcases h.cov s b with h4 | h4
   ·cases h4
   ·exact h4 inn t d f
 rest:=h.rest
def q8 {t u:Δ}(h:([t.1,t.2]:Ξ)= [u.1,u.2]):t=u:=by
 grind
variable {B:KS}
def Q0.go {t:Δ}(h:Q0 c pos i B a)(k: [t.1,t.2]∈B):Q0 c pos i (B.erase [t.1,t.2]) (F6 c pos i (F6 c pos i a t.1 t.2 false) t.1 t.2 true):=by
 have m:=h.len;have hi:=h.hi;have f:i+1<a.length:=by omega
 have g:i+1<(F6 c pos i a t.1 t.2 false).length:=by rw [ZN];exact f
 have D: ∀ j,j≠i+1 -> Gn (F6 c pos i (F6 c pos i a t.1 t.2 false) t.1 t.2 true) j=Gn a j:=λj b=>by
  grind [Gn,qg]
 have hR:Fu c pos i t:=by
  obtain ⟨u,e,q⟩:=h.sub _ k;rw [q8 e];exact q
 refine ⟨hi,by rw [ZN,ZN];exact m,λj b=>fq g (fq f (h.isSome j b)),λj b x=>?_,λj b V=>?_,λx d=>h.sub x (List.mem_of_mem_erase d),λx d=>?_,λs l=>?_⟩
 ·rw [D j (by omega)];exact h.row j b x
 ·rw [D j (by omega)];exact h.rest j b V
 ·rw [Z7 g,Z7 f] at d;rcases d with (d | ⟨u,w,z,rfl⟩) | ⟨u,w,z,rfl⟩
  ·exact h.next x d
  ·exact ⟨u,rfl,t,false,hR,w,z⟩
  ·exact ⟨u,rfl,t,true,hR,w,z⟩
 ·by_cases e:s=t
  ·simp_all [Z7]
  ·rcases h.cov s l with h3 | h3
   ·grind
   grind [Z7]
def Ih (c:AD)(pos lost:Ξ)(r:Bool×Ξ):Prop:=r.1=true/\ CL c pos lost c.cells.length (Js c pos) r.2/\ ∀ j,CB (r.2.getD j 0)
theorem Ih.uniq (r V:Bool×Ξ)(h:Ih c pos lost r)(h':Ih c pos lost V):r=V:=by
 obtain ⟨b,l⟩:=r;obtain ⟨b',l'⟩:=V;obtain ⟨h1,h2,h3⟩:=h;obtain ⟨h4,h5,h6⟩:=h'
 grind [CL.unique]
def zEm (W:B7 c k pos)(R:Je c)(f:w=(i:Int))(H: ∀ a,Rows c pos (i+1) a -> At (λn=>BU c q pos pos.length lost n (.l2 (w+1) o1 a)) (Ih c pos lost)):
 ∀ (m:Nat) (B:KS) (a:List (Option KS)) (U:Ξ),B.length=m -> Q0 c pos i B a -> At (λn=>BU c q pos pos.length lost n (.l8 i w o1 a i B U)) (Ih c pos lost):=by
 intro m
 induction m with
 | zero=>
  intro B a U v X;have:B= []:=zJE v;subst this;have h:=X.isSome i (by have:=X.hi;omega);have r1:AG (w+1):=by rw [f];exact (W.r64 X.hi).2
  refine At.step 1 (λn=>?_) (H a X.rows)
  simp_all [fG,BU,rY]
 | succ m V=>
  intro B a U v X;have h:=X.isSome i (by have:=X.hi;omega);have D:B≠[]:=by intro e;rw [e] at v;cases v
  refine At.step 1 (g:=λn=>I7 B (if AG (w+1) then BU c q pos pos.length lost n (.l2 (w+1) o1 a) else none) (λj=>BU c q pos pos.length lost n (.l5 i w 0 o1 a i (j.getD 0 0) (j.getD 1 0) (B.erase j) j))) (λn=>?_) (At.next D (λy hy=>?_) Ih.uniq)
  ·simp_all [fG,BU]
  ·obtain ⟨t,rfl,o⟩:=X.sub y hy;have hS:=o.ok;have hl:=X.len;have hi:=X.hi;have b:i+1<a.length:=by omega
   have p:=X.isSome (i+1) (by omega);have h2:i+1<(F6 c pos i a t.1 t.2 false).length:=by rw [ZN];exact b
   have s2:=fq (c:=c) (pos:=pos) (d:=t.1) (l:=t.2) (inn:=false) b p;refine At.step 3 (λn=>?_) (V _ _ [t.1,t.2] (by rw [List.length_erase_of_mem hy];omega) (X.go hy))
   grind [zFf,zFe,zFd]
def T6 (c:AD)(pos:Ξ)(m:Nat)(o4:KS):Prop:=∀ x,x∈o4↔∃ t:Δ,x= [t.1,t.2]/\ Jh c pos m t
def Ok (c:AD)(pos lost:Ξ)(m:Nat)(o1:Ξ):Prop:=CL c pos lost c.cells.length (λa s=>c.cells.length<=a+m/\ Js c pos a s) o1/\ ∀ j,CB (o1.getD j 0)
structure Bk (c:AD)(pos:Ξ)(i m:Nat)(o5:KS)(b0 b1:Bool)(rem:KS):Prop where
 hi:i+m+1=c.cells.length
 sub: ∀ x∈rem,∃ t:Δ,x= [t.1,t.2]/\ Fu c pos i t
 o5s: ∀ x∈o5,∃ t:Δ,x= [t.1,t.2]/\ Jh c pos (m+1) t
 b0s:b0=true -> KX c pos i false
 b1s:b1=true -> KX c pos i true
 cov: ∀ t,Fu c pos i t -> [t.1,t.2]∈rem∨∀ inn u,nx c t.1 t.2 inn=some u -> kd c pos i inn=true -> Jh c pos m u -> [t.1,t.2]∈o5/\ (bif inn then b1 else b0)=true
variable {m:Nat}
theorem gP (h:T6 c pos m o4):Ek c pos i o4 d l inn=true↔∃ u,nx c d l inn=some u/\ kd c pos i inn=true/\ Jh c pos m u:=by
 unfold Ek;split
 ·rename_i t ht;rw [zFW,zMi,h]
  grind
 grind
def Bk.go {g q:Bool}{t:Δ}(F:T6 c pos m o4)(h:Bk c pos i m G g q B)(j: [t.1,t.2]∈B):
 Bk c pos i m (bif Ek c pos i o4 t.1 t.2 true then Ck [t.1,t.2] (bif Ek c pos i o4 t.1 t.2 false then Ck [t.1,t.2] G else G) else (bif Ek c pos i o4 t.1 t.2 false then Ck [t.1,t.2] G else G)) (g||Ek c pos i o4 t.1 t.2 false) (q||Ek c pos i o4 t.1 t.2 true) (B.erase [t.1,t.2]):=by
 have hR:Fu c pos i t:=by
  obtain ⟨u,e,k⟩:=h.sub _ j;rw [q8 e];exact k
 have l:c.cells.length-1-i=m:=by have:=h.hi;omega
 have em:c.cells.length-1-m=i:=by have:=h.hi;omega
 have O: ∀ inn,Ek c pos i o4 t.1 t.2 inn=true -> KX c pos i inn:=λinn a=>by
  obtain ⟨u,h1,b,h3⟩:=(gP F).1 a;exact ⟨t,u,hR,h1,b,by rw [l];exact h3⟩
 have P: ∀ inn,Ek c pos i o4 t.1 t.2 inn=true -> Jh c pos (m+1) t:=λinn a=>by
  grind [gP,Jh]
 have f: ∀ x,x∈(bif Ek c pos i o4 t.1 t.2 true then Ck [t.1,t.2] (bif Ek c pos i o4 t.1 t.2 false then Ck [t.1,t.2] G else G) else (bif Ek c pos i o4 t.1 t.2 false then Ck [t.1,t.2] G else G))↔x∈G∨(x= [t.1,t.2]/\ (Ek c pos i o4 t.1 t.2 true=true∨Ek c pos i o4 t.1 t.2 false=true)):=λx=>by
  cases Ek c pos i o4 t.1 t.2 true <;> cases Ek c pos i o4 t.1 t.2 false <;> simp only [zFi,zGK,Pc,zI1,or_false,and_false,or_true,true_or,and_true]
  ·exact Or.comm
  ·exact Or.comm
  grind
 refine ⟨h.hi,λx d=>h.sub x (List.mem_of_mem_erase d),λx d=>?_,λhb=>?_,λhb=>?_,λs n=>?_⟩
 ·rcases (f x).1 d with d | ⟨rfl,h1 | h1⟩
  ·exact h.o5s x d
  ·exact ⟨t,rfl,P _ h1⟩
  ·exact ⟨t,rfl,P _ h1⟩
 ·rcases Bool.or_eq_true_iff.1 hb with hb | hb
  ·exact h.b0s hb
  ·exact O _ hb
 ·rcases Bool.or_eq_true_iff.1 hb with hb | hb
  ·exact h.b1s hb
  ·exact O _ hb
 ·by_cases e:s=t
  ·subst e;refine .inr λinn u h1 b h3=>?_
   have a:Ek c pos i o4 s.1 s.2 inn=true:=(gP F).2 ⟨u,h1,b,h3⟩
   grind
  ·rcases h.cov s n with h3 | h3
   ·grind
   grind
def Bk.end' {q:Bool}(h:Bk c pos i m G e q []):T6 c pos (m+1) G/\ (e=true↔KX c pos i false)/\ (q=true↔KX c pos i true):=by
 have f:c.cells.length-1-i=m:=by have:=h.hi;omega
 have em:c.cells.length-1-m=i:=by have:=h.hi;omega
 refine ⟨λx=>⟨h.o5s x,?_⟩,⟨h.b0s,?_⟩,⟨h.b1s,?_⟩⟩
 ·rintro ⟨t,rfl,a⟩;have a:Fu c pos (c.cells.length-1-m) t/\ ∃ u inn,nx c t.1 t.2 inn=some u/\ kd c pos (c.cells.length-1-m) inn=true/\ Jh c pos m u:=a;rw [em] at a;obtain ⟨a,u,inn,b,d,A⟩:=a;rcases h.cov t a with h5 | h5
  ·cases h5
  ·exact (h5 inn u b d A).1
 ·rintro ⟨s,t,a,b,d,A⟩;rw [f] at A;rcases h.cov s a with h5 | h5
  ·cases h5
  ·exact (h5 false t b d A).2
 ·rintro ⟨s,t,a,b,d,A⟩;rw [f] at A;rcases h.cov s a with h5 | h5
  ·cases h5
  ·exact (h5 true t b d A).2
def sN (h0:0<=cell)(a:cell<(pos.length:Int))(m:lost.length=pos.length)(hi: ∀ j,CB (lost.getD j 0)):
 ∃ l',(∀ n,D7 n cell ss c q pos pos.length lost=some l')/\ l'.length=pos.length/\ (∀ j,CB (l'.getD j 0))/\ ∀ j s,tb (l'.getD j 0) s=(tb (lost.getD j 0) s||(decide (j=cell.toNat)&&(tb (pos.getD j 0) s&&tb ss s))):=by
 obtain ⟨l',e,b,h⟩:=MK (n:=0) (ss:=ss) (c:=c) (q:=q) h0 a m;exact ⟨l',λ_=>e,b,zE6 e hi,h⟩
def gM (h0:0<=cell)(a:cell<(pos.length:Int))(m:lost.length=pos.length)(hi: ∀ j,CB (lost.getD j 0)):
 ∃ l',(∀ n,Hc n cell c q pos pos.length lost=some l')/\ l'.length=pos.length/\ (∀ j,CB (l'.getD j 0))/\ ∀ j s,tb (l'.getD j 0) s=(tb (lost.getD j 0) s||(decide (j=cell.toNat)&&(tb (pos.getD j 0) s&&!tb c.set s))):=by
 obtain ⟨l',e,b,h⟩:=gL (n:=0) (c:=c) (q:=q) h0 a m;exact ⟨l',λ_=>e,b,zEA e hi,h⟩
def Ok.go (h:Ok c pos lost m o1)(hi:i+m+1=c.cells.length)(a:l'.length=pos.length)(D: ∀ j,CB (l'.getD j 0)) 
 (b: ∀ j s,tb (l'.getD j 0) s=true↔tb (o1.getD j 0) s=true∨((c.cells.getD i 0).toNat=j/\ tb (Ac c pos i) s=true/\ Js c pos i s)):Ok c pos lost (m+1) l':=by
 refine ⟨⟨a,λj s=>?_⟩,D⟩;rw [b,h.1.2]
 grind
variable {L:Int}
def zLi {d:List (Option KS)}(W:B7 c k pos)(R:Je c)(u:L=(i:Int))(hR:Rows c pos c.cells.length d)(F:T6 c pos m o4)(l:Ok c pos lost m o1) 
 (H: ∀ o1 G,Ok c pos lost (m+1) o1 -> T6 c pos (m+1) G -> At (λn=>BU c q pos pos.length lost n (.l4 (L-1) o1 d G)) (Ih c pos lost)):
 ∀ (z:Nat) (B G:KS) (b a:Bool) (M:Ξ),B.length=z -> Bk c pos i m G b a B -> At (λn=>BU c q pos pos.length lost n (.l9 i o1 d i o4 G b a B M)) (Ih c pos lost):=by
 intro z
 induction z with
 | zero=>
  intro B G b a M v I;have:B= []:=zJE v;subst this;obtain ⟨w,K,A⟩:=I.end';have hi:i<c.cells.length:=by have:=I.hi;omega
  have o:=hR.isSome i (by omega);have Aj:=W.len;have r1:AG ((i:Int)-1):=Ah.2 ⟨by omega,by omega⟩;have f:=W.cells i hi;have g0:(0:Int)<=(i:Int)/\ (i:Int)<((c.cells.length:Nat):Int):=⟨by omega,by omega⟩;obtain ⟨O,f1,C,Y,t1⟩:=sN (ss:=c.set) (c:=c) (q:=q) f.1 f.2 l.1.1 l.2;obtain ⟨E,f2,n2,i2,t2⟩:=gM (c:=c) (q:=q) f.1 f.2 C Y;obtain ⟨J,f3,n3,i3,t3⟩:=gM (c:=c) (q:=q) f.1 f.2 l.1.1 l.2
  have N: ∀ n,BU c q pos pos.length lost (n+1) (.l9 i o1 d i o4 G b a [] M)=BU c q pos pos.length lost n (.l4 (i-1) (bif !a then (bif !b then E else O) else (bif !b then J else o1)) d G):=λn=>by
   show Uv n (BU c q pos pos.length lost n) c q pos pos.length lost i o1 d i o4 G b a [] M=_
   unfold Uv;rw [zEd o,rY]
   grind
  refine At.step 1 N ?_
  have key: ∀ l':Ξ,l'.length=pos.length -> (∀ j,CB (l'.getD j 0)) -> (∀ j s,tb (l'.getD j 0) s=(tb (o1.getD j 0) s||(decide (j=(c.cells.getD i 0).toNat)&&(tb (pos.getD j 0) s&&((!a&&tb c.set s)||(!b&&!tb c.set s)))))) -> Ok c pos lost (m+1) l':=by
   intro l' P Q S;refine l.go I.hi P Q λj s=>?_
   rw [S,zGz,zFW,zFW,zGe,zGz,zFW,zFW,zG0,zG0,zG0];unfold Js;rw [←K,←A,zNK,zNK];constructor
   ·rintro (h | ⟨rfl,h⟩)
    ·exact .inl h
    ·exact .inr ⟨rfl,h⟩
   ·rintro (h | ⟨rfl,h⟩)
    ·exact .inl h
    ·exact .inr ⟨rfl,h⟩
  subst u;cases a <;> cases b <;> simp only [zI8,zIF,zFi,zGK]
  ·grind
  ·grind
  ·grind
  ·exact H o1 G (key o1 l.1.1 l.2 λj s=>by
    grind) w
 | succ z V=>
  intro B G b a M v I;have hi:i<c.cells.length:=by have:=I.hi;omega
  have o:=hR.isSome i (by omega);have D:B≠[]:=by intro e;rw [e] at v;cases v
  refine At.step 1 (g:=λn=>I7 B none (λp=>BU c q pos pos.length lost n (.l7 i 0 o1 d i o4 G b a (p.getD 0 0) (p.getD 1 0) (B.erase p) p))) (λn=>?_) (At.next D (λy hy=>?_) Ih.uniq)
  ·show Uv n (BU c q pos pos.length lost n) c q pos pos.length lost i o1 d i o4 G b a B M=_
   unfold Uv;rw [zEd o];simp only [zEd o];cases B with
   | nil=>exact absurd rfl D
   | cons x r=>rfl
  ·obtain ⟨t,rfl,T⟩:=I.sub y hy;have hS:=T.ok;refine At.step 3 (λn=>?_) (V _ _ _ _ [t.1,t.2] (by rw [List.length_erase_of_mem hy];omega) (I.go F hy))
   grind [zFb,zFa,zFZ]
def zFc {D:KS}:BU c q pos ln lost n (.l6 L o1 t U o4 D)=BU c q pos ln lost n (.l9 L o1 t U o4 [] false false D []):=by cases n <;> rfl
def zFg {x8:Int}:BU c q pos ln lost n (.l3 x8 w o1 t U o4)=BU c q pos ln lost n (.l8 x8 w o1 t U o4 []):=by cases n <;> rfl
def wU (W:B7 c k pos)(R:Je c)(hR:Rows c pos c.cells.length a):
 ∀ (i m:Nat) (L:Int) (o1:Ξ) (o4:KS),i+m=c.cells.length -> L=(i:Int)-1 -> Ok c pos lost m o1 -> T6 c pos m o4 -> At (λn=>BU c q pos pos.length lost n (.l4 L o1 a o4)) (Ih c pos lost):=by
 intro i
 induction i with
 | zero=>
  intro m L o1 o4 v d l F;refine Ev.p (r:=(true,o1)) ⟨1,λn hn=>?_⟩ ⟨rfl,⟨l.1.1,λj s=>?_⟩,l.2⟩
  ·obtain ⟨n,rfl⟩: ∃ e,n=e+1:=⟨n-1,by omega⟩
   simp_all [Yt,BU]
  ·rw [l.1.2]
   grind
 | succ i V=>
  intro m L o1 o4 v d l F;have d:L=(i:Int):=by omega
  subst d;have b:=hR.isSome i (by omega);have Aj:=hR.len;have f:((((c.cells.length:Nat):Int)+1).toNat:Nat)=c.cells.length+1:=by omega
  have o:0+((i:Int).toNat:Nat)=i:=by omega
  refine At.step 1 (g:=λn=>BU c q pos pos.length lost n (.l9 i o1 a i o4 [] false false (Gn a i) [])) (λn=>?_) (zLi W R rfl hR F l (λo1 G u w=>V (m+1) ((i:Int)-1) o1 G (by omega) rfl u w) _ (Gn a i) [] false false [] rfl ⟨by omega,λx d=>(hR.row i (by omega) x).1 d,λx d=>(by cases d),λh=>(by cases h),λh=>(by cases h),λt y=>.inl ((hR.row i (by omega) _).2 ⟨t,rfl,y⟩)⟩)
  show Yt n (BU c q pos pos.length lost n) c q pos pos.length lost (i:Int) o1 a o4=_
  unfold Yt;simp only [f,o];rw [zEI (by omega),zFi,zEd b,zEd ⟨⟨by omega,by omega⟩,by omega,b⟩];exact zFc
def zJf (W:B7 c k pos)(R:Je c)(o:lost.length=pos.length)(D: ∀ j,CB (lost.getD j 0)):
 ∀ (m i:Nat) (w:Int) (b:List (Option KS)),i+m=c.cells.length -> w=(i:Int) -> Rows c pos i b -> At (λn=>BU c q pos pos.length lost n (.l2 w lost b)) (Ih c pos lost):=by
 intro m
 induction m with
 | zero=>
  intro i w b v d hR;have v:i=c.cells.length:=by omega
  subst v d;have M:=W.len;have hr:=R.1;have r1:AG ((c.cells.length:Int)-1):=Ah.2 ⟨by omega,by omega⟩;have r2:AG ((c.runs.length:Int)-1):=Ah.2 ⟨by omega,by omega⟩;have l:Ok c pos lost 0 lost:=⟨⟨o,λj s=>⟨.inl,λh=>h.elim id λ⟨a,h1,_,_,p,_⟩=>absurd p (by omega)⟩⟩,D⟩
  by_cases h0:0<c.runs.length
  ·have e:(((c.runs.length:Nat):Int)-1).toNat=c.runs.length-1:=by omega
   refine At.step 1 (g:=λn=>BU c q pos pos.length lost n (.l4 ((c.cells.length:Int)-1) lost b (Ck [((c.runs.length:Int)-1),c.runs.getD (c.runs.length-1) 0] (Ck [(c.runs.length:Int),0] ([]:KS))))) (λn=>?_) (wU W R hR c.cells.length 0 _ _ _ (by omega) rfl l λx=>?_)
   ·show Ro n (BU c q pos pos.length lost n) c q pos pos.length lost (c.cells.length:Int) lost b=_
    unfold Ro
    grind
   ·rw [Pc,Pc];constructor
    ·rintro (rfl | rfl | h)
     ·exact ⟨((c.runs.length:Int)-1,c.runs.getD (c.runs.length-1) 0),rfl,.inr ⟨h0,rfl⟩⟩
     ·exact ⟨((c.runs.length:Int),0),rfl,.inl rfl⟩
     ·cases h
    ·rintro ⟨t,rfl,rfl | ⟨_,rfl⟩⟩
     ·exact .inr (.inl rfl)
     ·exact .inl rfl
  ·have h0':c.runs.length=0:=by omega
   refine At.step 1 (g:=λn=>BU c q pos pos.length lost n (.l4 ((c.cells.length:Int)-1) lost b (Ck [(c.runs.length:Int),0] ([]:KS)))) (λn=>?_) (wU W R hR c.cells.length 0 _ _ _ (by omega) rfl l λx=>?_)
   ·simp_all [Ro,BU]
   ·rw [Pc];constructor
    ·rintro (rfl | h)
     ·exact ⟨((c.runs.length:Int),0),rfl,.inl rfl⟩
     ·cases h
    ·rintro ⟨t,rfl,rfl | ⟨h,rfl⟩⟩
     ·exact .inl rfl
     ·exact absurd h h0
 | succ m V=>
  intro i w b v d hR;subst d;have hi:i<c.cells.length:=by omega
  have f:=hR.isSome i (by omega);have M:=hR.len;have e:((((c.cells.length:Nat):Int)+1).toNat:Nat)=c.cells.length+1:=by omega
  have r:0+((i:Int).toNat:Nat)=i:=by omega
  refine At.step 1 (g:=λn=>BU c q pos pos.length lost n (.l8 i i lost b i (Gn b i) [])) (λn=>?_) (zEm W R rfl (λb h=>V (i+1) _ b (by omega) (by omega) h) _ _ _ _ rfl (hR.mid hi))
  show Ro n (BU c q pos pos.length lost n) c q pos pos.length lost (i:Int) lost b=_
  unfold Ro;simp only [e,r];rw [zEI (by omega),zFi,zEd f,zEd ⟨⟨by omega,by omega⟩,by omega,f⟩];exact zFg
def zJ3 (W:B7 c k pos)(R:Je c)(l:lost.length=pos.length)(D: ∀ j,CB (lost.getD j 0)):
 ∀ (m j:Nat) (Q:Int) (a:List (Option KS)),j+m=c.cells.length+1 -> Q=(j:Int) -> a.length=c.cells.length+1 -> (∀ i,i<j -> a.getD i none=some []) -> At (λn=>BU c q pos pos.length lost n (.l1 Q a)) (Ih c pos lost):=by
 intro m
 induction m with
 | zero=>
  intro j Q a v d M b;subst d;have f:((((c.cells.length:Nat):Int)+1).toNat:Nat)=c.cells.length+1:=by omega
  have hs:(a.getD 0 none).isSome=true:=by rw [b 0 (by omega)];rfl
  have e0:(a.getD 0 none).getD []= []:=by rw [b 0 (by omega)];rfl
  have hg: ∀ i,i≠0 -> (a.set 0 (some (Ck [0,0] ([]:KS)))).getD i none=a.getD i none:=λi hi=>ud (λe=>hi e.symm)
  have o:(a.set 0 (some (Ck [0,0] ([]:KS)))).getD 0 none=some (Ck [0,0] []):=uc (by omega);refine At.step 1 (g:=λn=>BU c q pos pos.length lost n (.l2 0 lost (a.set 0 (some (Ck [0,0] ([]:KS)))))) (λn=>?_) (zJf W R l D c.cells.length 0 0 _ (by omega) rfl ⟨by rw [zGj];exact M,λi hi=>?_,λi hi x=>?_,λi hi KB=>?_⟩)
  ·simp_all [Yu,BU]
  ·grind
  ·obtain rfl:i=0:=by omega
   show x∈((a.set 0 (some (Ck [0,0] ([]:KS)))).getD 0 none).getD []↔_
   rw [o]
   show x∈Ck [0,0] []↔_
   rw [Pc];constructor
   ·rintro (rfl | h)
    ·exact ⟨(0,0),rfl,rfl⟩
    ·cases h
   ·rintro ⟨t,rfl,h⟩;have h:t=(0,0):=h;subst h;exact .inl rfl
  ·show ((a.set 0 (some (Ck [0,0] ([]:KS)))).getD i none).getD []= []
   grind
 | succ m V=>
  intro j Q a v d M b;subst d;have zIJ:=W.len;have f:((((c.cells.length:Nat):Int)+1).toNat:Nat)=c.cells.length+1:=by omega
  have p:0+((j:Int).toNat:Nat)=j:=by omega
  refine At.step 1 (g:=λn=>BU c q pos pos.length lost n (.l1 ((j:Int)+1) (a.set j (some ([]:KS))))) (λn=>?_) (V (j+1) _ _ (by omega) (by omega) (by rw [zGj];exact M) λi hi=>?_)
  ·show Yu n (BU c q pos pos.length lost n) c q pos pos.length lost (j:Int) a=_
   unfold Yu;simp only [f,p];rw [zEI (by omega),zFi,zEd ⟨⟨by omega,by omega⟩,by omega,Ah.2 ⟨by omega,by omega⟩⟩]
  grind [ud]
def Ks (c:AD):Bool:=(c.cells.length != 0)||(c.runs.length==0)
def zBm (W:B7 c k pos)(R:Je c)(m:lost.length=pos.length)(D: ∀ j,CB (lost.getD j 0)):
 ∃ l,Ev (λn=>Rp n c q pos pos.length lost) (Ks c,l)/\ (Ks c=true -> CL c pos lost c.cells.length (Js c pos) l):=by
 by_cases h0:c.cells.length=0
 ·have w:Ks c=((c.runs.length:Int)==0):=by
   grind [Ks]
  refine ⟨lost,Ev.now λn=>?_,λ_=>by rw [h0];exact CL.zero m⟩
  grind [Rp,fH]
 ·have w:Ks c=true:=by
   grind [Ks]
  have Aj:=W.len;have t:((((c.cells.length:Nat):Int)+1).toNat:Nat)=c.cells.length+1:=by omega
  obtain ⟨r,a,d⟩:=(zJ3 (q:=q) W R m D (c.cells.length+1) 0 0 (List.replicate (c.cells.length+1) none) (by omega) rfl (by simp) (λi hi=>absurd hi (zGa i))).ev Ih.uniq;obtain ⟨b,l⟩:=r;obtain ⟨h,A,h5⟩:=a;have h:b=true:=h;subst h;refine ⟨l,?_,λ_=>A⟩;rw [w];refine d.eq λn=>?_
  unfold Rp fH;rw [t]
  have z:(((c.cells.length:Nat):Int)==0)=false:=by
   rw [zIC];omega
  rw [z,zGK,zEd ⟨Ah.2 ⟨by omega,by omega⟩,rfl,by omega,by omega⟩]
end
abbrev zIX:=@List.countP_eq_length_filter
abbrev zNn:=@List.take_length
section
variable {c:AD} {k:Nat} {pos lost:Ξ} {q:AA}
structure FP (c:AD)(q:AA)(pos:Ξ):Prop where
 len:c.cells.length=pos.length
 id: ∀ j,j<pos.length -> c.cells.getD j 0=(j:Int)
 g:H9 q.nbrs
 gl:q.nbrs.length=pos.length
 l0:0<pos.length
 l1:pos.length<=256
 nz: ∀ j,j<pos.length -> CB (pos.getD j 0)/\ pos.getD j 0≠0
def pB (c:AD)(pos:Ξ):Ω:=pos.map λx=>bits .and .i64 x c.set != 0
def cB (c:AD)(pos:Ξ):Ω:=pos.map λx=>bits .andNot .i64 x c.set==0
theorem GA:(pB c pos).length=pos.length:=zGh _
theorem HD:(cB c pos).length=pos.length:=zGh _
variable {j:Nat}
def Ve (hj:j<pos.length):(pB c pos).getD j false=(bits .and .i64 (pos.getD j 0) c.set != 0):=by
 grind [pB]
def XO (hj:j<pos.length):(cB c pos).getD j false=(bits .andNot .i64 (pos.getD j 0) c.set==0):=by
 grind [cB]
def FP.cp (W:FP c q pos)(e:j<pos.length)(h:(cB c pos).getD j false=true):(pB c pos).getD j false=true:=by
 rw [XO e,zGo] at h;rw [Ve e,zJN];obtain ⟨d,f⟩:=W.nz j e;obtain ⟨s,k,a⟩:=(Eu d).1 f;have b:=(NB (GO .andNot _ _)).1 h s k;rw [Ls,a,zI9,Bool.not_eq_false'] at b;exact (Eu (GO .and _ _)).2 ⟨s,k,by rw [Is,a,b];rfl⟩
def Cw (pos lost:Ξ)(D:Nat -> Ψ)(l:Ξ):Prop:= (l.length=pos.length/\ ∀ j,CB (l.getD j 0))/\ ∀ j s,tb (l.getD j 0) s=true↔tb (lost.getD j 0) s=true∨(j<pos.length/\ tb (pos.getD j 0) s=true/\ D j s)
variable {l l':Ξ}{D:Nat -> Ψ}
theorem Cw.unique (h:Cw pos lost D l)(h':Cw pos lost D l'):l=l':=by
 have e:l.length=l'.length:=h.1.1.trans h'.1.1.symm;refine zJL e λj a b=>?_
 have w:l.getD j 0=l[j]:=by simp [a]
 have z:l'.getD j 0=l'[j]:=by simp [b]
 rw [←w,←z];refine Km (h.1.2 j) (h'.1.2 j) λs _=>?_
 rw [zIt,h.2,h'.2]
def Cw.by (W:FP c q pos)(h:Cw pos lost D l):CL c pos lost c.cells.length D l:=by
 refine ⟨h.1.1,λj s=>?_⟩;have hl:=W.len;rw [h.2];constructor
 ·rintro (b | ⟨b,f,d⟩)
  ·exact .inl b
  ·have e:=W.id j b;exact .inr ⟨j,by omega,by rw [e];omega,by show tb (pos.getD (c.cells.getD j 0).toNat 0) s=true;rw [e,zCl];exact f,d⟩
 ·rintro (b | ⟨a,b,f,d,h4⟩)
  ·exact .inl b
  ·have e:=W.id a (by omega);have d:tb (pos.getD (c.cells.getD a 0).toNat 0) s=true:=d
   grind
variable {D':Nat -> Ψ}
def Cw.step (h:Cw pos lost D l)(m:l'.length=pos.length)(a: ∀ j,CB (l'.getD j 0)){E:Nat -> Ψ}(b: ∀ j s,tb (l'.getD j 0) s=true↔tb (l.getD j 0) s=true∨(j<pos.length/\ tb (pos.getD j 0) s=true/\ E j s)) 
 (hD: ∀ j s,j<pos.length -> tb (pos.getD j 0) s=true -> (D' j s↔D j s∨E j s)):Cw pos lost D' l':=by
 refine ⟨⟨m,a⟩,λj s=>?_⟩;rw [b,h.2]
 grind
def Cw.id' (h:Cw pos lost D l)(c: ∀ j s,j<pos.length -> tb (pos.getD j 0) s=true -> (D' j s↔D j s)):Cw pos lost D' l:=
 h.step (E:=λ_ _=>False) h.1.1 h.1.2 (λj s=>by simp) λj s a b=>by rw [c j s a b,or_false]
variable {cell:Int}
def Cw.lose (h:Cw pos lost D l){ss:Int}(h0:0<=cell)(a:cell<(pos.length:Int))(b: ∀ j s,j<pos.length -> tb (pos.getD j 0) s=true -> (D' j s↔D j s∨((j:Int)=cell/\ tb ss s=true))):
 ∃ l',(∀ n,D7 n cell ss c q pos pos.length l=some l')/\ Cw pos lost D' l':=by
 obtain ⟨l',e,d,f,h4⟩:=sN (ss:=ss) (c:=c) (q:=q) h0 a h.1.1 h.1.2;refine ⟨l',e,h.step d f (E:=λj s=>(j:Int)=cell/\ tb ss s=true) (λj s=>?_) b⟩
 grind
def Cw.only (h:Cw pos lost D l)(h0:0<=cell)(a:cell<(pos.length:Int))(b: ∀ j s,j<pos.length -> tb (pos.getD j 0) s=true -> (D' j s↔D j s∨((j:Int)=cell/\ tb c.set s=false))):
 ∃ l',(∀ n,Hc n cell c q pos pos.length l=some l')/\ Cw pos lost D' l':=by
 obtain ⟨l',e,d,f,h4⟩:=gM (c:=c) (q:=q) h0 a h.1.1 h.1.2;refine ⟨l',e,h.step d f (E:=λj s=>(j:Int)=cell/\ tb c.set s=false) (λj s=>?_) b⟩
 grind
def HI (l:Ω)(r:Int):Prop:=(r= -1/\ ∀ j,j<l.length -> l.getD j false=false)∨(0<=r/\ r<(l.length:Int)/\ l.getD r.toNat false=true/\ ∀ j:Nat,(j:Int)<r -> l.getD j false=false)
def V0 {l:Ω}(hl:l.length<=256): ∃ r,Ev (λn=>ak n l true) r/\ HI l r:=by
 have key: ∀ (k i:Nat),i+k=l.length -> (∀ j,j<i -> l.getD j false=false) -> ∃ r,Ev (λn=>Nt l true n (.l1 (i:Int))) r/\ HI l r:=by
  intro k
  induction k with
  | zero=>
   intro i e h;refine ⟨-1,⟨1,λn u=>?_⟩,.inl ⟨rfl,λj a=>h j (by omega)⟩⟩;obtain ⟨n,rfl⟩: ∃ k,n=k+1:=⟨n-1,by omega⟩
   simp_all [ah,Nt]
  | succ k V=>
   intro i e h
   have U: ∀ n,Nt l true (n+1) (.l1 (i:Int))=bif l.getD i false then some (i:Int) else Nt l true n (.l1 ((i:Int)+1)):=λn=>by
    show ah n (Nt l true n) l true (i:Int)=_
    unfold ah;rw [zEI (by omega),zFi,zEd ⟨by omega,by omega⟩,zCl,zEd (Ah.2 ⟨by omega,by omega⟩)];cases l.getD i false <;> rfl
   cases hi:l.getD i false
   ·obtain ⟨r,b,c⟩:=V (i+1) (by omega) λj a=>by
     grind
    refine ⟨r,Ev.step 1 (λn=>?_) b,c⟩;rw [U,hi,zGK];rfl
   ·refine ⟨(i:Int),⟨1,λn u=>?_⟩,.inr ⟨by omega,by omega,by rw [zCl];exact hi,λj a=>h j (by omega)⟩⟩;obtain ⟨n,rfl⟩: ∃ k,n=k+1:=⟨n-1,by omega⟩
    grind
 exact key l.length 0 (by omega) λj a=>absurd a (zGa j)
def km {l l':Ω}(h:l.length=l'.length)(h2: ∀ j,j<l.length -> l.getD j false=l'.getD j false):l=l':=by
 grind [List.ext_getElem]
def Qn {l:Ω}{i:Nat}{b:Bool}(hi:i<l.length):(l.set i b).getD j false=if j=i then b else l.getD j false:=by
 grind
def Fq (c:AD)(q:AA)(pos:Ξ)(a s:Nat):Prop:=(pB c pos).getD a false=true/\ tb c.set s=true/\ ∃ r:Int,0<=r/\ HI (cB c pos) r/\ ¬ Rc q.nbrs (pB c pos) r a
variable {r:Int}
theorem HI.uniq {l:Ω}{V:Int}(h:HI l r)(h':HI l V):r=V:=by
 rcases h with ⟨rfl,h⟩ | ⟨h0,h1,h2,h3⟩ <;> rcases h' with ⟨rfl,h'⟩ | ⟨h0',S8,h2',h3'⟩
 ·rfl
 ·grind
 ·grind
 grind
def mg (G:H9 q.nbrs)(hB:(pB c pos).length=q.nbrs.length)(p:0<=r)(R:HI (cB c pos) r){s:Nat}:Fq c q pos j s↔(pB c pos).getD j false=true/\ tb c.set s=true/\ ¬ Rc q.nbrs (pB c pos) r j:=by
 constructor
 ·rintro ⟨a,b,r',_,M,h⟩;rw [R.uniq M];exact ⟨a,b,h⟩
 ·rintro ⟨a,b,h⟩;exact ⟨a,b,r,p,R,h⟩
def T3 (c:AD)(q:AA)(pos lost:Ξ)(r:Int)(x:Ω×Ω×Bool×Ξ):Prop:=x.1=pB c pos/\ x.2.1=cB c pos/\ x.2.2.1=decide (0<=r)/\ Cw pos lost (Fq c q pos) x.2.2.2
theorem T3.uniq (x y:Ω×Ω×Bool×Ξ)(h:T3 c q pos lost r x)(h':T3 c q pos lost r y):x=y:=by
 obtain ⟨x1,x2,x3,K⟩:=x;obtain ⟨y1,y2,y3,a⟩:=y;obtain ⟨h1,h2,h3,A⟩:=h;obtain ⟨S8,h2',h3',D⟩:=h';have e4:K=a:=A.unique D
 grind
def zEQ {n:Nat}(W:FP c q pos)(z:Cw pos lost (λ_ _=>False) lost)(p:0<=r)(R:HI (cB c pos) r){near:Ξ}(hn:near.length<=256)(l: ∀ v,v∈near↔Rc q.nbrs (pB c pos) r v)(JO:600<=n):
 ∃ x,FY c q pos pos.length lost n (.l2 (pB c pos) (pB c pos).length near (near.length:Int) 0 (cB c pos) (pB c pos))=some x/\ T3 c q pos lost r x:=by
 have Hi:=W.l1;have m:=W.gl
 have A:r<(q.nbrs.length:Int):=by
  rcases R with ⟨h,_⟩ | ⟨_,h,_⟩
  ·omega
  ·rw [HD] at h;omega
 have B: ∀ v∈near,0<=v/\ v<(pos.length:Int):=λv C=>by
  have:=((l v).1 C).rng W.g.gr p A;omega
 have S:=IV (λn (a:Ω) i=>FY c q pos pos.length lost n (.l2 (pB c pos) (pB c pos).length near (near.length:Int) i (cB c pos) a)) near.length (pos.length+3)
  (λi a=>a.length=pos.length/\ ∀ j:Nat,a.getD j false=true↔(pB c pos).getD j false=true/\ (j:Int)∉near.take i) (λn i a D hi u=>?_) (n:=n) (s:=pB c pos) (by omega) ⟨GA,λj=>by simp⟩
 ·obtain ⟨o,a,Hh,_,E,jp,Q⟩:=S;obtain ⟨f,rfl⟩: ∃ f,o=f+1:=⟨o-1,by omega⟩;rw [zNn] at Q
  have T:=IV (λn (o1:Ξ) i=>FY c q pos pos.length lost n (.l3 (pB c pos) (pB c pos).length ((pB c pos).length:Int) i o1 (cB c pos) a)) pos.length 1
   (λi o1=>Cw pos lost (λj s=>j<i/\ Fq c q pos j s) o1) (λn i o1 D hi u=>?_) (n:=f) (s:=lost) (by omega) (z.id' λj s _ _=>⟨λh=>absurd h.1 (zGa j),λh=>h.elim⟩)
  ·obtain ⟨t,o1,OC,_,F,G⟩:=T;obtain ⟨w,rfl⟩: ∃ w,t=w+1:=⟨t-1,by omega⟩;refine ⟨(pB c pos,cB c pos,true,o1),?_,rfl,rfl,(zEI p).symm,G.id' λj s k _=>⟨λh=>⟨k,h⟩,λh=>h.2⟩⟩;refine Eq.trans E ?_
   show Vj f (FY c q pos pos.length lost f) c q pos pos.length lost (pB c pos) (pB c pos).length near (near.length:Int) (near.length:Int) (cB c pos) a=_
   unfold Vj;rw [zEl (by omega),zGK];refine Eq.trans F ?_
   simp_all [Z3,FY,cB,GA]
  ·show ∃ H,Z3 n (FY c q pos pos.length lost n) c q pos pos.length lost (pB c pos) (pB c pos).length ((pB c pos).length:Int) (i:Int) o1 (cB c pos) a=_/\ _
   unfold Z3;simp only [zCl,zG4];have I:AG ((i:Int)+1):=Ah.2 ⟨by omega,by omega⟩;rw [GA,zEI (by omega),zFi,zEd ⟨⟨by omega,by omega⟩,by omega⟩];have J:a.getD i false=true↔(pB c pos).getD i false=true/\ ¬ Rc q.nbrs (pB c pos) r i:=by rw [Q,l]
   cases M:a.getD i false
   ·rw [zGK,zEd I];refine ⟨o1,rfl,u.id' λj s k _=>⟨λh=>⟨?_,h.2⟩,λh=>⟨by omega,h.2⟩⟩⟩;rcases zGg.1 h.1 with d | rfl
    ·exact d
    ·have b:=(mg W.g (by rw [GA];exact m.symm) p R).1 h.2
     grind
   ·obtain ⟨l',e,b⟩:=u.lose (c:=c) (q:=q) (D':=λj s=>j<i+1/\ Fq c q pos j s) (cell:=(i:Int)) (ss:=c.set) (by omega) (by omega) λj s k _=>by
     constructor
     ·rintro ⟨d,b⟩;rcases zGg.1 d with d | rfl
      ·exact .inl ⟨d,b⟩
      ·exact .inr ⟨rfl,b.2.1⟩
     ·rintro (⟨d,b⟩ | ⟨d,b⟩)
      ·exact ⟨by omega,b⟩
      ·obtain rfl:j=i:=by omega
       have y:=J.1 M;exact ⟨by omega,(mg W.g (by rw [GA];exact m.symm) p R).2 ⟨y.1,b,y.2⟩⟩
    grind
 ·obtain ⟨K,M⟩:=u;have L:near.getD i 0∈near:=by grind
  have N:=B _ L
  show ∃ H,Vj n (FY c q pos pos.length lost n) c q pos pos.length lost (pB c pos) (pB c pos).length near (near.length:Int) (i:Int) (cB c pos) a=_/\ _
  unfold Vj;simp only [zCl,zG4];rw [GA,zEI (by omega),zFi,zEd ⟨⟨by omega,by omega⟩,N,by omega,Ah.2 ⟨by omega,by omega⟩⟩];refine ⟨_,rfl,by rw [zGj];exact K,λj=>?_⟩
  have O:near.take (i+1)=near.take i++[near.getD i 0]:=by
   simp_all
  rw [Qn (by omega),O,zIQ,zGu]
  grind
def rh (W:FP c q pos)(o:Cw pos lost (λ_ _=>False) lost)(R:HI (cB c pos) r):
 ∃ l,Ev (λn=>PX n c q pos pos.length lost) (pB c pos,cB c pos,decide (0<=r),l)/\ Cw pos lost (Fq c q pos) l:=by
 have y:=W.l1;have B:=W.gl;have Aj:=W.len;have L:(1000000000000:Nat)=Ay:=rfl
 suffices H:At (λn=>PX n c q pos pos.length lost) (T3 c q pos lost r) by
  obtain ⟨x,a,d⟩:=H.ev T3.uniq;obtain ⟨x1,x2,x3,x4⟩:=x;obtain ⟨f,A,h5,h6⟩:=a
  grind
 have first: ∀ n,FY c q pos pos.length lost (n+c.cells.length) (.l1 0 (List.replicate pos.length false) (List.replicate pos.length false))=FY c q pos pos.length lost n (.l1 (c.cells.length:Int) (pB c pos) (cB c pos)):=λn=>by
  have z: ∀ j:Nat,(List.replicate pos.length false).getD j false=false:=λj=>by
   grind
  obtain ⟨u,e,a,d,f,A⟩:=aD (λn (s:Ω×Ω) i=>FY c q pos pos.length lost n (.l1 i s.1 s.2)) c.cells.length 0
   (λi s=>s.1.length=pos.length/\ s.2.length=pos.length/\ (∀ j,s.1.getD j false=if j<i then (pB c pos).getD j false else false)/\ (∀ j,s.2.getD j false=if j<i then (cB c pos).getD j false else false))
   (λn i s _ hi C=>by
    obtain ⟨F,t⟩:=s;obtain ⟨a,d,f,A⟩:=C;have a:F.length=pos.length:=a;have d:t.length=pos.length:=d;have hid:=W.id i (by omega)
    show ∃ u,Z4 n (FY c q pos pos.length lost n) c q pos pos.length lost (i:Int) F t=_/\ _
    unfold Z4;simp only [zCl,zG4,hid];rw [zEI (by omega),zFi,zEd ⟨⟨by omega,by omega⟩,⟨by omega,by omega⟩,by omega,by omega,Ah.2 ⟨by omega,by omega⟩⟩];refine ⟨(_,_),rfl,by rw [zGj];exact a,by rw [zGj];exact d,λj=>?_,λj=>?_⟩
    ·show (F.set i _).getD j false=_
     rw [Qn (by omega)]
     by_cases e:j=i
     ·subst e;rw [zEd rfl,zEd (by omega),Ve (by omega)]
     grind
    ·show (t.set i _).getD j false=_
     rw [Qn (by omega)]
     by_cases e:j=i
     ·subst e;rw [zEd rfl,zEd (by omega),XO (by omega)]
     grind)
   c.cells.length 0 n (List.replicate pos.length false,List.replicate pos.length false) (by omega) (by omega) ⟨zIA,zIA,λj=>by rw [zGW (by omega)];exact z j,λj=>by rw [zGW (by omega)];exact z j⟩
  obtain ⟨F,t⟩:=u;have a:F.length=pos.length:=a;have d:t.length=pos.length:=d
  have D:F=pB c pos:=km (by rw [a,GA]) λj I=>by
   grind
  have Q:t=cB c pos:=km (by rw [d,HD]) λj I=>by
   grind
  rw [←D,←Q];exact e
 have start: ∀ n,PX n c q pos pos.length lost=FY c q pos pos.length lost n (.l1 0 (List.replicate pos.length false) (List.replicate pos.length false)):=λn=>by
  unfold PX rj
  grind
 refine At.eq (At.step (c.cells.length+1) (g:=λn=>(ak n (cB c pos) true).bind λv=>bif (decide (v<0)) then (if pos.length=(pB c pos).length then some (pB c pos,cB c pos,false,lost) else none) else (if pos.length=(pB c pos).length then (Qi n (pB c pos)).bind λG=>(Te n q.nbrs (pB c pos) v).bind λy3=>FY c q pos pos.length lost n (.l2 (pB c pos) G.length y3.1 (y3.1.length:Int) 0 (cB c pos) G) else none)) (λn=>?_) ?_) start
 ·rw [show n+(c.cells.length+1)=n+1+c.cells.length by omega,first]
  simp_all [Z4,FY,cB]
 ·obtain ⟨V,a,d⟩:=V0 (l:=cB c pos) (by rw [HD];exact y);obtain rfl:=R.uniq d;refine At.bind a ?_
  by_cases k:0<=r
  ·have J: ∀ n,Qi n (pB c pos)=some (pB c pos):=λn=>by
    have h0:=W.l0;have f:=GA (c:=c) (pos:=pos);unfold Qi lL
    grind
   obtain ⟨WB,E⟩:r<(pos.length:Int)/\ (cB c pos).getD r.toNat false=true:=by
    rcases R with ⟨h,_⟩ | ⟨_,h,h',_⟩
    ·omega
    ·rw [HD] at h;exact ⟨h,h'⟩
   have m:=W.cp (by omega) E;refine At.eq (At.bindU (zLF W.g (by rw [GA];exact B.symm) k (by omega) m) (b:=λn y3=>FY c q pos pos.length lost n (.l2 (pB c pos) (pB c pos).length y3.1 (y3.1.length:Int) 0 (cB c pos) (pB c pos))) ⟨600,λn K x w=>zEQ W o k R w.2.1 w.2.2 K⟩) λn=>?_
   rw [zEl (by omega),zGK,zEd GA.symm,J,zEf]
  ·refine Ev.p (r:=(pB c pos,cB c pos,false,lost)) (Ev.now λn=>?_) ⟨rfl,rfl,(zEl k).symm,o.id' λj s _ _=>⟨λh=>?_,λh=>h.elim⟩⟩
   ·rw [zEI (by omega),zFi,zEd GA.symm]
   ·obtain ⟨_,_,V,f,A,_⟩:=h;rw [R.uniq A] at k;exact k f
def Id (c:AD)(q:AA)(pos:Ξ)(a s:Nat):Prop:=Fq c q pos a s∨((pB c pos).getD a false=true/\ (cB c pos).getD a false=false/\ Sp q.nbrs (pB c pos) (cB c pos) (a:Int)/\ tb c.set s=false)
theorem zK3 (W:FP c q pos)(L:Cw pos lost (λ_ _=>False) lost): ∃ l,Ev (λn=>cW n c q pos pos.length lost) (true,l)/\ Cw pos lost (Id c q pos) l:=by
 have M:=W.l1;have G:=W.gl;obtain ⟨r,_,R⟩:=V0 (l:=cB c pos) (by rw [HD];exact M);obtain ⟨l0,O,P⟩:=rh W L R
 suffices H:At (λn=>OY c q pos pos.length lost n (.l1 (pB c pos) (cB c pos) (decide (0<=r)) ((pB c pos).length:Int) 0 l0)) (λx=>x.1=true/\ Cw pos lost (Id c q pos) x.2) by
  obtain ⟨x,⟨d,m⟩,z⟩:=(At.bind O (b:=λn k=>OY c q pos pos.length lost n (.l1 k.1 k.2.1 k.2.2.1 (k.1.length:Int) 0 k.2.2.2)) H).ev λx y f hy=>by
   obtain ⟨B,J⟩:=x;obtain ⟨k,Q⟩:=y;have w:B=true:=f.1;have C:k=true:=hy.1;have S:J=Q:=f.2.unique hy.2;rw [w,C,S]
  obtain ⟨B,J⟩:=x;have d:B=true:=d;subst d;exact ⟨J,z,m⟩
 obtain ⟨N,U⟩:=At.range (F:=λ(i:Nat) n=>if (pB c pos).getD i false=true then O4 n q.nbrs (pB c pos) (cB c pos) i else some (false,0)) (A:=λi x=>(pB c pos).getD i false=true -> x.2=0/\ (x.1=true↔Sp q.nbrs (pB c pos) (cB c pos) i)) pos.length λi hi=>by
  by_cases h:(pB c pos).getD i false=true
  ·refine ((zJ W.g (by rw [GA];exact G.symm) (by rw [HD];exact G.symm) (a:=i) (by omega) h).mono λx f _=>f).eq λn=>?_
   rw [zEd h]
  ·exact Ev.p (r:=(false,0)) (Ev.now λn=>by rw [zGW h]) λh'=>absurd h' h
 refine ⟨N+pos.length+1,λn hn=>?_⟩
 have T:=IV (λn (o1:Ξ) i=>OY c q pos pos.length lost n (.l1 (pB c pos) (cB c pos) (decide (0<=r)) ((pB c pos).length:Int) i o1)) pos.length (N+1)
  (λi o1=>Cw pos lost (λa s=>Fq c q pos a s∨(a<i/\ Id c q pos a s)) o1) (λn i o1 GH hi I=>?_) (n:=n) (s:=l0) (by omega) (P.id' λj s _ _=>⟨λh=>h.elim id λh=>absurd h.1 (zGa j),.inl⟩)
 ·obtain ⟨K,o1,OC,_,C,V⟩:=T;obtain ⟨o,rfl⟩: ∃ o,K=o+1:=⟨K-1,by omega⟩;refine ⟨(true,o1),Eq.trans C ?_,rfl,V.id' λj s D _=>⟨λh=>.inr ⟨D,h⟩,λh=>h.elim .inl λh=>h.2⟩⟩
  show XI o (OY c q pos pos.length lost o) c q pos pos.length lost (pB c pos) (cB c pos) (decide (0<=r)) ((pB c pos).length:Int) (pos.length:Int) o1=_
  simp_all [XI,GA]
 ·show ∃ s',XI n (OY c q pos pos.length lost n) c q pos pos.length lost (pB c pos) (cB c pos) (decide (0<=r)) ((pB c pos).length:Int) (i:Int) o1=_/\ _
  unfold XI;simp only [zCl];have X:AG ((i:Int)+1):=Ah.2 ⟨by omega,by omega⟩;have Y:(pB c pos).length=pos.length:=GA;have Z:(cB c pos).length=pos.length:=HD;rw [Y,Z,zEI (p:=(i:Int)<((pos.length:Nat):Int)) (by omega),zFi]
  have skip:(∀ s,¬ ((pB c pos).getD i false=true/\ (cB c pos).getD i false=false/\ Sp q.nbrs (pB c pos) (cB c pos) (i:Int)/\ tb c.set s=false)) -> Cw pos lost (λa s=>Fq c q pos a s∨(a<i+1/\ Id c q pos a s)) o1:=λN9=>I.id' λj s D _=>by
   constructor
   ·rintro (h | ⟨h,d⟩)
    ·exact .inl h
    ·rcases zGg.1 h with h | rfl
     ·exact .inr ⟨h,d⟩
     ·exact d.elim .inl λm=>absurd m (N9 s)
   grind
  by_cases E:0<=r
  ·rw [zEI E,zIF,zGK,zEd ⟨by omega,by omega⟩];cases t:(pB c pos).getD i false
   ·grind
   ·rw [zIF,zGK,zEd ⟨by omega,by omega⟩];cases hc:(cB c pos).getD i false
    ·obtain ⟨x,w,f⟩:=U n (by omega) i hi;have w:(if (pB c pos).getD i false=true then O4 n q.nbrs (pB c pos) (cB c pos) i else some (false,0))=some x:=w;rw [zEd t] at w;obtain ⟨_,f⟩:=f t;rw [zGK,w,zEf];cases hb:x.1
     ·grind
     ·obtain ⟨l',e,d⟩:=I.only (c:=c) (q:=q) (D':=λa s=>Fq c q pos a s∨(a<i+1/\ Id c q pos a s)) (cell:=(i:Int)) (by omega) (by omega) λj s D _=>by
       constructor
       ·rintro (h | ⟨h,d⟩)
        ·exact .inl (.inl h)
        ·rcases zGg.1 h with h | rfl
         ·exact .inl (.inr ⟨h,d⟩)
         ·exact d.elim (λh=>.inl (.inl h)) λm=>.inr ⟨rfl,m.2.2.2⟩
       ·rintro ((h | ⟨h,d⟩) | ⟨h,d⟩)
        ·exact .inl h
        ·exact .inr ⟨by omega,d⟩
        ·obtain rfl:j=i:=by omega
         exact .inr ⟨by omega,.inr ⟨t,hc,f.1 hb,d⟩⟩
      grind
    grind
  ·rw [zEl E,zI8,zFi,zEd X];refine ⟨o1,rfl,skip λs h=>?_⟩;obtain ⟨t,_,⟨u,v,_,_,d,_,m,_⟩,_⟩:=h;rcases R with ⟨_,R⟩ | ⟨z,_⟩
   ·grind
   ·exact E z
def Cc (g:List Ξ)(S:Ω)(v:Int):Nat:=(nb g v).countP λx=>S.getD x.toNat false
def Pi (c:AD)(q:AA)(pos:Ξ):Prop:=∀ v,v<pos.length -> (cB c pos).getD v false=true -> 2<=Cc q.nbrs (pB c pos) v/\ Cc q.nbrs (cB c pos) v<=2
def gb (c:AD)(q:AA)(pos:Ξ)(v a s:Nat):Prop:=(cB c pos).getD v false=true/\ (a:Int)∈nb q.nbrs v/\ (pB c pos).getD a false=true/\ ((Cc q.nbrs (pB c pos) v=2/\ tb c.set s=false)∨(Cc q.nbrs (cB c pos) v=2/\ (cB c pos).getD a false=false/\ tb c.set s=true))
def No (c:AD)(q:AA)(pos:Ξ)(a s:Nat):Prop:=Fq c q pos a s∨∃ v,v<pos.length/\ gb c q pos v a s
section
variable {P C:Ω} {o1:Ξ} {row:Ξ} {x20 x21:Int}
def LD (P:Ω)(F:Ξ)(v:Int):Ξ:=bif P.getD v.toNat false then F++[v] else F
def MH (C:Ω)(x:Int)(v:Int):Int:=bif C.getD v.toNat false then x+1 else x
def rb: ∀ (l F:Ξ),l.foldl (LD P) F=F++l.filter λx=>P.getD x.toNat false
 | [],F=>by simp
 | v::l,F=>by
  rw [zI2,rb l];unfold LD
  grind
def r9: ∀ (l:Ξ) (x:Int),l.foldl (MH C) x=x+(l.countP λx=>C.getD x.toNat false:Nat)
 | [],x=>by simp
 | v::l,x=>by
  rw [zI2,r9 l];unfold MH
  grind
def O3 (P C:Ω)(x20 x21:Int)(row o1 F:Ξ)(x8 j:Int):Nn:=match F with
 | []=>.l2 P C x8 x20 x21 row (row.length:Int) j o1
 | a::l=>.l3 P C (a::l).length x8 x20 x21 row (row.length:Int) j o1 (a::l)
variable {x8:Int}{F:Ξ}
def oL {j:Int}(h:F≠[]):O3 P C x20 x21 row o1 F x8 j= .l3 P C F.length x8 x20 x21 row (row.length:Int) j o1 F:=by
 cases F with
 | nil=>exact absurd rfl h
 | cons a l=>rfl
variable {n:Nat}
def zEe {j:Nat}(hP:P.length=pos.length)(hC:C.length=pos.length)(i: ∀ u∈row,0<=u/\ u<(pos.length:Int))(hl:row.length<=256)(hj:j<row.length)(ho:F.length<=256)(h8:0<=x8/\ x8<=256):
 C5 c q pos pos.length lost (n+1) (O3 P C x20 x21 row o1 F x8 j)=C5 c q pos pos.length lost n (O3 P C x20 x21 row o1 (LD P F (row.getD j 0)) (MH C x8 (row.getD j 0)) ((j:Int)+1)):=by
 have L:(1000000000000:Nat)=Ay:=rfl;have d:row.getD j 0∈row:=by grind
 have J6:=i _ d;have b:AG ((j:Int)+1):=Ah.2 ⟨by omega,by omega⟩;have R:AG (x8+1):=Ah.2 ⟨by omega,by omega⟩;cases F with
 | nil=>
  show Vt n (C5 c q pos pos.length lost n) c q pos pos.length lost P C x8 x20 x21 row (row.length:Int) (j:Int) o1=_
  unfold Vt LD MH;simp only [zCl];rw [zEI (by omega),zFi,zEd ⟨⟨by omega,by omega⟩,by omega,by omega⟩];cases hp:P.getD (row.getD j 0).toNat false <;> cases hc:C.getD (row.getD j 0).toNat false
  ·rw [zGK,zGK,zGK,zEd ⟨by omega,by omega⟩,zGK,zEd b];rfl
  ·rw [zGK,zGK,zFi,zEd ⟨by omega,by omega⟩,zFi,zEd ⟨R,b⟩];rfl
  ·rw [zFi,zFi,zGK,zEd ⟨⟨⟨trivial,rfl⟩,by rw [zJA];omega,by grind⟩,by omega,by omega⟩,zGK,zEd b];rfl
  ·rw [zFi,zFi,zFi,zEd ⟨⟨⟨trivial,rfl⟩,by rw [zJA];omega,by grind⟩,by omega,by omega⟩,zFi,zEd ⟨R,b⟩];rfl
 | cons a l=>
  have D:LD P (a::l) (row.getD j 0)≠[]:=by grind [LD]
  rw [oL D]
  show Ph n (C5 c q pos pos.length lost n) c q pos pos.length lost P C (a::l).length x8 x20 x21 row (row.length:Int) (j:Int) o1 (a::l)=_
  unfold Ph LD MH
  grind
def rt (G:P.length=pos.length)(U:C.length=pos.length)(i: ∀ u∈row,0<=u/\ u<(pos.length:Int))(m:row.length<=256): ∀ (k j n:Nat) (F:Ξ) (x8:Int),j+k=row.length -> F.length<=j -> 0<=x8/\ x8<=(j:Int) ->
 C5 c q pos pos.length lost (n+k) (O3 P C x20 x21 row o1 F x8 j)=C5 c q pos pos.length lost n (O3 P C x20 x21 row o1 ((row.drop j).foldl (LD P) F) ((row.drop j).foldl (MH C) x8) (row.length:Int))
 | 0,j,n,F,x8,e,_,_=>by
  grind
 | k+1,j,n,F,x8,e,h2,h8=>by
  have a:j<row.length:=by omega
  have z:row.drop j=row.getD j 0::row.drop (j+1):=by
   simp_all
  rw [←zMo,zEe G U i m a (by omega) (by omega),z,zI2,zI2]
  have h:(LD P F (row.getD j 0)).length<=j+1:=by
   unfold LD
   grind
  have A:0<=MH C x8 (row.getD j 0)/\ MH C x8 (row.getD j 0)<=((j+1:Nat):Int):=by
   unfold MH
   grind
  exact rt G U i m k (j+1) n _ _ (by omega) h A
def wh {D:Nat -> Ψ}{near:Ξ}{v:Nat}(W:FP c q pos)(d:Cw pos lost D o1)(w: ∀ u∈near,0<=u/\ u<(pos.length:Int))(OB:near.length<=256)(hv:v<pos.length):
 ∃ l',C5 c q pos pos.length lost (n+1+near.length) (.l4 (pB c pos) (cB c pos) near.length x8 x20 (v:Int) near.length (near.length:Int) 0 o1 near)=C5 c q pos pos.length lost n (.l1 (pB c pos) (cB c pos) x20 ((v:Int)+1) l')/\
  Cw pos lost (λa s=>D a s∨((a:Int)∈near/\ ((near.length=2/\ tb c.set s=false)∨(x8=2/\ (cB c pos).getD a false=false/\ tb c.set s=true)))) l':=by
 have Hi:=W.l1;have lc:(cB c pos).length=pos.length:=HD
 obtain ⟨l',e,h⟩:=aD (λn (s:Ξ) i=>C5 c q pos pos.length lost n (.l4 (pB c pos) (cB c pos) near.length x8 x20 (v:Int) near.length (near.length:Int) i s near)) near.length 0
  (λi s=>Cw pos lost (λa t=>D a t∨((a:Int)∈near.take i/\ ((near.length=2/\ tb c.set t=false)∨(x8=2/\ (cB c pos).getD a false=false/\ tb c.set t=true)))) s)
  (λn i s _ hi b=>by
   have f:near.getD i 0∈near:=by grind
   have r:=w _ f
   have e3:near.take (i+1)=near.take i++[near.getD i 0]:=by
    simp_all
   have l:AG ((i:Int)+1):=Ah.2 ⟨by omega,by omega⟩;have mem: ∀ a:Nat,(a:Int)∈near.take (i+1)↔(a:Int)∈near.take i∨(a:Int)=near.getD i 0:=λa=>by grind
   obtain ⟨F,g,H⟩:=b.only (c:=c) (q:=q) (cell:=near.getD i 0) r.1 r.2 (D':=λa t=>(D a t∨((a:Int)∈near.take i/\ ((near.length=2/\ tb c.set t=false)∨(x8=2/\ (cB c pos).getD a false=false/\ tb c.set t=true))))∨((a:Int)=near.getD i 0/\ tb c.set t=false)) λj s _ _=>Iff.rfl
   obtain ⟨k,K,I⟩:=H.lose (c:=c) (q:=q) (cell:=near.getD i 0) (ss:=c.set) r.1 r.2 (D':=λa t=>((D a t∨((a:Int)∈near.take i/\ ((near.length=2/\ tb c.set t=false)∨(x8=2/\ (cB c pos).getD a false=false/\ tb c.set t=true))))∨((a:Int)=near.getD i 0/\ tb c.set t=false))∨((a:Int)=near.getD i 0/\ tb c.set t=true)) λj s _ _=>Iff.rfl
   obtain ⟨J,m,x⟩:=b.lose (c:=c) (q:=q) (cell:=near.getD i 0) (ss:=c.set) r.1 r.2 (D':=λa t=>(D a t∨((a:Int)∈near.take i/\ ((near.length=2/\ tb c.set t=false)∨(x8=2/\ (cB c pos).getD a false=false/\ tb c.set t=true))))∨((a:Int)=near.getD i 0/\ tb c.set t=true)) λj s _ _=>Iff.rfl
   show ∃ s',Vs n (C5 c q pos pos.length lost n) c q pos pos.length lost (pB c pos) (cB c pos) near.length x8 x20 (v:Int) near.length (near.length:Int) (i:Int) s near=_/\ _
   unfold Vs;simp only [zCl,zG4];rw [zEI (by omega),zFi,zEd ⟨⟨by omega,by omega⟩,hi⟩];have Ag: ∀ a:Nat,(a:Int)=near.getD i 0 -> (near.getD i 0).toNat=a:=λa h=>by omega
   by_cases o:near.length=2
   ·have z:(((near.length:Nat):Int)==2)=true:=by rw [o];rfl
    rw [z,zFi,g,zEf]
    by_cases U:x8=2
    ·have L:(x8==2)=true:=by rw [U];rfl
     rw [L,zFi,zEd ⟨by omega,by omega⟩];cases p:(cB c pos).getD (near.getD i 0).toNat false
     ·rw [zI8,zFi,K,zEf,zEd l];refine ⟨k,rfl,I.id' λa t _ _=>?_⟩
      grind
     ·rw [zIF,zGK,zEd l];refine ⟨F,rfl,H.id' λa t _ _=>?_⟩
      grind
    ·have L:(x8==2)=false:=zIC.2 U;rw [L,zGK,zEd l];refine ⟨F,rfl,H.id' λa t _ _=>?_⟩
     grind
   ·have z:(((near.length:Nat):Int)==2)=false:=zIC.2 (by omega);rw [z,zGK]
    by_cases U:x8=2
    ·have L:(x8==2)=true:=by rw [U];rfl
     rw [L,zFi,zEd ⟨by omega,by omega⟩];cases p:(cB c pos).getD (near.getD i 0).toNat false
     ·rw [zI8,zFi,m,zEf,zEd l];refine ⟨J,rfl,x.id' λa t _ _=>?_⟩
      grind
     ·rw [zIF,zGK,zEd l];refine ⟨s,rfl,b.id' λa t _ _=>?_⟩
      grind
    ·have L:(x8==2)=false:=zIC.2 U;rw [L,zGK,zEd l];refine ⟨s,rfl,b.id' λa t _ _=>?_⟩
     grind)
  near.length 0 (n+1) o1 (by omega) (by omega) (d.id' λa t _ _=>by simp)
 refine ⟨l',Eq.trans e ?_,h.id' λa t _ _=>by rw [zNn]⟩
 show Vs n (C5 c q pos pos.length lost n) c q pos pos.length lost (pB c pos) (cB c pos) near.length x8 x20 (v:Int) near.length (near.length:Int) (near.length:Int) l' near=_
 unfold Vs;rw [zEl (by omega),zGK,zEd (Ah.2 ⟨by omega,by omega⟩)]
end
def xS (c:AD)(q:AA)(pos lost:Ξ)(x:Bool×Ξ):Prop:=(x.1=true↔Pi c q pos)/\ (x.1=true -> Cw pos lost (No c q pos) x.2)
def zE8 (W:FP c q pos): ∀ (k v:Nat) (o1:Ξ),v+k=pos.length -> (∀ u,u<v -> (cB c pos).getD u false=true -> 2<=Cc q.nbrs (pB c pos) u/\ Cc q.nbrs (cB c pos) u<=2) -> Cw pos lost (λa s=>Fq c q pos a s∨∃ u,u<v/\ gb c q pos u a s) o1 ->
 At (λn=>C5 c q pos pos.length lost n (.l1 (pB c pos) (cB c pos) (pos.length:Int) (v:Int) o1)) (xS c q pos lost):=by
 have Hi:=W.l1;have KD:=W.gl;have G:(pB c pos).length=pos.length:=GA;have D:(cB c pos).length=pos.length:=HD;intro k
 induction k with
 | zero=>
  intro v o1 e o f;have e:v=pos.length:=by omega
  subst e;refine Ev.p (r:=(true,o1)) ⟨1,λn F=>?_⟩ ⟨⟨λ_ v i d=>o v i d,λ_=>rfl⟩,λ_=>f⟩;obtain ⟨n,rfl⟩: ∃ k,n=k+1:=⟨n-1,by omega⟩
  simp_all [aB,C5]
 | succ k V=>
  intro v o1 e o f;have i:v<pos.length:=by omega
  have H:AG ((v:Int)+1):=Ah.2 ⟨by omega,by omega⟩
  have U: ∀ n,C5 c q pos pos.length lost (n+1) (.l1 (pB c pos) (cB c pos) (pos.length:Int) (v:Int) o1)=bif (cB c pos).getD v false then C5 c q pos pos.length lost n (O3 (pB c pos) (cB c pos) (pos.length:Int) (v:Int) (nb q.nbrs v) o1 [] 0 0) else C5 c q pos pos.length lost n (.l1 (pB c pos) (cB c pos) (pos.length:Int) ((v:Int)+1) o1):=λn=>by
   show aB n (C5 c q pos pos.length lost n) c q pos pos.length lost (pB c pos) (cB c pos) (pos.length:Int) (v:Int) o1=_
   unfold aB;rw [zEI (by omega),zFi,zEd ⟨by omega,by omega⟩,zCl,zEd H,zEd ⟨by omega,by omega⟩];cases (cB c pos).getD v false <;> rfl
  cases d:(cB c pos).getD v false
  ·refine At.step 1 (λn=>?_) (V (v+1) o1 (by omega) (λu b K=>?_) (f.id' λa s _ _=>?_))
   ·rw [U,d,zGK];rfl
   ·grind
   ·constructor
    ·rintro (h | ⟨u,b,h⟩)
     ·exact .inl h
     ·rcases zGg.1 b with b | rfl
      ·exact .inr ⟨u,b,h⟩
      ·rw [h.1] at d;cases d
    ·rintro (h | ⟨u,b,h⟩)
     ·exact .inl h
     ·exact .inr ⟨u,by omega,h⟩
  ·have I:=W.g.gr.row (v:Int) (by omega) (by omega)
   have t: ∀ u∈nb q.nbrs (v:Int),0<=u/\ u<(pos.length:Int):=λu b=>by
    have:=W.g.gr.rng (v:Int) (by omega) (by omega) u b;omega
   have A:=λn=>rt (c:=c) (q:=q) (lost:=lost) (o1:=o1) (x20:=(pos.length:Int)) (x21:=(v:Int)) G D t I (nb q.nbrs v).length 0 n [] 0 (by omega) (by simp) ⟨zGv _,by omega⟩
   rw [zJb,rb,r9,zIs,Int.zero_add] at A;have O:Cc q.nbrs (pB c pos) v=((nb q.nbrs v).filter λx=>(pB c pos).getD x.toNat false).length:=zIX;have L:Cc q.nbrs (cB c pos) v=(nb q.nbrs v).countP λx=>(cB c pos).getD x.toNat false:=rfl
   rw [←L] at A
   generalize J:((nb q.nbrs v).filter λx=>(pB c pos).getD x.toNat false)=near at A O
   have E: ∀ u,u∈near↔u∈nb q.nbrs v/\ (pB c pos).getD u.toNat false=true:=λu=>by rw [←J,zJJ]
   have w:near.length<=256:=by
    grind
   have y: ∀ u∈near,0<=u/\ u<(pos.length:Int):=λu b=>t u ((E u).1 b).1
   have N: ∀ n,C5 c q pos pos.length lost (n+((nb q.nbrs v).length+1)) (.l1 (pB c pos) (cB c pos) (pos.length:Int) (v:Int) o1)=C5 c q pos pos.length lost n (O3 (pB c pos) (cB c pos) (pos.length:Int) (v:Int) (nb q.nbrs v) o1 near (Cc q.nbrs (cB c pos) v:Int) ((nb q.nbrs v).length:Int)):=λn=>by
    grind
   refine At.step _ N ?_
   by_cases hbad:Cc q.nbrs (pB c pos) v<2∨2<Cc q.nbrs (cB c pos) v
   ·have P: ¬ Pi c q pos:=λh=>by have:=h v i d;omega
    refine Ev.p (r:=(false,o1)) ⟨1,λn F=>?_⟩ ⟨⟨λh=>(by cases h),λh=>absurd h P⟩,λh=>(by cases h)⟩;obtain ⟨n,rfl⟩: ∃ k,n=k+1:=⟨n-1,by omega⟩;cases near with
    | nil=>
     show Vt n (C5 c q pos pos.length lost n) c q pos pos.length lost (pB c pos) (cB c pos) (Cc q.nbrs (cB c pos) v:Int) (pos.length:Int) (v:Int) (nb q.nbrs v) ((nb q.nbrs v).length:Int) ((nb q.nbrs v).length:Int) o1=_
     simp_all [Vt]
    | cons a l=>
     show Ph n (C5 c q pos pos.length lost n) c q pos pos.length lost (pB c pos) (cB c pos) (a::l).length (Cc q.nbrs (cB c pos) v:Int) (pos.length:Int) (v:Int) (nb q.nbrs v) ((nb q.nbrs v).length:Int) ((nb q.nbrs v).length:Int) o1 (a::l)=_
     unfold Ph
     grind
   ·have Q:near≠[]:=by
     grind
    obtain ⟨l',e4,z⟩:=wh (c:=c) (q:=q) (lost:=lost) (o1:=o1) (near:=near) (x20:=(pos.length:Int)) (x8:=(Cc q.nbrs (cB c pos) v:Int)) (n:=0) W f y w i;have R: ∀ n,∃ l',C5 c q pos pos.length lost (n+1+near.length) (.l4 (pB c pos) (cB c pos) near.length (Cc q.nbrs (cB c pos) v:Int) (pos.length:Int) (v:Int) near.length (near.length:Int) 0 o1 near)=C5 c q pos pos.length lost n (.l1 (pB c pos) (cB c pos) (pos.length:Int) ((v:Int)+1) l')/\ _:=λn=>wh (c:=c) (q:=q) (lost:=lost) (o1:=o1) (near:=near) (x20:=(pos.length:Int)) (x8:=(Cc q.nbrs (cB c pos) v:Int)) (n:=n) W f y w i
    have S:=V (v+1) l' (by omega) (λu b K=>by
     grind) (z.id' λa s _ _=>by
     constructor
     ·rintro (h | ⟨u,b,h⟩)
      ·exact .inl (.inl h)
      ·rcases zGg.1 b with b | rfl
       ·exact .inl (.inr ⟨u,b,h⟩)
       ·obtain ⟨B,C,j,m⟩:=h;refine .inr ⟨(E _).2 ⟨C,by rw [zCl];exact j⟩,?_⟩
        grind
     ·rintro ((h | ⟨u,b,h⟩) | ⟨B,C⟩)
      ·exact .inl h
      ·exact .inr ⟨u,by omega,h⟩
      ·obtain ⟨j,m⟩:=(E _).1 B;rw [zCl] at m;refine .inr ⟨v,by omega,d,j,m,?_⟩
       grind)
    refine At.step (1+near.length+1) (g:=λn=>C5 c q pos pos.length lost n (.l1 (pB c pos) (cB c pos) (pos.length:Int) ((v:Int)+1) l')) (λn=>?_) S;obtain ⟨T,X,M⟩:=R n;have:T=l':=M.unique z;subst this;rw [oL Q,show n+(1+near.length+1)=n+1+near.length+1 by omega,←X]
    show Ph (n+1+near.length) (C5 c q pos pos.length lost (n+1+near.length)) c q pos pos.length lost (pB c pos) (cB c pos) near.length (Cc q.nbrs (cB c pos) v:Int) (pos.length:Int) (v:Int) (nb q.nbrs v) ((nb q.nbrs v).length:Int) ((nb q.nbrs v).length:Int) o1 near=_
    unfold Ph
    grind
def zE9 (W:FP c q pos)(e:Cw pos lost (λ_ _=>False) lost):At (λn=>aC n c q pos pos.length lost) (xS c q pos lost):=by
 have t:=W.l1;obtain ⟨r,_,R⟩:=V0 (l:=cB c pos) (by rw [HD];exact t);obtain ⟨l0,f,g⟩:=rh W e R;refine At.bind f (b:=λn j=>C5 c q pos pos.length lost n (.l1 j.1 j.2.1 (j.2.1.length:Int) 0 j.2.2.2)) ?_;have:=zE8 (q:=q) W pos.length 0 l0 (by omega) (λu d=>absurd d (zGa u)) (g.id' λa s _ _=>⟨λh=>h.elim id λ⟨u,d,_⟩=>absurd d (zGa u),.inl⟩)
 grind [HD]
end
section
set_option maxRecDepth 100000
set_option maxHeartbeats 40000000
def zA0:Au (A9 Tryz.f99 6) [([0,1,2,3,4,5,6,7,8],9),([10],11)] [12] []:=by unfold Au;kernel_rfl
def zA1:Au (A9 Tryz.f99 13) [] (List.range 13) [13]:=by unfold Au;kernel_rfl
def Ei:BX:=λi=>match i with
 | 6=>.ord [([0,1,2,3,4,5,6,7,8],9),([10],11)] [12] []
 | 13=>.ord [] (List.range 13) [13]
 | _=>.no
def zHr (q:AA)(pos:Ξ):DH:=[oC (AH q),oC [.cst .nilFunc,.fn 106 0 (L1 []),.fn 107 0 (L1 []),.fn 108 0 (L1 []),.fn 109 0 (L1 []),.fn 110 0 (L1 []),.fn 111 0 (L1 []),.fn 112 0 (L1 []),.fn 113 0 (L1 []),.fn 114 0 (L1 [])],oI (List.replicate pos.length (0:Int))]
def MZ (q:AA)(pos:Ξ)(i:Int):DH:=[oC (AH q),oC [.cst .nilFunc,.fn 106 0 (L1 []),.fn 107 0 (L1 []),.fn 108 0 (L1 []),.fn 109 0 (L1 []),.fn 110 0 (L1 []),.fn 111 0 (L1 []),.fn 112 0 (L1 []),.fn 113 0 (L1 []),.fn 114 0 (L1 [])],oI (List.replicate pos.length (0:Int)),oI (List.replicate pos.length (0:Int)),oC (BW (q.cons.getD i.toNat default)++AH q++[.ints pos,.msl 3 1 0 pos.length])]
def zHq (pos:Ξ)(q:AA)(i:Int)(F:Ξ):DH:=[oI (List.replicate pos.length (0:Int)),oC (BW (q.cons.getD i.toNat default)++AH q++[.ints pos,.msl 2 1 0 pos.length]),oI F]
def zHp (pos:Ξ)(q:AA)(i:Int)(F t:Ξ):DH:=[oI (List.replicate pos.length (0:Int)),oC (BW (q.cons.getD i.toNat default)++AH q++[.ints pos,.msl 2 1 0 pos.length]),oI F,oI t]
inductive VX where
 | l1 (o2:Ξ)
 | l2 (x10:Nat) (M6 CP:Int) (o2 o3:Ξ)
def qh (n:Nat)(self:VX -> Option (Ξ))(q:AA)(i:Int)(pos:Ξ)(F:Ξ):Option (Ξ):= (cg n pos).bind λj=> self (.l2 j.length (j.length:Int) 0 F j)
def VW (n:Nat)(self:VX -> Option (Ξ))(q:AA)(i:Int)(pos:Ξ)(x10:Nat)(M P:Int)(F t:Ξ):Option (Ξ):= bif (decide (P<M)) then if (0<=P/\ P<(x10:Int))/\ 0+P.toNat<t.length/\ (0<=P/\ P<(pos.length:Int))/\ 0+P.toNat<F.length/\ AG (P+1) then self (.l2 x10 M (P+1) F (t.set (0+P.toNat) (bits .andNot .i64 (t.getD (0+P.toNat) 0) (F.getD (0+P.toNat) 0)))) else none else if x10=t.length then (Gz n t).bind λj=> bif j then if pos.length=(List.replicate pos.length (0:Int)).length then some (List.replicate pos.length (0:Int)) else none else some t else none
def fv (n:Nat)(self:VX -> Option (Ξ))(q:AA)(i:Int)(pos:Ξ):Option (Ξ):= if ((pos.length:Int):Int)=(pos.length:Int)/\ 0<=(pos.length:Int)/\ ((pos.length:Int):Int)<=1000000000000 then (Gz n pos).bind λj=> bif j then if pos.length=(List.replicate pos.length (0:Int)).length then some (List.replicate pos.length (0:Int)) else none else if 0<=i/\ i<(q.cons.length:Int) then bif (((q.cons.getD i.toNat default).kind)==0) then none else bif (((q.cons.getD i.toNat default).kind)==1) then (TZ n (q.cons.getD i.toNat default) q pos pos.length (List.replicate pos.length (0:Int))).bind λG=> bif (!G.1) then if pos.length=(List.replicate pos.length (0:Int)).length then some (List.replicate pos.length (0:Int)) else none else self (.l1 G.2) else bif (((q.cons.getD i.toNat default).kind)==2) then (Tb n (q.cons.getD i.toNat default) q pos pos.length (List.replicate pos.length (0:Int))).bind λG=> bif (!G.1) then if pos.length=(List.replicate pos.length (0:Int)).length then some (List.replicate pos.length (0:Int)) else none else self (.l1 G.2) else bif (((q.cons.getD i.toNat default).kind)==3) then (RR n (q.cons.getD i.toNat default) q pos pos.length (List.replicate pos.length (0:Int))).bind λG=> bif (!G.1) then if pos.length=(List.replicate pos.length (0:Int)).length then some (List.replicate pos.length (0:Int)) else none else self (.l1 G.2) else bif (((q.cons.getD i.toNat default).kind)==4) then (NR n (q.cons.getD i.toNat default) q pos pos.length (List.replicate pos.length (0:Int))).bind λG=> bif (!G.1) then if pos.length=(List.replicate pos.length (0:Int)).length then some (List.replicate pos.length (0:Int)) else none else self (.l1 G.2) else bif (((q.cons.getD i.toNat default).kind)==5) then (Rp n (q.cons.getD i.toNat default) q pos pos.length (List.replicate pos.length (0:Int))).bind λG=> bif (!G.1) then if pos.length=(List.replicate pos.length (0:Int)).length then some (List.replicate pos.length (0:Int)) else none else self (.l1 G.2) else bif (((q.cons.getD i.toNat default).kind)==6) then (Qu n (q.cons.getD i.toNat default) q pos pos.length (List.replicate pos.length (0:Int))).bind λG=> bif (!G.1) then if pos.length=(List.replicate pos.length (0:Int)).length then some (List.replicate pos.length (0:Int)) else none else self (.l1 G.2) else bif (((q.cons.getD i.toNat default).kind)==7) then (PV n (q.cons.getD i.toNat default) q pos pos.length (List.replicate pos.length (0:Int))).bind λG=> bif (!G.1) then if pos.length=(List.replicate pos.length (0:Int)).length then some (List.replicate pos.length (0:Int)) else none else self (.l1 G.2) else bif (((q.cons.getD i.toNat default).kind)==8) then (cW n (q.cons.getD i.toNat default) q pos pos.length (List.replicate pos.length (0:Int))).bind λG=> bif (!G.1) then if pos.length=(List.replicate pos.length (0:Int)).length then some (List.replicate pos.length (0:Int)) else none else self (.l1 G.2) else bif (((q.cons.getD i.toNat default).kind)==9) then (aC n (q.cons.getD i.toNat default) q pos pos.length (List.replicate pos.length (0:Int))).bind λG=> bif (!G.1) then if pos.length=(List.replicate pos.length (0:Int)).length then some (List.replicate pos.length (0:Int)) else none else self (.l1 G.2) else none else none else none
def J0 (q:AA)(i:Int)(pos:Ξ):Nat -> VX -> Option (Ξ)
 | 0,_=>none
 | n+1,.l1 F=>qh n (J0 q i pos n) q i pos F
 | n+1,.l2 x10 M P F t=>VW n (J0 q i pos n) q i pos x10 M P F t
def K2 (n:Nat)(q:AA)(i:Int)(pos:Ξ):Option (Ξ):=fv n (J0 q i pos n) q i pos
def zDV (n B:Nat)(N:Yd 0)(q:AA)(i:Int)(pos:Ξ)(r:Ξ):VX -> Prop
 | .l1 F=>TW B N (FQ Tryz.f99 0 (.ints r) []) (EP (AR Tryz.f99) 9 []) ⟨AF 69 [(2,.ints pos),(8,.msl 0 1 0 pos.length),(9,.ref 1 0)],[oI (List.replicate pos.length (0:Int)),oC (BW (q.cons.getD i.toNat default)++AH q++[.ints pos,.msl 2 1 0 pos.length]),oI F]⟩
 | .l2 x10 M P F t=>∀ f:Nat,n<=f -> TW B N (FQ Tryz.f99 0 (.ints r) []) (Ag f (An (AR Tryz.f99) 0 [])) ⟨AF 69 [(8,.msl 0 1 0 pos.length),(9,.ref 1 0),(10,.msl 3 1 0 x10),(47,.i M),(48,.i P)],[oI (List.replicate pos.length (0:Int)),oC (BW (q.cons.getD i.toNat default)++AH q++[.ints pos,.msl 2 1 0 pos.length]),oI F,oI t]⟩
def zDW (B:Nat)(N:Yd 0)(q:AA)(i:Int)(pos:Ξ):Al (J0 q i pos) (zDV · B N q i pos):=ia (λ_=>rfl) λn C A r h=>by
 cases A
 case l1 o2=>
  revert r;apply gO;exact cn λj u=>jc (ES.snapNew (ds:=[.ints pos]) (zLH u) (zHq pos q i o2) (mB (by kernel_rfl)) rfl) (lN Ei [0,1,2,3] (C _ _ · n Nat.le.refl))
 case l2 x10 M6 CP o2 o3=>
  intro f b;refine rd b λf b=>?_
  revert r;apply gO;exact bi 49 (jg zA1 (gc (gn λa=>jg a (gc (gn λo=>jg o (gc (gi (gc (gi (jg a (jg o (gw 64 (lG (Ab 9 Ei) [0,1,2,3] (C _ _ · f b)))))))))))))) (gn λa=>cn λj u=>jc (sb [.msl 3 1 0 x10] (Pw u) (zHp pos q i o2 o3) ⟨Az.ints rfl a,trivial⟩) (bi 66 (gn λo=>lF λp=>ez (Ab 9 Ei) [6] [0] p [0] (H0.g o)) (lF λp=>ez (Ab 9 Ei) [6] [3] p [0] (H0.g a))))
variable {pos:Ξ}{i:Int}{q:AA}{n:Nat}
def zDU {r:Ξ}(h:K2 n q i pos=some r):EQ 99 [.agg 5 (L1 (AH q)),.i i,.ints pos] [] (.ints r) [] true:=by
 have C:=λB N=>(zDW B N q i pos n)
 refine ot Tryz.func99 λB N=>?_
 revert r;apply gO;exact jt (gn λa=>jg a (cf Pw (zHr q pos) λ_=>bi 18 (gn λo=>lF λp=>ez (Ab 9 Ei) [6] [2] p [0] (H0.g o)) (jg zA0 (gi (jg a (bn (λw=>nO) (λw=>bn (λc=>jo 36 (AN.int (k:=.i64) (zJF c)) (jg (by decide:(0:Int)<=1/\ 1<((10:Nat):Int)) (ce zKY [4,3] (MZ q pos i) λ_=>bi 42 (gn λs=>lF λp=>ez (Ab 9 Ei) [6] [2] p [0] (H0.g s)) (lG (Ab 9 Ei) [2,4,3] ((C B N) _ _ ·))))) (λc=>bn (λd=>jo 36 (AN.int (k:=.i64) (zJF d)) (jg (by decide:(0:Int)<=2/\ 2<((10:Nat):Int)) (ce zKn [4,3] (MZ q pos i) λ_=>bi 42 (gn λs=>lF λp=>ez (Ab 9 Ei) [6] [2] p [0] (H0.g s)) (lG (Ab 9 Ei) [2,4,3] ((C B N) _ _ ·))))) (λd=>bn (λW=>jo 36 (AN.int (k:=.i64) (zJF W)) (jg (by decide:(0:Int)<=3/\ 3<((10:Nat):Int)) (ce yq [4,3] (MZ q pos i) λ_=>bi 42 (gn λs=>lF λp=>ez (Ab 9 Ei) [6] [2] p [0] (H0.g s)) (lG (Ab 9 Ei) [2,4,3] ((C B N) _ _ ·))))) (λW=>bn (λX=>jo 36 (AN.int (k:=.i64) (zJF X)) (jg (by decide:(0:Int)<=4/\ 4<((10:Nat):Int)) (ce zCU [4,3] (MZ q pos i) λ_=>bi 42 (gn λs=>lF λp=>ez (Ab 9 Ei) [6] [2] p [0] (H0.g s)) (lG (Ab 9 Ei) [2,4,3] ((C B N) _ _ ·))))) (λX=>bn (λY=>jo 36 (AN.int (k:=.i64) (zJF Y)) (jg (by decide:(0:Int)<=5/\ 5<((10:Nat):Int)) (ce zBn [4,3] (MZ q pos i) λ_=>bi 42 (gn λs=>lF λp=>ez (Ab 9 Ei) [6] [2] p [0] (H0.g s)) (lG (Ab 9 Ei) [2,4,3] ((C B N) _ _ ·))))) (λY=>bn (λZ=>jo 36 (AN.int (k:=.i64) (zJF Z)) (jg (by decide:(0:Int)<=6/\ 6<((10:Nat):Int)) (ce zMA [4,3] (MZ q pos i) λ_=>bi 42 (gn λs=>lF λp=>ez (Ab 9 Ei) [6] [2] p [0] (H0.g s)) (lG (Ab 9 Ei) [2,4,3] ((C B N) _ _ ·))))) (λZ=>bn (λb=>jo 36 (AN.int (k:=.i64) (zJF b)) (jg (by decide:(0:Int)<=7/\ 7<((10:Nat):Int)) (ce zEN [4,3] (MZ q pos i) λ_=>bi 42 (gn λs=>lF λp=>ez (Ab 9 Ei) [6] [2] p [0] (H0.g s)) (lG (Ab 9 Ei) [2,4,3] ((C B N) _ _ ·))))) (λb=>bn (λe=>jo 36 (AN.int (k:=.i64) (zJF e)) (jg (by decide:(0:Int)<=8/\ 8<((10:Nat):Int)) (ce zK4 [4,3] (MZ q pos i) λ_=>bi 42 (gn λs=>lF λp=>ez (Ab 9 Ei) [6] [2] p [0] (H0.g s)) (lG (Ab 9 Ei) [2,4,3] ((C B N) _ _ ·))))) (λe=>bn (λP=>jo 36 (AN.int (k:=.i64) (zJF P)) (jg (by decide:(0:Int)<=9/\ 9<((10:Nat):Int)) (ce zFA [4,3] (MZ q pos i) λ_=>bi 42 (gn λs=>lF λp=>ez (Ab 9 Ei) [6] [2] p [0] (H0.g s)) (lG (Ab 9 Ei) [2,4,3] ((C B N) _ _ ·))))) (λP=>nO))))))))))))))))
def ql (n:Nat)(q:AA)(i:Int)(pos:Ξ):Option (Ξ×Int):= (Tg n q i pos).bind λj=> bif (j != 0) then some (([]:Ξ),j) else (K2 n q i pos).bind λG=> some (G,0)
def PL (n:Nat)(q:AA)(i:Int)(pos:Ξ):Option (Ξ×Int):=ql n q i pos
def qk {r:Ξ×Int}(h:PL n q i pos=some r):EQ 83 [.agg 5 (L1 (AH q)),.i i,.ints pos] [] (.tup 2 (L1 [.ints r.1,.i r.2])) [] true:=by
 unfold PL ql at h;refine ot Tryz.func83 λB N=>?_
 revert r;apply gO;exact cf zLN [oC (AH q)] λj=>bi 14 (lF λp=>el AC [6,7] [] p [] H0 [.nils,.i j] (AN.tupL (l:=[.nils,.i j]) (l':=[.ints ([]:Ξ),.i j]) rfl ⟨AN.ints_nil,Ax,trivial⟩)) (cf zDU [oC (AH q)] λ_=>lE AC [6,7] [])
end
section
def BH (pos:Ξ):Bool:=pos.any (· ==0)
variable {pos:Ξ}
theorem E8 :BH pos=false↔∀ j,j<pos.length -> pos.getD j 0≠0:=by
 unfold BH;rw [List.any_eq_false];constructor
 ·simp_all
 ·intro h x d;obtain ⟨j,hj,rfl⟩:=zG2 d
  grind
variable {n:Nat}
theorem vZ (hl:pos.length<=LB)(u:pos.length<n):XA n pos=some (BH pos):=by
 have hb:LB<=9223372036854775806:=by decide
 have key: ∀ (k i n:Nat),i+k=pos.length -> k+1<=n -> Ta pos n (.l1 (i:Int))=some ((pos.drop i).any (· ==0)):=by
  intro k
  induction k with
  | zero=>
   intro i n e u;obtain ⟨n,rfl⟩: ∃ k,n=k+1:=⟨n-1,by omega⟩
   simp_all [cN,Ta]
  | succ k V=>
   intro i n e u;obtain ⟨n,rfl⟩: ∃ k,n=k+1:=⟨n-1,by omega⟩;have hi:i<pos.length:=by omega
   have z:pos.drop i=pos.getD i 0::pos.drop (i+1):=by
    simp_all
   have:=V (i+1) n (by omega) (by omega)
   show cN n (Ta pos n) pos (i:Int)=_
   unfold cN;rw [zEI (by omega),zFi,zEd ⟨by omega,by omega⟩,zEd (Ah.2 ⟨by omega,by omega⟩),zCl,z,List.any_cons]
   grind
 have:=key pos.length 0 n (by omega) (by omega);unfold XA vY;exact this
def Nr (hl:pos.length<=LB)(hn:pos.length<n):Gz n pos=some (BH pos):=by
 grind [Gz,iP,vZ]
def posOk (q:AA)(pos:Ξ):Bool:=((pos.length:Int)==q.cells)&&pos.all λx=>decide (0<=x)&&decide (x<2 ^ q.symbols.toNat)
def Dl (q:AA)(pos:Ξ):Int:=if CK q then (if posOk q pos then 0 else 250) else 191
section
variable {q:AA} {i:Int} {pos:Ξ} {n:Nat}
def f7 (R:DJ q)(u:EG q<=n)(hl:pos.length<=LB)(Hg:pos.length<n):FX n q pos=some (Dl q pos):=by
 have hb:LB<=9223372036854775806:=by decide
 unfold FX qt Dl;rw [m4 R u,zEf];cases p:CK q with
 | false=>rfl
 | true=>
  obtain ⟨_,a,_⟩:=DP p;obtain ⟨J,p2,I⟩:=ZR a.1 a.2
  show (bif ((pos.length:Int) != q.cells) then some 250 else PQ q pos n (.l1 0))=some (if posOk q pos=true then 0 else 250)
  unfold posOk
  by_cases M:(pos.length:Int)=q.cells
  ·have b:((pos.length:Int) != q.cells)=false:=by simpa using M
   have c:((pos.length:Int)==q.cells)=true:=by simpa using M
   rw [b,zGK,c,zI9]
   have key: ∀ (k i n:Nat),i+k=pos.length -> k+1<=n -> PQ q pos n (.l1 (i:Int))=some (if ((pos.drop i).all λx=>decide (0<=x)&&decide (x<2 ^ q.symbols.toNat))=true then 0 else 250):=by
    intro k
    induction k with
    | zero=>
     intro i n e u;obtain ⟨n,rfl⟩: ∃ k,n=k+1:=⟨n-1,by omega⟩
     simp_all [ZW,PQ]
    | succ k V=>
     intro i n e u;obtain ⟨n,rfl⟩: ∃ k,n=k+1:=⟨n-1,by omega⟩;have hi:i<pos.length:=by omega
     have z:pos.drop i=pos.getD i 0::pos.drop (i+1):=by
      simp_all
     have:=V (i+1) n (by omega) (by omega)
     show ZW n (PQ q pos n) q pos (i:Int)=_
     unfold ZW;rw [zEI (by omega),zFi,zEd ⟨by omega,by omega⟩,zEd I,zEd (Ah.2 ⟨by omega,by omega⟩),zCl,z,zM4,J]
     grind
   grind
  grind
def Lk (q:AA)(i:Int)(pos:Ξ):Int:=if (ML q i).2=0 then Dl q pos else (ML q i).2
def zLO (R:DJ q)(u:EG q<=n)(m:pos.length<=LB)(w:pos.length<n):Tg n q i pos=some (Lk q i pos):=by
 unfold Tg lQ Lk;rw [iF R u,zEf,f7 R u m w,zEf]
 grind
structure Br (q:AA)(i:Int)(pos:Ξ):Prop where
 fit:DJ q
 valid:CK q=true
 i0:0<=i
 i1:i<(q.cons.length:Int)
 pos:posOk q pos=true
def con (q:AA)(i:Int):AD:=q.cons.getD i.toNat default
def Br.of (R:DJ q)(h:Lk q i pos=0):Br q i pos:=by
 unfold Lk ML Dl at h
 by_cases p:CK q=false
 ·grind
 ·rw [zGW p] at h;have p:CK q=true:=by simpa using p
  by_cases hi:0<=i/\ i<(q.cons.length:Int)
  ·rw [zEd hi,zEd rfl,zEd p] at h
   by_cases g:posOk q pos=true
   ·exact ⟨R,p,hi.1,hi.2,g⟩
   grind
  grind
def Br.check (C:Br q i pos):Lk q i pos=0:=by
 have a:ML q i=(IU ((q.cons.getD i.toNat default).kind),0):=by
  unfold ML;rw [zGW (by rw [C.valid];exact λh=>by cases h),zEd ⟨C.i0,C.i1⟩]
 unfold Lk Dl;rw [a,zEd rfl,zEd C.valid,zEd C.pos]
def Br.mem (C:Br q i pos):con q i∈q.cons:=by
 have h:=C.i0;have h1:=C.i1
 grind [con]
def Br.fine (C:Br q i pos):E6 q (con q i)=true:=(DP C.valid).2.2.2.2.2 _ C.mem
def Br.kind (C:Br q i pos):Hx q.cells (con q i).kind (con q i).cells.length=true:=sY C.fine
def Br.len (C:Br q i pos):(pos.length:Int)=q.cells:=by
 have h:=C.pos
 simp_all [posOk]
def Br.sm (C:Br q i pos): ∀ j,j<pos.length -> Sm q.symbols.toNat (pos.getD j 0):=by
 intro j hj;have h:=C.pos;unfold posOk at h;rw [zFW,zGV] at h;have v:pos.getD j 0∈pos:=by grind
 have:=h.2 _ v;rw [zFW,zGe,zGe] at this;exact this
def Br.len256 (C:Br q i pos):0<pos.length/\ pos.length<=256:=by
 have h:=(DP C.valid).1;have:=C.len;omega
theorem Br.cells (C:Br q i pos):(∀ x∈(con q i).cells,0<=x/\ x<q.cells)/\ (con q i).cells.Nodup/\ (8<=(con q i).kind -> ∀ j,j<(con q i).cells.length -> (con q i).cells.getD j 0=(j:Int)):=by
 have h:=C.fine
 simp_all [E6,lS]
def Br.work (C:Br q i pos):B7 (con q i) q.symbols.toNat pos:=by
 obtain ⟨b,c,_⟩:=C.cells;have m:=C.len;have h3:=(DP C.valid).1;have h4:=(DP C.valid).2.1;refine ⟨λa ha=>?_,?_,C.sm,by omega⟩
 ·simp_all
 ·have:=SL pos.length _ c λx d=>by rw [m];exact b x d
  omega
def Br.vals (C:Br q i pos):Ec q q.symbols.toNat:=by
 obtain ⟨_,h2,⟨h3,A⟩,_⟩:=DP C.valid;rw [Xr] at A;refine ⟨by omega,λs hs=>A _ ?_⟩
 grind
def Br.runs (C:Br q i pos):Je (con q i):=by
 have h:=C.fine;unfold E6 at h;simp only [zFW,zGe] at h;have b:=Xr.1 h.2;refine ⟨by have:=h.1.2;omega,λj hj=>(b _ ?_).2⟩
 grind
def Br.two (C:Br q i pos)(hk:(con q i).kind=6∨(con q i).kind=7):(con q i).cells.length=2:=by
 have h:=C.kind
 grind [Hx]
def Br.all (C:Br q i pos)(hk:(con q i).kind=8∨(con q i).kind=9)(r:BH pos=false):FP (con q i) q pos:=by
 have h:=C.kind;have hl:=C.len;have E:=C.len256
 have h1:((con q i).cells.length:Int)=q.cells:=by
  grind [Hx]
 obtain ⟨_,_,_,⟨h5,a⟩,_⟩:=DP C.valid;exact ⟨by omega,λj e=>C.cells.2.2 (by omega) j (by omega),⟨a,C.fit.nbrs⟩,by omega,E.1,E.2,λj e=>⟨(C.sm j e).in64 (zGU C.work.k (by decide)),E8.1 r j e⟩⟩
end
def Cp (q:AA)(c:AD)(pos:Ξ):Prop:= (c.kind=2 -> Mm c pos=true)/\ (c.kind=3 -> Lv q c pos=true)/\ (c.kind=5 -> Ks c=true)/\ (c.kind=9 -> Pi c q pos)
def Bo (q:AA)(c:AD)(pos:Ξ)(a s:Nat):Prop:= (c.kind=1/\ Qg c pos a s)∨(c.kind=2/\ JW c pos a s=true)∨(c.kind=3/\ Iu q c pos a s=true)∨(c.kind=4/\ IM q c pos a s=true)∨(c.kind=5/\ Js c pos a s)∨ (c.kind=6/\ Gs (I8 q c) c pos a s)∨(c.kind=7/\ Gs (IT c) c pos a s)∨(c.kind=8/\ Id c q pos a s)∨(c.kind=9/\ No c q pos a s)
def KP (q:AA)(c:AD)(pos:Ξ)(r:Bool×Ξ):Prop:=(r.1=true↔Cp q c pos)/\ (r.1=true -> CL c pos (List.replicate pos.length 0) c.cells.length (Bo q c pos) r.2)
def LC (q:AA)(c:AD)(pos:Ξ)(j s:Nat):Prop:=∃ a,a<c.cells.length/\ (c.cells.getD a 0).toNat=j/\ Bo q c pos a s
structure Fi (q:AA)(c:AD)(pos:Ξ):Prop where
 nz: ∀ j,j<pos.length -> pos.getD j 0≠0
 ok:Cp q c pos
 left: ∀ j,j<pos.length -> ∃ s,s<64/\ tb (pos.getD j 0) s=true/\ ¬ LC q c pos j s
structure PR (q:AA)(c:AD)(pos x:Ξ):Prop where
 len:x.length=pos.length
 live:Fi q c pos -> ∀ j,j<pos.length -> CB (x.getD j 0)/\ ∀ s,tb (x.getD j 0) s=true↔tb (pos.getD j 0) s=true/\ ¬ LC q c pos j s
 dead: ¬ Fi q c pos -> x=List.replicate pos.length 0
theorem PR.uniq {q:AA}{c:AD}{pos:Ξ}(x y:Ξ)(h:PR q c pos x)(h':PR q c pos y):x=y:=by
 by_cases C:Fi q c pos
 ·have e:x.length=y.length:=h.len.trans h'.len.symm;refine zJL e λj b d=>?_
  have a:j<pos.length:=by rw [←h.len];exact b
  have w:x.getD j 0=x[j]:=by simp [b]
  have z:y.getD j 0=y[j]:=by simp [d]
  rw [←w,←z];refine Km (h.live C j a).1 (h'.live C j a).1 λs _=>?_
  rw [zIt,(h.live C j a).2,(h'.live C j a).2]
 ·rw [h.dead C,h'.dead C]
section
variable {q:AA} {i:Int} {pos:Ξ}
def T7:(List.replicate pos.length (0:Int)).length=pos.length:=zIA
def Q4 (j:Nat):(List.replicate pos.length (0:Int)).getD j 0=0:=by
 grind
def dO: ∀ j,CB ((List.replicate pos.length (0:Int)).getD j 0):=λj=>by rw [Q4];exact ⟨by decide,by decide⟩
def mP:Cw pos (List.replicate pos.length 0) (λ_ _=>False) (List.replicate pos.length 0):=⟨⟨T7,dO⟩,λj s=>by simp⟩
def CL.congr {c:AD}{lost l:Ξ}{D D':Nat -> Ψ}{m:Nat}(h:CL c pos lost m D l)(b: ∀ a s,D' a s↔D a s):CL c pos lost m D' l:=by
 refine ⟨h.1,λj s=>?_⟩;rw [h.2];simp only [b]
def I3 (n:Nat)(q:AA)(c:AD)(pos:Ξ):Option (Bool×Ξ):= bif c.kind==1 then TZ n c q pos pos.length (List.replicate pos.length 0) else bif c.kind==2 then Tb n c q pos pos.length (List.replicate pos.length 0) else bif c.kind==3 then RR n c q pos pos.length (List.replicate pos.length 0) else bif c.kind==4 then NR n c q pos pos.length (List.replicate pos.length 0) else bif c.kind==5 then Rp n c q pos pos.length (List.replicate pos.length 0) else bif c.kind==6 then Qu n c q pos pos.length (List.replicate pos.length 0) else bif c.kind==7 then PV n c q pos pos.length (List.replicate pos.length 0) else bif c.kind==8 then cW n c q pos pos.length (List.replicate pos.length 0) else bif c.kind==9 then aC n c q pos pos.length (List.replicate pos.length 0) else none
def zCD (C:Br q i pos)(e:BH pos=false):At (λn=>I3 n q (con q i) pos) (KP q (con q i) pos):=by
 have W:=C.work;have z:(List.replicate pos.length (0:Int)).length=pos.length:=T7
 have all: ∀ k:Int,(con q i).kind=k -> ∀ {f:Nat -> Option (Bool×Ξ)} {N:Nat} {ok:Bool} {D:Nat -> Ψ},(∀ n,N<=n -> ∃ l,f n=some (ok,l)/\ (ok=true -> CL (con q i) pos (List.replicate pos.length 0) (con q i).cells.length D l)) -> (ok=true↔Cp q (con q i) pos) -> (∀ a s,Bo q (con q i) pos a s↔D a s) -> At f (KP q (con q i) pos):=by
  intro k _ f N ok D h o m;refine ⟨N,λn u=>?_⟩;obtain ⟨l,c,b⟩:=h n u;exact ⟨(ok,l),c,o,λg=>(b g).congr m⟩
 have p:=Pp (Po C.kind);have d: ∀ {k:Int},(con q i).kind=k -> k≠2 -> k≠3 -> k≠5 -> k≠9 -> Cp q (con q i) pos:=λhk b g t Z=>⟨λh=>absurd (hk.symm.trans h) b,λh=>absurd (hk.symm.trans h) g,λh=>absurd (hk.symm.trans h) t,λh=>absurd (hk.symm.trans h) Z⟩
 rcases p with hk | hk | hk | hk | hk | hk | hk | hk | hk
 ·refine At.eq (all 1 hk (f:=λn=>TZ n (con q i) q pos pos.length (List.replicate pos.length 0)) (N:=2*(con q i).cells.length+2) (ok:=true) (D:=Qg (con q i) pos) (λn u=>?_) ⟨λ_=>d hk (by decide) (by decide) (by decide) (by decide),λ_=>rfl⟩ λa s=>?_) λn=>?_
  ·obtain ⟨l,c,b⟩:=zKV (q:=q) W z u;exact ⟨l,c,λ_=>b⟩
  ·unfold Bo;rw [hk];simp
  ·unfold I3;rw [hk];rfl
 ·refine At.eq (all 2 hk (f:=λn=>Tb n (con q i) q pos pos.length (List.replicate pos.length 0)) (N:=2*(con q i).cells.length+3) (ok:=Mm (con q i) pos) (D:=λa s=>JW (con q i) pos a s=true) (λn u=>?_) ⟨λh=>⟨λ_=>h,λh=>absurd (hk.symm.trans h) (by decide),λh=>absurd (hk.symm.trans h) (by decide),λh=>absurd (hk.symm.trans h) (by decide)⟩,λh=>h.1 hk⟩ λa s=>?_) λn=>?_
  ·exact zKl (q:=q) W z u
  ·unfold Bo;rw [hk];simp
  ·unfold I3;rw [hk];rfl
 ·refine At.eq (all 3 hk (f:=λn=>RR n (con q i) q pos pos.length (List.replicate pos.length 0)) (N:=2*(con q i).cells.length+3) (ok:=Lv q (con q i) pos) (D:=λa s=>Iu q (con q i) pos a s=true) (λn u=>?_) ⟨λh=>⟨λh=>absurd (hk.symm.trans h) (by decide),λ_=>h,λh=>absurd (hk.symm.trans h) (by decide),λh=>absurd (hk.symm.trans h) (by decide)⟩,λh=>h.2.1 hk⟩ λa s=>?_) λn=>?_
  ·exact yn W C.vals z u
  ·unfold Bo;rw [hk];simp
  ·unfold I3;rw [hk];rfl
 ·refine At.eq (all 4 hk (f:=λn=>NR n (con q i) q pos pos.length (List.replicate pos.length 0)) (N:=2*(con q i).cells.length+3) (ok:=true) (D:=λa s=>IM q (con q i) pos a s=true) (λn u=>?_) ⟨λ_=>d hk (by decide) (by decide) (by decide) (by decide),λ_=>rfl⟩ λa s=>?_) λn=>?_
  ·obtain ⟨l,c,b⟩:=zCR W C.vals z u;exact ⟨l,c,λ_=>b⟩
  ·unfold Bo;rw [hk];simp
  ·unfold I3;rw [hk];rfl
 ·obtain ⟨l,⟨N,c⟩,b⟩:=zBm (q:=q) W C.runs z dO;refine At.eq (all 5 hk (N:=N) (ok:=Ks (con q i)) (D:=Js (con q i) pos) (λn u=>⟨l,c n u,b⟩) ⟨λh=>⟨λh=>absurd (hk.symm.trans h) (by decide),λh=>absurd (hk.symm.trans h) (by decide),λ_=>h,λh=>absurd (hk.symm.trans h) (by decide)⟩,λh=>h.2.2.1 hk⟩ λa s=>?_) λn=>?_
  ·unfold Bo;rw [hk];simp
  ·unfold I3;rw [hk];rfl
 ·refine At.eq (all 6 hk (f:=λn=>Qu n (con q i) q pos pos.length (List.replicate pos.length 0)) (N:=0) (ok:=true) (D:=Gs (I8 q (con q i)) (con q i) pos) (λn u=>?_) ⟨λ_=>d hk (by decide) (by decide) (by decide) (by decide),λ_=>rfl⟩ λa s=>?_) λn=>?_
  ·obtain ⟨l,c,b⟩:=zL9 (n:=n) W C.vals (C.two (.inl hk)) z;exact ⟨l,c,λ_=>b⟩
  ·unfold Bo;rw [hk];simp
  ·unfold I3;rw [hk];rfl
 ·refine At.eq (all 7 hk (f:=λn=>PV n (con q i) q pos pos.length (List.replicate pos.length 0)) (N:=0) (ok:=true) (D:=Gs (IT (con q i)) (con q i) pos) (λn u=>?_) ⟨λ_=>d hk (by decide) (by decide) (by decide) (by decide),λ_=>rfl⟩ λa s=>?_) λn=>?_
  ·obtain ⟨l,c,b⟩:=zEM (n:=n) (q:=q) W (C.two (.inr hk)) z;exact ⟨l,c,λ_=>b⟩
  ·unfold Bo;rw [hk];simp
  ·unfold I3;rw [hk];rfl
 ·obtain ⟨l,⟨N,c⟩,b⟩:=zK3 (C.all (.inl hk) e) mP;refine At.eq (all 8 hk (N:=N) (ok:=true) (D:=Id (con q i) q pos) (λn u=>⟨l,c n u,λ_=>b.by (C.all (.inl hk) e)⟩) ⟨λ_=>d hk (by decide) (by decide) (by decide) (by decide),λ_=>rfl⟩ λa s=>?_) λn=>?_
  ·unfold Bo;rw [hk];simp
  ·unfold I3;rw [hk];rfl
 ·refine At.eq ((zE9 (C.all (.inr hk) e) mP).mono λr j=>⟨?_,λh=>((j.2 h).by (C.all (.inr hk) e)).congr λa s=>?_⟩) λn=>?_
  ·rw [j.1];exact ⟨λh=>⟨λh=>absurd (hk.symm.trans h) (by decide),λh=>absurd (hk.symm.trans h) (by decide),λh=>absurd (hk.symm.trans h) (by decide),λ_=>h⟩,λh=>h.2.2.2 hk⟩
  ·unfold Bo;rw [hk];simp
  ·unfold I3;rw [hk];rfl
def yY {n:Nat}{F:Ξ}(hl:F.length=pos.length)(EB:pos.length<=256)(hn:600<=n):
 ∃ x,x.length=pos.length/\ (∀ j,j<pos.length -> x.getD j 0=bits .andNot .i64 (pos.getD j 0) (F.getD j 0))/\ J0 q i pos n (.l2 pos.length (pos.length:Int) 0 F pos)=some (if BH x then List.replicate pos.length 0 else x):=by
 have lb:(256:Nat)<=LB:=by decide
 obtain ⟨p,x,Hh,_,e,d,b,JG⟩:=IV (λn (t:Ξ) k=>J0 q i pos n (.l2 pos.length (pos.length:Int) k F t)) pos.length 260
  (λk t=>t.length=pos.length/\ (∀ j,j<k -> t.getD j 0=bits .andNot .i64 (pos.getD j 0) (F.getD j 0))/\ ∀ j,k<=j -> t.getD j 0=pos.getD j 0) (λn k t GH hk u=>by
   obtain ⟨h1,h2,h3⟩:=u
   show ∃ s',VW n (J0 q i pos n) q i pos pos.length (pos.length:Int) (k:Int) F t=_/\ _
   unfold VW;simp only [zCl,zG4];rw [zEI (by omega),zFi,zEd ⟨⟨by omega,by omega⟩,by omega,⟨by omega,by omega⟩,by omega,Ah.2 ⟨by omega,by omega⟩⟩]
   grind) (n:=n) (s:=pos) (by omega) ⟨rfl,λj c=>absurd c (zGa j),λj _=>rfl⟩
 obtain ⟨a,rfl⟩: ∃ a,p=a+1:=⟨p-1,by omega⟩;refine ⟨x,d,b,Eq.trans e ?_⟩
 show VW a (J0 q i pos a) q i pos pos.length (pos.length:Int) (pos.length:Int) F x=_
 unfold VW;rw [zEl (by omega),zGK,zEd d.symm,Nr (by omega) (by omega),zEf]
 grind
def X4 (n:Nat)(q:AA)(i:Int)(pos:Ξ)(G:Bool×Ξ):Option Ξ:= bif (!G.1) then (if pos.length=(List.replicate pos.length (0:Int)).length then some (List.replicate pos.length (0:Int)) else none) else J0 q i pos n (.l1 G.2)
def yb (C:Br q i pos)(r:BH pos=false){n:Nat}(hn:601<=n){G:Bool×Ξ}(hy:KP q (con q i) pos G): ∃ x,X4 n q i pos G=some x/\ PR q (con q i) pos x:=by
 have E:=C.len256;have L:(1000000000000:Nat)=Ay:=rfl;have J:=E8.1 r;obtain ⟨b,lost⟩:=G;obtain ⟨o,y⟩:=hy;unfold X4;cases b with
 | false=>
  refine ⟨_,by grind,T7,λd=>?_,λ_=>rfl⟩;have:=o.2 d.ok;cases this
 | true=>
  have o:=o.1 rfl;have y:CL (con q i) pos (List.replicate pos.length 0) (con q i).cells.length (Bo q (con q i) pos) lost:=y rfl;obtain ⟨n,rfl⟩: ∃ k,n=k+1:=⟨n-1,by omega⟩;obtain ⟨x,l,m,h3⟩:=yY (q:=q) (i:=i) (n:=n) y.1 E.2 (by omega)
  have p: ∀ j,j<pos.length -> CB (x.getD j 0)/\ ∀ s,tb (x.getD j 0) s=true↔tb (pos.getD j 0) s=true/\ ¬ LC q (con q i) pos j s:=λj c=>by
   rw [m j c];refine ⟨GO _ _ _,λs=>?_⟩;rw [Ls,zFW,zG0,←zNK,y.2,Q4];constructor
   ·rintro ⟨A,f⟩;refine ⟨A,λ⟨a,D,e,g⟩=>f (.inr ⟨a,D,e,?_,g⟩)⟩
    show tb (pos.getD ((con q i).cells.getD a 0).toNat 0) s=true
    rw [e];exact A
   ·rintro ⟨A,f⟩;refine ⟨A,λt=>t.elim (λh=>IG h) λ⟨a,D,e,_,g⟩=>f ⟨a,D,e,g⟩⟩
  have BT:cg n pos=some pos:=by
   unfold cg vm
   grind
  have e:J0 q i pos (n+1) (.l1 lost)=some (if BH x then List.replicate pos.length 0 else x):=by
   grind [qh,J0]
  refine ⟨_,by rw [zIF,zGK];exact e,?_,λd j c=>?_,λd=>?_⟩
  ·grind
  ·rw [zGW]
   ·exact p j c
   ·rw [zNK,E8];intro j c;rw [l] at c;obtain ⟨s,g,A,f⟩:=d.left j c
    grind [Eu]
  ·rw [zEd];refine Classical.byContradiction λh=>d ?_
   rw [zNK,E8] at h;refine ⟨J,o,λj c=>?_⟩
   grind [Eu]
def zDT (C:Br q i pos): ∃ x,Ev (λn=>K2 n q i pos) x/\ PR q (con q i) pos x:=by
 have EB:=C.len256;have lb:(256:Nat)<=LB:=by decide
 have hi:0<=i/\ i<(q.cons.length:Int):=⟨C.i0,C.i1⟩;cases r:BH pos
 ·suffices H:At (λn=>K2 n q i pos) (PR q (con q i) pos) by
   obtain ⟨x,a,c⟩:=H.ev PR.uniq;exact ⟨x,c,a⟩
  obtain ⟨N,R⟩:=At.bindU (zCD C r) (b:=λn G=>X4 n q i pos G) (Q:=PR q (con q i) pos) ⟨601,λn u G hy=>yb C r u hy⟩;refine ⟨N+300,λn u=>?_⟩;obtain ⟨x,a,c⟩:=R n (by omega);refine ⟨x,Eq.trans ?_ a,c⟩
  show K2 n q i pos=(I3 n q (con q i) pos).bind λG=>X4 n q i pos G
  unfold K2 fv;rw [zEd ⟨rfl,by omega,by omega⟩,Nr (by omega) (by omega),r,zEf,zGK,zEd hi];have l:q.cons.getD i.toNat default=con q i:=rfl;rw [l];have d:=Pp (Po C.kind);unfold I3;rcases d with hk | hk | hk | hk | hk | hk | hk | hk | hk <;> rw [hk] <;> rfl
 ·refine ⟨List.replicate pos.length 0,⟨300,λn u=>?_⟩,T7,λe=>?_,λ_=>rfl⟩
  ·show K2 n q i pos=_
   unfold K2 fv;rw [zEd ⟨rfl,by omega,by omega⟩,Nr (by omega) (by omega),r,zEf,zFi,zEd T7.symm]
  ·have:=E8.2 e.nz;rw [r] at this;cases this
def PrP (q:AA)(i:Int)(pos:Ξ)(r:Ξ×Int):Prop:=r.2=Lk q i pos/\ (r.2=0 -> PR q (con q i) pos r.1)/\ (r.2≠0 -> r.1= [])
def zDX (R:DJ q)(m:pos.length<=LB): ∃ r,Ev (λn=>PL n q i pos) r/\ PrP q i pos r:=by
 have F:Ev (λn=>Tg n q i pos) (Lk q i pos):=⟨EG q+pos.length+1,λn hn=>zLO R (by omega) m (by omega)⟩
 by_cases h0:Lk q i pos=0
 ·obtain ⟨x,a,c⟩:=zDT (Br.of R h0);refine ⟨(x,0),?_,h0.symm,λ_=>c,λh=>absurd rfl h⟩;refine Ev.eq (Ev.bind F (b:=λn j=>bif (j != 0) then some (([]:Ξ),j) else (K2 n q i pos).bind λG=>some (G,0)) ?_) λn=>rfl
  rw [h0];exact Ev.bind a (b:=λ_ G=>some (G,0)) (Ev.now λn=>rfl)
 ·refine ⟨([],Lk q i pos),?_,rfl,λh=>absurd h h0,λ_=>rfl⟩;refine Ev.eq (Ev.bind F (b:=λn j=>bif (j != 0) then some (([]:Ξ),j) else (K2 n q i pos).bind λG=>some (G,0)) (Ev.now λn=>?_)) λn=>rfl
  grind
end
end
section
structure OA (q:AA)(c:AD)(p:Ξ):Prop where
 nz: ∀ k,k<c.cells.length -> Ac c p k≠0
 ok:Cp q c p
 left: ∀ k,k<c.cells.length -> ∃ s,tb (Ac c p k) s=true/\ ¬ Bo q c p k s
variable {α:Type}
def XG {f g:α -> Bool}: ∀ (l:List α),(∀ x∈l,f x=true -> g x=true) -> l.countP f<=l.countP g
 | [],_=>zGd _
 | x::l,h=>by
  have h1:=XG l λy hy=>h y (zIG _ hy)
  grind
def Ml {f g:α -> Bool}{a:α}(M:f a=false)(j:g a=true): ∀ (l:List α),(∀ x∈l,f x=true -> g x=true) -> a∈l -> l.countP f+1<=l.countP g
 | [],_,h=>by cases h
 | x::l,h,ha=>by
  rw [List.countP_cons,List.countP_cons];rcases zIn.1 ha with rfl | ha
  ·simp_all [XG]
  ·have h1:=Ml M j l (λy hy=>h y (zIG _ hy)) ha
   grind
variable {m:Nat}{f g:Nat -> Bool}
def vj (h: ∀ a,a<m -> f a=true -> g a=true):cnt f m<=cnt g m:=by
 unfold cnt;have:=XG (f:=f) (g:=g) (List.range m) λx d=>h x (zGX.1 d)
 omega
def vi {a:Nat}(h: ∀ a,a<m -> f a=true -> g a=true)(D:a<m)(M:f a=false)(j:g a=true):cnt f m+1<=cnt g m:=by
 unfold cnt;have:=Ml M j (List.range m) (λx d=>h x (zGX.1 d)) (zGX.2 D);omega
def oq {k:Nat}{x:Int}(d:Sm k x)(hk:k<=16)(h:NH x=true){s t:Nat}(a:tb x s=true)(ht:tb x t=true):s=t:=by
 have kP:=Nf (k:=k) (zGU hk (by decide));obtain ⟨m,rfl⟩:=zLp d.1;have p:m<18446744073709551616:=by have:=d.2;omega
 have lo: ∀ {u:Nat},tb (m:Int) u=true -> u<64:=λ{u} hu=>zGk λh=>by rw [Lr h] at hu;cases hu
 have h0:m≠0:=by
  rintro rfl;exact IG a
 have e:m&&& (m-1)=0:=by
  unfold NH at h;rw [zGo] at h;apply Nat.eq_of_testBit_eq;intro u;rw [Nat.zero_testBit,Nat.testBit_and];rcases zIg u 64 with hu | hu
  ·have h2:=(NB (GO .and _ _)).1 h u hu
   grind [Is,Kl]
  ·rw [Nat.testBit_lt_two_pow (zGb p (zNp (n:=2) (by decide) hu)),zNw]
 have S:=oD m p h0;rw [e,oB] at S
 have mem: ∀ {u:Nat},tb (m:Int) u=true -> u∈Fl m:=λ{u} hu=>by
  grind [Fl,Kl]
 grind
section
variable {q:AA} {i:Int} {p p':Ξ}
variable {s:Nat}{x:Int}{c:AD}
theorem iX (h:bits .andNot .i64 x c.set=0)(k:tb x s=true):tb c.set s=true:=by
 have S7:s<64:=zGk λh=>by rw [Lr h] at k;cases k
 simp_all [NB,GO,Ls]
variable {x':Int}
def mA (h: ∀ s,tb x' s=true -> tb x s=true)(hx:bits .andNot .i64 x c.set=0):bits .andNot .i64 x' c.set=0:=
 (NB (GO .andNot _ _)).2 λs hs=>by
  grind [Ls,iX]
def lz (h: ∀ s,tb x' s=true -> tb x s=true)(d:bits .and .i64 x' c.set≠0):bits .and .i64 x c.set≠0:=by
 obtain ⟨s,k,a⟩:=(Eu (GO .and _ _)).1 d;rw [Is,zFW] at a;exact (Eu (GO .and _ _)).2 ⟨s,k,by rw [Is,h s a.1,a.2];rfl⟩
def wv (a:tb x s=true)(b:tb c.set s=true):bits .and .i64 x c.set≠0:=by
 have H:s<64:=zGk λh=>by rw [Lr h] at a;cases a
 exact (Eu (GO .and _ _)).2 ⟨s,H,by rw [Is,a,b];rfl⟩
theorem zMD (h1:tb x s=true)(h2:tb c.set s=false):bits .andNot .i64 x c.set≠0:=by
 grind [Lr,Eu,GO,Ls]
def HG (c:AD)(p' p:Ξ):Prop:=∀ k,k<c.cells.length -> ∀ s,tb (Ac c p' k) s=true -> tb (Ac c p k) s=true
variable {a k:Nat}
def zKX (W:B7 c k p)(l:HG c p' p)(D: ∀ a,a<c.cells.length -> CB (Ac c p' a))(Q: ∀ a,a<c.cells.length -> Ac c p' a≠0)(h:Qg c p a s):Qg c p' a s:=by
 obtain ⟨b,d,m,f,g⟩:=h;have i:=W.at d
 have e:Ac c p' b=Ac c p b:=by
  refine Km (D b d) (i.in64 (by have:=W.k;omega)) λt _=>?_
  obtain ⟨u,_,q⟩:=(Eu (D b d)).1 (Q b d);have N:u=s:=oq i W.k f (l b d u q) g;subst N;cases j:tb (Ac c p b) t with
  | true=>
   have:t=u:=oq i W.k f j g;subst this;exact q
  | false=>
   cases A:tb (Ac c p' b) t with
   | false=>rfl
   | true=>rw [l b d t A] at j;cases j
 refine ⟨b,d,m,?_,?_⟩
 ·rw [e];exact f
 ·rw [e];exact g
def ru (b:HG c p' p)(D:a<c.cells.length)(h:EZ c p a=true):EZ c p' a=true:=by
 unfold EZ at h ⊢;rw [zGo] at h ⊢;exact mA (b a D) h
def sC (b:HG c p' p)(d: ∀ a,a<c.cells.length -> CB (Ac c p' a))(Q: ∀ a,a<c.cells.length -> Ac c p' a≠0)(D:a<c.cells.length)(h:FZ c p' a=true):FZ c p a=true:=by
 unfold FZ at h ⊢;rw [zGz,zJN] at h ⊢;right;rcases h with h | h
 ·unfold EZ at h;rw [zGo] at h;obtain ⟨u,_,q⟩:=(Eu (d a D)).1 (Q a D);exact wv (b a D u q) (iX h q)
 ·exact lz (b a D) h
def zKm (b:HG c p' p)(e: ∀ a,a<c.cells.length -> CB (Ac c p' a))(Q: ∀ a,a<c.cells.length -> Ac c p' a≠0)(o:Mm c p'=true):
 Mm c p=true/\ ∀ a s,a<c.cells.length -> tb (Ac c p' a) s=true -> JW c p a s=true -> JW c p' a s=true:=by
 have m1:=vj (f:=EZ c p) (g:=EZ c p') (m:=c.cells.length) λa D=>ru b D
 have m2:=vj (f:=FZ c p') (g:=FZ c p) (m:=c.cells.length) λa D=>sC b e Q D
 unfold Mm at o ⊢;rw [zFW,zG0,zG0,zIU,zIU] at o ⊢;refine ⟨⟨by omega,by omega⟩,λa s D hs h=>?_⟩;unfold JW at h ⊢;rw [zGz,zFW,zFW,zFW,zFW,zGo,zGo,zJN,zJN,zG0] at h ⊢;rcases h with ⟨⟨j,i⟩,d⟩ | ⟨⟨j,i⟩,d⟩
 ·refine .inl ⟨⟨by omega,λA=>?_⟩,d⟩;have:=vi (f:=EZ c p) (g:=EZ c p') (m:=c.cells.length) (a:=a) (λa D=>ru b D) D (by unfold EZ;exact zIC.2 i) (by unfold EZ;exact zGo.2 A);omega
 ·refine .inr ⟨⟨by omega,λA=>?_⟩,d⟩
  have:=vi (f:=FZ c p') (g:=FZ c p) (m:=c.cells.length) (a:=a) (λa D=>sC b e Q D) D
   (by
    grind [FZ,EZ,zMD]) (by simp_all [FZ])
  omega
def dk {f g:Nat -> Int}: ∀ {m:Nat},(∀ a,a<m -> f a<=g a) -> Cj f m<=Cj g m/\ ∀ a,a<m -> Cj f m-f a<=Cj g m-g a
 | 0,_=>⟨zGv _,λa D=>absurd D (zGa a)⟩
 | m+1,h=>by
  obtain ⟨h1,h2⟩:=dk (m:=m) λa D=>h a (by omega)
  have hm:=h m (by omega);have e: ∀ f:Nat -> Int,Cj f (m+1)=Cj f m+f m:=λf=>rfl
  grind
variable {n:Int}
def iC : ∀ (l:Ξ) (a:Int),n<=l.foldl (LJ q) a↔n<=a/\ ∀ e∈l,n<=q.values.getD e.toNat 0
 | [],a=>by simp
 | e::l,a=>by
  rw [zI2,iC l];unfold LJ
  grind
def jl : ∀ (l:Ξ) (a:Int),l.foldl (LT q) a<=n↔a<=n/\ ∀ e∈l,q.values.getD e.toNat 0<=n
 | [],a=>by simp
 | e::l,a=>by
  rw [zI2,jl l];unfold LT
  grind
def dy (hk:k<=16)(d:Sm k x)(B:Sm k x')(h: ∀ s,tb x' s=true -> tb x s=true): ∀ e∈Bj x',e∈Bj x:=λe I=>by
 obtain ⟨s,rfl,a,b⟩:=(Fp B (zGU hk (by decide))).1 I;exact (Fp d (zGU hk (by decide))).2 ⟨s,rfl,a,h s b⟩
def yo (W:B7 c k p)(b:B7 c k p')(d:HG c p' p)(o:Lv q c p'=true):
 Lv q c p=true/\ ∀ a s,a<c.cells.length -> Iu q c p a s=true -> Iu q c p' a s=true:=by
 have sub: ∀ a,a<c.cells.length -> ∀ e∈Bj (Ac c p' a),e∈Bj (Ac c p a):=λa D=>dy W.k (W.at D) (b.at D) (d a D)
 have O: ∀ a,a<c.cells.length -> FI q (Ac c p a)<=FI q (Ac c p' a):=λa D=>by
  have h:=(iC (q:=q) (Bj (Ac c p a)) 100).1 (zGv _);exact (iC (Bj (Ac c p' a)) 100).2 ⟨h.1,λe I=>h.2 e (sub a D e I)⟩
 have F: ∀ a,a<c.cells.length -> FK q (Ac c p' a)<=FK q (Ac c p a):=λa D=>by
  have h:=(jl (q:=q) (Bj (Ac c p a)) (-1)).1 (zGv _);exact (jl (Bj (Ac c p' a)) (-1)).2 ⟨h.1,λe I=>h.2 e (sub a D e I)⟩
 have t1:=dk (f:=λa=>FI q (Ac c p a)) (g:=λa=>FI q (Ac c p' a)) (m:=c.cells.length) O;have t2:=dk (f:=λa=>FK q (Ac c p' a)) (g:=λa=>FK q (Ac c p a)) (m:=c.cells.length) F;have w: ∀ p,LH q c p=Cj (λa=>FI q (Ac c p a)) c.cells.length:=λ_=>rfl
 have z: ∀ p,LS q c p=Cj (λa=>FK q (Ac c p a)) c.cells.length:=λ_=>rfl
 unfold Lv at o ⊢;rw [zFW,zG0,zG0,zIU,zIU,w,z] at o ⊢;refine ⟨⟨by omega,by omega⟩,λa s D h=>?_⟩;unfold Iu at h ⊢
 grind
variable {b:Int}
def Xw : ∀ (l:Ξ) (a:Int),n<=l.foldl (Kk q b) a↔n<=a/\ ∀ e∈l,q.values.getD e.toNat 0>b -> n<=q.values.getD e.toNat 0
 | [],a=>by simp
 | e::l,a=>by
  rw [zI2,Xw l];unfold Kk
  grind
def cG : ∀ (l:Ξ) (a:Int),l.foldl (KT q b) a<=n↔a<=n/\ ∀ e∈l,q.values.getD e.toNat 0<b -> q.values.getD e.toNat 0<=n
 | [],a=>by simp
 | e::l,a=>by
  rw [zI2,cG l];unfold KT
  grind
def wQ (W:B7 c k p)(o:B7 c k p')(d:HG c p' p): ∀ a,a<=c.cells.length -> Gh q c p a<=Gh q c p' a
 | 0,_=>zGv _
 | a+1,ha=>by
  have ih:=wQ W o d a (by omega);have h:=(Xw (q:=q) (b:=Gh q c p a) (Bj (Ac c p a)) 100).1 (zGv _);exact (Xw (Bj (Ac c p' a)) 100).2 ⟨h.1,λe I hg=>h.2 e (dy W.k (W.at (by omega)) (o.at (by omega)) (d a (by omega)) e I) (by omega)⟩
def xH (W:B7 c k p)(o:B7 c k p')(a:HG c p' p): ∀ m,m<=c.cells.length -> H8 q c p' m<=H8 q c p m
 | 0,_=>zGv _
 | m+1,hm=>by
  have ih:=xH W o a m (by omega);have h:=(cG (q:=q) (b:=H8 q c p m) (Bj (Ac c p (c.cells.length-1-m))) (-1)).1 (zGv _);exact (cG (Bj (Ac c p' (c.cells.length-1-m))) (-1)).2 ⟨h.1,λe I hg=>h.2 e (dy W.k (W.at (by omega)) (o.at (by omega)) (a _ (by omega)) e I) (by omega)⟩
theorem zCS (W:B7 c k p)(o:B7 c k p')(b:HG c p' p)(ha:a<c.cells.length)(h:IM q c p a s=true):IM q c p' a s=true:=by
 have h1:=wQ (q:=q) W o b a (by omega);have h2:=xH (q:=q) W o b (c.cells.length-(a+1)) (by omega);unfold IM Ka at h ⊢
 grind
variable {inn:Bool}
def iN (b:HG c p' p)(D:a<c.cells.length)(h:kd c p' a inn=true):kd c p a inn=true:=by
 unfold kd at h ⊢;cases inn
 ·rw [zGK,zJN] at h ⊢;exact λd=>h (mA (b a D) d)
 ·rw [zFi,zJN] at h ⊢;exact lz (b a D) h
def fZ (b:HG c p' p): ∀ (a:Nat),a<=c.cells.length -> ∀ t,Fu c p' a t -> Fu c p a t
 | 0,_,t,h=>h
 | a+1,ha,t,⟨s,inn,d,e,f⟩=>⟨s,inn,fZ b a (by omega) s d,e,iN b (by omega) f⟩
def sR (a:HG c p' p): ∀ (m:Nat),m<=c.cells.length -> ∀ t,Jh c p' m t -> Jh c p m t
 | 0,_,t,h=>h
 | m+1,hm,t,⟨b,u,inn,d,e,A⟩=>⟨fZ a _ (by omega) t b,u,inn,d,iN a (by omega) e,sR a m (by omega) u A⟩
def v8 (b:HG c p' p)(D:a<c.cells.length)(h:KX c p' a inn):KX c p a inn:=by
 obtain ⟨s,t,d,e,f,A⟩:=h;exact ⟨s,t,fZ b a (by omega) s d,e,iN b D f,sR b _ (by omega) t A⟩
theorem zBl (d:HG c p' p)(D:a<c.cells.length)(h:Js c p a s):Js c p' a s:=
 h.elim (λh=>.inl ⟨λb=>h.1 (v8 d D b),h.2⟩) λh=>.inr ⟨λb=>h.1 (v8 d D b),h.2⟩
theorem qz {ok:Nat -> Nat -> Bool}(d:HG c p' p)(h2:c.cells.length=2)(h:Gs ok c p a s):Gs ok c p' a s:=by
 unfold Gs at h ⊢;split
 ·rename_i h0;rw [zEd h0] at h;exact λ⟨t,b,A⟩=>h ⟨t,d 1 (by omega) t b,A⟩
 ·rename_i h0;rw [zGW h0] at h;exact λ⟨t,b,A⟩=>h ⟨t,d 0 (by omega) t b,A⟩
structure Oh (c:AD)(q:AA)(p p':Ξ):Prop where
 W:FP c q p
 W':FP c q p'
 len:p.length=p'.length
 sub: ∀ j,j<p.length -> ∀ s,tb (p'.getD j 0) s=true -> tb (p.getD j 0) s=true
section
variable {c:AD}
theorem Oh.pB (H:Oh c q p p'): ∀ v:Int,(pB c p').getD v.toNat false=true -> (pB c p).getD v.toNat false=true:=λv h=>by
 have hl:=H.len
 by_cases a:v.toNat<p.length
 ·rw [Ve (by omega),zJN] at h;rw [Ve a,zJN];exact lz (H.sub _ a) h
 grind [GA]
theorem Oh.cB (H:Oh c q p p'): ∀ v:Int,(cB c p).getD v.toNat false=true -> (cB c p').getD v.toNat false=true:=λv h=>by
 have hl:=H.len
 by_cases a:v.toNat<p.length
 ·rw [XO a,zGo] at h;rw [XO (by omega),zGo];exact mA (H.sub _ a) h
 grind [HD]
variable {j:Nat}
def rM {x:Ξ}{s:Nat}(e:j<x.length)(a:tb (x.getD j 0) s=true)(b:tb c.set s=true):(pB c x).getD j false=true:=by
 rw [Ve e,zJN];exact wv a b
theorem ow {x:Ξ}{s:Nat}(e:j<x.length)(h:(cB c x).getD j false=true)(a:tb (x.getD j 0) s=true):tb c.set s=true:=by
 rw [XO e,zGo] at h;exact iX h a
variable {v r:Int}
def keep (W:FP c q p')(O: ∀ v,v<p'.length -> ∃ s,tb (p'.getD v 0) s=true/\ ¬ Fq c q p' v s)(h0:0<=r)(R:HI (cB c p') r)(JJ:0<=v)(Bt:v<(p'.length:Int))(l:(cB c p').getD v.toNat false=true):Rc q.nbrs (pB c p') r v:=by
 refine Classical.byContradiction λh=>?_
 obtain ⟨s,a,b⟩:=O v.toNat (by omega);have e:((v.toNat:Nat):Int)=v:=by omega
 exact b ⟨W.cp (by omega) l,ow (by omega) l a,r,h0,R,by rw [e];exact h⟩
def HI.ex (W:FP c q p')(JJ:0<=v)(Bt:v<(p'.length:Int))(hc:(cB c p').getD v.toNat false=true): ∃ r:Int,0<=r/\ r<(p'.length:Int)/\ HI (cB c p') r/\ (cB c p').getD r.toNat false=true:=by
 obtain ⟨r,_,R⟩:=V0 (l:=cB c p') (by rw [HD];exact W.l1);rcases R with ⟨a,b⟩ | ⟨a,b,h,A⟩
 ·grind
 ·rw [HD] at b;exact ⟨r,a,b,.inr ⟨a,by rw [HD];exact b,h,A⟩,h⟩
def HI.at (h0:0<=r)(h:HI (cB c p) r):r<(p.length:Int)/\ (cB c p).getD r.toNat false=true:=by
 rcases h with ⟨a,_⟩ | ⟨_,a,h2,_⟩
 ·omega
 grind [HD]
def u5 (H:Oh c q p p')(e: ∀ v,v<p'.length -> ∃ s,tb (p'.getD v 0) s=true/\ ¬ Fq c q p' v s){a s:Nat}(ha:a<p.length)(k:tb (p'.getD a 0) s=true)(h:Fq c q p a s):Fq c q p' a s:=by
 obtain ⟨h1,d,r,b,R,f⟩:=h;have hl:=H.len;have gl:=H.W'.gl;obtain ⟨WB,O⟩:=R.at b;have T:=H.cB r O;obtain ⟨V,A,h5,M,i⟩:=HI.ex H.W' b (by omega) T;refine ⟨rM (by omega) k d,d,V,A,M,λj=>f ?_⟩;have U:=keep H.W' e A M b (by omega) T;have Z:=U.symm H.W'.g.gr A (by omega) (H.W'.cp (by omega) i);exact (Z.trans j).mono H.pB
def zL0 {g:List Ξ}{inn:Ω}{u a:Int}(P: ¬ Rc g inn u a)(ha:0<=a)(G:Gr g)(Y:0<=u)(I:u<(g.length:Int))(h:Rc g inn u v):Rc g (inn.set a.toNat false) u v:=by
 induction h with
 | start=>exact .start
 | @step x y h c hi V=>
  refine .step V c ?_;have hr:=(Rc.step h c hi).rng G Y I
  have AY:a.toNat≠y.toNat:=λe=>P (by
   have z:a=y:=by omega
   rw [z];exact Rc.step h c hi)
  grind
def zK2 (H:Oh c q p p')(O: ∀ v,v<p'.length -> ∃ s,tb (p'.getD v 0) s=true/\ ¬ Id c q p' v s){a s:Nat}(D:a<p.length)(x:tb (p'.getD a 0) s=true)(h:Id c q p a s):Id c q p' a s:=by
 have hl:=H.len;have gl:=H.W'.gl;have gl1:=H.W.gl
 have b: ∀ v,v<p'.length -> ∃ s,tb (p'.getD v 0) s=true/\ ¬ Fq c q p' v s:=λv d=>by
  obtain ⟨t,k,l⟩:=O v d;exact ⟨t,k,λh=>l (.inl h)⟩
 rcases h with h | ⟨k,l,⟨u,v,Q,R,y,d,z,A,m⟩,B⟩
 ·exact .inl (u5 H b D x h)
 ·have Y:=z.rng H.W.g.gr (by omega) (by omega);have C:=A.rng H.W.g.gr (by omega) (by omega);have E:=H.cB u y;have n:=H.cB v d;have U:=H.W'.cp (j:=u.toNat) (by omega) E;obtain ⟨r',f,h8,M,Z⟩:=HI.ex H.W' Y.1 (by omega) E;have L:=keep H.W' b f M Y.1 (by omega) E;have F:=keep H.W' b f M C.1 (by omega) n;have V:Rc q.nbrs (pB c p') u v:=(L.symm H.W'.g.gr f (by omega) (H.W'.cp (by omega) Z)).trans F
  have o: ∀ w:Int,((pB c p').set (a:Int).toNat false).getD w.toNat false=true -> ((pB c p).set (a:Int).toNat false).getD w.toNat false=true:=λw S=>by
   have la:(pB c p').length=p'.length:=GA;have lb:(pB c p).length=p.length:=GA;rw [Qn (by omega)] at S ⊢;split
   ·grind
   ·rename_i e;rw [zGW e] at S;exact H.pB w S
  have X:Rc q.nbrs (pB c p') u a:=Classical.byContradiction λi=>m ((zL0 i (by omega) H.W'.g.gr Y.1 (by omega) V).mono o)
  have r:=X.symm H.W'.g.gr Y.1 (by omega) U;refine .inr ⟨?_,?_,⟨u,v,Q,R,E,n,r,r.trans V,λi=>m (i.mono o)⟩,B⟩
  ·have:=X.isIn U
   rwa [zCl] at this
  grind [ow]
def zE7 (H:Oh c q p p')(o:Pi c q p')(O: ∀ v,v<p'.length -> ∃ s,tb (p'.getD v 0) s=true/\ ¬ No c q p' v s):Pi c q p/\ ∀ a s,a<p.length -> tb (p'.getD a 0) s=true -> No c q p a s -> No c q p' a s:=by
 have hl:=H.len
 have m: ∀ v,v<p'.length -> ∃ s,tb (p'.getD v 0) s=true/\ ¬ Fq c q p' v s:=λv i=>by
  obtain ⟨t,d,b⟩:=O v i;exact ⟨t,d,λh=>b (.inl h)⟩
 have S: ∀ v:Nat,(cB c p).getD v false=true -> (cB c p').getD v false=true:=λv h=>H.cB (v:Int) h
 have n: ∀ v:Int,Cc q.nbrs (pB c p') v<=Cc q.nbrs (pB c p) v:=λv=>XG _ λx _ h=>H.pB x h
 have L: ∀ v:Int,Cc q.nbrs (cB c p) v<=Cc q.nbrs (cB c p') v:=λv=>XG _ λx _ h=>H.cB x h
 refine ⟨λv i l=>?_,λa s D k h=>?_⟩
 ·have:=o v (by omega) (S v l)
  grind
 ·rcases h with h | ⟨v,i,d,b,r,A⟩
  ·exact .inl (u5 H m D k h)
  ·have hk:=o v (by omega) (S v d);have e1:=n v;have e2:=L v;refine .inr ⟨v,by omega,S v d,b,?_⟩;rcases A with ⟨A,j⟩ | ⟨A,j,u⟩
   ·have e:(pB c p').getD a false=true:=by
     cases e:(pB c p').getD a false with
     | true=>rfl
     | false=>
      have:=Ml (f:=λx:Int=>(pB c p').getD x.toNat false) (g:=λx:Int=>(pB c p).getD x.toNat false) (a:=(a:Int)) e r (nb q.nbrs v) (λx _ h=>H.pB x h) b
      grind [Cc]
    exact ⟨e,.inl ⟨by omega,j⟩⟩
   ·have e:=rM (c:=c) (by omega) k u
    have l:(cB c p').getD a false=false:=by
     cases l:(cB c p').getD a false with
     | false=>rfl
     | true=>
      have:=Ml (f:=λx:Int=>(cB c p).getD x.toNat false) (g:=λx:Int=>(cB c p').getD x.toNat false) (a:=(a:Int)) j l (nb q.nbrs v) (λx _ h=>H.cB x h) b
      grind [Cc]
    grind
end
theorem mono (C:Br q i p)(g:Br q i p')(m:HG (con q i) p' p)(c:OA q (con q i) p'):
 Cp q (con q i) p/\ ∀ k,k<(con q i).cells.length -> ∀ s,tb (Ac (con q i) p' k) s=true -> Bo q (con q i) p k s -> Bo q (con q i) p' k s:=by
 have W:=C.work;have l:=g.work;have D: ∀ a,a<(con q i).cells.length -> CB (Ac (con q i) p' a):=λa y=>(l.at y).in64 (by have:=l.k;omega)
 have N:=Pp (Po C.kind);have n: ∀ {k:Int},(con q i).kind=k -> k≠2 -> k≠3 -> k≠9 -> Cp q (con q i) p:=λhk b z Z=>⟨λh=>absurd (hk.symm.trans h) b,λh=>absurd (hk.symm.trans h) z,c.ok.2.2.1,λh=>absurd (hk.symm.trans h) Z⟩
 have all: ∀ {hk:(con q i).kind=8∨(con q i).kind=9},Oh (con q i) q p p':=λ{hk}=>by
  have u:=C.len;have Fb:=g.len
  have B:BH p'=false:=E8.2 λj f=>by
   have hk8:(con q i).cells.length=p'.length:=by
    have h:=g.kind
    grind [Hx]
   have:=c.nz j (by omega)
   have e:Ac (con q i) p' j=p'.getD j 0:=by
    unfold Ac;rw [g.cells.2.2 (by omega) j (by omega),zCl]
   rwa [e] at this
  have G:=g.all hk B
  have w: ∀ j,j<p.length -> ∀ s,tb (p'.getD j 0) s=true -> tb (p.getD j 0) s=true:=λj f s d=>by
   have e: ∀ x:Ξ,Ac (con q i) x j=x.getD j 0:=λx=>by
    unfold Ac;rw [G.id j (by omega),zCl]
   have:=m j (by rw [G.len];omega) s (by rw [e];exact d)
   rwa [e] at this
  have A:BH p=false:=E8.2 λj f=>by
   have h:=E8.1 B j (by omega);obtain ⟨s,r,b⟩:=(Eu ((g.sm j (by omega)).in64 (by have:=l.k;omega))).1 h;exact (Eu ((C.sm j f).in64 (by have:=l.k;omega))).2 ⟨s,r,w j f s b⟩
  exact ⟨C.all hk A,G,by omega,w⟩
 rcases N with hk | hk | hk | hk | hk | hk | hk | hk | hk
 ·refine ⟨n hk (by decide) (by decide) (by decide),λk o s d h=>?_⟩;unfold Bo at h ⊢;rw [hk] at h ⊢;simp at h ⊢;exact zKX W m D c.nz h
 ·have b:=zKm m D c.nz (c.ok.1 hk);refine ⟨⟨λ_=>b.1,λh=>absurd (hk.symm.trans h) (by decide),c.ok.2.2.1,λh=>absurd (hk.symm.trans h) (by decide)⟩,λk o s d h=>?_⟩
  simp_all [Bo]
 ·have b:=yo (q:=q) W l m (c.ok.2.1 hk);refine ⟨⟨λh=>absurd (hk.symm.trans h) (by decide),λ_=>b.1,c.ok.2.2.1,λh=>absurd (hk.symm.trans h) (by decide)⟩,λk o s d h=>?_⟩
  simp_all [Bo]
 ·grind [Bo,zCS]
 ·grind [Bo,zBl]
 ·refine ⟨n hk (by decide) (by decide) (by decide),λk o s d h=>?_⟩;have b:=C.two (.inl hk)
  grind [Bo,qz]
 ·refine ⟨n hk (by decide) (by decide) (by decide),λk o s d h=>?_⟩;have b:=C.two (.inr hk)
  grind [Bo,qz]
 ·have H:=all (hk:=.inl hk)
  have e: ∀ (x:Ξ) (j:Nat),j<p.length -> Ac (con q i) x j=x.getD j 0:=λx j f=>by
   unfold Ac;rw [H.W.id j f,zCl]
  have M:=H.W.len;have u:=H.len;have K: ∀ x a s,Bo q (con q i) x a s↔Id (con q i) q x a s:=λx a s=>by unfold Bo;rw [hk];simp
  refine ⟨n hk (by decide) (by decide) (by decide),λk o s d h=>?_⟩;rw [K] at h ⊢;rw [e _ _ (by omega)] at d;refine zK2 H (λv E=>?_) (by omega) d h;obtain ⟨t,r,b⟩:=c.left v (by omega)
  grind
 ·have H:=all (hk:=.inr hk)
  have e: ∀ (x:Ξ) (j:Nat),j<p.length -> Ac (con q i) x j=x.getD j 0:=λx j f=>by
   unfold Ac;rw [H.W.id j f,zCl]
  have M:=H.W.len;have u:=H.len;have K: ∀ x a s,Bo q (con q i) x a s↔No (con q i) q x a s:=λx a s=>by unfold Bo;rw [hk];simp
  have b:=zE7 H (c.ok.2.2.2 hk) λv E=>by
   obtain ⟨t,r,b⟩:=c.left v (by omega)
   grind
  refine ⟨⟨λh=>absurd (hk.symm.trans h) (by decide),λh=>absurd (hk.symm.trans h) (by decide),c.ok.2.2.1,λ_=>b.1⟩,λk o s d h=>?_⟩
  grind
end
end
section
set_option maxRecDepth 100000
set_option maxHeartbeats 40000000
end
section
set_option maxRecDepth 100000
set_option maxHeartbeats 40000000
def qa (n:Nat)(a F:Int):Option Bool:= bif (decide (F>=0)) then bif (decide (F<16)) then if 0<=F/\ F<=(IntKind.i64.bits:Int) then some ((bits .and .i64 a (IntKind.i64.wrap (1*2 ^ (F).toNat))) != 0) else none else some false else some false
def IN (n:Nat)(a F:Int):Option Bool:=qa n a F
variable {r:Bool}{a:Int}{n:Nat}
def Kz {F:Int}(h:IN n a F=some r):EQ 72 [.i a,.i F] [] (.bool r) [] true:=by
 refine ot Tryz.func72 λB N=>?_
 revert r;apply gO;exact bi 6 (bi 9 (gi (lE AC [4] [])) (lE AC [4] [])) (lE AC [4] [])
def qb (n:Nat)(a R N:Int):Option Bool:= if AG (a-R) then bif (decide ((a-R)>=N)) then some true else if AG (R-a) then some (decide ((R-a)>=N)) else none else none
def fk (n:Nat)(a R N:Int):Option Bool:=qb n a R N
def zDM {R b:Int}(h:fk n a R b=some r):EQ 71 [.i a,.i R,.i b] [] (.bool r) [] true:=by
 refine ot Tryz.func71 λB N=>?_
 revert r;apply gO;exact gw 9 (bi 11 (lE AC [6] []) (gw 15 (lE AC [6] [])))
inductive Rx where
 | l1 (x8:Bool) (o0:Ω)
 | l2 (x8:Bool) (x9:Int) (o0:Ω)
 | l3 (x8:Bool) (x9 x10:Int) (o0:Ω)
def fh (n:Nat)(self:Rx -> Option (Ω))(E:List Ξ)(AM:Ω)(start:Int)(x8:Bool)(o0:Ω):Option (Ω):= bif x8 then self (.l2 false 0 o0) else if E.length=o0.length then some o0 else none
def fg (n:Nat)(self:Rx -> Option (Ω))(E:List Ξ)(AM:Ω)(start:Int)(x8:Bool)(v:Int)(o0:Ω):Option (Ω):= bif (decide (v<(E.length:Int))) then self (.l3 x8 v 0 o0) else self (.l1 x8 o0)
def VL (n:Nat)(self:Rx -> Option (Ω))(E:List Ξ)(S:Ω)(start:Int)(x8:Bool)(v x10:Int)(o0:Ω):Option (Ω):= if 0<=v/\ v<(E.length:Int) then bif (decide (x10<(((E.getD v.toNat []).length:Nat):Int))) then if 0+v.toNat<o0.length then bif (o0.getD (0+v.toNat) false) then if (0<=x10/\ x10<(((E.getD v.toNat []).length:Nat):Int))/\ ((0:Int)<=((E.getD v.toNat []).getD x10.toNat 0)/\ ((E.getD v.toNat []).getD x10.toNat 0)<(S.length:Int)) then bif (S.getD (((E.getD v.toNat []).getD x10.toNat 0).toNat) false) then if ((0:Int)<=((E.getD v.toNat []).getD x10.toNat 0)/\ ((E.getD v.toNat []).getD x10.toNat 0)<(E.length:Int))/\ 0+(((E.getD v.toNat []).getD x10.toNat 0).toNat)<o0.length then bif (!(o0.getD (0+(((E.getD v.toNat []).getD x10.toNat 0).toNat)) false)) then if AG (x10+1) then self (.l3 true v (x10+1) (o0.set (0+(((E.getD v.toNat []).getD x10.toNat 0).toNat)) true)) else none else if AG (x10+1) then self (.l3 x8 v (x10+1) o0) else none else none else if AG (x10+1) then self (.l3 x8 v (x10+1) o0) else none else none else if AG (x10+1) then self (.l3 x8 v (x10+1) o0) else none else none else if AG (v+1) then self (.l2 x8 (v+1) o0) else none else none
def qY (n:Nat)(self:Rx -> Option (Ω))(E:List Ξ)(AM:Ω)(start:Int):Option (Ω):= if (((E.length:Int):Int)=(E.length:Int)/\ 0<=(E.length:Int)/\ ((E.length:Int):Int)<=1000000000000)/\ (0<=start/\ start<(E.length:Int))/\ 0+start.toNat<(List.replicate E.length false).length then self (.l1 true ((List.replicate E.length false).set (0+start.toNat) true)) else none
def GU (E:List Ξ)(S:Ω)(start:Int):Nat -> Rx -> Option (Ω)
 | 0,_=>none
 | n+1,.l1 x8 o0=>fh n (GU E S start n) E S start x8 o0
 | n+1,.l2 x8 v o0=>fg n (GU E S start n) E S start x8 v o0
 | n+1,.l3 x8 v x10 o0=>VL n (GU E S start n) E S start x8 v x10 o0
def Ky (n:Nat)(E:List Ξ)(S:Ω)(start:Int):Option (Ω):=qY n (GU E S start n) E S start
def zDH (n B:Nat)(N:Yd 0)(E:List Ξ)(S:Ω)(start:Int)(r:Ω):Rx -> Prop
 | .l1 x8 o0=>∀ f:Nat,n<=f -> TW B N (FQ Tryz.f105 0 (.bools r) []) (Ag f (An (AR Tryz.f105) 0 [])) ⟨AF 72 [(0,.sl 1 E.length (AK AO E)),(1,.bools S),(7,.msl 0 1 0 E.length),(8,.bool x8)],[some (.bools o0)]⟩
 | .l2 x8 v o0=>∀ f Y:Nat,n<=f -> n<=Y -> TW B N (FQ Tryz.f105 0 (.bools r) []) (Ag Y (An (AR Tryz.f105) 2 [f])) ⟨AF 72 [(0,.sl 1 E.length (AK AO E)),(1,.bools S),(7,.msl 0 1 0 E.length),(8,.bool x8),(9,.i v)],[some (.bools o0)]⟩
 | .l3 x8 v x10 o0=>∀ f Y a:Nat,n<=f -> n<=Y -> n<=a -> TW B N (FQ Tryz.f105 0 (.bools r) []) (Ag a (An (AR Tryz.f105) 4 [f,Y])) ⟨AF 72 [(0,.sl 1 E.length (AK AO E)),(1,.bools S),(7,.msl 0 1 0 E.length),(8,.bool x8),(9,.i v),(10,.i x10)],[some (.bools o0)]⟩
def zDI (B:Nat)(N:Yd 0)(b:List Ξ)(S:Ω)(start:Int):Al (GU b S start) (zDH · B N b S start):=ia (λ_=>rfl) λn C A r h=>by
 cases A
 case l1 x8 o0=>
  intro f a;refine rd a λf a=>?_
  revert r;apply gO;exact bi 17 (lN AC [0] (C _ _ · f n a Nat.le.refl)) (gn λq=>lF λp=>ez AC [6] [0] p [0] (H0.g q))
 case l2 x8 x9 o0=>
  intro f Y a x;have a:=zGf a;refine rd x λY x=>?_
  revert r;apply gO;exact bi 21 (lN AC [0] (C _ _ · f Y n a x Nat.le.refl)) (lG AC [0] (C _ _ · f a))
 case l3 x8 x9 x10 o0=>
  intro f Y E a x l;have a:=zGf a;have x:=zGf x;refine rd l λE l=>?_
  revert r;apply gO;exact gn λq=>jg q (bi 30 (jg q (gi (bi 36 (jg q (gc (gn λs=>jg s (gi (bi 47 (jg q (jg s (gc (gn λc=>jg c (gn λH=>jg H (bi 60 (jg q (jg s (jg c (jg H (gw 32 (lG AC [0] (C _ _ · f Y E a x l))))))) (gw 32 (lG AC [0] (C _ _ · f Y E a x l))))))))) (gw 32 (lG AC [0] (C _ _ · f Y E a x l)))))))) (gw 32 (lG AC [0] (C _ _ · f Y E a x l)))))) (gw 23 (lG AC [0] (C _ _ · f Y a x))))
variable {S:Ω}
def ff {E:List Ξ}{start:Int}{r:Ω}(h:Ky n E S start=some r):EQ 105 [.sl 1 E.length (AK AO E),.bools S,.i start] [] (.bools r) [] true:=by
 refine ot Tryz.func105 λB N=>?_
 revert r;apply gO;exact gc (gi (gc (gi (gi (lN AC [0] ((zDI B N E S start n) _ _ · n Nat.le.refl))))))
inductive Rz where
 | l1 (x4:Int)
 | l2 (x3:Nat) (x4:Int) (o0:Ξ)
def VN (n:Nat)(self:Rz -> Option (Ξ))(S:Ω)(K:Int):Option (Ξ):= bif (decide (K<(S.length:Int))) then if 0<=K/\ K<(S.length:Int) then bif (S.getD K.toNat false) then if ((0=0/\ 1=([K]:Ξ).length)/\ 0<([K]:Ξ).length/\ ([K]:Ξ).length<=Ay)/\ AG (K+1) then self (.l2 (([K]:Ξ).length) (K+1) ([K]:Ξ)) else none else if AG (K+1) then self (.l1 (K+1)) else none else none else some ([]:Ξ)
def VM (n:Nat)(self:Rz -> Option (Ξ))(S:Ω)(H:Nat)(K:Int)(o0:Ξ):Option (Ξ):= bif (decide (K<(S.length:Int))) then if 0<=K/\ K<(S.length:Int) then bif (S.getD K.toNat false) then if ((0=0/\ 1=([K]:Ξ).length)/\ (0=0/\ H=o0.length)/\ o0.length+([K]:Ξ).length<=Ay)/\ AG (K+1) then self (.l2 (o0.length+([K]:Ξ).length) (K+1) (o0++([K]:Ξ))) else none else if AG (K+1) then self (.l2 H (K+1) o0) else none else none else if H=o0.length then some o0 else none
def zDJ (n:Nat)(self:Rz -> Option (Ξ))(AM:Ω):Option (Ξ):= self (.l1 0)
def Jv (S:Ω):Nat -> Rz -> Option (Ξ)
 | 0,_=>none
 | n+1,.l1 K=>VN n (Jv S n) S K
 | n+1,.l2 H K o0=>VM n (Jv S n) S H K o0
def Na (n:Nat)(S:Ω):Option (Ξ):=zDJ n (Jv S n) S
def zDK (n B:Nat)(N:Yd 0)(S:Ω)(r:Ξ):Rz -> Prop
 | .l1 K=>∀ f:Nat,n<=f -> TW B N (FQ Tryz.f104 0 (.ints r) []) (Ag f (An (AR Tryz.f104) 0 [])) ⟨AF 20 [(0,.bools S),(3,.nils),(4,.i K)],[]⟩
 | .l2 H K o0=>∀ f:Nat,n<=f -> TW B N (FQ Tryz.f104 0 (.ints r) []) (Ag f (An (AR Tryz.f104) 0 [])) ⟨AF 20 [(0,.bools S),(3,.msl 0 1 0 H),(4,.i K)],[oI o0]⟩
def zDL (B:Nat)(N:Yd 0)(S:Ω):Al (Jv S) (zDK · B N S):=ia (λ_=>rfl) λn C A r h=>by
 cases A
 case l1 x4=>
  intro f a;refine rd a λf a=>?_
  revert r;apply gO;exact bi 8 (gi (bi 14 (gc (gi (gw 10 (lG AC [1] (C _ _ · f a))))) (gw 10 (lG AC [] (C _ _ · f a))))) (lF λp=>el AC [2] [] p [] H0 [.nils] AN.ints_nil)
 case l2 x3 x4 o0=>
  intro f a;refine rd a λf a=>?_
  revert r;apply gO;exact bi 8 (gi (bi 14 (gc (gi (gw 10 (lG AC [2] (C _ _ · f a))))) (gw 10 (lG AC [0] (C _ _ · f a))))) (gn λq=>lF λp=>ez AC [2] [0] p [0] (H0.g q))
def fj {r:Ξ}(h:Na n S=some r):EQ 104 [.bools S] [] (.ints r) [] true:=by
 refine ot Tryz.func104 λB N=>?_
 revert r;apply gO;exact lN AC [] ((zDL B N S n) _ _ · n Nat.le.refl)
def zAr:Au (A9 Tryz.f27 9) [] (List.range 16) []:=by unfold Au;kernel_rfl
def PB:BX:=λi=>match i with
 | 9=>.ord [] (List.range 16) []
 | _=>.no
inductive Yz where
 | l1 (x6:Int)
def U4 (n:Nat)(self:Yz -> Option Int)(q:AA)(pos:Ξ)(K:Int):Option Int:= bif (decide (K<(pos.length:Int))) then if 0<=K/\ K<(pos.length:Int) then bif (decide ((pos.getD K.toNat 0)<0)) then some 250 else if 0<=IntKind.u64.wrap q.symbols/\ IntKind.u64.wrap q.symbols<=(IntKind.i64.bits:Int) then bif (decide ((pos.getD K.toNat 0)>=(IntKind.i64.wrap (1*2 ^ (IntKind.u64.wrap q.symbols).toNat)))) then some 250 else if AG (K+1) then self (.l1 (K+1)) else none else none else none else some 0
def po (n:Nat)(self:Yz -> Option Int)(q:AA)(pos:Ξ):Option Int:= (Rl n q).bind λj=> bif (j != 0) then some j else bif ((pos.length:Int) != q.cells) then some 250 else self (.l1 0)
def PE (q:AA)(pos:Ξ):Nat -> Yz -> Option Int
 | 0,_=>none
 | n+1,.l1 K=>U4 n (PE q pos n) q pos K
def U5 (n:Nat)(q:AA)(pos:Ξ):Option Int:=po n (PE q pos n) q pos
def zCG (n B:Nat)(N:Yd 0)(q:AA)(pos:Ξ)(r:Int):Yz -> Prop
 | .l1 K=>∀ f:Nat,n<=f -> TW B N (FQ Tryz.f27 0 (.i r) []) (Ag f (An (AR Tryz.f27) 0 [])) ⟨AF 39 [(1,.ints pos),(2,.ref 0 0),(6,.i K)],[oC (AH q)]⟩
def zCH (B:Nat)(N:Yd 0)(q:AA)(pos:Ξ):Al (PE q pos) (zCG · B N q pos):=ia (λ_=>rfl) λn C A r h=>by
 cases A
 case l1 x6=>
  intro f a;refine rd a λf a=>?_
  revert r;apply gO;exact bi 20 (jg zAr (gn λb=>jg b (bi 27 (lE PB [4] []) (jg b (gi (bi 37 (lE PB [4] []) (gw 22 (lG PB [0] (C _ _ · f a))))))))) (lE PB [4] [])
def zCE {q:AA}{pos:Ξ}{r:Int}(h:U5 n q pos=some r):EQ 27 [.agg 5 (L1 (AH q)),.ints pos] [] (.i r) [] true:=by
 refine ot Tryz.func27 λB N=>?_
 revert r;apply gO;exact cf pT [oC (AH q)] λ_=>bi 10 (lE PB [4] []) (bi 16 (lE PB [4] []) (lN PB [0] ((zCH B N q pos n) _ _ · n Nat.le.refl)))
end
section
variable {q:AA} {c:AD} {pos l:Ξ} {D D':Nat -> Ψ} {k:Nat}
end
section
variable {q:AA} {c:AD} {pos:Ξ} {k:Nat}
def Oo (c:AD)(pos:Ξ)(i j:Nat)(g:Nat -> Nat):Prop:=∀ b,i<=b -> b<j -> tb (Ac c pos b) (g b)=true
def Ho (q:AA)(i j:Nat)(g:Nat -> Nat):Prop:=∀ b,i<=b -> b+1<j -> q.values.getD (g b) 0<q.values.getD (g (b+1)) 0
variable {b:Int}
def m6 : ∀ (l:Ξ) (a:Int),l.foldl (Kk q b) a=a∨∃ e∈l,q.values.getD e.toNat 0=l.foldl (Kk q b) a/\ q.values.getD e.toNat 0>b
 | [],a=>.inl rfl
 | e::l,a=>by
  rw [zI2];rcases m6 l (Kk q b a e) with h | ⟨x,c,d⟩
  ·rw [h];unfold Kk;split
   ·rename_i f;split
    ·exact .inr ⟨e,zIV,rfl,f⟩
    ·exact .inl rfl
   ·exact .inl rfl
  ·exact .inr ⟨x,zIG _ c,d⟩
def vR : ∀ (l:Ξ) (a:Int),l.foldl (KT q b) a=a∨∃ e∈l,q.values.getD e.toNat 0=l.foldl (KT q b) a/\ q.values.getD e.toNat 0<b
 | [],a=>.inl rfl
 | e::l,a=>by
  rw [zI2];rcases vR l (KT q b a e) with h | ⟨x,c,d⟩
  ·rw [h];unfold KT;split
   ·rename_i f;split
    ·exact .inr ⟨e,zIV,rfl,f⟩
    ·exact .inl rfl
   ·exact .inl rfl
  ·exact .inr ⟨x,zIG _ c,d⟩
def wP (W:B7 c k pos): ∀ i,i<=c.cells.length -> Gh q c pos i<100 -> ∃ g,Oo c pos 0 i g/\ Ho q 0 i g/\ (0<i -> q.values.getD (g (i-1)) 0=Gh q c pos i)
 | 0,_,_=>⟨λ_=>0,λb _ h=>absurd h (zGa b),λb _ h=>absurd h (zGa _),λh=>absurd h (Nat.lt_irrefl 0)⟩
 | i+1,hi,h=>by
  rcases m6 (q:=q) (b:=Gh q c pos i) (Bj (Ac c pos i)) 100 with d | ⟨e,d,a,f⟩
  ·have:Gh q c pos (i+1)=100:=d;omega
  ·have a:q.values.getD e.toNat 0=Gh q c pos (i+1):=a;obtain ⟨s,rfl,hs,j⟩:=(Fp (W.at (by omega)) (zGU W.k (by decide))).1 d;rw [zCl] at a f;obtain ⟨g,o,l,P⟩:=wP W i (by omega) (by omega);refine ⟨λb=>if b=i then s else g b,λb A m=>?_,λb A m=>?_,λ_=>?_⟩
   ·dsimp only
    by_cases e:b=i
    ·subst e;rw [zEd rfl];exact j
    ·rw [zGW e];exact o b A (by omega)
   ·have w:b≠i:=by omega
    dsimp only
    rw [zGW w]
    by_cases z:b+1=i
    ·have:=P (by omega);rw [zEd z,show b=i-1 by omega,this];exact f
    ·rw [zGW z];exact l b A (by omega)
   ·dsimp only
    rw [zEd (by omega)];exact a
variable {g:Nat -> Nat}
def zLo (W:B7 c k pos): ∀ i,i<c.cells.length -> Oo c pos 0 (i+1) g -> Ho q 0 (i+1) g -> Gh q c pos i<q.values.getD (g i) 0 -> Gh q c pos (i+1)<=q.values.getD (g i) 0:=λi hi d _ f=>by
 have h:=(Xw (q:=q) (b:=Gh q c pos i) (Bj (Ac c pos i)) 100).1 (zGv _);have a:=d i (zIR _) (by omega);have v:=(Fp (W.at hi) (zGU W.k (by decide)) (e:=(g i:Int))).2 ⟨g i,rfl,zGk λz=>(by rw [(W.at hi).hi z] at a;cases a),a⟩;have:=h.2 _ v;rw [zCl] at this;exact this f
def wR (W:B7 c k pos)(V:Ec q k): ∀ i,i<c.cells.length -> Oo c pos 0 (i+1) g -> Ho q 0 (i+1) g -> Gh q c pos i<q.values.getD (g i) 0
 | 0,hi,a,_=>by
  have d:=a 0 (zGd _) (by omega);have:=V.val (g 0) (zGk λz=>(by rw [(W.at hi).hi z] at d;cases d))
  show (-1:Int)<_
  omega
 | i+1,hi,a,e=>by
  have U:Oo c pos 0 (i+1) g:=λb h A=>a b h (by omega)
  have f:Ho q 0 (i+1) g:=λb h A=>e b h (by omega)
  have h:=wR W V i (by omega) U f;have A:=zLo W i (by omega) U f h;have h5:=e i (zIR _) (by omega);omega
def xF (W:B7 c k pos): ∀ m,m<=c.cells.length -> -1<H8 q c pos m -> ∃ g,Oo c pos (c.cells.length-m) c.cells.length g/\ Ho q (c.cells.length-m) c.cells.length g/\ (0<m -> q.values.getD (g (c.cells.length-m)) 0=H8 q c pos m)
 | 0,_,_=>⟨λ_=>0,λb d a=>absurd a (by omega),λb d a=>absurd a (by omega),λh=>absurd h (Nat.lt_irrefl 0)⟩
 | m+1,hm,h=>by
  rcases vR (q:=q) (b:=H8 q c pos m) (Bj (Ac c pos (c.cells.length-1-m))) (-1) with d | ⟨e,d,a,i⟩
  ·have:H8 q c pos (m+1)= -1:=d;omega
  ·have a:q.values.getD e.toNat 0=H8 q c pos (m+1):=a;obtain ⟨s,rfl,hs,j⟩:=(Fp (W.at (by omega)) (zGU W.k (by decide))).1 d;rw [zCl] at a i;obtain ⟨g,o,l,P⟩:=xF W m (by omega) (by omega);have x:c.cells.length-(m+1)=c.cells.length-1-m:=by omega
   refine ⟨λb=>if b=c.cells.length-1-m then s else g b,λb A f=>?_,λb A f=>?_,λ_=>?_⟩
   ·dsimp only
    by_cases e:b=c.cells.length-1-m
    ·subst e;rw [zEd rfl];exact j
    ·rw [zGW e];exact o b (by omega) f
   ·have z:b+1≠c.cells.length-1-m:=by omega
    dsimp only
    rw [zGW z]
    by_cases w:b=c.cells.length-1-m
    ·have:=P (by omega);rw [zEd w,show b+1=c.cells.length-m by omega,this];exact i
    ·rw [zGW w];exact l b (by omega) f
   ·dsimp only
    rw [zEd x];exact a
def xG (W:B7 c k pos)(V:Ec q k): ∀ m,m<c.cells.length -> Oo c pos (c.cells.length-1-m) c.cells.length g -> Ho q (c.cells.length-1-m) c.cells.length g -> q.values.getD (g (c.cells.length-1-m)) 0<H8 q c pos m
 | 0,v,f,_=>by
  have d:=f (c.cells.length-1-0) (by omega) (by omega);have:=V.val (g (c.cells.length-1-0)) (zGk λz=>(by rw [(W.at (by omega)).hi z] at d;cases d))
  show _<(100:Int)
  omega
 | m+1,v,f,j=>by
  have w:c.cells.length-1-m=c.cells.length-1-(m+1)+1:=by omega
  have U:Oo c pos (c.cells.length-1-m) c.cells.length g:=λb i A=>f b (by omega) A
  have l:Ho q (c.cells.length-1-m) c.cells.length g:=λb i A=>j b (by omega) A
  have i:=xG W V m (by omega) U l;have h:=(cG (q:=q) (b:=H8 q c pos m) (Bj (Ac c pos (c.cells.length-1-m))) (-1)).1 (zGv _);have d:=f (c.cells.length-1-m) (by omega) (by omega);have n:=(Fp (W.at (a:=c.cells.length-1-m) (by omega)) (zGU W.k (by decide)) (e:=(g (c.cells.length-1-m):Int))).2 ⟨_,rfl,zGk λz=>(by rw [(W.at (by omega)).hi z] at d;cases d),d⟩;have A:=h.2 _ n;rw [zCl] at A;have A:_<=H8 q c pos (m+1):=A i;have o:=j (c.cells.length-1-(m+1)) (zGd _) (by omega);rw [←w] at o;omega
variable {a:Nat}
def zCT (W:B7 c k pos)(V:Ec q k){s:Nat}(D:a<c.cells.length)(d:tb (Ac c pos a) s=true):IM q c pos a s=false↔∃ g,Oo c pos 0 c.cells.length g/\ Ho q 0 c.cells.length g/\ g a=s:=by
 have hv:=V.val s (zGk λn=>(by rw [(W.at D).hi n] at d;cases d));unfold IM Ka;rw [Bool.or_eq_false_iff,zIU,zIU];constructor
 ·rintro ⟨e,f⟩;obtain ⟨o,J,p2,I⟩:=wP (q:=q) W a (by omega) (by omega);obtain ⟨p,l,j,m⟩:=xF (q:=q) W (c.cells.length-(a+1)) (by omega) (by omega);have el:c.cells.length-(c.cells.length-(a+1))=a+1:=by omega
  rw [el] at l j m;refine ⟨λb=>if b<a then o b else if b=a then s else p b,λb _ i=>?_,λb _ i=>?_,by dsimp only;rw [if_neg (by omega),if_pos rfl]⟩
  ·dsimp only
   by_cases w:b<a
   ·rw [zEd w];exact J b (zIR _) w
   ·by_cases z:b=a
    ·subst z;rw [zGW w,zEd rfl];exact d
    ·rw [zGW w,zGW z];exact l b (by omega) i
  ·dsimp only
   by_cases w:b<a
   ·rw [zEd w]
    by_cases z:b+1<a
    ·rw [zEd z];exact p2 b (zIR _) z
    ·have:=I (by omega);rw [zGW z,zEd (by omega),show b=a-1 by omega,this];omega
   ·rw [zGW w,zGW (by omega: ¬ b+1<a),zGW (by omega: ¬ b+1=a)]
    by_cases z:b=a
    ·have:=m (by omega);rw [zEd z,z,this];omega
    ·rw [zGW z];exact j b (by omega) i
 ·rintro ⟨g,e,f,rfl⟩;have l1:=wR W V a D (λb h A=>e b h (by omega)) (λb h A=>f b h (by omega));have F:=xG W V (c.cells.length-1-a) (by omega) (λb h A=>e b (by omega) A) (λb h A=>f b (by omega) A);have w:c.cells.length-1-(c.cells.length-1-a)=a:=by omega
  have z:c.cells.length-(a+1)=c.cells.length-1-a:=by omega
  rw [w] at F;rw [z];omega
def Tz (c:AD)(pos:Ξ)(a:Nat)(inn:Bool):Nat -> Δ -> Prop
 | 0,t=>Xk c t
 | m+1,s=>∃ b u,kd c pos (c.cells.length-1-m) b=true/\ (c.cells.length-1-m=a -> b=inn)/\ nx c s.1 s.2 b=some u/\ Tz c pos a inn m u
variable {inn:Bool}
def Yo : ∀ (m:Nat),m+a+1<=c.cells.length -> ∀ t,Fu c pos (c.cells.length-m) t -> (Tz c pos a inn m t↔Jh c pos m t)
 | 0,_,t,_=>Iff.rfl
 | m+1,hm,s,i=>by
  have e:c.cells.length-(m+1)=c.cells.length-1-m:=by omega
  have z:c.cells.length-m=c.cells.length-1-m+1:=by omega
  rw [e] at i;constructor
  ·rintro ⟨b,u,d,_,f,A⟩;exact ⟨i,u,b,f,d,(Yo m (by omega) u (by rw [z];exact ⟨s,b,i,f,d⟩)).1 A⟩
  ·rintro ⟨_,u,b,f,d,A⟩;exact ⟨b,u,d,λh=>absurd h (by omega),f,(Yo m (by omega) u (by rw [z];exact ⟨s,b,i,f,d⟩)).2 A⟩
def pP (D:a<c.cells.length): ∀ (i:Nat),i<=a -> (Tz c pos a inn c.cells.length (0,0)↔∃ s,Fu c pos i s/\ Tz c pos a inn (c.cells.length-i) s)
 | 0,_=>⟨λh=>⟨(0,0),rfl,h⟩,λ⟨s,d,f⟩=>by
  have d:s=(0,0):=d;subst d;exact f⟩
 | i+1,hi=>by
  rw [pP D i (by omega)];have e:c.cells.length-i=(c.cells.length-(i+1))+1:=by omega
  have z:c.cells.length-1-(c.cells.length-(i+1))=i:=by omega
  constructor
  ·rintro ⟨s,d,f⟩;rw [e] at f;obtain ⟨b,u,g,_,j,k⟩:=f;rw [z] at g;exact ⟨u,⟨s,b,d,j,g⟩,k⟩
  ·rintro ⟨u,⟨s,b,d,j,g⟩,k⟩;refine ⟨s,d,?_⟩;rw [e];exact ⟨b,u,by rw [z];exact g,λh=>absurd h (by rw [z];omega),j,k⟩
def zLX (D:a<c.cells.length):KX c pos a inn↔Tz c pos a inn c.cells.length (0,0):=by
 rw [pP D a (zGd _)];have e:c.cells.length-a=(c.cells.length-1-a)+1:=by omega
 have z:c.cells.length-1-(c.cells.length-1-a)=a:=by omega
 have Q:c.cells.length-(c.cells.length-1-a)=a+1:=by omega
 constructor
 ·rintro ⟨s,t,d,f,h,A⟩;refine ⟨s,d,?_⟩;rw [e];exact ⟨inn,t,by rw [z];exact h,λ_=>rfl,f,(Yo _ (by omega) t (by rw [Q];exact ⟨s,inn,d,f,h⟩)).2 A⟩
 ·rintro ⟨s,d,f⟩;rw [e] at f;obtain ⟨b,t,h,A,g,k⟩:=f;rw [z] at h A;obtain rfl:=A rfl;exact ⟨s,t,d,g,h,(Yo _ (by omega) t (by rw [Q];exact ⟨s,b,d,g,h⟩)).1 k⟩
end
section
open Classical
section
variable {q:AA} {c:AD} {pos l:Ξ} {k:Nat}
end
end
section
open Classical
section
variable {q:AA} {c:AD} {pos l:Ξ} {k:Nat}
def Nb {n:Nat}{x:Int}{s:Nat}(hs:s<16):IN n x (s:Int)=some (tb x s):=by
 unfold IN qa;rw [zEI (by omega),zFi,zEI (by omega),zFi,zEd ⟨by omega,by show (s:Int)<=((64:Nat):Int);omega⟩,zCl];refine congrArg some ?_;have h:=Tk (s:=s) (by omega) x
 have e:bits .and .i64 x (IntKind.i64.wrap (1*2 ^ s))=bits .and .i64 (IntKind.i64.wrap (1*2 ^ s)) x:=by
  refine Km (GO _ _ _) (GO _ _ _) λt _=>?_
  rw [Is,Is,Bool.and_comm]
 show (!(bits .and .i64 x (IntKind.i64.wrap (1*2 ^ s))==0))=_
 rw [e,h,Bool.not_not]
end
end
section
variable {q:AA} {c:AD} {pos l:Ξ} {g:List Ξ} {inn:Ω} {s:Int}
def Qa {l:Ξ}{j:Nat}(hj:j<l.length):l.getD j 0∈l:=by
 grind
structure Mk (g:List Ξ)(inn:Ω)(s:Int)(o:Ω):Prop where
 len:o.length=g.length
 start:o.getD s.toNat false=true
 sub: ∀ v:Nat,v<g.length -> o.getD v false=true -> Rc g inn s v
def Cl (g:List Ξ)(inn o:Ω)(u:Nat):Prop:=o.getD u false=true -> ∀ v∈nb g u,inn.getD v.toNat false=true -> o.getD v.toNat false=true
def Ps (g:List Ξ)(inn:Ω)(s:Int)(o0:Ω)(C:Ω -> Prop)(x:Bool×Ω):Prop:=Mk g inn s x.2/\ (x.1=false -> x.2=o0/\ C o0)/\ (x.1=true -> E9 x.2<E9 o0)
def pass (G:Gr g)(hI:inn.length=g.length){o0:Ω}(t:Mk g inn s o0): ∃ x:Bool×Ω,Ps g inn s o0 (λo=>∀ u,u<g.length -> Cl g inn o u) x/\ AV (GU g inn s) (.l1 true o0) (.l1 x.1 x.2):=by
 have Aj:=G.len
 obtain ⟨x,d,y⟩:=LI (m:=GU g inn s) (λi (x:Bool×Ω)=>.l2 x.1 (i:Int) x.2) (λi x=>Ps g inn s o0 (λo=>∀ u,u<i -> Cl g inn o u) x) g.length (λi x hi d=>by
  have N4:=G.row i (by omega) (by omega)
  obtain ⟨x',B,z⟩:=LI (m:=GU g inn s) (λj (x:Bool×Ω)=>.l3 x.1 (i:Int) (j:Int) x.2) (λj x=>Ps g inn s o0 (λo=>(∀ u,u<i -> Cl g inn o u)/\ (o.getD i false=true -> ∀ X,X<j -> inn.getD ((nb g i).getD X 0).toNat false=true -> o.getD ((nb g i).getD X 0).toNat false=true)) x) (nb g i).length (λj x c d=>by
   obtain ⟨b,o⟩:=x;obtain ⟨a,k,f⟩:=d;have a:Mk g inn s o:=a;have k:b=false -> o=o0/\ _:=k;have f:b=true -> E9 o<E9 o0:=f;have p:=G.rng i (by omega) (by omega) _ (Qa c);have A:=a.len;have r1:AG ((j:Int)+1):=Ah.2 ⟨by omega,by omega⟩;have w:nb g (i:Int)=g.getD i []:=by unfold nb;rw [zCl]
   have U: ∀ n,GU g inn s (n+1) (.l3 b (i:Int) (j:Int) o)=bif o.getD i false&&inn.getD ((nb g i).getD j 0).toNat false&&!o.getD ((nb g i).getD j 0).toNat false then GU g inn s n (.l3 true (i:Int) ((j:Int)+1) (o.set ((nb g i).getD j 0).toNat true)) else GU g inn s n (.l3 b (i:Int) ((j:Int)+1) o):=λn=>by
    show VL n (GU g inn s n) g inn s b (i:Int) (j:Int) o=_
    unfold VL
    grind
   cases I:(o.getD i false&&inn.getD ((nb g i).getD j 0).toNat false&&!o.getD ((nb g i).getD j 0).toNat false)
   ·refine ⟨(b,o),⟨a,λl=>?_,f⟩,AV.one λn=>by rw [U n,I,zGK];rfl⟩
    grind
   ·rw [zFW,zFW,zG0] at I;obtain ⟨⟨J,p2⟩,r⟩:=I;refine ⟨(true,o.set ((nb g i).getD j 0).toNat true),⟨⟨by rw [zGj];exact A,?_,λv C K=>?_⟩,λl=>(by cases l),λ_=>?_⟩,AV.one λn=>by rw [U n,J,p2,r];rfl⟩
    ·rw [Qn (by omega)];split
     ·rfl
     ·exact a.start
    ·rw [Qn (by omega)] at K;split at K
     ·rename_i e;have hst:=Rc.step (a.sub i hi J) (Qa c) p2
      grind
     ·exact a.sub v C K
    ·have:=lJ o ((nb g i).getD j 0).toNat (by omega) r
     grind) (nb g i).length 0 x (by omega) ⟨d.1,λh=>⟨(d.2.1 h).1,(d.2.1 h).2,λ_ X D=>absurd D (zGa X)⟩,d.2.2⟩
  have w:nb g (i:Int)=g.getD i []:=by unfold nb;rw [zCl]
  refine ⟨x',⟨B.1,λh=>⟨(B.2.1 h).1,λu q=>?_⟩,B.2.2⟩,(AV.one (b:=.l3 x.1 (i:Int) ((0:Nat):Int) x.2) λn=>?_).trans (z.trans (AV.one λn=>?_))⟩
  ·obtain ⟨h4,E,h6⟩:=B.2.1 h;rcases zGg.1 q with q | rfl
   ·exact E u q
   ·intro ho v p CT;obtain ⟨j,c,rfl⟩:=zG2 p
    grind
  ·simp_all [fg,GU]
  ·show VL n (GU g inn s n) g inn s x'.1 (i:Int) ((nb g i).length:Int) x'.2=_
   unfold VL;rw [zEd ⟨by omega,by omega⟩,zEl (by rw [zCl,←w];omega),zGK,zEd (Ah.2 ⟨by omega,by omega⟩)];rfl) g.length 0 (false,o0) (by omega) ⟨t,λ_=>⟨rfl,λu q=>absurd q (zGa u)⟩,λh=>(by cases h)⟩
 refine ⟨x,d,(AV.one (b:=.l2 false ((0:Nat):Int) o0) λn=>rfl).trans (y.trans (AV.one λn=>?_))⟩
 simp_all [fg,GU]
def zC2 (G:Gr g)(a:inn.length=g.length): ∀ (z:Nat) (o0:Ω),E9 o0<=z -> Mk g inn s o0 -> ∃ o,(Mk g inn s o/\ ∀ u,u<g.length -> Cl g inn o u)/\ AV (GU g inn s) (.l1 true o0) (.l1 false o):=by
 intro z
 induction z with
 | zero=>
  intro o0 f X;obtain ⟨⟨b,o⟩,d,c⟩:=pass G a X;cases b
  ·obtain ⟨e,h⟩:=d.2.1 rfl
   grind
  ·have:E9 o<E9 o0:=d.2.2 rfl;omega
 | succ z V=>
  intro o0 f X;obtain ⟨⟨b,o⟩,d,c⟩:=pass G a X;cases b
  ·obtain ⟨e,h⟩:=d.2.1 rfl
   grind
  ·have:E9 o<E9 o0:=d.2.2 rfl;obtain ⟨o',i,A⟩:=V o (by omega) d.1;exact ⟨o',i,c.trans A⟩
def Tx (g:List Ξ)(inn:Ω)(s:Int)(o:Ω):Prop:=o.length=g.length/\ ∀ v:Nat,v<g.length -> (o.getD v false=true↔Rc g inn s v)
def zDG (G:Gr g)(u:inn.length=g.length)(h0:0<=s)(c:s<(g.length:Int)):At (λn=>Ky n g inn s) (Tx g inn s):=by
 have Aj:=G.len
 have X:Mk g inn s ((List.replicate g.length false).set s.toNat true):=by
  refine ⟨by simp,?_,λv a K=>?_⟩
  ·grind
  ·rw [Qn (by simp;omega)] at K;split at K
   ·rw [show ((v:Nat):Int)=s by omega];exact .start
   grind
 obtain ⟨o,⟨b,d⟩,A⟩:=zC2 G u _ _ (zGd _) X
 have all: ∀ v:Int,Rc g inn s v -> o.getD v.toNat false=true:=λv a=>by
  induction a with
  | start=>exact b.start
  | step h hb hi V=>
   have hr:=h.rng G h0 c;refine d _ (by omega) V _ ?_ hi
   grind
 refine ((A.ev (Ev.one (r:=o) λn=>?_)).p ⟨b.len,λv a=>⟨b.sub v a,λh=>by grind⟩⟩).eq λn=>?_
 ·show fh n (GU g inn s n) g inn s false o=_
  unfold fh;rw [zGK,zEd b.len.symm]
 ·unfold Ky qY
  grind
def qU (G:H9 g):Ev (λn=>NZ n g) 0:=⟨2*Fk g+1,λn u=>by
 show NZ n g=_
 rw [qV G.row u,G.ok];rfl⟩
theorem Tx.uniq {x x':Ω}(h:Tx g inn s x)(h':Tx g inn s x'):x=x':=
 km (h.1.trans h'.1.symm) λj e=>by rw [zIt,h.2 j (by rw [←h.1];exact e),h'.2 j (by rw [←h.1];exact e)]
variable {some':Ω}
end
abbrev zJG:=@List.getElem?_eq_none
section
variable {q:AA} {i:Int} {pos x:Ξ}
variable {c:AD}
def PR.sub (h:PR q c pos x){j s:Nat}(k:tb (x.getD j 0) s=true):j<pos.length/\ tb (pos.getD j 0) s=true:=by
 have e:j<pos.length:=by
  refine zGk λBg=>?_
  rw [zGR,zJG (by have:=h.len;omega)] at k;exact IG k
 refine ⟨e,?_⟩
 by_cases C:Fi q c pos
 ·exact (((h.live C j e).2 s).1 k).1
 ·rw [h.dead C,Q4] at k;exact absurd k IG
def PR.in64 (h:PR q c pos x)(j:Nat):CB (x.getD j 0):=by
 by_cases C:Fi q c pos
 ·by_cases e:j<pos.length
  ·exact (h.live C j e).1
  ·rw [zGR,zJG (by have:=h.len;omega)];exact ⟨by decide,by decide⟩
 ·rw [h.dead C];exact dO j
def I6 (hv:CK q=true){y:Ξ}:posOk q y=true↔(y.length:Int)=q.cells/\ ∀ j,j<y.length -> Sm q.symbols.toNat (y.getD j 0):=by
 unfold posOk;rw [zFW,zGo,zGV];constructor
 ·rintro ⟨a,b⟩;refine ⟨a,λj e=>?_⟩;have v:y.getD j 0∈y:=by grind
  have:=b _ v;rw [zFW,zGe,zGe] at this;exact this
 ·rintro ⟨a,b⟩;refine ⟨a,λz c=>?_⟩;obtain ⟨j,e,rfl⟩:=zG2 c;have:=b j e;rw [zGR,zGc e] at this;rw [zFW,zGe,zGe];exact this
end
section
variable {q:AA} {i:Int} {p p' x z:Ξ}
def xT (C:Br q i p){k s:Nat}(hk:k<(con q i).cells.length):LC q (con q i) p ((con q i).cells.getD k 0).toNat s↔Bo q (con q i) p k s:=by
 constructor
 ·rintro ⟨a,D,e,h⟩;have h1:=C.work.cells a D;have h2:=C.work.cells k hk;have BA:=C.cells.2.1
  grind [List.pairwise_iff_getElem]
 ·intro h;exact ⟨k,hk,rfl,h⟩
def dH (C:Br q i p):Fi q (con q i) p↔(∀ j,j<p.length -> p.getD j 0≠0)/\ OA q (con q i) p:=by
 have W:=C.work;constructor
 ·intro h;refine ⟨h.nz,λk hk=>h.nz _ (by have:=W.cells k hk;omega),h.ok,λk hk=>?_⟩;obtain ⟨s,_,c,d⟩:=h.left ((con q i).cells.getD k 0).toNat (by have:=W.cells k hk;omega);exact ⟨s,c,λb=>d ((xT C hk).2 b)⟩
 ·rintro ⟨c,d⟩;refine ⟨c,d.ok,λj f=>?_⟩
  by_cases g: ∃ k,k<(con q i).cells.length/\ ((con q i).cells.getD k 0).toNat=j
  ·obtain ⟨k,hk,rfl⟩:=g;obtain ⟨s,b,A⟩:=d.left k hk;exact ⟨s,zGk λh=>(by rw [Lr h] at b;cases b),b,λl=>A ((xT C hk).1 l)⟩
  ·obtain ⟨s,b,A⟩:=(Eu ((C.sm j f).in64 (by have:=W.k;omega))).1 (c j f);exact ⟨s,b,A,λ⟨a,D,e,_⟩=>g ⟨a,D,e⟩⟩
def ra (C:Br q i p)(e:Br q i p')(b:HG (con q i) p' p)(c:OA q (con q i) p'):OA q (con q i) p/\ ∀ k,k<(con q i).cells.length -> ∀ s,tb (Ac (con q i) p' k) s=true -> Bo q (con q i) p k s -> Bo q (con q i) p' k s:=by
 obtain ⟨f,d⟩:=mono C e b c;have W:=C.work;refine ⟨⟨λk hk=>?_,f,λk hk=>?_⟩,d⟩
 ·obtain ⟨s,a,_⟩:=c.left k hk;exact (Eu ((W.at hk).in64 (by have:=W.k;omega))).2 ⟨s,zGk λh=>(by rw [Lr h] at a;cases a),b k hk s a⟩
 ·obtain ⟨s,a,A⟩:=c.left k hk;exact ⟨s,b k hk s a,λg=>A (d k hk s a g)⟩
def qo (C:Br q i p)(a:Br q i p')(W: ∀ j s,tb (p'.getD j 0) s=true -> tb (p.getD j 0) s=true)(g:PR q (con q i) p x)(b:PR q (con q i) p' z): ∀ j s,tb (z.getD j 0) s=true -> tb (x.getD j 0) s=true:=by
 intro j s h;have hl:=C.len;have Fb:=a.len
 by_cases d:Fi q (con q i) p'
 ·obtain ⟨l,J⟩:=(dH a).1 d;obtain ⟨T,m⟩:=ra C a (λk _ s h=>W _ s h) J
  have n:Fi q (con q i) p:=(dH C).2 ⟨λj c=>by
   obtain ⟨t,o,A⟩:=(Eu ((a.sm j (by omega)).in64 (by have:=C.work.k;omega))).1 (l j (by omega));exact (Eu ((C.sm j c).in64 (by have:=C.work.k;omega))).2 ⟨t,o,W j t A⟩,T⟩
  obtain ⟨c,_⟩:=b.sub h;obtain ⟨f,r⟩:=((b.live d j c).2 s).1 h;refine ((g.live n j (by omega)).2 s).2 ⟨W j s f,λ⟨k,hk,e,u⟩=>r ⟨k,hk,e,m k hk s ?_ u⟩⟩
  show tb (p'.getD ((con q i).cells.getD k 0).toNat 0) s=true
  rw [e];exact f
 ·rw [b.dead d,Q4] at h;exact absurd h IG
end
section
variable {q:AA} {i:Int} {a b:Ξ}
def qj (C:Br q i a): ∃ x,Ev (λn=>PL n q i a) (x,0)/\ PR q (con q i) a x:=by
 obtain ⟨r,b,c,h,_⟩:=zDX (i:=i) C.fit (pos:=a) (zGU C.len256.2 (by decide));obtain ⟨x,e⟩:=r;have K:e=0:=c.trans C.check;subst K;exact ⟨x,b,h rfl⟩
end
section
variable {q:AA} {i j:Int} {p p' x y z:Ξ}
def PR.posOk (C:Br q i p)(h:PR q (con q i) p x):posOk q x=true:=by
 refine (I6 C.valid).2 ⟨by rw [h.len];exact C.len,λj hj=>?_⟩;have hk:=C.work.k;refine YR (by omega) (h.in64 j) λs a _=>?_
 cases c:tb (x.getD j 0) s with
 | false=>rfl
 | true=>
  obtain ⟨d,b⟩:=h.sub c;rw [(C.sm j d).hi a] at b;cases b
def PR.alive (C:Br q i p)(r:BH p=false)(h:PR q (con q i) p p):Fi q (con q i) p:=by
 refine Classical.byContradiction λa=>?_
 have h0:=C.len256.1;have:=E8.1 r 0 h0;rw [h.dead a,Q4] at this;exact this rfl
def zFG (C:Br q i p)(b:Br q i p')(y: ∀ k,k<(con q i).cells.length -> Ac (con q i) p' k=Ac (con q i) p k)(r:BH p=false)(B:BH p'=false)(h:PR q (con q i) p p):PR q (con q i) p' p':=by
 have c:=h.alive C r;obtain ⟨_,J⟩:=(dH C).1 c;obtain ⟨z,m⟩:=ra b C (λk hk s a=>by rw [y k hk];exact a) J;have d:Fi q (con q i) p':=(dH b).2 ⟨E8.1 B,z⟩;refine ⟨rfl,λ_ j f=>⟨(b.sm j f).in64 (by have:=b.work.k;omega),λs=>⟨λa=>⟨a,?_⟩,λa=>a.1⟩⟩,λu=>absurd d u⟩;rintro ⟨k,hk,e,g⟩
 have P:tb (Ac (con q i) p k) s=true:=by
  rw [←y k hk]
  show tb (p'.getD ((con q i).cells.getD k 0).toNat 0) s=true
  rw [e];exact a
 have l:=m k hk s P g;have hW:=C.work.cells k hk;have E:tb (p.getD ((con q i).cells.getD k 0).toNat 0) s=true:=P;have n:=(((h.live c ((con q i).cells.getD k 0).toNat (by omega)).2 s).1 E).2;exact n ⟨k,hk,rfl,l⟩
end
section
structure Gd (q:AA)(g:Ξ):Prop where
 len:(g.length:Int)=q.cells
 sym: ∀ j,j<g.length -> 0<=g.getD j 0/\ g.getD j 0<q.symbols
def Ar (g:Ξ):Ξ:=g.map λs=>IntKind.i64.wrap (1*2 ^ s.toNat)
def AT (c:AD)(g:Ξ)(a:Nat):Nat:=(g.getD (c.cells.getD a 0).toNat 0).toNat
def Dm (c:AD)(g:Ξ):Ω:=g.map λs=>tb c.set s.toNat
def rl (b:Nat -> Bool)(len:Nat):Nat -> Int -> Ξ
 | 0,l=>if l>0 then [l] else []
 | m+1,l=>bif b (len-1-m) then rl b len m (l+1) else if l>0 then l::rl b len m 0 else rl b len m 0
def M1 (n:List Ξ)(inn:Ω):Prop:=∀ u v:Nat,u<n.length -> v<n.length -> inn.getD u false=true -> inn.getD v false=true -> Rc n inn u v
def CI (q:AA)(c:AD)(g:Ξ):Prop:= (c.kind=1 -> ∀ a b,a<c.cells.length -> b<c.cells.length -> AT c g a=AT c g b -> a=b)/\ (c.kind=2 -> c.lo<=cnt (λa=>tb c.set (AT c g a)) c.cells.length/\ cnt (λa=>tb c.set (AT c g a)) c.cells.length<=c.hi)/\ (c.kind=3 -> c.lo<=Cj (λa=>q.values.getD (AT c g a) 0) c.cells.length/\ Cj (λa=>q.values.getD (AT c g a) 0) c.cells.length<=c.hi)/\ (c.kind=4 -> Ho q 0 c.cells.length (AT c g))/\ (c.kind=5 -> rl (λa=>tb c.set (AT c g a)) c.cells.length c.cells.length 0=c.runs)/\ (c.kind=6 -> I8 q c (AT c g 0) (AT c g 1)=true)/\ (c.kind=7 -> IT c (AT c g 0) (AT c g 1)=true)/\ (c.kind=8 -> M1 q.nbrs (Dm c g))/\ (c.kind=9 -> M1 q.nbrs (Dm c g)/\ ∀ v,v<g.length -> (Dm c g).getD v false=true -> Cc q.nbrs (Dm c g) v=2)
variable {g:Ξ}
def Fm :(Ar g).length=g.length:=zGh _
variable {j:Nat}
def Ra (e:j<g.length):(Ar g).getD j 0=IntKind.i64.wrap (1*2 ^ (g.getD j 0).toNat):=by
 unfold Ar;rw [zGR,zIL,zGc e,zGR,zGc e];rfl
variable {c:AD}
def Pb :(Dm c g).length=g.length:=zGh _
def gm (e:j<g.length):(Dm c g).getD j false=tb c.set (g.getD j 0).toNat:=by
 unfold Dm;rw [zGR,zIL,zGc e,zGR,zGc e];rfl
variable {s:Nat}
def ZS (k:s<64)(m:Int):(bits .andNot .i64 (IntKind.i64.wrap (1*2 ^ s)) m==0)=tb m s:=by
 rw [zIt,zGo,NB (GO _ _ _)];constructor
 ·intro h;have:=h s k;rw [Ls,Ir k,zEI rfl,zI9] at this;simpa using this
 ·intro h i hi;rw [Ls,Ir k]
  by_cases e:s=i
  ·subst e;rw [h];simp
  ·rw [zEl e];rfl
def ZT (k:s<64)(m:Int):(bits .and .i64 (IntKind.i64.wrap (1*2 ^ s)) m != 0)=tb m s:=by
 have:=Tk k m;rw [bne,this,Bool.not_not]
def zDa: ∀ s:Nat,s<16 -> NH (IntKind.i64.wrap (1*2 ^ s))=true:=by decide+kernel
def zDY: ∀ s:Nat,s<16 -> Bj (IntKind.i64.wrap (1*2 ^ s))= [(s:Int)]:=by decide+kernel
def zDZ {k:Nat}(hk:k<=16)(hs:s<k):Sm k (IntKind.i64.wrap (1*2 ^ s)):=
 YR (by omega) (Q8 _) λi hi _=>by rw [Ir (by omega),zEl (by omega)]
section
variable {q:AA} {i:Int} {g:Ξ} {c:AD}
def Gd.pos (G:Gd q g)(p:CK q=true):posOk q (Ar g)=true:=by
 have hk:=(DP p).2.1;refine (I6 p).2 ⟨by rw [Fm];exact G.len,λj e=>?_⟩;rw [Fm] at e;have:=G.sym j e;rw [Ra e];exact zDZ (by omega) (by omega)
def Gd.lt (G:Gd q g)(p:CK q=true){j:Nat}(e:j<g.length):(g.getD j 0).toNat<q.symbols.toNat/\ (g.getD j 0).toNat<16:=by
 have hk:=(DP p).2.1;have:=G.sym j e;omega
def RY (G:Gd q g)(p:CK q=true){j:Nat}(e:j<g.length)(s:Nat):tb ((Ar g).getD j 0) s=decide ((g.getD j 0).toNat=s):=by
 rw [Ra e,Ir (by have:=G.lt p e;omega)]
structure Sv (q:AA)(c:AD)(g:Ξ):Prop where
 v:CK q=true
 G:Gd q g
 cell: ∀ a,a<c.cells.length -> 0<=c.cells.getD a 0/\ c.cells.getD a 0<(g.length:Int)
variable {a:Nat}
def Sv.lt (S:Sv q c g)(D:a<c.cells.length):AT c g a<q.symbols.toNat/\ AT c g a<16:=S.G.lt S.v (by have:=S.cell a D;omega)
def Sv.set (S:Sv q c g)(D:a<c.cells.length):Ac c (Ar g) a=IntKind.i64.wrap (1*2 ^ AT c g a):=Ra (by have:=S.cell a D;omega)
theorem Sv.tb (S:Sv q c g)(D:a<c.cells.length)(s:Nat):tb (Ac c (Ar g) a) s=decide (AT c g a=s):=by
 rw [S.set D,Ir (by have:=S.lt D;omega)]
def Br.sv (C:Br q i (Ar g))(G:Gd q g):Sv q (con q i) g:=⟨C.valid,G,λa D=>by have:=C.work.cells a D;rw [Fm] at this;exact this⟩
def Sv.nz (S:Sv q c g): ∀ j,j<(Ar g).length -> (Ar g).getD j 0≠0:=λj e=>by
 rw [Fm] at e;refine (Eu (by rw [Ra e];exact Q8 _)).2 ⟨(g.getD j 0).toNat,by have:=S.G.lt S.v e;omega,?_⟩;rw [RY S.G S.v e,zEI rfl]
def z8 (S:Sv q c g)(o:Cp q c (Ar g))(h: ∀ a,a<c.cells.length -> ¬ Bo q c (Ar g) a (AT c g a)):Fi q c (Ar g)/\ PR q c (Ar g) (Ar g):=by
 have d: ∀ j s,j<(Ar g).length -> Proofs.YtodinaconebmdaaGreatDoor.tb ((Ar g).getD j 0) s=true -> ¬ LC q c (Ar g) j s:=by
  rintro j s e k ⟨a,D,rfl,m⟩;rw [Fm] at e;rw [RY S.G S.v e,zGe] at k;subst k;exact h a D m
 have C:Fi q c (Ar g):=⟨S.nz,o,λj e=>by
  have i:=e;rw [Fm] at i;have b:Proofs.YtodinaconebmdaaGreatDoor.tb ((Ar g).getD j 0) (g.getD j 0).toNat=true:=by rw [RY S.G S.v i,zEI rfl]
  exact ⟨(g.getD j 0).toNat,by have:=S.G.lt S.v i;omega,b,d j _ e b⟩⟩
 refine ⟨C,rfl,λ_ j e=>⟨by rw [Fm] at e;rw [Ra e];exact Q8 _,λs=>⟨λk=>⟨k,d j s e k⟩,λk=>k.1⟩⟩,λu=>absurd C u⟩
def zt (S:Sv q c g)(C:Fi q c (Ar g)):Cp q c (Ar g)/\ ∀ a,a<c.cells.length -> ¬ Bo q c (Ar g) a (AT c g a):=by
 refine ⟨C.ok,λa D m=>?_⟩;have hc:=S.cell a D;obtain ⟨s,_,b,d⟩:=C.left (c.cells.getD a 0).toNat (by rw [Fm];omega);rw [RY S.G S.v (by omega),zGe] at b;subst b;exact d ⟨a,D,rfl,m⟩
def zv (S:Sv q c g)(h:CI q c g↔Cp q c (Ar g)/\ ∀ a,a<c.cells.length -> ¬ Bo q c (Ar g) a (AT c g a)):(CI q c g -> Fi q c (Ar g)/\ PR q c (Ar g) (Ar g))/\ (¬ CI q c g -> ¬ Fi q c (Ar g)):=
 ⟨λv=>let ⟨b,d⟩:=h.1 v;z8 S b d,λu C=>u (h.2 (zt S C))⟩
def Z9 {k:Int}(hk:c.kind=k){M:Prop}(h:CI q c g↔M){A B:Prop}(C:Cp q c (Ar g)↔A)(I: ∀ a,a<c.cells.length -> (Bo q c (Ar g) a (AT c g a)↔¬ B))(X:M↔A/\ (0<c.cells.length -> B)):CI q c g↔Cp q c (Ar g)/\ ∀ a,a<c.cells.length -> ¬ Bo q c (Ar g) a (AT c g a):=by
 rw [h,C,X];refine and_congr Iff.rfl ⟨λb a D m=>(I a D).1 m (b (by omega)),λb h0=>Classical.byContradiction λu=>b 0 h0 ((I 0 h0).2 u)⟩
def zy (S:Sv q c g)(hk:c.kind=1):CI q c g↔Cp q c (Ar g)/\ ∀ a,a<c.cells.length -> ¬ Bo q c (Ar g) a (AT c g a):=by
 unfold CI Cp Bo;rw [hk];simp only [Qg,Sg];simp;constructor
 ·intro h a D b d f _;rw [S.tb d,zIU];exact λi=>f (h b a d D i)
 ·intro h a b D d e;refine Classical.byContradiction λf=>?_
  have:=h b d a D f (by rw [S.set D];exact zDa _ (S.lt D).2);rw [S.tb D,zIU] at this;exact this e
def oc (S:Sv q c g)(D:a<c.cells.length):EZ c (Ar g) a=Proofs.YtodinaconebmdaaGreatDoor.tb c.set (AT c g a)/\ FZ c (Ar g) a=Proofs.YtodinaconebmdaaGreatDoor.tb c.set (AT c g a):=by
 have k:AT c g a<64:=by have:=S.lt D;omega
 unfold FZ EZ;rw [S.set D,ZS k,ZT k,Bool.or_self];exact ⟨rfl,rfl⟩
def lI {p p':Nat -> Bool}: ∀ {n:Nat},(∀ a,a<n -> p a=p' a) -> cnt p n=cnt p' n
 | 0,_=>rfl
 | n+1,h=>by rw [Qh,Qh,lI λa ha=>h a (by omega),h n (by omega)]
def dl {p p':Nat -> Int}: ∀ {n:Nat},(∀ a,a<n -> p a=p' a) -> Cj p n=Cj p' n
 | 0,_=>rfl
 | n+1,h=>by simp only [Cj];rw [dl λa ha=>h a (by omega),h n (by omega)]
def zz (S:Sv q c g)(hk:c.kind=2):CI q c g↔Cp q c (Ar g)/\ ∀ a,a<c.cells.length -> ¬ Bo q c (Ar g) a (AT c g a):=by
 have w:cnt (EZ c (Ar g)) c.cells.length=cnt (λa=>Proofs.YtodinaconebmdaaGreatDoor.tb c.set (AT c g a)) c.cells.length:=lI λa D=>(oc S D).1
 have z:cnt (FZ c (Ar g)) c.cells.length=cnt (λa=>Proofs.YtodinaconebmdaaGreatDoor.tb c.set (AT c g a)) c.cells.length:=lI λa D=>(oc S D).2
 unfold CI Cp Bo;rw [hk];simp only [Mm,JW,w,z];simp
 have f: ∀ a,a<c.cells.length -> ¬ ((cnt (λa=>Proofs.YtodinaconebmdaaGreatDoor.tb c.set (AT c g a)) c.cells.length=c.hi/\ ¬ bits .andNot .i64 (Ac c (Ar g) a) c.set=0)/\ Proofs.YtodinaconebmdaaGreatDoor.tb c.set (AT c g a)=true∨(cnt (λa=>Proofs.YtodinaconebmdaaGreatDoor.tb c.set (AT c g a)) c.cells.length=c.lo/\ ¬ bits .and .i64 (Ac c (Ar g) a) c.set=0)/\ Proofs.YtodinaconebmdaaGreatDoor.tb c.set (AT c g a)=false):=by
  intro a D;have k:AT c g a<64:=by have:=S.lt D;omega
  have U:=ZS k c.set;have e:=ZT k c.set;rw [←S.set D] at U e;rintro (⟨⟨_,b⟩,d⟩ | ⟨⟨_,b⟩,d⟩)
  ·rw [d,zGo] at U;exact b U
  ·rw [d,bne_eq_false_iff_eq] at e;exact b e
 constructor
 ·rintro ⟨b,d⟩;refine ⟨⟨d,b⟩,λa D=>?_⟩;have:=f a D;simpa [not_or] using this
 ·rintro ⟨⟨b,d⟩,_⟩;exact ⟨d,b⟩
def YP (S:Sv q c g)(V:Ec q q.symbols.toNat)(D:a<c.cells.length):FI q (Ac c (Ar g) a)=q.values.getD (AT c g a) 0/\ FK q (Ac c (Ar g) a)=q.values.getD (AT c g a) 0:=by
 have hv:=V.val _ (S.lt D).1;unfold FI FK;rw [S.set D,zDY _ (S.lt D).2];simp only [zI2,List.foldl_nil,LJ,LT,zCl];constructor
 ·rw [zEd (by omega)]
 ·rw [zEd (by omega)]
def zo (S:Sv q c g)(V:Ec q q.symbols.toNat)(hk:c.kind=3):CI q c g↔Cp q c (Ar g)/\ ∀ a,a<c.cells.length -> ¬ Bo q c (Ar g) a (AT c g a):=by
 have w:LH q c (Ar g)=Cj (λa=>q.values.getD (AT c g a) 0) c.cells.length:=dl λa D=>(YP S V D).1
 have z:LS q c (Ar g)=Cj (λa=>q.values.getD (AT c g a) 0) c.cells.length:=dl λa D=>(YP S V D).2
 unfold CI Cp Bo;rw [hk];simp only [Lv,Iu,w,z]
 generalize Cj (λa=>q.values.getD (AT c g a) 0) c.cells.length=t
 simp;constructor
 ·rintro ⟨b,d⟩;refine ⟨⟨d,b⟩,λa D=>?_⟩;rw [(YP S V D).1,(YP S V D).2,zGR];omega
 ·rintro ⟨⟨b,d⟩,_⟩;exact ⟨d,b⟩
def zq (S:Sv q c g)(W:B7 c q.symbols.toNat (Ar g))(V:Ec q q.symbols.toNat)(hk:c.kind=4):CI q c g↔Cp q c (Ar g)/\ ∀ a,a<c.cells.length -> ¬ Bo q c (Ar g) a (AT c g a):=by
 have key: ∀ a,a<c.cells.length -> (IM q c (Ar g) a (AT c g a)=false↔Ho q 0 c.cells.length (AT c g)):=λa D=>by
  rw [zCT W V D (by rw [S.tb D,zEI rfl])];constructor
  ·rintro ⟨f,i,j,_⟩ b k A
   have w: ∀ b,b<c.cells.length -> f b=AT c g b:=λb d=>by
    have:=i b (zIR _) d;rw [S.tb d,zGe] at this;exact this.symm
   have:=j b k A
   rwa [w b (by omega),w (b+1) A] at this
  ·intro h;exact ⟨AT c g,λb _ d=>by rw [S.tb d,zEI rfl],h,rfl⟩
 have X:CI q c g↔Ho q 0 c.cells.length (AT c g):=by unfold CI;rw [hk];simp
 have J:Cp q c (Ar g)↔True:=by unfold Cp;rw [hk];simp
 refine Z9 hk X J (λa D=>?_) (B:=Ho q 0 c.cells.length (AT c g)) ⟨λh=>⟨trivial,λ_=>h⟩,λh=>?_⟩
 ·rw [←key a D];unfold Bo;rw [hk];simp
 ·rcases zMv c.cells.length with e | e
  ·intro b _ d;omega
  ·exact h.2 e
def oZ (S:Sv q c g){ok:Nat -> Nat -> Bool}(h2:c.cells.length=2)(a:Nat)(ha:a<c.cells.length):Gs ok c (Ar g) a (AT c g a)↔¬ ok (AT c g 0) (AT c g 1)=true:=by
 unfold Gs;have t0: ∀ t,Proofs.YtodinaconebmdaaGreatDoor.tb (Ac c (Ar g) 0) t=true↔AT c g 0=t:=λt=>by rw [S.tb (by omega),zGe]
 have b: ∀ t,Proofs.YtodinaconebmdaaGreatDoor.tb (Ac c (Ar g) 1) t=true↔AT c g 1=t:=λt=>by rw [S.tb (by omega),zGe]
 split
 ·rename_i e;subst e;simp only [b];exact not_congr ⟨λ⟨t,e,h⟩=>by rw [e];exact h,λh=>⟨_,rfl,h⟩⟩
 ·have:a=1:=by omega
  subst this;simp only [t0];exact not_congr ⟨λ⟨t,e,h⟩=>by rw [e];exact h,λh=>⟨_,rfl,h⟩⟩
def z7 (S:Sv q c g)(b:c.cells.length=2)(hk:c.kind=6):CI q c g↔Cp q c (Ar g)/\ ∀ a,a<c.cells.length -> ¬ Bo q c (Ar g) a (AT c g a):=by
 refine Z9 (M:=I8 q c (AT c g 0) (AT c g 1)=true) (A:=True) (B:=I8 q c (AT c g 0) (AT c g 1)=true) hk ?_ ?_ (λa D=>?_) ⟨λh=>⟨trivial,λ_=>h⟩,λh=>h.2 (by omega)⟩
 ·unfold CI;rw [hk];simp
 ·unfold Cp;rw [hk];simp
 ·rw [←oZ S b a D];unfold Bo;rw [hk];simp
def zr (S:Sv q c g)(b:c.cells.length=2)(hk:c.kind=7):CI q c g↔Cp q c (Ar g)/\ ∀ a,a<c.cells.length -> ¬ Bo q c (Ar g) a (AT c g a):=by
 refine Z9 (M:=IT c (AT c g 0) (AT c g 1)=true) (A:=True) (B:=IT c (AT c g 0) (AT c g 1)=true) hk ?_ ?_ (λa D=>?_) ⟨λh=>⟨trivial,λ_=>h⟩,λh=>h.2 (by omega)⟩
 ·unfold CI;rw [hk];simp
 ·unfold Cp;rw [hk];simp
 ·rw [←oZ S b a D];unfold Bo;rw [hk];simp
end
end
abbrev zGr:=@List.drop_eq_getElem_cons
abbrev zJD:=@List.drop_eq_nil_of_le
abbrev zMr:=@List.length_eq_zero_iff
abbrev zM5:=@forall_congr'
section
variable {q:AA} {i:Int} {g:Ξ} {c:AD}
def Ty (c:AD)(b:Nat -> Bool):Nat -> Δ -> Prop
 | 0,t=>Xk c t
 | m+1,s=>∃ u,nx c s.1 s.2 (b (c.cells.length-1-m))=some u/\ Ty c b m u
variable {inn:Bool}{a:Nat}
def od (S:Sv q c g)(D:a<c.cells.length):kd c (Ar g) a inn=true↔inn=tb c.set (AT c g a):=by
 have k:AT c g a<64:=by have:=S.lt D;omega
 unfold kd;rw [S.set D];cases inn
 ·rw [zGK,bne,ZS k];cases tb c.set (AT c g a) <;> simp
 ·rw [zFi,ZT k];cases tb c.set (AT c g a) <;> simp
def fD (S:Sv q c g)(D:a<c.cells.length): ∀ (m:Nat) (s:Δ),m<=c.cells.length -> (Tz c (Ar g) a inn m s↔Ty c (λa=>tb c.set (AT c g a)) m s/\ (c.cells.length<=a+m -> inn=tb c.set (AT c g a)))
 | 0,s,_=>⟨λh=>⟨h,λh=>by omega⟩,λh=>h.1⟩
 | m+1,s,hm=>by
  constructor
  ·rintro ⟨b,u,i,j,d,A⟩;obtain rfl:=(od S (by omega)).1 i;obtain ⟨f,k⟩:=(fD S D m u (by omega)).1 A;refine ⟨⟨u,d,f⟩,λh=>?_⟩
   by_cases e:c.cells.length-1-m=a
   ·rw [←j e,e]
   ·exact k (by omega)
  ·rintro ⟨⟨u,d,f⟩,k⟩;refine ⟨tb c.set (AT c g (c.cells.length-1-m)),u,(od S (by omega)).2 rfl,λe=>?_,d,(fD S D m u (by omega)).2 ⟨f,λh=>k (by omega)⟩⟩;rw [k (by omega),e]
def v7 (S:Sv q c g)(D:a<c.cells.length):KX c (Ar g) a inn↔Ty c (λa=>tb c.set (AT c g a)) c.cells.length (0,0)/\ inn=tb c.set (AT c g a):=by
 rw [zLX D,fD S D _ _ (zGd _)];exact ⟨λh=>⟨h.1,h.2 (by omega)⟩,λh=>⟨h.1,λ_=>h.2⟩⟩
def p7 {b:Nat -> Bool}{n:Nat}: ∀ (m:Nat) (l:Int),0<l -> ∃ x r,rl b n m l=x::r/\ l<=x
 | 0,l,h=>⟨l,[],by unfold rl;rw [zEd h],zGv _⟩
 | m+1,l,h=>by
  unfold rl;cases b (n-1-m)
  ·rw [zGK,zEd h];exact ⟨l,_,rfl,zGv _⟩
  ·rw [zFi];obtain ⟨x,r,a,h2⟩:=p7 m (l+1) (by omega);exact ⟨x,r,a,by omega⟩
variable {d:Nat}{l:Ξ}
def vO :l.drop d= []↔l.length<=d:=List.drop_eq_nil_iff
def kq (h:d<l.length):l.drop d=l.getD d 0::l.drop (d+1):=by
 rw [zGr h,zGR,zGc h];rfl
def Yn {b:Nat -> Bool}(g: ∀ x∈c.runs,1<=x): ∀ (m:Nat) (d l:Int),Mv c d l -> (Ty c b m (d,l)↔rl b c.cells.length m l=c.runs.drop d.toNat)
 | 0,d,l,h=>by
  obtain ⟨C,o,l0,k⟩:=h;have pos: ∀ j,j<c.runs.length -> 1<=c.runs.getD j 0:=λj i=>g _ (by rw [zGR,zGc i];exact zKJ i)
  show Xk c (d,l)↔_
  unfold Xk rl;simp only [zIa]
  by_cases f:l>0
  ·obtain ⟨o1,F⟩:=k f;rw [zEd f,kq (by omega)];constructor
   ·rintro (⟨_,e⟩ | ⟨_,w,z⟩)
    ·omega
    ·rw [show d.toNat=c.runs.length-1 by omega,←z,zJD (by omega)]
   ·intro e;injection e with w z
    have:=vO.1 z.symm;exact .inr ⟨by omega,by omega,by rw [w,show d.toNat=c.runs.length-1 by omega]⟩
  ·have:l=0:=by omega
   subst this;rw [zGW f,@eq_comm _ ([]:Ξ),vO];constructor
   ·rintro (⟨e,_⟩ | ⟨e0,w,z⟩)
    ·omega
    ·have:=pos (c.runs.length-1) (by omega);omega
   ·intro e;exact .inl ⟨by omega,rfl⟩
 | m+1,d,l,h=>by
  have h':=h;obtain ⟨C,o,l0,k⟩:=h;have pos: ∀ j,j<c.runs.length -> 1<=c.runs.getD j 0:=λj i=>g _ (by rw [zGR,zGc i];exact zKJ i)
  show (∃ u,nx c d l (b (c.cells.length-1-m))=some u/\ Ty c b m u)↔_
  unfold rl;cases hb:b (c.cells.length-1-m) with
  | true=>
   rw [zFi];unfold nx;rw [zFi]
   by_cases e:d<(c.runs.length:Int)/\ l<c.runs.getD d.toNat 0
   ·rw [zEd e,←Yn g m d (l+1) ⟨C,o,by omega,λ_=>⟨e.1,by omega⟩⟩];exact ⟨λ⟨u,w,z⟩=>by cases w;exact z,λh=>⟨_,rfl,h⟩⟩
   ·rw [zGW e];refine ⟨λ⟨u,w,_⟩=>by (cases w),λa=>?_⟩;obtain ⟨x,r,w,z⟩:=p7 (b:=b) (n:=c.cells.length) m (l+1) (by omega);rw [w] at a
    by_cases p:d.toNat<c.runs.length
    ·rw [kq p] at a;injection a with a _
     exact absurd ⟨by omega,by omega⟩ e
    ·rw [zJD (by omega)] at a;cases a
  | false=>
   rw [zGK];unfold nx;rw [zGK]
   by_cases f:l>0
   ·obtain ⟨o1,F⟩:=k f;rw [zGW (by omega),zEd f,kq (by omega)]
    by_cases e:l=c.runs.getD d.toNat 0
    ·rw [zEd e,←e];have:=Yn (b:=b) g m (d+1) 0 ⟨by omega,by omega,zGv _,λh=>by omega⟩;rw [show (d+1).toNat=d.toNat+1 by omega] at this;constructor
     ·rintro ⟨u,w,z⟩;cases w;rw [this.1 z]
     ·intro a;injection a with _ a
      exact ⟨_,rfl,this.2 a⟩
    ·rw [zGW e];refine ⟨λ⟨u,w,_⟩=>by (cases w),λa=>?_⟩;injection a with a _
     exact absurd a e
   ·have:l=0:=by omega
    subst this;rw [zEd rfl,zGW f,←Yn g m d 0 h'];exact ⟨λ⟨u,w,z⟩=>by cases w;exact z,λh=>⟨_,rfl,h⟩⟩
def zp (S:Sv q c g)(d: ∀ x∈c.runs,1<=x)(hk:c.kind=5):CI q c g↔Cp q c (Ar g)/\ ∀ a,a<c.cells.length -> ¬ Bo q c (Ar g) a (AT c g a):=by
 have key:=Yn (b:=λa=>tb c.set (AT c g a)) d c.cells.length 0 0 ⟨zGv _,by omega,zGv _,λh=>by omega⟩;refine Z9 (M:=rl (λa=>tb c.set (AT c g a)) c.cells.length c.cells.length 0=c.runs) (A:=Ks c=true) (B:=Ty c (λa=>tb c.set (AT c g a)) c.cells.length (0,0)) hk ?_ ?_ (λa D=>?_) ?_
 ·unfold CI;rw [hk];simp
 ·unfold Cp;rw [hk];simp
 ·have e:Bo q c (Ar g) a (AT c g a)↔Js c (Ar g) a (AT c g a):=by unfold Bo;rw [hk];simp
  rw [e];unfold Js;rw [v7 S D,v7 S D];cases tb c.set (AT c g a) <;> simp
 ·rw [key];unfold Ks
  show _↔_/\ (_ -> rl _ _ _ _=c.runs.drop 0)
  rw [zJb];rcases zMv c.cells.length with e | e
  ·rw [e]
   show ([]:Ξ)=c.runs↔(c.runs.length==0)=true/\ _
   rw [zGo,zMr];exact ⟨λh=>⟨h.symm,λh=>absurd h (Nat.lt_irrefl 0)⟩,λh=>h.1.symm⟩
  ·rw [zJN.2 (by omega:c.cells.length≠0)];exact ⟨λh=>⟨rfl,λ_=>h⟩,λh=>h.2 e⟩
def eN (S:Sv q c g):pB c (Ar g)=Dm c g/\ cB c (Ar g)=Dm c g:=by
 have h: ∀ s∈g,s.toNat<64:=λs k=>by
  obtain ⟨j,e,rfl⟩:=zG2 k;have:=S.G.lt S.v e;rw [zGR,zGc e] at this;have:g[j].toNat<16:=this.2;omega
 unfold pB cB Dm Ar;rw [List.map_map,List.map_map];exact ⟨List.map_congr_left λs k=>ZT (h s k) _,List.map_congr_left λs k=>ZS (h s k) _⟩
def ww (W:FP c q (Ar g))(D:a<g.length):AT c g a=(g.getD a 0).toNat:=by
 unfold AT;rw [W.id a (by rw [Fm];exact D),zCl]
def u6 (S:Sv q c g)(W:FP c q (Ar g)):(∀ a,a<c.cells.length -> ¬ Fq c q (Ar g) a (AT c g a))↔M1 q.nbrs (Dm c g):=by
 obtain ⟨Y,E⟩:=eN S;have m:=W.len;have j:=W.gl;have k:=W.g.gr;rw [Fm] at m j;unfold Fq;rw [Y,E];constructor
 ·intro h u v n p f o;obtain ⟨r,_,i⟩:=V0 (l:=Dm c g) (by rw [Pb];have:=W.l1;rw [Fm] at this;exact this);have t:=i;rcases i with ⟨_,h0⟩ | ⟨h0,b,x,_⟩
  ·have:=h0 u (by rw [Pb];omega);rw [f] at this;cases this
  ·rw [Pb] at b;have s: ∀ w:Nat,w<q.nbrs.length -> (Dm c g).getD w false=true -> Rc q.nbrs (Dm c g) r w:=λw hw Z=>Classical.byContradiction λd=>h w (by omega) ⟨Z,by rw [ww W (by omega),←gm (by omega)];exact Z,r,h0,t,d⟩
   exact ((s u n f).symm k h0 (by omega) x).trans (s v p o)
 ·rintro h a ha ⟨b,_,r,h0,i,d⟩;rcases i with ⟨e,_⟩ | ⟨_,y,z,_⟩
  ·omega
  ·rw [Pb] at y;have:=h r.toNat a (by omega) (by omega) z b;rw [show ((r.toNat:Nat):Int)=r by omega] at this;exact d this
def z6 (S:Sv q c g)(W:FP c q (Ar g))(hk:c.kind=8):CI q c g↔Cp q c (Ar g)/\ ∀ a,a<c.cells.length -> ¬ Bo q c (Ar g) a (AT c g a):=by
 obtain ⟨Y,E⟩:=eN S;have X:CI q c g↔M1 q.nbrs (Dm c g):=by unfold CI;rw [hk];simp
 have J:Cp q c (Ar g):=by unfold Cp;rw [hk];simp
 rw [X,←u6 S W,and_iff_right J];refine zM5 λa=>zM5 λha=>not_congr ?_
 have e:Bo q c (Ar g) a (AT c g a)↔Id c q (Ar g) a (AT c g a):=by unfold Bo;rw [hk];simp
 rw [e];unfold Id;refine ⟨.inl,λh=>h.elim id λ⟨b,d,_⟩=>?_⟩;rw [Y] at b;rw [E,b] at d;cases d
def zu (S:Sv q c g)(W:FP c q (Ar g))(hk:c.kind=9):CI q c g↔Cp q c (Ar g)/\ ∀ a,a<c.cells.length -> ¬ Bo q c (Ar g) a (AT c g a):=by
 obtain ⟨Y,E⟩:=eN S;have m:=W.len;rw [Fm] at m;have X:CI q c g↔M1 q.nbrs (Dm c g)/\ ∀ v,v<g.length -> (Dm c g).getD v false=true -> Cc q.nbrs (Dm c g) v=2:=by unfold CI;rw [hk];simp
 have J:Cp q c (Ar g)↔∀ v,v<g.length -> (Dm c g).getD v false=true -> Cc q.nbrs (Dm c g) v=2:=by
  have:Cp q c (Ar g)↔Pi c q (Ar g):=by unfold Cp;rw [hk];simp
  rw [this];unfold Pi;rw [Y,E,Fm];refine zM5 λv=>zM5 λ_=>zM5 λ_=>by omega
 rw [X,J,←u6 S W,and_comm];refine and_congr Iff.rfl (zM5 λa=>zM5 λha=>not_congr ?_);have e:Bo q c (Ar g) a (AT c g a)↔No c q (Ar g) a (AT c g a):=by unfold Bo;rw [hk];simp
 rw [e];unfold No gb;refine ⟨.inl,λh=>h.elim id ?_⟩;rintro ⟨v,_,_,_,b,⟨_,d⟩ | ⟨_,d,_⟩⟩
 ·rw [Y,gm (by omega),←ww W (by omega),d] at b;cases b
 ·rw [Y] at b;rw [E,b] at d;cases d
def sA (C:Br q i (Ar g))(G:Gd q g):(CI q (con q i) g -> Fi q (con q i) (Ar g)/\ PR q (con q i) (Ar g) (Ar g))/\ (¬ CI q (con q i) g -> ¬ Fi q (con q i) (Ar g)):=by
 have S:=C.sv G;have r:BH (Ar g)=false:=E8.2 S.nz;refine zv S ?_;rcases Pp (Po C.kind) with hk | hk | hk | hk | hk | hk | hk | hk | hk
 ·exact zy S hk
 ·exact zz S hk
 ·exact zo S C.vals hk
 ·exact zq S C.work C.vals hk
 ·refine zp S (λx d=>?_) hk;have h:=C.fine;unfold E6 at h;simp only [zFW,zGe] at h;exact (Xr.1 h.2 x d).1
 ·exact z7 S (C.two (.inl hk)) hk
 ·exact zr S (C.two (.inr hk)) hk
 ·exact z6 S (C.all (.inl hk) r) hk
 ·exact zu S (C.all (.inr hk) r) hk
end
section
variable {q:AA} {i:Int} {g:Ξ}
def zE0 (k:Int):IU k<=4:=by
 unfold IU;split
 ·decide
 ·split
  ·decide
  ·split <;> decide
def Gd.ctx (G:Gd q g)(R:DJ q)(p:CK q=true)(h0:0<=i)(a:i<(q.cons.length:Int)):Br q i (Ar g):=⟨R,p,h0,a,G.pos p⟩
def Kd (q:AA)(g:Ξ):Prop:=∀ i,0<=i -> i<(q.cons.length:Int) -> CI q (con q i) g
def MG (q:AA)(g:Ξ):Prop:=Gd q g/\ Kd q g
end
def pan (v:Value):List PanicEntry:=[{ v:=v,recovered:=false }]
section
variable {P:Program} {Γ:Av}
def MT (K:Nat)(h:DH)(ρ:List AI)(b:Nat):Prop:=∃ k o p,K<=k/\ h[k]? =some (some o)/\ ρ[k]? =some p/\ p.foot b
variable {ρ:List AI}{h:DH}
def MO.split (K:Nat)(b:Nat):MO h ρ b↔MO (h.take K) (ρ.take K) b∨MT K h ρ b:=by
 constructor
 ·rintro ⟨k,o,p,a,c,d⟩;rcases zIg k K with hk | hk
  ·exact .inl ⟨k,o,p,by grind,by grind,d⟩
  ·exact .inr ⟨k,o,p,hk,a,c,d⟩
 ·rintro (⟨k,o,p,a,c,d⟩ | ⟨k,o,p,_,a,c,d⟩)
  ·rw [zMy] at a c;split at a
   ·rename_i hk;rw [zEd hk] at c;exact ⟨k,o,p,a,c,d⟩
   ·cases a
  ·exact ⟨k,o,p,a,c,d⟩
def Tf (K:Nat):Option DO -> Bool
 | some (.cells l)=>l.all (C4 K)
 | some (.ro l)=>l.all (C4 K)
 | _=>true
variable {w:World}
def Aq.take {N:Ψ}(H:Aq P Γ N h ρ w){K:Nat}(hK:K<=h.length)(C:(h.take K).all (Tf K)=true):Aq P Γ (λb=>N b∨MT K h ρ b) (h.take K) (ρ.take K) w/\ ∀ b,MS (λb=>N b∨MT K h ρ b) (h.take K) (ρ.take K) b↔MS N h ρ b:=by
 have X: ∀ b,MS (λb=>N b∨MT K h ρ b) (h.take K) (ρ.take K) b↔MS N h ρ b:=λb=>by
  constructor
  ·rintro ((x | x) | x)
   ·exact .inl x
   ·exact .inr ((MO.split K b).2 (.inr x))
   ·exact .inr ((MO.split K b).2 (.inl x))
  ·rintro (x | x)
   ·exact .inl (.inl x)
   ·exact ((MO.split K b).1 x).elim .inr λy=>.inl (.inr y)
 have D: ∀ {α:Type} {l:List α} {k:Nat} {x:α},(l.take K)[k]? =some x -> k<K/\ l[k]? =some x:=λ{α l k x} hx=>by
  grind
 refine ⟨⟨by simp [H.len],λk o hk=>?_,λk o p b L E F=>?_,λi M o o' p p' b O Q R S T U V=>H.dis i M o o' p p' b O (D Q).2 (D R).2 (D S).2 (D T).2 U V,λb d=>?_,H.gi⟩,X⟩
 ·obtain ⟨W,Y⟩:=D hk;obtain ⟨p,hp,a⟩:=H.obj k o Y;refine ⟨p,by grind,?_⟩;have e:MS (λb=>N b∨MT K h ρ b) (h.take K) (ρ.take K)=MS N h ρ:=funext λb=>propext (X b)
  rw [e];cases o with
  | cells l=>
   have g:l.all (C4 K)=true:=zGV.1 C _ (zG6 hk);exact AX.out a rfl λj u q r=>AL.take _ (zGV.1 g _ (by simp [zGR,q])) r
  | ints l=>exact a
  | bools l=>exact a
  | arr m n f=>exact a
  | iter encs=>exact a
  | ro l=>
   obtain ⟨Z,r2,r3⟩:=a;have g:l.all (C4 K)=true:=zGV.1 C _ (zG6 hk);exact ⟨Z,r2,AX.out r3 rfl λj u q r=>AL.take _ (zGV.1 g _ (by simp [zGR,q])) r⟩
  | mo x=>exact a
 ·obtain ⟨W,G⟩:=D L;obtain ⟨I,c2,J⟩:=H.cel k o p b G (D E).2 F;refine ⟨I,?_,J⟩;rintro (hn | ⟨s,o',p',q1,v,A,B⟩)
  ·exact c2 hn
  ·exact H.dis k s o o' p p' b (by omega) G v (D E).2 A F B
 ·rcases d with d | ⟨s,o',p',q1,v,A,B⟩
  ·exact H.nlt b d
  ·obtain ⟨I,_,c,t,z,J⟩:=H.cel s o' p' b v A B
   grind
def Ll (fr:List DV):List DV:=fr.map λ_=>.any
def wq {M:Ψ}{fr:List DV}{t:Array Value}(h:fr.length=t.size):BE M w ρ (Ll fr) t:=⟨by simp [Ll,h],λj hj=>by
 have:(Ll fr).getD j .any= .any:=by
  grind [Ll]
 rw [this];trivial⟩
def PO {L:Nat}(Q:QY P Γ L):Exit -> Act -> World -> Prop
 | .panic c,a,w=>∃ fr h ρ N Y,Q (.panic c) ⟨Ll fr,h⟩ Y/\ fr.length=a.tmps.size/\ Aq P Γ N h ρ w/\ Y.I N h ρ w/\ a.defers= []
 | e,a,w=>∃ S ρ N Y,QE Q e S Y/\ AS P Γ N S ρ a w/\ Y.I N S.h ρ w/\ Mx none a.defers w/\ Bd Fence.wide none w
def PO.le {L:Nat}{Q:QY P Γ L}{e:Exit}{a:Act}(h:PO Q e a w): ∃ S ρ N Y,QE Q e S Y/\ AS P Γ N S ρ a w/\ Y.I N S.h ρ w/\ Mx none a.defers w/\ Bd Fence.wide none w:=by
 cases e with
 | panic c=>
  obtain ⟨fr,h,ρ,N,Y,b,d,f,A,g⟩:=h;exact ⟨⟨Ll fr,h⟩,ρ,N,Y,b,⟨f,wq d⟩,A,g,Bd.none⟩
 | _=>exact h
def Dt (P:Program)(Γ:Av){L:Nat}(Y:BK P Γ L)(ops:Array Oper)(l:Θ)(S:St)(Q:QY P Γ L):Prop:= ∀ N ρ a w,AS P Γ N S ρ a w -> Y.I N S.h ρ w -> a.defers= [] -> wpListIn Fence.wide 0 P ops (PO Q) (CQ ops l) a w
variable {ops:Array Oper}
theorem SD : ∀ (l l':Θ),CQ ops (l++l')=CQ ops l++CQ ops l'
 | [],_=>rfl
 | i::l,l'=>by
  simp only [List.cons_append,CQ];split
  ·rw [SD l l'];rfl
  ·exact SD l l'
def qs :CQ ops (List.range ops.size)=ops.toList:=by
 have go: ∀ (k:Nat),k<=ops.size -> CQ ops (List.range k)=ops.toList.take k:=by
  intro k
  induction k with
  | zero=>intro _;rfl
  | succ k ih=>
   grind [List.range_succ,SD,List.take_add_one,CQ]
 simp_all [List.take_of_length_le]
section
variable {L:Nat} {C:Du P} {i:Nat} {ρ0:List AI} {Q:QY P Γ L} {ops:Array Oper} {S:St} {Ai:BQ} {vs:List Prop}
variable {Y:BK P Γ L}
def Dt.done {l:Θ}{S':St}{u:BQ}(b:Dv Fence.wide P)(x:DE ops=true)(h:EN P Γ ops (CQ ops l) S Ai=some (S',vs,u))(c:Bq vs)(hk:Q .normal S' Y):Dt P Γ Y ops l S Q:=λN ρ a w R y m=>
 LZ b x _ (PP l) R h c λρ' a' w' R' st d=>Tr.done R y m Bd.none hk R' st.st (λk p _ g=>st.pl k p g) d
def Tr.ofO {id:Nat}(h:Dt P Γ Y ops (List.range ops.size) S Q):Tr P Γ Fence.wide none L Y (.region id ops false) S Q:=λN ρ a w R y m _=>zMb (zJK (by
 have:=h N ρ a w R y m;rw [qs] at this;exact this)) λ_ _ _=>PO.le
def XD (P:Program)(Γ:Av)(ops:Array Oper)(l:Θ)(p:Nat)(S:St)(Ai:BQ):Option (FuncId×List DV×Option Tmp×St×List Prop×BQ):=match EN P Γ ops (CQ ops l) S Ai with
 | none=>none
 | some (e,vs,h)=>match ops[p]? with
  | none=>none
  | some o=>match Kj ops e o with
   | some true=>match o.op with
    | .call c=>match c.callee with
     | .value f=>match AZ e.fr f with
      | .fn g m cap=>some (g,c.args.toList.map (AZ e.fr)++(List.range m).map cap,o.dst,e,vs,h)
      | _=>none
     | _=>none
    | _=>none
   | _=>none
def dR (P:Program)(Γ:Av)(ops:Array Oper)(l:Θ)(p:Nat)(S:St)(Ai:BQ):Option (List DV×Nat×Option Tmp×St×List Prop×BQ):=match EN P Γ ops (CQ ops l) S Ai with
 | none=>none
 | some (e,vs,h)=>match ops[p]? with
  | none=>none
  | some o=>match Kj ops e o with
   | some true=>match o.op with
    | .call c=>match c.callee with
     | .value f=>match AZ e.fr f with
      | .yl l=>match (c.args.toList.map (AZ e.fr)).all GD with
       | true=>some (c.args.toList.map (AZ e.fr),l,o.dst,e,vs,h)
       | false=>none
      | _=>none
     | _=>none
    | _=>none
   | _=>none
end
end
def AL.pl {M z:Ψ}{w:World}(X: ∀ b,z b -> M b){ρ ρ':List AI}(C: ∀ (k:Nat) (p:AI),ρ[k]? =some p -> ∃ N,ρ'[k]? =some { p with foot:=N }): ∀ (d:DV) {v:Value},AL M w d ρ v -> AL z w d ρ' v:=by
 have low: ∀ (d:DV) {v:Value},AL M w d [] v -> AL z w d [] v:=λd v h=>h.out d ⟨λ_ _ _ _=>rfl,λb A=>.inl (X b A),λk p hk=>by simp at hk⟩
 intro d
 induction d with
 | any=>intro v _;trivial
 | nils=>intro v h;exact h
 | int k n=>intro v h;exact h
 | bool b=>intro v h;exact h
 | str s=>intro v h;exact h
 | ints l=>intro v h;exact low (.ints l) h
 | bools l=>intro v h;exact low (.bools l) h
 | sl m n f _=>intro v h;exact low (.sl m n f) h
 | fp m f _=>intro v h;exact low (.fp m f) h
 | agg m f V=>rintro v ⟨cs,e,q,h⟩;exact ⟨cs,e,q,λj t=>let ⟨u,x,y⟩:=h j t;⟨u,x,V j y⟩⟩
 | tup m f V=>rintro v ⟨cs,e,q,h⟩;exact ⟨cs,e,q,λj t=>let ⟨u,x,y⟩:=h j t;⟨u,x,V j y⟩⟩
 | fn g m c V=>rintro v ⟨cs,e,q,h⟩;exact ⟨cs,e,q,λj t=>let ⟨u,x,y⟩:=h j t;⟨u,x,V j y⟩⟩
 | ref k j=>rintro v ⟨p,o,e⟩;obtain ⟨N,h⟩:=C k p o;exact ⟨_,h,e⟩
 | msl k m off n=>rintro v ⟨p,cap,o,r⟩;obtain ⟨N,h⟩:=C k p o;exact ⟨_,cap,h,r⟩
 | mp k m i j=>rintro v ⟨p,o,e⟩;obtain ⟨N,h⟩:=C k p o;exact ⟨_,h,e⟩
 | it k=>rintro v ⟨p,o,e⟩;obtain ⟨N,h⟩:=C k p o;exact ⟨_,h,e⟩
 | yl l=>intro v h;exact h
 | cst u=>intro v h;exact h
 | mri k i=>rintro v ⟨p,vs,o,r⟩;obtain ⟨N,h⟩:=C k p o;exact ⟨_,vs,h,r⟩
 | mse k m off n=>rintro v ⟨p,a,cap,o,r⟩;obtain ⟨N,h⟩:=C k p o;exact ⟨_,a,cap,h,r⟩
def A7.ro {L k:Nat}{S:St}{l:List DV}(hk:S.h[k]? =some (some (.cells l)))(hL:L<=k):A7 L S ⟨S.fr,S.h.set k (some (.ro l))⟩:=λP Γ N ρ a w R=>by
 obtain ⟨p,D,E⟩:=R.hr.obj k _ hk;have E:AX w p l.length _:=E;obtain ⟨V,N4⟩:=E;have E4:k<ρ.length:=(zGq.1 D).1;have hkh:k<S.h.length:=(zGq.1 hk).1
 let p':AI:={ p with foot:=λ_=>False }
 have A: ∀ (i:Nat) (q:AI),(ρ.set k p')[i]? =some q -> (i=k/\ q=p')∨(i≠k/\ ρ[i]? =some q):=λi q h=>by
  grind
 have J: ∀ (i:Nat) (q:AI),i≠k -> ρ[i]? =some q -> (ρ.set k p')[i]? =some q:=λi q hi h=>by grind
 have AE:(ρ.set k p')[k]? =some p':=by grind
 have FJ: ∀ (i:Nat) (q:AI),ρ[i]? =some q -> ∃ ft,(ρ.set k p')[i]? =some { q with foot:=ft }:=λi q h=>by
  by_cases e:i=k
  ·grind
  ·exact ⟨q.foot,J i q e h⟩
 have z: ∀ (i:Nat) (o:DO),(S.h.set k (some (.ro l)))[i]? =some (some o) -> (i=k/\ o= .ro l)∨(i≠k/\ S.h[i]? =some (some o)):=λi o h=>by
  grind
 have F: ∀ b,MO (S.h.set k (some (.ro l))) (ρ.set k p') b -> MO S.h ρ b/\ b≠p.blk:=by
  rintro b ⟨i,o,q,B,C,G⟩;rcases A i q C with ⟨rfl,rfl⟩ | ⟨hi,C⟩
  ·exact G.elim
  ·rcases z i o B with ⟨rfl,_⟩ | ⟨_,B⟩
   ·exact absurd rfl hi
   ·exact ⟨⟨i,o,q,B,C,G⟩,λe=>R.hr.dis i k o _ q p b hi B hk C D G (by rw [V];exact e)⟩
 have X: ∀ b,MS N (S.h.set k (some (.ro l))) (ρ.set k p') b -> MS N S.h ρ b:=λb g=>g.imp id λh=>(F b h).1
 have U:=R.hr.cel k _ p p.blk hk D (by rw [V]);have Q: ∀ (d:DV) {v:Value},AL (MS N S.h ρ) w d ρ v -> AL (MS N (S.h.set k (some (.ro l))) (ρ.set k p')) w d (ρ.set k p') v:=λd v h=>h.pl X FJ
 refine ⟨ρ.set k p',⟨⟨by simp [R.hr.len],λi o hi=>?_,λi o q b r s y=>?_,λi H o o' q W b I r s y K Y Z=>?_,R.hr.nlt,R.hr.gi⟩,⟨R.fr.1,λj hj=>Q _ (R.fr.2 j hj)⟩⟩,⟨AQ.refl _ _,λb g=>.inl (F b g).1⟩,λi q hi M=>J i q (by omega) M⟩
 ·rcases z i o hi with ⟨rfl,rfl⟩ | ⟨I,hi⟩
  ·refine ⟨p',AE,rfl,λO=>O.elim U.2.1 λO=>(F _ O).2 rfl,?_⟩;exact AX.out (R':=λj u=>AL (MS N (S.h.set i (some (.ro l))) (ρ.set i p')) w (l.getD j .any) (ρ.set i p') u) (show AX w { p' with foot:=λb=>b=p'.blk } l.length _ from ⟨rfl,N4⟩) rfl λj u _ c=>Q _ c
  ·obtain ⟨q,M,t⟩:=R.hr.obj i o hi;refine ⟨q,J i q I M,?_⟩;cases o with
   | cells l'=>exact AX.out t rfl λj u _ c=>Q _ c
   | ints l'=>exact AX.out t rfl λj u _ c=>c
   | bools l'=>exact AX.out t rfl λj u _ c=>c
   | arr m n f=>exact AX.out t rfl λj u _ c=>AL.out _ ⟨λ_ _ _ _=>rfl,λb g=>.inl (X b g),λ_ _ h=>by simp at h⟩ c
   | iter encs=>
    obtain ⟨gf,lb,Rd,q1,q2,q3,q4⟩:=t;exact ⟨gf,lb,Rd,q1,q2,λb g=>⟨λT=>(q3 b g).1 (X b T),(q3 b g).2⟩,q4⟩
   | ro l'=>
    obtain ⟨r1,r2,r3⟩:=t;exact ⟨r1,λT=>r2 (X _ T),AX.out r3 rfl λj u _ c=>Q _ c⟩
   | mo x=>exact t
 ·rcases A i q s with ⟨rfl,rfl⟩ | ⟨hi,s⟩
  ·exact y.elim
  ·rcases z i o r with ⟨rfl,_⟩ | ⟨_,r⟩
   ·exact absurd rfl hi
   ·exact R.hr.cel i o q b r s y
 ·rcases A i q y with ⟨rfl,rfl⟩ | ⟨hi,y⟩
  ·exact Y.elim
  ·rcases A H W K with ⟨rfl,rfl⟩ | ⟨Bp,K⟩
   ·exact Z.elim
   ·rcases z i o r with ⟨rfl,_⟩ | ⟨_,r⟩
    ·exact absurd rfl hi
    ·rcases z H o' s with ⟨rfl,_⟩ | ⟨_,s⟩
     ·exact absurd rfl Bp
     ·exact R.hr.dis i H o o' q W b I r s y K Y Z
section
def vE {h1 h:DH}(hS:h1.take h.length=h):h1=h++h1.drop h.length:=by
 grind [List.take_append_drop]
section
variable {L:Nat} {k K:List KI} {S:St} {ops:Array Oper}
 {c:List (DV×DH×Bool)} {o:List (Nat×DV)} {z:List (Nat×Fz)} {v:List Prop} {fr:List DV} {h h1:DH} {l l1 l2:Θ} {p:Nat} {dst:Option Tmp}
variable {Q:QY Tryz.prog GG L}{Y:BK Tryz.prog GG L}
theorem PS {e:List PanicEntry}(h:Q (.panic e) S Y): ∀ (k:List KI),BF Tryz.prog GG Fence.wide none L Q k (.panic e) S Y
 | []=>h
 | .blk _::k=>PS h k
 | .code _::k=>PS h k
 | .lend _::k=>PS h k
 | .scp::k=>PS h k
 | .loopN _ _::k=>PS h k
def gA (L:Nat)(h:DH):DH:=(List.range L).map λk=>VI (List.range L) (h.getD k none)
def Zp (B:Θ)(r:St×List Prop×BQ):List DV×DH×List Prop:=(forget B r.1.fr,r.1.h,r.2.1)
variable {B:Θ}
def rT {x:Option (St×List Prop×BQ)}(h:x.map (Zp B)=some (fr,h1,v)): ∃ f N,x=some (⟨f,h1⟩,v,N)/\ fr=forget B f:=by
 cases x with
 | none=>cases h
 | some q=>
  obtain ⟨⟨f,g⟩,w,N⟩:=q
  simp_all [Zp]
variable {S':St}
def Dt.weaken (h:A7 L S S')(hk:Dt Tryz.prog GG Y ops l S' Q):Dt Tryz.prog GG Y ops l S Q:=λN ρ a w R y m=>by
 obtain ⟨ρ1,I,b,B⟩:=h Tryz.prog GG N ρ a w R;exact hk N ρ1 a w I (Y.st y R.hr I.hr b B) m
def Yb {f:List DV}{d:DV}(K:fr=forget B f):A7 L ⟨Co f dst d,h⟩ ⟨Co fr dst d,h⟩:=by
 subst K;cases dst with
 | none=>exact A7.forget B f h
 | some t=>
  refine A7.fr (by simp [Co,Wm]) λj a=>?_
  have a:j<f.length:=by simpa [Co] using a
  show AN ((f.set t d).getD j .any) (((forget B f).set t d).getD j .any)
  by_cases e:t=j
  ·grind [Wm,AN.refl]
  ·have e1:(f.set t d).getD j .any=f.getD j .any:=by grind
   have e2:((forget B f).set t d).getD j .any=(forget B f).getD j .any:=by grind
   grind [kY,AN.refl,AN.any]
def WV:List KI -> Bool
 | .code _::_=>true
 | .blk _::k=>WV k
 | .scp::k=>WV k
 | .loopN _ _::_=>true
 | _=>false
def A1.leH {F:Fence}{B:Option Nat}(a:A7 L S S'): ∀ {k:List KI},WV k=true -> A1 Tryz.prog GG F B L Y Q k S' -> A1 Tryz.prog GG F B L Y Q k S
 | .code _::_,_,h=>Tr.weaken a h
 | .blk _::k,e,h=>A1.leH (k:=k) a e h
 | .scp::k,e,h=>A1.leH (k:=k) a e h
 | .loopN 0 _::_,_,h=>h.elim
 | .loopN (_+1) _::_,_,h=>Tr.weaken a h
 | .lend _::_,e,_=>by cases e
 | [],e,_=>by cases e
def Zo (B:Θ)(r:FuncId×List DV×Option Tmp×St×List Prop×BQ):FuncId×List DV×Option Tmp×List DV×DH×List Prop:=(r.1,r.2.1,r.2.2.1,forget B r.2.2.2.1.fr,r.2.2.2.1.h,r.2.2.2.2.1)
def rS {x:Option (FuncId×List DV×Option Tmp×St×List Prop×BQ)}{g:FuncId}{ds:List DV}(h:x.map (Zo B)=some (g,ds,dst,fr,h1,v)): ∃ f N,x=some (g,ds,dst,⟨f,h1⟩,v,N)/\ fr=forget B f:=by
 cases x with
 | none=>cases h
 | some q=>
  obtain ⟨g,ds,dst,⟨f,g'⟩,w,N⟩:=q
  simp_all [Zo]
def gE (B:Θ)(r:List DV×Nat×Option Tmp×St×List Prop×BQ):List DV×Nat×Option Tmp×List DV×DH×List Prop:=(r.1,r.2.1,r.2.2.1,forget B r.2.2.2.1.fr,r.2.2.2.1.h,r.2.2.2.2.1)
def zD1 {x:Option (List DV×Nat×Option Tmp×St×List Prop×BQ)}{g:List DV}{ds:Nat}(h:x.map (gE B)=some (g,ds,dst,fr,h1,v)): ∃ f N,x=some (g,ds,dst,⟨f,h1⟩,v,N)/\ fr=forget B f:=by
 cases x with
 | none=>cases h
 | some q=>
  obtain ⟨g,ds,dst,⟨f,g'⟩,w,N⟩:=q
  simp_all [gE]
end
def Y0:Θ -> DH -> Option DH
 | [],h=>some h
 | k::U,h=>match h.getD k none with
  | some (.cells l)=>Y0 U (h.set k (some (.ro l)))
  | _=>none
variable {fr:List DV}{L:Nat}
def A7.ros : ∀ (U:Θ) {h h':DH},Y0 U h=some h' -> (U.all λk=>Nat.ble L k)=true -> A7 L ⟨fr,h⟩ ⟨fr,h'⟩
 | [],h,h',e,_=>by cases e;exact A7.refl _ _
 | k::U,h,h',e,hk=>by
  simp only [zM4,zFW] at hk;simp only [Y0] at e;split at e
  ·rename_i l j;exact (A7.ro (S:=⟨fr,h⟩) (getD_some j) (zIi hk.1)).trans (A7.ros U e hk.2)
  ·cases e
def xV {Y:BK Tryz.prog GG L}{Q:QY Tryz.prog GG L}{K:List KI}{F:Fence}{B:Option Nat}{h:DH}(U:Θ)(h':DH)(hk:A1 Tryz.prog GG F B L Y Q K ⟨fr,h'⟩)(e:Y0 U h=some h':=by kernel_rfl)(l:(U.all λk=>Nat.ble L k)=true:=by kernel_rfl)(a:JD K=true:=by kernel_rfl):A1 Tryz.prog GG F B L Y Q K ⟨fr,h⟩:=
 Bi.le (A7.ros U e l) a hk
end
abbrev zNS:=@List.take_left'
section
variable {P:Program} {Γ:Av} {N:Ψ} {ρ:List AI} {w:World} {hc T:DH}
def hid (K:Nat)(T:DH):DH:=List.replicate K none++T
variable {K:Nat}
def WP {k:Nat}{o:DO}(h:(hid K T)[k]? =some (some o)):K<=k/\ ∀ l:DH,l.length=K -> (l++T)[k]? =some (some o):=by
 rcases zIg k K with hk | hk
 ·simp_all [hid,zI5]
 grind [hid]
variable {b:Nat}
theorem MO.hid (h:MO (hid hc.length T) ρ b):MT hc.length (hc++T) ρ b:=by
 obtain ⟨k,o,p,a,c,d⟩:=h;obtain ⟨hk,N⟩:=WP a;exact ⟨k,o,p,hk,N hc rfl,c,d⟩
def MT.mo {h:DH}(x:MT K h ρ b):MO h ρ b:=by
 obtain ⟨k,o,p,_,a,c,d⟩:=x;exact ⟨k,o,p,a,c,d⟩
def Aq.hide (H:Aq P Γ N (hc++T) ρ w):Aq P Γ (λb=>N b∨MO hc (ρ.take hc.length) b) (hid hc.length T) ρ w:=by
 have O: ∀ b,MO (hc++T) ρ b↔MO hc (ρ.take hc.length) b∨MT hc.length (hc++T) ρ b:=λb=>by
  have:=MO.split (h:=hc++T) (ρ:=ρ) hc.length b
  rwa [zNS] at this
  rfl
 have V: ∀ b,MO hc (ρ.take hc.length) b -> ¬ MT hc.length (hc++T) ρ b:=by
  rintro b ⟨k,o,p,g,a,m⟩ ⟨q,o',p',e,s,d,f⟩;rw [zMy] at a;split at a
  ·rename_i hk;exact H.dis k q o o' p p' b (by omega) (by grind) s a d m f
  ·cases a
 have W: ∀ b,MS (λb=>N b∨MO hc (ρ.take hc.length) b) (hid hc.length T) ρ b -> MS N (hc++T) ρ b:=λb hb=>by
  rcases hb with (hb | hb) | hb
  ·exact .inl hb
  ·exact .inr ((O b).2 (.inl hb))
  ·exact .inr (MO.hid hb).mo
 refine ⟨by rw [H.len];simp [hid],λk o hk=>?_,λk o p b e s d=>?_,λi v o o' p p' b D e s d f r u=>H.dis i v o o' p p' b D ((WP e).2 hc rfl) ((WP s).2 hc rfl) d f r u,λb hb=>?_,H.gi⟩
 ·obtain ⟨p,x,y⟩:=H.obj k o ((WP hk).2 hc rfl);exact ⟨p,x,y.out (D4 W ρ) (S:=λ_=>False) (AQ.refl _ _) (λ_ h=>h.elim) λ_ _ _ h=>h⟩
 ·obtain ⟨hk,j⟩:=WP e;obtain ⟨l,A,n⟩:=H.cel k o p b (j hc rfl) s d;exact ⟨l,λhb=>hb.elim A λhb=>V b hb ⟨k,o,p,hk,j hc rfl,s,d⟩,n⟩
 ·rcases hb with hb | hb
  ·exact H.nlt b hb
  ·obtain ⟨k,o,p,g,a,m⟩:=(O b).2 (.inl hb);obtain ⟨l,_,c,t,z,n⟩:=H.cel k o p b g a m
   grind
variable {pv:Value} {gf m:Nat} {cap:Nat -> DV} {JR:DH} {ys:List (List DV)} {out:Option DV}
end
end Go.Proofs.YtodinaconebmdaaGreatDoor
