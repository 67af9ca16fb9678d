/- Part 6 of 8 of what the proofs of these laws stand on. -/
import Derived.Test.YtodinaconebmdaaGreatDoorPgE
set_option linter.all false
namespace Go.Proofs.YtodinaconebmdaaGreatDoor
open Go.RowKit
section
set_option maxRecDepth 100000
set_option maxHeartbeats 40000000
def uM (n:Nat)(s G:Int):W9:= if 0<=G/\ G<=(IntKind.i64.bits:Int) then some ((bits .and .i64 (s/2 ^ (G).toNat) 1)==1) else none
def Ha (n:Nat)(s G:Int):W9:=uM n s G
variable {s G:Int}{n:Nat}
def Pw {r:Bool}(h:Ha n s G=some r):EQ 157 [.i s,.i G] [] (.bool r) [] true:=by
 refine ot Tryz.func157 λB N=>?_
 revert r;apply gO;exact gi (lE AD [4] [])
def uF (n:Nat)(lost:Ξ)(cell s:Int):Option Ξ:= if ((True)/\ (0=0/\ 0=([]:Ξ).length)/\ ([]:Ξ).length+lost.length<=Av)/\ (0<=cell/\ cell<((([]:Ξ).length+lost.length:Nat):Int))/\ 0+cell.toNat<(([]:Ξ)++lost).length then if ([]:Ξ).length+lost.length=((([]:Ξ)++lost).set (0+cell.toNat) (bits .or .i64 ((([]:Ξ)++lost).getD (0+cell.toNat) 0) s)).length then some ((([]:Ξ)++lost).set (0+cell.toNat) (bits .or .i64 ((([]:Ξ)++lost).getD (0+cell.toNat) 0) s)) else none else none
def Fs (n:Nat)(lost:Ξ)(cell s:Int):Option Ξ:=uF n lost cell s
variable {r:Ξ}{cell:Int}
def LL {lost:Ξ}(h:Fs n lost cell s=some r):EQ 154 [.ints lost,.i cell,.i s] [] (.ints r) [] true:=by
 refine ot Tryz.func154 λB N=>?_
 revert r;apply gO;exact gc (gi (gc (gn λa=>jg a (gn λb=>jg b (jg a (jg b (gn λR=>lF λp=>ez AD [6] [1] p [0] (H0.g R))))))))
def zDh:Ae (A0 Tryz.f143 11) [] (List.range 16) []:=Z0
def zDg:Ae (A0 Tryz.f143 12) [([0,1,2,3,4,5,6,7],8)] [9] []:=Z0
def MI:BF:=λi=>match i with
 | 11=>.ord [] (List.range 16) []
 | 12=>.ord [([0,1,2,3,4,5,6,7],8)] [9] []
 | _=>.no
inductive S0 where
 | l1 (x7:Ξ) (x8:Int)
 | l2 (x7:Ξ) (x8 x9:Int)
 | l3 (x7:Ξ) (x8 x9 x10:Int)
def jP (n:Nat)(self:S0 -> Option Ξ)(q:AA)(g:AC)(pos:Ξ)(P:Ξ)(x8:Int):Option Ξ:= bif (decide (x8<(g.ce.length:Int))) then self (.l2 P x8 0) else some P
def az (n:Nat)(self:S0 -> Option Ξ)(q:AA)(g:AC)(pos:Ξ)(P:Ξ)(x8 N:Int):Option Ξ:= bif (decide (N<(g.ce.length:Int))) then self (.l3 P x8 N 0) else if AG (x8+1) then self (.l1 P (x8+1)) else none
def OB (n:Nat)(self:S0 -> Option Ξ)(q:AA)(g:AC)(pos:Ξ)(P:Ξ)(x8 N x10:Int):Option Ξ:= bif (decide (x10<q.sy)) then bif (x8 != N) then if (0<=N/\ N<(g.ce.length:Int))/\ (0<=(g.ce.getD N.toNat 0)/\ (g.ce.getD N.toNat 0)<(pos.length:Int))/\ (0<=x10/\ x10<=(IntKind.i64.bits:Int)) then bif ((pos.getD ((g.ce.getD N.toNat 0).toNat) 0)==(IntKind.i64.wrap (1*2 ^ (x10).toNat))) then if 0<=x8/\ x8<(g.ce.length:Int) then (Fs n P (g.ce.getD x8.toNat 0) (IntKind.i64.wrap (1*2 ^ (x10).toNat))).bind λe=> if AG (x10+1) then self (.l3 e x8 N (x10+1)) else none else none else if AG (x10+1) then self (.l3 P x8 N (x10+1)) else none else none else if AG (x10+1) then self (.l3 P x8 N (x10+1)) else none else if AG (N+1) then self (.l2 P x8 (N+1)) else none
def uS (n:Nat)(self:S0 -> Option Ξ)(q:AA)(c_:AC)(pos:Ξ):Option Ξ:= if pos.length=(List.replicate pos.length (0:Int)).length/\ (((pos.length:Int):Int)=(pos.length:Int)/\ 0<=(pos.length:Int)/\ ((pos.length:Int):Int)<=1000000000000) then self (.l1 (List.replicate pos.length (0:Int)) 0) else none
def Ft (q:AA)(g:AC)(pos:Ξ):Nat -> S0 -> Option Ξ
 | 0,_=>none
 | n+1,.l1 P x8=>jP n (Ft q g pos n) q g pos P x8
 | n+1,.l2 P x8 N=>az n (Ft q g pos n) q g pos P x8 N
 | n+1,.l3 P x8 N x10=>OB n (Ft q g pos n) q g pos P x8 N x10
def bB (n:Nat)(q:AA)(g:AC)(pos:Ξ):Option Ξ:=uS n (Ft q g pos n) q g pos
def zGf (n B:Nat)(N:Yd 0)(q:AA)(g:AC)(pos:Ξ)(r:Ξ):S0 -> Prop:=px n B Fence.wide N (FQ Tryz.f143 0 (.ints r) []) (Ac Tryz.f143) λ
 | .l1 P x8=>(0,0,AH 60 [(2,.ints pos),(3,.ref 0 0),(4,.ref 1 0),(7,.ints P),(8,.i x8)],[oC (AE q),oC (AX g)])
 | .l2 P x8 a=>(1,2,AH 60 [(2,.ints pos),(3,.ref 0 0),(4,.ref 1 0),(7,.ints P),(8,.i x8),(9,.i a)],[oC (AE q),oC (AX g)])
 | .l3 P x8 a x10=>(2,4,AH 60 [(2,.ints pos),(3,.ref 0 0),(4,.ref 1 0),(7,.ints P),(8,.i x8),(9,.i a),(10,.i x10)],[oC (AE q),oC (AX g)])
def zGg (B:Nat)(N:Yd 0)(q:AA)(a:AC)(pos:Ξ):Al (Ft q a pos) (zGf · B N q a pos):=ia (λ_=>rfl) λn w c r h=>by
 cases c
 case l1 x7 x8=>
  intro m k;refine rd k λm k=>?_
  revert r;apply gO;exact bi 18 (lN MI [0,1] (w _ _ · m n k Nat.le.refl)) (lE MI [6] [])
 case l2 x7 x8 x9=>
  intro m g k j;have k:=zBR k;refine rd j λg j=>?_
  revert r;apply gO;exact bi 25 (lN MI [0,1] (w _ _ · m g n k j Nat.le.refl)) (gw 20 (lG MI [0,1] (w _ _ · m k)))
 case l3 x7 x8 x9 x10=>
  intro m g p k j G;have k:=zBR k;have j:=zBR j;refine rd G λp G=>?_
  revert r;apply gO;exact bi 31 (jg zDh (bi 36 (gc (gi (gc (gi (gn λb=>jg b (bi 48 (jg zDg (gi (jg b (cf LL [oC (AE q),oC (AX a)] λ_=>gw 33 (lG MI [0,1] (w _ _ · m g p k j G)))))) (gw 33 (lG MI [0,1] (w _ _ · m g p k j G))))))))) (gw 33 (lG MI [0,1] (w _ _ · m g p k j G))))) (gw 27 (lG MI [0,1] (w _ _ · m g k j)))
variable {pos:Ξ}{g:AC}{q:AA}
def zGd (h:bB n q g pos=some r):EQ 143 [.agg 5 (L1 (AE q)),.agg 9 (L1 (AX g)),.ints pos] [] (.ints r) [] true:=by
 refine ot Tryz.func143 λB N=>?_
 revert r;apply gO;exact gc (gn λW=>gi (jz 13 2 (jg W (lN MI [0,1] ((zGg B N q g pos n) _ _ · n Nat.le.refl)))))
def zDj:Ae (A0 Tryz.f144 19) [([0,1,2,3,4,5,6,7,8,9],10)] [11] []:=Z0
def zDi:Ae (A0 Tryz.f144 21) [([0,1,2,3,4,5,6,7,8,9,10,11],12)] [13] []:=Z0
def GZ:BF:=λi=>match i with
 | 19=>.ord [([0,1,2,3,4,5,6,7,8,9],10)] [11] []
 | 21=>.ord [([0,1,2,3,4,5,6,7,8,9,10,11],12)] [13] []
 | _=>.no
inductive MV where
 | l1 (x7 x8 x9:Int)
 | l2 (x7 x8 x9 x10:Int)
 | l3 (x6:Ξ) (x7 x8 AN:Int)
 | l4 (x7 x8 x9:Int)
 | l5 (x6:Ξ) (x7 x8 AN AQ:Int)
 | l6 (x6:Ξ) (x7 x8 AN:Int)
def S6 (n:Nat)(self:MV -> W5)(g:AC)(pos:Ξ)(P x8 N:Int):W5:= bif (decide (N<(g.ce.length:Int))) then if (0<=N/\ N<(g.ce.length:Int))/\ (0<=(g.ce.getD N.toNat 0)/\ (g.ce.getD N.toNat 0)<(pos.length:Int)) then bif ((bits .and .i64 (pos.getD ((g.ce.getD N.toNat 0).toNat) 0) g.set)==(pos.getD ((g.ce.getD N.toNat 0).toNat) 0)) then if AG (P+1) then self (.l2 (P+1) x8 N (pos.getD ((g.ce.getD N.toNat 0).toNat) 0)) else none else self (.l2 P x8 N (pos.getD ((g.ce.getD N.toNat 0).toNat) 0)) else none else bif (decide (P>g.hi)) then some (List.replicate pos.length (0:Int),false) else bif (decide (x8<g.lo)) then some (List.replicate pos.length (0:Int),false) else self (.l3 (List.replicate pos.length (0:Int)) P x8 0)
def jR (n:Nat)(self:MV -> W5)(g:AC)(pos:Ξ)(P x8 N x10:Int):W5:= bif ((bits .and .i64 x10 g.set) != 0) then if AG (x8+1) then self (.l4 P (x8+1) N) else none else self (.l4 P x8 N)
def bD (n:Nat)(self:MV -> W5)(g:AC)(pos:Ξ)(c:Ξ)(P x8 T:Int):W5:= bif (decide (T<(g.ce.length:Int))) then if (0<=T/\ T<(g.ce.length:Int))/\ (0<=(g.ce.getD T.toNat 0)/\ (g.ce.getD T.toNat 0)<(pos.length:Int)) then bif (P==g.hi) then bif ((bits .and .i64 (pos.getD ((g.ce.getD T.toNat 0).toNat) 0) g.set) != (pos.getD ((g.ce.getD T.toNat 0).toNat) 0)) then (Fs n c (g.ce.getD T.toNat 0) (bits .and .i64 (pos.getD ((g.ce.getD T.toNat 0).toNat) 0) g.set)).bind λe=> self (.l5 e P x8 T (pos.getD ((g.ce.getD T.toNat 0).toNat) 0)) else self (.l5 c P x8 T (pos.getD ((g.ce.getD T.toNat 0).toNat) 0)) else self (.l5 c P x8 T (pos.getD ((g.ce.getD T.toNat 0).toNat) 0)) else none else some (c,true)
def uW (n:Nat)(self:MV -> W5)(c_:AC)(pos:Ξ)(P x8 N:Int):W5:= if AG (N+1) then self (.l1 P x8 (N+1)) else none
def jQ (n:Nat)(self:MV -> W5)(g:AC)(pos:Ξ)(c:Ξ)(P x8 T k:Int):W5:= bif (x8==g.lo) then bif ((bits .and .i64 k g.set) != 0) then if (0<=T/\ T<(g.ce.length:Int))/\ AG (k-(bits .and .i64 k g.set)) then (Fs n c (g.ce.getD T.toNat 0) (k-(bits .and .i64 k g.set))).bind λe=> self (.l6 e P x8 T) else none else self (.l6 c P x8 T) else self (.l6 c P x8 T)
def uV (n:Nat)(self:MV -> W5)(c_:AC)(pos:Ξ)(c:Ξ)(P x8 T:Int):W5:= if AG (T+1) then self (.l3 c P x8 (T+1)) else none
def uX (n:Nat)(self:MV -> W5)(c_:AC)(pos:Ξ):W5:= if pos.length=(List.replicate pos.length (0:Int)).length/\ (((pos.length:Int):Int)=(pos.length:Int)/\ 0<=(pos.length:Int)/\ ((pos.length:Int):Int)<=1000000000000) then self (.l1 0 0 0) else none
def C1 (g:AC)(pos:Ξ):Nat -> MV -> W5
 | 0,_=>none
 | n+1,.l1 P x8 N=>S6 n (C1 g pos n) g pos P x8 N
 | n+1,.l2 P x8 N x10=>jR n (C1 g pos n) g pos P x8 N x10
 | n+1,.l3 c P x8 T=>bD n (C1 g pos n) g pos c P x8 T
 | n+1,.l4 P x8 N=>uW n (C1 g pos n) g pos P x8 N
 | n+1,.l5 c P x8 T k=>jQ n (C1 g pos n) g pos c P x8 T k
 | n+1,.l6 c P x8 T=>uV n (C1 g pos n) g pos c P x8 T
def bE (n:Nat)(g:AC)(pos:Ξ):W5:=uX n (C1 g pos n) g pos
def zGm (n B:Nat)(N:Yd 0)(g:AC)(pos:Ξ)(r:Ξ×Bool):MV -> Prop:=px n B Fence.wide N (FQ Tryz.f144 0 (.tup 2 (L1 [.ints r.1,.bool r.2])) []) (Ac Tryz.f144) λ
 | .l1 P x8 a=>(0,0,AH 120 [(1,.ints pos),(2,.ref 0 0),(6,.ints (List.replicate pos.length (0:Int))),(7,.i P),(8,.i x8),(9,.i a)],[oC (AX g)])
 | .l2 P x8 a x10=>(4,10,AH 120 [(1,.ints pos),(2,.ref 0 0),(6,.ints (List.replicate pos.length (0:Int))),(7,.i P),(8,.i x8),(9,.i a),(10,.i x10)],[oC (AX g)])
 | .l3 c P x8 T=>(0,2,AH 120 [(1,.ints pos),(2,.ref 0 0),(6,.ints c),(7,.i P),(8,.i x8),(11,.i T)],[oC (AX g)])
 | .l4 P x8 a=>(4,6,AH 120 [(1,.ints pos),(2,.ref 0 0),(6,.ints (List.replicate pos.length (0:Int))),(7,.i P),(8,.i x8),(9,.i a)],[oC (AX g)])
 | .l5 c P x8 T k=>(4,20,AH 120 [(1,.ints pos),(2,.ref 0 0),(6,.ints c),(7,.i P),(8,.i x8),(11,.i T),(12,.i k)],[oC (AX g)])
 | .l6 c P x8 T=>(4,16,AH 120 [(1,.ints pos),(2,.ref 0 0),(6,.ints c),(7,.i P),(8,.i x8),(11,.i T)],[oC (AX g)])
def zGn (B:Nat)(N:Yd 0)(g:AC)(pos:Ξ):Al (C1 g pos) (zGm · B N g pos):=ia (λ_=>rfl) λn w a r h=>by
 cases a
 case l1 x7 x8 x9=>
  intro m k;refine rd k λm k=>?_
  revert r;apply gO;exact bi 20 (gc (gi (gi (bi 36 (gw 38 (lG (AJ 20 (AJ 16 (AJ 10 (AJ 6 GZ)))) [0] (w _ _ · m k))) (lG (AJ 20 (AJ 16 (AJ 10 (AJ 6 GZ)))) [0] (w _ _ · m k)))))) (bi 49 (lE (AJ 20 (AJ 16 (AJ 10 (AJ 6 GZ)))) [4,5] []) (bi 54 (lE (AJ 20 (AJ 16 (AJ 10 (AJ 6 GZ)))) [4,5] []) (lN (AJ 20 (AJ 16 (AJ 10 (AJ 6 GZ)))) [0] (w _ _ · n Nat.le.refl))))
 case l2 x7 x8 x9 x10=>
  intro m k;have k:=zBR k;revert r;apply gO;exact bi 43 (gw 45 (lG (AJ 20 (AJ 16 (AJ 6 GZ))) [0] (w _ _ · m k))) (lG (AJ 20 (AJ 16 (AJ 6 GZ))) [0] (w _ _ · m k))
 case l3 x6 x7 x8 AN=>
  intro m k;refine rd k λm k=>?_
  revert r;apply gO;exact bi 61 (gc (gn λW=>jg W (gi (bi 75 (bi 82 (jg zDj (jg W (cf LL [oC (AX g)] λ_=>lG (AJ 20 (AJ 16 (AJ 10 (AJ 6 GZ)))) [0] (w _ _ · m k)))) (lG (AJ 20 (AJ 16 (AJ 10 (AJ 6 GZ)))) [0] (w _ _ · m k))) (lG (AJ 20 (AJ 16 (AJ 10 (AJ 6 GZ)))) [0] (w _ _ · m k)))))) (lE (AJ 20 (AJ 16 (AJ 10 (AJ 6 GZ)))) [4,5] [])
 case l4 x7 x8 x9=>
  intro m k;have k:=zBR k;revert r;apply gO;exact gw 22 (lG (AJ 20 (AJ 16 (AJ 10 GZ))) [0] (w _ _ · m k))
 case l5 x6 x7 x8 AN AQ=>
  intro m k;have k:=zBR k;revert r;apply gO;exact bi 98 (bi 104 (jg zDi (gc (gi (gw 117 (cf LL [oC (AX g)] λ_=>lG (AJ 16 (AJ 10 (AJ 6 GZ))) [0] (w _ _ · m k)))))) (lG (AJ 16 (AJ 10 (AJ 6 GZ))) [0] (w _ _ · m k))) (lG (AJ 16 (AJ 10 (AJ 6 GZ))) [0] (w _ _ · m k))
 case l6 x6 x7 x8 AN=>
  intro m k;have k:=zBR k;revert r;apply gO;exact gw 63 (lG (AJ 20 (AJ 10 (AJ 6 GZ))) [0] (w _ _ · m k))
def zGk {r:Ξ×Bool}(h:bE n g pos=some r):EQ 144 [.agg 9 (L1 (AX g)),.ints pos] [] (.tup 2 (L1 [.ints r.1,.bool r.2])) [] true:=by
 refine ot Tryz.func144 λB N=>?_
 revert r;apply gO;exact gc (gn λW=>gi (jz 15 1 (jg W (lN (AJ 20 (AJ 16 (AJ 10 (AJ 6 GZ)))) [0] ((zGn B N g pos n) _ _ · n Nat.le.refl)))))
inductive aq where
 | l1 (x5 x6:Int)
def ap (n:Nat)(self:aq -> Option Int)(q:AA)(s:Int)(l c:Int):Option Int:= bif (decide (c<q.sy)) then (Ha n s c).bind λe=> bif e then bif (decide (l<0)) then if (0<=c/\ c<(q.va.length:Int))/\ AG (c+1) then self (.l1 (q.va.getD c.toNat 0) (c+1)) else none else if 0<=c/\ c<(q.va.length:Int) then bif (decide ((q.va.getD c.toNat 0)<l)) then if AG (c+1) then self (.l1 (q.va.getD c.toNat 0) (c+1)) else none else if AG (c+1) then self (.l1 l (c+1)) else none else none else if AG (c+1) then self (.l1 l (c+1)) else none else some l
def zGU (n:Nat)(self:aq -> Option Int)(q:AA)(A6:Int):Option Int:= self (.l1 (-1) 0)
def J7 (q:AA)(s:Int):Nat -> aq -> Option Int
 | 0,_=>none
 | n+1,.l1 l c=>ap n (J7 q s n) q s l c
def Sw (n:Nat)(q:AA)(s:Int):Option Int:=zGU n (J7 q s n) q s
def zGV (n B:Nat)(N:Yd 0)(q:AA)(s:Int)(r:Int):aq -> Prop:=px n B Fence.wide N (FQ Tryz.f155 0 (.i r) []) (Ac Tryz.f155) λ
 | .l1 l c=>(0,0,AH 35 [(1,.i s),(2,.ref 0 0),(5,.i l),(6,.i c)],[oC (AE q)])
def zGW (B:Nat)(N:Yd 0)(q:AA)(s:Int):Al (J7 q s) (zGV · B N q s):=ia (λ_=>rfl) λn w a r h=>by
 cases a
 case l1 x5 x6=>
  intro m k;refine rd k λm k=>?_
  revert r;apply gO;exact bi 10 (cf Pw [oC (AE q)] λ_=>bi 15 (bi 18 (gc (gi (gw 12 (lG AD [0] (w _ _ · m k))))) (gn λW=>jg W (bi 26 (jg W (gw 12 (lG AD [0] (w _ _ · m k)))) (gw 12 (lG AD [0] (w _ _ · m k)))))) (gw 12 (lG AD [0] (w _ _ · m k)))) (lE AD [4] [])
def uJ {r:Int}(h:Sw n q s=some r):EQ 155 [.agg 5 (L1 (AE q)),.i s] [] (.i r) [] true:=by
 refine ot Tryz.func155 λB N=>?_
 revert r;apply gO;exact lN AD [0] ((zGW B N q s n) _ _ · n Nat.le.refl)
inductive aw where
 | l1 (x5 x6:Int)
def av (n:Nat)(self:aw -> Option Int)(q:AA)(s:Int)(l c:Int):Option Int:= bif (decide (c<q.sy)) then (Ha n s c).bind λe=> bif e then if 0<=c/\ c<(q.va.length:Int) then bif (decide ((q.va.getD c.toNat 0)>l)) then if AG (c+1) then self (.l1 (q.va.getD c.toNat 0) (c+1)) else none else if AG (c+1) then self (.l1 l (c+1)) else none else none else if AG (c+1) then self (.l1 l (c+1)) else none else some l
def zGX (n:Nat)(self:aw -> Option Int)(q:AA)(A6:Int):Option Int:= self (.l1 (-1) 0)
def LM (q:AA)(s:Int):Nat -> aw -> Option Int
 | 0,_=>none
 | n+1,.l1 l c=>av n (LM q s n) q s l c
def Sy (n:Nat)(q:AA)(s:Int):Option Int:=zGX n (LM q s n) q s
def zGY (n B:Nat)(N:Yd 0)(q:AA)(s:Int)(r:Int):aw -> Prop:=px n B Fence.wide N (FQ Tryz.f156 0 (.i r) []) (Ac Tryz.f156) λ
 | .l1 l c=>(0,0,AH 31 [(1,.i s),(2,.ref 0 0),(5,.i l),(6,.i c)],[oC (AE q)])
def zGZ (B:Nat)(N:Yd 0)(q:AA)(s:Int):Al (LM q s) (zGY · B N q s):=ia (λ_=>rfl) λn w a r h=>by
 cases a
 case l1 x5 x6=>
  intro m k;refine rd k λm k=>?_
  revert r;apply gO;exact bi 10 (cf Pw [oC (AE q)] λ_=>bi 15 (gn λW=>jg W (bi 23 (jg W (gw 12 (lG AD [0] (w _ _ · m k)))) (gw 12 (lG AD [0] (w _ _ · m k))))) (gw 12 (lG AD [0] (w _ _ · m k)))) (lE AD [4] [])
def uN {r:Int}(h:Sy n q s=some r):EQ 156 [.agg 5 (L1 (AE q)),.i s] [] (.i r) [] true:=by
 refine ot Tryz.func156 λB N=>?_
 revert r;apply gO;exact lN AD [0] ((zGZ B N q s n) _ _ · n Nat.le.refl)
def zDY:Ae (A0 Tryz.f145 7) [([0,1,2,3,4,5,6,7,8,9],10)] [11,12] []:=Z0
def zDX:Ae (A0 Tryz.f145 8) [([0,1,2,3,4,5,6,7,8,9],10)] [11,12] []:=Z0
def zDZ:Ae (A0 Tryz.f145 18) [([0,1],2),([3,4,5,6,9,10,11,12,13,15,16],7),([8,14,17,18,19,20,21,24,25,26,27,28,30,31],22)] [23,29,32,33,34] []:=Z0
def sN:Ae (A0 Tryz.f145 19) [([0,1,2,3,4,5,6,7],8)] [9] []:=Z0
def IX:BF:=λi=>match i with
 | 7=>.ord [([0,1,2,3,4,5,6,7,8,9],10)] [11,12] []
 | 8=>.ord [([0,1,2,3,4,5,6,7,8,9],10)] [11,12] []
 | 18=>.ord [([0,1],2),([3,4,5,6,9,10,11,12,13,15,16],7),([8,14,17,18,19,20,21,24,25,26,27,28,30,31],22)] [23,29,32,33,34] []
 | 19=>.ord [([0,1,2,3,4,5,6,7],8)] [9] []
 | _=>.no
inductive Pp where
 | l1 (x9 x10 AN:Int)
 | l2 (x8:Ξ) (x9 x10 AQ:Int)
 | l3 (x8:Ξ) (x9 x10 AQ x13 Ak:Int)
 | l4 (x8:Ξ) (x9 x10 AQ x13 Ak:Int)
def Sj (n:Nat)(self:Pp -> W5)(q:AA)(g:AC)(pos:Ξ)(N x10 T:Int):W5:= bif (decide (T<(g.ce.length:Int))) then if (0<=T/\ T<(g.ce.length:Int))/\ (0<=(g.ce.getD T.toNat 0)/\ (g.ce.getD T.toNat 0)<(pos.length:Int)) then (Sw n q (pos.getD ((g.ce.getD T.toNat 0).toNat) 0)).bind λe=> if AG (N+e) then (Sy n q (pos.getD ((g.ce.getD T.toNat 0).toNat) 0)).bind λx=> if AG (x10+x)/\ AG (T+1) then self (.l1 (N+e) (x10+x) (T+1)) else none else none else none else bif (decide (N>g.hi)) then some (List.replicate pos.length (0:Int),false) else bif (decide (x10<g.lo)) then some (List.replicate pos.length (0:Int),false) else self (.l2 (List.replicate pos.length (0:Int)) N x10 0)
def aX (n:Nat)(self:Pp -> W5)(q:AA)(g:AC)(pos:Ξ)(x8:Ξ)(N x10 k:Int):W5:= bif (decide (k<(g.ce.length:Int))) then if (0<=k/\ k<(g.ce.length:Int))/\ (0<=(g.ce.getD k.toNat 0)/\ (g.ce.getD k.toNat 0)<(pos.length:Int)) then self (.l3 x8 N x10 k (pos.getD ((g.ce.getD k.toNat 0).toNat) 0) 0) else none else some (x8,true)
def Vr (n:Nat)(self:Pp -> W5)(q:AA)(g:AC)(pos:Ξ)(x8:Ξ)(N x10 k x13 T:Int):W5:= bif (decide (T<q.sy)) then (Ha n x13 T).bind λe=> bif e then if 0<=T/\ T<(q.va.length:Int) then (Sw n q x13).bind λx=> if AG (N-x)/\ AG ((N-x)+(q.va.getD T.toNat 0)) then bif (decide (((N-x)+(q.va.getD T.toNat 0))>g.hi)) then if (0<=k/\ k<(g.ce.length:Int))/\ (0<=T/\ T<=(IntKind.i64.bits:Int)) then (Fs n x8 (g.ce.getD k.toNat 0) (IntKind.i64.wrap (1*2 ^ (T).toNat))).bind λy3=> self (.l4 y3 N x10 k x13 T) else none else (Sy n q x13).bind λy3=> if AG (x10-y3)/\ AG ((x10-y3)+(q.va.getD T.toNat 0)) then bif (decide (((x10-y3)+(q.va.getD T.toNat 0))<g.lo)) then if (0<=k/\ k<(g.ce.length:Int))/\ (0<=T/\ T<=(IntKind.i64.bits:Int)) then (Fs n x8 (g.ce.getD k.toNat 0) (IntKind.i64.wrap (1*2 ^ (T).toNat))).bind λm=> self (.l4 m N x10 k x13 T) else none else self (.l4 x8 N x10 k x13 T) else none else none else none else self (.l4 x8 N x10 k x13 T) else if AG (k+1) then self (.l2 x8 N x10 (k+1)) else none
def tk (n:Nat)(self:Pp -> W5)(q:AA)(c_:AC)(pos:Ξ)(x8:Ξ)(N x10 k x13 T:Int):W5:= if AG (T+1) then self (.l3 x8 N x10 k x13 (T+1)) else none
def tm (n:Nat)(self:Pp -> W5)(q:AA)(c_:AC)(pos:Ξ):W5:= if pos.length=(List.replicate pos.length (0:Int)).length/\ (((pos.length:Int):Int)=(pos.length:Int)/\ 0<=(pos.length:Int)/\ ((pos.length:Int):Int)<=1000000000000) then self (.l1 0 0 0) else none
def EY (q:AA)(g:AC)(pos:Ξ):Nat -> Pp -> W5
 | 0,_=>none
 | n+1,.l1 N x10 a=>Sj n (EY q g pos n) q g pos N x10 a
 | n+1,.l2 x8 N x10 k=>aX n (EY q g pos n) q g pos x8 N x10 k
 | n+1,.l3 x8 N x10 k x13 T=>Vr n (EY q g pos n) q g pos x8 N x10 k x13 T
 | n+1,.l4 x8 N x10 k x13 T=>tk n (EY q g pos n) q g pos x8 N x10 k x13 T
def aY (n:Nat)(q:AA)(g:AC)(pos:Ξ):W5:=tm n (EY q g pos n) q g pos
def zFw (n B:Nat)(N:Yd 0)(q:AA)(g:AC)(pos:Ξ)(r:Ξ×Bool):Pp -> Prop:=px n B Fence.wide N (FQ Tryz.f145 0 (.tup 2 (L1 [.ints r.1,.bool r.2])) []) (Ac Tryz.f145) λ
 | .l1 a x10 b=>(0,0,AH 126 [(2,.ints pos),(3,.ref 0 0),(4,.ref 1 0),(8,.ints (List.replicate pos.length (0:Int))),(9,.i a),(10,.i x10),(11,.i b)],[oC (AE q),oC (AX g)])
 | .l2 x8 a x10 k=>(0,2,AH 126 [(2,.ints pos),(3,.ref 0 0),(4,.ref 1 0),(8,.ints x8),(9,.i a),(10,.i x10),(12,.i k)],[oC (AE q),oC (AX g)])
 | .l3 x8 a x10 k x13 T=>(1,4,AH 126 [(2,.ints pos),(3,.ref 0 0),(4,.ref 1 0),(8,.ints x8),(9,.i a),(10,.i x10),(12,.i k),(13,.i x13),(14,.i T)],[oC (AE q),oC (AX g)])
 | .l4 x8 a x10 k x13 T=>(5,17,AH 126 [(2,.ints pos),(3,.ref 0 0),(4,.ref 1 0),(8,.ints x8),(9,.i a),(10,.i x10),(12,.i k),(13,.i x13),(14,.i T)],[oC (AE q),oC (AX g)])
def zFx (B:Nat)(N:Yd 0)(q:AA)(g:AC)(pos:Ξ):Al (EY q g pos) (zFw · B N q g pos):=ia (λ_=>rfl) λn w b r h=>by
 cases b
 case l1 x9 x10 AN=>
  intro m k;refine rd k λm k=>?_
  revert r;apply gO;exact bi 22 (jg zDY (gc (gn λW=>jg W (gn λp=>jg p (cf uJ [oC (AE q),oC (AX g)] λ_=>gw 36 (jg zDX (jg W (jg p (cf uN [oC (AE q),oC (AX g)] λ_=>gc (gw 48 (gw 24 (lG (AJ 17 IX) [0,1] (w _ _ · m k))))))))))))) (bi 52 (lE (AJ 17 IX) [6,7] []) (bi 57 (lE (AJ 17 IX) [6,7] []) (lN (AJ 17 IX) [0,1] (w _ _ · n Nat.le.refl))))
 case l2 x8 x9 x10 AQ=>
  intro m k;refine rd k λm k=>?_
  revert r;apply gO;exact bi 64 (gc (gi (gi (lN (AJ 17 IX) [0,1] (w _ _ · m n k Nat.le.refl))))) (lE (AJ 17 IX) [6,7] [])
 case l3 x8 x9 x10 AQ x13 Ak=>
  intro m a k j;have k:=zBR k;refine rd j λa j=>?_
  revert r;apply gO;exact bi 78 (jg zDZ (cf Pw [oC (AE q),oC (AX g)] λ_=>bi 83 (gn λW=>jg W (cf uJ [oC (AE q),oC (AX g)] λ_=>gc (gw 89 (gw 95 (bi 98 (jg sN (gc (gi (gi (cf LL [oC (AE q),oC (AX g)] λ_=>lG (AJ 17 IX) [0,1] (w _ _ · m a k j)))))) (jg W (cf uN [oC (AE q),oC (AX g)] λ_=>gc (gw 104 (gw 110 (bi 113 (jg sN (gc (gi (gi (cf LL [oC (AE q),oC (AX g)] λ_=>lG (AJ 17 IX) [0,1] (w _ _ · m a k j)))))) (lG (AJ 17 IX) [0,1] (w _ _ · m a k j)))))))))))) (lG (AJ 17 IX) [0,1] (w _ _ · m a k j)))) (gw 66 (lG (AJ 17 IX) [0,1] (w _ _ · m k)))
 case l4 x8 x9 x10 AQ x13 Ak=>
  intro m a k j;have k:=zBR k;have j:=zBR j;revert r;apply gO;exact gw 80 (lG IX [0,1] (w _ _ · m a k j))
def zFu {r:Ξ×Bool}(h:aY n q g pos=some r):EQ 145 [.agg 5 (L1 (AE q)),.agg 9 (L1 (AX g)),.ints pos] [] (.tup 2 (L1 [.ints r.1,.bool r.2])) [] true:=by
 refine ot Tryz.func145 λB N=>?_
 revert r;apply gO;exact gc (gn λW=>gi (jz 17 2 (jg W (lN (AJ 17 IX) [0,1] ((zFx B N q g pos n) _ _ · n Nat.le.refl)))))
def zDa:Ae (A0 Tryz.f163 6) [([0,1,2,3,4,5,6,7,8],9),([10,11,12,13,14,15,16,17,18,19,20,21,22,23,24,25,26,27,28,29,30,31,32,33,34,35,36,37,38,39,40,41],42)] [43] []:=Z0
def J1:BF:=λi=>match i with
 | 6=>.ord [([0,1,2,3,4,5,6,7,8],9),([10,11,12,13,14,15,16,17,18,19,20,21,22,23,24,25,26,27,28,29,30,31,32,33,34,35,36,37,38,39,40,41],42)] [43] []
 | _=>.no
inductive af where
 | l1 (Aq:Int)
def Vv (n:Nat)(N:AA -> AC -> Ξ -> Int -> Int -> Int -> Int -> W9)(self:af -> W9)(q:AA)(g:AC)(pos:Ξ)(A b at_ G:Int)(d:Int):W9:= bif (decide (d<q.sy)) then if (0<=A/\ A<(g.ce.length:Int))/\ (0<=(g.ce.getD A.toNat 0)/\ (g.ce.getD A.toNat 0)<(pos.length:Int)) then (Ha n (pos.getD ((g.ce.getD A.toNat 0).toNat) 0) d).bind λe=> bif e then bif (A != at_) then if 0<=d/\ d<(q.va.length:Int) then bif (decide ((q.va.getD d.toNat 0)>b)) then if AG (A+1) then (N q g pos (A+1) (q.va.getD d.toNat 0) at_ G).bind λx=> bif x then some true else if AG (d+1) then self (.l1 (d+1)) else none else none else if AG (d+1) then self (.l1 (d+1)) else none else none else bif (d==G) then if 0<=d/\ d<(q.va.length:Int) then bif (decide ((q.va.getD d.toNat 0)>b)) then if AG (A+1) then (N q g pos (A+1) (q.va.getD d.toNat 0) at_ G).bind λx=> bif x then some true else if AG (d+1) then self (.l1 (d+1)) else none else none else if AG (d+1) then self (.l1 (d+1)) else none else none else if AG (d+1) then self (.l1 (d+1)) else none else if AG (d+1) then self (.l1 (d+1)) else none else none else some false
def Vw (n:Nat)(Am:AA -> AC -> Ξ -> Int -> Int -> Int -> Int -> W9)(self:af -> W9)(q:AA)(g:AC)(pos:Ξ)(A value at_ s_:Int):W9:= bif (A==(g.ce.length:Int)) then some true else self (.l1 0)
def N7 (N:AA -> AC -> Ξ -> Int -> Int -> Int -> Int -> W9)(q:AA)(g:AC)(pos:Ξ)(A b at_ G:Int):Nat -> af -> W9
 | 0,_=>none
 | n+1,.l1 d=>Vv n N (N7 N q g pos A b at_ G n) q g pos A b at_ G d
def LI:Nat -> AA -> AC -> Ξ -> Int -> Int -> Int -> Int -> W9
 | 0,_,_,_,_,_,_,_=>none
 | n+1,q,g,pos,A,b,at_,G=>Vw n (LI n) (N7 (LI n) q g pos A b at_ G n) q g pos A b at_ G
def zF6 (n B:Nat)(N:Yd 0)(q:AA)(g:AC)(pos:Ξ)(A b at_ G:Int)(r:Bool):af -> Prop:=px n B Fence.wide N (FQ Tryz.f163 0 (.bool r) []) (Ac Tryz.f163) λ
 | .l1 d=>(0,0,AH 71 [(2,.ints pos),(3,.i A),(4,.i b),(5,.i at_),(6,.i G),(7,.ref 0 0),(8,.ref 1 0),(15,.i d)],[oC (AE q),oC (AX g)])
def zF7 (B:Nat)(N:Yd 0)(d:AA -> AC -> Ξ -> Int -> Int -> Int -> Int -> W9)(x: ∀ {q:AA} {g:AC} {pos:Ξ} {A b at_ G:Int} {r:Bool},d q g pos A b at_ G=some r -> EQ 163 [.agg 5 (L1 (AE q)),.agg 9 (L1 (AX g)),.ints pos,.i A,.i b,.i at_,.i G] [] (.bool r) [] true)(q:AA)(g:AC)(pos:Ξ)(A b at_ G:Int):Al (N7 d q g pos A b at_ G) (zF6 · B N q g pos A b at_ G):=ia (λ_=>rfl) λn w e r h=>by
 cases e
 case l1 Aq=>
  intro m k;refine rd k λm k=>?_
  revert r;apply gO;exact bi 24 (jg zDa (gc (gi (gi (cf Pw [oC (AE q),oC (AX g)] λ_=>bi 36 (bi 40 (gn λa=>jg a (bi 54 (gw 61 (jg a (cn λf c=>jc (fb (x c) [oC (AE q),oC (AX g)]) (bi 69 (lE J1 [14] []) (gw 26 (lG J1 [0,1] (w _ _ · m k))))))) (gw 26 (lG J1 [0,1] (w _ _ · m k))))) (bi 44 (gn λa=>jg a (bi 54 (gw 61 (jg a (cn λf c=>jc (fb (x c) [oC (AE q),oC (AX g)]) (bi 69 (lE J1 [14] []) (gw 26 (lG J1 [0,1] (w _ _ · m k))))))) (gw 26 (lG J1 [0,1] (w _ _ · m k))))) (gw 26 (lG J1 [0,1] (w _ _ · m k))))) (gw 26 (lG J1 [0,1] (w _ _ · m k)))))))) (lE J1 [14] [])
def zF5 : ∀ {q:AA} {g:AC} {pos:Ξ} {A b at_ G:Int} {r:Bool} (h:LI n q g pos A b at_ G=some r),EQ 163 [.agg 5 (L1 (AE q)),.agg 9 (L1 (AX g)),.ints pos,.i A,.i b,.i at_,.i G] [] (.bool r) [] true:=by
 induction n with
 | zero=>intro q g pos A b at_ G r h;cases h
 | succ n x=>
  intro q g pos A b at_ G r h;refine ot Tryz.func163 λB N=>?_
  revert r;apply gO;exact bi 20 (lE J1 [14] []) (lN J1 [0,1] ((zF7 B N (LI n) x q g pos A b at_ G n) _ _ · n Nat.le.refl))
inductive Pr where
 | l1
 | l2
 | l3
 | l4
def Vu (n:Nat)(Am:AC -> Ξ -> Int -> Int -> Int -> Int -> Bool -> W9)(self:Pr -> W9)(g:AC)(pos:Ξ)(A done q at_:Int)(AL:Bool):W9:= bif (A==(g.ce.length:Int)) then bif (decide (q>0)) then if AG (done+1) then bif ((done+1)==(g.ru.length:Int)) then if 0<=done/\ done<(g.ru.length:Int) then some (q==(g.ru.getD done.toNat 0)) else none else some false else none else some (done==(g.ru.length:Int)) else self (.l2)
def jG (n:Nat)(N:AC -> Ξ -> Int -> Int -> Int -> Int -> Bool -> W9)(self:Pr -> W9)(g:AC)(pos:Ξ)(A done q at_:Int)(J:Bool):W9:= if (0<=A/\ A<(g.ce.length:Int))/\ (0<=(g.ce.getD A.toNat 0)/\ (g.ce.getD A.toNat 0)<(pos.length:Int)) then bif ((bits .and .i64 (pos.getD ((g.ce.getD A.toNat 0).toNat) 0) g.set) != 0) then bif (A != at_) then if AG (A+1)/\ AG (q+1) then (N g pos (A+1) done (q+1) at_ J).bind λe=> bif e then some true else self (.l3) else none else bif J then if AG (A+1)/\ AG (q+1) then (N g pos (A+1) done (q+1) at_ true).bind λe=> bif e then some true else self (.l3) else none else self (.l3) else self (.l3) else none
def jF (n:Nat)(Am:AC -> Ξ -> Int -> Int -> Int -> Int -> Bool -> W9)(self:Pr -> W9)(g:AC)(pos:Ξ)(A done B9 at_:Int)(J:Bool):W9:= bif ((bits .and .i64 (pos.getD ((g.ce.getD A.toNat 0).toNat) 0) g.set)==(pos.getD ((g.ce.getD A.toNat 0).toNat) 0)) then some false else bif (A==at_) then bif J then some false else self (.l4) else self (.l4)
def jE (n:Nat)(N:AC -> Ξ -> Int -> Int -> Int -> Int -> Bool -> W9)(self:Pr -> W9)(g:AC)(pos:Ξ)(A done q at_:Int)(J:Bool):W9:= bif (q==0) then if AG (A+1) then (N g pos (A+1) done 0 at_ J).bind λe=> some e else none else if 0<=done/\ done<(g.ru.length:Int) then bif (q==(g.ru.getD done.toNat 0)) then if AG (A+1)/\ AG (done+1) then (N g pos (A+1) (done+1) 0 at_ J).bind λe=> some e else none else some false else none
def Pq (n:Nat)(Am:AC -> Ξ -> Int -> Int -> Int -> Int -> Bool -> W9)(self:Pr -> W9)(g:AC)(pos:Ξ)(BA done q at_:Int)(AL:Bool):W9:= bif (decide (q>0)) then bif (decide (done>=(g.ru.length:Int))) then some false else if 0<=done/\ done<(g.ru.length:Int) then bif (decide (q>(g.ru.getD done.toNat 0))) then some false else self (.l1) else none else self (.l1)
def HZ (N:AC -> Ξ -> Int -> Int -> Int -> Int -> Bool -> W9)(g:AC)(pos:Ξ)(A done q at_:Int)(J:Bool):Nat -> Pr -> W9
 | 0,_=>none
 | n+1,.l1=>Vu n N (HZ N g pos A done q at_ J n) g pos A done q at_ J
 | n+1,.l2=>jG n N (HZ N g pos A done q at_ J n) g pos A done q at_ J
 | n+1,.l3=>jF n N (HZ N g pos A done q at_ J n) g pos A done q at_ J
 | n+1,.l4=>jE n N (HZ N g pos A done q at_ J n) g pos A done q at_ J
def Ep:Nat -> AC -> Ξ -> Int -> Int -> Int -> Int -> Bool -> W9
 | 0,_,_,_,_,_,_,_=>none
 | n+1,g,pos,A,done,q,at_,J=>Pq n (Ep n) (HZ (Ep n) g pos A done q at_ J n) g pos A done q at_ J
def zF4 (n B:Nat)(N:Yd 0)(g:AC)(pos:Ξ)(A done q at_:Int)(J:Bool)(r:Bool):Pr -> Prop:=px n B Fence.wide N (FQ Tryz.f148 0 (.bool r) []) (Ac Tryz.f148) λ
 | .l1=>(3,3,AH 136 [(1,.ints pos),(2,.i A),(3,.i done),(4,.i q),(5,.i at_),(6,.bool J),(7,.ref 0 0)],[oC (AX g)])
 | .l2=>(3,7,AH 136 [(1,.ints pos),(2,.i A),(3,.i done),(4,.i q),(5,.i at_),(6,.bool J),(7,.ref 0 0)],[oC (AX g)])
 | .l3=>(3,10,AH 136 [(1,.ints pos),(2,.i A),(3,.i done),(4,.i q),(5,.i at_),(6,.bool J),(7,.ref 0 0),(15,.i (pos.getD ((g.ce.getD A.toNat 0).toNat) 0))],[oC (AX g)])
 | .l4=>(3,12,AH 136 [(1,.ints pos),(2,.i A),(3,.i done),(4,.i q),(5,.i at_),(6,.bool J),(7,.ref 0 0)],[oC (AX g)])
def t7 (B:Nat)(N:Yd 0)(b:AC -> Ξ -> Int -> Int -> Int -> Int -> Bool -> W9)(x: ∀ {g:AC} {pos:Ξ} {A done q at_:Int} {J:Bool} {r:Bool},b g pos A done q at_ J=some r -> EQ 148 [.agg 9 (L1 (AX g)),.ints pos,.i A,.i done,.i q,.i at_,.bool J] [] (.bool r) [] true)(g:AC)(pos:Ξ)(A done q at_:Int)(J:Bool):Al (HZ b g pos A done q at_ J) (zF4 · B N g pos A done q at_ J):=ia (λ_=>rfl) λn w m r h=>by
 cases m
 case l1=>
  revert r;apply gO;exact bi 38 (bi 40 (gw 42 (bi 46 (gi (lE (AJ 12 (AJ 10 (AJ 7 AD))) [14] [])) (lE (AJ 12 (AJ 10 (AJ 7 AD))) [14] []))) (lE (AJ 12 (AJ 10 (AJ 7 AD))) [14] [])) (lG (AJ 12 (AJ 10 (AJ 7 AD))) [0] (w _ _ ·))
 case l2=>
  revert r;apply gO;exact gc (gi (gi (bi 73 (bi 77 (gc (gw 86 (gw 89 (cn λe a=>jc (fb (x a) [oC (AX g)]) (bi 92 (lE (AJ 12 (AJ 10 (AJ 3 AD))) [14] []) (lG (AJ 12 (AJ 10 (AJ 3 AD))) [0] (w _ _ ·))))))) (bj 79 (λp=>gc (gw 86 (gw 89 (jb 91 p (cn λe a=>jc (fb (x a) [oC (AX g)]) (bi 92 (lE (AJ 12 (AJ 10 (AJ 3 AD))) [14] []) (lG (AJ 12 (AJ 10 (AJ 3 AD))) [0] (w _ _ ·)))))))) (λ_=>lG (AJ 12 (AJ 10 (AJ 3 AD))) [0] (w _ _ ·)))) (lG (AJ 12 (AJ 10 (AJ 3 AD))) [0] (w _ _ ·)))))
 case l3=>
  revert r;apply gO;exact bi 99 (lE (AJ 12 (AJ 7 (AJ 3 AD))) [14] []) (bi 103 (bi 105 (lE (AJ 12 (AJ 7 (AJ 3 AD))) [14] []) (lG (AJ 12 (AJ 7 (AJ 3 AD))) [0] (w _ _ ·))) (lG (AJ 12 (AJ 7 (AJ 3 AD))) [0] (w _ _ ·)))
 case l4=>
  revert r;apply gO;exact bi 109 (gw 113 (cn λe a=>jc (fb (x a) [oC (AX g)]) (lE (AJ 10 (AJ 7 (AJ 3 AD))) [14] []))) (gi (bi 124 (gc (gw 129 (gw 131 (cn λe a=>jc (fb (x a) [oC (AX g)]) (lE (AJ 10 (AJ 7 (AJ 3 AD))) [14] []))))) (lE (AJ 10 (AJ 7 (AJ 3 AD))) [14] [])))
def tz : ∀ {g:AC} {pos:Ξ} {A done q at_:Int} {J:Bool} {r:Bool} (h:Ep n g pos A done q at_ J=some r),EQ 148 [.agg 9 (L1 (AX g)),.ints pos,.i A,.i done,.i q,.i at_,.bool J] [] (.bool r) [] true:=by
 induction n with
 | zero=>intro g pos A done q at_ J r h;cases h
 | succ n x=>
  intro g pos A done q at_ J r h;refine ot Tryz.func148 λB N=>?_
  revert r;apply gO;exact bi 17 (bi 23 (lE (AJ 12 (AJ 10 (AJ 7 (AJ 3 AD)))) [14] []) (gi (bi 31 (lE (AJ 12 (AJ 10 (AJ 7 (AJ 3 AD)))) [14] []) (lG (AJ 12 (AJ 10 (AJ 7 (AJ 3 AD)))) [0] ((t7 B N (Ep n) x g pos A done q at_ J n) _ _ ·))))) (lG (AJ 12 (AJ 10 (AJ 7 (AJ 3 AD)))) [0] ((t7 B N (Ep n) x g pos A done q at_ J n) _ _ ·))
def uL (n:Nat)(s T:Int):W9:= bif (decide (T>=0)) then bif (decide (T<16)) then if 0<=T/\ T<=(IntKind.i64.bits:Int) then some ((bits .and .i64 s (IntKind.i64.wrap (1*2 ^ (T).toNat))) != 0) else none else some false else some false
def MR (n:Nat)(s T:Int):W9:=uL n s T
def Sx {T:Int}{r:Bool}(h:MR n s T=some r):EQ 72 [.i s,.i T] [] (.bool r) [] true:=by
 refine ot Tryz.func72 λB N=>?_
 revert r;apply gO;exact bi 6 (bi 9 (gi (lE AD [4] [])) (lE AD [4] [])) (lE AD [4] [])
def ui (n:Nat)(a b P:Int):W9:= if AG (a-b) then bif (decide ((a-b)>=P)) then some true else if AG (b-a) then some (decide ((b-a)>=P)) else none else none
def jW (n:Nat)(a b P:Int):W9:=ui n a b P
def zG2 {a b P:Int}{r:Bool}(h:jW n a b P=some r):EQ 71 [.i a,.i b,.i P] [] (.bool r) [] true:=by
 refine ot Tryz.func71 λB N=>?_
 revert r;apply gO;exact gw 9 (bi 11 (lE AD [6] []) (gw 15 (lE AD [6] [])))
def zDc:Ae (A0 Tryz.f42 15) [([0,1,2,3,4,5,6,7,8,9,10,11,12,13,14,15,16,17,18,19,20,21,22,23],24)] [25] []:=Z0
def SP:BF:=λi=>match i with
 | 13=>.ord [([0,1,2,3,4,6,7],5),([],8)] [9] []
 | 15=>.ord [([0,1,2,3,4,5,6,7,8,9,10,11,12,13,14,15,16,17,18,19,20,21,22,23],24)] [25] []
 | 21=>.ord [([0,1,2,3,4,5,6],7),([],8)] [9] []
 | 22=>.ord [([0,1,2,3,4,5,6],7),([],8)] [9] []
 | _=>.no
def uC (n:Nat)(q:AA)(g:AC)(V:Ξ):W9:= bif (g.kind==1) then none else bif (g.kind==2) then none else bif (g.kind==3) then none else bif (g.kind==4) then none else bif (g.kind==5) then none else bif (g.kind==6) then if ((0:Int)<=0/\ 0<(g.ce.length:Int))/\ (0<=(g.ce.getD 0 0)/\ (g.ce.getD 0 0)<(V.length:Int))/\ (0<=(V.getD ((g.ce.getD 0 0).toNat) 0)/\ (V.getD ((g.ce.getD 0 0).toNat) 0)<(q.va.length:Int))/\ ((0:Int)<=1/\ 1<(g.ce.length:Int))/\ (0<=(g.ce.getD 1 0)/\ (g.ce.getD 1 0)<(V.length:Int))/\ (0<=(V.getD ((g.ce.getD 1 0).toNat) 0)/\ (V.getD ((g.ce.getD 1 0).toNat) 0)<(q.va.length:Int)) then (jW n (q.va.getD ((V.getD ((g.ce.getD 0 0).toNat) 0).toNat) 0) (q.va.getD ((V.getD ((g.ce.getD 1 0).toNat) 0).toNat) 0) g.lo).bind λe=> some e else none else bif (g.kind==7) then if ((0:Int)<=0/\ 0<(g.ce.length:Int))/\ (0<=(g.ce.getD 0 0)/\ (g.ce.getD 0 0)<(V.length:Int))/\ ((0:Int)<=1/\ 1<(g.ce.length:Int))/\ (0<=(g.ce.getD 1 0)/\ (g.ce.getD 1 0)<(V.length:Int)) then (MR n g.set (V.getD ((g.ce.getD 0 0).toNat) 0)).bind λe=> bif e then (MR n g.other (V.getD ((g.ce.getD 1 0).toNat) 0)).bind λx=> bif (!x) then (MR n g.set (V.getD ((g.ce.getD 1 0).toNat) 0)).bind λy3=> bif y3 then (MR n g.other (V.getD ((g.ce.getD 0 0).toNat) 0)).bind λm=> some (!m) else some true else some false else (MR n g.set (V.getD ((g.ce.getD 1 0).toNat) 0)).bind λx=> bif x then (MR n g.other (V.getD ((g.ce.getD 0 0).toNat) 0)).bind λy3=> some (!y3) else some true else none else bif (g.kind==8) then none else none
def Vz (n:Nat)(q:AA)(g:AC)(V:Ξ):W9:=uC n q g V
def zGH {V:Ξ}{r:Bool}(h:Vz n q g V=some r):EQ 42 [.agg 5 (L1 (AE q)),.agg 9 (L1 (AX g)),.ints V] [] (.bool r) [] true:=by
 refine ot Tryz.func42 λB N=>?_
 revert r;apply gO;exact bi 14 nO (bi 20 nO (bi 38 nO (bi 56 nO (bi 64 nO (bi 75 (jg zDc (gc (gi (gc (gi (gc (gi (gc (gi (gc (gi (gi (cf zG2 [oC (AE q),oC (AX g)] λ_=>lE SP [6] []))))))))))))) (bi 102 (gc (gi (gc (gi (gc (gi (gi (cf Sx [oC (AE q),oC (AX g)] λ_=>bi 120 (cf Sx [oC (AE q),oC (AX g)] λ_=>bi 127 (cf Sx [oC (AE q),oC (AX g)] λ_=>bi 132 (cf Sx [oC (AE q),oC (AX g)] λ_=>lE SP [6] []) (lE SP [6] [])) (lE SP [6] [])) (cf Sx [oC (AE q),oC (AX g)] λ_=>bi 132 (cf Sx [oC (AE q),oC (AX g)] λ_=>lE SP [6] []) (lE SP [6] [])))))))))) (bn (λD=>nO) (λD=>nO))))))))
def xV (q:AA)(g:AC)(E:Ξ)(at_ G x13:Int):DH:=[oC (AE q),oC (AX g),oI ((E.set (0+((g.ce.getD at_.toNat 0).toNat)) G).set (0+((g.ce.getD (((1-at_)).toNat) 0).toNat)) x13)]
inductive bI where
 | l1 (x13:Int) (o2:Ξ)
def V4 (n:Nat)(self:bI -> W9)(q:AA)(g:AC)(pos:Ξ)(at_ G:Int)(x13:Int)(E:Ξ):W9:= bif (decide (x13<q.sy)) then if (0<=at_/\ at_<(g.ce.length:Int))/\ (0<=(g.ce.getD at_.toNat 0)/\ (g.ce.getD at_.toNat 0)<(pos.length:Int))/\ 0+((g.ce.getD at_.toNat 0).toNat)<E.length/\ (0<=(g.ce.getD (((1-at_)).toNat) 0)/\ (g.ce.getD (((1-at_)).toNat) 0)<(pos.length:Int))/\ 0+((g.ce.getD (((1-at_)).toNat) 0).toNat)<(E.set (0+((g.ce.getD at_.toNat 0).toNat)) G).length then (Ha n (pos.getD ((g.ce.getD (((1-at_)).toNat) 0).toNat) 0) x13).bind λe=> bif e then if pos.length=((E.set (0+((g.ce.getD at_.toNat 0).toNat)) G).set (0+((g.ce.getD (((1-at_)).toNat) 0).toNat)) x13).length then (Vz n q g ((E.set (0+((g.ce.getD at_.toNat 0).toNat)) G).set (0+((g.ce.getD (((1-at_)).toNat) 0).toNat)) x13)).bind λx=> bif x then some true else if AG (x13+1) then self (.l1 (x13+1) ((E.set (0+((g.ce.getD at_.toNat 0).toNat)) G).set (0+((g.ce.getD (((1-at_)).toNat) 0).toNat)) x13)) else none else none else if AG (x13+1) then self (.l1 (x13+1) ((E.set (0+((g.ce.getD at_.toNat 0).toNat)) G).set (0+((g.ce.getD (((1-at_)).toNat) 0).toNat)) x13)) else none else none else some false
def uc (n:Nat)(self:bI -> W9)(q:AA)(g:AC)(pos:Ξ)(at_ s_:Int):W9:= if (((pos.length:Int):Int)=(pos.length:Int)/\ 0<=(pos.length:Int)/\ ((pos.length:Int):Int)<=1000000000000)/\ AG (1-at_)/\ ((0:Int)<=(1-at_)/\ (1-at_)<(g.ce.length:Int)) then self (.l1 0 (List.replicate pos.length (0:Int))) else none
def P0 (q:AA)(g:AC)(pos:Ξ)(at_ G:Int):Nat -> bI -> W9
 | 0,_=>none
 | n+1,.l1 x13 E=>V4 n (P0 q g pos at_ G n) q g pos at_ G x13 E
def S8 (n:Nat)(q:AA)(g:AC)(pos:Ξ)(at_ G:Int):W9:=uc n (P0 q g pos at_ G n) q g pos at_ G
def zGy (n B:Nat)(N:Yd 0)(q:AA)(g:AC)(pos:Ξ)(at_ G:Int)(r:Bool):bI -> Prop:=px n B Fence.wide N (FQ Tryz.f164 0 (.bool r) []) (Ac Tryz.f164) λ
 | .l1 x13 E=>(0,0,AH 53 [(2,.ints pos),(3,.i at_),(4,.i G),(5,.ref 0 0),(6,.ref 1 0),(11,.msl 2 1 0 pos.length),(12,.i (g.ce.getD (((1-at_)).toNat) 0)),(13,.i x13)],[oC (AE q),oC (AX g),oI E])
def zGz (B:Nat)(N:Yd 0)(q:AA)(g:AC)(pos:Ξ)(at_ G:Int):Al (P0 q g pos at_ G) (zGy · B N q g pos at_ G):=ia (λ_=>rfl) λn w a r h=>by
 cases a
 case l1 x13 o2=>
  intro m k;refine rd k λm k=>?_
  revert r;apply gO;exact bi 26 (gc (gi (gc (gi (gc (gi (gc (gn λR=>jg R (gi (jg R (cf Pw (xV q g o2 at_ G x13) λ_=>bi 46 (gn λD=>cn λy2 A=>jc (sb [.agg 5 (L1 (AE q)),.agg 9 (L1 (AX g)),.msl 2 1 0 pos.length] (zGH A) (xV q g o2 at_ G x13) ⟨Ax.plain Z5,Ax.plain Z5,Ax.ints rfl D,trivial⟩) (bi 51 (lE AD [10] []) (gw 28 (lG AD [0,1,2] (w _ _ · m k))))) (gw 28 (lG AD [0,1,2] (w _ _ · m k)))))))))))))) (lE AD [10] [])
variable {at_:Int}
def zGx {r:Bool}(h:S8 n q g pos at_ G=some r):EQ 164 [.agg 5 (L1 (AE q)),.agg 9 (L1 (AX g)),.ints pos,.i at_,.i G] [] (.bool r) [] true:=by
 refine ot Tryz.func164 λB N=>?_
 revert r;apply gO;exact gc (gi (gc (gw 20 (gi (lN AD [0,1,2] ((zGz B N q g pos at_ G n) _ _ · n Nat.le.refl))))))
def zDm:Ae (A0 Tryz.f149 14) [([0,1,2,3,4,5],6),([],7)] [8] []:=Z0
def zDl:Ae (A0 Tryz.f149 16) [([0,1,2,3,4,5,6,7],8)] [9] []:=Z0
def J2:BF:=λi=>match i with
 | 14=>.ord [([0,1,2,3,4,5],6),([],7)] [8] []
 | 16=>.ord [([0,1,2,3,4,5,6,7],8)] [9] []
 | _=>.no
inductive Pz where
 | l1 (x7:Ξ) (x8:Int)
 | l2 (x7:Ξ) (x8 x9:Int)
 | l3 (x7:Ξ) (x8 x9:Int) (x10:Bool)
 | l4 (x7:Ξ) (x8 x9:Int)
def jV (n:Nat)(self:Pz -> Option Ξ)(q:AA)(g:AC)(pos:Ξ)(P:Ξ)(x8:Int):Option Ξ:= bif (decide (x8<(g.ce.length:Int))) then self (.l2 P x8 0) else some P
def V3 (n:Nat)(self:Pz -> Option Ξ)(q:AA)(g:AC)(pos:Ξ)(P:Ξ)(x8 N:Int):Option Ξ:= bif (decide (N<q.sy)) then bif (g.kind==4) then (LI n q g pos 0 (-1) x8 N).bind λe=> self (.l3 P x8 N e) else bif (g.kind==5) then (Ha n g.set N).bind λe=> (Ep n g pos 0 0 0 x8 e).bind λx=> self (.l3 P x8 N x) else (S8 n q g pos x8 N).bind λe=> self (.l3 P x8 N e) else if AG (x8+1) then self (.l1 P (x8+1)) else none
def jU (n:Nat)(self:Pz -> Option Ξ)(q:AA)(g:AC)(pos:Ξ)(P:Ξ)(x8 N:Int)(x10:Bool):Option Ξ:= if (0<=x8/\ x8<(g.ce.length:Int))/\ (0<=(g.ce.getD x8.toNat 0)/\ (g.ce.getD x8.toNat 0)<(pos.length:Int)) then (Ha n (pos.getD ((g.ce.getD x8.toNat 0).toNat) 0) N).bind λe=> bif e then bif (!x10) then if 0<=N/\ N<=(IntKind.i64.bits:Int) then (Fs n P (g.ce.getD x8.toNat 0) (IntKind.i64.wrap (1*2 ^ (N).toNat))).bind λx=> self (.l4 x x8 N) else none else self (.l4 P x8 N) else self (.l4 P x8 N) else none
def uZ (n:Nat)(self:Pz -> Option Ξ)(q:AA)(c_:AC)(pos:Ξ)(P:Ξ)(x8 N:Int):Option Ξ:= if AG (N+1) then self (.l2 P x8 (N+1)) else none
def ub (n:Nat)(self:Pz -> Option Ξ)(q:AA)(c_:AC)(pos:Ξ):Option Ξ:= if pos.length=(List.replicate pos.length (0:Int)).length/\ (((pos.length:Int):Int)=(pos.length:Int)/\ 0<=(pos.length:Int)/\ ((pos.length:Int):Int)<=1000000000000) then self (.l1 (List.replicate pos.length (0:Int)) 0) else none
def Fu (q:AA)(g:AC)(pos:Ξ):Nat -> Pz -> Option Ξ
 | 0,_=>none
 | n+1,.l1 P x8=>jV n (Fu q g pos n) q g pos P x8
 | n+1,.l2 P x8 N=>V3 n (Fu q g pos n) q g pos P x8 N
 | n+1,.l3 P x8 N x10=>jU n (Fu q g pos n) q g pos P x8 N x10
 | n+1,.l4 P x8 N=>uZ n (Fu q g pos n) q g pos P x8 N
def S7 (n:Nat)(q:AA)(g:AC)(pos:Ξ):Option Ξ:=ub n (Fu q g pos n) q g pos
def zGv (n B:Nat)(N:Yd 0)(q:AA)(g:AC)(pos:Ξ)(r:Ξ):Pz -> Prop:=px n B Fence.wide N (FQ Tryz.f149 0 (.ints r) []) (Ac Tryz.f149) λ
 | .l1 P x8=>(0,0,AH 77 [(2,.ints pos),(3,.ref 0 0),(4,.ref 1 0),(7,.ints P),(8,.i x8)],[oC (AE q),oC (AX g)])
 | .l2 P x8 a=>(1,2,AH 77 [(2,.ints pos),(3,.ref 0 0),(4,.ref 1 0),(7,.ints P),(8,.i x8),(9,.i a)],[oC (AE q),oC (AX g)])
 | .l3 P x8 a x10=>(5,15,AH 77 [(2,.ints pos),(3,.ref 0 0),(4,.ref 1 0),(7,.ints P),(8,.i x8),(9,.i a),(10,.bool x10)],[oC (AE q),oC (AX g)])
 | .l4 P x8 a=>(5,7,AH 77 [(2,.ints pos),(3,.ref 0 0),(4,.ref 1 0),(7,.ints P),(8,.i x8),(9,.i a)],[oC (AE q),oC (AX g)])
def zGw (B:Nat)(N:Yd 0)(q:AA)(a:AC)(pos:Ξ):Al (Fu q a pos) (zGv · B N q a pos):=ia (λ_=>rfl) λn w b r h=>by
 cases b
 case l1 x7 x8=>
  intro m k;refine rd k λm k=>?_
  revert r;apply gO;exact bi 18 (lN (AJ 15 (AJ 7 J2)) [0,1] (w _ _ · m n k Nat.le.refl)) (lE (AJ 15 (AJ 7 J2)) [6] [])
 case l2 x7 x8 x9=>
  intro m g k j;have k:=zBR k;refine rd j λg j=>?_
  revert r;apply gO;exact bi 24 (bi 36 (cf zF5 [oC (AE q),oC (AX a)] λ_=>lG (AJ 15 (AJ 7 J2)) [0,1] (w _ _ · m g k j)) (bi 44 (jg zDm (cf Pw [oC (AE q),oC (AX a)] λ_=>cf tz [oC (AE q),oC (AX a)] λ_=>lG (AJ 15 (AJ 7 J2)) [0,1] (w _ _ · m g k j))) (cf zGx [oC (AE q),oC (AX a)] λ_=>lG (AJ 15 (AJ 7 J2)) [0,1] (w _ _ · m g k j)))) (gw 20 (lG (AJ 15 (AJ 7 J2)) [0,1] (w _ _ · m k)))
 case l3 x7 x8 x9 x10=>
  intro m g k j;have k:=zBR k;have j:=zBR j;revert r;apply gO;exact gc (gn λW=>jg W (gi (cf Pw [oC (AE q),oC (AX a)] λ_=>bi 62 (bi 65 (jg zDl (jg W (gi (cf LL [oC (AE q),oC (AX a)] λ_=>lG (AJ 7 J2) [0,1] (w _ _ · m g k j))))) (lG (AJ 7 J2) [0,1] (w _ _ · m g k j))) (lG (AJ 7 J2) [0,1] (w _ _ · m g k j)))))
 case l4 x7 x8 x9=>
  intro m g k j;have k:=zBR k;have j:=zBR j;revert r;apply gO;exact gw 26 (lG (AJ 15 J2) [0,1] (w _ _ · m g k j))
def uY (h:S7 n q g pos=some r):EQ 149 [.agg 5 (L1 (AE q)),.agg 9 (L1 (AX g)),.ints pos] [] (.ints r) [] true:=by
 refine ot Tryz.func149 λB N=>?_
 revert r;apply gO;exact gc (gn λW=>gi (jz 13 2 (jg W (lN (AJ 15 (AJ 7 J2)) [0,1] ((zGw B N q g pos n) _ _ · n Nat.le.refl)))))
def zDd:Ae (A0 Tryz.f158 6) [] (List.range 24) [24]:=Z0
def VS:BF:=λi=>match i with
 | 6=>.ord [] (List.range 24) [24]
 | _=>.no
inductive am where
 | l1 (x8:Int) (o1:Ω)
def ak (n:Nat)(self:am -> Option Ω)(g:AC)(pos:Ξ)(all:Bool)(x8:Int)(o1:Ω):Option Ω:= bif (decide (x8<(g.ce.length:Int))) then if (0<=x8/\ x8<(g.ce.length:Int))/\ (0<=(g.ce.getD x8.toNat 0)/\ (g.ce.getD x8.toNat 0)<(pos.length:Int)) then bif ((bits .and .i64 (pos.getD ((g.ce.getD x8.toNat 0).toNat) 0) g.set) != 0) then bif (!all) then if 0+((g.ce.getD x8.toNat 0).toNat)<o1.length/\ AG (x8+1) then self (.l1 (x8+1) (o1.set (0+((g.ce.getD x8.toNat 0).toNat)) true)) else none else if 0+((g.ce.getD x8.toNat 0).toNat)<o1.length/\ AG (x8+1) then self (.l1 (x8+1) (o1.set (0+((g.ce.getD x8.toNat 0).toNat)) ((bits .and .i64 (pos.getD ((g.ce.getD x8.toNat 0).toNat) 0) g.set)==(pos.getD ((g.ce.getD x8.toNat 0).toNat) 0)))) else none else if 0+((g.ce.getD x8.toNat 0).toNat)<o1.length/\ AG (x8+1) then self (.l1 (x8+1) (o1.set (0+((g.ce.getD x8.toNat 0).toNat)) false)) else none else none else if pos.length=o1.length then some o1 else none
def uE (n:Nat)(self:am -> Option Ω)(c_:AC)(pos:Ξ)(all:Bool):Option Ω:= if ((pos.length:Int):Int)=(pos.length:Int)/\ 0<=(pos.length:Int)/\ ((pos.length:Int):Int)<=1000000000000 then self (.l1 0 (List.replicate pos.length false)) else none
def Sq (g:AC)(pos:Ξ)(all:Bool):Nat -> am -> Option Ω
 | 0,_=>none
 | n+1,.l1 x8 o1=>ak n (Sq g pos all n) g pos all x8 o1
def MP (n:Nat)(g:AC)(pos:Ξ)(all:Bool):Option Ω:=uE n (Sq g pos all n) g pos all
def zGI (n B:Nat)(N:Yd 0)(g:AC)(pos:Ξ)(all:Bool)(r:Ω):am -> Prop:=px n B Fence.wide N (FQ Tryz.f158 0 (.bools r) []) (Ac Tryz.f158) λ
 | .l1 x8 o1=>(0,0,AH 53 [(1,.ints pos),(2,.bool all),(3,.ref 0 0),(7,.msl 1 1 0 pos.length),(8,.i x8)],[oC (AX g),some (.bools o1)])
def zGJ (B:Nat)(N:Yd 0)(b:AC)(pos:Ξ)(all:Bool):Al (Sq b pos all) (zGI · B N b pos all):=ia (λ_=>rfl) λn w c r h=>by
 cases c
 case l1 x8 o1=>
  intro m k;refine rd k λm k=>?_
  revert r;apply gO;exact bi 17 (gc (gn λW=>jg W (gn λa=>jg a (jg zDd (jg W (bi 38 (bi 41 (jg a (gc (gi (gw 19 (lG VS [0,1] (w _ _ · m k)))))) (jg a (gc (gi (gw 19 (lG VS [0,1] (w _ _ · m k))))))) (jg a (gc (gi (gw 19 (lG VS [0,1] (w _ _ · m k)))))))))))) (gn λW=>lF λp=>ez VS [6] [1] p [0] (H0.g W))
def aj {all:Bool}{r:Ω}(h:MP n g pos all=some r):EQ 158 [.agg 9 (L1 (AX g)),.ints pos,.bool all] [] (.bools r) [] true:=by
 refine ot Tryz.func158 λB N=>?_
 revert r;apply gO;exact gi (lN VS [0,1] ((zGJ B N g pos all n) _ _ · n Nat.le.refl))
inductive ay where
 | l1 (x3:Int)
def ax (n:Nat)(self:ay -> Option Int)(J:Ω)(D:Int):Option Int:= bif (decide (D<(J.length:Int))) then if 0<=D/\ D<(J.length:Int) then bif (J.getD D.toNat false) then some D else if AG (D+1) then self (.l1 (D+1)) else none else none else some (-1)
def zGa (n:Nat)(self:ay -> Option Int)(AL:Ω):Option Int:= self (.l1 0)
def N9 (J:Ω):Nat -> ay -> Option Int
 | 0,_=>none
 | n+1,.l1 D=>ax n (N9 J n) J D
def Sz (n:Nat)(J:Ω):Option Int:=zGa n (N9 J n) J
def zGb (n B:Nat)(N:Yd 0)(J:Ω)(r:Int):ay -> Prop:=px n B Fence.wide N (FQ Tryz.f159 0 (.i r) []) (Ac Tryz.f159) λ
 | .l1 D=>(0,0,AH 15 [(0,.bools J),(3,.i D)],[])
def zGc (B:Nat)(N:Yd 0)(J:Ω):Al (N9 J) (zGb · B N J):=ia (λ_=>rfl) λn w a r h=>by
 cases a
 case l1 x3=>
  intro m k;refine rd k λm k=>?_
  revert r;apply gO;exact bi 7 (gi (bi 13 (lE AD [2] []) (gw 9 (lG AD [] (w _ _ · m k))))) (lE AD [2] [])
variable {J:Ω}
def uP {r:Int}(h:Sz n J=some r):EQ 159 [.bools J] [] (.i r) [] true:=by
 refine ot Tryz.func159 λB N=>?_
 revert r;apply gO;exact lN AD [] ((zGc B N J n) _ _ · n Nat.le.refl)
inductive Sn where
 | l1 (x8:Bool) (o0:Ω)
 | l2 (x8:Bool) (x9:Int) (o0:Ω)
 | l3 (x8:Bool) (x9 x10:Int) (o0:Ω)
def jJ (n:Nat)(self:Sn -> Option Ω)(H:List Ξ)(AL:Ω)(start:Int)(x8:Bool)(o0:Ω):Option Ω:= bif x8 then self (.l2 false 0 o0) else if H.length=o0.length then some o0 else none
def jI (n:Nat)(self:Sn -> Option Ω)(H:List Ξ)(AL:Ω)(start:Int)(x8:Bool)(N:Int)(o0:Ω):Option Ω:= bif (decide (N<(H.length:Int))) then self (.l3 x8 N 0 o0) else self (.l1 x8 o0)
def Vx (n:Nat)(self:Sn -> Option Ω)(H:List Ξ)(J:Ω)(start:Int)(x8:Bool)(N x10:Int)(o0:Ω):Option Ω:= if 0<=N/\ N<(H.length:Int) then bif (decide (x10<(((H.getD N.toNat []).length:Nat):Int))) then if 0+N.toNat<o0.length then bif (o0.getD (0+N.toNat) false) then if (0<=x10/\ x10<(((H.getD N.toNat []).length:Nat):Int))/\ ((0:Int)<=((H.getD N.toNat []).getD x10.toNat 0)/\ ((H.getD N.toNat []).getD x10.toNat 0)<(J.length:Int)) then bif (J.getD (((H.getD N.toNat []).getD x10.toNat 0).toNat) false) then if ((0:Int)<=((H.getD N.toNat []).getD x10.toNat 0)/\ ((H.getD N.toNat []).getD x10.toNat 0)<(H.length:Int))/\ 0+(((H.getD N.toNat []).getD x10.toNat 0).toNat)<o0.length then bif (!(o0.getD (0+(((H.getD N.toNat []).getD x10.toNat 0).toNat)) false)) then if AG (x10+1) then self (.l3 true N (x10+1) (o0.set (0+(((H.getD N.toNat []).getD x10.toNat 0).toNat)) true)) else none else if AG (x10+1) then self (.l3 x8 N (x10+1) o0) else none else none else if AG (x10+1) then self (.l3 x8 N (x10+1) o0) else none else none else if AG (x10+1) then self (.l3 x8 N (x10+1) o0) else none else none else if AG (N+1) then self (.l2 x8 (N+1) o0) else none else none
def uB (n:Nat)(self:Sn -> Option Ω)(H:List Ξ)(AL:Ω)(start:Int):Option Ω:= if (((H.length:Int):Int)=(H.length:Int)/\ 0<=(H.length:Int)/\ ((H.length:Int):Int)<=1000000000000)/\ (0<=start/\ start<(H.length:Int))/\ 0+start.toNat<(List.replicate H.length false).length then self (.l1 true ((List.replicate H.length false).set (0+start.toNat) true)) else none
def Gc (H:List Ξ)(J:Ω)(start:Int):Nat -> Sn -> Option Ω
 | 0,_=>none
 | n+1,.l1 x8 o0=>jJ n (Gc H J start n) H J start x8 o0
 | n+1,.l2 x8 N o0=>jI n (Gc H J start n) H J start x8 N o0
 | n+1,.l3 x8 N x10 o0=>Vx n (Gc H J start n) H J start x8 N x10 o0
def MM (n:Nat)(H:List Ξ)(J:Ω)(start:Int):Option Ω:=uB n (Gc H J start n) H J start
def zGA (n B:Nat)(N:Yd 0)(H:List Ξ)(J:Ω)(start:Int)(r:Ω):Sn -> Prop:=px n B Fence.wide N (FQ Tryz.f105 0 (.bools r) []) (Ac Tryz.f105) λ
 | .l1 x8 o0=>(0,0,AH 72 [(0,.sl 1 H.length (AO AW H)),(1,.bools J),(7,.msl 0 1 0 H.length),(8,.bool x8)],[some (.bools o0)])
 | .l2 x8 a o0=>(1,2,AH 72 [(0,.sl 1 H.length (AO AW H)),(1,.bools J),(7,.msl 0 1 0 H.length),(8,.bool x8),(9,.i a)],[some (.bools o0)])
 | .l3 x8 a x10 o0=>(2,4,AH 72 [(0,.sl 1 H.length (AO AW H)),(1,.bools J),(7,.msl 0 1 0 H.length),(8,.bool x8),(9,.i a),(10,.i x10)],[some (.bools o0)])
def zGB (B:Nat)(N:Yd 0)(H:List Ξ)(J:Ω)(start:Int):Al (Gc H J start) (zGA · B N H J start):=ia (λ_=>rfl) λn w d r h=>by
 cases d
 case l1 x8 o0=>
  intro m k;refine rd k λm k=>?_
  revert r;apply gO;exact bi 17 (lN AD [0] (w _ _ · m n k Nat.le.refl)) (gn λW=>lF λp=>ez AD [6] [0] p [0] (H0.g W))
 case l2 x8 x9 o0=>
  intro m a k j;have k:=zBR k;refine rd j λa j=>?_
  revert r;apply gO;exact bi 21 (lN AD [0] (w _ _ · m a n k j Nat.le.refl)) (lG AD [0] (w _ _ · m k))
 case l3 x8 x9 x10 o0=>
  intro m a b k j G;have k:=zBR k;have j:=zBR j;refine rd G λb G=>?_
  revert r;apply gO;exact gn λW=>jg W (bi 30 (jg W (gi (bi 36 (jg W (gc (gn λc=>jg c (gi (bi 47 (jg W (jg c (gc (gn λU=>jg U (gn λD=>jg D (bi 60 (jg W (jg c (jg U (jg D (gw 32 (lG AD [0] (w _ _ · m a b k j G))))))) (gw 32 (lG AD [0] (w _ _ · m a b k j G))))))))) (gw 32 (lG AD [0] (w _ _ · m a b k j G)))))))) (gw 32 (lG AD [0] (w _ _ · m a b k j G)))))) (gw 23 (lG AD [0] (w _ _ · m a k j))))
variable {start:Int}{H:List Ξ}
def jH {r:Ω}(h:MM n H J start=some r):EQ 105 [.sl 1 H.length (AO AW H),.bools J,.i start] [] (.bools r) [] true:=by
 refine ot Tryz.func105 λB N=>?_
 revert r;apply gO;exact gc (gi (gc (gi (gi (lN AD [0] ((zGB B N H J start n) _ _ · n Nat.le.refl))))))
inductive V0 where
 | l1 (x4:Int)
 | l2 (x3:Nat) (x4:Int) (o0:Ξ)
def Sv (n:Nat)(self:V0 -> Option Ξ)(J:Ω)(I:Int):Option Ξ:= bif (decide (I<(J.length:Int))) then if 0<=I/\ I<(J.length:Int) then bif (J.getD I.toNat false) then if ((0=0/\ 1=([I]:Ξ).length)/\ 0<([I]:Ξ).length/\ ([I]:Ξ).length<=Av)/\ AG (I+1) then self (.l2 (([I]:Ξ).length) (I+1) ([I]:Ξ)) else none else if AG (I+1) then self (.l1 (I+1)) else none else none else some ([]:Ξ)
def Su (n:Nat)(self:V0 -> Option Ξ)(J:Ω)(D:Nat)(I:Int)(o0:Ξ):Option Ξ:= bif (decide (I<(J.length:Int))) then if 0<=I/\ I<(J.length:Int) then bif (J.getD I.toNat false) then if ((0=0/\ 1=([I]:Ξ).length)/\ (0=0/\ D=o0.length)/\ o0.length+([I]:Ξ).length<=Av)/\ AG (I+1) then self (.l2 (o0.length+([I]:Ξ).length) (I+1) (o0++([I]:Ξ))) else none else if AG (I+1) then self (.l2 D (I+1) o0) else none else none else if D=o0.length then some o0 else none
def zGR (n:Nat)(self:V0 -> Option Ξ)(AL:Ω):Option Ξ:= self (.l1 0)
def JG (J:Ω):Nat -> V0 -> Option Ξ
 | 0,_=>none
 | n+1,.l1 I=>Sv n (JG J n) J I
 | n+1,.l2 D I o0=>Su n (JG J n) J D I o0
def jO (n:Nat)(J:Ω):Option Ξ:=zGR n (JG J n) J
def zGS (n B:Nat)(N:Yd 0)(J:Ω)(r:Ξ):V0 -> Prop:=px n B Fence.wide N (FQ Tryz.f104 0 (.ints r) []) (Ac Tryz.f104) λ
 | .l1 I=>(0,0,AH 20 [(0,.bools J),(3,.nils),(4,.i I)],[])
 | .l2 D I o0=>(0,0,AH 20 [(0,.bools J),(3,.msl 0 1 0 D),(4,.i I)],[oI o0])
def zGT (B:Nat)(N:Yd 0)(J:Ω):Al (JG J) (zGS · B N J):=ia (λ_=>rfl) λn w a r h=>by
 cases a
 case l1 x4=>
  intro m k;refine rd k λm k=>?_
  revert r;apply gO;exact bi 8 (gi (bi 14 (gc (gi (gw 10 (lG AD [1] (w _ _ · m k))))) (gw 10 (lG AD [] (w _ _ · m k))))) (lF λp=>el AD [2] [] p [] H0 [.nils] AM.ints_nil)
 case l2 x3 x4 o0=>
  intro m k;refine rd k λm k=>?_
  revert r;apply gO;exact bi 8 (gi (bi 14 (gc (gi (gw 10 (lG AD [2] (w _ _ · m k))))) (gw 10 (lG AD [0] (w _ _ · m k))))) (gn λW=>lF λp=>ez AD [2] [0] p [0] (H0.g W))
def zGQ (h:jO n J=some r):EQ 104 [.bools J] [] (.ints r) [] true:=by
 refine ot Tryz.func104 λB N=>?_
 revert r;apply gO;exact lN AD [] ((zGT B N J n) _ _ · n Nat.le.refl)
def jT (n:Nat)(H:List Ξ)(J:Ω)(start:Int):W6:= (N6 n H).bind λe=> bif (e != 0) then some (([]:Ξ),120) else bif ((J.length:Int) != (H.length:Int)) then some (([]:Ξ),1) else bif (decide (start<0)) then some (([]:Ξ),1) else bif (decide (start>=(H.length:Int))) then some (([]:Ξ),1) else if 0<=start/\ start<(J.length:Int) then bif (!(J.getD start.toNat false)) then some (([]:Ξ),1) else (MM n H J start).bind λx=> (jO n x).bind λy3=> some (y3,0) else none
def V2 (n:Nat)(H:List Ξ)(J:Ω)(start:Int):W6:=jT n H J start
def zGt {r:Ξ×Int}(h:V2 n H J start=some r):EQ 167 [.sl 1 H.length (AO AW H),.bools J,.i start] [] (.tup 2 (L1 [.ints r.1,.i r.2])) [] true:=by
 unfold V2 jT at h;refine ot Tryz.func167 λB N=>?_
 revert r;apply gO;exact cf i8 [] λ_=>bi 10 (lF λp=>el AD [6,7] [] p [] H0 [.nils,.i 120] (AM.tupL (l:=[.nils,.i 120]) (l':=[.ints ([]:Ξ),.i 120]) rfl ⟨AM.ints_nil,Ar,trivial⟩)) (bi 15 (lF λp=>el AD [6,7] [] p [] H0 [.nils,.i 1] (AM.tupL (l:=[.nils,.i 1]) (l':=[.ints ([]:Ξ),.i 1]) rfl ⟨AM.ints_nil,Ar,trivial⟩)) (bi 18 (lF λp=>el AD [6,7] [] p [] H0 [.nils,.i 1] (AM.tupL (l:=[.nils,.i 1]) (l':=[.ints ([]:Ξ),.i 1]) rfl ⟨AM.ints_nil,Ar,trivial⟩)) (bi 24 (lF λp=>el AD [6,7] [] p [] H0 [.nils,.i 1] (AM.tupL (l:=[.nils,.i 1]) (l':=[.ints ([]:Ξ),.i 1]) rfl ⟨AM.ints_nil,Ar,trivial⟩)) (gi (bi 31 (lF λp=>el AD [6,7] [] p [] H0 [.nils,.i 1] (AM.tupL (l:=[.nils,.i 1]) (l':=[.ints ([]:Ξ),.i 1]) rfl ⟨AM.ints_nil,Ar,trivial⟩)) (cf jH [] λ_=>cf zGQ [] λ_=>lE AD [6,7] []))))))
def tj (n:Nat)(J:Ω)(at_:Int):Option Ω:= if ((True)/\ (0=0/\ 0=([]:Ω).length)/\ ([]:Ω).length+J.length<=Av)/\ (0<=at_/\ at_<((([]:Ω).length+J.length:Nat):Int))/\ 0+at_.toNat<(([]:Ω)++J).length then if ([]:Ω).length+J.length=((([]:Ω)++J).set (0+at_.toNat) false).length then some ((([]:Ω)++J).set (0+at_.toNat) false) else none else none
def aW (n:Nat)(J:Ω)(at_:Int):Option Ω:=tj n J at_
def zFs {r:Ω}(h:aW n J at_=some r):EQ 168 [.bools J,.i at_] [] (.bools r) [] true:=by
 refine ot Tryz.func168 λB N=>?_
 revert r;apply gO;exact gc (gi (gc (gi (gi (gn λR=>lF λp=>ez AD [4] [1] p [0] (H0.g R))))))
inductive Vt where
 | l1 (x10:Int)
 | l2 (x10:Int) (AN AQ:Ω) (x13:Int)
def aZ (n:Nat)(self:Vt -> X7)(H:List Ξ)(J i:Ω)(at_:Int)(x10:Int):X7:= bif (decide (x10<(H.length:Int))) then bif (x10==at_) then if AG (x10+1) then self (.l1 (x10+1)) else none else if 0<=x10/\ x10<(J.length:Int) then bif (!(J.getD x10.toNat false)) then if AG (x10+1) then self (.l1 (x10+1)) else none else if 0<=x10/\ x10<(i.length:Int) then bif (!(i.getD x10.toNat false)) then if AG (x10+1) then self (.l1 (x10+1)) else none else (MM n H J x10).bind λe=> (aW n J at_).bind λx=> (MM n H x x10).bind λy3=> self (.l2 x10 e y3 0) else none else none else some (false,0)
def Vs (n:Nat)(self:Vt -> X7)(H:List Ξ)(J i:Ω)(at_:Int)(x10:Int)(T k:Ω)(x13:Int):X7:= bif (decide (x13<(H.length:Int))) then bif (x13 != at_) then if 0<=x13/\ x13<(J.length:Int) then bif (J.getD x13.toNat false) then if 0<=x13/\ x13<(i.length:Int) then bif (i.getD x13.toNat false) then if 0<=x13/\ x13<(T.length:Int) then bif (T.getD x13.toNat false) then if 0<=x13/\ x13<(k.length:Int) then bif (!(k.getD x13.toNat false)) then some (true,0) else if AG (x13+1) then self (.l2 x10 T k (x13+1)) else none else none else if AG (x13+1) then self (.l2 x10 T k (x13+1)) else none else none else if AG (x13+1) then self (.l2 x10 T k (x13+1)) else none else none else if AG (x13+1) then self (.l2 x10 T k (x13+1)) else none else none else if AG (x13+1) then self (.l2 x10 T k (x13+1)) else none else if AG (x10+1) then self (.l1 (x10+1)) else none
def tn (n:Nat)(self:Vt -> X7)(H:List Ξ)(J i:Ω)(at_:Int):X7:= (N6 n H).bind λe=> bif (e != 0) then some (false,120) else bif ((J.length:Int) != (H.length:Int)) then some (false,1) else bif ((i.length:Int) != (H.length:Int)) then some (false,1) else bif (decide (at_<0)) then some (false,1) else bif (decide (at_>=(H.length:Int))) then some (false,1) else if 0<=at_/\ at_<(J.length:Int) then bif (!(J.getD at_.toNat false)) then some (false,0) else self (.l1 0) else none
def Fr (H:List Ξ)(J i:Ω)(at_:Int):Nat -> Vt -> X7
 | 0,_=>none
 | n+1,.l1 x10=>aZ n (Fr H J i at_ n) H J i at_ x10
 | n+1,.l2 x10 T k x13=>Vs n (Fr H J i at_ n) H J i at_ x10 T k x13
def aa (n:Nat)(H:List Ξ)(J i:Ω)(at_:Int):X7:=tn n (Fr H J i at_ n) H J i at_
def zFz (n B:Nat)(N:Yd 0)(H:List Ξ)(J a:Ω)(at_:Int)(r:Bool×Int):Vt -> Prop:=px n B Fence.wide N (FQ Tryz.f161 0 (.tup 2 (L1 [.bool r.1,.i r.2])) []) (Ac Tryz.f161) λ
 | .l1 x10=>(0,0,AH 111 [(0,.sl 1 H.length (AO AW H)),(1,.bools J),(2,.bools a),(3,.i at_),(10,.i x10)],[])
 | .l2 x10 T k x13=>(1,2,AH 111 [(0,.sl 1 H.length (AO AW H)),(1,.bools J),(2,.bools a),(3,.i at_),(10,.i x10),(11,.bools T),(12,.bools k),(13,.i x13)],[])
def zF0 (B:Nat)(N:Yd 0)(H:List Ξ)(J i:Ω)(at_:Int):Al (Fr H J i at_) (zFz · B N H J i at_):=ia (λ_=>rfl) λn w a r h=>by
 cases a
 case l1 x10=>
  intro m k;refine rd k λm k=>?_
  revert r;apply gO;exact bi 47 (bi 52 (gw 49 (lG AD [] (w _ _ · m k))) (gi (bi 58 (gw 49 (lG AD [] (w _ _ · m k))) (gi (bi 65 (gw 49 (lG AD [] (w _ _ · m k))) (cf jH [] λ_=>cf zFs [] λ_=>cf jH [] λ_=>lN AD [] (w _ _ · m n k Nat.le.refl))))))) (lE AD [8,9] [])
 case l2 x10 AN AQ x13=>
  intro m g k j;have k:=zBR k;refine rd j λg j=>?_
  revert r;apply gO;exact bi 80 (bi 85 (gi (bi 90 (gi (bi 96 (gi (bi 102 (gi (bi 109 (lE AD [8,9] []) (gw 82 (lG AD [] (w _ _ · m g k j))))) (gw 82 (lG AD [] (w _ _ · m g k j))))) (gw 82 (lG AD [] (w _ _ · m g k j))))) (gw 82 (lG AD [] (w _ _ · m g k j))))) (gw 82 (lG AD [] (w _ _ · m g k j)))) (gw 49 (lG AD [] (w _ _ · m k)))
def jC {a:Ω}{r:Bool×Int}(h:aa n H J a at_=some r):EQ 161 [.sl 1 H.length (AO AW H),.bools J,.bools a,.i at_] [] (.tup 2 (L1 [.bool r.1,.i r.2])) [] true:=by
 refine ot Tryz.func161 λB N=>?_
 revert r;apply gO;exact cf i8 [] λ_=>bi 16 (lE AD [8,9] []) (bi 21 (lE AD [8,9] []) (bi 27 (lE AD [8,9] []) (bi 31 (lE AD [8,9] []) (bi 37 (lE AD [8,9] []) (gi (bi 43 (lE AD [8,9] []) (lN AD [] ((zF0 B N H J a at_ n) _ _ · n Nat.le.refl))))))))
def zDn:Ae (A0 Tryz.f160 7) [([0,1,2,3,4,5,6,7,8],9)] [10] []:=Z0
def VT:BF:=λi=>match i with
 | 7=>.ord [([0,1,2,3,4,5,6,7,8],9)] [10] []
 | _=>.no
inductive bK where
 | l1 (AN AQ:Ξ) (Ak:Int)
def bJ (n:Nat)(self:bK -> Option Ξ)(q:AA)(g:AC)(pos:Ξ)(p:Ω)(start:Int)(a k:Ξ)(T:Int):Option Ξ:= bif (decide (T<(pos.length:Int))) then if 0<=T/\ T<(p.length:Int) then bif (p.getD T.toNat false) then (has n k T).bind λe=> bif (!e) then if 0<=T/\ T<(pos.length:Int) then (Fs n a T (bits .and .i64 (pos.getD T.toNat 0) g.set)).bind λx=> if AG (T+1) then self (.l1 x k (T+1)) else none else none else if AG (T+1) then self (.l1 a k (T+1)) else none else if AG (T+1) then self (.l1 a k (T+1)) else none else none else some a
def ug (n:Nat)(self:bK -> Option Ξ)(q:AA)(c_:AC)(pos:Ξ)(p:Ω)(start:Int):Option Ξ:= if pos.length=(List.replicate pos.length (0:Int)).length/\ (((pos.length:Int):Int)=(pos.length:Int)/\ 0<=(pos.length:Int)/\ ((pos.length:Int):Int)<=1000000000000) then (V2 n q.nb p start).bind λe=> self (.l1 (List.replicate pos.length (0:Int)) e.1 0) else none
def LP (q:AA)(g:AC)(pos:Ξ)(p:Ω)(start:Int):Nat -> bK -> Option Ξ
 | 0,_=>none
 | n+1,.l1 T k a=>bJ n (LP q g pos p start n) q g pos p start T k a
def OE (n:Nat)(q:AA)(g:AC)(pos:Ξ)(p:Ω)(start:Int):Option Ξ:=ug n (LP q g pos p start n) q g pos p start
def zG0 (n B:Nat)(N:Yd 0)(q:AA)(g:AC)(pos:Ξ)(p:Ω)(start:Int)(r:Ξ):bK -> Prop:=px n B Fence.wide N (FQ Tryz.f160 0 (.ints r) []) (Ac Tryz.f160) λ
 | .l1 T k a=>(0,0,AH 53 [(2,.ints pos),(3,.bools p),(6,.ref 0 0),(11,.ints T),(12,.ints k),(14,.i a)],[oC (AX g)])
def zG1 (B:Nat)(N:Yd 0)(q:AA)(g:AC)(pos:Ξ)(p:Ω)(start:Int):Al (LP q g pos p start) (zG0 · B N q g pos p start):=ia (λ_=>rfl) λn w a r h=>by
 cases a
 case l1 AN AQ Ak=>
  intro m k;refine rd k λm k=>?_
  revert r;apply gO;exact bi 29 (gi (bi 35 (cf my [oC (AX g)] λ_=>bi 40 (jg zDn (gi (cf LL [oC (AX g)] λ_=>gw 31 (lG VT [0] (w _ _ · m k))))) (gw 31 (lG VT [0] (w _ _ · m k)))) (gw 31 (lG VT [0] (w _ _ · m k))))) (lE VT [10] [])
def uf {p:Ω}(h:OE n q g pos p start=some r):EQ 160 [.agg 5 (L1 (AE q)),.agg 9 (L1 (AX g)),.ints pos,.bools p,.i start] [] (.ints r) [] true:=by
 refine ot Tryz.func160 λB N=>?_
 revert r;apply gO;exact gc (gn λW=>gi (jz 17 2 (jg W (cf zGt [oC (AE q),oC (AX g),none] λ_=>lN VT [1] ((zG1 B N q g pos p start n) _ _ · n Nat.le.refl)))))
def zDk:Ae (A0 Tryz.f146 12) [([0,1,2,3,4,5,6,7,8,9,10,11,12,13],14)] [15] []:=Z0
def Pf:BF:=λi=>match i with
 | 12=>.ord [([0,1,2,3,4,5,6,7,8,9,10,11,12,13],14)] [15] []
 | _=>.no
inductive bG where
 | l1 (x7 x8:Ω) (x10:Ξ) (AN:Int)
def bF (n:Nat)(self:bG -> Option Ξ)(q:AA)(g:AC)(pos:Ξ)(P x8:Ω)(x10:Ξ)(T:Int):Option Ξ:= bif (decide (T<(pos.length:Int))) then (aa n q.nb P x8 T).bind λe=> if 0<=T/\ T<(P.length:Int) then bif (P.getD T.toNat false) then if 0<=T/\ T<(x8.length:Int) then bif (!(x8.getD T.toNat false)) then bif e.1 then if (0<=T/\ T<(pos.length:Int))/\ AG ((pos.getD T.toNat 0)-(bits .and .i64 (pos.getD T.toNat 0) g.set)) then (Fs n x10 T ((pos.getD T.toNat 0)-(bits .and .i64 (pos.getD T.toNat 0) g.set))).bind λx=> if AG (T+1) then self (.l1 P x8 x (T+1)) else none else none else if AG (T+1) then self (.l1 P x8 x10 (T+1)) else none else if AG (T+1) then self (.l1 P x8 x10 (T+1)) else none else none else if AG (T+1) then self (.l1 P x8 x10 (T+1)) else none else none else some x10
def zGp (n:Nat)(self:bG -> Option Ξ)(q:AA)(g:AC)(pos:Ξ):Option Ξ:= (MP n g pos false).bind λe=> (MP n g pos true).bind λx=> (Sz n x).bind λy3=> bif (decide (y3<0)) then if pos.length=(List.replicate pos.length (0:Int)).length/\ (((pos.length:Int):Int)=(pos.length:Int)/\ 0<=(pos.length:Int)/\ ((pos.length:Int):Int)<=1000000000000) then some (List.replicate pos.length (0:Int)) else none else (OE n q g pos e y3).bind λm=> self (.l1 e x m 0)
def LO (q:AA)(g:AC)(pos:Ξ):Nat -> bG -> Option Ξ
 | 0,_=>none
 | n+1,.l1 P x8 x10 T=>bF n (LO q g pos n) q g pos P x8 x10 T
def jS (n:Nat)(q:AA)(g:AC)(pos:Ξ):Option Ξ:=zGp n (LO q g pos n) q g pos
def zGr (n B:Nat)(N:Yd 0)(q:AA)(g:AC)(pos:Ξ)(r:Ξ):bG -> Prop:=px n B Fence.wide N (FQ Tryz.f146 0 (.ints r) []) (Ac Tryz.f146) λ
 | .l1 P x8 x10 T=>(0,0,AH 78 [(2,.ints pos),(3,.ref 0 0),(4,.ref 1 0),(7,.bools P),(8,.bools x8),(10,.ints x10),(11,.i T)],[oC (AE q),oC (AX g)])
def zGs (B:Nat)(N:Yd 0)(q:AA)(g:AC)(pos:Ξ):Al (LO q g pos) (zGr · B N q g pos):=ia (λ_=>rfl) λn w f r h=>by
 cases f
 case l1 x7 x8 x10 AN=>
  intro m k;refine rd k λm k=>?_
  revert r;apply gO;exact bj 36 (λb=>cn λy1 a=>jc (fb (jC a) [oC (AE q),oC (AX g)]) (gn λW=>jg W (bj 51 (λc=>gn λp=>jg p (bj 57 (λd=>bn (λE=>rO (jb 36 b (jc (fb (jC a) [oC (AE q),oC (AX g)]) (jb 46 E (jg W (jb 51 c (jg p (jb 57 d (jg zDk (gc (gn λe=>jg e (jg e (gw 75 (cf LL [oC (AE q),oC (AX g)] λ_=>gw 38 (lG Pf [0,1] (w _ _ · m k)))))))))))))))) (λE=>rO (jb 36 b (jc (fb (jC a) [oC (AE q),oC (AX g)]) (jb 46 E (jg W (jb 51 c (jg p (jb 57 d (gw 38 (lG Pf [0,1] (w _ _ · m k)))))))))))) (λ_=>gw 38 (lG Pf [0,1] (w _ _ · m k))))) (λ_=>gw 38 (lG Pf [0,1] (w _ _ · m k)))))) (λ_=>lE Pf [6] [])
def zGo (h:jS n q g pos=some r):EQ 146 [.agg 5 (L1 (AE q)),.agg 9 (L1 (AX g)),.ints pos] [] (.ints r) [] true:=by
 refine ot Tryz.func146 λB N=>?_
 revert r;apply gO;exact cf aj [oC (AE q),oC (AX g)] λ_=>cf aj [oC (AE q),oC (AX g)] λ_=>cf uP [oC (AE q),oC (AX g)] λ_=>bi 23 (gc (gn λW=>gi (jz 26 2 (jg W (lE Pf [6] []))))) (cf uf [oC (AE q),oC (AX g)] λ_=>lN Pf [0,1] ((zGs B N q g pos n) _ _ · n Nat.le.refl))
inductive ac where
 | l1 (x7:Nat) (x8:Int) (o1:Ξ)
def ab (n:Nat)(self:ac -> Option Ξ)(q:AA)(cell:Int)(J:Ω)(P:Nat)(x8:Int)(o1:Ξ):Option Ξ:= if 0<=cell/\ cell<(q.nb.length:Int) then bif (decide (x8<(((q.nb.getD cell.toNat []).length:Nat):Int))) then if (0<=x8/\ x8<(((q.nb.getD cell.toNat []).length:Nat):Int))/\ ((0:Int)<=((q.nb.getD cell.toNat []).getD x8.toNat 0)/\ ((q.nb.getD cell.toNat []).getD x8.toNat 0)<(J.length:Int)) then bif (J.getD (((q.nb.getD cell.toNat []).getD x8.toNat 0).toNat) false) then if ((0=0/\ 1=([(q.nb.getD cell.toNat []).getD x8.toNat 0]:Ξ).length)/\ (0=0/\ P=o1.length)/\ o1.length+([(q.nb.getD cell.toNat []).getD x8.toNat 0]:Ξ).length<=Av)/\ AG (x8+1) then self (.l1 (o1.length+([(q.nb.getD cell.toNat []).getD x8.toNat 0]:Ξ).length) (x8+1) (o1++([(q.nb.getD cell.toNat []).getD x8.toNat 0]:Ξ))) else none else if AG (x8+1) then self (.l1 P (x8+1) o1) else none else none else if P=o1.length then some o1 else none else none
def zF1 (n:Nat)(self:ac -> Option Ξ)(q:AA)(cell:Int)(AL:Ω):Option Ξ:= self (.l1 0 0 ([]:Ξ))
def Sl (q:AA)(cell:Int)(J:Ω):Nat -> ac -> Option Ξ
 | 0,_=>none
 | n+1,.l1 P x8 o1=>ab n (Sl q cell J n) q cell J P x8 o1
def ae (n:Nat)(q:AA)(cell:Int)(J:Ω):Option Ξ:=zF1 n (Sl q cell J n) q cell J
def zF2 (n B:Nat)(N:Yd 0)(q:AA)(cell:Int)(J:Ω)(r:Ξ):ac -> Prop:=px n B Fence.wide N (FQ Tryz.f162 0 (.ints r) []) (Ac Tryz.f162) λ
 | .l1 P x8 o1=>(0,0,AH 43 [(1,.i cell),(2,.bools J),(3,.ref 0 0),(7,.msl 1 1 0 P),(8,.i x8)],[oC (AE q),oI o1])
def zF3 (B:Nat)(N:Yd 0)(q:AA)(cell:Int)(J:Ω):Al (Sl q cell J) (zF2 · B N q cell J):=ia (λ_=>rfl) λn w b r h=>by
 cases b
 case l1 x7 x8 o1=>
  intro m k;refine rd k λm k=>?_
  revert r;apply gO;exact gn λW=>jg W (bi 17 (jg W (gc (gn λa=>jg a (gi (bi 30 (jg W (jg a (gc (gi (gw 19 (lG AD [0,3] (w _ _ · m k))))))) (gw 19 (lG AD [0,1] (w _ _ · m k)))))))) (gn λa=>lF λp=>ez AD [6] [1] p [0] (H0.g a)))
def tv (h:ae n q cell J=some r):EQ 162 [.agg 5 (L1 (AE q)),.i cell,.bools J] [] (.ints r) [] true:=by
 refine ot Tryz.func162 λB N=>?_
 revert r;apply gO;exact lN AD [0,1] ((zF3 B N q cell J n) _ _ · n Nat.le.refl)
def zDf:Ae (A0 Tryz.f147 19) [([0,1,2,3,4,5,6,7,8,9,10,11,12,13,14,15,16,17,18,19,20,21,22],23)] [24] []:=Z0
def zDe:Ae (A0 Tryz.f147 21) [([0,1,2,3,4,5,6,7,8,9,10,11,12,13,14],15)] [16] []:=Z0
def Hx:BF:=λi=>match i with
 | 19=>.ord [([0,1,2,3,4,5,6,7,8,9,10,11,12,13,14,15,16,17,18,19,20,21,22],23)] [24] []
 | 21=>.ord [([0,1,2,3,4,5,6,7,8,9,10,11,12,13,14],15)] [16] []
 | _=>.no
inductive Pv where
 | l1 (x8 x9:Ω) (AN:Ξ) (AQ:Int)
 | l2 (x8 x9:Ω) (AN:Ξ) (AQ:Int) (x13 Ak:Ξ) (Aq:Int)
 | l3 (x8 x9:Ω) (AN:Ξ) (AQ:Int) (x13 Ak:Ξ) (Aq:Int)
 | l4 (x8 x9:Ω) (AN:Ξ) (AQ:Int) (x13 Ak:Ξ) (Aq:Int)
def ao (n:Nat)(self:Pv -> W5)(q:AA)(c_:AC)(pos:Ξ)(x8 N:Ω)(T:Ξ)(k:Int):W5:= bif (decide (k<(pos.length:Int))) then if 0<=k/\ k<(N.length:Int) then bif (!(N.getD k.toNat false)) then if AG (k+1) then self (.l1 x8 N T (k+1)) else none else (ae n q k x8).bind λe=> (ae n q k N).bind λx=> bif (decide ((e.length:Int)<2)) then some (T,false) else bif (decide ((x.length:Int)>2)) then some (T,false) else self (.l2 x8 N T k e x 0) else none else some (T,true)
def Pu (n:Nat)(self:Pv -> W5)(q:AA)(g:AC)(pos:Ξ)(x8 N:Ω)(T:Ξ)(k:Int)(x13 a:Ξ)(d:Int):W5:= bif (decide (d<(x13.length:Int))) then bif ((x13.length:Int)==2) then if (0<=d/\ d<(x13.length:Int))/\ (0<=(x13.getD d.toNat 0)/\ (x13.getD d.toNat 0)<(pos.length:Int))/\ AG ((pos.getD ((x13.getD d.toNat 0).toNat) 0)-(bits .and .i64 (pos.getD ((x13.getD d.toNat 0).toNat) 0) g.set)) then (Fs n T (x13.getD d.toNat 0) ((pos.getD ((x13.getD d.toNat 0).toNat) 0)-(bits .and .i64 (pos.getD ((x13.getD d.toNat 0).toNat) 0) g.set))).bind λe=> self (.l3 x8 N e k x13 a d) else none else self (.l3 x8 N T k x13 a d) else if AG (k+1) then self (.l1 x8 N T (k+1)) else none
def Ss (n:Nat)(self:Pv -> W5)(q:AA)(g:AC)(pos:Ξ)(x8 N:Ω)(a:Ξ)(k:Int)(x13 T:Ξ)(d:Int):W5:= bif ((T.length:Int)==2) then if (0<=d/\ d<(x13.length:Int))/\ (0<=(x13.getD d.toNat 0)/\ (x13.getD d.toNat 0)<(N.length:Int)) then bif (!(N.getD ((x13.getD d.toNat 0).toNat) false)) then if 0<=(x13.getD d.toNat 0)/\ (x13.getD d.toNat 0)<(pos.length:Int) then (Fs n a (x13.getD d.toNat 0) (bits .and .i64 (pos.getD ((x13.getD d.toNat 0).toNat) 0) g.set)).bind λe=> self (.l4 x8 N e k x13 T d) else none else self (.l4 x8 N a k x13 T d) else none else self (.l4 x8 N a k x13 T d)
def uG (n:Nat)(self:Pv -> W5)(q:AA)(c_:AC)(pos:Ξ)(x8 N:Ω)(T:Ξ)(k:Int)(x13 a:Ξ)(d:Int):W5:= if AG (d+1) then self (.l2 x8 N T k x13 a (d+1)) else none
def zGL (n:Nat)(self:Pv -> W5)(q:AA)(g:AC)(pos:Ξ):W5:= (MP n g pos false).bind λe=> (MP n g pos true).bind λx=> (Sz n x).bind λy3=> bif (decide (y3<0)) then if pos.length=(List.replicate pos.length (0:Int)).length/\ (((pos.length:Int):Int)=(pos.length:Int)/\ 0<=(pos.length:Int)/\ ((pos.length:Int):Int)<=1000000000000) then some (List.replicate pos.length (0:Int),true) else none else (OE n q g pos e y3).bind λm=> self (.l1 e x m 0)
def ED (q:AA)(g:AC)(pos:Ξ):Nat -> Pv -> W5
 | 0,_=>none
 | n+1,.l1 x8 N T k=>ao n (ED q g pos n) q g pos x8 N T k
 | n+1,.l2 x8 N T k x13 a d=>Pu n (ED q g pos n) q g pos x8 N T k x13 a d
 | n+1,.l3 x8 N T k x13 a d=>Ss n (ED q g pos n) q g pos x8 N T k x13 a d
 | n+1,.l4 x8 N T k x13 a d=>uG n (ED q g pos n) q g pos x8 N T k x13 a d
def jM (n:Nat)(q:AA)(g:AC)(pos:Ξ):W5:=zGL n (ED q g pos n) q g pos
def zGN (n B:Nat)(N:Yd 0)(q:AA)(g:AC)(pos:Ξ)(r:Ξ×Bool):Pv -> Prop:=px n B Fence.wide N (FQ Tryz.f147 0 (.tup 2 (L1 [.ints r.1,.bool r.2])) []) (Ac Tryz.f147) λ
 | .l1 x8 a T k=>(0,0,AH 126 [(2,.ints pos),(3,.ref 0 0),(4,.ref 1 0),(8,.bools x8),(9,.bools a),(11,.ints T),(12,.i k)],[oC (AE q),oC (AX g)])
 | .l2 x8 a T k x13 b d=>(1,2,AH 126 [(2,.ints pos),(3,.ref 0 0),(4,.ref 1 0),(8,.bools x8),(9,.bools a),(11,.ints T),(12,.i k),(13,.ints x13),(14,.ints b),(15,.i d)],[oC (AE q),oC (AX g)])
 | .l3 x8 a T k x13 b d=>(5,20,AH 126 [(2,.ints pos),(3,.ref 0 0),(4,.ref 1 0),(8,.bools x8),(9,.bools a),(11,.ints T),(12,.i k),(13,.ints x13),(14,.ints b),(15,.i d)],[oC (AE q),oC (AX g)])
 | .l4 x8 a T k x13 b d=>(5,17,AH 126 [(2,.ints pos),(3,.ref 0 0),(4,.ref 1 0),(8,.bools x8),(9,.bools a),(11,.ints T),(12,.i k),(13,.ints x13),(14,.ints b),(15,.i d)],[oC (AE q),oC (AX g)])
def zGP (B:Nat)(N:Yd 0)(q:AA)(a:AC)(pos:Ξ):Al (ED q a pos) (zGN · B N q a pos):=ia (λ_=>rfl) λn w b r h=>by
 cases b
 case l1 x8 x9 AN AQ=>
  intro m k;refine rd k λm k=>?_
  revert r;apply gO;exact bi 38 (gi (bi 45 (gw 40 (lG (AJ 20 (AJ 17 Hx)) [0,1] (w _ _ · m k))) (cf tv [oC (AE q),oC (AX a)] λ_=>cf tv [oC (AE q),oC (AX a)] λ_=>bi 56 (lE (AJ 20 (AJ 17 Hx)) [6,7] []) (bi 60 (lE (AJ 20 (AJ 17 Hx)) [6,7] []) (lN (AJ 20 (AJ 17 Hx)) [0,1] (w _ _ · m n k Nat.le.refl)))))) (lE (AJ 20 (AJ 17 Hx)) [6,7] [])
 case l2 x8 x9 AN AQ x13 Ak Aq=>
  intro m g k j;have k:=zBR k;refine rd j λg j=>?_
  revert r;apply gO;exact bi 66 (bi 71 (jg zDf (gc (gn λW=>jg W (jg W (gc (gn λp=>jg p (jg W (jg p (gw 94 (cf LL [oC (AE q),oC (AX a)] λ_=>lG (AJ 20 (AJ 17 Hx)) [0,1] (w _ _ · m g k j))))))))))) (lG (AJ 20 (AJ 17 Hx)) [0,1] (w _ _ · m g k j))) (gw 40 (lG (AJ 20 (AJ 17 Hx)) [0,1] (w _ _ · m k)))
 case l3 x8 x9 AN AQ x13 Ak Aq=>
  intro m g k j;have k:=zBR k;have j:=zBR j;revert r;apply gO;exact bi 98 (gc (gn λW=>jg W (gi (bi 107 (jg zDe (jg W (jg W (gi (cf LL [oC (AE q),oC (AX a)] λ_=>lG (AJ 17 Hx) [0,1] (w _ _ · m g k j)))))) (lG (AJ 17 Hx) [0,1] (w _ _ · m g k j)))))) (lG (AJ 17 Hx) [0,1] (w _ _ · m g k j))
 case l4 x8 x9 AN AQ x13 Ak Aq=>
  intro m g k j;have k:=zBR k;have j:=zBR j;revert r;apply gO;exact gw 68 (lG (AJ 20 Hx) [0,1] (w _ _ · m g k j))
def zGK {r:Ξ×Bool}(h:jM n q g pos=some r):EQ 147 [.agg 5 (L1 (AE q)),.agg 9 (L1 (AX g)),.ints pos] [] (.tup 2 (L1 [.ints r.1,.bool r.2])) [] true:=by
 refine ot Tryz.func147 λB N=>?_
 revert r;apply gO;exact cf aj [oC (AE q),oC (AX g)] λ_=>cf aj [oC (AE q),oC (AX g)] λ_=>cf uP [oC (AE q),oC (AX g)] λ_=>bi 25 (gc (gn λW=>gi (jz 28 2 (jg W (lE (AJ 20 (AJ 17 Hx)) [6,7] []))))) (cf uf [oC (AE q),oC (AX g)] λ_=>lN (AJ 20 (AJ 17 Hx)) [0,1] ((zGP B N q g pos n) _ _ · n Nat.le.refl))
def LJ (n:Nat)(q:AA)(g:AC)(pos:Ξ):W5:= bif (g.kind==1) then (bB n q g pos).bind λe=> some (e,true) else bif (g.kind==2) then (bE n g pos).bind λe=> some (e.1,e.2) else bif (g.kind==3) then (aY n q g pos).bind λe=> some (e.1,e.2) else bif (g.kind==8) then (jS n q g pos).bind λe=> some (e,true) else bif (g.kind==9) then (jM n q g pos).bind λe=> some (e.1,e.2) else bif (g.kind==5) then (Ep n g pos 0 0 0 (-1) true).bind λe=> bif (!e) then some (pos,false) else (S7 n q g pos).bind λx=> some (x,true) else (S7 n q g pos).bind λe=> some (e,true)
def JF (n:Nat)(q:AA)(g:AC)(pos:Ξ):W5:=LJ n q g pos
def zF8 {r:Ξ×Bool}(h:JF n q g pos=some r):EQ 132 [.agg 5 (L1 (AE q)),.agg 9 (L1 (AX g)),.ints pos] [] (.tup 2 (L1 [.ints r.1,.bool r.2])) [] true:=by
 refine ot Tryz.func132 λB N=>?_
 revert r;apply gO;exact bi 11 (cf zGd [oC (AE q),oC (AX g)] λ_=>lE AD [6,7] []) (bi 17 (cf zGk [oC (AE q),oC (AX g)] λ_=>lE AD [6,7] []) (bi 24 (cf zFu [oC (AE q),oC (AX g)] λ_=>lE AD [6,7] []) (bi 32 (cf zGo [oC (AE q),oC (AX g)] λ_=>lE AD [6,7] []) (bi 38 (cf zGK [oC (AE q),oC (AX g)] λ_=>lE AD [6,7] []) (bi 47 (cf tz [oC (AE q),oC (AX g)] λ_=>bi 52 (lE AD [6,7] []) (cf uY [oC (AE q),oC (AX g)] λ_=>lE AD [6,7] [])) (cf uY [oC (AE q),oC (AX g)] λ_=>lE AD [6,7] []))))))
inductive bC where
 | l1 (x3:Int)
def V1 (n:Nat)(self:bC -> W9)(pos:Ξ)(D:Int):W9:= bif (decide (D<(pos.length:Int))) then if 0<=D/\ D<(pos.length:Int) then bif ((pos.getD D.toNat 0)==0) then some true else if AG (D+1) then self (.l1 (D+1)) else none else none else some false
def zGh (n:Nat)(self:bC -> W9)(pos:Ξ):W9:= self (.l1 0)
def Py (pos:Ξ):Nat -> bC -> W9
 | 0,_=>none
 | n+1,.l1 D=>V1 n (Py pos n) pos D
def LN (n:Nat)(pos:Ξ):W9:=zGh n (Py pos n) pos
def zGi (n B:Nat)(N:Yd 0)(pos:Ξ)(r:Bool):bC -> Prop:=px n B Fence.wide N (FQ Tryz.f40 0 (.bool r) []) (Ac Tryz.f40) λ
 | .l1 D=>(0,0,AH 15 [(0,.ints pos),(3,.i D)],[])
def zGj (B:Nat)(N:Yd 0)(pos:Ξ):Al (Py pos) (zGi · B N pos):=ia (λ_=>rfl) λn w a r h=>by
 cases a
 case l1 x3=>
  intro m k;refine rd k λm k=>?_
  revert r;apply gO;exact bi 7 (gi (bi 14 (lE AD [2] []) (gw 9 (lG AD [] (w _ _ · m k))))) (lE AD [2] [])
def S5 {r:Bool}(h:LN n pos=some r):EQ 40 [.ints pos] [] (.bool r) [] true:=by
 refine ot Tryz.func40 λB N=>?_
 revert r;apply gO;exact lN AD [] ((zGj B N pos n) _ _ · n Nat.le.refl)
def zDQ:Ae (A0 Tryz.f27 9) [] (List.range 16) []:=Z0
def Pe:BF:=λi=>match i with
 | 9=>.ord [] (List.range 16) []
 | _=>.no
inductive aF where
 | l1 (x6:Int)
def Ve (n:Nat)(self:aF -> Option Int)(q:AA)(pos:Ξ)(c:Int):Option Int:= bif (decide (c<(pos.length:Int))) then if 0<=c/\ c<(pos.length:Int) then bif (decide ((pos.getD c.toNat 0)<0)) then some 250 else if 0<=IntKind.u64.wrap q.sy/\ IntKind.u64.wrap q.sy<=(IntKind.i64.bits:Int) then bif (decide ((pos.getD c.toNat 0)>=(IntKind.i64.wrap (1*2 ^ (IntKind.u64.wrap q.sy).toNat)))) then some 250 else if AG (c+1) then self (.l1 (c+1)) else none else none else none else some 0
def s8 (n:Nat)(self:aF -> Option Int)(q:AA)(pos:Ξ):Option Int:= (Zx n q).bind λe=> bif (e != 0) then some e else bif ((pos.length:Int) != q.ce) then some 250 else self (.l1 0)
def Ph (q:AA)(pos:Ξ):Nat -> aF -> Option Int
 | 0,_=>none
 | n+1,.l1 c=>Ve n (Ph q pos n) q pos c
def HV (n:Nat)(q:AA)(pos:Ξ):Option Int:=s8 n (Ph q pos n) q pos
def zE2 (n B:Nat)(N:Yd 0)(q:AA)(pos:Ξ)(r:Int):aF -> Prop:=px n B Fence.wide N (FQ Tryz.f27 0 (.i r) []) (Ac Tryz.f27) λ
 | .l1 c=>(0,0,AH 39 [(1,.ints pos),(2,.ref 0 0),(6,.i c)],[oC (AE q)])
def zE3 (B:Nat)(N:Yd 0)(q:AA)(pos:Ξ):Al (Ph q pos) (zE2 · B N q pos):=ia (λ_=>rfl) λn w a r h=>by
 cases a
 case l1 x6=>
  intro m k;refine rd k λm k=>?_
  revert r;apply gO;exact bi 20 (jg zDQ (gn λW=>jg W (bi 27 (lE Pe [4] []) (jg W (gi (bi 37 (lE Pe [4] []) (gw 22 (lG Pe [0] (w _ _ · m k))))))))) (lE Pe [4] [])
def Sd {r:Int}(h:HV n q pos=some r):EQ 27 [.agg 5 (L1 (AE q)),.ints pos] [] (.i r) [] true:=by
 refine ot Tryz.func27 λB N=>?_
 revert r;apply gO;exact cf zEU [oC (AE q)] λ_=>bi 10 (lE Pe [4] []) (bi 16 (lE Pe [4] []) (lN Pe [0] ((zE3 B N q pos n) _ _ · n Nat.le.refl)))
def zDb:Ae (A0 Tryz.f118 11) [([0,1,2,3,4,5,6,7,8,9,10,11,12,13,14],15)] [] [16,17]:=Z0
def SO:BF:=λi=>match i with
 | 11=>.ord [([0,1,2,3,4,5,6,7,8,9,10,11,12,13,14],15)] [] [16,17]
 | _=>.no
inductive ah where
 | l1 (x8:Ξ) (x10:Nat) (AN:Int) (o0:Ξ)
def Vy (n:Nat)(self:ah -> Option Ξ)(q:AA)(c_:AC)(pos:Ξ)(x8:Ξ)(x10:Nat)(T:Int)(o0:Ξ):Option Ξ:= bif (decide (T<(pos.length:Int))) then if (0<=T/\ T<(pos.length:Int))/\ (0<=T/\ T<(x8.length:Int))/\ AG ((pos.getD T.toNat 0)-(bits .and .i64 (pos.getD T.toNat 0) (x8.getD T.toNat 0)))/\ ((0=0/\ 1=([((pos.getD T.toNat 0)-(bits .and .i64 (pos.getD T.toNat 0) (x8.getD T.toNat 0)))]:Ξ).length)/\ (0=0/\ x10=o0.length)/\ o0.length+([((pos.getD T.toNat 0)-(bits .and .i64 (pos.getD T.toNat 0) (x8.getD T.toNat 0)))]:Ξ).length<=Av)/\ AG (T+1) then self (.l1 x8 (o0.length+([((pos.getD T.toNat 0)-(bits .and .i64 (pos.getD T.toNat 0) (x8.getD T.toNat 0)))]:Ξ).length) (T+1) (o0++([((pos.getD T.toNat 0)-(bits .and .i64 (pos.getD T.toNat 0) (x8.getD T.toNat 0)))]:Ξ))) else none else if x10=o0.length then (LN n o0).bind λe=> bif e then some (List.replicate pos.length (0:Int)) else some o0 else none
def jL (n:Nat)(self:ah -> Option Ξ)(q:AA)(g:AC)(pos:Ξ):Option Ξ:= if pos.length=(List.replicate pos.length (0:Int)).length/\ (((pos.length:Int):Int)=(pos.length:Int)/\ 0<=(pos.length:Int)/\ ((pos.length:Int):Int)<=1000000000000) then (LN n pos).bind λe=> bif e then some (List.replicate pos.length (0:Int)) else (JF n q g pos).bind λx=> bif (!x.2) then some (List.replicate pos.length (0:Int)) else self (.l1 x.1 0 0 ([]:Ξ)) else none
def N8 (q:AA)(g:AC)(pos:Ξ):Nat -> ah -> Option Ξ
 | 0,_=>none
 | n+1,.l1 x8 x10 T o0=>Vy n (N8 q g pos n) q g pos x8 x10 T o0
def MN (n:Nat)(q:AA)(g:AC)(pos:Ξ):Option Ξ:=jL n (N8 q g pos n) q g pos
def zGF (n B:Nat)(N:Yd 0)(q:AA)(c_:AC)(pos:Ξ)(r:Ξ):ah -> Prop:=px n B Fence.wide N (FQ Tryz.f118 0 (.ints r) []) (Ac Tryz.f118) λ
 | .l1 x8 x10 T o0=>(0,0,AH 56 [(2,.ints pos),(7,.ints (List.replicate pos.length (0:Int))),(8,.ints x8),(10,.msl 0 1 0 x10),(11,.i T)],[oI o0])
def zGG (B:Nat)(N:Yd 0)(q:AA)(a:AC)(pos:Ξ):Al (N8 q a pos) (zGF · B N q a pos):=ia (λ_=>rfl) λn w b r h=>by
 cases b
 case l1 x8 x10 AN o0=>
  intro m k;refine rd k λm k=>?_
  revert r;apply gO;exact bi 32 (jg zDb (gc (gn λW=>jg W (jg W (gc (gi (gc (gw 49 (gc (gi (gw 34 (lG SO [2] (w _ _ · m k))))))))))))) (gn λW=>cn λy1 c=>jc (sb [.msl 0 1 0 x10] (S5 c) [oI o0] ⟨Ax.ints rfl W,trivial⟩) (bi 53 (lE SO [6] []) (lF λp=>ez SO [6] [0] p [0] (H0.g W))))
def zGD (h:MN n q g pos=some r):EQ 118 [.agg 5 (L1 (AE q)),.agg 9 (L1 (AX g)),.ints pos] [] (.ints r) [] true:=by
 refine ot Tryz.func118 λB N=>?_
 revert r;apply gO;exact gc (gn λW=>gi (jz 14 2 (jg W (cf S5 [oC (AE q),oC (AX g),none] λ_=>bi 16 (lE SO [6] []) (cf zF8 [oC (AE q),oC (AX g),none] λ_=>bi 26 (lE SO [6] []) (lN SO [3] ((zGG B N q g pos n) _ _ · n Nat.le.refl)))))))
end
theorem Px {k s n:Nat}{x:Int}(h:Sm k x)(hk:k<=62)(l:s<64):Ha n x (s:Int)=some (tb x s):=by
 unfold Ha uM;rw [zAE ⟨Z2,by show (s:Int)<=((64:Nat):Int);omega⟩,u8,ri h hk l]
def RL (pos:Ξ)(D:Nat -> Ψ)(l:Ξ):Prop:=(l.length=pos.length/\ ∀ j,Bt (l.getD j 0))/\ ∀ j s,tb (l.getD j 0) s=true↔D j s
section
variable {q:AA} {c:AC} {pos l:Ξ} {D D':Nat -> Ψ} {k:Nat}
theorem RL.zero (pos:Ξ):RL pos (λ_ _=>False) (List.replicate pos.length 0):=⟨⟨Jm,Yn⟩,λj s=>by grind [Js]⟩
def RL.congr (h:RL pos D l)(k: ∀ j s,D' j s↔D j s):RL pos D' l:=⟨h.1,λj s=>(h.2 j s).trans (k j s).symm⟩
theorem RL.lose (h:RL pos D l)(h256:pos.length<=256){cell ss:Int}(h0:0<=cell)(h1:cell<(pos.length:Int)): ∃ l',(∀ n,Fs n l cell ss=some l')/\ RL pos (λj s=>D j s∨((j:Int)=cell/\ tb ss s=true)) l':=by
 have L:(1000000000000:Nat)=Av:=rfl;have o:=h.1.1;refine ⟨l.set cell.toNat (bits .or .i64 (l.getD cell.toNat 0) ss),λn=>?_,⟨by rw [zJy];exact o,iQ h.1.2 (Dh _ _ _)⟩,λj s=>?_⟩
 ·unfold Fs uF
  grind
 ·by_cases e:cell.toNat=j
  ·subst e;rw [T5 Z2,Nb,zJo,h.2]
   grind
  ·rw [getD_set_ne e,h.2]
   grind
structure RW (q:AA)(c:AC)(pos:Ξ):Prop where
 W:B5 c q.sy.toNat pos
 V:FA q q.sy.toNat
 sy:1<=q.sy/\ q.sy<=16
 vlen:(q.va.length:Int)=q.sy
 h0:0<pos.length
 h256:pos.length<=256
 nz: ∀ j,j<pos.length -> pos.getD j 0≠0
variable {s:Nat}
def RW.sym (H:RW q c pos)(hs:s<q.sy.toNat):((s:Int)<q.sy)/\ s<16/\ ((0:Int)<=(s:Int)/\ (s:Int)<=((IntKind.i64.bits:Nat):Int)):=by
 have:=H.sy;exact ⟨Z2,Z2,Z2,by show (s:Int)<=((64:Nat):Int);omega⟩
variable {x:Int}
def RW.low (H:RW q c pos)(d:Sm q.sy.toNat x)(h:tb x s=true):s<q.sy.toNat:=zJq λw=>by rw [d.hi w] at h;cases h
theorem uy (hs:s<62)(hx:Bt x):x=IntKind.i64.wrap (1*2 ^ s)↔∀ t,tb x t=decide (s=t):=by
 constructor
 ·rintro rfl t;exact Jq Z2 t
 grind [Hw,Yv,Jq]
def bA (c:AC)(pos:Ξ)(k:Nat)(j t:Nat):Prop:=∃ a b,a<c.ce.length/\ b<c.ce.length/\ a≠b/\ t<k/\ AP c pos b=IntKind.i64.wrap (1*2 ^ t)/\ (c.ce.getD a 0).toNat=j
theorem zGe (H:RW q c pos):AZ (λn=>bB n q c pos) (λl=>RL pos (bA c pos q.sy.toNat) l):=by
 have W:=H.W;have Ag:=W.len;have KN:=H.sy;have ek:((q.sy.toNat:Nat):Int)=q.sy:=Z2
 have w: ∀ (D:Nat -> Ψ) (a b:Nat) (l:Ξ),a<c.ce.length -> b<c.ce.length -> RL pos D l -> ∃ l',RL pos (λj t=>D j t∨(t<q.sy.toNat/\ a≠b/\ AP c pos b=IntKind.i64.wrap (1*2 ^ t)/\ (c.ce.getD a 0).toNat=j)) l'/\ AV (Ft q c pos) (.l3 l a b 0) (.l3 l' a b q.sy):=by
  intro D a b l K i hR;have:=D6 (m:=Ft q c pos) (λs (l:Ξ)=>.l3 l (a:Int) (b:Int) (s:Int)) (λs l=>RL pos (λj t=>D j t∨(t<s/\ a≠b/\ AP c pos b=IntKind.i64.wrap (1*2 ^ t)/\ (c.ce.getD a 0).toNat=j)) l) q.sy.toNat (λs l x g=>?_) q.sy.toNat 0 l Z2 (hR.congr λj t=>⟨λh=>h.elim id λh=>absurd h.1 (zA6 t),.inl⟩)
  ·grind
  ·obtain ⟨s1,s2,s3⟩:=H.sym x;have hcb:=W.ce b i;have Y:=W.ce a K;have r1:AG ((s:Int)+1):=Aa.2 ⟨Z2,Z2⟩
   have skip:(∀ j,¬ (a≠b/\ AP c pos b=IntKind.i64.wrap (1*2 ^ s)/\ (c.ce.getD a 0).toNat=j)) -> RL pos (λj t=>D j t∨(t<s+1/\ a≠b/\ AP c pos b=IntKind.i64.wrap (1*2 ^ t)/\ (c.ce.getD a 0).toNat=j)) l:=λy=>g.congr λj t=>by
    constructor
    ·rintro (h | ⟨h,d⟩)
     ·exact .inl h
     ·rcases zIR.1 h with h | rfl
      ·exact .inr ⟨h,d⟩
      ·exact absurd d (y j)
    grind
   have es:AP c pos b=pos.getD (c.ce.getD b 0).toNat 0:=rfl
   by_cases z:a=b
   ·refine ⟨l,skip λj h=>h.1 z,AV.one λn=>?_⟩
    simp_all [OB,Ft]
   ·have e:((a:Int) != (b:Int))=true:=Z7
    by_cases v:AP c pos b=IntKind.i64.wrap (1*2 ^ s)
    ·obtain ⟨l',f,d⟩:=g.lose H.h256 (ss:=IntKind.i64.wrap (1*2 ^ s)) Y.1 Y.2;refine ⟨l',d.congr λj t=>?_,AV.one λn=>?_⟩
     ·rw [Jq Z2,zJz]
      grind
     ·show OB n (Ft q c pos n) q c pos l (a:Int) (b:Int) (s:Int)=_
      unfold OB
      grind
    ·refine ⟨l,skip λj h=>v h.2.1,AV.one λn=>?_⟩;have e2:(AP c pos b==IntKind.i64.wrap (1*2 ^ s))=false:=zJ8.2 v
     show OB n (Ft q c pos n) q c pos l (a:Int) (b:Int) (s:Int)=_
     unfold OB
     grind
 have X: ∀ (D:Nat -> Ψ) (a:Nat) (l:Ξ),a<c.ce.length -> RL pos D l -> ∃ l',RL pos (λj t=>D j t∨∃ b,b<c.ce.length/\ t<q.sy.toNat/\ a≠b/\ AP c pos b=IntKind.i64.wrap (1*2 ^ t)/\ (c.ce.getD a 0).toNat=j) l'/\ AV (Ft q c pos) (.l2 l a 0) (.l1 l' ((a:Int)+1)):=by
  intro D a l K hR
  obtain ⟨l',f,d⟩:=D6 (m:=Ft q c pos) (λb (l:Ξ)=>.l2 l (a:Int) (b:Int)) (λb l=>RL pos (λj t=>D j t∨∃ A,A<b/\ t<q.sy.toNat/\ a≠A/\ AP c pos A=IntKind.i64.wrap (1*2 ^ t)/\ (c.ce.getD a 0).toNat=j) l) c.ce.length (λb l i g=>by
   obtain ⟨l',f,d⟩:=w _ a b l K i g;refine ⟨l',f.congr λj t=>?_,(AV.one λn=>?_).trans (d.trans (AV.one λn=>?_))⟩
   ·grind
   ·simp_all [az,Ft]
   ·show OB n (Ft q c pos n) q c pos l' (a:Int) (b:Int) q.sy=_
    unfold OB;rw [zAF Z2,zAz,zAE (Aa.2 ⟨Z2,Z2⟩)];rfl) c.ce.length 0 l Z2 (hR.congr λj t=>⟨λh=>h.elim id λ⟨A,h,_⟩=>absurd h (zA6 A),.inl⟩)
  refine ⟨l',f,d.trans (AV.one λn=>?_)⟩
  show az n (Ft q c pos n) q c pos l' (a:Int) (c.ce.length:Int)=_
  unfold az;rw [zAF Z2,zAz,zAE (Aa.2 ⟨Z2,Z2⟩)]
 obtain ⟨l',f,d⟩:=D6 (m:=Ft q c pos) (λa (l:Ξ)=>.l1 l (a:Int)) (λa l=>RL pos (λj t=>∃ a',a'<a/\ ∃ b,b<c.ce.length/\ t<q.sy.toNat/\ a'≠b/\ AP c pos b=IntKind.i64.wrap (1*2 ^ t)/\ (c.ce.getD a' 0).toNat=j) l) c.ce.length (λa l K g=>by
  obtain ⟨l',f,d⟩:=X _ a l K g;refine ⟨l',f.congr λj t=>?_,(AV.one λn=>?_).trans d⟩
  ·simp_all [zIR]
  simp_all [jP,Ft]) c.ce.length 0 (List.replicate pos.length 0) Z2 ((RL.zero pos).congr λj t=>⟨λ⟨a',h,_⟩=>absurd h (zA6 a'),λh=>h.elim⟩)
 have B:Ev (λn=>Ft q c pos n (.l1 (List.replicate pos.length 0) 0)) l':=d.ev (Ev.one λn=>by
  simp_all [jP,Ft])
 have h256:=H.h256;refine (B.p (f.congr λj t=>?_)).eq λn=>?_
 ·exact ⟨λ⟨a,b,J,k,o,I,r,u⟩=>⟨a,J,b,k,I,o,r,u⟩,λ⟨a,J,b,k,I,o,r,u⟩=>⟨a,b,J,k,o,I,r,u⟩⟩
 ·unfold bB uS
  grind
variable {a:Nat}
theorem uT (H:RW q c pos)(K:a<c.ce.length)(l:tb (AP c pos a) s=true)(A8:c.ce.Nodup):bA c pos q.sy.toNat (c.ce.getD a 0).toNat s↔Ly c pos a s:=by
 have W:=H.W;have Ij:=W.k
 have one: ∀ b,b<c.ce.length -> (AP c pos b=IntKind.i64.wrap (1*2 ^ s)↔Sg c pos b s):=λb j=>by
  have g:=W.at j;have hsk:=H.low (W.at K) l;constructor
  ·intro e;have F:=(uy (s:=s) Z2 (g.in64 Z2)).1 e;refine ⟨?_,by rw [F];simp⟩;unfold Ni;rw [zH2]
   have Z:AP c pos b=((2 ^ s:Nat):Int):=by
    refine Hw (g.in64 Z2) ?_ λt V=>?_
    ·have:=g.2;have XT:=LT (k:=s) Z2;have S:((2 ^ s:Nat):Int)=(2:Int) ^ s:=Z3
     rw [S];have:(0:Int)<2 ^ s:=Int.pow_pos Z6;exact ⟨Z2,Z2⟩
    ·rw [F,PX V]
   rw [Z];refine (MA (Dh _ _ _)).2 λt V=>?_
   have JU:0<2 ^ s:=Nat.two_pow_pos s;have C:((2 ^ s:Nat):Int)-1=((2 ^ s-1:Nat):Int):=Z2
   rw [FE,PX V,C,Jr _ _ V,Nat.testBit_two_pow_sub_one]
   grind
  ·rintro ⟨d,f⟩;refine (uy (s:=s) Z2 (g.in64 Z2)).2 λt=>?_
   grind [iM]
 constructor
 ·rintro ⟨a',b,d,f,i,_,A,h5⟩
  have e:a'=a:=by
   have c1:=W.ce a' d;have c2:=W.ce a K
   grind [List.pairwise_iff_getElem]
  subst e;exact ⟨b,f,λh=>i h.symm,(one b f).1 A⟩
 ·rintro ⟨b,d,f,i⟩;exact ⟨a,b,K,d,λh=>f h.symm,H.low (W.at K) l,(one b d).2 i,rfl⟩
theorem PY {S:Int}(d:Sm k x)(hk:k<=62):x-bits .and .i64 x S=bits .andNot .i64 x S:=by
 have XT:=LT hk;have K:Sm k (bits .and .i64 x S):=VI hk (Dh _ _ _) λi a _=>by rw [FE,d.hi a];rfl
 have c:Sm k (bits .andNot .i64 x S):=VI hk (Dh _ _ _) λi a _=>by rw [HN,d.hi a];rfl
 have h0:BitVec.ofInt 64 (bits .and .i64 x S)&&& BitVec.ofInt 64 (bits .andNot .i64 x S)=0#64:=by
  apply zQC;intro i hi;rw [BitVec.getLsbD_and]
  show (tb (bits .and .i64 x S) i&&tb (bits .andNot .i64 x S) i)=_
  grind [FE,HN]
 have a:=BitVec.add_eq_or_of_and_eq_zero _ _ h0
 have b:BitVec.ofInt 64 (bits .and .i64 x S)||| BitVec.ofInt 64 (bits .andNot .i64 x S)=BitVec.ofInt 64 x:=by
  apply zQC;intro i hi;rw [BitVec.getLsbD_or]
  show (tb (bits .and .i64 x S) i||tb (bits .andNot .i64 x S) i)=tb x i
  grind [FE,HN]
 rw [b] at a;have h:=congrArg BitVec.toNat a;rw [BitVec.toNat_add,zMR,zMR,zMR] at h;obtain ⟨a0,a1⟩:=K;obtain ⟨b0,b1⟩:=c;obtain ⟨x0,x1⟩:=d;omega
theorem v6 (H:RW q c pos)(K:a<c.ce.length):(bits .and .i64 (AP c pos a) c.set==AP c pos a)=B6 c pos a:=by
 have d:=H.W.at K;have Ij:=H.W.k;unfold B6;rw [zLs,zH2,zH2];constructor
 ·intro h;refine (MA (Dh _ _ _)).2 λs _=>?_
  have:=congrArg (λy=>tb y s) h
  grind [FE,HN]
 ·intro h;refine Hw (Dh _ _ _) (d.in64 Z2) λs _=>?_
  grind [FE,Tb]
def RW.nzAt (H:RW q c pos)(K:a<c.ce.length): ∃ s,tb (AP c pos a) s=true:=by
 have hc:=H.W.ce a K;have Ij:=H.W.k;obtain ⟨s,_,h⟩:=(GC ((H.W.at K).in64 Z2)).1 (H.nz (c.ce.getD a 0).toNat Z2);exact ⟨s,h⟩
def wG (H:RW q c pos)(K:a<c.ce.length):(bits .and .i64 (AP c pos a) c.set != 0)=Cu c pos a:=by
 unfold Cu;cases z:B6 c pos a
 ·rw [zNg]
 ·rw [Bool.true_or,zMb];obtain ⟨s,l⟩:=H.nzAt K;unfold B6 at z;rw [zH2] at z;exact od l (Tb z l)
def OC (c:AC)(pos:Ξ)(i j s:Nat):Prop:=∃ a,a<i/\ (c.ce.getD a 0).toNat=j/\ ((cnt (B6 c pos) c.ce.length=c.hi/\ B6 c pos a=false/\ tb (AP c pos a) s=true/\ tb c.set s=true)∨(cnt (Cu c pos) c.ce.length=c.lo/\ Cu c pos a=true/\ tb (AP c pos a) s=true/\ tb c.set s=false))
def KR (q:AA)(c:AC)(pos:Ξ)(D:Nat -> Ψ)(ok:Prop)(x:Ξ×Bool):Prop:=(x.2=true↔ok)/\ (x.2=true -> RL pos D x.1)
theorem zGl (H:RW q c pos):AZ (λn=>bE n c pos) (KR q c pos (OC c pos c.ce.length) (Ko c pos=true)):=by
 have W:=H.W;have Ag:=W.len;have Z:=H.h256;have Ij:=W.k
 obtain ⟨⟨P,x8⟩,⟨y,z⟩,L⟩:=D6 (m:=C1 c pos) (λi (s:Δ)=>.l1 s.1 s.2 (i:Int)) (λi s=>s.1=cnt (B6 c pos) i/\ s.2=cnt (Cu c pos) i) c.ce.length (λi s hi w=>by
  obtain ⟨C,x⟩:=s;obtain ⟨g,f⟩:=w;have g:C=cnt (B6 c pos) i:=g;have f:x=cnt (Cu c pos) i:=f;have o:=W.ce i hi;have K:=YK (p:=B6 c pos) (i:=i);have b2:=YK (p:=Cu c pos) (i:=i);have M:AG (C+1):=Aa.2 ⟨Z2,Z2⟩;have r2:AG (x+1):=Aa.2 ⟨Z2,Z2⟩;have N:AG ((i:Int)+1):=Aa.2 ⟨Z2,Z2⟩;have em:=v6 H hi;have D:=wG H hi;refine ⟨(cnt (B6 c pos) (i+1),cnt (Cu c pos) (i+1)),⟨rfl,rfl⟩,(AV.one (b:=.l2 (cnt (B6 c pos) (i+1)) x (i:Int) (AP c pos i)) λn=>?_).trans ((AV.one (b:=.l4 (cnt (B6 c pos) (i+1)) (cnt (Cu c pos) (i+1)) (i:Int)) λn=>?_).trans (AV.one λn=>?_))⟩
  ·show S6 n (C1 c pos n) c pos C x (i:Int)=_
   unfold S6;simp only [u8];rw [zAC Z2,zAG,zAE ⟨⟨Z2,Z2⟩,o⟩];have e:(bits .and .i64 (pos.getD (c.ce.getD i 0).toNat 0) c.set==pos.getD (c.ce.getD i 0).toNat 0)=B6 c pos i:=em;rw [e,UN];cases B6 c pos i
   ·rw [zAz,g];simp only [zLk,zP3,Int.add_zero];rfl
   ·rw [zAG,zAE M,g];simp only [zL0];rfl
  ·show jR n (C1 c pos n) c pos (cnt (B6 c pos) (i+1)) x (i:Int) (AP c pos i)=_
   unfold jR;rw [D,UN (p:=Cu c pos)]
   grind
  simp_all [uW,C1]) c.ce.length 0 (0,0) Z2 ⟨rfl,rfl⟩
 have y:P=cnt (B6 c pos) c.ce.length:=y;have z:x8=cnt (Cu c pos) c.ce.length:=z
 suffices X:AZ (λn=>C1 c pos n (.l1 P x8 (c.ce.length:Int))) (KR q c pos (OC c pos c.ce.length) (Ko c pos=true)) by
  refine (L.pev X).eq λn=>?_
  unfold bE uX
  grind
 have ok:Ko c pos=(!decide (P>c.hi)&&!decide (x8<c.lo)):=by rw [y,z];rfl
 by_cases c1:P>c.hi
 ·refine Ev.p (r:=(List.replicate pos.length 0,false)) (Ev.one λn=>?_) ⟨⟨λh=>(by cases h),λh=>?_⟩,λh=>(by cases h)⟩
  ·simp_all [S6,C1]
  grind
 by_cases c2:x8<c.lo
 ·refine Ev.p (r:=(List.replicate pos.length 0,false)) (Ev.one λn=>?_) ⟨⟨λh=>(by cases h),λh=>?_⟩,λh=>(by cases h)⟩
  ·simp_all [S6,C1]
  grind
 obtain ⟨l,O,Q⟩:=D6 (m:=C1 c pos) (λi (l:Ξ)=>.l3 l P x8 (i:Int)) (λi l=>RL pos (OC c pos i) l) c.ce.length (λi l hi w=>by
  have o:=W.ce i hi;have N:AG ((i:Int)+1):=Aa.2 ⟨Z2,Z2⟩;have em:=v6 H hi;have D:=wG H hi;have I:=W.at hi
  have A: ∃ u,RL pos (λj s=>OC c pos i j s∨((c.ce.getD i 0).toNat=j/\ cnt (B6 c pos) c.ce.length=c.hi/\ B6 c pos i=false/\ tb (AP c pos i) s=true/\ tb c.set s=true)) u/\ AV (C1 c pos) (.l3 l P x8 (i:Int)) (.l5 u P x8 (i:Int) (AP c pos i)):=by
   have e:(bits .and .i64 (pos.getD (c.ce.getD i 0).toNat 0) c.set != pos.getD (c.ce.getD i 0).toNat 0)= !B6 c pos i:=by rw [←em];rfl
   have U: ∀ n,C1 c pos (n+1) (.l3 l P x8 (i:Int))=bif (P==c.hi) then (bif !B6 c pos i then (Fs n l (c.ce.getD i 0) (bits .and .i64 (AP c pos i) c.set)).bind λE=>C1 c pos n (.l5 E P x8 (i:Int) (AP c pos i)) else C1 c pos n (.l5 l P x8 (i:Int) (AP c pos i))) else C1 c pos n (.l5 l P x8 (i:Int) (AP c pos i)):=λn=>by
    show bD n (C1 c pos n) c pos l P x8 (i:Int)=_
    unfold bD;simp only [u8];rw [zAC Z2,zAG,zAE ⟨⟨Z2,Z2⟩,o⟩,e];rfl
   by_cases t:P=c.hi
   ·have K:(P==c.hi)=true:=zH2.2 t;cases J:B6 c pos i
    ·obtain ⟨u,f1,F⟩:=w.lose Z (ss:=bits .and .i64 (AP c pos i) c.set) o.1 o.2;refine ⟨u,F.congr λj s=>?_,AV.one λn=>Z4⟩;rw [FE,zAD]
     grind
    ·refine ⟨l,w.congr λj s=>⟨λh=>h.elim id λh=>(by cases h.2.2.1),.inl⟩,AV.one λn=>Z4⟩
   ·have K:(P==c.hi)=false:=zJ8.2 t;exact ⟨l,w.congr λj s=>⟨λh=>h.elim id λh=>absurd Z2 t,.inl⟩,AV.one λn=>by rw [U,K,zAz]⟩
  obtain ⟨u,G,R⟩:=A
  have B: ∃ d,RL pos (OC c pos (i+1)) d/\ AV (C1 c pos) (.l5 u P x8 (i:Int) (AP c pos i)) (.l6 d P x8 (i:Int)):=by
   have rr:AG (AP c pos i-bits .and .i64 (AP c pos i) c.set):=by
    rw [PY I Z2];have:=Dh .andNot (AP c pos i) c.set;exact Aa.2 this
   have U: ∀ n,C1 c pos (n+1) (.l5 u P x8 (i:Int) (AP c pos i))=bif (x8==c.lo) then (bif Cu c pos i then (Fs n u (c.ce.getD i 0) (bits .andNot .i64 (AP c pos i) c.set)).bind λE=>C1 c pos n (.l6 E P x8 (i:Int)) else C1 c pos n (.l6 u P x8 (i:Int))) else C1 c pos n (.l6 u P x8 (i:Int)):=λn=>by
    show jQ n (C1 c pos n) c pos u P x8 (i:Int) (AP c pos i)=_
    unfold jQ;simp only [u8];rw [D,zAE ⟨⟨Z2,Z2⟩,rr⟩,PY I Z2]
   have key: ∀ d,(RL pos (λj s=>(OC c pos i j s∨((c.ce.getD i 0).toNat=j/\ cnt (B6 c pos) c.ce.length=c.hi/\ B6 c pos i=false/\ tb (AP c pos i) s=true/\ tb c.set s=true))∨((c.ce.getD i 0).toNat=j/\ cnt (Cu c pos) c.ce.length=c.lo/\ Cu c pos i=true/\ tb (AP c pos i) s=true/\ tb c.set s=false)) d) -> RL pos (OC c pos (i+1)) d:=λd h=>h.congr λj s=>by
    constructor
    ·rintro ⟨a,g,f,v⟩;rcases zIR.1 g with g | rfl
     ·exact .inl (.inl ⟨a,g,f,v⟩)
     grind
    ·rintro ((⟨a,g,f,v⟩ | ⟨f,v⟩) | ⟨f,v⟩)
     ·exact ⟨a,Z2,f,v⟩
     ·exact ⟨i,Z2,f,.inl v⟩
     ·exact ⟨i,Z2,f,.inr v⟩
   by_cases t:x8=c.lo
   ·have K:(x8==c.lo)=true:=zH2.2 t;cases J:Cu c pos i
    ·exact ⟨u,key u (G.congr λj s=>⟨λh=>h.elim id λh=>Z4,.inl⟩),AV.one λn=>by rw [U,K,J,zAG,zAz]⟩
    ·obtain ⟨d,f2,F⟩:=G.lose Z (ss:=bits .andNot .i64 (AP c pos i) c.set) o.1 o.2;refine ⟨d,key d (F.congr λj s=>?_),AV.one λn=>Z4⟩;rw [HN,zAD,zFN]
     grind
   ·have K:(x8==c.lo)=false:=zJ8.2 t;exact ⟨u,key u (G.congr λj s=>⟨λh=>h.elim id λh=>absurd Z2 t,.inl⟩),AV.one λn=>by rw [U,K,zAz]⟩
  obtain ⟨d,S,T⟩:=B;refine ⟨d,S,R.trans (T.trans (AV.one λn=>?_))⟩
  simp_all [uV,C1]) c.ce.length 0 (List.replicate pos.length 0) Z2 ((RL.zero pos).congr λj s=>⟨λ⟨a,h,_⟩=>absurd h (zA6 a),λh=>h.elim⟩)
 have V:AV (C1 c pos) (.l1 P x8 (c.ce.length:Int)) (.l3 (List.replicate pos.length 0) P x8 0):=AV.one λn=>by
  simp_all [S6,C1,zAF]
 refine ((V.trans Q).ev (Ev.one (r:=(l,true)) λn=>?_)).p ⟨⟨λ_=>?_,λ_=>rfl⟩,λ_=>O⟩
 ·simp_all [bD,C1]
 grind
theorem wU: ∀ (l:Ξ) (a:Int),l.foldl (H6 q) a=a∨∃ e∈l,q.va.getD e.toNat 0=l.foldl (H6 q) a
 | [],a=>.inl rfl
 | e::l,a=>by
  rw [zLt];rcases wU l (H6 q a e) with h | ⟨x,h1,h2⟩
  ·rw [h];unfold H6
   grind
  grind
theorem xl: ∀ (l:Ξ) (a:Int),l.foldl (IF q) a=a∨∃ e∈l,q.va.getD e.toNat 0=l.foldl (IF q) a
 | [],a=>.inl rfl
 | e::l,a=>by
  rw [zLt];rcases xl l (IF q a e) with h | ⟨x,h1,h2⟩
  ·rw [h];unfold IF
   grind
  grind
variable {r:Int}
theorem zIp (V:FA q k)(hk:k<=16)(d:Sm k x)(Ah: ∃ s,tb x s=true)(b: ∃ s,tb x s=true/\ q.va.getD s 0=r)(h2: ∀ s,tb x s=true -> r<=q.va.getD s 0):r=CR q x:=by
 have f:=λe=>FM d (zA4 hk (by decide:(16:Nat)<=62)) (e:=e)
 have low: ∀ {s},tb x s=true -> s<k:=λ{s} h=>zJq λw=>by rw [d.hi w] at h;cases h
 obtain ⟨s,l,rfl⟩:=b;have g:=(cV (q:=q) (BY x) 100).1 (zJB _);have a:=g.2 (s:Int) ((f _).2 ⟨s,rfl,low l,l⟩);rw [u8] at a;have a:CR q x<=q.va.getD s 0:=a;have hv:=V.val s (low l);rcases wU (q:=q) (BY x) 100 with h | ⟨e,M,h⟩
 ·have h:CR q x=100:=h;omega
 ·obtain ⟨t,rfl,_,ht⟩:=(f e).1 M
  grind [CR]
theorem zLr (V:FA q k)(hk:k<=16)(d:Sm k x)(b: ∃ s,tb x s=true/\ q.va.getD s 0=r)(h2: ∀ s,tb x s=true -> q.va.getD s 0<=r):r=CU q x:=by
 have f:=λe=>FM d (zA4 hk (by decide:(16:Nat)<=62)) (e:=e)
 have low: ∀ {s},tb x s=true -> s<k:=λ{s} h=>zJq λw=>by rw [d.hi w] at h;cases h
 obtain ⟨s,l,rfl⟩:=b;have g:=(dc (q:=q) (BY x) (-1)).1 (zJB _);have a:=g.2 (s:Int) ((f _).2 ⟨s,rfl,low l,l⟩);rw [u8] at a;have a:q.va.getD s 0<=CU q x:=a;have hv:=V.val s (low l);rcases xl (q:=q) (BY x) (-1) with h | ⟨e,M,h⟩
 ·have h:CU q x= -1:=h;omega
 ·obtain ⟨t,rfl,_,ht⟩:=(f e).1 M
  grind [CU]
theorem uK (H:RW q c pos)(d:Sm q.sy.toNat x)(K: ∃ s,tb x s=true):Ev (λn=>Sw n q x) (CR q x):=by
 have o:=H.W.k;have KN:=H.sy;have ek:((q.sy.toNat:Nat):Int)=q.sy:=Z2
 have Ff:=H.vlen
 obtain ⟨r,p,g⟩:=D6 (m:=J7 q x) (λs (r:Int)=>.l1 r (s:Int)) (λs r=>(r= -1/\ ∀ t,t<s -> tb x t=false)∨((∃ t,t<s/\ tb x t=true/\ q.va.getD t 0=r)/\ ∀ t,t<s -> tb x t=true -> r<=q.va.getD t 0)) q.sy.toNat (λs r l f=>by
  obtain ⟨B,s2,s3⟩:=H.sym l;have e:AG ((s:Int)+1):=Aa.2 ⟨Z2,Z2⟩;have hv:=H.V.val s l
  have U: ∀ n,J7 q x (n+1) (.l1 r (s:Int))=bif tb x s then (bif decide (r<0) then J7 q x n (.l1 (q.va.getD s 0) ((s:Int)+1)) else bif decide (q.va.getD s 0<r) then J7 q x n (.l1 (q.va.getD s 0) ((s:Int)+1)) else J7 q x n (.l1 r ((s:Int)+1))) else J7 q x n (.l1 r ((s:Int)+1)):=λn=>by
   show ap n (J7 q x n) q x r (s:Int)=_
   unfold ap;rw [zAC B,zAG,Px d Z2 Z2,zAB,zAE ⟨⟨Z2,Z2⟩,e⟩,zAE ⟨Z2,Z2⟩,zAE e,zAE e,u8]
  cases i:tb x s
  ·refine ⟨r,?_,AV.one λn=>by rw [U,i,zAz];rfl⟩
   grind
  ·by_cases c1:r<0
   ·refine ⟨q.va.getD s 0,?_,AV.one λn=>Z4⟩;refine .inr ⟨⟨s,Z2,i,rfl⟩,λt a F=>?_⟩;rcases zIR.1 a with a | rfl
    ·rcases f with ⟨v,b⟩ | ⟨⟨u,v,b,j⟩,A⟩
     ·rw [b t a] at F;cases F
     ·have:=H.V.val u Z2;omega
    ·exact zJB _
   ·have Mv:(∃ t,t<s/\ tb x t=true/\ q.va.getD t 0=r)/\ ∀ t,t<s -> tb x t=true -> r<=q.va.getD t 0:=f.elim (λh=>absurd h.1 Z2) id
    by_cases c2:q.va.getD s 0<r
    ·refine ⟨q.va.getD s 0,?_,AV.one λn=>Z4⟩
     grind
    ·refine ⟨r,?_,AV.one λn=>Z4⟩
     grind) q.sy.toNat 0 (-1) Z2 (.inl ⟨rfl,λt a=>absurd a (zA6 t)⟩)
 have T:r=CR q x:=by
  rcases p with ⟨_,b⟩ | ⟨⟨t,_,j,A⟩,w⟩
  ·obtain ⟨s,l⟩:=K;rw [b s (H.low d l)] at l;cases l
  ·exact zIp H.V o d K ⟨t,j,A⟩ λs l=>w s (H.low d l) l
 subst T;refine Ev.eq (g.ev (Ev.one (r:=CR q x) λn=>?_)) λn=>rfl
 simp_all [ap,J7]
theorem uO (H:RW q c pos)(d:Sm q.sy.toNat x)(K: ∃ s,tb x s=true):Ev (λn=>Sy n q x) (CU q x):=by
 have f:=H.W.k;have KN:=H.sy;have ek:((q.sy.toNat:Nat):Int)=q.sy:=Z2
 have Ff:=H.vlen
 obtain ⟨r,j,g⟩:=D6 (m:=LM q x) (λs (r:Int)=>.l1 r (s:Int)) (λs r=>-1<=r/\ ((r= -1/\ ∀ t,t<s -> tb x t=false)∨(∃ t,t<s/\ tb x t=true/\ q.va.getD t 0=r))/\ ∀ t,t<s -> tb x t=true -> q.va.getD t 0<=r) q.sy.toNat (λs r l h=>by
  obtain ⟨B,s2,s3⟩:=H.sym l;have b:AG ((s:Int)+1):=Aa.2 ⟨Z2,Z2⟩;have hv:=H.V.val s l;obtain ⟨h0,h,A⟩:=h
  have U: ∀ n,LM q x (n+1) (.l1 r (s:Int))=bif tb x s then (bif decide (q.va.getD s 0>r) then LM q x n (.l1 (q.va.getD s 0) ((s:Int)+1)) else LM q x n (.l1 r ((s:Int)+1))) else LM q x n (.l1 r ((s:Int)+1)):=λn=>by
   show av n (LM q x n) q x r (s:Int)=_
   unfold av;rw [zAC B,zAG,Px d Z2 Z2,zAB,zAE ⟨Z2,Z2⟩,zAE b,zAE b,u8]
  cases e:tb x s
  ·refine ⟨r,⟨h0,?_,λt a F=>?_⟩,AV.one λn=>by rw [U,e,zAz];rfl⟩
   ·grind
   grind
  ·by_cases c2:q.va.getD s 0>r
   ·refine ⟨q.va.getD s 0,⟨Z2,.inr ⟨s,Z2,e,rfl⟩,λt a F=>?_⟩,AV.one λn=>Z4⟩
    grind
   ·refine ⟨r,⟨h0,?_,λt a F=>?_⟩,AV.one λn=>Z4⟩
    ·grind
    grind) q.sy.toNat 0 (-1) Z2 ⟨zJB _,.inl ⟨rfl,λt a=>absurd a (zA6 t)⟩,λt a=>absurd a (zA6 t)⟩
 have T:r=CU q x:=by
  obtain ⟨_,j,i⟩:=j;rcases j with ⟨_,o⟩ | ⟨t,_,p,A⟩
  ·obtain ⟨s,l⟩:=K;rw [o s (H.low d l)] at l;cases l
  ·exact zLr H.V f d ⟨t,p,A⟩ λs l=>i s (H.low d l) l
 subst T;refine Ev.eq (g.ev (Ev.one (r:=CU q x) λn=>?_)) λn=>rfl
 simp_all [av,LM]
def Sk (q:AA)(c:AC)(pos:Ξ)(i j s:Nat):Prop:=∃ a,a<i/\ (c.ce.getD a 0).toNat=j/\ s<q.sy.toNat/\ tb (AP c pos a) s=true/\ GX q c pos a s=true
theorem gj {f:Nat -> Int}{lo hi:Int}(U:lo<=0)(V:0<=hi): ∀ {m:Nat},(∀ a,a<m -> lo<=f a/\ f a<=hi) -> (m:Int)*lo<=Cc f m/\ Cc f m<=(m:Int)*hi
 | 0,_=>by simp [Cc]
 | m+1,h=>by
  have ih:=gj U V (m:=m) λa ha=>h a Z2
  have hm:=h m Z2;have e:Cc f (m+1)=Cc f m+f m:=rfl
  grind
theorem zFv (H:RW q c pos):AZ (λn=>aY n q c pos) (KR q c pos (Sk q c pos c.ce.length) (Ju q c pos=true)):=by
 have W:=H.W;have Ag:=W.len;have Z:=H.h256;have A:=W.k;have KN:=H.sy;have Ff:=H.vlen;have R:((q.sy.toNat:Nat):Int)=q.sy:=Z2
 have D: ∀ a,a<c.ce.length -> (0<=CR q (AP c pos a)/\ CR q (AP c pos a)<=100)/\ (-1<=CU q (AP c pos a)/\ CU q (AP c pos a)<=99):=λa K=>⟨H.V.lo A (W.at K),H.V.hi A (W.at K)⟩
 have T: ∀ i,i<=c.ce.length -> 0<=Cc (λa=>CR q (AP c pos a)) i/\ Cc (λa=>CR q (AP c pos a)) i<=25600:=λi hi=>by
  have:=gj (f:=λa=>CR q (AP c pos a)) (lo:=0) (hi:=100) (zJB _) Z6 (m:=i) λa K=>(D a Z2).1
  omega
 have th: ∀ i,i<=c.ce.length -> -256<=Cc (λa=>CU q (AP c pos a)) i/\ Cc (λa=>CU q (AP c pos a)) i<=25600:=λi hi=>by
  have:=gj (f:=λa=>CU q (AP c pos a)) (lo:=-1) (hi:=100) Z6 Z6 (m:=i) λa K=>by have:=(D a Z2).2;omega
  omega
 have ts: ∀ (f:Nat -> Int) (i:Nat),Cc f (i+1)=Cc f i+f i:=λ_ _=>rfl
 obtain ⟨⟨d,x10⟩,⟨S,G⟩,g1⟩:=D6 (m:=EY q c pos) (λi (s:Δ)=>.l1 s.1 s.2 (i:Int)) (λi s=>s.1=Cc (λa=>CR q (AP c pos a)) i/\ s.2=Cc (λa=>CU q (AP c pos a)) i) c.ce.length (λi s hi o=>by
  obtain ⟨C,E⟩:=s;obtain ⟨g,e⟩:=o;have g:C=Cc (λa=>CR q (AP c pos a)) i:=g;have e:E=Cc (λa=>CU q (AP c pos a)) i:=e;have v:=W.ce i hi;obtain ⟨N,x⟩:=uK H (W.at hi) (H.nzAt hi);obtain ⟨M,Y⟩:=uO H (W.at hi) (H.nzAt hi);have b1:=D i hi;have b2:=T i Z2;have b3:=th i Z2;refine ⟨(Cc (λa=>CR q (AP c pos a)) (i+1),Cc (λa=>CU q (AP c pos a)) (i+1)),⟨rfl,rfl⟩,AV.oneN (max N M) λn w=>?_⟩;have B:Sw n q (pos.getD (c.ce.getD i 0).toNat 0)=some (CR q (AP c pos i)):=x n Z2;have F:Sy n q (pos.getD (c.ce.getD i 0).toNat 0)=some (CU q (AP c pos i)):=Y n Z2
  show Sj n (EY q c pos n) q c pos C E (i:Int)=_
  unfold Sj;simp only [u8];rw [zAC Z2,zAG,zAE ⟨⟨Z2,Z2⟩,v⟩,B,zAB,zAE (Aa.2 ⟨Z2,Z2⟩),F,zAB,zAE ⟨Aa.2 ⟨Z2,Z2⟩,Aa.2 ⟨Z2,Z2⟩⟩,g,e];rfl) c.ce.length 0 (0,0) Z2 ⟨rfl,rfl⟩
 have S:d=Lb q c pos:=S;have G:x10=Ll q c pos:=G;have bx9:0<=d/\ d<=25600:=Z4
 have bx10: -256<=x10/\ x10<=25600:=Z4
 suffices X:AZ (λn=>EY q c pos n (.l1 d x10 (c.ce.length:Int))) (KR q c pos (Sk q c pos c.ce.length) (Ju q c pos=true)) by
  refine (g1.pev X).eq λn=>?_
  unfold aY tm
  grind
 have ok:Ju q c pos=(!decide (d>c.hi)&&!decide (x10<c.lo)):=by rw [S,G];rfl
 by_cases c1:d>c.hi
 ·refine Ev.p (r:=(List.replicate pos.length 0,false)) (Ev.one λn=>?_) ⟨⟨λh=>(by cases h),λh=>?_⟩,λh=>(by cases h)⟩
  ·simp_all [Sj,EY]
  grind
 by_cases c2:x10<c.lo
 ·refine Ev.p (r:=(List.replicate pos.length 0,false)) (Ev.one λn=>?_) ⟨⟨λh=>(by cases h),λh=>?_⟩,λh=>(by cases h)⟩
  ·simp_all [Sj,EY]
  grind
 obtain ⟨l,hl,g2⟩:=D6 (m:=EY q c pos) (λi (l:Ξ)=>.l2 l d x10 (i:Int)) (λi l=>RL pos (Sk q c pos i) l) c.ce.length (λi l hi o=>by
  have v:=W.ce i hi;have z:=W.at hi;have b1:=D i hi;obtain ⟨N,x⟩:=uK H z (H.nzAt hi);obtain ⟨M,Y⟩:=uO H z (H.nzAt hi)
  obtain ⟨l',De,g3⟩:=D6 (m:=EY q c pos) (λs (l:Ξ)=>.l3 l d x10 (i:Int) (AP c pos i) (s:Int)) (λs l=>RL pos (λj t=>Sk q c pos i j t∨((c.ce.getD i 0).toNat=j/\ t<s/\ tb (AP c pos i) t=true/\ GX q c pos i t=true)) l) q.sy.toNat (λs l I o=>by
   obtain ⟨s1,s2,s3⟩:=H.sym I;have hv:=H.V.val s I;have r1:AG ((s:Int)+1):=Aa.2 ⟨Z2,Z2⟩;have ra:AG (d-CR q (AP c pos i))/\ AG ((d-CR q (AP c pos i))+q.va.getD s 0):=⟨Aa.2 ⟨Z2,Z2⟩,Aa.2 ⟨Z2,Z2⟩⟩;have rb:AG (x10-CU q (AP c pos i))/\ AG ((x10-CU q (AP c pos i))+q.va.getD s 0):=⟨Aa.2 ⟨Z2,Z2⟩,Aa.2 ⟨Z2,Z2⟩⟩;have X:GX q c pos i s=(decide (d-CR q (AP c pos i)+q.va.getD s 0>c.hi)||decide (x10-CU q (AP c pos i)+q.va.getD s 0<c.lo)):=by rw [S,G];rfl
   have U: ∀ n,max N M<=n -> EY q c pos (n+1) (.l3 l d x10 (i:Int) (AP c pos i) (s:Int))=bif tb (AP c pos i) s&&GX q c pos i s then (Fs n l (c.ce.getD i 0) (IntKind.i64.wrap (1*2 ^ s))).bind λy=>EY q c pos n (.l4 y d x10 (i:Int) (AP c pos i) (s:Int)) else EY q c pos n (.l4 l d x10 (i:Int) (AP c pos i) (s:Int)):=λn w=>by
    have B:Sw n q (AP c pos i)=some (CR q (AP c pos i)):=x n Z2;have F:Sy n q (AP c pos i)=some (CU q (AP c pos i)):=Y n Z2
    show Vr n (EY q c pos n) q c pos l d x10 (i:Int) (AP c pos i) (s:Int)=_
    unfold Vr;simp only [u8];rw [zAC s1,zAG,Px z Z2 Z2,zAB];cases hb:tb (AP c pos i) s
    ·grind
    ·rw [zAG,zMB,zAE ⟨Z2,Z2⟩,B,zAB,zAE ra,X]
     grind
   have J: ∀ l',AV (EY q c pos) (.l4 l' d x10 (i:Int) (AP c pos i) (s:Int)) (.l3 l' d x10 (i:Int) (AP c pos i) ((s+1:Nat):Int)):=λl'=>AV.one λn=>by
    simp_all [tk,EY]
   cases L:(tb (AP c pos i) s&&GX q c pos i s)
   ·refine ⟨l,o.congr λj t=>?_,(AV.oneN (max N M) λn w=>by rw [U n w,L,zAz]).trans (J l)⟩
    grind
   ·obtain ⟨O,f1,Gj⟩:=o.lose Z (ss:=IntKind.i64.wrap (1*2 ^ s)) v.1 v.2;rw [zAD] at L;refine ⟨O,Gj.congr λj t=>?_,(AV.oneN (max N M) λn w=>Z4).trans (J O)⟩;rw [Jq Z2,zJz];constructor
    ·grind
    grind) q.sy.toNat 0 l Z2 (o.congr λj t=>⟨λh=>h.elim id λh=>absurd h.2.1 (zA6 t),.inl⟩)
  refine ⟨l',De.congr λj s=>?_,(AV.one (b:=.l3 l d x10 (i:Int) (AP c pos i) ((0:Nat):Int)) λn=>?_).trans (g3.trans (AV.one λn=>?_))⟩
  ·constructor
   ·rintro ⟨a,g,e,u,P,Q⟩;rcases zIR.1 g with g | rfl
    ·exact .inl ⟨a,g,e,u,P,Q⟩
    ·exact .inr ⟨e,u,P,Q⟩
   ·rintro (⟨a,g,e,u⟩ | ⟨e,u⟩)
    ·exact ⟨a,Z2,e,u⟩
    ·exact ⟨i,Z2,e,u⟩
  ·show aX n (EY q c pos n) q c pos l d x10 (i:Int)=_
   unfold aX;simp only [u8];rw [zAC Z2,zAG,zAE ⟨⟨Z2,Z2⟩,v⟩];rfl
  ·show Vr n (EY q c pos n) q c pos l' d x10 (i:Int) (AP c pos i) ((q.sy.toNat:Nat):Int)=_
   unfold Vr;rw [R,zAF Z2,zAz,zAE (Aa.2 ⟨Z2,Z2⟩)];rfl) c.ce.length 0 (List.replicate pos.length 0) Z2 ((RL.zero pos).congr λj s=>⟨λ⟨a,h,_⟩=>absurd h (zA6 a),λh=>h.elim⟩)
 have g0:AV (EY q c pos) (.l1 d x10 (c.ce.length:Int)) (.l2 (List.replicate pos.length 0) d x10 0):=AV.one λn=>by
  simp_all [Sj,EY,zAF]
 refine ((g0.trans g2).ev (Ev.one (r:=(l,true)) λn=>?_)).p ⟨⟨λ_=>?_,λ_=>rfl⟩,λ_=>hl⟩
 ·simp_all [aX,EY]
 grind
end
section
variable {q:AA} {c:AC} {pos:Ξ} {k:Nat}
def L6 (c:AC)(pos:Ξ)(i j:Nat)(g:Nat -> Nat):Prop:=∀ b,i<=b -> b<j -> tb (AP c pos b) (g b)=true
def Ky (q:AA)(i j:Nat)(g:Nat -> Nat):Prop:=∀ b,i<=b -> b+1<j -> q.va.getD (g b) 0<q.va.getD (g (b+1)) 0
variable {b:Int}
def pp : ∀ (l:Ξ) (a:Int),l.foldl (K4 q b) a=a∨∃ e∈l,q.va.getD e.toNat 0=l.foldl (K4 q b) a/\ q.va.getD e.toNat 0>b
 | [],a=>.inl rfl
 | e::l,a=>by
  rw [zLt];rcases pp l (K4 q b a e) with h | ⟨x,c,d⟩
  ·rw [h];unfold K4;split
   ·rename_i f;split
    ·exact .inr ⟨e,zLb,rfl,f⟩
    ·exact .inl rfl
   ·exact .inl rfl
  ·exact .inr ⟨x,zKA _ c,d⟩
def zU : ∀ (l:Ξ) (a:Int),l.foldl (Kl q b) a=a∨∃ e∈l,q.va.getD e.toNat 0=l.foldl (Kl q b) a/\ q.va.getD e.toNat 0<b
 | [],a=>.inl rfl
 | e::l,a=>by
  rw [zLt];rcases zU l (Kl q b a e) with h | ⟨x,c,d⟩
  ·rw [h];unfold Kl;split
   ·rename_i f;split
    ·exact .inr ⟨e,zLb,rfl,f⟩
    ·exact .inl rfl
   ·exact .inl rfl
  ·exact .inr ⟨x,zKA _ c,d⟩
def zAL (W:B5 c k pos): ∀ i,i<=c.ce.length -> Gs q c pos i<100 -> ∃ g,L6 c pos 0 i g/\ Ky q 0 i g/\ (0<i -> q.va.getD (g (i-1)) 0=Gs q c pos i)
 | 0,_,_=>⟨λ_=>0,λb _ h=>absurd h (zA6 b),λb _ h=>absurd h (zA6 _),λh=>absurd h (Nat.lt_irrefl 0)⟩
 | i+1,hi,h=>by
  rcases pp (q:=q) (b:=Gs q c pos i) (BY (AP c pos i)) 100 with d | ⟨e,d,a,f⟩
  ·have:Gs q c pos (i+1)=100:=d;omega
  ·have a:q.va.getD e.toNat 0=Gs q c pos (i+1):=a;obtain ⟨s,rfl,hs,V⟩:=(FM (W.at Z2) (zA4 W.k Z6)).1 d;rw [u8] at a f;obtain ⟨g,p,r,R⟩:=zAL W i Z2 Z2;refine ⟨λb=>if b=i then s else g b,λb A j=>?_,λb A j=>?_,λ_=>?_⟩
   ·dsimp only
    by_cases e:b=i
    ·subst e;rw [zAE rfl];exact V
    ·rw [zEO e];exact p b A Z2
   ·have B:b≠i:=Z2
    dsimp only
    rw [zEO B]
    by_cases F:b+1=i
    ·have:=R Z2;rw [zAE F,show b=i-1 by omega,this];exact f
    ·rw [zEO F];exact r b A Z2
   ·dsimp only
    rw [zAE Z2];exact a
variable {g:Nat -> Nat}
def zOu (W:B5 c k pos): ∀ i,i<c.ce.length -> L6 c pos 0 (i+1) g -> Ky q 0 (i+1) g -> Gs q c pos i<q.va.getD (g i) 0 -> Gs q c pos (i+1)<=q.va.getD (g i) 0:=λi hi a _ d=>by
 have h:=(ZC (q:=q) (b:=Gs q c pos i) (BY (AP c pos i)) 100).1 (zJB _);have V:=a i (zJs _) Z2;have z:=(FM (W.at hi) (zA4 W.k Z6) (e:=(g i:Int))).2 ⟨g i,rfl,zJq λw=>(by rw [(W.at hi).hi w] at V;cases V),V⟩;have:=h.2 _ z;rw [u8] at this;exact this d
def zAN (W:B5 c k pos)(V:FA q k): ∀ i,i<c.ce.length -> L6 c pos 0 (i+1) g -> Ky q 0 (i+1) g -> Gs q c pos i<q.va.getD (g i) 0
 | 0,hi,a,_=>by
  have d:=a 0 (zBT _) Z2;have:=V.val (g 0) (zJq λw=>(by rw [(W.at hi).hi w] at d;cases d))
  show (-1:Int)<_
  omega
 | i+1,hi,a,e=>by
  have x:L6 c pos 0 (i+1) g:=λb h A=>a b h Z2
  have P:Ky q 0 (i+1) g:=λb h A=>e b h Z2
  have h:=zAN W V i Z2 x P;have A:=zOu W i Z2 x P h;have h5:=e i (zJs _) Z2;omega
def zAr (W:B5 c k pos): ∀ m,m<=c.ce.length -> -1<IN q c pos m -> ∃ g,L6 c pos (c.ce.length-m) c.ce.length g/\ Ky q (c.ce.length-m) c.ce.length g/\ (0<m -> q.va.getD (g (c.ce.length-m)) 0=IN q c pos m)
 | 0,_,_=>⟨λ_=>0,λb d a=>absurd a Z2,λb d a=>absurd a Z2,λh=>absurd h (Nat.lt_irrefl 0)⟩
 | m+1,hm,h=>by
  rcases zU (q:=q) (b:=IN q c pos m) (BY (AP c pos (c.ce.length-1-m))) (-1) with d | ⟨e,d,a,i⟩
  ·have:IN q c pos (m+1)= -1:=d;omega
  ·have a:q.va.getD e.toNat 0=IN q c pos (m+1):=a;obtain ⟨s,rfl,hs,V⟩:=(FM (W.at Z2) (zA4 W.k Z6)).1 d;rw [u8] at a i;obtain ⟨g,p,r,R⟩:=zAr W m Z2 Z2;have M:c.ce.length-(m+1)=c.ce.length-1-m:=Z2
   refine ⟨λb=>if b=c.ce.length-1-m then s else g b,λb A f=>?_,λb A f=>?_,λ_=>?_⟩
   ·dsimp only
    by_cases e:b=c.ce.length-1-m
    ·subst e;rw [zAE rfl];exact V
    ·rw [zEO e];exact p b Z2 f
   ·have F:b+1≠c.ce.length-1-m:=Z2
    dsimp only
    rw [zEO F]
    by_cases B:b=c.ce.length-1-m
    ·have:=R Z2;rw [zAE B,show b+1=c.ce.length-m by omega,this];exact i
    ·rw [zEO B];exact r b Z2 f
   ·dsimp only
    rw [zAE M];exact a
def zAs (W:B5 c k pos)(V:FA q k): ∀ m,m<c.ce.length -> L6 c pos (c.ce.length-1-m) c.ce.length g -> Ky q (c.ce.length-1-m) c.ce.length g -> q.va.getD (g (c.ce.length-1-m)) 0<IN q c pos m
 | 0,z,f,_=>by
  have d:=f (c.ce.length-1-0) Z2 Z2;have:=V.val (g (c.ce.length-1-0)) (zJq λw=>(by rw [(W.at Z2).hi w] at d;cases d))
  show _<(100:Int)
  omega
 | m+1,z,f,j=>by
  have B:c.ce.length-1-m=c.ce.length-1-(m+1)+1:=Z2
  have x:L6 c pos (c.ce.length-1-m) c.ce.length g:=λb i A=>f b Z2 A
  have P:Ky q (c.ce.length-1-m) c.ce.length g:=λb i A=>j b Z2 A
  have i:=zAs W V m Z2 x P;have h:=(eU (q:=q) (b:=IN q c pos m) (BY (AP c pos (c.ce.length-1-m))) (-1)).1 (zJB _);have d:=f (c.ce.length-1-m) Z2 Z2;have G:=(FM (W.at (a:=c.ce.length-1-m) Z2) (zA4 W.k Z6) (e:=(g (c.ce.length-1-m):Int))).2 ⟨_,rfl,zJq λw=>(by rw [(W.at Z2).hi w] at d;cases d),d⟩;have A:=h.2 _ G;rw [u8] at A;have A:_<=IN q c pos (m+1):=A i;have l:=j (c.ce.length-1-(m+1)) (zBT _) Z2;rw [←B] at l;omega
variable {a:Nat}
def zFF (W:B5 c k pos)(V:FA q k){s:Nat}(K:a<c.ce.length)(l:tb (AP c pos a) s=true):Hy q c pos a s=false↔∃ g,L6 c pos 0 c.ce.length g/\ Ky q 0 c.ce.length g/\ g a=s:=by
 have hv:=V.val s (zJq λw=>(by rw [(W.at K).hi w] at l;cases l));unfold Hy Ku;rw [Bool.or_eq_false_iff,zKO,zKO];constructor
 ·rintro ⟨d,e⟩;obtain ⟨p,C,j,M⟩:=zAL (q:=q) W a Z2 Z2;obtain ⟨m,r,U,i⟩:=zAr (q:=q) W (c.ce.length-(a+1)) Z2 Z2;have el:c.ce.length-(c.ce.length-(a+1))=a+1:=Z2
  rw [el] at r U i;refine ⟨λb=>if b<a then p b else if b=a then s else m b,λb _ f=>?_,λb _ f=>?_,by dsimp only;rw [if_neg Z2,if_pos rfl]⟩
  ·dsimp only
   by_cases B:b<a
   ·rw [zAE B];exact C b (zJs _) B
   ·by_cases F:b=a
    ·subst F;rw [zEO B,zAE rfl];exact l
    ·rw [zEO B,zEO F];exact r b Z2 f
  ·dsimp only
   by_cases B:b<a
   ·rw [zAE B]
    by_cases F:b+1<a
    ·rw [zAE F];exact j b (zJs _) F
    ·have:=M Z2;rw [zEO F,zAE Z2,show b=a-1 by omega,this];omega
   ·rw [zEO B,zEO (by omega: ¬ b+1<a),zEO (by omega: ¬ b+1=a)]
    by_cases F:b=a
    ·have:=i Z2;rw [zAE F,F,this];omega
    ·rw [zEO F];exact U b Z2 f
 ·rintro ⟨g,d,e,rfl⟩;have l1:=zAN W V a K (λb h A=>d b h Z2) (λb h A=>e b h Z2);have n:=zAs W V (c.ce.length-1-a) Z2 (λb h A=>d b Z2 A) (λb h A=>e b Z2 A);have B:c.ce.length-1-(c.ce.length-1-a)=a:=Z2
  have F:c.ce.length-(a+1)=c.ce.length-1-a:=Z2
  rw [B] at n;rw [F];omega
def Hs (c:AC)(pos:Ξ)(a:Nat)(inn:Bool):Nat -> Δ -> Prop
 | 0,t=>gC c t
 | m+1,s=>∃ b u,kd c pos (c.ce.length-1-m) b=true/\ (c.ce.length-1-m=a -> b=inn)/\ nx c s.1 s.2 b=some u/\ Hs c pos a inn m u
variable {inn:Bool}
def Zt : ∀ (m:Nat),m+a+1<=c.ce.length -> ∀ t,FX c pos (c.ce.length-m) t -> (Hs c pos a inn m t↔Jl c pos m t)
 | 0,_,t,_=>Iff.rfl
 | m+1,hm,s,j=>by
  have e:c.ce.length-(m+1)=c.ce.length-1-m:=Z2
  have F:c.ce.length-m=c.ce.length-1-m+1:=Z2
  rw [e] at j;constructor
  ·rintro ⟨b,u,d,_,f,A⟩;exact ⟨j,u,b,f,d,(Zt m Z2 u (by rw [F];exact ⟨s,b,j,f,d⟩)).1 A⟩
  ·rintro ⟨_,u,b,f,d,A⟩;exact ⟨b,u,d,λh=>absurd h Z2,f,(Zt m Z2 u (by rw [F];exact ⟨s,b,j,f,d⟩)).2 A⟩
def sP (K:a<c.ce.length): ∀ (i:Nat),i<=a -> (Hs c pos a inn c.ce.length (0,0)↔∃ s,FX c pos i s/\ Hs c pos a inn (c.ce.length-i) s)
 | 0,_=>⟨λh=>⟨(0,0),rfl,h⟩,λ⟨s,d,f⟩=>by
  have d:s=(0,0):=d;subst d;exact f⟩
 | i+1,hi=>by
  rw [sP K i Z2];have e:c.ce.length-i=(c.ce.length-(i+1))+1:=Z2
  have F:c.ce.length-1-(c.ce.length-(i+1))=i:=Z2
  constructor
  ·rintro ⟨s,d,f⟩;rw [e] at f;obtain ⟨b,u,g,_,j,r⟩:=f;rw [F] at g;exact ⟨u,⟨s,b,d,j,g⟩,r⟩
  ·rintro ⟨u,⟨s,b,d,j,g⟩,r⟩;refine ⟨s,d,?_⟩;rw [e];exact ⟨b,u,by rw [F];exact g,λh=>absurd h (by rw [F];omega),j,r⟩
theorem oE (K:a<c.ce.length):Ho c pos a inn↔Hs c pos a inn c.ce.length (0,0):=by
 rw [sP K a (zBT _)];have e:c.ce.length-a=(c.ce.length-1-a)+1:=Z2
 have F:c.ce.length-1-(c.ce.length-1-a)=a:=Z2
 have S:c.ce.length-(c.ce.length-1-a)=a+1:=Z2
 constructor
 ·rintro ⟨s,t,d,f,h,A⟩;refine ⟨s,d,?_⟩;rw [e];exact ⟨inn,t,by rw [F];exact h,λ_=>rfl,f,(Zt _ Z2 t (by rw [S];exact ⟨s,inn,d,f,h⟩)).2 A⟩
 ·rintro ⟨s,d,f⟩;rw [e] at f;obtain ⟨b,t,h,A,g,r⟩:=f;rw [F] at h A;obtain rfl:=A rfl;exact ⟨s,t,d,g,h,(Zt _ Z2 t (by rw [S];exact ⟨s,b,d,g,h⟩)).1 r⟩
end
section
open Classical
def It (f:Nat -> Bool):Nat -> Nat -> Bool
 | 0,_=>false
 | k+1,t=>f t||It f k (t+1)
theorem oc {f:Nat -> Bool}: ∀ (k t:Nat),It f k t=true↔∃ u,t<=u/\ u<t+k/\ f u=true
 | 0,t=>⟨λh=>(by cases h),λ⟨u,h1,b,_⟩=>absurd b Z2⟩
 | k+1,t=>by
  show (f t||It f k (t+1))=true↔_
  rw [zJo,oc k (t+1)]
  grind
section
variable {q:AA} {c:AC} {pos l:Ξ} {k:Nat}
def RE (q:AA)(c:AC)(pos:Ξ)(a s:Nat):Nat -> Int -> Prop
 | 0,_=>True
 | m+1,v=>∃ t,tb (AP c pos (c.ce.length-1-m)) t=true/\ (c.ce.length-1-m=a -> t=s)/\ v<q.va.getD t 0/\ RE q c pos a s m (q.va.getD t 0)
theorem t8 (H:RW q c pos){N:AA -> AC -> Ξ -> Int -> Int -> Int -> Int -> W9}{i a s:Nat}{v:Int}{D:Nat -> Bool}(hi:i<c.ce.length) 
 (d: ∀ t,t<q.sy.toNat -> N q c pos ((i:Int)+1) (q.va.getD t 0) (a:Int) (s:Int)=some (D t)): ∀ (k t n:Nat),t+k=q.sy.toNat -> k<n ->
 N7 N q c pos (i:Int) v (a:Int) (s:Int) n (.l1 (t:Int))=some (It (λt=>tb (AP c pos i) t&&decide (i=a -> t=s)&&decide (v<q.va.getD t 0)&&D t) k t)
 | 0,t,n+1,e,_=>by
  have:=H.sy
  show Vv n N (N7 N q c pos i v a s n) q c pos i v a s (t:Int)=_
  unfold Vv
  grind [It]
 | k+1,t,n+1,e,hn=>by
  have KN:=H.sy;have Ff:=H.vlen;have Ag:=H.W.len;obtain ⟨B,s2,s3⟩:=H.sym (s:=t) Z2;have b:=t8 H (v:=v) hi d k (t+1) n Z2 Z2;have b:N7 N q c pos (i:Int) v (a:Int) (s:Int) n (.l1 ((t:Int)+1))=_:=b;have f:=H.W.ce i hi;have g:=H.W.at hi;have r:AG ((t:Int)+1):=Aa.2 ⟨Z2,Z2⟩;have U:AG ((i:Int)+1):=Aa.2 ⟨Z2,Z2⟩;have Ij:=H.W.k
  show Vv n N (N7 N q c pos i v a s n) q c pos i v a s (t:Int)=_
  have h:Ha n (pos.getD (c.ce.getD i 0).toNat 0) (t:Int)=some (tb (AP c pos i) t):=Px g Z2 Z2
  have j:((i:Int) != (a:Int))= !decide (i=a):=by
   grind
  have F:((t:Int)==(s:Int))=decide (t=s):=by
   grind
  unfold Vv;simp only [u8];rw [zAC B,zAG,zAE ⟨⟨Z2,Z2⟩,f⟩,h,zAB,zAE r,b,j,F,zAE (⟨Z2,Z2⟩:0<=(t:Int)/\ (t:Int)<(q.va.length:Int)),zAE U,d t Z2,zAB]
  grind [It]
theorem uA (H:RW q c pos){a s:Nat}: ∀ (m:Nat),m<=c.ce.length -> ∀ v:Int,Ev (λn=>LI n q c pos ((c.ce.length-m:Nat):Int) v (a:Int) (s:Int)) (decide (RE q c pos a s m v))
 | 0,_,v=>⟨1,λn u=>by
  obtain ⟨n,rfl⟩: ∃ k,n=k+1:=⟨n-1,Z2⟩
  show Vw n _ _ q c pos _ v a s=_
  unfold Vw;rw [show ((c.ce.length-0:Nat):Int)=(c.ce.length:Int) from rfl,zP0,zAG,zAC (p:=RE q c pos a s 0 v) trivial]⟩
 | m+1,hm,v=>by
  obtain ⟨N,f⟩:=AZ.range (F:=λt n=>LI n q c pos ((c.ce.length-m:Nat):Int) (q.va.getD t 0) (a:Int) (s:Int)) (A:=λt b=>b=decide (RE q c pos a s m (q.va.getD t 0))) q.sy.toNat λt _=>(uA H m Z2 (q.va.getD t 0)).p rfl
  refine ⟨N+q.sy.toNat+2,λn u=>?_⟩;obtain ⟨n,rfl⟩: ∃ k,n=k+1:=⟨n-1,Z2⟩;have M:c.ce.length-(m+1)=c.ce.length-1-m:=Z2
  have ej:((c.ce.length-m:Nat):Int)=((c.ce.length-1-m:Nat):Int)+1:=Z2
  show Vw n (LI n) (N7 (LI n) q c pos ((c.ce.length-(m+1):Nat):Int) v a s n) q c pos ((c.ce.length-(m+1):Nat):Int) v a s=_
  unfold Vw;rw [show (((c.ce.length-(m+1):Nat):Int)==(c.ce.length:Int))=false by simp;omega,zAz,M];refine (t8 H (i:=c.ce.length-1-m) (a:=a) (s:=s) (v:=v) (D:=λt=>decide (RE q c pos a s m (q.va.getD t 0))) Z2 (λt V=>?_) q.sy.toNat 0 n Z2 Z2).trans (congrArg some ?_)
  ·obtain ⟨r,d,e⟩:=f n Z2 t V
   grind
  ·rw [zLs,oc,zJz];simp only [zAD,zJz];constructor
   ·grind [RE]
   ·rintro ⟨t,d,e,h,g⟩;exact ⟨t,zJs _,by have:=H.low (H.W.at Z2) d;omega,⟨⟨d,e⟩,h⟩,g⟩
variable {a s:Nat}
theorem i7 : ∀ (m:Nat),m<=c.ce.length -> ∀ v:Int,RE q c pos a s m v↔∃ g,L6 c pos (c.ce.length-m) c.ce.length g/\ Ky q (c.ce.length-m) c.ce.length g/\ (c.ce.length-m<=a -> a<c.ce.length -> g a=s)/\ (0<m -> v<q.va.getD (g (c.ce.length-m)) 0)
 | 0,_,v=>⟨λ_=>⟨λ_=>s,λb d i=>absurd d Z2,λb d i=>absurd d Z2,λd i=>absurd d Z2,λh=>absurd h (Nat.lt_irrefl 0)⟩,λ_=>trivial⟩
 | m+1,hm,v=>by
  have M:c.ce.length-(m+1)=c.ce.length-1-m:=Z2
  have ej:c.ce.length-m=c.ce.length-1-m+1:=Z2
  constructor
  ·rintro ⟨t,d,i,h3,A⟩;obtain ⟨g,p,r,R,U⟩:=(i7 m Z2 _).1 A;refine ⟨λb=>if b=c.ce.length-1-m then t else g b,λb f O=>?_,λb f O=>?_,λf O=>?_,λ_=>?_⟩
   ·dsimp only
    by_cases e:b=c.ce.length-1-m
    ·grind
    grind [L6]
   ·dsimp only
    rw [zEO (by omega: ¬ b+1=c.ce.length-1-m)]
    by_cases e:b=c.ce.length-1-m
    ·grind
    grind [Ky]
   ·grind
   grind
  ·rw [M];rintro ⟨g,p,r,R,U⟩;refine ⟨g (c.ce.length-1-m),p _ (zBT _) Z2,λe=>?_,U Z2,(i7 m Z2 _).2 ⟨g,λb f O=>p b Z2 O,λb f O=>r b Z2 O,λf O=>R Z2 O,λAB=>?_⟩⟩
   ·grind
   grind [Ky]
theorem zFi (H:RW q c pos)(K:a<c.ce.length)(l:tb (AP c pos a) s=true):RE q c pos a s c.ce.length (-1)↔Hy q c pos a s=false:=by
 rw [i7 _ (zBT _),zFF H.W H.V K l,Nat.sub_self];constructor
 ·grind
 ·rintro ⟨g,p,r,R⟩;refine ⟨g,p,r,λ_ _=>R,λh=>?_⟩;have:=H.V.val (g 0) (H.low (H.W.at h) (p 0 (zBT _) h));omega
theorem zJL (H:RW q c pos){i:Nat}(hi:i<c.ce.length):(bits .and .i64 (AP c pos i) c.set==AP c pos i)= !kd c pos i false:=by
 have h:=PY (S:=c.set) (H.W.at hi) (zA4 H.W.k Z6)
 grind [kd]
variable {d:Int}
theorem iZ {l:Int}(hp: ∀ j,j<c.ru.length -> 1<=c.ru.getD j 0)(h:Fl c d l):gC c (d,l)↔(if l>0 then d+1=(c.ru.length:Int)/\ l=c.ru.getD d.toNat 0 else d=(c.ru.length:Int)):=by
 obtain ⟨h1,h2,h3,h4⟩:=h;unfold gC
 grind
def f6 (c:AC):Prop:=∀ j,j<c.ru.length -> 1<=c.ru.getD j 0
def RY (c:AC)(pos:Ξ)(a:Nat)(inn:Bool)(m:Nat)(d l:Int):Prop:=Fl c d l/\ Hs c pos a inn m (d,l)
variable {inn:Bool}
theorem zEP {m:Nat}{l:Int}(e:Fl c d l):RY c pos a inn (m+1) d l↔
 (kd c pos (c.ce.length-1-m) true=true/\ (c.ce.length-1-m=a -> inn=true)/\ RY c pos a inn m d (l+1))∨
 (kd c pos (c.ce.length-1-m) false=true/\ (c.ce.length-1-m=a -> inn=false)/\ ((l=0/\ RY c pos a inn m d 0)∨(l≠0/\ l=c.ru.getD d.toNat 0/\ RY c pos a inn m (d+1) 0))):=by
 constructor
 ·rintro ⟨_,b,u,f,g,i,A⟩;have hu:=vl e i;cases b
  ·grind [RY,nx]
  grind [RY,nx]
 ·rintro (⟨f,g,i,A⟩ | ⟨f,g,⟨j,i,A⟩ | ⟨j,h6,i,A⟩⟩)
  ·refine ⟨e,true,(d,l+1),f,λh=>(g h).symm,?_,A⟩;have:=i.open' (by have:=e.l0;omega)
   grind [nx]
  ·refine ⟨e,false,(d,0),f,λh=>(g h).symm,?_,A⟩
   simp_all [nx]
  ·refine ⟨e,false,(d+1,0),f,λh=>(g h).symm,?_,A⟩
   simp_all [nx]
theorem t6 (H:RW q c pos)(R:Hr c)(y:f6 c){at_:Int}(hat: ∀ i,i<c.ce.length -> ((i:Int)=at_↔i=a)): ∀ (m:Nat),m<=c.ce.length -> ∀ d l:Int,0<=d -> d<=(c.ru.length:Int) -> 0<=l -> l<=257 ->
 Ev (λn=>Ep n c pos ((c.ce.length-m:Nat):Int) d l at_ inn) (decide (RY c pos a inn m d l)):=by
 intro m
 induction m with
 | zero=>
  intro _ d l f j s A;refine ⟨2,λn u=>?_⟩;obtain ⟨n,rfl⟩: ∃ k,n=k+2:=⟨n-2,Z2⟩;have z:=R.1
  show Pq (n+1) _ (HZ (Ep (n+1)) c pos (c.ce.length:Int) d l at_ inn (n+1)) c pos (c.ce.length:Int) d l at_ inn=_
  have E:Fl c d l -> HZ (Ep (n+1)) c pos (c.ce.length:Int) d l at_ inn (n+1) .l1=some (decide (RY c pos a inn 0 d l)):=λb=>by
   show Vu n _ _ c pos _ d l at_ inn=_
   unfold Vu;have e:RY c pos a inn 0 d l↔(if l>0 then d+1=(c.ru.length:Int)/\ l=c.ru.getD d.toNat 0 else d=(c.ru.length:Int)):=⟨λh=>(iZ y b).1 h.2,λh=>⟨b,(iZ y b).2 h⟩⟩
   by_cases o:l>0
   ·rw [zAC o,zAG,zAE (Aa.2 ⟨Z2,Z2⟩)]
    grind
   grind
  unfold Pq
  by_cases o:l>0
  ·rw [zAC o,zAG]
   by_cases p:d>=(c.ru.length:Int)
   ·rw [zAC p,zAG,zAF λh:RY c pos a inn 0 d l=>by have:=h.1.open' o;omega]
   ·rw [zAF p,zAz,zAE ⟨f,Z2⟩]
    by_cases v:l>c.ru.getD d.toNat 0
    ·rw [zAC v,zAG,zAF λh:RY c pos a inn 0 d l=>by have:=h.1.open' o;omega]
    ·rw [zAF v,zAz,E ⟨f,j,s,λ_=>⟨Z2,Z2⟩⟩]
  ·rw [zAF o,zAz,E ⟨f,j,s,λh=>absurd h o⟩]
 | succ m r=>
  intro hm d l f j s A;have Ag:=H.W.len;have z:=R.1;have M:c.ce.length-(m+1)=c.ce.length-1-m:=Z2
  have B:((c.ce.length-m:Nat):Int)=((c.ce.length-1-m:Nat):Int)+1:=Z2
  have r:=r Z2;rw [B] at r;rw [M]
  generalize hi:c.ce.length-1-m=i at r ⊢
  have K:i<c.ce.length:=Z2
  have C:=H.W.ce i K;have D:AG ((i:Int)+1):=Aa.2 ⟨Z2,Z2⟩
  have G:Fl c d l -> ∃ N,∀ n,N<=n -> ∀ k,HZ (Ep n) c pos (i:Int) d l at_ inn (k+4) .l1=some (decide (RY c pos a inn (m+1) d l)):=λb=>by
   have o:l<=256:=by
    by_cases h:0<l
    ·have p:=b.open' h
     grind [Hr]
    ·omega
   obtain ⟨F,t⟩:=r d (l+1) f j Z2 Z2;obtain ⟨I,w⟩:=r d 0 f j (zJB _) Z6
   obtain ⟨J,x⟩: ∃ N,∀ n,N<=n -> l≠0 -> Ep n c pos ((i:Int)+1) (d+1) 0 at_ inn=some (decide (RY c pos a inn m (d+1) 0)):=by
    by_cases h:l=0
    ·simp_all
    ·have p:=b.open' Z2;obtain ⟨N,g⟩:=r (d+1) 0 Z2 Z2 (zJB _) Z6;exact ⟨N,λn u _=>g n u⟩
   refine ⟨max F (max I J),λn u k=>?_⟩;have t:Ep n c pos ((i:Int)+1) d (l+1) at_ inn=_:=t n Z2;have w:Ep n c pos ((i:Int)+1) d 0 at_ inn=_:=w n Z2;have x:=x n Z2
   have ca:((i:Int)==at_)=decide (i=a):=by
    grind
   have L:((i:Int) != at_)= !decide (i=a):=by
    grind
   have U:AG (l+1):=Aa.2 ⟨Z2,Z2⟩;have r3:AG (d+1):=Aa.2 ⟨Z2,Z2⟩;have es:pos.getD (c.ce.getD i 0).toNat 0=AP c pos i:=rfl
   have L4:HZ (Ep n) c pos (i:Int) d l at_ inn (k+1) .l4=some (decide ((l=0/\ RY c pos a inn m d 0)∨(l≠0/\ l=c.ru.getD d.toNat 0/\ RY c pos a inn m (d+1) 0))):=by
    show jE k _ _ c pos _ d l at_ inn=_
    unfold jE
    by_cases p:l=0
    ·grind
    ·have O:=b.open' Z2
     grind
   have Q:HZ (Ep n) c pos (i:Int) d l at_ inn (k+2) .l3=some (decide (kd c pos i false=true/\ (i=a -> inn=false)/\ ((l=0/\ RY c pos a inn m d 0)∨(l≠0/\ l=c.ru.getD d.toNat 0/\ RY c pos a inn m (d+1) 0)))):=by
    show jF (k+1) _ (HZ (Ep n) c pos (i:Int) d l at_ inn (k+1)) c pos _ d l at_ inn=_
    unfold jF
    grind [Int.toNat_natCast,zJL]
   show Vu (k+3) _ (HZ (Ep n) c pos (i:Int) d l at_ inn (k+3)) c pos _ d l at_ inn=_
   unfold Vu;rw [show ((i:Int)==(c.ce.length:Int))=false by grind,zAz]
   show jG (k+2) _ (HZ (Ep n) c pos (i:Int) d l at_ inn (k+2)) c pos _ d l at_ inn=_
   unfold jG;simp only [u8];have gt:inn=true -> Ep n c pos ((i:Int)+1) d (l+1) at_ true=some (decide (RY c pos a inn m d (l+1))):=λh=>by rw [←t,h]
   rw [zAE ⟨⟨Z2,Z2⟩,C⟩,es,L,Q,zAE ⟨D,U⟩,t,zAB];have P:(bits .and .i64 (AP c pos i) c.set != 0)=kd c pos i true:=rfl;rw [P];have X:=zEP (pos:=pos) (a:=a) (m:=m) (inn:=inn) b
   grind
  by_cases b:Fl c d l
  ·obtain ⟨N,S⟩:=G b;refine ⟨N+5,λn u=>?_⟩;obtain ⟨n,rfl⟩: ∃ k,n=k+5:=⟨n-5,Z2⟩
   show Pq (n+4) _ (HZ (Ep (n+4)) c pos (i:Int) d l at_ inn (n+4)) c pos (i:Int) d l at_ inn=_
   unfold Pq;rw [S (n+4) Z2 n]
   by_cases o:l>0
   ·have O:=b.open' o
    grind
   grind
  ·refine ⟨1,λn u=>?_⟩;obtain ⟨n,rfl⟩: ∃ k,n=k+1:=⟨n-1,Z2⟩;rw [zAF λh:RY c pos a inn (m+1) d l=>b h.1]
   show Pq n _ _ c pos (i:Int) d l at_ inn=_
   unfold Pq
   by_cases o:l>0
   ·rw [zAC o,zAG]
    by_cases p:d>=(c.ru.length:Int)
    ·grind
    ·rw [zAF p,zAz,zAE ⟨f,Z2⟩]
     by_cases v:l>c.ru.getD d.toNat 0
     ·grind
     ·exact absurd ⟨f,j,s,λ_=>⟨Z2,Z2⟩⟩ b
   ·exact absurd ⟨f,j,s,λh=>absurd h o⟩ b
theorem sQ {a a':Nat}{inn inn':Bool}: ∀ (m:Nat),m<=c.ce.length -> (∀ i,c.ce.length-m<=i -> i<c.ce.length -> i≠a/\ i≠a') -> ∀ t,(Hs c pos a inn m t↔Hs c pos a' inn' m t)
 | 0,_,_,t=>Iff.rfl
 | m+1,hm,h,t=>by
  have ih:=sQ (a:=a) (a':=a') (inn:=inn) (inn':=inn') m Z2 λi h1 b=>h i Z2 b
  grind [Hs]
theorem Fl.zero:Fl c 0 0:=⟨zJB _,Z2,zJB _,λh=>absurd h (zQQ _)⟩
theorem sO (y:f6 c):RY c pos c.ce.length inn c.ce.length 0 0↔(c.ce.length=0 -> c.ru.length=0)/\ (0<c.ce.length -> Ho c pos 0 true∨Ho c pos 0 false):=by
 by_cases h0:c.ce.length=0
 ·rw [h0];have e:=iZ (c:=c) (d:=0) (l:=0) y Fl.zero;rw [zEO (zQQ 0)] at e;constructor
  ·rintro ⟨_,h⟩
   grind [Hs]
  ·rintro ⟨h,_⟩;exact ⟨Fl.zero,e.2 Z2⟩
 ·obtain ⟨m,z⟩: ∃ m,c.ce.length=m+1:=⟨c.ce.length-1,Z2⟩;have f:0<c.ce.length:=Z2
  have e0:c.ce.length-1-m=0:=Z2
  rw [oE f,oE f];have F: ∀ (inn':Bool) (u:Δ),Hs c pos c.ce.length inn m u↔Hs c pos 0 inn' m u:=λinn'=>sQ m Z2 λi h1 h2=>⟨Z2,Z2⟩
  constructor
  ·rintro ⟨_,h⟩;refine ⟨λh=>absurd h h0,λ_=>?_⟩;have h:Hs c pos c.ce.length inn (m+1) (0,0):=by rw [←z];exact h
   grind [Hs]
  grind [Fl.zero,Hs,RY]
theorem zEQ (ha:a<c.ce.length):RY c pos a inn c.ce.length 0 0↔Ho c pos a inn:=by
 grind [oE,Fl.zero,RY]
theorem sX :IZ c pos a s↔¬ Ho c pos a (tb c.set s):=by
 unfold IZ;cases tb c.set s <;> simp
end
end
section
open Classical
section
variable {q:AA} {c:AC} {pos l:Ξ} {k:Nat}
variable {s n:Nat}
theorem ar {x:Int}(hs:s<16):MR n x (s:Int)=some (tb x s):=by
 unfold MR uL;rw [zAC Z2,zAG,zAC Z2,zAG,zAE ⟨Z2,by show (s:Int)<=((64:Nat):Int);omega⟩,u8];refine congrArg some ?_;have h:=YS (s:=s) Z2 x
 have e:bits .and .i64 x (IntKind.i64.wrap (1*2 ^ s))=bits .and .i64 (IntKind.i64.wrap (1*2 ^ s)) x:=by
  grind [Hw,Dh,FE]
 grind
def KG (q:AA)(c:AC)(s t:Nat):Bool:=bif c.kind==6 then LV q c s t else KH c s t
theorem uD (H:RW q c pos){g:Ξ}{t:Nat}(hk:c.kind=6∨c.kind=7)(h2:c.ce.length=2)(hg:g.length=pos.length)(l:s<q.sy.toNat)(a:t<q.sy.toNat) 
 (gs:g.getD (c.ce.getD 0 0).toNat 0=(s:Int)) (A:g.getD (c.ce.getD 1 0).toNat 0=(t:Int)):Vz n q c g=some (KG q c s t):=by
 have b:=H.W.ce 0 Z2;have w:=H.W.ce 1 Z2;have Ff:=H.vlen;obtain ⟨s1,v,s3⟩:=H.sym l;obtain ⟨t1,E,t3⟩:=H.sym a;have v1:=H.V.val s l;have v2:=H.V.val t a;unfold Vz uC KG;rw [gs,A];rcases hk with hk | hk
 ·rw [hk];rw [zAE ⟨⟨zJB _,Z2⟩,⟨b.1,Z2⟩,⟨Z2,Z2⟩,⟨Z6,Z2⟩,⟨w.1,Z2⟩,Z2,Z2⟩,u8,u8];unfold jW ui LV;rw [zAE (Aa.2 ⟨Z2,Z2⟩),zAE (Aa.2 ⟨Z2,Z2⟩)]
  show _=some (decide _)
  by_cases h:q.va.getD s 0-q.va.getD t 0>=c.lo
  ·rw [zAC h,zAG,zAB];refine congrArg some (zAC ?_).symm;split <;> omega
  ·rw [zAF h,zAz,zAB];refine congrArg some ?_
   grind
 ·rw [hk]
  show (if _ then _ else none)=_
  rw [zAE ⟨⟨zJB _,Z2⟩,⟨b.1,Z2⟩,⟨Z6,Z2⟩,w.1,Z2⟩,ar v,ar E,ar E,ar v]
  grind [KH]
variable {a:Nat}
theorem zOb {b:Nat}(A8:c.ce.Nodup)(W:B5 c k pos)(K:a<c.ce.length)(d:b<c.ce.length)(h:a≠b):(c.ce.getD a 0).toNat≠(c.ce.getD b 0).toNat:=by
 intro e;have c1:=W.ce a K;have c2:=W.ce b d
 grind [List.pairwise_iff_getElem]
def QO (q:AA)(c:AC)(pos:Ξ)(a s:Nat)(t:Nat):Bool:=tb (AP c pos (1-a)) t&&(if a=0 then KG q c s t else KG q c t s)
theorem ud (H:RW q c pos)(hk:c.kind=6∨c.kind=7)(h:c.ce.length=2)(u:c.ce.Nodup){a s:Nat}(K:a<2)(l:s<q.sy.toNat): ∀ (k t n:Nat) (g:Ξ),t+k=q.sy.toNat -> k<n -> g.length=pos.length ->
 P0 q c pos (a:Int) (s:Int) n (.l1 (t:Int) g)=some (It (QO q c pos a s) k t)
 | 0,t,n+1,g,e,_,_=>by
  have:=H.sy
  show V4 n (P0 q c pos a s n) q c pos a s (t:Int) g=_
  unfold V4
  grind [It]
 | k+1,t,n+1,g,e,hn,hg=>by
  have KN:=H.sy;have V:t<q.sy.toNat:=Z2
  obtain ⟨v,t2,t3⟩:=H.sym V;have Ij:=H.W.k;have i:=H.W.ce a Z2;have j:=H.W.ce (1-a) Z2;have m:=H.W.at (a:=1-a) Z2;have B:(1-(a:Int)).toNat=1-a:=Z2
  have Ah:=zOb (a:=a) (b:=1-a) u H.W Z2 Z2 Z2;have r:AG ((t:Int)+1):=Aa.2 ⟨Z2,Z2⟩
  show V4 n (P0 q c pos a s n) q c pos a s (t:Int) g=_
  unfold V4;simp only [u8,B,zJv]
  generalize hg':(g.set (c.ce.getD a 0).toNat (s:Int)).set (c.ce.getD (1-a) 0).toNat (t:Int)=d
  have o:d.length=pos.length:=Z4
  have ga:d.getD (c.ce.getD a 0).toNat 0=(s:Int):=Z4
  have gb:d.getD (c.ce.getD (1-a) 0).toNat 0=(t:Int):=Z4
  have f:=ud H hk h u K l k (t+1) n d Z2 Z2 o;have f:P0 q c pos (a:Int) (s:Int) n (.l1 ((t:Int)+1) d)=_:=f;have N:Ha n (pos.getD (c.ce.getD (1-a) 0).toNat 0) (t:Int)=some (tb (AP c pos (1-a)) t):=Px m Z2 Z2
  have em:Vz n q c d=some (if a=0 then KG q c s t else KG q c t s):=by
   by_cases h0:a=0
   ·subst h0;rw [zAE rfl]
    grind [uD]
   ·have:a=1:=Z2
    subst this;rw [zEO h0]
    grind [uD]
  rw [zAC v,zAG,zAE ⟨⟨Z2,Z2⟩,i,Z2,j,by rw [zJy];omega⟩,N,zAB,zAE o.symm,em,zAB,zAE r,f]
  grind [It,QO]
theorem ue (H:RW q c pos)(hk:c.kind=6∨c.kind=7)(h2:c.ce.length=2)(A8:c.ce.Nodup)(ha:a<2)(hs:s<q.sy.toNat):Ev (λn=>S8 n q c pos (a:Int) (s:Int)) (It (QO q c pos a s) q.sy.toNat 0):=by
 have h256:=H.h256;refine ⟨q.sy.toNat+1,λn hn=>?_⟩
 show S8 n q c pos (a:Int) (s:Int)=_
 unfold S8 uc;rw [zAE ⟨⟨rfl,Z2,Z2⟩,Aa.2 ⟨Z2,Z2⟩,Z2,Z2⟩]
 grind [ud]
theorem wI (H:RW q c pos)(h2:c.ce.length=2)(ha:a<2):It (QO q c pos a s) q.sy.toNat 0=false↔GF (KG q c) c pos a s:=by
 rw [←zMA,oc];unfold GF QO;simp only [zAD]
 by_cases h0:a=0
 ·subst h0;refine not_congr ⟨λ⟨t,_,_,h,A⟩=>⟨t,h,Z4⟩,λ⟨t,h,A⟩=>⟨t,zJs _,by have:=H.low (H.W.at Z2) h;omega,h,by exact A⟩⟩
 ·have:a=1:=Z2
  subst this;refine not_congr ⟨λ⟨t,_,_,h,A⟩=>⟨t,h,Z4⟩,λ⟨t,h,A⟩=>⟨t,zJs _,by have:=H.low (H.W.at Z2) h;omega,h,by exact A⟩⟩
def RQ (n:Nat)(q:AA)(c:AC)(pos:Ξ)(a s:Int):W9:= bif c.kind==4 then LI n q c pos 0 (-1) a s else bif c.kind==5 then (Ha n c.set s).bind λe=>Ep n c pos 0 0 0 a e else S8 n q c pos a s
def OD (q:AA)(c:AC)(pos:Ξ)(F:Nat -> Nat -> Bool)(i j s:Nat):Prop:=∃ a,a<i/\ (c.ce.getD a 0).toNat=j/\ s<q.sy.toNat/\ tb (AP c pos a) s=true/\ F a s=false
theorem bH (H:RW q c pos){F:Nat -> Nat -> Bool}(S: ∀ a s,a<c.ce.length -> s<q.sy.toNat -> Ev (λn=>RQ n q c pos (a:Int) (s:Int)) (F a s)):AZ (λn=>S7 n q c pos) (RL pos (OD q c pos F c.ce.length)):=by
 have W:=H.W;have Ag:=W.len;have Z:=H.h256;have KN:=H.sy;have w:((q.sy.toNat:Nat):Int)=q.sy:=Z2
 obtain ⟨l,x,g⟩:=D6 (m:=Fu q c pos) (λi (l:Ξ)=>.l1 l (i:Int)) (λi l=>RL pos (OD q c pos F i) l) c.ce.length (λi l hi d=>by
  have e:=W.ce i hi;have z:=W.at hi
  obtain ⟨l',Y,R⟩:=D6 (m:=Fu q c pos) (λs (l:Ξ)=>.l2 l (i:Int) (s:Int)) (λs l=>RL pos (λj t=>OD q c pos F i j t∨((c.ce.getD i 0).toNat=j/\ t<s/\ tb (AP c pos i) t=true/\ F i t=false)) l) q.sy.toNat (λs l f d=>by
   obtain ⟨B,s2,s3⟩:=H.sym f;have r1:AG ((s:Int)+1):=Aa.2 ⟨Z2,Z2⟩;obtain ⟨N,A⟩:=S i s hi f
   have k: ∀ l,AV (Fu q c pos) (.l2 l (i:Int) (s:Int)) (.l3 l (i:Int) (s:Int) (F i s)):=λl=>AV.oneN N λn C=>by
    have h:=A n C;have h:RQ n q c pos (i:Int) (s:Int)=_:=h;unfold RQ at h
    show V3 n (Fu q c pos n) q c pos l (i:Int) (s:Int)=_
    unfold V3;rw [zAC B,zAG];cases D:(c.kind==4)
    ·rw [D,zAz] at h;rw [zAz];cases E:(c.kind==5)
     ·grind
     ·rw [E,zAG] at h;rw [zAG];cases G:Ha n c.set (s:Int) with
      | none=>rw [G] at h;cases h
      | some b=>grind
    grind
   have U: ∀ n,Fu q c pos (n+1) (.l3 l (i:Int) (s:Int) (F i s))=bif tb (AP c pos i) s&&!F i s then (Fs n l (c.ce.getD i 0) (IntKind.i64.wrap (1*2 ^ s))).bind λy=>Fu q c pos n (.l4 y (i:Int) (s:Int)) else Fu q c pos n (.l4 l (i:Int) (s:Int)):=λn=>by
    have e0:Ha n (pos.getD (c.ce.getD i 0).toNat 0) (s:Int)=some (tb (AP c pos i) s):=Px z Z2 Z2
    show jU n (Fu q c pos n) q c pos l (i:Int) (s:Int) (F i s)=_
    unfold jU;simp only [u8]
    grind
   have o: ∀ l',AV (Fu q c pos) (.l4 l' (i:Int) (s:Int)) (.l2 l' (i:Int) ((s+1:Nat):Int)):=λl'=>AV.one λn=>by
    simp_all [uZ,Fu]
   cases u:(tb (AP c pos i) s&&!F i s)
   ·refine ⟨l,d.congr λj t=>?_,(k l).trans ((AV.one λn=>by rw [U n,u,zAz]).trans (o l))⟩
    grind
   ·obtain ⟨v,f1,I⟩:=d.lose Z (ss:=IntKind.i64.wrap (1*2 ^ s)) e.1 e.2;have J:=u;rw [zAD,zFN] at J;refine ⟨v,I.congr λj t=>?_,(k l).trans ((AV.one λn=>Z4).trans (o v))⟩;rw [Jq Z2,zJz]
    grind) q.sy.toNat 0 l Z2 (d.congr λj t=>⟨λh=>h.elim id λh=>absurd h.2.1 (zA6 t),.inl⟩)
  refine ⟨l',Y.congr λj s=>?_,(AV.one (b:=.l2 l (i:Int) ((0:Nat):Int)) λn=>?_).trans (R.trans (AV.one λn=>?_))⟩
  ·grind [OD]
  ·simp_all [jV,Fu]
  ·show V3 n (Fu q c pos n) q c pos l' (i:Int) ((q.sy.toNat:Nat):Int)=_
   unfold V3;rw [w,zAF Z2,zAz,zAE (Aa.2 ⟨Z2,Z2⟩)];rfl) c.ce.length 0 (List.replicate pos.length 0) Z2 ((RL.zero pos).congr λj s=>⟨λ⟨a,h,_⟩=>absurd h (zA6 a),λh=>h.elim⟩)
 refine ((g.ev (Ev.one (r:=l) λn=>?_)).p x).eq λn=>?_
 ·simp_all [jV,Fu]
 ·unfold S7 ub
  grind
end
end
section
variable {q:AA} {c:AC} {pos l:Ξ} {g:List Ξ} {inn:Ω} {s:Int}
theorem XX {l:Ξ}{j:Nat}(hj:j<l.length):l.getD j 0∈l:=by
 grind
structure Mk (g:List Ξ)(inn:Ω)(s:Int)(o:Ω):Prop where
 len:o.length=g.length
 start:o.getD s.toNat false=true
 sub: ∀ v:Nat,v<g.length -> o.getD v false=true -> Rc g inn s v
def Cl (g:List Ξ)(inn o:Ω)(u:Nat):Prop:=o.getD u false=true -> ∀ v∈nb g u,inn.getD v.toNat false=true -> o.getD v.toNat false=true
def Ps (g:List Ξ)(inn:Ω)(s:Int)(o0:Ω)(C:Ω -> Prop)(x:Bool×Ω):Prop:=Mk g inn s x.2/\ (x.1=false -> x.2=o0/\ C o0)/\ (x.1=true -> Ey x.2<Ey o0)
theorem pass (G:Gr g)(hI:inn.length=g.length){o0:Ω}(Y:Mk g inn s o0): ∃ x:Bool×Ω,Ps g inn s o0 (λo=>∀ u,u<g.length -> Cl g inn o u) x/\ AV (Gc g inn s) (.l1 true o0) (.l1 x.1 x.2):=by
 have Ag:=G.len
 obtain ⟨x,d,r⟩:=D6 (m:=Gc g inn s) (λi (x:Bool×Ω)=>.l2 x.1 (i:Int) x.2) (λi x=>Ps g inn s o0 (λo=>∀ u,u<i -> Cl g inn o u) x) g.length (λi x hi d=>by
  have JT:=G.row i Z2 Z2
  obtain ⟨x',O,w⟩:=D6 (m:=Gc g inn s) (λj (x:Bool×Ω)=>.l3 x.1 (i:Int) (j:Int) x.2) (λj x=>Ps g inn s o0 (λo=>(∀ u,u<i -> Cl g inn o u)/\ (o.getD i false=true -> ∀ c,c<j -> inn.getD ((nb g i).getD c 0).toNat false=true -> o.getD ((nb g i).getD c 0).toNat false=true)) x) (nb g i).length (λj x f d=>by
   obtain ⟨b,o⟩:=x;obtain ⟨a,l,k⟩:=d;have a:Mk g inn s o:=a;have l:b=false -> o=o0/\ _:=l;have k:b=true -> Ey o<Ey o0:=k;have p:=G.rng i Z2 Z2 _ (XX f);have Q:=a.len;have r1:AG ((j:Int)+1):=Aa.2 ⟨Z2,Z2⟩;have B:nb g (i:Int)=g.getD i []:=by unfold nb;rw [u8]
   have U: ∀ n,Gc g inn s (n+1) (.l3 b (i:Int) (j:Int) o)=bif o.getD i false&&inn.getD ((nb g i).getD j 0).toNat false&&!o.getD ((nb g i).getD j 0).toNat false then Gc g inn s n (.l3 true (i:Int) ((j:Int)+1) (o.set ((nb g i).getD j 0).toNat true)) else Gc g inn s n (.l3 b (i:Int) ((j:Int)+1) o):=λn=>by
    show Vx n (Gc g inn s n) g inn s b (i:Int) (j:Int) o=_
    unfold Vx
    grind
   cases H:(o.getD i false&&inn.getD ((nb g i).getD j 0).toNat false&&!o.getD ((nb g i).getD j 0).toNat false)
   ·refine ⟨(b,o),⟨a,λq=>?_,k⟩,AV.one λn=>by rw [U n,H,zAz];rfl⟩
    grind
   ·rw [zAD,zAD,zFN] at H;obtain ⟨⟨C,F⟩,M⟩:=H;refine ⟨(true,o.set ((nb g i).getD j 0).toNat true),⟨⟨by rw [zJy];exact Q,?_,λv Z J=>?_⟩,λq=>(by cases q),λ_=>?_⟩,AV.one λn=>by rw [U n,C,F,M];rfl⟩
    ·rw [UV Z2];split
     ·rfl
     ·exact a.start
    ·rw [UV Z2] at J;split at J
     ·rename_i e;have hst:=Rc.step (a.sub i hi C) (XX f) F
      grind
     ·exact a.sub v Z J
    ·have:=n0 o ((nb g i).getD j 0).toNat Z2 M
     grind) (nb g i).length 0 x Z2 ⟨d.1,λh=>⟨(d.2.1 h).1,(d.2.1 h).2,λ_ c y=>absurd y (zA6 c)⟩,d.2.2⟩
  have B:nb g (i:Int)=g.getD i []:=by unfold nb;rw [u8]
  refine ⟨x',⟨O.1,λh=>⟨(O.2.1 h).1,λu t=>?_⟩,O.2.2⟩,(AV.one (b:=.l3 x.1 (i:Int) ((0:Nat):Int) x.2) λn=>?_).trans (w.trans (AV.one λn=>?_))⟩
  ·obtain ⟨h4,z,h6⟩:=O.2.1 h;rcases zIR.1 t with t | rfl
   ·exact z u t
   ·intro ho v p CT;obtain ⟨j,f,rfl⟩:=zJ3 p
    grind
  ·simp_all [jI,Gc]
  ·show Vx n (Gc g inn s n) g inn s x'.1 (i:Int) ((nb g i).length:Int) x'.2=_
   unfold Vx;rw [zAE ⟨Z2,Z2⟩,zAF (by rw [u8,←B];omega),zAz,zAE (Aa.2 ⟨Z2,Z2⟩)];rfl) g.length 0 (false,o0) Z2 ⟨Y,λ_=>⟨rfl,λu t=>absurd t (zA6 u)⟩,λh=>(by cases h)⟩
 refine ⟨x,d,(AV.one (b:=.l2 false ((0:Nat):Int) o0) λn=>rfl).trans (r.trans (AV.one λn=>?_))⟩
 simp_all [jI,Gc]
theorem zFe (G:Gr g)(a:inn.length=g.length): ∀ (z:Nat) (o0:Ω),Ey o0<=z -> Mk g inn s o0 -> ∃ o,(Mk g inn s o/\ ∀ u,u<g.length -> Cl g inn o u)/\ AV (Gc g inn s) (.l1 true o0) (.l1 false o):=by
 intro z
 induction z with
 | zero=>
  intro o0 P Y;obtain ⟨⟨b,o⟩,d,c⟩:=pass G a Y;cases b
  ·obtain ⟨e,h⟩:=d.2.1 rfl
   grind
  ·have:Ey o<Ey o0:=d.2.2 rfl;omega
 | succ z f=>
  intro o0 P Y;obtain ⟨⟨b,o⟩,d,c⟩:=pass G a Y;cases b
  ·obtain ⟨e,h⟩:=d.2.1 rfl
   grind
  ·have:Ey o<Ey o0:=d.2.2 rfl;obtain ⟨o',i,A⟩:=f o Z2 d.1;exact ⟨o',i,c.trans A⟩
def PJ (g:List Ξ)(inn:Ω)(s:Int)(o:Ω):Prop:=o.length=g.length/\ ∀ v:Nat,v<g.length -> (o.getD v false=true↔Rc g inn s v)
theorem jK (G:Gr g)(c:inn.length=g.length)(h0:0<=s)(d:s<(g.length:Int)):AZ (λn=>MM n g inn s) (PJ g inn s):=by
 have Ag:=G.len
 have Y:Mk g inn s ((List.replicate g.length false).set s.toNat true):=by
  refine ⟨Z3,?_,λv a J=>?_⟩
  ·grind
  ·rw [UV Z7] at J;split at J
   ·rw [show ((v:Nat):Int)=s by omega];exact .start
   grind
 obtain ⟨o,⟨b,e⟩,A⟩:=zFe G c _ _ (zBT _) Y
 have all: ∀ v:Int,Rc g inn s v -> o.getD v.toNat false=true:=λv a=>by
  induction a with
  | start=>exact b.start
  | step h hb hi f=>
   have hr:=h.rng G h0 d;refine e _ Z2 f _ ?_ hi
   grind
 refine ((A.ev (Ev.one (r:=o) λn=>?_)).p ⟨b.len,λv a=>⟨b.sub v a,λh=>Z4⟩⟩).eq λn=>?_
 ·show jJ n (Gc g inn s n) g inn s false o=_
  unfold jJ;rw [zAz,zAE b.len.symm]
 ·unfold MM uB
  grind
theorem jN (a:inn.length<=256): ∀ (k i:Nat) (o:Ξ),i+k=inn.length -> o.length<=i -> o≠[] -> ∃ l,(l.length<=inn.length/\ ∀ v:Int,v∈l↔v∈o∨((i:Int)<=v/\ v<(inn.length:Int)/\ inn.getD v.toNat false=true))/\ ∀ n,k<n -> JG inn n (.l2 o.length (i:Int) o)=some l
 | 0,i,o,e,y,_=>by
  refine ⟨o,⟨Z2,λv=>⟨.inl,λh=>h.elim id λh=>absurd h.1 Z2⟩⟩,λn u=>?_⟩;obtain ⟨n,rfl⟩: ∃ m,n=m+1:=⟨n-1,Z2⟩
  simp_all [Su,JG]
 | k+1,i,o,e,y,K=>by
  have L:Av=1000000000000:=rfl;have r1:AG ((i:Int)+1):=Aa.2 ⟨Z2,Z2⟩;cases hb:inn.getD i false
  ·obtain ⟨l,⟨b,d⟩,c⟩:=jN a k (i+1) o Z2 Z2 K;refine ⟨l,⟨b,λv=>?_⟩,λn u=>?_⟩
   ·grind
   ·obtain ⟨n,rfl⟩: ∃ m,n=m+1:=⟨n-1,Z2⟩
    show Su n (JG inn n) inn o.length (i:Int) o=_
    unfold Su
    grind
  ·obtain ⟨l,⟨b,d⟩,c⟩:=jN a k (i+1) (o++[(i:Int)]) Z2 Z7 Z3;rw [zKH] at c;refine ⟨l,⟨b,λv=>?_⟩,λn u=>?_⟩
   ·grind
   ·obtain ⟨n,rfl⟩: ∃ m,n=m+1:=⟨n-1,Z2⟩
    show Su n (JG inn n) inn o.length (i:Int) o=_
    unfold Su
    grind
theorem uI (a:inn.length<=256): ∀ (k i:Nat),i+k=inn.length -> ∃ l,(l.length<=inn.length/\ ∀ v:Int,v∈l↔((i:Int)<=v/\ v<(inn.length:Int)/\ inn.getD v.toNat false=true))/\ ∀ n,k<n -> JG inn n (.l1 (i:Int))=some l
 | 0,i,e=>by
  refine ⟨[],⟨Z3,λv=>⟨λh=>(by cases h),λh=>absurd h.1 Z2⟩⟩,λn u=>?_⟩;obtain ⟨n,rfl⟩: ∃ m,n=m+1:=⟨n-1,Z2⟩
  simp_all [Sv,JG]
 | k+1,i,e=>by
  have L:Av=1000000000000:=rfl;have r1:AG ((i:Int)+1):=Aa.2 ⟨Z2,Z2⟩;cases hb:inn.getD i false
  ·obtain ⟨l,⟨b,c⟩,d⟩:=uI a k (i+1) Z2;refine ⟨l,⟨b,λv=>?_⟩,λn u=>?_⟩
   ·grind
   ·obtain ⟨n,rfl⟩: ∃ m,n=m+1:=⟨n-1,Z2⟩
    show Sv n (JG inn n) inn (i:Int)=_
    unfold Sv
    grind
  ·obtain ⟨l,⟨b,c⟩,d⟩:=jN a k (i+1) [(i:Int)] Z2 Z3 Z3;refine ⟨l,⟨b,λv=>?_⟩,λn u=>?_⟩
   ·grind
   ·obtain ⟨n,rfl⟩: ∃ m,n=m+1:=⟨n-1,Z2⟩
    show Sv n (JG inn n) inn (i:Int)=_
    unfold Sv
    grind
def tZ (G:L5 g):Ev (λn=>N6 n g) 0:=⟨2*Fo g+1,λn u=>by
 show N6 n g=_
 rw [tc G.row u,G.ok];rfl⟩
theorem PJ.uniq {x x':Ω}(h:PJ g inn s x)(h':PJ g inn s x'):x=x':=
 nf (h.1.trans h'.1.symm) λj i=>by rw [zLs,h.2 j (by rw [←h.1];exact i),h'.2 j (by rw [←h.1];exact i)]
theorem zGu (G:L5 g)(d:inn.length=g.length)(h0:0<=s)(c:s<(g.length:Int))(hs:inn.getD s.toNat false=true): ∃ l,Ev (λn=>V2 n g inn s) (l,0)/\ l.length<=256/\ ∀ v,v∈l↔Rc g inn s v:=by
 have Ag:=G.gr.len;obtain ⟨a,⟨hl,hy⟩,M⟩:=(jK G.gr d h0 c).ev λ_ _ h h'=>h.uniq h'
 obtain ⟨l,⟨h4,e⟩,f⟩:=uI (inn:=a) Z2 a.length 0 Z2;refine ⟨l,?_,Z2,λv=>?_⟩
 ·show Ev (λn=>jT n g inn s) _
  refine Ev.bind (b:=λn (i:Int)=>bif (i != 0) then some (([]:Ξ),120) else _) (tZ G) ?_;refine Ev.eq (g:=λn=>(MM n g inn s).bind λa=>(jO n a).bind λy3=>some (y3,(0:Int))) (Ev.bind M (Ev.bind (x:=l) ⟨a.length+1,λn hn=>f n Z2⟩ (Ev.now λn=>rfl))) λn=>?_
  grind
 ·rw [e];constructor
  ·grind
  ·intro h;have hr:=h.rng G.gr h0 c
   grind
theorem zFt {n:Nat}(hI:inn.length<=256){a:Nat}(ha:a<inn.length):aW n inn (a:Int)=some (inn.set a false):=by
 have L:Av=1000000000000:=rfl;unfold aW tj
 grind
def f5 (g:List Ξ)(inn some':Ω)(a u v:Nat):Prop:=u<g.length/\ v<g.length/\ u≠a/\ v≠a/\ inn.getD u false=true/\ some'.getD u false=true/\ inn.getD v false=true/\ some'.getD v false=true/\ Rc g inn u v/\ ¬ Rc g (inn.set a false) u v
variable {some':Ω}
variable {a:Nat}
theorem tq (G:Gr g)(o:inn.length=g.length)(q:some'.length=g.length){i:Nat}{x y:Ω}(hi:i<g.length)(S:i≠a)(I:inn.getD i false=true)(l:some'.getD i false=true)(d:PJ g inn i x)(hy:PJ g (inn.set a false) i y){P:Prop} 
 (m:AZ (λn=>Fr g inn some' (a:Int) n (.l1 ((i:Int)+1))) (λr=>r.1=true↔P)): ∀ (k j:Nat),j+k=g.length -> AZ (λn=>Fr g inn some' (a:Int) n (.l2 (i:Int) x y (j:Int))) (λr=>r.1=true↔(∃ v,j<=v/\ f5 g inn some' a i v)∨P)
 | 0,j,e=>by
  have s:=G.len;refine AZ.step 1 (λn=>?_) (m.mono λr f=>f.trans ⟨.inr,λh=>h.elim (λ⟨v,c,b⟩=>absurd b.2.1 Z2) id⟩)
  show Vs n (Fr g inn some' (a:Int) n) g inn some' (a:Int) (i:Int) x y (j:Int)=_
  unfold Vs;rw [zAF Z2,zAz,zAE (Aa.2 ⟨Z2,Z2⟩)]
 | k+1,j,e=>by
  have s:=G.len;have t:=tq G o q hi S I l d hy m k (j+1) Z2;have r1:AG ((j:Int)+1):=Aa.2 ⟨Z2,Z2⟩;have hxl:=d.1;have hyl:=hy.1
  have U: ∀ n,Fr g inn some' (a:Int) (n+1) (.l2 (i:Int) x y (j:Int))=bif !decide (j=a)&&inn.getD j false&&some'.getD j false&&x.getD j false&&!y.getD j false then some (true,0) else Fr g inn some' (a:Int) n (.l2 (i:Int) x y ((j+1:Nat):Int)):=λn=>by
   show Vs n (Fr g inn some' (a:Int) n) g inn some' (a:Int) (i:Int) x y (j:Int)=_
   have e2:((j:Int) != (a:Int))= !decide (j=a):=by
    grind
   unfold Vs
   grind
  have X:(!decide (j=a)&&inn.getD j false&&some'.getD j false&&x.getD j false&&!y.getD j false)=true↔f5 g inn some' a i j:=by
   simp only [zAD,zFN,zKO];rw [d.2 j Z2,←zMA,hy.2 j Z2];exact ⟨λh=>⟨hi,Z2,S,h.1.1.1.1,I,l,h.1.1.1.2,h.1.1.2,h.1.2,h.2⟩,λ⟨_,_,_,c,_,_,b,u,A,w⟩=>⟨⟨⟨⟨c,b⟩,u⟩,A⟩,w⟩⟩
  cases H:(!decide (j=a)&&inn.getD j false&&some'.getD j false&&x.getD j false&&!y.getD j false)
  ·refine AZ.step 1 (λn=>by rw [U n,H,zAz]) (t.mono λr f=>f.trans (zQR ⟨λ⟨v,c,b⟩=>⟨v,Z2,b⟩,λ⟨v,c,b⟩=>⟨v,?_,b⟩⟩ Iff.rfl))
   grind
  ·exact (Ev.one (r:=(true,0)) λn=>by rw [U n,H,zAG]).p ⟨λ_=>.inl ⟨j,zBT _,X.1 H⟩,λ_=>rfl⟩
theorem tu (G:Gr g)(c:inn.length=g.length)(d:some'.length=g.length)(K:a<g.length): ∀ (k i:Nat),i+k=g.length -> AZ (λn=>Fr g inn some' (a:Int) n (.l1 (i:Int))) (λr=>r.1=true↔∃ u v,i<=u/\ f5 g inn some' a u v)
 | 0,i,e=>(Ev.one (r:=(false,0)) λn=>by
  simp_all [aZ,Fr]).p ⟨λh=>(by cases h),λ⟨u,v,f,b⟩=>absurd b.1 Z2⟩
 | k+1,i,e=>by
  have Ag:=G.len;have j:=tu G c d K k (i+1) Z2;have A:AG ((i:Int)+1):=Aa.2 ⟨Z2,Z2⟩
  have B:((i:Int)==(a:Int))=decide (i=a):=by
   grind
  have U: ∀ n,Fr g inn some' (a:Int) (n+1) (.l1 (i:Int))=bif !decide (i=a)&&inn.getD i false&&some'.getD i false then (MM n g inn (i:Int)).bind λD=>(MM n g (inn.set a false) (i:Int)).bind λy3=>Fr g inn some' (a:Int) n (.l2 (i:Int) D y3 0) else Fr g inn some' (a:Int) n (.l1 ((i+1:Nat):Int)):=λn=>by
   show aZ n (Fr g inn some' (a:Int) n) g inn some' (a:Int) (i:Int)=_
   unfold aZ;rw [zAC Z2,zAG,B,zAE A,zAE ⟨Z2,Z2⟩,zAE ⟨Z2,Z2⟩,u8,zFt Z2 Z2]
   grind
  cases H:(!decide (i=a)&&inn.getD i false&&some'.getD i false)
  ·refine AZ.step 1 (λn=>by rw [U n,H,zAz]) (j.mono λr l=>l.trans ⟨λ⟨u,v,f,b⟩=>⟨u,v,Z2,b⟩,λ⟨u,v,f,b⟩=>⟨u,v,?_,b⟩⟩)
   by_cases S:u=i
   ·subst S;obtain ⟨_,_,C,_,F,M,_⟩:=b
    grind
   ·omega
  ·have m:=H;simp only [zAD,zFN,zKO] at m;obtain ⟨⟨C,F⟩,M⟩:=m;obtain ⟨o,q⟩:=jK (s:=(i:Int)) G c Z2 Z2;obtain ⟨t,w⟩:=jK (s:=(i:Int)) (inn:=inn.set a false) G (by rw [zJy];exact c) Z2 Z2;obtain ⟨x,_,z⟩:=q o (zBT _);obtain ⟨y,_,hy⟩:=w t (zBT _);have L:=tq G c d Z2 C F M z hy j g.length 0 Z2;obtain ⟨E,T⟩:=L;refine ⟨max o (max t E)+1,λn hn=>?_⟩;obtain ⟨n,rfl⟩: ∃ k,n=k+1:=⟨n-1,Z2⟩;obtain ⟨x',q1,O⟩:=q n Z2;obtain ⟨y',q2,I⟩:=w n Z2;have:=PJ.uniq O z;subst this;have:=PJ.uniq I hy;subst this;obtain ⟨r,q3,l⟩:=T n Z2
   grind
theorem zB8 (G:Gr g)(hI:inn.length=g.length)(ha:a<g.length)(S:inn.getD a false=true):(∃ u v,f5 g inn some' a u v)↔Sp g inn some' (a:Int):=by
 constructor
 ·rintro ⟨u,v,f,i,c,A,b,r,Z,l,j,d⟩
  have k:Rc g inn u a:=Classical.byContradiction λh=>d (by
   grind [zAY,Int.toNat_natCast])
  have e:=k.symm G Z2 Z2 (by rw [u8];exact b);exact ⟨u,v,Z2,Z2,by rw [u8];exact r,by rw [u8];exact l,e,e.trans j,by rw [u8];exact d⟩
 ·rintro ⟨u,v,f,i,c,A,b,r,Z⟩;have hu:=b.rng G Z2 Z2;have hv:=r.rng G Z2 Z2;have x:inn.getD (a:Int).toNat false=true:=by rw [u8];exact S
  have m:=b.isIn x;have T:=r.isIn x;refine ⟨u.toNat,v.toNat,Z2,Z2,Z2,Z2,m,c,T,A,?_,?_⟩
  ·rw [show ((u.toNat:Nat):Int)=u by omega,show ((v.toNat:Nat):Int)=v by omega];exact (b.symm G Z2 Z2 x).trans r
  grind
theorem zFy (G:L5 g)(c:inn.length=g.length)(i:some'.length=g.length)(K:a<g.length):AZ (λn=>aa n g inn some' (a:Int)) (λr=>r.1=true↔inn.getD a false=true/\ Sp g inn some' (a:Int)):=by
 have Ag:=G.gr.len
 show AZ (λn=>tn n (Fr g inn some' (a:Int) n) g inn some' (a:Int)) _
 refine AZ.bind (b:=λn (e:Int)=>bif (e != 0) then some (false,120) else _) (tZ G) ?_;refine AZ.eq (g:=λn=>bif !inn.getD a false then some (false,(0:Int)) else Fr g inn some' (a:Int) n (.l1 0)) ?_ λn=>?_
 ·cases d:inn.getD a false
  ·exact (Ev.now (r:=(false,(0:Int))) λn=>rfl).p ⟨λh=>(by cases h),λh=>(by cases h.1)⟩
  ·refine AZ.eq (g:=λn=>Fr g inn some' (a:Int) n (.l1 ((0:Nat):Int))) ((tu G.gr c i K g.length 0 Z2).mono λr j=>j.trans ?_) λn=>rfl
   rw [←zB8 G.gr c K d]
   grind
 grind
end
abbrev zQX:=@and_congr
section
variable {q:AA} {c:AC} {pos l:Ξ}
variable {j:Nat}
theorem zHg (H:RW q c pos)(i:j<pos.length):(bits .and .i64 (pos.getD j 0) c.set==pos.getD j 0)=(bits .andNot .i64 (pos.getD j 0) c.set==0):=by
 have h:=PY (S:=c.set) (H.W.sm j i) (zA4 H.W.k Z6)
 grind
theorem al (H:RW q c pos)(W:E9 c q pos)(all:Bool):Ev (λn=>MP n c pos all) (bif all then cB c pos else pB c pos):=by
 have h256:=H.h256
 obtain ⟨o,⟨b,d⟩,h⟩:=D6 (m:=Sq c pos all) (λi (o:Ω)=>.l1 (i:Int) o) (λi o=>o.length=pos.length/\ ∀ j,j<i -> o.getD j false=(bif all then cB c pos else pB c pos).getD j false) pos.length (λi o hi f=>by
  obtain ⟨b,d⟩:=f;have r:AG ((i:Int)+1):=Aa.2 ⟨Z2,Z2⟩;have g:=W.len;refine ⟨o.set i ((bif all then cB c pos else pB c pos).getD i false),⟨Z4,λj a=>?_⟩,AV.one λn=>?_⟩
  ·grind
  ·show ak n (Sq c pos all n) c pos all (i:Int) o=_
   unfold ak;simp only [u8,W.id i hi,zJv];rw [zAC Z2,zAG,zAE ⟨⟨Z2,Z2⟩,Z2,Z2⟩,zAE ⟨Z2,r⟩,zAE ⟨Z2,r⟩,zAE ⟨Z2,r⟩];rw [zHg H hi,←WL hi,←YN hi];have:=W.cp hi
   grind) pos.length 0 (List.replicate pos.length false) Z2 ⟨zKM,λj a=>absurd a (zA6 j)⟩
 have e:o=(bif all then cB c pos else pB c pos):=nf (b.trans (by grind [cB,pB])) λj a=>d j Z2
 rw [e] at h;refine Ev.eq (h.ev (Ev.one λn=>?_)) λn=>?_
 ·have g:=W.len
  simp_all [ak,Sq]
 ·unfold MP uE
  grind
variable {inn:Ω}
theorem uQ (o:inn.length<=256): ∀ (k i:Nat),i+k=inn.length -> (∀ j,j<i -> inn.getD j false=false) -> ∃ r,Ev (λn=>N9 inn n (.l1 (i:Int))) r/\ DG inn r
 | 0,i,e,h=>⟨-1,Ev.one λn=>by
  simp_all [ax,N9],.inl ⟨rfl,λj a=>h j Z2⟩⟩
 | k+1,i,e,h=>by
  have U: ∀ n,N9 inn (n+1) (.l1 (i:Int))=bif inn.getD i false then some (i:Int) else N9 inn n (.l1 ((i+1:Nat):Int)):=λn=>by
   show ax n (N9 inn n) inn (i:Int)=_
   unfold ax;rw [zAC Z2,zAG,zAE ⟨Z2,Z2⟩,u8,zAE (Aa.2 ⟨Z2,Z2⟩)];rfl
  cases c:inn.getD i false
  ·obtain ⟨r,b,d⟩:=uQ o k (i+1) Z2 λj a=>by
    grind
   exact ⟨r,Ev.step 1 (λn=>by rw [U n,c,zAz]) b,d⟩
  ·exact ⟨i,Ev.one λn=>by rw [U n,c,zAG],.inr ⟨Z2,Z2,Z4,λj a=>h j Z2⟩⟩
def uR (o:inn.length<=256): ∃ r,Ev (λn=>Sz n inn) r/\ DG inn r:=by
 obtain ⟨r,a,b⟩:=uQ o inn.length 0 Z2 λj i=>absurd i (zA6 j)
 exact ⟨r,a.eq λn=>rfl,b⟩
variable {r:Int}
theorem uh (H:RW q c pos)(W:E9 c q pos)(a:0<=r)(S:DG (cB c pos) r): ∃ l,Ev (λn=>OE n q c pos (pB c pos) r) l/\ RL pos (λj s=>tb (pos.getD j 0) s=true/\ Df c q pos j s) l:=by
 have Z:=H.h256;have A:=W.gl;have T:=S;obtain ⟨Tk,E⟩:=T.at a;have b:(pB c pos).length=q.nb.length:=by rw [GH];exact A.symm
 have Y:=W.cp Z2 E;have wip: ∀ {j s},Df c q pos j s↔(pB c pos).getD j false=true/\ tb c.set s=true/\ ¬ Rc q.nb (pB c pos) r j:=pZ W.g b a S;obtain ⟨near,B,hn,hm⟩:=zGu W.g b a Z2 Y;have LBd:(256:Nat)<=LB:=Z6
 obtain ⟨l,o,g⟩:=D6 (m:=LP q c pos (pB c pos) r) (λi (l:Ξ)=>.l1 l near (i:Int)) (λi l=>RL pos (λj s=>j<i/\ tb (pos.getD j 0) s=true/\ Df c q pos j s) l) pos.length (λi l hi d=>by
  have r1:AG ((i:Int)+1):=Aa.2 ⟨Z2,Z2⟩
  have U: ∀ n,257<=n -> LP q c pos (pB c pos) r (n+1) (.l1 l near (i:Int))=bif (pB c pos).getD i false&&!near.contains (i:Int) then (Fs n l (i:Int) (bits .and .i64 (pos.getD i 0) c.set)).bind λy=>LP q c pos (pB c pos) r n (.l1 y near ((i+1:Nat):Int)) else LP q c pos (pB c pos) r n (.l1 l near ((i+1:Nat):Int)):=λn p=>by
   show bJ n (LP q c pos (pB c pos) r n) q c pos (pB c pos) r l near (i:Int)=_
   unfold bJ;rw [zAC Z2,zAG,zAE ⟨Z2,Z2⟩,yD Z2 Z2,zAB,zAE ⟨Z2,Z2⟩,u8]
   grind
  have C:(near.contains (i:Int))=true↔Rc q.nb (pB c pos) r i:=Z4
  cases e:((pB c pos).getD i false&&!near.contains (i:Int))
  ·refine ⟨l,d.congr λj s=>⟨λ⟨f,F,M⟩=>⟨?_,F,M⟩,λ⟨f,F⟩=>⟨Z2,F⟩⟩,AV.oneN 257 λn p=>by rw [U n p,e,zAz]⟩
   grind
  ·obtain ⟨l',f1,k⟩:=d.lose Z (cell:=(i:Int)) (ss:=bits .and .i64 (pos.getD i 0) c.set) Z2 Z2;have x:=e;rw [zAD,zFN,←zMA,C] at x;refine ⟨l',k.congr λj s=>?_,AV.oneN 257 λn p=>Z4⟩;rw [FE,zAD]
   grind) pos.length 0 (List.replicate pos.length 0) Z2 ((RL.zero pos).congr λj s=>⟨λh=>absurd h.1 (zA6 j),λh=>h.elim⟩)
 refine ⟨l,?_,o.congr λj s=>⟨λh=>⟨?_,h⟩,λh=>h.2⟩⟩
 ·refine Ev.eq (g:=λn=>(V2 n q.nb (pB c pos) r).bind λt=>LP q c pos (pB c pos) r n (.l1 (List.replicate pos.length (0:Int)) t.1 0)) (Ev.bind B (g.ev (Ev.one λn=>?_))) λn=>?_
  ·simp_all [bJ,LP]
  ·show OE n q c pos (pB c pos) r=_
   unfold OE ug
   grind
 grind
theorem zHb (h:(pB c pos).getD j false=true):j<pos.length:=by
 grind [GH]
theorem zC (hF:DG (cB c pos) r)(h:r<0):(∀ j,(cB c pos).getD j false=false)/\ ∀ a s,¬ Df c q pos a s:=by
 grind [Df,DG]
theorem zGq (H:RW q c pos)(W:E9 c q pos):AZ (λn=>jS n q c pos) (RL pos (λj s=>tb (pos.getD j 0) s=true/\ Gn c q pos j s)):=by
 have Z:=H.h256;have A:=W.gl;obtain ⟨r,w,v⟩:=uR (inn:=cB c pos) (by rw [HG];exact Z);have z:(pB c pos).length=q.nb.length:=by rw [GH];exact A.symm
 have B:(cB c pos).length=q.nb.length:=by rw [HG];exact A.symm
 refine AZ.bind (b:=λn (y1:Ω)=>(MP n c pos true).bind λx=>_) (al H W false) (AZ.bind (b:=λn (x:Ω)=>(Sz n x).bind λy3=>_) (al H W true) (AZ.bind (b:=λn (y3:Int)=>bif (decide (y3<0)) then _ else _) w ?_))
 by_cases h0:r<0
 ·obtain ⟨d,f⟩:=zC (q:=q) v h0;refine (Ev.now (r:=List.replicate pos.length 0) λn=>?_).p ((RL.zero pos).congr λj s=>⟨λ⟨_,h⟩=>h.elim (f j s) λ⟨_,_,h3,_⟩=>?_,λh=>h.elim⟩)
  ·grind
  grind [Sp]
 ·obtain ⟨l0,D,X⟩:=uh H W Z2 v
  obtain ⟨l,E,g⟩:=D6 (m:=LO q c pos) (λi (l:Ξ)=>.l1 (pB c pos) (cB c pos) l (i:Int)) (λi l=>RL pos (λj s=>tb (pos.getD j 0) s=true/\ (Df c q pos j s∨(j<i/\ (pB c pos).getD j false=true/\ (cB c pos).getD j false=false/\ Sp q.nb (pB c pos) (cB c pos) (j:Int)/\ tb c.set s=false))) l) pos.length (λi l hi o=>by
   have r1:AG ((i:Int)+1):=Aa.2 ⟨Z2,Z2⟩;obtain ⟨N,G⟩:=zFy W.g z B (a:=i) Z2;have I:=H.W.sm i hi;have J:=PY (S:=c.set) I (zA4 H.W.k Z6);have r2:AG (pos.getD i 0-bits .and .i64 (pos.getD i 0) c.set):=by rw [J];exact Aa.2 (Dh _ _ _)
   have step: ∀ b:Bool,(b=true↔(pB c pos).getD i false=true/\ Sp q.nb (pB c pos) (cB c pos) (i:Int)) -> ∀ n,N<=n -> LO q c pos (n+1) (.l1 (pB c pos) (cB c pos) l (i:Int))=bif (pB c pos).getD i false&&!(cB c pos).getD i false&&b then (Fs n l (i:Int) (bits .andNot .i64 (pos.getD i 0) c.set)).bind λy=>LO q c pos n (.l1 (pB c pos) (cB c pos) y ((i+1:Nat):Int)) else LO q c pos n (.l1 (pB c pos) (cB c pos) l ((i+1:Nat):Int)):=λb K n u=>by
    obtain ⟨y,d,f⟩:=G n u;have d:aa n q.nb (pB c pos) (cB c pos) (i:Int)=some y:=d;have e:y.1=b:=by rw [zLs,f,K]
    show bF n (LO q c pos n) q c pos (pB c pos) (cB c pos) l (i:Int)=_
    unfold bF
    grind
   by_cases t:(pB c pos).getD i false=true/\ Sp q.nb (pB c pos) (cB c pos) (i:Int)
   ·have st:=step true ⟨λ_=>t,λ_=>rfl⟩;cases L:(cB c pos).getD i false
    ·obtain ⟨l',f1,M⟩:=o.lose Z (cell:=(i:Int)) (ss:=bits .andNot .i64 (pos.getD i 0) c.set) Z2 Z2;refine ⟨l',M.congr λj s=>?_,AV.oneN N λn u=>Z4⟩;rw [HN,zAD,zFN]
     grind
    ·refine ⟨l,o.congr λj s=>zQX Iff.rfl (zQR Iff.rfl ⟨λ⟨C,F⟩=>⟨?_,F⟩,λ⟨C,F⟩=>⟨Z2,F⟩⟩),AV.oneN N λn u=>by rw [st n u,t.1,L];rfl⟩
     grind
   ·have st:=step false ⟨λh=>(by cases h),λh=>absurd h t⟩;refine ⟨l,o.congr λj s=>zQX Iff.rfl (zQR Iff.rfl ⟨λ⟨C,F⟩=>⟨?_,F⟩,λ⟨C,F⟩=>⟨Z2,F⟩⟩),AV.oneN N λn u=>Z4⟩
    grind) pos.length 0 l0 Z2 (X.congr λj s=>zQX Iff.rfl ⟨λh=>h.elim id λh=>absurd h.1 (zA6 j),.inl⟩)
  refine AZ.eq (g:=λn=>(OE n q c pos (pB c pos) r).bind λO=>LO q c pos n (.l1 (pB c pos) (cB c pos) O 0)) (AZ.bind D ((g.ev (Ev.one (r:=l) λn=>?_)).p (E.congr λj s=>zQX Iff.rfl (zQR Iff.rfl ⟨λh=>⟨zHb h.1,h⟩,λh=>h.2⟩)))) λn=>?_
  ·simp_all [bF,LO]
  grind
end
section
variable {q:AA} {c:AC} {pos l:Ξ}
def D4 (g:List Ξ)(inn:Ω)(v:Nat):Ξ:=(nb g v).filter λx=>inn.getD x.toNat false
variable {v:Nat}{inn:Ω}
def cL {g:List Ξ}:(D4 g inn v).length=CE g inn v:=zPk.symm
theorem jD (G:Gr q.nb)(h:inn.length=q.nb.length)(s:v<q.nb.length): ∀ (k i n:Nat) (o:Ξ),i+k=(nb q.nb v).length -> k<n -> o.length<=i -> Sl q (v:Int) inn n (.l1 o.length (i:Int) o)=some (o++((nb q.nb v).drop i).filter λx=>inn.getD x.toNat false)
 | 0,i,n+1,o,e,_,y=>by
  simp_all [ab,Sl,nb]
 | k+1,i,n+1,o,e,hn,y=>by
  have L:Av=1000000000000:=rfl;have B:nb q.nb (v:Int)=q.nb.getD v []:=by grind [nb]
  have JT:=G.row v Z2 Z2;have hi:i<(nb q.nb v).length:=Z2
  have t:=G.rng v Z2 Z2 _ (XX hi);have r:AG ((i:Int)+1):=Aa.2 ⟨Z2,Z2⟩
  have a:(nb q.nb v).drop i=(nb q.nb v).getD i 0::(nb q.nb v).drop (i+1):=by
   simp_all
  show ab n (Sl q (v:Int) inn n) q (v:Int) inn o.length (i:Int) o=_
  unfold ab;simp only [u8,←B];rw [zAE ⟨Z2,Z2⟩,zAC Z2,zAG,zAE ⟨⟨Z2,Z2⟩,t.1,Z2⟩,a,zQN];cases hb:inn.getD ((nb q.nb v).getD i 0).toNat false
  ·rw [zAz,zAE r,zEO Z6];exact jD G h s k (i+1) n o Z2 Z2 Z2
  ·rw [zAG,zAE ⟨⟨⟨trivial,rfl⟩,⟨trivial,trivial⟩,Z4⟩,r⟩,zAE rfl];have:=jD G h s k (i+1) n (o++[(nb q.nb v).getD i 0]) Z2 Z2 Z7
   grind
def tw {n:Nat}(G:Gr q.nb)(h:inn.length=q.nb.length)(s:v<q.nb.length)(hn:257<=n):ae n q (v:Int) inn=some (D4 q.nb inn v):=by
 have JT:=G.row v Z2 Z2;have:=jD G h s (nb q.nb v).length 0 n [] Z2 Z2 (zBT _);exact this
def OS (c:AC)(q:AA)(pos:Ξ)(v j a s:Nat):Prop:=(∃ i,i<j/\ (D4 q.nb (pB c pos) v).getD i 0=(a:Int)/\ i<(D4 q.nb (pB c pos) v).length)/\ ((CE q.nb (pB c pos) v=2/\ tb c.set s=false)∨(CE q.nb (cB c pos) v=2/\ (cB c pos).getD a false=false/\ tb c.set s=true))
theorem zIO (W:E9 c q pos){a s:Nat}(hv:v<pos.length)(hc:(cB c pos).getD v false=true):OS c q pos v (D4 q.nb (pB c pos) v).length a s↔OT c q pos v a s:=by
 unfold OS OT
 have:(∃ i,i<(D4 q.nb (pB c pos) v).length/\ (D4 q.nb (pB c pos) v).getD i 0=(a:Int)/\ i<(D4 q.nb (pB c pos) v).length)↔(a:Int)∈nb q.nb v/\ (pB c pos).getD a false=true:=by
  constructor
  ·grind [XX,Int.toNat_natCast,D4]
  ·rintro ⟨b,h2⟩;obtain ⟨i,hi,e⟩:=zJ3 (List.mem_filter.2 ⟨b,Z4⟩:(a:Int)∈D4 q.nb (pB c pos) v);have hi:i<(D4 q.nb (pB c pos) v).length:=hi;exact ⟨i,hi,by grind [D4],hi⟩
 grind
theorem zGO (H:RW q c pos)(W:E9 c q pos){D:Nat -> Ψ}(hv:v<pos.length)(t:RL pos D l): ∃ l',RL pos (λj s=>D j s∨(tb (pos.getD j 0) s=true/\ OS c q pos v (D4 q.nb (pB c pos) v).length j s)) l'/\
 AV (ED q c pos) (.l2 (pB c pos) (cB c pos) l (v:Int) (D4 q.nb (pB c pos) v) (D4 q.nb (cB c pos) v) 0) (.l1 (pB c pos) (cB c pos) l' ((v+1:Nat):Int)):=by
 have Z:=H.h256;have Hm:=W.gl;have G:=W.g.gr;have nC:(cB c pos).length=pos.length:=HG;have w:=G.row v Z2 Z2;have x:(D4 q.nb (pB c pos) v).length=CE q.nb (pB c pos) v:=cL;have y:(D4 q.nb (cB c pos) v).length=CE q.nb (cB c pos) v:=cL;have A:(D4 q.nb (pB c pos) v).length<=256:=zA4 (List.length_filter_le _ _) w
 generalize o:D4 q.nb (pB c pos) v=P at x A ⊢
 generalize hC:D4 q.nb (cB c pos) v=C at y ⊢
 have E: ∀ j a s,OS c q pos v j a s↔(∃ i,i<j/\ P.getD i 0=(a:Int)/\ i<P.length)/\ ((CE q.nb (pB c pos) v=2/\ tb c.set s=false)∨(CE q.nb (cB c pos) v=2/\ (cB c pos).getD a false=false/\ tb c.set s=true)):=λj a s=>by
  unfold OS;rw [o]
 obtain ⟨l',Y,g⟩:=D6 (m:=ED q c pos) (λj (l:Ξ)=>.l2 (pB c pos) (cB c pos) l (v:Int) P C (j:Int)) (λj l=>RL pos (λa s=>D a s∨(tb (pos.getD a 0) s=true/\ OS c q pos v j a s)) l) P.length (λj l B r=>by
  have r1:AG ((j:Int)+1):=Aa.2 ⟨Z2,Z2⟩
  have F:0<=P.getD j 0/\ P.getD j 0<(q.nb.length:Int):=by
   have z:=XX B;rw [←o] at z ⊢;exact G.rng v Z2 Z2 _ (List.mem_filter.1 z).1
  obtain ⟨u,I⟩:=zL7 F.1;have J:u<pos.length:=Z2
  have K:=PY (S:=c.set) (H.W.sm u J) (zA4 H.W.k Z6);have r2:AG (pos.getD u 0-bits .and .i64 (pos.getD u 0) c.set):=by rw [K];exact Aa.2 (Dh _ _ _)
  have L: ∃ b,RL pos (λa s=>(D a s∨(tb (pos.getD a 0) s=true/\ OS c q pos v j a s))∨(a=u/\ tb (pos.getD a 0) s=true/\ CE q.nb (pB c pos) v=2/\ tb c.set s=false)) b/\ AV (ED q c pos) (.l2 (pB c pos) (cB c pos) l (v:Int) P C (j:Int)) (.l3 (pB c pos) (cB c pos) b (v:Int) P C (j:Int)):=by
   by_cases e:CE q.nb (pB c pos) v=2
   ·obtain ⟨b,M,p⟩:=r.lose Z (cell:=(u:Int)) (ss:=bits .andNot .i64 (pos.getD u 0) c.set) Z2 Z2;refine ⟨b,p.congr λa s=>zQR Iff.rfl ?_,AV.one λn=>?_⟩
    ·rw [HN,zAD,zFN]
     grind
    ·show Pu n (ED q c pos n) q c pos (pB c pos) (cB c pos) l (v:Int) P C (j:Int)=_
     unfold Pu;simp only [u8,I]
     grind
   ·refine ⟨l,r.congr λa s=>⟨λh=>h.elim id λh=>absurd h.2.2.1 e,.inl⟩,AV.one λn=>?_⟩
    show Pu n (ED q c pos n) q c pos (pB c pos) (cB c pos) l (v:Int) P C (j:Int)=_
    unfold Pu
    grind
  obtain ⟨b,f,N⟩:=L
  have X: ∃ d,RL pos (λa s=>((D a s∨(tb (pos.getD a 0) s=true/\ OS c q pos v j a s))∨(a=u/\ tb (pos.getD a 0) s=true/\ CE q.nb (pB c pos) v=2/\ tb c.set s=false))∨(a=u/\ tb (pos.getD a 0) s=true/\ CE q.nb (cB c pos) v=2/\ (cB c pos).getD a false=false/\ tb c.set s=true)) d/\ AV (ED q c pos) (.l3 (pB c pos) (cB c pos) b (v:Int) P C (j:Int)) (.l4 (pB c pos) (cB c pos) d (v:Int) P C (j:Int)):=by
   by_cases e:CE q.nb (cB c pos) v=2
   ·have ec:((C.length:Int)==2)=true:=by rw [zH2];omega
    cases hcb:(cB c pos).getD u false
    ·obtain ⟨d,M,p⟩:=f.lose Z (cell:=(u:Int)) (ss:=bits .and .i64 (pos.getD u 0) c.set) Z2 Z2;refine ⟨d,p.congr λa s=>zQR Iff.rfl ?_,AV.one λn=>?_⟩
     ·rw [FE,zAD]
      grind
     ·show Ss n (ED q c pos n) q c pos (pB c pos) (cB c pos) b (v:Int) P C (j:Int)=_
      simp_all [Ss]
    ·refine ⟨b,f.congr λa s=>⟨λh=>h.elim id λ⟨p0,_,_,p1,_⟩=>Z4,.inl⟩,AV.one λn=>?_⟩
     simp_all [Ss,ED]
   ·refine ⟨b,f.congr λa s=>⟨λh=>h.elim id λh=>absurd h.2.2.1 e,.inl⟩,AV.one λn=>?_⟩
    show Ss n (ED q c pos n) q c pos (pB c pos) (cB c pos) b (v:Int) P C (j:Int)=_
    unfold Ss
    grind
  obtain ⟨d,Q,O⟩:=X;refine ⟨d,Q.congr λa s=>?_,N.trans (O.trans (AV.one λn=>?_))⟩
  ·grind
  simp_all [uG,ED]) P.length 0 l Z2 (t.congr λa s=>⟨λh=>h.elim id λh=>absurd ((E 0 a s).1 h.2).1 λ⟨i,h,_⟩=>zA6 i h,.inl⟩)
 refine ⟨l',Y,AV.trans g (AV.one λn=>?_)⟩
 show Pu n (ED q c pos n) q c pos (pB c pos) (cB c pos) l' (v:Int) P C (P.length:Int)=_
 unfold Pu;rw [zAF Z2,zAz,zAE (Aa.2 ⟨Z2,Z2⟩)];rfl
theorem uH (H:RW q c pos)(W:E9 c q pos): ∀ (k v:Nat) (l:Ξ),v+k=pos.length -> RL pos (λj s=>tb (pos.getD j 0) s=true/\ (Df c q pos j s∨∃ u,u<v/\ OT c q pos u j s)) l ->
 AZ (λn=>ED q c pos n (.l1 (pB c pos) (cB c pos) l (v:Int))) (KR q c pos (λj s=>tb (pos.getD j 0) s=true/\ Lc c q pos j s) (∀ u,v<=u -> u<pos.length -> (cB c pos).getD u false=true -> 2<=CE q.nb (pB c pos) u/\ CE q.nb (cB c pos) u<=2))
 | 0,v,l,e,o=>by
  refine (Ev.one (r:=(l,true)) λn=>?_).p ⟨⟨λ_ u a b=>absurd b Z2,λ_=>rfl⟩,λ_=>o.congr λj s=>zQX Iff.rfl (zQR Iff.rfl ⟨λ⟨u,a,b⟩=>⟨u,Z2,b⟩,λ⟨u,a,b⟩=>⟨u,Z2,b⟩⟩)⟩
  simp_all [ao,ED]
 | k+1,v,l,e,o=>by
  have h256:=H.h256;have Hm:=W.gl;have yK:(pB c pos).length=pos.length:=GH;have nC:(cB c pos).length=pos.length:=HG;have t:AG ((v:Int)+1):=Aa.2 ⟨Z2,Z2⟩;have d1:(D4 q.nb (pB c pos) v).length=CE q.nb (pB c pos) v:=cL;have d2:(D4 q.nb (cB c pos) v).length=CE q.nb (cB c pos) v:=cL
  have U: ∀ n,257<=n -> ED q c pos (n+1) (.l1 (pB c pos) (cB c pos) l (v:Int))=bif !(cB c pos).getD v false then ED q c pos n (.l1 (pB c pos) (cB c pos) l ((v+1:Nat):Int)) else bif decide (((D4 q.nb (pB c pos) v).length:Int)<2) then some (l,false) else bif decide (((D4 q.nb (cB c pos) v).length:Int)>2) then some (l,false) else ED q c pos n (.l2 (pB c pos) (cB c pos) l (v:Int) (D4 q.nb (pB c pos) v) (D4 q.nb (cB c pos) v) 0):=λn d=>by
   show ao n (ED q c pos n) q c pos (pB c pos) (cB c pos) l (v:Int)=_
   unfold ao;rw [zAC Z2,zAG,zAE ⟨Z2,Z2⟩,zAE t,u8,tw W.g.gr Z2 Z2 d,tw W.g.gr Z2 Z2 d];rfl
  have next: ∀ l',RL pos (λj s=>tb (pos.getD j 0) s=true/\ (Df c q pos j s∨∃ u,u<v+1/\ OT c q pos u j s)) l' -> ((cB c pos).getD v false=true -> 2<=CE q.nb (pB c pos) v/\ CE q.nb (cB c pos) v<=2) -> AZ (λn=>ED q c pos n (.l1 (pB c pos) (cB c pos) l' ((v+1:Nat):Int))) (KR q c pos (λj s=>tb (pos.getD j 0) s=true/\ Lc c q pos j s) (∀ u,v<=u -> u<pos.length -> (cB c pos).getD u false=true -> 2<=CE q.nb (pB c pos) u/\ CE q.nb (cB c pos) u<=2)):=λl' Y w=>by
   refine (uH H W k (v+1) l' Z2 Y).mono λr m=>⟨m.1.trans ⟨λh u a b f=>?_,λh u a b f=>h u Z2 b f⟩,m.2⟩
   by_cases F:u=v
   ·subst F;exact w f
   ·exact h u Z2 b f
  cases i:(cB c pos).getD v false
  ·refine AV.pev (AV.oneN 257 λn d=>by rw [U n d,i];rfl) (next l (o.congr λj s=>zQX Iff.rfl (zQR Iff.rfl ⟨λ⟨u,a,b⟩=>⟨u,?_,b⟩,λ⟨u,a,b⟩=>⟨u,Z2,b⟩⟩)) λh=>(by rw [i] at h;cases h))
   grind [OT]
  ·by_cases c1:CE q.nb (pB c pos) v<2
   ·refine (Ev.oneN (r:=(l,false)) 257 λn d=>?_).p ⟨⟨λh=>(by cases h),λh=>?_⟩,λh=>(by cases h)⟩
    ·grind
    grind
   ·by_cases c2:CE q.nb (cB c pos) v>2
    ·refine (Ev.oneN (r:=(l,false)) 257 λn d=>?_).p ⟨⟨λh=>(by cases h),λh=>?_⟩,λh=>(by cases h)⟩
     ·grind
     grind
    ·obtain ⟨l',a,b⟩:=zGO H W (v:=v) Z2 o;refine AV.pev ((AV.oneN 257 λn d=>Z4).trans b) (next l' (a.congr λj s=>?_) λ_=>⟨Z2,Z2⟩);rw [zIO W Z2 i]
     grind
theorem zGM (H:RW q c pos)(W:E9 c q pos):AZ (λn=>jM n q c pos) (KR q c pos (λj s=>tb (pos.getD j 0) s=true/\ Lc c q pos j s) (QS c q pos)):=by
 have Z:=H.h256;obtain ⟨r,l,S⟩:=uR (inn:=cB c pos) (by rw [HG];exact Z);refine AZ.bind (b:=λn (y1:Ω)=>(MP n c pos true).bind λe=>_) (al H W false) (AZ.bind (b:=λn (e:Ω)=>(Sz n e).bind λy3=>_) (al H W true) (AZ.bind (b:=λn (y3:Int)=>bif (decide (y3<0)) then _ else _) l ?_))
 by_cases h0:r<0
 ·obtain ⟨f,m⟩:=zC (q:=q) S h0;refine (Ev.now (r:=(List.replicate pos.length 0,true)) λn=>?_).p ⟨⟨λ_ v _ h=>(by rw [f] at h;cases h),λ_=>rfl⟩,λ_=>(RL.zero pos).congr λj s=>⟨λ⟨_,h⟩=>h.elim (m j s) λ⟨v,_,i,_⟩=>(by rw [f] at i;cases i),λh=>h.elim⟩⟩
  grind
 ·obtain ⟨l0,C,X⟩:=uh H W Z2 S;refine AZ.eq (g:=λn=>(OE n q c pos (pB c pos) r).bind λo=>ED q c pos n (.l1 (pB c pos) (cB c pos) o 0)) (AZ.bind C ((uH H W pos.length 0 l0 Z2 (X.congr λj s=>zQX Iff.rfl ⟨λh=>h.elim id λ⟨u,h,_⟩=>absurd h (zA6 u),.inl⟩)).mono λx k=>⟨k.1.trans ⟨λh v a d=>h v (zJs _) a d,λh v _ a d=>h v a d⟩,k.2⟩)) λn=>?_
  grind
end
abbrev zMW:=@List.drop_eq_nil_of_le
section
variable {q:AA} {pos:Ξ}
def uU {n:Nat}(o:pos.length<=256): ∀ (k j n:Nat),j+k=pos.length -> k<n -> Py pos n (.l1 (j:Int))=some ((pos.drop j).any (· ==0))
 | 0,j,n+1,e,_=>by
  show V1 n (Py pos n) pos (j:Int)=_
  unfold V1;rw [zAF Z2,zAz,zMW Z2];rfl
 | k+1,j,n+1,e,hn=>by
  have i:j<pos.length:=Z2
  have F:pos.drop j=pos.getD j 0::pos.drop (j+1):=by
   rw [zI1 i,zBS,zKF i];rfl
  have b:=uU (n:=n) o k (j+1) n Z2 Z2;have b:Py pos n (.l1 ((j:Int)+1))=_:=b
  show V1 n (Py pos n) pos (j:Int)=_
  unfold V1;rw [zAC Z2,zAG,zAE ⟨Z2,Z2⟩,zAE (Aa.2 ⟨Z2,Z2⟩),u8,b,F,List.any_cons];cases (pos.getD j 0==0) <;> rfl
variable {n:Nat}
def MU (o:pos.length<=256)(u:pos.length<n):LN n pos=some (BJ pos):=uU (n:=n) o pos.length 0 n Z2 u
def zE1 (S:Cm q)(u:EU q<=n)(hl:pos.length<=LB)(IE:pos.length<n):HV n q pos=some (CB q pos):=by
 have hb:LB<=9223372036854775806:=Z6
 unfold HV s8 CB;rw [zEW S u,zAB];cases s:C4 q with
 | false=>rfl
 | true=>
  obtain ⟨_,l,_⟩:=Dl s;obtain ⟨C,p2,M⟩:=bS l.1 l.2
  have W:IntKind.u64.wrap q.sy=q.sy:=by
   show q.sy % 18446744073709551616=q.sy
   omega
  show (bif ((pos.length:Int) != q.ce) then some 250 else Ph q pos n (.l1 0))=some (if posOk q pos=true then 0 else 250)
  unfold posOk
  by_cases G:(pos.length:Int)=q.ce
  ·have a:((pos.length:Int) != q.ce)=false:=by simpa using G
   have b:((pos.length:Int)==q.ce)=true:=by simpa using G
   rw [a,zAz,b,zMB]
   have key: ∀ (k i n:Nat),i+k=pos.length -> k+1<=n -> Ph q pos n (.l1 (i:Int))=some (if ((pos.drop i).all λx=>decide (0<=x)&&decide (x<2 ^ q.sy.toNat))=true then 0 else 250):=by
    intro k
    induction k with
    | zero=>
     intro i n e u;obtain ⟨n,rfl⟩: ∃ k,n=k+1:=⟨n-1,Z2⟩
     show Ve n (Ph q pos n) q pos (i:Int)=_
     unfold Ve;rw [zAF Z2,zAz,zMW Z2];rfl
    | succ k d=>
     intro i n e u;obtain ⟨n,rfl⟩: ∃ k,n=k+1:=⟨n-1,Z2⟩;have hi:i<pos.length:=Z2
     have F:pos.drop i=pos.getD i 0::pos.drop (i+1):=by
      rw [zI1 hi,zBS,zKF hi];rfl
     have:=d (i+1) n Z2 Z2
     show Ve n (Ph q pos n) q pos (i:Int)=_
     unfold Ve;rw [zAC Z2,zAG,zAE ⟨Z2,Z2⟩,W,zAE M,zAE (Aa.2 ⟨Z2,Z2⟩),u8,F,zPm,C]
     by_cases w:pos.getD i 0<0
     ·rw [zAC w,zAG,zAF (p:=0<=pos.getD i 0) Z2];rfl
     ·rw [zAF w,zAz,zAC (p:=0<=pos.getD i 0) Z2,zMB]
      by_cases c:pos.getD i 0>=2 ^ q.sy.toNat
      ·rw [zAC c,zAG,zAF (p:=pos.getD i 0<2 ^ q.sy.toNat) Z2];rfl
      ·rw [zAF c,zAz,zAC (p:=pos.getD i 0<2 ^ q.sy.toNat) Z2,zMB];exact this
   exact key pos.length 0 n Z2 Z2
  ·have a:((pos.length:Int) != q.ce)=true:=by simpa using G
   have b:((pos.length:Int)==q.ce)=false:=by simpa using G
   rw [a,zAG,b,zQY];rfl
end
section
open Classical
section
variable {q:AA} {c:AC} {i:Int} {pos x:Ξ}
def Bj.rw (C:Bj q i pos)(v:BJ pos=false):RW q (con q i) pos:=by
 obtain ⟨_,b,h,_⟩:=Dl C.valid;have Z:=C.len256;exact ⟨C.work,C.vals,b,h.1,Z.1,Z.2,Fh.1 v⟩
theorem Bj.runs1 (C:Bj q i pos):f6 (con q i):=by
 have h:=C.fine
 simp_all [Eu,Uu,f6]
theorem Bj.set (C:Bj q i pos):Sm q.sy.toNat (con q i).set:=by
 have h:=C.fine;unfold Eu at h;simp only [zAD,zJz] at h
 grind [Uu,Sm]
structure RK (q:AA)(c:AC)(pos:Ξ)(y:Ξ×Bool):Prop where
 no:y.2=false -> ¬ Iy q c pos
 ok:y.2=true -> Hh q c pos
 len:y.2=true -> y.1.length=pos.length
 lost:y.2=true -> ∀ j s,j<pos.length -> tb (pos.getD j 0) s=true -> (tb (y.1.getD j 0) s=true↔LC q c pos j s)
variable {D:Nat -> Ψ}
theorem RK.of {ok:Prop}{y:Ξ×Bool}(h:KR q c pos D ok y)(b:ok↔Hh q c pos)(k: ∀ j s,j<pos.length -> tb (pos.getD j 0) s=true -> (D j s↔LC q c pos j s)):RK q c pos y where
 no:=λa E=>by have:=h.1.2 (b.2 E.ok);rw [a] at this;cases this
 ok:=λa=>b.1 (h.1.1 a)
 len:=λa=>(h.2 a).1.1
 lost:=λa j s i l=>((h.2 a).2 j s).trans (k j s i l)
def WR {k:Int}(hk:c.kind=k)(b:k≠2)(a:k≠3)(d:k≠5)(S:k≠9):Hh q c pos:=⟨λh=>absurd (hk.symm.trans h) b,λh=>absurd (hk.symm.trans h) a,λh=>absurd (hk.symm.trans h) d,λh=>absurd (hk.symm.trans h) S⟩
variable {j s:Nat}{E:Nat -> Ψ}
theorem Ym (hL: ∀ a s,CC q c pos a s↔E a s)(h:(∃ a,a<c.ce.length/\ (c.ce.getD a 0).toNat=j/\ E a s)↔D j s):D j s↔LC q c pos j s:=by
 grind [LC]
theorem fP (H:RW q c pos){F:Nat -> Nat -> Bool}(b: ∀ a s,CC q c pos a s↔E a s)(hE: ∀ a s,a<c.ce.length -> s<q.sy.toNat -> tb (AP c pos a) s=true -> (F a s=false↔E a s))(hj:j<pos.length)(l:tb (pos.getD j 0) s=true):OD q c pos F c.ce.length j s↔LC q c pos j s:=by
 refine Ym (E:=E) (D:=OD q c pos F c.ce.length) b ⟨?_,?_⟩
 ·rintro ⟨a,K,rfl,h⟩;have hsk:=H.low (H.W.at K) l
  grind [OD,AP]
 grind [OD]
def pd (W:E9 c q pos)(b: ∀ a s,CC q c pos a s↔E a s)(i:j<pos.length)(l:tb (pos.getD j 0) s=true):(tb (pos.getD j 0) s=true/\ E j s)↔LC q c pos j s:=by
 refine Ym (E:=E) (D:=λj s=>tb (pos.getD j 0) s=true/\ E j s) b ⟨?_,?_⟩
 ·rintro ⟨a,K,rfl,h⟩;rw [W.id a (by rw [←W.len];exact K),u8] at l ⊢;exact ⟨l,h⟩
 ·rintro ⟨_,h⟩;exact ⟨j,by rw [W.len];exact i,by rw [W.id j i,u8],h⟩
theorem zF9 (C:Bj q i pos)(x:BJ pos=false):AZ (λn=>JF n q (con q i) pos) (RK q (con q i) pos):=by
 have H:=C.rw x;have W:=H.W;have Ij:=W.k;have S:=TS (TR C.kind);have G:=C.ce.2.1
 generalize T:con q i=c at*
 have plain: ∀ {f:Nat -> Option Ξ} {D:Nat -> Ψ},AZ f (RL pos D) -> Hh q c pos -> (∀ j s,j<pos.length -> tb (pos.getD j 0) s=true -> (D j s↔LC q c pos j s)) -> AZ (λn=>(f n).bind λv=>some (v,true)) (RK q c pos):=λ{f D} O I J=>by
  obtain ⟨N,L⟩:=O;refine ⟨N,λn w=>?_⟩;obtain ⟨l,t,m⟩:=L n w;refine ⟨(l,true),Z4,λh=>(by cases h),λ_=>I,λ_=>m.1.1,λ_ j s o d=>(m.2 j s).trans (J j s o d)⟩
 have z: ∀ {f:Nat -> W5} {D:Nat -> Ψ} {ok:Prop},AZ f (KR q c pos D ok) -> (ok↔Hh q c pos) -> (∀ j s,j<pos.length -> tb (pos.getD j 0) s=true -> (D j s↔LC q c pos j s)) -> AZ (λn=>(f n).bind λv=>some (v.1,v.2)) (RK q c pos):=λ{f D ok} O I J=>by
  obtain ⟨N,L⟩:=O;refine ⟨N,λn w=>?_⟩
  grind [RK.of]
 rcases S with hk | hk | hk | hk | hk | hk | hk | hk | hk
 ·refine (plain (zGe H) (WR hk Z6 Z6 Z6 Z6) λj s o d=>?_).eq λn=>by grind [JF,LJ]
  refine Ym (E:=Ly c pos) (D:=bA c pos q.sy.toNat) (λa s=>by unfold CC;rw [hk];simp) ⟨?_,?_⟩
  ·rintro ⟨a,K,rfl,h⟩;exact (uT H K d G).2 h
  ·intro h;obtain ⟨a,b,K,M,t,m,u,A⟩:=h;have h:bA c pos q.sy.toNat (c.ce.getD a 0).toNat s:=⟨a,b,K,M,t,m,u,rfl⟩;subst A;exact ⟨a,K,rfl,(uT H K d G).1 h⟩
 ·refine (z (zGl H) ⟨λh=>⟨λ_=>h,λh=>absurd (hk.symm.trans h) Z6,λh=>absurd (hk.symm.trans h) Z6,λh=>absurd (hk.symm.trans h) Z6⟩,λh=>h.1 hk⟩ λj s o d=>?_).eq λn=>by grind [JF,LJ]
  refine Ym (E:=λa s=>IM c pos a s=true) (D:=OC c pos c.ce.length) (λa s=>by unfold CC;rw [hk];simp) ⟨?_,?_⟩
  ·rintro ⟨a,K,rfl,h⟩;refine ⟨a,K,rfl,?_⟩;unfold IM at h;simp only [zJo,zAD,zH2,zFN] at h;rcases h with ⟨⟨t,m⟩,u⟩ | ⟨⟨t,m⟩,u⟩
   ·grind [B6,AP]
   ·exact .inr ⟨t,by simp_all [Cu],d,u⟩
  ·rintro ⟨a,K,e,h⟩;refine ⟨a,K,e,?_⟩;unfold IM;simp only [zJo,zAD,zH2,zFN];rcases h with ⟨t,m,u,A⟩ | ⟨t,m,u,A⟩
   ·grind [B6]
   ·refine .inr ⟨⟨t,?_⟩,A⟩;unfold Cu at m;rw [zJo] at m;refine m.elim (λh=>?_) id;rw [Tb (zH2.1 h) u] at A;cases A
 ·refine (z (zFv H) ⟨λh=>⟨λh=>absurd (hk.symm.trans h) Z6,λ_=>h,λh=>absurd (hk.symm.trans h) Z6,λh=>absurd (hk.symm.trans h) Z6⟩,λh=>h.2.1 hk⟩ λj s o d=>?_).eq λn=>by grind [JF,LJ]
  refine Ym (E:=λa s=>GX q c pos a s=true) (D:=Sk q c pos c.ce.length) (λa s=>by unfold CC;rw [hk];simp) ⟨?_,?_⟩
  ·rintro ⟨a,K,rfl,h⟩;exact ⟨a,K,rfl,H.low (W.at K) d,d,h⟩
  grind [Sk]
 ·refine (plain (bH H (F:=λa s=>decide (RE q c pos a s c.ce.length (-1))) λa s K d=>?_) (WR hk Z6 Z6 Z6 Z6) λj s o d=>fP H (E:=λa s=>Hy q c pos a s=true) (λa s=>by unfold CC;rw [hk];simp) (λa s K _ V=>?_) o d).eq λn=>by grind [JF,LJ]
  ·refine (uA H (a:=a) (s:=s) c.ce.length (zBT _) (-1)).eq λn=>?_
   simp_all [RQ]
  simp_all [zFi]
 ·have R:=C.ru;have y:=C.runs1;rw [T] at R y;have U:=C.set;rw [T] at U;have P:=t6 H R y (a:=c.ce.length) (at_:=-1) (inn:=true) (λi hi=>⟨λh=>absurd h Z2,λh=>absurd h Z2⟩) c.ce.length (zBT _) 0 0 (zJB _) Z2 (zJB _) Z6;rw [Nat.sub_self] at P
  have X:(c.ce.length=0 -> c.ru.length=0) -> Hh q c pos:=λh=>⟨λh=>absurd (hk.symm.trans h) Z6,λh=>absurd (hk.symm.trans h) Z6,λ_=>by
   grind [LD],λh=>absurd (hk.symm.trans h) Z6⟩
  have LK: ∀ a s,CC q c pos a s↔IZ c pos a s:=λa s=>by unfold CC;rw [hk];simp
  refine AZ.eq (g:=λn=>(Ep n c pos 0 0 0 (-1) true).bind λv=>bif (!v) then some (pos,false) else (S7 n q c pos).bind λY=>some (Y,true)) ?_ λn=>by grind [JF,LJ]
  refine AZ.bind P ?_
  by_cases hy:RY c pos c.ce.length true c.ce.length 0 0
  ·rw [zAC hy];have hy:=(sO y).1 hy;refine (plain (bH H (F:=λa s=>decide (RY c pos a (tb c.set s) c.ce.length 0 0)) λa s K d=>?_) (X hy.1) λj s o d=>fP H (E:=IZ c pos) LK (λa s K _ V=>?_) o d).eq λn=>rfl
   ·obtain ⟨s1,s2,s3⟩:=H.sym d;have Z:=t6 H R y (a:=a) (at_:=(a:Int)) (inn:=tb c.set s) (λi hi=>⟨λh=>Z2,λh=>Z2⟩) c.ce.length (zBT _) 0 0 (zJB _) Z2 (zJB _) Z6;rw [Nat.sub_self] at Z
    grind [RQ,Px]
   grind [zEQ,sX]
  ·rw [zAF hy];refine (Ev.now (r:=(pos,false)) λn=>rfl).p ⟨λ_ Q=>hy ((sO y).2 ⟨λh0=>?_,λh0=>?_⟩),λh=>(by cases h),λh=>(by cases h),λh=>(by cases h)⟩
   ·have h:=Q.ok.2.2.1 hk
    grind [LD]
   ·have hc:=W.ce 0 h0;obtain ⟨s,_,t,m⟩:=Q.left (c.ce.getD 0 0).toNat Z2;refine Classical.byContradiction λw=>m ⟨0,h0,rfl,(LK 0 s).2 (sX.2 λhcn=>w ?_)⟩
    cases M:tb c.set s
    ·grind
    grind
 ·have m:=C.two;rw [T] at m;have m:=m (.inl hk);have eo:KG q c=LV q c:=by grind [KG]
  refine (plain (bH H (F:=λa s=>It (QO q c pos a s) q.sy.toNat 0) λa s K d=>?_) (WR hk Z6 Z6 Z6 Z6) λj s o d=>fP H (E:=GF (LV q c) c pos) (λa s=>by unfold CC;rw [hk];simp) (λa s K _ V=>?_) o d).eq λn=>by grind [JF,LJ]
  ·grind [ue,RQ]
  grind [wI]
 ·have m:=C.two;rw [T] at m;have m:=m (.inr hk);have eo:KG q c=KH c:=by grind [KG]
  refine (plain (bH H (F:=λa s=>It (QO q c pos a s) q.sy.toNat 0) λa s K d=>?_) (WR hk Z6 Z6 Z6 Z6) λj s o d=>fP H (E:=GF (KH c) c pos) (λa s=>by unfold CC;rw [hk];simp) (λa s K _ V=>?_) o d).eq λn=>by grind [JF,LJ]
  ·grind [ue,RQ]
  grind [wI]
 ·have B:=C.all;rw [T] at B;have B:=B (.inl hk) x;exact (plain (zGq H B) (WR hk Z6 Z6 Z6 Z6) λj s o d=>pd B (λa s=>by unfold CC;rw [hk];simp) o d).eq λn=>by grind [JF,LJ]
 ·have B:=C.all;rw [T] at B;have B:=B (.inr hk) x;exact (z (zGM H B) ⟨λh=>⟨λh=>absurd (hk.symm.trans h) Z6,λh=>absurd (hk.symm.trans h) Z6,λh=>absurd (hk.symm.trans h) Z6,λ_=>h⟩,λh=>h.2.2.2 hk⟩ λj s o d=>pd B (λa s=>by unfold CC;rw [hk];simp) o d).eq λn=>by grind [JF,LJ]
end
end
section
variable {q:AA} {i:Int} {pos x:Ξ}
def zGC (C:Bj q i pos)(v:BJ pos=false){y:Ξ×Bool}(hy:RK q (con q i) pos y){n:Nat}(u:520<=n):
 ∃ x,(bif (!y.2) then some (List.replicate pos.length (0:Int)) else N8 q (con q i) pos n (.l1 y.1 0 0 ([]:Ξ)))=some x/\ PR q (con q i) pos x:=by
 have h256:=C.len256;have L:Av=1000000000000:=rfl;obtain ⟨lost,b⟩:=y;cases b
 ·exact ⟨_,rfl,Jm,λE=>absurd E (hy.no rfl),λ_=>rfl⟩
 have r:Hh q (con q i) pos:=hy.ok rfl;have Ag:lost.length=pos.length:=hy.len rfl;have F: ∀ j s,j<pos.length -> tb (pos.getD j 0) s=true -> (tb (lost.getD j 0) s=true↔LC q (con q i) pos j s):=hy.lost rfl;rw [show (!true)=false from rfl,zAz]
 have key: ∀ (k j n:Nat) (o:Ξ),j+k=pos.length -> k+258<=n -> o.length=j -> (∀ a,a<j -> o.getD a 0=bits .andNot .i64 (pos.getD a 0) (lost.getD a 0)) -> ∃ x:Ξ,(x.length=pos.length/\ ∀ a,a<pos.length -> x.getD a 0=bits .andNot .i64 (pos.getD a 0) (lost.getD a 0))/\ N8 q (con q i) pos n (.l1 lost o.length (j:Int) o)=some (if BJ x then List.replicate pos.length 0 else x):=by
  intro k
  induction k with
  | zero=>
   intro j n o e u t p;obtain ⟨n,rfl⟩: ∃ k,n=k+1:=⟨n-1,Z2⟩;refine ⟨o,⟨Z2,λa K=>p a Z2⟩,?_⟩
   show Vy n (N8 q (con q i) pos n) q (con q i) pos lost o.length (j:Int) o=_
   unfold Vy;rw [zAF Z2,zAz,zAE rfl,MU Z2 Z2,zAB];cases BJ o <;> rfl
  | succ k w=>
   intro j n o e u t p;obtain ⟨n,rfl⟩: ∃ k,n=k+1:=⟨n-1,Z2⟩;have l:=PY (S:=lost.getD j 0) (C.sm j Z2) (zA4 C.work.k Z6)
   obtain ⟨x,g,m⟩:=w (j+1) n (o++[bits .andNot .i64 (pos.getD j 0) (lost.getD j 0)]) Z2 Z2 Z7 λa K=>by
    by_cases z:a=j
    ·subst z;rw [zBS,zJx Z2,show a-o.length=0 by omega];rfl
    ·rw [zBS,zLT Z2,←zBS];exact p a Z2
   rw [zKH] at m;refine ⟨x,g,Eq.trans ?_ m⟩
   show Vy n (N8 q (con q i) pos n) q (con q i) pos lost o.length (j:Int) o=_
   unfold Vy;rw [zAC Z2,zAG,u8,l,zAE ⟨⟨Z2,Z2⟩,⟨Z2,Z2⟩,Aa.2 (Dh _ _ _),⟨⟨rfl,rfl⟩,⟨rfl,rfl⟩,by show o.length+1<=_;omega⟩,Aa.2 ⟨Z2,Z2⟩⟩];rfl
 obtain ⟨x,⟨g,m⟩,B⟩:=key pos.length 0 n [] Z2 Z2 rfl λa K=>absurd K (zA6 a)
 have d: ∀ j,j<pos.length -> Bt (x.getD j 0)/\ ∀ s,tb (x.getD j 0) s=true↔tb (pos.getD j 0) s=true/\ ¬ LC q (con q i) pos j s:=λj c=>by
  rw [m j c];refine ⟨Dh _ _ _,λs=>?_⟩;rw [HN,zAD,zFN,←zMA];exact ⟨λ⟨A,f⟩=>⟨A,λh=>f ((F j s c A).2 h)⟩,λ⟨A,f⟩=>⟨A,λh=>f ((F j s c A).1 h)⟩⟩
 have D:=Fh.1 v;refine ⟨_,B,?_,λE j c=>?_,λE=>?_⟩
 ·split
  ·exact Jm
  ·exact g
 ·rw [zEO]
  ·exact d j c
  ·rw [zMA,Fh];intro j c;rw [g] at c;obtain ⟨s,l,A,f⟩:=E.left j c;exact (GC (d j c).1).2 ⟨s,l,((d j c).2 s).2 ⟨A,f⟩⟩
 ·rw [zAE];refine Classical.byContradiction λh=>E ?_
  rw [zMA,Fh] at h;refine ⟨D,r,λj c=>?_⟩;obtain ⟨s,l,A⟩:=(GC (d j c).1).1 (h j Z2);exact ⟨s,l,((d j c).2 s).1 A⟩
def zGE (C:Bj q i pos): ∃ x,Ev (λn=>MN n q (con q i) pos) x/\ PR q (con q i) pos x:=by
 have h256:=C.len256;cases v:BJ pos
 ·suffices H:AZ (λn=>MN n q (con q i) pos) (PR q (con q i) pos) by
   obtain ⟨x,a,c⟩:=H.ev PR.uniq;exact ⟨x,c,a⟩
  obtain ⟨N,W⟩:=AZ.bindU (zF9 C v) (b:=λn d=>bif (!d.2) then some (List.replicate pos.length (0:Int)) else N8 q (con q i) pos n (.l1 d.1 0 0 ([]:Ξ))) (Q:=PR q (con q i) pos) ⟨520,λn u d hy=>zGC C v hy u⟩;refine ⟨N+300,λn u=>?_⟩;obtain ⟨x,a,c⟩:=W n Z2;refine ⟨x,Eq.trans ?_ a,c⟩
  show MN n q (con q i) pos=_
  unfold MN jL;rw [zAE ⟨Jm.symm,rfl,Z2,Z2⟩,MU Z2 Z2,v,zAB,zAz]
 ·refine ⟨List.replicate pos.length 0,⟨300,λn u=>?_⟩,Jm,λE=>?_,λ_=>rfl⟩
  ·show MN n q (con q i) pos=_
   unfold MN jL;rw [zAE ⟨Jm.symm,rfl,Z2,Z2⟩,MU Z2 Z2,v,zAB,zAG]
  ·have:=Fh.2 E.nz;rw [v] at this;cases this
end
section
set_option maxRecDepth 100000
set_option maxHeartbeats 40000000
def py (n:Nat)(g:AC)(level:Int):W9:= bif (g.kind==4) then some (decide (2<=level)) else bif (g.kind==3) then some (decide (2<=level)) else bif (g.kind==5) then some (decide (3<=level)) else bif (g.kind==8) then some (decide (4<=level)) else bif (g.kind==9) then some (decide (4<=level)) else some (decide (1<=level))
def ZF (n:Nat)(g:AC)(level:Int):W9:=py n g level
variable {r:Bool}{level:Int}{n:Nat}
def zBd {g:AC}(h:ZF n g level=some r):EQ 117 [.agg 9 (L1 (AX g)),.i level] [] (.bool r) [] true:=by
 refine ot Tryz.func117 λB N=>?_
 revert r;apply gO;exact bi 9 (lE AD [4] []) (bi 10 (lE AD [4] []) (bi 12 (lE AD [4] []) (bi 14 (lE AD [4] []) (bi 15 (lE AD [4] []) (lE AD [4] [])))))
def zDJ:Ae (A0 Tryz.f119 6) [] (List.range 9) []:=Z0
def VP:BF:=λi=>match i with
 | 6=>.ord [] (List.range 9) []
 | _=>.no
inductive Zo where
 | l1 (x5:Int)
def VX (n:Nat)(self:Zo -> W9)(a b:Ξ)(l:Int):W9:= bif (decide (l<(a.length:Int))) then if (0<=l/\ l<(a.length:Int))/\ (0<=l/\ l<(b.length:Int)) then bif ((a.getD l.toNat 0) != (b.getD l.toNat 0)) then some false else if AG (l+1) then self (.l1 (l+1)) else none else none else some true
def sH (n:Nat)(self:Zo -> W9)(a b:Ξ):W9:= bif ((a.length:Int) != (b.length:Int)) then some false else self (.l1 0)
def SV (a b:Ξ):Nat -> Zo -> W9
 | 0,_=>none
 | n+1,.l1 l=>VX n (SV a b n) a b l
def VY (n:Nat)(a b:Ξ):W9:=sH n (SV a b n) a b
def zC3 (n B:Nat)(N:Yd 0)(a b:Ξ)(r:Bool):Zo -> Prop:=px n B Fence.wide N (FQ Tryz.f119 0 (.bool r) []) (Ac Tryz.f119) λ
 | .l1 l=>(0,0,AH 26 [(0,.ints a),(1,.ints b),(5,.i l)],[])
def zC4 (B:Nat)(N:Yd 0)(a b:Ξ):Al (SV a b) (zC3 · B N a b):=ia (λ_=>rfl) λn w c r h=>by
 cases c
 case l1 x5=>
  intro m k;refine rd k λm k=>?_
  revert r;apply gO;exact bi 14 (jg zDJ (gc (gi (gi (bi 25 (lE VP [4] []) (gw 16 (lG VP [] (w _ _ · m k)))))))) (lE VP [4] [])
def zC1 {a b:Ξ}(h:VY n a b=some r):EQ 119 [.ints a,.ints b] [] (.bool r) [] true:=by
 refine ot Tryz.func119 λB N=>?_
 revert r;apply gO;exact bi 10 (lE VP [4] []) (lN VP [] ((zC4 B N a b n) _ _ · n Nat.le.refl))
def zEB:Ae (A0 Tryz.f102 5) [([0,1,2,3,4,5,6],7)] [8] []:=Z0
def VV:BF:=λi=>match i with
 | 5=>.ord [([0,1,2,3,4,5,6],7)] [8] []
 | _=>.no
inductive eI where
 | l1 (x8:Int)
def Q7 (n:Nat)(self:eI -> W7)(q:AA)(pos:Ξ)(level:Int)(x8:Int):W7:= bif (decide (x8<(q.cons.length:Int))) then if 0<=x8/\ x8<(q.cons.length:Int) then (ZF n (q.cons.getD x8.toNat default) level).bind λe=> bif (!e) then if AG (x8+1) then self (.l1 (x8+1)) else none else (MN n q (q.cons.getD x8.toNat default) pos).bind λx=> (VY n x pos).bind λy3=> bif (!y3) then some (x8,x) else if AG (x8+1) then self (.l1 (x8+1)) else none else none else some ((-1),pos)
def zM3 (n:Nat)(self:eI -> W7)(q:AA)(pos:Ξ)(level:Int):W7:= self (.l1 0)
def Jc (q:AA)(pos:Ξ)(level:Int):Nat -> eI -> W7
 | 0,_=>none
 | n+1,.l1 x8=>Q7 n (Jc q pos level n) q pos level x8
def eJ (n:Nat)(q:AA)(pos:Ξ)(level:Int):W7:=zM3 n (Jc q pos level n) q pos level
def zM4 (n B:Nat)(N:Yd 0)(q:AA)(pos:Ξ)(level:Int)(r:Int×Ξ):eI -> Prop:=px n B Fence.wide N (FQ Tryz.f102 0 (.tup 2 (L1 [.i r.1,.ints r.2])) []) (Ac Tryz.f102) λ
 | .l1 x8=>(0,0,AH 40 [(1,.ints pos),(2,.i level),(3,.ref 0 0),(8,.i x8)],[oC (AE q)])
def zM5 (B:Nat)(N:Yd 0)(q:AA)(pos:Ξ)(level:Int):Al (Jc q pos level) (zM4 · B N q pos level):=ia (λ_=>rfl) λn w a r h=>by
 cases a
 case l1 x8=>
  intro m k;refine rd k λm k=>?_
  revert r;apply gO;exact bi 14 (gn λW=>jg W (cf zBd [oC (AE q)] λ_=>bi 24 (gw 16 (lG VV [0] (w _ _ · m k))) (jg zEB (jg W (cf zGD [oC (AE q)] λ_=>cf zC1 [oC (AE q)] λ_=>bi 36 (lE VV [6,7] []) (gw 16 (lG VV [0] (w _ _ · m k)))))))) (lE VV [6,7] [])
variable {pos:Ξ}{q:AA}
def zM2 {r:Int×Ξ}(h:eJ n q pos level=some r):EQ 102 [.agg 5 (L1 (AE q)),.ints pos,.i level] [] (.tup 2 (L1 [.i r.1,.ints r.2])) [] true:=by
 refine ot Tryz.func102 λB N=>?_
 revert r;apply gO;exact lN VV [0] ((zM5 B N q pos level n) _ _ · n Nat.le.refl)
inductive aD where
 | l1 (x1:Ξ) (x8:Nat) (o1:Ξ)
def Vd (n:Nat)(self:aD -> W8)(q:AA)(pos:Ξ)(level:Int)(J:Ξ)(x8:Nat)(o1:Ξ):W8:= (eJ n q J level).bind λe=> bif (decide (e.1<0)) then if x8=o1.length then some (J,o1) else none else if (0=0/\ 1=([e.1]:Ξ).length)/\ (0=0/\ x8=o1.length)/\ o1.length+([e.1]:Ξ).length<=Av then self (.l1 e.2 (o1.length+([e.1]:Ξ).length) (o1++([e.1]:Ξ))) else none
def zEw (n:Nat)(self:aD -> W8)(q:AA)(pos:Ξ)(level:Int):W8:= (LN n pos).bind λe=> bif e then if ((pos.length:Int):Int)=(pos.length:Int)/\ 0<=(pos.length:Int)/\ ((pos.length:Int):Int)<=1000000000000 then if pos.length=(List.replicate pos.length (0:Int)).length then some (List.replicate pos.length (0:Int),([]:Ξ)) else none else none else self (.l1 pos 0 ([]:Ξ))
def Np (q:AA)(pos:Ξ)(level:Int):Nat -> aD -> W8
 | 0,_=>none
 | n+1,.l1 J x8 o1=>Vd n (Np q pos level n) q pos level J x8 o1
def aE (n:Nat)(q:AA)(pos:Ξ)(level:Int):W8:=zEw n (Np q pos level n) q pos level
def zEy (n B:Nat)(N:Yd 0)(q:AA)(pos:Ξ)(level:Int)(r:Ξ×Ξ):aD -> Prop:=px n B Fence.wide N (FQ Tryz.f89 0 (.tup 2 (L1 [.ints r.1,.ints r.2])) []) (Ac Tryz.f89) λ
 | .l1 J x8 o1=>(0,0,AH 34 [(1,.ints J),(2,.i level),(3,.ref 0 0),(8,.msl 1 1 0 x8)],[oC (AE q),oI o1])
def zEz (B:Nat)(N:Yd 0)(q:AA)(pos:Ξ)(level:Int):Al (Np q pos level) (zEy · B N q pos level):=ia (λ_=>rfl) λn w a r h=>by
 cases a
 case l1 x1 x8 o1=>
  intro m k;refine rd k λm k=>?_
  revert r;apply gO;exact cf zM2 [oC (AE q),oI o1] λ_=>bi 26 (gn λW=>lF λp=>ez AD [6,7] [1] p [0] (H0.g W)) (gi (lG AD [0,3] (w _ _ · m k)))
def s6 {r:Ξ×Ξ}(h:aE n q pos level=some r):EQ 89 [.agg 5 (L1 (AE q)),.ints pos,.i level] [] (.tup 2 (L1 [.ints r.1,.ints r.2])) [] true:=by
 refine ot Tryz.func89 λB N=>?_
 revert r;apply gO;exact cf S5 [oC (AE q),oI ([]:Ξ)] λ_=>bi 13 (gi (gn λa=>lF λp=>ez AD [6,7] [2,1] p [0,1] (H0.g a |>.g (by decide:0=([]:Ξ).length)))) (lN AD [0,1] ((zEz B N q pos level n) _ _ · n Nat.le.refl))
def tW (n:Nat)(q:AA)(pos:Ξ)(level:Int):Option Ξ:= (aE n q pos level).bind λe=> some e.1
def aS (n:Nat)(q:AA)(pos:Ξ)(level:Int):Option Ξ:=tW n q pos level
def zFX {r:Ξ}(h:aS n q pos level=some r):EQ 90 [.agg 5 (L1 (AE q)),.ints pos,.i level] [] (.ints r) [] true:=by
 unfold aS tW at h;refine ot Tryz.func90 λB N=>?_
 revert r;apply gO;exact cf s6 [oC (AE q)] λ_=>lE AD [6] []
def zAj (n:Nat)(q:AA)(pos:Ξ)(level:Int):W6:= (HV n q pos).bind λe=> bif (e != 0) then some (([]:Ξ),e) else (aS n q pos level).bind λx=> some (x,0)
def Uf (n:Nat)(q:AA)(pos:Ξ)(level:Int):W6:=zAj n q pos level
def zPO {r:Ξ×Int}(h:Uf n q pos level=some r):EQ 59 [.agg 5 (L1 (AE q)),.ints pos,.i level] [] (.tup 2 (L1 [.ints r.1,.i r.2])) [] true:=by
 unfold Uf zAj at h;refine ot Tryz.func59 λB N=>?_
 revert r;apply gO;exact cf Sd [oC (AE q)] λe=>bi 13 (lF λp=>el AD [6,7] [] p [] H0 [.nils,.i e] (AM.tupL (l:=[.nils,.i e]) (l':=[.ints ([]:Ξ),.i e]) rfl ⟨AM.ints_nil,Ar,trivial⟩)) (cf zFX [oC (AE q)] λ_=>lE AD [6,7] [])
def vd (n:Nat)(q:AA)(pos:Ξ)(level:Int):W6:= (HV n q pos).bind λe=> bif (e != 0) then some (([]:Ξ),e) else (aE n q pos level).bind λx=> some (x.2,0)
def QC (n:Nat)(q:AA)(pos:Ξ)(level:Int):W6:=vd n q pos level
def zHm {r:Ξ×Int}(h:QC n q pos level=some r):EQ 58 [.agg 5 (L1 (AE q)),.ints pos,.i level] [] (.tup 2 (L1 [.ints r.1,.i r.2])) [] true:=by
 unfold QC vd at h;refine ot Tryz.func58 λB N=>?_
 revert r;apply gO;exact cf Sd [oC (AE q)] λe=>bi 15 (lF λp=>el AD [6,7] [] p [] H0 [.nils,.i e] (AM.tupL (l:=[.nils,.i e]) (l':=[.ints ([]:Ξ),.i e]) rfl ⟨AM.ints_nil,Ar,trivial⟩)) (cf s6 [oC (AE q)] λ_=>lE AD [6,7] [])
end
section
variable {n:Nat}
theorem zC2 {a b:Ξ}(hl:a.length<=LB)(u:a.length<n):VY n a b=some (decide (a=b)):=by
 have hb:LB<=9223372036854775806:=Z6
 unfold VY sH
 by_cases G:a.length=b.length
 ·have e:((a.length:Int) != (b.length:Int))=false:=by rw [G];simp
  rw [e,zAz]
  have key: ∀ (k i n:Nat),i+k=a.length -> k+1<=n -> SV a b n (.l1 (i:Int))=some (decide (a.drop i=b.drop i)):=by
   intro k
   induction k with
   | zero=>
    intro i n e u;obtain ⟨n,rfl⟩: ∃ k,n=k+1:=⟨n-1,Z2⟩
    show VX n (SV a b n) a b (i:Int)=_
    unfold VX;rw [zAF Z2,zAz,zMW Z2,zMW Z2];rfl
   | succ k c=>
    intro i n e u;obtain ⟨n,rfl⟩: ∃ k,n=k+1:=⟨n-1,Z2⟩;have hi:i<a.length:=Z2
    have U:i<b.length:=Z2
    have d: ∀ {l:Ξ},i<l.length -> l.drop i=l.getD i 0::l.drop (i+1):=λ{l} h=>by
     rw [zI1 h,zBS,zKF h];rfl
    have:=c (i+1) n Z2 Z2
    show VX n (SV a b n) a b (i:Int)=_
    unfold VX;rw [zAC Z2,zAG,zAE ⟨⟨Z2,Z2⟩,Z2,Z2⟩,u8,zAE (Aa.2 ⟨Z2,Z2⟩),d hi,d U]
    by_cases h:a.getD i 0=b.getD i 0
    ·have:(a.getD i 0 != b.getD i 0)=false:=by rw [h];simp
     rw [this,zAz];refine Eq.trans (by assumption) ?_;rw [h];simp
    ·have:(a.getD i 0 != b.getD i 0)=true:=by simpa using h
     rw [this,zAG,zAF λe=>h (List.cons.inj e).1]
  exact key a.length 0 n Z2 Z2
 ·have e:((a.length:Int) != (b.length:Int))=true:=Z7
  rw [e,zAG,zAF λh=>G (by rw [h])]
def gY {c:AC}{level:Int}:ZF n c level=some (decide (KL c.kind<=level)):=by
 unfold ZF py KL
 by_cases A:c.kind=4
 ·rw [zAE (.inr A)];simp [A]
 by_cases h:c.kind=3
 ·rw [zAE (.inl h)];simp [h]
 rw [zEO Z2]
 by_cases a:c.kind=5
 ·rw [zAE a];simp [a]
 rw [zEO a]
 by_cases l:c.kind=8
 ·rw [zAE (.inl l)];simp [l]
 by_cases S:c.kind=9
 ·rw [zAE (.inr S)];simp [S]
 rw [zEO Z2];have C:(c.kind==4)=false:=by simpa using A
 have b:(c.kind==3)=false:=by simpa using h
 have k:(c.kind==5)=false:=by simpa using a
 have I:(c.kind==8)=false:=by simpa using l
 have d:(c.kind==9)=false:=by simpa using S
 rw [C,b,k,I,d];rfl
section
variable {q:AA} {pos:Ξ}
def Nq (S:Cm q)(o:pos.length<=LB):Ev (λn=>HV n q pos) (CB q pos):=⟨EU q+pos.length+1,λn hn=>zE1 S Z2 o Z2⟩
def UU {e:Int}(h:e≠0):(e != 0)=true:=by simpa using h
end
end
section
variable {q:AA} {level i:Int} {pos p x cells:Ξ}
theorem yo (f:A4 q p): ∀ (k a:Nat),a+k=q.cons.length -> (∀ Q,Up q level Q -> Q<(a:Int) -> PR q (con q Q) p p) ->
 (Ev (λn=>Jc q p level n (.l1 (a:Int))) (-1,p)/\ Iw q (Up q level) p)∨
 ∃ (b:Nat) (x:Ξ),Ev (λn=>Jc q p level n (.l1 (a:Int))) ((b:Int),x)/\ Up q level (b:Int)/\ PR q (con q (b:Int)) p x/\ x≠p/\ ∀ Q,Up q level Q -> Q<(b:Int) -> PR q (con q Q) p p
 | 0,a,e,h=>by
  refine .inl ⟨Ev.one λn=>?_,λi hi=>h i hi (by have:=hi.2.1;omega)⟩
  simp_all [Q7,Jc]
 | k+1,a,e,h=>by
  have hK:=(Dl f.valid).2.2.2.2.1;have A:decide ((a:Int)<(q.cons.length:Int))=true:=zAC Z2;have s:AG ((a:Int)+1):=Aa.2 ⟨Z2,Z2⟩;have t:((a+1:Nat):Int)=(a:Int)+1:=Z2
  have T:q.cons.getD a default=con q (a:Int):=rfl
  have l:AV (Jc q p level) (.l1 (a:Int)) (.l1 ((a+1:Nat):Int)) -> (Up q level (a:Int) -> PR q (con q (a:Int)) p p) ->
   (Ev (λn=>Jc q p level n (.l1 (a:Int))) (-1,p)/\ Iw q (Up q level) p)∨∃ (b:Nat) (x:Ξ),Ev (λn=>Jc q p level n (.l1 (a:Int))) ((b:Int),x)/\ Up q level (b:Int)/\ PR q (con q (b:Int)) p x/\ x≠p/\ ∀ Q,Up q level Q -> Q<(b:Int) -> PR q (con q Q) p p:=λst hq=>by
   rcases yo f k (a+1) Z2 (λQ Bq hlt'=>by
    grind) with ⟨j,r⟩ | ⟨b,y,j,r⟩
   ·exact .inl ⟨st.ev j,r⟩
   ·exact .inr ⟨b,y,st.ev j,r⟩
  by_cases o:KL (con q (a:Int)).kind<=level
  ·have S:Up q level (a:Int):=⟨Z2,Z2,o⟩;obtain ⟨x,⟨N,c⟩,d⟩:=zGE (f.ctx S.1 S.2.1);have c: ∀ n,N<=n -> MN n q (con q (a:Int)) p=some x:=c;have hxl:x.length=p.length:=d.len;have h256:=f.len256;have m: ∀ n,300<=n -> VY n x p=some (decide (x=p)):=λn u=>zC2 (by grind [LB]) Z2
   by_cases g:x=p
   ·refine l (AV.oneN (max N 300) λn u=>?_) (λ_=>by rw [g] at d;exact d)
    show Q7 n (Jc q p level n) q p level (a:Int)=_
    unfold Q7;rw [A,zAG,zAE ⟨Z2,Z2⟩,u8,T,gY,zAB,zAC o,zLa,zAz,c n Z2,zAB,m n Z2,zAB,zAC g,zLa,zAz,zAE s,t]
   ·refine .inr ⟨a,x,Ev.oneN (max N 300) λn u=>?_,S,d,g,h⟩
    show Q7 n (Jc q p level n) q p level (a:Int)=_
    unfold Q7;rw [A,zAG,zAE ⟨Z2,Z2⟩,u8,T,gY,zAB,zAC o,zLa,zAz,c n Z2,zAB,m n Z2,zAB,zAF g,zLd,zAG]
  ·refine l (AV.one λn=>?_) (λS=>absurd S.2.2 o)
   simp_all [Q7,Jc,gY,zAF]
theorem s5 {M:Nat}{p acc:Ξ}(d: ∀ {p' acc':Ξ},wt p'<M -> A4 q p' -> acc'.length+wt p'<=20000 -> ∃ l g,Ev (λn=>Np q pos level n (.l1 p' acc'.length acc')) (g,acc'++l)/\ GU q level p' l g) 
 (hM:wt p<=M) (f:A4 q p) (hb:acc.length+wt p<=20000): ∃ l g,Ev (λn=>Np q pos level n (.l1 p acc.length acc)) (g,acc++l)/\ GU q level p l g:=by
 rcases yo (level:=level) f q.cons.length 0 Z2 (λi' e Ab=>absurd e.1 Z2) with ⟨⟨N,a⟩,r⟩ | ⟨b,x,⟨N,a⟩,r,R,U,D⟩
 ·have a: ∀ n,N<=n -> eJ n q p level=some (-1,p):=a;refine ⟨[],p,?_,.done r⟩;rw [zMU];refine Ev.oneN N λn u=>?_
  show Vd n (Np q pos level n) q pos level p acc.length acc=_
  unfold Vd
  grind
 ·have a: ∀ n,N<=n -> eJ n q p level=some ((b:Int),x):=a;have y:=f.pr r.1 r.2.1 R;have hw:=Rm y f R.le U;obtain ⟨l,g,c,h⟩:=d (p':=x) (acc':=acc++[(b:Int)]) Z2 y Z4;rw [List.append_assoc,List.singleton_append] at c;refine ⟨(b:Int)::l,g,AV.ev (AV.oneN N λn u=>?_) c,.step r R U D h⟩
  show Vd n (Np q pos level n) q pos level p acc.length acc=_
  unfold Vd;rw [a n u,zAB];rw [zAF Z2,zAz,zAE ⟨⟨rfl,rfl⟩,⟨rfl,rfl⟩,by grind [Av]⟩,zKH]
def zEx: ∀ (M:Nat) {p acc:Ξ},wt p<=M -> A4 q p -> acc.length+wt p<=20000 -> ∃ l g,Ev (λn=>Np q pos level n (.l1 p acc.length acc)) (g,acc++l)/\ GU q level p l g:=by
 intro M
 induction M with
 | zero=>exact λ{p acc} Y f c=>s5 (λ{p' acc'} h=>absurd h Z2) Y f c
 | succ M b=>exact λ{p acc} Y f c=>s5 (λ{p' acc'} h L x=>b Z2 L x) Y f c
def pE (q:AA)(pos:Ξ)(level:Int)(r:Ξ×Ξ):Prop:=(BJ pos=true/\ r=(List.replicate pos.length 0,[]))∨(BJ pos=false/\ GU q level pos r.2 r.1)
theorem s7 (f:A4 q pos): ∃ r,Ev (λn=>aE n q pos level) r/\ pE q pos level r:=by
 have Z:=f.len256;have k:Ev (λn=>LN n pos) (BJ pos):=⟨300,λn hn=>MU Z.2 Z2⟩;cases v:BJ pos with
 | true=>
  rw [v] at k;refine ⟨_,Ev.bind k (Ev.now λn=>?_),.inl ⟨v,rfl⟩⟩
  grind
 | false=>
  rw [v] at k;obtain ⟨l,g,p,a⟩:=zEx (q:=q) (level:=level) (pos:=pos) (wt pos) (acc:=[]) (zBT _) f (by have:=Yu f;simp;omega);exact ⟨(g,l),Ev.bind k p,.inr ⟨v,a⟩⟩
theorem pE.fin {r:Ξ×Ξ}(h:pE q pos level r):Fa q level pos r.1:=by
 rcases h with ⟨a,b⟩ | ⟨a,b⟩
 ·grind [Fa]
 ·exact .inr ⟨a,b.down⟩
def zFW (f:A4 q pos): ∃ g,Ev (λn=>aS n q pos level) g/\ Fa q level pos g:=by
 obtain ⟨r,a,b⟩:=s7 (level:=level) f;exact ⟨r.1,Ev.bind a (Ev.now λn=>rfl),b.fin⟩
theorem zPQ (S:Cm q)(o:pos.length<=LB): ∃ r,Ev (λn=>Uf n q pos level) r/\ pJ q pos [] level r:=by
 have a:=Nq S o
 by_cases h0:CB q pos=0
 ·rw [h0] at a;obtain ⟨g,p,b⟩:=zFW (level:=level) (A4.of S h0);exact ⟨(g,0),Ev.bind a (Ev.bind p (Ev.now λn=>rfl)),.inr (.inr ⟨h0,rfl,rfl,b⟩)⟩
 ·refine ⟨([],CB q pos),Ev.bind a (Ev.now λn=>?_),.inl ⟨h0,rfl⟩⟩
  grind
theorem zHo (S:Cm q)(o:pos.length<=LB): ∃ r,Ev (λn=>QC n q pos level) r/\ Hu q pos level r:=by
 have a:=Nq S o
 by_cases h0:CB q pos=0
 ·rw [h0] at a;have f:=A4.of S h0;obtain ⟨r,p,b⟩:=s7 (level:=level) f;refine ⟨(r.2,0),Ev.bind a (Ev.bind p (Ev.now λn=>rfl)),?_⟩;rcases b with ⟨B,F⟩ | ⟨B,F⟩
  ·grind [Hu]
  ·exact .inr (.inr ⟨h0,B,rfl,by have:=F.len f;grind [Yu],r.1,F⟩)
 ·refine ⟨([],CB q pos),Ev.bind a (Ev.now λn=>?_),.inl ⟨h0,rfl⟩⟩
  grind
end
section
variable {q:AA} {i:Int} {g:Ξ} {c:AC}
end
section
variable {q:AA} {i:Int} {g:Ξ} {c:AC}
end
section
variable {q:AA} {i:Int} {g:Ξ}
end
section
set_option maxRecDepth 100000
set_option maxHeartbeats 40000000
inductive Zb where
 | l1 (x3 x4:Int)
def Za (n:Nat)(self:Zb -> Option Int)(s:Int)(D I:Int):Option Int:= bif (decide (I<64)) then if (0<=IntKind.u64.wrap I/\ IntKind.u64.wrap I<=(IntKind.u64.bits:Int))/\ AG (D+(IntKind.i64.wrap (bits .and .u64 ((IntKind.u64.wrap s)/2 ^ (IntKind.u64.wrap I).toNat) 1)))/\ AG (I+1) then self (.l1 (D+(IntKind.i64.wrap (bits .and .u64 ((IntKind.u64.wrap s)/2 ^ (IntKind.u64.wrap I).toNat) 1))) (I+1)) else none else some D
def zCd (n:Nat)(self:Zb -> Option Int)(A6:Int):Option Int:= self (.l1 0 0)
def SM (s:Int):Nat -> Zb -> Option Int
 | 0,_=>none
 | n+1,.l1 D I=>Za n (SM s n) s D I
def SN (n:Nat)(s:Int):Option Int:=zCd n (SM s n) s
def zCe (n B:Nat)(N:Yd 0)(s:Int)(r:Int):Zb -> Prop:=px n B Fence.wide N (FQ Tryz.f31 0 (.i r) []) (Ac Tryz.f31) λ
 | .l1 D I=>(0,0,AH 19 [(0,.i s),(3,.i D),(4,.i I)],[])
def zCf (B:Nat)(N:Yd 0)(s:Int):Al (SM s) (zCe · B N s):=ia (λ_=>rfl) λn w a r h=>by
 cases a
 case l1 x3 x4=>
  intro m k;refine rd k λm k=>?_
  revert r;apply gO;exact bi 6 (gc (gi (gc (gw 17 (gw 8 (lG AD [] (w _ _ · m k))))))) (lE AD [2] [])
def rX {n:Nat}{s:Int}{r:Int}(h:SN n s=some r):EQ 31 [.i s] [] (.i r) [] true:=by
 refine ot Tryz.func31 λB N=>?_
 revert r;apply gO;exact lN AD [] ((zCf B N s n) _ _ · n Nat.le.refl)
end
section
variable {q:AA} {c:AC} {g:Ξ}
end
section
variable {g:List Ξ} {inn:Ω}
end
section
open Classical
section
variable {q:AA} {c:AC} {Et:Ξ} {g:List Ξ} {inn:Ω} {s:Int}
end
end
section
open Classical
section
variable {q:AA} {c:AC} {Et:Ξ} {g:List Ξ} {inn met:Ω} {s:Int} {l:Ξ}
end
end
section
variable {q:AA} {c:AC} {g:Ξ} {i:Int} {inn:Ω}
end
end Go.Proofs.YtodinaconebmdaaGreatDoor
